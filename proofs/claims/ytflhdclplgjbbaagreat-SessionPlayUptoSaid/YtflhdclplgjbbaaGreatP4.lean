import Derived.Test.YtflhdclplgjbbaaGreatP3
import Derived.Test.YtflhdclplgjbbaaGreatP2
import Derived.Test.YtflhdclplgjbbaaGreatP1
import Derived.Deep.Slices
import Derived.SizedLaws
set_option linter.unusedVariables false
set_option linter.unusedSimpArgs false
set_option linter.unusedSectionVars false
set_option maxRecDepth 100000
namespace Go.Proofs
open Go Go.Sx
open aq
def pk(p:Nat×Nat):zV:=.agg #[u32 p.1,u32 p.2]
theorem Qz(a b:Nat×Nat):Bv zQ 337 (pk a) (pk b) (decide (a=b)):=by
 refine Bv.flat (fs:=#[⟨"f",78,0,false, "", "thicket/quant",0⟩,⟨"g",78,1,false, "", "thicket/quant",4⟩]) zK zK ?_ ?_
 ·intro f hf;simp only[xaj,xaR,xbl]at hf;rcases hf with rfl|rfl
  ·exact⟨by decide,_,_,rfl,rfl,.inl ⟨.u32,_,_,by kernel_rfl,rfl,rfl⟩⟩
  exact⟨by decide,_,_,rfl,rfl,.inl ⟨.u32,_,_,by kernel_rfl,rfl,rfl⟩⟩
 obtain⟨a1,a2⟩:=a;obtain⟨b1,b2⟩:=b;simp[u32];omega
theorem Fb(a:Nat×Nat):mz zQ 337 (pk a):=by
 refine mz.flat (fs:=#[⟨"f",78,0,false, "", "thicket/quant",0⟩,⟨"g",78,1,false, "", "thicket/quant",4⟩]) zK ?_;intro f hf;simp only[xaj,xaR,xbl]at hf;rcases hf with rfl|rfl
 ·exact⟨by decide,_,rfl,.inl ⟨.u32,_,_,by kernel_rfl,rfl,rfl⟩⟩
 exact⟨by decide,_,rfl,.inl ⟨.u32,_,_,by kernel_rfl,rfl,rfl⟩⟩
theorem Va(a:Nat×Nat):Instr.sameBits 10000 (pk a) (pk a)=true:=kV 9998 (by intro x hx;simp[u32]at hx;rcases hx with rfl|rfl<;>exact .inl ⟨_,_,rfl⟩)
def Gk(b3 b5 b1 s7 lp:Nat):zV:=.func (.func 264) #[] #[ptr b3,ptr b5,ptr b1,ptr s7,ptr lp]
def JKn(K0:Kd)(F:Nat×Nat->aq.Fn)(S:Nat->aq.Fn)(made:zL)(ok:Bool)(es:Array MapEntry)(ck:Nat):Prop:=
 ∃m:List ((Nat×Nat)×Nat),aE pk O7 es ck m/\(ok=true->∀y∈m,S y.2=F y.1/\(live K0.N y.2\/y.2∈made))
abbrev Xz(e:Bool)(b3 b5 b1 s7 lp bj bq kp bm:Nat)(ok:Bool)(xF:Array MapEntry)(xG:Nat)(es:Array MapEntry)(ck:Nat)(C:Hp):Hp:=
 (lp,.cells #[Gk b3 b5 b1 s7 lp] 335 zZ)::(s7,.cells #[.map (some bj)] 334 zZ)::(bj,.map xF xG)::(b5,.cells #[u32 (!e).toNat] 78 zZ)::(b3,.cells #[u32 e.toNat] 78 zZ)::(b1,.cells #[ptr bq] 217 zZ)::ux bq kp bm ok es ck C
section
variable {kp bq bm b3 b5 b1 s7 lp bj:Nat} {K0:Kd} {S0:Nat->aq.Fn} {U:aq.Fn->Prop} {ord ah:zL} {e:Bool}
theorem x9.vM{K:Kd}{S:Nat->aq.Fn}{made:zL}{es:Array MapEntry}{ck:Nat}{C:Hp}{ok:Bool}(h:x9 kp K0 S0 U ord ah K S made es ck C ok){r:Nat}(hr:live K0.N r\/r∈made):live K.N r:=by
 rcases hr with hr|hr
 ·exact h.cT.live hr
 exact h.cT.ir h.ks hr
theorem JKn.more{F:Nat×Nat->aq.Fn}{K K':Kd}{S S':Nat->aq.Fn}{made made':zL}{es xF:Array MapEntry}{ck xG:Nat}{C:Hp}{ok nw:Bool}(hq:x9 kp K0 S0 U ord ah K S made es ck C ok)(h:JKn K0 F S made ok xF xG)(ha:EH K S made K' S' made')(hok:nw=true->ok=true):JKn K0 F S' made' nw xF xG:=by
 obtain⟨m,h1,h2⟩:=h;refine⟨m,h1,λh y hy=>?_⟩;obtain⟨a,b⟩:=h2 (hok h) y hy;exact⟨by rw[ha.fn _ (hq.vM b),a],b.imp id (ha.mem _)⟩
def aam(kp:Nat)(K0:Kd)(S0:Nat->aq.Fn)(U:aq.Fn->Prop)(ord ah:zL)(e:Bool)(b3 b5 b1 s7 lp bj bq bm:Nat)(K:Kd)(S:Nat->aq.Fn)(made:zL)(ok:Bool)(f:aq.Fn)(w:zV)(H:Hp):Prop:=
 ∃x K' S' made' es' bC C' nw Y7 Y8,w=u32 x/\H=Xz e b3 b5 b1 s7 lp bj bq kp bm nw Y7 Y8 es' bC C'/\x9 kp K0 S0 U ord ah K' S' made' es' bC C' nw/\JKn K0 (λp=>jf e S0 p.1 p.2) S' made' nw Y7 Y8/\EH K S made K' S' made'/\
  (nw=true->ok=true/\S' x=f/\(live K0.N x\/x∈made'))
theorem Dy{N:er}{n:Nat}{bR:Nat->Nat}(h:WF n bR N)(hl:jH n bR){r v:Nat}(hr:live N r)(hv:v<n)(hle:bR v<=dep n bR N r):
  ∃z p q,got N r=[iv z,u32 p,u32 q]/\(bR v=dep n bR N r->z=(v:Int)/\p=dV N v false r/\q=dV N v true r)/\(bR v<dep n bR N r->dV N v false r=r/\dV N v true r=r):=by
 have hlv:=hl.lt v hv;cases e:N r with
 |none=>
  have h2:r<2:=by rcases hr with h|⟨d,hd⟩;exact h;rw[e]at hd;cases hd
  refine⟨_,_,_,fC h2,λh3=>?_,λh3=>⟨uG h hl h3 _,uG h hl h3 _⟩⟩;rw[aS e]at h3;omega
 |some d=>
  refine⟨_,_,_,dU e (h.two e),λh3=>?_,λh3=>⟨uG h hl h3 _,uG h hl h3 _⟩⟩;rw[an e]at h3;have:v=d.v:=hl.inj _ _ hv (h.var e) h3;subst this;obtain⟨c1,c2⟩:=kR (N:=N) e;exact⟨rfl,c1.symm,c2.symm⟩
set_option maxHeartbeats 2000000 in
theorem Q7(fM:aW zQ 264=true)(lj:WF K0.n (lv ah) K0.N)(pG:Interp K0.N S0)(jM:jH K0.n (lv ah))(kZ:aq.Ord K0.n (lv ah) ord)(hf:∀s,K0.hold s=65535->live K0.N s):
  ∀(k a b:Nat),K0.n-min (dep K0.n (lv ah) K0.N a) (dep K0.n (lv ah) K0.N b)=k->∀(K:Kd) (S:Nat->aq.Fn) (made:zL) (es:Array MapEntry) (ck:Nat) (C:Hp) (ok:Bool) (xF:Array MapEntry) (xG:Nat),
  live K0.N a->live K0.N b->x9 kp K0 S0 U ord ah K S made es ck C ok->JKn K0 (λp=>jf e S0 p.1 p.2) S made ok xF xG->(∀g,aD K0.n ord (λg=>g=jf e S0 a b) g->U g)->
  Fc zQ 264 #[u32 a,u32 b,ptr b3,ptr b5,ptr b1,ptr s7,ptr lp] (Xz e b3 b5 b1 s7 lp bj bq kp bm ok xF xG es ck C) (aam kp K0 S0 U ord ah e b3 b5 b1 s7 lp bj bq bm K S made ok (jf e S0 a b)):=by
 have hc0:∀r,r<2->K0.N r=none:=λr hr=>lj.const hr;intro k;induction k using Nat.strongRecOn with
 |ind k ih=>
 intro a b hk K S made es ck C ok xF xG ha hb hS hJ hU g;have hK:=hS.ks;have KF:∀r,r<2->K.N r=none:=λr hr=>hK.ok.wf.const hr;have eN:=hS.cT.n;have la:=hS.cT.live ha;have lb:=hS.cT.live hb;have now:∀x,live K0.N x->(S0 x=jf e S0 a b)->∀Z:Hp,aN (aam kp K0 S0 U ord ah e b3 b5 b1 s7 lp bj bq bm K S made ok (jf e S0 a b)) (.returned (u32 x)) (Z++Xz e b3 b5 b1 s7 lp bj bq kp bm ok xF xG es ck C):=λx hx hf Z=>
  aN.mk .right ⟨x,K,S,made,es,ck,C,ok,xF,xG,rfl,rfl,hS,hJ,.refl,λh=>⟨h,by rw[hS.cT.fn x hx];exact hf,.inl hx⟩⟩
 have FX:e.toNat<2:=by cases e<;>decide
 have T1:(!e).toNat<2:=by cases e<;>decide
 refine G4 (R:=aN _) ?_;unfold L264;refine Ld.q ?_;refine ae.eL (c6.or (decide (b=e.toNat)) (λ_=>?_) zI λgs=>?_)
 ·refine Ld.q ?_;exact ae.eL ⟨rfl,rfl⟩
 rw[<-xa6];refine Br.dec (λh1=>?_) (λh1=>?_)
 ·refine Ld.q ?_;refine now _ (.inl FX) ?_ [];rcases h1 with rfl|rfl
  ·exact(Q9 pG e b).symm
  rw[AW];exact(Q9 pG e a).symm
 refine Ld.q ?_;refine ae.eL (c6.or (decide (a=b)) (λ_=>ae.eL ⟨rfl,rfl⟩) zI λgs=>?_);rw[<-xa6];refine Br.dec (λh2=>?_) (λh2=>?_)
 ·refine now b hb ?_ [];rcases h2 with rfl|rfl
  ·exact(Q8 pG e b).symm
  exact(VJ e S0 a).symm
 refine Ld.q ?_;refine ae.eL (Br.dec (λh3=>?_) (λh3=>?_))
 ·refine now a ha ?_ [];rw[h3,AW];exact(Q8 pG e a).symm
 refine Ld.q ?_;refine Ld.n ?_;cases ok with
 |false=>
  exact ae.cK (Br.T (aN.here ⟨0,K,S,made,es,ck,C,false,xF,xG,rfl,rfl,hS,hJ,.refl,λh=>by cases h⟩))
 |true=>
 refine ae.cK (Br.F (⟨.u32,(a:Int),(b:Int),rfl,rfl,⟨.u32,(a:Int),(b:Int),rfl,rfl,?_⟩⟩));have ahk:(if(b:Int)<(a:Int)then(b:Int)else(a:Int))=((min a b:Nat):Int):=by split<;>omega
 have ahl:(if(b:Int)>(a:Int)then(b:Int)else(a:Int))=((max a b:Nat):Int):=by split<;>omega
 rw[ahk,ahl];refine Build.mk (cs:=[u32 (min a b),u32 (max a b)]) zK λum _=>?_;refine St.p (by intro x hx;simp[u32]at hx;rcases hx with rfl|rfl<;>rfl) ?_;refine Ld.q ?_;refine az.q ?_;obtain⟨m,hE,hkn⟩:=hJ;have xV:(bj,Obj.map xF xG)∈(um,Obj.cells #[u32 (min a b),u32 (max a b)] 337 zZ)::Xz e b3 b5 b1 s7 lp bj bq kp bm true xF xG es ck C:=.tail _ (.tail _ (.tail _ (.head _)));cases hg:aK m (min a b,max a b)with
 |some x=>
  refine aE.FR (ke:=pk) (k:=(min a b,max a b)) Qz Fb hE xV hg ?_;rintro v rfl;obtain⟨g1,g2⟩:=hkn rfl _ ((dR hE.nd).1 hg);refine Ext.mk rfl (Ext.mk rfl (Br.yes (aN.mk .tail ⟨x,K,S,made,es,ck,C,true,xF,xG,rfl,rfl,hS,⟨m,hE,hkn⟩,.refl,λh=>⟨h,?_,g2⟩⟩)));rw[g1];exact Xy e S0 a b
 |none=>
 refine aE.vH (ke:=pk) (k:=(min a b,max a b)) Qz Fb hE xV hg ?_;refine Ext.mk rfl (Ext.mk rfl (Br.no (Ld.q ?_)));refine aa.eq (Fa (bm:=bm) (ok:=true) (es:=es) (ck:=ck) hK la) (Ext.two λb36 _=>(St.whole (r:=got K.N a) (by exact .head _) rfl (aP _ _).1 (aP _ _).2 ?_));refine Ld.q ?_;refine aa.eq (Fa (bm:=bm) (ok:=true) (es:=es) (ck:=ck) hK lb) (Ext.two λb44 _=>(St.whole (r:=got K.N b) (by exact .head _) rfl (aP _ _).1 (aP _ _).2 ?_));rw[oc hS.cT.N hc0 KF ha,oc hS.cT.N hc0 KF hb,eN,wy hS.cT.N KF hc0 ha,wy hS.cT.N KF hc0 hb];have hmin:min (dep K0.n (lv ah) K0.N a) (dep K0.n (lv ah) K0.N b)<K0.n:=by
  refine xaD λhn=>h2 (.inr ?_);have EC:∀r,live K0.N r->K0.n<=dep K0.n (lv ah) K0.N r->r<2:=λr hr hd=>by
   rcases hr with h|⟨d,dF⟩
   ·exact h
   rw[an dF]at hd;have:=jM.lt _ (lj.var dF);omega
  have a2:=EC a ha zO;have b2:=EC b hb zO;cases e<;>simp only[Bool.toNat_true,Bool.toNat_false,xcz,xcp]at h1 h2<;>omega
 obtain⟨v,hv,hvl⟩:=ae2 lj jM (hc0 0 zO) hmin;have hva:=hv.le a zI;have hvb:=hv.le b zI;obtain⟨za,pa,qa,ega,ga1,ga2⟩:=Dy lj jM ha hv.lt hva;obtain⟨zb,pb,qb,egb,gb1,gb2⟩:=Dy lj jM hb hv.lt hvb;rw[ega,egb];have fJ:∀r∈[a,b,0],live K0.N r:=λr hr=>by
  simp only[xaj,xaR,xbl]at hr;rcases hr with rfl|rfl|rfl
  ·exact ha
  ·exact hb
  exact .inl zO
 obtain⟨f1,f2⟩:=py (S:=S0) lj jM pG fJ hv false;obtain⟨t1,t2⟩:=py (S:=S0) lj jM pG fJ hv true;rw[DU v _ a b (hc0 0 zO)]at f1 f2 t1 t2;have ec:∀bb,jf e S0 (dV K0.N v bb a) (dV K0.N v bb b)=λx=>jf e S0 a b (ak.aB x v bb):=λbb=>by
  have:=KS (S:=S0) lj jM pG rfl fJ hv (jt3 e) bb;rw[DU v _ a b (hc0 0 zO)]at this;exact this
 generalize ea1:dV K0.N v false a=a1 at*;generalize ea2:dV K0.N v true a=a2 at*;generalize ec1:dV K0.N v false b=c1 at*;generalize ec2:dV K0.N v true b=c2 at*;have iu:=jM.lt v hv.lt;have Dl:=kZ.of jM hv.lt;have sN:∀j,j<lv ah v->¬bT (jf e S0 a b) (ord.getD j 0):=zi lj jM pG kZ (q:=[a,b,0]) rfl fJ (xb5 iu) hv.le (jt3 e);obtain⟨i1,PW⟩:=jJ (n:=K0.n) (ord:=ord) (c:=jf e S0 a1 c1) sN (b:=false) (by rw[Dl,<-ea1,<-ec1];exact ec false);obtain⟨i2,PV⟩:=jJ (n:=K0.n) (ord:=ord) (c:=jf e S0 a2 c2) sN (b:=true) (by rw[Dl,<-ea2,<-ec2];exact ec true);have eF:jf e S0 a1 c1=λx=>jf e S0 a b (ak.aB x v false):=by rw[<-ea1,<-ec1];exact ec false
 have eT:jf e S0 a2 c2=λx=>jf e S0 a b (ak.aB x v true):=by rw[<-ea2,<-ec2];exact ec true
 have la1:=f1 a1 zI;have lc1:=f1 c1 zI;have la2:=t1 a2 zI;have lc2:=t1 c2 zI;have da1:=f2 a1 zI;have dc1:=f2 c1 zI;have da2:=t2 a2 zI;have dc2:=t2 c2 zI;refine Ld.f ?_;intro J49 h49;have adn:J49 [iv (v:Int)] ((b44,.cells #[iv zb,u32 pb,u32 qb] 144 zZ)::(b36,.cells #[iv za,u32 pa,u32 qa] 144 zZ)::(um,.cells #[u32 (min a b),u32 (max a b)] 337 zZ)::Xz e b3 b5 b1 s7 lp bj bq kp bm true xF xG es ck C):=by
  refine h49 _ _ λgs J53 h53=>?_;have adm:J53 [] ((b44,.cells #[iv zb,u32 pb,u32 qb] 144 zZ)::(b36,.cells #[iv za,u32 a1,u32 a2] 144 zZ)::(um,.cells #[u32 (min a b),u32 (max a b)] 337 zZ)::Xz e b3 b5 b1 s7 lp bj bq kp bm true xF xG es ck C):=by
   refine h53 _ λgs J56 h56=>?_;have adl:J56 [] ((b44,.cells #[iv zb,u32 c1,u32 c2] 144 zZ)::(b36,.cells #[iv za,u32 a1,u32 a2] 144 zZ)::(um,.cells #[u32 (min a b),u32 (max a b)] 337 zZ)::Xz e b3 b5 b1 s7 lp bj bq kp bm true xF xG es ck C):=by
    refine h56 _ λgs=>?_;refine Ld.q ?_;refine Ld.f ?_;refine Ld.f ?_;refine aJ.of rfl fM ?_;have hJ0:JKn K0 (λp=>jf e S0 p.1 p.2) S made true xF xG:=⟨m,hE,hkn⟩;refine aa.fq (args:=#[u32 a1,u32 c1,ptr b3,ptr b5,ptr b1,ptr s7,ptr lp]) (ih _ zO a1 c1 rfl K S made es ck C true xF xG la1 lc1 hS hJ0 (λg hg=>hU g (PW g hg))) ?_;rintro w H ⟨x1,K1,S1,yL,kC,jO,C1,ok1,afp,afr,rfl,rfl,Ez,hJ1,Wr,Dn⟩;refine DR.of (R:=[(b44,.cells #[iv zb,u32 c1,u32 c2] 144 zZ),(b36,.cells #[iv za,u32 a1,u32 a2] 144 zZ),(lp,.cells #[Gk b3 b5 b1 s7 lp] 335 zZ),(b1,.cells #[ptr bq] 217 zZ)]) (.cons (.cons (.skip (.cons (.skip (.skip (.skip (.skip (aM.left (A:=[_])))))))))) (Ld.q ?_);refine Ld.q ?_;refine Ld.f ?_;refine Ld.f ?_;refine aJ.of rfl fM (aa.fq (args:=#[u32 a2,u32 c2,ptr b3,ptr b5,ptr b1,ptr s7,ptr lp]) (ih _ zO a2 c2 rfl K1 S1 yL kC jO C1 ok1 afp afr la2 lc2 Ez hJ1 (λg hg=>hU g (PV g hg))) ?_);rintro w H ⟨x2,K2,S2,fR,gP,iB,C2,ok2,afo,afq,rfl,rfl,jy,BJ,ob,xU⟩;refine⟨.cons (.cons (.skip (.cons (.skip (.skip (.skip (.skip (aM.left (A:=[_]))))))))),?_⟩;have xZ:=Wr.trans ob;have fin:∀(x3:Nat) K3 S3 je po qO C3 Ev,x9 kp K0 S0 U ord ah K3 S3 je po qO C3 Ev->EH K2 S2 fR K3 S3 je->(Ev=true->ok2=true/\S3 x3=jf e S0 a b/\(live K0.N x3\/x3∈je))->
      ∀H49,H49=(b44,.cells #[iv zb,u32 c1,u32 c2] 144 zZ)::(b36,.cells #[iv za,u32 a1,u32 a2] 144 zZ)::(um,.cells #[u32 (min a b),u32 (max a b)] 337 zZ)::Xz e b3 b5 b1 s7 lp bj bq kp bm Ev afo afq po qO C3->
      aM H49 [(b44,.cells #[iv zb,u32 c1,u32 c2] 144 zZ),(b36,.cells #[iv za,u32 a1,u32 a2] 144 zZ),(lp,.cells #[Gk b3 b5 b1 s7 lp] 335 zZ),(b1,.cells #[ptr bq] 217 zZ)]/\
      Ld H49 (ptr s7) λv77=>az 2 H49 (ptr um) λv78=>iG zQ 337 H49 v77 v78 (u32 x3) λH79=>aN (aam kp K0 S0 U ord ah e b3 b5 b1 s7 lp bj bq bm K S made true (jf e S0 a b)) (.returned (u32 x3)) H79:=by
     rintro x3 K3 S3 je po qO C3 Ev ZO EA Dm H49 rfl;refine⟨.cons (.cons (.skip (.cons (.skip (.skip (.skip (.skip (aM.left (A:=[_]))))))))),?_⟩;refine Ld.q ?_;refine az.q ?_;obtain⟨m3,Pn,Zv⟩:=BJ.more jy EA (λh=>(Dm h).1);refine aE.LQ (ke:=pk) (k:=(min a b,max a b)) (vr:=O7) (x:=x3) Qz Fb Va Pn rfl λes' bC he=>⟨_,.tail (.tail (.tail (.tail (.tail (.head _))))),?_⟩;refine aN.mk (.skip (.skip .tail)) ⟨x3,K3,S3,je,po,qO,C3,Ev,es',bC,rfl,rfl,ZO,⟨_,he,λh y hy=>(nW hy).elim (λe1=>?_) (λhy=>Zv h y hy)⟩,xZ.trans EA,λh=>⟨rfl,(Dm h).2⟩⟩;rw[e1];exact⟨(Dm h).2.1.trans (Xy e S0 a b).symm,(Dm h).2.2⟩
    cases ok2 with
    |false=>
     exact aa.eq (args:=#[ptr bq,iv (v:Int),u32 x1,u32 x2]) (yC (kp:=kp) (bm:=bm) _ _ _ _) (fin 0 K2 S2 fR gP iB C2 false jy .refl (λh=>by cases h) _ rfl)
    |true=>
     obtain⟨YL,e2,m2⟩:=xU rfl;obtain⟨_,e1,m1⟩:=Dn YL;have YX:=Ez.vM m1;have l1:live K2.N x1:=bA ob.N YX;have l2:=jy.vM m2;have WJ:S2 x1=jf e S0 a1 c1:=(ob.fn x1 YX).trans e1;have cR:=jy.ks;have n2:=jy.cT.n;have b1':=cR.ok.below cR.od (l:=lv ah v+1) l1 zO (by rw[WJ];exact i1);have b2':=cR.ok.below cR.od (l:=lv ah v+1) l2 zO (by rw[e2];exact i2);have sM:ite S2 ⟨v,x1,x2⟩=jf e S0 a b:=by
      funext x
      unfold aq.ite;rw[WJ,e2,eF,eT]
      conv=>rhs;rw[<-ak.ie x v]
      simp only;cases x.testBit v<;>rfl
     have iR:x1≠x2->U (ite S2 ⟨v,x1,x2⟩):=λhx=>by
      have y6:bT (jf e S0 a b) (ord.getD (lv ah v) 0):=by
       rw[Dl];refine xaD λhno=>hx ?_;refine cR.ok.wf.same cR.ok.lv cR.ok.mid.int l1 l2 λx=>?_;rw[WJ,e2,eF,eT];exact(cJ hno x false).trans (cJ hno x true).symm
      rw[sM];exact hU _ (oT sN iu y6)
     refine aa.fq (args:=#[ptr bq,iv (v:Int),u32 x1,u32 x2]) (Cp jy (by rw[n2];exact hv.lt) l1 l2 ⟨by omega,by omega⟩ (by rw[sM];exact hU) iR hf) ?_;rintro w H ⟨r,K3,S3,je,po,qO,C3,Ev,rfl,rfl,ZO,EA,Dm⟩;exact fin r K3 S3 je po qO C3 Ev ZO EA (λh=>⟨rfl,by rw[(Dm h).1,sM],(Dm h).2⟩) _ rfl
   refine ae.nB (Br.dec (λhh=>?_) (λhh=>?_))
   ·obtain⟨x1,x2⟩:=gb2 zO;subst x1;subst x2;refine ai.mk (St.one (by exact .head _) rfl zI rfl ?_);refine ai.mk (St.one (by exact .head _) rfl zI rfl ?_);exact JE.mk adl
   obtain⟨x1,x2,x3⟩:=gb1 zO;rw[x2,x3];exact JE.mk adl
  refine ae.nB (Br.dec (λhh=>?_) (λhh=>?_))
  ·obtain⟨x1,x2⟩:=ga2 zO;subst x1;subst x2;refine ai.mk (St.one (by exact .tail (.head _)) rfl zI rfl ?_);refine ai.mk (St.one (by exact .tail (.head _)) rfl zI rfl ?_);exact JE.mk adm
  obtain⟨x1,x2,x3⟩:=ga1 zO;rw[x2,x3];exact JE.mk adm
 refine ae.fy (Br.dec (λhh=>?_) (λhh=>?_))
 ·obtain⟨x1,x2,x3⟩:=gb1 zO;refine Ld.f ?_;subst x1;exact JE.mk adn
 obtain⟨x1,x2,x3⟩:=ga1 zO;subst x1;exact JE.mk adn
end
theorem Rk{N:er}{S:Nat->aq.Fn}{n:Nat}{bR:Nat->Nat}{ord:zL}(h:WF n bR N)(hl:jH n bR)(hi:Interp N S)(ho:aq.Ord n bR ord){r:Nat}(hr:live N r){l:Nat}(y4:l<=n)(hle:l<=dep n bR N r):∀j,j<l->¬bT (S r) (ord.getD j 0):=by
 rintro j hj ⟨x,hx⟩;apply hx;obtain⟨o1,o2⟩:=ho.bc j zO;rw[h.bJ hl hi hr o1 zO x false,h.bJ hl hi hr o1 zO x true]
section
variable {kp bq bm:Nat} {K0:Kd} {S0:Nat->aq.Fn} {U:aq.Fn->Prop} {ord ah:zL}
def W5(kp:Nat)(K0:Kd)(S0:Nat->aq.Fn)(U:aq.Fn->Prop)(ord ah:zL)(bq bm:Nat)(LB:Hp)(K:Kd)(S:Nat->aq.Fn)(made:zL)(f:aq.Fn)(w:zV)(H:Hp):Prop:=
 ∃x K' S' made' es' bC C' nw,w=u32 x/\H=LB++ux bq kp bm nw es' bC C'/\x9 kp K0 S0 U ord ah K' S' made' es' bC C' nw/\EH K S made K' S' made'/\(nw=true->S' x=f/\(live K0.N x\/x∈made'))
theorem VI{e:Bool}(lj:WF K0.n (lv ah) K0.N)(pG:Interp K0.N S0)(jM:jH K0.n (lv ah))(kZ:aq.Ord K0.n (lv ah) ord)(hf:∀s,K0.hold s=65535->live K0.N s){a b:Nat}{K:Kd}{S:Nat->aq.Fn}{made:zL}{es:Array MapEntry}{ck:Nat}{C:Hp}
 (ha:live K0.N a)(hb:live K0.N b)(hS:x9 kp K0 S0 U ord ah K S made es ck C true)(hU:∀g,aD K0.n ord (λg=>g=jf e S0 a b) g->U g):
  Fc zQ 223 #[ptr bq,u32 a,u32 b,.bool e] (ux bq kp bm true es ck C) (W5 kp K0 S0 U ord ah bq bm [] K S made (jf e S0 a b)):=by
 refine aF λg=>HK λb1 _ b3 _ b5 _=>?_;refine St.one (by exact .tail (.head _)) rfl zI rfl ?_;refine St.one (by exact .head _) rfl zI rfl ?_;have fM:aW zQ 264=true:=by kernel_rfl
 intro J hJ;have hJ':J [] ((b5,.cells #[u32 (!e).toNat] 78 zZ)::(b3,.cells #[u32 e.toNat] 78 zZ)::(b1,.cells #[ptr bq] 217 zZ)::ux bq kp bm true es ck C):=by
  refine hJ _ λgs=>?_;intro bj _ s7 _;refine St.one (by exact .head _) rfl zI rfl ?_;intro lp _;refine St.one (by exact .head _) rfl zI rfl ?_;refine Ld.q ?_;refine aJ.of rfl fM (aa.fq (args:=#[u32 a,u32 b,ptr b3,ptr b5,ptr b1,ptr s7,ptr lp]) (Q7 (e:=e) fM lj pG jM kZ hf _ a b rfl K S made es ck C true #[] 0 ha hb hS ⟨[],aE.empty,λ_ y hy=>by cases hy⟩ hU) ?_);rintro w H ⟨x,K',S',made',es',bC,C',nw,Y7,Y8,rfl,rfl,F6,_,hA,ho⟩;exact aN.mk (.skip (.skip (.skip (.skip (.skip .tail))))) ⟨x,K',S',made',es',bC,C',nw,rfl,rfl,F6,hA,λh=>(ho h).2⟩
 cases e with
 |true=>
  refine Br.yes (St.one (by exact .tail (.head _)) rfl zI rfl ?_);refine St.one (by exact .head _) rfl zI rfl ?_;exact JE.mk hJ'
 |false=>exact Br.no (JE.mk hJ')
def Lo(kp:Nat)(K0:Kd)(S0:Nat->aq.Fn)(U:aq.Fn->Prop)(ord ah:zL)(bq bm:Nat)(t:Bool->Bool->Bool)(v:Nat)(fv:zV)(LB:Hp):Prop:=
 ∃f first cap,fv=.func (.func f) first cap/\aW zQ f=true/\∀(r:Nat) (d:Nd),K0.N r=some d->d.v=v->∀K S made es ck C,x9 kp K0 S0 U ord ah K S made es ck C true->(∀g,aD K0.n ord (λg=>g=QF t v (S0 r)) g->U g)->
  Fc zQ f (first++ #[.agg (bu d).toArray]++cap) (LB++ux bq kp bm true es ck C) (W5 kp K0 S0 U ord ah bq bm LB K S made (QF t v (S0 r)))
def SY(b1 jc mq b3 zx:Nat):zV:=.func (.func 218) #[] #[ptr b1,ptr jc,ptr mq,ptr b3,ptr zx]
def DKn(K0:Kd)(F:Nat->aq.Fn)(S:Nat->aq.Fn)(made:zL)(ok:Bool)(es:Array MapEntry)(ck:Nat):Prop:=
 ∃m:List (Nat×Nat),aE (kN .u32) O7 es ck m/\(ok=true->∀y∈m,S y.2=F y.1/\(live K0.N y.2\/y.2∈made))
theorem DKn.more{F:Nat->aq.Fn}{K K':Kd}{S S':Nat->aq.Fn}{made made':zL}{es xF:Array MapEntry}{ck xG:Nat}{C:Hp}{ok nw:Bool}(hq:x9 kp K0 S0 U ord ah K S made es ck C ok)(h:DKn K0 F S made ok xF xG)(ha:EH K S made K' S' made')(hok:nw=true->ok=true):DKn K0 F S' made' nw xF xG:=by
 obtain⟨m,h1,h2⟩:=h;refine⟨m,h1,λh y hy=>?_⟩;obtain⟨a,b⟩:=h2 (hok h) y hy;exact⟨by rw[ha.fn _ (hq.vM b),a],b.imp id (ha.mem _)⟩
abbrev dHp(b1 b3 jc mq zx bd lvl:Nat)(fv:zV)(LB:Hp)(bq kp bm:Nat)(ok:Bool)(Ps:Array MapEntry)(Pt:Nat)(es:Array MapEntry)(ck:Nat)(C:Hp):Hp:=
 (zx,.cells #[SY b1 jc mq b3 zx] 287 zZ)::(mq,.cells #[.map (some bd)] 286 zZ)::(bd,.map Ps Pt)::(jc,.cells #[iv (lvl:Int)] 3 zZ)::(b3,.cells #[fv] 204 zZ)::(b1,.cells #[ptr bq] 217 zZ)::(LB++ux bq kp bm ok es ck C)
def ahH(kp:Nat)(K0:Kd)(S0:Nat->aq.Fn)(U:aq.Fn->Prop)(ord ah:zL)(t:Bool->Bool->Bool)(v b1 b3 jc mq zx bd:Nat)(fv:zV)(LB:Hp)(bq bm:Nat)(K:Kd)(S:Nat->aq.Fn)(made:zL)(ok:Bool)(f:aq.Fn)(w:zV)(H:Hp):Prop:=
 ∃x K' S' made' es' bC C' nw Z4 Z6,w=u32 x/\H=dHp b1 b3 jc mq zx bd (lv ah v) fv LB bq kp bm nw Z4 Z6 es' bC C'/\x9 kp K0 S0 U ord ah K' S' made' es' bC C' nw/\DKn K0 (λr=>QF t v (S0 r)) S' made' nw Z4 Z6/\EH K S made K' S' made'/\
  (nw=true->ok=true/\S' x=f/\(live K0.N x\/x∈made'))
variable {b1 b3 jc mq zx bd:Nat} {fv:zV} {LB:Hp} {t:Bool->Bool->Bool} {v:Nat}
set_option maxHeartbeats 2000000 in
theorem SI(fM:aW zQ 218=true)(hLq:Lo kp K0 S0 U ord ah bq bm t v fv LB)(ht:∀a,t a a=a)(hv:v<K0.n)(lj:WF K0.n (lv ah) K0.N)(pG:Interp K0.N S0)(jM:jH K0.n (lv ah))(kZ:aq.Ord K0.n (lv ah) ord)(hf:∀s,K0.hold s=65535->live K0.N s):
  ∀(k r:Nat),K0.n-dep K0.n (lv ah) K0.N r=k->∀(K:Kd) (S:Nat->aq.Fn) (made:zL) (es:Array MapEntry) (ck:Nat) (C:Hp) (ok:Bool) (Ps:Array MapEntry) (Pt:Nat),
  live K0.N r->x9 kp K0 S0 U ord ah K S made es ck C ok->DKn K0 (λr=>QF t v (S0 r)) S made ok Ps Pt->(∀g,aD K0.n ord (λg=>g=QF t v (S0 r)) g->U g)->
  Fc zQ 218 #[u32 r,ptr b1,ptr jc,ptr mq,ptr b3,ptr zx] (dHp b1 b3 jc mq zx bd (lv ah v) fv LB bq kp bm ok Ps Pt es ck C) (ahH kp K0 S0 U ord ah t v b1 b3 jc mq zx bd fv LB bq bm K S made ok (QF t v (S0 r))):=by
 have hc0:∀r,r<2->K0.N r=none:=λr hr=>lj.const hr;intro k;induction k using Nat.strongRecOn with
 |ind k ih=>
 intro r hk K S made es ck C ok Ps Pt hr hS hD hU g;have hK:=hS.ks;have KF:∀r,r<2->K.N r=none:=λr hr=>hK.ok.wf.const hr;have eN:=hS.cT.n;have lr:=hS.cT.live hr;refine HQ (R:=aN _) ?_;unfold L218;refine Ld.q ?_;refine aa.eq (Fa (bm:=bm) (ok:=ok) (es:=es) (ck:=ck) hK lr) (Ext.two λb6 _=>(St.whole (r:=got K.N r) (by exact .head _) rfl (aP _ _).1 (aP _ _).2 ?_));rw[oc hS.cT.N hc0 KF hr,eN,wy hS.cT.N KF hc0 hr];refine Ld.q ?_;refine ae.nB (c6.or (!ok) (λ_=>?_) zI λgs=>?_)
 ·refine Ld.q ?_;refine Ld.n ?_;exact ae.cK ⟨rfl,by cases ok<;>rfl⟩
 refine Br.mk (λhb=>?_) (λhb=>?_)
 ·-- deeper, or an error before
  refine aN.mk .tail ⟨r,K,S,made,es,ck,C,ok,Ps,Pt,rfl,rfl,hS,hD,.refl,λh=>⟨h,?_,.inl hr⟩⟩;rw[h]at hb;simp only[xcz,xdx,xaK]at hb;rw[hS.cT.fn r hr];refine(W6 ht ?_).symm;rintro⟨x,hx⟩;apply hx;rw[lj.bJ jM pG hr hv hb x false,lj.bJ jM pG hr hv hb x true]
 simp only[xaF,xbp,Bool.not_eq_false',Nat.not_lt]at hb;obtain⟨A2,rfl⟩:=hb;obtain⟨m,hE,hkn⟩:=hD;refine Ld.q ?_;have xV:(bd,Obj.map Ps Pt)∈(b6,Obj.cells (got K0.N r).toArray 144 zZ)::dHp b1 b3 jc mq zx bd (lv ah v) fv LB bq kp bm true Ps Pt es ck C:=.tail _ (.tail _ (.tail _ (.head _)));have hlv:=jM.lt v hv;obtain⟨d,hd⟩:∃d,K0.N r=some d:=by
  cases e:K0.N r with
  |none=>rw[aS e]at A2;omega
  |some d=>exact⟨d,rfl⟩
 have ed:=an (n:=K0.n) (ah:=lv ah) hd;have h2:=lj.two hd;have kB:=lj.var hd;cases hg:aK m r with
 |some x=>
  refine aE.hit (k:=r) ju hE xV hg ?_;rintro w rfl;obtain⟨g1,g2⟩:=hkn rfl _ ((dR hE.nd).1 hg);exact Ext.mk rfl (Ext.mk rfl (Br.yes (aN.mk .tail ⟨x,K,S,made,es,ck,C,true,Ps,Pt,rfl,rfl,hS,⟨m,hE,hkn⟩,.refl,λh=>⟨h,g1,g2⟩⟩)))
 |none=>
 refine aE.bO (k:=r) ju hE xV hg ?_;refine Ext.mk rfl (Ext.mk rfl (Br.no ?_));rw[dU hd h2];intro J hJ;have fin:∀(x3:Nat) K3 S3 je po qO C3 Ev Z3 Z5,x9 kp K0 S0 U ord ah K3 S3 je po qO C3 Ev->DKn K0 (λr=>QF t v (S0 r)) S3 je Ev Z3 Z5->EH K S made K3 S3 je->(Ev=true->S3 x3=QF t v (S0 r)/\(live K0.N x3\/x3∈je))->
   J [u32 x3] ((b6,.cells (bu d).toArray 144 zZ)::dHp b1 b3 jc mq zx bd (lv ah v) fv LB bq kp bm Ev Z3 Z5 po qO C3):=by
  intro x3 K3 S3 je po qO C3 Ev Z3 Z5 ZO hD3 EA Dm;refine hJ _ _ λgs=>?_;refine Ld.q ?_;obtain⟨m3,Pn,Zv⟩:=hD3;refine aE.bK (k:=r) (x:=x3) ju Kx Pn rfl λes' bC he=>⟨_,.tail (.tail (.tail (.head _))),?_⟩;refine aN.mk .tail ⟨x3,K3,S3,je,po,qO,C3,Ev,es',bC,rfl,rfl,ZO,⟨_,he,λh y hy=>(nW hy).elim (λe1=>?_) (λhy=>Zv h y hy)⟩,EA,λh=>⟨rfl,Dm h⟩⟩;rw[e1];exact Dm h
 have hD0:DKn K0 (λr=>QF t v (S0 r)) S made true Ps Pt:=⟨m,hE,hkn⟩;refine Ld.q ?_;refine ae.eL (Br.dec (λhl=>?_) (λhl=>?_))
 ·-- at the variable
  have ev:d.v=v:=jM.inj _ _ kB hv zO;obtain⟨f,first,cap,rfl,Wb,aco⟩:=hLq;refine Ld.q ?_;refine az.q ?_;refine aJ.of rfl Wb (aa.fq (C:=LB++ux bq kp bm true es ck C) (aco r d hd ev K S made es ck C hS hU) ?_);rintro w H ⟨x,K',S',made',es',bC,C',nw,rfl,rfl,F6,hA,ho⟩;exact JE.mk (fin x K' S' made' es' bC C' nw Ps Pt F6 (hD0.more hS hA (λ_=>rfl)) hA ho)
 -- above it
 have af1:lv ah d.v<lv ah v:=by omega
 have hne:d.v≠v:=λe=>by rw[e]at af1;omega
 obtain⟨g1,g2,g3⟩:=gg (S:=S0) lj jM pG hr kB zO false;obtain⟨t1,t2,t3⟩:=gg (S:=S0) lj jM pG hr kB zO true;obtain⟨q1,q2⟩:=kR (N:=K0.N) hd;rw[q1]at g1 g2 g3;rw[q2]at t1 t2 t3;have iu:=jM.lt d.v kB;have Dl:=kZ.of jM kB;have sN:∀j,j<lv ah d.v->¬bT (QF t v (S0 r)) (ord.getD j 0):=λj hj=>TE (Rk lj jM pG kZ hr (xb5 iu) zO j hj);have eF:QF t v (S0 d.lo)=λx=>QF t v (S0 r) (ak.aB x d.v false):=by rw[<-TG hne];congr 1;exact funext g1
 have eT:QF t v (S0 d.hi)=λx=>QF t v (S0 r) (ak.aB x d.v true):=by rw[<-TG hne];congr 1;exact funext t1
 obtain⟨i1,PW⟩:=jJ (n:=K0.n) (ord:=ord) (c:=QF t v (S0 d.lo)) sN (b:=false) (by rw[Dl];exact eF);obtain⟨i2,PV⟩:=jJ (n:=K0.n) (ord:=ord) (c:=QF t v (S0 d.hi)) sN (b:=true) (by rw[Dl];exact eT);refine Ld.q ?_;refine Ld.f ?_;refine aJ.of rfl fM (aa.fq (args:=#[u32 d.lo,ptr b1,ptr jc,ptr mq,ptr b3,ptr zx]) (ih _ zO d.lo rfl K S made es ck C true Ps Pt g2 hS hD0 (λg hg=>hU g (PW g hg))) ?_);rintro w H ⟨x1,K1,S1,yL,kC,jO,C1,ok1,ahn,ahp,rfl,rfl,Ez,hD1,Wr,Dn⟩;refine DR.of (R:=[(b6,.cells (bu d).toArray 144 zZ),(zx,.cells #[SY b1 jc mq b3 zx] 287 zZ),(b1,.cells #[ptr bq] 217 zZ)]) (.cons (.cons (.skip (.skip (.skip (.skip (aM.left (A:=[_])))))))) (Ld.q ?_);refine Ld.f ?_;refine Ld.q ?_;refine Ld.f ?_;refine aJ.of rfl fM (aa.fq (args:=#[u32 d.hi,ptr b1,ptr jc,ptr mq,ptr b3,ptr zx]) (ih _ zO d.hi rfl K1 S1 yL kC jO C1 ok1 ahn ahp t2 Ez hD1 (λg hg=>hU g (PV g hg))) ?_);rintro w H ⟨x2,K2,S2,fR,gP,iB,C2,ok2,adB,adE,rfl,rfl,jy,hD2,ob,xU⟩;refine⟨.cons (.cons (.skip (.skip (.skip (.skip (aM.left (A:=[_]))))))),?_⟩;have xZ:=Wr.trans ob;cases ok2 with
 |false=>
  refine aa.eq (args:=#[ptr bq,iv (d.v:Int),u32 x1,u32 x2]) (yC (kp:=kp) (bm:=bm) _ _ _ _) (⟨.cons (.cons (.skip (.skip (.skip (.skip (aM.left (A:=[_]))))))),?_⟩);exact JE.mk (fin 0 K2 S2 fR gP iB C2 false adB adE jy hD2 xZ (λh=>by cases h))
 |true=>
  obtain⟨YL,e2,m2⟩:=xU rfl;obtain⟨_,e1,m1⟩:=Dn YL;have YX:=Ez.vM m1;have l1:live K2.N x1:=bA ob.N YX;have l2:=jy.vM m2;have WJ:S2 x1=QF t v (S0 d.lo):=(ob.fn x1 YX).trans e1;have cR:=jy.ks;have n2:=jy.cT.n;have b1':=cR.ok.below cR.od (l:=lv ah d.v+1) l1 zO (by rw[WJ];exact i1);have b2':=cR.ok.below cR.od (l:=lv ah d.v+1) l2 zO (by rw[e2];exact i2);have sM:ite S2 ⟨d.v,x1,x2⟩=QF t v (S0 r):=by
   funext x
   unfold aq.ite;rw[WJ,e2,eF,eT]
   conv=>rhs;rw[<-ak.ie x d.v]
   simp only;cases x.testBit d.v<;>rfl
  have iR:x1≠x2->U (ite S2 ⟨d.v,x1,x2⟩):=λhx=>by
   have y6:bT (QF t v (S0 r)) (ord.getD (lv ah d.v) 0):=by
    rw[Dl];refine xaD λhno=>hx ?_;refine cR.ok.wf.same cR.ok.lv cR.ok.mid.int l1 l2 λx=>?_;rw[WJ,e2,eF,eT];exact(cJ hno x false).trans (cJ hno x true).symm
   rw[sM];exact hU _ (oT sN iu y6)
  refine aa.fq (args:=#[ptr bq,iv (d.v:Int),u32 x1,u32 x2]) (Cp jy (by rw[n2];exact kB) l1 l2 ⟨by omega,by omega⟩ (by rw[sM];exact hU) iR hf) ?_;rintro w H ⟨r3,K3,S3,je,po,qO,C3,Ev,rfl,rfl,ZO,EA,Dm⟩;refine⟨.cons (.cons (.skip (.skip (.skip (.skip (aM.left (A:=[_]))))))),?_⟩;exact JE.mk (fin r3 K3 S3 je po qO C3 Ev adB adE ZO (hD2.more jy EA (λ_=>rfl)) (xZ.trans EA) (λh=>⟨by rw[(Dm h).1,sM],(Dm h).2⟩))
end
def YS(es:Array MapEntry)(l:zL):List zV->Hp->Nat:=λ_ H=>match H with
 |(_,.mapIter _ _ seen _)::_=>(cU es (BA l) seen).length
 |_=>0
structure Let(K K':Kd)(l:zL):Prop where
 n:K'.n=K.n
 cap:K'.cap=K.cap
 N:∀s d,K'.N s=some d->K.N s=some d
 hold:∀s,K'.hold s+l.count s=K.hold s
section
variable {kp bq bm:Nat} {K0:Kd} {S0:Nat->aq.Fn} {U:aq.Fn->Prop} {ord ah:zL}
theorem AH{g:Gh}{K:Kd}{S:Nat->aq.Fn}{l:zL}{es:Array MapEntry}{ck b9 b1:Nat}{ok:Bool}{C LB:Hp}(hK:bP kp K S ord ah [] C)(hE:aE (kN .u32) vr1 es ck (BA l))(hc:∀s,l.count s<=K.hold s)(h2:∀s∈l,2<=s)(Po:∀s∈l,s<4294967296){Kc:Hp->Prop}
 (hk:∀K' C' bi it,bP kp K' S ord ah [] C'->Let K K' l->Kc ((bi,it)::(b9,.cells #[ptr bq] 217 zZ)::(b1,.cells #[ptr kp] 53 zZ)::(LB++ux bq kp bm ok es ck C'))):
  kf zQ g 217 #[ptr b9,ptr b1] ((b9,.cells #[ptr bq] 217 zZ)::(b1,.cells #[ptr kp] 53 zZ)::(LB++ux bq kp bm ok es ck C)) Kc:=by
 refine Ei (R:=_) ?_;unfold L217;refine Ld.q ?_;refine Ld.n ?_;refine .inr ⟨bm,es,ck,rfl,.tail _ (.tail _ (xab _ (.tail _ (.head _)))),λbi _=>?_⟩;refine⟨λ_ H=>∃(done:zL) (K':Kd) (C':Hp) (seen:Array Nat),H=(bi,.mapIter (some bm) ck seen ck)::(b9,.cells #[ptr bq] 217 zZ)::(b1,.cells #[ptr kp] 53 zZ)::(LB++ux bq kp bm ok es ck C')/\
   bP kp K' S ord ah [] C'/\Let K K' done/\(done++(cU es (BA l) seen).map Prod.fst).Perm l,YS es l,JE.mk ⟨[],K,C,#[],rfl,hK,⟨rfl,rfl,λ_ _ h=>h,λs=>by simp⟩,by rw[pY hE,q9];exact .refl _⟩,?_⟩
 rintro H ⟨done,K',C',seen,rfl,cX,hl,hp⟩ gs;refine aE.next (bi:=bi) (bm:=bm) (seen:=seen) hE (.tail _ (.tail _ (.tail _ (xab _ (.tail _ (.head _)))))) (.head _) (λe x seen' he hkey hv RA hbk hfi=>⟨_,.head _,?_⟩) (λhu=>?_)
 ·refine Ext.mk rfl (Br.yes (⟨bi,bm,ck,seen',e.born,ck,es,e,rfl,.head _,hbk,.tail _ (.tail _ (.tail _ (xab _ (.tail _ (.head _))))),hfi,?_⟩));refine Ext.mk rfl (Ld.q ?_);have hxl:x.1∈l:=by
   refine hp.mem_iff.1 (xab _ ?_);exact xaT (RA.mem_iff.2 (.head _))
  have BF:done.count x.1+1<=l.count x.1:=by
   rw[<-hp.count_eq,xbe,(RA.map Prod.fst).count_eq,xaC,List.count_cons_self];omega
  have hhx:K'.hold x.1≠0:=by
   have a:=hl.hold x.1;have b:=hc x.1;omega
  show aa zQ g 85 #[ptr kp,e.key] _ _ _;rw[hkey];refine aa.fq (args:=#[ptr kp,u32 x.1]) (mY cX (r:=x.1) (Po _ hxl) (λ_=>hhx)) ?_;rintro w C2 ⟨rfl,K2,cR,f2⟩;refine aC.mk ⟨done++[x.1],K2,C2,seen',rfl,cR,⟨f2.n.trans hl.n,f2.cap.trans hl.cap,λs d hd=>hl.N s d (f2.N s d hd),λs=>?_⟩,?_⟩ ?_
  ·have a:=hl.hold s;rw[f2.hold,xbe,xcK];by_cases e1:s=x.1
   ·subst e1;have:=h2 _ hxl;simp[this];omega
   have:(x.1==s)=false:=by simpa using λe'=>e1 e'.symm
   simp[e1,this];exact a
  ·refine .trans ?_ hp;rw[xak];refine xbV _ ?_;exact(RA.map Prod.fst).symm
  show(cU es (BA l) seen').length<(cU es (BA l) seen).length;rw[RA.length_eq,xay];omega
 refine Ext.mk rfl (Br.no ?_);rw[hu,xcv,xaL]at hp;refine⟨⟨_,rfl⟩,hk K' C' bi _ cX ⟨hl.n,hl.cap,hl.N,λs=>?_⟩⟩;rw[<-hp.count_eq];exact hl.hold s
end
section
variable {kp:Nat} {K:Kd} {S:Nat->aq.Fn} {ord ah tr:zL} {C:Hp}
theorem abr{α:Type}(a x y b:α)(L R:List α):(a::x::y::b::(L++R)).Perm (a::b::(L++x::y::R)):=by
 classical
 rw[xcu];intro z;simp only[xbe,xb2];omega
theorem MD{made:zL}{x:Nat}:iO (BA made) x=BA (made.filter λr=>decide (¬r=x)):=by
 unfold iO BA;induction made with
 |nil=>rfl
 |cons a l ih=>
  simp only[xaC,xbx];by_cases h:a=x
  ·simp[h]at ih⊢;exact ih
  simp[h]at ih⊢;exact ih
def oD(kp:Nat)(K:Kd)(S:Nat->aq.Fn)(ord ah:zL)(LB:Hp)(f:aq.Fn)(w:zV)(H:Hp):Prop:=
 (∃x K' S' C',w=.tuple #[u32 x,.bool true,iv 0]/\H=LB++C'/\bP kp K' S' ord ah [] C'/\fW K S K' S' f x)\/
 (w=.tuple #[u32 0,.bool false,iv 9]/\(∃K' S' C',H=LB++C'/\bP kp K' S' ord ah [] C'/\Kept K S K' S')/\¬Fits (aD K.n ord (λg=>K.held S g\/g=f)) K.cap)
def kU(kp:Nat)(K:Kd)(S:Nat->aq.Fn)(ord ah:zL)(LB:Hp)(f:aq.Fn)(w:zV)(H:Hp):Prop:=
 oD kp K S ord ah LB f w H\/∃x,w=.tuple #[u32 x,.bool false,iv 0]/\(∃K' S' C',H=LB++C'/\bP kp K' S' ord ah [] C'/\Kept K S K' S')/\2<=x/\K.hold x=65535/\S x=f
theorem Ka(hK:bP kp K S ord ah tr C){f:aq.Fn}{LB:Hp}{fb:zV}
 (hb:∀K1 C1,bP kp K1 S ord ah [] C1->W7 K K1 1->∃ff first cap,fb=.func (.func ff) first cap/\aW zQ ff=true/\∀bq bm,x9 kp K1 S (aD K.n ord (λg=>K.held S g\/g=f)) ord ah K1 S [] #[] 0 C1 true->
   Fc zQ ff (first++ #[ptr bq]++cap) (LB++ux bq kp bm true #[] 0 C1) (W5 kp K1 S (aD K.n ord (λg=>K.held S g\/g=f)) ord ah bq bm LB K1 S [] f)):
  Fc zQ 159 #[ptr kp,fb] (LB++C) (kU kp K S ord ah LB f):=by
 refine aF λg=>IP λb1 _=>?_;refine Ld.q ?_;intro bm _;refine Build.mk (cs:=[ptr kp,.map (some bm),iv 0]) zK λbq _ b9 _=>?_;refine St.one (by exact .head _) rfl zI rfl ?_;refine Ld.q ?_;refine aa.fq (args:=#[ptr kp,u32 1]) (mP hK (r:=1) (.inl zO) (λh=>by omega)) ?_;rintro w C1 ⟨rfl,K1,dL,mo⟩;have eZ:∀s,K1.hold s=K.hold s:=λs=>by rw[mo.hold,xac zO]
 have acF:∀g,K1.held S g->K.held S g:=by
  rintro g ⟨s,hs,rfl⟩;exact⟨s,by have:K1.hold s≠0:=hs;rwa [eZ]at this,rfl⟩
 obtain⟨ff,first,cap,rfl,Wb,hbody⟩:=hb K1 C1 dL mo;refine Ld.q ?_;refine aJ.of rfl Wb (aa.pre (H':=(b9,.cells #[ptr bq] 217 zZ)::(b1,.cells #[ptr kp] 53 zZ)::(LB++ux bq kp bm true #[] 0 C1)) (.perm (abr _ _ _ _ _ _)) ?_);have Se:x9 kp K1 S (aD K.n ord (λg=>K.held S g\/g=f)) ord ah K1 S [] #[] 0 C1 true:=⟨dL,.refl λg hg=>by rw[mo.n]at hg;exact aV (λg h=>.inl (acF g h)) hg,aE.empty,λh=>by cases h⟩;refine aa.fq (C:=LB++ux bq kp bm true #[] 0 C1) (hbody bq bm Se) ?_;rintro w H ⟨x,K2,S2,made,es,ck,C2,ok,rfl,rfl,jy,hA,ho⟩;have cR:=jy.ks;have kj:=jy.cT;have fA:=jy.nd;have FZ:∀s,made.count s<=K2.hold s:=λs=>by rw[kj.hold];omega
 have Po:∀s∈made,s<4294967296:=λs hs=>by have:=cR.bM (kj.ir cR hs);omega
 have qL:∀s,K.hold s≠0->live K.N s:=λs hs=>.inr (hK.ok.mid.held s hs);have agV:∀s d,K.N s=some d->K2.N s=some d:=λs d hd=>kj.N s d (by rw[mo.N];exact hd);have hfn:∀s,live K.N s->S2 s=S s:=λs hs=>kj.fn s (by rw[mo.N];exact hs);refine Ld.q ?_;refine Ld.n ?_;cases ok with
 |false=>
  refine ae.cK (Br.T (Ld.q ?_));refine Ld.n ?_;refine AH cR jy.dJ FZ kj.two Po λK3 C3 bi it j3 hl=>?_;have gB:∀s,K3.hold s=K.hold s:=λs=>by
   have a:=hl.hold s;have b:=kj.hold s;rw[eZ]at b;omega
  refine aN.mk (.skip (.skip (.skip (.dc (.skip .tail) _)))) (.inl (.inr ⟨rfl,⟨K3,S2,C3,rfl,j3,⟨by rw[hl.n,kj.n,mo.n],by rw[hl.cap,kj.cap,mo.cap],gB,λg=>?_,λr hr=>hfn r (qL r hr)⟩⟩,?_⟩))
  ·constructor
   ·rintro⟨s,hs,rfl⟩;have hs':K.hold s≠0:=by rw[<-gB];exact hs
    exact⟨s,hs',hfn s (qL s hs')⟩
   rintro⟨s,hs,rfl⟩;exact⟨s,by show K3.hold s≠0;rw[gB];exact hs,(hfn s (qL s hs)).symm⟩
  have:=jy.bad rfl;rw[mo.cap]at this;exact this
 |true=>
  obtain⟨hx,hxm⟩:=ho rfl;refine ae.cK (Br.F (Ld.q ?_));refine Ld.n ?_;have fin:∀(K3:Kd) (l:zL) (po:Array MapEntry) (C3:Hp),bP kp K3 S2 ord ah [] C3->(∀s d,K3.N s=some d->K2.N s=some d)->K3.n=K2.n->K3.cap=K2.cap->aE (kN .u32) vr1 po ck (BA l)->(∀s∈l,s∈made)->(∀s,K3.hold s=K.hold s+l.count s+if s=x/\2<=x then 1 else 0)->
    kf zQ g 217 #[ptr b9,ptr b1] ((b9,.cells #[ptr bq] 217 zZ)::(b1,.cells #[ptr kp] 53 zZ)::(LB++ux bq kp bm true po ck C3)) λH=>aN (kU kp K S ord ah LB f) (.returned (.tuple #[u32 x,.bool true,iv 0])) H:=by
   intro K3 l po C3 j3 hN3 hn3 ZI Pn hlm BE;refine AH j3 Pn (λs=>by rw[BE];omega) (λs hs=>kj.two s (hlm s hs)) (λs hs=>Po s (hlm s hs)) λK4 C4 bi it M9 hl=>?_;have ng:∀s,K4.hold s=K.hold s+if s=x/\2<=x then 1 else 0:=λs=>by
    have a:=hl.hold s;rw[BE]at a;omega
   have v5:live K4.N x:=by
    by_cases h2:x<2
    ·exact .inl h2
    refine .inr (M9.ok.mid.held x ?_);rw[ng,xad ⟨rfl,by omega⟩];omega
   refine aN.mk (.skip (.skip (.skip (.dc (.skip .tail) _)))) (.inl (.inl ⟨x,K4,S2,C4,rfl,rfl,M9,⟨by rw[hl.n,hn3,kj.n,mo.n],by rw[hl.cap,ZI,kj.cap,mo.cap],λs d hs=>jY hK.ok M9.ok (λs h=>by rw[ng];omega) (λs d d' h h'=>?_) _ s d hs (xai _),hfn,v5,hx,ng⟩⟩));have a:=hN3 s d' (hl.N s d' h');rw[agV s d h]at a;exact(xbh a).symm
  by_cases hm:x∈made
  ·refine aE.hit (k:=x) (x:=()) ju jy.dJ (.tail _ (.tail _ (xab _ (.tail _ (.head _))))) (o7.1 hm) ?_;rintro v rfl;refine ae.gtr (Br.T (Ld.q ?_));refine Ld.n ?_;refine aE.del (k:=x) ju jy.dJ (.tail _ (.tail _ (xab _ (.tail _ (.head _))))) λes' he=>⟨_,.tail (.tail ((cZ.tail (.head _)).cq LB)),?_⟩;rw[MD]at he;refine fin K2 _ es' C2 cR (λ_ _ h=>h) rfl rfl he (λs hs=>(xb1.1 hs).1) λs=>?_;rw[kj.hold,eZ];have Pp:=kj.two x hm;by_cases e1:s=x
   ·subst e1;have c1:made.count s=1:=by rw[fA.count,xad hm]
    have c2:(made.filter λr=>decide (¬r=s)).count s=0:=xdN.2 zI;rw[c1,c2,xad ⟨rfl,Pp⟩]
   have:(made.filter λr=>decide (¬r=x)).count s=made.count s:=List.count_filter (by simpa using e1);rw[this,xac (λh=>e1 h.1)];rfl
  refine aE.bO (k:=x) ju jy.dJ (.tail _ (.tail _ (xab _ (.tail _ (.head _))))) (o7.2 hm) ?_;refine ae.gtr (Br.F (Ld.q ?_));have v5:live K2.N x:=jy.vM hxm;by_cases BF:2<=x/\K2.hold x=65535
  ·have hKx:K.hold x=65535:=by
    have:=kj.hold x;rw[eZ,xdN.2 hm]at this;omega
   refine aa.eq (args:=#[ptr kp,u32 x]) (o8 cR v5 BF.1 BF.2) (ae.ia ?_);rw[show decide ((8:Int)=0)=false from rfl];refine AH cR jy.dJ FZ kj.two Po λK3 C3 bi it j3 hl=>?_;have gB:∀s,K3.hold s=K.hold s:=λs=>by
    have a:=hl.hold s;have b:=kj.hold s;rw[eZ]at b;omega
   refine aN.mk (.skip (.skip (.skip (.dc (.skip .tail) _)))) (.inr ⟨x,rfl,⟨K3,S2,C3,rfl,j3,⟨by rw[hl.n,kj.n,mo.n],by rw[hl.cap,kj.cap,mo.cap],gB,λg=>?_,λr hr=>hfn r (qL r hr)⟩⟩,BF.1,hKx,by rw[<-hx];exact(hfn x (qL x zO)).symm⟩);constructor
   ·rintro⟨s,hs,rfl⟩;have hs':K.hold s≠0:=by rw[<-gB];exact hs
    exact⟨s,hs',hfn s (qL s hs')⟩
   rintro⟨s,hs,rfl⟩;exact⟨s,by show K3.hold s≠0;rw[gB];exact hs,(hfn s (qL s hs)).symm⟩
  refine aa.fq (args:=#[ptr kp,u32 x]) (mP cR (r:=x) v5 (λh2=>by have:=cR.dN x;omega)) ?_;rintro w C3 ⟨rfl,K3,j3,m3⟩;refine ae.ia ?_;rw[show decide ((0:Int)=0)=true from rfl];refine fin K3 made es C3 j3 (λs d h=>by rw[<-m3.N];exact h) m3.n m3.cap jy.dJ (λ_ h=>h) λs=>?_;rw[m3.hold,kj.hold,eZ];split<;>omega
end
section
variable {kp bq bm:Nat} {K0:Kd} {S0:Nat->aq.Fn} {U:aq.Fn->Prop} {ord ah:zL}
theorem KU{t:Bool->Bool->Bool}{v r:Nat}{fv:zV}{LB:Hp}(hLq:Lo kp K0 S0 U ord ah bq bm t v fv LB)(ht:∀a,t a a=a)(hv:v<K0.n)(lj:WF K0.n (lv ah) K0.N)(pG:Interp K0.N S0)(jM:jH K0.n (lv ah))(kZ:aq.Ord K0.n (lv ah) ord)(hf:∀s,K0.hold s=65535->live K0.N s)
 {K:Kd}{S:Nat->aq.Fn}{made:zL}{es:Array MapEntry}{ck:Nat}{C:Hp}(hr:live K0.N r)(hS:x9 kp K0 S0 U ord ah K S made es ck C true)(hU:∀g,aD K0.n ord (λg=>g=QF t v (S0 r)) g->U g):
  Fc zQ 161 #[ptr bq,u32 r,iv (v:Int),fv] (LB++ux bq kp bm true es ck C) (W5 kp K0 S0 U ord ah bq bm LB K S made (QF t v (S0 r))):=by
 have fM:aW zQ 218=true:=by kernel_rfl
 have agW:=hLq;obtain⟨f0,ahe,amh,RP,_⟩:=agW;have hn:=hS.cT.n;refine aF λg=>IM λb1 _ b3 _=>?_;refine Ld.q ?_;refine Ld.n ?_;refine aa.rq (l9 hS.ks.rep (v:Int)) ?_;rw[xad zO];rintro w rfl;refine Ext.two λjc _=>(St.one (by exact .head _) rfl zI rfl ?_);intro bd _ mq _;refine St.one (by exact .head _) rfl zI rfl ?_;intro zx _;refine St.one (by exact .head _) rfl zI rfl ?_;refine Ld.q ?_;refine aJ.of rfl fM ?_;subst RP;refine aa.fq (args:=#[u32 r,ptr b1,ptr jc,ptr mq,ptr b3,ptr zx]) (SI (b1:=b1) (b3:=b3) (jc:=jc) (mq:=mq) (zx:=zx) (bd:=bd) fM hLq ht hv lj pG jM kZ hf _ r rfl K S made es ck C true #[] 0 hr hS ⟨[],aE.empty,λ_ y hy=>by cases hy⟩ hU) ?_;rintro w H ⟨x,K',S',made',es',bC,C',nw,Z4,Z6,rfl,rfl,F6,_,hA,ho⟩;exact aN.mk (.skip (.skip (.skip (.skip (.skip .tail))))) ⟨x,K',S',made',es',bC,C',nw,rfl,rfl,F6,hA,λh=>(ho h).2⟩
abbrev Th(b5:Nat)(b:Bool):Nat×Obj:=(b5,.cells #[.bool b] 4 zZ)
theorem E5{v b5:Nat}{b:Bool}{LB:Hp}(lj:WF K0.n (lv ah) K0.N)(pG:Interp K0.N S0)(jM:jH K0.n (lv ah))(hm:Th b5 b∈LB):Lo kp K0 S0 U ord ah bq bm (λx y=>if b then y else x) v (.func (.func 162) #[] #[ptr b5]) LB:=by
 refine⟨_,_,_,rfl,by kernel_rfl,λr d hd kB K S made es ck C hS hU=>?_⟩;have hr:live K0.N r:=.inr ⟨d,hd⟩;have RV:=lj.var hd;obtain⟨g1,g2,g3⟩:=gg (S:=S0) lj jM pG hr RV (by rw[an hd];exact xai _) false;obtain⟨t1,t2,t3⟩:=gg (S:=S0) lj jM pG hr RV (by rw[an hd];exact xai _) true;obtain⟨q1,q2⟩:=kR (N:=K0.N) hd;rw[q1]at g1 g2 g3;rw[q2]at t1 t2 t3;subst kB;refine aF λg=>IL λb1 _=>?_;refine Ld.mk (v:=.bool b) (by exact .tail _ (xae _ hm)) rfl ?_;refine Br.mk (λhb=>?_) (λhb=>?_)
 ·subst hb;refine Ld.f ?_;refine aN.mk .tail ⟨d.hi,K,S,made,es,ck,C,true,rfl,rfl,hS,.refl,λ_=>⟨?_,.inl t2⟩⟩;rw[hS.cT.fn _ t2];exact funext t1
 subst hb;refine Ld.f ?_;refine aN.mk .tail ⟨d.lo,K,S,made,es,ck,C,true,rfl,rfl,hS,.refl,λ_=>⟨?_,.inl g2⟩⟩;rw[hS.cT.fn _ g2];exact funext g1
theorem D0{v b1 b5:Nat}{e:Bool}{LB:Hp}(lj:WF K0.n (lv ah) K0.N)(pG:Interp K0.N S0)(jM:jH K0.n (lv ah))(kZ:aq.Ord K0.n (lv ah) ord)(hf:∀s,K0.hold s=65535->live K0.N s)(hm:Th b5 e∈LB)(h1:(b1,Obj.cells #[ptr bq] 217 zZ)∈LB):
  Lo kp K0 S0 U ord ah bq bm (λx y=>if e then x||y else x&&y) v (.func (.func 222) #[] #[ptr b1,ptr b5]) LB:=by
 refine⟨_,_,_,rfl,by kernel_rfl,λr d hd kB K S made es ck C hS hU=>?_⟩;have hr:live K0.N r:=.inr ⟨d,hd⟩;have RV:=lj.var hd;obtain⟨g1,g2,g3⟩:=gg (S:=S0) lj jM pG hr RV (by rw[an hd];exact xai _) false;obtain⟨t1,t2,t3⟩:=gg (S:=S0) lj jM pG hr RV (by rw[an hd];exact xai _) true;obtain⟨q1,q2⟩:=kR (N:=K0.N) hd;rw[q1]at g1 g2 g3;rw[q2]at t1 t2 t3;subst kB;have eq:QF (λx y=>if e then x||y else x&&y) d.v (S0 r)=jf e S0 d.lo d.hi:=by
  funext x
  rw[sG,g1,t1];rfl
 rw[eq]at hU⊢;refine aF λg=>HL λb _=>?_;refine Ld.mk (v:=ptr bq) (by exact .tail _ (xae _ h1)) rfl ?_;refine Ld.f ?_;refine Ld.f ?_;refine Ld.mk (v:=.bool e) (by exact .tail _ (xae _ hm)) rfl ?_;refine aa.fq (args:=#[ptr bq,u32 d.lo,u32 d.hi,.bool e]) (C:=ux bq kp bm true es ck C) (VI lj pG jM kZ hf g2 t2 hS hU) ?_;rintro w H ⟨x,K',S',made',es',bC,C',nw,rfl,rfl,F6,hA,ho⟩;exact aN.mk .tail ⟨x,K',S',made',es',bC,C',nw,rfl,rfl,F6,hA,ho⟩
end
section
variable {kp:Nat} {K:Kd} {S:Nat->aq.Fn} {ord ah tr:zL} {C:Hp}
abbrev rHp(b5 b3 b1:Nat)(b:Bool)(v r:Nat):Hp:=[Th b5 b,(b3,.cells #[iv (v:Int)] 3 zZ),(b1,.cells #[u32 r] 78 zZ)]
theorem oD.three{LB:Hp}{f:aq.Fn}{w:zV}{H:Hp}(h:oD kp K S ord ah LB f w H):∃x b e,w=.tuple #[x,b,e]:=by
 rcases h with⟨x,K',S',C',rfl,_⟩|⟨rfl,_⟩
 ·exact⟨_,_,_,rfl⟩
 exact⟨_,_,_,rfl⟩
theorem oD.drop{LB:Hp}{f:aq.Fn}{w:zV}{H:Hp}(h:oD kp K S ord ah LB f w H):∃C',aM H C'/\oD kp K S ord ah [] f w C':=by
 rcases h with⟨x,K',S',C',rfl,rfl,cX,hg⟩|⟨rfl,⟨K',S',C',rfl,cX,hk⟩,hn⟩
 ·exact⟨C',.right,.inl ⟨x,K',S',C',rfl,rfl,cX,hg⟩⟩
 exact⟨C',.right,.inr ⟨rfl,⟨K',S',C',rfl,cX,hk⟩,hn⟩⟩
theorem kU.PO{LB:Hp}{f:aq.Fn}{w:zV}{H:Hp}(h:kU kp K S ord ah LB f w H):∃x y z,w=.tuple #[x,y,z]:=by
 rcases h with h|⟨x,rfl,_⟩
 ·exact h.three
 exact⟨_,_,_,rfl⟩
theorem aN.X5{LB:Hp}{f:aq.Fn}{w:zV}{H:Hp}(h:kU kp K S ord ah LB f w H):aN (kU kp K S ord ah [] f) (.returned w) H:=by
 rcases h with h|⟨x,rfl,⟨K',S',C',rfl,cX,hk⟩,h2⟩
 ·obtain⟨C',h1,h2⟩:=h.drop;exact aN.mk h1 (.inl h2)
 exact aN.mk .right (.inr ⟨x,rfl,⟨K',S',C',rfl,cX,hk⟩,h2⟩)
theorem kW(hK:bP kp K S ord ah tr C){r v:Nat}{b:Bool}(hr:live K.N r)(hv:v<K.n):
  Fc zQ 106 #[ptr kp,u32 r,iv (v:Int),.bool b] C (kU kp K S ord ah [] (λx=>S r (ak.aB x v b))):=by
 have eq:QF (λx y=>if b then y else x) v (S r)=λx=>S r (ak.aB x v b):=by
  funext x;unfold QF;cases b<;>rfl
 rw[<-eq];refine aF λg=>Ju λb1 _ b3 _ b5 _=>?_;refine aa.fq (args:=#[ptr kp,.func (.func 160) #[] #[ptr b1,ptr b3,ptr b5]]) (C:=rHp b5 b3 b1 b v r++C) (Ka (f:=QF (λx y=>if b then y else x) v (S r)) hK λK1 C1 dL mo=>⟨_,_,_,rfl,by kernel_rfl,λbq bm hQ=>?_⟩) ?_
 ·intro g;refine IN (R:=aN _) ?_;unfold L160;refine Ld.q ?_;refine Ld.q ?_;have Rx:live K1.N r:=by rw[mo.N];exact hr
  refine aa.fq (args:=#[ptr bq,u32 r,iv (v:Int),.func (.func 162) #[] #[ptr b5]]) (C:=rHp b5 b3 b1 b v r++ux bq kp bm true #[] 0 C1)
   (KU (E5 dL.ok.wf dL.ok.mid.int dL.ok.lv (b:=b) (.head _)) (λa=>by cases b<;>rfl) (by rw[mo.n];exact hv) dL.ok.wf dL.ok.mid.int dL.ok.lv dL.od (λs hs=>.inr (dL.ok.mid.held s zO)) Rx hQ (λg hg=>by rw[mo.n]at hg;exact aV (λg h=>.inr h) hg)) ?_
  intro w H hO;exact aN.here hO
 intro w H hO;obtain⟨x,bb,e,rfl⟩:=hO.PO;exact Ext.mk rfl (Ext.mk rfl (Ext.mk rfl (aN.X5 hO)))
def qf(e:Bool)(v:Nat)(f:aq.Fn):aq.Fn:=QF (λx y=>if e then x||y else x&&y) v f
theorem xN(hK:bP kp K S ord ah tr C){r v:Nat}{e:Bool}(hr:live K.N r)(hv:v<K.n):
  Fc zQ 163 #[ptr kp,u32 r,iv (v:Int),.bool e] C (kU kp K S ord ah [] (qf e v (S r))):=by
 refine aF λg=>IK λb1 _ b3 _ b5 _=>?_;refine aa.fq (args:=#[ptr kp,.func (.func 221) #[] #[ptr b1,ptr b3,ptr b5]]) (C:=rHp b5 b3 b1 e v r++C) (Ka (f:=qf e v (S r)) hK λK1 C1 dL mo=>⟨_,_,_,rfl,by kernel_rfl,λbq bm hQ=>?_⟩) ?_
 ·intro g;refine HM (R:=aN _) ?_;unfold L221;intro b2 _;refine Ld.q ?_;refine Ld.q ?_;refine Ld.q ?_;have Rx:live K1.N r:=by rw[mo.N];exact hr
  have hf1:∀s,K1.hold s=65535->live K1.N s:=λs hs=>.inr (dL.ok.mid.held s zO);refine aa.fq (args:=#[ptr bq,u32 r,iv (v:Int),.func (.func 222) #[] #[ptr b2,ptr b5]]) (C:=((b2,Obj.cells #[ptr bq] 217 zZ)::rHp b5 b3 b1 e v r)++ux bq kp bm true #[] 0 C1)
   (KU (D0 dL.ok.wf dL.ok.mid.int dL.ok.lv dL.od hf1 (e:=e) (.tail _ (.head _)) (.head _)) (λa=>by cases e<;>cases a<;>rfl) (by rw[mo.n];exact hv) dL.ok.wf dL.ok.mid.int dL.ok.lv dL.od hf1 Rx hQ (λg hg=>by rw[mo.n]at hg;exact aV (λg h=>.inr h) hg)) ?_
  rintro w H ⟨x,K',S',made',es',bC,C',nw,rfl,rfl,F6,hA,ho⟩;exact aN.mk .tail ⟨x,K',S',made',es',bC,C',nw,rfl,rfl,F6,hA,ho⟩
 intro w H hO;obtain⟨x,bb,e,rfl⟩:=hO.PO;exact Ext.mk rfl (Ext.mk rfl (Ext.mk rfl (aN.X5 hO)))
end
end Go.Proofs
namespace Go.Sx
open Go
section
variable {P:Program} {g:Gh} {H:Hp}
def FcD(P:Program)(f:FuncId)(args:Array zV)(C:Hp)(Q:zV->Hp->Prop):Prop:=∀g,kT P g f args C (aN Q)
theorem kf.fn{f:FuncId}{args:Array zV}{C H:Hp}{c:Hp->Hp}{Q:zV->Hp->Prop}{K:Hp->Prop}(hh:bG C H c)(hc:FcD P f args C Q)(hk:∀v C',Q v C'->K (c C')):kf P g f args H K:=by
 intro w hw u;obtain⟨rfl,F,hp⟩:=hh.spec;have eH:Own g (C++F) w:=aM.perm (hp C) g w hw;refine((hc (g.add F)) w (Own.fe.1 eH) u).mono ?_;rintro e u' w' ⟨rfl,H',ho,v,C',rfl,he,hq⟩;have h1:Own g (H'++F) w':=Own.fe.2 ho;have h2:Own g (c H') w':=aM.perm (hp H').symm g w' h1;exact⟨rfl,c C',hh.dJ he g w' h2,⟨v,rfl⟩,hk _ _ hq⟩
end
end Go.Sx
set_option maxRecDepth 100000
namespace Go.Proofs
open Go Go.Sx
section
open aq
section
variable {kp:Nat} {K:Kd} {ord ah tr:zL} {C:Hp} {S:Nat->aq.Fn}
theorem Np(h:bP kp K S ord ah tr C){r:Nat}(hr:r<4294967296)(hh:2<=r->K.hold r≠0):∀g,L85 g (ptr kp) (u32 r) C (aN λv C'=>v=iv 0/\∃K',bP kp K' S ord ah [] C'/\Aj K K' r):=by
 have h0:=h;obtain⟨b,hC,hO⟩:=h.rep;intro g;unfold L85;refine ae.aI (Br.no λJ2 BJ=>?_);have fin:∀(K':Kd) C1,cQ kp K' ord ah tr C1->Ok K' S (lv ah)->Idle K'->Aj K K' r->J2 [] C1:=λK' C1 cX A0 v7 hm=>by
  refine BJ _ λgs=>?_;obtain⟨b',rfl,xY⟩:=cX;refine Nil.ptr (ai.mk (St.one (by exact .head _) rfl (by simp[ur.cells]) rfl ?_));have kZ:Ord K'.n (lv ah) ord:=by rw[hm.n];exact h.od
  refine aN.mk (nG:=({b' with vt:=.slice none 0 0,CR:=[]}:ur).hp kp K'.n) ?_ ⟨rfl,K',⟨⟨{b' with vt:=.slice none 0 0,CR:=[]},rfl,{xY with tr:=aT.nil}⟩,A0,kZ,v7,trivial⟩,hm⟩;refine .cons (.dc (.dc (.dc (.dc (.dc (.dc .nil _) _) _) _) _) _)
 refine ae.nB (b:=1) (Br.dec (λh2=>?_) (λh2=>?_));rotate_left
 ·exact JE.mk (fin K C h.rep h.ok h.idle ⟨rfl,rfl,λ_ _ h=>h,λs=>by rw[xac zO]⟩)
 have me:2<=r:=by omega
 have pD:=hh me;obtain⟨d,hd⟩:=h.ok.mid.held r pD;have hfu:=h.ok.mid.fit hd;have MT:=hO.ul;have hfit:r<K.ho.length:=by omega
 have hle:=h.dN r;refine aa.eq (vP h.rep hr (λs=>by have:=h.dN s;omega)) (ae.ia (Br.F ?_));subst hC;refine Nil.ptr (ai.mk (Ld.f ?_));refine hO.ho.ld (x:=((K.hold r:Nat):Int)) (bH hfit) (bG.sub (.cons (.app (.app (.app .left))))) (ae.cc (b:=1) (hO.ho.nu (x:=((K.hold r-1:Nat):Int)) (.cons (.app (.app (.app .left)))) (by rw[au];exact hfit) λTS ZB=>?_));rw[eY]at ZB;have g1:∀s,(K.ho.set r (K.hold r-1)).getD s 0=if s=r then K.hold r-1 else K.hold s:=λs=>gO hfit
 have hM:=h.ok.mid.drop (r:=r) (cC:=K.ho.set r (K.hold r-1)) zO zI (by rw[g1,xad rfl];omega) (λs hs=>by rw[g1,xac hs]);have dL:cQ kp {K with ho:=K.ho.set r (K.hold r-1)} ord ah tr (({b with CH:=TS}:ur).hp kp K.n):=⟨_,rfl,{hO with ho:=ZB,ul:=by simp;exact MT}⟩;have hho:∀s,(K.ho.set r (K.hold r-1)).getD s 0=if s=r/\2<=r then K.hold s-1 else K.hold s:=λs=>by
  rw[g1];by_cases e:s=r
  ·subst e;rw[xad rfl,xad ⟨rfl,me⟩]
  rw[xac e,xac (λh=>e h.1)]
 refine Nil.ptr (ai.mk (Ld.f ?_));refine ZB.ld (x:=((K.hold r-1:Nat):Int)) (by rw[bH (by simpa using hfit),g1,xad rfl]) (bG.sub (.cons (.app (.app (.app .left))))) (ae.eL (b:=0) (Br.dec (λh3=>?_) (λh3=>?_)));rotate_left
 ·rw[xac zO]at hM;exact JE.mk (fin {K with ho:=K.ho.set r (K.hold r-1)} _ dL ⟨hM,h.ok.pos,h.ok.lv,h.ok.wf⟩ h.idle ⟨rfl,rfl,λ_ _ h=>h,hho⟩)
 rw[xad zO]at hM;refine Nil.ptr (ai.mk ?_);have KH:jQ {K with ho:=K.ho.set r (K.hold r-1)} S iL (gR zero' [r]):=hM.congr (λ_=>xcW) λs _=>by
  unfold up gR zero';by_cases e:s=r
  ·subst e;simp
  simp[e,xa8 e]
 refine aa.fq (mI (P0:=zero') dL KH h.ok.pos (λt Sj h0=>?_) (h.bM (.inr ⟨d,hd⟩)) (λs=>by have:=h.EP s;show K.use s<_;omega)) ?_
 ·by_cases e:t=r
  ·subst e;exact⟨d,hd⟩
  have h0':0<zero' t+[r].count t:=h0;simp[zero',xa8 e]at h0'
 rintro w C2 ⟨rfl,K2,cR,Wn,T0,_,dS⟩;refine JE.mk (fin K2 _ cR ⟨Wn,T0,by rw[dS.n];exact h.ok.lv,Ku h.ok.wf Wn (λh=>dS.N h) dS.n⟩ (dS.idle h.idle) ⟨dS.n,dS.cap,λs e hs=>dS.N hs,λs=>?_⟩);show K2.ho.getD s 0=_;rw[dS.ho];exact hho s
theorem iS(h:bP kp K S ord ah tr C){r:Nat}(hr:r<4294967296)(hh:2<=r->K.hold r≠0):FcD zQ 85 #[ptr kp,u32 r] C (λv C'=>v=iv 0/\∃K',bP kp K' S ord ah [] C'/\Aj K K' r):=
 λg=>GG (Np h hr hh g)
end
end
section
open aq
section
variable {kp:Nat} {K:Kd} {S:Nat->aq.Fn} {ord ah tr:zL} {C:Hp}
theorem uu(B:Hp)(x:Nat):Rd zQ 105 #[u32 x,.bool true,iv 0] B (· =.tuple #[u32 x,iv 0]):=by
 exact aF λg=>qG (ae.cK (Br.F (Un.not (Br.no (bg.mk (.refl _) rfl)))))
theorem uv(B:Hp)(x:zV)(b:zV):Rd zQ 105 #[x,b,iv 9] B (· =.tuple #[u32 0,iv 9]):=by
 exact aF λg=>qG (ae.cK (Br.T (bg.mk (.refl _) rfl)))
theorem oJ(B:Hp)(x:Nat):Rd zQ 105 #[u32 x,.bool false,iv 0] B (· =.tuple #[u32 0,iv 8]):=by
 exact aF λg=>qG (ae.cK (Br.F (Un.not (Br.yes (bg.mk (.refl _) rfl)))))
theorem yo(hK:bP kp K S ord ah tr C){v:Nat}(hv:v<K.n):Rd zQ 103 #[ptr kp,iv (v:Int)] C (· =.tuple #[.int .u64 ((2^v:Nat):Int),.bool true]):=by
 have hn:=hK.bc.lT;refine aF λg=>Jw λJ hJ=>?_;refine ae.lss ?_;rw[xal zO];refine Split.go rfl (ae.AI (Split.go rfl (aa.eq (gM hK.rep) (ae.tJ ?_))));rw[xal zO];refine aL.mk (aL.mk (JE.mk (hJ _ _ λgs=>Br.no ?_)));have h2:2^v<18446744073709551616:=xaN (xbw zD (show v<64 by omega)) zD;refine ae.B9 (a:=1) (by simp[IntKind.bits];omega) (by rw[xa4];simpa[bF]using h2) ?_;rw[xa4];exact bg.mk (.refl _) rfl
theorem sr(hK:bP kp K S ord ah tr C){Y:Hp}{mask:Nat}{vr:zV}{refs:zL}(hm:mask<2^K.n)(hr:dI .u32 Y vr (iw refs))(hl:∀r∈refs,live K.N r)(cB:refs.length<=1048576):Rd zQ 104 #[ptr kp,.int .u64 (mask:Int),vr] (Y++C) (· =iv 0):=by
 have hn:=hK.bc.lT;refine aF λg=>Jv (ae.aI (Br.no (aa.eq (gM hK.rep) ?_)));have KK:mask<18446744073709551616:=xaN hm (xaw (n:=2) zD hn);refine ae.iI (by simpa[bF]using KK) ?_;rw[xa0,xdu hm];refine ae.cK (Br.F (hr.bX ?_));rw[au];refine⟨λvs H=>∃i:Nat,vs=[iv (i:Int)]/\i<=refs.length/\H=Y++C,λvs _=>refs.length-bN vs 0,JE.mk ⟨0,rfl,xaO _,rfl⟩,?_⟩;rintro w7 H ⟨i,⟨⟩,hi,rfl⟩ gs;refine ae.fy (Br.dec (λhlt=>?_) (λhlt=>?_))
 ·have hlr:=hl _ (xaJ hlt);refine hr.ld (n:=((refs[i]:Nat):Int)) (de (xaa hlt)) (λ_ h=>xae _ h) ?_;refine aa.eq (args:=#[ptr kp,u32 refs[i]]) (iP hK.rep (by have:=hK.bM hlr;omega)) ?_;rw[ca.2 hlr];refine Ext.two λb15 _=>(St.whole (r:=got K.N refs[i]) (by exact .head _) rfl (aP _ _).1 (aP _ _).2 ?_);exact ae.cK (Br.F (ae.inc (aC.of .tail ⟨i+1,rfl,hlt,rfl⟩ (by simp only[bN];omega))))
 exact bg.mk (.refl _) rfl
theorem oD.done{f:aq.Fn}{w:zV}{H:Hp}(h:oD kp K S ord ah [] f w H):(∃x,w=.tuple #[u32 x,.bool true,iv 0]/\aaq kp K S ord ah tr f (.tuple #[u32 x,iv 0]) H)\/(w=.tuple #[u32 0,.bool false,iv 9]/\aaq kp K S ord ah tr f (.tuple #[u32 0,iv 9]) H):=by
 rcases h with⟨x,K',S',C',rfl,rfl,cX,hg⟩|⟨rfl,⟨K',S',C',rfl,cX,hk⟩,hn⟩
 ·exact .inl ⟨x,rfl,.inl ⟨x,K',S',rfl,cX,hg⟩⟩
 exact .inr ⟨rfl,.inr ⟨rfl,⟨K',S',[],cX,.inl rfl,hk⟩,hn⟩⟩
theorem ru{n v:Nat}(hv:v<n):2^v<2^n:=xbw zD hv
theorem vi(hK:bP kp K S ord ah tr C){r v:Nat}{b:Bool}(hr:live K.N r)(hv:v<K.n):
  Fc zQ 70 #[ptr kp,u32 r,iv (v:Int),.bool b] C (j9 kp K S ord ah tr (λx=>S r (ak.aB x v b))):=by
 refine aF λg=>Oo (aa.eq (yo hK hv) (Ext.two (ae.AI (c6.and (a:=true) false (λ_=>Un.not ⟨rfl,rfl⟩) rfl λgs=>Br.no ?_))));refine ax.int (e:=78) zK zK zK λbs=>?_;refine aa.eq (args:=#[ptr kp,.int .u64 ((2^v:Nat):Int),.slice (some ⟨bs,0,none⟩) 1 1]) (sr (Y:=[(bs,Obj.cells (aA .u32 [(r:Int)]) 78 zZ)]) (refs:=[r]) hK (ru hv) ((aT.made (T:=78) (kd:=.u32) (b:=bs) (iw [r])).ints) (λs hs=>by simp at hs;subst hs;exact hr) (by show 1<=1048576;omega)) (ae.cK (Br.F ?_));refine aa.fq (args:=#[ptr kp,u32 r,iv (v:Int),.bool b]) (kW hK hr hv) ?_;rintro w H (hO|⟨x,rfl,⟨K',S',C',rfl,cX,hk⟩,h2,hfx,Wk⟩);rotate_left
 ·exact Ext.mk rfl (Ext.mk rfl (Ext.mk rfl (aa.eq (oJ _ x) (Ext.mk rfl (Ext.mk rfl (aN.mk .tail (.inr ⟨rfl,⟨K',S',[],cX,.inl rfl,hk⟩,x,h2,hfx,Wk⟩)))))))
 rcases hO.done (tr:=tr)with⟨x,rfl,hD⟩|⟨rfl,hD⟩
 ·exact Ext.mk rfl (Ext.mk rfl (Ext.mk rfl (aa.eq (uu _ x) (Ext.mk rfl (Ext.mk rfl (aN.mk .tail (.inl hD)))))))
 exact Ext.mk rfl (Ext.mk rfl (Ext.mk rfl (aa.eq (uv _ _ _) (Ext.mk rfl (Ext.mk rfl (aN.mk .tail (.inl hD)))))))
end
theorem Fits.mono{A B:aq.Fn->Prop}{cap:Nat}(h:∀g,A g->B g)(hB:Fits B cap):Fits A cap:=by
 classical
 obtain⟨ku,⟨l,h1,h2,h3⟩,hc⟩:=hB;refine⟨(l.filter λg=>decide (A g)).length,⟨l.filter λg=>decide (A g),h1.filter _,rfl,λg=>?_⟩,?_⟩
 ·rw[xb1,xaK,<-h3];exact⟨λx=>⟨h g x,x⟩,λx=>x.2⟩
 have:=xbY (λg=>decide (A g)) l;omega
def bitsOf(mask n:Nat):zL:=(List.range n).filter λi=>mask.testBit i
theorem ov(mask n:Nat):bitsOf mask (n+1)=bitsOf mask n++if mask.testBit n then [n]else []:=by
 unfold bitsOf;rw[xce,xb3,xbx,List.filter_nil]
def nH(e:Bool)(vs:zL)(f:aq.Fn):aq.Fn:=vs.foldl (λg v=>qf e v g) f
theorem Cq(e:Bool)(vs:zL)(v:Nat)(f:aq.Fn):nH e (vs++[v]) f=qf e v (nH e vs f):=by
 unfold nH;rw[xdo];rfl
section
variable {kp:Nat} {K K':Kd} {S S':Nat->aq.Fn} {ord ah bR tr cu o:zL} {C C':Hp}
theorem jl{n:Nat}{ord:zL}{f:aq.Fn}(hf:∀v,¬bT f v)(g:aq.Fn):¬aD n ord (λg=>g=f) g:=by
 rintro⟨l,hl,hg,hh⟩;rw[uC (l:=n) (λj _=>hf _) l zO g hg]at hh;exact hf _ hh
theorem fW.DI{K':Kd}{S':Nat->aq.Fn}{f:aq.Fn}{x:Nat}{cu:zL}{C':Hp}(h:fW K S K' S' f x)(hK:bP kp K S ord ah tr C)(cX:bP kp K' S' ord ah cu C'):Fits (aD K.n ord (λg=>K.held S g\/g=f)) K.cap:=by
 have hc:=cX.ok.size cX.od;have hr:=cX.ok.mid.room;have h2:=cX.ok.mid.cap;rw[h.n]at hc;refine Fits.mono (λg hg=>?_) ⟨K'.used-2,hc,by rw[<-h.cap];omega⟩;have old:∀g,K.held S g->K'.held S' g:=λg ⟨s,hs,e⟩=>⟨s,by show K'.hold s≠0;have:K.hold s≠0:=hs;rw[h.hold];omega,by rw[h.fn s (.inr (hK.ok.mid.held s hs)),e]⟩;by_cases h2:2<=x
 ·refine aV (λg hg=>?_) hg;rcases hg with hg|rfl
  ·exact old g hg
  exact⟨x,by show K'.hold x≠0;rw[h.hold,xad ⟨rfl,h2⟩];omega,h.is.symm⟩
 rcases(lR g).1 hg with hg|hg
 ·exact aV old hg
 refine absurd hg (jl (λv=>?_) g);rintro⟨y,hy⟩;rw[<-h.is]at hy;have hi:=cX.ok.mid.int;obtain rfl|rfl:x=0\/x=1:=by omega
 ·exact hy (by rw[hi.zero,hi.zero])
 exact hy (by rw[hi.one,hi.one])
theorem cr(hK:bP kp K S ord ah tr C){r:Nat}(hl:live K.N r):2<=r↔∃v,bT (S r) v:=by
 constructor
 ·intro h2;obtain⟨d,hd⟩:∃d,K.N r=some d:=by
   rcases hl with hl|hl
   ·omega
   exact hl
  exact⟨d.v,gj hK.ok.wf hK.ok.lv hK.ok.mid.int hd⟩
 rintro⟨v,y,hy⟩;have hi:=hK.ok.mid.int;by_cases h2:2<=r
 ·exact h2
 exfalso;obtain rfl|rfl:r=0\/r=1:=by omega
 ·exact hy (by rw[hi.zero,hi.zero])
 exact hy (by rw[hi.one,hi.one])
end
section
variable {kp:Nat} {K:Kd} {S:Nat->aq.Fn} {ord ah tr:zL} {C:Hp}
def Bw(kp:Nat)(K:Kd)(S:Nat->aq.Fn)(ord ah tr:zL)(e:Bool)(mask r:Nat)(w:zV)(H:Hp):Prop:=
 (∃x K' S',w=.tuple #[u32 x,iv 0]/\bP kp K' S' ord ah [] H/\fW K S K' S' (nH e (bitsOf mask K.n) (S r)) x)\/
 (w=.tuple #[u32 0,iv 9]/\(∃K' S' cu,bP kp K' S' ord ah cu H/\(cu=[]\/cu=tr)/\Kept K S K' S')/\∃i,i<K.n/\mask.testBit i=true/\¬Fits (aD K.n ord (λg=>(K.held S g\/(bitsOf mask i≠[]/\g=nH e (bitsOf mask i) (S r)))\/g=qf e i (nH e (bitsOf mask i) (S r)))) K.cap)
def xB(kp:Nat)(K:Kd)(S:Nat->aq.Fn)(ord ah tr:zL)(e:Bool)(mask r:Nat)(w:zV)(H:Hp):Prop:=
 Bw kp K S ord ah tr e mask r w H\/(w=.tuple #[u32 0,iv 8]/\(∃K' S' cu,bP kp K' S' ord ah cu H/\(cu=[]\/cu=tr)/\Kept K S K' S')/\
  ((mask=0/\2<=r/\K.hold r=65535)\/∃i x,i<K.n/\mask.testBit i=true/\2<=x/\live K.N x/\S x=qf e i (nH e (bitsOf mask i) (S r))/\65534<=K.hold x/\((bitsOf mask i≠[]/\S x=nH e (bitsOf mask i) (S r))\/K.hold x=65535)))
structure Way(K:Kd)(S:Nat->aq.Fn)(K1:Kd)(S1:Nat->aq.Fn)(ch:Bool)(cur:Nat):Prop where
 n:K1.n=K.n
 cap:K1.cap=K.cap
 N:∀s d,K.N s=some d->K1.N s=some d
 fn:∀s,live K.N s->S1 s=S s
 live:live K1.N cur
 hold:∀s,K1.hold s=K.hold s+if ch=true/\s=cur/\2<=cur then 1 else 0
def TQ(K:Kd)(S:Nat->aq.Fn)(ord:zL)(e:Bool)(mask r i:Nat):Prop:=Fits (aD K.n ord (λg=>(K.held S g\/(bitsOf mask i≠[]/\g=nH e (bitsOf mask i) (S r)))\/g=qf e i (nH e (bitsOf mask i) (S r)))) K.cap
def Lr(K:Kd)(S:Nat->aq.Fn)(e:Bool)(mask r i:Nat):Prop:=∃x,2<=x/\live K.N x/\S x=qf e i (nH e (bitsOf mask i) (S r))/\65534<=K.hold x/\((bitsOf mask i≠[]/\S x=nH e (bitsOf mask i) (S r))\/K.hold x=65535)
def Ak(K:Kd)(S:Nat->aq.Fn)(ord:zL)(e:Bool)(mask r i:Nat):Prop:=∀j,j<i->mask.testBit j=true->TQ K S ord e mask r j/\¬Lr K S e mask r j
def tX(kp:Nat)(K:Kd)(S:Nat->aq.Fn)(ord ah tr:zL)(e:Bool)(mask r:Nat)(w:zV)(H:Hp):Prop:=
 (∃x K' S',w=.tuple #[u32 x,iv 0]/\bP kp K' S' ord ah [] H/\fW K S K' S' (nH e (bitsOf mask K.n) (S r)) x/\(mask=0->¬(2<=r/\K.hold r=65535))/\Ak K S ord e mask r K.n)\/
 (w=.tuple #[u32 0,iv 9]/\(∃K' S' cu,bP kp K' S' ord ah cu H/\(cu=[]\/cu=tr)/\Kept K S K' S')/\∃i,i<K.n/\mask.testBit i=true/\¬TQ K S ord e mask r i/\Ak K S ord e mask r i)\/
 (w=.tuple #[u32 0,iv 8]/\(∃K' S' cu,bP kp K' S' ord ah cu H/\(cu=[]\/cu=tr)/\Kept K S K' S')/\((mask=0/\2<=r/\K.hold r=65535)\/∃i,i<K.n/\mask.testBit i=true/\Lr K S e mask r i/\Ak K S ord e mask r i))
theorem tX.full{e:Bool}{mask r:Nat}{w:zV}{H:Hp}(h:tX kp K S ord ah tr e mask r w H):xB kp K S ord ah tr e mask r w H:=by
 rcases h with⟨x,K',S',e1,h1,h2,_⟩|⟨e1,h1,i,hi,hb,hf,_⟩|⟨e1,h1,h2|⟨i,hi,hb,⟨x,a,b,c,d,f⟩,_⟩⟩
 ·exact .inl (.inl ⟨x,K',S',e1,h1,h2⟩)
 ·exact .inl (.inr ⟨e1,h1,i,hi,hb,hf⟩)
 ·exact .inr ⟨e1,h1,.inl h2⟩
 exact .inr ⟨e1,h1,.inr ⟨i,x,hi,hb,a,b,c,d,f⟩⟩
theorem SH(hK:bP kp K S ord ah tr C){r mask:Nat}{e:Bool}(hr:live K.N r)(hm:mask<2^K.n):
  Fc zQ 107 #[ptr kp,u32 r,.int .u64 (mask:Int),.bool e] C (tX kp K S ord ah tr e mask r):=by
 have hn:=hK.bc.lT;have KK:mask<18446744073709551616:=xaN hm (xaw (n:=2) zD hn);have qL:∀s,K.hold s≠0->live K.N s:=λs hs=>.inr (hK.ok.mid.held s hs);refine aF λg=>Js (ax.int (e:=78) zK zK zK λbs=>?_);refine aa.eq (args:=#[ptr kp,.int .u64 (mask:Int),.slice (some ⟨bs,0,none⟩) 1 1]) (sr (Y:=[(bs,Obj.cells (aA .u32 [(r:Int)]) 78 zZ)]) (refs:=[r]) hK hm ((aT.made (T:=78) (kd:=.u32) (b:=bs) (iw [r])).ints) (λs hs=>by simp at hs;subst hs;exact hr) (by show 1<=1048576;omega)) (ae.cK (Br.F ?_));refine ae.eL (b:=0) (Br.dec (λh0=>?_) (λh0=>?_))
 ·subst h0;by_cases hfr:2<=r/\K.hold r=65535
  ·exact aa.eq (args:=#[ptr kp,u32 r]) (o8 hK hr hfr.1 hfr.2) (ae.cK (Br.T (aN.mk .tail (.inr (.inr ⟨rfl,⟨K,S,tr,hK,.inr rfl,.refl K S⟩,.inl ⟨rfl,hfr.1,hfr.2⟩⟩)))))
  refine aa.fq (args:=#[ptr kp,u32 r]) (mP hK (r:=r) hr (λh2=>by have:=hK.dN r;omega)) ?_;rintro w C1 ⟨rfl,K1,dL,mo⟩;refine ae.cK (Br.F (aN.mk .tail (.inl ⟨r,K1,S,rfl,dL,⟨mo.n,mo.cap,λs d hd=>by rw[mo.N];exact hd,λ_ _=>rfl,by rw[mo.N];exact hr,?_,λs=>by rw[mo.hold];split<;>omega⟩,λ_=>hfr,λj hj hb=>by rw[xcB]at hb;cases hb⟩)));have:bitsOf 0 K.n=[]:=by unfold bitsOf;rw[xdm];intro a _;simp
  rw[this];rfl
 refine aa.eq (gM hK.rep) ?_;refine⟨λvs H=>∃(i cur:Nat) (ch:Bool) (K1:Kd) (S1:Nat->aq.Fn) (C1:Hp) (Xi:zL),vs=[u32 cur,.bool ch,iv (i:Int)]/\i<=K.n/\H=(bs,Obj.cells (aA .u32 [(r:Int)]) 78 zZ)::C1/\bP kp K1 S1 ord ah Xi C1/\
   (ch=decide (bitsOf mask i≠[]))/\S1 cur=nH e (bitsOf mask i) (S r)/\Way K S K1 S1 ch cur/\(ch=true->Xi=[])/\Ak K S ord e mask r i,λvs _=>K.n-bN vs 2,
  JE.mk ⟨0,r,false,K,S,C,tr,rfl,xaO _,rfl,hK,rfl,rfl,⟨rfl,rfl,λ_ _ h=>h,λ_ _=>rfl,hr,λs=>by rw[xac (λh=>by cases h.1)];rfl⟩,(λh=>by cases h),λj hj=>absurd hj (xcF _)⟩,?_⟩
 rintro w16 w17 w18 H ⟨i,cur,ch,K1,S1,C1,Xi,hvs,hi,rfl,dL,kx,ja,hw,eU,hD⟩ gs;simp only[xav,xaW]at hvs;obtain⟨rfl,rfl,rfl⟩:=hvs;refine ae.fy (Br.dec (λhlt=>?_) (λhlt=>?_));rotate_left
 ·obtain rfl:i=K.n:=by omega
  have hne:bitsOf mask K.n≠[]:=λhb=>h0 (by
   apply xaV;intro j;rw[xcB];by_cases hj:j<K.n
   ·cases ht:mask.testBit j with
    |false=>rfl
    |true=>
     have:j∈bitsOf mask K.n:=xb1.2 ⟨xaM.2 hj,ht⟩;rw[hb]at this;cases this
   exact xb6 (xaN hm (xaw zD zO)))
  have hct:ch=true:=by rw[kx];exact xam hne
  rw[eU hct]at dL;exact aN.mk .tail (.inl ⟨cur,K1,S1,rfl,dL,⟨hw.n,hw.cap,hw.N,hw.fn,hw.live,ja,λs=>by rw[hw.hold];simp[hct]⟩,λh=>absurd h h0,hD⟩)
 intro J hJ;refine ae.iI (by simpa[bF]using KK) (ae.jD (b:=1) (by have:mask>>>i<=mask:=xbm _ _;simp[bF];omega) (by simp[bF]) ?_);have M4:(mask>>>i) &&&1=(mask.testBit i).toNat:=by
  rw[xbR,xc9,xa0];have:mask/2^i%2<2:=xbC _ zD;by_cases h:mask/2^i%2=1
  ·simp[h]
  have:mask/2^i%2=0:=by omega
  simp[this]
 rw[M4];refine ae.eL (b:=0) ?_;cases ht:mask.testBit i with
 |false=>
  refine Br.T (JE.mk (hJ _ _ _ λgs=>?_));refine ae.inc ?_;have eb:bitsOf mask (i+1)=bitsOf mask i:=by rw[ov,ht];simp
  exact aC.mk ⟨i+1,cur,ch,K1,S1,C1,Xi,rfl,hlt,rfl,dL,by rw[eb];exact kx,by rw[eb];exact ja,hw,eU,λj hj hb=>by
    rcases xdL.1 hj with h|rfl
    ·exact hD j h hb
    rw[ht]at hb;cases hb⟩ (by simp only[bN];omega)
 |true=>
  refine Br.F ?_;have eb:bitsOf mask (i+1)=bitsOf mask i++[i]:=by rw[ov,ht];simp
  have hh1:∀s,K1.hold s≠0->live K1.N s:=λs hs=>.inr (dL.ok.mid.held s hs);refine aa.fq (args:=#[ptr kp,u32 cur,iv (i:Int),.bool e]) (xN dL hw.live (by rw[hw.n];exact hlt)) ?_;rintro w H ((⟨x,K2,S2,C2,rfl,rfl,cR,hg⟩|⟨rfl,⟨K2,S2,C2,rfl,cR,hk⟩,hno⟩)|⟨x,rfl,⟨K2,S2,C2,rfl,cR,hk⟩,Pp,hfx,Wk⟩)
  ·refine Ext.mk rfl (Ext.mk rfl (Ext.mk rfl (aa.eq (uu _ x) (Ext.two λJ38 h38=>?_))));have fn2:∀s,live K.N s->S2 s=S s:=λs hs=>(hg.fn s (bA hw.N hs)).trans (hw.fn s hs);have hnew:TQ K S ord e mask r i/\¬Lr K S e mask r i:=by
    constructor
    ·have h3:=hg.DI dL cR;rw[hw.n,hw.cap,ja]at h3;refine Fits.mono (λg T5=>?_) h3;have old:∀g,K.held S g->K1.held S1 g:=λg ⟨s,hs,e⟩=>⟨s,by show K1.hold s≠0;have:K.hold s≠0:=hs;rw[hw.hold];omega,e.trans (hw.fn s (qL s hs)).symm⟩;by_cases h2:2<=cur
     ·refine aV (λg hh=>hh.imp (λhh=>?_) id) T5;rcases hh with hh|⟨hb,rfl⟩
      ·exact old g hh
      exact⟨cur,by show K1.hold cur≠0;rw[hw.hold,xad ⟨by rw[kx];exact xam hb,rfl,h2⟩];omega,ja.symm⟩
     rcases(lR g).1 T5 with T5|T5
     ·rcases(lR g).1 T5 with T5|T5
      ·exact aV (λg hh=>.inl (old g hh)) T5
      refine absurd (aV (λg hh=>hh.2) T5) (jl (λv hv=>h2 ?_) g);rw[<-ja]at hv;exact(cr dL hw.live).2 ⟨v,hv⟩
     exact aV (λg hh=>.inr hh) T5
    rintro⟨x',me,hl',F6,pD,hor⟩;obtain rfl:x'=x:=cR.ok.wf.same cR.ok.lv cR.ok.mid.int (bA hg.N (bA hw.N hl')) hg.live λy=>by rw[fn2 x' hl',F6,hg.is,ja]
    have h1:=hg.hold x';rw[xad ⟨rfl,me⟩,hw.hold]at h1;have h3:=cR.dN x';rcases hor with⟨hb,hp⟩|hp
    ·have hxc:x'=cur:=dL.ok.wf.same dL.ok.lv dL.ok.mid.int (bA hw.N hl') hw.live λy=>by rw[hw.fn x' hl',hp,ja]
     rw[xad ⟨by rw[kx];exact xam hb,hxc,by omega⟩]at h1;omega
    split at h1<;>omega
   have hD':Ak K S ord e mask r (i+1):=λj hj hb=>by
    rcases xdL.1 hj with h|rfl
    ·exact hD j h hb
    exact hnew
   have go:∀K3 C3,bP kp K3 S2 ord ah [] C3->Way K S K3 S2 true x->J38 [] ((bs,Obj.cells (aA .u32 [(r:Int)]) 78 zZ)::C3):=λK3 C3 j3 hw3=>by
    refine h38 _ λgs=>?_;refine ae.cK (Br.F (JE.mk (hJ _ _ _ λgs=>?_)));exact ae.inc (aC.mk ⟨i+1,x,true,K3,S2,C3,[],rfl,hlt,rfl,j3,by rw[eb];exact(xam zI).symm,by rw[hg.is,eb,Cq,ja],hw3,λ_=>rfl,hD'⟩ (by simp only[bN];omega))
   cases ch with
   |false=>
    refine Br.no (JE.mk (go K2 H cR ⟨hg.n.trans hw.n,hg.cap.trans hw.cap,λs d hd=>hg.N s d (hw.N s d hd),fn2,hg.live,λs=>?_⟩));have a:=hw.hold s;rw[xac (λh=>by cases h.1)]at a;rw[hg.hold,a];simp
   |true=>
    have hlc:=hw.live;have hcc:2<=cur->K2.hold cur≠0:=λh2=>by rw[hg.hold,hw.hold,xad ⟨rfl,rfl,h2⟩];omega
    refine Br.yes (aa.fq (args:=#[ptr kp,u32 cur]) (mY cR (r:=cur) (by have:=dL.bM hlc;omega) hcc) ?_);rintro w C3 ⟨rfl,K3,j3,f3⟩;have gB:∀s,K3.hold s=K.hold s+if s=x/\2<=x then 1 else 0:=λs=>by
     have a:=hw.hold s;simp only[xcj]at a;rw[f3.hold,hg.hold,a];split<;>split<;>omega
    refine JE.mk (go K3 C3 j3 ⟨by rw[f3.n,hg.n,hw.n],by rw[f3.cap,hg.cap,hw.cap],λs d hs=>jY hK.ok j3.ok (λs h=>by rw[gB];omega) (λs d d' h h'=>?_) _ s d hs (xai _),fn2,?_,λs=>by rw[gB];simp⟩)
    ·have a:=f3.N s d' h';rw[hg.N s d (hw.N s d h)]at a;exact(xbh a).symm
    by_cases h2:x<2
    ·exact .inl h2
    refine .inr (j3.ok.mid.held x ?_);rw[gB,xad ⟨rfl,by omega⟩];omega
  ·refine Ext.mk rfl (Ext.mk rfl (Ext.mk rfl (aa.eq (uv _ _ _) (Ext.two λJ38 h38=>?_))));have uj:∀g,K1.held S1 g->K.held S g\/(bitsOf mask i≠[]/\g=nH e (bitsOf mask i) (S r)):=by
    rintro g ⟨s,hs,rfl⟩;have hs':K1.hold s≠0:=hs;by_cases hz:K.hold s=0
    ·right;rw[hw.hold,hz]at hs';by_cases hx:ch=true/\s=cur/\2<=cur
     ·refine⟨?_,by rw[hx.2.1];exact ja⟩;have:=hx.1;rw[kx]at this;exact xb8 this
     rw[xac hx]at hs';omega
    exact .inl ⟨s,hz,hw.fn s (qL s hz)⟩
   have Dp:¬Fits (aD K.n ord (λg=>(K.held S g\/(bitsOf mask i≠[]/\g=nH e (bitsOf mask i) (S r)))\/g=qf e i (nH e (bitsOf mask i) (S r)))) K.cap:=λhfit=>hno (by
    rw[hw.n,hw.cap,ja];exact Fits.mono (λg hg=>aV (λg h=>h.imp (uj g) id) hg) hfit)
   have go:∀K3 C3 PK,bP kp K3 S2 ord ah PK C3->PK=[]->(∀s,K3.hold s=K.hold s)->K3.n=K2.n->K3.cap=K2.cap->J38 [] ((bs,Obj.cells (aA .u32 [(r:Int)]) 78 zZ)::C3):=λK3 C3 PK j3 Rv BE hn3 ZI=>by
    refine h38 _ λgs=>?_;refine ae.cK (Br.T ?_);have hfn:∀s,K.hold s≠0->S2 s=S s:=λs hs=>(hk.fn s (by rw[hw.hold];omega)).trans (hw.fn s (qL s hs));refine aN.mk .tail (.inr (.inl ⟨rfl,⟨K3,S2,PK,j3,.inl Rv,⟨by rw[hn3,hk.n,hw.n],by rw[ZI,hk.cap,hw.cap],BE,λg=>?_,hfn⟩⟩,i,hlt,ht,Dp,hD⟩));constructor
    ·rintro⟨s,hs,rfl⟩;have hs':K.hold s≠0:=by rw[<-BE];exact hs
     exact⟨s,hs',hfn s hs'⟩
    rintro⟨s,hs,rfl⟩;exact⟨s,by show K3.hold s≠0;rw[BE];exact hs,(hfn s hs).symm⟩
   cases ch with
   |false=>
    refine Br.no (JE.mk (go K2 H [] cR rfl (λs=>?_) rfl rfl));rw[hk.hold,hw.hold,xac (λh=>by cases h.1)];rfl
   |true=>
    have hcc:2<=cur->K2.hold cur≠0:=λh2=>by rw[hk.hold,hw.hold,xad ⟨rfl,rfl,h2⟩];omega
    refine Br.yes (aa.fq (args:=#[ptr kp,u32 cur]) (mY cR (r:=cur) (by have:=dL.bM hw.live;omega) hcc) ?_);rintro w C3 ⟨rfl,K3,j3,f3⟩;refine JE.mk (go K3 C3 [] j3 rfl (λs=>?_) f3.n f3.cap);have a:=hw.hold s;simp only[xcj]at a;rw[f3.hold,hk.hold,a];split<;>omega
  refine Ext.mk rfl (Ext.mk rfl (Ext.mk rfl (aa.eq (oJ _ x) (Ext.two λJ38 h38=>?_))));have v5:live K.N x:=qL x (by have:=hw.hold x;split at this<;>omega);have Sd:S x=qf e i (nH e (bitsOf mask i) (S r)):=by rw[<-ja,<-Wk];exact(hw.fn x v5).symm
  have agi:65534<=K.hold x/\((bitsOf mask i≠[]/\S x=nH e (bitsOf mask i) (S r))\/K.hold x=65535):=by
   have:=hw.hold x;by_cases hx:ch=true/\x=cur/\2<=cur
   ·rw[xad hx]at this;refine⟨by omega,.inl ⟨?_,?_⟩⟩
    ·have h1:=hx.1;rw[kx]at h1;exact xb8 h1
    rw[<-ja,<-hx.2.1];exact(hw.fn x v5).symm
   rw[xac hx]at this;exact⟨by omega,.inr zO⟩
  have go:∀K3 C3 PK,bP kp K3 S2 ord ah PK C3->PK=[]->(∀s,K3.hold s=K.hold s)->K3.n=K2.n->K3.cap=K2.cap->J38 [] ((bs,Obj.cells (aA .u32 [(r:Int)]) 78 zZ)::C3):=λK3 C3 PK j3 Rv BE hn3 ZI=>by
   refine h38 _ λgs=>?_;refine ae.cK (Br.T ?_);have hfn:∀s,K.hold s≠0->S2 s=S s:=λs hs=>(hk.fn s (by rw[hw.hold];omega)).trans (hw.fn s (qL s hs));refine aN.mk .tail (.inr (.inr ⟨rfl,⟨K3,S2,PK,j3,.inl Rv,⟨by rw[hn3,hk.n,hw.n],by rw[ZI,hk.cap,hw.cap],BE,λg=>?_,hfn⟩⟩,.inr ⟨i,hlt,ht,⟨x,Pp,v5,Sd,agi⟩,hD⟩⟩));constructor
   ·rintro⟨s,hs,rfl⟩;have hs':K.hold s≠0:=by rw[<-BE];exact hs
    exact⟨s,hs',hfn s hs'⟩
   rintro⟨s,hs,rfl⟩;exact⟨s,by show K3.hold s≠0;rw[BE];exact hs,(hfn s hs).symm⟩
  cases ch with
  |false=>
   refine Br.no (JE.mk (go K2 H [] cR rfl (λs=>?_) rfl rfl));rw[hk.hold,hw.hold,xac (λh=>by cases h.1)];rfl
  |true=>
   have hcc:2<=cur->K2.hold cur≠0:=λh2=>by rw[hk.hold,hw.hold,xad ⟨rfl,rfl,h2⟩];omega
   refine Br.yes (aa.fq (args:=#[ptr kp,u32 cur]) (mY cR (r:=cur) (by have:=dL.bM hw.live;omega) hcc) ?_);rintro w C3 ⟨rfl,K3,j3,f3⟩;refine JE.mk (go K3 C3 [] j3 rfl (λs=>?_) f3.n f3.cap);have a:=hw.hold s;simp only[xcj]at a;rw[f3.hold,hk.hold,a];split<;>omega
end
section
variable {kp:Nat} {K:Kd} {S:Nat->aq.Fn} {ord ah tr:zL} {C:Hp}
theorem Bw.two{e:Bool}{mask r:Nat}{w:zV}{H:Hp}(h:Bw kp K S ord ah tr e mask r w H):∃x y,w=.tuple #[x,y]:=by
 rcases h with⟨x,K',S',rfl,_⟩|⟨rfl,_⟩
 ·exact⟨_,_,rfl⟩
 exact⟨_,_,rfl⟩
theorem xB.two{e:Bool}{mask r:Nat}{w:zV}{H:Hp}(h:xB kp K S ord ah tr e mask r w H):∃x y,w=.tuple #[x,y]:=by
 rcases h with h|⟨rfl,_⟩
 ·exact h.two
 exact⟨_,_,rfl⟩
theorem SB(hK:bP kp K S ord ah tr C){r mask:Nat}(hr:live K.N r)(hm:mask<2^K.n):
  Fc zQ 71 #[ptr kp,u32 r,.int .u64 (mask:Int)] C (tX kp K S ord ah tr true mask r):=by
 refine aF λg=>On (aa.fq (SH hK hr hm) ?_);intro w H hO;obtain⟨x,y,rfl⟩:=hO.full.two;exact Ext.mk rfl (Ext.mk rfl (aN.here hO))
theorem Sw(hK:bP kp K S ord ah tr C){r mask:Nat}(hr:live K.N r)(hm:mask<2^K.n):
  Fc zQ 72 #[ptr kp,u32 r,.int .u64 (mask:Int)] C (tX kp K S ord ah tr false mask r):=by
 refine aF λg=>Om (aa.fq (SH hK hr hm) ?_);intro w H hO;obtain⟨x,y,rfl⟩:=hO.full.two;exact Ext.mk rfl (Ext.mk rfl (aN.here hO))
def One(p:Prop)(a:Nat):Prop:=(a=1/\p)\/(a=0/\¬p)
theorem fW.one{K':Kd}{S':Nat->aq.Fn}{f:aq.Fn}{x:Nat}{cu:zL}{C':Hp}(h:fW K S K' S' f x)(cX:bP kp K' S' ord ah cu C'){s:Nat}(hs:aq.live K.N s)(h2:2<=s):∃a,One (S s=f) a/\K'.hold s=K.hold s+a:=by
 have hfn:=h.fn s hs;by_cases e:s=x
 ·exact⟨1,.inl ⟨rfl,by rw[<-hfn,e];exact h.is⟩,by rw[h.hold,xad ⟨e,by omega⟩]⟩
 refine⟨0,.inr ⟨rfl,λhf=>e ?_⟩,by rw[h.hold,xac (λh=>e h.1)]⟩;exact cX.ok.wf.same cX.ok.lv cX.ok.mid.int (bA h.N hs) h.live λy=>by rw[hfn,hf,h.is]
def Uk(K:Kd)(S:Nat->aq.Fn)(ord:zL)(lo:aq.Fn):Prop:=Fits (aD K.n ord (λg=>K.held S g\/g=lo)) K.cap
def Yg(K:Kd)(S:Nat->aq.Fn)(ord:zL)(lo hi:aq.Fn):Prop:=Fits (aD K.n ord (λg=>(K.held S g\/g=lo)\/g=hi)) K.cap
def CF3(K:Kd)(S:Nat->aq.Fn)(ord:zL)(lo hi f:aq.Fn):Prop:=Fits (aD K.n ord (λg=>((K.held S g\/g=lo)\/g=hi)\/g=f)) K.cap
def Xe(K:Kd)(S:Nat->aq.Fn)(lo:aq.Fn):Prop:=∃x,2<=x/\live K.N x/\S x=lo/\K.hold x=65535
def CU2(K:Kd)(S:Nat->aq.Fn)(lo hi:aq.Fn):Prop:=∃x a,2<=x/\live K.N x/\One (S x=lo) a/\S x=hi/\K.hold x+a=65535
def CU3(K:Kd)(S:Nat->aq.Fn)(lo hi f:aq.Fn):Prop:=∃x a b,2<=x/\live K.N x/\One (S x=lo) a/\One (S x=hi) b/\S x=f/\K.hold x+a+b=65535
def Lu(kp:Nat)(K:Kd)(S:Nat->aq.Fn)(ord ah tr:zL)(lo hi f:aq.Fn)(w:zV)(H:Hp):Prop:=
 (∃x K' S',w=.tuple #[u32 x,iv 0]/\bP kp K' S' ord ah [] H/\fW K S K' S' f x/\(Uk K S ord lo/\¬Xe K S lo)/\(Yg K S ord lo hi/\¬CU2 K S lo hi)/\CF3 K S ord lo hi f/\¬CU3 K S lo hi f)\/
 (w=.tuple #[u32 0,iv 9]/\(∃K' S' cu,bP kp K' S' ord ah cu H/\(cu=[]\/cu=tr)/\Kept K S K' S')/\
  (¬Uk K S ord lo\/((Uk K S ord lo/\¬Xe K S lo)/\¬Yg K S ord lo hi)\/((Uk K S ord lo/\¬Xe K S lo)/\(Yg K S ord lo hi/\¬CU2 K S lo hi)/\¬CF3 K S ord lo hi f)))\/
 (w=.tuple #[u32 0,iv 8]/\(∃K' S' cu,bP kp K' S' ord ah cu H/\(cu=[]\/cu=tr)/\Kept K S K' S')/\
  (Xe K S lo\/((Uk K S ord lo/\¬Xe K S lo)/\CU2 K S lo hi)\/((Uk K S ord lo/\¬Xe K S lo)/\(Yg K S ord lo hi/\¬CU2 K S lo hi)/\CU3 K S lo hi f)))
theorem One.uniq{p:Prop}{a b:Nat}(h:One p a)(h':One p b):a=b:=by
 rcases h with⟨rfl,h⟩|⟨rfl,h⟩<;>rcases h' with⟨rfl,h'⟩|⟨rfl,h'⟩
 ·rfl
 ·exact absurd h h'
 ·exact absurd h' h
 rfl
theorem fW.AL{K':Kd}{S':Nat->aq.Fn}{f:aq.Fn}{x:Nat}{cu:zL}{C':Hp}(h:fW K S K' S' f x)(cX:bP kp K' S' ord ah cu C'){s:Nat}(hs:aq.live K.N s)(h2:2<=s)(hf:S s=f):K.hold s<65535:=by
 obtain rfl:s=x:=cX.ok.wf.same cX.ok.lv cX.ok.mid.int (bA h.N hs) h.live λy=>by rw[h.fn s hs,hf,h.is]
 have h1:=h.hold s;rw[xad ⟨rfl,h2⟩]at h1;have:=cX.dN s;omega
theorem fW.more{K':Kd}{S':Nat->aq.Fn}{f:aq.Fn}{x:Nat}{cu:zL}{C':Hp}{P:aq.Fn->Prop}(h:fW K S K' S' f x)(hK:bP kp K S ord ah tr C)(cX:bP kp K' S' ord ah cu C')(hF:Fits (aD K'.n ord (λg=>K'.held S' g\/P g)) K'.cap):Fits (aD K.n ord (λg=>(K.held S g\/g=f)\/P g)) K.cap:=by
 rw[h.n,h.cap]at hF;refine Fits.mono (λg hg=>?_) hF;have old:∀g,K.held S g->K'.held S' g:=λg ⟨s,hs,e⟩=>⟨s,by show K'.hold s≠0;have:K.hold s≠0:=hs;rw[h.hold];omega,e.trans (h.fn s (.inr (hK.ok.mid.held s hs))).symm⟩;by_cases h2:2<=x
 ·refine aV (λg hh=>hh.imp (λhh=>?_) id) hg;rcases hh with hh|rfl
  ·exact old g hh
  exact⟨x,by show K'.hold x≠0;rw[h.hold,xad ⟨rfl,h2⟩];omega,h.is.symm⟩
 rcases(lR g).1 hg with hg|hg
 ·rcases(lR g).1 hg with hg|hg
  ·exact aV (λg hh=>.inl (old g hh)) hg
  refine absurd hg (jl (λv hv=>h2 ?_) g);rw[<-h.is]at hv;exact(cr cX h.live).2 ⟨v,hv⟩
 exact aV (λg hh=>.inr hh) hg
theorem Z8(hK:bP kp K S ord ah tr C){r v h:Nat}(hr:live K.N r)(hv:v<K.n)(hh:live K.N h):
  Fc zQ 73 #[ptr kp,u32 r,iv (v:Int),u32 h] C (Lu kp K S ord ah tr (λx=>S r (ak.aB x v false)) (λx=>S r (ak.aB x v true)) (λx=>if S h x then S r (ak.aB x v true)else S r (ak.aB x v false))):=by
 have uA:1<=2^K.n:=xel;have qL:∀s,K.hold s≠0->live K.N s:=λs hs=>.inr (hK.ok.mid.held s hs);refine aF λg=>Ol (aa.eq (yo hK hv) (Ext.two (ae.AI (c6.and (a:=true) false (λ_=>Un.not ⟨rfl,rfl⟩) rfl λgs=>Br.no ?_))));refine ax.Rf (e:=78) zK zK zK λbs=>?_;refine aa.rq (args:=#[ptr kp,.int .u64 ((2^v:Nat):Int),.slice (some ⟨bs,0,none⟩) 2 2]) (sr (Y:=[(bs,Obj.cells (aA .u32 [(r:Int),(h:Int)]) 78 zZ)]) (refs:=[r,h]) hK (ru hv) ((aT.made (T:=78) (kd:=.u32) (b:=bs) (iw [r,h])).ints) (λs hs=>by
  simp only[xaj,xaR,xbl]at hs;rcases hs with rfl|rfl
  ·exact hr
  exact hh) (by show 2<=1048576;omega)) ?_
 rintro w rfl;refine ae.cK (Br.F (aa.fq (args:=#[ptr kp,u32 r,iv (v:Int),.bool false]) (kW hK hr hv) ?_));rintro w H (hO|⟨x,rfl,⟨K1,S1,C1,rfl,dL,hk⟩,Pp,hfx,Wk⟩);rotate_left
 ·exact Ext.mk rfl (Ext.mk rfl (Ext.mk rfl (aa.eq (oJ _ x) (Ext.two (ae.cK (Br.T (aN.mk .tail (.inr (.inr ⟨rfl,⟨K1,S1,[],dL,.inl rfl,hk⟩,.inl ⟨x,Pp,qL x zO,Wk,hfx⟩⟩)))))))))
 rcases hO with⟨x1,K1,S1,C1,rfl,rfl,dL,g1⟩|⟨rfl,⟨K1,S1,C1,rfl,dL,hk⟩,hno⟩;rotate_left
 ·exact Ext.mk rfl (Ext.mk rfl (Ext.mk rfl (aa.eq (uv _ _ _) (Ext.two (ae.cK (Br.T (aN.mk .tail (.inr (.inl ⟨rfl,⟨K1,S1,[],dL,.inl rfl,hk⟩,.inl hno⟩)))))))))
 refine Ext.mk rfl (Ext.mk rfl (Ext.mk rfl (aa.eq (uu _ x1) (Ext.two (ae.cK (Br.F ?_))))));have p1:Uk K S ord (λx=>S r (ak.aB x v false))/\¬Xe K S (λx=>S r (ak.aB x v false)):=⟨g1.DI hK dL,λ⟨x,h2,hl,hx,h5⟩=>by have:=g1.AL dL hl h2 hx;omega⟩;have Rx:=bA g1.N hr;have e1:S1 r=S r:=g1.fn r hr;have hh1:=bA g1.N hh;have l1:=g1.live;have eZ:=g1.hold;have RN:∀g,K1.held S1 g->K.held S g\/g=λx=>S r (ak.aB x v false):=g1.held qL;refine aa.fq (args:=#[ptr kp,u32 r,iv (v:Int),.bool true]) (kW dL Rx (by rw[g1.n];exact hv)) ?_;intro w H hO;rw[e1]at hO;rcases hO with(⟨x2,K2,S2,C2,rfl,rfl,cR,g2⟩|⟨rfl,⟨K2,S2,C2,rfl,cR,hk⟩,hno⟩)|⟨x,rfl,⟨K2,S2,C2,rfl,cR,hk⟩,Pp,hfx,Wk⟩;rotate_left
 ·refine Ext.mk rfl (Ext.mk rfl (Ext.mk rfl (aa.eq (uv _ _ _) (Ext.two (ae.cK (Br.T (kf.fn (args:=#[ptr kp,u32 x1]) (.cons .here) (iS cR (r:=x1) (by have:=dL.bM l1;omega) (λh2=>by rw[hk.hold,eZ,xad ⟨rfl,h2⟩];omega)) ?_)))))));rintro w C3 ⟨rfl,K3,j3,f3⟩;have BE:∀s,K3.hold s=K.hold s:=λs=>by
   rw[f3.hold,hk.hold,eZ];split<;>omega
  have hfn:∀s,K.hold s≠0->S2 s=S s:=λs hs=>(hk.fn s (by rw[eZ];omega)).trans (g1.fn s (qL s hs));refine aN.mk .tail (.inr (.inl ⟨rfl,⟨K3,S2,[],j3,.inl rfl,⟨by rw[f3.n,hk.n,g1.n],by rw[f3.cap,hk.cap,g1.cap],BE,λg=>?_,hfn⟩⟩,.inr (.inl ⟨p1,λhfit=>hno ?_⟩)⟩))
  ·constructor
   ·rintro⟨s,hs,rfl⟩;have hs':K.hold s≠0:=by rw[<-BE];exact hs
    exact⟨s,hs',hfn s hs'⟩
   rintro⟨s,hs,rfl⟩;exact⟨s,by show K3.hold s≠0;rw[BE];exact hs,(hfn s hs).symm⟩
  rw[g1.n,g1.cap];exact Fits.mono (λg hg=>aV (λg h=>h.imp (RN g) id) hg) hfit
 ·refine Ext.mk rfl (Ext.mk rfl (Ext.mk rfl (aa.eq (oJ _ x) (Ext.two (ae.cK (Br.T ?_))))));have v5:live K.N x:=qL x (by have:=eZ x;split at this<;>omega);obtain⟨a,ha,hka⟩:=g1.one dL v5 Pp;have Sd:S x=λx=>S r (ak.aB x v true):=by rw[<-Wk];exact(g1.fn x v5).symm
  refine kf.fn (args:=#[ptr kp,u32 x1]) (.cons .here) (iS cR (r:=x1) (by have:=dL.bM l1;omega) (λh2=>by rw[hk.hold,eZ,xad ⟨rfl,h2⟩];omega)) ?_;rintro w C3 ⟨rfl,K3,j3,f3⟩;have BE:∀s,K3.hold s=K.hold s:=λs=>by
   rw[f3.hold,hk.hold,eZ];split<;>omega
  have hfn:∀s,K.hold s≠0->S2 s=S s:=λs hs=>(hk.fn s (by rw[eZ];omega)).trans (g1.fn s (qL s hs));refine aN.mk .tail (.inr (.inr ⟨rfl,⟨K3,S2,[],j3,.inl rfl,⟨by rw[f3.n,hk.n,g1.n],by rw[f3.cap,hk.cap,g1.cap],BE,λg=>?_,hfn⟩⟩,.inr (.inl ⟨p1,x,a,Pp,v5,ha,Sd,by omega⟩)⟩));constructor
  ·rintro⟨s,hs,rfl⟩;have hs':K.hold s≠0:=by rw[<-BE];exact hs
   exact⟨s,hs',hfn s hs'⟩
  rintro⟨s,hs,rfl⟩;exact⟨s,by show K3.hold s≠0;rw[BE];exact hs,(hfn s hs).symm⟩
 refine Ext.mk rfl (Ext.mk rfl (Ext.mk rfl (aa.eq (uu _ x2) (Ext.two (ae.cK (Br.F ?_))))));have g2i:=g2.is;have p2:Yg K S ord (λx=>S r (ak.aB x v false)) (λx=>S r (ak.aB x v true))/\¬CU2 K S (λx=>S r (ak.aB x v false)) (λx=>S r (ak.aB x v true)):=⟨g1.more hK dL (g2.DI dL cR),λ⟨x,a,h2,hl,ha,hx,h5⟩=>by
  obtain⟨a',dM,e⟩:=g1.one dL hl h2;have:=ha.uniq dM;have:=g2.AL cR (bA g1.N hl) h2 (by rw[g1.fn x hl,hx]);omega⟩
 have hh2:=bA g2.N hh1;have l12:=bA g2.N l1;have l2:=g2.live;have fS:=g2.hold;have afQ:∀s,K1.hold s≠0->live K1.N s:=λs hs=>.inr (dL.ok.mid.held s hs);have ZC:∀g,K2.held S2 g->(K.held S g\/g=λx=>S r (ak.aB x v false))\/g=λx=>S r (ak.aB x v true):=λg hg=>(g2.held afQ g hg).imp (RN g) id;have eh:S2 h=S h:=(g2.fn h hh1).trans (g1.fn h hh);have ex1:S2 x1=λx=>S r (ak.aB x v false):=(g2.fn x1 l1).trans g1.is;have RQ:∀s,live K.N s->S2 s=S s:=λs hs=>(g2.fn s (bA g1.N hs)).trans (g1.fn s hs);refine aa.fq (args:=#[ptr kp,u32 h,u32 x2,u32 x1]) (zG cR hh2 l2 l12) ?_;intro w H hO;rw[eh,ex1,g2.is]at hO;rcases hO with(⟨x3,K3,S3,rfl,j3,g3⟩|⟨rfl,⟨K3,S3,PK,j3,_,hk⟩,hno⟩)|⟨rfl,⟨K3,S3,PK,j3,_,hk⟩,x,Pp,hfx,Wk⟩
 ·apply Ext.two;have gB:=g3.hold;refine kf.fn (args:=#[ptr kp,u32 x2]) (.cons .here) (iS j3 (r:=x2) (by have:=cR.bM l2;omega) (λh2=>by rw[gB,fS,xad ⟨rfl,h2⟩];omega)) ?_;rintro w C4 ⟨rfl,K4,M9,f4⟩;have ng:∀s,K4.hold s=K1.hold s+if s=x3/\2<=x3 then 1 else 0:=λs=>by
   rw[f4.hold,gB,fS];split<;>split<;>omega
  refine kf.fn (args:=#[ptr kp,u32 x1]) (.cons .here) (iS M9 (r:=x1) (by have:=dL.bM l1;omega) (λh2=>by rw[ng,eZ,xad ⟨rfl,h2⟩];omega)) ?_;rintro w C5 ⟨rfl,K5,KI,f5⟩;have n8:∀s,K5.hold s=K.hold s+if s=x3/\2<=x3 then 1 else 0:=λs=>by
   rw[f5.hold,ng,eZ];split<;>split<;>omega
  have v5:live K5.N x3:=by
   by_cases h2:x3<2
   ·exact .inl h2
   refine .inr (KI.ok.mid.held x3 ?_);rw[n8,xad ⟨rfl,by omega⟩];omega
  have agk:∀s,live K.N s->S3 s=S s:=λs hs=>(g3.fn s (bA g2.N (bA g1.N hs))).trans (RQ s hs);refine aN.mk .tail (.inl ⟨x3,K5,S3,rfl,KI,⟨by rw[f5.n,f4.n,g3.n,g2.n,g1.n],by rw[f5.cap,f4.cap,g3.cap,g2.cap,g1.cap],λs d hs=>jY hK.ok KI.ok (λs h=>by rw[n8];omega) (λs d d' h h'=>?_) _ s d hs (xai _),agk,v5,g3.is,n8⟩,p1,p2,?_,?_⟩);rotate_left
  ·have h3:=g2.more dL cR (P:=λg=>g=λx=>if S h x then S r (ak.aB x v true)else S r (ak.aB x v false)) (g3.DI cR j3);have h4:=g1.more hK dL (P:=λg=>(g=λx=>S r (ak.aB x v true))\/g=λx=>if S h x then S r (ak.aB x v true)else S r (ak.aB x v false)) (Fits.mono (λg hg=>aV (λg h=>or_assoc.2 h) hg) h3);exact Fits.mono (λg hg=>aV (λg h=>or_assoc.1 h) hg) h4
  ·rintro⟨x,a,b,h2,hl,ha,hb,hx,h5⟩;obtain⟨a',dM,e1⟩:=g1.one dL hl h2;obtain⟨b',hb',e2⟩:=g2.one cR (bA g1.N hl) h2;rw[g1.fn x hl]at hb';have:=ha.uniq dM;have:=hb.uniq hb';have:=g3.AL j3 (bA g2.N (bA g1.N hl)) h2 (by rw[RQ x hl,hx]);omega
  have a:=f4.N s d' (f5.N s d' h');rw[g3.N s d (g2.N s d (g1.N s d h))]at a;exact(xbh a).symm
 ·apply Ext.two;have gB:=hk.hold;refine kf.fn (args:=#[ptr kp,u32 x2]) (.cons .here) (iS j3 (r:=x2) (by have:=cR.bM l2;omega) (λh2=>by rw[gB,fS,xad ⟨rfl,h2⟩];omega)) ?_;rintro w C4 ⟨rfl,K4,M9,f4⟩;have ng:∀s,K4.hold s=K1.hold s:=λs=>by
   rw[f4.hold,gB,fS];split<;>omega
  refine kf.fn (args:=#[ptr kp,u32 x1]) (.cons .here) (iS M9 (r:=x1) (by have:=dL.bM l1;omega) (λh2=>by rw[ng,eZ,xad ⟨rfl,h2⟩];omega)) ?_;rintro w C5 ⟨rfl,K5,KI,f5⟩;have n8:∀s,K5.hold s=K.hold s:=λs=>by
   rw[f5.hold,ng,eZ];split<;>omega
  have hfn:∀s,K.hold s≠0->S3 s=S s:=λs hs=>(hk.fn s (by rw[fS,eZ];omega)).trans (RQ s (qL s hs));refine aN.mk .tail (.inr (.inl ⟨rfl,⟨K5,S3,[],KI,.inl rfl,⟨by rw[f5.n,f4.n,hk.n,g2.n,g1.n],by rw[f5.cap,f4.cap,hk.cap,g2.cap,g1.cap],n8,λg=>?_,hfn⟩⟩,.inr (.inr ⟨p1,p2,λhfit=>hno ?_⟩)⟩))
  ·constructor
   ·rintro⟨s,hs,rfl⟩;have hs':K.hold s≠0:=by rw[<-n8];exact hs
    exact⟨s,hs',hfn s hs'⟩
   rintro⟨s,hs,rfl⟩;exact⟨s,by show K5.hold s≠0;rw[n8];exact hs,(hfn s hs).symm⟩
  rw[g2.n,g2.cap,g1.n,g1.cap];exact Fits.mono (λg hg=>aV (λg h=>h.imp (ZC g) id) hg) hfit
 apply Ext.two;have gB:=hk.hold;have v5:live K.N x:=qL x (by have:=fS x;have:=eZ x;split at* <;>split at* <;>omega);obtain⟨a,ha,hka⟩:=g1.one dL v5 Pp;obtain⟨b,hb,hkb⟩:=g2.one cR (bA g1.N v5) Pp;rw[g1.fn x v5]at hb;have Sd:S x=λx=>if S h x then S r (ak.aB x v true)else S r (ak.aB x v false):=by rw[<-Wk];exact(RQ x v5).symm
 refine kf.fn (args:=#[ptr kp,u32 x2]) (.cons .here) (iS j3 (r:=x2) (by have:=cR.bM l2;omega) (λh2=>by rw[gB,fS,xad ⟨rfl,h2⟩];omega)) ?_;rintro w C4 ⟨rfl,K4,M9,f4⟩;have ng:∀s,K4.hold s=K1.hold s:=λs=>by
  rw[f4.hold,gB,fS];split<;>omega
 refine kf.fn (args:=#[ptr kp,u32 x1]) (.cons .here) (iS M9 (r:=x1) (by have:=dL.bM l1;omega) (λh2=>by rw[ng,eZ,xad ⟨rfl,h2⟩];omega)) ?_;rintro w C5 ⟨rfl,K5,KI,f5⟩;have n8:∀s,K5.hold s=K.hold s:=λs=>by
  rw[f5.hold,ng,eZ];split<;>omega
 have hfn:∀s,K.hold s≠0->S3 s=S s:=λs hs=>(hk.fn s (by rw[fS,eZ];omega)).trans (RQ s (qL s hs));refine aN.mk .tail (.inr (.inr ⟨rfl,⟨K5,S3,[],KI,.inl rfl,⟨by rw[f5.n,f4.n,hk.n,g2.n,g1.n],by rw[f5.cap,f4.cap,hk.cap,g2.cap,g1.cap],n8,λg=>?_,hfn⟩⟩,.inr (.inr ⟨p1,p2,x,a,b,Pp,v5,ha,hb,Sd,by omega⟩)⟩));constructor
 ·rintro⟨s,hs,rfl⟩;have hs':K.hold s≠0:=by rw[<-n8];exact hs
  exact⟨s,hs',hfn s hs'⟩
 rintro⟨s,hs,rfl⟩;exact⟨s,by show K5.hold s≠0;rw[n8];exact hs,(hfn s hs).symm⟩
end
end
section
theorem BR{n:Nat}(hn:n<=16)(B:Hp):Rd zQ 266 #[iv (n:Int)] B (· =iv ((ak.wN n:Nat):Int)):=by
 refine aF λg=>GZ ?_;have h1:1<<<n<=65536:=by rw[xa4];exact xaw (n:=2) zD hn
 refine ae.B9 (a:=1) (b:=n) (by simp[IntKind.bits];omega) (by simp[bF];omega) (ae.iI (b:=6) (by simp[bF];omega) (⟨_,_,_,rfl,rfl,?_⟩));refine bg.mk (.refl _) ?_;have:1<<<n>>>6=2^n/64:=by rw[xa4,xa0]
 rw[this];congr 1;unfold ak.wN;rw[Nat.max_def];split<;>split<;>omega
theorem KL{n:Nat}(hn:n<=16)(B:Hp):Rd zQ 267 #[iv (n:Int)] B (· =.int .u64 ((ak.dG n:Nat):Int)):=by
 refine aF λg=>GY (ae.tJ (a:=n) (b:=6) (Br.dec (λh=>?_) (λh=>?_)))
 ·exact bg.mk (.refl _) (by unfold ak.dG;rw[xad h];rfl)
 have h1:2^n<=32:=xaw (n:=2) zD (by omega:n<=5);have h2:2^2^n<=2^32:=xaw zD h1;have h3:=xbv (2^n);refine ae.nP (a:=1) (b:=n) ?_;rw[xa4,xbk zO];refine ae.nP (a:=1) ?_;rw[xa4,xbk zO];exact ae.cc (b:=1) (bg.mk (.refl _) (by unfold ak.dG;rw[xac h]))
theorem MM{n:Nat}{ws:zL}(hn:n<=16)(hl:ws.length=ak.wN n)(hw:∀w∈ws,w<18446744073709551616){w:Nat}(hg:ws[ws.length-1]? =some w):
  (m8 w (ak.dG n)=0)↔ak.eE n ws:=by
 have key:∀w,w<18446744073709551616->(m8 w (ak.dG n)=0↔w<=ak.dG n):=by
  intro w hw;constructor
  ·intro h;have:w&&&ak.dG n=w:=by
    apply xaV;intro j;have:=xch (λx=>x.testBit j) h;simp only[dy,xcB]at this;rw[xbi];cases h1:w.testBit j<;>cases h2:(ak.dG n).testBit j<;>simp_all
   rw[<-this];exact xc7
  intro h;have:=ak.wQ h;unfold m8;rw[this,Nat.xor_self]
 constructor
 ·intro h;refine⟨hn,hl,λu hu=>?_⟩;by_cases h6:6<=n
  ·unfold ak.dG;rw[xad h6];have:=hw u hu;omega
  have h1:ws.length=1:=by rw[hl,ak.JG zO]
  obtain⟨x,rfl⟩:=List.length_eq_one_iff.1 h1;simp at hg hu;subst hg;subst hu;exact(key _ (hw _ zI)).1 h
 intro h;exact(key w (hw w (xau hg))).2 (h.full w (xau hg))
theorem DF{B:Hp}{v:zV}{t:Tb}(ht:EF B v t):Rd zQ 268 #[v] B (· =.bool (decide (TF t))):=by
 obtain⟨tn,ws⟩:=t;obtain⟨s,rfl,hs,hw⟩:=ht;simp only at hs hw⊢;refine aF λg=>GX λb1 _ J hJ=>?_;have hno:¬TF ⟨tn,ws⟩->JE J [.bool true] ((b1,.cells (Value.cells (.agg #[iv tn,s])) 175 zZ)::B):=λh=>
  JE.mk (hJ _ _ λgs=>Br.yes (bg.mk .tail (by rw[xal h])))
 refine DR.self ?_;refine ai.mk (Ld.mk zM rfl ?_);refine ae.lss (Br.dec (λh0=>hno λh=>by have:=h.1;simp only at this;omega) (λh0=>?_));obtain⟨n,rfl⟩:∃n:Nat,tn=n:=⟨tn.toNat,by omega⟩;have hTF:TF ⟨(n:Int),ws⟩↔ak.eE n ws:=by unfold TF;simp
 refine ai.mk (Ld.mk zM rfl ?_);refine ae.nB (b:=16) (aL.mk (Br.dec (λh1=>hno λh=>by have:=(hTF.1 h).xP;omega) (λh1=>?_)));refine ai.mk (Ld.mk zM rfl ?_);refine hs.bX ?_;refine ai.mk (Ld.mk zM rfl ?_);intro F;refine aa.eq (BR zO B) (⟨(by repeat (first|exact aM.refl _|apply aM.cons|apply aM.skip|apply aM.dc|apply aM.iH)),?_⟩);rw[au];refine ae.CJ (aL.mk ?_);simp only[xah];by_cases hl:ws.length=ak.wN n
 case neg=>rw[show decide (ws.length≠ak.wN n)=true by simp[hl]];exact hno λh=>hl (hTF.1 h).len
 rw[show decide (ws.length≠ak.wN n)=false by simp[hl]];refine JE.mk (hJ _ _ λgs=>Br.no ?_);have hpos:=ak.Yk n;obtain⟨w,hg⟩:∃w,ws[ws.length-1]? =some w:=⟨_,xaa zO⟩;refine DR.self ?_;refine ai.mk (Ld.mk zM rfl ?_);refine ai.mk (Ld.mk zM rfl ?_);refine hs.bX ?_;rw[au];refine ae.xK (b:=1) (by have:=ak.ye (n:=n) zO;simp[bF];omega) zO (hs.ld (de hg) zS ?_);refine ai.mk (Ld.mk zM rfl ?_);refine aa.eq (KL zO B) (⟨(by repeat (first|exact aM.refl _|apply aM.cons|apply aM.skip|apply aM.dc|apply aM.iH)),?_⟩);refine ae.D9 (by have:=hw w (xau hg);simpa[bF]using this) (by have:=ak.rL n;simpa[bF]using this) (ae.eL (b:=0) (bg.mk .tail ?_));congr 1;exact xcm.2 ((MM zO hl hw hg).trans hTF.symm)
theorem DE{B:Hp}{v:zV}{ts:List Tb}(ht:jF B v ts)(cB:ts.length<2^62):Rd zQ 238 #[v] B (· =.bool (decide (∀t∈ts,TF t/\some t.n=ts.head?.map Tb.n))):=by
 refine aF λg=>Hx (ht.bX ?_);refine⟨λvs H=>bZ B H/\∃k:Nat,vs=[iv (k:Int)]/\k<=ts.length/\∀i t,i<k->ts[i]? =some t->TF t/\some t.n=ts.head?.map Tb.n,λvs _=>ts.length-bN vs 0,JE.mk ⟨.refl _,0,rfl,by omega,by omega⟩,?_⟩;rintro w H ⟨hg,k,⟨⟩,hk,aG⟩ gs;refine ae.fy (Br.dec (λhlt=>?_) (λhlt=>?_))
 ·obtain⟨t,ny⟩:∃t,ts[k]? =some t:=⟨_,xaa hlt⟩;obtain⟨t0,VT⟩:∃t,ts[0]? =some t:=⟨_,xaa zO⟩;have hh:ts.head?.map Tb.n=some t0.n:=by rw[List.head?_eq_getElem?,VT];rfl
  have htB:=ht.mono hg.sub;refine htB.ld ny (λ_ h=>h) λs hs=>?_;intro b1 _;refine St.p ?_ ?_
  ·obtain⟨a,c,rfl,_⟩:=hs.1.shape;simp[Value.oneCell']
  intro J hJ;have hno:∀H',bZ B H'->¬(TF t/\some t.n=ts.head?.map Tb.n)->JE J [.bool true] H':=λH' KC h=>
   JE.mk (hJ _ _ λgs=>Br.yes (bg.mk KC.dJ (by rw[xal];exact λhh=>h (hh t (xau ny)))))
  have T4:bZ B ((b1,Obj.cells (List.toArray [iv t.n,s]) 175 zZ)::H):=.cons hg;refine DR.self (az.q ?_);intro F;refine aa.eq (B:=H) (DF ⟨s,rfl,hs⟩) (⟨.refl _,Un.not ?_⟩);by_cases hT:TF t
  case neg=>rw[xal hT];exact Br.yes (hno _ T4 λh=>hT h.1)
  rw[xam hT];apply Br.no;refine ai.mk (Ld.mk zM rfl ?_);refine htB.ldN VT zS ?_;refine ae.cK (aL.mk ?_);simp only[xah];by_cases hn:t.n=t0.n
  case neg=>rw[xam hn];exact hno _ T4 λh=>hn (by have:=h.2;rw[hh]at this;simpa using this)
  rw[xal (by simpa using hn)];refine JE.mk (hJ _ _ λgs=>Br.no ?_);refine ae.inc (aC.mk ⟨T4,k+1,rfl,by omega,λi u hi hu=>?_⟩ (by simp[bN];omega));by_cases e:i=k
  ·subst e;rw[ny]at hu;cases hu;exact⟨hT,by rw[hh,hn]⟩
  exact aG i u zO hu
 refine bg.mk hg.dJ ?_;rw[xam];intro t htm;obtain⟨i,hi,rfl⟩:=xba.1 htm;exact aG i _ zO (xaa hi)
theorem wm{B:Hp}{b:Nat}{t:Tb}{s:zV}{T:TypeId}{fz:Nat×Nat}(hm:(b,Obj.cells #[iv t.n,s] T fz)∈B)(hw:Words B s t.ws):
  Rd zQ 238 #[.slice (some ⟨b,0,none⟩) 1 1] B (· =.bool (decide (TF t))):=
 (DE (jF.one (cap:=0) hm hw) zI).mono λv H ⟨h1,h2⟩=>⟨h1,by rw[h2];congr 1;simp⟩
theorem abx{B:Hp}{v:zV}{t:Tb}(ht:EF B v t)(u:Int):Rd zQ 284 #[v,iv u] B (· =iv (if TF t then(if 0<=u/\u<t.n then 0 else 2)else 5)):=by
 obtain⟨s,rfl,hw⟩:=ht;refine aF λg=>GH λb1 _=>?_;refine az.q ?_;refine wL λb2=>?_;refine aa.rd .here (wm (by exact List.Mem.head _) (hw.mono zS)) ?_;rintro v rfl;apply Un.not;by_cases hT:TF t
 ·rw[xam hT,xad hT];refine Br.no (ae.lss (c6.or (decide (t.n<=u)) (λh=>?_) rfl ?_))
  ·refine ai.mk (Ld.mk zM rfl ?_);exact ae.geq ⟨rfl,rfl⟩
  intro gs;have hor:(decide (u<0)||decide (t.n<=u))=decide (¬(0<=u/\u<t.n)):=by
   by_cases h1:u<0<;>by_cases h2:t.n<=u<;>simp[h1,h2]<;>omega
  rw[hor];refine Br.dec (λh=>?_) (λh=>?_)
  ·exact bg.mk (by repeat (first|exact aM.refl _|apply aM.cons|apply aM.skip|apply aM.dc|apply aM.iH)) (by rw[xac h])
  exact bg.mk (by repeat (first|exact aM.refl _|apply aM.cons|apply aM.skip|apply aM.dc|apply aM.iH)) (by rw[xad (xer.1 h)])
 rw[xal hT,xac hT];exact Br.yes (bg.mk (by repeat (first|exact aM.refl _|apply aM.cons|apply aM.skip|apply aM.dc|apply aM.iH)) rfl)
theorem zo{u i:Nat}(hu:u<64)(hi:i<18446744073709551616)(KA:i<9223372036854775808)(B:Hp):Rd zQ 237 #[iv (u:Int),iv (i:Int)] B
  (· =.int .u64 ((if 6<=u then(if(i>>>(u-6)).testBit 0 then 18446744073709551615 else 0)else ak.mask u:Nat):Int)):=by
 refine aF λg=>Hy (ae.tJ (a:=u) (b:=6) (Br.dec (λh=>?_) (λh=>?_)))
 ·refine br.nat (by simpa[bF]using hi) (ae.xK (b:=6) (by simp[bF];omega) h (ae.iI (by simpa[bF]using hi) ?_));have hs:i>>>(u-6)<18446744073709551616:=xaz (xbm _ _) hi;refine ae.jD (b:=1) (by simpa[bF]using hs) zD (Un.afg (by rw[ak.gn];split<;>decide) ?_);refine bg.mk (.refl _) ?_;rw[xad h,ak.gn];split<;>rfl
 refine⟨λvs H=>H=B/\∃j:Nat,vs=[.int .u64 ((ak.Bh u j:Nat):Int),iv (j:Int)]/\j<=64,λvs _=>64-bN vs 1,JE.mk ⟨rfl,0,rfl,by omega⟩,?_⟩;rintro w1 w2 H ⟨rfl,j,⟨⟩,hj⟩ gs;refine ae.fy (b:=64) (Br.dec (λhlt=>?_) (λhlt=>?_))
 ·refine ae.iI (by simp[bF];omega) ?_;have hs:j>>>u<64:=xaz (xbm _ _) hlt;refine ae.jD (b:=1) (by simp[bF];omega) zD ?_;have h1:j>>>u&&&1<=1:=by rw[ak.gn];split<;>decide
  refine br.q (ae.nP ?_);have h2:((j>>>u&&&1)<<<j)<18446744073709551616:=by
   rw[xck]
   calc _<=1*2^j:=xaZ _ h1
    _<2^64:=by rw[xdl];exact xbw zD hlt
  rw[xbk h2];have h3:ak.Bh u j<18446744073709551616:=xaN (ak.Bg u j) (xaw (n:=2) zD hj);exact ae.Kj (by simpa[bF]using h3) (by simpa[bF]using h2) (ae.inc (aC.mk ⟨rfl,j+1,rfl,by omega⟩ (by simp[bN];omega)))
 have:j=64:=by omega
 subst this;exact bg.mk (.refl _) (by rw[xac h];rfl)
theorem uy{n:Nat}(hn:n<=16){fv:zV}{f:FuncId}{first cap:Array zV}(RP:fv=.func (.func f) first cap)(fM:aW zQ f=true){F:Nat->Nat}(hF:∀i,i<ak.wN n->F i<18446744073709551616){B:Hp}
 (hc:∀i:Nat,i<ak.wN n->Rd zQ f (first++ #[iv (i:Int)]++cap) B (· =.int .u64 ((F i:Nat):Int))):
  Px zQ 233 #[iv (n:Int),fv] B (λv H=>EF H v ⟨n,(List.range (ak.wN n)).map λi=>F i&&&ak.dG n⟩):=by
 intro g;have hwl:=ak.ye hn;refine HB (R:=aN _) ?_;unfold L233;intro b1 _;refine aa.eq (BR hn B) (cS.ints (k8 hn).1 (k8 hn).2 λbw=>?_);refine Build.mk (cs:=[iv (n:Int),.slice (some ⟨bw,0,none⟩) (ak.wN n) (ak.wN n)]) zK λb8 _=>?_;refine St.q ?_;refine ai.mk (Ld.mk zM rfl ?_);refine aR.mk ?_;rw[range_zero (G:=λi=>F i&&&ak.dG n)];refine⟨λvs H=>∃i:Nat,vs=[iv (i:Int)]/\i<=ak.wN n/\H=(b8,.cells (List.toArray [iv (n:Int),.slice (some ⟨bw,0,none⟩) (ak.wN n) (ak.wN n)]) 175 zZ)::
   (bw,.cells (aA .u64 (iw ((List.range (ak.wN n)).map λk=>if k<i then F k&&&ak.dG n else 0))) 33 zZ)::(b1,.cells #[iv 0,.slice none 0 0] 175 zZ)::B,
  λvs _=>ak.wN n-bN vs 0,JE.mk ⟨0,rfl,by omega,rfl⟩,?_⟩
 rintro w H ⟨i,⟨⟩,hi,rfl⟩ gs;refine ae.fy (Br.dec (λhlt=>?_) (λhlt=>?_))
 ·refine DR.self ?_;refine ai.mk (Ld.mk zM rfl ?_);refine aJ.of RP fM ?_;refine aa.eq (hc i hlt) (⟨.refl _,?_⟩);refine aa.eq (KL hn B) (⟨.refl _,?_⟩);refine ae.jD (by simpa[bF]using hF i hlt) (by simpa[bF]using ak.rL n) (av.nat hlt ?_);refine St.ints (l:=iw _) (by exact .tail (.head _)) (by simpa using hlt) ?_;refine ae.inc ?_;rw[Mo hlt];exact aC.mk ⟨i+1,rfl,by omega,rfl⟩ (by simp[bN];omega)
 have:i=ak.wN n:=by omega
 subst this;rw[E9];refine az.q ?_;refine St.q ?_;refine az.q ?_;refine GF.mk (by repeat (first|exact bZ.refl _|apply bZ.cons|apply bZ.app)) ⟨_,rfl,?_⟩;have:=Words.block (b:=bw) (cap:=ak.wN n) (ws:=(List.range (ak.wN n)).map λi=>F i&&&ak.dG n) (T:=33) (fz:=(0,0)) (B:=(b8,.cells (List.toArray [iv (n:Int),.slice (some ⟨bw,0,none⟩) (ak.wN n) (ak.wN n)]) 175 zZ)::
  (bw,.cells (aA .u64 (iw ((List.range (ak.wN n)).map λi=>F i&&&ak.dG n))) 33 zZ)::(b1,.cells (List.toArray [iv (n:Int),.slice (some ⟨bw,0,none⟩) (ak.wN n) (ak.wN n)]) 175 zZ)::B) (by exact .tail _ (.head _)) zI (λw hw=>by
   obtain⟨k,_,rfl⟩:=xan.1 hw;exact xaz xc7 (ak.rL n))
 simpa using this
theorem Sa{B:Hp}{pv pb pa s:zV}{u n i:Nat}{c:Bool}{ws:zL}(hv:Go.Sx.At B pv [iv (u:Int)])(hb:Go.Sx.At B pb [.bool c])(ha:Go.Sx.At B pa [iv (n:Int),s])(hw:Words B s ws)(hf:ak.eE n ws)(hu:u<n)(hi:i<ak.wN n):
  Rd zQ 277 #[iv (i:Int),pv,pb,pa] B (· =.int .u64 ((ak.rI ws u c i:Nat):Int)):=by
 intro g;have hn:=hf.xP;have hwl:=ak.ye hn;refine GN (R:=aN _) ?_;unfold L277;refine Ld.at hv (λ_ h=>h) ?_;refine ae.tJ (a:=u) (b:=6) (Br.dec (λh6=>?_) (λh6=>?_))
 ·have hp:2^(u-6)<=1024:=xaw (n:=2) zD (by omega:u-6<=10);refine Ld.at hv (λ_ h=>h) ?_;refine ae.xK (b:=6) (by simp[bF];omega) h6 (ae.B9 (a:=1) (by simp[IntKind.bits];omega) (by rw[xa4];simp[bF];omega) ?_);rw[xa4];refine ae.D9 (by simp[bF];omega) (by simp[bF];omega) ?_;have hand:=m7 i (2^(u-6));intro J hJ;have abZ:ak.aB i (u-6) c<ak.wN n:=by
   rw[ak.JH zO]at hi⊢;exact ak.fX hi zO
  have g8:JE J [iv ((ak.aB i (u-6) c:Nat):Int)] B:=by
   refine JE.mk (hJ _ _ λgs=>?_);refine ai.at ha λq hq=>Ld.at hq (λ_ h=>h) ?_;have hg:ws[ak.aB i (u-6) c]? =some (ws.getD (ak.aB i (u-6) c) 0):=by rw[xaa (by rw[hf.len];exact abZ),xaq,xaa (by rw[hf.len];exact abZ)];rfl
   refine hw.1.ld (de hg) (λ_ h=>h) ?_;exact bg.mk (.refl _) (by unfold ak.rI;rw[xad h6])
  refine Ld.at hb (λ_ h=>h) ?_;cases c
  ·exact Br.no g8
  refine Br.yes (Ld.at hv (λ_ h=>h) ?_);refine ae.xK (b:=6) (by simp[bF];omega) h6 (ae.B9 (a:=1) (by simp[IntKind.bits];omega) (by rw[xa4];simp[bF];omega) ?_);rw[xa4];refine ae.Kj (by simp[bF];omega) (by simp[bF];omega) ?_;have e:m8 i (2^(u-6))|||2^(u-6)=ak.aB i (u-6) true:=by
   apply xaV;intro k;rw[xbX,dy,ak.aj,xbT];by_cases e:k=u-6
   ·simp[e]
   simp[e,xa8 e]
  rw[e];exact g8
 have hp:2^u<=32:=xaw (n:=2) zD (by omega:u<=5);have hg:ws[i]? =some (ws.getD i 0):=by rw[xaa (by rw[hf.len];exact hi),xaq,xaa (by rw[hf.len];exact hi)];rfl
 have hwi:=hw.2 _ (xau hg);have hm:=ak.ru u;refine DR.self (Ld.at hv (λ_ h=>h) (Ld.at hv (λ_ h=>h) ?_));refine ae.B9 (a:=1) (b:=u) (by simp[IntKind.bits];omega) (by rw[xa4];simp[bF];omega) ?_;rw[xa4];refine aa.eq (zo (u:=u) (i:=0) zO zO zO B) ?_;rw[xac h6];refine⟨.refl _,?_⟩;refine Ld.at hb (λ_ h=>h) ?_;cases c
 ·refine Br.no (ai.at ha λq hq=>Ld.at hq (λ_ h=>h) ?_);refine hw.1.ld (de hg) (λ_ h=>h) ?_;refine ae.D9 (by simpa[bF]using hwi) (by simpa[bF]using hm) (ae.nP ?_);have:=m7 (ws.getD i 0) (ak.mask u);exact ae.Kj (by simp only[bF];omega) (by simp only[bF];omega) (bg.mk (.refl _) (by unfold ak.rI;rw[xac h6];rfl))
 refine Br.yes (ai.at ha λq hq=>Ld.at hq (λ_ h=>h) ?_);refine hw.1.ld (de hg) (λ_ h=>h) ?_;refine ae.jD (by simpa[bF]using hwi) (by simpa[bF]using hm) ?_;have h1:ws.getD i 0&&&ak.mask u<=ws.getD i 0:=xcc;refine ae.iI (by simp only[bF];omega) ?_;have h2:=xbm (ws.getD i 0&&&ak.mask u) (2^u);exact ae.Kj (by simp only[bF];omega) (by simp only[bF];omega) (bg.mk (.refl _) (by unfold ak.rI;rw[xac h6];rfl))
theorem A6{B:Hp}{v:zV}{n u:Nat}{ws:zL}{c:Bool}(ht:EF B v ⟨n,ws⟩)(hf:ak.eE n ws)(hu:u<n):
  Px zQ 271 #[v,iv (u:Int),.bool c] B (λv H=>EF H v ⟨n,ak.iF n ws u c⟩):=by
 obtain⟨s,rfl,hw⟩:=ht;refine aF λg=>GU λb1 _ b3 _ b5 _ b7 _=>?_;refine ai.mk (Ld.mk zM rfl ?_);refine aa.px (.cons .here) (uy hf.xP rfl zK (F:=λi=>ak.rI ws u c i) (λi hi=>?_) (λi hi=>?_)) ?_
 ·unfold ak.rI;split
  ·by_cases h:ak.aB i (u-6) c<ws.length
   ·rw[xaq,xaa h];exact hf.lt (xaJ h)
   rw[xaq,xaB zO];decide
  have hg:ws.getD i 0<2^64:=by rw[xaq,xaa (by rw[hf.len];exact hi)];exact hf.lt (xaJ _)
  split
  ·refine xbH (n:=64) (xaz xcc hg) (xaz (xbm _ _) (xaz xcc hg))
  exact xbH (n:=64) (xaz (m7 _ _) hg) (xbC _ zD)
 ·exact Sa (Go.Sx.At.block (l:=[iv (u:Int)]) zM) (Go.Sx.At.block (l:=[.bool c]) zM) (Go.Sx.At.block (l:=[iv (n:Int),s]) zM) (hw.mono zS) hf hu hi
 rintro v N ⟨s',rfl,eH⟩;refine St.p ?_ ?_
 ·have:=bQ eH;simpa[Value.oneCell']using this
 refine az.q ?_;exact GF.mk (by repeat (first|exact bZ.refl _|apply bZ.cons|apply bZ.app)) ⟨s',rfl,eH.mono zS⟩
theorem JM{B:Hp}{v:zV}{n u:Nat}{ws:zL}{c:Bool}(ht:EF B v ⟨n,ws⟩)(hf:ak.eE n ws)(hu:u<n):
  Px zQ 279 #[v,iv (u:Int),.bool c] B (λr H=>∃v',r=.tuple #[v',iv 0]/\EF H v' ⟨n,ak.iF n ws u c⟩):=by
 obtain⟨s,rfl,hw⟩:=ht;refine aF λg=>GL λb1 _ b3 _=>?_;refine az.q ?_;refine aa.eq (abx (t:=⟨n,ws⟩) ⟨s,rfl,hw.mono zS⟩ (u:Int)) ?_;rw[xad (show TF ⟨(n:Int),ws⟩from⟨by simp,by simpa using hf⟩),xad ⟨by omega,by simp only;omega⟩];refine ae.cK (Br.F (az.q ?_));refine aa.pq (A6 (v:=.agg (List.toArray [iv (n:Int),s])) ⟨s,rfl,hw.mono zS⟩ hf hu) ?_;rintro v N ⟨s',rfl,eH⟩;refine St.p ?_ ?_
 ·have:=bQ eH;simpa[Value.oneCell']using this
 refine az.q ?_;exact GF.mk (by repeat (first|exact bZ.refl _|apply bZ.cons|apply bZ.app)) ⟨_,rfl,s',rfl,eH.mono zS⟩
theorem DZ{w j:Nat}(hj:j<8):((List.range (j+1)).map λi=>UInt8.ofNat (w>>>(8*i)))=((List.range j).map λi=>UInt8.ofNat (w>>>(8*i)))++[UInt8.ofNat (w>>>(8*j))]:=by
 rw[xce,xaA];rfl
theorem NF(l:List UInt8)(n:Nat):sX (l++[UInt8.ofNat n])=sX l++[[Value.int .u8 ((n%256:Nat):Int)]]:=by
 simp[sX]
theorem FD{B:Hp}{v:zV}{t:Tb}(ht:EF B v t)(hl:t.ws.length<=4294967296):Rd zQ 280 #[v] B (· =As (ak.gZ t.ws)):=by
 obtain⟨s,rfl,hw⟩:=ht;refine aF λg=>GK λb1 _=>?_;refine ai.mk (Ld.mk zM rfl ?_);refine hw.1.bX ?_;rw[au];refine⟨λvs H=>∃(k:Nat) (v:zV) (C:Hp),vs=[v,iv (k:Int)]/\k<=t.ws.length/\H=C++B/\aU 5 1 v (sX (ak.gZ (t.ws.take k))) C,λvs _=>t.ws.length-bN vs 1,
  JE.of (.tail) ⟨0,_,[],rfl,by omega,rfl,aU.nil _ _⟩,?_⟩
 rintro w6 w7 H ⟨k,v,C,⟨⟩,hk,rfl,ho⟩ gs;refine ae.fy (Br.dec (λhlt=>?_) (λhlt=>?_))
 ·have hg:t.ws[k]? =some t.ws[k]:=xaa hlt;have hwk:=hw.2 _ (xaJ hlt);refine hw.1.ld (de hg) zS ?_;have hlen:(sX (ak.gZ (t.ws.take k))).length=8*k:=by simp only[sX,xax,ak.tC,xbF];omega
  refine⟨λvs H=>∃(j:Nat) (v:zV) (C:Hp),vs=[v,iv (j:Int)]/\j<=8/\H=C++B/\aU 5 1 v (sX (ak.gZ (t.ws.take k)++(List.range j).map λi=>UInt8.ofNat (t.ws[k]>>>(8*i)))) C,λvs _=>8-bN vs 1,
   JE.mk ⟨0,_,C,rfl,by omega,rfl,by simpa using ho⟩,?_⟩
  rintro w8 w9 H ⟨j,v,C,⟨⟩,hj,rfl,ho⟩ gs;refine ae.fy (b:=8) (Br.dec (λh8=>?_) (λh8=>?_))
  ·refine ae.xQ (a:=8) (ae.iI (by simpa[bF]using hwk) (br.ahq (ax.int (e:=5) zK zK zK λxb=>?_)));refine ho.Gy (A:=[_]) (r:=[Value.int .u8 (((t.ws[k]>>>(8*j))%256:Nat):Int)]) (by exact .head _) rfl (by simp[Value.oneCell']) ⟨[.int .u8 0],rfl,rfl⟩ (by simp only[sX,xax,xaf,xaH]at hlen⊢;omega) (by simp only[sX,xax,xaf,xaH]at hlen⊢;omega) λv' C' cC=>?_;refine ae.inc (aC.of .tail ⟨j+1,_,C',rfl,by omega,rfl,?_⟩ (by simp[bN];omega));rw[DZ h8,<-xak,NF];exact cC
  have:j=8:=by omega
  subst this;refine ae.inc (aC.mk ⟨k+1,_,C,rfl,by omega,rfl,?_⟩ (by simp[bN];omega));rw[xa7 hlt,ak.gZ,List.flatMap_append];simpa[ak.gZ,ak.k8]using ho
 have:k=t.ws.length:=by omega
 subst this;rw[xa9]at ho;refine lg.own ho (λ_ h=>xae _ h) ?_;exact bg.mk .right rfl
theorem aae{B:Hp}{b n:Nat}{es:Array MapEntry}{ck:Nat}{m:List (List UInt8×zL)}{v:zV}{ws:zL}(hE:gC n B es ck m)(ht:EF B v ⟨n,ws⟩)(hf:ak.eE n ws):
  Fc zQ 278 #[.map (some b),v] ((b,.map es ck)::B) (λ_ H=>∃es' bC N,H=(b,.map es' bC)::(N++B)/\gC n (N++B) es' bC (Aq m ws)):=by
 obtain⟨s,rfl,hw⟩:=ht;refine aF λg=>GM λb1 _=>?_;refine DR.self (az.q ?_);refine az.q ?_;refine aa.eq (FD (t:=⟨n,ws⟩) ⟨s,rfl,hw⟩ (uD hf)) (⟨.refl _,?_⟩);refine hE.bK (b:=b) ⟨s,rfl,hw⟩ hf λes' bC Dv=>⟨_,.tail (.head _),?_⟩;exact aN.mk (nG:=(b,.map es' bC)::([]++B)) .tail ⟨es',bC,[],rfl,Dv⟩
theorem Mz{B:Hp}{v:zV}{n:Nat}{ts:List Tb}{L:List (zL)}(ht:jF B v ts)(hL:ts=L.map λws=>⟨n,ws⟩)(hf:∀ws∈L,ak.eE n ws)(cB:L.length<4611686018427387904):
  Fc zQ 272 #[v] B (λr H=>∃b es ck m N,r=.map (some b)/\H=(b,.map es ck)::(N++B)/\gC n (N++B) es ck m/\∀x,x∈m.map Prod.snd↔x∈L):=by
 have hlen:ts.length=L.length:=by rw[hL];simp
 refine aF λg=>GS λb _=>?_;refine ht.bX ?_;rw[hlen];refine⟨λvs H=>∃(k:Nat) (es:Array MapEntry) (ck:Nat) (m:List (List UInt8×zL)) (N:Hp),vs=[iv (k:Int)]/\k<=L.length/\H=(b,.map es ck)::(N++B)/\gC n (N++B) es ck m/\∀x,x∈m.map Prod.snd↔x∈L.take k,
  λvs _=>L.length-bN vs 0,JE.mk ⟨0,_,_,[],[],rfl,by omega,rfl,gC.empty _ _,by simp⟩,?_⟩
 rintro w H ⟨k,es,ck,m,N,⟨⟩,hk,rfl,hE,hm⟩ gs;refine ae.fy (Br.dec (λhlt=>?_) (λhlt=>?_))
 ·have hg:ts[k]? =some ⟨n,L[k]⟩:=by rw[hL,xat,xaa hlt];rfl
  have pE:=hf L[k] (xaJ hlt);refine ht.ld hg zS λs hw=>?_;intro b2 _;refine St.p ?_ ?_
  ·have:=bQ hw;simpa[Value.oneCell']using this
  refine az.q ?_;refine aa.fq (aae hE ⟨s,rfl,hw.mono zS⟩ pE) ?_;rintro r C' ⟨es',bC,N',rfl,Dv⟩;refine ae.inc (aC.of .tail ⟨k+1,es',bC,Aq m L[k],N'++N,rfl,by omega,by rw[xak],by rw[xak];exact Dv,λx=>?_⟩ (by simp[bN];omega));rw[r9 hE.2 pE,hm,xa7 hlt,xao,xaE]
 have:k=L.length:=by omega
 subst this;rw[xa9]at hm;exact aN.here ⟨b,es,ck,m,N,rfl,rfl,hE,hm⟩
theorem DA{B:Hp}{bm n u:Nat}{es:Array MapEntry}{ck:Nat}{m:List (List UInt8×zL)}(hm:(bm,Obj.map es ck)∈B)(hE:gC n B es ck m)(hu:u<n)(cB:m.length<4611686018427387904):
  Fc zQ 273 #[.map (some bm),iv (u:Int)] B (λr H=>∃b' es' bC m' N,r=.tuple #[.map (some b'),iv ((ak.nodes n (m.map Prod.snd) u).length:Int)]/\H=(b',.map es' bC)::(N++B)/\gC n (N++B) es' bC m'/\
   ∀x,x∈m'.map Prod.snd↔∃t∈m.map Prod.snd,∃c,x=ak.iF n t u c):=by
 refine aF λg=>GR ?_;intro b' _;refine .inr ⟨bm,es,ck,rfl,.tail _ hm,λbi _=>?_⟩;refine⟨λvs H=>∃(es':Array MapEntry) (bC:Nat) (m':List (List UInt8×zL)) (seen:Array Nat) (N:Hp) (D:List (zL)),vs=[iv ((ak.nodes n D u).length:Int)]/\
   H=(bi,.mapIter (some bm) ck seen ck)::(b',.map es' bC)::(N++B)/\gC n (N++B) es' bC m'/\(m.map Prod.snd).Perm (D++(cU es m seen).map Prod.snd)/\∀x,x∈m'.map Prod.snd↔∃t∈D,∃c,x=ak.iF n t u c,
  λvs H=>match H with|(_,.mapIter _ _ seen _)::_=>(cU es m seen).length|_=>0,JE.mk ⟨_,_,[],_,[],[],rfl,rfl,gC.empty _ _,?_,by simp⟩,?_⟩
 ·rw[pY hE.1];simp
 rintro w H ⟨es',bC,m',seen,N,D,⟨⟩,rfl,Dv,dD,hmem⟩ gs;have hbm:∀{X:Hp},(bm,Obj.map es ck)∈X++B:=xab _ hm;refine hE.1.next (.tail _ (.tail _ hbm)) (.head _) (λe x seen' he hkey hval hstep acQ hfind=>⟨_,.head _,?_⟩) (λFP=>?_)
 ·obtain⟨bs,ws⟩:=x;simp only at hval hkey;refine Ext.mk rfl (Br.yes (⟨bi,bm,ck,seen',e.born,ck,es,e,rfl,.head _,acQ,.tail _ (.tail _ hbm),hfind,?_⟩));refine Ext.mk rfl ?_;have hx:(bs,ws)∈m:=by
   have h:=hstep.mem_iff.2 (xby (a:=(bs,ws)));unfold cU at h;obtain⟨p,hp,mT⟩:=xan.1 h;rw[<-mT];exact(xd6 (xb1.1 hp).1).2
  obtain⟨hbs,hf⟩:=hE.2 _ hx;simp only at hbs hf;obtain⟨s,hes,hw⟩:=hval;rw[hes];have hone:=bQ hw;intro b1 _;refine St.p (by simpa[Value.oneCell']using hone) ?_;refine az.q ?_;refine aa.pq (B:=N++B) (JM (n:=n) (ws:=ws) ⟨s,rfl,hw.mono zS⟩ hf hu) ?_;rintro r N1 ⟨v1,rfl,s1,rfl,nI⟩;have ab9:=bQ nI;refine Ext.two λb2 _=>(St.p (by simpa[Value.oneCell']using ab9) ?_);refine az.q ?_;refine aa.pq (B:=N1++(N++B)) (JM (n:=n) (ws:=ws) ⟨s,rfl,hw.mono zS⟩ hf hu) ?_;rintro r N2 ⟨v2,rfl,s2,rfl,vV⟩;have ab8:=bQ vV;refine Ext.two λb3 _=>(St.p (by simpa[Value.oneCell']using ab8) ?_);refine DR.self (az.q ?_);refine az.q ?_;have f1:=ak.ej (v:=u) (ws:=ws) (b:=false) hf.xP;have f2:=ak.ej (v:=u) (ws:=ws) (b:=true) hf.xP;refine aa.eq (B:=N2++(N1++(N++B))) (FD (t:=⟨n,ak.iF n ws u false⟩) ⟨s1,rfl,nI.mono zS⟩ (uD f1)) (⟨.refl _,?_⟩);refine aa.eq (B:=N2++(N1++(N++B))) (FD (t:=⟨n,ak.iF n ws u true⟩) ⟨s2,rfl,vV⟩ (uD f2)) (⟨.refl _,?_⟩);intro J hJ;have A2:(ak.gZ (ak.iF n ws u false)≠ak.gZ (ak.iF n ws u true))↔ak.dep n ws u=true:=by
   simp only[ak.dep,ne_eq,xaK];exact xeH ⟨λh=>f1.key_inj f2 h,λh=>by rw[h]⟩
  have g8:JE J [iv ((ak.nodes n (D++[ws]) u).length:Int)] ((b3,.cells (List.toArray [iv (n:Int),s2]) 175 zZ)::(b2,.cells (List.toArray [iv (n:Int),s1]) 175 zZ)::
    (b1,.cells (List.toArray [iv (n:Int),s]) 175 zZ)::(bi,.mapIter (some bm) ck seen' ck)::(b',.map es' bC)::(N2++(N1++(N++B)))):=by
   refine JE.mk (hJ _ _ λgs=>?_);refine DR.of (R:=(b3,.cells (List.toArray [iv (n:Int),s2]) 175 zZ)::(b2,.cells (List.toArray [iv (n:Int),s1]) 175 zZ)::[]) ?_ ?_
   ·exact .cons (.cons (λg w h=>(Own.left (B:=_) (A:=[]) h)))
   refine az.q ?_;refine az.q ?_;have sO:=Dv.mono (B':=N2++(N1++(N++B))) zS;refine sO.bK (b:=b') (ws:=ak.iF n ws u false) ⟨s1,rfl,nI.mono zS⟩ f1 λgP iB Pn=>⟨_,.tail (.tail (.tail (.tail (.head _)))),?_⟩;refine⟨.cons (.cons (λg w h=>(Own.left (B:=_) (A:=[]) h))),?_⟩;refine Pn.bK (b:=b') (ws:=ak.iF n ws u true) ⟨s2,rfl,vV⟩ f2 λpo qO hE4=>⟨_,.tail (.tail (.tail (.tail (.head _)))),?_⟩;refine aC.of (H':=(bi,.mapIter (some bm) ck seen' ck)::(b',.map po qO)::((N2++(N1++N))++B)) ?_ ⟨po,qO,Aq (Aq m' (ak.iF n ws u false)) (ak.iF n ws u true),seen',N2++(N1++N),D++[ws],rfl,rfl,?_,?_,λx=>?_⟩ ?_
   ·refine .skip (.skip (.skip (.cons (.cons ?_))));intro g w h;rw[xak,xak];exact h
   ·rw[xak,xak];exact hE4
   ·refine dD.trans ?_;refine(xbV D (hstep.map Prod.snd)).trans ?_;simp only[xaC,xak,xaQ,xb0];exact .refl _
   ·rw[r9 Pn.2 f2,r9 sO.2 f1,hmem];constructor
    ·rintro((⟨t,ht,c,rfl⟩|rfl)|rfl)
     ·exact⟨t,by simp[ht],c,rfl⟩
     ·exact⟨ws,by simp,_,rfl⟩
     exact⟨ws,by simp,_,rfl⟩
    rintro⟨t,ht,c,rfl⟩;rcases xao.1 ht with ht|ht
    ·exact .inl (.inl ⟨t,ht,c,rfl⟩)
    simp at ht;subst ht;cases c
    ·exact .inl (.inr rfl)
    exact .inr rfl
   have:=hstep.length_eq;simp only[xay]at this⊢;omega
  refine ae.abh (Br.dec (λh=>?_) (λh=>?_))
  ·refine ae.W0 (b:=1) ?_ ?_
   ·have h1:=dD.length_eq;simp only[xax,xaf]at h1;have h2:(ak.nodes n D u).length<=D.length:=xbY _ _;simp[bF];omega
   have:(ak.nodes n (D++[ws]) u).length=(ak.nodes n D u).length+1:=by
    simp[ak.nodes,xb3,A2.1 h]
   rw[this]at g8;exact g8
  have:(ak.nodes n (D++[ws]) u).length=(ak.nodes n D u).length:=by
   have hd:ak.dep n ws u=false:=by cases hh:ak.dep n ws u;rfl;exact absurd (A2.2 hh) h
   simp[ak.nodes,xb3,hd]
  rw[this]at g8;exact g8
 refine Ext.mk rfl (Br.no ?_);rw[FP]at dD;simp only[xcv,xaL]at dD;refine aN.mk (nG:=(b',.map es' bC)::(N++B)) .tail ⟨b',es',bC,m',N,?_,rfl,Dv,λx=>?_⟩
 ·rw[ak.jX dD]
 rw[hmem];constructor
 ·rintro⟨t,ht,h⟩;exact⟨t,dD.mem_iff.2 ht,h⟩
 rintro⟨t,ht,h⟩;exact⟨t,dD.mem_iff.1 ht,h⟩
theorem Me{B:Hp}{v:zV}{ts:List Tb}(ht:jF B v ts)(cB:ts.length<2^62):Rd zQ 269 #[v] B (· =.bool (decide (∀t∈ts,TF t/\some t.n=ts.head?.map Tb.n))):=by
 intro g;refine GW (R:=aN _) ?_;unfold L269;refine ht.bX ?_;refine⟨λvs H=>bZ B H/\∃k:Nat,vs=[iv (k:Int)]/\k<=ts.length/\∀i t,i<k->ts[i]? =some t->TF t/\some t.n=ts.head?.map Tb.n,λvs _=>ts.length-bN vs 0,JE.mk ⟨.refl _,0,rfl,by omega,by omega⟩,?_⟩;rintro w H ⟨hg,k,hv,hk,aG⟩ gs;simp only[xav,xaW]at hv;subst hv;refine ae.fy (Br.dec (λhlt=>?_) (λhlt=>?_))
 ·obtain⟨t,ny⟩:∃t,ts[k]? =some t:=⟨_,xaa hlt⟩;obtain⟨t0,VT⟩:∃t,ts[0]? =some t:=⟨_,xaa zO⟩;have hh:ts.head?.map Tb.n=some t0.n:=by rw[List.head?_eq_getElem?,VT];rfl
  have htB:=ht.mono hg.sub;refine htB.ld ny (λ_ h=>h) λs hs=>?_;intro b1 _;refine St.whole (r:=[iv t.n,s]) (by exact cZ.head _) rfl rfl ?_ ?_
  ·obtain⟨a,c,rfl,_⟩:=hs.1.shape;simp[Value.oneCell']
  intro J hJ;have hno:∀H',bZ B H'->¬(TF t/\some t.n=ts.head?.map Tb.n)->JE J [.bool true] H':=λH' KC h=>
   JE.mk (hJ _ _ λgs=>Br.yes (bg.mk KC.dJ (by rw[xal];exact λhh=>h (hh t (xau ny)))))
  have T4:bZ B ((b1,Obj.cells (List.toArray [iv t.n,s]) 175 zZ)::H):=.cons hg;refine DR.self ?_;refine az.whole (r:=[iv t.n,s]) (by exact List.Mem.head _) rfl ?_;intro F;refine aa.rd (B:=H) (.cons .here) (DF ⟨s,rfl,hs⟩) ?_;rintro v rfl;refine⟨.refl _,Un.not ?_⟩;by_cases hT:TF t
  case neg=>rw[xal hT];exact Br.yes (hno _ T4 λh=>hT h.1)
  rw[xam hT];apply Br.no;refine ai.mk (Ld.mk zM rfl ?_);refine htB.ldN VT zS ?_;refine ae.cK (aL.mk ?_);simp only[xah];by_cases hn:t.n=t0.n
  case neg=>rw[xam hn];exact hno _ T4 λh=>hn (by have:=h.2;rw[hh]at this;simpa using this)
  rw[xal (by simpa using hn)];refine JE.mk (hJ _ _ λgs=>Br.no ?_);refine ae.W0 (b:=1) (by simp[bF];omega) ?_;refine aC.mk ⟨T4,k+1,rfl,by omega,λi u hi hu=>?_⟩ (by simp[bN];omega);by_cases e:i=k
  ·subst e;rw[ny]at hu;cases hu;exact⟨hT,by rw[hh,hn]⟩
  exact aG i u zO hu
 refine bg.mk hg.dJ ?_;rw[xam];intro t htm;obtain⟨i,hi,rfl⟩:=xba.1 htm;exact aG i _ zO (xaa hi)
def rX(ts:List Tb):Prop:=∀t∈ts,TF t/\some t.n=ts.head?.map Tb.n
instance (ts:List Tb):Decidable (rX ts):=by unfold rX;infer_instance
theorem u4{B:Hp}{v:zV}{ts:List Tb}(ht:jF B v ts)(cB:ts.length<2^62):Rd zQ 269 #[v] B (· =.bool (decide (rX ts))):=Me ht cB
theorem CB{n:Nat}{L:List (zL)}(hf:∀ws∈L,ak.eE n ws):rX (L.map λws=>⟨n,ws⟩):=by
 intro t ht;obtain⟨ws,hws,rfl⟩:=xan.1 ht;refine⟨⟨by simp,by simpa using hf ws hws⟩,?_⟩;cases L with
 |nil=>simp at hws
 |cons a b=>rfl
theorem Kl{ts:List Tb}(h:rX ts)(hne:ts≠[]):∃(n:Nat) (L:List (zL)),n<=16/\ts=L.map (λws=>⟨n,ws⟩)/\L≠[]/\∀ws∈L,ak.eE n ws:=by
 cases ts with
 |nil=>exact absurd rfl hne
 |cons t r=>
  have ht:=(h t zI).1;have hn:∀u∈t::r,u.n=t.n:=λu hu=>by have:=(h u hu).2;simpa using this
  refine⟨t.n.toNat,(t::r).map Tb.ws,ht.2.xP,?_,by simp,λws hws=>?_⟩
  ·rw[xcl]
   conv=>lhs;rw[<-xeK (t::r)]
   apply xbn;intro u hu;have h1:=hn u hu;have h2:=ht.1;obtain⟨un,uw⟩:=u;simp only[Function.comp,id]at h1⊢;congr 1;omega
  obtain⟨u,hu,rfl⟩:=xan.1 hws;have:=(h u hu).1.2;rwa [hn u hu]at this
end
end Go.Proofs
namespace aq
theorem Rm.sQ(m:Rm):∀ls ord,m.dx 0 ls ord=ls.take (m.dx 0 ls ord).length
 | [],_=>rfl
 |c::cs,ord=>by
  by_cases hf:m.fit ord (0+c)=true
  ·have:=m.sQ cs (fI ord (0+c));rw[dx,xad hf,xay,xea,<-this,xa2]
  rw[dx,xac hf];simp
def Rm.can(m:Rm)(ord ls:zL):Bool:=decide ((m.dx 0 ls ord).length=ls.length)
theorem Rm.Sk(m:Rm){ord ls:zL}{i:Nat}(hi:i<(m.dx 0 ls ord).length){l:Nat}(hl:ls[i]? =some l):m.fit (ay ord (ls.take i)) l=true:=by
 obtain⟨_,c,h1,h2⟩:=m.rJ 0 ls ord i hi;rw[hl]at h1;cases h1;rw[m.sQ,List.take_take,xcG (xb5 hi),xa2]at h2;exact h2
theorem Rm.Nf(m:Rm){ord ls:zL}{l:Nat}(hl:ls[(m.dx 0 ls ord).length]? =some l):m.fit (ay ord (ls.take (m.dx 0 ls ord).length)) l=false:=by
 have:=m.we 0 ls ord l hl;rw[xa2]at this;rw[<-m.sQ];exact this
def road(a b:Nat):zL:=List.range' a (b-a)++(List.range' b (a-b)).reverse
theorem u5(a b:Nat):(road a b).length=(b-a)+(a-b):=by simp[road]
theorem Qr{a b l n:Nat}(ha:a<n)(hb:b<n)(h:l∈road a b):l+1<n:=by
 unfold road at h;rcases xao.1 h with h|h
 ·rw[xeq]at h;omega
 rw[List.mem_reverse,xeq]at h;omega
theorem kK{α:Type}[DecidableEq α]:∀{l p:List α},l.Nodup->(∀x∈l,x∈p)->p.length<=l.length->l.Perm p
 | [],p,_,_,h=>by
  have:p=[]:=xcQ.1 (by simpa using h);subst this;exact .refl _
 |x::t,p,hn,hs,hl=>by
  have hx:=hs x zI;have hp:=List.perm_cons_erase hx;have hlen:(p.erase x).length=p.length-1:=List.length_erase_of_mem hx;have hpos:=List.length_pos_of_mem hx;refine(List.Perm.cons x (kK (xaX.1 hn).2 (λy hy=>?_) (by simp only[xay]at hl;omega))).trans hp.symm;refine(List.mem_erase_of_ne λe=>?_).2 (hs y (by simp[hy]));subst e;exact(xaX.1 hn).1 hy
end aq
set_option maxRecDepth 100000
namespace Go.Proofs
open Go Go.Sx
open aq
theorem De{l:zL}(h:l.Nodup):(iw l).Nodup:=xbI.2 (h.imp λhne e=>hne (Int.ofNat.inj e))
theorem s8{p:List Int}:tQ p↔p.Perm (iw (List.range p.length)):=by
 constructor
 ·intro h;refine(kK (De xbg) (λx hx=>?_) (by rw[au,xaH];exact xai _)).symm;obtain⟨k,hk,rfl⟩:=xan.1 hx;exact h k (xaM.1 hk)
 intro h v hv;exact h.mem_iff.2 (xan.2 ⟨v,xaM.2 hv,rfl⟩)
theorem Tt{p:List Int}(hn:p.Nodup)(h:∀x∈p,0<=x/\x<(p.length:Int)):tQ p:=by
 refine s8.2 (kK hn (λx hx=>?_) (by rw[au,xaH];exact xai _));obtain⟨h1,h2⟩:=h x hx;exact xan.2 ⟨x.toNat,xaM.2 zO,by show((x.toNat:Nat):Int)=x;omega⟩
theorem Tu{p:List Int}(h:tQ p){x:Int}(hx:x∈p):0<=x/\x<(p.length:Int):=by
 have:=(s8.1 h).mem_iff.1 hx;obtain⟨k,hk,rfl⟩:=xan.1 this;have:=xaM.1 hk;show(0:Int)<=(k:Int)/\(k:Int)<_;omega
theorem Ec{p:List Int}(h:tQ p):p.Nodup:=(s8.1 h).nodup_iff.2 (De xbg)
theorem Qe{p:List Int}{i n W:Nat}(hi:i<p.length)(hn:p[i]=(n:Int))(hw:n<W):((List.range W).map λk=>decide (((k:Nat):Int)∈p.take i)).set n true=(List.range W).map λk=>decide (((k:Nat):Int)∈p.take (i+1)):=by
 apply xbc;intro j;rw[xa7 hi,hn];by_cases hj:j<W
 ·by_cases e:n=j
  ·subst e;rw[xbK (by simpa using hw)];simp[hw]
  rw[xbJ e];simp only[xat,xdE hj,xcd,xao,xaE];congr 1;have:¬((j:Nat):Int)=(n:Int):=by omega
  simp[this]
 rw[xaB zP,xaB zP]
theorem Mb{p:List Int}{W:Nat}:List.replicate W false=(List.range W).map λk=>decide (((k:Nat):Int)∈p.take 0):=by
 apply xbc;intro j;by_cases hj:j<W
 ·simp[hj]
 rw[xaB zP,xaB zP]
theorem su{B:Hp}{v:zV}{p:List Int}(h:dI .i64 B v p)(cB:p.length<=70368744177664):Rd zQ 186 #[v] B (λr=>(r=iv 0/\tQ p/\p.length<=64)\/(r=iv 13/\tQ p/\64<p.length)\/(r=iv 4/\¬tQ p)):=by
 refine aF λg=>Io (h.bX (cS.Ta zO λb=>h.bX ?_));rw[Mb (p:=p)];refine⟨λvs H=>∃i:Nat,vs=[iv (i:Int)]/\H=(b,.cells (fg ((List.range p.length).map λk=>decide (((k:Nat):Int)∈p.take i))) 4 zZ)::B/\i<=p.length/\(p.take i).Nodup/\∀x∈p.take i,0<=x/\x<(p.length:Int),λvs _=>p.length-bN vs 0,
  JE.mk ⟨0,rfl,rfl,xaO _,by simp,by simp⟩,?_⟩
 rintro w H ⟨i,⟨⟩,rfl,hi,fA,hin⟩ gs;refine ae.fy (Br.dec (λhlt=>?_) (λhlt=>?_))
 ·refine h.ld (xaa hlt) (λ_ h=>.tail _ h) ?_;obtain⟨x,hx⟩:∃x,p[i]=x:=⟨_,rfl⟩;have hxm:x∈p:=by rw[<-hx];exact xaJ hlt
  rw[hx];have hB:=El.block (b:=b) (cap:=p.length) (l:=(List.range p.length).map λk=>decide (((k:Nat):Int)∈p.take i)) (T:=4) (fz:=(0,0)) (B:=(b,.cells (fg ((List.range p.length).map λk=>decide (((k:Nat):Int)∈p.take i))) 4 zZ)::B) (.head _) zI;rw[xax,xaH]at hB;refine ae.lss (c6.or (decide ((p.length:Int)<=x)) (λ_=>h.bX (ae.geq ⟨rfl,rfl⟩)) zI λgs=>?_);rw[<-xa6];refine c6.or (decide (x∈p.take i)) (λhno=>?_) zI λgs=>?_
  ·have Dp:=xdh hno;obtain⟨n,rfl⟩:∃n:Nat,x=n:=⟨x.toNat,by omega⟩;refine hB.ld (b:=decide (((n:Nat):Int)∈p.take i)) ?_ (λ_ h=>h) ⟨rfl,rfl⟩;rw[xat,xdE zO];rfl
  rw[<-xa6];refine Br.dec (λagz=>bg.mk .tail (.inr (.inr ⟨rfl,λha=>?_⟩))) (λacA=>?_)
  ·have h1:=Tu ha hxm;rcases agz with hb|hb
   ·omega
   have h2:=Ec ha;rw[<-xbq i p,xa3]at h2;refine h2.2.2 x hb x ?_ rfl;rw[xbr hlt,hx];exact .head _
  obtain⟨n,rfl⟩:∃n:Nat,x=n:=⟨x.toNat,by omega⟩;refine av.nat zO ?_;refine St.Ta (l:=(List.range p.length).map λk=>decide (((k:Nat):Int)∈p.take i)) (.head _) zP ?_;rw[Qe hlt hx zO];refine ae.inc (aC.mk ⟨i+1,rfl,rfl,hlt,?_,λx FK=>?_⟩ (by simp only[bN];omega))
  ·rw[xa7 hlt,hx,xa3];exact⟨fA,by simp,λa ha b hb e=>by simp at hb;subst hb;subst e;exact acA (.inr ha)⟩
  rw[xa7 hlt,hx,xao,xaE]at FK;rcases FK with FK|rfl
  ·exact hin x FK
  omega
 obtain rfl:i=p.length:=by omega
 rw[xa9]at fA hin;have aG:=Tt fA hin;refine h.bX (ae.nB (b:=64) (Br.dec (λhg=>bg.mk .tail (.inr (.inl ⟨rfl,aG,hg⟩))) (λhg=>bg.mk .tail (.inl ⟨rfl,aG,by omega⟩))))
theorem L4{B:Hp}{v:zV}{p:List Int}{x:Int}(h:dI .i64 B v p)(cB:p.length<4611686018427387904):Rd zQ 244 #[v,iv x] B (· =iv (if x∈p then((p.idxOf x:Nat):Int)else-1)):=by
 refine aF λg=>Hr (h.bX ?_);refine⟨λvs H=>∃i:Nat,vs=[iv (i:Int)]/\H=B/\i<=p.length/\x∉p.take i,λvs _=>p.length-bN vs 0,JE.mk ⟨0,rfl,rfl,xaO _,by simp⟩,?_⟩;rintro w H ⟨i,⟨⟩,rfl,hi,hq⟩ gs;refine ae.fy (Br.dec (λhlt=>?_) (λhlt=>?_))
 ·refine h.ld (xaa hlt) (λ_ h=>h) ?_;refine ae.ia (Br.dec (λhe=>bg.mk (.refl _) ?_) (λhe=>?_))
  ·rw[xad (by rw[he];exact xaJ hlt),Rn hq hlt he.symm]
  refine ae.inc (aC.of (.refl _) ⟨i+1,rfl,rfl,hlt,?_⟩ (by simp only[bN];omega));rw[xa7 hlt,xao,xaE];rintro(h|h)
  ·exact hq h
  exact he h
 refine bg.mk (.refl _) ?_;rw[xcy zO]at hq;rw[xac hq]
theorem WO{B:Hp}{v1 v2:zV}{p q:zL}{n:Nat}(h1:dI .i64 B v1 (iw p))(h2:dI .i64 B v2 (iw q))(hp:p.Perm (List.range n))(hq:q.Perm (List.range n))(hn:n<=64):Rd zQ 243 #[v1,v2] B (· =iv 0):=by
 have e1:p.length=n:=by rw[hp.length_eq,xaH]
 have e2:q.length=n:=by rw[hq.length_eq,xaH]
 refine aF λg=>Hs (aa.rq (su h1 (by rw[au];omega)) ?_);rintro v (⟨rfl,_,_⟩|⟨_,_,hl⟩|⟨_,hno⟩);rotate_left
 ·rw[au]at hl;omega
 ·exact absurd (wT hp) hno
 refine aa.rq (su h2 (by rw[au];omega)) ?_;rintro v (⟨rfl,_,_⟩|⟨_,_,hl⟩|⟨_,hno⟩);rotate_left
 ·rw[au]at hl;omega
 ·exact absurd (wT hq) hno
 refine ae.ia (c6.or false (λ_=>ae.ia ⟨rfl,rfl⟩) rfl λgs=>?_);refine c6.or false (λ_=>?_) rfl λgs=>Br.no ?_
 ·refine h1.bX (h2.bX (ae.CJ ⟨rfl,?_⟩));rw[au,au,xal zO]
 exact⟨.i64,0,0,rfl,rfl,bg.mk (.refl _) rfl⟩
end Go.Proofs
namespace Go.Sx
open Go
section
variable {P:Program} {g:Gh} {H:Hp}
theorem ax.YI{t e:TypeId}{z:zV}{a b c d x y:zV}{K:zV->Hp->Prop}(h1:P.underlying t=some (.slice e))(h2:dz P e=some 2)(h3:fH P e=some z)
 (h:∀u,K (.slice (some ⟨u,0,Option.none⟩) 3 3) ((u,.cells (rows [[a,b],[c,d],[x,y]]) e zZ)::H)):ax P t 3 [(0,.agg #[a,b]),(1,.agg #[c,d]),(2,.agg #[x,y])] H K:=by
 refine⟨rows [[a,b],[c,d],[x,y]],e,2,z,h1,h2,h3,by decide,?_,λb _=>h b⟩;have e1:Array.range (3*2)=#[0,1,2,3,4,5]:=rfl;simp[Instr.fill,Value.cells,rows,e1]
theorem aU.made{T:TypeId}{k b:Nat}(rs:List (List zV))(h:∀r∈rs,r.length=k):aU T k (.slice (some ⟨b,0,none⟩) rs.length rs.length) rs [(b,.cells (rows rs) T zZ)]:=
 .inr ⟨b,[],by simp,by simp,by simpa using h⟩
end
end Go.Sx
namespace aq
open ak
variable {n:Nat} {F:Nat->Nat} {ws us rs:zL}
def yP(n:Nat)(F:Nat->Nat):zL:=(List.range (wN n)).map λi=>F i&&&dG n
theorem sE(hn:n<=16):eE n (yP n F):=by
 refine⟨hn,by simp[yP],λw hw=>?_⟩;obtain⟨i,_,rfl⟩:=xan.1 hw;exact xc7
theorem MN{x:Nat}(hx:x<2^n):bit (yP n F) x=(F (x/64)).testBit (x%64):=by
 have hi:=CZ hx;unfold bit;have iy:(yP n F).getD (x/64) 0=F (x/64) &&&dG n:=by simp[yP,hi]
 rw[iy,xbi,mE];have hfb:decide (x%64<if 6<=n then 64 else 2^n)=true:=by
  rw[xaK];split
  ·exact xbC _ zD
  have h1:2^n<=32:=xaw (n:=2) zD (by omega:n<=5);omega
 rw[hfb,xdV]
theorem wq{f:Fn}(h:∀x,x<2^n->(F (x/64)).testBit (x%64)=f x)(hf:∀x,f (x%2^n)=f x):nD n (yP n F)=f:=by
 funext x
 unfold nD;have hx:x%2^n<2^n:=xbC _ (xbv n);rw[MN hx,h _ hx,hf]
theorem Bb(x:Nat):nD n ws (x%2^n)=nD n ws x:=by unfold nD;rw[Nat.mod_mod]
theorem uK{x:Nat}(hx:x<2^n):(ws.getD (x/64) 0).testBit (x%64)=nD n ws x:=by
 unfold nD bit;rw[xbk hx]
theorem Cz{j:Nat}(hj:j<64):(18446744073709551615:Nat).testBit j=true:=by
 have:(18446744073709551615:Nat)=2^64-1:=by decide
 rw[this,xcU];simpa using hj
theorem Vi{w j:Nat}(hw:w<18446744073709551616)(hj:j<64):(18446744073709551615-w).testBit j= !w.testBit j:=by
 have e:(18446744073709551615-w)=2^64-(w+1):=by
  have:(2:Nat)^64=18446744073709551616:=by decide
  omega
 rw[e,xee (by
  have:(2:Nat)^64=18446744073709551616:=by decide
  omega)]
 simp[hj]
end aq
set_option maxRecDepth 100000
namespace Go.Proofs
open Go Go.Sx
section
open aq
section
variable {B:Hp}
def kD(B:Hp)(v:zV)(n:Nat)(f:aq.Fn):Prop:=∃ws,EF B v ⟨n,ws⟩/\ak.eE n ws/\nD n ws=f
theorem kD.mono{B B':Hp}{v:zV}{n:Nat}{f:aq.Fn}(h:kD B v n f)(hs:∀x∈B,x∈B'):kD B' v n f:=let ⟨ws,h1,h2,h3⟩:=h;⟨ws,h1.mono hs,h2,h3⟩
theorem DT{n:Nat}(hn:n<=16)(B:Hp):Rd zQ 232 #[iv (n:Int)] B (· =iv 0):=by
 exact aF λg=>HC (ae.lss (Br.F (ae.nB (b:=16) (Br.F (bg.mk (.refl _) rfl)))))
theorem ET{b:Bool}{p:zV}{i:Int}(hb:Go.Sx.At B p [.bool b]):Rd zQ 234 #[iv i,p] B (· =.int .u64 (((if b then 18446744073709551615 else 0:Nat)):Int)):=by
 refine aF λg=>HA (Ld.at hb (λ_ h=>h) ?_);cases b
 ·exact Br.no (bg.mk (.refl _) rfl)
 exact Br.yes (bg.mk (.refl _) rfl)
theorem yg{n:Nat}(hn:n<=16)(b:Bool)(B:Hp):Px zQ 178 #[iv (n:Int),.bool b] B (λr H=>∃v,r=.tuple #[v,iv 0]/\kD H v n (λ_=>b)):=by
 refine aF λg=>Iw λb1 _ b3 _=>?_;refine aa.eq (DT hn _) (ae.cK (Br.F (aa.pq (uy hn rfl zK (F:=λ_=>if b then 18446744073709551615 else 0) (λi _=>by cases b<;>decide) (B:=(b1,.cells #[.bool b] 4 zZ)::B) λi _=>ET (Go.Sx.At.block (l:=[.bool b]) zM)) ?_)));rintro v N ⟨s,rfl,hw⟩;refine St.p ?_ ?_
 ·have:=bQ hw;simpa[Value.oneCell']using this
 refine az.q ?_;refine GF.mk (by repeat (first|exact bZ.refl _|apply bZ.cons|apply bZ.app)) ⟨_,rfl,_,⟨s,rfl,hw.mono zS⟩,sE hn,wq (λx hx=>?_) (λx=>rfl)⟩;cases b
 ·exact xcB _
 exact Cz (xbC _ zD)
theorem PG{v i:Nat}{p:zV}(hv:v<64)(hi:i<9223372036854775808)(hb:Go.Sx.At B p [iv (v:Int)]):Rd zQ 236 #[iv (i:Int),p] B (· =.int .u64 ((if 6<=v then(if(i>>>(v-6)).testBit 0 then 18446744073709551615 else 0)else ak.mask v:Nat):Int)):=by
 refine aF λg=>Hz (Ld.at hb (λ_ h=>h) ?_);exact aa.eq (zo hv zO hi B) (bg.mk (.refl _) rfl)
theorem Uw{n v:Nat}(hn:n<=16)(hv:v<n)(B:Hp):Px zQ 181 #[iv (n:Int),iv (v:Int)] B (λr H=>∃t,r=.tuple #[t,iv 0]/\kD H t n (λx=>x.testBit v)):=by
 refine aF λg=>Is λb1 _ b3 _=>?_;refine aa.eq (DT hn _) (ae.cK (Br.F (Ld.q ?_)));refine ae.lss ?_;rw[xal zO];refine c6.or (a:=false) false (λ_=>?_) rfl λgs=>Br.no ?_
 ·refine Ld.q ?_;exact ae.tJ ⟨rfl,by rw[xal zO]⟩
 have hwl:=ak.ye hn;refine aa.pq (uy hn rfl zK (F:=λi=>if 6<=v then(if(i>>>(v-6)).testBit 0 then 18446744073709551615 else 0)else ak.mask v) (λi _=>by
  have:=ak.ru v;split
  ·split<;>decide
  exact this) (B:=(b1,.cells #[iv (v:Int)] 3 zZ)::B) λi hi=>PG zO zO (Go.Sx.At.block (l:=[iv (v:Int)]) zM)) ?_
 rintro w N ⟨s,rfl,hw⟩;refine St.p ?_ ?_
 ·have:=bQ hw;simpa[Value.oneCell']using this
 refine az.q ?_;refine GF.mk (by repeat (first|exact bZ.refl _|apply bZ.cons|apply bZ.app)) ⟨_,rfl,_,⟨s,rfl,hw.mono zS⟩,sE hn,wq (λx hx=>?_) (λx=>?_)⟩
 ·have hj:x%64<64:=xbC _ zD;have akh:x=64*(x/64)+x%64:=by omega
  by_cases h6:6<=v
  ·rw[xad h6];have e:x.testBit v=((x/64)>>>(v-6)).testBit 0:=by
    rw[xbD,xcx];have:=Nat.testBit_div_two_pow (n:=6) x (v-6);rw[show(2:Nat)^6=64 from rfl]at this;rw[this];congr 1;omega
   rw[e];cases ((x/64)>>>(v-6)).testBit 0
   ·exact xcB _
   exact Cz hj
  rw[xac h6,ak.gF];have:=xbz x 6 v;rw[show(2:Nat)^6=64 from rfl]at this;rw[this];simp[hj];omega
 rw[xbz];simp[hv]
end
end
section
open aq
section
variable {B:Hp}
theorem pg{n i:Nat}{ws:zL}(hf:ak.eE n ws):ws.getD i 0<18446744073709551616:=by
 by_cases h:i<ws.length
 ·rw[xaq,xaa h];exact hf.lt (xaJ h)
 rw[xaq,xaB zO];decide
theorem rK{n i:Nat}{ws:zL}(hf:ak.eE n ws)(hi:i<ak.wN n):ws[i]? =some (ws.getD i 0):=by
 rw[xaq,xaa (by rw[hf.len];exact hi)];rfl
theorem PN{p1 p2 p3 s1 s2 s3:zV}{n i:Nat}{ws us rs:zL}(h1:Go.Sx.At B p1 [iv (n:Int),s1])(h2:Go.Sx.At B p2 [iv (n:Int),s2])(h3:Go.Sx.At B p3 [iv (n:Int),s3])(hw:Words B s1 ws)(hu:Words B s2 us)(hr:Words B s3 rs)(hf:ak.eE n ws)(hg:ak.eE n us)(hh:ak.eE n rs)(hi:i<ak.wN n):
  Rd zQ 239 #[iv (i:Int),p1,p2,p3] B (· =.int .u64 (((ws.getD i 0&&&us.getD i 0)|||((18446744073709551615-ws.getD i 0) &&&rs.getD i 0):Nat):Int)):=by
 have lw:=pg (i:=i) hf;have lu:=pg (i:=i) hg;have lr:=pg (i:=i) hh;refine aF λg=>Hw (ai.at h1 λq hq=>Ld.at hq (λ_ h=>h) ?_);refine hw.1.ld (de (rK hf hi)) (λ_ h=>h) ?_;refine ai.at h2 λq hq=>Ld.at hq (λ_ h=>h) ?_;refine hu.1.ld (de (rK hg hi)) (λ_ h=>h) ?_;refine ae.jD (by simpa only[bF]using lw) (by simpa only[bF]using lu) (ai.at h1 λq hq=>Ld.at hq (λ_ h=>h) ?_);refine hw.1.ld (de (rK hf hi)) (λ_ h=>h) ?_;refine Un.aeV lw ?_;refine ai.at h3 λq hq=>Ld.at hq (λ_ h=>h) ?_;refine hr.1.ld (de (rK hh hi)) (λ_ h=>h) ?_;exact ae.jD (by simp only[bF];omega) (by simpa only[bF]using lr) (ae.Kj (xaz xcc (by simpa only[bF]using lw)) (xaz xcc (by simp only[bF];omega)) (bg.mk (.refl _) rfl))
theorem abg{bx n:Nat}{s1 s2 s3:zV}{ws us rs:zL}(h1:Words B s1 ws)(h2:Words B s2 us)(h3:Words B s3 rs):jF ((bx,.cells (rows [[iv (n:Int),s1],[iv (n:Int),s2],[iv (n:Int),s3]]) 175 zZ)::B) (.slice (some ⟨bx,0,none⟩) 3 3) [⟨n,ws⟩,⟨n,us⟩,⟨n,rs⟩]:=by
 refine⟨[[iv (n:Int),s1],[iv (n:Int),s2],[iv (n:Int),s3]],(Sl.nU (aU.made (T:=175) (k:=2) (b:=bx) _ zI) zD).mono λ_ h=>by simp at h;rw[h];exact .head _,rfl,λi r x hr hx=>?_⟩
 match i with
 |0=>simp at hr hx;subst hr;subst hx;exact⟨s1,rfl,h1.mono λ_ h=>.tail _ h⟩
 |1=>simp at hr hx;subst hr;subst hx;exact⟨s2,rfl,h2.mono λ_ h=>.tail _ h⟩
 |2=>simp at hr hx;subst hr;subst hx;exact⟨s3,rfl,h3.mono λ_ h=>.tail _ h⟩
 |i+3=>simp at hr
theorem Uz{v1 v2 v3:zV}{n:Nat}{f1 f2 f3:aq.Fn}(h1:kD B v1 n f1)(h2:kD B v2 n f2)(h3:kD B v3 n f3):Px zQ 182 #[v1,v2,v3] B (λr H=>∃t,r=.tuple #[t,iv 0]/\kD H t n (λx=>if f1 x then f2 x else f3 x)):=by
 obtain⟨ws,⟨s1,rfl,hw⟩,hf,rfl⟩:=h1;obtain⟨us,⟨s2,rfl,hu⟩,hg,rfl⟩:=h2;obtain⟨rs,⟨s3,rfl,hr⟩,hh,rfl⟩:=h3;refine aF λg=>Ir λb1 _ b3 _ b5 _ b7 _=>?_;refine az.q ?_;refine az.q ?_;refine az.q ?_;refine ax.YI (e:=175) (z:=.agg #[iv 0,.slice none 0 0]) zK zK zK λbx=>?_;refine aa.rd .here (DE (abg (n:=n) (hw.mono zS) (hu.mono zS) (hr.mono zS)) (by show 3<2^62;decide)) ?_;rintro w rfl;rw[xam (by
  intro t ht;simp only[xaj,xaR,xbl]at ht;rcases ht with rfl|rfl|rfl
  ·exact⟨⟨by simp,by simpa using hf⟩,rfl⟩
  ·exact⟨⟨by simp,by simpa using hg⟩,rfl⟩
  exact⟨⟨by simp,by simpa using hh⟩,rfl⟩)]
 refine Un.not (Br.no (Ld.f ?_));refine aa.pre (H':=(b7,.cells #[iv 0,.slice none 0 0] 175 zZ)::(b5,.cells #[iv (n:Int),s3] 175 zZ)::(b3,.cells #[iv (n:Int),s2] 175 zZ)::(b1,.cells #[iv (n:Int),s1] 175 zZ)::B) .tail ?_;have ol:∀i,(ws.getD i 0&&&us.getD i 0)|||((18446744073709551615-ws.getD i 0) &&&rs.getD i 0)<18446744073709551616:=λi=>
  xbH (n:=64) (xaz xcc (pg hf)) (xaz xc7 (pg hh))
 refine aa.pq (uy hf.xP rfl zK (F:=λi=>(ws.getD i 0&&&us.getD i 0)|||((18446744073709551615-ws.getD i 0) &&&rs.getD i 0)) (λi _=>ol i) (B:=(b5,.cells #[iv (n:Int),s3] 175 zZ)::(b3,.cells #[iv (n:Int),s2] 175 zZ)::(b1,.cells #[iv (n:Int),s1] 175 zZ)::B)
  λi hi=>PN (Go.Sx.At.block (l:=[iv (n:Int),s1]) zM) (Go.Sx.At.block (l:=[iv (n:Int),s2]) zM) (Go.Sx.At.block (l:=[iv (n:Int),s3]) zM) (hw.mono zS) (hu.mono zS) (hr.mono zS) hf hg hh hi) ?_
 rintro w N ⟨s',rfl,eH⟩;refine St.p ?_ ?_
 ·have:=bQ eH;simpa[Value.oneCell']using this
 refine az.q ?_;refine GF.mk (by repeat (first|exact bZ.refl _|apply bZ.cons|apply bZ.app)) ⟨_,rfl,_,⟨s',rfl,eH.mono zS⟩,sE hf.xP,wq (λx hx=>?_) (λx=>by rw[Bb,Bb,Bb])⟩;rw[xbX,xbi,xbi,Vi (pg hf) (xbC _ zD),uK hx,uK hx,uK hx];cases nD n ws x<;>cases nD n us x<;>cases nD n rs x<;>rfl
end
end
end Go.Proofs
namespace Go.Sx
open Go
section
variable {P:Program} {g:Gh} {H B:Hp} {c:Hp->Hp}
theorem aM.YP{x:Nat×Obj}(h:x∈H):aM H [x]:=by
 obtain⟨A,D,rfl⟩:=xde h;exact .iH (aM.left (A:=[x]))
end
end Go.Sx
set_option maxRecDepth 100000
namespace Go.Proofs
open Go Go.Sx
section
open aq
section
variable {kp gb n:Nat} {vr vf:zV} {refs:zL} {fs:List (zL)} {K:Kd} {S:Nat->aq.Fn} {ord ah tr:zL} {C B:Hp}
theorem bP.perm(hK:bP kp K S ord ah tr C):ord.Perm (List.range K.n):=by
 have kZ:=hK.od;refine kK ?_ (λx hx=>?_) (by rw[xaH,kZ.len];exact xai _)
 ·refine List.pairwise_iff_getElem.2 λi j hi hj hij e=>?_;have g1:=(kZ.bc i (by rw[<-kZ.len];exact hi)).2;have g2:=(kZ.bc j (by rw[<-kZ.len];exact hj)).2;rw[xaq,xaa hi,e]at g1;rw[xaq,xaa hj]at g2;omega
 obtain⟨i,hi,rfl⟩:=xba.1 hx;rw[kZ.len]at hi;have:=(kZ.bc i hi).1;rw[xaq,xaa (by rw[kZ.len];exact hi)]at this;exact xaM.2 this
end
end
section
open aq
theorem Qv{B:Hp}{v1 v2:zV}{p q:zL}{n:Nat}(h1:dI .i64 B v1 (iw p))(h2:dI .i64 B v2 (iw q))(hp:p.Perm (List.range n))(hq:q.Perm (List.range n))(hn:n<=64):
  Fc zQ 187 #[v1,v2] B (λr H=>∃s C,r=.tuple #[s,iv 0]/\H=C++B/\aT 3 .i64 s (iw (path p q)) C):=by
 have e1:p.length=n:=by rw[hp.length_eq,xaH]
 have e2:q.length=n:=by rw[hq.length_eq,xaH]
 have fA:q.Nodup:=hq.nodup_iff.2 xbg;have hpq:=hp.trans hq.symm;refine aF λg=>Im (aa.eq (WO h1 h2 hp hq hn) (ae.cK (Br.F (aa.fq (wH h1 (by rw[au];omega)) ?_))));rintro va H ⟨CA,rfl,hA⟩;refine h2.bX ?_;rw[au];refine⟨λvs H=>∃(i:Nat) (w9:zV) (C N:Hp),vs=[w9,iv (i:Int)]/\i<=n/\H=C++(N++B)/\aT 3 .i64 w9 (iw (dY p q i)) C/\aT 3 .i64 va (iw (ay p (dY p q i))) N,λvs _=>n-bN vs 1,
  JE.mk ⟨0,_,[],CA,rfl,xaO _,rfl,aT.nil,hA⟩,?_⟩
 rintro w9 w10 H ⟨i,u9,C,N,⟨⟩,hi,rfl,ho,hw⟩ gs;refine ae.fy (Br.dec (λhlt=>?_) (λhlt=>?_));rotate_left
 ·obtain rfl:i=q.length:=by omega
  exact aN.mk (.dc .right _) ⟨w9,C,rfl,rfl,ho⟩
 have spec:=jV fA hpq i zO;obtain⟨s1,s2,s3⟩:=spec;obtain⟨s4,s5⟩:=s3 hlt;have aio:=sA fA hpq (i+1) zO;have qM:(i+1)*p.length<=64*64:=xb7 zO zO;refine h2.ld (n:=((q.getD i 0:Nat):Int)) (bH hlt) (λ_ h=>xab _ (xab _ h)) ?_;have hmem:q.getD i 0∈ay p (dY p q i):=by
  have:q.getD i 0∈q:=by rw[xaq,xaa hlt];exact xaJ _
  exact((lB s1).trans hpq).mem_iff.2 this
 refine aa.eq (L4 hw.ints (by rw[au,fP];omega)) ?_;rw[xad (YO.2 hmem),Y9];refine⟨λvs H=>∃(j:Nat) (u9:zV) (P:zL) (C N:Hp),vs=[u9,iv (j:Int)]/\i<=j/\j<n/\P++Gq i j=dY p q (i+1)/\H=C++(N++B)/\aT 3 .i64 u9 (iw P) C/\aT 3 .i64 va (iw (ay p P)) N,λvs _=>bN vs 1,
  JE.mk ⟨plc (ay p (dY p q i)) (q.getD i 0),w9,dY p q i,C,N,rfl,s4,by omega,rfl,rfl,ho,hw⟩,?_⟩
 rintro w22 w23 H ⟨j,u9,P,C2,N2,⟨⟩,hij,T2,hP,rfl,xU,vV⟩ gs;refine ae.nB (Br.dec (λhgt=>?_) (λhgt=>?_))
 ·obtain⟨j,rfl⟩:∃k,j=k+1:=⟨j-1,by omega⟩;have hPl:P.length<=4096:=by
   have:=xch List.length hP;rw[xaf]at this;omega
  have hlen:(ay p P).length=n:=by rw[fP,e1]
  refine DR.self (ae.cc (b:=1) ?_);rw[xb4];refine vV.ld (x:=(((ay p P).getD (j+1) 0:Nat):Int)) (bH zO) (λ_ h=>xab _ (xae _ h)) (ae.cc (b:=1) ?_);rw[xb4];refine vV.ld (x:=(((ay p P).getD j 0:Nat):Int)) (bH zO) (λ_ h=>xab _ (xae _ h)) (vV.nu (x:=(((ay p P).getD (j+1) 0:Nat):Int)) (.app .left) (by rw[au];omega) λN3 hw3=>?_);refine hw3.nu (x:=(((ay p P).getD j 0:Nat):Int)) (.app .left) (by rw[xbQ,au];omega) λN4 hw4=>?_;have e:((iw (ay p P)).set j (((ay p P).getD (j+1) 0:Nat):Int)).set (j+1) (((ay p P).getD j 0:Nat):Int)=iw (ay p (P++[j])):=by
   rw[gx];unfold fI;rw[eY,eY]
  rw[e]at hw4;refine ae.cc (b:=1) ?_;rw[xb4];refine ax.int (e:=3) zK zK zK λbx=>?_;refine xU.rV (.cons .left) (by exact .head _) (by rw[au];omega) (by rw[au];omega) λv' C3 Dm=>?_;refine ae.cc (b:=1) ?_;rw[xb4];refine aC.of .tail ⟨j,v',P++[j],C3,N4,rfl,by omega,by omega,?_,rfl,by rw[cG];exact Dm,hw4⟩ ?_
  ·rw[<-hP,rT (show i<=j by omega),xak];rfl
  simp only[bN];omega
 obtain rfl:j=i:=by omega
 rw[Bk (xai _),xaL]at hP;subst hP;exact ae.inc (aC.of (.refl _) ⟨j+1,w22,C2,N2,rfl,by omega,rfl,xU,vV⟩ (by simp only[bN];omega))
def wk(b kp f d:Nat)(ok:Bool):Nat×Obj:=(b,.cells #[ptr kp,iv (f:Int),iv (d:Int),.bool ok] 317 zZ)
section
variable {kp b f d:Nat} {K:Kd} {S:Nat->aq.Fn} {ord tr:zL} {C:Hp}
theorem LH(h:At kp K S ord tr C):Fc zQ 245 #[ptr kp] C (λr H=>∃b,r=ptr b/\H=wk b kp tr.length 0 false::C):=by
 refine aF λg=>Hq (aa.eq (rU h) (Build.mk (cs:=[ptr kp,iv ((tr.length:Nat):Int),iv 0,.bool false]) zK ?_));intro b _;exact aN.here ⟨b,rfl,rfl⟩
theorem Py(h:At kp K S ord tr C){l:Nat}(hl:l+1<K.n)(eU:tr.length<17592186044416)(hf:iZ K S ord l)(hd:d<4611686018427387904):
  Fc zQ 248 #[ptr b,iv (l:Int)] (wk b kp f d false::C) (λr H=>r=iv 0/\∃C',H=wk b kp f (d+1) false::C'/\At kp K S (fI ord l) (tr++[l]) C'):=by
 refine aF λg=>xf (Ld.n ?_);refine aa.fq (uI h hl eU hf) ?_;rintro v C' ⟨rfl,h'⟩;intro J hJ;refine ae.ia (Br.T (Ld.n ?_));refine ae.inc (Nil.ptr (ai.mk (St.one (by exact .head _) rfl zI rfl ?_)));exact JE.mk (hJ _ λgs=>aN.here ⟨rfl,C',rfl,h'⟩)
theorem Pz(h:At kp K S ord tr C){l:Nat}(hl:l+1<K.n)(eU:tr.length<17592186044416)(hf:¬iZ K S ord l):
  Rd zQ 248 #[ptr b,iv (l:Int)] (wk b kp f d false::C) (· =iv 9):=by
 refine aF λg=>xf (Ld.n ?_);refine aa.eq (m5 h hl eU hf) λJ hJ=>?_;exact ae.ia (Br.F (JE.mk (hJ _ λgs=>bg.mk (.refl _) rfl)))
theorem PA{ok:Bool}{path:zL}(h:At kp K S (ay ord path) (tr++path) C)(hp:∀l∈path,l+1<K.n)(eU:(tr++path).length<17592186044416)(hd:d<4611686018427387904):
  Fc zQ 274 #[ptr b] (wk b kp tr.length d ok::C) (λr H=>r=.tuple #[]/\∃C',H=wk b kp tr.length (d+path.length) ok::C'/\At kp K S ord tr C'):=by
 have yZ:path.length<17592186044416:=by rw[xaf]at eU;omega
 refine aF λg=>GQ (DR.of (R:=[wk b kp tr.length d ok]) (aM.left (A:=[_]) (B:=C)) (Ld.n ?_));refine Ld.n ?_;refine aa.fq (args:=#[ptr kp,iv ((tr.length+0:Nat):Int)]) (Lb h hp (xaO _) eU) ?_;rintro v C' ⟨rfl,h'⟩;rw[xei,xaL]at h';refine⟨aM.left (A:=[_]) (B:=C'),?_⟩;refine Ext.two (Ld.n ?_);refine ae.fE (Nil.ptr (ai.mk (St.one (by exact .head _) rfl zI rfl ?_)));exact aN.here ⟨rfl,C',rfl,h'⟩
theorem Lz:Rd zQ 247 #[ptr b] (wk b kp f d true::C) (· =.tuple #[]):=by
 refine aF λg=>xg (Ld.n ?_);exact Un.not (Br.no (bg.mk (.refl _) rfl))
theorem LA{path:zL}(h:At kp K S (ay ord path) (tr++path) C)(hp:∀l∈path,l+1<K.n)(eU:(tr++path).length<17592186044416)(hd:d<4611686018427387904):
  Fc zQ 247 #[ptr b] (wk b kp tr.length d false::C) (λr H=>r=.tuple #[]/\∃C',H=wk b kp tr.length (d+path.length) false::C'/\At kp K S ord tr C'):=by
 refine aF λg=>xg (Ld.n ?_);refine Un.not (Br.yes (aa.fq (PA h hp eU hd) ?_));rintro v H ⟨rfl,C',rfl,h'⟩;exact aN.here ⟨rfl,C',rfl,h'⟩
theorem D6(h:At kp K S ord tr C){v:Nat}(hv:v<K.n):Rd zQ 93 #[ptr kp,iv (v:Int)] C (λr=>∃p,p<K.n/\ord.getD p 0=v/\r=.tuple #[iv (p:Int),iv 0]):=by
 obtain⟨K',S',bR,h,hk⟩:=h;obtain⟨b,rfl,hO⟩:=h.rep;have hn:=hO.lT;have n7:v<K'.n:=by rw[hk.n];exact hv
 have hlen:v<bR.length:=by rw[hO.ol.2];exact n7
 refine aF λg=>td (ae.aI (Br.no (aa.eq (rB h.rep (v:Int)) ?_)));rw[xam zO];refine Un.not (Br.no (Ld.n ?_));refine hO.lv.ld (x:=((bR.getD v 0:Nat):Int)) (bH hlen) (bG.sub (.cons (.app (.app (.app (.app (.app .left))))))) (bg.mk (.refl _) ⟨bR.getD v 0,?_,?_,rfl⟩)
 ·rw[<-hk.n];exact h.ok.lv.lt v n7
 exact h.od.of h.ok.lv n7
theorem D5(h:At kp K S ord tr C){v:Int}(hv:v<0\/(K.n:Int)<=v):Rd zQ 93 #[ptr kp,iv v] C (· =.tuple #[iv 0,iv 2]):=by
 obtain⟨K',S',bR,h,hk⟩:=h;have hn:=hk.n;refine aF λg=>td (ae.aI (Br.no (aa.eq (rB h.rep v) ?_)));rw[xal zO];exact Un.not (Br.yes (bg.mk (.refl _) rfl))
def Ll(kp:Nat)(K:Kd)(S:Nat->aq.Fn)(ord tr ls:zL)(r:zV)(C:Hp):Prop:=
 ((rm K S).can ord ls=true/\r=.tuple #[iv ((ls.length:Nat):Int),iv 0]/\At kp K S (ay ord ls) (tr++ls) C)\/
 ((rm K S).can ord ls=false/\r=.tuple #[iv ((2*((rm K S).dx 0 ls ord).length:Nat):Int),iv 9]/\At kp K S ord tr C)
theorem Vq{Y:Hp}{v:zV}{ls:zL}(h:At kp K S ord tr C)(hI:dI .i64 Y v (iw ls))(hp:∀l∈ls,l+1<K.n)(eU:tr.length+ls.length<17592186044416):
  Fc zQ 188 #[ptr kp,v] (Y++C) (λr H=>∃C',H=Y++C'/\Ll kp K S ord tr ls r C'):=by
 let m:=rm K S
 have hgl:=m.mg 0 ls ord;have hpt:∀i,∀l∈ls.take i,l+1<K.n:=λi l hl=>hp l (xcH hl);refine aF λg=>Il λb1 _=>?_;refine aa.fq (LH h) ?_;rintro v3 H ⟨b,rfl,rfl⟩;intro b5 _;refine St.one (by exact .head _) rfl zI rfl ?_;refine hI.bX ?_;rw[au];refine⟨λvs H=>∃i C2,i<=(m.dx 0 ls ord).length/\vs=[iv (i:Int)]/\H=(b5,.cells #[ptr b] 314 zZ)::(b1,.cells #[iv 0] 3 zZ)::(Y++(wk b kp tr.length i false::C2))/\At kp K S (ay ord (ls.take i)) (tr++ls.take i) C2,
  λvs _=>ls.length-bN vs 0,JE.mk ⟨0,C,xaO _,rfl,rfl,by simpa[ay]using h⟩,?_⟩
 rintro w13 H ⟨i,C2,hi,⟨⟩,rfl,h2⟩ gs;have RH:(tr++ls.take i).length<17592186044416:=by rw[xaf,xbF];omega
 refine ae.fy (Br.dec (λhlt=>?_) (λhlt=>?_))
 ·refine hI.ld (n:=((ls.getD i 0:Nat):Int)) (bH hlt) (λ_ h=>.tail _ (.tail _ (xae _ h))) ?_;have eg:ls.getD i 0=ls[i]:=by rw[xaq,xaa hlt];rfl
  have Dr:ls.getD i 0+1<K.n:=by rw[eg];exact hp _ (xaJ hlt)
  have eq:ls[i]? =some (ls.getD i 0):=by rw[eg];exact xaa hlt
  refine Ld.q ?_;by_cases hg:i<(m.dx 0 ls ord).length
  ·have hf:iZ K S (ay ord (ls.take i)) (ls.getD i 0):=qj.1 (m.Sk hg eq);refine aa.fn (.cons (.cons (.app .here))) (Py h2 Dr RH hf zO) ?_;rintro r H ⟨rfl,C3,rfl,h3⟩;refine ae.cK (Br.F (ae.inc (aC.mk ⟨i+1,C3,hg,rfl,rfl,?_⟩ (by simp only[bN];omega))));have e:ls.take (i+1)=ls.take i++[ls.getD i 0]:=by rw[xbf,eq];rfl
   rw[e,gx,<-xak];exact h3
  obtain rfl:i=(m.dx 0 ls ord).length:=by omega
  have hf:¬iZ K S (ay ord (ls.take (m.dx 0 ls ord).length)) (ls.getD (m.dx 0 ls ord).length 0):=λhf=>by
   have h8:=m.Nf eq;have h9:=qj.2 hf;rw[show(rm K S).fit _ _=false from h8]at h9;cases h9
  refine aa.eq (Pz h2 Dr RH hf) (ae.cK (Br.T (St.one (by exact .tail (.head _)) rfl zI rfl ?_)));refine tW (R:=_) ?_;unfold L246;refine Ld.q ?_;refine aa.fn (.cons (.cons (.app .here))) (LA h2 (hpt _) RH zO) ?_;rintro r H ⟨rfl,C3,rfl,h3⟩;refine Ld.q ?_;have eD:(m.dx 0 ls ord).length+(ls.take (m.dx 0 ls ord).length).length=2*(m.dx 0 ls ord).length:=by rw[xbF];omega
  rw[eD];refine Ld.n ?_;refine St.one (by exact .tail (.head _)) rfl zI rfl ?_;refine⟨⟨_,rfl⟩,?_⟩;refine Ld.q ?_;refine aN.mk (.skip (.skip (.dc .tail _))) ⟨C3,rfl,.inr ⟨xal (show¬(m.dx 0 ls ord).length=ls.length by omega),rfl,h3⟩⟩
 have RK:i=ls.length:=by omega
 subst RK;rw[xa9]at h2;have hcan:(rm K S).can ord ls=true:=xam (show(m.dx 0 ls ord).length=ls.length by omega);refine Ld.q ?_;refine Nil.ptr (ai.mk (St.one (cZ.tail (cZ.tail (cZ.cq (.head _) _))) rfl zI rfl ?_));refine St.one (by exact .tail (.head _)) rfl zI rfl ?_;refine tW (R:=_) ?_;unfold L246;refine Ld.q ?_;refine aa.eq (B:=wk b kp tr.length ls.length true::C2) Lz (Ld.q ?_);refine Ld.n ?_;refine St.one (by exact .tail (.head _)) rfl zI rfl ?_;refine⟨⟨_,rfl⟩,?_⟩;refine Ld.q ?_;refine aN.mk (.skip (.skip (.dc .tail _))) ⟨C2,rfl,.inl ⟨hcan,rfl,h2⟩⟩
end
section
variable {kp b f d:Nat} {K:Kd} {S:Nat->aq.Fn} {ord tr:zL} {C:Hp}
theorem Ll.tup{ls:zL}{r:zV}(h:Ll kp K S ord tr ls r C):∃x y,r=.tuple #[x,y]:=by
 rcases h with⟨_,rfl,_⟩|⟨_,rfl,_⟩<;>exact⟨_,_,rfl⟩
theorem QH{Y:Hp}{v:zV}{q:zL}(h:At kp K S ord tr C)(hI:dI .i64 Y v (iw q))(Zl:ord.Perm (List.range K.n))(hpq:q.Perm (List.range K.n))(eU:tr.length<17454747090944):
  Fc zQ 118 #[ptr kp,v] (Y++C) (λr H=>∃C',H=Y++C'/\Ll kp K S ord tr (path ord q) r C'):=by
 have hn:=h.lT;have Ey:ord.length=K.n:=by rw[Zl.length_eq,xaH]
 have hql:q.length=K.n:=by rw[hpq.length_eq,xaH]
 have fA:q.Nodup:=hpq.nodup_iff.2 xbg;refine aF λg=>Jh (ae.aI (Br.no ?_));intro J2 BJ;refine aa.rq (su hI (by rw[au];omega)) ?_;rintro r (⟨rfl,ha,hl⟩|⟨_,_,hl⟩|⟨_,hno⟩);rotate_left
 ·rw[au]at hl;omega
 ·exact absurd (wT hpq) hno
 refine ae.cK (Split.go zD ?_);refine hI.bX (aa.eq (m4 h) (ae.CJ ?_));rw[xal (by rw[au];omega)];refine aL.mk (JE.mk (BJ _ _ λgs=>Br.no ?_));refine aa.fq (Tj h) ?_;rintro vo H ⟨N,rfl,ho⟩;refine aa.pre (H':=(N++Y)++C) (.perm (by rw[xak,<-xak,<-xak];exact xbj.append_right C)) (aa.fq (Qv (ho.ints.mono λ_ h=>xae _ h) (hI.mono λ_ h=>xab _ h) Zl hpq hn) ?_);rintro r H ⟨s,CP,rfl,rfl,hP⟩;refine Ext.mk rfl (Ext.mk rfl (ae.cK (Br.F ?_)));obtain⟨_,yZ⟩:=AK fA (Zl.trans hpq.symm);have aim:(path ord q).length<=4096:=by
  have:=sA fA (Zl.trans hpq.symm) q.length (xai _);have h2:q.length*ord.length<=64*64:=xb7 zO zO;unfold path;omega
 refine aa.fq (Vq h (hP.ints.mono λ_ h=>xae _ h) (λx hx=>by have:=yZ x hx;omega) zO) ?_;rintro r H ⟨C',rfl,hM⟩;obtain⟨x,y,rfl⟩:=hM.tup;refine Ext.two (aN.mk ?_ ⟨C',rfl,hM⟩);rw[xak,xak];exact aM.right.trans .right
def Vx(p:Nat):Nat->Nat->Nat
 |0,_=>p
 |_,k=>p-k
def MX(n p:Nat):Nat->Nat->Nat
 |0,k=>p+k
 |_,_=>n-1
end
end
end Go.Proofs
namespace aq
theorem sn{p j:Nat}(h:p<=j):road p (j+1)=road p j++[j]:=by
 unfold road;rw[show p-(j+1)=0 by omega,show p-j=0 by omega,show j+1-p=(j-p)+1 by omega,List.range'_concat];simp;omega
theorem sq{p j:Nat}(h:j<p):road p j=road p (j+1)++[j]:=by
 unfold road;rw[show j-p=0 by omega,show j+1-p=0 by omega,show p-j=(p-(j+1))+1 by omega,List.range'_succ];simp
theorem gy(p:Nat):road p p=[]:=by unfold road;simp
end aq
set_option maxRecDepth 100000
namespace Go.Proofs
open Go Go.Sx
open aq
section
variable {kp gb n:Nat} {vr vf:zV} {refs:zL} {fs:List (zL)} {K:Kd} {S:Nat->aq.Fn} {ord tr:zL} {C Z:Hp}
theorem Kg{ord:zL}(hp:ord.Perm (List.range n)):∀i,i<n->ord.getD i 0<n:=λi hi=>by
 have Ey:ord.length=n:=by rw[hp.length_eq,xaH]
 have:ord.getD i 0∈ord:=by rw[xaq,xaa zO];exact xaJ _
 exact xaM.1 (hp.mem_iff.1 this)
end
end Go.Proofs
namespace Go.Sx
open Go Go.ChangeShapes Go.WideShapes Go.Deep
section
variable {H:Type} {enc:TypeId×zV->H} {P:Program} {W:World} {base:Nat} {spare:Nat->Bool} {held:Bool}
theorem tc(a:Addr)(n:Nat):(a.add n).block=a.block:=by unfold Addr.add;split<;>rfl
theorem Bq(a:Addr)(n:Nat):(a.add n).off=a.off+n:=by unfold Addr.add;split<;>simp_all
theorem kS{b:Nat}{a:Addr}{k:Nat}{cs:List zV}(hk:0<k)(h:W.cells? b a k=some cs):
  a.spot=none/\∃c T fz,W.heap[a.block]? =some (.cells c T fz)/\a.off+k<=c.size/\c.extract a.off (a.off+k)=cs.toArray:=by
 obtain⟨_,hl,hg⟩:=World.cells?_some h;have h0:=hg 0 hk;have hc0:W.cell? a=some (cs[0]' zO):=by
  have:a.add 0=a:=by simp[Addr.add]
  rw[this]at h0;rw[h0];exact xaa zO
 unfold World.cell? at hc0;split at hc0
 ·rename_i c T fz hb;cases hs:a.spot with
  |some s=>rw[hs]at hc0;simp at hc0
  |none=>
   have hcell:∀i,i<k->c[a.off+i]? =cs[i]? :=λi hi=>by
    have:=hg i hi;unfold World.cell? at this;rw[tc,hb]at this;simp only[Bq]at this;have hsp:(a.add i).spot.isSome=false:=by unfold Addr.add;split<;>simp[hs]
    rw[hsp]at this;simpa using this
   have hsz:a.off+k<=c.size:=by
    have:=hcell (k-1) zO;rw[xaa zO]at this;have:=(xaS.1 this).1;omega
   refine⟨rfl,c,T,fz,hb,hsz,?_⟩;apply Array.ext_getElem?;intro i;rw[xdj];by_cases hi:i<k
   ·rw[xad zO,hcell i hi];simp
   rw[xac zO];simp;omega
 simp at hc0
theorem aaA{t e:TypeId}{v:zV}{d:DataW H}{ps:List MemPlace}{r:Reach}{b0 k:Nat}(ht:P.underlying t=some (.slice e))(hk:P.cellsOf e=k)(Zx:0<k)(hv:Value.okWide P W r b0 t v)(h:DataW.Trod enc P W base spare held t v d ps):
  (v=.slice none 0 0/\d=.nil)\/∃(a:Addr) (n cap:Nat) (es sp:List (DataW H)),v=.slice (some a) n cap/\d=.slice es sp/\es.length=n/\n<=cap/\
   ∀i,i<n->∃c T fz cs,a.spot=none/\(a.block,Obj.cells c T fz)∈whole W/\a.off+i*k+k<=c.size/\c.extract (a.off+i*k) (a.off+i*k+k)=cs.toArray/\∃fuel y,DataW.trod enc P W base spare held fuel e cs=some y/\cs.length=k:=by
 obtain⟨a0,n0,c0,rfl⟩:=okWide_slice ht hv;obtain⟨fuel,hf⟩:=h;rcases open_slice ht hf with⟨h1,h2⟩|⟨a,len,cap,m,n,D,Pl,hcs,hb,hl,hm,xV,hx,hi⟩
 ·left;simp only[Value.cells,xav,xaW]at h1;simp only[xdy]at h2;exact⟨by simpa using h1,h2.1⟩
 right;simp only[xdy]at hx;have n7:Value.slice a0 n0 c0=.slice (some a) len cap:=by simpa[Value.cells]using hcs
 have hlm:len<=m:=by rw[xV];split<;>omega
 refine⟨a,len,cap,_,_,n7,hx.1,by simp,hl,λi hin=>?_⟩;have hkk:=hk;have Di:a.spot=none:=by
  obtain⟨cs0,hc0,_⟩:=hi 0 zO;rw[hk]at hc0;rw[show a.add (0*k)=a by simp[Addr.add]]at hc0;exact(kS Zx hc0).1
 obtain⟨cs,hc,hd⟩:=hi i zO;rw[hk]at hc;obtain⟨_,hlen,_⟩:=World.cells?_some hc;obtain⟨_,c,T,fz,h1,h2,h3⟩:=kS Zx hc;rw[tc]at h1;rw[Bq]at h2 h3;exact⟨c,T,fz,cs,Di,yH h1,h2,h3,n,_,hd,hlen⟩
theorem LV{t e:TypeId}{cs:List zV}{x:DataW H×List MemPlace}{fuel k:Nat}(ht:P.underlying t=some (.slice e))(hk:P.cellsOf e=k)(Zx:0<k)(h:DataW.trod enc P W base spare held fuel t cs=some x):
  ∃(v:zV) (rs:List (List zV)),cs=[v]/\Sl k (whole W) v rs/\((rs=[]/\x.1=.nil)\/∃es sp,x.1=.slice es sp/\es.length=rs.length)/\
   ∀(i:Nat) (r:List zV),rs[i]? =some r->∃(fuel:Nat) (y:DataW H×List MemPlace) (es sp:List (DataW H)),DataW.trod enc P W base spare held fuel e r=some y/\x.1=.slice es sp/\es[i]? =some y.1:=by
 rcases open_slice ht h with⟨h1,h2⟩|⟨a,len,cap,m,n,D,Pl,hcs,hb,hl,hm,xV,hx,hi⟩
 ·exact⟨_,[],h1,Sl.nil _ _,.inl ⟨rfl,by rw[h2]⟩,λi r hr=>by simp at hr⟩
 have hlm:len<=m:=by rw[xV];split<;>omega
 have hex:∃rs:List (List zV),rs.length=len/\∀i r,rs[i]? =some r->W.cells? base (a.add (i*k)) k=some r/\DataW.trod enc P W base spare held n e r=some (D i,Pl i):=by
  clear hcs hx hl xV;induction len with
  |zero=>exact⟨[],rfl,λi r hr=>by simp at hr⟩
  |succ len ih=>
   obtain⟨rs,h1,h2⟩:=ih zO;obtain⟨r,h3,h4⟩:=hi len zO;rw[hk]at h3;refine⟨rs++[r],by simp[h1],λi r' hr=>?_⟩;by_cases hlt:i<rs.length
   ·rw[xaY hlt]at hr;exact h2 i r' hr
   rw[xbP zO]at hr;have FV:i-rs.length=0:=by
    by_cases e:i-rs.length=0
    ·exact e
    rw[xaB zP]at hr;cases hr
   rw[FV]at hr;simp only[xcP,xar]at hr;subst hr;obtain rfl:i=len:=by omega
   exact⟨h3,h4⟩
 obtain⟨rs,Dk,Dj⟩:=hex;have aG:∀r∈rs,r.length=k:=λr hr=>by
  obtain⟨i,hi,e⟩:=xba.1 hr;obtain⟨hc,_⟩:=Dj i r (by rw[xaa hi,e]);exact(World.cells?_some hc).2.1
 refine⟨.slice (some a) len cap,rs,hcs,⟨aG,?_⟩,.inr ⟨_,_,by rw[hx],by simp[Dk]⟩,λi r hr=>?_⟩
 ·cases rs with
  |nil=>exact .inl ⟨some a,cap,by rw[<-Dk];rfl,rfl⟩
  |cons r0 rest=>
   right;obtain⟨hc0,_⟩:=Dj 0 r0 rfl;obtain⟨Di,c,T,fz,hb0,_,_⟩:=kS Zx hc0;rw[show a.add (0*k)=a by simp[Addr.add]]at Di hb0;obtain⟨ab,ao,asp⟩:=a;simp only at Di hb0;subst Di;have acO:∀i r,(r0::rest)[i]? =some r->ao+i*k+k<=c.size/\c.extract (ao+i*k) (ao+i*k+k)=r.toArray:=λi r hr=>by
    obtain⟨hc,_⟩:=Dj i r hr;obtain⟨_,c',T',fz',h1,h2,h3⟩:=kS Zx hc;rw[tc]at h1;rw[Bq]at h2 h3;simp only at h1 h2 h3;rw[hb0]at h1;simp only[xar,Obj.cells.injEq]at h1;obtain⟨rfl,_,_⟩:=h1;exact⟨h2,h3⟩
   refine⟨ab,ao,cap,c,T,fz,by rw[Dk],by omega,yH hb0,?_,λi r hr j v hj=>?_⟩
   ·have acp:=acO (rest.length) ((r0::rest)[rest.length]' zI) (xaa zI);have:=acp.1;simp only[xay,xbu];omega
   obtain⟨h1,h2⟩:=acO i r hr;have V8:j<k:=by
    have:=(xag.1 hj).1;rw[aG r (xau hr)]at this;exact this
   have h3:=xch (λz:Array zV=>z[j]?) h2;simp only[xdj,xdq]at h3;rw[hj]at h3;rw[<-h3,xad zO]
 obtain⟨_,hd⟩:=Dj i r hr;have RK:i<len:=by rw[<-Dk];exact(xag.1 hr).1
 exact⟨n,_,_,_,hd,by rw[hx],by simp[RK]⟩
end
end Go.Sx
set_option maxRecDepth 100000
namespace Go.Proofs
open Go Go.Sx
section
open Go.ChangeShapes Go.WideShapes Go.Deep
variable {H:Type} {enc:TypeId×zV->H} {W:World} {base:Nat} {spare:Nat->Bool} {held:Bool}
theorem VB{f:FuncId}{args:Array zV}{W:World}(h:Rd zQ f args (whole W) (· =.bool true)):
  Calls zQ f args W λe W'=>e=.returned (.bool true)/\Go.RowKit.Below W.heap.size W W':=
 YV (h.mono λ_ _ ⟨h1,h2⟩=>⟨by rw[h1];exact .refl _,h2⟩)
end
end Go.Proofs
namespace aq
def Rm.Ew(m:Rm)(g:Nat)(ord:zL)(p:Nat)(dn:Bool):Nat->Nat->Nat->Nat->Nat×Nat×Nat
 |0,j,b,q=>(j,b,q)
 |k+1,j,b,q=>
  if m.fit (ay ord (road p j)) (bif dn then j else j-1)=true then
   if(if m.size (ay ord (road p (bif dn then j+1 else j-1)))<b then m.size (ay ord (road p (bif dn then j+1 else j-1)))else b)*g<m.size (ay ord (road p (bif dn then j+1 else j-1)))*100 then
    (bif dn then j+1 else j-1,if m.size (ay ord (road p (bif dn then j+1 else j-1)))<b then m.size (ay ord (road p (bif dn then j+1 else j-1)))else b,if m.size (ay ord (road p (bif dn then j+1 else j-1)))<b then(bif dn then j+1 else j-1)else q)
   else m.Ew g ord p dn k (bif dn then j+1 else j-1) (if m.size (ay ord (road p (bif dn then j+1 else j-1)))<b then m.size (ay ord (road p (bif dn then j+1 else j-1)))else b) (if m.size (ay ord (road p (bif dn then j+1 else j-1)))<b then(bif dn then j+1 else j-1)else q)
  else(j,b,q)
def dst(x y:Nat):Nat:=(x-y)+(y-x)
def Rm.rest(m:Rm)(dn:Bool)(j:Nat):Nat:=bif dn then m.n-1-j else j
def Rm.sj(m:Rm)(g:Nat)(ord:zL)(p:Nat):Nat×Nat:=
 let dn:=decide (m.n-1-p<=p)
 let a:=m.Ew g ord p dn (m.rest dn p) p (m.size ord) p
 let b:=m.Ew g ord p (!dn) (m.rest (!dn) p) p a.2.1 a.2.2
 (b.2.2,dst a.1 p+dst a.1 p+dst b.1 p+if b.2.2≠a.2.2 then dst b.1 b.2.2 else dst b.1 p+dst p b.2.2)
def Rm.cj(m:Rm)(g:Nat)(ord:zL):zL->zL×Nat
 | []=>([],0)
 |v::r=>let p:=ord.idxOf v;let a:=m.sj g ord p;let b:=m.cj g (ay ord (road p a.1)) r;(road p a.1++b.1,a.2+b.2)
structure adP(m:Rm)(ord:zL)(p:Nat)(dn:Bool)(k j b q:Nat)(r:Nat×Nat×Nat):Prop where
 way:bif dn then j<=r.1/\r.1<=j+k else r.1<=j/\j<=r.1+k
 size:r.2.1=m.size (ay ord (road p r.2.2))
 new:(r.2.1=b/\r.2.2=q)\/(r.2.1<b/\bif dn then j<r.2.2/\r.2.2<=r.1 else r.1<=r.2.2/\r.2.2<j)
 fit:∀i,(bif dn then j<=i/\i<r.1 else r.1<i/\i<=j)->m.fit (ay ord (road p i)) (bif dn then i else i-1)=true
theorem Rm.vN(m:Rm)(g:Nat)(ord:zL)(p:Nat)(dn:Bool):∀k j b q,(dn=false->k<=j)->b=m.size (ay ord (road p q))->adP m ord p dn k j b q (m.Ew g ord p dn k j b q)
 |0,j,b,q,hk,hb=>⟨by cases dn<;>simp[Ew],hb,.inl ⟨rfl,rfl⟩,λi hi=>by cases dn<;>simp[Ew]at hi<;>omega⟩
 |k+1,j,b,q,hk,hb=>by
  rw[Ew];by_cases hf:m.fit (ay ord (road p j)) (bif dn then j else j-1)=true
  ·rw[xad hf];obtain⟨J,hJ⟩:∃J,J=bif dn then j+1 else j-1:=⟨_,rfl⟩;rw[<-hJ];obtain⟨s,hs⟩:∃s,s=m.size (ay ord (road p J)):=⟨_,rfl⟩;rw[<-hs];obtain⟨B,hB⟩:∃B,B=if s<b then s else b:=⟨_,rfl⟩
   obtain⟨Q,hQ⟩:∃Q,Q=if s<b then J else q:=⟨_,rfl⟩
   rw[<-hB,<-hQ];have hbq:(B=b/\Q=q)\/(B<b/\Q=J):=by
    by_cases h:s<b
    ·rw[xad h]at hB hQ;exact .inr ⟨by omega,hQ⟩
    rw[xac h]at hB hQ;exact .inl ⟨hB,hQ⟩
   have hb':B=m.size (ay ord (road p Q)):=by
    by_cases h:s<b
    ·rw[xad h]at hB hQ;rw[hB,hQ,hs]
    rw[xac h]at hB hQ;rw[hB,hQ,hb]
   clear hB hQ;by_cases hg:B*g<s*100
   ·rw[xad hg];refine⟨?_,hb',?_,λi hi=>?_⟩
    ·cases dn
     ·simp only[xah]at hJ⊢;have:=hk rfl;omega
     simp only[xap]at hJ⊢;omega
    ·cases dn
     ·simp only[xah]at hJ⊢;have:=hk rfl;omega
     simp only[xap]at hJ⊢;omega
    have:i=j:=by
     cases dn
     ·simp only[xah]at hi hJ;omega
     simp only[xap]at hi hJ;omega
    subst this;exact hf
   rw[xac hg];have ih:=m.vN g ord p dn k J B Q (λh=>by subst h;have:=hk rfl;simp only[xah]at hJ;omega) hb';obtain⟨w1,w2,w3,w4⟩:=ih;refine⟨?_,w2,?_,λi hi=>?_⟩
   ·cases dn
    ·simp only[xah]at w1 hJ⊢;have:=hk rfl;omega
    simp only[xap]at w1 hJ⊢;omega
   ·cases dn
    ·simp only[xah]at w3 w1 hJ⊢;have:=hk rfl;omega
    simp only[xap]at w3 w1 hJ⊢;omega
   by_cases e:i=j
   ·subst e;exact hf
   refine w4 i ?_;cases dn
   ·simp only[xah]at hi hJ⊢;omega
   simp only[xap]at hi hJ⊢;omega
  rw[xac hf];exact⟨by cases dn<;>simp,hb,.inl ⟨rfl,rfl⟩,λi hi=>by cases dn<;>simp at hi<;>omega⟩
structure adM(m:Rm)(ord:zL)(p:Nat)(r:Nat×Nat):Prop where
 lt:r.1<m.n
 le:m.size (ay ord (road p r.1))<=m.size ord
 stay:m.size (ay ord (road p r.1))=m.size ord->r.1=p
 uQ:r.2<=3*(m.n-1)
theorem Rm.AA(m:Rm)(g:Nat){ord:zL}{p:Nat}(hp:p<m.n):adM m ord p (m.sj g ord p):=by
 have ha:=m.vN g ord p (decide (m.n-1-p<=p)) (m.rest (decide (m.n-1-p<=p)) p) p (m.size ord) p (λh=>by unfold Rm.rest;rw[h];exact xai _) (by rw[gy];rfl);unfold sj;simp only;generalize decide (m.n-1-p<=p)=dn at*;generalize m.Ew g ord p dn (m.rest dn p) p (m.size ord) p=a at*;have hb:=m.vN g ord p (!dn) (m.rest (!dn) p) p a.2.1 a.2.2 (λh=>by unfold Rm.rest;rw[h];exact xai _) ha.size;generalize m.Ew g ord p (!dn) (m.rest (!dn) p) p a.2.1 a.2.2=b at*;obtain⟨a1,a2,a3,a4⟩:=ha;obtain⟨b1,b2,b3,b4⟩:=hb;unfold Rm.rest at a1 b1;refine⟨?_,?_,λh=>?_,?_⟩
 ·cases dn<;>simp only[xah,xap,xcp,xcz]at a1 b1 a3 b3<;>simp only<;>omega
 ·simp only;rw[<-b2];cases dn<;>simp only[xah,xap,xcp,xcz]at a1 b1 a3 b3<;>omega
 ·simp only at h⊢;rw[<-b2]at h;cases dn<;>simp only[xah,xap,xcp,xcz]at a1 b1 a3 b3<;>omega
 unfold dst;cases dn<;>simp only[xah,xap,xcp,xcz]at a1 b1 a3 b3<;>simp only<;>split<;>omega
end aq
namespace aq
section
variable {m:Rm} {g:Nat}
theorem J0{p q:Nat}(hp:p<m.n)(hq:q<m.n):∀x∈road p q,x+1<m.n:=λx hx=>Qr hp hq hx
theorem FI{ord:zL}{v n:Nat}(hp:ord.Perm (List.range n))(hv:v<n):ord.idxOf v<n:=by
 have h1:v∈ord:=hp.mem_iff.2 (xaM.2 hv);have h2:=xem h1;rwa [hp.length_eq,xaH]at h2
theorem mF{ord path:zL}{n:Nat}(hp:ord.Perm (List.range n))(h:∀x∈path,x+1<n):(ay ord path).Perm (List.range n):=
 (lB λx hx=>by rw[hp.length_eq,xaH];exact h x hx).trans hp
structure aaf(m:Rm)(g:Nat)(ord l:zL)(r:zL×Nat):Prop where
 mem:∀x∈r.1,x+1<m.n
 le:m.size (ay ord r.1)<=m.size ord
 stay:m.size (ay ord r.1)=m.size ord->r.1=[]/\∀v∈l,(m.sj g ord (ord.idxOf v)).1=ord.idxOf v
 uQ:r.2<=3*(m.n-1)*l.length
 len:r.1.length<=m.n*l.length
theorem mH:∀{l ord:zL},ord.Perm (List.range m.n)->(∀v∈l,v<m.n)->aaf m g ord l (m.cj g ord l)
 | [],ord,hp,hl=>⟨by simp[Rm.cj],xai _,λ_=>⟨rfl,by simp⟩,by simp[Rm.cj],by simp[Rm.cj]⟩
 |v::l,ord,hp,hl=>by
  have hv:=FI hp (hl v zI);have h1:=m.AA g (ord:=ord) hv;rw[Rm.cj];generalize hq:ord.idxOf v=p at*;generalize hr:m.sj g ord p=a at*;obtain⟨a1,a2,a3,a4⟩:=h1;have hin:=J0 hv a1;have h2:=mH (l:=l) (ord:=ay ord (road p a.1)) (mF hp hin) (λx hx=>hl x (by simp[hx]));generalize m.cj g (ay ord (road p a.1)) l=b at*;obtain⟨b1,b2,b3,b4,b5⟩:=h2;have Dk:=u5 p a.1;refine⟨λx hx=>?_,?_,λh=>?_,?_,?_⟩
  ·rcases xao.1 hx with h|h
   ·exact hin x h
   exact b1 x h
  ·rw[cg];omega
  ·rw[cg]at h;have e:=a3 zO;rw[e,gy]at b3 h⊢;obtain⟨c1,c2⟩:=b3 h;refine⟨by rw[c1];rfl,λu hu=>?_⟩;rcases xaj.1 hu with rfl|hu
   ·rw[hq,hr];exact e
   exact c2 u hu
  ·rw[xay,xdC,xbZ];show a.2+b.2<=_;omega
  rw[xaf,xay,xdC,xbZ];omega
def Rm.cL(m:Rm)(g:Nat)(ord:zL):List (zL)->zL×Nat
 | []=>([],0)
 |l::r=>let a:=m.cj g ord l;let b:=m.cL g (ay ord a.1) r;(a.1++b.1,a.2+b.2)
def Rm.oe(m:Rm)(g:Nat)(ord:zL):List (zL)->Prop
 | []=>False
 | [l]=>¬m.size (ay ord (m.cj g ord l).1)<m.size ord
 |l::r=>m.size (ay ord (m.cj g ord l).1)<m.size ord/\m.oe g (ay ord (m.cj g ord l).1) r
theorem qw{ord l:zL}{r:List (zL)}(hr:r≠[]):m.oe g ord (l::r)↔m.size (ay ord (m.cj g ord l).1)<m.size ord/\m.oe g (ay ord (m.cj g ord l).1) r:=by
 cases r with
 |nil=>exact absurd rfl hr
 |cons a b=>exact xcW
structure aag(m:Rm)(g:Nat)(ord:zL)(ls:List (zL))(r:zL×Nat):Prop where
 mem:∀x∈r.1,x+1<m.n
 le:m.size (ay ord r.1)<=m.size ord
 YF:1<=ls.length/\ls.length+m.size (ay ord r.1)<=m.size ord+1
 still:∀v,v<m.n->(m.sj g (ay ord r.1) ((ay ord r.1).idxOf v)).1=(ay ord r.1).idxOf v
 uQ:r.2<=3*(m.n-1)*m.n*ls.length
 len:r.1.length<=m.n*m.n*ls.length
theorem JU:∀{ls:List (zL)} {ord:zL},ord.Perm (List.range m.n)->(∀l∈ls,l.Perm (List.range m.n))->m.oe g ord ls->aag m g ord ls (m.cL g ord ls)
 | [],ord,hp,hl,hg=>hg.elim
 | [l],ord,hp,hl,hg=>by
  have V5:=hl l zI;have ni:l.length=m.n:=by rw[V5.length_eq,xaH]
  obtain⟨a1,a2,a3,a4,a5⟩:=mH (g:=g) hp (λv hv=>xaM.1 (V5.mem_iff.1 hv)) (l:=l);have KC:¬m.size (ay ord (m.cj g ord l).1)<m.size ord:=hg;have h:m.cL g ord [l]=((m.cj g ord l).1++[],(m.cj g ord l).2+0):=rfl;rw[h,xaL,xcx];have he:m.size (ay ord (m.cj g ord l).1)=m.size ord:=by omega
  obtain⟨c1,c2⟩:=a3 he;refine⟨a1,a2,⟨by simp,by simp;omega⟩,λv hv=>?_,by rw[ni]at a4;simpa using a4,by rw[ni]at a5;simpa using a5⟩;rw[c1];exact c2 v (V5.mem_iff.2 (xaM.2 hv))
 |l::l2::r,ord,hp,hl,hg=>by
  have V5:=hl l zI;have ni:l.length=m.n:=by rw[V5.length_eq,xaH]
  obtain⟨a1,a2,a3,a4,a5⟩:=mH (g:=g) hp (λv hv=>xaM.1 (V5.mem_iff.1 hv)) (l:=l);obtain⟨g1,g2⟩:=(qw zI).1 hg;have ih:=JU (ls:=l2::r) (mF hp a1) (λx hx=>hl x (by simp[xaj.1 hx])) g2;have h:m.cL g ord (l::l2::r)=((m.cj g ord l).1++(m.cL g (ay ord (m.cj g ord l).1) (l2::r)).1,(m.cj g ord l).2+(m.cL g (ay ord (m.cj g ord l).1) (l2::r)).2):=rfl;rw[h];generalize m.cj g ord l=a at*;generalize m.cL g (ay ord a.1) (l2::r)=b at*;obtain⟨b1,b2,b3,b4,b5,b6⟩:=ih;refine⟨λx hx=>?_,by rw[cg];omega,⟨by simp,?_⟩,?_,?_,?_⟩
  ·rcases xao.1 hx with h|h
   ·exact a1 x h
   exact b1 x h
  ·rw[cg,xay];omega
  ·rw[cg];exact b4
  ·show a.2+b.2<=_;rw[ni]at a4;rw[xay,xdC,xbZ];omega
  rw[ni]at a5;rw[xaf,xay,xdC,xbZ];omega
theorem yp{v:Nat}:∀{l ord:zL},m.cj g ord (l++[v])=((m.cj g ord l).1++road ((ay ord (m.cj g ord l).1).idxOf v) (m.sj g (ay ord (m.cj g ord l).1) ((ay ord (m.cj g ord l).1).idxOf v)).1,(m.cj g ord l).2+(m.sj g (ay ord (m.cj g ord l).1) ((ay ord (m.cj g ord l).1).idxOf v)).2)
 | [],ord=>by simp[Rm.cj,ay]
 |u::l,ord=>by
  rw[xaQ,Rm.cj,Rm.cj];simp only;rw[yp (l:=l)];simp only[cg,xak,xcN]
theorem yq{l:zL}:∀{ls:List (zL)} {ord:zL},m.cL g ord (ls++[l])=((m.cL g ord ls).1++(m.cj g (ay ord (m.cL g ord ls).1) l).1,(m.cL g ord ls).2+(m.cj g (ay ord (m.cL g ord ls).1) l).2)
 | [],ord=>by simp[Rm.cL,ay]
 |u::ls,ord=>by
  rw[xaQ,Rm.cL,Rm.cL];simp only;rw[yq (ls:=ls)];simp only[cg,xak,xcN]
def Rm.sR(m:Rm)(g:Nat)(ord:zL):List (zL)->Prop
 | []=>True
 |l::r=>m.size (ay ord (m.cj g ord l).1)<m.size ord/\m.sR g (ay ord (m.cj g ord l).1) r
theorem tK{l:zL}:∀{ls:List (zL)} {ord:zL},m.sR g ord ls->m.size (ay (ay ord (m.cL g ord ls).1) (m.cj g (ay ord (m.cL g ord ls).1) l).1)<m.size (ay ord (m.cL g ord ls).1)->m.sR g ord (ls++[l])
 | [],ord,_,h=>⟨h,trivial⟩
 |u::ls,ord,h1,h=>by
  refine⟨h1.1,tK (ls:=ls) h1.2 ?_⟩;rw[Rm.cL]at h;simp only[cg]at h;exact h
theorem DB{l:zL}:∀{ls:List (zL)} {ord:zL},m.sR g ord ls->¬m.size (ay (ay ord (m.cL g ord ls).1) (m.cj g (ay ord (m.cL g ord ls).1) l).1)<m.size (ay ord (m.cL g ord ls).1)->m.oe g ord (ls++[l])
 | [],ord,_,h=>h
 |u::ls,ord,h1,h=>by
  rw[xaQ,qw zI];refine⟨h1.1,DB (ls:=ls) h1.2 ?_⟩;rw[Rm.cL]at h;simp only[cg]at h;exact h
structure TP(m:Rm)(g:Nat)(ord:zL)(ls:List (zL))(r:zL×Nat):Prop where
 mem:∀x∈r.1,x+1<m.n
 le:ls.length+m.size (ay ord r.1)<=m.size ord
 uQ:r.2<=3*(m.n-1)*m.n*ls.length
 len:r.1.length<=m.n*m.n*ls.length
theorem ze:∀{ls:List (zL)} {ord:zL},ord.Perm (List.range m.n)->(∀l∈ls,l.Perm (List.range m.n))->m.sR g ord ls->TP m g ord ls (m.cL g ord ls)
 | [],ord,hp,hl,hg=>⟨by simp[Rm.cL],by simp[Rm.cL,ay],by simp[Rm.cL],by simp[Rm.cL]⟩
 |l::r,ord,hp,hl,hg=>by
  have V5:=hl l zI;have ni:l.length=m.n:=by rw[V5.length_eq,xaH]
  obtain⟨a1,a2,a3,a4,a5⟩:=mH (g:=g) hp (λv hv=>xaM.1 (V5.mem_iff.1 hv)) (l:=l);have ih:=ze (ls:=r) (mF hp a1) (λx hx=>hl x (by simp[hx])) hg.2;have hg1:=hg.1;rw[Rm.cL];generalize m.cj g ord l=a at*;generalize m.cL g (ay ord a.1) r=b at*;obtain⟨b1,b2,b3,b4⟩:=ih;rw[ni]at a4 a5;refine⟨λx hx=>?_,by rw[cg,xay];omega,?_,?_⟩
  ·rcases xao.1 hx with h|h
   ·exact a1 x h
   exact b1 x h
  ·rw[xay,xdC,xbZ];show a.2+b.2<=_;omega
  rw[xaf,xay,xdC,xbZ];omega
end
end aq
set_option maxRecDepth 100000
namespace Go.Proofs
open Go Go.Sx
section
open aq
def gY(kp a b q gr sw:Nat)(la:Int)(st:zV):Array zV:=#[ptr kp,iv (a:Int),iv (b:Int),iv (q:Int),iv (gr:Int),iv (sw:Int),iv la,st]
def fk(wp:Nat)(c:Array zV):Nat×Obj:=(wp,.cells c 228 zZ)
def p6(bx wp:Nat):Nat×Obj:=(bx,.cells #[ptr wp] 225 zZ)
def stf(dn:Bool):Nat:=bif dn then 228 else 230
def Bz(dn:Bool)(bx:Nat):zV:=.func (.func (stf dn)) #[] #[ptr bx]
def Eo:Hp->Nat
 |(_,.cells c _ _)::_=>bN c.toList 1
 |_=>0
section
variable {kp wp bx a b q gr sw p:Nat} {la:Int} {st:zV} {K:Kd} {S:Nat->aq.Fn} {ord o tr:zL} {C:Hp} {dn:Bool}
theorem PS{l a':Nat}{d:Int}(h:At kp K S ord tr C)(hl:l+1<K.n)(eU:tr.length<17592186044416)(hf:iZ K S ord l)(ha:(a:Int)+d=(a':Int))(hb:a'<1024)(BC:sw<4611686018427387904):
  Fc zQ 229 #[ptr wp,iv (l:Int),iv d] (fk wp (gY kp a b q gr sw la st)::C) (λv H=>v=iv 0/\∃C',H=fk wp (gY kp a' b q gr (sw+1) la st)::C'/\At kp K S (fI ord l) (tr++[l]) C'):=by
 refine aF λg=>xk (Ld.n ?_);refine aa.fq (uI h hl eU hf) ?_;rintro v C' ⟨rfl,h'⟩;intro J6 h6;refine ae.ia (Br.T (Ld.n ?_));refine ae.inc (Nil.ptr (ai.mk (St.one (c':=gY kp a b q gr (sw+1) la st) (by exact .head _) rfl (by simp[gY]) rfl ?_)));refine Ld.n ?_;refine ae.Ee (c:=(a':Int)) ha zO (Nil.ptr (ai.mk (St.one (c':=gY kp a' b q gr (sw+1) la st) (by exact .head _) rfl (by simp[gY]) rfl ?_)));exact JE.mk (h6 _ λgs=>aN.here ⟨rfl,C',rfl,h'⟩)
theorem Xk{l:Nat}{d:Int}(h:At kp K S ord tr C)(hl:l+1<K.n)(eU:tr.length<17592186044416)(hf:¬iZ K S ord l):
  Rd zQ 229 #[ptr wp,iv (l:Int),iv d] (fk wp (gY kp a b q gr sw la st)::C) (· =iv 9):=by
 refine aF λg=>xk (Ld.n ?_);refine aa.eq (m5 h hl eU hf) λJ6 h6=>?_;exact ae.ia (Br.F (JE.mk (h6 _ λgs=>bg.mk (.refl _) rfl)))
theorem sb(h:At kp K S ord tr C)(T1:1<=K.n):
  Fc zQ 169 #[ptr wp,.bool dn] (fk wp (gY kp a b q gr sw la st)::C) (λv H=>v=.tuple #[]/\∃bx,H=fk wp (gY kp a b q gr sw (bif dn then((K.n-1:Nat):Int)else 0) (Bz dn bx))::p6 bx wp::C):=by
 have hn:=h.lT;refine aF λg=>IE λb1 _=>?_;cases dn
 ·refine Br.no (Ld.q ?_);refine Nil.ptr (ai.mk (St.one (c':=gY kp a b q gr sw 0 st) (by exact .tail (.head _)) rfl (by simp[gY]) rfl ?_));refine Ld.q ?_;refine Nil.ptr (ai.mk (St.one (c':=gY kp a b q gr sw 0 (Bz false b1)) (by exact .tail (.head _)) rfl (by simp[gY]) rfl ?_));exact aN.mk .swap ⟨rfl,b1,rfl⟩
 refine Br.yes (DR.self (Ld.q ?_));refine Ld.q ?_;refine Ld.n ?_;intro F;refine aa.eq (m4 h) (⟨.refl _,?_⟩);refine ae.cc (b:=1) (Nil.ptr (ai.mk λF=>(St.one (c':=gY kp a b q gr sw ((K.n-1:Nat):Int) st) (by exact .tail (.head _)) rfl (by simp[gY]) rfl ?_)));refine Ld.q ?_;refine Nil.ptr (ai.mk (St.one (c':=gY kp a b q gr sw ((K.n-1:Nat):Int) (Bz true b1)) (by exact .tail (.head _)) rfl (by simp[gY]) rfl ?_));exact aN.mk .swap ⟨rfl,b1,rfl⟩
def oZ(dn:Bool)(j:Nat):Nat:=bif dn then j+1 else j-1
def Yr(dn:Bool)(j:Nat):Nat:=bif dn then j else j-1
theorem Qq{j:Nat}(hs:bif dn then p<=j else 0<j/\j<=p):road p (oZ dn j)=road p j++[Yr dn j]:=by
 cases dn
 ·simp only[xah]at hs;obtain⟨i,rfl⟩:∃i,j=i+1:=⟨j-1,by omega⟩;exact sq hs.2
 exact sn hs
theorem B3{j:Nat}(h:At kp K S (ay o (road p j)) (tr++road p j) C)(hp:p<K.n)(hs:bif dn then p<=j/\j+1<K.n else 0<j/\j<=p)(eU:(tr++road p j).length<17592186044416)(hf:iZ K S (ay o (road p j)) (Yr dn j))(BC:sw<4611686018427387904):
  Fc zQ (stf dn) #[ptr bx] (fk wp (gY kp j b q gr sw la st)::p6 bx wp::C) (λv H=>v=iv 0/\∃C',H=fk wp (gY kp (oZ dn j) b q gr (sw+1) la st)::p6 bx wp::C'/\At kp K S (ay o (road p (oZ dn j))) (tr++road p (oZ dn j)) C'):=by
 have hn:=h.lT;have hr:=Qq (p:=p) (dn:=dn) (j:=j) (by cases dn<;>simp only[xah,xap]at hs⊢ <;>omega);intro g;rw[hr,gx,<-xak];cases dn
 ·simp only[xah]at hs;refine xj (R:=aN _) ?_;unfold L230;refine DR.self (Ld.q ?_);refine Ld.q ?_;refine Ld.n ?_;refine ae.cc (b:=1) λF=>?_;refine aa.pre .swap ?_;refine aa.fn (.cons .here) (PS (a':=j-1) h zO eU hf zO zO BC) ?_;rintro v H ⟨rfl,C',rfl,h'⟩;exact aN.mk .swap ⟨rfl,C',rfl,h'⟩
 simp only[xap]at hs;refine xl (R:=aN _) ?_;unfold L228;refine DR.self (Ld.q ?_);refine Ld.q ?_;refine Ld.n ?_;intro F;refine aa.pre .swap ?_;refine aa.fn (.cons .here) (PS (a':=j+1) h zO eU hf zO zO BC) ?_;rintro v H ⟨rfl,C',rfl,h'⟩;exact aN.mk .swap ⟨rfl,C',rfl,h'⟩
theorem UG{j:Nat}(h:At kp K S ord tr C)(hs:bif dn then j+1<K.n else 0<j/\j<K.n)(eU:tr.length<17592186044416)(hf:¬iZ K S ord (Yr dn j)):
  Rd zQ (stf dn) #[ptr bx] (fk wp (gY kp j b q gr sw la st)::p6 bx wp::C) (· =iv 9):=by
 have hn:=h.lT;intro g;cases dn
 ·simp only[xah]at hs;refine xj (R:=aN _) ?_;unfold L230;refine DR.self (Ld.q ?_);refine Ld.q ?_;refine Ld.n ?_;refine ae.cc (b:=1) λF=>?_;refine aa.pre .swap ?_;exact aa.eq (Xk h zO eU hf) (bg.mk .swap rfl)
 simp only[xap]at hs;refine xl (R:=aN _) ?_;unfold L228;refine DR.self (Ld.q ?_);refine Ld.q ?_;refine Ld.n ?_;intro F;refine aa.pre .swap ?_;exact aa.eq (Xk h zO eU hf) (bg.mk .swap rfl)
theorem B1(dn:Bool):aW zQ (stf dn)=true:=by cases dn<;>kernel_rfl
theorem qh{n j:Nat}(hn:n<=64)(hp:p<n)(hj:j<n):(road p j).length<=64:=by rw[u5];omega
theorem Qm(h0:At kp K S o tr C)(hp:p<K.n)(mB:100<=gr/\gr<=1000)(hb:b<=1048576)(BC:sw<1099511627776)(eU:tr.length<17454747090944)(hla:la=bif dn then((K.n-1:Nat):Int)else 0){r:Nat×Nat×Nat}(hr:(rm K S).Ew gr o p dn ((rm K S).rest dn p) p b q=r):
  Fc zQ 170 #[ptr wp] (fk wp (gY kp p b q gr sw la (Bz dn bx))::p6 bx wp::C) (λv H=>v=.tuple #[]/\∃C',H=fk wp (gY kp r.1 r.2.1 r.2.2 gr (sw+dst r.1 p) la (Bz dn bx))::p6 bx wp::C'/\At kp K S (ay o (road p r.1)) (tr++road p r.1) C'):=by
 have hn:=h0.lT;refine aF λg=>ID ?_;refine⟨λvs H=>∃(k j b' q':Nat) (C':Hp),vs=[]/\H=fk wp (gY kp j b' q' gr (sw+dst j p) la (Bz dn bx))::p6 bx wp::C'/\At kp K S (ay o (road p j)) (tr++road p j) C'/\k=(rm K S).rest dn j/\(bif dn then p<=j/\j<K.n else j<=p)/\b'<=1048576/\(rm K S).Ew gr o p dn k j b' q'=r,
  λ_ H=>bif dn then K.n-Eo H else Eo H,JE.mk ⟨_,p,b,q,C,rfl,by simp[dst],by rw[gy,xaL];exact h0,rfl,by cases dn<;>simp[hp],hb,hr⟩,?_⟩
 rintro H ⟨k,j,b',q',C',_,rfl,hA,hk,hs,hb',uh⟩ gs;have T2:j<K.n:=by cases dn<;>simp only[xah,xap]at hs<;>omega
 have FY:dst j p<=64:=by unfold dst;omega
 have Dk:=qh hn hp T2;have FO:(tr++road p j).length<17592186044416:=by rw[xaf];omega
 have vX:(rm K S).n=K.n:=rfl;have hsz:∀o:zL,(rm K S).size o=cE K S o:=λ_=>rfl;intro J5 h5;have fin:r=(j,b',q')->J5 [.bool false] (fk wp (gY kp j b' q' gr (sw+dst j p) la (Bz dn bx))::p6 bx wp::C'):=λe=>h5 _ _ λgs=>Br.no (aN.here ⟨rfl,C',by rw[e],by rw[e];exact hA⟩);refine DR.self (Ld.n ?_);refine Ld.n ?_;refine ae.cK (Br.dec (λhne=>?_) (λheq=>?_));rotate_left
 ·have Zx:k=0:=by
   rw[hk];unfold Rm.rest;cases dn<;>simp only[xah,xap]at hla⊢ <;>omega
  subst Zx;exact JE.mk (fin uh.symm)
 have vZ:bif dn then j+1<K.n else 0<j:=by
  cases dn<;>simp only[xah,xap]at hla⊢ <;>omega
 obtain⟨k',hk'⟩:∃k',k=k'+1:=by
  refine⟨k-1,?_⟩;rw[hk];unfold Rm.rest;cases dn<;>simp only[xah,xap]at vZ⊢ <;>omega
 subst hk';rw[Rm.Ew]at uh;change (if(rm K S).fit (ay o (road p j)) (Yr dn j)=true then _ else _)=r at uh;refine Ld.n ?_;intro F;refine aJ.of (f:=stf dn) rfl (B1 dn) ?_;by_cases hf:iZ K S (ay o (road p j)) (Yr dn j);rotate_left
 ·refine aa.eq (args:=#[ptr bx]) (UG hA (by cases dn<;>simp only[xah,xap]at vZ⊢ <;>omega) FO hf) (ae.ia (aL.mk ?_));rw[xac (λh=>hf (qj.1 h))]at uh;exact JE.mk (fin uh.symm)
 refine aa.fn (args:=#[ptr bx]) .here (B3 hA hp (by cases dn<;>simp only[xah,xap]at vZ hs⊢ <;>omega) FO hf zO) ?_;rintro v H ⟨rfl,C2,rfl,ob⟩;refine ae.ia (aL.mk ?_);rw[xad (show(rm K S).fit (ay o (road p j)) (Yr dn j)=true from qj.2 hf)]at uh;change (if(if(rm K S).size (ay o (road p (oZ dn j)))<b' then(rm K S).size (ay o (road p (oZ dn j)))else b')*gr<(rm K S).size (ay o (road p (oZ dn j)))*100 then(oZ dn j,if(rm K S).size (ay o (road p (oZ dn j)))<b' then(rm K S).size (ay o (road p (oZ dn j)))else b',if(rm K S).size (ay o (road p (oZ dn j)))<b' then oZ dn j else q')else(rm K S).Ew gr o p dn k' (oZ dn j) (if(rm K S).size (ay o (road p (oZ dn j)))<b' then(rm K S).size (ay o (road p (oZ dn j)))else b') (if(rm K S).size (ay o (road p (oZ dn j)))<b' then oZ dn j else q'))=r at uh;have hle:=gm ob;rw[hsz]at uh;have afD:sw+dst j p+1=sw+dst (oZ dn j) p:=by unfold dst oZ;cases dn<;>simp only[xah,xap]at vZ hs⊢ <;>omega
 rw[afD];have hnk:k'=(rm K S).rest dn (oZ dn j):=by
  unfold Rm.rest at hk⊢;unfold oZ;cases dn<;>simp only[xah,xap]at vZ hk⊢ <;>omega
 have MV:bif dn then p<=oZ dn j/\oZ dn j<K.n else oZ dn j<=p:=by
  unfold oZ;cases dn<;>simp only[xah,xap]at vZ hs⊢ <;>omega
 have hms:(bif dn then K.n-oZ dn j else oZ dn j)<(bif dn then K.n-j else j):=by
  unfold oZ;cases dn<;>simp only[xah,xap]at vZ⊢ <;>omega
 generalize hj':oZ dn j=j' at*;generalize hs':cE K S (ay o (road p j'))=s at*;have acf:∀b2 q2,Eo (fk wp (gY kp j b' q' gr (sw+dst j p) la (Bz dn bx))::p6 bx wp::C')=j/\∀C2,Eo (fk wp (gY kp j' b2 q2 gr (sw+dst j' p) la (Bz dn bx))::p6 bx wp::C2)=j':=λb2 q2=>⟨by simp[Eo,fk,gY,bN],λC2=>by simp[Eo,fk,gY,bN]⟩;refine JE.mk (h5 _ _ λgs=>Br.yes ?_);refine Ld.n ?_;refine aa.eq (cD ob) ?_;rw[hs'];intro J14 h14;have next:∀b2 q2,b2<=1048576->(if b2*gr<s*100 then(j',b2,q2)else(rm K S).Ew gr o p dn k' j' b2 q2)=r->J14 [] (fk wp (gY kp j' b2 q2 gr (sw+dst j' p) la (Bz dn bx))::p6 bx wp::C2):=by
  intro b2 q2 tG qM;refine h14 _ λgs=>?_;have xH:b2*gr<=1048576*1000:=xb7 tG mB.2;refine ae.xQ (b:=100) (Ld.n ?_);refine Ld.n ?_;refine ae.xQ (ae.nB (Br.dec (λhgt=>?_) (λhgt=>?_)))
  ·rw[xad hgt]at qM;subst qM;exact aN.here ⟨rfl,C2,rfl,ob⟩
  rw[xac hgt]at qM;refine aC.mk ⟨k',j',b2,q2,C2,rfl,rfl,ob,hnk,MV,tG,qM⟩ ?_;rw[(acf b2 q2).1,(acf b2 q2).2];exact hms
 refine Ld.n ?_;refine ae.fy (Br.dec (λhlt=>?_) (λhlt=>?_))
 ·rw[xad hlt,xad hlt]at uh;refine Ld.n ?_;refine Nil.ptr (ai.mk (St.one (c':=gY kp j' s q' gr (sw+dst j' p) la (Bz dn bx)) (by exact .head _) rfl (by simp[gY]) rfl ?_));refine Nil.ptr (ai.mk (St.one (c':=gY kp j' s j' gr (sw+dst j' p) la (Bz dn bx)) (by exact .head _) rfl (by simp[gY]) rfl ?_));exact JE.mk (next _ _ zO uh)
 rw[xac hlt,xac hlt]at uh;exact JE.mk (next _ _ hb' uh)
theorem Ao{j t:Nat}(h:At kp K S (ay o (road p j)) (tr++road p j) C)(Ey:o.length=K.n)(hp:p<K.n)(hjt:(p<=t/\t<=j/\j<K.n)\/(j<=t/\t<=p))(BC:sw<17592186044416)(eU:tr.length<17454747090944):
  Fc zQ 171 #[ptr wp,iv (t:Int)] (fk wp (gY kp j b q gr sw la st)::C) (λv H=>v=.tuple #[]/\∃C',H=fk wp (gY kp t b q gr (sw+dst j t) la st)::C'/\At kp K S (ay o (road p t)) (tr++road p t) C'):=by
 have hn:=h.lT;refine aF λg=>IC ?_;refine⟨λvs H=>∃(i:Nat) (C':Hp),vs=[]/\H=fk wp (gY kp i b q gr (sw+dst j i) la st)::C'/\At kp K S (ay o (road p i)) (tr++road p i) C'/\((p<=t/\t<=i/\i<=j/\j<K.n)\/(j<=i/\i<=t/\t<=p)),
  λ_ H=>dst (Eo H) t,JE.mk ⟨j,C,rfl,by simp[dst],h,by omega⟩,?_⟩
 rintro H ⟨i,C',_,rfl,hA,hs⟩ gs;have hin:i<K.n:=by omega
 have hdi:dst j i<=64:=by unfold dst;omega
 have Dk:=qh hn hp hin;have FL:∀i sw C',Eo (fk wp (gY kp i b q gr sw la st)::C')=i:=λi sw C'=>by simp[Eo,fk,gY,bN]
 refine Ld.n ?_;refine ae.CJ (Br.dec (λhne=>?_) (λheq=>?_));rotate_left
 ·obtain rfl:i=t:=by omega
  exact aN.here ⟨rfl,C',rfl,hA⟩
 refine Ld.n ?_;rcases hs with hs|hs
 ·obtain⟨i,rfl⟩:∃i',i=i'+1:=⟨i-1,by omega⟩;rw[sn zO,gx,<-xak]at hA;refine aa.fq (Bo hA (by rw[sn zO,xaf,xcg]at Dk;rw[xaf];omega)) ?_;rintro w C2 ⟨rfl,ob⟩;rw[qU (by rw[fP,Ey];omega)]at ob;refine Ext.two (Ld.n ?_);refine ae.inc (Nil.ptr (ai.mk (St.one (c':=gY kp (i+1) b q gr (sw+dst j (i+1)+1) la st) (by exact .head _) rfl (by simp[gY]) rfl ?_)));refine Ld.n ?_;refine ae.fy (Br.T (Nil.ptr (ai.mk (St.one (c':=gY kp i b q gr (sw+dst j (i+1)+1) la st) (by exact .head _) rfl (by simp[gY]) rfl ?_))));refine aC.mk ⟨i,C2,rfl,by rw[show sw+dst j (i+1)+1=sw+dst j i by unfold dst;omega];rfl,ob,by omega⟩ ?_;show dst (Eo (fk wp (gY kp i b q gr (sw+dst j (i+1)+1) la st)::C2)) t<dst (Eo (fk wp (gY kp (i+1) b q gr (sw+dst j (i+1)) la st)::C')) t;rw[FL,FL];unfold dst;omega
 rw[sq zO,gx,<-xak]at hA;refine aa.fq (Bo hA (by rw[sq zO,xaf,xcg]at Dk;rw[xaf];omega)) ?_;rintro w C2 ⟨rfl,ob⟩;rw[qU (by rw[fP,Ey];omega)]at ob;refine Ext.two (Ld.n ?_);refine ae.inc (Nil.ptr (ai.mk (St.one (c':=gY kp i b q gr (sw+dst j i+1) la st) (by exact .head _) rfl (by simp[gY]) rfl ?_)));refine Ld.n ?_;refine ae.fy (Br.F (ae.inc (Nil.ptr (ai.mk (St.one (c':=gY kp (i+1) b q gr (sw+dst j i+1) la st) (by exact .head _) rfl (by simp[gY]) rfl ?_)))));refine aC.mk ⟨i+1,C2,rfl,by rw[show sw+dst j i+1=sw+dst j (i+1)by unfold dst;omega];rfl,ob,by omega⟩ ?_;show dst (Eo (fk wp (gY kp (i+1) b q gr (sw+dst j i+1) la st)::C2)) t<dst (Eo (fk wp (gY kp i b q gr (sw+dst j i) la st)::C')) t;rw[FL,FL];unfold dst;omega
end
end
section
open aq
section
variable {kp v gr:Nat} {K:Kd} {S:Nat->aq.Fn} {ord tr:zL} {C:Hp}
theorem qc(kp:Nat){gr:Int}(C:Hp):Rd zQ 109 #[ptr kp,iv gr] C (· =iv (if gr<100\/1000<gr then 1 else 0)):=by
 refine aF λg=>Jq (ae.aI (Br.no (ae.lss (c6.or (decide (1000<gr)) (λ_=>ae.gtr ⟨rfl,rfl⟩) rfl λgs=>?_))));by_cases h:gr<100\/1000<gr
 ·rw[xad h];refine Br.Ul ?_ (bg.mk (.refl _) rfl);simpa using h
 rw[xac h];refine Br.no' ?_ (bg.mk (.refl _) rfl);simpa using h
theorem YD(hp:ord.Perm (List.range K.n)){p:Nat}(TZ:p<K.n)(hv:ord.getD p 0=v):ord.idxOf v=p:=by
 have Ey:ord.length=K.n:=by rw[hp.length_eq,xaH]
 have fA:ord.Nodup:=hp.nodup_iff.2 xbg;have hm:v∈ord:=by
  rw[<-hv,xaq,xaa zO];exact xaJ _
 have h1:=xem hm;refine getD_inj fA h1 zO ?_;rw[hv,xaq,xaa h1];exact List.getElem_idxOf h1
theorem UL(h:At kp K S ord tr C)(hp:ord.Perm (List.range K.n))(hv:v<K.n)(mB:100<=gr/\gr<=1000)(eU:tr.length<17454747090944){r:Nat×Nat}(hr:(rm K S).sj gr ord (ord.idxOf v)=r):
  Fc zQ 111 #[ptr kp,iv (v:Int),iv (gr:Int)] C (λw H=>w=.tuple #[rep (cE K S ord) (cE K S (ay ord (road (ord.idxOf v) r.1))) r.2,iv 0]/\At kp K S (ay ord (road (ord.idxOf v) r.1)) (tr++road (ord.idxOf v) r.1) H):=by
 have hn:=h.lT;have Ey:ord.length=K.n:=by rw[hp.length_eq,xaH]
 have hsz:=gm h;have vX:(rm K S).n=K.n:=rfl;refine aF λg=>Jo λb1 _=>?_;refine aa.eq (qc kp (gr:=(gr:Int)) C) ?_;rw[xac zO];refine ae.cK (Br.F (aa.rq (D6 h hv) ?_));rintro w ⟨p,TZ,Zk,rfl⟩;have Zm:=YD hp TZ Zk;rw[Zm]at hr⊢;have ak0:p<(rm K S).n:=TZ;refine Ext.two (ae.cK (Br.F (aa.eq (cD h) (Build.mk (cs:=[iv ((cE K S ord:Nat):Int),iv 0,iv 0,.bool false]) zK λwP _=>?_))));refine St.q ?_;refine Ld.f ?_;refine Build.mk (cs:=[ptr kp,iv (p:Int),iv ((cE K S ord:Nat):Int),iv (p:Int),iv (gr:Int),iv 0,iv 0,.nilFunc]) zK λwp _=>?_;refine aa.eq (m4 h) (ae.cc (b:=1) (ae.cc (ae.BB ?_)));obtain⟨X,hX⟩:∃X:Hp,X=[(wP,Obj.cells (List.toArray [iv ((cE K S ord:Nat):Int),iv 0,iv 0,.bool false]) 97 zZ),(b1,Obj.cells #[iv 0,iv 0,iv 0,.bool false] 97 zZ)]:=⟨_,rfl⟩;unfold Rm.sj at hr;simp only[vX]at hr;rw[show(rm K S).size ord=cE K S ord from rfl]at hr;generalize hdn:decide (K.n-1-p<=p)=dn at*;have ahi:∀x:Nat×Obj,aM (x::(wP,Obj.cells (List.toArray [iv ((cE K S ord:Nat):Int),iv 0,iv 0,.bool false]) 97 zZ)::(b1,Obj.cells #[iv 0,iv 0,iv 0,.bool false] 97 zZ)::C) (X++(x::C)):=λx=>.perm (by rw[hX];exact(xaU (l₁:=[_,_])).symm);refine aa.pre (ahi _) ?_;refine aa.fq (sb (wp:=wp) (a:=p) (b:=cE K S ord) (q:=p) (gr:=gr) (sw:=0) (la:=0) (st:=.nilFunc) (dn:=dn) h zO) ?_;rintro w H ⟨rfl,bx,rfl⟩;refine aa.fn (.app .here) (Qm h TZ mB zO zO eU rfl rfl) ?_;rintro w H ⟨rfl,C1,rfl,Wr⟩;have Dr:=(rm K S).vN gr ord p dn ((rm K S).rest dn p) p (cE K S ord) p (λh=>by unfold Rm.rest;rw[h];exact xai _) (by rw[gy];rfl);generalize (rm K S).Ew gr ord p dn ((rm K S).rest dn p) p (cE K S ord) p=a at*;have qM:=(rm K S).vN gr ord p (!dn) ((rm K S).rest (!dn) p) p a.2.1 a.2.2 (λh=>by unfold Rm.rest;rw[h];exact xai _) Dr.size;obtain⟨a1,a2,a3,a4⟩:=Dr;unfold Rm.rest at a1;rw[vX]at a1;have F4:a.1<K.n/\((p<=a.1)\/(a.1<=p)):=by cases dn<;>simp only[xah,xap]at a1<;>omega
 have hab:a.2.1<=1048576:=by
  have:a.2.1<=cE K S ord:=by omega
  omega
 have Ph:dst a.1 p<=64:=by unfold dst;omega
 refine aa.pre (aM.dc (.cons .tail) X) ?_;refine aa.fn (.app .here) (Ao (t:=p) Wr Ey TZ zO zO eU) ?_;rintro w H ⟨rfl,C2,rfl,ob⟩;rw[gy,xaL]at ob;have ob:At kp K S ord tr C2:=ob;refine Ld.n ?_;refine Un.not (aa.fq (sb (dn:= !dn) ob zO) ?_);rintro w H ⟨rfl,bx2,rfl⟩;refine aa.fn (.app .here) (Qm ob TZ mB hab zO eU rfl rfl) ?_;rintro w H ⟨rfl,C3,rfl,EA⟩;generalize (rm K S).Ew gr ord p (!dn) ((rm K S).rest (!dn) p) p a.2.1 a.2.2=b at*;obtain⟨e1,e2,e3,e4⟩:=qM;unfold Rm.rest at e1;rw[vX]at e1;have yZ:bif dn then p<=a.2.2/\a.2.2<=a.1 else a.1<=a.2.2/\a.2.2<=p:=by
  cases dn<;>simp only[xah,xap]at a3 a1⊢ <;>omega
 have hb1:b.1<K.n/\((p<=b.1)\/(b.1<=p)):=by cases dn<;>simp only[xah,xap,xcp,xcz]at e1<;>omega
 have xX:dst b.1 p<=64:=by unfold dst;omega
 intro J47 h47;have fin:∀(bb:Nat) (Fz:Int) (st':zV) (Cf:Hp),At kp K S (ay ord (road p r.1)) (tr++road p r.1) Cf->J47 [] (X++(fk wp (gY kp r.1 bb r.1 gr r.2 Fz st')::Cf)):=by
  intro bb Fz st' Cf hAf;rw[hX];refine h47 _ λgs=>?_;refine DR.of (R:=[fk wp (gY kp r.1 bb r.1 gr r.2 Fz st')]) (aM.YP (.tail _ (.tail _ (.head _)))) (Ld.n ?_);intro F;refine aa.eq (cD hAf) (⟨aM.YP (.tail _ (.tail _ (.head _))),?_⟩);refine ai.mk λF=>(St.one (c':=#[iv ((cE K S ord:Nat):Int),iv ((cE K S (ay ord (road p r.1)):Nat):Int),iv 0,.bool false]) (by exact .head _) rfl zI rfl ?_);refine⟨aM.YP (.tail _ (.tail _ (.head _))),?_⟩;refine ai.mk λF=>(St.one (c':=#[iv ((cE K S ord:Nat):Int),iv ((cE K S (ay ord (road p r.1)):Nat):Int),iv ((r.2:Nat):Int),.bool false]) (by exact .head _) rfl zI rfl ?_);refine az.q ?_;refine St.q ?_;refine az.q ?_;exact aN.mk (.skip (.skip .tail)) ⟨rfl,hAf⟩
 refine Ld.n ?_;refine ae.CJ (Br.dec (λhne=>?_) (λheq=>?_))
 ·-- the other way is better
  rw[xad hne]at hr;refine Ld.n ?_;refine aa.pre (aM.dc (.cons .tail) X) ?_;have hbt:(p<=b.2.2/\b.2.2<=b.1/\b.1<K.n)\/(b.1<=b.2.2/\b.2.2<=p):=by
   cases dn<;>simp only[xah,xap,xcp,xcz]at e3 e1<;>omega
  refine aa.fn (.app .here) (Ao (t:=b.2.2) EA Ey TZ hbt zO eU) ?_;rintro w H ⟨rfl,C4,rfl,ZW⟩;subst hr;refine JE.mk ?_;rw[xa2];exact fin b.2.1 _ _ C4 ZW
 -- back again
 have heq:b.2.2=a.2.2:=xer.1 heq;rw[xac (λh=>h heq)]at hr;refine aa.pre (aM.dc (.cons .tail) X) ?_;refine aa.fn (.app .here) (Ao (t:=p) EA Ey TZ zO zO eU) ?_;rintro w H ⟨rfl,C4,rfl,ZW⟩;rw[gy,xaL]at ZW;have ZW:At kp K S ord tr C4:=ZW;refine aa.fq (sb (dn:=dn) ZW zO) ?_;rintro w H ⟨rfl,S7,rfl⟩;obtain⟨s3,hs3⟩:∃s3,s3=0+dst a.1 p+dst a.1 p+dst b.1 p+dst b.1 p:=⟨_,rfl⟩;rw[<-hs3];obtain⟨Xu,af4⟩:∃Xu,Xu=(bif dn then((K.n-1:Nat):Int)else 0):=⟨_,rfl⟩;rw[<-af4];refine⟨λvs H=>∃(i:Nat) (C':Hp),vs=[]/\H=fk wp (gY kp i b.2.1 b.2.2 gr (s3+dst p i) Xu (Bz dn S7))::p6 S7 wp::(X++C')/\At kp K S (ay ord (road p i)) (tr++road p i) C'/\(bif dn then p<=i/\i<=b.2.2 else b.2.2<=i/\i<=p),
  λ_ H=>dst (Eo H) b.2.2,JE.of (H':=fk wp (gY kp p b.2.1 b.2.2 gr s3 Xu (Bz dn S7))::p6 S7 wp::(X++C4)) (.perm ?_) ⟨p,C4,rfl,by simp[dst],by rw[gy,xaL];exact ZW,?_⟩,?_⟩
 ·exact(xaU (l₁:=X)).trans (List.Perm.cons _ xaU)
 ·rw[heq];cases dn<;>simp only[xah,xap]at yZ⊢ <;>omega
 rintro H ⟨i,C5,_,rfl,hA5,hi⟩ gs;rw[heq]at hi;have hin:i<K.n:=by cases dn<;>simp only[xah,xap]at hi yZ<;>omega
 have hdi:dst p i<=64:=by unfold dst;omega
 have Dk:=qh hn TZ hin;intro J83 h83;refine DR.self (Ld.n ?_);refine Ld.n ?_;refine ae.CJ (Br.dec (λhne=>?_) (λhie=>?_))
 ·refine Ld.n ?_;intro F;refine aJ.of (f:=stf dn) rfl (B1 dn) ?_;have RA:aM (fk wp (gY kp i b.2.1 b.2.2 gr (s3+dst p i) Xu (Bz dn S7))::p6 S7 wp::(X++C5)) (X++(fk wp (gY kp i b.2.1 b.2.2 gr (s3+dst p i) Xu (Bz dn S7))::p6 S7 wp::C5)):=
   .perm ((xaU (l₁:=X)).trans (List.Perm.cons _ xaU)).symm
  refine aa.pre RA ?_;have hstep:bif dn then p<=i/\i+1<K.n else 0<i/\i<=p:=by
   rw[heq]at hne;cases dn<;>simp only[xah,xap]at hi yZ⊢ <;>omega
  have hfit:iZ K S (ay ord (road p i)) (Yr dn i):=by
   refine qj.1 (a4 i ?_);rw[heq]at hne;cases dn<;>simp only[xah,xap]at hi yZ⊢ <;>omega
  refine aa.fn (args:=#[ptr S7]) (.app .here) (B3 hA5 TZ hstep (by rw[xaf];omega) hfit zO) ?_;rintro w H ⟨rfl,C6,rfl,hA6⟩;refine ae.ia (aL.mk ?_);have BD:s3+dst p i+1=s3+dst p (oZ dn i):=by unfold dst oZ;cases dn<;>simp only[xah,xap]at hstep⊢ <;>omega
  rw[BD];refine JE.of (.perm ((xaU (l₁:=X)).trans (List.Perm.cons _ xaU))) (h83 _ _ λgs=>Br.yes ?_);refine aC.mk ⟨oZ dn i,C6,rfl,rfl,hA6,?_⟩ ?_
  ·rw[heq]at hne⊢;unfold oZ;cases dn<;>simp only[xah,xap]at hi hstep⊢ <;>omega
  have FL:∀i sw C',Eo (fk wp (gY kp i b.2.1 b.2.2 gr sw Xu (Bz dn S7))::C')=i:=λi sw C'=>by simp[Eo,fk,gY,bN]
  rw[FL,FL,heq];rw[heq]at hne;unfold oZ dst;cases dn<;>simp only[xah,xap]at hi hstep⊢ <;>omega
 have hie:i=b.2.2:=xer.1 hie;subst hie;subst hr;refine JE.mk (h83 _ _ λgs=>Br.no ?_);refine JE.of ?_ (fin b.2.1 Xu (Bz dn S7) C5 hA5);refine(aM.cons .tail).trans ?_;refine(aM.perm (xaU (l₁:=X)).symm).trans ?_;have e:s3+dst p b.2.2=dst a.1 p+dst a.1 p+dst b.1 p+(dst b.1 p+dst p b.2.2):=by omega
 rw[e];exact .refl _
end
end
section
theorem P3{n A:Nat}{L:List (zL)}(hn:n<=16)(hl:L.length<33554432){k:Nat}(hk:k<=n):(ak.st n L A k).length<2199023255551:=by
 have h2:=ak.sg n L A k;have h3:2^k<=2^16:=xaw zD zO;have h4:2^k*L.length<=2^16*L.length:=xaZ _ h3;omega
theorem SE{B:Hp}{v1 v2:zV}{a b:zL}(h1:Words B v1 a)(h2:Words B v2 b)(cB:a.length<2^62):Rd zQ 270 #[v1,v2] B (· =.bool (decide (a=b))):=by
 refine aF λg=>GV (h1.1.bX (h2.1.bX ?_));simp only[au];refine ae.CJ (Br.dec (λh=>?_) (λh=>?_))
 ·exact bg.mk (.refl _) (by rw[xal (λe=>h (by rw[e]))])
 refine h1.1.bX ?_;simp only[au];have hlen:a.length=b.length:=by omega
 refine⟨λvs H=>H=B/\∃j:Nat,vs=[iv (j:Int)]/\j<=a.length/\∀i,i<j->a[i]? =b[i]?,λvs _=>a.length-bN vs 0,JE.mk ⟨rfl,0,rfl,by omega,by omega⟩,?_⟩;rintro w H ⟨rfl,j,⟨⟩,hj,aG⟩ gs;refine ae.fy (Br.dec (λhlt=>?_) (λhlt=>?_))
 ·have ga:a[j]? =some a[j]:=xaa hlt;have gb:b[j]? =some b[j]:=xaa zO;refine h1.1.ld (de ga) (λ_ h=>h) ?_;refine h2.1.ld (de gb) (λ_ h=>h) ?_;refine ae.CJ (Br.dec (λhne=>?_) (λhne=>?_))
  ·exact bg.mk (.refl _) (by rw[xal];rintro rfl;exact hne rfl)
  refine ae.inc (aC.mk ⟨rfl,j+1,rfl,by omega,λi hi=>?_⟩ (by simp[bN];omega));by_cases e:i=j
  ·subst e;rw[ga,gb];simp;omega
  exact aG i zO
 refine bg.mk (.refl _) ?_;rw[xam];apply xbc ;intro i;by_cases hi:i<a.length
 ·exact aG i zO
 rw[xaB zO,xaB zO]
theorem QX{B:Hp}{v:zV}{n u A:Nat}{L:List (zL)}(ht:jF B v (L.map λws=>⟨n,ws⟩))(hf:∀ws∈L,ak.eE n ws)(hne:L≠[])(cB:L.length<4398046511104)(hA:A<2^n)(hu:u<n)(hAu:A.testBit u=false):
  Rd zQ 242 #[v,.int .u64 (A:Int),iv (u:Int)] B (· =.tuple #[iv ((ak.lvl n L A u:Nat):Int),iv 0]):=by
 obtain⟨w0,TY⟩:∃w0,L[0]? =some w0:=⟨_,xaa (xdc.2 hne)⟩;have vY:n<=16:=(hf w0 (xau TY)).xP;have alO:A<65536:=xaN hA (xaw (n:=2) zD vY);refine aF λg=>Ht (aa.eq (u4 ht zP) ?_);rw[xam (CB hf)];refine Un.not (Br.no λJ hJ=>(ht.bX ?_));rw[xax];have hpos:0<L.length:=xdc.2 hne;refine ae.nB (b:=0) (Br.adD hpos (ht.ldN (i:=0) (t:=⟨n,w0⟩) (by rw[xat,TY];rfl) (λ_ h=>h) ?_));refine JE.mk (hJ _ _ λgs=>?_);simp only;refine ae.lss (c6.or (decide (n<=u)) (λ_=>?_) rfl λgs=>?_)
 ·exact ae.tJ ⟨by trivial,rfl⟩
 rw[show(decide ((u:Int)<0)||decide (n<=u))=false by simp;omega];refine c6.or (decide (A>>>n≠0)) (λ_=>?_) rfl λgs=>?_
 ·exact ae.iI (by simp[bF];omega) (ae.CJ (b:=0) ⟨by trivial,rfl⟩)
 rw[show(false||decide (A>>>n≠0))=false by rw[xa0,xdu hA];rfl];apply Br.no;have abX:∀k,A>>>k<18446744073709551616:=λk=>xaz (xbm _ _) zO;refine ae.iI (by simp[bF];omega) (ae.jD (b:=1) (by simpa[bF]using abX u) zD (ae.eL (b:=1) (Br.SN (by rw[ak.uH,hAu];simp) (aa.fq (Mz ht rfl hf zO) ?_))));rintro r H ⟨b,es,ck,m,N,rfl,rfl,hE,hm⟩;have hbound:∀k,k<=n->∀m:List (List UInt8×zL),(m.map Prod.snd).Nodup->(∀x,x∈m.map Prod.snd↔x∈ak.st n L A k)->m.length<4611686018427387904:=by
  intro k hk m fA hmem;have h1:=(ak.gI fA (ak.nM n L A k) hmem).length_eq;have h2:=ak.sg n L A k;have h3:2^k<=2^16:=xaw zD zO;have h4:2^k*L.length<=2^16*L.length:=xaZ _ h3;rw[xax]at h1;omega
 refine⟨λvs H=>∃(k:Nat) (b:Nat) (es:Array MapEntry) (ck:Nat) (m:List (List UInt8×zL)) (N:Hp),vs=[.map (some b),iv (k:Int)]/\k<=n/\H=(b,.map es ck)::(N++B)/\gC n (N++B) es ck m/\∀x,x∈m.map Prod.snd↔x∈ak.st n L A k,
  λvs _=>n-bN vs 1,JE.mk ⟨0,b,es,ck,m,N,rfl,by omega,rfl,hE,λx=>by rw[hm];exact ak.ef.symm⟩,?_⟩
 clear hm hE;rintro w25 w26 H ⟨k,b,es,ck,m,N,⟨⟩,hk,rfl,hE,hm⟩ gs;have sO:=hE.mono (B':=(b,Obj.map es ck)::(N++B)) zS;refine ae.fy (Br.dec (λhlt=>?_) (λhlt=>?_))
 ·intro J hJ;refine ae.iI (by simp[bF];omega) (ae.jD (b:=1) (by simpa[bF]using abX k) zD (ae.eL (b:=1) (Br.dec (λh=>?_) (λh=>?_))))
  ·have hb:=(ak.uH A k).1 h;refine aa.fq (DA (.head _) sO hlt (hbound k hk m hE.nodup hm)) ?_;rintro r H ⟨b',es',bC,m',N',rfl,rfl,Dv,hm'⟩;refine Ext.mk rfl (Ext.mk rfl (JE.mk (hJ _ _ λgs=>?_)));refine ae.inc (aC.mk ⟨k+1,b',es',bC,m',N'++(b,.map es ck)::N,rfl,by omega,by rw[xak];rfl,by rw[xak];exact Dv,λx=>?_⟩ (by simp[bN];omega));rw[hm',ak.st,xad hb,ak.bV];constructor
   ·rintro⟨t,h1,h2⟩;exact⟨t,(hm t).1 h1,h2⟩
   rintro⟨t,h1,h2⟩;exact⟨t,(hm t).2 h1,h2⟩
  have hb:A.testBit k=false:=by cases hh:A.testBit k;rfl;exact absurd ((ak.uH A k).2 hh) h
  refine JE.mk (hJ _ _ λgs=>?_);refine ae.inc (aC.mk ⟨k+1,b,es,ck,m,N,rfl,by omega,rfl,hE,λx=>?_⟩ (by simp[bN];omega));rw[hm,ak.st,hb];simp
 have:k=n:=by omega
 subst this;refine aa.fq (DA (.head _) sO hu (hbound k hk m hE.nodup hm)) ?_;rintro r H ⟨b',es',bC,m',N',rfl,rfl,Dv,hm'⟩;refine Ext.mk rfl (Ext.mk rfl (bg.mk ?_ ?_))
 ·exact .skip (.iH (.skip .right))
 have:=ak.jX (n:=k) (v:=u) (ak.gI hE.nodup (ak.nM k L A k) hm);unfold ak.lvl;rw[<-this];rfl
theorem uR{B:Hp}{v:zV}{t:Tb}(ht:EF B v t):Rd zQ 241 #[v] B (· =.tuple (if TF t then#[.int .u64 ((ak.p7 t.n.toNat t.ws:Nat):Int),iv 0]else#[.int .u64 0,iv 5])):=by
 obtain⟨tn,ws⟩:=t;obtain⟨s,rfl,hw⟩:=ht;simp only at hw⊢;refine aF λg=>Hu λb1 _=>?_;refine az.q ?_;refine wL λb2=>?_;refine aa.rd .here (wm (t:=⟨tn,ws⟩) (by exact .head _) (hw.mono zS)) ?_;rintro v rfl;apply Un.not;by_cases hT:TF ⟨tn,ws⟩
 case neg=>
  rw[xal hT,xac hT];exact Br.yes (bg.mk (by repeat (first|exact aM.refl _|apply aM.cons|apply aM.skip|apply aM.dc|apply aM.iH)) rfl)
 rw[xam hT,xad hT];apply Br.no;obtain⟨n,rfl⟩:∃n:Nat,tn=n:=⟨tn.toNat,by have:=hT.1;simp only at this;omega⟩;have hf:ak.eE n ws:=by have:=hT.2;simpa using this
 refine ai.mk (Ld.mk zM rfl ?_);refine⟨λvs H=>∃(k:Nat) (N:Hp),vs=[.int .u64 ((ak.lF n ws k:Nat):Int),iv (k:Int)]/\k<=n/\H=(b1,.cells (Value.cells (.agg #[iv (n:Int),s])) 175 zZ)::(N++B),
  λvs _=>n-bN vs 1,JE.of .tail ⟨0,[],rfl,by omega,rfl⟩,?_⟩
 rintro w15 w16 H ⟨k,N,⟨⟩,hk,rfl⟩ gs;have vY:=hf.xP;have XF:=ak.nL n ws k;have akw:ak.lF n ws k<65536:=xaN XF (xaw (n:=2) zD (by omega:k<=16));refine ae.fy (Br.dec (λhlt=>?_) (λhlt=>?_))
 ·intro J hJ;refine DR.self (az.q (az.q ?_));refine aa.pq (B:=N++B) (A6 (v:=.agg (List.toArray [iv (n:Int),s])) ⟨s,rfl,hw.mono zS⟩ hf hlt) ?_;rintro v N1 ⟨s1,rfl,nI⟩;refine⟨.cons .right,BP.mk rfl ?_⟩;refine aa.pq (B:=N1++(N++B)) (A6 (v:=.agg (List.toArray [iv (n:Int),s])) ⟨s,rfl,hw.mono zS⟩ hf hlt) ?_;rintro v N2 ⟨s2,rfl,vV⟩;refine⟨.cons (.iH .right),BP.mk rfl ?_⟩;refine aa.eq (B:=N2++(N1++(N++B))) (SE (nI.mono zS) vV (by have:=uD (ak.ej (v:=k) (ws:=ws) (b:=false) hf.xP);simp only;omega)) (⟨.cons (.iH .right),Un.not ?_⟩);have g8:JE J [.int .u64 ((ak.lF n ws (k+1):Nat):Int)] ((b1,.cells (Value.cells (.agg #[iv (n:Int),s])) 175 zZ)::(N2++(N1++(N++B)))):=by
   refine JE.mk (hJ _ _ λgs=>?_);exact ae.inc (aC.mk ⟨k+1,N2++(N1++N),rfl,by omega,by rw[xak,xak]⟩ (by simp[bN];omega))
  rw[ak.lF]at g8;by_cases hd:ak.dep n ws k=true
  ·rw[xad hd]at g8;have:ak.iF n ws k false≠ak.iF n ws k true:=by simpa[ak.dep]using hd
   rw[xal this];refine Br.yes (ae.nP (a:=1) ?_);have h2:2^k<65536:=xaN (xbw (n:=16) zD zO) zD;rw[xa4,xbk zO];exact ae.Kj (by simp[bF];omega) (by simp[bF];omega) g8
  rw[xac hd]at g8;have:ak.iF n ws k false=ak.iF n ws k true:=by simpa[ak.dep]using hd
  rw[xam this];exact Br.no g8
 have:k=n:=by omega
 subst this;refine bg.mk (.skip .right) ?_;simp[ak.p7]
theorem QE{B:Hp}{v:zV}{ts:List Tb}(ht:jF B v ts)(cB:ts.length<4398046511104):Px zQ 240 #[v] B (λr _=>∃s,r=.tuple #[s,iv (if rX ts then 0 else 5)]):=by
 refine aF λg=>Hv (aa.eq (u4 ht zO) (Un.not ?_));by_cases hO:rX ts
 case neg=>rw[xal hO,xac hO];exact Br.yes (GF.mk (.refl _) ⟨_,rfl⟩)
 rw[xam hO,xad hO];refine Br.no (ht.bX (ae.eL (b:=0) (Br.dec (λh0=>GF.mk (.refl _) ⟨_,rfl⟩) (λh0=>?_))));obtain⟨n,L,vY,rfl,hne,hf⟩:=Kl hO (by intro e;rw[e]at h0;exact h0 rfl);rw[xax]at cB;obtain⟨w0,TY⟩:∃w0,L[0]? =some w0:=⟨_,xaa (xdc.2 hne)⟩;refine ht.ldN (i:=0) (t:=⟨n,w0⟩) (by rw[xat,TY];rfl) (λ_ h=>h) ?_;simp only;refine cS.ints zO zO λbw=>?_;refine ht.bX ?_;refine⟨λvs H=>∃(k:Nat) (l:zL),vs=[iv (k:Int)]/\k<=L.length/\H=(bw,.cells (aA .u64 (iw l)) 33 zZ)::B/\l.length=n/\∀w∈l,w<18446744073709551616,
  λvs _=>L.length-bN vs 0,JE.mk ⟨0,List.replicate n 0,rfl,by omega,by simp[iw],by simp,λw hw=>by rw[xbW hw];decide⟩,?_⟩
 rintro w H ⟨k,l,⟨⟩,hk,rfl,hl,XL⟩ gs;rw[xax];refine ae.fy (Br.dec (λhlt=>?_) (λhlt=>?_))
 ·have hg:(L.map λws=>(⟨n,ws⟩:Tb))[k]? =some ⟨n,L[k]⟩:=by rw[xat,xaa hlt];rfl
  have pE:=hf L[k] (xaJ hlt);refine ht.ld hg zS λs hw=>?_;intro b2 _;refine St.p ?_ ?_
  ·have:=bQ hw;simpa[Value.oneCell']using this
  refine az.q ?_;refine aa.eq (B:=B) (uR (v:=.agg (List.toArray [iv (n:Int),s])) (t:=⟨n,L[k]⟩) ⟨s,rfl,hw⟩) ?_;rw[xad (show TF ⟨(n:Int),L[k]⟩from⟨by simp,by simpa using pE⟩)];refine Ext.mk rfl (Ext.mk rfl (aR.mk ?_));simp only[xbd];have abV:ak.p7 n L[k]<65536:=xaN (ak.nL n L[k] n) (xaw (n:=2) zD vY);refine⟨λvs H=>∃(j:Nat) (l:zL),vs=[iv (j:Int)]/\j<=n/\H=(bw,.cells (aA .u64 (iw l)) 33 zZ)::B/\l.length=n/\∀w∈l,w<18446744073709551616,
   λvs _=>n-bN vs 0,JE.of .tail ⟨0,l,rfl,by omega,rfl,hl,XL⟩,?_⟩
  rintro w H ⟨j,l,⟨⟩,hj,rfl,hl,XL⟩ gs;refine ae.fy (Br.dec (λXM=>?_) (λXM=>?_))
  ·intro J hJ;have g8:∀l:zL,l.length=n->(∀w∈l,w<18446744073709551616)->JE J [] ((bw,.cells (aA .u64 (iw l)) 33 zZ)::B):=λl hl XL=>by
    refine JE.mk (hJ _ λgs=>?_);exact ae.inc (aC.mk ⟨j+1,l,rfl,by omega,rfl,hl,XL⟩ (by simp[bN];omega))
   have hsh:ak.p7 n L[k]>>>j<65536:=xaz (xbm _ _) abV;refine ae.iI (by simp[bF];omega) (ae.jD (b:=1) (by simp[bF];omega) zD (ae.eL (b:=1) (Br.dec (λh=>?_) (λh=>g8 l hl XL))));refine DR.self ?_;have hgj:l[j]? =some l[j]:=xaa zO;have hlj:=XL _ (xaJ (show j<l.length by omega));refine av.nat XM ?_;refine Ld.mk (v:=.int .u64 (l[j]:Int)) (by exact .head _) (by simp[aA,iw,hgj]) ?_;refine ae.nP (a:=1) ?_;have h2:2^j<65536:=xaN (xbw (n:=16) zD zO) zD;rw[xa4,xbk zO];refine ae.D9 (by simp[bF];omega) (by simp[bF];omega) ?_;have h3:=m7 (ak.p7 n L[k]) (2^j);refine ae.Kj (by simp only[bF];exact hlj) (by simp only[bF];omega) (av.nat XM ?_);refine St.ints (l:=iw l) (by exact .head _) zP ?_;have e:(iw l).set j ((l[j]|||m8 (ak.p7 n L[k]) (2^j):Nat):Int)=iw (l.set j (l[j]|||m8 (ak.p7 n L[k]) (2^j))):=by simp[iw,xcT]
   rw[e];refine g8 _ (by simp[hl]) λw hw=>?_;rcases xcb hw with hw|rfl
   ·exact XL w hw
   exact xbH (n:=64) hlj zO
  exact ae.inc (aC.mk ⟨k+1,l,rfl,by omega,rfl,hl,XL⟩ (by simp[bN];omega))
 exact GF.mk (by repeat (first|exact bZ.refl _|apply bZ.cons|apply bZ.app)) ⟨_,rfl⟩
end
end Go.Proofs
namespace ak
open Go.Sx
def gz:zL->Nat
 | []=>0
 |x::r=>r.foldl min x
theorem rM:∀(r:zL) (x:Nat),r.foldl min x<=x/\∀y∈r,r.foldl min x<=y
 | [],x=>⟨xai _,by simp⟩
 |z::r,x=>by
  obtain⟨h1,h2⟩:=rM r (min x z);refine⟨by rw[xcI];omega,λy hy=>?_⟩;rw[xcI];rcases xaj.1 hy with rfl|hy
  ·omega
  exact h2 y hy
theorem pQ:∀(r:zL) (x:Nat),r.foldl min x=x\/r.foldl min x∈r
 | [],x=>.inl rfl
 |z::r,x=>by
  rw[xcI];rcases pQ r (min x z)with h|h
  ·rw[h];rcases Nat.le_total x z with h'|h'
   ·left;omega
   right;rw[xdv h'];simp
  right;exact xbt _ h
theorem CV{l:zL}{y:Nat}(h:y∈l):gz l<=y:=by
 cases l with
 |nil=>simp at h
 |cons x r=>
  obtain⟨h1,h2⟩:=rM r x;rcases xaj.1 h with rfl|h
  ·exact h1
  exact h2 y h
theorem o6{l:zL}(h:l≠[]):gz l∈l:=by
 cases l with
 |nil=>exact absurd rfl h
 |cons x r=>
  rcases pQ r x with h|h
  ·show r.foldl min x∈_;rw[h];simp
  exact xbt _ h
theorem CW{l:zL}{m:Nat}(h1:m∈l)(h2:∀y∈l,m<=y):gz l=m:=
 xeF (CV h1) (h2 _ (o6 (by intro e;rw[e]at h1;simp at h1)))
theorem Fp(l:zL)(x:Nat):gz (l++[x])=if l=[]then x else min (gz l) x:=by
 cases l with
 |nil=>rfl
 |cons y r=>simp[gz,xdo]
def bO(n a:Nat):zL:=(List.range n).filter λv=> !a.testBit v
def has(n a:Nat):zL:=(List.range n).filter λv=>a.testBit v
theorem cN{n a v:Nat}:v∈bO n a↔v<n/\a.testBit v=false:=by simp[bO]
theorem rh{n a v:Nat}:v∈has n a↔v<n/\a.testBit v=true:=by simp[has]
theorem oh{α:Type}(p q:α->Bool)(x:α):∀(l:List α),l.Nodup->x∈l->p x=true->q x=false->(∀y∈l,y≠x->q y=p y)->(l.filter q).length+1=(l.filter p).length
 | [],_,h,_,_,_=>by simp at h
 |y::l,nd,h,hp,hq,aG=>by
  rw[xaX]at nd;by_cases e:y=x
  ·subst e;have hsame:l.filter q=l.filter p:=by
    apply xdn;intro z hz;exact aG z (by simp[hz]) (λe=>nd.1 (e▸hz))
   rw[xbx,xbx,hp,hq,hsame];simp
  have hxl:x∈l:=by rcases xaj.1 h with h|h;exact absurd h.symm e;exact h
  have ih:=oh p q x l nd.2 hxl hp hq λz hz hne=>aG z (by simp[hz]) hne;have hy:=aG y zI e;rw[xbx,xbx,hy];cases p y
  ·simpa using ih
  simp only[xa5,xay];omega
theorem qX{a u v:Nat}(h:v≠u):(aB a u true).testBit v=a.testBit v:=by rw[aj,xac h]
theorem gK{n a v:Nat}(h:v∈bO n a):(bO n (aB a v true)).length+1=(bO n a).length:=by
 obtain⟨h1,h2⟩:=cN.1 h;refine oh _ _ v (List.range n) xbg (xaM.2 h1) (by simp[h2]) (by simp[aj]) λy hy hne=>?_;rw[qX hne]
def Tf(n:Nat)(c:Nat->Nat->Nat):Nat->Nat->Nat
 |0,_=>0
 |f+1,a=>gz ((bO n a).map λv=>c a v+Tf n c f (aB a v true))
def par(n:Nat)(c:Nat->Nat->Nat):Nat->Nat->Nat
 |0,_=>0
 |f+1,s=>gz ((has n s).map λv=>c (aB s v false) v+par n c f (aB s v false))
theorem D2{n:Nat}{c:Nat->Nat->Nat}:∀(f:Nat) (a:Nat),(bO n a).length<=f->Tf n c (f+1) a=Tf n c f a
 |0,a,h=>by
  have:bO n a=[]:=xcQ.1 zO;simp[Tf,this,gz]
 |f+1,a,h=>by
  rw[Tf,Tf];congr 1;apply xbn;intro v hv;rw[D2 f _ (by have:=gK hv;omega)]
theorem Vp(n a:Nat):(bO n a).length<=n:=by have:=xbY (λv=> !a.testBit v) (List.range n);simpa[bO]using this
def B(n:Nat)(c:Nat->Nat->Nat)(a:Nat):Nat:=Tf n c n a
def W(n:Nat)(c:Nat->Nat->Nat)(s:Nat):Nat:=par n c n s
theorem JD(n:Nat)(c:Nat->Nat->Nat)(a:Nat):B n c a=gz ((bO n a).map λv=>c a v+B n c (aB a v true)):=by
 unfold B;rw[<-D2 n a (Vp n a)];rfl
theorem ad1{n:Nat}{c:Nat->Nat->Nat}{a v:Nat}(hv:v∈bO n a):B n c a<=c a v+B n c (aB a v true):=by
 rw[JD n c a];exact CV (xan.2 ⟨v,hv,rfl⟩)
theorem ad2{n:Nat}{c:Nat->Nat->Nat}{a:Nat}(h:bO n a≠[]):∃v∈bO n a,B n c a=c a v+B n c (aB a v true):=by
 have:=o6 (l:=(bO n a).map λv=>c a v+B n c (aB a v true)) (by simpa using h);rw[<-JD]at this;obtain⟨v,hv,e⟩:=xan.1 this;exact⟨v,hv,e.symm⟩
theorem Lw{n:Nat}{c:Nat->Nat->Nat}{a:Nat}(h:bO n a=[]):B n c a=0:=by rw[JD,h];rfl
structure Used(n:Nat)(c:Nat->Nat->Nat)(U:Nat):Prop where
 zero:∀a v,v<n->a.testBit v=false->U.testBit v=false->c a v=0
 mask:∀a v,v<n->a.testBit v=false->c a v=c (a&&&U) v
theorem ow{a U v:Nat}{b:Bool}:(aB a v b) &&&U=if U.testBit v then aB (a&&&U) v b else a&&&U:=by
 apply xaV;intro k;by_cases hU:U.testBit v=true
 ·rw[xad hU,xbi,aj,aj,xbi];by_cases e:k=v
  ·subst e;simp[hU]
  simp[e]
 rw[xac hU,xbi,aj,xbi];by_cases e:k=v
 ·subst e;simp[hU]
 simp[e]
def dw(n U a:Nat):zL:=(bO n a).filter λv=>U.testBit v
theorem fw{n U a v:Nat}:v∈dw n U a↔v<n/\a.testBit v=false/\U.testBit v=true:=by simp[dw,cN,and_assoc]
theorem lY(n U a:Nat):dw n U (a&&&U)=dw n U a:=by
 unfold dw bO;rw[xdi,xdi];apply xdn;intro v _;rw[xbi];cases a.testBit v<;>cases U.testBit v<;>rfl
theorem JC{n U:Nat}{c:Nat->Nat->Nat}(hU:Used n c U):∀(d a:Nat),(bO n a).length=d->B n c a=gz ((dw n U a).map λv=>c (a&&&U) v+B n c (aB a v true))/\∀a',(bO n a').length<=d->a'&&&U=a&&&U->B n c a'=B n c a:=by
 intro d;induction d using Nat.strongRecOn with
 |_ d ih=>
  have key:∀a,(bO n a).length=d->B n c a=gz ((dw n U a).map λv=>c (a&&&U) v+B n c (aB a v true)):=by
   intro a hd;by_cases hm:bO n a=[]
   ·have h1:dw n U a=[]:=by unfold dw;rw[hm];rfl
    rw[h1,Lw hm];rfl
   have hle:∀v∈dw n U a,B n c a<=c (a&&&U) v+B n c (aB a v true):=λv hv=>by
    obtain⟨h1,h2,h3⟩:=fw.1 hv;rw[<-hU.mask a v h1 h2];exact ad1 (cN.2 ⟨h1,h2⟩)
   obtain⟨v,hv,he⟩:=ad2 (c:=c) hm;obtain⟨h1,h2⟩:=cN.1 hv;by_cases hu:U.testBit v=true
   ·symm;refine CW (xan.2 ⟨v,fw.2 ⟨h1,h2,hu⟩,by rw[<-hU.mask a v h1 h2];exact he.symm⟩) λy hy=>?_;obtain⟨w,hw,rfl⟩:=xan.1 hy;exact hle w hw
   have AY:U.testBit v=false:=by simpa using hu
   rw[hU.zero a v h1 h2 AY,xa2]at he;have hlt:(bO n (aB a v true)).length<d:=by have:=gK hv;omega
   have hand:aB a v true&&&U=a&&&U:=by rw[ow,xac hu]
   obtain⟨k1,k2⟩:=ih _ hlt (aB a v true) rfl;have XK:dw n U (aB a v true)=dw n U a:=by rw[<-lY,hand,lY]
   by_cases FP:dw n U a=[]
   ·rw[XK,FP]at k1;rw[he,k1,FP];rfl
   symm;rw[XK,hand]at k1;have hmem:=o6 (l:=(dw n U a).map λw=>c (a&&&U) w+B n c (aB (aB a v true) w true)) (by simpa using FP);rw[<-k1]at hmem;obtain⟨w,hw,kj⟩:=xan.1 hmem;obtain⟨w1,w2,w3⟩:=fw.1 hw;have hwv:w≠v:=λe=>by rw[e]at w3;rw[AY]at w3;cases w3
   have XR:aB (aB a v true) w true=aB (aB a w true) v true:=by
    apply xaV;intro k;rw[aj,aj,aj,aj];by_cases e1:k=w<;>by_cases e2:k=v<;>simp[e1,e2]
   have hmw:w∈bO n a:=cN.2 ⟨w1,w2⟩;have hsub:B n c (aB (aB a v true) w true)=B n c (aB a w true):=by
    have ug:(bO n (aB a w true)).length<d:=by have:=gK hmw;omega
    refine(ih _ ug (aB a w true) rfl).2 _ ?_ ?_
    ·have hvm:v∈bO n (aB a w true):=cN.2 ⟨h1,by rw[aj,xac (xa8 hwv)];exact h2⟩;have:=gK hvm;rw[XR];omega
    rw[XR,ow,xac hu]
   have hval:c (a&&&U) w+B n c (aB a w true)=B n c a:=by rw[he,<-kj,hsub]
   refine CW (xan.2 ⟨w,hw,hval⟩) λy hy=>?_;obtain⟨z,hz,rfl⟩:=xan.1 hy;exact hle z hz
  intro a hd;refine⟨key a hd,λa' dF hand=>?_⟩;have XK:dw n U a'=dw n U a:=by rw[<-lY,hand,lY]
  have h':B n c a'=gz ((dw n U a').map λv=>c (a'&&&U) v+B n c (aB a' v true)):=by
   rcases xew (bO n a').length d with h|h
   ·exact(ih _ h a' rfl).1
   exact key a' zO
  rw[h',key a hd,XK,hand];congr 1;apply xbn;intro v hv;congr 1;obtain⟨v1,v2,v3⟩:=fw.1 hv;have hma:v∈bO n a:=cN.2 ⟨v1,v2⟩;have afX:v∈bO n a':=by
   rw[<-XK]at hv;exact cN.2 ⟨v1,(fw.1 hv).2.1⟩
  have hlt:(bO n (aB a v true)).length<d:=by have:=gK hma;omega
  refine(ih _ hlt (aB a v true) rfl).2 _ ?_ ?_
  ·have:=gK afX;have:=gK hma;omega
  rw[ow,ow,hand]
theorem Yh{n U:Nat}{c:Nat->Nat->Nat}(hU:Used n c U)(a:Nat):B n c (a&&&U)=B n c a:=by
 have e:(a&&&U) &&&U=a&&&U:=by rw[Nat.and_assoc,Nat.and_self]
 rcases Nat.le_total (bO n (a&&&U)).length (bO n a).length with h|h
 ·exact(JC hU _ a rfl).2 _ h e
 exact((JC hU _ (a&&&U) rfl).2 a h e.symm).symm
theorem ad0{n U:Nat}{c:Nat->Nat->Nat}(hU:Used n c U)(a:Nat):B n c a=gz ((dw n U a).map λv=>c (a&&&U) v+B n c (aB (a&&&U) v true)):=by
 rw[(JC hU _ a rfl).1];congr 1;apply xbn;intro v hv;obtain⟨v1,v2,v3⟩:=fw.1 hv;congr 1;rw[<-Yh hU (aB a v true),ow,xad v3]
def ord(n:Nat)(c:Nat->Nat->Nat):Nat->Nat->zL
 |0,_=>[]
 |f+1,a=>match(bO n a).find? λv=>c a v+B n c (aB a v true)==B n c a with
  |some v=>v::ord n c f (aB a v true)
  |none=>[]
theorem vz{n:Nat}{c:Nat->Nat->Nat}{f a:Nat}(h:bO n a≠[]):∃v,v∈bO n a/\c a v+B n c (aB a v true)=B n c a/\(∀u∈bO n a,u<v->c a u+B n c (aB a u true)≠B n c a)/\ord n c (f+1) a=v::ord n c f (aB a v true):=by
 obtain⟨w,hw,he⟩:=ad2 (c:=c) h;cases hf:(bO n a).find? λv=>c a v+B n c (aB a v true)==B n c a with
 |none=>
  rw[xcS]at hf;exact absurd (by simpa using he.symm) (hf w hw)
 |some v=>
  have h1:=List.find?_some hf;refine⟨v,List.mem_of_find?_eq_some hf,by simpa using h1,λu hu huv=>?_,by rw[ord,hf]⟩;rw[xd9]at hf;obtain⟨_,as1,bs,hab,hno⟩:=hf;have hs:(bO n a).Pairwise (· < ·):=List.Pairwise.filter _ List.pairwise_lt_range;rw[hab]at hs hu;rcases xao.1 hu with hu|hu
  ·have:=hno u hu;simpa using this
  rw[List.pairwise_append]at hs;have h2:=hs.2.1;rw[xen]at h2;rcases xaj.1 hu with rfl|hu
  ·omega
  have:=h2.1 u hu;omega
end ak
namespace ak
open Go.Sx
theorem dg{x u v:Nat}{b c:Bool}(h:u≠v):aB (aB x u b) v c=aB (aB x v c) u b:=by
 apply xaV;intro k;rw[aj,aj,aj,aj];by_cases e1:k=u<;>by_cases e2:k=v
 ·exact absurd (e1.symm.trans e2) h
 ·simp[e1,h]
 ·simp[e2,xa8 h]
 simp[e1,e2]
theorem WK{n u v:Nat}{ws:zL}{b:Bool}(hf:eE n ws)(hu:u<n)(hv:v<n)(h:dep n ws v=false):dep n (iF n ws u b) v=false:=by
 by_cases e:u=v
 ·subst e;cases hd:dep n (iF n ws u b) u
  ·rfl
  obtain⟨x,hx,hne⟩:=(uF (ej hf.xP) hu).1 hd;rw[eR hf hu (fX hx hu),eR hf hu (fX hx hu)]at hne;refine absurd ?_ hne;congr 1;apply xaV;intro k;rw[aj,aj,aj,aj];by_cases e:k=u<;>simp[e]
 cases hd:dep n (iF n ws u b) v
 ·rfl
 obtain⟨x,hx,hne⟩:=(uF (ej hf.xP) hv).1 hd;rw[eR hf hu (fX hx hv),eR hf hu (fX hx hv),dg (xa8 e),dg (xa8 e)]at hne;have:=(uF hf hv).2 ⟨aB x u b,fX hx hu,hne⟩;rw[h]at this;cases this
theorem Au{n:Nat}{L:Fs}{A:Nat}(hL:∀t∈L,eE n t)(hn:n<=16){v:Nat}(hv:v<n)(h:∀t∈L,dep n t v=false):∀k,k<=n->∀t∈st n L A k,dep n t v=false
 |0,_,t,ht=>h t (ef.1 ht)
 |k+1,hk,t,ht=>by
  rw[st]at ht;split at ht
  ·obtain⟨u,hu,b,rfl⟩:=bV.1 ht;exact WK (EZ hL hn k u hu) zO hv (Au hL hn hv h k zO u hu)
  exact Au hL hn hv h k zO t ht
def aY(n:Nat)(L:Fs):Nat:=L.foldl (λu t=>u|||p7 n t) 0
theorem pK(n v:Nat):∀(L:Fs) (u:Nat),(L.foldl (λu t=>u|||p7 n t) u).testBit v=(u.testBit v||L.any λt=>(p7 n t).testBit v)
 | [],u=>by simp
 |t::L,u=>by rw[xcI,pK n v L,xbX,List.any_cons,Bool.or_assoc]
theorem Ar{n v:Nat}{L:Fs}:(aY n L).testBit v=L.any λt=>(p7 n t).testBit v:=by
 unfold aY;rw[pK];simp
theorem uL{n v:Nat}{L:Fs}(hv:v<n)(h:(aY n L).testBit v=false):∀t∈L,dep n t v=false:=by
 rw[Ar,List.any_eq_false]at h;intro t ht;have:=h t ht;rw[p7,iE]at this;simpa[hv]using this
theorem DG(n:Nat):∀(L:Fs) (u:Nat),u<2^n->L.foldl (λu t=>u|||p7 n t) u<2^n
 | [],u,h=>h
 |t::L,u,h=>DG n L _ (xbH h (nL n t n))
theorem uM(n:Nat)(L:Fs):aY n L<2^n:=DG n L 0 (xbv n)
theorem JQ{n:Nat}{L:Fs}{A:Nat}(hL:∀t∈L,eE n t)(hn:n<=16):∀k,k<=n->∀x,x∈st n L A k↔x∈st n L (A&&&aY n L) k
 |0,_,x=>xcW
 |k+1,hk,x=>by
  have ih:=JQ (A:=A) hL hn k zO;rw[st,st,xbi];cases hA:A.testBit k
  ·simpa using ih x
  cases hU:(aY n L).testBit k
  ·simp only[xa5,xeh,xaP,xa1];rw[bV,<-ih x];have hd:=Au (A:=A) hL hn (v:=k) zO (uL zO hU) k zO;have hf:=EZ (A:=A) hL hn k;constructor
   ·rintro⟨t,ht,b,rfl⟩;rw[oq (hf t ht) zO (hd t ht)];exact ht
   intro hx;exact⟨x,hx,false,(oq (hf x hx) zO (hd x hx)).symm⟩
  simp only[xdV,xa5];rw[bV,bV];constructor
  ·rintro⟨t,ht,h⟩;exact⟨t,(ih t).1 ht,h⟩
  rintro⟨t,ht,h⟩;exact⟨t,(ih t).2 ht,h⟩
theorem JJ{n:Nat}{L:Fs}(hL:∀t∈L,eE n t)(hn:n<=16):Used n (lvl n L) (aY n L):=by
 refine⟨λa v hv _ hU=>?_,λa v hv _=>?_⟩
 ·unfold lvl nodes;rw[xcQ,xdm];intro t ht;rw[Au hL hn hv (uL hv hU) n (xai _) t ht];simp
 exact jX (gI (nM n L a n) (nM n L _ n) (JQ hL hn n (xai _)))
end ak
set_option maxRecDepth 100000
namespace Go.Proofs
open Go Go.Sx
def kp(x:Nat×Nat):zV:=.agg (aA .i64 [(x.1:Int),(x.2:Int)])
def ki(x:Nat):zV:=iv (x:Int)
theorem FC(a b:Nat):Instr.sameNow (.int .i64) (ki a) (ki b)=some (decide (a=b)):=by
 simp only[Instr.sameNow,ki,xa5,xar];rw[xbE];simp;omega
theorem VH(a:Nat):Instr.sameBits 10000 (ki a) (ki a)=true:=by simp[Instr.sameBits,ki]
theorem Q2(a b:Nat×Nat):Bv zQ 309 (kp a) (kp b) (decide (a=b)):=by
 have:=Bv.array (P:=zQ) (t:=309) (e:=3) (q:=.i64) (n:=2) zK zK zK [(a.1:Int),(a.2:Int)] [(b.1:Int),(b.2:Int)] rfl rfl;have e:decide ([(a.1:Int),(a.2:Int)]=[(b.1:Int),(b.2:Int)])=decide (a=b):=by
  rw[xcm];obtain⟨a1,a2⟩:=a;obtain⟨b1,b2⟩:=b;simp;omega
 rw[e]at this;exact this
theorem FA(a:Nat×Nat):mz zQ 309 (kp a):=mz.array (P:=zQ) (t:=309) (e:=3) (q:=.i64) (n:=2) zK zK zK _ rfl
theorem xL(n:Nat)(q:IntKind)(l:List Int):Instr.sameBits (n+1+1) (.agg (aA q l)) (.agg (aA q l))=true:=by
 simp only[Instr.sameBits,aA,xev,xcn,xc4];intro x hx;obtain⟨a,b⟩:=x;have h:=xd6 hx;have e:a=b:=by
  rw[List.zip_eq_zip_take_min]at hx;obtain⟨i,hi,he⟩:=xba.1 hx;simp at he;exact he.1.symm.trans he.2
 subst e;have:=h.1;simp only[xdF,xan]at this;obtain⟨y,_,rfl⟩:=this;simp[Instr.sameBits]
theorem VD(a:Nat×Nat):Instr.sameBits 10000 (kp a) (kp a)=true:=xL 9998 _ _
abbrev vrN(v:zV)(x:Nat):Prop:=v=iv (x:Int)
structure Lk(n:Nat)(L:List (zL))(kC:Array MapEntry)(jO:Nat)(gP:Array MapEntry)(iB:Nat):Prop where
 ah:∃m,aE kp vrN kC jO m/\∀x∈m,x.2=ak.lvl n L x.1.1 x.1.2
 dow:∃m,aE ki vrN gP iB m/\∀x∈m,x.2=ak.B n (ak.lvl n L) x.1
def nj(bp bl bd:Nat)(xE:zV)(n:Nat)(L:List (zL))(U:Nat)(B H:Hp):Prop:=
 ∃kC jO gP iB,H=(bp,.cells #[xE,iv (n:Int),iv (U:Int),.map (some bl),.map (some bd)] 247 zZ)::(bl,.map kC jO)::(bd,.map gP iB)::B/\Lk n L kC jO gP iB
theorem CK{κ:Type}[DecidableEq κ]{f:κ->Nat}{m:List (κ×Nat)}{k:κ}(h:∀x∈m,x.2=f x.1):∀x∈dW m k (f k),x.2=f x.1:=by
 intro x hx;unfold dW at hx;split at hx
 ·obtain⟨y,hy,rfl⟩:=xan.1 hx;split
  ·rfl
  exact h y hy
 rcases xao.1 hx with hx|hx
 ·exact h x hx
 simp at hx;subst hx;rfl
theorem CX{κ:Type}[DecidableEq κ]{f:κ->Nat}{m:List (κ×Nat)}{k:κ}{x:Nat}(h:∀x∈m,x.2=f x.1)(hk:aK m k=some x):x=f k:=by
 unfold aK at hk;obtain⟨y,hy,rfl⟩:=xdU.1 hk;have h1:=List.find?_some hy;have h2:=h y (List.mem_of_find?_eq_some hy);simp only[xaK]at h1;rw[h2,h1]
structure wX(xE:zV)(n:Nat)(L:List (zL))(B:Hp):Prop where
 tb:jF B xE (LW n L)
 BL:∀ws∈L,ak.eE n ws
 ne:L≠[]
 small:L.length<33554432
 n12:n<=12
theorem Fv{xE:zV}{n:Nat}{L:List (zL)}{B:Hp}(h:wX xE n L B)(a v:Nat):ak.lvl n L a v<2199023255551:=by
 have h1:ak.lvl n L a v<=(ak.st n L a n).length:=xbY _ _;have h2:=P3 (n:=n) (A:=a) (L:=L) (by have:=h.n12;omega) h.small (xai n);omega
theorem CG{xE:zV}{n:Nat}{L:List (zL)}{B:Hp}(h:wX xE n L B){bp bl bd a v:Nat}{H:Hp}(hp:nj bp bl bd xE n L (ak.aY n L) B H)(ha:a<2^n)(hv:v<n)(hav:a.testBit v=false):
  Fc zQ 184 #[.pointer (some ⟨bp,0,none⟩),iv (a:Int),iv (v:Int)] H (λr H'=>r=iv ((ak.lvl n L a v:Nat):Int)/\nj bp bl bd xE n L (ak.aY n L) B H'):=by
 obtain⟨kC,jO,gP,iB,rfl,hM⟩:=hp;have hU:=ak.uM n L;have uf:=h.n12;have mT:2^n<=2^12:=xaw zD uf;have Du:=ak.JJ h.BL zO;have hsU:ak.aY n L>>>v<=ak.aY n L:=xbm _ _;refine aF λg=>Ip (Nil.ptr ?_);refine ai.mk (Ld.mk zM rfl ?_);refine ae.iI (by simp[bF];omega) (ae.jD (b:=1) (by simp[bF];omega) zD (ae.eL (b:=0) ?_));have M4:ak.aY n L>>>v&&&1=0↔(ak.aY n L).testBit v=false:=by
  rw[ak.gn,xbD,xcx];cases (ak.aY n L).testBit v<;>simp
 refine Br.dec (λh0=>?_) (λh0=>?_)
 ·refine aN.here ⟨?_,kC,jO,gP,iB,rfl,hM⟩;rw[Du.zero a v hv hav (M4.1 h0)];rfl
 have hUv:(ak.aY n L).testBit v=true:=by cases hh:(ak.aY n L).testBit v;exact absurd (M4.2 hh) h0;rfl
 apply Nil.ptr;refine ai.mk (Ld.mk zM rfl ?_);refine ae.jD (by simp[bF];omega) (by simp[bF];omega) ?_;have hlv:ak.lvl n L a v=ak.lvl n L (a&&&ak.aY n L) v:=Du.mask a v hv hav;have XT:(a&&&ak.aY n L).testBit v=false:=by rw[xbi,hav];rfl
 have haU:a&&&ak.aY n L<2^n:=xaz xcc ha;rw[hlv];obtain⟨a',dM⟩:∃a',a'=a&&&ak.aY n L:=⟨_,rfl⟩;rw[<-dM]at XT haU⊢;refine Build.two (q:=.i64) (e:=3) zK zK zK ?_;rw[show aA .i64 [(a':Int),(v:Int)]=List.toArray [iv (a':Int),iv (v:Int)]from rfl];intro Ug _;refine St.q ?_;apply Nil.ptr;refine ai.mk (Ld.mk zM rfl ?_);refine az.q ?_;obtain⟨⟨m1,Uc,xH⟩,acH⟩:=hM;have ab0:∀J:List zV->Hp->Prop,(∀w25:zV,∀H24:Hp,(∀al0:Fr,aN (λr H'=>r=iv ((ak.lvl n L a' v:Nat):Int)/\nj bp bl bd xE n L (ak.aY n L) B H') (.returned w25) H24)->J [w25] H24)->
   ∀WH WL,Lk n L WH WL gP iB->J [iv ((ak.lvl n L a' v:Nat):Int)] ((bp,.cells #[xE,iv (n:Int),iv ((ak.aY n L:Nat):Int),.map (some bl),.map (some bd)] 247 zZ)::(bl,.map WH WL)::(bd,.map gP iB)::B):=
  λJ hJ WH WL hM=>hJ _ _ λgs=>aN.here ⟨rfl,WH,WL,gP,iB,rfl,hM⟩
 cases hg:aK m1 (a',v)with
 |some x=>
  have hx:=CX (f:=λk=>ak.lvl n L k.1 k.2) xH hg;simp only at hx;refine aE.FR (ke:=kp) (k:=(a',v)) Q2 FA Uc (by exact .tail _ (.tail _ (.head _))) hg λy hy=>?_;subst hy;refine Ext.two λJ hJ=>(Un.not (Br.no (JE.of .tail ?_)));rw[hx];exact ab0 J hJ _ _ ⟨⟨m1,Uc,xH⟩,acH⟩
 |none=>
  refine aE.vH (ke:=kp) (k:=(a',v)) Q2 FA Uc (by exact .tail _ (.tail _ (.head _))) hg ?_;refine Ext.two λJ hJ=>(Un.not (Br.yes (DR.self (Nil.ptr ?_))));refine ai.mk (Ld.mk zM rfl ?_);refine⟨Ug,0,.i64,0,rfl,rfl,by decide,by decide,?_⟩;refine Ld.q ?_;refine br.q (aa.eq (B:=B) (QX (n:=n) (L:=L) h.tb h.BL h.ne (by have:=h.small;omega) haU hv XT) (⟨.refl _,Ext.mk rfl (Ext.mk rfl ?_)⟩));refine DR.of (R:=(Ug,.cells (List.toArray [iv (a':Int),iv (v:Int)]) 309 zZ)::(bp,.cells #[xE,iv (n:Int),iv ((ak.aY n L:Nat):Int),.map (some bl),.map (some bd)] 247 zZ)::[]) (.cons (.cons (λg w h=>(Own.left (B:=_) (A:=[]) h)))) (Nil.ptr ?_);refine ai.mk (Ld.mk zM rfl ?_);refine az.q ?_;refine aE.LQ (ke:=kp) (vr:=vrN) (b:=bl) (val:=iv ((ak.lvl n L a' v:Nat):Int)) (k:=(a',v)) (x:=ak.lvl n L a' v) Q2 FA VD Uc rfl λes' bC Dv=>⟨_,.tail (.tail (.head _)),?_⟩;have af0:∀x∈dW m1 (a',v) (ak.lvl n L a' v),x.2=ak.lvl n L x.1.1 x.1.2:=CK (f:=λk:Nat×Nat=>ak.lvl n L k.1 k.2) (k:=(a',v)) xH;have ZT:Lk n L es' bC gP iB:=⟨⟨dW m1 (a',v) (ak.lvl n L a' v),Dv,af0⟩,acH⟩;exact JE.of .tail (ab0 J hJ es' bC ZT)
end Go.Proofs
namespace Go.Sx
open Go
theorem vC(n:Int):BitVec.ofInt 64 (IntKind.i64.wrap n)=BitVec.ofInt 64 n:=by
 apply BitVec.eq_of_toNat_eq;simp only[BitVec.toNat_ofInt,IntKind.wrap,IntKind.bits,IntKind.signed,xcn,xaK];congr 1;split<;>omega
theorem wrap_toInt(x:BitVec 64):IntKind.i64.wrap (x.toNat:Int)=x.toInt:=by
 rw[BitVec.toInt_eq_toNat_cond];have:=x.isLt;have e:(2:Int)^(64-1)=9223372036854775808:=rfl;simp only[IntKind.wrap,IntKind.bits,IntKind.signed,xcn,xaK,e];split<;>split<;>omega
theorem qt(op:BinOp)(x y:Int):BitVec.ofInt 64 (bits op .i64 x y)=(match op with
  | .and=>BitVec.ofInt 64 x&&&BitVec.ofInt 64 y
  | .or=>BitVec.ofInt 64 x|||BitVec.ofInt 64 y
  | .xor=>BitVec.ofInt 64 x^^^BitVec.ofInt 64 y
  |_=>BitVec.ofInt 64 x&&& ~~~BitVec.ofInt 64 y):=by
 unfold bits;simp only[vC];rw[xcJ];simp only[IntKind.bits];rw[BitVec.ofNat_toNat,BitVec.setWidth_eq];cases op<;>rfl
theorem wO(op:BinOp)(x y:Int):bits op .i64 x y=(BitVec.ofInt 64 (bits op .i64 x y)).toInt:=by
 unfold bits;simp only[vC];rw[xcJ];simp only[IntKind.bits];rw[BitVec.ofNat_toNat,BitVec.setWidth_eq];exact wrap_toInt _
theorem Mx{a U v:Nat}(ha:a<4611686018427387904)(hU:U<4611686018427387904)(hv:v<62):
  bits .and .i64 ((bits .or .i64 a (bits .xor .i64 (-1) U)).fdiv (2^(min (v:Int).toNat IntKind.i64.bits))) 1=if a.testBit v=true\/U.testBit v=false then 1 else 0:=by
 have hX:=qt .or (a:Int) (bits .xor .i64 (-1) U);simp only at hX;have hN:=qt .xor (-1) (U:Int);simp only at hN;rw[hN]at hX;generalize hx:bits .or .i64 a (bits .xor .i64 (-1) U)=x at hX;have hxi:x=(BitVec.ofInt 64 x).toInt:=by rw[<-hx];exact wO _ _ _
 have hm:min (v:Int).toNat IntKind.i64.bits=v:=by simp[IntKind.bits];omega
 rw[hm];have hs:x.fdiv (2^v)=((BitVec.ofInt 64 x).sshiftRight v).toInt:=by
  rw[BitVec.toInt_sshiftRight,<-hxi,Int.shiftRight_eq_div_pow,Int.fdiv_eq_ediv_of_nonneg _ (Int.le_of_lt (Int.pow_pos zD))]
  push_cast;rfl
 rw[hs,wO,qt];simp only[BitVec.ofInt_toInt];rw[hX];have h1:BitVec.ofInt 64 (1:Int)=1#64:=rfl;have h2:BitVec.ofInt 64 (-1:Int)=BitVec.allOnes 64:=by decide
 rw[h1,h2];have M4:((BitVec.ofInt 64 (a:Int)|||BitVec.allOnes 64^^^BitVec.ofInt 64 (U:Int)).sshiftRight v).getLsbD 0=(a.testBit v|| !U.testBit v):=by
  rw[BitVec.getLsbD_sshiftRight];have e1:v+0<64:=by omega
  simp only[xcx,show¬(64<=0)from by decide,xdp,xcp,xcn,show v<64 by omega,xa5];rw[BitVec.getLsbD_or,BitVec.getLsbD_xor,BitVec.getLsbD_allOnes,xcJ,xcJ,BitVec.getLsbD_ofNat,BitVec.getLsbD_ofNat];simp[show v<64 by omega]
 have g8:∀y:BitVec 64,(y&&&1#64).toInt=if y.getLsbD 0 then 1 else 0:=by
  intro y;have:y&&&1#64=if y.getLsbD 0 then 1#64 else 0#64:=by
   apply BitVec.eq_of_getLsbD_eq;intro i hi;rw[BitVec.getLsbD_and];by_cases h0:i=0
   ·subst h0;cases hb:y.getLsbD 0<;>simp[hb]
   have:(1#64).getLsbD i=false:=by simp[BitVec.getLsbD_one,h0]
   rw[this];cases y.getLsbD 0<;>simp[this]
  rw[this];cases y.getLsbD 0<;>decide
 rw[g8,M4];cases a.testBit v<;>cases U.testBit v<;>simp
theorem abv{a U v:Nat}(ha:a<4611686018427387904)(hU:U<4611686018427387904)(hv:v<62){k:zV->Prop}(h:k (.bool (decide (a.testBit v=true\/U.testBit v=false)))):
  Un .xor (.int .i64 (U:Int)) λv33=>ae .num .or (.int .i64 (a:Int)) v33 λv34=>ae .num .shr v34 (.int .i64 (v:Int)) λv35=>ae .num .and v35 (.int .i64 1) λv36=>ae .num .eql v36 (.int .i64 1) k:=by
 refine⟨_,rfl,_,rfl,?_⟩;have h0:¬((v:Int)<0):=by omega
 refine⟨_,by simp only[gV,h0,xa1];rfl,_,rfl,?_⟩;refine ae.ia ?_;have hs:(if IntKind.i64.signed=true then(-1:Int)else IntKind.i64.max)= -1:=rfl;rw[hs,Mx ha hU hv];by_cases hc:a.testBit v=true\/U.testBit v=false
 ·rw[xad hc];rw[xam hc]at h;exact h
 rw[xac hc];rw[xal hc]at h;exact h
end Go.Sx
set_option maxRecDepth 100000
namespace Go.Proofs
open Go Go.Sx
section
theorem iN(x:zV)(r:List zV)(i:Nat):bN (x::r) (i+1)=bN r i:=by cases x<;>rfl
def jT(n:Nat)(L:List (zL))(U a k:Nat):zL:=((List.range k).filter λv=> !a.testBit v&&U.testBit v).map λv=>ak.lvl n L a v+ak.B n (ak.lvl n L) (ak.aB a v true)
theorem Mc{n:Nat}{L:List (zL)}{U a:Nat}:jT n L U a n=(ak.dw n U a).map λv=>ak.lvl n L a v+ak.B n (ak.lvl n L) (ak.aB a v true):=by
 unfold jT ak.dw ak.bO;rw[xdi];congr 1;apply xdn;intro v _;cases a.testBit v<;>cases U.testBit v<;>rfl
theorem uZ{n:Nat}{L:List (zL)}{U a k:Nat}:jT n L U a (k+1)=if a.testBit k=true\/U.testBit k=false then jT n L U a k else jT n L U a k++[ak.lvl n L a k+ak.B n (ak.lvl n L) (ak.aB a k true)]:=by
 unfold jT;rw[xce,xb3,xaA];cases h1:a.testBit k<;>cases h2:U.testBit k<;>simp[h1,h2]
def zw(l:zL):zV:=if l=[]then iv (-1)else iv ((ak.gz l:Nat):Int)
theorem Te(n:Nat)(c:Nat->Nat->Nat)(M:Nat)(hc:∀a v,c a v<=M):∀f a,ak.Tf n c f a<=f*M
 |0,a=>by simp[ak.Tf]
 |f+1,a=>by
  rw[ak.Tf,xbu];by_cases h:ak.bO n a=[]
  ·rw[h];simp[ak.gz]
  have:=ak.o6 (l:=(ak.bO n a).map λv=>c a v+ak.Tf n c f (ak.aB a v true)) (by simpa using h);obtain⟨v,_,e⟩:=xan.1 this;rw[<-e];have h1:=hc a v;have h2:=Te n c M hc f (ak.aB a v true);omega
theorem Lv{xE:zV}{n:Nat}{L:List (zL)}{B:Hp}(h:wX xE n L B)(a:Nat):ak.B n (ak.lvl n L) a<35184372088832:=by
 have h1:=Te n (ak.lvl n L) 2199023255551 (λa v=>xb5 (Fv h a v)) n a;have h2:n*2199023255551<=12*2199023255551:=xaZ _ h.n12;unfold ak.B;omega
theorem Bp{a U n:Nat}(hU:U<2^n)(h:∀v,v<n->¬(a.testBit v=false/\U.testBit v=true)):a&&&U=U:=by
 apply xaV;intro k;rw[xbi];by_cases hk:k<n
 ·have:=h k hk;cases h1:a.testBit k<;>cases h2:U.testBit k<;>simp_all
 have:U.testBit k=false:=xb6 (xaN hU (xaw zD zO));rw[this];simp
theorem r6{xE:zV}{n:Nat}{L:List (zL)}{B:Hp}(h:wX xE n L B){bp bl bd:Nat}:∀(d a:Nat),(ak.dw n (ak.aY n L) a).length<=d->a<2^n->∀H,nj bp bl bd xE n L (ak.aY n L) B H->
  Fc zQ 185 #[.pointer (some ⟨bp,0,none⟩),iv (a:Int)] H (λr H'=>r=iv ((ak.B n (ak.lvl n L) a:Nat):Int)/\nj bp bl bd xE n L (ak.aY n L) B H'):=by
 have hU:=ak.uM n L;have uf:=h.n12;have mT:2^n<=2^12:=xaw zD uf;have Du:=ak.JJ h.BL zO;intro d;induction d using Nat.strongRecOn with
 |_ d ih=>
  intro a hd ha H hp;obtain⟨kC,jO,gP,iB,rfl,hM⟩:=hp;refine aF λg=>xu (Nil.ptr ?_);refine ai.mk (Ld.mk zM rfl ?_);refine ae.jD (by simp[bF];omega) (by simp[bF];omega) (Nil.ptr ?_);refine ai.mk (Ld.mk zM rfl ?_);have hBa:ak.B n (ak.lvl n L) a=ak.B n (ak.lvl n L) (a&&&ak.aY n L):=(ak.Yh Du a).symm;have XK:ak.dw n (ak.aY n L) (a&&&ak.aY n L)=ak.dw n (ak.aY n L) a:=ak.lY _ _ _;have haU:a&&&ak.aY n L<2^n:=xaz xcc ha;have iR:(a&&&ak.aY n L) &&&ak.aY n L=a&&&ak.aY n L:=by rw[Nat.and_assoc,Nat.and_self]
  rw[hBa];rw[<-XK]at hd;obtain⟨a',dM⟩:∃a',a'=a&&&ak.aY n L:=⟨_,rfl⟩;rw[<-dM]at haU hd iR⊢;clear hBa XK ha dM;have aG:=Mc (n:=n) (L:=L) (U:=ak.aY n L) (a:=a');have ab1:ak.B n (ak.lvl n L) a'=ak.gz (jT n L (ak.aY n L) a' n):=by
   rw[aG];have:=ak.ad0 Du a';rw[iR]at this;exact this
  refine ae.eL (Br.dec (λh0=>?_) (λh0=>?_))
  ·refine aN.here ⟨?_,kC,jO,gP,iB,rfl,hM⟩;have:ak.dw n (ak.aY n L) a'=[]:=by
    rw[xcE];intro v hv;obtain⟨_,h2,h3⟩:=ak.fw.1 hv;rw[h0,h3]at h2;cases h2
   rw[ab1,aG,this];rfl
  have hne:jT n L (ak.aY n L) a' n≠[]:=by
   rw[aG];intro e;apply h0;rw[<-iR];refine Bp hU λv hv hh=>?_;have:v∈ak.dw n (ak.aY n L) a':=ak.fw.2 ⟨hv,hh.1,hh.2⟩;rw[List.map_eq_nil_iff.1 e]at this;simp at this
  apply Nil.ptr;refine ai.mk (Ld.mk zM rfl ?_);obtain⟨RF,m2,sO,nh⟩:=hM;cases hg:aK m2 a' with
  |some x=>
   have hx:=CX (f:=ak.B n (ak.lvl n L)) nh hg;refine aE.hit (ke:=ki) (k:=a') FC sO (by exact .tail _ (.tail _ (.head _))) hg λy hy=>?_;subst hy;refine Ext.mk rfl (Ext.mk rfl (Br.yes (aN.here ⟨?_,kC,jO,gP,iB,rfl,RF,m2,sO,nh⟩)));rw[hx];rfl
  |none=>
   refine aE.bO (ke:=ki) (k:=a') FC sO (by exact .tail _ (.tail _ (.head _))) hg ?_;refine Ext.mk rfl (Ext.mk rfl (Br.no (Nil.ptr ?_)));refine ai.mk (Ld.mk zM rfl ?_);refine⟨λvs H=>∃k:Nat,vs=[zw (jT n L (ak.aY n L) a' k),iv (k:Int)]/\k<=n/\nj bp bl bd xE n L (ak.aY n L) B H,λvs _=>n-bN vs 1,
    JE.mk ⟨0,rfl,xaO _,kC,jO,gP,iB,rfl,RF,m2,sO,nh⟩,?_⟩
   clear sO nh hg RF kC jO gP iB m2;rintro w22 w23 H ⟨k,⟨⟩,hk,hp⟩ gs;refine ae.fy (Br.dec (λhlt=>?_) (λhlt=>?_))
   ·intro J hJ;have Pe:=hp;obtain⟨kC,jO,gP,iB,rfl,hM⟩:=hp;apply Nil.ptr;refine ai.mk (Ld.mk zM rfl ?_);refine abv zO zO zO ?_;have Dq:∀l H,l=jT n L (ak.aY n L) a' (k+1)->nj bp bl bd xE n L (ak.aY n L) B H->J [zw l] H:=λl H hl hp=>hJ _ _ λgs=>by
     exact ae.inc (aC.mk ⟨k+1,by rw[hl],by omega,hp⟩ (by rw[iN,iN];show n-(((k:Int)+1).toNat)<n-((k:Int).toNat);omega))
    by_cases hc:a'.testBit k=true\/(ak.aY n L).testBit k=false
    ·rw[xam hc];refine Br.yes (JE.mk (Dq _ _ ?_ Pe));rw[uZ,xad hc]
    rw[xal hc];have hck:a'.testBit k=false/\(ak.aY n L).testBit k=true:=by
     cases h1:a'.testBit k<;>cases h2:(ak.aY n L).testBit k<;>simp_all
    have hmem:k∈ak.dw n (ak.aY n L) a':=ak.fw.2 ⟨hlt,hck.1,hck.2⟩;refine Br.no (DR.self ?_);have hpk:2^k<=2^12:=xaw zD zO;refine ae.B9 (a:=1) (by simp[IntKind.bits];omega) (by rw[xa4];simp[bF];omega) ?_;rw[xa4];refine ae.Kj (by simp[bF];omega) (by simp[bF];omega) ?_;have WG:a'|||2^k=ak.aB a' k true:=rfl
    rw[WG];refine aa.fq (CG h Pe haU hlt hck.1) ?_;rintro r H1 ⟨rfl,uA⟩;have hlen:(ak.dw n (ak.aY n L) (ak.aB a' k true)).length<d:=by
     have h1:(ak.dw n (ak.aY n L) (ak.aB a' k true)).length+1=(ak.dw n (ak.aY n L) a').length:=by
      unfold ak.dw ak.bO;rw[xdi,xdi];refine ak.oh _ _ k (List.range n) xbg (xaM.2 hlt) (by simp[hck]) (by simp[ak.aj]) λy hy hne=>?_;rw[ak.qX hne]
     omega
    refine aa.fq (ih _ hlen (ak.aB a' k true) (xai _) (ak.fX haU hlt) H1 uA) ?_;rintro r H2 ⟨rfl,mT⟩;have hb1:=Fv h a' k;have tG:=Lv h (ak.aB a' k true);refine ae.fE ?_;have hstep:=uZ (n:=n) (L:=L) (U:=ak.aY n L) (a:=a') (k:=k);rw[xac hc]at hstep;generalize ak.lvl n L a' k+ak.B n (ak.lvl n L) (ak.aB a' k true)=x at hstep;unfold zw;by_cases hl:jT n L (ak.aY n L) a' k=[]
    ·rw[xad hl];refine ae.lss (c6.mk true (λe=>by simp at e) (λ_=>rfl) λgs=>Br.yes (JE.mk ?_));have:=Dq [x] _ (by rw[hstep,hl];rfl) mT;simpa[zw,ak.gz]using this
    rw[xac hl];have hms:=ak.Fp (jT n L (ak.aY n L) a' k) x;rw[xac hl,<-hstep]at hms;have afT:jT n L (ak.aY n L) a' (k+1)≠[]:=by rw[hstep];simp
    have T1:=Dq _ H2 rfl mT;unfold zw at T1;rw[xac afT,hms]at T1;have hneg:decide (((ak.gz (jT n L (ak.aY n L) a' k):Nat):Int)<0)=false:=xal zO;by_cases hx:x<ak.gz (jT n L (ak.aY n L) a' k)
    ·rw[xdv zO]at T1;refine ae.lss ?_;rw[hneg];exact c6.mk true (λ_=>ae.fy ⟨rfl,by rw[xam hx]⟩) (λe=>by simp at e) λgs=>Br.yes (JE.mk T1)
    rw[xcG zO]at T1;refine ae.lss ?_;rw[hneg];exact c6.mk false (λ_=>ae.fy ⟨rfl,by rw[xal hx]⟩) (λe=>by simp at e) λgs=>Br.no (JE.mk T1)
   have:k=n:=by omega
   subst this;obtain⟨kC,jO,gP,iB,rfl,RF,m2,sO,nh⟩:=hp;apply Nil.ptr;refine ai.mk (Ld.mk zM rfl ?_);unfold zw;rw[xac hne,<-ab1];refine aE.bK (ke:=ki) (vr:=vrN) (b:=bd) (val:=iv ((ak.B k (ak.lvl k L) a':Nat):Int)) (k:=a') (x:=ak.B k (ak.lvl k L) a') FC VH sO rfl λes' bC Dv=>⟨_,.tail (.tail (.head _)),?_⟩;have afZ:∀x∈dW m2 a' (ak.B k (ak.lvl k L) a'),x.2=ak.B k (ak.lvl k L) x.1:=CK (f:=ak.B k (ak.lvl k L)) nh;exact aN.here ⟨rfl,kC,jO,es',bC,rfl,RF,_,Dv,afZ⟩
end
section
def ahI(v:zV)(ts:List Tb)(B:Hp)(r:zV)(H:Hp):Prop:=
 (rX ts/\∃(bp bl bd n:Nat) (L:List (zL)) (N:Hp),ts=LW n L/\(L=[]->n=0)/\n<=16/\(∀ws∈L,ak.eE n ws)/\r=.tuple #[.pointer (some ⟨bp,0,none⟩),iv 0]/\nj bp bl bd v n L (ak.aY n L) (N++B) H)
 \/(¬rX ts/\r=.tuple #[.pointer none,iv 5])
theorem tu(n:Nat)(L:List (zL)):Lk n L #[] 0 #[] 0:=⟨⟨[],aE.empty,by simp⟩,⟨[],aE.empty,by simp⟩⟩
theorem EN{n:Nat}{L:List (zL)}{k:Nat}(h:k<L.length):ak.aY n (L.take (k+1))=ak.aY n (L.take k)|||ak.p7 n L[k]:=by
 unfold ak.aY;rw[xbf,xaa h,Option.toList_some,xdo];rfl
theorem Nn{B:Hp}{v:zV}{ts:List Tb}(ht:jF B v ts)(cB:ts.length<4398046511104):Px zQ 183 #[v] B (ahI v ts B):=by
 obtain⟨va,vc,vl,rfl⟩:∃a c l,v=.slice a l c:=by
  obtain⟨rs,h1,_⟩:=ht;obtain⟨a,c,e,_⟩:=h1.shape;exact⟨a,c,_,e⟩
 refine aF λg=>Iq λb1 _ b2 _=>?_;refine Build.mk (cs:=[.slice va vl vc,iv 0,iv 0,.map (some b1),.map (some b2)]) zK λbp _=>?_;generalize hvs:Value.slice va vl vc=vv at ht⊢;refine ht.bX (ae.eL (b:=0) (Br.dec (λh0=>?_) (λh0=>?_)))
 ·have FP:ts=[]:=xbS h0;subst FP;refine⟨_,_,rfl,aM.cons aM.swap,(by repeat (first|exact bZ.refl _|apply bZ.cons|apply bZ.app)),Or.inl ⟨by simp[rX],bp,b1,b2,0,[],[],rfl,λ_=>rfl,by omega,by simp,rfl,_,_,_,_,?_,tu _ _⟩⟩;subst hvs;rfl
 refine aa.pq (B:=B) (QE ht cB) ?_;rintro r N ⟨s,rfl⟩;apply Ext.two;by_cases hO:rX ts
 case neg=>
  rw[xac hO];exact ae.CJ (a:=5) (b:=0) (Br.dec (λ_=>GF.mk (by repeat (first|exact bZ.refl _|apply bZ.cons|apply bZ.app)) (.inr ⟨hO,rfl⟩)) (λh=>absurd zD h))
 rw[xad hO];refine ae.CJ (a:=0) (b:=0) (Br.dec (λh=>absurd rfl h) (λ_=>?_));obtain⟨n,L,vY,rfl,hne,hf⟩:=Kl hO (by intro e;rw[e]at h0;exact h0 rfl);rw[xax]at cB h0;obtain⟨w0,TY⟩:∃w0,L[0]? =some w0:=⟨_,xaa (xdc.2 hne)⟩;refine ht.ldN (i:=0) (t:=⟨n,w0⟩) (by rw[xat,TY];rfl) zS ?_;simp only;refine Nil.ptr (ai.mk (St.one (c:=#[vv,iv 0,iv 0,.map (some b1),.map (some b2)]) (c':=#[vv,iv (n:Int),iv 0,.map (some b1),.map (some b2)]) (H':=(bp,.cells #[vv,iv (n:Int),iv 0,.map (some b1),.map (some b2)] 247 zZ)::(b2,.map #[] 0)::(b1,.map #[] 0)::(N++B)) (by subst hvs;exact .head _) rfl zI rfl ?_));refine ht.bX ?_;rw[xax];refine⟨λvs H=>∃(k:Nat) (N:Hp),vs=[iv (k:Int)]/\k<=L.length/\H=(bp,.cells #[vv,iv (n:Int),iv ((ak.aY n (L.take k):Nat):Int),.map (some b1),.map (some b2)] 247 zZ)::(b2,.map #[] 0)::(b1,.map #[] 0)::(N++B),
  λvs _=>L.length-bN vs 0,JE.mk ⟨0,N,rfl,by omega,rfl⟩,?_⟩
 clear N;rintro w H ⟨k,N,⟨⟩,hk,rfl⟩ gs;refine ae.fy (Br.dec (λhlt=>?_) (λhlt=>?_))
 ·have hg:(L.map λws=>(⟨n,ws⟩:Tb))[k]? =some ⟨n,L[k]⟩:=by rw[xat,xaa hlt];rfl
  have pE:=hf L[k] (xaJ hlt);refine ht.ld hg zS λs hw=>?_;intro b3 _;refine St.p ?_ ?_
  ·have:=bQ hw;simpa[Value.oneCell']using this
  refine az.q ?_;refine aa.eq (B:=B) (uR (v:=.agg (List.toArray [iv (n:Int),s])) (t:=⟨n,L[k]⟩) ⟨s,rfl,hw⟩) ?_;rw[xad (show TF ⟨(n:Int),L[k]⟩from⟨by simp,by simpa using pE⟩)];apply Ext.two;simp only[xbd];have akC:2^n<=2^16:=xaw (n:=2) zD vY;have abV:ak.p7 n L[k]<2^n:=ak.nL n L[k] n;have hus:=ak.uM n (L.take k);apply Nil.ptr;refine ai.mk (Ld.mk zM rfl ?_);refine br.q (ae.Kj (by simp[bF];omega) (by simp[bF];omega) ?_);rw[<-EN hlt];refine Nil.ptr (ai.mk (St.one (c:=#[vv,iv (n:Int),iv ((ak.aY n (L.take k):Nat):Int),.map (some b1),.map (some b2)]) (c':=#[vv,iv (n:Int),iv ((ak.aY n (L.take (k+1)):Nat):Int),.map (some b1),.map (some b2)]) (by repeat (first|exact cZ.head _|apply cZ.tail|apply cZ.cq)) rfl zI rfl ?_));exact ae.inc (aC.of .tail ⟨k+1,N,rfl,by omega,rfl⟩ (by simp[bN];omega))
 have:k=L.length:=by omega
 subst this;rw[xa9];refine⟨_,_,rfl,aM.cons aM.swap,(by repeat (first|exact bZ.refl _|apply bZ.cons|apply bZ.app)),Or.inl ⟨hO,bp,b1,b2,n,L,N,rfl,λe=>absurd e hne,vY,hf,rfl,_,_,_,_,rfl,tu _ _⟩⟩
theorem QI{n:Nat}{c:Nat->Nat->Nat}{f a v:Nat}(hv:v∈ak.bO n a)(he:c a v+ak.B n c (ak.aB a v true)=ak.B n c a)(hm:∀u∈ak.bO n a,u<v->c a u+ak.B n c (ak.aB a u true)≠ak.B n c a):
    ak.ord n c (f+1) a=v::ak.ord n c f (ak.aB a v true):=by
  obtain⟨u,h1,h2,h3,h4⟩:=ak.vz (c:=c) (f:=f) (List.ne_nil_of_mem hv);rcases xcq u v with h|h|h
  · exact absurd h2 (hm u h1 h)
  · rw[h4,h]
  · exact absurd he (h3 v hv h)
theorem NG{xE:zV}{n:Nat}{L:List (zL)}{B:Hp}{bp bl bd a:Nat}(ha:a<4611686018427387904){H:Hp}(hp:nj bp bl bd xE n L 0 B H):
    Fc zQ 185 #[.pointer (some ⟨bp,0,none⟩),iv (a:Int)] H (λr H'=>r=iv 0/\H'=H):=by
  obtain⟨kC,jO,gP,iB,rfl,hM⟩:=hp;refine aF λg=>xu (Nil.ptr ?_);refine ai.mk (Ld.mk zM rfl ?_);refine ae.jD (b:=0) (by simp[bF];omega) (by simp[bF]) (Nil.ptr ?_);refine ai.mk (Ld.mk zM rfl ?_);exact ae.eL (b:=0) (Br.T (aN.here ⟨rfl,rfl⟩))
def adZ(ts:List Tb)(B:Hp)(r:zV)(H:Hp):Prop:=
  (¬rX ts/\r=.tuple #[iv 0,.slice none 0 0,iv 5])\/
  (rX ts/\∃(n:Nat) (L:List (zL)),ts=LW n L/\(L=[]->n=0)/\n<=16/\(∀ws∈L,ak.eE n ws)/\
    ((12<n/\r=.tuple #[iv 0,.slice none 0 0,iv 6])\/
     (n<=12/\∃(s:zV) (C N:Hp),r=.tuple #[iv ((ak.B n (ak.lvl n L) 0:Nat):Int),s,iv 0]/\aT 3 .i64 s (iw (ak.ord n (ak.lvl n L) n 0)) C/\H=C++(N++B))))
structure BSt(n:Nat)(c:Nat->Nat->Nat)(s:zV)(a:Nat)(l:zL)(C:Hp):Prop where
  own:aT 3 .i64 s (iw l) C
  lt:a<2^n
  len:(ak.bO n a).length+l.length=n
  pre:l++ak.ord n c (n-l.length) a=ak.ord n c n 0
theorem La{a v:Nat}:(a>>>v&&&1=0)↔a.testBit v=false:=by
  have:=xc9 (x:=a) (i:=v);rw[this,xbR,xa0];simp
theorem WQ{B:Hp}{v:zV}{ts:List Tb}(ht:jF B v ts)(cB:ts.length<33554432):Px zQ 117 #[v] B (adZ ts B):=by
  refine aF λg=>Ji (aa.pq (Nn ht zO) ?_);rintro r N0 (⟨hO,bp,bl,bd,n,L,N,rfl,hn0,vY,hf,rfl,hp⟩|⟨hO,rfl⟩)
  case inr=>exact Ext.mk rfl (Ext.mk rfl (ae.CJ (a:=5) (b:=0) (Br.dec (λ_=>GF.mk (by repeat (first|exact bZ.refl _|apply bZ.cons|apply bZ.app)) (.inl ⟨hO,rfl⟩)) (λh=>absurd zD h))))
  generalize N0++B=H2 at hp⊢;clear N0;rw[p5]at cB;have Pe:=hp;obtain⟨kC,jO,gP,iB,rfl,hM⟩:=hp;refine Ext.mk rfl (Ext.mk rfl (ae.CJ (a:=0) (b:=0) (Br.dec (λh=>absurd rfl h) (λ_=>?_))));apply Nil.ptr;refine ai.mk (Ld.mk zM rfl ?_);refine ae.nB (b:=12) (Br.dec (λNc=>GF.mk (by repeat (first|exact bZ.refl _|apply bZ.cons|apply bZ.app)) (.inr ⟨hO,n,L,rfl,hn0,vY,hf,.inl ⟨Nc,rfl⟩⟩)) (λNc=>?_));clear hM;have uf:n<=12:=by omega
  have hOK:L≠[]->wX v n L (N++B):=λhne=>⟨ht.mono zS,hf,hne,cB,uf⟩;have mT:2^n<=2^12:=xaw zD uf;have hm0:(ak.bO n 0).length=n:=by
    have:ak.bO n 0=List.range n:=by unfold ak.bO;rw[xct];simp
    rw[this,xaH]
  refine⟨λvs H=>∃(s:zV) (a:Nat) (l:zL) (C H1:Hp),vs=[s,iv (a:Int)]/\BSt n (ak.lvl n L) s a l C/\nj bp bl bd v n L (ak.aY n L) (N++B) H1/\H=C++H1,
    λvs _=>(ak.bO n (bN vs 1)).length,JE.mk ⟨_,0,[],[],_,rfl,⟨aT.nil,xbv n,by rw[hm0];rfl,by simp⟩,Pe,rfl⟩,?_⟩
  clear Pe kC jO gP iB;rintro w14 w15 H ⟨s,a,l,C,H1,⟨⟩,hb,hp,rfl⟩ gs;have Pe:=hp;obtain⟨kC,jO,gP,iB,rfl,hM⟩:=hp;refine hb.own.bX ?_;rw[au];apply Nil.ptr;refine ai.mk (Ld.mk zM rfl ?_);have XS:=hb.len;refine ae.fy (Br.dec (λhlt=>?_) (λhlt=>?_))
  · have afW:ak.bO n a≠[]:=by intro e;rw[e]at XS;simp at XS;omega
    have hne:L≠[]:=λe=>by have:=hn0 e;omega
    have yZ:=hOK hne;have hnf:n-l.length=n-l.length-1+1:=by omega
    apply Nil.ptr;refine ai.mk (Ld.mk zM rfl ?_);refine⟨λvs H=>∃(k:Nat) (H1:Hp),vs=[w14,iv (a:Int),iv (k:Int)]/\k<=n/\(∀u∈ak.bO n a,u<k->ak.lvl n L a u+ak.B n (ak.lvl n L) (ak.aB a u true)≠ak.B n (ak.lvl n L) a)/\nj bp bl bd v n L (ak.aY n L) (N++B) H1/\H=C++H1,
      λvs _=>n-bN vs 2,JE.mk ⟨0,_,rfl,by omega,λu _ h=>by omega,Pe,rfl⟩,?_⟩
    clear hM Pe;rintro w28 w29 w30 H ⟨k,H1,⟨⟩,hk,hmin,hp,rfl⟩ gs;refine ae.fy (Br.dec (λhlk=>?_) (λhlk=>?_))
    · intro J hJ
      have hpk:2^k<=2^12:=xaw zD zO;have hno:∀H1,¬(a.testBit k=false/\ak.lvl n L a k+ak.B n (ak.lvl n L) (ak.aB a k true)=ak.B n (ak.lvl n L) a)->nj bp bl bd v n L (ak.aY n L) (N++B) H1->J [.bool false] (C++H1):=λH1 hx hp=>hJ _ _ λgs=>by
        refine Br.no (ae.inc (aC.mk ⟨k+1,H1,rfl,by omega,λu hu hlu=>?_,hp,rfl⟩ (by rw[iN,iN,iN,iN];show n-(((k:Int)+1).toNat)<n-((k:Int).toNat);omega)));by_cases e:u=k
        · subst e;exact λh=>hx ⟨(ak.cN.1 hu).2,h⟩
        · exact hmin u hu zO
      refine DR.self ?_;have ale:a<4611686018427387904:=by have:=hb.lt;omega
      refine ae.iI (by simp[bF];omega) (ae.jD (b:=1) (by simp[bF];exact xaz (xbm _ _) zO) zD (ae.eL (b:=0) (Br.dec (λh0=>?_) (λh0=>JE.mk (hno H1 (λh=>h0 (La.2 h.1)) hp)))));have hak:=La.1 h0;refine ae.B9 (a:=1) (by simp[IntKind.bits];omega) (by rw[xa4];simp[bF];omega) ?_;rw[xa4];refine ae.Kj (by simp[bF];omega) (by simp[bF];omega) ?_;have WG:a|||2^k=ak.aB a k true:=rfl
      rw[WG];intro F;refine aa.fq (CG yZ hp hb.lt hlk hak) ?_;rintro r H2 ⟨rfl,mT⟩;intro F;refine aa.fq (r6 yZ _ (ak.aB a k true) (xai _) (ak.fX hb.lt hlk) H2 mT) ?_;rintro r H3 ⟨rfl,T0⟩;have hb1:=Fv yZ a k;have tG:=Lv yZ (ak.aB a k true);refine ae.fE λF=>(aa.fq (r6 yZ _ a (xai _) hb.lt H3 T0) ?_);rintro r H4 ⟨rfl,hp4⟩;refine ae.eL ?_;by_cases he:ak.lvl n L a k+ak.B n (ak.lvl n L) (ak.aB a k true)=ak.B n (ak.lvl n L) a
      · rw[xam he]
        have hmem:k∈ak.bO n a:=ak.cN.2 ⟨hlk,hak⟩;have VY:=QI (f:=n-l.length-1) hmem he hmin;have hml:=ak.gK hmem;refine aL.mk (JE.mk (hJ _ _ λgs=>Br.yes ?_));refine ax.int (e:=3) zK zK zK λxb=>?_;refine aT.app (A:=[_]) hb.own (by exact .head _) zP zP λv' C' ho=>?_;refine ae.B9 (a:=1) (by simp[IntKind.bits];omega) (by rw[xa4];simp[bF];omega) ?_;rw[xa4];refine ae.Kj (by simp[bF];omega) (by simp[bF];omega) ?_;rw[WG];refine aC.of .right ⟨v',ak.aB a k true,l++[k],C',H4,rfl,⟨by simpa[iw]using ho,ak.fX hb.lt hlk,by simp;omega,?_⟩,hp4,rfl⟩ (by rw[iN,iN];show(ak.bO n (ak.aB a k true)).length<(ak.bO n a).length;omega);have:=hb.pre;rw[hnf,VY]at this;rw[xaf,xcg,Nat.sub_add_eq,xak];exact this
      · rw[xal he]
        exact aL.mk (JE.mk (hno H4 (λh=>he h.2) hp4))
    · obtain⟨u,h1,h2,_⟩:=ak.vz (c:=ak.lvl n L) (f:=0) afW
      exact absurd h2 (hmin u h1 (by have:=(ak.cN.1 h1).1;omega))
  · have ni:l.length=n:=by omega
    have hl:l=ak.ord n (ak.lvl n L) n 0:=by
      have:=hb.pre;rw[ni,xc8]at this;simpa[ak.ord]using this
    have hown:=hb.own;rw[hl]at hown;by_cases hne:L=[]
    · have hn:=hn0 hne
      subst hne;subst hn;refine aa.fq (NG (a:=0) zO Pe) ?_;rintro r H3 ⟨rfl,rfl⟩;exact⟨_,_,rfl,.refl _,(by repeat (first|exact bZ.refl _|apply bZ.cons|apply bZ.app)),.inr ⟨hO,0,[],rfl,hn0,vY,hf,.inr ⟨uf,_,C,(_::_::_::N),rfl,hown,rfl⟩⟩⟩
    · refine aa.fq (r6 (hOK hne) _ 0 (xai _) (xbv n) _ Pe) ?_
      rintro r H3 ⟨rfl,po,qO,es4,ck4,rfl,ZT⟩;exact⟨_,_,rfl,.refl _,(by repeat (first|exact bZ.refl _|apply bZ.cons|apply bZ.app)),.inr ⟨hO,n,L,rfl,hn0,vY,hf,.inr ⟨uf,_,C,(_::_::_::N),rfl,hown,rfl⟩⟩⟩
end
end Go.Proofs
namespace Pu
abbrev It:=Int×Int
def prec(a b:It):Bool:=decide (a.2<b.2)||(a.2==b.2&&decide (a.1<b.1))
theorem vj{a b:It}:prec a b=true↔a.2<b.2\/a.2=b.2/\a.1<b.1:=by simp[prec]
theorem ij{a b:It}:prec a b=false↔¬(a.2<b.2\/a.2=b.2/\a.1<b.1):=by rw[<-vj];simp
theorem nT(a:It):prec a a=false:=by rw[ij];omega
theorem qo{a b:It}(h:prec a b=true):prec b a=false:=by rw[vj]at h;rw[ij];omega
theorem le_trans{a b c:It}(h1:prec b a=false)(h2:prec c b=false):prec c a=false:=by rw[ij]at*;omega
theorem Fy{a b c:It}(h1:prec a b=true)(h2:prec c b=false):prec c a=false:=by rw[vj]at h1;rw[ij]at*;omega
def g9(V:Nat->It)(i:Nat)(b:It):Nat->It:=λj=>if j=i then b else V j
def E(V:Nat->It)(j:Nat):Prop:=prec (V j) (V ((j-1) /2))=false
def zW(n:Nat)(V:Nat->It)(i:Nat):Prop:=
 (∀j,0<j->j<n->j≠i->(j-1) /2≠i->E V j)/\(∀j,0<j->j<n->(j-1) /2=i->0<i->prec (V j) (V ((i-1) /2))=false)
def pA(n:Nat)(V:Nat->It)(i:Nat):Prop:=∀j,0<j->j<n->(j-1) /2=i->E V j
def Xb(n:Nat)(V:Nat->It)(i:Nat):Prop:=
 (∀j,0<j->j<n->(j-1) /2≠i->E V j)/\(∀j,0<j->j<n->(j-1) /2=i->0<i->prec (V j) (V ((i-1) /2))=false)
def Ord(n:Nat)(V:Nat->It):Prop:=∀j,0<j->j<n->E V j
theorem Us{n i:Nat}{V:Nat->It}(hi:0<i)(hn:i<n)(h:zW n V i)(ha:prec (V i) (V ((i-1) /2))=true):
  zW n (g9 (g9 V i (V ((i-1) /2))) ((i-1) /2) (V i)) ((i-1) /2)/\pA n (g9 (g9 V i (V ((i-1) /2))) ((i-1) /2) (V i)) ((i-1) /2):=by
 obtain⟨h1,h2⟩:=h;have hq:(i-1) /2≠i:=by omega
 generalize hqd:(i-1) /2=q at*;have hqi:q<i:=by omega
 refine⟨⟨?_,?_⟩,?_⟩
 ·intro j j0 jn jq jp;unfold E g9;rw[xac jq,xac jp];by_cases e1:j=i
  ·exact absurd (by rw[e1,hqd]) jp
  rw[xac e1];by_cases e2:(j-1) /2=i
  ·rw[xad e2];exact h2 j j0 jn e2 hi
  rw[xac e2];exact h1 j j0 jn e1 e2
 ·intro j j0 jn jp q0;unfold g9;have hqq:(q-1) /2≠q:=by omega
  have afJ:(q-1) /2≠i:=by omega
  rw[xac hqq,xac afJ];have hjq:j≠q:=by omega
  rw[xac hjq];have VW:E V q:=h1 q q0 zO hq zO;by_cases e1:j=i
  ·rw[xad e1];exact VW
  rw[xac e1];have:=h1 j j0 jn e1 zO;unfold E at this VW;rw[jp]at this;exact le_trans VW this
 intro j j0 jn jp;unfold E g9;rw[jp,xad rfl];have hjq:j≠q:=by omega
 rw[xac hjq];by_cases e1:j=i
 ·rw[xad e1];exact qo ha
 rw[xac e1];have:=h1 j j0 jn e1 zO;unfold E at this;rw[jp]at this;exact Fy ha this
theorem Ut{n i:Nat}{V:Nat->It}(h:zW n V i)(ha:i=0\/prec (V i) (V ((i-1) /2))=false):Xb n V i:=by
 refine⟨λj j0 jn jp=>?_,h.2⟩;by_cases e:j=i
 ·subst e;rcases ha with ha|ha
  ·omega
  exact ha
 exact h.1 j j0 jn e jp
theorem zh{n i:Nat}{V:Nat->It}(h:Xb n V i)(hc:pA n V i):Ord n V:=λj j0 jn=>by
 by_cases e:(j-1) /2=i
 ·exact hc j j0 jn e
 exact h.1 j j0 jn e
def yU(n:Nat)(V:Nat->It)(i:Nat):Nat:=if(decide (2*i+1+1<n) &&prec (V (2*i+1+1)) (V (2*i+1)))=true then 2*i+1+1 else 2*i+1
theorem sF(n:Nat)(V:Nat->It)(i:Nat):yU n V i=2*i+1\/yU n V i=2*i+2/\2*i+2<n:=by
 unfold yU;split
 ·rename_i h;simp only[xaI,xaK]at h;right;omega
 left;rfl
theorem yT{n i j:Nat}{V:Nat->It}(j0:0<j)(jn:j<n)(jp:(j-1) /2=i):prec (V j) (V (yU n V i))=false:=by
 unfold yU;split
 ·rename_i h;simp only[xaI,xaK]at h;rcases(show j=2*i+1\/j=2*i+1+1 by omega)with rfl|rfl
  ·exact qo h.2
  exact nT _
 rename_i h;rcases(show j=2*i+1\/j=2*i+1+1 by omega)with rfl|rfl
 ·exact nT _
 cases hh:prec (V (2*i+1+1)) (V (2*i+1))
 ·rfl
 exact absurd (by simp[hh,jn]) h
theorem sW{n i:Nat}{V:Nat->It}(h:Xb n V i)(hk:yU n V i<n)(ha:prec (V (yU n V i)) (V i)=true):
  Xb n (g9 (g9 V i (V (yU n V i))) (yU n V i) (V i)) (yU n V i):=by
 have hl:∀j,0<j->j<n->(j-1) /2=i->prec (V j) (V (yU n V i))=false:=λj=>yT;have hkc:=sF n V i;generalize yU n V i=c at*;obtain⟨h1,h2⟩:=h;have hcp:(c-1) /2=i:=by omega
 have hc0:0<c:=by omega
 have pc:c≠i:=by omega
 refine⟨?_,?_⟩
 ·intro j j0 jn jp;unfold E g9;rw[xac jp];by_cases e1:j=c
  ·rw[xad e1,xad (by rw[e1];exact hcp)];exact qo ha
  rw[xac e1];by_cases e2:j=i
  ·rw[xad e2];have:(j-1) /2≠i:=by omega
   rw[xac this,e2];exact h2 c hc0 hk hcp zO
  rw[xac e2];by_cases e3:(j-1) /2=i
  ·rw[xad e3];exact hl j j0 jn e3
  rw[xac e3];exact h1 j j0 jn e3
 intro j j0 jn jp _;unfold g9;rw[hcp];have:j≠c:=by omega
 have e2:j≠i:=by omega
 rw[xac this,xac e2,xac (λe=>pc e.symm),xad rfl];have:=h1 j j0 jn zO;unfold E at this;rwa [jp]at this
theorem Ns{n i:Nat}{V:Nat->It}(h:Xb n V i)(ha:n<=yU n V i\/prec (V (yU n V i)) (V i)=false):Ord n V:=by
 refine zh h λj j0 jn jp=>?_;have hl:=yT (V:=V) j0 jn jp;rcases ha with ha|ha
 ·rcases sF n V i with h|h<;>omega
 unfold E;rw[jp];exact le_trans ha hl
theorem Ve{n:Nat}{V:Nat->It}(h:Ord n V):∀j,j<n->prec (V j) (V 0)=false:=by
 intro j;induction j using Nat.strongRecOn with
 |_ j ih=>
  intro jn;by_cases j0:j=0
  ·subst j0;exact nT _
  exact le_trans (ih ((j-1) /2) zO zO) (h j zO jn)
def bc(l:List It)(j:Nat):It:=l.getD j (0,0)
theorem WU{l:List It}{j:Nat}(h:j<l.length):l[j]? =some (bc l j):=by simp[bc,List.getD,h]
theorem gW{l:List It}{i:Nat}(b:It)(h:i<l.length):bc (l.set i b)=g9 (bc l) i b:=by
 funext j
 unfold bc g9;simp only[List.getD,xbo];by_cases e:i=j
 ·subst e;simp[h]
 rw[xac e,xac (λx=>e x.symm)]
theorem qg{l:List It}{i:Nat}(h:i<l.length):l.set i (bc l i)=l:=by
 apply xbc;intro j;rw[xbo];by_cases e:i=j
 ·subst e;simp[h,bc,List.getD]
 simp[e]
theorem swap_perm{l:List It}{i q:Nat}(hi:i<l.length)(hq:q<l.length)(hne:q≠i):((l.set i (bc l q)).set q (bc l i)).Perm l:=by
 rw[xcu];intro x;have g1:l[i]=bc l i:=by simp[bc,List.getD,hi]
 have g2:l[q]=bc l q:=by simp[bc,List.getD,hq]
 have g3:(l.set i (bc l q))[q]'(by simp[hq])=bc l q:=by rw[List.getElem_set_ne (λe=>hne e.symm)];exact g2
 rw[xdQ (by simp[hq]),xdQ hi,g1,g3];have hc:bc l i=x->0<l.count x:=λe=>by rw[xbL,<-e,<-g1];exact xaJ hi
 by_cases e1:bc l i=x
 ·have:=hc e1;by_cases e2:bc l q=x<;>simp[e1,e2]<;>omega
 by_cases e2:bc l q=x<;>simp[e1,e2]
def j7(l:List It):Prop:=(l.map Prod.fst).Nodup
theorem j7.perm{l l':List It}(h:j7 l)(p:l'.Perm l):j7 l':=(p.map _).nodup_iff.2 h
theorem j7.inj{l:List It}(h:j7 l){i j:Nat}(hi:i<l.length)(hj:j<l.length)(e:(bc l i).1=(bc l j).1):i=j:=by
 unfold j7 at h;have hp:=List.pairwise_iff_getElem.1 h;have g:∀k (hk:k<l.length),(l.map Prod.fst)[k]'(by simpa using hk)=(bc l k).1:=λk hk=>by simp[bc,List.getD,hk]
 rcases xcq i j with hlt|rfl|hlt
 ·have:=hp i j (by simpa using hi) (by simpa using hj) hlt;rw[g i hi,g j hj]at this;exact absurd e this
 ·rfl
 have:=hp j i (by simpa using hj) (by simpa using hi) hlt;rw[g i hi,g j hj]at this;exact absurd e.symm this
theorem iq{l:List It}{x:Int}:x∈l.map Prod.fst↔∃j,j<l.length/\(bc l j).1=x:=by
 rw[xba];constructor
 ·rintro⟨j,hj,e⟩;have hj':j<l.length:=by simpa using hj
  exact⟨j,hj',by simpa[bc,List.getD,hj']using e⟩
 rintro⟨j,hj,e⟩;exact⟨j,by simpa using hj,by simpa[bc,List.getD,hj]using e⟩
def Ep(f:Int->Option Nat)(x:Int)(p:Option Nat):Int->Option Nat:=λy=>if y=x then p else f y
def nr(l:List It)(f:Int->Option Nat)(i:Nat):Prop:=(∀j,j<l.length->j≠i->f (bc l j).1=some j)/\∀x,x∉l.map Prod.fst->f x=none
def Cons(l:List It)(f:Int->Option Nat):Prop:=(∀j,j<l.length->f (bc l j).1=some j)/\∀x,x∉l.map Prod.fst->f x=none
theorem nr.done{l:List It}{f:Int->Option Nat}{i:Nat}(h:nr l f i)(ho:j7 l)(hi:i<l.length):Cons l (Ep f (bc l i).1 (some i)):=by
 refine⟨λj hj=>?_,λx hx=>?_⟩
 ·unfold Ep;by_cases e:(bc l j).1=(bc l i).1
  ·rw[xad e,ho.inj hj hi e]
  rw[xac e];exact h.1 j hj (λe2=>e (by rw[e2]))
 unfold Ep;rw[xac (λe=>hx (iq.2 ⟨i,hi,e.symm⟩))];exact h.2 x hx
theorem nr.step{l:List It}{f:Int->Option Nat}{i q:Nat}(h:nr l f i)(ho:j7 l)(hi:i<l.length)(hq:q<l.length)(hne:q≠i):
  nr ((l.set i (bc l q)).set q (bc l i)) (Ep f (bc l q).1 (some i)) q:=by
 have BG:∀j,bc ((l.set i (bc l q)).set q (bc l i)) j=g9 (g9 (bc l) i (bc l q)) q (bc l i) j:=λj=>by rw[gW _ (by simpa using hq),gW _ hi]
 refine⟨λj hj hjq=>?_,λx hx=>?_⟩
 ·rw[BG];simp only[xbQ]at hj;unfold g9 Ep;rw[xac hjq];by_cases e:j=i
  ·rw[xad e,xad rfl,e]
  rw[xac e];rw[xac (λe2=>hjq (ho.inj hj hq e2))];exact h.1 j hj e
 have hx':x∉l.map Prod.fst:=λhm=>hx (by
  have:=(swap_perm hi hq hne).map Prod.fst;exact this.mem_iff.2 hm)
 unfold Ep;rw[xac (λe=>hx' (iq.2 ⟨q,hq,e.symm⟩))];exact h.2 x hx'
end Pu
namespace Pu
open Go Go.Sx
def enc(kd:IntKind)(a:It):List zV:=[.int kd a.1,.int .i64 a.2]
def eM(kd:IntKind)(l:List It):List (List zV):=l.map (enc kd)
theorem cP(kd:IntKind)(l:List It):(eM kd l).length=l.length:=by simp[eM]
theorem Nm(kd:IntKind)(l:List It):∀r∈eM kd l,r.length=2:=λr hr=>by
 obtain⟨a,_,rfl⟩:=xan.1 hr;rfl
theorem fT{kd:IntKind}{l:List It}{i:Nat}(h:i<l.length)(aH:List (List zV)):(eM kd l++aH)[i]? =some (enc kd (bc l i)):=by
 rw[xaY (by rw[cP];exact h),eM,xat,WU h];rfl
theorem SG{kd:IntKind}{l:List It}{i:Nat}(h:i<l.length)(a:It)(aH:List (List zV)):(eM kd l++aH).set i (enc kd a)=eM kd (l.set i a)++aH:=by
 rw[xc1 _ _ (by rw[cP];exact h),eM,eM,xcT]
def idx(i:Nat):zV:=.int .i64 (i:Int)
def HO(kd:IntKind)(TI TH:TypeId)(h:zV)(l:List It)(f:Int->Option Nat)(C:Hp):Prop:=
 ∃bh sv mv Cs Cm,h=.pointer (some ⟨bh,0,none⟩)/\C=(bh,Obj.cells #[sv,mv] TH (0,0))::(Cs++Cm)/\aU TI 2 sv (eM kd l) Cs/\lf kd idx mv f Cm/\(mv=.map none->l=[])
theorem HO.open{kd:IntKind}{TI TH:TypeId}{h:zV}{l:List It}{f:Int->Option Nat}{C:Hp}(H:HO kd TI TH h l f C)(hp:0<l.length):
  ∃bh la mb aH Cm,h=.pointer (some ⟨bh,0,none⟩)/\
   C=(bh,Obj.cells #[.slice (some ⟨la,0,none⟩) l.length (l.length+aH.length),.map (some mb)] TH (0,0))::(la,.cells (rows (eM kd l++aH)) TI (0,0))::Cm/\
   (∀r∈eM kd l++aH,r.length=2)/\lf kd idx (.map (some mb)) f Cm:=by
 obtain⟨bh,sv,mv,Cs,Cm,rfl,rfl,hs,hm,hne⟩:=H;obtain⟨la,aH,rfl,rfl,aG⟩:=hs.pos (by rw[cP];exact hp);rw[cP];rcases hm with⟨rfl,_⟩|⟨mb,m,ck,rfl,h2⟩
 ·rw[hne rfl]at hp;simp at hp
 exact⟨bh,la,mb,aH,Cm,rfl,rfl,aG,.inr ⟨mb,m,ck,rfl,h2⟩⟩
theorem HO.shut{kd:IntKind}{TI TH:TypeId}{bh la mb n c:Nat}{aH:List (List zV)}{Cm:Hp}{l:List It}{f:Int->Option Nat}(aG:∀r∈eM kd l++aH,r.length=2)(hn:n=l.length)(hc:c=l.length+aH.length)
 (hm:lf kd idx (.map (some mb)) f Cm):
  HO kd TI TH (.pointer (some ⟨bh,0,none⟩)) l f ((bh,Obj.cells #[.slice (some ⟨la,0,none⟩) n c,.map (some mb)] TH (0,0))::(la,.cells (rows (eM kd l++aH)) TI (0,0))::Cm):=
 ⟨bh,_,_,[_],Cm,rfl,rfl,aU.mk' aG (by rw[cP];exact hn) (by rw[cP];exact hc),hm,λh=>by simp at h⟩
theorem Qp{l aH:List (List zV)}(h:∀r∈l++aH,r.length=2)(kd:IntKind)(l':List It):∀r∈eM kd l'++aH,r.length=2:=λr hr=>by
 rcases xao.1 hr with hr|hr
 ·exact Nm kd l' r hr
 exact h r (by simp[hr])
theorem pw(kd:IntKind)(a:It):∀v∈enc kd a,v.oneCell'=true:=by simp[enc,Value.oneCell']
end Pu
namespace Pu
open Go Go.Sx
theorem YB(j:Nat)(h:0<j):((j-1:Nat):Int).tdiv 2=(((j-1) /2:Nat):Int):=by
 rw[Int.tdiv_eq_ediv_of_nonneg zO];omega
theorem uX{l:List It}{i q:Nat}(a:It)(hi:i<l.length)(hq:q<l.length)(hne:q≠i):((l.set i a).set i (bc (l.set i a) q)).set q (bc (l.set i a) i)=(l.set i (bc l q)).set q a:=by
 rw[gW a hi,List.set_set];simp[g9,hne]
def HI(kd:IntKind)(TI TH:TypeId)(h:zV)(l:List It)(C:Hp):Prop:=∃f,HO kd TI TH h l f C/\Cons l f/\Ord l.length (bc l)/\j7 l
theorem Gx{l:List It}{a:It}{j:Nat}(h:j<l.length):bc (l++[a]) j=bc l j:=by simp[bc,List.getD,xaY h]
theorem Qu{l:List It}{f:Int->Option Nat}{a:It}(hc:Cons l f)(ho:Ord l.length (bc l))(h1:j7 l)(hx:a.1∉l.map Prod.fst):
  zW (l++[a]).length (bc (l++[a])) l.length/\nr (l++[a]) f l.length/\j7 (l++[a])/\pA (l++[a]).length (bc (l++[a])) l.length:=by
 simp only[xaf,xay,xca,xa2];refine⟨⟨λj j0 jn jne jp=>?_,λj j0 jn jp=>by omega⟩,⟨λj jn jne=>?_,λx hx'=>?_⟩,?_,λj j0 jn jp=>by omega⟩
 ·unfold E;rw[Gx zO,Gx zO];exact ho j j0 zO
 ·simp only[xaf,xay,xca]at jn;rw[Gx zO];exact hc.1 j zO
 ·exact hc.2 x (λh=>hx' (by rw[xaA,xao];exact .inl h))
 unfold j7 at*;rw[xaA,xa3];exact⟨h1,by simp,λa' dM b hb=>by simp at hb;subst hb;intro e;subst e;exact hx dM⟩
theorem SS{l:List It}{f:Int->Option Nat}(hc:Cons l f){x:Int}:(x∉l.map Prod.fst/\f x=none)\/∃i,i<l.length/\(bc l i).1=x/\f x=some i:=by
 by_cases h:x∈l.map Prod.fst
 ·obtain⟨j,hj,e⟩:=iq.1 h;exact .inr ⟨j,hj,e,by rw[<-e];exact hc.1 j hj⟩
 exact .inl ⟨h,hc.2 x h⟩
theorem U7{l:List It}{f:Int->Option Nat}(hc:Cons l f)(ho:Ord l.length (bc l))(h1:j7 l){n:Nat}(hn:l.length=n+1):
  let l':=l.take n
  ((0<n->(bc l n)::(l'.set 0 (bc l n)).tail=l'.set 0 (bc l n)/\(bc l 0::l'.set 0 (bc l n)).Perm l/\Xb n (bc (l'.set 0 (bc l n))) 0/\j7 (l'.set 0 (bc l n))/\
   nr (l'.set 0 (bc l n)) (Ep f (bc l 0).1 none) 0)):=by
 intro l' hn0;have hl':l'.length=n:=by simp[l',hn]
 have dD:(bc l 0::l'.set 0 (bc l n)).Perm l:=by
  rw[xcu];intro x;have e:l=l'++[bc l n]:=by
   have:l=l.take n++l.drop n:=(xbq n l).symm;have h2:l.drop n=[bc l n]:=by
    rw[xbr zO,xdk zO];simp[hn,bc,List.getD]
   rw[h2]at this;exact this
  have g0:l'[0]' zO=bc l 0:=by simp[l',bc,List.getD,hn]
  conv=>rhs;rw[e]
  rw[xb2,xdQ zO,g0,xbe];have hc0:bc l 0=x->0<l'.count x:=λe=>by rw[xbL,<-e,<-g0];exact xaJ _
  by_cases e1:bc l 0=x
  ·have:=hc0 e1;by_cases e2:bc l n=x<;>simp[e1,e2]<;>omega
  by_cases e2:bc l n=x<;>simp[e1,e2]
 have BG:∀j,j<n->j≠0->bc (l'.set 0 (bc l n)) j=bc l j:=λj hj h0=>by
  rw[gW _ zO];simp[g9,h0,l',bc,List.getD,hj]
 have hO:j7 (l'.set 0 (bc l n)):=by
  have:=(h1.perm dD:j7 _);unfold j7 at this⊢;simp only[xaC,xaX]at this;exact this.2
 refine⟨?_,dD,⟨λj j0 jn jp=>?_,λj j0 jn jp h=>by omega⟩,hO,λj hj Zz=>?_,λx hx=>?_⟩
 ·cases hh:l' with
  |nil=>rw[hh]at hl';simp at hl';omega
  |cons a r=>simp
 ·unfold E;rw[BG j jn zO,BG _ zO jp];exact ho j j0 zO
 ·simp only[xbQ,hl']at hj;rw[BG j hj Zz];unfold Ep;rw[xac (λe=>Zz (h1.inj zO zO e))];exact hc.1 j zO
 unfold Ep;by_cases e:x=(bc l 0).1
 ·rw[xad e]
 rw[xac e];refine hc.2 x λhm=>hx ?_;have:=(dD.map Prod.fst).mem_iff.2 hm;simp only[xaC,xaj]at this;rcases this with h|h
 ·exact absurd h e
 exact h
end Pu
set_option maxRecDepth 100000
namespace Go.Proofs
open Go Go.Sx
section
open Pu
abbrev Ui:=HO .i64 295 293
abbrev W9:=HI .i64 295 293
theorem wU(a b:It)(B:Hp):Rd zQ 265 #[.agg #[iv a.1,iv a.2],.agg #[iv b.1,iv b.2]] B (· =.bool (prec a b)):=by
 refine aF λg=>G0 λb1 _ b2 _=>?_
 (repeat (first|apply ai.mk|refine Ld.mk (by repeat (first|exact List.Mem.head _|apply List.Mem.tail|apply xab)) rfl ?_|apply ae.eql|apply ae.geq))
 refine c6.or (a.2==b.2&&decide (a.1<b.1)) (λ_=>?_) rfl λ_=>bg.mk (.skip .tail) rfl
 (repeat (first|apply ai.mk|refine Ld.mk (by repeat (first|exact List.Mem.head _|apply List.Mem.tail|apply xab)) rfl ?_|apply ae.eql|apply ae.geq))
 refine c6.and (decide (a.1<b.1)) (λ_=>?_) rfl λ_=>⟨rfl,rfl⟩
 (repeat (first|apply ai.mk|refine Ld.mk (by repeat (first|exact List.Mem.head _|apply List.Mem.tail|apply xab)) rfl ?_|apply ae.eql|apply ae.geq))
 exact⟨rfl,rfl⟩
theorem rF{h:zV}{l:List It}{f:Int->Option Nat}{C:Hp}(ho:Ui h l f C){i:Nat}(hi:i<l.length)(a:It):
  Fc zQ 226 #[h,iv (i:Int),.agg #[iv a.1,iv a.2]] C (λv C'=>v=.tuple #[]/\Ui h (l.set i a) (Ep f a.1 (some i)) C'):=by
 obtain⟨bh,la,mb,aH,Cm,rfl,rfl,aG,hm⟩:=ho.open zO;refine aF λg=>HG λb1 _=>?_;refine DR.self ?_
 (repeat (first|apply Nil.ptr|apply ai.mk|refine Ld.mk (by repeat (first|exact List.Mem.head _|apply List.Mem.tail|apply xab)) rfl ?_))
 refine az.whole (r:=enc .i64 a) zM rfl ?_;refine av.nat hi ?_;refine St.row (l:=eM .i64 l++aH) (by repeat (first|exact cZ.head _|apply cZ.tail|apply cZ.cq)) aG (by rw[xaf,cP];omega) rfl (pw _ _) ?_;refine DR.self ?_
 (repeat (first|apply Nil.ptr|apply ai.mk|refine Ld.mk (by repeat (first|exact List.Mem.head _|apply List.Mem.tail|apply xab)) rfl ?_))
 rw[<-xaL Cm];refine lf.bK (p:=i) (A:=[_,_,_]) (B:=[]) hm λC' hm'=>?_;refine⟨_,_,rfl,.tail,rfl,?_⟩;rw[SG hi,xaL];exact .shut (Qp aG _ _) zI zI hm'
theorem Zd{h:zV}{l:List It}{f:Int->Option Nat}{C:Hp}(ho:Ui h l f C){i:Nat}(hi:i<l.length)(cB:l.length<4611686018427387904)(hu:zW l.length (bc l) i)(hc:nr l f i)(hO:j7 l):
  Fc zQ 225 #[h,iv (i:Int)] C (λv C'=>v=.tuple #[]/\∃l' f' p,Ui h l' f' C'/\l'.Perm l/\Cons l' f'/\Xb l'.length (bc l') p/\p<l'.length/\bc l' p=bc l i/\
   (pA l.length (bc l) i->Ord l'.length (bc l'))):=by
 obtain⟨bh,la,mb,aH,Cm,rfl,rfl,aG,hm⟩:=ho.open zO;obtain⟨n,hn⟩:∃n,n=l.length:=⟨_,rfl⟩;obtain⟨a,ha⟩:∃a,a=bc l i:=⟨_,rfl⟩;refine aF λg=>HH ?_
 (repeat (first|apply Nil.ptr|apply ai.mk|refine Ld.mk (by repeat (first|exact List.Mem.head _|apply List.Mem.tail|apply xab)) rfl ?_))
 refine av.nat hi ?_;refine az.row (l:=eM .i64 l++aH) zM aG (fT hi aH) ?_;intro b6 _;refine St.p (pw _ _) ?_;rw[<-ha];refine⟨λvs H=>∃(j:Nat) (L:List It) (f:Int->Option Nat) (C:Hp),vs=[iv (j:Int)]/\H=(b6,Obj.cells (enc .i64 a).toArray 295 zZ)::C/\Ui (.pointer (some ⟨bh,0,none⟩)) L f C/\L.length=n/\j<n/\
   (L.set j a).Perm l/\zW n (bc (L.set j a)) j/\nr (L.set j a) f j/\(pA n (bc l) i->pA n (bc (L.set j a)) j),
  λvs _=>bN vs 0,.mk ⟨i,l,f,_,rfl,rfl,ho,hn.symm,by omega,?_,?_,?_,?_⟩,?_⟩
 ·exact(by rw[ha,qg hi])
 ·rw[ha,qg hi,hn];exact hu
 ·rw[ha,qg hi];exact hc
 ·rw[ha,qg hi];exact id
 rintro w H ⟨j,L,f,C,hw,rfl,ho,hLn,hj,hp,hu,hc,kx⟩ gs;simp only[xav,xaW]at hw;subst hw;have ho0:=ho;obtain⟨bh',la,mb,aH,Cm,hbh,rfl,aG,hm⟩:=ho.open zO;simp only[Value.pointer.injEq,xar,Addr.mk.injEq,xaW]at hbh;subst hbh;have hOV:j7 (L.set j a):=hO.perm hp;have hlV:(L.set j a).length=n:=by simp[hLn]
 have XW:bc (L.set j a) j=a:=by rw[gW a zO];simp[g9]
 have hVq:0<j->bc (L.set j a) ((j-1) /2)=bc L ((j-1) /2):=λh0=>by rw[gW a zO];simp[g9,show¬((j-1) /2=j)from by omega]
 intro J hJ;have hend:¬(0<j/\prec a (bc L ((j-1) /2))=true)->J [.bool false] ((b6,Obj.cells (enc .i64 a).toArray 295 zZ)::(bh,Obj.cells #[.slice (some ⟨la,0,none⟩) L.length (L.length+aH.length),.map (some mb)] 293 zZ)::(la,.cells (rows (eM .i64 L++aH)) 295 zZ)::Cm):=λhno=>hJ _ _ λgs=>by
  refine Br.no (az.q ?_);refine aa.fq (rF ho0 (i:=j) zO a) ?_;rintro v C' ⟨rfl,cC⟩;have hd:=hc.done hOV zO;rw[XW]at hd;have hex:=Ut hu (by
   by_cases h0:j=0
   ·exact .inl h0
   right;rw[XW,hVq zO];cases h:prec a (bc L ((j-1) /2))
   ·rfl
   exact absurd ⟨by omega,h⟩ hno)
  rw[<-hlV]at hex;exact⟨_,_,rfl,.tail,rfl,_,_,j,cC,hp,hd,hex,by omega,by rw[XW,ha],λhk=>zh hex (by rw[hlV];exact kx (by rw[hn];exact hk))⟩
 refine DR.self (ae.gtr (Br.dec (λh0=>?_) (λh0=>JE.mk (hend (λh=>h0 zO)))));have h0:0<j:=by omega
 refine az.q ?_
 (repeat (first|apply Nil.ptr|apply ai.mk|refine Ld.mk (by repeat (first|exact List.Mem.head _|apply List.Mem.tail|apply xab)) rfl ?_))
 refine ae.lH (c:=((j-1:Nat):Int)) zO zO (ae.Qs zD (YB j h0) zO (av.nat zO ?_));refine az.row (l:=eM .i64 L++aH) zM aG (fT zO aH) ?_;intro F;refine aa.eq (wU a _ _) (⟨.refl _,?_⟩);cases XI:prec a (bc L ((j-1) /2))with
 |false=>exact aL.mk (JE.mk (hend (λh=>by rw[XI]at h;exact absurd h.2 zD)))
 |true=>
 refine aL.mk (JE.mk (hJ _ _ λgs=>Br.yes ?_))
 (repeat (first|apply Nil.ptr|apply ai.mk|refine Ld.mk (by repeat (first|exact List.Mem.head _|apply List.Mem.tail|apply xab)) rfl ?_))
 refine ae.lH (c:=((j-1:Nat):Int)) zO zO (ae.Qs zD (YB j h0) zO (av.nat zO ?_));refine az.row (l:=eM .i64 L++aH) zM aG (fT zO aH) ?_;refine aa.fq (rF ho0 (i:=j) zO (bc L ((j-1) /2))) ?_;rintro v C' ⟨rfl,cC⟩;refine ae.lH (c:=((j-1:Nat):Int)) zO zO (ae.Qs zD (YB j h0) zO ?_);have hst:=Us h0 (by rw[<-hlV]at hj;rw[hlV]at hj;exact hj) hu (by rw[XW,hVq h0];exact XI);have hcs:=hc.step hOV (i:=j) (q:=(j-1) /2) zO zO zO;have hpp:=(swap_perm (l:=L.set j a) (i:=j) (q:=(j-1) /2) zO zO zO).trans hp;have ZM:(L.set j (bc L ((j-1) /2))).set ((j-1) /2) a=((L.set j a).set j (bc (L.set j a) ((j-1) /2))).set ((j-1) /2) (bc (L.set j a) j):=(uX a zO zO zO).symm;have BG:bc ((L.set j (bc L ((j-1) /2))).set ((j-1) /2) a)=g9 (g9 (bc (L.set j a)) j (bc (L.set j a) ((j-1) /2))) ((j-1) /2) (bc (L.set j a) j):=by
  rw[ZM,gW _ zP,gW _ zO]
 refine aC.mk ⟨(j-1) /2,_,_,C',rfl,rfl,cC,by simp[hLn],by omega,?_,?_,?_,λ_=>?_⟩ ?_
 ·rw[ZM];exact hpp
 ·rw[BG];exact hst.1
 ·rw[ZM];rw[hVq h0]at hcs⊢;exact hcs
 ·rw[BG];exact hst.2
 simp only[bN,xbd];omega
end
section
open Pu
theorem RX{h:zV}{l:List It}{f:Int->Option Nat}{C:Hp}(ho:Ui h l f C){i:Nat}(hi:i<l.length)(cB:l.length<4611686018427387904)(hu:Xb l.length (bc l) i)(hc:nr l f i)(hO:j7 l):
  Fc zQ 227 #[h,iv (i:Int)] C (λv C'=>v=.tuple #[]/\∃l' f',Ui h l' f' C'/\l'.Perm l/\Cons l' f'/\Ord l'.length (bc l')):=by
 obtain⟨bh,la,mb,aH,Cm,rfl,rfl,aG,hm⟩:=ho.open zO;obtain⟨n,hn⟩:∃n,n=l.length:=⟨_,rfl⟩;obtain⟨a,ha⟩:∃a,a=bc l i:=⟨_,rfl⟩;refine aF λg=>HE ?_
 (repeat (first|apply Nil.ptr|apply ai.mk|refine Ld.mk (by repeat (first|exact List.Mem.head _|apply List.Mem.tail|apply xab)) rfl ?_|apply aR.mk|apply ae.geq))
 refine av.nat hi ?_;refine az.row (l:=eM .i64 l++aH) zM aG (fT hi aH) ?_;intro b6 _;refine St.p (pw _ _) ?_;rw[<-ha];refine⟨λvs H=>∃(j:Nat) (L:List It) (f:Int->Option Nat) (C:Hp),vs=[iv (j:Int)]/\H=(b6,Obj.cells (enc .i64 a).toArray 295 zZ)::C/\Ui (.pointer (some ⟨bh,0,none⟩)) L f C/\L.length=n/\j<n/\
   (L.set j a).Perm l/\Xb n (bc (L.set j a)) j/\nr (L.set j a) f j,
  λvs _=>n-bN vs 0,.mk ⟨i,l,f,_,rfl,rfl,ho,hn.symm,by omega,?_,?_,?_⟩,?_⟩
 ·exact(by rw[ha,qg hi])
 ·rw[ha,qg hi,hn];exact hu
 ·rw[ha,qg hi];exact hc
 rintro w H ⟨j,L,f,C,hw,rfl,ho,hLn,hj,hp,hu,hc⟩ gs;simp only[xav,xaW]at hw;subst hw;have ho0:=ho;obtain⟨bh',la,mb,aH,Cm,hbh,rfl,aG,hm⟩:=ho.open zO;simp only[Value.pointer.injEq,xar,Addr.mk.injEq,xaW]at hbh;subst hbh;have hOV:j7 (L.set j a):=hO.perm hp;have hlV:(L.set j a).length=n:=by simp[hLn]
 have XW:bc (L.set j a) j=a:=by rw[gW a zO];simp[g9]
 have hVL:∀c,c≠j->bc (L.set j a) c=bc L c:=λc h0=>by rw[gW a zO];simp[g9,h0]
 refine ae.abz (c:=((2*j:Nat):Int)) zO zO (ae.Ee (c:=((2*j+1:Nat):Int)) zO zO λJ hJ=>?_);obtain⟨c,hcd⟩:∃c,c=yU n (bc (L.set j a)) j:=⟨_,rfl⟩;have hkc:=sF n (bc (L.set j a)) j;rw[<-hcd]at hkc;have jg:J [iv (c:Int)] ((b6,Obj.cells (enc .i64 a).toArray 295 zZ)::(bh,Obj.cells #[.slice (some ⟨la,0,none⟩) L.length (L.length+aH.length),.map (some mb)] 293 zZ)::(la,.cells (rows (eM .i64 L++aH)) 295 zZ)::Cm):=by
  refine hJ _ _ λgs2=>?_;intro J2 BJ;have hstop:n<=c\/prec (bc L c) a=false->J2 [.bool true] ((b6,Obj.cells (enc .i64 a).toArray 295 zZ)::(bh,Obj.cells #[.slice (some ⟨la,0,none⟩) L.length (L.length+aH.length),.map (some mb)] 293 zZ)::(la,.cells (rows (eM .i64 L++aH)) 295 zZ)::Cm):=λhst=>BJ _ _ λgs=>by
   refine Br.yes (az.q ?_);refine aa.fq (rF ho0 (i:=j) zO a) ?_;rintro v C' ⟨rfl,cC⟩;have hd:=hc.done hOV zO;rw[XW]at hd;have hex:=Ns hu (by
    rw[<-hcd];by_cases h0:n<=c
    ·exact .inl h0
    right;rw[XW,hVL c zO];rcases hst with h|h
    ·omega
    exact h)
   rw[<-hlV]at hex;exact⟨_,_,rfl,.tail,rfl,_,_,cC,hp,hd,hex⟩
  refine DR.self ?_
  (repeat (first|apply Nil.ptr|apply ai.mk|refine Ld.mk (by repeat (first|exact List.Mem.head _|apply List.Mem.tail|apply xab)) rfl ?_|apply aR.mk|apply ae.geq))
  refine Br.dec (λh0=>JE.mk (hstop (.inl zO))) (λh0=>?_);have h0:c<n:=by omega
  (repeat (first|apply Nil.ptr|apply ai.mk|refine Ld.mk (by repeat (first|exact List.Mem.head _|apply List.Mem.tail|apply xab)) rfl ?_|apply aR.mk|apply ae.geq))
  refine av.nat zO ?_;refine az.row (l:=eM .i64 L++aH) zM aG (fT zO aH) ?_;refine az.q ?_;intro F;refine aa.eq (wU _ a _) (⟨.refl _,Un.not ?_⟩);cases XI:prec (bc L c) a with
  |false=>exact aL.mk (JE.mk (hstop (.inr XI)))
  |true=>
  refine aL.mk (JE.mk (BJ _ _ λgs=>Br.no ?_))
  (repeat (first|apply Nil.ptr|apply ai.mk|refine Ld.mk (by repeat (first|exact List.Mem.head _|apply List.Mem.tail|apply xab)) rfl ?_|apply aR.mk|apply ae.geq))
  refine av.nat zO ?_;refine az.row (l:=eM .i64 L++aH) zM aG (fT zO aH) ?_;refine aa.fq (rF ho0 (i:=j) zO (bc L c)) ?_;rintro v C' ⟨rfl,cC⟩;have hcj:c≠j:=by omega
  have hst:=sW hu (by rw[<-hcd];exact h0) (by rw[<-hcd,XW,hVL c hcj];exact XI);rw[<-hcd]at hst;have hcs:=hc.step hOV (i:=j) (q:=c) zO zO hcj;have hpp:=(swap_perm (l:=L.set j a) (i:=j) (q:=c) zO zO hcj).trans hp;have ZM:(L.set j (bc L c)).set c a=((L.set j a).set j (bc (L.set j a) c)).set c (bc (L.set j a) j):=(uX a zO zO hcj).symm;have BG:bc ((L.set j (bc L c)).set c a)=g9 (g9 (bc (L.set j a)) j (bc (L.set j a) c)) c (bc (L.set j a) j):=by
   rw[ZM,gW _ zP,gW _ zO]
  refine aC.mk ⟨c,_,_,C',rfl,rfl,cC,by simp[hLn],by omega,?_,?_,?_⟩ ?_
  ·rw[ZM];exact hpp
  ·rw[BG];exact hst
  ·rw[ZM];rw[hVL c hcj]at hcs⊢;exact hcs
  simp only[bN,xbd];omega
 intro J3 hJ3;have hkd:yU n (bc (L.set j a)) j=if(decide (2*j+1+1<n) &&prec (bc L (2*j+1+1)) (bc L (2*j+1)))=true then 2*j+1+1 else 2*j+1:=by
  unfold yU;rw[hVL _ zO,hVL _ zO]
 rw[hkd]at hcd;have hno:¬(2*j+1+1<n/\prec (bc L (2*j+1+1)) (bc L (2*j+1))=true)->J3 [.bool false] ((b6,Obj.cells (enc .i64 a).toArray 295 zZ)::(bh,Obj.cells #[.slice (some ⟨la,0,none⟩) L.length (L.length+aH.length),.map (some mb)] 293 zZ)::(la,.cells (rows (eM .i64 L++aH)) 295 zZ)::Cm):=λhx=>hJ3 _ _ λgs=>by
  rw[xac (by simpa using hx)]at hcd;rw[hcd]at jg;exact Br.no (.mk jg)
 refine DR.self (ae.Ee (c:=((2*j+1+1:Nat):Int)) zO zO ?_)
 (repeat (first|apply Nil.ptr|apply ai.mk|refine Ld.mk (by repeat (first|exact List.Mem.head _|apply List.Mem.tail|apply xab)) rfl ?_|apply aR.mk|apply ae.geq))
 refine Br.dec (λh0=>?_) (λh0=>JE.mk (hno (λh=>h0 zO)));have h0:2*j+1+1<n:=by omega
 (repeat (first|apply Nil.ptr|apply ai.mk|refine Ld.mk (by repeat (first|exact List.Mem.head _|apply List.Mem.tail|apply xab)) rfl ?_|apply aR.mk|apply ae.geq))
 refine ae.Ee (c:=((2*j+1+1:Nat):Int)) zO zO (av.nat zO ?_);refine az.row (l:=eM .i64 L++aH) zM aG (fT zO aH) ?_
 (repeat (first|apply Nil.ptr|apply ai.mk|refine Ld.mk (by repeat (first|exact List.Mem.head _|apply List.Mem.tail|apply xab)) rfl ?_|apply aR.mk|apply ae.geq))
 refine av.nat zO ?_;refine az.row (l:=eM .i64 L++aH) zM aG (fT zO aH) ?_;intro F;refine aa.eq (wU _ _ _) (⟨.refl _,?_⟩);cases XI:prec (bc L (2*j+1+1)) (bc L (2*j+1))with
 |false=>exact aL.mk (JE.mk (hno (λh=>by rw[XI]at h;exact absurd h.2 zD)))
 |true=>
 refine aL.mk (JE.mk (hJ3 _ _ λgs=>Br.yes ?_));refine ae.Ee (c:=((2*j+1+1:Nat):Int)) zO zO ?_;rw[xad (by simp[h0,XI])]at hcd;rw[hcd]at jg;exact .mk jg
theorem VZ(B:Hp):Fc zQ 164 #[] B (λv H=>∃b C,v=.pointer (some ⟨b,0,none⟩)/\H=C++B/\W9 (.pointer (some ⟨b,0,none⟩)) [] C):=by
 refine aF λg=>IJ (Build.mk (cs:=[.slice none 0 0,.map none]) zK ?_);intro b _;exact⟨_,_,rfl,.refl _,b,[_],rfl,rfl,λ_=>none,⟨b,_,_,[],[],rfl,rfl,aU.nil _ _,.inl ⟨rfl,rfl,rfl⟩,λ_=>rfl⟩,⟨λj hj=>by simp at hj,λ_ _=>rfl⟩,λj _ hj=>by simp at hj,by simp[j7]⟩
theorem Rz{h:zV}{l:List It}{C:Hp}(hi:W9 h l C)(cB:l.length<4398046511104)(x k:Int):
  Fc zQ 166 #[h,iv x,iv k] C (λv C'=>∃l',W9 h l' C'/\
   ((x∈l.map Prod.fst/\v=iv 11/\l'=l)\/(x∉l.map Prod.fst/\v=iv 0/\l'.Perm ((x,k)::l)))):=by
 have FV:=hi;obtain⟨f,ho,hc,hO,h1⟩:=hi;have ho0:=ho;obtain⟨bh,sv,mv,Cs,Cm,rfl,rfl,hs,hm,hne⟩:=ho;refine aF λg=>IG ?_
 (repeat (first|apply Nil.ptr|refine ai.mk ?_|refine Ld.mk zM rfl ?_|refine aR.mk ?_|refine ae.eql ?_|refine ae.neq ?_|refine ae.lss ?_|refine ae.leq ?_|refine ae.gtr ?_|refine ae.geq ?_|apply Un.not|refine Ext.mk rfl ?_|refine aL.mk ?_|refine ae.aI ?_|refine ae.kY ?_|refine ae.kX ?_|apply Br.yes|apply Br.no))
 rcases SS hc (x:=x)with⟨hx,hf⟩|⟨i,hi,hx,hf⟩
 ·refine hm.MI zS hf ?_
  (repeat (first|apply Nil.ptr|refine ai.mk ?_|refine Ld.mk zM rfl ?_|refine aR.mk ?_|refine ae.eql ?_|refine ae.neq ?_|refine ae.lss ?_|refine ae.leq ?_|refine ae.gtr ?_|refine ae.geq ?_|apply Un.not|refine Ext.mk rfl ?_|refine aL.mk ?_|refine ae.aI ?_|refine ae.kY ?_|refine ae.kX ?_|apply Br.yes|apply Br.no))
  intro J hJ;obtain⟨uA,mT,T0,hp4⟩:=Qu (a:=(x,k)) hc hO h1 hx;have jg:∀mb Ye,lf .i64 idx (.map (some mb)) f Ye->J [] ((bh,Obj.cells #[sv,.map (some mb)] 293 zZ)::(Cs++Ye)):=by
   intro mb Ye hm';refine hJ _ λgs=>?_
   (repeat (first|apply Nil.ptr|refine ai.mk ?_|refine Ld.mk zM rfl ?_|refine aR.mk ?_|refine ae.eql ?_|refine ae.neq ?_|refine ae.lss ?_|refine ae.leq ?_|refine ae.gtr ?_|refine ae.geq ?_|apply Un.not|refine Ext.mk rfl ?_|refine aL.mk ?_|refine ae.aI ?_|refine ae.kY ?_|refine ae.kX ?_|apply Br.yes|apply Br.no))
   refine Build.mk (cs:=enc .i64 (x,k)) zK (ax.one (k:=2) (e:=295) (z:=.agg #[iv 0,iv 0]) zK zK zK zD rfl λxb=>?_);refine hs.Gy (A:=[_,_]) (B:=Ye) (r:=enc .i64 (x,k)) zM rfl (pw _ _) ⟨[iv 0,iv 0],rfl,rfl⟩ (by rw[cP];omega) (by rw[cP];omega) λv' C' hs'=>?_
   (repeat (first|apply Nil.ptr|refine ai.mk ?_|refine Ld.mk zM rfl ?_|refine aR.mk ?_|refine ae.eql ?_|refine ae.neq ?_|refine ae.lss ?_|refine ae.leq ?_|refine ae.gtr ?_|refine ae.geq ?_|apply Un.not|refine Ext.mk rfl ?_|refine aL.mk ?_|refine ae.aI ?_|refine ae.kY ?_|refine ae.kX ?_|apply Br.yes|apply Br.no))
   refine St.one (by repeat (first|exact cZ.head _|apply cZ.tail|apply cZ.cq)) (by obtain⟨a,c,rfl⟩:=hs'.len;rfl) zI rfl ?_
   (repeat (first|apply Nil.ptr|refine ai.mk ?_|refine Ld.mk zM rfl ?_|refine aR.mk ?_|refine ae.eql ?_|refine ae.neq ?_|refine ae.lss ?_|refine ae.leq ?_|refine ae.gtr ?_|refine ae.geq ?_|apply Un.not|refine Ext.mk rfl ?_|refine aL.mk ?_|refine ae.aI ?_|refine ae.kY ?_|refine ae.kX ?_|apply Br.yes|apply Br.no))
   refine hs'.bX ?_;refine ae.lH (c:=((l.length:Nat):Int)) (by rw[xaf,cP];simp) zO ?_;have sK:aU 295 2 v' (eM .i64 (l++[(x,k)])) C':=by simpa[eM]using hs'
   have cC:Ui (.pointer (some ⟨bh,0,none⟩)) (l++[(x,k)]) f ((bh,Obj.cells #[v',.map (some mb)] 293 zZ)::(C'++Ye)):=
    ⟨bh,_,_,C',Ye,rfl,rfl,sK,hm',λh=>by simp at h⟩
   refine aa.pre (.tail) ?_;refine aa.fq (Zd cC (i:=l.length) zI zP uA mT T0) ?_;rintro v C'' ⟨rfl,l',f',p,xU,dD,hc2,hex,hp,BG,afO⟩;refine⟨_,_,rfl,.refl _,l',⟨f',xU,hc2,afO hp4,T0.perm dD⟩,.inr ⟨hx,rfl,dD.trans ?_⟩⟩;exact xbj (l₁:=l) (l₂:=[(x,k)])
  (repeat (first|apply Nil.ptr|refine ai.mk ?_|refine Ld.mk zM rfl ?_|refine aR.mk ?_|refine ae.eql ?_|refine ae.neq ?_|refine ae.lss ?_|refine ae.leq ?_|refine ae.gtr ?_|refine ae.geq ?_|apply Un.not|refine Ext.mk rfl ?_|refine aL.mk ?_|refine ae.aI ?_|refine ae.kY ?_|refine ae.kX ?_|apply Br.yes|apply Br.no))
  rcases hm with⟨rfl,rfl,hfn⟩|⟨mb,m,ck,rfl,h2⟩
  ·(repeat (first|apply Nil.ptr|refine ai.mk ?_|refine Ld.mk zM rfl ?_|refine aR.mk ?_|refine ae.eql ?_|refine ae.neq ?_|refine ae.lss ?_|refine ae.leq ?_|refine ae.gtr ?_|refine ae.geq ?_|apply Un.not|refine Ext.mk rfl ?_|refine aL.mk ?_|refine ae.aI ?_|refine ae.kY ?_|refine ae.kX ?_|apply Br.yes|apply Br.no))
   intro mb _
   (repeat (first|apply Nil.ptr|refine ai.mk ?_|refine Ld.mk zM rfl ?_|refine aR.mk ?_|refine ae.eql ?_|refine ae.neq ?_|refine ae.lss ?_|refine ae.leq ?_|refine ae.gtr ?_|refine ae.geq ?_|apply Un.not|refine Ext.mk rfl ?_|refine aL.mk ?_|refine ae.aI ?_|refine ae.kY ?_|refine ae.kX ?_|apply Br.yes|apply Br.no))
   refine St.one (by repeat (first|exact cZ.head _|apply cZ.tail|apply cZ.cq)) rfl zI rfl ?_;refine JE.of ?_ (jg mb _ (by rw[hfn];exact lf.made mb));simp only[xaL];refine .perm ?_;refine(List.Perm.swap _ _ _).trans (.cons _ ?_);exact xbj (l₁:=[_])
  (repeat (first|apply Nil.ptr|refine ai.mk ?_|refine Ld.mk zM rfl ?_|refine aR.mk ?_|refine ae.eql ?_|refine ae.neq ?_|refine ae.lss ?_|refine ae.leq ?_|refine ae.gtr ?_|refine ae.geq ?_|apply Un.not|refine Ext.mk rfl ?_|refine aL.mk ?_|refine ae.aI ?_|refine ae.kY ?_|refine ae.kX ?_|apply Br.yes|apply Br.no))
  exact JE.mk (jg mb Cm (.inr ⟨mb,m,ck,rfl,h2⟩))
 refine hm.MH zS hf ?_
 (repeat (first|apply Nil.ptr|refine ai.mk ?_|refine Ld.mk zM rfl ?_|refine aR.mk ?_|refine ae.eql ?_|refine ae.neq ?_|refine ae.lss ?_|refine ae.leq ?_|refine ae.gtr ?_|refine ae.geq ?_|apply Un.not|refine Ext.mk rfl ?_|refine aL.mk ?_|refine ae.aI ?_|refine ae.kY ?_|refine ae.kX ?_|apply Br.yes|apply Br.no))
 refine⟨_,_,rfl,.refl _,l,FV,.inl ⟨?_,rfl,rfl⟩⟩;rw[iq];exact⟨i,hi,hx⟩
theorem VX{h:zV}{l:List It}{C:Hp}(hi:W9 h l C)(cB:l.length<4398046511104):
  Fc zQ 168 #[h] C (λv C'=>∃l',W9 h l' C'/\
   ((l=[]/\v=.tuple #[iv 0,iv 0,iv 10]/\l'=l)\/(∃a,l.Perm (a::l')/\(∀b∈l,prec b a=false)/\v=.tuple #[iv a.1,iv a.2,iv 0]))):=by
 have FV:=hi;obtain⟨f,ho,hc,hO,h1⟩:=hi;by_cases hl:l=[]
 ·subst hl;refine aF λg=>xx ?_;obtain⟨bh,sv,mv,Cs,Cm,rfl,rfl,hs,hm,hne⟩:=ho
  (repeat (first|apply Nil.ptr|apply ai.mk|refine Ld.mk (by repeat (first|exact List.Mem.head _|apply List.Mem.tail|apply xab)) rfl ?_|apply aR.mk|apply ae.eql|apply ae.lss|apply Br.yes|apply Br.no|apply ae.aI))
  refine c6.or true (λ_=>?_) rfl λ_=>?_
  ·(repeat (first|apply Nil.ptr|apply ai.mk|refine Ld.mk (by repeat (first|exact List.Mem.head _|apply List.Mem.tail|apply xab)) rfl ?_|apply aR.mk|apply ae.eql|apply ae.lss|apply Br.yes|apply Br.no|apply ae.aI))
   refine hs.bX ?_
   (repeat (first|apply Nil.ptr|apply ai.mk|refine Ld.mk (by repeat (first|exact List.Mem.head _|apply List.Mem.tail|apply xab)) rfl ?_|apply aR.mk|apply ae.eql|apply ae.lss|apply Br.yes|apply Br.no|apply ae.aI))
   exact⟨rfl,rfl⟩
  (repeat (first|apply Nil.ptr|apply ai.mk|refine Ld.mk (by repeat (first|exact List.Mem.head _|apply List.Mem.tail|apply xab)) rfl ?_|apply aR.mk|apply ae.eql|apply ae.lss|apply Br.yes|apply Br.no|apply ae.aI))
  exact⟨_,_,rfl,.refl _,[],FV,.inl ⟨rfl,rfl,rfl⟩⟩
 obtain⟨n,hn⟩:∃n,l.length=n+1:=⟨l.length-1,by have:=xdc.2 hl;omega⟩;have hmin:∀b∈l,prec b (bc l 0)=false:=λb hb=>by
  obtain⟨j,hj,e⟩:=xba.1 hb;have:=Ve hO j hj;rwa [show bc l j=b by simp[bc,List.getD,hj,e]]at this
 intro g;refine xx (R:=aN _) ?_;obtain⟨bh,la,mb,aH,Cm,rfl,rfl,aG,hm⟩:=ho.open zO;unfold L168
 (repeat (first|apply Nil.ptr|apply ai.mk|refine Ld.mk (by repeat (first|exact List.Mem.head _|apply List.Mem.tail|apply xab)) rfl ?_|apply aR.mk|apply ae.eql|apply ae.lss|apply Br.yes|apply Br.no|apply ae.aI))
 refine c6.or false (λ_=>?_) rfl λ_=>?_
 ·(repeat (first|apply Nil.ptr|apply ai.mk|refine Ld.mk (by repeat (first|exact List.Mem.head _|apply List.Mem.tail|apply xab)) rfl ?_|apply aR.mk|apply ae.eql|apply ae.lss|apply Br.yes|apply Br.no|apply ae.aI))
  exact⟨rfl,by rw[hn];simp;omega⟩
 (repeat (first|apply Nil.ptr|apply ai.mk|refine Ld.mk (by repeat (first|exact List.Mem.head _|apply List.Mem.tail|apply xab)) rfl ?_|apply aR.mk|apply ae.eql|apply ae.lss|apply Br.yes|apply Br.no|apply ae.aI))
 refine av.of 0 rfl zO ?_;refine az.row (l:=eM .i64 l++aH) zM aG (fT zO aH) ?_;intro s7 _;refine St.p (pw _ _) ?_
 (repeat (first|apply Nil.ptr|apply ai.mk|refine Ld.mk (by repeat (first|exact List.Mem.head _|apply List.Mem.tail|apply xab)) rfl ?_|apply aR.mk|apply ae.eql|apply ae.lss|apply Br.yes|apply Br.no|apply ae.aI))
 refine ae.lH (c:=(n:Int)) (by rw[hn];simp) zO ?_
 (repeat (first|apply Nil.ptr|apply ai.mk|refine Ld.mk (by repeat (first|exact List.Mem.head _|apply List.Mem.tail|apply xab)) rfl ?_|apply aR.mk|apply ae.eql|apply ae.lss|apply Br.yes|apply Br.no|apply ae.aI))
 refine av.nat zO ?_;refine az.row (l:=eM .i64 l++aH) zM aG (fT zO aH) ?_;intro b27 _;refine St.p (pw _ _) ?_
 (repeat (first|apply Nil.ptr|apply ai.mk|refine Ld.mk (by repeat (first|exact List.Mem.head _|apply List.Mem.tail|apply xab)) rfl ?_|apply aR.mk|apply ae.eql|apply ae.lss|apply Br.yes|apply Br.no|apply ae.aI))
 refine gp.upto (h:=n) zO ?_
 (repeat (first|apply Nil.ptr|apply ai.mk|refine Ld.mk (by repeat (first|exact List.Mem.head _|apply List.Mem.tail|apply xab)) rfl ?_|apply aR.mk|apply ae.eql|apply ae.lss|apply Br.yes|apply Br.no|apply ae.aI))
 refine St.one (by repeat (first|exact cZ.head _|apply cZ.tail|apply cZ.cq)) rfl zI rfl ?_;refine DR.self ?_
 (repeat (first|apply Nil.ptr|apply ai.mk|refine Ld.mk (by repeat (first|exact List.Mem.head _|apply List.Mem.tail|apply xab)) rfl ?_|apply aR.mk|apply ae.eql|apply ae.lss|apply Br.yes|apply Br.no|apply ae.aI))
 rw[<-xaL Cm];refine lf.del (A:=[_,_,_,_]) (B:=[]) hm λYe hm'=>?_;rw[xaL];have XH:eM .i64 l++aH=eM .i64 (l.take n)++(enc .i64 (bc l n)::aH):=by
  have e:l=l.take n++[bc l n]:=by
   have h2:l.drop n=[bc l n]:=by
    rw[xbr zO,xdk zO];simp[hn,bc,List.getD]
   have:=(xbq n l).symm;rw[h2]at this;exact this
  conv=>lhs;rw[e]
  simp[eM]
 have R9:∀r∈eM .i64 (l.take n)++(enc .i64 (bc l n)::aH),r.length=2:=by rw[<-XH];exact aG
 intro J hJ;have hlt:(l.take n).length=n:=by simp[hn]
 have jg:∀l' C',W9 (.pointer (some ⟨bh,0,none⟩)) l' C'->l.Perm (bc l 0::l')->J [] ((b27,Obj.cells (enc .i64 (bc l n)).toArray 295 zZ)::(s7,Obj.cells (enc .i64 (bc l 0)).toArray 295 zZ)::C'):=by
  intro l' C' hi' Zn;refine hJ _ λgs=>?_
  (repeat (first|apply Nil.ptr|apply ai.mk|refine Ld.mk (by repeat (first|exact List.Mem.head _|apply List.Mem.tail|apply xab)) rfl ?_|apply aR.mk|apply ae.eql|apply ae.lss|apply Br.yes|apply Br.no|apply ae.aI))
  exact⟨_,_,rfl,.skip .tail,l',hi',.inr ⟨_,Zn,hmin,rfl⟩⟩
 (repeat (first|apply Nil.ptr|apply ai.mk|refine Ld.mk (by repeat (first|exact List.Mem.head _|apply List.Mem.tail|apply xab)) rfl ?_|apply aR.mk|apply ae.eql|apply ae.lss|apply Br.yes|apply Br.no|apply ae.aI))
 have Dn:Ui (.pointer (some ⟨bh,0,none⟩)) (l.take n) (Ep f (bc l 0).1 none) ((bh,Obj.cells #[.slice (some ⟨la,0,none⟩) n (l.length+aH.length),.map (some mb)] 293 zZ)::(la,.cells (rows (eM .i64 l++aH)) 295 zZ)::Ye):=by
  rw[XH];exact .shut R9 hlt.symm (by simp[hn];omega) hm'
 refine Br.mk (λh0=>?_) (λh0=>?_)
 ·have h0:0<n:=by simpa using h0
  obtain⟨_,q1,q2,q3,q4⟩:=U7 hc hO h1 hn h0;refine az.q ?_;refine aa.fq (rF Dn (i:=0) zO (bc l n)) ?_;rintro v C2 ⟨rfl,xU⟩;have BF:nr ((l.take n).set 0 (bc l n)) (Ep (Ep f (bc l 0).1 none) (bc l n).1 (some 0)) 0:=by
   refine⟨λj hj Zz=>?_,λx hx=>?_⟩
   ·unfold Ep;rw[xac]
    ·exact q4.1 j hj Zz
    intro e;have h00:bc ((l.take n).set 0 (bc l n)) 0=bc l n:=by rw[gW _ zO];simp[g9]
    exact Zz (q3.inj hj zP (by rw[e,h00]))
   unfold Ep;rw[xac]
   ·exact q4.2 x hx
   intro e;refine hx (iq.2 ⟨0,by simp;omega,?_⟩);rw[gW _ zO];simp[g9,e]
  refine aa.fq (RX xU (i:=0) zP zP (by simpa[hn]using q2) BF q3) ?_;rintro v C3 ⟨rfl,l3,f3,Dm,RB,ZI,ab7⟩;exact JE.mk (jg l3 C3 ⟨f3,Dm,ZI,ab7,q3.perm RB⟩ ((RB.cons (bc l 0)).trans q1).symm)
 have h0:n=0:=by simp at h0;omega
 subst h0;refine JE.mk (jg (l.take 0) _ ⟨_,Dn,⟨λj hj=>by simp at hj,λx _=>?_⟩,λj _ hj=>by simp at hj,by simp[j7]⟩ ?_)
 ·unfold Ep;split
  ·rfl
  rename_i hne;refine hc.2 x λhm=>hne ?_;obtain⟨j,hj,e⟩:=iq.1 hm;rw[show j=0 by omega]at e;exact e.symm
 match l,hn with
 | [a],_=>exact .refl _
end
end Go.Proofs
namespace ak
open Go.Sx Pu
def nn(s k:Nat):It:=((s:Int),(k:Int))
variable {n:Nat} {c:Nat->Nat->Nat} {T:Nat} {D:zL} {l l':List It} {s i:Nat}
end ak
set_option maxRecDepth 100000
namespace Go.Proofs
open Go Go.Sx
section
open aq Pu
theorem LS{pt n v:Nat}{T:Nd->Option Nat}{C:Hp}(h:oB pt n T C)(hv:v<n):
  Rd zQ 224 #[ptr pt,iv (v:Int)] C (λr=>∃l:List (Nd×Nat),(l.map Prod.fst).Nodup/\(∀d r,(d,r)∈l↔T d=some r/\d.v=v)/\r=.tuple #[iv ((l.length:Nat):Int),iv 0]):=by
 have h0:=h;obtain⟨vs,Cs,ms,rfl,hs,ho⟩:=h;obtain⟨m,hm⟩:∃m,ms[v]? =some m:=⟨_,xaa (by rw[ho.len];exact hv)⟩;have he:=ho.dJ v m hm;have hT:∀d:Nd,d.v=v->T d=aK m.l d:=λd hd=>by rw[ho.T,hd,hm];rfl
 have hmem:∀d r,(d,r)∈m.l↔T d=some r/\d.v=v:=λd r=>by
  constructor
  ·intro hx;have hd:=ho.var v m hm _ hx;exact⟨by rw[hT d hd];exact(dR he.nd).2 hx,hd⟩
  rintro⟨h1,h2⟩;rw[hT d h2]at h1;exact(dR he.nd).1 h1
 refine aF λg=>HJ (aa.eq (lz h0 hv) (ae.cK (Br.F (Nil.ptr ?_))));refine ai.mk (Ld.mk zM rfl ?_);refine hs.Xt (x:=.map (some m.b)) (by rw[xat,hm];rfl) (λ_ h=>by exact .tail _ (xae _ h)) ?_;refine he.QY (b:=m.b) (by exact .tail _ (xab _ (rj hm))) ?_;exact bg.mk (.refl _) ⟨m.l,he.nd,hmem,rfl⟩
section
variable {kp v gr:Nat} {K:Kd} {S:Nat->aq.Fn} {ord tr:zL} {C:Hp}
theorem MO{ah:zL}(h:cQ kp K ord ah tr C)(hv:v<K.n):Rd zQ 165 #[ptr kp,iv (v:Int)] C (λr=>∃l:List (Nd×Nat),(l.map Prod.fst).Nodup/\(∀d r,(d,r)∈l↔K.T d=some r/\d.v=v)/\r=.tuple #[iv ((l.length:Nat):Int),iv 0]):=by
 have h0:=h;obtain⟨b,rfl,hO⟩:=h;refine aF λg=>II (ae.aI (Br.no (aa.eq (rB h0 (v:Int)) ?_)));rw[xam zO];refine Un.not (Br.no (Nil.ptr (ai.mk (Ld.f ?_))));refine aa.rq (LS hO.ut hv) ?_;rintro r ⟨l,h1,h2,rfl⟩;exact Ext.mk rfl (Ext.mk rfl (bg.mk (.refl _) ⟨l,h1,h2,rfl⟩))
theorem V6{h:zV}{l:List It}{C:Hp}(hi:W9 h l C):Rd zQ 167 #[h] C (· =iv ((l.length:Nat):Int)):=by
 obtain⟨f,⟨bh,sv,mv,Cs,Cm,rfl,rfl,hs,hm,hne⟩,_⟩:=hi;refine aF λg=>IF (ae.aI (Br.no (Ld.n ?_)));refine hs.bX ?_;rw[cP];exact bg.mk (.refl _) rfl
def sln:List zV->Nat
 | .slice _ n _::_=>n
 |_=>0
end
end
section
open aq
section
variable {kp mb BO b1 b7 EE bn:Nat} {K:Kd} {S:Nat->aq.Fn} {ord ah tr:zL} {C:Hp}
def kr(r:Nat):zV:=u32 r
theorem cW(a b:Nat):Instr.sameNow (.int .u32) (kr a) (kr b)=some (decide (a=b)):=by
 simp only[Instr.sameNow,kr,u32,xa5,xar];rw[xbE];simp;omega
theorem gN(a:Nat):Instr.sameBits 10000 (kr a) (kr a)=true:=by simp[Instr.sameBits,kr,u32]
structure Kn(n:Nat)(S:Nat->aq.Fn)(es:Array MapEntry)(ck:Nat)(m:List (Nat×zV))(Y:Hp):Prop where
 dJ:aE kr (λv x=>v=x) es ck m
 kg:∀r v,aK m r=some v->kD Y v n (S r)
 low:∀r,r<2->aK m r≠none
theorem Kn.mono{n:Nat}{S:Nat->aq.Fn}{es:Array MapEntry}{ck:Nat}{m:List (Nat×zV)}{Y Y':Hp}(h:Kn n S es ck m Y)(hs:∀x∈Y,x∈Y'):Kn n S es ck m Y':=⟨h.dJ,λr v hm=>(h.kg r v hm).mono hs,h.low⟩
theorem kD.one{B:Hp}{v:zV}{n:Nat}{f:aq.Fn}(h:kD B v n f):∃s,v=.agg #[iv (n:Int),s]/\s.oneCell'=true:=by
 obtain⟨ws,⟨s,rfl,hw⟩,_,_⟩:=h;exact⟨s,rfl,bQ hw⟩
theorem cV{n:Nat}{s:zV}(h:s.oneCell'=true):∀u∈[Value.int .i64 (n:Int),s],u.oneCell'=true:=λu hu=>by
 simp only[xaj,xaR,xbl]at hu;rcases hu with rfl|rfl
 ·rfl
 exact h
theorem fp(d:Nd):∀u∈bu d,u.oneCell'=true:=λu hu=>by
 simp only[bu,xaj,xaR,xbl]at hu;rcases hu with rfl|rfl|rfl<;>rfl
theorem wG{X:Hp}(h:bP kp K S ord ah tr C){r:Nat}{d:Nd}(hd:K.N r=some d):Px zQ 125 #[ptr kp,u32 r] (X++C) (λv _=>v=.agg (bu d).toArray):=by
 have hlt:=h.bM (.inr ⟨d,hd⟩);refine aF λg=>Ja λb1 _=>?_;refine aa.eq (args:=#[ptr kp,u32 r]) (iP h.rep zO) ?_;rw[dU hd (h.ok.mid.two hd).1];refine Ext.two λb7 _=>(St.p (fp d) ?_);refine az.q ?_;refine St.p (fp d) ?_;refine az.q ?_;exact GF.mk (by repeat (first|exact bZ.refl _|apply bZ.cons|apply bZ.app)) rfl
theorem wJ{X:Hp}{v:zV}(h:bP kp K S ord ah tr C){rs:zL}(hv:dI .u32 (X++C) v (iw rs))(hr:∀r∈rs,live K.N r)(hl:rs.length<4611686018427387904):Px zQ 123 #[ptr kp,v] (X++C) (λw _=>w=iv 0):=by
 refine aF λg=>Jc (ae.aI (Br.no (hv.bX ?_)));rw[au];refine⟨λvs H=>∃(i:Nat) (N:Hp),vs=[iv (i:Int)]/\i<=rs.length/\H=N++(X++C),λvs _=>rs.length-bN vs 0,JE.mk ⟨0,[],rfl,xaO _,rfl⟩,?_⟩;rintro w H ⟨i,N,hw,hi,rfl⟩ gs;simp only[xav,xaW]at hw;subst hw;refine ae.fy (Br.dec (λhlt=>?_) (λhge=>?_))
 ·have Ex:=hr _ (xaJ hlt);have ug:=h.bM Ex;refine hv.ld (n:=((rs[i]:Nat):Int)) (de (xaa hlt)) (λ_ h=>xab _ h) ?_;refine aa.eq (args:=#[ptr kp,u32 rs[i]]) (iP h.rep zO) ?_;rw[xad (ca.2 Ex)];refine Ext.two λb15 _=>(St.whole (r:=got K.N rs[i]) (by exact .head _) rfl (aP _ _).1 (aP _ _).2 ?_);exact ae.cK (Br.F (ae.inc (aC.mk ⟨i+1,_::N,rfl,hlt,rfl⟩ (by simp only[bN];omega))))
 exact GF.mk (by repeat (first|exact bZ.refl _|apply bZ.cons|apply bZ.app)) rfl
theorem Sy{X:Hp}{n:Nat}(hn:n<=16){d:Nd}(hd:d.v<n){v1 v2:zV}{f1 f2:aq.Fn}(h1:kD X v1 n f1)(h2:kD X v2 n f2)(hm:(bn,Obj.cells #[iv (n:Int)] 3 zZ)∈X):
  Px zQ 180 #[.agg (bu d).toArray,v1,v2,ptr bn] X (λw H=>kD H w n (λx=>if x.testBit d.v then f2 x else f1 x)):=by
 obtain⟨s1,rfl,o1⟩:=h1.one;obtain⟨s2,rfl,o2⟩:=h2.one;refine aF λg=>Iu λc1 _ c3 _ c5 _ c7 _=>?_;refine Ld.mk (v:=iv (n:Int)) (by exact .tail _ (.tail _ (.tail _ (.tail _ hm)))) rfl ?_;refine Ld.f ?_;refine aa.px (bG.left (C:=[]) (A:=_)) (Uw hn hd []) ?_;rintro w N ⟨t,rfl,ht⟩;rw[xaL]at ht⊢;obtain⟨s3,rfl,o3⟩:=ht.one;refine Ext.two λX6 _=>(St.p (cV o3) ?_);refine az.q ?_;refine az.q ?_;refine az.q ?_;refine aa.pre (.perm (.cons _ (xaU.trans (.cons _ (xaU.trans (.cons _ (xaU.trans (.cons _ xaU)))))))) ?_;refine aa.pq (Uz (B:=N++X) (ht.mono λ_ h=>xae _ h) (h2.mono λ_ h=>xab _ h) (h1.mono λ_ h=>xab _ h)) ?_;rintro w N2 ⟨t4,rfl,ht4⟩;obtain⟨s4,rfl,o4⟩:=ht4.one;refine Ext.two λc26 _=>(St.p (cV o4) ?_);refine az.q ?_;refine St.p (cV o4) ?_;refine az.q ?_;refine GF.mk (by repeat (first|exact bZ.refl _|apply bZ.cons|apply bZ.app)) (ht4.mono ?_);intro x hx;repeat (first|exact hx|apply xbt)
theorem adI(h:bP kp K S ord ah tr C)(hn:K.n<=16){Z0:Hp}(h19:(BO,Obj.cells #[.map (some mb)] 301 zZ)∈Z0)(h1:(b1,Obj.cells #[ptr kp] 53 zZ)∈Z0)(h7:(b7,Obj.cells #[.func (.func 180) #[] #[ptr bn]] 240 zZ)∈Z0)
 (h22:(EE,Obj.cells #[.func (.func 235) #[] #[ptr BO,ptr b1,ptr b7,ptr EE]] 302 zZ)∈Z0)(hbn:(bn,Obj.cells #[iv (K.n:Int)] 3 zZ)∈Z0):
  ∀(k r:Nat) (es:Array MapEntry) (ck:Nat) (m:List (Nat×zV)) (Z:Hp),K.n-dep K.n (lv ah) K.N r<=k->live K.N r->(∀x∈Z0,x∈Z)->Kn K.n S es ck m Z->
  Fc zQ 235 #[u32 r,ptr BO,ptr b1,ptr b7,ptr EE] ((mb,.map es ck)::(Z++C)) (λv H=>∃es' bC m' N,H=(mb,.map es' bC)::(N++(Z++C))/\Kn K.n S es' bC m' (N++Z)/\kD (N++Z) v K.n (S r)):=by
 have hit:∀{r:Nat} {es:Array MapEntry} {ck:Nat} {m:List (Nat×zV)} {Z:Hp} {v:zV},(∀x∈Z0,x∈Z)->Kn K.n S es ck m Z->aK m r=some v->
   Fc zQ 235 #[u32 r,ptr BO,ptr b1,ptr b7,ptr EE] ((mb,.map es ck)::(Z++C)) (λv H=>∃es' bC m' N,H=(mb,.map es' bC)::(N++(Z++C))/\Kn K.n S es' bC m' (N++Z)/\kD (N++Z) v K.n (S r)):=by
  intro r es ck m Z v hZ hm hv g;obtain⟨s,rfl,hs⟩:=(hm.kg r v hv).one;refine xh (R:=aN _) ?_;unfold L235;intro c1 _;refine Ld.mk (v:=.map (some mb)) (by exact .tail _ (.tail _ (xae _ (hZ _ h19)))) rfl ?_;refine hm.dJ.hit (k:=r) cW (b:=mb) (by exact .tail _ (.head _)) hv λv' e=>?_;subst e;refine Ext.two λc7 _=>(St.p (cV hs) ?_);refine Br.yes (az.q ?_);refine St.p (cV hs) ?_;refine az.q ?_;exact aN.mk (.skip .tail) ⟨es,ck,m,[],rfl,hm,hm.kg r _ hv⟩
 intro k;induction k with
 |zero=>
  intro r es ck m Z hk hr hZ hm;have qv:r<2:=by
   cases hN:K.N r with
   |some d=>
    have:=h.ok.wf.iA h.ok.lv r;rw[an hN]at hk;have:=h.ok.lv.lt _ (h.ok.mid.var hN);omega
   |none=>
    rcases hr with hr|⟨d,e⟩
    ·exact hr
    rw[hN]at e;cases e
  cases hv:aK m r with
  |none=>exact absurd hv (hm.low r qv)
  |some v=>exact hit hZ hm hv
 |succ k ih=>
  intro r es ck m Z hk hr hZ hm;cases hv:aK m r with
  |some v=>exact hit hZ hm hv
  |none=>
  have qv:¬r<2:=λh2=>hm.low r h2 hv;obtain⟨d,hN⟩:∃d,K.N r=some d:=by
   rcases hr with hr|hr
   ·omega
   exact hr
  have kB:=h.ok.mid.var hN;have hlo:=h.ok.wf.lo hN;have hhi:=h.ok.wf.hi hN;have hdl:=h.ok.wf.iA h.ok.lv r;rw[an hN]at hk;have hvl:=h.ok.lv.lt _ kB;have F5:S r=λx=>if x.testBit d.v then S d.hi x else S d.lo x:=funext λx=>h.ok.mid.int.node hN x
  refine aF λg=>xh λc1 _=>?_;refine Ld.mk (v:=.map (some mb)) (by exact .tail _ (.tail _ (xae _ (hZ _ h19)))) rfl ?_;refine hm.dJ.bO (k:=r) cW (b:=mb) (by exact .tail _ (.head _)) hv ?_;refine Ext.two λc7 _=>(St.q ?_);refine Br.no (Ld.mk (v:=ptr kp) (by exact .tail _ (.tail _ (.tail _ (xae _ (hZ _ h1))))) rfl ?_);refine aa.pq (args:=#[ptr kp,u32 r]) (wG (X:=Z) h hN) ?_;rintro w N0 rfl;intro X6 _;refine St.p (fp d) ?_;obtain⟨Z1,hZ1⟩:∃Z1,Z1=(X6,Obj.cells (bu d).toArray 144 zZ)::(N0++Z):=⟨_,rfl⟩;have Sb:∀x∈Z,x∈Z1:=λx hx=>by rw[hZ1];exact .tail _ (xab _ hx)
  have RR:aM (Z1++C) ((X6,Obj.cells (bu d).toArray 144 zZ)::Z):=by rw[hZ1];exact aM.left.trans (.cons .right)
  have uA:((X6,Obj.cells (bu d).toArray 144 zZ)::(c7,.cells (List.toArray [iv 0,.slice none 0 0]) 175 zZ)::(c1,.cells #[iv 0,.slice none 0 0] 175 zZ)::(mb,Obj.map es ck)::(N0++(Z++C))).Perm
    ((c1,.cells #[iv 0,.slice none 0 0] 175 zZ)::(c7,.cells (List.toArray [iv 0,.slice none 0 0]) 175 zZ)::(mb,Obj.map es ck)::(Z1++C)):=by
   rw[hZ1,xaQ,xak];refine(List.Perm.swap _ _ _).trans ?_;refine(List.Perm.cons _ (List.Perm.swap _ _ _)).trans ?_;refine(List.Perm.swap _ _ _).trans (.cons _ (.cons _ (.swap _ _ _)))
  have hR0:aM ((X6,Obj.cells (bu d).toArray 144 zZ)::(c7,.cells (List.toArray [iv 0,.slice none 0 0]) 175 zZ)::(c1,.cells #[iv 0,.slice none 0 0] 175 zZ)::(mb,Obj.map es ck)::(N0++(Z++C))) ((X6,Obj.cells (bu d).toArray 144 zZ)::Z):=
   .cons (.skip (.skip (.skip (.iH .left))))
  refine DR.of hR0 (Ld.mk (v:=.func (.func 180) #[] #[ptr bn]) (by exact .tail _ (hZ _ h7)) rfl ?_);refine az.q ?_;refine Ld.mk (v:=.func (.func 235) #[] #[ptr BO,ptr b1,ptr b7,ptr EE]) (by exact .tail _ (hZ _ h22)) rfl ?_;refine Ld.f ?_;refine Ld.mk (v:=.func (.func 235) #[] #[ptr BO,ptr b1,ptr b7,ptr EE]) (by exact .tail _ (hZ _ h22)) rfl ?_;refine Ld.f ?_;intro F;refine aJ.of rfl zK (aa.pre (.perm uA) ?_);refine aa.fq (args:=#[u32 d.lo,ptr BO,ptr b1,ptr b7,ptr EE]) (ih d.lo es ck m Z1 zO hlo.1 (λx hx=>Sb _ (hZ x hx)) (hm.mono Sb)) ?_;rintro v1 H ⟨kC,jO,m1,N1,rfl,xH,ht1⟩;refine⟨.skip (.skip (.skip (.iH RR))),?_⟩;rw[<-xak];intro F;refine aJ.of rfl zK (aa.fq (args:=#[u32 d.hi,ptr BO,ptr b1,ptr b7,ptr EE]) (ih d.hi kC jO m1 (N1++Z1) zO hhi.1 (λx hx=>xab _ (Sb _ (hZ x hx))) xH) ?_);rintro v2 H ⟨gP,iB,m2,N2,rfl,nh,XD⟩;refine⟨.skip (.skip (.skip (.iH (aM.assoc.trans (.iH RR))))),?_⟩;rw[<-xak];intro F;refine aJ.of rfl zK (aa.pq (args:=#[.agg (bu d).toArray,v1,v2,ptr bn]) (Sy (bn:=bn) hn kB (ht1.mono λ_ h=>xab _ h) XD (xab _ (xab _ (Sb _ (hZ _ hbn))))) ?_);intro v3 N3 Rv;rw[<-F5]at Rv;refine⟨.skip (.skip (.skip (aM.assoc.trans (.iH (aM.assoc.trans (.iH (aM.assoc.trans (.iH RR)))))))),?_⟩;obtain⟨s3,rfl,o3⟩:=Rv.one;intro c37 _;intro F;refine St.p (cV o3) ?_;refine Ld.mk (v:=.map (some mb)) (by exact .tail _ (.tail _ (.tail _ (.tail _ (xae _ (xab _ (xab _ (xab _ (Sb _ (hZ _ h19)))))))))) rfl ?_;refine az.q ?_;refine nh.dJ.bK (k:=r) (b:=mb) (x:=.agg #[iv (K.n:Int),s3]) cW gN rfl λpo qO he=>⟨_,.tail (.tail (.tail (.head _))),?_⟩;refine az.q ?_;refine St.p (cV o3) ?_;refine az.q ?_;have hmem:∀x∈N3++(N2++(N1++Z1)),x∈(N3++(N2++(N1++((X6,Obj.cells (bu d).toArray 144 zZ)::N0))))++Z:=λx hx=>by
   rw[hZ1]at hx;simpa only[xak,xaQ]using hx
  refine aN.mk (.skip (.skip .tail)) ⟨po,qO,dW m2 r (.agg #[iv (K.n:Int),s3]),N3++(N2++(N1++((X6,Obj.cells (bu d).toArray 144 zZ)::N0))),by rw[hZ1];simp only[xak,xaQ],⟨he,λr' v' n7=>?_,λr' hr'=>?_⟩,Rv.mono hmem⟩
  ·rw[bL]at n7;split at n7
   ·rename_i e;subst e;cases n7;exact Rv.mono hmem
   exact(nh.kg r' v' n7).mono λx hx=>hmem x (xab _ hx)
  rw[bL];split
  ·simp
  exact nh.low r' hr'
end
section
variable {kp bn:Nat} {K:Kd} {S:Nat->aq.Fn} {ord ah tr:zL} {C:Hp}
theorem WC(h:bP kp K S ord ah tr C)(hn:K.n<=16){r:Nat}(hr:live K.N r){X:Hp}{v0 v1:zV}(hv0:kD X v0 K.n (λ_=>false))(hv1:kD X v1 K.n (λ_=>true))(hbn:(bn,Obj.cells #[iv (K.n:Int)] 3 zZ)∈X):
  Fc zQ 179 #[ptr kp,u32 r,v0,v1,.func (.func 180) #[] #[ptr bn]] (X++C) (λv H=>∃N,H=N++(X++C)/\kD (N++X) v K.n (S r)):=by
 obtain⟨s0,rfl,o0⟩:=hv0.one;obtain⟨s1,rfl,o1⟩:=hv1.one;have hi:=h.ok.mid.int;refine aF λg=>Iv λb1 _ b3 _ b5 _ b7 _ b9 _ mb _=>?_;refine az.q ?_;refine aE.bK (ke:=kr) (vr:=λv x=>v=x) (k:=0) (b:=mb) (x:=Value.agg #[iv (K.n:Int),s0]) cW gN aE.empty rfl λkC jO FX=>⟨_,.head _,?_⟩;refine az.q ?_;refine aE.bK (ke:=kr) (vr:=λv x=>v=x) (k:=1) (b:=mb) (x:=Value.agg #[iv (K.n:Int),s1]) cW gN FX rfl λgP iB T6=>⟨_,.head _,?_⟩;intro BO _;refine St.one (c':=#[.map (some mb)]) (by exact .head _) rfl zI rfl ?_;intro EE _;refine St.one (c':=#[.func (.func 235) #[] #[ptr BO,ptr b1,ptr b7,ptr EE]]) (by exact .head _) rfl zI rfl ?_;refine Ld.q ?_;refine aJ.of rfl zK ?_;obtain⟨Z0,XU⟩:∃Z0:Hp,Z0=(EE,Obj.cells #[.func (.func 235) #[] #[ptr BO,ptr b1,ptr b7,ptr EE]] 302 zZ)::(BO,.cells #[.map (some mb)] 301 zZ)::(b7,.cells #[.func (.func 180) #[] #[ptr bn]] 240 zZ)::(b5,.cells (Value.cells (.agg #[iv (K.n:Int),s1])) 175 zZ)::(b3,.cells (Value.cells (.agg #[iv (K.n:Int),s0])) 175 zZ)::(b1,.cells #[ptr kp] 53 zZ)::X:=⟨_,rfl⟩;have hXZ:∀x∈X,x∈Z0:=λx hx=>by rw[XU];exact .tail _ (.tail _ (.tail _ (.tail _ (.tail _ (.tail _ hx)))))
 refine aa.pre (H':=(b9,Obj.cells #[iv 0,.slice none 0 0] 175 zZ)::(mb,Obj.map gP iB)::(Z0++C)) (.perm ?_) ?_
 ·rw[XU];simp only[xaQ];refine(List.Perm.cons _ (List.Perm.cons _ (List.Perm.swap _ _ _))).trans ?_;refine(List.Perm.cons _ (List.Perm.swap _ _ _)).trans ?_;refine(List.Perm.swap _ _ _).trans (.cons _ ?_);refine(List.Perm.cons _ (List.Perm.swap _ _ _)).trans ?_;exact List.Perm.swap _ _ _
 refine aa.fq (args:=#[u32 r,ptr BO,ptr b1,ptr b7,ptr EE]) (adI (Z0:=Z0) (bn:=bn) h hn (by rw[XU];exact .tail _ (.head _)) (by rw[XU];exact .tail _ (.tail _ (.tail _ (.tail _ (.tail _ (.head _)))))) (by rw[XU];exact .tail _ (.tail _ (.head _))) (by rw[XU];exact .head _) (hXZ _ hbn) K.n r gP iB _ Z0 (xdw _ _) hr (λ_ h=>h) ⟨T6,λr v hm=>?_,λr hr=>?_⟩) ?_
 ·rw[bL,bL]at hm;split at hm
  ·rename_i e;subst e;cases hm;have:=hv1.mono hXZ;rwa [show(λ_=>true)=S 1 from funext λx=>(hi.one x).symm]at this
  split at hm
  ·rename_i e;subst e;cases hm;have:=hv0.mono hXZ;rwa [show(λ_=>false)=S 0 from funext λx=>(hi.zero x).symm]at this
  simp[aK]at hm
 ·rw[bL,bL];have:r=0\/r=1:=by omega
  rcases this with rfl|rfl<;>simp
 rintro v H ⟨po,qO,m3,N,rfl,_,ht⟩;obtain⟨s3,rfl,o3⟩:=ht.one;refine St.p (cV o3) ?_;refine az.q ?_;refine aN.mk (.skip .tail) ⟨N++[(EE,Obj.cells #[.func (.func 235) #[] #[ptr BO,ptr b1,ptr b7,ptr EE]] 302 zZ),(BO,.cells #[.map (some mb)] 301 zZ),(b7,.cells #[.func (.func 180) #[] #[ptr bn]] 240 zZ),(b5,.cells (Value.cells (.agg #[iv (K.n:Int),s1])) 175 zZ),(b3,.cells (Value.cells (.agg #[iv (K.n:Int),s0])) 175 zZ),(b1,.cells #[ptr kp] 53 zZ)],by rw[XU];simp,ht.mono λx hx=>?_⟩;rw[XU]at hx;simpa using hx
theorem Nw(h:bP kp K S ord ah tr C)(hn:K.n<=16){r:Nat}(hr:live K.N r):
  Fc zQ 116 #[ptr kp,u32 r] C (λv H=>∃N t,H=N++C/\v=.tuple #[t,iv 0]/\kD N t K.n (S r)):=by
 refine aF λg=>Jj λb1 _=>?_;refine ax.int (e:=78) zK zK zK λbx=>?_;refine aa.px .here (wJ (X:=[(bx,_),(b1,_)]) (rs:=[r]) h (dI.block (by exact .head _) zI) (λx hx=>by rw[xaE.1 hx];exact hr) zI) ?_;rintro w N0 rfl;refine ae.cK (Br.F (aa.eq (gM h.rep) λjc _=>?_));refine St.one (c':=#[iv (K.n:Int)]) (by exact .head _) rfl zI rfl ?_;refine Ld.q ?_;refine ae.nB (b:=16) (Br.F (Ld.q ?_));refine aa.px (bG.left (C:=[]) (A:=_)) (yg hn false []) ?_;rintro w N1 ⟨t0,rfl,VT⟩;rw[xaL]at VT⊢;obtain⟨s0,rfl,o0⟩:=VT.one;refine Ext.two λb26 _=>(St.p (cV o0) ?_);refine Ld.q ?_;refine aa.px (bG.left (C:=[]) (A:=_)) (yg hn true []) ?_;rintro w N2 ⟨t1,rfl,ht1⟩;rw[xaL]at ht1⊢;obtain⟨s1,rfl,o1⟩:=ht1.one;refine Ext.two λb34 _=>(St.p (cV o1) ?_);refine az.q ?_;refine az.q ?_;obtain⟨X,hX⟩:∃X:Hp,X=(b34,Obj.cells (List.toArray [iv (K.n:Int),s1]) 175 zZ)::(N2++((b26,Obj.cells (List.toArray [iv (K.n:Int),s0]) 175 zZ)::(N1++((jc,Obj.cells #[iv (K.n:Int)] 3 zZ)::(N0++[(bx,Obj.cells (aA .u32 [(r:Int)]) 78 zZ)]))))):=⟨_,rfl⟩;refine aa.pre (H':=(b1,Obj.cells #[iv 0,.slice none 0 0] 175 zZ)::(X++C)) (.perm ?_) ?_
 ·rw[hX];have:=xaU (a:=(b1,Obj.cells #[Value.int .i64 0,.slice none 0 0] 175 zZ)) (l₂:=C) (l₁:=(b34,Obj.cells (List.toArray [Value.int .i64 (K.n:Int),s1]) 175 zZ)::(N2++((b26,Obj.cells (List.toArray [Value.int .i64 (K.n:Int),s0]) 175 zZ)::(N1++((jc,Obj.cells #[Value.int .i64 (K.n:Int)] 3 zZ)::(N0++[(bx,Obj.cells (aA .u32 [(r:Int)]) 78 zZ)]))))));simpa only[xaQ,xak,xb0]using this
 refine aa.fq (WC (X:=X) (bn:=jc) h hn hr (VT.mono λx hx=>?_) (ht1.mono λx hx=>?_) ?_) ?_
 ·rw[hX];exact .tail _ (xab _ (.tail _ (xae _ hx)))
 ·rw[hX];exact .tail _ (xae _ hx)
 ·rw[hX];exact .tail _ (xab _ (.tail _ (xab _ (.head _))))
 rintro v H ⟨N,rfl,ht⟩;obtain⟨s3,rfl,o3⟩:=ht.one;refine St.p (cV o3) ?_;refine az.q ?_;exact aN.mk .tail ⟨N++X,_,by rw[xak],rfl,ht⟩
def rts(K:Kd):zL:=(List.range K.ho.length).filter λr=>decide (0<K.hold r)
theorem Ml(h:bP kp K S ord ah tr C):Fc zQ 115 #[ptr kp] C (λr H=>∃N,H=N++C/\aT 78 .u32 r (iw (rts K)) N):=by
 obtain⟨b,hC,hO⟩:=h.rep;have hcap:=h.ok.mid.cap;have hle:=h.dN;have hfit:K.ho.length<=1048576:=by
  have:=hO.ul;omega
 refine aF λg=>Jk (ae.aI (Br.no ?_));have abW:∀z∈b.CH,z∈C:=by rw[hC];exact bG.sub (.cons (.app (.app (.app .left))))
 refine Nil.ptr (ai.mk (Ld.u (by rw[hC];exact .head _) ?_));refine hO.ho.bX ?_;rw[au]
 let rk:Nat->zL:=λk=>(List.range k).filter λr=>decide (0<K.hold r)
 refine⟨λvs H=>∃(k:Nat) (w:zV) (N:Hp),vs=[w,iv (k:Int)]/\k<=K.ho.length/\H=N++C/\aT 78 .u32 w (iw (rk k)) N,λvs _=>K.ho.length-bN vs 1,JE.mk ⟨0,_,[],rfl,xaO _,rfl,aT.nil⟩,?_⟩;rintro w11 w12 H ⟨k,w,N,⟨⟩,hk,rfl,hN⟩ gs;refine ae.fy (Br.dec (λhlt=>?_) (λhlt=>?_))
 ·intro J hJ;have fin:∀w' N',aT 78 .u32 w' (iw (rk (k+1))) N'->J [w'] (N'++C):=λw' N' h'=>hJ _ _ λgs=>by
   exact ae.inc (aC.of (.refl _) ⟨k+1,w',N',rfl,hlt,rfl,h'⟩ (by simp only[bN];omega))
  have e:rk (k+1)=rk k++if 0<K.hold k then [k]else []:=by
   show(List.range (k+1)).filter _=_;rw[xce,xb3];congr 1;by_cases hp:0<K.hold k<;>simp[hp]
  refine hO.ho.ld (x:=((K.hold k:Nat):Int)) (bH hlt) (λz hz=>xab _ (abW z hz)) (ae.nB (b:=0) (Br.dec (λhp=>?_) (λhp=>?_)))
  ·rw[e,xad hp]at fin;refine br.q ?_;have Dk:(rk k).length<=k:=by
    have:=xbY (λr=>decide (0<K.hold r)) (List.range k);rwa [xaH]at this
   refine ax.int (e:=78) zK zK zK λbx=>?_;refine hN.rV (.cons .left) (by exact .head _) (by rw[au];omega) (by rw[au];omega) λv' N' cC=>?_;rw[cG]at fin;exact JE.of .tail (fin v' N' cC)
  rw[e,xac hp,xaL]at fin;exact JE.mk (fin w11 N hN)
 obtain rfl:k=K.ho.length:=by omega
 exact aN.here ⟨N,rfl,hN⟩
end
end
end Go.Proofs
