import Derived.Test.YtflhdclplgjbbaaGreatR3
import Derived.Test.YtflhdclplgjbbaaGreatR2
import Derived.Test.YtflhdclplgjbbaaGreatR1
import Derived.Deep.Slices
import Derived.SizedLaws
set_option linter.unusedVariables false
set_option linter.unusedSimpArgs false
set_option linter.unusedSectionVars false
set_option maxRecDepth 100000
namespace Go.Proofs
open Go Go.Sx
open au
def Kl(bq kp bm:Nat)(ok:Bool):Nat×Obj:=(bq,.cells #[ptr kp,.map (some bm),iv (if ok then 0 else 9)] 285 zZ)
abbrev uG(bq kp bm:Nat)(ok:Bool)(es:Array MapEntry)(ck:Nat)(C:Hp):Hp:=Kl bq kp bm ok::(bm,.map es ck)::C
abbrev vr1(v:zV)(_:Unit):Prop:=v=iv 1
abbrev BO(made:zL):List (Nat×Unit):=made.map λr=>(r,())
theorem rj(made:zL):(BO made).map Prod.fst=made:=by
 induction made with
 |nil=>rfl
 |cons a l ih=>simp only[BO,xay,xau,xcU]at ih⊢;exact ih
structure yp(kp:Nat)(K0:Kd)(S0:Nat->au.Fn)(U:au.Fn->Prop)(ord ah:zL)(K:Kd)(S:Nat->au.Fn)(made:zL)(es:Array MapEntry)(ck:Nat)(C:Hp)(ok:Bool):Prop where
 ks:bP kp K S ord ah [] C
 cV:kY K0 S0 U ord K S made
 dN:aF (kN .u32) vr1 es ck (BO made)
 bad:ok=false->¬Fits U K0.cap
theorem yp.nd{kp:Nat}{K0:Kd}{S0:Nat->au.Fn}{U:au.Fn->Prop}{ord ah:zL}{K:Kd}{S:Nat->au.Fn}{made:zL}{es:Array MapEntry}{ck:Nat}{C:Hp}{ok:Bool}(h:yp kp K0 S0 U ord ah K S made es ck C ok):made.Nodup:=by
 have:=h.dN.nd;rwa [rj]at this
structure EP(K:Kd)(S:Nat->au.Fn)(made:zL)(K':Kd)(S':Nat->au.Fn)(made':zL):Prop where
 N:∀s d,K.N s=some d->K'.N s=some d
 fn:∀s,live K.N s->S' s=S s
 mem:∀s∈made,s∈made'
theorem EP.refl{K:Kd}{S:Nat->au.Fn}{made:zL}:EP K S made K S made:=⟨λ_ _ h=>h,λ_ _=>rfl,λ_ h=>h⟩
theorem EP.trans{K K' K2:Kd}{S S' S2:Nat->au.Fn}{made made' fT:zL}(h:EP K S made K' S' made')(h':EP K' S' made' K2 S2 fT):EP K S made K2 S2 fT:=
 ⟨λs d hd=>h'.N s d (h.N s d hd),λs hs=>(h'.fn s (bu h.N hs)).trans (h.fn s hs),λs hs=>h'.mem s (h.mem s hs)⟩
section
variable {kp bq bm:Nat} {K K0:Kd} {S S0:Nat->au.Fn} {U:au.Fn->Prop} {ord ah made:zL} {es:Array MapEntry} {ck:Nat} {C:Hp} {ok:Bool}
theorem MA{tr:zL}{r:Nat}(h:bP kp K S ord ah tr C)(hr:live K.N r):Rd zQ 263 #[ptr bq,.agg (got K.N r).toArray] (uG bq kp bm ok es ck C) (· =iv ((dep K.n (lv ah) K.N r:Nat):Int)):=by
 have hlen:=(aP K.N r).1;refine aI λg=>Hh λb1 _=>?_;cases hN:K.N r with
 |none=>
  have h2:r<2:=by rcases hr with h|⟨d,hd⟩;exact h;rw[hN]at hd;cases hd
  have eg:got K.N r=[iv (-1),u32 r,u32 r]:=fG h2;rw[eg];refine Ld.f ?_;refine ae.lss (Br.T (Ld.n ?_));refine aa.eq (gR h.rep) ?_;rw[aT hN];exact bc.mk .tail rfl
 |some d=>
  have h2:=h.ok.wf.two hN;have hv:=h.ok.wf.var hN;rw[dZ hN h2];refine Ld.f ?_;refine ae.lss (Br.F (DR.of (R:=(b1,Obj.cells (bt d).toArray 144 zZ)::uG bq kp bm ok es ck C) (.refl _) (Ld.n ?_)));refine Ld.f ?_;refine aa.rq (l6 h.rep (d.v:Int)) ?_;rw[xad zO];rintro w rfl;refine⟨.refl _,?_⟩;apply Ext.two;rw[an hN];exact bc.mk .tail rfl
theorem Fo{tr:zL}{r:Nat}(h:bP kp K S ord ah tr C)(hr:live K.N r):Rd zQ 219 #[ptr bq,u32 r] (uG bq kp bm ok es ck C) (· =.tuple #[.agg (got K.N r).toArray,iv ((dep K.n (lv ah) K.N r:Nat):Int)]):=by
 refine aI λg=>HZ λb1 _=>?_;refine Ld.n ?_;refine aa.rq (iQ h.rep (by have:=h.bM hr;omega)) ?_;rw[bZ.2 hr];rintro w rfl;refine Ext.two λBA _=>(St.whole (r:=got K.N r) (by exact .head _) rfl (aP _ _).1 (aP _ _).2 ?_);refine DR.of (R:=[(BA,Obj.cells (got K.N r).toArray 144 zZ)]) (aM.left (A:=[_])) (az.whole (r:=got K.N r) (by exact .head _) (aP _ _).1 ?_);refine az.whole (r:=got K.N r) (by exact .head _) (aP _ _).1 ?_;refine aa.eq (MA h hr) (⟨aM.left (A:=[_]),?_⟩);refine St.whole (r:=got K.N r) (by exact .tail (.head _)) rfl (aP _ _).1 (aP _ _).2 ?_;refine⟨aM.left (A:=[_]),?_⟩;refine az.whole (r:=got K.N r) (by exact .tail _ (.head _)) (aP _ _).1 ?_;exact bc.mk (.skip .tail) rfl
theorem yP(v:zV)(a b:zV)(B:Hp):Rd zQ 220 #[ptr bq,v,a,b] (Kl bq kp bm false::B) (· =u32 0):=by
 refine aI λg=>xF (Ld.n ?_);exact ae.cD (Br.T (bc.mk (.refl _) rfl))
theorem kY.abO(h:kY K0 S0 U ord K S made)(hK:bP kp K S ord ah [] C){K':Kd}{S':Nat->au.Fn}{f:au.Fn}{r:Nat}(m:pX K S K' S' f r)(h2:2<=r)(hU:∀g,aD K0.n ord (λg=>g=f) g->U g):kY K0 S0 U ord K' S' (made++[r]):=h.step hK m h2 hU
theorem kY.again(h:kY K0 S0 U ord K S made)(hK:bP kp K S ord ah [] C){K' K2:Kd}{S':Nat->au.Fn}{f:au.Fn}{r:Nat}{C2:Hp}(m:pX K S K' S' f r)(hf:AA K' K2 r)(cT:bP kp K2 S' ord ah [] C2):kY K0 S0 U ord K2 S' made/\(∀s d,K.N s=some d->K2.N s=some d):=by
 have hold:∀s,K2.hold s=K.hold s:=λs=>by
  rw[hf.hold,m.hold];by_cases e:s=r/\2<=r
  ·rw[xad e,xad e];omega
  rw[xab e,xab e]
 have hN:∀s d,K.N s=some d->K2.N s=some d:=λs d hs=>jX hK.ok cT.ok (λs h=>by rw[hold];exact h) (λs d d' h1 h2=>by
  have a:=hf.N s d' h2;rw[m.N s d h1]at a;exact(xbg a).symm) _ s d hs (xaj _)
 refine⟨⟨hf.n.trans (m.n.trans h.n),hf.cap.trans (m.cap.trans h.cap),λs d hd=>hN s d (h.N s d hd),λs hs=>(m.fn s (h.live hs)).trans (h.fn s hs),λs=>by rw[hold,h.hold],h.two,λg hg=>h.U g (bD (λg=>?_) hg)⟩,hN⟩;rintro⟨s,hs,rfl⟩;have hs':K.hold s≠0:=by rw[<-hold];exact hs
 exact⟨s,hs',m.fn s (.inr (hK.ok.mid.held s hs'))⟩
theorem Q1{made:zL}{r:Nat}(h:r∉made):eo (BO made) r ()=BO (made++[r]):=by
 unfold eo;rw[xab (by rw[rj];exact h)];simp[BO]
theorem o8{made:zL}{r:Nat}:(r∈made->aG (BO made) r=some ())/\(r∉made->aG (BO made) r=none):=by
 refine⟨λh=>?_,λh=>iu.2 (by rw[rj];exact h)⟩;cases e:aG (BO made) r with
 |none=>have:=iu.1 e;rw[rj]at this;exact absurd h this
 |some u=>rfl
theorem CC(hq:yp kp K0 S0 U ord ah K S made es ck C true){v lo hi:Nat}(hv:v<K.n)(hlo:live K.N lo)(hhi:live K.N hi)(hlt:lv ah v<dep K.n (lv ah) K.N lo/\lv ah v<dep K.n (lv ah) K.N hi)
 (hU:∀g,aD K0.n ord (λg=>g=ite S ⟨v,lo,hi⟩) g->U g)(iS:lo≠hi->U (ite S ⟨v,lo,hi⟩))(hf:∀s,K0.hold s=65535->live K0.N s):
  Fc zQ 220 #[ptr bq,iv (v:Int),u32 lo,u32 hi] (uG bq kp bm true es ck C) (λw H=>∃r K' S' made' es' bB C' nA,w=u32 r/\H=uG bq kp bm nA es' bB C'/\yp kp K0 S0 U ord ah K' S' made' es' bB C' nA/\EP K S made K' S' made'/\
   (nA=true->S' r=ite S ⟨v,lo,hi⟩/\(live K0.N r\/r∈made'))):=by
 have hK:=hq.ks;have fD:=hq.nd;refine aI λg=>xF (Ld.n ?_);refine ae.cD (Br.F (Ld.n ?_));refine aa.fq (A4 hK hv hlo hhi (.inr hlt)) ?_;rintro w C' (⟨r,K',S',rfl,cZ,mk⟩|⟨r,rfl,rfl,hlr,Py,hfull,Gf⟩|⟨rfl,rfl,hcap,hne,hT⟩)
 ·refine Ext.two λJ hJ=>(ae.gJ (Br.F (ae.cD (Br.F (ae.BP (b:=1) ?_)))));have ZG:r<4294967296:=by have:=cZ.bM mk.live;omega
  have hA:EP K S made K' S' made:=⟨mk.N,mk.fn,λ_ h=>h⟩;have drop:(r<2\/r∈made)->Nil (ptr bq) λv36=>ai 0 v36 λv37=>Ld (Kl bq kp bm true::(bm,Obj.map es ck)::C') v37 λv38=>aa zQ g 85 #[v38,u32 r] (Kl bq kp bm true::(bm,Obj.map es ck)::C') (λv39 H40=>JE J [u32 r] H40) (dj (aN λw H=>∃r K' S' made' es' bB C' nA,w=u32 r/\H=uG bq kp bm nA es' bB C'/\yp kp K0 S0 U ord ah K' S' made' es' bB C' nA/\EP K S made K' S' made'/\
   (nA=true->S' r=ite S ⟨v,lo,hi⟩/\(live K0.N r\/r∈made')))):=λhr=>by
   refine Ld.n ?_;refine aa.fq (m4 cZ (r:=r) ZG (λh2=>by rw[mk.hold,xad ⟨rfl,h2⟩];omega)) ?_;rintro w C2 ⟨rfl,K2,cT,f2⟩;obtain⟨we,hN2⟩:=hq.cV.again hK mk f2 cT;refine JE.mk (hJ _ _ λgs=>?_);exact aN.here ⟨r,K2,S',made,es,ck,C2,true,rfl,rfl,⟨cT,we,hq.dN,λh=>by cases h⟩,⟨hN2,mk.fn,λ_ h=>h⟩,λ_=>⟨mk.is,hr.imp (λh=>.inl h) id⟩⟩
  by_cases h2:r<2
  ·rw[xam zO];refine cS.or (a:=true) true (λh=>by cases h) zI λgs=>Br.yes ?_;exact drop (.inl h2)
  rw[xal zO];refine cS.or (a:=false) (decide (r∈made)) (λ_=>?_) zI λgs=>?_
  ·refine Ld.n ?_;by_cases hm:r∈made
   ·refine aF.hit (k:=r) (x:=()) jx hq.dN (.tail _ (.head _)) (o8.1 hm) ?_;rintro v rfl;exact ae.gtr ⟨rfl,by rw[xam hm];rfl⟩
   refine aF.bO (k:=r) jx hq.dN (.tail _ (.head _)) (o8.2 hm) ?_;exact ae.gtr ⟨rfl,by rw[xal hm];rfl⟩
  rw[xdx];refine Br.dec (λhm=>drop (.inr hm)) (λhm=>?_);refine Ld.n ?_;refine aF.bK (k:=r) (x:=()) jx KC hq.dN rfl λes' bB he=>⟨_,.tail (.head _),?_⟩;rw[Q1 hm]at he;refine JE.mk (hJ _ _ λgs=>?_);exact aN.here ⟨r,K',S',made++[r],es',bB,C',true,rfl,rfl,⟨cZ,hq.cV.abO hK mk zO hU,he,λh=>by cases h⟩,⟨mk.N,mk.fn,λ_ h=>xae _ h⟩,λ_=>⟨mk.is,.inr zI⟩⟩
 ·refine Ext.two λJ hJ=>(ae.gJ (Br.T (Ld.n ?_)));refine aa.eq (v7 hK hv hlo hhi hlt hlr Py Gf) (Ext.two (JE.mk (hJ _ _ λgs=>?_)));exact aN.here ⟨r,K,S,made,es,ck,_,true,rfl,rfl,hq,.refl,λ_=>⟨Gf,(hq.cV.full hfull).elim .inr λh=>.inl (hf r h)⟩⟩
 refine Ext.two λJ hJ=>(ae.gJ (Br.F (ae.cD (Br.T (Nil.ptr (ai.mk (St.one (by exact .head _) rfl zI rfl ?_)))))));refine JE.mk (hJ _ _ λgs=>?_);refine aN.here ⟨0,K,S,made,es,ck,C',false,rfl,rfl,⟨hK,hq.cV,hq.dN,λ_=>?_⟩,.refl,λh=>by cases h⟩;rintro⟨ku,RU,hfit⟩;have:=hK.ok.roomFor hK.od RU (by rw[hq.cV.cap];exact hfit) (by rw[hq.cV.n];exact hq.cV.U) (d:=⟨v,lo,hi⟩) hlo hhi hne hv hlt (iS hne) hT;omega
end
def pk(p:Nat×Nat):zV:=.agg #[u32 p.1,u32 p.2]
theorem QI(a b:Nat×Nat):BI zQ 337 (pk a) (pk b) (decide (a=b)):=by
 refine BI.flat (fs:=#[⟨"f",78,0,false, "", "thicket/quant",0⟩,⟨"g",78,1,false, "", "thicket/quant",4⟩]) zK zK ?_ ?_
 ·intro f hf;simp only[xak,xaR,xbD]at hf;rcases hf with rfl|rfl
  ·exact⟨by decide,_,_,rfl,rfl,.inl ⟨.u32,_,_,by kernel_rfl,rfl,rfl⟩⟩
  exact⟨by decide,_,_,rfl,rfl,.inl ⟨.u32,_,_,by kernel_rfl,rfl,rfl⟩⟩
 obtain⟨a1,a2⟩:=a;obtain⟨b1,b2⟩:=b;simp[u32];omega
theorem Fp(a:Nat×Nat):mw zQ 337 (pk a):=by
 refine mw.flat (fs:=#[⟨"f",78,0,false, "", "thicket/quant",0⟩,⟨"g",78,1,false, "", "thicket/quant",4⟩]) zK ?_;intro f hf;simp only[xak,xaR,xbD]at hf;rcases hf with rfl|rfl
 ·exact⟨by decide,_,rfl,.inl ⟨.u32,_,_,by kernel_rfl,rfl,rfl⟩⟩
 exact⟨by decide,_,rfl,.inl ⟨.u32,_,_,by kernel_rfl,rfl,rfl⟩⟩
theorem Vu(a:Nat×Nat):Instr.sameBits 10000 (pk a) (pk a)=true:=kS 9998 (by intro x hx;simp[u32]at hx;rcases hx with rfl|rfl<;>exact .inl ⟨_,_,rfl⟩)
def Gt(b3 b5 b1 tc k8:Nat):zV:=.func (.func 264) #[] #[ptr b3,ptr b5,ptr b1,ptr tc,ptr k8]
def JKn(K0:Kd)(F:Nat×Nat->au.Fn)(S:Nat->au.Fn)(made:zL)(ok:Bool)(es:Array MapEntry)(ck:Nat):Prop:=
 ∃m:List ((Nat×Nat)×Nat),aF pk Pe es ck m/\(ok=true->∀y∈m,S y.2=F y.1/\(live K0.N y.2\/y.2∈made))
abbrev XX(e:Bool)(b3 b5 b1 tc k8 bj bq kp bm:Nat)(ok:Bool)(xR:Array MapEntry)(xS:Nat)(es:Array MapEntry)(ck:Nat)(C:Hp):Hp:=
 (k8,.cells #[Gt b3 b5 b1 tc k8] 335 zZ)::(tc,.cells #[.map (some bj)] 334 zZ)::(bj,.map xR xS)::(b5,.cells #[u32 (!e).toNat] 78 zZ)::(b3,.cells #[u32 e.toNat] 78 zZ)::(b1,.cells #[ptr bq] 217 zZ)::uG bq kp bm ok es ck C
section
variable {kp bq bm b3 b5 b1 tc k8 bj:Nat} {K0:Kd} {S0:Nat->au.Fn} {U:au.Fn->Prop} {ord ah:zL} {e:Bool}
theorem yp.vX{K:Kd}{S:Nat->au.Fn}{made:zL}{es:Array MapEntry}{ck:Nat}{C:Hp}{ok:Bool}(h:yp kp K0 S0 U ord ah K S made es ck C ok){r:Nat}(hr:live K0.N r\/r∈made):live K.N r:=by
 rcases hr with hr|hr
 ·exact h.cV.live hr
 exact h.cV.iz h.ks hr
theorem JKn.more{F:Nat×Nat->au.Fn}{K K':Kd}{S S':Nat->au.Fn}{made made':zL}{es xR:Array MapEntry}{ck xS:Nat}{C:Hp}{ok nA:Bool}(hq:yp kp K0 S0 U ord ah K S made es ck C ok)(h:JKn K0 F S made ok xR xS)(ha:EP K S made K' S' made')(hok:nA=true->ok=true):JKn K0 F S' made' nA xR xS:=by
 obtain⟨m,h1,h2⟩:=h;refine⟨m,h1,λh y hy=>?_⟩;obtain⟨a,b⟩:=h2 (hok h) y hy;exact⟨by rw[ha.fn _ (hq.vX b),a],b.imp id (ha.mem _)⟩
def aaL(kp:Nat)(K0:Kd)(S0:Nat->au.Fn)(U:au.Fn->Prop)(ord ah:zL)(e:Bool)(b3 b5 b1 tc k8 bj bq bm:Nat)(K:Kd)(S:Nat->au.Fn)(made:zL)(ok:Bool)(f:au.Fn)(w:zV)(H:Hp):Prop:=
 ∃x K' S' made' es' bB C' nA Zv Zw,w=u32 x/\H=XX e b3 b5 b1 tc k8 bj bq kp bm nA Zv Zw es' bB C'/\yp kp K0 S0 U ord ah K' S' made' es' bB C' nA/\JKn K0 (λp=>jf e S0 p.1 p.2) S' made' nA Zv Zw/\EP K S made K' S' made'/\
  (nA=true->ok=true/\S' x=f/\(live K0.N x\/x∈made'))
theorem DI{N:eE}{n:Nat}{bR:Nat->Nat}(h:WF n bR N)(hl:jI n bR){r v:Nat}(hr:live N r)(hv:v<n)(hle:bR v<=dep n bR N r):
  ∃z p q,got N r=[iv z,u32 p,u32 q]/\(bR v=dep n bR N r->z=(v:Int)/\p=ef N v false r/\q=ef N v true r)/\(bR v<dep n bR N r->ef N v false r=r/\ef N v true r=r):=by
 have hlv:=hl.lt v hv;cases e:N r with
 |none=>
  have h2:r<2:=by rcases hr with h|⟨d,hd⟩;exact h;rw[e]at hd;cases hd
  refine⟨_,_,_,fG h2,λh3=>?_,λh3=>⟨uP h hl h3 _,uP h hl h3 _⟩⟩;rw[aT e]at h3;omega
 |some d=>
  refine⟨_,_,_,dZ e (h.two e),λh3=>?_,λh3=>⟨uP h hl h3 _,uP h hl h3 _⟩⟩;rw[an e]at h3;have:v=d.v:=hl.inj _ _ hv (h.var e) h3;subst this;obtain⟨c1,c2⟩:=kO (N:=N) e;exact⟨rfl,c1.symm,c2.symm⟩
set_option maxHeartbeats 2000000 in
theorem Rj(fO:aU zQ 264=true)(k7:WF K0.n (lv ah) K0.N)(pF:Interp K0.N S0)(jM:jI K0.n (lv ah))(kV:au.Ord K0.n (lv ah) ord)(hf:∀s,K0.hold s=65535->live K0.N s):
  ∀(k a b:Nat),K0.n-min (dep K0.n (lv ah) K0.N a) (dep K0.n (lv ah) K0.N b)=k->∀(K:Kd) (S:Nat->au.Fn) (made:zL) (es:Array MapEntry) (ck:Nat) (C:Hp) (ok:Bool) (xR:Array MapEntry) (xS:Nat),
  live K0.N a->live K0.N b->yp kp K0 S0 U ord ah K S made es ck C ok->JKn K0 (λp=>jf e S0 p.1 p.2) S made ok xR xS->(∀g,aD K0.n ord (λg=>g=jf e S0 a b) g->U g)->
  Fc zQ 264 #[u32 a,u32 b,ptr b3,ptr b5,ptr b1,ptr tc,ptr k8] (XX e b3 b5 b1 tc k8 bj bq kp bm ok xR xS es ck C) (aaL kp K0 S0 U ord ah e b3 b5 b1 tc k8 bj bq bm K S made ok (jf e S0 a b)):=by
 have hc0:∀r,r<2->K0.N r=none:=λr hr=>k7.const hr;intro k;induction k using Nat.strongRecOn with
 |ind k ih=>
 intro a b hk K S made es ck C ok xR xS ha hb hS hJ hU g;have hK:=hS.ks;have KJ:∀r,r<2->K.N r=none:=λr hr=>hK.ok.wf.const hr;have eN:=hS.cV.n;have la:=hS.cV.live ha;have lb:=hS.cV.live hb;have now:∀x,live K0.N x->(S0 x=jf e S0 a b)->∀Z:Hp,aN (aaL kp K0 S0 U ord ah e b3 b5 b1 tc k8 bj bq bm K S made ok (jf e S0 a b)) (.returned (u32 x)) (Z++XX e b3 b5 b1 tc k8 bj bq kp bm ok xR xS es ck C):=λx hx hf Z=>
  aN.mk .right ⟨x,K,S,made,es,ck,C,ok,xR,xS,rfl,rfl,hS,hJ,.refl,λh=>⟨h,by rw[hS.cV.fn x hx];exact hf,.inl hx⟩⟩
 have Gb:e.toNat<2:=by cases e<;>decide
 have Uk:(!e).toNat<2:=by cases e<;>decide
 refine Hg (R:=aN _) ?_;unfold L264;refine Ld.q ?_;refine ae.dx (cS.or (decide (b=e.toNat)) (λ_=>?_) zI λgs=>?_)
 ·refine Ld.q ?_;exact ae.dx ⟨rfl,rfl⟩
 rw[<-xa4];refine Br.dec (λh1=>?_) (λh1=>?_)
 ·refine Ld.q ?_;refine now _ (.inl Gb) ?_ [];rcases h1 with rfl|rfl
  ·exact(Rl pF e b).symm
  rw[Bb];exact(Rl pF e a).symm
 refine Ld.q ?_;refine ae.dx (cS.or (decide (a=b)) (λ_=>ae.dx ⟨rfl,rfl⟩) zI λgs=>?_);rw[<-xa4];refine Br.dec (λh2=>?_) (λh2=>?_)
 ·refine now b hb ?_ [];rcases h2 with rfl|rfl
  ·exact(Rk pF e b).symm
  exact(V8 e S0 a).symm
 refine Ld.q ?_;refine ae.dx (Br.dec (λh3=>?_) (λh3=>?_))
 ·refine now a ha ?_ [];rw[h3,Bb];exact(Rk pF e a).symm
 refine Ld.q ?_;refine Ld.n ?_;cases ok with
 |false=>
  exact ae.cD (Br.T (aN.here ⟨0,K,S,made,es,ck,C,false,xR,xS,rfl,rfl,hS,hJ,.refl,λh=>by cases h⟩))
 |true=>
 refine ae.cD (Br.F (⟨.u32,(a:Int),(b:Int),rfl,rfl,⟨.u32,(a:Int),(b:Int),rfl,rfl,?_⟩⟩));have ahV:(if(b:Int)<(a:Int)then(b:Int)else(a:Int))=((min a b:Nat):Int):=by split<;>omega
 have ahW:(if(b:Int)>(a:Int)then(b:Int)else(a:Int))=((max a b:Nat):Int):=by split<;>omega
 rw[ahV,ahW];refine Build.mk (cs:=[u32 (min a b),u32 (max a b)]) zK λqS _=>?_;refine St.p (by intro x hx;simp[u32]at hx;rcases hx with rfl|rfl<;>rfl) ?_;refine Ld.q ?_;refine az.q ?_;obtain⟨m,hE,hkn⟩:=hJ;have yc:(bj,Obj.map xR xS)∈(qS,Obj.cells #[u32 (min a b),u32 (max a b)] 337 zZ)::XX e b3 b5 b1 tc k8 bj bq kp bm true xR xS es ck C:=.tail _ (.tail _ (.tail _ (.head _)));cases hg:aG m (min a b,max a b)with
 |some x=>
  refine aF.F6 (ke:=pk) (k:=(min a b,max a b)) QI Fp hE yc hg ?_;rintro v rfl;obtain⟨g1,g2⟩:=hkn rfl _ ((dW hE.nd).1 hg);refine Ext.mk rfl (Ext.mk rfl (Br.yes (aN.mk .tail ⟨x,K,S,made,es,ck,C,true,xR,xS,rfl,rfl,hS,⟨m,hE,hkn⟩,.refl,λh=>⟨h,?_,g2⟩⟩)));rw[g1];exact XW e S0 a b
 |none=>
 refine aF.vR (ke:=pk) (k:=(min a b,max a b)) QI Fp hE yc hg ?_;refine Ext.mk rfl (Ext.mk rfl (Br.no (Ld.q ?_)));refine aa.eq (Fo (bm:=bm) (ok:=true) (es:=es) (ck:=ck) hK la) (Ext.two λb36 _=>(St.whole (r:=got K.N a) (by exact .head _) rfl (aP _ _).1 (aP _ _).2 ?_));refine Ld.q ?_;refine aa.eq (Fo (bm:=bm) (ok:=true) (es:=es) (ck:=ck) hK lb) (Ext.two λb44 _=>(St.whole (r:=got K.N b) (by exact .head _) rfl (aP _ _).1 (aP _ _).2 ?_));rw[oh hS.cV.N hc0 KJ ha,oh hS.cV.N hc0 KJ hb,eN,wJ hS.cV.N KJ hc0 ha,wJ hS.cV.N KJ hc0 hb];have hmin:min (dep K0.n (lv ah) K0.N a) (dep K0.n (lv ah) K0.N b)<K0.n:=by
  refine xaD λhn=>h2 (.inr ?_);have EK:∀r,live K0.N r->K0.n<=dep K0.n (lv ah) K0.N r->r<2:=λr hr hd=>by
   rcases hr with h|⟨d,dP⟩
   ·exact h
   rw[an dP]at hd;have:=jM.lt _ (k7.var dP);omega
  have a2:=EK a ha zO;have b2:=EK b hb zO;cases e<;>simp only[Bool.toNat_true,Bool.toNat_false,xcw,xcq]at h1 h2<;>omega
 obtain⟨v,hv,hvl⟩:=afy k7 jM (hc0 0 zO) hmin;have hva:=hv.le a zI;have hvb:=hv.le b zI;obtain⟨za,pa,qa,ega,ga1,ga2⟩:=DI k7 jM ha hv.lt hva;obtain⟨zb,pb,qb,egb,gb1,gb2⟩:=DI k7 jM hb hv.lt hvb;rw[ega,egb];have fM:∀r∈[a,b,0],live K0.N r:=λr hr=>by
  simp only[xak,xaR,xbD]at hr;rcases hr with rfl|rfl|rfl
  ·exact ha
  ·exact hb
  exact .inl zO
 obtain⟨f1,f2⟩:=py (S:=S0) k7 jM pF fM hv false;obtain⟨t1,t2⟩:=py (S:=S0) k7 jM pF fM hv true;rw[D4 v _ a b (hc0 0 zO)]at f1 f2 t1 t2;have ec:∀bb,jf e S0 (ef K0.N v bb a) (ef K0.N v bb b)=λx=>jf e S0 a b (ak.aB x v bb):=λbb=>by
  have:=KZ (S:=S0) k7 jM pF rfl fM hv (jt3 e) bb;rw[D4 v _ a b (hc0 0 zO)]at this;exact this
 generalize ea1:ef K0.N v false a=a1 at*;generalize ea2:ef K0.N v true a=a2 at*;generalize ec1:ef K0.N v false b=c1 at*;generalize ec2:ef K0.N v true b=c2 at*;have iA:=jM.lt v hv.lt;have Dw:=kV.of jM hv.lt;have sR:∀j,j<lv ah v->¬bU (jf e S0 a b) (ord.getD j 0):=zN k7 jM pF kV (q:=[a,b,0]) rfl fM (xb7 iA) hv.le (jt3 e);obtain⟨i1,P5⟩:=jK (n:=K0.n) (ord:=ord) (c:=jf e S0 a1 c1) sR (b:=false) (by rw[Dw,<-ea1,<-ec1];exact ec false);obtain⟨i2,P4⟩:=jK (n:=K0.n) (ord:=ord) (c:=jf e S0 a2 c2) sR (b:=true) (by rw[Dw,<-ea2,<-ec2];exact ec true);have eF:jf e S0 a1 c1=λx=>jf e S0 a b (ak.aB x v false):=by rw[<-ea1,<-ec1];exact ec false
 have eT:jf e S0 a2 c2=λx=>jf e S0 a b (ak.aB x v true):=by rw[<-ea2,<-ec2];exact ec true
 have la1:=f1 a1 zI;have lc1:=f1 c1 zI;have la2:=t1 a2 zI;have lc2:=t1 c2 zI;have da1:=f2 a1 zI;have dc1:=f2 c1 zI;have da2:=t2 a2 zI;have dc2:=t2 c2 zI;refine Ld.f ?_;intro J49 h49;have adS:J49 [iv (v:Int)] ((b44,.cells #[iv zb,u32 pb,u32 qb] 144 zZ)::(b36,.cells #[iv za,u32 pa,u32 qa] 144 zZ)::(qS,.cells #[u32 (min a b),u32 (max a b)] 337 zZ)::XX e b3 b5 b1 tc k8 bj bq kp bm true xR xS es ck C):=by
  refine h49 _ _ λgs J53 h53=>?_;have adR:J53 [] ((b44,.cells #[iv zb,u32 pb,u32 qb] 144 zZ)::(b36,.cells #[iv za,u32 a1,u32 a2] 144 zZ)::(qS,.cells #[u32 (min a b),u32 (max a b)] 337 zZ)::XX e b3 b5 b1 tc k8 bj bq kp bm true xR xS es ck C):=by
   refine h53 _ λgs J56 h56=>?_;have adQ:J56 [] ((b44,.cells #[iv zb,u32 c1,u32 c2] 144 zZ)::(b36,.cells #[iv za,u32 a1,u32 a2] 144 zZ)::(qS,.cells #[u32 (min a b),u32 (max a b)] 337 zZ)::XX e b3 b5 b1 tc k8 bj bq kp bm true xR xS es ck C):=by
    refine h56 _ λgs=>?_;refine Ld.q ?_;refine Ld.f ?_;refine Ld.f ?_;refine aE.of rfl fO ?_;have hJ0:JKn K0 (λp=>jf e S0 p.1 p.2) S made true xR xS:=⟨m,hE,hkn⟩;refine aa.fq (args:=#[u32 a1,u32 c1,ptr b3,ptr b5,ptr b1,ptr tc,ptr k8]) (ih _ zO a1 c1 rfl K S made es ck C true xR xS la1 lc1 hS hJ0 (λg hg=>hU g (P5 g hg))) ?_;rintro w H ⟨x1,K1,S1,y5,kB,jN,C1,ok1,afV,afX,rfl,rfl,EH,hJ1,WR,Dy⟩;refine DR.of (R:=[(b44,.cells #[iv zb,u32 c1,u32 c2] 144 zZ),(b36,.cells #[iv za,u32 a1,u32 a2] 144 zZ),(k8,.cells #[Gt b3 b5 b1 tc k8] 335 zZ),(b1,.cells #[ptr bq] 217 zZ)]) (.cons (.cons (.skip (.cons (.skip (.skip (.skip (.skip (aM.left (A:=[_])))))))))) (Ld.q ?_);refine Ld.q ?_;refine Ld.f ?_;refine Ld.f ?_;refine aE.of rfl fO (aa.fq (args:=#[u32 a2,u32 c2,ptr b3,ptr b5,ptr b1,ptr tc,ptr k8]) (ih _ zO a2 c2 rfl K1 S1 y5 kB jN C1 ok1 afV afX la2 lc2 EH hJ1 (λg hg=>hU g (P4 g hg))) ?_);rintro w H ⟨x2,K2,S2,fT,gV,iE,C2,ok2,afU,afW,rfl,rfl,iY,BV,og,yb⟩;refine⟨.cons (.cons (.skip (.cons (.skip (.skip (.skip (.skip (aM.left (A:=[_]))))))))),?_⟩;have yg:=WR.trans og;have fin:∀(x3:Nat) K3 S3 jh po qR C3 EC,yp kp K0 S0 U ord ah K3 S3 jh po qR C3 EC->EP K2 S2 fT K3 S3 jh->(EC=true->ok2=true/\S3 x3=jf e S0 a b/\(live K0.N x3\/x3∈jh))->
      ∀H49,H49=(b44,.cells #[iv zb,u32 c1,u32 c2] 144 zZ)::(b36,.cells #[iv za,u32 a1,u32 a2] 144 zZ)::(qS,.cells #[u32 (min a b),u32 (max a b)] 337 zZ)::XX e b3 b5 b1 tc k8 bj bq kp bm EC afU afW po qR C3->
      aM H49 [(b44,.cells #[iv zb,u32 c1,u32 c2] 144 zZ),(b36,.cells #[iv za,u32 a1,u32 a2] 144 zZ),(k8,.cells #[Gt b3 b5 b1 tc k8] 335 zZ),(b1,.cells #[ptr bq] 217 zZ)]/\
      Ld H49 (ptr tc) λv77=>az 2 H49 (ptr qS) λv78=>iJ zQ 337 H49 v77 v78 (u32 x3) λH79=>aN (aaL kp K0 S0 U ord ah e b3 b5 b1 tc k8 bj bq bm K S made true (jf e S0 a b)) (.returned (u32 x3)) H79:=by
     rintro x3 K3 S3 jh po qR C3 EC hS3 EI Dx H49 rfl;refine⟨.cons (.cons (.skip (.cons (.skip (.skip (.skip (.skip (aM.left (A:=[_]))))))))),?_⟩;refine Ld.q ?_;refine az.q ?_;obtain⟨m3,Pv,ZT⟩:=BV.more iY EI (λh=>(Dx h).1);refine aF.LY (ke:=pk) (k:=(min a b,max a b)) (vr:=Pe) (x:=x3) QI Fp Vu Pv rfl λes' bB he=>⟨_,.tail (.tail (.tail (.tail (.tail (.head _))))),?_⟩;refine aN.mk (.skip (.skip .tail)) ⟨x3,K3,S3,jh,po,qR,C3,EC,es',bB,rfl,rfl,hS3,⟨_,he,λh y hy=>(nX hy).elim (λe1=>?_) (λhy=>ZT h y hy)⟩,yg.trans EI,λh=>⟨rfl,(Dx h).2⟩⟩;rw[e1];exact⟨(Dx h).2.1.trans (XW e S0 a b).symm,(Dx h).2.2⟩
    cases ok2 with
    |false=>
     exact aa.eq (args:=#[ptr bq,iv (v:Int),u32 x1,u32 x2]) (yP (kp:=kp) (bm:=bm) _ _ _ _) (fin 0 K2 S2 fT gV iE C2 false iY .refl (λh=>by cases h) _ rfl)
    |true=>
     obtain⟨Zf,e2,m2⟩:=yb rfl;obtain⟨_,e1,m1⟩:=Dy Zf;have Zr:=EH.vX m1;have l1:live K2.N x1:=bu og.N Zr;have l2:=iY.vX m2;have W8:S2 x1=jf e S0 a1 c1:=(og.fn x1 Zr).trans e1;have cT:=iY.ks;have n2:=iY.cV.n;have b1':=cT.ok.below cT.od (l:=lv ah v+1) l1 zO (by rw[W8];exact i1);have b2':=cT.ok.below cT.od (l:=lv ah v+1) l2 zO (by rw[e2];exact i2);have sQ:ite S2 ⟨v,x1,x2⟩=jf e S0 a b:=by
      funext x
      unfold au.ite;rw[W8,e2,eF,eT]
      conv=>rhs;rw[<-ak.iq x v]
      simp only;cases x.testBit v<;>rfl
     have iS:x1≠x2->U (ite S2 ⟨v,x1,x2⟩):=λhx=>by
      have zq:bU (jf e S0 a b) (ord.getD (lv ah v) 0):=by
       rw[Dw];refine xaD λhno=>hx ?_;refine cT.ok.wf.same cT.ok.lv cT.ok.mid.int l1 l2 λx=>?_;rw[W8,e2,eF,eT];exact(cL hno x false).trans (cL hno x true).symm
      rw[sQ];exact hU _ (oV sR iA zq)
     refine aa.fq (args:=#[ptr bq,iv (v:Int),u32 x1,u32 x2]) (CC iY (by rw[n2];exact hv.lt) l1 l2 ⟨by omega,by omega⟩ (by rw[sQ];exact hU) iS hf) ?_;rintro w H ⟨r,K3,S3,jh,po,qR,C3,EC,rfl,rfl,hS3,EI,Dx⟩;exact fin r K3 S3 jh po qR C3 EC hS3 EI (λh=>⟨rfl,by rw[(Dx h).1,sQ],(Dx h).2⟩) _ rfl
   refine ae.nE (Br.dec (λhh=>?_) (λhh=>?_))
   ·obtain⟨x1,x2⟩:=gb2 zO;subst x1;subst x2;refine ai.mk (St.one (by exact .head _) rfl zI rfl ?_);refine ai.mk (St.one (by exact .head _) rfl zI rfl ?_);exact JE.mk adQ
   obtain⟨x1,x2,x3⟩:=gb1 zO;rw[x2,x3];exact JE.mk adQ
  refine ae.nE (Br.dec (λhh=>?_) (λhh=>?_))
  ·obtain⟨x1,x2⟩:=ga2 zO;subst x1;subst x2;refine ai.mk (St.one (by exact .tail (.head _)) rfl zI rfl ?_);refine ai.mk (St.one (by exact .tail (.head _)) rfl zI rfl ?_);exact JE.mk adR
  obtain⟨x1,x2,x3⟩:=ga1 zO;rw[x2,x3];exact JE.mk adR
 refine ae.fC (Br.dec (λhh=>?_) (λhh=>?_))
 ·obtain⟨x1,x2,x3⟩:=gb1 zO;refine Ld.f ?_;subst x1;exact JE.mk adS
 obtain⟨x1,x2,x3⟩:=ga1 zO;subst x1;exact JE.mk adS
end
theorem Ry{N:eE}{S:Nat->au.Fn}{n:Nat}{bR:Nat->Nat}{ord:zL}(h:WF n bR N)(hl:jI n bR)(hi:Interp N S)(ho:au.Ord n bR ord){r:Nat}(hr:live N r){l:Nat}(zn:l<=n)(hle:l<=dep n bR N r):∀j,j<l->¬bU (S r) (ord.getD j 0):=by
 rintro j hj ⟨x,hx⟩;apply hx;obtain⟨o1,o2⟩:=ho.aZ j zO;rw[h.bJ hl hi hr o1 zO x false,h.bJ hl hi hr o1 zO x true]
section
variable {kp bq bm:Nat} {K0:Kd} {S0:Nat->au.Fn} {U:au.Fn->Prop} {ord ah:zL}
def Xr(kp:Nat)(K0:Kd)(S0:Nat->au.Fn)(U:au.Fn->Prop)(ord ah:zL)(bq bm:Nat)(LB:Hp)(K:Kd)(S:Nat->au.Fn)(made:zL)(f:au.Fn)(w:zV)(H:Hp):Prop:=
 ∃x K' S' made' es' bB C' nA,w=u32 x/\H=LB++uG bq kp bm nA es' bB C'/\yp kp K0 S0 U ord ah K' S' made' es' bB C' nA/\EP K S made K' S' made'/\(nA=true->S' x=f/\(live K0.N x\/x∈made'))
theorem V7{e:Bool}(k7:WF K0.n (lv ah) K0.N)(pF:Interp K0.N S0)(jM:jI K0.n (lv ah))(kV:au.Ord K0.n (lv ah) ord)(hf:∀s,K0.hold s=65535->live K0.N s){a b:Nat}{K:Kd}{S:Nat->au.Fn}{made:zL}{es:Array MapEntry}{ck:Nat}{C:Hp}
 (ha:live K0.N a)(hb:live K0.N b)(hS:yp kp K0 S0 U ord ah K S made es ck C true)(hU:∀g,aD K0.n ord (λg=>g=jf e S0 a b) g->U g):
  Fc zQ 223 #[ptr bq,u32 a,u32 b,.bool e] (uG bq kp bm true es ck C) (Xr kp K0 S0 U ord ah bq bm [] K S made (jf e S0 a b)):=by
 refine aI λg=>HW λb1 _ b3 _ b5 _=>?_;refine St.one (by exact .tail (.head _)) rfl zI rfl ?_;refine St.one (by exact .head _) rfl zI rfl ?_;have fO:aU zQ 264=true:=by kernel_rfl
 intro J hJ;have hJ':J [] ((b5,.cells #[u32 (!e).toNat] 78 zZ)::(b3,.cells #[u32 e.toNat] 78 zZ)::(b1,.cells #[ptr bq] 217 zZ)::uG bq kp bm true es ck C):=by
  refine hJ _ λgs=>?_;intro bj _ tc _;refine St.one (by exact .head _) rfl zI rfl ?_;intro k8 _;refine St.one (by exact .head _) rfl zI rfl ?_;refine Ld.q ?_;refine aE.of rfl fO (aa.fq (args:=#[u32 a,u32 b,ptr b3,ptr b5,ptr b1,ptr tc,ptr k8]) (Rj (e:=e) fO k7 pF jM kV hf _ a b rfl K S made es ck C true #[] 0 ha hb hS ⟨[],aF.empty,λ_ y hy=>by cases hy⟩ hU) ?_);rintro w H ⟨x,K',S',made',es',bB,C',nA,Zv,Zw,rfl,rfl,Nj,_,hA,ho⟩;exact aN.mk (.skip (.skip (.skip (.skip (.skip .tail))))) ⟨x,K',S',made',es',bB,C',nA,rfl,rfl,Nj,hA,λh=>(ho h).2⟩
 cases e with
 |true=>
  refine Br.yes (St.one (by exact .tail (.head _)) rfl zI rfl ?_);refine St.one (by exact .head _) rfl zI rfl ?_;exact JE.mk hJ'
 |false=>exact Br.no (JE.mk hJ')
def Lu(kp:Nat)(K0:Kd)(S0:Nat->au.Fn)(U:au.Fn->Prop)(ord ah:zL)(bq bm:Nat)(t:Bool->Bool->Bool)(v:Nat)(fv:zV)(LB:Hp):Prop:=
 ∃f first cap,fv=.func (.func f) first cap/\aU zQ f=true/\∀(r:Nat) (d:Nd),K0.N r=some d->d.v=v->∀K S made es ck C,yp kp K0 S0 U ord ah K S made es ck C true->(∀g,aD K0.n ord (λg=>g=QF t v (S0 r)) g->U g)->
  Fc zQ f (first++ #[.agg (bt d).toArray]++cap) (LB++uG bq kp bm true es ck C) (Xr kp K0 S0 U ord ah bq bm LB K S made (QF t v (S0 r)))
def Tj(b1 je mj b3 Ac:Nat):zV:=.func (.func 218) #[] #[ptr b1,ptr je,ptr mj,ptr b3,ptr Ac]
def DKn(K0:Kd)(F:Nat->au.Fn)(S:Nat->au.Fn)(made:zL)(ok:Bool)(es:Array MapEntry)(ck:Nat):Prop:=
 ∃m:List (Nat×Nat),aF (kN .u32) Pe es ck m/\(ok=true->∀y∈m,S y.2=F y.1/\(live K0.N y.2\/y.2∈made))
theorem DKn.more{F:Nat->au.Fn}{K K':Kd}{S S':Nat->au.Fn}{made made':zL}{es xR:Array MapEntry}{ck xS:Nat}{C:Hp}{ok nA:Bool}(hq:yp kp K0 S0 U ord ah K S made es ck C ok)(h:DKn K0 F S made ok xR xS)(ha:EP K S made K' S' made')(hok:nA=true->ok=true):DKn K0 F S' made' nA xR xS:=by
 obtain⟨m,h1,h2⟩:=h;refine⟨m,h1,λh y hy=>?_⟩;obtain⟨a,b⟩:=h2 (hok h) y hy;exact⟨by rw[ha.fn _ (hq.vX b),a],b.imp id (ha.mem _)⟩
abbrev dHp(b1 b3 je mj Ac bd lvl:Nat)(fv:zV)(LB:Hp)(bq kp bm:Nat)(ok:Bool)(PA:Array MapEntry)(PB:Nat)(es:Array MapEntry)(ck:Nat)(C:Hp):Hp:=
 (Ac,.cells #[Tj b1 je mj b3 Ac] 287 zZ)::(mj,.cells #[.map (some bd)] 286 zZ)::(bd,.map PA PB)::(je,.cells #[iv (lvl:Int)] 3 zZ)::(b3,.cells #[fv] 204 zZ)::(b1,.cells #[ptr bq] 217 zZ)::(LB++uG bq kp bm ok es ck C)
def aio(kp:Nat)(K0:Kd)(S0:Nat->au.Fn)(U:au.Fn->Prop)(ord ah:zL)(t:Bool->Bool->Bool)(v b1 b3 je mj Ac bd:Nat)(fv:zV)(LB:Hp)(bq bm:Nat)(K:Kd)(S:Nat->au.Fn)(made:zL)(ok:Bool)(f:au.Fn)(w:zV)(H:Hp):Prop:=
 ∃x K' S' made' es' bB C' nA aas aau,w=u32 x/\H=dHp b1 b3 je mj Ac bd (lv ah v) fv LB bq kp bm nA aas aau es' bB C'/\yp kp K0 S0 U ord ah K' S' made' es' bB C' nA/\DKn K0 (λr=>QF t v (S0 r)) S' made' nA aas aau/\EP K S made K' S' made'/\
  (nA=true->ok=true/\S' x=f/\(live K0.N x\/x∈made'))
variable {b1 b3 je mj Ac bd:Nat} {fv:zV} {LB:Hp} {t:Bool->Bool->Bool} {v:Nat}
set_option maxHeartbeats 2000000 in
theorem SX(fO:aU zQ 218=true)(hLq:Lu kp K0 S0 U ord ah bq bm t v fv LB)(ht:∀a,t a a=a)(hv:v<K0.n)(k7:WF K0.n (lv ah) K0.N)(pF:Interp K0.N S0)(jM:jI K0.n (lv ah))(kV:au.Ord K0.n (lv ah) ord)(hf:∀s,K0.hold s=65535->live K0.N s):
  ∀(k r:Nat),K0.n-dep K0.n (lv ah) K0.N r=k->∀(K:Kd) (S:Nat->au.Fn) (made:zL) (es:Array MapEntry) (ck:Nat) (C:Hp) (ok:Bool) (PA:Array MapEntry) (PB:Nat),
  live K0.N r->yp kp K0 S0 U ord ah K S made es ck C ok->DKn K0 (λr=>QF t v (S0 r)) S made ok PA PB->(∀g,aD K0.n ord (λg=>g=QF t v (S0 r)) g->U g)->
  Fc zQ 218 #[u32 r,ptr b1,ptr je,ptr mj,ptr b3,ptr Ac] (dHp b1 b3 je mj Ac bd (lv ah v) fv LB bq kp bm ok PA PB es ck C) (aio kp K0 S0 U ord ah t v b1 b3 je mj Ac bd fv LB bq bm K S made ok (QF t v (S0 r))):=by
 have hc0:∀r,r<2->K0.N r=none:=λr hr=>k7.const hr;intro k;induction k using Nat.strongRecOn with
 |ind k ih=>
 intro r hk K S made es ck C ok PA PB hr hS hD hU g;have hK:=hS.ks;have KJ:∀r,r<2->K.N r=none:=λr hr=>hK.ok.wf.const hr;have eN:=hS.cV.n;have lr:=hS.cV.live hr;refine H6 (R:=aN _) ?_;unfold L218;refine Ld.q ?_;refine aa.eq (Fo (bm:=bm) (ok:=ok) (es:=es) (ck:=ck) hK lr) (Ext.two λb6 _=>(St.whole (r:=got K.N r) (by exact .head _) rfl (aP _ _).1 (aP _ _).2 ?_));rw[oh hS.cV.N hc0 KJ hr,eN,wJ hS.cV.N KJ hc0 hr];refine Ld.q ?_;refine ae.nE (cS.or (!ok) (λ_=>?_) zI λgs=>?_)
 ·refine Ld.q ?_;refine Ld.n ?_;exact ae.cD ⟨rfl,by cases ok<;>rfl⟩
 refine Br.mk (λhb=>?_) (λhb=>?_)
 ·-- deeper, or an error before
  refine aN.mk .tail ⟨r,K,S,made,es,ck,C,ok,PA,PB,rfl,rfl,hS,hD,.refl,λh=>⟨h,?_,.inl hr⟩⟩;rw[h]at hb;simp only[xcw,xdu,xaJ]at hb;rw[hS.cV.fn r hr];refine(Xt ht ?_).symm;rintro⟨x,hx⟩;apply hx;rw[k7.bJ jM pF hr hv hb x false,k7.bJ jM pF hr hv hb x true]
 simp only[xaG,xbp,Bool.not_eq_false',Nat.not_lt]at hb;obtain⟨Bg,rfl⟩:=hb;obtain⟨m,hE,hkn⟩:=hD;refine Ld.q ?_;have yc:(bd,Obj.map PA PB)∈(b6,Obj.cells (got K0.N r).toArray 144 zZ)::dHp b1 b3 je mj Ac bd (lv ah v) fv LB bq kp bm true PA PB es ck C:=.tail _ (.tail _ (.tail _ (.head _)));have hlv:=jM.lt v hv;obtain⟨d,hd⟩:∃d,K0.N r=some d:=by
  cases e:K0.N r with
  |none=>rw[aT e]at Bg;omega
  |some d=>exact⟨d,rfl⟩
 have ed:=an (n:=K0.n) (ah:=lv ah) hd;have h2:=k7.two hd;have kA:=k7.var hd;cases hg:aG m r with
 |some x=>
  refine aF.hit (k:=r) jx hE yc hg ?_;rintro w rfl;obtain⟨g1,g2⟩:=hkn rfl _ ((dW hE.nd).1 hg);exact Ext.mk rfl (Ext.mk rfl (Br.yes (aN.mk .tail ⟨x,K,S,made,es,ck,C,true,PA,PB,rfl,rfl,hS,⟨m,hE,hkn⟩,.refl,λh=>⟨h,g1,g2⟩⟩)))
 |none=>
 refine aF.bO (k:=r) jx hE yc hg ?_;refine Ext.mk rfl (Ext.mk rfl (Br.no ?_));rw[dZ hd h2];intro J hJ;have fin:∀(x3:Nat) K3 S3 jh po qR C3 EC aar aat,yp kp K0 S0 U ord ah K3 S3 jh po qR C3 EC->DKn K0 (λr=>QF t v (S0 r)) S3 jh EC aar aat->EP K S made K3 S3 jh->(EC=true->S3 x3=QF t v (S0 r)/\(live K0.N x3\/x3∈jh))->
   J [u32 x3] ((b6,.cells (bt d).toArray 144 zZ)::dHp b1 b3 je mj Ac bd (lv ah v) fv LB bq kp bm EC aar aat po qR C3):=by
  intro x3 K3 S3 jh po qR C3 EC aar aat hS3 hD3 EI Dx;refine hJ _ _ λgs=>?_;refine Ld.q ?_;obtain⟨m3,Pv,ZT⟩:=hD3;refine aF.bK (k:=r) (x:=x3) jx KC Pv rfl λes' bB he=>⟨_,.tail (.tail (.tail (.head _))),?_⟩;refine aN.mk .tail ⟨x3,K3,S3,jh,po,qR,C3,EC,es',bB,rfl,rfl,hS3,⟨_,he,λh y hy=>(nX hy).elim (λe1=>?_) (λhy=>ZT h y hy)⟩,EI,λh=>⟨rfl,Dx h⟩⟩;rw[e1];exact Dx h
 have hD0:DKn K0 (λr=>QF t v (S0 r)) S made true PA PB:=⟨m,hE,hkn⟩;refine Ld.q ?_;refine ae.dx (Br.dec (λhl=>?_) (λhl=>?_))
 ·-- at the variable
  have ev:d.v=v:=jM.inj _ _ kA hv zO;obtain⟨f,first,cap,rfl,Wx,acW⟩:=hLq;refine Ld.q ?_;refine az.q ?_;refine aE.of rfl Wx (aa.fq (C:=LB++uG bq kp bm true es ck C) (acW r d hd ev K S made es ck C hS hU) ?_);rintro w H ⟨x,K',S',made',es',bB,C',nA,rfl,rfl,Nj,hA,ho⟩;exact JE.mk (fin x K' S' made' es' bB C' nA PA PB Nj (hD0.more hS hA (λ_=>rfl)) hA ho)
 -- above it
 have agy:lv ah d.v<lv ah v:=by omega
 have hne:d.v≠v:=λe=>by rw[e]at agy;omega
 obtain⟨g1,g2,g3⟩:=gj (S:=S0) k7 jM pF hr kA zO false;obtain⟨t1,t2,t3⟩:=gj (S:=S0) k7 jM pF hr kA zO true;obtain⟨q1,q2⟩:=kO (N:=K0.N) hd;rw[q1]at g1 g2 g3;rw[q2]at t1 t2 t3;have iA:=jM.lt d.v kA;have Dw:=kV.of jM kA;have sR:∀j,j<lv ah d.v->¬bU (QF t v (S0 r)) (ord.getD j 0):=λj hj=>TX (Ry k7 jM pF kV hr (xb7 iA) zO j hj);have eF:QF t v (S0 d.lo)=λx=>QF t v (S0 r) (ak.aB x d.v false):=by rw[<-TY hne];congr 1;exact funext g1
 have eT:QF t v (S0 d.hi)=λx=>QF t v (S0 r) (ak.aB x d.v true):=by rw[<-TY hne];congr 1;exact funext t1
 obtain⟨i1,P5⟩:=jK (n:=K0.n) (ord:=ord) (c:=QF t v (S0 d.lo)) sR (b:=false) (by rw[Dw];exact eF);obtain⟨i2,P4⟩:=jK (n:=K0.n) (ord:=ord) (c:=QF t v (S0 d.hi)) sR (b:=true) (by rw[Dw];exact eT);refine Ld.q ?_;refine Ld.f ?_;refine aE.of rfl fO (aa.fq (args:=#[u32 d.lo,ptr b1,ptr je,ptr mj,ptr b3,ptr Ac]) (ih _ zO d.lo rfl K S made es ck C true PA PB g2 hS hD0 (λg hg=>hU g (P5 g hg))) ?_);rintro w H ⟨x1,K1,S1,y5,kB,jN,C1,ok1,ahY,ah0,rfl,rfl,EH,hD1,WR,Dy⟩;refine DR.of (R:=[(b6,.cells (bt d).toArray 144 zZ),(Ac,.cells #[Tj b1 je mj b3 Ac] 287 zZ),(b1,.cells #[ptr bq] 217 zZ)]) (.cons (.cons (.skip (.skip (.skip (.skip (aM.left (A:=[_])))))))) (Ld.q ?_);refine Ld.f ?_;refine Ld.q ?_;refine Ld.f ?_;refine aE.of rfl fO (aa.fq (args:=#[u32 d.hi,ptr b1,ptr je,ptr mj,ptr b3,ptr Ac]) (ih _ zO d.hi rfl K1 S1 y5 kB jN C1 ok1 ahY ah0 t2 EH hD1 (λg hg=>hU g (P4 g hg))) ?_);rintro w H ⟨x2,K2,S2,fT,gV,iE,C2,ok2,ad6,ad9,rfl,rfl,iY,hD2,og,yb⟩;refine⟨.cons (.cons (.skip (.skip (.skip (.skip (aM.left (A:=[_]))))))),?_⟩;have yg:=WR.trans og;cases ok2 with
 |false=>
  refine aa.eq (args:=#[ptr bq,iv (d.v:Int),u32 x1,u32 x2]) (yP (kp:=kp) (bm:=bm) _ _ _ _) (⟨.cons (.cons (.skip (.skip (.skip (.skip (aM.left (A:=[_]))))))),?_⟩);exact JE.mk (fin 0 K2 S2 fT gV iE C2 false ad6 ad9 iY hD2 yg (λh=>by cases h))
 |true=>
  obtain⟨Zf,e2,m2⟩:=yb rfl;obtain⟨_,e1,m1⟩:=Dy Zf;have Zr:=EH.vX m1;have l1:live K2.N x1:=bu og.N Zr;have l2:=iY.vX m2;have W8:S2 x1=QF t v (S0 d.lo):=(og.fn x1 Zr).trans e1;have cT:=iY.ks;have n2:=iY.cV.n;have b1':=cT.ok.below cT.od (l:=lv ah d.v+1) l1 zO (by rw[W8];exact i1);have b2':=cT.ok.below cT.od (l:=lv ah d.v+1) l2 zO (by rw[e2];exact i2);have sQ:ite S2 ⟨d.v,x1,x2⟩=QF t v (S0 r):=by
   funext x
   unfold au.ite;rw[W8,e2,eF,eT]
   conv=>rhs;rw[<-ak.iq x d.v]
   simp only;cases x.testBit d.v<;>rfl
  have iS:x1≠x2->U (ite S2 ⟨d.v,x1,x2⟩):=λhx=>by
   have zq:bU (QF t v (S0 r)) (ord.getD (lv ah d.v) 0):=by
    rw[Dw];refine xaD λhno=>hx ?_;refine cT.ok.wf.same cT.ok.lv cT.ok.mid.int l1 l2 λx=>?_;rw[W8,e2,eF,eT];exact(cL hno x false).trans (cL hno x true).symm
   rw[sQ];exact hU _ (oV sR iA zq)
  refine aa.fq (args:=#[ptr bq,iv (d.v:Int),u32 x1,u32 x2]) (CC iY (by rw[n2];exact kA) l1 l2 ⟨by omega,by omega⟩ (by rw[sQ];exact hU) iS hf) ?_;rintro w H ⟨r3,K3,S3,jh,po,qR,C3,EC,rfl,rfl,hS3,EI,Dx⟩;refine⟨.cons (.cons (.skip (.skip (.skip (.skip (aM.left (A:=[_]))))))),?_⟩;exact JE.mk (fin r3 K3 S3 jh po qR C3 EC ad6 ad9 hS3 (hD2.more iY EI (λ_=>rfl)) (yg.trans EI) (λh=>⟨by rw[(Dx h).1,sQ],(Dx h).2⟩))
end
def Zm(es:Array MapEntry)(l:zL):List zV->Hp->Nat:=λ_ H=>match H with
 |(_,.mapIter _ _ seen _)::_=>(cW es (BO l) seen).length
 |_=>0
structure Let(K K':Kd)(l:zL):Prop where
 n:K'.n=K.n
 cap:K'.cap=K.cap
 N:∀s d,K'.N s=some d->K.N s=some d
 hold:∀s,K'.hold s+l.count s=K.hold s
section
variable {kp bq bm:Nat} {K0:Kd} {S0:Nat->au.Fn} {U:au.Fn->Prop} {ord ah:zL}
theorem AV{g:Gh}{K:Kd}{S:Nat->au.Fn}{l:zL}{es:Array MapEntry}{ck b9 b1:Nat}{ok:Bool}{C LB:Hp}(hK:bP kp K S ord ah [] C)(hE:aF (kN .u32) vr1 es ck (BO l))(hc:∀s,l.count s<=K.hold s)(h2:∀s∈l,2<=s)(KQ:∀s∈l,s<4294967296){Kc:Hp->Prop}
 (hk:∀K' C' bi it,bP kp K' S ord ah [] C'->Let K K' l->Kc ((bi,it)::(b9,.cells #[ptr bq] 217 zZ)::(b1,.cells #[ptr kp] 53 zZ)::(LB++uG bq kp bm ok es ck C'))):
  j9 zQ g 217 #[ptr b9,ptr b1] ((b9,.cells #[ptr bq] 217 zZ)::(b1,.cells #[ptr kp] 53 zZ)::(LB++uG bq kp bm ok es ck C)) Kc:=by
 refine Es (R:=_) ?_;unfold L217;refine Ld.q ?_;refine Ld.n ?_;refine .inr ⟨bm,es,ck,rfl,.tail _ (.tail _ (xac _ (.tail _ (.head _)))),λbi _=>?_⟩;refine⟨λ_ H=>∃(done:zL) (K':Kd) (C':Hp) (seen:Array Nat),H=(bi,.mapIter (some bm) ck seen ck)::(b9,.cells #[ptr bq] 217 zZ)::(b1,.cells #[ptr kp] 53 zZ)::(LB++uG bq kp bm ok es ck C')/\
   bP kp K' S ord ah [] C'/\Let K K' done/\(done++(cW es (BO l) seen).map Prod.fst).Perm l,Zm es l,JE.mk ⟨[],K,C,#[],rfl,hK,⟨rfl,rfl,λ_ _ h=>h,λs=>by simp⟩,by rw[p5 hE,rj];exact .refl _⟩,?_⟩
 rintro H ⟨done,K',C',seen,rfl,cZ,hl,hp⟩ gs;refine aF.next (bi:=bi) (bm:=bm) (seen:=seen) hE (.tail _ (.tail _ (.tail _ (xac _ (.tail _ (.head _)))))) (.head _) (λe x seen' he hkey hv RM hbk hfi=>⟨_,.head _,?_⟩) (λhu=>?_)
 ·refine Ext.mk rfl (Br.yes (⟨bi,bm,ck,seen',e.born,ck,es,e,rfl,.head _,hbk,.tail _ (.tail _ (.tail _ (xac _ (.tail _ (.head _))))),hfi,?_⟩));refine Ext.mk rfl (Ld.q ?_);have hxl:x.1∈l:=by
   refine hp.mem_iff.1 (xac _ ?_);exact xaT (RM.mem_iff.2 (.head _))
  have BR:done.count x.1+1<=l.count x.1:=by
   rw[<-hp.count_eq,xbf,(RM.map Prod.fst).count_eq,xay,List.count_cons_self];omega
  have hhx:K'.hold x.1≠0:=by
   have a:=hl.hold x.1;have b:=hc x.1;omega
  show aa zQ g 85 #[ptr kp,e.key] _ _ _;rw[hkey];refine aa.fq (args:=#[ptr kp,u32 x.1]) (m4 cZ (r:=x.1) (KQ _ hxl) (λ_=>hhx)) ?_;rintro w C2 ⟨rfl,K2,cT,f2⟩;refine aC.mk ⟨done++[x.1],K2,C2,seen',rfl,cT,⟨f2.n.trans hl.n,f2.cap.trans hl.cap,λs d hd=>hl.N s d (f2.N s d hd),λs=>?_⟩,?_⟩ ?_
  ·have a:=hl.hold s;rw[f2.hold,xbf,xcH];by_cases e1:s=x.1
   ·subst e1;have:=h2 _ hxl;simp[this];omega
   have:(x.1==s)=false:=by simpa using λe'=>e1 e'.symm
   simp[e1,this];exact a
  ·refine .trans ?_ hp;rw[xai];refine xbZ _ ?_;exact(RM.map Prod.fst).symm
  show(cW es (BO l) seen').length<(cW es (BO l) seen).length;rw[RM.length_eq,xaz];omega
 refine Ext.mk rfl (Br.no ?_);rw[hu,xcl,xaL]at hp;refine⟨⟨_,rfl⟩,hk K' C' bi _ cZ ⟨hl.n,hl.cap,hl.N,λs=>?_⟩⟩;rw[<-hp.count_eq];exact hl.hold s
end
section
variable {kp:Nat} {K:Kd} {S:Nat->au.Fn} {ord ah tr:zL} {C:Hp}
theorem abX{α:Type}(a x y b:α)(L R:List α):(a::x::y::b::(L++R)).Perm (a::b::(L++x::y::R)):=by
 classical
 rw[xcs];intro z;simp only[xbf,xb5];omega
theorem MK{made:zL}{x:Nat}:fS (BO made) x=BO (made.filter λr=>decide (¬r=x)):=by
 unfold fS BO;induction made with
 |nil=>rfl
 |cons a l ih=>
  simp only[xay,xby];by_cases h:a=x
  ·simp[h]at ih⊢;exact ih
  simp[h]at ih⊢;exact ih
def oF(kp:Nat)(K:Kd)(S:Nat->au.Fn)(ord ah:zL)(LB:Hp)(f:au.Fn)(w:zV)(H:Hp):Prop:=
 (∃x K' S' C',w=.tuple #[u32 x,.bool true,iv 0]/\H=LB++C'/\bP kp K' S' ord ah [] C'/\fY K S K' S' f x)\/
 (w=.tuple #[u32 0,.bool false,iv 9]/\(∃K' S' C',H=LB++C'/\bP kp K' S' ord ah [] C'/\Kept K S K' S')/\¬Fits (aD K.n ord (λg=>K.held S g\/g=f)) K.cap)
def kR(kp:Nat)(K:Kd)(S:Nat->au.Fn)(ord ah:zL)(LB:Hp)(f:au.Fn)(w:zV)(H:Hp):Prop:=
 oF kp K S ord ah LB f w H\/∃x,w=.tuple #[u32 x,.bool false,iv 0]/\(∃K' S' C',H=LB++C'/\bP kp K' S' ord ah [] C'/\Kept K S K' S')/\2<=x/\K.hold x=65535/\S x=f
theorem Kk(hK:bP kp K S ord ah tr C){f:au.Fn}{LB:Hp}{fb:zV}
 (hb:∀K1 C1,bP kp K1 S ord ah [] C1->Xu K K1 1->∃ff first cap,fb=.func (.func ff) first cap/\aU zQ ff=true/\∀bq bm,yp kp K1 S (aD K.n ord (λg=>K.held S g\/g=f)) ord ah K1 S [] #[] 0 C1 true->
   Fc zQ ff (first++ #[ptr bq]++cap) (LB++uG bq kp bm true #[] 0 C1) (Xr kp K1 S (aD K.n ord (λg=>K.held S g\/g=f)) ord ah bq bm LB K1 S [] f)):
  Fc zQ 159 #[ptr kp,fb] (LB++C) (kR kp K S ord ah LB f):=by
 refine aI λg=>IZ λb1 _=>?_;refine Ld.q ?_;intro bm _;refine Build.mk (cs:=[ptr kp,.map (some bm),iv 0]) zK λbq _ b9 _=>?_;refine St.one (by exact .head _) rfl zI rfl ?_;refine Ld.q ?_;refine aa.fq (args:=#[ptr kp,u32 1]) (mR hK (r:=1) (.inl zO) (λh=>by omega)) ?_;rintro w C1 ⟨rfl,K1,dO,mo⟩;have fi:∀s,K1.hold s=K.hold s:=λs=>by rw[mo.hold,xab zO]
 have ada:∀g,K1.held S g->K.held S g:=by
  rintro g ⟨s,hs,rfl⟩;exact⟨s,by have:K1.hold s≠0:=hs;rwa [fi]at this,rfl⟩
 obtain⟨ff,first,cap,rfl,Wx,hbody⟩:=hb K1 C1 dO mo;refine Ld.q ?_;refine aE.of rfl Wx (aa.pre (H':=(b9,.cells #[ptr bq] 217 zZ)::(b1,.cells #[ptr kp] 53 zZ)::(LB++uG bq kp bm true #[] 0 C1)) (.perm (abX _ _ _ _ _ _)) ?_);have Sv:yp kp K1 S (aD K.n ord (λg=>K.held S g\/g=f)) ord ah K1 S [] #[] 0 C1 true:=⟨dO,.refl λg hg=>by rw[mo.n]at hg;exact bD (λg h=>.inl (ada g h)) hg,aF.empty,λh=>by cases h⟩;refine aa.fq (C:=LB++uG bq kp bm true #[] 0 C1) (hbody bq bm Sv) ?_;rintro w H ⟨x,K2,S2,made,es,ck,C2,ok,rfl,rfl,iY,hA,ho⟩;have cT:=iY.ks;have kg:=iY.cV;have fD:=iY.nd;have Gd:∀s,made.count s<=K2.hold s:=λs=>by rw[kg.hold];omega
 have KQ:∀s∈made,s<4294967296:=λs hs=>by have:=cT.bM (kg.iz cT hs);omega
 have qO:∀s,K.hold s≠0->live K.N s:=λs hs=>.inr (hK.ok.mid.held s hs);have aht:∀s d,K.N s=some d->K2.N s=some d:=λs d hd=>kg.N s d (by rw[mo.N];exact hd);have hfn:∀s,live K.N s->S2 s=S s:=λs hs=>kg.fn s (by rw[mo.N];exact hs);refine Ld.q ?_;refine Ld.n ?_;cases ok with
 |false=>
  refine ae.cD (Br.T (Ld.q ?_));refine Ld.n ?_;refine AV cT iY.dN Gd kg.two KQ λK3 C3 bi it jZ hl=>?_;have gF:∀s,K3.hold s=K.hold s:=λs=>by
   have a:=hl.hold s;have b:=kg.hold s;rw[fi]at b;omega
  refine aN.mk (.skip (.skip (.skip (.de (.skip .tail) _)))) (.inl (.inr ⟨rfl,⟨K3,S2,C3,rfl,jZ,⟨by rw[hl.n,kg.n,mo.n],by rw[hl.cap,kg.cap,mo.cap],gF,λg=>?_,λr hr=>hfn r (qO r hr)⟩⟩,?_⟩))
  ·constructor
   ·rintro⟨s,hs,rfl⟩;have hs':K.hold s≠0:=by rw[<-gF];exact hs
    exact⟨s,hs',hfn s (qO s hs')⟩
   rintro⟨s,hs,rfl⟩;exact⟨s,by show K3.hold s≠0;rw[gF];exact hs,(hfn s (qO s hs)).symm⟩
  have:=iY.bad rfl;rw[mo.cap]at this;exact this
 |true=>
  obtain⟨hx,hxm⟩:=ho rfl;refine ae.cD (Br.F (Ld.q ?_));refine Ld.n ?_;have fin:∀(K3:Kd) (l:zL) (po:Array MapEntry) (C3:Hp),bP kp K3 S2 ord ah [] C3->(∀s d,K3.N s=some d->K2.N s=some d)->K3.n=K2.n->K3.cap=K2.cap->aF (kN .u32) vr1 po ck (BO l)->(∀s∈l,s∈made)->(∀s,K3.hold s=K.hold s+l.count s+if s=x/\2<=x then 1 else 0)->
    j9 zQ g 217 #[ptr b9,ptr b1] ((b9,.cells #[ptr bq] 217 zZ)::(b1,.cells #[ptr kp] 53 zZ)::(LB++uG bq kp bm true po ck C3)) λH=>aN (kR kp K S ord ah LB f) (.returned (.tuple #[u32 x,.bool true,iv 0])) H:=by
   intro K3 l po C3 jZ hN3 hn3 Z8 Pv hlm BQ;refine AV jZ Pv (λs=>by rw[BQ];omega) (λs hs=>kg.two s (hlm s hs)) (λs hs=>KQ s (hlm s hs)) λK4 C4 bi it Nl hl=>?_;have ni:∀s,K4.hold s=K.hold s+if s=x/\2<=x then 1 else 0:=λs=>by
    have a:=hl.hold s;rw[BQ]at a;omega
   have wo:live K4.N x:=by
    by_cases h2:x<2
    ·exact .inl h2
    refine .inr (Nl.ok.mid.held x ?_);rw[ni,xad ⟨rfl,by omega⟩];omega
   refine aN.mk (.skip (.skip (.skip (.de (.skip .tail) _)))) (.inl (.inl ⟨x,K4,S2,C4,rfl,rfl,Nl,⟨by rw[hl.n,hn3,kg.n,mo.n],by rw[hl.cap,Z8,kg.cap,mo.cap],λs d hs=>jX hK.ok Nl.ok (λs h=>by rw[ni];omega) (λs d d' h h'=>?_) _ s d hs (xaj _),hfn,wo,hx,ni⟩⟩));have a:=hN3 s d' (hl.N s d' h');rw[aht s d h]at a;exact(xbg a).symm
  by_cases hm:x∈made
  ·refine aF.hit (k:=x) (x:=()) jx iY.dN (.tail _ (.tail _ (xac _ (.tail _ (.head _))))) (o8.1 hm) ?_;rintro v rfl;refine ae.gtr (Br.T (Ld.q ?_));refine Ld.n ?_;refine aF.del (k:=x) jx iY.dN (.tail _ (.tail _ (xac _ (.tail _ (.head _))))) λes' he=>⟨_,.tail (.tail ((c8.tail (.head _)).cr LB)),?_⟩;rw[MK]at he;refine fin K2 _ es' C2 cT (λ_ _ h=>h) rfl rfl he (λs hs=>(xbV.1 hs).1) λs=>?_;rw[kg.hold,fi];have Pw:=kg.two x hm;by_cases e1:s=x
   ·subst e1;have c1:made.count s=1:=by rw[fD.count,xad hm]
    have c2:(made.filter λr=>decide (¬r=s)).count s=0:=xdI.2 zI;rw[c1,c2,xad ⟨rfl,Pw⟩]
   have:(made.filter λr=>decide (¬r=x)).count s=made.count s:=List.count_filter (by simpa using e1);rw[this,xab (λh=>e1 h.1)];rfl
  refine aF.bO (k:=x) jx iY.dN (.tail _ (.tail _ (xac _ (.tail _ (.head _))))) (o8.2 hm) ?_;refine ae.gtr (Br.F (Ld.q ?_));have wo:live K2.N x:=iY.vX hxm;by_cases BR:2<=x/\K2.hold x=65535
  ·have hKx:K.hold x=65535:=by
    have:=kg.hold x;rw[fi,xdI.2 hm]at this;omega
   refine aa.eq (args:=#[ptr kp,u32 x]) (o9 cT wo BR.1 BR.2) (ae.gJ ?_);rw[show decide ((8:Int)=0)=false from rfl];refine AV cT iY.dN Gd kg.two KQ λK3 C3 bi it jZ hl=>?_;have gF:∀s,K3.hold s=K.hold s:=λs=>by
    have a:=hl.hold s;have b:=kg.hold s;rw[fi]at b;omega
   refine aN.mk (.skip (.skip (.skip (.de (.skip .tail) _)))) (.inr ⟨x,rfl,⟨K3,S2,C3,rfl,jZ,⟨by rw[hl.n,kg.n,mo.n],by rw[hl.cap,kg.cap,mo.cap],gF,λg=>?_,λr hr=>hfn r (qO r hr)⟩⟩,BR.1,hKx,by rw[<-hx];exact(hfn x (qO x zO)).symm⟩);constructor
   ·rintro⟨s,hs,rfl⟩;have hs':K.hold s≠0:=by rw[<-gF];exact hs
    exact⟨s,hs',hfn s (qO s hs')⟩
   rintro⟨s,hs,rfl⟩;exact⟨s,by show K3.hold s≠0;rw[gF];exact hs,(hfn s (qO s hs)).symm⟩
  refine aa.fq (args:=#[ptr kp,u32 x]) (mR cT (r:=x) wo (λh2=>by have:=cT.dR x;omega)) ?_;rintro w C3 ⟨rfl,K3,jZ,m3⟩;refine ae.gJ ?_;rw[show decide ((0:Int)=0)=true from rfl];refine fin K3 made es C3 jZ (λs d h=>by rw[<-m3.N];exact h) m3.n m3.cap iY.dN (λ_ h=>h) λs=>?_;rw[m3.hold,kg.hold,fi];split<;>omega
end
section
variable {kp bq bm:Nat} {K0:Kd} {S0:Nat->au.Fn} {U:au.Fn->Prop} {ord ah:zL}
theorem K7{t:Bool->Bool->Bool}{v r:Nat}{fv:zV}{LB:Hp}(hLq:Lu kp K0 S0 U ord ah bq bm t v fv LB)(ht:∀a,t a a=a)(hv:v<K0.n)(k7:WF K0.n (lv ah) K0.N)(pF:Interp K0.N S0)(jM:jI K0.n (lv ah))(kV:au.Ord K0.n (lv ah) ord)(hf:∀s,K0.hold s=65535->live K0.N s)
 {K:Kd}{S:Nat->au.Fn}{made:zL}{es:Array MapEntry}{ck:Nat}{C:Hp}(hr:live K0.N r)(hS:yp kp K0 S0 U ord ah K S made es ck C true)(hU:∀g,aD K0.n ord (λg=>g=QF t v (S0 r)) g->U g):
  Fc zQ 161 #[ptr bq,u32 r,iv (v:Int),fv] (LB++uG bq kp bm true es ck C) (Xr kp K0 S0 U ord ah bq bm LB K S made (QF t v (S0 r))):=by
 have fO:aU zQ 218=true:=by kernel_rfl
 have ahu:=hLq;obtain⟨f0,ahP,am4,R2,_⟩:=ahu;have hn:=hS.cV.n;refine aI λg=>IX λb1 _ b3 _=>?_;refine Ld.q ?_;refine Ld.n ?_;refine aa.rq (l6 hS.ks.rep (v:Int)) ?_;rw[xad zO];rintro w rfl;refine Ext.two λje _=>(St.one (by exact .head _) rfl zI rfl ?_);intro bd _ mj _;refine St.one (by exact .head _) rfl zI rfl ?_;intro Ac _;refine St.one (by exact .head _) rfl zI rfl ?_;refine Ld.q ?_;refine aE.of rfl fO ?_;subst R2;refine aa.fq (args:=#[u32 r,ptr b1,ptr je,ptr mj,ptr b3,ptr Ac]) (SX (b1:=b1) (b3:=b3) (je:=je) (mj:=mj) (Ac:=Ac) (bd:=bd) fO hLq ht hv k7 pF jM kV hf _ r rfl K S made es ck C true #[] 0 hr hS ⟨[],aF.empty,λ_ y hy=>by cases hy⟩ hU) ?_;rintro w H ⟨x,K',S',made',es',bB,C',nA,aas,aau,rfl,rfl,Nj,_,hA,ho⟩;exact aN.mk (.skip (.skip (.skip (.skip (.skip .tail))))) ⟨x,K',S',made',es',bB,C',nA,rfl,rfl,Nj,hA,λh=>(ho h).2⟩
abbrev Tw(b5:Nat)(b:Bool):Nat×Obj:=(b5,.cells #[.bool b] 4 zZ)
theorem Fh{v b5:Nat}{b:Bool}{LB:Hp}(k7:WF K0.n (lv ah) K0.N)(pF:Interp K0.N S0)(jM:jI K0.n (lv ah))(hm:Tw b5 b∈LB):Lu kp K0 S0 U ord ah bq bm (λx y=>if b then y else x) v (.func (.func 162) #[] #[ptr b5]) LB:=by
 refine⟨_,_,_,rfl,by kernel_rfl,λr d hd kA K S made es ck C hS hU=>?_⟩;have hr:live K0.N r:=.inr ⟨d,hd⟩;have R8:=k7.var hd;obtain⟨g1,g2,g3⟩:=gj (S:=S0) k7 jM pF hr R8 (by rw[an hd];exact xaj _) false;obtain⟨t1,t2,t3⟩:=gj (S:=S0) k7 jM pF hr R8 (by rw[an hd];exact xaj _) true;obtain⟨q1,q2⟩:=kO (N:=K0.N) hd;rw[q1]at g1 g2 g3;rw[q2]at t1 t2 t3;subst kA;refine aI λg=>IW λb1 _=>?_;refine Ld.mk (v:=.bool b) (by exact .tail _ (xae _ hm)) rfl ?_;refine Br.mk (λhb=>?_) (λhb=>?_)
 ·subst hb;refine Ld.f ?_;refine aN.mk .tail ⟨d.hi,K,S,made,es,ck,C,true,rfl,rfl,hS,.refl,λ_=>⟨?_,.inl t2⟩⟩;rw[hS.cV.fn _ t2];exact funext t1
 subst hb;refine Ld.f ?_;refine aN.mk .tail ⟨d.lo,K,S,made,es,ck,C,true,rfl,rfl,hS,.refl,λ_=>⟨?_,.inl g2⟩⟩;rw[hS.cV.fn _ g2];exact funext g1
theorem Ea{v b1 b5:Nat}{e:Bool}{LB:Hp}(k7:WF K0.n (lv ah) K0.N)(pF:Interp K0.N S0)(jM:jI K0.n (lv ah))(kV:au.Ord K0.n (lv ah) ord)(hf:∀s,K0.hold s=65535->live K0.N s)(hm:Tw b5 e∈LB)(h1:(b1,Obj.cells #[ptr bq] 217 zZ)∈LB):
  Lu kp K0 S0 U ord ah bq bm (λx y=>if e then x||y else x&&y) v (.func (.func 222) #[] #[ptr b1,ptr b5]) LB:=by
 refine⟨_,_,_,rfl,by kernel_rfl,λr d hd kA K S made es ck C hS hU=>?_⟩;have hr:live K0.N r:=.inr ⟨d,hd⟩;have R8:=k7.var hd;obtain⟨g1,g2,g3⟩:=gj (S:=S0) k7 jM pF hr R8 (by rw[an hd];exact xaj _) false;obtain⟨t1,t2,t3⟩:=gj (S:=S0) k7 jM pF hr R8 (by rw[an hd];exact xaj _) true;obtain⟨q1,q2⟩:=kO (N:=K0.N) hd;rw[q1]at g1 g2 g3;rw[q2]at t1 t2 t3;subst kA;have eq:QF (λx y=>if e then x||y else x&&y) d.v (S0 r)=jf e S0 d.lo d.hi:=by
  funext x
  rw[sL,g1,t1];rfl
 rw[eq]at hU⊢;refine aI λg=>HX λb _=>?_;refine Ld.mk (v:=ptr bq) (by exact .tail _ (xae _ h1)) rfl ?_;refine Ld.f ?_;refine Ld.f ?_;refine Ld.mk (v:=.bool e) (by exact .tail _ (xae _ hm)) rfl ?_;refine aa.fq (args:=#[ptr bq,u32 d.lo,u32 d.hi,.bool e]) (C:=uG bq kp bm true es ck C) (V7 k7 pF jM kV hf g2 t2 hS hU) ?_;rintro w H ⟨x,K',S',made',es',bB,C',nA,rfl,rfl,Nj,hA,ho⟩;exact aN.mk .tail ⟨x,K',S',made',es',bB,C',nA,rfl,rfl,Nj,hA,ho⟩
end
section
variable {kp:Nat} {K:Kd} {S:Nat->au.Fn} {ord ah tr:zL} {C:Hp}
abbrev rHp(b5 b3 b1:Nat)(b:Bool)(v r:Nat):Hp:=[Tw b5 b,(b3,.cells #[iv (v:Int)] 3 zZ),(b1,.cells #[u32 r] 78 zZ)]
theorem oF.three{LB:Hp}{f:au.Fn}{w:zV}{H:Hp}(h:oF kp K S ord ah LB f w H):∃x b e,w=.tuple #[x,b,e]:=by
 rcases h with⟨x,K',S',C',rfl,_⟩|⟨rfl,_⟩
 ·exact⟨_,_,_,rfl⟩
 exact⟨_,_,_,rfl⟩
theorem oF.drop{LB:Hp}{f:au.Fn}{w:zV}{H:Hp}(h:oF kp K S ord ah LB f w H):∃C',aM H C'/\oF kp K S ord ah [] f w C':=by
 rcases h with⟨x,K',S',C',rfl,rfl,cZ,hg⟩|⟨rfl,⟨K',S',C',rfl,cZ,hk⟩,hn⟩
 ·exact⟨C',.right,.inl ⟨x,K',S',C',rfl,rfl,cZ,hg⟩⟩
 exact⟨C',.right,.inr ⟨rfl,⟨K',S',C',rfl,cZ,hk⟩,hn⟩⟩
theorem kR.PY{LB:Hp}{f:au.Fn}{w:zV}{H:Hp}(h:kR kp K S ord ah LB f w H):∃x y z,w=.tuple #[x,y,z]:=by
 rcases h with h|⟨x,rfl,_⟩
 ·exact h.three
 exact⟨_,_,_,rfl⟩
theorem aN.Yt{LB:Hp}{f:au.Fn}{w:zV}{H:Hp}(h:kR kp K S ord ah LB f w H):aN (kR kp K S ord ah [] f) (.returned w) H:=by
 rcases h with h|⟨x,rfl,⟨K',S',C',rfl,cZ,hk⟩,h2⟩
 ·obtain⟨C',h1,h2⟩:=h.drop;exact aN.mk h1 (.inl h2)
 exact aN.mk .right (.inr ⟨x,rfl,⟨K',S',C',rfl,cZ,hk⟩,h2⟩)
theorem kT(hK:bP kp K S ord ah tr C){r v:Nat}{b:Bool}(hr:live K.N r)(hv:v<K.n):
  Fc zQ 106 #[ptr kp,u32 r,iv (v:Int),.bool b] C (kR kp K S ord ah [] (λx=>S r (ak.aB x v b))):=by
 have eq:QF (λx y=>if b then y else x) v (S r)=λx=>S r (ak.aB x v b):=by
  funext x;unfold QF;cases b<;>rfl
 rw[<-eq];refine aI λg=>JD λb1 _ b3 _ b5 _=>?_;refine aa.fq (args:=#[ptr kp,.func (.func 160) #[] #[ptr b1,ptr b3,ptr b5]]) (C:=rHp b5 b3 b1 b v r++C) (Kk (f:=QF (λx y=>if b then y else x) v (S r)) hK λK1 C1 dO mo=>⟨_,_,_,rfl,by kernel_rfl,λbq bm hQ=>?_⟩) ?_
 ·intro g;refine IY (R:=aN _) ?_;unfold L160;refine Ld.q ?_;refine Ld.q ?_;have RJ:live K1.N r:=by rw[mo.N];exact hr
  refine aa.fq (args:=#[ptr bq,u32 r,iv (v:Int),.func (.func 162) #[] #[ptr b5]]) (C:=rHp b5 b3 b1 b v r++uG bq kp bm true #[] 0 C1)
   (K7 (Fh dO.ok.wf dO.ok.mid.int dO.ok.lv (b:=b) (.head _)) (λa=>by cases b<;>rfl) (by rw[mo.n];exact hv) dO.ok.wf dO.ok.mid.int dO.ok.lv dO.od (λs hs=>.inr (dO.ok.mid.held s zO)) RJ hQ (λg hg=>by rw[mo.n]at hg;exact bD (λg h=>.inr h) hg)) ?_
  intro w H hO;exact aN.here hO
 intro w H hO;obtain⟨x,bb,e,rfl⟩:=hO.PY;exact Ext.mk rfl (Ext.mk rfl (Ext.mk rfl (aN.Yt hO)))
def qf(e:Bool)(v:Nat)(f:au.Fn):au.Fn:=QF (λx y=>if e then x||y else x&&y) v f
theorem xZ(hK:bP kp K S ord ah tr C){r v:Nat}{e:Bool}(hr:live K.N r)(hv:v<K.n):
  Fc zQ 163 #[ptr kp,u32 r,iv (v:Int),.bool e] C (kR kp K S ord ah [] (qf e v (S r))):=by
 refine aI λg=>IV λb1 _ b3 _ b5 _=>?_;refine aa.fq (args:=#[ptr kp,.func (.func 221) #[] #[ptr b1,ptr b3,ptr b5]]) (C:=rHp b5 b3 b1 e v r++C) (Kk (f:=qf e v (S r)) hK λK1 C1 dO mo=>⟨_,_,_,rfl,by kernel_rfl,λbq bm hQ=>?_⟩) ?_
 ·intro g;refine HY (R:=aN _) ?_;unfold L221;intro b2 _;refine Ld.q ?_;refine Ld.q ?_;refine Ld.q ?_;have RJ:live K1.N r:=by rw[mo.N];exact hr
  have hf1:∀s,K1.hold s=65535->live K1.N s:=λs hs=>.inr (dO.ok.mid.held s zO);refine aa.fq (args:=#[ptr bq,u32 r,iv (v:Int),.func (.func 222) #[] #[ptr b2,ptr b5]]) (C:=((b2,Obj.cells #[ptr bq] 217 zZ)::rHp b5 b3 b1 e v r)++uG bq kp bm true #[] 0 C1)
   (K7 (Ea dO.ok.wf dO.ok.mid.int dO.ok.lv dO.od hf1 (e:=e) (.tail _ (.head _)) (.head _)) (λa=>by cases e<;>cases a<;>rfl) (by rw[mo.n];exact hv) dO.ok.wf dO.ok.mid.int dO.ok.lv dO.od hf1 RJ hQ (λg hg=>by rw[mo.n]at hg;exact bD (λg h=>.inr h) hg)) ?_
  rintro w H ⟨x,K',S',made',es',bB,C',nA,rfl,rfl,Nj,hA,ho⟩;exact aN.mk .tail ⟨x,K',S',made',es',bB,C',nA,rfl,rfl,Nj,hA,ho⟩
 intro w H hO;obtain⟨x,bb,e,rfl⟩:=hO.PY;exact Ext.mk rfl (Ext.mk rfl (Ext.mk rfl (aN.Yt hO)))
end
end Go.Proofs
namespace Go.Sx
open Go
section
variable {P:Program} {g:Gh} {H:Hp}
def FcD(P:Program)(f:FuncId)(args:Array zV)(C:Hp)(Q:zV->Hp->Prop):Prop:=∀g,kQ P g f args C (aN Q)
theorem j9.fn{f:FuncId}{args:Array zV}{C H:Hp}{c:Hp->Hp}{Q:zV->Hp->Prop}{K:Hp->Prop}(hh:bH C H c)(hc:FcD P f args C Q)(hk:∀v C',Q v C'->K (c C')):j9 P g f args H K:=by
 intro w hw u;obtain⟨rfl,F,hp⟩:=hh.spec;have eO:Own g (C++F) w:=aM.perm (hp C) g w hw;refine((hc (g.add F)) w (Own.fj.1 eO) u).mono ?_;rintro e u' w' ⟨rfl,H',ho,v,C',rfl,he,hq⟩;have h1:Own g (H'++F) w':=Own.fj.2 ho;have h2:Own g (c H') w':=aM.perm (hp H').symm g w' h1;exact⟨rfl,c C',hh.dN he g w' h2,⟨v,rfl⟩,hk _ _ hq⟩
end
end Go.Sx
set_option maxRecDepth 100000
namespace Go.Proofs
open Go Go.Sx
section
open au
section
variable {kp:Nat} {K:Kd} {ord ah tr:zL} {C:Hp} {S:Nat->au.Fn}
theorem Ny(h:bP kp K S ord ah tr C){r:Nat}(hr:r<4294967296)(hh:2<=r->K.hold r≠0):∀g,L85 g (ptr kp) (u32 r) C (aN λv C'=>v=iv 0/\∃K',bP kp K' S ord ah [] C'/\AA K K' r):=by
 have h0:=h;obtain⟨b,hC,hO⟩:=h.rep;intro g;unfold L85;refine ae.aL (Br.no λJ2 BV=>?_);have fin:∀(K':Kd) C1,cR kp K' ord ah tr C1->Ok K' S (lv ah)->Idle K'->AA K K' r->J2 [] C1:=λK' C1 cZ ya wq hm=>by
  refine BV _ λgs=>?_;obtain⟨b',rfl,yf⟩:=cZ;refine Nil.ptr (ai.mk (St.one (by exact .head _) rfl (by simp[uD.cells]) rfl ?_));have kV:Ord K'.n (lv ah) ord:=by rw[hm.n];exact h.od
  refine aN.mk (nH:=({b' with vt:=.slice none 0 0,CR:=[]}:uD).hp kp K'.n) ?_ ⟨rfl,K',⟨⟨{b' with vt:=.slice none 0 0,CR:=[]},rfl,{yf with tr:=aS.nil}⟩,ya,kV,wq,trivial⟩,hm⟩;refine .cons (.de (.de (.de (.de (.de (.de .nil _) _) _) _) _) _)
 refine ae.nE (b:=1) (Br.dec (λh2=>?_) (λh2=>?_));rotate_left
 ·exact JE.mk (fin K C h.rep h.ok h.idle ⟨rfl,rfl,λ_ _ h=>h,λs=>by rw[xab zO]⟩)
 have nL:2<=r:=by omega
 have l7:=hh nL;obtain⟨d,hd⟩:=h.ok.mid.held r l7;have hfu:=h.ok.mid.fit hd;have M1:=hO.ul;have hfit:r<K.ho.length:=by omega
 have hle:=h.dR r;refine aa.eq (v5 h.rep hr (λs=>by have:=h.dR s;omega)) (ae.gJ (Br.F ?_));subst hC;refine Nil.ptr (ai.mk (Ld.f ?_));refine hO.ho.ld (x:=((K.hold r:Nat):Int)) (bE hfit) (bH.sub (.cons (.app (.app (.app .left))))) (ae.ca (b:=1) (hO.ho.ny (x:=((K.hold r-1:Nat):Int)) (.cons (.app (.app (.app .left)))) (by rw[aq];exact hfit) λUa ZZ=>?_));rw[fg]at ZZ;have g1:∀s,(K.ho.set r (K.hold r-1)).getD s 0=if s=r then K.hold r-1 else K.hold s:=λs=>gU hfit
 have hM:=h.ok.mid.drop (r:=r) (cz:=K.ho.set r (K.hold r-1)) zO zI (by rw[g1,xad rfl];omega) (λs hs=>by rw[g1,xab hs]);have dO:cR kp {K with ho:=K.ho.set r (K.hold r-1)} ord ah tr (({b with CH:=Ua}:uD).hp kp K.n):=⟨_,rfl,{hO with ho:=ZZ,ul:=by simp;exact M1}⟩;have hho:∀s,(K.ho.set r (K.hold r-1)).getD s 0=if s=r/\2<=r then K.hold s-1 else K.hold s:=λs=>by
  rw[g1];by_cases e:s=r
  ·subst e;rw[xad rfl,xad ⟨rfl,nL⟩]
  rw[xab e,xab (λh=>e h.1)]
 refine Nil.ptr (ai.mk (Ld.f ?_));refine ZZ.ld (x:=((K.hold r-1:Nat):Int)) (by rw[bE (by simpa using hfit),g1,xad rfl]) (bH.sub (.cons (.app (.app (.app .left))))) (ae.dx (b:=0) (Br.dec (λh3=>?_) (λh3=>?_)));rotate_left
 ·rw[xab zO]at hM;exact JE.mk (fin {K with ho:=K.ho.set r (K.hold r-1)} _ dO ⟨hM,h.ok.pos,h.ok.lv,h.ok.wf⟩ h.idle ⟨rfl,rfl,λ_ _ h=>h,hho⟩)
 rw[xad zO]at hM;refine Nil.ptr (ai.mk ?_);have KL:jP {K with ho:=K.ho.set r (K.hold r-1)} S iN (gX zero' [r]):=hM.congr (λ_=>xcT) λs _=>by
  unfold up gX zero';by_cases e:s=r
  ·subst e;simp
  simp[e,xa9 e]
 refine aa.fq (mH (P0:=zero') dO KL h.ok.pos (λt SB h0=>?_) (h.bM (.inr ⟨d,hd⟩)) (λs=>by have:=h.EY s;show K.use s<_;omega)) ?_
 ·by_cases e:t=r
  ·subst e;exact⟨d,hd⟩
  have h0':0<zero' t+[r].count t:=h0;simp[zero',xa9 e]at h0'
 rintro w C2 ⟨rfl,K2,cT,WM,Uj,_,dX⟩;refine JE.mk (fin K2 _ cT ⟨WM,Uj,by rw[dX.n];exact h.ok.lv,Kz h.ok.wf WM (λh=>dX.N h) dX.n⟩ (dX.idle h.idle) ⟨dX.n,dX.cap,λs e hs=>dX.N hs,λs=>?_⟩);show K2.ho.getD s 0=_;rw[dX.ho];exact hho s
theorem iT(h:bP kp K S ord ah tr C){r:Nat}(hr:r<4294967296)(hh:2<=r->K.hold r≠0):FcD zQ 85 #[ptr kp,u32 r] C (λv C'=>v=iv 0/\∃K',bP kp K' S ord ah [] C'/\AA K K' r):=
 λg=>GO (Ny h hr hh g)
end
end
section
open au
section
variable {kp:Nat} {K:Kd} {S:Nat->au.Fn} {ord ah tr:zL} {C:Hp}
theorem uE(B:Hp)(x:Nat):Rd zQ 105 #[u32 x,.bool true,iv 0] B (· =.tuple #[u32 x,iv 0]):=by
 exact aI λg=>qJ (ae.cD (Br.F (Un.not (Br.no (bc.mk (.refl _) rfl)))))
theorem uF(B:Hp)(x:zV)(b:zV):Rd zQ 105 #[x,b,iv 9] B (· =.tuple #[u32 0,iv 9]):=by
 exact aI λg=>qJ (ae.cD (Br.T (bc.mk (.refl _) rfl)))
theorem oN(B:Hp)(x:Nat):Rd zQ 105 #[u32 x,.bool false,iv 0] B (· =.tuple #[u32 0,iv 8]):=by
 exact aI λg=>qJ (ae.cD (Br.F (Un.not (Br.yes (bc.mk (.refl _) rfl)))))
theorem yJ(hK:bP kp K S ord ah tr C){v:Nat}(hv:v<K.n):Rd zQ 103 #[ptr kp,iv (v:Int)] C (· =.tuple #[.int .u64 ((2^v:Nat):Int),.bool true]):=by
 have hn:=hK.aZ.lP;refine aI λg=>JG λJ hJ=>?_;refine ae.lss ?_;rw[xal zO];refine Split.go rfl (ae.AW (Split.go rfl (aa.eq (gR hK.rep) (ae.tS ?_))));rw[xal zO];refine aH.mk (aH.mk (JE.mk (hJ _ _ λgs=>Br.no ?_)));have h2:2^v<18446744073709551616:=xaP (xbx zD (show v<64 by omega)) zD;refine ae.Cn (a:=1) (by simp[IntKind.bits];omega) (by rw[xa6];simpa[bG]using h2) ?_;rw[xa6];exact bc.mk (.refl _) rfl
theorem sD(hK:bP kp K S ord ah tr C){Y:Hp}{mask:Nat}{vr:zV}{refs:zL}(hm:mask<2^K.n)(hr:dz .u32 Y vr (iw refs))(hl:∀r∈refs,live K.N r)(cI:refs.length<=1048576):Rd zQ 104 #[ptr kp,.int .u64 (mask:Int),vr] (Y++C) (· =iv 0):=by
 have hn:=hK.aZ.lP;refine aI λg=>JF (ae.aL (Br.no (aa.eq (gR hK.rep) ?_)));have KO:mask<18446744073709551616:=xaP hm (xax (n:=2) zD hn);refine ae.iK (by simpa[bG]using KO) ?_;rw[xa0,xdr hm];refine ae.cD (Br.F (hr.bV ?_));rw[aq];refine⟨λvs H=>∃i:Nat,vs=[iv (i:Int)]/\i<=refs.length/\H=Y++C,λvs _=>refs.length-bN vs 0,JE.mk ⟨0,rfl,xaN _,rfl⟩,?_⟩;rintro w7 H ⟨i,⟨⟩,hi,rfl⟩ gs;refine ae.fC (Br.dec (λhlt=>?_) (λhlt=>?_))
 ·have hlr:=hl _ (xaH hlt);refine hr.ld (n:=((refs[i]:Nat):Int)) (dg (xaa hlt)) (λ_ h=>xae _ h) ?_;refine aa.eq (args:=#[ptr kp,u32 refs[i]]) (iQ hK.rep (by have:=hK.bM hlr;omega)) ?_;rw[bZ.2 hlr];refine Ext.two λb15 _=>(St.whole (r:=got K.N refs[i]) (by exact .head _) rfl (aP _ _).1 (aP _ _).2 ?_);exact ae.cD (Br.F (ae.inc (aC.of .tail ⟨i+1,rfl,hlt,rfl⟩ (by simp only[bN];omega))))
 exact bc.mk (.refl _) rfl
theorem oF.done{f:au.Fn}{w:zV}{H:Hp}(h:oF kp K S ord ah [] f w H):(∃x,w=.tuple #[u32 x,.bool true,iv 0]/\aaP kp K S ord ah tr f (.tuple #[u32 x,iv 0]) H)\/(w=.tuple #[u32 0,.bool false,iv 9]/\aaP kp K S ord ah tr f (.tuple #[u32 0,iv 9]) H):=by
 rcases h with⟨x,K',S',C',rfl,rfl,cZ,hg⟩|⟨rfl,⟨K',S',C',rfl,cZ,hk⟩,hn⟩
 ·exact .inl ⟨x,rfl,.inl ⟨x,K',S',rfl,cZ,hg⟩⟩
 exact .inr ⟨rfl,.inr ⟨rfl,⟨K',S',[],cZ,.inl rfl,hk⟩,hn⟩⟩
theorem rA{n v:Nat}(hv:v<n):2^v<2^n:=xbx zD hv
theorem vB(hK:bP kp K S ord ah tr C){r v:Nat}{b:Bool}(hr:live K.N r)(hv:v<K.n):
  Fc zQ 70 #[ptr kp,u32 r,iv (v:Int),.bool b] C (j8 kp K S ord ah tr (λx=>S r (ak.aB x v b))):=by
 refine aI λg=>Ox (aa.eq (yJ hK hv) (Ext.two (ae.AW (cS.and (a:=true) false (λ_=>Un.not ⟨rfl,rfl⟩) rfl λgs=>Br.no ?_))));refine ax.int (e:=78) zK zK zK λbs=>?_;refine aa.eq (args:=#[ptr kp,.int .u64 ((2^v:Nat):Int),.slice (some ⟨bs,0,none⟩) 1 1]) (sD (Y:=[(bs,Obj.cells (aA .u32 [(r:Int)]) 78 zZ)]) (refs:=[r]) hK (rA hv) ((aS.made (T:=78) (kd:=.u32) (b:=bs) (iw [r])).ints) (λs hs=>by simp at hs;subst hs;exact hr) (by show 1<=1048576;omega)) (ae.cD (Br.F ?_));refine aa.fq (args:=#[ptr kp,u32 r,iv (v:Int),.bool b]) (kT hK hr hv) ?_;rintro w H (hO|⟨x,rfl,⟨K',S',C',rfl,cZ,hk⟩,h2,hfx,WH⟩);rotate_left
 ·exact Ext.mk rfl (Ext.mk rfl (Ext.mk rfl (aa.eq (oN _ x) (Ext.mk rfl (Ext.mk rfl (aN.mk .tail (.inr ⟨rfl,⟨K',S',[],cZ,.inl rfl,hk⟩,x,h2,hfx,WH⟩)))))))
 rcases hO.done (tr:=tr)with⟨x,rfl,hD⟩|⟨rfl,hD⟩
 ·exact Ext.mk rfl (Ext.mk rfl (Ext.mk rfl (aa.eq (uE _ x) (Ext.mk rfl (Ext.mk rfl (aN.mk .tail (.inl hD)))))))
 exact Ext.mk rfl (Ext.mk rfl (Ext.mk rfl (aa.eq (uF _ _ _) (Ext.mk rfl (Ext.mk rfl (aN.mk .tail (.inl hD)))))))
end
theorem Fits.mono{A B:au.Fn->Prop}{cap:Nat}(h:∀g,A g->B g)(hB:Fits B cap):Fits A cap:=by
 classical
 obtain⟨ku,⟨l,h1,h2,h3⟩,hc⟩:=hB;refine⟨(l.filter λg=>decide (A g)).length,⟨l.filter λg=>decide (A g),h1.filter _,rfl,λg=>?_⟩,?_⟩
 ·rw[xbV,xaJ,<-h3];exact⟨λx=>⟨h g x,x⟩,λx=>x.2⟩
 have:=xb2 (λg=>decide (A g)) l;omega
def bitsOf(mask n:Nat):zL:=(List.range n).filter λi=>mask.testBit i
theorem tX(mask n:Nat):bitsOf mask (n+1)=bitsOf mask n++if mask.testBit n then [n]else []:=by
 unfold bitsOf;rw[xci,xbU,xby,List.filter_nil]
def nI(e:Bool)(vs:zL)(f:au.Fn):au.Fn:=vs.foldl (λg v=>qf e v g) f
theorem QC(e:Bool)(vs:zL)(v:Nat)(f:au.Fn):nI e (vs++[v]) f=qf e v (nI e vs f):=by
 unfold nI;rw[xdm];rfl
section
variable {kp:Nat} {K K':Kd} {S S':Nat->au.Fn} {ord ah bR tr cE o:zL} {C C':Hp}
theorem jo{n:Nat}{ord:zL}{f:au.Fn}(hf:∀v,¬bU f v)(g:au.Fn):¬aD n ord (λg=>g=f) g:=by
 rintro⟨l,hl,hg,hh⟩;rw[uL (l:=n) (λj _=>hf _) l zO g hg]at hh;exact hf _ hh
theorem fY.DT{K':Kd}{S':Nat->au.Fn}{f:au.Fn}{x:Nat}{cE:zL}{C':Hp}(h:fY K S K' S' f x)(hK:bP kp K S ord ah tr C)(cZ:bP kp K' S' ord ah cE C'):Fits (aD K.n ord (λg=>K.held S g\/g=f)) K.cap:=by
 have hc:=cZ.ok.size cZ.od;have hr:=cZ.ok.mid.room;have h2:=cZ.ok.mid.cap;rw[h.n]at hc;refine Fits.mono (λg hg=>?_) ⟨K'.used-2,hc,by rw[<-h.cap];omega⟩;have old:∀g,K.held S g->K'.held S' g:=λg ⟨s,hs,e⟩=>⟨s,by show K'.hold s≠0;have:K.hold s≠0:=hs;rw[h.hold];omega,by rw[h.fn s (.inr (hK.ok.mid.held s hs)),e]⟩;by_cases h2:2<=x
 ·refine bD (λg hg=>?_) hg;rcases hg with hg|rfl
  ·exact old g hg
  exact⟨x,by show K'.hold x≠0;rw[h.hold,xad ⟨rfl,h2⟩];omega,h.is.symm⟩
 rcases(lJ g).1 hg with hg|hg
 ·exact bD old hg
 refine absurd hg (jo (λv=>?_) g);rintro⟨y,hy⟩;rw[<-h.is]at hy;have hi:=cZ.ok.mid.int;obtain rfl|rfl:x=0\/x=1:=by omega
 ·exact hy (by rw[hi.zero,hi.zero])
 exact hy (by rw[hi.one,hi.one])
theorem ct(hK:bP kp K S ord ah tr C){r:Nat}(hl:live K.N r):2<=r↔∃v,bU (S r) v:=by
 constructor
 ·intro h2;obtain⟨d,hd⟩:∃d,K.N r=some d:=by
   rcases hl with hl|hl
   ·omega
   exact hl
  exact⟨d.v,gn hK.ok.wf hK.ok.lv hK.ok.mid.int hd⟩
 rintro⟨v,y,hy⟩;have hi:=hK.ok.mid.int;by_cases h2:2<=r
 ·exact h2
 exfalso;obtain rfl|rfl:r=0\/r=1:=by omega
 ·exact hy (by rw[hi.zero,hi.zero])
 exact hy (by rw[hi.one,hi.one])
end
section
variable {kp:Nat} {K:Kd} {S:Nat->au.Fn} {ord ah tr:zL} {C:Hp}
def BJ(kp:Nat)(K:Kd)(S:Nat->au.Fn)(ord ah tr:zL)(e:Bool)(mask r:Nat)(w:zV)(H:Hp):Prop:=
 (∃x K' S',w=.tuple #[u32 x,iv 0]/\bP kp K' S' ord ah [] H/\fY K S K' S' (nI e (bitsOf mask K.n) (S r)) x)\/
 (w=.tuple #[u32 0,iv 9]/\(∃K' S' cE,bP kp K' S' ord ah cE H/\(cE=[]\/cE=tr)/\Kept K S K' S')/\∃i,i<K.n/\mask.testBit i=true/\¬Fits (aD K.n ord (λg=>(K.held S g\/(bitsOf mask i≠[]/\g=nI e (bitsOf mask i) (S r)))\/g=qf e i (nI e (bitsOf mask i) (S r)))) K.cap)
def xO(kp:Nat)(K:Kd)(S:Nat->au.Fn)(ord ah tr:zL)(e:Bool)(mask r:Nat)(w:zV)(H:Hp):Prop:=
 BJ kp K S ord ah tr e mask r w H\/(w=.tuple #[u32 0,iv 8]/\(∃K' S' cE,bP kp K' S' ord ah cE H/\(cE=[]\/cE=tr)/\Kept K S K' S')/\
  ((mask=0/\2<=r/\K.hold r=65535)\/∃i x,i<K.n/\mask.testBit i=true/\2<=x/\live K.N x/\S x=qf e i (nI e (bitsOf mask i) (S r))/\65534<=K.hold x/\((bitsOf mask i≠[]/\S x=nI e (bitsOf mask i) (S r))\/K.hold x=65535)))
structure Way(K:Kd)(S:Nat->au.Fn)(K1:Kd)(S1:Nat->au.Fn)(ch:Bool)(cur:Nat):Prop where
 n:K1.n=K.n
 cap:K1.cap=K.cap
 N:∀s d,K.N s=some d->K1.N s=some d
 fn:∀s,live K.N s->S1 s=S s
 live:live K1.N cur
 hold:∀s,K1.hold s=K.hold s+if ch=true/\s=cur/\2<=cur then 1 else 0
def T7(K:Kd)(S:Nat->au.Fn)(ord:zL)(e:Bool)(mask r i:Nat):Prop:=Fits (aD K.n ord (λg=>(K.held S g\/(bitsOf mask i≠[]/\g=nI e (bitsOf mask i) (S r)))\/g=qf e i (nI e (bitsOf mask i) (S r)))) K.cap
def Lx(K:Kd)(S:Nat->au.Fn)(e:Bool)(mask r i:Nat):Prop:=∃x,2<=x/\live K.N x/\S x=qf e i (nI e (bitsOf mask i) (S r))/\65534<=K.hold x/\((bitsOf mask i≠[]/\S x=nI e (bitsOf mask i) (S r))\/K.hold x=65535)
def AB(K:Kd)(S:Nat->au.Fn)(ord:zL)(e:Bool)(mask r i:Nat):Prop:=∀j,j<i->mask.testBit j=true->T7 K S ord e mask r j/\¬Lx K S e mask r j
def uh(kp:Nat)(K:Kd)(S:Nat->au.Fn)(ord ah tr:zL)(e:Bool)(mask r:Nat)(w:zV)(H:Hp):Prop:=
 (∃x K' S',w=.tuple #[u32 x,iv 0]/\bP kp K' S' ord ah [] H/\fY K S K' S' (nI e (bitsOf mask K.n) (S r)) x/\(mask=0->¬(2<=r/\K.hold r=65535))/\AB K S ord e mask r K.n)\/
 (w=.tuple #[u32 0,iv 9]/\(∃K' S' cE,bP kp K' S' ord ah cE H/\(cE=[]\/cE=tr)/\Kept K S K' S')/\∃i,i<K.n/\mask.testBit i=true/\¬T7 K S ord e mask r i/\AB K S ord e mask r i)\/
 (w=.tuple #[u32 0,iv 8]/\(∃K' S' cE,bP kp K' S' ord ah cE H/\(cE=[]\/cE=tr)/\Kept K S K' S')/\((mask=0/\2<=r/\K.hold r=65535)\/∃i,i<K.n/\mask.testBit i=true/\Lx K S e mask r i/\AB K S ord e mask r i))
theorem uh.full{e:Bool}{mask r:Nat}{w:zV}{H:Hp}(h:uh kp K S ord ah tr e mask r w H):xO kp K S ord ah tr e mask r w H:=by
 rcases h with⟨x,K',S',e1,h1,h2,_⟩|⟨e1,h1,i,hi,hb,hf,_⟩|⟨e1,h1,h2|⟨i,hi,hb,⟨x,a,b,c,d,f⟩,_⟩⟩
 ·exact .inl (.inl ⟨x,K',S',e1,h1,h2⟩)
 ·exact .inl (.inr ⟨e1,h1,i,hi,hb,hf⟩)
 ·exact .inr ⟨e1,h1,.inl h2⟩
 exact .inr ⟨e1,h1,.inr ⟨i,x,hi,hb,a,b,c,d,f⟩⟩
theorem SW(hK:bP kp K S ord ah tr C){r mask:Nat}{e:Bool}(hr:live K.N r)(hm:mask<2^K.n):
  Fc zQ 107 #[ptr kp,u32 r,.int .u64 (mask:Int),.bool e] C (uh kp K S ord ah tr e mask r):=by
 have hn:=hK.aZ.lP;have KO:mask<18446744073709551616:=xaP hm (xax (n:=2) zD hn);have qO:∀s,K.hold s≠0->live K.N s:=λs hs=>.inr (hK.ok.mid.held s hs);refine aI λg=>JC (ax.int (e:=78) zK zK zK λbs=>?_);refine aa.eq (args:=#[ptr kp,.int .u64 (mask:Int),.slice (some ⟨bs,0,none⟩) 1 1]) (sD (Y:=[(bs,Obj.cells (aA .u32 [(r:Int)]) 78 zZ)]) (refs:=[r]) hK hm ((aS.made (T:=78) (kd:=.u32) (b:=bs) (iw [r])).ints) (λs hs=>by simp at hs;subst hs;exact hr) (by show 1<=1048576;omega)) (ae.cD (Br.F ?_));refine ae.dx (b:=0) (Br.dec (λh0=>?_) (λh0=>?_))
 ·subst h0;by_cases hfr:2<=r/\K.hold r=65535
  ·exact aa.eq (args:=#[ptr kp,u32 r]) (o9 hK hr hfr.1 hfr.2) (ae.cD (Br.T (aN.mk .tail (.inr (.inr ⟨rfl,⟨K,S,tr,hK,.inr rfl,.refl K S⟩,.inl ⟨rfl,hfr.1,hfr.2⟩⟩)))))
  refine aa.fq (args:=#[ptr kp,u32 r]) (mR hK (r:=r) hr (λh2=>by have:=hK.dR r;omega)) ?_;rintro w C1 ⟨rfl,K1,dO,mo⟩;refine ae.cD (Br.F (aN.mk .tail (.inl ⟨r,K1,S,rfl,dO,⟨mo.n,mo.cap,λs d hd=>by rw[mo.N];exact hd,λ_ _=>rfl,by rw[mo.N];exact hr,?_,λs=>by rw[mo.hold];split<;>omega⟩,λ_=>hfr,λj hj hb=>by rw[xcy]at hb;cases hb⟩)));have:bitsOf 0 K.n=[]:=by unfold bitsOf;rw[xdl];intro a _;simp
  rw[this];rfl
 refine aa.eq (gR hK.rep) ?_;refine⟨λvs H=>∃(i cur:Nat) (ch:Bool) (K1:Kd) (S1:Nat->au.Fn) (C1:Hp) (XF:zL),vs=[u32 cur,.bool ch,iv (i:Int)]/\i<=K.n/\H=(bs,Obj.cells (aA .u32 [(r:Int)]) 78 zZ)::C1/\bP kp K1 S1 ord ah XF C1/\
   (ch=decide (bitsOf mask i≠[]))/\S1 cur=nI e (bitsOf mask i) (S r)/\Way K S K1 S1 ch cur/\(ch=true->XF=[])/\AB K S ord e mask r i,λvs _=>K.n-bN vs 2,
  JE.mk ⟨0,r,false,K,S,C,tr,rfl,xaN _,rfl,hK,rfl,rfl,⟨rfl,rfl,λ_ _ h=>h,λ_ _=>rfl,hr,λs=>by rw[xab (λh=>by cases h.1)];rfl⟩,(λh=>by cases h),λj hj=>absurd hj (xcC _)⟩,?_⟩
 rintro w16 w17 w18 H ⟨i,cur,ch,K1,S1,C1,XF,hvs,hi,rfl,dO,kj,jc,hw,fh,hD⟩ gs;simp only[xau,xa1]at hvs;obtain⟨rfl,rfl,rfl⟩:=hvs;refine ae.fC (Br.dec (λhlt=>?_) (λhlt=>?_));rotate_left
 ·obtain rfl:i=K.n:=by omega
  have hne:bitsOf mask K.n≠[]:=λhb=>h0 (by
   apply xaV;intro j;rw[xcy];by_cases hj:j<K.n
   ·cases ht:mask.testBit j with
    |false=>rfl
    |true=>
     have:j∈bitsOf mask K.n:=xbV.2 ⟨xaM.2 hj,ht⟩;rw[hb]at this;cases this
   exact xb9 (xaP hm (xax zD zO)))
  have hct:ch=true:=by rw[kj];exact xam hne
  rw[fh hct]at dO;exact aN.mk .tail (.inl ⟨cur,K1,S1,rfl,dO,⟨hw.n,hw.cap,hw.N,hw.fn,hw.live,jc,λs=>by rw[hw.hold];simp[hct]⟩,λh=>absurd h h0,hD⟩)
 intro J hJ;refine ae.iK (by simpa[bG]using KO) (ae.jE (b:=1) (by have:mask>>>i<=mask:=xbm _ _;simp[bG];omega) (by simp[bG]) ?_);have Nf:(mask>>>i) &&&1=(mask.testBit i).toNat:=by
  rw[xbT,xc8,xa0];have:mask/2^i%2<2:=xbB _ zD;by_cases h:mask/2^i%2=1
  ·simp[h]
  have:mask/2^i%2=0:=by omega
  simp[this]
 rw[Nf];refine ae.dx (b:=0) ?_;cases ht:mask.testBit i with
 |false=>
  refine Br.T (JE.mk (hJ _ _ _ λgs=>?_));refine ae.inc ?_;have eb:bitsOf mask (i+1)=bitsOf mask i:=by rw[tX,ht];simp
  exact aC.mk ⟨i+1,cur,ch,K1,S1,C1,XF,rfl,hlt,rfl,dO,by rw[eb];exact kj,by rw[eb];exact jc,hw,fh,λj hj hb=>by
    rcases xdG.1 hj with h|rfl
    ·exact hD j h hb
    rw[ht]at hb;cases hb⟩ (by simp only[bN];omega)
 |true=>
  refine Br.F ?_;have eb:bitsOf mask (i+1)=bitsOf mask i++[i]:=by rw[tX,ht];simp
  have hh1:∀s,K1.hold s≠0->live K1.N s:=λs hs=>.inr (dO.ok.mid.held s hs);refine aa.fq (args:=#[ptr kp,u32 cur,iv (i:Int),.bool e]) (xZ dO hw.live (by rw[hw.n];exact hlt)) ?_;rintro w H ((⟨x,K2,S2,C2,rfl,rfl,cT,hg⟩|⟨rfl,⟨K2,S2,C2,rfl,cT,hk⟩,hno⟩)|⟨x,rfl,⟨K2,S2,C2,rfl,cT,hk⟩,Pw,hfx,WH⟩)
  ·refine Ext.mk rfl (Ext.mk rfl (Ext.mk rfl (aa.eq (uE _ x) (Ext.two λJ38 h38=>?_))));have fn2:∀s,live K.N s->S2 s=S s:=λs hs=>(hg.fn s (bu hw.N hs)).trans (hw.fn s hs);have hnew:T7 K S ord e mask r i/\¬Lx K S e mask r i:=by
    constructor
    ·have h3:=hg.DT dO cT;rw[hw.n,hw.cap,jc]at h3;refine Fits.mono (λg Up=>?_) h3;have old:∀g,K.held S g->K1.held S1 g:=λg ⟨s,hs,e⟩=>⟨s,by show K1.hold s≠0;have:K.hold s≠0:=hs;rw[hw.hold];omega,e.trans (hw.fn s (qO s hs)).symm⟩;by_cases h2:2<=cur
     ·refine bD (λg hh=>hh.imp (λhh=>?_) id) Up;rcases hh with hh|⟨hb,rfl⟩
      ·exact old g hh
      exact⟨cur,by show K1.hold cur≠0;rw[hw.hold,xad ⟨by rw[kj];exact xam hb,rfl,h2⟩];omega,jc.symm⟩
     rcases(lJ g).1 Up with Up|Up
     ·rcases(lJ g).1 Up with Up|Up
      ·exact bD (λg hh=>.inl (old g hh)) Up
      refine absurd (bD (λg hh=>hh.2) Up) (jo (λv hv=>h2 ?_) g);rw[<-jc]at hv;exact(ct dO hw.live).2 ⟨v,hv⟩
     exact bD (λg hh=>.inr hh) Up
    rintro⟨x',nL,hl',Nj,l7,hor⟩;obtain rfl:x'=x:=cT.ok.wf.same cT.ok.lv cT.ok.mid.int (bu hg.N (bu hw.N hl')) hg.live λy=>by rw[fn2 x' hl',Nj,hg.is,jc]
    have h1:=hg.hold x';rw[xad ⟨rfl,nL⟩,hw.hold]at h1;have h3:=cT.dR x';rcases hor with⟨hb,hp⟩|hp
    ·have hxc:x'=cur:=dO.ok.wf.same dO.ok.lv dO.ok.mid.int (bu hw.N hl') hw.live λy=>by rw[hw.fn x' hl',hp,jc]
     rw[xad ⟨by rw[kj];exact xam hb,hxc,by omega⟩]at h1;omega
    split at h1<;>omega
   have hD':AB K S ord e mask r (i+1):=λj hj hb=>by
    rcases xdG.1 hj with h|rfl
    ·exact hD j h hb
    exact hnew
   have go:∀K3 C3,bP kp K3 S2 ord ah [] C3->Way K S K3 S2 true x->J38 [] ((bs,Obj.cells (aA .u32 [(r:Int)]) 78 zZ)::C3):=λK3 C3 jZ hw3=>by
    refine h38 _ λgs=>?_;refine ae.cD (Br.F (JE.mk (hJ _ _ _ λgs=>?_)));exact ae.inc (aC.mk ⟨i+1,x,true,K3,S2,C3,[],rfl,hlt,rfl,jZ,by rw[eb];exact(xam zI).symm,by rw[hg.is,eb,QC,jc],hw3,λ_=>rfl,hD'⟩ (by simp only[bN];omega))
   cases ch with
   |false=>
    refine Br.no (JE.mk (go K2 H cT ⟨hg.n.trans hw.n,hg.cap.trans hw.cap,λs d hd=>hg.N s d (hw.N s d hd),fn2,hg.live,λs=>?_⟩));have a:=hw.hold s;rw[xab (λh=>by cases h.1)]at a;rw[hg.hold,a];simp
   |true=>
    have hlc:=hw.live;have hcc:2<=cur->K2.hold cur≠0:=λh2=>by rw[hg.hold,hw.hold,xad ⟨rfl,rfl,h2⟩];omega
    refine Br.yes (aa.fq (args:=#[ptr kp,u32 cur]) (m4 cT (r:=cur) (by have:=dO.bM hlc;omega) hcc) ?_);rintro w C3 ⟨rfl,K3,jZ,f3⟩;have gF:∀s,K3.hold s=K.hold s+if s=x/\2<=x then 1 else 0:=λs=>by
     have a:=hw.hold s;simp only[xcU]at a;rw[f3.hold,hg.hold,a];split<;>split<;>omega
    refine JE.mk (go K3 C3 jZ ⟨by rw[f3.n,hg.n,hw.n],by rw[f3.cap,hg.cap,hw.cap],λs d hs=>jX hK.ok jZ.ok (λs h=>by rw[gF];omega) (λs d d' h h'=>?_) _ s d hs (xaj _),fn2,?_,λs=>by rw[gF];simp⟩)
    ·have a:=f3.N s d' h';rw[hg.N s d (hw.N s d h)]at a;exact(xbg a).symm
    by_cases h2:x<2
    ·exact .inl h2
    refine .inr (jZ.ok.mid.held x ?_);rw[gF,xad ⟨rfl,by omega⟩];omega
  ·refine Ext.mk rfl (Ext.mk rfl (Ext.mk rfl (aa.eq (uF _ _ _) (Ext.two λJ38 h38=>?_))));have uA:∀g,K1.held S1 g->K.held S g\/(bitsOf mask i≠[]/\g=nI e (bitsOf mask i) (S r)):=by
    rintro g ⟨s,hs,rfl⟩;have hs':K1.hold s≠0:=hs;by_cases hz:K.hold s=0
    ·right;rw[hw.hold,hz]at hs';by_cases hx:ch=true/\s=cur/\2<=cur
     ·refine⟨?_,by rw[hx.2.1];exact jc⟩;have:=hx.1;rw[kj]at this;exact xcb this
     rw[xab hx]at hs';omega
    exact .inl ⟨s,hz,hw.fn s (qO s hz)⟩
   have Dz:¬Fits (aD K.n ord (λg=>(K.held S g\/(bitsOf mask i≠[]/\g=nI e (bitsOf mask i) (S r)))\/g=qf e i (nI e (bitsOf mask i) (S r)))) K.cap:=λhfit=>hno (by
    rw[hw.n,hw.cap,jc];exact Fits.mono (λg hg=>bD (λg h=>h.imp (uA g) id) hg) hfit)
   have go:∀K3 C3 PV,bP kp K3 S2 ord ah PV C3->PV=[]->(∀s,K3.hold s=K.hold s)->K3.n=K2.n->K3.cap=K2.cap->J38 [] ((bs,Obj.cells (aA .u32 [(r:Int)]) 78 zZ)::C3):=λK3 C3 PV jZ RH BQ hn3 Z8=>by
    refine h38 _ λgs=>?_;refine ae.cD (Br.T ?_);have hfn:∀s,K.hold s≠0->S2 s=S s:=λs hs=>(hk.fn s (by rw[hw.hold];omega)).trans (hw.fn s (qO s hs));refine aN.mk .tail (.inr (.inl ⟨rfl,⟨K3,S2,PV,jZ,.inl RH,⟨by rw[hn3,hk.n,hw.n],by rw[Z8,hk.cap,hw.cap],BQ,λg=>?_,hfn⟩⟩,i,hlt,ht,Dz,hD⟩));constructor
    ·rintro⟨s,hs,rfl⟩;have hs':K.hold s≠0:=by rw[<-BQ];exact hs
     exact⟨s,hs',hfn s hs'⟩
    rintro⟨s,hs,rfl⟩;exact⟨s,by show K3.hold s≠0;rw[BQ];exact hs,(hfn s hs).symm⟩
   cases ch with
   |false=>
    refine Br.no (JE.mk (go K2 H [] cT rfl (λs=>?_) rfl rfl));rw[hk.hold,hw.hold,xab (λh=>by cases h.1)];rfl
   |true=>
    have hcc:2<=cur->K2.hold cur≠0:=λh2=>by rw[hk.hold,hw.hold,xad ⟨rfl,rfl,h2⟩];omega
    refine Br.yes (aa.fq (args:=#[ptr kp,u32 cur]) (m4 cT (r:=cur) (by have:=dO.bM hw.live;omega) hcc) ?_);rintro w C3 ⟨rfl,K3,jZ,f3⟩;refine JE.mk (go K3 C3 [] jZ rfl (λs=>?_) f3.n f3.cap);have a:=hw.hold s;simp only[xcU]at a;rw[f3.hold,hk.hold,a];split<;>omega
  refine Ext.mk rfl (Ext.mk rfl (Ext.mk rfl (aa.eq (oN _ x) (Ext.two λJ38 h38=>?_))));have wo:live K.N x:=qO x (by have:=hw.hold x;split at this<;>omega);have Su:S x=qf e i (nI e (bitsOf mask i) (S r)):=by rw[<-jc,<-WH];exact(hw.fn x wo).symm
  have agO:65534<=K.hold x/\((bitsOf mask i≠[]/\S x=nI e (bitsOf mask i) (S r))\/K.hold x=65535):=by
   have:=hw.hold x;by_cases hx:ch=true/\x=cur/\2<=cur
   ·rw[xad hx]at this;refine⟨by omega,.inl ⟨?_,?_⟩⟩
    ·have h1:=hx.1;rw[kj]at h1;exact xcb h1
    rw[<-jc,<-hx.2.1];exact(hw.fn x wo).symm
   rw[xab hx]at this;exact⟨by omega,.inr zO⟩
  have go:∀K3 C3 PV,bP kp K3 S2 ord ah PV C3->PV=[]->(∀s,K3.hold s=K.hold s)->K3.n=K2.n->K3.cap=K2.cap->J38 [] ((bs,Obj.cells (aA .u32 [(r:Int)]) 78 zZ)::C3):=λK3 C3 PV jZ RH BQ hn3 Z8=>by
   refine h38 _ λgs=>?_;refine ae.cD (Br.T ?_);have hfn:∀s,K.hold s≠0->S2 s=S s:=λs hs=>(hk.fn s (by rw[hw.hold];omega)).trans (hw.fn s (qO s hs));refine aN.mk .tail (.inr (.inr ⟨rfl,⟨K3,S2,PV,jZ,.inl RH,⟨by rw[hn3,hk.n,hw.n],by rw[Z8,hk.cap,hw.cap],BQ,λg=>?_,hfn⟩⟩,.inr ⟨i,hlt,ht,⟨x,Pw,wo,Su,agO⟩,hD⟩⟩));constructor
   ·rintro⟨s,hs,rfl⟩;have hs':K.hold s≠0:=by rw[<-BQ];exact hs
    exact⟨s,hs',hfn s hs'⟩
   rintro⟨s,hs,rfl⟩;exact⟨s,by show K3.hold s≠0;rw[BQ];exact hs,(hfn s hs).symm⟩
  cases ch with
  |false=>
   refine Br.no (JE.mk (go K2 H [] cT rfl (λs=>?_) rfl rfl));rw[hk.hold,hw.hold,xab (λh=>by cases h.1)];rfl
  |true=>
   have hcc:2<=cur->K2.hold cur≠0:=λh2=>by rw[hk.hold,hw.hold,xad ⟨rfl,rfl,h2⟩];omega
   refine Br.yes (aa.fq (args:=#[ptr kp,u32 cur]) (m4 cT (r:=cur) (by have:=dO.bM hw.live;omega) hcc) ?_);rintro w C3 ⟨rfl,K3,jZ,f3⟩;refine JE.mk (go K3 C3 [] jZ rfl (λs=>?_) f3.n f3.cap);have a:=hw.hold s;simp only[xcU]at a;rw[f3.hold,hk.hold,a];split<;>omega
end
section
variable {kp:Nat} {K:Kd} {S:Nat->au.Fn} {ord ah tr:zL} {C:Hp}
theorem BJ.two{e:Bool}{mask r:Nat}{w:zV}{H:Hp}(h:BJ kp K S ord ah tr e mask r w H):∃x y,w=.tuple #[x,y]:=by
 rcases h with⟨x,K',S',rfl,_⟩|⟨rfl,_⟩
 ·exact⟨_,_,rfl⟩
 exact⟨_,_,rfl⟩
theorem xO.two{e:Bool}{mask r:Nat}{w:zV}{H:Hp}(h:xO kp K S ord ah tr e mask r w H):∃x y,w=.tuple #[x,y]:=by
 rcases h with h|⟨rfl,_⟩
 ·exact h.two
 exact⟨_,_,rfl⟩
theorem SP(hK:bP kp K S ord ah tr C){r mask:Nat}(hr:live K.N r)(hm:mask<2^K.n):
  Fc zQ 71 #[ptr kp,u32 r,.int .u64 (mask:Int)] C (uh kp K S ord ah tr true mask r):=by
 refine aI λg=>Ow (aa.fq (SW hK hr hm) ?_);intro w H hO;obtain⟨x,y,rfl⟩:=hO.full.two;exact Ext.mk rfl (Ext.mk rfl (aN.here hO))
theorem SL(hK:bP kp K S ord ah tr C){r mask:Nat}(hr:live K.N r)(hm:mask<2^K.n):
  Fc zQ 72 #[ptr kp,u32 r,.int .u64 (mask:Int)] C (uh kp K S ord ah tr false mask r):=by
 refine aI λg=>Ov (aa.fq (SW hK hr hm) ?_);intro w H hO;obtain⟨x,y,rfl⟩:=hO.full.two;exact Ext.mk rfl (Ext.mk rfl (aN.here hO))
def One(p:Prop)(a:Nat):Prop:=(a=1/\p)\/(a=0/\¬p)
theorem fY.one{K':Kd}{S':Nat->au.Fn}{f:au.Fn}{x:Nat}{cE:zL}{C':Hp}(h:fY K S K' S' f x)(cZ:bP kp K' S' ord ah cE C'){s:Nat}(hs:au.live K.N s)(h2:2<=s):∃a,One (S s=f) a/\K'.hold s=K.hold s+a:=by
 have hfn:=h.fn s hs;by_cases e:s=x
 ·exact⟨1,.inl ⟨rfl,by rw[<-hfn,e];exact h.is⟩,by rw[h.hold,xad ⟨e,by omega⟩]⟩
 refine⟨0,.inr ⟨rfl,λhf=>e ?_⟩,by rw[h.hold,xab (λh=>e h.1)]⟩;exact cZ.ok.wf.same cZ.ok.lv cZ.ok.mid.int (bu h.N hs) h.live λy=>by rw[hfn,hf,h.is]
def UD(K:Kd)(S:Nat->au.Fn)(ord:zL)(lo:au.Fn):Prop:=Fits (aD K.n ord (λg=>K.held S g\/g=lo)) K.cap
def YF(K:Kd)(S:Nat->au.Fn)(ord:zL)(lo hi:au.Fn):Prop:=Fits (aD K.n ord (λg=>(K.held S g\/g=lo)\/g=hi)) K.cap
def CF3(K:Kd)(S:Nat->au.Fn)(ord:zL)(lo hi f:au.Fn):Prop:=Fits (aD K.n ord (λg=>((K.held S g\/g=lo)\/g=hi)\/g=f)) K.cap
def XC(K:Kd)(S:Nat->au.Fn)(lo:au.Fn):Prop:=∃x,2<=x/\live K.N x/\S x=lo/\K.hold x=65535
def CU2(K:Kd)(S:Nat->au.Fn)(lo hi:au.Fn):Prop:=∃x a,2<=x/\live K.N x/\One (S x=lo) a/\S x=hi/\K.hold x+a=65535
def CU3(K:Kd)(S:Nat->au.Fn)(lo hi f:au.Fn):Prop:=∃x a b,2<=x/\live K.N x/\One (S x=lo) a/\One (S x=hi) b/\S x=f/\K.hold x+a+b=65535
def LC(kp:Nat)(K:Kd)(S:Nat->au.Fn)(ord ah tr:zL)(lo hi f:au.Fn)(w:zV)(H:Hp):Prop:=
 (∃x K' S',w=.tuple #[u32 x,iv 0]/\bP kp K' S' ord ah [] H/\fY K S K' S' f x/\(UD K S ord lo/\¬XC K S lo)/\(YF K S ord lo hi/\¬CU2 K S lo hi)/\CF3 K S ord lo hi f/\¬CU3 K S lo hi f)\/
 (w=.tuple #[u32 0,iv 9]/\(∃K' S' cE,bP kp K' S' ord ah cE H/\(cE=[]\/cE=tr)/\Kept K S K' S')/\
  (¬UD K S ord lo\/((UD K S ord lo/\¬XC K S lo)/\¬YF K S ord lo hi)\/((UD K S ord lo/\¬XC K S lo)/\(YF K S ord lo hi/\¬CU2 K S lo hi)/\¬CF3 K S ord lo hi f)))\/
 (w=.tuple #[u32 0,iv 8]/\(∃K' S' cE,bP kp K' S' ord ah cE H/\(cE=[]\/cE=tr)/\Kept K S K' S')/\
  (XC K S lo\/((UD K S ord lo/\¬XC K S lo)/\CU2 K S lo hi)\/((UD K S ord lo/\¬XC K S lo)/\(YF K S ord lo hi/\¬CU2 K S lo hi)/\CU3 K S lo hi f)))
theorem One.uniq{p:Prop}{a b:Nat}(h:One p a)(h':One p b):a=b:=by
 rcases h with⟨rfl,h⟩|⟨rfl,h⟩<;>rcases h' with⟨rfl,h'⟩|⟨rfl,h'⟩
 ·rfl
 ·exact absurd h h'
 ·exact absurd h' h
 rfl
theorem fY.A0{K':Kd}{S':Nat->au.Fn}{f:au.Fn}{x:Nat}{cE:zL}{C':Hp}(h:fY K S K' S' f x)(cZ:bP kp K' S' ord ah cE C'){s:Nat}(hs:au.live K.N s)(h2:2<=s)(hf:S s=f):K.hold s<65535:=by
 obtain rfl:s=x:=cZ.ok.wf.same cZ.ok.lv cZ.ok.mid.int (bu h.N hs) h.live λy=>by rw[h.fn s hs,hf,h.is]
 have h1:=h.hold s;rw[xad ⟨rfl,h2⟩]at h1;have:=cZ.dR s;omega
theorem fY.more{K':Kd}{S':Nat->au.Fn}{f:au.Fn}{x:Nat}{cE:zL}{C':Hp}{P:au.Fn->Prop}(h:fY K S K' S' f x)(hK:bP kp K S ord ah tr C)(cZ:bP kp K' S' ord ah cE C')(hF:Fits (aD K'.n ord (λg=>K'.held S' g\/P g)) K'.cap):Fits (aD K.n ord (λg=>(K.held S g\/g=f)\/P g)) K.cap:=by
 rw[h.n,h.cap]at hF;refine Fits.mono (λg hg=>?_) hF;have old:∀g,K.held S g->K'.held S' g:=λg ⟨s,hs,e⟩=>⟨s,by show K'.hold s≠0;have:K.hold s≠0:=hs;rw[h.hold];omega,e.trans (h.fn s (.inr (hK.ok.mid.held s hs))).symm⟩;by_cases h2:2<=x
 ·refine bD (λg hh=>hh.imp (λhh=>?_) id) hg;rcases hh with hh|rfl
  ·exact old g hh
  exact⟨x,by show K'.hold x≠0;rw[h.hold,xad ⟨rfl,h2⟩];omega,h.is.symm⟩
 rcases(lJ g).1 hg with hg|hg
 ·rcases(lJ g).1 hg with hg|hg
  ·exact bD (λg hh=>.inl (old g hh)) hg
  refine absurd hg (jo (λv hv=>h2 ?_) g);rw[<-h.is]at hv;exact(ct cZ h.live).2 ⟨v,hv⟩
 exact bD (λg hh=>.inr hh) hg
theorem aaw(hK:bP kp K S ord ah tr C){r v h:Nat}(hr:live K.N r)(hv:v<K.n)(hh:live K.N h):
  Fc zQ 73 #[ptr kp,u32 r,iv (v:Int),u32 h] C (LC kp K S ord ah tr (λx=>S r (ak.aB x v false)) (λx=>S r (ak.aB x v true)) (λx=>if S h x then S r (ak.aB x v true)else S r (ak.aB x v false))):=by
 have uJ:1<=2^K.n:=xef;have qO:∀s,K.hold s≠0->live K.N s:=λs hs=>.inr (hK.ok.mid.held s hs);refine aI λg=>Ou (aa.eq (yJ hK hv) (Ext.two (ae.AW (cS.and (a:=true) false (λ_=>Un.not ⟨rfl,rfl⟩) rfl λgs=>Br.no ?_))));refine ax.Rs (e:=78) zK zK zK λbs=>?_;refine aa.rq (args:=#[ptr kp,.int .u64 ((2^v:Nat):Int),.slice (some ⟨bs,0,none⟩) 2 2]) (sD (Y:=[(bs,Obj.cells (aA .u32 [(r:Int),(h:Int)]) 78 zZ)]) (refs:=[r,h]) hK (rA hv) ((aS.made (T:=78) (kd:=.u32) (b:=bs) (iw [r,h])).ints) (λs hs=>by
  simp only[xak,xaR,xbD]at hs;rcases hs with rfl|rfl
  ·exact hr
  exact hh) (by show 2<=1048576;omega)) ?_
 rintro w rfl;refine ae.cD (Br.F (aa.fq (args:=#[ptr kp,u32 r,iv (v:Int),.bool false]) (kT hK hr hv) ?_));rintro w H (hO|⟨x,rfl,⟨K1,S1,C1,rfl,dO,hk⟩,Pw,hfx,WH⟩);rotate_left
 ·exact Ext.mk rfl (Ext.mk rfl (Ext.mk rfl (aa.eq (oN _ x) (Ext.two (ae.cD (Br.T (aN.mk .tail (.inr (.inr ⟨rfl,⟨K1,S1,[],dO,.inl rfl,hk⟩,.inl ⟨x,Pw,qO x zO,WH,hfx⟩⟩)))))))))
 rcases hO with⟨x1,K1,S1,C1,rfl,rfl,dO,g1⟩|⟨rfl,⟨K1,S1,C1,rfl,dO,hk⟩,hno⟩;rotate_left
 ·exact Ext.mk rfl (Ext.mk rfl (Ext.mk rfl (aa.eq (uF _ _ _) (Ext.two (ae.cD (Br.T (aN.mk .tail (.inr (.inl ⟨rfl,⟨K1,S1,[],dO,.inl rfl,hk⟩,.inl hno⟩)))))))))
 refine Ext.mk rfl (Ext.mk rfl (Ext.mk rfl (aa.eq (uE _ x1) (Ext.two (ae.cD (Br.F ?_))))));have p1:UD K S ord (λx=>S r (ak.aB x v false))/\¬XC K S (λx=>S r (ak.aB x v false)):=⟨g1.DT hK dO,λ⟨x,h2,hl,hx,h5⟩=>by have:=g1.A0 dO hl h2 hx;omega⟩;have RJ:=bu g1.N hr;have e1:S1 r=S r:=g1.fn r hr;have hh1:=bu g1.N hh;have l1:=g1.live;have fi:=g1.hold;have RZ:∀g,K1.held S1 g->K.held S g\/g=λx=>S r (ak.aB x v false):=g1.held qO;refine aa.fq (args:=#[ptr kp,u32 r,iv (v:Int),.bool true]) (kT dO RJ (by rw[g1.n];exact hv)) ?_;intro w H hO;rw[e1]at hO;rcases hO with(⟨x2,K2,S2,C2,rfl,rfl,cT,g2⟩|⟨rfl,⟨K2,S2,C2,rfl,cT,hk⟩,hno⟩)|⟨x,rfl,⟨K2,S2,C2,rfl,cT,hk⟩,Pw,hfx,WH⟩;rotate_left
 ·refine Ext.mk rfl (Ext.mk rfl (Ext.mk rfl (aa.eq (uF _ _ _) (Ext.two (ae.cD (Br.T (j9.fn (args:=#[ptr kp,u32 x1]) (.cons .here) (iT cT (r:=x1) (by have:=dO.bM l1;omega) (λh2=>by rw[hk.hold,fi,xad ⟨rfl,h2⟩];omega)) ?_)))))));rintro w C3 ⟨rfl,K3,jZ,f3⟩;have BQ:∀s,K3.hold s=K.hold s:=λs=>by
   rw[f3.hold,hk.hold,fi];split<;>omega
  have hfn:∀s,K.hold s≠0->S2 s=S s:=λs hs=>(hk.fn s (by rw[fi];omega)).trans (g1.fn s (qO s hs));refine aN.mk .tail (.inr (.inl ⟨rfl,⟨K3,S2,[],jZ,.inl rfl,⟨by rw[f3.n,hk.n,g1.n],by rw[f3.cap,hk.cap,g1.cap],BQ,λg=>?_,hfn⟩⟩,.inr (.inl ⟨p1,λhfit=>hno ?_⟩)⟩))
  ·constructor
   ·rintro⟨s,hs,rfl⟩;have hs':K.hold s≠0:=by rw[<-BQ];exact hs
    exact⟨s,hs',hfn s hs'⟩
   rintro⟨s,hs,rfl⟩;exact⟨s,by show K3.hold s≠0;rw[BQ];exact hs,(hfn s hs).symm⟩
  rw[g1.n,g1.cap];exact Fits.mono (λg hg=>bD (λg h=>h.imp (RZ g) id) hg) hfit
 ·refine Ext.mk rfl (Ext.mk rfl (Ext.mk rfl (aa.eq (oN _ x) (Ext.two (ae.cD (Br.T ?_))))));have wo:live K.N x:=qO x (by have:=fi x;split at this<;>omega);obtain⟨a,ha,hka⟩:=g1.one dO wo Pw;have Su:S x=λx=>S r (ak.aB x v true):=by rw[<-WH];exact(g1.fn x wo).symm
  refine j9.fn (args:=#[ptr kp,u32 x1]) (.cons .here) (iT cT (r:=x1) (by have:=dO.bM l1;omega) (λh2=>by rw[hk.hold,fi,xad ⟨rfl,h2⟩];omega)) ?_;rintro w C3 ⟨rfl,K3,jZ,f3⟩;have BQ:∀s,K3.hold s=K.hold s:=λs=>by
   rw[f3.hold,hk.hold,fi];split<;>omega
  have hfn:∀s,K.hold s≠0->S2 s=S s:=λs hs=>(hk.fn s (by rw[fi];omega)).trans (g1.fn s (qO s hs));refine aN.mk .tail (.inr (.inr ⟨rfl,⟨K3,S2,[],jZ,.inl rfl,⟨by rw[f3.n,hk.n,g1.n],by rw[f3.cap,hk.cap,g1.cap],BQ,λg=>?_,hfn⟩⟩,.inr (.inl ⟨p1,x,a,Pw,wo,ha,Su,by omega⟩)⟩));constructor
  ·rintro⟨s,hs,rfl⟩;have hs':K.hold s≠0:=by rw[<-BQ];exact hs
   exact⟨s,hs',hfn s hs'⟩
  rintro⟨s,hs,rfl⟩;exact⟨s,by show K3.hold s≠0;rw[BQ];exact hs,(hfn s hs).symm⟩
 refine Ext.mk rfl (Ext.mk rfl (Ext.mk rfl (aa.eq (uE _ x2) (Ext.two (ae.cD (Br.F ?_))))));have g2i:=g2.is;have p2:YF K S ord (λx=>S r (ak.aB x v false)) (λx=>S r (ak.aB x v true))/\¬CU2 K S (λx=>S r (ak.aB x v false)) (λx=>S r (ak.aB x v true)):=⟨g1.more hK dO (g2.DT dO cT),λ⟨x,a,h2,hl,ha,hx,h5⟩=>by
  obtain⟨a',dQ,e⟩:=g1.one dO hl h2;have:=ha.uniq dQ;have:=g2.A0 cT (bu g1.N hl) h2 (by rw[g1.fn x hl,hx]);omega⟩
 have hh2:=bu g2.N hh1;have l12:=bu g2.N l1;have l2:=g2.live;have fU:=g2.hold;have ago:∀s,K1.hold s≠0->live K1.N s:=λs hs=>.inr (dO.ok.mid.held s hs);have Z2:∀g,K2.held S2 g->(K.held S g\/g=λx=>S r (ak.aB x v false))\/g=λx=>S r (ak.aB x v true):=λg hg=>(g2.held ago g hg).imp (RZ g) id;have eh:S2 h=S h:=(g2.fn h hh1).trans (g1.fn h hh);have ex1:S2 x1=λx=>S r (ak.aB x v false):=(g2.fn x1 l1).trans g1.is;have R3:∀s,live K.N s->S2 s=S s:=λs hs=>(g2.fn s (bu g1.N hs)).trans (g1.fn s hs);refine aa.fq (args:=#[ptr kp,u32 h,u32 x2,u32 x1]) (Af cT hh2 l2 l12) ?_;intro w H hO;rw[eh,ex1,g2.is]at hO;rcases hO with(⟨x3,K3,S3,rfl,jZ,g3⟩|⟨rfl,⟨K3,S3,PV,jZ,_,hk⟩,hno⟩)|⟨rfl,⟨K3,S3,PV,jZ,_,hk⟩,x,Pw,hfx,WH⟩
 ·apply Ext.two;have gF:=g3.hold;refine j9.fn (args:=#[ptr kp,u32 x2]) (.cons .here) (iT jZ (r:=x2) (by have:=cT.bM l2;omega) (λh2=>by rw[gF,fU,xad ⟨rfl,h2⟩];omega)) ?_;rintro w C4 ⟨rfl,K4,Nl,f4⟩;have ni:∀s,K4.hold s=K1.hold s+if s=x3/\2<=x3 then 1 else 0:=λs=>by
   rw[f4.hold,gF,fU];split<;>split<;>omega
  refine j9.fn (args:=#[ptr kp,u32 x1]) (.cons .here) (iT Nl (r:=x1) (by have:=dO.bM l1;omega) (λh2=>by rw[ni,fi,xad ⟨rfl,h2⟩];omega)) ?_;rintro w C5 ⟨rfl,K5,KM,f5⟩;have n9:∀s,K5.hold s=K.hold s+if s=x3/\2<=x3 then 1 else 0:=λs=>by
   rw[f5.hold,ni,fi];split<;>split<;>omega
  have wo:live K5.N x3:=by
   by_cases h2:x3<2
   ·exact .inl h2
   refine .inr (KM.ok.mid.held x3 ?_);rw[n9,xad ⟨rfl,by omega⟩];omega
  have agQ:∀s,live K.N s->S3 s=S s:=λs hs=>(g3.fn s (bu g2.N (bu g1.N hs))).trans (R3 s hs);refine aN.mk .tail (.inl ⟨x3,K5,S3,rfl,KM,⟨by rw[f5.n,f4.n,g3.n,g2.n,g1.n],by rw[f5.cap,f4.cap,g3.cap,g2.cap,g1.cap],λs d hs=>jX hK.ok KM.ok (λs h=>by rw[n9];omega) (λs d d' h h'=>?_) _ s d hs (xaj _),agQ,wo,g3.is,n9⟩,p1,p2,?_,?_⟩);rotate_left
  ·have h3:=g2.more dO cT (P:=λg=>g=λx=>if S h x then S r (ak.aB x v true)else S r (ak.aB x v false)) (g3.DT cT jZ);have h4:=g1.more hK dO (P:=λg=>(g=λx=>S r (ak.aB x v true))\/g=λx=>if S h x then S r (ak.aB x v true)else S r (ak.aB x v false)) (Fits.mono (λg hg=>bD (λg h=>or_assoc.2 h) hg) h3);exact Fits.mono (λg hg=>bD (λg h=>or_assoc.1 h) hg) h4
  ·rintro⟨x,a,b,h2,hl,ha,hb,hx,h5⟩;obtain⟨a',dQ,e1⟩:=g1.one dO hl h2;obtain⟨b',hb',e2⟩:=g2.one cT (bu g1.N hl) h2;rw[g1.fn x hl]at hb';have:=ha.uniq dQ;have:=hb.uniq hb';have:=g3.A0 jZ (bu g2.N (bu g1.N hl)) h2 (by rw[R3 x hl,hx]);omega
  have a:=f4.N s d' (f5.N s d' h');rw[g3.N s d (g2.N s d (g1.N s d h))]at a;exact(xbg a).symm
 ·apply Ext.two;have gF:=hk.hold;refine j9.fn (args:=#[ptr kp,u32 x2]) (.cons .here) (iT jZ (r:=x2) (by have:=cT.bM l2;omega) (λh2=>by rw[gF,fU,xad ⟨rfl,h2⟩];omega)) ?_;rintro w C4 ⟨rfl,K4,Nl,f4⟩;have ni:∀s,K4.hold s=K1.hold s:=λs=>by
   rw[f4.hold,gF,fU];split<;>omega
  refine j9.fn (args:=#[ptr kp,u32 x1]) (.cons .here) (iT Nl (r:=x1) (by have:=dO.bM l1;omega) (λh2=>by rw[ni,fi,xad ⟨rfl,h2⟩];omega)) ?_;rintro w C5 ⟨rfl,K5,KM,f5⟩;have n9:∀s,K5.hold s=K.hold s:=λs=>by
   rw[f5.hold,ni,fi];split<;>omega
  have hfn:∀s,K.hold s≠0->S3 s=S s:=λs hs=>(hk.fn s (by rw[fU,fi];omega)).trans (R3 s (qO s hs));refine aN.mk .tail (.inr (.inl ⟨rfl,⟨K5,S3,[],KM,.inl rfl,⟨by rw[f5.n,f4.n,hk.n,g2.n,g1.n],by rw[f5.cap,f4.cap,hk.cap,g2.cap,g1.cap],n9,λg=>?_,hfn⟩⟩,.inr (.inr ⟨p1,p2,λhfit=>hno ?_⟩)⟩))
  ·constructor
   ·rintro⟨s,hs,rfl⟩;have hs':K.hold s≠0:=by rw[<-n9];exact hs
    exact⟨s,hs',hfn s hs'⟩
   rintro⟨s,hs,rfl⟩;exact⟨s,by show K5.hold s≠0;rw[n9];exact hs,(hfn s hs).symm⟩
  rw[g2.n,g2.cap,g1.n,g1.cap];exact Fits.mono (λg hg=>bD (λg h=>h.imp (Z2 g) id) hg) hfit
 apply Ext.two;have gF:=hk.hold;have wo:live K.N x:=qO x (by have:=fU x;have:=fi x;split at* <;>split at* <;>omega);obtain⟨a,ha,hka⟩:=g1.one dO wo Pw;obtain⟨b,hb,hkb⟩:=g2.one cT (bu g1.N wo) Pw;rw[g1.fn x wo]at hb;have Su:S x=λx=>if S h x then S r (ak.aB x v true)else S r (ak.aB x v false):=by rw[<-WH];exact(R3 x wo).symm
 refine j9.fn (args:=#[ptr kp,u32 x2]) (.cons .here) (iT jZ (r:=x2) (by have:=cT.bM l2;omega) (λh2=>by rw[gF,fU,xad ⟨rfl,h2⟩];omega)) ?_;rintro w C4 ⟨rfl,K4,Nl,f4⟩;have ni:∀s,K4.hold s=K1.hold s:=λs=>by
  rw[f4.hold,gF,fU];split<;>omega
 refine j9.fn (args:=#[ptr kp,u32 x1]) (.cons .here) (iT Nl (r:=x1) (by have:=dO.bM l1;omega) (λh2=>by rw[ni,fi,xad ⟨rfl,h2⟩];omega)) ?_;rintro w C5 ⟨rfl,K5,KM,f5⟩;have n9:∀s,K5.hold s=K.hold s:=λs=>by
  rw[f5.hold,ni,fi];split<;>omega
 have hfn:∀s,K.hold s≠0->S3 s=S s:=λs hs=>(hk.fn s (by rw[fU,fi];omega)).trans (R3 s (qO s hs));refine aN.mk .tail (.inr (.inr ⟨rfl,⟨K5,S3,[],KM,.inl rfl,⟨by rw[f5.n,f4.n,hk.n,g2.n,g1.n],by rw[f5.cap,f4.cap,hk.cap,g2.cap,g1.cap],n9,λg=>?_,hfn⟩⟩,.inr (.inr ⟨p1,p2,x,a,b,Pw,wo,ha,hb,Su,by omega⟩)⟩));constructor
 ·rintro⟨s,hs,rfl⟩;have hs':K.hold s≠0:=by rw[<-n9];exact hs
  exact⟨s,hs',hfn s hs'⟩
 rintro⟨s,hs,rfl⟩;exact⟨s,by show K5.hold s≠0;rw[n9];exact hs,(hfn s hs).symm⟩
end
end
section
theorem B3{n:Nat}(hn:n<=16)(B:Hp):Rd zQ 266 #[iv (n:Int)] B (· =iv ((ak.wN n:Nat):Int)):=by
 refine aI λg=>He ?_;have h1:1<<<n<=65536:=by rw[xa6];exact xax (n:=2) zD hn
 refine ae.Cn (a:=1) (b:=n) (by simp[IntKind.bits];omega) (by simp[bG];omega) (ae.iK (b:=6) (by simp[bG];omega) (⟨_,_,_,rfl,rfl,?_⟩));refine bc.mk (.refl _) ?_;have:1<<<n>>>6=2^n/64:=by rw[xa6,xa0]
 rw[this];congr 1;unfold ak.wN;rw[Nat.max_def];split<;>split<;>omega
theorem KS{n:Nat}(hn:n<=16)(B:Hp):Rd zQ 267 #[iv (n:Int)] B (· =.int .u64 ((ak.dL n:Nat):Int)):=by
 refine aI λg=>G9 (ae.tS (a:=n) (b:=6) (Br.dec (λh=>?_) (λh=>?_)))
 ·exact bc.mk (.refl _) (by unfold ak.dL;rw[xad h];rfl)
 have h1:2^n<=32:=xax (n:=2) zD (by omega:n<=5);have h2:2^2^n<=2^32:=xax zD h1;have h3:=xbw (2^n);refine ae.nR (a:=1) (b:=n) ?_;rw[xa6,xbk zO];refine ae.nR (a:=1) ?_;rw[xa6,xbk zO];exact ae.ca (b:=1) (bc.mk (.refl _) (by unfold ak.dL;rw[xab h]))
theorem MU{n:Nat}{ws:zL}(hn:n<=16)(hl:ws.length=ak.wN n)(hw:∀w∈ws,w<18446744073709551616){w:Nat}(hg:ws[ws.length-1]? =some w):
  (nf w (ak.dL n)=0)↔ak.eV n ws:=by
 have key:∀w,w<18446744073709551616->(nf w (ak.dL n)=0↔w<=ak.dL n):=by
  intro w hw;constructor
  ·intro h;have:w&&&ak.dL n=w:=by
    apply xaV;intro j;have:=xck (λx=>x.testBit j) h;simp only[dG,xcy]at this;rw[xbi];cases h1:w.testBit j<;>cases h2:(ak.dL n).testBit j<;>simp_all
   rw[<-this];exact xc6
  intro h;have:=ak.xf h;unfold nf;rw[this,Nat.xor_self]
 constructor
 ·intro h;refine⟨hn,hl,λu hu=>?_⟩;by_cases h6:6<=n
  ·unfold ak.dL;rw[xad h6];have:=hw u hu;omega
  have h1:ws.length=1:=by rw[hl,ak.JP zO]
  obtain⟨x,rfl⟩:=List.length_eq_one_iff.1 h1;simp at hg hu;subst hg;subst hu;exact(key _ (hw _ zI)).1 h
 intro h;exact(key w (hw w (xav hg))).2 (h.full w (xav hg))
theorem DP{B:Hp}{v:zV}{t:Tb}(ht:EN B v t):Rd zQ 268 #[v] B (· =.bool (decide (TF t))):=by
 obtain⟨tn,ws⟩:=t;obtain⟨s,rfl,hs,hw⟩:=ht;simp only at hs hw⊢;refine aI λg=>G8 λb1 _ J hJ=>?_;have hno:¬TF ⟨tn,ws⟩->JE J [.bool true] ((b1,.cells (Value.cells (.agg #[iv tn,s])) 175 zZ)::B):=λh=>
  JE.mk (hJ _ _ λgs=>Br.yes (bc.mk .tail (by rw[xal h])))
 refine DR.self ?_;refine ai.mk (Ld.mk zM rfl ?_);refine ae.lss (Br.dec (λh0=>hno λh=>by have:=h.1;simp only at this;omega) (λh0=>?_));obtain⟨n,rfl⟩:∃n:Nat,tn=n:=⟨tn.toNat,by omega⟩;have hTF:TF ⟨(n:Int),ws⟩↔ak.eV n ws:=by unfold TF;simp
 refine ai.mk (Ld.mk zM rfl ?_);refine ae.nE (b:=16) (aH.mk (Br.dec (λh1=>hno λh=>by have:=(hTF.1 h).x6;omega) (λh1=>?_)));refine ai.mk (Ld.mk zM rfl ?_);refine hs.bV ?_;refine ai.mk (Ld.mk zM rfl ?_);intro F;refine aa.eq (B3 zO B) (⟨(by repeat (first|exact aM.refl _|apply aM.cons|apply aM.skip|apply aM.de|apply aM.eY)),?_⟩);rw[aq];refine ae.x5 (aH.mk ?_);simp only[xag];by_cases hl:ws.length=ak.wN n
 case neg=>rw[show decide (ws.length≠ak.wN n)=true by simp[hl]];exact hno λh=>hl (hTF.1 h).len
 rw[show decide (ws.length≠ak.wN n)=false by simp[hl]];refine JE.mk (hJ _ _ λgs=>Br.no ?_);have hpos:=ak.YJ n;obtain⟨w,hg⟩:∃w,ws[ws.length-1]? =some w:=⟨_,xaa zO⟩;refine DR.self ?_;refine ai.mk (Ld.mk zM rfl ?_);refine ai.mk (Ld.mk zM rfl ?_);refine hs.bV ?_;rw[aq];refine ae.xW (b:=1) (by have:=ak.yC (n:=n) zO;simp[bG];omega) zO (hs.ld (dg hg) zS ?_);refine ai.mk (Ld.mk zM rfl ?_);refine aa.eq (KS zO B) (⟨(by repeat (first|exact aM.refl _|apply aM.cons|apply aM.skip|apply aM.de|apply aM.eY)),?_⟩);refine ae.Ej (by have:=hw w (xav hg);simpa[bG]using this) (by have:=ak.rP n;simpa[bG]using this) (ae.dx (b:=0) (bc.mk .tail ?_));congr 1;exact xaZ.2 ((MU zO hl hw hg).trans hTF.symm)
theorem DO{B:Hp}{v:zV}{ts:List Tb}(ht:jG B v ts)(cI:ts.length<2^62):Rd zQ 238 #[v] B (· =.bool (decide (∀t∈ts,TF t/\some t.n=ts.head?.map Tb.n))):=by
 refine aI λg=>HJ (ht.bV ?_);refine⟨λvs H=>bY B H/\∃k:Nat,vs=[iv (k:Int)]/\k<=ts.length/\∀i t,i<k->ts[i]? =some t->TF t/\some t.n=ts.head?.map Tb.n,λvs _=>ts.length-bN vs 0,JE.mk ⟨.refl _,0,rfl,by omega,by omega⟩,?_⟩;rintro w H ⟨hg,k,⟨⟩,hk,aJ⟩ gs;refine ae.fC (Br.dec (λhlt=>?_) (λhlt=>?_))
 ·obtain⟨t,nB⟩:∃t,ts[k]? =some t:=⟨_,xaa hlt⟩;obtain⟨t0,Wi⟩:∃t,ts[0]? =some t:=⟨_,xaa zO⟩;have hh:ts.head?.map Tb.n=some t0.n:=by rw[List.head?_eq_getElem?,Wi];rfl
  have htB:=ht.mono hg.sub;refine htB.ld nB (λ_ h=>h) λs hs=>?_;intro b1 _;refine St.p ?_ ?_
  ·obtain⟨a,c,rfl,_⟩:=hs.1.shape;simp[Value.oneCell']
  intro J hJ;have hno:∀H',bY B H'->¬(TF t/\some t.n=ts.head?.map Tb.n)->JE J [.bool true] H':=λH' Yc h=>
   JE.mk (hJ _ _ λgs=>Br.yes (bc.mk Yc.dN (by rw[xal];exact λhh=>h (hh t (xav nB)))))
  have Uo:bY B ((b1,Obj.cells (List.toArray [iv t.n,s]) 175 zZ)::H):=.cons hg;refine DR.self (az.q ?_);intro F;refine aa.eq (B:=H) (DP ⟨s,rfl,hs⟩) (⟨.refl _,Un.not ?_⟩);by_cases hT:TF t
  case neg=>rw[xal hT];exact Br.yes (hno _ Uo λh=>hT h.1)
  rw[xam hT];apply Br.no;refine ai.mk (Ld.mk zM rfl ?_);refine htB.ldN Wi zS ?_;refine ae.cD (aH.mk ?_);simp only[xag];by_cases hn:t.n=t0.n
  case neg=>rw[xam hn];exact hno _ Uo λh=>hn (by have:=h.2;rw[hh]at this;simpa using this)
  rw[xal (by simpa using hn)];refine JE.mk (hJ _ _ λgs=>Br.no ?_);refine ae.inc (aC.mk ⟨Uo,k+1,rfl,by omega,λi u hi hu=>?_⟩ (by simp[bN];omega));by_cases e:i=k
  ·subst e;rw[nB]at hu;cases hu;exact⟨hT,by rw[hh,hn]⟩
  exact aJ i u zO hu
 refine bc.mk hg.dN ?_;rw[xam];intro t htm;obtain⟨i,hi,rfl⟩:=xba.1 htm;exact aJ i _ zO (xaa hi)
theorem wD{B:Hp}{b:Nat}{t:Tb}{s:zV}{T:TypeId}{fz:Nat×Nat}(hm:(b,Obj.cells #[iv t.n,s] T fz)∈B)(hw:Words B s t.ws):
  Rd zQ 238 #[.slice (some ⟨b,0,none⟩) 1 1] B (· =.bool (decide (TF t))):=
 (DO (jG.one (cap:=0) hm hw) zI).mono λv H ⟨h1,h2⟩=>⟨h1,by rw[h2];congr 1;simp⟩
theorem ab2{B:Hp}{v:zV}{t:Tb}(ht:EN B v t)(u:Int):Rd zQ 284 #[v,iv u] B (· =iv (if TF t then(if 0<=u/\u<t.n then 0 else 2)else 5)):=by
 obtain⟨s,rfl,hw⟩:=ht;refine aI λg=>GP λb1 _=>?_;refine az.q ?_;refine wX λb2=>?_;refine aa.rd .here (wD (by exact List.Mem.head _) (hw.mono zS)) ?_;rintro v rfl;apply Un.not;by_cases hT:TF t
 ·rw[xam hT,xad hT];refine Br.no (ae.lss (cS.or (decide (t.n<=u)) (λh=>?_) rfl ?_))
  ·refine ai.mk (Ld.mk zM rfl ?_);exact ae.geq ⟨rfl,rfl⟩
  intro gs;have hor:(decide (u<0)||decide (t.n<=u))=decide (¬(0<=u/\u<t.n)):=by
   by_cases h1:u<0<;>by_cases h2:t.n<=u<;>simp[h1,h2]<;>omega
  rw[hor];refine Br.dec (λh=>?_) (λh=>?_)
  ·exact bc.mk (by repeat (first|exact aM.refl _|apply aM.cons|apply aM.skip|apply aM.de|apply aM.eY)) (by rw[xab h])
  exact bc.mk (by repeat (first|exact aM.refl _|apply aM.cons|apply aM.skip|apply aM.de|apply aM.eY)) (by rw[xad (xek.1 h)])
 rw[xal hT,xab hT];exact Br.yes (bc.mk (by repeat (first|exact aM.refl _|apply aM.cons|apply aM.skip|apply aM.de|apply aM.eY)) rfl)
theorem z8{u i:Nat}(hu:u<64)(hi:i<18446744073709551616)(KF:i<9223372036854775808)(B:Hp):Rd zQ 237 #[iv (u:Int),iv (i:Int)] B
  (· =.int .u64 ((if 6<=u then(if(i>>>(u-6)).testBit 0 then 18446744073709551615 else 0)else ak.mask u:Nat):Int)):=by
 refine aI λg=>HK (ae.tS (a:=u) (b:=6) (Br.dec (λh=>?_) (λh=>?_)))
 ·refine br.nat (by simpa[bG]using hi) (ae.xW (b:=6) (by simp[bG];omega) h (ae.iK (by simpa[bG]using hi) ?_));have hs:i>>>(u-6)<18446744073709551616:=xaA (xbm _ _) hi;refine ae.jE (b:=1) (by simpa[bG]using hs) zD (Un.afM (by rw[ak.gw];split<;>decide) ?_);refine bc.mk (.refl _) ?_;rw[xad h,ak.gw];split<;>rfl
 refine⟨λvs H=>H=B/\∃j:Nat,vs=[.int .u64 ((ak.Bv u j:Nat):Int),iv (j:Int)]/\j<=64,λvs _=>64-bN vs 1,JE.mk ⟨rfl,0,rfl,by omega⟩,?_⟩;rintro w1 w2 H ⟨rfl,j,⟨⟩,hj⟩ gs;refine ae.fC (b:=64) (Br.dec (λhlt=>?_) (λhlt=>?_))
 ·refine ae.iK (by simp[bG];omega) ?_;have hs:j>>>u<64:=xaA (xbm _ _) hlt;refine ae.jE (b:=1) (by simp[bG];omega) zD ?_;have h1:j>>>u&&&1<=1:=by rw[ak.gw];split<;>decide
  refine br.q (ae.nR ?_);have h2:((j>>>u&&&1)<<<j)<18446744073709551616:=by
   rw[xcn]
   calc _<=1*2^j:=xaX _ h1
    _<2^64:=by rw[xdk];exact xbx zD hlt
  rw[xbk h2];have h3:ak.Bv u j<18446744073709551616:=xaP (ak.Bu u j) (xax (n:=2) zD hj);exact ae.Kq (by simpa[bG]using h3) (by simpa[bG]using h2) (ae.inc (aC.mk ⟨rfl,j+1,rfl,by omega⟩ (by simp[bN];omega)))
 have:j=64:=by omega
 subst this;exact bc.mk (.refl _) (by rw[xab h];rfl)
theorem uH{n:Nat}(hn:n<=16){fv:zV}{f:FuncId}{first cap:Array zV}(R2:fv=.func (.func f) first cap)(fO:aU zQ f=true){F:Nat->Nat}(hF:∀i,i<ak.wN n->F i<18446744073709551616){B:Hp}
 (hc:∀i:Nat,i<ak.wN n->Rd zQ f (first++ #[iv (i:Int)]++cap) B (· =.int .u64 ((F i:Nat):Int))):
  Px zQ 233 #[iv (n:Int),fv] B (λv H=>EN H v ⟨n,(List.range (ak.wN n)).map λi=>F i&&&ak.dL n⟩):=by
 intro g;have hwl:=ak.yC hn;refine HN (R:=aN _) ?_;unfold L233;intro b1 _;refine aa.eq (B3 hn B) (cU.ints (kX hn).1 (kX hn).2 λbw=>?_);refine Build.mk (cs:=[iv (n:Int),.slice (some ⟨bw,0,none⟩) (ak.wN n) (ak.wN n)]) zK λb8 _=>?_;refine St.q ?_;refine ai.mk (Ld.mk zM rfl ?_);refine aR.mk ?_;rw[range_zero (G:=λi=>F i&&&ak.dL n)];refine⟨λvs H=>∃i:Nat,vs=[iv (i:Int)]/\i<=ak.wN n/\H=(b8,.cells (List.toArray [iv (n:Int),.slice (some ⟨bw,0,none⟩) (ak.wN n) (ak.wN n)]) 175 zZ)::
   (bw,.cells (aA .u64 (iw ((List.range (ak.wN n)).map λk=>if k<i then F k&&&ak.dL n else 0))) 33 zZ)::(b1,.cells #[iv 0,.slice none 0 0] 175 zZ)::B,
  λvs _=>ak.wN n-bN vs 0,JE.mk ⟨0,rfl,by omega,rfl⟩,?_⟩
 rintro w H ⟨i,⟨⟩,hi,rfl⟩ gs;refine ae.fC (Br.dec (λhlt=>?_) (λhlt=>?_))
 ·refine DR.self ?_;refine ai.mk (Ld.mk zM rfl ?_);refine aE.of R2 fO ?_;refine aa.eq (hc i hlt) (⟨.refl _,?_⟩);refine aa.eq (KS hn B) (⟨.refl _,?_⟩);refine ae.jE (by simpa[bG]using hF i hlt) (by simpa[bG]using ak.rP n) (av.nat hlt ?_);refine St.ints (l:=iw _) (by exact .tail (.head _)) (by simpa using hlt) ?_;refine ae.inc ?_;rw[My hlt];exact aC.mk ⟨i+1,rfl,by omega,rfl⟩ (by simp[bN];omega)
 have:i=ak.wN n:=by omega
 subst this;rw[Fl];refine az.q ?_;refine St.q ?_;refine az.q ?_;refine GN.mk (by repeat (first|exact bY.refl _|apply bY.cons|apply bY.app)) ⟨_,rfl,?_⟩;have:=Words.block (b:=bw) (cap:=ak.wN n) (ws:=(List.range (ak.wN n)).map λi=>F i&&&ak.dL n) (T:=33) (fz:=(0,0)) (B:=(b8,.cells (List.toArray [iv (n:Int),.slice (some ⟨bw,0,none⟩) (ak.wN n) (ak.wN n)]) 175 zZ)::
  (bw,.cells (aA .u64 (iw ((List.range (ak.wN n)).map λi=>F i&&&ak.dL n))) 33 zZ)::(b1,.cells (List.toArray [iv (n:Int),.slice (some ⟨bw,0,none⟩) (ak.wN n) (ak.wN n)]) 175 zZ)::B) (by exact .tail _ (.head _)) zI (λw hw=>by
   obtain⟨k,_,rfl⟩:=xan.1 hw;exact xaA xc6 (ak.rP n))
 simpa using this
theorem So{B:Hp}{pv pb pa s:zV}{u n i:Nat}{c:Bool}{ws:zL}(hv:Go.Sx.At B pv [iv (u:Int)])(hb:Go.Sx.At B pb [.bool c])(ha:Go.Sx.At B pa [iv (n:Int),s])(hw:Words B s ws)(hf:ak.eV n ws)(hu:u<n)(hi:i<ak.wN n):
  Rd zQ 277 #[iv (i:Int),pv,pb,pa] B (· =.int .u64 ((ak.rL ws u c i:Nat):Int)):=by
 intro g;have hn:=hf.x6;have hwl:=ak.yC hn;refine GW (R:=aN _) ?_;unfold L277;refine Ld.at hv (λ_ h=>h) ?_;refine ae.tS (a:=u) (b:=6) (Br.dec (λh6=>?_) (λh6=>?_))
 ·have hp:2^(u-6)<=1024:=xax (n:=2) zD (by omega:u-6<=10);refine Ld.at hv (λ_ h=>h) ?_;refine ae.xW (b:=6) (by simp[bG];omega) h6 (ae.Cn (a:=1) (by simp[IntKind.bits];omega) (by rw[xa6];simp[bG];omega) ?_);rw[xa6];refine ae.Ej (by simp[bG];omega) (by simp[bG];omega) ?_;have hand:=m9 i (2^(u-6));intro J hJ;have acB:ak.aB i (u-6) c<ak.wN n:=by
   rw[ak.JQ zO]at hi⊢;exact ak.fZ hi zO
  have ig:JE J [iv ((ak.aB i (u-6) c:Nat):Int)] B:=by
   refine JE.mk (hJ _ _ λgs=>?_);refine ai.at ha λq hq=>Ld.at hq (λ_ h=>h) ?_;have hg:ws[ak.aB i (u-6) c]? =some (ws.getD (ak.aB i (u-6) c) 0):=by rw[xaa (by rw[hf.len];exact acB),xaq,xaa (by rw[hf.len];exact acB)];rfl
   refine hw.1.ld (dg hg) (λ_ h=>h) ?_;exact bc.mk (.refl _) (by unfold ak.rL;rw[xad h6])
  refine Ld.at hb (λ_ h=>h) ?_;cases c
  ·exact Br.no ig
  refine Br.yes (Ld.at hv (λ_ h=>h) ?_);refine ae.xW (b:=6) (by simp[bG];omega) h6 (ae.Cn (a:=1) (by simp[IntKind.bits];omega) (by rw[xa6];simp[bG];omega) ?_);rw[xa6];refine ae.Kq (by simp[bG];omega) (by simp[bG];omega) ?_;have e:nf i (2^(u-6))|||2^(u-6)=ak.aB i (u-6) true:=by
   apply xaV;intro k;rw[xb1,dG,ak.aj,xbX];by_cases e:k=u-6
   ·simp[e]
   simp[e,xa9 e]
  rw[e];exact ig
 have hp:2^u<=32:=xax (n:=2) zD (by omega:u<=5);have hg:ws[i]? =some (ws.getD i 0):=by rw[xaa (by rw[hf.len];exact hi),xaq,xaa (by rw[hf.len];exact hi)];rfl
 have hwi:=hw.2 _ (xav hg);have hm:=ak.rA u;refine DR.self (Ld.at hv (λ_ h=>h) (Ld.at hv (λ_ h=>h) ?_));refine ae.Cn (a:=1) (b:=u) (by simp[IntKind.bits];omega) (by rw[xa6];simp[bG];omega) ?_;rw[xa6];refine aa.eq (z8 (u:=u) (i:=0) zO zO zO B) ?_;rw[xab h6];refine⟨.refl _,?_⟩;refine Ld.at hb (λ_ h=>h) ?_;cases c
 ·refine Br.no (ai.at ha λq hq=>Ld.at hq (λ_ h=>h) ?_);refine hw.1.ld (dg hg) (λ_ h=>h) ?_;refine ae.Ej (by simpa[bG]using hwi) (by simpa[bG]using hm) (ae.nR ?_);have:=m9 (ws.getD i 0) (ak.mask u);exact ae.Kq (by simp only[bG];omega) (by simp only[bG];omega) (bc.mk (.refl _) (by unfold ak.rL;rw[xab h6];rfl))
 refine Br.yes (ai.at ha λq hq=>Ld.at hq (λ_ h=>h) ?_);refine hw.1.ld (dg hg) (λ_ h=>h) ?_;refine ae.jE (by simpa[bG]using hwi) (by simpa[bG]using hm) ?_;have h1:ws.getD i 0&&&ak.mask u<=ws.getD i 0:=xcg;refine ae.iK (by simp only[bG];omega) ?_;have h2:=xbm (ws.getD i 0&&&ak.mask u) (2^u);exact ae.Kq (by simp only[bG];omega) (by simp only[bG];omega) (bc.mk (.refl _) (by unfold ak.rL;rw[xab h6];rfl))
theorem Bk{B:Hp}{v:zV}{n u:Nat}{ws:zL}{c:Bool}(ht:EN B v ⟨n,ws⟩)(hf:ak.eV n ws)(hu:u<n):
  Px zQ 271 #[v,iv (u:Int),.bool c] B (λv H=>EN H v ⟨n,ak.iI n ws u c⟩):=by
 obtain⟨s,rfl,hw⟩:=ht;refine aI λg=>G5 λb1 _ b3 _ b5 _ b7 _=>?_;refine ai.mk (Ld.mk zM rfl ?_);refine aa.px (.cons .here) (uH hf.x6 rfl zK (F:=λi=>ak.rL ws u c i) (λi hi=>?_) (λi hi=>?_)) ?_
 ·unfold ak.rL;split
  ·by_cases h:ak.aB i (u-6) c<ws.length
   ·rw[xaq,xaa h];exact hf.lt (xaH h)
   rw[xaq,xaC zO];decide
  have hg:ws.getD i 0<2^64:=by rw[xaq,xaa (by rw[hf.len];exact hi)];exact hf.lt (xaH _)
  split
  ·refine xbH (n:=64) (xaA xcg hg) (xaA (xbm _ _) (xaA xcg hg))
  exact xbH (n:=64) (xaA (m9 _ _) hg) (xbB _ zD)
 ·exact So (Go.Sx.At.block (l:=[iv (u:Int)]) zM) (Go.Sx.At.block (l:=[.bool c]) zM) (Go.Sx.At.block (l:=[iv (n:Int),s]) zM) (hw.mono zS) hf hu hi
 rintro v N ⟨s',rfl,eO⟩;refine St.p ?_ ?_
 ·have:=bQ eO;simpa[Value.oneCell']using this
 refine az.q ?_;exact GN.mk (by repeat (first|exact bY.refl _|apply bY.cons|apply bY.app)) ⟨s',rfl,eO.mono zS⟩
theorem JV{B:Hp}{v:zV}{n u:Nat}{ws:zL}{c:Bool}(ht:EN B v ⟨n,ws⟩)(hf:ak.eV n ws)(hu:u<n):
  Px zQ 279 #[v,iv (u:Int),.bool c] B (λr H=>∃v',r=.tuple #[v',iv 0]/\EN H v' ⟨n,ak.iI n ws u c⟩):=by
 obtain⟨s,rfl,hw⟩:=ht;refine aI λg=>GU λb1 _ b3 _=>?_;refine az.q ?_;refine aa.eq (ab2 (t:=⟨n,ws⟩) ⟨s,rfl,hw.mono zS⟩ (u:Int)) ?_;rw[xad (show TF ⟨(n:Int),ws⟩from⟨by simp,by simpa using hf⟩),xad ⟨by omega,by simp only;omega⟩];refine ae.cD (Br.F (az.q ?_));refine aa.pq (Bk (v:=.agg (List.toArray [iv (n:Int),s])) ⟨s,rfl,hw.mono zS⟩ hf hu) ?_;rintro v N ⟨s',rfl,eO⟩;refine St.p ?_ ?_
 ·have:=bQ eO;simpa[Value.oneCell']using this
 refine az.q ?_;exact GN.mk (by repeat (first|exact bY.refl _|apply bY.cons|apply bY.app)) ⟨_,rfl,s',rfl,eO.mono zS⟩
theorem D9{w j:Nat}(hj:j<8):((List.range (j+1)).map λi=>UInt8.ofNat (w>>>(8*i)))=((List.range j).map λi=>UInt8.ofNat (w>>>(8*i)))++[UInt8.ofNat (w>>>(8*j))]:=by
 rw[xci,xaB];rfl
theorem NM(l:List UInt8)(n:Nat):s7 (l++[UInt8.ofNat n])=s7 l++[[Value.int .u8 ((n%256:Nat):Int)]]:=by
 simp[s7]
theorem FP{B:Hp}{v:zV}{t:Tb}(ht:EN B v t)(hl:t.ws.length<=4294967296):Rd zQ 280 #[v] B (· =AK (ak.ie t.ws)):=by
 obtain⟨s,rfl,hw⟩:=ht;refine aI λg=>GS λb1 _=>?_;refine ai.mk (Ld.mk zM rfl ?_);refine hw.1.bV ?_;rw[aq];refine⟨λvs H=>∃(k:Nat) (v:zV) (C:Hp),vs=[v,iv (k:Int)]/\k<=t.ws.length/\H=C++B/\aV 5 1 v (s7 (ak.ie (t.ws.take k))) C,λvs _=>t.ws.length-bN vs 1,
  JE.of (.tail) ⟨0,_,[],rfl,by omega,rfl,aV.nil _ _⟩,?_⟩
 rintro w6 w7 H ⟨k,v,C,⟨⟩,hk,rfl,ho⟩ gs;refine ae.fC (Br.dec (λhlt=>?_) (λhlt=>?_))
 ·have hg:t.ws[k]? =some t.ws[k]:=xaa hlt;have hwk:=hw.2 _ (xaH hlt);refine hw.1.ld (dg hg) zS ?_;have hlen:(s7 (ak.ie (t.ws.take k))).length=8*k:=by simp only[s7,xaE,ak.tJ,xbF];omega
  refine⟨λvs H=>∃(j:Nat) (v:zV) (C:Hp),vs=[v,iv (j:Int)]/\j<=8/\H=C++B/\aV 5 1 v (s7 (ak.ie (t.ws.take k)++(List.range j).map λi=>UInt8.ofNat (t.ws[k]>>>(8*i)))) C,λvs _=>8-bN vs 1,
   JE.mk ⟨0,_,C,rfl,by omega,rfl,by simpa using ho⟩,?_⟩
  rintro w8 w9 H ⟨j,v,C,⟨⟩,hj,rfl,ho⟩ gs;refine ae.fC (b:=8) (Br.dec (λh8=>?_) (λh8=>?_))
  ·refine ae.x7 (a:=8) (ae.iK (by simpa[bG]using hwk) (br.ah1 (ax.int (e:=5) zK zK zK λxb=>?_)));refine ho.GH (A:=[_]) (r:=[Value.int .u8 (((t.ws[k]>>>(8*j))%256:Nat):Int)]) (by exact .head _) rfl (by simp[Value.oneCell']) ⟨[.int .u8 0],rfl,rfl⟩ (by simp only[s7,xaE,xaf,xaK]at hlen⊢;omega) (by simp only[s7,xaE,xaf,xaK]at hlen⊢;omega) λv' C' cz=>?_;refine ae.inc (aC.of .tail ⟨j+1,_,C',rfl,by omega,rfl,?_⟩ (by simp[bN];omega));rw[D9 h8,<-xai,NM];exact cz
  have:j=8:=by omega
  subst this;refine ae.inc (aC.mk ⟨k+1,_,C,rfl,by omega,rfl,?_⟩ (by simp[bN];omega));rw[xa8 hlt,ak.ie,List.flatMap_append];simpa[ak.ie,ak.kX]using ho
 have:k=t.ws.length:=by omega
 subst this;rw[xbj]at ho;refine k6.own ho (λ_ h=>xae _ h) ?_;exact bc.mk .right rfl
theorem aaC{B:Hp}{b n:Nat}{es:Array MapEntry}{ck:Nat}{m:List (List UInt8×zL)}{v:zV}{ws:zL}(hE:gG n B es ck m)(ht:EN B v ⟨n,ws⟩)(hf:ak.eV n ws):
  Fc zQ 278 #[.map (some b),v] ((b,.map es ck)::B) (λ_ H=>∃es' bB N,H=(b,.map es' bB)::(N++B)/\gG n (N++B) es' bB (AI m ws)):=by
 obtain⟨s,rfl,hw⟩:=ht;refine aI λg=>GV λb1 _=>?_;refine DR.self (az.q ?_);refine az.q ?_;refine aa.eq (FP (t:=⟨n,ws⟩) ⟨s,rfl,hw⟩ (uM hf)) (⟨.refl _,?_⟩);refine hE.bK (b:=b) ⟨s,rfl,hw⟩ hf λes' bB DF=>⟨_,.tail (.head _),?_⟩;exact aN.mk (nH:=(b,.map es' bB)::([]++B)) .tail ⟨es',bB,[],rfl,DF⟩
theorem MH{B:Hp}{v:zV}{n:Nat}{ts:List Tb}{L:List (zL)}(ht:jG B v ts)(hL:ts=L.map λws=>⟨n,ws⟩)(hf:∀ws∈L,ak.eV n ws)(cI:L.length<4611686018427387904):
  Fc zQ 272 #[v] B (λr H=>∃b es ck m N,r=.map (some b)/\H=(b,.map es ck)::(N++B)/\gG n (N++B) es ck m/\∀x,x∈m.map Prod.snd↔x∈L):=by
 have hlen:ts.length=L.length:=by rw[hL];simp
 refine aI λg=>G4 λb _=>?_;refine ht.bV ?_;rw[hlen];refine⟨λvs H=>∃(k:Nat) (es:Array MapEntry) (ck:Nat) (m:List (List UInt8×zL)) (N:Hp),vs=[iv (k:Int)]/\k<=L.length/\H=(b,.map es ck)::(N++B)/\gG n (N++B) es ck m/\∀x,x∈m.map Prod.snd↔x∈L.take k,
  λvs _=>L.length-bN vs 0,JE.mk ⟨0,_,_,[],[],rfl,by omega,rfl,gG.empty _ _,by simp⟩,?_⟩
 rintro w H ⟨k,es,ck,m,N,⟨⟩,hk,rfl,hE,hm⟩ gs;refine ae.fC (Br.dec (λhlt=>?_) (λhlt=>?_))
 ·have hg:ts[k]? =some ⟨n,L[k]⟩:=by rw[hL,xat,xaa hlt];rfl
  have pD:=hf L[k] (xaH hlt);refine ht.ld hg zS λs hw=>?_;intro b2 _;refine St.p ?_ ?_
  ·have:=bQ hw;simpa[Value.oneCell']using this
  refine az.q ?_;refine aa.fq (aaC hE ⟨s,rfl,hw.mono zS⟩ pD) ?_;rintro r C' ⟨es',bB,N',rfl,DF⟩;refine ae.inc (aC.of .tail ⟨k+1,es',bB,AI m L[k],N'++N,rfl,by omega,by rw[xai],by rw[xai];exact DF,λx=>?_⟩ (by simp[bN];omega));rw[sj hE.2 pD,hm,xa8 hlt,xao,xaw]
 have:k=L.length:=by omega
 subst this;rw[xbj]at hm;exact aN.here ⟨b,es,ck,m,N,rfl,rfl,hE,hm⟩
theorem DK{B:Hp}{bm n u:Nat}{es:Array MapEntry}{ck:Nat}{m:List (List UInt8×zL)}(hm:(bm,Obj.map es ck)∈B)(hE:gG n B es ck m)(hu:u<n)(cI:m.length<4611686018427387904):
  Fc zQ 273 #[.map (some bm),iv (u:Int)] B (λr H=>∃b' es' bB m' N,r=.tuple #[.map (some b'),iv ((ak.nodes n (m.map Prod.snd) u).length:Int)]/\H=(b',.map es' bB)::(N++B)/\gG n (N++B) es' bB m'/\
   ∀x,x∈m'.map Prod.snd↔∃t∈m.map Prod.snd,∃c,x=ak.iI n t u c):=by
 refine aI λg=>G0 ?_;intro b' _;refine .inr ⟨bm,es,ck,rfl,.tail _ hm,λbi _=>?_⟩;refine⟨λvs H=>∃(es':Array MapEntry) (bB:Nat) (m':List (List UInt8×zL)) (seen:Array Nat) (N:Hp) (D:List (zL)),vs=[iv ((ak.nodes n D u).length:Int)]/\
   H=(bi,.mapIter (some bm) ck seen ck)::(b',.map es' bB)::(N++B)/\gG n (N++B) es' bB m'/\(m.map Prod.snd).Perm (D++(cW es m seen).map Prod.snd)/\∀x,x∈m'.map Prod.snd↔∃t∈D,∃c,x=ak.iI n t u c,
  λvs H=>match H with|(_,.mapIter _ _ seen _)::_=>(cW es m seen).length|_=>0,JE.mk ⟨_,_,[],_,[],[],rfl,rfl,gG.empty _ _,?_,by simp⟩,?_⟩
 ·rw[p5 hE.1];simp
 rintro w H ⟨es',bB,m',seen,N,D,⟨⟩,rfl,DF,dK,hmem⟩ gs;have hbm:∀{X:Hp},(bm,Obj.map es ck)∈X++B:=xac _ hm;refine hE.1.next (.tail _ (.tail _ hbm)) (.head _) (λe x seen' he hkey hval hstep adn hfind=>⟨_,.head _,?_⟩) (λF4=>?_)
 ·obtain⟨bs,ws⟩:=x;simp only at hval hkey;refine Ext.mk rfl (Br.yes (⟨bi,bm,ck,seen',e.born,ck,es,e,rfl,.head _,adn,.tail _ (.tail _ hbm),hfind,?_⟩));refine Ext.mk rfl ?_;have hx:(bs,ws)∈m:=by
   have h:=hstep.mem_iff.2 (xbL (a:=(bs,ws)));unfold cW at h;obtain⟨p,hp,mV⟩:=xan.1 h;rw[<-mV];exact(xd1 (xbV.1 hp).1).2
  obtain⟨hbs,hf⟩:=hE.2 _ hx;simp only at hbs hf;obtain⟨s,hes,hw⟩:=hval;rw[hes];have hone:=bQ hw;intro b1 _;refine St.p (by simpa[Value.oneCell']using hone) ?_;refine az.q ?_;refine aa.pq (B:=N++B) (JV (n:=n) (ws:=ws) ⟨s,rfl,hw.mono zS⟩ hf hu) ?_;rintro r N1 ⟨v1,rfl,s1,rfl,nJ⟩;have acL:=bQ nJ;refine Ext.two λb2 _=>(St.p (by simpa[Value.oneCell']using acL) ?_);refine az.q ?_;refine aa.pq (B:=N1++(N++B)) (JV (n:=n) (ws:=ws) ⟨s,rfl,hw.mono zS⟩ hf hu) ?_;rintro r N2 ⟨v2,rfl,s2,rfl,we⟩;have acK:=bQ we;refine Ext.two λb3 _=>(St.p (by simpa[Value.oneCell']using acK) ?_);refine DR.self (az.q ?_);refine az.q ?_;have f1:=ak.eB (v:=u) (ws:=ws) (b:=false) hf.x6;have f2:=ak.eB (v:=u) (ws:=ws) (b:=true) hf.x6;refine aa.eq (B:=N2++(N1++(N++B))) (FP (t:=⟨n,ak.iI n ws u false⟩) ⟨s1,rfl,nJ.mono zS⟩ (uM f1)) (⟨.refl _,?_⟩);refine aa.eq (B:=N2++(N1++(N++B))) (FP (t:=⟨n,ak.iI n ws u true⟩) ⟨s2,rfl,we⟩ (uM f2)) (⟨.refl _,?_⟩);intro J hJ;have Bg:(ak.ie (ak.iI n ws u false)≠ak.ie (ak.iI n ws u true))↔ak.dep n ws u=true:=by
   simp only[ak.dep,ne_eq,xaJ];exact xeA ⟨λh=>f1.key_inj f2 h,λh=>by rw[h]⟩
  have ig:JE J [iv ((ak.nodes n (D++[ws]) u).length:Int)] ((b3,.cells (List.toArray [iv (n:Int),s2]) 175 zZ)::(b2,.cells (List.toArray [iv (n:Int),s1]) 175 zZ)::
    (b1,.cells (List.toArray [iv (n:Int),s]) 175 zZ)::(bi,.mapIter (some bm) ck seen' ck)::(b',.map es' bB)::(N2++(N1++(N++B)))):=by
   refine JE.mk (hJ _ _ λgs=>?_);refine DR.of (R:=(b3,.cells (List.toArray [iv (n:Int),s2]) 175 zZ)::(b2,.cells (List.toArray [iv (n:Int),s1]) 175 zZ)::[]) ?_ ?_
   ·exact .cons (.cons (λg w h=>(Own.left (B:=_) (A:=[]) h)))
   refine az.q ?_;refine az.q ?_;have sS:=DF.mono (B':=N2++(N1++(N++B))) zS;refine sS.bK (b:=b') (ws:=ak.iI n ws u false) ⟨s1,rfl,nJ.mono zS⟩ f1 λgV iE Pv=>⟨_,.tail (.tail (.tail (.tail (.head _)))),?_⟩;refine⟨.cons (.cons (λg w h=>(Own.left (B:=_) (A:=[]) h))),?_⟩;refine Pv.bK (b:=b') (ws:=ak.iI n ws u true) ⟨s2,rfl,we⟩ f2 λpo qR hE4=>⟨_,.tail (.tail (.tail (.tail (.head _)))),?_⟩;refine aC.of (H':=(bi,.mapIter (some bm) ck seen' ck)::(b',.map po qR)::((N2++(N1++N))++B)) ?_ ⟨po,qR,AI (AI m' (ak.iI n ws u false)) (ak.iI n ws u true),seen',N2++(N1++N),D++[ws],rfl,rfl,?_,?_,λx=>?_⟩ ?_
   ·refine .skip (.skip (.skip (.cons (.cons ?_))));intro g w h;rw[xai,xai];exact h
   ·rw[xai,xai];exact hE4
   ·refine dK.trans ?_;refine(xbZ D (hstep.map Prod.snd)).trans ?_;simp only[xay,xai,xaQ,xbS];exact .refl _
   ·rw[sj Pv.2 f2,sj sS.2 f1,hmem];constructor
    ·rintro((⟨t,ht,c,rfl⟩|rfl)|rfl)
     ·exact⟨t,by simp[ht],c,rfl⟩
     ·exact⟨ws,by simp,_,rfl⟩
     exact⟨ws,by simp,_,rfl⟩
    rintro⟨t,ht,c,rfl⟩;rcases xao.1 ht with ht|ht
    ·exact .inl (.inl ⟨t,ht,c,rfl⟩)
    simp at ht;subst ht;cases c
    ·exact .inl (.inr rfl)
    exact .inr rfl
   have:=hstep.length_eq;simp only[xaz]at this⊢;omega
  refine ae.abM (Br.dec (λh=>?_) (λh=>?_))
  ·refine ae.Xo (b:=1) ?_ ?_
   ·have h1:=dK.length_eq;simp only[xaE,xaf]at h1;have h2:(ak.nodes n D u).length<=D.length:=xb2 _ _;simp[bG];omega
   have:(ak.nodes n (D++[ws]) u).length=(ak.nodes n D u).length+1:=by
    simp[ak.nodes,xbU,Bg.1 h]
   rw[this]at ig;exact ig
  have:(ak.nodes n (D++[ws]) u).length=(ak.nodes n D u).length:=by
   have hd:ak.dep n ws u=false:=by cases hh:ak.dep n ws u;rfl;exact absurd (Bg.2 hh) h
   simp[ak.nodes,xbU,hd]
  rw[this]at ig;exact ig
 refine Ext.mk rfl (Br.no ?_);rw[F4]at dK;simp only[xcl,xaL]at dK;refine aN.mk (nH:=(b',.map es' bB)::(N++B)) .tail ⟨b',es',bB,m',N,?_,rfl,DF,λx=>?_⟩
 ·rw[ak.mM dK]
 rw[hmem];constructor
 ·rintro⟨t,ht,h⟩;exact⟨t,dK.mem_iff.2 ht,h⟩
 rintro⟨t,ht,h⟩;exact⟨t,dK.mem_iff.1 ht,h⟩
theorem Mn{B:Hp}{v:zV}{ts:List Tb}(ht:jG B v ts)(cI:ts.length<2^62):Rd zQ 269 #[v] B (· =.bool (decide (∀t∈ts,TF t/\some t.n=ts.head?.map Tb.n))):=by
 intro g;refine G7 (R:=aN _) ?_;unfold L269;refine ht.bV ?_;refine⟨λvs H=>bY B H/\∃k:Nat,vs=[iv (k:Int)]/\k<=ts.length/\∀i t,i<k->ts[i]? =some t->TF t/\some t.n=ts.head?.map Tb.n,λvs _=>ts.length-bN vs 0,JE.mk ⟨.refl _,0,rfl,by omega,by omega⟩,?_⟩;rintro w H ⟨hg,k,hv,hk,aJ⟩ gs;simp only[xau,xa1]at hv;subst hv;refine ae.fC (Br.dec (λhlt=>?_) (λhlt=>?_))
 ·obtain⟨t,nB⟩:∃t,ts[k]? =some t:=⟨_,xaa hlt⟩;obtain⟨t0,Wi⟩:∃t,ts[0]? =some t:=⟨_,xaa zO⟩;have hh:ts.head?.map Tb.n=some t0.n:=by rw[List.head?_eq_getElem?,Wi];rfl
  have htB:=ht.mono hg.sub;refine htB.ld nB (λ_ h=>h) λs hs=>?_;intro b1 _;refine St.whole (r:=[iv t.n,s]) (by exact c8.head _) rfl rfl ?_ ?_
  ·obtain⟨a,c,rfl,_⟩:=hs.1.shape;simp[Value.oneCell']
  intro J hJ;have hno:∀H',bY B H'->¬(TF t/\some t.n=ts.head?.map Tb.n)->JE J [.bool true] H':=λH' Yc h=>
   JE.mk (hJ _ _ λgs=>Br.yes (bc.mk Yc.dN (by rw[xal];exact λhh=>h (hh t (xav nB)))))
  have Uo:bY B ((b1,Obj.cells (List.toArray [iv t.n,s]) 175 zZ)::H):=.cons hg;refine DR.self ?_;refine az.whole (r:=[iv t.n,s]) (by exact List.Mem.head _) rfl ?_;intro F;refine aa.rd (B:=H) (.cons .here) (DP ⟨s,rfl,hs⟩) ?_;rintro v rfl;refine⟨.refl _,Un.not ?_⟩;by_cases hT:TF t
  case neg=>rw[xal hT];exact Br.yes (hno _ Uo λh=>hT h.1)
  rw[xam hT];apply Br.no;refine ai.mk (Ld.mk zM rfl ?_);refine htB.ldN Wi zS ?_;refine ae.cD (aH.mk ?_);simp only[xag];by_cases hn:t.n=t0.n
  case neg=>rw[xam hn];exact hno _ Uo λh=>hn (by have:=h.2;rw[hh]at this;simpa using this)
  rw[xal (by simpa using hn)];refine JE.mk (hJ _ _ λgs=>Br.no ?_);refine ae.Xo (b:=1) (by simp[bG];omega) ?_;refine aC.mk ⟨Uo,k+1,rfl,by omega,λi u hi hu=>?_⟩ (by simp[bN];omega);by_cases e:i=k
  ·subst e;rw[nB]at hu;cases hu;exact⟨hT,by rw[hh,hn]⟩
  exact aJ i u zO hu
 refine bc.mk hg.dN ?_;rw[xam];intro t htm;obtain⟨i,hi,rfl⟩:=xba.1 htm;exact aJ i _ zO (xaa hi)
def r5(ts:List Tb):Prop:=∀t∈ts,TF t/\some t.n=ts.head?.map Tb.n
instance (ts:List Tb):Decidable (r5 ts):=by unfold r5;infer_instance
theorem vp{B:Hp}{v:zV}{ts:List Tb}(ht:jG B v ts)(cI:ts.length<2^62):Rd zQ 269 #[v] B (· =.bool (decide (r5 ts))):=Mn ht cI
theorem CV{n:Nat}{L:List (zL)}(hf:∀ws∈L,ak.eV n ws):r5 (L.map λws=>⟨n,ws⟩):=by
 intro t ht;obtain⟨ws,hws,rfl⟩:=xan.1 ht;refine⟨⟨by simp,by simpa using hf ws hws⟩,?_⟩;cases L with
 |nil=>simp at hws
 |cons a b=>rfl
theorem Ks{ts:List Tb}(h:r5 ts)(hne:ts≠[]):∃(n:Nat) (L:List (zL)),n<=16/\ts=L.map (λws=>⟨n,ws⟩)/\L≠[]/\∀ws∈L,ak.eV n ws:=by
 cases ts with
 |nil=>exact absurd rfl hne
 |cons t r=>
  have ht:=(h t zI).1;have hn:∀u∈t::r,u.n=t.n:=λu hu=>by have:=(h u hu).2;simpa using this
  refine⟨t.n.toNat,(t::r).map Tb.ws,ht.2.x6,?_,by simp,λws hws=>?_⟩
  ·rw[xb8]
   conv=>lhs;rw[<-xeD (t::r)]
   apply xbh;intro u hu;have h1:=hn u hu;have h2:=ht.1;obtain⟨un,uw⟩:=u;simp only[Function.comp,id]at h1⊢;congr 1;omega
  obtain⟨u,hu,rfl⟩:=xan.1 hws;have:=(h u hu).1.2;rwa [hn u hu]at this
end
end Go.Proofs
namespace au
theorem Rm.sU(m:Rm):∀ls ord,m.dF 0 ls ord=ls.take (m.dF 0 ls ord).length
 | [],_=>rfl
 |c::cs,ord=>by
  by_cases hf:m.fit ord (0+c)=true
  ·have:=m.sU cs (fK ord (0+c));rw[dF,xad hf,xaz,xd5,<-this,xa5]
  rw[dF,xab hf];simp
def Rm.can(m:Rm)(ord ls:zL):Bool:=decide ((m.dF 0 ls ord).length=ls.length)
theorem Rm.SC(m:Rm){ord ls:zL}{i:Nat}(hi:i<(m.dF 0 ls ord).length){l:Nat}(hl:ls[i]? =some l):m.fit (ay ord (ls.take i)) l=true:=by
 obtain⟨_,c,h1,h2⟩:=m.rM 0 ls ord i hi;rw[hl]at h1;cases h1;rw[m.sU,List.take_take,xcD (xb7 hi),xa5]at h2;exact h2
theorem Rm.Nn(m:Rm){ord ls:zL}{l:Nat}(hl:ls[(m.dF 0 ls ord).length]? =some l):m.fit (ay ord (ls.take (m.dF 0 ls ord).length)) l=false:=by
 have:=m.wz 0 ls ord l hl;rw[xa5]at this;rw[<-m.sU];exact this
def road(a b:Nat):zL:=List.range' a (b-a)++(List.range' b (a-b)).reverse
theorem vq(a b:Nat):(road a b).length=(b-a)+(a-b):=by simp[road]
theorem Qz{a b l n:Nat}(ha:a<n)(hb:b<n)(h:l∈road a b):l+1<n:=by
 unfold road at h;rcases xao.1 h with h|h
 ·rw[xej]at h;omega
 rw[List.mem_reverse,xej]at h;omega
theorem kH{α:Type}[DecidableEq α]:∀{l p:List α},l.Nodup->(∀x∈l,x∈p)->p.length<=l.length->l.Perm p
 | [],p,_,_,h=>by
  have:p=[]:=xcN.1 (by simpa using h);subst this;exact .refl _
 |x::t,p,hn,hs,hl=>by
  have hx:=hs x zI;have hp:=List.perm_cons_erase hx;have hlen:(p.erase x).length=p.length-1:=List.length_erase_of_mem hx;have hpos:=List.length_pos_of_mem hx;refine(List.Perm.cons x (kH (xaW.1 hn).2 (λy hy=>?_) (by simp only[xaz]at hl;omega))).trans hp.symm;refine(List.mem_erase_of_ne λe=>?_).2 (hs y (by simp[hy]));subst e;exact(xaW.1 hn).1 hy
end au
set_option maxRecDepth 100000
namespace Go.Proofs
open Go Go.Sx
open au
theorem Dp{l:zL}(h:l.Nodup):(iw l).Nodup:=xbJ.2 (h.imp λhne e=>hne (Int.ofNat.inj e))
theorem td{p:List Int}:tZ p↔p.Perm (iw (List.range p.length)):=by
 constructor
 ·intro h;refine(kH (Dp xbl) (λx hx=>?_) (by rw[aq,xaK];exact xaj _)).symm;obtain⟨k,hk,rfl⟩:=xan.1 hx;exact h k (xaM.1 hk)
 intro h v hv;exact h.mem_iff.2 (xan.2 ⟨v,xaM.2 hv,rfl⟩)
theorem TN{p:List Int}(hn:p.Nodup)(h:∀x∈p,0<=x/\x<(p.length:Int)):tZ p:=by
 refine td.2 (kH hn (λx hx=>?_) (by rw[aq,xaK];exact xaj _));obtain⟨h1,h2⟩:=h x hx;exact xan.2 ⟨x.toNat,xaM.2 zO,by show((x.toNat:Nat):Int)=x;omega⟩
theorem TO{p:List Int}(h:tZ p){x:Int}(hx:x∈p):0<=x/\x<(p.length:Int):=by
 have:=(td.1 h).mem_iff.1 hx;obtain⟨k,hk,rfl⟩:=xan.1 this;have:=xaM.1 hk;show(0:Int)<=(k:Int)/\(k:Int)<_;omega
theorem Em{p:List Int}(h:tZ p):p.Nodup:=(td.1 h).nodup_iff.2 (Dp xbl)
theorem Ql{p:List Int}{i n W:Nat}(hi:i<p.length)(hn:p[i]=(n:Int))(hw:n<W):((List.range W).map λk=>decide (((k:Nat):Int)∈p.take i)).set n true=(List.range W).map λk=>decide (((k:Nat):Int)∈p.take (i+1)):=by
 apply xbd;intro j;rw[xa8 hi,hn];by_cases hj:j<W
 ·by_cases e:n=j
  ·subst e;rw[xbM (by simpa using hw)];simp[hw]
  rw[xbK e];simp only[xat,xdB hj,xch,xao,xaw];congr 1;have:¬((j:Nat):Int)=(n:Int):=by omega
  simp[this]
 rw[xaC zP,xaC zP]
theorem Mj{p:List Int}{W:Nat}:List.replicate W false=(List.range W).map λk=>decide (((k:Nat):Int)∈p.take 0):=by
 apply xbd;intro j;by_cases hj:j<W
 ·simp[hj]
 rw[xaC zP,xaC zP]
theorem sE{B:Hp}{v:zV}{p:List Int}(h:dz .i64 B v p)(cI:p.length<=70368744177664):Rd zQ 186 #[v] B (λr=>(r=iv 0/\tZ p/\p.length<=64)\/(r=iv 13/\tZ p/\64<p.length)\/(r=iv 4/\¬tZ p)):=by
 refine aI λg=>Iy (h.bV (cU.Tq zO λb=>h.bV ?_));rw[Mj (p:=p)];refine⟨λvs H=>∃i:Nat,vs=[iv (i:Int)]/\H=(b,.cells (fk ((List.range p.length).map λk=>decide (((k:Nat):Int)∈p.take i))) 4 zZ)::B/\i<=p.length/\(p.take i).Nodup/\∀x∈p.take i,0<=x/\x<(p.length:Int),λvs _=>p.length-bN vs 0,
  JE.mk ⟨0,rfl,rfl,xaN _,by simp,by simp⟩,?_⟩
 rintro w H ⟨i,⟨⟩,rfl,hi,fD,hin⟩ gs;refine ae.fC (Br.dec (λhlt=>?_) (λhlt=>?_))
 ·refine h.ld (xaa hlt) (λ_ h=>.tail _ h) ?_;obtain⟨x,hx⟩:∃x,p[i]=x:=⟨_,rfl⟩;have hxm:x∈p:=by rw[<-hx];exact xaH hlt
  rw[hx];have hB:=Eu.block (b:=b) (cap:=p.length) (l:=(List.range p.length).map λk=>decide (((k:Nat):Int)∈p.take i)) (T:=4) (fz:=(0,0)) (B:=(b,.cells (fk ((List.range p.length).map λk=>decide (((k:Nat):Int)∈p.take i))) 4 zZ)::B) (.head _) zI;rw[xaE,xaK]at hB;refine ae.lss (cS.or (decide ((p.length:Int)<=x)) (λ_=>h.bV (ae.geq ⟨rfl,rfl⟩)) zI λgs=>?_);rw[<-xa4];refine cS.or (decide (x∈p.take i)) (λhno=>?_) zI λgs=>?_
  ·have Dz:=xdg hno;obtain⟨n,rfl⟩:∃n:Nat,x=n:=⟨x.toNat,by omega⟩;refine hB.ld (b:=decide (((n:Nat):Int)∈p.take i)) ?_ (λ_ h=>h) ⟨rfl,rfl⟩;rw[xat,xdB zO];rfl
  rw[<-xa4];refine Br.dec (λag5=>bc.mk .tail (.inr (.inr ⟨rfl,λha=>?_⟩))) (λac6=>?_)
  ·have h1:=TO ha hxm;rcases ag5 with hb|hb
   ·omega
   have h2:=Em ha;rw[<-xbq i p,xa3]at h2;refine h2.2.2 x hb x ?_ rfl;rw[xbr hlt,hx];exact .head _
  obtain⟨n,rfl⟩:∃n:Nat,x=n:=⟨x.toNat,by omega⟩;refine av.nat zO ?_;refine St.Tq (l:=(List.range p.length).map λk=>decide (((k:Nat):Int)∈p.take i)) (.head _) zP ?_;rw[Ql hlt hx zO];refine ae.inc (aC.mk ⟨i+1,rfl,rfl,hlt,?_,λx FX=>?_⟩ (by simp only[bN];omega))
  ·rw[xa8 hlt,hx,xa3];exact⟨fD,by simp,λa ha b hb e=>by simp at hb;subst hb;subst e;exact ac6 (.inr ha)⟩
  rw[xa8 hlt,hx,xao,xaw]at FX;rcases FX with FX|rfl
  ·exact hin x FX
  omega
 obtain rfl:i=p.length:=by omega
 rw[xbj]at fD hin;have aJ:=TN fD hin;refine h.bV (ae.nE (b:=64) (Br.dec (λhg=>bc.mk .tail (.inr (.inl ⟨rfl,aJ,hg⟩))) (λhg=>bc.mk .tail (.inl ⟨rfl,aJ,by omega⟩))))
theorem Mg{B:Hp}{v:zV}{p:List Int}{x:Int}(h:dz .i64 B v p)(cI:p.length<4611686018427387904):Rd zQ 244 #[v,iv x] B (· =iv (if x∈p then((p.idxOf x:Nat):Int)else-1)):=by
 refine aI λg=>Hz (h.bV ?_);refine⟨λvs H=>∃i:Nat,vs=[iv (i:Int)]/\H=B/\i<=p.length/\x∉p.take i,λvs _=>p.length-bN vs 0,JE.mk ⟨0,rfl,rfl,xaN _,by simp⟩,?_⟩;rintro w H ⟨i,⟨⟩,rfl,hi,hq⟩ gs;refine ae.fC (Br.dec (λhlt=>?_) (λhlt=>?_))
 ·refine h.ld (xaa hlt) (λ_ h=>h) ?_;refine ae.gJ (Br.dec (λhe=>bc.mk (.refl _) ?_) (λhe=>?_))
  ·rw[xad (by rw[he];exact xaH hlt),RA hq hlt he.symm]
  refine ae.inc (aC.of (.refl _) ⟨i+1,rfl,rfl,hlt,?_⟩ (by simp only[bN];omega));rw[xa8 hlt,xao,xaw];rintro(h|h)
  ·exact hq h
  exact he h
 refine bc.mk (.refl _) ?_;rw[xcv zO]at hq;rw[xab hq]
theorem Xd{B:Hp}{v1 v2:zV}{p q:zL}{n:Nat}(h1:dz .i64 B v1 (iw p))(h2:dz .i64 B v2 (iw q))(hp:p.Perm (List.range n))(hq:q.Perm (List.range n))(hn:n<=64):Rd zQ 243 #[v1,v2] B (· =iv 0):=by
 have e1:p.length=n:=by rw[hp.length_eq,xaK]
 have e2:q.length=n:=by rw[hq.length_eq,xaK]
 refine aI λg=>HC (aa.rq (sE h1 (by rw[aq];omega)) ?_);rintro v (⟨rfl,_,_⟩|⟨_,_,hl⟩|⟨_,hno⟩);rotate_left
 ·rw[aq]at hl;omega
 ·exact absurd (xj hp) hno
 refine aa.rq (sE h2 (by rw[aq];omega)) ?_;rintro v (⟨rfl,_,_⟩|⟨_,_,hl⟩|⟨_,hno⟩);rotate_left
 ·rw[aq]at hl;omega
 ·exact absurd (xj hq) hno
 refine ae.gJ (cS.or false (λ_=>ae.gJ ⟨rfl,rfl⟩) rfl λgs=>?_);refine cS.or false (λ_=>?_) rfl λgs=>Br.no ?_
 ·refine h1.bV (h2.bV (ae.x5 ⟨rfl,?_⟩));rw[aq,aq,xal zO]
 exact⟨.i64,0,0,rfl,rfl,bc.mk (.refl _) rfl⟩
end Go.Proofs
namespace Go.Sx
open Go
section
variable {P:Program} {g:Gh} {H:Hp}
theorem ax.Zc{t e:TypeId}{z:zV}{a b c d x y:zV}{K:zV->Hp->Prop}(h1:P.underlying t=some (.slice e))(h2:dH P e=some 2)(h3:fJ P e=some z)
 (h:∀u,K (.slice (some ⟨u,0,Option.none⟩) 3 3) ((u,.cells (rows [[a,b],[c,d],[x,y]]) e zZ)::H)):ax P t 3 [(0,.agg #[a,b]),(1,.agg #[c,d]),(2,.agg #[x,y])] H K:=by
 refine⟨rows [[a,b],[c,d],[x,y]],e,2,z,h1,h2,h3,by decide,?_,λb _=>h b⟩;have e1:Array.range (3*2)=#[0,1,2,3,4,5]:=rfl;simp[Instr.fill,Value.cells,rows,e1]
theorem aV.made{T:TypeId}{k b:Nat}(rs:List (List zV))(h:∀r∈rs,r.length=k):aV T k (.slice (some ⟨b,0,none⟩) rs.length rs.length) rs [(b,.cells (rows rs) T zZ)]:=
 .inr ⟨b,[],by simp,by simp,by simpa using h⟩
end
end Go.Sx
namespace au
open ak
variable {n:Nat} {F:Nat->Nat} {ws us rs:zL}
def y9(n:Nat)(F:Nat->Nat):zL:=(List.range (wN n)).map λi=>F i&&&dL n
theorem sJ(hn:n<=16):eV n (y9 n F):=by
 refine⟨hn,by simp[y9],λw hw=>?_⟩;obtain⟨i,_,rfl⟩:=xan.1 hw;exact xc6
theorem MV{x:Nat}(hx:x<2^n):bit (y9 n F) x=(F (x/64)).testBit (x%64):=by
 have hi:=Dh hx;unfold bit;have iB:(y9 n F).getD (x/64) 0=F (x/64) &&&dL n:=by simp[y9,hi]
 rw[iB,xbi,mD];have hfb:decide (x%64<if 6<=n then 64 else 2^n)=true:=by
  rw[xaJ];split
  ·exact xbB _ zD
  have h1:2^n<=32:=xax (n:=2) zD (by omega:n<=5);omega
 rw[hfb,xdQ]
theorem wF{f:Fn}(h:∀x,x<2^n->(F (x/64)).testBit (x%64)=f x)(hf:∀x,f (x%2^n)=f x):pG n (y9 n F)=f:=by
 funext x
 unfold pG;have hx:x%2^n<2^n:=xbB _ (xbw n);rw[MV hx,h _ hx,hf]
theorem Bp(x:Nat):pG n ws (x%2^n)=pG n ws x:=by unfold pG;rw[Nat.mod_mod]
theorem uT{x:Nat}(hx:x<2^n):(ws.getD (x/64) 0).testBit (x%64)=pG n ws x:=by
 unfold pG bit;rw[xbk hx]
theorem CQ{j:Nat}(hj:j<64):(18446744073709551615:Nat).testBit j=true:=by
 have:(18446744073709551615:Nat)=2^64-1:=by decide
 rw[this,xcR];simpa using hj
theorem VD{w j:Nat}(hw:w<18446744073709551616)(hj:j<64):(18446744073709551615-w).testBit j= !w.testBit j:=by
 have e:(18446744073709551615-w)=2^64-(w+1):=by
  have:(2:Nat)^64=18446744073709551616:=by decide
  omega
 rw[e,xd9 (by
  have:(2:Nat)^64=18446744073709551616:=by decide
  omega)]
 simp[hj]
end au
set_option maxRecDepth 100000
namespace Go.Proofs
open Go Go.Sx
section
open au
section
variable {B:Hp}
def kC(B:Hp)(v:zV)(n:Nat)(f:au.Fn):Prop:=∃ws,EN B v ⟨n,ws⟩/\ak.eV n ws/\pG n ws=f
theorem kC.mono{B B':Hp}{v:zV}{n:Nat}{f:au.Fn}(h:kC B v n f)(hs:∀x∈B,x∈B'):kC B' v n f:=let ⟨ws,h1,h2,h3⟩:=h;⟨ws,h1.mono hs,h2,h3⟩
theorem D3{n:Nat}(hn:n<=16)(B:Hp):Rd zQ 232 #[iv (n:Int)] B (· =iv 0):=by
 exact aI λg=>HP (ae.lss (Br.F (ae.nE (b:=16) (Br.F (bc.mk (.refl _) rfl)))))
theorem E0{b:Bool}{p:zV}{i:Int}(hb:Go.Sx.At B p [.bool b]):Rd zQ 234 #[iv i,p] B (· =.int .u64 (((if b then 18446744073709551615 else 0:Nat)):Int)):=by
 refine aI λg=>HM (Ld.at hb (λ_ h=>h) ?_);cases b
 ·exact Br.no (bc.mk (.refl _) rfl)
 exact Br.yes (bc.mk (.refl _) rfl)
theorem yE{n:Nat}(hn:n<=16)(b:Bool)(B:Hp):Px zQ 178 #[iv (n:Int),.bool b] B (λr H=>∃v,r=.tuple #[v,iv 0]/\kC H v n (λ_=>b)):=by
 refine aI λg=>IF λb1 _ b3 _=>?_;refine aa.eq (D3 hn _) (ae.cD (Br.F (aa.pq (uH hn rfl zK (F:=λ_=>if b then 18446744073709551615 else 0) (λi _=>by cases b<;>decide) (B:=(b1,.cells #[.bool b] 4 zZ)::B) λi _=>E0 (Go.Sx.At.block (l:=[.bool b]) zM)) ?_)));rintro v N ⟨s,rfl,hw⟩;refine St.p ?_ ?_
 ·have:=bQ hw;simpa[Value.oneCell']using this
 refine az.q ?_;refine GN.mk (by repeat (first|exact bY.refl _|apply bY.cons|apply bY.app)) ⟨_,rfl,_,⟨s,rfl,hw.mono zS⟩,sJ hn,wF (λx hx=>?_) (λx=>rfl)⟩;cases b
 ·exact xcy _
 exact CQ (xbB _ zD)
theorem PR{v i:Nat}{p:zV}(hv:v<64)(hi:i<9223372036854775808)(hb:Go.Sx.At B p [iv (v:Int)]):Rd zQ 236 #[iv (i:Int),p] B (· =.int .u64 ((if 6<=v then(if(i>>>(v-6)).testBit 0 then 18446744073709551615 else 0)else ak.mask v:Nat):Int)):=by
 refine aI λg=>HL (Ld.at hb (λ_ h=>h) ?_);exact aa.eq (z8 hv zO hi B) (bc.mk (.refl _) rfl)
theorem UP{n v:Nat}(hn:n<=16)(hv:v<n)(B:Hp):Px zQ 181 #[iv (n:Int),iv (v:Int)] B (λr H=>∃t,r=.tuple #[t,iv 0]/\kC H t n (λx=>x.testBit v)):=by
 refine aI λg=>IC λb1 _ b3 _=>?_;refine aa.eq (D3 hn _) (ae.cD (Br.F (Ld.q ?_)));refine ae.lss ?_;rw[xal zO];refine cS.or (a:=false) false (λ_=>?_) rfl λgs=>Br.no ?_
 ·refine Ld.q ?_;exact ae.tS ⟨rfl,by rw[xal zO]⟩
 have hwl:=ak.yC hn;refine aa.pq (uH hn rfl zK (F:=λi=>if 6<=v then(if(i>>>(v-6)).testBit 0 then 18446744073709551615 else 0)else ak.mask v) (λi _=>by
  have:=ak.rA v;split
  ·split<;>decide
  exact this) (B:=(b1,.cells #[iv (v:Int)] 3 zZ)::B) λi hi=>PR zO zO (Go.Sx.At.block (l:=[iv (v:Int)]) zM)) ?_
 rintro w N ⟨s,rfl,hw⟩;refine St.p ?_ ?_
 ·have:=bQ hw;simpa[Value.oneCell']using this
 refine az.q ?_;refine GN.mk (by repeat (first|exact bY.refl _|apply bY.cons|apply bY.app)) ⟨_,rfl,_,⟨s,rfl,hw.mono zS⟩,sJ hn,wF (λx hx=>?_) (λx=>?_)⟩
 ·have hj:x%64<64:=xbB _ zD;have ak3:x=64*(x/64)+x%64:=by omega
  by_cases h6:6<=v
  ·rw[xad h6];have e:x.testBit v=((x/64)>>>(v-6)).testBit 0:=by
    rw[xbC,xcu];have:=Nat.testBit_div_two_pow (n:=6) x (v-6);rw[show(2:Nat)^6=64 from rfl]at this;rw[this];congr 1;omega
   rw[e];cases ((x/64)>>>(v-6)).testBit 0
   ·exact xcy _
   exact CQ hj
  rw[xab h6,ak.gK];have:=xbz x 6 v;rw[show(2:Nat)^6=64 from rfl]at this;rw[this];simp[hj];omega
 rw[xbz];simp[hv]
end
end
section
open au
section
variable {B:Hp}
theorem pg{n i:Nat}{ws:zL}(hf:ak.eV n ws):ws.getD i 0<18446744073709551616:=by
 by_cases h:i<ws.length
 ·rw[xaq,xaa h];exact hf.lt (xaH h)
 rw[xaq,xaC zO];decide
theorem rN{n i:Nat}{ws:zL}(hf:ak.eV n ws)(hi:i<ak.wN n):ws[i]? =some (ws.getD i 0):=by
 rw[xaq,xaa (by rw[hf.len];exact hi)];rfl
theorem PX{p1 p2 p3 s1 s2 s3:zV}{n i:Nat}{ws us rs:zL}(h1:Go.Sx.At B p1 [iv (n:Int),s1])(h2:Go.Sx.At B p2 [iv (n:Int),s2])(h3:Go.Sx.At B p3 [iv (n:Int),s3])(hw:Words B s1 ws)(hu:Words B s2 us)(hr:Words B s3 rs)(hf:ak.eV n ws)(hg:ak.eV n us)(hh:ak.eV n rs)(hi:i<ak.wN n):
  Rd zQ 239 #[iv (i:Int),p1,p2,p3] B (· =.int .u64 (((ws.getD i 0&&&us.getD i 0)|||((18446744073709551615-ws.getD i 0) &&&rs.getD i 0):Nat):Int)):=by
 have lw:=pg (i:=i) hf;have lu:=pg (i:=i) hg;have lr:=pg (i:=i) hh;refine aI λg=>HH (ai.at h1 λq hq=>Ld.at hq (λ_ h=>h) ?_);refine hw.1.ld (dg (rN hf hi)) (λ_ h=>h) ?_;refine ai.at h2 λq hq=>Ld.at hq (λ_ h=>h) ?_;refine hu.1.ld (dg (rN hg hi)) (λ_ h=>h) ?_;refine ae.jE (by simpa only[bG]using lw) (by simpa only[bG]using lu) (ai.at h1 λq hq=>Ld.at hq (λ_ h=>h) ?_);refine hw.1.ld (dg (rN hf hi)) (λ_ h=>h) ?_;refine Un.afq lw ?_;refine ai.at h3 λq hq=>Ld.at hq (λ_ h=>h) ?_;refine hr.1.ld (dg (rN hh hi)) (λ_ h=>h) ?_;exact ae.jE (by simp only[bG];omega) (by simpa only[bG]using lr) (ae.Kq (xaA xcg (by simpa only[bG]using lw)) (xaA xcg (by simp only[bG];omega)) (bc.mk (.refl _) rfl))
theorem abL{bx n:Nat}{s1 s2 s3:zV}{ws us rs:zL}(h1:Words B s1 ws)(h2:Words B s2 us)(h3:Words B s3 rs):jG ((bx,.cells (rows [[iv (n:Int),s1],[iv (n:Int),s2],[iv (n:Int),s3]]) 175 zZ)::B) (.slice (some ⟨bx,0,none⟩) 3 3) [⟨n,ws⟩,⟨n,us⟩,⟨n,rs⟩]:=by
 refine⟨[[iv (n:Int),s1],[iv (n:Int),s2],[iv (n:Int),s3]],(Sl.rh (aV.made (T:=175) (k:=2) (b:=bx) _ zI) zD).mono λ_ h=>by simp at h;rw[h];exact .head _,rfl,λi r x hr hx=>?_⟩
 match i with
 |0=>simp at hr hx;subst hr;subst hx;exact⟨s1,rfl,h1.mono λ_ h=>.tail _ h⟩
 |1=>simp at hr hx;subst hr;subst hx;exact⟨s2,rfl,h2.mono λ_ h=>.tail _ h⟩
 |2=>simp at hr hx;subst hr;subst hx;exact⟨s3,rfl,h3.mono λ_ h=>.tail _ h⟩
 |i+3=>simp at hr
theorem US{v1 v2 v3:zV}{n:Nat}{f1 f2 f3:au.Fn}(h1:kC B v1 n f1)(h2:kC B v2 n f2)(h3:kC B v3 n f3):Px zQ 182 #[v1,v2,v3] B (λr H=>∃t,r=.tuple #[t,iv 0]/\kC H t n (λx=>if f1 x then f2 x else f3 x)):=by
 obtain⟨ws,⟨s1,rfl,hw⟩,hf,rfl⟩:=h1;obtain⟨us,⟨s2,rfl,hu⟩,hg,rfl⟩:=h2;obtain⟨rs,⟨s3,rfl,hr⟩,hh,rfl⟩:=h3;refine aI λg=>IB λb1 _ b3 _ b5 _ b7 _=>?_;refine az.q ?_;refine az.q ?_;refine az.q ?_;refine ax.Zc (e:=175) (z:=.agg #[iv 0,.slice none 0 0]) zK zK zK λbx=>?_;refine aa.rd .here (DO (abL (n:=n) (hw.mono zS) (hu.mono zS) (hr.mono zS)) (by show 3<2^62;decide)) ?_;rintro w rfl;rw[xam (by
  intro t ht;simp only[xak,xaR,xbD]at ht;rcases ht with rfl|rfl|rfl
  ·exact⟨⟨by simp,by simpa using hf⟩,rfl⟩
  ·exact⟨⟨by simp,by simpa using hg⟩,rfl⟩
  exact⟨⟨by simp,by simpa using hh⟩,rfl⟩)]
 refine Un.not (Br.no (Ld.f ?_));refine aa.pre (H':=(b7,.cells #[iv 0,.slice none 0 0] 175 zZ)::(b5,.cells #[iv (n:Int),s3] 175 zZ)::(b3,.cells #[iv (n:Int),s2] 175 zZ)::(b1,.cells #[iv (n:Int),s1] 175 zZ)::B) .tail ?_;have ol:∀i,(ws.getD i 0&&&us.getD i 0)|||((18446744073709551615-ws.getD i 0) &&&rs.getD i 0)<18446744073709551616:=λi=>
  xbH (n:=64) (xaA xcg (pg hf)) (xaA xc6 (pg hh))
 refine aa.pq (uH hf.x6 rfl zK (F:=λi=>(ws.getD i 0&&&us.getD i 0)|||((18446744073709551615-ws.getD i 0) &&&rs.getD i 0)) (λi _=>ol i) (B:=(b5,.cells #[iv (n:Int),s3] 175 zZ)::(b3,.cells #[iv (n:Int),s2] 175 zZ)::(b1,.cells #[iv (n:Int),s1] 175 zZ)::B)
  λi hi=>PX (Go.Sx.At.block (l:=[iv (n:Int),s1]) zM) (Go.Sx.At.block (l:=[iv (n:Int),s2]) zM) (Go.Sx.At.block (l:=[iv (n:Int),s3]) zM) (hw.mono zS) (hu.mono zS) (hr.mono zS) hf hg hh hi) ?_
 rintro w N ⟨s',rfl,eO⟩;refine St.p ?_ ?_
 ·have:=bQ eO;simpa[Value.oneCell']using this
 refine az.q ?_;refine GN.mk (by repeat (first|exact bY.refl _|apply bY.cons|apply bY.app)) ⟨_,rfl,_,⟨s',rfl,eO.mono zS⟩,sJ hf.x6,wF (λx hx=>?_) (λx=>by rw[Bp,Bp,Bp])⟩;rw[xb1,xbi,xbi,VD (pg hf) (xbB _ zD),uT hx,uT hx,uT hx];cases pG n ws x<;>cases pG n us x<;>cases pG n rs x<;>rfl
end
end
end Go.Proofs
namespace Go.Sx
open Go
section
variable {P:Program} {g:Gh} {H B:Hp} {c:Hp->Hp}
theorem aM.Zj{x:Nat×Obj}(h:x∈H):aM H [x]:=by
 obtain⟨A,D,rfl⟩:=xdd h;exact .eY (aM.left (A:=[x]))
end
end Go.Sx
set_option maxRecDepth 100000
namespace Go.Proofs
open Go Go.Sx
section
open au
section
variable {kp gb n:Nat} {vr vf:zV} {refs:zL} {fs:List (zL)} {K:Kd} {S:Nat->au.Fn} {ord ah tr:zL} {C B:Hp}
theorem bP.perm(hK:bP kp K S ord ah tr C):ord.Perm (List.range K.n):=by
 have kV:=hK.od;refine kH ?_ (λx hx=>?_) (by rw[xaK,kV.len];exact xaj _)
 ·refine List.pairwise_iff_getElem.2 λi j hi hj hij e=>?_;have g1:=(kV.aZ i (by rw[<-kV.len];exact hi)).2;have g2:=(kV.aZ j (by rw[<-kV.len];exact hj)).2;rw[xaq,xaa hi,e]at g1;rw[xaq,xaa hj]at g2;omega
 obtain⟨i,hi,rfl⟩:=xba.1 hx;rw[kV.len]at hi;have:=(kV.aZ i hi).1;rw[xaq,xaa (by rw[kV.len];exact hi)]at this;exact xaM.2 this
end
end
section
open au
theorem QG{B:Hp}{v1 v2:zV}{p q:zL}{n:Nat}(h1:dz .i64 B v1 (iw p))(h2:dz .i64 B v2 (iw q))(hp:p.Perm (List.range n))(hq:q.Perm (List.range n))(hn:n<=64):
  Fc zQ 187 #[v1,v2] B (λr H=>∃s C,r=.tuple #[s,iv 0]/\H=C++B/\aS 3 .i64 s (iw (path p q)) C):=by
 have e1:p.length=n:=by rw[hp.length_eq,xaK]
 have e2:q.length=n:=by rw[hq.length_eq,xaK]
 have fD:q.Nodup:=hq.nodup_iff.2 xbl;have hpq:=hp.trans hq.symm;refine aI λg=>Ix (aa.eq (Xd h1 h2 hp hq hn) (ae.cD (Br.F (aa.fq (wT h1 (by rw[aq];omega)) ?_))));rintro va H ⟨CA,rfl,hA⟩;refine h2.bV ?_;rw[aq];refine⟨λvs H=>∃(i:Nat) (w9:zV) (C N:Hp),vs=[w9,iv (i:Int)]/\i<=n/\H=C++(N++B)/\aS 3 .i64 w9 (iw (eu p q i)) C/\aS 3 .i64 va (iw (ay p (eu p q i))) N,λvs _=>n-bN vs 1,
  JE.mk ⟨0,_,[],CA,rfl,xaN _,rfl,aS.nil,hA⟩,?_⟩
 rintro w9 w10 H ⟨i,u9,C,N,⟨⟩,hi,rfl,ho,hw⟩ gs;refine ae.fC (Br.dec (λhlt=>?_) (λhlt=>?_));rotate_left
 ·obtain rfl:i=q.length:=by omega
  exact aN.mk (.de .right _) ⟨w9,C,rfl,rfl,ho⟩
 have spec:=jU fD hpq i zO;obtain⟨s1,s2,s3⟩:=spec;obtain⟨s4,s5⟩:=s3 hlt;have ai2:=sF fD hpq (i+1) zO;have qP:(i+1)*p.length<=64*64:=xca zO zO;refine h2.ld (n:=((q.getD i 0:Nat):Int)) (bE hlt) (λ_ h=>xac _ (xac _ h)) ?_;have hmem:q.getD i 0∈ay p (eu p q i):=by
  have:q.getD i 0∈q:=by rw[xaq,xaa hlt];exact xaH _
  exact((lj s1).trans hpq).mem_iff.2 this
 refine aa.eq (Mg hw.ints (by rw[aq,fR];omega)) ?_;rw[xad (Zi.2 hmem),Zx];refine⟨λvs H=>∃(j:Nat) (u9:zV) (P:zL) (C N:Hp),vs=[u9,iv (j:Int)]/\i<=j/\j<n/\P++Gy i j=eu p q (i+1)/\H=C++(N++B)/\aS 3 .i64 u9 (iw P) C/\aS 3 .i64 va (iw (ay p P)) N,λvs _=>bN vs 1,
  JE.mk ⟨plc (ay p (eu p q i)) (q.getD i 0),w9,eu p q i,C,N,rfl,s4,by omega,rfl,rfl,ho,hw⟩,?_⟩
 rintro w22 w23 H ⟨j,u9,P,C2,N2,⟨⟩,hij,Ul,hP,rfl,yb,we⟩ gs;refine ae.nE (Br.dec (λhgt=>?_) (λhgt=>?_))
 ·obtain⟨j,rfl⟩:∃k,j=k+1:=⟨j-1,by omega⟩;have hPl:P.length<=4096:=by
   have:=xck List.length hP;rw[xaf]at this;omega
  have hlen:(ay p P).length=n:=by rw[fR,e1]
  refine DR.self (ae.ca (b:=1) ?_);rw[xb6];refine we.ld (x:=(((ay p P).getD (j+1) 0:Nat):Int)) (bE zO) (λ_ h=>xac _ (xae _ h)) (ae.ca (b:=1) ?_);rw[xb6];refine we.ld (x:=(((ay p P).getD j 0:Nat):Int)) (bE zO) (λ_ h=>xac _ (xae _ h)) (we.ny (x:=(((ay p P).getD (j+1) 0:Nat):Int)) (.app .left) (by rw[aq];omega) λN3 hw3=>?_);refine hw3.ny (x:=(((ay p P).getD j 0:Nat):Int)) (.app .left) (by rw[xbR,aq];omega) λN4 hw4=>?_;have e:((iw (ay p P)).set j (((ay p P).getD (j+1) 0:Nat):Int)).set (j+1) (((ay p P).getD j 0:Nat):Int)=iw (ay p (P++[j])):=by
   rw[gB];unfold fK;rw[fg,fg]
  rw[e]at hw4;refine ae.ca (b:=1) ?_;rw[xb6];refine ax.int (e:=3) zK zK zK λbx=>?_;refine yb.rZ (.cons .left) (by exact .head _) (by rw[aq];omega) (by rw[aq];omega) λv' C3 Dx=>?_;refine ae.ca (b:=1) ?_;rw[xb6];refine aC.of .tail ⟨j,v',P++[j],C3,N4,rfl,by omega,by omega,?_,rfl,by rw[cC];exact Dx,hw4⟩ ?_
  ·rw[<-hP,rX (show i<=j by omega),xai];rfl
  simp only[bN];omega
 obtain rfl:j=i:=by omega
 rw[By (xaj _),xaL]at hP;subst hP;exact ae.inc (aC.of (.refl _) ⟨j+1,w22,C2,N2,rfl,by omega,rfl,yb,we⟩ (by simp only[bN];omega))
def wk(b kp f d:Nat)(ok:Bool):Nat×Obj:=(b,.cells #[ptr kp,iv (f:Int),iv (d:Int),.bool ok] 317 zZ)
section
variable {kp b f d:Nat} {K:Kd} {S:Nat->au.Fn} {ord tr:zL} {C:Hp}
theorem LO(h:At kp K S ord tr C):Fc zQ 245 #[ptr kp] C (λr H=>∃b,r=ptr b/\H=wk b kp tr.length 0 false::C):=by
 refine aI λg=>Hy (aa.eq (rY h) (Build.mk (cs:=[ptr kp,iv ((tr.length:Nat):Int),iv 0,.bool false]) zK ?_));intro b _;exact aN.here ⟨b,rfl,rfl⟩
theorem PF(h:At kp K S ord tr C){l:Nat}(hl:l+1<K.n)(fh:tr.length<17592186044416)(hf:jb K S ord l)(hd:d<4611686018427387904):
  Fc zQ 248 #[ptr b,iv (l:Int)] (wk b kp f d false::C) (λr H=>r=iv 0/\∃C',H=wk b kp f (d+1) false::C'/\At kp K S (fK ord l) (tr++[l]) C'):=by
 refine aI λg=>xz (Ld.n ?_);refine aa.fq (uR h hl fh hf) ?_;rintro v C' ⟨rfl,h'⟩;intro J hJ;refine ae.gJ (Br.T (Ld.n ?_));refine ae.inc (Nil.ptr (ai.mk (St.one (by exact .head _) rfl zI rfl ?_)));exact JE.mk (hJ _ λgs=>aN.here ⟨rfl,C',rfl,h'⟩)
theorem PG(h:At kp K S ord tr C){l:Nat}(hl:l+1<K.n)(fh:tr.length<17592186044416)(hf:¬jb K S ord l):
  Rd zQ 248 #[ptr b,iv (l:Int)] (wk b kp f d false::C) (· =iv 9):=by
 refine aI λg=>xz (Ld.n ?_);refine aa.eq (m7 h hl fh hf) λJ hJ=>?_;exact ae.gJ (Br.F (JE.mk (hJ _ λgs=>bc.mk (.refl _) rfl)))
theorem PI{ok:Bool}{path:zL}(h:At kp K S (ay ord path) (tr++path) C)(hp:∀l∈path,l+1<K.n)(fh:(tr++path).length<17592186044416)(hd:d<4611686018427387904):
  Fc zQ 274 #[ptr b] (wk b kp tr.length d ok::C) (λr H=>r=.tuple #[]/\∃C',H=wk b kp tr.length (d+path.length) ok::C'/\At kp K S ord tr C'):=by
 have zm:path.length<17592186044416:=by rw[xaf]at fh;omega
 refine aI λg=>GZ (DR.of (R:=[wk b kp tr.length d ok]) (aM.left (A:=[_]) (B:=C)) (Ld.n ?_));refine Ld.n ?_;refine aa.fq (args:=#[ptr kp,iv ((tr.length+0:Nat):Int)]) (Lj h hp (xaN _) fh) ?_;rintro v C' ⟨rfl,h'⟩;rw[xec,xaL]at h';refine⟨aM.left (A:=[_]) (B:=C'),?_⟩;refine Ext.two (Ld.n ?_);refine ae.fI (Nil.ptr (ai.mk (St.one (by exact .head _) rfl zI rfl ?_)));exact aN.here ⟨rfl,C',rfl,h'⟩
theorem LI:Rd zQ 247 #[ptr b] (wk b kp f d true::C) (· =.tuple #[]):=by
 refine aI λg=>xA (Ld.n ?_);exact Un.not (Br.no (bc.mk (.refl _) rfl))
theorem LJ{path:zL}(h:At kp K S (ay ord path) (tr++path) C)(hp:∀l∈path,l+1<K.n)(fh:(tr++path).length<17592186044416)(hd:d<4611686018427387904):
  Fc zQ 247 #[ptr b] (wk b kp tr.length d false::C) (λr H=>r=.tuple #[]/\∃C',H=wk b kp tr.length (d+path.length) false::C'/\At kp K S ord tr C'):=by
 refine aI λg=>xA (Ld.n ?_);refine Un.not (Br.yes (aa.fq (PI h hp fh hd) ?_));rintro v H ⟨rfl,C',rfl,h'⟩;exact aN.here ⟨rfl,C',rfl,h'⟩
theorem Eh(h:At kp K S ord tr C){v:Nat}(hv:v<K.n):Rd zQ 93 #[ptr kp,iv (v:Int)] C (λr=>∃p,p<K.n/\ord.getD p 0=v/\r=.tuple #[iv (p:Int),iv 0]):=by
 obtain⟨K',S',bR,h,hk⟩:=h;obtain⟨b,rfl,hO⟩:=h.rep;have hn:=hO.lP;have n8:v<K'.n:=by rw[hk.n];exact hv
 have hlen:v<bR.length:=by rw[hO.ol.2];exact n8
 refine aI λg=>th (ae.aL (Br.no (aa.eq (rE h.rep (v:Int)) ?_)));rw[xam zO];refine Un.not (Br.no (Ld.n ?_));refine hO.lv.ld (x:=((bR.getD v 0:Nat):Int)) (bE hlen) (bH.sub (.cons (.app (.app (.app (.app (.app .left))))))) (bc.mk (.refl _) ⟨bR.getD v 0,?_,?_,rfl⟩)
 ·rw[<-hk.n];exact h.ok.lv.lt v n8
 exact h.od.of h.ok.lv n8
theorem Eg(h:At kp K S ord tr C){v:Int}(hv:v<0\/(K.n:Int)<=v):Rd zQ 93 #[ptr kp,iv v] C (· =.tuple #[iv 0,iv 2]):=by
 obtain⟨K',S',bR,h,hk⟩:=h;have hn:=hk.n;refine aI λg=>th (ae.aL (Br.no (aa.eq (rE h.rep v) ?_)));rw[xal zO];exact Un.not (Br.yes (bc.mk (.refl _) rfl))
def Lr(kp:Nat)(K:Kd)(S:Nat->au.Fn)(ord tr ls:zL)(r:zV)(C:Hp):Prop:=
 ((rm K S).can ord ls=true/\r=.tuple #[iv ((ls.length:Nat):Int),iv 0]/\At kp K S (ay ord ls) (tr++ls) C)\/
 ((rm K S).can ord ls=false/\r=.tuple #[iv ((2*((rm K S).dF 0 ls ord).length:Nat):Int),iv 9]/\At kp K S ord tr C)
theorem VN{Y:Hp}{v:zV}{ls:zL}(h:At kp K S ord tr C)(hI:dz .i64 Y v (iw ls))(hp:∀l∈ls,l+1<K.n)(fh:tr.length+ls.length<17592186044416):
  Fc zQ 188 #[ptr kp,v] (Y++C) (λr H=>∃C',H=Y++C'/\Lr kp K S ord tr ls r C'):=by
 let m:=rm K S
 have hgl:=m.l9 0 ls ord;have hpt:∀i,∀l∈ls.take i,l+1<K.n:=λi l hl=>hp l (xcE hl);refine aI λg=>Iw λb1 _=>?_;refine aa.fq (LO h) ?_;rintro v3 H ⟨b,rfl,rfl⟩;intro b5 _;refine St.one (by exact .head _) rfl zI rfl ?_;refine hI.bV ?_;rw[aq];refine⟨λvs H=>∃i C2,i<=(m.dF 0 ls ord).length/\vs=[iv (i:Int)]/\H=(b5,.cells #[ptr b] 314 zZ)::(b1,.cells #[iv 0] 3 zZ)::(Y++(wk b kp tr.length i false::C2))/\At kp K S (ay ord (ls.take i)) (tr++ls.take i) C2,
  λvs _=>ls.length-bN vs 0,JE.mk ⟨0,C,xaN _,rfl,rfl,by simpa[ay]using h⟩,?_⟩
 rintro w13 H ⟨i,C2,hi,⟨⟩,rfl,h2⟩ gs;have RT:(tr++ls.take i).length<17592186044416:=by rw[xaf,xbF];omega
 refine ae.fC (Br.dec (λhlt=>?_) (λhlt=>?_))
 ·refine hI.ld (n:=((ls.getD i 0:Nat):Int)) (bE hlt) (λ_ h=>.tail _ (.tail _ (xae _ h))) ?_;have eg:ls.getD i 0=ls[i]:=by rw[xaq,xaa hlt];rfl
  have DB:ls.getD i 0+1<K.n:=by rw[eg];exact hp _ (xaH hlt)
  have eq:ls[i]? =some (ls.getD i 0):=by rw[eg];exact xaa hlt
  refine Ld.q ?_;by_cases hg:i<(m.dF 0 ls ord).length
  ·have hf:jb K S (ay ord (ls.take i)) (ls.getD i 0):=qm.1 (m.SC hg eq);refine aa.fn (.cons (.cons (.app .here))) (PF h2 DB RT hf zO) ?_;rintro r H ⟨rfl,C3,rfl,h3⟩;refine ae.cD (Br.F (ae.inc (aC.mk ⟨i+1,C3,hg,rfl,rfl,?_⟩ (by simp only[bN];omega))));have e:ls.take (i+1)=ls.take i++[ls.getD i 0]:=by rw[xbo,eq];rfl
   rw[e,gB,<-xai];exact h3
  obtain rfl:i=(m.dF 0 ls ord).length:=by omega
  have hf:¬jb K S (ay ord (ls.take (m.dF 0 ls ord).length)) (ls.getD (m.dF 0 ls ord).length 0):=λhf=>by
   have h8:=m.Nn eq;have h9:=qm.2 hf;rw[show(rm K S).fit _ _=false from h8]at h9;cases h9
  refine aa.eq (PG h2 DB RT hf) (ae.cD (Br.T (St.one (by exact .tail (.head _)) rfl zI rfl ?_)));refine ug (R:=_) ?_;unfold L246;refine Ld.q ?_;refine aa.fn (.cons (.cons (.app .here))) (LJ h2 (hpt _) RT zO) ?_;rintro r H ⟨rfl,C3,rfl,h3⟩;refine Ld.q ?_;have eD:(m.dF 0 ls ord).length+(ls.take (m.dF 0 ls ord).length).length=2*(m.dF 0 ls ord).length:=by rw[xbF];omega
  rw[eD];refine Ld.n ?_;refine St.one (by exact .tail (.head _)) rfl zI rfl ?_;refine⟨⟨_,rfl⟩,?_⟩;refine Ld.q ?_;refine aN.mk (.skip (.skip (.de .tail _))) ⟨C3,rfl,.inr ⟨xal (show¬(m.dF 0 ls ord).length=ls.length by omega),rfl,h3⟩⟩
 have RW:i=ls.length:=by omega
 subst RW;rw[xbj]at h2;have hcan:(rm K S).can ord ls=true:=xam (show(m.dF 0 ls ord).length=ls.length by omega);refine Ld.q ?_;refine Nil.ptr (ai.mk (St.one (c8.tail (c8.tail (c8.cr (.head _) _))) rfl zI rfl ?_));refine St.one (by exact .tail (.head _)) rfl zI rfl ?_;refine ug (R:=_) ?_;unfold L246;refine Ld.q ?_;refine aa.eq (B:=wk b kp tr.length ls.length true::C2) LI (Ld.q ?_);refine Ld.n ?_;refine St.one (by exact .tail (.head _)) rfl zI rfl ?_;refine⟨⟨_,rfl⟩,?_⟩;refine Ld.q ?_;refine aN.mk (.skip (.skip (.de .tail _))) ⟨C2,rfl,.inl ⟨hcan,rfl,h2⟩⟩
end
section
variable {kp b f d:Nat} {K:Kd} {S:Nat->au.Fn} {ord tr:zL} {C:Hp}
theorem Lr.tup{ls:zL}{r:zV}(h:Lr kp K S ord tr ls r C):∃x y,r=.tuple #[x,y]:=by
 rcases h with⟨_,rfl,_⟩|⟨_,rfl,_⟩<;>exact⟨_,_,rfl⟩
theorem QT{Y:Hp}{v:zV}{q:zL}(h:At kp K S ord tr C)(hI:dz .i64 Y v (iw q))(ZJ:ord.Perm (List.range K.n))(hpq:q.Perm (List.range K.n))(fh:tr.length<17454747090944):
  Fc zQ 118 #[ptr kp,v] (Y++C) (λr H=>∃C',H=Y++C'/\Lr kp K S ord tr (path ord q) r C'):=by
 have hn:=h.lP;have EF:ord.length=K.n:=by rw[ZJ.length_eq,xaK]
 have hql:q.length=K.n:=by rw[hpq.length_eq,xaK]
 have fD:q.Nodup:=hpq.nodup_iff.2 xbl;refine aI λg=>Jq (ae.aL (Br.no ?_));intro J2 BV;refine aa.rq (sE hI (by rw[aq];omega)) ?_;rintro r (⟨rfl,ha,hl⟩|⟨_,_,hl⟩|⟨_,hno⟩);rotate_left
 ·rw[aq]at hl;omega
 ·exact absurd (xj hpq) hno
 refine ae.cD (Split.go zD ?_);refine hI.bV (aa.eq (m6 h) (ae.x5 ?_));rw[xal (by rw[aq];omega)];refine aH.mk (JE.mk (BV _ _ λgs=>Br.no ?_));refine aa.fq (Ty h) ?_;rintro vo H ⟨N,rfl,ho⟩;refine aa.pre (H':=(N++Y)++C) (.perm (by rw[xai,<-xai,<-xai];exact xbb.append_right C)) (aa.fq (QG (ho.ints.mono λ_ h=>xae _ h) (hI.mono λ_ h=>xac _ h) ZJ hpq hn) ?_);rintro r H ⟨s,CP,rfl,rfl,hP⟩;refine Ext.mk rfl (Ext.mk rfl (ae.cD (Br.F ?_)));obtain⟨_,zm⟩:=AY fD (ZJ.trans hpq.symm);have ai0:(path ord q).length<=4096:=by
  have:=sF fD (ZJ.trans hpq.symm) q.length (xaj _);have h2:q.length*ord.length<=64*64:=xca zO zO;unfold path;omega
 refine aa.fq (VN h (hP.ints.mono λ_ h=>xae _ h) (λx hx=>by have:=zm x hx;omega) zO) ?_;rintro r H ⟨C',rfl,hM⟩;obtain⟨x,y,rfl⟩:=hM.tup;refine Ext.two (aN.mk ?_ ⟨C',rfl,hM⟩);rw[xai,xai];exact aM.right.trans .right
def VU(p:Nat):Nat->Nat->Nat
 |0,_=>p
 |_,k=>p-k
def M6(n p:Nat):Nat->Nat->Nat
 |0,k=>p+k
 |_,_=>n-1
end
end
end Go.Proofs
namespace au
theorem sB{p j:Nat}(h:p<=j):road p (j+1)=road p j++[j]:=by
 unfold road;rw[show p-(j+1)=0 by omega,show p-j=0 by omega,show j+1-p=(j-p)+1 by omega,List.range'_concat];simp;omega
theorem sC{p j:Nat}(h:j<p):road p j=road p (j+1)++[j]:=by
 unfold road;rw[show j-p=0 by omega,show j+1-p=0 by omega,show p-j=(p-(j+1))+1 by omega,List.range'_succ];simp
theorem gC(p:Nat):road p p=[]:=by unfold road;simp
end au
set_option maxRecDepth 100000
namespace Go.Proofs
open Go Go.Sx
open au
section
variable {kp gb n:Nat} {vr vf:zV} {refs:zL} {fs:List (zL)} {K:Kd} {S:Nat->au.Fn} {ord tr:zL} {C Z:Hp}
theorem Ko{ord:zL}(hp:ord.Perm (List.range n)):∀i,i<n->ord.getD i 0<n:=λi hi=>by
 have EF:ord.length=n:=by rw[hp.length_eq,xaK]
 have:ord.getD i 0∈ord:=by rw[xaq,xaa zO];exact xaH _
 exact xaM.1 (hp.mem_iff.1 this)
end
end Go.Proofs
namespace Go.Sx
open Go Go.ChangeShapes Go.WideShapes Go.Deep
section
variable {H:Type} {enc:TypeId×zV->H} {P:Program} {W:World} {base:Nat} {spare:Nat->Bool} {held:Bool}
theorem tg(a:Addr)(n:Nat):(a.add n).block=a.block:=by unfold Addr.add;split<;>rfl
theorem BE(a:Addr)(n:Nat):(a.add n).off=a.off+n:=by unfold Addr.add;split<;>simp_all
theorem kP{b:Nat}{a:Addr}{k:Nat}{cs:List zV}(hk:0<k)(h:W.cells? b a k=some cs):
  a.spot=none/\∃c T fz,W.heap[a.block]? =some (.cells c T fz)/\a.off+k<=c.size/\c.extract a.off (a.off+k)=cs.toArray:=by
 obtain⟨_,hl,hg⟩:=World.cells?_some h;have h0:=hg 0 hk;have hc0:W.cell? a=some (cs[0]' zO):=by
  have:a.add 0=a:=by simp[Addr.add]
  rw[this]at h0;rw[h0];exact xaa zO
 unfold World.cell? at hc0;split at hc0
 ·rename_i c T fz hb;cases hs:a.spot with
  |some s=>rw[hs]at hc0;simp at hc0
  |none=>
   have hcell:∀i,i<k->c[a.off+i]? =cs[i]? :=λi hi=>by
    have:=hg i hi;unfold World.cell? at this;rw[tg,hb]at this;simp only[BE]at this;have hsp:(a.add i).spot.isSome=false:=by unfold Addr.add;split<;>simp[hs]
    rw[hsp]at this;simpa using this
   have hsz:a.off+k<=c.size:=by
    have:=hcell (k-1) zO;rw[xaa zO]at this;have:=(xaS.1 this).1;omega
   refine⟨rfl,c,T,fz,hb,hsz,?_⟩;apply Array.ext_getElem?;intro i;rw[xdi];by_cases hi:i<k
   ·rw[xad zO,hcell i hi];simp
   rw[xab zO];simp;omega
 simp at hc0
theorem aa0{t e:TypeId}{v:zV}{d:DataW H}{ps:List MemPlace}{r:Reach}{b0 k:Nat}(ht:P.underlying t=some (.slice e))(hk:P.cellsOf e=k)(ZV:0<k)(hv:Value.okWide P W r b0 t v)(h:DataW.Trod enc P W base spare held t v d ps):
  (v=.slice none 0 0/\d=.nil)\/∃(a:Addr) (n cap:Nat) (es sp:List (DataW H)),v=.slice (some a) n cap/\d=.slice es sp/\es.length=n/\n<=cap/\
   ∀i,i<n->∃c T fz cs,a.spot=none/\(a.block,Obj.cells c T fz)∈whole W/\a.off+i*k+k<=c.size/\c.extract (a.off+i*k) (a.off+i*k+k)=cs.toArray/\∃fuel y,DataW.trod enc P W base spare held fuel e cs=some y/\cs.length=k:=by
 obtain⟨a0,n0,c0,rfl⟩:=okWide_slice ht hv;obtain⟨fuel,hf⟩:=h;rcases open_slice ht hf with⟨h1,h2⟩|⟨a,len,cap,m,n,D,Pl,hcs,hb,hl,hm,yc,hx,hi⟩
 ·left;simp only[Value.cells,xau,xa1]at h1;simp only[xdv]at h2;exact⟨by simpa using h1,h2.1⟩
 right;simp only[xdv]at hx;have n8:Value.slice a0 n0 c0=.slice (some a) len cap:=by simpa[Value.cells]using hcs
 have hlm:len<=m:=by rw[yc];split<;>omega
 refine⟨a,len,cap,_,_,n8,hx.1,by simp,hl,λi hin=>?_⟩;have hkk:=hk;have Dt:a.spot=none:=by
  obtain⟨cs0,hc0,_⟩:=hi 0 zO;rw[hk]at hc0;rw[show a.add (0*k)=a by simp[Addr.add]]at hc0;exact(kP ZV hc0).1
 obtain⟨cs,hc,hd⟩:=hi i zO;rw[hk]at hc;obtain⟨_,hlen,_⟩:=World.cells?_some hc;obtain⟨_,c,T,fz,h1,h2,h3⟩:=kP ZV hc;rw[tg]at h1;rw[BE]at h2 h3;exact⟨c,T,fz,cs,Dt,yY h1,h2,h3,n,_,hd,hlen⟩
theorem L5{t e:TypeId}{cs:List zV}{x:DataW H×List MemPlace}{fuel k:Nat}(ht:P.underlying t=some (.slice e))(hk:P.cellsOf e=k)(ZV:0<k)(h:DataW.trod enc P W base spare held fuel t cs=some x):
  ∃(v:zV) (rs:List (List zV)),cs=[v]/\Sl k (whole W) v rs/\((rs=[]/\x.1=.nil)\/∃es sp,x.1=.slice es sp/\es.length=rs.length)/\
   ∀(i:Nat) (r:List zV),rs[i]? =some r->∃(fuel:Nat) (y:DataW H×List MemPlace) (es sp:List (DataW H)),DataW.trod enc P W base spare held fuel e r=some y/\x.1=.slice es sp/\es[i]? =some y.1:=by
 rcases open_slice ht h with⟨h1,h2⟩|⟨a,len,cap,m,n,D,Pl,hcs,hb,hl,hm,yc,hx,hi⟩
 ·exact⟨_,[],h1,Sl.nil _ _,.inl ⟨rfl,by rw[h2]⟩,λi r hr=>by simp at hr⟩
 have hlm:len<=m:=by rw[yc];split<;>omega
 have hex:∃rs:List (List zV),rs.length=len/\∀i r,rs[i]? =some r->W.cells? base (a.add (i*k)) k=some r/\DataW.trod enc P W base spare held n e r=some (D i,Pl i):=by
  clear hcs hx hl yc;induction len with
  |zero=>exact⟨[],rfl,λi r hr=>by simp at hr⟩
  |succ len ih=>
   obtain⟨rs,h1,h2⟩:=ih zO;obtain⟨r,h3,h4⟩:=hi len zO;rw[hk]at h3;refine⟨rs++[r],by simp[h1],λi r' hr=>?_⟩;by_cases hlt:i<rs.length
   ·rw[xaY hlt]at hr;exact h2 i r' hr
   rw[xbQ zO]at hr;have F9:i-rs.length=0:=by
    by_cases e:i-rs.length=0
    ·exact e
    rw[xaC zP]at hr;cases hr
   rw[F9]at hr;simp only[xcM,xar]at hr;subst hr;obtain rfl:i=len:=by omega
   exact⟨h3,h4⟩
 obtain⟨rs,Dv,Du⟩:=hex;have aJ:∀r∈rs,r.length=k:=λr hr=>by
  obtain⟨i,hi,e⟩:=xba.1 hr;obtain⟨hc,_⟩:=Du i r (by rw[xaa hi,e]);exact(World.cells?_some hc).2.1
 refine⟨.slice (some a) len cap,rs,hcs,⟨aJ,?_⟩,.inr ⟨_,_,by rw[hx],by simp[Dv]⟩,λi r hr=>?_⟩
 ·cases rs with
  |nil=>exact .inl ⟨some a,cap,by rw[<-Dv];rfl,rfl⟩
  |cons r0 rest=>
   right;obtain⟨hc0,_⟩:=Du 0 r0 rfl;obtain⟨Dt,c,T,fz,hb0,_,_⟩:=kP ZV hc0;rw[show a.add (0*k)=a by simp[Addr.add]]at Dt hb0;obtain⟨ab,ao,asp⟩:=a;simp only at Dt hb0;subst Dt;have adl:∀i r,(r0::rest)[i]? =some r->ao+i*k+k<=c.size/\c.extract (ao+i*k) (ao+i*k+k)=r.toArray:=λi r hr=>by
    obtain⟨hc,_⟩:=Du i r hr;obtain⟨_,c',T',fz',h1,h2,h3⟩:=kP ZV hc;rw[tg]at h1;rw[BE]at h2 h3;simp only at h1 h2 h3;rw[hb0]at h1;simp only[xar,Obj.cells.injEq]at h1;obtain⟨rfl,_,_⟩:=h1;exact⟨h2,h3⟩
   refine⟨ab,ao,cap,c,T,fz,by rw[Dv],by omega,yY hb0,?_,λi r hr j v hj=>?_⟩
   ·have acX:=adl (rest.length) ((r0::rest)[rest.length]' zI) (xaa zI);have:=acX.1;simp only[xaz,xbu];omega
   obtain⟨h1,h2⟩:=adl i r hr;have Wu:j<k:=by
    have:=(xah.1 hj).1;rw[aJ r (xav hr)]at this;exact this
   have h3:=xck (λz:Array zV=>z[j]?) h2;simp only[xdi,xdo]at h3;rw[hj]at h3;rw[<-h3,xad zO]
 obtain⟨_,hd⟩:=Du i r hr;have RW:i<len:=by rw[<-Dv];exact(xah.1 hr).1
 exact⟨n,_,_,_,hd,by rw[hx],by simp[RW]⟩
end
end Go.Sx
set_option maxRecDepth 100000
namespace Go.Proofs
open Go Go.Sx
section
open Go.ChangeShapes Go.WideShapes Go.Deep
variable {H:Type} {enc:TypeId×zV->H} {W:World} {base:Nat} {spare:Nat->Bool} {held:Bool}
theorem VY{f:FuncId}{args:Array zV}{W:World}(h:Rd zQ f args (whole W) (· =.bool true)):
  Calls zQ f args W λe W'=>e=.returned (.bool true)/\Go.RowKit.Below W.heap.size W W':=
 Zp (h.mono λ_ _ ⟨h1,h2⟩=>⟨by rw[h1];exact .refl _,h2⟩)
end
end Go.Proofs
namespace au
def Rm.ED(m:Rm)(g:Nat)(ord:zL)(p:Nat)(dn:Bool):Nat->Nat->Nat->Nat->Nat×Nat×Nat
 |0,j,b,q=>(j,b,q)
 |k+1,j,b,q=>
  if m.fit (ay ord (road p j)) (bif dn then j else j-1)=true then
   if(if m.size (ay ord (road p (bif dn then j+1 else j-1)))<b then m.size (ay ord (road p (bif dn then j+1 else j-1)))else b)*g<m.size (ay ord (road p (bif dn then j+1 else j-1)))*100 then
    (bif dn then j+1 else j-1,if m.size (ay ord (road p (bif dn then j+1 else j-1)))<b then m.size (ay ord (road p (bif dn then j+1 else j-1)))else b,if m.size (ay ord (road p (bif dn then j+1 else j-1)))<b then(bif dn then j+1 else j-1)else q)
   else m.ED g ord p dn k (bif dn then j+1 else j-1) (if m.size (ay ord (road p (bif dn then j+1 else j-1)))<b then m.size (ay ord (road p (bif dn then j+1 else j-1)))else b) (if m.size (ay ord (road p (bif dn then j+1 else j-1)))<b then(bif dn then j+1 else j-1)else q)
  else(j,b,q)
def dst(x y:Nat):Nat:=(x-y)+(y-x)
def Rm.rest(m:Rm)(dn:Bool)(j:Nat):Nat:=bif dn then m.n-1-j else j
def Rm.su(m:Rm)(g:Nat)(ord:zL)(p:Nat):Nat×Nat:=
 let dn:=decide (m.n-1-p<=p)
 let a:=m.ED g ord p dn (m.rest dn p) p (m.size ord) p
 let b:=m.ED g ord p (!dn) (m.rest (!dn) p) p a.2.1 a.2.2
 (b.2.2,dst a.1 p+dst a.1 p+dst b.1 p+if b.2.2≠a.2.2 then dst b.1 b.2.2 else dst b.1 p+dst p b.2.2)
def Rm.cm(m:Rm)(g:Nat)(ord:zL):zL->zL×Nat
 | []=>([],0)
 |v::r=>let p:=ord.idxOf v;let a:=m.su g ord p;let b:=m.cm g (ay ord (road p a.1)) r;(road p a.1++b.1,a.2+b.2)
structure aek(m:Rm)(ord:zL)(p:Nat)(dn:Bool)(k j b q:Nat)(r:Nat×Nat×Nat):Prop where
 way:bif dn then j<=r.1/\r.1<=j+k else r.1<=j/\j<=r.1+k
 size:r.2.1=m.size (ay ord (road p r.2.2))
 new:(r.2.1=b/\r.2.2=q)\/(r.2.1<b/\bif dn then j<r.2.2/\r.2.2<=r.1 else r.1<=r.2.2/\r.2.2<j)
 fit:∀i,(bif dn then j<=i/\i<r.1 else r.1<i/\i<=j)->m.fit (ay ord (road p i)) (bif dn then i else i-1)=true
theorem Rm.vY(m:Rm)(g:Nat)(ord:zL)(p:Nat)(dn:Bool):∀k j b q,(dn=false->k<=j)->b=m.size (ay ord (road p q))->aek m ord p dn k j b q (m.ED g ord p dn k j b q)
 |0,j,b,q,hk,hb=>⟨by cases dn<;>simp[ED],hb,.inl ⟨rfl,rfl⟩,λi hi=>by cases dn<;>simp[ED]at hi<;>omega⟩
 |k+1,j,b,q,hk,hb=>by
  rw[ED];by_cases hf:m.fit (ay ord (road p j)) (bif dn then j else j-1)=true
  ·rw[xad hf];obtain⟨J,hJ⟩:∃J,J=bif dn then j+1 else j-1:=⟨_,rfl⟩;rw[<-hJ];obtain⟨s,hs⟩:∃s,s=m.size (ay ord (road p J)):=⟨_,rfl⟩;rw[<-hs];obtain⟨B,hB⟩:∃B,B=if s<b then s else b:=⟨_,rfl⟩
   obtain⟨Q,hQ⟩:∃Q,Q=if s<b then J else q:=⟨_,rfl⟩
   rw[<-hB,<-hQ];have hbq:(B=b/\Q=q)\/(B<b/\Q=J):=by
    by_cases h:s<b
    ·rw[xad h]at hB hQ;exact .inr ⟨by omega,hQ⟩
    rw[xab h]at hB hQ;exact .inl ⟨hB,hQ⟩
   have hb':B=m.size (ay ord (road p Q)):=by
    by_cases h:s<b
    ·rw[xad h]at hB hQ;rw[hB,hQ,hs]
    rw[xab h]at hB hQ;rw[hB,hQ,hb]
   clear hB hQ;by_cases hg:B*g<s*100
   ·rw[xad hg];refine⟨?_,hb',?_,λi hi=>?_⟩
    ·cases dn
     ·simp only[xag]at hJ⊢;have:=hk rfl;omega
     simp only[xap]at hJ⊢;omega
    ·cases dn
     ·simp only[xag]at hJ⊢;have:=hk rfl;omega
     simp only[xap]at hJ⊢;omega
    have:i=j:=by
     cases dn
     ·simp only[xag]at hi hJ;omega
     simp only[xap]at hi hJ;omega
    subst this;exact hf
   rw[xab hg];have ih:=m.vY g ord p dn k J B Q (λh=>by subst h;have:=hk rfl;simp only[xag]at hJ;omega) hb';obtain⟨w1,w2,w3,w4⟩:=ih;refine⟨?_,w2,?_,λi hi=>?_⟩
   ·cases dn
    ·simp only[xag]at w1 hJ⊢;have:=hk rfl;omega
    simp only[xap]at w1 hJ⊢;omega
   ·cases dn
    ·simp only[xag]at w3 w1 hJ⊢;have:=hk rfl;omega
    simp only[xap]at w3 w1 hJ⊢;omega
   by_cases e:i=j
   ·subst e;exact hf
   refine w4 i ?_;cases dn
   ·simp only[xag]at hi hJ⊢;omega
   simp only[xap]at hi hJ⊢;omega
  rw[xab hf];exact⟨by cases dn<;>simp,hb,.inl ⟨rfl,rfl⟩,λi hi=>by cases dn<;>simp at hi<;>omega⟩
structure aeh(m:Rm)(ord:zL)(p:Nat)(r:Nat×Nat):Prop where
 lt:r.1<m.n
 le:m.size (ay ord (road p r.1))<=m.size ord
 stay:m.size (ay ord (road p r.1))=m.size ord->r.1=p
 pL:r.2<=3*(m.n-1)
theorem Rm.AR(m:Rm)(g:Nat){ord:zL}{p:Nat}(hp:p<m.n):aeh m ord p (m.su g ord p):=by
 have ha:=m.vY g ord p (decide (m.n-1-p<=p)) (m.rest (decide (m.n-1-p<=p)) p) p (m.size ord) p (λh=>by unfold Rm.rest;rw[h];exact xaj _) (by rw[gC];rfl);unfold su;simp only;generalize decide (m.n-1-p<=p)=dn at*;generalize m.ED g ord p dn (m.rest dn p) p (m.size ord) p=a at*;have hb:=m.vY g ord p (!dn) (m.rest (!dn) p) p a.2.1 a.2.2 (λh=>by unfold Rm.rest;rw[h];exact xaj _) ha.size;generalize m.ED g ord p (!dn) (m.rest (!dn) p) p a.2.1 a.2.2=b at*;obtain⟨a1,a2,a3,a4⟩:=ha;obtain⟨b1,b2,b3,b4⟩:=hb;unfold Rm.rest at a1 b1;refine⟨?_,?_,λh=>?_,?_⟩
 ·cases dn<;>simp only[xag,xap,xcq,xcw]at a1 b1 a3 b3<;>simp only<;>omega
 ·simp only;rw[<-b2];cases dn<;>simp only[xag,xap,xcq,xcw]at a1 b1 a3 b3<;>omega
 ·simp only at h⊢;rw[<-b2]at h;cases dn<;>simp only[xag,xap,xcq,xcw]at a1 b1 a3 b3<;>omega
 unfold dst;cases dn<;>simp only[xag,xap,xcq,xcw]at a1 b1 a3 b3<;>simp only<;>split<;>omega
end au
namespace au
section
variable {m:Rm} {g:Nat}
theorem Kj{p q:Nat}(hp:p<m.n)(hq:q<m.n):∀x∈road p q,x+1<m.n:=λx hx=>Qz hp hq hx
theorem FV{ord:zL}{v n:Nat}(hp:ord.Perm (List.range n))(hv:v<n):ord.idxOf v<n:=by
 have h1:v∈ord:=hp.mem_iff.2 (xaM.2 hv);have h2:=xeg h1;rwa [hp.length_eq,xaK]at h2
theorem mE{ord path:zL}{n:Nat}(hp:ord.Perm (List.range n))(h:∀x∈path,x+1<n):(ay ord path).Perm (List.range n):=
 (lj λx hx=>by rw[hp.length_eq,xaK];exact h x hx).trans hp
structure aaD(m:Rm)(g:Nat)(ord l:zL)(r:zL×Nat):Prop where
 mem:∀x∈r.1,x+1<m.n
 le:m.size (ay ord r.1)<=m.size ord
 stay:m.size (ay ord r.1)=m.size ord->r.1=[]/\∀v∈l,(m.su g ord (ord.idxOf v)).1=ord.idxOf v
 pL:r.2<=3*(m.n-1)*l.length
 len:r.1.length<=m.n*l.length
theorem mG:∀{l ord:zL},ord.Perm (List.range m.n)->(∀v∈l,v<m.n)->aaD m g ord l (m.cm g ord l)
 | [],ord,hp,hl=>⟨by simp[Rm.cm],xaj _,λ_=>⟨rfl,by simp⟩,by simp[Rm.cm],by simp[Rm.cm]⟩
 |v::l,ord,hp,hl=>by
  have hv:=FV hp (hl v zI);have h1:=m.AR g (ord:=ord) hv;rw[Rm.cm];generalize hq:ord.idxOf v=p at*;generalize hr:m.su g ord p=a at*;obtain⟨a1,a2,a3,a4⟩:=h1;have hin:=Kj hv a1;have h2:=mG (l:=l) (ord:=ay ord (road p a.1)) (mE hp hin) (λx hx=>hl x (by simp[hx]));generalize m.cm g (ay ord (road p a.1)) l=b at*;obtain⟨b1,b2,b3,b4,b5⟩:=h2;have Dv:=vq p a.1;refine⟨λx hx=>?_,?_,λh=>?_,?_,?_⟩
  ·rcases xao.1 hx with h|h
   ·exact hin x h
   exact b1 x h
  ·rw[cj];omega
  ·rw[cj]at h;have e:=a3 zO;rw[e,gC]at b3 h⊢;obtain⟨c1,c2⟩:=b3 h;refine⟨by rw[c1];rfl,λu hu=>?_⟩;rcases xak.1 hu with rfl|hu
   ·rw[hq,hr];exact e
   exact c2 u hu
  ·rw[xaz,xdz,xb4];show a.2+b.2<=_;omega
  rw[xaf,xaz,xdz,xb4];omega
def Rm.cM(m:Rm)(g:Nat)(ord:zL):List (zL)->zL×Nat
 | []=>([],0)
 |l::r=>let a:=m.cm g ord l;let b:=m.cM g (ay ord a.1) r;(a.1++b.1,a.2+b.2)
def Rm.rO(m:Rm)(g:Nat)(ord:zL):List (zL)->Prop
 | []=>False
 | [l]=>¬m.size (ay ord (m.cm g ord l).1)<m.size ord
 |l::r=>m.size (ay ord (m.cm g ord l).1)<m.size ord/\m.rO g (ay ord (m.cm g ord l).1) r
theorem qz{ord l:zL}{r:List (zL)}(hr:r≠[]):m.rO g ord (l::r)↔m.size (ay ord (m.cm g ord l).1)<m.size ord/\m.rO g (ay ord (m.cm g ord l).1) r:=by
 cases r with
 |nil=>exact absurd rfl hr
 |cons a b=>exact xcT
structure aaE(m:Rm)(g:Nat)(ord:zL)(ls:List (zL))(r:zL×Nat):Prop where
 mem:∀x∈r.1,x+1<m.n
 le:m.size (ay ord r.1)<=m.size ord
 Y9:1<=ls.length/\ls.length+m.size (ay ord r.1)<=m.size ord+1
 still:∀v,v<m.n->(m.su g (ay ord r.1) ((ay ord r.1).idxOf v)).1=(ay ord r.1).idxOf v
 pL:r.2<=3*(m.n-1)*m.n*ls.length
 len:r.1.length<=m.n*m.n*ls.length
theorem Ka:∀{ls:List (zL)} {ord:zL},ord.Perm (List.range m.n)->(∀l∈ls,l.Perm (List.range m.n))->m.rO g ord ls->aaE m g ord ls (m.cM g ord ls)
 | [],ord,hp,hl,hg=>hg.elim
 | [l],ord,hp,hl,hg=>by
  have Wr:=hl l zI;have nk:l.length=m.n:=by rw[Wr.length_eq,xaK]
  obtain⟨a1,a2,a3,a4,a5⟩:=mG (g:=g) hp (λv hv=>xaM.1 (Wr.mem_iff.1 hv)) (l:=l);have Yc:¬m.size (ay ord (m.cm g ord l).1)<m.size ord:=hg;have h:m.cM g ord [l]=((m.cm g ord l).1++[],(m.cm g ord l).2+0):=rfl;rw[h,xaL,xcu];have he:m.size (ay ord (m.cm g ord l).1)=m.size ord:=by omega
  obtain⟨c1,c2⟩:=a3 he;refine⟨a1,a2,⟨by simp,by simp;omega⟩,λv hv=>?_,by rw[nk]at a4;simpa using a4,by rw[nk]at a5;simpa using a5⟩;rw[c1];exact c2 v (Wr.mem_iff.2 (xaM.2 hv))
 |l::l2::r,ord,hp,hl,hg=>by
  have Wr:=hl l zI;have nk:l.length=m.n:=by rw[Wr.length_eq,xaK]
  obtain⟨a1,a2,a3,a4,a5⟩:=mG (g:=g) hp (λv hv=>xaM.1 (Wr.mem_iff.1 hv)) (l:=l);obtain⟨g1,g2⟩:=(qz zI).1 hg;have ih:=Ka (ls:=l2::r) (mE hp a1) (λx hx=>hl x (by simp[xak.1 hx])) g2;have h:m.cM g ord (l::l2::r)=((m.cm g ord l).1++(m.cM g (ay ord (m.cm g ord l).1) (l2::r)).1,(m.cm g ord l).2+(m.cM g (ay ord (m.cm g ord l).1) (l2::r)).2):=rfl;rw[h];generalize m.cm g ord l=a at*;generalize m.cM g (ay ord a.1) (l2::r)=b at*;obtain⟨b1,b2,b3,b4,b5,b6⟩:=ih;refine⟨λx hx=>?_,by rw[cj];omega,⟨by simp,?_⟩,?_,?_,?_⟩
  ·rcases xao.1 hx with h|h
   ·exact a1 x h
   exact b1 x h
  ·rw[cj,xaz];omega
  ·rw[cj];exact b4
  ·show a.2+b.2<=_;rw[nk]at a4;rw[xaz,xdz,xb4];omega
  rw[nk]at a5;rw[xaf,xaz,xdz,xb4];omega
theorem yK{v:Nat}:∀{l ord:zL},m.cm g ord (l++[v])=((m.cm g ord l).1++road ((ay ord (m.cm g ord l).1).idxOf v) (m.su g (ay ord (m.cm g ord l).1) ((ay ord (m.cm g ord l).1).idxOf v)).1,(m.cm g ord l).2+(m.su g (ay ord (m.cm g ord l).1) ((ay ord (m.cm g ord l).1).idxOf v)).2)
 | [],ord=>by simp[Rm.cm,ay]
 |u::l,ord=>by
  rw[xaQ,Rm.cm,Rm.cm];simp only;rw[yK (l:=l)];simp only[cj,xai,xcK]
theorem yL{l:zL}:∀{ls:List (zL)} {ord:zL},m.cM g ord (ls++[l])=((m.cM g ord ls).1++(m.cm g (ay ord (m.cM g ord ls).1) l).1,(m.cM g ord ls).2+(m.cm g (ay ord (m.cM g ord ls).1) l).2)
 | [],ord=>by simp[Rm.cM,ay]
 |u::ls,ord=>by
  rw[xaQ,Rm.cM,Rm.cM];simp only;rw[yL (ls:=ls)];simp only[cj,xai,xcK]
def Rm.sV(m:Rm)(g:Nat)(ord:zL):List (zL)->Prop
 | []=>True
 |l::r=>m.size (ay ord (m.cm g ord l).1)<m.size ord/\m.sV g (ay ord (m.cm g ord l).1) r
theorem tT{l:zL}:∀{ls:List (zL)} {ord:zL},m.sV g ord ls->m.size (ay (ay ord (m.cM g ord ls).1) (m.cm g (ay ord (m.cM g ord ls).1) l).1)<m.size (ay ord (m.cM g ord ls).1)->m.sV g ord (ls++[l])
 | [],ord,_,h=>⟨h,trivial⟩
 |u::ls,ord,h1,h=>by
  refine⟨h1.1,tT (ls:=ls) h1.2 ?_⟩;rw[Rm.cM]at h;simp only[cj]at h;exact h
theorem DL{l:zL}:∀{ls:List (zL)} {ord:zL},m.sV g ord ls->¬m.size (ay (ay ord (m.cM g ord ls).1) (m.cm g (ay ord (m.cM g ord ls).1) l).1)<m.size (ay ord (m.cM g ord ls).1)->m.rO g ord (ls++[l])
 | [],ord,_,h=>h
 |u::ls,ord,h1,h=>by
  rw[xaQ,qz zI];refine⟨h1.1,DL (ls:=ls) h1.2 ?_⟩;rw[Rm.cM]at h;simp only[cj]at h;exact h
structure T5(m:Rm)(g:Nat)(ord:zL)(ls:List (zL))(r:zL×Nat):Prop where
 mem:∀x∈r.1,x+1<m.n
 le:ls.length+m.size (ay ord r.1)<=m.size ord
 pL:r.2<=3*(m.n-1)*m.n*ls.length
 len:r.1.length<=m.n*m.n*ls.length
theorem zy:∀{ls:List (zL)} {ord:zL},ord.Perm (List.range m.n)->(∀l∈ls,l.Perm (List.range m.n))->m.sV g ord ls->T5 m g ord ls (m.cM g ord ls)
 | [],ord,hp,hl,hg=>⟨by simp[Rm.cM],by simp[Rm.cM,ay],by simp[Rm.cM],by simp[Rm.cM]⟩
 |l::r,ord,hp,hl,hg=>by
  have Wr:=hl l zI;have nk:l.length=m.n:=by rw[Wr.length_eq,xaK]
  obtain⟨a1,a2,a3,a4,a5⟩:=mG (g:=g) hp (λv hv=>xaM.1 (Wr.mem_iff.1 hv)) (l:=l);have ih:=zy (ls:=r) (mE hp a1) (λx hx=>hl x (by simp[hx])) hg.2;have hg1:=hg.1;rw[Rm.cM];generalize m.cm g ord l=a at*;generalize m.cM g (ay ord a.1) r=b at*;obtain⟨b1,b2,b3,b4⟩:=ih;rw[nk]at a4 a5;refine⟨λx hx=>?_,by rw[cj,xaz];omega,?_,?_⟩
  ·rcases xao.1 hx with h|h
   ·exact a1 x h
   exact b1 x h
  ·rw[xaz,xdz,xb4];show a.2+b.2<=_;omega
  rw[xaf,xaz,xdz,xb4];omega
end
end au
set_option maxRecDepth 100000
namespace Go.Proofs
open Go Go.Sx
section
open au
def ic(kp a b q gr sw:Nat)(la:Int)(st:zV):Array zV:=#[ptr kp,iv (a:Int),iv (b:Int),iv (q:Int),iv (gr:Int),iv (sw:Int),iv la,st]
def fw(wp:Nat)(c:Array zV):Nat×Obj:=(wp,.cells c 228 zZ)
def p8(bx wp:Nat):Nat×Obj:=(bx,.cells #[ptr wp] 225 zZ)
def stf(dn:Bool):Nat:=bif dn then 228 else 230
def BN(dn:Bool)(bx:Nat):zV:=.func (.func (stf dn)) #[] #[ptr bx]
def Ex:Hp->Nat
 |(_,.cells c _ _)::_=>bN c.toList 1
 |_=>0
section
variable {kp wp bx a b q gr sw p:Nat} {la:Int} {st:zV} {K:Kd} {S:Nat->au.Fn} {ord o tr:zL} {C:Hp} {dn:Bool}
theorem P1{l a':Nat}{d:Int}(h:At kp K S ord tr C)(hl:l+1<K.n)(fh:tr.length<17592186044416)(hf:jb K S ord l)(ha:(a:Int)+d=(a':Int))(hb:a'<1024)(zl:sw<4611686018427387904):
  Fc zQ 229 #[ptr wp,iv (l:Int),iv d] (fw wp (ic kp a b q gr sw la st)::C) (λv H=>v=iv 0/\∃C',H=fw wp (ic kp a' b q gr (sw+1) la st)::C'/\At kp K S (fK ord l) (tr++[l]) C'):=by
 refine aI λg=>xD (Ld.n ?_);refine aa.fq (uR h hl fh hf) ?_;rintro v C' ⟨rfl,h'⟩;intro J6 h6;refine ae.gJ (Br.T (Ld.n ?_));refine ae.inc (Nil.ptr (ai.mk (St.one (c':=ic kp a b q gr (sw+1) la st) (by exact .head _) rfl (by simp[ic]) rfl ?_)));refine Ld.n ?_;refine ae.Eo (c:=(a':Int)) ha zO (Nil.ptr (ai.mk (St.one (c':=ic kp a' b q gr (sw+1) la st) (by exact .head _) rfl (by simp[ic]) rfl ?_)));exact JE.mk (h6 _ λgs=>aN.here ⟨rfl,C',rfl,h'⟩)
theorem XH{l:Nat}{d:Int}(h:At kp K S ord tr C)(hl:l+1<K.n)(fh:tr.length<17592186044416)(hf:¬jb K S ord l):
  Rd zQ 229 #[ptr wp,iv (l:Int),iv d] (fw wp (ic kp a b q gr sw la st)::C) (· =iv 9):=by
 refine aI λg=>xD (Ld.n ?_);refine aa.eq (m7 h hl fh hf) λJ6 h6=>?_;exact ae.gJ (Br.F (JE.mk (h6 _ λgs=>bc.mk (.refl _) rfl)))
theorem sk(h:At kp K S ord tr C)(Uk:1<=K.n):
  Fc zQ 169 #[ptr wp,.bool dn] (fw wp (ic kp a b q gr sw la st)::C) (λv H=>v=.tuple #[]/\∃bx,H=fw wp (ic kp a b q gr sw (bif dn then((K.n-1:Nat):Int)else 0) (BN dn bx))::p8 bx wp::C):=by
 have hn:=h.lP;refine aI λg=>IP λb1 _=>?_;cases dn
 ·refine Br.no (Ld.q ?_);refine Nil.ptr (ai.mk (St.one (c':=ic kp a b q gr sw 0 st) (by exact .tail (.head _)) rfl (by simp[ic]) rfl ?_));refine Ld.q ?_;refine Nil.ptr (ai.mk (St.one (c':=ic kp a b q gr sw 0 (BN false b1)) (by exact .tail (.head _)) rfl (by simp[ic]) rfl ?_));exact aN.mk .swap ⟨rfl,b1,rfl⟩
 refine Br.yes (DR.self (Ld.q ?_));refine Ld.q ?_;refine Ld.n ?_;intro F;refine aa.eq (m6 h) (⟨.refl _,?_⟩);refine ae.ca (b:=1) (Nil.ptr (ai.mk λF=>(St.one (c':=ic kp a b q gr sw ((K.n-1:Nat):Int) st) (by exact .tail (.head _)) rfl (by simp[ic]) rfl ?_)));refine Ld.q ?_;refine Nil.ptr (ai.mk (St.one (c':=ic kp a b q gr sw ((K.n-1:Nat):Int) (BN true b1)) (by exact .tail (.head _)) rfl (by simp[ic]) rfl ?_));exact aN.mk .swap ⟨rfl,b1,rfl⟩
def mL(dn:Bool)(j:Nat):Nat:=bif dn then j+1 else j-1
def YQ(dn:Bool)(j:Nat):Nat:=bif dn then j else j-1
theorem Qy{j:Nat}(hs:bif dn then p<=j else 0<j/\j<=p):road p (mL dn j)=road p j++[YQ dn j]:=by
 cases dn
 ·simp only[xag]at hs;obtain⟨i,rfl⟩:∃i,j=i+1:=⟨j-1,by omega⟩;exact sC hs.2
 exact sB hs
theorem Ce{j:Nat}(h:At kp K S (ay o (road p j)) (tr++road p j) C)(hp:p<K.n)(hs:bif dn then p<=j/\j+1<K.n else 0<j/\j<=p)(fh:(tr++road p j).length<17592186044416)(hf:jb K S (ay o (road p j)) (YQ dn j))(zl:sw<4611686018427387904):
  Fc zQ (stf dn) #[ptr bx] (fw wp (ic kp j b q gr sw la st)::p8 bx wp::C) (λv H=>v=iv 0/\∃C',H=fw wp (ic kp (mL dn j) b q gr (sw+1) la st)::p8 bx wp::C'/\At kp K S (ay o (road p (mL dn j))) (tr++road p (mL dn j)) C'):=by
 have hn:=h.lP;have hr:=Qy (p:=p) (dn:=dn) (j:=j) (by cases dn<;>simp only[xag,xap]at hs⊢ <;>omega);intro g;rw[hr,gB,<-xai];cases dn
 ·simp only[xag]at hs;refine xC (R:=aN _) ?_;unfold L230;refine DR.self (Ld.q ?_);refine Ld.q ?_;refine Ld.n ?_;refine ae.ca (b:=1) λF=>?_;refine aa.pre .swap ?_;refine aa.fn (.cons .here) (P1 (a':=j-1) h zO fh hf zO zO zl) ?_;rintro v H ⟨rfl,C',rfl,h'⟩;exact aN.mk .swap ⟨rfl,C',rfl,h'⟩
 simp only[xap]at hs;refine xE (R:=aN _) ?_;unfold L228;refine DR.self (Ld.q ?_);refine Ld.q ?_;refine Ld.n ?_;intro F;refine aa.pre .swap ?_;refine aa.fn (.cons .here) (P1 (a':=j+1) h zO fh hf zO zO zl) ?_;rintro v H ⟨rfl,C',rfl,h'⟩;exact aN.mk .swap ⟨rfl,C',rfl,h'⟩
theorem U0{j:Nat}(h:At kp K S ord tr C)(hs:bif dn then j+1<K.n else 0<j/\j<K.n)(fh:tr.length<17592186044416)(hf:¬jb K S ord (YQ dn j)):
  Rd zQ (stf dn) #[ptr bx] (fw wp (ic kp j b q gr sw la st)::p8 bx wp::C) (· =iv 9):=by
 have hn:=h.lP;intro g;cases dn
 ·simp only[xag]at hs;refine xC (R:=aN _) ?_;unfold L230;refine DR.self (Ld.q ?_);refine Ld.q ?_;refine Ld.n ?_;refine ae.ca (b:=1) λF=>?_;refine aa.pre .swap ?_;exact aa.eq (XH h zO fh hf) (bc.mk .swap rfl)
 simp only[xap]at hs;refine xE (R:=aN _) ?_;unfold L228;refine DR.self (Ld.q ?_);refine Ld.q ?_;refine Ld.n ?_;intro F;refine aa.pre .swap ?_;exact aa.eq (XH h zO fh hf) (bc.mk .swap rfl)
theorem Cd(dn:Bool):aU zQ (stf dn)=true:=by cases dn<;>kernel_rfl
theorem qk{n j:Nat}(hn:n<=64)(hp:p<n)(hj:j<n):(road p j).length<=64:=by rw[vq];omega
theorem Qt(h0:At kp K S o tr C)(hp:p<K.n)(mz:100<=gr/\gr<=1000)(hb:b<=1048576)(zl:sw<1099511627776)(fh:tr.length<17454747090944)(hla:la=bif dn then((K.n-1:Nat):Int)else 0){r:Nat×Nat×Nat}(hr:(rm K S).ED gr o p dn ((rm K S).rest dn p) p b q=r):
  Fc zQ 170 #[ptr wp] (fw wp (ic kp p b q gr sw la (BN dn bx))::p8 bx wp::C) (λv H=>v=.tuple #[]/\∃C',H=fw wp (ic kp r.1 r.2.1 r.2.2 gr (sw+dst r.1 p) la (BN dn bx))::p8 bx wp::C'/\At kp K S (ay o (road p r.1)) (tr++road p r.1) C'):=by
 have hn:=h0.lP;refine aI λg=>IN ?_;refine⟨λvs H=>∃(k j b' q':Nat) (C':Hp),vs=[]/\H=fw wp (ic kp j b' q' gr (sw+dst j p) la (BN dn bx))::p8 bx wp::C'/\At kp K S (ay o (road p j)) (tr++road p j) C'/\k=(rm K S).rest dn j/\(bif dn then p<=j/\j<K.n else j<=p)/\b'<=1048576/\(rm K S).ED gr o p dn k j b' q'=r,
  λ_ H=>bif dn then K.n-Ex H else Ex H,JE.mk ⟨_,p,b,q,C,rfl,by simp[dst],by rw[gC,xaL];exact h0,rfl,by cases dn<;>simp[hp],hb,hr⟩,?_⟩
 rintro H ⟨k,j,b',q',C',_,rfl,hA,hk,hs,hb',uz⟩ gs;have Ul:j<K.n:=by cases dn<;>simp only[xag,xap]at hs<;>omega
 have Gc:dst j p<=64:=by unfold dst;omega
 have Dv:=qk hn hp Ul;have RF:(tr++road p j).length<17592186044416:=by rw[xaf];omega
 have wh:(rm K S).n=K.n:=rfl;have hsz:∀o:zL,(rm K S).size o=cG K S o:=λ_=>rfl;intro J5 h5;have fin:r=(j,b',q')->J5 [.bool false] (fw wp (ic kp j b' q' gr (sw+dst j p) la (BN dn bx))::p8 bx wp::C'):=λe=>h5 _ _ λgs=>Br.no (aN.here ⟨rfl,C',by rw[e],by rw[e];exact hA⟩);refine DR.self (Ld.n ?_);refine Ld.n ?_;refine ae.cD (Br.dec (λhne=>?_) (λheq=>?_));rotate_left
 ·have ZV:k=0:=by
   rw[hk];unfold Rm.rest;cases dn<;>simp only[xag,xap]at hla⊢ <;>omega
  subst ZV;exact JE.mk (fin uz.symm)
 have wm:bif dn then j+1<K.n else 0<j:=by
  cases dn<;>simp only[xag,xap]at hla⊢ <;>omega
 obtain⟨k',hk'⟩:∃k',k=k'+1:=by
  refine⟨k-1,?_⟩;rw[hk];unfold Rm.rest;cases dn<;>simp only[xag,xap]at wm⊢ <;>omega
 subst hk';rw[Rm.ED]at uz;change (if(rm K S).fit (ay o (road p j)) (YQ dn j)=true then _ else _)=r at uz;refine Ld.n ?_;intro F;refine aE.of (f:=stf dn) rfl (Cd dn) ?_;by_cases hf:jb K S (ay o (road p j)) (YQ dn j);rotate_left
 ·refine aa.eq (args:=#[ptr bx]) (U0 hA (by cases dn<;>simp only[xag,xap]at wm⊢ <;>omega) RF hf) (ae.gJ (aH.mk ?_));rw[xab (λh=>hf (qm.1 h))]at uz;exact JE.mk (fin uz.symm)
 refine aa.fn (args:=#[ptr bx]) .here (Ce hA hp (by cases dn<;>simp only[xag,xap]at wm hs⊢ <;>omega) RF hf zO) ?_;rintro v H ⟨rfl,C2,rfl,og⟩;refine ae.gJ (aH.mk ?_);rw[xad (show(rm K S).fit (ay o (road p j)) (YQ dn j)=true from qm.2 hf)]at uz;change (if(if(rm K S).size (ay o (road p (mL dn j)))<b' then(rm K S).size (ay o (road p (mL dn j)))else b')*gr<(rm K S).size (ay o (road p (mL dn j)))*100 then(mL dn j,if(rm K S).size (ay o (road p (mL dn j)))<b' then(rm K S).size (ay o (road p (mL dn j)))else b',if(rm K S).size (ay o (road p (mL dn j)))<b' then mL dn j else q')else(rm K S).ED gr o p dn k' (mL dn j) (if(rm K S).size (ay o (road p (mL dn j)))<b' then(rm K S).size (ay o (road p (mL dn j)))else b') (if(rm K S).size (ay o (road p (mL dn j)))<b' then mL dn j else q'))=r at uz;have hle:=gv og;rw[hsz]at uz;have aga:sw+dst j p+1=sw+dst (mL dn j) p:=by unfold dst mL;cases dn<;>simp only[xag,xap]at wm hs⊢ <;>omega
 rw[aga];have hnk:k'=(rm K S).rest dn (mL dn j):=by
  unfold Rm.rest at hk⊢;unfold mL;cases dn<;>simp only[xag,xap]at wm hk⊢ <;>omega
 have M4:bif dn then p<=mL dn j/\mL dn j<K.n else mL dn j<=p:=by
  unfold mL;cases dn<;>simp only[xag,xap]at wm hs⊢ <;>omega
 have hms:(bif dn then K.n-mL dn j else mL dn j)<(bif dn then K.n-j else j):=by
  unfold mL;cases dn<;>simp only[xag,xap]at wm⊢ <;>omega
 generalize hj':mL dn j=j' at*;generalize hs':cG K S (ay o (road p j'))=s at*;have acO:∀b2 q2,Ex (fw wp (ic kp j b' q' gr (sw+dst j p) la (BN dn bx))::p8 bx wp::C')=j/\∀C2,Ex (fw wp (ic kp j' b2 q2 gr (sw+dst j' p) la (BN dn bx))::p8 bx wp::C2)=j':=λb2 q2=>⟨by simp[Ex,fw,ic,bN],λC2=>by simp[Ex,fw,ic,bN]⟩;refine JE.mk (h5 _ _ λgs=>Br.yes ?_);refine Ld.n ?_;refine aa.eq (cF og) ?_;rw[hs'];intro J14 h14;have next:∀b2 q2,b2<=1048576->(if b2*gr<s*100 then(j',b2,q2)else(rm K S).ED gr o p dn k' j' b2 q2)=r->J14 [] (fw wp (ic kp j' b2 q2 gr (sw+dst j' p) la (BN dn bx))::p8 bx wp::C2):=by
  intro b2 q2 tN qP;refine h14 _ λgs=>?_;have xU:b2*gr<=1048576*1000:=xca tN mz.2;refine ae.x7 (b:=100) (Ld.n ?_);refine Ld.n ?_;refine ae.x7 (ae.nE (Br.dec (λhgt=>?_) (λhgt=>?_)))
  ·rw[xad hgt]at qP;subst qP;exact aN.here ⟨rfl,C2,rfl,og⟩
  rw[xab hgt]at qP;refine aC.mk ⟨k',j',b2,q2,C2,rfl,rfl,og,hnk,M4,tN,qP⟩ ?_;rw[(acO b2 q2).1,(acO b2 q2).2];exact hms
 refine Ld.n ?_;refine ae.fC (Br.dec (λhlt=>?_) (λhlt=>?_))
 ·rw[xad hlt,xad hlt]at uz;refine Ld.n ?_;refine Nil.ptr (ai.mk (St.one (c':=ic kp j' s q' gr (sw+dst j' p) la (BN dn bx)) (by exact .head _) rfl (by simp[ic]) rfl ?_));refine Nil.ptr (ai.mk (St.one (c':=ic kp j' s j' gr (sw+dst j' p) la (BN dn bx)) (by exact .head _) rfl (by simp[ic]) rfl ?_));exact JE.mk (next _ _ zO uz)
 rw[xab hlt,xab hlt]at uz;exact JE.mk (next _ _ hb' uz)
theorem AH{j t:Nat}(h:At kp K S (ay o (road p j)) (tr++road p j) C)(EF:o.length=K.n)(hp:p<K.n)(hjt:(p<=t/\t<=j/\j<K.n)\/(j<=t/\t<=p))(zl:sw<17592186044416)(fh:tr.length<17454747090944):
  Fc zQ 171 #[ptr wp,iv (t:Int)] (fw wp (ic kp j b q gr sw la st)::C) (λv H=>v=.tuple #[]/\∃C',H=fw wp (ic kp t b q gr (sw+dst j t) la st)::C'/\At kp K S (ay o (road p t)) (tr++road p t) C'):=by
 have hn:=h.lP;refine aI λg=>IM ?_;refine⟨λvs H=>∃(i:Nat) (C':Hp),vs=[]/\H=fw wp (ic kp i b q gr (sw+dst j i) la st)::C'/\At kp K S (ay o (road p i)) (tr++road p i) C'/\((p<=t/\t<=i/\i<=j/\j<K.n)\/(j<=i/\i<=t/\t<=p)),
  λ_ H=>dst (Ex H) t,JE.mk ⟨j,C,rfl,by simp[dst],h,by omega⟩,?_⟩
 rintro H ⟨i,C',_,rfl,hA,hs⟩ gs;have hin:i<K.n:=by omega
 have hdi:dst j i<=64:=by unfold dst;omega
 have Dv:=qk hn hp hin;have FY:∀i sw C',Ex (fw wp (ic kp i b q gr sw la st)::C')=i:=λi sw C'=>by simp[Ex,fw,ic,bN]
 refine Ld.n ?_;refine ae.x5 (Br.dec (λhne=>?_) (λheq=>?_));rotate_left
 ·obtain rfl:i=t:=by omega
  exact aN.here ⟨rfl,C',rfl,hA⟩
 refine Ld.n ?_;rcases hs with hs|hs
 ·obtain⟨i,rfl⟩:∃i',i=i'+1:=⟨i-1,by omega⟩;rw[sB zO,gB,<-xai]at hA;refine aa.fq (BC hA (by rw[sB zO,xaf,xb3]at Dv;rw[xaf];omega)) ?_;rintro w C2 ⟨rfl,og⟩;rw[qY (by rw[fR,EF];omega)]at og;refine Ext.two (Ld.n ?_);refine ae.inc (Nil.ptr (ai.mk (St.one (c':=ic kp (i+1) b q gr (sw+dst j (i+1)+1) la st) (by exact .head _) rfl (by simp[ic]) rfl ?_)));refine Ld.n ?_;refine ae.fC (Br.T (Nil.ptr (ai.mk (St.one (c':=ic kp i b q gr (sw+dst j (i+1)+1) la st) (by exact .head _) rfl (by simp[ic]) rfl ?_))));refine aC.mk ⟨i,C2,rfl,by rw[show sw+dst j (i+1)+1=sw+dst j i by unfold dst;omega];rfl,og,by omega⟩ ?_;show dst (Ex (fw wp (ic kp i b q gr (sw+dst j (i+1)+1) la st)::C2)) t<dst (Ex (fw wp (ic kp (i+1) b q gr (sw+dst j (i+1)) la st)::C')) t;rw[FY,FY];unfold dst;omega
 rw[sC zO,gB,<-xai]at hA;refine aa.fq (BC hA (by rw[sC zO,xaf,xb3]at Dv;rw[xaf];omega)) ?_;rintro w C2 ⟨rfl,og⟩;rw[qY (by rw[fR,EF];omega)]at og;refine Ext.two (Ld.n ?_);refine ae.inc (Nil.ptr (ai.mk (St.one (c':=ic kp i b q gr (sw+dst j i+1) la st) (by exact .head _) rfl (by simp[ic]) rfl ?_)));refine Ld.n ?_;refine ae.fC (Br.F (ae.inc (Nil.ptr (ai.mk (St.one (c':=ic kp (i+1) b q gr (sw+dst j i+1) la st) (by exact .head _) rfl (by simp[ic]) rfl ?_)))));refine aC.mk ⟨i+1,C2,rfl,by rw[show sw+dst j i+1=sw+dst j (i+1)by unfold dst;omega];rfl,og,by omega⟩ ?_;show dst (Ex (fw wp (ic kp (i+1) b q gr (sw+dst j i+1) la st)::C2)) t<dst (Ex (fw wp (ic kp i b q gr (sw+dst j i) la st)::C')) t;rw[FY,FY];unfold dst;omega
end
end
section
open au
section
variable {kp v gr:Nat} {K:Kd} {S:Nat->au.Fn} {ord tr:zL} {C:Hp}
theorem qe(kp:Nat){gr:Int}(C:Hp):Rd zQ 109 #[ptr kp,iv gr] C (· =iv (if gr<100\/1000<gr then 1 else 0)):=by
 refine aI λg=>JA (ae.aL (Br.no (ae.lss (cS.or (decide (1000<gr)) (λ_=>ae.gtr ⟨rfl,rfl⟩) rfl λgs=>?_))));by_cases h:gr<100\/1000<gr
 ·rw[xad h];refine Br.UE ?_ (bc.mk (.refl _) rfl);simpa using h
 rw[xab h];refine Br.no' ?_ (bc.mk (.refl _) rfl);simpa using h
theorem Y7(hp:ord.Perm (List.range K.n)){p:Nat}(Ui:p<K.n)(hv:ord.getD p 0=v):ord.idxOf v=p:=by
 have EF:ord.length=K.n:=by rw[hp.length_eq,xaK]
 have fD:ord.Nodup:=hp.nodup_iff.2 xbl;have hm:v∈ord:=by
  rw[<-hv,xaq,xaa zO];exact xaH _
 have h1:=xeg hm;refine getD_inj fD h1 zO ?_;rw[hv,xaq,xaa h1];exact List.getElem_idxOf h1
theorem U9(h:At kp K S ord tr C)(hp:ord.Perm (List.range K.n))(hv:v<K.n)(mz:100<=gr/\gr<=1000)(fh:tr.length<17454747090944){r:Nat×Nat}(hr:(rm K S).su gr ord (ord.idxOf v)=r):
  Fc zQ 111 #[ptr kp,iv (v:Int),iv (gr:Int)] C (λw H=>w=.tuple #[rep (cG K S ord) (cG K S (ay ord (road (ord.idxOf v) r.1))) r.2,iv 0]/\At kp K S (ay ord (road (ord.idxOf v) r.1)) (tr++road (ord.idxOf v) r.1) H):=by
 have hn:=h.lP;have EF:ord.length=K.n:=by rw[hp.length_eq,xaK]
 have hsz:=gv h;have wh:(rm K S).n=K.n:=rfl;refine aI λg=>Jy λb1 _=>?_;refine aa.eq (qe kp (gr:=(gr:Int)) C) ?_;rw[xab zO];refine ae.cD (Br.F (aa.rq (Eh h hv) ?_));rintro w ⟨p,Ui,ZI,rfl⟩;have ZK:=Y7 hp Ui ZI;rw[ZK]at hr⊢;have alQ:p<(rm K S).n:=Ui;refine Ext.two (ae.cD (Br.F (aa.eq (cF h) (Build.mk (cs:=[iv ((cG K S ord:Nat):Int),iv 0,iv 0,.bool false]) zK λxd _=>?_))));refine St.q ?_;refine Ld.f ?_;refine Build.mk (cs:=[ptr kp,iv (p:Int),iv ((cG K S ord:Nat):Int),iv (p:Int),iv (gr:Int),iv 0,iv 0,.nilFunc]) zK λwp _=>?_;refine aa.eq (m6 h) (ae.ca (b:=1) (ae.ca (ae.BP ?_)));obtain⟨X,hX⟩:∃X:Hp,X=[(xd,Obj.cells (List.toArray [iv ((cG K S ord:Nat):Int),iv 0,iv 0,.bool false]) 97 zZ),(b1,Obj.cells #[iv 0,iv 0,iv 0,.bool false] 97 zZ)]:=⟨_,rfl⟩;unfold Rm.su at hr;simp only[wh]at hr;rw[show(rm K S).size ord=cG K S ord from rfl]at hr;generalize hdn:decide (K.n-1-p<=p)=dn at*;have ahT:∀x:Nat×Obj,aM (x::(xd,Obj.cells (List.toArray [iv ((cG K S ord:Nat):Int),iv 0,iv 0,.bool false]) 97 zZ)::(b1,Obj.cells #[iv 0,iv 0,iv 0,.bool false] 97 zZ)::C) (X++(x::C)):=λx=>.perm (by rw[hX];exact(xaU (l₁:=[_,_])).symm);refine aa.pre (ahT _) ?_;refine aa.fq (sk (wp:=wp) (a:=p) (b:=cG K S ord) (q:=p) (gr:=gr) (sw:=0) (la:=0) (st:=.nilFunc) (dn:=dn) h zO) ?_;rintro w H ⟨rfl,bx,rfl⟩;refine aa.fn (.app .here) (Qt h Ui mz zO zO fh rfl rfl) ?_;rintro w H ⟨rfl,C1,rfl,WR⟩;have DB:=(rm K S).vY gr ord p dn ((rm K S).rest dn p) p (cG K S ord) p (λh=>by unfold Rm.rest;rw[h];exact xaj _) (by rw[gC];rfl);generalize (rm K S).ED gr ord p dn ((rm K S).rest dn p) p (cG K S ord) p=a at*;have qP:=(rm K S).vY gr ord p (!dn) ((rm K S).rest (!dn) p) p a.2.1 a.2.2 (λh=>by unfold Rm.rest;rw[h];exact xaj _) DB.size;obtain⟨a1,a2,a3,a4⟩:=DB;unfold Rm.rest at a1;rw[wh]at a1;have Ge:a.1<K.n/\((p<=a.1)\/(a.1<=p)):=by cases dn<;>simp only[xag,xap]at a1<;>omega
 have hab:a.2.1<=1048576:=by
  have:a.2.1<=cG K S ord:=by omega
  omega
 have Pr:dst a.1 p<=64:=by unfold dst;omega
 refine aa.pre (aM.de (.cons .tail) X) ?_;refine aa.fn (.app .here) (AH (t:=p) WR EF Ui zO zO fh) ?_;rintro w H ⟨rfl,C2,rfl,og⟩;rw[gC,xaL]at og;have og:At kp K S ord tr C2:=og;refine Ld.n ?_;refine Un.not (aa.fq (sk (dn:= !dn) og zO) ?_);rintro w H ⟨rfl,bx2,rfl⟩;refine aa.fn (.app .here) (Qt og Ui mz hab zO fh rfl rfl) ?_;rintro w H ⟨rfl,C3,rfl,EI⟩;generalize (rm K S).ED gr ord p (!dn) ((rm K S).rest (!dn) p) p a.2.1 a.2.2=b at*;obtain⟨e1,e2,e3,e4⟩:=qP;unfold Rm.rest at e1;rw[wh]at e1;have zm:bif dn then p<=a.2.2/\a.2.2<=a.1 else a.1<=a.2.2/\a.2.2<=p:=by
  cases dn<;>simp only[xag,xap]at a3 a1⊢ <;>omega
 have hb1:b.1<K.n/\((p<=b.1)\/(b.1<=p)):=by cases dn<;>simp only[xag,xap,xcq,xcw]at e1<;>omega
 have ye:dst b.1 p<=64:=by unfold dst;omega
 intro J47 h47;have fin:∀(bb:Nat) (FL:Int) (st':zV) (Cf:Hp),At kp K S (ay ord (road p r.1)) (tr++road p r.1) Cf->J47 [] (X++(fw wp (ic kp r.1 bb r.1 gr r.2 FL st')::Cf)):=by
  intro bb FL st' Cf hAf;rw[hX];refine h47 _ λgs=>?_;refine DR.of (R:=[fw wp (ic kp r.1 bb r.1 gr r.2 FL st')]) (aM.Zj (.tail _ (.tail _ (.head _)))) (Ld.n ?_);intro F;refine aa.eq (cF hAf) (⟨aM.Zj (.tail _ (.tail _ (.head _))),?_⟩);refine ai.mk λF=>(St.one (c':=#[iv ((cG K S ord:Nat):Int),iv ((cG K S (ay ord (road p r.1)):Nat):Int),iv 0,.bool false]) (by exact .head _) rfl zI rfl ?_);refine⟨aM.Zj (.tail _ (.tail _ (.head _))),?_⟩;refine ai.mk λF=>(St.one (c':=#[iv ((cG K S ord:Nat):Int),iv ((cG K S (ay ord (road p r.1)):Nat):Int),iv ((r.2:Nat):Int),.bool false]) (by exact .head _) rfl zI rfl ?_);refine az.q ?_;refine St.q ?_;refine az.q ?_;exact aN.mk (.skip (.skip .tail)) ⟨rfl,hAf⟩
 refine Ld.n ?_;refine ae.x5 (Br.dec (λhne=>?_) (λheq=>?_))
 ·-- the other way is better
  rw[xad hne]at hr;refine Ld.n ?_;refine aa.pre (aM.de (.cons .tail) X) ?_;have hbt:(p<=b.2.2/\b.2.2<=b.1/\b.1<K.n)\/(b.1<=b.2.2/\b.2.2<=p):=by
   cases dn<;>simp only[xag,xap,xcq,xcw]at e3 e1<;>omega
  refine aa.fn (.app .here) (AH (t:=b.2.2) EI EF Ui hbt zO fh) ?_;rintro w H ⟨rfl,C4,rfl,hA4⟩;subst hr;refine JE.mk ?_;rw[xa5];exact fin b.2.1 _ _ C4 hA4
 -- back again
 have heq:b.2.2=a.2.2:=xek.1 heq;rw[xab (λh=>h heq)]at hr;refine aa.pre (aM.de (.cons .tail) X) ?_;refine aa.fn (.app .here) (AH (t:=p) EI EF Ui zO zO fh) ?_;rintro w H ⟨rfl,C4,rfl,hA4⟩;rw[gC,xaL]at hA4;have hA4:At kp K S ord tr C4:=hA4;refine aa.fq (sk (dn:=dn) hA4 zO) ?_;rintro w H ⟨rfl,Tn,rfl⟩;obtain⟨s3,hs3⟩:∃s3,s3=0+dst a.1 p+dst a.1 p+dst b.1 p+dst b.1 p:=⟨_,rfl⟩;rw[<-hs3];obtain⟨XS,agB⟩:∃XS,XS=(bif dn then((K.n-1:Nat):Int)else 0):=⟨_,rfl⟩;rw[<-agB];refine⟨λvs H=>∃(i:Nat) (C':Hp),vs=[]/\H=fw wp (ic kp i b.2.1 b.2.2 gr (s3+dst p i) XS (BN dn Tn))::p8 Tn wp::(X++C')/\At kp K S (ay ord (road p i)) (tr++road p i) C'/\(bif dn then p<=i/\i<=b.2.2 else b.2.2<=i/\i<=p),
  λ_ H=>dst (Ex H) b.2.2,JE.of (H':=fw wp (ic kp p b.2.1 b.2.2 gr s3 XS (BN dn Tn))::p8 Tn wp::(X++C4)) (.perm ?_) ⟨p,C4,rfl,by simp[dst],by rw[gC,xaL];exact hA4,?_⟩,?_⟩
 ·exact(xaU (l₁:=X)).trans (List.Perm.cons _ xaU)
 ·rw[heq];cases dn<;>simp only[xag,xap]at zm⊢ <;>omega
 rintro H ⟨i,C5,_,rfl,hA5,hi⟩ gs;rw[heq]at hi;have hin:i<K.n:=by cases dn<;>simp only[xag,xap]at hi zm<;>omega
 have hdi:dst p i<=64:=by unfold dst;omega
 have Dv:=qk hn Ui hin;intro J83 h83;refine DR.self (Ld.n ?_);refine Ld.n ?_;refine ae.x5 (Br.dec (λhne=>?_) (λhie=>?_))
 ·refine Ld.n ?_;intro F;refine aE.of (f:=stf dn) rfl (Cd dn) ?_;have RM:aM (fw wp (ic kp i b.2.1 b.2.2 gr (s3+dst p i) XS (BN dn Tn))::p8 Tn wp::(X++C5)) (X++(fw wp (ic kp i b.2.1 b.2.2 gr (s3+dst p i) XS (BN dn Tn))::p8 Tn wp::C5)):=
   .perm ((xaU (l₁:=X)).trans (List.Perm.cons _ xaU)).symm
  refine aa.pre RM ?_;have hstep:bif dn then p<=i/\i+1<K.n else 0<i/\i<=p:=by
   rw[heq]at hne;cases dn<;>simp only[xag,xap]at hi zm⊢ <;>omega
  have hfit:jb K S (ay ord (road p i)) (YQ dn i):=by
   refine qm.1 (a4 i ?_);rw[heq]at hne;cases dn<;>simp only[xag,xap]at hi zm⊢ <;>omega
  refine aa.fn (args:=#[ptr Tn]) (.app .here) (Ce hA5 Ui hstep (by rw[xaf];omega) hfit zO) ?_;rintro w H ⟨rfl,C6,rfl,hA6⟩;refine ae.gJ (aH.mk ?_);have EG:s3+dst p i+1=s3+dst p (mL dn i):=by unfold dst mL;cases dn<;>simp only[xag,xap]at hstep⊢ <;>omega
  rw[EG];refine JE.of (.perm ((xaU (l₁:=X)).trans (List.Perm.cons _ xaU))) (h83 _ _ λgs=>Br.yes ?_);refine aC.mk ⟨mL dn i,C6,rfl,rfl,hA6,?_⟩ ?_
  ·rw[heq]at hne⊢;unfold mL;cases dn<;>simp only[xag,xap]at hi hstep⊢ <;>omega
  have FY:∀i sw C',Ex (fw wp (ic kp i b.2.1 b.2.2 gr sw XS (BN dn Tn))::C')=i:=λi sw C'=>by simp[Ex,fw,ic,bN]
  rw[FY,FY,heq];rw[heq]at hne;unfold mL dst;cases dn<;>simp only[xag,xap]at hi hstep⊢ <;>omega
 have hie:i=b.2.2:=xek.1 hie;subst hie;subst hr;refine JE.mk (h83 _ _ λgs=>Br.no ?_);refine JE.of ?_ (fin b.2.1 XS (BN dn Tn) C5 hA5);refine(aM.cons .tail).trans ?_;refine(aM.perm (xaU (l₁:=X)).symm).trans ?_;have e:s3+dst p b.2.2=dst a.1 p+dst a.1 p+dst b.1 p+(dst b.1 p+dst p b.2.2):=by omega
 rw[e];exact .refl _
end
end
section
theorem Qa{n A:Nat}{L:List (zL)}(hn:n<=16)(hl:L.length<33554432){k:Nat}(hk:k<=n):(ak.st n L A k).length<2199023255551:=by
 have h2:=ak.sn n L A k;have h3:2^k<=2^16:=xax zD zO;have h4:2^k*L.length<=2^16*L.length:=xaX _ h3;omega
theorem SS{B:Hp}{v1 v2:zV}{a b:zL}(h1:Words B v1 a)(h2:Words B v2 b)(cI:a.length<2^62):Rd zQ 270 #[v1,v2] B (· =.bool (decide (a=b))):=by
 refine aI λg=>G6 (h1.1.bV (h2.1.bV ?_));simp only[aq];refine ae.x5 (Br.dec (λh=>?_) (λh=>?_))
 ·exact bc.mk (.refl _) (by rw[xal (λe=>h (by rw[e]))])
 refine h1.1.bV ?_;simp only[aq];have hlen:a.length=b.length:=by omega
 refine⟨λvs H=>H=B/\∃j:Nat,vs=[iv (j:Int)]/\j<=a.length/\∀i,i<j->a[i]? =b[i]?,λvs _=>a.length-bN vs 0,JE.mk ⟨rfl,0,rfl,by omega,by omega⟩,?_⟩;rintro w H ⟨rfl,j,⟨⟩,hj,aJ⟩ gs;refine ae.fC (Br.dec (λhlt=>?_) (λhlt=>?_))
 ·have ga:a[j]? =some a[j]:=xaa hlt;have gb:b[j]? =some b[j]:=xaa zO;refine h1.1.ld (dg ga) (λ_ h=>h) ?_;refine h2.1.ld (dg gb) (λ_ h=>h) ?_;refine ae.x5 (Br.dec (λhne=>?_) (λhne=>?_))
  ·exact bc.mk (.refl _) (by rw[xal];rintro rfl;exact hne rfl)
  refine ae.inc (aC.mk ⟨rfl,j+1,rfl,by omega,λi hi=>?_⟩ (by simp[bN];omega));by_cases e:i=j
  ·subst e;rw[ga,gb];simp;omega
  exact aJ i zO
 refine bc.mk (.refl _) ?_;rw[xam];apply xbd ;intro i;by_cases hi:i<a.length
 ·exact aJ i zO
 rw[xaC zO,xaC zO]
theorem Q8{B:Hp}{v:zV}{n u A:Nat}{L:List (zL)}(ht:jG B v (L.map λws=>⟨n,ws⟩))(hf:∀ws∈L,ak.eV n ws)(hne:L≠[])(cI:L.length<4398046511104)(hA:A<2^n)(hu:u<n)(hAu:A.testBit u=false):
  Rd zQ 242 #[v,.int .u64 (A:Int),iv (u:Int)] B (· =.tuple #[iv ((ak.lvl n L A u:Nat):Int),iv 0]):=by
 obtain⟨w0,Uh⟩:∃w0,L[0]? =some w0:=⟨_,xaa (xdb.2 hne)⟩;have wj:n<=16:=(hf w0 (xav Uh)).x6;have amC:A<65536:=xaP hA (xax (n:=2) zD wj);refine aI λg=>HD (aa.eq (vp ht zP) ?_);rw[xam (CV hf)];refine Un.not (Br.no λJ hJ=>(ht.bV ?_));rw[xaE];have hpos:0<L.length:=xdb.2 hne;refine ae.nE (b:=0) (Br.ad8 hpos (ht.ldN (i:=0) (t:=⟨n,w0⟩) (by rw[xat,Uh];rfl) (λ_ h=>h) ?_));refine JE.mk (hJ _ _ λgs=>?_);simp only;refine ae.lss (cS.or (decide (n<=u)) (λ_=>?_) rfl λgs=>?_)
 ·exact ae.tS ⟨by trivial,rfl⟩
 rw[show(decide ((u:Int)<0)||decide (n<=u))=false by simp;omega];refine cS.or (decide (A>>>n≠0)) (λ_=>?_) rfl λgs=>?_
 ·exact ae.iK (by simp[bG];omega) (ae.x5 (b:=0) ⟨by trivial,rfl⟩)
 rw[show(false||decide (A>>>n≠0))=false by rw[xa0,xdr hA];rfl];apply Br.no;have acz:∀k,A>>>k<18446744073709551616:=λk=>xaA (xbm _ _) zO;refine ae.iK (by simp[bG];omega) (ae.jE (b:=1) (by simpa[bG]using acz u) zD (ae.dx (b:=1) (Br.S8 (by rw[ak.uQ,hAu];simp) (aa.fq (MH ht rfl hf zO) ?_))));rintro r H ⟨b,es,ck,m,N,rfl,rfl,hE,hm⟩;have hbound:∀k,k<=n->∀m:List (List UInt8×zL),(m.map Prod.snd).Nodup->(∀x,x∈m.map Prod.snd↔x∈ak.st n L A k)->m.length<4611686018427387904:=by
  intro k hk m fD hmem;have h1:=(ak.jw fD (ak.nO n L A k) hmem).length_eq;have h2:=ak.sn n L A k;have h3:2^k<=2^16:=xax zD zO;have h4:2^k*L.length<=2^16*L.length:=xaX _ h3;rw[xaE]at h1;omega
 refine⟨λvs H=>∃(k:Nat) (b:Nat) (es:Array MapEntry) (ck:Nat) (m:List (List UInt8×zL)) (N:Hp),vs=[.map (some b),iv (k:Int)]/\k<=n/\H=(b,.map es ck)::(N++B)/\gG n (N++B) es ck m/\∀x,x∈m.map Prod.snd↔x∈ak.st n L A k,
  λvs _=>n-bN vs 1,JE.mk ⟨0,b,es,ck,m,N,rfl,by omega,rfl,hE,λx=>by rw[hm];exact ak.gu.symm⟩,?_⟩
 clear hm hE;rintro w25 w26 H ⟨k,b,es,ck,m,N,⟨⟩,hk,rfl,hE,hm⟩ gs;have sS:=hE.mono (B':=(b,Obj.map es ck)::(N++B)) zS;refine ae.fC (Br.dec (λhlt=>?_) (λhlt=>?_))
 ·intro J hJ;refine ae.iK (by simp[bG];omega) (ae.jE (b:=1) (by simpa[bG]using acz k) zD (ae.dx (b:=1) (Br.dec (λh=>?_) (λh=>?_))))
  ·have hb:=(ak.uQ A k).1 h;refine aa.fq (DK (.head _) sS hlt (hbound k hk m hE.nodup hm)) ?_;rintro r H ⟨b',es',bB,m',N',rfl,rfl,DF,hm'⟩;refine Ext.mk rfl (Ext.mk rfl (JE.mk (hJ _ _ λgs=>?_)));refine ae.inc (aC.mk ⟨k+1,b',es',bB,m',N'++(b,.map es ck)::N,rfl,by omega,by rw[xai];rfl,by rw[xai];exact DF,λx=>?_⟩ (by simp[bN];omega));rw[hm',ak.st,xad hb,ak.cg];constructor
   ·rintro⟨t,h1,h2⟩;exact⟨t,(hm t).1 h1,h2⟩
   rintro⟨t,h1,h2⟩;exact⟨t,(hm t).2 h1,h2⟩
  have hb:A.testBit k=false:=by cases hh:A.testBit k;rfl;exact absurd ((ak.uQ A k).2 hh) h
  refine JE.mk (hJ _ _ λgs=>?_);refine ae.inc (aC.mk ⟨k+1,b,es,ck,m,N,rfl,by omega,rfl,hE,λx=>?_⟩ (by simp[bN];omega));rw[hm,ak.st,hb];simp
 have:k=n:=by omega
 subst this;refine aa.fq (DK (.head _) sS hu (hbound k hk m hE.nodup hm)) ?_;rintro r H ⟨b',es',bB,m',N',rfl,rfl,DF,hm'⟩;refine Ext.mk rfl (Ext.mk rfl (bc.mk ?_ ?_))
 ·exact .skip (.eY (.skip .right))
 have:=ak.mM (n:=k) (v:=u) (ak.jw hE.nodup (ak.nO k L A k) hm);unfold ak.lvl;rw[<-this];rfl
theorem uZ{B:Hp}{v:zV}{t:Tb}(ht:EN B v t):Rd zQ 241 #[v] B (· =.tuple (if TF t then#[.int .u64 ((ak.p9 t.n.toNat t.ws:Nat):Int),iv 0]else#[.int .u64 0,iv 5])):=by
 obtain⟨tn,ws⟩:=t;obtain⟨s,rfl,hw⟩:=ht;simp only at hw⊢;refine aI λg=>HE λb1 _=>?_;refine az.q ?_;refine wX λb2=>?_;refine aa.rd .here (wD (t:=⟨tn,ws⟩) (by exact .head _) (hw.mono zS)) ?_;rintro v rfl;apply Un.not;by_cases hT:TF ⟨tn,ws⟩
 case neg=>
  rw[xal hT,xab hT];exact Br.yes (bc.mk (by repeat (first|exact aM.refl _|apply aM.cons|apply aM.skip|apply aM.de|apply aM.eY)) rfl)
 rw[xam hT,xad hT];apply Br.no;obtain⟨n,rfl⟩:∃n:Nat,tn=n:=⟨tn.toNat,by have:=hT.1;simp only at this;omega⟩;have hf:ak.eV n ws:=by have:=hT.2;simpa using this
 refine ai.mk (Ld.mk zM rfl ?_);refine⟨λvs H=>∃(k:Nat) (N:Hp),vs=[.int .u64 ((ak.lp n ws k:Nat):Int),iv (k:Int)]/\k<=n/\H=(b1,.cells (Value.cells (.agg #[iv (n:Int),s])) 175 zZ)::(N++B),
  λvs _=>n-bN vs 1,JE.of .tail ⟨0,[],rfl,by omega,rfl⟩,?_⟩
 rintro w15 w16 H ⟨k,N,⟨⟩,hk,rfl⟩ gs;have wj:=hf.x6;have X3:=ak.nN n ws k;have ali:ak.lp n ws k<65536:=xaP X3 (xax (n:=2) zD (by omega:k<=16));refine ae.fC (Br.dec (λhlt=>?_) (λhlt=>?_))
 ·intro J hJ;refine DR.self (az.q (az.q ?_));refine aa.pq (B:=N++B) (Bk (v:=.agg (List.toArray [iv (n:Int),s])) ⟨s,rfl,hw.mono zS⟩ hf hlt) ?_;rintro v N1 ⟨s1,rfl,nJ⟩;refine⟨.cons .right,Az.mk rfl ?_⟩;refine aa.pq (B:=N1++(N++B)) (Bk (v:=.agg (List.toArray [iv (n:Int),s])) ⟨s,rfl,hw.mono zS⟩ hf hlt) ?_;rintro v N2 ⟨s2,rfl,we⟩;refine⟨.cons (.eY .right),Az.mk rfl ?_⟩;refine aa.eq (B:=N2++(N1++(N++B))) (SS (nJ.mono zS) we (by have:=uM (ak.eB (v:=k) (ws:=ws) (b:=false) hf.x6);simp only;omega)) (⟨.cons (.eY .right),Un.not ?_⟩);have ig:JE J [.int .u64 ((ak.lp n ws (k+1):Nat):Int)] ((b1,.cells (Value.cells (.agg #[iv (n:Int),s])) 175 zZ)::(N2++(N1++(N++B)))):=by
   refine JE.mk (hJ _ _ λgs=>?_);exact ae.inc (aC.mk ⟨k+1,N2++(N1++N),rfl,by omega,by rw[xai,xai]⟩ (by simp[bN];omega))
  rw[ak.lp]at ig;by_cases hd:ak.dep n ws k=true
  ·rw[xad hd]at ig;have:ak.iI n ws k false≠ak.iI n ws k true:=by simpa[ak.dep]using hd
   rw[xal this];refine Br.yes (ae.nR (a:=1) ?_);have h2:2^k<65536:=xaP (xbx (n:=16) zD zO) zD;rw[xa6,xbk zO];exact ae.Kq (by simp[bG];omega) (by simp[bG];omega) ig
  rw[xab hd]at ig;have:ak.iI n ws k false=ak.iI n ws k true:=by simpa[ak.dep]using hd
  rw[xam this];exact Br.no ig
 have:k=n:=by omega
 subst this;refine bc.mk (.skip .right) ?_;simp[ak.p9]
theorem QO{B:Hp}{v:zV}{ts:List Tb}(ht:jG B v ts)(cI:ts.length<4398046511104):Px zQ 240 #[v] B (λr _=>∃s,r=.tuple #[s,iv (if r5 ts then 0 else 5)]):=by
 refine aI λg=>HG (aa.eq (vp ht zO) (Un.not ?_));by_cases hO:r5 ts
 case neg=>rw[xal hO,xab hO];exact Br.yes (GN.mk (.refl _) ⟨_,rfl⟩)
 rw[xam hO,xad hO];refine Br.no (ht.bV (ae.dx (b:=0) (Br.dec (λh0=>GN.mk (.refl _) ⟨_,rfl⟩) (λh0=>?_))));obtain⟨n,L,wj,rfl,hne,hf⟩:=Ks hO (by intro e;rw[e]at h0;exact h0 rfl);rw[xaE]at cI;obtain⟨w0,Uh⟩:∃w0,L[0]? =some w0:=⟨_,xaa (xdb.2 hne)⟩;refine ht.ldN (i:=0) (t:=⟨n,w0⟩) (by rw[xat,Uh];rfl) (λ_ h=>h) ?_;simp only;refine cU.ints zO zO λbw=>?_;refine ht.bV ?_;refine⟨λvs H=>∃(k:Nat) (l:zL),vs=[iv (k:Int)]/\k<=L.length/\H=(bw,.cells (aA .u64 (iw l)) 33 zZ)::B/\l.length=n/\∀w∈l,w<18446744073709551616,
  λvs _=>L.length-bN vs 0,JE.mk ⟨0,List.replicate n 0,rfl,by omega,by simp[iw],by simp,λw hw=>by rw[xb0 hw];decide⟩,?_⟩
 rintro w H ⟨k,l,⟨⟩,hk,rfl,hl,X9⟩ gs;rw[xaE];refine ae.fC (Br.dec (λhlt=>?_) (λhlt=>?_))
 ·have hg:(L.map λws=>(⟨n,ws⟩:Tb))[k]? =some ⟨n,L[k]⟩:=by rw[xat,xaa hlt];rfl
  have pD:=hf L[k] (xaH hlt);refine ht.ld hg zS λs hw=>?_;intro b2 _;refine St.p ?_ ?_
  ·have:=bQ hw;simpa[Value.oneCell']using this
  refine az.q ?_;refine aa.eq (B:=B) (uZ (v:=.agg (List.toArray [iv (n:Int),s])) (t:=⟨n,L[k]⟩) ⟨s,rfl,hw⟩) ?_;rw[xad (show TF ⟨(n:Int),L[k]⟩from⟨by simp,by simpa using pD⟩)];refine Ext.mk rfl (Ext.mk rfl (aR.mk ?_));simp only[xbe];have acw:ak.p9 n L[k]<65536:=xaP (ak.nN n L[k] n) (xax (n:=2) zD wj);refine⟨λvs H=>∃(j:Nat) (l:zL),vs=[iv (j:Int)]/\j<=n/\H=(bw,.cells (aA .u64 (iw l)) 33 zZ)::B/\l.length=n/\∀w∈l,w<18446744073709551616,
   λvs _=>n-bN vs 0,JE.of .tail ⟨0,l,rfl,by omega,rfl,hl,X9⟩,?_⟩
  rintro w H ⟨j,l,⟨⟩,hj,rfl,hl,X9⟩ gs;refine ae.fC (Br.dec (λYa=>?_) (λYa=>?_))
  ·intro J hJ;have ig:∀l:zL,l.length=n->(∀w∈l,w<18446744073709551616)->JE J [] ((bw,.cells (aA .u64 (iw l)) 33 zZ)::B):=λl hl X9=>by
    refine JE.mk (hJ _ λgs=>?_);exact ae.inc (aC.mk ⟨j+1,l,rfl,by omega,rfl,hl,X9⟩ (by simp[bN];omega))
   have hsh:ak.p9 n L[k]>>>j<65536:=xaA (xbm _ _) acw;refine ae.iK (by simp[bG];omega) (ae.jE (b:=1) (by simp[bG];omega) zD (ae.dx (b:=1) (Br.dec (λh=>?_) (λh=>ig l hl X9))));refine DR.self ?_;have hgj:l[j]? =some l[j]:=xaa zO;have hlj:=X9 _ (xaH (show j<l.length by omega));refine av.nat Ya ?_;refine Ld.mk (v:=.int .u64 (l[j]:Int)) (by exact .head _) (by simp[aA,iw,hgj]) ?_;refine ae.nR (a:=1) ?_;have h2:2^j<65536:=xaP (xbx (n:=16) zD zO) zD;rw[xa6,xbk zO];refine ae.Ej (by simp[bG];omega) (by simp[bG];omega) ?_;have h3:=m9 (ak.p9 n L[k]) (2^j);refine ae.Kq (by simp only[bG];exact hlj) (by simp only[bG];omega) (av.nat Ya ?_);refine St.ints (l:=iw l) (by exact .head _) zP ?_;have e:(iw l).set j ((l[j]|||nf (ak.p9 n L[k]) (2^j):Nat):Int)=iw (l.set j (l[j]|||nf (ak.p9 n L[k]) (2^j))):=by simp[iw,xcQ]
   rw[e];refine ig _ (by simp[hl]) λw hw=>?_;rcases xcf hw with hw|rfl
   ·exact X9 w hw
   exact xbH (n:=64) hlj zO
  exact ae.inc (aC.mk ⟨k+1,l,rfl,by omega,rfl,hl,X9⟩ (by simp[bN];omega))
 exact GN.mk (by repeat (first|exact bY.refl _|apply bY.cons|apply bY.app)) ⟨_,rfl⟩
end
end Go.Proofs
namespace ak
open Go.Sx
def gD:zL->Nat
 | []=>0
 |x::r=>r.foldl min x
theorem rQ:∀(r:zL) (x:Nat),r.foldl min x<=x/\∀y∈r,r.foldl min x<=y
 | [],x=>⟨xaj _,by simp⟩
 |z::r,x=>by
  obtain⟨h1,h2⟩:=rQ r (min x z);refine⟨by rw[xcF];omega,λy hy=>?_⟩;rw[xcF];rcases xak.1 hy with rfl|hy
  ·omega
  exact h2 y hy
theorem pS:∀(r:zL) (x:Nat),r.foldl min x=x\/r.foldl min x∈r
 | [],x=>.inl rfl
 |z::r,x=>by
  rw[xcF];rcases pS r (min x z)with h|h
  ·rw[h];rcases Nat.le_total x z with h'|h'
   ·left;omega
   right;rw[xds h'];simp
  right;exact xbt _ h
theorem Dd{l:zL}{y:Nat}(h:y∈l):gD l<=y:=by
 cases l with
 |nil=>simp at h
 |cons x r=>
  obtain⟨h1,h2⟩:=rQ r x;rcases xak.1 h with rfl|h
  ·exact h1
  exact h2 y h
theorem o7{l:zL}(h:l≠[]):gD l∈l:=by
 cases l with
 |nil=>exact absurd rfl h
 |cons x r=>
  rcases pS r x with h|h
  ·show r.foldl min x∈_;rw[h];simp
  exact xbt _ h
theorem De{l:zL}{m:Nat}(h1:m∈l)(h2:∀y∈l,m<=y):gD l=m:=
 xey (Dd h1) (h2 _ (o7 (by intro e;rw[e]at h1;simp at h1)))
theorem FB(l:zL)(x:Nat):gD (l++[x])=if l=[]then x else min (gD l) x:=by
 cases l with
 |nil=>rfl
 |cons y r=>simp[gD,xdm]
def bO(n a:Nat):zL:=(List.range n).filter λv=> !a.testBit v
def has(n a:Nat):zL:=(List.range n).filter λv=>a.testBit v
theorem cO{n a v:Nat}:v∈bO n a↔v<n/\a.testBit v=false:=by simp[bO]
theorem ry{n a v:Nat}:v∈has n a↔v<n/\a.testBit v=true:=by simp[has]
theorem oq{α:Type}(p q:α->Bool)(x:α):∀(l:List α),l.Nodup->x∈l->p x=true->q x=false->(∀y∈l,y≠x->q y=p y)->(l.filter q).length+1=(l.filter p).length
 | [],_,h,_,_,_=>by simp at h
 |y::l,nd,h,hp,hq,aJ=>by
  rw[xaW]at nd;by_cases e:y=x
  ·subst e;have hsame:l.filter q=l.filter p:=by
    apply xcY;intro z hz;exact aJ z (by simp[hz]) (λe=>nd.1 (e▸hz))
   rw[xby,xby,hp,hq,hsame];simp
  have hxl:x∈l:=by rcases xak.1 h with h|h;exact absurd h.symm e;exact h
  have ih:=oq p q x l nd.2 hxl hp hq λz hz hne=>aJ z (by simp[hz]) hne;have hy:=aJ y zI e;rw[xby,xby,hy];cases p y
  ·simpa using ih
  simp only[xa7,xaz];omega
theorem q6{a u v:Nat}(h:v≠u):(aB a u true).testBit v=a.testBit v:=by rw[aj,xab h]
theorem gP{n a v:Nat}(h:v∈bO n a):(bO n (aB a v true)).length+1=(bO n a).length:=by
 obtain⟨h1,h2⟩:=cO.1 h;refine oq _ _ v (List.range n) xbl (xaM.2 h1) (by simp[h2]) (by simp[aj]) λy hy hne=>?_;rw[q6 hne]
def Tu(n:Nat)(c:Nat->Nat->Nat):Nat->Nat->Nat
 |0,_=>0
 |f+1,a=>gD ((bO n a).map λv=>c a v+Tu n c f (aB a v true))
def par(n:Nat)(c:Nat->Nat->Nat):Nat->Nat->Nat
 |0,_=>0
 |f+1,s=>gD ((has n s).map λv=>c (aB s v false) v+par n c f (aB s v false))
theorem Ec{n:Nat}{c:Nat->Nat->Nat}:∀(f:Nat) (a:Nat),(bO n a).length<=f->Tu n c (f+1) a=Tu n c f a
 |0,a,h=>by
  have:bO n a=[]:=xcN.1 zO;simp[Tu,this,gD]
 |f+1,a,h=>by
  rw[Tu,Tu];congr 1;apply xbh;intro v hv;rw[Ec f _ (by have:=gP hv;omega)]
theorem VL(n a:Nat):(bO n a).length<=n:=by have:=xb2 (λv=> !a.testBit v) (List.range n);simpa[bO]using this
def B(n:Nat)(c:Nat->Nat->Nat)(a:Nat):Nat:=Tu n c n a
def W(n:Nat)(c:Nat->Nat->Nat)(s:Nat):Nat:=par n c n s
theorem JN(n:Nat)(c:Nat->Nat->Nat)(a:Nat):B n c a=gD ((bO n a).map λv=>c a v+B n c (aB a v true)):=by
 unfold B;rw[<-Ec n a (VL n a)];rfl
theorem aev{n:Nat}{c:Nat->Nat->Nat}{a v:Nat}(hv:v∈bO n a):B n c a<=c a v+B n c (aB a v true):=by
 rw[JN n c a];exact Dd (xan.2 ⟨v,hv,rfl⟩)
theorem aew{n:Nat}{c:Nat->Nat->Nat}{a:Nat}(h:bO n a≠[]):∃v∈bO n a,B n c a=c a v+B n c (aB a v true):=by
 have:=o7 (l:=(bO n a).map λv=>c a v+B n c (aB a v true)) (by simpa using h);rw[<-JN]at this;obtain⟨v,hv,e⟩:=xan.1 this;exact⟨v,hv,e.symm⟩
theorem LF{n:Nat}{c:Nat->Nat->Nat}{a:Nat}(h:bO n a=[]):B n c a=0:=by rw[JN,h];rfl
structure Used(n:Nat)(c:Nat->Nat->Nat)(U:Nat):Prop where
 zero:∀a v,v<n->a.testBit v=false->U.testBit v=false->c a v=0
 mask:∀a v,v<n->a.testBit v=false->c a v=c (a&&&U) v
theorem oB{a U v:Nat}{b:Bool}:(aB a v b) &&&U=if U.testBit v then aB (a&&&U) v b else a&&&U:=by
 apply xaV;intro k;by_cases hU:U.testBit v=true
 ·rw[xad hU,xbi,aj,aj,xbi];by_cases e:k=v
  ·subst e;simp[hU]
  simp[e]
 rw[xab hU,xbi,aj,xbi];by_cases e:k=v
 ·subst e;simp[hU]
 simp[e]
def dB(n U a:Nat):zL:=(bO n a).filter λv=>U.testBit v
theorem fB{n U a v:Nat}:v∈dB n U a↔v<n/\a.testBit v=false/\U.testBit v=true:=by simp[dB,cO,and_assoc]
theorem lR(n U a:Nat):dB n U (a&&&U)=dB n U a:=by
 unfold dB bO;rw[xdh,xdh];apply xcY;intro v _;rw[xbi];cases a.testBit v<;>cases U.testBit v<;>rfl
theorem JM{n U:Nat}{c:Nat->Nat->Nat}(hU:Used n c U):∀(d a:Nat),(bO n a).length=d->B n c a=gD ((dB n U a).map λv=>c (a&&&U) v+B n c (aB a v true))/\∀a',(bO n a').length<=d->a'&&&U=a&&&U->B n c a'=B n c a:=by
 intro d;induction d using Nat.strongRecOn with
 |_ d ih=>
  have key:∀a,(bO n a).length=d->B n c a=gD ((dB n U a).map λv=>c (a&&&U) v+B n c (aB a v true)):=by
   intro a hd;by_cases hm:bO n a=[]
   ·have h1:dB n U a=[]:=by unfold dB;rw[hm];rfl
    rw[h1,LF hm];rfl
   have hle:∀v∈dB n U a,B n c a<=c (a&&&U) v+B n c (aB a v true):=λv hv=>by
    obtain⟨h1,h2,h3⟩:=fB.1 hv;rw[<-hU.mask a v h1 h2];exact aev (cO.2 ⟨h1,h2⟩)
   obtain⟨v,hv,he⟩:=aew (c:=c) hm;obtain⟨h1,h2⟩:=cO.1 hv;by_cases hu:U.testBit v=true
   ·symm;refine De (xan.2 ⟨v,fB.2 ⟨h1,h2,hu⟩,by rw[<-hU.mask a v h1 h2];exact he.symm⟩) λy hy=>?_;obtain⟨w,hw,rfl⟩:=xan.1 hy;exact hle w hw
   have Bd:U.testBit v=false:=by simpa using hu
   rw[hU.zero a v h1 h2 Bd,xa5]at he;have hlt:(bO n (aB a v true)).length<d:=by have:=gP hv;omega
   have hand:aB a v true&&&U=a&&&U:=by rw[oB,xab hu]
   obtain⟨k1,k2⟩:=ih _ hlt (aB a v true) rfl;have X8:dB n U (aB a v true)=dB n U a:=by rw[<-lR,hand,lR]
   by_cases F4:dB n U a=[]
   ·rw[X8,F4]at k1;rw[he,k1,F4];rfl
   symm;rw[X8,hand]at k1;have hmem:=o7 (l:=(dB n U a).map λw=>c (a&&&U) w+B n c (aB (aB a v true) w true)) (by simpa using F4);rw[<-k1]at hmem;obtain⟨w,hw,kg⟩:=xan.1 hmem;obtain⟨w1,w2,w3⟩:=fB.1 hw;have hwv:w≠v:=λe=>by rw[e]at w3;rw[Bd]at w3;cases w3
   have Yg:aB (aB a v true) w true=aB (aB a w true) v true:=by
    apply xaV;intro k;rw[aj,aj,aj,aj];by_cases e1:k=w<;>by_cases e2:k=v<;>simp[e1,e2]
   have hmw:w∈bO n a:=cO.2 ⟨w1,w2⟩;have hsub:B n c (aB (aB a v true) w true)=B n c (aB a w true):=by
    have uy:(bO n (aB a w true)).length<d:=by have:=gP hmw;omega
    refine(ih _ uy (aB a w true) rfl).2 _ ?_ ?_
    ·have hvm:v∈bO n (aB a w true):=cO.2 ⟨h1,by rw[aj,xab (xa9 hwv)];exact h2⟩;have:=gP hvm;rw[Yg];omega
    rw[Yg,oB,xab hu]
   have hval:c (a&&&U) w+B n c (aB a w true)=B n c a:=by rw[he,<-kg,hsub]
   refine De (xan.2 ⟨w,hw,hval⟩) λy hy=>?_;obtain⟨z,hz,rfl⟩:=xan.1 hy;exact hle z hz
  intro a hd;refine⟨key a hd,λa' dP hand=>?_⟩;have X8:dB n U a'=dB n U a:=by rw[<-lR,hand,lR]
  have h':B n c a'=gD ((dB n U a').map λv=>c (a'&&&U) v+B n c (aB a' v true)):=by
   rcases xep (bO n a').length d with h|h
   ·exact(ih _ h a' rfl).1
   exact key a' zO
  rw[h',key a hd,X8,hand];congr 1;apply xbh;intro v hv;congr 1;obtain⟨v1,v2,v3⟩:=fB.1 hv;have hma:v∈bO n a:=cO.2 ⟨v1,v2⟩;have agu:v∈bO n a':=by
   rw[<-X8]at hv;exact cO.2 ⟨v1,(fB.1 hv).2.1⟩
  have hlt:(bO n (aB a v true)).length<d:=by have:=gP hma;omega
  refine(ih _ hlt (aB a v true) rfl).2 _ ?_ ?_
  ·have:=gP agu;have:=gP hma;omega
  rw[oB,oB,hand]
theorem YG{n U:Nat}{c:Nat->Nat->Nat}(hU:Used n c U)(a:Nat):B n c (a&&&U)=B n c a:=by
 have e:(a&&&U) &&&U=a&&&U:=by rw[Nat.and_assoc,Nat.and_self]
 rcases Nat.le_total (bO n (a&&&U)).length (bO n a).length with h|h
 ·exact(JM hU _ a rfl).2 _ h e
 exact((JM hU _ (a&&&U) rfl).2 a h e.symm).symm
theorem aeu{n U:Nat}{c:Nat->Nat->Nat}(hU:Used n c U)(a:Nat):B n c a=gD ((dB n U a).map λv=>c (a&&&U) v+B n c (aB (a&&&U) v true)):=by
 rw[(JM hU _ a rfl).1];congr 1;apply xbh;intro v hv;obtain⟨v1,v2,v3⟩:=fB.1 hv;congr 1;rw[<-YG hU (aB a v true),oB,xad v3]
def ord(n:Nat)(c:Nat->Nat->Nat):Nat->Nat->zL
 |0,_=>[]
 |f+1,a=>match(bO n a).find? λv=>c a v+B n c (aB a v true)==B n c a with
  |some v=>v::ord n c f (aB a v true)
  |none=>[]
theorem vJ{n:Nat}{c:Nat->Nat->Nat}{f a:Nat}(h:bO n a≠[]):∃v,v∈bO n a/\c a v+B n c (aB a v true)=B n c a/\(∀u∈bO n a,u<v->c a u+B n c (aB a u true)≠B n c a)/\ord n c (f+1) a=v::ord n c f (aB a v true):=by
 obtain⟨w,hw,he⟩:=aew (c:=c) h;cases hf:(bO n a).find? λv=>c a v+B n c (aB a v true)==B n c a with
 |none=>
  rw[xcP]at hf;exact absurd (by simpa using he.symm) (hf w hw)
 |some v=>
  have h1:=List.find?_some hf;refine⟨v,List.mem_of_find?_eq_some hf,by simpa using h1,λu hu huv=>?_,by rw[ord,hf]⟩;rw[xd4]at hf;obtain⟨_,as1,bs,hab,hno⟩:=hf;have hs:(bO n a).Pairwise (· < ·):=List.Pairwise.filter _ List.pairwise_lt_range;rw[hab]at hs hu;rcases xao.1 hu with hu|hu
  ·have:=hno u hu;simpa using this
  rw[List.pairwise_append]at hs;have h2:=hs.2.1;rw[List.pairwise_cons]at h2;rcases xak.1 hu with rfl|hu
  ·omega
  have:=h2.1 u hu;omega
end ak
namespace ak
open Go.Sx
theorem di{x u v:Nat}{b c:Bool}(h:u≠v):aB (aB x u b) v c=aB (aB x v c) u b:=by
 apply xaV;intro k;rw[aj,aj,aj,aj];by_cases e1:k=u<;>by_cases e2:k=v
 ·exact absurd (e1.symm.trans e2) h
 ·simp[e1,h]
 ·simp[e2,xa9 h]
 simp[e1,e2]
theorem W9{n u v:Nat}{ws:zL}{b:Bool}(hf:eV n ws)(hu:u<n)(hv:v<n)(h:dep n ws v=false):dep n (iI n ws u b) v=false:=by
 by_cases e:u=v
 ·subst e;cases hd:dep n (iI n ws u b) u
  ·rfl
  obtain⟨x,hx,hne⟩:=(uO (eB hf.x6) hu).1 hd;rw[eW hf hu (fZ hx hu),eW hf hu (fZ hx hu)]at hne;refine absurd ?_ hne;congr 1;apply xaV;intro k;rw[aj,aj,aj,aj];by_cases e:k=u<;>simp[e]
 cases hd:dep n (iI n ws u b) v
 ·rfl
 obtain⟨x,hx,hne⟩:=(uO (eB hf.x6) hv).1 hd;rw[eW hf hu (fZ hx hv),eW hf hu (fZ hx hv),di (xa9 e),di (xa9 e)]at hne;have:=(uO hf hv).2 ⟨aB x u b,fZ hx hu,hne⟩;rw[h]at this;cases this
theorem AL{n:Nat}{L:Fs}{A:Nat}(hL:∀t∈L,eV n t)(hn:n<=16){v:Nat}(hv:v<n)(h:∀t∈L,dep n t v=false):∀k,k<=n->∀t∈st n L A k,dep n t v=false
 |0,_,t,ht=>h t (gu.1 ht)
 |k+1,hk,t,ht=>by
  rw[st]at ht;split at ht
  ·obtain⟨u,hu,b,rfl⟩:=cg.1 ht;exact W9 (E9 hL hn k u hu) zO hv (AL hL hn hv h k zO u hu)
  exact AL hL hn hv h k zO t ht
def aX(n:Nat)(L:Fs):Nat:=L.foldl (λu t=>u|||p9 n t) 0
theorem pK(n v:Nat):∀(L:Fs) (u:Nat),(L.foldl (λu t=>u|||p9 n t) u).testBit v=(u.testBit v||L.any λt=>(p9 n t).testBit v)
 | [],u=>by simp
 |t::L,u=>by rw[xcF,pK n v L,xb1,List.any_cons,Bool.or_assoc]
theorem AJ{n v:Nat}{L:Fs}:(aX n L).testBit v=L.any λt=>(p9 n t).testBit v:=by
 unfold aX;rw[pK];simp
theorem uU{n v:Nat}{L:Fs}(hv:v<n)(h:(aX n L).testBit v=false):∀t∈L,dep n t v=false:=by
 rw[AJ,List.any_eq_false]at h;intro t ht;have:=h t ht;rw[p9,iH]at this;simpa[hv]using this
theorem DQ(n:Nat):∀(L:Fs) (u:Nat),u<2^n->L.foldl (λu t=>u|||p9 n t) u<2^n
 | [],u,h=>h
 |t::L,u,h=>DQ n L _ (xbH h (nN n t n))
theorem uV(n:Nat)(L:Fs):aX n L<2^n:=DQ n L 0 (xbw n)
theorem JZ{n:Nat}{L:Fs}{A:Nat}(hL:∀t∈L,eV n t)(hn:n<=16):∀k,k<=n->∀x,x∈st n L A k↔x∈st n L (A&&&aX n L) k
 |0,_,x=>xcT
 |k+1,hk,x=>by
  have ih:=JZ (A:=A) hL hn k zO;rw[st,st,xbi];cases hA:A.testBit k
  ·simpa using ih x
  cases hU:(aX n L).testBit k
  ·simp only[xa7,xeb,xaO,xa2];rw[cg,<-ih x];have hd:=AL (A:=A) hL hn (v:=k) zO (uU zO hU) k zO;have hf:=E9 (A:=A) hL hn k;constructor
   ·rintro⟨t,ht,b,rfl⟩;rw[ov (hf t ht) zO (hd t ht)];exact ht
   intro hx;exact⟨x,hx,false,(ov (hf x hx) zO (hd x hx)).symm⟩
  simp only[xdQ,xa7];rw[cg,cg];constructor
  ·rintro⟨t,ht,h⟩;exact⟨t,(ih t).1 ht,h⟩
  rintro⟨t,ht,h⟩;exact⟨t,(ih t).2 ht,h⟩
theorem JS{n:Nat}{L:Fs}(hL:∀t∈L,eV n t)(hn:n<=16):Used n (lvl n L) (aX n L):=by
 refine⟨λa v hv _ hU=>?_,λa v hv _=>?_⟩
 ·unfold lvl nodes;rw[xcN,xdl];intro t ht;rw[AL hL hn hv (uU hv hU) n (xaj _) t ht];simp
 exact mM (jw (nO n L a n) (nO n L _ n) (JZ hL hn n (xaj _)))
end ak
set_option maxRecDepth 100000
namespace Go.Proofs
open Go Go.Sx
def kp(x:Nat×Nat):zV:=.agg (aA .i64 [(x.1:Int),(x.2:Int)])
def ki(x:Nat):zV:=iv (x:Int)
theorem FO(a b:Nat):Instr.sameNow (.int .i64) (ki a) (ki b)=some (decide (a=b)):=by
 simp only[Instr.sameNow,ki,xa7,xar];rw[xbE];simp;omega
theorem V6(a:Nat):Instr.sameBits 10000 (ki a) (ki a)=true:=by simp[Instr.sameBits,ki]
theorem Rf(a b:Nat×Nat):BI zQ 309 (kp a) (kp b) (decide (a=b)):=by
 have:=BI.array (P:=zQ) (t:=309) (e:=3) (q:=.i64) (n:=2) zK zK zK [(a.1:Int),(a.2:Int)] [(b.1:Int),(b.2:Int)] rfl rfl;have e:decide ([(a.1:Int),(a.2:Int)]=[(b.1:Int),(b.2:Int)])=decide (a=b):=by
  rw[xaZ];obtain⟨a1,a2⟩:=a;obtain⟨b1,b2⟩:=b;simp;omega
 rw[e]at this;exact this
theorem FM(a:Nat×Nat):mw zQ 309 (kp a):=mw.array (P:=zQ) (t:=309) (e:=3) (q:=.i64) (n:=2) zK zK zK _ rfl
theorem xX(n:Nat)(q:IntKind)(l:List Int):Instr.sameBits (n+1+1) (.agg (aA q l)) (.agg (aA q l))=true:=by
 simp only[Instr.sameBits,aA,xeo,xco,xc3];intro x hx;obtain⟨a,b⟩:=x;have h:=xd1 hx;have e:a=b:=by
  rw[List.zip_eq_zip_take_min]at hx;obtain⟨i,hi,he⟩:=xba.1 hx;simp at he;exact he.1.symm.trans he.2
 subst e;have:=h.1;simp only[xdC,xan]at this;obtain⟨y,_,rfl⟩:=this;simp[Instr.sameBits]
theorem V0(a:Nat×Nat):Instr.sameBits 10000 (kp a) (kp a)=true:=xX 9998 _ _
abbrev vrN(v:zV)(x:Nat):Prop:=v=iv (x:Int)
structure Lq(n:Nat)(L:List (zL))(kB:Array MapEntry)(jN:Nat)(gV:Array MapEntry)(iE:Nat):Prop where
 ah:∃m,aF kp vrN kB jN m/\∀x∈m,x.2=ak.lvl n L x.1.1 x.1.2
 dow:∃m,aF ki vrN gV iE m/\∀x∈m,x.2=ak.B n (ak.lvl n L) x.1
def nq(bp bl bd:Nat)(xQ:zV)(n:Nat)(L:List (zL))(U:Nat)(B H:Hp):Prop:=
 ∃kB jN gV iE,H=(bp,.cells #[xQ,iv (n:Int),iv (U:Int),.map (some bl),.map (some bd)] 247 zZ)::(bl,.map kB jN)::(bd,.map gV iE)::B/\Lq n L kB jN gV iE
theorem Db{κ:Type}[DecidableEq κ]{f:κ->Nat}{m:List (κ×Nat)}{k:κ}(h:∀x∈m,x.2=f x.1):∀x∈eo m k (f k),x.2=f x.1:=by
 intro x hx;unfold eo at hx;split at hx
 ·obtain⟨y,hy,rfl⟩:=xan.1 hx;split
  ·rfl
  exact h y hy
 rcases xao.1 hx with hx|hx
 ·exact h x hx
 simp at hx;subst hx;rfl
theorem Df{κ:Type}[DecidableEq κ]{f:κ->Nat}{m:List (κ×Nat)}{k:κ}{x:Nat}(h:∀x∈m,x.2=f x.1)(hk:aG m k=some x):x=f k:=by
 unfold aG at hk;obtain⟨y,hy,rfl⟩:=xdP.1 hk;have h1:=List.find?_some hy;have h2:=h y (List.mem_of_find?_eq_some hy);simp only[xaJ]at h1;rw[h2,h1]
structure xq(xQ:zV)(n:Nat)(L:List (zL))(B:Hp):Prop where
 tb:jG B xQ (Ma n L)
 BW:∀ws∈L,ak.eV n ws
 ne:L≠[]
 small:L.length<33554432
 n12:n<=12
theorem FG{xQ:zV}{n:Nat}{L:List (zL)}{B:Hp}(h:xq xQ n L B)(a v:Nat):ak.lvl n L a v<2199023255551:=by
 have h1:ak.lvl n L a v<=(ak.st n L a n).length:=xb2 _ _;have h2:=Qa (n:=n) (A:=a) (L:=L) (by have:=h.n12;omega) h.small (xaj n);omega
theorem C8{xQ:zV}{n:Nat}{L:List (zL)}{B:Hp}(h:xq xQ n L B){bp bl bd a v:Nat}{H:Hp}(hp:nq bp bl bd xQ n L (ak.aX n L) B H)(ha:a<2^n)(hv:v<n)(hav:a.testBit v=false):
  Fc zQ 184 #[.pointer (some ⟨bp,0,none⟩),iv (a:Int),iv (v:Int)] H (λr H'=>r=iv ((ak.lvl n L a v:Nat):Int)/\nq bp bl bd xQ n L (ak.aX n L) B H'):=by
 obtain⟨kB,jN,gV,iE,rfl,hM⟩:=hp;have hU:=ak.uV n L;have ux:=h.n12;have mV:2^n<=2^12:=xax zD ux;have DE:=ak.JS h.BW zO;have hsU:ak.aX n L>>>v<=ak.aX n L:=xbm _ _;refine aI λg=>Iz (Nil.ptr ?_);refine ai.mk (Ld.mk zM rfl ?_);refine ae.iK (by simp[bG];omega) (ae.jE (b:=1) (by simp[bG];omega) zD (ae.dx (b:=0) ?_));have Nf:ak.aX n L>>>v&&&1=0↔(ak.aX n L).testBit v=false:=by
  rw[ak.gw,xbC,xcu];cases (ak.aX n L).testBit v<;>simp
 refine Br.dec (λh0=>?_) (λh0=>?_)
 ·refine aN.here ⟨?_,kB,jN,gV,iE,rfl,hM⟩;rw[DE.zero a v hv hav (Nf.1 h0)];rfl
 have hUv:(ak.aX n L).testBit v=true:=by cases hh:(ak.aX n L).testBit v;exact absurd (Nf.2 hh) h0;rfl
 apply Nil.ptr;refine ai.mk (Ld.mk zM rfl ?_);refine ae.jE (by simp[bG];omega) (by simp[bG];omega) ?_;have hlv:ak.lvl n L a v=ak.lvl n L (a&&&ak.aX n L) v:=DE.mask a v hv hav;have Yi:(a&&&ak.aX n L).testBit v=false:=by rw[xbi,hav];rfl
 have haU:a&&&ak.aX n L<2^n:=xaA xcg ha;rw[hlv];obtain⟨a',dQ⟩:∃a',a'=a&&&ak.aX n L:=⟨_,rfl⟩;rw[<-dQ]at Yi haU⊢;refine Build.two (q:=.i64) (e:=3) zK zK zK ?_;rw[show aA .i64 [(a':Int),(v:Int)]=List.toArray [iv (a':Int),iv (v:Int)]from rfl];intro Uz _;refine St.q ?_;apply Nil.ptr;refine ai.mk (Ld.mk zM rfl ?_);refine az.q ?_;obtain⟨⟨m1,Uw,xU⟩,ade⟩:=hM;have acC:∀J:List zV->Hp->Prop,(∀w25:zV,∀H24:Hp,(∀amM:Fr,aN (λr H'=>r=iv ((ak.lvl n L a' v:Nat):Int)/\nq bp bl bd xQ n L (ak.aX n L) B H') (.returned w25) H24)->J [w25] H24)->
   ∀W6 Xa,Lq n L W6 Xa gV iE->J [iv ((ak.lvl n L a' v:Nat):Int)] ((bp,.cells #[xQ,iv (n:Int),iv ((ak.aX n L:Nat):Int),.map (some bl),.map (some bd)] 247 zZ)::(bl,.map W6 Xa)::(bd,.map gV iE)::B):=
  λJ hJ W6 Xa hM=>hJ _ _ λgs=>aN.here ⟨rfl,W6,Xa,gV,iE,rfl,hM⟩
 cases hg:aG m1 (a',v)with
 |some x=>
  have hx:=Df (f:=λk=>ak.lvl n L k.1 k.2) xU hg;simp only at hx;refine aF.F6 (ke:=kp) (k:=(a',v)) Rf FM Uw (by exact .tail _ (.tail _ (.head _))) hg λy hy=>?_;subst hy;refine Ext.two λJ hJ=>(Un.not (Br.no (JE.of .tail ?_)));rw[hx];exact acC J hJ _ _ ⟨⟨m1,Uw,xU⟩,ade⟩
 |none=>
  refine aF.vR (ke:=kp) (k:=(a',v)) Rf FM Uw (by exact .tail _ (.tail _ (.head _))) hg ?_;refine Ext.two λJ hJ=>(Un.not (Br.yes (DR.self (Nil.ptr ?_))));refine ai.mk (Ld.mk zM rfl ?_);refine⟨Uz,0,.i64,0,rfl,rfl,by decide,by decide,?_⟩;refine Ld.q ?_;refine br.q (aa.eq (B:=B) (Q8 (n:=n) (L:=L) h.tb h.BW h.ne (by have:=h.small;omega) haU hv Yi) (⟨.refl _,Ext.mk rfl (Ext.mk rfl ?_)⟩));refine DR.of (R:=(Uz,.cells (List.toArray [iv (a':Int),iv (v:Int)]) 309 zZ)::(bp,.cells #[xQ,iv (n:Int),iv ((ak.aX n L:Nat):Int),.map (some bl),.map (some bd)] 247 zZ)::[]) (.cons (.cons (λg w h=>(Own.left (B:=_) (A:=[]) h)))) (Nil.ptr ?_);refine ai.mk (Ld.mk zM rfl ?_);refine az.q ?_;refine aF.LY (ke:=kp) (vr:=vrN) (b:=bl) (val:=iv ((ak.lvl n L a' v:Nat):Int)) (k:=(a',v)) (x:=ak.lvl n L a' v) Rf FM V0 Uw rfl λes' bB DF=>⟨_,.tail (.tail (.head _)),?_⟩;have agx:∀x∈eo m1 (a',v) (ak.lvl n L a' v),x.2=ak.lvl n L x.1.1 x.1.2:=Db (f:=λk:Nat×Nat=>ak.lvl n L k.1 k.2) (k:=(a',v)) xU;have hM':Lq n L es' bB gV iE:=⟨⟨eo m1 (a',v) (ak.lvl n L a' v),DF,agx⟩,ade⟩;exact JE.of .tail (acC J hJ es' bB hM')
end Go.Proofs
namespace Go.Sx
open Go
theorem vN(n:Int):BitVec.ofInt 64 (IntKind.i64.wrap n)=BitVec.ofInt 64 n:=by
 apply BitVec.eq_of_toNat_eq;simp only[BitVec.toNat_ofInt,IntKind.wrap,IntKind.bits,IntKind.signed,xco,xaJ];congr 1;split<;>omega
theorem wrap_toInt(x:BitVec 64):IntKind.i64.wrap (x.toNat:Int)=x.toInt:=by
 rw[BitVec.toInt_eq_toNat_cond];have:=x.isLt;have e:(2:Int)^(64-1)=9223372036854775808:=rfl;simp only[IntKind.wrap,IntKind.bits,IntKind.signed,xco,xaJ,e];split<;>split<;>omega
theorem qv(op:BinOp)(x y:Int):BitVec.ofInt 64 (bits op .i64 x y)=(match op with
  | .and=>BitVec.ofInt 64 x&&&BitVec.ofInt 64 y
  | .or=>BitVec.ofInt 64 x|||BitVec.ofInt 64 y
  | .xor=>BitVec.ofInt 64 x^^^BitVec.ofInt 64 y
  |_=>BitVec.ofInt 64 x&&& ~~~BitVec.ofInt 64 y):=by
 unfold bits;simp only[vN];rw[xcG];simp only[IntKind.bits];rw[BitVec.ofNat_toNat,BitVec.setWidth_eq];cases op<;>rfl
theorem wZ(op:BinOp)(x y:Int):bits op .i64 x y=(BitVec.ofInt 64 (bits op .i64 x y)).toInt:=by
 unfold bits;simp only[vN];rw[xcG];simp only[IntKind.bits];rw[BitVec.ofNat_toNat,BitVec.setWidth_eq];exact wrap_toInt _
theorem MF{a U v:Nat}(ha:a<4611686018427387904)(hU:U<4611686018427387904)(hv:v<62):
  bits .and .i64 ((bits .or .i64 a (bits .xor .i64 (-1) U)).fdiv (2^(min (v:Int).toNat IntKind.i64.bits))) 1=if a.testBit v=true\/U.testBit v=false then 1 else 0:=by
 have hX:=qv .or (a:Int) (bits .xor .i64 (-1) U);simp only at hX;have hN:=qv .xor (-1) (U:Int);simp only at hN;rw[hN]at hX;generalize hx:bits .or .i64 a (bits .xor .i64 (-1) U)=x at hX;have hxi:x=(BitVec.ofInt 64 x).toInt:=by rw[<-hx];exact wZ _ _ _
 have hm:min (v:Int).toNat IntKind.i64.bits=v:=by simp[IntKind.bits];omega
 rw[hm];have hs:x.fdiv (2^v)=((BitVec.ofInt 64 x).sshiftRight v).toInt:=by
  rw[BitVec.toInt_sshiftRight,<-hxi,Int.shiftRight_eq_div_pow,Int.fdiv_eq_ediv_of_nonneg _ (Int.le_of_lt (Int.pow_pos zD))]
  push_cast;rfl
 rw[hs,wZ,qv];simp only[BitVec.ofInt_toInt];rw[hX];have h1:BitVec.ofInt 64 (1:Int)=1#64:=rfl;have h2:BitVec.ofInt 64 (-1:Int)=BitVec.allOnes 64:=by decide
 rw[h1,h2];have Nf:((BitVec.ofInt 64 (a:Int)|||BitVec.allOnes 64^^^BitVec.ofInt 64 (U:Int)).sshiftRight v).getLsbD 0=(a.testBit v|| !U.testBit v):=by
  rw[BitVec.getLsbD_sshiftRight];have e1:v+0<64:=by omega
  simp only[xcu,show¬(64<=0)from by decide,xdn,xcq,xco,show v<64 by omega,xa7];rw[BitVec.getLsbD_or,BitVec.getLsbD_xor,BitVec.getLsbD_allOnes,xcG,xcG,BitVec.getLsbD_ofNat,BitVec.getLsbD_ofNat];simp[show v<64 by omega]
 have ig:∀y:BitVec 64,(y&&&1#64).toInt=if y.getLsbD 0 then 1 else 0:=by
  intro y;have:y&&&1#64=if y.getLsbD 0 then 1#64 else 0#64:=by
   apply BitVec.eq_of_getLsbD_eq;intro i hi;rw[BitVec.getLsbD_and];by_cases h0:i=0
   ·subst h0;cases hb:y.getLsbD 0<;>simp[hb]
   have:(1#64).getLsbD i=false:=by simp[BitVec.getLsbD_one,h0]
   rw[this];cases y.getLsbD 0<;>simp[this]
  rw[this];cases y.getLsbD 0<;>decide
 rw[ig,Nf];cases a.testBit v<;>cases U.testBit v<;>simp
theorem ab0{a U v:Nat}(ha:a<4611686018427387904)(hU:U<4611686018427387904)(hv:v<62){k:zV->Prop}(h:k (.bool (decide (a.testBit v=true\/U.testBit v=false)))):
  Un .xor (.int .i64 (U:Int)) λv33=>ae .num .or (.int .i64 (a:Int)) v33 λv34=>ae .num .shr v34 (.int .i64 (v:Int)) λv35=>ae .num .and v35 (.int .i64 1) λv36=>ae .num .eql v36 (.int .i64 1) k:=by
 refine⟨_,rfl,_,rfl,?_⟩;have h0:¬((v:Int)<0):=by omega
 refine⟨_,by simp only[g8,h0,xa2];rfl,_,rfl,?_⟩;refine ae.gJ ?_;have hs:(if IntKind.i64.signed=true then(-1:Int)else IntKind.i64.max)= -1:=rfl;rw[hs,MF ha hU hv];by_cases hc:a.testBit v=true\/U.testBit v=false
 ·rw[xad hc];rw[xam hc]at h;exact h
 rw[xab hc];rw[xal hc]at h;exact h
end Go.Sx
set_option maxRecDepth 100000
namespace Go.Proofs
open Go Go.Sx
section
theorem iP(x:zV)(r:List zV)(i:Nat):bN (x::r) (i+1)=bN r i:=by cases x<;>rfl
def jS(n:Nat)(L:List (zL))(U a k:Nat):zL:=((List.range k).filter λv=> !a.testBit v&&U.testBit v).map λv=>ak.lvl n L a v+ak.B n (ak.lvl n L) (ak.aB a v true)
theorem Ml{n:Nat}{L:List (zL)}{U a:Nat}:jS n L U a n=(ak.dB n U a).map λv=>ak.lvl n L a v+ak.B n (ak.lvl n L) (ak.aB a v true):=by
 unfold jS ak.dB ak.bO;rw[xdh];congr 1;apply xcY;intro v _;cases a.testBit v<;>cases U.testBit v<;>rfl
theorem vk{n:Nat}{L:List (zL)}{U a k:Nat}:jS n L U a (k+1)=if a.testBit k=true\/U.testBit k=false then jS n L U a k else jS n L U a k++[ak.lvl n L a k+ak.B n (ak.lvl n L) (ak.aB a k true)]:=by
 unfold jS;rw[xci,xbU,xaB];cases h1:a.testBit k<;>cases h2:U.testBit k<;>simp[h1,h2]
def Ab(l:zL):zV:=if l=[]then iv (-1)else iv ((ak.gD l:Nat):Int)
theorem Tt(n:Nat)(c:Nat->Nat->Nat)(M:Nat)(hc:∀a v,c a v<=M):∀f a,ak.Tu n c f a<=f*M
 |0,a=>by simp[ak.Tu]
 |f+1,a=>by
  rw[ak.Tu,xbu];by_cases h:ak.bO n a=[]
  ·rw[h];simp[ak.gD]
  have:=ak.o7 (l:=(ak.bO n a).map λv=>c a v+ak.Tu n c f (ak.aB a v true)) (by simpa using h);obtain⟨v,_,e⟩:=xan.1 this;rw[<-e];have h1:=hc a v;have h2:=Tt n c M hc f (ak.aB a v true);omega
theorem LD{xQ:zV}{n:Nat}{L:List (zL)}{B:Hp}(h:xq xQ n L B)(a:Nat):ak.B n (ak.lvl n L) a<35184372088832:=by
 have h1:=Tt n (ak.lvl n L) 2199023255551 (λa v=>xb7 (FG h a v)) n a;have h2:n*2199023255551<=12*2199023255551:=xaX _ h.n12;unfold ak.B;omega
theorem BD{a U n:Nat}(hU:U<2^n)(h:∀v,v<n->¬(a.testBit v=false/\U.testBit v=true)):a&&&U=U:=by
 apply xaV;intro k;rw[xbi];by_cases hk:k<n
 ·have:=h k hk;cases h1:a.testBit k<;>cases h2:U.testBit k<;>simp_all
 have:U.testBit k=false:=xb9 (xaP hU (xax zD zO));rw[this];simp
theorem sb{xQ:zV}{n:Nat}{L:List (zL)}{B:Hp}(h:xq xQ n L B){bp bl bd:Nat}:∀(d a:Nat),(ak.dB n (ak.aX n L) a).length<=d->a<2^n->∀H,nq bp bl bd xQ n L (ak.aX n L) B H->
  Fc zQ 185 #[.pointer (some ⟨bp,0,none⟩),iv (a:Int)] H (λr H'=>r=iv ((ak.B n (ak.lvl n L) a:Nat):Int)/\nq bp bl bd xQ n L (ak.aX n L) B H'):=by
 have hU:=ak.uV n L;have ux:=h.n12;have mV:2^n<=2^12:=xax zD ux;have DE:=ak.JS h.BW zO;intro d;induction d using Nat.strongRecOn with
 |_ d ih=>
  intro a hd ha H hp;obtain⟨kB,jN,gV,iE,rfl,hM⟩:=hp;refine aI λg=>xI (Nil.ptr ?_);refine ai.mk (Ld.mk zM rfl ?_);refine ae.jE (by simp[bG];omega) (by simp[bG];omega) (Nil.ptr ?_);refine ai.mk (Ld.mk zM rfl ?_);have hBa:ak.B n (ak.lvl n L) a=ak.B n (ak.lvl n L) (a&&&ak.aX n L):=(ak.YG DE a).symm;have X8:ak.dB n (ak.aX n L) (a&&&ak.aX n L)=ak.dB n (ak.aX n L) a:=ak.lR _ _ _;have haU:a&&&ak.aX n L<2^n:=xaA xcg ha;have iS:(a&&&ak.aX n L) &&&ak.aX n L=a&&&ak.aX n L:=by rw[Nat.and_assoc,Nat.and_self]
  rw[hBa];rw[<-X8]at hd;obtain⟨a',dQ⟩:∃a',a'=a&&&ak.aX n L:=⟨_,rfl⟩;rw[<-dQ]at haU hd iS⊢;clear hBa X8 ha dQ;have aJ:=Ml (n:=n) (L:=L) (U:=ak.aX n L) (a:=a');have acD:ak.B n (ak.lvl n L) a'=ak.gD (jS n L (ak.aX n L) a' n):=by
   rw[aJ];have:=ak.aeu DE a';rw[iS]at this;exact this
  refine ae.dx (Br.dec (λh0=>?_) (λh0=>?_))
  ·refine aN.here ⟨?_,kB,jN,gV,iE,rfl,hM⟩;have:ak.dB n (ak.aX n L) a'=[]:=by
    rw[xcB];intro v hv;obtain⟨_,h2,h3⟩:=ak.fB.1 hv;rw[h0,h3]at h2;cases h2
   rw[acD,aJ,this];rfl
  have hne:jS n L (ak.aX n L) a' n≠[]:=by
   rw[aJ];intro e;apply h0;rw[<-iS];refine BD hU λv hv hh=>?_;have:v∈ak.dB n (ak.aX n L) a':=ak.fB.2 ⟨hv,hh.1,hh.2⟩;rw[List.map_eq_nil_iff.1 e]at this;simp at this
  apply Nil.ptr;refine ai.mk (Ld.mk zM rfl ?_);obtain⟨RR,m2,sS,nj⟩:=hM;cases hg:aG m2 a' with
  |some x=>
   have hx:=Df (f:=ak.B n (ak.lvl n L)) nj hg;refine aF.hit (ke:=ki) (k:=a') FO sS (by exact .tail _ (.tail _ (.head _))) hg λy hy=>?_;subst hy;refine Ext.mk rfl (Ext.mk rfl (Br.yes (aN.here ⟨?_,kB,jN,gV,iE,rfl,RR,m2,sS,nj⟩)));rw[hx];rfl
  |none=>
   refine aF.bO (ke:=ki) (k:=a') FO sS (by exact .tail _ (.tail _ (.head _))) hg ?_;refine Ext.mk rfl (Ext.mk rfl (Br.no (Nil.ptr ?_)));refine ai.mk (Ld.mk zM rfl ?_);refine⟨λvs H=>∃k:Nat,vs=[Ab (jS n L (ak.aX n L) a' k),iv (k:Int)]/\k<=n/\nq bp bl bd xQ n L (ak.aX n L) B H,λvs _=>n-bN vs 1,
    JE.mk ⟨0,rfl,xaN _,kB,jN,gV,iE,rfl,RR,m2,sS,nj⟩,?_⟩
   clear sS nj hg RR kB jN gV iE m2;rintro w22 w23 H ⟨k,⟨⟩,hk,hp⟩ gs;refine ae.fC (Br.dec (λhlt=>?_) (λhlt=>?_))
   ·intro J hJ;have Pn:=hp;obtain⟨kB,jN,gV,iE,rfl,hM⟩:=hp;apply Nil.ptr;refine ai.mk (Ld.mk zM rfl ?_);refine ab0 zO zO zO ?_;have DA:∀l H,l=jS n L (ak.aX n L) a' (k+1)->nq bp bl bd xQ n L (ak.aX n L) B H->J [Ab l] H:=λl H hl hp=>hJ _ _ λgs=>by
     exact ae.inc (aC.mk ⟨k+1,by rw[hl],by omega,hp⟩ (by rw[iP,iP];show n-(((k:Int)+1).toNat)<n-((k:Int).toNat);omega))
    by_cases hc:a'.testBit k=true\/(ak.aX n L).testBit k=false
    ·rw[xam hc];refine Br.yes (JE.mk (DA _ _ ?_ Pn));rw[vk,xad hc]
    rw[xal hc];have hck:a'.testBit k=false/\(ak.aX n L).testBit k=true:=by
     cases h1:a'.testBit k<;>cases h2:(ak.aX n L).testBit k<;>simp_all
    have hmem:k∈ak.dB n (ak.aX n L) a':=ak.fB.2 ⟨hlt,hck.1,hck.2⟩;refine Br.no (DR.self ?_);have hpk:2^k<=2^12:=xax zD zO;refine ae.Cn (a:=1) (by simp[IntKind.bits];omega) (by rw[xa6];simp[bG];omega) ?_;rw[xa6];refine ae.Kq (by simp[bG];omega) (by simp[bG];omega) ?_;have W5:a'|||2^k=ak.aB a' k true:=rfl
    rw[W5];refine aa.fq (C8 h Pn haU hlt hck.1) ?_;rintro r H1 ⟨rfl,uJ⟩;have hlen:(ak.dB n (ak.aX n L) (ak.aB a' k true)).length<d:=by
     have h1:(ak.dB n (ak.aX n L) (ak.aB a' k true)).length+1=(ak.dB n (ak.aX n L) a').length:=by
      unfold ak.dB ak.bO;rw[xdh,xdh];refine ak.oq _ _ k (List.range n) xbl (xaM.2 hlt) (by simp[hck]) (by simp[ak.aj]) λy hy hne=>?_;rw[ak.q6 hne]
     omega
    refine aa.fq (ih _ hlen (ak.aB a' k true) (xaj _) (ak.fZ haU hlt) H1 uJ) ?_;rintro r H2 ⟨rfl,mV⟩;have hb1:=FG h a' k;have tN:=LD h (ak.aB a' k true);refine ae.fI ?_;have hstep:=vk (n:=n) (L:=L) (U:=ak.aX n L) (a:=a') (k:=k);rw[xab hc]at hstep;generalize ak.lvl n L a' k+ak.B n (ak.lvl n L) (ak.aB a' k true)=x at hstep;unfold Ab;by_cases hl:jS n L (ak.aX n L) a' k=[]
    ·rw[xad hl];refine ae.lss (cS.mk true (λe=>by simp at e) (λ_=>rfl) λgs=>Br.yes (JE.mk ?_));have:=DA [x] _ (by rw[hstep,hl];rfl) mV;simpa[Ab,ak.gD]using this
    rw[xab hl];have hms:=ak.FB (jS n L (ak.aX n L) a' k) x;rw[xab hl,<-hstep]at hms;have agq:jS n L (ak.aX n L) a' (k+1)≠[]:=by rw[hstep];simp
    have Uk:=DA _ H2 rfl mV;unfold Ab at Uk;rw[xab agq,hms]at Uk;have hneg:decide (((ak.gD (jS n L (ak.aX n L) a' k):Nat):Int)<0)=false:=xal zO;by_cases hx:x<ak.gD (jS n L (ak.aX n L) a' k)
    ·rw[xds zO]at Uk;refine ae.lss ?_;rw[hneg];exact cS.mk true (λ_=>ae.fC ⟨rfl,by rw[xam hx]⟩) (λe=>by simp at e) λgs=>Br.yes (JE.mk Uk)
    rw[xcD zO]at Uk;refine ae.lss ?_;rw[hneg];exact cS.mk false (λ_=>ae.fC ⟨rfl,by rw[xal hx]⟩) (λe=>by simp at e) λgs=>Br.no (JE.mk Uk)
   have:k=n:=by omega
   subst this;obtain⟨kB,jN,gV,iE,rfl,RR,m2,sS,nj⟩:=hp;apply Nil.ptr;refine ai.mk (Ld.mk zM rfl ?_);unfold Ab;rw[xab hne,<-acD];refine aF.bK (ke:=ki) (vr:=vrN) (b:=bd) (val:=iv ((ak.B k (ak.lvl k L) a':Nat):Int)) (k:=a') (x:=ak.B k (ak.lvl k L) a') FO V6 sS rfl λes' bB DF=>⟨_,.tail (.tail (.head _)),?_⟩;have agw:∀x∈eo m2 a' (ak.B k (ak.lvl k L) a'),x.2=ak.B k (ak.lvl k L) x.1:=Db (f:=ak.B k (ak.lvl k L)) nj;exact aN.here ⟨rfl,kB,jN,es',bB,rfl,RR,_,DF,agw⟩
end
section
def aip(v:zV)(ts:List Tb)(B:Hp)(r:zV)(H:Hp):Prop:=
 (r5 ts/\∃(bp bl bd n:Nat) (L:List (zL)) (N:Hp),ts=Ma n L/\(L=[]->n=0)/\n<=16/\(∀ws∈L,ak.eV n ws)/\r=.tuple #[.pointer (some ⟨bp,0,none⟩),iv 0]/\nq bp bl bd v n L (ak.aX n L) (N++B) H)
 \/(¬r5 ts/\r=.tuple #[.pointer none,iv 5])
theorem tD(n:Nat)(L:List (zL)):Lq n L #[] 0 #[] 0:=⟨⟨[],aF.empty,by simp⟩,⟨[],aF.empty,by simp⟩⟩
theorem EW{n:Nat}{L:List (zL)}{k:Nat}(h:k<L.length):ak.aX n (L.take (k+1))=ak.aX n (L.take k)|||ak.p9 n L[k]:=by
 unfold ak.aX;rw[xbo,xaa h,Option.toList_some,xdm];rfl
theorem Nx{B:Hp}{v:zV}{ts:List Tb}(ht:jG B v ts)(cI:ts.length<4398046511104):Px zQ 183 #[v] B (aip v ts B):=by
 obtain⟨va,vc,vl,rfl⟩:∃a c l,v=.slice a l c:=by
  obtain⟨rs,h1,_⟩:=ht;obtain⟨a,c,e,_⟩:=h1.shape;exact⟨a,c,_,e⟩
 refine aI λg=>IA λb1 _ b2 _=>?_;refine Build.mk (cs:=[.slice va vl vc,iv 0,iv 0,.map (some b1),.map (some b2)]) zK λbp _=>?_;generalize hvs:Value.slice va vl vc=vv at ht⊢;refine ht.bV (ae.dx (b:=0) (Br.dec (λh0=>?_) (λh0=>?_)))
 ·have F4:ts=[]:=xbW h0;subst F4;refine⟨_,_,rfl,aM.cons aM.swap,(by repeat (first|exact bY.refl _|apply bY.cons|apply bY.app)),Or.inl ⟨by simp[r5],bp,b1,b2,0,[],[],rfl,λ_=>rfl,by omega,by simp,rfl,_,_,_,_,?_,tD _ _⟩⟩;subst hvs;rfl
 refine aa.pq (B:=B) (QO ht cI) ?_;rintro r N ⟨s,rfl⟩;apply Ext.two;by_cases hO:r5 ts
 case neg=>
  rw[xab hO];exact ae.x5 (a:=5) (b:=0) (Br.dec (λ_=>GN.mk (by repeat (first|exact bY.refl _|apply bY.cons|apply bY.app)) (.inr ⟨hO,rfl⟩)) (λh=>absurd zD h))
 rw[xad hO];refine ae.x5 (a:=0) (b:=0) (Br.dec (λh=>absurd rfl h) (λ_=>?_));obtain⟨n,L,wj,rfl,hne,hf⟩:=Ks hO (by intro e;rw[e]at h0;exact h0 rfl);rw[xaE]at cI h0;obtain⟨w0,Uh⟩:∃w0,L[0]? =some w0:=⟨_,xaa (xdb.2 hne)⟩;refine ht.ldN (i:=0) (t:=⟨n,w0⟩) (by rw[xat,Uh];rfl) zS ?_;simp only;refine Nil.ptr (ai.mk (St.one (c:=#[vv,iv 0,iv 0,.map (some b1),.map (some b2)]) (c':=#[vv,iv (n:Int),iv 0,.map (some b1),.map (some b2)]) (H':=(bp,.cells #[vv,iv (n:Int),iv 0,.map (some b1),.map (some b2)] 247 zZ)::(b2,.map #[] 0)::(b1,.map #[] 0)::(N++B)) (by subst hvs;exact .head _) rfl zI rfl ?_));refine ht.bV ?_;rw[xaE];refine⟨λvs H=>∃(k:Nat) (N:Hp),vs=[iv (k:Int)]/\k<=L.length/\H=(bp,.cells #[vv,iv (n:Int),iv ((ak.aX n (L.take k):Nat):Int),.map (some b1),.map (some b2)] 247 zZ)::(b2,.map #[] 0)::(b1,.map #[] 0)::(N++B),
  λvs _=>L.length-bN vs 0,JE.mk ⟨0,N,rfl,by omega,rfl⟩,?_⟩
 clear N;rintro w H ⟨k,N,⟨⟩,hk,rfl⟩ gs;refine ae.fC (Br.dec (λhlt=>?_) (λhlt=>?_))
 ·have hg:(L.map λws=>(⟨n,ws⟩:Tb))[k]? =some ⟨n,L[k]⟩:=by rw[xat,xaa hlt];rfl
  have pD:=hf L[k] (xaH hlt);refine ht.ld hg zS λs hw=>?_;intro b3 _;refine St.p ?_ ?_
  ·have:=bQ hw;simpa[Value.oneCell']using this
  refine az.q ?_;refine aa.eq (B:=B) (uZ (v:=.agg (List.toArray [iv (n:Int),s])) (t:=⟨n,L[k]⟩) ⟨s,rfl,hw⟩) ?_;rw[xad (show TF ⟨(n:Int),L[k]⟩from⟨by simp,by simpa using pD⟩)];apply Ext.two;simp only[xbe];have alp:2^n<=2^16:=xax (n:=2) zD wj;have acw:ak.p9 n L[k]<2^n:=ak.nN n L[k] n;have hus:=ak.uV n (L.take k);apply Nil.ptr;refine ai.mk (Ld.mk zM rfl ?_);refine br.q (ae.Kq (by simp[bG];omega) (by simp[bG];omega) ?_);rw[<-EW hlt];refine Nil.ptr (ai.mk (St.one (c:=#[vv,iv (n:Int),iv ((ak.aX n (L.take k):Nat):Int),.map (some b1),.map (some b2)]) (c':=#[vv,iv (n:Int),iv ((ak.aX n (L.take (k+1)):Nat):Int),.map (some b1),.map (some b2)]) (by repeat (first|exact c8.head _|apply c8.tail|apply c8.cr)) rfl zI rfl ?_));exact ae.inc (aC.of .tail ⟨k+1,N,rfl,by omega,rfl⟩ (by simp[bN];omega))
 have:k=L.length:=by omega
 subst this;rw[xbj];refine⟨_,_,rfl,aM.cons aM.swap,(by repeat (first|exact bY.refl _|apply bY.cons|apply bY.app)),Or.inl ⟨hO,bp,b1,b2,n,L,N,rfl,λe=>absurd e hne,wj,hf,rfl,_,_,_,_,rfl,tD _ _⟩⟩
theorem QU{n:Nat}{c:Nat->Nat->Nat}{f a v:Nat}(hv:v∈ak.bO n a)(he:c a v+ak.B n c (ak.aB a v true)=ak.B n c a)(hm:∀u∈ak.bO n a,u<v->c a u+ak.B n c (ak.aB a u true)≠ak.B n c a):
    ak.ord n c (f+1) a=v::ak.ord n c f (ak.aB a v true):=by
  obtain⟨u,h1,h2,h3,h4⟩:=ak.vJ (c:=c) (f:=f) (List.ne_nil_of_mem hv);rcases xcJ u v with h|h|h
  · exact absurd h2 (hm u h1 h)
  · rw[h4,h]
  · exact absurd he (h3 v hv h)
theorem NN{xQ:zV}{n:Nat}{L:List (zL)}{B:Hp}{bp bl bd a:Nat}(ha:a<4611686018427387904){H:Hp}(hp:nq bp bl bd xQ n L 0 B H):
    Fc zQ 185 #[.pointer (some ⟨bp,0,none⟩),iv (a:Int)] H (λr H'=>r=iv 0/\H'=H):=by
  obtain⟨kB,jN,gV,iE,rfl,hM⟩:=hp;refine aI λg=>xI (Nil.ptr ?_);refine ai.mk (Ld.mk zM rfl ?_);refine ae.jE (b:=0) (by simp[bG];omega) (by simp[bG]) (Nil.ptr ?_);refine ai.mk (Ld.mk zM rfl ?_);exact ae.dx (b:=0) (Br.T (aN.here ⟨rfl,rfl⟩))
def aet(ts:List Tb)(B:Hp)(r:zV)(H:Hp):Prop:=
  (¬r5 ts/\r=.tuple #[iv 0,.slice none 0 0,iv 5])\/
  (r5 ts/\∃(n:Nat) (L:List (zL)),ts=Ma n L/\(L=[]->n=0)/\n<=16/\(∀ws∈L,ak.eV n ws)/\
    ((12<n/\r=.tuple #[iv 0,.slice none 0 0,iv 6])\/
     (n<=12/\∃(s:zV) (C N:Hp),r=.tuple #[iv ((ak.B n (ak.lvl n L) 0:Nat):Int),s,iv 0]/\aS 3 .i64 s (iw (ak.ord n (ak.lvl n L) n 0)) C/\H=C++(N++B))))
structure BSt(n:Nat)(c:Nat->Nat->Nat)(s:zV)(a:Nat)(l:zL)(C:Hp):Prop where
  own:aS 3 .i64 s (iw l) C
  lt:a<2^n
  len:(ak.bO n a).length+l.length=n
  pre:l++ak.ord n c (n-l.length) a=ak.ord n c n 0
theorem Li{a v:Nat}:(a>>>v&&&1=0)↔a.testBit v=false:=by
  have:=xc8 (x:=a) (i:=v);rw[this,xbT,xa0];simp
theorem Xe{B:Hp}{v:zV}{ts:List Tb}(ht:jG B v ts)(cI:ts.length<33554432):Px zQ 117 #[v] B (aet ts B):=by
  refine aI λg=>Jr (aa.pq (Nx ht zO) ?_);rintro r N0 (⟨hO,bp,bl,bd,n,L,N,rfl,hn0,wj,hf,rfl,hp⟩|⟨hO,rfl⟩)
  case inr=>exact Ext.mk rfl (Ext.mk rfl (ae.x5 (a:=5) (b:=0) (Br.dec (λ_=>GN.mk (by repeat (first|exact bY.refl _|apply bY.cons|apply bY.app)) (.inl ⟨hO,rfl⟩)) (λh=>absurd zD h))))
  generalize N0++B=H2 at hp⊢;clear N0;rw[p7]at cI;have Pn:=hp;obtain⟨kB,jN,gV,iE,rfl,hM⟩:=hp;refine Ext.mk rfl (Ext.mk rfl (ae.x5 (a:=0) (b:=0) (Br.dec (λh=>absurd rfl h) (λ_=>?_))));apply Nil.ptr;refine ai.mk (Ld.mk zM rfl ?_);refine ae.nE (b:=12) (Br.dec (λKR=>GN.mk (by repeat (first|exact bY.refl _|apply bY.cons|apply bY.app)) (.inr ⟨hO,n,L,rfl,hn0,wj,hf,.inl ⟨KR,rfl⟩⟩)) (λKR=>?_));clear hM;have ux:n<=12:=by omega
  have hOK:L≠[]->xq v n L (N++B):=λhne=>⟨ht.mono zS,hf,hne,cI,ux⟩;have mV:2^n<=2^12:=xax zD ux;have hm0:(ak.bO n 0).length=n:=by
    have:ak.bO n 0=List.range n:=by unfold ak.bO;rw[xcd];simp
    rw[this,xaK]
  refine⟨λvs H=>∃(s:zV) (a:Nat) (l:zL) (C H1:Hp),vs=[s,iv (a:Int)]/\BSt n (ak.lvl n L) s a l C/\nq bp bl bd v n L (ak.aX n L) (N++B) H1/\H=C++H1,
    λvs _=>(ak.bO n (bN vs 1)).length,JE.mk ⟨_,0,[],[],_,rfl,⟨aS.nil,xbw n,by rw[hm0];rfl,by simp⟩,Pn,rfl⟩,?_⟩
  clear Pn kB jN gV iE;rintro w14 w15 H ⟨s,a,l,C,H1,⟨⟩,hb,hp,rfl⟩ gs;have Pn:=hp;obtain⟨kB,jN,gV,iE,rfl,hM⟩:=hp;refine hb.own.bV ?_;rw[aq];apply Nil.ptr;refine ai.mk (Ld.mk zM rfl ?_);have Yh:=hb.len;refine ae.fC (Br.dec (λhlt=>?_) (λhlt=>?_))
  · have agt:ak.bO n a≠[]:=by intro e;rw[e]at Yh;simp at Yh;omega
    have hne:L≠[]:=λe=>by have:=hn0 e;omega
    have zm:=hOK hne;have hnf:n-l.length=n-l.length-1+1:=by omega
    apply Nil.ptr;refine ai.mk (Ld.mk zM rfl ?_);refine⟨λvs H=>∃(k:Nat) (H1:Hp),vs=[w14,iv (a:Int),iv (k:Int)]/\k<=n/\(∀u∈ak.bO n a,u<k->ak.lvl n L a u+ak.B n (ak.lvl n L) (ak.aB a u true)≠ak.B n (ak.lvl n L) a)/\nq bp bl bd v n L (ak.aX n L) (N++B) H1/\H=C++H1,
      λvs _=>n-bN vs 2,JE.mk ⟨0,_,rfl,by omega,λu _ h=>by omega,Pn,rfl⟩,?_⟩
    clear hM Pn;rintro w28 w29 w30 H ⟨k,H1,⟨⟩,hk,hmin,hp,rfl⟩ gs;refine ae.fC (Br.dec (λhlk=>?_) (λhlk=>?_))
    · intro J hJ
      have hpk:2^k<=2^12:=xax zD zO;have hno:∀H1,¬(a.testBit k=false/\ak.lvl n L a k+ak.B n (ak.lvl n L) (ak.aB a k true)=ak.B n (ak.lvl n L) a)->nq bp bl bd v n L (ak.aX n L) (N++B) H1->J [.bool false] (C++H1):=λH1 hx hp=>hJ _ _ λgs=>by
        refine Br.no (ae.inc (aC.mk ⟨k+1,H1,rfl,by omega,λu hu hlu=>?_,hp,rfl⟩ (by rw[iP,iP,iP,iP];show n-(((k:Int)+1).toNat)<n-((k:Int).toNat);omega)));by_cases e:u=k
        · subst e;exact λh=>hx ⟨(ak.cO.1 hu).2,h⟩
        · exact hmin u hu zO
      refine DR.self ?_;have al3:a<4611686018427387904:=by have:=hb.lt;omega
      refine ae.iK (by simp[bG];omega) (ae.jE (b:=1) (by simp[bG];exact xaA (xbm _ _) zO) zD (ae.dx (b:=0) (Br.dec (λh0=>?_) (λh0=>JE.mk (hno H1 (λh=>h0 (Li.2 h.1)) hp)))));have hak:=Li.1 h0;refine ae.Cn (a:=1) (by simp[IntKind.bits];omega) (by rw[xa6];simp[bG];omega) ?_;rw[xa6];refine ae.Kq (by simp[bG];omega) (by simp[bG];omega) ?_;have W5:a|||2^k=ak.aB a k true:=rfl
      rw[W5];intro F;refine aa.fq (C8 zm hp hb.lt hlk hak) ?_;rintro r H2 ⟨rfl,mV⟩;intro F;refine aa.fq (sb zm _ (ak.aB a k true) (xaj _) (ak.fZ hb.lt hlk) H2 mV) ?_;rintro r H3 ⟨rfl,Uj⟩;have hb1:=FG zm a k;have tN:=LD zm (ak.aB a k true);refine ae.fI λF=>(aa.fq (sb zm _ a (xaj _) hb.lt H3 Uj) ?_);rintro r H4 ⟨rfl,hp4⟩;refine ae.dx ?_;by_cases he:ak.lvl n L a k+ak.B n (ak.lvl n L) (ak.aB a k true)=ak.B n (ak.lvl n L) a
      · rw[xam he]
        have hmem:k∈ak.bO n a:=ak.cO.2 ⟨hlk,hak⟩;have Wn:=QU (f:=n-l.length-1) hmem he hmin;have hml:=ak.gP hmem;refine aH.mk (JE.mk (hJ _ _ λgs=>Br.yes ?_));refine ax.int (e:=3) zK zK zK λxb=>?_;refine aS.app (A:=[_]) hb.own (by exact .head _) zP zP λv' C' ho=>?_;refine ae.Cn (a:=1) (by simp[IntKind.bits];omega) (by rw[xa6];simp[bG];omega) ?_;rw[xa6];refine ae.Kq (by simp[bG];omega) (by simp[bG];omega) ?_;rw[W5];refine aC.of .right ⟨v',ak.aB a k true,l++[k],C',H4,rfl,⟨by simpa[iw]using ho,ak.fZ hb.lt hlk,by simp;omega,?_⟩,hp4,rfl⟩ (by rw[iP,iP];show(ak.bO n (ak.aB a k true)).length<(ak.bO n a).length;omega);have:=hb.pre;rw[hnf,Wn]at this;rw[xaf,xb3,Nat.sub_add_eq,xai];exact this
      · rw[xal he]
        exact aH.mk (JE.mk (hno H4 (λh=>he h.2) hp4))
    · obtain⟨u,h1,h2,_⟩:=ak.vJ (c:=ak.lvl n L) (f:=0) agt
      exact absurd h2 (hmin u h1 (by have:=(ak.cO.1 h1).1;omega))
  · have nk:l.length=n:=by omega
    have hl:l=ak.ord n (ak.lvl n L) n 0:=by
      have:=hb.pre;rw[nk,xc7]at this;simpa[ak.ord]using this
    have hown:=hb.own;rw[hl]at hown;by_cases hne:L=[]
    · have hn:=hn0 hne
      subst hne;subst hn;refine aa.fq (NN (a:=0) zO Pn) ?_;rintro r H3 ⟨rfl,rfl⟩;exact⟨_,_,rfl,.refl _,(by repeat (first|exact bY.refl _|apply bY.cons|apply bY.app)),.inr ⟨hO,0,[],rfl,hn0,wj,hf,.inr ⟨ux,_,C,(_::_::_::N),rfl,hown,rfl⟩⟩⟩
    · refine aa.fq (sb (hOK hne) _ 0 (xaj _) (xbw n) _ Pn) ?_
      rintro r H3 ⟨rfl,po,qR,es4,ck4,rfl,hM'⟩;exact⟨_,_,rfl,.refl _,(by repeat (first|exact bY.refl _|apply bY.cons|apply bY.app)),.inr ⟨hO,n,L,rfl,hn0,wj,hf,.inr ⟨ux,_,C,(_::_::_::N),rfl,hown,rfl⟩⟩⟩
end
end Go.Proofs
namespace PC
abbrev It:=Int×Int
def prec(a b:It):Bool:=decide (a.2<b.2)||(a.2==b.2&&decide (a.1<b.1))
theorem vC{a b:It}:prec a b=true↔a.2<b.2\/a.2=b.2/\a.1<b.1:=by simp[prec]
theorem mI{a b:It}:prec a b=false↔¬(a.2<b.2\/a.2=b.2/\a.1<b.1):=by rw[<-vC];simp
theorem nV(a:It):prec a a=false:=by rw[mI];omega
theorem qq{a b:It}(h:prec a b=true):prec b a=false:=by rw[vC]at h;rw[mI];omega
theorem le_trans{a b c:It}(h1:prec b a=false)(h2:prec c b=false):prec c a=false:=by rw[mI]at*;omega
theorem FK{a b c:It}(h1:prec a b=true)(h2:prec c b=false):prec c a=false:=by rw[vC]at h1;rw[mI]at*;omega
def ij(V:Nat->It)(i:Nat)(b:It):Nat->It:=λj=>if j=i then b else V j
def E(V:Nat->It)(j:Nat):Prop:=prec (V j) (V ((j-1) /2))=false
def Ai(n:Nat)(V:Nat->It)(i:Nat):Prop:=
 (∀j,0<j->j<n->j≠i->(j-1) /2≠i->E V j)/\(∀j,0<j->j<n->(j-1) /2=i->0<i->prec (V j) (V ((i-1) /2))=false)
def pA(n:Nat)(V:Nat->It)(i:Nat):Prop:=∀j,0<j->j<n->(j-1) /2=i->E V j
def Xz(n:Nat)(V:Nat->It)(i:Nat):Prop:=
 (∀j,0<j->j<n->(j-1) /2≠i->E V j)/\(∀j,0<j->j<n->(j-1) /2=i->0<i->prec (V j) (V ((i-1) /2))=false)
def Ord(n:Nat)(V:Nat->It):Prop:=∀j,0<j->j<n->E V j
theorem UK{n i:Nat}{V:Nat->It}(hi:0<i)(hn:i<n)(h:Ai n V i)(ha:prec (V i) (V ((i-1) /2))=true):
  Ai n (ij (ij V i (V ((i-1) /2))) ((i-1) /2) (V i)) ((i-1) /2)/\pA n (ij (ij V i (V ((i-1) /2))) ((i-1) /2) (V i)) ((i-1) /2):=by
 obtain⟨h1,h2⟩:=h;have hq:(i-1) /2≠i:=by omega
 generalize hqd:(i-1) /2=q at*;have hqi:q<i:=by omega
 refine⟨⟨?_,?_⟩,?_⟩
 ·intro j j0 jn jq jp;unfold E ij;rw[xab jq,xab jp];by_cases e1:j=i
  ·exact absurd (by rw[e1,hqd]) jp
  rw[xab e1];by_cases e2:(j-1) /2=i
  ·rw[xad e2];exact h2 j j0 jn e2 hi
  rw[xab e2];exact h1 j j0 jn e1 e2
 ·intro j j0 jn jp q0;unfold ij;have hqq:(q-1) /2≠q:=by omega
  have agh:(q-1) /2≠i:=by omega
  rw[xab hqq,xab agh];have hjq:j≠q:=by omega
  rw[xab hjq];have Wl:E V q:=h1 q q0 zO hq zO;by_cases e1:j=i
  ·rw[xad e1];exact Wl
  rw[xab e1];have:=h1 j j0 jn e1 zO;unfold E at this Wl;rw[jp]at this;exact le_trans Wl this
 intro j j0 jn jp;unfold E ij;rw[jp,xad rfl];have hjq:j≠q:=by omega
 rw[xab hjq];by_cases e1:j=i
 ·rw[xad e1];exact qq ha
 rw[xab e1];have:=h1 j j0 jn e1 zO;unfold E at this;rw[jp]at this;exact FK ha this
theorem UL{n i:Nat}{V:Nat->It}(h:Ai n V i)(ha:i=0\/prec (V i) (V ((i-1) /2))=false):Xz n V i:=by
 refine⟨λj j0 jn jp=>?_,h.2⟩;by_cases e:j=i
 ·subst e;rcases ha with ha|ha
  ·omega
  exact ha
 exact h.1 j j0 jn e jp
theorem zJ{n i:Nat}{V:Nat->It}(h:Xz n V i)(hc:pA n V i):Ord n V:=λj j0 jn=>by
 by_cases e:(j-1) /2=i
 ·exact hc j j0 jn e
 exact h.1 j j0 jn e
def zg(n:Nat)(V:Nat->It)(i:Nat):Nat:=if(decide (2*i+1+1<n) &&prec (V (2*i+1+1)) (V (2*i+1)))=true then 2*i+1+1 else 2*i+1
theorem sK(n:Nat)(V:Nat->It)(i:Nat):zg n V i=2*i+1\/zg n V i=2*i+2/\2*i+2<n:=by
 unfold zg;split
 ·rename_i h;simp only[xaF,xaJ]at h;right;omega
 left;rfl
theorem zf{n i j:Nat}{V:Nat->It}(j0:0<j)(jn:j<n)(jp:(j-1) /2=i):prec (V j) (V (zg n V i))=false:=by
 unfold zg;split
 ·rename_i h;simp only[xaF,xaJ]at h;rcases(show j=2*i+1\/j=2*i+1+1 by omega)with rfl|rfl
  ·exact qq h.2
  exact nV _
 rename_i h;rcases(show j=2*i+1\/j=2*i+1+1 by omega)with rfl|rfl
 ·exact nV _
 cases hh:prec (V (2*i+1+1)) (V (2*i+1))
 ·rfl
 exact absurd (by simp[hh,jn]) h
theorem s6{n i:Nat}{V:Nat->It}(h:Xz n V i)(hk:zg n V i<n)(ha:prec (V (zg n V i)) (V i)=true):
  Xz n (ij (ij V i (V (zg n V i))) (zg n V i) (V i)) (zg n V i):=by
 have hl:∀j,0<j->j<n->(j-1) /2=i->prec (V j) (V (zg n V i))=false:=λj=>zf;have hkc:=sK n V i;generalize zg n V i=c at*;obtain⟨h1,h2⟩:=h;have hcp:(c-1) /2=i:=by omega
 have hc0:0<c:=by omega
 have pP:c≠i:=by omega
 refine⟨?_,?_⟩
 ·intro j j0 jn jp;unfold E ij;rw[xab jp];by_cases e1:j=c
  ·rw[xad e1,xad (by rw[e1];exact hcp)];exact qq ha
  rw[xab e1];by_cases e2:j=i
  ·rw[xad e2];have:(j-1) /2≠i:=by omega
   rw[xab this,e2];exact h2 c hc0 hk hcp zO
  rw[xab e2];by_cases e3:(j-1) /2=i
  ·rw[xad e3];exact hl j j0 jn e3
  rw[xab e3];exact h1 j j0 jn e3
 intro j j0 jn jp _;unfold ij;rw[hcp];have:j≠c:=by omega
 have e2:j≠i:=by omega
 rw[xab this,xab e2,xab (λe=>pP e.symm),xad rfl];have:=h1 j j0 jn zO;unfold E at this;rwa [jp]at this
theorem NA{n i:Nat}{V:Nat->It}(h:Xz n V i)(ha:n<=zg n V i\/prec (V (zg n V i)) (V i)=false):Ord n V:=by
 refine zJ h λj j0 jn jp=>?_;have hl:=zf (V:=V) j0 jn jp;rcases ha with ha|ha
 ·rcases sK n V i with h|h<;>omega
 unfold E;rw[jp];exact le_trans ha hl
theorem Vy{n:Nat}{V:Nat->It}(h:Ord n V):∀j,j<n->prec (V j) (V 0)=false:=by
 intro j;induction j using Nat.strongRecOn with
 |_ j ih=>
  intro jn;by_cases j0:j=0
  ·subst j0;exact nV _
  exact le_trans (ih ((j-1) /2) zO zO) (h j zO jn)
def aZ(l:List It)(j:Nat):It:=l.getD j (0,0)
theorem Xi{l:List It}{j:Nat}(h:j<l.length):l[j]? =some (aZ l j):=by simp[aZ,List.getD,h]
theorem g9{l:List It}{i:Nat}(b:It)(h:i<l.length):aZ (l.set i b)=ij (aZ l) i b:=by
 funext j
 unfold aZ ij;simp only[List.getD,xbn];by_cases e:i=j
 ·subst e;simp[h]
 rw[xab e,xab (λx=>e x.symm)]
theorem qj{l:List It}{i:Nat}(h:i<l.length):l.set i (aZ l i)=l:=by
 apply xbd;intro j;rw[xbn];by_cases e:i=j
 ·subst e;simp[h,aZ,List.getD]
 simp[e]
theorem swap_perm{l:List It}{i q:Nat}(hi:i<l.length)(hq:q<l.length)(hne:q≠i):((l.set i (aZ l q)).set q (aZ l i)).Perm l:=by
 rw[xcs];intro x;have g1:l[i]=aZ l i:=by simp[aZ,List.getD,hi]
 have g2:l[q]=aZ l q:=by simp[aZ,List.getD,hq]
 have g3:(l.set i (aZ l q))[q]'(by simp[hq])=aZ l q:=by rw[List.getElem_set_ne (λe=>hne e.symm)];exact g2
 rw[xdL (by simp[hq]),xdL hi,g1,g3];have hc:aZ l i=x->0<l.count x:=λe=>by rw[xbN,<-e,<-g1];exact xaH hi
 by_cases e1:aZ l i=x
 ·have:=hc e1;by_cases e2:aZ l q=x<;>simp[e1,e2]<;>omega
 by_cases e2:aZ l q=x<;>simp[e1,e2]
def j6(l:List It):Prop:=(l.map Prod.fst).Nodup
theorem j6.perm{l l':List It}(h:j6 l)(p:l'.Perm l):j6 l':=(p.map _).nodup_iff.2 h
theorem j6.inj{l:List It}(h:j6 l){i j:Nat}(hi:i<l.length)(hj:j<l.length)(e:(aZ l i).1=(aZ l j).1):i=j:=by
 unfold j6 at h;have hp:=List.pairwise_iff_getElem.1 h;have g:∀k (hk:k<l.length),(l.map Prod.fst)[k]'(by simpa using hk)=(aZ l k).1:=λk hk=>by simp[aZ,List.getD,hk]
 rcases xcJ i j with hlt|rfl|hlt
 ·have:=hp i j (by simpa using hi) (by simpa using hj) hlt;rw[g i hi,g j hj]at this;exact absurd e this
 ·rfl
 have:=hp j i (by simpa using hj) (by simpa using hi) hlt;rw[g i hi,g j hj]at this;exact absurd e.symm this
theorem iy{l:List It}{x:Int}:x∈l.map Prod.fst↔∃j,j<l.length/\(aZ l j).1=x:=by
 rw[xba];constructor
 ·rintro⟨j,hj,e⟩;have hj':j<l.length:=by simpa using hj
  exact⟨j,hj',by simpa[aZ,List.getD,hj']using e⟩
 rintro⟨j,hj,e⟩;exact⟨j,by simpa using hj,by simpa[aZ,List.getD,hj]using e⟩
def Ey(f:Int->Option Nat)(x:Int)(p:Option Nat):Int->Option Nat:=λy=>if y=x then p else f y
def nv(l:List It)(f:Int->Option Nat)(i:Nat):Prop:=(∀j,j<l.length->j≠i->f (aZ l j).1=some j)/\∀x,x∉l.map Prod.fst->f x=none
def Cons(l:List It)(f:Int->Option Nat):Prop:=(∀j,j<l.length->f (aZ l j).1=some j)/\∀x,x∉l.map Prod.fst->f x=none
theorem nv.done{l:List It}{f:Int->Option Nat}{i:Nat}(h:nv l f i)(ho:j6 l)(hi:i<l.length):Cons l (Ey f (aZ l i).1 (some i)):=by
 refine⟨λj hj=>?_,λx hx=>?_⟩
 ·unfold Ey;by_cases e:(aZ l j).1=(aZ l i).1
  ·rw[xad e,ho.inj hj hi e]
  rw[xab e];exact h.1 j hj (λe2=>e (by rw[e2]))
 unfold Ey;rw[xab (λe=>hx (iy.2 ⟨i,hi,e.symm⟩))];exact h.2 x hx
theorem nv.step{l:List It}{f:Int->Option Nat}{i q:Nat}(h:nv l f i)(ho:j6 l)(hi:i<l.length)(hq:q<l.length)(hne:q≠i):
  nv ((l.set i (aZ l q)).set q (aZ l i)) (Ey f (aZ l q).1 (some i)) q:=by
 have BS:∀j,aZ ((l.set i (aZ l q)).set q (aZ l i)) j=ij (ij (aZ l) i (aZ l q)) q (aZ l i) j:=λj=>by rw[g9 _ (by simpa using hq),g9 _ hi]
 refine⟨λj hj hjq=>?_,λx hx=>?_⟩
 ·rw[BS];simp only[xbR]at hj;unfold ij Ey;rw[xab hjq];by_cases e:j=i
  ·rw[xad e,xad rfl,e]
  rw[xab e];rw[xab (λe2=>hjq (ho.inj hj hq e2))];exact h.1 j hj e
 have hx':x∉l.map Prod.fst:=λhm=>hx (by
  have:=(swap_perm hi hq hne).map Prod.fst;exact this.mem_iff.2 hm)
 unfold Ey;rw[xab (λe=>hx' (iy.2 ⟨q,hq,e.symm⟩))];exact h.2 x hx'
end PC
namespace PC
open Go Go.Sx
def enc(kd:IntKind)(a:It):List zV:=[.int kd a.1,.int .i64 a.2]
def eS(kd:IntKind)(l:List It):List (List zV):=l.map (enc kd)
theorem cQ(kd:IntKind)(l:List It):(eS kd l).length=l.length:=by simp[eS]
theorem Nw(kd:IntKind)(l:List It):∀r∈eS kd l,r.length=2:=λr hr=>by
 obtain⟨a,_,rfl⟩:=xan.1 hr;rfl
theorem fV{kd:IntKind}{l:List It}{i:Nat}(h:i<l.length)(aK:List (List zV)):(eS kd l++aK)[i]? =some (enc kd (aZ l i)):=by
 rw[xaY (by rw[cQ];exact h),eS,xat,Xi h];rfl
theorem SV{kd:IntKind}{l:List It}{i:Nat}(h:i<l.length)(a:It)(aK:List (List zV)):(eS kd l++aK).set i (enc kd a)=eS kd (l.set i a)++aK:=by
 rw[xc0 _ _ (by rw[cQ];exact h),eS,eS,xcQ]
def idx(i:Nat):zV:=.int .i64 (i:Int)
def HO(kd:IntKind)(TI TH:TypeId)(h:zV)(l:List It)(f:Int->Option Nat)(C:Hp):Prop:=
 ∃bh sv mv Cs Cm,h=.pointer (some ⟨bh,0,none⟩)/\C=(bh,Obj.cells #[sv,mv] TH (0,0))::(Cs++Cm)/\aV TI 2 sv (eS kd l) Cs/\kZ kd idx mv f Cm/\(mv=.map none->l=[])
theorem HO.open{kd:IntKind}{TI TH:TypeId}{h:zV}{l:List It}{f:Int->Option Nat}{C:Hp}(H:HO kd TI TH h l f C)(hp:0<l.length):
  ∃bh la mb aK Cm,h=.pointer (some ⟨bh,0,none⟩)/\
   C=(bh,Obj.cells #[.slice (some ⟨la,0,none⟩) l.length (l.length+aK.length),.map (some mb)] TH (0,0))::(la,.cells (rows (eS kd l++aK)) TI (0,0))::Cm/\
   (∀r∈eS kd l++aK,r.length=2)/\kZ kd idx (.map (some mb)) f Cm:=by
 obtain⟨bh,sv,mv,Cs,Cm,rfl,rfl,hs,hm,hne⟩:=H;obtain⟨la,aK,rfl,rfl,aJ⟩:=hs.pos (by rw[cQ];exact hp);rw[cQ];rcases hm with⟨rfl,_⟩|⟨mb,m,ck,rfl,h2⟩
 ·rw[hne rfl]at hp;simp at hp
 exact⟨bh,la,mb,aK,Cm,rfl,rfl,aJ,.inr ⟨mb,m,ck,rfl,h2⟩⟩
theorem HO.shut{kd:IntKind}{TI TH:TypeId}{bh la mb n c:Nat}{aK:List (List zV)}{Cm:Hp}{l:List It}{f:Int->Option Nat}(aJ:∀r∈eS kd l++aK,r.length=2)(hn:n=l.length)(hc:c=l.length+aK.length)
 (hm:kZ kd idx (.map (some mb)) f Cm):
  HO kd TI TH (.pointer (some ⟨bh,0,none⟩)) l f ((bh,Obj.cells #[.slice (some ⟨la,0,none⟩) n c,.map (some mb)] TH (0,0))::(la,.cells (rows (eS kd l++aK)) TI (0,0))::Cm):=
 ⟨bh,_,_,[_],Cm,rfl,rfl,aV.mk' aJ (by rw[cQ];exact hn) (by rw[cQ];exact hc),hm,λh=>by simp at h⟩
theorem Qw{l aK:List (List zV)}(h:∀r∈l++aK,r.length=2)(kd:IntKind)(l':List It):∀r∈eS kd l'++aK,r.length=2:=λr hr=>by
 rcases xao.1 hr with hr|hr
 ·exact Nw kd l' r hr
 exact h r (by simp[hr])
theorem pw(kd:IntKind)(a:It):∀v∈enc kd a,v.oneCell'=true:=by simp[enc,Value.oneCell']
end PC
namespace PC
open Go Go.Sx
theorem YZ(j:Nat)(h:0<j):((j-1:Nat):Int).tdiv 2=(((j-1) /2:Nat):Int):=by
 rw[Int.tdiv_eq_ediv_of_nonneg zO];omega
theorem vi{l:List It}{i q:Nat}(a:It)(hi:i<l.length)(hq:q<l.length)(hne:q≠i):((l.set i a).set i (aZ (l.set i a) q)).set q (aZ (l.set i a) i)=(l.set i (aZ l q)).set q a:=by
 rw[g9 a hi,List.set_set];simp[ij,hne]
def HI(kd:IntKind)(TI TH:TypeId)(h:zV)(l:List It)(C:Hp):Prop:=∃f,HO kd TI TH h l f C/\Cons l f/\Ord l.length (aZ l)/\j6 l
theorem GG{l:List It}{a:It}{j:Nat}(h:j<l.length):aZ (l++[a]) j=aZ l j:=by simp[aZ,List.getD,xaY h]
theorem QE{l:List It}{f:Int->Option Nat}{a:It}(hc:Cons l f)(ho:Ord l.length (aZ l))(h1:j6 l)(hx:a.1∉l.map Prod.fst):
  Ai (l++[a]).length (aZ (l++[a])) l.length/\nv (l++[a]) f l.length/\j6 (l++[a])/\pA (l++[a]).length (aZ (l++[a])) l.length:=by
 simp only[xaf,xaz,xce,xa5];refine⟨⟨λj j0 jn jne jp=>?_,λj j0 jn jp=>by omega⟩,⟨λj jn jne=>?_,λx hx'=>?_⟩,?_,λj j0 jn jp=>by omega⟩
 ·unfold E;rw[GG zO,GG zO];exact ho j j0 zO
 ·simp only[xaf,xaz,xce]at jn;rw[GG zO];exact hc.1 j zO
 ·exact hc.2 x (λh=>hx' (by rw[xaB,xao];exact .inl h))
 unfold j6 at*;rw[xaB,xa3];exact⟨h1,by simp,λa' dQ b hb=>by simp at hb;subst hb;intro e;subst e;exact hx dQ⟩
theorem Te{l:List It}{f:Int->Option Nat}(hc:Cons l f){x:Int}:(x∉l.map Prod.fst/\f x=none)\/∃i,i<l.length/\(aZ l i).1=x/\f x=some i:=by
 by_cases h:x∈l.map Prod.fst
 ·obtain⟨j,hj,e⟩:=iy.1 h;exact .inr ⟨j,hj,e,by rw[<-e];exact hc.1 j hj⟩
 exact .inl ⟨h,hc.2 x h⟩
theorem Vq{l:List It}{f:Int->Option Nat}(hc:Cons l f)(ho:Ord l.length (aZ l))(h1:j6 l){n:Nat}(hn:l.length=n+1):
  let l':=l.take n
  ((0<n->(aZ l n)::(l'.set 0 (aZ l n)).tail=l'.set 0 (aZ l n)/\(aZ l 0::l'.set 0 (aZ l n)).Perm l/\Xz n (aZ (l'.set 0 (aZ l n))) 0/\j6 (l'.set 0 (aZ l n))/\
   nv (l'.set 0 (aZ l n)) (Ey f (aZ l 0).1 none) 0)):=by
 intro l' hn0;have hl':l'.length=n:=by simp[l',hn]
 have dK:(aZ l 0::l'.set 0 (aZ l n)).Perm l:=by
  rw[xcs];intro x;have e:l=l'++[aZ l n]:=by
   have:l=l.take n++l.drop n:=(xbq n l).symm;have h2:l.drop n=[aZ l n]:=by
    rw[xbr zO,xdj zO];simp[hn,aZ,List.getD]
   rw[h2]at this;exact this
  have g0:l'[0]' zO=aZ l 0:=by simp[l',aZ,List.getD,hn]
  conv=>rhs;rw[e]
  rw[xb5,xdL zO,g0,xbf];have hc0:aZ l 0=x->0<l'.count x:=λe=>by rw[xbN,<-e,<-g0];exact xaH _
  by_cases e1:aZ l 0=x
  ·have:=hc0 e1;by_cases e2:aZ l n=x<;>simp[e1,e2]<;>omega
  by_cases e2:aZ l n=x<;>simp[e1,e2]
 have BS:∀j,j<n->j≠0->aZ (l'.set 0 (aZ l n)) j=aZ l j:=λj hj h0=>by
  rw[g9 _ zO];simp[ij,h0,l',aZ,List.getD,hj]
 have hO:j6 (l'.set 0 (aZ l n)):=by
  have:=(h1.perm dK:j6 _);unfold j6 at this⊢;simp only[xay,xaW]at this;exact this.2
 refine⟨?_,dK,⟨λj j0 jn jp=>?_,λj j0 jn jp h=>by omega⟩,hO,λj hj ZX=>?_,λx hx=>?_⟩
 ·cases hh:l' with
  |nil=>rw[hh]at hl';simp at hl';omega
  |cons a r=>simp
 ·unfold E;rw[BS j jn zO,BS _ zO jp];exact ho j j0 zO
 ·simp only[xbR,hl']at hj;rw[BS j hj ZX];unfold Ey;rw[xab (λe=>ZX (h1.inj zO zO e))];exact hc.1 j zO
 unfold Ey;by_cases e:x=(aZ l 0).1
 ·rw[xad e]
 rw[xab e];refine hc.2 x λhm=>hx ?_;have:=(dK.map Prod.fst).mem_iff.2 hm;simp only[xay,xak]at this;rcases this with h|h
 ·exact absurd h e
 exact h
end PC
set_option maxRecDepth 100000
namespace Go.Proofs
open Go Go.Sx
section
open PC
abbrev UB:=HO .i64 295 293
abbrev Xw:=HI .i64 295 293
theorem xk(a b:It)(B:Hp):Rd zQ 265 #[.agg #[iv a.1,iv a.2],.agg #[iv b.1,iv b.2]] B (· =.bool (prec a b)):=by
 refine aI λg=>Hf λb1 _ b2 _=>?_
 (repeat (first|apply ai.mk|refine Ld.mk (by repeat (first|exact List.Mem.head _|apply List.Mem.tail|apply xac)) rfl ?_|apply ae.eql|apply ae.geq))
 refine cS.or (a.2==b.2&&decide (a.1<b.1)) (λ_=>?_) rfl λ_=>bc.mk (.skip .tail) rfl
 (repeat (first|apply ai.mk|refine Ld.mk (by repeat (first|exact List.Mem.head _|apply List.Mem.tail|apply xac)) rfl ?_|apply ae.eql|apply ae.geq))
 refine cS.and (decide (a.1<b.1)) (λ_=>?_) rfl λ_=>⟨rfl,rfl⟩
 (repeat (first|apply ai.mk|refine Ld.mk (by repeat (first|exact List.Mem.head _|apply List.Mem.tail|apply xac)) rfl ?_|apply ae.eql|apply ae.geq))
 exact⟨rfl,rfl⟩
theorem rI{h:zV}{l:List It}{f:Int->Option Nat}{C:Hp}(ho:UB h l f C){i:Nat}(hi:i<l.length)(a:It):
  Fc zQ 226 #[h,iv (i:Int),.agg #[iv a.1,iv a.2]] C (λv C'=>v=.tuple #[]/\UB h (l.set i a) (Ey f a.1 (some i)) C'):=by
 obtain⟨bh,la,mb,aK,Cm,rfl,rfl,aJ,hm⟩:=ho.open zO;refine aI λg=>HT λb1 _=>?_;refine DR.self ?_
 (repeat (first|apply Nil.ptr|apply ai.mk|refine Ld.mk (by repeat (first|exact List.Mem.head _|apply List.Mem.tail|apply xac)) rfl ?_))
 refine az.whole (r:=enc .i64 a) zM rfl ?_;refine av.nat hi ?_;refine St.row (l:=eS .i64 l++aK) (by repeat (first|exact c8.head _|apply c8.tail|apply c8.cr)) aJ (by rw[xaf,cQ];omega) rfl (pw _ _) ?_;refine DR.self ?_
 (repeat (first|apply Nil.ptr|apply ai.mk|refine Ld.mk (by repeat (first|exact List.Mem.head _|apply List.Mem.tail|apply xac)) rfl ?_))
 rw[<-xaL Cm];refine kZ.bK (p:=i) (A:=[_,_,_]) (B:=[]) hm λC' hm'=>?_;refine⟨_,_,rfl,.tail,rfl,?_⟩;rw[SV hi,xaL];exact .shut (Qw aJ _ _) zI zI hm'
theorem ZB{h:zV}{l:List It}{f:Int->Option Nat}{C:Hp}(ho:UB h l f C){i:Nat}(hi:i<l.length)(cI:l.length<4611686018427387904)(hu:Ai l.length (aZ l) i)(hc:nv l f i)(hO:j6 l):
  Fc zQ 225 #[h,iv (i:Int)] C (λv C'=>v=.tuple #[]/\∃l' f' p,UB h l' f' C'/\l'.Perm l/\Cons l' f'/\Xz l'.length (aZ l') p/\p<l'.length/\aZ l' p=aZ l i/\
   (pA l.length (aZ l) i->Ord l'.length (aZ l'))):=by
 obtain⟨bh,la,mb,aK,Cm,rfl,rfl,aJ,hm⟩:=ho.open zO;obtain⟨n,hn⟩:∃n,n=l.length:=⟨_,rfl⟩;obtain⟨a,ha⟩:∃a,a=aZ l i:=⟨_,rfl⟩;refine aI λg=>HU ?_
 (repeat (first|apply Nil.ptr|apply ai.mk|refine Ld.mk (by repeat (first|exact List.Mem.head _|apply List.Mem.tail|apply xac)) rfl ?_))
 refine av.nat hi ?_;refine az.row (l:=eS .i64 l++aK) zM aJ (fV hi aK) ?_;intro b6 _;refine St.p (pw _ _) ?_;rw[<-ha];refine⟨λvs H=>∃(j:Nat) (L:List It) (f:Int->Option Nat) (C:Hp),vs=[iv (j:Int)]/\H=(b6,Obj.cells (enc .i64 a).toArray 295 zZ)::C/\UB (.pointer (some ⟨bh,0,none⟩)) L f C/\L.length=n/\j<n/\
   (L.set j a).Perm l/\Ai n (aZ (L.set j a)) j/\nv (L.set j a) f j/\(pA n (aZ l) i->pA n (aZ (L.set j a)) j),
  λvs _=>bN vs 0,.mk ⟨i,l,f,_,rfl,rfl,ho,hn.symm,by omega,?_,?_,?_,?_⟩,?_⟩
 ·exact(by rw[ha,qj hi])
 ·rw[ha,qj hi,hn];exact hu
 ·rw[ha,qj hi];exact hc
 ·rw[ha,qj hi];exact id
 rintro w H ⟨j,L,f,C,hw,rfl,ho,hLn,hj,hp,hu,hc,kj⟩ gs;simp only[xau,xa1]at hw;subst hw;have ho0:=ho;obtain⟨bh',la,mb,aK,Cm,hbh,rfl,aJ,hm⟩:=ho.open zO;simp only[Value.pointer.injEq,xar,Addr.mk.injEq,xa1]at hbh;subst hbh;have hOV:j6 (L.set j a):=hO.perm hp;have hlV:(L.set j a).length=n:=by simp[hLn]
 have Yl:aZ (L.set j a) j=a:=by rw[g9 a zO];simp[ij]
 have hVq:0<j->aZ (L.set j a) ((j-1) /2)=aZ L ((j-1) /2):=λh0=>by rw[g9 a zO];simp[ij,show¬((j-1) /2=j)from by omega]
 intro J hJ;have hend:¬(0<j/\prec a (aZ L ((j-1) /2))=true)->J [.bool false] ((b6,Obj.cells (enc .i64 a).toArray 295 zZ)::(bh,Obj.cells #[.slice (some ⟨la,0,none⟩) L.length (L.length+aK.length),.map (some mb)] 293 zZ)::(la,.cells (rows (eS .i64 L++aK)) 295 zZ)::Cm):=λhno=>hJ _ _ λgs=>by
  refine Br.no (az.q ?_);refine aa.fq (rI ho0 (i:=j) zO a) ?_;rintro v C' ⟨rfl,cz⟩;have hd:=hc.done hOV zO;rw[Yl]at hd;have hex:=UL hu (by
   by_cases h0:j=0
   ·exact .inl h0
   right;rw[Yl,hVq zO];cases h:prec a (aZ L ((j-1) /2))
   ·rfl
   exact absurd ⟨by omega,h⟩ hno)
  rw[<-hlV]at hex;exact⟨_,_,rfl,.tail,rfl,_,_,j,cz,hp,hd,hex,by omega,by rw[Yl,ha],λhk=>zJ hex (by rw[hlV];exact kj (by rw[hn];exact hk))⟩
 refine DR.self (ae.gtr (Br.dec (λh0=>?_) (λh0=>JE.mk (hend (λh=>h0 zO)))));have h0:0<j:=by omega
 refine az.q ?_
 (repeat (first|apply Nil.ptr|apply ai.mk|refine Ld.mk (by repeat (first|exact List.Mem.head _|apply List.Mem.tail|apply xac)) rfl ?_))
 refine ae.lq (c:=((j-1:Nat):Int)) zO zO (ae.QA zD (YZ j h0) zO (av.nat zO ?_));refine az.row (l:=eS .i64 L++aK) zM aJ (fV zO aK) ?_;intro F;refine aa.eq (xk a _ _) (⟨.refl _,?_⟩);cases X6:prec a (aZ L ((j-1) /2))with
 |false=>exact aH.mk (JE.mk (hend (λh=>by rw[X6]at h;exact absurd h.2 zD)))
 |true=>
 refine aH.mk (JE.mk (hJ _ _ λgs=>Br.yes ?_))
 (repeat (first|apply Nil.ptr|apply ai.mk|refine Ld.mk (by repeat (first|exact List.Mem.head _|apply List.Mem.tail|apply xac)) rfl ?_))
 refine ae.lq (c:=((j-1:Nat):Int)) zO zO (ae.QA zD (YZ j h0) zO (av.nat zO ?_));refine az.row (l:=eS .i64 L++aK) zM aJ (fV zO aK) ?_;refine aa.fq (rI ho0 (i:=j) zO (aZ L ((j-1) /2))) ?_;rintro v C' ⟨rfl,cz⟩;refine ae.lq (c:=((j-1:Nat):Int)) zO zO (ae.QA zD (YZ j h0) zO ?_);have hst:=UK h0 (by rw[<-hlV]at hj;rw[hlV]at hj;exact hj) hu (by rw[Yl,hVq h0];exact X6);have hcs:=hc.step hOV (i:=j) (q:=(j-1) /2) zO zO zO;have hpp:=(swap_perm (l:=L.set j a) (i:=j) (q:=(j-1) /2) zO zO zO).trans hp;have hVV:(L.set j (aZ L ((j-1) /2))).set ((j-1) /2) a=((L.set j a).set j (aZ (L.set j a) ((j-1) /2))).set ((j-1) /2) (aZ (L.set j a) j):=(vi a zO zO zO).symm;have BS:aZ ((L.set j (aZ L ((j-1) /2))).set ((j-1) /2) a)=ij (ij (aZ (L.set j a)) j (aZ (L.set j a) ((j-1) /2))) ((j-1) /2) (aZ (L.set j a) j):=by
  rw[hVV,g9 _ zP,g9 _ zO]
 refine aC.mk ⟨(j-1) /2,_,_,C',rfl,rfl,cz,by simp[hLn],by omega,?_,?_,?_,λ_=>?_⟩ ?_
 ·rw[hVV];exact hpp
 ·rw[BS];exact hst.1
 ·rw[hVV];rw[hVq h0]at hcs⊢;exact hcs
 ·rw[BS];exact hst.2
 simp only[bN,xbe];omega
end
section
open PC
theorem Sa{h:zV}{l:List It}{f:Int->Option Nat}{C:Hp}(ho:UB h l f C){i:Nat}(hi:i<l.length)(cI:l.length<4611686018427387904)(hu:Xz l.length (aZ l) i)(hc:nv l f i)(hO:j6 l):
  Fc zQ 227 #[h,iv (i:Int)] C (λv C'=>v=.tuple #[]/\∃l' f',UB h l' f' C'/\l'.Perm l/\Cons l' f'/\Ord l'.length (aZ l')):=by
 obtain⟨bh,la,mb,aK,Cm,rfl,rfl,aJ,hm⟩:=ho.open zO;obtain⟨n,hn⟩:∃n,n=l.length:=⟨_,rfl⟩;obtain⟨a,ha⟩:∃a,a=aZ l i:=⟨_,rfl⟩;refine aI λg=>HR ?_
 (repeat (first|apply Nil.ptr|apply ai.mk|refine Ld.mk (by repeat (first|exact List.Mem.head _|apply List.Mem.tail|apply xac)) rfl ?_|apply aR.mk|apply ae.geq))
 refine av.nat hi ?_;refine az.row (l:=eS .i64 l++aK) zM aJ (fV hi aK) ?_;intro b6 _;refine St.p (pw _ _) ?_;rw[<-ha];refine⟨λvs H=>∃(j:Nat) (L:List It) (f:Int->Option Nat) (C:Hp),vs=[iv (j:Int)]/\H=(b6,Obj.cells (enc .i64 a).toArray 295 zZ)::C/\UB (.pointer (some ⟨bh,0,none⟩)) L f C/\L.length=n/\j<n/\
   (L.set j a).Perm l/\Xz n (aZ (L.set j a)) j/\nv (L.set j a) f j,
  λvs _=>n-bN vs 0,.mk ⟨i,l,f,_,rfl,rfl,ho,hn.symm,by omega,?_,?_,?_⟩,?_⟩
 ·exact(by rw[ha,qj hi])
 ·rw[ha,qj hi,hn];exact hu
 ·rw[ha,qj hi];exact hc
 rintro w H ⟨j,L,f,C,hw,rfl,ho,hLn,hj,hp,hu,hc⟩ gs;simp only[xau,xa1]at hw;subst hw;have ho0:=ho;obtain⟨bh',la,mb,aK,Cm,hbh,rfl,aJ,hm⟩:=ho.open zO;simp only[Value.pointer.injEq,xar,Addr.mk.injEq,xa1]at hbh;subst hbh;have hOV:j6 (L.set j a):=hO.perm hp;have hlV:(L.set j a).length=n:=by simp[hLn]
 have Yl:aZ (L.set j a) j=a:=by rw[g9 a zO];simp[ij]
 have hVL:∀c,c≠j->aZ (L.set j a) c=aZ L c:=λc h0=>by rw[g9 a zO];simp[ij,h0]
 refine ae.ab4 (c:=((2*j:Nat):Int)) zO zO (ae.Eo (c:=((2*j+1:Nat):Int)) zO zO λJ hJ=>?_);obtain⟨c,hcd⟩:∃c,c=zg n (aZ (L.set j a)) j:=⟨_,rfl⟩;have hkc:=sK n (aZ (L.set j a)) j;rw[<-hcd]at hkc;have ji:J [iv (c:Int)] ((b6,Obj.cells (enc .i64 a).toArray 295 zZ)::(bh,Obj.cells #[.slice (some ⟨la,0,none⟩) L.length (L.length+aK.length),.map (some mb)] 293 zZ)::(la,.cells (rows (eS .i64 L++aK)) 295 zZ)::Cm):=by
  refine hJ _ _ λgs2=>?_;intro J2 BV;have hstop:n<=c\/prec (aZ L c) a=false->J2 [.bool true] ((b6,Obj.cells (enc .i64 a).toArray 295 zZ)::(bh,Obj.cells #[.slice (some ⟨la,0,none⟩) L.length (L.length+aK.length),.map (some mb)] 293 zZ)::(la,.cells (rows (eS .i64 L++aK)) 295 zZ)::Cm):=λhst=>BV _ _ λgs=>by
   refine Br.yes (az.q ?_);refine aa.fq (rI ho0 (i:=j) zO a) ?_;rintro v C' ⟨rfl,cz⟩;have hd:=hc.done hOV zO;rw[Yl]at hd;have hex:=NA hu (by
    rw[<-hcd];by_cases h0:n<=c
    ·exact .inl h0
    right;rw[Yl,hVL c zO];rcases hst with h|h
    ·omega
    exact h)
   rw[<-hlV]at hex;exact⟨_,_,rfl,.tail,rfl,_,_,cz,hp,hd,hex⟩
  refine DR.self ?_
  (repeat (first|apply Nil.ptr|apply ai.mk|refine Ld.mk (by repeat (first|exact List.Mem.head _|apply List.Mem.tail|apply xac)) rfl ?_|apply aR.mk|apply ae.geq))
  refine Br.dec (λh0=>JE.mk (hstop (.inl zO))) (λh0=>?_);have h0:c<n:=by omega
  (repeat (first|apply Nil.ptr|apply ai.mk|refine Ld.mk (by repeat (first|exact List.Mem.head _|apply List.Mem.tail|apply xac)) rfl ?_|apply aR.mk|apply ae.geq))
  refine av.nat zO ?_;refine az.row (l:=eS .i64 L++aK) zM aJ (fV zO aK) ?_;refine az.q ?_;intro F;refine aa.eq (xk _ a _) (⟨.refl _,Un.not ?_⟩);cases X6:prec (aZ L c) a with
  |false=>exact aH.mk (JE.mk (hstop (.inr X6)))
  |true=>
  refine aH.mk (JE.mk (BV _ _ λgs=>Br.no ?_))
  (repeat (first|apply Nil.ptr|apply ai.mk|refine Ld.mk (by repeat (first|exact List.Mem.head _|apply List.Mem.tail|apply xac)) rfl ?_|apply aR.mk|apply ae.geq))
  refine av.nat zO ?_;refine az.row (l:=eS .i64 L++aK) zM aJ (fV zO aK) ?_;refine aa.fq (rI ho0 (i:=j) zO (aZ L c)) ?_;rintro v C' ⟨rfl,cz⟩;have hcj:c≠j:=by omega
  have hst:=s6 hu (by rw[<-hcd];exact h0) (by rw[<-hcd,Yl,hVL c hcj];exact X6);rw[<-hcd]at hst;have hcs:=hc.step hOV (i:=j) (q:=c) zO zO hcj;have hpp:=(swap_perm (l:=L.set j a) (i:=j) (q:=c) zO zO hcj).trans hp;have hVV:(L.set j (aZ L c)).set c a=((L.set j a).set j (aZ (L.set j a) c)).set c (aZ (L.set j a) j):=(vi a zO zO hcj).symm;have BS:aZ ((L.set j (aZ L c)).set c a)=ij (ij (aZ (L.set j a)) j (aZ (L.set j a) c)) c (aZ (L.set j a) j):=by
   rw[hVV,g9 _ zP,g9 _ zO]
  refine aC.mk ⟨c,_,_,C',rfl,rfl,cz,by simp[hLn],by omega,?_,?_,?_⟩ ?_
  ·rw[hVV];exact hpp
  ·rw[BS];exact hst
  ·rw[hVV];rw[hVL c hcj]at hcs⊢;exact hcs
  simp only[bN,xbe];omega
 intro J3 hJ3;have hkd:zg n (aZ (L.set j a)) j=if(decide (2*j+1+1<n) &&prec (aZ L (2*j+1+1)) (aZ L (2*j+1)))=true then 2*j+1+1 else 2*j+1:=by
  unfold zg;rw[hVL _ zO,hVL _ zO]
 rw[hkd]at hcd;have hno:¬(2*j+1+1<n/\prec (aZ L (2*j+1+1)) (aZ L (2*j+1))=true)->J3 [.bool false] ((b6,Obj.cells (enc .i64 a).toArray 295 zZ)::(bh,Obj.cells #[.slice (some ⟨la,0,none⟩) L.length (L.length+aK.length),.map (some mb)] 293 zZ)::(la,.cells (rows (eS .i64 L++aK)) 295 zZ)::Cm):=λhx=>hJ3 _ _ λgs=>by
  rw[xab (by simpa using hx)]at hcd;rw[hcd]at ji;exact Br.no (.mk ji)
 refine DR.self (ae.Eo (c:=((2*j+1+1:Nat):Int)) zO zO ?_)
 (repeat (first|apply Nil.ptr|apply ai.mk|refine Ld.mk (by repeat (first|exact List.Mem.head _|apply List.Mem.tail|apply xac)) rfl ?_|apply aR.mk|apply ae.geq))
 refine Br.dec (λh0=>?_) (λh0=>JE.mk (hno (λh=>h0 zO)));have h0:2*j+1+1<n:=by omega
 (repeat (first|apply Nil.ptr|apply ai.mk|refine Ld.mk (by repeat (first|exact List.Mem.head _|apply List.Mem.tail|apply xac)) rfl ?_|apply aR.mk|apply ae.geq))
 refine ae.Eo (c:=((2*j+1+1:Nat):Int)) zO zO (av.nat zO ?_);refine az.row (l:=eS .i64 L++aK) zM aJ (fV zO aK) ?_
 (repeat (first|apply Nil.ptr|apply ai.mk|refine Ld.mk (by repeat (first|exact List.Mem.head _|apply List.Mem.tail|apply xac)) rfl ?_|apply aR.mk|apply ae.geq))
 refine av.nat zO ?_;refine az.row (l:=eS .i64 L++aK) zM aJ (fV zO aK) ?_;intro F;refine aa.eq (xk _ _ _) (⟨.refl _,?_⟩);cases X6:prec (aZ L (2*j+1+1)) (aZ L (2*j+1))with
 |false=>exact aH.mk (JE.mk (hno (λh=>by rw[X6]at h;exact absurd h.2 zD)))
 |true=>
 refine aH.mk (JE.mk (hJ3 _ _ λgs=>Br.yes ?_));refine ae.Eo (c:=((2*j+1+1:Nat):Int)) zO zO ?_;rw[xad (by simp[h0,X6])]at hcd;rw[hcd]at ji;exact .mk ji
theorem Wo(B:Hp):Fc zQ 164 #[] B (λv H=>∃b C,v=.pointer (some ⟨b,0,none⟩)/\H=C++B/\Xw (.pointer (some ⟨b,0,none⟩)) [] C):=by
 refine aI λg=>IU (Build.mk (cs:=[.slice none 0 0,.map none]) zK ?_);intro b _;exact⟨_,_,rfl,.refl _,b,[_],rfl,rfl,λ_=>none,⟨b,_,_,[],[],rfl,rfl,aV.nil _ _,.inl ⟨rfl,rfl,rfl⟩,λ_=>rfl⟩,⟨λj hj=>by simp at hj,λ_ _=>rfl⟩,λj _ hj=>by simp at hj,by simp[j6]⟩
theorem RL{h:zV}{l:List It}{C:Hp}(hi:Xw h l C)(cI:l.length<4398046511104)(x k:Int):
  Fc zQ 166 #[h,iv x,iv k] C (λv C'=>∃l',Xw h l' C'/\
   ((x∈l.map Prod.fst/\v=iv 11/\l'=l)\/(x∉l.map Prod.fst/\v=iv 0/\l'.Perm ((x,k)::l)))):=by
 have F9:=hi;obtain⟨f,ho,hc,hO,h1⟩:=hi;have ho0:=ho;obtain⟨bh,sv,mv,Cs,Cm,rfl,rfl,hs,hm,hne⟩:=ho;refine aI λg=>IS ?_
 (repeat (first|apply Nil.ptr|refine ai.mk ?_|refine Ld.mk zM rfl ?_|refine aR.mk ?_|refine ae.eql ?_|refine ae.neq ?_|refine ae.lss ?_|refine ae.leq ?_|refine ae.gtr ?_|refine ae.geq ?_|apply Un.not|refine Ext.mk rfl ?_|refine aH.mk ?_|refine ae.aL ?_|refine ae.kU ?_|refine ae.jW ?_|apply Br.yes|apply Br.no))
 rcases Te hc (x:=x)with⟨hx,hf⟩|⟨i,hi,hx,hf⟩
 ·refine hm.MP zS hf ?_
  (repeat (first|apply Nil.ptr|refine ai.mk ?_|refine Ld.mk zM rfl ?_|refine aR.mk ?_|refine ae.eql ?_|refine ae.neq ?_|refine ae.lss ?_|refine ae.leq ?_|refine ae.gtr ?_|refine ae.geq ?_|apply Un.not|refine Ext.mk rfl ?_|refine aH.mk ?_|refine ae.aL ?_|refine ae.kU ?_|refine ae.jW ?_|apply Br.yes|apply Br.no))
  intro J hJ;obtain⟨uJ,mV,Uj,hp4⟩:=QE (a:=(x,k)) hc hO h1 hx;have ji:∀mb YD,kZ .i64 idx (.map (some mb)) f YD->J [] ((bh,Obj.cells #[sv,.map (some mb)] 293 zZ)::(Cs++YD)):=by
   intro mb YD hm';refine hJ _ λgs=>?_
   (repeat (first|apply Nil.ptr|refine ai.mk ?_|refine Ld.mk zM rfl ?_|refine aR.mk ?_|refine ae.eql ?_|refine ae.neq ?_|refine ae.lss ?_|refine ae.leq ?_|refine ae.gtr ?_|refine ae.geq ?_|apply Un.not|refine Ext.mk rfl ?_|refine aH.mk ?_|refine ae.aL ?_|refine ae.kU ?_|refine ae.jW ?_|apply Br.yes|apply Br.no))
   refine Build.mk (cs:=enc .i64 (x,k)) zK (ax.one (k:=2) (e:=295) (z:=.agg #[iv 0,iv 0]) zK zK zK zD rfl λxb=>?_);refine hs.GH (A:=[_,_]) (B:=YD) (r:=enc .i64 (x,k)) zM rfl (pw _ _) ⟨[iv 0,iv 0],rfl,rfl⟩ (by rw[cQ];omega) (by rw[cQ];omega) λv' C' hs'=>?_
   (repeat (first|apply Nil.ptr|refine ai.mk ?_|refine Ld.mk zM rfl ?_|refine aR.mk ?_|refine ae.eql ?_|refine ae.neq ?_|refine ae.lss ?_|refine ae.leq ?_|refine ae.gtr ?_|refine ae.geq ?_|apply Un.not|refine Ext.mk rfl ?_|refine aH.mk ?_|refine ae.aL ?_|refine ae.kU ?_|refine ae.jW ?_|apply Br.yes|apply Br.no))
   refine St.one (by repeat (first|exact c8.head _|apply c8.tail|apply c8.cr)) (by obtain⟨a,c,rfl⟩:=hs'.len;rfl) zI rfl ?_
   (repeat (first|apply Nil.ptr|refine ai.mk ?_|refine Ld.mk zM rfl ?_|refine aR.mk ?_|refine ae.eql ?_|refine ae.neq ?_|refine ae.lss ?_|refine ae.leq ?_|refine ae.gtr ?_|refine ae.geq ?_|apply Un.not|refine Ext.mk rfl ?_|refine aH.mk ?_|refine ae.aL ?_|refine ae.kU ?_|refine ae.jW ?_|apply Br.yes|apply Br.no))
   refine hs'.bV ?_;refine ae.lq (c:=((l.length:Nat):Int)) (by rw[xaf,cQ];simp) zO ?_;have sO:aV 295 2 v' (eS .i64 (l++[(x,k)])) C':=by simpa[eS]using hs'
   have cz:UB (.pointer (some ⟨bh,0,none⟩)) (l++[(x,k)]) f ((bh,Obj.cells #[v',.map (some mb)] 293 zZ)::(C'++YD)):=
    ⟨bh,_,_,C',YD,rfl,rfl,sO,hm',λh=>by simp at h⟩
   refine aa.pre (.tail) ?_;refine aa.fq (ZB cz (i:=l.length) zI zP uJ mV Uj) ?_;rintro v C'' ⟨rfl,l',f',p,yb,dK,hc2,hex,hp,BS,agm⟩;refine⟨_,_,rfl,.refl _,l',⟨f',yb,hc2,agm hp4,Uj.perm dK⟩,.inr ⟨hx,rfl,dK.trans ?_⟩⟩;exact xbb (l₁:=l) (l₂:=[(x,k)])
  (repeat (first|apply Nil.ptr|refine ai.mk ?_|refine Ld.mk zM rfl ?_|refine aR.mk ?_|refine ae.eql ?_|refine ae.neq ?_|refine ae.lss ?_|refine ae.leq ?_|refine ae.gtr ?_|refine ae.geq ?_|apply Un.not|refine Ext.mk rfl ?_|refine aH.mk ?_|refine ae.aL ?_|refine ae.kU ?_|refine ae.jW ?_|apply Br.yes|apply Br.no))
  rcases hm with⟨rfl,rfl,hfn⟩|⟨mb,m,ck,rfl,h2⟩
  ·(repeat (first|apply Nil.ptr|refine ai.mk ?_|refine Ld.mk zM rfl ?_|refine aR.mk ?_|refine ae.eql ?_|refine ae.neq ?_|refine ae.lss ?_|refine ae.leq ?_|refine ae.gtr ?_|refine ae.geq ?_|apply Un.not|refine Ext.mk rfl ?_|refine aH.mk ?_|refine ae.aL ?_|refine ae.kU ?_|refine ae.jW ?_|apply Br.yes|apply Br.no))
   intro mb _
   (repeat (first|apply Nil.ptr|refine ai.mk ?_|refine Ld.mk zM rfl ?_|refine aR.mk ?_|refine ae.eql ?_|refine ae.neq ?_|refine ae.lss ?_|refine ae.leq ?_|refine ae.gtr ?_|refine ae.geq ?_|apply Un.not|refine Ext.mk rfl ?_|refine aH.mk ?_|refine ae.aL ?_|refine ae.kU ?_|refine ae.jW ?_|apply Br.yes|apply Br.no))
   refine St.one (by repeat (first|exact c8.head _|apply c8.tail|apply c8.cr)) rfl zI rfl ?_;refine JE.of ?_ (ji mb _ (by rw[hfn];exact kZ.made mb));simp only[xaL];refine .perm ?_;refine(List.Perm.swap _ _ _).trans (.cons _ ?_);exact xbb (l₁:=[_])
  (repeat (first|apply Nil.ptr|refine ai.mk ?_|refine Ld.mk zM rfl ?_|refine aR.mk ?_|refine ae.eql ?_|refine ae.neq ?_|refine ae.lss ?_|refine ae.leq ?_|refine ae.gtr ?_|refine ae.geq ?_|apply Un.not|refine Ext.mk rfl ?_|refine aH.mk ?_|refine ae.aL ?_|refine ae.kU ?_|refine ae.jW ?_|apply Br.yes|apply Br.no))
  exact JE.mk (ji mb Cm (.inr ⟨mb,m,ck,rfl,h2⟩))
 refine hm.MO zS hf ?_
 (repeat (first|apply Nil.ptr|refine ai.mk ?_|refine Ld.mk zM rfl ?_|refine aR.mk ?_|refine ae.eql ?_|refine ae.neq ?_|refine ae.lss ?_|refine ae.leq ?_|refine ae.gtr ?_|refine ae.geq ?_|apply Un.not|refine Ext.mk rfl ?_|refine aH.mk ?_|refine ae.aL ?_|refine ae.kU ?_|refine ae.jW ?_|apply Br.yes|apply Br.no))
 refine⟨_,_,rfl,.refl _,l,F9,.inl ⟨?_,rfl,rfl⟩⟩;rw[iy];exact⟨i,hi,hx⟩
theorem Wm{h:zV}{l:List It}{C:Hp}(hi:Xw h l C)(cI:l.length<4398046511104):
  Fc zQ 168 #[h] C (λv C'=>∃l',Xw h l' C'/\
   ((l=[]/\v=.tuple #[iv 0,iv 0,iv 10]/\l'=l)\/(∃a,l.Perm (a::l')/\(∀b∈l,prec b a=false)/\v=.tuple #[iv a.1,iv a.2,iv 0]))):=by
 have F9:=hi;obtain⟨f,ho,hc,hO,h1⟩:=hi;by_cases hl:l=[]
 ·subst hl;refine aI λg=>xK ?_;obtain⟨bh,sv,mv,Cs,Cm,rfl,rfl,hs,hm,hne⟩:=ho
  (repeat (first|apply Nil.ptr|apply ai.mk|refine Ld.mk (by repeat (first|exact List.Mem.head _|apply List.Mem.tail|apply xac)) rfl ?_|apply aR.mk|apply ae.eql|apply ae.lss|apply Br.yes|apply Br.no|apply ae.aL))
  refine cS.or true (λ_=>?_) rfl λ_=>?_
  ·(repeat (first|apply Nil.ptr|apply ai.mk|refine Ld.mk (by repeat (first|exact List.Mem.head _|apply List.Mem.tail|apply xac)) rfl ?_|apply aR.mk|apply ae.eql|apply ae.lss|apply Br.yes|apply Br.no|apply ae.aL))
   refine hs.bV ?_
   (repeat (first|apply Nil.ptr|apply ai.mk|refine Ld.mk (by repeat (first|exact List.Mem.head _|apply List.Mem.tail|apply xac)) rfl ?_|apply aR.mk|apply ae.eql|apply ae.lss|apply Br.yes|apply Br.no|apply ae.aL))
   exact⟨rfl,rfl⟩
  (repeat (first|apply Nil.ptr|apply ai.mk|refine Ld.mk (by repeat (first|exact List.Mem.head _|apply List.Mem.tail|apply xac)) rfl ?_|apply aR.mk|apply ae.eql|apply ae.lss|apply Br.yes|apply Br.no|apply ae.aL))
  exact⟨_,_,rfl,.refl _,[],F9,.inl ⟨rfl,rfl,rfl⟩⟩
 obtain⟨n,hn⟩:∃n,l.length=n+1:=⟨l.length-1,by have:=xdb.2 hl;omega⟩;have hmin:∀b∈l,prec b (aZ l 0)=false:=λb hb=>by
  obtain⟨j,hj,e⟩:=xba.1 hb;have:=Vy hO j hj;rwa [show aZ l j=b by simp[aZ,List.getD,hj,e]]at this
 intro g;refine xK (R:=aN _) ?_;obtain⟨bh,la,mb,aK,Cm,rfl,rfl,aJ,hm⟩:=ho.open zO;unfold L168
 (repeat (first|apply Nil.ptr|apply ai.mk|refine Ld.mk (by repeat (first|exact List.Mem.head _|apply List.Mem.tail|apply xac)) rfl ?_|apply aR.mk|apply ae.eql|apply ae.lss|apply Br.yes|apply Br.no|apply ae.aL))
 refine cS.or false (λ_=>?_) rfl λ_=>?_
 ·(repeat (first|apply Nil.ptr|apply ai.mk|refine Ld.mk (by repeat (first|exact List.Mem.head _|apply List.Mem.tail|apply xac)) rfl ?_|apply aR.mk|apply ae.eql|apply ae.lss|apply Br.yes|apply Br.no|apply ae.aL))
  exact⟨rfl,by rw[hn];simp;omega⟩
 (repeat (first|apply Nil.ptr|apply ai.mk|refine Ld.mk (by repeat (first|exact List.Mem.head _|apply List.Mem.tail|apply xac)) rfl ?_|apply aR.mk|apply ae.eql|apply ae.lss|apply Br.yes|apply Br.no|apply ae.aL))
 refine av.of 0 rfl zO ?_;refine az.row (l:=eS .i64 l++aK) zM aJ (fV zO aK) ?_;intro tc _;refine St.p (pw _ _) ?_
 (repeat (first|apply Nil.ptr|apply ai.mk|refine Ld.mk (by repeat (first|exact List.Mem.head _|apply List.Mem.tail|apply xac)) rfl ?_|apply aR.mk|apply ae.eql|apply ae.lss|apply Br.yes|apply Br.no|apply ae.aL))
 refine ae.lq (c:=(n:Int)) (by rw[hn];simp) zO ?_
 (repeat (first|apply Nil.ptr|apply ai.mk|refine Ld.mk (by repeat (first|exact List.Mem.head _|apply List.Mem.tail|apply xac)) rfl ?_|apply aR.mk|apply ae.eql|apply ae.lss|apply Br.yes|apply Br.no|apply ae.aL))
 refine av.nat zO ?_;refine az.row (l:=eS .i64 l++aK) zM aJ (fV zO aK) ?_;intro b27 _;refine St.p (pw _ _) ?_
 (repeat (first|apply Nil.ptr|apply ai.mk|refine Ld.mk (by repeat (first|exact List.Mem.head _|apply List.Mem.tail|apply xac)) rfl ?_|apply aR.mk|apply ae.eql|apply ae.lss|apply Br.yes|apply Br.no|apply ae.aL))
 refine gx.upto (h:=n) zO ?_
 (repeat (first|apply Nil.ptr|apply ai.mk|refine Ld.mk (by repeat (first|exact List.Mem.head _|apply List.Mem.tail|apply xac)) rfl ?_|apply aR.mk|apply ae.eql|apply ae.lss|apply Br.yes|apply Br.no|apply ae.aL))
 refine St.one (by repeat (first|exact c8.head _|apply c8.tail|apply c8.cr)) rfl zI rfl ?_;refine DR.self ?_
 (repeat (first|apply Nil.ptr|apply ai.mk|refine Ld.mk (by repeat (first|exact List.Mem.head _|apply List.Mem.tail|apply xac)) rfl ?_|apply aR.mk|apply ae.eql|apply ae.lss|apply Br.yes|apply Br.no|apply ae.aL))
 rw[<-xaL Cm];refine kZ.del (A:=[_,_,_,_]) (B:=[]) hm λYD hm'=>?_;rw[xaL];have X5:eS .i64 l++aK=eS .i64 (l.take n)++(enc .i64 (aZ l n)::aK):=by
  have e:l=l.take n++[aZ l n]:=by
   have h2:l.drop n=[aZ l n]:=by
    rw[xbr zO,xdj zO];simp[hn,aZ,List.getD]
   have:=(xbq n l).symm;rw[h2]at this;exact this
  conv=>lhs;rw[e]
  simp[eS]
 have Sn:∀r∈eS .i64 (l.take n)++(enc .i64 (aZ l n)::aK),r.length=2:=by rw[<-X5];exact aJ
 intro J hJ;have hlt:(l.take n).length=n:=by simp[hn]
 have ji:∀l' C',Xw (.pointer (some ⟨bh,0,none⟩)) l' C'->l.Perm (aZ l 0::l')->J [] ((b27,Obj.cells (enc .i64 (aZ l n)).toArray 295 zZ)::(tc,Obj.cells (enc .i64 (aZ l 0)).toArray 295 zZ)::C'):=by
  intro l' C' hi' ZL;refine hJ _ λgs=>?_
  (repeat (first|apply Nil.ptr|apply ai.mk|refine Ld.mk (by repeat (first|exact List.Mem.head _|apply List.Mem.tail|apply xac)) rfl ?_|apply aR.mk|apply ae.eql|apply ae.lss|apply Br.yes|apply Br.no|apply ae.aL))
  exact⟨_,_,rfl,.skip .tail,l',hi',.inr ⟨_,ZL,hmin,rfl⟩⟩
 (repeat (first|apply Nil.ptr|apply ai.mk|refine Ld.mk (by repeat (first|exact List.Mem.head _|apply List.Mem.tail|apply xac)) rfl ?_|apply aR.mk|apply ae.eql|apply ae.lss|apply Br.yes|apply Br.no|apply ae.aL))
 have Dy:UB (.pointer (some ⟨bh,0,none⟩)) (l.take n) (Ey f (aZ l 0).1 none) ((bh,Obj.cells #[.slice (some ⟨la,0,none⟩) n (l.length+aK.length),.map (some mb)] 293 zZ)::(la,.cells (rows (eS .i64 l++aK)) 295 zZ)::YD):=by
  rw[X5];exact .shut Sn hlt.symm (by simp[hn];omega) hm'
 refine Br.mk (λh0=>?_) (λh0=>?_)
 ·have h0:0<n:=by simpa using h0
  obtain⟨_,q1,q2,q3,q4⟩:=Vq hc hO h1 hn h0;refine az.q ?_;refine aa.fq (rI Dy (i:=0) zO (aZ l n)) ?_;rintro v C2 ⟨rfl,yb⟩;have BR:nv ((l.take n).set 0 (aZ l n)) (Ey (Ey f (aZ l 0).1 none) (aZ l n).1 (some 0)) 0:=by
   refine⟨λj hj ZX=>?_,λx hx=>?_⟩
   ·unfold Ey;rw[xab]
    ·exact q4.1 j hj ZX
    intro e;have h00:aZ ((l.take n).set 0 (aZ l n)) 0=aZ l n:=by rw[g9 _ zO];simp[ij]
    exact ZX (q3.inj hj zP (by rw[e,h00]))
   unfold Ey;rw[xab]
   ·exact q4.2 x hx
   intro e;refine hx (iy.2 ⟨0,by simp;omega,?_⟩);rw[g9 _ zO];simp[ij,e]
  refine aa.fq (Sa yb (i:=0) zP zP (by simpa[hn]using q2) BR q3) ?_;rintro v C3 ⟨rfl,l3,f3,Dx,RN,Z8,acJ⟩;exact JE.mk (ji l3 C3 ⟨f3,Dx,Z8,acJ,q3.perm RN⟩ ((RN.cons (aZ l 0)).trans q1).symm)
 have h0:n=0:=by simp at h0;omega
 subst h0;refine JE.mk (ji (l.take 0) _ ⟨_,Dy,⟨λj hj=>by simp at hj,λx _=>?_⟩,λj _ hj=>by simp at hj,by simp[j6]⟩ ?_)
 ·unfold Ey;split
  ·rfl
  rename_i hne;refine hc.2 x λhm=>hne ?_;obtain⟨j,hj,e⟩:=iy.1 hm;rw[show j=0 by omega]at e;exact e.symm
 match l,hn with
 | [a],_=>exact .refl _
end
end Go.Proofs
namespace ak
open Go.Sx PC
def nn(s k:Nat):It:=((s:Int),(k:Int))
variable {n:Nat} {c:Nat->Nat->Nat} {T:Nat} {D:zL} {l l':List It} {s i:Nat}
end ak
set_option maxRecDepth 100000
namespace Go.Proofs
open Go Go.Sx
section
open au PC
theorem L0{pt n v:Nat}{T:Nd->Option Nat}{C:Hp}(h:oD pt n T C)(hv:v<n):
  Rd zQ 224 #[ptr pt,iv (v:Int)] C (λr=>∃l:List (Nd×Nat),(l.map Prod.fst).Nodup/\(∀d r,(d,r)∈l↔T d=some r/\d.v=v)/\r=.tuple #[iv ((l.length:Nat):Int),iv 0]):=by
 have h0:=h;obtain⟨vs,Cs,ms,rfl,hs,ho⟩:=h;obtain⟨m,hm⟩:∃m,ms[v]? =some m:=⟨_,xaa (by rw[ho.len];exact hv)⟩;have he:=ho.dN v m hm;have hT:∀d:Nd,d.v=v->T d=aG m.l d:=λd hd=>by rw[ho.T,hd,hm];rfl
 have hmem:∀d r,(d,r)∈m.l↔T d=some r/\d.v=v:=λd r=>by
  constructor
  ·intro hx;have hd:=ho.var v m hm _ hx;exact⟨by rw[hT d hd];exact(dW he.nd).2 hx,hd⟩
  rintro⟨h1,h2⟩;rw[hT d h2]at h1;exact(dW he.nd).1 h1
 refine aI λg=>HV (aa.eq (lg h0 hv) (ae.cD (Br.F (Nil.ptr ?_))));refine ai.mk (Ld.mk zM rfl ?_);refine hs.XR (x:=.map (some m.b)) (by rw[xat,hm];rfl) (λ_ h=>by exact .tail _ (xae _ h)) ?_;refine he.Q9 (b:=m.b) (by exact .tail _ (xac _ (rz hm))) ?_;exact bc.mk (.refl _) ⟨m.l,he.nd,hmem,rfl⟩
section
variable {kp v gr:Nat} {K:Kd} {S:Nat->au.Fn} {ord tr:zL} {C:Hp}
theorem MW{ah:zL}(h:cR kp K ord ah tr C)(hv:v<K.n):Rd zQ 165 #[ptr kp,iv (v:Int)] C (λr=>∃l:List (Nd×Nat),(l.map Prod.fst).Nodup/\(∀d r,(d,r)∈l↔K.T d=some r/\d.v=v)/\r=.tuple #[iv ((l.length:Nat):Int),iv 0]):=by
 have h0:=h;obtain⟨b,rfl,hO⟩:=h;refine aI λg=>IT (ae.aL (Br.no (aa.eq (rE h0 (v:Int)) ?_)));rw[xam zO];refine Un.not (Br.no (Nil.ptr (ai.mk (Ld.f ?_))));refine aa.rq (L0 hO.ut hv) ?_;rintro r ⟨l,h1,h2,rfl⟩;exact Ext.mk rfl (Ext.mk rfl (bc.mk (.refl _) ⟨l,h1,h2,rfl⟩))
theorem Ws{h:zV}{l:List It}{C:Hp}(hi:Xw h l C):Rd zQ 167 #[h] C (· =iv ((l.length:Nat):Int)):=by
 obtain⟨f,⟨bh,sv,mv,Cs,Cm,rfl,rfl,hs,hm,hne⟩,_⟩:=hi;refine aI λg=>IQ (ae.aL (Br.no (Ld.n ?_)));refine hs.bV ?_;rw[cQ];exact bc.mk (.refl _) rfl
def sln:List zV->Nat
 | .slice _ n _::_=>n
 |_=>0
end
end
section
open au
section
variable {kp mb BZ b1 b7 EM bn:Nat} {K:Kd} {S:Nat->au.Fn} {ord ah tr:zL} {C:Hp}
def kr(r:Nat):zV:=u32 r
theorem cY(a b:Nat):Instr.sameNow (.int .u32) (kr a) (kr b)=some (decide (a=b)):=by
 simp only[Instr.sameNow,kr,u32,xa7,xar];rw[xbE];simp;omega
theorem gT(a:Nat):Instr.sameBits 10000 (kr a) (kr a)=true:=by simp[Instr.sameBits,kr,u32]
structure Kn(n:Nat)(S:Nat->au.Fn)(es:Array MapEntry)(ck:Nat)(m:List (Nat×zV))(Y:Hp):Prop where
 dN:aF kr (λv x=>v=x) es ck m
 kf:∀r v,aG m r=some v->kC Y v n (S r)
 low:∀r,r<2->aG m r≠none
theorem Kn.mono{n:Nat}{S:Nat->au.Fn}{es:Array MapEntry}{ck:Nat}{m:List (Nat×zV)}{Y Y':Hp}(h:Kn n S es ck m Y)(hs:∀x∈Y,x∈Y'):Kn n S es ck m Y':=⟨h.dN,λr v hm=>(h.kf r v hm).mono hs,h.low⟩
theorem kC.one{B:Hp}{v:zV}{n:Nat}{f:au.Fn}(h:kC B v n f):∃s,v=.agg #[iv (n:Int),s]/\s.oneCell'=true:=by
 obtain⟨ws,⟨s,rfl,hw⟩,_,_⟩:=h;exact⟨s,rfl,bQ hw⟩
theorem cX{n:Nat}{s:zV}(h:s.oneCell'=true):∀u∈[Value.int .i64 (n:Int),s],u.oneCell'=true:=λu hu=>by
 simp only[xak,xaR,xbD]at hu;rcases hu with rfl|rfl
 ·rfl
 exact h
theorem fA(d:Nd):∀u∈bt d,u.oneCell'=true:=λu hu=>by
 simp only[bt,xak,xaR,xbD]at hu;rcases hu with rfl|rfl|rfl<;>rfl
theorem wS{X:Hp}(h:bP kp K S ord ah tr C){r:Nat}{d:Nd}(hd:K.N r=some d):Px zQ 125 #[ptr kp,u32 r] (X++C) (λv _=>v=.agg (bt d).toArray):=by
 have hlt:=h.bM (.inr ⟨d,hd⟩);refine aI λg=>Jj λb1 _=>?_;refine aa.eq (args:=#[ptr kp,u32 r]) (iQ h.rep zO) ?_;rw[dZ hd (h.ok.mid.two hd).1];refine Ext.two λb7 _=>(St.p (fA d) ?_);refine az.q ?_;refine St.p (fA d) ?_;refine az.q ?_;exact GN.mk (by repeat (first|exact bY.refl _|apply bY.cons|apply bY.app)) rfl
theorem wV{X:Hp}{v:zV}(h:bP kp K S ord ah tr C){rs:zL}(hv:dz .u32 (X++C) v (iw rs))(hr:∀r∈rs,live K.N r)(hl:rs.length<4611686018427387904):Px zQ 123 #[ptr kp,v] (X++C) (λw _=>w=iv 0):=by
 refine aI λg=>Jl (ae.aL (Br.no (hv.bV ?_)));rw[aq];refine⟨λvs H=>∃(i:Nat) (N:Hp),vs=[iv (i:Int)]/\i<=rs.length/\H=N++(X++C),λvs _=>rs.length-bN vs 0,JE.mk ⟨0,[],rfl,xaN _,rfl⟩,?_⟩;rintro w H ⟨i,N,hw,hi,rfl⟩ gs;simp only[xau,xa1]at hw;subst hw;refine ae.fC (Br.dec (λhlt=>?_) (λhge=>?_))
 ·have EE:=hr _ (xaH hlt);have uy:=h.bM EE;refine hv.ld (n:=((rs[i]:Nat):Int)) (dg (xaa hlt)) (λ_ h=>xac _ h) ?_;refine aa.eq (args:=#[ptr kp,u32 rs[i]]) (iQ h.rep zO) ?_;rw[xad (bZ.2 EE)];refine Ext.two λb15 _=>(St.whole (r:=got K.N rs[i]) (by exact .head _) rfl (aP _ _).1 (aP _ _).2 ?_);exact ae.cD (Br.F (ae.inc (aC.mk ⟨i+1,_::N,rfl,hlt,rfl⟩ (by simp only[bN];omega))))
 exact GN.mk (by repeat (first|exact bY.refl _|apply bY.cons|apply bY.app)) rfl
theorem SM{X:Hp}{n:Nat}(hn:n<=16){d:Nd}(hd:d.v<n){v1 v2:zV}{f1 f2:au.Fn}(h1:kC X v1 n f1)(h2:kC X v2 n f2)(hm:(bn,Obj.cells #[iv (n:Int)] 3 zZ)∈X):
  Px zQ 180 #[.agg (bt d).toArray,v1,v2,ptr bn] X (λw H=>kC H w n (λx=>if x.testBit d.v then f2 x else f1 x)):=by
 obtain⟨s1,rfl,o1⟩:=h1.one;obtain⟨s2,rfl,o2⟩:=h2.one;refine aI λg=>ID λc1 _ c3 _ c5 _ c7 _=>?_;refine Ld.mk (v:=iv (n:Int)) (by exact .tail _ (.tail _ (.tail _ (.tail _ hm)))) rfl ?_;refine Ld.f ?_;refine aa.px (bH.left (C:=[]) (A:=_)) (UP hn hd []) ?_;rintro w N ⟨t,rfl,ht⟩;rw[xaL]at ht⊢;obtain⟨s3,rfl,o3⟩:=ht.one;refine Ext.two λYu _=>(St.p (cX o3) ?_);refine az.q ?_;refine az.q ?_;refine az.q ?_;refine aa.pre (.perm (.cons _ (xaU.trans (.cons _ (xaU.trans (.cons _ (xaU.trans (.cons _ xaU)))))))) ?_;refine aa.pq (US (B:=N++X) (ht.mono λ_ h=>xae _ h) (h2.mono λ_ h=>xac _ h) (h1.mono λ_ h=>xac _ h)) ?_;rintro w N2 ⟨t4,rfl,ht4⟩;obtain⟨s4,rfl,o4⟩:=ht4.one;refine Ext.two λc26 _=>(St.p (cX o4) ?_);refine az.q ?_;refine St.p (cX o4) ?_;refine az.q ?_;refine GN.mk (by repeat (first|exact bY.refl _|apply bY.cons|apply bY.app)) (ht4.mono ?_);intro x hx;repeat (first|exact hx|apply xbt)
theorem aed(h:bP kp K S ord ah tr C)(hn:K.n<=16){Z0:Hp}(h19:(BZ,Obj.cells #[.map (some mb)] 301 zZ)∈Z0)(h1:(b1,Obj.cells #[ptr kp] 53 zZ)∈Z0)(h7:(b7,Obj.cells #[.func (.func 180) #[] #[ptr bn]] 240 zZ)∈Z0)
 (h22:(EM,Obj.cells #[.func (.func 235) #[] #[ptr BZ,ptr b1,ptr b7,ptr EM]] 302 zZ)∈Z0)(hbn:(bn,Obj.cells #[iv (K.n:Int)] 3 zZ)∈Z0):
  ∀(k r:Nat) (es:Array MapEntry) (ck:Nat) (m:List (Nat×zV)) (Z:Hp),K.n-dep K.n (lv ah) K.N r<=k->live K.N r->(∀x∈Z0,x∈Z)->Kn K.n S es ck m Z->
  Fc zQ 235 #[u32 r,ptr BZ,ptr b1,ptr b7,ptr EM] ((mb,.map es ck)::(Z++C)) (λv H=>∃es' bB m' N,H=(mb,.map es' bB)::(N++(Z++C))/\Kn K.n S es' bB m' (N++Z)/\kC (N++Z) v K.n (S r)):=by
 have hit:∀{r:Nat} {es:Array MapEntry} {ck:Nat} {m:List (Nat×zV)} {Z:Hp} {v:zV},(∀x∈Z0,x∈Z)->Kn K.n S es ck m Z->aG m r=some v->
   Fc zQ 235 #[u32 r,ptr BZ,ptr b1,ptr b7,ptr EM] ((mb,.map es ck)::(Z++C)) (λv H=>∃es' bB m' N,H=(mb,.map es' bB)::(N++(Z++C))/\Kn K.n S es' bB m' (N++Z)/\kC (N++Z) v K.n (S r)):=by
  intro r es ck m Z v hZ hm hv g;obtain⟨s,rfl,hs⟩:=(hm.kf r v hv).one;refine xB (R:=aN _) ?_;unfold L235;intro c1 _;refine Ld.mk (v:=.map (some mb)) (by exact .tail _ (.tail _ (xae _ (hZ _ h19)))) rfl ?_;refine hm.dN.hit (k:=r) cY (b:=mb) (by exact .tail _ (.head _)) hv λv' e=>?_;subst e;refine Ext.two λc7 _=>(St.p (cX hs) ?_);refine Br.yes (az.q ?_);refine St.p (cX hs) ?_;refine az.q ?_;exact aN.mk (.skip .tail) ⟨es,ck,m,[],rfl,hm,hm.kf r _ hv⟩
 intro k;induction k with
 |zero=>
  intro r es ck m Z hk hr hZ hm;have qx:r<2:=by
   cases hN:K.N r with
   |some d=>
    have:=h.ok.wf.iD h.ok.lv r;rw[an hN]at hk;have:=h.ok.lv.lt _ (h.ok.mid.var hN);omega
   |none=>
    rcases hr with hr|⟨d,e⟩
    ·exact hr
    rw[hN]at e;cases e
  cases hv:aG m r with
  |none=>exact absurd hv (hm.low r qx)
  |some v=>exact hit hZ hm hv
 |succ k ih=>
  intro r es ck m Z hk hr hZ hm;cases hv:aG m r with
  |some v=>exact hit hZ hm hv
  |none=>
  have qx:¬r<2:=λh2=>hm.low r h2 hv;obtain⟨d,hN⟩:∃d,K.N r=some d:=by
   rcases hr with hr|hr
   ·omega
   exact hr
  have kA:=h.ok.mid.var hN;have hlo:=h.ok.wf.lo hN;have hhi:=h.ok.wf.hi hN;have hdl:=h.ok.wf.iD h.ok.lv r;rw[an hN]at hk;have hvl:=h.ok.lv.lt _ kA;have Gf:S r=λx=>if x.testBit d.v then S d.hi x else S d.lo x:=funext λx=>h.ok.mid.int.node hN x
  refine aI λg=>xB λc1 _=>?_;refine Ld.mk (v:=.map (some mb)) (by exact .tail _ (.tail _ (xae _ (hZ _ h19)))) rfl ?_;refine hm.dN.bO (k:=r) cY (b:=mb) (by exact .tail _ (.head _)) hv ?_;refine Ext.two λc7 _=>(St.q ?_);refine Br.no (Ld.mk (v:=ptr kp) (by exact .tail _ (.tail _ (.tail _ (xae _ (hZ _ h1))))) rfl ?_);refine aa.pq (args:=#[ptr kp,u32 r]) (wS (X:=Z) h hN) ?_;rintro w N0 rfl;intro Yu _;refine St.p (fA d) ?_;obtain⟨Z1,hZ1⟩:∃Z1,Z1=(Yu,Obj.cells (bt d).toArray 144 zZ)::(N0++Z):=⟨_,rfl⟩;have Sp:∀x∈Z,x∈Z1:=λx hx=>by rw[hZ1];exact .tail _ (xac _ hx)
  have R4:aM (Z1++C) ((Yu,Obj.cells (bt d).toArray 144 zZ)::Z):=by rw[hZ1];exact aM.left.trans (.cons .right)
  have uJ:((Yu,Obj.cells (bt d).toArray 144 zZ)::(c7,.cells (List.toArray [iv 0,.slice none 0 0]) 175 zZ)::(c1,.cells #[iv 0,.slice none 0 0] 175 zZ)::(mb,Obj.map es ck)::(N0++(Z++C))).Perm
    ((c1,.cells #[iv 0,.slice none 0 0] 175 zZ)::(c7,.cells (List.toArray [iv 0,.slice none 0 0]) 175 zZ)::(mb,Obj.map es ck)::(Z1++C)):=by
   rw[hZ1,xaQ,xai];refine(List.Perm.swap _ _ _).trans ?_;refine(List.Perm.cons _ (List.Perm.swap _ _ _)).trans ?_;refine(List.Perm.swap _ _ _).trans (.cons _ (.cons _ (.swap _ _ _)))
  have hR0:aM ((Yu,Obj.cells (bt d).toArray 144 zZ)::(c7,.cells (List.toArray [iv 0,.slice none 0 0]) 175 zZ)::(c1,.cells #[iv 0,.slice none 0 0] 175 zZ)::(mb,Obj.map es ck)::(N0++(Z++C))) ((Yu,Obj.cells (bt d).toArray 144 zZ)::Z):=
   .cons (.skip (.skip (.skip (.eY .left))))
  refine DR.of hR0 (Ld.mk (v:=.func (.func 180) #[] #[ptr bn]) (by exact .tail _ (hZ _ h7)) rfl ?_);refine az.q ?_;refine Ld.mk (v:=.func (.func 235) #[] #[ptr BZ,ptr b1,ptr b7,ptr EM]) (by exact .tail _ (hZ _ h22)) rfl ?_;refine Ld.f ?_;refine Ld.mk (v:=.func (.func 235) #[] #[ptr BZ,ptr b1,ptr b7,ptr EM]) (by exact .tail _ (hZ _ h22)) rfl ?_;refine Ld.f ?_;intro F;refine aE.of rfl zK (aa.pre (.perm uJ) ?_);refine aa.fq (args:=#[u32 d.lo,ptr BZ,ptr b1,ptr b7,ptr EM]) (ih d.lo es ck m Z1 zO hlo.1 (λx hx=>Sp _ (hZ x hx)) (hm.mono Sp)) ?_;rintro v1 H ⟨kB,jN,m1,N1,rfl,xU,ht1⟩;refine⟨.skip (.skip (.skip (.eY R4))),?_⟩;rw[<-xai];intro F;refine aE.of rfl zK (aa.fq (args:=#[u32 d.hi,ptr BZ,ptr b1,ptr b7,ptr EM]) (ih d.hi kB jN m1 (N1++Z1) zO hhi.1 (λx hx=>xac _ (Sp _ (hZ x hx))) xU) ?_);rintro v2 H ⟨gV,iE,m2,N2,rfl,nj,X1⟩;refine⟨.skip (.skip (.skip (.eY (aM.assoc.trans (.eY R4))))),?_⟩;rw[<-xai];intro F;refine aE.of rfl zK (aa.pq (args:=#[.agg (bt d).toArray,v1,v2,ptr bn]) (SM (bn:=bn) hn kA (ht1.mono λ_ h=>xac _ h) X1 (xac _ (xac _ (Sp _ (hZ _ hbn))))) ?_);intro v3 N3 RH;rw[<-Gf]at RH;refine⟨.skip (.skip (.skip (aM.assoc.trans (.eY (aM.assoc.trans (.eY (aM.assoc.trans (.eY R4)))))))),?_⟩;obtain⟨s3,rfl,o3⟩:=RH.one;intro c37 _;intro F;refine St.p (cX o3) ?_;refine Ld.mk (v:=.map (some mb)) (by exact .tail _ (.tail _ (.tail _ (.tail _ (xae _ (xac _ (xac _ (xac _ (Sp _ (hZ _ h19)))))))))) rfl ?_;refine az.q ?_;refine nj.dN.bK (k:=r) (b:=mb) (x:=.agg #[iv (K.n:Int),s3]) cY gT rfl λpo qR he=>⟨_,.tail (.tail (.tail (.head _))),?_⟩;refine az.q ?_;refine St.p (cX o3) ?_;refine az.q ?_;have hmem:∀x∈N3++(N2++(N1++Z1)),x∈(N3++(N2++(N1++((Yu,Obj.cells (bt d).toArray 144 zZ)::N0))))++Z:=λx hx=>by
   rw[hZ1]at hx;simpa only[xai,xaQ]using hx
  refine aN.mk (.skip (.skip .tail)) ⟨po,qR,eo m2 r (.agg #[iv (K.n:Int),s3]),N3++(N2++(N1++((Yu,Obj.cells (bt d).toArray 144 zZ)::N0))),by rw[hZ1];simp only[xai,xaQ],⟨he,λr' v' n8=>?_,λr' hr'=>?_⟩,RH.mono hmem⟩
  ·rw[bL]at n8;split at n8
   ·rename_i e;subst e;cases n8;exact RH.mono hmem
   exact(nj.kf r' v' n8).mono λx hx=>hmem x (xac _ hx)
  rw[bL];split
  ·simp
  exact nj.low r' hr'
end
end
end Go.Proofs
