import Derived.Test.YtgeffephefcdiaaGreatA3
import Derived.Test.YtgeffephefcdiaaGreatA1
import Derived.Test.YtgeffephefcdiaaGreatA2
import Derived.Deep.Slices
import Derived.SizedLaws
set_option linter.unusedVariables false
set_option linter.unusedSimpArgs false
set_option linter.unusedSectionVars false
set_option maxRecDepth 100000
namespace Go.Proofs
open Go Go.Sx
open aA
structure kU(K0:Kd)(S0:Nat->aA.Fn)(U:aA.Fn->Prop)(ord:zL)(K:Kd)(S:Nat->aA.Fn)(made:zL):Prop where
 n:K.n=K0.n
 cap:K.cap=K0.cap
 N:∀s d,K0.N s=some d->K.N s=some d
 fn:∀s,live K0.N s->S s=S0 s
 hold:∀s,K.hold s=K0.hold s+made.count s
 two:∀s∈made,2<=s
 U:∀g,aG K0.n ord (K.held S) g->U g
theorem kU.refl{K0:Kd}{S0:Nat->aA.Fn}{U:aA.Fn->Prop}{ord:zL}(h:∀g,aG K0.n ord (K0.held S0) g->U g):kU K0 S0 U ord K0 S0 []:=⟨rfl,rfl,λ_ _ h=>h,λ_ _=>rfl,λs=>by simp,by simp,h⟩
def Fits(U:aA.Fn->Prop)(cap:Nat):Prop:=∃ku,o7 U ku/\ku+2<=cap
section
variable {kp:Nat} {K0 K:Kd} {S0 S:Nat->aA.Fn} {U:aA.Fn->Prop} {ord ah tr:zL} {made:zL} {C:Hp}
theorem kU.iz(h:kU K0 S0 U ord K S made)(hK:cc kp K S ord ah tr C){s:Nat}(hs:s∈made):live K.N s:=by
 refine .inr (hK.ok.mid.held s ?_);rw[h.hold];have:=xbJ.2 hs;omega
theorem yA{b:Nat}:∀(m:Nat) (l:zL),(∀x∈l,x<m)->(∀x,l.count x<=b)->l.length<=m*b
 |0,l,h1,_=>by
  cases l with
  |nil=>simp
  |cons x l=>exact absurd (h1 x (xbH ..)) (xcC _)
 |m+1,l,h1,h2=>by
  have ih:=yA m (l.filter λx=> !(x==m)) (λx hx=>by
   obtain⟨hx,hne⟩:=xbS.1 hx;have:=h1 x hx;have:x≠m:=by simpa using hne
   omega) (λx=>xbO (List.filter_sublist.count_le x) (h2 x))
  have e:=List.length_eq_countP_add_countP (λx=>x==m) (l:=l);have h3:=h2 m;rw[List.count]at h3;rw[List.countP_eq_length_filter (l:=l) (p:=λa=>decide ¬(a==m)=true)]at e;rw[xbu];have e2:(l.filter λa=>decide ¬(a==m)=true)=l.filter λx=> !(x==m):=xdl λx _=>by cases x==m<;>rfl
  rw[e2]at e;omega
theorem kU.qN(h:kU K0 S0 U ord K S made)(hK:cc kp K S ord ah tr C):made.length<=1048576*65535:=
 yA _ _ (λx hx=>by
  have hc:=xbJ.2 hx;have:=h.hold x;obtain⟨d,hd⟩:=hK.ok.mid.held x zO;have:=(hK.ok.mid.two hd).2;have:=hK.ok.mid.cap;omega) (λx=>by have:=h.hold x;have:=hK.ok.mid.mx x;omega)
theorem kU.full(h:kU K0 S0 U ord K S made){r:Nat}(hr:K.hold r=65535):r∈made\/K0.hold r=65535:=by
 by_cases hm:r∈made
 ·exact .inl hm
 have:=h.hold r;rw[xdI.2 hm]at this;exact .inr zO
theorem kU.live(h:kU K0 S0 U ord K S made){s:Nat}(hs:live K0.N s):live K.N s:=cu h.N hs
theorem kU.step(h:kU K0 S0 U ord K S made)(hK:cc kp K S ord ah tr C){K':Kd}{S':Nat->aA.Fn}{f:aA.Fn}{r:Nat}(m:pE K S K' S' f r)(h2:2<=r)(hU:∀g,aG K0.n ord (λg=>g=f) g->U g):kU K0 S0 U ord K' S' (made++[r]):=by
 refine⟨m.n.trans h.n,m.cap.trans h.cap,λs d hd=>m.N s d (h.N s d hd),λs hs=>(m.fn s (h.live hs)).trans (h.fn s hs),λs=>?_,λs hs=>?_,λg hg=>?_⟩
 ·rw[m.hold,xbf,xcH,h.hold];by_cases e:s=r
  ·subst e;simp[h2];omega
  have:(r==s)=false:=by simpa using λe'=>e e'.symm
  simp[e,this]
 ·rcases xan.1 hs with hs|hs
  ·exact h.two s hs
  simp at hs;subst hs;exact h2
 have mq:∀g,K'.held S' g->K.held S g\/g=f:=by
  rintro g ⟨s,hs,rfl⟩;have hs':K'.hold s≠0:=hs;rw[m.hold]at hs';by_cases e:s=r/\2<=r
  ·right;rw[e.1];exact m.is
  rw[xab e]at hs';exact .inl ⟨s,hs',m.fn s (.inr (hK.ok.mid.held s hs'))⟩
 rcases(B9 g).1 (cK mq hg)with h1|h1
 ·exact h.U g h1
 exact hU g h1
end
def AO(jd b1 b5 rJ:Nat):zV:=.func (.func 252) #[] #[ptr jd,ptr b1,ptr b5,ptr rJ]
structure A0(fv:zV)(LB:Hp)(t:Bool->Bool->Bool->Bool):Prop where
 is:∃f first cap,fv=.func (.func f) first cap/\aT zQ f=true/\∀x y z:Bool,Rd zQ f (first++ #[.bool x,.bool y,.bool z]++cap) LB (· =.bool (t x y z))
def ac1(K0:Kd)(S0 S:Nat->aA.Fn)(t:Bool->Bool->Bool->Bool)(made:zL)(m:List (Q3×Nat)):Prop:=∀y∈m,S y.2=tS t S0 (l3 y.1)/\(y.2<2\/y.2∈made\/K0.hold y.2=65535)
section
variable {kp jd b1 b5 rJ bm bw:Nat} {vl fv:zV} {LB CL:Hp} {lvl:zL} {K0:Kd} {S0:Nat->aA.Fn} {U:aA.Fn->Prop} {ord ah:zL} {t:Bool->Bool->Bool->Bool}
abbrev Xj(jd b1 b5 rJ bm bw kp:Nat)(fv vl vm:zV)(LB CL CM C:Hp)(es:Array MapEntry)(ck:Nat):Hp:=
 (jd,.cells #[.map (some bm)] 307 (0,0))::(b1,.cells #[ptr bw] 231 (0,0))::(b5,.cells #[fv] 237 (0,0))::(rJ,.cells #[AO jd b1 b5 rJ] 308 (0,0))::
 (LB++((bm,.map es ck)::(gy bw kp vl vm::(CL++(CM++C)))))
structure Stp(kp:Nat)(K0:Kd)(S0:Nat->aA.Fn)(U:aA.Fn->Prop)(ord ah XH:zL)(t:Bool->Bool->Bool->Bool)(K:Kd)(S:Nat->aA.Fn)(made:zL)(es:Array MapEntry)(ck:Nat)(vm:zV)(CM C:Hp):Prop where
 ks:∃tr,cc kp K S ord ah tr C/\(tr=[]\/(tr=XH/\made=[]))
 cV:kU K0 S0 U ord K S made
 mde:aQ 110 .u32 vm (iw made) CM
 kn:∃m,aE kq OJ es ck m/\ac1 K0 S0 S t made m
structure gx(K:Kd)(S:Nat->aA.Fn)(made:zL)(K':Kd)(S':Nat->aA.Fn)(made':zL)(c:Nat):Prop where
 N:∀s d,K.N s=some d->K'.N s=some d
 fn:∀s,live K.N s->S' s=S s
 ext:∃ext,made'=made++ext/\ext.length<=c
theorem gx.refl{K:Kd}{S:Nat->aA.Fn}{made:zL}{c:Nat}:gx K S made K S made c:=⟨λ_ _ h=>h,λ_ _=>rfl,[],by simp,xaO _⟩
section
variable {K K' K2:Kd} {S S' S2:Nat->aA.Fn} {made made' fS:zL} {c c':Nat}
theorem gx.LJ(h:gx K S made K' S' made' c)(hc:c<=c'):gx K S made K' S' made' c':=⟨h.N,h.fn,let ⟨e,h1,h2⟩:=h.ext;⟨e,h1,by omega⟩⟩
theorem gx.mem{s:Nat}(h:gx K S made K' S' made' c)(hs:s∈made):s∈made':=by
 obtain⟨e,rfl,_⟩:=h.ext;exact xad _ hs
theorem gx.count(h:gx K S made K' S' made' c)(s:Nat):made'.count s<=made.count s+c/\made'.length<=made.length+c:=by
 obtain⟨e,rfl,he⟩:=h.ext;have:=List.count_le_length (a:=s) (l:=e);rw[xbf,xaf];omega
theorem gx.trans(h:gx K S made K' S' made' c)(h':gx K' S' made' K2 S2 fS c'):gx K S made K2 S2 fS (c+c'):=by
 obtain⟨e,rfl,he⟩:=h.ext;obtain⟨e',rfl,he'⟩:=h'.ext;exact⟨λs d hd=>h'.N s d (h.N s d hd),λs hs=>(h'.fn s (cu h.N hs)).trans (h.fn s hs),e++e',by rw[xai],by rw[xaf];omega⟩
end
theorem nL{κ β:Type}[DecidableEq κ]{m:List (κ×β)}{k:κ}{x:β}{y:κ×β}(h:y∈dZ m k x):y=(k,x)\/y∈m:=by
 unfold dZ at h;split at h
 ·obtain⟨z,hz,rfl⟩:=xao.1 h;split
  ·exact .inl rfl
  exact .inr hz
 rcases xan.1 h with h|h
 ·exact .inr h
 simp at h;exact .inl h
def BU(N:eB)(v:Nat)(b:Bool)(q:Q3):Q3:=(dY N v b q.1,dY N v b q.2.1,dY N v b q.2.2)
theorem UT(N:eB)(v:Nat)(b:Bool)(q:Q3):l3 (BU N v b q)=iW N v b (l3 q):=rfl
theorem nV{N N':eB}(hN:∀s d,N s=some d->N' s=some d)(h2:∀r,r<2->N r=none)(oM:∀r,r<2->N' r=none){r:Nat}(hr:live N r):got N' r=got N r:=by
 rcases hr with hr|⟨d,hd⟩
 ·rw[fG hr,fG hr]
 by_cases h:r<2
 ·rw[h2 r h]at hd;cases hd
 rw[dX hd zO,dX (hN r d hd) zO]
def Ans(kp jd b1 b5 rJ bm bw:Nat)(fv vl:zV)(LB CL:Hp)(K0:Kd)(S0:Nat->aA.Fn)(U:aA.Fn->Prop)(ord ah XH:zL)(t:Bool->Bool->Bool->Bool)(ql:zL)(c:Nat)(K:Kd)(S:Nat->aA.Fn)(made:zL)(r:zV)(H:Hp):Prop:=
 ∃K' S' made' es' bB XC ZM C',H=Xj jd b1 b5 rJ bm bw kp fv vl XC LB CL ZM C' es' bB/\Stp kp K0 S0 U ord ah XH t K' S' made' es' bB XC ZM C'/\gx K S made K' S' made' c/\
   ((∃x:Nat,r=.tuple #[u32 x,iv 0]/\S' x=tS t S0 ql/\(x<2\/x∈made'\/K0.hold x=65535))\/(r=.tuple #[u32 0,iv 9]/\¬Fits U K0.cap))
theorem Zf(fN:aT zQ 252=true)(Ed:A0 fv LB t)(Xi:aQ 3 .i64 vl (iw lvl) CL)(nw:lvl.length=K0.n)(hlv:∀v,v<K0.n->lvl.getD v 0=lv ah v)(si:K0.n<=64)(kY:WF K0.n (lv ah) K0.N)(oY:Interp K0.N S0)(jK:jY K0.n (lv ah))(OZ:∀r,live K0.N r->r<4294967296)(hh0:∀s,K0.hold s=65535->live K0.N s){XH:zL}:
  ∀(ql:zL) (c:Nat),Tree K0.n (lv ah) K0.N ql c->∀(q:Q3),l3 q=ql->∀(K:Kd) (S:Nat->aA.Fn) (made:zL) (es:Array MapEntry) (ck:Nat) (vm:zV) (CM C:Hp),Stp kp K0 S0 U ord ah XH t K S made es ck vm CM C->
  (∀r∈ql,live K0.N r)->(∀g,aG K0.n ord (λg=>g=tS t S0 ql) g->U g)->
  Fc zQ 252 #[kq q,ptr jd,ptr b1,ptr b5,ptr rJ] (Xj jd b1 b5 rJ bm bw kp fv vl vm LB CL CM C es ck) (λr H=>Ans kp jd b1 b5 rJ bm bw fv vl LB CL K0 S0 U ord ah XH t ql c K S made r H):=by
 have hc0:∀r,r<2->K0.N r=none:=λr hr=>kY.const hr;intro ql c hT;induction hT with
 | @leaf ql hnone=>
  intro q hq K S made es ck vm CM C hS fK hU g;subst hq;obtain⟨tr,hK,eM⟩:=hS.ks;obtain⟨m,hE,hkn⟩:=hS.kn;have KR:∀r,r<2->K.N r=none:=λr hr=>hK.ok.wf.const hr;refine wZ (R:=aN _) ?_;unfold L252;intro bq _;refine Ld.q ?_;refine ay.q ?_;have xI:(bm,Obj.map es ck)∈(bq,Obj.cells (ax .u32 (iw (l3 q))) 236 (0,0))::Xj jd b1 b5 rJ bm bw kp fv vl vm LB CL CM C es ck:=.tail _ (.tail _ (.tail _ (.tail _ (.tail _ (xac _ (.head _))))));cases hg:aK m q with
  |some x=>
   refine aE.Fv (ke:=kq) (k:=q) vz p6 hE xI hg ?_;rintro v rfl;obtain⟨h1,h2⟩:=hkn _ ((dV hE.nd).1 hg);exact Ext.mk rfl (Ext.mk rfl (Br.yes (aN.mk .tail ⟨K,S,made,es,ck,vm,CM,C,rfl,hS,.refl,.inl ⟨x,rfl,h1,h2⟩⟩)))
  |none=>
   refine aE.vi (ke:=kq) (k:=q) vz p6 hE xI hg ?_;refine Ext.mk rfl (Ext.mk rfl (Br.no (Ld.q ?_)));refine ay.q ?_;refine aa.fq (args:=#[ptr bw,kq q]) (y9 hK.rep q (λr hr=>OZ r (fK r hr))) ?_;rintro vn H ⟨CN,rfl,hN⟩;have eN:(l3 q).map (got K.N)=(l3 q).map (got K0.N):=xbn λr hr=>nV hS.cV.N hc0 KR (fK r hr);rw[eN]at hN;refine Ld.q ?_;refine aa.rq (Ln (bw:=bw) (kp:=kp) (vl:=vl) (vm:=vm) (lvl:=lvl) (n:=K0.n) (rG:=lv ah) (N:=K0.N) (.tail _ (.tail _ (.tail _ (.tail _ (.tail _ (xac _ (.tail _ (xac _ (.head _))))))))) (Xi.ints.mono λ_ h=>.tail _ (.tail _ (.tail _ (.tail _ (.tail _ (xac _ (.tail _ (xac _ (.tail _ (xad _ h)))))))))) nw hlv q ((Sl.qF hN zD).mono λ_ h=>.tail _ (.tail _ (.tail _ (.tail _ (.tail _ (xac _ (.tail _ (xad _ h)))))))) kY jK fK si) ?_;rintro w (⟨_,rfl⟩|⟨v,hv,rfl⟩);rotate_left
   ·obtain⟨s,hs,d,hd,_⟩:=hv.ex;rw[hnone s hs]at hd;cases hd
   refine ae.lss (Br.T ?_);have MZ:∀r∈l3 q,r<2:=λr hr=>by
    rcases fK r hr with h|⟨d,hd⟩
    ·exact h
    rw[hnone r hr]at hd;cases hd
   obtain⟨f,first,cap,Ro,hfc,hL⟩:=Ed.is;refine Ld.q ?_;refine iY.nat (j:=0) zD (Ld.q ?_);refine ae.eO (b:=1) (iY.nat (j:=1) zD (Ld.q ?_));refine ae.eO (b:=1) (iY.nat (j:=2) zD (Ld.q ?_));refine ae.eO (b:=1) (aL.of Ro hfc ?_);refine aa.eq (hL _ _ _) ?_;have Fz:=λx=>Ni oY (q:=l3 q) rfl MZ t x;have hint:=hK.ok.mid.int;have W9:aM ((bq,Obj.cells (ax .u32 (iw (l3 q))) 236 (0,0))::(jd,.cells #[.map (some bm)] 307 (0,0))::(b1,.cells #[ptr bw] 231 (0,0))::(b5,.cells #[fv] 237 (0,0))::(rJ,.cells #[AO jd b1 b5 rJ] 308 (0,0))::(LB++((bm,.map es ck)::(CN++(gy bw kp vl vm::(CL++(CM++C))))))) (Xj jd b1 b5 rJ bm bw kp fv vl vm LB CL CM C es ck):=
    .skip (.cons (.cons (.cons (.cons (.cW (.cons .right) _)))))
   refine Br.mk (λhb=>?_) (λhb=>?_)
   ·refine aN.mk W9 ⟨K,S,made,es,ck,vm,CM,C,rfl,hS,.refl,.inl ⟨1,rfl,funext λx=>?_,.inl zO⟩⟩;rw[hint.one,Fz x];exact hb.symm
   refine aN.mk W9 ⟨K,S,made,es,ck,vm,CM,C,rfl,hS,.refl,.inl ⟨0,rfl,funext λx=>?_,.inl zO⟩⟩;rw[hint.zero,Fz x];exact hb.symm
 | @node ql v a b hv ha hb iha ihb=>
  intro q hq K S made es ck vm CM C hS fK hU g;subst hq;obtain⟨tr,hK,eM⟩:=hS.ks;obtain⟨m,hE,hkn⟩:=hS.kn;have KR:∀r,r<2->K.N r=none:=λr hr=>hK.ok.wf.const hr;refine wZ (R:=aN _) ?_;unfold L252;intro bq _;refine Ld.q ?_;refine ay.q ?_;have xI:(bm,Obj.map es ck)∈(bq,Obj.cells (ax .u32 (iw (l3 q))) 236 (0,0))::Xj jd b1 b5 rJ bm bw kp fv vl vm LB CL CM C es ck:=.tail _ (.tail _ (.tail _ (.tail _ (.tail _ (xac _ (.head _))))));cases hg:aK m q with
  |some x=>
   refine aE.Fv (ke:=kq) (k:=q) vz p6 hE xI hg ?_;rintro v rfl;obtain⟨h1,h2⟩:=hkn _ ((dV hE.nd).1 hg);exact Ext.mk rfl (Ext.mk rfl (Br.yes (aN.mk .tail ⟨K,S,made,es,ck,vm,CM,C,rfl,hS,.refl,.inl ⟨x,rfl,h1,h2⟩⟩)))
  |none=>
  refine aE.vi (ke:=kq) (k:=q) vz p6 hE xI hg ?_;refine Ext.mk rfl (Ext.mk rfl (Br.no (Ld.q ?_)));refine ay.q ?_;refine aa.fq (args:=#[ptr bw,kq q]) (y9 hK.rep q (λr hr=>OZ r (fK r hr))) ?_;rintro vn H ⟨CN,rfl,hN⟩;have eN:(l3 q).map (got K.N)=(l3 q).map (got K0.N):=xbn λr hr=>nV hS.cV.N hc0 KR (fK r hr);rw[eN]at hN;refine Ld.q ?_;refine aa.rq (Ln (bw:=bw) (kp:=kp) (vl:=vl) (vm:=vm) (lvl:=lvl) (n:=K0.n) (rG:=lv ah) (N:=K0.N) (.tail _ (.tail _ (.tail _ (.tail _ (.tail _ (xac _ (.tail _ (xac _ (.head _))))))))) (Xi.ints.mono λ_ h=>.tail _ (.tail _ (.tail _ (.tail _ (.tail _ (xac _ (.tail _ (xac _ (.tail _ (xad _ h)))))))))) nw hlv q ((Sl.qF hN zD).mono λ_ h=>.tail _ (.tail _ (.tail _ (.tail _ (.tail _ (xac _ (.tail _ (xad _ h)))))))) kY jK fK si) ?_;rintro w (⟨aH,_⟩|⟨v',nR,rfl⟩)
  ·obtain⟨s,hs,d,hd,_⟩:=hv.ex;rw[aH s hs]at hd;cases hd
  obtain rfl:v'=v:=nR.uniq jK hv;refine ae.lss (Br.F (DR.of (R:=[(bq,Obj.cells (ax .u32 (iw (l3 q))) 236 (0,0))]) (aM.left (A:=[_])) (ay.q ?_)));refine ay.q ?_;intro b31 _ Xp _ F35;have hone:∀x∈(iw (l3 q)).map λn=>Value.int .u32 n,x.oneCell'=true:=λx hx=>by obtain⟨n,_,rfl⟩:=xao.1 hx;rfl
  refine St.p hone ?_;refine⟨.skip (.skip (aM.left (A:=[_]))),?_⟩;intro F37;refine St.p hone ?_;refine hN.bP ?_;rw[xax];refine⟨λvs H=>∃i:Nat,vs=[iv (i:Int)]/\i<=3/\H=(Xp,.cells (ax .u32 (iw (mK K0.N v' true (l3 q) i))) 236 (0,0))::(b31,.cells (ax .u32 (iw (mK K0.N v' false (l3 q) i))) 236 (0,0))::
    (bq,Obj.cells (ax .u32 (iw (l3 q))) 236 (0,0))::(jd,.cells #[.map (some bm)] 307 (0,0))::(b1,.cells #[ptr bw] 231 (0,0))::(b5,.cells #[fv] 237 (0,0))::(rJ,.cells #[AO jd b1 b5 rJ] 308 (0,0))::(LB++((bm,.map es ck)::(CN++(gy bw kp vl vm::(CL++(CM++C)))))),
   λvs _=>3-bL vs 0,JE.mk ⟨0,rfl,by omega,by rw[yh,yh];rfl⟩,?_⟩
  rintro w44 H ⟨i,hvs,hi,rfl⟩ gs;simp only[xau,xa0]at hvs;subst hvs;have hl3:(l3 q).length=3:=rfl;refine ae.fi (b:=3) (Br.dec (λhlt=>?_) (λhlt=>?_))
  ·-- a part of the question
   intro J hJ;obtain⟨r,hr⟩:∃r,(l3 q)[i]? =some r:=⟨_,xaa (show i<(l3 q).length from hlt)⟩;have hlr:=fK r (xaw hr);have hrow:((l3 q).map (got K0.N))[i]? =some (got K0.N r):=by rw[xat,hr];rfl
   refine au.sl (Sl.qF hN zD) hrow λp hp=>?_;refine ay.at hp (aR _ _).1 zD (λ_ h=>.tail _ (.tail _ (.tail _ (.tail _ (.tail _ (.tail _ (.tail _ (xac _ (.tail _ (xad _ h)))))))))) ?_;intro b52 _;refine St.whole (r:=got K0.N r) (by exact .head _) rfl (aR _ _).1 (aR _ _).2 ?_;have stay:dY K0.N v' false r=r->dY K0.N v' true r=r->∀Z:Hp,JE J [] (Z++((Xp,.cells (ax .u32 (iw (mK K0.N v' true (l3 q) i))) 236 (0,0))::(b31,.cells (ax .u32 (iw (mK K0.N v' false (l3 q) i))) 236 (0,0))::
    (bq,Obj.cells (ax .u32 (iw (l3 q))) 236 (0,0))::(jd,.cells #[.map (some bm)] 307 (0,0))::(b1,.cells #[ptr bw] 231 (0,0))::(b5,.cells #[fv] 237 (0,0))::(rJ,.cells #[AO jd b1 b5 rJ] 308 (0,0))::(LB++((bm,.map es ck)::(CN++(gy bw kp vl vm::(CL++(CM++C)))))))):=λe1 e2 Z=>by
    refine JE.of .right (hJ _ λgs=>?_);exact ae.inc (aC.of (.refl _) ⟨i+1,rfl,by omega,by rw[yj hr e1,yj hr e2]⟩ (by simp only[bL];omega))
   cases Y7:K0.N r with
   |none=>
    have p7:r<2:=by rcases hlr with h2|⟨d,hd⟩;exact h2;rw[Y7]at hd;cases hd
    rw[fG p7];refine Ld.f ?_;refine ae.gU (Br.F ?_);have ec:∀b,dY K0.N v' b r=r:=λb=>by unfold dY;rw[Y7]
    exact stay (ec false) (ec true) [_]
   |some d=>
    have h2:=kY.two Y7;rw[dX Y7 h2];refine Ld.f ?_;refine ae.eO (Br.dec (λkX=>?_) (λkX=>?_))
    ·refine DR.of (R:=[(b52,Obj.cells (bu d).toArray 226 (0,0))]) (aM.left (A:=[_])) (Ld.f ?_);refine Ld.f ?_;have elo:dY K0.N v' false r=d.lo:=by unfold dY;rw[Y7];simp[kX]
     have ehi:dY K0.N v' true r=d.hi:=by unfold dY;rw[Y7];simp[kX]
     refine iY.nat hlt ?_;refine St.ints (l:=iw (mK K0.N v' false (l3 q) i)) (x:=(d.lo:Int)) (by exact .tail (.tail (.head _))) (by rw[ak,Ce zO];omega) ?_;refine⟨aM.left (A:=[_]),?_⟩;refine iY.nat hlt ?_;refine St.ints (l:=iw (mK K0.N v' true (l3 q) i)) (x:=(d.hi:Int)) (by exact .tail (.head _)) (by rw[ak,Ce zO];omega) ?_;rw[fj,fj,<-elo,<-ehi,r4 hr,r4 hr];refine JE.of .tail (hJ _ λgs=>?_);exact ae.inc (aC.of (.refl _) ⟨i+1,rfl,by omega,rfl⟩ (by simp only[bL];omega))
    have ec:∀b,dY K0.N v' b r=r:=λb=>by unfold dY;rw[Y7];simp[kX]
    exact stay (ec false) (ec true) [_]
  obtain rfl:i=3:=by omega
  have em:∀b,mK K0.N v' b (l3 q) 3=l3 (BU K0.N v' b q):=λb=>by rw[UT,<-Qr];rfl
  rw[em,em];obtain⟨f1,f2⟩:=oR (S:=S0) kY jK oY fK hv false;obtain⟨t1,t2⟩:=oR (S:=S0) kY jK oY fK hv true;have ec:∀b,tS t S0 (iW K0.N v' b (l3 q))=λx=>tS t S0 (l3 q) (an.aB x v' b):=λb=>K9 kY jK oY rfl fK hv t b;have mQ:Ord K0.n (lv ah) ord:=by rw[<-hS.cV.n];exact hK.od
  have iB:=jK.lt v' hv.lt;have MU:=mQ.of jK hv.lt;have sk:=yV kY jK oY mQ (q:=l3 q) rfl fK (xb7 iB) hv.le t;obtain⟨i1,Pu⟩:=jI (n:=K0.n) (ord:=ord) (c:=tS t S0 (iW K0.N v' false (l3 q))) sk (b:=false) (by rw[MU];exact ec false);obtain⟨i2,Pt⟩:=jI (n:=K0.n) (ord:=ord) (c:=tS t S0 (iW K0.N v' true (l3 q))) sk (b:=true) (by rw[MU];exact ec true);refine Ld.q ?_;refine ay.q ?_;refine aL.of rfl fN ?_;refine aa.pre (H':=(Xp,.cells (ax .u32 (iw (l3 (BU K0.N v' true q)))) 236 (0,0))::(b31,.cells (ax .u32 (iw (l3 (BU K0.N v' false q)))) 236 (0,0))::(bq,Obj.cells (ax .u32 (iw (l3 q))) 236 (0,0))::Xj jd b1 b5 rJ bm bw kp fv vl vm LB CL CM C es ck) (.cons (.cons (.cons (.cons (.cons (.cons (.cons (.cW (.cons .right) _)))))))) ?_;refine aa.fq (args:=#[kq (BU K0.N v' false q),ptr jd,ptr b1,ptr b5,ptr rJ]) (iha (BU K0.N v' false q) rfl K S made es ck vm CM C hS f1 (λg hg=>hU g (Pu g hg))) ?_;rintro w H ⟨K1,S1,yu,j9,jL,vm1,CM1,C1,rfl,Ec,VJ,RI⟩;rcases RI with⟨x1,rfl,hx1,tL⟩|⟨rfl,hno⟩;rotate_left
  ·exact Ext.mk rfl (Ext.mk rfl (ae.cG (Br.T (aN.mk (.skip (.skip .tail)) ⟨K1,S1,yu,j9,jL,vm1,CM1,C1,rfl,Ec,VJ.LJ zO,.inr ⟨rfl,hno⟩⟩))))
  refine Ext.mk rfl (Ext.mk rfl (ae.cG (Br.F (Ld.q ?_))));refine ay.q ?_;refine aL.of rfl fN ?_;have hc1:=λs=>VJ.count s;have hh1:∀s,K1.hold s<=K.hold s+a:=λs=>by rw[Ec.cV.hold,hS.cV.hold];have:=(hc1 s).1;omega
  refine aa.fq (args:=#[kq (BU K0.N v' true q),ptr jd,ptr b1,ptr b5,ptr rJ]) (ihb (BU K0.N v' true q) rfl K1 S1 yu j9 jL vm1 CM1 C1 Ec t1 (λg hg=>hU g (Pt g hg))) ?_;rintro w H ⟨K2,S2,fS,gR,iE,vm2,CM2,C2,rfl,jB,nU,RI⟩;have xM:=VJ.trans nU;rcases RI with⟨x2,rfl,Fo,lR⟩|⟨rfl,hno⟩;rotate_left
  ·exact Ext.mk rfl (Ext.mk rfl (ae.cG (Br.T (aN.mk (.skip (.skip .tail)) ⟨K2,S2,fS,gR,iE,vm2,CM2,C2,rfl,jB,xM.LJ zO,.inr ⟨rfl,hno⟩⟩))))
  refine Ext.mk rfl (Ext.mk rfl (ae.cG (Br.F (Ld.q ?_))));obtain⟨Wy,eV,U9⟩:=Ec.ks;obtain⟨D7,dk,tJ⟩:=jB.ks;have abC:=dk.ok.mid.int;have l11:live K1.N x1:=by rcases tL with h|h|h;exact .inl h;exact Ec.cV.iz eV h;exact Ec.cV.live (hh0 _ h)
  have e1:S2 x1=tS t S0 (iW K0.N v' false (l3 q)):=(nU.fn x1 l11).trans hx1;have l1:live K2.N x1:=by rcases tL with h|h|h;exact .inl h;exact jB.cV.iz dk (nU.mem h);exact jB.cV.live (hh0 _ h)
  have l2:live K2.N x2:=by rcases lR with h|h|h;exact .inl h;exact jB.cV.iz dk h;exact jB.cV.live (hh0 _ h)
  have n2:=jB.cV.n;have sj:ite S2 ⟨v',x1,x2⟩=tS t S0 (l3 q):=by
   funext x
   unfold aA.ite;rw[e1,Fo,ec,ec]
   conv=>rhs;rw[<-an.iq x v']
   simp only;cases x.testBit v'<;>rfl
  obtain⟨m2,sn,Vm⟩:=jB.kn;have hkl:∀y∈m2,live K2.N y.2:=λy hy=>by
   rcases(Vm y hy).2 with h|h|h
   ·exact .inl h
   ·exact jB.cV.iz dk h
   exact jB.cV.live (hh0 _ h)
  by_cases hx:x1=x2
  ·subst hx;refine aa.eq (Gk x1 v' _) (Ext.two ?_);intro J hJ;refine ae.gU (Br.T (Ld.q ?_));refine ay.q ?_;refine aE.LV (ke:=kq) (k:=q) (vr:=OJ) (x:=x1) vz p6 Am sn rfl λes' bB he=>⟨_,.tail (.tail (.tail (.tail (.tail (.tail (.tail ((c6.head _).ca LB))))))),?_⟩;refine JE.mk (hJ _ λgs=>?_);have hr:S2 x1=tS t S0 (l3 q):=by
    rw[<-sj]
    funext x
    unfold aA.ite;split<;>rfl
   have vH:x1<2\/x1∈fS\/K0.hold x1=65535:=lR;exact aN.mk (.skip (.skip .tail)) ⟨K2,S2,fS,es',bB,vm2,CM2,C2,rfl,⟨jB.ks,jB.cV,jB.mde,_,he,λy hy=>(nL hy).elim (λe=>by rw[e];exact⟨hr,vH⟩) (λhy=>Vm y hy)⟩,xM.LJ zO,.inl ⟨x1,rfl,hr,vH⟩⟩
  have yM:cF (tS t S0 (l3 q)) (ord.getD (lv ah v') 0):=by
   rw[MU];refine xaK λhno=>hx ?_;refine dk.ok.wf.same dk.ok.lv abC l1 l2 λx=>?_;rw[e1,Fo,ec,ec];exact(cN hno x false).trans (cN hno x true).symm
  have b1':=dk.ok.below dk.od (l:=lv ah v'+1) l1 zO (by rw[e1];exact i1);have b2':=dk.ok.below dk.od (l:=lv ah v'+1) l2 zO (by rw[Fo];exact i2);have RN:∀g,aG K0.n ord (λg=>g=ite S2 ⟨v',x1,x2⟩) g->U g:=by rw[sj];exact hU
  refine aa.fq (args:=#[ptr bw,iv (v':Int),u32 x1,u32 x2]) (SM dk (v:=v') (by rw[n2];exact hv.lt) l1 l2 hx ⟨by omega,by omega⟩ jB.mde (by have:=jB.cV.qN dk;omega)) ?_;rintro w H (⟨r,K3,S3,C3,vm3,CM3,rfl,rfl,j8,mk,VE⟩|⟨rfl,rfl,YQ,hT⟩|⟨r,rfl,rfl,hlr,O1,hfull,FI⟩)
  ·apply Ext.two;intro J hJ;refine ae.gU (Br.T (Ld.q ?_));refine ay.q ?_;refine aE.LV (ke:=kq) (k:=q) (vr:=OJ) (x:=r) vz p6 Am sn rfl λes' bB he=>⟨_,.tail (.tail (.tail (.tail (.tail (.tail (.tail ((c6.head _).ca LB))))))),?_⟩;refine JE.mk (hJ _ λgs=>?_);have hr:S3 r=tS t S0 (l3 q):=mk.is.trans sj;have p7:2<=r:=xc4 λh=>by
    obtain⟨x,hx⟩:=yM;apply hx;rw[<-hr];have YJ:=j8.ok.mid.int;have:r=0\/r=1:=by omega
    rcases this with rfl|rfl
    ·rw[YJ.zero,YJ.zero]
    rw[YJ.one,YJ.one]
   have j4:=jB.cV.step dk mk p7 RN;have Ee:gx K2 S2 fS K3 S3 (fS++[r]) 1:=⟨mk.N,mk.fn,[r],rfl,xaj _⟩;have vH:r<2\/r∈fS++[r]\/K0.hold r=65535:=.inr (.inl zI);refine aN.mk (.skip (.skip .tail)) ⟨K3,S3,fS++[r],es',bB,vm3,CM3,C3,rfl,⟨⟨[],j8,.inl rfl⟩,j4,VE,_,he,λy hy=>(nL hy).elim (λe=>by rw[e];exact⟨hr,vH⟩) (λhy=>?_)⟩,(xM.trans Ee).LJ zO,.inl ⟨r,rfl,hr,vH⟩⟩;obtain⟨k1,k2⟩:=Vm y hy;exact⟨by rw[Ee.fn y.2 (hkl y hy),k1],k2.imp id (Or.imp Ee.mem id)⟩
  ·apply Ext.two;intro J hJ;refine ae.gU (Br.F (JE.mk (hJ _ λgs=>?_)));refine aN.mk (.skip (.skip .tail)) ⟨K2,S2,fS,gR,iE,vm2,CM2,C2,rfl,jB,xM.LJ zO,.inr ⟨rfl,?_⟩⟩;rintro⟨ku,Rg,hfit⟩;have:=dk.ok.roomFor dk.od Rg (by rw[jB.cV.cap];exact hfit) (by rw[n2];exact jB.cV.U) (d:=⟨v',x1,x2⟩) l1 l2 hx (by rw[n2];exact hv.lt) ⟨by show lv ah v'<dep K2.n (lv ah) K2.N x1;omega,by show lv ah v'<dep K2.n (lv ah) K2.N x2;omega⟩ (RN _ (by rw[sj];exact oz sk iB yM)) hT;omega
  apply Ext.two;intro J hJ;refine ae.gU (Br.T (Ld.q ?_));refine ay.q ?_;refine aE.LV (ke:=kq) (k:=q) (vr:=OJ) (x:=r) vz p6 Am sn rfl λes' bB he=>⟨_,.tail (.tail (.tail (.tail (.tail (.tail (.tail ((c6.head _).ca LB))))))),?_⟩;refine JE.mk (hJ _ λgs=>?_);have hr:S2 r=tS t S0 (l3 q):=FI.trans sj;have vH:r<2\/r∈fS\/K0.hold r=65535:=.inr (jB.cV.full hfull);exact aN.mk (.skip (.skip .tail)) ⟨K2,S2,fS,es',bB,vm2,CM2,C2,rfl,⟨jB.ks,jB.cV,jB.mde,_,he,λy hy=>(nL hy).elim (λe=>by rw[e];exact⟨hr,vH⟩) (λhy=>Vm y hy)⟩,xM.LJ zO,.inl ⟨r,rfl,hr,vH⟩⟩
end
section
variable {kp bw:Nat} {vl vm:zV} {K:Kd} {S:Nat->aA.Fn} {ord ah tr:zL} {C:Hp}
theorem zg{Y:Hp}{vr:zV}{refs:zL}(hK:cc kp K S ord ah tr C)(hr:dA .u32 Y vr (iw refs))(hl:∀r∈refs,live K.N r)(cA:refs.length<=1048576):
  Fc zQ 177 #[ptr kp,vr] (Y++C) (λw H=>∃bw vl CL lvl,w=.tuple #[ptr bw,iv 0]/\H=gy bw kp vl (.slice none 0 0)::(CL++(Y++C))/\aQ 3 .i64 vl (iw lvl) CL/\lvl.length=K.n/\∀v,v<K.n->lvl.getD v 0=lv ah v):=by
 have hn:K.n<=64:=hK.aZ.lq;have mQ:=hK.od;refine aF λg=>Jf ?_;refine ae.aD (Br.no (hr.bP ?_));rw[ak];refine⟨λvs H=>∃i:Nat,vs=[iv (i:Int)]/\i<=refs.length/\H=Y++C,λvs _=>refs.length-bL vs 0,JE.mk ⟨0,rfl,xaO _,rfl⟩,?_⟩;rintro w7 H ⟨i,⟨⟩,hi,rfl⟩ gs;refine ae.fi (Br.dec (λhlt=>?_) (λhlt=>?_))
 ·have hlr:=hl _ (xaG hlt);refine hr.ld (n:=((refs[i]:Nat):Int)) (dg (xaa hlt)) (λ_ h=>xad _ h) ?_;refine aa.eq (args:=#[ptr kp,u32 refs[i]]) (iS hK.rep (by have:=hK.bK hlr;omega)) ?_;rw[bX.2 hlr];apply Ext.two;intro b15 _;refine St.whole (r:=got K.N refs[i]) (by exact .head _) rfl (aR _ _).1 (aR _ _).2 ?_;exact ae.cG (Br.F (ae.inc (aC.of .tail ⟨i+1,rfl,hlt,rfl⟩ (by simp only[bL];omega))))
 refine aa.eq (gM hK.rep) (cU.ints zO zO λbl=>?_);refine Build.mk (cs:=[ptr kp,.slice (some ⟨bl,0,none⟩) K.n K.n,.slice none 0 0]) zK ?_;intro bw _;refine aa.fq (yC hK.rep) ?_;rintro vo H ⟨N,rfl,ho⟩;refine ho.bP ?_;rw[ak,mQ.len];have hz:List.replicate K.n (0:Int)=iw (List.replicate K.n 0):=by simp[iw]
 have hm:=aQ.made (T:=3) (kd:=.i64) (b:=bl) (iw (List.replicate K.n 0));rw[ak,xdT]at hm;rw[hz];generalize hvl:Value.slice (some ⟨bl,0,none⟩) K.n K.n=vl at*;refine⟨λvs H=>∃(i:Nat) (L:zL) (CL:Hp),vs=[iv (i:Int)]/\i<=K.n/\H=gy bw kp vl (.slice none 0 0)::(CL++(Y++(N++C)))/\aQ 3 .i64 vl (iw L) CL/\L.length=K.n/\∀j,j<i->L.getD (ord.getD j 0) 0=j,λvs _=>K.n-bL vs 0,
  JE.mk ⟨0,_,_,rfl,xaO _,rfl,hm,by simp,λj hj=>absurd hj (xcC _)⟩,?_⟩
 rintro w34 H ⟨i,L,CL,⟨⟩,hi,rfl,hL,hLl,hLo⟩ gs;refine ae.fi (Br.dec (λhlt=>?_) (λhlt=>?_))
 ·have oK:=(mQ.aZ i hlt).1;refine ho.ld (x:=((ord.getD i 0:Nat):Int)) (bH (by rw[mQ.len];exact hlt)) (λ_ h=>.tail _ (xac _ (xac _ (xad _ h)))) ?_;refine Ld.n ?_;refine hL.nj (x:=(i:Int)) (.cons .left) (by rw[ak];omega) λCL' hL'=>?_;rw[fj]at hL';refine ae.inc (aC.mk ⟨i+1,L.set (ord.getD i 0) i,CL',rfl,hlt,rfl,hL',by simp[hLl],λj hj=>?_⟩ (by simp only[bL];omega));by_cases e:j=i
  ·subst e;rw[xar,xbI zO];rfl
  have hj':j<i:=by omega
  have hne:ord.getD i 0≠ord.getD j 0:=λh=>by
   have a:=(mQ.aZ i hlt).2;have b:=(mQ.aZ j zO).2;rw[h,b]at a;exact e a
  rw[xar,xbG hne,<-xar,hLo j hj']
 obtain rfl:i=K.n:=by omega
 refine aN.mk (.cons (.cW (.cW .right _) _)) ⟨bw,vl,CL,L,rfl,rfl,hL,hLl,λv hv=>?_⟩;have h1:=hLo (lv ah v) (hK.ok.lv.lt v hv);rwa [mQ.of hK.ok.lv hv]at h1
structure Lz(K K':Kd)(made:zL)(x:Nat)(ok:Bool):Prop where
 n:K'.n=K.n
 cap:K'.cap=K.cap
 N:∀s d,K'.N s=some d->K.N s=some d
 hold:∀s,K'.hold s+made.count s=K.hold s+if ok=true/\s=x/\2<=x then 1 else 0
theorem Wh{X CM:Hp}{made:zL}{x:Nat}{ok fu:Bool}(hK:cc kp K S ord ah tr C)(hM:aQ 110 .u32 vm (iw made) CM)(hc:∀s,made.count s<=K.hold s)(h2:∀s∈made,2<=s)(OZ:∀s∈made,s<4294967296)(hx:ok=true->((x<2\/x∈made)↔fu=false))(cA:made.length<=1099511627776):
  Fc zQ 251 #[ptr bw,u32 x,iv (if ok then 0 else 9)] (gy bw kp vl vm::(X++(CM++C))) (λw H=>∃K' C' de,w=.tuple #[u32 (if ok&& !fu then x else 0),iv (if ok then(if fu then 8 else 0)else 9)]/\H=gy bw kp vl (.slice none 0 0)::(X++(CM++C'))/\cc kp K' S ord ah de C'/\(de=[]\/(de=tr/\((ok&& !fu)=true->made≠[])))/\Lz K K' made x (ok&& !fu)):=by
 refine aF λg=>Ix ?_;refine ae.eO (b:=0) (cf.or (decide (x=1)) (λ_=>ae.eO (b:=1) ⟨rfl,rfl⟩) zI λgs=>?_);rw[<-xa7];refine Ld.n (hM.bP ?_);rw[ak];refine⟨λvs H=>∃(i:Nat) (Ki:Kd) (Ci:Hp) (Wx:zL) (kept:Bool),vs=[.bool kept,iv (i:Int)]/\i<=made.length/\H=gy bw kp vl vm::(X++(CM++Ci))/\cc kp Ki S ord ah Wx Ci/\(Wx=[]\/Wx=tr)/\Ki.n=K.n/\Ki.cap=K.cap/\(∀s d,Ki.N s=some d->K.N s=some d)/\
   (∀s,Ki.hold s+(made.take i).count s=K.hold s+if kept=true/\s=x/\2<=x then 1 else 0)/\(x<2->kept=true)/\(kept=true->x<2\/(ok=true/\x∈made.take i))/\(ok=true->x∈made.take i->kept=true),λvs _=>made.length-bL vs 1,
  JE.mk ⟨0,K,C,tr,_,rfl,xaO _,rfl,hK,.inr rfl,rfl,rfl,λ_ _ h=>h,λs=>?_,λh=>xam zO,λh=>.inl (by have:=xcd h;omega),λ_ h=>by simp at h⟩,?_⟩
 ·rw[xeb,xdK,xab (λh=>by have:=xcd h.1;omega)]
 rintro w13 w14 H ⟨i,Ki,Ci,Wx,kept,⟨⟩,hi,rfl,hKi,U8,hn,hcap,hN,hh,tO,qY,pn⟩ gs;refine ae.fi (Br.dec (λhlt=>?_) (λhlt=>?_))
 ·intro J hJ;have nq:made.take (i+1)=made.take i++[made[i]]:=xa2 hlt;have hfm:made[i]∈made:=xaG hlt;have lY:(made.take i).count made[i]+1<=made.count made[i]:=by
   have h1:=(xdN (i+1) made).count_le made[i];rw[nq,xbf,List.count_singleton_self]at h1;exact h1
  refine hM.ld (x:=((made[i]:Nat):Int)) (dg (xaa hlt)) (λ_ h=>.tail _ (xac _ (xad _ h))) ?_;generalize hf:made[i]=f at*;refine ae.eO (cf.and (!kept) (λ_=>Un.not ⟨rfl,rfl⟩) zI λgs=>?_);refine cf.and ok (λ_=>ae.gU ⟨rfl,by cases ok<;>rfl⟩) zI λgs=>?_;refine Br.mk (λhb=>?_) (λhb=>?_)
  ·simp only[xav,xaA,xbE]at hb;obtain⟨⟨rfl,hkf⟩,hok⟩:=hb;refine JE.mk (hJ _ _ λgs=>?_);refine ae.inc (aC.mk ⟨i+1,Ki,Ci,Wx,true,rfl,hlt,rfl,hKi,U8,hn,hcap,hN,λs=>?_,λ_=>rfl,λ_=>.inr ⟨hok,by rw[nq];simp⟩,λ_ _=>rfl⟩ (by simp only[bL];omega));have h0:=hh s;rw[nq,xbf,xcH];rw[xab (λh=>by rw[hkf]at h;cases h.1)]at h0;by_cases e:s=f
   ·subst e;have:=h2 s hfm;simp[this];omega
   have:(f==s)=false:=by simpa using λe'=>e e'.symm
   simp[e,this];omega
  refine Ld.n ?_;have hhf:Ki.hold f≠0:=by
   have h0:=hh f;have:=hc f;split at h0<;>omega
  refine aa.fq (args:=#[ptr kp,u32 f]) (mU hKi (r:=f) (OZ f hfm) (λ_=>hhf)) ?_;rintro w C2 ⟨rfl,K2,dk,f2⟩;refine JE.mk (hJ _ _ λgs=>?_);refine ae.inc (aC.mk ⟨i+1,K2,C2,[],kept,rfl,hlt,rfl,dk,.inl rfl,f2.n.trans hn,f2.cap.trans hcap,λs d hd=>hN s d (f2.N s d hd),λs=>?_,tO,λh=>(qY h).imp id (λh=>⟨h.1,by rw[nq];exact xad _ h.2⟩),λh1 h3=>?_⟩ (by simp only[bL];omega))
  ·have h0:=hh s;rw[f2.hold,nq,xbf,xcH];by_cases e:s=f
   ·subst e;have:=h2 s hfm;simp[this];omega
   have:(f==s)=false:=by simpa using λe'=>e e'.symm
   simp[e,this];omega
  rw[nq,xan,xaE]at h3;rcases h3 with h3|h3
  ·exact pn h1 h3
  subst h3;cases hkk:kept
  ·rw[hkk,h1]at hb;simp at hb
  rfl
 obtain rfl:i=made.length:=by omega
 rw[xbh]at hh qY pn;refine Nil.ptr (ai.mk (St.one (by exact .head _) rfl zI rfl ?_));intro J hJ;refine ae.cG ?_;cases ok with
 |false=>
  refine Br.T ?_;have hE:Lz K Ki made x false:=⟨hn,hcap,hN,λs=>by
   have h0:=hh s;rw[xab (λh=>by cases h.1)];rw[xab (λh=>by
    rcases qY h.1 with h3|h3
    ·omega
    cases h3.1)]at h0
   exact h0⟩
  refine aN.here ⟨Ki,Ci,Wx,?_,rfl,hKi,U8.imp id λh=>⟨h,λh=>by cases h⟩,hE⟩;rfl
 |true=>
  have hx:=hx rfl;cases fu with
  |true=>
   have hkf:kept=false:=by
    cases hkk:kept
    ·rfl
    have:(true=false):=hx.1 ((qY hkk).imp id λh=>h.2);cases this
   refine Br.F ?_;rw[hkf];refine Un.not (Br.yes (aN.here ⟨Ki,Ci,Wx,rfl,rfl,hKi,U8.imp id λh=>⟨h,λh=>by cases h⟩,⟨hn,hcap,hN,λs=>?_⟩⟩));have h0:=hh s;rw[hkf]at h0;rw[xab (λh=>by cases h.1)]at h0⊢;exact h0
  |false=>
  have hx:=hx.2 rfl;have CW:kept=true:=by
   rcases hx with h|h
   ·exact tO h
   exact pn rfl h
  refine Br.F ?_;rw[CW];refine Un.not (Br.no ?_);have hE:∀K3:Kd,K3.n=Ki.n->K3.cap=Ki.cap->K3.N=Ki.N->(∀s,K3.hold s=Ki.hold s)->Lz K K3 made x true:=λK3 a1 a2 a3 a4=>⟨a1.trans hn,a2.trans hcap,by rw[a3];exact hN,λs=>by rw[a4,hh s,CW]⟩;refine ae.eO (b:=0) (cf.or (decide (x=1)) (λ_=>ae.eO (b:=1) ⟨rfl,rfl⟩) zI λgs=>?_);rw[<-xa7];refine Br.dec (λMZ=>?_) (λMZ=>?_)
  ·refine Ld.n ?_;refine aa.fq (mM hKi (r:=x) (.inl zO) (λh=>by omega)) ?_;rintro w C3 ⟨rfl,K3,j8,mo⟩;refine JE.mk (hJ _ λgs=>aN.here ⟨K3,C3,[],by simp,rfl,j8,.inl rfl,hE K3 mo.n mo.cap mo.N λs=>?_⟩);rw[mo.hold,xab zO]
  refine JE.mk (hJ _ λgs=>aN.here ⟨Ki,Ci,Wx,by simp,rfl,hKi,U8.imp id λh=>⟨h,λ_ hm=>?_⟩,hE Ki rfl rfl rfl λ_=>rfl⟩);rcases hx with h|h
  ·omega
  rw[hm]at h;cases h
end
theorem aaF{α:Type}(a b c d e f g h:α)(L R:List α):(a::b::c::d::e::f::g::h::(L++R)).Perm (g::d::e::b::h::f::a::(L++c::R)):=by
 classical
 rw[xcu];intro x;simp only[xbf,xb3];omega
def ZH(kp:Nat)(K:Kd)(S:Nat->aA.Fn)(ord ah tr:zL)(f:aA.Fn)(w:zV)(H:Hp):Prop:=
 (∃x K' S',w=.tuple #[u32 x,iv 0]/\cc kp K' S' ord ah [] H/\kO K S K' S' f x)\/
 (w=.tuple #[u32 0,iv 9]/\(∃K' S' de,cc kp K' S' ord ah de H/\(de=[]\/de=tr)/\Kept K S K' S')/\¬Fits (aG K.n ord (λg=>K.held S g\/g=f)) K.cap)
def jZ(kp:Nat)(K:Kd)(S:Nat->aA.Fn)(ord ah tr:zL)(f:aA.Fn)(w:zV)(H:Hp):Prop:=
 ZH kp K S ord ah tr f w H\/(w=.tuple #[u32 0,iv 8]/\(∃K' S' de,cc kp K' S' ord ah de H/\(de=[]\/de=tr)/\Kept K S K' S')/\∃r,2<=r/\K.hold r=65535/\S r=f)
section
variable {kp bw:Nat} {vl fv:zV} {K:Kd} {S:Nat->aA.Fn} {ord ah tr lvl:zL} {LB CL C:Hp} {t:Bool->Bool->Bool->Bool}
theorem Lo(hK:cc kp K S ord ah tr C)(Ed:A0 fv LB t)(Xi:aQ 3 .i64 vl (iw lvl) CL)(nw:lvl.length=K.n)(hlv:∀v,v<K.n->lvl.getD v 0=lv ah v)(q:Q3)(hq:∀r∈l3 q,live K.N r){c:Nat}(hT:Tree K.n (lv ah) K.N (l3 q) c):
  Fc zQ 178 #[ptr bw,kq q,fv] (LB++(gy bw kp vl (.slice none 0 0)::(CL++C))) (jZ kp K S ord ah tr (tS t S (l3 q))):=by
 have hrb:aT zQ 252=true:=by kernel_rfl
 obtain⟨fl,agl,ale,Ro,hfr⟩:=Ed.is;refine aF λg=>Je ?_;intro b1 _ b3 _ b5 _ b7 _ b9 _ bm _ jd _;refine St.one (by exact .head _) rfl zI rfl ?_;intro rJ _;refine St.one (by exact .head _) rfl zI rfl ?_;refine Ld.q ?_;refine ay.q ?_;refine aL.of rfl hrb (aa.pre (H':=(b9,.cells #[iv 0] 27 (0,0))::(b7,.cells #[.int .u32 0] 110 (0,0))::Xj jd b1 b5 rJ bm bw kp fv vl (.slice none 0 0) LB CL [] C #[] 0) ?_ ?_)
 ·rw[Ro];exact(aM.perm (aaF _ _ _ _ _ _ _ _ _ _)).trans .tail
 have mQ:=hK.od;have kY:=hK.ok.wf;have jK:=hK.ok.lv;have oY:=hK.ok.mid.int;have hS:Stp kp K S (aG K.n ord (λg=>K.held S g\/g=tS t S (l3 q))) ord ah tr t K S [] #[] 0 (.slice none 0 0) [] C:=
  ⟨⟨tr,hK,.inr ⟨rfl,rfl⟩⟩,.refl λg hg=>cK (λg h=>.inl h) hg,aQ.nil,[],aE.empty,λy hy=>by cases hy⟩
 refine aa.fq (args:=#[kq q,ptr jd,ptr b1,ptr b5,ptr rJ]) (Zf hrb Ed Xi nw hlv hK.aZ.lq kY oY jK (λr hr=>by have:=hK.bK hr;omega) (λs hs=>.inr (hK.ok.mid.held s zO)) (XH:=tr) (l3 q) c hT q rfl K S [] #[] 0 (.slice none 0 0) [] C hS hq (λg hg=>cK (λg h=>.inr h) hg)) ?_;rintro w H ⟨K1,S1,made,es,ck,vm,CM,C1,rfl,Ec,hA,RI⟩;obtain⟨Wy,eV,U9⟩:=Ec.ks;have j4:=Ec.cV;have hmx:=j4.qN eV;have ae4:∀s∈made,s<4294967296:=λs hs=>by have:=eV.bK (j4.iz eV hs);omega
 have hmc:∀s,made.count s<=K1.hold s:=λs=>by rw[j4.hold];omega
 have fin:∀(x:Nat) (ok fu:Bool),w=.tuple #[u32 (if ok then x else 0),iv (if ok then 0 else 9)]->(ok=true->((x<2\/x∈made)↔fu=false))->(∀K2 C2 D7,cc kp K2 S1 ord ah D7 C2->(D7=[]\/(D7=Wy/\((ok&& !fu)=true->made≠[])))->Lz K1 K2 made (if ok then x else 0) (ok&& !fu)->jZ kp K S ord ah tr (tS t S (l3 q)) (.tuple #[u32 (if ok&& !fu then(if ok then x else 0)else 0),iv (if ok then(if fu then 8 else 0)else 9)]) C2)->(ok=false->x=0)->
   Ext 0 w λv23=>Ext 1 w λv24=>St 1 ((b9,.cells #[iv 0] 27 (0,0))::(b7,.cells #[.int .u32 0] 110 (0,0))::Xj jd b1 b5 rJ bm bw kp fv vl vm LB CL CM C1 es ck) (ptr b7) v23 λH25=>St 1 H25 (ptr b9) v24 λH26=>
   j3 zQ g 250 #[ptr b1,ptr b7,ptr b9] H26 λH27=>Ld H27 (ptr b7) λv28=>Ld H27 (ptr b9) λv29=>aN (jZ kp K S ord ah tr (tS t S (l3 q))) (.returned (.tuple #[v28,v29])) H27:=by
  intro x ok fu hw hx hd h0;subst hw;refine Ext.two (St.one (by exact .tail (.head _)) rfl zI rfl ?_);refine St.one (by exact .head _) rfl zI rfl ?_;refine DZ (R:=_) ?_;unfold L250;refine Ld.q ?_;refine Ld.q ?_;refine Ld.q ?_;refine aa.fq (Wh (X:=CL) (x:=if ok then x else 0) (ok:=ok) (fu:=fu) eV Ec.mde hmc j4.two ae4 (λh=>by rw[xae h];exact hx h) zO) ?_;rintro w H ⟨K2,C2,D7,rfl,rfl,dk,tJ,hE⟩;refine Ext.two (St.one (by exact .tail (.head _)) rfl zI rfl ?_);refine St.one (by exact .head _) rfl zI rfl ?_;refine⟨⟨_,rfl⟩,?_⟩;refine Ld.q ?_;refine Ld.q ?_;exact aN.mk (.skip (.skip (.skip (.skip (.skip (.skip (aM.right.trans (.skip (.skip (aM.right.trans .right)))))))))) (hd K2 C2 D7 dk tJ hE)
 have qW:∀s,K.hold s≠0->live K.N s:=λs hs=>.inr (hK.ok.mid.held s hs);rcases RI with⟨x,rfl,hx,hxm⟩|⟨rfl,hno⟩
 ·by_cases hxk:x<2\/x∈made;rotate_left
  ·have Fo:2<=x:=by omega
   have hfull:K.hold x=65535:=by
    rcases hxm with h|h|h
    ·exact absurd (.inl h) hxk
    ·exact absurd (.inr h) hxk
    exact h
   refine fin x true true rfl (λ_=>⟨λh=>absurd h hxk,λh=>by cases h⟩) (λK2 C2 D7 dk tJ hE=>.inr ⟨rfl,⟨K2,S1,D7,dk,?_,?_⟩,x,Fo,hfull,?_⟩) (λh=>by cases h)
   ·rcases tJ with h|⟨h,_⟩
    ·exact .inl h
    rcases U9 with h2|⟨h2,_⟩
    ·exact .inl (h.trans h2)
    exact .inr (h.trans h2)
   ·have fT:∀s,K2.hold s=K.hold s:=λs=>by
     have a:=hE.hold s;have b:=j4.hold s;rw[xab (λh=>by cases h.1)]at a;omega
    refine⟨hE.n.trans j4.n,hE.cap.trans j4.cap,fT,λg=>?_,λr hr=>j4.fn r (qW r hr)⟩;constructor
    ·rintro⟨s,hs,rfl⟩;have hs':K.hold s≠0:=by rw[<-fT];exact hs
     exact⟨s,hs',j4.fn s (qW s hs')⟩
    rintro⟨s,hs,rfl⟩;exact⟨s,by show K2.hold s≠0;rw[fT];exact hs,(j4.fn s (qW s hs)).symm⟩
   rw[<-hx];exact(j4.fn x (qW x zO)).symm
  refine fin x true false rfl (λ_=>⟨λ_=>rfl,λ_=>hxk⟩) (λK2 C2 D7 dk tJ hE=>.inl (.inl ⟨x,K2,S1,rfl,?_,?_⟩)) (λh=>by cases h)
  ·have:D7=[]:=by
    rcases tJ with h|⟨h,h'⟩
    ·exact h
    rcases U9 with h2|⟨_,h2⟩
    ·rw[h,h2]
    exact absurd h2 (h' rfl)
   rw[this]at dk;exact dk
  have fT:∀s,K2.hold s=K.hold s+if s=x/\2<=x then 1 else 0:=λs=>by
   have a:=hE.hold s;have b:=j4.hold s;simp only[xb0,xdQ,xa6,xcs]at a;omega
  have hl:live K2.N x:=by
   by_cases h2:x<2
   ·exact .inl h2
   refine .inr (dk.ok.mid.held x ?_);rw[fT,xae ⟨rfl,by omega⟩];omega
  exact⟨hE.n.trans j4.n,hE.cap.trans j4.cap,λs d hs=>jT hK.ok dk.ok (λs h=>by rw[fT];omega) (λs d d' h h'=>by
   have a:=hE.N s d' h';rw[j4.N s d h]at a;exact(xbm a).symm) _ s d hs (xaj _),λs hs=>j4.fn s hs,hl,hx,fT⟩
 refine fin 0 false false rfl (λh=>by cases h) (λK2 C2 D7 dk tJ hE=>.inl (.inr ⟨rfl,⟨K2,S1,D7,dk,?_,?_⟩,hno⟩)) (λ_=>rfl)
 ·rcases tJ with h|⟨h,_⟩
  ·exact .inl h
  rcases U9 with h2|⟨h2,_⟩
  ·exact .inl (h.trans h2)
  exact .inr (h.trans h2)
 have fT:∀s,K2.hold s=K.hold s:=λs=>by
  have a:=hE.hold s;have b:=j4.hold s;rw[xab (λh=>by cases h.1)]at a;omega
 refine⟨hE.n.trans j4.n,hE.cap.trans j4.cap,fT,λg=>?_,λr hr=>j4.fn r (qW r hr)⟩;constructor
 ·rintro⟨s,hs,rfl⟩;have hs':K.hold s≠0:=by rw[<-fT];exact hs
  exact⟨s,hs',j4.fn s (qW s hs')⟩
 rintro⟨s,hs,rfl⟩;exact⟨s,by show K2.hold s≠0;rw[fT];exact hs,(j4.fn s (qW s hs)).symm⟩
end
end Go.Proofs
namespace Go.Sx
open Go
section
variable {P:Program} {g:Gh}
theorem Build.three{t e:TypeId}{q:IntKind}{x y z:Int}{K:zV->Prop}(ht:P.underlying t=some (.array 3 e))(hz:dI P e=some 1)(h0:fJ P t=some (.agg (ax q [0,0,0])))(h:K (.agg (ax q [x,y,z]))):
  Build P t [(0,.int q x),(1,.int q y),(2,.int q z)] K:=by
 refine⟨_,λw=>?_,h⟩;obtain⟨i,hi,hs⟩:=bE hz;obtain⟨i0,Fx,WT⟩:=cJ h0;simp only[Instr.build,Sem.run_bind,dS Fx WT,Result.andThen_ok,run_underlying ht,run_sizeOf hi,hs];simp[Instr.fill,Value.cells,ax]
theorem Build.aav{t e:TypeId}{q:IntKind}{x y:Int}{K:zV->Prop}(ht:P.underlying t=some (.array 3 e))(hz:dI P e=some 1)(h0:fJ P t=some (.agg (ax q [0,0,0])))(h:K (.agg (ax q [x,y,0]))):
  Build P t [(0,.int q x),(1,.int q y)] K:=by
 refine⟨_,λw=>?_,h⟩;obtain⟨i,hi,hs⟩:=bE hz;obtain⟨i0,Fx,WT⟩:=cJ h0;simp only[Instr.build,Sem.run_bind,dS Fx WT,Result.andThen_ok,run_underlying ht,run_sizeOf hi,hs];simp[Instr.fill,Value.cells,ax]
end
end Go.Sx
set_option maxRecDepth 100000
namespace Go.Proofs
open Go Go.Sx
open aA
theorem Ls(x:Bool)(B:Hp):Rd zQ 248 #[.bool x] B (· =.int .u8 ((x.toNat:Nat):Int)):=by
 refine aF λg=>Iz ?_;cases x
 ·exact Br.no (bc.mk (.refl _) rfl)
 exact Br.yes (bc.mk (.refl _) rfl)
def WG(op:Nat)(a b:Bool):Bool:=op.testBit (2*a.toNat+b.toNat)
abbrev Mx(b op:Nat):Hp:=[(b,.cells #[.int .u8 (op:Int)] 5 (0,0))]
theorem F9{b op:Nat}(hop:op<16):A0 (.func (.func 247) #[] #[ptr b]) (Mx b op) (λx y _=>WG op x y):=by
 refine⟨_,_,_,rfl,by kernel_rfl,λx y z=>?_⟩;refine aF λg=>IA ?_;refine DR.of (R:=Mx b op) (.refl _) (Ld.q ?_);refine aa.eq (Ls x _) (⟨.refl _,?_⟩);have hx:x.toNat<=1:=by cases x<;>decide
 have hy:y.toNat<=1:=by cases y<;>decide
 refine ae.xD (a:=2) (aa.eq (Ls y _) (⟨.refl _,?_⟩));refine ae.fH (ae.iL (by simp[bF];omega) (ae.jD (b:=1) (by simp[bF];exact xaC (xbl _ _) zO) (by simp[bF]) (ae.eO (b:=1) (bc.mk (.refl _) ?_))));congr 1;unfold WG;rw[xbP];rw[xc7,xaZ]
theorem Fi:A0 (.func (.func 179) #[] #[]) [] (λx y z=>if x then y else z):=by
 refine⟨_,_,_,rfl,by kernel_rfl,λx y z=>?_⟩;refine aF λg=>Jd ?_;cases x
 ·refine cf.mk false (λh=>by simp at h) (λ_=>rfl) λgs=>?_;refine cf.mk (by exact z) (λ_=>Un.not (cf.and z (λ_=>⟨rfl,rfl⟩) zI λgs=>⟨rfl,by simp⟩)) (λh=>by simp at h) λgs=>?_;exact bc.mk (.refl _) rfl
 refine cf.and y (λ_=>⟨rfl,rfl⟩) zI λgs=>?_;refine cf.or false (λ_=>Un.not (cf.and z (λ_=>⟨rfl,rfl⟩) zI λgs=>⟨rfl,by simp⟩)) zI λgs=>?_;refine bc.mk (.refl _) ?_;cases y<;>rfl
section
variable {kp:Nat} {K:Kd} {S:Nat->aA.Fn} {ord ah tr:zL} {C:Hp}
theorem aaH{α:Type}(w a b:α)(L R:List α):(w::(L++(a::b::R))).Perm (a::([b]++w::(L++R))):=by
 classical
 rw[xcu];intro x;simp only[xbf,xb3,xdK];omega
theorem DJ(hK:cc kp K S ord ah tr C){q:zL}(hq:∀r∈q,live K.N r):∃c,Tree K.n (lv ah) K.N q c:=by
 obtain⟨c,h1,_⟩:=TS (S:=S) hK.ok.wf hK.ok.lv hK.ok.mid.int K.n 0 q zO zO hq (λr _=>xaO _);exact⟨c,h1⟩
theorem jZ.two{f:aA.Fn}{w:zV}{H:Hp}(h:jZ kp K S ord ah tr f w H):∃x e,w=.tuple #[x,e]:=by
 rcases h with(⟨x,K',S',rfl,_⟩|⟨rfl,_⟩)|⟨rfl,_⟩
 ·exact⟨_,_,rfl⟩
 ·exact⟨_,_,rfl⟩
 exact⟨_,_,rfl⟩
theorem jE(hK:cc kp K S ord ah tr C){op a b:Nat}(hop:op<16)(ha:live K.N a)(hb:live K.N b):
  Fc zQ 176 #[ptr kp,.int .u8 (op:Int),u32 a,u32 b] C (jZ kp K S ord ah tr (λx=>WG op (S a x) (S b x))):=by
 refine aF λg=>Jg ?_;intro b1 _;refine ae.aD (Br.no (Ld.q ?_));refine ae.m9 (b:=15) (Br.F (av.QL (e:=110) (x:=(a:Int)) (y:=(b:Int)) zK zK zK λbs=>?_));have hq:∀r∈l3 (a,b,0),live K.N r:=λr hr=>by
  simp only[l3,xak,xaS,xby]at hr;rcases hr with rfl|rfl|rfl
  ·exact ha
  ·exact hb
  exact .inl zO
 have hI:dA .u32 ((bs,Obj.cells (ax .u32 [(a:Int),(b:Int)]) 110 (0,0))::Mx b1 op) (.slice (some ⟨bs,0,none⟩) 2 2) (iw [a,b]):=(aQ.made (T:=110) (kd:=.u32) (b:=bs) (iw [a,b])).ints.mono λ_ h=>xad (Mx b1 op) h;refine aa.fq (args:=#[ptr kp,.slice (some ⟨bs,0,none⟩) 2 2]) (C:=((bs,Obj.cells (ax .u32 [(a:Int),(b:Int)]) 110 (0,0))::Mx b1 op)++C) (zg hK hI (λr hr=>?_) (by show 2<=1048576;omega)) ?_
 ·simp only[xak,xaS,xby]at hr;rcases hr with rfl|rfl
  ·exact ha
  exact hb
 rintro w H ⟨bw,vl,CL,lvl,rfl,rfl,Xi,nw,hlv⟩;refine Ext.mk rfl (Ext.mk rfl (ae.cG (Br.F (Build.aav (e:=110) (q:=.u32) (x:=(a:Int)) (y:=(b:Int)) zK zK zK ?_))));obtain⟨c,hT⟩:=DJ hK hq;refine aa.pre (H':=(bs,Obj.cells (ax .u32 [(a:Int),(b:Int)]) 110 (0,0))::(Mx b1 op++gy bw kp vl (.slice none 0 0)::(CL++C))) (.perm (aaH _ _ _ _ _)) ?_;refine aa.fq (args:=#[ptr bw,kq (a,b,0),.func (.func 247) #[] #[ptr b1]]) (Lo (t:=λx y _=>WG op x y) hK (F9 hop) Xi nw hlv (a,b,0) hq hT) ?_;intro w H hD;obtain⟨x,e,rfl⟩:=hD.two;exact Ext.mk rfl (Ext.mk rfl (aN.mk .tail hD))
theorem NK(hK:cc kp K S ord ah tr C){a:Nat}(ha:live K.N a):
  Fc zQ 122 #[ptr kp,u32 a] C (jZ kp K S ord ah tr (λx=> !S a x)):=by
 refine aF λg=>JI ?_;refine aa.fq (args:=#[ptr kp,.int .u8 ((3:Nat):Int),u32 a,u32 0]) (jE hK (op:=3) zD ha (.inl zO)) ?_;intro w H hD;have e:(λx=>WG 3 (S a x) (S 0 x))=λx=> !S a x:=by
  funext x
  rw[hK.ok.mid.int.zero];cases S a x<;>rfl
 rw[e]at hD;obtain⟨x,e,rfl⟩:=hD.two;exact Ext.mk rfl (Ext.mk rfl (aN.mk (.refl _) hD))
theorem aaE{α:Type}(w a:α)(L R:List α):(w::(L++(a::R))).Perm (a::([]++w::(L++R))):=by
 classical
 rw[xcu];intro x;simp only[xbf,xb3,xdK];omega
theorem ze(hK:cc kp K S ord ah tr C){a b c:Nat}(ha:live K.N a)(hb:live K.N b)(hc:live K.N c):
  Fc zQ 126 #[ptr kp,u32 a,u32 b,u32 c] C (jZ kp K S ord ah tr (λx=>if S a x then S b x else S c x)):=by
 refine aF λg=>JD ?_;refine av.aaX (e:=110) (x:=(a:Int)) (y:=(b:Int)) (z:=(c:Int)) zK zK zK λbs=>?_;have hq:∀r∈l3 (a,b,c),live K.N r:=λr hr=>by
  simp only[l3,xak,xaS,xby]at hr;rcases hr with rfl|rfl|rfl
  ·exact ha
  ·exact hb
  exact hc
 refine aa.fq (args:=#[ptr kp,.slice (some ⟨bs,0,none⟩) 3 3]) (C:=[(bs,Obj.cells (ax .u32 [(a:Int),(b:Int),(c:Int)]) 110 (0,0))]++C) (zg hK (refs:=l3 (a,b,c)) ((aQ.made (T:=110) (kd:=.u32) (b:=bs) (iw (l3 (a,b,c)))).ints) hq (by show 3<=1048576;omega)) ?_;rintro w H ⟨bw,vl,CL,lvl,rfl,rfl,Xi,nw,hlv⟩;refine Ext.mk rfl (Ext.mk rfl (ae.cG (Br.F (Build.three (e:=110) (q:=.u32) (x:=(a:Int)) (y:=(b:Int)) (z:=(c:Int)) zK zK zK ?_))));obtain⟨k,hT⟩:=DJ hK hq;refine aa.pre (H':=(bs,Obj.cells (ax .u32 [(a:Int),(b:Int),(c:Int)]) 110 (0,0))::([]++gy bw kp vl (.slice none 0 0)::(CL++C))) (.perm (aaE _ _ _ _)) ?_;refine aa.fq (args:=#[ptr bw,kq (a,b,c),.func (.func 179) #[] #[]]) (Lo (t:=λx y z=>if x then y else z) hK Fi Xi nw hlv (a,b,c) hq hT) ?_;intro w H hD;obtain⟨x,e,rfl⟩:=hD.two;exact Ext.mk rfl (Ext.mk rfl (aN.mk .tail hD))
theorem pE.grow(hK:cc kp K S ord ah tr C){K':Kd}{S':Nat->aA.Fn}{f:aA.Fn}{r:Nat}{C':Hp}{de:zL}(h:pE K S K' S' f r)(dh:cc kp K' S' ord ah de C')(hl:r<2\/2<=r):kO K S K' S' f r:=
 ⟨h.n,h.cap,h.N,h.fn,by
  by_cases h2:r<2
  ·exact .inl h2
  refine .inr (dh.ok.mid.held r ?_);rw[h.hold,xae ⟨rfl,by omega⟩];omega,h.is,λs=>by rw[h.hold];split<;>omega⟩
theorem NG(hK:cc kp K S ord ah tr C){v:Nat}(hv:v<K.n):
  Fc zQ 120 #[ptr kp,iv (v:Int)] C (jZ kp K S ord ah tr (λx=>x.testBit v)):=by
 refine aF λg=>JK ?_;refine ae.aD (Br.no ?_);have hint:=hK.ok.mid.int;have hL:=hK.ok.lv;have mQ:=hK.od;have h0:live K.N 0:=.inl zO;have h1:live K.N 1:=.inl zO;have d0:dep K.n (lv ah) K.N 0=K.n:=aU (hK.ok.wf.const zO);have d1:dep K.n (lv ah) K.N 1=K.n:=aU (hK.ok.wf.const zO);have hl:=hL.lt v hv;have eI:ite S ⟨v,0,1⟩=λx=>x.testBit v:=by
  funext x
  unfold aA.ite;simp only[hint.zero,hint.one];cases x.testBit v<;>rfl
 refine aa.fq (args:=#[ptr kp,iv (v:Int),u32 0,u32 1]) (Aj hK hv h0 h1 (.inr ⟨by rw[d0];exact hl,by rw[d1];exact hl⟩)) ?_;rintro w C' (⟨r,K',S',rfl,dh,mk⟩|⟨r,rfl,rfl,_,O1,hfull,FI⟩|⟨rfl,rfl,hcap,hne,hT⟩)
 ·rw[eI]at mk;exact Ext.mk rfl (Ext.mk rfl (aN.mk (.refl _) (.inl (.inl ⟨r,K',S',rfl,dh,mk.grow hK dh zO⟩))))
 ·exact Ext.mk rfl (Ext.mk rfl (aN.mk (.refl _) (.inr ⟨rfl,⟨K,S,tr,hK,.inr rfl,.refl K S⟩,r,O1,hfull,by rw[FI,eI]⟩)))
 refine Ext.mk rfl (Ext.mk rfl (aN.mk (.refl _) (.inl (.inr ⟨rfl,⟨K,S,tr,hK,.inr rfl,.refl K S⟩,?_⟩))));rintro⟨ku,Rg,hfit⟩;have MU:=mQ.of hL hv;have sk:∀j,j<lv ah v->¬cF (λx:Nat=>x.testBit v) (ord.getD j 0):=by
  rintro j hj ⟨x,hx⟩;apply hx;have Tn:j<K.n:=by omega
  obtain⟨o1,o2⟩:=mQ.aZ j Tn;show Nat.testBit _ v=Nat.testBit _ v;rw[an.aj,an.aj,xab (λh=>by rw[h]at hj;omega),xab (λh=>by rw[h]at hj;omega)]
 have hh:cF (λx:Nat=>x.testBit v) (ord.getD (lv ah v) 0):=by
  rw[MU];exact⟨0,by show Nat.testBit _ v≠Nat.testBit _ v;rw[an.aj,an.aj,xae rfl,xae rfl];decide⟩
 have:=hK.ok.roomFor mQ Rg hfit (λg hg=>cK (λg h=>.inl h) hg) (d:=⟨v,0,1⟩) h0 h1 (show(0:Nat)≠1 by omega) hv ⟨by rw[d0];exact hl,by rw[d1];exact hl⟩ (cK (λg h=>.inr h) (by rw[eI];exact oz sk hl hh)) hT;omega
end
end Go.Proofs
namespace Go.Sx
open Go
section
variable {κ β:Type} [DecidableEq κ] {ke:κ->zV} {vr:zV->β->Prop} {es:Array MapEntry} {ck:Nat} {m:List (κ×β)} {H:Hp} {b:Nat}
theorem aE.del{kd:TypeDesc}{k:κ}{K:Hp->Prop}(hk:∀a b,Instr.sameNow kd (ke a) (ke b)=some (decide (a=b)))(h:aE ke vr es ck m)(hm:(b,Obj.map es ck)∈H)
 (h1:∀es',aE ke vr es' ck (ia m k)->∃H',c6 b (.map es ck) (.map es' ck) H H'/\K H'):om kd H (.map (some b)) (ke k) K:=by
 refine .inr ?_;rcases h.findNow hk k with⟨i,y,e,g1,g2,g3,g4⟩|⟨g1,g2⟩
 ·refine⟨b,es,ck,_,rfl,g4,?_⟩;have:=h.less i;rw[<-vp h.nd g2]at this;exact h1 _ this
 refine⟨b,es,ck,_,rfl,g2,hm,?_⟩;have e:ia m k=m:=by
  unfold ia;rw[xcg];intro w hw;simp only[decide_not,xbE,xbq];intro e;exact g1 (xao.2 ⟨w,hw,e⟩)
 obtain⟨H',hu,hK⟩:=h1 es (by rw[e];exact h);have:∀{H H':Hp},c6 b (.map es ck) (.map es ck) H H'->H'=H:=by
  intro H H' hu;generalize ho:Obj.map es ck=o at hu;induction hu with
  |head R=>rfl
  |tail _ ih=>rw[ih]
 rw[this hu]at hK;exact hK
end
def kN(kd:IntKind)(r:Nat):zV:=.int kd (r:Int)
theorem jx{kd:IntKind}(a b:Nat):Instr.sameNow (.int kd) (kN kd a) (kN kd b)=some (decide (a=b)):=by
 simp only[kN,Instr.sameNow,xa6,xaq];by_cases e:a=b
 ·subst e;simp
 have:¬(a:Int)=(b:Int):=by omega
 simp[e,this]
theorem KI{kd:IntKind}(a:Nat):Instr.sameBits 10000 (kN kd a) (kN kd a)=true:=by
 simp[kN,Instr.sameBits]
end Go.Sx
namespace aA
open an
def QF(t:Bool->Bool->Bool)(v:Nat)(f:Fn):Fn:=λx=>t (f (aB x v false)) (f (aB x v true))
section
variable {t:Bool->Bool->Bool} {v u:Nat} {f:Fn}
theorem ow{x v:Nat}{b c:Bool}:aB (aB x v b) v c=aB x v c:=by
 apply xaX;intro k;rw[aj,aj,aj];split<;>rfl
theorem S7(h:u≠v)(b:Bool):QF t v (λx=>f (aB x u b))=λx=>QF t v f (aB x u b):=by
 funext x
 unfold QF;simp only[dj h]
theorem S6(h:¬cF f u):¬cF (QF t v f) u:=by
 rintro⟨x,hx⟩;by_cases e:u=v
 ·subst e;apply hx;unfold QF;simp only[ow]
 apply hx;unfold QF;simp only[dj e];have key:∀y,f (aB y u false)=f (aB y u true):=λy=>xaK λhn=>h ⟨y,hn⟩;rw[key,key]
theorem Wn(ht:∀a,t a a=a)(h:¬cF f v):QF t v f=f:=by
 funext x
 unfold QF;have key:∀b,f (aB x v b)=f x:=λb=>cN h x b;rw[key,key,ht]
end
def jt3(e:Bool):Bool->Bool->Bool->Bool:=λx y _=>if e then x||y else x&&y
def jf(e:Bool)(S:Nat->Fn)(a b:Nat):Fn:=tS (jt3 e) S [a,b,0]
theorem r8(e:Bool)(S:Nat->Fn)(a b x:Nat):jf e S a b x=if e then S a x||S b x else S a x&&S b x:=rfl
theorem Aq(e:Bool)(S:Nat->Fn)(a b:Nat):jf e S a b=jf e S b a:=by
 funext x;rw[r8,r8];cases e<;>cases S a x<;>cases S b x<;>rfl
theorem WQ(e:Bool)(S:Nat->Fn)(a b:Nat):jf e S (min a b) (max a b)=jf e S a b:=by
 by_cases h:a<=b
 ·rw[xcD h,Nat.max_eq_right h]
 rw[xds zO,Nat.max_eq_left zO,Aq]
theorem U0(e:Bool)(S:Nat->Fn)(a:Nat):jf e S a a=S a:=by
 funext x;rw[r8];cases e<;>cases S a x<;>rfl
section
variable {N:eB} {S:Nat->Fn} {n:Nat} {ah:Nat->Nat}
theorem QH(hi:Interp N S)(e:Bool)(a:Nat):jf e S e.toNat a=S e.toNat:=by
 funext x;rw[r8];cases e
 ·show(S 0 x&&S a x)=S 0 x;rw[hi.zero];rfl
 show(S 1 x||S a x)=S 1 x;rw[hi.one];rfl
theorem QG(hi:Interp N S)(e:Bool)(a:Nat):jf e S (!e).toNat a=S a:=by
 funext x;rw[r8];cases e
 ·show(S 1 x&&S a x)=S a x;rw[hi.one];cases S a x<;>rfl
 show(S 0 x||S a x)=S a x;rw[hi.zero];cases S a x<;>rfl
theorem um(h:WF n ah N)(hl:jY n ah){r v:Nat}(hd:ah v<dep n ah N r)(b:Bool):dY N v b r=r:=by
 unfold dY;cases e:N r with
 |none=>rfl
 |some d=>
  rw[aq e]at hd;simp only;rw[xab (λe2=>by rw[e2]at hd;omega)]
theorem kH{r:Nat}{d:Nd}(e:N r=some d):dY N d.v false r=d.lo/\dY N d.v true r=d.hi:=by
 unfold dY;rw[e];simp
theorem v5{N':eB}(hN:∀s d,N s=some d->N' s=some d)(hc:∀r,r<2->N' r=none)(h0:∀r,r<2->N r=none){r:Nat}(hr:live N r):dep n ah N' r=dep n ah N r:=by
 rcases hr with hr|⟨d,hd⟩
 ·rw[aU (hc r hr),aU (h0 r hr)]
 rw[aq hd,aq (hN r d hd)]
theorem Dz(v:Nat)(bb:Bool)(a b:Nat)(h0:N 0=none):iW N v bb [a,b,0]=[dY N v bb a,dY N v bb b,0]:=by
 have:dY N v bb 0=0:=by unfold dY;rw[h0]
 simp[iW,this]
theorem aec(h:WF n ah N)(hl:jY n ah){a b:Nat}(h0:N 0=none)(hlt:min (dep n ah N a) (dep n ah N b)<n):
  ∃v,tU n ah N [a,b,0] v/\ah v=min (dep n ah N a) (dep n ah N b):=by
 have hd0:dep n ah N 0=n:=aU h0;have node:∀r,dep n ah N r<n->∃d,N r=some d:=λr hr=>by
  cases e:N r with
  |none=>rw[aU e]at hr;omega
  |some d=>exact⟨d,rfl⟩
 by_cases hab:dep n ah N b<dep n ah N a
 ·obtain⟨d,hd⟩:=node b zO;have e:=aq (n:=n) (ah:=ah) hd;refine⟨d.v,⟨h.var hd,⟨b,by simp,d,hd,rfl⟩,λr hr=>?_⟩,by omega⟩;simp only[xak,xaS,xby]at hr;rcases hr with rfl|rfl|rfl<;>omega
 obtain⟨d,hd⟩:=node a zO;have e:=aq (n:=n) (ah:=ah) hd;refine⟨d.v,⟨h.var hd,⟨a,by simp,d,hd,rfl⟩,λr hr=>?_⟩,by omega⟩;simp only[xak,xaS,xby]at hr;rcases hr with rfl|rfl|rfl<;>omega
end
end aA
set_option maxRecDepth 100000
namespace Go.Proofs
open Go Go.Sx
section
open aA
section
variable {kp:Nat} {K:Kd} {ord ah tr:zL} {C:Hp} {S:Nat->aA.Fn}
theorem lK(h:cT kp K ord ah tr C)(v:Int):Rd zQ 150 #[ptr kp,iv v] C (· =if 0<=v/\v<K.n then .tuple #[iv ((ah.getD v.toNat 0:Nat):Int),iv 0]else .tuple #[iv 0,iv 2]):=by
 have h0:=h;obtain⟨b,rfl,hO⟩:=h;refine aF λg=>qh ?_;refine ae.aD (Br.no (aa.eq (qQ h0 v) (Un.not ?_)));by_cases MR:0<=v/\v<K.n
 ·rw[xam MR,xae MR];refine Br.no (Nil.ptr (Ld.f ?_));have hlen:=hO.ol.2;obtain⟨n,rfl⟩:∃n:Nat,v=n:=⟨v.toNat,by omega⟩;refine hO.lv.ld (x:=((ah.getD n 0:Nat):Int)) (bH zO) (bG.sub (.cons (.app (.app (.app (.app (.app .left))))))) ?_;exact bc.mk (.refl _) rfl
 rw[xal MR,xab MR];exact Br.yes (bc.mk (.refl _) rfl)
end
end
section
open aA
def Kr(bq kp bm:Nat)(ok:Bool):Nat×Obj:=(bq,.cells #[ptr kp,.map (some bm),iv (if ok then 0 else 9)] 387 (0,0))
abbrev tY(bq kp bm:Nat)(ok:Bool)(es:Array MapEntry)(ck:Nat)(C:Hp):Hp:=Kr bq kp bm ok::(bm,.map es ck)::C
abbrev vr1(v:zV)(_:Unit):Prop:=v=iv 1
abbrev A7(made:zL):List (Nat×Unit):=made.map λr=>(r,())
theorem qI(made:zL):(A7 made).map Prod.fst=made:=by
 induction made with
 |nil=>rfl
 |cons a l ih=>simp only[A7,xaB,xau,xcs]at ih⊢;exact ih
structure xU(kp:Nat)(K0:Kd)(S0:Nat->aA.Fn)(U:aA.Fn->Prop)(ord ah:zL)(K:Kd)(S:Nat->aA.Fn)(made:zL)(es:Array MapEntry)(ck:Nat)(C:Hp)(ok:Bool):Prop where
 ks:cc kp K S ord ah [] C
 cV:kU K0 S0 U ord K S made
 dG:aE (kN .u32) vr1 es ck (A7 made)
 bad:ok=false->¬Fits U K0.cap
theorem xU.nd{kp:Nat}{K0:Kd}{S0:Nat->aA.Fn}{U:aA.Fn->Prop}{ord ah:zL}{K:Kd}{S:Nat->aA.Fn}{made:zL}{es:Array MapEntry}{ck:Nat}{C:Hp}{ok:Bool}(h:xU kp K0 S0 U ord ah K S made es ck C ok):made.Nodup:=by
 have:=h.dG.nd;rwa [qI]at this
structure Ek(K:Kd)(S:Nat->aA.Fn)(made:zL)(K':Kd)(S':Nat->aA.Fn)(made':zL):Prop where
 N:∀s d,K.N s=some d->K'.N s=some d
 fn:∀s,live K.N s->S' s=S s
 mem:∀s∈made,s∈made'
theorem Ek.refl{K:Kd}{S:Nat->aA.Fn}{made:zL}:Ek K S made K S made:=⟨λ_ _ h=>h,λ_ _=>rfl,λ_ h=>h⟩
theorem Ek.trans{K K' K2:Kd}{S S' S2:Nat->aA.Fn}{made made' fS:zL}(h:Ek K S made K' S' made')(h':Ek K' S' made' K2 S2 fS):Ek K S made K2 S2 fS:=
 ⟨λs d hd=>h'.N s d (h.N s d hd),λs hs=>(h'.fn s (cu h.N hs)).trans (h.fn s hs),λs hs=>h'.mem s (h.mem s hs)⟩
section
variable {kp bq bm:Nat} {K K0:Kd} {S S0:Nat->aA.Fn} {U:aA.Fn->Prop} {ord ah made:zL} {es:Array MapEntry} {ck:Nat} {C:Hp} {ok:Bool}
theorem Mq{tr:zL}{r:Nat}(h:cc kp K S ord ah tr C)(hr:live K.N r):Rd zQ 379 #[ptr bq,.agg (got K.N r).toArray] (tY bq kp bm ok es ck C) (· =iv ((dep K.n (lv ah) K.N r:Nat):Int)):=by
 have hlen:=(aR K.N r).1;refine aF λg=>GJ ?_;intro b1 _;cases hN:K.N r with
 |none=>
  have h2:r<2:=by rcases hr with h|⟨d,hd⟩;exact h;rw[hN]at hd;cases hd
  have eg:got K.N r=[iv (-1),u32 r,u32 r]:=fG h2;rw[eg];refine Ld.f ?_;refine ae.lss (Br.T (Ld.n ?_));refine aa.eq (gM h.rep) ?_;rw[aU hN];exact bc.mk .tail rfl
 |some d=>
  have h2:=h.ok.wf.two hN;have hv:=h.ok.wf.var hN;rw[dX hN h2];refine Ld.f ?_;refine ae.lss (Br.F (DR.of (R:=(b1,Obj.cells (bu d).toArray 226 (0,0))::tY bq kp bm ok es ck C) (.refl _) (Ld.n ?_)));refine Ld.f ?_;refine aa.rq (lK h.rep (d.v:Int)) ?_;rw[xae zO];rintro w rfl;refine⟨.refl _,?_⟩;apply Ext.two;rw[aq hN];exact bc.mk .tail rfl
theorem EO{tr:zL}{r:Nat}(h:cc kp K S ord ah tr C)(hr:live K.N r):Rd zQ 326 #[ptr bq,u32 r] (tY bq kp bm ok es ck C) (· =.tuple #[.agg (got K.N r).toArray,iv ((dep K.n (lv ah) K.N r:Nat):Int)]):=by
 refine aF λg=>Ht ?_;intro b1 _;refine Ld.n ?_;refine aa.rq (iS h.rep (by have:=h.bK hr;omega)) ?_;rw[bX.2 hr];rintro w rfl;apply Ext.two;intro AT _;refine St.whole (r:=got K.N r) (by exact .head _) rfl (aR _ _).1 (aR _ _).2 ?_;refine DR.of (R:=[(AT,Obj.cells (got K.N r).toArray 226 (0,0))]) (aM.left (A:=[_])) (ay.whole (r:=got K.N r) (by exact .head _) (aR _ _).1 ?_);refine ay.whole (r:=got K.N r) (by exact .head _) (aR _ _).1 ?_;refine aa.eq (Mq h hr) (⟨aM.left (A:=[_]),?_⟩);refine St.whole (r:=got K.N r) (by exact .tail (.head _)) rfl (aR _ _).1 (aR _ _).2 ?_;refine⟨aM.left (A:=[_]),?_⟩;refine ay.whole (r:=got K.N r) (by exact .tail _ (.head _)) (aR _ _).1 ?_;exact bc.mk (.skip .tail) rfl
theorem yf(v:zV)(a b:zV)(B:Hp):Rd zQ 327 #[ptr bq,v,a,b] (Kr bq kp bm false::B) (· =u32 0):=by
 refine aF λg=>wS ?_;refine Ld.n ?_;exact ae.cG (Br.T (bc.mk (.refl _) rfl))
theorem kU.aay(h:kU K0 S0 U ord K S made)(hK:cc kp K S ord ah [] C){K':Kd}{S':Nat->aA.Fn}{f:aA.Fn}{r:Nat}(m:pE K S K' S' f r)(h2:2<=r)(hU:∀g,aG K0.n ord (λg=>g=f) g->U g):kU K0 S0 U ord K' S' (made++[r]):=h.step hK m h2 hU
theorem kU.again(h:kU K0 S0 U ord K S made)(hK:cc kp K S ord ah [] C){K' K2:Kd}{S':Nat->aA.Fn}{f:aA.Fn}{r:Nat}{C2:Hp}(m:pE K S K' S' f r)(hf:zw K' K2 r)(dk:cc kp K2 S' ord ah [] C2):kU K0 S0 U ord K2 S' made/\(∀s d,K.N s=some d->K2.N s=some d):=by
 have hold:∀s,K2.hold s=K.hold s:=λs=>by
  rw[hf.hold,m.hold];by_cases e:s=r/\2<=r
  ·rw[xae e,xae e];omega
  rw[xab e,xab e]
 have hN:∀s d,K.N s=some d->K2.N s=some d:=λs d hs=>jT hK.ok dk.ok (λs h=>by rw[hold];exact h) (λs d d' h1 h2=>by
  have a:=hf.N s d' h2;rw[m.N s d h1]at a;exact(xbm a).symm) _ s d hs (xaj _)
 refine⟨⟨hf.n.trans (m.n.trans h.n),hf.cap.trans (m.cap.trans h.cap),λs d hd=>hN s d (h.N s d hd),λs hs=>(m.fn s (h.live hs)).trans (h.fn s hs),λs=>by rw[hold,h.hold],h.two,λg hg=>h.U g (cK (λg=>?_) hg)⟩,hN⟩;rintro⟨s,hs,rfl⟩;have hs':K.hold s≠0:=by rw[<-hold];exact hs
 exact⟨s,hs',m.fn s (.inr (hK.ok.mid.held s hs'))⟩
theorem Qp{made:zL}{r:Nat}(h:r∉made):dZ (A7 made) r ()=A7 (made++[r]):=by
 unfold dZ;rw[xab (by rw[qI];exact h)];simp[A7]
theorem oI{made:zL}{r:Nat}:(r∈made->aK (A7 made) r=some ())/\(r∉made->aK (A7 made) r=none):=by
 refine⟨λh=>?_,λh=>iu.2 (by rw[qI];exact h)⟩;cases e:aK (A7 made) r with
 |none=>have:=iu.1 e;rw[qI]at this;exact absurd h this
 |some u=>rfl
theorem BT(hq:xU kp K0 S0 U ord ah K S made es ck C true){v lo hi:Nat}(hv:v<K.n)(hlo:live K.N lo)(hhi:live K.N hi)(hlt:lv ah v<dep K.n (lv ah) K.N lo/\lv ah v<dep K.n (lv ah) K.N hi)
 (hU:∀g,aG K0.n ord (λg=>g=ite S ⟨v,lo,hi⟩) g->U g)(iU:lo≠hi->U (ite S ⟨v,lo,hi⟩))(hf:∀s,K0.hold s=65535->live K0.N s):
  Fc zQ 327 #[ptr bq,iv (v:Int),u32 lo,u32 hi] (tY bq kp bm true es ck C) (λw H=>∃r K' S' made' es' bB C' nk,w=u32 r/\H=tY bq kp bm nk es' bB C'/\xU kp K0 S0 U ord ah K' S' made' es' bB C' nk/\Ek K S made K' S' made'/\
   (nk=true->S' r=ite S ⟨v,lo,hi⟩/\(live K0.N r\/r∈made'))):=by
 have hK:=hq.ks;have eY:=hq.nd;refine aF λg=>wS ?_;refine Ld.n ?_;refine ae.cG (Br.F (Ld.n ?_));refine aa.fq (Aj hK hv hlo hhi (.inr hlt)) ?_;rintro w C' (⟨r,K',S',rfl,dh,mk⟩|⟨r,rfl,rfl,hlr,O1,hfull,FI⟩|⟨rfl,rfl,hcap,hne,hT⟩)
 ·apply Ext.two;intro J hJ;refine ae.gU (Br.F (ae.cG (Br.F (ae.xE (b:=1) ?_))));have Yq:r<4294967296:=by have:=dh.bK mk.live;omega
  have hA:Ek K S made K' S' made:=⟨mk.N,mk.fn,λ_ h=>h⟩;have drop:(r<2\/r∈made)->Nil (ptr bq) λv36=>ai 0 v36 λv37=>Ld (Kr bq kp bm true::(bm,Obj.map es ck)::C') v37 λv38=>aa zQ g 142 #[v38,u32 r] (Kr bq kp bm true::(bm,Obj.map es ck)::C') (λv39 H40=>JE J [u32 r] H40) (dz (aN λw H=>∃r K' S' made' es' bB C' nk,w=u32 r/\H=tY bq kp bm nk es' bB C'/\xU kp K0 S0 U ord ah K' S' made' es' bB C' nk/\Ek K S made K' S' made'/\
   (nk=true->S' r=ite S ⟨v,lo,hi⟩/\(live K0.N r\/r∈made')))):=λhr=>by
   refine Ld.n ?_;refine aa.fq (mU dh (r:=r) Yq (λh2=>by rw[mk.hold,xae ⟨rfl,h2⟩];omega)) ?_;rintro w C2 ⟨rfl,K2,dk,f2⟩;obtain⟨pg,Y8⟩:=hq.cV.again hK mk f2 dk;refine JE.mk (hJ _ _ λgs=>?_);exact aN.here ⟨r,K2,S',made,es,ck,C2,true,rfl,rfl,⟨dk,pg,hq.dG,λh=>by cases h⟩,⟨Y8,mk.fn,λ_ h=>h⟩,λ_=>⟨mk.is,hr.imp (λh=>.inl h) id⟩⟩
  by_cases h2:r<2
  ·rw[xam zO];refine cf.or (a:=true) true (λh=>by cases h) zI λgs=>Br.yes ?_;exact drop (.inl h2)
  rw[xal zO];refine cf.or (a:=false) (decide (r∈made)) (λ_=>?_) zI λgs=>?_
  ·refine Ld.n ?_;by_cases hm:r∈made
   ·refine aE.hit (k:=r) (x:=()) jx hq.dG (.tail _ (.head _)) (oI.1 hm) ?_;rintro v rfl;exact ae.gtr ⟨rfl,by rw[xam hm];rfl⟩
   refine aE.bM (k:=r) jx hq.dG (.tail _ (.head _)) (oI.2 hm) ?_;exact ae.gtr ⟨rfl,by rw[xal hm];rfl⟩
  rw[xdw];refine Br.dec (λhm=>drop (.inr hm)) (λhm=>?_);refine Ld.n ?_;refine aE.bg (k:=r) (x:=()) jx KI hq.dG rfl λes' bB he=>⟨_,.tail (.head _),?_⟩;rw[Qp hm]at he;refine JE.mk (hJ _ _ λgs=>?_);exact aN.here ⟨r,K',S',made++[r],es',bB,C',true,rfl,rfl,⟨dh,hq.cV.aay hK mk zO hU,he,λh=>by cases h⟩,⟨mk.N,mk.fn,λ_ h=>xad _ h⟩,λ_=>⟨mk.is,.inr zI⟩⟩
 ·apply Ext.two;intro J hJ;refine ae.gU (Br.T (Ld.n ?_));refine aa.eq (vB hK hv hlo hhi hlt hlr O1 FI) (Ext.two (JE.mk (hJ _ _ λgs=>?_)));exact aN.here ⟨r,K,S,made,es,ck,_,true,rfl,rfl,hq,.refl,λ_=>⟨FI,(hq.cV.full hfull).elim .inr λh=>.inl (hf r h)⟩⟩
 apply Ext.two;intro J hJ;refine ae.gU (Br.F (ae.cG (Br.T (Nil.ptr (ai.mk (St.one (by exact .head _) rfl zI rfl ?_))))));refine JE.mk (hJ _ _ λgs=>?_);refine aN.here ⟨0,K,S,made,es,ck,C',false,rfl,rfl,⟨hK,hq.cV,hq.dG,λ_=>?_⟩,.refl,λh=>by cases h⟩;rintro⟨ku,Rg,hfit⟩;have:=hK.ok.roomFor hK.od Rg (by rw[hq.cV.cap];exact hfit) (by rw[hq.cV.n];exact hq.cV.U) (d:=⟨v,lo,hi⟩) hlo hhi hne hv hlt (iU hne) hT;omega
end
def pk(p:Nat×Nat):zV:=.agg #[u32 p.1,u32 p.2]
theorem Qd(a b:Nat×Nat):A1 zQ 447 (pk a) (pk b) (decide (a=b)):=by
 refine A1.flat (fs:=#[⟨"f",110,0,false, "", "thicket/quant",0⟩,⟨"g",110,1,false, "", "thicket/quant",4⟩]) zK zK ?_ ?_
 ·intro f hf;simp only[xak,xaS,xby]at hf;rcases hf with rfl|rfl
  ·exact⟨by decide,_,_,rfl,rfl,.inl ⟨.u32,_,_,by kernel_rfl,rfl,rfl⟩⟩
  exact⟨by decide,_,_,rfl,rfl,.inl ⟨.u32,_,_,by kernel_rfl,rfl,rfl⟩⟩
 obtain⟨a1,a2⟩:=a;obtain⟨b1,b2⟩:=b;simp[u32];omega
theorem EP(a:Nat×Nat):mi zQ 447 (pk a):=by
 refine mi.flat (fs:=#[⟨"f",110,0,false, "", "thicket/quant",0⟩,⟨"g",110,1,false, "", "thicket/quant",4⟩]) zK ?_;intro f hf;simp only[xak,xaS,xby]at hf;rcases hf with rfl|rfl
 ·exact⟨by decide,_,rfl,.inl ⟨.u32,_,_,by kernel_rfl,rfl,rfl⟩⟩
 exact⟨by decide,_,rfl,.inl ⟨.u32,_,_,by kernel_rfl,rfl,rfl⟩⟩
theorem Uq(a:Nat×Nat):Instr.sameBits 10000 (pk a) (pk a)=true:=kP 9998 (by intro x hx;simp[u32]at hx;rcases hx with rfl|rfl<;>exact .inl ⟨_,_,rfl⟩)
def FX(b3 b5 b1 sH kZ:Nat):zV:=.func (.func 380) #[] #[ptr b3,ptr b5,ptr b1,ptr sH,ptr kZ]
def JKn(K0:Kd)(F:Nat×Nat->aA.Fn)(S:Nat->aA.Fn)(made:zL)(ok:Bool)(es:Array MapEntry)(ck:Nat):Prop:=
 ∃m:List ((Nat×Nat)×Nat),aE pk OJ es ck m/\(ok=true->∀y∈m,S y.2=F y.1/\(live K0.N y.2\/y.2∈made))
abbrev WR(e:Bool)(b3 b5 b1 sH kZ bj bq kp bm:Nat)(ok:Bool)(xm:Array MapEntry)(xp:Nat)(es:Array MapEntry)(ck:Nat)(C:Hp):Hp:=
 (kZ,.cells #[FX b3 b5 b1 sH kZ] 445 (0,0))::(sH,.cells #[.map (some bj)] 444 (0,0))::(bj,.map xm xp)::(b5,.cells #[u32 (!e).toNat] 110 (0,0))::(b3,.cells #[u32 e.toNat] 110 (0,0))::(b1,.cells #[ptr bq] 313 (0,0))::tY bq kp bm ok es ck C
section
variable {kp bq bm b3 b5 b1 sH kZ bj:Nat} {K0:Kd} {S0:Nat->aA.Fn} {U:aA.Fn->Prop} {ord ah:zL} {e:Bool}
theorem xU.vx{K:Kd}{S:Nat->aA.Fn}{made:zL}{es:Array MapEntry}{ck:Nat}{C:Hp}{ok:Bool}(h:xU kp K0 S0 U ord ah K S made es ck C ok){r:Nat}(hr:live K0.N r\/r∈made):live K.N r:=by
 rcases hr with hr|hr
 ·exact h.cV.live hr
 exact h.cV.iz h.ks hr
theorem JKn.more{F:Nat×Nat->aA.Fn}{K K':Kd}{S S':Nat->aA.Fn}{made made':zL}{es xm:Array MapEntry}{ck xp:Nat}{C:Hp}{ok nk:Bool}(hq:xU kp K0 S0 U ord ah K S made es ck C ok)(h:JKn K0 F S made ok xm xp)(ha:Ek K S made K' S' made')(hok:nk=true->ok=true):JKn K0 F S' made' nk xm xp:=by
 obtain⟨m,h1,h2⟩:=h;refine⟨m,h1,λh y hy=>?_⟩;obtain⟨a,b⟩:=h2 (hok h) y hy;exact⟨by rw[ha.fn _ (hq.vx b),a],b.imp id (ha.mem _)⟩
def ZD(kp:Nat)(K0:Kd)(S0:Nat->aA.Fn)(U:aA.Fn->Prop)(ord ah:zL)(e:Bool)(b3 b5 b1 sH kZ bj bq bm:Nat)(K:Kd)(S:Nat->aA.Fn)(made:zL)(ok:Bool)(f:aA.Fn)(w:zV)(H:Hp):Prop:=
 ∃x K' S' made' es' bB C' nk Ye Yf,w=u32 x/\H=WR e b3 b5 b1 sH kZ bj bq kp bm nk Ye Yf es' bB C'/\xU kp K0 S0 U ord ah K' S' made' es' bB C' nk/\JKn K0 (λp=>jf e S0 p.1 p.2) S' made' nk Ye Yf/\Ek K S made K' S' made'/\
  (nk=true->ok=true/\S' x=f/\(live K0.N x\/x∈made'))
theorem Dc{N:eB}{n:Nat}{bW:Nat->Nat}(h:WF n bW N)(hl:jY n bW){r v:Nat}(hr:live N r)(hv:v<n)(hle:bW v<=dep n bW N r):
  ∃z p q,got N r=[iv z,u32 p,u32 q]/\(bW v=dep n bW N r->z=(v:Int)/\p=dY N v false r/\q=dY N v true r)/\(bW v<dep n bW N r->dY N v false r=r/\dY N v true r=r):=by
 have hlv:=hl.lt v hv;cases e:N r with
 |none=>
  have h2:r<2:=by rcases hr with h|⟨d,hd⟩;exact h;rw[e]at hd;cases hd
  refine⟨_,_,_,fG h2,λh3=>?_,λh3=>⟨um h hl h3 _,um h hl h3 _⟩⟩;rw[aU e]at h3;omega
 |some d=>
  refine⟨_,_,_,dX e (h.two e),λh3=>?_,λh3=>⟨um h hl h3 _,um h hl h3 _⟩⟩;rw[aq e]at h3;have:v=d.v:=hl.inj _ _ hv (h.var e) h3;subst this;obtain⟨c1,c2⟩:=kH (N:=N) e;exact⟨rfl,c1.symm,c2.symm⟩
set_option maxHeartbeats 2000000 in
theorem QE(fN:aT zQ 380=true)(kY:WF K0.n (lv ah) K0.N)(oY:Interp K0.N S0)(jK:jY K0.n (lv ah))(mQ:aA.Ord K0.n (lv ah) ord)(hf:∀s,K0.hold s=65535->live K0.N s):
  ∀(k a b:Nat),K0.n-min (dep K0.n (lv ah) K0.N a) (dep K0.n (lv ah) K0.N b)=k->∀(K:Kd) (S:Nat->aA.Fn) (made:zL) (es:Array MapEntry) (ck:Nat) (C:Hp) (ok:Bool) (xm:Array MapEntry) (xp:Nat),
  live K0.N a->live K0.N b->xU kp K0 S0 U ord ah K S made es ck C ok->JKn K0 (λp=>jf e S0 p.1 p.2) S made ok xm xp->(∀g,aG K0.n ord (λg=>g=jf e S0 a b) g->U g)->
  Fc zQ 380 #[u32 a,u32 b,ptr b3,ptr b5,ptr b1,ptr sH,ptr kZ] (WR e b3 b5 b1 sH kZ bj bq kp bm ok xm xp es ck C) (ZD kp K0 S0 U ord ah e b3 b5 b1 sH kZ bj bq bm K S made ok (jf e S0 a b)):=by
 have hc0:∀r,r<2->K0.N r=none:=λr hr=>kY.const hr;intro k;induction k using Nat.strongRecOn with
 |ind k ih=>
 intro a b hk K S made es ck C ok xm xp ha hb hS hJ hU g;have hK:=hS.ks;have KR:∀r,r<2->K.N r=none:=λr hr=>hK.ok.wf.const hr;have eN:=hS.cV.n;have la:=hS.cV.live ha;have lb:=hS.cV.live hb;have now:∀x,live K0.N x->(S0 x=jf e S0 a b)->∀Z:Hp,aN (ZD kp K0 S0 U ord ah e b3 b5 b1 sH kZ bj bq bm K S made ok (jf e S0 a b)) (.returned (u32 x)) (Z++WR e b3 b5 b1 sH kZ bj bq kp bm ok xm xp es ck C):=λx hx hf Z=>
  aN.mk .right ⟨x,K,S,made,es,ck,C,ok,xm,xp,rfl,rfl,hS,hJ,.refl,λh=>⟨h,by rw[hS.cV.fn x hx];exact hf,.inl hx⟩⟩
 have FA:e.toNat<2:=by cases e<;>decide
 have Tk:(!e).toNat<2:=by cases e<;>decide
 refine GI (R:=aN _) ?_;unfold L380;refine Ld.q ?_;refine ae.eO (cf.or (decide (b=e.toNat)) (λ_=>?_) zI λgs=>?_)
 ·refine Ld.q ?_;exact ae.eO ⟨rfl,rfl⟩
 rw[<-xa7];refine Br.dec (λh1=>?_) (λh1=>?_)
 ·refine Ld.q ?_;refine now _ (.inl FA) ?_ [];rcases h1 with rfl|rfl
  ·exact(QH oY e b).symm
  rw[Aq];exact(QH oY e a).symm
 refine Ld.q ?_;refine ae.eO (cf.or (decide (a=b)) (λ_=>ae.eO ⟨rfl,rfl⟩) zI λgs=>?_);rw[<-xa7];refine Br.dec (λh2=>?_) (λh2=>?_)
 ·refine now b hb ?_ [];rcases h2 with rfl|rfl
  ·exact(QG oY e b).symm
  exact(U0 e S0 a).symm
 refine Ld.q ?_;refine ae.eO (Br.dec (λh3=>?_) (λh3=>?_))
 ·refine now a ha ?_ [];rw[h3,Aq];exact(QG oY e a).symm
 refine Ld.q ?_;refine Ld.n ?_;cases ok with
 |false=>
  exact ae.cG (Br.T (aN.here ⟨0,K,S,made,es,ck,C,false,xm,xp,rfl,rfl,hS,hJ,.refl,λh=>by cases h⟩))
 |true=>
 refine ae.cG (Br.F (⟨.u32,(a:Int),(b:Int),rfl,rfl,⟨.u32,(a:Int),(b:Int),rfl,rfl,?_⟩⟩));have agq:(if(b:Int)<(a:Int)then(b:Int)else(a:Int))=((min a b:Nat):Int):=by split<;>omega
 have agr:(if(b:Int)>(a:Int)then(b:Int)else(a:Int))=((max a b:Nat):Int):=by split<;>omega
 rw[agq,agr];refine Build.mk (cs:=[u32 (min a b),u32 (max a b)]) zK ?_;intro tT _;refine St.p (by intro x hx;simp[u32]at hx;rcases hx with rfl|rfl<;>rfl) ?_;refine Ld.q ?_;refine ay.q ?_;obtain⟨m,hE,hkn⟩:=hJ;have xI:(bj,Obj.map xm xp)∈(tT,Obj.cells #[u32 (min a b),u32 (max a b)] 447 (0,0))::WR e b3 b5 b1 sH kZ bj bq kp bm true xm xp es ck C:=.tail _ (.tail _ (.tail _ (.head _)));cases hg:aK m (min a b,max a b)with
 |some x=>
  refine aE.Fv (ke:=pk) (k:=(min a b,max a b)) Qd EP hE xI hg ?_;rintro v rfl;obtain⟨g1,g2⟩:=hkn rfl _ ((dV hE.nd).1 hg);refine Ext.mk rfl (Ext.mk rfl (Br.yes (aN.mk .tail ⟨x,K,S,made,es,ck,C,true,xm,xp,rfl,rfl,hS,⟨m,hE,hkn⟩,.refl,λh=>⟨h,?_,g2⟩⟩)));rw[g1];exact WQ e S0 a b
 |none=>
 refine aE.vi (ke:=pk) (k:=(min a b,max a b)) Qd EP hE xI hg ?_;refine Ext.mk rfl (Ext.mk rfl (Br.no (Ld.q ?_)));refine aa.eq (EO (bm:=bm) (ok:=true) (es:=es) (ck:=ck) hK la) (Ext.two ?_);intro b36 _;refine St.whole (r:=got K.N a) (by exact .head _) rfl (aR _ _).1 (aR _ _).2 ?_;refine Ld.q ?_;refine aa.eq (EO (bm:=bm) (ok:=true) (es:=es) (ck:=ck) hK lb) (Ext.two ?_);intro Zs _;refine St.whole (r:=got K.N b) (by exact .head _) rfl (aR _ _).1 (aR _ _).2 ?_;rw[nV hS.cV.N hc0 KR ha,nV hS.cV.N hc0 KR hb,eN,v5 hS.cV.N KR hc0 ha,v5 hS.cV.N KR hc0 hb];have hmin:min (dep K0.n (lv ah) K0.N a) (dep K0.n (lv ah) K0.N b)<K0.n:=by
  refine xaK λhn=>h2 (.inr ?_);have Eg:∀r,live K0.N r->K0.n<=dep K0.n (lv ah) K0.N r->r<2:=λr hr hd=>by
   rcases hr with h|⟨d,dP⟩
   ·exact h
   rw[aq dP]at hd;have:=jK.lt _ (kY.var dP);omega
  have a2:=Eg a ha zO;have b2:=Eg b hb zO;cases e<;>simp only[Bool.toNat_true,Bool.toNat_false,xb8,xb0]at h1 h2<;>omega
 obtain⟨v,hv,hvl⟩:=aec kY jK (hc0 0 zO) hmin;have hva:=hv.le a zI;have hvb:=hv.le b zI;obtain⟨za,pa,qa,ega,ga1,ga2⟩:=Dc kY jK ha hv.lt hva;obtain⟨zb,pb,qb,egb,gb1,gb2⟩:=Dc kY jK hb hv.lt hvb;rw[ega,egb];have fK:∀r∈[a,b,0],live K0.N r:=λr hr=>by
  simp only[xak,xaS,xby]at hr;rcases hr with rfl|rfl|rfl
  ·exact ha
  ·exact hb
  exact .inl zO
 obtain⟨f1,f2⟩:=oR (S:=S0) kY jK oY fK hv false;obtain⟨t1,t2⟩:=oR (S:=S0) kY jK oY fK hv true;rw[Dz v _ a b (hc0 0 zO)]at f1 f2 t1 t2;have ec:∀bb,jf e S0 (dY K0.N v bb a) (dY K0.N v bb b)=λx=>jf e S0 a b (an.aB x v bb):=λbb=>by
  have:=K9 (S:=S0) kY jK oY rfl fK hv (jt3 e) bb;rw[Dz v _ a b (hc0 0 zO)]at this;exact this
 generalize ea1:dY K0.N v false a=a1 at*;generalize ea2:dY K0.N v true a=a2 at*;generalize ec1:dY K0.N v false b=c1 at*;generalize ec2:dY K0.N v true b=c2 at*;have iB:=jK.lt v hv.lt;have MU:=mQ.of jK hv.lt;have sk:∀j,j<lv ah v->¬cF (jf e S0 a b) (ord.getD j 0):=yV kY jK oY mQ (q:=[a,b,0]) rfl fK (xb7 iB) hv.le (jt3 e);obtain⟨i1,Pu⟩:=jI (n:=K0.n) (ord:=ord) (c:=jf e S0 a1 c1) sk (b:=false) (by rw[MU,<-ea1,<-ec1];exact ec false);obtain⟨i2,Pt⟩:=jI (n:=K0.n) (ord:=ord) (c:=jf e S0 a2 c2) sk (b:=true) (by rw[MU,<-ea2,<-ec2];exact ec true);have eF:jf e S0 a1 c1=λx=>jf e S0 a b (an.aB x v false):=by rw[<-ea1,<-ec1];exact ec false
 have eT:jf e S0 a2 c2=λx=>jf e S0 a b (an.aB x v true):=by rw[<-ea2,<-ec2];exact ec true
 have la1:=f1 a1 zI;have lc1:=f1 c1 zI;have la2:=t1 a2 zI;have lc2:=t1 c2 zI;have da1:=f2 a1 zI;have dc1:=f2 c1 zI;have da2:=t2 a2 zI;have dc2:=t2 c2 zI;refine Ld.f ?_;intro J49 h49;have acy:J49 [iv (v:Int)] ((Zs,.cells #[iv zb,u32 pb,u32 qb] 226 (0,0))::(b36,.cells #[iv za,u32 pa,u32 qa] 226 (0,0))::(tT,.cells #[u32 (min a b),u32 (max a b)] 447 (0,0))::WR e b3 b5 b1 sH kZ bj bq kp bm true xm xp es ck C):=by
  refine h49 _ _ λgs J53 h53=>?_;have acw:J53 [] ((Zs,.cells #[iv zb,u32 pb,u32 qb] 226 (0,0))::(b36,.cells #[iv za,u32 a1,u32 a2] 226 (0,0))::(tT,.cells #[u32 (min a b),u32 (max a b)] 447 (0,0))::WR e b3 b5 b1 sH kZ bj bq kp bm true xm xp es ck C):=by
   refine h53 _ λgs J56 h56=>?_;have acv:J56 [] ((Zs,.cells #[iv zb,u32 c1,u32 c2] 226 (0,0))::(b36,.cells #[iv za,u32 a1,u32 a2] 226 (0,0))::(tT,.cells #[u32 (min a b),u32 (max a b)] 447 (0,0))::WR e b3 b5 b1 sH kZ bj bq kp bm true xm xp es ck C):=by
    refine h56 _ λgs=>?_;refine Ld.q ?_;refine Ld.f ?_;refine Ld.f ?_;refine aL.of rfl fN ?_;have hJ0:JKn K0 (λp=>jf e S0 p.1 p.2) S made true xm xp:=⟨m,hE,hkn⟩;refine aa.fq (args:=#[u32 a1,u32 c1,ptr b3,ptr b5,ptr b1,ptr sH,ptr kZ]) (ih _ zO a1 c1 rfl K S made es ck C true xm xp la1 lc1 hS hJ0 (λg hg=>hU g (Pu g hg))) ?_;rintro w H ⟨x1,K1,S1,yu,j9,jL,C1,ok1,aey,aeA,rfl,rfl,Ec,hJ1,VJ,xH⟩;refine DR.of (R:=[(Zs,.cells #[iv zb,u32 c1,u32 c2] 226 (0,0)),(b36,.cells #[iv za,u32 a1,u32 a2] 226 (0,0)),(kZ,.cells #[FX b3 b5 b1 sH kZ] 445 (0,0)),(b1,.cells #[ptr bq] 313 (0,0))]) (.cons (.cons (.skip (.cons (.skip (.skip (.skip (.skip (aM.left (A:=[_])))))))))) (Ld.q ?_);refine Ld.q ?_;refine Ld.f ?_;refine Ld.f ?_;refine aL.of rfl fN (aa.fq (args:=#[u32 a2,u32 c2,ptr b3,ptr b5,ptr b1,ptr sH,ptr kZ]) (ih _ zO a2 c2 rfl K1 S1 yu j9 jL C1 ok1 aey aeA la2 lc2 Ec hJ1 (λg hg=>hU g (Pt g hg))) ?_);rintro w H ⟨x2,K2,S2,fS,gR,iE,C2,ok2,aex,aez,rfl,rfl,jB,Bg,nU,rH⟩;refine⟨.cons (.cons (.skip (.cons (.skip (.skip (.skip (.skip (aM.left (A:=[_]))))))))),?_⟩;have xM:=VJ.trans nU;have fin:∀(x3:Nat) K3 S3 ji oP qq C3 D9,xU kp K0 S0 U ord ah K3 S3 ji oP qq C3 D9->Ek K2 S2 fS K3 S3 ji->(D9=true->ok2=true/\S3 x3=jf e S0 a b/\(live K0.N x3\/x3∈ji))->
      ∀H49,H49=(Zs,.cells #[iv zb,u32 c1,u32 c2] 226 (0,0))::(b36,.cells #[iv za,u32 a1,u32 a2] 226 (0,0))::(tT,.cells #[u32 (min a b),u32 (max a b)] 447 (0,0))::WR e b3 b5 b1 sH kZ bj bq kp bm D9 aex aez oP qq C3->
      aM H49 [(Zs,.cells #[iv zb,u32 c1,u32 c2] 226 (0,0)),(b36,.cells #[iv za,u32 a1,u32 a2] 226 (0,0)),(kZ,.cells #[FX b3 b5 b1 sH kZ] 445 (0,0)),(b1,.cells #[ptr bq] 313 (0,0))]/\
      Ld H49 (ptr sH) λv77=>ay 2 H49 (ptr tT) λv78=>iK zQ 447 H49 v77 v78 (u32 x3) λH79=>aN (ZD kp K0 S0 U ord ah e b3 b5 b1 sH kZ bj bq bm K S made true (jf e S0 a b)) (.returned (u32 x3)) H79:=by
     rintro x3 K3 S3 ji oP qq C3 D9 YY Ee Av H49 rfl;refine⟨.cons (.cons (.skip (.cons (.skip (.skip (.skip (.skip (aM.left (A:=[_]))))))))),?_⟩;refine Ld.q ?_;refine ay.q ?_;obtain⟨m3,OY,YD⟩:=Bg.more jB Ee (λh=>(Av h).1);refine aE.LV (ke:=pk) (k:=(min a b,max a b)) (vr:=OJ) (x:=x3) Qd EP Uq OY rfl λes' bB he=>⟨_,.tail (.tail (.tail (.tail (.tail (.head _))))),?_⟩;refine aN.mk (.skip (.skip .tail)) ⟨x3,K3,S3,ji,oP,qq,C3,D9,es',bB,rfl,rfl,YY,⟨_,he,λh y hy=>(nL hy).elim (λe1=>?_) (λhy=>YD h y hy)⟩,xM.trans Ee,λh=>⟨rfl,(Av h).2⟩⟩;rw[e1];exact⟨(Av h).2.1.trans (WQ e S0 a b).symm,(Av h).2.2⟩
    cases ok2 with
    |false=>
     exact aa.eq (args:=#[ptr bq,iv (v:Int),u32 x1,u32 x2]) (yf (kp:=kp) (bm:=bm) _ _ _ _) (fin 0 K2 S2 fS gR iE C2 false jB .refl (λh=>by cases h) _ rfl)
    |true=>
     obtain⟨XZ,e2,m2⟩:=rH rfl;obtain⟨_,e1,m1⟩:=xH XZ;have Ya:=Ec.vx m1;have l1:live K2.N x1:=cu nU.N Ya;have l2:=jB.vx m2;have V0:S2 x1=jf e S0 a1 c1:=(nU.fn x1 Ya).trans e1;have dk:=jB.ks;have n2:=jB.cV.n;have b1':=dk.ok.below dk.od (l:=lv ah v+1) l1 zO (by rw[V0];exact i1);have b2':=dk.ok.below dk.od (l:=lv ah v+1) l2 zO (by rw[e2];exact i2);have sj:ite S2 ⟨v,x1,x2⟩=jf e S0 a b:=by
      funext x
      unfold aA.ite;rw[V0,e2,eF,eT]
      conv=>rhs;rw[<-an.iq x v]
      simp only;cases x.testBit v<;>rfl
     have iU:x1≠x2->U (ite S2 ⟨v,x1,x2⟩):=λhx=>by
      have yM:cF (jf e S0 a b) (ord.getD (lv ah v) 0):=by
       rw[MU];refine xaK λhno=>hx ?_;refine dk.ok.wf.same dk.ok.lv dk.ok.mid.int l1 l2 λx=>?_;rw[V0,e2,eF,eT];exact(cN hno x false).trans (cN hno x true).symm
      rw[sj];exact hU _ (oz sk iB yM)
     refine aa.fq (args:=#[ptr bq,iv (v:Int),u32 x1,u32 x2]) (BT jB (by rw[n2];exact hv.lt) l1 l2 ⟨by omega,by omega⟩ (by rw[sj];exact hU) iU hf) ?_;rintro w H ⟨r,K3,S3,ji,oP,qq,C3,D9,rfl,rfl,YY,Ee,Av⟩;exact fin r K3 S3 ji oP qq C3 D9 YY Ee (λh=>⟨rfl,by rw[(Av h).1,sj],(Av h).2⟩) _ rfl
   refine ae.m9 (Br.dec (λhh=>?_) (λhh=>?_))
   ·obtain⟨x1,x2⟩:=gb2 zO;subst x1;subst x2;refine ai.mk (St.one (by exact .head _) rfl zI rfl ?_);refine ai.mk (St.one (by exact .head _) rfl zI rfl ?_);exact JE.mk acv
   obtain⟨x1,x2,x3⟩:=gb1 zO;rw[x2,x3];exact JE.mk acv
  refine ae.m9 (Br.dec (λhh=>?_) (λhh=>?_))
  ·obtain⟨x1,x2⟩:=ga2 zO;subst x1;subst x2;refine ai.mk (St.one (by exact .tail (.head _)) rfl zI rfl ?_);refine ai.mk (St.one (by exact .tail (.head _)) rfl zI rfl ?_);exact JE.mk acw
  obtain⟨x1,x2,x3⟩:=ga1 zO;rw[x2,x3];exact JE.mk acw
 refine ae.fi (Br.dec (λhh=>?_) (λhh=>?_))
 ·obtain⟨x1,x2,x3⟩:=gb1 zO;refine Ld.f ?_;subst x1;exact JE.mk acy
 obtain⟨x1,x2,x3⟩:=ga1 zO;subst x1;exact JE.mk acy
end
theorem QS{N:eB}{S:Nat->aA.Fn}{n:Nat}{bW:Nat->Nat}{ord:zL}(h:WF n bW N)(hl:jY n bW)(hi:Interp N S)(ho:aA.Ord n bW ord){r:Nat}(hr:live N r){l:Nat}(Bb:l<=n)(hle:l<=dep n bW N r):∀j,j<l->¬cF (S r) (ord.getD j 0):=by
 rintro j hj ⟨x,hx⟩;apply hx;obtain⟨o1,o2⟩:=ho.aZ j zO;rw[h.bN hl hi hr o1 zO x false,h.bN hl hi hr o1 zO x true]
section
variable {kp bq bm:Nat} {K0:Kd} {S0:Nat->aA.Fn} {U:aA.Fn->Prop} {ord ah:zL}
def Wm(kp:Nat)(K0:Kd)(S0:Nat->aA.Fn)(U:aA.Fn->Prop)(ord ah:zL)(bq bm:Nat)(LB:Hp)(K:Kd)(S:Nat->aA.Fn)(made:zL)(f:aA.Fn)(w:zV)(H:Hp):Prop:=
 ∃x K' S' made' es' bB C' nk,w=u32 x/\H=LB++tY bq kp bm nk es' bB C'/\xU kp K0 S0 U ord ah K' S' made' es' bB C' nk/\Ek K S made K' S' made'/\(nk=true->S' x=f/\(live K0.N x\/x∈made'))
theorem UZ{e:Bool}(kY:WF K0.n (lv ah) K0.N)(oY:Interp K0.N S0)(jK:jY K0.n (lv ah))(mQ:aA.Ord K0.n (lv ah) ord)(hf:∀s,K0.hold s=65535->live K0.N s){a b:Nat}{K:Kd}{S:Nat->aA.Fn}{made:zL}{es:Array MapEntry}{ck:Nat}{C:Hp}
 (ha:live K0.N a)(hb:live K0.N b)(hS:xU kp K0 S0 U ord ah K S made es ck C true)(hU:∀g,aG K0.n ord (λg=>g=jf e S0 a b) g->U g):
  Fc zQ 330 #[ptr bq,u32 a,u32 b,.bool e] (tY bq kp bm true es ck C) (Wm kp K0 S0 U ord ah bq bm [] K S made (jf e S0 a b)):=by
 refine aF λg=>Hq ?_;intro b1 _ b3 _ b5 _;refine St.one (by exact .tail (.head _)) rfl zI rfl ?_;refine St.one (by exact .head _) rfl zI rfl ?_;have fN:aT zQ 380=true:=by kernel_rfl
 intro J hJ;have hJ':J [] ((b5,.cells #[u32 (!e).toNat] 110 (0,0))::(b3,.cells #[u32 e.toNat] 110 (0,0))::(b1,.cells #[ptr bq] 313 (0,0))::tY bq kp bm true es ck C):=by
  refine hJ _ λgs=>?_;intro bj _ sH _;refine St.one (by exact .head _) rfl zI rfl ?_;intro kZ _;refine St.one (by exact .head _) rfl zI rfl ?_;refine Ld.q ?_;refine aL.of rfl fN (aa.fq (args:=#[u32 a,u32 b,ptr b3,ptr b5,ptr b1,ptr sH,ptr kZ]) (QE (e:=e) fN kY oY jK mQ hf _ a b rfl K S made es ck C true #[] 0 ha hb hS ⟨[],aE.empty,λ_ y hy=>by cases hy⟩ hU) ?_);rintro w H ⟨x,K',S',made',es',bB,C',nk,Ye,Yf,rfl,rfl,FJ,_,hA,ho⟩;exact aN.mk (.skip (.skip (.skip (.skip (.skip .tail))))) ⟨x,K',S',made',es',bB,C',nk,rfl,rfl,FJ,hA,λh=>(ho h).2⟩
 cases e with
 |true=>
  refine Br.yes (St.one (by exact .tail (.head _)) rfl zI rfl ?_);refine St.one (by exact .head _) rfl zI rfl ?_;exact JE.mk hJ'
 |false=>exact Br.no (JE.mk hJ')
def Lx(kp:Nat)(K0:Kd)(S0:Nat->aA.Fn)(U:aA.Fn->Prop)(ord ah:zL)(bq bm:Nat)(t:Bool->Bool->Bool)(v:Nat)(fv:zV)(LB:Hp):Prop:=
 ∃f first cap,fv=.func (.func f) first cap/\aT zQ f=true/\∀(r:Nat) (d:Nd),K0.N r=some d->d.v=v->∀K S made es ck C,xU kp K0 S0 U ord ah K S made es ck C true->(∀g,aG K0.n ord (λg=>g=QF t v (S0 r)) g->U g)->
  Fc zQ f (first++ #[.agg (bu d).toArray]++cap) (LB++tY bq kp bm true es ck C) (Wm kp K0 S0 U ord ah bq bm LB K S made (QF t v (S0 r)))
def Su(b1 jd l8 b3 y8:Nat):zV:=.func (.func 325) #[] #[ptr b1,ptr jd,ptr l8,ptr b3,ptr y8]
def ZJ(K0:Kd)(F:Nat->aA.Fn)(S:Nat->aA.Fn)(made:zL)(ok:Bool)(es:Array MapEntry)(ck:Nat):Prop:=
 ∃m:List (Nat×Nat),aE (kN .u32) OJ es ck m/\(ok=true->∀y∈m,S y.2=F y.1/\(live K0.N y.2\/y.2∈made))
theorem ZJ.more{F:Nat->aA.Fn}{K K':Kd}{S S':Nat->aA.Fn}{made made':zL}{es xm:Array MapEntry}{ck xp:Nat}{C:Hp}{ok nk:Bool}(hq:xU kp K0 S0 U ord ah K S made es ck C ok)(h:ZJ K0 F S made ok xm xp)(ha:Ek K S made K' S' made')(hok:nk=true->ok=true):ZJ K0 F S' made' nk xm xp:=by
 obtain⟨m,h1,h2⟩:=h;refine⟨m,h1,λh y hy=>?_⟩;obtain⟨a,b⟩:=h2 (hok h) y hy;exact⟨by rw[ha.fn _ (hq.vx b),a],b.imp id (ha.mem _)⟩
abbrev dHp(b1 b3 jd l8 y8 bd lvl:Nat)(fv:zV)(LB:Hp)(bq kp bm:Nat)(ok:Bool)(O3:Array MapEntry)(O4:Nat)(es:Array MapEntry)(ck:Nat)(C:Hp):Hp:=
 (y8,.cells #[Su b1 jd l8 b3 y8] 389 (0,0))::(l8,.cells #[.map (some bd)] 388 (0,0))::(bd,.map O3 O4)::(jd,.cells #[iv (lvl:Int)] 3 (0,0))::(b3,.cells #[fv] 300 (0,0))::(b1,.cells #[ptr bq] 313 (0,0))::(LB++tY bq kp bm ok es ck C)
def agQ(kp:Nat)(K0:Kd)(S0:Nat->aA.Fn)(U:aA.Fn->Prop)(ord ah:zL)(t:Bool->Bool->Bool)(v b1 b3 jd l8 y8 bd:Nat)(fv:zV)(LB:Hp)(bq bm:Nat)(K:Kd)(S:Nat->aA.Fn)(made:zL)(ok:Bool)(f:aA.Fn)(w:zV)(H:Hp):Prop:=
 ∃x K' S' made' es' bB C' nk Zk Zm,w=u32 x/\H=dHp b1 b3 jd l8 y8 bd (lv ah v) fv LB bq kp bm nk Zk Zm es' bB C'/\xU kp K0 S0 U ord ah K' S' made' es' bB C' nk/\ZJ K0 (λr=>QF t v (S0 r)) S' made' nk Zk Zm/\Ek K S made K' S' made'/\
  (nk=true->ok=true/\S' x=f/\(live K0.N x\/x∈made'))
variable {b1 b3 jd l8 y8 bd:Nat} {fv:zV} {LB:Hp} {t:Bool->Bool->Bool} {v:Nat}
set_option maxHeartbeats 2000000 in
theorem Sd(fN:aT zQ 325=true)(hLq:Lx kp K0 S0 U ord ah bq bm t v fv LB)(ht:∀a,t a a=a)(hv:v<K0.n)(kY:WF K0.n (lv ah) K0.N)(oY:Interp K0.N S0)(jK:jY K0.n (lv ah))(mQ:aA.Ord K0.n (lv ah) ord)(hf:∀s,K0.hold s=65535->live K0.N s):
  ∀(k r:Nat),K0.n-dep K0.n (lv ah) K0.N r=k->∀(K:Kd) (S:Nat->aA.Fn) (made:zL) (es:Array MapEntry) (ck:Nat) (C:Hp) (ok:Bool) (O3:Array MapEntry) (O4:Nat),
  live K0.N r->xU kp K0 S0 U ord ah K S made es ck C ok->ZJ K0 (λr=>QF t v (S0 r)) S made ok O3 O4->(∀g,aG K0.n ord (λg=>g=QF t v (S0 r)) g->U g)->
  Fc zQ 325 #[u32 r,ptr b1,ptr jd,ptr l8,ptr b3,ptr y8] (dHp b1 b3 jd l8 y8 bd (lv ah v) fv LB bq kp bm ok O3 O4 es ck C) (agQ kp K0 S0 U ord ah t v b1 b3 jd l8 y8 bd fv LB bq bm K S made ok (QF t v (S0 r))):=by
 have hc0:∀r,r<2->K0.N r=none:=λr hr=>kY.const hr;intro k;induction k using Nat.strongRecOn with
 |ind k ih=>
 intro r hk K S made es ck C ok O3 O4 hr hS hD hU g;have hK:=hS.ks;have KR:∀r,r<2->K.N r=none:=λr hr=>hK.ok.wf.const hr;have eN:=hS.cV.n;have lr:=hS.cV.live hr;refine Hu (R:=aN _) ?_;unfold L325;refine Ld.q ?_;refine aa.eq (EO (bm:=bm) (ok:=ok) (es:=es) (ck:=ck) hK lr) (Ext.two ?_);intro b6 _;refine St.whole (r:=got K.N r) (by exact .head _) rfl (aR _ _).1 (aR _ _).2 ?_;rw[nV hS.cV.N hc0 KR hr,eN,v5 hS.cV.N KR hc0 hr];refine Ld.q ?_;refine ae.m9 (cf.or (!ok) (λ_=>?_) zI λgs=>?_)
 ·refine Ld.q ?_;refine Ld.n ?_;exact ae.cG ⟨rfl,by cases ok<;>rfl⟩
 refine Br.mk (λhb=>?_) (λhb=>?_)
 ·-- deeper, or an error before
  refine aN.mk .tail ⟨r,K,S,made,es,ck,C,ok,O3,O4,rfl,rfl,hS,hD,.refl,λh=>⟨h,?_,.inl hr⟩⟩;rw[h]at hb;simp only[xb8,xdu,xaA]at hb;rw[hS.cV.fn r hr];refine(Wn ht ?_).symm;rintro⟨x,hx⟩;apply hx;rw[kY.bN jK oY hr hv hb x false,kY.bN jK oY hr hv hb x true]
 simp only[xaF,xbq,Bool.not_eq_false',Nat.not_lt]at hb;obtain⟨Ax,rfl⟩:=hb;obtain⟨m,hE,hkn⟩:=hD;refine Ld.q ?_;have xI:(bd,Obj.map O3 O4)∈(b6,Obj.cells (got K0.N r).toArray 226 (0,0))::dHp b1 b3 jd l8 y8 bd (lv ah v) fv LB bq kp bm true O3 O4 es ck C:=.tail _ (.tail _ (.tail _ (.head _)));have hlv:=jK.lt v hv;obtain⟨d,hd⟩:∃d,K0.N r=some d:=by
  cases e:K0.N r with
  |none=>rw[aU e]at Ax;omega
  |some d=>exact⟨d,rfl⟩
 have ed:=aq (n:=K0.n) (ah:=lv ah) hd;have h2:=kY.two hd;have kX:=kY.var hd;cases hg:aK m r with
 |some x=>
  refine aE.hit (k:=r) jx hE xI hg ?_;rintro w rfl;obtain⟨g1,g2⟩:=hkn rfl _ ((dV hE.nd).1 hg);exact Ext.mk rfl (Ext.mk rfl (Br.yes (aN.mk .tail ⟨x,K,S,made,es,ck,C,true,O3,O4,rfl,rfl,hS,⟨m,hE,hkn⟩,.refl,λh=>⟨h,g1,g2⟩⟩)))
 |none=>
 refine aE.bM (k:=r) jx hE xI hg ?_;refine Ext.mk rfl (Ext.mk rfl (Br.no ?_));rw[dX hd h2];intro J hJ;have fin:∀(x3:Nat) K3 S3 ji oP qq C3 D9 Zj Zl,xU kp K0 S0 U ord ah K3 S3 ji oP qq C3 D9->ZJ K0 (λr=>QF t v (S0 r)) S3 ji D9 Zj Zl->Ek K S made K3 S3 ji->(D9=true->S3 x3=QF t v (S0 r)/\(live K0.N x3\/x3∈ji))->
   J [u32 x3] ((b6,.cells (bu d).toArray 226 (0,0))::dHp b1 b3 jd l8 y8 bd (lv ah v) fv LB bq kp bm D9 Zj Zl oP qq C3):=by
  intro x3 K3 S3 ji oP qq C3 D9 Zj Zl YY hD3 Ee Av;refine hJ _ _ λgs=>?_;refine Ld.q ?_;obtain⟨m3,OY,YD⟩:=hD3;refine aE.bg (k:=r) (x:=x3) jx KI OY rfl λes' bB he=>⟨_,.tail (.tail (.tail (.head _))),?_⟩;refine aN.mk .tail ⟨x3,K3,S3,ji,oP,qq,C3,D9,es',bB,rfl,rfl,YY,⟨_,he,λh y hy=>(nL hy).elim (λe1=>?_) (λhy=>YD h y hy)⟩,Ee,λh=>⟨rfl,Av h⟩⟩;rw[e1];exact Av h
 have hD0:ZJ K0 (λr=>QF t v (S0 r)) S made true O3 O4:=⟨m,hE,hkn⟩;refine Ld.q ?_;refine ae.eO (Br.dec (λhl=>?_) (λhl=>?_))
 ·-- at the variable
  have ev:d.v=v:=jK.inj _ _ kX hv zO;obtain⟨f,first,cap,rfl,Vr,abx⟩:=hLq;refine Ld.q ?_;refine ay.q ?_;refine aL.of rfl Vr (aa.fq (C:=LB++tY bq kp bm true es ck C) (abx r d hd ev K S made es ck C hS hU) ?_);rintro w H ⟨x,K',S',made',es',bB,C',nk,rfl,rfl,FJ,hA,ho⟩;exact JE.mk (fin x K' S' made' es' bB C' nk O3 O4 FJ (hD0.more hS hA (λ_=>rfl)) hA ho)
 -- above it
 have ae7:lv ah d.v<lv ah v:=by omega
 have hne:d.v≠v:=λe=>by rw[e]at ae7;omega
 obtain⟨g1,g2,g3⟩:=gi (S:=S0) kY jK oY hr kX zO false;obtain⟨t1,t2,t3⟩:=gi (S:=S0) kY jK oY hr kX zO true;obtain⟨q1,q2⟩:=kH (N:=K0.N) hd;rw[q1]at g1 g2 g3;rw[q2]at t1 t2 t3;have iB:=jK.lt d.v kX;have MU:=mQ.of jK kX;have sk:∀j,j<lv ah d.v->¬cF (QF t v (S0 r)) (ord.getD j 0):=λj hj=>S6 (QS kY jK oY mQ hr (xb7 iB) zO j hj);have eF:QF t v (S0 d.lo)=λx=>QF t v (S0 r) (an.aB x d.v false):=by rw[<-S7 hne];congr 1;exact funext g1
 have eT:QF t v (S0 d.hi)=λx=>QF t v (S0 r) (an.aB x d.v true):=by rw[<-S7 hne];congr 1;exact funext t1
 obtain⟨i1,Pu⟩:=jI (n:=K0.n) (ord:=ord) (c:=QF t v (S0 d.lo)) sk (b:=false) (by rw[MU];exact eF);obtain⟨i2,Pt⟩:=jI (n:=K0.n) (ord:=ord) (c:=QF t v (S0 d.hi)) sk (b:=true) (by rw[MU];exact eT);refine Ld.q ?_;refine Ld.f ?_;refine aL.of rfl fN (aa.fq (args:=#[u32 d.lo,ptr b1,ptr jd,ptr l8,ptr b3,ptr y8]) (ih _ zO d.lo rfl K S made es ck C true O3 O4 g2 hS hD0 (λg hg=>hU g (Pu g hg))) ?_);rintro w H ⟨x1,K1,S1,yu,j9,jL,C1,ok1,agt,agv,rfl,rfl,Ec,hD1,VJ,xH⟩;refine DR.of (R:=[(b6,.cells (bu d).toArray 226 (0,0)),(y8,.cells #[Su b1 jd l8 b3 y8] 389 (0,0)),(b1,.cells #[ptr bq] 313 (0,0))]) (.cons (.cons (.skip (.skip (.skip (.skip (aM.left (A:=[_])))))))) (Ld.q ?_);refine Ld.f ?_;refine Ld.q ?_;refine Ld.f ?_;refine aL.of rfl fN (aa.fq (args:=#[u32 d.hi,ptr b1,ptr jd,ptr l8,ptr b3,ptr y8]) (ih _ zO d.hi rfl K1 S1 yu j9 jL C1 ok1 agt agv t2 Ec hD1 (λg hg=>hU g (Pt g hg))) ?_);rintro w H ⟨x2,K2,S2,fS,gR,iE,C2,ok2,acL,acO,rfl,rfl,jB,hD2,nU,rH⟩;refine⟨.cons (.cons (.skip (.skip (.skip (.skip (aM.left (A:=[_]))))))),?_⟩;have xM:=VJ.trans nU;cases ok2 with
 |false=>
  refine aa.eq (args:=#[ptr bq,iv (d.v:Int),u32 x1,u32 x2]) (yf (kp:=kp) (bm:=bm) _ _ _ _) (⟨.cons (.cons (.skip (.skip (.skip (.skip (aM.left (A:=[_]))))))),?_⟩);exact JE.mk (fin 0 K2 S2 fS gR iE C2 false acL acO jB hD2 xM (λh=>by cases h))
 |true=>
  obtain⟨XZ,e2,m2⟩:=rH rfl;obtain⟨_,e1,m1⟩:=xH XZ;have Ya:=Ec.vx m1;have l1:live K2.N x1:=cu nU.N Ya;have l2:=jB.vx m2;have V0:S2 x1=QF t v (S0 d.lo):=(nU.fn x1 Ya).trans e1;have dk:=jB.ks;have n2:=jB.cV.n;have b1':=dk.ok.below dk.od (l:=lv ah d.v+1) l1 zO (by rw[V0];exact i1);have b2':=dk.ok.below dk.od (l:=lv ah d.v+1) l2 zO (by rw[e2];exact i2);have sj:ite S2 ⟨d.v,x1,x2⟩=QF t v (S0 r):=by
   funext x
   unfold aA.ite;rw[V0,e2,eF,eT]
   conv=>rhs;rw[<-an.iq x d.v]
   simp only;cases x.testBit d.v<;>rfl
  have iU:x1≠x2->U (ite S2 ⟨d.v,x1,x2⟩):=λhx=>by
   have yM:cF (QF t v (S0 r)) (ord.getD (lv ah d.v) 0):=by
    rw[MU];refine xaK λhno=>hx ?_;refine dk.ok.wf.same dk.ok.lv dk.ok.mid.int l1 l2 λx=>?_;rw[V0,e2,eF,eT];exact(cN hno x false).trans (cN hno x true).symm
   rw[sj];exact hU _ (oz sk iB yM)
  refine aa.fq (args:=#[ptr bq,iv (d.v:Int),u32 x1,u32 x2]) (BT jB (by rw[n2];exact kX) l1 l2 ⟨by omega,by omega⟩ (by rw[sj];exact hU) iU hf) ?_;rintro w H ⟨r3,K3,S3,ji,oP,qq,C3,D9,rfl,rfl,YY,Ee,Av⟩;refine⟨.cons (.cons (.skip (.skip (.skip (.skip (aM.left (A:=[_]))))))),?_⟩;exact JE.mk (fin r3 K3 S3 ji oP qq C3 D9 acL acO YY (hD2.more jB Ee (λ_=>rfl)) (xM.trans Ee) (λh=>⟨by rw[(Av h).1,sj],(Av h).2⟩))
end
def X5(es:Array MapEntry)(l:zL):List zV->Hp->Nat:=λ_ H=>match H with
 |(_,.mapIter _ _ seen _)::_=>(bS es (A7 l) seen).length
 |_=>0
structure Let(K K':Kd)(l:zL):Prop where
 n:K'.n=K.n
 cap:K'.cap=K.cap
 N:∀s d,K'.N s=some d->K.N s=some d
 hold:∀s,K'.hold s+l.count s=K.hold s
section
variable {kp bq bm:Nat} {K0:Kd} {S0:Nat->aA.Fn} {U:aA.Fn->Prop} {ord ah:zL}
theorem Ab{g:Gh}{K:Kd}{S:Nat->aA.Fn}{l:zL}{es:Array MapEntry}{ck b9 b1:Nat}{ok:Bool}{C LB:Hp}(hK:cc kp K S ord ah [] C)(hE:aE (kN .u32) vr1 es ck (A7 l))(hc:∀s,l.count s<=K.hold s)(h2:∀s∈l,2<=s)(OZ:∀s∈l,s<4294967296){Kc:Hp->Prop}
 (hk:∀K' C' bi it,cc kp K' S ord ah [] C'->Let K K' l->Kc ((bi,it)::(b9,.cells #[ptr bq] 313 (0,0))::(b1,.cells #[ptr kp] 85 (0,0))::(LB++tY bq kp bm ok es ck C'))):
  j3 zQ g 324 #[ptr b9,ptr b1] ((b9,.cells #[ptr bq] 313 (0,0))::(b1,.cells #[ptr kp] 85 (0,0))::(LB++tY bq kp bm ok es ck C)) Kc:=by
 refine DY (R:=_) ?_;unfold L324;refine Ld.q ?_;refine Ld.n ?_;refine .inr ⟨bm,es,ck,rfl,.tail _ (.tail _ (xac _ (.tail _ (.head _)))),λbi _=>?_⟩;refine⟨λ_ H=>∃(done:zL) (K':Kd) (C':Hp) (seen:Array Nat),H=(bi,.mapIter (some bm) ck seen ck)::(b9,.cells #[ptr bq] 313 (0,0))::(b1,.cells #[ptr kp] 85 (0,0))::(LB++tY bq kp bm ok es ck C')/\
   cc kp K' S ord ah [] C'/\Let K K' done/\(done++(bS es (A7 l) seen).map Prod.fst).Perm l,X5 es l,JE.mk ⟨[],K,C,#[],rfl,hK,⟨rfl,rfl,λ_ _ h=>h,λs=>by simp⟩,by rw[mu hE,qI];exact .refl _⟩,?_⟩
 rintro H ⟨done,K',C',seen,rfl,dh,hl,hp⟩ gs;refine aE.next (bi:=bi) (bm:=bm) (seen:=seen) hE (.tail _ (.tail _ (.tail _ (xac _ (.tail _ (.head _)))))) (.head _) (λe x seen' he hkey hv Q6 Z9 hfi=>⟨_,.head _,?_⟩) (λhu=>?_)
 ·refine Ext.mk rfl (Br.yes (⟨bi,bm,ck,seen',e.born,ck,es,e,rfl,.head _,Z9,.tail _ (.tail _ (.tail _ (xac _ (.tail _ (.head _))))),hfi,?_⟩));refine Ext.mk rfl (Ld.q ?_);have hxl:x.1∈l:=by
   refine hp.mem_iff.1 (xac _ ?_);exact xaP (Q6.mem_iff.2 (.head _))
  have Bd:done.count x.1+1<=l.count x.1:=by
   rw[<-hp.count_eq,xbf,(Q6.map Prod.fst).count_eq,xaB,List.count_cons_self];omega
  have hhx:K'.hold x.1≠0:=by
   have a:=hl.hold x.1;have b:=hc x.1;omega
  show aa zQ g 142 #[ptr kp,e.key] _ _ _;rw[hkey];refine aa.fq (args:=#[ptr kp,u32 x.1]) (mU dh (r:=x.1) (OZ _ hxl) (λ_=>hhx)) ?_;rintro w C2 ⟨rfl,K2,dk,f2⟩;refine aC.mk ⟨done++[x.1],K2,C2,seen',rfl,dk,⟨f2.n.trans hl.n,f2.cap.trans hl.cap,λs d hd=>hl.N s d (f2.N s d hd),λs=>?_⟩,?_⟩ ?_
  ·have a:=hl.hold s;rw[f2.hold,xbf,xcH];by_cases e1:s=x.1
   ·subst e1;have:=h2 _ hxl;simp[this];omega
   have:(x.1==s)=false:=by simpa using λe'=>e1 e'.symm
   simp[e1,this];exact a
  ·refine .trans ?_ hp;rw[xai];refine xbW _ ?_;exact(Q6.map Prod.fst).symm
  show(bS es (A7 l) seen').length<(bS es (A7 l) seen).length;rw[Q6.length_eq,xay];omega
 refine Ext.mk rfl (Br.no ?_);rw[hu,xb6,xaL]at hp;refine⟨⟨_,rfl⟩,hk K' C' bi _ dh ⟨hl.n,hl.cap,hl.N,λs=>?_⟩⟩;rw[<-hp.count_eq];exact hl.hold s
end
section
variable {kp:Nat} {K:Kd} {S:Nat->aA.Fn} {ord ah tr:zL} {C:Hp}
theorem aaG{α:Type}(a x y b:α)(L R:List α):(a::x::y::b::(L++R)).Perm (a::b::(L++x::y::R)):=by
 classical
 rw[xcu];intro z;simp only[xbf,xb3];omega
theorem MD{made:zL}{x:Nat}:ia (A7 made) x=A7 (made.filter λr=>decide (¬r=x)):=by
 unfold ia A7;induction made with
 |nil=>rfl
 |cons a l ih=>
  simp only[xaB,xbk];by_cases h:a=x
  ·simp[h]at ih⊢;exact ih
  simp[h]at ih⊢;exact ih
def oe(kp:Nat)(K:Kd)(S:Nat->aA.Fn)(ord ah:zL)(LB:Hp)(f:aA.Fn)(w:zV)(H:Hp):Prop:=
 (∃x K' S' C',w=.tuple #[u32 x,.bool true,iv 0]/\H=LB++C'/\cc kp K' S' ord ah [] C'/\kO K S K' S' f x)\/
 (w=.tuple #[u32 0,.bool false,iv 9]/\(∃K' S' C',H=LB++C'/\cc kp K' S' ord ah [] C'/\Kept K S K' S')/\¬Fits (aG K.n ord (λg=>K.held S g\/g=f)) K.cap)
def kM(kp:Nat)(K:Kd)(S:Nat->aA.Fn)(ord ah:zL)(LB:Hp)(f:aA.Fn)(w:zV)(H:Hp):Prop:=
 oe kp K S ord ah LB f w H\/∃x,w=.tuple #[u32 x,.bool false,iv 0]/\(∃K' S' C',H=LB++C'/\cc kp K' S' ord ah [] C'/\Kept K S K' S')/\2<=x/\K.hold x=65535/\S x=f
theorem Kq(hK:cc kp K S ord ah tr C){f:aA.Fn}{LB:Hp}{fb:zV}
 (hb:∀K1 C1,cc kp K1 S ord ah [] C1->Wo K K1 1->∃ff first cap,fb=.func (.func ff) first cap/\aT zQ ff=true/\∀bq bm,xU kp K1 S (aG K.n ord (λg=>K.held S g\/g=f)) ord ah K1 S [] #[] 0 C1 true->
   Fc zQ ff (first++ #[ptr bq]++cap) (LB++tY bq kp bm true #[] 0 C1) (Wm kp K1 S (aG K.n ord (λg=>K.held S g\/g=f)) ord ah bq bm LB K1 S [] f)):
  Fc zQ 256 #[ptr kp,fb] (LB++C) (kM kp K S ord ah LB f):=by
 refine aF λg=>Iu ?_;intro b1 _;refine Ld.q ?_;intro bm _;refine Build.mk (cs:=[ptr kp,.map (some bm),iv 0]) zK ?_;intro bq _ b9 _;refine St.one (by exact .head _) rfl zI rfl ?_;refine Ld.q ?_;refine aa.fq (args:=#[ptr kp,u32 1]) (mM hK (r:=1) (.inl zO) (λh=>by omega)) ?_;rintro w C1 ⟨rfl,K1,eV,mo⟩;have fk:∀s,K1.hold s=K.hold s:=λs=>by rw[mo.hold,xab zO]
 have abN:∀g,K1.held S g->K.held S g:=by
  rintro g ⟨s,hs,rfl⟩;exact⟨s,by have:K1.hold s≠0:=hs;rwa [fk]at this,rfl⟩
 obtain⟨ff,first,cap,rfl,Vr,hbody⟩:=hb K1 C1 eV mo;refine Ld.q ?_;refine aL.of rfl Vr (aa.pre (H':=(b9,.cells #[ptr bq] 313 (0,0))::(b1,.cells #[ptr kp] 85 (0,0))::(LB++tY bq kp bm true #[] 0 C1)) (.perm (aaG _ _ _ _ _ _)) ?_);have RQ:xU kp K1 S (aG K.n ord (λg=>K.held S g\/g=f)) ord ah K1 S [] #[] 0 C1 true:=⟨eV,.refl λg hg=>by rw[mo.n]at hg;exact cK (λg h=>.inl (abN g h)) hg,aE.empty,λh=>by cases h⟩;refine aa.fq (C:=LB++tY bq kp bm true #[] 0 C1) (hbody bq bm RQ) ?_;rintro w H ⟨x,K2,S2,made,es,ck,C2,ok,rfl,rfl,jB,hA,ho⟩;have dk:=jB.ks;have j4:=jB.cV;have eY:=jB.nd;have FC:∀s,made.count s<=K2.hold s:=λs=>by rw[j4.hold];omega
 have OZ:∀s∈made,s<4294967296:=λs hs=>by have:=dk.bK (j4.iz dk hs);omega
 have qW:∀s,K.hold s≠0->live K.N s:=λs hs=>.inr (hK.ok.mid.held s hs);have af0:∀s d,K.N s=some d->K2.N s=some d:=λs d hd=>j4.N s d (by rw[mo.N];exact hd);have hfn:∀s,live K.N s->S2 s=S s:=λs hs=>j4.fn s (by rw[mo.N];exact hs);refine Ld.q ?_;refine Ld.n ?_;cases ok with
 |false=>
  refine ae.cG (Br.T (Ld.q ?_));refine Ld.n ?_;refine Ab dk jB.dG FC j4.two OZ λK3 C3 bi it j8 hl=>?_;have gE:∀s,K3.hold s=K.hold s:=λs=>by
   have a:=hl.hold s;have b:=j4.hold s;rw[fk]at b;omega
  refine aN.mk (.skip (.skip (.skip (.cW (.skip .tail) _)))) (.inl (.inr ⟨rfl,⟨K3,S2,C3,rfl,j8,⟨by rw[hl.n,j4.n,mo.n],by rw[hl.cap,j4.cap,mo.cap],gE,λg=>?_,λr hr=>hfn r (qW r hr)⟩⟩,?_⟩))
  ·constructor
   ·rintro⟨s,hs,rfl⟩;have hs':K.hold s≠0:=by rw[<-gE];exact hs
    exact⟨s,hs',hfn s (qW s hs')⟩
   rintro⟨s,hs,rfl⟩;exact⟨s,by show K3.hold s≠0;rw[gE];exact hs,(hfn s (qW s hs)).symm⟩
  have:=jB.bad rfl;rw[mo.cap]at this;exact this
 |true=>
  obtain⟨hx,hxm⟩:=ho rfl;refine ae.cG (Br.F (Ld.q ?_));refine Ld.n ?_;have fin:∀(K3:Kd) (l:zL) (oP:Array MapEntry) (C3:Hp),cc kp K3 S2 ord ah [] C3->(∀s d,K3.N s=some d->K2.N s=some d)->K3.n=K2.n->K3.cap=K2.cap->aE (kN .u32) vr1 oP ck (A7 l)->(∀s∈l,s∈made)->(∀s,K3.hold s=K.hold s+l.count s+if s=x/\2<=x then 1 else 0)->
    j3 zQ g 324 #[ptr b9,ptr b1] ((b9,.cells #[ptr bq] 313 (0,0))::(b1,.cells #[ptr kp] 85 (0,0))::(LB++tY bq kp bm true oP ck C3)) λH=>aN (kM kp K S ord ah LB f) (.returned (.tuple #[u32 x,.bool true,iv 0])) H:=by
   intro K3 l oP C3 j8 hN3 hn3 YR OY hlm Bc;refine Ab j8 OY (λs=>by rw[Bc];omega) (λs hs=>j4.two s (hlm s hs)) (λs hs=>OZ s (hlm s hs)) λK4 C4 bi it M6 hl=>?_;have m8:∀s,K4.hold s=K.hold s+if s=x/\2<=x then 1 else 0:=λs=>by
    have a:=hl.hold s;rw[Bc]at a;omega
   have vK:live K4.N x:=by
    by_cases h2:x<2
    ·exact .inl h2
    refine .inr (M6.ok.mid.held x ?_);rw[m8,xae ⟨rfl,by omega⟩];omega
   refine aN.mk (.skip (.skip (.skip (.cW (.skip .tail) _)))) (.inl (.inl ⟨x,K4,S2,C4,rfl,rfl,M6,⟨by rw[hl.n,hn3,j4.n,mo.n],by rw[hl.cap,YR,j4.cap,mo.cap],λs d hs=>jT hK.ok M6.ok (λs h=>by rw[m8];omega) (λs d d' h h'=>?_) _ s d hs (xaj _),hfn,vK,hx,m8⟩⟩));have a:=hN3 s d' (hl.N s d' h');rw[af0 s d h]at a;exact(xbm a).symm
  by_cases hm:x∈made
  ·refine aE.hit (k:=x) (x:=()) jx jB.dG (.tail _ (.tail _ (xac _ (.tail _ (.head _))))) (oI.1 hm) ?_;rintro v rfl;refine ae.gtr (Br.T (Ld.q ?_));refine Ld.n ?_;refine aE.del (k:=x) jx jB.dG (.tail _ (.tail _ (xac _ (.tail _ (.head _))))) λes' he=>⟨_,.tail (.tail ((c6.tail (.head _)).ca LB)),?_⟩;rw[MD]at he;refine fin K2 _ es' C2 dk (λ_ _ h=>h) rfl rfl he (λs hs=>(xbS.1 hs).1) λs=>?_;rw[j4.hold,fk];have O0:=j4.two x hm;by_cases e1:s=x
   ·subst e1;have c1:made.count s=1:=by rw[eY.count,xae hm]
    have c2:(made.filter λr=>decide (¬r=s)).count s=0:=xdI.2 zI;rw[c1,c2,xae ⟨rfl,O0⟩]
   have:(made.filter λr=>decide (¬r=x)).count s=made.count s:=List.count_filter (by simpa using e1);rw[this,xab (λh=>e1 h.1)];rfl
  refine aE.bM (k:=x) jx jB.dG (.tail _ (.tail _ (xac _ (.tail _ (.head _))))) (oI.2 hm) ?_;refine ae.gtr (Br.F (Ld.q ?_));have vK:live K2.N x:=jB.vx hxm;by_cases Bd:2<=x/\K2.hold x=65535
  ·have hKx:K.hold x=65535:=by
    have:=j4.hold x;rw[fk,xdI.2 hm]at this;omega
   refine aa.eq (args:=#[ptr kp,u32 x]) (oJ dk vK Bd.1 Bd.2) (ae.gU ?_);rw[show decide ((8:Int)=0)=false from rfl];refine Ab dk jB.dG FC j4.two OZ λK3 C3 bi it j8 hl=>?_;have gE:∀s,K3.hold s=K.hold s:=λs=>by
    have a:=hl.hold s;have b:=j4.hold s;rw[fk]at b;omega
   refine aN.mk (.skip (.skip (.skip (.cW (.skip .tail) _)))) (.inr ⟨x,rfl,⟨K3,S2,C3,rfl,j8,⟨by rw[hl.n,j4.n,mo.n],by rw[hl.cap,j4.cap,mo.cap],gE,λg=>?_,λr hr=>hfn r (qW r hr)⟩⟩,Bd.1,hKx,by rw[<-hx];exact(hfn x (qW x zO)).symm⟩);constructor
   ·rintro⟨s,hs,rfl⟩;have hs':K.hold s≠0:=by rw[<-gE];exact hs
    exact⟨s,hs',hfn s (qW s hs')⟩
   rintro⟨s,hs,rfl⟩;exact⟨s,by show K3.hold s≠0;rw[gE];exact hs,(hfn s (qW s hs)).symm⟩
  refine aa.fq (args:=#[ptr kp,u32 x]) (mM dk (r:=x) vK (λh2=>by have:=dk.gg x;omega)) ?_;rintro w C3 ⟨rfl,K3,j8,m3⟩;refine ae.gU ?_;rw[show decide ((0:Int)=0)=true from rfl];refine fin K3 made es C3 j8 (λs d h=>by rw[<-m3.N];exact h) m3.n m3.cap jB.dG (λ_ h=>h) λs=>?_;rw[m3.hold,j4.hold,fk];split<;>omega
end
section
variable {kp bq bm:Nat} {K0:Kd} {S0:Nat->aA.Fn} {U:aA.Fn->Prop} {ord ah:zL}
theorem Lb{t:Bool->Bool->Bool}{v r:Nat}{fv:zV}{LB:Hp}(hLq:Lx kp K0 S0 U ord ah bq bm t v fv LB)(ht:∀a,t a a=a)(hv:v<K0.n)(kY:WF K0.n (lv ah) K0.N)(oY:Interp K0.N S0)(jK:jY K0.n (lv ah))(mQ:aA.Ord K0.n (lv ah) ord)(hf:∀s,K0.hold s=65535->live K0.N s)
 {K:Kd}{S:Nat->aA.Fn}{made:zL}{es:Array MapEntry}{ck:Nat}{C:Hp}(hr:live K0.N r)(hS:xU kp K0 S0 U ord ah K S made es ck C true)(hU:∀g,aG K0.n ord (λg=>g=QF t v (S0 r)) g->U g):
  Fc zQ 258 #[ptr bq,u32 r,iv (v:Int),fv] (LB++tY bq kp bm true es ck C) (Wm kp K0 S0 U ord ah bq bm LB K S made (QF t v (S0 r))):=by
 have fN:aT zQ 325=true:=by kernel_rfl
 have af1:=hLq;obtain⟨f0,agk,alp,Ro,_⟩:=af1;have hn:=hS.cV.n;refine aF λg=>Ir ?_;intro b1 _ b3 _;refine Ld.q ?_;refine Ld.n ?_;refine aa.rq (lK hS.ks.rep (v:Int)) ?_;rw[xae zO];rintro w rfl;apply Ext.two;intro jd _;refine St.one (by exact .head _) rfl zI rfl ?_;intro bd _ l8 _;refine St.one (by exact .head _) rfl zI rfl ?_;intro y8 _;refine St.one (by exact .head _) rfl zI rfl ?_;refine Ld.q ?_;refine aL.of rfl fN ?_;subst Ro;refine aa.fq (args:=#[u32 r,ptr b1,ptr jd,ptr l8,ptr b3,ptr y8]) (Sd (b1:=b1) (b3:=b3) (jd:=jd) (l8:=l8) (y8:=y8) (bd:=bd) fN hLq ht hv kY oY jK mQ hf _ r rfl K S made es ck C true #[] 0 hr hS ⟨[],aE.empty,λ_ y hy=>by cases hy⟩ hU) ?_;rintro w H ⟨x,K',S',made',es',bB,C',nk,Zk,Zm,rfl,rfl,FJ,_,hA,ho⟩;exact aN.mk (.skip (.skip (.skip (.skip (.skip .tail))))) ⟨x,K',S',made',es',bB,C',nk,rfl,rfl,FJ,hA,λh=>(ho h).2⟩
abbrev SH(b5:Nat)(b:Bool):Nat×Obj:=(b5,.cells #[.bool b] 4 (0,0))
theorem EI{v b5:Nat}{b:Bool}{LB:Hp}(kY:WF K0.n (lv ah) K0.N)(oY:Interp K0.N S0)(jK:jY K0.n (lv ah))(hm:SH b5 b∈LB):Lx kp K0 S0 U ord ah bq bm (λx y=>if b then y else x) v (.func (.func 259) #[] #[ptr b5]) LB:=by
 refine⟨_,_,_,rfl,by kernel_rfl,λr d hd kX K S made es ck C hS hU=>?_⟩;have hr:live K0.N r:=.inr ⟨d,hd⟩;have Rw:=kY.var hd;obtain⟨g1,g2,g3⟩:=gi (S:=S0) kY jK oY hr Rw (by rw[aq hd];exact xaj _) false;obtain⟨t1,t2,t3⟩:=gi (S:=S0) kY jK oY hr Rw (by rw[aq hd];exact xaj _) true;obtain⟨q1,q2⟩:=kH (N:=K0.N) hd;rw[q1]at g1 g2 g3;rw[q2]at t1 t2 t3;subst kX;refine aF λg=>Iq ?_;intro b1 _;refine Ld.mk (v:=.bool b) (by exact .tail _ (xad _ hm)) rfl ?_;refine Br.mk (λhb=>?_) (λhb=>?_)
 ·subst hb;refine Ld.f ?_;refine aN.mk .tail ⟨d.hi,K,S,made,es,ck,C,true,rfl,rfl,hS,.refl,λ_=>⟨?_,.inl t2⟩⟩;rw[hS.cV.fn _ t2];exact funext t1
 subst hb;refine Ld.f ?_;refine aN.mk .tail ⟨d.lo,K,S,made,es,ck,C,true,rfl,rfl,hS,.refl,λ_=>⟨?_,.inl g2⟩⟩;rw[hS.cV.fn _ g2];exact funext g1
theorem DF{v b1 b5:Nat}{e:Bool}{LB:Hp}(kY:WF K0.n (lv ah) K0.N)(oY:Interp K0.N S0)(jK:jY K0.n (lv ah))(mQ:aA.Ord K0.n (lv ah) ord)(hf:∀s,K0.hold s=65535->live K0.N s)(hm:SH b5 e∈LB)(h1:(b1,Obj.cells #[ptr bq] 313 (0,0))∈LB):
  Lx kp K0 S0 U ord ah bq bm (λx y=>if e then x||y else x&&y) v (.func (.func 329) #[] #[ptr b1,ptr b5]) LB:=by
 refine⟨_,_,_,rfl,by kernel_rfl,λr d hd kX K S made es ck C hS hU=>?_⟩;have hr:live K0.N r:=.inr ⟨d,hd⟩;have Rw:=kY.var hd;obtain⟨g1,g2,g3⟩:=gi (S:=S0) kY jK oY hr Rw (by rw[aq hd];exact xaj _) false;obtain⟨t1,t2,t3⟩:=gi (S:=S0) kY jK oY hr Rw (by rw[aq hd];exact xaj _) true;obtain⟨q1,q2⟩:=kH (N:=K0.N) hd;rw[q1]at g1 g2 g3;rw[q2]at t1 t2 t3;subst kX;have eq:QF (λx y=>if e then x||y else x&&y) d.v (S0 r)=jf e S0 d.lo d.hi:=by
  funext x
  rw[r8,g1,t1];rfl
 rw[eq]at hU⊢;refine aF λg=>Hr ?_;intro b _;refine Ld.mk (v:=ptr bq) (by exact .tail _ (xad _ h1)) rfl ?_;refine Ld.f ?_;refine Ld.f ?_;refine Ld.mk (v:=.bool e) (by exact .tail _ (xad _ hm)) rfl ?_;refine aa.fq (args:=#[ptr bq,u32 d.lo,u32 d.hi,.bool e]) (C:=tY bq kp bm true es ck C) (UZ kY oY jK mQ hf g2 t2 hS hU) ?_;rintro w H ⟨x,K',S',made',es',bB,C',nk,rfl,rfl,FJ,hA,ho⟩;exact aN.mk .tail ⟨x,K',S',made',es',bB,C',nk,rfl,rfl,FJ,hA,ho⟩
end
section
variable {kp:Nat} {K:Kd} {S:Nat->aA.Fn} {ord ah tr:zL} {C:Hp}
abbrev rHp(b5 b3 b1:Nat)(b:Bool)(v r:Nat):Hp:=[SH b5 b,(b3,.cells #[iv (v:Int)] 3 (0,0)),(b1,.cells #[u32 r] 110 (0,0))]
theorem oe.three{LB:Hp}{f:aA.Fn}{w:zV}{H:Hp}(h:oe kp K S ord ah LB f w H):∃x b e,w=.tuple #[x,b,e]:=by
 rcases h with⟨x,K',S',C',rfl,_⟩|⟨rfl,_⟩
 ·exact⟨_,_,_,rfl⟩
 exact⟨_,_,_,rfl⟩
theorem oe.drop{LB:Hp}{f:aA.Fn}{w:zV}{H:Hp}(h:oe kp K S ord ah LB f w H):∃C',aM H C'/\oe kp K S ord ah [] f w C':=by
 rcases h with⟨x,K',S',C',rfl,rfl,dh,hg⟩|⟨rfl,⟨K',S',C',rfl,dh,hk⟩,hn⟩
 ·exact⟨C',.right,.inl ⟨x,K',S',C',rfl,rfl,dh,hg⟩⟩
 exact⟨C',.right,.inr ⟨rfl,⟨K',S',C',rfl,dh,hk⟩,hn⟩⟩
theorem kM.Pn{LB:Hp}{f:aA.Fn}{w:zV}{H:Hp}(h:kM kp K S ord ah LB f w H):∃x y z,w=.tuple #[x,y,z]:=by
 rcases h with h|⟨x,rfl,_⟩
 ·exact h.three
 exact⟨_,_,_,rfl⟩
theorem aN.Xm{LB:Hp}{f:aA.Fn}{w:zV}{H:Hp}(h:kM kp K S ord ah LB f w H):aN (kM kp K S ord ah [] f) (.returned w) H:=by
 rcases h with h|⟨x,rfl,⟨K',S',C',rfl,dh,hk⟩,h2⟩
 ·obtain⟨C',h1,h2⟩:=h.drop;exact aN.mk h1 (.inl h2)
 exact aN.mk .right (.inr ⟨x,rfl,⟨K',S',C',rfl,dh,hk⟩,h2⟩)
theorem kQ(hK:cc kp K S ord ah tr C){r v:Nat}{b:Bool}(hr:live K.N r)(hv:v<K.n):
  Fc zQ 183 #[ptr kp,u32 r,iv (v:Int),.bool b] C (kM kp K S ord ah [] (λx=>S r (an.aB x v b))):=by
 have eq:QF (λx y=>if b then y else x) v (S r)=λx=>S r (an.aB x v b):=by
  funext x;unfold QF;cases b<;>rfl
 rw[<-eq];refine aF λg=>Ja ?_;intro b1 _ b3 _ b5 _;refine aa.fq (args:=#[ptr kp,.func (.func 257) #[] #[ptr b1,ptr b3,ptr b5]]) (C:=rHp b5 b3 b1 b v r++C) (Kq (f:=QF (λx y=>if b then y else x) v (S r)) hK λK1 C1 eV mo=>⟨_,_,_,rfl,by kernel_rfl,λbq bm hQ=>?_⟩) ?_
 ·intro g;refine Is (R:=aN _) ?_;unfold L257;refine Ld.q ?_;refine Ld.q ?_;have Q2:live K1.N r:=by rw[mo.N];exact hr
  refine aa.fq (args:=#[ptr bq,u32 r,iv (v:Int),.func (.func 259) #[] #[ptr b5]]) (C:=rHp b5 b3 b1 b v r++tY bq kp bm true #[] 0 C1)
   (Lb (EI eV.ok.wf eV.ok.mid.int eV.ok.lv (b:=b) (.head _)) (λa=>by cases b<;>rfl) (by rw[mo.n];exact hv) eV.ok.wf eV.ok.mid.int eV.ok.lv eV.od (λs hs=>.inr (eV.ok.mid.held s zO)) Q2 hQ (λg hg=>by rw[mo.n]at hg;exact cK (λg h=>.inr h) hg)) ?_
  intro w H hO;exact aN.here hO
 intro w H hO;obtain⟨x,bb,e,rfl⟩:=hO.Pn;exact Ext.mk rfl (Ext.mk rfl (Ext.mk rfl (aN.Xm hO)))
def qf(e:Bool)(v:Nat)(f:aA.Fn):aA.Fn:=QF (λx y=>if e then x||y else x&&y) v f
theorem xA(hK:cc kp K S ord ah tr C){r v:Nat}{e:Bool}(hr:live K.N r)(hv:v<K.n):
  Fc zQ 260 #[ptr kp,u32 r,iv (v:Int),.bool e] C (kM kp K S ord ah [] (qf e v (S r))):=by
 refine aF λg=>Ip ?_;intro b1 _ b3 _ b5 _;refine aa.fq (args:=#[ptr kp,.func (.func 328) #[] #[ptr b1,ptr b3,ptr b5]]) (C:=rHp b5 b3 b1 e v r++C) (Kq (f:=qf e v (S r)) hK λK1 C1 eV mo=>⟨_,_,_,rfl,by kernel_rfl,λbq bm hQ=>?_⟩) ?_
 ·intro g;refine Hs (R:=aN _) ?_;unfold L328;intro b2 _;refine Ld.q ?_;refine Ld.q ?_;refine Ld.q ?_;have Q2:live K1.N r:=by rw[mo.N];exact hr
  have hf1:∀s,K1.hold s=65535->live K1.N s:=λs hs=>.inr (eV.ok.mid.held s zO);refine aa.fq (args:=#[ptr bq,u32 r,iv (v:Int),.func (.func 329) #[] #[ptr b2,ptr b5]]) (C:=((b2,Obj.cells #[ptr bq] 313 (0,0))::rHp b5 b3 b1 e v r)++tY bq kp bm true #[] 0 C1)
   (Lb (DF eV.ok.wf eV.ok.mid.int eV.ok.lv eV.od hf1 (e:=e) (.tail _ (.head _)) (.head _)) (λa=>by cases e<;>cases a<;>rfl) (by rw[mo.n];exact hv) eV.ok.wf eV.ok.mid.int eV.ok.lv eV.od hf1 Q2 hQ (λg hg=>by rw[mo.n]at hg;exact cK (λg h=>.inr h) hg)) ?_
  rintro w H ⟨x,K',S',made',es',bB,C',nk,rfl,rfl,FJ,hA,ho⟩;exact aN.mk .tail ⟨x,K',S',made',es',bB,C',nk,rfl,rfl,FJ,hA,ho⟩
 intro w H hO;obtain⟨x,bb,e,rfl⟩:=hO.Pn;exact Ext.mk rfl (Ext.mk rfl (Ext.mk rfl (aN.Xm hO)))
end
end
end Go.Proofs
namespace Go.Sx
open Go
section
variable {P:Program} {g:Gh} {H:Hp}
def FcD(P:Program)(f:FuncId)(args:Array zV)(C:Hp)(Q:zV->Hp->Prop):Prop:=∀g,kL P g f args C (aN Q)
theorem j3.fn{f:FuncId}{args:Array zV}{C H:Hp}{c:Hp->Hp}{Q:zV->Hp->Prop}{K:Hp->Prop}(hh:bG C H c)(hc:FcD P f args C Q)(hk:∀v C',Q v C'->K (c C')):j3 P g f args H K:=by
 intro w hw u;obtain⟨rfl,F,hp⟩:=hh.spec;have eL:Own g (C++F) w:=aM.perm (hp C) g w hw;refine((hc (g.add F)) w (Own.fm.1 eL) u).mono ?_;rintro e u' w' ⟨rfl,H',ho,v,C',rfl,he,hq⟩;have h1:Own g (H'++F) w':=Own.fm.2 ho;have h2:Own g (c H') w':=aM.perm (hp H').symm g w' h1;exact⟨rfl,c C',hh.dG he g w' h2,⟨v,rfl⟩,hk _ _ hq⟩
end
end Go.Sx
set_option maxRecDepth 100000
namespace Go.Proofs
open Go Go.Sx
section
open aA
section
variable {kp:Nat} {K:Kd} {ord ah tr:zL} {C:Hp} {S:Nat->aA.Fn}
theorem Nm(h:cc kp K S ord ah tr C){r:Nat}(hr:r<4294967296)(hh:2<=r->K.hold r≠0):∀g,L142 g (ptr kp) (u32 r) C (aN λv C'=>v=iv 0/\∃K',cc kp K' S ord ah [] C'/\zw K K' r):=by
 have h0:=h;obtain⟨b,hC,hO⟩:=h.rep;intro g;unfold L142;refine ae.aD (Br.no ?_);intro J2 Bg;have fin:∀(K':Kd) C1,cT kp K' ord ah tr C1->Ok K' S (lv ah)->Idle K'->zw K K' r->J2 [] C1:=λK' C1 dh Au vL hm=>by
  refine Bg _ λgs=>?_;obtain⟨b',rfl,xL⟩:=dh;refine Nil.ptr (ai.mk (St.one (by exact .head _) rfl (by simp[tV.cells]) rfl ?_));have mQ:Ord K'.n (lv ah) ord:=by rw[hm.n];exact h.od
  refine aN.mk (nv:=({b' with vt:=.slice none 0 0,CR:=[]}:tV).hp kp K'.n) ?_ ⟨rfl,K',⟨⟨{b' with vt:=.slice none 0 0,CR:=[]},rfl,{xL with tr:=aQ.nil}⟩,Au,mQ,vL,trivial⟩,hm⟩;refine .cons (.cW (.cW (.cW (.cW (.cW (.cW .nil _) _) _) _) _) _)
 refine ae.m9 (b:=1) (Br.dec (λh2=>?_) (λh2=>?_));rotate_left
 ·exact JE.mk (fin K C h.rep h.ok h.idle ⟨rfl,rfl,λ_ _ h=>h,λs=>by rw[xab zO]⟩)
 have oM:2<=r:=by omega
 have po:=hh oM;obtain⟨d,hd⟩:=h.ok.mid.held r po;have hfu:=h.ok.mid.fit hd;have MS:=hO.ul;have hfit:r<K.ho.length:=by omega
 have hle:=h.gg r;refine aa.eq (vA h.rep hr (λs=>by have:=h.gg s;omega)) (ae.gU (Br.F ?_));subst hC;refine Nil.ptr (ai.mk (Ld.f ?_));refine hO.ho.ld (x:=((K.hold r:Nat):Int)) (bH hfit) (bG.sub (.cons (.app (.app (.app .left))))) ?_;refine ae.bY (b:=1) (hO.ho.nj (x:=((K.hold r-1:Nat):Int)) (.cons (.app (.app (.app .left)))) (by rw[ak];exact hfit) λTd YK=>?_);rw[fj]at YK;have g1:∀s,(K.ho.set r (K.hold r-1)).getD s 0=if s=r then K.hold r-1 else K.hold s:=λs=>gQ hfit
 have hM:=h.ok.mid.drop (r:=r) (cC:=K.ho.set r (K.hold r-1)) zO zI (by rw[g1,xae rfl];omega) (λs hs=>by rw[g1,xab hs]);have eV:cT kp {K with ho:=K.ho.set r (K.hold r-1)} ord ah tr (({b with CH:=Td}:tV).hp kp K.n):=⟨_,rfl,{hO with ho:=YK,ul:=by simp;exact MS}⟩;have hho:∀s,(K.ho.set r (K.hold r-1)).getD s 0=if s=r/\2<=r then K.hold s-1 else K.hold s:=λs=>by
  rw[g1];by_cases e:s=r
  ·subst e;rw[xae rfl,xae ⟨rfl,oM⟩]
  rw[xab e,xab (λh=>e h.1)]
 refine Nil.ptr (ai.mk (Ld.f ?_));refine YK.ld (x:=((K.hold r-1:Nat):Int)) (by rw[bH (by simpa using hfit),g1,xae rfl]) (bG.sub (.cons (.app (.app (.app .left))))) ?_;refine ae.eO (b:=0) (Br.dec (λh3=>?_) (λh3=>?_));rotate_left
 ·rw[xab zO]at hM;exact JE.mk (fin {K with ho:=K.ho.set r (K.hold r-1)} _ eV ⟨hM,h.ok.pos,h.ok.lv,h.ok.wf⟩ h.idle ⟨rfl,rfl,λ_ _ h=>h,hho⟩)
 rw[xae zO]at hM;refine Nil.ptr (ai.mk ?_);have KT:jM {K with ho:=K.ho.set r (K.hold r-1)} S iO (gV zero' [r]):=hM.congr (λ_=>xcT) λs _=>by
  unfold up gV zero';by_cases e:s=r
  ·subst e;simp
  simp[e,xa8 e]
 refine aa.fq (mD (P0:=zero') eV KT h.ok.pos (λt RV h0=>?_) (h.bK (.inr ⟨d,hd⟩)) (λs=>by have:=h.Et s;show K.use s<_;omega)) ?_
 ·by_cases e:t=r
  ·subst e;exact⟨d,hd⟩
  have h0':0<zero' t+[r].count t:=h0;simp[zero',xa8 e]at h0'
 rintro w C2 ⟨rfl,K2,dk,VE,Tj,_,dW⟩;refine JE.mk (fin K2 _ dk ⟨VE,Tj,by rw[dW.n];exact h.ok.lv,KF h.ok.wf VE (λh=>dW.N h) dW.n⟩ (dW.idle h.idle) ⟨dW.n,dW.cap,λs e hs=>dW.N hs,λs=>?_⟩);show K2.ho.getD s 0=_;rw[dW.ho];exact hho s
theorem iV(h:cc kp K S ord ah tr C){r:Nat}(hr:r<4294967296)(hh:2<=r->K.hold r≠0):FcD zQ 142 #[ptr kp,u32 r] C (λv C'=>v=iv 0/\∃K',cc kp K' S ord ah [] C'/\zw K K' r):=
 λg=>D0 (Nm h hr hh g)
end
end
section
open aA
section
variable {kp:Nat} {K:Kd} {S:Nat->aA.Fn} {ord ah tr:zL} {C:Hp}
theorem tW(B:Hp)(x:Nat):Rd zQ 182 #[u32 x,.bool true,iv 0] B (· =.tuple #[u32 x,iv 0]):=by
 refine aF λg=>qg ?_;exact ae.cG (Br.F (Un.not (Br.no (bc.mk (.refl _) rfl))))
theorem tX(B:Hp)(x:zV)(b:zV):Rd zQ 182 #[x,b,iv 9] B (· =.tuple #[u32 0,iv 9]):=by
 refine aF λg=>qg ?_;exact ae.cG (Br.T (bc.mk (.refl _) rfl))
theorem oq(B:Hp)(x:Nat):Rd zQ 182 #[u32 x,.bool false,iv 0] B (· =.tuple #[u32 0,iv 8]):=by
 refine aF λg=>qg ?_;exact ae.cG (Br.F (Un.not (Br.yes (bc.mk (.refl _) rfl))))
theorem x9(hK:cc kp K S ord ah tr C){v:Nat}(hv:v<K.n):Rd zQ 180 #[ptr kp,iv (v:Int)] C (· =.tuple #[.int .u64 ((2^v:Nat):Int),.bool true]):=by
 have hn:=hK.aZ.lq;refine aF λg=>Jc ?_;intro J hJ;refine ae.lss ?_;rw[xal zO];refine Split.go rfl (ae.Ac (Split.go rfl (aa.eq (gM hK.rep) (ae.rI ?_))));rw[xal zO];refine aI.mk (aI.mk (JE.mk (hJ _ _ λgs=>Br.no ?_)));have h2:2^v<18446744073709551616:=xaQ (xbx zD (show v<64 by omega)) zD;refine ae.BI (a:=1) (by simp[IntKind.bits];omega) (by rw[xa5];simpa[bF]using h2) ?_;rw[xa5];exact bc.mk (.refl _) rfl
theorem rW(hK:cc kp K S ord ah tr C){Y:Hp}{mask:Nat}{vr:zV}{refs:zL}(hm:mask<2^K.n)(hr:dA .u32 Y vr (iw refs))(hl:∀r∈refs,live K.N r)(cA:refs.length<=1048576):Rd zQ 181 #[ptr kp,.int .u64 (mask:Int),vr] (Y++C) (· =iv 0):=by
 have hn:=hK.aZ.lq;refine aF λg=>Jb ?_;refine ae.aD (Br.no (aa.eq (gM hK.rep) ?_));have KW:mask<18446744073709551616:=xaQ hm (xaz (n:=2) zD hn);refine ae.iL (by simpa[bF]using KW) ?_;rw[xaZ,xdr hm];refine ae.cG (Br.F (hr.bP ?_));rw[ak];refine⟨λvs H=>∃i:Nat,vs=[iv (i:Int)]/\i<=refs.length/\H=Y++C,λvs _=>refs.length-bL vs 0,JE.mk ⟨0,rfl,xaO _,rfl⟩,?_⟩;rintro w7 H ⟨i,⟨⟩,hi,rfl⟩ gs;refine ae.fi (Br.dec (λhlt=>?_) (λhlt=>?_))
 ·have hlr:=hl _ (xaG hlt);refine hr.ld (n:=((refs[i]:Nat):Int)) (dg (xaa hlt)) (λ_ h=>xad _ h) ?_;refine aa.eq (args:=#[ptr kp,u32 refs[i]]) (iS hK.rep (by have:=hK.bK hlr;omega)) ?_;rw[bX.2 hlr];apply Ext.two;intro b15 _;refine St.whole (r:=got K.N refs[i]) (by exact .head _) rfl (aR _ _).1 (aR _ _).2 ?_;exact ae.cG (Br.F (ae.inc (aC.of .tail ⟨i+1,rfl,hlt,rfl⟩ (by simp only[bL];omega))))
 exact bc.mk (.refl _) rfl
theorem oe.done{f:aA.Fn}{w:zV}{H:Hp}(h:oe kp K S ord ah [] f w H):(∃x,w=.tuple #[u32 x,.bool true,iv 0]/\ZH kp K S ord ah tr f (.tuple #[u32 x,iv 0]) H)\/(w=.tuple #[u32 0,.bool false,iv 9]/\ZH kp K S ord ah tr f (.tuple #[u32 0,iv 9]) H):=by
 rcases h with⟨x,K',S',C',rfl,rfl,dh,hg⟩|⟨rfl,⟨K',S',C',rfl,dh,hk⟩,hn⟩
 ·exact .inl ⟨x,rfl,.inl ⟨x,K',S',rfl,dh,hg⟩⟩
 exact .inr ⟨rfl,.inr ⟨rfl,⟨K',S',[],dh,.inl rfl,hk⟩,hn⟩⟩
theorem qM{n v:Nat}(hv:v<n):2^v<2^n:=xbx zD hv
theorem uT(hK:cc kp K S ord ah tr C){r v:Nat}{b:Bool}(hr:live K.N r)(hv:v<K.n):
  Fc zQ 127 #[ptr kp,u32 r,iv (v:Int),.bool b] C (jZ kp K S ord ah tr (λx=>S r (an.aB x v b))):=by
 refine aF λg=>JC ?_;refine aa.eq (x9 hK hv) (Ext.two (ae.Ac (cf.and (a:=true) false (λ_=>Un.not ⟨rfl,rfl⟩) rfl λgs=>Br.no ?_)));refine av.int (e:=110) zK zK zK λbs=>?_;refine aa.eq (args:=#[ptr kp,.int .u64 ((2^v:Nat):Int),.slice (some ⟨bs,0,none⟩) 1 1]) (rW (Y:=[(bs,Obj.cells (ax .u32 [(r:Int)]) 110 (0,0))]) (refs:=[r]) hK (qM hv) ((aQ.made (T:=110) (kd:=.u32) (b:=bs) (iw [r])).ints) (λs hs=>by simp at hs;subst hs;exact hr) (by show 1<=1048576;omega)) (ae.cG (Br.F ?_));refine aa.fq (args:=#[ptr kp,u32 r,iv (v:Int),.bool b]) (kQ hK hr hv) ?_;rintro w H (hO|⟨x,rfl,⟨K',S',C',rfl,dh,hk⟩,h2,Z4,VA⟩);rotate_left
 ·exact Ext.mk rfl (Ext.mk rfl (Ext.mk rfl (aa.eq (oq _ x) (Ext.mk rfl (Ext.mk rfl (aN.mk .tail (.inr ⟨rfl,⟨K',S',[],dh,.inl rfl,hk⟩,x,h2,Z4,VA⟩)))))))
 rcases hO.done (tr:=tr)with⟨x,rfl,hD⟩|⟨rfl,hD⟩
 ·exact Ext.mk rfl (Ext.mk rfl (Ext.mk rfl (aa.eq (tW _ x) (Ext.mk rfl (Ext.mk rfl (aN.mk .tail (.inl hD)))))))
 exact Ext.mk rfl (Ext.mk rfl (Ext.mk rfl (aa.eq (tX _ _ _) (Ext.mk rfl (Ext.mk rfl (aN.mk .tail (.inl hD)))))))
end
theorem Fits.mono{A B:aA.Fn->Prop}{cap:Nat}(h:∀g,A g->B g)(hB:Fits B cap):Fits A cap:=by
 classical
 obtain⟨ku,⟨l,h1,h2,h3⟩,hc⟩:=hB;refine⟨(l.filter λg=>decide (A g)).length,⟨l.filter λg=>decide (A g),h1.filter _,rfl,λg=>?_⟩,?_⟩
 ·rw[xbS,xaA,<-h3];exact⟨λx=>⟨h g x,x⟩,λx=>x.2⟩
 have:=xbZ (λg=>decide (A g)) l;omega
def bitsOf(mask n:Nat):zL:=(List.range n).filter λi=>mask.testBit i
theorem tj(mask n:Nat):bitsOf mask (n+1)=bitsOf mask n++if mask.testBit n then [n]else []:=by
 unfold bitsOf;rw[xcl,xb4,xbk,List.filter_nil]
def tG(e:Bool)(vs:zL)(f:aA.Fn):aA.Fn:=vs.foldl (λg v=>qf e v g) f
theorem P6(e:Bool)(vs:zL)(v:Nat)(f:aA.Fn):tG e (vs++[v]) f=qf e v (tG e vs f):=by
 unfold tG;rw[xdm];rfl
section
variable {kp:Nat} {K:Kd} {S:Nat->aA.Fn} {ord ah tr:zL} {C:Hp}
def A2(kp:Nat)(K:Kd)(S:Nat->aA.Fn)(ord ah tr:zL)(e:Bool)(mask r:Nat)(w:zV)(H:Hp):Prop:=
 (∃x K' S',w=.tuple #[u32 x,iv 0]/\cc kp K' S' ord ah [] H/\kO K S K' S' (tG e (bitsOf mask K.n) (S r)) x)\/
 (w=.tuple #[u32 0,iv 9]/\(∃K' S' de,cc kp K' S' ord ah de H/\(de=[]\/de=tr)/\Kept K S K' S')/\∃i,i<K.n/\mask.testBit i=true/\¬Fits (aG K.n ord (λg=>(K.held S g\/(bitsOf mask i≠[]/\g=tG e (bitsOf mask i) (S r)))\/g=qf e i (tG e (bitsOf mask i) (S r)))) K.cap)
def mg(kp:Nat)(K:Kd)(S:Nat->aA.Fn)(ord ah tr:zL)(e:Bool)(mask r:Nat)(w:zV)(H:Hp):Prop:=
 A2 kp K S ord ah tr e mask r w H\/(w=.tuple #[u32 0,iv 8]/\(∃K' S' de,cc kp K' S' ord ah de H/\(de=[]\/de=tr)/\Kept K S K' S')/\
  ((mask=0/\2<=r/\K.hold r=65535)\/∃i x,i<K.n/\mask.testBit i=true/\2<=x/\live K.N x/\S x=qf e i (tG e (bitsOf mask i) (S r))/\65534<=K.hold x/\((bitsOf mask i≠[]/\S x=tG e (bitsOf mask i) (S r))\/K.hold x=65535)))
structure Way(K:Kd)(S:Nat->aA.Fn)(K1:Kd)(S1:Nat->aA.Fn)(ch:Bool)(cur:Nat):Prop where
 n:K1.n=K.n
 cap:K1.cap=K.cap
 N:∀s d,K.N s=some d->K1.N s=some d
 fn:∀s,live K.N s->S1 s=S s
 live:live K1.N cur
 hold:∀s,K1.hold s=K.hold s+if ch=true/\s=cur/\2<=cur then 1 else 0
theorem yX(hK:cc kp K S ord ah tr C){r mask:Nat}{e:Bool}(hr:live K.N r)(hm:mask<2^K.n):
  Fc zQ 184 #[ptr kp,u32 r,.int .u64 (mask:Int),.bool e] C (mg kp K S ord ah tr e mask r):=by
 have hn:=hK.aZ.lq;have KW:mask<18446744073709551616:=xaQ hm (xaz (n:=2) zD hn);have qW:∀s,K.hold s≠0->live K.N s:=λs hs=>.inr (hK.ok.mid.held s hs);refine aF λg=>I9 ?_;refine av.int (e:=110) zK zK zK λbs=>?_;refine aa.eq (args:=#[ptr kp,.int .u64 (mask:Int),.slice (some ⟨bs,0,none⟩) 1 1]) (rW (Y:=[(bs,Obj.cells (ax .u32 [(r:Int)]) 110 (0,0))]) (refs:=[r]) hK hm ((aQ.made (T:=110) (kd:=.u32) (b:=bs) (iw [r])).ints) (λs hs=>by simp at hs;subst hs;exact hr) (by show 1<=1048576;omega)) (ae.cG (Br.F ?_));refine ae.eO (b:=0) (Br.dec (λh0=>?_) (λh0=>?_))
 ·subst h0;by_cases hfr:2<=r/\K.hold r=65535
  ·exact aa.eq (args:=#[ptr kp,u32 r]) (oJ hK hr hfr.1 hfr.2) (ae.cG (Br.T (aN.mk .tail (.inr ⟨rfl,⟨K,S,tr,hK,.inr rfl,.refl K S⟩,.inl ⟨rfl,hfr.1,hfr.2⟩⟩))))
  refine aa.fq (args:=#[ptr kp,u32 r]) (mM hK (r:=r) hr (λh2=>by have:=hK.gg r;omega)) ?_;rintro w C1 ⟨rfl,K1,eV,mo⟩;refine ae.cG (Br.F (aN.mk .tail (.inl (.inl ⟨r,K1,S,rfl,eV,mo.n,mo.cap,λs d hd=>by rw[mo.N];exact hd,λ_ _=>rfl,by rw[mo.N];exact hr,?_,λs=>by rw[mo.hold];split<;>omega⟩))));have:bitsOf 0 K.n=[]:=by unfold bitsOf;rw[xdk];intro a _;simp
  rw[this];rfl
 refine aa.eq (gM hK.rep) ?_;refine⟨λvs H=>∃(i cur:Nat) (ch:Bool) (K1:Kd) (S1:Nat->aA.Fn) (C1:Hp) (Wy:zL),vs=[u32 cur,.bool ch,iv (i:Int)]/\i<=K.n/\H=(bs,Obj.cells (ax .u32 [(r:Int)]) 110 (0,0))::C1/\cc kp K1 S1 ord ah Wy C1/\
   (ch=decide (bitsOf mask i≠[]))/\S1 cur=tG e (bitsOf mask i) (S r)/\Way K S K1 S1 ch cur/\(ch=true->Wy=[]),λvs _=>K.n-bL vs 2,
  JE.mk ⟨0,r,false,K,S,C,tr,rfl,xaO _,rfl,hK,rfl,rfl,⟨rfl,rfl,λ_ _ h=>h,λ_ _=>rfl,hr,λs=>by rw[xab (λh=>by cases h.1)];rfl⟩,λh=>by cases h⟩,?_⟩
 rintro w16 w17 w18 H ⟨i,cur,ch,K1,S1,C1,Wy,hvs,hi,rfl,eV,kG,lT,hw,eM⟩ gs;simp only[xau,xa0]at hvs;obtain⟨rfl,rfl,rfl⟩:=hvs;refine ae.fi (Br.dec (λhlt=>?_) (λhlt=>?_));rotate_left
 ·obtain rfl:i=K.n:=by omega
  have hne:bitsOf mask K.n≠[]:=λhb=>h0 (by
   apply xaX;intro j;rw[xcN];by_cases hj:j<K.n
   ·cases ht:mask.testBit j with
    |false=>rfl
    |true=>
     have:j∈bitsOf mask K.n:=xbS.2 ⟨xaM.2 hj,ht⟩;rw[hb]at this;cases this
   exact xb9 (xaQ hm (xaz zD zO)))
  have hct:ch=true:=by rw[kG];exact xam hne
  rw[eM hct]at eV;exact aN.mk .tail (.inl (.inl ⟨cur,K1,S1,rfl,eV,hw.n,hw.cap,hw.N,hw.fn,hw.live,lT,λs=>by rw[hw.hold];simp[hct]⟩))
 intro J hJ;refine ae.iL (by simpa[bF]using KW) (ae.jD (b:=1) (by have:mask>>>i<=mask:=xbl _ _;simp[bF];omega) (by simp[bF]) ?_);have M1:(mask>>>i) &&&1=(mask.testBit i).toNat:=by
  rw[xbP,xc7,xaZ];have:mask/2^i%2<2:=xbB _ zD;by_cases h:mask/2^i%2=1
  ·simp[h]
  have:mask/2^i%2=0:=by omega
  simp[this]
 rw[M1];refine ae.eO (b:=0) ?_;cases ht:mask.testBit i with
 |false=>
  refine Br.T (JE.mk (hJ _ _ _ λgs=>?_));refine ae.inc ?_;have eb:bitsOf mask (i+1)=bitsOf mask i:=by rw[tj,ht];simp
  exact aC.mk ⟨i+1,cur,ch,K1,S1,C1,Wy,rfl,hlt,rfl,eV,by rw[eb];exact kG,by rw[eb];exact lT,hw,eM⟩ (by simp only[bL];omega)
 |true=>
  refine Br.F ?_;have eb:bitsOf mask (i+1)=bitsOf mask i++[i]:=by rw[tj,ht];simp
  have hh1:∀s,K1.hold s≠0->live K1.N s:=λs hs=>.inr (eV.ok.mid.held s hs);refine aa.fq (args:=#[ptr kp,u32 cur,iv (i:Int),.bool e]) (xA eV hw.live (by rw[hw.n];exact hlt)) ?_;rintro w H ((⟨x,K2,S2,C2,rfl,rfl,dk,hg⟩|⟨rfl,⟨K2,S2,C2,rfl,dk,hk⟩,hno⟩)|⟨x,rfl,⟨K2,S2,C2,rfl,dk,hk⟩,O0,Z4,VA⟩)
  ·refine Ext.mk rfl (Ext.mk rfl (Ext.mk rfl (aa.eq (tW _ x) (Ext.two ?_))));intro ZE h38;have go:∀K3 C3,cc kp K3 S2 ord ah [] C3->Way K S K3 S2 true x->ZE [] ((bs,Obj.cells (ax .u32 [(r:Int)]) 110 (0,0))::C3):=λK3 C3 j8 U5=>by
    refine h38 _ λgs=>?_;refine ae.cG (Br.F (JE.mk (hJ _ _ _ λgs=>?_)));exact ae.inc (aC.mk ⟨i+1,x,true,K3,S2,C3,[],rfl,hlt,rfl,j8,by rw[eb];exact(xam zI).symm,by rw[hg.is,eb,P6,lT],U5,λ_=>rfl⟩ (by simp only[bL];omega))
   have fn2:∀s,live K.N s->S2 s=S s:=λs hs=>(hg.fn s (cu hw.N hs)).trans (hw.fn s hs);cases ch with
   |false=>
    refine Br.no (JE.mk (go K2 H dk ⟨hg.n.trans hw.n,hg.cap.trans hw.cap,λs d hd=>hg.N s d (hw.N s d hd),fn2,hg.live,λs=>?_⟩));have a:=hw.hold s;rw[xab (λh=>by cases h.1)]at a;rw[hg.hold,a];simp
   |true=>
    have hlc:=hw.live;have hcc:2<=cur->K2.hold cur≠0:=λh2=>by rw[hg.hold,hw.hold,xae ⟨rfl,rfl,h2⟩];omega
    refine Br.yes (aa.fq (args:=#[ptr kp,u32 cur]) (mU dk (r:=cur) (by have:=eV.bK hlc;omega) hcc) ?_);rintro w C3 ⟨rfl,K3,j8,f3⟩;have gE:∀s,K3.hold s=K.hold s+if s=x/\2<=x then 1 else 0:=λs=>by
     have a:=hw.hold s;simp only[xcs]at a;rw[f3.hold,hg.hold,a];split<;>split<;>omega
    refine JE.mk (go K3 C3 j8 ⟨by rw[f3.n,hg.n,hw.n],by rw[f3.cap,hg.cap,hw.cap],λs d hs=>jT hK.ok j8.ok (λs h=>by rw[gE];omega) (λs d d' h h'=>?_) _ s d hs (xaj _),fn2,?_,λs=>by rw[gE];simp⟩)
    ·have a:=f3.N s d' h';rw[hg.N s d (hw.N s d h)]at a;exact(xbm a).symm
    by_cases h2:x<2
    ·exact .inl h2
    refine .inr (j8.ok.mid.held x ?_);rw[gE,xae ⟨rfl,by omega⟩];omega
  ·refine Ext.mk rfl (Ext.mk rfl (Ext.mk rfl (aa.eq (tX _ _ _) (Ext.two ?_))));intro ZE h38;have tO:∀g,K1.held S1 g->K.held S g\/(bitsOf mask i≠[]/\g=tG e (bitsOf mask i) (S r)):=by
    rintro g ⟨s,hs,rfl⟩;have hs':K1.hold s≠0:=hs;by_cases hz:K.hold s=0
    ·right;rw[hw.hold,hz]at hs';by_cases hx:ch=true/\s=cur/\2<=cur
     ·refine⟨?_,by rw[hx.2.1];exact lT⟩;have:=hx.1;rw[kG]at this;exact xcd this
     rw[xab hx]at hs';omega
    exact .inl ⟨s,hz,hw.fn s (qW s hz)⟩
   have CK:¬Fits (aG K.n ord (λg=>(K.held S g\/(bitsOf mask i≠[]/\g=tG e (bitsOf mask i) (S r)))\/g=qf e i (tG e (bitsOf mask i) (S r)))) K.cap:=λhfit=>hno (by
    rw[hw.n,hw.cap,lT];exact Fits.mono (λg hg=>cK (λg h=>h.imp (tO g) id) hg) hfit)
   have go:∀K3 C3 Pj,cc kp K3 S2 ord ah Pj C3->Pj=[]->(∀s,K3.hold s=K.hold s)->K3.n=K2.n->K3.cap=K2.cap->ZE [] ((bs,Obj.cells (ax .u32 [(r:Int)]) 110 (0,0))::C3):=λK3 C3 Pj j8 Q0 Bc hn3 YR=>by
    refine h38 _ λgs=>?_;refine ae.cG (Br.T ?_);have hfn:∀s,K.hold s≠0->S2 s=S s:=λs hs=>(hk.fn s (by rw[hw.hold];omega)).trans (hw.fn s (qW s hs));refine aN.mk .tail (.inl (.inr ⟨rfl,⟨K3,S2,Pj,j8,.inl Q0,⟨by rw[hn3,hk.n,hw.n],by rw[YR,hk.cap,hw.cap],Bc,λg=>?_,hfn⟩⟩,i,hlt,ht,CK⟩));constructor
    ·rintro⟨s,hs,rfl⟩;have hs':K.hold s≠0:=by rw[<-Bc];exact hs
     exact⟨s,hs',hfn s hs'⟩
    rintro⟨s,hs,rfl⟩;exact⟨s,by show K3.hold s≠0;rw[Bc];exact hs,(hfn s hs).symm⟩
   cases ch with
   |false=>
    refine Br.no (JE.mk (go K2 H [] dk rfl (λs=>?_) rfl rfl));rw[hk.hold,hw.hold,xab (λh=>by cases h.1)];rfl
   |true=>
    have hcc:2<=cur->K2.hold cur≠0:=λh2=>by rw[hk.hold,hw.hold,xae ⟨rfl,rfl,h2⟩];omega
    refine Br.yes (aa.fq (args:=#[ptr kp,u32 cur]) (mU dk (r:=cur) (by have:=eV.bK hw.live;omega) hcc) ?_);rintro w C3 ⟨rfl,K3,j8,f3⟩;refine JE.mk (go K3 C3 [] j8 rfl (λs=>?_) f3.n f3.cap);have a:=hw.hold s;simp only[xcs]at a;rw[f3.hold,hk.hold,a];split<;>omega
  refine Ext.mk rfl (Ext.mk rfl (Ext.mk rfl (aa.eq (oq _ x) (Ext.two ?_))));intro ZE h38;have vK:live K.N x:=qW x (by have:=hw.hold x;split at this<;>omega);have RP:S x=qf e i (tG e (bitsOf mask i) (S r)):=by rw[<-lT,<-VA];exact(hw.fn x vK).symm
  have afn:65534<=K.hold x/\((bitsOf mask i≠[]/\S x=tG e (bitsOf mask i) (S r))\/K.hold x=65535):=by
   have:=hw.hold x;by_cases hx:ch=true/\x=cur/\2<=cur
   ·rw[xae hx]at this;refine⟨by omega,.inl ⟨?_,?_⟩⟩
    ·have h1:=hx.1;rw[kG]at h1;exact xcd h1
    rw[<-lT,<-hx.2.1];exact(hw.fn x vK).symm
   rw[xab hx]at this;exact⟨by omega,.inr zO⟩
  have go:∀K3 C3 Pj,cc kp K3 S2 ord ah Pj C3->Pj=[]->(∀s,K3.hold s=K.hold s)->K3.n=K2.n->K3.cap=K2.cap->ZE [] ((bs,Obj.cells (ax .u32 [(r:Int)]) 110 (0,0))::C3):=λK3 C3 Pj j8 Q0 Bc hn3 YR=>by
   refine h38 _ λgs=>?_;refine ae.cG (Br.T ?_);have hfn:∀s,K.hold s≠0->S2 s=S s:=λs hs=>(hk.fn s (by rw[hw.hold];omega)).trans (hw.fn s (qW s hs));refine aN.mk .tail (.inr ⟨rfl,⟨K3,S2,Pj,j8,.inl Q0,⟨by rw[hn3,hk.n,hw.n],by rw[YR,hk.cap,hw.cap],Bc,λg=>?_,hfn⟩⟩,.inr ⟨i,x,hlt,ht,O0,vK,RP,afn⟩⟩);constructor
   ·rintro⟨s,hs,rfl⟩;have hs':K.hold s≠0:=by rw[<-Bc];exact hs
    exact⟨s,hs',hfn s hs'⟩
   rintro⟨s,hs,rfl⟩;exact⟨s,by show K3.hold s≠0;rw[Bc];exact hs,(hfn s hs).symm⟩
  cases ch with
  |false=>
   refine Br.no (JE.mk (go K2 H [] dk rfl (λs=>?_) rfl rfl));rw[hk.hold,hw.hold,xab (λh=>by cases h.1)];rfl
  |true=>
   have hcc:2<=cur->K2.hold cur≠0:=λh2=>by rw[hk.hold,hw.hold,xae ⟨rfl,rfl,h2⟩];omega
   refine Br.yes (aa.fq (args:=#[ptr kp,u32 cur]) (mU dk (r:=cur) (by have:=eV.bK hw.live;omega) hcc) ?_);rintro w C3 ⟨rfl,K3,j8,f3⟩;refine JE.mk (go K3 C3 [] j8 rfl (λs=>?_) f3.n f3.cap);have a:=hw.hold s;simp only[xcs]at a;rw[f3.hold,hk.hold,a];split<;>omega
end
section
variable {kp:Nat} {K:Kd} {S:Nat->aA.Fn} {ord ah tr:zL} {C:Hp}
theorem A2.two{e:Bool}{mask r:Nat}{w:zV}{H:Hp}(h:A2 kp K S ord ah tr e mask r w H):∃x y,w=.tuple #[x,y]:=by
 rcases h with⟨x,K',S',rfl,_⟩|⟨rfl,_⟩
 ·exact⟨_,_,rfl⟩
 exact⟨_,_,rfl⟩
theorem mg.two{e:Bool}{mask r:Nat}{w:zV}{H:Hp}(h:mg kp K S ord ah tr e mask r w H):∃x y,w=.tuple #[x,y]:=by
 rcases h with h|⟨rfl,_⟩
 ·exact h.two
 exact⟨_,_,rfl⟩
theorem Dp(hK:cc kp K S ord ah tr C){r mask:Nat}(hr:live K.N r)(hm:mask<2^K.n):
  Fc zQ 128 #[ptr kp,u32 r,.int .u64 (mask:Int)] C (mg kp K S ord ah tr true mask r):=by
 refine aF λg=>JB ?_;refine aa.fq (yX hK hr hm) ?_;intro w H hO;obtain⟨x,y,rfl⟩:=hO.two;exact Ext.mk rfl (Ext.mk rfl (aN.here hO))
theorem Di(hK:cc kp K S ord ah tr C){r mask:Nat}(hr:live K.N r)(hm:mask<2^K.n):
  Fc zQ 129 #[ptr kp,u32 r,.int .u64 (mask:Int)] C (mg kp K S ord ah tr false mask r):=by
 refine aF λg=>JA ?_;refine aa.fq (yX hK hr hm) ?_;intro w H hO;obtain⟨x,y,rfl⟩:=hO.two;exact Ext.mk rfl (Ext.mk rfl (aN.here hO))
def Wu(kp:Nat)(K:Kd)(S:Nat->aA.Fn)(ord ah tr:zL)(lo hi f:aA.Fn)(w:zV)(H:Hp):Prop:=
 (∃x K' S',w=.tuple #[u32 x,iv 0]/\cc kp K' S' ord ah [] H/\kO K S K' S' f x)\/
 (w=.tuple #[u32 0,iv 9]/\(∃K' S' de,cc kp K' S' ord ah de H/\(de=[]\/de=tr)/\Kept K S K' S')/\
  (¬Fits (aG K.n ord (λg=>K.held S g\/g=lo)) K.cap\/¬Fits (aG K.n ord (λg=>(K.held S g\/g=lo)\/g=hi)) K.cap\/¬Fits (aG K.n ord (λg=>((K.held S g\/g=lo)\/g=hi)\/g=f)) K.cap))
def One(p:Prop)(a:Nat):Prop:=(a=1/\p)\/(a=0/\¬p)
def D2(kp:Nat)(K:Kd)(S:Nat->aA.Fn)(ord ah tr:zL)(lo hi f:aA.Fn)(w:zV)(H:Hp):Prop:=
 Wu kp K S ord ah tr lo hi f w H\/(w=.tuple #[u32 0,iv 8]/\(∃K' S' de,cc kp K' S' ord ah de H/\(de=[]\/de=tr)/\Kept K S K' S')/\
  ∃x,2<=x/\live K.N x/\((S x=lo/\K.hold x=65535)\/(∃a,One (S x=lo) a/\S x=hi/\K.hold x+a=65535)\/(∃a b,One (S x=lo) a/\One (S x=hi) b/\S x=f/\K.hold x+a+b=65535)))
theorem kO.one{K':Kd}{S':Nat->aA.Fn}{f:aA.Fn}{x:Nat}{de:zL}{C':Hp}(h:kO K S K' S' f x)(dh:cc kp K' S' ord ah de C'){s:Nat}(hs:aA.live K.N s)(h2:2<=s):∃a,One (S s=f) a/\K'.hold s=K.hold s+a:=by
 have hfn:=h.fn s hs;by_cases e:s=x
 ·exact⟨1,.inl ⟨rfl,by rw[<-hfn,e];exact h.is⟩,by rw[h.hold,xae ⟨e,by omega⟩]⟩
 refine⟨0,.inr ⟨rfl,λhf=>e ?_⟩,by rw[h.hold,xab (λh=>e h.1)]⟩;exact dh.ok.wf.same dh.ok.lv dh.ok.mid.int (cu h.N hs) h.live λy=>by rw[hfn,hf,h.is]
theorem Nu(hK:cc kp K S ord ah tr C){r v h:Nat}(hr:live K.N r)(hv:v<K.n)(hh:live K.N h):
  Fc zQ 130 #[ptr kp,u32 r,iv (v:Int),u32 h] C (D2 kp K S ord ah tr (λx=>S r (an.aB x v false)) (λx=>S r (an.aB x v true)) (λx=>if S h x then S r (an.aB x v true)else S r (an.aB x v false))):=by
 have ud:1<=2^K.n:=xef;have qW:∀s,K.hold s≠0->live K.N s:=λs hs=>.inr (hK.ok.mid.held s hs);refine aF λg=>Jz ?_;refine aa.eq (x9 hK hv) (Ext.two (ae.Ac (cf.and (a:=true) false (λ_=>Un.not ⟨rfl,rfl⟩) rfl λgs=>Br.no ?_)));refine av.QL (e:=110) zK zK zK λbs=>?_;refine aa.rq (args:=#[ptr kp,.int .u64 ((2^v:Nat):Int),.slice (some ⟨bs,0,none⟩) 2 2]) (rW (Y:=[(bs,Obj.cells (ax .u32 [(r:Int),(h:Int)]) 110 (0,0))]) (refs:=[r,h]) hK (qM hv) ((aQ.made (T:=110) (kd:=.u32) (b:=bs) (iw [r,h])).ints) (λs hs=>by
  simp only[xak,xaS,xby]at hs;rcases hs with rfl|rfl
  ·exact hr
  exact hh) (by show 2<=1048576;omega)) ?_
 rintro w rfl;refine ae.cG (Br.F (aa.fq (args:=#[ptr kp,u32 r,iv (v:Int),.bool false]) (kQ hK hr hv) ?_));rintro w H (hO|⟨x,rfl,⟨K1,S1,C1,rfl,eV,hk⟩,O0,Z4,VA⟩);rotate_left
 ·exact Ext.mk rfl (Ext.mk rfl (Ext.mk rfl (aa.eq (oq _ x) (Ext.two (ae.cG (Br.T (aN.mk .tail (.inr ⟨rfl,⟨K1,S1,[],eV,.inl rfl,hk⟩,x,O0,qW x zO,.inl ⟨VA,Z4⟩⟩))))))))
 rcases hO with⟨x1,K1,S1,C1,rfl,rfl,eV,g1⟩|⟨rfl,⟨K1,S1,C1,rfl,eV,hk⟩,hno⟩;rotate_left
 ·exact Ext.mk rfl (Ext.mk rfl (Ext.mk rfl (aa.eq (tX _ _ _) (Ext.two (ae.cG (Br.T (aN.mk .tail (.inl (.inr ⟨rfl,⟨K1,S1,[],eV,.inl rfl,hk⟩,.inl hno⟩)))))))))
 refine Ext.mk rfl (Ext.mk rfl (Ext.mk rfl (aa.eq (tW _ x1) (Ext.two (ae.cG (Br.F ?_))))));have Q2:=cu g1.N hr;have e1:S1 r=S r:=g1.fn r hr;have hh1:=cu g1.N hh;have l1:=g1.live;have fk:=g1.hold;have Rl:∀g,K1.held S1 g->K.held S g\/g=λx=>S r (an.aB x v false):=g1.held qW;refine aa.fq (args:=#[ptr kp,u32 r,iv (v:Int),.bool true]) (kQ eV Q2 (by rw[g1.n];exact hv)) ?_;intro w H hO;rw[e1]at hO;rcases hO with(⟨x2,K2,S2,C2,rfl,rfl,dk,g2⟩|⟨rfl,⟨K2,S2,C2,rfl,dk,hk⟩,hno⟩)|⟨x,rfl,⟨K2,S2,C2,rfl,dk,hk⟩,O0,Z4,VA⟩;rotate_left
 ·refine Ext.mk rfl (Ext.mk rfl (Ext.mk rfl (aa.eq (tX _ _ _) (Ext.two (ae.cG (Br.T (j3.fn (args:=#[ptr kp,u32 x1]) (.cons .here) (iV dk (r:=x1) (by have:=eV.bK l1;omega) (λh2=>by rw[hk.hold,fk,xae ⟨rfl,h2⟩];omega)) ?_)))))));rintro w C3 ⟨rfl,K3,j8,f3⟩;have Bc:∀s,K3.hold s=K.hold s:=λs=>by
   rw[f3.hold,hk.hold,fk];split<;>omega
  have hfn:∀s,K.hold s≠0->S2 s=S s:=λs hs=>(hk.fn s (by rw[fk];omega)).trans (g1.fn s (qW s hs));refine aN.mk .tail (.inl (.inr ⟨rfl,⟨K3,S2,[],j8,.inl rfl,⟨by rw[f3.n,hk.n,g1.n],by rw[f3.cap,hk.cap,g1.cap],Bc,λg=>?_,hfn⟩⟩,.inr (.inl λhfit=>hno ?_)⟩))
  ·constructor
   ·rintro⟨s,hs,rfl⟩;have hs':K.hold s≠0:=by rw[<-Bc];exact hs
    exact⟨s,hs',hfn s hs'⟩
   rintro⟨s,hs,rfl⟩;exact⟨s,by show K3.hold s≠0;rw[Bc];exact hs,(hfn s hs).symm⟩
  rw[g1.n,g1.cap];exact Fits.mono (λg hg=>cK (λg h=>h.imp (Rl g) id) hg) hfit
 ·refine Ext.mk rfl (Ext.mk rfl (Ext.mk rfl (aa.eq (oq _ x) (Ext.two (ae.cG (Br.T ?_))))));have vK:live K.N x:=qW x (by have:=fk x;split at this<;>omega);obtain⟨a,ha,hka⟩:=g1.one eV vK O0;have RP:S x=λx=>S r (an.aB x v true):=by rw[<-VA];exact(g1.fn x vK).symm
  refine j3.fn (args:=#[ptr kp,u32 x1]) (.cons .here) (iV dk (r:=x1) (by have:=eV.bK l1;omega) (λh2=>by rw[hk.hold,fk,xae ⟨rfl,h2⟩];omega)) ?_;rintro w C3 ⟨rfl,K3,j8,f3⟩;have Bc:∀s,K3.hold s=K.hold s:=λs=>by
   rw[f3.hold,hk.hold,fk];split<;>omega
  have hfn:∀s,K.hold s≠0->S2 s=S s:=λs hs=>(hk.fn s (by rw[fk];omega)).trans (g1.fn s (qW s hs));refine aN.mk .tail (.inr ⟨rfl,⟨K3,S2,[],j8,.inl rfl,⟨by rw[f3.n,hk.n,g1.n],by rw[f3.cap,hk.cap,g1.cap],Bc,λg=>?_,hfn⟩⟩,x,O0,vK,.inr (.inl ⟨a,ha,RP,by omega⟩)⟩);constructor
  ·rintro⟨s,hs,rfl⟩;have hs':K.hold s≠0:=by rw[<-Bc];exact hs
   exact⟨s,hs',hfn s hs'⟩
  rintro⟨s,hs,rfl⟩;exact⟨s,by show K3.hold s≠0;rw[Bc];exact hs,(hfn s hs).symm⟩
 refine Ext.mk rfl (Ext.mk rfl (Ext.mk rfl (aa.eq (tW _ x2) (Ext.two (ae.cG (Br.F ?_))))));have hh2:=cu g2.N hh1;have l12:=cu g2.N l1;have l2:=g2.live;have fT:=g2.hold;have aeX:∀s,K1.hold s≠0->live K1.N s:=λs hs=>.inr (eV.ok.mid.held s hs);have YL:∀g,K2.held S2 g->(K.held S g\/g=λx=>S r (an.aB x v false))\/g=λx=>S r (an.aB x v true):=λg hg=>(g2.held aeX g hg).imp (Rl g) id;have eh:S2 h=S h:=(g2.fn h hh1).trans (g1.fn h hh);have ex1:S2 x1=λx=>S r (an.aB x v false):=(g2.fn x1 l1).trans g1.is;have Vq:∀s,live K.N s->S2 s=S s:=λs hs=>(g2.fn s (cu g1.N hs)).trans (g1.fn s hs);refine aa.fq (args:=#[ptr kp,u32 h,u32 x2,u32 x1]) (ze dk hh2 l2 l12) ?_;intro w H hO;rw[eh,ex1,g2.is]at hO;rcases hO with(⟨x3,K3,S3,rfl,j8,g3⟩|⟨rfl,⟨K3,S3,Pj,j8,_,hk⟩,hno⟩)|⟨rfl,⟨K3,S3,Pj,j8,_,hk⟩,x,O0,Z4,VA⟩
 ·apply Ext.two;have gE:=g3.hold;refine j3.fn (args:=#[ptr kp,u32 x2]) (.cons .here) (iV j8 (r:=x2) (by have:=dk.bK l2;omega) (λh2=>by rw[gE,fT,xae ⟨rfl,h2⟩];omega)) ?_;rintro w C4 ⟨rfl,K4,M6,f4⟩;have m8:∀s,K4.hold s=K1.hold s+if s=x3/\2<=x3 then 1 else 0:=λs=>by
   rw[f4.hold,gE,fT];split<;>split<;>omega
  refine j3.fn (args:=#[ptr kp,u32 x1]) (.cons .here) (iV M6 (r:=x1) (by have:=eV.bK l1;omega) (λh2=>by rw[m8,fk,xae ⟨rfl,h2⟩];omega)) ?_;rintro w C5 ⟨rfl,K5,KU,f5⟩;have nS:∀s,K5.hold s=K.hold s+if s=x3/\2<=x3 then 1 else 0:=λs=>by
   rw[f5.hold,m8,fk];split<;>split<;>omega
  have vK:live K5.N x3:=by
   by_cases h2:x3<2
   ·exact .inl h2
   refine .inr (KU.ok.mid.held x3 ?_);rw[nS,xae ⟨rfl,by omega⟩];omega
  have afp:∀s,live K.N s->S3 s=S s:=λs hs=>(g3.fn s (cu g2.N (cu g1.N hs))).trans (Vq s hs);refine aN.mk .tail (.inl (.inl ⟨x3,K5,S3,rfl,KU,⟨by rw[f5.n,f4.n,g3.n,g2.n,g1.n],by rw[f5.cap,f4.cap,g3.cap,g2.cap,g1.cap],λs d hs=>jT hK.ok KU.ok (λs h=>by rw[nS];omega) (λs d d' h h'=>?_) _ s d hs (xaj _),afp,vK,g3.is,nS⟩⟩));have a:=f4.N s d' (f5.N s d' h');rw[g3.N s d (g2.N s d (g1.N s d h))]at a;exact(xbm a).symm
 ·apply Ext.two;have gE:=hk.hold;refine j3.fn (args:=#[ptr kp,u32 x2]) (.cons .here) (iV j8 (r:=x2) (by have:=dk.bK l2;omega) (λh2=>by rw[gE,fT,xae ⟨rfl,h2⟩];omega)) ?_;rintro w C4 ⟨rfl,K4,M6,f4⟩;have m8:∀s,K4.hold s=K1.hold s:=λs=>by
   rw[f4.hold,gE,fT];split<;>omega
  refine j3.fn (args:=#[ptr kp,u32 x1]) (.cons .here) (iV M6 (r:=x1) (by have:=eV.bK l1;omega) (λh2=>by rw[m8,fk,xae ⟨rfl,h2⟩];omega)) ?_;rintro w C5 ⟨rfl,K5,KU,f5⟩;have nS:∀s,K5.hold s=K.hold s:=λs=>by
   rw[f5.hold,m8,fk];split<;>omega
  have hfn:∀s,K.hold s≠0->S3 s=S s:=λs hs=>(hk.fn s (by rw[fT,fk];omega)).trans (Vq s (qW s hs));refine aN.mk .tail (.inl (.inr ⟨rfl,⟨K5,S3,[],KU,.inl rfl,⟨by rw[f5.n,f4.n,hk.n,g2.n,g1.n],by rw[f5.cap,f4.cap,hk.cap,g2.cap,g1.cap],nS,λg=>?_,hfn⟩⟩,.inr (.inr λhfit=>hno ?_)⟩))
  ·constructor
   ·rintro⟨s,hs,rfl⟩;have hs':K.hold s≠0:=by rw[<-nS];exact hs
    exact⟨s,hs',hfn s hs'⟩
   rintro⟨s,hs,rfl⟩;exact⟨s,by show K5.hold s≠0;rw[nS];exact hs,(hfn s hs).symm⟩
  rw[g2.n,g2.cap,g1.n,g1.cap];exact Fits.mono (λg hg=>cK (λg h=>h.imp (YL g) id) hg) hfit
 apply Ext.two;have gE:=hk.hold;have vK:live K.N x:=qW x (by have:=fT x;have:=fk x;split at* <;>split at* <;>omega);obtain⟨a,ha,hka⟩:=g1.one eV vK O0;obtain⟨b,hb,hkb⟩:=g2.one dk (cu g1.N vK) O0;rw[g1.fn x vK]at hb;have RP:S x=λx=>if S h x then S r (an.aB x v true)else S r (an.aB x v false):=by rw[<-VA];exact(Vq x vK).symm
 refine j3.fn (args:=#[ptr kp,u32 x2]) (.cons .here) (iV j8 (r:=x2) (by have:=dk.bK l2;omega) (λh2=>by rw[gE,fT,xae ⟨rfl,h2⟩];omega)) ?_;rintro w C4 ⟨rfl,K4,M6,f4⟩;have m8:∀s,K4.hold s=K1.hold s:=λs=>by
  rw[f4.hold,gE,fT];split<;>omega
 refine j3.fn (args:=#[ptr kp,u32 x1]) (.cons .here) (iV M6 (r:=x1) (by have:=eV.bK l1;omega) (λh2=>by rw[m8,fk,xae ⟨rfl,h2⟩];omega)) ?_;rintro w C5 ⟨rfl,K5,KU,f5⟩;have nS:∀s,K5.hold s=K.hold s:=λs=>by
  rw[f5.hold,m8,fk];split<;>omega
 have hfn:∀s,K.hold s≠0->S3 s=S s:=λs hs=>(hk.fn s (by rw[fT,fk];omega)).trans (Vq s (qW s hs));refine aN.mk .tail (.inr ⟨rfl,⟨K5,S3,[],KU,.inl rfl,⟨by rw[f5.n,f4.n,hk.n,g2.n,g1.n],by rw[f5.cap,f4.cap,hk.cap,g2.cap,g1.cap],nS,λg=>?_,hfn⟩⟩,x,O0,vK,.inr (.inr ⟨a,b,ha,hb,RP,by omega⟩)⟩);constructor
 ·rintro⟨s,hs,rfl⟩;have hs':K.hold s≠0:=by rw[<-nS];exact hs
  exact⟨s,hs',hfn s hs'⟩
 rintro⟨s,hs,rfl⟩;exact⟨s,by show K5.hold s≠0;rw[nS];exact hs,(hfn s hs).symm⟩
end
end
section
theorem Bo{n:Nat}(hn:n<=16)(B:Hp):Rd zQ 382 #[iv (n:Int)] B (· =iv ((an.wN n:Nat):Int)):=by
 refine aF λg=>GG ?_;have h1:1<<<n<=65536:=by rw[xa5];exact xaz (n:=2) zD hn
 refine ae.BI (a:=1) (b:=n) (by simp[IntKind.bits];omega) (by simp[bF];omega) (ae.iL (b:=6) (by simp[bF];omega) (⟨_,_,_,rfl,rfl,?_⟩));refine bc.mk (.refl _) ?_;have:1<<<n>>>6=2^n/64:=by rw[xa5,xaZ]
 rw[this];congr 1;unfold an.wN;rw[Nat.max_def];split<;>split<;>omega
theorem KX{n:Nat}(hn:n<=16)(B:Hp):Rd zQ 383 #[iv (n:Int)] B (· =.int .u64 ((an.dM n:Nat):Int)):=by
 refine aF λg=>GF ?_;refine ae.rI (a:=n) (b:=6) (Br.dec (λh=>?_) (λh=>?_))
 ·exact bc.mk (.refl _) (by unfold an.dM;rw[xae h];rfl)
 have h1:2^n<=32:=xaz (n:=2) zD (by omega:n<=5);have h2:2^2^n<=2^32:=xaz zD h1;have h3:=xbw (2^n);refine ae.nE (a:=1) (b:=n) ?_;rw[xa5,xbi zO];refine ae.nE (a:=1) ?_;rw[xa5,xbi zO];exact ae.bY (b:=1) (bc.mk (.refl _) (by unfold an.dM;rw[xab h]))
theorem ML{n:Nat}{ws:zL}(hn:n<=16)(hl:ws.length=an.wN n)(hw:∀w∈ws,w<18446744073709551616){w:Nat}(hg:ws[ws.length-1]? =some w):
  (m4 w (an.dM n)=0)↔an.eX n ws:=by
 have key:∀w,w<18446744073709551616->(m4 w (an.dM n)=0↔w<=an.dM n):=by
  intro w hw;constructor
  ·intro h;have:w&&&an.dM n=w:=by
    apply xaX;intro j;have:=xce (λx=>x.testBit j) h;simp only[dH,xcN]at this;rw[xbg];cases h1:w.testBit j<;>cases h2:(an.dM n).testBit j<;>simp_all
   rw[<-this];exact xc5
  intro h;have:=an.wz h;unfold m4;rw[this,Nat.xor_self]
 constructor
 ·intro h;refine⟨hn,hl,λu hu=>?_⟩;by_cases h6:6<=n
  ·unfold an.dM;rw[xae h6];have:=hw u hu;omega
  have h1:ws.length=1:=by rw[hl,an.JT zO]
  obtain⟨x,rfl⟩:=List.length_eq_one_iff.1 h1;simp at hg hu;subst hg;subst hu;exact(key _ (hw _ zI)).1 h
 intro h;exact(key w (hw w (xaw hg))).2 (h.full w (xaw hg))
theorem Dh{B:Hp}{v:zV}{t:Tb}(ht:Ej B v t):Rd zQ 384 #[v] B (· =.bool (decide (TF t))):=by
 obtain⟨tn,ws⟩:=t;obtain⟨s,rfl,hs,hw⟩:=ht;simp only at hs hw⊢;refine aF λg=>GD ?_;intro b1 _ J hJ;have hno:¬TF ⟨tn,ws⟩->JE J [.bool true] ((b1,.cells (Value.cells (.agg #[iv tn,s])) 116 (0,0))::B):=λh=>
  JE.mk (hJ _ _ λgs=>Br.yes (bc.mk .tail (by rw[xal h])))
 refine DR.self ?_;refine ai.mk (Ld.mk zM rfl ?_);refine ae.lss (Br.dec (λh0=>hno λh=>by have:=h.1;simp only at this;omega) (λh0=>?_));obtain⟨n,rfl⟩:∃n:Nat,tn=n:=⟨tn.toNat,by omega⟩;have hTF:TF ⟨(n:Int),ws⟩↔an.eX n ws:=by unfold TF;simp
 refine ai.mk (Ld.mk zM rfl ?_);refine ae.m9 (b:=16) (aI.mk (Br.dec (λh1=>hno λh=>by have:=(hTF.1 h).xC;omega) (λh1=>?_)));refine ai.mk (Ld.mk zM rfl ?_);refine hs.bP ?_;refine ai.mk (Ld.mk zM rfl ?_);intro F;refine aa.eq (Bo zO B) (⟨(by repeat (first|exact aM.refl _|apply aM.cons|apply aM.skip|apply aM.cW|apply aM.dm)),?_⟩);rw[ak];refine ae.tH (aI.mk ?_);simp only[xag];by_cases hl:ws.length=an.wN n
 case neg=>rw[show decide (ws.length≠an.wN n)=true by simp[hl]];exact hno λh=>hl (hTF.1 h).len
 rw[show decide (ws.length≠an.wN n)=false by simp[hl]];refine JE.mk (hJ _ _ λgs=>Br.no ?_);have hpos:=an.XB n;obtain⟨w,hg⟩:∃w,ws[ws.length-1]? =some w:=⟨_,xaa zO⟩;refine DR.self ?_;refine ai.mk (Ld.mk zM rfl ?_);refine ai.mk (Ld.mk zM rfl ?_);refine hs.bP ?_;rw[ak];refine ae.xx (b:=1) (by have:=an.xY (n:=n) zO;simp[bF];omega) zO (hs.ld (dg hg) zS ?_);refine ai.mk (Ld.mk zM rfl ?_);refine aa.eq (KX zO B) (⟨(by repeat (first|exact aM.refl _|apply aM.cons|apply aM.skip|apply aM.cW|apply aM.dm)),?_⟩);refine ae.DP (by have:=hw w (xaw hg);simpa[bF]using this) (by have:=an.q7 n;simpa[bF]using this) (ae.eO (b:=0) (bc.mk .tail ?_));congr 1;exact xcp.2 ((ML zO hl hw hg).trans hTF.symm)
theorem Dg{B:Hp}{v:zV}{ts:List Tb}(ht:jF B v ts)(cA:ts.length<2^62):Rd zQ 345 #[v] B (· =.bool (decide (∀t∈ts,TF t/\some t.n=ts.head?.map Tb.n))):=by
 refine aF λg=>G6 ?_;refine ht.bP ?_;refine⟨λvs H=>bV B H/\∃k:Nat,vs=[iv (k:Int)]/\k<=ts.length/\∀i t,i<k->ts[i]? =some t->TF t/\some t.n=ts.head?.map Tb.n,λvs _=>ts.length-bL vs 0,JE.mk ⟨.refl _,0,rfl,by omega,by omega⟩,?_⟩;rintro w H ⟨hg,k,⟨⟩,hk,aH⟩ gs;refine ae.fi (Br.dec (λhlt=>?_) (λhlt=>?_))
 ·obtain⟨t,nq⟩:∃t,ts[k]? =some t:=⟨_,xaa hlt⟩;obtain⟨t0,Vb⟩:∃t,ts[0]? =some t:=⟨_,xaa zO⟩;have hh:ts.head?.map Tb.n=some t0.n:=by rw[List.head?_eq_getElem?,Vb];rfl
  have htB:=ht.mono hg.sub;refine htB.ld nq (λ_ h=>h) λs hs=>?_;intro b1 _;refine St.p ?_ ?_
  ·obtain⟨a,c,rfl,_⟩:=hs.1.shape;simp[Value.oneCell']
  intro J hJ;have hno:∀H',bV B H'->¬(TF t/\some t.n=ts.head?.map Tb.n)->JE J [.bool true] H':=λH' W8 h=>
   JE.mk (hJ _ _ λgs=>Br.yes (bc.mk W8.dG (by rw[xal];exact λhh=>h (hh t (xaw nq)))))
  have To:bV B ((b1,Obj.cells (List.toArray [iv t.n,s]) 116 (0,0))::H):=.cons hg;refine DR.self (ay.q ?_);intro F;refine aa.eq (B:=H) (Dh ⟨s,rfl,hs⟩) (⟨.refl _,Un.not ?_⟩);by_cases hT:TF t
  case neg=>rw[xal hT];exact Br.yes (hno _ To λh=>hT h.1)
  rw[xam hT];apply Br.no;refine ai.mk (Ld.mk zM rfl ?_);refine htB.ldN Vb zS ?_;refine ae.cG (aI.mk ?_);simp only[xag];by_cases hn:t.n=t0.n
  case neg=>rw[xam hn];exact hno _ To λh=>hn (by have:=h.2;rw[hh]at this;simpa using this)
  rw[xal (by simpa using hn)];refine JE.mk (hJ _ _ λgs=>Br.no ?_);refine ae.inc (aC.mk ⟨To,k+1,rfl,by omega,λi u hi hu=>?_⟩ (by simp[bL];omega));by_cases e:i=k
  ·subst e;rw[nq]at hu;cases hu;exact⟨hT,by rw[hh,hn]⟩
  exact aH i u zO hu
 refine bc.mk hg.dG ?_;rw[xam];intro t htm;obtain⟨i,hi,rfl⟩:=xba.1 htm;exact aH i _ zO (xaa hi)
theorem vU{B:Hp}{b:Nat}{t:Tb}{s:zV}{T:TypeId}{fz:Nat×Nat}(hm:(b,Obj.cells #[iv t.n,s] T fz)∈B)(hw:Words B s t.ws):
  Rd zQ 345 #[.slice (some ⟨b,0,none⟩) 1 1] B (· =.bool (decide (TF t))):=
 (Dg (jF.one (cap:=0) hm hw) zI).mono λv H ⟨h1,h2⟩=>⟨h1,by rw[h2];congr 1;simp⟩
theorem aaL{B:Hp}{v:zV}{t:Tb}(ht:Ej B v t)(u:Int):Rd zQ 404 #[v,iv u] B (· =iv (if TF t then(if 0<=u/\u<t.n then 0 else 2)else 5)):=by
 obtain⟨s,rfl,hw⟩:=ht;refine aF λg=>Gn ?_;intro b1 _;refine ay.q ?_;refine wu λb2=>?_;refine aa.rd .here (vU (by exact List.Mem.head _) (hw.mono zS)) ?_;rintro v rfl;apply Un.not;by_cases hT:TF t
 ·rw[xam hT,xae hT];refine Br.no (ae.lss (cf.or (decide (t.n<=u)) (λh=>?_) rfl ?_))
  ·refine ai.mk (Ld.mk zM rfl ?_);exact ae.geq ⟨rfl,rfl⟩
  intro gs;have hor:(decide (u<0)||decide (t.n<=u))=decide (¬(0<=u/\u<t.n)):=by
   by_cases h1:u<0<;>by_cases h2:t.n<=u<;>simp[h1,h2]<;>omega
  rw[hor];refine Br.dec (λh=>?_) (λh=>?_)
  ·exact bc.mk (by repeat (first|exact aM.refl _|apply aM.cons|apply aM.skip|apply aM.cW|apply aM.dm)) (by rw[xab h])
  exact bc.mk (by repeat (first|exact aM.refl _|apply aM.cons|apply aM.skip|apply aM.cW|apply aM.dm)) (by rw[xae (xel.1 h)])
 rw[xal hT,xab hT];exact Br.yes (bc.mk (by repeat (first|exact aM.refl _|apply aM.cons|apply aM.skip|apply aM.cW|apply aM.dm)) rfl)
theorem y4{u i:Nat}(hu:u<64)(hi:i<18446744073709551616)(KM:i<9223372036854775808)(B:Hp):Rd zQ 344 #[iv (u:Int),iv (i:Int)] B
  (· =.int .u64 ((if 6<=u then(if(i>>>(u-6)).testBit 0 then 18446744073709551615 else 0)else an.mask u:Nat):Int)):=by
 refine aF λg=>G7 ?_;refine ae.rI (a:=u) (b:=6) (Br.dec (λh=>?_) (λh=>?_))
 ·refine br.nat (by simpa[bF]using hi) (ae.xx (b:=6) (by simp[bF];omega) h (ae.iL (by simpa[bF]using hi) ?_));have hs:i>>>(u-6)<18446744073709551616:=xaC (xbl _ _) hi;refine ae.jD (b:=1) (by simpa[bF]using hs) zD (Un.aeo (by rw[an.gv];split<;>decide) ?_);refine bc.mk (.refl _) ?_;rw[xae h,an.gv];split<;>rfl
 refine⟨λvs H=>H=B/\∃j:Nat,vs=[.int .u64 ((an.AN u j:Nat):Int),iv (j:Int)]/\j<=64,λvs _=>64-bL vs 1,JE.mk ⟨rfl,0,rfl,by omega⟩,?_⟩;rintro w1 w2 H ⟨rfl,j,⟨⟩,hj⟩ gs;refine ae.fi (b:=64) (Br.dec (λhlt=>?_) (λhlt=>?_))
 ·refine ae.iL (by simp[bF];omega) ?_;have hs:j>>>u<64:=xaC (xbl _ _) hlt;refine ae.jD (b:=1) (by simp[bF];omega) zD ?_;have h1:j>>>u&&&1<=1:=by rw[an.gv];split<;>decide
  refine br.q (ae.nE ?_);have h2:((j>>>u&&&1)<<<j)<18446744073709551616:=by
   rw[xco]
   calc _<=1*2^j:=xaY _ h1
    _<2^64:=by rw[xdj];exact xbx zD hlt
  rw[xbi h2];have h3:an.AN u j<18446744073709551616:=xaQ (an.AM u j) (xaz (n:=2) zD hj);exact ae.Kw (by simpa[bF]using h3) (by simpa[bF]using h2) (ae.inc (aC.mk ⟨rfl,j+1,rfl,by omega⟩ (by simp[bL];omega)))
 have:j=64:=by omega
 subst this;exact bc.mk (.refl _) (by rw[xab h];rfl)
theorem ua{n:Nat}(hn:n<=16){fv:zV}{f:FuncId}{first cap:Array zV}(Ro:fv=.func (.func f) first cap)(fN:aT zQ f=true){F:Nat->Nat}(hF:∀i,i<an.wN n->F i<18446744073709551616){B:Hp}
 (hc:∀i:Nat,i<an.wN n->Rd zQ f (first++ #[iv (i:Int)]++cap) B (· =.int .u64 ((F i:Nat):Int))):
  Px zQ 340 #[iv (n:Int),fv] B (λv H=>Ej H v ⟨n,(List.range (an.wN n)).map λi=>F i&&&an.dM n⟩):=by
 intro g;have hwl:=an.xY hn;refine He (R:=aN _) ?_;unfold L340;intro b1 _;refine aa.eq (Bo hn B) (cU.ints (kT hn).1 (kT hn).2 λbw=>?_);refine Build.mk (cs:=[iv (n:Int),.slice (some ⟨bw,0,none⟩) (an.wN n) (an.wN n)]) zK ?_;intro b8 _;refine St.q ?_;refine ai.mk (Ld.mk zM rfl ?_);refine aO.mk ?_;rw[range_zero (G:=λi=>F i&&&an.dM n)];refine⟨λvs H=>∃i:Nat,vs=[iv (i:Int)]/\i<=an.wN n/\H=(b8,.cells (List.toArray [iv (n:Int),.slice (some ⟨bw,0,none⟩) (an.wN n) (an.wN n)]) 116 (0,0))::
   (bw,.cells (ax .u64 (iw ((List.range (an.wN n)).map λk=>if k<i then F k&&&an.dM n else 0))) 33 (0,0))::(b1,.cells #[iv 0,.slice none 0 0] 116 (0,0))::B,
  λvs _=>an.wN n-bL vs 0,JE.mk ⟨0,rfl,by omega,rfl⟩,?_⟩
 rintro w H ⟨i,⟨⟩,hi,rfl⟩ gs;refine ae.fi (Br.dec (λhlt=>?_) (λhlt=>?_))
 ·refine DR.self ?_;refine ai.mk (Ld.mk zM rfl ?_);refine aL.of Ro fN ?_;refine aa.eq (hc i hlt) (⟨.refl _,?_⟩);refine aa.eq (KX hn B) (⟨.refl _,?_⟩);refine ae.jD (by simpa[bF]using hF i hlt) (by simpa[bF]using an.q7 n) (au.nat hlt ?_);refine St.ints (l:=iw _) (by exact .tail (.head _)) (by simpa using hlt) ?_;refine ae.inc ?_;rw[Mp hlt];exact aC.mk ⟨i+1,rfl,by omega,rfl⟩ (by simp[bL];omega)
 have:i=an.wN n:=by omega
 subst this;rw[EN];refine ay.q ?_;refine St.q ?_;refine ay.q ?_;refine Gm.mk (by repeat (first|exact bV.refl _|apply bV.cons|apply bV.app)) ⟨_,rfl,?_⟩;have:=Words.block (b:=bw) (cap:=an.wN n) (ws:=(List.range (an.wN n)).map λi=>F i&&&an.dM n) (T:=33) (fz:=(0,0)) (B:=(b8,.cells (List.toArray [iv (n:Int),.slice (some ⟨bw,0,none⟩) (an.wN n) (an.wN n)]) 116 (0,0))::
  (bw,.cells (ax .u64 (iw ((List.range (an.wN n)).map λi=>F i&&&an.dM n))) 33 (0,0))::(b1,.cells (List.toArray [iv (n:Int),.slice (some ⟨bw,0,none⟩) (an.wN n) (an.wN n)]) 116 (0,0))::B) (by exact .tail _ (.head _)) zI (λw hw=>by
   obtain⟨k,_,rfl⟩:=xao.1 hw;exact xaC xc5 (an.q7 n))
 simpa using this
theorem RK{B:Hp}{pv pb pa s:zV}{u n i:Nat}{c:Bool}{ws:zL}(hv:Go.Sx.At B pv [iv (u:Int)])(hb:Go.Sx.At B pb [.bool c])(ha:Go.Sx.At B pa [iv (n:Int),s])(hw:Words B s ws)(hf:an.eX n ws)(hu:u<n)(hi:i<an.wN n):
  Rd zQ 396 #[iv (i:Int),pv,pb,pa] B (· =.int .u64 ((an.qZ ws u c i:Nat):Int)):=by
 intro g;have hn:=hf.xC;have hwl:=an.xY hn;refine Gu (R:=aN _) ?_;unfold L396;refine Ld.at hv (λ_ h=>h) ?_;refine ae.rI (a:=u) (b:=6) (Br.dec (λh6=>?_) (λh6=>?_))
 ·have hp:2^(u-6)<=1024:=xaz (n:=2) zD (by omega:u-6<=10);refine Ld.at hv (λ_ h=>h) ?_;refine ae.xx (b:=6) (by simp[bF];omega) h6 (ae.BI (a:=1) (by simp[IntKind.bits];omega) (by rw[xa5];simp[bF];omega) ?_);rw[xa5];refine ae.DP (by simp[bF];omega) (by simp[bF];omega) ?_;have hand:=m0 i (2^(u-6));intro J hJ;have abc:an.aB i (u-6) c<an.wN n:=by
   rw[an.JU zO]at hi⊢;exact an.fY hi zO
  have ie:JE J [iv ((an.aB i (u-6) c:Nat):Int)] B:=by
   refine JE.mk (hJ _ _ λgs=>?_);refine ai.at ha λq hq=>Ld.at hq (λ_ h=>h) ?_;have hg:ws[an.aB i (u-6) c]? =some (ws.getD (an.aB i (u-6) c) 0):=by rw[xaa (by rw[hf.len];exact abc),xar,xaa (by rw[hf.len];exact abc)];rfl
   refine hw.1.ld (dg hg) (λ_ h=>h) ?_;exact bc.mk (.refl _) (by unfold an.qZ;rw[xae h6])
  refine Ld.at hb (λ_ h=>h) ?_;cases c
  ·exact Br.no ie
  refine Br.yes (Ld.at hv (λ_ h=>h) ?_);refine ae.xx (b:=6) (by simp[bF];omega) h6 (ae.BI (a:=1) (by simp[IntKind.bits];omega) (by rw[xa5];simp[bF];omega) ?_);rw[xa5];refine ae.Kw (by simp[bF];omega) (by simp[bF];omega) ?_;have e:m4 i (2^(u-6))|||2^(u-6)=an.aB i (u-6) true:=by
   apply xaX;intro k;rw[xbY,dH,an.aj,xbU];by_cases e:k=u-6
   ·simp[e]
   simp[e,xa8 e]
  rw[e];exact ie
 have hp:2^u<=32:=xaz (n:=2) zD (by omega:u<=5);have hg:ws[i]? =some (ws.getD i 0):=by rw[xaa (by rw[hf.len];exact hi),xar,xaa (by rw[hf.len];exact hi)];rfl
 have hwi:=hw.2 _ (xaw hg);have hm:=an.qM u;refine DR.self (Ld.at hv (λ_ h=>h) (Ld.at hv (λ_ h=>h) ?_));refine ae.BI (a:=1) (b:=u) (by simp[IntKind.bits];omega) (by rw[xa5];simp[bF];omega) ?_;rw[xa5];refine aa.eq (y4 (u:=u) (i:=0) zO zO zO B) ?_;rw[xab h6];refine⟨.refl _,?_⟩;refine Ld.at hb (λ_ h=>h) ?_;cases c
 ·refine Br.no (ai.at ha λq hq=>Ld.at hq (λ_ h=>h) ?_);refine hw.1.ld (dg hg) (λ_ h=>h) ?_;refine ae.DP (by simpa[bF]using hwi) (by simpa[bF]using hm) (ae.nE ?_);have:=m0 (ws.getD i 0) (an.mask u);exact ae.Kw (by simp only[bF];omega) (by simp only[bF];omega) (bc.mk (.refl _) (by unfold an.qZ;rw[xab h6];rfl))
 refine Br.yes (ai.at ha λq hq=>Ld.at hq (λ_ h=>h) ?_);refine hw.1.ld (dg hg) (λ_ h=>h) ?_;refine ae.jD (by simpa[bF]using hwi) (by simpa[bF]using hm) ?_;have h1:ws.getD i 0&&&an.mask u<=ws.getD i 0:=xcj;refine ae.iL (by simp only[bF];omega) ?_;have h2:=xbl (ws.getD i 0&&&an.mask u) (2^u);exact ae.Kw (by simp only[bF];omega) (by simp only[bF];omega) (bc.mk (.refl _) (by unfold an.qZ;rw[xab h6];rfl))
theorem AB{B:Hp}{v:zV}{n u:Nat}{ws:zL}{c:Bool}(ht:Ej B v ⟨n,ws⟩)(hf:an.eX n ws)(hu:u<n):
  Px zQ 387 #[v,iv (u:Int),.bool c] B (λv H=>Ej H v ⟨n,an.iJ n ws u c⟩):=by
 obtain⟨s,rfl,hw⟩:=ht;refine aF λg=>GA ?_;intro b1 _ b3 _ b5 _ b7 _;refine ai.mk (Ld.mk zM rfl ?_);refine aa.px (.cons .here) (ua hf.xC rfl zK (F:=λi=>an.qZ ws u c i) (λi hi=>?_) (λi hi=>?_)) ?_
 ·unfold an.qZ;split
  ·by_cases h:an.aB i (u-6) c<ws.length
   ·rw[xar,xaa h];exact hf.lt (xaG h)
   rw[xar,xaD zO];decide
  have hg:ws.getD i 0<2^64:=by rw[xar,xaa (by rw[hf.len];exact hi)];exact hf.lt (xaG _)
  split
  ·refine xbF (n:=64) (xaC xcj hg) (xaC (xbl _ _) (xaC xcj hg))
  exact xbF (n:=64) (xaC (m0 _ _) hg) (xbB _ zD)
 ·exact RK (Go.Sx.At.block (l:=[iv (u:Int)]) zM) (Go.Sx.At.block (l:=[.bool c]) zM) (Go.Sx.At.block (l:=[iv (n:Int),s]) zM) (hw.mono zS) hf hu hi
 rintro v N ⟨s',rfl,eL⟩;refine St.p ?_ ?_
 ·have:=bO eL;simpa[Value.oneCell']using this
 refine ay.q ?_;exact Gm.mk (by repeat (first|exact bV.refl _|apply bV.cons|apply bV.app)) ⟨s',rfl,eL.mono zS⟩
theorem JZ{B:Hp}{v:zV}{n u:Nat}{ws:zL}{c:Bool}(ht:Ej B v ⟨n,ws⟩)(hf:an.eX n ws)(hu:u<n):
  Px zQ 398 #[v,iv (u:Int),.bool c] B (λr H=>∃v',r=.tuple #[v',iv 0]/\Ej H v' ⟨n,an.iJ n ws u c⟩):=by
 obtain⟨s,rfl,hw⟩:=ht;refine aF λg=>Gs ?_;intro b1 _ b3 _;refine ay.q ?_;refine aa.eq (aaL (t:=⟨n,ws⟩) ⟨s,rfl,hw.mono zS⟩ (u:Int)) ?_;rw[xae (show TF ⟨(n:Int),ws⟩from⟨by simp,by simpa using hf⟩),xae ⟨by omega,by simp only;omega⟩];refine ae.cG (Br.F (ay.q ?_));refine aa.pq (AB (v:=.agg (List.toArray [iv (n:Int),s])) ⟨s,rfl,hw.mono zS⟩ hf hu) ?_;rintro v N ⟨s',rfl,eL⟩;refine St.p ?_ ?_
 ·have:=bO eL;simpa[Value.oneCell']using this
 refine ay.q ?_;exact Gm.mk (by repeat (first|exact bV.refl _|apply bV.cons|apply bV.app)) ⟨_,rfl,s',rfl,eL.mono zS⟩
theorem DE{w j:Nat}(hj:j<8):((List.range (j+1)).map λi=>UInt8.ofNat (w>>>(8*i)))=((List.range j).map λi=>UInt8.ofNat (w>>>(8*i)))++[UInt8.ofNat (w>>>(8*j))]:=by
 rw[xcl,xaJ];rfl
theorem Nz(l:List UInt8)(n:Nat):sE (l++[UInt8.ofNat n])=sE l++[[Value.int .u8 ((n%256:Nat):Int)]]:=by
 simp[sE]
theorem Fh{B:Hp}{v:zV}{t:Tb}(ht:Ej B v t)(hl:t.ws.length<=4294967296):Rd zQ 399 #[v] B (· =zG (an.ic t.ws)):=by
 obtain⟨s,rfl,hw⟩:=ht;refine aF λg=>Gr ?_;intro b1 _;refine ai.mk (Ld.mk zM rfl ?_);refine hw.1.bP ?_;rw[ak];refine⟨λvs H=>∃(k:Nat) (v:zV) (C:Hp),vs=[v,iv (k:Int)]/\k<=t.ws.length/\H=C++B/\aV 5 1 v (sE (an.ic (t.ws.take k))) C,λvs _=>t.ws.length-bL vs 1,
  JE.of (.tail) ⟨0,_,[],rfl,by omega,rfl,aV.nil _ _⟩,?_⟩
 rintro w6 w7 H ⟨k,v,C,⟨⟩,hk,rfl,ho⟩ gs;refine ae.fi (Br.dec (λhlt=>?_) (λhlt=>?_))
 ·have hg:t.ws[k]? =some t.ws[k]:=xaa hlt;have hwk:=hw.2 _ (xaG hlt);refine hw.1.ld (dg hg) zS ?_;have hlen:(sE (an.ic (t.ws.take k))).length=8*k:=by simp only[sE,xax,an.sZ,xbD];omega
  refine⟨λvs H=>∃(j:Nat) (v:zV) (C:Hp),vs=[v,iv (j:Int)]/\j<=8/\H=C++B/\aV 5 1 v (sE (an.ic (t.ws.take k)++(List.range j).map λi=>UInt8.ofNat (t.ws[k]>>>(8*i)))) C,λvs _=>8-bL vs 1,
   JE.mk ⟨0,_,C,rfl,by omega,rfl,by simpa using ho⟩,?_⟩
  rintro w8 w9 H ⟨j,v,C,⟨⟩,hj,rfl,ho⟩ gs;refine ae.fi (b:=8) (Br.dec (λh8=>?_) (λh8=>?_))
  ·refine ae.xD (a:=8) (ae.iL (by simpa[bF]using hwk) (br.agw (av.int (e:=5) zK zK zK λxb=>?_)));refine ho.Gg (A:=[_]) (r:=[Value.int .u8 (((t.ws[k]>>>(8*j))%256:Nat):Int)]) (by exact .head _) rfl (by simp[Value.oneCell']) ⟨[.int .u8 0],rfl,rfl⟩ (by simp only[sE,xax,xaf,xaI]at hlen⊢;omega) (by simp only[sE,xax,xaf,xaI]at hlen⊢;omega) λv' C' cC=>?_;refine ae.inc (aC.of .tail ⟨j+1,_,C',rfl,by omega,rfl,?_⟩ (by simp[bL];omega));rw[DE h8,<-xai,Nz];exact cC
  have:j=8:=by omega
  subst this;refine ae.inc (aC.mk ⟨k+1,_,C,rfl,by omega,rfl,?_⟩ (by simp[bL];omega));rw[xa2 hlt,an.ic,List.flatMap_append];simpa[an.ic,an.kT]using ho
 have:k=t.ws.length:=by omega
 subst this;rw[xbh]at ho;refine kW.own ho (λ_ h=>xad _ h) ?_;exact bc.mk .right rfl
theorem Zu{B:Hp}{b n:Nat}{es:Array MapEntry}{ck:Nat}{m:List (List UInt8×zL)}{v:zV}{ws:zL}(hE:gF n B es ck m)(ht:Ej B v ⟨n,ws⟩)(hf:an.eX n ws):
  Fc zQ 397 #[.map (some b),v] ((b,.map es ck)::B) (λ_ H=>∃es' bB N,H=(b,.map es' bB)::(N++B)/\gF n (N++B) es' bB (zB m ws)):=by
 obtain⟨s,rfl,hw⟩:=ht;refine aF λg=>Gt ?_;intro b1 _;refine DR.self (ay.q ?_);refine ay.q ?_;refine aa.eq (Fh (t:=⟨n,ws⟩) ⟨s,rfl,hw⟩ (uh hf)) (⟨.refl _,?_⟩);refine hE.bg (b:=b) ⟨s,rfl,hw⟩ hf λes' bB C8=>⟨_,.tail (.head _),?_⟩;exact aN.mk (nv:=(b,.map es' bB)::([]++B)) .tail ⟨es',bB,[],rfl,C8⟩
theorem Mz{B:Hp}{v:zV}{n:Nat}{ts:List Tb}{L:List (zL)}(ht:jF B v ts)(hL:ts=L.map λws=>⟨n,ws⟩)(hf:∀ws∈L,an.eX n ws)(cA:L.length<4611686018427387904):
  Fc zQ 388 #[v] B (λr H=>∃b es ck m N,r=.map (some b)/\H=(b,.map es ck)::(N++B)/\gF n (N++B) es ck m/\∀x,x∈m.map Prod.snd↔x∈L):=by
 have hlen:ts.length=L.length:=by rw[hL];simp
 refine aF λg=>Gz ?_;intro b _;refine ht.bP ?_;rw[hlen];refine⟨λvs H=>∃(k:Nat) (es:Array MapEntry) (ck:Nat) (m:List (List UInt8×zL)) (N:Hp),vs=[iv (k:Int)]/\k<=L.length/\H=(b,.map es ck)::(N++B)/\gF n (N++B) es ck m/\∀x,x∈m.map Prod.snd↔x∈L.take k,
  λvs _=>L.length-bL vs 0,JE.mk ⟨0,_,_,[],[],rfl,by omega,rfl,gF.empty _ _,by simp⟩,?_⟩
 rintro w H ⟨k,es,ck,m,N,⟨⟩,hk,rfl,hE,hm⟩ gs;refine ae.fi (Br.dec (λhlt=>?_) (λhlt=>?_))
 ·have hg:ts[k]? =some ⟨n,L[k]⟩:=by rw[hL,xat,xaa hlt];rfl
  have oW:=hf L[k] (xaG hlt);refine ht.ld hg zS λs hw=>?_;intro b2 _;refine St.p ?_ ?_
  ·have:=bO hw;simpa[Value.oneCell']using this
  refine ay.q ?_;refine aa.fq (Zu hE ⟨s,rfl,hw.mono zS⟩ oW) ?_;rintro r C' ⟨es',bB,N',rfl,C8⟩;refine ae.inc (aC.of .tail ⟨k+1,es',bB,zB m L[k],N'++N,rfl,by omega,by rw[xai],by rw[xai];exact C8,λx=>?_⟩ (by simp[bL];omega));rw[rN hE.2 oW,hm,xa2 hlt,xan,xaE]
 have:k=L.length:=by omega
 subst this;rw[xbh]at hm;exact aN.here ⟨b,es,ck,m,N,rfl,rfl,hE,hm⟩
theorem De{B:Hp}{bm n u:Nat}{es:Array MapEntry}{ck:Nat}{m:List (List UInt8×zL)}(hm:(bm,Obj.map es ck)∈B)(hE:gF n B es ck m)(hu:u<n)(cA:m.length<4611686018427387904):
  Fc zQ 389 #[.map (some bm),iv (u:Int)] B (λr H=>∃b' es' bB m' N,r=.tuple #[.map (some b'),iv ((an.nodes n (m.map Prod.snd) u).length:Int)]/\H=(b',.map es' bB)::(N++B)/\gF n (N++B) es' bB m'/\
   ∀x,x∈m'.map Prod.snd↔∃t∈m.map Prod.snd,∃c,x=an.iJ n t u c):=by
 refine aF λg=>Gy ?_;intro b' _;refine .inr ⟨bm,es,ck,rfl,.tail _ hm,λbi _=>?_⟩;refine⟨λvs H=>∃(es':Array MapEntry) (bB:Nat) (m':List (List UInt8×zL)) (seen:Array Nat) (N:Hp) (D:List (zL)),vs=[iv ((an.nodes n D u).length:Int)]/\
   H=(bi,.mapIter (some bm) ck seen ck)::(b',.map es' bB)::(N++B)/\gF n (N++B) es' bB m'/\(m.map Prod.snd).Perm (D++(bS es m seen).map Prod.snd)/\∀x,x∈m'.map Prod.snd↔∃t∈D,∃c,x=an.iJ n t u c,
  λvs H=>match H with|(_,.mapIter _ _ seen _)::_=>(bS es m seen).length|_=>0,JE.mk ⟨_,_,[],_,[],[],rfl,rfl,gF.empty _ _,?_,by simp⟩,?_⟩
 ·rw[mu hE.1];simp
 rintro w H ⟨es',bB,m',seen,N,D,⟨⟩,rfl,C8,c8,hmem⟩ gs;have hbm:∀{X:Hp},(bm,Obj.map es ck)∈X++B:=xac _ hm;refine hE.1.next (.tail _ (.tail _ hbm)) (.head _) (λe x seen' he hkey hval hstep abX hfind=>⟨_,.head _,?_⟩) (λFt=>?_)
 ·obtain⟨bs,ws⟩:=x;simp only at hval hkey;refine Ext.mk rfl (Br.yes (⟨bi,bm,ck,seen',e.born,ck,es,e,rfl,.head _,abX,.tail _ (.tail _ hbm),hfind,?_⟩));refine Ext.mk rfl ?_;have hx:(bs,ws)∈m:=by
   have h:=hstep.mem_iff.2 (xbH (a:=(bs,ws)));unfold bS at h;obtain⟨p,hp,lP⟩:=xao.1 h;rw[<-lP];exact(xdC (xbS.1 hp).1).2
  obtain⟨hbs,hf⟩:=hE.2 _ hx;simp only at hbs hf;obtain⟨s,hes,hw⟩:=hval;rw[hes];have hone:=bO hw;intro b1 _;refine St.p (by simpa[Value.oneCell']using hone) ?_;refine ay.q ?_;refine aa.pq (B:=N++B) (JZ (n:=n) (ws:=ws) ⟨s,rfl,hw.mono zS⟩ hf hu) ?_;rintro r N1 ⟨v1,rfl,s1,rfl,jz⟩;have abl:=bO jz;apply Ext.two;intro b2 _;refine St.p (by simpa[Value.oneCell']using abl) ?_;refine ay.q ?_;refine aa.pq (B:=N1++(N++B)) (JZ (n:=n) (ws:=ws) ⟨s,rfl,hw.mono zS⟩ hf hu) ?_;rintro r N2 ⟨v2,rfl,s2,rfl,pg⟩;have abk:=bO pg;apply Ext.two;intro b3 _;refine St.p (by simpa[Value.oneCell']using abk) ?_;refine DR.self (ay.q ?_);refine ay.q ?_;have f1:=an.eu (v:=u) (ws:=ws) (b:=false) hf.xC;have f2:=an.eu (v:=u) (ws:=ws) (b:=true) hf.xC;refine aa.eq (B:=N2++(N1++(N++B))) (Fh (t:=⟨n,an.iJ n ws u false⟩) ⟨s1,rfl,jz.mono zS⟩ (uh f1)) (⟨.refl _,?_⟩);refine aa.eq (B:=N2++(N1++(N++B))) (Fh (t:=⟨n,an.iJ n ws u true⟩) ⟨s2,rfl,pg⟩ (uh f2)) (⟨.refl _,?_⟩);intro J hJ;have Ax:(an.ic (an.iJ n ws u false)≠an.ic (an.iJ n ws u true))↔an.dep n ws u=true:=by
   simp only[an.dep,ne_eq,xaA];exact not_congr ⟨λh=>f1.key_inj f2 h,λh=>by rw[h]⟩
  have ie:JE J [iv ((an.nodes n (D++[ws]) u).length:Int)] ((b3,.cells (List.toArray [iv (n:Int),s2]) 116 (0,0))::(b2,.cells (List.toArray [iv (n:Int),s1]) 116 (0,0))::
    (b1,.cells (List.toArray [iv (n:Int),s]) 116 (0,0))::(bi,.mapIter (some bm) ck seen' ck)::(b',.map es' bB)::(N2++(N1++(N++B)))):=by
   refine JE.mk (hJ _ _ λgs=>?_);refine DR.of (R:=(b3,.cells (List.toArray [iv (n:Int),s2]) 116 (0,0))::(b2,.cells (List.toArray [iv (n:Int),s1]) 116 (0,0))::[]) ?_ ?_
   ·exact .cons (.cons (λg w h=>(Own.left (B:=_) (A:=[]) h)))
   refine ay.q ?_;refine ay.q ?_;have sn:=C8.mono (B':=N2++(N1++(N++B))) zS;refine sn.bg (b:=b') (ws:=an.iJ n ws u false) ⟨s1,rfl,jz.mono zS⟩ f1 λgR iE OY=>⟨_,.tail (.tail (.tail (.tail (.head _)))),?_⟩;refine⟨.cons (.cons (λg w h=>(Own.left (B:=_) (A:=[]) h))),?_⟩;refine OY.bg (b:=b') (ws:=an.iJ n ws u true) ⟨s2,rfl,pg⟩ f2 λoP qq hE4=>⟨_,.tail (.tail (.tail (.tail (.head _)))),?_⟩;refine aC.of (H':=(bi,.mapIter (some bm) ck seen' ck)::(b',.map oP qq)::((N2++(N1++N))++B)) ?_ ⟨oP,qq,zB (zB m' (an.iJ n ws u false)) (an.iJ n ws u true),seen',N2++(N1++N),D++[ws],rfl,rfl,?_,?_,λx=>?_⟩ ?_
   ·refine .skip (.skip (.skip (.cons (.cons ?_))));intro g w h;rw[xai,xai];exact h
   ·rw[xai,xai];exact hE4
   ·refine c8.trans ?_;refine(xbW D (hstep.map Prod.snd)).trans ?_;simp only[xaB,xai,xaR,xb2];exact .refl _
   ·rw[rN OY.2 f2,rN sn.2 f1,hmem];constructor
    ·rintro((⟨t,ht,c,rfl⟩|rfl)|rfl)
     ·exact⟨t,by simp[ht],c,rfl⟩
     ·exact⟨ws,by simp,_,rfl⟩
     exact⟨ws,by simp,_,rfl⟩
    rintro⟨t,ht,c,rfl⟩;rcases xan.1 ht with ht|ht
    ·exact .inl (.inl ⟨t,ht,c,rfl⟩)
    simp at ht;subst ht;cases c
    ·exact .inl (.inr rfl)
    exact .inr rfl
   have:=hstep.length_eq;simp only[xay]at this⊢;omega
  refine ae.aax (Br.dec (λh=>?_) (λh=>?_))
  ·refine ae.Wi (b:=1) ?_ ?_
   ·have h1:=c8.length_eq;simp only[xax,xaf]at h1;have h2:(an.nodes n D u).length<=D.length:=xbZ _ _;simp[bF];omega
   have:(an.nodes n (D++[ws]) u).length=(an.nodes n D u).length+1:=by
    simp[an.nodes,xb4,Ax.1 h]
   rw[this]at ie;exact ie
  have:(an.nodes n (D++[ws]) u).length=(an.nodes n D u).length:=by
   have hd:an.dep n ws u=false:=by cases hh:an.dep n ws u;rfl;exact absurd (Ax.2 hh) h
   simp[an.nodes,xb4,hd]
  rw[this]at ie;exact ie
 refine Ext.mk rfl (Br.no ?_);rw[Ft]at c8;simp only[xb6,xaL]at c8;refine aN.mk (nv:=(b',.map es' bB)::(N++B)) .tail ⟨b',es',bB,m',N,?_,rfl,C8,λx=>?_⟩
 ·rw[an.mH c8]
 rw[hmem];constructor
 ·rintro⟨t,ht,h⟩;exact⟨t,c8.mem_iff.2 ht,h⟩
 rintro⟨t,ht,h⟩;exact⟨t,c8.mem_iff.1 ht,h⟩
theorem Mf{B:Hp}{v:zV}{ts:List Tb}(ht:jF B v ts)(cA:ts.length<2^62):Rd zQ 385 #[v] B (· =.bool (decide (∀t∈ts,TF t/\some t.n=ts.head?.map Tb.n))):=by
 intro g;refine GC (R:=aN _) ?_;unfold L385;refine ht.bP ?_;refine⟨λvs H=>bV B H/\∃k:Nat,vs=[iv (k:Int)]/\k<=ts.length/\∀i t,i<k->ts[i]? =some t->TF t/\some t.n=ts.head?.map Tb.n,λvs _=>ts.length-bL vs 0,JE.mk ⟨.refl _,0,rfl,by omega,by omega⟩,?_⟩;rintro w H ⟨hg,k,hv,hk,aH⟩ gs;simp only[xau,xa0]at hv;subst hv;refine ae.fi (Br.dec (λhlt=>?_) (λhlt=>?_))
 ·obtain⟨t,nq⟩:∃t,ts[k]? =some t:=⟨_,xaa hlt⟩;obtain⟨t0,Vb⟩:∃t,ts[0]? =some t:=⟨_,xaa zO⟩;have hh:ts.head?.map Tb.n=some t0.n:=by rw[List.head?_eq_getElem?,Vb];rfl
  have htB:=ht.mono hg.sub;refine htB.ld nq (λ_ h=>h) λs hs=>?_;intro b1 _;refine St.whole (r:=[iv t.n,s]) (by exact c6.head _) rfl rfl ?_ ?_
  ·obtain⟨a,c,rfl,_⟩:=hs.1.shape;simp[Value.oneCell']
  intro J hJ;have hno:∀H',bV B H'->¬(TF t/\some t.n=ts.head?.map Tb.n)->JE J [.bool true] H':=λH' W8 h=>
   JE.mk (hJ _ _ λgs=>Br.yes (bc.mk W8.dG (by rw[xal];exact λhh=>h (hh t (xaw nq)))))
  have To:bV B ((b1,Obj.cells (List.toArray [iv t.n,s]) 116 (0,0))::H):=.cons hg;refine DR.self ?_;refine ay.whole (r:=[iv t.n,s]) (by exact List.Mem.head _) rfl ?_;intro F;refine aa.rd (B:=H) (.cons .here) (Dh ⟨s,rfl,hs⟩) ?_;rintro v rfl;refine⟨.refl _,Un.not ?_⟩;by_cases hT:TF t
  case neg=>rw[xal hT];exact Br.yes (hno _ To λh=>hT h.1)
  rw[xam hT];apply Br.no;refine ai.mk (Ld.mk zM rfl ?_);refine htB.ldN Vb zS ?_;refine ae.cG (aI.mk ?_);simp only[xag];by_cases hn:t.n=t0.n
  case neg=>rw[xam hn];exact hno _ To λh=>hn (by have:=h.2;rw[hh]at this;simpa using this)
  rw[xal (by simpa using hn)];refine JE.mk (hJ _ _ λgs=>Br.no ?_);refine ae.Wi (b:=1) (by simp[bF];omega) ?_;refine aC.mk ⟨To,k+1,rfl,by omega,λi u hi hu=>?_⟩ (by simp[bL];omega);by_cases e:i=k
  ·subst e;rw[nq]at hu;cases hu;exact⟨hT,by rw[hh,hn]⟩
  exact aH i u zO hu
 refine bc.mk hg.dG ?_;rw[xam];intro t htm;obtain⟨i,hi,rfl⟩:=xba.1 htm;exact aH i _ zO (xaa hi)
def rD(ts:List Tb):Prop:=∀t∈ts,TF t/\some t.n=ts.head?.map Tb.n
instance (ts:List Tb):Decidable (rD ts):=by unfold rD;infer_instance
theorem uN{B:Hp}{v:zV}{ts:List Tb}(ht:jF B v ts)(cA:ts.length<2^62):Rd zQ 385 #[v] B (· =.bool (decide (rD ts))):=Mf ht cA
theorem B5{n:Nat}{L:List (zL)}(hf:∀ws∈L,an.eX n ws):rD (L.map λws=>⟨n,ws⟩):=by
 intro t ht;obtain⟨ws,hws,rfl⟩:=xao.1 ht;refine⟨⟨by simp,by simpa using hf ws hws⟩,?_⟩;cases L with
 |nil=>simp at hws
 |cons a b=>rfl
theorem Ky{ts:List Tb}(h:rD ts)(hne:ts≠[]):∃(n:Nat) (L:List (zL)),n<=16/\ts=L.map (λws=>⟨n,ws⟩)/\L≠[]/\∀ws∈L,an.eX n ws:=by
 cases ts with
 |nil=>exact absurd rfl hne
 |cons t r=>
  have ht:=(h t zI).1;have hn:∀u∈t::r,u.n=t.n:=λu hu=>by have:=(h u hu).2;simpa using this
  refine⟨t.n.toNat,(t::r).map Tb.ws,ht.2.xC,?_,by simp,λws hws=>?_⟩
  ·rw[xbQ]
   conv=>lhs;rw[<-xeB (t::r)]
   apply xbn;intro u hu;have h1:=hn u hu;have h2:=ht.1;obtain⟨un,uw⟩:=u;simp only[Function.comp,id]at h1⊢;congr 1;omega
  obtain⟨u,hu,rfl⟩:=xao.1 hws;have:=(h u hu).1.2;rwa [hn u hu]at this
end
end Go.Proofs
namespace aA
theorem Rm.sr(m:Rm):∀ls ord,m.dL 0 ls ord=ls.take (m.dL 0 ls ord).length
 | [],_=>rfl
 |c::cs,ord=>by
  by_cases hf:m.fit ord (0+c)=true
  ·have:=m.sr cs (fR ord (0+c));rw[dL,xae hf,xay,xd3,<-this,xa3]
  rw[dL,xab hf];simp
def Rm.can(m:Rm)(ord ls:zL):Bool:=decide ((m.dL 0 ls ord).length=ls.length)
theorem Rm.RW(m:Rm){ord ls:zL}{i:Nat}(hi:i<(m.dL 0 ls ord).length){l:Nat}(hl:ls[i]? =some l):m.fit (az ord (ls.take i)) l=true:=by
 obtain⟨_,c,h1,h2⟩:=m.q5 0 ls ord i hi;rw[hl]at h1;cases h1;rw[m.sr,List.take_take,xcD (xb7 hi),xa3]at h2;exact h2
theorem Rm.M8(m:Rm){ord ls:zL}{l:Nat}(hl:ls[(m.dL 0 ls ord).length]? =some l):m.fit (az ord (ls.take (m.dL 0 ls ord).length)) l=false:=by
 have:=m.vP 0 ls ord l hl;rw[xa3]at this;rw[<-m.sr];exact this
def road(a b:Nat):zL:=List.range' a (b-a)++(List.range' b (a-b)).reverse
theorem uO(a b:Nat):(road a b).length=(b-a)+(a-b):=by simp[road]
theorem P3{a b l n:Nat}(ha:a<n)(hb:b<n)(h:l∈road a b):l+1<n:=by
 unfold road at h;rcases xan.1 h with h|h
 ·rw[xek]at h;omega
 rw[List.mem_reverse,xek]at h;omega
theorem kB{α:Type}[DecidableEq α]:∀{l p:List α},l.Nodup->(∀x∈l,x∈p)->p.length<=l.length->l.Perm p
 | [],p,_,_,h=>by
  have:p=[]:=xcM.1 (by simpa using h);subst this;exact .refl _
 |x::t,p,hn,hs,hl=>by
  have hx:=hs x zI;have hp:=List.perm_cons_erase hx;have hlen:(p.erase x).length=p.length-1:=List.length_erase_of_mem hx;have hpos:=List.length_pos_of_mem hx;refine(List.Perm.cons x (kB (xaV.1 hn).2 (λy hy=>?_) (by simp only[xay]at hl;omega))).trans hp.symm;refine(List.mem_erase_of_ne λe=>?_).2 (hs y (by simp[hy]));subst e;exact(xaV.1 hn).1 hy
end aA
set_option maxRecDepth 100000
namespace Go.Proofs
open Go Go.Sx
open aA
theorem Cz{l:zL}(h:l.Nodup):(iw l).Nodup:=xcc.2 (h.imp λhne e=>hne (Int.ofNat.inj e))
theorem sI{p:List Int}:kK p↔p.Perm (iw (List.range p.length)):=by
 constructor
 ·intro h;refine(kB (Cz xbj) (λx hx=>?_) (by rw[ak,xaI];exact xaj _)).symm;obtain⟨k,hk,rfl⟩:=xao.1 hx;exact h k (xaM.1 hk)
 intro h v hv;exact h.mem_iff.2 (xao.2 ⟨v,xaM.2 hv,rfl⟩)
theorem SQ{p:List Int}(hn:p.Nodup)(h:∀x∈p,0<=x/\x<(p.length:Int)):kK p:=by
 refine sI.2 (kB hn (λx hx=>?_) (by rw[ak,xaI];exact xaj _));obtain⟨h1,h2⟩:=h x hx;exact xao.2 ⟨x.toNat,xaM.2 zO,by show((x.toNat:Nat):Int)=x;omega⟩
theorem SR{p:List Int}(h:kK p){x:Int}(hx:x∈p):0<=x/\x<(p.length:Int):=by
 have:=(sI.1 h).mem_iff.1 hx;obtain⟨k,hk,rfl⟩:=xao.1 this;have:=xaM.1 hk;show(0:Int)<=(k:Int)/\(k:Int)<_;omega
theorem DT{p:List Int}(h:kK p):p.Nodup:=(sI.1 h).nodup_iff.2 (Cz xbj)
theorem PN{p:List Int}{i n W:Nat}(hi:i<p.length)(hn:p[i]=(n:Int))(hw:n<W):((List.range W).map λk=>decide (((k:Nat):Int)∈p.take i)).set n true=(List.range W).map λk=>decide (((k:Nat):Int)∈p.take (i+1)):=by
 apply xbd;intro j;rw[xa2 hi,hn];by_cases hj:j<W
 ·by_cases e:n=j
  ·subst e;rw[xbI (by simpa using hw)];simp[hw]
  rw[xbG e];simp only[xat,xdA hj,xck,xan,xaE];congr 1;have:¬((j:Nat):Int)=(n:Int):=by omega
  simp[this]
 rw[xaD zP,xaD zP]
theorem Mc{p:List Int}{W:Nat}:List.replicate W false=(List.range W).map λk=>decide (((k:Nat):Int)∈p.take 0):=by
 apply xbd;intro j;by_cases hj:j<W
 ·simp[hj]
 rw[xaD zP,xaD zP]
theorem rX{B:Hp}{v:zV}{p:List Int}(h:dA .i64 B v p)(cA:p.length<=70368744177664):Rd zQ 283 #[v] B (λr=>(r=iv 0/\kK p/\p.length<=64)\/(r=iv 13/\kK p/\64<p.length)\/(r=iv 4/\¬kK p)):=by
 refine aF λg=>HW ?_;refine h.bP (cU.SB zO λb=>h.bP ?_);rw[Mc (p:=p)];refine⟨λvs H=>∃i:Nat,vs=[iv (i:Int)]/\H=(b,.cells (fo ((List.range p.length).map λk=>decide (((k:Nat):Int)∈p.take i))) 4 (0,0))::B/\i<=p.length/\(p.take i).Nodup/\∀x∈p.take i,0<=x/\x<(p.length:Int),λvs _=>p.length-bL vs 0,
  JE.mk ⟨0,rfl,rfl,xaO _,by simp,by simp⟩,?_⟩
 rintro w H ⟨i,⟨⟩,rfl,hi,eY,hin⟩ gs;refine ae.fi (Br.dec (λhlt=>?_) (λhlt=>?_))
 ·refine h.ld (xaa hlt) (λ_ h=>.tail _ h) ?_;obtain⟨x,hx⟩:∃x,p[i]=x:=⟨_,rfl⟩;have hxm:x∈p:=by rw[<-hx];exact xaG hlt
  rw[hx];have hB:=D3.block (b:=b) (cap:=p.length) (l:=(List.range p.length).map λk=>decide (((k:Nat):Int)∈p.take i)) (T:=4) (fz:=(0,0)) (B:=(b,.cells (fo ((List.range p.length).map λk=>decide (((k:Nat):Int)∈p.take i))) 4 (0,0))::B) (.head _) zI;rw[xax,xaI]at hB;refine ae.lss (cf.or (decide ((p.length:Int)<=x)) (λ_=>h.bP (ae.geq ⟨rfl,rfl⟩)) zI λgs=>?_);rw[<-xa7];refine cf.or (decide (x∈p.take i)) (λhno=>?_) zI λgs=>?_
  ·have CK:=xdf hno;obtain⟨n,rfl⟩:∃n:Nat,x=n:=⟨x.toNat,by omega⟩;refine hB.ld (b:=decide (((n:Nat):Int)∈p.take i)) ?_ (λ_ h=>h) ⟨rfl,rfl⟩;rw[xat,xdA zO];rfl
  rw[<-xa7];refine Br.dec (λafE=>bc.mk .tail (.inr (.inr ⟨rfl,λha=>?_⟩))) (λabH=>?_)
  ·have h1:=SR ha hxm;rcases afE with hb|hb
   ·omega
   have h2:=DT ha;rw[<-xbr i p,xa4]at h2;refine h2.2.2 x hb x ?_ rfl;rw[xbs hlt,hx];exact .head _
  obtain⟨n,rfl⟩:∃n:Nat,x=n:=⟨x.toNat,by omega⟩;refine au.nat zO ?_;refine St.SB (l:=(List.range p.length).map λk=>decide (((k:Nat):Int)∈p.take i)) (.head _) zP ?_;rw[PN hlt hx zO];refine ae.inc (aC.mk ⟨i+1,rfl,rfl,hlt,?_,λx Fo=>?_⟩ (by simp only[bL];omega))
  ·rw[xa2 hlt,hx,xa4];exact⟨eY,by simp,λa ha b hb e=>by simp at hb;subst hb;subst e;exact abH (.inr ha)⟩
  rw[xa2 hlt,hx,xan,xaE]at Fo;rcases Fo with Fo|rfl
  ·exact hin x Fo
  omega
 obtain rfl:i=p.length:=by omega
 rw[xbh]at eY hin;have aH:=SQ eY hin;refine h.bP (ae.m9 (b:=64) (Br.dec (λhg=>bc.mk .tail (.inr (.inl ⟨rfl,aH,hg⟩))) (λhg=>bc.mk .tail (.inl ⟨rfl,aH,by omega⟩))))
theorem L9{B:Hp}{v:zV}{p:List Int}{x:Int}(h:dA .i64 B v p)(cA:p.length<4611686018427387904):Rd zQ 351 #[v,iv x] B (· =iv (if x∈p then((p.idxOf x:Nat):Int)else-1)):=by
 refine aF λg=>GX ?_;refine h.bP ?_;refine⟨λvs H=>∃i:Nat,vs=[iv (i:Int)]/\H=B/\i<=p.length/\x∉p.take i,λvs _=>p.length-bL vs 0,JE.mk ⟨0,rfl,rfl,xaO _,by simp⟩,?_⟩;rintro w H ⟨i,⟨⟩,rfl,hi,hq⟩ gs;refine ae.fi (Br.dec (λhlt=>?_) (λhlt=>?_))
 ·refine h.ld (xaa hlt) (λ_ h=>h) ?_;refine ae.gU (Br.dec (λhe=>bc.mk (.refl _) ?_) (λhe=>?_))
  ·rw[xae (by rw[he];exact xaG hlt),CD hq hlt he.symm]
  refine ae.inc (aC.of (.refl _) ⟨i+1,rfl,rfl,hlt,?_⟩ (by simp only[bL];omega));rw[xa2 hlt,xan,xaE];rintro(h|h)
  ·exact hq h
  exact he h
 refine bc.mk (.refl _) ?_;rw[xca zO]at hq;rw[xab hq]
theorem V8{B:Hp}{v1 v2:zV}{p q:zL}{n:Nat}(h1:dA .i64 B v1 (iw p))(h2:dA .i64 B v2 (iw q))(hp:p.Perm (List.range n))(hq:q.Perm (List.range n))(hn:n<=64):Rd zQ 350 #[v1,v2] B (· =iv 0):=by
 have e1:p.length=n:=by rw[hp.length_eq,xaI]
 have e2:q.length=n:=by rw[hq.length_eq,xaI]
 refine aF λg=>GY ?_;refine aa.rq (rX h1 (by rw[ak];omega)) ?_;rintro v (⟨rfl,_,_⟩|⟨_,_,hl⟩|⟨_,hno⟩);rotate_left
 ·rw[ak]at hl;omega
 ·exact absurd (wC hp) hno
 refine aa.rq (rX h2 (by rw[ak];omega)) ?_;rintro v (⟨rfl,_,_⟩|⟨_,_,hl⟩|⟨_,hno⟩);rotate_left
 ·rw[ak]at hl;omega
 ·exact absurd (wC hq) hno
 refine ae.gU (cf.or false (λ_=>ae.gU ⟨rfl,rfl⟩) rfl λgs=>?_);refine cf.or false (λ_=>?_) rfl λgs=>Br.no ?_
 ·refine h1.bP (h2.bP (ae.tH ⟨rfl,?_⟩));rw[ak,ak,xal zO]
 exact⟨.i64,0,0,rfl,rfl,bc.mk (.refl _) rfl⟩
end Go.Proofs
namespace Go.Sx
open Go
section
variable {P:Program} {g:Gh} {H:Hp}
theorem av.XW{t e:TypeId}{z:zV}{a b c d x y:zV}{K:zV->Hp->Prop}(h1:P.underlying t=some (.slice e))(h2:dI P e=some 2)(h3:fJ P e=some z)
 (h:∀u,K (.slice (some ⟨u,0,Option.none⟩) 3 3) ((u,.cells (rows [[a,b],[c,d],[x,y]]) e (0,0))::H)):av P t 3 [(0,.agg #[a,b]),(1,.agg #[c,d]),(2,.agg #[x,y])] H K:=by
 refine⟨rows [[a,b],[c,d],[x,y]],e,2,z,h1,h2,h3,by decide,?_,λb _=>h b⟩;have e1:Array.range (3*2)=#[0,1,2,3,4,5]:=rfl;simp[Instr.fill,Value.cells,rows,e1]
theorem aV.made{T:TypeId}{k b:Nat}(rs:List (List zV))(h:∀r∈rs,r.length=k):aV T k (.slice (some ⟨b,0,none⟩) rs.length rs.length) rs [(b,.cells (rows rs) T (0,0))]:=
 .inr ⟨b,[],by simp,by simp,by simpa using h⟩
end
end Go.Sx
namespace aA
open an
variable {n:Nat} {F:Nat->Nat} {ws us rs:zL}
def yB(n:Nat)(F:Nat->Nat):zL:=(List.range (wN n)).map λi=>F i&&&dM n
theorem r6(hn:n<=16):eX n (yB n F):=by
 refine⟨hn,by simp[yB],λw hw=>?_⟩;obtain⟨i,_,rfl⟩:=xao.1 hw;exact xc5
theorem MM{x:Nat}(hx:x<2^n):bit (yB n F) x=(F (x/64)).testBit (x%64):=by
 have hi:=Cp hx;unfold bit;have gP:(yB n F).getD (x/64) 0=F (x/64) &&&dM n:=by simp[yB,hi]
 rw[gP,xbg,mz];have hfb:decide (x%64<if 6<=n then 64 else 2^n)=true:=by
  rw[xaA];split
  ·exact xbB _ zD
  have h1:2^n<=32:=xaz (n:=2) zD (by omega:n<=5);omega
 rw[hfb,xdQ]
theorem vW{f:Fn}(h:∀x,x<2^n->(F (x/64)).testBit (x%64)=f x)(hf:∀x,f (x%2^n)=f x):oZ n (yB n F)=f:=by
 funext x
 unfold oZ;have hx:x%2^n<2^n:=xbB _ (xbw n);rw[MM hx,h _ hx,hf]
theorem AI(x:Nat):oZ n ws (x%2^n)=oZ n ws x:=by unfold oZ;rw[Nat.mod_mod]
theorem uv{x:Nat}(hx:x<2^n):(ws.getD (x/64) 0).testBit (x%64)=oZ n ws x:=by
 unfold oZ bit;rw[xbi hx]
theorem B4{j:Nat}(hj:j<64):(18446744073709551615:Nat).testBit j=true:=by
 have:(18446744073709551615:Nat)=2^64-1:=by decide
 rw[this,xcR];simpa using hj
theorem Uy{w j:Nat}(hw:w<18446744073709551616)(hj:j<64):(18446744073709551615-w).testBit j= !w.testBit j:=by
 have e:(18446744073709551615-w)=2^64-(w+1):=by
  have:(2:Nat)^64=18446744073709551616:=by decide
  omega
 rw[e,xd7 (by
  have:(2:Nat)^64=18446744073709551616:=by decide
  omega)]
 simp[hj]
end aA
set_option maxRecDepth 100000
namespace Go.Proofs
open Go Go.Sx
section
open aA
section
variable {B:Hp}
def kf(B:Hp)(v:zV)(n:Nat)(f:aA.Fn):Prop:=∃ws,Ej B v ⟨n,ws⟩/\an.eX n ws/\oZ n ws=f
theorem kf.mono{B B':Hp}{v:zV}{n:Nat}{f:aA.Fn}(h:kf B v n f)(hs:∀x∈B,x∈B'):kf B' v n f:=let ⟨ws,h1,h2,h3⟩:=h;⟨ws,h1.mono hs,h2,h3⟩
theorem Dx{n:Nat}(hn:n<=16)(B:Hp):Rd zQ 339 #[iv (n:Int)] B (· =iv 0):=by
 refine aF λg=>Hf ?_;exact ae.lss (Br.F (ae.m9 (b:=16) (Br.F (bc.mk (.refl _) rfl))))
theorem Ew{b:Bool}{p:zV}{i:Int}(hb:Go.Sx.At B p [.bool b]):Rd zQ 341 #[iv i,p] B (· =.int .u64 (((if b then 18446744073709551615 else 0:Nat)):Int)):=by
 refine aF λg=>G9 ?_;refine Ld.at hb (λ_ h=>h) ?_;cases b
 ·exact Br.no (bc.mk (.refl _) rfl)
 exact Br.yes (bc.mk (.refl _) rfl)
theorem x4{n:Nat}(hn:n<=16)(b:Bool)(B:Hp):Px zQ 275 #[iv (n:Int),.bool b] B (λr H=>∃v,r=.tuple #[v,iv 0]/\kf H v n (λ_=>b)):=by
 refine aF λg=>H9 ?_;intro b1 _ b3 _;refine aa.eq (Dx hn _) (ae.cG (Br.F (aa.pq (ua hn rfl zK (F:=λ_=>if b then 18446744073709551615 else 0) (λi _=>by cases b<;>decide) (B:=(b1,.cells #[.bool b] 4 (0,0))::B) λi _=>Ew (Go.Sx.At.block (l:=[.bool b]) zM)) ?_)));rintro v N ⟨s,rfl,hw⟩;refine St.p ?_ ?_
 ·have:=bO hw;simpa[Value.oneCell']using this
 refine ay.q ?_;refine Gm.mk (by repeat (first|exact bV.refl _|apply bV.cons|apply bV.app)) ⟨_,rfl,_,⟨s,rfl,hw.mono zS⟩,r6 hn,vW (λx hx=>?_) (λx=>rfl)⟩;cases b
 ·exact xcN _
 exact B4 (xbB _ zD)
theorem Pf{v i:Nat}{p:zV}(hv:v<64)(hi:i<9223372036854775808)(hb:Go.Sx.At B p [iv (v:Int)]):Rd zQ 343 #[iv (i:Int),p] B (· =.int .u64 ((if 6<=v then(if(i>>>(v-6)).testBit 0 then 18446744073709551615 else 0)else an.mask v:Nat):Int)):=by
 refine aF λg=>G8 ?_;refine Ld.at hb (λ_ h=>h) ?_;exact aa.eq (y4 hv zO hi B) (bc.mk (.refl _) rfl)
theorem TO{n v:Nat}(hn:n<=16)(hv:v<n)(B:Hp):Px zQ 278 #[iv (n:Int),iv (v:Int)] B (λr H=>∃t,r=.tuple #[t,iv 0]/\kf H t n (λx=>x.testBit v)):=by
 refine aF λg=>H6 ?_;intro b1 _ b3 _;refine aa.eq (Dx hn _) (ae.cG (Br.F (Ld.q ?_)));refine ae.lss ?_;rw[xal zO];refine cf.or (a:=false) false (λ_=>?_) rfl λgs=>Br.no ?_
 ·refine Ld.q ?_;exact ae.rI ⟨rfl,by rw[xal zO]⟩
 have hwl:=an.xY hn;refine aa.pq (ua hn rfl zK (F:=λi=>if 6<=v then(if(i>>>(v-6)).testBit 0 then 18446744073709551615 else 0)else an.mask v) (λi _=>by
  have:=an.qM v;split
  ·split<;>decide
  exact this) (B:=(b1,.cells #[iv (v:Int)] 3 (0,0))::B) λi hi=>Pf zO zO (Go.Sx.At.block (l:=[iv (v:Int)]) zM)) ?_
 rintro w N ⟨s,rfl,hw⟩;refine St.p ?_ ?_
 ·have:=bO hw;simpa[Value.oneCell']using this
 refine ay.q ?_;refine Gm.mk (by repeat (first|exact bV.refl _|apply bV.cons|apply bV.app)) ⟨_,rfl,_,⟨s,rfl,hw.mono zS⟩,r6 hn,vW (λx hx=>?_) (λx=>?_)⟩
 ·have hj:x%64<64:=xbB _ zD;have ajk:x=64*(x/64)+x%64:=by omega
  by_cases h6:6<=v
  ·rw[xae h6];have e:x.testBit v=((x/64)>>>(v-6)).testBit 0:=by
    rw[xbC,xcw];have:=Nat.testBit_div_two_pow (n:=6) x (v-6);rw[show(2:Nat)^6=64 from rfl]at this;rw[this];congr 1;omega
   rw[e];cases ((x/64)>>>(v-6)).testBit 0
   ·exact xcN _
   exact B4 hj
  rw[xab h6,an.gH];have:=xbz x 6 v;rw[show(2:Nat)^6=64 from rfl]at this;rw[this];simp[hj];omega
 rw[xbz];simp[hv]
end
end
section
open aA
section
variable {B:Hp}
theorem oN{n i:Nat}{ws:zL}(hf:an.eX n ws):ws.getD i 0<18446744073709551616:=by
 by_cases h:i<ws.length
 ·rw[xar,xaa h];exact hf.lt (xaG h)
 rw[xar,xaD zO];decide
theorem q6{n i:Nat}{ws:zL}(hf:an.eX n ws)(hi:i<an.wN n):ws[i]? =some (ws.getD i 0):=by
 rw[xar,xaa (by rw[hf.len];exact hi)];rfl
theorem Pm{p1 p2 p3 s1 s2 s3:zV}{n i:Nat}{ws us rs:zL}(h1:Go.Sx.At B p1 [iv (n:Int),s1])(h2:Go.Sx.At B p2 [iv (n:Int),s2])(h3:Go.Sx.At B p3 [iv (n:Int),s3])(hw:Words B s1 ws)(hu:Words B s2 us)(hr:Words B s3 rs)(hf:an.eX n ws)(hg:an.eX n us)(hh:an.eX n rs)(hi:i<an.wN n):
  Rd zQ 346 #[iv (i:Int),p1,p2,p3] B (· =.int .u64 (((ws.getD i 0&&&us.getD i 0)|||((18446744073709551615-ws.getD i 0) &&&rs.getD i 0):Nat):Int)):=by
 have lw:=oN (i:=i) hf;have lu:=oN (i:=i) hg;have lr:=oN (i:=i) hh;refine aF λg=>G5 ?_;refine ai.at h1 λq hq=>Ld.at hq (λ_ h=>h) ?_;refine hw.1.ld (dg (q6 hf hi)) (λ_ h=>h) ?_;refine ai.at h2 λq hq=>Ld.at hq (λ_ h=>h) ?_;refine hu.1.ld (dg (q6 hg hi)) (λ_ h=>h) ?_;refine ae.jD (by simpa only[bF]using lw) (by simpa only[bF]using lu) (ai.at h1 λq hq=>Ld.at hq (λ_ h=>h) ?_);refine hw.1.ld (dg (q6 hf hi)) (λ_ h=>h) ?_;refine Un.ad4 lw ?_;refine ai.at h3 λq hq=>Ld.at hq (λ_ h=>h) ?_;refine hr.1.ld (dg (q6 hh hi)) (λ_ h=>h) ?_;exact ae.jD (by simp only[bF];omega) (by simpa only[bF]using lr) (ae.Kw (xaC xcj (by simpa only[bF]using lw)) (xaC xcj (by simp only[bF];omega)) (bc.mk (.refl _) rfl))
theorem aaw{bx n:Nat}{s1 s2 s3:zV}{ws us rs:zL}(h1:Words B s1 ws)(h2:Words B s2 us)(h3:Words B s3 rs):jF ((bx,.cells (rows [[iv (n:Int),s1],[iv (n:Int),s2],[iv (n:Int),s3]]) 116 (0,0))::B) (.slice (some ⟨bx,0,none⟩) 3 3) [⟨n,ws⟩,⟨n,us⟩,⟨n,rs⟩]:=by
 refine⟨[[iv (n:Int),s1],[iv (n:Int),s2],[iv (n:Int),s3]],(Sl.qF (aV.made (T:=116) (k:=2) (b:=bx) _ zI) zD).mono λ_ h=>by simp at h;rw[h];exact .head _,rfl,λi r x hr hx=>?_⟩
 match i with
 |0=>simp at hr hx;subst hr;subst hx;exact⟨s1,rfl,h1.mono λ_ h=>.tail _ h⟩
 |1=>simp at hr hx;subst hr;subst hx;exact⟨s2,rfl,h2.mono λ_ h=>.tail _ h⟩
 |2=>simp at hr hx;subst hr;subst hx;exact⟨s3,rfl,h3.mono λ_ h=>.tail _ h⟩
 |i+3=>simp at hr
theorem TT{v1 v2 v3:zV}{n:Nat}{f1 f2 f3:aA.Fn}(h1:kf B v1 n f1)(h2:kf B v2 n f2)(h3:kf B v3 n f3):Px zQ 279 #[v1,v2,v3] B (λr H=>∃t,r=.tuple #[t,iv 0]/\kf H t n (λx=>if f1 x then f2 x else f3 x)):=by
 obtain⟨ws,⟨s1,rfl,hw⟩,hf,rfl⟩:=h1;obtain⟨us,⟨s2,rfl,hu⟩,hg,rfl⟩:=h2;obtain⟨rs,⟨s3,rfl,hr⟩,hh,rfl⟩:=h3;refine aF λg=>HZ ?_;intro b1 _ b3 _ b5 _ b7 _;refine ay.q ?_;refine ay.q ?_;refine ay.q ?_;refine av.XW (e:=116) (z:=.agg #[iv 0,.slice none 0 0]) zK zK zK λbx=>?_;refine aa.rd .here (Dg (aaw (n:=n) (hw.mono zS) (hu.mono zS) (hr.mono zS)) (by show 3<2^62;decide)) ?_;rintro w rfl;rw[xam (by
  intro t ht;simp only[xak,xaS,xby]at ht;rcases ht with rfl|rfl|rfl
  ·exact⟨⟨by simp,by simpa using hf⟩,rfl⟩
  ·exact⟨⟨by simp,by simpa using hg⟩,rfl⟩
  exact⟨⟨by simp,by simpa using hh⟩,rfl⟩)]
 refine Un.not (Br.no (Ld.f ?_));refine aa.pre (H':=(b7,.cells #[iv 0,.slice none 0 0] 116 (0,0))::(b5,.cells #[iv (n:Int),s3] 116 (0,0))::(b3,.cells #[iv (n:Int),s2] 116 (0,0))::(b1,.cells #[iv (n:Int),s1] 116 (0,0))::B) .tail ?_;have ol:∀i,(ws.getD i 0&&&us.getD i 0)|||((18446744073709551615-ws.getD i 0) &&&rs.getD i 0)<18446744073709551616:=λi=>
  xbF (n:=64) (xaC xcj (oN hf)) (xaC xc5 (oN hh))
 refine aa.pq (ua hf.xC rfl zK (F:=λi=>(ws.getD i 0&&&us.getD i 0)|||((18446744073709551615-ws.getD i 0) &&&rs.getD i 0)) (λi _=>ol i) (B:=(b5,.cells #[iv (n:Int),s3] 116 (0,0))::(b3,.cells #[iv (n:Int),s2] 116 (0,0))::(b1,.cells #[iv (n:Int),s1] 116 (0,0))::B)
  λi hi=>Pm (Go.Sx.At.block (l:=[iv (n:Int),s1]) zM) (Go.Sx.At.block (l:=[iv (n:Int),s2]) zM) (Go.Sx.At.block (l:=[iv (n:Int),s3]) zM) (hw.mono zS) (hu.mono zS) (hr.mono zS) hf hg hh hi) ?_
 rintro w N ⟨s',rfl,eL⟩;refine St.p ?_ ?_
 ·have:=bO eL;simpa[Value.oneCell']using this
 refine ay.q ?_;refine Gm.mk (by repeat (first|exact bV.refl _|apply bV.cons|apply bV.app)) ⟨_,rfl,_,⟨s',rfl,eL.mono zS⟩,r6 hf.xC,vW (λx hx=>?_) (λx=>by rw[AI,AI,AI])⟩;rw[xbY,xbg,xbg,Uy (oN hf) (xbB _ zD),uv hx,uv hx,uv hx];cases oZ n ws x<;>cases oZ n us x<;>cases oZ n rs x<;>rfl
end
end
end Go.Proofs
namespace Go.Sx
open Go
section
variable {P:Program} {g:Gh} {H B:Hp} {c:Hp->Hp}
theorem aM.X2{x:Nat×Obj}(h:x∈H):aM H [x]:=by
 obtain⟨A,D,rfl⟩:=xdc h;exact .dm (aM.left (A:=[x]))
end
end Go.Sx
set_option maxRecDepth 100000
namespace Go.Proofs
open Go Go.Sx
section
open aA
section
variable {kp gb n:Nat} {vr vf:zV} {refs:zL} {fs:List (zL)} {K:Kd} {S:Nat->aA.Fn} {ord ah tr:zL} {C B:Hp}
theorem cc.perm(hK:cc kp K S ord ah tr C):ord.Perm (List.range K.n):=by
 have mQ:=hK.od;refine kB ?_ (λx hx=>?_) (by rw[xaI,mQ.len];exact xaj _)
 ·refine List.pairwise_iff_getElem.2 λi j hi hj hij e=>?_;have g1:=(mQ.aZ i (by rw[<-mQ.len];exact hi)).2;have g2:=(mQ.aZ j (by rw[<-mQ.len];exact hj)).2;rw[xar,xaa hi,e]at g1;rw[xar,xaa hj]at g2;omega
 obtain⟨i,hi,rfl⟩:=xba.1 hx;rw[mQ.len]at hi;have:=(mQ.aZ i hi).1;rw[xar,xaa (by rw[mQ.len];exact hi)]at this;exact xaM.2 this
end
end
section
open aA
theorem P9{B:Hp}{v1 v2:zV}{p q:zL}{n:Nat}(h1:dA .i64 B v1 (iw p))(h2:dA .i64 B v2 (iw q))(hp:p.Perm (List.range n))(hq:q.Perm (List.range n))(hn:n<=64):
  Fc zQ 284 #[v1,v2] B (λr H=>∃s C,r=.tuple #[s,iv 0]/\H=C++B/\aQ 3 .i64 s (iw (path p q)) C):=by
 have e1:p.length=n:=by rw[hp.length_eq,xaI]
 have e2:q.length=n:=by rw[hq.length_eq,xaI]
 have eY:q.Nodup:=hq.nodup_iff.2 xbj;have hpq:=hp.trans hq.symm;refine aF λg=>HV ?_;refine aa.eq (V8 h1 h2 hp hq hn) (ae.cG (Br.F (aa.fq (wj h1 (by rw[ak];omega)) ?_)));rintro va H ⟨CA,rfl,hA⟩;refine h2.bP ?_;rw[ak];refine⟨λvs H=>∃(i:Nat) (w9:zV) (C N:Hp),vs=[w9,iv (i:Int)]/\i<=n/\H=C++(N++B)/\aQ 3 .i64 w9 (iw (eo p q i)) C/\aQ 3 .i64 va (iw (az p (eo p q i))) N,λvs _=>n-bL vs 1,
  JE.mk ⟨0,_,[],CA,rfl,xaO _,rfl,aQ.nil,hA⟩,?_⟩
 rintro w9 w10 H ⟨i,u9,C,N,⟨⟩,hi,rfl,ho,hw⟩ gs;refine ae.fi (Br.dec (λhlt=>?_) (λhlt=>?_));rotate_left
 ·obtain rfl:i=q.length:=by omega
  exact aN.mk (.cW .right _) ⟨w9,C,rfl,rfl,ho⟩
 have spec:=jQ eY hpq i zO;obtain⟨s1,s2,s3⟩:=spec;obtain⟨s4,s5⟩:=s3 hlt;have ahv:=rY eY hpq (i+1) zO;have qo:(i+1)*p.length<=64*64:=xcb zO zO;refine h2.ld (n:=((q.getD i 0:Nat):Int)) (bH hlt) (λ_ h=>xac _ (xac _ h)) ?_;have hmem:q.getD i 0∈az p (eo p q i):=by
  have:q.getD i 0∈q:=by rw[xar,xaa hlt];exact xaG _
  exact((k8 s1).trans hpq).mem_iff.2 this
 refine aa.eq (L9 hw.ints (by rw[ak,fQ];omega)) ?_;rw[xae (Qs.2 hmem),Yg];refine⟨λvs H=>∃(j:Nat) (u9:zV) (P:zL) (C N:Hp),vs=[u9,iv (j:Int)]/\i<=j/\j<n/\P++F6 i j=eo p q (i+1)/\H=C++(N++B)/\aQ 3 .i64 u9 (iw P) C/\aQ 3 .i64 va (iw (az p P)) N,λvs _=>bL vs 1,
  JE.mk ⟨ZQ (az p (eo p q i)) (q.getD i 0),w9,eo p q i,C,N,rfl,s4,by omega,rfl,rfl,ho,hw⟩,?_⟩
 rintro w22 w23 H ⟨j,u9,P,C2,N2,⟨⟩,hij,Tn,hP,rfl,rH,pg⟩ gs;refine ae.m9 (Br.dec (λhgt=>?_) (λhgt=>?_))
 ·obtain⟨j,rfl⟩:∃k,j=k+1:=⟨j-1,by omega⟩;have hPl:P.length<=4096:=by
   have:=xce List.length hP;rw[xaf]at this;omega
  have hlen:(az p P).length=n:=by rw[fQ,e1]
  refine DR.self (ae.bY (b:=1) ?_);rw[xb5];refine pg.ld (x:=(((az p P).getD (j+1) 0:Nat):Int)) (bH zO) (λ_ h=>xac _ (xad _ h)) ?_;refine ae.bY (b:=1) ?_;rw[xb5];refine pg.ld (x:=(((az p P).getD j 0:Nat):Int)) (bH zO) (λ_ h=>xac _ (xad _ h)) ?_;refine pg.nj (x:=(((az p P).getD (j+1) 0:Nat):Int)) (.app .left) (by rw[ak];omega) λN3 U5=>?_;refine U5.nj (x:=(((az p P).getD j 0:Nat):Int)) (.app .left) (by rw[xbN,ak];omega) λN4 hw4=>?_;have e:((iw (az p P)).set j (((az p P).getD (j+1) 0:Nat):Int)).set (j+1) (((az p P).getD j 0:Nat):Int)=iw (az p (P++[j])):=by
   rw[gA];unfold fR;rw[fj,fj]
  rw[e]at hw4;refine ae.bY (b:=1) ?_;rw[xb5];refine av.int (e:=3) zK zK zK λbx=>?_;refine rH.rB (.cons .left) (by exact .head _) (by rw[ak];omega) (by rw[ak];omega) λv' C3 Av=>?_;refine ae.bY (b:=1) ?_;rw[xb5];refine aC.of .tail ⟨j,v',P++[j],C3,N4,rfl,by omega,by omega,?_,rfl,by rw[cj];exact Av,hw4⟩ ?_
  ·rw[<-hP,rz (show i<=j by omega),xai];rfl
  simp only[bL];omega
 obtain rfl:j=i:=by omega
 rw[AQ (xaj _),xaL]at hP;subst hP;exact ae.inc (aC.of (.refl _) ⟨j+1,w22,C2,N2,rfl,by omega,rfl,rH,pg⟩ (by simp only[bL];omega))
def wk(b kp f d:Nat)(ok:Bool):Nat×Obj:=(b,.cells #[ptr kp,iv (f:Int),iv (d:Int),.bool ok] 417 (0,0))
section
variable {kp b f d:Nat} {K:Kd} {S:Nat->aA.Fn} {ord tr:zL} {C:Hp}
theorem LL(h:At kp K S ord tr C):Fc zQ 352 #[ptr kp] C (λr H=>∃b,r=ptr b/\H=wk b kp tr.length 0 false::C):=by
 refine aF λg=>GW ?_;refine aa.eq (rA h) (Build.mk (cs:=[ptr kp,iv ((tr.length:Nat):Int),iv 0,.bool false]) zK ?_);intro b _;exact aN.here ⟨b,rfl,rfl⟩
theorem O7(h:At kp K S ord tr C){l:Nat}(hl:l+1<K.n)(eM:tr.length<17592186044416)(hf:jb K S ord l)(hd:d<4611686018427387904):
  Fc zQ 355 #[ptr b,iv (l:Int)] (wk b kp f d false::C) (λr H=>r=iv 0/\∃C',H=wk b kp f (d+1) false::C'/\At kp K S (fR ord l) (tr++[l]) C'):=by
 refine aF λg=>wL ?_;refine Ld.n ?_;refine aa.fq (ur h hl eM hf) ?_;rintro v C' ⟨rfl,h'⟩;intro J hJ;refine ae.gU (Br.T (Ld.n ?_));refine ae.inc (Nil.ptr (ai.mk (St.one (by exact .head _) rfl zI rfl ?_)));exact JE.mk (hJ _ λgs=>aN.here ⟨rfl,C',rfl,h'⟩)
theorem O8(h:At kp K S ord tr C){l:Nat}(hl:l+1<K.n)(eM:tr.length<17592186044416)(hf:¬jb K S ord l):
  Rd zQ 355 #[ptr b,iv (l:Int)] (wk b kp f d false::C) (· =iv 9):=by
 refine aF λg=>wL ?_;refine Ld.n ?_;refine aa.eq (mX h hl eM hf) ?_;intro J hJ;exact ae.gU (Br.F (JE.mk (hJ _ λgs=>bc.mk (.refl _) rfl)))
theorem O9{ok:Bool}{path:zL}(h:At kp K S (az ord path) (tr++path) C)(hp:∀l∈path,l+1<K.n)(eM:(tr++path).length<17592186044416)(hd:d<4611686018427387904):
  Fc zQ 390 #[ptr b] (wk b kp tr.length d ok::C) (λr H=>r=.tuple #[]/\∃C',H=wk b kp tr.length (d+path.length) ok::C'/\At kp K S ord tr C'):=by
 have yK:path.length<17592186044416:=by rw[xaf]at eM;omega
 refine aF λg=>Gx ?_;refine DR.of (R:=[wk b kp tr.length d ok]) (aM.left (A:=[_]) (B:=C)) (Ld.n ?_);refine Ld.n ?_;refine aa.fq (args:=#[ptr kp,iv ((tr.length+0:Nat):Int)]) (Lm h hp (xaO _) eM) ?_;rintro v C' ⟨rfl,h'⟩;rw[xeb,xaL]at h';refine⟨aM.left (A:=[_]) (B:=C'),?_⟩;refine Ext.two (Ld.n ?_);refine ae.fH (Nil.ptr (ai.mk (St.one (by exact .head _) rfl zI rfl ?_)));exact aN.here ⟨rfl,C',rfl,h'⟩
theorem LH:Rd zQ 354 #[ptr b] (wk b kp f d true::C) (· =.tuple #[]):=by
 refine aF λg=>wM ?_;refine Ld.n ?_;exact Un.not (Br.no (bc.mk (.refl _) rfl))
theorem LI{path:zL}(h:At kp K S (az ord path) (tr++path) C)(hp:∀l∈path,l+1<K.n)(eM:(tr++path).length<17592186044416)(hd:d<4611686018427387904):
  Fc zQ 354 #[ptr b] (wk b kp tr.length d false::C) (λr H=>r=.tuple #[]/\∃C',H=wk b kp tr.length (d+path.length) false::C'/\At kp K S ord tr C'):=by
 refine aF λg=>wM ?_;refine Ld.n ?_;refine Un.not (Br.yes (aa.fq (O9 h hp eM hd) ?_));rintro v H ⟨rfl,C',rfl,h'⟩;exact aN.here ⟨rfl,C',rfl,h'⟩
theorem DM(h:At kp K S ord tr C){v:Nat}(hv:v<K.n):Rd zQ 150 #[ptr kp,iv (v:Int)] C (λr=>∃p,p<K.n/\ord.getD p 0=v/\r=.tuple #[iv (p:Int),iv 0]):=by
 obtain⟨K',S',bW,h,hk⟩:=h;obtain⟨b,rfl,hO⟩:=h.rep;have hn:=hO.lq;have nR:v<K'.n:=by rw[hk.n];exact hv
 have hlen:v<bW.length:=by rw[hO.ol.2];exact nR
 refine aF λg=>qh ?_;refine ae.aD (Br.no (aa.eq (qQ h.rep (v:Int)) ?_));rw[xam zO];refine Un.not (Br.no (Ld.n ?_));refine hO.lv.ld (x:=((bW.getD v 0:Nat):Int)) (bH hlen) (bG.sub (.cons (.app (.app (.app (.app (.app .left))))))) ?_;refine bc.mk (.refl _) ⟨bW.getD v 0,?_,?_,rfl⟩
 ·rw[<-hk.n];exact h.ok.lv.lt v nR
 exact h.od.of h.ok.lv nR
theorem DL(h:At kp K S ord tr C){v:Int}(hv:v<0\/(K.n:Int)<=v):Rd zQ 150 #[ptr kp,iv v] C (· =.tuple #[iv 0,iv 2]):=by
 obtain⟨K',S',bW,h,hk⟩:=h;have hn:=hk.n;refine aF λg=>qh ?_;refine ae.aD (Br.no (aa.eq (qQ h.rep v) ?_));rw[xal zO];exact Un.not (Br.yes (bc.mk (.refl _) rfl))
def Lu(kp:Nat)(K:Kd)(S:Nat->aA.Fn)(ord tr ls:zL)(r:zV)(C:Hp):Prop:=
 ((rm K S).can ord ls=true/\r=.tuple #[iv ((ls.length:Nat):Int),iv 0]/\At kp K S (az ord ls) (tr++ls) C)\/
 ((rm K S).can ord ls=false/\r=.tuple #[iv ((2*((rm K S).dL 0 ls ord).length:Nat):Int),iv 9]/\At kp K S ord tr C)
theorem UG{Y:Hp}{v:zV}{ls:zL}(h:At kp K S ord tr C)(hI:dA .i64 Y v (iw ls))(hp:∀l∈ls,l+1<K.n)(eM:tr.length+ls.length<17592186044416):
  Fc zQ 285 #[ptr kp,v] (Y++C) (λr H=>∃C',H=Y++C'/\Lu kp K S ord tr ls r C'):=by
 let m:=rm K S
 have hgl:=m.lZ 0 ls ord;have hpt:∀i,∀l∈ls.take i,l+1<K.n:=λi l hl=>hp l (xcE hl);refine aF λg=>HU ?_;intro b1 _;refine aa.fq (LL h) ?_;rintro v3 H ⟨b,rfl,rfl⟩;intro b5 _;refine St.one (by exact .head _) rfl zI rfl ?_;refine hI.bP ?_;rw[ak];refine⟨λvs H=>∃i C2,i<=(m.dL 0 ls ord).length/\vs=[iv (i:Int)]/\H=(b5,.cells #[ptr b] 414 (0,0))::(b1,.cells #[iv 0] 3 (0,0))::(Y++(wk b kp tr.length i false::C2))/\At kp K S (az ord (ls.take i)) (tr++ls.take i) C2,
  λvs _=>ls.length-bL vs 0,JE.mk ⟨0,C,xaO _,rfl,rfl,by simpa[az]using h⟩,?_⟩
 rintro w13 H ⟨i,C2,hi,⟨⟩,rfl,h2⟩ gs;have Rf:(tr++ls.take i).length<17592186044416:=by rw[xaf,xbD];omega
 refine ae.fi (Br.dec (λhlt=>?_) (λhlt=>?_))
 ·refine hI.ld (n:=((ls.getD i 0:Nat):Int)) (bH hlt) (λ_ h=>.tail _ (.tail _ (xad _ h))) ?_;have eg:ls.getD i 0=ls[i]:=by rw[xar,xaa hlt];rfl
  have CV:ls.getD i 0+1<K.n:=by rw[eg];exact hp _ (xaG hlt)
  have eq:ls[i]? =some (ls.getD i 0):=by rw[eg];exact xaa hlt
  refine Ld.q ?_;by_cases hg:i<(m.dL 0 ls ord).length
  ·have hf:jb K S (az ord (ls.take i)) (ls.getD i 0):=pS.1 (m.RW hg eq);refine aa.fn (.cons (.cons (.app .here))) (O7 h2 CV Rf hf zO) ?_;rintro r H ⟨rfl,C3,rfl,h3⟩;refine ae.cG (Br.F (ae.inc (aC.mk ⟨i+1,C3,hg,rfl,rfl,?_⟩ (by simp only[bL];omega))));have e:ls.take (i+1)=ls.take i++[ls.getD i 0]:=by rw[xbp,eq];rfl
   rw[e,gA,<-xai];exact h3
  obtain rfl:i=(m.dL 0 ls ord).length:=by omega
  have hf:¬jb K S (az ord (ls.take (m.dL 0 ls ord).length)) (ls.getD (m.dL 0 ls ord).length 0):=λhf=>by
   have h8:=m.M8 eq;have h9:=pS.2 hf;rw[show(rm K S).fit _ _=false from h8]at h9;cases h9
  refine aa.eq (O8 h2 CV Rf hf) (ae.cG (Br.T (St.one (by exact .tail (.head _)) rfl zI rfl ?_)));refine tA (R:=_) ?_;unfold L353;refine Ld.q ?_;refine aa.fn (.cons (.cons (.app .here))) (LI h2 (hpt _) Rf zO) ?_;rintro r H ⟨rfl,C3,rfl,h3⟩;refine Ld.q ?_;have eD:(m.dL 0 ls ord).length+(ls.take (m.dL 0 ls ord).length).length=2*(m.dL 0 ls ord).length:=by rw[xbD];omega
  rw[eD];refine Ld.n ?_;refine St.one (by exact .tail (.head _)) rfl zI rfl ?_;refine⟨⟨_,rfl⟩,?_⟩;refine Ld.q ?_;refine aN.mk (.skip (.skip (.cW .tail _))) ⟨C3,rfl,.inr ⟨xal (show¬(m.dL 0 ls ord).length=ls.length by omega),rfl,h3⟩⟩
 have Ri:i=ls.length:=by omega
 subst Ri;rw[xbh]at h2;have hcan:(rm K S).can ord ls=true:=xam (show(m.dL 0 ls ord).length=ls.length by omega);refine Ld.q ?_;refine Nil.ptr (ai.mk (St.one (c6.tail (c6.tail (c6.ca (.head _) _))) rfl zI rfl ?_));refine St.one (by exact .tail (.head _)) rfl zI rfl ?_;refine tA (R:=_) ?_;unfold L353;refine Ld.q ?_;refine aa.eq (B:=wk b kp tr.length ls.length true::C2) LH (Ld.q ?_);refine Ld.n ?_;refine St.one (by exact .tail (.head _)) rfl zI rfl ?_;refine⟨⟨_,rfl⟩,?_⟩;refine Ld.q ?_;refine aN.mk (.skip (.skip (.cW .tail _))) ⟨C2,rfl,.inl ⟨hcan,rfl,h2⟩⟩
end
section
variable {kp b f d:Nat} {K:Kd} {S:Nat->aA.Fn} {ord tr:zL} {C:Hp}
theorem Lu.tup{ls:zL}{r:zV}(h:Lu kp K S ord tr ls r C):∃x y,r=.tuple #[x,y]:=by
 rcases h with⟨_,rfl,_⟩|⟨_,rfl,_⟩<;>exact⟨_,_,rfl⟩
theorem Qk{Y:Hp}{v:zV}{q:zL}(h:At kp K S ord tr C)(hI:dA .i64 Y v (iw q))(Yt:ord.Perm (List.range K.n))(hpq:q.Perm (List.range K.n))(eM:tr.length<17454747090944):
  Fc zQ 195 #[ptr kp,v] (Y++C) (λr H=>∃C',H=Y++C'/\Lu kp K S ord tr (path ord q) r C'):=by
 have hn:=h.lq;have Ba:ord.length=K.n:=by rw[Yt.length_eq,xaI]
 have hql:q.length=K.n:=by rw[hpq.length_eq,xaI]
 have eY:q.Nodup:=hpq.nodup_iff.2 xbj;refine aF λg=>IY ?_;refine ae.aD (Br.no ?_);intro J2 Bg;refine aa.rq (rX hI (by rw[ak];omega)) ?_;rintro r (⟨rfl,ha,hl⟩|⟨_,_,hl⟩|⟨_,hno⟩);rotate_left
 ·rw[ak]at hl;omega
 ·exact absurd (wC hpq) hno
 refine ae.cG (Split.go zD ?_);refine hI.bP ?_;refine aa.eq (mW h) (ae.tH ?_);rw[xal (by rw[ak];omega)];refine aI.mk (JE.mk (Bg _ _ λgs=>Br.no ?_));refine aa.fq (DK h) ?_;rintro vo H ⟨N,rfl,ho⟩;refine aa.pre (H':=(N++Y)++C) (.perm (by rw[xai,<-xai,<-xai];exact xbb.append_right C)) ?_;refine aa.fq (P9 (ho.ints.mono λ_ h=>xad _ h) (hI.mono λ_ h=>xac _ h) Yt hpq hn) ?_;rintro r H ⟨s,CP,rfl,rfl,hP⟩;refine Ext.mk rfl (Ext.mk rfl (ae.cG (Br.F ?_)));obtain⟨_,yK⟩:=Ae eY (Yt.trans hpq.symm);have ahu:(path ord q).length<=4096:=by
  have:=rY eY (Yt.trans hpq.symm) q.length (xaj _);have h2:q.length*ord.length<=64*64:=xcb zO zO;unfold path;omega
 refine aa.fq (UG h (hP.ints.mono λ_ h=>xad _ h) (λx hx=>by have:=yK x hx;omega) zO) ?_;rintro r H ⟨C',rfl,hM⟩;obtain⟨x,y,rfl⟩:=hM.tup;refine Ext.two (aN.mk ?_ ⟨C',rfl,hM⟩);rw[xai,xai];exact aM.right.trans .right
def UO(p:Nat):Nat->Nat->Nat
 |0,_=>p
 |_,k=>p-k
def MX(n p:Nat):Nat->Nat->Nat
 |0,k=>p+k
 |_,_=>n-1
end
end
end Go.Proofs
namespace aA
theorem rU{p j:Nat}(h:p<=j):road p (j+1)=road p j++[j]:=by
 unfold road;rw[show p-(j+1)=0 by omega,show p-j=0 by omega,show j+1-p=(j-p)+1 by omega,List.range'_concat];simp;omega
theorem rV{p j:Nat}(h:j<p):road p j=road p (j+1)++[j]:=by
 unfold road;rw[show j-p=0 by omega,show j+1-p=0 by omega,show p-j=(p-(j+1))+1 by omega,List.range'_succ];simp
theorem gB(p:Nat):road p p=[]:=by unfold road;simp
end aA
set_option maxRecDepth 100000
namespace Go.Proofs
open Go Go.Sx
open aA
section
variable {kp gb n:Nat} {vr vf:zV} {refs:zL} {fs:List (zL)} {K:Kd} {S:Nat->aA.Fn} {ord tr:zL} {C Z:Hp}
theorem Kt{ord:zL}(hp:ord.Perm (List.range n)):∀i,i<n->ord.getD i 0<n:=λi hi=>by
 have Ba:ord.length=n:=by rw[hp.length_eq,xaI]
 have:ord.getD i 0∈ord:=by rw[xar,xaa zO];exact xaG _
 exact xaM.1 (hp.mem_iff.1 this)
end
end Go.Proofs
namespace Go.Sx
open Go Go.ChangeShapes Go.WideShapes Go.Deep
section
variable {H:Type} {enc:TypeId×zV->H} {P:Program} {W:World} {base:Nat} {spare:Nat->Bool} {held:Bool}
theorem sK(a:Addr)(n:Nat):(a.add n).block=a.block:=by unfold Addr.add;split<;>rfl
theorem AX(a:Addr)(n:Nat):(a.add n).off=a.off+n:=by unfold Addr.add;split<;>simp_all
theorem kJ{b:Nat}{a:Addr}{k:Nat}{cs:List zV}(hk:0<k)(h:W.cells? b a k=some cs):
  a.spot=none/\∃c T fz,W.heap[a.block]? =some (.cells c T fz)/\a.off+k<=c.size/\c.extract a.off (a.off+k)=cs.toArray:=by
 obtain⟨_,hl,hg⟩:=World.cells?_some h;have h0:=hg 0 hk;have hc0:W.cell? a=some (cs[0]' zO):=by
  have:a.add 0=a:=by simp[Addr.add]
  rw[this]at h0;rw[h0];exact xaa zO
 unfold World.cell? at hc0;split at hc0
 ·rename_i c T fz hb;cases hs:a.spot with
  |some s=>rw[hs]at hc0;simp at hc0
  |none=>
   have hcell:∀i,i<k->c[a.off+i]? =cs[i]? :=λi hi=>by
    have:=hg i hi;unfold World.cell? at this;rw[sK,hb]at this;simp only[AX]at this;have hsp:(a.add i).spot.isSome=false:=by unfold Addr.add;split<;>simp[hs]
    rw[hsp]at this;simpa using this
   have hsz:a.off+k<=c.size:=by
    have:=hcell (k-1) zO;rw[xaa zO]at this;have:=(xaU.1 this).1;omega
   refine⟨rfl,c,T,fz,hb,hsz,?_⟩;apply Array.ext_getElem?;intro i;rw[xdh];by_cases hi:i<k
   ·rw[xae zO,hcell i hi];simp
   rw[xab zO];simp;omega
 simp at hc0
theorem ZR{t e:TypeId}{v:zV}{d:DataW H}{ps:List MemPlace}{r:Reach}{b0 k:Nat}(ht:P.underlying t=some (.slice e))(hk:P.cellsOf e=k)(YF:0<k)(hv:Value.okWide P W r b0 t v)(h:DataW.Trod enc P W base spare held t v d ps):
  (v=.slice none 0 0/\d=.nil)\/∃(a:Addr) (n cap:Nat) (es sp:List (DataW H)),v=.slice (some a) n cap/\d=.slice es sp/\es.length=n/\n<=cap/\
   ∀i,i<n->∃c T fz cs,a.spot=none/\(a.block,Obj.cells c T fz)∈whole W/\a.off+i*k+k<=c.size/\c.extract (a.off+i*k) (a.off+i*k+k)=cs.toArray/\∃fuel y,DataW.trod enc P W base spare held fuel e cs=some y/\cs.length=k:=by
 obtain⟨a0,n0,c0,rfl⟩:=okWide_slice ht hv;obtain⟨fuel,hf⟩:=h;rcases open_slice ht hf with⟨h1,h2⟩|⟨a,len,cap,m,n,D,Pl,hcs,hb,hl,hm,xI,hx,hi⟩
 ·left;simp only[Value.cells,xau,xa0]at h1;simp only[xdv]at h2;exact⟨by simpa using h1,h2.1⟩
 right;simp only[xdv]at hx;have nR:Value.slice a0 n0 c0=.slice (some a) len cap:=by simpa[Value.cells]using hcs
 have hlm:len<=m:=by rw[xI];split<;>omega
 refine⟨a,len,cap,_,_,nR,hx.1,by simp,hl,λi hin=>?_⟩;have hkk:=hk;have CG:a.spot=none:=by
  obtain⟨cs0,hc0,_⟩:=hi 0 zO;rw[hk]at hc0;rw[show a.add (0*k)=a by simp[Addr.add]]at hc0;exact(kJ YF hc0).1
 obtain⟨cs,hc,hd⟩:=hi i zO;rw[hk]at hc;obtain⟨_,hlen,_⟩:=World.cells?_some hc;obtain⟨_,c,T,fz,h1,h2,h3⟩:=kJ YF hc;rw[sK]at h1;rw[AX]at h2 h3;exact⟨c,T,fz,cs,CG,ym h1,h2,h3,n,_,hd,hlen⟩
theorem LZ{t e:TypeId}{cs:List zV}{x:DataW H×List MemPlace}{fuel k:Nat}(ht:P.underlying t=some (.slice e))(hk:P.cellsOf e=k)(YF:0<k)(h:DataW.trod enc P W base spare held fuel t cs=some x):
  ∃(v:zV) (rs:List (List zV)),cs=[v]/\Sl k (whole W) v rs/\((rs=[]/\x.1=.nil)\/∃es sp,x.1=.slice es sp/\es.length=rs.length)/\
   ∀(i:Nat) (r:List zV),rs[i]? =some r->∃(fuel:Nat) (y:DataW H×List MemPlace) (es sp:List (DataW H)),DataW.trod enc P W base spare held fuel e r=some y/\x.1=.slice es sp/\es[i]? =some y.1:=by
 rcases open_slice ht h with⟨h1,h2⟩|⟨a,len,cap,m,n,D,Pl,hcs,hb,hl,hm,xI,hx,hi⟩
 ·exact⟨_,[],h1,Sl.nil _ _,.inl ⟨rfl,by rw[h2]⟩,λi r hr=>by simp at hr⟩
 have hlm:len<=m:=by rw[xI];split<;>omega
 have hex:∃rs:List (List zV),rs.length=len/\∀i r,rs[i]? =some r->W.cells? base (a.add (i*k)) k=some r/\DataW.trod enc P W base spare held n e r=some (D i,Pl i):=by
  clear hcs hx hl xI;induction len with
  |zero=>exact⟨[],rfl,λi r hr=>by simp at hr⟩
  |succ len ih=>
   obtain⟨rs,h1,h2⟩:=ih zO;obtain⟨r,h3,h4⟩:=hi len zO;rw[hk]at h3;refine⟨rs++[r],by simp[h1],λi r' hr=>?_⟩;by_cases hlt:i<rs.length
   ·rw[xaW hlt]at hr;exact h2 i r' hr
   rw[xbM zO]at hr;have Fx:i-rs.length=0:=by
    by_cases e:i-rs.length=0
    ·exact e
    rw[xaD zP]at hr;cases hr
   rw[Fx]at hr;simp only[xcL,xaq]at hr;subst hr;obtain rfl:i=len:=by omega
   exact⟨h3,h4⟩
 obtain⟨rs,CI,A9⟩:=hex;have aH:∀r∈rs,r.length=k:=λr hr=>by
  obtain⟨i,hi,e⟩:=xba.1 hr;obtain⟨hc,_⟩:=A9 i r (by rw[xaa hi,e]);exact(World.cells?_some hc).2.1
 refine⟨.slice (some a) len cap,rs,hcs,⟨aH,?_⟩,.inr ⟨_,_,by rw[hx],by simp[CI]⟩,λi r hr=>?_⟩
 ·cases rs with
  |nil=>exact .inl ⟨some a,cap,by rw[<-CI];rfl,rfl⟩
  |cons r0 rest=>
   right;obtain⟨hc0,_⟩:=A9 0 r0 rfl;obtain⟨CG,c,T,fz,hb0,_,_⟩:=kJ YF hc0;rw[show a.add (0*k)=a by simp[Addr.add]]at CG hb0;obtain⟨ab,ao,asp⟩:=a;simp only at CG hb0;subst CG;have abV:∀i r,(r0::rest)[i]? =some r->ao+i*k+k<=c.size/\c.extract (ao+i*k) (ao+i*k+k)=r.toArray:=λi r hr=>by
    obtain⟨hc,_⟩:=A9 i r hr;obtain⟨_,c',T',fz',h1,h2,h3⟩:=kJ YF hc;rw[sK]at h1;rw[AX]at h2 h3;simp only at h1 h2 h3;rw[hb0]at h1;simp only[xaq,Obj.cells.injEq]at h1;obtain⟨rfl,_,_⟩:=h1;exact⟨h2,h3⟩
   refine⟨ab,ao,cap,c,T,fz,by rw[CI],by omega,ym hb0,?_,λi r hr j v hj=>?_⟩
   ·have aby:=abV (rest.length) ((r0::rest)[rest.length]' zI) (xaa zI);have:=aby.1;simp only[xay,xbu];omega
   obtain⟨h1,h2⟩:=abV i r hr;have Vn:j<k:=by
    have:=(xah.1 hj).1;rw[aH r (xaw hr)]at this;exact this
   have h3:=xce (λz:Array zV=>z[j]?) h2;simp only[xdh,xdo]at h3;rw[hj]at h3;rw[<-h3,xae zO]
 obtain⟨_,hd⟩:=A9 i r hr;have Ri:i<len:=by rw[<-CI];exact(xah.1 hr).1
 exact⟨n,_,_,_,hd,by rw[hx],by simp[Ri]⟩
end
end Go.Sx
set_option maxRecDepth 100000
namespace Go.Proofs
open Go Go.Sx
section
open Go.ChangeShapes Go.WideShapes Go.Deep
variable {H:Type} {enc:TypeId×zV->H} {W:World} {base:Nat} {spare:Nat->Bool} {held:Bool}
theorem US{f:FuncId}{args:Array zV}{W:World}(h:Rd zQ f args (whole W) (· =.bool true)):
  Calls zQ f args W λe W'=>e=.returned (.bool true)/\Go.RowKit.Below W.heap.size W W':=
 X8 (h.mono λ_ _ ⟨h1,h2⟩=>⟨by rw[h1];exact .refl _,h2⟩)
end
end Go.Proofs
namespace aA
def Rm.Ea(m:Rm)(g:Nat)(ord:zL)(p:Nat)(dn:Bool):Nat->Nat->Nat->Nat->Nat×Nat×Nat
 |0,j,b,q=>(j,b,q)
 |k+1,j,b,q=>
  if m.fit (az ord (road p j)) (bif dn then j else j-1)=true then
   if(if m.size (az ord (road p (bif dn then j+1 else j-1)))<b then m.size (az ord (road p (bif dn then j+1 else j-1)))else b)*g<m.size (az ord (road p (bif dn then j+1 else j-1)))*100 then
    (bif dn then j+1 else j-1,if m.size (az ord (road p (bif dn then j+1 else j-1)))<b then m.size (az ord (road p (bif dn then j+1 else j-1)))else b,if m.size (az ord (road p (bif dn then j+1 else j-1)))<b then(bif dn then j+1 else j-1)else q)
   else m.Ea g ord p dn k (bif dn then j+1 else j-1) (if m.size (az ord (road p (bif dn then j+1 else j-1)))<b then m.size (az ord (road p (bif dn then j+1 else j-1)))else b) (if m.size (az ord (road p (bif dn then j+1 else j-1)))<b then(bif dn then j+1 else j-1)else q)
  else(j,b,q)
def dst(x y:Nat):Nat:=(x-y)+(y-x)
def Rm.rest(m:Rm)(dn:Bool)(j:Nat):Nat:=bif dn then m.n-1-j else j
def Rm.rR(m:Rm)(g:Nat)(ord:zL)(p:Nat):Nat×Nat:=
 let dn:=decide (m.n-1-p<=p)
 let a:=m.Ea g ord p dn (m.rest dn p) p (m.size ord) p
 let b:=m.Ea g ord p (!dn) (m.rest (!dn) p) p a.2.1 a.2.2
 (b.2.2,dst a.1 p+dst a.1 p+dst b.1 p+if b.2.2≠a.2.2 then dst b.1 b.2.2 else dst b.1 p+dst p b.2.2)
def Rm.ct(m:Rm)(g:Nat)(ord:zL):zL->zL×Nat
 | []=>([],0)
 |v::r=>let p:=ord.idxOf v;let a:=m.rR g ord p;let b:=m.ct g (az ord (road p a.1)) r;(road p a.1++b.1,a.2+b.2)
structure ac0(m:Rm)(ord:zL)(p:Nat)(dn:Bool)(k j b q:Nat)(r:Nat×Nat×Nat):Prop where
 way:bif dn then j<=r.1/\r.1<=j+k else r.1<=j/\j<=r.1+k
 size:r.2.1=m.size (az ord (road p r.2.2))
 new:(r.2.1=b/\r.2.2=q)\/(r.2.1<b/\bif dn then j<r.2.2/\r.2.2<=r.1 else r.1<=r.2.2/\r.2.2<j)
 fit:∀i,(bif dn then j<=i/\i<r.1 else r.1<i/\i<=j)->m.fit (az ord (road p i)) (bif dn then i else i-1)=true
theorem Rm.vy(m:Rm)(g:Nat)(ord:zL)(p:Nat)(dn:Bool):∀k j b q,(dn=false->k<=j)->b=m.size (az ord (road p q))->ac0 m ord p dn k j b q (m.Ea g ord p dn k j b q)
 |0,j,b,q,hk,hb=>⟨by cases dn<;>simp[Ea],hb,.inl ⟨rfl,rfl⟩,λi hi=>by cases dn<;>simp[Ea]at hi<;>omega⟩
 |k+1,j,b,q,hk,hb=>by
  rw[Ea];by_cases hf:m.fit (az ord (road p j)) (bif dn then j else j-1)=true
  ·rw[xae hf];obtain⟨J,hJ⟩:∃J,J=bif dn then j+1 else j-1:=⟨_,rfl⟩;rw[<-hJ];obtain⟨s,hs⟩:∃s,s=m.size (az ord (road p J)):=⟨_,rfl⟩;rw[<-hs];obtain⟨B,hB⟩:∃B,B=if s<b then s else b:=⟨_,rfl⟩
   obtain⟨Q,hQ⟩:∃Q,Q=if s<b then J else q:=⟨_,rfl⟩
   rw[<-hB,<-hQ];have hbq:(B=b/\Q=q)\/(B<b/\Q=J):=by
    by_cases h:s<b
    ·rw[xae h]at hB hQ;exact .inr ⟨by omega,hQ⟩
    rw[xab h]at hB hQ;exact .inl ⟨hB,hQ⟩
   have hb':B=m.size (az ord (road p Q)):=by
    by_cases h:s<b
    ·rw[xae h]at hB hQ;rw[hB,hQ,hs]
    rw[xab h]at hB hQ;rw[hB,hQ,hb]
   clear hB hQ;by_cases hg:B*g<s*100
   ·rw[xae hg];refine⟨?_,hb',?_,λi hi=>?_⟩
    ·cases dn
     ·simp only[xag]at hJ⊢;have:=hk rfl;omega
     simp only[xap]at hJ⊢;omega
    ·cases dn
     ·simp only[xag]at hJ⊢;have:=hk rfl;omega
     simp only[xap]at hJ⊢;omega
    have:i=j:=by
     cases dn
     ·simp only[xag]at hi hJ;omega
     simp only[xap]at hi hJ;omega
    subst this;exact hf
   rw[xab hg];have ih:=m.vy g ord p dn k J B Q (λh=>by subst h;have:=hk rfl;simp only[xag]at hJ;omega) hb';obtain⟨w1,w2,w3,w4⟩:=ih;refine⟨?_,w2,?_,λi hi=>?_⟩
   ·cases dn
    ·simp only[xag]at w1 hJ⊢;have:=hk rfl;omega
    simp only[xap]at w1 hJ⊢;omega
   ·cases dn
    ·simp only[xag]at w3 w1 hJ⊢;have:=hk rfl;omega
    simp only[xap]at w3 w1 hJ⊢;omega
   by_cases e:i=j
   ·subst e;exact hf
   refine w4 i ?_;cases dn
   ·simp only[xag]at hi hJ⊢;omega
   simp only[xap]at hi hJ⊢;omega
  rw[xab hf];exact⟨by cases dn<;>simp,hb,.inl ⟨rfl,rfl⟩,λi hi=>by cases dn<;>simp at hi<;>omega⟩
structure acW(m:Rm)(ord:zL)(p:Nat)(r:Nat×Nat):Prop where
 lt:r.1<m.n
 le:m.size (az ord (road p r.1))<=m.size ord
 stay:m.size (az ord (road p r.1))=m.size ord->r.1=p
 uC:r.2<=3*(m.n-1)
theorem Rm.z7(m:Rm)(g:Nat){ord:zL}{p:Nat}(hp:p<m.n):acW m ord p (m.rR g ord p):=by
 have ha:=m.vy g ord p (decide (m.n-1-p<=p)) (m.rest (decide (m.n-1-p<=p)) p) p (m.size ord) p (λh=>by unfold Rm.rest;rw[h];exact xaj _) (by rw[gB];rfl);unfold rR;simp only;generalize decide (m.n-1-p<=p)=dn at*;generalize m.Ea g ord p dn (m.rest dn p) p (m.size ord) p=a at*;have hb:=m.vy g ord p (!dn) (m.rest (!dn) p) p a.2.1 a.2.2 (λh=>by unfold Rm.rest;rw[h];exact xaj _) ha.size;generalize m.Ea g ord p (!dn) (m.rest (!dn) p) p a.2.1 a.2.2=b at*;obtain⟨a1,a2,a3,a4⟩:=ha;obtain⟨b1,b2,b3,b4⟩:=hb;unfold Rm.rest at a1 b1;refine⟨?_,?_,λh=>?_,?_⟩
 ·cases dn<;>simp only[xag,xap,xb0,xb8]at a1 b1 a3 b3<;>simp only<;>omega
 ·simp only;rw[<-b2];cases dn<;>simp only[xag,xap,xb0,xb8]at a1 b1 a3 b3<;>omega
 ·simp only at h⊢;rw[<-b2]at h;cases dn<;>simp only[xag,xap,xb0,xb8]at a1 b1 a3 b3<;>omega
 unfold dst;cases dn<;>simp only[xag,xap,xb0,xb8]at a1 b1 a3 b3<;>simp only<;>split<;>omega
end aA
namespace aA
section
variable {m:Rm} {g:Nat}
theorem Kp{p q:Nat}(hp:p<m.n)(hq:q<m.n):∀x∈road p q,x+1<m.n:=λx hx=>P3 hp hq hx
theorem Fl{ord:zL}{v n:Nat}(hp:ord.Perm (List.range n))(hv:v<n):ord.idxOf v<n:=by
 have h1:v∈ord:=hp.mem_iff.2 (xaM.2 hv);have h2:=xeg h1;rwa [hp.length_eq,xaI]at h2
theorem mA{ord path:zL}{n:Nat}(hp:ord.Perm (List.range n))(h:∀x∈path,x+1<n):(az ord path).Perm (List.range n):=
 (k8 λx hx=>by rw[hp.length_eq,xaI];exact h x hx).trans hp
structure Zw(m:Rm)(g:Nat)(ord l:zL)(r:zL×Nat):Prop where
 mem:∀x∈r.1,x+1<m.n
 le:m.size (az ord r.1)<=m.size ord
 stay:m.size (az ord r.1)=m.size ord->r.1=[]/\∀v∈l,(m.rR g ord (ord.idxOf v)).1=ord.idxOf v
 uC:r.2<=3*(m.n-1)*l.length
 len:r.1.length<=m.n*l.length
theorem mC:∀{l ord:zL},ord.Perm (List.range m.n)->(∀v∈l,v<m.n)->Zw m g ord l (m.ct g ord l)
 | [],ord,hp,hl=>⟨by simp[Rm.ct],xaj _,λ_=>⟨rfl,by simp⟩,by simp[Rm.ct],by simp[Rm.ct]⟩
 |v::l,ord,hp,hl=>by
  have hv:=Fl hp (hl v zI);have h1:=m.z7 g (ord:=ord) hv;rw[Rm.ct];generalize hq:ord.idxOf v=p at*;generalize hr:m.rR g ord p=a at*;obtain⟨a1,a2,a3,a4⟩:=h1;have hin:=Kp hv a1;have h2:=mC (l:=l) (ord:=az ord (road p a.1)) (mA hp hin) (λx hx=>hl x (by simp[hx]));generalize m.ct g (az ord (road p a.1)) l=b at*;obtain⟨b1,b2,b3,b4,b5⟩:=h2;have CI:=uO p a.1;refine⟨λx hx=>?_,?_,λh=>?_,?_,?_⟩
  ·rcases xan.1 hx with h|h
   ·exact hin x h
   exact b1 x h
  ·rw[cr];omega
  ·rw[cr]at h;have e:=a3 zO;rw[e,gB]at b3 h⊢;obtain⟨c1,c2⟩:=b3 h;refine⟨by rw[c1];rfl,λu hu=>?_⟩;rcases xak.1 hu with rfl|hu
   ·rw[hq,hr];exact e
   exact c2 u hu
  ·rw[xay,xdy,xb1];show a.2+b.2<=_;omega
  rw[xaf,xay,xdy,xb1];omega
def Rm.df(m:Rm)(g:Nat)(ord:zL):List (zL)->zL×Nat
 | []=>([],0)
 |l::r=>let a:=m.ct g ord l;let b:=m.df g (az ord a.1) r;(a.1++b.1,a.2+b.2)
def Rm.tf(m:Rm)(g:Nat)(ord:zL):List (zL)->Prop
 | []=>False
 | [l]=>¬m.size (az ord (m.ct g ord l).1)<m.size ord
 |l::r=>m.size (az ord (m.ct g ord l).1)<m.size ord/\m.tf g (az ord (m.ct g ord l).1) r
theorem p9{ord l:zL}{r:List (zL)}(hr:r≠[]):m.tf g ord (l::r)↔m.size (az ord (m.ct g ord l).1)<m.size ord/\m.tf g (az ord (m.ct g ord l).1) r:=by
 cases r with
 |nil=>exact absurd rfl hr
 |cons a b=>exact xcT
structure Zx(m:Rm)(g:Nat)(ord:zL)(ls:List (zL))(r:zL×Nat):Prop where
 mem:∀x∈r.1,x+1<m.n
 le:m.size (az ord r.1)<=m.size ord
 XT:1<=ls.length/\ls.length+m.size (az ord r.1)<=m.size ord+1
 still:∀v,v<m.n->(m.rR g (az ord r.1) ((az ord r.1).idxOf v)).1=(az ord r.1).idxOf v
 uC:r.2<=3*(m.n-1)*m.n*ls.length
 len:r.1.length<=m.n*m.n*ls.length
theorem Kg:∀{ls:List (zL)} {ord:zL},ord.Perm (List.range m.n)->(∀l∈ls,l.Perm (List.range m.n))->m.tf g ord ls->Zx m g ord ls (m.df g ord ls)
 | [],ord,hp,hl,hg=>hg.elim
 | [l],ord,hp,hl,hg=>by
  have Vk:=hl l zI;have nw:l.length=m.n:=by rw[Vk.length_eq,xaI]
  obtain⟨a1,a2,a3,a4,a5⟩:=mC (g:=g) hp (λv hv=>xaM.1 (Vk.mem_iff.1 hv)) (l:=l);have W8:¬m.size (az ord (m.ct g ord l).1)<m.size ord:=hg;have h:m.df g ord [l]=((m.ct g ord l).1++[],(m.ct g ord l).2+0):=rfl;rw[h,xaL,xcw];have he:m.size (az ord (m.ct g ord l).1)=m.size ord:=by omega
  obtain⟨c1,c2⟩:=a3 he;refine⟨a1,a2,⟨by simp,by simp;omega⟩,λv hv=>?_,by rw[nw]at a4;simpa using a4,by rw[nw]at a5;simpa using a5⟩;rw[c1];exact c2 v (Vk.mem_iff.2 (xaM.2 hv))
 |l::l2::r,ord,hp,hl,hg=>by
  have Vk:=hl l zI;have nw:l.length=m.n:=by rw[Vk.length_eq,xaI]
  obtain⟨a1,a2,a3,a4,a5⟩:=mC (g:=g) hp (λv hv=>xaM.1 (Vk.mem_iff.1 hv)) (l:=l);obtain⟨g1,g2⟩:=(p9 zI).1 hg;have ih:=Kg (ls:=l2::r) (mA hp a1) (λx hx=>hl x (by simp[xak.1 hx])) g2;have h:m.df g ord (l::l2::r)=((m.ct g ord l).1++(m.df g (az ord (m.ct g ord l).1) (l2::r)).1,(m.ct g ord l).2+(m.df g (az ord (m.ct g ord l).1) (l2::r)).2):=rfl;rw[h];generalize m.ct g ord l=a at*;generalize m.df g (az ord a.1) (l2::r)=b at*;obtain⟨b1,b2,b3,b4,b5,b6⟩:=ih;refine⟨λx hx=>?_,by rw[cr];omega,⟨by simp,?_⟩,?_,?_,?_⟩
  ·rcases xan.1 hx with h|h
   ·exact a1 x h
   exact b1 x h
  ·rw[cr,xay];omega
  ·rw[cr];exact b4
  ·show a.2+b.2<=_;rw[nw]at a4;rw[xay,xdy,xb1];omega
  rw[nw]at a5;rw[xaf,xay,xdy,xb1];omega
theorem ya{v:Nat}:∀{l ord:zL},m.ct g ord (l++[v])=((m.ct g ord l).1++road ((az ord (m.ct g ord l).1).idxOf v) (m.rR g (az ord (m.ct g ord l).1) ((az ord (m.ct g ord l).1).idxOf v)).1,(m.ct g ord l).2+(m.rR g (az ord (m.ct g ord l).1) ((az ord (m.ct g ord l).1).idxOf v)).2)
 | [],ord=>by simp[Rm.ct,az]
 |u::l,ord=>by
  rw[xaR,Rm.ct,Rm.ct];simp only;rw[ya (l:=l)];simp only[cr,xai,xcU]
theorem yb{l:zL}:∀{ls:List (zL)} {ord:zL},m.df g ord (ls++[l])=((m.df g ord ls).1++(m.ct g (az ord (m.df g ord ls).1) l).1,(m.df g ord ls).2+(m.ct g (az ord (m.df g ord ls).1) l).2)
 | [],ord=>by simp[Rm.df,az]
 |u::ls,ord=>by
  rw[xaR,Rm.df,Rm.df];simp only;rw[yb (ls:=ls)];simp only[cr,xai,xcU]
def Rm.su(m:Rm)(g:Nat)(ord:zL):List (zL)->Prop
 | []=>True
 |l::r=>m.size (az ord (m.ct g ord l).1)<m.size ord/\m.su g (az ord (m.ct g ord l).1) r
theorem tg{l:zL}:∀{ls:List (zL)} {ord:zL},m.su g ord ls->m.size (az (az ord (m.df g ord ls).1) (m.ct g (az ord (m.df g ord ls).1) l).1)<m.size (az ord (m.df g ord ls).1)->m.su g ord (ls++[l])
 | [],ord,_,h=>⟨h,trivial⟩
 |u::ls,ord,h1,h=>by
  refine⟨h1.1,tg (ls:=ls) h1.2 ?_⟩;rw[Rm.df]at h;simp only[cr]at h;exact h
theorem Df{l:zL}:∀{ls:List (zL)} {ord:zL},m.su g ord ls->¬m.size (az (az ord (m.df g ord ls).1) (m.ct g (az ord (m.df g ord ls).1) l).1)<m.size (az ord (m.df g ord ls).1)->m.tf g ord (ls++[l])
 | [],ord,_,h=>h
 |u::ls,ord,h1,h=>by
  rw[xaR,p9 zI];refine⟨h1.1,Df (ls:=ls) h1.2 ?_⟩;rw[Rm.df]at h;simp only[cr]at h;exact h
structure Ta(m:Rm)(g:Nat)(ord:zL)(ls:List (zL))(r:zL×Nat):Prop where
 mem:∀x∈r.1,x+1<m.n
 le:ls.length+m.size (az ord r.1)<=m.size ord
 uC:r.2<=3*(m.n-1)*m.n*ls.length
 len:r.1.length<=m.n*m.n*ls.length
theorem yR:∀{ls:List (zL)} {ord:zL},ord.Perm (List.range m.n)->(∀l∈ls,l.Perm (List.range m.n))->m.su g ord ls->Ta m g ord ls (m.df g ord ls)
 | [],ord,hp,hl,hg=>⟨by simp[Rm.df],by simp[Rm.df,az],by simp[Rm.df],by simp[Rm.df]⟩
 |l::r,ord,hp,hl,hg=>by
  have Vk:=hl l zI;have nw:l.length=m.n:=by rw[Vk.length_eq,xaI]
  obtain⟨a1,a2,a3,a4,a5⟩:=mC (g:=g) hp (λv hv=>xaM.1 (Vk.mem_iff.1 hv)) (l:=l);have ih:=yR (ls:=r) (mA hp a1) (λx hx=>hl x (by simp[hx])) hg.2;have hg1:=hg.1;rw[Rm.df];generalize m.ct g ord l=a at*;generalize m.df g (az ord a.1) r=b at*;obtain⟨b1,b2,b3,b4⟩:=ih;rw[nw]at a4 a5;refine⟨λx hx=>?_,by rw[cr,xay];omega,?_,?_⟩
  ·rcases xan.1 hx with h|h
   ·exact a1 x h
   exact b1 x h
  ·rw[xay,xdy,xb1];show a.2+b.2<=_;omega
  rw[xaf,xay,xdy,xb1];omega
end
end aA
set_option maxRecDepth 100000
namespace Go.Proofs
open Go Go.Sx
section
open aA
def g8(kp a b q gr sw:Nat)(la:Int)(st:zV):Array zV:=#[ptr kp,iv (a:Int),iv (b:Int),iv (q:Int),iv (gr:Int),iv (sw:Int),iv la,st]
def fy(wp:Nat)(c:Array zV):Nat×Obj:=(wp,.cells c 324 (0,0))
def pJ(bx wp:Nat):Nat×Obj:=(bx,.cells #[ptr wp] 321 (0,0))
def ZP(dn:Bool):Nat:=bif dn then 335 else 337
def A6(dn:Bool)(bx:Nat):zV:=.func (.func (ZP dn)) #[] #[ptr bx]
def D5:Hp->Nat
 |(_,.cells c _ _)::_=>bL c.toList 1
 |_=>0
section
variable {kp wp bx a b q gr sw p:Nat} {la:Int} {st:zV} {K:Kd} {S:Nat->aA.Fn} {ord o tr:zL} {C:Hp} {dn:Bool}
theorem Pp{l a':Nat}{d:Int}(h:At kp K S ord tr C)(hl:l+1<K.n)(eM:tr.length<17592186044416)(hf:jb K S ord l)(ha:(a:Int)+d=(a':Int))(hb:a'<1024)(A8:sw<4611686018427387904):
  Fc zQ 336 #[ptr wp,iv (l:Int),iv d] (fy wp (g8 kp a b q gr sw la st)::C) (λv H=>v=iv 0/\∃C',H=fy wp (g8 kp a' b q gr (sw+1) la st)::C'/\At kp K S (fR ord l) (tr++[l]) C'):=by
 refine aF λg=>wQ ?_;refine Ld.n ?_;refine aa.fq (ur h hl eM hf) ?_;rintro v C' ⟨rfl,h'⟩;intro J6 h6;refine ae.gU (Br.T (Ld.n ?_));refine ae.inc (Nil.ptr (ai.mk (St.one (c':=g8 kp a b q gr (sw+1) la st) (by exact .head _) rfl (by simp[g8]) rfl ?_)));refine Ld.n ?_;refine ae.wE (c:=(a':Int)) ha zO (Nil.ptr (ai.mk (St.one (c':=g8 kp a' b q gr (sw+1) la st) (by exact .head _) rfl (by simp[g8]) rfl ?_)));exact JE.mk (h6 _ λgs=>aN.here ⟨rfl,C',rfl,h'⟩)
theorem WA{l:Nat}{d:Int}(h:At kp K S ord tr C)(hl:l+1<K.n)(eM:tr.length<17592186044416)(hf:¬jb K S ord l):
  Rd zQ 336 #[ptr wp,iv (l:Int),iv d] (fy wp (g8 kp a b q gr sw la st)::C) (· =iv 9):=by
 refine aF λg=>wQ ?_;refine Ld.n ?_;refine aa.eq (mX h hl eM hf) ?_;intro J6 h6;exact ae.gU (Br.F (JE.mk (h6 _ λgs=>bc.mk (.refl _) rfl)))
theorem rO(h:At kp K S ord tr C)(Tk:1<=K.n):
  Fc zQ 266 #[ptr wp,.bool dn] (fy wp (g8 kp a b q gr sw la st)::C) (λv H=>v=.tuple #[]/\∃bx,H=fy wp (g8 kp a b q gr sw (bif dn then((K.n-1:Nat):Int)else 0) (A6 dn bx))::pJ bx wp::C):=by
 have hn:=h.lq;refine aF λg=>Ij ?_;intro b1 _;cases dn
 ·refine Br.no (Ld.q ?_);refine Nil.ptr (ai.mk (St.one (c':=g8 kp a b q gr sw 0 st) (by exact .tail (.head _)) rfl (by simp[g8]) rfl ?_));refine Ld.q ?_;refine Nil.ptr (ai.mk (St.one (c':=g8 kp a b q gr sw 0 (A6 false b1)) (by exact .tail (.head _)) rfl (by simp[g8]) rfl ?_));exact aN.mk .swap ⟨rfl,b1,rfl⟩
 refine Br.yes (DR.self (Ld.q ?_));refine Ld.q ?_;refine Ld.n ?_;intro F;refine aa.eq (mW h) (⟨.refl _,?_⟩);refine ae.bY (b:=1) (Nil.ptr (ai.mk λF=>?_));refine St.one (c':=g8 kp a b q gr sw ((K.n-1:Nat):Int) st) (by exact .tail (.head _)) rfl (by simp[g8]) rfl ?_;refine Ld.q ?_;refine Nil.ptr (ai.mk (St.one (c':=g8 kp a b q gr sw ((K.n-1:Nat):Int) (A6 true b1)) (by exact .tail (.head _)) rfl (by simp[g8]) rfl ?_));exact aN.mk .swap ⟨rfl,b1,rfl⟩
def oF(dn:Bool)(j:Nat):Nat:=bif dn then j+1 else j-1
def XJ(dn:Bool)(j:Nat):Nat:=bif dn then j else j-1
theorem P2{j:Nat}(hs:bif dn then p<=j else 0<j/\j<=p):road p (oF dn j)=road p j++[XJ dn j]:=by
 cases dn
 ·simp only[xag]at hs;obtain⟨i,rfl⟩:∃i,j=i+1:=⟨j-1,by omega⟩;exact rV hs.2
 exact rU hs
theorem BB{j:Nat}(h:At kp K S (az o (road p j)) (tr++road p j) C)(hp:p<K.n)(hs:bif dn then p<=j/\j+1<K.n else 0<j/\j<=p)(eM:(tr++road p j).length<17592186044416)(hf:jb K S (az o (road p j)) (XJ dn j))(A8:sw<4611686018427387904):
  Fc zQ (ZP dn) #[ptr bx] (fy wp (g8 kp j b q gr sw la st)::pJ bx wp::C) (λv H=>v=iv 0/\∃C',H=fy wp (g8 kp (oF dn j) b q gr (sw+1) la st)::pJ bx wp::C'/\At kp K S (az o (road p (oF dn j))) (tr++road p (oF dn j)) C'):=by
 have hn:=h.lq;have hr:=P2 (p:=p) (dn:=dn) (j:=j) (by cases dn<;>simp only[xag,xap]at hs⊢ <;>omega);intro g;rw[hr,gA,<-xai];cases dn
 ·simp only[xag]at hs;refine wP (R:=aN _) ?_;unfold L337;refine DR.self (Ld.q ?_);refine Ld.q ?_;refine Ld.n ?_;refine ae.bY (b:=1) ?_;intro F;refine aa.pre .swap ?_;refine aa.fn (.cons .here) (Pp (a':=j-1) h zO eM hf zO zO A8) ?_;rintro v H ⟨rfl,C',rfl,h'⟩;exact aN.mk .swap ⟨rfl,C',rfl,h'⟩
 simp only[xap]at hs;refine wR (R:=aN _) ?_;unfold L335;refine DR.self (Ld.q ?_);refine Ld.q ?_;refine Ld.n ?_;intro F;refine aa.pre .swap ?_;refine aa.fn (.cons .here) (Pp (a':=j+1) h zO eM hf zO zO A8) ?_;rintro v H ⟨rfl,C',rfl,h'⟩;exact aN.mk .swap ⟨rfl,C',rfl,h'⟩
theorem T0{j:Nat}(h:At kp K S ord tr C)(hs:bif dn then j+1<K.n else 0<j/\j<K.n)(eM:tr.length<17592186044416)(hf:¬jb K S ord (XJ dn j)):
  Rd zQ (ZP dn) #[ptr bx] (fy wp (g8 kp j b q gr sw la st)::pJ bx wp::C) (· =iv 9):=by
 have hn:=h.lq;intro g;cases dn
 ·simp only[xag]at hs;refine wP (R:=aN _) ?_;unfold L337;refine DR.self (Ld.q ?_);refine Ld.q ?_;refine Ld.n ?_;refine ae.bY (b:=1) ?_;intro F;refine aa.pre .swap ?_;exact aa.eq (WA h zO eM hf) (bc.mk .swap rfl)
 simp only[xap]at hs;refine wR (R:=aN _) ?_;unfold L335;refine DR.self (Ld.q ?_);refine Ld.q ?_;refine Ld.n ?_;intro F;refine aa.pre .swap ?_;exact aa.eq (WA h zO eM hf) (bc.mk .swap rfl)
theorem BA(dn:Bool):aT zQ (ZP dn)=true:=by cases dn<;>kernel_rfl
theorem pR{n j:Nat}(hn:n<=64)(hp:p<n)(hj:j<n):(road p j).length<=64:=by rw[uO];omega
theorem PX(h0:At kp K S o tr C)(hp:p<K.n)(mq:100<=gr/\gr<=1000)(hb:b<=1048576)(A8:sw<1099511627776)(eM:tr.length<17454747090944)(hla:la=bif dn then((K.n-1:Nat):Int)else 0){r:Nat×Nat×Nat}(hr:(rm K S).Ea gr o p dn ((rm K S).rest dn p) p b q=r):
  Fc zQ 267 #[ptr wp] (fy wp (g8 kp p b q gr sw la (A6 dn bx))::pJ bx wp::C) (λv H=>v=.tuple #[]/\∃C',H=fy wp (g8 kp r.1 r.2.1 r.2.2 gr (sw+dst r.1 p) la (A6 dn bx))::pJ bx wp::C'/\At kp K S (az o (road p r.1)) (tr++road p r.1) C'):=by
 have hn:=h0.lq;refine aF λg=>Ii ?_;refine⟨λvs H=>∃(k j b' q':Nat) (C':Hp),vs=[]/\H=fy wp (g8 kp j b' q' gr (sw+dst j p) la (A6 dn bx))::pJ bx wp::C'/\At kp K S (az o (road p j)) (tr++road p j) C'/\k=(rm K S).rest dn j/\(bif dn then p<=j/\j<K.n else j<=p)/\b'<=1048576/\(rm K S).Ea gr o p dn k j b' q'=r,
  λ_ H=>bif dn then K.n-D5 H else D5 H,JE.mk ⟨_,p,b,q,C,rfl,by simp[dst],by rw[gB,xaL];exact h0,rfl,by cases dn<;>simp[hp],hb,hr⟩,?_⟩
 rintro H ⟨k,j,b',q',C',_,rfl,hA,hk,hs,hb',tN⟩ gs;have Tn:j<K.n:=by cases dn<;>simp only[xag,xap]at hs<;>omega
 have FB:dst j p<=64:=by unfold dst;omega
 have CI:=pR hn hp Tn;have QY:(tr++road p j).length<17592186044416:=by rw[xaf];omega
 have vH:(rm K S).n=K.n:=rfl;have hsz:∀o:zL,(rm K S).size o=cI K S o:=λ_=>rfl;intro J5 h5;have fin:r=(j,b',q')->J5 [.bool false] (fy wp (g8 kp j b' q' gr (sw+dst j p) la (A6 dn bx))::pJ bx wp::C'):=λe=>h5 _ _ λgs=>Br.no (aN.here ⟨rfl,C',by rw[e],by rw[e];exact hA⟩);refine DR.self (Ld.n ?_);refine Ld.n ?_;refine ae.cG (Br.dec (λhne=>?_) (λheq=>?_));rotate_left
 ·have YF:k=0:=by
   rw[hk];unfold Rm.rest;cases dn<;>simp only[xag,xap]at hla⊢ <;>omega
  subst YF;exact JE.mk (fin tN.symm)
 have vJ:bif dn then j+1<K.n else 0<j:=by
  cases dn<;>simp only[xag,xap]at hla⊢ <;>omega
 obtain⟨k',hk'⟩:∃k',k=k'+1:=by
  refine⟨k-1,?_⟩;rw[hk];unfold Rm.rest;cases dn<;>simp only[xag,xap]at vJ⊢ <;>omega
 subst hk';rw[Rm.Ea]at tN;change (if(rm K S).fit (az o (road p j)) (XJ dn j)=true then _ else _)=r at tN;refine Ld.n ?_;intro F;refine aL.of (f:=ZP dn) rfl (BA dn) ?_;by_cases hf:jb K S (az o (road p j)) (XJ dn j);rotate_left
 ·refine aa.eq (args:=#[ptr bx]) (T0 hA (by cases dn<;>simp only[xag,xap]at vJ⊢ <;>omega) QY hf) (ae.gU (aI.mk ?_));rw[xab (λh=>hf (pS.1 h))]at tN;exact JE.mk (fin tN.symm)
 refine aa.fn (args:=#[ptr bx]) .here (BB hA hp (by cases dn<;>simp only[xag,xap]at vJ hs⊢ <;>omega) QY hf zO) ?_;rintro v H ⟨rfl,C2,rfl,nU⟩;refine ae.gU (aI.mk ?_);rw[xae (show(rm K S).fit (az o (road p j)) (XJ dn j)=true from pS.2 hf)]at tN;change (if(if(rm K S).size (az o (road p (oF dn j)))<b' then(rm K S).size (az o (road p (oF dn j)))else b')*gr<(rm K S).size (az o (road p (oF dn j)))*100 then(oF dn j,if(rm K S).size (az o (road p (oF dn j)))<b' then(rm K S).size (az o (road p (oF dn j)))else b',if(rm K S).size (az o (road p (oF dn j)))<b' then oF dn j else q')else(rm K S).Ea gr o p dn k' (oF dn j) (if(rm K S).size (az o (road p (oF dn j)))<b' then(rm K S).size (az o (road p (oF dn j)))else b') (if(rm K S).size (az o (road p (oF dn j)))<b' then oF dn j else q'))=r at tN;have hle:=gu nU;rw[hsz]at tN;have aeM:sw+dst j p+1=sw+dst (oF dn j) p:=by unfold dst oF;cases dn<;>simp only[xag,xap]at vJ hs⊢ <;>omega
 rw[aeM];have hnk:k'=(rm K S).rest dn (oF dn j):=by
  unfold Rm.rest at hk⊢;unfold oF;cases dn<;>simp only[xag,xap]at vJ hk⊢ <;>omega
 have MV:bif dn then p<=oF dn j/\oF dn j<K.n else oF dn j<=p:=by
  unfold oF;cases dn<;>simp only[xag,xap]at vJ hs⊢ <;>omega
 have hms:(bif dn then K.n-oF dn j else oF dn j)<(bif dn then K.n-j else j):=by
  unfold oF;cases dn<;>simp only[xag,xap]at vJ⊢ <;>omega
 generalize hj':oF dn j=j' at*;generalize hs':cI K S (az o (road p j'))=s at*;have abo:∀b2 q2,D5 (fy wp (g8 kp j b' q' gr (sw+dst j p) la (A6 dn bx))::pJ bx wp::C')=j/\∀C2,D5 (fy wp (g8 kp j' b2 q2 gr (sw+dst j' p) la (A6 dn bx))::pJ bx wp::C2)=j':=λb2 q2=>⟨by simp[D5,fy,g8,bL],λC2=>by simp[D5,fy,g8,bL]⟩;refine JE.mk (h5 _ _ λgs=>Br.yes ?_);refine Ld.n ?_;refine aa.eq (cH nU) ?_;rw[hs'];intro J14 h14;have next:∀b2 q2,b2<=1048576->(if b2*gr<s*100 then(j',b2,q2)else(rm K S).Ea gr o p dn k' j' b2 q2)=r->J14 [] (fy wp (g8 kp j' b2 q2 gr (sw+dst j' p) la (A6 dn bx))::pJ bx wp::C2):=by
  intro b2 q2 ta qo;refine h14 _ λgs=>?_;have tL:b2*gr<=1048576*1000:=xcb ta mq.2;refine ae.xD (b:=100) (Ld.n ?_);refine Ld.n ?_;refine ae.xD (ae.m9 (Br.dec (λhgt=>?_) (λhgt=>?_)))
  ·rw[xae hgt]at qo;subst qo;exact aN.here ⟨rfl,C2,rfl,nU⟩
  rw[xab hgt]at qo;refine aC.mk ⟨k',j',b2,q2,C2,rfl,rfl,nU,hnk,MV,ta,qo⟩ ?_;rw[(abo b2 q2).1,(abo b2 q2).2];exact hms
 refine Ld.n ?_;refine ae.fi (Br.dec (λhlt=>?_) (λhlt=>?_))
 ·rw[xae hlt,xae hlt]at tN;refine Ld.n ?_;refine Nil.ptr (ai.mk (St.one (c':=g8 kp j' s q' gr (sw+dst j' p) la (A6 dn bx)) (by exact .head _) rfl (by simp[g8]) rfl ?_));refine Nil.ptr (ai.mk (St.one (c':=g8 kp j' s j' gr (sw+dst j' p) la (A6 dn bx)) (by exact .head _) rfl (by simp[g8]) rfl ?_));exact JE.mk (next _ _ zO tN)
 rw[xab hlt,xab hlt]at tN;exact JE.mk (next _ _ hb' tN)
theorem zz{j t:Nat}(h:At kp K S (az o (road p j)) (tr++road p j) C)(Ba:o.length=K.n)(hp:p<K.n)(hjt:(p<=t/\t<=j/\j<K.n)\/(j<=t/\t<=p))(A8:sw<17592186044416)(eM:tr.length<17454747090944):
  Fc zQ 268 #[ptr wp,iv (t:Int)] (fy wp (g8 kp j b q gr sw la st)::C) (λv H=>v=.tuple #[]/\∃C',H=fy wp (g8 kp t b q gr (sw+dst j t) la st)::C'/\At kp K S (az o (road p t)) (tr++road p t) C'):=by
 have hn:=h.lq;refine aF λg=>Ih ?_;refine⟨λvs H=>∃(i:Nat) (C':Hp),vs=[]/\H=fy wp (g8 kp i b q gr (sw+dst j i) la st)::C'/\At kp K S (az o (road p i)) (tr++road p i) C'/\((p<=t/\t<=i/\i<=j/\j<K.n)\/(j<=i/\i<=t/\t<=p)),
  λ_ H=>dst (D5 H) t,JE.mk ⟨j,C,rfl,by simp[dst],h,by omega⟩,?_⟩
 rintro H ⟨i,C',_,rfl,hA,hs⟩ gs;have hin:i<K.n:=by omega
 have hdi:dst j i<=64:=by unfold dst;omega
 have CI:=pR hn hp hin;have Fp:∀i sw C',D5 (fy wp (g8 kp i b q gr sw la st)::C')=i:=λi sw C'=>by simp[D5,fy,g8,bL]
 refine Ld.n ?_;refine ae.tH (Br.dec (λhne=>?_) (λheq=>?_));rotate_left
 ·obtain rfl:i=t:=by omega
  exact aN.here ⟨rfl,C',rfl,hA⟩
 refine Ld.n ?_;rcases hs with hs|hs
 ·obtain⟨i,rfl⟩:∃i',i=i'+1:=⟨i-1,by omega⟩;rw[rU zO,gA,<-xai]at hA;refine aa.fq (AV hA (by rw[rU zO,xaf,xcm]at CI;rw[xaf];omega)) ?_;rintro w C2 ⟨rfl,nU⟩;rw[qx (by rw[fQ,Ba];omega)]at nU;refine Ext.two (Ld.n ?_);refine ae.inc (Nil.ptr (ai.mk (St.one (c':=g8 kp (i+1) b q gr (sw+dst j (i+1)+1) la st) (by exact .head _) rfl (by simp[g8]) rfl ?_)));refine Ld.n ?_;refine ae.fi (Br.T (Nil.ptr (ai.mk (St.one (c':=g8 kp i b q gr (sw+dst j (i+1)+1) la st) (by exact .head _) rfl (by simp[g8]) rfl ?_))));refine aC.mk ⟨i,C2,rfl,by rw[show sw+dst j (i+1)+1=sw+dst j i by unfold dst;omega];rfl,nU,by omega⟩ ?_;show dst (D5 (fy wp (g8 kp i b q gr (sw+dst j (i+1)+1) la st)::C2)) t<dst (D5 (fy wp (g8 kp (i+1) b q gr (sw+dst j (i+1)) la st)::C')) t;rw[Fp,Fp];unfold dst;omega
 rw[rV zO,gA,<-xai]at hA;refine aa.fq (AV hA (by rw[rV zO,xaf,xcm]at CI;rw[xaf];omega)) ?_;rintro w C2 ⟨rfl,nU⟩;rw[qx (by rw[fQ,Ba];omega)]at nU;refine Ext.two (Ld.n ?_);refine ae.inc (Nil.ptr (ai.mk (St.one (c':=g8 kp i b q gr (sw+dst j i+1) la st) (by exact .head _) rfl (by simp[g8]) rfl ?_)));refine Ld.n ?_;refine ae.fi (Br.F (ae.inc (Nil.ptr (ai.mk (St.one (c':=g8 kp (i+1) b q gr (sw+dst j i+1) la st) (by exact .head _) rfl (by simp[g8]) rfl ?_)))));refine aC.mk ⟨i+1,C2,rfl,by rw[show sw+dst j i+1=sw+dst j (i+1)by unfold dst;omega];rfl,nU,by omega⟩ ?_;show dst (D5 (fy wp (g8 kp (i+1) b q gr (sw+dst j i+1) la st)::C2)) t<dst (D5 (fy wp (g8 kp i b q gr (sw+dst j i) la st)::C')) t;rw[Fp,Fp];unfold dst;omega
end
end
section
open aA
section
variable {kp v gr:Nat} {K:Kd} {S:Nat->aA.Fn} {ord tr:zL} {C:Hp}
theorem pN(kp:Nat){gr:Int}(C:Hp):Rd zQ 186 #[ptr kp,iv gr] C (· =iv (if gr<100\/1000<gr then 1 else 0)):=by
 refine aF λg=>I7 ?_;refine ae.aD (Br.no (ae.lss (cf.or (decide (1000<gr)) (λ_=>ae.gtr ⟨rfl,rfl⟩) rfl λgs=>?_)));by_cases h:gr<100\/1000<gr
 ·rw[xae h];refine Br.TA ?_ (bc.mk (.refl _) rfl);simpa using h
 rw[xab h];refine Br.no' ?_ (bc.mk (.refl _) rfl);simpa using h
theorem XR(hp:ord.Perm (List.range K.n)){p:Nat}(Ti:p<K.n)(hv:ord.getD p 0=v):ord.idxOf v=p:=by
 have Ba:ord.length=K.n:=by rw[hp.length_eq,xaI]
 have eY:ord.Nodup:=hp.nodup_iff.2 xbj;have hm:v∈ord:=by
  rw[<-hv,xar,xaa zO];exact xaG _
 have h1:=xeg hm;refine getD_inj eY h1 zO ?_;rw[hv,xar,xaa h1];exact List.getElem_idxOf h1
theorem T4(h:At kp K S ord tr C)(hp:ord.Perm (List.range K.n))(hv:v<K.n)(mq:100<=gr/\gr<=1000)(eM:tr.length<17454747090944){r:Nat×Nat}(hr:(rm K S).rR gr ord (ord.idxOf v)=r):
  Fc zQ 188 #[ptr kp,iv (v:Int),iv (gr:Int)] C (λw H=>w=.tuple #[rep (cI K S ord) (cI K S (az ord (road (ord.idxOf v) r.1))) r.2,iv 0]/\At kp K S (az ord (road (ord.idxOf v) r.1)) (tr++road (ord.idxOf v) r.1) H):=by
 have hn:=h.lq;have Ba:ord.length=K.n:=by rw[hp.length_eq,xaI]
 have hsz:=gu h;have vH:(rm K S).n=K.n:=rfl;refine aF λg=>I5 ?_;intro b1 _;refine aa.eq (pN kp (gr:=(gr:Int)) C) ?_;rw[xab zO];refine ae.cG (Br.F (aa.rq (DM h hv) ?_));rintro w ⟨p,Ti,Ys,rfl⟩;have Yu:=XR hp Ti Ys;rw[Yu]at hr⊢;have aka:p<(rm K S).n:=Ti;refine Ext.two (ae.cG (Br.F (aa.eq (cH h) (Build.mk (cs:=[iv ((cI K S ord:Nat):Int),iv 0,iv 0,.bool false]) zK ?_))));intro wy _;refine St.q ?_;refine Ld.f ?_;refine Build.mk (cs:=[ptr kp,iv (p:Int),iv ((cI K S ord:Nat):Int),iv (p:Int),iv (gr:Int),iv 0,iv 0,.nilFunc]) zK ?_;intro wp _;refine aa.eq (mW h) (ae.bY (b:=1) (ae.bY (ae.xE ?_)));obtain⟨X,hX⟩:∃X:Hp,X=[(wy,Obj.cells (List.toArray [iv ((cI K S ord:Nat):Int),iv 0,iv 0,.bool false]) 147 (0,0)),(b1,Obj.cells #[iv 0,iv 0,iv 0,.bool false] 147 (0,0))]:=⟨_,rfl⟩;unfold Rm.rR at hr;simp only[vH]at hr;rw[show(rm K S).size ord=cI K S ord from rfl]at hr;generalize hdn:decide (K.n-1-p<=p)=dn at*;have ago:∀x:Nat×Obj,aM (x::(wy,Obj.cells (List.toArray [iv ((cI K S ord:Nat):Int),iv 0,iv 0,.bool false]) 147 (0,0))::(b1,Obj.cells #[iv 0,iv 0,iv 0,.bool false] 147 (0,0))::C) (X++(x::C)):=λx=>.perm (by rw[hX];exact(xaT (l₁:=[_,_])).symm);refine aa.pre (ago _) ?_;refine aa.fq (rO (wp:=wp) (a:=p) (b:=cI K S ord) (q:=p) (gr:=gr) (sw:=0) (la:=0) (st:=.nilFunc) (dn:=dn) h zO) ?_;rintro w H ⟨rfl,bx,rfl⟩;refine aa.fn (.app .here) (PX h Ti mq zO zO eM rfl rfl) ?_;rintro w H ⟨rfl,C1,rfl,VJ⟩;have CV:=(rm K S).vy gr ord p dn ((rm K S).rest dn p) p (cI K S ord) p (λh=>by unfold Rm.rest;rw[h];exact xaj _) (by rw[gB];rfl);generalize (rm K S).Ea gr ord p dn ((rm K S).rest dn p) p (cI K S ord) p=a at*;have qo:=(rm K S).vy gr ord p (!dn) ((rm K S).rest (!dn) p) p a.2.1 a.2.2 (λh=>by unfold Rm.rest;rw[h];exact xaj _) CV.size;obtain⟨a1,a2,a3,a4⟩:=CV;unfold Rm.rest at a1;rw[vH]at a1;have tQ:a.1<K.n/\((p<=a.1)\/(a.1<=p)):=by cases dn<;>simp only[xag,xap]at a1<;>omega
 have hab:a.2.1<=1048576:=by
  have:a.2.1<=cI K S ord:=by omega
  omega
 have OU:dst a.1 p<=64:=by unfold dst;omega
 refine aa.pre (aM.cW (.cons .tail) X) ?_;refine aa.fn (.app .here) (zz (t:=p) VJ Ba Ti zO zO eM) ?_;rintro w H ⟨rfl,C2,rfl,nU⟩;rw[gB,xaL]at nU;have nU:At kp K S ord tr C2:=nU;refine Ld.n ?_;refine Un.not (aa.fq (rO (dn:= !dn) nU zO) ?_);rintro w H ⟨rfl,bx2,rfl⟩;refine aa.fn (.app .here) (PX nU Ti mq hab zO eM rfl rfl) ?_;rintro w H ⟨rfl,C3,rfl,Ee⟩;generalize (rm K S).Ea gr ord p (!dn) ((rm K S).rest (!dn) p) p a.2.1 a.2.2=b at*;obtain⟨e1,e2,e3,e4⟩:=qo;unfold Rm.rest at e1;rw[vH]at e1;have yK:bif dn then p<=a.2.2/\a.2.2<=a.1 else a.1<=a.2.2/\a.2.2<=p:=by
  cases dn<;>simp only[xag,xap]at a3 a1⊢ <;>omega
 have Vt:b.1<K.n/\((p<=b.1)\/(b.1<=p)):=by cases dn<;>simp only[xag,xap,xb0,xb8]at e1<;>omega
 have xK:dst b.1 p<=64:=by unfold dst;omega
 intro J47 h47;have fin:∀(bb:Nat) (Fb:Int) (st':zV) (Cf:Hp),At kp K S (az ord (road p r.1)) (tr++road p r.1) Cf->J47 [] (X++(fy wp (g8 kp r.1 bb r.1 gr r.2 Fb st')::Cf)):=by
  intro bb Fb st' Cf hAf;rw[hX];refine h47 _ λgs=>?_;refine DR.of (R:=[fy wp (g8 kp r.1 bb r.1 gr r.2 Fb st')]) (aM.X2 (.tail _ (.tail _ (.head _)))) (Ld.n ?_);intro F;refine aa.eq (cH hAf) (⟨aM.X2 (.tail _ (.tail _ (.head _))),?_⟩);refine ai.mk λF=>?_;refine St.one (c':=#[iv ((cI K S ord:Nat):Int),iv ((cI K S (az ord (road p r.1)):Nat):Int),iv 0,.bool false]) (by exact .head _) rfl zI rfl ?_;refine⟨aM.X2 (.tail _ (.tail _ (.head _))),?_⟩;refine ai.mk λF=>?_;refine St.one (c':=#[iv ((cI K S ord:Nat):Int),iv ((cI K S (az ord (road p r.1)):Nat):Int),iv ((r.2:Nat):Int),.bool false]) (by exact .head _) rfl zI rfl ?_;refine ay.q ?_;refine St.q ?_;refine ay.q ?_;exact aN.mk (.skip (.skip .tail)) ⟨rfl,hAf⟩
 refine Ld.n ?_;refine ae.tH (Br.dec (λhne=>?_) (λheq=>?_))
 ·-- the other way is better
  rw[xae hne]at hr;refine Ld.n ?_;refine aa.pre (aM.cW (.cons .tail) X) ?_;have hbt:(p<=b.2.2/\b.2.2<=b.1/\b.1<K.n)\/(b.1<=b.2.2/\b.2.2<=p):=by
   cases dn<;>simp only[xag,xap,xb0,xb8]at e3 e1<;>omega
  refine aa.fn (.app .here) (zz (t:=b.2.2) Ee Ba Ti hbt zO eM) ?_;rintro w H ⟨rfl,C4,rfl,Zd⟩;subst hr;refine JE.mk ?_;rw[xa3];exact fin b.2.1 _ _ C4 Zd
 -- back again
 have heq:b.2.2=a.2.2:=xel.1 heq;rw[xab (λh=>h heq)]at hr;refine aa.pre (aM.cW (.cons .tail) X) ?_;refine aa.fn (.app .here) (zz (t:=p) Ee Ba Ti zO zO eM) ?_;rintro w H ⟨rfl,C4,rfl,Zd⟩;rw[gB,xaL]at Zd;have Zd:At kp K S ord tr C4:=Zd;refine aa.fq (rO (dn:=dn) Zd zO) ?_;rintro w H ⟨rfl,Sy,rfl⟩;obtain⟨s3,hs3⟩:∃s3,s3=0+dst a.1 p+dst a.1 p+dst b.1 p+dst b.1 p:=⟨_,rfl⟩;rw[<-hs3];obtain⟨WL,afa⟩:∃WL,WL=(bif dn then((K.n-1:Nat):Int)else 0):=⟨_,rfl⟩;rw[<-afa];refine⟨λvs H=>∃(i:Nat) (C':Hp),vs=[]/\H=fy wp (g8 kp i b.2.1 b.2.2 gr (s3+dst p i) WL (A6 dn Sy))::pJ Sy wp::(X++C')/\At kp K S (az ord (road p i)) (tr++road p i) C'/\(bif dn then p<=i/\i<=b.2.2 else b.2.2<=i/\i<=p),
  λ_ H=>dst (D5 H) b.2.2,JE.of (H':=fy wp (g8 kp p b.2.1 b.2.2 gr s3 WL (A6 dn Sy))::pJ Sy wp::(X++C4)) (.perm ?_) ⟨p,C4,rfl,by simp[dst],by rw[gB,xaL];exact Zd,?_⟩,?_⟩
 ·exact(xaT (l₁:=X)).trans (List.Perm.cons _ xaT)
 ·rw[heq];cases dn<;>simp only[xag,xap]at yK⊢ <;>omega
 rintro H ⟨i,C5,_,rfl,hA5,hi⟩ gs;rw[heq]at hi;have hin:i<K.n:=by cases dn<;>simp only[xag,xap]at hi yK<;>omega
 have hdi:dst p i<=64:=by unfold dst;omega
 have CI:=pR hn Ti hin;intro J83 h83;refine DR.self (Ld.n ?_);refine Ld.n ?_;refine ae.tH (Br.dec (λhne=>?_) (λhie=>?_))
 ·refine Ld.n ?_;intro F;refine aL.of (f:=ZP dn) rfl (BA dn) ?_;have Q6:aM (fy wp (g8 kp i b.2.1 b.2.2 gr (s3+dst p i) WL (A6 dn Sy))::pJ Sy wp::(X++C5)) (X++(fy wp (g8 kp i b.2.1 b.2.2 gr (s3+dst p i) WL (A6 dn Sy))::pJ Sy wp::C5)):=
   .perm ((xaT (l₁:=X)).trans (List.Perm.cons _ xaT)).symm
  refine aa.pre Q6 ?_;have hstep:bif dn then p<=i/\i+1<K.n else 0<i/\i<=p:=by
   rw[heq]at hne;cases dn<;>simp only[xag,xap]at hi yK⊢ <;>omega
  have hfit:jb K S (az ord (road p i)) (XJ dn i):=by
   refine pS.1 (a4 i ?_);rw[heq]at hne;cases dn<;>simp only[xag,xap]at hi yK⊢ <;>omega
  refine aa.fn (args:=#[ptr Sy]) (.app .here) (BB hA5 Ti hstep (by rw[xaf];omega) hfit zO) ?_;rintro w H ⟨rfl,C6,rfl,hA6⟩;refine ae.gU (aI.mk ?_);have CJ:s3+dst p i+1=s3+dst p (oF dn i):=by unfold dst oF;cases dn<;>simp only[xag,xap]at hstep⊢ <;>omega
  rw[CJ];refine JE.of (.perm ((xaT (l₁:=X)).trans (List.Perm.cons _ xaT))) (h83 _ _ λgs=>Br.yes ?_);refine aC.mk ⟨oF dn i,C6,rfl,rfl,hA6,?_⟩ ?_
  ·rw[heq]at hne⊢;unfold oF;cases dn<;>simp only[xag,xap]at hi hstep⊢ <;>omega
  have Fp:∀i sw C',D5 (fy wp (g8 kp i b.2.1 b.2.2 gr sw WL (A6 dn Sy))::C')=i:=λi sw C'=>by simp[D5,fy,g8,bL]
  rw[Fp,Fp,heq];rw[heq]at hne;unfold oF dst;cases dn<;>simp only[xag,xap]at hi hstep⊢ <;>omega
 have hie:i=b.2.2:=xel.1 hie;subst hie;subst hr;refine JE.mk (h83 _ _ λgs=>Br.no ?_);refine JE.of ?_ (fin b.2.1 WL (A6 dn Sy) C5 hA5);refine(aM.cons .tail).trans ?_;refine(aM.perm (xaT (l₁:=X)).symm).trans ?_;have e:s3+dst p b.2.2=dst a.1 p+dst a.1 p+dst b.1 p+(dst b.1 p+dst p b.2.2):=by omega
 rw[e];exact .refl _
end
end
section
theorem Pz{n A:Nat}{L:List (zL)}(hn:n<=16)(hl:L.length<33554432){k:Nat}(hk:k<=n):(an.st n L A k).length<2199023255551:=by
 have h2:=an.rP n L A k;have h3:2^k<=2^16:=xaz zD zO;have h4:2^k*L.length<=2^16*L.length:=xaY _ h3;omega
theorem Sa{B:Hp}{v1 v2:zV}{a b:zL}(h1:Words B v1 a)(h2:Words B v2 b)(cA:a.length<2^62):Rd zQ 386 #[v1,v2] B (· =.bool (decide (a=b))):=by
 refine aF λg=>GB ?_;refine h1.1.bP (h2.1.bP ?_);simp only[ak];refine ae.tH (Br.dec (λh=>?_) (λh=>?_))
 ·exact bc.mk (.refl _) (by rw[xal (λe=>h (by rw[e]))])
 refine h1.1.bP ?_;simp only[ak];have hlen:a.length=b.length:=by omega
 refine⟨λvs H=>H=B/\∃j:Nat,vs=[iv (j:Int)]/\j<=a.length/\∀i,i<j->a[i]? =b[i]?,λvs _=>a.length-bL vs 0,JE.mk ⟨rfl,0,rfl,by omega,by omega⟩,?_⟩;rintro w H ⟨rfl,j,⟨⟩,hj,aH⟩ gs;refine ae.fi (Br.dec (λhlt=>?_) (λhlt=>?_))
 ·have ga:a[j]? =some a[j]:=xaa hlt;have gb:b[j]? =some b[j]:=xaa zO;refine h1.1.ld (dg ga) (λ_ h=>h) ?_;refine h2.1.ld (dg gb) (λ_ h=>h) ?_;refine ae.tH (Br.dec (λhne=>?_) (λhne=>?_))
  ·exact bc.mk (.refl _) (by rw[xal];rintro rfl;exact hne rfl)
  refine ae.inc (aC.mk ⟨rfl,j+1,rfl,by omega,λi hi=>?_⟩ (by simp[bL];omega));by_cases e:i=j
  ·subst e;rw[ga,gb];simp;omega
  exact aH i zO
 refine bc.mk (.refl _) ?_;rw[xam];apply xbd ;intro i;by_cases hi:i<a.length
 ·exact aH i zO
 rw[xaD zO,xaD zO]
theorem Qv{B:Hp}{v:zV}{n u A:Nat}{L:List (zL)}(ht:jF B v (L.map λws=>⟨n,ws⟩))(hf:∀ws∈L,an.eX n ws)(hne:L≠[])(cA:L.length<4398046511104)(hA:A<2^n)(hu:u<n)(hAu:A.testBit u=false):
  Rd zQ 349 #[v,.int .u64 (A:Int),iv (u:Int)] B (· =.tuple #[iv ((an.lvl n L A u:Nat):Int),iv 0]):=by
 obtain⟨w0,Th⟩:∃w0,L[0]? =some w0:=⟨_,xaa (xda.2 hne)⟩;have vI:n<=16:=(hf w0 (xaw Th)).xC;have akU:A<65536:=xaQ hA (xaz (n:=2) zD vI);refine aF λg=>GZ ?_;refine aa.eq (uN ht zP) ?_;rw[xam (B5 hf)];refine Un.not (Br.no ?_);intro J hJ;refine ht.bP ?_;rw[xax];have hpos:0<L.length:=xda.2 hne;refine ae.m9 (b:=0) (Br.acN hpos (ht.ldN (i:=0) (t:=⟨n,w0⟩) (by rw[xat,Th];rfl) (λ_ h=>h) ?_));refine JE.mk (hJ _ _ λgs=>?_);simp only;refine ae.lss (cf.or (decide (n<=u)) (λ_=>?_) rfl λgs=>?_)
 ·exact ae.rI ⟨by trivial,rfl⟩
 rw[show(decide ((u:Int)<0)||decide (n<=u))=false by simp;omega];refine cf.or (decide (A>>>n≠0)) (λ_=>?_) rfl λgs=>?_
 ·exact ae.iL (by simp[bF];omega) (ae.tH (b:=0) ⟨by trivial,rfl⟩)
 rw[show(false||decide (A>>>n≠0))=false by rw[xaZ,xdr hA];rfl];apply Br.no;have aba:∀k,A>>>k<18446744073709551616:=λk=>xaC (xbl _ _) zO;refine ae.iL (by simp[bF];omega) (ae.jD (b:=1) (by simpa[bF]using aba u) zD (ae.eO (b:=1) (Br.Sh (by rw[an.uo,hAu];simp) (aa.fq (Mz ht rfl hf zO) ?_))));rintro r H ⟨b,es,ck,m,N,rfl,rfl,hE,hm⟩;have hbound:∀k,k<=n->∀m:List (List UInt8×zL),(m.map Prod.snd).Nodup->(∀x,x∈m.map Prod.snd↔x∈an.st n L A k)->m.length<4611686018427387904:=by
  intro k hk m eY hmem;have h1:=(an.jw eY (an.nB n L A k) hmem).length_eq;have h2:=an.rP n L A k;have h3:2^k<=2^16:=xaz zD zO;have h4:2^k*L.length<=2^16*L.length:=xaY _ h3;rw[xax]at h1;omega
 refine⟨λvs H=>∃(k:Nat) (b:Nat) (es:Array MapEntry) (ck:Nat) (m:List (List UInt8×zL)) (N:Hp),vs=[.map (some b),iv (k:Int)]/\k<=n/\H=(b,.map es ck)::(N++B)/\gF n (N++B) es ck m/\∀x,x∈m.map Prod.snd↔x∈an.st n L A k,
  λvs _=>n-bL vs 1,JE.mk ⟨0,b,es,ck,m,N,rfl,by omega,rfl,hE,λx=>by rw[hm];exact an.gp.symm⟩,?_⟩
 clear hm hE;rintro w25 w26 H ⟨k,b,es,ck,m,N,⟨⟩,hk,rfl,hE,hm⟩ gs;have sn:=hE.mono (B':=(b,Obj.map es ck)::(N++B)) zS;refine ae.fi (Br.dec (λhlt=>?_) (λhlt=>?_))
 ·intro J hJ;refine ae.iL (by simp[bF];omega) (ae.jD (b:=1) (by simpa[bF]using aba k) zD (ae.eO (b:=1) (Br.dec (λh=>?_) (λh=>?_))))
  ·have hb:=(an.uo A k).1 h;refine aa.fq (De (.head _) sn hlt (hbound k hk m hE.nodup hm)) ?_;rintro r H ⟨b',es',bB,m',N',rfl,rfl,C8,hm'⟩;refine Ext.mk rfl (Ext.mk rfl (JE.mk (hJ _ _ λgs=>?_)));refine ae.inc (aC.mk ⟨k+1,b',es',bB,m',N'++(b,.map es ck)::N,rfl,by omega,by rw[xai];rfl,by rw[xai];exact C8,λx=>?_⟩ (by simp[bL];omega));rw[hm',an.st,xae hb,an.cg];constructor
   ·rintro⟨t,h1,h2⟩;exact⟨t,(hm t).1 h1,h2⟩
   rintro⟨t,h1,h2⟩;exact⟨t,(hm t).2 h1,h2⟩
  have hb:A.testBit k=false:=by cases hh:A.testBit k;rfl;exact absurd ((an.uo A k).2 hh) h
  refine JE.mk (hJ _ _ λgs=>?_);refine ae.inc (aC.mk ⟨k+1,b,es,ck,m,N,rfl,by omega,rfl,hE,λx=>?_⟩ (by simp[bL];omega));rw[hm,an.st,hb];simp
 have:k=n:=by omega
 subst this;refine aa.fq (De (.head _) sn hu (hbound k hk m hE.nodup hm)) ?_;rintro r H ⟨b',es',bB,m',N',rfl,rfl,C8,hm'⟩;refine Ext.mk rfl (Ext.mk rfl (bc.mk ?_ ?_))
 ·exact .skip (.dm (.skip .right))
 have:=an.mH (n:=k) (v:=u) (an.jw hE.nodup (an.nB k L A k) hm);unfold an.lvl;rw[<-this];rfl
theorem uD{B:Hp}{v:zV}{t:Tb}(ht:Ej B v t):Rd zQ 348 #[v] B (· =.tuple (if TF t then#[.int .u64 ((an.pK t.n.toNat t.ws:Nat):Int),iv 0]else#[.int .u64 0,iv 5])):=by
 obtain⟨tn,ws⟩:=t;obtain⟨s,rfl,hw⟩:=ht;simp only at hw⊢;refine aF λg=>G0 ?_;intro b1 _;refine ay.q ?_;refine wu λb2=>?_;refine aa.rd .here (vU (t:=⟨tn,ws⟩) (by exact .head _) (hw.mono zS)) ?_;rintro v rfl;apply Un.not;by_cases hT:TF ⟨tn,ws⟩
 case neg=>
  rw[xal hT,xab hT];exact Br.yes (bc.mk (by repeat (first|exact aM.refl _|apply aM.cons|apply aM.skip|apply aM.cW|apply aM.dm)) rfl)
 rw[xam hT,xae hT];apply Br.no;obtain⟨n,rfl⟩:∃n:Nat,tn=n:=⟨tn.toNat,by have:=hT.1;simp only at this;omega⟩;have hf:an.eX n ws:=by have:=hT.2;simpa using this
 refine ai.mk (Ld.mk zM rfl ?_);refine⟨λvs H=>∃(k:Nat) (N:Hp),vs=[.int .u64 ((an.k9 n ws k:Nat):Int),iv (k:Int)]/\k<=n/\H=(b1,.cells (Value.cells (.agg #[iv (n:Int),s])) 116 (0,0))::(N++B),
  λvs _=>n-bL vs 1,JE.of .tail ⟨0,[],rfl,by omega,rfl⟩,?_⟩
 rintro w15 w16 H ⟨k,N,⟨⟩,hk,rfl⟩ gs;have vI:=hf.xC;have WX:=an.nA n ws k;have ajA:an.k9 n ws k<65536:=xaQ WX (xaz (n:=2) zD (by omega:k<=16));refine ae.fi (Br.dec (λhlt=>?_) (λhlt=>?_))
 ·intro J hJ;refine DR.self (ay.q (ay.q ?_));refine aa.pq (B:=N++B) (AB (v:=.agg (List.toArray [iv (n:Int),s])) ⟨s,rfl,hw.mono zS⟩ hf hlt) ?_;rintro v N1 ⟨s1,rfl,jz⟩;refine⟨.cons .right,Bm.mk rfl ?_⟩;refine aa.pq (B:=N1++(N++B)) (AB (v:=.agg (List.toArray [iv (n:Int),s])) ⟨s,rfl,hw.mono zS⟩ hf hlt) ?_;rintro v N2 ⟨s2,rfl,pg⟩;refine⟨.cons (.dm .right),Bm.mk rfl ?_⟩;refine aa.eq (B:=N2++(N1++(N++B))) (Sa (jz.mono zS) pg (by have:=uh (an.eu (v:=k) (ws:=ws) (b:=false) hf.xC);simp only;omega)) (⟨.cons (.dm .right),Un.not ?_⟩);have ie:JE J [.int .u64 ((an.k9 n ws (k+1):Nat):Int)] ((b1,.cells (Value.cells (.agg #[iv (n:Int),s])) 116 (0,0))::(N2++(N1++(N++B)))):=by
   refine JE.mk (hJ _ _ λgs=>?_);exact ae.inc (aC.mk ⟨k+1,N2++(N1++N),rfl,by omega,by rw[xai,xai]⟩ (by simp[bL];omega))
  rw[an.k9]at ie;by_cases hd:an.dep n ws k=true
  ·rw[xae hd]at ie;have:an.iJ n ws k false≠an.iJ n ws k true:=by simpa[an.dep]using hd
   rw[xal this];refine Br.yes (ae.nE (a:=1) ?_);have h2:2^k<65536:=xaQ (xbx (n:=16) zD zO) zD;rw[xa5,xbi zO];exact ae.Kw (by simp[bF];omega) (by simp[bF];omega) ie
  rw[xab hd]at ie;have:an.iJ n ws k false=an.iJ n ws k true:=by simpa[an.dep]using hd
  rw[xam this];exact Br.no ie
 have:k=n:=by omega
 subst this;refine bc.mk (.skip .right) ?_;simp[an.pK]
theorem Qi{B:Hp}{v:zV}{ts:List Tb}(ht:jF B v ts)(cA:ts.length<4398046511104):Px zQ 347 #[v] B (λr _=>∃s,r=.tuple #[s,iv (if rD ts then 0 else 5)]):=by
 refine aF λg=>G4 ?_;refine aa.eq (uN ht zO) (Un.not ?_);by_cases hO:rD ts
 case neg=>rw[xal hO,xab hO];exact Br.yes (Gm.mk (.refl _) ⟨_,rfl⟩)
 rw[xam hO,xae hO];refine Br.no (ht.bP (ae.eO (b:=0) (Br.dec (λh0=>Gm.mk (.refl _) ⟨_,rfl⟩) (λh0=>?_))));obtain⟨n,L,vI,rfl,hne,hf⟩:=Ky hO (by intro e;rw[e]at h0;exact h0 rfl);rw[xax]at cA;obtain⟨w0,Th⟩:∃w0,L[0]? =some w0:=⟨_,xaa (xda.2 hne)⟩;refine ht.ldN (i:=0) (t:=⟨n,w0⟩) (by rw[xat,Th];rfl) (λ_ h=>h) ?_;simp only;refine cU.ints zO zO λbw=>?_;refine ht.bP ?_;refine⟨λvs H=>∃(k:Nat) (l:zL),vs=[iv (k:Int)]/\k<=L.length/\H=(bw,.cells (ax .u64 (iw l)) 33 (0,0))::B/\l.length=n/\∀w∈l,w<18446744073709551616,
  λvs _=>L.length-bL vs 0,JE.mk ⟨0,List.replicate n 0,rfl,by omega,by simp[iw],by simp,λw hw=>by rw[xbX hw];decide⟩,?_⟩
 rintro w H ⟨k,l,⟨⟩,hk,rfl,hl,W5⟩ gs;rw[xax];refine ae.fi (Br.dec (λhlt=>?_) (λhlt=>?_))
 ·have hg:(L.map λws=>(⟨n,ws⟩:Tb))[k]? =some ⟨n,L[k]⟩:=by rw[xat,xaa hlt];rfl
  have oW:=hf L[k] (xaG hlt);refine ht.ld hg zS λs hw=>?_;intro b2 _;refine St.p ?_ ?_
  ·have:=bO hw;simpa[Value.oneCell']using this
  refine ay.q ?_;refine aa.eq (B:=B) (uD (v:=.agg (List.toArray [iv (n:Int),s])) (t:=⟨n,L[k]⟩) ⟨s,rfl,hw⟩) ?_;rw[xae (show TF ⟨(n:Int),L[k]⟩from⟨by simp,by simpa using oW⟩)];refine Ext.mk rfl (Ext.mk rfl (aO.mk ?_));simp only[xbe];have aa8:an.pK n L[k]<65536:=xaQ (an.nA n L[k] n) (xaz (n:=2) zD vI);refine⟨λvs H=>∃(j:Nat) (l:zL),vs=[iv (j:Int)]/\j<=n/\H=(bw,.cells (ax .u64 (iw l)) 33 (0,0))::B/\l.length=n/\∀w∈l,w<18446744073709551616,
   λvs _=>n-bL vs 0,JE.of .tail ⟨0,l,rfl,by omega,rfl,hl,W5⟩,?_⟩
  rintro w H ⟨j,l,⟨⟩,hj,rfl,hl,W5⟩ gs;refine ae.fi (Br.dec (λW6=>?_) (λW6=>?_))
  ·intro J hJ;have ie:∀l:zL,l.length=n->(∀w∈l,w<18446744073709551616)->JE J [] ((bw,.cells (ax .u64 (iw l)) 33 (0,0))::B):=λl hl W5=>by
    refine JE.mk (hJ _ λgs=>?_);exact ae.inc (aC.mk ⟨j+1,l,rfl,by omega,rfl,hl,W5⟩ (by simp[bL];omega))
   have hsh:an.pK n L[k]>>>j<65536:=xaC (xbl _ _) aa8;refine ae.iL (by simp[bF];omega) (ae.jD (b:=1) (by simp[bF];omega) zD (ae.eO (b:=1) (Br.dec (λh=>?_) (λh=>ie l hl W5))));refine DR.self ?_;have hgj:l[j]? =some l[j]:=xaa zO;have hlj:=W5 _ (xaG (show j<l.length by omega));refine au.nat W6 ?_;refine Ld.mk (v:=.int .u64 (l[j]:Int)) (by exact .head _) (by simp[ax,iw,hgj]) ?_;refine ae.nE (a:=1) ?_;have h2:2^j<65536:=xaQ (xbx (n:=16) zD zO) zD;rw[xa5,xbi zO];refine ae.DP (by simp[bF];omega) (by simp[bF];omega) ?_;have h3:=m0 (an.pK n L[k]) (2^j);refine ae.Kw (by simp only[bF];exact hlj) (by simp only[bF];omega) (au.nat W6 ?_);refine St.ints (l:=iw l) (by exact .head _) zP ?_;have e:(iw l).set j ((l[j]|||m4 (an.pK n L[k]) (2^j):Nat):Int)=iw (l.set j (l[j]|||m4 (an.pK n L[k]) (2^j))):=by simp[iw,xcQ]
   rw[e];refine ie _ (by simp[hl]) λw hw=>?_;rcases xci hw with hw|rfl
   ·exact W5 w hw
   exact xbF (n:=64) hlj zO
  exact ae.inc (aC.mk ⟨k+1,l,rfl,by omega,rfl,hl,W5⟩ (by simp[bL];omega))
 exact Gm.mk (by repeat (first|exact bV.refl _|apply bV.cons|apply bV.app)) ⟨_,rfl⟩
end
end Go.Proofs
namespace an
open Go.Sx
def gC:zL->Nat
 | []=>0
 |x::r=>r.foldl min x
theorem q8:∀(r:zL) (x:Nat),r.foldl min x<=x/\∀y∈r,r.foldl min x<=y
 | [],x=>⟨xaj _,by simp⟩
 |z::r,x=>by
  obtain⟨h1,h2⟩:=q8 r (min x z);refine⟨by rw[xcF];omega,λy hy=>?_⟩;rw[xcF];rcases xak.1 hy with rfl|hy
  ·omega
  exact h2 y hy
theorem pA:∀(r:zL) (x:Nat),r.foldl min x=x\/r.foldl min x∈r
 | [],x=>.inl rfl
 |z::r,x=>by
  rw[xcF];rcases pA r (min x z)with h|h
  ·rw[h];rcases Nat.le_total x z with h'|h'
   ·left;omega
   right;rw[xds h'];simp
  right;exact xbt _ h
theorem Cg{l:zL}{y:Nat}(h:y∈l):gC l<=y:=by
 cases l with
 |nil=>simp at h
 |cons x r=>
  obtain⟨h1,h2⟩:=q8 r x;rcases xak.1 h with rfl|h
  ·exact h1
  exact h2 y h
theorem oH{l:zL}(h:l≠[]):gC l∈l:=by
 cases l with
 |nil=>exact absurd rfl h
 |cons x r=>
  rcases pA r x with h|h
  ·show r.foldl min x∈_;rw[h];simp
  exact xbt _ h
theorem Ch{l:zL}{m:Nat}(h1:m∈l)(h2:∀y∈l,m<=y):gC l=m:=
 xd1 (Cg h1) (h2 _ (oH (by intro e;rw[e]at h1;simp at h1)))
theorem E3(l:zL)(x:Nat):gC (l++[x])=if l=[]then x else min (gC l) x:=by
 cases l with
 |nil=>rfl
 |cons y r=>simp[gC,xdm]
def bM(n a:Nat):zL:=(List.range n).filter λv=> !a.testBit v
def has(n a:Nat):zL:=(List.range n).filter λv=>a.testBit v
theorem cQ{n a v:Nat}:v∈bM n a↔v<n/\a.testBit v=false:=by simp[bM]
theorem qK{n a v:Nat}:v∈has n a↔v<n/\a.testBit v=true:=by simp[has]
theorem nY{α:Type}(p q:α->Bool)(x:α):∀(l:List α),l.Nodup->x∈l->p x=true->q x=false->(∀y∈l,y≠x->q y=p y)->(l.filter q).length+1=(l.filter p).length
 | [],_,h,_,_,_=>by simp at h
 |y::l,nd,h,hp,hq,aH=>by
  rw[xaV]at nd;by_cases e:y=x
  ·subst e;have hsame:l.filter q=l.filter p:=by
    apply xdl;intro z hz;exact aH z (by simp[hz]) (λe=>nd.1 (e▸hz))
   rw[xbk,xbk,hp,hq,hsame];simp
  have hxl:x∈l:=by rcases xak.1 h with h|h;exact absurd h.symm e;exact h
  have ih:=nY p q x l nd.2 hxl hp hq λz hz hne=>aH z (by simp[hz]) hne;have hy:=aH y zI e;rw[xbk,xbk,hy];cases p y
  ·simpa using ih
  simp only[xa6,xay];omega
theorem qA{a u v:Nat}(h:v≠u):(aB a u true).testBit v=a.testBit v:=by rw[aj,xab h]
theorem gK{n a v:Nat}(h:v∈bM n a):(bM n (aB a v true)).length+1=(bM n a).length:=by
 obtain⟨h1,h2⟩:=cQ.1 h;refine nY _ _ v (List.range n) xbj (xaM.2 h1) (by simp[h2]) (by simp[aj]) λy hy hne=>?_;rw[qA hne]
def SF(n:Nat)(c:Nat->Nat->Nat):Nat->Nat->Nat
 |0,_=>0
 |f+1,a=>gC ((bM n a).map λv=>c a v+SF n c f (aB a v true))
def par(n:Nat)(c:Nat->Nat->Nat):Nat->Nat->Nat
 |0,_=>0
 |f+1,s=>gC ((has n s).map λv=>c (aB s v false) v+par n c f (aB s v false))
theorem DH{n:Nat}{c:Nat->Nat->Nat}:∀(f:Nat) (a:Nat),(bM n a).length<=f->SF n c (f+1) a=SF n c f a
 |0,a,h=>by
  have:bM n a=[]:=xcM.1 zO;simp[SF,this,gC]
 |f+1,a,h=>by
  rw[SF,SF];congr 1;apply xbn;intro v hv;rw[DH f _ (by have:=gK hv;omega)]
theorem UF(n a:Nat):(bM n a).length<=n:=by have:=xbZ (λv=> !a.testBit v) (List.range n);simpa[bM]using this
def B(n:Nat)(c:Nat->Nat->Nat)(a:Nat):Nat:=SF n c n a
def W(n:Nat)(c:Nat->Nat->Nat)(s:Nat):Nat:=par n c n s
theorem JR(n:Nat)(c:Nat->Nat->Nat)(a:Nat):B n c a=gC ((bM n a).map λv=>c a v+B n c (aB a v true)):=by
 unfold B;rw[<-DH n a (UF n a)];rfl
theorem adb{n:Nat}{c:Nat->Nat->Nat}{a v:Nat}(hv:v∈bM n a):B n c a<=c a v+B n c (aB a v true):=by
 rw[JR n c a];exact Cg (xao.2 ⟨v,hv,rfl⟩)
theorem ade{n:Nat}{c:Nat->Nat->Nat}{a:Nat}(h:bM n a≠[]):∃v∈bM n a,B n c a=c a v+B n c (aB a v true):=by
 have:=oH (l:=(bM n a).map λv=>c a v+B n c (aB a v true)) (by simpa using h);rw[<-JR]at this;obtain⟨v,hv,e⟩:=xao.1 this;exact⟨v,hv,e.symm⟩
theorem LD{n:Nat}{c:Nat->Nat->Nat}{a:Nat}(h:bM n a=[]):B n c a=0:=by rw[JR,h];rfl
structure Used(n:Nat)(c:Nat->Nat->Nat)(U:Nat):Prop where
 zero:∀a v,v<n->a.testBit v=false->U.testBit v=false->c a v=0
 mask:∀a v,v<n->a.testBit v=false->c a v=c (a&&&U) v
theorem n9{a U v:Nat}{b:Bool}:(aB a v b) &&&U=if U.testBit v then aB (a&&&U) v b else a&&&U:=by
 apply xaX;intro k;by_cases hU:U.testBit v=true
 ·rw[xae hU,xbg,aj,aj,xbg];by_cases e:k=v
  ·subst e;simp[hU]
  simp[e]
 rw[xab hU,xbg,aj,xbg];by_cases e:k=v
 ·subst e;simp[hU]
 simp[e]
def dF(n U a:Nat):zL:=(bM n a).filter λv=>U.testBit v
theorem fD{n U a v:Nat}:v∈dF n U a↔v<n/\a.testBit v=false/\U.testBit v=true:=by simp[dF,cQ,and_assoc]
theorem lz(n U a:Nat):dF n U (a&&&U)=dF n U a:=by
 unfold dF bM;rw[xdg,xdg];apply xdl;intro v _;rw[xbg];cases a.testBit v<;>cases U.testBit v<;>rfl
theorem JQ{n U:Nat}{c:Nat->Nat->Nat}(hU:Used n c U):∀(d a:Nat),(bM n a).length=d->B n c a=gC ((dF n U a).map λv=>c (a&&&U) v+B n c (aB a v true))/\∀a',(bM n a').length<=d->a'&&&U=a&&&U->B n c a'=B n c a:=by
 intro d;induction d using Nat.strongRecOn with
 |_ d ih=>
  have key:∀a,(bM n a).length=d->B n c a=gC ((dF n U a).map λv=>c (a&&&U) v+B n c (aB a v true)):=by
   intro a hd;by_cases hm:bM n a=[]
   ·have h1:dF n U a=[]:=by unfold dF;rw[hm];rfl
    rw[h1,LD hm];rfl
   have hle:∀v∈dF n U a,B n c a<=c (a&&&U) v+B n c (aB a v true):=λv hv=>by
    obtain⟨h1,h2,h3⟩:=fD.1 hv;rw[<-hU.mask a v h1 h2];exact adb (cQ.2 ⟨h1,h2⟩)
   obtain⟨v,hv,he⟩:=ade (c:=c) hm;obtain⟨h1,h2⟩:=cQ.1 hv;by_cases hu:U.testBit v=true
   ·symm;refine Ch (xao.2 ⟨v,fD.2 ⟨h1,h2,hu⟩,by rw[<-hU.mask a v h1 h2];exact he.symm⟩) λy hy=>?_;obtain⟨w,hw,rfl⟩:=xao.1 hy;exact hle w hw
   have Ar:U.testBit v=false:=by simpa using hu
   rw[hU.zero a v h1 h2 Ar,xa3]at he;have hlt:(bM n (aB a v true)).length<d:=by have:=gK hv;omega
   have hand:aB a v true&&&U=a&&&U:=by rw[n9,xab hu]
   obtain⟨k1,k2⟩:=ih _ hlt (aB a v true) rfl;have W4:dF n U (aB a v true)=dF n U a:=by rw[<-lz,hand,lz]
   by_cases Ft:dF n U a=[]
   ·rw[W4,Ft]at k1;rw[he,k1,Ft];rfl
   symm;rw[W4,hand]at k1;have hmem:=oH (l:=(dF n U a).map λw=>c (a&&&U) w+B n c (aB (aB a v true) w true)) (by simpa using Ft);rw[<-k1]at hmem;obtain⟨w,hw,j4⟩:=xao.1 hmem;obtain⟨w1,w2,w3⟩:=fD.1 hw;have hwv:w≠v:=λe=>by rw[e]at w3;rw[Ar]at w3;cases w3
   have Xc:aB (aB a v true) w true=aB (aB a w true) v true:=by
    apply xaX;intro k;rw[aj,aj,aj,aj];by_cases e1:k=w<;>by_cases e2:k=v<;>simp[e1,e2]
   have hmw:w∈bM n a:=cQ.2 ⟨w1,w2⟩;have hsub:B n c (aB (aB a v true) w true)=B n c (aB a w true):=by
    have tM:(bM n (aB a w true)).length<d:=by have:=gK hmw;omega
    refine(ih _ tM (aB a w true) rfl).2 _ ?_ ?_
    ·have hvm:v∈bM n (aB a w true):=cQ.2 ⟨h1,by rw[aj,xab (xa8 hwv)];exact h2⟩;have:=gK hvm;rw[Xc];omega
    rw[Xc,n9,xab hu]
   have hval:c (a&&&U) w+B n c (aB a w true)=B n c a:=by rw[he,<-j4,hsub]
   refine Ch (xao.2 ⟨w,hw,hval⟩) λy hy=>?_;obtain⟨z,hz,rfl⟩:=xao.1 hy;exact hle z hz
  intro a hd;refine⟨key a hd,λa' dP hand=>?_⟩;have W4:dF n U a'=dF n U a:=by rw[<-lz,hand,lz]
  have h':B n c a'=gC ((dF n U a').map λv=>c (a'&&&U) v+B n c (aB a' v true)):=by
   rcases xeq (bM n a').length d with h|h
   ·exact(ih _ h a' rfl).1
   exact key a' zO
  rw[h',key a hd,W4,hand];congr 1;apply xbn;intro v hv;congr 1;obtain⟨v1,v2,v3⟩:=fD.1 hv;have hma:v∈bM n a:=cQ.2 ⟨v1,v2⟩;have ae3:v∈bM n a':=by
   rw[<-W4]at hv;exact cQ.2 ⟨v1,(fD.1 hv).2.1⟩
  have hlt:(bM n (aB a v true)).length<d:=by have:=gK hma;omega
  refine(ih _ hlt (aB a v true) rfl).2 _ ?_ ?_
  ·have:=gK ae3;have:=gK hma;omega
  rw[n9,n9,hand]
theorem Xy{n U:Nat}{c:Nat->Nat->Nat}(hU:Used n c U)(a:Nat):B n c (a&&&U)=B n c a:=by
 have e:(a&&&U) &&&U=a&&&U:=by rw[Nat.and_assoc,Nat.and_self]
 rcases Nat.le_total (bM n (a&&&U)).length (bM n a).length with h|h
 ·exact(JQ hU _ a rfl).2 _ h e
 exact((JQ hU _ (a&&&U) rfl).2 a h e.symm).symm
theorem ada{n U:Nat}{c:Nat->Nat->Nat}(hU:Used n c U)(a:Nat):B n c a=gC ((dF n U a).map λv=>c (a&&&U) v+B n c (aB (a&&&U) v true)):=by
 rw[(JQ hU _ a rfl).1];congr 1;apply xbn;intro v hv;obtain⟨v1,v2,v3⟩:=fD.1 hv;congr 1;rw[<-Xy hU (aB a v true),n9,xae v3]
def ord(n:Nat)(c:Nat->Nat->Nat):Nat->Nat->zL
 |0,_=>[]
 |f+1,a=>match(bM n a).find? λv=>c a v+B n c (aB a v true)==B n c a with
  |some v=>v::ord n c f (aB a v true)
  |none=>[]
theorem u3{n:Nat}{c:Nat->Nat->Nat}{f a:Nat}(h:bM n a≠[]):∃v,v∈bM n a/\c a v+B n c (aB a v true)=B n c a/\(∀u∈bM n a,u<v->c a u+B n c (aB a u true)≠B n c a)/\ord n c (f+1) a=v::ord n c f (aB a v true):=by
 obtain⟨w,hw,he⟩:=ade (c:=c) h;cases hf:(bM n a).find? λv=>c a v+B n c (aB a v true)==B n c a with
 |none=>
  rw[xcP]at hf;exact absurd (by simpa using he.symm) (hf w hw)
 |some v=>
  have h1:=List.find?_some hf;refine⟨v,List.mem_of_find?_eq_some hf,by simpa using h1,λu hu huv=>?_,by rw[ord,hf]⟩;rw[xd2]at hf;obtain⟨_,as1,bs,hab,hno⟩:=hf;have hs:(bM n a).Pairwise (· < ·):=List.Pairwise.filter _ List.pairwise_lt_range;rw[hab]at hs hu;rcases xan.1 hu with hu|hu
  ·have:=hno u hu;simpa using this
  rw[List.pairwise_append]at hs;have h2:=hs.2.1;rw[List.pairwise_cons]at h2;rcases xak.1 hu with rfl|hu
  ·omega
  have:=h2.1 u hu;omega
end an
namespace an
open Go.Sx
theorem dj{x u v:Nat}{b c:Bool}(h:u≠v):aB (aB x u b) v c=aB (aB x v c) u b:=by
 apply xaX;intro k;rw[aj,aj,aj,aj];by_cases e1:k=u<;>by_cases e2:k=v
 ·exact absurd (e1.symm.trans e2) h
 ·simp[e1,h]
 ·simp[e2,xa8 h]
 simp[e1,e2]
theorem V4{n u v:Nat}{ws:zL}{b:Bool}(hf:eX n ws)(hu:u<n)(hv:v<n)(h:dep n ws v=false):dep n (iJ n ws u b) v=false:=by
 by_cases e:u=v
 ·subst e;cases hd:dep n (iJ n ws u b) u
  ·rfl
  obtain⟨x,hx,hne⟩:=(uk (eu hf.xC) hu).1 hd;rw[eW hf hu (fY hx hu),eW hf hu (fY hx hu)]at hne;refine absurd ?_ hne;congr 1;apply xaX;intro k;rw[aj,aj,aj,aj];by_cases e:k=u<;>simp[e]
 cases hd:dep n (iJ n ws u b) v
 ·rfl
 obtain⟨x,hx,hne⟩:=(uk (eu hf.xC) hv).1 hd;rw[eW hf hu (fY hx hv),eW hf hu (fY hx hv),dj (xa8 e),dj (xa8 e)]at hne;have:=(uk hf hv).2 ⟨aB x u b,fY hx hu,hne⟩;rw[h]at this;cases this
theorem zN{n:Nat}{L:Fs}{A:Nat}(hL:∀t∈L,eX n t)(hn:n<=16){v:Nat}(hv:v<n)(h:∀t∈L,dep n t v=false):∀k,k<=n->∀t∈st n L A k,dep n t v=false
 |0,_,t,ht=>h t (gp.1 ht)
 |k+1,hk,t,ht=>by
  rw[st]at ht;split at ht
  ·obtain⟨u,hu,b,rfl⟩:=cg.1 ht;exact V4 (EC hL hn k u hu) zO hv (zN hL hn hv h k zO u hu)
  exact zN hL hn hv h k zO t ht
def aX(n:Nat)(L:Fs):Nat:=L.foldl (λu t=>u|||pK n t) 0
theorem o9(n v:Nat):∀(L:Fs) (u:Nat),(L.foldl (λu t=>u|||pK n t) u).testBit v=(u.testBit v||L.any λt=>(pK n t).testBit v)
 | [],u=>by simp
 |t::L,u=>by rw[xcF,o9 n v L,xbY,List.any_cons,Bool.or_assoc]
theorem zF{n v:Nat}{L:Fs}:(aX n L).testBit v=L.any λt=>(pK n t).testBit v:=by
 unfold aX;rw[o9];simp
theorem ux{n v:Nat}{L:Fs}(hv:v<n)(h:(aX n L).testBit v=false):∀t∈L,dep n t v=false:=by
 rw[zF,List.any_eq_false]at h;intro t ht;have:=h t ht;rw[pK,iI]at this;simpa[hv]using this
theorem Dj(n:Nat):∀(L:Fs) (u:Nat),u<2^n->L.foldl (λu t=>u|||pK n t) u<2^n
 | [],u,h=>h
 |t::L,u,h=>Dj n L _ (xbF h (nA n t n))
theorem uy(n:Nat)(L:Fs):aX n L<2^n:=Dj n L 0 (xbw n)
theorem Ka{n:Nat}{L:Fs}{A:Nat}(hL:∀t∈L,eX n t)(hn:n<=16):∀k,k<=n->∀x,x∈st n L A k↔x∈st n L (A&&&aX n L) k
 |0,_,x=>xcT
 |k+1,hk,x=>by
  have ih:=Ka (A:=A) hL hn k zO;rw[st,st,xbg];cases hA:A.testBit k
  ·simpa using ih x
  cases hU:(aX n L).testBit k
  ·simp only[xa6,xea,xaN,xa1];rw[cg,<-ih x];have hd:=zN (A:=A) hL hn (v:=k) zO (ux zO hU) k zO;have hf:=EC (A:=A) hL hn k;constructor
   ·rintro⟨t,ht,b,rfl⟩;rw[n6 (hf t ht) zO (hd t ht)];exact ht
   intro hx;exact⟨x,hx,false,(n6 (hf x hx) zO (hd x hx)).symm⟩
  simp only[xdQ,xa6];rw[cg,cg];constructor
  ·rintro⟨t,ht,h⟩;exact⟨t,(ih t).1 ht,h⟩
  rintro⟨t,ht,h⟩;exact⟨t,(ih t).2 ht,h⟩
theorem JW{n:Nat}{L:Fs}(hL:∀t∈L,eX n t)(hn:n<=16):Used n (lvl n L) (aX n L):=by
 refine⟨λa v hv _ hU=>?_,λa v hv _=>?_⟩
 ·unfold lvl nodes;rw[xcM,xdk];intro t ht;rw[zN hL hn hv (ux hv hU) n (xaj _) t ht];simp
 exact mH (jw (nB n L a n) (nB n L _ n) (Ka hL hn n (xaj _)))
end an
set_option maxRecDepth 100000
namespace Go.Proofs
open Go Go.Sx
def kp(x:Nat×Nat):zV:=.agg (ax .i64 [(x.1:Int),(x.2:Int)])
def ki(x:Nat):zV:=iv (x:Int)
theorem Fg(a b:Nat):Instr.sameNow (.int .i64) (ki a) (ki b)=some (decide (a=b)):=by
 simp only[Instr.sameNow,ki,xa6,xaq];rw[xbR];simp;omega
theorem UY(a:Nat):Instr.sameBits 10000 (ki a) (ki a)=true:=by simp[Instr.sameBits,ki]
theorem QA(a b:Nat×Nat):A1 zQ 411 (kp a) (kp b) (decide (a=b)):=by
 have:=A1.array (P:=zQ) (t:=411) (e:=3) (q:=.i64) (n:=2) zK zK zK [(a.1:Int),(a.2:Int)] [(b.1:Int),(b.2:Int)] rfl rfl;have e:decide ([(a.1:Int),(a.2:Int)]=[(b.1:Int),(b.2:Int)])=decide (a=b):=by
  rw[xcp];obtain⟨a1,a2⟩:=a;obtain⟨b1,b2⟩:=b;simp;omega
 rw[e]at this;exact this
theorem Fe(a:Nat×Nat):mi zQ 411 (kp a):=mi.array (P:=zQ) (t:=411) (e:=3) (q:=.i64) (n:=2) zK zK zK _ rfl
theorem xy(n:Nat)(q:IntKind)(l:List Int):Instr.sameBits (n+1+1) (.agg (ax q l)) (.agg (ax q l))=true:=by
 simp only[Instr.sameBits,ax,xep,xcq,xc2];intro x hx;obtain⟨a,b⟩:=x;have h:=xdC hx;have e:a=b:=by
  rw[List.zip_eq_zip_take_min]at hx;obtain⟨i,hi,he⟩:=xba.1 hx;simp at he;exact he.1.symm.trans he.2
 subst e;have:=h.1;simp only[xdB,xao]at this;obtain⟨y,_,rfl⟩:=this;simp[Instr.sameBits]
theorem UU(a:Nat×Nat):Instr.sameBits 10000 (kp a) (kp a)=true:=xy 9998 _ _
abbrev vrN(v:zV)(x:Nat):Prop:=v=iv (x:Int)
structure Lt(n:Nat)(L:List (zL))(j9:Array MapEntry)(jL:Nat)(gR:Array MapEntry)(iE:Nat):Prop where
 ah:∃m,aE kp vrN j9 jL m/\∀x∈m,x.2=an.lvl n L x.1.1 x.1.2
 dow:∃m,aE ki vrN gR iE m/\∀x∈m,x.2=an.B n (an.lvl n L) x.1
def nf(bp bl bd:Nat)(xl:zV)(n:Nat)(L:List (zL))(U:Nat)(B H:Hp):Prop:=
 ∃j9 jL gR iE,H=(bp,.cells #[xl,iv (n:Int),iv (U:Int),.map (some bl),.map (some bd)] 343 (0,0))::(bl,.map j9 jL)::(bd,.map gR iE)::B/\Lt n L j9 jL gR iE
theorem Cd{κ:Type}[DecidableEq κ]{f:κ->Nat}{m:List (κ×Nat)}{k:κ}(h:∀x∈m,x.2=f x.1):∀x∈dZ m k (f k),x.2=f x.1:=by
 intro x hx;unfold dZ at hx;split at hx
 ·obtain⟨y,hy,rfl⟩:=xao.1 hx;split
  ·rfl
  exact h y hy
 rcases xan.1 hx with hx|hx
 ·exact h x hx
 simp at hx;subst hx;rfl
theorem Cj{κ:Type}[DecidableEq κ]{f:κ->Nat}{m:List (κ×Nat)}{k:κ}{x:Nat}(h:∀x∈m,x.2=f x.1)(hk:aK m k=some x):x=f k:=by
 unfold aK at hk;obtain⟨y,hy,rfl⟩:=xdP.1 hk;have h1:=List.find?_some hy;have h2:=h y (List.mem_of_find?_eq_some hy);simp only[xaA]at h1;rw[h2,h1]
structure wG(xl:zV)(n:Nat)(L:List (zL))(B:Hp):Prop where
 tb:jF B xl (L0 n L)
 Bi:∀ws∈L,an.eX n ws
 ne:L≠[]
 small:L.length<33554432
 n12:n<=12
theorem E7{xl:zV}{n:Nat}{L:List (zL)}{B:Hp}(h:wG xl n L B)(a v:Nat):an.lvl n L a v<2199023255551:=by
 have h1:an.lvl n L a v<=(an.st n L a n).length:=xbZ _ _;have h2:=Pz (n:=n) (A:=a) (L:=L) (by have:=h.n12;omega) h.small (xaj n);omega
theorem Ca{xl:zV}{n:Nat}{L:List (zL)}{B:Hp}(h:wG xl n L B){bp bl bd a v:Nat}{H:Hp}(hp:nf bp bl bd xl n L (an.aX n L) B H)(ha:a<2^n)(hv:v<n)(hav:a.testBit v=false):
  Fc zQ 281 #[.pointer (some ⟨bp,0,none⟩),iv (a:Int),iv (v:Int)] H (λr H'=>r=iv ((an.lvl n L a v:Nat):Int)/\nf bp bl bd xl n L (an.aX n L) B H'):=by
 obtain⟨j9,jL,gR,iE,rfl,hM⟩:=hp;have hU:=an.uy n L;have tK:=h.n12;have lP:2^n<=2^12:=xaz zD tK;have C7:=an.JW h.Bi zO;have hsU:an.aX n L>>>v<=an.aX n L:=xbl _ _;refine aF λg=>HX ?_;apply Nil.ptr;refine ai.mk (Ld.mk zM rfl ?_);refine ae.iL (by simp[bF];omega) (ae.jD (b:=1) (by simp[bF];omega) zD (ae.eO (b:=0) ?_));have M1:an.aX n L>>>v&&&1=0↔(an.aX n L).testBit v=false:=by
  rw[an.gv,xbC,xcw];cases (an.aX n L).testBit v<;>simp
 refine Br.dec (λh0=>?_) (λh0=>?_)
 ·refine aN.here ⟨?_,j9,jL,gR,iE,rfl,hM⟩;rw[C7.zero a v hv hav (M1.1 h0)];rfl
 have hUv:(an.aX n L).testBit v=true:=by cases hh:(an.aX n L).testBit v;exact absurd (M1.2 hh) h0;rfl
 apply Nil.ptr;refine ai.mk (Ld.mk zM rfl ?_);refine ae.jD (by simp[bF];omega) (by simp[bF];omega) ?_;have hlv:an.lvl n L a v=an.lvl n L (a&&&an.aX n L) v:=C7.mask a v hv hav;have Xe:(a&&&an.aX n L).testBit v=false:=by rw[xbg,hav];rfl
 have haU:a&&&an.aX n L<2^n:=xaC xcj ha;rw[hlv];obtain⟨a',ef⟩:∃a',a'=a&&&an.aX n L:=⟨_,rfl⟩;rw[<-ef]at Xe haU⊢;refine Build.two (q:=.i64) (e:=3) zK zK zK ?_;rw[show ax .i64 [(a':Int),(v:Int)]=List.toArray [iv (a':Int),iv (v:Int)]from rfl];intro Tw _;refine St.q ?_;apply Nil.ptr;refine ai.mk (Ld.mk zM rfl ?_);refine ay.q ?_;obtain⟨⟨m1,Ts,tL⟩,abP⟩:=hM;have abd:∀J:List zV->Hp->Prop,(∀w25:zV,∀H24:Hp,(∀ak7:Fr,aN (λr H'=>r=iv ((an.lvl n L a' v:Nat):Int)/\nf bp bl bd xl n L (an.aX n L) B H') (.returned w25) H24)->J [w25] H24)->
   ∀VY V5,Lt n L VY V5 gR iE->J [iv ((an.lvl n L a' v:Nat):Int)] ((bp,.cells #[xl,iv (n:Int),iv ((an.aX n L:Nat):Int),.map (some bl),.map (some bd)] 343 (0,0))::(bl,.map VY V5)::(bd,.map gR iE)::B):=
  λJ hJ VY V5 hM=>hJ _ _ λgs=>aN.here ⟨rfl,VY,V5,gR,iE,rfl,hM⟩
 cases hg:aK m1 (a',v)with
 |some x=>
  have hx:=Cj (f:=λk=>an.lvl n L k.1 k.2) tL hg;simp only at hx;refine aE.Fv (ke:=kp) (k:=(a',v)) QA Fe Ts (by exact .tail _ (.tail _ (.head _))) hg λy hy=>?_;subst hy;apply Ext.two;intro J hJ;refine Un.not (Br.no (JE.of .tail ?_));rw[hx];exact abd J hJ _ _ ⟨⟨m1,Ts,tL⟩,abP⟩
 |none=>
  refine aE.vi (ke:=kp) (k:=(a',v)) QA Fe Ts (by exact .tail _ (.tail _ (.head _))) hg ?_;apply Ext.two;intro J hJ;refine Un.not (Br.yes (DR.self (Nil.ptr ?_)));refine ai.mk (Ld.mk zM rfl ?_);refine⟨Tw,0,.i64,0,rfl,rfl,by decide,by decide,?_⟩;refine Ld.q ?_;refine br.q (aa.eq (B:=B) (Qv (n:=n) (L:=L) h.tb h.Bi h.ne (by have:=h.small;omega) haU hv Xe) (⟨.refl _,Ext.mk rfl (Ext.mk rfl ?_)⟩));refine DR.of (R:=(Tw,.cells (List.toArray [iv (a':Int),iv (v:Int)]) 411 (0,0))::(bp,.cells #[xl,iv (n:Int),iv ((an.aX n L:Nat):Int),.map (some bl),.map (some bd)] 343 (0,0))::[]) (.cons (.cons (λg w h=>(Own.left (B:=_) (A:=[]) h)))) (Nil.ptr ?_);refine ai.mk (Ld.mk zM rfl ?_);refine ay.q ?_;refine aE.LV (ke:=kp) (vr:=vrN) (b:=bl) (val:=iv ((an.lvl n L a' v:Nat):Int)) (k:=(a',v)) (x:=an.lvl n L a' v) QA Fe UU Ts rfl λes' bB C8=>⟨_,.tail (.tail (.head _)),?_⟩;have ae6:∀x∈dZ m1 (a',v) (an.lvl n L a' v),x.2=an.lvl n L x.1.1 x.1.2:=Cd (f:=λk:Nat×Nat=>an.lvl n L k.1 k.2) (k:=(a',v)) tL;have Y9:Lt n L es' bB gR iE:=⟨⟨dZ m1 (a',v) (an.lvl n L a' v),C8,ae6⟩,abP⟩;exact JE.of .tail (abd J hJ es' bB Y9)
end Go.Proofs
namespace Go.Sx
open Go
theorem u6(n:Int):BitVec.ofInt 64 (IntKind.i64.wrap n)=BitVec.ofInt 64 n:=by
 apply BitVec.eq_of_toNat_eq;simp only[BitVec.toNat_ofInt,IntKind.wrap,IntKind.bits,IntKind.signed,xcq,xaA];congr 1;split<;>omega
theorem wrap_toInt(x:BitVec 64):IntKind.i64.wrap (x.toNat:Int)=x.toInt:=by
 rw[BitVec.toInt_eq_toNat_cond];have:=x.isLt;have e:(2:Int)^(64-1)=9223372036854775808:=rfl;simp only[IntKind.wrap,IntKind.bits,IntKind.signed,xcq,xaA,e];split<;>split<;>omega
theorem p5(op:BinOp)(x y:Int):BitVec.ofInt 64 (bits op .i64 x y)=(match op with
  | .and=>BitVec.ofInt 64 x&&&BitVec.ofInt 64 y
  | .or=>BitVec.ofInt 64 x|||BitVec.ofInt 64 y
  | .xor=>BitVec.ofInt 64 x^^^BitVec.ofInt 64 y
  |_=>BitVec.ofInt 64 x&&& ~~~BitVec.ofInt 64 y):=by
 unfold bits;simp only[u6];rw[xcG];simp only[IntKind.bits];rw[BitVec.ofNat_toNat,BitVec.setWidth_eq];cases op<;>rfl
theorem wx(op:BinOp)(x y:Int):bits op .i64 x y=(BitVec.ofInt 64 (bits op .i64 x y)).toInt:=by
 unfold bits;simp only[u6];rw[xcG];simp only[IntKind.bits];rw[BitVec.ofNat_toNat,BitVec.setWidth_eq];exact wrap_toInt _
theorem Mw{a U v:Nat}(ha:a<4611686018427387904)(hU:U<4611686018427387904)(hv:v<62):
  bits .and .i64 ((bits .or .i64 a (bits .xor .i64 (-1) U)).fdiv (2^(min (v:Int).toNat IntKind.i64.bits))) 1=if a.testBit v=true\/U.testBit v=false then 1 else 0:=by
 have hX:=p5 .or (a:Int) (bits .xor .i64 (-1) U);simp only at hX;have hN:=p5 .xor (-1) (U:Int);simp only at hN;rw[hN]at hX;generalize hx:bits .or .i64 a (bits .xor .i64 (-1) U)=x at hX;have hxi:x=(BitVec.ofInt 64 x).toInt:=by rw[<-hx];exact wx _ _ _
 have hm:min (v:Int).toNat IntKind.i64.bits=v:=by simp[IntKind.bits];omega
 rw[hm];have hs:x.fdiv (2^v)=((BitVec.ofInt 64 x).sshiftRight v).toInt:=by
  rw[BitVec.toInt_sshiftRight,<-hxi,Int.shiftRight_eq_div_pow,Int.fdiv_eq_ediv_of_nonneg _ (Int.le_of_lt (Int.pow_pos zD))]
  push_cast;rfl
 rw[hs,wx,p5];simp only[BitVec.ofInt_toInt];rw[hX];have h1:BitVec.ofInt 64 (1:Int)=1#64:=rfl;have h2:BitVec.ofInt 64 (-1:Int)=BitVec.allOnes 64:=by decide
 rw[h1,h2];have M1:((BitVec.ofInt 64 (a:Int)|||BitVec.allOnes 64^^^BitVec.ofInt 64 (U:Int)).sshiftRight v).getLsbD 0=(a.testBit v|| !U.testBit v):=by
  rw[BitVec.getLsbD_sshiftRight];have e1:v+0<64:=by omega
  simp only[xcw,show¬(64<=0)from by decide,xdn,xb0,xcq,show v<64 by omega,xa6];rw[BitVec.getLsbD_or,BitVec.getLsbD_xor,BitVec.getLsbD_allOnes,xcG,xcG,BitVec.getLsbD_ofNat,BitVec.getLsbD_ofNat];simp[show v<64 by omega]
 have ie:∀y:BitVec 64,(y&&&1#64).toInt=if y.getLsbD 0 then 1 else 0:=by
  intro y;have:y&&&1#64=if y.getLsbD 0 then 1#64 else 0#64:=by
   apply BitVec.eq_of_getLsbD_eq;intro i hi;rw[BitVec.getLsbD_and];by_cases h0:i=0
   ·subst h0;cases hb:y.getLsbD 0<;>simp[hb]
   have:(1#64).getLsbD i=false:=by simp[BitVec.getLsbD_one,h0]
   rw[this];cases y.getLsbD 0<;>simp[this]
  rw[this];cases y.getLsbD 0<;>decide
 rw[ie,M1];cases a.testBit v<;>cases U.testBit v<;>simp
theorem aaJ{a U v:Nat}(ha:a<4611686018427387904)(hU:U<4611686018427387904)(hv:v<62){k:zV->Prop}(h:k (.bool (decide (a.testBit v=true\/U.testBit v=false)))):
  Un .xor (.int .i64 (U:Int)) λv33=>ae .num .or (.int .i64 (a:Int)) v33 λv34=>ae .num .shr v34 (.int .i64 (v:Int)) λv35=>ae .num .and v35 (.int .i64 1) λv36=>ae .num .eql v36 (.int .i64 1) k:=by
 refine⟨_,rfl,_,rfl,?_⟩;have h0:¬((v:Int)<0):=by omega
 refine⟨_,by simp only[gY,h0,xa1];rfl,_,rfl,?_⟩;refine ae.gU ?_;have hs:(if IntKind.i64.signed=true then(-1:Int)else IntKind.i64.max)= -1:=rfl;rw[hs,Mw ha hU hv];by_cases hc:a.testBit v=true\/U.testBit v=false
 ·rw[xae hc];rw[xam hc]at h;exact h
 rw[xab hc];rw[xal hc]at h;exact h
end Go.Sx
set_option maxRecDepth 100000
namespace Go.Proofs
open Go Go.Sx
section
theorem iQ(x:zV)(r:List zV)(i:Nat):bL (x::r) (i+1)=bL r i:=by cases x<;>rfl
def jO(n:Nat)(L:List (zL))(U a k:Nat):zL:=((List.range k).filter λv=> !a.testBit v&&U.testBit v).map λv=>an.lvl n L a v+an.B n (an.lvl n L) (an.aB a v true)
theorem Md{n:Nat}{L:List (zL)}{U a:Nat}:jO n L U a n=(an.dF n U a).map λv=>an.lvl n L a v+an.B n (an.lvl n L) (an.aB a v true):=by
 unfold jO an.dF an.bM;rw[xdg];congr 1;apply xdl;intro v _;cases a.testBit v<;>cases U.testBit v<;>rfl
theorem uM{n:Nat}{L:List (zL)}{U a k:Nat}:jO n L U a (k+1)=if a.testBit k=true\/U.testBit k=false then jO n L U a k else jO n L U a k++[an.lvl n L a k+an.B n (an.lvl n L) (an.aB a k true)]:=by
 unfold jO;rw[xcl,xb4,xaJ];cases h1:a.testBit k<;>cases h2:U.testBit k<;>simp[h1,h2]
def y7(l:zL):zV:=if l=[]then iv (-1)else iv ((an.gC l:Nat):Int)
theorem SE(n:Nat)(c:Nat->Nat->Nat)(M:Nat)(hc:∀a v,c a v<=M):∀f a,an.SF n c f a<=f*M
 |0,a=>by simp[an.SF]
 |f+1,a=>by
  rw[an.SF,xbu];by_cases h:an.bM n a=[]
  ·rw[h];simp[an.gC]
  have:=an.oH (l:=(an.bM n a).map λv=>c a v+an.SF n c f (an.aB a v true)) (by simpa using h);obtain⟨v,_,e⟩:=xao.1 this;rw[<-e];have h1:=hc a v;have h2:=SE n c M hc f (an.aB a v true);omega
theorem LC{xl:zV}{n:Nat}{L:List (zL)}{B:Hp}(h:wG xl n L B)(a:Nat):an.B n (an.lvl n L) a<35184372088832:=by
 have h1:=SE n (an.lvl n L) 2199023255551 (λa v=>xb7 (E7 h a v)) n a;have h2:n*2199023255551<=12*2199023255551:=xaY _ h.n12;unfold an.B;omega
theorem AW{a U n:Nat}(hU:U<2^n)(h:∀v,v<n->¬(a.testBit v=false/\U.testBit v=true)):a&&&U=U:=by
 apply xaX;intro k;rw[xbg];by_cases hk:k<n
 ·have:=h k hk;cases h1:a.testBit k<;>cases h2:U.testBit k<;>simp_all
 have:U.testBit k=false:=xb9 (xaQ hU (xaz zD zO));rw[this];simp
theorem rK{xl:zV}{n:Nat}{L:List (zL)}{B:Hp}(h:wG xl n L B){bp bl bd:Nat}:∀(d a:Nat),(an.dF n (an.aX n L) a).length<=d->a<2^n->∀H,nf bp bl bd xl n L (an.aX n L) B H->
  Fc zQ 282 #[.pointer (some ⟨bp,0,none⟩),iv (a:Int)] H (λr H'=>r=iv ((an.B n (an.lvl n L) a:Nat):Int)/\nf bp bl bd xl n L (an.aX n L) B H'):=by
 have hU:=an.uy n L;have tK:=h.n12;have lP:2^n<=2^12:=xaz zD tK;have C7:=an.JW h.Bi zO;intro d;induction d using Nat.strongRecOn with
 |_ d ih=>
  intro a hd ha H hp;obtain⟨j9,jL,gR,iE,rfl,hM⟩:=hp;refine aF λg=>wV ?_;apply Nil.ptr;refine ai.mk (Ld.mk zM rfl ?_);refine ae.jD (by simp[bF];omega) (by simp[bF];omega) (Nil.ptr ?_);refine ai.mk (Ld.mk zM rfl ?_);have hBa:an.B n (an.lvl n L) a=an.B n (an.lvl n L) (a&&&an.aX n L):=(an.Xy C7 a).symm;have W4:an.dF n (an.aX n L) (a&&&an.aX n L)=an.dF n (an.aX n L) a:=an.lz _ _ _;have haU:a&&&an.aX n L<2^n:=xaC xcj ha;have iU:(a&&&an.aX n L) &&&an.aX n L=a&&&an.aX n L:=by rw[Nat.and_assoc,Nat.and_self]
  rw[hBa];rw[<-W4]at hd;obtain⟨a',ef⟩:∃a',a'=a&&&an.aX n L:=⟨_,rfl⟩;rw[<-ef]at haU hd iU⊢;clear hBa W4 ha ef;have aH:=Md (n:=n) (L:=L) (U:=an.aX n L) (a:=a');have abe:an.B n (an.lvl n L) a'=an.gC (jO n L (an.aX n L) a' n):=by
   rw[aH];have:=an.ada C7 a';rw[iU]at this;exact this
  refine ae.eO (Br.dec (λh0=>?_) (λh0=>?_))
  ·refine aN.here ⟨?_,j9,jL,gR,iE,rfl,hM⟩;have:an.dF n (an.aX n L) a'=[]:=by
    rw[xcB];intro v hv;obtain⟨_,h2,h3⟩:=an.fD.1 hv;rw[h0,h3]at h2;cases h2
   rw[abe,aH,this];rfl
  have hne:jO n L (an.aX n L) a' n≠[]:=by
   rw[aH];intro e;apply h0;rw[<-iU];refine AW hU λv hv hh=>?_;have:v∈an.dF n (an.aX n L) a':=an.fD.2 ⟨hv,hh.1,hh.2⟩;rw[List.map_eq_nil_iff.1 e]at this;simp at this
  apply Nil.ptr;refine ai.mk (Ld.mk zM rfl ?_);obtain⟨Rb,m2,sn,lR⟩:=hM;cases hg:aK m2 a' with
  |some x=>
   have hx:=Cj (f:=an.B n (an.lvl n L)) lR hg;refine aE.hit (ke:=ki) (k:=a') Fg sn (by exact .tail _ (.tail _ (.head _))) hg λy hy=>?_;subst hy;refine Ext.mk rfl (Ext.mk rfl (Br.yes (aN.here ⟨?_,j9,jL,gR,iE,rfl,Rb,m2,sn,lR⟩)));rw[hx];rfl
  |none=>
   refine aE.bM (ke:=ki) (k:=a') Fg sn (by exact .tail _ (.tail _ (.head _))) hg ?_;refine Ext.mk rfl (Ext.mk rfl (Br.no (Nil.ptr ?_)));refine ai.mk (Ld.mk zM rfl ?_);refine⟨λvs H=>∃k:Nat,vs=[y7 (jO n L (an.aX n L) a' k),iv (k:Int)]/\k<=n/\nf bp bl bd xl n L (an.aX n L) B H,λvs _=>n-bL vs 1,
    JE.mk ⟨0,rfl,xaO _,j9,jL,gR,iE,rfl,Rb,m2,sn,lR⟩,?_⟩
   clear sn lR hg Rb j9 jL gR iE m2;rintro w22 w23 H ⟨k,⟨⟩,hk,hp⟩ gs;refine ae.fi (Br.dec (λhlt=>?_) (λhlt=>?_))
   ·intro J hJ;have OR:=hp;obtain⟨j9,jL,gR,iE,rfl,hM⟩:=hp;apply Nil.ptr;refine ai.mk (Ld.mk zM rfl ?_);refine aaJ zO zO zO ?_;have CQ:∀l H,l=jO n L (an.aX n L) a' (k+1)->nf bp bl bd xl n L (an.aX n L) B H->J [y7 l] H:=λl H hl hp=>hJ _ _ λgs=>by
     exact ae.inc (aC.mk ⟨k+1,by rw[hl],by omega,hp⟩ (by rw[iQ,iQ];show n-(((k:Int)+1).toNat)<n-((k:Int).toNat);omega))
    by_cases hc:a'.testBit k=true\/(an.aX n L).testBit k=false
    ·rw[xam hc];refine Br.yes (JE.mk (CQ _ _ ?_ OR));rw[uM,xae hc]
    rw[xal hc];have hck:a'.testBit k=false/\(an.aX n L).testBit k=true:=by
     cases h1:a'.testBit k<;>cases h2:(an.aX n L).testBit k<;>simp_all
    have hmem:k∈an.dF n (an.aX n L) a':=an.fD.2 ⟨hlt,hck.1,hck.2⟩;refine Br.no (DR.self ?_);have hpk:2^k<=2^12:=xaz zD zO;refine ae.BI (a:=1) (by simp[IntKind.bits];omega) (by rw[xa5];simp[bF];omega) ?_;rw[xa5];refine ae.Kw (by simp[bF];omega) (by simp[bF];omega) ?_;have VX:a'|||2^k=an.aB a' k true:=rfl
    rw[VX];refine aa.fq (Ca h OR haU hlt hck.1) ?_;rintro r H1 ⟨rfl,ud⟩;have hlen:(an.dF n (an.aX n L) (an.aB a' k true)).length<d:=by
     have h1:(an.dF n (an.aX n L) (an.aB a' k true)).length+1=(an.dF n (an.aX n L) a').length:=by
      unfold an.dF an.bM;rw[xdg,xdg];refine an.nY _ _ k (List.range n) xbj (xaM.2 hlt) (by simp[hck]) (by simp[an.aj]) λy hy hne=>?_;rw[an.qA hne]
     omega
    refine aa.fq (ih _ hlen (an.aB a' k true) (xaj _) (an.fY haU hlt) H1 ud) ?_;rintro r H2 ⟨rfl,lP⟩;have Vt:=E7 h a' k;have ta:=LC h (an.aB a' k true);refine ae.fH ?_;have hstep:=uM (n:=n) (L:=L) (U:=an.aX n L) (a:=a') (k:=k);rw[xab hc]at hstep;generalize an.lvl n L a' k+an.B n (an.lvl n L) (an.aB a' k true)=x at hstep;unfold y7;by_cases hl:jO n L (an.aX n L) a' k=[]
    ·rw[xae hl];refine ae.lss (cf.mk true (λe=>by simp at e) (λ_=>rfl) λgs=>Br.yes (JE.mk ?_));have:=CQ [x] _ (by rw[hstep,hl];rfl) lP;simpa[y7,an.gC]using this
    rw[xab hl];have hms:=an.E3 (jO n L (an.aX n L) a' k) x;rw[xab hl,<-hstep]at hms;have aeZ:jO n L (an.aX n L) a' (k+1)≠[]:=by rw[hstep];simp
    have Tk:=CQ _ H2 rfl lP;unfold y7 at Tk;rw[xab aeZ,hms]at Tk;have hneg:decide (((an.gC (jO n L (an.aX n L) a' k):Nat):Int)<0)=false:=xal zO;by_cases hx:x<an.gC (jO n L (an.aX n L) a' k)
    ·rw[xds zO]at Tk;refine ae.lss ?_;rw[hneg];exact cf.mk true (λ_=>ae.fi ⟨rfl,by rw[xam hx]⟩) (λe=>by simp at e) λgs=>Br.yes (JE.mk Tk)
    rw[xcD zO]at Tk;refine ae.lss ?_;rw[hneg];exact cf.mk false (λ_=>ae.fi ⟨rfl,by rw[xal hx]⟩) (λe=>by simp at e) λgs=>Br.no (JE.mk Tk)
   have:k=n:=by omega
   subst this;obtain⟨j9,jL,gR,iE,rfl,Rb,m2,sn,lR⟩:=hp;apply Nil.ptr;refine ai.mk (Ld.mk zM rfl ?_);unfold y7;rw[xab hne,<-abe];refine aE.bg (ke:=ki) (vr:=vrN) (b:=bd) (val:=iv ((an.B k (an.lvl k L) a':Nat):Int)) (k:=a') (x:=an.B k (an.lvl k L) a') Fg UY sn rfl λes' bB C8=>⟨_,.tail (.tail (.head _)),?_⟩;have ae5:∀x∈dZ m2 a' (an.B k (an.lvl k L) a'),x.2=an.B k (an.lvl k L) x.1:=Cd (f:=an.B k (an.lvl k L)) lR;exact aN.here ⟨rfl,j9,jL,es',bB,rfl,Rb,_,C8,ae5⟩
end
section
def agR(v:zV)(ts:List Tb)(B:Hp)(r:zV)(H:Hp):Prop:=
 (rD ts/\∃(bp bl bd n:Nat) (L:List (zL)) (N:Hp),ts=L0 n L/\(L=[]->n=0)/\n<=16/\(∀ws∈L,an.eX n ws)/\r=.tuple #[.pointer (some ⟨bp,0,none⟩),iv 0]/\nf bp bl bd v n L (an.aX n L) (N++B) H)
 \/(¬rD ts/\r=.tuple #[.pointer none,iv 5])
theorem sS(n:Nat)(L:List (zL)):Lt n L #[] 0 #[] 0:=⟨⟨[],aE.empty,by simp⟩,⟨[],aE.empty,by simp⟩⟩
theorem Er{n:Nat}{L:List (zL)}{k:Nat}(h:k<L.length):an.aX n (L.take (k+1))=an.aX n (L.take k)|||an.pK n L[k]:=by
 unfold an.aX;rw[xbp,xaa h,Option.toList_some,xdm];rfl
theorem Nl{B:Hp}{v:zV}{ts:List Tb}(ht:jF B v ts)(cA:ts.length<4398046511104):Px zQ 280 #[v] B (agR v ts B):=by
 obtain⟨va,vc,vl,rfl⟩:∃a c l,v=.slice a l c:=by
  obtain⟨rs,h1,_⟩:=ht;obtain⟨a,c,e,_⟩:=h1.shape;exact⟨a,c,_,e⟩
 refine aF λg=>HY ?_;intro b1 _ b2 _;refine Build.mk (cs:=[.slice va vl vc,iv 0,iv 0,.map (some b1),.map (some b2)]) zK ?_;intro bp _;generalize hvs:Value.slice va vl vc=vv at ht⊢;refine ht.bP (ae.eO (b:=0) (Br.dec (λh0=>?_) (λh0=>?_)))
 ·have Ft:ts=[]:=xbT h0;subst Ft;refine⟨_,_,rfl,aM.cons aM.swap,(by repeat (first|exact bV.refl _|apply bV.cons|apply bV.app)),Or.inl ⟨by simp[rD],bp,b1,b2,0,[],[],rfl,λ_=>rfl,by omega,by simp,rfl,_,_,_,_,?_,sS _ _⟩⟩;subst hvs;rfl
 refine aa.pq (B:=B) (Qi ht cA) ?_;rintro r N ⟨s,rfl⟩;apply Ext.two;by_cases hO:rD ts
 case neg=>
  rw[xab hO];exact ae.tH (a:=5) (b:=0) (Br.dec (λ_=>Gm.mk (by repeat (first|exact bV.refl _|apply bV.cons|apply bV.app)) (.inr ⟨hO,rfl⟩)) (λh=>absurd zD h))
 rw[xae hO];refine ae.tH (a:=0) (b:=0) (Br.dec (λh=>absurd rfl h) (λ_=>?_));obtain⟨n,L,vI,rfl,hne,hf⟩:=Ky hO (by intro e;rw[e]at h0;exact h0 rfl);rw[xax]at cA h0;obtain⟨w0,Th⟩:∃w0,L[0]? =some w0:=⟨_,xaa (xda.2 hne)⟩;refine ht.ldN (i:=0) (t:=⟨n,w0⟩) (by rw[xat,Th];rfl) zS ?_;simp only;refine Nil.ptr (ai.mk (St.one (c:=#[vv,iv 0,iv 0,.map (some b1),.map (some b2)]) (c':=#[vv,iv (n:Int),iv 0,.map (some b1),.map (some b2)]) (H':=(bp,.cells #[vv,iv (n:Int),iv 0,.map (some b1),.map (some b2)] 343 (0,0))::(b2,.map #[] 0)::(b1,.map #[] 0)::(N++B)) (by subst hvs;exact .head _) rfl zI rfl ?_));refine ht.bP ?_;rw[xax];refine⟨λvs H=>∃(k:Nat) (N:Hp),vs=[iv (k:Int)]/\k<=L.length/\H=(bp,.cells #[vv,iv (n:Int),iv ((an.aX n (L.take k):Nat):Int),.map (some b1),.map (some b2)] 343 (0,0))::(b2,.map #[] 0)::(b1,.map #[] 0)::(N++B),
  λvs _=>L.length-bL vs 0,JE.mk ⟨0,N,rfl,by omega,rfl⟩,?_⟩
 clear N;rintro w H ⟨k,N,⟨⟩,hk,rfl⟩ gs;refine ae.fi (Br.dec (λhlt=>?_) (λhlt=>?_))
 ·have hg:(L.map λws=>(⟨n,ws⟩:Tb))[k]? =some ⟨n,L[k]⟩:=by rw[xat,xaa hlt];rfl
  have oW:=hf L[k] (xaG hlt);refine ht.ld hg zS λs hw=>?_;intro b3 _;refine St.p ?_ ?_
  ·have:=bO hw;simpa[Value.oneCell']using this
  refine ay.q ?_;refine aa.eq (B:=B) (uD (v:=.agg (List.toArray [iv (n:Int),s])) (t:=⟨n,L[k]⟩) ⟨s,rfl,hw⟩) ?_;rw[xae (show TF ⟨(n:Int),L[k]⟩from⟨by simp,by simpa using oW⟩)];apply Ext.two;simp only[xbe];have ajG:2^n<=2^16:=xaz (n:=2) zD vI;have aa8:an.pK n L[k]<2^n:=an.nA n L[k] n;have hus:=an.uy n (L.take k);apply Nil.ptr;refine ai.mk (Ld.mk zM rfl ?_);refine br.q (ae.Kw (by simp[bF];omega) (by simp[bF];omega) ?_);rw[<-Er hlt];refine Nil.ptr (ai.mk (St.one (c:=#[vv,iv (n:Int),iv ((an.aX n (L.take k):Nat):Int),.map (some b1),.map (some b2)]) (c':=#[vv,iv (n:Int),iv ((an.aX n (L.take (k+1)):Nat):Int),.map (some b1),.map (some b2)]) (by repeat (first|exact c6.head _|apply c6.tail|apply c6.ca)) rfl zI rfl ?_));exact ae.inc (aC.of .tail ⟨k+1,N,rfl,by omega,rfl⟩ (by simp[bL];omega))
 have:k=L.length:=by omega
 subst this;rw[xbh];refine⟨_,_,rfl,aM.cons aM.swap,(by repeat (first|exact bV.refl _|apply bV.cons|apply bV.app)),Or.inl ⟨hO,bp,b1,b2,n,L,N,rfl,λe=>absurd e hne,vI,hf,rfl,_,_,_,_,rfl,sS _ _⟩⟩
theorem Ql{n:Nat}{c:Nat->Nat->Nat}{f a v:Nat}(hv:v∈an.bM n a)(he:c a v+an.B n c (an.aB a v true)=an.B n c a)(hm:∀u∈an.bM n a,u<v->c a u+an.B n c (an.aB a u true)≠an.B n c a):
    an.ord n c (f+1) a=v::an.ord n c f (an.aB a v true):=by
  obtain⟨u,h1,h2,h3,h4⟩:=an.u3 (c:=c) (f:=f) (List.ne_nil_of_mem hv);rcases xcJ u v with h|h|h
  · exact absurd h2 (hm u h1 h)
  · rw[h4,h]
  · exact absurd he (h3 v hv h)
theorem NA{xl:zV}{n:Nat}{L:List (zL)}{B:Hp}{bp bl bd a:Nat}(ha:a<4611686018427387904){H:Hp}(hp:nf bp bl bd xl n L 0 B H):
    Fc zQ 282 #[.pointer (some ⟨bp,0,none⟩),iv (a:Int)] H (λr H'=>r=iv 0/\H'=H):=by
  obtain⟨j9,jL,gR,iE,rfl,hM⟩:=hp;refine aF λg=>wV ?_;apply Nil.ptr;refine ai.mk (Ld.mk zM rfl ?_);refine ae.jD (b:=0) (by simp[bF];omega) (by simp[bF]) (Nil.ptr ?_);refine ai.mk (Ld.mk zM rfl ?_);exact ae.eO (b:=0) (Br.T (aN.here ⟨rfl,rfl⟩))
def ac9(ts:List Tb)(B:Hp)(r:zV)(H:Hp):Prop:=
  (¬rD ts/\r=.tuple #[iv 0,.slice none 0 0,iv 5])\/
  (rD ts/\∃(n:Nat) (L:List (zL)),ts=L0 n L/\(L=[]->n=0)/\n<=16/\(∀ws∈L,an.eX n ws)/\
    ((12<n/\r=.tuple #[iv 0,.slice none 0 0,iv 6])\/
     (n<=12/\∃(s:zV) (C N:Hp),r=.tuple #[iv ((an.B n (an.lvl n L) 0:Nat):Int),s,iv 0]/\aQ 3 .i64 s (iw (an.ord n (an.lvl n L) n 0)) C/\H=C++(N++B))))
structure BSt(n:Nat)(c:Nat->Nat->Nat)(s:zV)(a:Nat)(l:zL)(C:Hp):Prop where
  own:aQ 3 .i64 s (iw l) C
  lt:a<2^n
  len:(an.bM n a).length+l.length=n
  pre:l++an.ord n c (n-l.length) a=an.ord n c n 0
theorem Ll{a v:Nat}:(a>>>v&&&1=0)↔a.testBit v=false:=by
  have:=xc7 (x:=a) (i:=v);rw[this,xbP,xaZ];simp
theorem V9{B:Hp}{v:zV}{ts:List Tb}(ht:jF B v ts)(cA:ts.length<33554432):Px zQ 194 #[v] B (ac9 ts B):=by
  refine aF λg=>IZ ?_;refine aa.pq (Nl ht zO) ?_;rintro r N0 (⟨hO,bp,bl,bd,n,L,N,rfl,Tm,vI,hf,rfl,hp⟩|⟨hO,rfl⟩)
  case inr=>exact Ext.mk rfl (Ext.mk rfl (ae.tH (a:=5) (b:=0) (Br.dec (λ_=>Gm.mk (by repeat (first|exact bV.refl _|apply bV.cons|apply bV.app)) (.inl ⟨hO,rfl⟩)) (λh=>absurd zD h))))
  generalize N0++B=H2 at hp⊢;clear N0;rw[pI]at cA;have OR:=hp;obtain⟨j9,jL,gR,iE,rfl,hM⟩:=hp;refine Ext.mk rfl (Ext.mk rfl (ae.tH (a:=0) (b:=0) (Br.dec (λh=>absurd rfl h) (λ_=>?_))));apply Nil.ptr;refine ai.mk (Ld.mk zM rfl ?_);refine ae.m9 (b:=12) (Br.dec (λM7=>Gm.mk (by repeat (first|exact bV.refl _|apply bV.cons|apply bV.app)) (.inr ⟨hO,n,L,rfl,Tm,vI,hf,.inl ⟨M7,rfl⟩⟩)) (λM7=>?_));clear hM;have tK:n<=12:=by omega
  have hOK:L≠[]->wG v n L (N++B):=λhne=>⟨ht.mono zS,hf,hne,cA,tK⟩;have lP:2^n<=2^12:=xaz zD tK;have hm0:(an.bM n 0).length=n:=by
    have:an.bM n 0=List.range n:=by unfold an.bM;rw[xcg];simp
    rw[this,xaI]
  refine⟨λvs H=>∃(s:zV) (a:Nat) (l:zL) (C H1:Hp),vs=[s,iv (a:Int)]/\BSt n (an.lvl n L) s a l C/\nf bp bl bd v n L (an.aX n L) (N++B) H1/\H=C++H1,
    λvs _=>(an.bM n (bL vs 1)).length,JE.mk ⟨_,0,[],[],_,rfl,⟨aQ.nil,xbw n,by rw[hm0];rfl,by simp⟩,OR,rfl⟩,?_⟩
  clear OR j9 jL gR iE;rintro w14 w15 H ⟨s,a,l,C,H1,⟨⟩,hb,hp,rfl⟩ gs;have OR:=hp;obtain⟨j9,jL,gR,iE,rfl,hM⟩:=hp;refine hb.own.bP ?_;rw[ak];apply Nil.ptr;refine ai.mk (Ld.mk zM rfl ?_);have Xd:=hb.len;refine ae.fi (Br.dec (λhlt=>?_) (λhlt=>?_))
  · have ae2:an.bM n a≠[]:=by intro e;rw[e]at Xd;simp at Xd;omega
    have hne:L≠[]:=λe=>by have:=Tm e;omega
    have yK:=hOK hne;have hnf:n-l.length=n-l.length-1+1:=by omega
    apply Nil.ptr;refine ai.mk (Ld.mk zM rfl ?_);refine⟨λvs H=>∃(k:Nat) (H1:Hp),vs=[w14,iv (a:Int),iv (k:Int)]/\k<=n/\(∀u∈an.bM n a,u<k->an.lvl n L a u+an.B n (an.lvl n L) (an.aB a u true)≠an.B n (an.lvl n L) a)/\nf bp bl bd v n L (an.aX n L) (N++B) H1/\H=C++H1,
      λvs _=>n-bL vs 2,JE.mk ⟨0,_,rfl,by omega,λu _ h=>by omega,OR,rfl⟩,?_⟩
    clear hM OR;rintro w28 w29 w30 H ⟨k,H1,⟨⟩,hk,hmin,hp,rfl⟩ gs;refine ae.fi (Br.dec (λhlk=>?_) (λhlk=>?_))
    · intro J hJ
      have hpk:2^k<=2^12:=xaz zD zO;have hno:∀H1,¬(a.testBit k=false/\an.lvl n L a k+an.B n (an.lvl n L) (an.aB a k true)=an.B n (an.lvl n L) a)->nf bp bl bd v n L (an.aX n L) (N++B) H1->J [.bool false] (C++H1):=λH1 hx hp=>hJ _ _ λgs=>by
        refine Br.no (ae.inc (aC.mk ⟨k+1,H1,rfl,by omega,λu hu hlu=>?_,hp,rfl⟩ (by rw[iQ,iQ,iQ,iQ];show n-(((k:Int)+1).toNat)<n-((k:Int).toNat);omega)));by_cases e:u=k
        · subst e;exact λh=>hx ⟨(an.cQ.1 hu).2,h⟩
        · exact hmin u hu zO
      refine DR.self ?_;have akl:a<4611686018427387904:=by have:=hb.lt;omega
      refine ae.iL (by simp[bF];omega) (ae.jD (b:=1) (by simp[bF];exact xaC (xbl _ _) zO) zD (ae.eO (b:=0) (Br.dec (λh0=>?_) (λh0=>JE.mk (hno H1 (λh=>h0 (Ll.2 h.1)) hp)))));have hak:=Ll.1 h0;refine ae.BI (a:=1) (by simp[IntKind.bits];omega) (by rw[xa5];simp[bF];omega) ?_;rw[xa5];refine ae.Kw (by simp[bF];omega) (by simp[bF];omega) ?_;have VX:a|||2^k=an.aB a k true:=rfl
      rw[VX];intro F;refine aa.fq (Ca yK hp hb.lt hlk hak) ?_;rintro r H2 ⟨rfl,lP⟩;intro F;refine aa.fq (rK yK _ (an.aB a k true) (xaj _) (an.fY hb.lt hlk) H2 lP) ?_;rintro r H3 ⟨rfl,Tj⟩;have Vt:=E7 yK a k;have ta:=LC yK (an.aB a k true);refine ae.fH ?_;intro F;refine aa.fq (rK yK _ a (xaj _) hb.lt H3 Tj) ?_;rintro r H4 ⟨rfl,ZW⟩;refine ae.eO ?_;by_cases he:an.lvl n L a k+an.B n (an.lvl n L) (an.aB a k true)=an.B n (an.lvl n L) a
      · rw[xam he]
        have hmem:k∈an.bM n a:=an.cQ.2 ⟨hlk,hak⟩;have Vg:=Ql (f:=n-l.length-1) hmem he hmin;have hml:=an.gK hmem;refine aI.mk (JE.mk (hJ _ _ λgs=>Br.yes ?_));refine av.int (e:=3) zK zK zK λxb=>?_;refine aQ.app (A:=[_]) hb.own (by exact .head _) zP zP λv' C' ho=>?_;refine ae.BI (a:=1) (by simp[IntKind.bits];omega) (by rw[xa5];simp[bF];omega) ?_;rw[xa5];refine ae.Kw (by simp[bF];omega) (by simp[bF];omega) ?_;rw[VX];refine aC.of .right ⟨v',an.aB a k true,l++[k],C',H4,rfl,⟨by simpa[iw]using ho,an.fY hb.lt hlk,by simp;omega,?_⟩,ZW,rfl⟩ (by rw[iQ,iQ];show(an.bM n (an.aB a k true)).length<(an.bM n a).length;omega);have:=hb.pre;rw[hnf,Vg]at this;rw[xaf,xcm,Nat.sub_add_eq,xai];exact this
      · rw[xal he]
        exact aI.mk (JE.mk (hno H4 (λh=>he h.2) ZW))
    · obtain⟨u,h1,h2,_⟩:=an.u3 (c:=an.lvl n L) (f:=0) ae2
      exact absurd h2 (hmin u h1 (by have:=(an.cQ.1 h1).1;omega))
  · have nw:l.length=n:=by omega
    have hl:l=an.ord n (an.lvl n L) n 0:=by
      have:=hb.pre;rw[nw,xc6]at this;simpa[an.ord]using this
    have hown:=hb.own;rw[hl]at hown;by_cases hne:L=[]
    · have hn:=Tm hne
      subst hne;subst hn;refine aa.fq (NA (a:=0) zO OR) ?_;rintro r H3 ⟨rfl,rfl⟩;exact⟨_,_,rfl,.refl _,(by repeat (first|exact bV.refl _|apply bV.cons|apply bV.app)),.inr ⟨hO,0,[],rfl,Tm,vI,hf,.inr ⟨tK,_,C,(_::_::_::N),rfl,hown,rfl⟩⟩⟩
    · refine aa.fq (rK (hOK hne) _ 0 (xaj _) (xbw n) _ OR) ?_
      rintro r H3 ⟨rfl,oP,qq,es4,ck4,rfl,Y9⟩;exact⟨_,_,rfl,.refl _,(by repeat (first|exact bV.refl _|apply bV.cons|apply bV.app)),.inr ⟨hO,n,L,rfl,Tm,vI,hf,.inr ⟨tK,_,C,(_::_::_::N),rfl,hown,rfl⟩⟩⟩
end
end Go.Proofs
