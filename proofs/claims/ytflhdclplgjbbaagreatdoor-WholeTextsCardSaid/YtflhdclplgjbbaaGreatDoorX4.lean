import Derived.Test.YtflhdclplgjbbaaGreatDoorX3
import Derived.Test.YtflhdclplgjbbaaGreatDoorX2
import Derived.Test.YtflhdclplgjbbaaGreatDoorX1
import Derived.Deep.Slices
import Derived.SizedLaws
import Derived.WalkSmall
set_option linter.unusedVariables false
set_option linter.unusedSimpArgs false
set_option linter.unusedSectionVars false
set_option maxRecDepth 100000
namespace Go.Proofs
open Go Go.Sx
open aq
theorem EL(x:Bool)(B:Hp):Rd zQ 112 #[.bool x] B (· =.int .u8 ((x.toNat:Nat):Int)):=by
 refine aS λg=>Di ?_;cases x
 ·exact Br.no (bX.mk (.refl _) rfl)
 exact Br.yes (bX.mk (.refl _) rfl)
def xN(op:Nat)(a b:Bool):Bool:=op.testBit (2*a.toNat+b.toNat)
abbrev Fz(b op:Nat):Hp:=[(b,.cells #[.int .u8 (op:Int)] 5 zZ)]
theorem Bp{b op:Nat}(hop:op<16):wT (.func (.func 111) #[] #[ptr b]) (Fz b op) (λx y _=>xN op x y):=by
 refine⟨_,_,_,rfl,by kernel_rfl,λx y z=>?_⟩;refine aS λg=>Dj (DR.of (R:=Fz b op) (.refl _) (Ld.q ?_));refine aa.eq (EL x _) (⟨.refl _,?_⟩);have hx:x.toNat<=1:=by cases x<;>decide
 have hy:y.toNat<=1:=by cases y<;>decide
 refine ae.xU (a:=2) (aa.eq (EL y _) (⟨.refl _,?_⟩));refine ae.fE (ae.pg (by simp[bM];omega) (ae.oX (b:=1) (by simp[bM];exact xaR (xcp _ _) zO) (by simp[bM]) (ae.bA (b:=1) (bX.mk (.refl _) ?_))));congr 1;unfold xN;rw[xdM];rw[xdy,xa9]
theorem AT:wT (.func (.func 113) #[] #[]) [] (λx y z=>if x then y else z):=by
 refine⟨_,_,_,rfl,by kernel_rfl,λx y z=>?_⟩;refine aS λg=>Dh ?_;cases x
 ·refine dr.mk false (λh=>by simp at h) (λ_=>rfl) λgs=>?_;refine dr.mk (by exact z) (λ_=>Un.not (dr.and z (λ_=>⟨rfl,rfl⟩) zI λgs=>⟨rfl,by simp⟩)) (λh=>by simp at h) λgs=>?_;exact bX.mk (.refl _) rfl
 refine dr.and y (λ_=>⟨rfl,rfl⟩) zI λgs=>?_;refine dr.or false (λ_=>Un.not (dr.and z (λ_=>⟨rfl,rfl⟩) zI λgs=>⟨rfl,by simp⟩)) zI λgs=>?_;refine bX.mk (.refl _) ?_;cases y<;>rfl
section
variable {kp:Nat} {K:Kd} {S:Nat->aq.Fn} {ord af tr:zL} {C:Hp}
theorem TS{α:Type}(w a b:α)(L R:List α):(w::(L++(a::b::R))).Perm (a::([b]++w::(L++R))):=by
 classical
 rw[xcQ];intro x;simp only[xaX,xck,xdo];omega
theorem zk(hK:br kp K S ord af tr C){q:zL}(hq:∀r∈q,live K.N r):∃c,Tree K.n (lv af) K.N q c:=by
 obtain⟨c,h1,_⟩:=M8 (S:=S) hK.ok.wf hK.ok.lv hK.ok.mid.int K.n 0 q zO zO hq (λr _=>xaK _);exact⟨c,h1⟩
theorem kK.two{f:aq.Fn}{w:zV}{H:Hp}(h:kK kp K S ord af tr f w H):∃x e,w=.tuple #[x,e]:=by
 rcases h with(⟨x,K',S',rfl,_⟩|⟨rfl,_⟩)|⟨rfl,_⟩
 ·exact⟨_,_,rfl⟩
 ·exact⟨_,_,rfl⟩
 exact⟨_,_,rfl⟩
theorem nH(hB:∀s,K.hold s+2^K.n<=65535):∀s,K.hold s<65535:=λs=>by
 have:=hB s;have:=xbE (n:=K.n);omega
theorem oZ(hK:br kp K S ord af tr C){op a b:Nat}(hop:op<16)(ha:live K.N a)(hb:live K.N b):
  Fc zQ 68 #[ptr kp,.int .u8 (op:Int),u32 a,u32 b] C (kK kp K S ord af tr (λx=>xN op (S a x) (S b x))):=by
 refine aS λg=>Hi λb1 _=>?_;refine ae.bf (Br.no (Ld.q ?_));refine ae.kG (b:=15) (Br.F (ai.JW (e:=27) (x:=(a:Int)) (y:=(b:Int)) zK zK zK λbs=>?_));have hq:∀r∈l3 (a,b,0),live K.N r:=λr hr=>by
  simp only[l3,xaf,xao,xaQ]at hr;rcases hr with rfl|rfl|rfl
  ·exact ha
  ·exact hb
  exact .inl zO
 have hI:cR .u32 ((bs,Obj.cells (au .u32 [(a:Int),(b:Int)]) 27 zZ)::Fz b1 op) (.slice (some ⟨bs,0,none⟩) 2 2) (iw [a,b]):=(aL.made (T:=27) (kd:=.u32) (b:=bs) (iw [a,b])).ints.mono λ_ h=>xac (Fz b1 op) h;refine aa.fq (args:=#[ptr kp,.slice (some ⟨bs,0,none⟩) 2 2]) (C:=((bs,Obj.cells (au .u32 [(a:Int),(b:Int)]) 27 zZ)::Fz b1 op)++C) (vp hK hI (λr hr=>?_) (by show 2<=1048576;omega)) ?_
 ·simp only[xaf,xao,xaQ]at hr;rcases hr with rfl|rfl
  ·exact ha
  exact hb
 rintro w H ⟨bw,vl,CL,lvl,rfl,rfl,Qg,uQ,hlv⟩;refine Ext.mk rfl (Ext.mk rfl (ae.dz (Br.F (Build.Tz (e:=27) (q:=.u32) (x:=(a:Int)) (y:=(b:Int)) zK zK zK ?_))));obtain⟨c,hT⟩:=zk hK hq;refine aa.pre (H':=(bs,Obj.cells (au .u32 [(a:Int),(b:Int)]) 27 zZ)::(Fz b1 op++eZ bw kp vl (.slice none 0 0)::(CL++C))) (.perm (TS _ _ _ _ _)) (aa.fq (args:=#[ptr bw,kq (a,b,0),.func (.func 111) #[] #[ptr b1]]) (EI (t:=λx y _=>xN op x y) hK (Bp hop) Qg uQ hlv (a,b,0) hq hT) ?_);intro w H hD;obtain⟨x,e,rfl⟩:=hD.two;exact Ext.mk rfl (Ext.mk rfl (aN.mk .tail hD))
theorem fP(hK:br kp K S ord af tr C){op a b:Nat}(hop:op<16)(ha:live K.N a)(hb:live K.N b)(hB:∀s,K.hold s+2^K.n<=65535):
  Fc zQ 68 #[ptr kp,.int .u8 (op:Int),u32 a,u32 b] C (kA kp K S ord af tr (λx=>xN op (S a x) (S b x))):=
 (oZ hK hop ha hb).mono λ_ _ h=>h.small (nH hB)
theorem kA.two{f:aq.Fn}{w:zV}{H:Hp}(h:kA kp K S ord af tr f w H):∃x e,w=.tuple #[x,e]:=by
 rcases h with⟨x,K',S',rfl,_⟩|⟨rfl,_⟩
 ·exact⟨_,_,rfl⟩
 exact⟨_,_,rfl⟩
theorem GH(hK:br kp K S ord af tr C){a:Nat}(ha:live K.N a):
  Fc zQ 64 #[ptr kp,u32 a] C (kK kp K S ord af tr (λx=> !S a x)):=by
 refine aS λg=>Hr (aa.fq (args:=#[ptr kp,.int .u8 ((3:Nat):Int),u32 a,u32 0]) (oZ hK (op:=3) zD ha (.inl zO)) ?_);intro w H hD;have e:(λx=>xN 3 (S a x) (S 0 x))=λx=> !S a x:=by
  funext x
  rw[hK.ok.mid.int.zero];cases S a x<;>rfl
 rw[e]at hD;obtain⟨x,e,rfl⟩:=hD.two;exact Ext.mk rfl (Ext.mk rfl (aN.mk (.refl _) hD))
theorem EJ(hK:br kp K S ord af tr C){a:Nat}(ha:live K.N a)(hB:∀s,K.hold s+2^K.n<=65535):
  Fc zQ 64 #[ptr kp,u32 a] C (kA kp K S ord af tr (λx=> !S a x)):=
 (GH hK ha).mono λ_ _ h=>h.small (nH hB)
theorem TP{α:Type}(w a:α)(L R:List α):(w::(L++(a::R))).Perm (a::([]++w::(L++R))):=by
 classical
 rw[xcQ];intro x;simp only[xaX,xck,xdo];omega
theorem vj(hK:br kp K S ord af tr C){a b c:Nat}(ha:live K.N a)(hb:live K.N b)(hc:live K.N c):
  Fc zQ 69 #[ptr kp,u32 a,u32 b,u32 c] C (kK kp K S ord af tr (λx=>if S a x then S b x else S c x)):=by
 refine aS λg=>Hh (ai.T9 (e:=27) (x:=(a:Int)) (y:=(b:Int)) (z:=(c:Int)) zK zK zK λbs=>?_);have hq:∀r∈l3 (a,b,c),live K.N r:=λr hr=>by
  simp only[l3,xaf,xao,xaQ]at hr;rcases hr with rfl|rfl|rfl
  ·exact ha
  ·exact hb
  exact hc
 refine aa.fq (args:=#[ptr kp,.slice (some ⟨bs,0,none⟩) 3 3]) (C:=[(bs,Obj.cells (au .u32 [(a:Int),(b:Int),(c:Int)]) 27 zZ)]++C) (vp hK (refs:=l3 (a,b,c)) ((aL.made (T:=27) (kd:=.u32) (b:=bs) (iw (l3 (a,b,c)))).ints) hq (by show 3<=1048576;omega)) ?_;rintro w H ⟨bw,vl,CL,lvl,rfl,rfl,Qg,uQ,hlv⟩;refine Ext.mk rfl (Ext.mk rfl (ae.dz (Br.F (Build.three (e:=27) (q:=.u32) (x:=(a:Int)) (y:=(b:Int)) (z:=(c:Int)) zK zK zK ?_))));obtain⟨k,hT⟩:=zk hK hq;refine aa.pre (H':=(bs,Obj.cells (au .u32 [(a:Int),(b:Int),(c:Int)]) 27 zZ)::([]++eZ bw kp vl (.slice none 0 0)::(CL++C))) (.perm (TP _ _ _ _)) (aa.fq (args:=#[ptr bw,kq (a,b,c),.func (.func 113) #[] #[]]) (EI (t:=λx y z=>if x then y else z) hK AT Qg uQ hlv (a,b,c) hq hT) ?_);intro w H hD;obtain⟨x,e,rfl⟩:=hD.two;exact Ext.mk rfl (Ext.mk rfl (aN.mk .tail hD))
theorem EK(hK:br kp K S ord af tr C){a b c:Nat}(ha:live K.N a)(hb:live K.N b)(hc:live K.N c)(hB:∀s,K.hold s+2^K.n<=65535):
  Fc zQ 69 #[ptr kp,u32 a,u32 b,u32 c] C (kA kp K S ord af tr (λx=>if S a x then S b x else S c x)):=
 (vj hK ha hb hc).mono λ_ _ h=>h.small (nH hB)
theorem nj.grow(hK:br kp K S ord af tr C){K':Kd}{S':Nat->aq.Fn}{f:aq.Fn}{r:Nat}{C':Hp}{di:zL}(h:nj K S K' S' f r)(dc:br kp K' S' ord af di C')(hl:r<2\/2<=r):dS K S K' S' f r:=
 ⟨h.n,h.cap,h.N,h.fn,by
  by_cases h2:r<2
  ·exact .inl h2
  refine .inr (dc.ok.mid.held r ?_);rw[h.hold,xae ⟨rfl,by omega⟩];omega,h.is,λs=>by rw[h.hold];split<;>omega⟩
theorem GF(hK:br kp K S ord af tr C){v:Nat}(hv:v<K.n):
  Fc zQ 63 #[ptr kp,iv (v:Int)] C (kK kp K S ord af tr (λx=>x.testBit v)):=by
 refine aS λg=>Hs (ae.bf (Br.no ?_));have hint:=hK.ok.mid.int;have hL:=hK.ok.lv;have jD:=hK.od;have h0:live K.N 0:=.inl zO;have h1:live K.N 1:=.inl zO;have d0:dep K.n (lv af) K.N 0=K.n:=aT (hK.ok.wf.const zO);have d1:dep K.n (lv af) K.N 1=K.n:=aT (hK.ok.wf.const zO);have hl:=hL.lt v hv;have eI:ite S ⟨v,0,1⟩=λx=>x.testBit v:=by
  funext x
  unfold aq.ite;simp only[hint.zero,hint.one];cases x.testBit v<;>rfl
 refine aa.fq (args:=#[ptr kp,iv (v:Int),u32 0,u32 1]) (vY hK hv h0 h1 (.inr ⟨by rw[d0];exact hl,by rw[d1];exact hl⟩)) ?_;rintro w C' (⟨r,K',S',rfl,dc,mk⟩|⟨r,rfl,rfl,_,Iw,hfull,yD⟩|⟨rfl,rfl,hcap,hne,hT⟩)
 ·rw[eI]at mk;exact Ext.mk rfl (Ext.mk rfl (aN.mk (.refl _) (.inl (.inl ⟨r,K',S',rfl,dc,mk.grow hK dc zO⟩))))
 ·exact Ext.mk rfl (Ext.mk rfl (aN.mk (.refl _) (.inr ⟨rfl,⟨K,S,tr,hK,.inr rfl,.refl K S⟩,r,Iw,hfull,by rw[yD,eI]⟩)))
 refine Ext.mk rfl (Ext.mk rfl (aN.mk (.refl _) (.inl (.inr ⟨rfl,⟨K,S,tr,hK,.inr rfl,.refl K S⟩,?_⟩))));rintro⟨ku,Kq,hfit⟩;have FW:=jD.of hL hv;have pL:∀j,j<lv af v->¬cF (λx:Nat=>x.testBit v) (ord.getD j 0):=by
  rintro j hj ⟨x,hx⟩;apply hx;have P2:j<K.n:=by omega
  obtain⟨o1,o2⟩:=jD.at' j P2;show Nat.testBit _ v=Nat.testBit _ v;rw[ax.ak,ax.ak,xad (λh=>by rw[h]at hj;omega),xad (λh=>by rw[h]at hj;omega)]
 have hh:cF (λx:Nat=>x.testBit v) (ord.getD (lv af v) 0):=by
  rw[FW];exact⟨0,by show Nat.testBit _ v≠Nat.testBit _ v;rw[ax.ak,ax.ak,xae rfl,xae rfl];decide⟩
 have:=hK.ok.roomFor jD Kq hfit (λg hg=>aJ (λg h=>.inl h) hg) (d:=⟨v,0,1⟩) h0 h1 (show(0:Nat)≠1 by omega) hv ⟨by rw[d0];exact hl,by rw[d1];exact hl⟩ (aJ (λg h=>.inr h) (by rw[eI];exact mw pL hl hh)) hT;omega
theorem EG(hK:br kp K S ord af tr C){v:Nat}(hv:v<K.n)(hB:∀s,K.hold s<65535):
  Fc zQ 63 #[ptr kp,iv (v:Int)] C (kA kp K S ord af tr (λx=>x.testBit v)):=
 (GF hK hv).mono λ_ _ h=>h.small hB
end
end Go.Proofs
namespace Go.Sx
open Go
section
variable {κ β:Type} [DecidableEq κ] {ke:κ->zV} {vr:zV->β->Prop} {es:Array MapEntry} {ck:Nat} {m:List (κ×β)} {H:Hp} {b:Nat}
theorem aM.del{kd:TypeDesc}{k:κ}{K:Hp->Prop}(hk:∀a b,Instr.sameNow kd (ke a) (ke b)=some (decide (a=b)))(h:aM ke vr es ck m)(hm:(b,Obj.map es ck)∈H)
 (h1:∀es',aM ke vr es' ck (nE m k)->∃H',cT b (.map es ck) (.map es' ck) H H'/\K H'):tg kd H (.map (some b)) (ke k) K:=by
 refine .inr ?_;rcases h.findNow hk k with⟨i,y,e,g1,g2,g3,g4⟩|⟨g1,g2⟩
 ·refine⟨b,es,ck,_,rfl,g4,?_⟩;have:=h.less i;rw[<-rZ h.nd g2]at this;exact h1 _ this
 refine⟨b,es,ck,_,rfl,g2,hm,?_⟩;have e:nE m k=m:=by
  unfold nE;rw[xdd];intro w hw;simp only[decide_not,xbx,xbl];intro e;exact g1 (xaq.2 ⟨w,hw,e⟩)
 obtain⟨H',hu,hK⟩:=h1 es (by rw[e];exact h);have:∀{H H':Hp},cT b (.map es ck) (.map es ck) H H'->H'=H:=by
  intro H H' hu;generalize ho:Obj.map es ck=o at hu;induction hu with
  |head R=>rfl
  |tail _ ih=>rw[ih]
 rw[this hu]at hK;exact hK
end
def kN(kd:IntKind)(r:Nat):zV:=.int kd (r:Int)
theorem gL{kd:IntKind}(a b:Nat):Instr.sameNow (.int kd) (kN kd a) (kN kd b)=some (decide (a=b)):=by
 simp only[kN,Instr.sameNow,xa0,xap];by_cases e:a=b
 ·subst e;simp
 have:¬(a:Int)=(b:Int):=by omega
 simp[e,this]
theorem D5{kd:IntKind}(a:Nat):Instr.sameBits 10000 (kN kd a) (kN kd a)=true:=by
 simp[kN,Instr.sameBits]
end Go.Sx
namespace aq
open ax
def QF(t:Bool->Bool->Bool)(v:Nat)(f:Fn):Fn:=λx=>t (f (ay x v false)) (f (ay x v true))
section
variable {t:Bool->Bool->Bool} {v u:Nat} {f:Fn}
theorem pn{x v:Nat}{b c:Bool}:ay (ay x v b) v c=ay x v c:=by
 apply xa3;intro k;rw[ak,ak,ak];split<;>rfl
theorem Mo(h:u≠v)(b:Bool):QF t v (λx=>f (ay x u b))=λx=>QF t v f (ay x u b):=by
 funext x
 unfold QF;simp only[cY h]
theorem Mn(h:¬cF f u):¬cF (QF t v f) u:=by
 rintro⟨x,hx⟩;by_cases e:u=v
 ·subst e;apply hx;unfold QF;simp only[pn]
 apply hx;unfold QF;simp only[cY e];have key:∀y,f (ay y u false)=f (ay y u true):=λy=>xaI λhn=>h ⟨y,hn⟩;rw[key,key]
theorem Pf(ht:∀a,t a a=a)(h:¬cF f v):QF t v f=f:=by
 funext x
 unfold QF;have key:∀b,f (ay x v b)=f x:=λb=>bT h x b;rw[key,key,ht]
end
def Xw(e:Bool):Bool->Bool->Bool->Bool:=λx y _=>if e then x||y else x&&y
def jf(e:Bool)(S:Nat->Fn)(a b:Nat):Fn:=qN (Xw e) S [a,b,0]
theorem pG(e:Bool)(S:Nat->Fn)(a b x:Nat):jf e S a b x=if e then S a x||S b x else S a x&&S b x:=rfl
theorem wg(e:Bool)(S:Nat->Fn)(a b:Nat):jf e S a b=jf e S b a:=by
 funext x;rw[pG,pG];cases e<;>cases S a x<;>cases S b x<;>rfl
theorem PN(e:Bool)(S:Nat->Fn)(a b:Nat):jf e S (min a b) (max a b)=jf e S a b:=by
 by_cases h:a<=b
 ·rw[xch h,Nat.max_eq_right h]
 rw[xdY zO,Nat.max_eq_left zO,wg]
theorem NS(e:Bool)(S:Nat->Fn)(a:Nat):jf e S a a=S a:=by
 funext x;rw[pG];cases e<;>cases S a x<;>rfl
section
variable {N:dA} {S:Nat->Fn} {n:Nat} {af:Nat->Nat}
theorem JT(hi:Interp N S)(e:Bool)(a:Nat):jf e S e.toNat a=S e.toNat:=by
 funext x;rw[pG];cases e
 ·show(S 0 x&&S a x)=S 0 x;rw[hi.zero];rfl
 show(S 1 x||S a x)=S 1 x;rw[hi.one];rfl
theorem JS(hi:Interp N S)(e:Bool)(a:Nat):jf e S (!e).toNat a=S a:=by
 funext x;rw[pG];cases e
 ·show(S 1 x&&S a x)=S a x;rw[hi.one];cases S a x<;>rfl
 show(S 0 x||S a x)=S a x;rw[hi.zero];cases S a x<;>rfl
theorem rh(h:WF n af N)(hl:jI n af){r v:Nat}(hd:af v<dep n af N r)(b:Bool):dg N v b r=r:=by
 unfold dg;cases e:N r with
 |none=>rfl
 |some d=>
  rw[an e]at hd;simp only;rw[xad (λe2=>by rw[e2]at hd;omega)]
theorem ri{r:Nat}{d:Nd}(e:N r=some d):dg N d.v false r=d.lo/\dg N d.v true r=d.hi:=by
 unfold dg;rw[e];simp
theorem sN{N':dA}(hN:∀s d,N s=some d->N' s=some d)(hc:∀r,r<2->N' r=none)(h0:∀r,r<2->N r=none){r:Nat}(hr:live N r):dep n af N' r=dep n af N r:=by
 rcases hr with hr|⟨d,hd⟩
 ·rw[aT (hc r hr),aT (h0 r hr)]
 rw[an hd,an (hN r d hd)]
theorem y5(v:Nat)(bb:Bool)(a b:Nat)(h0:N 0=none):gj N v bb [a,b,0]=[dg N v bb a,dg N v bb b,0]:=by
 have:dg N v bb 0=0:=by unfold dg;rw[h0]
 simp[gj,this]
theorem Xa(h:WF n af N)(hl:jI n af){a b:Nat}(h0:N 0=none)(hlt:min (dep n af N a) (dep n af N b)<n):
  ∃v,qO n af N [a,b,0] v/\af v=min (dep n af N a) (dep n af N b):=by
 have hd0:dep n af N 0=n:=aT h0;have node:∀r,dep n af N r<n->∃d,N r=some d:=λr hr=>by
  cases e:N r with
  |none=>rw[aT e]at hr;omega
  |some d=>exact⟨d,rfl⟩
 by_cases hab:dep n af N b<dep n af N a
 ·obtain⟨d,hd⟩:=node b zO;have e:=an (n:=n) (af:=af) hd;refine⟨d.v,⟨h.var hd,⟨b,by simp,d,hd,rfl⟩,λr hr=>?_⟩,by omega⟩;simp only[xaf,xao,xaQ]at hr;rcases hr with rfl|rfl|rfl<;>omega
 obtain⟨d,hd⟩:=node a zO;have e:=an (n:=n) (af:=af) hd;refine⟨d.v,⟨h.var hd,⟨a,by simp,d,hd,rfl⟩,λr hr=>?_⟩,by omega⟩;simp only[xaf,xao,xaQ]at hr;rcases hr with rfl|rfl|rfl<;>omega
end
end aq
set_option maxRecDepth 100000
namespace Go.Proofs
open Go Go.Sx
section
open aq
section
variable {kp:Nat} {K:Kd} {ord af tr:zL} {C:Hp} {S:Nat->aq.Fn}
theorem uJ(h:cv kp K ord af tr C):Rd zQ 35 #[ptr kp] C (· =iv ((K.cap:Nat):Int)):=by
 obtain⟨b,rfl,hO⟩:=h;refine aS λg=>HN (ae.bf (Br.no (Nil.ptr (ah.mk (Ld.f ?_)))));exact aa.eq (sV hO.ar) (bX.mk (.refl _) rfl)
theorem uN(h:cv kp K ord af tr C)(v:Int):Rd zQ 174 #[ptr kp,iv v] C (· =if 0<=v/\v<K.n then .tuple #[iv ((af.getD v.toNat 0:Nat):Int),iv 0]else .tuple #[iv 0,iv 2]):=by
 have h0:=h;obtain⟨b,rfl,hO⟩:=h;refine aS λg=>BX (ae.bf (Br.no (aa.eq (D4 h0 v) (Un.not ?_))));by_cases AW:0<=v/\v<K.n
 ·rw[xaA AW,xae AW];refine Br.no (Nil.ptr (Ld.f ?_));have hlen:=hO.ol.2;obtain⟨n,rfl⟩:∃n:Nat,v=n:=⟨v.toNat,by omega⟩;exact hO.lv.ld (x:=((af.getD n 0:Nat):Int)) (bc zO) (aU.sub (.cons (.app (.app (.app (.app (.app .left))))))) (bX.mk (.refl _) rfl)
 rw[xas AW,xad AW];exact Br.yes (bX.mk (.refl _) rfl)
end
def DN(bq kp bm:Nat)(ok:Bool):Nat×Obj:=(bq,.cells #[ptr kp,.map (some bm),iv (if ok then 0 else 9)] 256 zZ)
abbrev qW(bq kp bm:Nat)(ok:Bool)(es:Array MapEntry)(ck:Nat)(C:Hp):Hp:=DN bq kp bm ok::(bm,.map es ck)::C
abbrev W6(v:zV)(_:Unit):Prop:=v=iv 1
abbrev wY(made:zL):List (Nat×Unit):=made.map λr=>(r,())
theorem oc(made:zL):(wY made).map Prod.fst=made:=by
 induction made with
 |nil=>rfl
 |cons a l ih=>simp only[wY,xaM,xau,xb1]at ih⊢;exact ih
structure uf(kp:Nat)(K0:Kd)(S0:Nat->aq.Fn)(U:aq.Fn->Prop)(ord af:zL)(K:Kd)(S:Nat->aq.Fn)(made:zL)(es:Array MapEntry)(ck:Nat)(C:Hp)(ok:Bool):Prop where
 ks:br kp K S ord af [] C
 cA:ji K0 S0 U ord K S made
 cS:aM (kN .u32) W6 es ck (wY made)
 bad:ok=false->¬Fits U K0.cap
theorem uf.nd{kp:Nat}{K0:Kd}{S0:Nat->aq.Fn}{U:aq.Fn->Prop}{ord af:zL}{K:Kd}{S:Nat->aq.Fn}{made:zL}{es:Array MapEntry}{ck:Nat}{C:Hp}{ok:Bool}(h:uf kp K0 S0 U ord af K S made es ck C ok):made.Nodup:=by
 have:=h.cS.nd;rwa [oc]at this
structure Ak(K:Kd)(S:Nat->aq.Fn)(made:zL)(K':Kd)(S':Nat->aq.Fn)(made':zL):Prop where
 N:∀s d,K.N s=some d->K'.N s=some d
 fn:∀s,live K.N s->S' s=S s
 mem:∀s∈made,s∈made'
theorem Ak.refl{K:Kd}{S:Nat->aq.Fn}{made:zL}:Ak K S made K S made:=⟨λ_ _ h=>h,λ_ _=>rfl,λ_ h=>h⟩
theorem Ak.trans{K K' K2:Kd}{S S' S2:Nat->aq.Fn}{made made' eJ:zL}(h:Ak K S made K' S' made')(h':Ak K' S' made' K2 S2 eJ):Ak K S made K2 S2 eJ:=
 ⟨λs d hd=>h'.N s d (h.N s d hd),λs hs=>(h'.fn s (aW h.N hs)).trans (h.fn s hs),λs hs=>h'.mem s (h.mem s hs)⟩
section
variable {kp bq bm:Nat} {K K0:Kd} {S S0:Nat->aq.Fn} {U:aq.Fn->Prop} {ord af made:zL} {es:Array MapEntry} {ck:Nat} {C:Hp} {ok:Bool}
theorem Fw{tr:zL}{r:Nat}(h:br kp K S ord af tr C)(hr:live K.N r):Rd zQ 191 #[ptr bq,.agg (got K.N r).toArray] (qW bq kp bm ok es ck C) (· =iv ((dep K.n (lv af) K.N r:Nat):Int)):=by
 have hlen:=(aF K.N r).1;refine aS λg=>BL λb1 _=>?_;cases hN:K.N r with
 |none=>
  have h2:r<2:=by rcases hr with h|⟨d,hd⟩;exact h;rw[hN]at hd;cases hd
  have eg:got K.N r=[iv (-1),u32 r,u32 r]:=dY h2;rw[eg];refine Ld.f ?_;refine ae.lss (Br.T (Ld.n ?_));refine aa.eq (fw h.rep) ?_;rw[aT hN];exact bX.mk .tail rfl
 |some d=>
  have h2:=h.ok.wf.two hN;have hv:=h.ok.wf.var hN;rw[de hN h2];refine Ld.f ?_;refine ae.lss (Br.F (DR.of (R:=(b1,Obj.cells (aY d).toArray 60 zZ)::qW bq kp bm ok es ck C) (.refl _) (Ld.n ?_)));refine Ld.f ?_;refine aa.rq (uN h.rep (d.v:Int)) ?_;rw[xae zO];rintro w rfl;refine⟨.refl _,?_⟩;apply Ext.two;rw[an hN];exact bX.mk .tail rfl
theorem AB{tr:zL}{r:Nat}(h:br kp K S ord af tr C)(hr:live K.N r):Rd zQ 176 #[ptr bq,u32 r] (qW bq kp bm ok es ck C) (· =.tuple #[.agg (got K.N r).toArray,iv ((dep K.n (lv af) K.N r:Nat):Int)]):=by
 refine aS λg=>BV λb1 _=>?_;refine Ld.n ?_;refine aa.rq (gg h.rep (by have:=h.bp hr;omega)) ?_;rw[bF.2 hr];rintro w rfl;refine Ext.two λb10 _=>(St.whole (r:=got K.N r) (by exact .head _) rfl (aF _ _).1 (aF _ _).2 ?_);refine DR.of (R:=[(b10,Obj.cells (got K.N r).toArray 60 zZ)]) (aG.left (A:=[_])) (av.whole (r:=got K.N r) (by exact .head _) (aF _ _).1 ?_);refine av.whole (r:=got K.N r) (by exact .head _) (aF _ _).1 ?_;refine aa.eq (Fw h hr) (⟨aG.left (A:=[_]),?_⟩);refine St.whole (r:=got K.N r) (by exact .tail (.head _)) rfl (aF _ _).1 (aF _ _).2 ?_;refine⟨aG.left (A:=[_]),?_⟩;refine av.whole (r:=got K.N r) (by exact .tail _ (.head _)) (aF _ _).1 ?_;exact bX.mk (.skip .tail) rfl
theorem uw(v:zV)(a b:zV)(B:Hp):Rd zQ 177 #[ptr bq,v,a,b] (DN bq kp bm false::B) (· =u32 0):=by
 refine aS λg=>tj (Ld.n ?_);exact ae.dz (Br.T (bX.mk (.refl _) rfl))
theorem ji.TJ(h:ji K0 S0 U ord K S made)(hK:br kp K S ord af [] C){K':Kd}{S':Nat->aq.Fn}{f:aq.Fn}{r:Nat}(m:nj K S K' S' f r)(h2:2<=r)(hU:∀g,aA K0.n ord (λg=>g=f) g->U g):ji K0 S0 U ord K' S' (made++[r]):=h.step hK m h2 hU
theorem ji.again(h:ji K0 S0 U ord K S made)(hK:br kp K S ord af [] C){K' K2:Kd}{S':Nat->aq.Fn}{f:aq.Fn}{r:Nat}{C2:Hp}(m:nj K S K' S' f r)(hf:tw K' K2 r)(bN:br kp K2 S' ord af [] C2):ji K0 S0 U ord K2 S' made/\(∀s d,K.N s=some d->K2.N s=some d):=by
 have hold:∀s,K2.hold s=K.hold s:=λs=>by
  rw[hf.hold,m.hold];by_cases e:s=r/\2<=r
  ·rw[xae e,xae e];omega
  rw[xad e,xad e]
 have hN:∀s d,K.N s=some d->K2.N s=some d:=λs d hs=>ir hK.ok bN.ok (λs h=>by rw[hold];exact h) (λs d d' h1 h2=>by
  have a:=hf.N s d' h2;rw[m.N s d h1]at a;exact(xbt a).symm) _ s d hs (xak _)
 refine⟨⟨hf.n.trans (m.n.trans h.n),hf.cap.trans (m.cap.trans h.cap),λs d hd=>hN s d (h.N s d hd),λs hs=>(m.fn s (h.live hs)).trans (h.fn s hs),λs=>by rw[hold,h.hold],h.two,λg hg=>h.U g (aJ (λg=>?_) hg)⟩,hN⟩;rintro⟨s,hs,rfl⟩;have hs':K.hold s≠0:=by rw[<-hold];exact hs
 exact⟨s,hs',m.fn s (.inr (hK.ok.mid.held s hs'))⟩
theorem JD{made:zL}{r:Nat}(h:r∉made):gf (wY made) r ()=wY (made++[r]):=by
 unfold gf;rw[xad (by rw[oc];exact h)];simp[wY]
theorem mB{made:zL}{r:Nat}:(r∈made->c8 (wY made) r=some ())/\(r∉made->c8 (wY made) r=none):=by
 refine⟨λh=>?_,λh=>fK.2 (by rw[oc];exact h)⟩;cases e:c8 (wY made) r with
 |none=>have:=fK.1 e;rw[oc]at this;exact absurd h this
 |some u=>rfl
theorem xG(hq:uf kp K0 S0 U ord af K S made es ck C true){v lo hi:Nat}(hv:v<K.n)(hlo:live K.N lo)(hhi:live K.N hi)(hlt:lv af v<dep K.n (lv af) K.N lo/\lv af v<dep K.n (lv af) K.N hi)
 (hU:∀g,aA K0.n ord (λg=>g=ite S ⟨v,lo,hi⟩) g->U g)(jz:lo≠hi->U (ite S ⟨v,lo,hi⟩))(hf:∀s,K0.hold s=65535->live K0.N s):
  Fc zQ 177 #[ptr bq,iv (v:Int),u32 lo,u32 hi] (qW bq kp bm true es ck C) (λw H=>∃r K' S' made' es' cm C' ok',w=u32 r/\H=qW bq kp bm ok' es' cm C'/\uf kp K0 S0 U ord af K' S' made' es' cm C' ok'/\Ak K S made K' S' made'/\
   (ok'=true->S' r=ite S ⟨v,lo,hi⟩/\(live K0.N r\/r∈made'))):=by
 have hK:=hq.ks;have iu:=hq.nd;refine aS λg=>tj (Ld.n ?_);refine ae.dz (Br.F (Ld.n ?_));refine aa.fq (vY hK hv hlo hhi (.inr hlt)) ?_;rintro w C' (⟨r,K',S',rfl,dc,mk⟩|⟨r,rfl,rfl,hlr,Iw,hfull,yD⟩|⟨rfl,rfl,hcap,hne,hT⟩)
 ·refine Ext.two λJ hJ=>(ae.kH (Br.F (ae.dz (Br.F (ae.wZ (b:=1) ?_)))));have Rr:r<4294967296:=by have:=dc.bp mk.live;omega
  have hA:Ak K S made K' S' made:=⟨mk.N,mk.fn,λ_ h=>h⟩;have drop:(r<2\/r∈made)->Nil (ptr bq) λv36=>ah 0 v36 λv37=>Ld (DN bq kp bm true::(bm,Obj.map es ck)::C') v37 λv38=>aa zQ g 61 #[v38,u32 r] (DN bq kp bm true::(bm,Obj.map es ck)::C') (λv39 H40=>JE J [u32 r] H40) (cK (aN λw H=>∃r K' S' made' es' cm C' ok',w=u32 r/\H=qW bq kp bm ok' es' cm C'/\uf kp K0 S0 U ord af K' S' made' es' cm C' ok'/\Ak K S made K' S' made'/\
   (ok'=true->S' r=ite S ⟨v,lo,hi⟩/\(live K0.N r\/r∈made')))):=λhr=>by
   refine Ld.n ?_;refine aa.fq (ki dc (r:=r) Rr (λh2=>by rw[mk.hold,xae ⟨rfl,h2⟩];omega)) ?_;rintro w C2 ⟨rfl,K2,bN,f2⟩;obtain⟨qZ,RZ⟩:=hq.cA.again hK mk f2 bN;refine JE.mk (hJ _ _ λgs=>?_);exact aN.here ⟨r,K2,S',made,es,ck,C2,true,rfl,rfl,⟨bN,qZ,hq.cS,λh=>by cases h⟩,⟨RZ,mk.fn,λ_ h=>h⟩,λ_=>⟨mk.is,hr.imp (λh=>.inl h) id⟩⟩
  by_cases h2:r<2
  ·rw[xaA zO];refine dr.or (a:=true) true (λh=>by cases h) zI λgs=>Br.yes ?_;exact drop (.inl h2)
  rw[xas zO];refine dr.or (a:=false) (decide (r∈made)) (λ_=>?_) zI λgs=>?_
  ·refine Ld.n ?_;by_cases hm:r∈made
   ·refine aM.hit (k:=r) (x:=()) gL hq.cS (.tail _ (.head _)) (mB.1 hm) ?_;rintro v rfl;exact ae.gtr ⟨rfl,by rw[xaA hm];rfl⟩
   refine aM.AM (k:=r) gL hq.cS (.tail _ (.head _)) (mB.2 hm) ?_;exact ae.gtr ⟨rfl,by rw[xas hm];rfl⟩
  rw[Bool.false_or];refine Br.dec (λhm=>drop (.inr hm)) (λhm=>?_);refine Ld.n ?_;refine aM.bJ (k:=r) (x:=()) gL D5 hq.cS rfl λes' cm he=>⟨_,.tail (.head _),?_⟩;rw[JD hm]at he;refine JE.mk (hJ _ _ λgs=>?_);exact aN.here ⟨r,K',S',made++[r],es',cm,C',true,rfl,rfl,⟨dc,hq.cA.TJ hK mk zO hU,he,λh=>by cases h⟩,⟨mk.N,mk.fn,λ_ h=>xac _ h⟩,λ_=>⟨mk.is,.inr zI⟩⟩
 ·refine Ext.two λJ hJ=>(ae.kH (Br.T (Ld.n ?_)));refine aa.eq (sj hK hv hlo hhi hlt hlr Iw yD) (Ext.two (JE.mk (hJ _ _ λgs=>?_)));exact aN.here ⟨r,K,S,made,es,ck,_,true,rfl,rfl,hq,.refl,λ_=>⟨yD,(hq.cA.full hfull).elim .inr λh=>.inl (hf r h)⟩⟩
 refine Ext.two λJ hJ=>(ae.kH (Br.F (ae.dz (Br.T (Nil.ptr (ah.mk (St.one (by exact .head _) rfl zI rfl ?_)))))));refine JE.mk (hJ _ _ λgs=>?_);refine aN.here ⟨0,K,S,made,es,ck,C',false,rfl,rfl,⟨hK,hq.cA,hq.cS,λ_=>?_⟩,.refl,λh=>by cases h⟩;rintro⟨ku,Kq,hfit⟩;have:=hK.ok.roomFor hK.od Kq (by rw[hq.cA.cap];exact hfit) (by rw[hq.cA.n];exact hq.cA.U) (d:=⟨v,lo,hi⟩) hlo hhi hne hv hlt (jz hne) hT;omega
end
def pk(p:Nat×Nat):zV:=.agg #[u32 p.1,u32 p.2]
theorem Jn(a b:Nat×Nat):zz zQ 278 (pk a) (pk b) (decide (a=b)):=by
 refine zz.flat (fs:=#[⟨"f",27,0,false, "", "thicket/quant",0⟩,⟨"g",27,1,false, "", "thicket/quant",4⟩]) zK zK ?_ ?_
 ·intro f hf;simp only[xaf,xao,xaQ]at hf;rcases hf with rfl|rfl
  ·exact⟨by decide,_,_,rfl,rfl,.inl ⟨.u32,_,_,by kernel_rfl,rfl,rfl⟩⟩
  exact⟨by decide,_,_,rfl,rfl,.inl ⟨.u32,_,_,by kernel_rfl,rfl,rfl⟩⟩
 obtain⟨a1,a2⟩:=a;obtain⟨b1,b2⟩:=b;simp[u32];omega
theorem AH(a:Nat×Nat):kP zQ 278 (pk a):=by
 refine kP.flat (fs:=#[⟨"f",27,0,false, "", "thicket/quant",0⟩,⟨"g",27,1,false, "", "thicket/quant",4⟩]) zK ?_;intro f hf;simp only[xaf,xao,xaQ]at hf;rcases hf with rfl|rfl
 ·exact⟨by decide,_,rfl,.inl ⟨.u32,_,_,by kernel_rfl,rfl,rfl⟩⟩
 exact⟨by decide,_,rfl,.inl ⟨.u32,_,_,by kernel_rfl,rfl,rfl⟩⟩
theorem Nx(a:Nat×Nat):Instr.sameBits 10000 (pk a) (pk a)=true:=ja 9998 (by intro x hx;simp[u32]at hx;rcases hx with rfl|rfl<;>exact .inl ⟨_,_,rfl⟩)
def Bh(b3 b5 b1 pW qw:Nat):zV:=.func (.func 192) #[] #[ptr b3,ptr b5,ptr b1,ptr pW,ptr qw]
def Tp(K0:Kd)(F:Nat×Nat->aq.Fn)(S:Nat->aq.Fn)(made:zL)(ok:Bool)(es:Array MapEntry)(ck:Nat):Prop:=
 ∃m:List ((Nat×Nat)×Nat),aM pk Im es ck m/\(ok=true->∀y∈m,S y.2=F y.1/\(live K0.N y.2\/y.2∈made))
abbrev PO(e:Bool)(b3 b5 b1 pW qw bj bq kp bm:Nat)(ok:Bool)(tC:Array MapEntry)(tD:Nat)(es:Array MapEntry)(ck:Nat)(C:Hp):Hp:=
 (qw,.cells #[Bh b3 b5 b1 pW qw] 276 zZ)::(pW,.cells #[.map (some bj)] 275 zZ)::(bj,.map tC tD)::(b5,.cells #[u32 (!e).toNat] 27 zZ)::(b3,.cells #[u32 e.toNat] 27 zZ)::(b1,.cells #[ptr bq] 229 zZ)::qW bq kp bm ok es ck C
section
variable {kp bq bm b3 b5 b1 pW qw bj:Nat} {K0:Kd} {S0:Nat->aq.Fn} {U:aq.Fn->Prop} {ord af:zL} {e:Bool}
theorem uf.r6{K:Kd}{S:Nat->aq.Fn}{made:zL}{es:Array MapEntry}{ck:Nat}{C:Hp}{ok:Bool}(h:uf kp K0 S0 U ord af K S made es ck C ok){r:Nat}(hr:live K0.N r\/r∈made):live K.N r:=by
 rcases hr with hr|hr
 ·exact h.cA.live hr
 exact h.cA.fL h.ks hr
theorem Tp.more{F:Nat×Nat->aq.Fn}{K K':Kd}{S S':Nat->aq.Fn}{made made':zL}{es tC:Array MapEntry}{ck tD:Nat}{C:Hp}{ok ok':Bool}(hq:uf kp K0 S0 U ord af K S made es ck C ok)(h:Tp K0 F S made ok tC tD)(ha:Ak K S made K' S' made')(hok:ok'=true->ok=true):Tp K0 F S' made' ok' tC tD:=by
 obtain⟨m,h1,h2⟩:=h;refine⟨m,h1,λh y hy=>?_⟩;obtain⟨a,b⟩:=h2 (hok h) y hy;exact⟨by rw[ha.fn _ (hq.r6 b),a],b.imp id (ha.mem _)⟩
def Sm(kp:Nat)(K0:Kd)(S0:Nat->aq.Fn)(U:aq.Fn->Prop)(ord af:zL)(e:Bool)(b3 b5 b1 pW qw bj bq bm:Nat)(K:Kd)(S:Nat->aq.Fn)(made:zL)(ok:Bool)(f:aq.Fn)(w:zV)(H:Hp):Prop:=
 ∃x K' S' made' es' cm C' ok' Rh Ri,w=u32 x/\H=PO e b3 b5 b1 pW qw bj bq kp bm ok' Rh Ri es' cm C'/\uf kp K0 S0 U ord af K' S' made' es' cm C' ok'/\Tp K0 (λp=>jf e S0 p.1 p.2) S' made' ok' Rh Ri/\Ak K S made K' S' made'/\
  (ok'=true->ok=true/\S' x=f/\(live K0.N x\/x∈made'))
theorem yJ{N:dA}{n:Nat}{dK:Nat->Nat}(h:WF n dK N)(hl:jI n dK){r v:Nat}(hr:live N r)(hv:v<n)(hle:dK v<=dep n dK N r):
  ∃z p q,got N r=[iv z,u32 p,u32 q]/\(dK v=dep n dK N r->z=(v:Int)/\p=dg N v false r/\q=dg N v true r)/\(dK v<dep n dK N r->dg N v false r=r/\dg N v true r=r):=by
 have hlv:=hl.lt v hv;cases e:N r with
 |none=>
  have h2:r<2:=by rcases hr with h|⟨d,hd⟩;exact h;rw[e]at hd;cases hd
  refine⟨_,_,_,dY h2,λh3=>?_,λh3=>⟨rh h hl h3 _,rh h hl h3 _⟩⟩;rw[aT e]at h3;omega
 |some d=>
  refine⟨_,_,_,de e (h.two e),λh3=>?_,λh3=>⟨rh h hl h3 _,rh h hl h3 _⟩⟩;rw[an e]at h3;have:v=d.v:=hl.inj _ _ hv (h.var e) h3;subst this;obtain⟨c1,c2⟩:=ri (N:=N) e;exact⟨rfl,c1.symm,c2.symm⟩
set_option maxHeartbeats 2000000 in
theorem JR(fU:bg zQ 192=true)(jj:WF K0.n (lv af) K0.N)(mS:Interp K0.N S0)(jd:jI K0.n (lv af))(jD:aq.Ord K0.n (lv af) ord)(hf:∀s,K0.hold s=65535->live K0.N s):
  ∀(k a b:Nat),K0.n-min (dep K0.n (lv af) K0.N a) (dep K0.n (lv af) K0.N b)=k->∀(K:Kd) (S:Nat->aq.Fn) (made:zL) (es:Array MapEntry) (ck:Nat) (C:Hp) (ok:Bool) (tC:Array MapEntry) (tD:Nat),
  live K0.N a->live K0.N b->uf kp K0 S0 U ord af K S made es ck C ok->Tp K0 (λp=>jf e S0 p.1 p.2) S made ok tC tD->(∀g,aA K0.n ord (λg=>g=jf e S0 a b) g->U g)->
  Fc zQ 192 #[u32 a,u32 b,ptr b3,ptr b5,ptr b1,ptr pW,ptr qw] (PO e b3 b5 b1 pW qw bj bq kp bm ok tC tD es ck C) (Sm kp K0 S0 U ord af e b3 b5 b1 pW qw bj bq bm K S made ok (jf e S0 a b)):=by
 have hc0:∀r,r<2->K0.N r=none:=λr hr=>jj.const hr;intro k;induction k using Nat.strongRecOn with
 |ind k ih=>
 intro a b hk K S made es ck C ok tC tD ha hb hS hJ hU g;have hK:=hS.ks;have Eg:∀r,r<2->K.N r=none:=λr hr=>hK.ok.wf.const hr;have eN:=hS.cA.n;have la:=hS.cA.live ha;have lb:=hS.cA.live hb;have now:∀x,live K0.N x->(S0 x=jf e S0 a b)->∀Z:Hp,aN (Sm kp K0 S0 U ord af e b3 b5 b1 pW qw bj bq bm K S made ok (jf e S0 a b)) (.returned (u32 x)) (Z++PO e b3 b5 b1 pW qw bj bq kp bm ok tC tD es ck C):=λx hx hf Z=>
  aN.mk .right ⟨x,K,S,made,es,ck,C,ok,tC,tD,rfl,rfl,hS,hJ,.refl,λh=>⟨h,by rw[hS.cA.fn x hx];exact hf,.inl hx⟩⟩
 have MM:e.toNat<2:=by cases e<;>decide
 have sr:(!e).toNat<2:=by cases e<;>decide
 refine BJ (R:=aN _) ?_;unfold L192;refine Ld.q ?_;refine ae.bA (dr.or (decide (b=e.toNat)) (λ_=>?_) zI λgs=>?_)
 ·refine Ld.q ?_;exact ae.bA ⟨rfl,rfl⟩
 rw[<-xbO];refine Br.dec (λh1=>?_) (λh1=>?_)
 ·refine Ld.q ?_;refine now _ (.inl MM) ?_ [];rcases h1 with rfl|rfl
  ·exact(JT mS e b).symm
  rw[wg];exact(JT mS e a).symm
 refine Ld.q ?_;refine ae.bA (dr.or (decide (a=b)) (λ_=>ae.bA ⟨rfl,rfl⟩) zI λgs=>?_);rw[<-xbO];refine Br.dec (λh2=>?_) (λh2=>?_)
 ·refine now b hb ?_ [];rcases h2 with rfl|rfl
  ·exact(JS mS e b).symm
  exact(NS e S0 a).symm
 refine Ld.q ?_;refine ae.bA (Br.dec (λh3=>?_) (λh3=>?_))
 ·refine now a ha ?_ [];rw[h3,wg];exact(JS mS e a).symm
 refine Ld.q ?_;refine Ld.n ?_;cases ok with
 |false=>
  exact ae.dz (Br.T (aN.here ⟨0,K,S,made,es,ck,C,false,tC,tD,rfl,rfl,hS,hJ,.refl,λh=>by cases h⟩))
 |true=>
 refine ae.dz (Br.F (⟨.u32,(a:Int),(b:Int),rfl,rfl,⟨.u32,(a:Int),(b:Int),rfl,rfl,?_⟩⟩));have Zu:(if(b:Int)<(a:Int)then(b:Int)else(a:Int))=((min a b:Nat):Int):=by split<;>omega
 have Zv:(if(b:Int)>(a:Int)then(b:Int)else(a:Int))=((max a b:Nat):Int):=by split<;>omega
 rw[Zu,Zv];refine Build.mk (cs:=[u32 (min a b),u32 (max a b)]) zK λTh _=>?_;refine St.p (by intro x hx;simp[u32]at hx;rcases hx with rfl|rfl<;>rfl) ?_;refine Ld.q ?_;refine av.q ?_;obtain⟨m,hE,hkn⟩:=hJ;have tS:(bj,Obj.map tC tD)∈(Th,Obj.cells #[u32 (min a b),u32 (max a b)] 278 zZ)::PO e b3 b5 b1 pW qw bj bq kp bm true tC tD es ck C:=.tail _ (.tail _ (.tail _ (.head _)));cases hg:c8 m (min a b,max a b)with
 |some x=>
  refine aM.F1 (ke:=pk) (k:=(min a b,max a b)) Jn AH hE tS hg ?_;rintro v rfl;obtain⟨g1,g2⟩:=hkn rfl _ ((fo hE.nd).1 hg);refine Ext.mk rfl (Ext.mk rfl (Br.yes (aN.mk .tail ⟨x,K,S,made,es,ck,C,true,tC,tD,rfl,rfl,hS,⟨m,hE,hkn⟩,.refl,λh=>⟨h,?_,g2⟩⟩)));rw[g1];exact PN e S0 a b
 |none=>
 refine aM.uA (ke:=pk) (k:=(min a b,max a b)) Jn AH hE tS hg ?_;refine Ext.mk rfl (Ext.mk rfl (Br.no (Ld.q ?_)));refine aa.eq (AB (bm:=bm) (ok:=true) (es:=es) (ck:=ck) hK la) (Ext.two λTg _=>(St.whole (r:=got K.N a) (by exact .head _) rfl (aF _ _).1 (aF _ _).2 ?_));refine Ld.q ?_;refine aa.eq (AB (bm:=bm) (ok:=true) (es:=es) (ck:=ck) hK lb) (Ext.two λO4 _=>(St.whole (r:=got K.N b) (by exact .head _) rfl (aF _ _).1 (aF _ _).2 ?_));rw[lT hS.cA.N hc0 Eg ha,lT hS.cA.N hc0 Eg hb,eN,sN hS.cA.N Eg hc0 ha,sN hS.cA.N Eg hc0 hb];have hmin:min (dep K0.n (lv af) K0.N a) (dep K0.n (lv af) K0.N b)<K0.n:=by
  refine xaI λhn=>h2 (.inr ?_);have cst:∀r,live K0.N r->K0.n<=dep K0.n (lv af) K0.N r->r<2:=λr hr hd=>by
   rcases hr with h|⟨d,cV⟩
   ·exact h
   rw[an cV]at hd;have:=jd.lt _ (jj.var cV);omega
  have a2:=cst a ha zO;have b2:=cst b hb zO;cases e<;>simp only[Bool.toNat_true,Bool.toNat_false,Bool.not_true,Bool.not_false]at h1 h2<;>omega
 obtain⟨v,hv,hvl⟩:=Xa jj jd (hc0 0 zO) hmin;have hva:=hv.le a zI;have hvb:=hv.le b zI;obtain⟨za,pa,qa,ega,ga1,ga2⟩:=yJ jj jd ha hv.lt hva;obtain⟨zb,pb,qb,egb,gb1,gb2⟩:=yJ jj jd hb hv.lt hvb;rw[ega,egb];have fJ:∀r∈[a,b,0],live K0.N r:=λr hr=>by
  simp only[xaf,xao,xaQ]at hr;rcases hr with rfl|rfl|rfl
  ·exact ha
  ·exact hb
  exact .inl zO
 obtain⟨f1,f2⟩:=mK (S:=S0) jj jd mS fJ hv false;obtain⟨t1,t2⟩:=mK (S:=S0) jj jd mS fJ hv true;rw[y5 v _ a b (hc0 0 zO)]at f1 f2 t1 t2;have ec:∀bb,jf e S0 (dg K0.N v bb a) (dg K0.N v bb b)=λx=>jf e S0 a b (ax.ay x v bb):=λbb=>by
  have:=Ew (S:=S0) jj jd mS rfl fJ hv (Xw e) bb;rw[y5 v _ a b (hc0 0 zO)]at this;exact this
 generalize ea1:dg K0.N v false a=a1 at*;generalize ea2:dg K0.N v true a=a2 at*;generalize ec1:dg K0.N v false b=c1 at*;generalize ec2:dg K0.N v true b=c2 at*;have gv:=jd.lt v hv.lt;have FW:=jD.of jd hv.lt;have pL:∀j,j<lv af v->¬cF (jf e S0 a b) (ord.getD j 0):=uY jj jd mS jD (q:=[a,b,0]) rfl fJ (xb8 gv) hv.le (Xw e);obtain⟨i1,I7⟩:=gU (n:=K0.n) (ord:=ord) (c:=jf e S0 a1 c1) pL (b:=false) (by rw[FW,<-ea1,<-ec1];exact ec false);obtain⟨i2,I6⟩:=gU (n:=K0.n) (ord:=ord) (c:=jf e S0 a2 c2) pL (b:=true) (by rw[FW,<-ea2,<-ec2];exact ec true);have eF:jf e S0 a1 c1=λx=>jf e S0 a b (ax.ay x v false):=by rw[<-ea1,<-ec1];exact ec false
 have eT:jf e S0 a2 c2=λx=>jf e S0 a b (ax.ay x v true):=by rw[<-ea2,<-ec2];exact ec true
 have la1:=f1 a1 zI;have lc1:=f1 c1 zI;have la2:=t1 a2 zI;have lc2:=t1 c2 zI;have da1:=f2 a1 zI;have dc1:=f2 c1 zI;have da2:=t2 a2 zI;have dc2:=t2 c2 zI;refine Ld.f ?_;intro J49 h49;have Vu:J49 [iv (v:Int)] ((O4,.cells #[iv zb,u32 pb,u32 qb] 60 zZ)::(Tg,.cells #[iv za,u32 pa,u32 qa] 60 zZ)::(Th,.cells #[u32 (min a b),u32 (max a b)] 278 zZ)::PO e b3 b5 b1 pW qw bj bq kp bm true tC tD es ck C):=by
  refine h49 _ _ λgs J53 h53=>?_;have Vt:J53 [] ((O4,.cells #[iv zb,u32 pb,u32 qb] 60 zZ)::(Tg,.cells #[iv za,u32 a1,u32 a2] 60 zZ)::(Th,.cells #[u32 (min a b),u32 (max a b)] 278 zZ)::PO e b3 b5 b1 pW qw bj bq kp bm true tC tD es ck C):=by
   refine h53 _ λgs J56 h56=>?_;have Vs:J56 [] ((O4,.cells #[iv zb,u32 c1,u32 c2] 60 zZ)::(Tg,.cells #[iv za,u32 a1,u32 a2] 60 zZ)::(Th,.cells #[u32 (min a b),u32 (max a b)] 278 zZ)::PO e b3 b5 b1 pW qw bj bq kp bm true tC tD es ck C):=by
    refine h56 _ λgs=>?_;refine Ld.q ?_;refine Ld.f ?_;refine Ld.f ?_;refine bQ.of rfl fU ?_;have hJ0:Tp K0 (λp=>jf e S0 p.1 p.2) S made true tC tD:=⟨m,hE,hkn⟩;refine aa.fq (args:=#[u32 a1,u32 c1,ptr b3,ptr b5,ptr b1,ptr pW,ptr qw]) (ih _ zO a1 c1 rfl K S made es ck C true tC tD la1 lc1 hS hJ0 (λg hg=>hU g (I7 g hg))) ?_;rintro w H ⟨x1,K1,S1,uF,Ex,zc,C1,Xk,Xy,XA,rfl,rfl,Af,Vq,MR,Ec⟩;refine DR.of (R:=[(O4,.cells #[iv zb,u32 c1,u32 c2] 60 zZ),(Tg,.cells #[iv za,u32 a1,u32 a2] 60 zZ),(qw,.cells #[Bh b3 b5 b1 pW qw] 276 zZ),(b1,.cells #[ptr bq] 229 zZ)]) (.cons (.cons (.skip (.cons (.skip (.skip (.skip (.skip (aG.left (A:=[_])))))))))) (Ld.q ?_);refine Ld.q ?_;refine Ld.f ?_;refine Ld.f ?_;refine bQ.of rfl fU (aa.fq (args:=#[u32 a2,u32 c2,ptr b3,ptr b5,ptr b1,ptr pW,ptr qw]) (ih _ zO a2 c2 rfl K1 S1 uF Ex zc C1 Xk Xy XA la2 lc2 Af Vq (λg hg=>hU g (I6 g hg))) ?_);rintro w H ⟨x2,K2,S2,eJ,Gt,LP,C2,V9,Xx,Xz,rfl,rfl,gP,A4,KY,yo⟩;refine⟨.cons (.cons (.skip (.cons (.skip (.skip (.skip (.skip (aG.left (A:=[_]))))))))),?_⟩;have tX:=MR.trans KY;have fin:∀(x3:Nat) K3 S3 gC sK wP C3 Aa,uf kp K0 S0 U ord af K3 S3 gC sK wP C3 Aa->Ak K2 S2 eJ K3 S3 gC->(Aa=true->V9=true/\S3 x3=jf e S0 a b/\(live K0.N x3\/x3∈gC))->
      ∀Tt,Tt=(O4,.cells #[iv zb,u32 c1,u32 c2] 60 zZ)::(Tg,.cells #[iv za,u32 a1,u32 a2] 60 zZ)::(Th,.cells #[u32 (min a b),u32 (max a b)] 278 zZ)::PO e b3 b5 b1 pW qw bj bq kp bm Aa Xx Xz sK wP C3->
      aG Tt [(O4,.cells #[iv zb,u32 c1,u32 c2] 60 zZ),(Tg,.cells #[iv za,u32 a1,u32 a2] 60 zZ),(qw,.cells #[Bh b3 b5 b1 pW qw] 276 zZ),(b1,.cells #[ptr bq] 229 zZ)]/\
      Ld Tt (ptr pW) λv77=>av 2 Tt (ptr Th) λv78=>gS zQ 278 Tt v77 v78 (u32 x3) λH79=>aN (Sm kp K0 S0 U ord af e b3 b5 b1 pW qw bj bq bm K S made true (jf e S0 a b)) (.returned (u32 x3)) H79:=by
     rintro x3 K3 S3 gC sK wP C3 Aa Oz Gd AY Tt rfl;refine⟨.cons (.cons (.skip (.cons (.skip (.skip (.skip (.skip (aG.left (A:=[_]))))))))),?_⟩;refine Ld.q ?_;refine av.q ?_;obtain⟨m3,Qf,RE⟩:=A4.more gP Gd (λh=>(AY h).1);refine aM.IN (ke:=pk) (k:=(min a b,max a b)) (vr:=Im) (x:=x3) Jn AH Nx Qf rfl λes' cm he=>⟨_,.tail (.tail (.tail (.tail (.tail (.head _))))),?_⟩;refine aN.mk (.skip (.skip .tail)) ⟨x3,K3,S3,gC,sK,wP,C3,Aa,es',cm,rfl,rfl,Oz,⟨_,he,λh y hy=>(k9 hy).elim (λe1=>?_) (λhy=>RE h y hy)⟩,tX.trans Gd,λh=>⟨rfl,(AY h).2⟩⟩;rw[e1];exact⟨(AY h).2.1.trans (PN e S0 a b).symm,(AY h).2.2⟩
    cases V9 with
    |false=>
     exact aa.eq (args:=#[ptr bq,iv (v:Int),u32 x1,u32 x2]) (uw (kp:=kp) (bm:=bm) _ _ _ _) (fin 0 K2 S2 eJ Gt LP C2 false gP .refl (λh=>by cases h) _ rfl)
    |true=>
     obtain⟨QV,e2,m2⟩:=yo rfl;obtain⟨_,e1,m1⟩:=Ec QV;have Rc:=Af.r6 m1;have l1:live K2.N x1:=aW KY.N Rc;have l2:=gP.r6 m2;have OV:S2 x1=jf e S0 a1 c1:=(KY.fn x1 Rc).trans e1;have bN:=gP.ks;have n2:=gP.cA.n;have b1':=bN.ok.below bN.od (l:=lv af v+1) l1 zO (by rw[OV];exact i1);have b2':=bN.ok.below bN.od (l:=lv af v+1) l2 zO (by rw[e2];exact i2);have pK:ite S2 ⟨v,x1,x2⟩=jf e S0 a b:=by
      funext x
      unfold aq.ite;rw[OV,e2,eF,eT]
      conv=>rhs;rw[<-ax.jr x v]
      simp only;cases x.testBit v<;>rfl
     have jz:x1≠x2->U (ite S2 ⟨v,x1,x2⟩):=λhx=>by
      have uS:cF (jf e S0 a b) (ord.getD (lv af v) 0):=by
       rw[FW];refine xaI λhno=>hx ?_;refine bN.ok.wf.same bN.ok.lv bN.ok.mid.int l1 l2 λx=>?_;rw[OV,e2,eF,eT];exact(bT hno x false).trans (bT hno x true).symm
      rw[pK];exact hU _ (mw pL gv uS)
     refine aa.fq (args:=#[ptr bq,iv (v:Int),u32 x1,u32 x2]) (xG gP (by rw[n2];exact hv.lt) l1 l2 ⟨by omega,by omega⟩ (by rw[pK];exact hU) jz hf) ?_;rintro w H ⟨r,K3,S3,gC,sK,wP,C3,Aa,rfl,rfl,Oz,Gd,AY⟩;exact fin r K3 S3 gC sK wP C3 Aa Oz Gd (λh=>⟨rfl,by rw[(AY h).1,pK],(AY h).2⟩) _ rfl
   refine ae.kG (Br.dec (λhh=>?_) (λhh=>?_))
   ·obtain⟨x1,x2⟩:=gb2 zO;subst x1;subst x2;refine ah.mk (St.one (by exact .head _) rfl zI rfl ?_);refine ah.mk (St.one (by exact .head _) rfl zI rfl ?_);exact JE.mk Vs
   obtain⟨x1,x2,x3⟩:=gb1 zO;rw[x2,x3];exact JE.mk Vs
  refine ae.kG (Br.dec (λhh=>?_) (λhh=>?_))
  ·obtain⟨x1,x2⟩:=ga2 zO;subst x1;subst x2;refine ah.mk (St.one (by exact .tail (.head _)) rfl zI rfl ?_);refine ah.mk (St.one (by exact .tail (.head _)) rfl zI rfl ?_);exact JE.mk Vt
  obtain⟨x1,x2,x3⟩:=ga1 zO;rw[x2,x3];exact JE.mk Vt
 refine ae.fe (Br.dec (λhh=>?_) (λhh=>?_))
 ·obtain⟨x1,x2,x3⟩:=gb1 zO;refine Ld.f ?_;subst x1;exact JE.mk Vu
 obtain⟨x1,x2,x3⟩:=ga1 zO;subst x1;exact JE.mk Vu
end
theorem J0{N:dA}{S:Nat->aq.Fn}{n:Nat}{dK:Nat->Nat}{ord:zL}(h:WF n dK N)(hl:jI n dK)(hi:Interp N S)(ho:aq.Ord n dK ord){r:Nat}(hr:live N r){l:Nat}(Kl:l<=n)(hle:l<=dep n dK N r):∀j,j<l->¬cF (S r) (ord.getD j 0):=by
 rintro j hj ⟨x,hx⟩;apply hx;obtain⟨o1,o2⟩:=ho.at' j zO;rw[h.bu hl hi hr o1 zO x false,h.bu hl hi hr o1 zO x true]
section
variable {kp bq bm:Nat} {K0:Kd} {S0:Nat->aq.Fn} {U:aq.Fn->Prop} {ord af:zL}
def Pe(kp:Nat)(K0:Kd)(S0:Nat->aq.Fn)(U:aq.Fn->Prop)(ord af:zL)(bq bm:Nat)(LB:Hp)(K:Kd)(S:Nat->aq.Fn)(made:zL)(f:aq.Fn)(w:zV)(H:Hp):Prop:=
 ∃x K' S' made' es' cm C' ok',w=u32 x/\H=LB++qW bq kp bm ok' es' cm C'/\uf kp K0 S0 U ord af K' S' made' es' cm C' ok'/\Ak K S made K' S' made'/\(ok'=true->S' x=f/\(live K0.N x\/x∈made'))
theorem NR{e:Bool}(jj:WF K0.n (lv af) K0.N)(mS:Interp K0.N S0)(jd:jI K0.n (lv af))(jD:aq.Ord K0.n (lv af) ord)(hf:∀s,K0.hold s=65535->live K0.N s){a b:Nat}{K:Kd}{S:Nat->aq.Fn}{made:zL}{es:Array MapEntry}{ck:Nat}{C:Hp}
 (ha:live K0.N a)(hb:live K0.N b)(hS:uf kp K0 S0 U ord af K S made es ck C true)(hU:∀g,aA K0.n ord (λg=>g=jf e S0 a b) g->U g):
  Fc zQ 180 #[ptr bq,u32 a,u32 b,.bool e] (qW bq kp bm true es ck C) (Pe kp K0 S0 U ord af bq bm [] K S made (jf e S0 a b)):=by
 refine aS λg=>BS λb1 _ b3 _ b5 _=>?_;refine St.one (by exact .tail (.head _)) rfl zI rfl ?_;refine St.one (by exact .head _) rfl zI rfl ?_;have fU:bg zQ 192=true:=by kernel_rfl
 intro J hJ;have Gc:J [] ((b5,.cells #[u32 (!e).toNat] 27 zZ)::(b3,.cells #[u32 e.toNat] 27 zZ)::(b1,.cells #[ptr bq] 229 zZ)::qW bq kp bm true es ck C):=by
  refine hJ _ λgs=>?_;intro bj _ pW _;refine St.one (by exact .head _) rfl zI rfl ?_;intro qw _;refine St.one (by exact .head _) rfl zI rfl ?_;refine Ld.q ?_;refine bQ.of rfl fU (aa.fq (args:=#[u32 a,u32 b,ptr b3,ptr b5,ptr b1,ptr pW,ptr qw]) (JR (e:=e) fU jj mS jd jD hf _ a b rfl K S made es ck C true #[] 0 ha hb hS ⟨[],aM.empty,λ_ y hy=>by cases hy⟩ hU) ?_);rintro w H ⟨x,K',S',made',es',cm,C',ok',Rh,Ri,rfl,rfl,KV,_,hA,ho⟩;exact aN.mk (.skip (.skip (.skip (.skip (.skip .tail))))) ⟨x,K',S',made',es',cm,C',ok',rfl,rfl,KV,hA,λh=>(ho h).2⟩
 cases e with
 |true=>
  refine Br.yes (St.one (by exact .tail (.head _)) rfl zI rfl ?_);refine St.one (by exact .head _) rfl zI rfl ?_;exact JE.mk Gc
 |false=>exact Br.no (JE.mk Gc)
def ER(kp:Nat)(K0:Kd)(S0:Nat->aq.Fn)(U:aq.Fn->Prop)(ord af:zL)(bq bm:Nat)(t:Bool->Bool->Bool)(v:Nat)(fv:zV)(LB:Hp):Prop:=
 ∃f first cap,fv=.func (.func f) first cap/\bg zQ f=true/\∀(r:Nat) (d:Nd),K0.N r=some d->d.v=v->∀K S made es ck C,uf kp K0 S0 U ord af K S made es ck C true->(∀g,aA K0.n ord (λg=>g=QF t v (S0 r)) g->U g)->
  Fc zQ f (first++ #[.agg (aY d).toArray]++cap) (LB++qW bq kp bm true es ck C) (Pe kp K0 S0 U ord af bq bm LB K S made (QF t v (S0 r)))
def LM(b1 gz tF b3 vg:Nat):zV:=.func (.func 175) #[] #[ptr b1,ptr gz,ptr tF,ptr b3,ptr vg]
def Ss(K0:Kd)(F:Nat->aq.Fn)(S:Nat->aq.Fn)(made:zL)(ok:Bool)(es:Array MapEntry)(ck:Nat):Prop:=
 ∃m:List (Nat×Nat),aM (kN .u32) Im es ck m/\(ok=true->∀y∈m,S y.2=F y.1/\(live K0.N y.2\/y.2∈made))
theorem Ss.more{F:Nat->aq.Fn}{K K':Kd}{S S':Nat->aq.Fn}{made made':zL}{es tC:Array MapEntry}{ck tD:Nat}{C:Hp}{ok ok':Bool}(hq:uf kp K0 S0 U ord af K S made es ck C ok)(h:Ss K0 F S made ok tC tD)(ha:Ak K S made K' S' made')(hok:ok'=true->ok=true):Ss K0 F S' made' ok' tC tD:=by
 obtain⟨m,h1,h2⟩:=h;refine⟨m,h1,λh y hy=>?_⟩;obtain⟨a,b⟩:=h2 (hok h) y hy;exact⟨by rw[ha.fn _ (hq.r6 b),a],b.imp id (ha.mem _)⟩
abbrev WL(b1 b3 gz tF vg bd lvl:Nat)(fv:zV)(LB:Hp)(bq kp bm:Nat)(ok:Bool)(Ix:Array MapEntry)(Iy:Nat)(es:Array MapEntry)(ck:Nat)(C:Hp):Hp:=
 (vg,.cells #[LM b1 gz tF b3 vg] 259 zZ)::(tF,.cells #[.map (some bd)] 258 zZ)::(bd,.map Ix Iy)::(gz,.cells #[iv (lvl:Int)] 3 zZ)::(b3,.cells #[fv] 219 zZ)::(b1,.cells #[ptr bq] 229 zZ)::(LB++qW bq kp bm ok es ck C)
def ZM(kp:Nat)(K0:Kd)(S0:Nat->aq.Fn)(U:aq.Fn->Prop)(ord af:zL)(t:Bool->Bool->Bool)(v b1 b3 gz tF vg bd:Nat)(fv:zV)(LB:Hp)(bq bm:Nat)(K:Kd)(S:Nat->aq.Fn)(made:zL)(ok:Bool)(f:aq.Fn)(w:zV)(H:Hp):Prop:=
 ∃x K' S' made' es' cm C' ok' R8 Sb,w=u32 x/\H=WL b1 b3 gz tF vg bd (lv af v) fv LB bq kp bm ok' R8 Sb es' cm C'/\uf kp K0 S0 U ord af K' S' made' es' cm C' ok'/\Ss K0 (λr=>QF t v (S0 r)) S' made' ok' R8 Sb/\Ak K S made K' S' made'/\
  (ok'=true->ok=true/\S' x=f/\(live K0.N x\/x∈made'))
variable {b1 b3 gz tF vg bd:Nat} {fv:zV} {LB:Hp} {t:Bool->Bool->Bool} {v:Nat}
set_option maxHeartbeats 2000000 in
theorem LD(fU:bg zQ 175=true)(WE:ER kp K0 S0 U ord af bq bm t v fv LB)(ht:∀a,t a a=a)(hv:v<K0.n)(jj:WF K0.n (lv af) K0.N)(mS:Interp K0.N S0)(jd:jI K0.n (lv af))(jD:aq.Ord K0.n (lv af) ord)(hf:∀s,K0.hold s=65535->live K0.N s):
  ∀(k r:Nat),K0.n-dep K0.n (lv af) K0.N r=k->∀(K:Kd) (S:Nat->aq.Fn) (made:zL) (es:Array MapEntry) (ck:Nat) (C:Hp) (ok:Bool) (Ix:Array MapEntry) (Iy:Nat),
  live K0.N r->uf kp K0 S0 U ord af K S made es ck C ok->Ss K0 (λr=>QF t v (S0 r)) S made ok Ix Iy->(∀g,aA K0.n ord (λg=>g=QF t v (S0 r)) g->U g)->
  Fc zQ 175 #[u32 r,ptr b1,ptr gz,ptr tF,ptr b3,ptr vg] (WL b1 b3 gz tF vg bd (lv af v) fv LB bq kp bm ok Ix Iy es ck C) (ZM kp K0 S0 U ord af t v b1 b3 gz tF vg bd fv LB bq bm K S made ok (QF t v (S0 r))):=by
 have hc0:∀r,r<2->K0.N r=none:=λr hr=>jj.const hr;intro k;induction k using Nat.strongRecOn with
 |ind k ih=>
 intro r hk K S made es ck C ok Ix Iy hr hS hD hU g;have hK:=hS.ks;have Eg:∀r,r<2->K.N r=none:=λr hr=>hK.ok.wf.const hr;have eN:=hS.cA.n;have lr:=hS.cA.live hr;refine BW (R:=aN _) ?_;unfold L175;refine Ld.q ?_;refine aa.eq (AB (bm:=bm) (ok:=ok) (es:=es) (ck:=ck) hK lr) (Ext.two λb6 _=>(St.whole (r:=got K.N r) (by exact .head _) rfl (aF _ _).1 (aF _ _).2 ?_));rw[lT hS.cA.N hc0 Eg hr,eN,sN hS.cA.N Eg hc0 hr];refine Ld.q ?_;refine ae.kG (dr.or (!ok) (λ_=>?_) zI λgs=>?_)
 ·refine Ld.q ?_;refine Ld.n ?_;exact ae.dz ⟨rfl,by cases ok<;>rfl⟩
 refine Br.mk (λhb=>?_) (λhb=>?_)
 ·-- deeper, or an error before
  refine aN.mk .tail ⟨r,K,S,made,es,ck,C,ok,Ix,Iy,rfl,rfl,hS,hD,.refl,λh=>⟨h,?_,.inl hr⟩⟩;rw[h]at hb;simp only[Bool.not_true,xdP,xaO]at hb;rw[hS.cA.fn r hr];refine(Pf ht ?_).symm;rintro⟨x,hx⟩;apply hx;rw[jj.bu jd mS hr hv hb x false,jj.bu jd mS hr hv hb x true]
 simp only[xaD,xbl,Bool.not_eq_false',Nat.not_lt]at hb;obtain⟨wA,rfl⟩:=hb;obtain⟨m,hE,hkn⟩:=hD;refine Ld.q ?_;have tS:(bd,Obj.map Ix Iy)∈(b6,Obj.cells (got K0.N r).toArray 60 zZ)::WL b1 b3 gz tF vg bd (lv af v) fv LB bq kp bm true Ix Iy es ck C:=.tail _ (.tail _ (.tail _ (.head _)));have hlv:=jd.lt v hv;obtain⟨d,hd⟩:∃d,K0.N r=some d:=by
  cases e:K0.N r with
  |none=>rw[aT e]at wA;omega
  |some d=>exact⟨d,rfl⟩
 have ed:=an (n:=K0.n) (af:=lv af) hd;have h2:=jj.two hd;have m0:=jj.var hd;cases hg:c8 m r with
 |some x=>
  refine aM.hit (k:=r) gL hE tS hg ?_;rintro w rfl;obtain⟨g1,g2⟩:=hkn rfl _ ((fo hE.nd).1 hg);exact Ext.mk rfl (Ext.mk rfl (Br.yes (aN.mk .tail ⟨x,K,S,made,es,ck,C,true,Ix,Iy,rfl,rfl,hS,⟨m,hE,hkn⟩,.refl,λh=>⟨h,g1,g2⟩⟩)))
 |none=>
 refine aM.AM (k:=r) gL hE tS hg ?_;refine Ext.mk rfl (Ext.mk rfl (Br.no ?_));rw[de hd h2];intro J hJ;have fin:∀(x3:Nat) K3 S3 gC sK wP C3 Aa R7 Sa,uf kp K0 S0 U ord af K3 S3 gC sK wP C3 Aa->Ss K0 (λr=>QF t v (S0 r)) S3 gC Aa R7 Sa->Ak K S made K3 S3 gC->(Aa=true->S3 x3=QF t v (S0 r)/\(live K0.N x3\/x3∈gC))->
   J [u32 x3] ((b6,.cells (aY d).toArray 60 zZ)::WL b1 b3 gz tF vg bd (lv af v) fv LB bq kp bm Aa R7 Sa sK wP C3):=by
  intro x3 K3 S3 gC sK wP C3 Aa R7 Sa Oz hD3 Gd AY;refine hJ _ _ λgs=>?_;refine Ld.q ?_;obtain⟨m3,Qf,RE⟩:=hD3;refine aM.bJ (k:=r) (x:=x3) gL D5 Qf rfl λes' cm he=>⟨_,.tail (.tail (.tail (.head _))),?_⟩;refine aN.mk .tail ⟨x3,K3,S3,gC,sK,wP,C3,Aa,es',cm,rfl,rfl,Oz,⟨_,he,λh y hy=>(k9 hy).elim (λe1=>?_) (λhy=>RE h y hy)⟩,Gd,λh=>⟨rfl,AY h⟩⟩;rw[e1];exact AY h
 have hD0:Ss K0 (λr=>QF t v (S0 r)) S made true Ix Iy:=⟨m,hE,hkn⟩;refine Ld.q ?_;refine ae.bA (Br.dec (λhl=>?_) (λhl=>?_))
 ·-- at the variable
  have ev:d.v=v:=jd.inj _ _ m0 hv zO;obtain⟨f,first,cap,rfl,Ol,UA⟩:=WE;refine Ld.q ?_;refine av.q ?_;refine bQ.of rfl Ol (aa.fq (C:=LB++qW bq kp bm true es ck C) (UA r d hd ev K S made es ck C hS hU) ?_);rintro w H ⟨x,K',S',made',es',cm,C',ok',rfl,rfl,KV,hA,ho⟩;exact JE.mk (fin x K' S' made' es' cm C' ok' Ix Iy KV (hD0.more hS hA (λ_=>rfl)) hA ho)
 -- above it
 have X4:lv af d.v<lv af v:=by omega
 have hne:d.v≠v:=λe=>by rw[e]at X4;omega
 obtain⟨g1,g2,g3⟩:=gQ (S:=S0) jj jd mS hr m0 zO false;obtain⟨t1,t2,t3⟩:=gQ (S:=S0) jj jd mS hr m0 zO true;obtain⟨q1,q2⟩:=ri (N:=K0.N) hd;rw[q1]at g1 g2 g3;rw[q2]at t1 t2 t3;have gv:=jd.lt d.v m0;have FW:=jD.of jd m0;have pL:∀j,j<lv af d.v->¬cF (QF t v (S0 r)) (ord.getD j 0):=λj hj=>Mn (J0 jj jd mS jD hr (xb8 gv) zO j hj);have eF:QF t v (S0 d.lo)=λx=>QF t v (S0 r) (ax.ay x d.v false):=by rw[<-Mo hne];congr 1;exact funext g1
 have eT:QF t v (S0 d.hi)=λx=>QF t v (S0 r) (ax.ay x d.v true):=by rw[<-Mo hne];congr 1;exact funext t1
 obtain⟨i1,I7⟩:=gU (n:=K0.n) (ord:=ord) (c:=QF t v (S0 d.lo)) pL (b:=false) (by rw[FW];exact eF);obtain⟨i2,I6⟩:=gU (n:=K0.n) (ord:=ord) (c:=QF t v (S0 d.hi)) pL (b:=true) (by rw[FW];exact eT);refine Ld.q ?_;refine Ld.f ?_;refine bQ.of rfl fU (aa.fq (args:=#[u32 d.lo,ptr b1,ptr gz,ptr tF,ptr b3,ptr vg]) (ih _ zO d.lo rfl K S made es ck C true Ix Iy g2 hS hD0 (λg hg=>hU g (I7 g hg))) ?_);rintro w H ⟨x1,K1,S1,uF,Ex,zc,C1,Xk,Zx,Zz,rfl,rfl,Af,hD1,MR,Ec⟩;refine DR.of (R:=[(b6,.cells (aY d).toArray 60 zZ),(vg,.cells #[LM b1 gz tF b3 vg] 259 zZ),(b1,.cells #[ptr bq] 229 zZ)]) (.cons (.cons (.skip (.skip (.skip (.skip (aG.left (A:=[_])))))))) (Ld.q ?_);refine Ld.f ?_;refine Ld.q ?_;refine Ld.f ?_;refine bQ.of rfl fU (aa.fq (args:=#[u32 d.hi,ptr b1,ptr gz,ptr tF,ptr b3,ptr vg]) (ih _ zO d.hi rfl K1 S1 uF Ex zc C1 Xk Zx Zz t2 Af hD1 (λg hg=>hU g (I6 g hg))) ?_);rintro w H ⟨x2,K2,S2,eJ,Gt,LP,C2,V9,VG,VI,rfl,rfl,gP,hD2,KY,yo⟩;refine⟨.cons (.cons (.skip (.skip (.skip (.skip (aG.left (A:=[_]))))))),?_⟩;have tX:=MR.trans KY;cases V9 with
 |false=>
  refine aa.eq (args:=#[ptr bq,iv (d.v:Int),u32 x1,u32 x2]) (uw (kp:=kp) (bm:=bm) _ _ _ _) (⟨.cons (.cons (.skip (.skip (.skip (.skip (aG.left (A:=[_]))))))),?_⟩);exact JE.mk (fin 0 K2 S2 eJ Gt LP C2 false VG VI gP hD2 tX (λh=>by cases h))
 |true=>
  obtain⟨QV,e2,m2⟩:=yo rfl;obtain⟨_,e1,m1⟩:=Ec QV;have Rc:=Af.r6 m1;have l1:live K2.N x1:=aW KY.N Rc;have l2:=gP.r6 m2;have OV:S2 x1=QF t v (S0 d.lo):=(KY.fn x1 Rc).trans e1;have bN:=gP.ks;have n2:=gP.cA.n;have b1':=bN.ok.below bN.od (l:=lv af d.v+1) l1 zO (by rw[OV];exact i1);have b2':=bN.ok.below bN.od (l:=lv af d.v+1) l2 zO (by rw[e2];exact i2);have pK:ite S2 ⟨d.v,x1,x2⟩=QF t v (S0 r):=by
   funext x
   unfold aq.ite;rw[OV,e2,eF,eT]
   conv=>rhs;rw[<-ax.jr x d.v]
   simp only;cases x.testBit d.v<;>rfl
  have jz:x1≠x2->U (ite S2 ⟨d.v,x1,x2⟩):=λhx=>by
   have uS:cF (QF t v (S0 r)) (ord.getD (lv af d.v) 0):=by
    rw[FW];refine xaI λhno=>hx ?_;refine bN.ok.wf.same bN.ok.lv bN.ok.mid.int l1 l2 λx=>?_;rw[OV,e2,eF,eT];exact(bT hno x false).trans (bT hno x true).symm
   rw[pK];exact hU _ (mw pL gv uS)
  refine aa.fq (args:=#[ptr bq,iv (d.v:Int),u32 x1,u32 x2]) (xG gP (by rw[n2];exact m0) l1 l2 ⟨by omega,by omega⟩ (by rw[pK];exact hU) jz hf) ?_;rintro w H ⟨r3,K3,S3,gC,sK,wP,C3,Aa,rfl,rfl,Oz,Gd,AY⟩;refine⟨.cons (.cons (.skip (.skip (.skip (.skip (aG.left (A:=[_]))))))),?_⟩;exact JE.mk (fin r3 K3 S3 gC sK wP C3 Aa VG VI Oz (hD2.more gP Gd (λ_=>rfl)) (tX.trans Gd) (λh=>⟨by rw[(AY h).1,pK],(AY h).2⟩))
end
def Q2(es:Array MapEntry)(l:zL):List zV->Hp->Nat:=λ_ H=>match H with
 |(_,.mapIter _ _ seen _)::_=>(cB es (wY l) seen).length
 |_=>0
structure Let(K K':Kd)(l:zL):Prop where
 n:K'.n=K.n
 cap:K'.cap=K.cap
 N:∀s d,K'.N s=some d->K.N s=some d
 hold:∀s,K'.hold s+l.count s=K.hold s
section
variable {kp bq bm:Nat} {K0:Kd} {S0:Nat->aq.Fn} {U:aq.Fn->Prop} {ord af:zL}
theorem vO{g:Gh}{K:Kd}{S:Nat->aq.Fn}{l:zL}{es:Array MapEntry}{ck b9 b1:Nat}{ok:Bool}{C LB:Hp}(hK:br kp K S ord af [] C)(hE:aM (kN .u32) W6 es ck (wY l))(hc:∀s,l.count s<=K.hold s)(h2:∀s∈l,2<=s)(MS:∀s∈l,s<4294967296){Kc:Hp->Prop}
 (hk:∀K' C' bi it,br kp K' S ord af [] C'->Let K K' l->Kc ((bi,it)::(b9,.cells #[ptr bq] 229 zZ)::(b1,.cells #[ptr kp] 36 zZ)::(LB++qW bq kp bm ok es ck C'))):
  dL zQ g 173 #[ptr b9,ptr b1] ((b9,.cells #[ptr bq] 229 zZ)::(b1,.cells #[ptr kp] 36 zZ)::(LB++qW bq kp bm ok es ck C)) Kc:=by
 refine zx (R:=_) ?_;unfold L173;refine Ld.q ?_;refine Ld.n ?_;refine .inr ⟨bm,es,ck,rfl,.tail _ (.tail _ (xaa _ (.tail _ (.head _)))),λbi _=>?_⟩;refine⟨λ_ H=>∃(done:zL) (K':Kd) (C':Hp) (seen:Array Nat),H=(bi,.mapIter (some bm) ck seen ck)::(b9,.cells #[ptr bq] 229 zZ)::(b1,.cells #[ptr kp] 36 zZ)::(LB++qW bq kp bm ok es ck C')/\
   br kp K' S ord af [] C'/\Let K K' done/\(done++(cB es (wY l) seen).map Prod.fst).Perm l,Q2 es l,JE.mk ⟨[],K,C,#[],rfl,hK,⟨rfl,rfl,λ_ _ h=>h,λs=>by simp⟩,by rw[nr hE,oc];exact .refl _⟩,?_⟩
 rintro H ⟨done,K',C',seen,rfl,dc,hl,hp⟩ gs;refine aM.next (bi:=bi) (bm:=bm) (seen:=seen) hE (.tail _ (.tail _ (.tail _ (xaa _ (.tail _ (.head _)))))) (.head _) (λe x seen' he hkey hv SK hbk Ys=>⟨_,.head _,?_⟩) (λhu=>?_)
 ·refine Ext.mk rfl (Br.yes (⟨bi,bm,ck,seen',e.born,ck,es,e,rfl,.head _,hbk,.tail _ (.tail _ (.tail _ (xaa _ (.tail _ (.head _))))),Ys,?_⟩));refine Ext.mk rfl (Ld.q ?_);have Wc:x.1∈l:=by
   refine hp.mem_iff.1 (xaa _ ?_);exact xbf (SK.mem_iff.2 (.head _))
  have wB:done.count x.1+1<=l.count x.1:=by
   rw[<-hp.count_eq,xaX,(SK.map Prod.fst).count_eq,xaM,List.count_cons_self];omega
  have hhx:K'.hold x.1≠0:=by
   have a:=hl.hold x.1;have b:=hc x.1;omega
  show aa zQ g 61 #[ptr kp,e.key] _ _ _;rw[hkey];refine aa.fq (args:=#[ptr kp,u32 x.1]) (ki dc (r:=x.1) (MS _ Wc) (λ_=>hhx)) ?_;rintro w C2 ⟨rfl,K2,bN,f2⟩;refine az.mk ⟨done++[x.1],K2,C2,seen',rfl,bN,⟨f2.n.trans hl.n,f2.cap.trans hl.cap,λs d hd=>hl.N s d (f2.N s d hd),λs=>?_⟩,?_⟩ ?_
  ·have a:=hl.hold s;rw[f2.hold,xaX,xbB];by_cases e1:s=x.1
   ·subst e1;have:=h2 _ Wc;simp[this];omega
   have:(x.1==s)=false:=by simpa using λe'=>e1 e'.symm
   simp[e1,this];exact a
  ·refine .trans ?_ hp;rw[xaj];refine xbH _ ?_;exact(SK.map Prod.fst).symm
  show(cB es (wY l) seen').length<(cB es (wY l) seen).length;rw[SK.length_eq,xar];omega
 refine Ext.mk rfl (Br.no ?_);rw[hu,xcu,xaP]at hp;refine⟨⟨_,rfl⟩,hk K' C' bi _ dc ⟨hl.n,hl.cap,hl.N,λs=>?_⟩⟩;rw[<-hp.count_eq];exact hl.hold s
end
section
variable {kp:Nat} {K:Kd} {S:Nat->aq.Fn} {ord af tr:zL} {C:Hp}
theorem TR{α:Type}(a x y b:α)(L R:List α):(a::x::y::b::(L++R)).Perm (a::b::(L++x::y::R)):=by
 classical
 rw[xcQ];intro z;simp only[xaX,xck];omega
theorem FE{made:zL}{x:Nat}:nE (wY made) x=wY (made.filter λr=>decide (¬r=x)):=by
 unfold nE wY;induction made with
 |nil=>rfl
 |cons a l ih=>
  simp only[xaM,xcb];by_cases h:a=x
  ·simp[h]at ih⊢;exact ih
  simp[h]at ih⊢;exact ih
def mj(kp:Nat)(K:Kd)(S:Nat->aq.Fn)(ord af:zL)(LB:Hp)(f:aq.Fn)(w:zV)(H:Hp):Prop:=
 (∃x K' S' C',w=.tuple #[u32 x,.bool true,iv 0]/\H=LB++C'/\br kp K' S' ord af [] C'/\dS K S K' S' f x)\/
 (w=.tuple #[u32 0,.bool false,iv 9]/\(∃K' S' C',H=LB++C'/\br kp K' S' ord af [] C'/\Kept K S K' S')/\¬Fits (aA K.n ord (λg=>K.held S g\/g=f)) K.cap)
def iY(kp:Nat)(K:Kd)(S:Nat->aq.Fn)(ord af:zL)(LB:Hp)(f:aq.Fn)(w:zV)(H:Hp):Prop:=
 mj kp K S ord af LB f w H\/∃x,w=.tuple #[u32 x,.bool false,iv 0]/\(∃K' S' C',H=LB++C'/\br kp K' S' ord af [] C'/\Kept K S K' S')/\2<=x/\K.hold x=65535/\S x=f
theorem DM(hK:br kp K S ord af tr C){f:aq.Fn}{LB:Hp}{fb:zV}
 (hb:∀K1 C1,br kp K1 S ord af [] C1->Ph K K1 1->∃ff first cap,fb=.func (.func ff) first cap/\bg zQ ff=true/\∀bq bm,uf kp K1 S (aA K.n ord (λg=>K.held S g\/g=f)) ord af K1 S [] #[] 0 C1 true->
   Fc zQ ff (first++ #[ptr bq]++cap) (LB++qW bq kp bm true #[] 0 C1) (Pe kp K1 S (aA K.n ord (λg=>K.held S g\/g=f)) ord af bq bm LB K1 S [] f)):
  Fc zQ 147 #[ptr kp,fb] (LB++C) (iY kp K S ord af LB f):=by
 refine aS λg=>Cr λb1 _=>?_;refine Ld.q ?_;intro bm _;refine Build.mk (cs:=[ptr kp,.map (some bm),iv 0]) zK λbq _ b9 _=>?_;refine St.one (by exact .head _) rfl zI rfl ?_;refine Ld.q ?_;refine aa.fq (args:=#[ptr kp,u32 1]) (mE hK (r:=1) (.inl zO) (λh=>by omega)) ?_;rintro w C1 ⟨rfl,K1,cj,mo⟩;have dO:∀s,K1.hold s=K.hold s:=λs=>by rw[mo.hold,xad zO]
 have US:∀g,K1.held S g->K.held S g:=by
  rintro g ⟨s,hs,rfl⟩;exact⟨s,by have:K1.hold s≠0:=hs;rwa [dO]at this,rfl⟩
 obtain⟨ff,first,cap,rfl,Ol,hbody⟩:=hb K1 C1 cj mo;refine Ld.q ?_;refine bQ.of rfl Ol (aa.pre (H':=(b9,.cells #[ptr bq] 229 zZ)::(b1,.cells #[ptr kp] 36 zZ)::(LB++qW bq kp bm true #[] 0 C1)) (.perm (TR _ _ _ _ _ _)) ?_);have MO:uf kp K1 S (aA K.n ord (λg=>K.held S g\/g=f)) ord af K1 S [] #[] 0 C1 true:=⟨cj,.refl λg hg=>by rw[mo.n]at hg;exact aJ (λg h=>.inl (US g h)) hg,aM.empty,λh=>by cases h⟩;refine aa.fq (C:=LB++qW bq kp bm true #[] 0 C1) (hbody bq bm MO) ?_;rintro w H ⟨x,K2,S2,made,es,ck,C2,ok,rfl,rfl,gP,hA,ho⟩;have bN:=gP.ks;have iR:=gP.cA;have iu:=gP.nd;have Ef:∀s,made.count s<=K2.hold s:=λs=>by rw[iR.hold];omega
 have MS:∀s∈made,s<4294967296:=λs hs=>by have:=bN.bp (iR.fL bN hs);omega
 have nV:∀s,K.hold s≠0->live K.N s:=λs hs=>.inr (hK.ok.mid.held s hs);have YU:∀s d,K.N s=some d->K2.N s=some d:=λs d hd=>iR.N s d (by rw[mo.N];exact hd);have hfn:∀s,live K.N s->S2 s=S s:=λs hs=>iR.fn s (by rw[mo.N];exact hs);refine Ld.q ?_;refine Ld.n ?_;cases ok with
 |false=>
  refine ae.dz (Br.T (Ld.q ?_));refine Ld.n ?_;refine vO bN gP.cS Ef iR.two MS λK3 C3 bi it fG hl=>?_;have fh:∀s,K3.hold s=K.hold s:=λs=>by
   have a:=hl.hold s;have b:=iR.hold s;rw[dO]at b;omega
  refine aN.mk (.skip (.skip (.skip (.cM (.skip .tail) _)))) (.inl (.inr ⟨rfl,⟨K3,S2,C3,rfl,fG,⟨by rw[hl.n,iR.n,mo.n],by rw[hl.cap,iR.cap,mo.cap],fh,λg=>?_,λr hr=>hfn r (nV r hr)⟩⟩,?_⟩))
  ·constructor
   ·rintro⟨s,hs,rfl⟩;have hs':K.hold s≠0:=by rw[<-fh];exact hs
    exact⟨s,hs',hfn s (nV s hs')⟩
   rintro⟨s,hs,rfl⟩;exact⟨s,by show K3.hold s≠0;rw[fh];exact hs,(hfn s (nV s hs)).symm⟩
  have:=gP.bad rfl;rw[mo.cap]at this;exact this
 |true=>
  obtain⟨hx,Ub⟩:=ho rfl;refine ae.dz (Br.F (Ld.q ?_));refine Ld.n ?_;have fin:∀(K3:Kd) (l:zL) (sK:Array MapEntry) (C3:Hp),br kp K3 S2 ord af [] C3->(∀s d,K3.N s=some d->K2.N s=some d)->K3.n=K2.n->K3.cap=K2.cap->aM (kN .u32) W6 sK ck (wY l)->(∀s∈l,s∈made)->(∀s,K3.hold s=K.hold s+l.count s+if s=x/\2<=x then 1 else 0)->
    dL zQ g 173 #[ptr b9,ptr b1] ((b9,.cells #[ptr bq] 229 zZ)::(b1,.cells #[ptr kp] 36 zZ)::(LB++qW bq kp bm true sK ck C3)) λH=>aN (iY kp K S ord af LB f) (.returned (.tuple #[u32 x,.bool true,iv 0])) H:=by
   intro K3 l sK C3 fG Vi Rz U0 Qf SN ow;refine vO fG Qf (λs=>by rw[ow];omega) (λs hs=>iR.two s (SN s hs)) (λs hs=>MS s (SN s hs)) λK4 C4 bi it Gb hl=>?_;have kE:∀s,K4.hold s=K.hold s+if s=x/\2<=x then 1 else 0:=λs=>by
    have a:=hl.hold s;rw[ow]at a;omega
   have qL:live K4.N x:=by
    by_cases h2:x<2
    ·exact .inl h2
    refine .inr (Gb.ok.mid.held x ?_);rw[kE,xae ⟨rfl,by omega⟩];omega
   refine aN.mk (.skip (.skip (.skip (.cM (.skip .tail) _)))) (.inl (.inl ⟨x,K4,S2,C4,rfl,rfl,Gb,⟨by rw[hl.n,Rz,iR.n,mo.n],by rw[hl.cap,U0,iR.cap,mo.cap],λs d hs=>ir hK.ok Gb.ok (λs h=>by rw[kE];omega) (λs d d' h h'=>?_) _ s d hs (xak _),hfn,qL,hx,kE⟩⟩));have a:=Vi s d' (hl.N s d' h');rw[YU s d h]at a;exact(xbt a).symm
  by_cases hm:x∈made
  ·refine aM.hit (k:=x) (x:=()) gL gP.cS (.tail _ (.tail _ (xaa _ (.tail _ (.head _))))) (mB.1 hm) ?_;rintro v rfl;refine ae.gtr (Br.T (Ld.q ?_));refine Ld.n ?_;refine aM.del (k:=x) gL gP.cS (.tail _ (.tail _ (xaa _ (.tail _ (.head _))))) λes' he=>⟨_,.tail (.tail ((cT.tail (.head _)).bB LB)),?_⟩;rw[FE]at he;refine fin K2 _ es' C2 bN (λ_ _ h=>h) rfl rfl he (λs hs=>(xcj.1 hs).1) λs=>?_;rw[iR.hold,dO];have Iv:=iR.two x hm;by_cases e1:s=x
   ·subst e1;have c1:made.count s=1:=by rw[iu.count,xae hm]
    have c2:(made.filter λr=>decide (¬r=s)).count s=0:=xdO.2 zI;rw[c1,c2,xae ⟨rfl,Iv⟩]
   have:(made.filter λr=>decide (¬r=x)).count s=made.count s:=List.count_filter (by simpa using e1);rw[this,xad (λh=>e1 h.1)];rfl
  refine aM.AM (k:=x) gL gP.cS (.tail _ (.tail _ (xaa _ (.tail _ (.head _))))) (mB.2 hm) ?_;refine ae.gtr (Br.F (Ld.q ?_));have qL:live K2.N x:=gP.r6 Ub;by_cases wB:2<=x/\K2.hold x=65535
  ·have hKx:K.hold x=65535:=by
    have:=iR.hold x;rw[dO,xdO.2 hm]at this;omega
   refine aa.eq (args:=#[ptr kp,u32 x]) (pF bN qL wB.1 wB.2) (ae.kH ?_);rw[show decide ((8:Int)=0)=false from rfl];refine vO bN gP.cS Ef iR.two MS λK3 C3 bi it fG hl=>?_;have fh:∀s,K3.hold s=K.hold s:=λs=>by
    have a:=hl.hold s;have b:=iR.hold s;rw[dO]at b;omega
   refine aN.mk (.skip (.skip (.skip (.cM (.skip .tail) _)))) (.inr ⟨x,rfl,⟨K3,S2,C3,rfl,fG,⟨by rw[hl.n,iR.n,mo.n],by rw[hl.cap,iR.cap,mo.cap],fh,λg=>?_,λr hr=>hfn r (nV r hr)⟩⟩,wB.1,hKx,by rw[<-hx];exact(hfn x (nV x zO)).symm⟩);constructor
   ·rintro⟨s,hs,rfl⟩;have hs':K.hold s≠0:=by rw[<-fh];exact hs
    exact⟨s,hs',hfn s (nV s hs')⟩
   rintro⟨s,hs,rfl⟩;exact⟨s,by show K3.hold s≠0;rw[fh];exact hs,(hfn s (nV s hs)).symm⟩
  refine aa.fq (args:=#[ptr kp,u32 x]) (mE bN (r:=x) qL (λh2=>by have:=bN.fT x;omega)) ?_;rintro w C3 ⟨rfl,K3,fG,m3⟩;refine ae.kH ?_;rw[show decide ((0:Int)=0)=true from rfl];refine fin K3 made es C3 fG (λs d h=>by rw[<-m3.N];exact h) m3.n m3.cap gP.cS (λ_ h=>h) λs=>?_;rw[m3.hold,iR.hold,dO];split<;>omega
end
section
variable {kp bq bm:Nat} {K0:Kd} {S0:Nat->aq.Fn} {U:aq.Fn->Prop} {ord af:zL}
theorem Ey{t:Bool->Bool->Bool}{v r:Nat}{fv:zV}{LB:Hp}(WE:ER kp K0 S0 U ord af bq bm t v fv LB)(ht:∀a,t a a=a)(hv:v<K0.n)(jj:WF K0.n (lv af) K0.N)(mS:Interp K0.N S0)(jd:jI K0.n (lv af))(jD:aq.Ord K0.n (lv af) ord)(hf:∀s,K0.hold s=65535->live K0.N s)
 {K:Kd}{S:Nat->aq.Fn}{made:zL}{es:Array MapEntry}{ck:Nat}{C:Hp}(hr:live K0.N r)(hS:uf kp K0 S0 U ord af K S made es ck C true)(hU:∀g,aA K0.n ord (λg=>g=QF t v (S0 r)) g->U g):
  Fc zQ 149 #[ptr bq,u32 r,iv (v:Int),fv] (LB++qW bq kp bm true es ck C) (Pe kp K0 S0 U ord af bq bm LB K S made (QF t v (S0 r))):=by
 have fU:bg zQ 175=true:=by kernel_rfl
 have YV:=WE;obtain⟨f0,Zp,ad3,Kz,_⟩:=YV;have hn:=hS.cA.n;refine aS λg=>Cp λb1 _ b3 _=>?_;refine Ld.q ?_;refine Ld.n ?_;refine aa.rq (uN hS.ks.rep (v:Int)) ?_;rw[xae zO];rintro w rfl;refine Ext.two λgz _=>(St.one (by exact .head _) rfl zI rfl ?_);intro bd _ tF _;refine St.one (by exact .head _) rfl zI rfl ?_;intro vg _;refine St.one (by exact .head _) rfl zI rfl ?_;refine Ld.q ?_;refine bQ.of rfl fU ?_;subst Kz;refine aa.fq (args:=#[u32 r,ptr b1,ptr gz,ptr tF,ptr b3,ptr vg]) (LD (b1:=b1) (b3:=b3) (gz:=gz) (tF:=tF) (vg:=vg) (bd:=bd) fU WE ht hv jj mS jd jD hf _ r rfl K S made es ck C true #[] 0 hr hS ⟨[],aM.empty,λ_ y hy=>by cases hy⟩ hU) ?_;rintro w H ⟨x,K',S',made',es',cm,C',ok',R8,Sb,rfl,rfl,KV,_,hA,ho⟩;exact aN.mk (.skip (.skip (.skip (.skip (.skip .tail))))) ⟨x,K',S',made',es',cm,C',ok',rfl,rfl,KV,hA,λh=>(ho h).2⟩
abbrev L0(b5:Nat)(b:Bool):Nat×Obj:=(b5,.cells #[.bool b] 4 zZ)
theorem Aw{v b5:Nat}{b:Bool}{LB:Hp}(jj:WF K0.n (lv af) K0.N)(mS:Interp K0.N S0)(jd:jI K0.n (lv af))(hm:L0 b5 b∈LB):ER kp K0 S0 U ord af bq bm (λx y=>if b then y else x) v (.func (.func 150) #[] #[ptr b5]) LB:=by
 refine⟨_,_,_,rfl,by kernel_rfl,λr d hd m0 K S made es ck C hS hU=>?_⟩;have hr:live K0.N r:=.inr ⟨d,hd⟩;have KF:=jj.var hd;obtain⟨g1,g2,g3⟩:=gQ (S:=S0) jj jd mS hr KF (by rw[an hd];exact xak _) false;obtain⟨t1,t2,t3⟩:=gQ (S:=S0) jj jd mS hr KF (by rw[an hd];exact xak _) true;obtain⟨q1,q2⟩:=ri (N:=K0.N) hd;rw[q1]at g1 g2 g3;rw[q2]at t1 t2 t3;subst m0;refine aS λg=>Co λb1 _=>?_;refine Ld.mk (v:=.bool b) (by exact .tail _ (xac _ hm)) rfl ?_;refine Br.mk (λhb=>?_) (λhb=>?_)
 ·subst hb;refine Ld.f ?_;refine aN.mk .tail ⟨d.hi,K,S,made,es,ck,C,true,rfl,rfl,hS,.refl,λ_=>⟨?_,.inl t2⟩⟩;rw[hS.cA.fn _ t2];exact funext t1
 subst hb;refine Ld.f ?_;refine aN.mk .tail ⟨d.lo,K,S,made,es,ck,C,true,rfl,rfl,hS,.refl,λ_=>⟨?_,.inl g2⟩⟩;rw[hS.cA.fn _ g2];exact funext g1
theorem zh{v b1 b5:Nat}{e:Bool}{LB:Hp}(jj:WF K0.n (lv af) K0.N)(mS:Interp K0.N S0)(jd:jI K0.n (lv af))(jD:aq.Ord K0.n (lv af) ord)(hf:∀s,K0.hold s=65535->live K0.N s)(hm:L0 b5 e∈LB)(h1:(b1,Obj.cells #[ptr bq] 229 zZ)∈LB):
  ER kp K0 S0 U ord af bq bm (λx y=>if e then x||y else x&&y) v (.func (.func 179) #[] #[ptr b1,ptr b5]) LB:=by
 refine⟨_,_,_,rfl,by kernel_rfl,λr d hd m0 K S made es ck C hS hU=>?_⟩;have hr:live K0.N r:=.inr ⟨d,hd⟩;have KF:=jj.var hd;obtain⟨g1,g2,g3⟩:=gQ (S:=S0) jj jd mS hr KF (by rw[an hd];exact xak _) false;obtain⟨t1,t2,t3⟩:=gQ (S:=S0) jj jd mS hr KF (by rw[an hd];exact xak _) true;obtain⟨q1,q2⟩:=ri (N:=K0.N) hd;rw[q1]at g1 g2 g3;rw[q2]at t1 t2 t3;subst m0;have eq:QF (λx y=>if e then x||y else x&&y) d.v (S0 r)=jf e S0 d.lo d.hi:=by
  funext x
  rw[pG,g1,t1];rfl
 rw[eq]at hU⊢;refine aS λg=>BT λb _=>?_;refine Ld.mk (v:=ptr bq) (by exact .tail _ (xac _ h1)) rfl ?_;refine Ld.f ?_;refine Ld.f ?_;refine Ld.mk (v:=.bool e) (by exact .tail _ (xac _ hm)) rfl ?_;refine aa.fq (args:=#[ptr bq,u32 d.lo,u32 d.hi,.bool e]) (C:=qW bq kp bm true es ck C) (NR jj mS jd jD hf g2 t2 hS hU) ?_;rintro w H ⟨x,K',S',made',es',cm,C',ok',rfl,rfl,KV,hA,ho⟩;exact aN.mk .tail ⟨x,K',S',made',es',cm,C',ok',rfl,rfl,KV,hA,ho⟩
end
section
variable {kp:Nat} {K:Kd} {S:Nat->aq.Fn} {ord af tr:zL} {C:Hp}
abbrev V8(b5 b3 b1:Nat)(b:Bool)(v r:Nat):Hp:=[L0 b5 b,(b3,.cells #[iv (v:Int)] 3 zZ),(b1,.cells #[u32 r] 27 zZ)]
theorem mj.three{LB:Hp}{f:aq.Fn}{w:zV}{H:Hp}(h:mj kp K S ord af LB f w H):∃x b e,w=.tuple #[x,b,e]:=by
 rcases h with⟨x,K',S',C',rfl,_⟩|⟨rfl,_⟩
 ·exact⟨_,_,_,rfl⟩
 exact⟨_,_,_,rfl⟩
theorem mj.drop{LB:Hp}{f:aq.Fn}{w:zV}{H:Hp}(h:mj kp K S ord af LB f w H):∃C',aG H C'/\mj kp K S ord af [] f w C':=by
 rcases h with⟨x,K',S',C',rfl,rfl,dc,hg⟩|⟨rfl,⟨K',S',C',rfl,dc,hk⟩,hn⟩
 ·exact⟨C',.right,.inl ⟨x,K',S',C',rfl,rfl,dc,hg⟩⟩
 exact⟨C',.right,.inr ⟨rfl,⟨K',S',C',rfl,dc,hk⟩,hn⟩⟩
theorem iY.IZ{LB:Hp}{f:aq.Fn}{w:zV}{H:Hp}(h:iY kp K S ord af LB f w H):∃x y z,w=.tuple #[x,y,z]:=by
 rcases h with h|⟨x,rfl,_⟩
 ·exact h.three
 exact⟨_,_,_,rfl⟩
theorem aN.Ql{LB:Hp}{f:aq.Fn}{w:zV}{H:Hp}(h:iY kp K S ord af LB f w H):aN (iY kp K S ord af [] f) (.returned w) H:=by
 rcases h with h|⟨x,rfl,⟨K',S',C',rfl,dc,hk⟩,h2⟩
 ·obtain⟨C',h1,h2⟩:=h.drop;exact aN.mk h1 (.inl h2)
 exact aN.mk .right (.inr ⟨x,rfl,⟨K',S',C',rfl,dc,hk⟩,h2⟩)
theorem jb(hK:br kp K S ord af tr C){r v:Nat}{b:Bool}(hr:live K.N r)(hv:v<K.n):
  Fc zQ 124 #[ptr kp,u32 r,iv (v:Int),.bool b] C (iY kp K S ord af [] (λx=>S r (ax.ay x v b))):=by
 have eq:QF (λx y=>if b then y else x) v (S r)=λx=>S r (ax.ay x v b):=by
  funext x;unfold QF;cases b<;>rfl
 rw[<-eq];refine aS λg=>CZ λb1 _ b3 _ b5 _=>?_;refine aa.fq (args:=#[ptr kp,.func (.func 148) #[] #[ptr b1,ptr b3,ptr b5]]) (C:=V8 b5 b3 b1 b v r++C) (DM (f:=QF (λx y=>if b then y else x) v (S r)) hK λK1 C1 cj mo=>⟨_,_,_,rfl,by kernel_rfl,λbq bm hQ=>?_⟩) ?_
 ·intro g;refine Cq (R:=aN _) ?_;unfold L148;refine Ld.q ?_;refine Ld.q ?_;have Ea:live K1.N r:=by rw[mo.N];exact hr
  refine aa.fq (args:=#[ptr bq,u32 r,iv (v:Int),.func (.func 150) #[] #[ptr b5]]) (C:=V8 b5 b3 b1 b v r++qW bq kp bm true #[] 0 C1)
   (Ey (Aw cj.ok.wf cj.ok.mid.int cj.ok.lv (b:=b) (.head _)) (λa=>by cases b<;>rfl) (by rw[mo.n];exact hv) cj.ok.wf cj.ok.mid.int cj.ok.lv cj.od (λs hs=>.inr (cj.ok.mid.held s zO)) Ea hQ (λg hg=>by rw[mo.n]at hg;exact aJ (λg h=>.inr h) hg)) ?_
  intro w H hO;exact aN.here hO
 intro w H hO;obtain⟨x,bb,e,rfl⟩:=hO.IZ;exact Ext.mk rfl (Ext.mk rfl (Ext.mk rfl (aN.Ql hO)))
def qf(e:Bool)(v:Nat)(f:aq.Fn):aq.Fn:=QF (λx y=>if e then x||y else x&&y) v f
theorem tJ(hK:br kp K S ord af tr C){r v:Nat}{e:Bool}(hr:live K.N r)(hv:v<K.n):
  Fc zQ 151 #[ptr kp,u32 r,iv (v:Int),.bool e] C (iY kp K S ord af [] (qf e v (S r))):=by
 refine aS λg=>Cn λb1 _ b3 _ b5 _=>?_;refine aa.fq (args:=#[ptr kp,.func (.func 178) #[] #[ptr b1,ptr b3,ptr b5]]) (C:=V8 b5 b3 b1 e v r++C) (DM (f:=qf e v (S r)) hK λK1 C1 cj mo=>⟨_,_,_,rfl,by kernel_rfl,λbq bm hQ=>?_⟩) ?_
 ·intro g;refine BU (R:=aN _) ?_;unfold L178;intro b2 _;refine Ld.q ?_;refine Ld.q ?_;refine Ld.q ?_;have Ea:live K1.N r:=by rw[mo.N];exact hr
  have Ir:∀s,K1.hold s=65535->live K1.N s:=λs hs=>.inr (cj.ok.mid.held s zO);refine aa.fq (args:=#[ptr bq,u32 r,iv (v:Int),.func (.func 179) #[] #[ptr b2,ptr b5]]) (C:=((b2,Obj.cells #[ptr bq] 229 zZ)::V8 b5 b3 b1 e v r)++qW bq kp bm true #[] 0 C1)
   (Ey (zh cj.ok.wf cj.ok.mid.int cj.ok.lv cj.od Ir (e:=e) (.tail _ (.head _)) (.head _)) (λa=>by cases e<;>cases a<;>rfl) (by rw[mo.n];exact hv) cj.ok.wf cj.ok.mid.int cj.ok.lv cj.od Ir Ea hQ (λg hg=>by rw[mo.n]at hg;exact aJ (λg h=>.inr h) hg)) ?_
  rintro w H ⟨x,K',S',made',es',cm,C',ok',rfl,rfl,KV,hA,ho⟩;exact aN.mk .tail ⟨x,K',S',made',es',cm,C',ok',rfl,rfl,KV,hA,ho⟩
 intro w H hO;obtain⟨x,bb,e,rfl⟩:=hO.IZ;exact Ext.mk rfl (Ext.mk rfl (Ext.mk rfl (aN.Ql hO)))
end
section
variable {kp:Nat} {K:Kd} {ord af tr:zL} {C:Hp} {S:Nat->aq.Fn}
theorem Gw(h:br kp K S ord af tr C){r:Nat}(hr:r<4294967296)(hh:2<=r->K.hold r≠0):∀g,L61 g (ptr kp) (u32 r) C (aN λv C'=>v=iv 0/\∃K',br kp K' S ord af [] C'/\tw K K' r):=by
 have h0:=h;obtain⟨b,hC,hO⟩:=h.rep;intro g;unfold L61;refine ae.bf (Br.no λJ2 A4=>?_);have fin:∀(K':Kd) C1,cv kp K' ord af tr C1->Ok K' S (lv af)->Idle K'->tw K K' r->J2 [] C1:=λK' C1 dc wx sw hm=>by
  refine A4 _ λgs=>?_;obtain⟨b',rfl,tW⟩:=dc;refine Nil.ptr (ah.mk (St.one (by exact .head _) rfl (by simp[qQ.cells]) rfl ?_));have jD:Ord K'.n (lv af) ord:=by rw[hm.n];exact h.od
  refine aN.mk (gp:=({b' with vt:=.slice none 0 0,CR:=[]}:qQ).hp kp K'.n) ?_ ⟨rfl,K',⟨⟨{b' with vt:=.slice none 0 0,CR:=[]},rfl,{tW with tr:=aL.nil}⟩,wx,jD,sw,trivial⟩,hm⟩;refine .cons (.cM (.cM (.cM (.cM (.cM (.cM .nil _) _) _) _) _) _)
 refine ae.kG (b:=1) (Br.dec (λh2=>?_) (λh2=>?_));rotate_left
 ·exact JE.mk (fin K C h.rep h.ok h.idle ⟨rfl,rfl,λ_ _ h=>h,λs=>by rw[xad zO]⟩)
 have kF:2<=r:=by omega
 have mQ:=hh kF;obtain⟨d,hd⟩:=h.ok.mid.held r mQ;have UN:=h.ok.mid.fit hd;have FR:=hO.ul;have hfit:r<K.ho.length:=by omega
 have hle:=h.fT r;refine aa.eq (si h.rep hr (λs=>by have:=h.fT s;omega)) (ae.kH (Br.F ?_));subst hC;refine Nil.ptr (ah.mk (Ld.f ?_));refine hO.ho.ld (x:=((K.hold r:Nat):Int)) (bc hfit) (aU.sub (.cons (.app (.app (.app .left))))) (ae.bP (b:=1) (hO.ho.jW (x:=((K.hold r-1:Nat):Int)) (.cons (.app (.app (.app .left)))) (by rw[ag];exact hfit) λMA RI=>?_));rw[er]at RI;have g1:∀s,(K.ho.set r (K.hold r-1)).getD s 0=if s=r then K.hold r-1 else K.hold s:=λs=>fy hfit
 have hM:=h.ok.mid.drop (r:=r) (cg:=K.ho.set r (K.hold r-1)) zO zI (by rw[g1,xae rfl];omega) (λs hs=>by rw[g1,xad hs]);have cj:cv kp {K with ho:=K.ho.set r (K.hold r-1)} ord af tr (({b with CH:=MA}:qQ).hp kp K.n):=⟨_,rfl,{hO with ho:=RI,ul:=by simp;exact FR}⟩;have UI:∀s,(K.ho.set r (K.hold r-1)).getD s 0=if s=r/\2<=r then K.hold s-1 else K.hold s:=λs=>by
  rw[g1];by_cases e:s=r
  ·subst e;rw[xae rfl,xae ⟨rfl,kF⟩]
  rw[xad e,xad (λh=>e h.1)]
 refine Nil.ptr (ah.mk (Ld.f ?_));refine RI.ld (x:=((K.hold r-1:Nat):Int)) (by rw[bc (by simpa using hfit),g1,xae rfl]) (aU.sub (.cons (.app (.app (.app .left))))) (ae.bA (b:=0) (Br.dec (λh3=>?_) (λh3=>?_)));rotate_left
 ·rw[xad zO]at hM;exact JE.mk (fin {K with ho:=K.ho.set r (K.hold r-1)} _ cj ⟨hM,h.ok.pos,h.ok.lv,h.ok.wf⟩ h.idle ⟨rfl,rfl,λ_ _ h=>h,UI⟩)
 rw[xae zO]at hM;refine Nil.ptr (ah.mk ?_);have Ej:gZ {K with ho:=K.ho.set r (K.hold r-1)} S fZ (fB zero' [r]):=hM.congr (λ_=>xdb) λs _=>by
  unfold up fB zero';by_cases e:s=r
  ·subst e;simp
  simp[e,xbp e]
 refine aa.fq (jV (P0:=zero') cj Ej h.ok.pos (λt KZ h0=>?_) (h.bp (.inr ⟨d,hd⟩)) (λs=>by have:=h.Ao s;show K.use s<_;omega)) ?_
 ·by_cases e:t=r
  ·subst e;exact⟨d,hd⟩
  have Td:0<zero' t+[r].count t:=h0;simp[zero',xbp e]at Td
 rintro w C2 ⟨rfl,K2,bN,OC,Uo,_,c9⟩;refine JE.mk (fin K2 _ bN ⟨OC,Uo,by rw[c9.n];exact h.ok.lv,D3 h.ok.wf OC (λh=>c9.N h) c9.n⟩ (c9.idle h.idle) ⟨c9.n,c9.cap,λs e hs=>c9.N hs,λs=>?_⟩);show K2.ho.getD s 0=_;rw[c9.ho];exact UI s
theorem gi(h:br kp K S ord af tr C){r:Nat}(hr:r<4294967296)(hh:2<=r->K.hold r≠0):ZL zQ 61 #[ptr kp,u32 r] C (λv C'=>v=iv 0/\∃K',br kp K' S ord af [] C'/\tw K K' r):=
 λg=>BA (Gw h hr hh g)
end
section
variable {kp:Nat} {K:Kd} {S:Nat->aq.Fn} {ord af tr:zL} {C:Hp}
theorem qT(B:Hp)(x:Nat):Rd zQ 123 #[u32 x,.bool true,iv 0] B (· =.tuple #[u32 x,iv 0]):=by
 exact aS λg=>nP (ae.dz (Br.F (Un.not (Br.no (bX.mk (.refl _) rfl)))))
theorem qU(B:Hp)(x:zV)(b:zV):Rd zQ 123 #[x,b,iv 9] B (· =.tuple #[u32 0,iv 9]):=by
 exact aS λg=>nP (ae.dz (Br.T (bX.mk (.refl _) rfl)))
theorem mu(B:Hp)(x:Nat):Rd zQ 123 #[u32 x,.bool false,iv 0] B (· =.tuple #[u32 0,iv 8]):=by
 exact aS λg=>nP (ae.dz (Br.F (Un.not (Br.yes (bX.mk (.refl _) rfl)))))
theorem uu(hK:br kp K S ord af tr C){v:Nat}(hv:v<K.n):Rd zQ 121 #[ptr kp,iv (v:Int)] C (· =.tuple #[.int .u64 ((2^v:Nat):Int),.bool true]):=by
 have hn:=hK.at'.Ab;refine aS λg=>C7 λJ hJ=>?_;refine ae.lss ?_;rw[xas zO];refine Split.go rfl (ae.vQ (Split.go rfl (aa.eq (fw hK.rep) (ae.pN ?_))));rw[xas zO];refine aB.mk (aB.mk (JE.mk (hJ _ _ λgs=>Br.no ?_)));have h2:2^v<18446744073709551616:=xa2 (xcG zD (show v<64 by omega)) zD;refine ae.Au (a:=1) (by simp[IntKind.bits];omega) (by rw[xbc];simpa[bM]using h2) ?_;rw[xbc];exact bX.mk (.refl _) rfl
theorem py(hK:br kp K S ord af tr C){Y:Hp}{mask:Nat}{vr:zV}{refs:zL}(hm:mask<2^K.n)(hr:cR .u32 Y vr (iw refs))(hl:∀r∈refs,live K.N r)(cO:refs.length<=1048576):Rd zQ 122 #[ptr kp,.int .u64 (mask:Int),vr] (Y++C) (· =iv 0):=by
 have hn:=hK.at'.Ab;refine aS λg=>C6 (ae.bf (Br.no (aa.eq (fw hK.rep) ?_)));have tY:mask<18446744073709551616:=xa2 hm (xav (n:=2) zD hn);refine ae.pg (by simpa[bM]using tY) ?_;rw[xa9,xdw hm];refine ae.dz (Br.F (hr.bH ?_));rw[ag];refine⟨λvs H=>∃i:Nat,vs=[iv (i:Int)]/\i<=refs.length/\H=Y++C,λvs _=>refs.length-bL vs 0,JE.mk ⟨0,rfl,xaK _,rfl⟩,?_⟩;rintro w7 H ⟨i,⟨⟩,hi,rfl⟩ gs;refine ae.fe (Br.dec (λhlt=>?_) (λhlt=>?_))
 ·have hlr:=hl _ (xaB hlt);refine hr.ld (n:=((refs[i]:Nat):Int)) (cc (xab hlt)) (λ_ h=>xac _ h) ?_;refine aa.eq (args:=#[ptr kp,u32 refs[i]]) (gg hK.rep (by have:=hK.bp hlr;omega)) ?_;rw[bF.2 hlr];refine Ext.two λb15 _=>(St.whole (r:=got K.N refs[i]) (by exact .head _) rfl (aF _ _).1 (aF _ _).2 ?_);exact ae.dz (Br.F (ae.inc (az.of .tail ⟨i+1,rfl,hlt,rfl⟩ (by simp only[bL];omega))))
 exact bX.mk (.refl _) rfl
theorem mj.done{f:aq.Fn}{w:zV}{H:Hp}(h:mj kp K S ord af [] f w H):(∃x,w=.tuple #[u32 x,.bool true,iv 0]/\kA kp K S ord af tr f (.tuple #[u32 x,iv 0]) H)\/(w=.tuple #[u32 0,.bool false,iv 9]/\kA kp K S ord af tr f (.tuple #[u32 0,iv 9]) H):=by
 rcases h with⟨x,K',S',C',rfl,rfl,dc,hg⟩|⟨rfl,⟨K',S',C',rfl,dc,hk⟩,hn⟩
 ·exact .inl ⟨x,rfl,.inl ⟨x,K',S',rfl,dc,hg⟩⟩
 exact .inr ⟨rfl,.inr ⟨rfl,⟨K',S',[],dc,.inl rfl,hk⟩,hn⟩⟩
theorem iP{n v:Nat}(hv:v<n):2^v<2^n:=xcG zD hv
theorem rL(hK:br kp K S ord af tr C){r v:Nat}{b:Bool}(hr:live K.N r)(hv:v<K.n):
  Fc zQ 84 #[ptr kp,u32 r,iv (v:Int),.bool b] C (kK kp K S ord af tr (λx=>S r (ax.ay x v b))):=by
 refine aS λg=>GZ (aa.eq (uu hK hv) (Ext.two (ae.vQ (dr.and (a:=true) false (λ_=>Un.not ⟨rfl,rfl⟩) rfl λgs=>Br.no ?_))));refine ai.int (e:=27) zK zK zK λbs=>?_;refine aa.eq (args:=#[ptr kp,.int .u64 ((2^v:Nat):Int),.slice (some ⟨bs,0,none⟩) 1 1]) (py (Y:=[(bs,Obj.cells (au .u32 [(r:Int)]) 27 zZ)]) (refs:=[r]) hK (iP hv) ((aL.made (T:=27) (kd:=.u32) (b:=bs) (iw [r])).ints) (λs hs=>by simp at hs;subst hs;exact hr) (by show 1<=1048576;omega)) (ae.dz (Br.F ?_));refine aa.fq (args:=#[ptr kp,u32 r,iv (v:Int),.bool b]) (jb hK hr hv) ?_;rintro w H (hO|⟨x,rfl,⟨K',S',C',rfl,dc,hk⟩,h2,SQ,Oy⟩);rotate_left
 ·exact Ext.mk rfl (Ext.mk rfl (Ext.mk rfl (aa.eq (mu _ x) (Ext.mk rfl (Ext.mk rfl (aN.mk .tail (.inr ⟨rfl,⟨K',S',[],dc,.inl rfl,hk⟩,x,h2,SQ,Oy⟩)))))))
 rcases hO.done (tr:=tr)with⟨x,rfl,hD⟩|⟨rfl,hD⟩
 ·exact Ext.mk rfl (Ext.mk rfl (Ext.mk rfl (aa.eq (qT _ x) (Ext.mk rfl (Ext.mk rfl (aN.mk .tail (.inl hD)))))))
 exact Ext.mk rfl (Ext.mk rfl (Ext.mk rfl (aa.eq (qU _ _ _) (Ext.mk rfl (Ext.mk rfl (aN.mk .tail (.inl hD)))))))
theorem vP(hK:br kp K S ord af tr C){r v:Nat}{b:Bool}(hr:live K.N r)(hv:v<K.n)(hf:∀s,K.hold s+1<65535):
  Fc zQ 84 #[ptr kp,u32 r,iv (v:Int),.bool b] C (kA kp K S ord af tr (λx=>S r (ax.ay x v b))):=(rL hK hr hv).mono λ_ _ h=>h.small λs=>by have:=hf s;omega
end
theorem Fits.mono{A B:aq.Fn->Prop}{cap:Nat}(h:∀g,A g->B g)(hB:Fits B cap):Fits A cap:=by
 classical
 obtain⟨ku,⟨l,h1,h2,h3⟩,hc⟩:=hB;refine⟨(l.filter λg=>decide (A g)).length,⟨l.filter λg=>decide (A g),h1.filter _,rfl,λg=>?_⟩,?_⟩
 ·rw[xcj,xaO,<-h3];exact⟨λx=>⟨h g x,x⟩,λx=>x.2⟩
 have:=xc2 (λg=>decide (A g)) l;omega
def bitsOf(mask n:Nat):zL:=(List.range n).filter λi=>mask.testBit i
theorem iW(mask n:Nat):bitsOf mask (n+1)=bitsOf mask n++if mask.testBit n then [n]else []:=by
 unfold bitsOf;rw[xcC,xcy,xcb,List.filter_nil]
def vN(e:Bool)(vs:zL)(f:aq.Fn):aq.Fn:=vs.foldl (λg v=>qf e v g) f
theorem Ji(e:Bool)(vs:zL)(v:Nat)(f:aq.Fn):vN e (vs++[v]) f=qf e v (vN e vs f):=by
 unfold vN;rw[List.foldl_append];rfl
section
variable {kp:Nat} {K K':Kd} {S S':Nat->aq.Fn} {ord af dK tr di o:zL} {C C':Hp}
theorem jO{n:Nat}{ord:zL}{f:aq.Fn}(hf:∀v,¬cF f v)(g:aq.Fn):¬aA n ord (λg=>g=f) g:=by
 rintro⟨l,hl,hg,hh⟩;rw[oD (l:=n) (λj _=>hf _) l zO g hg]at hh;exact hf _ hh
theorem dS.Et{K':Kd}{S':Nat->aq.Fn}{f:aq.Fn}{x:Nat}{di:zL}{C':Hp}(h:dS K S K' S' f x)(hK:br kp K S ord af tr C)(dc:br kp K' S' ord af di C'):Fits (aA K.n ord (λg=>K.held S g\/g=f)) K.cap:=by
 have hc:=dc.ok.size dc.od;have hr:=dc.ok.mid.room;have h2:=dc.ok.mid.cap;rw[h.n]at hc;refine Fits.mono (λg hg=>?_) ⟨K'.used-2,hc,by rw[<-h.cap];omega⟩;have old:∀g,K.held S g->K'.held S' g:=λg ⟨s,hs,e⟩=>⟨s,by show K'.hold s≠0;have:K.hold s≠0:=hs;rw[h.hold];omega,by rw[h.fn s (.inr (hK.ok.mid.held s hs)),e]⟩;by_cases h2:2<=x
 ·refine aJ (λg hg=>?_) hg;rcases hg with hg|rfl
  ·exact old g hg
  exact⟨x,by show K'.hold x≠0;rw[h.hold,xae ⟨rfl,h2⟩];omega,h.is.symm⟩
 rcases(ik g).1 hg with hg|hg
 ·exact aJ old hg
 refine absurd hg (jO (λv=>?_) g);rintro⟨y,hy⟩;rw[<-h.is]at hy;have hi:=dc.ok.mid.int;obtain rfl|rfl:x=0\/x=1:=by omega
 ·exact hy (by rw[hi.zero,hi.zero])
 exact hy (by rw[hi.one,hi.one])
theorem r5(hK:br kp K S ord af tr C){r:Nat}(hl:live K.N r):2<=r↔∃v,cF (S r) v:=by
 constructor
 ·intro h2;obtain⟨d,hd⟩:∃d,K.N r=some d:=by
   rcases hl with hl|hl
   ·omega
   exact hl
  exact⟨d.v,iq hK.ok.wf hK.ok.lv hK.ok.mid.int hd⟩
 rintro⟨v,y,hy⟩;have hi:=hK.ok.mid.int;by_cases h2:2<=r
 ·exact h2
 exfalso;obtain rfl|rfl:r=0\/r=1:=by omega
 ·exact hy (by rw[hi.zero,hi.zero])
 exact hy (by rw[hi.one,hi.one])
end
section
variable {kp:Nat} {K:Kd} {S:Nat->aq.Fn} {ord af tr:zL} {C:Hp}
def fW(kp:Nat)(K:Kd)(S:Nat->aq.Fn)(ord af tr:zL)(e:Bool)(mask r:Nat)(w:zV)(H:Hp):Prop:=
 (∃x K' S',w=.tuple #[u32 x,iv 0]/\br kp K' S' ord af [] H/\dS K S K' S' (vN e (bitsOf mask K.n) (S r)) x)\/
 (w=.tuple #[u32 0,iv 9]/\(∃K' S' di,br kp K' S' ord af di H/\(di=[]\/di=tr)/\Kept K S K' S')/\∃i,i<K.n/\mask.testBit i=true/\¬Fits (aA K.n ord (λg=>(K.held S g\/(bitsOf mask i≠[]/\g=vN e (bitsOf mask i) (S r)))\/g=qf e i (vN e (bitsOf mask i) (S r)))) K.cap)
def iF(kp:Nat)(K:Kd)(S:Nat->aq.Fn)(ord af tr:zL)(e:Bool)(mask r:Nat)(w:zV)(H:Hp):Prop:=
 fW kp K S ord af tr e mask r w H\/(w=.tuple #[u32 0,iv 8]/\(∃K' S' di,br kp K' S' ord af di H/\(di=[]\/di=tr)/\Kept K S K' S')/\
  ((mask=0/\2<=r/\K.hold r=65535)\/∃i x,i<K.n/\mask.testBit i=true/\2<=x/\live K.N x/\S x=qf e i (vN e (bitsOf mask i) (S r))/\65534<=K.hold x/\((bitsOf mask i≠[]/\S x=vN e (bitsOf mask i) (S r))\/K.hold x=65535)))
structure Way(K:Kd)(S:Nat->aq.Fn)(K1:Kd)(S1:Nat->aq.Fn)(ch:Bool)(cur:Nat):Prop where
 n:K1.n=K.n
 cap:K1.cap=K.cap
 N:∀s d,K.N s=some d->K1.N s=some d
 fn:∀s,live K.N s->S1 s=S s
 live:live K1.N cur
 hold:∀s,K1.hold s=K.hold s+if ch=true/\s=cur/\2<=cur then 1 else 0
def Sq(K:Kd)(S:Nat->aq.Fn)(ord:zL)(e:Bool)(mask r i:Nat):Prop:=Fits (aA K.n ord (λg=>(K.held S g\/(bitsOf mask i≠[]/\g=vN e (bitsOf mask i) (S r)))\/g=qf e i (vN e (bitsOf mask i) (S r)))) K.cap
def My(K:Kd)(S:Nat->aq.Fn)(e:Bool)(mask r i:Nat):Prop:=∃x,2<=x/\live K.N x/\S x=qf e i (vN e (bitsOf mask i) (S r))/\65534<=K.hold x/\((bitsOf mask i≠[]/\S x=vN e (bitsOf mask i) (S r))\/K.hold x=65535)
def zJ(K:Kd)(S:Nat->aq.Fn)(ord:zL)(e:Bool)(mask r i:Nat):Prop:=∀j,j<i->mask.testBit j=true->Sq K S ord e mask r j/\¬My K S e mask r j
def zG(kp:Nat)(K:Kd)(S:Nat->aq.Fn)(ord af tr:zL)(e:Bool)(mask r:Nat)(w:zV)(H:Hp):Prop:=
 (∃x K' S',w=.tuple #[u32 x,iv 0]/\br kp K' S' ord af [] H/\dS K S K' S' (vN e (bitsOf mask K.n) (S r)) x/\(mask=0->¬(2<=r/\K.hold r=65535))/\zJ K S ord e mask r K.n)\/
 (w=.tuple #[u32 0,iv 9]/\(∃K' S' di,br kp K' S' ord af di H/\(di=[]\/di=tr)/\Kept K S K' S')/\∃i,i<K.n/\mask.testBit i=true/\¬Sq K S ord e mask r i/\zJ K S ord e mask r i)\/
 (w=.tuple #[u32 0,iv 8]/\(∃K' S' di,br kp K' S' ord af di H/\(di=[]\/di=tr)/\Kept K S K' S')/\((mask=0/\2<=r/\K.hold r=65535)\/∃i,i<K.n/\mask.testBit i=true/\My K S e mask r i/\zJ K S ord e mask r i))
theorem zG.full{e:Bool}{mask r:Nat}{w:zV}{H:Hp}(h:zG kp K S ord af tr e mask r w H):iF kp K S ord af tr e mask r w H:=by
 rcases h with⟨x,K',S',e1,h1,h2,_⟩|⟨e1,h1,i,hi,hb,hf,_⟩|⟨e1,h1,h2|⟨i,hi,hb,⟨x,a,b,c,d,f⟩,_⟩⟩
 ·exact .inl (.inl ⟨x,K',S',e1,h1,h2⟩)
 ·exact .inl (.inr ⟨e1,h1,i,hi,hb,hf⟩)
 ·exact .inr ⟨e1,h1,.inl h2⟩
 exact .inr ⟨e1,h1,.inr ⟨i,x,hi,hb,a,b,c,d,f⟩⟩
theorem LC(hK:br kp K S ord af tr C){r mask:Nat}{e:Bool}(hr:live K.N r)(hm:mask<2^K.n):
  Fc zQ 125 #[ptr kp,u32 r,.int .u64 (mask:Int),.bool e] C (zG kp K S ord af tr e mask r):=by
 have hn:=hK.at'.Ab;have tY:mask<18446744073709551616:=xa2 hm (xav (n:=2) zD hn);have nV:∀s,K.hold s≠0->live K.N s:=λs hs=>.inr (hK.ok.mid.held s hs);refine aS λg=>CY (ai.int (e:=27) zK zK zK λbs=>?_);refine aa.eq (args:=#[ptr kp,.int .u64 (mask:Int),.slice (some ⟨bs,0,none⟩) 1 1]) (py (Y:=[(bs,Obj.cells (au .u32 [(r:Int)]) 27 zZ)]) (refs:=[r]) hK hm ((aL.made (T:=27) (kd:=.u32) (b:=bs) (iw [r])).ints) (λs hs=>by simp at hs;subst hs;exact hr) (by show 1<=1048576;omega)) (ae.dz (Br.F ?_));refine ae.bA (b:=0) (Br.dec (λh0=>?_) (λh0=>?_))
 ·subst h0;by_cases hfr:2<=r/\K.hold r=65535
  ·exact aa.eq (args:=#[ptr kp,u32 r]) (pF hK hr hfr.1 hfr.2) (ae.dz (Br.T (aN.mk .tail (.inr (.inr ⟨rfl,⟨K,S,tr,hK,.inr rfl,.refl K S⟩,.inl ⟨rfl,hfr.1,hfr.2⟩⟩)))))
  refine aa.fq (args:=#[ptr kp,u32 r]) (mE hK (r:=r) hr (λh2=>by have:=hK.fT r;omega)) ?_;rintro w C1 ⟨rfl,K1,cj,mo⟩;refine ae.dz (Br.F (aN.mk .tail (.inl ⟨r,K1,S,rfl,cj,⟨mo.n,mo.cap,λs d hd=>by rw[mo.N];exact hd,λ_ _=>rfl,by rw[mo.N];exact hr,?_,λs=>by rw[mo.hold];split<;>omega⟩,λ_=>hfr,λj hj hb=>by rw[xcc]at hb;cases hb⟩)));have:bitsOf 0 K.n=[]:=by unfold bitsOf;rw[xcY];intro a _;simp
  rw[this];rfl
 refine aa.eq (fw hK.rep) ?_;refine⟨λvs H=>∃(i cur:Nat) (ch:Bool) (K1:Kd) (S1:Nat->aq.Fn) (C1:Hp) (IU:zL),vs=[u32 cur,.bool ch,iv (i:Int)]/\i<=K.n/\H=(bs,Obj.cells (au .u32 [(r:Int)]) 27 zZ)::C1/\br kp K1 S1 ord af IU C1/\
   (ch=decide (bitsOf mask i≠[]))/\S1 cur=vN e (bitsOf mask i) (S r)/\Way K S K1 S1 ch cur/\(ch=true->IU=[])/\zJ K S ord e mask r i,λvs _=>K.n-bL vs 2,
  JE.mk ⟨0,r,false,K,S,C,tr,rfl,xaK _,rfl,hK,rfl,rfl,⟨rfl,rfl,λ_ _ h=>h,λ_ _=>rfl,hr,λs=>by rw[xad (λh=>by cases h.1)];rfl⟩,(λh=>by cases h),λj hj=>absurd hj (xcg _)⟩,?_⟩
 rintro w16 w17 w18 H ⟨i,cur,ch,K1,S1,C1,IU,hvs,hi,rfl,cj,iU,gw,hw,ot,hD⟩ gs;simp only[xau,xaY]at hvs;obtain⟨rfl,rfl,rfl⟩:=hvs;refine ae.fe (Br.dec (λhlt=>?_) (λhlt=>?_));rotate_left
 ·obtain rfl:i=K.n:=by omega
  have hne:bitsOf mask K.n≠[]:=λhb=>h0 (by
   apply xa3;intro j;rw[xcc];by_cases hj:j<K.n
   ·cases ht:mask.testBit j with
    |false=>rfl
    |true=>
     have:j∈bitsOf mask K.n:=xcj.2 ⟨xaV.2 hj,ht⟩;rw[hb]at this;cases this
   exact xbJ (xa2 hm (xav zD zO)))
  have hct:ch=true:=by rw[iU];exact xaA hne
  rw[ot hct]at cj;exact aN.mk .tail (.inl ⟨cur,K1,S1,rfl,cj,⟨hw.n,hw.cap,hw.N,hw.fn,hw.live,gw,λs=>by rw[hw.hold];simp[hct]⟩,λh=>absurd h h0,hD⟩)
 intro J hJ;refine ae.pg (by simpa[bM]using tY) (ae.oX (b:=1) (by have:mask>>>i<=mask:=xcp _ _;simp[bM];omega) (by simp[bM]) ?_);have RR:(mask>>>i) &&&1=(mask.testBit i).toNat:=by
  rw[xdM,xdy,xa9];have:mask/2^i%2<2:=xaZ _ zD;by_cases h:mask/2^i%2=1
  ·simp[h]
  have:mask/2^i%2=0:=by omega
  simp[this]
 rw[RR];refine ae.bA (b:=0) ?_;cases ht:mask.testBit i with
 |false=>
  refine Br.T (JE.mk (hJ _ _ _ λgs=>?_));refine ae.inc ?_;have eb:bitsOf mask (i+1)=bitsOf mask i:=by rw[iW,ht];simp
  exact az.mk ⟨i+1,cur,ch,K1,S1,C1,IU,rfl,hlt,rfl,cj,by rw[eb];exact iU,by rw[eb];exact gw,hw,ot,λj hj hb=>by
    rcases xdl.1 hj with h|rfl
    ·exact hD j h hb
    rw[ht]at hb;cases hb⟩ (by simp only[bL];omega)
 |true=>
  refine Br.F ?_;have eb:bitsOf mask (i+1)=bitsOf mask i++[i]:=by rw[iW,ht];simp
  have tU:∀s,K1.hold s≠0->live K1.N s:=λs hs=>.inr (cj.ok.mid.held s hs);refine aa.fq (args:=#[ptr kp,u32 cur,iv (i:Int),.bool e]) (tJ cj hw.live (by rw[hw.n];exact hlt)) ?_;rintro w H ((⟨x,K2,S2,C2,rfl,rfl,bN,hg⟩|⟨rfl,⟨K2,S2,C2,rfl,bN,hk⟩,hno⟩)|⟨x,rfl,⟨K2,S2,C2,rfl,bN,hk⟩,Iv,SQ,Oy⟩)
  ·refine Ext.mk rfl (Ext.mk rfl (Ext.mk rfl (aa.eq (qT _ x) (Ext.two λSn Vv=>?_))));have Zo:∀s,live K.N s->S2 s=S s:=λs hs=>(hg.fn s (aW hw.N hs)).trans (hw.fn s hs);have hnew:Sq K S ord e mask r i/\¬My K S e mask r i:=by
    constructor
    ·have h3:=hg.Et cj bN;rw[hw.n,hw.cap,gw]at h3;refine Fits.mono (λg MK=>?_) h3;have old:∀g,K.held S g->K1.held S1 g:=λg ⟨s,hs,e⟩=>⟨s,by show K1.hold s≠0;have:K.hold s≠0:=hs;rw[hw.hold];omega,e.trans (hw.fn s (nV s hs)).symm⟩;by_cases h2:2<=cur
     ·refine aJ (λg hh=>hh.imp (λhh=>?_) id) MK;rcases hh with hh|⟨hb,rfl⟩
      ·exact old g hh
      exact⟨cur,by show K1.hold cur≠0;rw[hw.hold,xae ⟨by rw[iU];exact xaA hb,rfl,h2⟩];omega,gw.symm⟩
     rcases(ik g).1 MK with MK|MK
     ·rcases(ik g).1 MK with MK|MK
      ·exact aJ (λg hh=>.inl (old g hh)) MK
      refine absurd (aJ (λg hh=>hh.2) MK) (jO (λv hv=>h2 ?_) g);rw[<-gw]at hv;exact(r5 cj hw.live).2 ⟨v,hv⟩
     exact aJ (λg hh=>.inr hh) MK
    rintro⟨x',kF,hl',KV,mQ,XX⟩;obtain rfl:x'=x:=bN.ok.wf.same bN.ok.lv bN.ok.mid.int (aW hg.N (aW hw.N hl')) hg.live λy=>by rw[Zo x' hl',KV,hg.is,gw]
    have h1:=hg.hold x';rw[xae ⟨rfl,kF⟩,hw.hold]at h1;have h3:=bN.fT x';rcases XX with⟨hb,hp⟩|hp
    ·have hxc:x'=cur:=cj.ok.wf.same cj.ok.lv cj.ok.mid.int (aW hw.N hl') hw.live λy=>by rw[hw.fn x' hl',hp,gw]
     rw[xae ⟨by rw[iU];exact xaA hb,hxc,by omega⟩]at h1;omega
    split at h1<;>omega
   have hD':zJ K S ord e mask r (i+1):=λj hj hb=>by
    rcases xdl.1 hj with h|rfl
    ·exact hD j h hb
    exact hnew
   have go:∀K3 C3,br kp K3 S2 ord af [] C3->Way K S K3 S2 true x->Sn [] ((bs,Obj.cells (au .u32 [(r:Int)]) 27 zZ)::C3):=λK3 C3 fG NX=>by
    refine Vv _ λgs=>?_;refine ae.dz (Br.F (JE.mk (hJ _ _ _ λgs=>?_)));exact ae.inc (az.mk ⟨i+1,x,true,K3,S2,C3,[],rfl,hlt,rfl,fG,by rw[eb];exact(xaA zI).symm,by rw[hg.is,eb,Ji,gw],NX,λ_=>rfl,hD'⟩ (by simp only[bL];omega))
   cases ch with
   |false=>
    refine Br.no (JE.mk (go K2 H bN ⟨hg.n.trans hw.n,hg.cap.trans hw.cap,λs d hd=>hg.N s d (hw.N s d hd),Zo,hg.live,λs=>?_⟩));have a:=hw.hold s;rw[xad (λh=>by cases h.1)]at a;rw[hg.hold,a];simp
   |true=>
    have hlc:=hw.live;have UY:2<=cur->K2.hold cur≠0:=λh2=>by rw[hg.hold,hw.hold,xae ⟨rfl,rfl,h2⟩];omega
    refine Br.yes (aa.fq (args:=#[ptr kp,u32 cur]) (ki bN (r:=cur) (by have:=cj.bp hlc;omega) UY) ?_);rintro w C3 ⟨rfl,K3,fG,f3⟩;have fh:∀s,K3.hold s=K.hold s+if s=x/\2<=x then 1 else 0:=λs=>by
     have a:=hw.hold s;simp only[xb1]at a;rw[f3.hold,hg.hold,a];split<;>split<;>omega
    refine JE.mk (go K3 C3 fG ⟨by rw[f3.n,hg.n,hw.n],by rw[f3.cap,hg.cap,hw.cap],λs d hs=>ir hK.ok fG.ok (λs h=>by rw[fh];omega) (λs d d' h h'=>?_) _ s d hs (xak _),Zo,?_,λs=>by rw[fh];simp⟩)
    ·have a:=f3.N s d' h';rw[hg.N s d (hw.N s d h)]at a;exact(xbt a).symm
    by_cases h2:x<2
    ·exact .inl h2
    refine .inr (fG.ok.mid.held x ?_);rw[fh,xae ⟨rfl,by omega⟩];omega
  ·refine Ext.mk rfl (Ext.mk rfl (Ext.mk rfl (aa.eq (qU _ _ _) (Ext.two λSn Vv=>?_))));have iT:∀g,K1.held S1 g->K.held S g\/(bitsOf mask i≠[]/\g=vN e (bitsOf mask i) (S r)):=by
    rintro g ⟨s,hs,rfl⟩;have hs':K1.hold s≠0:=hs;by_cases hz:K.hold s=0
    ·right;rw[hw.hold,hz]at hs';by_cases hx:ch=true/\s=cur/\2<=cur
     ·refine⟨?_,by rw[hx.2.1];exact gw⟩;have:=hx.1;rw[iU]at this;exact xbK this
     rw[xad hx]at hs';omega
    exact .inl ⟨s,hz,hw.fn s (nV s hz)⟩
   have yp:¬Fits (aA K.n ord (λg=>(K.held S g\/(bitsOf mask i≠[]/\g=vN e (bitsOf mask i) (S r)))\/g=qf e i (vN e (bitsOf mask i) (S r)))) K.cap:=λhfit=>hno (by
    rw[hw.n,hw.cap,gw];exact Fits.mono (λg hg=>aJ (λg h=>h.imp (iT g) id) hg) hfit)
   have go:∀K3 C3 tB,br kp K3 S2 ord af tB C3->tB=[]->(∀s,K3.hold s=K.hold s)->K3.n=K2.n->K3.cap=K2.cap->Sn [] ((bs,Obj.cells (au .u32 [(r:Int)]) 27 zZ)::C3):=λK3 C3 tB fG D9 ow Rz U0=>by
    refine Vv _ λgs=>?_;refine ae.dz (Br.T ?_);have hfn:∀s,K.hold s≠0->S2 s=S s:=λs hs=>(hk.fn s (by rw[hw.hold];omega)).trans (hw.fn s (nV s hs));refine aN.mk .tail (.inr (.inl ⟨rfl,⟨K3,S2,tB,fG,.inl D9,⟨by rw[Rz,hk.n,hw.n],by rw[U0,hk.cap,hw.cap],ow,λg=>?_,hfn⟩⟩,i,hlt,ht,yp,hD⟩));constructor
    ·rintro⟨s,hs,rfl⟩;have hs':K.hold s≠0:=by rw[<-ow];exact hs
     exact⟨s,hs',hfn s hs'⟩
    rintro⟨s,hs,rfl⟩;exact⟨s,by show K3.hold s≠0;rw[ow];exact hs,(hfn s hs).symm⟩
   cases ch with
   |false=>
    refine Br.no (JE.mk (go K2 H [] bN rfl (λs=>?_) rfl rfl));rw[hk.hold,hw.hold,xad (λh=>by cases h.1)];rfl
   |true=>
    have UY:2<=cur->K2.hold cur≠0:=λh2=>by rw[hk.hold,hw.hold,xae ⟨rfl,rfl,h2⟩];omega
    refine Br.yes (aa.fq (args:=#[ptr kp,u32 cur]) (ki bN (r:=cur) (by have:=cj.bp hw.live;omega) UY) ?_);rintro w C3 ⟨rfl,K3,fG,f3⟩;refine JE.mk (go K3 C3 [] fG rfl (λs=>?_) f3.n f3.cap);have a:=hw.hold s;simp only[xb1]at a;rw[f3.hold,hk.hold,a];split<;>omega
  refine Ext.mk rfl (Ext.mk rfl (Ext.mk rfl (aa.eq (mu _ x) (Ext.two λSn Vv=>?_))));have qL:live K.N x:=nV x (by have:=hw.hold x;split at this<;>omega);have KU:S x=qf e i (vN e (bitsOf mask i) (S r)):=by rw[<-gw,<-Oy];exact(hw.fn x qL).symm
  have Yn:65534<=K.hold x/\((bitsOf mask i≠[]/\S x=vN e (bitsOf mask i) (S r))\/K.hold x=65535):=by
   have:=hw.hold x;by_cases hx:ch=true/\x=cur/\2<=cur
   ·rw[xae hx]at this;refine⟨by omega,.inl ⟨?_,?_⟩⟩
    ·have h1:=hx.1;rw[iU]at h1;exact xbK h1
    rw[<-gw,<-hx.2.1];exact(hw.fn x qL).symm
   rw[xad hx]at this;exact⟨by omega,.inr zO⟩
  have go:∀K3 C3 tB,br kp K3 S2 ord af tB C3->tB=[]->(∀s,K3.hold s=K.hold s)->K3.n=K2.n->K3.cap=K2.cap->Sn [] ((bs,Obj.cells (au .u32 [(r:Int)]) 27 zZ)::C3):=λK3 C3 tB fG D9 ow Rz U0=>by
   refine Vv _ λgs=>?_;refine ae.dz (Br.T ?_);have hfn:∀s,K.hold s≠0->S2 s=S s:=λs hs=>(hk.fn s (by rw[hw.hold];omega)).trans (hw.fn s (nV s hs));refine aN.mk .tail (.inr (.inr ⟨rfl,⟨K3,S2,tB,fG,.inl D9,⟨by rw[Rz,hk.n,hw.n],by rw[U0,hk.cap,hw.cap],ow,λg=>?_,hfn⟩⟩,.inr ⟨i,hlt,ht,⟨x,Iv,qL,KU,Yn⟩,hD⟩⟩));constructor
   ·rintro⟨s,hs,rfl⟩;have hs':K.hold s≠0:=by rw[<-ow];exact hs
    exact⟨s,hs',hfn s hs'⟩
   rintro⟨s,hs,rfl⟩;exact⟨s,by show K3.hold s≠0;rw[ow];exact hs,(hfn s hs).symm⟩
  cases ch with
  |false=>
   refine Br.no (JE.mk (go K2 H [] bN rfl (λs=>?_) rfl rfl));rw[hk.hold,hw.hold,xad (λh=>by cases h.1)];rfl
  |true=>
   have UY:2<=cur->K2.hold cur≠0:=λh2=>by rw[hk.hold,hw.hold,xae ⟨rfl,rfl,h2⟩];omega
   refine Br.yes (aa.fq (args:=#[ptr kp,u32 cur]) (ki bN (r:=cur) (by have:=cj.bp hw.live;omega) UY) ?_);rintro w C3 ⟨rfl,K3,fG,f3⟩;refine JE.mk (go K3 C3 [] fG rfl (λs=>?_) f3.n f3.cap);have a:=hw.hold s;simp only[xb1]at a;rw[f3.hold,hk.hold,a];split<;>omega
end
section
variable {kp:Nat} {K:Kd} {S:Nat->aq.Fn} {ord af tr:zL} {C:Hp}
theorem fW.two{e:Bool}{mask r:Nat}{w:zV}{H:Hp}(h:fW kp K S ord af tr e mask r w H):∃x y,w=.tuple #[x,y]:=by
 rcases h with⟨x,K',S',rfl,_⟩|⟨rfl,_⟩
 ·exact⟨_,_,rfl⟩
 exact⟨_,_,rfl⟩
theorem iF.two{e:Bool}{mask r:Nat}{w:zV}{H:Hp}(h:iF kp K S ord af tr e mask r w H):∃x y,w=.tuple #[x,y]:=by
 rcases h with h|⟨rfl,_⟩
 ·exact h.two
 exact⟨_,_,rfl⟩
theorem iF.small{e:Bool}{mask r:Nat}{w:zV}{H:Hp}(h:iF kp K S ord af tr e mask r w H)(hf:∀s,K.hold s+2<65535):fW kp K S ord af tr e mask r w H:=by
 rcases h with h|⟨_,_,⟨_,_,h⟩|⟨_,x,_,_,_,_,_,h,_⟩⟩
 ·exact h
 ·have:=hf r;omega
 have:=hf x;omega
theorem Ly(hK:br kp K S ord af tr C){r mask:Nat}(hr:live K.N r)(hm:mask<2^K.n):
  Fc zQ 85 #[ptr kp,u32 r,.int .u64 (mask:Int)] C (zG kp K S ord af tr true mask r):=by
 refine aS λg=>GY (aa.fq (LC hK hr hm) ?_);intro w H hO;obtain⟨x,y,rfl⟩:=hO.full.two;exact Ext.mk rfl (Ext.mk rfl (aN.here hO))
theorem yX(hK:br kp K S ord af tr C){r mask:Nat}(hr:live K.N r)(hm:mask<2^K.n):
  Fc zQ 85 #[ptr kp,u32 r,.int .u64 (mask:Int)] C (iF kp K S ord af tr true mask r):=(Ly hK hr hm).mono λ_ _ h=>h.full
theorem Lm(hK:br kp K S ord af tr C){r mask:Nat}(hr:live K.N r)(hm:mask<2^K.n):
  Fc zQ 86 #[ptr kp,u32 r,.int .u64 (mask:Int)] C (zG kp K S ord af tr false mask r):=by
 refine aS λg=>GX (aa.fq (LC hK hr hm) ?_);intro w H hO;obtain⟨x,y,rfl⟩:=hO.full.two;exact Ext.mk rfl (Ext.mk rfl (aN.here hO))
theorem yQ(hK:br kp K S ord af tr C){r mask:Nat}(hr:live K.N r)(hm:mask<2^K.n):
  Fc zQ 86 #[ptr kp,u32 r,.int .u64 (mask:Int)] C (iF kp K S ord af tr false mask r):=(Lm hK hr hm).mono λ_ _ h=>h.full
theorem Gq(hK:br kp K S ord af tr C){r mask:Nat}(hr:live K.N r)(hm:mask<2^K.n)(hf:∀s,K.hold s+2<65535):
  Fc zQ 85 #[ptr kp,u32 r,.int .u64 (mask:Int)] C (fW kp K S ord af tr true mask r):=(yX hK hr hm).mono λ_ _ h=>h.small hf
theorem Gi(hK:br kp K S ord af tr C){r mask:Nat}(hr:live K.N r)(hm:mask<2^K.n)(hf:∀s,K.hold s+2<65535):
  Fc zQ 86 #[ptr kp,u32 r,.int .u64 (mask:Int)] C (fW kp K S ord af tr false mask r):=(yQ hK hr hm).mono λ_ _ h=>h.small hf
theorem Bn{n v:Nat}(hv:v<n):bitsOf (2^v) n=[v]/\bitsOf (2^v) v=[]:=by
 have h0:bitsOf (2^v) v=[]:=by
  unfold bitsOf;rw[xcY];intro a ha;have:=xaV.1 ha;simp[xb5];omega
 refine⟨?_,h0⟩;have key:∀k,v+1+k<=n->bitsOf (2^v) (v+1+k)=[v]:=by
  intro k;induction k with
  |zero=>intro _;rw[xbS,iW,h0];simp[xb5]
  |succ k ih=>
   intro hk;rw[<-xdt,iW,ih zO];have:¬v=v+1+k:=by omega
   simp[xb5,this]
 have:=key (n-(v+1)) zO;rwa [show v+1+(n-(v+1))=n by omega]at this
theorem fW.one{e:Bool}{v r:Nat}{w:zV}{H:Hp}(hv:v<K.n)(h:fW kp K S ord af tr e (2^v) r w H):kA kp K S ord af tr (qf e v (S r)) w H:=by
 obtain⟨e1,e2⟩:=Bn hv;rcases h with⟨x,K',S',rfl,dc,hg⟩|⟨rfl,hk,i,hi,ht,hno⟩
 ·rw[e1]at hg;exact .inl ⟨x,K',S',rfl,dc,hg⟩
 have:i=v:=by
  rw[xb5]at ht;exact(xbK ht).symm
 subst this;rw[e2]at hno;exact .inr ⟨rfl,hk,λhfit=>hno (Fits.mono (λg hg=>aJ (λg h=>h.elim (λh=>h.elim .inl λh=>absurd rfl h.1) .inr) hg) hfit)⟩
def ru(kp:Nat)(K:Kd)(S:Nat->aq.Fn)(ord af tr:zL)(lo hi f:aq.Fn)(w:zV)(H:Hp):Prop:=
 (∃x K' S',w=.tuple #[u32 x,iv 0]/\br kp K' S' ord af [] H/\dS K S K' S' f x)\/
 (w=.tuple #[u32 0,iv 9]/\(∃K' S' di,br kp K' S' ord af di H/\(di=[]\/di=tr)/\Kept K S K' S')/\
  (¬Fits (aA K.n ord (λg=>K.held S g\/g=lo)) K.cap\/¬Fits (aA K.n ord (λg=>(K.held S g\/g=lo)\/g=hi)) K.cap\/¬Fits (aA K.n ord (λg=>((K.held S g\/g=lo)\/g=hi)\/g=f)) K.cap))
def One(p:Prop)(a:Nat):Prop:=(a=1/\p)\/(a=0/\¬p)
def zW(kp:Nat)(K:Kd)(S:Nat->aq.Fn)(ord af tr:zL)(lo hi f:aq.Fn)(w:zV)(H:Hp):Prop:=
 ru kp K S ord af tr lo hi f w H\/(w=.tuple #[u32 0,iv 8]/\(∃K' S' di,br kp K' S' ord af di H/\(di=[]\/di=tr)/\Kept K S K' S')/\
  ∃x,2<=x/\live K.N x/\((S x=lo/\K.hold x=65535)\/(∃a,One (S x=lo) a/\S x=hi/\K.hold x+a=65535)\/(∃a b,One (S x=lo) a/\One (S x=hi) b/\S x=f/\K.hold x+a+b=65535)))
theorem dS.one{K':Kd}{S':Nat->aq.Fn}{f:aq.Fn}{x:Nat}{di:zL}{C':Hp}(h:dS K S K' S' f x)(dc:br kp K' S' ord af di C'){s:Nat}(hs:aq.live K.N s)(h2:2<=s):∃a,One (S s=f) a/\K'.hold s=K.hold s+a:=by
 have hfn:=h.fn s hs;by_cases e:s=x
 ·exact⟨1,.inl ⟨rfl,by rw[<-hfn,e];exact h.is⟩,by rw[h.hold,xae ⟨e,by omega⟩]⟩
 refine⟨0,.inr ⟨rfl,λhf=>e ?_⟩,by rw[h.hold,xad (λh=>e h.1)]⟩;exact dc.ok.wf.same dc.ok.lv dc.ok.mid.int (aW h.N hs) h.live λy=>by rw[hfn,hf,h.is]
def Sz(K:Kd)(S:Nat->aq.Fn)(ord:zL)(lo:aq.Fn):Prop:=Fits (aA K.n ord (λg=>K.held S g\/g=lo)) K.cap
def V0(K:Kd)(S:Nat->aq.Fn)(ord:zL)(lo hi:aq.Fn):Prop:=Fits (aA K.n ord (λg=>(K.held S g\/g=lo)\/g=hi)) K.cap
def CF3(K:Kd)(S:Nat->aq.Fn)(ord:zL)(lo hi f:aq.Fn):Prop:=Fits (aA K.n ord (λg=>((K.held S g\/g=lo)\/g=hi)\/g=f)) K.cap
def Sv(K:Kd)(S:Nat->aq.Fn)(lo:aq.Fn):Prop:=∃x,2<=x/\live K.N x/\S x=lo/\K.hold x=65535
def VY(K:Kd)(S:Nat->aq.Fn)(lo hi:aq.Fn):Prop:=∃x a,2<=x/\live K.N x/\One (S x=lo) a/\S x=hi/\K.hold x+a=65535
def CU3(K:Kd)(S:Nat->aq.Fn)(lo hi f:aq.Fn):Prop:=∃x a b,2<=x/\live K.N x/\One (S x=lo) a/\One (S x=hi) b/\S x=f/\K.hold x+a+b=65535
def Mz(kp:Nat)(K:Kd)(S:Nat->aq.Fn)(ord af tr:zL)(lo hi f:aq.Fn)(w:zV)(H:Hp):Prop:=
 (∃x K' S',w=.tuple #[u32 x,iv 0]/\br kp K' S' ord af [] H/\dS K S K' S' f x/\(Sz K S ord lo/\¬Sv K S lo)/\(V0 K S ord lo hi/\¬VY K S lo hi)/\CF3 K S ord lo hi f/\¬CU3 K S lo hi f)\/
 (w=.tuple #[u32 0,iv 9]/\(∃K' S' di,br kp K' S' ord af di H/\(di=[]\/di=tr)/\Kept K S K' S')/\
  (¬Sz K S ord lo\/((Sz K S ord lo/\¬Sv K S lo)/\¬V0 K S ord lo hi)\/((Sz K S ord lo/\¬Sv K S lo)/\(V0 K S ord lo hi/\¬VY K S lo hi)/\¬CF3 K S ord lo hi f)))\/
 (w=.tuple #[u32 0,iv 8]/\(∃K' S' di,br kp K' S' ord af di H/\(di=[]\/di=tr)/\Kept K S K' S')/\
  (Sv K S lo\/((Sz K S ord lo/\¬Sv K S lo)/\VY K S lo hi)\/((Sz K S ord lo/\¬Sv K S lo)/\(V0 K S ord lo hi/\¬VY K S lo hi)/\CU3 K S lo hi f)))
theorem Mz.full{lo hi f:aq.Fn}{w:zV}{H:Hp}(h:Mz kp K S ord af tr lo hi f w H):zW kp K S ord af tr lo hi f w H:=by
 rcases h with⟨x,K',S',e,h1,h2,_⟩|⟨e,h1,h2⟩|⟨e,h1,h2⟩
 ·exact .inl (.inl ⟨x,K',S',e,h1,h2⟩)
 ·exact .inl (.inr ⟨e,h1,h2.imp id λh=>h.imp (λh=>h.2) λh=>h.2.2⟩)
 refine .inr ⟨e,h1,?_⟩;rcases h2 with⟨x,a,b,c⟩|⟨_,x,a,h2,hl,c⟩|⟨_,_,x,a,b,h2,hl,c⟩
 ·exact⟨x,a,b,.inl c⟩
 ·exact⟨x,h2,hl,.inr (.inl ⟨a,c⟩)⟩
 exact⟨x,h2,hl,.inr (.inr ⟨a,b,c⟩)⟩
theorem One.uniq{p:Prop}{a b:Nat}(h:One p a)(h':One p b):a=b:=by
 rcases h with⟨rfl,h⟩|⟨rfl,h⟩<;>rcases h' with⟨rfl,h'⟩|⟨rfl,h'⟩
 ·rfl
 ·exact absurd h h'
 ·exact absurd h' h
 rfl
theorem dS.vU{K':Kd}{S':Nat->aq.Fn}{f:aq.Fn}{x:Nat}{di:zL}{C':Hp}(h:dS K S K' S' f x)(dc:br kp K' S' ord af di C'){s:Nat}(hs:aq.live K.N s)(h2:2<=s)(hf:S s=f):K.hold s<65535:=by
 obtain rfl:s=x:=dc.ok.wf.same dc.ok.lv dc.ok.mid.int (aW h.N hs) h.live λy=>by rw[h.fn s hs,hf,h.is]
 have h1:=h.hold s;rw[xae ⟨rfl,h2⟩]at h1;have:=dc.fT s;omega
theorem dS.more{K':Kd}{S':Nat->aq.Fn}{f:aq.Fn}{x:Nat}{di:zL}{C':Hp}{P:aq.Fn->Prop}(h:dS K S K' S' f x)(hK:br kp K S ord af tr C)(dc:br kp K' S' ord af di C')(hF:Fits (aA K'.n ord (λg=>K'.held S' g\/P g)) K'.cap):Fits (aA K.n ord (λg=>(K.held S g\/g=f)\/P g)) K.cap:=by
 rw[h.n,h.cap]at hF;refine Fits.mono (λg hg=>?_) hF;have old:∀g,K.held S g->K'.held S' g:=λg ⟨s,hs,e⟩=>⟨s,by show K'.hold s≠0;have:K.hold s≠0:=hs;rw[h.hold];omega,e.trans (h.fn s (.inr (hK.ok.mid.held s hs))).symm⟩;by_cases h2:2<=x
 ·refine aJ (λg hh=>hh.imp (λhh=>?_) id) hg;rcases hh with hh|rfl
  ·exact old g hh
  exact⟨x,by show K'.hold x≠0;rw[h.hold,xae ⟨rfl,h2⟩];omega,h.is.symm⟩
 rcases(ik g).1 hg with hg|hg
 ·rcases(ik g).1 hg with hg|hg
  ·exact aJ (λg hh=>.inl (old g hh)) hg
  refine absurd hg (jO (λv hv=>h2 ?_) g);rw[<-h.is]at hv;exact(r5 dc h.live).2 ⟨v,hv⟩
 exact aJ (λg hh=>.inr hh) hg
theorem Sd(hK:br kp K S ord af tr C){r v h:Nat}(hr:live K.N r)(hv:v<K.n)(hh:live K.N h):
  Fc zQ 87 #[ptr kp,u32 r,iv (v:Int),u32 h] C (Mz kp K S ord af tr (λx=>S r (ax.ay x v false)) (λx=>S r (ax.ay x v true)) (λx=>if S h x then S r (ax.ay x v true)else S r (ax.ay x v false))):=by
 have uP:1<=2^K.n:=xbE;have nV:∀s,K.hold s≠0->live K.N s:=λs hs=>.inr (hK.ok.mid.held s hs);refine aS λg=>GW (aa.eq (uu hK hv) (Ext.two (ae.vQ (dr.and (a:=true) false (λ_=>Un.not ⟨rfl,rfl⟩) rfl λgs=>Br.no ?_))));refine ai.JW (e:=27) zK zK zK λbs=>?_;refine aa.rq (args:=#[ptr kp,.int .u64 ((2^v:Nat):Int),.slice (some ⟨bs,0,none⟩) 2 2]) (py (Y:=[(bs,Obj.cells (au .u32 [(r:Int),(h:Int)]) 27 zZ)]) (refs:=[r,h]) hK (iP hv) ((aL.made (T:=27) (kd:=.u32) (b:=bs) (iw [r,h])).ints) (λs hs=>by
  simp only[xaf,xao,xaQ]at hs;rcases hs with rfl|rfl
  ·exact hr
  exact hh) (by show 2<=1048576;omega)) ?_
 rintro w rfl;refine ae.dz (Br.F (aa.fq (args:=#[ptr kp,u32 r,iv (v:Int),.bool false]) (jb hK hr hv) ?_));rintro w H (hO|⟨x,rfl,⟨K1,S1,C1,rfl,cj,hk⟩,Iv,SQ,Oy⟩);rotate_left
 ·exact Ext.mk rfl (Ext.mk rfl (Ext.mk rfl (aa.eq (mu _ x) (Ext.two (ae.dz (Br.T (aN.mk .tail (.inr (.inr ⟨rfl,⟨K1,S1,[],cj,.inl rfl,hk⟩,.inl ⟨x,Iv,nV x zO,Oy,SQ⟩⟩)))))))))
 rcases hO with⟨x1,K1,S1,C1,rfl,rfl,cj,g1⟩|⟨rfl,⟨K1,S1,C1,rfl,cj,hk⟩,hno⟩;rotate_left
 ·exact Ext.mk rfl (Ext.mk rfl (Ext.mk rfl (aa.eq (qU _ _ _) (Ext.two (ae.dz (Br.T (aN.mk .tail (.inr (.inl ⟨rfl,⟨K1,S1,[],cj,.inl rfl,hk⟩,.inl hno⟩)))))))))
 refine Ext.mk rfl (Ext.mk rfl (Ext.mk rfl (aa.eq (qT _ x1) (Ext.two (ae.dz (Br.F ?_))))));have p1:Sz K S ord (λx=>S r (ax.ay x v false))/\¬Sv K S (λx=>S r (ax.ay x v false)):=⟨g1.Et hK cj,λ⟨x,h2,hl,hx,h5⟩=>by have:=g1.vU cj hl h2 hx;omega⟩;have Ea:=aW g1.N hr;have e1:S1 r=S r:=g1.fn r hr;have tU:=aW g1.N hh;have l1:=g1.live;have dO:=g1.hold;have Kw:∀g,K1.held S1 g->K.held S g\/g=λx=>S r (ax.ay x v false):=g1.held nV;refine aa.fq (args:=#[ptr kp,u32 r,iv (v:Int),.bool true]) (jb cj Ea (by rw[g1.n];exact hv)) ?_;intro w H hO;rw[e1]at hO;rcases hO with(⟨x2,K2,S2,C2,rfl,rfl,bN,g2⟩|⟨rfl,⟨K2,S2,C2,rfl,bN,hk⟩,hno⟩)|⟨x,rfl,⟨K2,S2,C2,rfl,bN,hk⟩,Iv,SQ,Oy⟩;rotate_left
 ·refine Ext.mk rfl (Ext.mk rfl (Ext.mk rfl (aa.eq (qU _ _ _) (Ext.two (ae.dz (Br.T (dL.fn (args:=#[ptr kp,u32 x1]) (.cons .here) (gi bN (r:=x1) (by have:=cj.bp l1;omega) (λh2=>by rw[hk.hold,dO,xae ⟨rfl,h2⟩];omega)) ?_)))))));rintro w C3 ⟨rfl,K3,fG,f3⟩;have ow:∀s,K3.hold s=K.hold s:=λs=>by
   rw[f3.hold,hk.hold,dO];split<;>omega
  have hfn:∀s,K.hold s≠0->S2 s=S s:=λs hs=>(hk.fn s (by rw[dO];omega)).trans (g1.fn s (nV s hs));refine aN.mk .tail (.inr (.inl ⟨rfl,⟨K3,S2,[],fG,.inl rfl,⟨by rw[f3.n,hk.n,g1.n],by rw[f3.cap,hk.cap,g1.cap],ow,λg=>?_,hfn⟩⟩,.inr (.inl ⟨p1,λhfit=>hno ?_⟩)⟩))
  ·constructor
   ·rintro⟨s,hs,rfl⟩;have hs':K.hold s≠0:=by rw[<-ow];exact hs
    exact⟨s,hs',hfn s hs'⟩
   rintro⟨s,hs,rfl⟩;exact⟨s,by show K3.hold s≠0;rw[ow];exact hs,(hfn s hs).symm⟩
  rw[g1.n,g1.cap];exact Fits.mono (λg hg=>aJ (λg h=>h.imp (Kw g) id) hg) hfit
 ·refine Ext.mk rfl (Ext.mk rfl (Ext.mk rfl (aa.eq (mu _ x) (Ext.two (ae.dz (Br.T ?_))))));have qL:live K.N x:=nV x (by have:=dO x;split at this<;>omega);obtain⟨a,ha,hka⟩:=g1.one cj qL Iv;have KU:S x=λx=>S r (ax.ay x v true):=by rw[<-Oy];exact(g1.fn x qL).symm
  refine dL.fn (args:=#[ptr kp,u32 x1]) (.cons .here) (gi bN (r:=x1) (by have:=cj.bp l1;omega) (λh2=>by rw[hk.hold,dO,xae ⟨rfl,h2⟩];omega)) ?_;rintro w C3 ⟨rfl,K3,fG,f3⟩;have ow:∀s,K3.hold s=K.hold s:=λs=>by
   rw[f3.hold,hk.hold,dO];split<;>omega
  have hfn:∀s,K.hold s≠0->S2 s=S s:=λs hs=>(hk.fn s (by rw[dO];omega)).trans (g1.fn s (nV s hs));refine aN.mk .tail (.inr (.inr ⟨rfl,⟨K3,S2,[],fG,.inl rfl,⟨by rw[f3.n,hk.n,g1.n],by rw[f3.cap,hk.cap,g1.cap],ow,λg=>?_,hfn⟩⟩,.inr (.inl ⟨p1,x,a,Iv,qL,ha,KU,by omega⟩)⟩));constructor
  ·rintro⟨s,hs,rfl⟩;have hs':K.hold s≠0:=by rw[<-ow];exact hs
   exact⟨s,hs',hfn s hs'⟩
  rintro⟨s,hs,rfl⟩;exact⟨s,by show K3.hold s≠0;rw[ow];exact hs,(hfn s hs).symm⟩
 refine Ext.mk rfl (Ext.mk rfl (Ext.mk rfl (aa.eq (qT _ x2) (Ext.two (ae.dz (Br.F ?_))))));have g2i:=g2.is;have p2:V0 K S ord (λx=>S r (ax.ay x v false)) (λx=>S r (ax.ay x v true))/\¬VY K S (λx=>S r (ax.ay x v false)) (λx=>S r (ax.ay x v true)):=⟨g1.more hK cj (g2.Et cj bN),λ⟨x,a,h2,hl,ha,hx,h5⟩=>by
  obtain⟨a',cL,e⟩:=g1.one cj hl h2;have:=ha.uniq cL;have:=g2.vU bN (aW g1.N hl) h2 (by rw[g1.fn x hl,hx]);omega⟩
 have xe:=aW g2.N tU;have l12:=aW g2.N l1;have l2:=g2.live;have eL:=g2.hold;have XY:∀s,K1.hold s≠0->live K1.N s:=λs hs=>.inr (cj.ok.mid.held s hs);have RJ:∀g,K2.held S2 g->(K.held S g\/g=λx=>S r (ax.ay x v false))\/g=λx=>S r (ax.ay x v true):=λg hg=>(g2.held XY g hg).imp (Kw g) id;have eh:S2 h=S h:=(g2.fn h tU).trans (g1.fn h hh);have ex1:S2 x1=λx=>S r (ax.ay x v false):=(g2.fn x1 l1).trans g1.is;have KA:∀s,live K.N s->S2 s=S s:=λs hs=>(g2.fn s (aW g1.N hs)).trans (g1.fn s hs);refine aa.fq (args:=#[ptr kp,u32 h,u32 x2,u32 x1]) (vj bN xe l2 l12) ?_;intro w H hO;rw[eh,ex1,g2.is]at hO;rcases hO with(⟨x3,K3,S3,rfl,fG,g3⟩|⟨rfl,⟨K3,S3,tB,fG,_,hk⟩,hno⟩)|⟨rfl,⟨K3,S3,tB,fG,_,hk⟩,x,Iv,SQ,Oy⟩
 ·apply Ext.two;have fh:=g3.hold;refine dL.fn (args:=#[ptr kp,u32 x2]) (.cons .here) (gi fG (r:=x2) (by have:=bN.bp l2;omega) (λh2=>by rw[fh,eL,xae ⟨rfl,h2⟩];omega)) ?_;rintro w C4 ⟨rfl,K4,Gb,f4⟩;have kE:∀s,K4.hold s=K1.hold s+if s=x3/\2<=x3 then 1 else 0:=λs=>by
   rw[f4.hold,fh,eL];split<;>split<;>omega
  refine dL.fn (args:=#[ptr kp,u32 x1]) (.cons .here) (gi Gb (r:=x1) (by have:=cj.bp l1;omega) (λh2=>by rw[kE,dO,xae ⟨rfl,h2⟩];omega)) ?_;rintro w C5 ⟨rfl,K5,Ek,f5⟩;have lJ:∀s,K5.hold s=K.hold s+if s=x3/\2<=x3 then 1 else 0:=λs=>by
   rw[f5.hold,kE,dO];split<;>split<;>omega
  have qL:live K5.N x3:=by
   by_cases h2:x3<2
   ·exact .inl h2
   refine .inr (Ek.ok.mid.held x3 ?_);rw[lJ,xae ⟨rfl,by omega⟩];omega
  have Yp:∀s,live K.N s->S3 s=S s:=λs hs=>(g3.fn s (aW g2.N (aW g1.N hs))).trans (KA s hs);refine aN.mk .tail (.inl ⟨x3,K5,S3,rfl,Ek,⟨by rw[f5.n,f4.n,g3.n,g2.n,g1.n],by rw[f5.cap,f4.cap,g3.cap,g2.cap,g1.cap],λs d hs=>ir hK.ok Ek.ok (λs h=>by rw[lJ];omega) (λs d d' h h'=>?_) _ s d hs (xak _),Yp,qL,g3.is,lJ⟩,p1,p2,?_,?_⟩);rotate_left
  ·have h3:=g2.more cj bN (P:=λg=>g=λx=>if S h x then S r (ax.ay x v true)else S r (ax.ay x v false)) (g3.Et bN fG);have h4:=g1.more hK cj (P:=λg=>(g=λx=>S r (ax.ay x v true))\/g=λx=>if S h x then S r (ax.ay x v true)else S r (ax.ay x v false)) (Fits.mono (λg hg=>aJ (λg h=>or_assoc.2 h) hg) h3);exact Fits.mono (λg hg=>aJ (λg h=>or_assoc.1 h) hg) h4
  ·rintro⟨x,a,b,h2,hl,ha,hb,hx,h5⟩;obtain⟨a',cL,e1⟩:=g1.one cj hl h2;obtain⟨b',hb',e2⟩:=g2.one bN (aW g1.N hl) h2;rw[g1.fn x hl]at hb';have:=ha.uniq cL;have:=hb.uniq hb';have:=g3.vU fG (aW g2.N (aW g1.N hl)) h2 (by rw[KA x hl,hx]);omega
  have a:=f4.N s d' (f5.N s d' h');rw[g3.N s d (g2.N s d (g1.N s d h))]at a;exact(xbt a).symm
 ·apply Ext.two;have fh:=hk.hold;refine dL.fn (args:=#[ptr kp,u32 x2]) (.cons .here) (gi fG (r:=x2) (by have:=bN.bp l2;omega) (λh2=>by rw[fh,eL,xae ⟨rfl,h2⟩];omega)) ?_;rintro w C4 ⟨rfl,K4,Gb,f4⟩;have kE:∀s,K4.hold s=K1.hold s:=λs=>by
   rw[f4.hold,fh,eL];split<;>omega
  refine dL.fn (args:=#[ptr kp,u32 x1]) (.cons .here) (gi Gb (r:=x1) (by have:=cj.bp l1;omega) (λh2=>by rw[kE,dO,xae ⟨rfl,h2⟩];omega)) ?_;rintro w C5 ⟨rfl,K5,Ek,f5⟩;have lJ:∀s,K5.hold s=K.hold s:=λs=>by
   rw[f5.hold,kE,dO];split<;>omega
  have hfn:∀s,K.hold s≠0->S3 s=S s:=λs hs=>(hk.fn s (by rw[eL,dO];omega)).trans (KA s (nV s hs));refine aN.mk .tail (.inr (.inl ⟨rfl,⟨K5,S3,[],Ek,.inl rfl,⟨by rw[f5.n,f4.n,hk.n,g2.n,g1.n],by rw[f5.cap,f4.cap,hk.cap,g2.cap,g1.cap],lJ,λg=>?_,hfn⟩⟩,.inr (.inr ⟨p1,p2,λhfit=>hno ?_⟩)⟩))
  ·constructor
   ·rintro⟨s,hs,rfl⟩;have hs':K.hold s≠0:=by rw[<-lJ];exact hs
    exact⟨s,hs',hfn s hs'⟩
   rintro⟨s,hs,rfl⟩;exact⟨s,by show K5.hold s≠0;rw[lJ];exact hs,(hfn s hs).symm⟩
  rw[g2.n,g2.cap,g1.n,g1.cap];exact Fits.mono (λg hg=>aJ (λg h=>h.imp (RJ g) id) hg) hfit
 apply Ext.two;have fh:=hk.hold;have qL:live K.N x:=nV x (by have:=eL x;have:=dO x;split at* <;>split at* <;>omega);obtain⟨a,ha,hka⟩:=g1.one cj qL Iv;obtain⟨b,hb,hkb⟩:=g2.one bN (aW g1.N qL) Iv;rw[g1.fn x qL]at hb;have KU:S x=λx=>if S h x then S r (ax.ay x v true)else S r (ax.ay x v false):=by rw[<-Oy];exact(KA x qL).symm
 refine dL.fn (args:=#[ptr kp,u32 x2]) (.cons .here) (gi fG (r:=x2) (by have:=bN.bp l2;omega) (λh2=>by rw[fh,eL,xae ⟨rfl,h2⟩];omega)) ?_;rintro w C4 ⟨rfl,K4,Gb,f4⟩;have kE:∀s,K4.hold s=K1.hold s:=λs=>by
  rw[f4.hold,fh,eL];split<;>omega
 refine dL.fn (args:=#[ptr kp,u32 x1]) (.cons .here) (gi Gb (r:=x1) (by have:=cj.bp l1;omega) (λh2=>by rw[kE,dO,xae ⟨rfl,h2⟩];omega)) ?_;rintro w C5 ⟨rfl,K5,Ek,f5⟩;have lJ:∀s,K5.hold s=K.hold s:=λs=>by
  rw[f5.hold,kE,dO];split<;>omega
 have hfn:∀s,K.hold s≠0->S3 s=S s:=λs hs=>(hk.fn s (by rw[eL,dO];omega)).trans (KA s (nV s hs));refine aN.mk .tail (.inr (.inr ⟨rfl,⟨K5,S3,[],Ek,.inl rfl,⟨by rw[f5.n,f4.n,hk.n,g2.n,g1.n],by rw[f5.cap,f4.cap,hk.cap,g2.cap,g1.cap],lJ,λg=>?_,hfn⟩⟩,.inr (.inr ⟨p1,p2,x,a,b,Iv,qL,ha,hb,KU,by omega⟩)⟩));constructor
 ·rintro⟨s,hs,rfl⟩;have hs':K.hold s≠0:=by rw[<-lJ];exact hs
  exact⟨s,hs',hfn s hs'⟩
 rintro⟨s,hs,rfl⟩;exact⟨s,by show K5.hold s≠0;rw[lJ];exact hs,(hfn s hs).symm⟩
theorem GA(hK:br kp K S ord af tr C){r v h:Nat}(hr:live K.N r)(hv:v<K.n)(hh:live K.N h):
  Fc zQ 87 #[ptr kp,u32 r,iv (v:Int),u32 h] C (zW kp K S ord af tr (λx=>S r (ax.ay x v false)) (λx=>S r (ax.ay x v true)) (λx=>if S h x then S r (ax.ay x v true)else S r (ax.ay x v false))):=(Sd hK hr hv hh).mono λ_ _ h=>h.full
theorem OY(hK:br kp K S ord af tr C){r v h:Nat}(hr:live K.N r)(hv:v<K.n)(hh:live K.N h)(hB:∀s,K.hold s+2+2^K.n<=65535):
  Fc zQ 87 #[ptr kp,u32 r,iv (v:Int),u32 h] C (ru kp K S ord af tr (λx=>S r (ax.ay x v false)) (λx=>S r (ax.ay x v true)) (λx=>if S h x then S r (ax.ay x v true)else S r (ax.ay x v false))):=(GA hK hr hv hh).mono λ_ _ h=>by
 have uP:1<=2^K.n:=xbE;rcases h with h|⟨_,_,x,_,_,h⟩
 ·exact h
 have hx:=hB x;rcases h with⟨_,h⟩|⟨a,ha,_,h⟩|⟨a,b,ha,hb,_,h⟩
 ·omega
 ·rcases ha with⟨rfl,_⟩|⟨rfl,_⟩<;>omega
 rcases ha with⟨rfl,_⟩|⟨rfl,_⟩<;>rcases hb with⟨rfl,_⟩|⟨rfl,_⟩<;>omega
end
end
section
theorem xk{n:Nat}(hn:n<=16)(B:Hp):Rd zQ 89 #[iv (n:Int)] B (· =iv ((ax.wN n:Nat):Int)):=by
 refine aS λg=>GU ?_;have h1:1<<<n<=65536:=by rw[xbc];exact xav (n:=2) zD hn
 refine ae.Au (a:=1) (b:=n) (by simp[IntKind.bits];omega) (by simp[bM];omega) (ae.pg (b:=6) (by simp[bM];omega) (⟨_,_,_,rfl,rfl,?_⟩));refine bX.mk (.refl _) ?_;have:1<<<n>>>6=2^n/64:=by rw[xbc,xa9]
 rw[this];congr 1;unfold ax.wN;rw[Nat.max_def];split<;>split<;>omega
theorem En{n:Nat}(hn:n<=16)(B:Hp):Rd zQ 90 #[iv (n:Int)] B (· =.int .u64 ((ax.cU n:Nat):Int)):=by
 refine aS λg=>GS (ae.pN (a:=n) (b:=6) (Br.dec (λh=>?_) (λh=>?_)))
 ·exact bX.mk (.refl _) (by unfold ax.cU;rw[xae h];rfl)
 have h1:2^n<=32:=xav (n:=2) zD (by omega:n<=5);have h2:2^2^n<=2^32:=xav zD h1;have h3:=xb4 (2^n);refine ae.As (a:=1) (b:=n) ?_;rw[xbc,xbv zO];refine ae.As (a:=1) ?_;rw[xbc,xbv zO];exact ae.bP (b:=1) (bX.mk (.refl _) (by unfold ax.cU;rw[xad h]))
theorem FK{n:Nat}{ws:zL}(hn:n<=16)(hl:ws.length=ax.wN n)(hw:∀w∈ws,w<18446744073709551616){w:Nat}(hg:ws[ws.length-1]? =some w):
  (nM w (ax.cU n)=0)↔ax.dZ n ws:=by
 have key:∀w,w<18446744073709551616->(nM w (ax.cU n)=0↔w<=ax.cU n):=by
  intro w hw;constructor
  ·intro h;have:w&&&ax.cU n=w:=by
    apply xa3;intro j;have:=xbL (λx=>x.testBit j) h;simp only[dj,xcc]at this;rw[xbI];cases h1:w.testBit j<;>cases h2:(ax.cU n).testBit j<;>simp_all
   rw[<-this];exact xcN
  intro h;have:=ax.sW h;unfold nM;rw[this,Nat.xor_self]
 constructor
 ·intro h;refine⟨hn,hl,λu hu=>?_⟩;by_cases h6:6<=n
  ·unfold ax.cU;rw[xae h6];have:=hw u hu;omega
  have h1:ws.length=1:=by rw[hl,ax.Dy zO]
  obtain⟨x,rfl⟩:=List.length_eq_one_iff.1 h1;simp at hg hu;subst hg;subst hu;exact(key _ (hw _ zI)).1 h
 intro h;exact(key w (hw w (xax hg))).2 (h.full w (xax hg))
theorem yP{B:Hp}{v:zV}{t:Tb}(ht:Bx B v t):Rd zQ 116 #[v] B (· =.bool (decide (TF t))):=by
 obtain⟨tn,ws⟩:=t;obtain⟨s,rfl,hs,hw⟩:=ht;simp only at hs hw⊢;refine aS λg=>De λb1 _ J hJ=>?_;have hno:¬TF ⟨tn,ws⟩->JE J [.bool true] ((b1,.cells (Value.cells (.agg #[iv tn,s])) 30 zZ)::B):=λh=>
  JE.mk (hJ _ _ λgs=>Br.yes (bX.mk .tail (by rw[xas h])))
 refine DR.self ?_;refine ah.mk (Ld.mk zM rfl ?_);refine ae.lss (Br.dec (λh0=>hno λh=>by have:=h.1;simp only at this;omega) (λh0=>?_));obtain⟨n,rfl⟩:∃n:Nat,tn=n:=⟨tn.toNat,by omega⟩;have YO:TF ⟨(n:Int),ws⟩↔ax.dZ n ws:=by unfold TF;simp
 refine ah.mk (Ld.mk zM rfl ?_);refine ae.kG (b:=16) (aB.mk (Br.dec (λh1=>hno λh=>by have:=(YO.1 h).Ac;omega) (λh1=>?_)));refine ah.mk (Ld.mk zM rfl ?_);refine hs.bH ?_;refine ah.mk (Ld.mk zM rfl ?_);intro F;refine aa.eq (xk zO B) (⟨(by repeat (first|exact aG.refl _|apply aG.cons|apply aG.skip|apply aG.cM|apply aG.eE)),?_⟩);rw[ag];refine ae.nU (aB.mk ?_);simp only[xam];by_cases hl:ws.length=ax.wN n
 case neg=>rw[show decide (ws.length≠ax.wN n)=true by simp[hl]];exact hno λh=>hl (YO.1 h).len
 rw[show decide (ws.length≠ax.wN n)=false by simp[hl]];refine JE.mk (hJ _ _ λgs=>Br.no ?_);have hpos:=ax.Qw n;obtain⟨w,hg⟩:∃w,ws[ws.length-1]? =some w:=⟨_,xab zO⟩;refine DR.self ?_;refine ah.mk (Ld.mk zM rfl ?_);refine ah.mk (Ld.mk zM rfl ?_);refine hs.bH ?_;rw[ag];refine ae.tH (b:=1) (by have:=ax.rz (n:=n) zO;simp[bM];omega) zO (hs.ld (cc hg) zS ?_);refine ah.mk (Ld.mk zM rfl ?_);refine aa.eq (En zO B) (⟨(by repeat (first|exact aG.refl _|apply aG.cons|apply aG.skip|apply aG.cM|apply aG.eE)),?_⟩);refine ae.Md (by have:=hw w (xax hg);simpa[bM]using this) (by have:=ax.oC n;simpa[bM]using this) (ae.bA (b:=0) (bX.mk .tail ?_));congr 1;exact xdZ.2 ((FK zO hl hw hg).trans YO.symm)
theorem sG{B:Hp}{v:zV}{ts:List Tb}(ht:gA B v ts)(cO:ts.length<2^62):Rd zQ 76 #[v] B (· =.bool (decide (∀t∈ts,TF t/\some t.n=ts.head?.map Tb.n))):=by
 refine aS λg=>G7 (ht.bH ?_);refine⟨λvs H=>bh B H/\∃k:Nat,vs=[iv (k:Int)]/\k<=ts.length/\∀i t,i<k->ts[i]? =some t->TF t/\some t.n=ts.head?.map Tb.n,λvs _=>ts.length-bL vs 0,JE.mk ⟨.refl _,0,rfl,by omega,by omega⟩,?_⟩;rintro w H ⟨hg,k,⟨⟩,hk,aI⟩ gs;refine ae.fe (Br.dec (λhlt=>?_) (λhlt=>?_))
 ·obtain⟨t,kQ⟩:∃t,ts[k]? =some t:=⟨_,xab hlt⟩;obtain⟨t0,N9⟩:∃t,ts[0]? =some t:=⟨_,xab zO⟩;have hh:ts.head?.map Tb.n=some t0.n:=by rw[List.head?_eq_getElem?,N9];rfl
  have Uf:=ht.mono hg.sub;refine Uf.ld kQ (λ_ h=>h) λs hs=>?_;intro b1 _;refine St.p ?_ ?_
  ·obtain⟨a,c,rfl,_⟩:=hs.1.shape;simp[Value.oneCell']
  intro J hJ;have hno:∀H',bh B H'->¬(TF t/\some t.n=ts.head?.map Tb.n)->JE J [.bool true] H':=λH' RK h=>
   JE.mk (hJ _ _ λgs=>Br.yes (bX.mk RK.cS (by rw[xas];exact λhh=>h (hh t (xax kQ)))))
  have P4:bh B ((b1,Obj.cells (List.toArray [iv t.n,s]) 30 zZ)::H):=.cons hg;refine DR.self (av.q ?_);intro F;refine aa.eq (B:=H) (yP ⟨s,rfl,hs⟩) (⟨.refl _,Un.not ?_⟩);by_cases hT:TF t
  case neg=>rw[xas hT];exact Br.yes (hno _ P4 λh=>hT h.1)
  rw[xaA hT];apply Br.no;refine ah.mk (Ld.mk zM rfl ?_);refine Uf.Xt N9 zS ?_;refine ae.dz (aB.mk ?_);simp only[xam];by_cases hn:t.n=t0.n
  case neg=>rw[xaA hn];exact hno _ P4 λh=>hn (by have:=h.2;rw[hh]at this;simpa using this)
  rw[xas (by simpa using hn)];refine JE.mk (hJ _ _ λgs=>Br.no ?_);refine ae.inc (az.mk ⟨P4,k+1,rfl,by omega,λi u hi hu=>?_⟩ (by simp[bL];omega));by_cases e:i=k
  ·subst e;rw[kQ]at hu;cases hu;exact⟨hT,by rw[hh,hn]⟩
  exact aI i u zO hu
 refine bX.mk hg.cS ?_;rw[xaA];intro t XK;obtain⟨i,hi,rfl⟩:=xbg.1 XK;exact aI i _ zO (xab hi)
theorem sH{B:Hp}{b:Nat}{t:Tb}{s:zV}{T:TypeId}{fz:Nat×Nat}(hm:(b,Obj.cells #[iv t.n,s] T fz)∈B)(hw:Words B s t.ws):
  Rd zQ 76 #[.slice (some ⟨b,0,none⟩) 1 1] B (· =.bool (decide (TF t))):=
 (sG (gA.one (cap:=0) hm hw) zI).mono λv H ⟨h1,h2⟩=>⟨h1,by rw[h2];congr 1;simp⟩
theorem TU{B:Hp}{v:zV}{t:Tb}(ht:Bx B v t)(u:Int):Rd zQ 119 #[v,iv u] B (· =iv (if TF t then(if 0<=u/\u<t.n then 0 else 2)else 5)):=by
 obtain⟨s,rfl,hw⟩:=ht;refine aS λg=>Db λb1 _=>?_;refine av.q ?_;refine oN λb2=>?_;refine aa.rd .here (sH (by exact List.Mem.head _) (hw.mono zS)) ?_;rintro v rfl;apply Un.not;by_cases hT:TF t
 ·rw[xaA hT,xae hT];refine Br.no (ae.lss (dr.or (decide (t.n<=u)) (λh=>?_) rfl ?_))
  ·refine ah.mk (Ld.mk zM rfl ?_);exact ae.geq ⟨rfl,rfl⟩
  intro gs;have XX:(decide (u<0)||decide (t.n<=u))=decide (¬(0<=u/\u<t.n)):=by
   by_cases h1:u<0<;>by_cases h2:t.n<=u<;>simp[h1,h2]<;>omega
  rw[XX];refine Br.dec (λh=>?_) (λh=>?_)
  ·exact bX.mk (by repeat (first|exact aG.refl _|apply aG.cons|apply aG.skip|apply aG.cM|apply aG.eE)) (by rw[xad h])
  exact bX.mk (by repeat (first|exact aG.refl _|apply aG.cons|apply aG.skip|apply aG.cM|apply aG.eE)) (by rw[xae (Classical.not_not.1 h)])
 rw[xas hT,xad hT];exact Br.yes (bX.mk (by repeat (first|exact aG.refl _|apply aG.cons|apply aG.skip|apply aG.cM|apply aG.eE)) rfl)
theorem u7{u i:Nat}(hu:u<64)(hi:i<18446744073709551616)(Ed:i<9223372036854775808)(B:Hp):Rd zQ 75 #[iv (u:Int),iv (i:Int)] B
  (· =.int .u64 ((if 6<=u then(if(i>>>(u-6)).testBit 0 then 18446744073709551615 else 0)else ax.mask u:Nat):Int)):=by
 refine aS λg=>G8 (ae.pN (a:=u) (b:=6) (Br.dec (λh=>?_) (λh=>?_)))
 ·refine aO.nat (by simpa[bM]using hi) (ae.tH (b:=6) (by simp[bM];omega) h (ae.pg (by simpa[bM]using hi) ?_));have hs:i>>>(u-6)<18446744073709551616:=xaR (xcp _ _) hi;refine ae.oX (b:=1) (by simpa[bM]using hs) zD (Un.Xn (by rw[ax.fO];split<;>decide) ?_);refine bX.mk (.refl _) ?_;rw[xae h,ax.fO];split<;>rfl
 refine⟨λvs H=>H=B/\∃j:Nat,vs=[.int .u64 ((ax.wM u j:Nat):Int),iv (j:Int)]/\j<=64,λvs _=>64-bL vs 1,JE.mk ⟨rfl,0,rfl,by omega⟩,?_⟩;rintro w1 w2 H ⟨rfl,j,⟨⟩,hj⟩ gs;refine ae.fe (b:=64) (Br.dec (λhlt=>?_) (λhlt=>?_))
 ·refine ae.pg (by simp[bM];omega) ?_;have hs:j>>>u<64:=xaR (xcp _ _) hlt;refine ae.oX (b:=1) (by simp[bM];omega) zD ?_;have h1:j>>>u&&&1<=1:=by rw[ax.fO];split<;>decide
  refine aO.q (ae.As ?_);have h2:((j>>>u&&&1)<<<j)<18446744073709551616:=by
   rw[xc8]
   calc _<=1*2^j:=xa4 _ h1
    _<2^64:=by rw[xd5];exact xcG zD hlt
  rw[xbv h2];have h3:ax.wM u j<18446744073709551616:=xa2 (ax.wL u j) (xav (n:=2) zD hj);exact ae.SC (by simpa[bM]using h3) (by simpa[bM]using h2) (ae.inc (az.mk ⟨rfl,j+1,rfl,by omega⟩ (by simp[bL];omega)))
 have:j=64:=by omega
 subst this;exact bX.mk (.refl _) (by rw[xad h];rfl)
theorem mD{n:Nat}(hn:n<=16){fv:zV}{f:FuncId}{first cap:Array zV}(Kz:fv=.func (.func f) first cap)(fU:bg zQ f=true){F:Nat->Nat}(hF:∀i,i<ax.wN n->F i<18446744073709551616){B:Hp}
 (hc:∀i:Nat,i<ax.wN n->Rd zQ f (first++ #[iv (i:Int)]++cap) B (· =.int .u64 ((F i:Nat):Int))):
  Px zQ 42 #[iv (n:Int),fv] B (λv H=>Bx H v ⟨n,(List.range (ax.wN n)).map λi=>F i&&&ax.cU n⟩):=by
 intro g;have Wf:=ax.rz hn;refine HH (R:=aN _) ?_;unfold L42;intro b1 _;refine aa.eq (xk hn B) (cW.ints (jh hn).1 (jh hn).2 λbw=>?_);refine Build.mk (cs:=[iv (n:Int),.slice (some ⟨bw,0,none⟩) (ax.wN n) (ax.wN n)]) zK λb8 _=>?_;refine St.q ?_;refine ah.mk (Ld.mk zM rfl ?_);refine aX.mk ?_;rw[range_zero (G:=λi=>F i&&&ax.cU n)];refine⟨λvs H=>∃i:Nat,vs=[iv (i:Int)]/\i<=ax.wN n/\H=(b8,.cells (List.toArray [iv (n:Int),.slice (some ⟨bw,0,none⟩) (ax.wN n) (ax.wN n)]) 30 zZ)::
   (bw,.cells (au .u64 (iw ((List.range (ax.wN n)).map λk=>if k<i then F k&&&ax.cU n else 0))) 55 zZ)::(b1,.cells #[iv 0,.slice none 0 0] 30 zZ)::B,
  λvs _=>ax.wN n-bL vs 0,JE.mk ⟨0,rfl,by omega,rfl⟩,?_⟩
 rintro w H ⟨i,⟨⟩,hi,rfl⟩ gs;refine ae.fe (Br.dec (λhlt=>?_) (λhlt=>?_))
 ·refine DR.self ?_;refine ah.mk (Ld.mk zM rfl ?_);refine bQ.of Kz fU ?_;refine aa.eq (hc i hlt) (⟨.refl _,?_⟩);refine aa.eq (En hn B) (⟨.refl _,?_⟩);refine ae.oX (by simpa[bM]using hF i hlt) (by simpa[bM]using ax.oC n) (aj.nat hlt ?_);refine St.ints (l:=iw _) (by exact .tail (.head _)) (by simpa using hlt) ?_;refine ae.inc ?_;rw[Fv hlt];exact az.mk ⟨i+1,rfl,by omega,rfl⟩ (by simp[bL];omega)
 have:i=ax.wN n:=by omega
 subst this;rw[AA];refine av.q ?_;refine St.q ?_;refine av.q ?_;refine Aj.mk (by repeat (first|exact bh.refl _|apply bh.cons|apply bh.app)) ⟨_,rfl,?_⟩;have:=Words.block (b:=bw) (cap:=ax.wN n) (ws:=(List.range (ax.wN n)).map λi=>F i&&&ax.cU n) (T:=55) (fz:=(0,0)) (B:=(b8,.cells (List.toArray [iv (n:Int),.slice (some ⟨bw,0,none⟩) (ax.wN n) (ax.wN n)]) 30 zZ)::
  (bw,.cells (au .u64 (iw ((List.range (ax.wN n)).map λi=>F i&&&ax.cU n))) 55 zZ)::(b1,.cells (List.toArray [iv (n:Int),.slice (some ⟨bw,0,none⟩) (ax.wN n) (ax.wN n)]) 30 zZ)::B) (by exact .tail _ (.head _)) zI (λw hw=>by
   obtain⟨k,_,rfl⟩:=xaq.1 hw;exact xaR xcN (ax.oC n))
 simpa using this
theorem KR{B:Hp}{pv pb pa s:zV}{u n i:Nat}{c:Bool}{ws:zL}(hv:Go.Sx.At B pv [iv (u:Int)])(hb:Go.Sx.At B pb [.bool c])(ha:Go.Sx.At B pa [iv (n:Int),s])(hw:Words B s ws)(hf:ax.dZ n ws)(hu:u<n)(hi:i<ax.wN n):
  Rd zQ 146 #[iv (i:Int),pv,pb,pa] B (· =.int .u64 ((ax.oB ws u c i:Nat):Int)):=by
 intro g;have hn:=hf.Ac;have Wf:=ax.rz hn;refine Cu (R:=aN _) ?_;unfold L146;refine Ld.at hv (λ_ h=>h) ?_;refine ae.pN (a:=u) (b:=6) (Br.dec (λh6=>?_) (λh6=>?_))
 ·have hp:2^(u-6)<=1024:=xav (n:=2) zD (by omega:u-6<=10);refine Ld.at hv (λ_ h=>h) ?_;refine ae.tH (b:=6) (by simp[bM];omega) h6 (ae.Au (a:=1) (by simp[IntKind.bits];omega) (by rw[xbc];simp[bM];omega) ?_);rw[xbc];refine ae.Md (by simp[bM];omega) (by simp[bM];omega) ?_;have hand:=oW i (2^(u-6));intro J hJ;have Ug:ax.ay i (u-6) c<ax.wN n:=by
   rw[ax.Dz zO]at hi⊢;exact ax.Nn hi zO
  have lP:JE J [iv ((ax.ay i (u-6) c:Nat):Int)] B:=by
   refine JE.mk (hJ _ _ λgs=>?_);refine ah.at ha λq hq=>Ld.at hq (λ_ h=>h) ?_;have hg:ws[ax.ay i (u-6) c]? =some (ws.getD (ax.ay i (u-6) c) 0):=by rw[xab (by rw[hf.len];exact Ug),xah,xab (by rw[hf.len];exact Ug)];rfl
   refine hw.1.ld (cc hg) (λ_ h=>h) ?_;exact bX.mk (.refl _) (by unfold ax.oB;rw[xae h6])
  refine Ld.at hb (λ_ h=>h) ?_;cases c
  ·exact Br.no lP
  refine Br.yes (Ld.at hv (λ_ h=>h) ?_);refine ae.tH (b:=6) (by simp[bM];omega) h6 (ae.Au (a:=1) (by simp[IntKind.bits];omega) (by rw[xbc];simp[bM];omega) ?_);rw[xbc];refine ae.SC (by simp[bM];omega) (by simp[bM];omega) ?_;have e:nM i (2^(u-6))|||2^(u-6)=ax.ay i (u-6) true:=by
   apply xa3;intro k;rw[xcJ,dj,ax.ak,xb5];by_cases e:k=u-6
   ·simp[e]
   simp[e,xbp e]
  rw[e];exact lP
 have hp:2^u<=32:=xav (n:=2) zD (by omega:u<=5);have hg:ws[i]? =some (ws.getD i 0):=by rw[xab (by rw[hf.len];exact hi),xah,xab (by rw[hf.len];exact hi)];rfl
 have hwi:=hw.2 _ (xax hg);have hm:=ax.iP u;refine DR.self (Ld.at hv (λ_ h=>h) (Ld.at hv (λ_ h=>h) ?_));refine ae.Au (a:=1) (b:=u) (by simp[IntKind.bits];omega) (by rw[xbc];simp[bM];omega) ?_;rw[xbc];refine aa.eq (u7 (u:=u) (i:=0) zO zO zO B) ?_;rw[xad h6];refine⟨.refl _,?_⟩;refine Ld.at hb (λ_ h=>h) ?_;cases c
 ·refine Br.no (ah.at ha λq hq=>Ld.at hq (λ_ h=>h) ?_);refine hw.1.ld (cc hg) (λ_ h=>h) ?_;refine ae.Md (by simpa[bM]using hwi) (by simpa[bM]using hm) (ae.As ?_);have:=oW (ws.getD i 0) (ax.mask u);exact ae.SC (by simp only[bM];omega) (by simp only[bM];omega) (bX.mk (.refl _) (by unfold ax.oB;rw[xad h6];rfl))
 refine Br.yes (ah.at ha λq hq=>Ld.at hq (λ_ h=>h) ?_);refine hw.1.ld (cc hg) (λ_ h=>h) ?_;refine ae.oX (by simpa[bM]using hwi) (by simpa[bM]using hm) ?_;have h1:ws.getD i 0&&&ax.mask u<=ws.getD i 0:=xb3;refine ae.pg (by simp only[bM];omega) ?_;have h2:=xcp (ws.getD i 0&&&ax.mask u) (2^u);exact ae.SC (by simp only[bM];omega) (by simp only[bM];omega) (bX.mk (.refl _) (by unfold ax.oB;rw[xad h6];rfl))
theorem Oq{B:Hp}{v:zV}{n u:Nat}{ws:zL}{c:Bool}(ht:Bx B v ⟨n,ws⟩)(hf:ax.dZ n ws)(hu:u<n):
  Px zQ 120 #[v,iv (u:Int),.bool c] B (λv H=>Bx H v ⟨n,ax.jg n ws u c⟩):=by
 obtain⟨s,rfl,hw⟩:=ht;refine aS λg=>C9 λb1 _ b3 _ b5 _ b7 _=>?_;refine ah.mk (Ld.mk zM rfl ?_);refine aa.px (.cons .here) (mD hf.Ac rfl zK (F:=λi=>ax.oB ws u c i) (λi hi=>?_) (λi hi=>?_)) ?_
 ·unfold ax.oB;split
  ·by_cases h:ax.ay i (u-6) c<ws.length
   ·rw[xah,xab h];exact hf.lt (xaB h)
   rw[xah,xaF zO];decide
  have hg:ws.getD i 0<2^64:=by rw[xah,xab (by rw[hf.len];exact hi)];exact hf.lt (xaB _)
  split
  ·refine xcn (n:=64) (xaR xb3 hg) (xaR (xcp _ _) (xaR xb3 hg))
  exact xcn (n:=64) (xaR (oW _ _) hg) (xaZ _ zD)
 ·exact KR (Go.Sx.At.block (l:=[iv (u:Int)]) zM) (Go.Sx.At.block (l:=[.bool c]) zM) (Go.Sx.At.block (l:=[iv (n:Int),s]) zM) (hw.mono zS) hf hu hi
 rintro v N ⟨s',rfl,hw'⟩;refine St.p ?_ ?_
 ·have:=aK hw';simpa[Value.oneCell']using this
 refine av.q ?_;exact Aj.mk (by repeat (first|exact bh.refl _|apply bh.cons|apply bh.app)) ⟨s',rfl,hw'.mono zS⟩
theorem vI{B:Hp}{v:zV}{n u:Nat}{ws:zL}{c:Bool}(ht:Bx B v ⟨n,ws⟩)(hf:ax.dZ n ws)(hu:u<n):
  Px zQ 83 #[v,iv (u:Int),.bool c] B (λr H=>∃v',r=.tuple #[v',iv 0]/\Bx H v' ⟨n,ax.jg n ws u c⟩):=by
 obtain⟨s,rfl,hw⟩:=ht;refine aS λg=>G0 λb1 _ b3 _=>?_;refine av.q ?_;refine aa.eq (TU (t:=⟨n,ws⟩) ⟨s,rfl,hw.mono zS⟩ (u:Int)) ?_;rw[xae (show TF ⟨(n:Int),ws⟩from⟨by simp,by simpa using hf⟩),xae ⟨by omega,by simp only;omega⟩];refine ae.dz (Br.F (av.q ?_));refine aa.pq (Oq (v:=.agg (List.toArray [iv (n:Int),s])) ⟨s,rfl,hw.mono zS⟩ hf hu) ?_;rintro v N ⟨s',rfl,hw'⟩;refine St.p ?_ ?_
 ·have:=aK hw';simpa[Value.oneCell']using this
 refine av.q ?_;exact Aj.mk (by repeat (first|exact bh.refl _|apply bh.cons|apply bh.app)) ⟨_,rfl,s',rfl,hw'.mono zS⟩
theorem zf{w j:Nat}(hj:j<8):((List.range (j+1)).map λi=>UInt8.ofNat (w>>>(8*i)))=((List.range j).map λi=>UInt8.ofNat (w>>>(8*i)))++[UInt8.ofNat (w>>>(8*j))]:=by
 rw[xcC,xaG];rfl
theorem GD(l:List UInt8)(n:Nat):cf (l++[UInt8.ofNat n])=cf l++[[Value.int .u8 ((n%256:Nat):Int)]]:=by
 simp[cf]
theorem AS{B:Hp}{v:zV}{t:Tb}(ht:Bx B v t)(hl:t.ws.length<=4294967296):Rd zQ 182 #[v] B (· =bI (ax.fH t.ws)):=by
 obtain⟨s,rfl,hw⟩:=ht;refine aS λg=>BQ λb1 _=>?_;refine ah.mk (Ld.mk zM rfl ?_);refine hw.1.bH ?_;rw[ag];refine⟨λvs H=>∃(k:Nat) (v:zV) (C:Hp),vs=[v,iv (k:Int)]/\k<=t.ws.length/\H=C++B/\aH 5 1 v (cf (ax.fH (t.ws.take k))) C,λvs _=>t.ws.length-bL vs 1,
  JE.of (.tail) ⟨0,_,[],rfl,by omega,rfl,aH.nil _ _⟩,?_⟩
 rintro w6 w7 H ⟨k,v,C,⟨⟩,hk,rfl,ho⟩ gs;refine ae.fe (Br.dec (λhlt=>?_) (λhlt=>?_))
 ·have hg:t.ws[k]? =some t.ws[k]:=xab hlt;have hwk:=hw.2 _ (xaB hlt);refine hw.1.ld (cc hg) zS ?_;have hlen:(cf (ax.fH (t.ws.take k))).length=8*k:=by simp only[cf,xaz,ax.qo,xbw];omega
  refine⟨λvs H=>∃(j:Nat) (v:zV) (C:Hp),vs=[v,iv (j:Int)]/\j<=8/\H=C++B/\aH 5 1 v (cf (ax.fH (t.ws.take k)++(List.range j).map λi=>UInt8.ofNat (t.ws[k]>>>(8*i)))) C,λvs _=>8-bL vs 1,
   JE.mk ⟨0,_,C,rfl,by omega,rfl,by simpa using ho⟩,?_⟩
  rintro w8 w9 H ⟨j,v,C,⟨⟩,hj,rfl,ho⟩ gs;refine ae.fe (b:=8) (Br.dec (λh8=>?_) (λh8=>?_))
  ·refine ae.xU (a:=8) (ae.pg (by simpa[bM]using hwk) (aO.ZA (ai.int (e:=5) zK zK zK λxb=>?_)));refine ho.Ma (A:=[_]) (r:=[Value.int .u8 (((t.ws[k]>>>(8*j))%256:Nat):Int)]) (by exact .head _) rfl (by simp[Value.oneCell']) ⟨[.int .u8 0],rfl,rfl⟩ (by simp only[cf,xaz,xai,xaT]at hlen⊢;omega) (by simp only[cf,xaz,xai,xaT]at hlen⊢;omega) λv' C' cg=>?_;refine ae.inc (az.of .tail ⟨j+1,_,C',rfl,by omega,rfl,?_⟩ (by simp[bL];omega));rw[zf h8,<-xaj,GD];exact cg
  have:j=8:=by omega
  subst this;refine ae.inc (az.mk ⟨k+1,_,C,rfl,by omega,rfl,?_⟩ (by simp[bL];omega));rw[xa7 hlt,ax.fH,List.flatMap_append];simpa[ax.fH,ax.jh]using ho
 have:k=t.ws.length:=by omega
 subst this;rw[xbh]at ho;refine gB.own ho (λ_ h=>xac _ h) ?_;exact bX.mk .right rfl
theorem Sg{B:Hp}{b n:Nat}{es:Array MapEntry}{ck:Nat}{m:List (List UInt8×zL)}{v:zV}{ws:zL}(hE:fi n B es ck m)(ht:Bx B v ⟨n,ws⟩)(hf:ax.dZ n ws):
  Fc zQ 181 #[.map (some b),v] ((b,.map es ck)::B) (λ_ H=>∃es' cm N,H=(b,.map es' cm)::(N++B)/\fi n (N++B) es' cm (vG m ws)):=by
 obtain⟨s,rfl,hw⟩:=ht;refine aS λg=>BR λb1 _=>?_;refine DR.self (av.q ?_);refine av.q ?_;refine aa.eq (AS (t:=⟨n,ws⟩) ⟨s,rfl,hw⟩ (wG hf)) (⟨.refl _,?_⟩);refine hE.bJ (b:=b) ⟨s,rfl,hw⟩ hf λes' cm MQ=>⟨_,.tail (.head _),?_⟩;exact aN.mk (gp:=(b,.map es' cm)::([]++B)) .tail ⟨es',cm,[],rfl,MQ⟩
theorem FA{B:Hp}{v:zV}{n:Nat}{ts:List Tb}{L:List (zL)}(ht:gA B v ts)(hL:ts=L.map λws=>⟨n,ws⟩)(hf:∀ws∈L,ax.dZ n ws)(cO:L.length<4611686018427387904):
  Fc zQ 153 #[v] B (λr H=>∃b es ck m N,r=.map (some b)/\H=(b,.map es ck)::(N++B)/\fi n (N++B) es ck m/\∀x,x∈m.map Prod.snd↔x∈L):=by
 have hlen:ts.length=L.length:=by rw[hL];simp
 refine aS λg=>Ck λb _=>?_;refine ht.bH ?_;rw[hlen];refine⟨λvs H=>∃(k:Nat) (es:Array MapEntry) (ck:Nat) (m:List (List UInt8×zL)) (N:Hp),vs=[iv (k:Int)]/\k<=L.length/\H=(b,.map es ck)::(N++B)/\fi n (N++B) es ck m/\∀x,x∈m.map Prod.snd↔x∈L.take k,
  λvs _=>L.length-bL vs 0,JE.mk ⟨0,_,_,[],[],rfl,by omega,rfl,fi.empty _ _,by simp⟩,?_⟩
 rintro w H ⟨k,es,ck,m,N,⟨⟩,hk,rfl,hE,hm⟩ gs;refine ae.fe (Br.dec (λhlt=>?_) (λhlt=>?_))
 ·have hg:ts[k]? =some ⟨n,L[k]⟩:=by rw[hL,xat,xab hlt];rfl
  have oz:=hf L[k] (xaB hlt);refine ht.ld hg zS λs hw=>?_;intro b2 _;refine St.p ?_ ?_
  ·have:=aK hw;simpa[Value.oneCell']using this
  refine av.q ?_;refine aa.fq (Sg hE ⟨s,rfl,hw.mono zS⟩ oz) ?_;rintro r C' ⟨es',cm,N',rfl,MQ⟩;refine ae.inc (az.of .tail ⟨k+1,es',cm,vG m L[k],N'++N,rfl,by omega,by rw[xaj],by rw[xaj];exact MQ,λx=>?_⟩ (by simp[bL];omega));rw[o9 hE.2 oz,hm,xa7 hlt,xal,xaL]
 have:k=L.length:=by omega
 subst this;rw[xbh]at hm;exact aN.here ⟨b,es,ck,m,N,rfl,rfl,hE,hm⟩
theorem K9{B:Hp}{bm n u:Nat}{es:Array MapEntry}{ck:Nat}{m:List (List UInt8×zL)}(hm:(bm,Obj.map es ck)∈B)(hE:fi n B es ck m)(hu:u<n)(cO:m.length<4611686018427387904):
  Fc zQ 154 #[.map (some bm),iv (u:Int)] B (λr H=>∃b' es' cm m' N,r=.tuple #[.map (some b'),iv ((ax.nodes n (m.map Prod.snd) u).length:Int)]/\H=(b',.map es' cm)::(N++B)/\fi n (N++B) es' cm m'/\
   ∀x,x∈m'.map Prod.snd↔∃t∈m.map Prod.snd,∃c,x=ax.jg n t u c):=by
 refine aS λg=>Cj ?_;intro b' _;refine .inr ⟨bm,es,ck,rfl,.tail _ hm,λbi _=>?_⟩;refine⟨λvs H=>∃(es':Array MapEntry) (cm:Nat) (m':List (List UInt8×zL)) (seen:Array Nat) (N:Hp) (D:List (zL)),vs=[iv ((ax.nodes n D u).length:Int)]/\
   H=(bi,.mapIter (some bm) ck seen ck)::(b',.map es' cm)::(N++B)/\fi n (N++B) es' cm m'/\(m.map Prod.snd).Perm (D++(cB es m seen).map Prod.snd)/\∀x,x∈m'.map Prod.snd↔∃t∈D,∃c,x=ax.jg n t u c,
  λvs H=>match H with|(_,.mapIter _ _ seen _)::_=>(cB es m seen).length|_=>0,JE.mk ⟨_,_,[],_,[],[],rfl,rfl,fi.empty _ _,?_,by simp⟩,?_⟩
 ·rw[nr hE.1];simp
 rintro w H ⟨es',cm,m',seen,N,D,⟨⟩,rfl,MQ,fx,hmem⟩ gs;have hbm:∀{X:Hp},(bm,Obj.map es ck)∈X++B:=xaa _ hm;refine hE.1.next (.tail _ (.tail _ hbm)) (.head _) (λe x seen' he hkey hval hstep U3 hfind=>⟨_,.head _,?_⟩) (λX1=>?_)
 ·obtain⟨bs,ws⟩:=x;simp only at hval hkey;refine Ext.mk rfl (Br.yes (⟨bi,bm,ck,seen',e.born,ck,es,e,rfl,.head _,U3,.tail _ (.tail _ hbm),hfind,?_⟩));refine Ext.mk rfl ?_;have hx:(bs,ws)∈m:=by
   have h:=hstep.mem_iff.2 (xbq (a:=(bs,ws)));unfold cB at h;obtain⟨p,hp,pJ⟩:=xaq.1 h;rw[<-pJ];exact(xd4 (xcj.1 hp).1).2
  obtain⟨hbs,hf⟩:=hE.2 _ hx;simp only at hbs hf;obtain⟨s,UQ,hw⟩:=hval;rw[UQ];have hone:=aK hw;intro b1 _;refine St.p (by simpa[Value.oneCell']using hone) ?_;refine av.q ?_;refine aa.pq (B:=N++B) (vI (n:=n) (ws:=ws) ⟨s,rfl,hw.mono zS⟩ hf hu) ?_;rintro r N1 ⟨v1,rfl,s1,rfl,gD⟩;have Ur:=aK gD;refine Ext.two λb2 _=>(St.p (by simpa[Value.oneCell']using Ur) ?_);refine av.q ?_;refine aa.pq (B:=N1++(N++B)) (vI (n:=n) (ws:=ws) ⟨s,rfl,hw.mono zS⟩ hf hu) ?_;rintro r N2 ⟨v2,rfl,s2,rfl,qZ⟩;have Uq:=aK qZ;refine Ext.two λb3 _=>(St.p (by simpa[Value.oneCell']using Uq) ?_);refine DR.self (av.q ?_);refine av.q ?_;have f1:=ax.fV (v:=u) (ws:=ws) (b:=false) hf.Ac;have f2:=ax.fV (v:=u) (ws:=ws) (b:=true) hf.Ac;refine aa.eq (B:=N2++(N1++(N++B))) (AS (t:=⟨n,ax.jg n ws u false⟩) ⟨s1,rfl,gD.mono zS⟩ (wG f1)) (⟨.refl _,?_⟩);refine aa.eq (B:=N2++(N1++(N++B))) (AS (t:=⟨n,ax.jg n ws u true⟩) ⟨s2,rfl,qZ⟩ (wG f2)) (⟨.refl _,?_⟩);intro J hJ;have wA:(ax.fH (ax.jg n ws u false)≠ax.fH (ax.jg n ws u true))↔ax.dep n ws u=true:=by
   simp only[ax.dep,ne_eq,xaO];exact not_congr ⟨λh=>f1.key_inj f2 h,λh=>by rw[h]⟩
  have lP:JE J [iv ((ax.nodes n (D++[ws]) u).length:Int)] ((b3,.cells (List.toArray [iv (n:Int),s2]) 30 zZ)::(b2,.cells (List.toArray [iv (n:Int),s1]) 30 zZ)::
    (b1,.cells (List.toArray [iv (n:Int),s]) 30 zZ)::(bi,.mapIter (some bm) ck seen' ck)::(b',.map es' cm)::(N2++(N1++(N++B)))):=by
   refine JE.mk (hJ _ _ λgs=>?_);refine DR.of (R:=(b3,.cells (List.toArray [iv (n:Int),s2]) 30 zZ)::(b2,.cells (List.toArray [iv (n:Int),s1]) 30 zZ)::[]) ?_ ?_
   ·exact .cons (.cons (λg w h=>(Own.left (B:=_) (A:=[]) h)))
   refine av.q ?_;refine av.q ?_;have MP:=MQ.mono (B':=N2++(N1++(N++B))) zS;refine MP.bJ (b:=b') (ws:=ax.jg n ws u false) ⟨s1,rfl,gD.mono zS⟩ f1 λGt LP Qf=>⟨_,.tail (.tail (.tail (.tail (.head _)))),?_⟩;refine⟨.cons (.cons (λg w h=>(Own.left (B:=_) (A:=[]) h))),?_⟩;refine Qf.bJ (b:=b') (ws:=ax.jg n ws u true) ⟨s2,rfl,qZ⟩ f2 λsK wP hE4=>⟨_,.tail (.tail (.tail (.tail (.head _)))),?_⟩;refine az.of (H':=(bi,.mapIter (some bm) ck seen' ck)::(b',.map sK wP)::((N2++(N1++N))++B)) ?_ ⟨sK,wP,vG (vG m' (ax.jg n ws u false)) (ax.jg n ws u true),seen',N2++(N1++N),D++[ws],rfl,rfl,?_,?_,λx=>?_⟩ ?_
   ·refine .skip (.skip (.skip (.cons (.cons ?_))));intro g w h;rw[xaj,xaj];exact h
   ·rw[xaj,xaj];exact hE4
   ·refine fx.trans ?_;refine(xbH D (hstep.map Prod.snd)).trans ?_;simp only[xaM,xaj,xaN,xaW];exact .refl _
   ·rw[o9 Qf.2 f2,o9 MP.2 f1,hmem];constructor
    ·rintro((⟨t,ht,c,rfl⟩|rfl)|rfl)
     ·exact⟨t,by simp[ht],c,rfl⟩
     ·exact⟨ws,by simp,_,rfl⟩
     exact⟨ws,by simp,_,rfl⟩
    rintro⟨t,ht,c,rfl⟩;rcases xal.1 ht with ht|ht
    ·exact .inl (.inl ⟨t,ht,c,rfl⟩)
    simp at ht;subst ht;cases c
    ·exact .inl (.inr rfl)
    exact .inr rfl
   have:=hstep.length_eq;simp only[xar]at this⊢;omega
  refine ae.TD (Br.dec (λh=>?_) (λh=>?_))
  ·refine ae.zq (b:=1) ?_ ?_
   ·have h1:=fx.length_eq;simp only[xaz,xai]at h1;have h2:(ax.nodes n D u).length<=D.length:=xc2 _ _;simp[bM];omega
   have:(ax.nodes n (D++[ws]) u).length=(ax.nodes n D u).length+1:=by
    simp[ax.nodes,xcy,wA.1 h]
   rw[this]at lP;exact lP
  have:(ax.nodes n (D++[ws]) u).length=(ax.nodes n D u).length:=by
   have hd:ax.dep n ws u=false:=by cases hh:ax.dep n ws u;rfl;exact absurd (wA.2 hh) h
   simp[ax.nodes,xcy,hd]
  rw[this]at lP;exact lP
 refine Ext.mk rfl (Br.no ?_);rw[X1]at fx;simp only[xcu,xaP]at fx;refine aN.mk (gp:=(b',.map es' cm)::(N++B)) .tail ⟨b',es',cm,m',N,?_,rfl,MQ,λx=>?_⟩
 ·rw[ax.rU fx]
 rw[hmem];constructor
 ·rintro⟨t,ht,h⟩;exact⟨t,fx.mem_iff.2 ht,h⟩
 rintro⟨t,ht,h⟩;exact⟨t,fx.mem_iff.1 ht,h⟩
theorem Fp{B:Hp}{v:zV}{ts:List Tb}(ht:gA B v ts)(cO:ts.length<2^62):Rd zQ 152 #[v] B (· =.bool (decide (∀t∈ts,TF t/\some t.n=ts.head?.map Tb.n))):=by
 intro g;refine Cm (R:=aN _) ?_;unfold L152;refine ht.bH ?_;refine⟨λvs H=>bh B H/\∃k:Nat,vs=[iv (k:Int)]/\k<=ts.length/\∀i t,i<k->ts[i]? =some t->TF t/\some t.n=ts.head?.map Tb.n,λvs _=>ts.length-bL vs 0,JE.mk ⟨.refl _,0,rfl,by omega,by omega⟩,?_⟩;rintro w H ⟨hg,k,hv,hk,aI⟩ gs;simp only[xau,xaY]at hv;subst hv;refine ae.fe (Br.dec (λhlt=>?_) (λhlt=>?_))
 ·obtain⟨t,kQ⟩:∃t,ts[k]? =some t:=⟨_,xab hlt⟩;obtain⟨t0,N9⟩:∃t,ts[0]? =some t:=⟨_,xab zO⟩;have hh:ts.head?.map Tb.n=some t0.n:=by rw[List.head?_eq_getElem?,N9];rfl
  have Uf:=ht.mono hg.sub;refine Uf.ld kQ (λ_ h=>h) λs hs=>?_;intro b1 _;refine St.whole (r:=[iv t.n,s]) (by exact cT.head _) rfl rfl ?_ ?_
  ·obtain⟨a,c,rfl,_⟩:=hs.1.shape;simp[Value.oneCell']
  intro J hJ;have hno:∀H',bh B H'->¬(TF t/\some t.n=ts.head?.map Tb.n)->JE J [.bool true] H':=λH' RK h=>
   JE.mk (hJ _ _ λgs=>Br.yes (bX.mk RK.cS (by rw[xas];exact λhh=>h (hh t (xax kQ)))))
  have P4:bh B ((b1,Obj.cells (List.toArray [iv t.n,s]) 30 zZ)::H):=.cons hg;refine DR.self ?_;refine av.whole (r:=[iv t.n,s]) (by exact List.Mem.head _) rfl ?_;intro F;refine aa.rd (B:=H) (.cons .here) (yP ⟨s,rfl,hs⟩) ?_;rintro v rfl;refine⟨.refl _,Un.not ?_⟩;by_cases hT:TF t
  case neg=>rw[xas hT];exact Br.yes (hno _ P4 λh=>hT h.1)
  rw[xaA hT];apply Br.no;refine ah.mk (Ld.mk zM rfl ?_);refine Uf.Xt N9 zS ?_;refine ae.dz (aB.mk ?_);simp only[xam];by_cases hn:t.n=t0.n
  case neg=>rw[xaA hn];exact hno _ P4 λh=>hn (by have:=h.2;rw[hh]at this;simpa using this)
  rw[xas (by simpa using hn)];refine JE.mk (hJ _ _ λgs=>Br.no ?_);refine ae.zq (b:=1) (by simp[bM];omega) ?_;refine az.mk ⟨P4,k+1,rfl,by omega,λi u hi hu=>?_⟩ (by simp[bL];omega);by_cases e:i=k
  ·subst e;rw[kQ]at hu;cases hu;exact⟨hT,by rw[hh,hn]⟩
  exact aI i u zO hu
 refine bX.mk hg.cS ?_;rw[xaA];intro t XK;obtain⟨i,hi,rfl⟩:=xbg.1 XK;exact aI i _ zO (xab hi)
def Pg(ts:List Tb):Prop:=∀t∈ts,TF t/\some t.n=ts.head?.map Tb.n
instance (ts:List Tb):Decidable (Pg ts):=by unfold Pg;infer_instance
theorem Ax{B:Hp}{v:zV}{ts:List Tb}(ht:gA B v ts)(cO:ts.length<2^62):Rd zQ 152 #[v] B (· =.bool (decide (Pg ts))):=Fp ht cO
theorem Jy{n:Nat}{L:List (zL)}(hf:∀ws∈L,ax.dZ n ws):Pg (L.map λws=>⟨n,ws⟩):=by
 intro t ht;obtain⟨ws,We,rfl⟩:=xaq.1 ht;refine⟨⟨by simp,by simpa using hf ws We⟩,?_⟩;cases L with
 |nil=>simp at We
 |cons a b=>rfl
end
end Go.Proofs
namespace aq
theorem Rm.pM(m:Rm):∀ls ord,m.goes 0 ls ord=ls.take (m.goes 0 ls ord).length
 | [],_=>rfl
 |c::cs,ord=>by
  by_cases hf:m.fit ord (0+c)=true
  ·have:=m.pM cs (ej ord (0+c));rw[goes,xae hf,xar,List.take_succ_cons,<-this,xa1]
  rw[goes,xad hf];simp
def Rm.can(m:Rm)(ord ls:zL):Bool:=decide ((m.goes 0 ls ord).length=ls.length)
theorem Rm.K8(m:Rm){ord ls:zL}{i:Nat}(hi:i<(m.goes 0 ls ord).length){l:Nat}(hl:ls[i]? =some l):m.fit (cw ord (ls.take i)) l=true:=by
 obtain⟨_,c,h1,h2⟩:=m.yL 0 ls ord i hi;rw[hl]at h1;cases h1;rw[m.pM,List.take_take,xch (xb8 hi),xa1]at h2;exact h2
theorem Rm.Ge(m:Rm){ord ls:zL}{l:Nat}(hl:ls[(m.goes 0 ls ord).length]? =some l):m.fit (cw ord (ls.take (m.goes 0 ls ord).length)) l=false:=by
 have:=m.yM 0 ls ord l hl;rw[xa1]at this;rw[<-m.pM];exact this
theorem iN{α:Type}[DecidableEq α]:∀{l p:List α},l.Nodup->(∀x∈l,x∈p)->p.length<=l.length->l.Perm p
 | [],p,_,_,h=>by
  have:p=[]:=xcr.1 (by simpa using h);subst this;exact .refl _
 |x::t,p,hn,hs,hl=>by
  have hx:=hs x zI;have hp:=List.perm_cons_erase hx;have hlen:(p.erase x).length=p.length-1:=List.length_erase_of_mem hx;have hpos:=List.length_pos_of_mem hx;refine(List.Perm.cons x (iN (xbd.1 hn).2 (λy hy=>?_) (by simp only[xar]at hl;omega))).trans hp.symm;refine(List.mem_erase_of_ne λe=>?_).2 (hs y (by simp[hy]));subst e;exact(xbd.1 hn).1 hy
end aq
set_option maxRecDepth 100000
namespace Go.Proofs
open Go Go.Sx
section
open aq
theorem ye{l:zL}(h:l.Nodup):(iw l).Nodup:=xb2.2 (h.imp λhne e=>hne (Int.ofNat.inj e))
theorem mL{p:List Int}:me p↔p.Perm (iw (List.range p.length)):=by
 constructor
 ·intro h;refine(iN (ye xcs) (λx hx=>?_) (by rw[ag,xaT];exact xak _)).symm;obtain⟨k,hk,rfl⟩:=xaq.1 hx;exact h k (xaV.1 hk)
 intro h v hv;exact h.mem_iff.2 (xaq.2 ⟨v,xaV.2 hv,rfl⟩)
theorem Mg{p:List Int}(hn:p.Nodup)(h:∀x∈p,0<=x/\x<(p.length:Int)):me p:=by
 refine mL.2 (iN hn (λx hx=>?_) (by rw[ag,xaT];exact xak _));obtain⟨h1,h2⟩:=h x hx;exact xaq.2 ⟨x.toNat,xaV.2 zO,by show((x.toNat:Nat):Int)=x;omega⟩
theorem zo{p:List Int}(h:me p){x:Int}(hx:x∈p):0<=x/\x<(p.length:Int):=by
 have:=(mL.1 h).mem_iff.1 hx;obtain⟨k,hk,rfl⟩:=xaq.1 this;have:=xaV.1 hk;show(0:Int)<=(k:Int)/\(k:Int)<_;omega
theorem zn{p:List Int}(h:me p):p.Nodup:=(mL.1 h).nodup_iff.2 (ye xcs)
theorem Jg{p:List Int}{i n W:Nat}(hi:i<p.length)(hn:p[i]=(n:Int))(hw:n<W):((List.range W).map λk=>decide (((k:Nat):Int)∈p.take i)).set n true=(List.range W).map λk=>decide (((k:Nat):Int)∈p.take (i+1)):=by
 apply xbo;intro j;rw[xa7 hi,hn];by_cases hj:j<W
 ·by_cases e:n=j
  ·subst e;rw[xbD (by simpa using hw)];simp[hw]
  rw[xbA e];simp only[xat,xcP hj,xbn,xal,xaL];congr 1;have:¬((j:Nat):Int)=(n:Int):=by omega
  simp[this]
 rw[xaF zP,xaF zP]
theorem Fo{p:List Int}{W:Nat}:List.replicate W false=(List.range W).map λk=>decide (((k:Nat):Int)∈p.take 0):=by
 apply xbo;intro j;by_cases hj:j<W
 ·simp[hj]
 rw[xaF zP,xaF zP]
theorem js{B:Hp}{v:zV}{p:List Int}(h:cR .i64 B v p)(cO:p.length<=70368744177664):Rd zQ 21 #[v] B (λr=>(r=iv 0/\me p/\p.length<=64)\/(r=iv 13/\me p/\64<p.length)\/(r=iv 4/\¬me p)):=by
 refine aS λg=>H7 (h.bH (cW.LW zO λb=>h.bH ?_));rw[Fo (p:=p)];refine⟨λvs H=>∃i:Nat,vs=[iv (i:Int)]/\H=(b,.cells (cI ((List.range p.length).map λk=>decide (((k:Nat):Int)∈p.take i))) 4 zZ)::B/\i<=p.length/\(p.take i).Nodup/\∀x∈p.take i,0<=x/\x<(p.length:Int),λvs _=>p.length-bL vs 0,
  JE.mk ⟨0,rfl,rfl,xaK _,by simp,by simp⟩,?_⟩
 rintro w H ⟨i,⟨⟩,rfl,hi,iu,hin⟩ gs;refine ae.fe (Br.dec (λhlt=>?_) (λhlt=>?_))
 ·refine h.ld (xab hlt) (λ_ h=>.tail _ h) ?_;obtain⟨x,hx⟩:∃x,p[i]=x:=⟨_,rfl⟩;have Ub:x∈p:=by rw[<-hx];exact xaB hlt
  rw[hx];have hB:=zY.block (b:=b) (cap:=p.length) (l:=(List.range p.length).map λk=>decide (((k:Nat):Int)∈p.take i)) (T:=4) (fz:=(0,0)) (B:=(b,.cells (cI ((List.range p.length).map λk=>decide (((k:Nat):Int)∈p.take i))) 4 zZ)::B) (.head _) zI;rw[xaz,xaT]at hB;refine ae.lss (dr.or (decide ((p.length:Int)<=x)) (λ_=>h.bH (ae.geq ⟨rfl,rfl⟩)) zI λgs=>?_);rw[<-xbO];refine dr.or (decide (x∈p.take i)) (λhno=>?_) zI λgs=>?_
  ·have yp:=of_decide_eq_false hno;obtain⟨n,rfl⟩:∃n:Nat,x=n:=⟨x.toNat,by omega⟩;refine hB.ld (b:=decide (((n:Nat):Int)∈p.take i)) ?_ (λ_ h=>h) ⟨rfl,rfl⟩;rw[xat,xcP zO];rfl
  rw[<-xbO];refine Br.dec (λYB=>bX.mk .tail (.inr (.inr ⟨rfl,λha=>?_⟩))) (λUK=>?_)
  ·have h1:=zo ha Ub;rcases YB with hb|hb
   ·omega
   have h2:=zn ha;rw[<-xbk i p,xbb]at h2;refine h2.2.2 x hb x ?_ rfl;rw[xa8 hlt,hx];exact .head _
  obtain⟨n,rfl⟩:∃n:Nat,x=n:=⟨x.toNat,by omega⟩;refine aj.nat zO ?_;refine St.LW (l:=(List.range p.length).map λk=>decide (((k:Nat):Int)∈p.take i)) (.head _) zP ?_;rw[Jg hlt hx zO];refine ae.inc (az.mk ⟨i+1,rfl,rfl,hlt,?_,λx AV=>?_⟩ (by simp only[bL];omega))
  ·rw[xa7 hlt,hx,xbb];exact⟨iu,by simp,λa ha b hb e=>by simp at hb;subst hb;subst e;exact UK (.inr ha)⟩
  rw[xa7 hlt,hx,xal,xaL]at AV;rcases AV with AV|rfl
  ·exact hin x AV
  omega
 obtain rfl:i=p.length:=by omega
 rw[xbh]at iu hin;have aI:=Mg iu hin;refine h.bH (ae.kG (b:=64) (Br.dec (λhg=>bX.mk .tail (.inr (.inl ⟨rfl,aI,hg⟩))) (λhg=>bX.mk .tail (.inl ⟨rfl,aI,by omega⟩))))
theorem Fj{B:Hp}{v:zV}{p:List Int}{x:Int}(h:cR .i64 B v p)(cO:p.length<4611686018427387904):Rd zQ 51 #[v,iv x] B (· =iv (if x∈p then((p.idxOf x:Nat):Int)else-1)):=by
 refine aS λg=>Hy (h.bH ?_);refine⟨λvs H=>∃i:Nat,vs=[iv (i:Int)]/\H=B/\i<=p.length/\x∉p.take i,λvs _=>p.length-bL vs 0,JE.mk ⟨0,rfl,rfl,xaK _,by simp⟩,?_⟩;rintro w H ⟨i,⟨⟩,rfl,hi,hq⟩ gs;refine ae.fe (Br.dec (λhlt=>?_) (λhlt=>?_))
 ·refine h.ld (xab hlt) (λ_ h=>h) ?_;refine ae.kH (Br.dec (λhe=>bX.mk (.refl _) ?_) (λhe=>?_))
  ·rw[xae (by rw[he];exact xaB hlt),J5 hq hlt he.symm]
  refine ae.inc (az.of (.refl _) ⟨i+1,rfl,rfl,hlt,?_⟩ (by simp only[bL];omega));rw[xa7 hlt,xal,xaL];rintro(h|h)
  ·exact hq h
  exact he h
 refine bX.mk (.refl _) ?_;rw[xcZ zO]at hq;rw[xad hq]
theorem O2{B:Hp}{v1 v2:zV}{p q:zL}{n:Nat}(h1:cR .i64 B v1 (iw p))(h2:cR .i64 B v2 (iw q))(hp:p.Perm (List.range n))(hq:q.Perm (List.range n))(hn:n<=64):Rd zQ 49 #[v1,v2] B (· =iv 0):=by
 have e1:p.length=n:=by rw[hp.length_eq,xaT]
 have e2:q.length=n:=by rw[hq.length_eq,xaT]
 refine aS λg=>HA (aa.rq (js h1 (by rw[ag];omega)) ?_);rintro v (⟨rfl,_,_⟩|⟨_,_,hl⟩|⟨_,hno⟩);rotate_left
 ·rw[ag]at hl;omega
 ·exact absurd (s8 hp) hno
 refine aa.rq (js h2 (by rw[ag];omega)) ?_;rintro v (⟨rfl,_,_⟩|⟨_,_,hl⟩|⟨_,hno⟩);rotate_left
 ·rw[ag]at hl;omega
 ·exact absurd (s8 hq) hno
 refine ae.kH (dr.or false (λ_=>ae.kH ⟨rfl,rfl⟩) rfl λgs=>?_);refine dr.or false (λ_=>?_) rfl λgs=>Br.no ?_
 ·refine h1.bH (h2.bH (ae.nU ⟨rfl,?_⟩));rw[ag,ag,xas zO]
 exact⟨.i64,0,0,rfl,rfl,bX.mk (.refl _) rfl⟩
end
section
open aq
theorem xZ(n:Nat)(ord:zL)(L:ax.Fs)(k:Nat):(jc n ord L k).length<=2^k*L.length:=xbN (xc2 _ _) (wJ k)
theorem gV(n:Nat)(ord:zL)(L:ax.Fs):∀m,dI n ord L m+L.length<=2^m*L.length
 |0=>by show 0+L.length<=1*L.length;omega
 |m+1=>by
  have ih:=gV n ord L m;have h:=xZ n ord L m;show dI n ord L m+(jc n ord L m).length+L.length<=_;rw[xc4];have:2^m*2*L.length=2*(2^m*L.length):=by rw[xb9 (2^m) 2,Nat.mul_assoc]
  omega
def kZ(n:Nat)(ord:zL)(L:ax.Fs)(m:Nat):zL:=(List.range m).map λk=>(jc n ord L k).length
theorem AE(n:Nat)(ord:zL)(L:ax.Fs)(m:Nat):kZ n ord L (m+1)=kZ n ord L m++[(jc n ord L m).length]:=by
 unfold kZ;rw[xcC,xaG];rfl
theorem AD{B:Hp}{v o:zV}{n:Nat}{L:List (zL)}{ord:zL}(ht:gA B v (L.map λws=>⟨n,ws⟩))(hf:∀ws∈L,ax.dZ n ws)(yu:n<=16)(cO:L.length<1048576)(ho:cR .i64 B o (iw ord))(Eb:ord.length=n)(hA:me (iw ord)):
  Px zQ 126 #[v,o] B (λr H=>∃s,r=.tuple #[s,iv 0]/\cR .i64 H s (iw (kZ n ord L n))):=by
 refine aS λg=>CX (aa.eq (Ax ht zP) ?_);rw[xaA (Jy hf)];refine Un.not (Br.no λJ hJ=>?_);have fin:J [.bool false] B:=by
  refine hJ _ _ λgs=>Br.no ?_;clear hJ;refine ho.bH ?_;rw[ag,Eb];refine ae.kG (b:=16) (Br.F (aa.fq (FA ht rfl hf zO) ?_));rintro r H ⟨b,es,ck,m,N,rfl,rfl,hE,hm⟩;refine ho.bH ?_;rw[ag,Eb];have hbound:∀k,k<=n->∀m:List (List UInt8×zL),(m.map Prod.snd).Nodup->(∀x,x∈m.map Prod.snd↔x∈cur n ord L k)->m.length<4611686018427387904:=by
   intro k hk m iu hmem;have h1:=(ax.n9 iu (mI k) hmem).length_eq;have h2:=wJ (n:=n) (ord:=ord) (L:=L) k;have h3:2^k<=2^16:=xav zD zO;have h4:2^k*L.length<=2^16*L.length:=xa4 _ h3;rw[xaz]at h1;omega
  refine⟨λvs H=>∃(k:Nat) (s:zV) (b:Nat) (es:Array MapEntry) (ck:Nat) (m:List (List UInt8×zL)) (CS N:Hp),vs=[s,.map (some b),iv (k:Int)]/\k<=n/\H=CS++((b,.map es ck)::(N++B))/\aL 3 .i64 s (iw (kZ n ord L k)) CS/\fi n (N++B) es ck m/\∀x,x∈m.map Prod.snd↔x∈cur n ord L k,
   λvs _=>n-bL vs 2,JE.mk ⟨0,_,b,es,ck,m,[],N,rfl,by omega,rfl,aL.nil,hE,λx=>by rw[hm];exact ax.dk.symm⟩,?_⟩
  clear hm hE;rintro w17 w18 w19 H ⟨k,s,b,es,ck,m,CS,N,⟨⟩,hk,rfl,hs,hE,hm⟩ gs;have MP:=hE.mono (B':=(b,Obj.map es ck)::(N++B)) zS;refine ae.fe (Br.dec (λhlt=>?_) (λhlt=>?_))
  ·refine ho.ld (n:=((ord.getD k 0:Nat):Int)) (bc zO) (λ_ h=>xaa _ (.tail _ (xaa _ h))) ?_;have su:ord.getD k 0<n:=by
    have hmem:((ord.getD k 0:Nat):Int)∈iw ord:=xax (bc zO);have:=zo hA hmem;rw[ag,Eb]at this;omega
   refine aa.fq (K9 (.head _) MP su (hbound k hk m hE.nodup hm)) ?_;rintro r H ⟨b',es',cm,m',N',rfl,rfl,MQ,hm'⟩;apply Ext.two;have RQ:(ax.nodes n (m.map Prod.snd) (ord.getD k 0)).length=(jc n ord L k).length:=ax.rU (ax.n9 hE.nodup (mI k) hm);have hle:(jc n ord L k).length<=65536*1048576:=xbN (xZ n ord L k) (xcK (xbN (xav zD (show k<=16 by omega)) zD) zO);rw[RQ];refine ai.int (e:=3) zK zK zK λbx=>?_;have mP:(kZ n ord L k).length=k:=by simp[kZ]
   refine hs.kx (x:=(((jc n ord L k).length:Nat):Int)) (.cons .left) (by exact .head _) (by rw[ag,mP];omega) (by rw[ag,mP];omega) λs' CS' hs'=>?_;refine ae.inc (az.of .tail ⟨k+1,s',b',es',cm,m',CS',N'++(b,.map es ck)::N,rfl,by omega,by rw[xaj];rfl,?_,by rw[xaj];exact MQ,λx=>?_⟩ (by simp only[bL];omega))
   ·rw[AE,bV];exact hs'
   rw[hm'];show _↔x∈ax.given n (cur n ord L k) (ord.getD k 0);rw[ax.mC];constructor
   ·rintro⟨t,h1,h2⟩;exact⟨t,(hm t).1 h1,h2⟩
   rintro⟨t,h1,h2⟩;exact⟨t,(hm t).2 h1,h2⟩
  obtain rfl:k=n:=by omega
  refine Aj.mk (.app (.cons (.app (.refl _)))) ⟨_,rfl,hs.ints.mono λ_ h=>xac _ h⟩
 refine ht.bH ?_;rw[xaz];refine ae.kG (b:=0) ?_;by_cases hne:L=[]
 ·subst hne;refine Split.QK rfl (aB.mk (aa.rq (js ho (by rw[ag,Eb];omega)) ?_));rintro w (⟨rfl,_,_⟩|⟨rfl,_,hl⟩|⟨rfl,hno⟩);rotate_left
  ·rw[ag]at hl;omega
  ·exact absurd hA hno
  exact ae.kH (aB.mk (JE.mk fin))
 have hpos:0<L.length:=xdI.2 hne;obtain⟨w0,Rn⟩:∃w0,L[0]? =some w0:=⟨_,xab hpos⟩;rw[xaA hpos];refine Split.go rfl (ho.bH ?_);rw[ag,Eb];refine ht.Xt (i:=0) (t:=⟨n,w0⟩) (by rw[xat,Rn];rfl) (λ_ h=>h) ?_;refine ae.dz (aB.mk ?_);rw[xas zI];refine Split.go rfl (aa.rq (js ho (by rw[ag,Eb];omega)) ?_);rintro w (⟨rfl,_,_⟩|⟨rfl,_,hl⟩|⟨rfl,hno⟩);rotate_left
 ·rw[ag]at hl;omega
 ·exact absurd hA hno
 exact ae.kH (aB.mk (JE.mk fin))
theorem Nl{B:Hp}{v o:zV}{n:Nat}{L:List (zL)}{ord:zL}(ht:gA B v (L.map λws=>⟨n,ws⟩))(hf:∀ws∈L,ax.dZ n ws)(yu:n<=16)(cO:L.length<1048576)(ho:cR .i64 B o (iw ord))(Eb:ord.length=n)(hA:me (iw ord)):
  Px zQ 88 #[v,o] B (λr H=>r=.tuple #[iv ((dI n ord L n:Nat):Int),iv 0]):=by
 refine aS λg=>GV (aa.pq (AD ht hf yu cO ho Eb hA) ?_);rintro w N ⟨s,rfl,hs⟩;refine Ext.two (hs.bH ?_);have mP:∀k,(kZ n ord L k).length=k:=λk=>by simp[kZ]
 rw[ag,mP];refine⟨λvs H=>∃k:Nat,vs=[iv ((dI n ord L k:Nat):Int),iv (k:Int)]/\k<=n/\H=N++B,λvs _=>n-bL vs 1,JE.mk ⟨0,rfl,by omega,rfl⟩,?_⟩;rintro w10 W4 H ⟨k,⟨⟩,hk,rfl⟩ gs;refine ae.fe (Br.dec (λhlt=>?_) (λhlt=>?_))
 ·have hg:(kZ n ord L n)[k]? =some (jc n ord L k).length:=by
   unfold kZ;rw[xat,xcP hlt];rfl
  refine hs.ld (n:=(((jc n ord L k).length:Nat):Int)) (cc hg) (λ_ h=>h) ?_;have hsz:∀m,m<=16->dI n ord L m<=65536*1048576:=λm hm=>by
   have:=gV n ord L m;have h2:2^m*L.length<=65536*1048576:=xcK (xbN (xav zD hm) zD) zO;omega
  have h1:=hsz (k+1) zO;have e1:dI n ord L (k+1)=dI n ord L k+(jc n ord L k).length:=rfl;exact ae.fE (ae.inc (az.mk ⟨k+1,rfl,by omega,rfl⟩ (by simp only[bL];omega)))
 obtain rfl:k=n:=by omega
 exact Aj.mk (.app (.refl _)) rfl
end
end Go.Proofs
namespace Go.Sx
open Go
section
variable {P:Program} {g:Gh} {H:Hp}
theorem ai.QO{t e:TypeId}{z:zV}{a b c d:zV}{K:zV->Hp->Prop}(h1:P.underlying t=some (.slice e))(h2:cy P e=some 2)(h3:dG P e=some z)
 (h:∀x,K (.slice (some ⟨x,0,Option.none⟩) 2 2) ((x,.cells (rows [[a,b],[c,d]]) e zZ)::H)):ai P t 2 [(0,.agg #[a,b]),(1,.agg #[c,d])] H K:=by
 refine⟨rows [[a,b],[c,d]],e,2,z,h1,h2,h3,by decide,?_,λb _=>h b⟩;have e1:Array.range (2*2)=#[0,1,2,3]:=rfl;simp[Instr.fill,Value.cells,rows,e1]
theorem ai.QN{t e:TypeId}{z:zV}{a b c d x y:zV}{K:zV->Hp->Prop}(h1:P.underlying t=some (.slice e))(h2:cy P e=some 2)(h3:dG P e=some z)
 (h:∀u,K (.slice (some ⟨u,0,Option.none⟩) 3 3) ((u,.cells (rows [[a,b],[c,d],[x,y]]) e zZ)::H)):ai P t 3 [(0,.agg #[a,b]),(1,.agg #[c,d]),(2,.agg #[x,y])] H K:=by
 refine⟨rows [[a,b],[c,d],[x,y]],e,2,z,h1,h2,h3,by decide,?_,λb _=>h b⟩;have e1:Array.range (3*2)=#[0,1,2,3,4,5]:=rfl;simp[Instr.fill,Value.cells,rows,e1]
theorem ai.T8{t e:TypeId}{kd:IntKind}{x y z u:Int}{K:zV->Hp->Prop}(h1:P.underlying t=some (.slice e))(h2:cy P e=some 1)(h3:dG P e=some (.int kd 0))
 (h:∀b,K (.slice (some ⟨b,0,Option.none⟩) 4 4) ((b,.cells (au kd [x,y,z,u]) e zZ)::H)):ai P t 4 [(0,.int kd x),(1,.int kd y),(2,.int kd z),(3,.int kd u)] H K:=by
 refine⟨au kd [x,y,z,u],e,1,_,h1,h2,h3,by decide,?_,λb _=>h b⟩;have e1:Array.range (4*1)=#[0,1,2,3]:=rfl;simp[Instr.fill,Value.cells,au,e1]
theorem aH.made{T:TypeId}{k b:Nat}(rs:List (List zV))(h:∀r∈rs,r.length=k):aH T k (.slice (some ⟨b,0,none⟩) rs.length rs.length) rs [(b,.cells (rows rs) T zZ)]:=
 .inr ⟨b,[],by simp,by simp,by simpa using h⟩
end
end Go.Sx
namespace aq
open ax
variable {n:Nat} {F:Nat->Nat} {ws us rs:zL}
def r8(n:Nat)(F:Nat->Nat):zL:=(List.range (wN n)).map λi=>F i&&&cU n
theorem gW(hn:n<=16):dZ n (r8 n F):=by
 refine⟨hn,by simp[r8],λw hw=>?_⟩;obtain⟨i,_,rfl⟩:=xaq.1 hw;exact xcN
theorem FL{x:Nat}(hx:x<2^n):bit (r8 n F) x=(F (x/64)).testBit (x%64):=by
 have hi:=xW hx;unfold bit;have fM:(r8 n F).getD (x/64) 0=F (x/64) &&&cU n:=by simp[r8,hi]
 rw[fM,xbI,jR];have UP:decide (x%64<if 6<=n then 64 else 2^n)=true:=by
  rw[xaO];split
  ·exact xaZ _ zD
  have h1:2^n<=32:=xav (n:=2) zD (by omega:n<=5);omega
 rw[UP,xdQ]
theorem jE{f:Fn}(h:∀x,x<2^n->(F (x/64)).testBit (x%64)=f x)(hf:∀x,f (x%2^n)=f x):eB n (r8 n F)=f:=by
 funext x
 unfold eB;have hx:x%2^n<2^n:=xaZ _ (xb4 n);rw[FL hx,h _ hx,hf]
theorem kf(x:Nat):eB n ws (x%2^n)=eB n ws x:=by unfold eB;rw[Nat.mod_mod]
theorem jk{x:Nat}(hx:x<2^n):(ws.getD (x/64) 0).testBit (x%64)=eB n ws x:=by
 unfold eB bit;rw[xbv hx]
theorem xO{j:Nat}(hj:j<64):(18446744073709551615:Nat).testBit j=true:=by
 have:(18446744073709551615:Nat)=2^64-1:=by decide
 rw[this,xcw];simpa using hj
theorem qX{w j:Nat}(hw:w<18446744073709551616)(hj:j<64):(18446744073709551615-w).testBit j= !w.testBit j:=by
 have e:(18446744073709551615-w)=2^64-(w+1):=by
  have:(2:Nat)^64=18446744073709551616:=by decide
  omega
 rw[e,xdK (by
  have:(2:Nat)^64=18446744073709551616:=by decide
  omega)]
 simp[hj]
end aq
set_option maxRecDepth 100000
namespace Go.Proofs
open Go Go.Sx
section
open aq
section
variable {B:Hp}
def bZ(B:Hp)(v:zV)(n:Nat)(f:aq.Fn):Prop:=∃ws,Bx B v ⟨n,ws⟩/\ax.dZ n ws/\eB n ws=f
theorem bZ.mono{B B':Hp}{v:zV}{n:Nat}{f:aq.Fn}(h:bZ B v n f)(hs:∀x∈B,x∈B'):bZ B' v n f:=let ⟨ws,h1,h2,h3⟩:=h;⟨ws,h1.mono hs,h2,h3⟩
theorem y4{n:Nat}(hn:n<=16)(B:Hp):Rd zQ 41 #[iv (n:Int)] B (· =iv 0):=by
 exact aS λg=>HI (ae.lss (Br.F (ae.kG (b:=16) (Br.F (bX.mk (.refl _) rfl)))))
theorem Ar{b:Bool}{p:zV}{i:Int}(hb:Go.Sx.At B p [.bool b]):Rd zQ 43 #[iv i,p] B (· =.int .u64 (((if b then 18446744073709551615 else 0:Nat)):Int)):=by
 refine aS λg=>HG (Ld.at hb (λ_ h=>h) ?_);cases b
 ·exact Br.no (bX.mk (.refl _) rfl)
 exact Br.yes (bX.mk (.refl _) rfl)
theorem jm{n:Nat}(hn:n<=16)(b:Bool)(B:Hp):Px zQ 15 #[iv (n:Int),.bool b] B (λr H=>∃v,r=.tuple #[v,iv 0]/\bZ H v n (λ_=>b)):=by
 refine aS λg=>Ie λb1 _ b3 _=>?_;refine aa.eq (y4 hn _) (ae.dz (Br.F (aa.pq (mD hn rfl zK (F:=λ_=>if b then 18446744073709551615 else 0) (λi _=>by cases b<;>decide) (B:=(b1,.cells #[.bool b] 4 zZ)::B) λi _=>Ar (Go.Sx.At.block (l:=[.bool b]) zM)) ?_)));rintro v N ⟨s,rfl,hw⟩;refine St.p ?_ ?_
 ·have:=aK hw;simpa[Value.oneCell']using this
 refine av.q ?_;refine Aj.mk (by repeat (first|exact bh.refl _|apply bh.cons|apply bh.app)) ⟨_,rfl,_,⟨s,rfl,hw.mono zS⟩,gW hn,jE (λx hx=>?_) (λx=>rfl)⟩;cases b
 ·exact xcc _
 exact xO (xaZ _ zD)
theorem IQ{v i:Nat}{p:zV}(hv:v<64)(hi:i<9223372036854775808)(hb:Go.Sx.At B p [iv (v:Int)]):Rd zQ 74 #[iv (i:Int),p] B (· =.int .u64 ((if 6<=v then(if(i>>>(v-6)).testBit 0 then 18446744073709551615 else 0)else ax.mask v:Nat):Int)):=by
 refine aS λg=>G9 (Ld.at hb (λ_ h=>h) ?_);exact aa.eq (u7 hv zO hi B) (bX.mk (.refl _) rfl)
theorem vD{n v:Nat}(hn:n<=16)(hv:v<n)(B:Hp):Px zQ 32 #[iv (n:Int),iv (v:Int)] B (λr H=>∃t,r=.tuple #[t,iv 0]/\bZ H t n (λx=>x.testBit v)):=by
 refine aS λg=>HQ λb1 _ b3 _=>?_;refine aa.eq (y4 hn _) (ae.dz (Br.F (Ld.q ?_)));refine ae.lss ?_;rw[xas zO];refine dr.or (a:=false) false (λ_=>?_) rfl λgs=>Br.no ?_
 ·refine Ld.q ?_;exact ae.pN ⟨rfl,by rw[xas zO]⟩
 have Wf:=ax.rz hn;refine aa.pq (mD hn rfl zK (F:=λi=>if 6<=v then(if(i>>>(v-6)).testBit 0 then 18446744073709551615 else 0)else ax.mask v) (λi _=>by
  have:=ax.iP v;split
  ·split<;>decide
  exact this) (B:=(b1,.cells #[iv (v:Int)] 3 zZ)::B) λi hi=>IQ zO zO (Go.Sx.At.block (l:=[iv (v:Int)]) zM)) ?_
 rintro w N ⟨s,rfl,hw⟩;refine St.p ?_ ?_
 ·have:=aK hw;simpa[Value.oneCell']using this
 refine av.q ?_;refine Aj.mk (by repeat (first|exact bh.refl _|apply bh.cons|apply bh.app)) ⟨_,rfl,_,⟨s,rfl,hw.mono zS⟩,gW hn,jE (λx hx=>?_) (λx=>?_)⟩
 ·have hj:x%64<64:=xaZ _ zD;have ab2:x=64*(x/64)+x%64:=by omega
  by_cases h6:6<=v
  ·rw[xae h6];have e:x.testBit v=((x/64)>>>(v-6)).testBit 0:=by
    rw[xbC,xbS];have:=Nat.testBit_div_two_pow (n:=6) x (v-6);rw[show(2:Nat)^6=64 from rfl]at this;rw[this];congr 1;omega
   rw[e];cases ((x/64)>>>(v-6)).testBit 0
   ·exact xcc _
   exact xO hj
  rw[xad h6,ax.fj];have:=xa5 x 6 v;rw[show(2:Nat)^6=64 from rfl]at this;rw[this];simp[hj];omega
 rw[xa5];simp[hv]
end
end
section
open aq
section
variable {B:Hp}
theorem dJ{n i:Nat}{ws:zL}(hf:ax.dZ n ws):ws.getD i 0<18446744073709551616:=by
 by_cases h:i<ws.length
 ·rw[xah,xab h];exact hf.lt (xaB h)
 rw[xah,xaF zO];decide
theorem iy{n i:Nat}{ws:zL}(hf:ax.dZ n ws)(hi:i<ax.wN n):ws[i]? =some (ws.getD i 0):=by
 rw[xah,xab (by rw[hf.len];exact hi)];rfl
theorem IX{pa s:zV}{n i:Nat}{ws:zL}(ha:Go.Sx.At B pa [iv (n:Int),s])(hw:Words B s ws)(hf:ax.dZ n ws)(hi:i<ax.wN n):
  Rd zQ 114 #[iv (i:Int),pa] B (· =.int .u64 ((18446744073709551615-ws.getD i 0:Nat):Int)):=by
 refine aS λg=>Dg (ah.at ha λq hq=>Ld.at hq (λ_ h=>h) ?_);refine hw.1.ld (cc (iy hf hi)) (λ_ h=>h) ?_;exact Un.EY (dJ hf) (bX.mk (.refl _) rfl)
theorem DD{v:zV}{n:Nat}{f:aq.Fn}(ht:bZ B v n f):Px zQ 70 #[v] B (λr H=>∃t,r=.tuple #[t,iv 0]/\bZ H t n (λx=> !f x)):=by
 obtain⟨ws,⟨s,rfl,hw⟩,hf,rfl⟩:=ht;refine aS λg=>Hg λb1 _ b3 _=>?_;refine av.q ?_;refine oN λbx=>?_;refine aa.rd .here (sH (t:=⟨n,ws⟩) (by exact .head _) (hw.mono zS)) ?_;rintro w rfl;rw[xaA (show TF ⟨(n:Int),ws⟩from⟨by simp,by simpa using hf⟩)];refine Un.not (Br.no (Ld.f ?_));refine aa.pre (H':=(b3,.cells #[iv 0,.slice none 0 0] 30 zZ)::(b1,.cells #[iv (n:Int),s] 30 zZ)::B) .tail ?_;refine aa.pq (mD hf.Ac rfl zK (F:=λi=>18446744073709551615-ws.getD i 0) (λi _=>by omega) (B:=(b1,.cells #[iv (n:Int),s] 30 zZ)::B) λi hi=>IX (Go.Sx.At.block (l:=[iv (n:Int),s]) zM) (hw.mono zS) hf hi) ?_;rintro w N ⟨s',rfl,hw'⟩;refine St.p ?_ ?_
 ·have:=aK hw';simpa[Value.oneCell']using this
 refine av.q ?_;refine Aj.mk (by repeat (first|exact bh.refl _|apply bh.cons|apply bh.app)) ⟨_,rfl,_,⟨s',rfl,hw'.mono zS⟩,gW hf.Ac,jE (λx hx=>?_) (λx=>by rw[kf])⟩;rw[qX (dJ hf) (xaZ _ zD),jk hx]
def sS(op w u:Nat):Nat->Nat
 |0=>0
 |k+1=>if op.testBit k then sS op w u k|||([(18446744073709551615-w) &&& (18446744073709551615-u),(18446744073709551615-w) &&&u,w&&& (18446744073709551615-u),w&&&u].getD k 0)else sS op w u k
theorem DT{w u k:Nat}(hw:w<18446744073709551616)(hu:u<18446744073709551616):[(18446744073709551615-w) &&& (18446744073709551615-u),(18446744073709551615-w) &&&u,w&&& (18446744073709551615-u),w&&&u].getD k 0<18446744073709551616:=by
 have h1:∀a b:Nat,a<18446744073709551616->a&&&b<18446744073709551616:=λa b h=>xaR xb3 h
 match k with
 |0=>exact h1 _ _ zO
 |1=>exact h1 _ _ zO
 |2=>exact h1 _ _ hw
 |3=>exact h1 _ _ hw
 |k+4=>exact(by decide:(0:Nat)<18446744073709551616)
theorem rj{op w u:Nat}(hw:w<18446744073709551616)(hu:u<18446744073709551616):∀k,sS op w u k<18446744073709551616
 |0=>by show(0:Nat)<18446744073709551616;decide
 |k+1=>by
  unfold sS;split
  ·exact xcn (n:=64) (rj hw hu k) (DT hw hu)
  exact rj hw hu k
theorem LZ{op w u j:Nat}(hw:w<18446744073709551616)(hu:u<18446744073709551616)(hj:j<64):(sS op w u 4).testBit j=xN op (w.testBit j) (u.testBit j):=by
 have nw:=qX hw hj;have nu:=qX hu hj;simp only[sS,List.getD_cons_zero,List.getD_cons_succ];unfold xN;cases h0:op.testBit 0<;>cases h1:op.testBit 1<;>cases h2:op.testBit 2<;>cases h3:op.testBit 3<;>simp only[xa0,xaE,xaS,xcJ,xbI,nw,nu,xcc]<;>cases w.testBit j<;>cases u.testBit j<;>simp[h0,h1,h2,h3]
theorem I0{p1 p2 p3 s1 s2:zV}{n i op:Nat}{ws us:zL}(h1:Go.Sx.At B p1 [iv (n:Int),s1])(h2:Go.Sx.At B p2 [iv (n:Int),s2])(h3:Go.Sx.At B p3 [.int .u8 (op:Int)])(hw:Words B s1 ws)(hu:Words B s2 us)(hf:ax.dZ n ws)(hg:ax.dZ n us)(hop:op<16)(hi:i<ax.wN n):
  Rd zQ 115 #[iv (i:Int),p1,p2,p3] B (· =.int .u64 ((sS op (ws.getD i 0) (us.getD i 0) 4:Nat):Int)):=by
 have lw:=dJ (i:=i) hf;have lu:=dJ (i:=i) hg;refine aS λg=>Df (ah.at h1 λq hq=>Ld.at hq (λ_ h=>h) ?_);refine hw.1.ld (cc (iy hf hi)) (λ_ h=>h) ?_;refine ah.at h2 λq hq=>Ld.at hq (λ_ h=>h) ?_;refine hu.1.ld (cc (iy hg hi)) (λ_ h=>h) ?_;generalize ws.getD i 0=w at*;generalize us.getD i 0=u at*;refine Un.EY lw (Un.EY lu ?_);refine ae.oX (by simp only[bM];omega) (by simp only[bM];omega) (Un.EY lw ?_);refine ae.oX (by simp only[bM];omega) (by simp only[bM];omega) (Un.EY lu ?_);refine ae.oX (by simp only[bM];omega) (by simp only[bM];omega) (ae.oX (by simp only[bM];omega) (by simp only[bM];omega) (ai.T8 (e:=55) zK zK zK λbx=>?_));obtain⟨ps,hps⟩:∃ps,ps=[(18446744073709551615-w) &&& (18446744073709551615-u),(18446744073709551615-w) &&&u,w&&& (18446744073709551615-u),w&&&u]:=⟨_,rfl⟩;have hI:cR .u64 [(bx,Obj.cells (au .u64 (iw ps)) 55 zZ)] (.slice (some ⟨bx,0,none⟩) 4 4) (iw ps):=by
  have:=(aL.made (T:=55) (kd:=.u64) (b:=bx) (iw ps)).ints;have hl:(iw ps).length=4:=by rw[hps];rfl
  rw[hl]at this;exact this
 have mP:ps.length=4:=by rw[hps];rfl
 have hH:(bx,Obj.cells (au .u64 [((((18446744073709551615-w) &&& (18446744073709551615-u):Nat)):Int),((((18446744073709551615-w) &&&u:Nat)):Int),(((w&&& (18446744073709551615-u):Nat)):Int),((w&&&u:Nat):Int)]) 55 zZ)=(bx,Obj.cells (au .u64 (iw ps)) 55 zZ):=by rw[hps];rfl
 rw[hH];refine aX.mk ?_;refine⟨λvs H=>∃k:Nat,vs=[.int .u64 ((sS op w u k:Nat):Int),iv (k:Int)]/\k<=4/\H=(bx,Obj.cells (au .u64 (iw ps)) 55 zZ)::B,λvs _=>4-bL vs 1,JE.mk ⟨0,rfl,by omega,rfl⟩,?_⟩;rintro w24 w25 H ⟨k,⟨⟩,hk,rfl⟩ gs;refine ae.fe (b:=4) (Br.dec (λhlt=>?_) (λhlt=>?_))
 ·intro J hJ;refine hI.ld (n:=((ps.getD k 0:Nat):Int)) (bc zO) (λ_ h=>by simp at h;rw[h];exact .head _) (Ld.at h3 (λ_ h=>.tail _ h) ?_);refine ae.pg (by simp only[bM];omega) (ae.oX (b:=1) (by have:=xcp op k;simp only[bM];omega) zD ?_);have RR:(op>>>k) &&&1=(op.testBit k).toNat:=by
   rw[ax.fO,xbC,xbS];cases op.testBit k<;>rfl
  rw[RR];refine ae.bA (b:=1) ?_;have XV:ps.getD k 0<18446744073709551616:=by rw[hps];exact DT lw lu
  cases hb:op.testBit k with
  |true=>
   refine Br.T (ae.SC (by simpa only[bM]using rj lw lu k) (by simpa only[bM]using XV) (JE.mk (hJ _ _ λgs=>?_)));exact ae.inc (az.mk ⟨k+1,by rw[sS,xae hb,hps],by omega,rfl⟩ (by simp only[bL];omega))
  |false=>
   refine Br.F (JE.mk (hJ _ _ λgs=>?_));exact ae.inc (az.mk ⟨k+1,by rw[sS,xad (by rw[hb];decide)],by omega,rfl⟩ (by simp only[bL];omega))
 obtain rfl:k=4:=by omega
 exact bX.mk .tail rfl
theorem TC{bx n:Nat}{s1 s2:zV}{ws us:zL}(h1:Words B s1 ws)(h2:Words B s2 us):gA ((bx,.cells (rows [[iv (n:Int),s1],[iv (n:Int),s2]]) 30 zZ)::B) (.slice (some ⟨bx,0,none⟩) 2 2) [⟨n,ws⟩,⟨n,us⟩]:=by
 refine⟨[[iv (n:Int),s1],[iv (n:Int),s2]],(Sl.iO (aH.made (T:=30) (k:=2) (b:=bx) _ zI) zD).mono λ_ h=>by simp at h;rw[h];exact .head _,rfl,λi r x hr hx=>?_⟩
 match i with
 |0=>simp at hr hx;subst hr;subst hx;exact⟨s1,rfl,h1.mono λ_ h=>.tail _ h⟩
 |1=>simp at hr hx;subst hr;subst hx;exact⟨s2,rfl,h2.mono λ_ h=>.tail _ h⟩
 |i+2=>simp at hr
theorem iL{v1 v2:zV}{n op:Nat}{f1 f2:aq.Fn}(hop:op<16)(h1:bZ B v1 n f1)(h2:bZ B v2 n f2):Px zQ 71 #[.int .u8 (op:Int),v1,v2] B (λr H=>∃t,r=.tuple #[t,iv 0]/\bZ H t n (λx=>xN op (f1 x) (f2 x))):=by
 obtain⟨ws,⟨s1,rfl,hw⟩,hf,rfl⟩:=h1;obtain⟨us,⟨s2,rfl,hu⟩,hg,rfl⟩:=h2;refine aS λg=>Hf λb1 _ b3 _ b5 _ b7 _=>?_;refine Ld.q ?_;refine ae.kG (b:=15) (Br.F (av.q ?_));refine av.q ?_;refine ai.QO (e:=30) (z:=.agg #[iv 0,.slice none 0 0]) zK zK zK λbx=>?_;refine aa.rd .here (sG (TC (n:=n) (hw.mono zS) (hu.mono zS)) (by show 2<2^62;decide)) ?_;rintro w rfl;rw[xaA (by
  intro t ht;simp only[xaf,xao,xaQ]at ht;rcases ht with rfl|rfl
  ·exact⟨⟨by simp,by simpa using hf⟩,rfl⟩
  exact⟨⟨by simp,by simpa using hg⟩,rfl⟩)]
 refine Un.not (Br.no (Ld.f ?_));refine aa.pre (H':=(b7,.cells #[iv 0,.slice none 0 0] 30 zZ)::(b5,.cells #[iv (n:Int),s2] 30 zZ)::(b3,.cells #[iv (n:Int),s1] 30 zZ)::(b1,.cells #[.int .u8 (op:Int)] 5 zZ)::B) .tail ?_;refine aa.pq (mD hf.Ac rfl zK (F:=λi=>sS op (ws.getD i 0) (us.getD i 0) 4) (λi _=>rj (dJ hf) (dJ hg) 4) (B:=(b5,.cells #[iv (n:Int),s2] 30 zZ)::(b3,.cells #[iv (n:Int),s1] 30 zZ)::(b1,.cells #[.int .u8 (op:Int)] 5 zZ)::B)
  λi hi=>I0 (Go.Sx.At.block (l:=[iv (n:Int),s1]) zM) (Go.Sx.At.block (l:=[iv (n:Int),s2]) zM) (Go.Sx.At.block (l:=[.int .u8 (op:Int)]) zM) (hw.mono zS) (hu.mono zS) hf hg hop hi) ?_
 rintro w N ⟨s',rfl,hw'⟩;refine St.p ?_ ?_
 ·have:=aK hw';simpa[Value.oneCell']using this
 refine av.q ?_;refine Aj.mk (by repeat (first|exact bh.refl _|apply bh.cons|apply bh.app)) ⟨_,rfl,_,⟨s',rfl,hw'.mono zS⟩,gW hf.Ac,jE (λx hx=>?_) (λx=>by rw[kf,kf])⟩;rw[LZ (dJ hf) (dJ hg) (xaZ _ zD),jk hx,jk hx]
theorem IY{p1 p2 p3 s1 s2 s3:zV}{n i:Nat}{ws us rs:zL}(h1:Go.Sx.At B p1 [iv (n:Int),s1])(h2:Go.Sx.At B p2 [iv (n:Int),s2])(h3:Go.Sx.At B p3 [iv (n:Int),s3])(hw:Words B s1 ws)(hu:Words B s2 us)(hr:Words B s3 rs)(hf:ax.dZ n ws)(hg:ax.dZ n us)(hh:ax.dZ n rs)(hi:i<ax.wN n):
  Rd zQ 77 #[iv (i:Int),p1,p2,p3] B (· =.int .u64 (((ws.getD i 0&&&us.getD i 0)|||((18446744073709551615-ws.getD i 0) &&&rs.getD i 0):Nat):Int)):=by
 have lw:=dJ (i:=i) hf;have lu:=dJ (i:=i) hg;have lr:=dJ (i:=i) hh;refine aS λg=>G6 (ah.at h1 λq hq=>Ld.at hq (λ_ h=>h) ?_);refine hw.1.ld (cc (iy hf hi)) (λ_ h=>h) ?_;refine ah.at h2 λq hq=>Ld.at hq (λ_ h=>h) ?_;refine hu.1.ld (cc (iy hg hi)) (λ_ h=>h) ?_;refine ae.oX (by simpa only[bM]using lw) (by simpa only[bM]using lu) (ah.at h1 λq hq=>Ld.at hq (λ_ h=>h) ?_);refine hw.1.ld (cc (iy hf hi)) (λ_ h=>h) ?_;refine Un.EY lw ?_;refine ah.at h3 λq hq=>Ld.at hq (λ_ h=>h) ?_;refine hr.1.ld (cc (iy hh hi)) (λ_ h=>h) ?_;exact ae.oX (by simp only[bM];omega) (by simpa only[bM]using lr) (ae.SC (xaR xb3 (by simpa only[bM]using lw)) (xaR xb3 (by simp only[bM];omega)) (bX.mk (.refl _) rfl))
theorem TA{bx n:Nat}{s1 s2 s3:zV}{ws us rs:zL}(h1:Words B s1 ws)(h2:Words B s2 us)(h3:Words B s3 rs):gA ((bx,.cells (rows [[iv (n:Int),s1],[iv (n:Int),s2],[iv (n:Int),s3]]) 30 zZ)::B) (.slice (some ⟨bx,0,none⟩) 3 3) [⟨n,ws⟩,⟨n,us⟩,⟨n,rs⟩]:=by
 refine⟨[[iv (n:Int),s1],[iv (n:Int),s2],[iv (n:Int),s3]],(Sl.iO (aH.made (T:=30) (k:=2) (b:=bx) _ zI) zD).mono λ_ h=>by simp at h;rw[h];exact .head _,rfl,λi r x hr hx=>?_⟩
 match i with
 |0=>simp at hr hx;subst hr;subst hx;exact⟨s1,rfl,h1.mono λ_ h=>.tail _ h⟩
 |1=>simp at hr hx;subst hr;subst hx;exact⟨s2,rfl,h2.mono λ_ h=>.tail _ h⟩
 |2=>simp at hr hx;subst hr;subst hx;exact⟨s3,rfl,h3.mono λ_ h=>.tail _ h⟩
 |i+3=>simp at hr
theorem qV{v1 v2 v3:zV}{n:Nat}{f1 f2 f3:aq.Fn}(h1:bZ B v1 n f1)(h2:bZ B v2 n f2)(h3:bZ B v3 n f3):Px zQ 33 #[v1,v2,v3] B (λr H=>∃t,r=.tuple #[t,iv 0]/\bZ H t n (λx=>if f1 x then f2 x else f3 x)):=by
 obtain⟨ws,⟨s1,rfl,hw⟩,hf,rfl⟩:=h1;obtain⟨us,⟨s2,rfl,hu⟩,hg,rfl⟩:=h2;obtain⟨rs,⟨s3,rfl,hr⟩,hh,rfl⟩:=h3;refine aS λg=>HP λb1 _ b3 _ b5 _ b7 _=>?_;refine av.q ?_;refine av.q ?_;refine av.q ?_;refine ai.QN (e:=30) (z:=.agg #[iv 0,.slice none 0 0]) zK zK zK λbx=>?_;refine aa.rd .here (sG (TA (n:=n) (hw.mono zS) (hu.mono zS) (hr.mono zS)) (by show 3<2^62;decide)) ?_;rintro w rfl;rw[xaA (by
  intro t ht;simp only[xaf,xao,xaQ]at ht;rcases ht with rfl|rfl|rfl
  ·exact⟨⟨by simp,by simpa using hf⟩,rfl⟩
  ·exact⟨⟨by simp,by simpa using hg⟩,rfl⟩
  exact⟨⟨by simp,by simpa using hh⟩,rfl⟩)]
 refine Un.not (Br.no (Ld.f ?_));refine aa.pre (H':=(b7,.cells #[iv 0,.slice none 0 0] 30 zZ)::(b5,.cells #[iv (n:Int),s3] 30 zZ)::(b3,.cells #[iv (n:Int),s2] 30 zZ)::(b1,.cells #[iv (n:Int),s1] 30 zZ)::B) .tail ?_;have ol:∀i,(ws.getD i 0&&&us.getD i 0)|||((18446744073709551615-ws.getD i 0) &&&rs.getD i 0)<18446744073709551616:=λi=>
  xcn (n:=64) (xaR xb3 (dJ hf)) (xaR xcN (dJ hh))
 refine aa.pq (mD hf.Ac rfl zK (F:=λi=>(ws.getD i 0&&&us.getD i 0)|||((18446744073709551615-ws.getD i 0) &&&rs.getD i 0)) (λi _=>ol i) (B:=(b5,.cells #[iv (n:Int),s3] 30 zZ)::(b3,.cells #[iv (n:Int),s2] 30 zZ)::(b1,.cells #[iv (n:Int),s1] 30 zZ)::B)
  λi hi=>IY (Go.Sx.At.block (l:=[iv (n:Int),s1]) zM) (Go.Sx.At.block (l:=[iv (n:Int),s2]) zM) (Go.Sx.At.block (l:=[iv (n:Int),s3]) zM) (hw.mono zS) (hu.mono zS) (hr.mono zS) hf hg hh hi) ?_
 rintro w N ⟨s',rfl,hw'⟩;refine St.p ?_ ?_
 ·have:=aK hw';simpa[Value.oneCell']using this
 refine av.q ?_;refine Aj.mk (by repeat (first|exact bh.refl _|apply bh.cons|apply bh.app)) ⟨_,rfl,_,⟨s',rfl,hw'.mono zS⟩,gW hf.Ac,jE (λx hx=>?_) (λx=>by rw[kf,kf,kf])⟩;rw[xcJ,xbI,xbI,qX (dJ hf) (xaZ _ zD),jk hx,jk hx,jk hx];cases eB n ws x<;>cases eB n us x<;>cases eB n rs x<;>rfl
theorem rE{v:zV}{n u:Nat}{c:Bool}{f:aq.Fn}(ht:bZ B v n f)(hu:u<n):Px zQ 83 #[v,iv (u:Int),.bool c] B (λr H=>∃t,r=.tuple #[t,iv 0]/\bZ H t n (λx=>f (ax.ay x u c))):=by
 obtain⟨ws,ht,hf,rfl⟩:=ht;refine(vI ht hf hu).mono λv H h=>?_;obtain⟨hg,v',rfl,ht'⟩:=h;exact⟨hg,v',rfl,_,ht',ax.fV hf.Ac,mG hf hu c⟩
end
end
end Go.Proofs
namespace Go.Sx
open Go
section
variable {P:Program} {g:Gh} {H C:Hp} {c:Hp->Hp}
theorem aH.zm{elem k bytes:Nat}{zero:zV}{v x:zV}{rs r2:List (List zV)}(h:aH elem k v rs C)(hh:aU C H c)(hx:Sl k H x r2)(h1:∀r∈r2,∀u∈r,u.oneCell'=true)(hz:∃z:List zV,zero.cells=z.toArray/\z.length=k)
 (hb:(rs.length+r2.length)*bytes<=140737488355328)(hm:rs.length+r2.length<=9223372036854775807){K:zV->Hp->Prop}(hk:∀v' C',aH elem k v' (rs++r2) C'->K v' (c C')):App P elem k bytes zero H v x K:=by
 obtain⟨A,B,e⟩:=hh.split;have e2:=hh.spec.1;rw[e]at e2;subst e2;obtain⟨a,cap,rfl,hc⟩:=Sl.cells hx;exact aH.apps h hc hx.1 h1 hz hb hm λv' C' ho=>by have:=hk v' C' ho;rwa [e]at this
theorem ae.pw{kd:IntKind}{a b:Nat}{k:zV->Prop}(hb:b≠0)(h:k (.int kd ((a%b:Nat):Int))):ae .num .rem (.int kd a) (.int kd b) k:=
 ae.Pu zO rfl (by have:((a:Int)).tmod (b:Int)=((a%b:Nat):Int):=rfl;rw[this];exact h)
end
end Go.Sx
set_option maxRecDepth 100000
namespace Go.Proofs
open Go Go.Sx
section
open aq
abbrev fA(gb kp n:Nat)(vr vf:zV):Nat×Obj:=(gb,.cells #[ptr kp,iv (n:Int),vr,vf] 40 zZ)
structure kI(gb kp n:Nat)(vr vf:zV)(refs:zL)(fs:List (zL))(M G:Hp):Prop where
 cell:fA gb kp n vr vf∈G
 rf:cR .u32 G vr (iw refs)
 fn:∃rs,Sl 2 G vf rs/\p6 (zu M) rs (fs.map λws=>⟨n,ws⟩)
theorem kI.grow{gb kp n:Nat}{vr vf:zV}{refs:zL}{fs:List (zL)}{M M' G:Hp}(h:kI gb kp n vr vf refs fs M G)(hs:∀x∈M,x∈M'):kI gb kp n vr vf refs fs M' G:=
 ⟨h.cell,h.rf,let ⟨rs,h1,h2⟩:=h.fn;⟨rs,h1,h2.mono λ_ _ h=>h.mono hs⟩⟩
def ZH(P:Program)(f:FuncId)(args:Array zV)(M G:Hp)(Q:zV->Hp->Prop):Prop:=Fc P f args (M++G) (λw H=>∃M',H=M'++G/\bh M M'/\Q w M')
structure Tv(gb kp n:Nat)(vr vf:zV)(refs:zL)(fs:List (zL))(C B:Hp):Prop where
 cell:fA gb kp n vr vf∈B
 rf:cR .u32 B vr (iw refs)
 fn:gA B vf (fs.map λws=>⟨n,ws⟩)
 hole:∃c,aU C B c/\∀Z,fA gb kp n vr vf∈c Z
theorem Tv.cons{gb kp n:Nat}{vr vf:zV}{refs:zL}{fs:List (zL)}{C B:Hp}(h:Tv gb kp n vr vf refs fs C B)(x:Nat×Obj):Tv gb kp n vr vf refs fs C (x::B):=
 ⟨.tail _ h.cell,h.rf.mono λ_ h=>.tail _ h,h.fn.mono λ_ h=>.tail _ h,let ⟨c,hc,hm⟩:=h.hole;⟨_,.cons hc,λZ=>.tail _ (hm Z)⟩⟩
structure tG(K:Kd)(S:Nat->aq.Fn)(refs:zL)(fs:List (zL)):Prop where
 len:refs.length=fs.length
 pP:∀t∈fs,ax.dZ K.n t
 is:∀i,i<refs.length->2<=refs.getD i 0/\eB K.n (fs.getD i [])=S (refs.getD i 0)
 hold:∀s,K.hold s=refs.count s
section
variable {kp gb n:Nat} {vr vf:zV} {refs:zL} {fs:List (zL)} {K:Kd} {S:Nat->aq.Fn} {ord af tr:zL} {C B:Hp}
theorem tG.mem(h:tG K S refs fs){s:Nat}:K.hold s≠0↔s∈refs:=by
 rw[h.hold];constructor
 ·intro h0;exact xce.1 zO
 intro h1;have:=xce.2 h1;omega
theorem tG.live(h:tG K S refs fs)(hK:br kp K S ord af tr C){s:Nat}(hs:s∈refs):live K.N s:=.inr (hK.ok.mid.held s (h.mem.2 hs))
theorem tG.held(h:tG K S refs fs)(g:aq.Fn):K.held S g↔FT K.n fs g:=by
 constructor
 ·rintro⟨s,hs,rfl⟩;have hs':=h.mem.1 hs;obtain⟨i,hi,rfl⟩:=xbg.1 hs';obtain⟨h2,h3⟩:=h.is i hi;have e:refs.getD i 0=refs[i]:=by rw[xah,xab hi];rfl
  have hi':i<fs.length:=by rw[<-h.len];exact hi
  have e':fs.getD i []=fs[i]:=by rw[xah,xab hi'];rfl
  rw[e,e']at h3;exact⟨fs[i],xaB hi',h3.symm⟩
 rintro⟨t,ht,rfl⟩;obtain⟨i,hi,rfl⟩:=xbg.1 ht;have hi':i<refs.length:=by rw[h.len];exact hi
 obtain⟨h2,h3⟩:=h.is i hi';have e:refs.getD i 0=refs[i]:=by rw[xah,xab hi'];rfl
 have e':fs.getD i []=fs[i]:=by rw[xah,xab hi];rfl
 rw[e,e']at h3;exact⟨refs[i],h.mem.2 (xaB hi'),h3⟩
theorem n6{a b:zV}{f f':aq.Fn}(h1:bZ B a n f)(h2:bZ B b n f'):Rd zQ 11 #[a,b] B (λr=>∃x:Bool,r=.bool x/\(x=true↔f=f')):=by
 obtain⟨ws,⟨s1,rfl,hw⟩,hf,rfl⟩:=h1;obtain⟨us,⟨s2,rfl,hu⟩,hg,rfl⟩:=h2;have hlw:=hf.len;have hlu:=hg.len;have Wf:=ax.rz hf.Ac;refine aS λg=>Ij λb1 _ b3 _=>?_;refine Ld.f ?_;refine Ld.f ?_;refine ae.nU ?_;rw[xas zI];refine dr.or (a:=false) false (λ_=>?_) rfl λgs=>Br.no ?_
 ·refine Ld.f ?_;refine hw.1.bH ?_;refine Ld.f ?_;refine hu.1.bH ?_;rw[ag,ag];refine ae.nU ⟨rfl,?_⟩;simp only;rw[xas];show¬ws.length≠us.length;omega
 refine⟨λvs H=>∃i:Nat,vs=[iv (i:Int)]/\i<=ws.length/\H=(b3,.cells #[iv (n:Int),s2] 30 zZ)::(b1,.cells #[iv (n:Int),s1] 30 zZ)::B/\ws.take i=us.take i,λvs _=>ws.length-bL vs 0,JE.mk ⟨0,rfl,xaK _,rfl,rfl⟩,?_⟩;rintro w23 H ⟨i,⟨⟩,hi,rfl,kQ⟩ gs;refine Ld.f ?_;refine hw.1.bH ?_;rw[ag];show ae .num .lss (iv (i:Int)) (iv ((ws.length:Nat):Int)) _;refine ae.fe (Br.dec (λhlt=>?_) (λhlt=>?_))
 ·have su:i<us.length:=by omega
  refine Ld.f ?_;refine hw.1.ld (cc (xab hlt)) (λ_ h=>.tail _ (.tail _ h)) ?_;refine Ld.f ?_;refine hu.1.ld (cc (xab su)) (λ_ h=>.tail _ (.tail _ h)) ?_;refine ae.nU (Br.dec (λhne=>?_) (λhne=>?_))
  ·refine bX.mk (.skip .tail) ⟨false,rfl,by simp;intro h;exact hne (by have e:=wH hf hg h;subst e;rfl)⟩
  refine ae.inc (az.mk ⟨i+1,rfl,hlt,rfl,?_⟩ (by simp only[bL];omega));rw[xa7 hlt,xa7 su,kQ];congr 2;exact xaI hne
 obtain rfl:i=ws.length:=by omega
 rw[xbh,show ws.length=us.length by omega,xbh]at kQ;exact bX.mk (.skip .tail) ⟨true,rfl,by simp[kQ]⟩
end
end
section
open aq
section
variable {kp gb n:Nat} {vr vf:zV} {refs:zL} {fs:List (zL)} {K:Kd} {S:Nat->aq.Fn} {ord af tr:zL} {C B M G:Hp}
theorem vR(hG:kI gb kp K.n vr vf refs fs M G)(hg:tG K S refs fs)(hK:br kp K S ord af tr C)(hn:K.n<=16)(hm:refs.length<1048576){a:Nat}(ha:a<256):
  ZH zQ 5 #[ptr gb,.int .u8 (a:Int)] M G (λw H=>∃r t,w=.tuple #[u32 r,t]/\live K.N r/\bZ H t K.n (S r)):=by
 have hint:=hK.ok.mid.int;refine aS λg=>zw λb1 _=>?_;refine aO.q (Ld.v (by exact .tail _ (xaa _ hG.cell)) ?_);refine hG.rf.bH ?_;rw[ag];refine ae.fE (b:=2) (ae.pw zO ?_);have hlt:=xaZ a (show 0<refs.length+2 by omega);generalize a%(refs.length+2)=i at*;refine ae.fe (b:=2) (Br.dec (λh2=>?_) (λh2=>?_))
 ·refine Ld.v (by exact .tail _ (xaa _ hG.cell)) ?_;refine ae.bA (b:=1) (aa.pq (jm hn (decide (i=1)) M) ?_);rintro w N ⟨v,rfl,ws,⟨s,rfl,hw⟩,hf,he⟩;refine Ext.two λxh _=>?_;have h1:∀x∈[Value.int .i64 (K.n:Int),s],x.oneCell'=true:=by have:=aK hw;simpa[Value.oneCell']using this
  refine St.p h1 ?_;refine DR.self (aO.q (av.q ?_));refine St.p h1 ?_;refine av.q ?_;refine aN.here ⟨_::_::(N++M),rfl,.cons (.cons (.app (.refl _))),i,_,rfl,.inl h2,ws,⟨s,rfl,hw.mono zS⟩,hf,he.trans ?_⟩;have:i=0\/i=1:=by omega
  rcases this with rfl|rfl
  ·exact funext λx=>(hint.zero x).symm
  exact funext λx=>(hint.one x).symm
 refine DR.self (Ld.v (by exact .tail _ (xaa _ hG.cell)) ?_);refine ae.bP (b:=2) ?_;have hi:i-2<refs.length:=by omega
 refine hG.rf.ld (n:=((refs.getD (i-2) 0:Nat):Int)) (bc hi) (λ_ h=>.tail _ (xaa _ h)) (Ld.v (by exact .tail _ (xaa _ hG.cell)) ?_);refine ae.bP (b:=2) ?_;have hi':i-2<fs.length:=by rw[<-hg.len];exact hi
 have e':fs.getD (i-2) []=fs[i-2]:=by rw[xah,xab hi'];rfl
 obtain⟨rs,WA,hE⟩:=hG.fn;obtain⟨row,hrow,s,rfl,hw⟩:=hE.get (i:=i-2) (x:=⟨K.n,fs[i-2]⟩) (by rw[xat,xab hi'];rfl);refine aj.sl WA hrow λp hp=>?_;refine av.at hp rfl zD (λ_ h=>.tail _ (xaa _ h)) ?_;have h1:∀x∈[Value.int .i64 (K.n:Int),s],x.oneCell'=true:=by have:=aK hw;simpa[Value.oneCell']using this
 refine St.p h1 ?_;refine av.q ?_;obtain⟨kF,h3⟩:=hg.is (i-2) hi;have hmem:refs.getD (i-2) 0∈refs:=by rw[xah,xab hi];exact xaB hi
 exact aN.here ⟨_::M,rfl,.cons (.refl _),refs.getD (i-2) 0,_,rfl,hg.live hK hmem,fs[i-2],⟨s,rfl,hw.mono zS⟩,hg.pP _ (xaB hi'),by rw[<-e'];exact h3⟩
def Py(k v x:Nat)(f h i:aq.Fn):aq.Fn:=match k with
 |0=>λy=>y.testBit v
 |1=>λy=> !f y
 |2=>λy=>xN (x%16) (f y) (h y)
 |3=>λy=>xN (x%16) (f y) (h y)
 |4=>λy=>if f y then h y else i y
 |5=>λy=>f (ax.ay y v (decide (x%2=1)))
 |6=>λy=>xN 14 (f (ax.ay y v false)) (f (ax.ay y v true))
 |7=>λy=>xN 8 (f (ax.ay y v false)) (f (ax.ay y v true))
 |_=>λy=>if h y then f (ax.ay y v true)else f (ax.ay y v false)
structure rp where
 k:Nat
 v:Nat
 a:Nat
 b:Nat
 c:Nat
 x:Nat
structure rp.Ok(o:rp):Prop where
 k:o.k<256
 v:o.v<256
 a:o.a<256
 b:o.b<256
 c:o.c<256
 x:o.x<18446744073709551616
def rp.cells(o:rp):List zV:=[.int .u8 (o.k:Int),.int .u8 (o.v:Int),.int .u8 (o.a:Int),.int .u8 (o.b:Int),.int .u8 (o.c:Int),.int .u64 (o.x:Int)]
set_option maxHeartbeats 1000000 in
theorem IW(hG:kI gb kp K.n vr vf refs fs M G)(hn:K.n<=16)(sr:1<=K.n){o:rp}(ho:o.Ok){ft ht it:zV}{f h i:aq.Fn}(hf:bZ M ft K.n f)(hh:bZ M ht K.n h)(hi:bZ M it K.n i):
  ZH zQ 37 #[ptr gb,.agg o.cells.toArray,ft,ht,it] M G (λw H=>∃t,w=.tuple #[t,iv 0]/\bZ H t K.n (Py (o.k%9) (o.v%K.n) o.x f h i)):=by
 obtain⟨ws,⟨s1,rfl,hw⟩,hwf,rfl⟩:=hf;obtain⟨us,⟨s2,rfl,hu⟩,huf,rfl⟩:=hh;obtain⟨rs,⟨s3,rfl,hr⟩,hrf,rfl⟩:=hi;refine aS λg=>HL λb1 _ b3 _ b5 _ b7 _ b9 _=>?_;refine Ld.f ?_;refine aO.nat (by have:=ho.v;simp[bM];omega) (Ld.v (by exact .tail _ (.tail _ (.tail _ (.tail _ (.tail _ (xaa _ hG.cell)))))) ?_);refine ae.pw zO ?_;have hv:=xaZ o.v (show 0<K.n by omega);generalize o.v%K.n=v at*;refine Ld.v (by exact .tail _ (.tail _ (.tail _ (.tail _ (.tail _ (xaa _ hG.cell)))))) ?_;obtain⟨B1,yE⟩:∃B1:Hp,B1=(b7,Obj.cells #[iv (K.n:Int),s3] 30 zZ)::(b5,.cells #[iv (K.n:Int),s2] 30 zZ)::(b3,.cells #[iv (K.n:Int),s1] 30 zZ)::(b1,.cells o.cells.toArray 57 zZ)::M:=⟨_,rfl⟩;have m7:(b7,Obj.cells #[iv (K.n:Int),s3] 30 zZ)∈B1:=by rw[yE];exact .head _
 have m5:(b5,Obj.cells #[iv (K.n:Int),s2] 30 zZ)∈B1:=by rw[yE];exact .tail _ (.head _)
 have m3:(b3,Obj.cells #[iv (K.n:Int),s1] 30 zZ)∈B1:=by rw[yE];exact .tail _ (.tail _ (.head _))
 have m1:(b1,Obj.cells o.cells.toArray 57 zZ)∈B1:=by rw[yE];exact .tail _ (.tail _ (.tail _ (.head _)))
 have hsub:∀x∈M,x∈B1:=λx hx=>by rw[yE];exact .tail _ (.tail _ (.tail _ (.tail _ hx)))
 have jM:bh M B1:=by rw[yE];exact .cons (.cons (.cons (.cons (.refl _))))
 change aa zQ g _ _ ((b9,Obj.cells #[iv 0,.slice none 0 0] 30 zZ)::(((b7,Obj.cells #[iv (K.n:Int),s3] 30 zZ)::(b5,.cells #[iv (K.n:Int),s2] 30 zZ)::(b3,.cells #[iv (K.n:Int),s1] 30 zZ)::(b1,.cells o.cells.toArray 57 zZ)::M)++G)) _ _;rw[<-yE];have t1:bZ B1 (.agg #[iv (K.n:Int),s1]) K.n (eB K.n ws):=⟨ws,⟨s1,rfl,hw.mono hsub⟩,hwf,rfl⟩;have t2:bZ B1 (.agg #[iv (K.n:Int),s2]) K.n (eB K.n us):=⟨us,⟨s2,rfl,hu.mono hsub⟩,huf,rfl⟩;have t3:bZ B1 (.agg #[iv (K.n:Int),s3]) K.n (eB K.n rs):=⟨rs,⟨s3,rfl,hr.mono hsub⟩,hrf,rfl⟩;clear yE hw hu hr;have one:∀{X:Hp} {s:zV} {l:zL},Words X s l->∀x∈[Value.int .i64 (K.n:Int),s],x.oneCell'=true:=λhw=>by have:=aK hw;simpa[Value.oneCell']using this
 refine aa.pq (vD hn hv B1) ?_;rintro w N1 ⟨_,rfl,w4,⟨s4,rfl,MG⟩,ML,SR⟩;refine Ext.two λve _=>(St.p (one MG) ?_);refine av.whole (r:=[iv (K.n:Int),s1]) (by exact .tail _ (.tail _ (xac _ (xaa _ m3)))) rfl ?_;refine aa.px (.cons (.cons .left)) (rE (c:=false) (t1.mono zS) hv) ?_;rintro w N2 ⟨_,rfl,w5,⟨s5,rfl,SH⟩,hf5,he5⟩;refine Ext.two λAi _=>(St.p (one SH) ?_);refine av.whole (r:=[iv (K.n:Int),s1]) (by exact .tail _ (.tail _ (.tail _ (xac _ (xaa _ (xaa _ m3)))))) rfl ?_;refine aa.px (.cons (.cons (.cons .left))) (rE (c:=true) (t1.mono zS) hv) ?_;rintro w N3 ⟨_,rfl,w6,⟨s6,rfl,PU⟩,hf6,he6⟩;refine Ext.two λO5 _=>(St.p (one PU) ?_);obtain⟨Q,hQ⟩:∃Q:Hp,Q=N3++(N2++(N1++B1)):=⟨_,rfl⟩;have q4:bZ Q (.agg #[iv (K.n:Int),s4]) K.n (λy=>y.testBit v):=by rw[hQ];exact⟨w4,⟨s4,rfl,MG.mono zS⟩,ML,SR⟩
 have q5:bZ Q (.agg #[iv (K.n:Int),s5]) K.n (λy=>eB K.n ws (ax.ay y v false)):=by rw[hQ];exact⟨w5,⟨s5,rfl,SH.mono zS⟩,hf5,he5⟩
 have q6:bZ Q (.agg #[iv (K.n:Int),s6]) K.n (λy=>eB K.n ws (ax.ay y v true)):=by rw[hQ];exact⟨w6,⟨s6,rfl,PU⟩,hf6,he6⟩
 have Qi:∀x∈B1,x∈Q:=λx hx=>by rw[hQ];exact xaa _ (xaa _ (xaa _ hx))
 have hgQ:bh M Q:=by rw[hQ];exact .app (.app (.app jM))
 rw[<-hQ];have t1:=t1.mono Qi;have t2:=t2.mono Qi;have t3:=t3.mono Qi;have m1:=Qi _ m1;have m3:=Qi _ m3;have m5:=Qi _ m5;have m7:=Qi _ m7;clear hQ Qi jM hsub MG SH PU;have fin:∀(N4:Hp) (f:aq.Fn) (u:zV),bZ (N4++Q) u K.n f->f=Py (o.k%9) v o.x (eB K.n ws) (eB K.n us) (eB K.n rs)->
   St 2 ((O5,.cells #[iv (K.n:Int),s6] 30 zZ)::(Ai,.cells #[iv (K.n:Int),s5] 30 zZ)::(ve,.cells #[iv (K.n:Int),s4] 30 zZ)::(b9,.cells #[iv 0,.slice none 0 0] 30 zZ)::((N4++Q)++G)) (ptr b9) u λH=>av 2 H (ptr b9) λr=>
    aN (λw H=>∃M',H=M'++G/\bh M M'/\∃t,w=.tuple #[t,iv 0]/\bZ M' t K.n (Py (o.k%9) v o.x (eB K.n ws) (eB K.n us) (eB K.n rs))) (.returned (.tuple #[r,iv 0])) H:=by
  rintro N4 f u ⟨w7,⟨s7,rfl,hw7⟩,hf7,he7⟩ e;refine St.p (one hw7) ?_;refine av.q ?_;exact aN.here ⟨_::_::_::_::(N4++Q),rfl,.cons (.cons (.cons (.cons (.app hgQ)))),_,rfl,w7,⟨s7,rfl,hw7.mono zS⟩,hf7,he7.trans e⟩
 have Wb:∀{k:zV->Prop},k (.agg #[iv (K.n:Int),s1])->av 2 ((O5,.cells #[iv (K.n:Int),s6] 30 zZ)::(Ai,.cells #[iv (K.n:Int),s5] 30 zZ)::(ve,.cells #[iv (K.n:Int),s4] 30 zZ)::(b9,.cells #[iv 0,.slice none 0 0] 30 zZ)::(Q++G)) (ptr b3) k:=λhk=>
  av.whole (r:=[iv (K.n:Int),s1]) (by exact .tail _ (.tail _ (.tail _ (.tail _ (xac _ m3))))) rfl hk
 have Xu:∀{k:zV->Prop},k (.agg #[iv (K.n:Int),s2])->av 2 ((O5,.cells #[iv (K.n:Int),s6] 30 zZ)::(Ai,.cells #[iv (K.n:Int),s5] 30 zZ)::(ve,.cells #[iv (K.n:Int),s4] 30 zZ)::(b9,.cells #[iv 0,.slice none 0 0] 30 zZ)::(Q++G)) (ptr b5) k:=λhk=>
  av.whole (r:=[iv (K.n:Int),s2]) (by exact .tail _ (.tail _ (.tail _ (.tail _ (xac _ m5))))) rfl hk
 have ld7:∀{k:zV->Prop},k (.agg #[iv (K.n:Int),s3])->av 2 ((O5,.cells #[iv (K.n:Int),s6] 30 zZ)::(Ai,.cells #[iv (K.n:Int),s5] 30 zZ)::(ve,.cells #[iv (K.n:Int),s4] 30 zZ)::(b9,.cells #[iv 0,.slice none 0 0] 30 zZ)::(Q++G)) (ptr b7) k:=λhk=>
  av.whole (r:=[iv (K.n:Int),s3]) (by exact .tail _ (.tail _ (.tail _ (.tail _ (xac _ m7))))) rfl hk
 have Q8:∀{k:zV->Prop},k (.agg #[iv (K.n:Int),s5])->av 2 ((O5,.cells #[iv (K.n:Int),s6] 30 zZ)::(Ai,.cells #[iv (K.n:Int),s5] 30 zZ)::(ve,.cells #[iv (K.n:Int),s4] 30 zZ)::(b9,.cells #[iv 0,.slice none 0 0] 30 zZ)::(Q++G)) (ptr Ai) k:=λhk=>
  av.q hk
 have Q7:∀{k:zV->Prop},k (.agg #[iv (K.n:Int),s6])->av 2 ((O5,.cells #[iv (K.n:Int),s6] 30 zZ)::(Ai,.cells #[iv (K.n:Int),s5] 30 zZ)::(ve,.cells #[iv (K.n:Int),s4] 30 zZ)::(b9,.cells #[iv 0,.slice none 0 0] 30 zZ)::(Q++G)) (ptr O5) k:=λhk=>
  av.q hk
 have Q4:∀(i:Nat) (x:zV) {k:zV->Prop},o.cells[i]? =some x->k x->ah i (ptr b1) λp=>Ld ((O5,.cells #[iv (K.n:Int),s6] 30 zZ)::(Ai,.cells #[iv (K.n:Int),s5] 30 zZ)::(ve,.cells #[iv (K.n:Int),s4] 30 zZ)::(b9,.cells #[iv 0,.slice none 0 0] 30 zZ)::(Q++G)) p k:=λi x _ hx hk=>
  ah.mk (Ld.mk (v:=x) (by exact .tail _ (.tail _ (.tail _ (.tail _ (xac _ m1))))) (by simpa using hx) hk)
 refine Q4 0 _ rfl ?_;refine ae.pw (b:=9) zD ?_;have hk9:=xaZ o.k (show 0<9 by decide);have hx:=ho.x;generalize o.k%9=k at*;refine ae.bA (b:=0) (Br.dec (λh0=>?_) (λh0=>?_))
 ·subst h0;refine av.q ?_;exact fin [] _ _ q4 rfl
 refine ae.bA (b:=1) (Br.dec (λh0=>?_) (λh0=>?_))
 ·subst h0;refine Wb ?_;refine aa.pq (DD t1) ?_;rintro w N4 ⟨u,rfl,hu⟩;exact Ext.mk rfl (Ext.mk rfl (fin N4 _ u hu rfl))
 intro J hJ;have Gc:J [.bool (decide (k=2\/k=3))] ((O5,.cells #[iv (K.n:Int),s6] 30 zZ)::(Ai,.cells #[iv (K.n:Int),s5] 30 zZ)::(ve,.cells #[iv (K.n:Int),s4] 30 zZ)::(b9,.cells #[iv 0,.slice none 0 0] 30 zZ)::(Q++G)):=by
  refine hJ _ _ λgs=>?_;refine Br.dec (λVx=>?_) (λVx=>?_)
  ·refine Q4 5 _ rfl ?_;refine ae.pw (b:=16) zD ?_;have yF:=xaZ o.x (show 0<16 by decide);refine aO.q (Wb (Xu ?_));refine aa.pq (iL yF t1 t2) ?_;rintro w N4 ⟨u,rfl,hu⟩;refine Ext.mk rfl (Ext.mk rfl (fin N4 _ u hu ?_));rcases Vx with rfl|rfl<;>rfl
  refine ae.bA (b:=4) (Br.dec (λh0=>?_) (λh0=>?_))
  ·subst h0;refine Wb (Xu (ld7 ?_));refine aa.pq (qV t1 t2 t3) ?_;rintro w N4 ⟨u,rfl,hu⟩;exact Ext.mk rfl (Ext.mk rfl (fin N4 _ u hu rfl))
  refine ae.bA (b:=5) (Br.dec (λh0=>?_) (λh0=>?_))
  ·subst h0;refine Wb (Q4 5 _ rfl ?_);refine ae.pw (b:=2) zD (ae.bA (b:=1) (aa.pq (rE t1 hv) ?_));rintro w N4 ⟨u,rfl,hu⟩;exact Ext.mk rfl (Ext.mk rfl (fin N4 _ u hu rfl))
  refine ae.bA (b:=6) (Br.dec (λh0=>?_) (λh0=>?_))
  ·subst h0;refine Q8 (Q7 ?_);refine aa.pq (iL (op:=14) zD q5 q6) ?_;rintro w N4 ⟨u,rfl,hu⟩;exact Ext.mk rfl (Ext.mk rfl (fin N4 _ u hu rfl))
  refine ae.bA (b:=7) (Br.dec (λh0=>?_) (λh0=>?_))
  ·subst h0;refine Q8 (Q7 ?_);refine aa.pq (iL (op:=8) zD q5 q6) ?_;rintro w N4 ⟨u,rfl,hu⟩;exact Ext.mk rfl (Ext.mk rfl (fin N4 _ u hu rfl))
  have:k=8:=by omega
  subst this;refine Xu (Q7 (Q8 ?_));refine aa.pq (qV t2 q6 q5) ?_;rintro w N4 ⟨u,rfl,hu⟩;exact Ext.mk rfl (Ext.mk rfl (fin N4 _ u hu rfl))
 refine ae.bA (b:=2) (Br.dec (λh2=>?_) (λh2=>?_))
 ·have:decide (k=2)=decide (k=2\/k=3):=by simp[h2]
  rw[this];exact JE.mk Gc
 refine ae.bA (b:=3) ?_;have:decide (k=3)=decide (k=2\/k=3):=by simp[h2]
 rw[this];exact JE.mk Gc
end
end
end Go.Proofs
namespace Go.Sx
open Go
section
variable {P:Program} {g:Gh} {H B:Hp} {c:Hp->Hp}
theorem aa.top{f:FuncId}{args:Array zV}{Q:zV->Hp->Prop}{K:zV->Hp->Prop}{KP:List PanicEntry->Hp->Prop}(hh:aU B H c)(hc:Fc P f args B (λr H'=>∃N,H'=N++B/\Q r N))(hk:∀r N,Q r N->K r (N++H)):aa P g f args H K KP:=by
 refine(aa.fn (K:=λr H'=>∃N,H'=c (N++B)/\Q r N) (KP:=KP) hh hc λr C' ⟨N,h1,h2⟩=>⟨N,by rw[h1],h2⟩).post ?_;intro e H' h;cases e with
 |returned v=>
  obtain⟨N,rfl,hq⟩:=h;refine⟨N++H,?_,hk v N hq⟩;obtain⟨h1,F,h2⟩:=hh.spec;refine .perm ((h2 (N++B)).trans ?_);rw[h1,xaj];exact xbH N (h2 B).symm
 |panicked ch=>exact⟨H',.refl _,h⟩
 |outgrown=>exact⟨H',.refl _,h⟩
theorem aG.qJ{x:Nat×Obj}(h:x∈H):aG H [x]:=by
 obtain⟨A,D,rfl⟩:=xcT h;exact .eE (aG.left (A:=[x]))
end
end Go.Sx
set_option maxRecDepth 100000
namespace Go.Proofs
open Go Go.Sx
section
open aq
section
variable {kp gb n:Nat} {vr vf:zV} {refs:zL} {fs:List (zL)} {K:Kd} {S:Nat->aq.Fn} {ord af tr:zL} {C B:Hp}
theorem br.perm(hK:br kp K S ord af tr C):ord.Perm (List.range K.n):=by
 have jD:=hK.od;refine iN ?_ (λx hx=>?_) (by rw[xaT,jD.len];exact xak _)
 ·refine List.pairwise_iff_getElem.2 λi j hi hj hij e=>?_;have g1:=(jD.at' i (by rw[<-jD.len];exact hi)).2;have g2:=(jD.at' j (by rw[<-jD.len];exact hj)).2;rw[xah,xab hi,e]at g1;rw[xah,xab hj]at g2;omega
 obtain⟨i,hi,rfl⟩:=xbg.1 hx;rw[jD.len]at hi;have:=(jD.at' i hi).1;rw[xah,xab (by rw[jD.len];exact hi)]at this;exact xaV.2 this
theorem Bw{p:zL}{m:Nat}(h:p.Perm (List.range m)):me (iw p):=by
 rw[mL,ag,h.length_eq,xaT];exact h.map _
def nR(kp:Nat)(K:Kd)(S:Nat->aq.Fn)(ord af tr:zL)(e8:Prop)(lo hi f:aq.Fn)(w:zV)(H:Hp):Prop:=
 (∃x K' S',w=.tuple #[u32 x,iv 0]/\br kp K' S' ord af [] H/\dS K S K' S' f x)\/
 (w=.tuple #[u32 0,iv 9]/\(∃K' S' di,br kp K' S' ord af di H/\(di=[]\/di=tr)/\Kept K S K' S')/\¬Fits (aA K.n ord (λg=>((K.held S g\/g=lo)\/g=hi)\/g=f)) K.cap/\(e8\/¬Fits (aA K.n ord (λg=>K.held S g\/g=f)) K.cap))
theorem kA.ask{e8:Prop}{lo hi f:aq.Fn}{w:zV}{H:Hp}(h:kA kp K S ord af tr f w H):nR kp K S ord af tr e8 lo hi f w H:=by
 rcases h with h|⟨h1,h2,h3⟩
 ·exact .inl h
 exact .inr ⟨h1,h2,λhf=>h3 (Fits.mono (λg hg=>aJ (λg h=>h.imp (λh=>.inl (.inl h)) id) hg) hf),.inr h3⟩
theorem ru.ask{e8:Prop}(he:e8){lo hi f:aq.Fn}{w:zV}{H:Hp}(h:ru kp K S ord af tr lo hi f w H):nR kp K S ord af tr e8 lo hi f w H:=by
 rcases h with h|⟨h1,h2,h3⟩
 ·exact .inl h
 refine .inr ⟨h1,h2,λhf=>?_,.inl he⟩;rcases h3 with h3|h3|h3
 ·exact h3 (Fits.mono (λg hg=>aJ (λg h=>.inl (.inl h)) hg) hf)
 ·exact h3 (Fits.mono (λg hg=>aJ (λg h=>.inl h) hg) hf)
 exact h3 hf
theorem nR.two{e8:Prop}{lo hi f:aq.Fn}{w:zV}{H:Hp}(h:nR kp K S ord af tr e8 lo hi f w H):∃x y,w=.tuple #[x,y]:=by
 rcases h with⟨x,K',S',rfl,_⟩|⟨rfl,_⟩
 ·exact⟨_,_,rfl⟩
 exact⟨_,_,rfl⟩
theorem L2{c:Hp->Hp}(hc:aU C B c)(hcell:∀Z,fA gb kp K.n vr vf∈c Z)(hK:br kp K S ord af tr C)(sr:1<=K.n){o:rp}(ho:o.Ok){r h i:Nat}(hr:live K.N r)(hh:live K.N h)(hi:live K.N i)(hB:∀s,K.hold s+2+2^K.n<=65535):
  Fc zQ 38 #[ptr gb,.agg o.cells.toArray,u32 r,u32 h,u32 i] B (λw H=>∃C',H=c C'/\nR kp K S ord af tr (o.k%9=8) (λx=>S r (ax.ay x (o.v%K.n) false)) (λx=>S r (ax.ay x (o.v%K.n) true)) (Py (o.k%9) (o.v%K.n) o.x (S r) (S h) (S i)) w C'):=by
 have uP:1<=2^K.n:=xbE;have yq:=hK.at'.Ab;have UL:fA gb kp K.n vr vf∈B:=by rw[hc.spec.1];exact hcell C
 have yE:∀s,K.hold s+2^K.n<=65535:=λs=>by have:=hB s;omega
 have A3:∀s,K.hold s+2<65535:=λs=>by have:=hB s;omega
 have Ir:∀s,K.hold s+1<65535:=λs=>by have:=hB s;omega
 refine aS λg=>HK λb1 _=>?_;refine Ld.f ?_;refine aO.nat (by have:=ho.v;simp[bM];omega) (Ld.v (by exact .tail _ UL) ?_);refine ae.pw zO ?_;have hv:=xaZ o.v (show 0<K.n by omega);generalize o.v%K.n=v at*;have hx:=ho.x;refine Ld.f ?_;refine ae.pw (b:=9) zD ?_;have hk9:=xaZ o.k (show 0<9 by decide);generalize o.k%9=k at*;obtain⟨Q,hQ⟩:∃Q:zV->Hp->Prop,Q=λw H=>∃C',H=c C'/\nR kp K S ord af tr (k=8) (λx=>S r (ax.ay x v false)) (λx=>S r (ax.ay x v true)) (Py k v o.x (S r) (S h) (S i)) w C':=⟨_,rfl⟩;rw[<-hQ];have fin:∀w C',nR kp K S ord af tr (k=8) (λx=>S r (ax.ay x v false)) (λx=>S r (ax.ay x v true)) (Py k v o.x (S r) (S h) (S i)) w C'->
   Ext 0 w λu=>Ext 1 w λu'=>aN Q (.returned (.tuple #[u,u'])) ((b1,.cells o.cells.toArray 57 zZ)::c C'):=λw C' hA=>by
  obtain⟨x,y,rfl⟩:=hA.two;refine Ext.mk rfl (Ext.mk rfl (aN.mk .tail ?_));rw[hQ];exact⟨C',rfl,hA⟩
 have cS:∀C',aG ((b1,.cells o.cells.toArray 57 zZ)::c C') [(b1,.cells o.cells.toArray 57 zZ),fA gb kp K.n vr vf]:=λC'=>.cons (.qJ (hcell C'));refine ae.bA (b:=0) (Br.dec (λh0=>?_) (λh0=>?_))
 ·subst h0;refine Ld.v (by exact .tail _ UL) ?_;refine aa.fn (.cons hc) (EG hK hv (λs=>by have:=hB s;omega)) ?_;intro w C' hD;exact fin w C' hD.ask
 refine ae.bA (b:=1) (Br.dec (λh0=>?_) (λh0=>?_))
 ·subst h0;refine Ld.v (by exact .tail _ UL) ?_;refine aa.fn (.cons hc) (EJ hK hr yE) ?_;intro w C' hD;exact fin w C' hD.ask
 intro J hJ;have Gc:J [.bool (decide (k=2\/k=3))] ((b1,.cells o.cells.toArray 57 zZ)::B):=by
  refine hJ _ _ λgs=>?_;refine Br.dec (λVx=>?_) (λVx=>?_)
  ·refine DR.of (R:=[(b1,.cells o.cells.toArray 57 zZ),fA gb kp K.n vr vf]) (by have:=cS C;rwa [<-hc.spec.1]at this) (Ld.n ?_);refine Ld.f ?_;refine ae.pw (b:=16) zD ?_;have yF:=xaZ o.x (show 0<16 by decide);refine aO.q (aa.fn (.cons hc) (fP hK yF hr hh yE) ?_);intro w C' hD;refine⟨cS C',fin w C' ?_⟩;rcases Vx with rfl|rfl
   ·exact hD.ask
   exact hD.ask
  refine ae.bA (b:=4) (Br.dec (λh0=>?_) (λh0=>?_))
  ·subst h0;refine Ld.v (by exact .tail _ UL) ?_;refine aa.fn (.cons hc) (EK hK hr hh hi yE) ?_;intro w C' hD;exact fin w C' hD.ask
  refine ae.bA (b:=5) (Br.dec (λh0=>?_) (λh0=>?_))
  ·subst h0;refine DR.of (R:=[(b1,.cells o.cells.toArray 57 zZ),fA gb kp K.n vr vf]) (by have:=cS C;rwa [<-hc.spec.1]at this) (Ld.n ?_);refine Ld.f ?_;refine ae.pw (b:=2) zD (ae.bA (b:=1) (aa.fn (.cons hc) (vP hK hr hv Ir) ?_));intro w C' hD;exact⟨cS C',fin w C' hD.ask⟩
  have tY:2^v<18446744073709551616:=xa2 (iP hv) (xav (n:=2) zD yq);have eq6:∀e:Bool,qf e v (S r)=λy=>xN (if e then 14 else 8) (S r (ax.ay y v false)) (S r (ax.ay y v true)):=λe=>by
   funext y
   show(if e then S r (ax.ay y v false)||S r (ax.ay y v true)else S r (ax.ay y v false) &&S r (ax.ay y v true))=_;cases e<;>cases S r (ax.ay y v false)<;>cases S r (ax.ay y v true)<;>rfl
  refine ae.bA (b:=6) (Br.dec (λh0=>?_) (λh0=>?_))
  ·subst h0;refine DR.of (R:=[(b1,.cells o.cells.toArray 57 zZ),fA gb kp K.n vr vf]) (by have:=cS C;rwa [<-hc.spec.1]at this) (Ld.n ?_);refine ae.Au (a:=1) (by simp[IntKind.bits];omega) (by rw[xbc];simpa[bM]using tY) ?_;rw[xbc];refine aa.fn (.cons hc) (Gq hK hr (iP hv) A3) ?_;intro w C' hD;have:=(fW.one hv hD).ask (e8:=(6:Nat)=8) (lo:=λx=>S r (ax.ay x v false)) (hi:=λx=>S r (ax.ay x v true));rw[eq6 true]at this;exact⟨cS C',fin w C' this⟩
  refine ae.bA (b:=7) (Br.dec (λh0=>?_) (λh0=>?_))
  ·subst h0;refine DR.of (R:=[(b1,.cells o.cells.toArray 57 zZ),fA gb kp K.n vr vf]) (by have:=cS C;rwa [<-hc.spec.1]at this) (Ld.n ?_);refine ae.Au (a:=1) (by simp[IntKind.bits];omega) (by rw[xbc];simpa[bM]using tY) ?_;rw[xbc];refine aa.fn (.cons hc) (Gi hK hr (iP hv) A3) ?_;intro w C' hD;have:=(fW.one hv hD).ask (e8:=(7:Nat)=8) (lo:=λx=>S r (ax.ay x v false)) (hi:=λx=>S r (ax.ay x v true));rw[eq6 false]at this;exact⟨cS C',fin w C' this⟩
  have:k=8:=by omega
  subst this;refine Ld.v (by exact .tail _ UL) ?_;refine aa.fn (.cons hc) (OY hK hr hv hh hB) ?_;intro w C' hD;exact fin w C' (hD.ask rfl)
 refine ae.bA (b:=2) (Br.dec (λh2=>?_) (λh2=>?_))
 ·have:decide (k=2)=decide (k=2\/k=3):=by simp[h2]
  rw[this];exact JE.mk Gc
 refine ae.bA (b:=3) ?_;have:decide (k=3)=decide (k=2\/k=3):=by simp[h2]
 rw[this];exact JE.mk Gc
theorem K6(hG:Tv gb kp K.n vr vf refs fs C B)(hfr:∀t∈fs,ax.dZ K.n t)(hK:br kp K S ord af tr C)(hm:fs.length<65536){more:zV}{ms:List (zL)}(hmo:gA B more (ms.map λws=>⟨K.n,ws⟩))(hmf:∀t∈ms,ax.dZ K.n t)(hml:ms.length<=1)(yu:K.n<=16):
  Px zQ 39 #[ptr gb,more] B (λw H=>w=iv ((dI K.n ord (fs++ms) K.n:Nat):Int)):=by
 refine aS λg=>HJ (ai.none (e:=30) (k:=2) (z:=.agg #[iv 0,.slice none 0 0]) zK zK zK λbx=>?_);refine Ld.v (by exact .tail _ hG.cell) ?_;obtain⟨rf,hSf,Zd⟩:=hG.fn;obtain⟨rm,hSm,Zc⟩:=hmo;have lf:rf.length=fs.length:=by rw[Zd.1,xaz]
 have lm:rm.length=ms.length:=by rw[Zc.1,xaz]
 have Jx:∀{X:Hp} {rs:List (List zV)} {ts:List Tb},p6 (zu X) rs ts->∀r∈rs,∀u∈r,u.oneCell'=true:=λhE r hr u hu=>by
  obtain⟨i,hi,rfl⟩:=xbg.1 hr;obtain⟨s,hs,hw⟩:=hE.2 i _ _ (xab hi) (xab (by rw[<-hE.1];exact hi));rw[hs]at hu;simp only[xaf,xao,xaQ]at hu;rcases hu with rfl|rfl
  ·rfl
  exact aK hw
 have MO:aH 30 2 (.slice (some ⟨bx,0,none⟩) 0 0) [] [(bx,.cells (rows []) 30 zZ)]:=aH.made [] zI;refine MO.zm (C:=[(bx,.cells (rows []) 30 zZ)]) (c:=λX=>X++B) (aU.left (C:=[(bx,.cells (rows []) 30 zZ)])) (hSf.mono zS) (Jx Zd) ⟨[iv 0,.slice none 0 0],rfl,rfl⟩ (by simp only[xbe];omega) (by simp only[xbe];omega) λv8 C8 h8=>?_;refine h8.zm .left (hSm.mono λ_ h=>xaa _ h) (Jx Zc) ⟨[iv 0,.slice none 0 0],rfl,rfl⟩ (by simp only[xaW];omega) (by simp only[xaW];omega) λTx C12 h12=>?_;refine Ld.v (by exact xaa _ hG.cell) ?_;obtain⟨c,hc,_⟩:=hG.hole;refine aa.top (Q:=λr N=>aL 3 .i64 r (iw ord) N) (.app hc) (pE hK.rep) ?_;intro vo N ho;have hT:gA (N++(C12++B)) Tx ((fs++ms).map λws=>⟨K.n,ws⟩):=by
  refine⟨[]++rf++rm,(Sl.iO h12 zD).mono λ_ h=>xaa _ (xac _ h),?_,λi r x hr hx=>?_⟩
  ·simp only[xaW,xai,xaz];omega
  rw[xaW]at hr;rw[xaG]at hx;by_cases hi:i<rf.length
  ·rw[xaH hi]at hr;rw[xaH (by rw[xaz];omega)]at hx;obtain⟨s,h1,h2⟩:=Zd.2 i r x hr hx;exact⟨s,h1,h2.mono zS⟩
  rw[xaU zO]at hr;rw[xaU (by rw[xaz];omega)]at hx;rw[xaz,<-lf]at hx;obtain⟨s,h1,h2⟩:=Zc.2 _ r x hr hx;exact⟨s,h1,h2.mono zS⟩
 refine aa.pq (Nl hT (λt ht=>(xal.1 ht).elim (hfr t) (hmf t)) yu (by rw[xai];omega) (ho.ints.mono λ_ h=>xac _ h) hK.od.len (Bw hK.perm)) ?_;rintro w N2 rfl;exact Ext.two (ae.dz (Br.F (Aj.mk (by repeat (first|exact bh.refl _|apply bh.cons|apply bh.app)) rfl)))
end
end
section
open aq
section
variable {kp gb n:Nat} {vr vf:zV} {refs:zL} {fs:List (zL)} {K:Kd} {S:Nat->aq.Fn} {ord af tr:zL} {C B:Hp}
theorem aH.one{T:TypeId}{k:Nat}{v:zV}{l:List (List zV)}(h:aH T k v l C):v.oneCell'=true:=by obtain⟨a,c,e⟩:=aH.len h;rw[e];rfl
theorem OL{r:Nat}(h2:r<2){s:zV}(B:Hp):Fc zQ 40 #[ptr gb,u32 r,.agg #[iv (n:Int),s]] B (λ_ H=>H=B):=by
 refine aS λg=>vz λb1 _=>?_;exact ae.kG (b:=1) (Br.F (aN.mk .tail rfl))
theorem OK{r:Nat}(h2:2<=r){s:zV}{CR CF D:Hp}{rs:List (List zV)}(hr:aL 27 .u32 vr (iw refs) CR)(hf:aH 30 2 vf rs CF)(hs:s.oneCell'=true)(xd:refs.length<1048576)(qp:rs.length<1048576):
  Fc zQ 40 #[ptr gb,u32 r,.agg #[iv (n:Int),s]] (fA gb kp n vr vf::(CR++(CF++D))) (λ_ H=>∃DA MD IA MW,H=fA gb kp n DA MD::(IA++(MW++D))/\aL 27 .u32 DA (iw (refs++[r])) IA/\aH 30 2 MD (rs++[[iv (n:Int),s]]) MW):=by
 refine aS λg=>vz λb1 _=>?_;refine ae.kG (b:=1) (Br.T (Ld.n ?_));refine ai.int (e:=27) zK zK zK λbx=>?_;refine hr.kx (x:=(r:Int)) (.cons (.cons (.cons .left))) (by exact .head _) (by rw[ag];omega) (by rw[ag];omega) λDA IA hr'=>?_;refine Nil.ptr (ah.mk (St.one (by exact .tail (.tail (.head _))) hr'.one zI rfl ?_));refine DR.of (R:=[(b1,.cells #[iv (n:Int),s] 30 zZ),fA gb kp n DA vf]) (.skip (.cons (aG.left (A:=[_])))) (Ld.n ?_);refine av.q ?_;refine oN λby'=>?_;refine⟨.skip (.skip (.cons (aG.left (A:=[_])))),?_⟩;have h1:∀u∈[Value.int .i64 (n:Int),s],u.oneCell'=true:=by simpa[Value.oneCell']using hs
 refine hf.kx (r:=[iv (n:Int),s]) (.cons (.cons (.cons (.cons (.app .left))))) (by exact .head _) rfl h1 ⟨[iv 0,.slice none 0 0],rfl,rfl⟩ zO zO λMD MW wy=>?_;refine⟨.skip (.skip (.cons (aG.left (A:=[_])))),?_⟩;refine Nil.ptr (ah.mk (St.one (by exact .tail (.tail (.tail (.head _)))) (aH.one wy) zI rfl ?_));refine aN.mk (.skip (.skip .tail)) ⟨DA,MD,IA,MW,rfl,?_,wy⟩;rw[bV];exact hr'
structure Mx(gb kp:Nat)(K:Kd)(S:Nat->aq.Fn)(ord af tr:zL)(refs:zL)(fs:List (zL))(vr vf:zV)(M CR CF C:Hp)(rs:List (List zV)):Prop where
 ks:br kp K S ord af tr C
 yO:tG K S refs fs
 rf:aL 27 .u32 vr (iw refs) CR
 fn:aH 30 2 vf rs CF
 row:p6 (zu M) rs (fs.map λws=>⟨K.n,ws⟩)
abbrev gG(gb kp n:Nat)(vr vf:zV)(CR CF C:Hp):Hp:=fA gb kp n vr vf::(CR++(CF++C))
theorem Mx.look{rs:List (List zV)}{M CR CF:Hp}(h:Mx gb kp K S ord af tr refs fs vr vf M CR CF C rs):kI gb kp K.n vr vf refs fs M (gG gb kp K.n vr vf CR CF C):=
 ⟨.head _,h.rf.ints.mono λ_ h=>.tail _ (xac _ h),rs,(Sl.iO h.fn zD).mono λ_ h=>.tail _ (xaa _ (xac _ h)),h.row⟩
theorem Mx.Np{rs:List (List zV)}{M CR CF:Hp}(h:Mx gb kp K S ord af tr refs fs vr vf M CR CF C rs):rs.length=refs.length:=by
 rw[h.row.1,xaz,h.yO.len]
theorem tG.more(h:tG K S refs fs)(hK:br kp K S ord af tr C){K':Kd}{S':Nat->aq.Fn}{f:aq.Fn}{x:Nat}{t:zL}(hg:dS K S K' S' f x)(hf:ax.dZ K.n t)(ht:eB K.n t=f):(2<=x->tG K' S' (refs++[x]) (fs++[t]))/\(x<2->tG K' S' refs fs):=by
 have old:∀i,i<refs.length->2<=refs.getD i 0/\eB K'.n (fs.getD i [])=S' (refs.getD i 0):=λi hi=>by
  obtain⟨h1,h2⟩:=h.is i hi;have hm:refs.getD i 0∈refs:=by rw[xah,xab hi];exact xaB hi
  exact⟨h1,by rw[hg.n,h2,hg.fn _ (h.live hK hm)]⟩
 refine⟨λh2=>⟨by simp[h.len],λu hu=>?_,λi hi=>?_,λs=>?_⟩,λh2=>⟨h.len,by rw[hg.n];exact h.pP,old,λs=>by rw[hg.hold,h.hold,xad zO];rfl⟩⟩
 ·rw[hg.n];rcases xal.1 hu with hu|hu
  ·exact h.pP u hu
  simp at hu;subst hu;exact hf
 ·by_cases hi':i<refs.length
  ·have e1:(refs++[x]).getD i 0=refs.getD i 0:=by rw[xah,xaH hi',<-xah]
   have e2:(fs++[t]).getD i []=fs.getD i []:=by rw[xah,xaH (by rw[<-h.len];exact hi'),<-xah]
   rw[e1,e2];exact old i hi'
  have SP:i=refs.length:=by rw[xai,xbP]at hi;omega
  have e1:(refs++[x]).getD i 0=x:=by rw[xah,xaU zO,SP,xbT];rfl
  have e2:(fs++[t]).getD i []=t:=by rw[xah,xaU (by rw[<-h.len];omega),SP,h.len,xbT];rfl
  rw[e1,e2,hg.n,ht,hg.is];exact⟨h2,rfl⟩
 rw[hg.hold,h.hold,xaX,xbB];by_cases e:s=x
 ·subst e;simp[h2]
 have:(x==s)=false:=by simpa using λe'=>e e'.symm
 simp[e,this]
theorem xR{n:Nat}{ord:zL}{f:aq.Fn}(hf:∀v,¬cF f v)(g:aq.Fn):¬aA n ord (λg=>g=f) g:=by
 rintro⟨l,hl,hg,hh⟩;rw[oD (l:=n) (λj _=>hf _) l zO g hg]at hh;exact hf _ hh
theorem dS.fits{K':Kd}{S':Nat->aq.Fn}{f:aq.Fn}{x:Nat}{di:zL}{C':Hp}(h:dS K S K' S' f x)(hK:br kp K S ord af tr C)(dc:br kp K' S' ord af di C'):Fits (aA K.n ord (λg=>K.held S g\/g=f)) K.cap:=by
 have hc:=dc.ok.size dc.od;have hr:=dc.ok.mid.room;have h2:=dc.ok.mid.cap;rw[h.n]at hc;refine Fits.mono (λg hg=>?_) ⟨K'.used-2,hc,by rw[<-h.cap];omega⟩;have old:∀g,K.held S g->K'.held S' g:=λg ⟨s,hs,e⟩=>⟨s,by show K'.hold s≠0;have:K.hold s≠0:=hs;rw[h.hold];omega,by rw[h.fn s (.inr (hK.ok.mid.held s hs)),e]⟩;by_cases h2:2<=x
 ·refine aJ (λg hg=>?_) hg;rcases hg with hg|rfl
  ·exact old g hg
  exact⟨x,by show K'.hold x≠0;rw[h.hold,xae ⟨rfl,h2⟩];omega,h.is.symm⟩
 rcases(ik g).1 hg with hg|hg
 ·exact aJ old hg
 refine absurd hg (xR (λv=>?_) g);rintro⟨y,hy⟩;rw[<-h.is]at hy;have hi:=dc.ok.mid.int;obtain rfl|rfl:x=0\/x=1:=by omega
 ·exact hy (by rw[hi.zero,hi.zero])
 exact hy (by rw[hi.one,hi.one])
theorem tG.Es(h:tG K S refs fs)(hK:br kp K S ord af tr C)(hn:K.n<=16){f:aq.Fn}{t:zL}(hf:ax.dZ K.n t)(ht:eB K.n t=f):Fits (aA K.n ord (λg=>K.held S g\/g=f)) K.cap↔dI K.n ord (fs++[t]) K.n+2<=K.cap:=by
 have hfr:∀u∈fs++[t],ax.dZ K.n u:=λu hu=>(xal.1 hu).elim (h.pP u) (λhu=>by rw[xaL.1 hu];exact hf);have hc:=Bg hfr hn (ord:=ord) (λi hi=>(hK.od.at' i hi).1);have e:(λg=>K.held S g\/g=f)=FT K.n (fs++[t]):=funext λg=>propext<|by
  rw[h.held g];constructor
  ·rintro(⟨u,hu,e⟩|rfl)
   ·exact⟨u,xac _ hu,e⟩
   exact⟨t,by simp,ht.symm⟩
  rintro⟨u,hu,e⟩;rcases xal.1 hu with hu|hu
  ·exact .inl ⟨u,hu,e⟩
  rw[xaL.1 hu,ht]at e;exact .inr e
 rw[e];constructor
 ·rintro⟨ku,h1,h2⟩;rw[hc.uniq h1];exact h2
 intro h2;exact⟨_,hc,h2⟩
theorem tG.kept{K':Kd}{S':Nat->aq.Fn}(h:tG K S refs fs)(hk:Kept K S K' S'):tG K' S' refs fs:=by
 refine⟨h.len,by rw[hk.n];exact h.pP,λi hi=>?_,λs=>by rw[hk.hold,h.hold]⟩;obtain⟨h1,h2⟩:=h.is i hi;have hm:refs.getD i 0∈refs:=by rw[xah,xab hi];exact xaB hi
 exact⟨h1,by rw[hk.n,h2,hk.fn _ (h.mem.2 hm)]⟩
def Qo(gb kp:Nat)(K:Kd)(S:Nat->aq.Fn)(ord af:zL)(refs:zL)(M0:Hp)(o:rp)(w:zV)(H:Hp):Prop:=
 w=.bool true/\∃(x a b c:Nat) (K':Kd) (S':Nat->aq.Fn) (refs':zL) (fs':List (zL)) (vr vf:zV) (M CR CF C:Hp) (rs:List (List zV)),H=M++gG gb kp K.n vr vf CR CF C/\bh M0 M/\Mx gb kp K' S' ord af [] refs' fs' vr vf M CR CF C rs/\K'.n=K.n/\K'.cap=K.cap/\
  refs'=refs++(if 2<=x then [x]else [])/\S' x=Py (o.k%9) (o.v%K.n) o.x (S a) (S b) (S c)/\live K'.N x/\(∀s,live K.N s->S' s=S s)
def VQ(gb kp:Nat)(K:Kd)(S:Nat->aq.Fn)(ord af tr:zL)(refs:zL)(fs:List (zL))(vr vf:zV)(CR CF:Hp)(rs:List (List zV))(M0:Hp)(o:rp)(w:zV)(H:Hp):Prop:=
 Qo gb kp K S ord af refs M0 o w H\/
 (w=.bool true/\∃(K':Kd) (S':Nat->aq.Fn) (di:zL) (M C':Hp),H=M++gG gb kp K.n vr vf CR CF C'/\bh M0 M/\Mx gb kp K' S' ord af di refs fs vr vf M CR CF C' rs/\Kept K S K' S'/\(di=[]\/di=tr)/\∃L:List (zL),(∀t∈L,ax.dZ K.n t)/\L.length=fs.length+3/\¬dI K.n ord L K.n+2<=K.cap)
set_option maxHeartbeats 1000000 in
theorem QT{M CR CF:Hp}{rs:List (List zV)}(h:Mx gb kp K S ord af tr refs fs vr vf M CR CF C rs)(sr:1<=K.n)(hn:K.n<=6)(hl:refs.length<=50){o:rp}(ho:o.Ok):
  Fc zQ 14 #[ptr gb,.agg o.cells.toArray] (M++gG gb kp K.n vr vf CR CF C) (VQ gb kp K S ord af tr refs fs vr vf CR CF rs M o):=by
 have hK:=h.ks;have jD:=hK.od;have hlf:fs.length<=50:=by rw[<-h.yO.len];exact hl
 have one:∀{X:Hp} {s:zV} {l:zL},Words X s l->∀x∈[Value.int .i64 (K.n:Int),s],x.oneCell'=true:=λhw=>by have:=aK hw;simpa[Value.oneCell']using this
 refine aS λg=>Ig λb1 _=>?_;refine Ld.f ?_;have PI:kI gb kp K.n vr vf refs fs ((b1,Obj.cells o.cells.toArray 57 zZ)::M) (gG gb kp K.n vr vf CR CF C):=h.look.grow λ_ h=>.tail _ h;refine aa.fq (C:=((b1,Obj.cells o.cells.toArray 57 zZ)::M)++gG gb kp K.n vr vf CR CF C) (vR PI h.yO hK zO zO ho.a) ?_;rintro w H ⟨M1,rfl,g1,r,_,rfl,lr,w1,⟨s1,rfl,gD⟩,Ir,MM⟩;have m1:=g1.sub _ (List.Mem.head _);refine Ext.two λb9 _=>(St.p (one gD) ?_);refine Ld.u (by exact .tail _ (xac _ m1)) ?_;have PG:kI gb kp K.n vr vf refs fs ((b9,Obj.cells #[iv (K.n:Int),s1] 30 zZ)::M1) (gG gb kp K.n vr vf CR CF C):=(PI.grow g1.sub).grow λ_ h=>.tail _ h;refine aa.fq (C:=((b9,Obj.cells #[iv (K.n:Int),s1] 30 zZ)::M1)++gG gb kp K.n vr vf CR CF C) (vR PG h.yO hK zO zO ho.b) ?_;rintro w H ⟨M2,rfl,g2,q,_,rfl,lq,w2,⟨s2,rfl,qZ⟩,A3,SS⟩;have m1:=g2.sub _ (List.Mem.tail _ m1);have m9:=g2.sub _ (List.Mem.head _);refine Ext.two λtF _=>(St.p (one qZ) ?_);refine Ld.u (by exact .tail _ (xac _ m1)) ?_;have PF:kI gb kp K.n vr vf refs fs ((tF,Obj.cells #[iv (K.n:Int),s2] 30 zZ)::M2) (gG gb kp K.n vr vf CR CF C):=(PG.grow g2.sub).grow λ_ h=>.tail _ h;refine aa.fq (C:=((tF,Obj.cells #[iv (K.n:Int),s2] 30 zZ)::M2)++gG gb kp K.n vr vf CR CF C) (vR PF h.yO hK zO zO ho.c) ?_;rintro w H ⟨M3,rfl,g3,p,_,rfl,lp,w3,⟨s3,rfl,NX⟩,Yv,he3⟩;have m1:=g3.sub _ (List.Mem.tail _ m1);have m9:=g3.sub _ (List.Mem.tail _ m9);have m18:=g3.sub _ (List.Mem.head _);refine Ext.two λVL _=>(St.p (one NX) ?_);refine av.whole (r:=o.cells) (by exact .tail _ (xac _ m1)) rfl ?_;refine av.whole (r:=[iv (K.n:Int),s1]) (by exact .tail _ (xac _ m9)) rfl ?_;refine av.whole (r:=[iv (K.n:Int),s2]) (by exact .tail _ (xac _ m18)) rfl ?_;refine av.q ?_;have PE:kI gb kp K.n vr vf refs fs ((VL,Obj.cells #[iv (K.n:Int),s3] 30 zZ)::M3) (gG gb kp K.n vr vf CR CF C):=(PF.grow g3.sub).grow λ_ h=>.tail _ h;have t1:bZ ((VL,Obj.cells #[iv (K.n:Int),s3] 30 zZ)::M3) (.agg #[iv (K.n:Int),s1]) K.n (S r):=⟨w1,⟨s1,rfl,gD.mono λx hx=>.tail _ (g3.sub _ (.tail _ (g2.sub _ (.tail _ hx))))⟩,Ir,MM⟩;have t2:bZ ((VL,Obj.cells #[iv (K.n:Int),s3] 30 zZ)::M3) (.agg #[iv (K.n:Int),s2]) K.n (S q):=⟨w2,⟨s2,rfl,qZ.mono λx hx=>.tail _ (g3.sub _ (.tail _ hx))⟩,A3,SS⟩;have t3:bZ ((VL,Obj.cells #[iv (K.n:Int),s3] 30 zZ)::M3) (.agg #[iv (K.n:Int),s3]) K.n (S p):=⟨w3,⟨s3,rfl,NX.mono λx hx=>.tail _ hx⟩,Yv,he3⟩;refine aa.fq (C:=((VL,Obj.cells #[iv (K.n:Int),s3] 30 zZ)::M3)++gG gb kp K.n vr vf CR CF C) (IW PE zO sr ho t1 t2 t3) ?_;rintro w H ⟨M4,rfl,g4,_,rfl,w4,⟨s4,rfl,MG⟩,ML,SR⟩;have m1:=g4.sub _ (List.Mem.tail _ m1);refine Ext.two λZD _=>(St.p (one MG) ?_);refine av.whole (r:=o.cells) (by exact .tail _ (xac _ m1)) rfl ?_;have kM:∀s,K.hold s<=50:=λs=>by
  rw[h.yO.hold];have:=xda (a:=s) (l:=refs);omega
 have tY:2^K.n<=64:=xav (n:=2) zD hn;have hv:=xaZ o.v (show 0<K.n by omega);obtain⟨M5,S6⟩:∃M5:Hp,M5=(ZD,Obj.cells #[iv (K.n:Int),s4] 30 zZ)::M4:=⟨_,rfl⟩;have T0:kI gb kp K.n vr vf refs fs M5 (gG gb kp K.n vr vf CR CF C):=by rw[S6];exact(PE.grow g4.sub).grow λ_ h=>.tail _ h
 have ZZ:(ZD,Obj.cells #[iv (K.n:Int),s4] 30 zZ)∈M5:=by rw[S6];exact .head _
 have SH:Words M5 s4 w4:=by rw[S6];exact MG.mono λ_ h=>.tail _ h
 have Xq:(b1,Obj.cells o.cells.toArray 57 zZ)∈M5:=by rw[S6];exact .tail _ m1
 have gM:bh M M5:=by rw[S6];exact .cons ((((bh.refl M).cons.trans g1).cons.trans g2).cons.trans g3|>.cons.trans g4)
 change aa zQ g _ _ (((ZD,Obj.cells #[iv (K.n:Int),s4] 30 zZ)::M4)++gG gb kp K.n vr vf CR CF C) _ _;rw[<-S6];refine aa.fq (args:=#[ptr gb,.agg o.cells.toArray,u32 r,u32 q,u32 p]) (L2 (gb:=gb) (vr:=vr) (vf:=vf) (c:=λZ=>M5++gG gb kp K.n vr vf CR CF Z) (.app (.cons (.app (.app .here)))) (λZ=>xaa _ (.head _)) hK sr ho lr lq lp (λs=>by have:=kM s;omega)) ?_;rintro w H ⟨C',rfl,hA⟩;obtain⟨x,e,K',S',di,rfl,dc,hn',jN,P8⟩:∃(x e:Nat) (K':Kd) (S':Nat->aq.Fn) (di:zL),w=.tuple #[u32 x,iv (e:Int)]/\br kp K' S' ord af di C'/\K'.n=K.n/\K'.cap=K.cap/\((e=0/\di=[]/\dS K S K' S' (Py (o.k%9) (o.v%K.n) o.x (S r) (S q) (S p)) x)\/(e=9/\x=0/\(di=[]\/di=tr)/\Kept K S K' S'/\(¬dI K.n ord (fs++[ax.jg K.n w1 (o.v%K.n) false,ax.jg K.n w1 (o.v%K.n) true,w4]) K.n+2<=K.cap)/\(o.k%9=8\/¬dI K.n ord (fs++[w4]) K.n+2<=K.cap))):=by
  rcases hA with⟨x,K',S',rfl,dc,jM⟩|⟨rfl,⟨K',S',di,dc,ot,hk⟩,hno,Kj⟩
  ·exact⟨x,0,K',S',[],rfl,dc,jM.n,jM.cap,.inl ⟨rfl,rfl,jM⟩⟩
  refine⟨0,9,K',S',di,rfl,dc,hk.n,hk.cap,.inr ⟨rfl,rfl,ot,hk,λhs=>?_,Kj.imp id λKj hs=>Kj ((h.yO.Es hK zO ML SR).2 hs)⟩⟩;refine hno (Fits.mono (λg hg=>aJ (λg h'=>?_) hg) ⟨_,Bg (L:=fs++[ax.jg K.n w1 (o.v%K.n) false,ax.jg K.n w1 (o.v%K.n) true,w4]) (λt ht=>?_) zO (λi hi=>(jD.at' i hi).1),hs⟩)
  ·rcases h' with((h'|h')|h')|h'
   ·obtain⟨t,ht,e⟩:=(h.yO.held g).1 h';exact⟨t,xac _ ht,e⟩
   ·exact⟨ax.jg K.n w1 (o.v%K.n) false,by simp,by rw[mG Ir hv,MM];exact h'⟩
   ·exact⟨ax.jg K.n w1 (o.v%K.n) true,by simp,by rw[mG Ir hv,MM];exact h'⟩
   exact⟨w4,by simp,by rw[SR];exact h'⟩
  rcases xal.1 ht with ht|ht
  ·exact h.yO.pP t ht
  simp only[xaf,xao,xaQ]at ht;rcases ht with rfl|rfl|rfl
  ·exact ax.fV zO
  ·exact ax.fV zO
  exact ML
 refine Ext.two (ae.dz (Br.F (DR.self (av.whole (r:=[iv (K.n:Int),s4]) (by exact xac _ ZZ) rfl ?_))));refine Ld.n ?_;refine oN λbs=>?_;refine⟨.tail,?_⟩;obtain⟨V7,WA,hE⟩:=T0.fn;have Ym:Tv gb kp K'.n vr vf refs fs C' ((bs,Obj.cells #[iv (K.n:Int),s4] 30 zZ)::(M5++gG gb kp K.n vr vf CR CF C')):=by
  rw[hn'];refine Tv.cons ?_ _;refine⟨xaa _ (.head _),h.rf.ints.mono λ_ h=>xaa _ (.tail _ (xac _ h)),⟨rs,(Sl.iO h.fn zD).mono λ_ h=>xaa _ (.tail _ (xaa _ (xac _ h))),h.row.mono λ_ _ h=>h.mono λ_ h=>xac _ (gM.sub _ h)⟩,
   _,.app (.cons (.app (.app .here))),λZ=>xaa _ (.head _)⟩
 have Uw:gA ((bs,Obj.cells #[iv (K.n:Int),s4] 30 zZ)::(M5++gG gb kp K.n vr vf CR CF C')) (.slice (some ⟨bs,0,none⟩) 1 1) ([w4].map λws=>⟨K'.n,ws⟩):=by
  rw[hn'];exact gA.one (cap:=0) (t:=⟨K.n,w4⟩) (.head _) (SH.mono λ_ h=>.tail _ (xac _ h))
 refine aa.pq (K6 (ms:=[w4]) Ym (by rw[hn'];exact h.yO.pP) dc zO Uw (by rw[hn'];intro t ht;simp at ht;subst ht;exact ML) zI zO) ?_;rintro w N5 rfl;refine⟨.eE .tail,?_⟩;have hsz:=gV K'.n ord (fs++[w4]) K'.n;have ach:2^K'.n*(fs++[w4]).length<=64*51:=by rw[hn',xai];exact xcK tY zP
 refine ae.fE (b:=2) (aa.eq (uJ dc.rep) (⟨.eE .tail,?_⟩));refine ae.wZ ?_;rw[jN,hn'];refine ae.bA (a:=e) (b:=9) (Br.dec (λh9=>?_) (λh9=>?_))
 ·rcases P8 with⟨h0,_⟩|⟨_,rfl,ot,hk,hno,Kj⟩
  ·omega
  refine ae.bA (a:=0) (b:=0) ?_;have hk9:=ho.k;refine dr.and (a:=true) (!decide (dI K.n ord (fs++[w4]) K.n+2<=K.cap)||decide (o.k%9=8)) (λ_=>Un.not ?_) rfl λgs=>?_
  ·refine dr.or (decide (o.k%9=8)) (λ_=>?_) rfl λgs=>⟨rfl,rfl⟩;refine Ld.u (v:=.int .u8 (o.k:Int)) (by exact xaa _ (.tail _ (xac _ Xq))) ?_;exact ae.Xo (b:=9) zD (ae.bA (b:=8) ⟨rfl,rfl⟩)
  have et:(true&& (!decide (dI K.n ord (fs++[w4]) K.n+2<=K.cap)||decide (o.k%9=8)))=true:=by
   rcases Kj with h8|h8
   ·rw[xaA h8,Bool.or_true];rfl
   rw[xas h8];rfl
  rw[et];refine aN.here (.inr ⟨rfl,K',S',di,N5++(bs,Obj.cells #[iv (K.n:Int),s4] 30 zZ)::M5,C',by rw[xaj];rfl,.app (.cons gM),⟨dc,h.yO.kept hk,h.rf,h.fn,?_⟩,hk,ot,_,λt ht=>?_,by rw[xai];rfl,hno⟩)
  ·rw[hn'];exact h.row.mono λ_ _ h=>h.mono λ_ h=>xaa _ (.tail _ (gM.sub _ h))
  rcases xal.1 ht with ht|ht
  ·exact h.yO.pP t ht
  simp only[xaf,xao,xaQ]at ht;rcases ht with rfl|rfl|rfl
  ·exact ax.fV zO
  ·exact ax.fV zO
  exact ML
 rcases P8 with⟨rfl,rfl,jM⟩|⟨h0,_⟩;rotate_left
 ·exact absurd h0 h9
 rw[xaA ((h.yO.Es hK zO ML SR).1 (jM.fits hK dc))];refine ae.dz (dr.or (a:=decide (((0:Nat):Int)≠0)) false (λ_=>Un.not ⟨rfl,rfl⟩) zI λgs=>?_);refine Br.mk (λhb=>by simp at hb) (λ_=>?_);refine av.whole (r:=[iv (K.n:Int),s4]) (by exact xaa _ (.tail _ (xac _ ZZ))) rfl ?_;have more:=h.yO.more hK jM ML SR;have row':p6 (zu (N5++(bs,Obj.cells #[iv (K.n:Int),s4] 30 zZ)::M5)) rs (fs.map λws=>⟨K'.n,ws⟩):=by
  rw[hn'];exact h.row.mono λ_ _ h=>h.mono λ_ h=>xaa _ (.tail _ (gM.sub _ h))
 have eH:N5++(bs,Obj.cells #[iv (K.n:Int),s4] 30 zZ)::(M5++gG gb kp K.n vr vf CR CF C')=(N5++(bs,Obj.cells #[iv (K.n:Int),s4] 30 zZ)::M5)++gG gb kp K.n vr vf CR CF C':=by rw[xaj];rfl
 rw[eH];by_cases AV:2<=x
 ·refine aa.fq (OK (n:=K.n) AV (s:=s4) h.rf h.fn (aK MG) zO (by rw[h.Np];omega)) ?_;rintro w H ⟨DA,MD,IA,MW,rfl,hr',wy⟩;refine aN.here (.inl ⟨rfl,x,r,q,p,K',S',refs++[x],fs++[w4],DA,MD,_,IA,MW,C',rs++[[iv (K.n:Int),s4]],rfl,.app (.cons gM),⟨dc,more.1 AV,hr',wy,?_⟩,jM.n,jM.cap,by rw[xae AV],jM.is,jM.live,jM.fn⟩);refine⟨by rw[xai,row'.1,xaG,xai];rfl,λi row t hr ht=>?_⟩;rw[xaG]at ht;by_cases hi:i<rs.length
  ·rw[xaH hi]at hr;rw[xaH (by rw[<-row'.1];exact hi)]at ht;exact row'.2 i row t hr ht
  rw[xaU zO]at hr;rw[xaU (by rw[<-row'.1];omega),<-row'.1]at ht;have h0:i-rs.length=0:=by
   have:=(xag.1 hr).1;simp at this;omega
  rw[h0]at hr ht;simp at hr ht;subst hr;subst ht;exact⟨s4,by rw[hn'],SH.mono λ_ h=>xaa _ (.tail _ h)⟩
 refine aa.fq (OL (gb:=gb) (n:=K.n) (r:=x) zO _) ?_;rintro w H rfl;exact aN.here (.inl ⟨rfl,x,r,q,p,K',S',refs,fs,vr,vf,_,CR,CF,C',rs,rfl,.app (.cons gM),⟨dc,more.2 zO,h.rf,h.fn,row'⟩,jM.n,jM.cap,by rw[xad AV,xaP],jM.is,jM.live,jM.fn⟩)
theorem Pw{M CR CF:Hp}{rs:List (List zV)}(h:Mx gb kp K S ord af tr refs fs vr vf M CR CF C rs)(sr:1<=K.n)(hn:K.n<=6)(hcap:K.cap=4000)(hl:refs.length<=50){o:rp}(ho:o.Ok):
  Fc zQ 14 #[ptr gb,.agg o.cells.toArray] (M++gG gb kp K.n vr vf CR CF C) (Qo gb kp K S ord af refs M o):=by
 refine(QT h sr hn hl ho).mono λw H hw=>?_;rcases hw with hw|⟨_,_,_,_,_,_,_,_,_,_,_,L,hf,hlen,hno⟩
 ·exact hw
 have h1:=gV K.n ord L K.n;have h2:2^K.n*L.length<=64*53:=xcK (xav (n:=2) zD hn) (by have:=h.yO.len;omega);omega
end
section
variable {B:Hp}
theorem Fx{L:zL}{j z:Nat}(hj:j<L.length)(hz:L[L.length-1]? =some z):((L.set j z).take (L.length-1)++[L.getD j 0]).Perm L:=by
 obtain⟨L',z',rfl⟩:∃L' z',L=L'++[z']:=⟨L.dropLast,L.getLast (List.ne_nil_of_length_pos zO),(xc3 _).symm⟩;have hl:(L'++[z']).length-1=L'.length:=by simp
 rw[hl]at hz⊢;have ez:z'=z:=by rw[xaU (xak _),xbT]at hz;simpa using hz
 subst ez;by_cases hj':j<L'.length
 ·rw[xcH _ _ hj',xdf zI];have e:(L'++[z']).getD j 0=L'[j]:=by rw[xah,xaH hj',xab hj'];rfl
  rw[e]
  classical
  rw[xcQ];intro x;rw[xaX,xaX,List.count_set hj',xbB,xbB];have hc:(L'[j]==x)=true->0<L'.count x:=λh=>by
   have:L'[j]=x:=by simpa using h
   exact xce.2 (this▸xaB hj')
  split<;>split<;>simp_all<;>omega
 have:j=L'.length:=by rw[xai,xbP]at hj;omega
 subst this;rw[xbZ _ _ (xak _),xbT,xdf rfl];have e:(L'++[z']).getD L'.length 0=z':=by rw[xah,xaU (xak _),xbT];rfl
 rw[e]
theorem Fb{n:Nat}(hn:n<=1048576){v:zV}{l:zL}(hl:cR .u8 B v (iw l))(h8:∀x∈l,x<256)(cO:l.length<9223372036854775808):
  Fc zQ 8 #[iv (n:Int),v] B (λw H=>∃p N,H=N++B/\p.Perm (List.range n)/\aL 3 .i64 w (iw p) N):=by
 refine aS λg=>Mr (⟨λvs H=>∃(i:Nat) (s:zV) (CL:Hp),vs=[s,iv (i:Int)]/\i<=n/\H=CL++B/\aL 3 .i64 s (iw (List.range i)) CL,λvs _=>n-bL vs 1,JE.mk ⟨0,_,[],rfl,xaK _,rfl,aL.nil⟩,?_⟩);rintro w5 w6 H ⟨i,s,CL,⟨⟩,hi,rfl,hL⟩ gs;refine ae.fe (Br.dec (λhlt=>?_) (λhlt=>?_))
 ·refine ai.int (e:=3) zK zK zK λbx=>?_;refine hL.kx (x:=(i:Int)) (.cons .left) (by exact .head _) (by rw[ag,xaT];omega) (by rw[ag,xaT];omega) λs' VZ Qd=>?_;refine ae.inc (az.of .tail ⟨i+1,s',VZ,rfl,hlt,rfl,?_⟩ (by simp only[bL];omega));rw[xcC,bV];exact Qd
 obtain rfl:i=n:=by omega
 refine⟨λvs H=>∃(k:Nat) (s t:zV) (L p:zL) (CL CP:Hp),vs=[s,t,iv (k:Int)]/\k<=i/\H=CL++(CP++B)/\aL 3 .i64 s (iw L) CL/\aL 3 .i64 t (iw p) CP/\L.length=i-k/\p.length=k/\(p++L).Perm (List.range i),λvs _=>i-bL vs 2,
  JE.mk ⟨0,_,_,_,[],CL,[],rfl,xaK _,rfl,hL,aL.nil,by simp,rfl,.refl _⟩,?_⟩
 clear hL;rintro w19 w20 w21 H ⟨k,s,t,L,p,CL,CP,⟨⟩,hk,rfl,hL,hP,YW,mP,fx⟩ gs;refine ae.fe (Br.dec (λhlt=>?_) (λhlt=>?_));rotate_left
 ·obtain rfl:k=i:=by omega
  have:L=[]:=xcr.1 zO;subst this;rw[xaP]at fx;exact aN.mk .right ⟨p,CP,rfl,fx,hP⟩
 intro J hJ;have Gc:∀j,j<L.length->J [iv (j:Int)] (CL++(CP++B)):=λj hj=>by
  refine hJ _ _ λgs=>?_;refine hL.ld (x:=((L.getD j 0:Nat):Int)) (bc hj) (λ_ h=>xac _ h) (ai.int (e:=3) zK zK zK λbx=>?_);refine hP.kx (x:=((L.getD j 0:Nat):Int)) (.cons (.app .left)) (by exact .head _) (by rw[ag];omega) (by rw[ag];omega) λt' CP' hP'=>?_;refine hL.bH ?_;rw[ag];refine ae.bP (b:=1) ?_;obtain⟨z,hz⟩:∃z,L[L.length-1]? =some z:=⟨_,xab zO⟩;refine hL.ld (x:=(z:Int)) (cc hz) (λ_ h=>.tail _ (xac _ h)) (hL.jW (x:=(z:Int)) (.cons .left) (by rw[ag];exact hj) λVZ Qd=>?_);rw[er]at Qd;refine Qd.bH ?_;rw[ag,xbG];refine ae.bP (b:=1) (Qd.cut (i:=L.length-1) (by rw[ag,xbG];omega) λs' hs'=>?_);refine ae.inc ?_;have e:(iw (L.set j z)).take (L.length-1)=iw ((L.set j z).take (L.length-1)):=by unfold iw;rw[List.map_take]
  rw[e]at hs';refine az.of .tail ⟨k+1,s',t',(L.set j z).take (L.length-1),p++[L.getD j 0],VZ,CP',rfl,hlt,rfl,hs',by rw[bV];exact hP',by rw[xbw,xbG];omega,by simp[mP],?_⟩ (by simp only[bL];omega);refine List.Perm.trans ?_ fx;rw[xaj];refine xbH _ ?_;exact xbi.trans (Fx hj hz)
 refine hl.bH ?_;rw[ag];refine ae.fe (Br.dec (λh1=>?_) (λh1=>?_))
 ·refine hl.ld (n:=((l[k]:Nat):Int)) (cc (xab h1)) (λ_ h=>xaa _ (xaa _ h)) ?_;have:=h8 _ (xaB h1);refine aO.q (hL.bH ?_);rw[ag];exact ae.pw zO (JE.mk (Gc _ (xaZ _ zO)))
 exact JE.mk (Gc 0 zO)
end
section
variable {Y:Hp}
theorem AG{n cap:Nat}(hn:1<=n/\n<=64)(hc:2<=cap/\cap<=1048576):Fc zQ 13 #[iv (n:Int),iv (cap:Int)] Y (λw H=>∃gb kp C,w=ptr gb/\H=Y++gG gb kp n (.slice none 0 0) (.slice none 0 0) [] [] C/\br kp (K0 n cap) S0 (List.range n) (List.range n) [] C):=by
 refine aS λg=>Ih (aa.fn (aU.left (C:=[]) (A:=Y)) (QW hn hc) ?_);rintro w C ⟨kp,rfl,hK⟩;refine Ext.two λJ hJ=>?_;have Gc:J [.bool false] (C++Y):=by
  refine hJ _ _ λgs=>Br.no ?_;refine Build.mk (cs:=[ptr kp,iv (n:Int),.slice none 0 0,.slice none 0 0]) zK λgb _=>?_;refine aN.mk ?_ ⟨gb,kp,C,rfl,rfl,hK⟩;refine .perm ?_;show((gb,_)::(C++Y)).Perm (Y++(fA gb kp n (.slice none 0 0) (.slice none 0 0)::C));exact(xbi (l₁:=_::C) (l₂:=Y))
 refine ae.dz (Split.go zD ?_);refine ae.bf (aB.mk (Split.go rfl (aa.eq (fw hK.rep) (ae.dz (aB.mk (Split.go (by show decide _=false;exact xas (λh=>h rfl)) ?_))))));refine aa.eq (uJ hK.rep) (ae.dz (aB.mk (Split.go (by show decide _=false;exact xas (λh=>h rfl)) ?_)));exact aa.eq (NQ hK.rep (by show 2<=2;omega) (by show 2<=1048576;omega)) (ae.dz (aB.mk (JE.mk Gc)))
def Grown(n:Nat)(Y:Hp)(w:zV)(H:Hp):Prop:=
 ∃(gb kp:Nat) (K:Kd) (S:Nat->aq.Fn) (refs:zL) (fs:List (zL)) (vr vf:zV) (M CR CF C:Hp) (rs:List (List zV)) (tr:zL),w=ptr gb/\H=M++gG gb kp n vr vf CR CF C/\bh Y M/\Mx gb kp K S (List.range n) (List.range n) tr refs fs vr vf M CR CF C rs/\K.n=n/\K.cap=4000/\n<=refs.length/\refs.length<=n+30/\tr=[]
theorem Zn{n cap:Nat}:tG (K0 n cap) S0 [] []:=⟨rfl,by simp,λi hi=>absurd hi zI,λs=>by simp[K0,Kd.hold]⟩
theorem Ap{kp:Nat}{K:Kd}{S:Nat->aq.Fn}{ord af tr:zL}{C:Hp}(hK:br kp K S ord af tr C){x v:Nat}(h:S x=λy=>y.testBit v):2<=x:=by
 refine xaI λh2=>?_;have hint:=hK.ok.mid.int;have Em:x=0\/x=1:=by omega
 rcases Em with rfl|rfl
 ·have:=congrFun h (2^v);rw[hint.zero,Nat.testBit_two_pow_self]at this;cases this
 have:=congrFun h 0;rw[hint.one,xcc]at this;cases this
theorem K7{n:Nat}(hn:1<=n/\n<=6){sv:zV}{ops:List rp}(hs:Sl 6 Y sv (ops.map rp.cells))(ho:∀o∈ops,o.Ok)(cO:ops.length<9223372036854775808):
  Fc zQ 4 #[iv (n:Int),sv] Y (Grown n Y):=by
 refine aS λg=>Mv (aa.fq (args:=#[iv (n:Int),iv ((4000:Nat):Int)]) (AG (Y:=Y) (n:=n) (cap:=4000) ⟨hn.1,by omega⟩ zD) ?_);rintro w H ⟨gb,kp,C0,rfl,rfl,hK0⟩;refine ae.bf (Br.no ?_);obtain⟨ZG,RV⟩:∃ZG:Nat->Hp->Prop,ZG=λm H=>∃(K:Kd) (S:Nat->aq.Fn) (refs:zL) (fs:List (zL)) (vr vf:zV) (M CR CF C:Hp) (rs:List (List zV)),H=M++gG gb kp n vr vf CR CF C/\bh Y M/\Mx gb kp K S (List.range n) (List.range n) [] refs fs vr vf M CR CF C rs/\K.n=n/\K.cap=4000/\n<=refs.length/\refs.length<=m:=⟨_,rfl⟩;refine⟨λvs H=>∃(i:Nat) (K:Kd) (S:Nat->aq.Fn) (refs:zL) (fs:List (zL)) (vr vf:zV) (M CR CF C:Hp) (rs:List (List zV)),vs=[iv (i:Int)]/\i<=n/\H=M++gG gb kp n vr vf CR CF C/\bh Y M/\Mx gb kp K S (List.range n) (List.range n) [] refs fs vr vf M CR CF C rs/\K.n=n/\K.cap=4000/\refs.length=i,λvs _=>n-bL vs 0,
  JE.mk ⟨0,K0 n 4000,S0,[],[],_,_,Y,[],[],C0,[],rfl,xaK _,rfl,.refl _,⟨hK0,Zn,aL.nil,aH.nil _ _,p6.nil⟩,rfl,rfl,rfl⟩,?_⟩
 rintro w8 H ⟨i,K,S,refs,fs,vr,vf,M,CR,CF,C,rs,⟨⟩,hi,rfl,hY,hG,S9,Qe,MH⟩ gs;refine ae.fe (Br.dec (λhlt=>?_) (λhlt=>?_))
 ·refine aO.q (Build.mk (cs:=(rp.mk 0 i 0 0 0 0).cells) zK ?_);subst S9;refine aa.fq (args:=#[ptr gb,.agg (rp.mk 0 i 0 0 0 0).cells.toArray]) (Pw hG hn.1 hn.2 Qe zO (o:=rp.mk 0 i 0 0 0 0) ⟨by show 0<256;omega,by show i<256;omega,by show 0<256;omega,by show 0<256;omega,by show 0<256;omega,by show 0<18446744073709551616;omega⟩) ?_;rintro w H ⟨rfl,x,a,b,c,K',S',refs',fs',DA,MD,M',IA,MW,C',V7,rfl,gM,R3,hn',jN,rfl,hx,qL,_⟩;refine Un.not (Br.no (ae.inc ?_));have h2:2<=x:=Ap R3.ks hx;rw[xae h2]at R3;exact az.mk ⟨i+1,K',S',refs++[x],fs',DA,MD,M',IA,MW,C',V7,rfl,hlt,rfl,hY.trans gM,R3,hn',jN.trans Qe,by simp[MH]⟩ (by simp only[bL];omega)
 obtain rfl:i=n:=by omega
 refine Ld.n ?_;refine hG.rf.bH ?_;rw[ag,MH];refine ae.nU (Br.F (⟨λvs H=>∃k:Nat,vs=[iv (k:Int)]/\k<=ops.length/\k<=30/\ZG (i+k) H,λvs _=>30-bL vs 0,JE.mk ⟨0,rfl,xaK _,by omega,by rw[RV];exact⟨K,S,refs,fs,vr,vf,M,CR,CF,C,rs,rfl,hY,hG,S9,Qe,by omega,by omega⟩⟩,?_⟩));clear hY hG S9 Qe MH;rintro w25 H ⟨k,⟨⟩,hk,acE,hst⟩ gs;rw[RV]at hst;obtain⟨K,S,refs,fs,vr,vf,M,CR,CF,C,rs,rfl,hY,hG,S9,Qe,Ea,wu⟩:=hst;refine(hs.mono (B':=Y) λ_ h=>h).bH ?_;rw[xaz];refine ae.fe (dr.and (a:=decide (k<ops.length)) (decide (k<30)) (λ_=>ae.fe (b:=30) ⟨rfl,rfl⟩) rfl λgs=>?_);refine Br.mk (λhb=>?_) (λhb=>?_)
 ·simp only[xay,xaO]at hb;obtain⟨h1,h3⟩:=hb;refine aj.sl hs (i:=k) (r:=ops[k].cells) (by rw[xat,xab h1];rfl) λp hp=>?_;refine av.at hp rfl zD (λ_ h=>xac _ (hY.sub _ h)) ?_;subst S9;refine aa.fq (args:=#[ptr gb,.agg ops[k].cells.toArray]) (Pw hG hn.1 hn.2 Qe zO (ho _ (xaB h1))) ?_;rintro w H ⟨rfl,x,a,b,c,K',S',refs',fs',DA,MD,M',IA,MW,C',V7,rfl,gM,R3,hn',jN,rfl,hx,qL,_⟩;refine Un.not (Br.no (ae.inc (az.mk ⟨k+1,rfl,h1,by omega,?_⟩ (by simp only[bL];omega))));rw[RV];refine⟨K',S',_,fs',DA,MD,M',IA,MW,C',V7,rfl,hY.trans gM,R3,hn',jN.trans Qe,?_,?_⟩
  ·rw[xai];omega
  rw[xai];split<;>simp<;>omega
 exact aN.here ⟨gb,kp,K,S,refs,fs,vr,vf,M,CR,CF,C,rs,[],rfl,rfl,hY,hG,S9,Qe,Ea,by omega,rfl⟩
end
theorem Jk{B:Hp}{v1 v2:zV}{p q:zL}{n:Nat}(h1:cR .i64 B v1 (iw p))(h2:cR .i64 B v2 (iw q))(hp:p.Perm (List.range n))(hq:q.Perm (List.range n))(hn:n<=64):
  Fc zQ 23 #[v1,v2] B (λr H=>∃s C,r=.tuple #[s,iv 0]/\H=C++B/\aL 3 .i64 s (iw (path p q)) C):=by
 have e1:p.length=n:=by rw[hp.length_eq,xaT]
 have e2:q.length=n:=by rw[hq.length_eq,xaT]
 have iu:q.Nodup:=hq.nodup_iff.2 xcs;have hpq:=hp.trans hq.symm;refine aS λg=>HZ (aa.eq (O2 h1 h2 hp hq hn) (ae.dz (Br.F (aa.fq (sP h1 (by rw[ag];omega)) ?_))));rintro va H ⟨CA,rfl,hA⟩;refine h2.bH ?_;rw[ag];refine⟨λvs H=>∃(i:Nat) (w9:zV) (C N:Hp),vs=[w9,iv (i:Int)]/\i<=n/\H=C++(N++B)/\aL 3 .i64 w9 (iw (ei p q i)) C/\aL 3 .i64 va (iw (cw p (ei p q i))) N,λvs _=>n-bL vs 1,
  JE.mk ⟨0,_,[],CA,rfl,xaK _,rfl,aL.nil,hA⟩,?_⟩
 rintro w9 w10 H ⟨i,u9,C,N,⟨⟩,hi,rfl,ho,hw⟩ gs;refine ae.fe (Br.dec (λhlt=>?_) (λhlt=>?_));rotate_left
 ·obtain rfl:i=q.length:=by omega
  exact aN.mk (.cM .right _) ⟨w9,C,rfl,rfl,ho⟩
 have spec:=jY iu hpq i zO;obtain⟨s1,s2,s3⟩:=spec;obtain⟨s4,s5⟩:=s3 hlt;have aal:=pA iu hpq (i+1) zO;have qp:(i+1)*p.length<=64*64:=xcK zO zO;refine h2.ld (n:=((q.getD i 0:Nat):Int)) (bc hlt) (λ_ h=>xaa _ (xaa _ h)) ?_;have hmem:q.getD i 0∈cw p (ei p q i):=by
  have:q.getD i 0∈q:=by rw[xah,xab hlt];exact xaB _
  exact((jo s1).trans hpq).mem_iff.2 this
 refine aa.eq (Fj hw.ints (by rw[ag,fX];omega)) ?_;rw[xae (QY.2 hmem),Rk];refine⟨λvs H=>∃(j:Nat) (u9:zV) (P:zL) (C N:Hp),vs=[u9,iv (j:Int)]/\i<=j/\j<n/\P++Bl i j=ei p q (i+1)/\H=C++(N++B)/\aL 3 .i64 u9 (iw P) C/\aL 3 .i64 va (iw (cw p P)) N,λvs _=>bL vs 1,
  JE.mk ⟨SB (cw p (ei p q i)) (q.getD i 0),w9,ei p q i,C,N,rfl,s4,by omega,rfl,rfl,ho,hw⟩,?_⟩
 rintro w22 w23 H ⟨j,u9,P,C2,N2,⟨⟩,hij,P2,hP,rfl,yo,qZ⟩ gs;refine ae.kG (Br.dec (λhgt=>?_) (λhgt=>?_))
 ·obtain⟨j,rfl⟩:∃k,j=k+1:=⟨j-1,by omega⟩;have hPl:P.length<=4096:=by
   have:=xbL List.length hP;rw[xai]at this;omega
  have hlen:(cw p P).length=n:=by rw[fX,e1]
  refine DR.self (ae.bP (b:=1) ?_);rw[xbQ];refine qZ.ld (x:=(((cw p P).getD (j+1) 0:Nat):Int)) (bc zO) (λ_ h=>xaa _ (xac _ h)) (ae.bP (b:=1) ?_);rw[xbQ];refine qZ.ld (x:=(((cw p P).getD j 0:Nat):Int)) (bc zO) (λ_ h=>xaa _ (xac _ h)) (qZ.jW (x:=(((cw p P).getD (j+1) 0:Nat):Int)) (.app .left) (by rw[ag];omega) λN3 NX=>?_);refine NX.jW (x:=(((cw p P).getD j 0:Nat):Int)) (.app .left) (by rw[xbG,ag];omega) λN4 MG=>?_;have e:((iw (cw p P)).set j (((cw p P).getD (j+1) 0:Nat):Int)).set (j+1) (((cw p P).getD j 0:Nat):Int)=iw (cw p (P++[j])):=by
   rw[pe];unfold ej;rw[er,er]
  rw[e]at MG;refine ae.bP (b:=1) ?_;rw[xbQ];refine ai.int (e:=3) zK zK zK λbx=>?_;refine yo.kx (.cons .left) (by exact .head _) (by rw[ag];omega) (by rw[ag];omega) λv' C3 AY=>?_;refine ae.bP (b:=1) ?_;rw[xbQ];refine az.of .tail ⟨j,v',P++[j],C3,N4,rfl,by omega,by omega,?_,rfl,by rw[bV];exact AY,MG⟩ ?_
  ·rw[<-hP,oS (show i<=j by omega),xaj];rfl
  simp only[bL];omega
 obtain rfl:j=i:=by omega
 rw[wQ (xak _),xaP]at hP;subst hP;exact ae.inc (az.of (.refl _) ⟨j+1,w22,C2,N2,rfl,by omega,rfl,yo,qZ⟩ (by simp only[bL];omega))
def wk(b kp f d:Nat)(ok:Bool):Nat×Obj:=(b,.cells #[ptr kp,iv (f:Int),iv (d:Int),.bool ok] 119 zZ)
section
variable {kp b f d:Nat} {K:Kd} {S:Nat->aq.Fn} {ord tr:zL} {C:Hp}
theorem E5(h:At kp K S ord tr C):Fc zQ 52 #[ptr kp] C (λr H=>∃b,r=ptr b/\H=wk b kp tr.length 0 false::C):=by
 refine aS λg=>Hx (aa.eq (sU h) (Build.mk (cs:=[ptr kp,iv ((tr.length:Nat):Int),iv 0,.bool false]) zK ?_));intro b _;exact aN.here ⟨b,rfl,rfl⟩
theorem IF(h:At kp K S ord tr C){l:Nat}(hl:l+1<K.n)(ot:tr.length<17592186044416)(hf:mN K S ord l)(hd:d<4611686018427387904):
  Fc zQ 55 #[ptr b,iv (l:Int)] (wk b kp f d false::C) (λr H=>r=iv 0/\∃C',H=wk b kp f (d+1) false::C'/\At kp K S (ej ord l) (tr++[l]) C'):=by
 refine aS λg=>vx (Ld.n ?_);refine aa.fq (O8 h hl ot hf) ?_;rintro v C' ⟨rfl,h'⟩;intro J hJ;refine ae.kH (Br.T (Ld.n ?_));refine ae.inc (Nil.ptr (ah.mk (St.one (by exact .head _) rfl zI rfl ?_)));exact JE.mk (hJ _ λgs=>aN.here ⟨rfl,C',rfl,h'⟩)
theorem IG(h:At kp K S ord tr C){l:Nat}(hl:l+1<K.n)(ot:tr.length<17592186044416)(hf:¬mN K S ord l):
  Rd zQ 55 #[ptr b,iv (l:Int)] (wk b kp f d false::C) (· =iv 9):=by
 refine aS λg=>vx (Ld.n ?_);refine aa.eq (Bt h hl ot hf) λJ hJ=>?_;exact ae.kH (Br.F (JE.mk (hJ _ λgs=>bX.mk (.refl _) rfl)))
theorem IJ{ok:Bool}{path:zL}(h:At kp K S (cw ord path) (tr++path) C)(hp:∀l∈path,l+1<K.n)(ot:(tr++path).length<17592186044416)(hd:d<4611686018427387904):
  Fc zQ 95 #[ptr b] (wk b kp tr.length d ok::C) (λr H=>r=.tuple #[]/\∃C',H=wk b kp tr.length (d+path.length) ok::C'/\At kp K S ord tr C'):=by
 have mP:path.length<17592186044416:=by rw[xai]at ot;omega
 refine aS λg=>GN (DR.of (R:=[wk b kp tr.length d ok]) (aG.left (A:=[_]) (B:=C)) (Ld.n ?_));refine Ld.n ?_;refine aa.fq (args:=#[ptr kp,iv ((tr.length+0:Nat):Int)]) (O3 h hp (xaK _) ot) ?_;rintro v C' ⟨rfl,h'⟩;rw[List.take_zero,xaP]at h';refine⟨aG.left (A:=[_]) (B:=C'),?_⟩;refine Ext.two (Ld.n ?_);refine ae.fE (Nil.ptr (ah.mk (St.one (by exact .head _) rfl zI rfl ?_)));exact aN.here ⟨rfl,C',rfl,h'⟩
theorem E0:Rd zQ 54 #[ptr b] (wk b kp f d true::C) (· =.tuple #[]):=by
 refine aS λg=>vy (Ld.n ?_);exact Un.not (Br.no (bX.mk (.refl _) rfl))
theorem E3{path:zL}(h:At kp K S (cw ord path) (tr++path) C)(hp:∀l∈path,l+1<K.n)(ot:(tr++path).length<17592186044416)(hd:d<4611686018427387904):
  Fc zQ 54 #[ptr b] (wk b kp tr.length d false::C) (λr H=>r=.tuple #[]/\∃C',H=wk b kp tr.length (d+path.length) false::C'/\At kp K S ord tr C'):=by
 refine aS λg=>vy (Ld.n ?_);refine Un.not (Br.yes (aa.fq (IJ h hp ot hd) ?_));rintro v H ⟨rfl,C',rfl,h'⟩;exact aN.here ⟨rfl,C',rfl,h'⟩
def EO(kp:Nat)(K:Kd)(S:Nat->aq.Fn)(ord tr ls:zL)(r:zV)(C:Hp):Prop:=
 ((rm K S).can ord ls=true/\r=.tuple #[iv ((ls.length:Nat):Int),iv 0]/\At kp K S (cw ord ls) (tr++ls) C)\/
 ((rm K S).can ord ls=false/\r=.tuple #[iv ((2*((rm K S).goes 0 ls ord).length:Nat):Int),iv 9]/\At kp K S ord tr C)
theorem NH{Y:Hp}{v:zV}{ls:zL}(h:At kp K S ord tr C)(hI:cR .i64 Y v (iw ls))(hp:∀l∈ls,l+1<K.n)(ot:tr.length+ls.length<17592186044416):
  Fc zQ 25 #[ptr kp,v] (Y++C) (λr H=>∃C',H=Y++C'/\EO kp K S ord tr ls r C'):=by
 let m:=rm K S
 have hgl:=m.yK 0 ls ord;have hpt:∀i,∀l∈ls.take i,l+1<K.n:=λi l hl=>hp l (xci hl);refine aS λg=>HX λb1 _=>?_;refine aa.fq (E5 h) ?_;rintro v3 H ⟨b,rfl,rfl⟩;intro b5 _;refine St.one (by exact .head _) rfl zI rfl ?_;refine hI.bH ?_;rw[ag];refine⟨λvs H=>∃i C2,i<=(m.goes 0 ls ord).length/\vs=[iv (i:Int)]/\H=(b5,.cells #[ptr b] 116 zZ)::(b1,.cells #[iv 0] 3 zZ)::(Y++(wk b kp tr.length i false::C2))/\At kp K S (cw ord (ls.take i)) (tr++ls.take i) C2,
  λvs _=>ls.length-bL vs 0,JE.mk ⟨0,C,xaK _,rfl,rfl,by simpa[cw]using h⟩,?_⟩
 rintro W3 H ⟨i,C2,hi,⟨⟩,rfl,h2⟩ gs;have Kp:(tr++ls.take i).length<17592186044416:=by rw[xai,xbw];omega
 refine ae.fe (Br.dec (λhlt=>?_) (λhlt=>?_))
 ·refine hI.ld (n:=((ls.getD i 0:Nat):Int)) (bc hlt) (λ_ h=>.tail _ (.tail _ (xac _ h))) ?_;have eg:ls.getD i 0=ls[i]:=by rw[xah,xab hlt];rfl
  have xd:ls.getD i 0+1<K.n:=by rw[eg];exact hp _ (xaB hlt)
  have eq:ls[i]? =some (ls.getD i 0):=by rw[eg];exact xab hlt
  refine Ld.q ?_;by_cases hg:i<(m.goes 0 ls ord).length
  ·have hf:mN K S (cw ord (ls.take i)) (ls.getD i 0):=Ay.1 (m.K8 hg eq);refine aa.fn (.cons (.cons (.app .here))) (IF h2 xd Kp hf zO) ?_;rintro r H ⟨rfl,C3,rfl,h3⟩;refine ae.dz (Br.F (ae.inc (az.mk ⟨i+1,C3,hg,rfl,rfl,?_⟩ (by simp only[bL];omega))));have e:ls.take (i+1)=ls.take i++[ls.getD i 0]:=by rw[xby,eq];rfl
   rw[e,pe,<-xaj];exact h3
  obtain rfl:i=(m.goes 0 ls ord).length:=by omega
  have hf:¬mN K S (cw ord (ls.take (m.goes 0 ls ord).length)) (ls.getD (m.goes 0 ls ord).length 0):=λhf=>by
   have h8:=m.Ge eq;have h9:=Ay.2 hf;rw[show(rm K S).fit _ _=false from h8]at h9;cases h9
  refine aa.eq (IG h2 xd Kp hf) (ae.dz (Br.T (St.one (by exact .tail (.head _)) rfl zI rfl ?_)));refine th (R:=_) ?_;unfold L53;refine Ld.q ?_;refine aa.fn (.cons (.cons (.app .here))) (E3 h2 (hpt _) Kp zO) ?_;rintro r H ⟨rfl,C3,rfl,h3⟩;refine Ld.q ?_;have eD:(m.goes 0 ls ord).length+(ls.take (m.goes 0 ls ord).length).length=2*(m.goes 0 ls ord).length:=by rw[xbw];omega
  rw[eD];refine Ld.n ?_;refine St.one (by exact .tail (.head _)) rfl zI rfl ?_;refine⟨⟨_,rfl⟩,?_⟩;refine Ld.q ?_;refine aN.mk (.skip (.skip (.cM .tail _))) ⟨C3,rfl,.inr ⟨xas (show¬(m.goes 0 ls ord).length=ls.length by omega),rfl,h3⟩⟩
 have Yf:i=ls.length:=by omega
 subst Yf;rw[xbh]at h2;have hcan:(rm K S).can ord ls=true:=xaA (show(m.goes 0 ls ord).length=ls.length by omega);refine Ld.q ?_;refine Nil.ptr (ah.mk (St.one (cT.tail (cT.tail (cT.bB (.head _) _))) rfl zI rfl ?_));refine St.one (by exact .tail (.head _)) rfl zI rfl ?_;refine th (R:=_) ?_;unfold L53;refine Ld.q ?_;refine aa.eq (B:=wk b kp tr.length ls.length true::C2) E0 (Ld.q ?_);refine Ld.n ?_;refine St.one (by exact .tail (.head _)) rfl zI rfl ?_;refine⟨⟨_,rfl⟩,?_⟩;refine Ld.q ?_;refine aN.mk (.skip (.skip (.cM .tail _))) ⟨C2,rfl,.inl ⟨hcan,rfl,h2⟩⟩
end
section
variable {kp b f d:Nat} {K:Kd} {S:Nat->aq.Fn} {ord tr:zL} {C:Hp}
theorem EO.tup{ls:zL}{r:zV}(h:EO kp K S ord tr ls r C):∃x y,r=.tuple #[x,y]:=by
 rcases h with⟨_,rfl,_⟩|⟨_,rfl,_⟩<;>exact⟨_,_,rfl⟩
theorem Jv{Y:Hp}{v:zV}{q:zL}(h:At kp K S ord tr C)(hI:cR .i64 Y v (iw q))(Ul:ord.Perm (List.range K.n))(hpq:q.Perm (List.range K.n))(ot:tr.length<17454747090944):
  Fc zQ 7 #[ptr kp,v] (Y++C) (λr H=>∃C',H=Y++C'/\EO kp K S ord tr (path ord q) r C'):=by
 have hn:=h.Ab;have Eb:ord.length=K.n:=by rw[Ul.length_eq,xaT]
 have hql:q.length=K.n:=by rw[hpq.length_eq,xaT]
 have iu:q.Nodup:=hpq.nodup_iff.2 xcs;refine aS λg=>Ms (ae.bf (Br.no ?_));intro J2 A4;refine aa.rq (js hI (by rw[ag];omega)) ?_;rintro r (⟨rfl,ha,hl⟩|⟨_,_,hl⟩|⟨_,hno⟩);rotate_left
 ·rw[ag]at hl;omega
 ·exact absurd (s8 hpq) hno
 refine ae.dz (Split.go zD ?_);refine hI.bH (aa.eq (O6 h) (ae.nU ?_));rw[xas (by rw[ag];omega)];refine aB.mk (JE.mk (A4 _ _ λgs=>Br.no ?_));refine aa.fq (L1 h) ?_;rintro vo H ⟨N,rfl,ho⟩;refine aa.pre (H':=(N++Y)++C) (.perm (by rw[xaj,<-xaj,<-xaj];exact xbi.append_right C)) (aa.fq (Jk (ho.ints.mono λ_ h=>xac _ h) (hI.mono λ_ h=>xaa _ h) Ul hpq hn) ?_);rintro r H ⟨s,CP,rfl,rfl,hP⟩;refine Ext.mk rfl (Ext.mk rfl (ae.dz (Br.F ?_)));obtain⟨_,mP⟩:=DS iu (Ul.trans hpq.symm);have aaj:(path ord q).length<=4096:=by
  have:=pA iu (Ul.trans hpq.symm) q.length (xak _);have h2:q.length*ord.length<=64*64:=xcK zO zO;unfold path;omega
 refine aa.fq (NH h (hP.ints.mono λ_ h=>xac _ h) (λx hx=>by have:=mP x hx;omega) zO) ?_;rintro r H ⟨C',rfl,hM⟩;obtain⟨x,y,rfl⟩:=hM.tup;refine Ext.two (aN.mk ?_ ⟨C',rfl,hM⟩);rw[xaj,xaj];exact aG.right.trans .right
def NL(p:Nat):Nat->Nat->Nat
 |0,_=>p
 |_,k=>p-k
def F3(n p:Nat):Nat->Nat->Nat
 |0,k=>p+k
 |_,_=>n-1
end
end
end Go.Proofs
namespace aq
open ax
section
variable {n:Nat} {ord:zL} {L:ax.Fs}
theorem Jw{n v:Nat}{t:zL}(hn:n<=16)(hf:dZ n t)(hv:v<n)(h:∀u,u<n->u≠v->¬cF (eB n t) u)(x:Nat):eB n t x=eB n t (ay 0 v (x.testBit v)):=by
 have key:∀b,eB n t (ay x v b)=eB n t (ay 0 v b):=λb=>by
  have e:=mG hf hv b;have UO:=Lt (n:=n) (ws:=jg n t v b) (λu hu=>by
   rw[e];rintro⟨y,hy⟩;simp only at hy;by_cases Wg:u=v
   ·subst Wg;rw[pn,pn]at hy;exact hy rfl
   rw[cY Wg,cY Wg]at hy;exact h u hu Wg ⟨_,hy⟩)
  have:=UO x;rw[e]at this;exact this
 have:=key (x.testBit v);rwa [jr]at this
theorem xY(hL:∀t∈L,dZ n t)(hn:n<=16)(sr:1<=n)(hp:ord.Perm (List.range n)):(jc n ord L (n-1)).length<=2:=by
 have Eb:ord.length=n:=by rw[hp.length_eq,xaT]
 have hmem:∀i,i<n->ord.getD i 0<n:=λi hi=>by
  have:ord.getD i 0∈ord:=by rw[xah,xab zO];exact xaB _
  exact xaV.1 (hp.mem_iff.1 this)
 have aI:∀u,u<n->∃j,j<n/\ord.getD j 0=u:=λu hu=>by
  obtain⟨j,hj,e⟩:=xbg.1 (hp.mem_iff.2 (xaV.2 hu));exact⟨j,by omega,by rw[xah,xab hj];exact e⟩
 have hv:=hmem (n-1) zO;have facts:∀t∈jc n ord L (n-1),dZ n t/\(∀x,eB n t x=if x.testBit (ord.getD (n-1) 0)then !eB n t 0 else eB n t 0):=by
  intro t ht;obtain⟨h1,h2⟩:=lg.1 ht;have hf:=mJ hL hn (n-1) t h1;have kR:=(wF hL hn hmem (n-1) zO (eB n t)).2 ⟨t,h1,rfl⟩;have hone:=Jw hn hf hv (λu hu hne=>by
   obtain⟨j,hj,e⟩:=aI u hu;rw[<-e];exact oE (n-1) _ kR j (by
    have:j≠n-1:=λh=>hne (by rw[<-e,h]);omega))
  have h0:eB n t (ay 0 (ord.getD (n-1) 0) false)=eB n t 0:=by
   have:=hone 0;rw[xcc]at this;exact this.symm
  obtain⟨x,hx⟩:=(pR hf hv).2 h2;have e1:=hone (ay x (ord.getD (n-1) 0) false);have e2:=hone (ay x (ord.getD (n-1) 0) true);rw[ak,xae rfl]at e1 e2;rw[e1,e2,h0]at hx;refine⟨hf,λy=>?_⟩;rw[hone y];cases hb:y.testBit (ord.getD (n-1) 0)
  ·rw[h0];simp
  rw[xae rfl];have key:∀a b:Bool,a≠b->b= !a:=by decide
  exact key _ _ hx
 have iu:(jc n ord L (n-1)).Nodup:=(mI (n-1)).filter _;have h1:((jc n ord L (n-1)).map λt=>eB n t 0).Nodup:=by
  refine xb2.2 (iu.imp_of_mem λ{a b} ha hb hne heq=>hne ?_);obtain⟨fa,ga⟩:=facts a ha;obtain⟨fb,gb⟩:=facts b hb;exact wH fa fb (funext λx=>by rw[ga,gb,heq])
 have:=bG h1 (l':=[true,false]) λb _=>by cases b<;>simp
 simpa using this
end
end aq
namespace aq
theorem EB(m:Rm){Q:zL->Prop}(hs:∀ord l,Q ord->l+1<m.n->Q (ej ord l))(hf:∀ord l,Q ord->l+1<m.n->m.fit ord l=true):∀{ls:zL} {ord:zL},Q ord->(∀x∈ls,x+1<m.n)->m.can ord ls=true
 | [],_,_,_=>xaA rfl
 |l::ls,ord,hq,hl=>by
  have h1:=hl l zI;have ih:=EB m hs hf (ls:=ls) (hs ord l hq h1) (λx hx=>hl x (by simp[hx]));unfold Rm.can at ih⊢;have:=xbK ih;rw[Rm.goes,xa1,xae (hf ord l hq h1),xar,xar,this];exact xaA rfl
end aq
set_option maxRecDepth 100000
namespace Go.Proofs
open Go Go.Sx
open aq
section
variable {kp gb n:Nat} {vr vf:zV} {refs:zL} {fs:List (zL)} {K:Kd} {S:Nat->aq.Fn} {ord tr:zL} {C Z:Hp}
theorem DP{ord:zL}(hp:ord.Perm (List.range n)):∀i,i<n->ord.getD i 0<n:=λi hi=>by
 have Eb:ord.length=n:=by rw[hp.length_eq,xaT]
 have:ord.getD i 0∈ord:=by rw[xah,xab zO];exact xaB _
 exact xaV.1 (hp.mem_iff.1 this)
theorem xz{L:List (zL)}(hn:n<=6)(sr:1<=n)(hf:∀t∈L,ax.dZ n t)(hl:L.length<=36)(hp:ord.Perm (List.range n)):dI n ord L n<=1118:=by
 have h1:=gV n ord L (n-1);have h2:=xY (L:=L) hf zO sr hp;have h3:2^(n-1)*L.length<=32*36:=xcK (xbN (xav zD (show n-1<=5 by omega)) zD) hl;have h4:2^(n-1)*L.length<=32*L.length:=xa4 _ (xbN (xav zD (show n-1<=5 by omega)) zD);have e:dI n ord L n=dI n ord L (n-1)+(jc n ord L (n-1)).length:=by
  obtain⟨m,rfl⟩:∃m,n=m+1:=⟨n-1,by omega⟩;rfl
 rw[e];omega
theorem um{l:Nat}(hp:ord.Perm (List.range n))(hl:l+1<n):(ej ord l).Perm (List.range n):=by
 have:=jo (path:=[l]) (ord:=ord) (λx hx=>by simp at hx;subst hx;rw[hp.length_eq,xaT];exact hl);exact this.trans hp
theorem JP(hg:tG K S refs fs)(hn:K.n<=6)(sr:1<=K.n)(hcap:K.cap=4000)(hl:refs.length<=36)(hp:ord.Perm (List.range K.n)){l:Nat}(uQ:l+1<K.n):mN K S ord l:=by
 have Eb:ord.length=K.n:=by rw[hp.length_eq,xaT]
 unfold mN;rw[show K.held S=FT K.n fs from funext λg=>propext (hg.held g),Qy hg.pP zO (DP hp) uQ Eb];have h1:=xz (ord:=ord) (L:=fs) hn sr hg.pP (by rw[<-hg.len];exact hl) hp;have h2:=xz (ord:=ej ord l) (L:=fs) hn sr hg.pP (by rw[<-hg.len];exact hl) (um hp uQ);have h3:(LV K.n ord l fs).length<=(sY K.n ord fs K.n++sY K.n (ej ord l) fs K.n).length:=bG (ax.jQ _) λx hx=>ax.dk.1 hx;rw[xai,iX,iX]at h3;omega
theorem OZ(hg:tG K S refs fs)(hn:K.n<=6)(sr:1<=K.n)(hcap:K.cap=4000)(hl:refs.length<=36)(hp:ord.Perm (List.range K.n)){ls:zL}(hls:∀x∈ls,x+1<K.n):(rm K S).can ord ls=true:=
 EB (rm K S) (Q:=λord=>ord.Perm (List.range K.n)) (λo l hq h=>um hq h) (λo l hq h=>Ay.2 (JP hg hn sr hcap hl hq h)) hp hls
end
end Go.Proofs
namespace Go.Sx
open Go
theorem aG.sub{H Y:Hp}(hn:(Y.map Prod.fst).Nodup)(hs:∀x∈Y,x∈H):aG H Y:=by
 intro g w h;refine⟨h.os,h.out,h.tape,?_,λx hx=>h.tV x ?_⟩
 ·have h1:=h.nd;rw[xaG,xbb]at h1⊢;refine⟨hn,h1.2.1,λa ha b hb=>h1.2.2 a ?_ b hb⟩;obtain⟨x,hx,rfl⟩:=xaq.1 ha;exact xbf (hs x hx)
 rcases xal.1 hx with hx|hx
 ·exact xac _ (hs x hx)
 exact xaa _ hx
end Go.Sx
namespace Go.Sx
open Go Go.ChangeShapes Go.WideShapes Go.Deep
section
variable {H:Type} {enc:TypeId×zV->H} {P:Program} {W:World} {base:Nat} {spare:Nat->Bool} {held:Bool}
theorem pY(a:Addr)(n:Nat):(a.add n).block=a.block:=by unfold Addr.add;split<;>rfl
theorem wS(a:Addr)(n:Nat):(a.add n).off=a.off+n:=by unfold Addr.add;split<;>simp_all
theorem iV{b:Nat}{a:Addr}{k:Nat}{cs:List zV}(hk:0<k)(h:W.cells? b a k=some cs):
  a.spot=none/\∃c T fz,W.heap[a.block]? =some (.cells c T fz)/\a.off+k<=c.size/\c.extract a.off (a.off+k)=cs.toArray:=by
 obtain⟨_,hl,hg⟩:=World.cells?_some h;have h0:=hg 0 hk;have hc0:W.cell? a=some (cs[0]' zO):=by
  have:a.add 0=a:=by simp[Addr.add]
  rw[this]at h0;rw[h0];exact xab zO
 unfold World.cell? at hc0;split at hc0
 ·rename_i c T fz hb;cases hs:a.spot with
  |some s=>rw[hs]at hc0;simp at hc0
  |none=>
   have hcell:∀i,i<k->c[a.off+i]? =cs[i]? :=λi hi=>by
    have:=hg i hi;unfold World.cell? at this;rw[pY,hb]at this;simp only[wS]at this;have hsp:(a.add i).spot.isSome=false:=by unfold Addr.add;split<;>simp[hs]
    rw[hsp]at this;simpa using this
   have hsz:a.off+k<=c.size:=by
    have:=hcell (k-1) zO;rw[xab zO]at this;have:=(xaJ.1 this).1;omega
   refine⟨rfl,c,T,fz,hb,hsz,?_⟩;apply Array.ext_getElem?;intro i;rw[xcX];by_cases hi:i<k
   ·rw[xae zO,hcell i hi];simp
   rw[xad zO];simp;omega
 simp at hc0
theorem SD{t e:TypeId}{v:zV}{d:DataW H}{ps:List MemPlace}{r:Reach}{b0 k:Nat}(ht:P.underlying t=some (.slice e))(hk:P.cellsOf e=k)(Od:0<k)(hv:Value.okWide P W r b0 t v)(h:DataW.Trod enc P W base spare held t v d ps):
  (v=.slice none 0 0/\d=.nil)\/∃(a:Addr) (n cap:Nat) (es sp:List (DataW H)),v=.slice (some a) n cap/\d=.slice es sp/\es.length=n/\n<=cap/\
   ∀i,i<n->∃c T fz cs,a.spot=none/\(a.block,Obj.cells c T fz)∈whole W/\a.off+i*k+k<=c.size/\c.extract (a.off+i*k) (a.off+i*k+k)=cs.toArray/\∃fuel y,DataW.trod enc P W base spare held fuel e cs=some y/\cs.length=k:=by
 obtain⟨a0,n0,c0,rfl⟩:=okWide_slice ht hv;obtain⟨fuel,hf⟩:=h;rcases open_slice ht hf with⟨h1,h2⟩|⟨a,len,cap,m,n,D,Pl,hcs,hb,hl,hm,tS,hx,hi⟩
 ·left;simp only[Value.cells,xau,xaY]at h1;simp only[xcR]at h2;exact⟨by simpa using h1,h2.1⟩
 right;simp only[xcR]at hx;have tQ:Value.slice a0 n0 c0=.slice (some a) len cap:=by simpa[Value.cells]using hcs
 have SN:len<=m:=by rw[tS];split<;>omega
 refine⟨a,len,cap,_,_,tQ,hx.1,by simp,hl,λi hin=>?_⟩;have hkk:=hk;have yj:a.spot=none:=by
  obtain⟨cs0,hc0,_⟩:=hi 0 zO;rw[hk]at hc0;rw[show a.add (0*k)=a by simp[Addr.add]]at hc0;exact(iV Od hc0).1
 obtain⟨cs,hc,hd⟩:=hi i zO;rw[hk]at hc;obtain⟨_,hlen,_⟩:=World.cells?_some hc;obtain⟨_,c,T,fz,h1,h2,h3⟩:=iV Od hc;rw[pY]at h1;rw[wS]at h2 h3;exact⟨c,T,fz,cs,yj,uC h1,h2,h3,n,_,hd,hlen⟩
theorem uk{t e:TypeId}{cs:List zV}{x:DataW H×List MemPlace}{fuel k:Nat}(ht:P.underlying t=some (.slice e))(hk:P.cellsOf e=k)(Od:0<k)(h:DataW.trod enc P W base spare held fuel t cs=some x):
  ∃(v:zV) (rs:List (List zV)),cs=[v]/\Sl k (whole W) v rs/\((rs=[]/\x.1=.nil)\/∃es sp,x.1=.slice es sp/\es.length=rs.length)/\
   ∀(i:Nat) (r:List zV),rs[i]? =some r->∃(fuel:Nat) (y:DataW H×List MemPlace) (es sp:List (DataW H)),DataW.trod enc P W base spare held fuel e r=some y/\x.1=.slice es sp/\es[i]? =some y.1:=by
 rcases open_slice ht h with⟨h1,h2⟩|⟨a,len,cap,m,n,D,Pl,hcs,hb,hl,hm,tS,hx,hi⟩
 ·exact⟨_,[],h1,Sl.nil _ _,.inl ⟨rfl,by rw[h2]⟩,λi r hr=>by simp at hr⟩
 have SN:len<=m:=by rw[tS];split<;>omega
 have hex:∃rs:List (List zV),rs.length=len/\∀i r,rs[i]? =some r->W.cells? base (a.add (i*k)) k=some r/\DataW.trod enc P W base spare held n e r=some (D i,Pl i):=by
  clear hcs hx hl tS;induction len with
  |zero=>exact⟨[],rfl,λi r hr=>by simp at hr⟩
  |succ len ih=>
   obtain⟨rs,h1,h2⟩:=ih zO;obtain⟨r,h3,h4⟩:=hi len zO;rw[hk]at h3;refine⟨rs++[r],by simp[h1],λi r' hr=>?_⟩;by_cases hlt:i<rs.length
   ·rw[xaH hlt]at hr;exact h2 i r' hr
   rw[xaU zO]at hr;have RH:i-rs.length=0:=by
    by_cases e:i-rs.length=0
    ·exact e
    rw[xaF zP]at hr;cases hr
   rw[RH]at hr;simp only[xbR,xap]at hr;subst hr;obtain rfl:i=len:=by omega
   exact⟨h3,h4⟩
 obtain⟨rs,MH,yl⟩:=hex;have aI:∀r∈rs,r.length=k:=λr hr=>by
  obtain⟨i,hi,e⟩:=xbg.1 hr;obtain⟨hc,_⟩:=yl i r (by rw[xab hi,e]);exact(World.cells?_some hc).2.1
 refine⟨.slice (some a) len cap,rs,hcs,⟨aI,?_⟩,.inr ⟨_,_,by rw[hx],by simp[MH]⟩,λi r hr=>?_⟩
 ·cases rs with
  |nil=>exact .inl ⟨some a,cap,by rw[<-MH];rfl,rfl⟩
  |cons r0 rest=>
   right;obtain⟨hc0,_⟩:=yl 0 r0 rfl;obtain⟨yj,c,T,fz,hb0,_,_⟩:=iV Od hc0;rw[show a.add (0*k)=a by simp[Addr.add]]at yj hb0;obtain⟨ab,ao,asp⟩:=a;simp only at yj hb0;subst yj;have U2:∀i r,(r0::rest)[i]? =some r->ao+i*k+k<=c.size/\c.extract (ao+i*k) (ao+i*k+k)=r.toArray:=λi r hr=>by
    obtain⟨hc,_⟩:=yl i r hr;obtain⟨_,c',T',fz',h1,h2,h3⟩:=iV Od hc;rw[pY]at h1;rw[wS]at h2 h3;simp only at h1 h2 h3;rw[hb0]at h1;simp only[xap,Obj.cells.injEq]at h1;obtain⟨rfl,_,_⟩:=h1;exact⟨h2,h3⟩
   refine⟨ab,ao,cap,c,T,fz,by rw[MH],by omega,uC hb0,?_,λi r hr j v hj=>?_⟩
   ·have UB:=U2 (rest.length) ((r0::rest)[rest.length]' zI) (xab zI);have:=UB.1;simp only[xar,xbr];omega
   obtain⟨h1,h2⟩:=U2 i r hr;have Of:j<k:=by
    have:=(xag.1 hj).1;rw[aI r (xax hr)]at this;exact this
   have h3:=xbL (λz:Array zV=>z[j]?) h2;simp only[xcX,xcd]at h3;rw[hj]at h3;rw[<-h3,xae zO]
 obtain⟨_,hd⟩:=yl i r hr;have Yf:i<len:=by rw[<-MH];exact(xag.1 hr).1
 exact⟨n,_,_,_,hd,by rw[hx],by simp[Yf]⟩
theorem Fa{t e:TypeId}{q:IntKind}{cs:List zV}{x:DataW H×List MemPlace}{fuel:Nat}(ht:P.underlying t=some (.slice e))(he:P.underlying e=some (.int q))(hk:P.cellsOf e=1)(h:DataW.trod enc P W base spare held fuel t cs=some x):
  ∃(v:zV) (l:List Int),cs=[v]/\cR q (whole W) v l/\(∀n∈l,(Lit.int q n).wf=true)/\((l=[]/\x.1=.nil)\/∃es sp,x.1=.slice es sp/\es.length=l.length):=by
 obtain⟨v,rs,hcs,AX,hx,hr⟩:=uk ht hk zD h;have hone:∀r∈rs,∃n,r=[.int q n]/\(Lit.int q n).wf=true:=λr hm=>by
  obtain⟨i,hi,e⟩:=xbg.1 hm;obtain⟨f,y,_,_,hy,_⟩:=hr i r (by rw[xab hi,e]);obtain⟨n,h1,_,h2⟩:=DataW.trod_int he hy;exact⟨n,h1,h2⟩
 have hex:∃l:List Int,rs=l.map (λn=>[Value.int q n])/\∀n∈l,(Lit.int q n).wf=true:=by
  clear AX hx hr hcs;induction rs with
  |nil=>exact⟨[],rfl,by simp⟩
  |cons r rest ih=>
   obtain⟨l,h1,h2⟩:=ih λr hm=>hone r (by simp[hm]);obtain⟨n,h3,h4⟩:=hone r zI;exact⟨n::l,by simp[h1,h3],λm hm=>by rcases xaf.1 hm with rfl|hm;exact h4;exact h2 m hm⟩
 obtain⟨l,rfl,hwf⟩:=hex;refine⟨v,l,hcs,AX,hwf,?_⟩;rcases hx with⟨h1,h2⟩|⟨es,sp,h1,h2⟩
 ·exact .inl ⟨by simpa using h1,h2⟩
 exact .inr ⟨es,sp,h1,by simpa using h2⟩
end
end Go.Sx
set_option maxRecDepth 100000
namespace Go.Proofs
open Go Go.Sx
section
open Go.ChangeShapes Go.WideShapes Go.Deep
variable {H:Type} {enc:TypeId×zV->H} {W:World} {base:Nat} {spare:Nat->Bool} {held:Bool}
theorem NN{f:FuncId}{args:Array zV}{W:World}(h:Rd zQ f args (whole W) (· =.bool true)):
  Calls zQ f args W λe W'=>e=.returned (.bool true)/\Go.RowKit.Below W.heap.size W W':=
 Ra (h.mono λ_ _ ⟨h1,h2⟩=>⟨by rw[h1];exact .refl _,h2⟩)
theorem xl(W:World):((whole W).map Prod.fst).Nodup:=by
 have:=(ux W).nd;rwa [xaP]at this
theorem FC{l:List Int}(hb:∀x∈l,0<=x/\x<=255):iw (l.map Int.toNat)=l:=by
 unfold iw;rw[xcx]
 conv=>rhs;rw[<-List.map_id l]
 apply xbV;intro x hx;have:=hb x hx;show((x.toNat:Nat):Int)=x;omega
theorem LQ{v:zV}{d:DataW H}{ps:List MemPlace}(h:DataW.Trod enc zQ W base spare held 23 v d ps)(hv:∃a n c,v=.slice a n c):
  ∃l:zL,cR .u8 (whole W) v (iw l)/\(∀x∈l,x<256)/\((∀n∈d.weights zQ 23,n<=reachBytes)->l.length<=140737488351232):=by
 obtain⟨fuel,hf⟩:=h;have k3:Tryz.prog.cellsOf 5=1:=by kernel_rfl
 obtain⟨v',l,hcs,hi,hwf,hw⟩:=Fa Tryz.underlying23 Tryz.underlying5 k3 hf;have AW:v'=v:=by
  obtain⟨a,n,c,rfl⟩:=hv;simpa[Value.cells]using hcs.symm
 subst AW;have hb:∀x∈l,0<=x/\x<=255:=λx hx=>bounds_u8 (hwf x hx);refine⟨l.map Int.toNat,by rw[FC hb];exact hi,λx hx=>?_,λaI=>?_⟩
 ·obtain⟨y,hy,rfl⟩:=xaq.1 hx;have:=hb y hy;omega
 rw[xaz];rcases hw with⟨h1,_⟩|⟨es,sp,h1,h2⟩
 ·subst h1;simp
 simp only at h1;have:=aI ((es.length+sp.length)*Tryz.prog.bytesOf 5) (by rw[h1,DataW.weights,Tryz.underlying23];exact xbq ..);rw[show Tryz.prog.bytesOf 5=1 by kernel_rfl]at this;have h3:reachBytes=140737488351232:=rfl;omega
theorem QR{fuel:Nat}{cs:List zV}{y:DataW H×List MemPlace}(hl:cs.length=6)(h:DataW.trod enc zQ W base spare held fuel 57 cs=some y):∃o:rp,cs=o.cells/\o.Ok:=by
 obtain⟨xs,n,_,_,_,hx,hf⟩:=DataW.trod_struct Tryz.underlying57 h
 match cs,hl with
 | [c0,c1,c2,c3,c4,c5],_=>
  have hx6:xs.length=6:=hx;have k8:Tryz.prog.cellsOf 5=1:=by kernel_rfl
  have k64:Tryz.prog.cellsOf 55=1:=by kernel_rfl
  have g0:DataW.trod enc zQ W base spare held n 5 (List.take (Tryz.prog.cellsOf 5) [c0,c1,c2,c3,c4,c5])=xs[0]? :=hf 0 _ rfl;have g1:DataW.trod enc zQ W base spare held n 5 (List.take (Tryz.prog.cellsOf 5) [c1,c2,c3,c4,c5])=xs[1]? :=hf 1 _ rfl;have g2:DataW.trod enc zQ W base spare held n 5 (List.take (Tryz.prog.cellsOf 5) [c2,c3,c4,c5])=xs[2]? :=hf 2 _ rfl;have g3:DataW.trod enc zQ W base spare held n 5 (List.take (Tryz.prog.cellsOf 5) [c3,c4,c5])=xs[3]? :=hf 3 _ rfl;have g4:DataW.trod enc zQ W base spare held n 5 (List.take (Tryz.prog.cellsOf 5) [c4,c5])=xs[4]? :=hf 4 _ rfl;have g5:DataW.trod enc zQ W base spare held n 55 (List.take (Tryz.prog.cellsOf 55) [c5])=xs[5]? :=hf 5 _ rfl;rw[k8,xab zO]at g0 g1 g2 g3 g4;rw[k64,xab zO]at g5;simp only[List.take_succ_cons,List.take_zero]at g0 g1 g2 g3 g4 g5;obtain⟨n0,e0,_,w0⟩:=DataW.trod_int Tryz.underlying5 g0;obtain⟨n1,e1,_,w1⟩:=DataW.trod_int Tryz.underlying5 g1;obtain⟨n2,e2,_,w2⟩:=DataW.trod_int Tryz.underlying5 g2;obtain⟨n3,e3,_,w3⟩:=DataW.trod_int Tryz.underlying5 g3;obtain⟨n4,e4,_,w4⟩:=DataW.trod_int Tryz.underlying5 g4;obtain⟨n5,e5,_,w5⟩:=DataW.trod_int Tryz.underlying55 g5;have b0:=bounds_u8 w0;have b1:=bounds_u8 w1;have b2:=bounds_u8 w2;have b3:=bounds_u8 w3;have b4:=bounds_u8 w4;have b5:=bounds_u64 w5;simp only[xau,xaY]at e0 e1 e2 e3 e4 e5;refine⟨⟨n0.toNat,n1.toNat,n2.toNat,n3.toNat,n4.toNat,n5.toNat⟩,?_,⟨?_,?_,?_,?_,?_,?_⟩⟩
  ·have z0:((n0.toNat:Nat):Int)=n0:=by omega
   have z1:((n1.toNat:Nat):Int)=n1:=by omega
   have z2:((n2.toNat:Nat):Int)=n2:=by omega
   have z3:((n3.toNat:Nat):Int)=n3:=by omega
   have z4:((n4.toNat:Nat):Int)=n4:=by omega
   have z5:((n5.toNat:Nat):Int)=n5:=by omega
   unfold rp.cells;simp only;rw[e0,e1,e2,e3,e4,e5,z0,z1,z2,z3,z4,z5]
  all_goals simp only;omega
theorem QS{v:zV}{d:DataW H}{ps:List MemPlace}(h:DataW.Trod enc zQ W base spare held 22 v d ps)(hv:∃a n c,v=.slice a n c):
  ∃ops:List rp,Sl 6 (whole W) v (ops.map rp.cells)/\(∀o∈ops,o.Ok)/\((∀n∈d.weights zQ 22,n<=reachBytes)->ops.length<=140737488351232):=by
 obtain⟨fuel,hf⟩:=h;have k6:Tryz.prog.cellsOf 57=6:=by kernel_rfl
 obtain⟨v',rs,hcs,AX,hw,hr⟩:=uk Tryz.underlying22 k6 zD hf;have AW:v'=v:=by
  obtain⟨a,n,c,rfl⟩:=hv;simpa[Value.cells]using hcs.symm
 subst AW;have hone:∀r∈rs,∃o:rp,r=o.cells/\o.Ok:=λr hm=>by
  obtain⟨i,hi,e⟩:=xbg.1 hm;obtain⟨f,y,_,_,hy,_⟩:=hr i r (by rw[xab hi,e]);exact QR (AX.1 r hm) hy
 have hex:∃ops:List rp,rs=ops.map rp.cells/\∀o∈ops,o.Ok:=by
  clear AX hw hr hcs;induction rs with
  |nil=>exact⟨[],rfl,by simp⟩
  |cons r rest ih=>
   obtain⟨l,h1,h2⟩:=ih λr hm=>hone r (by simp[hm]);obtain⟨o,h3,h4⟩:=hone r zI;exact⟨o::l,by simp[h1,h3],λm hm=>by rcases xaf.1 hm with rfl|hm;exact h4;exact h2 m hm⟩
 obtain⟨ops,rfl,hok⟩:=hex;refine⟨ops,AX,hok,λaI=>?_⟩;rcases hw with⟨h1,_⟩|⟨es,sp,h1,h2⟩
 ·have:ops=[]:=by simpa using h1
  subst this;simp
 simp only at h1;have:=aI ((es.length+sp.length)*Tryz.prog.bytesOf 57) (by rw[h1,DataW.weights,Tryz.underlying22];exact xbq ..);rw[show Tryz.prog.bytesOf 57=16 by kernel_rfl]at this;have h3:reachBytes=140737488351232:=rfl;rw[xaz]at h2;omega
end
end Go.Proofs
namespace Go.Sx
open Go
section
variable {P:Program} {g:Gh} {H:Hp} {K:zV->Hp->Prop} {KP:List PanicEntry->Hp->Prop}
theorem dF.panic{o:Oper}{ρ:Operand->zV}{x:Operand}{T:TypeId}{v:zV}(ho:o.op=.panic x)(hx:ρ x=.iface T v)(hk:KP [{v:=.iface T v,recovered:=false}] H):dF P g o ρ H K KP:=by
 intro w hw;have:(execOp ρ o).run P w=.halt (.panic (.iface T v)) w:=by
  simp only[execOp,ho,hx,Sem.run_bind,Instr.panic];rfl
 rw[this];exact⟨H,hw,hk⟩
theorem bS.assert{o:Oper}{ρ:Operand->zV}{k:zV->Prop}{x:Operand}{xT T:TypeId}{v:zV}{d:TypeDesc}(ho:o.op=.typeAssert x xT T true)(hx:ρ x=.iface T v)(hd:P.underlying T=some d)(hi:∀m,d≠.interface m)
 (hk:k (.tuple #[v,.bool true])):bS P g o ρ H k:=by
 refine⟨_,λw _=>?_,hk⟩;have:(Instr.typeAssert (.iface T v) xT T true).run P w=.ok (.tuple #[v,.bool true]) w:=by
  unfold Instr.typeAssert;simp only[Sem.run_bind,run_underlying hd,Result.andThen_ok];cases d<;>first|(exact absurd rfl (hi _))|simp
 simp only[execOp,ho,hx,Sem.run_bind,this,Result.andThen_ok,Sem.run_pure]
theorem bS.wm{o:Oper}{ρ:Operand->zV}{k:zV->Prop}{x y:Operand}{t yt:TypeId}{a:zV}(ho:o.op=.binOp .neq t x y yt)(hx:ρ x=a)(hy:ρ y=.nilIface)(hd:∃m,P.underlying t=some (.interface m)){b:Bool}(ha:(a=.nilIface/\b=false/\∃v,y=.const v)\/∃T v,a=.iface T v/\b=true)
 (hk:k (.bool b)):bS P g o ρ H k:=by
 obtain⟨m,hd⟩:=hd;refine⟨_,λw _=>?_,hk⟩;have e1:eqGuard .neq t x y a .nilIface=pure ():=by
  rcases ha with⟨rfl,_,v,rfl⟩|⟨T,v,rfl,_⟩
  ·unfold eqGuard;simp
  rfl
 have e2:(Op.equal t a .nilIface).run P w=.ok (!b) w:=by
  have key:∀n,(Op.equalIn (n+1) t a .nilIface).run P w=.ok (!b) w:=λn=>by
   unfold Op.equalIn;rcases ha with⟨rfl,rfl,_⟩|⟨T,v,rfl,rfl⟩<;>simp only[Sem.run_bind,run_underlying hd,Result.andThen_ok,Sem.run_pure]<;>rfl
  exact key 9999
 have e3:binOp .neq t a .nilIface=(do pure (.bool !(<-Op.equal t a .nilIface))):=by
  rcases ha with⟨rfl,_⟩|⟨T,v,rfl,_⟩<;>rfl
 have e4:(execOp ρ o).run P w=.ok (.value (.bool b)) w:=by
  simp only[execOp,ho,hx,hy,e1,e3,Sem.run_bind,Sem.run_pure,Result.andThen_ok,e2,Bool.not_not]
 exact e4
theorem bS.vK{o:Oper}{ρ:Operand->zV}{k:zV->Prop}{x:Operand}{t:TypeId}{lo hi:Option Operand}{l:List UInt8}{i j:Nat}(ho:o.op=.slice t x lo hi none)(hd:P.underlying t=some .string)(hx:ρ x=bI l)
 (hlo:(lo=none/\i=0)\/∃q kd,lo=some q/\ρ q=.int kd (i:Int))(hhi:(hi=none/\j=l.length)\/∃q kd,hi=some q/\ρ q=.int kd (j:Int))(hij:i<=j)(hj:j<=l.length)(hk:k (bI ((l.take j).drop i))):bS P g o ρ H k:=by
 refine⟨_,λw _=>?_,hk⟩;have sz:(⟨l.toArray⟩:ByteArray).size=l.length:=by simp[ByteArray.size]
 have cut:(⟨l.toArray⟩:ByteArray).extract i j=⟨((l.take j).drop i).toArray⟩:=by
  apply ByteArray.ext;rw[ByteArray.data_extract];apply xc7;simp[List.drop_take]
 have:(Instr.sliceAt t (bI l) (lo.map ρ) (hi.map ρ) none).run P w=.ok (bI ((l.take j).drop i)) w:=by
  have b1:∀kd cd,(Instr.sliceBound (.int kd (i:Int)) j cd).run P w=.ok i w:=λkd cd=>by simp[Instr.sliceBound,asIntOf,hij]
  have b2:∀kd cd,(Instr.sliceBound (.int kd (j:Int)) l.length cd).run P w=.ok j w:=λkd cd=>by simp[Instr.sliceBound,asIntOf,hj]
  rcases hlo with⟨rfl,rfl⟩|⟨q,kd,rfl,hq⟩<;>rcases hhi with⟨rfl,rfl⟩|⟨q2,kd2,rfl,SJ⟩
  ·simp only[Instr.sliceAt,Instr.slice,Instr.sliceBounds,bI,Sem.run_bind,run_underlying hd,Result.andThen_ok,xcW,xbn,xcV,xaE,xaS,Sem.run_pure,sz,b1,b2,  cut]
  ·simp only[Instr.sliceAt,Instr.slice,Instr.sliceBounds,bI,Sem.run_bind,run_underlying hd,Result.andThen_ok,xcW,xbn,xcV,xaE,xaS,Sem.run_pure,sz,b1,b2,SJ,cut]
  ·simp only[Instr.sliceAt,Instr.slice,Instr.sliceBounds,bI,Sem.run_bind,run_underlying hd,Result.andThen_ok,xcW,xbn,xcV,xaE,xaS,Sem.run_pure,sz,b1,b2,hq,cut]
  simp only[Instr.sliceAt,Instr.slice,Instr.sliceBounds,bI,Sem.run_bind,run_underlying hd,Result.andThen_ok,xcW,xbn,xcV,xaE,xaS,Sem.run_pure,sz,b1,b2,hq,SJ,cut]
 simp only[execOp,ho,hx,Sem.run_bind,xcW,this,Result.andThen_ok,Sem.run_pure]
theorem rI{w:World}(hw:Own g H w){b p:Nat}{s:ByteArray}{o':Obj}{H':Hp}(hu:cT b (.stringIter s p) o' H H'):∃w',(setObj b o').run P w=.ok () w'/\Own g H' w':=by
 have hm:w.heap[b]? =some (.stringIter s p):=hw.has _ hu.mem;have hlt:b<w.heap.size:=(xaJ.1 hm).1;refine⟨{w with heap:=w.heap.setIfInBounds b o'},by simp[setObj,Sem.run,hm],?_⟩;refine hw.bJ hu rfl rfl rfl ?_ λc hc=>?_
 ·simp[hlt]
 exact xbj (xbp hc)
theorem rJ{w:World}(hw:Own g H w){b p:Nat}{s:ByteArray}(hm:(b,Obj.stringIter s p)∈H):(getObj b).run P w=.ok (.stringIter s p) w:=by
 have:=hw.has _ hm;simp only at this;simp[getObj,Sem.run,this]
theorem dF.Jh{o:Oper}{ρ:Operand->zV}{x:Operand}{t:TypeId}{l:List UInt8}(ho:o.op=.range t x)(ht:P.underlying t=some .string)(hx:ρ x=bI l)(hk:∀b,K (.pointer (some ⟨b,0,none⟩)) ((b,.stringIter ⟨l.toArray⟩ 0)::H)):dF P g o ρ H K KP:=by
 refine dF.ofValue (s:=Instr.range t (bI l)) (by simp only[execOp,ho,hx]) λw hw=>?_;refine⟨_,w.alloc (.stringIter ⟨l.toArray⟩ 0),_,?_,hw.alloc _,hk w.heap.size⟩;simp only[Instr.range,bI,Sem.run_bind,run_underlying ht,Result.andThen_ok,Sem.run_pure];rfl
theorem dF.PA{o:Oper}{ρ:Operand->zV}{x:Operand}{b pos:Nat}{l:List UInt8}{C H:Hp}{c:Hp->Hp}(ho:o.op=.next x true)(hx:ρ x=.pointer (some ⟨b,0,none⟩))(hh:aU [(b,.stringIter ⟨l.toArray⟩ pos)] H c)
 (h1:pos<l.length->K (.tuple #[.bool true,.int .i64 (pos:Int),.int .i32 ((Utf8.decode ⟨l.toArray⟩ pos).1:Int)]) (c [(b,.stringIter ⟨l.toArray⟩ (pos+(Utf8.decode ⟨l.toArray⟩ pos).2))]))
 (h2:l.length<=pos->K (.tuple #[.bool false]) H):dF P g o ρ H K KP:=by
 have sz:(⟨l.toArray⟩:ByteArray).size=l.length:=by simp[ByteArray.size]
 have hm:=hh.sub _ (xaL.2 rfl);refine dF.ofValue (s:=Instr.next (.pointer (some ⟨b,0,none⟩)) true o.type) (by simp only[execOp,ho,hx]) λw hw=>?_;have hg:=rJ (P:=P) hw hm;by_cases hp:pos<l.length
 ·obtain⟨w',hs,cg⟩:=rI (P:=P) hw (hh.bJ (cT.head (o':=.stringIter ⟨l.toArray⟩ (pos+(Utf8.decode ⟨l.toArray⟩ pos).2)) []));refine⟨_,w',_,?_,cg,h1 hp⟩;simp only[Instr.next,Sem.run_bind,hg,Result.andThen_ok,sz,hp,xa0,hs,Sem.run_pure,goInt]
 refine⟨_,w,H,?_,hw,h2 zO⟩;simp only[Instr.next,Sem.run_bind,hg,Result.andThen_ok,sz,hp,xaS,Sem.run_pure]
end
theorem u5{l:List UInt8}{pos:Nat}{b:UInt8}(h:l[pos]? =some b)(hb:b.toNat<128):Utf8.decode ⟨l.toArray⟩ pos=(b.toNat,1):=by
 have hg:(⟨l.toArray⟩:ByteArray).get! pos=b:=by
  have hlt:=(xag.1 h).1;have:l[pos]=b:=(xag.1 h).2;simp[ByteArray.get!,hlt,this]
 unfold Utf8.decode;simp only[xbS,hg,hb,xa0]
theorem u6{l:List UInt8}{pos:Nat}{b:UInt8}(h:l[pos]? =some b)(hb:128<=b.toNat):128<=(Utf8.decode ⟨l.toArray⟩ pos).1/\(Utf8.decode ⟨l.toArray⟩ pos).1<2147483648/\1<=(Utf8.decode ⟨l.toArray⟩ pos).2:=by
 have hg:(⟨l.toArray⟩:ByteArray).get! pos=b:=by
  have hlt:=(xag.1 h).1;have:l[pos]=b:=(xag.1 h).2;simp[ByteArray.get!,hlt,this]
 have h4:∀n:Nat,n%64<64:=λn=>xaZ _ zD;unfold Utf8.decode;simp only[xbS,hg,show¬b.toNat<128 by omega,xaS]
 repeat' split
 all_goals first|(simp only[Utf8.runeError];omega)|skip
 all_goals
  rename_i h5;first|(have a1:=h4 ((⟨l.toArray⟩:ByteArray).get! (pos+1)).toNat;simp only[ge_iff_le]at h5⊢;omega)|skip
 all_goals
  simp only[ge_iff_le,xay,xaO]at h5;have a1:=h4 ((⟨l.toArray⟩:ByteArray).get! (pos+1)).toNat;have a2:=h4 ((⟨l.toArray⟩:ByteArray).get! (pos+2)).toNat;have a3:=h4 ((⟨l.toArray⟩:ByteArray).get! (pos+3)).toNat;refine⟨by omega,by omega,by simp⟩
theorem dR.of{l:List UInt8}{k:zV->Prop}(h:k (.int .i64 (l.length:Int))):dR (bI l) k:=⟨⟨l.toArray⟩,rfl,by
 have:(⟨l.toArray⟩:ByteArray).size=l.length:=by simp[ByteArray.size]
 rw[this];exact h⟩
theorem ae.TE{a b:List UInt8}{k:zV->Prop}(h:k (.bool (decide (a=b)))):ae .str .eql (bI a) (bI b) k:=by
 refine⟨_,rfl,?_⟩;have:((⟨a.toArray⟩:ByteArray).toList==(⟨b.toArray⟩:ByteArray).toList)=decide (a=b):=by
  rw[<-beq_toListBytes,nZ]
 rw[this];exact h
theorem ae.I9{a b:List UInt8}{k:zV->Prop}(hl:a.length+b.length<=9223372036854775807)(h:k (bI (a++b))):ae .str .add (bI a) (bI b) k:=by
 have e:(⟨a.toArray⟩:ByteArray)++⟨b.toArray⟩=⟨(a++b).toArray⟩:=by
  apply ByteArray.ext;simp
 refine⟨bI (a++b),?_,h⟩;unfold bI fD;have s1:(⟨a.toArray⟩:ByteArray).size=a.length:=by simp[ByteArray.size]
 have s2:(⟨b.toArray⟩:ByteArray).size=b.length:=by simp[ByteArray.size]
 simp only[s1,s2,hl,xa0,e]
theorem Bz.nat{kd:IntKind}{a b:Nat}{k:zV->Prop}(h:k (.int kd ((min a b:Nat):Int))):Bz (.int kd (a:Int)) (.int kd (b:Int)) k:=by
 refine⟨kd,a,b,rfl,rfl,?_⟩;have:(if(b:Int)<(a:Int)then(b:Int)else(a:Int))=((min a b:Nat):Int):=by split<;>omega
 rw[this];exact h
end Go.Sx
namespace Go.Proofs.Fm
structure Tok where
 k:Nat
 p:Nat
 v:Nat
def digit(b:UInt8):Bool:=decide (48<=b.toNat) &&decide (b.toNat<=57)
def num:Nat->Nat->List UInt8->Nat×Nat
 |n,k,[]=>(n,k)
 |n,k,b::r=>if digit b=false\/(k=1/\n=0)then(n,k)else num (min (10*n+(b.toNat-48)) 1048576) (k+1) r
def eG:List (List UInt8×Nat):=[([60,45,62],9),([45,62],8),([48],1),([49],2),([33],4),([38],5),([94],6),([124],7),([40],10),([41],11),([91],12),([63],13),([58],14),([93],15)]
def wX(l:List UInt8):List (List UInt8×Nat)->Option (Nat×Nat)
 | []=>none
 |s::r=>if s.1.isPrefixOf l=true then some (s.2,s.1.length)else wX l r
def kT:List UInt8->Option (Nat×Nat)
 |b::r=>if b=120/\0<(num 0 0 r).2 then some ((num 0 0 r).1,(num 0 0 r).2+1)else none
 | []=>none
def cX(l:List UInt8):Nat×Nat×Nat:=
 match kT l with
 |some (n,w)=>(3,n,w)
 |none=>match wX l eG with
  |some (k,w)=>(k,0,w)
  |none=>(16,0,0)
inductive eA:Nat->List UInt8->List Tok->Prop
 |fin {p:Nat}:eA p [] [⟨0,p,0⟩]
 |blank {p:Nat} {r:List UInt8} {o:List Tok}:eA (p+1) r o->eA p (32::r) o
 |wrong {p:Nat} {b:UInt8} {r:List UInt8}:b≠32->(cX (b::r)).1=16->eA p (b::r) [⟨16,p,0⟩]
 |tok {p:Nat} {b:UInt8} {r:List UInt8} {o:List Tok}:b≠32->(cX (b::r)).1≠16->eA (p+(cX (b::r)).2.2) ((b::r).drop (cX (b::r)).2.2) o->eA p (b::r) (⟨(cX (b::r)).1,p,(cX (b::r)).2.1⟩::o)
theorem eA.uniq{p:Nat}{l:List UInt8}{o o':List Tok}(h:eA p l o)(h':eA p l o'):o=o':=by
 induction h generalizing o' with
 |fin=>cases h';rfl
 |blank _ ih=>
  cases h' with
  |blank h=>exact ih h
  |wrong h=>exact absurd rfl h
  |tok h=>exact absurd rfl h
 |wrong hb h=>
  cases h' with
  |blank _=>exact absurd rfl hb
  |wrong _ _=>rfl
  |tok _ h2=>exact absurd h h2
 |tok hb h _ ih=>
  cases h' with
  |blank _=>exact absurd rfl hb
  |wrong _ h2=>exact absurd h2 h
  |tok _ _ h3=>rw[ih h3]
theorem eA.last{p:Nat}{l:List UInt8}{o:List Tok}(h:eA p l o):∃i t,o=i++[t]/\(t.k=0\/t.k=16)/\∀u∈i,u.k≠0/\u.k≠16:=by
 induction h with
 |fin=>exact⟨[],_,rfl,.inl rfl,nofun⟩
 |blank _ ih=>exact ih
 |wrong _ _=>exact⟨[],_,rfl,.inr rfl,nofun⟩
 | @tok p b r o hb h _ ih=>
  obtain⟨i,t,rfl,ht,hi⟩:=ih;refine⟨_::i,t,rfl,ht,λu hu=>?_⟩;rcases xaf.1 hu with rfl|hu
  ·refine⟨?_,h⟩;show(cX (b::r)).1≠0;unfold cX;cases hx:kT (b::r)with
   |some q=>simp
   |none=>
    simp only;have hs:∀(L:List (List UInt8×Nat)),(∀s∈L,s.2≠0)->∀q,wX (b::r) L=some q->q.1≠0:=by
     intro L;induction L with
     |nil=>intro _ q h;cases h
     |cons s L ih=>
      intro hL q h;unfold wX at h;split at h
      ·cases h;exact hL s (.head _)
      exact ih (λs hs=>hL s (.tail _ hs)) q h
    cases hg:wX (b::r) eG with
    |none=>simp
    |some q=>exact hs eG zD q hg
  ·exact hi u hu
theorem rT:∀(l:List UInt8) (n k:Nat),k<=(num n k l).2/\(num n k l).2<=k+l.length/\∀j,j<(num n k l).2-k->∃b,l[j]? =some b/\digit b=true
 | [],n,k=>⟨xak _,xak _,λj hj=>by simp[num]at hj⟩
 |b::r,n,k=>by
  unfold num;split
  ·exact⟨xak _,by simp,λj hj=>by simp at hj⟩
  rename_i h;obtain⟨h1,h2,h3⟩:=rT r (min (10*n+(b.toNat-48)) 1048576) (k+1);refine⟨by omega,by simp only[xar];omega,λj hj=>?_⟩;cases j with
  |zero=>exact⟨b,rfl,by simpa using λhd=>h (.inl hd)⟩
  |succ j=>exact h3 j zO
theorem LG{b:UInt8}(h:digit b=true):b.toNat<128:=by
 unfold digit at h;simp only[xay,xaO]at h;omega
theorem Av{l:List UInt8}:∀(L:List (List UInt8×Nat)),(∀s∈L,s.1≠[]/\∀b∈s.1,b.toNat<128)->∀q,wX l L=some q->1<=q.2/\q.2<=l.length/\∀j,j<q.2->∃b,l[j]? =some b/\b.toNat<128
 | [],_,q,h=>by cases h
 |s::L,hL,q,h=>by
  unfold wX at h;split at h
  ·rename_i hp;cases h;obtain⟨t,rfl⟩:=List.isPrefixOf_iff_prefix.1 hp;obtain⟨h1,h2⟩:=hL s (.head _);have:1<=s.1.length:=by cases hs:s.1 with|nil=>exact absurd hs h1|cons a b=>simp
   refine⟨this,by simp,λj hj=>?_⟩;have hj:j<s.1.length:=hj;exact⟨s.1[j],by rw[xaH hj,xab hj],h2 _ (xaB hj)⟩
  exact Av L (λs hs=>hL s (.tail _ hs)) q h
theorem vH{l:List UInt8}(h:(cX l).1≠16):1<=(cX l).2.2/\(cX l).2.2<=l.length/\∀j,j<(cX l).2.2->∃b,l[j]? =some b/\b.toNat<128:=by
 unfold cX at h⊢;cases hx:kT l with
 |some q=>
  obtain⟨n,w⟩:=q;cases l with
  |nil=>simp[kT]at hx
  |cons b r=>
   by_cases hb:b=120/\0<(num 0 0 r).2
   ·rw[show kT (b::r)=some ((num 0 0 r).1,(num 0 0 r).2+1)from xae hb]at hx;cases hx;obtain⟨h1,h2,h3⟩:=rT r 0 0;refine⟨by simp,by simp only[xar];omega,λj hj=>?_⟩;cases j with
    |zero=>exact⟨b,rfl,by rw[hb.1];decide⟩
    |succ j=>
     obtain⟨c,hc,hd⟩:=h3 j (by simp only at hj;omega);exact⟨c,hc,LG hd⟩
   rw[show kT (b::r)=none from xad hb]at hx;cases hx
 |none=>
  rw[hx]at h;simp only at h⊢;cases hg:wX l eG with
  |none=>rw[hg]at h;simp at h
  |some q=>exact Av eG zD q hg
theorem M9{b:UInt8}{r:List UInt8}(h:128<=b.toNat):(cX (b::r)).1=16:=by
 cases Nat.decEq (cX (b::r)).1 16 with
 |isTrue h=>exact h
 |isFalse hn=>
  obtain⟨h1,_,h3⟩:=vH hn;obtain⟨c,hc,hl⟩:=h3 0 zO;cases hc;omega
end Go.Proofs.Fm
set_option maxRecDepth 100000
namespace Go.Proofs
open Go Go.Sx
open Fm
abbrev nI(a:Nat):zV:=iv (a:Int)
theorem tO(a b:List UInt8):(decide (b.length<=a.length) &&decide (a.take b.length=b))=b.isPrefixOf a:=by
 rw[xcA,List.isPrefixOf_iff_prefix,List.prefix_iff_eq_take];simp only[xay,xaO];constructor
 ·rintro⟨_,h⟩;exact h.symm
 intro h;refine⟨?_,h.symm⟩;have:=xbL List.length h;rw[xbw]at this;omega
theorem Nz(a b:List UInt8)(B:Hp):Rd zQ 132 #[bI a,bI b] B (· =.bool (b.isPrefixOf a)):=by
 refine aS λg=>CJ (dR.of (dR.of (ae.pN (dr.and (decide (a.take b.length=b)) (λh=>?_) rfl λ_=>?_))))
 ·refine dR.of (bS.vK (l:=a) (i:=0) (j:=b.length) rfl zK rfl (.inl ⟨rfl,rfl⟩) (.inr ⟨_,.i64,rfl,rfl⟩) (xaK _) (xbK h) ?_);exact ae.TE ⟨rfl,rfl⟩
 exact bX.mk (.refl _) (by rw[tO])
theorem QI(a b:List UInt8)(B:Hp):Rd zQ 99 #[bI a,bI b] B (· =.bool (b.isPrefixOf a)):=by
 refine aS λg=>GJ (aa.eq (Nz a b B) (bX.mk (.refl _) rfl))
theorem OS(l:List UInt8)(hl:l.length<4611686018427387904)(B:Hp):Rd zQ 97 #[bI l] B (· =.tuple #[nI (num 0 0 l).1,nI (num 0 0 l).2]):=by
 refine aS λg=>GL λJ1 h1=>?_;have fin:∀(n k:Nat) (H:Hp),aG H B->num 0 0 l=(n,k)->J1 [nI n,nI k] H:=λn k H he hn=>by
  refine h1 _ _ _ λ_=>?_;rw[hn];exact bX.mk he rfl
 refine dF.Jh rfl zK rfl λb=>?_;refine⟨λvs H=>∃n k:Nat,vs=[nI n,nI k]/\k<=l.length/\n<=1048576/\num 0 0 l=num n k (l.drop k)/\H=(b,.stringIter ⟨l.toArray⟩ k)::B,λvs _=>l.length-bL vs 1,
  JE.mk ⟨0,0,rfl,xaK _,by decide,rfl,rfl⟩,?_⟩
 rintro w1 w2 H ⟨n,k,⟨⟩,hk,hn,he,rfl⟩ gs;refine dF.PA (C:=B) (c:=λX=>X++B) rfl rfl (aU.left (C:=[_])) (λhlt=>?_) (λhge=>?_);rotate_left
 ·refine Ext.mk rfl (Br.no (JE.mk (fin n k _ .tail ?_)));rw[he,xdr hge];rfl
 obtain⟨c,hc⟩:∃c,l[k]? =some c:=⟨_,xab hlt⟩;have hd:l.drop k=c::l.drop (k+1):=by
  rw[xa8 hlt];rw[xab hlt]at hc;cases hc;rfl
 rw[hd]at he;refine Ext.mk rfl (Br.yes (Ext.mk rfl ?_));by_cases Om:c.toNat<128
 ·rw[u5 hc Om];refine ae.fe (b:=48) (dr.or (decide (57<c.toNat)) (λ_=>ae.kG (b:=57) ⟨rfl,rfl⟩) rfl λ_=>?_);refine dr.or (decide (k=1) &&decide (n=0)) (λ_=>ae.bA (b:=1) (dr.and (decide (n=0)) (λ_=>ae.bA (b:=0) ⟨rfl,rfl⟩) rfl λ_=>⟨rfl,rfl⟩)) rfl λ_=>?_;have hdg:digit c=false↔c.toNat<48\/57<c.toNat:=by
   unfold digit;rw[Bool.and_eq_false_iff,xbl,xbl];omega
  rw[<-xbO,<-xdG,<-xbO];refine Br.dec (λhs=>?_) (λhs=>?_)
  ·refine JE.mk (fin n k _ .tail ?_);rw[he];unfold num;exact xae (by rw[hdg];omega)
  refine ae.TV (a:=10) (by simp only[bM];omega) (ae.tH (b:=48) (by simp only[bM];omega) zO (aO.q (ae.zq (by simp only[bM];omega) (Bz.nat (b:=1048576) ?_))));refine ae.inc (az.of (.refl _) ⟨min (10*n+(c.toNat-48)) 1048576,k+1,rfl,hlt,Nat.min_le_right ..,?_,rfl⟩ (by simp only[bL];omega));rw[he]
  conv=>lhs;unfold num
  rw[xad (by rw[hdg];omega)]
 obtain⟨h2,h3,h4⟩:=u6 hc zO;generalize Utf8.decode ⟨l.toArray⟩ k=d at h2 h3 h4⊢;refine ae.fe (b:=48) (dr.or (decide (57<d.1)) (λ_=>ae.kG (b:=57) ⟨rfl,rfl⟩) rfl λ_=>?_);refine dr.or (decide (k=1) &&decide (n=0)) (λ_=>ae.bA (b:=1) (dr.and (decide (n=0)) (λ_=>ae.bA (b:=0) ⟨rfl,rfl⟩) rfl λ_=>⟨rfl,rfl⟩)) rfl λ_=>?_;rw[<-xbO,<-xdG,<-xbO];refine Br.T (JE.mk (fin n k _ .tail ?_)) zO;have hdf:digit c=false:=by
  unfold digit;rw[Bool.and_eq_false_iff,xbl,xbl];omega
 rw[he];unfold num;exact xae (.inl hdf)
end Go.Proofs
