import Derived.Test.YtgeffephefcdiaaGreatW3
import Derived.Test.YtgeffephefcdiaaGreatW2
import Derived.Test.YtgeffephefcdiaaGreatW1
import Derived.Deep.Slices
import Derived.SizedLaws
set_option linter.unusedVariables false
set_option linter.unusedSimpArgs false
set_option linter.unusedSectionVars false
set_option maxRecDepth 100000
namespace Go.Proofs
open Go Go.Sx
open aA
theorem LZ(x:Bool)(B:Hp):Rd zQ 248 #[.bool x] B (· =.int .u8 ((x.toNat:Nat):Int)):=by
 refine aF λg=>I7 ?_;cases x
 ·exact Br.no (aZ.mk (.refl _) rfl)
 exact Br.yes (aZ.mk (.refl _) rfl)
def Xa(op:Nat)(a b:Bool):Bool:=op.testBit (2*a.toNat+b.toNat)
abbrev M0(b op:Nat):Hp:=[(b,.cells #[.int .u8 (op:Int)] 5 zZ)]
theorem GF{b op:Nat}(hop:op<16):Bz (.func (.func 247) #[] #[ptr b]) (M0 b op) (λx y _=>Xa op x y):=by
 refine⟨_,_,_,rfl,by kernel_rfl,λx y z=>?_⟩;refine aF λg=>I8 (DR.of (R:=M0 b op) (.refl _) (Ld.q ?_));refine aa.eq (LZ x _) (⟨.refl _,?_⟩);have hx:x.toNat<=1:=by cases x<;>decide
 have hy:y.toNat<=1:=by cases y<;>decide
 refine ae.xW (a:=2) (aa.eq (LZ y _) (⟨.refl _,?_⟩));refine ae.eZ (ae.iM (by simp[bG];omega) (ae.jz (b:=1) (by simp[bG];exact xaA (xbo _ _) zO) (by simp[bG]) (ae.dQ (b:=1) (aZ.mk (.refl _) ?_))));congr 1;unfold Xa;rw[xbU];rw[xc5,xaZ]
theorem FQ:Bz (.func (.func 179) #[] #[]) [] (λx y z=>if x then y else z):=by
 refine⟨_,_,_,rfl,by kernel_rfl,λx y z=>?_⟩;refine aF λg=>JK ?_;cases x
 ·refine cm.mk false (λh=>by simp at h) (λ_=>rfl) λgs=>?_;refine cm.mk (by exact z) (λ_=>Un.not (cm.and z (λ_=>⟨rfl,rfl⟩) zI λgs=>⟨rfl,by simp⟩)) (λh=>by simp at h) λgs=>?_;exact aZ.mk (.refl _) rfl
 refine cm.and y (λ_=>⟨rfl,rfl⟩) zI λgs=>?_;refine cm.or false (λ_=>Un.not (cm.and z (λ_=>⟨rfl,rfl⟩) zI λgs=>⟨rfl,by simp⟩)) zI λgs=>?_;refine aZ.mk (.refl _) ?_;cases y<;>rfl
section
variable {kp:Nat} {K:Kd} {S:Nat->aA.Fn} {ord ah tr:zL} {C:Hp}
theorem abg{α:Type}(w a b:α)(L R:List α):(w::(L++(a::b::R))).Perm (a::([b]++w::(L++R))):=by
 classical
 rw[xct];intro x;simp only[xbi,xb7,xdJ];omega
theorem Ee(hK:cf kp K S ord ah tr C){q:zL}(hq:∀r∈q,live K.N r):∃c,Tree K.n (lv ah) K.N q c:=by
 obtain⟨c,h1,_⟩:=Up (S:=S) hK.ok.wf hK.ok.lv hK.ok.mid.int K.n 0 q zO zO hq (λr _=>xaN _);exact⟨c,h1⟩
theorem jY.two{f:aA.Fn}{w:zV}{H:Hp}(h:jY kp K S ord ah tr f w H):∃x e,w=.tuple #[x,e]:=by
 rcases h with(⟨x,K',S',rfl,_⟩|⟨rfl,_⟩)|⟨rfl,_⟩
 ·exact⟨_,_,rfl⟩
 ·exact⟨_,_,rfl⟩
 exact⟨_,_,rfl⟩
theorem jD(hK:cf kp K S ord ah tr C){op a b:Nat}(hop:op<16)(ha:live K.N a)(hb:live K.N b):
  Fc zQ 176 #[ptr kp,.int .u8 (op:Int),u32 a,u32 b] C (jY kp K S ord ah tr (λx=>Xa op (S a x) (S b x))):=by
 refine aF λg=>JN λb1 _=>?_;refine ae.aH (Br.no (Ld.q ?_));refine ae.nh (b:=15) (Br.F (az.Ri (e:=110) (x:=(a:Int)) (y:=(b:Int)) zK zK zK λbs=>?_));have hq:∀r∈l3 (a,b,0),live K.N r:=λr hr=>by
  simp only[l3,xam,xaP,xbD]at hr;rcases hr with rfl|rfl|rfl
  ·exact ha
  ·exact hb
  exact .inl zO
 have hI:dz .u32 ((bs,Obj.cells (av .u32 [(a:Int),(b:Int)]) 110 zZ)::M0 b1 op) (.slice (some ⟨bs,0,none⟩) 2 2) (iw [a,b]):=(aN.made (T:=110) (kd:=.u32) (b:=bs) (iw [a,b])).ints.mono λ_ h=>xae (M0 b1 op) h;refine aa.fq (args:=#[ptr kp,.slice (some ⟨bs,0,none⟩) 2 2]) (C:=((bs,Obj.cells (av .u32 [(a:Int),(b:Int)]) 110 zZ)::M0 b1 op)++C) (Ab hK hI (λr hr=>?_) (by show 2<=1048576;omega)) ?_
 ·simp only[xam,xaP,xbD]at hr;rcases hr with rfl|rfl
  ·exact ha
  exact hb
 rintro w H ⟨bw,vl,CL,lvl,rfl,rfl,XN,ng,hlv⟩;refine Ext.mk rfl (Ext.mk rfl (ae.cD (Br.F (Build.aa3 (e:=110) (q:=.u32) (x:=(a:Int)) (y:=(b:Int)) zK zK zK ?_))));obtain⟨c,hT⟩:=Ee hK hq;refine aa.pre (H':=(bs,Obj.cells (av .u32 [(a:Int),(b:Int)]) 110 zZ)::(M0 b1 op++gA bw kp vl (.slice none 0 0)::(CL++C))) (.perm (abg _ _ _ _ _)) (aa.fq (args:=#[ptr bw,kq (a,b,0),.func (.func 247) #[] #[ptr b1]]) (LV (t:=λx y _=>Xa op x y) hK (GF hop) XN ng hlv (a,b,0) hq hT) ?_);intro w H hD;obtain⟨x,e,rfl⟩:=hD.two;exact Ext.mk rfl (Ext.mk rfl (aM.mk .tail hD))
theorem Om(hK:cf kp K S ord ah tr C){a:Nat}(ha:live K.N a):
  Fc zQ 122 #[ptr kp,u32 a] C (jY kp K S ord ah tr (λx=> !S a x)):=by
 refine aF λg=>Kp (aa.fq (args:=#[ptr kp,.int .u8 ((3:Nat):Int),u32 a,u32 0]) (jD hK (op:=3) zD ha (.inl zO)) ?_);intro w H hD;have e:(λx=>Xa 3 (S a x) (S 0 x))=λx=> !S a x:=by
  funext x
  rw[hK.ok.mid.int.zero];cases S a x<;>rfl
 rw[e]at hD;obtain⟨x,e,rfl⟩:=hD.two;exact Ext.mk rfl (Ext.mk rfl (aM.mk (.refl _) hD))
theorem abd{α:Type}(w a:α)(L R:List α):(w::(L++(a::R))).Perm (a::([]++w::(L++R))):=by
 classical
 rw[xct];intro x;simp only[xbi,xb7,xdJ];omega
theorem z9(hK:cf kp K S ord ah tr C){a b c:Nat}(ha:live K.N a)(hb:live K.N b)(hc:live K.N c):
  Fc zQ 126 #[ptr kp,u32 a,u32 b,u32 c] C (jY kp K S ord ah tr (λx=>if S a x then S b x else S c x)):=by
 refine aF λg=>Kk (az.aby (e:=110) (x:=(a:Int)) (y:=(b:Int)) (z:=(c:Int)) zK zK zK λbs=>?_);have hq:∀r∈l3 (a,b,c),live K.N r:=λr hr=>by
  simp only[l3,xam,xaP,xbD]at hr;rcases hr with rfl|rfl|rfl
  ·exact ha
  ·exact hb
  exact hc
 refine aa.fq (args:=#[ptr kp,.slice (some ⟨bs,0,none⟩) 3 3]) (C:=[(bs,Obj.cells (av .u32 [(a:Int),(b:Int),(c:Int)]) 110 zZ)]++C) (Ab hK (refs:=l3 (a,b,c)) ((aN.made (T:=110) (kd:=.u32) (b:=bs) (iw (l3 (a,b,c)))).ints) hq (by show 3<=1048576;omega)) ?_;rintro w H ⟨bw,vl,CL,lvl,rfl,rfl,XN,ng,hlv⟩;refine Ext.mk rfl (Ext.mk rfl (ae.cD (Br.F (Build.three (e:=110) (q:=.u32) (x:=(a:Int)) (y:=(b:Int)) (z:=(c:Int)) zK zK zK ?_))));obtain⟨k,hT⟩:=Ee hK hq;refine aa.pre (H':=(bs,Obj.cells (av .u32 [(a:Int),(b:Int),(c:Int)]) 110 zZ)::([]++gA bw kp vl (.slice none 0 0)::(CL++C))) (.perm (abd _ _ _ _)) (aa.fq (args:=#[ptr bw,kq (a,b,c),.func (.func 179) #[] #[]]) (LV (t:=λx y z=>if x then y else z) hK FQ XN ng hlv (a,b,c) hq hT) ?_);intro w H hD;obtain⟨x,e,rfl⟩:=hD.two;exact Ext.mk rfl (Ext.mk rfl (aM.mk .tail hD))
theorem pQ.grow(hK:cf kp K S ord ah tr C){K':Kd}{S':Nat->aA.Fn}{f:aA.Fn}{r:Nat}{C':Hp}{cV:zL}(h:pQ K S K' S' f r)(dh:cf kp K' S' ord ah cV C')(hl:r<2\/2<=r):kO K S K' S' f r:=
 ⟨h.n,h.cap,h.N,h.fn,by
  by_cases h2:r<2
  ·exact .inl h2
  refine .inr (dh.ok.mid.held r ?_);rw[h.hold,xad ⟨rfl,by omega⟩];omega,h.is,λs=>by rw[h.hold];split<;>omega⟩
theorem Oh(hK:cf kp K S ord ah tr C){v:Nat}(hv:v<K.n):
  Fc zQ 120 #[ptr kp,iv (v:Int)] C (jY kp K S ord ah tr (λx=>x.testBit v)):=by
 refine aF λg=>Kr (ae.aH (Br.no ?_));have hint:=hK.ok.mid.int;have hL:=hK.ok.lv;have mS:=hK.od;have h0:live K.N 0:=.inl zO;have h1:live K.N 1:=.inl zO;have d0:dep K.n (lv ah) K.N 0=K.n:=aT (hK.ok.wf.const zO);have d1:dep K.n (lv ah) K.N 1=K.n:=aT (hK.ok.wf.const zO);have hl:=hL.lt v hv;have eI:ite S ⟨v,0,1⟩=λx=>x.testBit v:=by
  funext x
  unfold aA.ite;simp only[hint.zero,hint.one];cases x.testBit v<;>rfl
 refine aa.fq (args:=#[ptr kp,iv (v:Int),u32 0,u32 1]) (AW hK hv h0 h1 (.inr ⟨by rw[d0];exact hl,by rw[d1];exact hl⟩)) ?_;rintro w C' (⟨r,K',S',rfl,dh,mk⟩|⟨r,rfl,rfl,_,Pu,hfull,Gk⟩|⟨rfl,rfl,hcap,hne,hT⟩)
 ·rw[eI]at mk;exact Ext.mk rfl (Ext.mk rfl (aM.mk (.refl _) (.inl (.inl ⟨r,K',S',rfl,dh,mk.grow hK dh zO⟩))))
 ·exact Ext.mk rfl (Ext.mk rfl (aM.mk (.refl _) (.inr ⟨rfl,⟨K,S,tr,hK,.inr rfl,.refl K S⟩,r,Pu,hfull,by rw[Gk,eI]⟩)))
 refine Ext.mk rfl (Ext.mk rfl (aM.mk (.refl _) (.inl (.inr ⟨rfl,⟨K,S,tr,hK,.inr rfl,.refl K S⟩,?_⟩))));rintro⟨ku,RL,hfit⟩;have Nx:=mS.of hL hv;have sP:∀j,j<lv ah v->¬cE (λx:Nat=>x.testBit v) (ord.getD j 0):=by
  rintro j hj ⟨x,hx⟩;apply hx;have TW:j<K.n:=by omega
  obtain⟨o1,o2⟩:=mS.bc j TW;show Nat.testBit _ v=Nat.testBit _ v;rw[an.aj,an.aj,xac (λh=>by rw[h]at hj;omega),xac (λh=>by rw[h]at hj;omega)]
 have hh:cE (λx:Nat=>x.testBit v) (ord.getD (lv ah v) 0):=by
  rw[Nx];exact⟨0,by show Nat.testBit _ v≠Nat.testBit _ v;rw[an.aj,an.aj,xad rfl,xad rfl];decide⟩
 have:=hK.ok.roomFor mS RL hfit (λg hg=>cI (λg h=>.inl h) hg) (d:=⟨v,0,1⟩) h0 h1 (show(0:Nat)≠1 by omega) hv ⟨by rw[d0];exact hl,by rw[d1];exact hl⟩ (cI (λg h=>.inr h) (by rw[eI];exact oC sP hl hh)) hT;omega
end
end Go.Proofs
namespace Go.Sx
open Go
section
variable {κ β:Type} [DecidableEq κ] {ke:κ->zV} {vr:zV->β->Prop} {es:Array MapEntry} {ck:Nat} {m:List (κ×β)} {H:Hp} {b:Nat}
theorem aE.del{kd:TypeDesc}{k:κ}{K:Hp->Prop}(hk:∀a b,Instr.sameNow kd (ke a) (ke b)=some (decide (a=b)))(h:aE ke vr es ck m)(hm:(b,Obj.map es ck)∈H)
 (h1:∀es',aE ke vr es' ck (jb m k)->∃H',c8 b (.map es ck) (.map es' ck) H H'/\K H'):ot kd H (.map (some b)) (ke k) K:=by
 refine .inr ?_;rcases h.findNow hk k with⟨i,y,e,g1,g2,g3,g4⟩|⟨g1,g2⟩
 ·refine⟨b,es,ck,_,rfl,g4,?_⟩;have:=h.less i;rw[<-vP h.nd g2]at this;exact h1 _ this
 refine⟨b,es,ck,_,rfl,g2,hm,?_⟩;have e:jb m k=m:=by
  unfold jb;rw[xcs];intro w hw;simp only[decide_not,xbE,xa4];intro e;exact g1 (xan.2 ⟨w,hw,e⟩)
 obtain⟨H',hu,hK⟩:=h1 es (by rw[e];exact h);have:∀{H H':Hp},c8 b (.map es ck) (.map es ck) H H'->H'=H:=by
  intro H H' hu;generalize ho:Obj.map es ck=o at hu;induction hu with
  |head R=>rfl
  |tail _ ih=>rw[ih]
 rw[this hu]at hK;exact hK
end
def kN(kd:IntKind)(r:Nat):zV:=.int kd (r:Int)
theorem jr{kd:IntKind}(a b:Nat):Instr.sameNow (.int kd) (kN kd a) (kN kd b)=some (decide (a=b)):=by
 simp only[kN,Instr.sameNow,xa7,xas];by_cases e:a=b
 ·subst e;simp
 have:¬(a:Int)=(b:Int):=by omega
 simp[e,this]
theorem Lk{kd:IntKind}(a:Nat):Instr.sameBits 10000 (kN kd a) (kN kd a)=true:=by
 simp[kN,Instr.sameBits]
end Go.Sx
namespace aA
open an
def QF(t:Bool->Bool->Bool)(v:Nat)(f:Fn):Fn:=λx=>t (f (aB x v false)) (f (aB x v true))
section
variable {t:Bool->Bool->Bool} {v u:Nat} {f:Fn}
theorem oB{x v:Nat}{b c:Bool}:aB (aB x v b) v c=aB x v c:=by
 apply xaW;intro k;rw[aj,aj,aj];split<;>rfl
theorem TG(h:u≠v)(b:Bool):QF t v (λx=>f (aB x u b))=λx=>QF t v f (aB x u b):=by
 funext x
 unfold QF;simp only[dj h]
theorem TE(h:¬cE f u):¬cE (QF t v f) u:=by
 rintro⟨x,hx⟩;by_cases e:u=v
 ·subst e;apply hx;unfold QF;simp only[oB]
 apply hx;unfold QF;simp only[dj e];have key:∀y,f (aB y u false)=f (aB y u true):=λy=>xaK λhn=>h ⟨y,hn⟩;rw[key,key]
theorem WQ(ht:∀a,t a a=a)(h:¬cE f v):QF t v f=f:=by
 funext x
 unfold QF;have key:∀b,f (aB x v b)=f x:=λb=>cM h x b;rw[key,key,ht]
end
def jt3(e:Bool):Bool->Bool->Bool->Bool:=λx y _=>if e then x||y else x&&y
def jf(e:Bool)(S:Nat->Fn)(a b:Nat):Fn:=uk (jt3 e) S [a,b,0]
theorem sJ(e:Bool)(S:Nat->Fn)(a b x:Nat):jf e S a b x=if e then S a x||S b x else S a x&&S b x:=rfl
theorem A2(e:Bool)(S:Nat->Fn)(a b:Nat):jf e S a b=jf e S b a:=by
 funext x;rw[sJ,sJ];cases e<;>cases S a x<;>cases S b x<;>rfl
theorem Xi(e:Bool)(S:Nat->Fn)(a b:Nat):jf e S (min a b) (max a b)=jf e S a b:=by
 by_cases h:a<=b
 ·rw[xcB h,Nat.max_eq_right h]
 rw[xds zO,Nat.max_eq_left zO,A2]
theorem Vt(e:Bool)(S:Nat->Fn)(a:Nat):jf e S a a=S a:=by
 funext x;rw[sJ];cases e<;>cases S a x<;>rfl
section
variable {N:eH} {S:Nat->Fn} {n:Nat} {ah:Nat->Nat}
theorem Re(hi:Interp N S)(e:Bool)(a:Nat):jf e S e.toNat a=S e.toNat:=by
 funext x;rw[sJ];cases e
 ·show(S 0 x&&S a x)=S 0 x;rw[hi.zero];rfl
 show(S 1 x||S a x)=S 1 x;rw[hi.one];rfl
theorem Rb(hi:Interp N S)(e:Bool)(a:Nat):jf e S (!e).toNat a=S a:=by
 funext x;rw[sJ];cases e
 ·show(S 1 x&&S a x)=S a x;rw[hi.one];cases S a x<;>rfl
 show(S 0 x||S a x)=S a x;rw[hi.zero];cases S a x<;>rfl
theorem uI(h:WF n ah N)(hl:jX n ah){r v:Nat}(hd:ah v<dep n ah N r)(b:Bool):dZ N v b r=r:=by
 unfold dZ;cases e:N r with
 |none=>rfl
 |some d=>
  rw[aq e]at hd;simp only;rw[xac (λe2=>by rw[e2]at hd;omega)]
theorem kJ{r:Nat}{d:Nd}(e:N r=some d):dZ N d.v false r=d.lo/\dZ N d.v true r=d.hi:=by
 unfold dZ;rw[e];simp
theorem wC{N':eH}(hN:∀s d,N s=some d->N' s=some d)(hc:∀r,r<2->N' r=none)(h0:∀r,r<2->N r=none){r:Nat}(hr:live N r):dep n ah N' r=dep n ah N r:=by
 rcases hr with hr|⟨d,hd⟩
 ·rw[aT (hc r hr),aT (h0 r hr)]
 rw[aq hd,aq (hN r d hd)]
theorem D3(v:Nat)(bb:Bool)(a b:Nat)(h0:N 0=none):iW N v bb [a,b,0]=[dZ N v bb a,dZ N v bb b,0]:=by
 have:dZ N v bb 0=0:=by unfold dZ;rw[h0]
 simp[iW,this]
theorem aeY(h:WF n ah N)(hl:jX n ah){a b:Nat}(h0:N 0=none)(hlt:min (dep n ah N a) (dep n ah N b)<n):
  ∃v,uo n ah N [a,b,0] v/\ah v=min (dep n ah N a) (dep n ah N b):=by
 have hd0:dep n ah N 0=n:=aT h0;have node:∀r,dep n ah N r<n->∃d,N r=some d:=λr hr=>by
  cases e:N r with
  |none=>rw[aT e]at hr;omega
  |some d=>exact⟨d,rfl⟩
 by_cases hab:dep n ah N b<dep n ah N a
 ·obtain⟨d,hd⟩:=node b zO;have e:=aq (n:=n) (ah:=ah) hd;refine⟨d.v,⟨h.var hd,⟨b,by simp,d,hd,rfl⟩,λr hr=>?_⟩,by omega⟩;simp only[xam,xaP,xbD]at hr;rcases hr with rfl|rfl|rfl<;>omega
 obtain⟨d,hd⟩:=node a zO;have e:=aq (n:=n) (ah:=ah) hd;refine⟨d.v,⟨h.var hd,⟨a,by simp,d,hd,rfl⟩,λr hr=>?_⟩,by omega⟩;simp only[xam,xaP,xbD]at hr;rcases hr with rfl|rfl|rfl<;>omega
end
end aA
set_option maxRecDepth 100000
namespace Go.Proofs
open Go Go.Sx
open aA
section
variable {kp:Nat} {K:Kd} {ord ah tr:zL} {C:Hp} {S:Nat->aA.Fn}
theorem lR(h:cT kp K ord ah tr C)(v:Int):Rd zQ 150 #[ptr kp,iv v] C (· =if 0<=v/\v<K.n then .tuple #[iv ((ah.getD v.toNat 0:Nat):Int),iv 0]else .tuple #[iv 0,iv 2]):=by
 have h0:=h;obtain⟨b,rfl,hO⟩:=h;refine aF λg=>qG (ae.aH (Br.no (aa.eq (rA h0 v) (Un.not ?_))));by_cases Nu:0<=v/\v<K.n
 ·rw[xal Nu,xad Nu];refine Br.no (Nil.ptr (Ld.f ?_));have hlen:=hO.ol.2;obtain⟨n,rfl⟩:∃n:Nat,v=n:=⟨v.toNat,by omega⟩;exact hO.lv.ld (x:=((ah.getD n 0:Nat):Int)) (bH zO) (bI.sub (.cons (.app (.app (.app (.app (.app .left))))))) (aZ.mk (.refl _) rfl)
 rw[xai Nu,xac Nu];exact Br.yes (aZ.mk (.refl _) rfl)
end
def KW(bq kp bm:Nat)(ok:Bool):Nat×Obj:=(bq,.cells #[ptr kp,.map (some bm),iv (if ok then 0 else 9)] 387 zZ)
abbrev uy(bq kp bm:Nat)(ok:Bool)(es:Array MapEntry)(ck:Nat)(C:Hp):Hp:=KW bq kp bm ok::(bm,.map es ck)::C
abbrev vr1(v:zV)(_:Unit):Prop:=v=iv 1
abbrev BG(made:zL):List (Nat×Unit):=made.map λr=>(r,())
theorem q9(made:zL):(BG made).map Prod.fst=made:=by
 induction made with
 |nil=>rfl
 |cons a l ih=>simp only[BG,xaB,xaw,xcT]at ih⊢;exact ih
structure yj(kp:Nat)(K0:Kd)(S0:Nat->aA.Fn)(U:aA.Fn->Prop)(ord ah:zL)(K:Kd)(S:Nat->aA.Fn)(made:zL)(es:Array MapEntry)(ck:Nat)(C:Hp)(ok:Bool):Prop where
 ks:cf kp K S ord ah [] C
 cX:kW K0 S0 U ord K S made
 dL:aE (kN .u32) vr1 es ck (BG made)
 bad:ok=false->¬Fits U K0.cap
theorem yj.nd{kp:Nat}{K0:Kd}{S0:Nat->aA.Fn}{U:aA.Fn->Prop}{ord ah:zL}{K:Kd}{S:Nat->aA.Fn}{made:zL}{es:Array MapEntry}{ck:Nat}{C:Hp}{ok:Bool}(h:yj kp K0 S0 U ord ah K S made es ck C ok):made.Nodup:=by
 have:=h.dL.nd;rwa [q9]at this
structure EP(K:Kd)(S:Nat->aA.Fn)(made:zL)(K':Kd)(S':Nat->aA.Fn)(made':zL):Prop where
 N:∀s d,K.N s=some d->K'.N s=some d
 fn:∀s,live K.N s->S' s=S s
 mem:∀s∈made,s∈made'
theorem EP.refl{K:Kd}{S:Nat->aA.Fn}{made:zL}:EP K S made K S made:=⟨λ_ _ h=>h,λ_ _=>rfl,λ_ h=>h⟩
theorem EP.trans{K K' K2:Kd}{S S' S2:Nat->aA.Fn}{made made' fU:zL}(h:EP K S made K' S' made')(h':EP K' S' made' K2 S2 fU):EP K S made K2 S2 fU:=
 ⟨λs d hd=>h'.N s d (h.N s d hd),λs hs=>(h'.fn s (cu h.N hs)).trans (h.fn s hs),λs hs=>h'.mem s (h.mem s hs)⟩
section
variable {kp bq bm:Nat} {K K0:Kd} {S S0:Nat->aA.Fn} {U:aA.Fn->Prop} {ord ah made:zL} {es:Array MapEntry} {ck:Nat} {C:Hp} {ok:Bool}
theorem MU{tr:zL}{r:Nat}(h:cf kp K S ord ah tr C)(hr:live K.N r):Rd zQ 379 #[ptr bq,.agg (got K.N r).toArray] (uy bq kp bm ok es ck C) (· =iv ((dep K.n (lv ah) K.N r:Nat):Int)):=by
 have hlen:=(aQ K.N r).1;refine aF λg=>Ho λb1 _=>?_;cases hN:K.N r with
 |none=>
  have h2:r<2:=by rcases hr with h|⟨d,hd⟩;exact h;rw[hN]at hd;cases hd
  have eg:got K.N r=[iv (-1),u32 r,u32 r]:=fJ h2;rw[eg];refine Ld.f ?_;refine ae.lss (Br.T (Ld.n ?_));refine aa.eq (gO h.rep) ?_;rw[aT hN];exact aZ.mk .tail rfl
 |some d=>
  have h2:=h.ok.wf.two hN;have hv:=h.ok.wf.var hN;rw[dY hN h2];refine Ld.f ?_;refine ae.lss (Br.F (DR.of (R:=(b1,Obj.cells (bu d).toArray 226 zZ)::uy bq kp bm ok es ck C) (.refl _) (Ld.n ?_)));refine Ld.f ?_;refine aa.rq (lR h.rep (d.v:Int)) ?_;rw[xad zO];rintro w rfl;refine⟨.refl _,?_⟩;apply Ext.two;rw[aq hN];exact aZ.mk .tail rfl
theorem Fo{tr:zL}{r:Nat}(h:cf kp K S ord ah tr C)(hr:live K.N r):Rd zQ 326 #[ptr bq,u32 r] (uy bq kp bm ok es ck C) (· =.tuple #[.agg (got K.N r).toArray,iv ((dep K.n (lv ah) K.N r:Nat):Int)]):=by
 refine aF λg=>H8 λb1 _=>?_;refine Ld.n ?_;refine aa.rq (iS h.rep (by have:=h.bK hr;omega)) ?_;rw[bX.2 hr];rintro w rfl;refine Ext.two λBt _=>(St.whole (r:=got K.N r) (by exact .head _) rfl (aQ _ _).1 (aQ _ _).2 ?_);refine DR.of (R:=[(Bt,Obj.cells (got K.N r).toArray 226 zZ)]) (aL.left (A:=[_])) (ax.whole (r:=got K.N r) (by exact .head _) (aQ _ _).1 ?_);refine ax.whole (r:=got K.N r) (by exact .head _) (aQ _ _).1 ?_;refine aa.eq (MU h hr) (⟨aL.left (A:=[_]),?_⟩);refine St.whole (r:=got K.N r) (by exact .tail (.head _)) rfl (aQ _ _).1 (aQ _ _).2 ?_;refine⟨aL.left (A:=[_]),?_⟩;refine ax.whole (r:=got K.N r) (by exact .tail _ (.head _)) (aQ _ _).1 ?_;exact aZ.mk (.skip .tail) rfl
theorem yJ(v:zV)(a b:zV)(B:Hp):Rd zQ 327 #[ptr bq,v,a,b] (KW bq kp bm false::B) (· =u32 0):=by
 refine aF λg=>xq (Ld.n ?_);exact ae.cD (Br.T (aZ.mk (.refl _) rfl))
theorem kW.aa7(h:kW K0 S0 U ord K S made)(hK:cf kp K S ord ah [] C){K':Kd}{S':Nat->aA.Fn}{f:aA.Fn}{r:Nat}(m:pQ K S K' S' f r)(h2:2<=r)(hU:∀g,aG K0.n ord (λg=>g=f) g->U g):kW K0 S0 U ord K' S' (made++[r]):=h.step hK m h2 hU
theorem kW.again(h:kW K0 S0 U ord K S made)(hK:cf kp K S ord ah [] C){K' K2:Kd}{S':Nat->aA.Fn}{f:aA.Fn}{r:Nat}{C2:Hp}(m:pQ K S K' S' f r)(hf:Ao K' K2 r)(dk:cf kp K2 S' ord ah [] C2):kW K0 S0 U ord K2 S' made/\(∀s d,K.N s=some d->K2.N s=some d):=by
 have hold:∀s,K2.hold s=K.hold s:=λs=>by
  rw[hf.hold,m.hold];by_cases e:s=r/\2<=r
  ·rw[xad e,xad e];omega
  rw[xac e,xac e]
 have hN:∀s d,K.N s=some d->K2.N s=some d:=λs d hs=>jR hK.ok dk.ok (λs h=>by rw[hold];exact h) (λs d d' h1 h2=>by
  have a:=hf.N s d' h2;rw[m.N s d h1]at a;exact(xbp a).symm) _ s d hs (xag _)
 refine⟨⟨hf.n.trans (m.n.trans h.n),hf.cap.trans (m.cap.trans h.cap),λs d hd=>hN s d (h.N s d hd),λs hs=>(m.fn s (h.live hs)).trans (h.fn s hs),λs=>by rw[hold,h.hold],h.two,λg hg=>h.U g (cI (λg=>?_) hg)⟩,hN⟩;rintro⟨s,hs,rfl⟩;have hs':K.hold s≠0:=by rw[<-hold];exact hs
 exact⟨s,hs',m.fn s (.inr (hK.ok.mid.held s hs'))⟩
theorem QT{made:zL}{r:Nat}(h:r∉made):ef (BG made) r ()=BG (made++[r]):=by
 unfold ef;rw[xac (by rw[q9];exact h)];simp[BG]
theorem oT{made:zL}{r:Nat}:(r∈made->aJ (BG made) r=some ())/\(r∉made->aJ (BG made) r=none):=by
 refine⟨λh=>?_,λh=>iy.2 (by rw[q9];exact h)⟩;cases e:aJ (BG made) r with
 |none=>have:=iy.1 e;rw[q9]at this;exact absurd h this
 |some u=>rfl
theorem Cw(hq:yj kp K0 S0 U ord ah K S made es ck C true){v lo hi:Nat}(hv:v<K.n)(hlo:live K.N lo)(hhi:live K.N hi)(hlt:lv ah v<dep K.n (lv ah) K.N lo/\lv ah v<dep K.n (lv ah) K.N hi)
 (hU:∀g,aG K0.n ord (λg=>g=ite S ⟨v,lo,hi⟩) g->U g)(iU:lo≠hi->U (ite S ⟨v,lo,hi⟩))(hf:∀s,K0.hold s=65535->live K0.N s):
  Fc zQ 327 #[ptr bq,iv (v:Int),u32 lo,u32 hi] (uy bq kp bm true es ck C) (λw H=>∃r K' S' made' es' bB C' nu,w=u32 r/\H=uy bq kp bm nu es' bB C'/\yj kp K0 S0 U ord ah K' S' made' es' bB C' nu/\EP K S made K' S' made'/\
   (nu=true->S' r=ite S ⟨v,lo,hi⟩/\(live K0.N r\/r∈made'))):=by
 have hK:=hq.ks;have fO:=hq.nd;refine aF λg=>xq (Ld.n ?_);refine ae.cD (Br.F (Ld.n ?_));refine aa.fq (AW hK hv hlo hhi (.inr hlt)) ?_;rintro w C' (⟨r,K',S',rfl,dh,mk⟩|⟨r,rfl,rfl,hlr,Pu,hfull,Gk⟩|⟨rfl,rfl,hcap,hne,hT⟩)
 ·refine Ext.two λJ hJ=>(ae.gI (Br.F (ae.cD (Br.F (ae.xX (b:=1) ?_)))));have YX:r<4294967296:=by have:=dh.bK mk.live;omega
  have hA:EP K S made K' S' made:=⟨mk.N,mk.fn,λ_ h=>h⟩;have drop:(r<2\/r∈made)->Nil (ptr bq) λv36=>ai 0 v36 λv37=>Ld (KW bq kp bm true::(bm,Obj.map es ck)::C') v37 λv38=>aa zQ g 142 #[v38,u32 r] (KW bq kp bm true::(bm,Obj.map es ck)::C') (λv39 H40=>JE J [u32 r] H40) (dy (aM λw H=>∃r K' S' made' es' bB C' nu,w=u32 r/\H=uy bq kp bm nu es' bB C'/\yj kp K0 S0 U ord ah K' S' made' es' bB C' nu/\EP K S made K' S' made'/\
   (nu=true->S' r=ite S ⟨v,lo,hi⟩/\(live K0.N r\/r∈made')))):=λhr=>by
   refine Ld.n ?_;refine aa.fq (mV dh (r:=r) YX (λh2=>by rw[mk.hold,xad ⟨rfl,h2⟩];omega)) ?_;rintro w C2 ⟨rfl,K2,dk,f2⟩;obtain⟨pH,ZG⟩:=hq.cX.again hK mk f2 dk;refine JE.mk (hJ _ _ λgs=>?_);exact aM.here ⟨r,K2,S',made,es,ck,C2,true,rfl,rfl,⟨dk,pH,hq.dL,λh=>by cases h⟩,⟨ZG,mk.fn,λ_ h=>h⟩,λ_=>⟨mk.is,hr.imp (λh=>.inl h) id⟩⟩
  by_cases h2:r<2
  ·rw[xal zO];refine cm.or (a:=true) true (λh=>by cases h) zI λgs=>Br.yes ?_;exact drop (.inl h2)
  rw[xai zO];refine cm.or (a:=false) (decide (r∈made)) (λ_=>?_) zI λgs=>?_
  ·refine Ld.n ?_;by_cases hm:r∈made
   ·refine aE.hit (k:=r) (x:=()) jr hq.dL (.tail _ (.head _)) (oT.1 hm) ?_;rintro v rfl;exact ae.gtr ⟨rfl,by rw[xal hm];rfl⟩
   refine aE.bM (k:=r) jr hq.dL (.tail _ (.head _)) (oT.2 hm) ?_;exact ae.gtr ⟨rfl,by rw[xai hm];rfl⟩
  rw[xdv];refine Br.dec (λhm=>drop (.inr hm)) (λhm=>?_);refine Ld.n ?_;refine aE.br (k:=r) (x:=()) jr Lk hq.dL rfl λes' bB he=>⟨_,.tail (.head _),?_⟩;rw[QT hm]at he;refine JE.mk (hJ _ _ λgs=>?_);exact aM.here ⟨r,K',S',made++[r],es',bB,C',true,rfl,rfl,⟨dh,hq.cX.aa7 hK mk zO hU,he,λh=>by cases h⟩,⟨mk.N,mk.fn,λ_ h=>xae _ h⟩,λ_=>⟨mk.is,.inr zI⟩⟩
 ·refine Ext.two λJ hJ=>(ae.gI (Br.T (Ld.n ?_)));refine aa.eq (vV hK hv hlo hhi hlt hlr Pu Gk) (Ext.two (JE.mk (hJ _ _ λgs=>?_)));exact aM.here ⟨r,K,S,made,es,ck,_,true,rfl,rfl,hq,.refl,λ_=>⟨Gk,(hq.cX.full hfull).elim .inr λh=>.inl (hf r h)⟩⟩
 refine Ext.two λJ hJ=>(ae.gI (Br.F (ae.cD (Br.T (Nil.ptr (ai.mk (St.one (by exact .head _) rfl zI rfl ?_)))))));refine JE.mk (hJ _ _ λgs=>?_);refine aM.here ⟨0,K,S,made,es,ck,C',false,rfl,rfl,⟨hK,hq.cX,hq.dL,λ_=>?_⟩,.refl,λh=>by cases h⟩;rintro⟨ku,RL,hfit⟩;have:=hK.ok.roomFor hK.od RL (by rw[hq.cX.cap];exact hfit) (by rw[hq.cX.n];exact hq.cX.U) (d:=⟨v,lo,hi⟩) hlo hhi hne hv hlt (iU hne) hT;omega
end
def pk(p:Nat×Nat):zV:=.agg #[u32 p.1,u32 p.2]
theorem QE(a b:Nat×Nat):BA zQ 447 (pk a) (pk b) (decide (a=b)):=by
 refine BA.flat (fs:=#[⟨"f",110,0,false, "", "thicket/quant",0⟩,⟨"g",110,1,false, "", "thicket/quant",4⟩]) zK zK ?_ ?_
 ·intro f hf;simp only[xam,xaP,xbD]at hf;rcases hf with rfl|rfl
  ·exact⟨by decide,_,_,rfl,rfl,.inl ⟨.u32,_,_,by kernel_rfl,rfl,rfl⟩⟩
  exact⟨by decide,_,_,rfl,rfl,.inl ⟨.u32,_,_,by kernel_rfl,rfl,rfl⟩⟩
 obtain⟨a1,a2⟩:=a;obtain⟨b1,b2⟩:=b;simp[u32];omega
theorem Fp(a:Nat×Nat):mu zQ 447 (pk a):=by
 refine mu.flat (fs:=#[⟨"f",110,0,false, "", "thicket/quant",0⟩,⟨"g",110,1,false, "", "thicket/quant",4⟩]) zK ?_;intro f hf;simp only[xam,xaP,xbD]at hf;rcases hf with rfl|rfl
 ·exact⟨by decide,_,rfl,.inl ⟨.u32,_,_,by kernel_rfl,rfl,rfl⟩⟩
 exact⟨by decide,_,rfl,.inl ⟨.u32,_,_,by kernel_rfl,rfl,rfl⟩⟩
theorem UW(a:Nat×Nat):Instr.sameBits 10000 (pk a) (pk a)=true:=kP 9998 (by intro x hx;simp[u32]at hx;rcases hx with rfl|rfl<;>exact .inl ⟨_,_,rfl⟩)
def Gx(b3 b5 b1 s9 k6:Nat):zV:=.func (.func 380) #[] #[ptr b3,ptr b5,ptr b1,ptr s9,ptr k6]
def JKn(K0:Kd)(F:Nat×Nat->aA.Fn)(S:Nat->aA.Fn)(made:zL)(ok:Bool)(es:Array MapEntry)(ck:Nat):Prop:=
 ∃m:List ((Nat×Nat)×Nat),aE pk Pc es ck m/\(ok=true->∀y∈m,S y.2=F y.1/\(live K0.N y.2\/y.2∈made))
abbrev Xj(e:Bool)(b3 b5 b1 s9 k6 bj bq kp bm:Nat)(ok:Bool)(xK:Array MapEntry)(xL:Nat)(es:Array MapEntry)(ck:Nat)(C:Hp):Hp:=
 (k6,.cells #[Gx b3 b5 b1 s9 k6] 445 zZ)::(s9,.cells #[.map (some bj)] 444 zZ)::(bj,.map xK xL)::(b5,.cells #[u32 (!e).toNat] 110 zZ)::(b3,.cells #[u32 e.toNat] 110 zZ)::(b1,.cells #[ptr bq] 313 zZ)::uy bq kp bm ok es ck C
section
variable {kp bq bm b3 b5 b1 s9 k6 bj:Nat} {K0:Kd} {S0:Nat->aA.Fn} {U:aA.Fn->Prop} {ord ah:zL} {e:Bool}
theorem yj.vQ{K:Kd}{S:Nat->aA.Fn}{made:zL}{es:Array MapEntry}{ck:Nat}{C:Hp}{ok:Bool}(h:yj kp K0 S0 U ord ah K S made es ck C ok){r:Nat}(hr:live K0.N r\/r∈made):live K.N r:=by
 rcases hr with hr|hr
 ·exact h.cX.live hr
 exact h.cX.iA h.ks hr
theorem JKn.more{F:Nat×Nat->aA.Fn}{K K':Kd}{S S':Nat->aA.Fn}{made made':zL}{es xK:Array MapEntry}{ck xL:Nat}{C:Hp}{ok nu:Bool}(hq:yj kp K0 S0 U ord ah K S made es ck C ok)(h:JKn K0 F S made ok xK xL)(ha:EP K S made K' S' made')(hok:nu=true->ok=true):JKn K0 F S' made' nu xK xL:=by
 obtain⟨m,h1,h2⟩:=h;refine⟨m,h1,λh y hy=>?_⟩;obtain⟨a,b⟩:=h2 (hok h) y hy;exact⟨by rw[ha.fn _ (hq.vQ b),a],b.imp id (ha.mem _)⟩
def aaa(kp:Nat)(K0:Kd)(S0:Nat->aA.Fn)(U:aA.Fn->Prop)(ord ah:zL)(e:Bool)(b3 b5 b1 s9 k6 bj bq bm:Nat)(K:Kd)(S:Nat->aA.Fn)(made:zL)(ok:Bool)(f:aA.Fn)(w:zV)(H:Hp):Prop:=
 ∃x K' S' made' es' bB C' nu YK YL,w=u32 x/\H=Xj e b3 b5 b1 s9 k6 bj bq kp bm nu YK YL es' bB C'/\yj kp K0 S0 U ord ah K' S' made' es' bB C' nu/\JKn K0 (λp=>jf e S0 p.1 p.2) S' made' nu YK YL/\EP K S made K' S' made'/\
  (nu=true->ok=true/\S' x=f/\(live K0.N x\/x∈made'))
theorem DH{N:eH}{n:Nat}{bW:Nat->Nat}(h:WF n bW N)(hl:jX n bW){r v:Nat}(hr:live N r)(hv:v<n)(hle:bW v<=dep n bW N r):
  ∃z p q,got N r=[iv z,u32 p,u32 q]/\(bW v=dep n bW N r->z=(v:Int)/\p=dZ N v false r/\q=dZ N v true r)/\(bW v<dep n bW N r->dZ N v false r=r/\dZ N v true r=r):=by
 have hlv:=hl.lt v hv;cases e:N r with
 |none=>
  have h2:r<2:=by rcases hr with h|⟨d,hd⟩;exact h;rw[e]at hd;cases hd
  refine⟨_,_,_,fJ h2,λh3=>?_,λh3=>⟨uI h hl h3 _,uI h hl h3 _⟩⟩;rw[aT e]at h3;omega
 |some d=>
  refine⟨_,_,_,dY e (h.two e),λh3=>?_,λh3=>⟨uI h hl h3 _,uI h hl h3 _⟩⟩;rw[aq e]at h3;have:v=d.v:=hl.inj _ _ hv (h.var e) h3;subst this;obtain⟨c1,c2⟩:=kJ (N:=N) e;exact⟨rfl,c1.symm,c2.symm⟩
set_option maxHeartbeats 2000000 in
theorem Ra(fP:aU zQ 380=true)(j8:WF K0.n (lv ah) K0.N)(pw:Interp K0.N S0)(jI:jX K0.n (lv ah))(mS:aA.Ord K0.n (lv ah) ord)(hf:∀s,K0.hold s=65535->live K0.N s):
  ∀(k a b:Nat),K0.n-min (dep K0.n (lv ah) K0.N a) (dep K0.n (lv ah) K0.N b)=k->∀(K:Kd) (S:Nat->aA.Fn) (made:zL) (es:Array MapEntry) (ck:Nat) (C:Hp) (ok:Bool) (xK:Array MapEntry) (xL:Nat),
  live K0.N a->live K0.N b->yj kp K0 S0 U ord ah K S made es ck C ok->JKn K0 (λp=>jf e S0 p.1 p.2) S made ok xK xL->(∀g,aG K0.n ord (λg=>g=jf e S0 a b) g->U g)->
  Fc zQ 380 #[u32 a,u32 b,ptr b3,ptr b5,ptr b1,ptr s9,ptr k6] (Xj e b3 b5 b1 s9 k6 bj bq kp bm ok xK xL es ck C) (aaa kp K0 S0 U ord ah e b3 b5 b1 s9 k6 bj bq bm K S made ok (jf e S0 a b)):=by
 have hc0:∀r,r<2->K0.N r=none:=λr hr=>j8.const hr;intro k;induction k using Nat.strongRecOn with
 |ind k ih=>
 intro a b hk K S made es ck C ok xK xL ha hb hS hJ hU g;have hK:=hS.ks;have Lq:∀r,r<2->K.N r=none:=λr hr=>hK.ok.wf.const hr;have eN:=hS.cX.n;have la:=hS.cX.live ha;have lb:=hS.cX.live hb;have now:∀x,live K0.N x->(S0 x=jf e S0 a b)->∀Z:Hp,aM (aaa kp K0 S0 U ord ah e b3 b5 b1 s9 k6 bj bq bm K S made ok (jf e S0 a b)) (.returned (u32 x)) (Z++Xj e b3 b5 b1 s9 k6 bj bq kp bm ok xK xL es ck C):=λx hx hf Z=>
  aM.mk .right ⟨x,K,S,made,es,ck,C,ok,xK,xL,rfl,rfl,hS,hJ,.refl,λh=>⟨h,by rw[hS.cX.fn x hx];exact hf,.inl hx⟩⟩
 have Gc:e.toNat<2:=by cases e<;>decide
 have TV:(!e).toNat<2:=by cases e<;>decide
 refine Hl (R:=aM _) ?_;unfold L380;refine Ld.q ?_;refine ae.dQ (cm.or (decide (b=e.toNat)) (λ_=>?_) zI λgs=>?_)
 ·refine Ld.q ?_;exact ae.dQ ⟨rfl,rfl⟩
 rw[<-xa8];refine Br.dec (λh1=>?_) (λh1=>?_)
 ·refine Ld.q ?_;refine now _ (.inl Gc) ?_ [];rcases h1 with rfl|rfl
  ·exact(Re pw e b).symm
  rw[A2];exact(Re pw e a).symm
 refine Ld.q ?_;refine ae.dQ (cm.or (decide (a=b)) (λ_=>ae.dQ ⟨rfl,rfl⟩) zI λgs=>?_);rw[<-xa8];refine Br.dec (λh2=>?_) (λh2=>?_)
 ·refine now b hb ?_ [];rcases h2 with rfl|rfl
  ·exact(Rb pw e b).symm
  exact(Vt e S0 a).symm
 refine Ld.q ?_;refine ae.dQ (Br.dec (λh3=>?_) (λh3=>?_))
 ·refine now a ha ?_ [];rw[h3,A2];exact(Rb pw e a).symm
 refine Ld.q ?_;refine Ld.n ?_;cases ok with
 |false=>
  exact ae.cD (Br.T (aM.here ⟨0,K,S,made,es,ck,C,false,xK,xL,rfl,rfl,hS,hJ,.refl,λh=>by cases h⟩))
 |true=>
 refine ae.cD (Br.F (⟨.u32,(a:Int),(b:Int),rfl,rfl,⟨.u32,(a:Int),(b:Int),rfl,rfl,?_⟩⟩));have ahi:(if(b:Int)<(a:Int)then(b:Int)else(a:Int))=((min a b:Nat):Int):=by split<;>omega
 have ahj:(if(b:Int)>(a:Int)then(b:Int)else(a:Int))=((max a b:Nat):Int):=by split<;>omega
 rw[ahi,ahj];refine Build.mk (cs:=[u32 (min a b),u32 (max a b)]) zK λum _=>?_;refine St.p (by intro x hx;simp[u32]at hx;rcases hx with rfl|rfl<;>rfl) ?_;refine Ld.q ?_;refine ax.q ?_;obtain⟨m,hE,hkn⟩:=hJ;have x6:(bj,Obj.map xK xL)∈(um,Obj.cells #[u32 (min a b),u32 (max a b)] 447 zZ)::Xj e b3 b5 b1 s9 k6 bj bq kp bm true xK xL es ck C:=.tail _ (.tail _ (.tail _ (.head _)));cases hg:aJ m (min a b,max a b)with
 |some x=>
  refine aE.F5 (ke:=pk) (k:=(min a b,max a b)) QE Fp hE x6 hg ?_;rintro v rfl;obtain⟨g1,g2⟩:=hkn rfl _ ((dW hE.nd).1 hg);refine Ext.mk rfl (Ext.mk rfl (Br.yes (aM.mk .tail ⟨x,K,S,made,es,ck,C,true,xK,xL,rfl,rfl,hS,⟨m,hE,hkn⟩,.refl,λh=>⟨h,?_,g2⟩⟩)));rw[g1];exact Xi e S0 a b
 |none=>
 refine aE.vM (ke:=pk) (k:=(min a b,max a b)) QE Fp hE x6 hg ?_;refine Ext.mk rfl (Ext.mk rfl (Br.no (Ld.q ?_)));refine aa.eq (Fo (bm:=bm) (ok:=true) (es:=es) (ck:=ck) hK la) (Ext.two λb36 _=>(St.whole (r:=got K.N a) (by exact .head _) rfl (aQ _ _).1 (aQ _ _).2 ?_));refine Ld.q ?_;refine aa.eq (Fo (bm:=bm) (ok:=true) (es:=es) (ck:=ck) hK lb) (Ext.two λZX _=>(St.whole (r:=got K.N b) (by exact .head _) rfl (aQ _ _).1 (aQ _ _).2 ?_));rw[nY hS.cX.N hc0 Lq ha,nY hS.cX.N hc0 Lq hb,eN,wC hS.cX.N Lq hc0 ha,wC hS.cX.N Lq hc0 hb];have hmin:min (dep K0.n (lv ah) K0.N a) (dep K0.n (lv ah) K0.N b)<K0.n:=by
  refine xaK λhn=>h2 (.inr ?_);have EL:∀r,live K0.N r->K0.n<=dep K0.n (lv ah) K0.N r->r<2:=λr hr hd=>by
   rcases hr with h|⟨d,dP⟩
   ·exact h
   rw[aq dP]at hd;have:=jI.lt _ (j8.var dP);omega
  have a2:=EL a ha zO;have b2:=EL b hb zO;cases e<;>simp only[Bool.toNat_true,Bool.toNat_false,xco,xcq]at h1 h2<;>omega
 obtain⟨v,hv,hvl⟩:=aeY j8 jI (hc0 0 zO) hmin;have hva:=hv.le a zI;have hvb:=hv.le b zI;obtain⟨za,pa,qa,ega,ga1,ga2⟩:=DH j8 jI ha hv.lt hva;obtain⟨zb,pb,qb,egb,gb1,gb2⟩:=DH j8 jI hb hv.lt hvb;rw[ega,egb];have fN:∀r∈[a,b,0],live K0.N r:=λr hr=>by
  simp only[xam,xaP,xbD]at hr;rcases hr with rfl|rfl|rfl
  ·exact ha
  ·exact hb
  exact .inl zO
 obtain⟨f1,f2⟩:=o7 (S:=S0) j8 jI pw fN hv false;obtain⟨t1,t2⟩:=o7 (S:=S0) j8 jI pw fN hv true;rw[D3 v _ a b (hc0 0 zO)]at f1 f2 t1 t2;have ec:∀bb,jf e S0 (dZ K0.N v bb a) (dZ K0.N v bb b)=λx=>jf e S0 a b (an.aB x v bb):=λbb=>by
  have:=LF (S:=S0) j8 jI pw rfl fN hv (jt3 e) bb;rw[D3 v _ a b (hc0 0 zO)]at this;exact this
 generalize ea1:dZ K0.N v false a=a1 at*;generalize ea2:dZ K0.N v true a=a2 at*;generalize ec1:dZ K0.N v false b=c1 at*;generalize ec2:dZ K0.N v true b=c2 at*;have gR:=jI.lt v hv.lt;have Nx:=mS.of jI hv.lt;have sP:∀j,j<lv ah v->¬cE (jf e S0 a b) (ord.getD j 0):=zq j8 jI pw mS (q:=[a,b,0]) rfl fN (xb9 gR) hv.le (jt3 e);obtain⟨i1,P1⟩:=jG (n:=K0.n) (ord:=ord) (c:=jf e S0 a1 c1) sP (b:=false) (by rw[Nx,<-ea1,<-ec1];exact ec false);obtain⟨i2,PZ⟩:=jG (n:=K0.n) (ord:=ord) (c:=jf e S0 a2 c2) sP (b:=true) (by rw[Nx,<-ea2,<-ec2];exact ec true);have eF:jf e S0 a1 c1=λx=>jf e S0 a b (an.aB x v false):=by rw[<-ea1,<-ec1];exact ec false
 have eT:jf e S0 a2 c2=λx=>jf e S0 a b (an.aB x v true):=by rw[<-ea2,<-ec2];exact ec true
 have la1:=f1 a1 zI;have lc1:=f1 c1 zI;have la2:=t1 a2 zI;have lc2:=t1 c2 zI;have da1:=f2 a1 zI;have dc1:=f2 c1 zI;have da2:=t2 a2 zI;have dc2:=t2 c2 zI;refine Ld.f ?_;intro J49 h49;have adh:J49 [iv (v:Int)] ((ZX,.cells #[iv zb,u32 pb,u32 qb] 226 zZ)::(b36,.cells #[iv za,u32 pa,u32 qa] 226 zZ)::(um,.cells #[u32 (min a b),u32 (max a b)] 447 zZ)::Xj e b3 b5 b1 s9 k6 bj bq kp bm true xK xL es ck C):=by
  refine h49 _ _ λgs J53 h53=>?_;have adg:J53 [] ((ZX,.cells #[iv zb,u32 pb,u32 qb] 226 zZ)::(b36,.cells #[iv za,u32 a1,u32 a2] 226 zZ)::(um,.cells #[u32 (min a b),u32 (max a b)] 447 zZ)::Xj e b3 b5 b1 s9 k6 bj bq kp bm true xK xL es ck C):=by
   refine h53 _ λgs J56 h56=>?_;have adf:J56 [] ((ZX,.cells #[iv zb,u32 c1,u32 c2] 226 zZ)::(b36,.cells #[iv za,u32 a1,u32 a2] 226 zZ)::(um,.cells #[u32 (min a b),u32 (max a b)] 447 zZ)::Xj e b3 b5 b1 s9 k6 bj bq kp bm true xK xL es ck C):=by
    refine h56 _ λgs=>?_;refine Ld.q ?_;refine Ld.f ?_;refine Ld.f ?_;refine aK.of rfl fP ?_;have hJ0:JKn K0 (λp=>jf e S0 p.1 p.2) S made true xK xL:=⟨m,hE,hkn⟩;refine aa.fq (args:=#[u32 a1,u32 c1,ptr b3,ptr b5,ptr b1,ptr s9,ptr k6]) (ih _ zO a1 c1 rfl K S made es ck C true xK xL la1 lc1 hS hJ0 (λg hg=>hU g (P1 g hg))) ?_;rintro w H ⟨x1,K1,S1,yU,kf,jJ,C1,ok1,afk,afm,rfl,rfl,EG,hJ1,We,x5⟩;refine DR.of (R:=[(ZX,.cells #[iv zb,u32 c1,u32 c2] 226 zZ),(b36,.cells #[iv za,u32 a1,u32 a2] 226 zZ),(k6,.cells #[Gx b3 b5 b1 s9 k6] 445 zZ),(b1,.cells #[ptr bq] 313 zZ)]) (.cons (.cons (.skip (.cons (.skip (.skip (.skip (.skip (aL.left (A:=[_])))))))))) (Ld.q ?_);refine Ld.q ?_;refine Ld.f ?_;refine Ld.f ?_;refine aK.of rfl fP (aa.fq (args:=#[u32 a2,u32 c2,ptr b3,ptr b5,ptr b1,ptr s9,ptr k6]) (ih _ zO a2 c2 rfl K1 S1 yU kf jJ C1 ok1 afk afm la2 lc2 EG hJ1 (λg hg=>hU g (PZ g hg))) ?_);rintro w H ⟨x2,K2,S2,fU,gV,iE,C2,ok2,afj,afl,rfl,rfl,jx,BP,nX,r9⟩;refine⟨.cons (.cons (.skip (.cons (.skip (.skip (.skip (.skip (aL.left (A:=[_]))))))))),?_⟩;have ya:=We.trans nX;have fin:∀(x3:Nat) K3 S3 jg o5 qN C3 EC,yj kp K0 S0 U ord ah K3 S3 jg o5 qN C3 EC->EP K2 S2 fU K3 S3 jg->(EC=true->ok2=true/\S3 x3=jf e S0 a b/\(live K0.N x3\/x3∈jg))->
      ∀H49,H49=(ZX,.cells #[iv zb,u32 c1,u32 c2] 226 zZ)::(b36,.cells #[iv za,u32 a1,u32 a2] 226 zZ)::(um,.cells #[u32 (min a b),u32 (max a b)] 447 zZ)::Xj e b3 b5 b1 s9 k6 bj bq kp bm EC afj afl o5 qN C3->
      aL H49 [(ZX,.cells #[iv zb,u32 c1,u32 c2] 226 zZ),(b36,.cells #[iv za,u32 a1,u32 a2] 226 zZ),(k6,.cells #[Gx b3 b5 b1 s9 k6] 445 zZ),(b1,.cells #[ptr bq] 313 zZ)]/\
      Ld H49 (ptr s9) λv77=>ax 2 H49 (ptr um) λv78=>iL zQ 447 H49 v77 v78 (u32 x3) λH79=>aM (aaa kp K0 S0 U ord ah e b3 b5 b1 s9 k6 bj bq bm K S made true (jf e S0 a b)) (.returned (u32 x3)) H79:=by
     rintro x3 K3 S3 jg o5 qN C3 EC ZB EI Dv H49 rfl;refine⟨.cons (.cons (.skip (.cons (.skip (.skip (.skip (.skip (aL.left (A:=[_]))))))))),?_⟩;refine Ld.q ?_;refine ax.q ?_;obtain⟨m3,Pr,Zg⟩:=BP.more jx EI (λh=>(Dv h).1);refine aE.Mr (ke:=pk) (k:=(min a b,max a b)) (vr:=Pc) (x:=x3) QE Fp UW Pr rfl λes' bB he=>⟨_,.tail (.tail (.tail (.tail (.tail (.head _))))),?_⟩;refine aM.mk (.skip (.skip .tail)) ⟨x3,K3,S3,jg,o5,qN,C3,EC,es',bB,rfl,rfl,ZB,⟨_,he,λh y hy=>(nO hy).elim (λe1=>?_) (λhy=>Zg h y hy)⟩,ya.trans EI,λh=>⟨rfl,(Dv h).2⟩⟩;rw[e1];exact⟨(Dv h).2.1.trans (Xi e S0 a b).symm,(Dv h).2.2⟩
    cases ok2 with
    |false=>
     exact aa.eq (args:=#[ptr bq,iv (v:Int),u32 x1,u32 x2]) (yJ (kp:=kp) (bm:=bm) _ _ _ _) (fin 0 K2 S2 fU gV iE C2 false jx .refl (λh=>by cases h) _ rfl)
    |true=>
     obtain⟨Yv,e2,m2⟩:=r9 rfl;obtain⟨_,e1,m1⟩:=x5 Yv;have YG:=EG.vQ m1;have l1:live K2.N x1:=cu nX.N YG;have l2:=jx.vQ m2;have Wv:S2 x1=jf e S0 a1 c1:=(nX.fn x1 YG).trans e1;have dk:=jx.ks;have n2:=jx.cX.n;have b1':=dk.ok.below dk.od (l:=lv ah v+1) l1 zO (by rw[Wv];exact i1);have b2':=dk.ok.below dk.od (l:=lv ah v+1) l2 zO (by rw[e2];exact i2);have sO:ite S2 ⟨v,x1,x2⟩=jf e S0 a b:=by
      funext x
      unfold aA.ite;rw[Wv,e2,eF,eT]
      conv=>rhs;rw[<-an.ir x v]
      simp only;cases x.testBit v<;>rfl
     have iU:x1≠x2->U (ite S2 ⟨v,x1,x2⟩):=λhx=>by
      have zf:cE (jf e S0 a b) (ord.getD (lv ah v) 0):=by
       rw[Nx];refine xaK λhno=>hx ?_;refine dk.ok.wf.same dk.ok.lv dk.ok.mid.int l1 l2 λx=>?_;rw[Wv,e2,eF,eT];exact(cM hno x false).trans (cM hno x true).symm
      rw[sO];exact hU _ (oC sP gR zf)
     refine aa.fq (args:=#[ptr bq,iv (v:Int),u32 x1,u32 x2]) (Cw jx (by rw[n2];exact hv.lt) l1 l2 ⟨by omega,by omega⟩ (by rw[sO];exact hU) iU hf) ?_;rintro w H ⟨r,K3,S3,jg,o5,qN,C3,EC,rfl,rfl,ZB,EI,Dv⟩;exact fin r K3 S3 jg o5 qN C3 EC ZB EI (λh=>⟨rfl,by rw[(Dv h).1,sO],(Dv h).2⟩) _ rfl
   refine ae.nh (Br.dec (λhh=>?_) (λhh=>?_))
   ·obtain⟨x1,x2⟩:=gb2 zO;subst x1;subst x2;refine ai.mk (St.one (by exact .head _) rfl zI rfl ?_);refine ai.mk (St.one (by exact .head _) rfl zI rfl ?_);exact JE.mk adf
   obtain⟨x1,x2,x3⟩:=gb1 zO;rw[x2,x3];exact JE.mk adf
  refine ae.nh (Br.dec (λhh=>?_) (λhh=>?_))
  ·obtain⟨x1,x2⟩:=ga2 zO;subst x1;subst x2;refine ai.mk (St.one (by exact .tail (.head _)) rfl zI rfl ?_);refine ai.mk (St.one (by exact .tail (.head _)) rfl zI rfl ?_);exact JE.mk adg
  obtain⟨x1,x2,x3⟩:=ga1 zO;rw[x2,x3];exact JE.mk adg
 refine ae.fk (Br.dec (λhh=>?_) (λhh=>?_))
 ·obtain⟨x1,x2,x3⟩:=gb1 zO;refine Ld.f ?_;subst x1;exact JE.mk adh
 obtain⟨x1,x2,x3⟩:=ga1 zO;subst x1;exact JE.mk adh
end
theorem Ro{N:eH}{S:Nat->aA.Fn}{n:Nat}{bW:Nat->Nat}{ord:zL}(h:WF n bW N)(hl:jX n bW)(hi:Interp N S)(ho:aA.Ord n bW ord){r:Nat}(hr:live N r){l:Nat}(BJ:l<=n)(hle:l<=dep n bW N r):∀j,j<l->¬cE (S r) (ord.getD j 0):=by
 rintro j hj ⟨x,hx⟩;apply hx;obtain⟨o1,o2⟩:=ho.bc j zO;rw[h.bN hl hi hr o1 zO x false,h.bN hl hi hr o1 zO x true]
section
variable {kp bq bm:Nat} {K0:Kd} {S0:Nat->aA.Fn} {U:aA.Fn->Prop} {ord ah:zL}
def WO(kp:Nat)(K0:Kd)(S0:Nat->aA.Fn)(U:aA.Fn->Prop)(ord ah:zL)(bq bm:Nat)(LB:Hp)(K:Kd)(S:Nat->aA.Fn)(made:zL)(f:aA.Fn)(w:zV)(H:Hp):Prop:=
 ∃x K' S' made' es' bB C' nu,w=u32 x/\H=LB++uy bq kp bm nu es' bB C'/\yj kp K0 S0 U ord ah K' S' made' es' bB C' nu/\EP K S made K' S' made'/\(nu=true->S' x=f/\(live K0.N x\/x∈made'))
theorem Vs{e:Bool}(j8:WF K0.n (lv ah) K0.N)(pw:Interp K0.N S0)(jI:jX K0.n (lv ah))(mS:aA.Ord K0.n (lv ah) ord)(hf:∀s,K0.hold s=65535->live K0.N s){a b:Nat}{K:Kd}{S:Nat->aA.Fn}{made:zL}{es:Array MapEntry}{ck:Nat}{C:Hp}
 (ha:live K0.N a)(hb:live K0.N b)(hS:yj kp K0 S0 U ord ah K S made es ck C true)(hU:∀g,aG K0.n ord (λg=>g=jf e S0 a b) g->U g):
  Fc zQ 330 #[ptr bq,u32 a,u32 b,.bool e] (uy bq kp bm true es ck C) (WO kp K0 S0 U ord ah bq bm [] K S made (jf e S0 a b)):=by
 refine aF λg=>HZ λb1 _ b3 _ b5 _=>?_;refine St.one (by exact .tail (.head _)) rfl zI rfl ?_;refine St.one (by exact .head _) rfl zI rfl ?_;have fP:aU zQ 380=true:=by kernel_rfl
 intro J hJ;have hJ':J [] ((b5,.cells #[u32 (!e).toNat] 110 zZ)::(b3,.cells #[u32 e.toNat] 110 zZ)::(b1,.cells #[ptr bq] 313 zZ)::uy bq kp bm true es ck C):=by
  refine hJ _ λgs=>?_;intro bj _ s9 _;refine St.one (by exact .head _) rfl zI rfl ?_;intro k6 _;refine St.one (by exact .head _) rfl zI rfl ?_;refine Ld.q ?_;refine aK.of rfl fP (aa.fq (args:=#[u32 a,u32 b,ptr b3,ptr b5,ptr b1,ptr s9,ptr k6]) (Ra (e:=e) fP j8 pw jI mS hf _ a b rfl K S made es ck C true #[] 0 ha hb hS ⟨[],aE.empty,λ_ y hy=>by cases hy⟩ hU) ?_);rintro w H ⟨x,K',S',made',es',bB,C',nu,YK,YL,rfl,rfl,Ls,_,hA,ho⟩;exact aM.mk (.skip (.skip (.skip (.skip (.skip .tail))))) ⟨x,K',S',made',es',bB,C',nu,rfl,rfl,Ls,hA,λh=>(ho h).2⟩
 cases e with
 |true=>
  refine Br.yes (St.one (by exact .tail (.head _)) rfl zI rfl ?_);refine St.one (by exact .head _) rfl zI rfl ?_;exact JE.mk hJ'
 |false=>exact Br.no (JE.mk hJ')
def L5(kp:Nat)(K0:Kd)(S0:Nat->aA.Fn)(U:aA.Fn->Prop)(ord ah:zL)(bq bm:Nat)(t:Bool->Bool->Bool)(v:Nat)(fv:zV)(LB:Hp):Prop:=
 ∃f first cap,fv=.func (.func f) first cap/\aU zQ f=true/\∀(r:Nat) (d:Nd),K0.N r=some d->d.v=v->∀K S made es ck C,yj kp K0 S0 U ord ah K S made es ck C true->(∀g,aG K0.n ord (λg=>g=QF t v (S0 r)) g->U g)->
  Fc zQ f (first++ #[.agg (bu d).toArray]++cap) (LB++uy bq kp bm true es ck C) (WO kp K0 S0 U ord ah bq bm LB K S made (QF t v (S0 r)))
def SY(b1 ij mg b3 z6:Nat):zV:=.func (.func 325) #[] #[ptr b1,ptr ij,ptr mg,ptr b3,ptr z6]
def DKn(K0:Kd)(F:Nat->aA.Fn)(S:Nat->aA.Fn)(made:zL)(ok:Bool)(es:Array MapEntry)(ck:Nat):Prop:=
 ∃m:List (Nat×Nat),aE (kN .u32) Pc es ck m/\(ok=true->∀y∈m,S y.2=F y.1/\(live K0.N y.2\/y.2∈made))
theorem DKn.more{F:Nat->aA.Fn}{K K':Kd}{S S':Nat->aA.Fn}{made made':zL}{es xK:Array MapEntry}{ck xL:Nat}{C:Hp}{ok nu:Bool}(hq:yj kp K0 S0 U ord ah K S made es ck C ok)(h:DKn K0 F S made ok xK xL)(ha:EP K S made K' S' made')(hok:nu=true->ok=true):DKn K0 F S' made' nu xK xL:=by
 obtain⟨m,h1,h2⟩:=h;refine⟨m,h1,λh y hy=>?_⟩;obtain⟨a,b⟩:=h2 (hok h) y hy;exact⟨by rw[ha.fn _ (hq.vQ b),a],b.imp id (ha.mem _)⟩
abbrev dHp(b1 b3 ij mg z6 bd lvl:Nat)(fv:zV)(LB:Hp)(bq kp bm:Nat)(ok:Bool)(Pw:Array MapEntry)(Py:Nat)(es:Array MapEntry)(ck:Nat)(C:Hp):Hp:=
 (z6,.cells #[SY b1 ij mg b3 z6] 389 zZ)::(mg,.cells #[.map (some bd)] 388 zZ)::(bd,.map Pw Py)::(ij,.cells #[iv (lvl:Int)] 3 zZ)::(b3,.cells #[fv] 300 zZ)::(b1,.cells #[ptr bq] 313 zZ)::(LB++uy bq kp bm ok es ck C)
def ahF(kp:Nat)(K0:Kd)(S0:Nat->aA.Fn)(U:aA.Fn->Prop)(ord ah:zL)(t:Bool->Bool->Bool)(v b1 b3 ij mg z6 bd:Nat)(fv:zV)(LB:Hp)(bq bm:Nat)(K:Kd)(S:Nat->aA.Fn)(made:zL)(ok:Bool)(f:aA.Fn)(w:zV)(H:Hp):Prop:=
 ∃x K' S' made' es' bB C' nu ZR ZT,w=u32 x/\H=dHp b1 b3 ij mg z6 bd (lv ah v) fv LB bq kp bm nu ZR ZT es' bB C'/\yj kp K0 S0 U ord ah K' S' made' es' bB C' nu/\DKn K0 (λr=>QF t v (S0 r)) S' made' nu ZR ZT/\EP K S made K' S' made'/\
  (nu=true->ok=true/\S' x=f/\(live K0.N x\/x∈made'))
variable {b1 b3 ij mg z6 bd:Nat} {fv:zV} {LB:Hp} {t:Bool->Bool->Bool} {v:Nat}
set_option maxHeartbeats 2000000 in
theorem SI(fP:aU zQ 325=true)(hLq:L5 kp K0 S0 U ord ah bq bm t v fv LB)(ht:∀a,t a a=a)(hv:v<K0.n)(j8:WF K0.n (lv ah) K0.N)(pw:Interp K0.N S0)(jI:jX K0.n (lv ah))(mS:aA.Ord K0.n (lv ah) ord)(hf:∀s,K0.hold s=65535->live K0.N s):
  ∀(k r:Nat),K0.n-dep K0.n (lv ah) K0.N r=k->∀(K:Kd) (S:Nat->aA.Fn) (made:zL) (es:Array MapEntry) (ck:Nat) (C:Hp) (ok:Bool) (Pw:Array MapEntry) (Py:Nat),
  live K0.N r->yj kp K0 S0 U ord ah K S made es ck C ok->DKn K0 (λr=>QF t v (S0 r)) S made ok Pw Py->(∀g,aG K0.n ord (λg=>g=QF t v (S0 r)) g->U g)->
  Fc zQ 325 #[u32 r,ptr b1,ptr ij,ptr mg,ptr b3,ptr z6] (dHp b1 b3 ij mg z6 bd (lv ah v) fv LB bq kp bm ok Pw Py es ck C) (ahF kp K0 S0 U ord ah t v b1 b3 ij mg z6 bd fv LB bq bm K S made ok (QF t v (S0 r))):=by
 have hc0:∀r,r<2->K0.N r=none:=λr hr=>j8.const hr;intro k;induction k using Nat.strongRecOn with
 |ind k ih=>
 intro r hk K S made es ck C ok Pw Py hr hS hD hU g;have hK:=hS.ks;have Lq:∀r,r<2->K.N r=none:=λr hr=>hK.ok.wf.const hr;have eN:=hS.cX.n;have lr:=hS.cX.live hr;refine H9 (R:=aM _) ?_;unfold L325;refine Ld.q ?_;refine aa.eq (Fo (bm:=bm) (ok:=ok) (es:=es) (ck:=ck) hK lr) (Ext.two λb6 _=>(St.whole (r:=got K.N r) (by exact .head _) rfl (aQ _ _).1 (aQ _ _).2 ?_));rw[nY hS.cX.N hc0 Lq hr,eN,wC hS.cX.N Lq hc0 hr];refine Ld.q ?_;refine ae.nh (cm.or (!ok) (λ_=>?_) zI λgs=>?_)
 ·refine Ld.q ?_;refine Ld.n ?_;exact ae.cD ⟨rfl,by cases ok<;>rfl⟩
 refine Br.mk (λhb=>?_) (λhb=>?_)
 ·-- deeper, or an error before
  refine aM.mk .tail ⟨r,K,S,made,es,ck,C,ok,Pw,Py,rfl,rfl,hS,hD,.refl,λh=>⟨h,?_,.inl hr⟩⟩;rw[h]at hb;simp only[xco,xdu,xar]at hb;rw[hS.cX.fn r hr];refine(WQ ht ?_).symm;rintro⟨x,hx⟩;apply hx;rw[j8.bN jI pw hr hv hb x false,j8.bN jI pw hr hv hb x true]
 simp only[xax,xa4,Bool.not_eq_false',Nat.not_lt]at hb;obtain⟨A8,rfl⟩:=hb;obtain⟨m,hE,hkn⟩:=hD;refine Ld.q ?_;have x6:(bd,Obj.map Pw Py)∈(b6,Obj.cells (got K0.N r).toArray 226 zZ)::dHp b1 b3 ij mg z6 bd (lv ah v) fv LB bq kp bm true Pw Py es ck C:=.tail _ (.tail _ (.tail _ (.head _)));have hlv:=jI.lt v hv;obtain⟨d,hd⟩:∃d,K0.N r=some d:=by
  cases e:K0.N r with
  |none=>rw[aT e]at A8;omega
  |some d=>exact⟨d,rfl⟩
 have ed:=aq (n:=K0.n) (ah:=lv ah) hd;have h2:=j8.two hd;have kZ:=j8.var hd;cases hg:aJ m r with
 |some x=>
  refine aE.hit (k:=r) jr hE x6 hg ?_;rintro w rfl;obtain⟨g1,g2⟩:=hkn rfl _ ((dW hE.nd).1 hg);exact Ext.mk rfl (Ext.mk rfl (Br.yes (aM.mk .tail ⟨x,K,S,made,es,ck,C,true,Pw,Py,rfl,rfl,hS,⟨m,hE,hkn⟩,.refl,λh=>⟨h,g1,g2⟩⟩)))
 |none=>
 refine aE.bM (k:=r) jr hE x6 hg ?_;refine Ext.mk rfl (Ext.mk rfl (Br.no ?_));rw[dY hd h2];intro J hJ;have fin:∀(x3:Nat) K3 S3 jg o5 qN C3 EC ZQ ZS,yj kp K0 S0 U ord ah K3 S3 jg o5 qN C3 EC->DKn K0 (λr=>QF t v (S0 r)) S3 jg EC ZQ ZS->EP K S made K3 S3 jg->(EC=true->S3 x3=QF t v (S0 r)/\(live K0.N x3\/x3∈jg))->
   J [u32 x3] ((b6,.cells (bu d).toArray 226 zZ)::dHp b1 b3 ij mg z6 bd (lv ah v) fv LB bq kp bm EC ZQ ZS o5 qN C3):=by
  intro x3 K3 S3 jg o5 qN C3 EC ZQ ZS ZB hD3 EI Dv;refine hJ _ _ λgs=>?_;refine Ld.q ?_;obtain⟨m3,Pr,Zg⟩:=hD3;refine aE.br (k:=r) (x:=x3) jr Lk Pr rfl λes' bB he=>⟨_,.tail (.tail (.tail (.head _))),?_⟩;refine aM.mk .tail ⟨x3,K3,S3,jg,o5,qN,C3,EC,es',bB,rfl,rfl,ZB,⟨_,he,λh y hy=>(nO hy).elim (λe1=>?_) (λhy=>Zg h y hy)⟩,EI,λh=>⟨rfl,Dv h⟩⟩;rw[e1];exact Dv h
 have hD0:DKn K0 (λr=>QF t v (S0 r)) S made true Pw Py:=⟨m,hE,hkn⟩;refine Ld.q ?_;refine ae.dQ (Br.dec (λhl=>?_) (λhl=>?_))
 ·-- at the variable
  have ev:d.v=v:=jI.inj _ _ kZ hv zO;obtain⟨f,first,cap,rfl,VV,acd⟩:=hLq;refine Ld.q ?_;refine ax.q ?_;refine aK.of rfl VV (aa.fq (C:=LB++uy bq kp bm true es ck C) (acd r d hd ev K S made es ck C hS hU) ?_);rintro w H ⟨x,K',S',made',es',bB,C',nu,rfl,rfl,Ls,hA,ho⟩;exact JE.mk (fin x K' S' made' es' bB C' nu Pw Py Ls (hD0.more hS hA (λ_=>rfl)) hA ho)
 -- above it
 have afU:lv ah d.v<lv ah v:=by omega
 have hne:d.v≠v:=λe=>by rw[e]at afU;omega
 obtain⟨g1,g2,g3⟩:=gk (S:=S0) j8 jI pw hr kZ zO false;obtain⟨t1,t2,t3⟩:=gk (S:=S0) j8 jI pw hr kZ zO true;obtain⟨q1,q2⟩:=kJ (N:=K0.N) hd;rw[q1]at g1 g2 g3;rw[q2]at t1 t2 t3;have gR:=jI.lt d.v kZ;have Nx:=mS.of jI kZ;have sP:∀j,j<lv ah d.v->¬cE (QF t v (S0 r)) (ord.getD j 0):=λj hj=>TE (Ro j8 jI pw mS hr (xb9 gR) zO j hj);have eF:QF t v (S0 d.lo)=λx=>QF t v (S0 r) (an.aB x d.v false):=by rw[<-TG hne];congr 1;exact funext g1
 have eT:QF t v (S0 d.hi)=λx=>QF t v (S0 r) (an.aB x d.v true):=by rw[<-TG hne];congr 1;exact funext t1
 obtain⟨i1,P1⟩:=jG (n:=K0.n) (ord:=ord) (c:=QF t v (S0 d.lo)) sP (b:=false) (by rw[Nx];exact eF);obtain⟨i2,PZ⟩:=jG (n:=K0.n) (ord:=ord) (c:=QF t v (S0 d.hi)) sP (b:=true) (by rw[Nx];exact eT);refine Ld.q ?_;refine Ld.f ?_;refine aK.of rfl fP (aa.fq (args:=#[u32 d.lo,ptr b1,ptr ij,ptr mg,ptr b3,ptr z6]) (ih _ zO d.lo rfl K S made es ck C true Pw Py g2 hS hD0 (λg hg=>hU g (P1 g hg))) ?_);rintro w H ⟨x1,K1,S1,yU,kf,jJ,C1,ok1,ahl,ahn,rfl,rfl,EG,hD1,We,x5⟩;refine DR.of (R:=[(b6,.cells (bu d).toArray 226 zZ),(z6,.cells #[SY b1 ij mg b3 z6] 389 zZ),(b1,.cells #[ptr bq] 313 zZ)]) (.cons (.cons (.skip (.skip (.skip (.skip (aL.left (A:=[_])))))))) (Ld.q ?_);refine Ld.f ?_;refine Ld.q ?_;refine Ld.f ?_;refine aK.of rfl fP (aa.fq (args:=#[u32 d.hi,ptr b1,ptr ij,ptr mg,ptr b3,ptr z6]) (ih _ zO d.hi rfl K1 S1 yU kf jJ C1 ok1 ahl ahn t2 EG hD1 (λg hg=>hU g (PZ g hg))) ?_);rintro w H ⟨x2,K2,S2,fU,gV,iE,C2,ok2,adu,adx,rfl,rfl,jx,hD2,nX,r9⟩;refine⟨.cons (.cons (.skip (.skip (.skip (.skip (aL.left (A:=[_]))))))),?_⟩;have ya:=We.trans nX;cases ok2 with
 |false=>
  refine aa.eq (args:=#[ptr bq,iv (d.v:Int),u32 x1,u32 x2]) (yJ (kp:=kp) (bm:=bm) _ _ _ _) (⟨.cons (.cons (.skip (.skip (.skip (.skip (aL.left (A:=[_]))))))),?_⟩);exact JE.mk (fin 0 K2 S2 fU gV iE C2 false adu adx jx hD2 ya (λh=>by cases h))
 |true=>
  obtain⟨Yv,e2,m2⟩:=r9 rfl;obtain⟨_,e1,m1⟩:=x5 Yv;have YG:=EG.vQ m1;have l1:live K2.N x1:=cu nX.N YG;have l2:=jx.vQ m2;have Wv:S2 x1=QF t v (S0 d.lo):=(nX.fn x1 YG).trans e1;have dk:=jx.ks;have n2:=jx.cX.n;have b1':=dk.ok.below dk.od (l:=lv ah d.v+1) l1 zO (by rw[Wv];exact i1);have b2':=dk.ok.below dk.od (l:=lv ah d.v+1) l2 zO (by rw[e2];exact i2);have sO:ite S2 ⟨d.v,x1,x2⟩=QF t v (S0 r):=by
   funext x
   unfold aA.ite;rw[Wv,e2,eF,eT]
   conv=>rhs;rw[<-an.ir x d.v]
   simp only;cases x.testBit d.v<;>rfl
  have iU:x1≠x2->U (ite S2 ⟨d.v,x1,x2⟩):=λhx=>by
   have zf:cE (QF t v (S0 r)) (ord.getD (lv ah d.v) 0):=by
    rw[Nx];refine xaK λhno=>hx ?_;refine dk.ok.wf.same dk.ok.lv dk.ok.mid.int l1 l2 λx=>?_;rw[Wv,e2,eF,eT];exact(cM hno x false).trans (cM hno x true).symm
   rw[sO];exact hU _ (oC sP gR zf)
  refine aa.fq (args:=#[ptr bq,iv (d.v:Int),u32 x1,u32 x2]) (Cw jx (by rw[n2];exact kZ) l1 l2 ⟨by omega,by omega⟩ (by rw[sO];exact hU) iU hf) ?_;rintro w H ⟨r3,K3,S3,jg,o5,qN,C3,EC,rfl,rfl,ZB,EI,Dv⟩;refine⟨.cons (.cons (.skip (.skip (.skip (.skip (aL.left (A:=[_]))))))),?_⟩;exact JE.mk (fin r3 K3 S3 jg o5 qN C3 EC adu adx ZB (hD2.more jx EI (λ_=>rfl)) (ya.trans EI) (λh=>⟨by rw[(Dv h).1,sO],(Dv h).2⟩))
end
def YB(es:Array MapEntry)(l:zL):List zV->Hp->Nat:=λ_ H=>match H with
 |(_,.mapIter _ _ seen _)::_=>(bS es (BG l) seen).length
 |_=>0
structure Let(K K':Kd)(l:zL):Prop where
 n:K'.n=K.n
 cap:K'.cap=K.cap
 N:∀s d,K'.N s=some d->K.N s=some d
 hold:∀s,K'.hold s+l.count s=K.hold s
section
variable {kp bq bm:Nat} {K0:Kd} {S0:Nat->aA.Fn} {U:aA.Fn->Prop} {ord ah:zL}
theorem AM{g:Gh}{K:Kd}{S:Nat->aA.Fn}{l:zL}{es:Array MapEntry}{ck b9 b1:Nat}{ok:Bool}{C LB:Hp}(hK:cf kp K S ord ah [] C)(hE:aE (kN .u32) vr1 es ck (BG l))(hc:∀s,l.count s<=K.hold s)(h2:∀s∈l,2<=s)(Ps:∀s∈l,s<4294967296){Kc:Hp->Prop}
 (hk:∀K' C' bi it,cf kp K' S ord ah [] C'->Let K K' l->Kc ((bi,it)::(b9,.cells #[ptr bq] 313 zZ)::(b1,.cells #[ptr kp] 85 zZ)::(LB++uy bq kp bm ok es ck C'))):
  jZ zQ g 324 #[ptr b9,ptr b1] ((b9,.cells #[ptr bq] 313 zZ)::(b1,.cells #[ptr kp] 85 zZ)::(LB++uy bq kp bm ok es ck C)) Kc:=by
 refine Es (R:=_) ?_;unfold L324;refine Ld.q ?_;refine Ld.n ?_;refine .inr ⟨bm,es,ck,rfl,.tail _ (.tail _ (xab _ (.tail _ (.head _)))),λbi _=>?_⟩;refine⟨λ_ H=>∃(done:zL) (K':Kd) (C':Hp) (seen:Array Nat),H=(bi,.mapIter (some bm) ck seen ck)::(b9,.cells #[ptr bq] 313 zZ)::(b1,.cells #[ptr kp] 85 zZ)::(LB++uy bq kp bm ok es ck C')/\
   cf kp K' S ord ah [] C'/\Let K K' done/\(done++(bS es (BG l) seen).map Prod.fst).Perm l,YB es l,JE.mk ⟨[],K,C,#[],rfl,hK,⟨rfl,rfl,λ_ _ h=>h,λs=>by simp⟩,by rw[mz hE,q9];exact .refl _⟩,?_⟩
 rintro H ⟨done,K',C',seen,rfl,dh,hl,hp⟩ gs;refine aE.next (bi:=bi) (bm:=bm) (seen:=seen) hE (.tail _ (.tail _ (.tail _ (xab _ (.tail _ (.head _)))))) (.head _) (λe x seen' he hkey hv RD hbk hfi=>⟨_,.head _,?_⟩) (λhu=>?_)
 ·refine Ext.mk rfl (Br.yes (⟨bi,bm,ck,seen',e.born,ck,es,e,rfl,.head _,hbk,.tail _ (.tail _ (.tail _ (xab _ (.tail _ (.head _))))),hfi,?_⟩));refine Ext.mk rfl (Ld.q ?_);have hxl:x.1∈l:=by
   refine hp.mem_iff.1 (xab _ ?_);exact xaT (RD.mem_iff.2 (.head _))
  have BM:done.count x.1+1<=l.count x.1:=by
   rw[<-hp.count_eq,xbi,(RD.map Prod.fst).count_eq,xaB,List.count_cons_self];omega
  have hhx:K'.hold x.1≠0:=by
   have a:=hl.hold x.1;have b:=hc x.1;omega
  show aa zQ g 142 #[ptr kp,e.key] _ _ _;rw[hkey];refine aa.fq (args:=#[ptr kp,u32 x.1]) (mV dh (r:=x.1) (Ps _ hxl) (λ_=>hhx)) ?_;rintro w C2 ⟨rfl,K2,dk,f2⟩;refine aC.mk ⟨done++[x.1],K2,C2,seen',rfl,dk,⟨f2.n.trans hl.n,f2.cap.trans hl.cap,λs d hd=>hl.N s d (f2.N s d hd),λs=>?_⟩,?_⟩ ?_
  ·have a:=hl.hold s;rw[f2.hold,xbi,xcG];by_cases e1:s=x.1
   ·subst e1;have:=h2 _ hxl;simp[this];omega
   have:(x.1==s)=false:=by simpa using λe'=>e1 e'.symm
   simp[e1,this];exact a
  ·refine .trans ?_ hp;rw[xaj];refine xbZ _ ?_;exact(RD.map Prod.fst).symm
  show(bS es (BG l) seen').length<(bS es (BG l) seen).length;rw[RD.length_eq,xaH];omega
 refine Ext.mk rfl (Br.no ?_);rw[hu,xck,xaL]at hp;refine⟨⟨_,rfl⟩,hk K' C' bi _ dh ⟨hl.n,hl.cap,hl.N,λs=>?_⟩⟩;rw[<-hp.count_eq];exact hl.hold s
end
section
variable {kp:Nat} {K:Kd} {S:Nat->aA.Fn} {ord ah tr:zL} {C:Hp}
theorem abf{α:Type}(a x y b:α)(L R:List α):(a::x::y::b::(L++R)).Perm (a::b::(L++x::y::R)):=by
 classical
 rw[xct];intro z;simp only[xbi,xb7];omega
theorem M7{made:zL}{x:Nat}:jb (BG made) x=BG (made.filter λr=>decide (¬r=x)):=by
 unfold jb BG;induction made with
 |nil=>rfl
 |cons a l ih=>
  simp only[xaB,xbb];by_cases h:a=x
  ·simp[h]at ih⊢;exact ih
  simp[h]at ih⊢;exact ih
def om(kp:Nat)(K:Kd)(S:Nat->aA.Fn)(ord ah:zL)(LB:Hp)(f:aA.Fn)(w:zV)(H:Hp):Prop:=
 (∃x K' S' C',w=.tuple #[u32 x,.bool true,iv 0]/\H=LB++C'/\cf kp K' S' ord ah [] C'/\kO K S K' S' f x)\/
 (w=.tuple #[u32 0,.bool false,iv 9]/\(∃K' S' C',H=LB++C'/\cf kp K' S' ord ah [] C'/\Kept K S K' S')/\¬Fits (aG K.n ord (λg=>K.held S g\/g=f)) K.cap)
def kM(kp:Nat)(K:Kd)(S:Nat->aA.Fn)(ord ah:zL)(LB:Hp)(f:aA.Fn)(w:zV)(H:Hp):Prop:=
 om kp K S ord ah LB f w H\/∃x,w=.tuple #[u32 x,.bool false,iv 0]/\(∃K' S' C',H=LB++C'/\cf kp K' S' ord ah [] C'/\Kept K S K' S')/\2<=x/\K.hold x=65535/\S x=f
theorem KV(hK:cf kp K S ord ah tr C){f:aA.Fn}{LB:Hp}{fb:zV}
 (hb:∀K1 C1,cf kp K1 S ord ah [] C1->WR K K1 1->∃ff first cap,fb=.func (.func ff) first cap/\aU zQ ff=true/\∀bq bm,yj kp K1 S (aG K.n ord (λg=>K.held S g\/g=f)) ord ah K1 S [] #[] 0 C1 true->
   Fc zQ ff (first++ #[ptr bq]++cap) (LB++uy bq kp bm true #[] 0 C1) (WO kp K1 S (aG K.n ord (λg=>K.held S g\/g=f)) ord ah bq bm LB K1 S [] f)):
  Fc zQ 256 #[ptr kp,fb] (LB++C) (kM kp K S ord ah LB f):=by
 refine aF λg=>I2 λb1 _=>?_;refine Ld.q ?_;intro bm _;refine Build.mk (cs:=[ptr kp,.map (some bm),iv 0]) zK λbq _ b9 _=>?_;refine St.one (by exact .head _) rfl zI rfl ?_;refine Ld.q ?_;refine aa.fq (args:=#[ptr kp,u32 1]) (mP hK (r:=1) (.inl zO) (λh=>by omega)) ?_;rintro w C1 ⟨rfl,K1,fc,mo⟩;have fo:∀s,K1.hold s=K.hold s:=λs=>by rw[mo.hold,xac zO]
 have acv:∀g,K1.held S g->K.held S g:=by
  rintro g ⟨s,hs,rfl⟩;exact⟨s,by have:K1.hold s≠0:=hs;rwa [fo]at this,rfl⟩
 obtain⟨ff,first,cap,rfl,VV,hbody⟩:=hb K1 C1 fc mo;refine Ld.q ?_;refine aK.of rfl VV (aa.pre (H':=(b9,.cells #[ptr bq] 313 zZ)::(b1,.cells #[ptr kp] 85 zZ)::(LB++uy bq kp bm true #[] 0 C1)) (.perm (abf _ _ _ _ _ _)) ?_);have Sj:yj kp K1 S (aG K.n ord (λg=>K.held S g\/g=f)) ord ah K1 S [] #[] 0 C1 true:=⟨fc,.refl λg hg=>by rw[mo.n]at hg;exact cI (λg h=>.inl (acv g h)) hg,aE.empty,λh=>by cases h⟩;refine aa.fq (C:=LB++uy bq kp bm true #[] 0 C1) (hbody bq bm Sj) ?_;rintro w H ⟨x,K2,S2,made,es,ck,C2,ok,rfl,rfl,jx,hA,ho⟩;have dk:=jx.ks;have j4:=jx.cX;have fO:=jx.nd;have Ge:∀s,made.count s<=K2.hold s:=λs=>by rw[j4.hold];omega
 have Ps:∀s∈made,s<4294967296:=λs hs=>by have:=dk.bK (j4.iA dk hs);omega
 have rG:∀s,K.hold s≠0->live K.N s:=λs hs=>.inr (hK.ok.mid.held s hs);have agR:∀s d,K.N s=some d->K2.N s=some d:=λs d hd=>j4.N s d (by rw[mo.N];exact hd);have hfn:∀s,live K.N s->S2 s=S s:=λs hs=>j4.fn s (by rw[mo.N];exact hs);refine Ld.q ?_;refine Ld.n ?_;cases ok with
 |false=>
  refine ae.cD (Br.T (Ld.q ?_));refine Ld.n ?_;refine AM dk jx.dL Ge j4.two Ps λK3 C3 bi it j9 hl=>?_;have gF:∀s,K3.hold s=K.hold s:=λs=>by
   have a:=hl.hold s;have b:=j4.hold s;rw[fo]at b;omega
  refine aM.mk (.skip (.skip (.skip (.cU (.skip .tail) _)))) (.inl (.inr ⟨rfl,⟨K3,S2,C3,rfl,j9,⟨by rw[hl.n,j4.n,mo.n],by rw[hl.cap,j4.cap,mo.cap],gF,λg=>?_,λr hr=>hfn r (rG r hr)⟩⟩,?_⟩))
  ·constructor
   ·rintro⟨s,hs,rfl⟩;have hs':K.hold s≠0:=by rw[<-gF];exact hs
    exact⟨s,hs',hfn s (rG s hs')⟩
   rintro⟨s,hs,rfl⟩;exact⟨s,by show K3.hold s≠0;rw[gF];exact hs,(hfn s (rG s hs)).symm⟩
  have:=jx.bad rfl;rw[mo.cap]at this;exact this
 |true=>
  obtain⟨hx,hxm⟩:=ho rfl;refine ae.cD (Br.F (Ld.q ?_));refine Ld.n ?_;have fin:∀(K3:Kd) (l:zL) (o5:Array MapEntry) (C3:Hp),cf kp K3 S2 ord ah [] C3->(∀s d,K3.N s=some d->K2.N s=some d)->K3.n=K2.n->K3.cap=K2.cap->aE (kN .u32) vr1 o5 ck (BG l)->(∀s∈l,s∈made)->(∀s,K3.hold s=K.hold s+l.count s+if s=x/\2<=x then 1 else 0)->
    jZ zQ g 324 #[ptr b9,ptr b1] ((b9,.cells #[ptr bq] 313 zZ)::(b1,.cells #[ptr kp] 85 zZ)::(LB++uy bq kp bm true o5 ck C3)) λH=>aM (kM kp K S ord ah LB f) (.returned (.tuple #[u32 x,.bool true,iv 0])) H:=by
   intro K3 l o5 C3 j9 hN3 hn3 Zu Pr hlm BL;refine AM j9 Pr (λs=>by rw[BL];omega) (λs hs=>j4.two s (hlm s hs)) (λs hs=>Ps s (hlm s hs)) λK4 C4 bi it NJ hl=>?_;have nf:∀s,K4.hold s=K.hold s+if s=x/\2<=x then 1 else 0:=λs=>by
    have a:=hl.hold s;rw[BL]at a;omega
   have wc:live K4.N x:=by
    by_cases h2:x<2
    ·exact .inl h2
    refine .inr (NJ.ok.mid.held x ?_);rw[nf,xad ⟨rfl,by omega⟩];omega
   refine aM.mk (.skip (.skip (.skip (.cU (.skip .tail) _)))) (.inl (.inl ⟨x,K4,S2,C4,rfl,rfl,NJ,⟨by rw[hl.n,hn3,j4.n,mo.n],by rw[hl.cap,Zu,j4.cap,mo.cap],λs d hs=>jR hK.ok NJ.ok (λs h=>by rw[nf];omega) (λs d d' h h'=>?_) _ s d hs (xag _),hfn,wc,hx,nf⟩⟩));have a:=hN3 s d' (hl.N s d' h');rw[agR s d h]at a;exact(xbp a).symm
  by_cases hm:x∈made
  ·refine aE.hit (k:=x) (x:=()) jr jx.dL (.tail _ (.tail _ (xab _ (.tail _ (.head _))))) (oT.1 hm) ?_;rintro v rfl;refine ae.gtr (Br.T (Ld.q ?_));refine Ld.n ?_;refine aE.del (k:=x) jr jx.dL (.tail _ (.tail _ (xab _ (.tail _ (.head _))))) λes' he=>⟨_,.tail (.tail ((c8.tail (.head _)).cc LB)),?_⟩;rw[M7]at he;refine fin K2 _ es' C2 dk (λ_ _ h=>h) rfl rfl he (λs hs=>(xbV.1 hs).1) λs=>?_;rw[j4.hold,fo];have Pt:=j4.two x hm;by_cases e1:s=x
   ·subst e1;have c1:made.count s=1:=by rw[fO.count,xad hm]
    have c2:(made.filter λr=>decide (¬r=s)).count s=0:=xdH.2 zI;rw[c1,c2,xad ⟨rfl,Pt⟩]
   have:(made.filter λr=>decide (¬r=x)).count s=made.count s:=List.count_filter (by simpa using e1);rw[this,xac (λh=>e1 h.1)];rfl
  refine aE.bM (k:=x) jr jx.dL (.tail _ (.tail _ (xab _ (.tail _ (.head _))))) (oT.2 hm) ?_;refine ae.gtr (Br.F (Ld.q ?_));have wc:live K2.N x:=jx.vQ hxm;by_cases BM:2<=x/\K2.hold x=65535
  ·have hKx:K.hold x=65535:=by
    have:=j4.hold x;rw[fo,xdH.2 hm]at this;omega
   refine aa.eq (args:=#[ptr kp,u32 x]) (oU dk wc BM.1 BM.2) (ae.gI ?_);rw[show decide ((8:Int)=0)=false from rfl];refine AM dk jx.dL Ge j4.two Ps λK3 C3 bi it j9 hl=>?_;have gF:∀s,K3.hold s=K.hold s:=λs=>by
    have a:=hl.hold s;have b:=j4.hold s;rw[fo]at b;omega
   refine aM.mk (.skip (.skip (.skip (.cU (.skip .tail) _)))) (.inr ⟨x,rfl,⟨K3,S2,C3,rfl,j9,⟨by rw[hl.n,j4.n,mo.n],by rw[hl.cap,j4.cap,mo.cap],gF,λg=>?_,λr hr=>hfn r (rG r hr)⟩⟩,BM.1,hKx,by rw[<-hx];exact(hfn x (rG x zO)).symm⟩);constructor
   ·rintro⟨s,hs,rfl⟩;have hs':K.hold s≠0:=by rw[<-gF];exact hs
    exact⟨s,hs',hfn s (rG s hs')⟩
   rintro⟨s,hs,rfl⟩;exact⟨s,by show K3.hold s≠0;rw[gF];exact hs,(hfn s (rG s hs)).symm⟩
  refine aa.fq (args:=#[ptr kp,u32 x]) (mP dk (r:=x) wc (λh2=>by have:=dk.gi x;omega)) ?_;rintro w C3 ⟨rfl,K3,j9,m3⟩;refine ae.gI ?_;rw[show decide ((0:Int)=0)=true from rfl];refine fin K3 made es C3 j9 (λs d h=>by rw[<-m3.N];exact h) m3.n m3.cap jx.dL (λ_ h=>h) λs=>?_;rw[m3.hold,j4.hold,fo];split<;>omega
end
section
variable {kp bq bm:Nat} {K0:Kd} {S0:Nat->aA.Fn} {U:aA.Fn->Prop} {ord ah:zL}
theorem LH{t:Bool->Bool->Bool}{v r:Nat}{fv:zV}{LB:Hp}(hLq:L5 kp K0 S0 U ord ah bq bm t v fv LB)(ht:∀a,t a a=a)(hv:v<K0.n)(j8:WF K0.n (lv ah) K0.N)(pw:Interp K0.N S0)(jI:jX K0.n (lv ah))(mS:aA.Ord K0.n (lv ah) ord)(hf:∀s,K0.hold s=65535->live K0.N s)
 {K:Kd}{S:Nat->aA.Fn}{made:zL}{es:Array MapEntry}{ck:Nat}{C:Hp}(hr:live K0.N r)(hS:yj kp K0 S0 U ord ah K S made es ck C true)(hU:∀g,aG K0.n ord (λg=>g=QF t v (S0 r)) g->U g):
  Fc zQ 258 #[ptr bq,u32 r,iv (v:Int),fv] (LB++uy bq kp bm true es ck C) (WO kp K0 S0 U ord ah bq bm LB K S made (QF t v (S0 r))):=by
 have fP:aU zQ 325=true:=by kernel_rfl
 have agS:=hLq;obtain⟨f0,ahc,aml,RT,_⟩:=agS;have hn:=hS.cX.n;refine aF λg=>I0 λb1 _ b3 _=>?_;refine Ld.q ?_;refine Ld.n ?_;refine aa.rq (lR hS.ks.rep (v:Int)) ?_;rw[xad zO];rintro w rfl;refine Ext.two λij _=>(St.one (by exact .head _) rfl zI rfl ?_);intro bd _ mg _;refine St.one (by exact .head _) rfl zI rfl ?_;intro z6 _;refine St.one (by exact .head _) rfl zI rfl ?_;refine Ld.q ?_;refine aK.of rfl fP ?_;subst RT;refine aa.fq (args:=#[u32 r,ptr b1,ptr ij,ptr mg,ptr b3,ptr z6]) (SI (b1:=b1) (b3:=b3) (ij:=ij) (mg:=mg) (z6:=z6) (bd:=bd) fP hLq ht hv j8 pw jI mS hf _ r rfl K S made es ck C true #[] 0 hr hS ⟨[],aE.empty,λ_ y hy=>by cases hy⟩ hU) ?_;rintro w H ⟨x,K',S',made',es',bB,C',nu,ZR,ZT,rfl,rfl,Ls,_,hA,ho⟩;exact aM.mk (.skip (.skip (.skip (.skip (.skip .tail))))) ⟨x,K',S',made',es',bB,C',nu,rfl,rfl,Ls,hA,λh=>(ho h).2⟩
abbrev Th(b5:Nat)(b:Bool):Nat×Obj:=(b5,.cells #[.bool b] 4 zZ)
theorem Fh{v b5:Nat}{b:Bool}{LB:Hp}(j8:WF K0.n (lv ah) K0.N)(pw:Interp K0.N S0)(jI:jX K0.n (lv ah))(hm:Th b5 b∈LB):L5 kp K0 S0 U ord ah bq bm (λx y=>if b then y else x) v (.func (.func 259) #[] #[ptr b5]) LB:=by
 refine⟨_,_,_,rfl,by kernel_rfl,λr d hd kZ K S made es ck C hS hU=>?_⟩;have hr:live K0.N r:=.inr ⟨d,hd⟩;have RY:=j8.var hd;obtain⟨g1,g2,g3⟩:=gk (S:=S0) j8 jI pw hr RY (by rw[aq hd];exact xag _) false;obtain⟨t1,t2,t3⟩:=gk (S:=S0) j8 jI pw hr RY (by rw[aq hd];exact xag _) true;obtain⟨q1,q2⟩:=kJ (N:=K0.N) hd;rw[q1]at g1 g2 g3;rw[q2]at t1 t2 t3;subst kZ;refine aF λg=>IZ λb1 _=>?_;refine Ld.mk (v:=.bool b) (by exact .tail _ (xae _ hm)) rfl ?_;refine Br.mk (λhb=>?_) (λhb=>?_)
 ·subst hb;refine Ld.f ?_;refine aM.mk .tail ⟨d.hi,K,S,made,es,ck,C,true,rfl,rfl,hS,.refl,λ_=>⟨?_,.inl t2⟩⟩;rw[hS.cX.fn _ t2];exact funext t1
 subst hb;refine Ld.f ?_;refine aM.mk .tail ⟨d.lo,K,S,made,es,ck,C,true,rfl,rfl,hS,.refl,λ_=>⟨?_,.inl g2⟩⟩;rw[hS.cX.fn _ g2];exact funext g1
theorem D9{v b1 b5:Nat}{e:Bool}{LB:Hp}(j8:WF K0.n (lv ah) K0.N)(pw:Interp K0.N S0)(jI:jX K0.n (lv ah))(mS:aA.Ord K0.n (lv ah) ord)(hf:∀s,K0.hold s=65535->live K0.N s)(hm:Th b5 e∈LB)(h1:(b1,Obj.cells #[ptr bq] 313 zZ)∈LB):
  L5 kp K0 S0 U ord ah bq bm (λx y=>if e then x||y else x&&y) v (.func (.func 329) #[] #[ptr b1,ptr b5]) LB:=by
 refine⟨_,_,_,rfl,by kernel_rfl,λr d hd kZ K S made es ck C hS hU=>?_⟩;have hr:live K0.N r:=.inr ⟨d,hd⟩;have RY:=j8.var hd;obtain⟨g1,g2,g3⟩:=gk (S:=S0) j8 jI pw hr RY (by rw[aq hd];exact xag _) false;obtain⟨t1,t2,t3⟩:=gk (S:=S0) j8 jI pw hr RY (by rw[aq hd];exact xag _) true;obtain⟨q1,q2⟩:=kJ (N:=K0.N) hd;rw[q1]at g1 g2 g3;rw[q2]at t1 t2 t3;subst kZ;have eq:QF (λx y=>if e then x||y else x&&y) d.v (S0 r)=jf e S0 d.lo d.hi:=by
  funext x
  rw[sJ,g1,t1];rfl
 rw[eq]at hU⊢;refine aF λg=>H6 λb _=>?_;refine Ld.mk (v:=ptr bq) (by exact .tail _ (xae _ h1)) rfl ?_;refine Ld.f ?_;refine Ld.f ?_;refine Ld.mk (v:=.bool e) (by exact .tail _ (xae _ hm)) rfl ?_;refine aa.fq (args:=#[ptr bq,u32 d.lo,u32 d.hi,.bool e]) (C:=uy bq kp bm true es ck C) (Vs j8 pw jI mS hf g2 t2 hS hU) ?_;rintro w H ⟨x,K',S',made',es',bB,C',nu,rfl,rfl,Ls,hA,ho⟩;exact aM.mk .tail ⟨x,K',S',made',es',bB,C',nu,rfl,rfl,Ls,hA,ho⟩
end
section
variable {kp:Nat} {K:Kd} {S:Nat->aA.Fn} {ord ah tr:zL} {C:Hp}
abbrev rHp(b5 b3 b1:Nat)(b:Bool)(v r:Nat):Hp:=[Th b5 b,(b3,.cells #[iv (v:Int)] 3 zZ),(b1,.cells #[u32 r] 110 zZ)]
theorem om.three{LB:Hp}{f:aA.Fn}{w:zV}{H:Hp}(h:om kp K S ord ah LB f w H):∃x b e,w=.tuple #[x,b,e]:=by
 rcases h with⟨x,K',S',C',rfl,_⟩|⟨rfl,_⟩
 ·exact⟨_,_,_,rfl⟩
 exact⟨_,_,_,rfl⟩
theorem om.drop{LB:Hp}{f:aA.Fn}{w:zV}{H:Hp}(h:om kp K S ord ah LB f w H):∃C',aL H C'/\om kp K S ord ah [] f w C':=by
 rcases h with⟨x,K',S',C',rfl,rfl,dh,hg⟩|⟨rfl,⟨K',S',C',rfl,dh,hk⟩,hn⟩
 ·exact⟨C',.right,.inl ⟨x,K',S',C',rfl,rfl,dh,hg⟩⟩
 exact⟨C',.right,.inr ⟨rfl,⟨K',S',C',rfl,dh,hk⟩,hn⟩⟩
theorem kM.PU{LB:Hp}{f:aA.Fn}{w:zV}{H:Hp}(h:kM kp K S ord ah LB f w H):∃x y z,w=.tuple #[x,y,z]:=by
 rcases h with h|⟨x,rfl,_⟩
 ·exact h.three
 exact⟨_,_,_,rfl⟩
theorem aM.XR{LB:Hp}{f:aA.Fn}{w:zV}{H:Hp}(h:kM kp K S ord ah LB f w H):aM (kM kp K S ord ah [] f) (.returned w) H:=by
 rcases h with h|⟨x,rfl,⟨K',S',C',rfl,dh,hk⟩,h2⟩
 ·obtain⟨C',h1,h2⟩:=h.drop;exact aM.mk h1 (.inl h2)
 exact aM.mk .right (.inr ⟨x,rfl,⟨K',S',C',rfl,dh,hk⟩,h2⟩)
theorem kQ(hK:cf kp K S ord ah tr C){r v:Nat}{b:Bool}(hr:live K.N r)(hv:v<K.n):
  Fc zQ 183 #[ptr kp,u32 r,iv (v:Int),.bool b] C (kM kp K S ord ah [] (λx=>S r (an.aB x v b))):=by
 have eq:QF (λx y=>if b then y else x) v (S r)=λx=>S r (an.aB x v b):=by
  funext x;unfold QF;cases b<;>rfl
 rw[<-eq];refine aF λg=>JH λb1 _ b3 _ b5 _=>?_;refine aa.fq (args:=#[ptr kp,.func (.func 257) #[] #[ptr b1,ptr b3,ptr b5]]) (C:=rHp b5 b3 b1 b v r++C) (KV (f:=QF (λx y=>if b then y else x) v (S r)) hK λK1 C1 fc mo=>⟨_,_,_,rfl,by kernel_rfl,λbq bm hQ=>?_⟩) ?_
 ·intro g;refine I1 (R:=aM _) ?_;unfold L257;refine Ld.q ?_;refine Ld.q ?_;have RA:live K1.N r:=by rw[mo.N];exact hr
  refine aa.fq (args:=#[ptr bq,u32 r,iv (v:Int),.func (.func 259) #[] #[ptr b5]]) (C:=rHp b5 b3 b1 b v r++uy bq kp bm true #[] 0 C1)
   (LH (Fh fc.ok.wf fc.ok.mid.int fc.ok.lv (b:=b) (.head _)) (λa=>by cases b<;>rfl) (by rw[mo.n];exact hv) fc.ok.wf fc.ok.mid.int fc.ok.lv fc.od (λs hs=>.inr (fc.ok.mid.held s zO)) RA hQ (λg hg=>by rw[mo.n]at hg;exact cI (λg h=>.inr h) hg)) ?_
  intro w H hO;exact aM.here hO
 intro w H hO;obtain⟨x,bb,e,rfl⟩:=hO.PU;exact Ext.mk rfl (Ext.mk rfl (Ext.mk rfl (aM.XR hO)))
def qf(e:Bool)(v:Nat)(f:aA.Fn):aA.Fn:=QF (λx y=>if e then x||y else x&&y) v f
theorem xR(hK:cf kp K S ord ah tr C){r v:Nat}{e:Bool}(hr:live K.N r)(hv:v<K.n):
  Fc zQ 260 #[ptr kp,u32 r,iv (v:Int),.bool e] C (kM kp K S ord ah [] (qf e v (S r))):=by
 refine aF λg=>IY λb1 _ b3 _ b5 _=>?_;refine aa.fq (args:=#[ptr kp,.func (.func 328) #[] #[ptr b1,ptr b3,ptr b5]]) (C:=rHp b5 b3 b1 e v r++C) (KV (f:=qf e v (S r)) hK λK1 C1 fc mo=>⟨_,_,_,rfl,by kernel_rfl,λbq bm hQ=>?_⟩) ?_
 ·intro g;refine H7 (R:=aM _) ?_;unfold L328;intro b2 _;refine Ld.q ?_;refine Ld.q ?_;refine Ld.q ?_;have RA:live K1.N r:=by rw[mo.N];exact hr
  have hf1:∀s,K1.hold s=65535->live K1.N s:=λs hs=>.inr (fc.ok.mid.held s zO);refine aa.fq (args:=#[ptr bq,u32 r,iv (v:Int),.func (.func 329) #[] #[ptr b2,ptr b5]]) (C:=((b2,Obj.cells #[ptr bq] 313 zZ)::rHp b5 b3 b1 e v r)++uy bq kp bm true #[] 0 C1)
   (LH (D9 fc.ok.wf fc.ok.mid.int fc.ok.lv fc.od hf1 (e:=e) (.tail _ (.head _)) (.head _)) (λa=>by cases e<;>cases a<;>rfl) (by rw[mo.n];exact hv) fc.ok.wf fc.ok.mid.int fc.ok.lv fc.od hf1 RA hQ (λg hg=>by rw[mo.n]at hg;exact cI (λg h=>.inr h) hg)) ?_
  rintro w H ⟨x,K',S',made',es',bB,C',nu,rfl,rfl,Ls,hA,ho⟩;exact aM.mk .tail ⟨x,K',S',made',es',bB,C',nu,rfl,rfl,Ls,hA,ho⟩
 intro w H hO;obtain⟨x,bb,e,rfl⟩:=hO.PU;exact Ext.mk rfl (Ext.mk rfl (Ext.mk rfl (aM.XR hO)))
end
end Go.Proofs
namespace Go.Sx
open Go
section
variable {P:Program} {g:Gh} {H:Hp}
def FcD(P:Program)(f:FuncId)(args:Array zV)(C:Hp)(Q:zV->Hp->Prop):Prop:=∀g,kL P g f args C (aM Q)
theorem jZ.fn{f:FuncId}{args:Array zV}{C H:Hp}{c:Hp->Hp}{Q:zV->Hp->Prop}{K:Hp->Prop}(hh:bI C H c)(hc:FcD P f args C Q)(hk:∀v C',Q v C'->K (c C')):jZ P g f args H K:=by
 intro w hw u;obtain⟨rfl,F,hp⟩:=hh.spec;have eU:Own g (C++F) w:=aL.perm (hp C) g w hw;refine((hc (g.add F)) w (Own.fp.1 eU) u).mono ?_;rintro e u' w' ⟨rfl,H',ho,v,C',rfl,he,hq⟩;have h1:Own g (H'++F) w':=Own.fp.2 ho;have h2:Own g (c H') w':=aL.perm (hp H').symm g w' h1;exact⟨rfl,c C',hh.dL he g w' h2,⟨v,rfl⟩,hk _ _ hq⟩
end
end Go.Sx
set_option maxRecDepth 100000
namespace Go.Proofs
open Go Go.Sx
section
open aA
section
variable {kp:Nat} {K:Kd} {ord ah tr:zL} {C:Hp} {S:Nat->aA.Fn}
theorem NX(h:cf kp K S ord ah tr C){r:Nat}(hr:r<4294967296)(hh:2<=r->K.hold r≠0):∀g,L142 g (ptr kp) (u32 r) C (aM λv C'=>v=iv 0/\∃K',cf kp K' S ord ah [] C'/\Ao K K' r):=by
 have h0:=h;obtain⟨b,hC,hO⟩:=h.rep;intro g;unfold L142;refine ae.aH (Br.no λJ2 BP=>?_);have fin:∀(K':Kd) C1,cT kp K' ord ah tr C1->Ok K' S (lv ah)->Idle K'->Ao K K' r->J2 [] C1:=λK' C1 dh A5 we hm=>by
  refine BP _ λgs=>?_;obtain⟨b',rfl,x9⟩:=dh;refine Nil.ptr (ai.mk (St.one (by exact .head _) rfl (by simp[ur.cells]) rfl ?_));have mS:Ord K'.n (lv ah) ord:=by rw[hm.n];exact h.od
  refine aM.mk (nB:=({b' with vt:=.slice none 0 0,CR:=[]}:ur).hp kp K'.n) ?_ ⟨rfl,K',⟨⟨{b' with vt:=.slice none 0 0,CR:=[]},rfl,{x9 with tr:=aN.nil}⟩,A5,mS,we,trivial⟩,hm⟩;refine .cons (.cU (.cU (.cU (.cU (.cU (.cU .nil _) _) _) _) _) _)
 refine ae.nh (b:=1) (Br.dec (λh2=>?_) (λh2=>?_));rotate_left
 ·exact JE.mk (fin K C h.rep h.ok h.idle ⟨rfl,rfl,λ_ _ h=>h,λs=>by rw[xac zO]⟩)
 have oX:2<=r:=by omega
 have pJ:=hh oX;obtain⟨d,hd⟩:=h.ok.mid.held r pJ;have hfu:=h.ok.mid.fit hd;have Nv:=hO.ul;have hfit:r<K.ho.length:=by omega
 have hle:=h.gi r;refine aa.eq (vU h.rep hr (λs=>by have:=h.gi s;omega)) (ae.gI (Br.F ?_));subst hC;refine Nil.ptr (ai.mk (Ld.f ?_));refine hO.ho.ld (x:=((K.hold r:Nat):Int)) (bH hfit) (bI.sub (.cons (.app (.app (.app .left))))) (ae.bZ (b:=1) (hO.ho.nt (x:=((K.hold r-1:Nat):Int)) (.cons (.app (.app (.app .left)))) (by rw[ak];exact hfit) λTN Zm=>?_));rw[fm]at Zm;have g1:∀s,(K.ho.set r (K.hold r-1)).getD s 0=if s=r then K.hold r-1 else K.hold s:=λs=>gU hfit
 have hM:=h.ok.mid.drop (r:=r) (cA:=K.ho.set r (K.hold r-1)) zO zI (by rw[g1,xad rfl];omega) (λs hs=>by rw[g1,xac hs]);have fc:cT kp {K with ho:=K.ho.set r (K.hold r-1)} ord ah tr (({b with CH:=TN}:ur).hp kp K.n):=⟨_,rfl,{hO with ho:=Zm,ul:=by simp;exact Nv}⟩;have hho:∀s,(K.ho.set r (K.hold r-1)).getD s 0=if s=r/\2<=r then K.hold s-1 else K.hold s:=λs=>by
  rw[g1];by_cases e:s=r
  ·subst e;rw[xad rfl,xad ⟨rfl,oX⟩]
  rw[xac e,xac (λh=>e h.1)]
 refine Nil.ptr (ai.mk (Ld.f ?_));refine Zm.ld (x:=((K.hold r-1:Nat):Int)) (by rw[bH (by simpa using hfit),g1,xad rfl]) (bI.sub (.cons (.app (.app (.app .left))))) (ae.dQ (b:=0) (Br.dec (λh3=>?_) (λh3=>?_)));rotate_left
 ·rw[xac zO]at hM;exact JE.mk (fin {K with ho:=K.ho.set r (K.hold r-1)} _ fc ⟨hM,h.ok.pos,h.ok.lv,h.ok.wf⟩ h.idle ⟨rfl,rfl,λ_ _ h=>h,hho⟩)
 rw[xad zO]at hM;refine Nil.ptr (ai.mk ?_);have Lt:jK {K with ho:=K.ho.set r (K.hold r-1)} S iP (gX zero' [r]):=hM.congr (λ_=>xcR) λs _=>by
  unfold up gX zero';by_cases e:s=r
  ·subst e;simp
  simp[e,xba e]
 refine aa.fq (mG (P0:=zero') fc Lt h.ok.pos (λt Sq h0=>?_) (h.bK (.inr ⟨d,hd⟩)) (λs=>by have:=h.EY s;show K.use s<_;omega)) ?_
 ·by_cases e:t=r
  ·subst e;exact⟨d,hd⟩
  have h0':0<zero' t+[r].count t:=h0;simp[zero',xba e]at h0'
 rintro w C2 ⟨rfl,K2,dk,Wa,TU,_,dX⟩;refine JE.mk (fin K2 _ dk ⟨Wa,TU,by rw[dX.n];exact h.ok.lv,Lh h.ok.wf Wa (λh=>dX.N h) dX.n⟩ (dX.idle h.idle) ⟨dX.n,dX.cap,λs e hs=>dX.N hs,λs=>?_⟩);show K2.ho.getD s 0=_;rw[dX.ho];exact hho s
theorem iV(h:cf kp K S ord ah tr C){r:Nat}(hr:r<4294967296)(hh:2<=r->K.hold r≠0):FcD zQ 142 #[ptr kp,u32 r] C (λv C'=>v=iv 0/\∃K',cf kp K' S ord ah [] C'/\Ao K K' r):=
 λg=>Eu (NX h hr hh g)
end
end
section
open aA
section
variable {kp:Nat} {K:Kd} {S:Nat->aA.Fn} {ord ah tr:zL} {C:Hp}
theorem uu(B:Hp)(x:Nat):Rd zQ 182 #[u32 x,.bool true,iv 0] B (· =.tuple #[u32 x,iv 0]):=by
 exact aF λg=>qz (ae.cD (Br.F (Un.not (Br.no (aZ.mk (.refl _) rfl)))))
theorem uv(B:Hp)(x:zV)(b:zV):Rd zQ 182 #[x,b,iv 9] B (· =.tuple #[u32 0,iv 9]):=by
 exact aF λg=>qz (ae.cD (Br.T (aZ.mk (.refl _) rfl)))
theorem ov(B:Hp)(x:Nat):Rd zQ 182 #[u32 x,.bool false,iv 0] B (· =.tuple #[u32 0,iv 8]):=by
 exact aF λg=>qz (ae.cD (Br.F (Un.not (Br.yes (aZ.mk (.refl _) rfl)))))
theorem yD(hK:cf kp K S ord ah tr C){v:Nat}(hv:v<K.n):Rd zQ 180 #[ptr kp,iv (v:Int)] C (· =.tuple #[.int .u64 ((2^v:Nat):Int),.bool true]):=by
 have hn:=hK.bc.lz;refine aF λg=>JJ λJ hJ=>?_;refine ae.lss ?_;rw[xai zO];refine Split.go rfl (ae.AN (Split.go rfl (aa.eq (gO hK.rep) (ae.qM ?_))));rw[xai zO];refine aD.mk (aD.mk (JE.mk (hJ _ _ λgs=>Br.no ?_)));have h2:2^v<18446744073709551616:=xaO (xbt zD (show v<64 by omega)) zD;refine ae.Ch (a:=1) (by simp[IntKind.bits];omega) (by rw[xa6];simpa[bG]using h2) ?_;rw[xa6];exact aZ.mk (.refl _) rfl
theorem sC(hK:cf kp K S ord ah tr C){Y:Hp}{mask:Nat}{vr:zV}{refs:zL}(hm:mask<2^K.n)(hr:dz .u32 Y vr (iw refs))(hl:∀r∈refs,live K.N r)(cJ:refs.length<=1048576):Rd zQ 181 #[ptr kp,.int .u64 (mask:Int),vr] (Y++C) (· =iv 0):=by
 have hn:=hK.bc.lz;refine aF λg=>JI (ae.aH (Br.no (aa.eq (gO hK.rep) ?_)));have EJ:mask<18446744073709551616:=xaO hm (xay (n:=2) zD hn);refine ae.iM (by simpa[bG]using EJ) ?_;rw[xaZ,xdr hm];refine ae.cD (Br.F (hr.bP ?_));rw[ak];refine⟨λvs H=>∃i:Nat,vs=[iv (i:Int)]/\i<=refs.length/\H=Y++C,λvs _=>refs.length-bL vs 0,JE.mk ⟨0,rfl,xaN _,rfl⟩,?_⟩;rintro w7 H ⟨i,⟨⟩,hi,rfl⟩ gs;refine ae.fk (Br.dec (λhlt=>?_) (λhlt=>?_))
 ·have hlr:=hl _ (xaF hlt);refine hr.ld (n:=((refs[i]:Nat):Int)) (cQ (xaa hlt)) (λ_ h=>xae _ h) ?_;refine aa.eq (args:=#[ptr kp,u32 refs[i]]) (iS hK.rep (by have:=hK.bK hlr;omega)) ?_;rw[bX.2 hlr];refine Ext.two λb15 _=>(St.whole (r:=got K.N refs[i]) (by exact .head _) rfl (aQ _ _).1 (aQ _ _).2 ?_);exact ae.cD (Br.F (ae.inc (aC.of .tail ⟨i+1,rfl,hlt,rfl⟩ (by simp only[bL];omega))))
 exact aZ.mk (.refl _) rfl
theorem om.done{f:aA.Fn}{w:zV}{H:Hp}(h:om kp K S ord ah [] f w H):(∃x,w=.tuple #[u32 x,.bool true,iv 0]/\aae kp K S ord ah tr f (.tuple #[u32 x,iv 0]) H)\/(w=.tuple #[u32 0,.bool false,iv 9]/\aae kp K S ord ah tr f (.tuple #[u32 0,iv 9]) H):=by
 rcases h with⟨x,K',S',C',rfl,rfl,dh,hg⟩|⟨rfl,⟨K',S',C',rfl,dh,hk⟩,hn⟩
 ·exact .inl ⟨x,rfl,.inl ⟨x,K',S',rfl,dh,hg⟩⟩
 exact .inr ⟨rfl,.inr ⟨rfl,⟨K',S',[],dh,.inl rfl,hk⟩,hn⟩⟩
theorem rj{n v:Nat}(hv:v<n):2^v<2^n:=xbt zD hv
theorem vq(hK:cf kp K S ord ah tr C){r v:Nat}{b:Bool}(hr:live K.N r)(hv:v<K.n):
  Fc zQ 127 #[ptr kp,u32 r,iv (v:Int),.bool b] C (jY kp K S ord ah tr (λx=>S r (an.aB x v b))):=by
 refine aF λg=>Kj (aa.eq (yD hK hv) (Ext.two (ae.AN (cm.and (a:=true) false (λ_=>Un.not ⟨rfl,rfl⟩) rfl λgs=>Br.no ?_))));refine az.int (e:=110) zK zK zK λbs=>?_;refine aa.eq (args:=#[ptr kp,.int .u64 ((2^v:Nat):Int),.slice (some ⟨bs,0,none⟩) 1 1]) (sC (Y:=[(bs,Obj.cells (av .u32 [(r:Int)]) 110 zZ)]) (refs:=[r]) hK (rj hv) ((aN.made (T:=110) (kd:=.u32) (b:=bs) (iw [r])).ints) (λs hs=>by simp at hs;subst hs;exact hr) (by show 1<=1048576;omega)) (ae.cD (Br.F ?_));refine aa.fq (args:=#[ptr kp,u32 r,iv (v:Int),.bool b]) (kQ hK hr hv) ?_;rintro w H (hO|⟨x,rfl,⟨K',S',C',rfl,dh,hk⟩,h2,hfx,V7⟩);rotate_left
 ·exact Ext.mk rfl (Ext.mk rfl (Ext.mk rfl (aa.eq (ov _ x) (Ext.mk rfl (Ext.mk rfl (aM.mk .tail (.inr ⟨rfl,⟨K',S',[],dh,.inl rfl,hk⟩,x,h2,hfx,V7⟩)))))))
 rcases hO.done (tr:=tr)with⟨x,rfl,hD⟩|⟨rfl,hD⟩
 ·exact Ext.mk rfl (Ext.mk rfl (Ext.mk rfl (aa.eq (uu _ x) (Ext.mk rfl (Ext.mk rfl (aM.mk .tail (.inl hD)))))))
 exact Ext.mk rfl (Ext.mk rfl (Ext.mk rfl (aa.eq (uv _ _ _) (Ext.mk rfl (Ext.mk rfl (aM.mk .tail (.inl hD)))))))
end
theorem Fits.mono{A B:aA.Fn->Prop}{cap:Nat}(h:∀g,A g->B g)(hB:Fits B cap):Fits A cap:=by
 classical
 obtain⟨ku,⟨l,h1,h2,h3⟩,hc⟩:=hB;refine⟨(l.filter λg=>decide (A g)).length,⟨l.filter λg=>decide (A g),h1.filter _,rfl,λg=>?_⟩,?_⟩
 ·rw[xbV,xar,<-h3];exact⟨λx=>⟨h g x,x⟩,λx=>x.2⟩
 have:=xbO (λg=>decide (A g)) l;omega
def bitsOf(mask n:Nat):zL:=(List.range n).filter λi=>mask.testBit i
theorem tL(mask n:Nat):bitsOf mask (n+1)=bitsOf mask n++if mask.testBit n then [n]else []:=by
 unfold bitsOf;rw[xb6,xbJ,xbb,List.filter_nil]
def uc(e:Bool)(vs:zL)(f:aA.Fn):aA.Fn:=vs.foldl (λg v=>qf e v g) f
theorem Qz(e:Bool)(vs:zL)(v:Nat)(f:aA.Fn):uc e (vs++[v]) f=qf e v (uc e vs f):=by
 unfold uc;rw[xdn];rfl
section
variable {kp:Nat} {K:Kd} {S:Nat->aA.Fn} {ord ah tr:zL} {C:Hp}
def BB(kp:Nat)(K:Kd)(S:Nat->aA.Fn)(ord ah tr:zL)(e:Bool)(mask r:Nat)(w:zV)(H:Hp):Prop:=
 (∃x K' S',w=.tuple #[u32 x,iv 0]/\cf kp K' S' ord ah [] H/\kO K S K' S' (uc e (bitsOf mask K.n) (S r)) x)\/
 (w=.tuple #[u32 0,iv 9]/\(∃K' S' cV,cf kp K' S' ord ah cV H/\(cV=[]\/cV=tr)/\Kept K S K' S')/\∃i,i<K.n/\mask.testBit i=true/\¬Fits (aG K.n ord (λg=>(K.held S g\/(bitsOf mask i≠[]/\g=uc e (bitsOf mask i) (S r)))\/g=qf e i (uc e (bitsOf mask i) (S r)))) K.cap)
def mq(kp:Nat)(K:Kd)(S:Nat->aA.Fn)(ord ah tr:zL)(e:Bool)(mask r:Nat)(w:zV)(H:Hp):Prop:=
 BB kp K S ord ah tr e mask r w H\/(w=.tuple #[u32 0,iv 8]/\(∃K' S' cV,cf kp K' S' ord ah cV H/\(cV=[]\/cV=tr)/\Kept K S K' S')/\
  ((mask=0/\2<=r/\K.hold r=65535)\/∃i x,i<K.n/\mask.testBit i=true/\2<=x/\live K.N x/\S x=qf e i (uc e (bitsOf mask i) (S r))/\65534<=K.hold x/\((bitsOf mask i≠[]/\S x=uc e (bitsOf mask i) (S r))\/K.hold x=65535)))
structure Way(K:Kd)(S:Nat->aA.Fn)(K1:Kd)(S1:Nat->aA.Fn)(ch:Bool)(cur:Nat):Prop where
 n:K1.n=K.n
 cap:K1.cap=K.cap
 N:∀s d,K.N s=some d->K1.N s=some d
 fn:∀s,live K.N s->S1 s=S s
 live:live K1.N cur
 hold:∀s,K1.hold s=K.hold s+if ch=true/\s=cur/\2<=cur then 1 else 0
theorem zw(hK:cf kp K S ord ah tr C){r mask:Nat}{e:Bool}(hr:live K.N r)(hm:mask<2^K.n):
  Fc zQ 184 #[ptr kp,u32 r,.int .u64 (mask:Int),.bool e] C (mq kp K S ord ah tr e mask r):=by
 have hn:=hK.bc.lz;have EJ:mask<18446744073709551616:=xaO hm (xay (n:=2) zD hn);have rG:∀s,K.hold s≠0->live K.N s:=λs hs=>.inr (hK.ok.mid.held s hs);refine aF λg=>JG (az.int (e:=110) zK zK zK λbs=>?_);refine aa.eq (args:=#[ptr kp,.int .u64 (mask:Int),.slice (some ⟨bs,0,none⟩) 1 1]) (sC (Y:=[(bs,Obj.cells (av .u32 [(r:Int)]) 110 zZ)]) (refs:=[r]) hK hm ((aN.made (T:=110) (kd:=.u32) (b:=bs) (iw [r])).ints) (λs hs=>by simp at hs;subst hs;exact hr) (by show 1<=1048576;omega)) (ae.cD (Br.F ?_));refine ae.dQ (b:=0) (Br.dec (λh0=>?_) (λh0=>?_))
 ·subst h0;by_cases hfr:2<=r/\K.hold r=65535
  ·exact aa.eq (args:=#[ptr kp,u32 r]) (oU hK hr hfr.1 hfr.2) (ae.cD (Br.T (aM.mk .tail (.inr ⟨rfl,⟨K,S,tr,hK,.inr rfl,.refl K S⟩,.inl ⟨rfl,hfr.1,hfr.2⟩⟩))))
  refine aa.fq (args:=#[ptr kp,u32 r]) (mP hK (r:=r) hr (λh2=>by have:=hK.gi r;omega)) ?_;rintro w C1 ⟨rfl,K1,fc,mo⟩;refine ae.cD (Br.F (aM.mk .tail (.inl (.inl ⟨r,K1,S,rfl,fc,mo.n,mo.cap,λs d hd=>by rw[mo.N];exact hd,λ_ _=>rfl,by rw[mo.N];exact hr,?_,λs=>by rw[mo.hold];split<;>omega⟩))));have:bitsOf 0 K.n=[]:=by unfold bitsOf;rw[xdk];intro a _;simp
  rw[this];rfl
 refine aa.eq (gO hK.rep) ?_;refine⟨λvs H=>∃(i cur:Nat) (ch:Bool) (K1:Kd) (S1:Nat->aA.Fn) (C1:Hp) (W4:zL),vs=[u32 cur,.bool ch,iv (i:Int)]/\i<=K.n/\H=(bs,Obj.cells (av .u32 [(r:Int)]) 110 zZ)::C1/\cf kp K1 S1 ord ah W4 C1/\
   (ch=decide (bitsOf mask i≠[]))/\S1 cur=uc e (bitsOf mask i) (S r)/\Way K S K1 S1 ch cur/\(ch=true->W4=[]),λvs _=>K.n-bL vs 2,
  JE.mk ⟨0,r,false,K,S,C,tr,rfl,xaN _,rfl,hK,rfl,rfl,⟨rfl,rfl,λ_ _ h=>h,λ_ _=>rfl,hr,λs=>by rw[xac (λh=>by cases h.1)];rfl⟩,λh=>by cases h⟩,?_⟩
 rintro w16 w17 w18 H ⟨i,cur,ch,K1,S1,C1,W4,hvs,hi,rfl,fc,kH,l6,hw,eG⟩ gs;simp only[xaw,xa2]at hvs;obtain⟨rfl,rfl,rfl⟩:=hvs;refine ae.fk (Br.dec (λhlt=>?_) (λhlt=>?_));rotate_left
 ·obtain rfl:i=K.n:=by omega
  have hne:bitsOf mask K.n≠[]:=λhb=>h0 (by
   apply xaW;intro j;rw[xcL];by_cases hj:j<K.n
   ·cases ht:mask.testBit j with
    |false=>rfl
    |true=>
     have:j∈bitsOf mask K.n:=xbV.2 ⟨xaM.2 hj,ht⟩;rw[hb]at this;cases this
   exact xca (xaO hm (xay zD zO)))
  have hct:ch=true:=by rw[kH];exact xal hne
  rw[eG hct]at fc;exact aM.mk .tail (.inl (.inl ⟨cur,K1,S1,rfl,fc,hw.n,hw.cap,hw.N,hw.fn,hw.live,l6,λs=>by rw[hw.hold];simp[hct]⟩))
 intro J hJ;refine ae.iM (by simpa[bG]using EJ) (ae.jz (b:=1) (by have:mask>>>i<=mask:=xbo _ _;simp[bG];omega) (by simp[bG]) ?_);have NG:(mask>>>i) &&&1=(mask.testBit i).toNat:=by
  rw[xbU,xc5,xaZ];have:mask/2^i%2<2:=xbv _ zD;by_cases h:mask/2^i%2=1
  ·simp[h]
  have:mask/2^i%2=0:=by omega
  simp[this]
 rw[NG];refine ae.dQ (b:=0) ?_;cases ht:mask.testBit i with
 |false=>
  refine Br.T (JE.mk (hJ _ _ _ λgs=>?_));refine ae.inc ?_;have eb:bitsOf mask (i+1)=bitsOf mask i:=by rw[tL,ht];simp
  exact aC.mk ⟨i+1,cur,ch,K1,S1,C1,W4,rfl,hlt,rfl,fc,by rw[eb];exact kH,by rw[eb];exact l6,hw,eG⟩ (by simp only[bL];omega)
 |true=>
  refine Br.F ?_;have eb:bitsOf mask (i+1)=bitsOf mask i++[i]:=by rw[tL,ht];simp
  have hh1:∀s,K1.hold s≠0->live K1.N s:=λs hs=>.inr (fc.ok.mid.held s hs);refine aa.fq (args:=#[ptr kp,u32 cur,iv (i:Int),.bool e]) (xR fc hw.live (by rw[hw.n];exact hlt)) ?_;rintro w H ((⟨x,K2,S2,C2,rfl,rfl,dk,hg⟩|⟨rfl,⟨K2,S2,C2,rfl,dk,hk⟩,hno⟩)|⟨x,rfl,⟨K2,S2,C2,rfl,dk,hk⟩,Pt,hfx,V7⟩)
  ·refine Ext.mk rfl (Ext.mk rfl (Ext.mk rfl (aa.eq (uu _ x) (Ext.two λJ38 h38=>?_))));have go:∀K3 C3,cf kp K3 S2 ord ah [] C3->Way K S K3 S2 true x->J38 [] ((bs,Obj.cells (av .u32 [(r:Int)]) 110 zZ)::C3):=λK3 C3 j9 Vz=>by
    refine h38 _ λgs=>?_;refine ae.cD (Br.F (JE.mk (hJ _ _ _ λgs=>?_)));exact ae.inc (aC.mk ⟨i+1,x,true,K3,S2,C3,[],rfl,hlt,rfl,j9,by rw[eb];exact(xal zI).symm,by rw[hg.is,eb,Qz,l6],Vz,λ_=>rfl⟩ (by simp only[bL];omega))
   have fn2:∀s,live K.N s->S2 s=S s:=λs hs=>(hg.fn s (cu hw.N hs)).trans (hw.fn s hs);cases ch with
   |false=>
    refine Br.no (JE.mk (go K2 H dk ⟨hg.n.trans hw.n,hg.cap.trans hw.cap,λs d hd=>hg.N s d (hw.N s d hd),fn2,hg.live,λs=>?_⟩));have a:=hw.hold s;rw[xac (λh=>by cases h.1)]at a;rw[hg.hold,a];simp
   |true=>
    have hlc:=hw.live;have hcc:2<=cur->K2.hold cur≠0:=λh2=>by rw[hg.hold,hw.hold,xad ⟨rfl,rfl,h2⟩];omega
    refine Br.yes (aa.fq (args:=#[ptr kp,u32 cur]) (mV dk (r:=cur) (by have:=fc.bK hlc;omega) hcc) ?_);rintro w C3 ⟨rfl,K3,j9,f3⟩;have gF:∀s,K3.hold s=K.hold s+if s=x/\2<=x then 1 else 0:=λs=>by
     have a:=hw.hold s;simp only[xcT]at a;rw[f3.hold,hg.hold,a];split<;>split<;>omega
    refine JE.mk (go K3 C3 j9 ⟨by rw[f3.n,hg.n,hw.n],by rw[f3.cap,hg.cap,hw.cap],λs d hs=>jR hK.ok j9.ok (λs h=>by rw[gF];omega) (λs d d' h h'=>?_) _ s d hs (xag _),fn2,?_,λs=>by rw[gF];simp⟩)
    ·have a:=f3.N s d' h';rw[hg.N s d (hw.N s d h)]at a;exact(xbp a).symm
    by_cases h2:x<2
    ·exact .inl h2
    refine .inr (j9.ok.mid.held x ?_);rw[gF,xad ⟨rfl,by omega⟩];omega
  ·refine Ext.mk rfl (Ext.mk rfl (Ext.mk rfl (aa.eq (uv _ _ _) (Ext.two λJ38 h38=>?_))));have uh:∀g,K1.held S1 g->K.held S g\/(bitsOf mask i≠[]/\g=uc e (bitsOf mask i) (S r)):=by
    rintro g ⟨s,hs,rfl⟩;have hs':K1.hold s≠0:=hs;by_cases hz:K.hold s=0
    ·right;rw[hw.hold,hz]at hs';by_cases hx:ch=true/\s=cur/\2<=cur
     ·refine⟨?_,by rw[hx.2.1];exact l6⟩;have:=hx.1;rw[kH]at this;exact xcd this
     rw[xac hx]at hs';omega
    exact .inl ⟨s,hz,hw.fn s (rG s hz)⟩
   have Dw:¬Fits (aG K.n ord (λg=>(K.held S g\/(bitsOf mask i≠[]/\g=uc e (bitsOf mask i) (S r)))\/g=qf e i (uc e (bitsOf mask i) (S r)))) K.cap:=λhfit=>hno (by
    rw[hw.n,hw.cap,l6];exact Fits.mono (λg hg=>cI (λg h=>h.imp (uh g) id) hg) hfit)
   have go:∀K3 C3 PR,cf kp K3 S2 ord ah PR C3->PR=[]->(∀s,K3.hold s=K.hold s)->K3.n=K2.n->K3.cap=K2.cap->J38 [] ((bs,Obj.cells (av .u32 [(r:Int)]) 110 zZ)::C3):=λK3 C3 PR j9 Ry BL hn3 Zu=>by
    refine h38 _ λgs=>?_;refine ae.cD (Br.T ?_);have hfn:∀s,K.hold s≠0->S2 s=S s:=λs hs=>(hk.fn s (by rw[hw.hold];omega)).trans (hw.fn s (rG s hs));refine aM.mk .tail (.inl (.inr ⟨rfl,⟨K3,S2,PR,j9,.inl Ry,⟨by rw[hn3,hk.n,hw.n],by rw[Zu,hk.cap,hw.cap],BL,λg=>?_,hfn⟩⟩,i,hlt,ht,Dw⟩));constructor
    ·rintro⟨s,hs,rfl⟩;have hs':K.hold s≠0:=by rw[<-BL];exact hs
     exact⟨s,hs',hfn s hs'⟩
    rintro⟨s,hs,rfl⟩;exact⟨s,by show K3.hold s≠0;rw[BL];exact hs,(hfn s hs).symm⟩
   cases ch with
   |false=>
    refine Br.no (JE.mk (go K2 H [] dk rfl (λs=>?_) rfl rfl));rw[hk.hold,hw.hold,xac (λh=>by cases h.1)];rfl
   |true=>
    have hcc:2<=cur->K2.hold cur≠0:=λh2=>by rw[hk.hold,hw.hold,xad ⟨rfl,rfl,h2⟩];omega
    refine Br.yes (aa.fq (args:=#[ptr kp,u32 cur]) (mV dk (r:=cur) (by have:=fc.bK hw.live;omega) hcc) ?_);rintro w C3 ⟨rfl,K3,j9,f3⟩;refine JE.mk (go K3 C3 [] j9 rfl (λs=>?_) f3.n f3.cap);have a:=hw.hold s;simp only[xcT]at a;rw[f3.hold,hk.hold,a];split<;>omega
  refine Ext.mk rfl (Ext.mk rfl (Ext.mk rfl (aa.eq (ov _ x) (Ext.two λJ38 h38=>?_))));have wc:live K.N x:=rG x (by have:=hw.hold x;split at this<;>omega);have Si:S x=qf e i (uc e (bitsOf mask i) (S r)):=by rw[<-l6,<-V7];exact(hw.fn x wc).symm
  have agb:65534<=K.hold x/\((bitsOf mask i≠[]/\S x=uc e (bitsOf mask i) (S r))\/K.hold x=65535):=by
   have:=hw.hold x;by_cases hx:ch=true/\x=cur/\2<=cur
   ·rw[xad hx]at this;refine⟨by omega,.inl ⟨?_,?_⟩⟩
    ·have h1:=hx.1;rw[kH]at h1;exact xcd h1
    rw[<-l6,<-hx.2.1];exact(hw.fn x wc).symm
   rw[xac hx]at this;exact⟨by omega,.inr zO⟩
  have go:∀K3 C3 PR,cf kp K3 S2 ord ah PR C3->PR=[]->(∀s,K3.hold s=K.hold s)->K3.n=K2.n->K3.cap=K2.cap->J38 [] ((bs,Obj.cells (av .u32 [(r:Int)]) 110 zZ)::C3):=λK3 C3 PR j9 Ry BL hn3 Zu=>by
   refine h38 _ λgs=>?_;refine ae.cD (Br.T ?_);have hfn:∀s,K.hold s≠0->S2 s=S s:=λs hs=>(hk.fn s (by rw[hw.hold];omega)).trans (hw.fn s (rG s hs));refine aM.mk .tail (.inr ⟨rfl,⟨K3,S2,PR,j9,.inl Ry,⟨by rw[hn3,hk.n,hw.n],by rw[Zu,hk.cap,hw.cap],BL,λg=>?_,hfn⟩⟩,.inr ⟨i,x,hlt,ht,Pt,wc,Si,agb⟩⟩);constructor
   ·rintro⟨s,hs,rfl⟩;have hs':K.hold s≠0:=by rw[<-BL];exact hs
    exact⟨s,hs',hfn s hs'⟩
   rintro⟨s,hs,rfl⟩;exact⟨s,by show K3.hold s≠0;rw[BL];exact hs,(hfn s hs).symm⟩
  cases ch with
  |false=>
   refine Br.no (JE.mk (go K2 H [] dk rfl (λs=>?_) rfl rfl));rw[hk.hold,hw.hold,xac (λh=>by cases h.1)];rfl
  |true=>
   have hcc:2<=cur->K2.hold cur≠0:=λh2=>by rw[hk.hold,hw.hold,xad ⟨rfl,rfl,h2⟩];omega
   refine Br.yes (aa.fq (args:=#[ptr kp,u32 cur]) (mV dk (r:=cur) (by have:=fc.bK hw.live;omega) hcc) ?_);rintro w C3 ⟨rfl,K3,j9,f3⟩;refine JE.mk (go K3 C3 [] j9 rfl (λs=>?_) f3.n f3.cap);have a:=hw.hold s;simp only[xcT]at a;rw[f3.hold,hk.hold,a];split<;>omega
end
section
variable {kp:Nat} {K:Kd} {S:Nat->aA.Fn} {ord ah tr:zL} {C:Hp}
theorem BB.two{e:Bool}{mask r:Nat}{w:zV}{H:Hp}(h:BB kp K S ord ah tr e mask r w H):∃x y,w=.tuple #[x,y]:=by
 rcases h with⟨x,K',S',rfl,_⟩|⟨rfl,_⟩
 ·exact⟨_,_,rfl⟩
 exact⟨_,_,rfl⟩
theorem mq.two{e:Bool}{mask r:Nat}{w:zV}{H:Hp}(h:mq kp K S ord ah tr e mask r w H):∃x y,w=.tuple #[x,y]:=by
 rcases h with h|⟨rfl,_⟩
 ·exact h.two
 exact⟨_,_,rfl⟩
theorem DU(hK:cf kp K S ord ah tr C){r mask:Nat}(hr:live K.N r)(hm:mask<2^K.n):
  Fc zQ 128 #[ptr kp,u32 r,.int .u64 (mask:Int)] C (mq kp K S ord ah tr true mask r):=by
 refine aF λg=>Kh (aa.fq (zw hK hr hm) ?_);intro w H hO;obtain⟨x,y,rfl⟩:=hO.two;exact Ext.mk rfl (Ext.mk rfl (aM.here hO))
theorem DN(hK:cf kp K S ord ah tr C){r mask:Nat}(hr:live K.N r)(hm:mask<2^K.n):
  Fc zQ 129 #[ptr kp,u32 r,.int .u64 (mask:Int)] C (mq kp K S ord ah tr false mask r):=by
 refine aF λg=>Kg (aa.fq (zw hK hr hm) ?_);intro w H hO;obtain⟨x,y,rfl⟩:=hO.two;exact Ext.mk rfl (Ext.mk rfl (aM.here hO))
def WY(kp:Nat)(K:Kd)(S:Nat->aA.Fn)(ord ah tr:zL)(lo hi f:aA.Fn)(w:zV)(H:Hp):Prop:=
 (∃x K' S',w=.tuple #[u32 x,iv 0]/\cf kp K' S' ord ah [] H/\kO K S K' S' f x)\/
 (w=.tuple #[u32 0,iv 9]/\(∃K' S' cV,cf kp K' S' ord ah cV H/\(cV=[]\/cV=tr)/\Kept K S K' S')/\
  (¬Fits (aG K.n ord (λg=>K.held S g\/g=lo)) K.cap\/¬Fits (aG K.n ord (λg=>(K.held S g\/g=lo)\/g=hi)) K.cap\/¬Fits (aG K.n ord (λg=>((K.held S g\/g=lo)\/g=hi)\/g=f)) K.cap))
def One(p:Prop)(a:Nat):Prop:=(a=1/\p)\/(a=0/\¬p)
def Ew(kp:Nat)(K:Kd)(S:Nat->aA.Fn)(ord ah tr:zL)(lo hi f:aA.Fn)(w:zV)(H:Hp):Prop:=
 WY kp K S ord ah tr lo hi f w H\/(w=.tuple #[u32 0,iv 8]/\(∃K' S' cV,cf kp K' S' ord ah cV H/\(cV=[]\/cV=tr)/\Kept K S K' S')/\
  ∃x,2<=x/\live K.N x/\((S x=lo/\K.hold x=65535)\/(∃a,One (S x=lo) a/\S x=hi/\K.hold x+a=65535)\/(∃a b,One (S x=lo) a/\One (S x=hi) b/\S x=f/\K.hold x+a+b=65535)))
theorem kO.one{K':Kd}{S':Nat->aA.Fn}{f:aA.Fn}{x:Nat}{cV:zL}{C':Hp}(h:kO K S K' S' f x)(dh:cf kp K' S' ord ah cV C'){s:Nat}(hs:aA.live K.N s)(h2:2<=s):∃a,One (S s=f) a/\K'.hold s=K.hold s+a:=by
 have hfn:=h.fn s hs;by_cases e:s=x
 ·exact⟨1,.inl ⟨rfl,by rw[<-hfn,e];exact h.is⟩,by rw[h.hold,xad ⟨e,by omega⟩]⟩
 refine⟨0,.inr ⟨rfl,λhf=>e ?_⟩,by rw[h.hold,xac (λh=>e h.1)]⟩;exact dh.ok.wf.same dh.ok.lv dh.ok.mid.int (cu h.N hs) h.live λy=>by rw[hfn,hf,h.is]
theorem N8(hK:cf kp K S ord ah tr C){r v h:Nat}(hr:live K.N r)(hv:v<K.n)(hh:live K.N h):
  Fc zQ 130 #[ptr kp,u32 r,iv (v:Int),u32 h] C (Ew kp K S ord ah tr (λx=>S r (an.aB x v false)) (λx=>S r (an.aB x v true)) (λx=>if S h x then S r (an.aB x v true)else S r (an.aB x v false))):=by
 have uB:1<=2^K.n:=xef;have rG:∀s,K.hold s≠0->live K.N s:=λs hs=>.inr (hK.ok.mid.held s hs);refine aF λg=>Kf (aa.eq (yD hK hv) (Ext.two (ae.AN (cm.and (a:=true) false (λ_=>Un.not ⟨rfl,rfl⟩) rfl λgs=>Br.no ?_))));refine az.Ri (e:=110) zK zK zK λbs=>?_;refine aa.rq (args:=#[ptr kp,.int .u64 ((2^v:Nat):Int),.slice (some ⟨bs,0,none⟩) 2 2]) (sC (Y:=[(bs,Obj.cells (av .u32 [(r:Int),(h:Int)]) 110 zZ)]) (refs:=[r,h]) hK (rj hv) ((aN.made (T:=110) (kd:=.u32) (b:=bs) (iw [r,h])).ints) (λs hs=>by
  simp only[xam,xaP,xbD]at hs;rcases hs with rfl|rfl
  ·exact hr
  exact hh) (by show 2<=1048576;omega)) ?_
 rintro w rfl;refine ae.cD (Br.F (aa.fq (args:=#[ptr kp,u32 r,iv (v:Int),.bool false]) (kQ hK hr hv) ?_));rintro w H (hO|⟨x,rfl,⟨K1,S1,C1,rfl,fc,hk⟩,Pt,hfx,V7⟩);rotate_left
 ·exact Ext.mk rfl (Ext.mk rfl (Ext.mk rfl (aa.eq (ov _ x) (Ext.two (ae.cD (Br.T (aM.mk .tail (.inr ⟨rfl,⟨K1,S1,[],fc,.inl rfl,hk⟩,x,Pt,rG x zO,.inl ⟨V7,hfx⟩⟩))))))))
 rcases hO with⟨x1,K1,S1,C1,rfl,rfl,fc,g1⟩|⟨rfl,⟨K1,S1,C1,rfl,fc,hk⟩,hno⟩;rotate_left
 ·exact Ext.mk rfl (Ext.mk rfl (Ext.mk rfl (aa.eq (uv _ _ _) (Ext.two (ae.cD (Br.T (aM.mk .tail (.inl (.inr ⟨rfl,⟨K1,S1,[],fc,.inl rfl,hk⟩,.inl hno⟩)))))))))
 refine Ext.mk rfl (Ext.mk rfl (Ext.mk rfl (aa.eq (uu _ x1) (Ext.two (ae.cD (Br.F ?_))))));have RA:=cu g1.N hr;have e1:S1 r=S r:=g1.fn r hr;have hh1:=cu g1.N hh;have l1:=g1.live;have fo:=g1.hold;have RQ:∀g,K1.held S1 g->K.held S g\/g=λx=>S r (an.aB x v false):=g1.held rG;refine aa.fq (args:=#[ptr kp,u32 r,iv (v:Int),.bool true]) (kQ fc RA (by rw[g1.n];exact hv)) ?_;intro w H hO;rw[e1]at hO;rcases hO with(⟨x2,K2,S2,C2,rfl,rfl,dk,g2⟩|⟨rfl,⟨K2,S2,C2,rfl,dk,hk⟩,hno⟩)|⟨x,rfl,⟨K2,S2,C2,rfl,dk,hk⟩,Pt,hfx,V7⟩;rotate_left
 ·refine Ext.mk rfl (Ext.mk rfl (Ext.mk rfl (aa.eq (uv _ _ _) (Ext.two (ae.cD (Br.T (jZ.fn (args:=#[ptr kp,u32 x1]) (.cons .here) (iV dk (r:=x1) (by have:=fc.bK l1;omega) (λh2=>by rw[hk.hold,fo,xad ⟨rfl,h2⟩];omega)) ?_)))))));rintro w C3 ⟨rfl,K3,j9,f3⟩;have BL:∀s,K3.hold s=K.hold s:=λs=>by
   rw[f3.hold,hk.hold,fo];split<;>omega
  have hfn:∀s,K.hold s≠0->S2 s=S s:=λs hs=>(hk.fn s (by rw[fo];omega)).trans (g1.fn s (rG s hs));refine aM.mk .tail (.inl (.inr ⟨rfl,⟨K3,S2,[],j9,.inl rfl,⟨by rw[f3.n,hk.n,g1.n],by rw[f3.cap,hk.cap,g1.cap],BL,λg=>?_,hfn⟩⟩,.inr (.inl λhfit=>hno ?_)⟩))
  ·constructor
   ·rintro⟨s,hs,rfl⟩;have hs':K.hold s≠0:=by rw[<-BL];exact hs
    exact⟨s,hs',hfn s hs'⟩
   rintro⟨s,hs,rfl⟩;exact⟨s,by show K3.hold s≠0;rw[BL];exact hs,(hfn s hs).symm⟩
  rw[g1.n,g1.cap];exact Fits.mono (λg hg=>cI (λg h=>h.imp (RQ g) id) hg) hfit
 ·refine Ext.mk rfl (Ext.mk rfl (Ext.mk rfl (aa.eq (ov _ x) (Ext.two (ae.cD (Br.T ?_))))));have wc:live K.N x:=rG x (by have:=fo x;split at this<;>omega);obtain⟨a,ha,hka⟩:=g1.one fc wc Pt;have Si:S x=λx=>S r (an.aB x v true):=by rw[<-V7];exact(g1.fn x wc).symm
  refine jZ.fn (args:=#[ptr kp,u32 x1]) (.cons .here) (iV dk (r:=x1) (by have:=fc.bK l1;omega) (λh2=>by rw[hk.hold,fo,xad ⟨rfl,h2⟩];omega)) ?_;rintro w C3 ⟨rfl,K3,j9,f3⟩;have BL:∀s,K3.hold s=K.hold s:=λs=>by
   rw[f3.hold,hk.hold,fo];split<;>omega
  have hfn:∀s,K.hold s≠0->S2 s=S s:=λs hs=>(hk.fn s (by rw[fo];omega)).trans (g1.fn s (rG s hs));refine aM.mk .tail (.inr ⟨rfl,⟨K3,S2,[],j9,.inl rfl,⟨by rw[f3.n,hk.n,g1.n],by rw[f3.cap,hk.cap,g1.cap],BL,λg=>?_,hfn⟩⟩,x,Pt,wc,.inr (.inl ⟨a,ha,Si,by omega⟩)⟩);constructor
  ·rintro⟨s,hs,rfl⟩;have hs':K.hold s≠0:=by rw[<-BL];exact hs
   exact⟨s,hs',hfn s hs'⟩
  rintro⟨s,hs,rfl⟩;exact⟨s,by show K3.hold s≠0;rw[BL];exact hs,(hfn s hs).symm⟩
 refine Ext.mk rfl (Ext.mk rfl (Ext.mk rfl (aa.eq (uu _ x2) (Ext.two (ae.cD (Br.F ?_))))));have hh2:=cu g2.N hh1;have l12:=cu g2.N l1;have l2:=g2.live;have fV:=g2.hold;have afJ:∀s,K1.hold s≠0->live K1.N s:=λs hs=>.inr (fc.ok.mid.held s hs);have Zn:∀g,K2.held S2 g->(K.held S g\/g=λx=>S r (an.aB x v false))\/g=λx=>S r (an.aB x v true):=λg hg=>(g2.held afJ g hg).imp (RQ g) id;have eh:S2 h=S h:=(g2.fn h hh1).trans (g1.fn h hh);have ex1:S2 x1=λx=>S r (an.aB x v false):=(g2.fn x1 l1).trans g1.is;have VU:∀s,live K.N s->S2 s=S s:=λs hs=>(g2.fn s (cu g1.N hs)).trans (g1.fn s hs);refine aa.fq (args:=#[ptr kp,u32 h,u32 x2,u32 x1]) (z9 dk hh2 l2 l12) ?_;intro w H hO;rw[eh,ex1,g2.is]at hO;rcases hO with(⟨x3,K3,S3,rfl,j9,g3⟩|⟨rfl,⟨K3,S3,PR,j9,_,hk⟩,hno⟩)|⟨rfl,⟨K3,S3,PR,j9,_,hk⟩,x,Pt,hfx,V7⟩
 ·apply Ext.two;have gF:=g3.hold;refine jZ.fn (args:=#[ptr kp,u32 x2]) (.cons .here) (iV j9 (r:=x2) (by have:=dk.bK l2;omega) (λh2=>by rw[gF,fV,xad ⟨rfl,h2⟩];omega)) ?_;rintro w C4 ⟨rfl,K4,NJ,f4⟩;have nf:∀s,K4.hold s=K1.hold s+if s=x3/\2<=x3 then 1 else 0:=λs=>by
   rw[f4.hold,gF,fV];split<;>split<;>omega
  refine jZ.fn (args:=#[ptr kp,u32 x1]) (.cons .here) (iV NJ (r:=x1) (by have:=fc.bK l1;omega) (λh2=>by rw[nf,fo,xad ⟨rfl,h2⟩];omega)) ?_;rintro w C5 ⟨rfl,K5,Lu,f5⟩;have nV:∀s,K5.hold s=K.hold s+if s=x3/\2<=x3 then 1 else 0:=λs=>by
   rw[f5.hold,nf,fo];split<;>split<;>omega
  have wc:live K5.N x3:=by
   by_cases h2:x3<2
   ·exact .inl h2
   refine .inr (Lu.ok.mid.held x3 ?_);rw[nV,xad ⟨rfl,by omega⟩];omega
  have agd:∀s,live K.N s->S3 s=S s:=λs hs=>(g3.fn s (cu g2.N (cu g1.N hs))).trans (VU s hs);refine aM.mk .tail (.inl (.inl ⟨x3,K5,S3,rfl,Lu,⟨by rw[f5.n,f4.n,g3.n,g2.n,g1.n],by rw[f5.cap,f4.cap,g3.cap,g2.cap,g1.cap],λs d hs=>jR hK.ok Lu.ok (λs h=>by rw[nV];omega) (λs d d' h h'=>?_) _ s d hs (xag _),agd,wc,g3.is,nV⟩⟩));have a:=f4.N s d' (f5.N s d' h');rw[g3.N s d (g2.N s d (g1.N s d h))]at a;exact(xbp a).symm
 ·apply Ext.two;have gF:=hk.hold;refine jZ.fn (args:=#[ptr kp,u32 x2]) (.cons .here) (iV j9 (r:=x2) (by have:=dk.bK l2;omega) (λh2=>by rw[gF,fV,xad ⟨rfl,h2⟩];omega)) ?_;rintro w C4 ⟨rfl,K4,NJ,f4⟩;have nf:∀s,K4.hold s=K1.hold s:=λs=>by
   rw[f4.hold,gF,fV];split<;>omega
  refine jZ.fn (args:=#[ptr kp,u32 x1]) (.cons .here) (iV NJ (r:=x1) (by have:=fc.bK l1;omega) (λh2=>by rw[nf,fo,xad ⟨rfl,h2⟩];omega)) ?_;rintro w C5 ⟨rfl,K5,Lu,f5⟩;have nV:∀s,K5.hold s=K.hold s:=λs=>by
   rw[f5.hold,nf,fo];split<;>omega
  have hfn:∀s,K.hold s≠0->S3 s=S s:=λs hs=>(hk.fn s (by rw[fV,fo];omega)).trans (VU s (rG s hs));refine aM.mk .tail (.inl (.inr ⟨rfl,⟨K5,S3,[],Lu,.inl rfl,⟨by rw[f5.n,f4.n,hk.n,g2.n,g1.n],by rw[f5.cap,f4.cap,hk.cap,g2.cap,g1.cap],nV,λg=>?_,hfn⟩⟩,.inr (.inr λhfit=>hno ?_)⟩))
  ·constructor
   ·rintro⟨s,hs,rfl⟩;have hs':K.hold s≠0:=by rw[<-nV];exact hs
    exact⟨s,hs',hfn s hs'⟩
   rintro⟨s,hs,rfl⟩;exact⟨s,by show K5.hold s≠0;rw[nV];exact hs,(hfn s hs).symm⟩
  rw[g2.n,g2.cap,g1.n,g1.cap];exact Fits.mono (λg hg=>cI (λg h=>h.imp (Zn g) id) hg) hfit
 apply Ext.two;have gF:=hk.hold;have wc:live K.N x:=rG x (by have:=fV x;have:=fo x;split at* <;>split at* <;>omega);obtain⟨a,ha,hka⟩:=g1.one fc wc Pt;obtain⟨b,hb,hkb⟩:=g2.one dk (cu g1.N wc) Pt;rw[g1.fn x wc]at hb;have Si:S x=λx=>if S h x then S r (an.aB x v true)else S r (an.aB x v false):=by rw[<-V7];exact(VU x wc).symm
 refine jZ.fn (args:=#[ptr kp,u32 x2]) (.cons .here) (iV j9 (r:=x2) (by have:=dk.bK l2;omega) (λh2=>by rw[gF,fV,xad ⟨rfl,h2⟩];omega)) ?_;rintro w C4 ⟨rfl,K4,NJ,f4⟩;have nf:∀s,K4.hold s=K1.hold s:=λs=>by
  rw[f4.hold,gF,fV];split<;>omega
 refine jZ.fn (args:=#[ptr kp,u32 x1]) (.cons .here) (iV NJ (r:=x1) (by have:=fc.bK l1;omega) (λh2=>by rw[nf,fo,xad ⟨rfl,h2⟩];omega)) ?_;rintro w C5 ⟨rfl,K5,Lu,f5⟩;have nV:∀s,K5.hold s=K.hold s:=λs=>by
  rw[f5.hold,nf,fo];split<;>omega
 have hfn:∀s,K.hold s≠0->S3 s=S s:=λs hs=>(hk.fn s (by rw[fV,fo];omega)).trans (VU s (rG s hs));refine aM.mk .tail (.inr ⟨rfl,⟨K5,S3,[],Lu,.inl rfl,⟨by rw[f5.n,f4.n,hk.n,g2.n,g1.n],by rw[f5.cap,f4.cap,hk.cap,g2.cap,g1.cap],nV,λg=>?_,hfn⟩⟩,x,Pt,wc,.inr (.inr ⟨a,b,ha,hb,Si,by omega⟩)⟩);constructor
 ·rintro⟨s,hs,rfl⟩;have hs':K.hold s≠0:=by rw[<-nV];exact hs
  exact⟨s,hs',hfn s hs'⟩
 rintro⟨s,hs,rfl⟩;exact⟨s,by show K5.hold s≠0;rw[nV];exact hs,(hfn s hs).symm⟩
end
end
section
theorem BU{n:Nat}(hn:n<=16)(B:Hp):Rd zQ 382 #[iv (n:Int)] B (· =iv ((an.wN n:Nat):Int)):=by
 refine aF λg=>Hh ?_;have h1:1<<<n<=65536:=by rw[xa6];exact xay (n:=2) zD hn
 refine ae.Ch (a:=1) (b:=n) (by simp[IntKind.bits];omega) (by simp[bG];omega) (ae.iM (b:=6) (by simp[bG];omega) (⟨_,_,_,rfl,rfl,?_⟩));refine aZ.mk (.refl _) ?_;have:1<<<n>>>6=2^n/64:=by rw[xa6,xaZ]
 rw[this];congr 1;unfold an.wN;rw[Nat.max_def];split<;>split<;>omega
theorem Lw{n:Nat}(hn:n<=16)(B:Hp):Rd zQ 383 #[iv (n:Int)] B (· =.int .u64 ((an.dK n:Nat):Int)):=by
 refine aF λg=>Hg (ae.qM (a:=n) (b:=6) (Br.dec (λh=>?_) (λh=>?_)))
 ·exact aZ.mk (.refl _) (by unfold an.dK;rw[xad h];rfl)
 have h1:2^n<=32:=xay (n:=2) zD (by omega:n<=5);have h2:2^2^n<=2^32:=xay zD h1;have h3:=xbs (2^n);refine ae.nr (a:=1) (b:=n) ?_;rw[xa6,xbm zO];refine ae.nr (a:=1) ?_;rw[xa6,xbm zO];exact ae.bZ (b:=1) (aZ.mk (.refl _) (by unfold an.dK;rw[xac h]))
theorem Nm{n:Nat}{ws:zL}(hn:n<=16)(hl:ws.length=an.wN n)(hw:∀w∈ws,w<18446744073709551616){w:Nat}(hg:ws[ws.length-1]? =some w):
  (m5 w (an.dK n)=0)↔an.fg n ws:=by
 have key:∀w,w<18446744073709551616->(m5 w (an.dK n)=0↔w<=an.dK n):=by
  intro w hw;constructor
  ·intro h;have:w&&&an.dK n=w:=by
    apply xaW;intro j;have:=xcj (λx=>x.testBit j) h;simp only[dG,xcL]at this;rw[xbj];cases h1:w.testBit j<;>cases h2:(an.dK n).testBit j<;>simp_all
   rw[<-this];exact xc4
  intro h;have:=an.wT h;unfold m5;rw[this,Nat.xor_self]
 constructor
 ·intro h;refine⟨hn,hl,λu hu=>?_⟩;by_cases h6:6<=n
  ·unfold an.dK;rw[xad h6];have:=hw u hu;omega
  have h1:ws.length=1:=by rw[hl,an.KB zO]
  obtain⟨x,rfl⟩:=List.length_eq_one_iff.1 h1;simp at hg hu;subst hg;subst hu;exact(key _ (hw _ zI)).1 h
 intro h;exact(key w (hw w (xav hg))).2 (h.full w (xav hg))
theorem DM{B:Hp}{v:zV}{t:Tb}(ht:EO B v t):Rd zQ 384 #[v] B (· =.bool (decide (TF t))):=by
 obtain⟨tn,ws⟩:=t;obtain⟨s,rfl,hs,hw⟩:=ht;simp only at hs hw⊢;refine aF λg=>Hf λb1 _ J hJ=>?_;have hno:¬TF ⟨tn,ws⟩->JE J [.bool true] ((b1,.cells (Value.cells (.agg #[iv tn,s])) 116 zZ)::B):=λh=>
  JE.mk (hJ _ _ λgs=>Br.yes (aZ.mk .tail (by rw[xai h])))
 refine DR.self ?_;refine ai.mk (Ld.mk zM rfl ?_);refine ae.lss (Br.dec (λh0=>hno λh=>by have:=h.1;simp only at this;omega) (λh0=>?_));obtain⟨n,rfl⟩:∃n:Nat,tn=n:=⟨tn.toNat,by omega⟩;have hTF:TF ⟨(n:Int),ws⟩↔an.fg n ws:=by unfold TF;simp
 refine ai.mk (Ld.mk zM rfl ?_);refine ae.nh (b:=16) (aD.mk (Br.dec (λh1=>hno λh=>by have:=(hTF.1 h).xU;omega) (λh1=>?_)));refine ai.mk (Ld.mk zM rfl ?_);refine hs.bP ?_;refine ai.mk (Ld.mk zM rfl ?_);intro F;refine aa.eq (BU zO B) (⟨(by repeat (first|exact aL.refl _|apply aL.cons|apply aL.skip|apply aL.cU|apply aL.fT)),?_⟩);rw[ak];refine ae.yL (aD.mk ?_);simp only[xah];by_cases hl:ws.length=an.wN n
 case neg=>rw[show decide (ws.length≠an.wN n)=true by simp[hl]];exact hno λh=>hl (hTF.1 h).len
 rw[show decide (ws.length≠an.wN n)=false by simp[hl]];refine JE.mk (hJ _ _ λgs=>Br.no ?_);have hpos:=an.X6 n;obtain⟨w,hg⟩:∃w,ws[ws.length-1]? =some w:=⟨_,xaa zO⟩;refine DR.self ?_;refine ai.mk (Ld.mk zM rfl ?_);refine ai.mk (Ld.mk zM rfl ?_);refine hs.bP ?_;rw[ak];refine ae.xO (b:=1) (by have:=an.yp (n:=n) zO;simp[bG];omega) zO (hs.ld (cQ hg) zS ?_);refine ai.mk (Ld.mk zM rfl ?_);refine aa.eq (Lw zO B) (⟨(by repeat (first|exact aL.refl _|apply aL.cons|apply aL.skip|apply aL.cU|apply aL.fT)),?_⟩);refine ae.Ei (by have:=hw w (xav hg);simpa[bG]using this) (by have:=an.rN n;simpa[bG]using this) (ae.dQ (b:=0) (aZ.mk .tail ?_));congr 1;exact xcx.2 ((Nm zO hl hw hg).trans hTF.symm)
theorem DL{B:Hp}{v:zV}{ts:List Tb}(ht:jE B v ts)(cJ:ts.length<2^62):Rd zQ 345 #[v] B (· =.bool (decide (∀t∈ts,TF t/\some t.n=ts.head?.map Tb.n))):=by
 refine aF λg=>HL (ht.bP ?_);refine⟨λvs H=>bV B H/\∃k:Nat,vs=[iv (k:Int)]/\k<=ts.length/\∀i t,i<k->ts[i]? =some t->TF t/\some t.n=ts.head?.map Tb.n,λvs _=>ts.length-bL vs 0,JE.mk ⟨.refl _,0,rfl,by omega,by omega⟩,?_⟩;rintro w H ⟨hg,k,⟨⟩,hk,aI⟩ gs;refine ae.fk (Br.dec (λhlt=>?_) (λhlt=>?_))
 ·obtain⟨t,nv⟩:∃t,ts[k]? =some t:=⟨_,xaa hlt⟩;obtain⟨t0,VG⟩:∃t,ts[0]? =some t:=⟨_,xaa zO⟩;have hh:ts.head?.map Tb.n=some t0.n:=by rw[List.head?_eq_getElem?,VG];rfl
  have htB:=ht.mono hg.sub;refine htB.ld nv (λ_ h=>h) λs hs=>?_;intro b1 _;refine St.p ?_ ?_
  ·obtain⟨a,c,rfl,_⟩:=hs.1.shape;simp[Value.oneCell']
  intro J hJ;have hno:∀H',bV B H'->¬(TF t/\some t.n=ts.head?.map Tb.n)->JE J [.bool true] H':=λH' XB h=>
   JE.mk (hJ _ _ λgs=>Br.yes (aZ.mk XB.dL (by rw[xai];exact λhh=>h (hh t (xav nv)))))
  have TX:bV B ((b1,Obj.cells (List.toArray [iv t.n,s]) 116 zZ)::H):=.cons hg;refine DR.self (ax.q ?_);intro F;refine aa.eq (B:=H) (DM ⟨s,rfl,hs⟩) (⟨.refl _,Un.not ?_⟩);by_cases hT:TF t
  case neg=>rw[xai hT];exact Br.yes (hno _ TX λh=>hT h.1)
  rw[xal hT];apply Br.no;refine ai.mk (Ld.mk zM rfl ?_);refine htB.ldN VG zS ?_;refine ae.cD (aD.mk ?_);simp only[xah];by_cases hn:t.n=t0.n
  case neg=>rw[xal hn];exact hno _ TX λh=>hn (by have:=h.2;rw[hh]at this;simpa using this)
  rw[xai (by simpa using hn)];refine JE.mk (hJ _ _ λgs=>Br.no ?_);refine ae.inc (aC.mk ⟨TX,k+1,rfl,by omega,λi u hi hu=>?_⟩ (by simp[bL];omega));by_cases e:i=k
  ·subst e;rw[nv]at hu;cases hu;exact⟨hT,by rw[hh,hn]⟩
  exact aI i u zO hu
 refine aZ.mk hg.dL ?_;rw[xal];intro t htm;obtain⟨i,hi,rfl⟩:=xbd.1 htm;exact aI i _ zO (xaa hi)
theorem wx{B:Hp}{b:Nat}{t:Tb}{s:zV}{T:TypeId}{fz:Nat×Nat}(hm:(b,Obj.cells #[iv t.n,s] T fz)∈B)(hw:Words B s t.ws):
  Rd zQ 345 #[.slice (some ⟨b,0,none⟩) 1 1] B (· =.bool (decide (TF t))):=
 (DL (jE.one (cap:=0) hm hw) zI).mono λv H ⟨h1,h2⟩=>⟨h1,by rw[h2];congr 1;simp⟩
theorem abk{B:Hp}{v:zV}{t:Tb}(ht:EO B v t)(u:Int):Rd zQ 404 #[v,iv u] B (· =iv (if TF t then(if 0<=u/\u<t.n then 0 else 2)else 5)):=by
 obtain⟨s,rfl,hw⟩:=ht;refine aF λg=>GS λb1 _=>?_;refine ax.q ?_;refine wP λb2=>?_;refine aa.rd .here (wx (by exact List.Mem.head _) (hw.mono zS)) ?_;rintro v rfl;apply Un.not;by_cases hT:TF t
 ·rw[xal hT,xad hT];refine Br.no (ae.lss (cm.or (decide (t.n<=u)) (λh=>?_) rfl ?_))
  ·refine ai.mk (Ld.mk zM rfl ?_);exact ae.geq ⟨rfl,rfl⟩
  intro gs;have hor:(decide (u<0)||decide (t.n<=u))=decide (¬(0<=u/\u<t.n)):=by
   by_cases h1:u<0<;>by_cases h2:t.n<=u<;>simp[h1,h2]<;>omega
  rw[hor];refine Br.dec (λh=>?_) (λh=>?_)
  ·exact aZ.mk (by repeat (first|exact aL.refl _|apply aL.cons|apply aL.skip|apply aL.cU|apply aL.fT)) (by rw[xac h])
  exact aZ.mk (by repeat (first|exact aL.refl _|apply aL.cons|apply aL.skip|apply aL.cU|apply aL.fT)) (by rw[xad (xek.1 h)])
 rw[xai hT,xac hT];exact Br.yes (aZ.mk (by repeat (first|exact aL.refl _|apply aL.cons|apply aL.skip|apply aL.cU|apply aL.fT)) rfl)
theorem zN{u i:Nat}(hu:u<64)(hi:i<18446744073709551616)(F8:i<9223372036854775808)(B:Hp):Rd zQ 344 #[iv (u:Int),iv (i:Int)] B
  (· =.int .u64 ((if 6<=u then(if(i>>>(u-6)).testBit 0 then 18446744073709551615 else 0)else an.mask u:Nat):Int)):=by
 refine aF λg=>HM (ae.qM (a:=u) (b:=6) (Br.dec (λh=>?_) (λh=>?_)))
 ·refine aV.nat (by simpa[bG]using hi) (ae.xO (b:=6) (by simp[bG];omega) h (ae.iM (by simpa[bG]using hi) ?_));have hs:i>>>(u-6)<18446744073709551616:=xaA (xbo _ _) hi;refine ae.jz (b:=1) (by simpa[bG]using hs) zD (Un.afa (by rw[an.gx];split<;>decide) ?_);refine aZ.mk (.refl _) ?_;rw[xad h,an.gx];split<;>rfl
 refine⟨λvs H=>H=B/\∃j:Nat,vs=[.int .u64 ((an.Bm u j:Nat):Int),iv (j:Int)]/\j<=64,λvs _=>64-bL vs 1,JE.mk ⟨rfl,0,rfl,by omega⟩,?_⟩;rintro w1 w2 H ⟨rfl,j,⟨⟩,hj⟩ gs;refine ae.fk (b:=64) (Br.dec (λhlt=>?_) (λhlt=>?_))
 ·refine ae.iM (by simp[bG];omega) ?_;have hs:j>>>u<64:=xaA (xbo _ _) hlt;refine ae.jz (b:=1) (by simp[bG];omega) zD ?_;have h1:j>>>u&&&1<=1:=by rw[an.gx];split<;>decide
  refine aV.q (ae.nr ?_);have h2:((j>>>u&&&1)<<<j)<18446744073709551616:=by
   rw[xcn]
   calc _<=1*2^j:=xaV _ h1
    _<2^64:=by rw[xdj];exact xbt zD hlt
  rw[xbm h2];have h3:an.Bm u j<18446744073709551616:=xaO (an.Bl u j) (xay (n:=2) zD hj);exact ae.K7 (by simpa[bG]using h3) (by simpa[bG]using h2) (ae.inc (aC.mk ⟨rfl,j+1,rfl,by omega⟩ (by simp[bL];omega)))
 have:j=64:=by omega
 subst this;exact aZ.mk (.refl _) (by rw[xac h];rfl)
theorem uz{n:Nat}(hn:n<=16){fv:zV}{f:FuncId}{first cap:Array zV}(RT:fv=.func (.func f) first cap)(fP:aU zQ f=true){F:Nat->Nat}(hF:∀i,i<an.wN n->F i<18446744073709551616){B:Hp}
 (hc:∀i:Nat,i<an.wN n->Rd zQ f (first++ #[iv (i:Int)]++cap) B (· =.int .u64 ((F i:Nat):Int))):
  Px zQ 340 #[iv (n:Int),fv] B (λv H=>EO H v ⟨n,(List.range (an.wN n)).map λi=>F i&&&an.dK n⟩):=by
 intro g;have hwl:=an.yp hn;refine HQ (R:=aM _) ?_;unfold L340;intro b1 _;refine aa.eq (BU hn B) (cW.ints (kV hn).1 (kV hn).2 λbw=>?_);refine Build.mk (cs:=[iv (n:Int),.slice (some ⟨bw,0,none⟩) (an.wN n) (an.wN n)]) zK λb8 _=>?_;refine St.q ?_;refine ai.mk (Ld.mk zM rfl ?_);refine aR.mk ?_;rw[range_zero (G:=λi=>F i&&&an.dK n)];refine⟨λvs H=>∃i:Nat,vs=[iv (i:Int)]/\i<=an.wN n/\H=(b8,.cells (List.toArray [iv (n:Int),.slice (some ⟨bw,0,none⟩) (an.wN n) (an.wN n)]) 116 zZ)::
   (bw,.cells (av .u64 (iw ((List.range (an.wN n)).map λk=>if k<i then F k&&&an.dK n else 0))) 33 zZ)::(b1,.cells #[iv 0,.slice none 0 0] 116 zZ)::B,
  λvs _=>an.wN n-bL vs 0,JE.mk ⟨0,rfl,by omega,rfl⟩,?_⟩
 rintro w H ⟨i,⟨⟩,hi,rfl⟩ gs;refine ae.fk (Br.dec (λhlt=>?_) (λhlt=>?_))
 ·refine DR.self ?_;refine ai.mk (Ld.mk zM rfl ?_);refine aK.of RT fP ?_;refine aa.eq (hc i hlt) (⟨.refl _,?_⟩);refine aa.eq (Lw hn B) (⟨.refl _,?_⟩);refine ae.jz (by simpa[bG]using hF i hlt) (by simpa[bG]using an.rN n) (au.nat hlt ?_);refine St.ints (l:=iw _) (by exact .tail (.head _)) (by simpa using hlt) ?_;refine ae.inc ?_;rw[MT hlt];exact aC.mk ⟨i+1,rfl,by omega,rfl⟩ (by simp[bL];omega)
 have:i=an.wN n:=by omega
 subst this;rw[Fm];refine ax.q ?_;refine St.q ?_;refine ax.q ?_;refine GR.mk (by repeat (first|exact bV.refl _|apply bV.cons|apply bV.app)) ⟨_,rfl,?_⟩;have:=Words.block (b:=bw) (cap:=an.wN n) (ws:=(List.range (an.wN n)).map λi=>F i&&&an.dK n) (T:=33) (fz:=(0,0)) (B:=(b8,.cells (List.toArray [iv (n:Int),.slice (some ⟨bw,0,none⟩) (an.wN n) (an.wN n)]) 116 zZ)::
  (bw,.cells (av .u64 (iw ((List.range (an.wN n)).map λi=>F i&&&an.dK n))) 33 zZ)::(b1,.cells (List.toArray [iv (n:Int),.slice (some ⟨bw,0,none⟩) (an.wN n) (an.wN n)]) 116 zZ)::B) (by exact .tail _ (.head _)) zI (λw hw=>by
   obtain⟨k,_,rfl⟩:=xan.1 hw;exact xaA xc4 (an.rN n))
 simpa using this
theorem Sd{B:Hp}{pv pb pa s:zV}{u n i:Nat}{c:Bool}{ws:zL}(hv:Go.Sx.At B pv [iv (u:Int)])(hb:Go.Sx.At B pb [.bool c])(ha:Go.Sx.At B pa [iv (n:Int),s])(hw:Words B s ws)(hf:an.fg n ws)(hu:u<n)(hi:i<an.wN n):
  Rd zQ 396 #[iv (i:Int),pv,pb,pa] B (· =.int .u64 ((an.rK ws u c i:Nat):Int)):=by
 intro g;have hn:=hf.xU;have hwl:=an.yp hn;refine GZ (R:=aM _) ?_;unfold L396;refine Ld.at hv (λ_ h=>h) ?_;refine ae.qM (a:=u) (b:=6) (Br.dec (λh6=>?_) (λh6=>?_))
 ·have hp:2^(u-6)<=1024:=xay (n:=2) zD (by omega:u-6<=10);refine Ld.at hv (λ_ h=>h) ?_;refine ae.xO (b:=6) (by simp[bG];omega) h6 (ae.Ch (a:=1) (by simp[IntKind.bits];omega) (by rw[xa6];simp[bG];omega) ?_);rw[xa6];refine ae.Ei (by simp[bG];omega) (by simp[bG];omega) ?_;have hand:=m4 i (2^(u-6));intro J hJ;have abN:an.aB i (u-6) c<an.wN n:=by
   rw[an.KC zO]at hi⊢;exact an.gf hi zO
  have ic:JE J [iv ((an.aB i (u-6) c:Nat):Int)] B:=by
   refine JE.mk (hJ _ _ λgs=>?_);refine ai.at ha λq hq=>Ld.at hq (λ_ h=>h) ?_;have hg:ws[an.aB i (u-6) c]? =some (ws.getD (an.aB i (u-6) c) 0):=by rw[xaa (by rw[hf.len];exact abN),xap,xaa (by rw[hf.len];exact abN)];rfl
   refine hw.1.ld (cQ hg) (λ_ h=>h) ?_;exact aZ.mk (.refl _) (by unfold an.rK;rw[xad h6])
  refine Ld.at hb (λ_ h=>h) ?_;cases c
  ·exact Br.no ic
  refine Br.yes (Ld.at hv (λ_ h=>h) ?_);refine ae.xO (b:=6) (by simp[bG];omega) h6 (ae.Ch (a:=1) (by simp[IntKind.bits];omega) (by rw[xa6];simp[bG];omega) ?_);rw[xa6];refine ae.K7 (by simp[bG];omega) (by simp[bG];omega) ?_;have e:m5 i (2^(u-6))|||2^(u-6)=an.aB i (u-6) true:=by
   apply xaW;intro k;rw[xb1,dG,an.aj,xbX];by_cases e:k=u-6
   ·simp[e]
   simp[e,xba e]
  rw[e];exact ic
 have hp:2^u<=32:=xay (n:=2) zD (by omega:u<=5);have hg:ws[i]? =some (ws.getD i 0):=by rw[xaa (by rw[hf.len];exact hi),xap,xaa (by rw[hf.len];exact hi)];rfl
 have hwi:=hw.2 _ (xav hg);have hm:=an.rj u;refine DR.self (Ld.at hv (λ_ h=>h) (Ld.at hv (λ_ h=>h) ?_));refine ae.Ch (a:=1) (b:=u) (by simp[IntKind.bits];omega) (by rw[xa6];simp[bG];omega) ?_;rw[xa6];refine aa.eq (zN (u:=u) (i:=0) zO zO zO B) ?_;rw[xac h6];refine⟨.refl _,?_⟩;refine Ld.at hb (λ_ h=>h) ?_;cases c
 ·refine Br.no (ai.at ha λq hq=>Ld.at hq (λ_ h=>h) ?_);refine hw.1.ld (cQ hg) (λ_ h=>h) ?_;refine ae.Ei (by simpa[bG]using hwi) (by simpa[bG]using hm) (ae.nr ?_);have:=m4 (ws.getD i 0) (an.mask u);exact ae.K7 (by simp only[bG];omega) (by simp only[bG];omega) (aZ.mk (.refl _) (by unfold an.rK;rw[xac h6];rfl))
 refine Br.yes (ai.at ha λq hq=>Ld.at hq (λ_ h=>h) ?_);refine hw.1.ld (cQ hg) (λ_ h=>h) ?_;refine ae.jz (by simpa[bG]using hwi) (by simpa[bG]using hm) ?_;have h1:ws.getD i 0&&&an.mask u<=ws.getD i 0:=xch;refine ae.iM (by simp only[bG];omega) ?_;have h2:=xbo (ws.getD i 0&&&an.mask u) (2^u);exact ae.K7 (by simp only[bG];omega) (by simp only[bG];omega) (aZ.mk (.refl _) (by unfold an.rK;rw[xac h6];rfl))
theorem Bc{B:Hp}{v:zV}{n u:Nat}{ws:zL}{c:Bool}(ht:EO B v ⟨n,ws⟩)(hf:an.fg n ws)(hu:u<n):
  Px zQ 387 #[v,iv (u:Int),.bool c] B (λv H=>EO H v ⟨n,an.iK n ws u c⟩):=by
 obtain⟨s,rfl,hw⟩:=ht;refine aF λg=>G8 λb1 _ b3 _ b5 _ b7 _=>?_;refine ai.mk (Ld.mk zM rfl ?_);refine aa.px (.cons .here) (uz hf.xU rfl zK (F:=λi=>an.rK ws u c i) (λi hi=>?_) (λi hi=>?_)) ?_
 ·unfold an.rK;split
  ·by_cases h:an.aB i (u-6) c<ws.length
   ·rw[xap,xaa h];exact hf.lt (xaF h)
   rw[xap,xaE zO];decide
  have hg:ws.getD i 0<2^64:=by rw[xap,xaa (by rw[hf.len];exact hi)];exact hf.lt (xaF _)
  split
  ·refine xbF (n:=64) (xaA xch hg) (xaA (xbo _ _) (xaA xch hg))
  exact xbF (n:=64) (xaA (m4 _ _) hg) (xbv _ zD)
 ·exact Sd (Go.Sx.At.block (l:=[iv (u:Int)]) zM) (Go.Sx.At.block (l:=[.bool c]) zM) (Go.Sx.At.block (l:=[iv (n:Int),s]) zM) (hw.mono zS) hf hu hi
 rintro v N ⟨s',rfl,eU⟩;refine St.p ?_ ?_
 ·have:=bO eU;simpa[Value.oneCell']using this
 refine ax.q ?_;exact GR.mk (by repeat (first|exact bV.refl _|apply bV.cons|apply bV.app)) ⟨s',rfl,eU.mono zS⟩
theorem KH{B:Hp}{v:zV}{n u:Nat}{ws:zL}{c:Bool}(ht:EO B v ⟨n,ws⟩)(hf:an.fg n ws)(hu:u<n):
  Px zQ 398 #[v,iv (u:Int),.bool c] B (λr H=>∃v',r=.tuple #[v',iv 0]/\EO H v' ⟨n,an.iK n ws u c⟩):=by
 obtain⟨s,rfl,hw⟩:=ht;refine aF λg=>GX λb1 _ b3 _=>?_;refine ax.q ?_;refine aa.eq (abk (t:=⟨n,ws⟩) ⟨s,rfl,hw.mono zS⟩ (u:Int)) ?_;rw[xad (show TF ⟨(n:Int),ws⟩from⟨by simp,by simpa using hf⟩),xad ⟨by omega,by simp only;omega⟩];refine ae.cD (Br.F (ax.q ?_));refine aa.pq (Bc (v:=.agg (List.toArray [iv (n:Int),s])) ⟨s,rfl,hw.mono zS⟩ hf hu) ?_;rintro v N ⟨s',rfl,eU⟩;refine St.p ?_ ?_
 ·have:=bO eU;simpa[Value.oneCell']using this
 refine ax.q ?_;exact GR.mk (by repeat (first|exact bV.refl _|apply bV.cons|apply bV.app)) ⟨_,rfl,s',rfl,eU.mono zS⟩
theorem D8{w j:Nat}(hj:j<8):((List.range (j+1)).map λi=>UInt8.ofNat (w>>>(8*i)))=((List.range j).map λi=>UInt8.ofNat (w>>>(8*i)))++[UInt8.ofNat (w>>>(8*j))]:=by
 rw[xb6,xaJ];rfl
theorem Oc(l:List UInt8)(n:Nat):s6 (l++[UInt8.ofNat n])=s6 l++[[Value.int .u8 ((n%256:Nat):Int)]]:=by
 simp[s6]
theorem FP{B:Hp}{v:zV}{t:Tb}(ht:EO B v t)(hl:t.ws.length<=4294967296):Rd zQ 399 #[v] B (· =Ax (an.ia t.ws)):=by
 obtain⟨s,rfl,hw⟩:=ht;refine aF λg=>GW λb1 _=>?_;refine ai.mk (Ld.mk zM rfl ?_);refine hw.1.bP ?_;rw[ak];refine⟨λvs H=>∃(k:Nat) (v:zV) (C:Hp),vs=[v,iv (k:Int)]/\k<=t.ws.length/\H=C++B/\bg 5 1 v (s6 (an.ia (t.ws.take k))) C,λvs _=>t.ws.length-bL vs 1,
  JE.of (.tail) ⟨0,_,[],rfl,by omega,rfl,bg.nil _ _⟩,?_⟩
 rintro w6 w7 H ⟨k,v,C,⟨⟩,hk,rfl,ho⟩ gs;refine ae.fk (Br.dec (λhlt=>?_) (λhlt=>?_))
 ·have hg:t.ws[k]? =some t.ws[k]:=xaa hlt;have hwk:=hw.2 _ (xaF hlt);refine hw.1.ld (cQ hg) zS ?_;have hlen:(s6 (an.ia (t.ws.take k))).length=8*k:=by simp only[s6,xaC,an.tB,xbz];omega
  refine⟨λvs H=>∃(j:Nat) (v:zV) (C:Hp),vs=[v,iv (j:Int)]/\j<=8/\H=C++B/\bg 5 1 v (s6 (an.ia (t.ws.take k)++(List.range j).map λi=>UInt8.ofNat (t.ws[k]>>>(8*i)))) C,λvs _=>8-bL vs 1,
   JE.mk ⟨0,_,C,rfl,by omega,rfl,by simpa using ho⟩,?_⟩
  rintro w8 w9 H ⟨j,v,C,⟨⟩,hj,rfl,ho⟩ gs;refine ae.fk (b:=8) (Br.dec (λh8=>?_) (λh8=>?_))
  ·refine ae.xW (a:=8) (ae.iM (by simpa[bG]using hwk) (aV.aho (az.int (e:=5) zK zK zK λxb=>?_)));refine ho.GL (A:=[_]) (r:=[Value.int .u8 (((t.ws[k]>>>(8*j))%256:Nat):Int)]) (by exact .head _) rfl (by simp[Value.oneCell']) ⟨[.int .u8 0],rfl,rfl⟩ (by simp only[s6,xaC,xaf,xaz]at hlen⊢;omega) (by simp only[s6,xaC,xaf,xaz]at hlen⊢;omega) λv' C' cA=>?_;refine ae.inc (aC.of .tail ⟨j+1,_,C',rfl,by omega,rfl,?_⟩ (by simp[bL];omega));rw[D8 h8,<-xaj,Oc];exact cA
  have:j=8:=by omega
  subst this;refine ae.inc (aC.mk ⟨k+1,_,C,rfl,by omega,rfl,?_⟩ (by simp[bL];omega));rw[xa9 hlt,an.ia,List.flatMap_append];simpa[an.ia,an.kV]using ho
 have:k=t.ws.length:=by omega
 subst this;rw[xbl]at ho;refine kY.own ho (λ_ h=>xae _ h) ?_;exact aZ.mk .right rfl
theorem ZZ{B:Hp}{b n:Nat}{es:Array MapEntry}{ck:Nat}{m:List (List UInt8×zL)}{v:zV}{ws:zL}(hE:gG n B es ck m)(ht:EO B v ⟨n,ws⟩)(hf:an.fg n ws):
  Fc zQ 397 #[.map (some b),v] ((b,.map es ck)::B) (λ_ H=>∃es' bB N,H=(b,.map es' bB)::(N++B)/\gG n (N++B) es' bB (Av m ws)):=by
 obtain⟨s,rfl,hw⟩:=ht;refine aF λg=>GY λb1 _=>?_;refine DR.self (ax.q ?_);refine ax.q ?_;refine aa.eq (FP (t:=⟨n,ws⟩) ⟨s,rfl,hw⟩ (uF hf)) (⟨.refl _,?_⟩);refine hE.br (b:=b) ⟨s,rfl,hw⟩ hf λes' bB DE=>⟨_,.tail (.head _),?_⟩;exact aM.mk (nB:=(b,.map es' bB)::([]++B)) .tail ⟨es',bB,[],rfl,DE⟩
theorem M3{B:Hp}{v:zV}{n:Nat}{ts:List Tb}{L:List (zL)}(ht:jE B v ts)(hL:ts=L.map λws=>⟨n,ws⟩)(hf:∀ws∈L,an.fg n ws)(cJ:L.length<4611686018427387904):
  Fc zQ 388 #[v] B (λr H=>∃b es ck m N,r=.map (some b)/\H=(b,.map es ck)::(N++B)/\gG n (N++B) es ck m/\∀x,x∈m.map Prod.snd↔x∈L):=by
 have hlen:ts.length=L.length:=by rw[hL];simp
 refine aF λg=>G7 λb _=>?_;refine ht.bP ?_;rw[hlen];refine⟨λvs H=>∃(k:Nat) (es:Array MapEntry) (ck:Nat) (m:List (List UInt8×zL)) (N:Hp),vs=[iv (k:Int)]/\k<=L.length/\H=(b,.map es ck)::(N++B)/\gG n (N++B) es ck m/\∀x,x∈m.map Prod.snd↔x∈L.take k,
  λvs _=>L.length-bL vs 0,JE.mk ⟨0,_,_,[],[],rfl,by omega,rfl,gG.empty _ _,by simp⟩,?_⟩
 rintro w H ⟨k,es,ck,m,N,⟨⟩,hk,rfl,hE,hm⟩ gs;refine ae.fk (Br.dec (λhlt=>?_) (λhlt=>?_))
 ·have hg:ts[k]? =some ⟨n,L[k]⟩:=by rw[hL,xau,xaa hlt];rfl
  have pn:=hf L[k] (xaF hlt);refine ht.ld hg zS λs hw=>?_;intro b2 _;refine St.p ?_ ?_
  ·have:=bO hw;simpa[Value.oneCell']using this
  refine ax.q ?_;refine aa.fq (ZZ hE ⟨s,rfl,hw.mono zS⟩ pn) ?_;rintro r C' ⟨es',bB,N',rfl,DE⟩;refine ae.inc (aC.of .tail ⟨k+1,es',bB,Av m L[k],N'++N,rfl,by omega,by rw[xaj],by rw[xaj];exact DE,λx=>?_⟩ (by simp[bL];omega));rw[sn hE.2 pn,hm,xa9 hlt,xao,xaI]
 have:k=L.length:=by omega
 subst this;rw[xbl]at hm;exact aM.here ⟨b,es,ck,m,N,rfl,rfl,hE,hm⟩
theorem DJ{B:Hp}{bm n u:Nat}{es:Array MapEntry}{ck:Nat}{m:List (List UInt8×zL)}(hm:(bm,Obj.map es ck)∈B)(hE:gG n B es ck m)(hu:u<n)(cJ:m.length<4611686018427387904):
  Fc zQ 389 #[.map (some bm),iv (u:Int)] B (λr H=>∃b' es' bB m' N,r=.tuple #[.map (some b'),iv ((an.nodes n (m.map Prod.snd) u).length:Int)]/\H=(b',.map es' bB)::(N++B)/\gG n (N++B) es' bB m'/\
   ∀x,x∈m'.map Prod.snd↔∃t∈m.map Prod.snd,∃c,x=an.iK n t u c):=by
 refine aF λg=>G6 ?_;intro b' _;refine .inr ⟨bm,es,ck,rfl,.tail _ hm,λbi _=>?_⟩;refine⟨λvs H=>∃(es':Array MapEntry) (bB:Nat) (m':List (List UInt8×zL)) (seen:Array Nat) (N:Hp) (D:List (zL)),vs=[iv ((an.nodes n D u).length:Int)]/\
   H=(bi,.mapIter (some bm) ck seen ck)::(b',.map es' bB)::(N++B)/\gG n (N++B) es' bB m'/\(m.map Prod.snd).Perm (D++(bS es m seen).map Prod.snd)/\∀x,x∈m'.map Prod.snd↔∃t∈D,∃c,x=an.iK n t u c,
  λvs H=>match H with|(_,.mapIter _ _ seen _)::_=>(bS es m seen).length|_=>0,JE.mk ⟨_,_,[],_,[],[],rfl,rfl,gG.empty _ _,?_,by simp⟩,?_⟩
 ·rw[mz hE.1];simp
 rintro w H ⟨es',bB,m',seen,N,D,⟨⟩,rfl,DE,dc,hmem⟩ gs;have hbm:∀{X:Hp},(bm,Obj.map es ck)∈X++B:=xab _ hm;refine hE.1.next (.tail _ (.tail _ hbm)) (.head _) (λe x seen' he hkey hval hstep acG hfind=>⟨_,.head _,?_⟩) (λF3=>?_)
 ·obtain⟨bs,ws⟩:=x;simp only at hval hkey;refine Ext.mk rfl (Br.yes (⟨bi,bm,ck,seen',e.born,ck,es,e,rfl,.head _,acG,.tail _ (.tail _ hbm),hfind,?_⟩));refine Ext.mk rfl ?_;have hx:(bs,ws)∈m:=by
   have h:=hstep.mem_iff.2 (xbS (a:=(bs,ws)));unfold bS at h;obtain⟨p,hp,kT⟩:=xan.1 h;rw[<-kT];exact(xdA (xbV.1 hp).1).2
  obtain⟨hbs,hf⟩:=hE.2 _ hx;simp only at hbs hf;obtain⟨s,hes,hw⟩:=hval;rw[hes];have hone:=bO hw;intro b1 _;refine St.p (by simpa[Value.oneCell']using hone) ?_;refine ax.q ?_;refine aa.pq (B:=N++B) (KH (n:=n) (ws:=ws) ⟨s,rfl,hw.mono zS⟩ hf hu) ?_;rintro r N1 ⟨v1,rfl,s1,rfl,ju⟩;have abX:=bO ju;refine Ext.two λb2 _=>(St.p (by simpa[Value.oneCell']using abX) ?_);refine ax.q ?_;refine aa.pq (B:=N1++(N++B)) (KH (n:=n) (ws:=ws) ⟨s,rfl,hw.mono zS⟩ hf hu) ?_;rintro r N2 ⟨v2,rfl,s2,rfl,pH⟩;have abW:=bO pH;refine Ext.two λb3 _=>(St.p (by simpa[Value.oneCell']using abW) ?_);refine DR.self (ax.q ?_);refine ax.q ?_;have f1:=an.eB (v:=u) (ws:=ws) (b:=false) hf.xU;have f2:=an.eB (v:=u) (ws:=ws) (b:=true) hf.xU;refine aa.eq (B:=N2++(N1++(N++B))) (FP (t:=⟨n,an.iK n ws u false⟩) ⟨s1,rfl,ju.mono zS⟩ (uF f1)) (⟨.refl _,?_⟩);refine aa.eq (B:=N2++(N1++(N++B))) (FP (t:=⟨n,an.iK n ws u true⟩) ⟨s2,rfl,pH⟩ (uF f2)) (⟨.refl _,?_⟩);intro J hJ;have A8:(an.ia (an.iK n ws u false)≠an.ia (an.iK n ws u true))↔an.dep n ws u=true:=by
   simp only[an.dep,ne_eq,xar];exact not_congr ⟨λh=>f1.key_inj f2 h,λh=>by rw[h]⟩
  have ic:JE J [iv ((an.nodes n (D++[ws]) u).length:Int)] ((b3,.cells (List.toArray [iv (n:Int),s2]) 116 zZ)::(b2,.cells (List.toArray [iv (n:Int),s1]) 116 zZ)::
    (b1,.cells (List.toArray [iv (n:Int),s]) 116 zZ)::(bi,.mapIter (some bm) ck seen' ck)::(b',.map es' bB)::(N2++(N1++(N++B)))):=by
   refine JE.mk (hJ _ _ λgs=>?_);refine DR.of (R:=(b3,.cells (List.toArray [iv (n:Int),s2]) 116 zZ)::(b2,.cells (List.toArray [iv (n:Int),s1]) 116 zZ)::[]) ?_ ?_
   ·exact .cons (.cons (λg w h=>(Own.left (B:=_) (A:=[]) h)))
   refine ax.q ?_;refine ax.q ?_;have sQ:=DE.mono (B':=N2++(N1++(N++B))) zS;refine sQ.br (b:=b') (ws:=an.iK n ws u false) ⟨s1,rfl,ju.mono zS⟩ f1 λgV iE Pr=>⟨_,.tail (.tail (.tail (.tail (.head _)))),?_⟩;refine⟨.cons (.cons (λg w h=>(Own.left (B:=_) (A:=[]) h))),?_⟩;refine Pr.br (b:=b') (ws:=an.iK n ws u true) ⟨s2,rfl,pH⟩ f2 λo5 qN hE4=>⟨_,.tail (.tail (.tail (.tail (.head _)))),?_⟩;refine aC.of (H':=(bi,.mapIter (some bm) ck seen' ck)::(b',.map o5 qN)::((N2++(N1++N))++B)) ?_ ⟨o5,qN,Av (Av m' (an.iK n ws u false)) (an.iK n ws u true),seen',N2++(N1++N),D++[ws],rfl,rfl,?_,?_,λx=>?_⟩ ?_
   ·refine .skip (.skip (.skip (.cons (.cons ?_))));intro g w h;rw[xaj,xaj];exact h
   ·rw[xaj,xaj];exact hE4
   ·refine dc.trans ?_;refine(xbZ D (hstep.map Prod.snd)).trans ?_;simp only[xaB,xaj,xaR,xb5];exact .refl _
   ·rw[sn Pr.2 f2,sn sQ.2 f1,hmem];constructor
    ·rintro((⟨t,ht,c,rfl⟩|rfl)|rfl)
     ·exact⟨t,by simp[ht],c,rfl⟩
     ·exact⟨ws,by simp,_,rfl⟩
     exact⟨ws,by simp,_,rfl⟩
    rintro⟨t,ht,c,rfl⟩;rcases xao.1 ht with ht|ht
    ·exact .inl (.inl ⟨t,ht,c,rfl⟩)
    simp at ht;subst ht;cases c
    ·exact .inl (.inr rfl)
    exact .inr rfl
   have:=hstep.length_eq;simp only[xaH]at this⊢;omega
  refine ae.aa6 (Br.dec (λh=>?_) (λh=>?_))
  ·refine ae.WL (b:=1) ?_ ?_
   ·have h1:=dc.length_eq;simp only[xaC,xaf]at h1;have h2:(an.nodes n D u).length<=D.length:=xbO _ _;simp[bG];omega
   have:(an.nodes n (D++[ws]) u).length=(an.nodes n D u).length+1:=by
    simp[an.nodes,xbJ,A8.1 h]
   rw[this]at ic;exact ic
  have:(an.nodes n (D++[ws]) u).length=(an.nodes n D u).length:=by
   have hd:an.dep n ws u=false:=by cases hh:an.dep n ws u;rfl;exact absurd (A8.2 hh) h
   simp[an.nodes,xbJ,hd]
  rw[this]at ic;exact ic
 refine Ext.mk rfl (Br.no ?_);rw[F3]at dc;simp only[xck,xaL]at dc;refine aM.mk (nB:=(b',.map es' bB)::(N++B)) .tail ⟨b',es',bB,m',N,?_,rfl,DE,λx=>?_⟩
 ·rw[an.mK dc]
 rw[hmem];constructor
 ·rintro⟨t,ht,h⟩;exact⟨t,dc.mem_iff.2 ht,h⟩
 rintro⟨t,ht,h⟩;exact⟨t,dc.mem_iff.1 ht,h⟩
theorem ML{B:Hp}{v:zV}{ts:List Tb}(ht:jE B v ts)(cJ:ts.length<2^62):Rd zQ 385 #[v] B (· =.bool (decide (∀t∈ts,TF t/\some t.n=ts.head?.map Tb.n))):=by
 intro g;refine He (R:=aM _) ?_;unfold L385;refine ht.bP ?_;refine⟨λvs H=>bV B H/\∃k:Nat,vs=[iv (k:Int)]/\k<=ts.length/\∀i t,i<k->ts[i]? =some t->TF t/\some t.n=ts.head?.map Tb.n,λvs _=>ts.length-bL vs 0,JE.mk ⟨.refl _,0,rfl,by omega,by omega⟩,?_⟩;rintro w H ⟨hg,k,hv,hk,aI⟩ gs;simp only[xaw,xa2]at hv;subst hv;refine ae.fk (Br.dec (λhlt=>?_) (λhlt=>?_))
 ·obtain⟨t,nv⟩:∃t,ts[k]? =some t:=⟨_,xaa hlt⟩;obtain⟨t0,VG⟩:∃t,ts[0]? =some t:=⟨_,xaa zO⟩;have hh:ts.head?.map Tb.n=some t0.n:=by rw[List.head?_eq_getElem?,VG];rfl
  have htB:=ht.mono hg.sub;refine htB.ld nv (λ_ h=>h) λs hs=>?_;intro b1 _;refine St.whole (r:=[iv t.n,s]) (by exact c8.head _) rfl rfl ?_ ?_
  ·obtain⟨a,c,rfl,_⟩:=hs.1.shape;simp[Value.oneCell']
  intro J hJ;have hno:∀H',bV B H'->¬(TF t/\some t.n=ts.head?.map Tb.n)->JE J [.bool true] H':=λH' XB h=>
   JE.mk (hJ _ _ λgs=>Br.yes (aZ.mk XB.dL (by rw[xai];exact λhh=>h (hh t (xav nv)))))
  have TX:bV B ((b1,Obj.cells (List.toArray [iv t.n,s]) 116 zZ)::H):=.cons hg;refine DR.self ?_;refine ax.whole (r:=[iv t.n,s]) (by exact List.Mem.head _) rfl ?_;intro F;refine aa.rd (B:=H) (.cons .here) (DM ⟨s,rfl,hs⟩) ?_;rintro v rfl;refine⟨.refl _,Un.not ?_⟩;by_cases hT:TF t
  case neg=>rw[xai hT];exact Br.yes (hno _ TX λh=>hT h.1)
  rw[xal hT];apply Br.no;refine ai.mk (Ld.mk zM rfl ?_);refine htB.ldN VG zS ?_;refine ae.cD (aD.mk ?_);simp only[xah];by_cases hn:t.n=t0.n
  case neg=>rw[xal hn];exact hno _ TX λh=>hn (by have:=h.2;rw[hh]at this;simpa using this)
  rw[xai (by simpa using hn)];refine JE.mk (hJ _ _ λgs=>Br.no ?_);refine ae.WL (b:=1) (by simp[bG];omega) ?_;refine aC.mk ⟨TX,k+1,rfl,by omega,λi u hi hu=>?_⟩ (by simp[bL];omega);by_cases e:i=k
  ·subst e;rw[nv]at hu;cases hu;exact⟨hT,by rw[hh,hn]⟩
  exact aI i u zO hu
 refine aZ.mk hg.dL ?_;rw[xal];intro t htm;obtain⟨i,hi,rfl⟩:=xbd.1 htm;exact aI i _ zO (xaa hi)
def rZ(ts:List Tb):Prop:=∀t∈ts,TF t/\some t.n=ts.head?.map Tb.n
instance (ts:List Tb):Decidable (rZ ts):=by unfold rZ;infer_instance
theorem ve{B:Hp}{v:zV}{ts:List Tb}(ht:jE B v ts)(cJ:ts.length<2^62):Rd zQ 385 #[v] B (· =.bool (decide (rZ ts))):=ML ht cJ
theorem CK{n:Nat}{L:List (zL)}(hf:∀ws∈L,an.fg n ws):rZ (L.map λws=>⟨n,ws⟩):=by
 intro t ht;obtain⟨ws,hws,rfl⟩:=xan.1 ht;refine⟨⟨by simp,by simpa using hf ws hws⟩,?_⟩;cases L with
 |nil=>simp at hws
 |cons a b=>rfl
theorem K9{ts:List Tb}(h:rZ ts)(hne:ts≠[]):∃(n:Nat) (L:List (zL)),n<=16/\ts=L.map (λws=>⟨n,ws⟩)/\L≠[]/\∀ws∈L,an.fg n ws:=by
 cases ts with
 |nil=>exact absurd rfl hne
 |cons t r=>
  have ht:=(h t zI).1;have hn:∀u∈t::r,u.n=t.n:=λu hu=>by have:=(h u hu).2;simpa using this
  refine⟨t.n.toNat,(t::r).map Tb.ws,ht.2.xU,?_,by simp,λws hws=>?_⟩
  ·rw[xb2]
   conv=>lhs;rw[<-xey (t::r)]
   apply xbq;intro u hu;have h1:=hn u hu;have h2:=ht.1;obtain⟨un,uw⟩:=u;simp only[Function.comp,id]at h1⊢;congr 1;omega
  obtain⟨u,hu,rfl⟩:=xan.1 hws;have:=(h u hu).1.2;rwa [hn u hu]at this
end
end Go.Proofs
namespace aA
theorem Rm.sS(m:Rm):∀ls ord,m.dJ 0 ls ord=ls.take (m.dJ 0 ls ord).length
 | [],_=>rfl
 |c::cs,ord=>by
  by_cases hf:m.fit ord (0+c)=true
  ·have:=m.sS cs (fM ord (0+c));rw[dJ,xad hf,xaH,List.take_succ_cons,<-this,xa3]
  rw[dJ,xac hf];simp
def Rm.can(m:Rm)(ord ls:zL):Bool:=decide ((m.dJ 0 ls ord).length=ls.length)
theorem Rm.Sr(m:Rm){ord ls:zL}{i:Nat}(hi:i<(m.dJ 0 ls ord).length){l:Nat}(hl:ls[i]? =some l):m.fit (ay ord (ls.take i)) l=true:=by
 obtain⟨_,c,h1,h2⟩:=m.rL 0 ls ord i hi;rw[hl]at h1;cases h1;rw[m.sS,List.take_take,xcB (xb9 hi),xa3]at h2;exact h2
theorem Rm.NL(m:Rm){ord ls:zL}{l:Nat}(hl:ls[(m.dJ 0 ls ord).length]? =some l):m.fit (ay ord (ls.take (m.dJ 0 ls ord).length)) l=false:=by
 have:=m.wo 0 ls ord l hl;rw[xa3]at this;rw[<-m.sS];exact this
def road(a b:Nat):zL:=List.range' a (b-a)++(List.range' b (a-b)).reverse
theorem vg(a b:Nat):(road a b).length=(b-a)+(a-b):=by simp[road]
theorem Qw{a b l n:Nat}(ha:a<n)(hb:b<n)(h:l∈road a b):l+1<n:=by
 unfold road at h;rcases xao.1 h with h|h
 ·rw[xej]at h;omega
 rw[List.mem_reverse,xej]at h;omega
theorem kB{α:Type}[DecidableEq α]:∀{l p:List α},l.Nodup->(∀x∈l,x∈p)->p.length<=l.length->l.Perm p
 | [],p,_,_,h=>by
  have:p=[]:=xda.1 (by simpa using h);subst this;exact .refl _
 |x::t,p,hn,hs,hl=>by
  have hx:=hs x zI;have hp:=List.perm_cons_erase hx;have hlen:(p.erase x).length=p.length-1:=List.length_erase_of_mem hx;have hpos:=List.length_pos_of_mem hx;refine(List.Perm.cons x (kB (xaX.1 hn).2 (λy hy=>?_) (by simp only[xaH]at hl;omega))).trans hp.symm;refine(List.mem_erase_of_ne λe=>?_).2 (hs y (by simp[hy]));subst e;exact(xaX.1 hn).1 hy
end aA
set_option maxRecDepth 100000
namespace Go.Proofs
open Go Go.Sx
open aA
theorem Dp{l:zL}(h:l.Nodup):(iw l).Nodup:=xcc.2 (h.imp λhne e=>hne (Int.ofNat.inj e))
theorem ta{p:List Int}:tN p↔p.Perm (iw (List.range p.length)):=by
 constructor
 ·intro h;refine(kB (Dp xbn) (λx hx=>?_) (by rw[ak,xaz];exact xag _)).symm;obtain⟨k,hk,rfl⟩:=xan.1 hx;exact h k (xaM.1 hk)
 intro h v hv;exact h.mem_iff.2 (xan.2 ⟨v,xaM.2 hv,rfl⟩)
theorem Ts{p:List Int}(hn:p.Nodup)(h:∀x∈p,0<=x/\x<(p.length:Int)):tN p:=by
 refine ta.2 (kB hn (λx hx=>?_) (by rw[ak,xaz];exact xag _));obtain⟨h1,h2⟩:=h x hx;exact xan.2 ⟨x.toNat,xaM.2 zO,by show((x.toNat:Nat):Int)=x;omega⟩
theorem Tt{p:List Int}(h:tN p){x:Int}(hx:x∈p):0<=x/\x<(p.length:Int):=by
 have:=(ta.1 h).mem_iff.1 hx;obtain⟨k,hk,rfl⟩:=xan.1 this;have:=xaM.1 hk;show(0:Int)<=(k:Int)/\(k:Int)<_;omega
theorem El{p:List Int}(h:tN p):p.Nodup:=(ta.1 h).nodup_iff.2 (Dp xbn)
theorem Qj{p:List Int}{i n W:Nat}(hi:i<p.length)(hn:p[i]=(n:Int))(hw:n<W):((List.range W).map λk=>decide (((k:Nat):Int)∈p.take i)).set n true=(List.range W).map λk=>decide (((k:Nat):Int)∈p.take (i+1)):=by
 apply xbg;intro j;rw[xa9 hi,hn];by_cases hj:j<W
 ·by_cases e:n=j
  ·subst e;rw[xbK (by simpa using hw)];simp[hw]
  rw[xbI e];simp only[xau,xc7 hj,xci,xao,xaI];congr 1;have:¬((j:Nat):Int)=(n:Int):=by omega
  simp[this]
 rw[xaE zP,xaE zP]
theorem MI{p:List Int}{W:Nat}:List.replicate W false=(List.range W).map λk=>decide (((k:Nat):Int)∈p.take 0):=by
 apply xbg;intro j;by_cases hj:j<W
 ·simp[hj]
 rw[xaE zP,xaE zP]
theorem sD{B:Hp}{v:zV}{p:List Int}(h:dz .i64 B v p)(cJ:p.length<=70368744177664):Rd zQ 283 #[v] B (λr=>(r=iv 0/\tN p/\p.length<=64)\/(r=iv 13/\tN p/\64<p.length)\/(r=iv 4/\¬tN p)):=by
 refine aF λg=>IB (h.bP (cW.Ta zO λb=>h.bP ?_));rw[MI (p:=p)];refine⟨λvs H=>∃i:Nat,vs=[iv (i:Int)]/\H=(b,.cells (fw ((List.range p.length).map λk=>decide (((k:Nat):Int)∈p.take i))) 4 zZ)::B/\i<=p.length/\(p.take i).Nodup/\∀x∈p.take i,0<=x/\x<(p.length:Int),λvs _=>p.length-bL vs 0,
  JE.mk ⟨0,rfl,rfl,xaN _,by simp,by simp⟩,?_⟩
 rintro w H ⟨i,⟨⟩,rfl,hi,fO,hin⟩ gs;refine ae.fk (Br.dec (λhlt=>?_) (λhlt=>?_))
 ·refine h.ld (xaa hlt) (λ_ h=>.tail _ h) ?_;obtain⟨x,hx⟩:∃x,p[i]=x:=⟨_,rfl⟩;have hxm:x∈p:=by rw[<-hx];exact xaF hlt
  rw[hx];have hB:=Ex.block (b:=b) (cap:=p.length) (l:=(List.range p.length).map λk=>decide (((k:Nat):Int)∈p.take i)) (T:=4) (fz:=(0,0)) (B:=(b,.cells (fw ((List.range p.length).map λk=>decide (((k:Nat):Int)∈p.take i))) 4 zZ)::B) (.head _) zI;rw[xaC,xaz]at hB;refine ae.lss (cm.or (decide ((p.length:Int)<=x)) (λ_=>h.bP (ae.geq ⟨rfl,rfl⟩)) zI λgs=>?_);rw[<-xa8];refine cm.or (decide (x∈p.take i)) (λhno=>?_) zI λgs=>?_
  ·have Dw:=xdf hno;obtain⟨n,rfl⟩:∃n:Nat,x=n:=⟨x.toNat,by omega⟩;refine hB.ld (b:=decide (((n:Nat):Int)∈p.take i)) ?_ (λ_ h=>h) ⟨rfl,rfl⟩;rw[xau,xc7 zO];rfl
  rw[<-xa8];refine Br.dec (λagu=>aZ.mk .tail (.inr (.inr ⟨rfl,λha=>?_⟩))) (λaco=>?_)
  ·have h1:=Tt ha hxm;rcases agu with hb|hb
   ·omega
   have h2:=El ha;rw[<-xbk i p,xa5]at h2;refine h2.2.2 x hb x ?_ rfl;rw[xbc hlt,hx];exact .head _
  obtain⟨n,rfl⟩:∃n:Nat,x=n:=⟨x.toNat,by omega⟩;refine au.nat zO ?_;refine St.Ta (l:=(List.range p.length).map λk=>decide (((k:Nat):Int)∈p.take i)) (.head _) zP ?_;rw[Qj hlt hx zO];refine ae.inc (aC.mk ⟨i+1,rfl,rfl,hlt,?_,λx FX=>?_⟩ (by simp only[bL];omega))
  ·rw[xa9 hlt,hx,xa5];exact⟨fO,by simp,λa ha b hb e=>by simp at hb;subst hb;subst e;exact aco (.inr ha)⟩
  rw[xa9 hlt,hx,xao,xaI]at FX;rcases FX with FX|rfl
  ·exact hin x FX
  omega
 obtain rfl:i=p.length:=by omega
 rw[xbl]at fO hin;have aI:=Ts fO hin;refine h.bP (ae.nh (b:=64) (Br.dec (λhg=>aZ.mk .tail (.inr (.inl ⟨rfl,aI,hg⟩))) (λhg=>aZ.mk .tail (.inl ⟨rfl,aI,by omega⟩))))
theorem MF{B:Hp}{v:zV}{p:List Int}{x:Int}(h:dz .i64 B v p)(cJ:p.length<4611686018427387904):Rd zQ 351 #[v,iv x] B (· =iv (if x∈p then((p.idxOf x:Nat):Int)else-1)):=by
 refine aF λg=>HD (h.bP ?_);refine⟨λvs H=>∃i:Nat,vs=[iv (i:Int)]/\H=B/\i<=p.length/\x∉p.take i,λvs _=>p.length-bL vs 0,JE.mk ⟨0,rfl,rfl,xaN _,by simp⟩,?_⟩;rintro w H ⟨i,⟨⟩,rfl,hi,hq⟩ gs;refine ae.fk (Br.dec (λhlt=>?_) (λhlt=>?_))
 ·refine h.ld (xaa hlt) (λ_ h=>h) ?_;refine ae.gI (Br.dec (λhe=>aZ.mk (.refl _) ?_) (λhe=>?_))
  ·rw[xad (by rw[he];exact xaF hlt),Rr hq hlt he.symm]
  refine ae.inc (aC.of (.refl _) ⟨i+1,rfl,rfl,hlt,?_⟩ (by simp only[bL];omega));rw[xa9 hlt,xao,xaI];rintro(h|h)
  ·exact hq h
  exact he h
 refine aZ.mk (.refl _) ?_;rw[xdl zO]at hq;rw[xac hq]
theorem WA{B:Hp}{v1 v2:zV}{p q:zL}{n:Nat}(h1:dz .i64 B v1 (iw p))(h2:dz .i64 B v2 (iw q))(hp:p.Perm (List.range n))(hq:q.Perm (List.range n))(hn:n<=64):Rd zQ 350 #[v1,v2] B (· =iv 0):=by
 have e1:p.length=n:=by rw[hp.length_eq,xaz]
 have e2:q.length=n:=by rw[hq.length_eq,xaz]
 refine aF λg=>HE (aa.rq (sD h1 (by rw[ak];omega)) ?_);rintro v (⟨rfl,_,_⟩|⟨_,_,hl⟩|⟨_,hno⟩);rotate_left
 ·rw[ak]at hl;omega
 ·exact absurd (wW hp) hno
 refine aa.rq (sD h2 (by rw[ak];omega)) ?_;rintro v (⟨rfl,_,_⟩|⟨_,_,hl⟩|⟨_,hno⟩);rotate_left
 ·rw[ak]at hl;omega
 ·exact absurd (wW hq) hno
 refine ae.gI (cm.or false (λ_=>ae.gI ⟨rfl,rfl⟩) rfl λgs=>?_);refine cm.or false (λ_=>?_) rfl λgs=>Br.no ?_
 ·refine h1.bP (h2.bP (ae.yL ⟨rfl,?_⟩));rw[ak,ak,xai zO]
 exact⟨.i64,0,0,rfl,rfl,aZ.mk (.refl _) rfl⟩
end Go.Proofs
namespace Go.Sx
open Go
section
variable {P:Program} {g:Gh} {H:Hp}
theorem az.Ys{t e:TypeId}{z:zV}{a b c d x y:zV}{K:zV->Hp->Prop}(h1:P.underlying t=some (.slice e))(h2:dO P e=some 2)(h3:fS P e=some z)
 (h:∀u,K (.slice (some ⟨u,0,Option.none⟩) 3 3) ((u,.cells (rows [[a,b],[c,d],[x,y]]) e zZ)::H)):az P t 3 [(0,.agg #[a,b]),(1,.agg #[c,d]),(2,.agg #[x,y])] H K:=by
 refine⟨rows [[a,b],[c,d],[x,y]],e,2,z,h1,h2,h3,by decide,?_,λb _=>h b⟩;have e1:Array.range (3*2)=#[0,1,2,3,4,5]:=rfl;simp[Instr.fill,Value.cells,rows,e1]
theorem bg.made{T:TypeId}{k b:Nat}(rs:List (List zV))(h:∀r∈rs,r.length=k):bg T k (.slice (some ⟨b,0,none⟩) rs.length rs.length) rs [(b,.cells (rows rs) T zZ)]:=
 .inr ⟨b,[],by simp,by simp,by simpa using h⟩
end
end Go.Sx
namespace aA
open an
variable {n:Nat} {F:Nat->Nat} {ws us rs:zL}
def yY(n:Nat)(F:Nat->Nat):zL:=(List.range (wN n)).map λi=>F i&&&dK n
theorem sH(hn:n<=16):fg n (yY n F):=by
 refine⟨hn,by simp[yY],λw hw=>?_⟩;obtain⟨i,_,rfl⟩:=xan.1 hw;exact xc4
theorem Nn{x:Nat}(hx:x<2^n):bit (yY n F) x=(F (x/64)).testBit (x%64):=by
 have hi:=Dh hx;unfold bit;have gT:(yY n F).getD (x/64) 0=F (x/64) &&&dK n:=by simp[yY,hi]
 rw[gT,xbj,mC];have hfb:decide (x%64<if 6<=n then 64 else 2^n)=true:=by
  rw[xar];split
  ·exact xbv _ zD
  have h1:2^n<=32:=xay (n:=2) zD (by omega:n<=5);omega
 rw[hfb,xdS]
theorem wz{f:Fn}(h:∀x,x<2^n->(F (x/64)).testBit (x%64)=f x)(hf:∀x,f (x%2^n)=f x):py n (yY n F)=f:=by
 funext x
 unfold py;have hx:x%2^n<2^n:=xbv _ (xbs n);rw[Nn hx,h _ hx,hf]
theorem Bh(x:Nat):py n ws (x%2^n)=py n ws x:=by unfold py;rw[Nat.mod_mod]
theorem uM{x:Nat}(hx:x<2^n):(ws.getD (x/64) 0).testBit (x%64)=py n ws x:=by
 unfold py bit;rw[xbm hx]
theorem CJ{j:Nat}(hj:j<64):(18446744073709551615:Nat).testBit j=true:=by
 have:(18446744073709551615:Nat)=2^64-1:=by decide
 rw[this,xcO];simpa using hj
theorem U2{w j:Nat}(hw:w<18446744073709551616)(hj:j<64):(18446744073709551615-w).testBit j= !w.testBit j:=by
 have e:(18446744073709551615-w)=2^64-(w+1):=by
  have:(2:Nat)^64=18446744073709551616:=by decide
  omega
 rw[e,xea (by
  have:(2:Nat)^64=18446744073709551616:=by decide
  omega)]
 simp[hj]
end aA
set_option maxRecDepth 100000
namespace Go.Proofs
open Go Go.Sx
section
open aA
section
variable {B:Hp}
def kg(B:Hp)(v:zV)(n:Nat)(f:aA.Fn):Prop:=∃ws,EO B v ⟨n,ws⟩/\an.fg n ws/\py n ws=f
theorem kg.mono{B B':Hp}{v:zV}{n:Nat}{f:aA.Fn}(h:kg B v n f)(hs:∀x∈B,x∈B'):kg B' v n f:=let ⟨ws,h1,h2,h3⟩:=h;⟨ws,h1.mono hs,h2,h3⟩
theorem D1{n:Nat}(hn:n<=16)(B:Hp):Rd zQ 339 #[iv (n:Int)] B (· =iv 0):=by
 exact aF λg=>HR (ae.lss (Br.F (ae.nh (b:=16) (Br.F (aZ.mk (.refl _) rfl)))))
theorem E3{b:Bool}{p:zV}{i:Int}(hb:Go.Sx.At B p [.bool b]):Rd zQ 341 #[iv i,p] B (· =.int .u64 (((if b then 18446744073709551615 else 0:Nat)):Int)):=by
 refine aF λg=>HP (Ld.at hb (λ_ h=>h) ?_);cases b
 ·exact Br.no (aZ.mk (.refl _) rfl)
 exact Br.yes (aZ.mk (.refl _) rfl)
theorem yu{n:Nat}(hn:n<=16)(b:Bool)(B:Hp):Px zQ 275 #[iv (n:Int),.bool b] B (λr H=>∃v,r=.tuple #[v,iv 0]/\kg H v n (λ_=>b)):=by
 refine aF λg=>IJ λb1 _ b3 _=>?_;refine aa.eq (D1 hn _) (ae.cD (Br.F (aa.pq (uz hn rfl zK (F:=λ_=>if b then 18446744073709551615 else 0) (λi _=>by cases b<;>decide) (B:=(b1,.cells #[.bool b] 4 zZ)::B) λi _=>E3 (Go.Sx.At.block (l:=[.bool b]) zM)) ?_)));rintro v N ⟨s,rfl,hw⟩;refine St.p ?_ ?_
 ·have:=bO hw;simpa[Value.oneCell']using this
 refine ax.q ?_;refine GR.mk (by repeat (first|exact bV.refl _|apply bV.cons|apply bV.app)) ⟨_,rfl,_,⟨s,rfl,hw.mono zS⟩,sH hn,wz (λx hx=>?_) (λx=>rfl)⟩;cases b
 ·exact xcL _
 exact CJ (xbv _ zD)
theorem PK{v i:Nat}{p:zV}(hv:v<64)(hi:i<9223372036854775808)(hb:Go.Sx.At B p [iv (v:Int)]):Rd zQ 343 #[iv (i:Int),p] B (· =.int .u64 ((if 6<=v then(if(i>>>(v-6)).testBit 0 then 18446744073709551615 else 0)else an.mask v:Nat):Int)):=by
 refine aF λg=>HN (Ld.at hb (λ_ h=>h) ?_);exact aa.eq (zN hv zO hi B) (aZ.mk (.refl _) rfl)
theorem Um{n v:Nat}(hn:n<=16)(hv:v<n)(B:Hp):Px zQ 278 #[iv (n:Int),iv (v:Int)] B (λr H=>∃t,r=.tuple #[t,iv 0]/\kg H t n (λx=>x.testBit v)):=by
 refine aF λg=>IF λb1 _ b3 _=>?_;refine aa.eq (D1 hn _) (ae.cD (Br.F (Ld.q ?_)));refine ae.lss ?_;rw[xai zO];refine cm.or (a:=false) false (λ_=>?_) rfl λgs=>Br.no ?_
 ·refine Ld.q ?_;exact ae.qM ⟨rfl,by rw[xai zO]⟩
 have hwl:=an.yp hn;refine aa.pq (uz hn rfl zK (F:=λi=>if 6<=v then(if(i>>>(v-6)).testBit 0 then 18446744073709551615 else 0)else an.mask v) (λi _=>by
  have:=an.rj v;split
  ·split<;>decide
  exact this) (B:=(b1,.cells #[iv (v:Int)] 3 zZ)::B) λi hi=>PK zO zO (Go.Sx.At.block (l:=[iv (v:Int)]) zM)) ?_
 rintro w N ⟨s,rfl,hw⟩;refine St.p ?_ ?_
 ·have:=bO hw;simpa[Value.oneCell']using this
 refine ax.q ?_;refine GR.mk (by repeat (first|exact bV.refl _|apply bV.cons|apply bV.app)) ⟨_,rfl,_,⟨s,rfl,hw.mono zS⟩,sH hn,wz (λx hx=>?_) (λx=>?_)⟩
 ·have hj:x%64<64:=xbv _ zD;have ake:x=64*(x/64)+x%64:=by omega
  by_cases h6:6<=v
  ·rw[xad h6];have e:x.testBit v=((x/64)>>>(v-6)).testBit 0:=by
    rw[xbB,xcv];have:=Nat.testBit_div_two_pow (n:=6) x (v-6);rw[show(2:Nat)^6=64 from rfl]at this;rw[this];congr 1;omega
   rw[e];cases ((x/64)>>>(v-6)).testBit 0
   ·exact xcL _
   exact CJ hj
  rw[xac h6,an.gJ];have:=xbw x 6 v;rw[show(2:Nat)^6=64 from rfl]at this;rw[this];simp[hj];omega
 rw[xbw];simp[hv]
end
end
section
open aA
section
variable {B:Hp}
theorem oY{n i:Nat}{ws:zL}(hf:an.fg n ws):ws.getD i 0<18446744073709551616:=by
 by_cases h:i<ws.length
 ·rw[xap,xaa h];exact hf.lt (xaF h)
 rw[xap,xaE zO];decide
theorem rM{n i:Nat}{ws:zL}(hf:an.fg n ws)(hi:i<an.wN n):ws[i]? =some (ws.getD i 0):=by
 rw[xap,xaa (by rw[hf.len];exact hi)];rfl
theorem PT{p1 p2 p3 s1 s2 s3:zV}{n i:Nat}{ws us rs:zL}(h1:Go.Sx.At B p1 [iv (n:Int),s1])(h2:Go.Sx.At B p2 [iv (n:Int),s2])(h3:Go.Sx.At B p3 [iv (n:Int),s3])(hw:Words B s1 ws)(hu:Words B s2 us)(hr:Words B s3 rs)(hf:an.fg n ws)(hg:an.fg n us)(hh:an.fg n rs)(hi:i<an.wN n):
  Rd zQ 346 #[iv (i:Int),p1,p2,p3] B (· =.int .u64 (((ws.getD i 0&&&us.getD i 0)|||((18446744073709551615-ws.getD i 0) &&&rs.getD i 0):Nat):Int)):=by
 have lw:=oY (i:=i) hf;have lu:=oY (i:=i) hg;have lr:=oY (i:=i) hh;refine aF λg=>HK (ai.at h1 λq hq=>Ld.at hq (λ_ h=>h) ?_);refine hw.1.ld (cQ (rM hf hi)) (λ_ h=>h) ?_;refine ai.at h2 λq hq=>Ld.at hq (λ_ h=>h) ?_;refine hu.1.ld (cQ (rM hg hi)) (λ_ h=>h) ?_;refine ae.jz (by simpa only[bG]using lw) (by simpa only[bG]using lu) (ai.at h1 λq hq=>Ld.at hq (λ_ h=>h) ?_);refine hw.1.ld (cQ (rM hf hi)) (λ_ h=>h) ?_;refine Un.aeP lw ?_;refine ai.at h3 λq hq=>Ld.at hq (λ_ h=>h) ?_;refine hr.1.ld (cQ (rM hh hi)) (λ_ h=>h) ?_;exact ae.jz (by simp only[bG];omega) (by simpa only[bG]using lr) (ae.K7 (xaA xch (by simpa only[bG]using lw)) (xaA xch (by simp only[bG];omega)) (aZ.mk (.refl _) rfl))
theorem aa5{bx n:Nat}{s1 s2 s3:zV}{ws us rs:zL}(h1:Words B s1 ws)(h2:Words B s2 us)(h3:Words B s3 rs):jE ((bx,.cells (rows [[iv (n:Int),s1],[iv (n:Int),s2],[iv (n:Int),s3]]) 116 zZ)::B) (.slice (some ⟨bx,0,none⟩) 3 3) [⟨n,ws⟩,⟨n,us⟩,⟨n,rs⟩]:=by
 refine⟨[[iv (n:Int),s1],[iv (n:Int),s2],[iv (n:Int),s3]],(Sl.vG (bg.made (T:=116) (k:=2) (b:=bx) _ zI) zD).mono λ_ h=>by simp at h;rw[h];exact .head _,rfl,λi r x hr hx=>?_⟩
 match i with
 |0=>simp at hr hx;subst hr;subst hx;exact⟨s1,rfl,h1.mono λ_ h=>.tail _ h⟩
 |1=>simp at hr hx;subst hr;subst hx;exact⟨s2,rfl,h2.mono λ_ h=>.tail _ h⟩
 |2=>simp at hr hx;subst hr;subst hx;exact⟨s3,rfl,h3.mono λ_ h=>.tail _ h⟩
 |i+3=>simp at hr
theorem Uq{v1 v2 v3:zV}{n:Nat}{f1 f2 f3:aA.Fn}(h1:kg B v1 n f1)(h2:kg B v2 n f2)(h3:kg B v3 n f3):Px zQ 279 #[v1,v2,v3] B (λr H=>∃t,r=.tuple #[t,iv 0]/\kg H t n (λx=>if f1 x then f2 x else f3 x)):=by
 obtain⟨ws,⟨s1,rfl,hw⟩,hf,rfl⟩:=h1;obtain⟨us,⟨s2,rfl,hu⟩,hg,rfl⟩:=h2;obtain⟨rs,⟨s3,rfl,hr⟩,hh,rfl⟩:=h3;refine aF λg=>IE λb1 _ b3 _ b5 _ b7 _=>?_;refine ax.q ?_;refine ax.q ?_;refine ax.q ?_;refine az.Ys (e:=116) (z:=.agg #[iv 0,.slice none 0 0]) zK zK zK λbx=>?_;refine aa.rd .here (DL (aa5 (n:=n) (hw.mono zS) (hu.mono zS) (hr.mono zS)) (by show 3<2^62;decide)) ?_;rintro w rfl;rw[xal (by
  intro t ht;simp only[xam,xaP,xbD]at ht;rcases ht with rfl|rfl|rfl
  ·exact⟨⟨by simp,by simpa using hf⟩,rfl⟩
  ·exact⟨⟨by simp,by simpa using hg⟩,rfl⟩
  exact⟨⟨by simp,by simpa using hh⟩,rfl⟩)]
 refine Un.not (Br.no (Ld.f ?_));refine aa.pre (H':=(b7,.cells #[iv 0,.slice none 0 0] 116 zZ)::(b5,.cells #[iv (n:Int),s3] 116 zZ)::(b3,.cells #[iv (n:Int),s2] 116 zZ)::(b1,.cells #[iv (n:Int),s1] 116 zZ)::B) .tail ?_;have ol:∀i,(ws.getD i 0&&&us.getD i 0)|||((18446744073709551615-ws.getD i 0) &&&rs.getD i 0)<18446744073709551616:=λi=>
  xbF (n:=64) (xaA xch (oY hf)) (xaA xc4 (oY hh))
 refine aa.pq (uz hf.xU rfl zK (F:=λi=>(ws.getD i 0&&&us.getD i 0)|||((18446744073709551615-ws.getD i 0) &&&rs.getD i 0)) (λi _=>ol i) (B:=(b5,.cells #[iv (n:Int),s3] 116 zZ)::(b3,.cells #[iv (n:Int),s2] 116 zZ)::(b1,.cells #[iv (n:Int),s1] 116 zZ)::B)
  λi hi=>PT (Go.Sx.At.block (l:=[iv (n:Int),s1]) zM) (Go.Sx.At.block (l:=[iv (n:Int),s2]) zM) (Go.Sx.At.block (l:=[iv (n:Int),s3]) zM) (hw.mono zS) (hu.mono zS) (hr.mono zS) hf hg hh hi) ?_
 rintro w N ⟨s',rfl,eU⟩;refine St.p ?_ ?_
 ·have:=bO eU;simpa[Value.oneCell']using this
 refine ax.q ?_;refine GR.mk (by repeat (first|exact bV.refl _|apply bV.cons|apply bV.app)) ⟨_,rfl,_,⟨s',rfl,eU.mono zS⟩,sH hf.xU,wz (λx hx=>?_) (λx=>by rw[Bh,Bh,Bh])⟩;rw[xb1,xbj,xbj,U2 (oY hf) (xbv _ zD),uM hx,uM hx,uM hx];cases py n ws x<;>cases py n us x<;>cases py n rs x<;>rfl
end
end
end Go.Proofs
namespace Go.Sx
open Go
section
variable {P:Program} {g:Gh} {H B:Hp} {c:Hp->Hp}
theorem aL.Yy{x:Nat×Obj}(h:x∈H):aL H [x]:=by
 obtain⟨A,D,rfl⟩:=xdc h;exact .fT (aL.left (A:=[x]))
end
end Go.Sx
set_option maxRecDepth 100000
namespace Go.Proofs
open Go Go.Sx
section
open aA
section
variable {kp gb n:Nat} {vr vf:zV} {refs:zL} {fs:List (zL)} {K:Kd} {S:Nat->aA.Fn} {ord ah tr:zL} {C B:Hp}
theorem cf.perm(hK:cf kp K S ord ah tr C):ord.Perm (List.range K.n):=by
 have mS:=hK.od;refine kB ?_ (λx hx=>?_) (by rw[xaz,mS.len];exact xag _)
 ·refine List.pairwise_iff_getElem.2 λi j hi hj hij e=>?_;have g1:=(mS.bc i (by rw[<-mS.len];exact hi)).2;have g2:=(mS.bc j (by rw[<-mS.len];exact hj)).2;rw[xap,xaa hi,e]at g1;rw[xap,xaa hj]at g2;omega
 obtain⟨i,hi,rfl⟩:=xbd.1 hx;rw[mS.len]at hi;have:=(mS.bc i hi).1;rw[xap,xaa (by rw[mS.len];exact hi)]at this;exact xaM.2 this
end
end
section
open aA
theorem QC{B:Hp}{v1 v2:zV}{p q:zL}{n:Nat}(h1:dz .i64 B v1 (iw p))(h2:dz .i64 B v2 (iw q))(hp:p.Perm (List.range n))(hq:q.Perm (List.range n))(hn:n<=64):
  Fc zQ 284 #[v1,v2] B (λr H=>∃s C,r=.tuple #[s,iv 0]/\H=C++B/\aN 3 .i64 s (iw (path p q)) C):=by
 have e1:p.length=n:=by rw[hp.length_eq,xaz]
 have e2:q.length=n:=by rw[hq.length_eq,xaz]
 have fO:q.Nodup:=hq.nodup_iff.2 xbn;have hpq:=hp.trans hq.symm;refine aF λg=>IA (aa.eq (WA h1 h2 hp hq hn) (ae.cD (Br.F (aa.fq (wK h1 (by rw[ak];omega)) ?_))));rintro va H ⟨CA,rfl,hA⟩;refine h2.bP ?_;rw[ak];refine⟨λvs H=>∃(i:Nat) (w9:zV) (C N:Hp),vs=[w9,iv (i:Int)]/\i<=n/\H=C++(N++B)/\aN 3 .i64 w9 (iw (er p q i)) C/\aN 3 .i64 va (iw (ay p (er p q i))) N,λvs _=>n-bL vs 1,
  JE.mk ⟨0,_,[],CA,rfl,xaN _,rfl,aN.nil,hA⟩,?_⟩
 rintro w9 w10 H ⟨i,u9,C,N,⟨⟩,hi,rfl,ho,hw⟩ gs;refine ae.fk (Br.dec (λhlt=>?_) (λhlt=>?_));rotate_left
 ·obtain rfl:i=q.length:=by omega
  exact aM.mk (.cU .right _) ⟨w9,C,rfl,rfl,ho⟩
 have spec:=jP fO hpq i zO;obtain⟨s1,s2,s3⟩:=spec;obtain⟨s4,s5⟩:=s3 hlt;have aim:=sE fO hpq (i+1) zO;have qK:(i+1)*p.length<=64*64:=xcb zO zO;refine h2.ld (n:=((q.getD i 0:Nat):Int)) (bH hlt) (λ_ h=>xab _ (xab _ h)) ?_;have hmem:q.getD i 0∈ay p (er p q i):=by
  have:q.getD i 0∈q:=by rw[xap,xaa hlt];exact xaF _
  exact((k9 s1).trans hpq).mem_iff.2 this
 refine aa.eq (MF hw.ints (by rw[ak,eJ];omega)) ?_;rw[xad (QW.2 hmem),YM];refine⟨λvs H=>∃(j:Nat) (u9:zV) (P:zL) (C N:Hp),vs=[u9,iv (j:Int)]/\i<=j/\j<n/\P++GC i j=er p q (i+1)/\H=C++(N++B)/\aN 3 .i64 u9 (iw P) C/\aN 3 .i64 va (iw (ay p P)) N,λvs _=>bL vs 1,
  JE.mk ⟨plc (ay p (er p q i)) (q.getD i 0),w9,er p q i,C,N,rfl,s4,by omega,rfl,rfl,ho,hw⟩,?_⟩
 rintro w22 w23 H ⟨j,u9,P,C2,N2,⟨⟩,hij,TW,hP,rfl,r9,pH⟩ gs;refine ae.nh (Br.dec (λhgt=>?_) (λhgt=>?_))
 ·obtain⟨j,rfl⟩:∃k,j=k+1:=⟨j-1,by omega⟩;have hPl:P.length<=4096:=by
   have:=xcj List.length hP;rw[xaf]at this;omega
  have hlen:(ay p P).length=n:=by rw[eJ,e1]
  refine DR.self (ae.bZ (b:=1) ?_);rw[xb8];refine pH.ld (x:=(((ay p P).getD (j+1) 0:Nat):Int)) (bH zO) (λ_ h=>xab _ (xae _ h)) (ae.bZ (b:=1) ?_);rw[xb8];refine pH.ld (x:=(((ay p P).getD j 0:Nat):Int)) (bH zO) (λ_ h=>xab _ (xae _ h)) (pH.nt (x:=(((ay p P).getD (j+1) 0:Nat):Int)) (.app .left) (by rw[ak];omega) λN3 Vz=>?_);refine Vz.nt (x:=(((ay p P).getD j 0:Nat):Int)) (.app .left) (by rw[xbT,ak];omega) λN4 hw4=>?_;have e:((iw (ay p P)).set j (((ay p P).getD (j+1) 0:Nat):Int)).set (j+1) (((ay p P).getD j 0:Nat):Int)=iw (ay p (P++[j])):=by
   rw[eR];unfold fM;rw[fm,fm]
  rw[e]at hw4;refine ae.bZ (b:=1) ?_;rw[xb8];refine az.int (e:=3) zK zK zK λbx=>?_;refine r9.rX (.cons .left) (by exact .head _) (by rw[ak];omega) (by rw[ak];omega) λv' C3 Dv=>?_;refine ae.bZ (b:=1) ?_;rw[xb8];refine aC.of .tail ⟨j,v',P++[j],C3,N4,rfl,by omega,by omega,?_,rfl,by rw[bY];exact Dv,hw4⟩ ?_
  ·rw[<-hP,rV (show i<=j by omega),xaj];rfl
  simp only[bL];omega
 obtain rfl:j=i:=by omega
 rw[Bp (xag _),xaL]at hP;subst hP;exact ae.inc (aC.of (.refl _) ⟨j+1,w22,C2,N2,rfl,by omega,rfl,r9,pH⟩ (by simp only[bL];omega))
def wk(b kp f d:Nat)(ok:Bool):Nat×Obj:=(b,.cells #[ptr kp,iv (f:Int),iv (d:Int),.bool ok] 417 zZ)
section
variable {kp b f d:Nat} {K:Kd} {S:Nat->aA.Fn} {ord tr:zL} {C:Hp}
theorem Mh(h:At kp K S ord tr C):Fc zQ 352 #[ptr kp] C (λr H=>∃b,r=ptr b/\H=wk b kp tr.length 0 false::C):=by
 refine aF λg=>HC (aa.eq (rW h) (Build.mk (cs:=[ptr kp,iv ((tr.length:Nat):Int),iv 0,.bool false]) zK ?_));intro b _;exact aM.here ⟨b,rfl,rfl⟩
theorem PB(h:At kp K S ord tr C){l:Nat}(hl:l+1<K.n)(eG:tr.length<17592186044416)(hf:jc K S ord l)(hd:d<4611686018427387904):
  Fc zQ 355 #[ptr b,iv (l:Int)] (wk b kp f d false::C) (λr H=>r=iv 0/\∃C',H=wk b kp f (d+1) false::C'/\At kp K S (fM ord l) (tr++[l]) C'):=by
 refine aF λg=>xh (Ld.n ?_);refine aa.fq (uK h hl eG hf) ?_;rintro v C' ⟨rfl,h'⟩;intro J hJ;refine ae.gI (Br.T (Ld.n ?_));refine ae.inc (Nil.ptr (ai.mk (St.one (by exact .head _) rfl zI rfl ?_)));exact JE.mk (hJ _ λgs=>aM.here ⟨rfl,C',rfl,h'⟩)
theorem PC(h:At kp K S ord tr C){l:Nat}(hl:l+1<K.n)(eG:tr.length<17592186044416)(hf:¬jc K S ord l):
  Rd zQ 355 #[ptr b,iv (l:Int)] (wk b kp f d false::C) (· =iv 9):=by
 refine aF λg=>xh (Ld.n ?_);refine aa.eq (mY h hl eG hf) λJ hJ=>?_;exact ae.gI (Br.F (JE.mk (hJ _ λgs=>aZ.mk (.refl _) rfl)))
theorem PD{ok:Bool}{path:zL}(h:At kp K S (ay ord path) (tr++path) C)(hp:∀l∈path,l+1<K.n)(eG:(tr++path).length<17592186044416)(hd:d<4611686018427387904):
  Fc zQ 390 #[ptr b] (wk b kp tr.length d ok::C) (λr H=>r=.tuple #[]/\∃C',H=wk b kp tr.length (d+path.length) ok::C'/\At kp K S ord tr C'):=by
 have zc:path.length<17592186044416:=by rw[xaf]at eG;omega
 refine aF λg=>G5 (DR.of (R:=[wk b kp tr.length d ok]) (aL.left (A:=[_]) (B:=C)) (Ld.n ?_));refine Ld.n ?_;refine aa.fq (args:=#[ptr kp,iv ((tr.length+0:Nat):Int)]) (LR h hp (xaN _) eG) ?_;rintro v C' ⟨rfl,h'⟩;rw[List.take_zero,xaL]at h';refine⟨aL.left (A:=[_]) (B:=C'),?_⟩;refine Ext.two (Ld.n ?_);refine ae.eZ (Nil.ptr (ai.mk (St.one (by exact .head _) rfl zI rfl ?_)));exact aM.here ⟨rfl,C',rfl,h'⟩
theorem Md:Rd zQ 354 #[ptr b] (wk b kp f d true::C) (· =.tuple #[]):=by
 refine aF λg=>xj (Ld.n ?_);exact Un.not (Br.no (aZ.mk (.refl _) rfl))
theorem Me{path:zL}(h:At kp K S (ay ord path) (tr++path) C)(hp:∀l∈path,l+1<K.n)(eG:(tr++path).length<17592186044416)(hd:d<4611686018427387904):
  Fc zQ 354 #[ptr b] (wk b kp tr.length d false::C) (λr H=>r=.tuple #[]/\∃C',H=wk b kp tr.length (d+path.length) false::C'/\At kp K S ord tr C'):=by
 refine aF λg=>xj (Ld.n ?_);refine Un.not (Br.yes (aa.fq (PD h hp eG hd) ?_));rintro v H ⟨rfl,C',rfl,h'⟩;exact aM.here ⟨rfl,C',rfl,h'⟩
theorem Eg(h:At kp K S ord tr C){v:Nat}(hv:v<K.n):Rd zQ 150 #[ptr kp,iv (v:Int)] C (λr=>∃p,p<K.n/\ord.getD p 0=v/\r=.tuple #[iv (p:Int),iv 0]):=by
 obtain⟨K',S',bW,h,hk⟩:=h;obtain⟨b,rfl,hO⟩:=h.rep;have hn:=hO.lz;have nU:v<K'.n:=by rw[hk.n];exact hv
 have hlen:v<bW.length:=by rw[hO.ol.2];exact nU
 refine aF λg=>qG (ae.aH (Br.no (aa.eq (rA h.rep (v:Int)) ?_)));rw[xal zO];refine Un.not (Br.no (Ld.n ?_));refine hO.lv.ld (x:=((bW.getD v 0:Nat):Int)) (bH hlen) (bI.sub (.cons (.app (.app (.app (.app (.app .left))))))) (aZ.mk (.refl _) ⟨bW.getD v 0,?_,?_,rfl⟩)
 ·rw[<-hk.n];exact h.ok.lv.lt v nU
 exact h.od.of h.ok.lv nU
theorem Ef(h:At kp K S ord tr C){v:Int}(hv:v<0\/(K.n:Int)<=v):Rd zQ 150 #[ptr kp,iv v] C (· =.tuple #[iv 0,iv 2]):=by
 obtain⟨K',S',bW,h,hk⟩:=h;have hn:=hk.n;refine aF λg=>qG (ae.aH (Br.no (aa.eq (rA h.rep v) ?_)));rw[xai zO];exact Un.not (Br.yes (aZ.mk (.refl _) rfl))
def L1(kp:Nat)(K:Kd)(S:Nat->aA.Fn)(ord tr ls:zL)(r:zV)(C:Hp):Prop:=
 ((rm K S).can ord ls=true/\r=.tuple #[iv ((ls.length:Nat):Int),iv 0]/\At kp K S (ay ord ls) (tr++ls) C)\/
 ((rm K S).can ord ls=false/\r=.tuple #[iv ((2*((rm K S).dJ 0 ls ord).length:Nat):Int),iv 9]/\At kp K S ord tr C)
theorem Vb{Y:Hp}{v:zV}{ls:zL}(h:At kp K S ord tr C)(hI:dz .i64 Y v (iw ls))(hp:∀l∈ls,l+1<K.n)(eG:tr.length+ls.length<17592186044416):
  Fc zQ 285 #[ptr kp,v] (Y++C) (λr H=>∃C',H=Y++C'/\L1 kp K S ord tr ls r C'):=by
 let m:=rm K S
 have hgl:=m.l8 0 ls ord;have hpt:∀i,∀l∈ls.take i,l+1<K.n:=λi l hl=>hp l (xcC hl);refine aF λg=>Iz λb1 _=>?_;refine aa.fq (Mh h) ?_;rintro v3 H ⟨b,rfl,rfl⟩;intro b5 _;refine St.one (by exact .head _) rfl zI rfl ?_;refine hI.bP ?_;rw[ak];refine⟨λvs H=>∃i C2,i<=(m.dJ 0 ls ord).length/\vs=[iv (i:Int)]/\H=(b5,.cells #[ptr b] 414 zZ)::(b1,.cells #[iv 0] 3 zZ)::(Y++(wk b kp tr.length i false::C2))/\At kp K S (ay ord (ls.take i)) (tr++ls.take i) C2,
  λvs _=>ls.length-bL vs 0,JE.mk ⟨0,C,xaN _,rfl,rfl,by simpa[ay]using h⟩,?_⟩
 rintro w13 H ⟨i,C2,hi,⟨⟩,rfl,h2⟩ gs;have RK:(tr++ls.take i).length<17592186044416:=by rw[xaf,xbz];omega
 refine ae.fk (Br.dec (λhlt=>?_) (λhlt=>?_))
 ·refine hI.ld (n:=((ls.getD i 0:Nat):Int)) (bH hlt) (λ_ h=>.tail _ (.tail _ (xae _ h))) ?_;have eg:ls.getD i 0=ls[i]:=by rw[xap,xaa hlt];rfl
  have Dy:ls.getD i 0+1<K.n:=by rw[eg];exact hp _ (xaF hlt)
  have eq:ls[i]? =some (ls.getD i 0):=by rw[eg];exact xaa hlt
  refine Ld.q ?_;by_cases hg:i<(m.dJ 0 ls ord).length
  ·have hf:jc K S (ay ord (ls.take i)) (ls.getD i 0):=qc.1 (m.Sr hg eq);refine aa.fn (.cons (.cons (.app .here))) (PB h2 Dy RK hf zO) ?_;rintro r H ⟨rfl,C3,rfl,h3⟩;refine ae.cD (Br.F (ae.inc (aC.mk ⟨i+1,C3,hg,rfl,rfl,?_⟩ (by simp only[bL];omega))));have e:ls.take (i+1)=ls.take i++[ls.getD i 0]:=by rw[xbH,eq];rfl
   rw[e,eR,<-xaj];exact h3
  obtain rfl:i=(m.dJ 0 ls ord).length:=by omega
  have hf:¬jc K S (ay ord (ls.take (m.dJ 0 ls ord).length)) (ls.getD (m.dJ 0 ls ord).length 0):=λhf=>by
   have h8:=m.NL eq;have h9:=qc.2 hf;rw[show(rm K S).fit _ _=false from h8]at h9;cases h9
  refine aa.eq (PC h2 Dy RK hf) (ae.cD (Br.T (St.one (by exact .tail (.head _)) rfl zI rfl ?_)));refine tV (R:=_) ?_;unfold L353;refine Ld.q ?_;refine aa.fn (.cons (.cons (.app .here))) (Me h2 (hpt _) RK zO) ?_;rintro r H ⟨rfl,C3,rfl,h3⟩;refine Ld.q ?_;have eD:(m.dJ 0 ls ord).length+(ls.take (m.dJ 0 ls ord).length).length=2*(m.dJ 0 ls ord).length:=by rw[xbz];omega
  rw[eD];refine Ld.n ?_;refine St.one (by exact .tail (.head _)) rfl zI rfl ?_;refine⟨⟨_,rfl⟩,?_⟩;refine Ld.q ?_;refine aM.mk (.skip (.skip (.cU .tail _))) ⟨C3,rfl,.inr ⟨xai (show¬(m.dJ 0 ls ord).length=ls.length by omega),rfl,h3⟩⟩
 have RN:i=ls.length:=by omega
 subst RN;rw[xbl]at h2;have hcan:(rm K S).can ord ls=true:=xal (show(m.dJ 0 ls ord).length=ls.length by omega);refine Ld.q ?_;refine Nil.ptr (ai.mk (St.one (c8.tail (c8.tail (c8.cc (.head _) _))) rfl zI rfl ?_));refine St.one (by exact .tail (.head _)) rfl zI rfl ?_;refine tV (R:=_) ?_;unfold L353;refine Ld.q ?_;refine aa.eq (B:=wk b kp tr.length ls.length true::C2) Md (Ld.q ?_);refine Ld.n ?_;refine St.one (by exact .tail (.head _)) rfl zI rfl ?_;refine⟨⟨_,rfl⟩,?_⟩;refine Ld.q ?_;refine aM.mk (.skip (.skip (.cU .tail _))) ⟨C2,rfl,.inl ⟨hcan,rfl,h2⟩⟩
end
section
variable {kp b f d:Nat} {K:Kd} {S:Nat->aA.Fn} {ord tr:zL} {C:Hp}
theorem L1.tup{ls:zL}{r:zV}(h:L1 kp K S ord tr ls r C):∃x y,r=.tuple #[x,y]:=by
 rcases h with⟨_,rfl,_⟩|⟨_,rfl,_⟩<;>exact⟨_,_,rfl⟩
theorem QM{Y:Hp}{v:zV}{q:zL}(h:At kp K S ord tr C)(hI:dz .i64 Y v (iw q))(Y6:ord.Perm (List.range K.n))(hpq:q.Perm (List.range K.n))(eG:tr.length<17454747090944):
  Fc zQ 195 #[ptr kp,v] (Y++C) (λr H=>∃C',H=Y++C'/\L1 kp K S ord tr (path ord q) r C'):=by
 have hn:=h.lz;have EF:ord.length=K.n:=by rw[Y6.length_eq,xaz]
 have hql:q.length=K.n:=by rw[hpq.length_eq,xaz]
 have fO:q.Nodup:=hpq.nodup_iff.2 xbn;refine aF λg=>Ju (ae.aH (Br.no ?_));intro J2 BP;refine aa.rq (sD hI (by rw[ak];omega)) ?_;rintro r (⟨rfl,ha,hl⟩|⟨_,_,hl⟩|⟨_,hno⟩);rotate_left
 ·rw[ak]at hl;omega
 ·exact absurd (wW hpq) hno
 refine ae.cD (Split.go zD ?_);refine hI.bP (aa.eq (mX h) (ae.yL ?_));rw[xai (by rw[ak];omega)];refine aD.mk (JE.mk (BP _ _ λgs=>Br.no ?_));refine aa.fq (Tj h) ?_;rintro vo H ⟨N,rfl,ho⟩;refine aa.pre (H':=(N++Y)++C) (.perm (by rw[xaj,<-xaj,<-xaj];exact xbe.append_right C)) (aa.fq (QC (ho.ints.mono λ_ h=>xae _ h) (hI.mono λ_ h=>xab _ h) Y6 hpq hn) ?_);rintro r H ⟨s,CP,rfl,rfl,hP⟩;refine Ext.mk rfl (Ext.mk rfl (ae.cD (Br.F ?_)));obtain⟨_,zc⟩:=AP fO (Y6.trans hpq.symm);have ail:(path ord q).length<=4096:=by
  have:=sE fO (Y6.trans hpq.symm) q.length (xag _);have h2:q.length*ord.length<=64*64:=xcb zO zO;unfold path;omega
 refine aa.fq (Vb h (hP.ints.mono λ_ h=>xae _ h) (λx hx=>by have:=zc x hx;omega) zO) ?_;rintro r H ⟨C',rfl,hM⟩;obtain⟨x,y,rfl⟩:=hM.tup;refine Ext.two (aM.mk ?_ ⟨C',rfl,hM⟩);rw[xaj,xaj];exact aL.right.trans .right
def Vh(p:Nat):Nat->Nat->Nat
 |0,_=>p
 |_,k=>p-k
def NA(n p:Nat):Nat->Nat->Nat
 |0,k=>p+k
 |_,_=>n-1
end
end
end Go.Proofs
namespace aA
theorem My(A D:zL)(a b:Nat):fM (A++a::b::D) A.length=A++b::a::D:=by
 unfold fM;have h1:(A++a::b::D).getD (A.length+1) 0=b:=by rw[xap,xbu zO,xdN];rfl
 have h2:(A++a::b::D).getD A.length 0=a:=by rw[xap,xbu (xag _),xcF];rfl
 rw[h1,h2,xb3 _ _ (xag _),xcF,xcl,xb3 _ _ zO,xdN];rfl
theorem Yf{ord:zL}{l:Nat}(hl:l+1<ord.length):∃A D a b,ord=A++a::b::D/\A.length=l/\ord.getD l 0=a/\ord.getD (l+1) 0=b:=by
 refine⟨ord.take l,ord.drop (l+2),ord[l],ord[l+1],?_,by rw[xbz];omega,?_,?_⟩
 ·conv=>lhs;rw[<-xbk l ord,xbc (show l<ord.length by omega),xbc hl]
 ·rw[xap,xaa zO];rfl
 rw[xap,xaa hl];rfl
theorem B7{ord:zL}{l x:Nat}(hl:l+1<ord.length)(hx:ord.getD l 0=x\/ord.getD (l+1) 0=x):(fM ord l).filter (λy=>decide (y≠x))=ord.filter (λy=>decide (y≠x)):=by
 obtain⟨A,D,a,b,e,hA,ha,hb⟩:=Yf hl;rw[e,<-hA,My,xbJ,xbJ];congr 1;rw[xbb,xbb,xbb,xbb];rw[ha,hb]at hx;rcases hx with h|h
 ·subst h;simp
 subst h;simp
theorem oE{p j:Nat}(h:p<=j):road p (j+1)=road p j++[j]:=by
 unfold road;rw[show p-(j+1)=0 by omega,show p-j=0 by omega,show j+1-p=(j-p)+1 by omega,List.range'_concat];simp;omega
theorem oF{p j:Nat}(h:j<p):road p j=road p (j+1)++[j]:=by
 unfold road;rw[show j-p=0 by omega,show j+1-p=0 by omega,show p-j=(p-(j+1))+1 by omega,List.range'_succ];simp
theorem fC(p:Nat):road p p=[]:=by unfold road;simp
theorem C8{ord:zL}{p:Nat}(hp:p<ord.length):∀(k j:Nat),(j-p)+(p-j)=k->j<ord.length->(ay ord (road p j)).getD j 0=ord.getD p 0/\(ay ord (road p j)).filter (λy=>decide (y≠ord.getD p 0))=ord.filter (λy=>decide (y≠ord.getD p 0)):=by
 intro k;induction k with
 |zero=>
  intro j hk hj;obtain rfl:j=p:=by omega
  rw[fC];exact⟨rfl,rfl⟩
 |succ k ih=>
  intro j hk hj;by_cases h:p<j
  ·obtain⟨i,rfl⟩:∃i,j=i+1:=⟨j-1,by omega⟩;obtain⟨h1,h2⟩:=ih i zO zO;rw[oE zO,eR];have hl:i+1<(ay ord (road p i)).length:=by rw[eJ];exact hj
   refine⟨?_,?_⟩
   ·rw[eu hl,xac zO,xad rfl,h1]
   rw[B7 hl (.inl h1),h2]
  obtain⟨h1,h2⟩:=ih (j+1) zO zO;rw[oF zO,eR];have hl:j+1<(ay ord (road p (j+1))).length:=by rw[eJ];omega
  refine⟨?_,?_⟩
  ·rw[eu hl,xad rfl,h1]
  rw[B7 hl (.inr h1),h2]
end aA
set_option maxRecDepth 100000
namespace Go.Proofs
open Go Go.Sx
open aA
section
variable {kp gb n:Nat} {vr vf:zV} {refs:zL} {fs:List (zL)} {K:Kd} {S:Nat->aA.Fn} {ord tr:zL} {C Z:Hp}
theorem KY{ord:zL}(hp:ord.Perm (List.range n)):∀i,i<n->ord.getD i 0<n:=λi hi=>by
 have EF:ord.length=n:=by rw[hp.length_eq,xaz]
 have:ord.getD i 0∈ord:=by rw[xap,xaa zO];exact xaF _
 exact xaM.1 (hp.mem_iff.1 this)
end
end Go.Proofs
namespace Go.Sx
open Go Go.ChangeShapes Go.WideShapes Go.Deep
section
variable {H:Type} {enc:TypeId×zV->H} {P:Program} {W:World} {base:Nat} {spare:Nat->Bool} {held:Bool}
theorem td(a:Addr)(n:Nat):(a.add n).block=a.block:=by unfold Addr.add;split<;>rfl
theorem Bw(a:Addr)(n:Nat):(a.add n).off=a.off+n:=by unfold Addr.add;split<;>simp_all
theorem kK{b:Nat}{a:Addr}{k:Nat}{cs:List zV}(hk:0<k)(h:W.cells? b a k=some cs):
  a.spot=none/\∃c T fz,W.heap[a.block]? =some (.cells c T fz)/\a.off+k<=c.size/\c.extract a.off (a.off+k)=cs.toArray:=by
 obtain⟨_,hl,hg⟩:=World.cells?_some h;have h0:=hg 0 hk;have hc0:W.cell? a=some (cs[0]' zO):=by
  have:a.add 0=a:=by simp[Addr.add]
  rw[this]at h0;rw[h0];exact xaa zO
 unfold World.cell? at hc0;split at hc0
 ·rename_i c T fz hb;cases hs:a.spot with
  |some s=>rw[hs]at hc0;simp at hc0
  |none=>
   have hcell:∀i,i<k->c[a.off+i]? =cs[i]? :=λi hi=>by
    have:=hg i hi;unfold World.cell? at this;rw[td,hb]at this;simp only[Bw]at this;have hsp:(a.add i).spot.isSome=false:=by unfold Addr.add;split<;>simp[hs]
    rw[hsp]at this;simpa using this
   have hsz:a.off+k<=c.size:=by
    have:=hcell (k-1) zO;rw[xaa zO]at this;have:=(xaU.1 this).1;omega
   refine⟨rfl,c,T,fz,hb,hsz,?_⟩;apply Array.ext_getElem?;intro i;rw[xdh];by_cases hi:i<k
   ·rw[xad zO,hcell i hi];simp
   rw[xac zO];simp;omega
 simp at hc0
theorem aap{t e:TypeId}{v:zV}{d:DataW H}{ps:List MemPlace}{r:Reach}{b0 k:Nat}(ht:P.underlying t=some (.slice e))(hk:P.cellsOf e=k)(Zi:0<k)(hv:Value.okWide P W r b0 t v)(h:DataW.Trod enc P W base spare held t v d ps):
  (v=.slice none 0 0/\d=.nil)\/∃(a:Addr) (n cap:Nat) (es sp:List (DataW H)),v=.slice (some a) n cap/\d=.slice es sp/\es.length=n/\n<=cap/\
   ∀i,i<n->∃c T fz cs,a.spot=none/\(a.block,Obj.cells c T fz)∈whole W/\a.off+i*k+k<=c.size/\c.extract (a.off+i*k) (a.off+i*k+k)=cs.toArray/\∃fuel y,DataW.trod enc P W base spare held fuel e cs=some y/\cs.length=k:=by
 obtain⟨a0,n0,c0,rfl⟩:=okWide_slice ht hv;obtain⟨fuel,hf⟩:=h;rcases open_slice ht hf with⟨h1,h2⟩|⟨a,len,cap,m,n,D,Pl,hcs,hb,hl,hm,x6,hx,hi⟩
 ·left;simp only[Value.cells,xaw,xa2]at h1;simp only[xdT]at h2;exact⟨by simpa using h1,h2.1⟩
 right;simp only[xdT]at hx;have nU:Value.slice a0 n0 c0=.slice (some a) len cap:=by simpa[Value.cells]using hcs
 have hlm:len<=m:=by rw[x6];split<;>omega
 refine⟨a,len,cap,_,_,nU,hx.1,by simp,hl,λi hin=>?_⟩;have hkk:=hk;have Dt:a.spot=none:=by
  obtain⟨cs0,hc0,_⟩:=hi 0 zO;rw[hk]at hc0;rw[show a.add (0*k)=a by simp[Addr.add]]at hc0;exact(kK Zi hc0).1
 obtain⟨cs,hc,hd⟩:=hi i zO;rw[hk]at hc;obtain⟨_,hlen,_⟩:=World.cells?_some hc;obtain⟨_,c,T,fz,h1,h2,h3⟩:=kK Zi hc;rw[td]at h1;rw[Bw]at h2 h3;exact⟨c,T,fz,cs,Dt,yP h1,h2,h3,n,_,hd,hlen⟩
theorem Mw{t e:TypeId}{cs:List zV}{x:DataW H×List MemPlace}{fuel k:Nat}(ht:P.underlying t=some (.slice e))(hk:P.cellsOf e=k)(Zi:0<k)(h:DataW.trod enc P W base spare held fuel t cs=some x):
  ∃(v:zV) (rs:List (List zV)),cs=[v]/\Sl k (whole W) v rs/\((rs=[]/\x.1=.nil)\/∃es sp,x.1=.slice es sp/\es.length=rs.length)/\
   ∀(i:Nat) (r:List zV),rs[i]? =some r->∃(fuel:Nat) (y:DataW H×List MemPlace) (es sp:List (DataW H)),DataW.trod enc P W base spare held fuel e r=some y/\x.1=.slice es sp/\es[i]? =some y.1:=by
 rcases open_slice ht h with⟨h1,h2⟩|⟨a,len,cap,m,n,D,Pl,hcs,hb,hl,hm,x6,hx,hi⟩
 ·exact⟨_,[],h1,Sl.nil _ _,.inl ⟨rfl,by rw[h2]⟩,λi r hr=>by simp at hr⟩
 have hlm:len<=m:=by rw[x6];split<;>omega
 have hex:∃rs:List (List zV),rs.length=len/\∀i r,rs[i]? =some r->W.cells? base (a.add (i*k)) k=some r/\DataW.trod enc P W base spare held n e r=some (D i,Pl i):=by
  clear hcs hx hl x6;induction len with
  |zero=>exact⟨[],rfl,λi r hr=>by simp at hr⟩
  |succ len ih=>
   obtain⟨rs,h1,h2⟩:=ih zO;obtain⟨r,h3,h4⟩:=hi len zO;rw[hk]at h3;refine⟨rs++[r],by simp[h1],λi r' hr=>?_⟩;by_cases hlt:i<rs.length
   ·rw[xaY hlt]at hr;exact h2 i r' hr
   rw[xbu zO]at hr;have F9:i-rs.length=0:=by
    by_cases e:i-rs.length=0
    ·exact e
    rw[xaE zP]at hr;cases hr
   rw[F9]at hr;simp only[xcK,xas]at hr;subst hr;obtain rfl:i=len:=by omega
   exact⟨h3,h4⟩
 obtain⟨rs,Du,BI⟩:=hex;have aI:∀r∈rs,r.length=k:=λr hr=>by
  obtain⟨i,hi,e⟩:=xbd.1 hr;obtain⟨hc,_⟩:=BI i r (by rw[xaa hi,e]);exact(World.cells?_some hc).2.1
 refine⟨.slice (some a) len cap,rs,hcs,⟨aI,?_⟩,.inr ⟨_,_,by rw[hx],by simp[Du]⟩,λi r hr=>?_⟩
 ·cases rs with
  |nil=>exact .inl ⟨some a,cap,by rw[<-Du];rfl,rfl⟩
  |cons r0 rest=>
   right;obtain⟨hc0,_⟩:=BI 0 r0 rfl;obtain⟨Dt,c,T,fz,hb0,_,_⟩:=kK Zi hc0;rw[show a.add (0*k)=a by simp[Addr.add]]at Dt hb0;obtain⟨ab,ao,asp⟩:=a;simp only at Dt hb0;subst Dt;have acE:∀i r,(r0::rest)[i]? =some r->ao+i*k+k<=c.size/\c.extract (ao+i*k) (ao+i*k+k)=r.toArray:=λi r hr=>by
    obtain⟨hc,_⟩:=BI i r hr;obtain⟨_,c',T',fz',h1,h2,h3⟩:=kK Zi hc;rw[td]at h1;rw[Bw]at h2 h3;simp only at h1 h2 h3;rw[hb0]at h1;simp only[xas,Obj.cells.injEq]at h1;obtain⟨rfl,_,_⟩:=h1;exact⟨h2,h3⟩
   refine⟨ab,ao,cap,c,T,fz,by rw[Du],by omega,yP hb0,?_,λi r hr j v hj=>?_⟩
   ·have ace:=acE (rest.length) ((r0::rest)[rest.length]' zI) (xaa zI);have:=ace.1;simp only[xaH,xbC];omega
   obtain⟨h1,h2⟩:=acE i r hr;have VS:j<k:=by
    have:=(xak.1 hj).1;rw[aI r (xav hr)]at this;exact this
   have h3:=xcj (λz:Array zV=>z[j]?) h2;simp only[xdh,xdp]at h3;rw[hj]at h3;rw[<-h3,xad zO]
 obtain⟨_,hd⟩:=BI i r hr;have RN:i<len:=by rw[<-Du];exact(xak.1 hr).1
 exact⟨n,_,_,_,hd,by rw[hx],by simp[RN]⟩
end
end Go.Sx
set_option maxRecDepth 100000
namespace Go.Proofs
open Go Go.Sx
section
open Go.ChangeShapes Go.WideShapes Go.Deep
variable {H:Type} {enc:TypeId×zV->H} {W:World} {base:Nat} {spare:Nat->Bool} {held:Bool}
theorem Vl{f:FuncId}{args:Array zV}{W:World}(h:Rd zQ f args (whole W) (· =.bool true)):
  Calls zQ f args W λe W'=>e=.returned (.bool true)/\Go.RowKit.Below W.heap.size W W':=
 YE (h.mono λ_ _ ⟨h1,h2⟩=>⟨by rw[h1];exact .refl _,h2⟩)
end
end Go.Proofs
namespace aA
def Rm.ED(m:Rm)(g:Nat)(ord:zL)(p:Nat)(dn:Bool):Nat->Nat->Nat->Nat->Nat×Nat×Nat
 |0,j,b,q=>(j,b,q)
 |k+1,j,b,q=>
  if m.fit (ay ord (road p j)) (bif dn then j else j-1)=true then
   if(if m.size (ay ord (road p (bif dn then j+1 else j-1)))<b then m.size (ay ord (road p (bif dn then j+1 else j-1)))else b)*g<m.size (ay ord (road p (bif dn then j+1 else j-1)))*100 then
    (bif dn then j+1 else j-1,if m.size (ay ord (road p (bif dn then j+1 else j-1)))<b then m.size (ay ord (road p (bif dn then j+1 else j-1)))else b,if m.size (ay ord (road p (bif dn then j+1 else j-1)))<b then(bif dn then j+1 else j-1)else q)
   else m.ED g ord p dn k (bif dn then j+1 else j-1) (if m.size (ay ord (road p (bif dn then j+1 else j-1)))<b then m.size (ay ord (road p (bif dn then j+1 else j-1)))else b) (if m.size (ay ord (road p (bif dn then j+1 else j-1)))<b then(bif dn then j+1 else j-1)else q)
  else(j,b,q)
def dst(x y:Nat):Nat:=(x-y)+(y-x)
def Rm.rest(m:Rm)(dn:Bool)(j:Nat):Nat:=bif dn then m.n-1-j else j
def Rm.sA(m:Rm)(g:Nat)(ord:zL)(p:Nat):Nat×Nat:=
 let dn:=decide (m.n-1-p<=p)
 let a:=m.ED g ord p dn (m.rest dn p) p (m.size ord) p
 let b:=m.ED g ord p (!dn) (m.rest (!dn) p) p a.2.1 a.2.2
 (b.2.2,dst a.1 p+dst a.1 p+dst b.1 p+if b.2.2≠a.2.2 then dst b.1 b.2.2 else dst b.1 p+dst p b.2.2)
def Rm.ct(m:Rm)(g:Nat)(ord:zL):zL->zL×Nat
 | []=>([],0)
 |v::r=>let p:=ord.idxOf v;let a:=m.sA g ord p;let b:=m.ct g (ay ord (road p a.1)) r;(road p a.1++b.1,a.2+b.2)
structure adI(m:Rm)(ord:zL)(p:Nat)(dn:Bool)(k j b q:Nat)(r:Nat×Nat×Nat):Prop where
 way:bif dn then j<=r.1/\r.1<=j+k else r.1<=j/\j<=r.1+k
 size:r.2.1=m.size (ay ord (road p r.2.2))
 new:(r.2.1=b/\r.2.2=q)\/(r.2.1<b/\bif dn then j<r.2.2/\r.2.2<=r.1 else r.1<=r.2.2/\r.2.2<j)
 fit:∀i,(bif dn then j<=i/\i<r.1 else r.1<i/\i<=j)->m.fit (ay ord (road p i)) (bif dn then i else i-1)=true
theorem Rm.vR(m:Rm)(g:Nat)(ord:zL)(p:Nat)(dn:Bool):∀k j b q,(dn=false->k<=j)->b=m.size (ay ord (road p q))->adI m ord p dn k j b q (m.ED g ord p dn k j b q)
 |0,j,b,q,hk,hb=>⟨by cases dn<;>simp[ED],hb,.inl ⟨rfl,rfl⟩,λi hi=>by cases dn<;>simp[ED]at hi<;>omega⟩
 |k+1,j,b,q,hk,hb=>by
  rw[ED];by_cases hf:m.fit (ay ord (road p j)) (bif dn then j else j-1)=true
  ·rw[xad hf];obtain⟨J,hJ⟩:∃J,J=bif dn then j+1 else j-1:=⟨_,rfl⟩;rw[<-hJ];obtain⟨s,hs⟩:∃s,s=m.size (ay ord (road p J)):=⟨_,rfl⟩;rw[<-hs];obtain⟨B,hB⟩:∃B,B=if s<b then s else b:=⟨_,rfl⟩
   obtain⟨Q,hQ⟩:∃Q,Q=if s<b then J else q:=⟨_,rfl⟩
   rw[<-hB,<-hQ];have hbq:(B=b/\Q=q)\/(B<b/\Q=J):=by
    by_cases h:s<b
    ·rw[xad h]at hB hQ;exact .inr ⟨by omega,hQ⟩
    rw[xac h]at hB hQ;exact .inl ⟨hB,hQ⟩
   have hb':B=m.size (ay ord (road p Q)):=by
    by_cases h:s<b
    ·rw[xad h]at hB hQ;rw[hB,hQ,hs]
    rw[xac h]at hB hQ;rw[hB,hQ,hb]
   clear hB hQ;by_cases hg:B*g<s*100
   ·rw[xad hg];refine⟨?_,hb',?_,λi hi=>?_⟩
    ·cases dn
     ·simp only[xah]at hJ⊢;have:=hk rfl;omega
     simp only[xaq]at hJ⊢;omega
    ·cases dn
     ·simp only[xah]at hJ⊢;have:=hk rfl;omega
     simp only[xaq]at hJ⊢;omega
    have:i=j:=by
     cases dn
     ·simp only[xah]at hi hJ;omega
     simp only[xaq]at hi hJ;omega
    subst this;exact hf
   rw[xac hg];have ih:=m.vR g ord p dn k J B Q (λh=>by subst h;have:=hk rfl;simp only[xah]at hJ;omega) hb';obtain⟨w1,w2,w3,w4⟩:=ih;refine⟨?_,w2,?_,λi hi=>?_⟩
   ·cases dn
    ·simp only[xah]at w1 hJ⊢;have:=hk rfl;omega
    simp only[xaq]at w1 hJ⊢;omega
   ·cases dn
    ·simp only[xah]at w3 w1 hJ⊢;have:=hk rfl;omega
    simp only[xaq]at w3 w1 hJ⊢;omega
   by_cases e:i=j
   ·subst e;exact hf
   refine w4 i ?_;cases dn
   ·simp only[xah]at hi hJ⊢;omega
   simp only[xaq]at hi hJ⊢;omega
  rw[xac hf];exact⟨by cases dn<;>simp,hb,.inl ⟨rfl,rfl⟩,λi hi=>by cases dn<;>simp at hi<;>omega⟩
structure adF(m:Rm)(ord:zL)(p:Nat)(r:Nat×Nat):Prop where
 lt:r.1<m.n
 le:m.size (ay ord (road p r.1))<=m.size ord
 stay:m.size (ay ord (road p r.1))=m.size ord->r.1=p
 uT:r.2<=3*(m.n-1)
theorem Rm.AI(m:Rm)(g:Nat){ord:zL}{p:Nat}(hp:p<m.n):adF m ord p (m.sA g ord p):=by
 have ha:=m.vR g ord p (decide (m.n-1-p<=p)) (m.rest (decide (m.n-1-p<=p)) p) p (m.size ord) p (λh=>by unfold Rm.rest;rw[h];exact xag _) (by rw[fC];rfl);unfold sA;simp only;generalize decide (m.n-1-p<=p)=dn at*;generalize m.ED g ord p dn (m.rest dn p) p (m.size ord) p=a at*;have hb:=m.vR g ord p (!dn) (m.rest (!dn) p) p a.2.1 a.2.2 (λh=>by unfold Rm.rest;rw[h];exact xag _) ha.size;generalize m.ED g ord p (!dn) (m.rest (!dn) p) p a.2.1 a.2.2=b at*;obtain⟨a1,a2,a3,a4⟩:=ha;obtain⟨b1,b2,b3,b4⟩:=hb;unfold Rm.rest at a1 b1;refine⟨?_,?_,λh=>?_,?_⟩
 ·cases dn<;>simp only[xah,xaq,xcq,xco]at a1 b1 a3 b3<;>simp only<;>omega
 ·simp only;rw[<-b2];cases dn<;>simp only[xah,xaq,xcq,xco]at a1 b1 a3 b3<;>omega
 ·simp only at h⊢;rw[<-b2]at h;cases dn<;>simp only[xah,xaq,xcq,xco]at a1 b1 a3 b3<;>omega
 unfold dst;cases dn<;>simp only[xah,xaq,xcq,xco]at a1 b1 a3 b3<;>simp only<;>split<;>omega
end aA
namespace aA
section
variable {m:Rm} {g:Nat}
theorem KU{p q:Nat}(hp:p<m.n)(hq:q<m.n):∀x∈road p q,x+1<m.n:=λx hx=>Qw hp hq hx
theorem FV{ord:zL}{v n:Nat}(hp:ord.Perm (List.range n))(hv:v<n):ord.idxOf v<n:=by
 have h1:v∈ord:=hp.mem_iff.2 (xaM.2 hv);have h2:=xeg h1;rwa [hp.length_eq,xaz]at h2
theorem mD{ord path:zL}{n:Nat}(hp:ord.Perm (List.range n))(h:∀x∈path,x+1<n):(ay ord path).Perm (List.range n):=
 (k9 λx hx=>by rw[hp.length_eq,xaz];exact h x hx).trans hp
structure Z3(m:Rm)(g:Nat)(ord l:zL)(r:zL×Nat):Prop where
 mem:∀x∈r.1,x+1<m.n
 le:m.size (ay ord r.1)<=m.size ord
 stay:m.size (ay ord r.1)=m.size ord->r.1=[]/\∀v∈l,(m.sA g ord (ord.idxOf v)).1=ord.idxOf v
 uT:r.2<=3*(m.n-1)*l.length
 len:r.1.length<=m.n*l.length
theorem mF:∀{l ord:zL},ord.Perm (List.range m.n)->(∀v∈l,v<m.n)->Z3 m g ord l (m.ct g ord l)
 | [],ord,hp,hl=>⟨by simp[Rm.ct],xag _,λ_=>⟨rfl,by simp⟩,by simp[Rm.ct],by simp[Rm.ct]⟩
 |v::l,ord,hp,hl=>by
  have hv:=FV hp (hl v zI);have h1:=m.AI g (ord:=ord) hv;rw[Rm.ct];generalize hq:ord.idxOf v=p at*;generalize hr:m.sA g ord p=a at*;obtain⟨a1,a2,a3,a4⟩:=h1;have hin:=KU hv a1;have h2:=mF (l:=l) (ord:=ay ord (road p a.1)) (mD hp hin) (λx hx=>hl x (by simp[hx]));generalize m.ct g (ay ord (road p a.1)) l=b at*;obtain⟨b1,b2,b3,b4,b5⟩:=h2;have Du:=vg p a.1;refine⟨λx hx=>?_,?_,λh=>?_,?_,?_⟩
  ·rcases xao.1 hx with h|h
   ·exact hin x h
   exact b1 x h
  ·rw[cr];omega
  ·rw[cr]at h;have e:=a3 zO;rw[e,fC]at b3 h⊢;obtain⟨c1,c2⟩:=b3 h;refine⟨by rw[c1];rfl,λu hu=>?_⟩;rcases xam.1 hu with rfl|hu
   ·rw[hq,hr];exact e
   exact c2 u hu
  ·rw[xaH,xdx,xb4];show a.2+b.2<=_;omega
  rw[xaf,xaH,xdx,xb4];omega
def Rm.df(m:Rm)(g:Nat)(ord:zL):List (zL)->zL×Nat
 | []=>([],0)
 |l::r=>let a:=m.ct g ord l;let b:=m.df g (ay ord a.1) r;(a.1++b.1,a.2+b.2)
def Rm.tH(m:Rm)(g:Nat)(ord:zL):List (zL)->Prop
 | []=>False
 | [l]=>¬m.size (ay ord (m.ct g ord l).1)<m.size ord
 |l::r=>m.size (ay ord (m.ct g ord l).1)<m.size ord/\m.tH g (ay ord (m.ct g ord l).1) r
theorem qu{ord l:zL}{r:List (zL)}(hr:r≠[]):m.tH g ord (l::r)↔m.size (ay ord (m.ct g ord l).1)<m.size ord/\m.tH g (ay ord (m.ct g ord l).1) r:=by
 cases r with
 |nil=>exact absurd rfl hr
 |cons a b=>exact xcR
structure Z4(m:Rm)(g:Nat)(ord:zL)(ls:List (zL))(r:zL×Nat):Prop where
 mem:∀x∈r.1,x+1<m.n
 le:m.size (ay ord r.1)<=m.size ord
 Yp:1<=ls.length/\ls.length+m.size (ay ord r.1)<=m.size ord+1
 still:∀v,v<m.n->(m.sA g (ay ord r.1) ((ay ord r.1).idxOf v)).1=(ay ord r.1).idxOf v
 uT:r.2<=3*(m.n-1)*m.n*ls.length
 len:r.1.length<=m.n*m.n*ls.length
theorem KN:∀{ls:List (zL)} {ord:zL},ord.Perm (List.range m.n)->(∀l∈ls,l.Perm (List.range m.n))->m.tH g ord ls->Z4 m g ord ls (m.df g ord ls)
 | [],ord,hp,hl,hg=>hg.elim
 | [l],ord,hp,hl,hg=>by
  have VP:=hl l zI;have ng:l.length=m.n:=by rw[VP.length_eq,xaz]
  obtain⟨a1,a2,a3,a4,a5⟩:=mF (g:=g) hp (λv hv=>xaM.1 (VP.mem_iff.1 hv)) (l:=l);have XB:¬m.size (ay ord (m.ct g ord l).1)<m.size ord:=hg;have h:m.df g ord [l]=((m.ct g ord l).1++[],(m.ct g ord l).2+0):=rfl;rw[h,xaL,xcv];have he:m.size (ay ord (m.ct g ord l).1)=m.size ord:=by omega
  obtain⟨c1,c2⟩:=a3 he;refine⟨a1,a2,⟨by simp,by simp;omega⟩,λv hv=>?_,by rw[ng]at a4;simpa using a4,by rw[ng]at a5;simpa using a5⟩;rw[c1];exact c2 v (VP.mem_iff.2 (xaM.2 hv))
 |l::l2::r,ord,hp,hl,hg=>by
  have VP:=hl l zI;have ng:l.length=m.n:=by rw[VP.length_eq,xaz]
  obtain⟨a1,a2,a3,a4,a5⟩:=mF (g:=g) hp (λv hv=>xaM.1 (VP.mem_iff.1 hv)) (l:=l);obtain⟨g1,g2⟩:=(qu zI).1 hg;have ih:=KN (ls:=l2::r) (mD hp a1) (λx hx=>hl x (by simp[xam.1 hx])) g2;have h:m.df g ord (l::l2::r)=((m.ct g ord l).1++(m.df g (ay ord (m.ct g ord l).1) (l2::r)).1,(m.ct g ord l).2+(m.df g (ay ord (m.ct g ord l).1) (l2::r)).2):=rfl;rw[h];generalize m.ct g ord l=a at*;generalize m.df g (ay ord a.1) (l2::r)=b at*;obtain⟨b1,b2,b3,b4,b5,b6⟩:=ih;refine⟨λx hx=>?_,by rw[cr];omega,⟨by simp,?_⟩,?_,?_,?_⟩
  ·rcases xao.1 hx with h|h
   ·exact a1 x h
   exact b1 x h
  ·rw[cr,xaH];omega
  ·rw[cr];exact b4
  ·show a.2+b.2<=_;rw[ng]at a4;rw[xaH,xdx,xb4];omega
  rw[ng]at a5;rw[xaf,xaH,xdx,xb4];omega
theorem yE{v:Nat}:∀{l ord:zL},m.ct g ord (l++[v])=((m.ct g ord l).1++road ((ay ord (m.ct g ord l).1).idxOf v) (m.sA g (ay ord (m.ct g ord l).1) ((ay ord (m.ct g ord l).1).idxOf v)).1,(m.ct g ord l).2+(m.sA g (ay ord (m.ct g ord l).1) ((ay ord (m.ct g ord l).1).idxOf v)).2)
 | [],ord=>by simp[Rm.ct,ay]
 |u::l,ord=>by
  rw[xaR,Rm.ct,Rm.ct];simp only;rw[yE (l:=l)];simp only[cr,xaj,xcS]
theorem yF{l:zL}:∀{ls:List (zL)} {ord:zL},m.df g ord (ls++[l])=((m.df g ord ls).1++(m.ct g (ay ord (m.df g ord ls).1) l).1,(m.df g ord ls).2+(m.ct g (ay ord (m.df g ord ls).1) l).2)
 | [],ord=>by simp[Rm.df,ay]
 |u::ls,ord=>by
  rw[xaR,Rm.df,Rm.df];simp only;rw[yF (ls:=ls)];simp only[cr,xaj,xcS]
def Rm.sU(m:Rm)(g:Nat)(ord:zL):List (zL)->Prop
 | []=>True
 |l::r=>m.size (ay ord (m.ct g ord l).1)<m.size ord/\m.sU g (ay ord (m.ct g ord l).1) r
theorem tI{l:zL}:∀{ls:List (zL)} {ord:zL},m.sU g ord ls->m.size (ay (ay ord (m.df g ord ls).1) (m.ct g (ay ord (m.df g ord ls).1) l).1)<m.size (ay ord (m.df g ord ls).1)->m.sU g ord (ls++[l])
 | [],ord,_,h=>⟨h,trivial⟩
 |u::ls,ord,h1,h=>by
  refine⟨h1.1,tI (ls:=ls) h1.2 ?_⟩;rw[Rm.df]at h;simp only[cr]at h;exact h
theorem DK{l:zL}:∀{ls:List (zL)} {ord:zL},m.sU g ord ls->¬m.size (ay (ay ord (m.df g ord ls).1) (m.ct g (ay ord (m.df g ord ls).1) l).1)<m.size (ay ord (m.df g ord ls).1)->m.tH g ord (ls++[l])
 | [],ord,_,h=>h
 |u::ls,ord,h1,h=>by
  rw[xaR,qu zI];refine⟨h1.1,DK (ls:=ls) h1.2 ?_⟩;rw[Rm.df]at h;simp only[cr]at h;exact h
structure TL(m:Rm)(g:Nat)(ord:zL)(ls:List (zL))(r:zL×Nat):Prop where
 mem:∀x∈r.1,x+1<m.n
 le:ls.length+m.size (ay ord r.1)<=m.size ord
 uT:r.2<=3*(m.n-1)*m.n*ls.length
 len:r.1.length<=m.n*m.n*ls.length
theorem zk:∀{ls:List (zL)} {ord:zL},ord.Perm (List.range m.n)->(∀l∈ls,l.Perm (List.range m.n))->m.sU g ord ls->TL m g ord ls (m.df g ord ls)
 | [],ord,hp,hl,hg=>⟨by simp[Rm.df],by simp[Rm.df,ay],by simp[Rm.df],by simp[Rm.df]⟩
 |l::r,ord,hp,hl,hg=>by
  have VP:=hl l zI;have ng:l.length=m.n:=by rw[VP.length_eq,xaz]
  obtain⟨a1,a2,a3,a4,a5⟩:=mF (g:=g) hp (λv hv=>xaM.1 (VP.mem_iff.1 hv)) (l:=l);have ih:=zk (ls:=r) (mD hp a1) (λx hx=>hl x (by simp[hx])) hg.2;have hg1:=hg.1;rw[Rm.df];generalize m.ct g ord l=a at*;generalize m.df g (ay ord a.1) r=b at*;obtain⟨b1,b2,b3,b4⟩:=ih;rw[ng]at a4 a5;refine⟨λx hx=>?_,by rw[cr,xaH];omega,?_,?_⟩
  ·rcases xao.1 hx with h|h
   ·exact a1 x h
   exact b1 x h
  ·rw[xaH,xdx,xb4];show a.2+b.2<=_;omega
  rw[xaf,xaH,xdx,xb4];omega
end
end aA
set_option maxRecDepth 100000
namespace Go.Proofs
open Go Go.Sx
section
open aA
def g9(kp a b q gr sw:Nat)(la:Int)(st:zV):Array zV:=#[ptr kp,iv (a:Int),iv (b:Int),iv (q:Int),iv (gr:Int),iv (sw:Int),iv la,st]
def fA(wp:Nat)(c:Array zV):Nat×Obj:=(wp,.cells c 324 zZ)
def pV(bx wp:Nat):Nat×Obj:=(bx,.cells #[ptr wp] 321 zZ)
def stf(dn:Bool):Nat:=bif dn then 335 else 337
def BF(dn:Bool)(bx:Nat):zV:=.func (.func (stf dn)) #[] #[ptr bx]
def Ez:Hp->Nat
 |(_,.cells c _ _)::_=>bL c.toList 1
 |_=>0
section
variable {kp wp bx a b q gr sw p:Nat} {la:Int} {st:zV} {K:Kd} {S:Nat->aA.Fn} {ord o tr:zL} {C:Hp} {dn:Bool}
theorem PW{l a':Nat}{d:Int}(h:At kp K S ord tr C)(hl:l+1<K.n)(eG:tr.length<17592186044416)(hf:jc K S ord l)(ha:(a:Int)+d=(a':Int))(hb:a'<1024)(BH:sw<4611686018427387904):
  Fc zQ 336 #[ptr wp,iv (l:Int),iv d] (fA wp (g9 kp a b q gr sw la st)::C) (λv H=>v=iv 0/\∃C',H=fA wp (g9 kp a' b q gr (sw+1) la st)::C'/\At kp K S (fM ord l) (tr++[l]) C'):=by
 refine aF λg=>xm (Ld.n ?_);refine aa.fq (uK h hl eG hf) ?_;rintro v C' ⟨rfl,h'⟩;intro J6 h6;refine ae.gI (Br.T (Ld.n ?_));refine ae.inc (Nil.ptr (ai.mk (St.one (c':=g9 kp a b q gr (sw+1) la st) (by exact .head _) rfl (by simp[g9]) rfl ?_)));refine Ld.n ?_;refine ae.En (c:=(a':Int)) ha zO (Nil.ptr (ai.mk (St.one (c':=g9 kp a' b q gr (sw+1) la st) (by exact .head _) rfl (by simp[g9]) rfl ?_)));exact JE.mk (h6 _ λgs=>aM.here ⟨rfl,C',rfl,h'⟩)
theorem W6{l:Nat}{d:Int}(h:At kp K S ord tr C)(hl:l+1<K.n)(eG:tr.length<17592186044416)(hf:¬jc K S ord l):
  Rd zQ 336 #[ptr wp,iv (l:Int),iv d] (fA wp (g9 kp a b q gr sw la st)::C) (· =iv 9):=by
 refine aF λg=>xm (Ld.n ?_);refine aa.eq (mY h hl eG hf) λJ6 h6=>?_;exact ae.gI (Br.F (JE.mk (h6 _ λgs=>aZ.mk (.refl _) rfl)))
theorem sq(h:At kp K S ord tr C)(TV:1<=K.n):
  Fc zQ 266 #[ptr wp,.bool dn] (fA wp (g9 kp a b q gr sw la st)::C) (λv H=>v=.tuple #[]/\∃bx,H=fA wp (g9 kp a b q gr sw (bif dn then((K.n-1:Nat):Int)else 0) (BF dn bx))::pV bx wp::C):=by
 have hn:=h.lz;refine aF λg=>IT λb1 _=>?_;cases dn
 ·refine Br.no (Ld.q ?_);refine Nil.ptr (ai.mk (St.one (c':=g9 kp a b q gr sw 0 st) (by exact .tail (.head _)) rfl (by simp[g9]) rfl ?_));refine Ld.q ?_;refine Nil.ptr (ai.mk (St.one (c':=g9 kp a b q gr sw 0 (BF false b1)) (by exact .tail (.head _)) rfl (by simp[g9]) rfl ?_));exact aM.mk .swap ⟨rfl,b1,rfl⟩
 refine Br.yes (DR.self (Ld.q ?_));refine Ld.q ?_;refine Ld.n ?_;intro F;refine aa.eq (mX h) (⟨.refl _,?_⟩);refine ae.bZ (b:=1) (Nil.ptr (ai.mk λF=>(St.one (c':=g9 kp a b q gr sw ((K.n-1:Nat):Int) st) (by exact .tail (.head _)) rfl (by simp[g9]) rfl ?_)));refine Ld.q ?_;refine Nil.ptr (ai.mk (St.one (c':=g9 kp a b q gr sw ((K.n-1:Nat):Int) (BF true b1)) (by exact .tail (.head _)) rfl (by simp[g9]) rfl ?_));exact aM.mk .swap ⟨rfl,b1,rfl⟩
def oK(dn:Bool)(j:Nat):Nat:=bif dn then j+1 else j-1
def Ye(dn:Bool)(j:Nat):Nat:=bif dn then j else j-1
theorem Qv{j:Nat}(hs:bif dn then p<=j else 0<j/\j<=p):road p (oK dn j)=road p j++[Ye dn j]:=by
 cases dn
 ·simp only[xah]at hs;obtain⟨i,rfl⟩:∃i,j=i+1:=⟨j-1,by omega⟩;exact oF hs.2
 exact oE hs
theorem Ca{j:Nat}(h:At kp K S (ay o (road p j)) (tr++road p j) C)(hp:p<K.n)(hs:bif dn then p<=j/\j+1<K.n else 0<j/\j<=p)(eG:(tr++road p j).length<17592186044416)(hf:jc K S (ay o (road p j)) (Ye dn j))(BH:sw<4611686018427387904):
  Fc zQ (stf dn) #[ptr bx] (fA wp (g9 kp j b q gr sw la st)::pV bx wp::C) (λv H=>v=iv 0/\∃C',H=fA wp (g9 kp (oK dn j) b q gr (sw+1) la st)::pV bx wp::C'/\At kp K S (ay o (road p (oK dn j))) (tr++road p (oK dn j)) C'):=by
 have hn:=h.lz;have hr:=Qv (p:=p) (dn:=dn) (j:=j) (by cases dn<;>simp only[xah,xaq]at hs⊢ <;>omega);intro g;rw[hr,eR,<-xaj];cases dn
 ·simp only[xah]at hs;refine xl (R:=aM _) ?_;unfold L337;refine DR.self (Ld.q ?_);refine Ld.q ?_;refine Ld.n ?_;refine ae.bZ (b:=1) λF=>?_;refine aa.pre .swap ?_;refine aa.fn (.cons .here) (PW (a':=j-1) h zO eG hf zO zO BH) ?_;rintro v H ⟨rfl,C',rfl,h'⟩;exact aM.mk .swap ⟨rfl,C',rfl,h'⟩
 simp only[xaq]at hs;refine xp (R:=aM _) ?_;unfold L335;refine DR.self (Ld.q ?_);refine Ld.q ?_;refine Ld.n ?_;intro F;refine aa.pre .swap ?_;refine aa.fn (.cons .here) (PW (a':=j+1) h zO eG hf zO zO BH) ?_;rintro v H ⟨rfl,C',rfl,h'⟩;exact aM.mk .swap ⟨rfl,C',rfl,h'⟩
theorem Ux{j:Nat}(h:At kp K S ord tr C)(hs:bif dn then j+1<K.n else 0<j/\j<K.n)(eG:tr.length<17592186044416)(hf:¬jc K S ord (Ye dn j)):
  Rd zQ (stf dn) #[ptr bx] (fA wp (g9 kp j b q gr sw la st)::pV bx wp::C) (· =iv 9):=by
 have hn:=h.lz;intro g;cases dn
 ·simp only[xah]at hs;refine xl (R:=aM _) ?_;unfold L337;refine DR.self (Ld.q ?_);refine Ld.q ?_;refine Ld.n ?_;refine ae.bZ (b:=1) λF=>?_;refine aa.pre .swap ?_;exact aa.eq (W6 h zO eG hf) (aZ.mk .swap rfl)
 simp only[xaq]at hs;refine xp (R:=aM _) ?_;unfold L335;refine DR.self (Ld.q ?_);refine Ld.q ?_;refine Ld.n ?_;intro F;refine aa.pre .swap ?_;exact aa.eq (W6 h zO eG hf) (aZ.mk .swap rfl)
theorem B9(dn:Bool):aU zQ (stf dn)=true:=by cases dn<;>kernel_rfl
theorem p9{n j:Nat}(hn:n<=64)(hp:p<n)(hj:j<n):(road p j).length<=64:=by rw[vg];omega
theorem Qr(h0:At kp K S o tr C)(hp:p<K.n)(lZ:100<=gr/\gr<=1000)(hb:b<=1048576)(BH:sw<1099511627776)(eG:tr.length<17454747090944)(hla:la=bif dn then((K.n-1:Nat):Int)else 0){r:Nat×Nat×Nat}(hr:(rm K S).ED gr o p dn ((rm K S).rest dn p) p b q=r):
  Fc zQ 267 #[ptr wp] (fA wp (g9 kp p b q gr sw la (BF dn bx))::pV bx wp::C) (λv H=>v=.tuple #[]/\∃C',H=fA wp (g9 kp r.1 r.2.1 r.2.2 gr (sw+dst r.1 p) la (BF dn bx))::pV bx wp::C'/\At kp K S (ay o (road p r.1)) (tr++road p r.1) C'):=by
 have hn:=h0.lz;refine aF λg=>IS ?_;refine⟨λvs H=>∃(k j b' q':Nat) (C':Hp),vs=[]/\H=fA wp (g9 kp j b' q' gr (sw+dst j p) la (BF dn bx))::pV bx wp::C'/\At kp K S (ay o (road p j)) (tr++road p j) C'/\k=(rm K S).rest dn j/\(bif dn then p<=j/\j<K.n else j<=p)/\b'<=1048576/\(rm K S).ED gr o p dn k j b' q'=r,
  λ_ H=>bif dn then K.n-Ez H else Ez H,JE.mk ⟨_,p,b,q,C,rfl,by simp[dst],by rw[fC,xaL];exact h0,rfl,by cases dn<;>simp[hp],hb,hr⟩,?_⟩
 rintro H ⟨k,j,b',q',C',_,rfl,hA,hk,hs,hb',ug⟩ gs;have TW:j<K.n:=by cases dn<;>simp only[xah,xaq]at hs<;>omega
 have Gd:dst j p<=64:=by unfold dst;omega
 have Du:=p9 hn hp TW;have x4:(tr++road p j).length<17592186044416:=by rw[xaf];omega
 have v7:(rm K S).n=K.n:=rfl;have hsz:∀o:zL,(rm K S).size o=cG K S o:=λ_=>rfl;intro J5 h5;have fin:r=(j,b',q')->J5 [.bool false] (fA wp (g9 kp j b' q' gr (sw+dst j p) la (BF dn bx))::pV bx wp::C'):=λe=>h5 _ _ λgs=>Br.no (aM.here ⟨rfl,C',by rw[e],by rw[e];exact hA⟩);refine DR.self (Ld.n ?_);refine Ld.n ?_;refine ae.cD (Br.dec (λhne=>?_) (λheq=>?_));rotate_left
 ·have Zi:k=0:=by
   rw[hk];unfold Rm.rest;cases dn<;>simp only[xah,xaq]at hla⊢ <;>omega
  subst Zi;exact JE.mk (fin ug.symm)
 have v9:bif dn then j+1<K.n else 0<j:=by
  cases dn<;>simp only[xah,xaq]at hla⊢ <;>omega
 obtain⟨k',hk'⟩:∃k',k=k'+1:=by
  refine⟨k-1,?_⟩;rw[hk];unfold Rm.rest;cases dn<;>simp only[xah,xaq]at v9⊢ <;>omega
 subst hk';rw[Rm.ED]at ug;change (if(rm K S).fit (ay o (road p j)) (Ye dn j)=true then _ else _)=r at ug;refine Ld.n ?_;intro F;refine aK.of (f:=stf dn) rfl (B9 dn) ?_;by_cases hf:jc K S (ay o (road p j)) (Ye dn j);rotate_left
 ·refine aa.eq (args:=#[ptr bx]) (Ux hA (by cases dn<;>simp only[xah,xaq]at v9⊢ <;>omega) x4 hf) (ae.gI (aD.mk ?_));rw[xac (λh=>hf (qc.1 h))]at ug;exact JE.mk (fin ug.symm)
 refine aa.fn (args:=#[ptr bx]) .here (Ca hA hp (by cases dn<;>simp only[xah,xaq]at v9 hs⊢ <;>omega) x4 hf zO) ?_;rintro v H ⟨rfl,C2,rfl,nX⟩;refine ae.gI (aD.mk ?_);rw[xad (show(rm K S).fit (ay o (road p j)) (Ye dn j)=true from qc.2 hf)]at ug;change (if(if(rm K S).size (ay o (road p (oK dn j)))<b' then(rm K S).size (ay o (road p (oK dn j)))else b')*gr<(rm K S).size (ay o (road p (oK dn j)))*100 then(oK dn j,if(rm K S).size (ay o (road p (oK dn j)))<b' then(rm K S).size (ay o (road p (oK dn j)))else b',if(rm K S).size (ay o (road p (oK dn j)))<b' then oK dn j else q')else(rm K S).ED gr o p dn k' (oK dn j) (if(rm K S).size (ay o (road p (oK dn j)))<b' then(rm K S).size (ay o (road p (oK dn j)))else b') (if(rm K S).size (ay o (road p (oK dn j)))<b' then oK dn j else q'))=r at ug;have hle:=iF nX;rw[hsz]at ug;have afz:sw+dst j p+1=sw+dst (oK dn j) p:=by unfold dst oK;cases dn<;>simp only[xah,xaq]at v9 hs⊢ <;>omega
 rw[afz];have hnk:k'=(rm K S).rest dn (oK dn j):=by
  unfold Rm.rest at hk⊢;unfold oK;cases dn<;>simp only[xah,xaq]at v9 hk⊢ <;>omega
 have Ny:bif dn then p<=oK dn j/\oK dn j<K.n else oK dn j<=p:=by
  unfold oK;cases dn<;>simp only[xah,xaq]at v9 hs⊢ <;>omega
 have hms:(bif dn then K.n-oK dn j else oK dn j)<(bif dn then K.n-j else j):=by
  unfold oK;cases dn<;>simp only[xah,xaq]at v9⊢ <;>omega
 generalize hj':oK dn j=j' at*;generalize hs':cG K S (ay o (road p j'))=s at*;have ab0:∀b2 q2,Ez (fA wp (g9 kp j b' q' gr (sw+dst j p) la (BF dn bx))::pV bx wp::C')=j/\∀C2,Ez (fA wp (g9 kp j' b2 q2 gr (sw+dst j' p) la (BF dn bx))::pV bx wp::C2)=j':=λb2 q2=>⟨by simp[Ez,fA,g9,bL],λC2=>by simp[Ez,fA,g9,bL]⟩;refine JE.mk (h5 _ _ λgs=>Br.yes ?_);refine Ld.n ?_;refine aa.eq (cF nX) ?_;rw[hs'];intro J14 h14;have next:∀b2 q2,b2<=1048576->(if b2*gr<s*100 then(j',b2,q2)else(rm K S).ED gr o p dn k' j' b2 q2)=r->J14 [] (fA wp (g9 kp j' b2 q2 gr (sw+dst j' p) la (BF dn bx))::pV bx wp::C2):=by
  intro b2 q2 sb qK;refine h14 _ λgs=>?_;have uf:b2*gr<=1048576*1000:=xcb sb lZ.2;refine ae.xW (b:=100) (Ld.n ?_);refine Ld.n ?_;refine ae.xW (ae.nh (Br.dec (λhgt=>?_) (λhgt=>?_)))
  ·rw[xad hgt]at qK;subst qK;exact aM.here ⟨rfl,C2,rfl,nX⟩
  rw[xac hgt]at qK;refine aC.mk ⟨k',j',b2,q2,C2,rfl,rfl,nX,hnk,Ny,sb,qK⟩ ?_;rw[(ab0 b2 q2).1,(ab0 b2 q2).2];exact hms
 refine Ld.n ?_;refine ae.fk (Br.dec (λhlt=>?_) (λhlt=>?_))
 ·rw[xad hlt,xad hlt]at ug;refine Ld.n ?_;refine Nil.ptr (ai.mk (St.one (c':=g9 kp j' s q' gr (sw+dst j' p) la (BF dn bx)) (by exact .head _) rfl (by simp[g9]) rfl ?_));refine Nil.ptr (ai.mk (St.one (c':=g9 kp j' s j' gr (sw+dst j' p) la (BF dn bx)) (by exact .head _) rfl (by simp[g9]) rfl ?_));exact JE.mk (next _ _ zO ug)
 rw[xac hlt,xac hlt]at ug;exact JE.mk (next _ _ hb' ug)
theorem As{j t:Nat}(h:At kp K S (ay o (road p j)) (tr++road p j) C)(EF:o.length=K.n)(hp:p<K.n)(hjt:(p<=t/\t<=j/\j<K.n)\/(j<=t/\t<=p))(BH:sw<17592186044416)(eG:tr.length<17454747090944):
  Fc zQ 268 #[ptr wp,iv (t:Int)] (fA wp (g9 kp j b q gr sw la st)::C) (λv H=>v=.tuple #[]/\∃C',H=fA wp (g9 kp t b q gr (sw+dst j t) la st)::C'/\At kp K S (ay o (road p t)) (tr++road p t) C'):=by
 have hn:=h.lz;refine aF λg=>IQ ?_;refine⟨λvs H=>∃(i:Nat) (C':Hp),vs=[]/\H=fA wp (g9 kp i b q gr (sw+dst j i) la st)::C'/\At kp K S (ay o (road p i)) (tr++road p i) C'/\((p<=t/\t<=i/\i<=j/\j<K.n)\/(j<=i/\i<=t/\t<=p)),
  λ_ H=>dst (Ez H) t,JE.mk ⟨j,C,rfl,by simp[dst],h,by omega⟩,?_⟩
 rintro H ⟨i,C',_,rfl,hA,hs⟩ gs;have hin:i<K.n:=by omega
 have hdi:dst j i<=64:=by unfold dst;omega
 have Du:=p9 hn hp hin;have FY:∀i sw C',Ez (fA wp (g9 kp i b q gr sw la st)::C')=i:=λi sw C'=>by simp[Ez,fA,g9,bL]
 refine Ld.n ?_;refine ae.yL (Br.dec (λhne=>?_) (λheq=>?_));rotate_left
 ·obtain rfl:i=t:=by omega
  exact aM.here ⟨rfl,C',rfl,hA⟩
 refine Ld.n ?_;rcases hs with hs|hs
 ·obtain⟨i,rfl⟩:∃i',i=i'+1:=⟨i-1,by omega⟩;rw[oE zO,eR,<-xaj]at hA;refine aa.fq (Bu hA (by rw[oE zO,xaf,xbP]at Du;rw[xaf];omega)) ?_;rintro w C2 ⟨rfl,nX⟩;rw[qV (by rw[eJ,EF];omega)]at nX;refine Ext.two (Ld.n ?_);refine ae.inc (Nil.ptr (ai.mk (St.one (c':=g9 kp (i+1) b q gr (sw+dst j (i+1)+1) la st) (by exact .head _) rfl (by simp[g9]) rfl ?_)));refine Ld.n ?_;refine ae.fk (Br.T (Nil.ptr (ai.mk (St.one (c':=g9 kp i b q gr (sw+dst j (i+1)+1) la st) (by exact .head _) rfl (by simp[g9]) rfl ?_))));refine aC.mk ⟨i,C2,rfl,by rw[show sw+dst j (i+1)+1=sw+dst j i by unfold dst;omega];rfl,nX,by omega⟩ ?_;show dst (Ez (fA wp (g9 kp i b q gr (sw+dst j (i+1)+1) la st)::C2)) t<dst (Ez (fA wp (g9 kp (i+1) b q gr (sw+dst j (i+1)) la st)::C')) t;rw[FY,FY];unfold dst;omega
 rw[oF zO,eR,<-xaj]at hA;refine aa.fq (Bu hA (by rw[oF zO,xaf,xbP]at Du;rw[xaf];omega)) ?_;rintro w C2 ⟨rfl,nX⟩;rw[qV (by rw[eJ,EF];omega)]at nX;refine Ext.two (Ld.n ?_);refine ae.inc (Nil.ptr (ai.mk (St.one (c':=g9 kp i b q gr (sw+dst j i+1) la st) (by exact .head _) rfl (by simp[g9]) rfl ?_)));refine Ld.n ?_;refine ae.fk (Br.F (ae.inc (Nil.ptr (ai.mk (St.one (c':=g9 kp (i+1) b q gr (sw+dst j i+1) la st) (by exact .head _) rfl (by simp[g9]) rfl ?_)))));refine aC.mk ⟨i+1,C2,rfl,by rw[show sw+dst j i+1=sw+dst j (i+1)by unfold dst;omega];rfl,nX,by omega⟩ ?_;show dst (Ez (fA wp (g9 kp (i+1) b q gr (sw+dst j i+1) la st)::C2)) t<dst (Ez (fA wp (g9 kp i b q gr (sw+dst j i) la st)::C')) t;rw[FY,FY];unfold dst;omega
end
end
section
open aA
section
variable {kp v gr:Nat} {K:Kd} {S:Nat->aA.Fn} {ord tr:zL} {C:Hp}
theorem pZ(kp:Nat){gr:Int}(C:Hp):Rd zQ 186 #[ptr kp,iv gr] C (· =iv (if gr<100\/1000<gr then 1 else 0)):=by
 refine aF λg=>JD (ae.aH (Br.no (ae.lss (cm.or (decide (1000<gr)) (λ_=>ae.gtr ⟨rfl,rfl⟩) rfl λgs=>?_))));by_cases h:gr<100\/1000<gr
 ·rw[xad h];refine Br.T9 ?_ (aZ.mk (.refl _) rfl);simpa using h
 rw[xac h];refine Br.TQ ?_ (aZ.mk (.refl _) rfl);simpa using h
theorem Ym(hp:ord.Perm (List.range K.n)){p:Nat}(TT:p<K.n)(hv:ord.getD p 0=v):ord.idxOf v=p:=by
 have EF:ord.length=K.n:=by rw[hp.length_eq,xaz]
 have fO:ord.Nodup:=hp.nodup_iff.2 xbn;have hm:v∈ord:=by
  rw[<-hv,xap,xaa zO];exact xaF _
 have h1:=xeg hm;refine getD_inj fO h1 zO ?_;rw[hv,xap,xaa h1];exact List.getElem_idxOf h1
theorem UB(h:At kp K S ord tr C)(hp:ord.Perm (List.range K.n))(hv:v<K.n)(lZ:100<=gr/\gr<=1000)(eG:tr.length<17454747090944){r:Nat×Nat}(hr:(rm K S).sA gr ord (ord.idxOf v)=r):
  Fc zQ 188 #[ptr kp,iv (v:Int),iv (gr:Int)] C (λw H=>w=.tuple #[rep (cG K S ord) (cG K S (ay ord (road (ord.idxOf v) r.1))) r.2,iv 0]/\At kp K S (ay ord (road (ord.idxOf v) r.1)) (tr++road (ord.idxOf v) r.1) H):=by
 have hn:=h.lz;have EF:ord.length=K.n:=by rw[hp.length_eq,xaz]
 have hsz:=iF h;have v7:(rm K S).n=K.n:=rfl;refine aF λg=>JB λb1 _=>?_;refine aa.eq (pZ kp (gr:=(gr:Int)) C) ?_;rw[xac zO];refine ae.cD (Br.F (aa.rq (Eg h hv) ?_));rintro w ⟨p,TT,YZ,rfl⟩;have Y7:=Ym hp TT YZ;rw[Y7]at hr⊢;have ak3:p<(rm K S).n:=TT;refine Ext.two (ae.cD (Br.F (aa.eq (cF h) (Build.mk (cs:=[iv ((cG K S ord:Nat):Int),iv 0,iv 0,.bool false]) zK λwR _=>?_))));refine St.q ?_;refine Ld.f ?_;refine Build.mk (cs:=[ptr kp,iv (p:Int),iv ((cG K S ord:Nat):Int),iv (p:Int),iv (gr:Int),iv 0,iv 0,.nilFunc]) zK λwp _=>?_;refine aa.eq (mX h) (ae.bZ (b:=1) (ae.bZ (ae.xX ?_)));obtain⟨X,hX⟩:∃X:Hp,X=[(wR,Obj.cells (List.toArray [iv ((cG K S ord:Nat):Int),iv 0,iv 0,.bool false]) 147 zZ),(b1,Obj.cells #[iv 0,iv 0,iv 0,.bool false] 147 zZ)]:=⟨_,rfl⟩;unfold Rm.sA at hr;simp only[v7]at hr;rw[show(rm K S).size ord=cG K S ord from rfl]at hr;generalize hdn:decide (K.n-1-p<=p)=dn at*;have ahg:∀x:Nat×Obj,aL (x::(wR,Obj.cells (List.toArray [iv ((cG K S ord:Nat):Int),iv 0,iv 0,.bool false]) 147 zZ)::(b1,Obj.cells #[iv 0,iv 0,iv 0,.bool false] 147 zZ)::C) (X++(x::C)):=λx=>.perm (by rw[hX];exact(xaS (l₁:=[_,_])).symm);refine aa.pre (ahg _) ?_;refine aa.fq (sq (wp:=wp) (a:=p) (b:=cG K S ord) (q:=p) (gr:=gr) (sw:=0) (la:=0) (st:=.nilFunc) (dn:=dn) h zO) ?_;rintro w H ⟨rfl,bx,rfl⟩;refine aa.fn (.app .here) (Qr h TT lZ zO zO eG rfl rfl) ?_;rintro w H ⟨rfl,C1,rfl,We⟩;have Dy:=(rm K S).vR gr ord p dn ((rm K S).rest dn p) p (cG K S ord) p (λh=>by unfold Rm.rest;rw[h];exact xag _) (by rw[fC];rfl);generalize (rm K S).ED gr ord p dn ((rm K S).rest dn p) p (cG K S ord) p=a at*;have qK:=(rm K S).vR gr ord p (!dn) ((rm K S).rest (!dn) p) p a.2.1 a.2.2 (λh=>by unfold Rm.rest;rw[h];exact xag _) Dy.size;obtain⟨a1,a2,a3,a4⟩:=Dy;unfold Rm.rest at a1;rw[v7]at a1;have uj:a.1<K.n/\((p<=a.1)\/(a.1<=p)):=by cases dn<;>simp only[xah,xaq]at a1<;>omega
 have hab:a.2.1<=1048576:=by
  have:a.2.1<=cG K S ord:=by omega
  omega
 have Po:dst a.1 p<=64:=by unfold dst;omega
 refine aa.pre (aL.cU (.cons .tail) X) ?_;refine aa.fn (.app .here) (As (t:=p) We EF TT zO zO eG) ?_;rintro w H ⟨rfl,C2,rfl,nX⟩;rw[fC,xaL]at nX;have nX:At kp K S ord tr C2:=nX;refine Ld.n ?_;refine Un.not (aa.fq (sq (dn:= !dn) nX zO) ?_);rintro w H ⟨rfl,bx2,rfl⟩;refine aa.fn (.app .here) (Qr nX TT lZ hab zO eG rfl rfl) ?_;rintro w H ⟨rfl,C3,rfl,EI⟩;generalize (rm K S).ED gr ord p (!dn) ((rm K S).rest (!dn) p) p a.2.1 a.2.2=b at*;obtain⟨e1,e2,e3,e4⟩:=qK;unfold Rm.rest at e1;rw[v7]at e1;have zc:bif dn then p<=a.2.2/\a.2.2<=a.1 else a.1<=a.2.2/\a.2.2<=p:=by
  cases dn<;>simp only[xah,xaq]at a3 a1⊢ <;>omega
 have hb1:b.1<K.n/\((p<=b.1)\/(b.1<=p)):=by cases dn<;>simp only[xah,xaq,xcq,xco]at e1<;>omega
 have x8:dst b.1 p<=64:=by unfold dst;omega
 intro J47 h47;have fin:∀(bb:Nat) (FL:Int) (st':zV) (Cf:Hp),At kp K S (ay ord (road p r.1)) (tr++road p r.1) Cf->J47 [] (X++(fA wp (g9 kp r.1 bb r.1 gr r.2 FL st')::Cf)):=by
  intro bb FL st' Cf hAf;rw[hX];refine h47 _ λgs=>?_;refine DR.of (R:=[fA wp (g9 kp r.1 bb r.1 gr r.2 FL st')]) (aL.Yy (.tail _ (.tail _ (.head _)))) (Ld.n ?_);intro F;refine aa.eq (cF hAf) (⟨aL.Yy (.tail _ (.tail _ (.head _))),?_⟩);refine ai.mk λF=>(St.one (c':=#[iv ((cG K S ord:Nat):Int),iv ((cG K S (ay ord (road p r.1)):Nat):Int),iv 0,.bool false]) (by exact .head _) rfl zI rfl ?_);refine⟨aL.Yy (.tail _ (.tail _ (.head _))),?_⟩;refine ai.mk λF=>(St.one (c':=#[iv ((cG K S ord:Nat):Int),iv ((cG K S (ay ord (road p r.1)):Nat):Int),iv ((r.2:Nat):Int),.bool false]) (by exact .head _) rfl zI rfl ?_);refine ax.q ?_;refine St.q ?_;refine ax.q ?_;exact aM.mk (.skip (.skip .tail)) ⟨rfl,hAf⟩
 refine Ld.n ?_;refine ae.yL (Br.dec (λhne=>?_) (λheq=>?_))
 ·-- the other way is better
  rw[xad hne]at hr;refine Ld.n ?_;refine aa.pre (aL.cU (.cons .tail) X) ?_;have hbt:(p<=b.2.2/\b.2.2<=b.1/\b.1<K.n)\/(b.1<=b.2.2/\b.2.2<=p):=by
   cases dn<;>simp only[xah,xaq,xcq,xco]at e3 e1<;>omega
  refine aa.fn (.app .here) (As (t:=b.2.2) EI EF TT hbt zO eG) ?_;rintro w H ⟨rfl,C4,rfl,ZL⟩;subst hr;refine JE.mk ?_;rw[xa3];exact fin b.2.1 _ _ C4 ZL
 -- back again
 have heq:b.2.2=a.2.2:=xek.1 heq;rw[xac (λh=>h heq)]at hr;refine aa.pre (aL.cU (.cons .tail) X) ?_;refine aa.fn (.app .here) (As (t:=p) EI EF TT zO zO eG) ?_;rintro w H ⟨rfl,C4,rfl,ZL⟩;rw[fC,xaL]at ZL;have ZL:At kp K S ord tr C4:=ZL;refine aa.fq (sq (dn:=dn) ZL zO) ?_;rintro w H ⟨rfl,S7,rfl⟩;obtain⟨s3,hs3⟩:∃s3,s3=0+dst a.1 p+dst a.1 p+dst b.1 p+dst b.1 p:=⟨_,rfl⟩;rw[<-hs3];obtain⟨Xe,afX⟩:∃Xe,Xe=(bif dn then((K.n-1:Nat):Int)else 0):=⟨_,rfl⟩;rw[<-afX];refine⟨λvs H=>∃(i:Nat) (C':Hp),vs=[]/\H=fA wp (g9 kp i b.2.1 b.2.2 gr (s3+dst p i) Xe (BF dn S7))::pV S7 wp::(X++C')/\At kp K S (ay ord (road p i)) (tr++road p i) C'/\(bif dn then p<=i/\i<=b.2.2 else b.2.2<=i/\i<=p),
  λ_ H=>dst (Ez H) b.2.2,JE.of (H':=fA wp (g9 kp p b.2.1 b.2.2 gr s3 Xe (BF dn S7))::pV S7 wp::(X++C4)) (.perm ?_) ⟨p,C4,rfl,by simp[dst],by rw[fC,xaL];exact ZL,?_⟩,?_⟩
 ·exact(xaS (l₁:=X)).trans (List.Perm.cons _ xaS)
 ·rw[heq];cases dn<;>simp only[xah,xaq]at zc⊢ <;>omega
 rintro H ⟨i,C5,_,rfl,hA5,hi⟩ gs;rw[heq]at hi;have hin:i<K.n:=by cases dn<;>simp only[xah,xaq]at hi zc<;>omega
 have hdi:dst p i<=64:=by unfold dst;omega
 have Du:=p9 hn TT hin;intro J83 h83;refine DR.self (Ld.n ?_);refine Ld.n ?_;refine ae.yL (Br.dec (λhne=>?_) (λhie=>?_))
 ·refine Ld.n ?_;intro F;refine aK.of (f:=stf dn) rfl (B9 dn) ?_;have RD:aL (fA wp (g9 kp i b.2.1 b.2.2 gr (s3+dst p i) Xe (BF dn S7))::pV S7 wp::(X++C5)) (X++(fA wp (g9 kp i b.2.1 b.2.2 gr (s3+dst p i) Xe (BF dn S7))::pV S7 wp::C5)):=
   .perm ((xaS (l₁:=X)).trans (List.Perm.cons _ xaS)).symm
  refine aa.pre RD ?_;have hstep:bif dn then p<=i/\i+1<K.n else 0<i/\i<=p:=by
   rw[heq]at hne;cases dn<;>simp only[xah,xaq]at hi zc⊢ <;>omega
  have hfit:jc K S (ay ord (road p i)) (Ye dn i):=by
   refine qc.1 (a4 i ?_);rw[heq]at hne;cases dn<;>simp only[xah,xaq]at hi zc⊢ <;>omega
  refine aa.fn (args:=#[ptr S7]) (.app .here) (Ca hA5 TT hstep (by rw[xaf];omega) hfit zO) ?_;rintro w H ⟨rfl,C6,rfl,hA6⟩;refine ae.gI (aD.mk ?_);have A6:s3+dst p i+1=s3+dst p (oK dn i):=by unfold dst oK;cases dn<;>simp only[xah,xaq]at hstep⊢ <;>omega
  rw[A6];refine JE.of (.perm ((xaS (l₁:=X)).trans (List.Perm.cons _ xaS))) (h83 _ _ λgs=>Br.yes ?_);refine aC.mk ⟨oK dn i,C6,rfl,rfl,hA6,?_⟩ ?_
  ·rw[heq]at hne⊢;unfold oK;cases dn<;>simp only[xah,xaq]at hi hstep⊢ <;>omega
  have FY:∀i sw C',Ez (fA wp (g9 kp i b.2.1 b.2.2 gr sw Xe (BF dn S7))::C')=i:=λi sw C'=>by simp[Ez,fA,g9,bL]
  rw[FY,FY,heq];rw[heq]at hne;unfold oK dst;cases dn<;>simp only[xah,xaq]at hi hstep⊢ <;>omega
 have hie:i=b.2.2:=xek.1 hie;subst hie;subst hr;refine JE.mk (h83 _ _ λgs=>Br.no ?_);refine JE.of ?_ (fin b.2.1 Xe (BF dn S7) C5 hA5);refine(aL.cons .tail).trans ?_;refine(aL.perm (xaS (l₁:=X)).symm).trans ?_;have e:s3+dst p b.2.2=dst a.1 p+dst a.1 p+dst b.1 p+(dst b.1 p+dst p b.2.2):=by omega
 rw[e];exact .refl _
end
end
section
theorem P6{n A:Nat}{L:List (zL)}(hn:n<=16)(hl:L.length<33554432){k:Nat}(hk:k<=n):(an.st n L A k).length<2199023255551:=by
 have h2:=an.sr n L A k;have h3:2^k<=2^16:=xay zD zO;have h4:2^k*L.length<=2^16*L.length:=xaV _ h3;omega
theorem SF{B:Hp}{v1 v2:zV}{a b:zL}(h1:Words B v1 a)(h2:Words B v2 b)(cJ:a.length<2^62):Rd zQ 386 #[v1,v2] B (· =.bool (decide (a=b))):=by
 refine aF λg=>G9 (h1.1.bP (h2.1.bP ?_));simp only[ak];refine ae.yL (Br.dec (λh=>?_) (λh=>?_))
 ·exact aZ.mk (.refl _) (by rw[xai (λe=>h (by rw[e]))])
 refine h1.1.bP ?_;simp only[ak];have hlen:a.length=b.length:=by omega
 refine⟨λvs H=>H=B/\∃j:Nat,vs=[iv (j:Int)]/\j<=a.length/\∀i,i<j->a[i]? =b[i]?,λvs _=>a.length-bL vs 0,JE.mk ⟨rfl,0,rfl,by omega,by omega⟩,?_⟩;rintro w H ⟨rfl,j,⟨⟩,hj,aI⟩ gs;refine ae.fk (Br.dec (λhlt=>?_) (λhlt=>?_))
 ·have ga:a[j]? =some a[j]:=xaa hlt;have gb:b[j]? =some b[j]:=xaa zO;refine h1.1.ld (cQ ga) (λ_ h=>h) ?_;refine h2.1.ld (cQ gb) (λ_ h=>h) ?_;refine ae.yL (Br.dec (λhne=>?_) (λhne=>?_))
  ·exact aZ.mk (.refl _) (by rw[xai];rintro rfl;exact hne rfl)
  refine ae.inc (aC.mk ⟨rfl,j+1,rfl,by omega,λi hi=>?_⟩ (by simp[bL];omega));by_cases e:i=j
  ·subst e;rw[ga,gb];simp;omega
  exact aI i zO
 refine aZ.mk (.refl _) ?_;rw[xal];apply xbg ;intro i;by_cases hi:i<a.length
 ·exact aI i zO
 rw[xaE zO,xaE zO]
theorem QZ{B:Hp}{v:zV}{n u A:Nat}{L:List (zL)}(ht:jE B v (L.map λws=>⟨n,ws⟩))(hf:∀ws∈L,an.fg n ws)(hne:L≠[])(cJ:L.length<4398046511104)(hA:A<2^n)(hu:u<n)(hAu:A.testBit u=false):
  Rd zQ 349 #[v,.int .u64 (A:Int),iv (u:Int)] B (· =.tuple #[iv ((an.lvl n L A u:Nat):Int),iv 0]):=by
 obtain⟨w0,TS⟩:∃w0,L[0]? =some w0:=⟨_,xaa (xc9.2 hne)⟩;have v8:n<=16:=(hf w0 (xav TS)).xU;have alN:A<65536:=xaO hA (xay (n:=2) zD v8);refine aF λg=>HG (aa.eq (ve ht zP) ?_);rw[xal (CK hf)];refine Un.not (Br.no λJ hJ=>(ht.bP ?_));rw[xaC];have hpos:0<L.length:=xc9.2 hne;refine ae.nh (b:=0) (Br.adw hpos (ht.ldN (i:=0) (t:=⟨n,w0⟩) (by rw[xau,TS];rfl) (λ_ h=>h) ?_));refine JE.mk (hJ _ _ λgs=>?_);simp only;refine ae.lss (cm.or (decide (n<=u)) (λ_=>?_) rfl λgs=>?_)
 ·exact ae.qM ⟨by trivial,rfl⟩
 rw[show(decide ((u:Int)<0)||decide (n<=u))=false by simp;omega];refine cm.or (decide (A>>>n≠0)) (λ_=>?_) rfl λgs=>?_
 ·exact ae.iM (by simp[bG];omega) (ae.yL (b:=0) ⟨by trivial,rfl⟩)
 rw[show(false||decide (A>>>n≠0))=false by rw[xaZ,xdr hA];rfl];apply Br.no;have abL:∀k,A>>>k<18446744073709551616:=λk=>xaA (xbo _ _) zO;refine ae.iM (by simp[bG];omega) (ae.jz (b:=1) (by simpa[bG]using abL u) zD (ae.dQ (b:=1) (Br.SM (by rw[an.uJ,hAu];simp) (aa.fq (M3 ht rfl hf zO) ?_))));rintro r H ⟨b,es,ck,m,N,rfl,rfl,hE,hm⟩;have hbound:∀k,k<=n->∀m:List (List UInt8×zL),(m.map Prod.snd).Nodup->(∀x,x∈m.map Prod.snd↔x∈an.st n L A k)->m.length<4611686018427387904:=by
  intro k hk m fO hmem;have h1:=(an.jo fO (an.nF n L A k) hmem).length_eq;have h2:=an.sr n L A k;have h3:2^k<=2^16:=xay zD zO;have h4:2^k*L.length<=2^16*L.length:=xaV _ h3;rw[xaC]at h1;omega
 refine⟨λvs H=>∃(k:Nat) (b:Nat) (es:Array MapEntry) (ck:Nat) (m:List (List UInt8×zL)) (N:Hp),vs=[.map (some b),iv (k:Int)]/\k<=n/\H=(b,.map es ck)::(N++B)/\gG n (N++B) es ck m/\∀x,x∈m.map Prod.snd↔x∈an.st n L A k,
  λvs _=>n-bL vs 1,JE.mk ⟨0,b,es,ck,m,N,rfl,by omega,rfl,hE,λx=>by rw[hm];exact an.gv.symm⟩,?_⟩
 clear hm hE;rintro w25 w26 H ⟨k,b,es,ck,m,N,⟨⟩,hk,rfl,hE,hm⟩ gs;have sQ:=hE.mono (B':=(b,Obj.map es ck)::(N++B)) zS;refine ae.fk (Br.dec (λhlt=>?_) (λhlt=>?_))
 ·intro J hJ;refine ae.iM (by simp[bG];omega) (ae.jz (b:=1) (by simpa[bG]using abL k) zD (ae.dQ (b:=1) (Br.dec (λh=>?_) (λh=>?_))))
  ·have hb:=(an.uJ A k).1 h;refine aa.fq (DJ (.head _) sQ hlt (hbound k hk m hE.nodup hm)) ?_;rintro r H ⟨b',es',bB,m',N',rfl,rfl,DE,hm'⟩;refine Ext.mk rfl (Ext.mk rfl (JE.mk (hJ _ _ λgs=>?_)));refine ae.inc (aC.mk ⟨k+1,b',es',bB,m',N'++(b,.map es ck)::N,rfl,by omega,by rw[xaj];rfl,by rw[xaj];exact DE,λx=>?_⟩ (by simp[bL];omega));rw[hm',an.st,xad hb,an.cg];constructor
   ·rintro⟨t,h1,h2⟩;exact⟨t,(hm t).1 h1,h2⟩
   rintro⟨t,h1,h2⟩;exact⟨t,(hm t).2 h1,h2⟩
  have hb:A.testBit k=false:=by cases hh:A.testBit k;rfl;exact absurd ((an.uJ A k).2 hh) h
  refine JE.mk (hJ _ _ λgs=>?_);refine ae.inc (aC.mk ⟨k+1,b,es,ck,m,N,rfl,by omega,rfl,hE,λx=>?_⟩ (by simp[bL];omega));rw[hm,an.st,hb];simp
 have:k=n:=by omega
 subst this;refine aa.fq (DJ (.head _) sQ hu (hbound k hk m hE.nodup hm)) ?_;rintro r H ⟨b',es',bB,m',N',rfl,rfl,DE,hm'⟩;refine Ext.mk rfl (Ext.mk rfl (aZ.mk ?_ ?_))
 ·exact .skip (.fT (.skip .right))
 have:=an.mK (n:=k) (v:=u) (an.jo hE.nodup (an.nF k L A k) hm);unfold an.lvl;rw[<-this];rfl
theorem uU{B:Hp}{v:zV}{t:Tb}(ht:EO B v t):Rd zQ 348 #[v] B (· =.tuple (if TF t then#[.int .u64 ((an.pW t.n.toNat t.ws:Nat):Int),iv 0]else#[.int .u64 0,iv 5])):=by
 obtain⟨tn,ws⟩:=t;obtain⟨s,rfl,hw⟩:=ht;simp only at hw⊢;refine aF λg=>HH λb1 _=>?_;refine ax.q ?_;refine wP λb2=>?_;refine aa.rd .here (wx (t:=⟨tn,ws⟩) (by exact .head _) (hw.mono zS)) ?_;rintro v rfl;apply Un.not;by_cases hT:TF ⟨tn,ws⟩
 case neg=>
  rw[xai hT,xac hT];exact Br.yes (aZ.mk (by repeat (first|exact aL.refl _|apply aL.cons|apply aL.skip|apply aL.cU|apply aL.fT)) rfl)
 rw[xal hT,xad hT];apply Br.no;obtain⟨n,rfl⟩:∃n:Nat,tn=n:=⟨tn.toNat,by have:=hT.1;simp only at this;omega⟩;have hf:an.fg n ws:=by have:=hT.2;simpa using this
 refine ai.mk (Ld.mk zM rfl ?_);refine⟨λvs H=>∃(k:Nat) (N:Hp),vs=[.int .u64 ((an.lf n ws k:Nat):Int),iv (k:Int)]/\k<=n/\H=(b1,.cells (Value.cells (.agg #[iv (n:Int),s])) 116 zZ)::(N++B),
  λvs _=>n-bL vs 1,JE.of .tail ⟨0,[],rfl,by omega,rfl⟩,?_⟩
 rintro w15 w16 H ⟨k,N,⟨⟩,hk,rfl⟩ gs;have v8:=hf.xU;have Xq:=an.nE n ws k;have aku:an.lf n ws k<65536:=xaO Xq (xay (n:=2) zD (by omega:k<=16));refine ae.fk (Br.dec (λhlt=>?_) (λhlt=>?_))
 ·intro J hJ;refine DR.self (ax.q (ax.q ?_));refine aa.pq (B:=N++B) (Bc (v:=.agg (List.toArray [iv (n:Int),s])) ⟨s,rfl,hw.mono zS⟩ hf hlt) ?_;rintro v N1 ⟨s1,rfl,ju⟩;refine⟨.cons .right,An.mk rfl ?_⟩;refine aa.pq (B:=N1++(N++B)) (Bc (v:=.agg (List.toArray [iv (n:Int),s])) ⟨s,rfl,hw.mono zS⟩ hf hlt) ?_;rintro v N2 ⟨s2,rfl,pH⟩;refine⟨.cons (.fT .right),An.mk rfl ?_⟩;refine aa.eq (B:=N2++(N1++(N++B))) (SF (ju.mono zS) pH (by have:=uF (an.eB (v:=k) (ws:=ws) (b:=false) hf.xU);simp only;omega)) (⟨.cons (.fT .right),Un.not ?_⟩);have ic:JE J [.int .u64 ((an.lf n ws (k+1):Nat):Int)] ((b1,.cells (Value.cells (.agg #[iv (n:Int),s])) 116 zZ)::(N2++(N1++(N++B)))):=by
   refine JE.mk (hJ _ _ λgs=>?_);exact ae.inc (aC.mk ⟨k+1,N2++(N1++N),rfl,by omega,by rw[xaj,xaj]⟩ (by simp[bL];omega))
  rw[an.lf]at ic;by_cases hd:an.dep n ws k=true
  ·rw[xad hd]at ic;have:an.iK n ws k false≠an.iK n ws k true:=by simpa[an.dep]using hd
   rw[xai this];refine Br.yes (ae.nr (a:=1) ?_);have h2:2^k<65536:=xaO (xbt (n:=16) zD zO) zD;rw[xa6,xbm zO];exact ae.K7 (by simp[bG];omega) (by simp[bG];omega) ic
  rw[xac hd]at ic;have:an.iK n ws k false=an.iK n ws k true:=by simpa[an.dep]using hd
  rw[xal this];exact Br.no ic
 have:k=n:=by omega
 subst this;refine aZ.mk (.skip .right) ?_;simp[an.pW]
theorem QK{B:Hp}{v:zV}{ts:List Tb}(ht:jE B v ts)(cJ:ts.length<4398046511104):Px zQ 347 #[v] B (λr _=>∃s,r=.tuple #[s,iv (if rZ ts then 0 else 5)]):=by
 refine aF λg=>HJ (aa.eq (ve ht zO) (Un.not ?_));by_cases hO:rZ ts
 case neg=>rw[xai hO,xac hO];exact Br.yes (GR.mk (.refl _) ⟨_,rfl⟩)
 rw[xal hO,xad hO];refine Br.no (ht.bP (ae.dQ (b:=0) (Br.dec (λh0=>GR.mk (.refl _) ⟨_,rfl⟩) (λh0=>?_))));obtain⟨n,L,v8,rfl,hne,hf⟩:=K9 hO (by intro e;rw[e]at h0;exact h0 rfl);rw[xaC]at cJ;obtain⟨w0,TS⟩:∃w0,L[0]? =some w0:=⟨_,xaa (xc9.2 hne)⟩;refine ht.ldN (i:=0) (t:=⟨n,w0⟩) (by rw[xau,TS];rfl) (λ_ h=>h) ?_;simp only;refine cW.ints zO zO λbw=>?_;refine ht.bP ?_;refine⟨λvs H=>∃(k:Nat) (l:zL),vs=[iv (k:Int)]/\k<=L.length/\H=(bw,.cells (av .u64 (iw l)) 33 zZ)::B/\l.length=n/\∀w∈l,w<18446744073709551616,
  λvs _=>L.length-bL vs 0,JE.mk ⟨0,List.replicate n 0,rfl,by omega,by simp[iw],by simp,λw hw=>by rw[xb0 hw];decide⟩,?_⟩
 rintro w H ⟨k,l,⟨⟩,hk,rfl,hl,Xy⟩ gs;rw[xaC];refine ae.fk (Br.dec (λhlt=>?_) (λhlt=>?_))
 ·have hg:(L.map λws=>(⟨n,ws⟩:Tb))[k]? =some ⟨n,L[k]⟩:=by rw[xau,xaa hlt];rfl
  have pn:=hf L[k] (xaF hlt);refine ht.ld hg zS λs hw=>?_;intro b2 _;refine St.p ?_ ?_
  ·have:=bO hw;simpa[Value.oneCell']using this
  refine ax.q ?_;refine aa.eq (B:=B) (uU (v:=.agg (List.toArray [iv (n:Int),s])) (t:=⟨n,L[k]⟩) ⟨s,rfl,hw⟩) ?_;rw[xad (show TF ⟨(n:Int),L[k]⟩from⟨by simp,by simpa using pn⟩)];refine Ext.mk rfl (Ext.mk rfl (aR.mk ?_));simp only[xbh];have abJ:an.pW n L[k]<65536:=xaO (an.nE n L[k] n) (xay (n:=2) zD v8);refine⟨λvs H=>∃(j:Nat) (l:zL),vs=[iv (j:Int)]/\j<=n/\H=(bw,.cells (av .u64 (iw l)) 33 zZ)::B/\l.length=n/\∀w∈l,w<18446744073709551616,
   λvs _=>n-bL vs 0,JE.of .tail ⟨0,l,rfl,by omega,rfl,hl,Xy⟩,?_⟩
  rintro w H ⟨j,l,⟨⟩,hj,rfl,hl,Xy⟩ gs;refine ae.fk (Br.dec (λXz=>?_) (λXz=>?_))
  ·intro J hJ;have ic:∀l:zL,l.length=n->(∀w∈l,w<18446744073709551616)->JE J [] ((bw,.cells (av .u64 (iw l)) 33 zZ)::B):=λl hl Xy=>by
    refine JE.mk (hJ _ λgs=>?_);exact ae.inc (aC.mk ⟨j+1,l,rfl,by omega,rfl,hl,Xy⟩ (by simp[bL];omega))
   have hsh:an.pW n L[k]>>>j<65536:=xaA (xbo _ _) abJ;refine ae.iM (by simp[bG];omega) (ae.jz (b:=1) (by simp[bG];omega) zD (ae.dQ (b:=1) (Br.dec (λh=>?_) (λh=>ic l hl Xy))));refine DR.self ?_;have hgj:l[j]? =some l[j]:=xaa zO;have hlj:=Xy _ (xaF (show j<l.length by omega));refine au.nat Xz ?_;refine Ld.mk (v:=.int .u64 (l[j]:Int)) (by exact .head _) (by simp[av,iw,hgj]) ?_;refine ae.nr (a:=1) ?_;have h2:2^j<65536:=xaO (xbt (n:=16) zD zO) zD;rw[xa6,xbm zO];refine ae.Ei (by simp[bG];omega) (by simp[bG];omega) ?_;have h3:=m4 (an.pW n L[k]) (2^j);refine ae.K7 (by simp only[bG];exact hlj) (by simp only[bG];omega) (au.nat Xz ?_);refine St.ints (l:=iw l) (by exact .head _) zP ?_;have e:(iw l).set j ((l[j]|||m5 (an.pW n L[k]) (2^j):Nat):Int)=iw (l.set j (l[j]|||m5 (an.pW n L[k]) (2^j))):=by simp[iw,xcN]
   rw[e];refine ic _ (by simp[hl]) λw hw=>?_;rcases xcg hw with hw|rfl
   ·exact Xy w hw
   exact xbF (n:=64) hlj zO
  exact ae.inc (aC.mk ⟨k+1,l,rfl,by omega,rfl,hl,Xy⟩ (by simp[bL];omega))
 exact GR.mk (by repeat (first|exact bV.refl _|apply bV.cons|apply bV.app)) ⟨_,rfl⟩
end
end Go.Proofs
namespace an
open Go.Sx
def gC:zL->Nat
 | []=>0
 |x::r=>r.foldl min x
theorem rO:∀(r:zL) (x:Nat),r.foldl min x<=x/\∀y∈r,r.foldl min x<=y
 | [],x=>⟨xag _,by simp⟩
 |z::r,x=>by
  obtain⟨h1,h2⟩:=rO r (min x z);refine⟨by rw[xcD];omega,λy hy=>?_⟩;rw[xcD];rcases xam.1 hy with rfl|hy
  ·omega
  exact h2 y hy
theorem pN:∀(r:zL) (x:Nat),r.foldl min x=x\/r.foldl min x∈r
 | [],x=>.inl rfl
 |z::r,x=>by
  rw[xcD];rcases pN r (min x z)with h|h
  ·rw[h];rcases Nat.le_total x z with h'|h'
   ·left;omega
   right;rw[xds h'];simp
  right;exact xbA _ h
theorem Db{l:zL}{y:Nat}(h:y∈l):gC l<=y:=by
 cases l with
 |nil=>simp at h
 |cons x r=>
  obtain⟨h1,h2⟩:=rO r x;rcases xam.1 h with rfl|h
  ·exact h1
  exact h2 y h
theorem oS{l:zL}(h:l≠[]):gC l∈l:=by
 cases l with
 |nil=>exact absurd rfl h
 |cons x r=>
  rcases pN r x with h|h
  ·show r.foldl min x∈_;rw[h];simp
  exact xbA _ h
theorem Dc{l:zL}{m:Nat}(h1:m∈l)(h2:∀y∈l,m<=y):gC l=m:=
 xd5 (Db h1) (h2 _ (oS (by intro e;rw[e]at h1;simp at h1)))
theorem FB(l:zL)(x:Nat):gC (l++[x])=if l=[]then x else min (gC l) x:=by
 cases l with
 |nil=>rfl
 |cons y r=>simp[gC,xdn]
def bM(n a:Nat):zL:=(List.range n).filter λv=> !a.testBit v
def has(n a:Nat):zL:=(List.range n).filter λv=>a.testBit v
theorem cP{n a v:Nat}:v∈bM n a↔v<n/\a.testBit v=false:=by simp[bM]
theorem rh{n a v:Nat}:v∈has n a↔v<n/\a.testBit v=true:=by simp[has]
theorem n6{α:Type}(p q:α->Bool)(x:α):∀(l:List α),l.Nodup->x∈l->p x=true->q x=false->(∀y∈l,y≠x->q y=p y)->(l.filter q).length+1=(l.filter p).length
 | [],_,h,_,_,_=>by simp at h
 |y::l,nd,h,hp,hq,aI=>by
  rw[xaX]at nd;by_cases e:y=x
  ·subst e;have hsame:l.filter q=l.filter p:=by
    apply xdm;intro z hz;exact aI z (by simp[hz]) (λe=>nd.1 (e▸hz))
   rw[xbb,xbb,hp,hq,hsame];simp
  have hxl:x∈l:=by rcases xam.1 h with h|h;exact absurd h.symm e;exact h
  have ih:=n6 p q x l nd.2 hxl hp hq λz hz hne=>aI z (by simp[hz]) hne;have hy:=aI y zI e;rw[xbb,xbb,hy];cases p y
  ·simpa using ih
  simp only[xa7,xaH];omega
theorem qX{a u v:Nat}(h:v≠u):(aB a u true).testBit v=a.testBit v:=by rw[aj,xac h]
theorem gM{n a v:Nat}(h:v∈bM n a):(bM n (aB a v true)).length+1=(bM n a).length:=by
 obtain⟨h1,h2⟩:=cP.1 h;refine n6 _ _ v (List.range n) xbn (xaM.2 h1) (by simp[h2]) (by simp[aj]) λy hy hne=>?_;rw[qX hne]
def Tf(n:Nat)(c:Nat->Nat->Nat):Nat->Nat->Nat
 |0,_=>0
 |f+1,a=>gC ((bM n a).map λv=>c a v+Tf n c f (aB a v true))
def par(n:Nat)(c:Nat->Nat->Nat):Nat->Nat->Nat
 |0,_=>0
 |f+1,s=>gC ((has n s).map λv=>c (aB s v false) v+par n c f (aB s v false))
theorem Eb{n:Nat}{c:Nat->Nat->Nat}:∀(f:Nat) (a:Nat),(bM n a).length<=f->Tf n c (f+1) a=Tf n c f a
 |0,a,h=>by
  have:bM n a=[]:=xda.1 zO;simp[Tf,this,gC]
 |f+1,a,h=>by
  rw[Tf,Tf];congr 1;apply xbq;intro v hv;rw[Eb f _ (by have:=gM hv;omega)]
theorem Va(n a:Nat):(bM n a).length<=n:=by have:=xbO (λv=> !a.testBit v) (List.range n);simpa[bM]using this
def B(n:Nat)(c:Nat->Nat->Nat)(a:Nat):Nat:=Tf n c n a
def W(n:Nat)(c:Nat->Nat->Nat)(s:Nat):Nat:=par n c n s
theorem Ky(n:Nat)(c:Nat->Nat->Nat)(a:Nat):B n c a=gC ((bM n a).map λv=>c a v+B n c (aB a v true)):=by
 unfold B;rw[<-Eb n a (Va n a)];rfl
theorem adS{n:Nat}{c:Nat->Nat->Nat}{a v:Nat}(hv:v∈bM n a):B n c a<=c a v+B n c (aB a v true):=by
 rw[Ky n c a];exact Db (xan.2 ⟨v,hv,rfl⟩)
theorem adT{n:Nat}{c:Nat->Nat->Nat}{a:Nat}(h:bM n a≠[]):∃v∈bM n a,B n c a=c a v+B n c (aB a v true):=by
 have:=oS (l:=(bM n a).map λv=>c a v+B n c (aB a v true)) (by simpa using h);rw[<-Ky]at this;obtain⟨v,hv,e⟩:=xan.1 this;exact⟨v,hv,e.symm⟩
theorem Ma{n:Nat}{c:Nat->Nat->Nat}{a:Nat}(h:bM n a=[]):B n c a=0:=by rw[Ky,h];rfl
structure Used(n:Nat)(c:Nat->Nat->Nat)(U:Nat):Prop where
 zero:∀a v,v<n->a.testBit v=false->U.testBit v=false->c a v=0
 mask:∀a v,v<n->a.testBit v=false->c a v=c (a&&&U) v
theorem oc{a U v:Nat}{b:Bool}:(aB a v b) &&&U=if U.testBit v then aB (a&&&U) v b else a&&&U:=by
 apply xaW;intro k;by_cases hU:U.testBit v=true
 ·rw[xad hU,xbj,aj,aj,xbj];by_cases e:k=v
  ·subst e;simp[hU]
  simp[e]
 rw[xac hU,xbj,aj,xbj];by_cases e:k=v
 ·subst e;simp[hU]
 simp[e]
def dF(n U a:Nat):zL:=(bM n a).filter λv=>U.testBit v
theorem fH{n U a v:Nat}:v∈dF n U a↔v<n/\a.testBit v=false/\U.testBit v=true:=by simp[dF,cP,and_assoc]
theorem lB(n U a:Nat):dF n U (a&&&U)=dF n U a:=by
 unfold dF bM;rw[xdg,xdg];apply xdm;intro v _;rw[xbj];cases a.testBit v<;>cases U.testBit v<;>rfl
theorem Kx{n U:Nat}{c:Nat->Nat->Nat}(hU:Used n c U):∀(d a:Nat),(bM n a).length=d->B n c a=gC ((dF n U a).map λv=>c (a&&&U) v+B n c (aB a v true))/\∀a',(bM n a').length<=d->a'&&&U=a&&&U->B n c a'=B n c a:=by
 intro d;induction d using Nat.strongRecOn with
 |_ d ih=>
  have key:∀a,(bM n a).length=d->B n c a=gC ((dF n U a).map λv=>c (a&&&U) v+B n c (aB a v true)):=by
   intro a hd;by_cases hm:bM n a=[]
   ·have h1:dF n U a=[]:=by unfold dF;rw[hm];rfl
    rw[h1,Ma hm];rfl
   have hle:∀v∈dF n U a,B n c a<=c (a&&&U) v+B n c (aB a v true):=λv hv=>by
    obtain⟨h1,h2,h3⟩:=fH.1 hv;rw[<-hU.mask a v h1 h2];exact adS (cP.2 ⟨h1,h2⟩)
   obtain⟨v,hv,he⟩:=adT (c:=c) hm;obtain⟨h1,h2⟩:=cP.1 hv;by_cases hu:U.testBit v=true
   ·symm;refine Dc (xan.2 ⟨v,fH.2 ⟨h1,h2,hu⟩,by rw[<-hU.mask a v h1 h2];exact he.symm⟩) λy hy=>?_;obtain⟨w,hw,rfl⟩:=xan.1 hy;exact hle w hw
   have A3:U.testBit v=false:=by simpa using hu
   rw[hU.zero a v h1 h2 A3,xa3]at he;have hlt:(bM n (aB a v true)).length<d:=by have:=gM hv;omega
   have hand:aB a v true&&&U=a&&&U:=by rw[oc,xac hu]
   obtain⟨k1,k2⟩:=ih _ hlt (aB a v true) rfl;have Xx:dF n U (aB a v true)=dF n U a:=by rw[<-lB,hand,lB]
   by_cases F3:dF n U a=[]
   ·rw[Xx,F3]at k1;rw[he,k1,F3];rfl
   symm;rw[Xx,hand]at k1;have hmem:=oS (l:=(dF n U a).map λw=>c (a&&&U) w+B n c (aB (aB a v true) w true)) (by simpa using F3);rw[<-k1]at hmem;obtain⟨w,hw,j4⟩:=xan.1 hmem;obtain⟨w1,w2,w3⟩:=fH.1 hw;have hwv:w≠v:=λe=>by rw[e]at w3;rw[A3]at w3;cases w3
   have XG:aB (aB a v true) w true=aB (aB a w true) v true:=by
    apply xaW;intro k;rw[aj,aj,aj,aj];by_cases e1:k=w<;>by_cases e2:k=v<;>simp[e1,e2]
   have hmw:w∈bM n a:=cP.2 ⟨w1,w2⟩;have hsub:B n c (aB (aB a v true) w true)=B n c (aB a w true):=by
    have rH:(bM n (aB a w true)).length<d:=by have:=gM hmw;omega
    refine(ih _ rH (aB a w true) rfl).2 _ ?_ ?_
    ·have hvm:v∈bM n (aB a w true):=cP.2 ⟨h1,by rw[aj,xac (xba hwv)];exact h2⟩;have:=gM hvm;rw[XG];omega
    rw[XG,oc,xac hu]
   have hval:c (a&&&U) w+B n c (aB a w true)=B n c a:=by rw[he,<-j4,hsub]
   refine Dc (xan.2 ⟨w,hw,hval⟩) λy hy=>?_;obtain⟨z,hz,rfl⟩:=xan.1 hy;exact hle z hz
  intro a hd;refine⟨key a hd,λa' dP hand=>?_⟩;have Xx:dF n U a'=dF n U a:=by rw[<-lB,hand,lB]
  have h':B n c a'=gC ((dF n U a').map λv=>c (a'&&&U) v+B n c (aB a' v true)):=by
   rcases xep (bM n a').length d with h|h
   ·exact(ih _ h a' rfl).1
   exact key a' zO
  rw[h',key a hd,Xx,hand];congr 1;apply xbq;intro v hv;congr 1;obtain⟨v1,v2,v3⟩:=fH.1 hv;have hma:v∈bM n a:=cP.2 ⟨v1,v2⟩;have afP:v∈bM n a':=by
   rw[<-Xx]at hv;exact cP.2 ⟨v1,(fH.1 hv).2.1⟩
  have hlt:(bM n (aB a v true)).length<d:=by have:=gM hma;omega
  refine(ih _ hlt (aB a v true) rfl).2 _ ?_ ?_
  ·have:=gM afP;have:=gM hma;omega
  rw[oc,oc,hand]
theorem X1{n U:Nat}{c:Nat->Nat->Nat}(hU:Used n c U)(a:Nat):B n c (a&&&U)=B n c a:=by
 have e:(a&&&U) &&&U=a&&&U:=by rw[Nat.and_assoc,Nat.and_self]
 rcases Nat.le_total (bM n (a&&&U)).length (bM n a).length with h|h
 ·exact(Kx hU _ a rfl).2 _ h e
 exact((Kx hU _ (a&&&U) rfl).2 a h e.symm).symm
theorem adR{n U:Nat}{c:Nat->Nat->Nat}(hU:Used n c U)(a:Nat):B n c a=gC ((dF n U a).map λv=>c (a&&&U) v+B n c (aB (a&&&U) v true)):=by
 rw[(Kx hU _ a rfl).1];congr 1;apply xbq;intro v hv;obtain⟨v1,v2,v3⟩:=fH.1 hv;congr 1;rw[<-X1 hU (aB a v true),oc,xad v3]
def ord(n:Nat)(c:Nat->Nat->Nat):Nat->Nat->zL
 |0,_=>[]
 |f+1,a=>match(bM n a).find? λv=>c a v+B n c (aB a v true)==B n c a with
  |some v=>v::ord n c f (aB a v true)
  |none=>[]
theorem vC{n:Nat}{c:Nat->Nat->Nat}{f a:Nat}(h:bM n a≠[]):∃v,v∈bM n a/\c a v+B n c (aB a v true)=B n c a/\(∀u∈bM n a,u<v->c a u+B n c (aB a u true)≠B n c a)/\ord n c (f+1) a=v::ord n c f (aB a v true):=by
 obtain⟨w,hw,he⟩:=adT (c:=c) h;cases hf:(bM n a).find? λv=>c a v+B n c (aB a v true)==B n c a with
 |none=>
  rw[xcy]at hf;exact absurd (by simpa using he.symm) (hf w hw)
 |some v=>
  have h1:=xew hf;refine⟨v,xdD hf,by simpa using h1,λu hu huv=>?_,by rw[ord,hf]⟩;rw[xd6]at hf;obtain⟨_,as1,bs,hab,hno⟩:=hf;have hs:(bM n a).Pairwise (· < ·):=List.Pairwise.filter _ List.pairwise_lt_range;rw[hab]at hs hu;rcases xao.1 hu with hu|hu
  ·have:=hno u hu;simpa using this
  rw[List.pairwise_append]at hs;have h2:=hs.2.1;rw[List.pairwise_cons]at h2;rcases xam.1 hu with rfl|hu
  ·omega
  have:=h2.1 u hu;omega
end an
namespace an
open Go.Sx
theorem dj{x u v:Nat}{b c:Bool}(h:u≠v):aB (aB x u b) v c=aB (aB x v c) u b:=by
 apply xaW;intro k;rw[aj,aj,aj,aj];by_cases e1:k=u<;>by_cases e2:k=v
 ·exact absurd (e1.symm.trans e2) h
 ·simp[e1,h]
 ·simp[e2,xba h]
 simp[e1,e2]
theorem Ww{n u v:Nat}{ws:zL}{b:Bool}(hf:fg n ws)(hu:u<n)(hv:v<n)(h:dep n ws v=false):dep n (iK n ws u b) v=false:=by
 by_cases e:u=v
 ·subst e;cases hd:dep n (iK n ws u b) u
  ·rfl
  obtain⟨x,hx,hne⟩:=(uH (eB hf.xU) hu).1 hd;rw[fe hf hu (gf hx hu),fe hf hu (gf hx hu)]at hne;refine absurd ?_ hne;congr 1;apply xaW;intro k;rw[aj,aj,aj,aj];by_cases e:k=u<;>simp[e]
 cases hd:dep n (iK n ws u b) v
 ·rfl
 obtain⟨x,hx,hne⟩:=(uH (eB hf.xU) hv).1 hd;rw[fe hf hu (gf hx hv),fe hf hu (gf hx hv),dj (xba e),dj (xba e)]at hne;have:=(uH hf hv).2 ⟨aB x u b,gf hx hu,hne⟩;rw[h]at this;cases this
theorem Ay{n:Nat}{L:Fs}{A:Nat}(hL:∀t∈L,fg n t)(hn:n<=16){v:Nat}(hv:v<n)(h:∀t∈L,dep n t v=false):∀k,k<=n->∀t∈st n L A k,dep n t v=false
 |0,_,t,ht=>h t (gv.1 ht)
 |k+1,hk,t,ht=>by
  rw[st]at ht;split at ht
  ·obtain⟨u,hu,b,rfl⟩:=cg.1 ht;exact Ww (E9 hL hn k u hu) zO hv (Ay hL hn hv h k zO u hu)
  exact Ay hL hn hv h k zO t ht
def aX(n:Nat)(L:Fs):Nat:=L.foldl (λu t=>u|||pW n t) 0
theorem pE(n v:Nat):∀(L:Fs) (u:Nat),(L.foldl (λu t=>u|||pW n t) u).testBit v=(u.testBit v||L.any λt=>(pW n t).testBit v)
 | [],u=>by simp
 |t::L,u=>by rw[xcD,pE n v L,xb1,List.any_cons,Bool.or_assoc]
theorem Aw{n v:Nat}{L:Fs}:(aX n L).testBit v=L.any λt=>(pW n t).testBit v:=by
 unfold aX;rw[pE];simp
theorem uO{n v:Nat}{L:Fs}(hv:v<n)(h:(aX n L).testBit v=false):∀t∈L,dep n t v=false:=by
 rw[Aw,List.any_eq_false]at h;intro t ht;have:=h t ht;rw[pW,iJ]at this;simpa[hv]using this
theorem DO(n:Nat):∀(L:Fs) (u:Nat),u<2^n->L.foldl (λu t=>u|||pW n t) u<2^n
 | [],u,h=>h
 |t::L,u,h=>DO n L _ (xbF h (nE n t n))
theorem uP(n:Nat)(L:Fs):aX n L<2^n:=DO n L 0 (xbs n)
theorem KJ{n:Nat}{L:Fs}{A:Nat}(hL:∀t∈L,fg n t)(hn:n<=16):∀k,k<=n->∀x,x∈st n L A k↔x∈st n L (A&&&aX n L) k
 |0,_,x=>xcR
 |k+1,hk,x=>by
  have ih:=KJ (A:=A) hL hn k zO;rw[st,st,xbj];cases hA:A.testBit k
  ·simpa using ih x
  cases hU:(aX n L).testBit k
  ·simp only[xa7,xdL,xaQ,xa0];rw[cg,<-ih x];have hd:=Ay (A:=A) hL hn (v:=k) zO (uO zO hU) k zO;have hf:=E9 (A:=A) hL hn k;constructor
   ·rintro⟨t,ht,b,rfl⟩;rw[n9 (hf t ht) zO (hd t ht)];exact ht
   intro hx;exact⟨x,hx,false,(n9 (hf x hx) zO (hd x hx)).symm⟩
  simp only[xdS,xa7];rw[cg,cg];constructor
  ·rintro⟨t,ht,h⟩;exact⟨t,(ih t).1 ht,h⟩
  rintro⟨t,ht,h⟩;exact⟨t,(ih t).2 ht,h⟩
theorem KE{n:Nat}{L:Fs}(hL:∀t∈L,fg n t)(hn:n<=16):Used n (lvl n L) (aX n L):=by
 refine⟨λa v hv _ hU=>?_,λa v hv _=>?_⟩
 ·unfold lvl nodes;rw[xda,xdk];intro t ht;rw[Ay hL hn hv (uO hv hU) n (xag _) t ht];simp
 exact mK (jo (nF n L a n) (nF n L _ n) (KJ hL hn n (xag _)))
end an
set_option maxRecDepth 100000
namespace Go.Proofs
open Go Go.Sx
def kp(x:Nat×Nat):zV:=.agg (av .i64 [(x.1:Int),(x.2:Int)])
def ki(x:Nat):zV:=iv (x:Int)
theorem FO(a b:Nat):Instr.sameNow (.int .i64) (ki a) (ki b)=some (decide (a=b)):=by
 simp only[Instr.sameNow,ki,xa7,xas];rw[xbN];simp;omega
theorem Vq(a:Nat):Instr.sameBits 10000 (ki a) (ki a)=true:=by simp[Instr.sameBits,ki]
theorem Q5(a b:Nat×Nat):BA zQ 411 (kp a) (kp b) (decide (a=b)):=by
 have:=BA.array (P:=zQ) (t:=411) (e:=3) (q:=.i64) (n:=2) zK zK zK [(a.1:Int),(a.2:Int)] [(b.1:Int),(b.2:Int)] rfl rfl;have e:decide ([(a.1:Int),(a.2:Int)]=[(b.1:Int),(b.2:Int)])=decide (a=b):=by
  rw[xcx];obtain⟨a1,a2⟩:=a;obtain⟨b1,b2⟩:=b;simp;omega
 rw[e]at this;exact this
theorem FM(a:Nat×Nat):mu zQ 411 (kp a):=mu.array (P:=zQ) (t:=411) (e:=3) (q:=.i64) (n:=2) zK zK zK _ rfl
theorem xP(n:Nat)(q:IntKind)(l:List Int):Instr.sameBits (n+1+1) (.agg (av q l)) (.agg (av q l))=true:=by
 simp only[Instr.sameBits,av,xeo,xbR,xc1];intro x hx;obtain⟨a,b⟩:=x;have h:=xdA hx;have e:a=b:=by
  rw[List.zip_eq_zip_take_min]at hx;obtain⟨i,hi,he⟩:=xbd.1 hx;simp at he;exact he.1.symm.trans he.2
 subst e;have:=h.1;simp only[xdz,xan]at this;obtain⟨y,_,rfl⟩:=this;simp[Instr.sameBits]
theorem Vn(a:Nat×Nat):Instr.sameBits 10000 (kp a) (kp a)=true:=xP 9998 _ _
abbrev vrN(v:zV)(x:Nat):Prop:=v=iv (x:Int)
structure L0(n:Nat)(L:List (zL))(kf:Array MapEntry)(jJ:Nat)(gV:Array MapEntry)(iE:Nat):Prop where
 ah:∃m,aE kp vrN kf jJ m/\∀x∈m,x.2=an.lvl n L x.1.1 x.1.2
 dow:∃m,aE ki vrN gV iE m/\∀x∈m,x.2=an.B n (an.lvl n L) x.1
def ni(bp bl bd:Nat)(xJ:zV)(n:Nat)(L:List (zL))(U:Nat)(B H:Hp):Prop:=
 ∃kf jJ gV iE,H=(bp,.cells #[xJ,iv (n:Int),iv (U:Int),.map (some bl),.map (some bd)] 343 zZ)::(bl,.map kf jJ)::(bd,.map gV iE)::B/\L0 n L kf jJ gV iE
theorem C7{κ:Type}[DecidableEq κ]{f:κ->Nat}{m:List (κ×Nat)}{k:κ}(h:∀x∈m,x.2=f x.1):∀x∈ef m k (f k),x.2=f x.1:=by
 intro x hx;unfold ef at hx;split at hx
 ·obtain⟨y,hy,rfl⟩:=xan.1 hx;split
  ·rfl
  exact h y hy
 rcases xao.1 hx with hx|hx
 ·exact h x hx
 simp at hx;subst hx;rfl
theorem Dd{κ:Type}[DecidableEq κ]{f:κ->Nat}{m:List (κ×Nat)}{k:κ}{x:Nat}(h:∀x∈m,x.2=f x.1)(hk:aJ m k=some x):x=f k:=by
 unfold aJ at hk;obtain⟨y,hy,rfl⟩:=xdR.1 hk;have h1:=xew hy;have h2:=h y (xdD hy);simp only[xar]at h1;rw[h2,h1]
structure wZ(xJ:zV)(n:Nat)(L:List (zL))(B:Hp):Prop where
 tb:jE B xJ (Mx n L)
 BQ:∀ws∈L,an.fg n ws
 ne:L≠[]
 small:L.length<33554432
 n12:n<=12
theorem FH{xJ:zV}{n:Nat}{L:List (zL)}{B:Hp}(h:wZ xJ n L B)(a v:Nat):an.lvl n L a v<2199023255551:=by
 have h1:an.lvl n L a v<=(an.st n L a n).length:=xbO _ _;have h2:=P6 (n:=n) (A:=a) (L:=L) (by have:=h.n12;omega) h.small (xag n);omega
theorem CY{xJ:zV}{n:Nat}{L:List (zL)}{B:Hp}(h:wZ xJ n L B){bp bl bd a v:Nat}{H:Hp}(hp:ni bp bl bd xJ n L (an.aX n L) B H)(ha:a<2^n)(hv:v<n)(hav:a.testBit v=false):
  Fc zQ 281 #[.pointer (some ⟨bp,0,none⟩),iv (a:Int),iv (v:Int)] H (λr H'=>r=iv ((an.lvl n L a v:Nat):Int)/\ni bp bl bd xJ n L (an.aX n L) B H'):=by
 obtain⟨kf,jJ,gV,iE,rfl,hM⟩:=hp;have hU:=an.uP n L;have ue:=h.n12;have kT:2^n<=2^12:=xay zD ue;have DD:=an.KE h.BQ zO;have hsU:an.aX n L>>>v<=an.aX n L:=xbo _ _;refine aF λg=>IC (Nil.ptr ?_);refine ai.mk (Ld.mk zM rfl ?_);refine ae.iM (by simp[bG];omega) (ae.jz (b:=1) (by simp[bG];omega) zD (ae.dQ (b:=0) ?_));have NG:an.aX n L>>>v&&&1=0↔(an.aX n L).testBit v=false:=by
  rw[an.gx,xbB,xcv];cases (an.aX n L).testBit v<;>simp
 refine Br.dec (λh0=>?_) (λh0=>?_)
 ·refine aM.here ⟨?_,kf,jJ,gV,iE,rfl,hM⟩;rw[DD.zero a v hv hav (NG.1 h0)];rfl
 have hUv:(an.aX n L).testBit v=true:=by cases hh:(an.aX n L).testBit v;exact absurd (NG.2 hh) h0;rfl
 apply Nil.ptr;refine ai.mk (Ld.mk zM rfl ?_);refine ae.jz (by simp[bG];omega) (by simp[bG];omega) ?_;have hlv:an.lvl n L a v=an.lvl n L (a&&&an.aX n L) v:=DD.mask a v hv hav;have XJ:(a&&&an.aX n L).testBit v=false:=by rw[xbj,hav];rfl
 have haU:a&&&an.aX n L<2^n:=xaA xch ha;rw[hlv];obtain⟨a',ej⟩:∃a',a'=a&&&an.aX n L:=⟨_,rfl⟩;rw[<-ej]at XJ haU⊢;refine Build.two (q:=.i64) (e:=3) zK zK zK ?_;rw[show av .i64 [(a':Int),(v:Int)]=List.toArray [iv (a':Int),iv (v:Int)]from rfl];intro T5 _;refine St.q ?_;apply Nil.ptr;refine ai.mk (Ld.mk zM rfl ?_);refine ax.q ?_;obtain⟨⟨m1,T2,uf⟩,acy⟩:=hM;have abP:∀J:List zV->Hp->Prop,(∀w25:zV,∀H24:Hp,(∀al3:Fr,aM (λr H'=>r=iv ((an.lvl n L a' v:Nat):Int)/\ni bp bl bd xJ n L (an.aX n L) B H') (.returned w25) H24)->J [w25] H24)->
   ∀Wt Wx,L0 n L Wt Wx gV iE->J [iv ((an.lvl n L a' v:Nat):Int)] ((bp,.cells #[xJ,iv (n:Int),iv ((an.aX n L:Nat):Int),.map (some bl),.map (some bd)] 343 zZ)::(bl,.map Wt Wx)::(bd,.map gV iE)::B):=
  λJ hJ Wt Wx hM=>hJ _ _ λgs=>aM.here ⟨rfl,Wt,Wx,gV,iE,rfl,hM⟩
 cases hg:aJ m1 (a',v)with
 |some x=>
  have hx:=Dd (f:=λk=>an.lvl n L k.1 k.2) uf hg;simp only at hx;refine aE.F5 (ke:=kp) (k:=(a',v)) Q5 FM T2 (by exact .tail _ (.tail _ (.head _))) hg λy hy=>?_;subst hy;refine Ext.two λJ hJ=>(Un.not (Br.no (JE.of .tail ?_)));rw[hx];exact abP J hJ _ _ ⟨⟨m1,T2,uf⟩,acy⟩
 |none=>
  refine aE.vM (ke:=kp) (k:=(a',v)) Q5 FM T2 (by exact .tail _ (.tail _ (.head _))) hg ?_;refine Ext.two λJ hJ=>(Un.not (Br.yes (DR.self (Nil.ptr ?_))));refine ai.mk (Ld.mk zM rfl ?_);refine⟨T5,0,.i64,0,rfl,rfl,by decide,by decide,?_⟩;refine Ld.q ?_;refine aV.q (aa.eq (B:=B) (QZ (n:=n) (L:=L) h.tb h.BQ h.ne (by have:=h.small;omega) haU hv XJ) (⟨.refl _,Ext.mk rfl (Ext.mk rfl ?_)⟩));refine DR.of (R:=(T5,.cells (List.toArray [iv (a':Int),iv (v:Int)]) 411 zZ)::(bp,.cells #[xJ,iv (n:Int),iv ((an.aX n L:Nat):Int),.map (some bl),.map (some bd)] 343 zZ)::[]) (.cons (.cons (λg w h=>(Own.left (B:=_) (A:=[]) h)))) (Nil.ptr ?_);refine ai.mk (Ld.mk zM rfl ?_);refine ax.q ?_;refine aE.Mr (ke:=kp) (vr:=vrN) (b:=bl) (val:=iv ((an.lvl n L a' v:Nat):Int)) (k:=(a',v)) (x:=an.lvl n L a' v) Q5 FM Vn T2 rfl λes' bB DE=>⟨_,.tail (.tail (.head _)),?_⟩;have afT:∀x∈ef m1 (a',v) (an.lvl n L a' v),x.2=an.lvl n L x.1.1 x.1.2:=C7 (f:=λk:Nat×Nat=>an.lvl n L k.1 k.2) (k:=(a',v)) uf;have ZH:L0 n L es' bB gV iE:=⟨⟨ef m1 (a',v) (an.lvl n L a' v),DE,afT⟩,acy⟩;exact JE.of .tail (abP J hJ es' bB ZH)
end Go.Proofs
namespace Go.Sx
open Go
theorem vH(n:Int):BitVec.ofInt 64 (IntKind.i64.wrap n)=BitVec.ofInt 64 n:=by
 apply BitVec.eq_of_toNat_eq;simp only[BitVec.toNat_ofInt,IntKind.wrap,IntKind.bits,IntKind.signed,xbR,xar];congr 1;split<;>omega
theorem wrap_toInt(x:BitVec 64):IntKind.i64.wrap (x.toNat:Int)=x.toInt:=by
 rw[BitVec.toInt_eq_toNat_cond];have:=x.isLt;have e:(2:Int)^(64-1)=9223372036854775808:=rfl;simp only[IntKind.wrap,IntKind.bits,IntKind.signed,xbR,xar,e];split<;>split<;>omega
theorem qp(op:BinOp)(x y:Int):BitVec.ofInt 64 (bits op .i64 x y)=(match op with
  | .and=>BitVec.ofInt 64 x&&&BitVec.ofInt 64 y
  | .or=>BitVec.ofInt 64 x|||BitVec.ofInt 64 y
  | .xor=>BitVec.ofInt 64 x^^^BitVec.ofInt 64 y
  |_=>BitVec.ofInt 64 x&&& ~~~BitVec.ofInt 64 y):=by
 unfold bits;simp only[vH];rw[xcE];simp only[IntKind.bits];rw[BitVec.ofNat_toNat,BitVec.setWidth_eq];cases op<;>rfl
theorem wQ(op:BinOp)(x y:Int):bits op .i64 x y=(BitVec.ofInt 64 (bits op .i64 x y)).toInt:=by
 unfold bits;simp only[vH];rw[xcE];simp only[IntKind.bits];rw[BitVec.ofNat_toNat,BitVec.setWidth_eq];exact wrap_toInt _
theorem MZ{a U v:Nat}(ha:a<4611686018427387904)(hU:U<4611686018427387904)(hv:v<62):
  bits .and .i64 ((bits .or .i64 a (bits .xor .i64 (-1) U)).fdiv (2^(min (v:Int).toNat IntKind.i64.bits))) 1=if a.testBit v=true\/U.testBit v=false then 1 else 0:=by
 have hX:=qp .or (a:Int) (bits .xor .i64 (-1) U);simp only at hX;have hN:=qp .xor (-1) (U:Int);simp only at hN;rw[hN]at hX;generalize hx:bits .or .i64 a (bits .xor .i64 (-1) U)=x at hX;have hxi:x=(BitVec.ofInt 64 x).toInt:=by rw[<-hx];exact wQ _ _ _
 have hm:min (v:Int).toNat IntKind.i64.bits=v:=by simp[IntKind.bits];omega
 rw[hm];have hs:x.fdiv (2^v)=((BitVec.ofInt 64 x).sshiftRight v).toInt:=by
  rw[BitVec.toInt_sshiftRight,<-hxi,Int.shiftRight_eq_div_pow,Int.fdiv_eq_ediv_of_nonneg _ (Int.le_of_lt (Int.pow_pos zD))]
  push_cast;rfl
 rw[hs,wQ,qp];simp only[BitVec.ofInt_toInt];rw[hX];have h1:BitVec.ofInt 64 (1:Int)=1#64:=rfl;have h2:BitVec.ofInt 64 (-1:Int)=BitVec.allOnes 64:=by decide
 rw[h1,h2];have NG:((BitVec.ofInt 64 (a:Int)|||BitVec.allOnes 64^^^BitVec.ofInt 64 (U:Int)).sshiftRight v).getLsbD 0=(a.testBit v|| !U.testBit v):=by
  rw[BitVec.getLsbD_sshiftRight];have e1:v+0<64:=by omega
  simp only[xcv,show¬(64<=0)from by decide,xdo,xcq,xbR,show v<64 by omega,xa7];rw[BitVec.getLsbD_or,BitVec.getLsbD_xor,BitVec.getLsbD_allOnes,xcE,xcE,BitVec.getLsbD_ofNat,BitVec.getLsbD_ofNat];simp[show v<64 by omega]
 have ic:∀y:BitVec 64,(y&&&1#64).toInt=if y.getLsbD 0 then 1 else 0:=by
  intro y;have:y&&&1#64=if y.getLsbD 0 then 1#64 else 0#64:=by
   apply BitVec.eq_of_getLsbD_eq;intro i hi;rw[BitVec.getLsbD_and];by_cases h0:i=0
   ·subst h0;cases hb:y.getLsbD 0<;>simp[hb]
   have:(1#64).getLsbD i=false:=by simp[BitVec.getLsbD_one,h0]
   rw[this];cases y.getLsbD 0<;>simp[this]
  rw[this];cases y.getLsbD 0<;>decide
 rw[ic,NG];cases a.testBit v<;>cases U.testBit v<;>simp
theorem abi{a U v:Nat}(ha:a<4611686018427387904)(hU:U<4611686018427387904)(hv:v<62){k:zV->Prop}(h:k (.bool (decide (a.testBit v=true\/U.testBit v=false)))):
  Un .xor (.int .i64 (U:Int)) λv33=>ae .num .or (.int .i64 (a:Int)) v33 λv34=>ae .num .shr v34 (.int .i64 (v:Int)) λv35=>ae .num .and v35 (.int .i64 1) λv36=>ae .num .eql v36 (.int .i64 1) k:=by
 refine⟨_,rfl,_,rfl,?_⟩;have h0:¬((v:Int)<0):=by omega
 refine⟨_,by simp only[gw,h0,xa0];rfl,_,rfl,?_⟩;refine ae.gI ?_;have hs:(if IntKind.i64.signed=true then(-1:Int)else IntKind.i64.max)= -1:=rfl;rw[hs,MZ ha hU hv];by_cases hc:a.testBit v=true\/U.testBit v=false
 ·rw[xad hc];rw[xal hc]at h;exact h
 rw[xac hc];rw[xai hc]at h;exact h
end Go.Sx
set_option maxRecDepth 100000
namespace Go.Proofs
open Go Go.Sx
section
theorem iR(x:zV)(r:List zV)(i:Nat):bL (x::r) (i+1)=bL r i:=by cases x<;>rfl
def jM(n:Nat)(L:List (zL))(U a k:Nat):zL:=((List.range k).filter λv=> !a.testBit v&&U.testBit v).map λv=>an.lvl n L a v+an.B n (an.lvl n L) (an.aB a v true)
theorem MJ{n:Nat}{L:List (zL)}{U a:Nat}:jM n L U a n=(an.dF n U a).map λv=>an.lvl n L a v+an.B n (an.lvl n L) (an.aB a v true):=by
 unfold jM an.dF an.bM;rw[xdg];congr 1;apply xdm;intro v _;cases a.testBit v<;>cases U.testBit v<;>rfl
theorem vb{n:Nat}{L:List (zL)}{U a k:Nat}:jM n L U a (k+1)=if a.testBit k=true\/U.testBit k=false then jM n L U a k else jM n L U a k++[an.lvl n L a k+an.B n (an.lvl n L) (an.aB a k true)]:=by
 unfold jM;rw[xb6,xbJ,xaJ];cases h1:a.testBit k<;>cases h2:U.testBit k<;>simp[h1,h2]
def z5(l:zL):zV:=if l=[]then iv (-1)else iv ((an.gC l:Nat):Int)
theorem Te(n:Nat)(c:Nat->Nat->Nat)(M:Nat)(hc:∀a v,c a v<=M):∀f a,an.Tf n c f a<=f*M
 |0,a=>by simp[an.Tf]
 |f+1,a=>by
  rw[an.Tf,xbC];by_cases h:an.bM n a=[]
  ·rw[h];simp[an.gC]
  have:=an.oS (l:=(an.bM n a).map λv=>c a v+an.Tf n c f (an.aB a v true)) (by simpa using h);obtain⟨v,_,e⟩:=xan.1 this;rw[<-e];have h1:=hc a v;have h2:=Te n c M hc f (an.aB a v true);omega
theorem L9{xJ:zV}{n:Nat}{L:List (zL)}{B:Hp}(h:wZ xJ n L B)(a:Nat):an.B n (an.lvl n L) a<35184372088832:=by
 have h1:=Te n (an.lvl n L) 2199023255551 (λa v=>xb9 (FH h a v)) n a;have h2:n*2199023255551<=12*2199023255551:=xaV _ h.n12;unfold an.B;omega
theorem Bv{a U n:Nat}(hU:U<2^n)(h:∀v,v<n->¬(a.testBit v=false/\U.testBit v=true)):a&&&U=U:=by
 apply xaW;intro k;rw[xbj];by_cases hk:k<n
 ·have:=h k hk;cases h1:a.testBit k<;>cases h2:U.testBit k<;>simp_all
 have:U.testBit k=false:=xca (xaO hU (xay zD zO));rw[this];simp
theorem si{xJ:zV}{n:Nat}{L:List (zL)}{B:Hp}(h:wZ xJ n L B){bp bl bd:Nat}:∀(d a:Nat),(an.dF n (an.aX n L) a).length<=d->a<2^n->∀H,ni bp bl bd xJ n L (an.aX n L) B H->
  Fc zQ 282 #[.pointer (some ⟨bp,0,none⟩),iv (a:Int)] H (λr H'=>r=iv ((an.B n (an.lvl n L) a:Nat):Int)/\ni bp bl bd xJ n L (an.aX n L) B H'):=by
 have hU:=an.uP n L;have ue:=h.n12;have kT:2^n<=2^12:=xay zD ue;have DD:=an.KE h.BQ zO;intro d;induction d using Nat.strongRecOn with
 |_ d ih=>
  intro a hd ha H hp;obtain⟨kf,jJ,gV,iE,rfl,hM⟩:=hp;refine aF λg=>xx (Nil.ptr ?_);refine ai.mk (Ld.mk zM rfl ?_);refine ae.jz (by simp[bG];omega) (by simp[bG];omega) (Nil.ptr ?_);refine ai.mk (Ld.mk zM rfl ?_);have hBa:an.B n (an.lvl n L) a=an.B n (an.lvl n L) (a&&&an.aX n L):=(an.X1 DD a).symm;have Xx:an.dF n (an.aX n L) (a&&&an.aX n L)=an.dF n (an.aX n L) a:=an.lB _ _ _;have haU:a&&&an.aX n L<2^n:=xaA xch ha;have iU:(a&&&an.aX n L) &&&an.aX n L=a&&&an.aX n L:=by rw[Nat.and_assoc,Nat.and_self]
  rw[hBa];rw[<-Xx]at hd;obtain⟨a',ej⟩:∃a',a'=a&&&an.aX n L:=⟨_,rfl⟩;rw[<-ej]at haU hd iU⊢;clear hBa Xx ha ej;have aI:=MJ (n:=n) (L:=L) (U:=an.aX n L) (a:=a');have abQ:an.B n (an.lvl n L) a'=an.gC (jM n L (an.aX n L) a' n):=by
   rw[aI];have:=an.adR DD a';rw[iU]at this;exact this
  refine ae.dQ (Br.dec (λh0=>?_) (λh0=>?_))
  ·refine aM.here ⟨?_,kf,jJ,gV,iE,rfl,hM⟩;have:an.dF n (an.aX n L) a'=[]:=by
    rw[xcA];intro v hv;obtain⟨_,h2,h3⟩:=an.fH.1 hv;rw[h0,h3]at h2;cases h2
   rw[abQ,aI,this];rfl
  have hne:jM n L (an.aX n L) a' n≠[]:=by
   rw[aI];intro e;apply h0;rw[<-iU];refine Bv hU λv hv hh=>?_;have:v∈an.dF n (an.aX n L) a':=an.fH.2 ⟨hv,hh.1,hh.2⟩;rw[List.map_eq_nil_iff.1 e]at this;simp at this
  apply Nil.ptr;refine ai.mk (Ld.mk zM rfl ?_);obtain⟨RI,m2,sQ,lY⟩:=hM;cases hg:aJ m2 a' with
  |some x=>
   have hx:=Dd (f:=an.B n (an.lvl n L)) lY hg;refine aE.hit (ke:=ki) (k:=a') FO sQ (by exact .tail _ (.tail _ (.head _))) hg λy hy=>?_;subst hy;refine Ext.mk rfl (Ext.mk rfl (Br.yes (aM.here ⟨?_,kf,jJ,gV,iE,rfl,RI,m2,sQ,lY⟩)));rw[hx];rfl
  |none=>
   refine aE.bM (ke:=ki) (k:=a') FO sQ (by exact .tail _ (.tail _ (.head _))) hg ?_;refine Ext.mk rfl (Ext.mk rfl (Br.no (Nil.ptr ?_)));refine ai.mk (Ld.mk zM rfl ?_);refine⟨λvs H=>∃k:Nat,vs=[z5 (jM n L (an.aX n L) a' k),iv (k:Int)]/\k<=n/\ni bp bl bd xJ n L (an.aX n L) B H,λvs _=>n-bL vs 1,
    JE.mk ⟨0,rfl,xaN _,kf,jJ,gV,iE,rfl,RI,m2,sQ,lY⟩,?_⟩
   clear sQ lY hg RI kf jJ gV iE m2;rintro w22 w23 H ⟨k,⟨⟩,hk,hp⟩ gs;refine ae.fk (Br.dec (λhlt=>?_) (λhlt=>?_))
   ·intro J hJ;have Pk:=hp;obtain⟨kf,jJ,gV,iE,rfl,hM⟩:=hp;apply Nil.ptr;refine ai.mk (Ld.mk zM rfl ?_);refine abi zO zO zO ?_;have Dx:∀l H,l=jM n L (an.aX n L) a' (k+1)->ni bp bl bd xJ n L (an.aX n L) B H->J [z5 l] H:=λl H hl hp=>hJ _ _ λgs=>by
     exact ae.inc (aC.mk ⟨k+1,by rw[hl],by omega,hp⟩ (by rw[iR,iR];show n-(((k:Int)+1).toNat)<n-((k:Int).toNat);omega))
    by_cases hc:a'.testBit k=true\/(an.aX n L).testBit k=false
    ·rw[xal hc];refine Br.yes (JE.mk (Dx _ _ ?_ Pk));rw[vb,xad hc]
    rw[xai hc];have hck:a'.testBit k=false/\(an.aX n L).testBit k=true:=by
     cases h1:a'.testBit k<;>cases h2:(an.aX n L).testBit k<;>simp_all
    have hmem:k∈an.dF n (an.aX n L) a':=an.fH.2 ⟨hlt,hck.1,hck.2⟩;refine Br.no (DR.self ?_);have hpk:2^k<=2^12:=xay zD zO;refine ae.Ch (a:=1) (by simp[IntKind.bits];omega) (by rw[xa6];simp[bG];omega) ?_;rw[xa6];refine ae.K7 (by simp[bG];omega) (by simp[bG];omega) ?_;have Ws:a'|||2^k=an.aB a' k true:=rfl
    rw[Ws];refine aa.fq (CY h Pk haU hlt hck.1) ?_;rintro r H1 ⟨rfl,uB⟩;have hlen:(an.dF n (an.aX n L) (an.aB a' k true)).length<d:=by
     have h1:(an.dF n (an.aX n L) (an.aB a' k true)).length+1=(an.dF n (an.aX n L) a').length:=by
      unfold an.dF an.bM;rw[xdg,xdg];refine an.n6 _ _ k (List.range n) xbn (xaM.2 hlt) (by simp[hck]) (by simp[an.aj]) λy hy hne=>?_;rw[an.qX hne]
     omega
    refine aa.fq (ih _ hlen (an.aB a' k true) (xag _) (an.gf haU hlt) H1 uB) ?_;rintro r H2 ⟨rfl,kT⟩;have hb1:=FH h a' k;have sb:=L9 h (an.aB a' k true);refine ae.eZ ?_;have hstep:=vb (n:=n) (L:=L) (U:=an.aX n L) (a:=a') (k:=k);rw[xac hc]at hstep;generalize an.lvl n L a' k+an.B n (an.lvl n L) (an.aB a' k true)=x at hstep;unfold z5;by_cases hl:jM n L (an.aX n L) a' k=[]
    ·rw[xad hl];refine ae.lss (cm.mk true (λe=>by simp at e) (λ_=>rfl) λgs=>Br.yes (JE.mk ?_));have:=Dx [x] _ (by rw[hstep,hl];rfl) kT;simpa[z5,an.gC]using this
    rw[xac hl];have hms:=an.FB (jM n L (an.aX n L) a' k) x;rw[xac hl,<-hstep]at hms;have afL:jM n L (an.aX n L) a' (k+1)≠[]:=by rw[hstep];simp
    have TV:=Dx _ H2 rfl kT;unfold z5 at TV;rw[xac afL,hms]at TV;have hneg:decide (((an.gC (jM n L (an.aX n L) a' k):Nat):Int)<0)=false:=xai zO;by_cases hx:x<an.gC (jM n L (an.aX n L) a' k)
    ·rw[xds zO]at TV;refine ae.lss ?_;rw[hneg];exact cm.mk true (λ_=>ae.fk ⟨rfl,by rw[xal hx]⟩) (λe=>by simp at e) λgs=>Br.yes (JE.mk TV)
    rw[xcB zO]at TV;refine ae.lss ?_;rw[hneg];exact cm.mk false (λ_=>ae.fk ⟨rfl,by rw[xai hx]⟩) (λe=>by simp at e) λgs=>Br.no (JE.mk TV)
   have:k=n:=by omega
   subst this;obtain⟨kf,jJ,gV,iE,rfl,RI,m2,sQ,lY⟩:=hp;apply Nil.ptr;refine ai.mk (Ld.mk zM rfl ?_);unfold z5;rw[xac hne,<-abQ];refine aE.br (ke:=ki) (vr:=vrN) (b:=bd) (val:=iv ((an.B k (an.lvl k L) a':Nat):Int)) (k:=a') (x:=an.B k (an.lvl k L) a') FO Vq sQ rfl λes' bB DE=>⟨_,.tail (.tail (.head _)),?_⟩;have afS:∀x∈ef m2 a' (an.B k (an.lvl k L) a'),x.2=an.B k (an.lvl k L) x.1:=C7 (f:=an.B k (an.lvl k L)) lY;exact aM.here ⟨rfl,kf,jJ,es',bB,rfl,RI,_,DE,afS⟩
end
section
def ahG(v:zV)(ts:List Tb)(B:Hp)(r:zV)(H:Hp):Prop:=
 (rZ ts/\∃(bp bl bd n:Nat) (L:List (zL)) (N:Hp),ts=Mx n L/\(L=[]->n=0)/\n<=16/\(∀ws∈L,an.fg n ws)/\r=.tuple #[.pointer (some ⟨bp,0,none⟩),iv 0]/\ni bp bl bd v n L (an.aX n L) (N++B) H)
 \/(¬rZ ts/\r=.tuple #[.pointer none,iv 5])
theorem tt(n:Nat)(L:List (zL)):L0 n L #[] 0 #[] 0:=⟨⟨[],aE.empty,by simp⟩,⟨[],aE.empty,by simp⟩⟩
theorem EW{n:Nat}{L:List (zL)}{k:Nat}(h:k<L.length):an.aX n (L.take (k+1))=an.aX n (L.take k)|||an.pW n L[k]:=by
 unfold an.aX;rw[xbH,xaa h,Option.toList_some,xdn];rfl
theorem NW{B:Hp}{v:zV}{ts:List Tb}(ht:jE B v ts)(cJ:ts.length<4398046511104):Px zQ 280 #[v] B (ahG v ts B):=by
 obtain⟨va,vc,vl,rfl⟩:∃a c l,v=.slice a l c:=by
  obtain⟨rs,h1,_⟩:=ht;obtain⟨a,c,e,_⟩:=h1.shape;exact⟨a,c,_,e⟩
 refine aF λg=>ID λb1 _ b2 _=>?_;refine Build.mk (cs:=[.slice va vl vc,iv 0,iv 0,.map (some b1),.map (some b2)]) zK λbp _=>?_;generalize hvs:Value.slice va vl vc=vv at ht⊢;refine ht.bP (ae.dQ (b:=0) (Br.dec (λh0=>?_) (λh0=>?_)))
 ·have F3:ts=[]:=xbW h0;subst F3;refine⟨_,_,rfl,aL.cons aL.swap,(by repeat (first|exact bV.refl _|apply bV.cons|apply bV.app)),Or.inl ⟨by simp[rZ],bp,b1,b2,0,[],[],rfl,λ_=>rfl,by omega,by simp,rfl,_,_,_,_,?_,tt _ _⟩⟩;subst hvs;rfl
 refine aa.pq (B:=B) (QK ht cJ) ?_;rintro r N ⟨s,rfl⟩;apply Ext.two;by_cases hO:rZ ts
 case neg=>
  rw[xac hO];exact ae.yL (a:=5) (b:=0) (Br.dec (λ_=>GR.mk (by repeat (first|exact bV.refl _|apply bV.cons|apply bV.app)) (.inr ⟨hO,rfl⟩)) (λh=>absurd zD h))
 rw[xad hO];refine ae.yL (a:=0) (b:=0) (Br.dec (λh=>absurd rfl h) (λ_=>?_));obtain⟨n,L,v8,rfl,hne,hf⟩:=K9 hO (by intro e;rw[e]at h0;exact h0 rfl);rw[xaC]at cJ h0;obtain⟨w0,TS⟩:∃w0,L[0]? =some w0:=⟨_,xaa (xc9.2 hne)⟩;refine ht.ldN (i:=0) (t:=⟨n,w0⟩) (by rw[xau,TS];rfl) zS ?_;simp only;refine Nil.ptr (ai.mk (St.one (c:=#[vv,iv 0,iv 0,.map (some b1),.map (some b2)]) (c':=#[vv,iv (n:Int),iv 0,.map (some b1),.map (some b2)]) (H':=(bp,.cells #[vv,iv (n:Int),iv 0,.map (some b1),.map (some b2)] 343 zZ)::(b2,.map #[] 0)::(b1,.map #[] 0)::(N++B)) (by subst hvs;exact .head _) rfl zI rfl ?_));refine ht.bP ?_;rw[xaC];refine⟨λvs H=>∃(k:Nat) (N:Hp),vs=[iv (k:Int)]/\k<=L.length/\H=(bp,.cells #[vv,iv (n:Int),iv ((an.aX n (L.take k):Nat):Int),.map (some b1),.map (some b2)] 343 zZ)::(b2,.map #[] 0)::(b1,.map #[] 0)::(N++B),
  λvs _=>L.length-bL vs 0,JE.mk ⟨0,N,rfl,by omega,rfl⟩,?_⟩
 clear N;rintro w H ⟨k,N,⟨⟩,hk,rfl⟩ gs;refine ae.fk (Br.dec (λhlt=>?_) (λhlt=>?_))
 ·have hg:(L.map λws=>(⟨n,ws⟩:Tb))[k]? =some ⟨n,L[k]⟩:=by rw[xau,xaa hlt];rfl
  have pn:=hf L[k] (xaF hlt);refine ht.ld hg zS λs hw=>?_;intro b3 _;refine St.p ?_ ?_
  ·have:=bO hw;simpa[Value.oneCell']using this
  refine ax.q ?_;refine aa.eq (B:=B) (uU (v:=.agg (List.toArray [iv (n:Int),s])) (t:=⟨n,L[k]⟩) ⟨s,rfl,hw⟩) ?_;rw[xad (show TF ⟨(n:Int),L[k]⟩from⟨by simp,by simpa using pn⟩)];apply Ext.two;simp only[xbh];have akC:2^n<=2^16:=xay (n:=2) zD v8;have abJ:an.pW n L[k]<2^n:=an.nE n L[k] n;have hus:=an.uP n (L.take k);apply Nil.ptr;refine ai.mk (Ld.mk zM rfl ?_);refine aV.q (ae.K7 (by simp[bG];omega) (by simp[bG];omega) ?_);rw[<-EW hlt];refine Nil.ptr (ai.mk (St.one (c:=#[vv,iv (n:Int),iv ((an.aX n (L.take k):Nat):Int),.map (some b1),.map (some b2)]) (c':=#[vv,iv (n:Int),iv ((an.aX n (L.take (k+1)):Nat):Int),.map (some b1),.map (some b2)]) (by repeat (first|exact c8.head _|apply c8.tail|apply c8.cc)) rfl zI rfl ?_));exact ae.inc (aC.of .tail ⟨k+1,N,rfl,by omega,rfl⟩ (by simp[bL];omega))
 have:k=L.length:=by omega
 subst this;rw[xbl];refine⟨_,_,rfl,aL.cons aL.swap,(by repeat (first|exact bV.refl _|apply bV.cons|apply bV.app)),Or.inl ⟨hO,bp,b1,b2,n,L,N,rfl,λe=>absurd e hne,v8,hf,rfl,_,_,_,_,rfl,tt _ _⟩⟩
theorem QN{n:Nat}{c:Nat->Nat->Nat}{f a v:Nat}(hv:v∈an.bM n a)(he:c a v+an.B n c (an.aB a v true)=an.B n c a)(hm:∀u∈an.bM n a,u<v->c a u+an.B n c (an.aB a u true)≠an.B n c a):
    an.ord n c (f+1) a=v::an.ord n c f (an.aB a v true):=by
  obtain⟨u,h1,h2,h3,h4⟩:=an.vC (c:=c) (f:=f) (List.ne_nil_of_mem hv);rcases xcI u v with h|h|h
  · exact absurd h2 (hm u h1 h)
  · rw[h4,h]
  · exact absurd he (h3 v hv h)
theorem Od{xJ:zV}{n:Nat}{L:List (zL)}{B:Hp}{bp bl bd a:Nat}(ha:a<4611686018427387904){H:Hp}(hp:ni bp bl bd xJ n L 0 B H):
    Fc zQ 282 #[.pointer (some ⟨bp,0,none⟩),iv (a:Int)] H (λr H'=>r=iv 0/\H'=H):=by
  obtain⟨kf,jJ,gV,iE,rfl,hM⟩:=hp;refine aF λg=>xx (Nil.ptr ?_);refine ai.mk (Ld.mk zM rfl ?_);refine ae.jz (b:=0) (by simp[bG];omega) (by simp[bG]) (Nil.ptr ?_);refine ai.mk (Ld.mk zM rfl ?_);exact ae.dQ (b:=0) (Br.T (aM.here ⟨rfl,rfl⟩))
def adQ(ts:List Tb)(B:Hp)(r:zV)(H:Hp):Prop:=
  (¬rZ ts/\r=.tuple #[iv 0,.slice none 0 0,iv 5])\/
  (rZ ts/\∃(n:Nat) (L:List (zL)),ts=Mx n L/\(L=[]->n=0)/\n<=16/\(∀ws∈L,an.fg n ws)/\
    ((12<n/\r=.tuple #[iv 0,.slice none 0 0,iv 6])\/
     (n<=12/\∃(s:zV) (C N:Hp),r=.tuple #[iv ((an.B n (an.lvl n L) 0:Nat):Int),s,iv 0]/\aN 3 .i64 s (iw (an.ord n (an.lvl n L) n 0)) C/\H=C++(N++B))))
structure BSt(n:Nat)(c:Nat->Nat->Nat)(s:zV)(a:Nat)(l:zL)(C:Hp):Prop where
  own:aN 3 .i64 s (iw l) C
  lt:a<2^n
  len:(an.bM n a).length+l.length=n
  pre:l++an.ord n c (n-l.length) a=an.ord n c n 0
theorem LQ{a v:Nat}:(a>>>v&&&1=0)↔a.testBit v=false:=by
  have:=xc5 (x:=a) (i:=v);rw[this,xbU,xaZ];simp
theorem WB{B:Hp}{v:zV}{ts:List Tb}(ht:jE B v ts)(cJ:ts.length<33554432):Px zQ 194 #[v] B (adQ ts B):=by
  refine aF λg=>Jv (aa.pq (NW ht zO) ?_);rintro r N0 (⟨hO,bp,bl,bd,n,L,N,rfl,Xw,v8,hf,rfl,hp⟩|⟨hO,rfl⟩)
  case inr=>exact Ext.mk rfl (Ext.mk rfl (ae.yL (a:=5) (b:=0) (Br.dec (λ_=>GR.mk (by repeat (first|exact bV.refl _|apply bV.cons|apply bV.app)) (.inl ⟨hO,rfl⟩)) (λh=>absurd zD h))))
  generalize N0++B=H2 at hp⊢;clear N0;rw[pU]at cJ;have Pk:=hp;obtain⟨kf,jJ,gV,iE,rfl,hM⟩:=hp;refine Ext.mk rfl (Ext.mk rfl (ae.yL (a:=0) (b:=0) (Br.dec (λh=>absurd rfl h) (λ_=>?_))));apply Nil.ptr;refine ai.mk (Ld.mk zM rfl ?_);refine ae.nh (b:=12) (Br.dec (λNK=>GR.mk (by repeat (first|exact bV.refl _|apply bV.cons|apply bV.app)) (.inr ⟨hO,n,L,rfl,Xw,v8,hf,.inl ⟨NK,rfl⟩⟩)) (λNK=>?_));clear hM;have ue:n<=12:=by omega
  have hOK:L≠[]->wZ v n L (N++B):=λhne=>⟨ht.mono zS,hf,hne,cJ,ue⟩;have kT:2^n<=2^12:=xay zD ue;have hm0:(an.bM n 0).length=n:=by
    have:an.bM n 0=List.range n:=by unfold an.bM;rw[xcs];simp
    rw[this,xaz]
  refine⟨λvs H=>∃(s:zV) (a:Nat) (l:zL) (C H1:Hp),vs=[s,iv (a:Int)]/\BSt n (an.lvl n L) s a l C/\ni bp bl bd v n L (an.aX n L) (N++B) H1/\H=C++H1,
    λvs _=>(an.bM n (bL vs 1)).length,JE.mk ⟨_,0,[],[],_,rfl,⟨aN.nil,xbs n,by rw[hm0];rfl,by simp⟩,Pk,rfl⟩,?_⟩
  clear Pk kf jJ gV iE;rintro w14 w15 H ⟨s,a,l,C,H1,⟨⟩,hb,hp,rfl⟩ gs;have Pk:=hp;obtain⟨kf,jJ,gV,iE,rfl,hM⟩:=hp;refine hb.own.bP ?_;rw[ak];apply Nil.ptr;refine ai.mk (Ld.mk zM rfl ?_);have XI:=hb.len;refine ae.fk (Br.dec (λhlt=>?_) (λhlt=>?_))
  · have afO:an.bM n a≠[]:=by intro e;rw[e]at XI;simp at XI;omega
    have hne:L≠[]:=λe=>by have:=Xw e;omega
    have zc:=hOK hne;have hnf:n-l.length=n-l.length-1+1:=by omega
    apply Nil.ptr;refine ai.mk (Ld.mk zM rfl ?_);refine⟨λvs H=>∃(k:Nat) (H1:Hp),vs=[w14,iv (a:Int),iv (k:Int)]/\k<=n/\(∀u∈an.bM n a,u<k->an.lvl n L a u+an.B n (an.lvl n L) (an.aB a u true)≠an.B n (an.lvl n L) a)/\ni bp bl bd v n L (an.aX n L) (N++B) H1/\H=C++H1,
      λvs _=>n-bL vs 2,JE.mk ⟨0,_,rfl,by omega,λu _ h=>by omega,Pk,rfl⟩,?_⟩
    clear hM Pk;rintro w28 w29 w30 H ⟨k,H1,⟨⟩,hk,hmin,hp,rfl⟩ gs;refine ae.fk (Br.dec (λhlk=>?_) (λhlk=>?_))
    · intro J hJ
      have hpk:2^k<=2^12:=xay zD zO;have hno:∀H1,¬(a.testBit k=false/\an.lvl n L a k+an.B n (an.lvl n L) (an.aB a k true)=an.B n (an.lvl n L) a)->ni bp bl bd v n L (an.aX n L) (N++B) H1->J [.bool false] (C++H1):=λH1 hx hp=>hJ _ _ λgs=>by
        refine Br.no (ae.inc (aC.mk ⟨k+1,H1,rfl,by omega,λu hu hlu=>?_,hp,rfl⟩ (by rw[iR,iR,iR,iR];show n-(((k:Int)+1).toNat)<n-((k:Int).toNat);omega)));by_cases e:u=k
        · subst e;exact λh=>hx ⟨(an.cP.1 hu).2,h⟩
        · exact hmin u hu zO
      refine DR.self ?_;have alf:a<4611686018427387904:=by have:=hb.lt;omega
      refine ae.iM (by simp[bG];omega) (ae.jz (b:=1) (by simp[bG];exact xaA (xbo _ _) zO) zD (ae.dQ (b:=0) (Br.dec (λh0=>?_) (λh0=>JE.mk (hno H1 (λh=>h0 (LQ.2 h.1)) hp)))));have hak:=LQ.1 h0;refine ae.Ch (a:=1) (by simp[IntKind.bits];omega) (by rw[xa6];simp[bG];omega) ?_;rw[xa6];refine ae.K7 (by simp[bG];omega) (by simp[bG];omega) ?_;have Ws:a|||2^k=an.aB a k true:=rfl
      rw[Ws];intro F;refine aa.fq (CY zc hp hb.lt hlk hak) ?_;rintro r H2 ⟨rfl,kT⟩;intro F;refine aa.fq (si zc _ (an.aB a k true) (xag _) (an.gf hb.lt hlk) H2 kT) ?_;rintro r H3 ⟨rfl,TU⟩;have hb1:=FH zc a k;have sb:=L9 zc (an.aB a k true);refine ae.eZ λF=>(aa.fq (si zc _ a (xag _) hb.lt H3 TU) ?_);rintro r H4 ⟨rfl,hp4⟩;refine ae.dQ ?_;by_cases he:an.lvl n L a k+an.B n (an.lvl n L) (an.aB a k true)=an.B n (an.lvl n L) a
      · rw[xal he]
        have hmem:k∈an.bM n a:=an.cP.2 ⟨hlk,hak⟩;have VL:=QN (f:=n-l.length-1) hmem he hmin;have hml:=an.gM hmem;refine aD.mk (JE.mk (hJ _ _ λgs=>Br.yes ?_));refine az.int (e:=3) zK zK zK λxb=>?_;refine aN.app (A:=[_]) hb.own (by exact .head _) zP zP λv' C' ho=>?_;refine ae.Ch (a:=1) (by simp[IntKind.bits];omega) (by rw[xa6];simp[bG];omega) ?_;rw[xa6];refine ae.K7 (by simp[bG];omega) (by simp[bG];omega) ?_;rw[Ws];refine aC.of .right ⟨v',an.aB a k true,l++[k],C',H4,rfl,⟨by simpa[iw]using ho,an.gf hb.lt hlk,by simp;omega,?_⟩,hp4,rfl⟩ (by rw[iR,iR];show(an.bM n (an.aB a k true)).length<(an.bM n a).length;omega);have:=hb.pre;rw[hnf,VL]at this;rw[xaf,xbP,Nat.sub_add_eq,xaj];exact this
      · rw[xai he]
        exact aD.mk (JE.mk (hno H4 (λh=>he h.2) hp4))
    · obtain⟨u,h1,h2,_⟩:=an.vC (c:=an.lvl n L) (f:=0) afO
      exact absurd h2 (hmin u h1 (by have:=(an.cP.1 h1).1;omega))
  · have ng:l.length=n:=by omega
    have hl:l=an.ord n (an.lvl n L) n 0:=by
      have:=hb.pre;rw[ng,xcF]at this;simpa[an.ord]using this
    have hown:=hb.own;rw[hl]at hown;by_cases hne:L=[]
    · have hn:=Xw hne
      subst hne;subst hn;refine aa.fq (Od (a:=0) zO Pk) ?_;rintro r H3 ⟨rfl,rfl⟩;exact⟨_,_,rfl,.refl _,(by repeat (first|exact bV.refl _|apply bV.cons|apply bV.app)),.inr ⟨hO,0,[],rfl,Xw,v8,hf,.inr ⟨ue,_,C,(_::_::_::N),rfl,hown,rfl⟩⟩⟩
    · refine aa.fq (si (hOK hne) _ 0 (xag _) (xbs n) _ Pk) ?_
      rintro r H3 ⟨rfl,o5,qN,es4,ck4,rfl,ZH⟩;exact⟨_,_,rfl,.refl _,(by repeat (first|exact bV.refl _|apply bV.cons|apply bV.app)),.inr ⟨hO,n,L,rfl,Xw,v8,hf,.inr ⟨ue,_,C,(_::_::_::N),rfl,hown,rfl⟩⟩⟩
end
end Go.Proofs
namespace TK
abbrev It:=Int×Int
def prec(a b:It):Bool:=decide (a.2<b.2)||(a.2==b.2&&decide (a.1<b.1))
theorem vx{a b:It}:prec a b=true↔a.2<b.2\/a.2=b.2/\a.1<b.1:=by simp[prec]
theorem mH{a b:It}:prec a b=false↔¬(a.2<b.2\/a.2=b.2/\a.1<b.1):=by rw[<-vx];simp
theorem nM(a:It):prec a a=false:=by rw[mH];omega
theorem qg{a b:It}(h:prec a b=true):prec b a=false:=by rw[vx]at h;rw[mH];omega
theorem le_trans{a b c:It}(h1:prec b a=false)(h2:prec c b=false):prec c a=false:=by rw[mH]at*;omega
theorem FK{a b c:It}(h1:prec a b=true)(h2:prec c b=false):prec c a=false:=by rw[vx]at h1;rw[mH]at*;omega
def ie(V:Nat->It)(i:Nat)(b:It):Nat->It:=λj=>if j=i then b else V j
def E(V:Nat->It)(j:Nat):Prop:=prec (V j) (V ((j-1) /2))=false
def Ac(n:Nat)(V:Nat->It)(i:Nat):Prop:=
 (∀j,0<j->j<n->j≠i->(j-1) /2≠i->E V j)/\(∀j,0<j->j<n->(j-1) /2=i->0<i->prec (V j) (V ((i-1) /2))=false)
def o9(n:Nat)(V:Nat->It)(i:Nat):Prop:=∀j,0<j->j<n->(j-1) /2=i->E V j
def WW(n:Nat)(V:Nat->It)(i:Nat):Prop:=
 (∀j,0<j->j<n->(j-1) /2≠i->E V j)/\(∀j,0<j->j<n->(j-1) /2=i->0<i->prec (V j) (V ((i-1) /2))=false)
def Ord(n:Nat)(V:Nat->It):Prop:=∀j,0<j->j<n->E V j
theorem Ui{n i:Nat}{V:Nat->It}(hi:0<i)(hn:i<n)(h:Ac n V i)(ha:prec (V i) (V ((i-1) /2))=true):
  Ac n (ie (ie V i (V ((i-1) /2))) ((i-1) /2) (V i)) ((i-1) /2)/\o9 n (ie (ie V i (V ((i-1) /2))) ((i-1) /2) (V i)) ((i-1) /2):=by
 obtain⟨h1,h2⟩:=h;have hq:(i-1) /2≠i:=by omega
 generalize hqd:(i-1) /2=q at*;have hqi:q<i:=by omega
 refine⟨⟨?_,?_⟩,?_⟩
 ·intro j j0 jn jq jp;unfold E ie;rw[xac jq,xac jp];by_cases e1:j=i
  ·exact absurd (by rw[e1,hqd]) jp
  rw[xac e1];by_cases e2:(j-1) /2=i
  ·rw[xad e2];exact h2 j j0 jn e2 hi
  rw[xac e2];exact h1 j j0 jn e1 e2
 ·intro j j0 jn jp q0;unfold ie;have hqq:(q-1) /2≠q:=by omega
  have afD:(q-1) /2≠i:=by omega
  rw[xac hqq,xac afD];have hjq:j≠q:=by omega
  rw[xac hjq];have VJ:E V q:=h1 q q0 zO hq zO;by_cases e1:j=i
  ·rw[xad e1];exact VJ
  rw[xac e1];have:=h1 j j0 jn e1 zO;unfold E at this VJ;rw[jp]at this;exact le_trans VJ this
 intro j j0 jn jp;unfold E ie;rw[jp,xad rfl];have hjq:j≠q:=by omega
 rw[xac hjq];by_cases e1:j=i
 ·rw[xad e1];exact qg ha
 rw[xac e1];have:=h1 j j0 jn e1 zO;unfold E at this;rw[jp]at this;exact FK ha this
theorem Uj{n i:Nat}{V:Nat->It}(h:Ac n V i)(ha:i=0\/prec (V i) (V ((i-1) /2))=false):WW n V i:=by
 refine⟨λj j0 jn jp=>?_,h.2⟩;by_cases e:j=i
 ·subst e;rcases ha with ha|ha
  ·omega
  exact ha
 exact h.1 j j0 jn e jp
theorem zo{n i:Nat}{V:Nat->It}(h:WW n V i)(hc:o9 n V i):Ord n V:=λj j0 jn=>by
 by_cases e:(j-1) /2=i
 ·exact hc j j0 jn e
 exact h.1 j j0 jn e
def y5(n:Nat)(V:Nat->It)(i:Nat):Nat:=if(decide (2*i+1+1<n) &&prec (V (2*i+1+1)) (V (2*i+1)))=true then 2*i+1+1 else 2*i+1
theorem sI(n:Nat)(V:Nat->It)(i:Nat):y5 n V i=2*i+1\/y5 n V i=2*i+2/\2*i+2<n:=by
 unfold y5;split
 ·rename_i h;simp only[xaD,xar]at h;right;omega
 left;rfl
theorem y4{n i j:Nat}{V:Nat->It}(j0:0<j)(jn:j<n)(jp:(j-1) /2=i):prec (V j) (V (y5 n V i))=false:=by
 unfold y5;split
 ·rename_i h;simp only[xaD,xar]at h;rcases(show j=2*i+1\/j=2*i+1+1 by omega)with rfl|rfl
  ·exact qg h.2
  exact nM _
 rename_i h;rcases(show j=2*i+1\/j=2*i+1+1 by omega)with rfl|rfl
 ·exact nM _
 cases hh:prec (V (2*i+1+1)) (V (2*i+1))
 ·rfl
 exact absurd (by simp[hh,jn]) h
theorem sY{n i:Nat}{V:Nat->It}(h:WW n V i)(hk:y5 n V i<n)(ha:prec (V (y5 n V i)) (V i)=true):
  WW n (ie (ie V i (V (y5 n V i))) (y5 n V i) (V i)) (y5 n V i):=by
 have hl:∀j,0<j->j<n->(j-1) /2=i->prec (V j) (V (y5 n V i))=false:=λj=>y4;have hkc:=sI n V i;generalize y5 n V i=c at*;obtain⟨h1,h2⟩:=h;have hcp:(c-1) /2=i:=by omega
 have hc0:0<c:=by omega
 have pK:c≠i:=by omega
 refine⟨?_,?_⟩
 ·intro j j0 jn jp;unfold E ie;rw[xac jp];by_cases e1:j=c
  ·rw[xad e1,xad (by rw[e1];exact hcp)];exact qg ha
  rw[xac e1];by_cases e2:j=i
  ·rw[xad e2];have:(j-1) /2≠i:=by omega
   rw[xac this,e2];exact h2 c hc0 hk hcp zO
  rw[xac e2];by_cases e3:(j-1) /2=i
  ·rw[xad e3];exact hl j j0 jn e3
  rw[xac e3];exact h1 j j0 jn e3
 intro j j0 jn jp _;unfold ie;rw[hcp];have:j≠c:=by omega
 have e2:j≠i:=by omega
 rw[xac this,xac e2,xac (λe=>pK e.symm),xad rfl];have:=h1 j j0 jn zO;unfold E at this;rwa [jp]at this
theorem NZ{n i:Nat}{V:Nat->It}(h:WW n V i)(ha:n<=y5 n V i\/prec (V (y5 n V i)) (V i)=false):Ord n V:=by
 refine zo h λj j0 jn jp=>?_;have hl:=y4 (V:=V) j0 jn jp;rcases ha with ha|ha
 ·rcases sI n V i with h|h<;>omega
 unfold E;rw[jp];exact le_trans ha hl
theorem UZ{n:Nat}{V:Nat->It}(h:Ord n V):∀j,j<n->prec (V j) (V 0)=false:=by
 intro j;induction j using Nat.strongRecOn with
 |_ j ih=>
  intro jn;by_cases j0:j=0
  ·subst j0;exact nM _
  exact le_trans (ih ((j-1) /2) zO zO) (h j zO jn)
def bc(l:List It)(j:Nat):It:=l.getD j (0,0)
theorem WD{l:List It}{j:Nat}(h:j<l.length):l[j]? =some (bc l j):=by simp[bc,List.getD,h]
theorem g8{l:List It}{i:Nat}(b:It)(h:i<l.length):bc (l.set i b)=ie (bc l) i b:=by
 funext j
 unfold bc ie;simp only[List.getD,xbr];by_cases e:i=j
 ·subst e;simp[h]
 rw[xac e,xac (λx=>e x.symm)]
theorem p8{l:List It}{i:Nat}(h:i<l.length):l.set i (bc l i)=l:=by
 apply xbg;intro j;rw[xbr];by_cases e:i=j
 ·subst e;simp[h,bc,List.getD]
 simp[e]
theorem swap_perm{l:List It}{i q:Nat}(hi:i<l.length)(hq:q<l.length)(hne:q≠i):((l.set i (bc l q)).set q (bc l i)).Perm l:=by
 rw[xct];intro x;have g1:l[i]=bc l i:=by simp[bc,List.getD,hi]
 have g2:l[q]=bc l q:=by simp[bc,List.getD,hq]
 have g3:(l.set i (bc l q))[q]'(by simp[hq])=bc l q:=by rw[List.getElem_set_ne (λe=>hne e.symm)];exact g2
 rw[xdK (by simp[hq]),xdK hi,g1,g3];have hc:bc l i=x->0<l.count x:=λe=>by rw[xbL,<-e,<-g1];exact xaF hi
 by_cases e1:bc l i=x
 ·have:=hc e1;by_cases e2:bc l q=x<;>simp[e1,e2]<;>omega
 by_cases e2:bc l q=x<;>simp[e1,e2]
def jV(l:List It):Prop:=(l.map Prod.fst).Nodup
theorem jV.perm{l l':List It}(h:jV l)(p:l'.Perm l):jV l':=(p.map _).nodup_iff.2 h
theorem jV.inj{l:List It}(h:jV l){i j:Nat}(hi:i<l.length)(hj:j<l.length)(e:(bc l i).1=(bc l j).1):i=j:=by
 unfold jV at h;have hp:=List.pairwise_iff_getElem.1 h;have g:∀k (hk:k<l.length),(l.map Prod.fst)[k]'(by simpa using hk)=(bc l k).1:=λk hk=>by simp[bc,List.getD,hk]
 rcases xcI i j with hlt|rfl|hlt
 ·have:=hp i j (by simpa using hi) (by simpa using hj) hlt;rw[g i hi,g j hj]at this;exact absurd e this
 ·rfl
 have:=hp j i (by simpa using hj) (by simpa using hi) hlt;rw[g i hi,g j hj]at this;exact absurd e.symm this
theorem iz{l:List It}{x:Int}:x∈l.map Prod.fst↔∃j,j<l.length/\(bc l j).1=x:=by
 rw[xbd];constructor
 ·rintro⟨j,hj,e⟩;have hj':j<l.length:=by simpa using hj
  exact⟨j,hj',by simpa[bc,List.getD,hj']using e⟩
 rintro⟨j,hj,e⟩;exact⟨j,by simpa using hj,by simpa[bc,List.getD,hj]using e⟩
def EA(f:Int->Option Nat)(x:Int)(p:Option Nat):Int->Option Nat:=λy=>if y=x then p else f y
def nq(l:List It)(f:Int->Option Nat)(i:Nat):Prop:=(∀j,j<l.length->j≠i->f (bc l j).1=some j)/\∀x,x∉l.map Prod.fst->f x=none
def Cons(l:List It)(f:Int->Option Nat):Prop:=(∀j,j<l.length->f (bc l j).1=some j)/\∀x,x∉l.map Prod.fst->f x=none
theorem nq.done{l:List It}{f:Int->Option Nat}{i:Nat}(h:nq l f i)(ho:jV l)(hi:i<l.length):Cons l (EA f (bc l i).1 (some i)):=by
 refine⟨λj hj=>?_,λx hx=>?_⟩
 ·unfold EA;by_cases e:(bc l j).1=(bc l i).1
  ·rw[xad e,ho.inj hj hi e]
  rw[xac e];exact h.1 j hj (λe2=>e (by rw[e2]))
 unfold EA;rw[xac (λe=>hx (iz.2 ⟨i,hi,e.symm⟩))];exact h.2 x hx
theorem nq.step{l:List It}{f:Int->Option Nat}{i q:Nat}(h:nq l f i)(ho:jV l)(hi:i<l.length)(hq:q<l.length)(hne:q≠i):
  nq ((l.set i (bc l q)).set q (bc l i)) (EA f (bc l q).1 (some i)) q:=by
 have BN:∀j,bc ((l.set i (bc l q)).set q (bc l i)) j=ie (ie (bc l) i (bc l q)) q (bc l i) j:=λj=>by rw[g8 _ (by simpa using hq),g8 _ hi]
 refine⟨λj hj hjq=>?_,λx hx=>?_⟩
 ·rw[BN];simp only[xbT]at hj;unfold ie EA;rw[xac hjq];by_cases e:j=i
  ·rw[xad e,xad rfl,e]
  rw[xac e];rw[xac (λe2=>hjq (ho.inj hj hq e2))];exact h.1 j hj e
 have hx':x∉l.map Prod.fst:=λhm=>hx (by
  have:=(swap_perm hi hq hne).map Prod.fst;exact this.mem_iff.2 hm)
 unfold EA;rw[xac (λe=>hx' (iz.2 ⟨q,hq,e.symm⟩))];exact h.2 x hx'
end TK
namespace TK
open Go Go.Sx
def enc(kd:IntKind)(a:It):List zV:=[.int kd a.1,.int .i64 a.2]
def eX(kd:IntKind)(l:List It):List (List zV):=l.map (enc kd)
theorem cS(kd:IntKind)(l:List It):(eX kd l).length=l.length:=by simp[eX]
theorem NV(kd:IntKind)(l:List It):∀r∈eX kd l,r.length=2:=λr hr=>by
 obtain⟨a,_,rfl⟩:=xan.1 hr;rfl
theorem fW{kd:IntKind}{l:List It}{i:Nat}(h:i<l.length)(aP:List (List zV)):(eX kd l++aP)[i]? =some (enc kd (bc l i)):=by
 rw[xaY (by rw[cS];exact h),eX,xau,WD h];rfl
theorem SH{kd:IntKind}{l:List It}{i:Nat}(h:i<l.length)(a:It)(aP:List (List zV)):(eX kd l++aP).set i (enc kd a)=eX kd (l.set i a)++aP:=by
 rw[xcY _ _ (by rw[cS];exact h),eX,eX,xcN]
def idx(i:Nat):zV:=.int .i64 (i:Int)
def HO(kd:IntKind)(TI TH:TypeId)(h:zV)(l:List It)(f:Int->Option Nat)(C:Hp):Prop:=
 ∃bh sv mv Cs Cm,h=.pointer (some ⟨bh,0,none⟩)/\C=(bh,Obj.cells #[sv,mv] TH (0,0))::(Cs++Cm)/\bg TI 2 sv (eX kd l) Cs/\kX kd idx mv f Cm/\(mv=.map none->l=[])
theorem HO.open{kd:IntKind}{TI TH:TypeId}{h:zV}{l:List It}{f:Int->Option Nat}{C:Hp}(H:HO kd TI TH h l f C)(hp:0<l.length):
  ∃bh la mb aP Cm,h=.pointer (some ⟨bh,0,none⟩)/\
   C=(bh,Obj.cells #[.slice (some ⟨la,0,none⟩) l.length (l.length+aP.length),.map (some mb)] TH (0,0))::(la,.cells (rows (eX kd l++aP)) TI (0,0))::Cm/\
   (∀r∈eX kd l++aP,r.length=2)/\kX kd idx (.map (some mb)) f Cm:=by
 obtain⟨bh,sv,mv,Cs,Cm,rfl,rfl,hs,hm,hne⟩:=H;obtain⟨la,aP,rfl,rfl,aI⟩:=hs.pos (by rw[cS];exact hp);rw[cS];rcases hm with⟨rfl,_⟩|⟨mb,m,ck,rfl,h2⟩
 ·rw[hne rfl]at hp;simp at hp
 exact⟨bh,la,mb,aP,Cm,rfl,rfl,aI,.inr ⟨mb,m,ck,rfl,h2⟩⟩
theorem HO.shut{kd:IntKind}{TI TH:TypeId}{bh la mb n c:Nat}{aP:List (List zV)}{Cm:Hp}{l:List It}{f:Int->Option Nat}(aI:∀r∈eX kd l++aP,r.length=2)(hn:n=l.length)(hc:c=l.length+aP.length)
 (hm:kX kd idx (.map (some mb)) f Cm):
  HO kd TI TH (.pointer (some ⟨bh,0,none⟩)) l f ((bh,Obj.cells #[.slice (some ⟨la,0,none⟩) n c,.map (some mb)] TH (0,0))::(la,.cells (rows (eX kd l++aP)) TI (0,0))::Cm):=
 ⟨bh,_,_,[_],Cm,rfl,rfl,bg.mk' aI (by rw[cS];exact hn) (by rw[cS];exact hc),hm,λh=>by simp at h⟩
theorem Qu{l aP:List (List zV)}(h:∀r∈l++aP,r.length=2)(kd:IntKind)(l':List It):∀r∈eX kd l'++aP,r.length=2:=λr hr=>by
 rcases xao.1 hr with hr|hr
 ·exact NV kd l' r hr
 exact h r (by simp[hr])
theorem o6(kd:IntKind)(a:It):∀v∈enc kd a,v.oneCell'=true:=by simp[enc,Value.oneCell']
end TK
namespace TK
open Go Go.Sx
theorem Yk(j:Nat)(h:0<j):((j-1:Nat):Int).tdiv 2=(((j-1) /2:Nat):Int):=by
 rw[Int.tdiv_eq_ediv_of_nonneg zO];omega
theorem u6{l:List It}{i q:Nat}(a:It)(hi:i<l.length)(hq:q<l.length)(hne:q≠i):((l.set i a).set i (bc (l.set i a) q)).set q (bc (l.set i a) i)=(l.set i (bc l q)).set q a:=by
 rw[g8 a hi,List.set_set];simp[ie,hne]
def HI(kd:IntKind)(TI TH:TypeId)(h:zV)(l:List It)(C:Hp):Prop:=∃f,HO kd TI TH h l f C/\Cons l f/\Ord l.length (bc l)/\jV l
theorem GJ{l:List It}{a:It}{j:Nat}(h:j<l.length):bc (l++[a]) j=bc l j:=by simp[bc,List.getD,xaY h]
theorem QB{l:List It}{f:Int->Option Nat}{a:It}(hc:Cons l f)(ho:Ord l.length (bc l))(h1:jV l)(hx:a.1∉l.map Prod.fst):
  Ac (l++[a]).length (bc (l++[a])) l.length/\nq (l++[a]) f l.length/\jV (l++[a])/\o9 (l++[a]).length (bc (l++[a])) l.length:=by
 simp only[xaf,xaH,xcf,xa3];refine⟨⟨λj j0 jn jne jp=>?_,λj j0 jn jp=>by omega⟩,⟨λj jn jne=>?_,λx hx'=>?_⟩,?_,λj j0 jn jp=>by omega⟩
 ·unfold E;rw[GJ zO,GJ zO];exact ho j j0 zO
 ·simp only[xaf,xaH,xcf]at jn;rw[GJ zO];exact hc.1 j zO
 ·exact hc.2 x (λh=>hx' (by rw[xaJ,xao];exact .inl h))
 unfold jV at*;rw[xaJ,xa5];exact⟨h1,by simp,λa' ej b hb=>by simp at hb;subst hb;intro e;subst e;exact hx ej⟩
theorem SR{l:List It}{f:Int->Option Nat}(hc:Cons l f){x:Int}:(x∉l.map Prod.fst/\f x=none)\/∃i,i<l.length/\(bc l i).1=x/\f x=some i:=by
 by_cases h:x∈l.map Prod.fst
 ·obtain⟨j,hj,e⟩:=iz.1 h;exact .inr ⟨j,hj,e,by rw[<-e];exact hc.1 j hj⟩
 exact .inl ⟨h,hc.2 x h⟩
theorem US{l:List It}{f:Int->Option Nat}(hc:Cons l f)(ho:Ord l.length (bc l))(h1:jV l){n:Nat}(hn:l.length=n+1):
  let l':=l.take n
  ((0<n->(bc l n)::(l'.set 0 (bc l n)).tail=l'.set 0 (bc l n)/\(bc l 0::l'.set 0 (bc l n)).Perm l/\WW n (bc (l'.set 0 (bc l n))) 0/\jV (l'.set 0 (bc l n))/\
   nq (l'.set 0 (bc l n)) (EA f (bc l 0).1 none) 0)):=by
 intro l' Xw;have hl':l'.length=n:=by simp[l',hn]
 have dc:(bc l 0::l'.set 0 (bc l n)).Perm l:=by
  rw[xct];intro x;have e:l=l'++[bc l n]:=by
   have:l=l.take n++l.drop n:=(xbk n l).symm;have h2:l.drop n=[bc l n]:=by
    rw[xbc zO,xdi zO];simp[hn,bc,List.getD]
   rw[h2]at this;exact this
  have g0:l'[0]' zO=bc l 0:=by simp[l',bc,List.getD,hn]
  conv=>rhs;rw[e]
  rw[xb7,xdK zO,g0,xbi];have hc0:bc l 0=x->0<l'.count x:=λe=>by rw[xbL,<-e,<-g0];exact xaF _
  by_cases e1:bc l 0=x
  ·have:=hc0 e1;by_cases e2:bc l n=x<;>simp[e1,e2]<;>omega
  by_cases e2:bc l n=x<;>simp[e1,e2]
 have BN:∀j,j<n->j≠0->bc (l'.set 0 (bc l n)) j=bc l j:=λj hj h0=>by
  rw[g8 _ zO];simp[ie,h0,l',bc,List.getD,hj]
 have hO:jV (l'.set 0 (bc l n)):=by
  have:=(h1.perm dc:jV _);unfold jV at this⊢;simp only[xaB,xaX]at this;exact this.2
 refine⟨?_,dc,⟨λj j0 jn jp=>?_,λj j0 jn jp h=>by omega⟩,hO,λj hj Zk=>?_,λx hx=>?_⟩
 ·cases hh:l' with
  |nil=>rw[hh]at hl';simp at hl';omega
  |cons a r=>simp
 ·unfold E;rw[BN j jn zO,BN _ zO jp];exact ho j j0 zO
 ·simp only[xbT,hl']at hj;rw[BN j hj Zk];unfold EA;rw[xac (λe=>Zk (h1.inj zO zO e))];exact hc.1 j zO
 unfold EA;by_cases e:x=(bc l 0).1
 ·rw[xad e]
 rw[xac e];refine hc.2 x λhm=>hx ?_;have:=(dc.map Prod.fst).mem_iff.2 hm;simp only[xaB,xam]at this;rcases this with h|h
 ·exact absurd h e
 exact h
end TK
set_option maxRecDepth 100000
namespace Go.Proofs
open Go Go.Sx
section
open TK
abbrev T7:=HO .i64 397 395
abbrev WU:=HI .i64 397 395
theorem wX(a b:It)(B:Hp):Rd zQ 381 #[.agg #[iv a.1,iv a.2],.agg #[iv b.1,iv b.2]] B (· =.bool (prec a b)):=by
 refine aF λg=>Hi λb1 _ b2 _=>?_
 (repeat (first|apply ai.mk|refine Ld.mk (by repeat (first|exact List.Mem.head _|apply List.Mem.tail|apply xab)) rfl ?_|apply ae.eql|apply ae.geq))
 refine cm.or (a.2==b.2&&decide (a.1<b.1)) (λ_=>?_) rfl λ_=>aZ.mk (.skip .tail) rfl
 (repeat (first|apply ai.mk|refine Ld.mk (by repeat (first|exact List.Mem.head _|apply List.Mem.tail|apply xab)) rfl ?_|apply ae.eql|apply ae.geq))
 refine cm.and (decide (a.1<b.1)) (λ_=>?_) rfl λ_=>⟨rfl,rfl⟩
 (repeat (first|apply ai.mk|refine Ld.mk (by repeat (first|exact List.Mem.head _|apply List.Mem.tail|apply xab)) rfl ?_|apply ae.eql|apply ae.geq))
 exact⟨rfl,rfl⟩
theorem rF{h:zV}{l:List It}{f:Int->Option Nat}{C:Hp}(ho:T7 h l f C){i:Nat}(hi:i<l.length)(a:It):
  Fc zQ 333 #[h,iv (i:Int),.agg #[iv a.1,iv a.2]] C (λv C'=>v=.tuple #[]/\T7 h (l.set i a) (EA f a.1 (some i)) C'):=by
 obtain⟨bh,la,mb,aP,Cm,rfl,rfl,aI,hm⟩:=ho.open zO;refine aF λg=>HV λb1 _=>?_;refine DR.self ?_
 (repeat (first|apply Nil.ptr|apply ai.mk|refine Ld.mk (by repeat (first|exact List.Mem.head _|apply List.Mem.tail|apply xab)) rfl ?_))
 refine ax.whole (r:=enc .i64 a) zM rfl ?_;refine au.nat hi ?_;refine St.row (l:=eX .i64 l++aP) (by repeat (first|exact c8.head _|apply c8.tail|apply c8.cc)) aI (by rw[xaf,cS];omega) rfl (o6 _ _) ?_;refine DR.self ?_
 (repeat (first|apply Nil.ptr|apply ai.mk|refine Ld.mk (by repeat (first|exact List.Mem.head _|apply List.Mem.tail|apply xab)) rfl ?_))
 rw[<-xaL Cm];refine kX.br (p:=i) (A:=[_,_,_]) (B:=[]) hm λC' hm'=>?_;refine⟨_,_,rfl,.tail,rfl,?_⟩;rw[SH hi,xaL];exact .shut (Qu aI _ _) zI zI hm'
theorem YQ{h:zV}{l:List It}{f:Int->Option Nat}{C:Hp}(ho:T7 h l f C){i:Nat}(hi:i<l.length)(cJ:l.length<4611686018427387904)(hu:Ac l.length (bc l) i)(hc:nq l f i)(hO:jV l):
  Fc zQ 332 #[h,iv (i:Int)] C (λv C'=>v=.tuple #[]/\∃l' f' p,T7 h l' f' C'/\l'.Perm l/\Cons l' f'/\WW l'.length (bc l') p/\p<l'.length/\bc l' p=bc l i/\
   (o9 l.length (bc l) i->Ord l'.length (bc l'))):=by
 obtain⟨bh,la,mb,aP,Cm,rfl,rfl,aI,hm⟩:=ho.open zO;obtain⟨n,hn⟩:∃n,n=l.length:=⟨_,rfl⟩;obtain⟨a,ha⟩:∃a,a=bc l i:=⟨_,rfl⟩;refine aF λg=>HX ?_
 (repeat (first|apply Nil.ptr|apply ai.mk|refine Ld.mk (by repeat (first|exact List.Mem.head _|apply List.Mem.tail|apply xab)) rfl ?_))
 refine au.nat hi ?_;refine ax.row (l:=eX .i64 l++aP) zM aI (fW hi aP) ?_;intro b6 _;refine St.p (o6 _ _) ?_;rw[<-ha];refine⟨λvs H=>∃(j:Nat) (L:List It) (f:Int->Option Nat) (C:Hp),vs=[iv (j:Int)]/\H=(b6,Obj.cells (enc .i64 a).toArray 397 zZ)::C/\T7 (.pointer (some ⟨bh,0,none⟩)) L f C/\L.length=n/\j<n/\
   (L.set j a).Perm l/\Ac n (bc (L.set j a)) j/\nq (L.set j a) f j/\(o9 n (bc l) i->o9 n (bc (L.set j a)) j),
  λvs _=>bL vs 0,.mk ⟨i,l,f,_,rfl,rfl,ho,hn.symm,by omega,?_,?_,?_,?_⟩,?_⟩
 ·exact(by rw[ha,p8 hi])
 ·rw[ha,p8 hi,hn];exact hu
 ·rw[ha,p8 hi];exact hc
 ·rw[ha,p8 hi];exact id
 rintro w H ⟨j,L,f,C,hw,rfl,ho,hLn,hj,hp,hu,hc,kH⟩ gs;simp only[xaw,xa2]at hw;subst hw;have ho0:=ho;obtain⟨bh',la,mb,aP,Cm,hbh,rfl,aI,hm⟩:=ho.open zO;simp only[Value.pointer.injEq,xas,Addr.mk.injEq,xa2]at hbh;subst hbh;have hOV:jV (L.set j a):=hO.perm hp;have hlV:(L.set j a).length=n:=by simp[hLn]
 have XL:bc (L.set j a) j=a:=by rw[g8 a zO];simp[ie]
 have hVq:0<j->bc (L.set j a) ((j-1) /2)=bc L ((j-1) /2):=λh0=>by rw[g8 a zO];simp[ie,show¬((j-1) /2=j)from by omega]
 intro J hJ;have hend:¬(0<j/\prec a (bc L ((j-1) /2))=true)->J [.bool false] ((b6,Obj.cells (enc .i64 a).toArray 397 zZ)::(bh,Obj.cells #[.slice (some ⟨la,0,none⟩) L.length (L.length+aP.length),.map (some mb)] 395 zZ)::(la,.cells (rows (eX .i64 L++aP)) 397 zZ)::Cm):=λhno=>hJ _ _ λgs=>by
  refine Br.no (ax.q ?_);refine aa.fq (rF ho0 (i:=j) zO a) ?_;rintro v C' ⟨rfl,cA⟩;have hd:=hc.done hOV zO;rw[XL]at hd;have hex:=Uj hu (by
   by_cases h0:j=0
   ·exact .inl h0
   right;rw[XL,hVq zO];cases h:prec a (bc L ((j-1) /2))
   ·rfl
   exact absurd ⟨by omega,h⟩ hno)
  rw[<-hlV]at hex;exact⟨_,_,rfl,.tail,rfl,_,_,j,cA,hp,hd,hex,by omega,by rw[XL,ha],λhk=>zo hex (by rw[hlV];exact kH (by rw[hn];exact hk))⟩
 refine DR.self (ae.gtr (Br.dec (λh0=>?_) (λh0=>JE.mk (hend (λh=>h0 zO)))));have h0:0<j:=by omega
 refine ax.q ?_
 (repeat (first|apply Nil.ptr|apply ai.mk|refine Ld.mk (by repeat (first|exact List.Mem.head _|apply List.Mem.tail|apply xab)) rfl ?_))
 refine ae.lg (c:=((j-1:Nat):Int)) zO zO (ae.Qx zD (Yk j h0) zO (au.nat zO ?_));refine ax.row (l:=eX .i64 L++aP) zM aI (fW zO aP) ?_;intro F;refine aa.eq (wX a _ _) (⟨.refl _,?_⟩);cases Xu:prec a (bc L ((j-1) /2))with
 |false=>exact aD.mk (JE.mk (hend (λh=>by rw[Xu]at h;exact absurd h.2 zD)))
 |true=>
 refine aD.mk (JE.mk (hJ _ _ λgs=>Br.yes ?_))
 (repeat (first|apply Nil.ptr|apply ai.mk|refine Ld.mk (by repeat (first|exact List.Mem.head _|apply List.Mem.tail|apply xab)) rfl ?_))
 refine ae.lg (c:=((j-1:Nat):Int)) zO zO (ae.Qx zD (Yk j h0) zO (au.nat zO ?_));refine ax.row (l:=eX .i64 L++aP) zM aI (fW zO aP) ?_;refine aa.fq (rF ho0 (i:=j) zO (bc L ((j-1) /2))) ?_;rintro v C' ⟨rfl,cA⟩;refine ae.lg (c:=((j-1:Nat):Int)) zO zO (ae.Qx zD (Yk j h0) zO ?_);have hst:=Ui h0 (by rw[<-hlV]at hj;rw[hlV]at hj;exact hj) hu (by rw[XL,hVq h0];exact Xu);have hcs:=hc.step hOV (i:=j) (q:=(j-1) /2) zO zO zO;have hpp:=(swap_perm (l:=L.set j a) (i:=j) (q:=(j-1) /2) zO zO zO).trans hp;have Zz:(L.set j (bc L ((j-1) /2))).set ((j-1) /2) a=((L.set j a).set j (bc (L.set j a) ((j-1) /2))).set ((j-1) /2) (bc (L.set j a) j):=(u6 a zO zO zO).symm;have BN:bc ((L.set j (bc L ((j-1) /2))).set ((j-1) /2) a)=ie (ie (bc (L.set j a)) j (bc (L.set j a) ((j-1) /2))) ((j-1) /2) (bc (L.set j a) j):=by
  rw[Zz,g8 _ zP,g8 _ zO]
 refine aC.mk ⟨(j-1) /2,_,_,C',rfl,rfl,cA,by simp[hLn],by omega,?_,?_,?_,λ_=>?_⟩ ?_
 ·rw[Zz];exact hpp
 ·rw[BN];exact hst.1
 ·rw[Zz];rw[hVq h0]at hcs⊢;exact hcs
 ·rw[BN];exact hst.2
 simp only[bL,xbh];omega
end
section
open TK
theorem R1{h:zV}{l:List It}{f:Int->Option Nat}{C:Hp}(ho:T7 h l f C){i:Nat}(hi:i<l.length)(cJ:l.length<4611686018427387904)(hu:WW l.length (bc l) i)(hc:nq l f i)(hO:jV l):
  Fc zQ 334 #[h,iv (i:Int)] C (λv C'=>v=.tuple #[]/\∃l' f',T7 h l' f' C'/\l'.Perm l/\Cons l' f'/\Ord l'.length (bc l')):=by
 obtain⟨bh,la,mb,aP,Cm,rfl,rfl,aI,hm⟩:=ho.open zO;obtain⟨n,hn⟩:∃n,n=l.length:=⟨_,rfl⟩;obtain⟨a,ha⟩:∃a,a=bc l i:=⟨_,rfl⟩;refine aF λg=>HU ?_
 (repeat (first|apply Nil.ptr|apply ai.mk|refine Ld.mk (by repeat (first|exact List.Mem.head _|apply List.Mem.tail|apply xab)) rfl ?_|apply aR.mk|apply ae.geq))
 refine au.nat hi ?_;refine ax.row (l:=eX .i64 l++aP) zM aI (fW hi aP) ?_;intro b6 _;refine St.p (o6 _ _) ?_;rw[<-ha];refine⟨λvs H=>∃(j:Nat) (L:List It) (f:Int->Option Nat) (C:Hp),vs=[iv (j:Int)]/\H=(b6,Obj.cells (enc .i64 a).toArray 397 zZ)::C/\T7 (.pointer (some ⟨bh,0,none⟩)) L f C/\L.length=n/\j<n/\
   (L.set j a).Perm l/\WW n (bc (L.set j a)) j/\nq (L.set j a) f j,
  λvs _=>n-bL vs 0,.mk ⟨i,l,f,_,rfl,rfl,ho,hn.symm,by omega,?_,?_,?_⟩,?_⟩
 ·exact(by rw[ha,p8 hi])
 ·rw[ha,p8 hi,hn];exact hu
 ·rw[ha,p8 hi];exact hc
 rintro w H ⟨j,L,f,C,hw,rfl,ho,hLn,hj,hp,hu,hc⟩ gs;simp only[xaw,xa2]at hw;subst hw;have ho0:=ho;obtain⟨bh',la,mb,aP,Cm,hbh,rfl,aI,hm⟩:=ho.open zO;simp only[Value.pointer.injEq,xas,Addr.mk.injEq,xa2]at hbh;subst hbh;have hOV:jV (L.set j a):=hO.perm hp;have hlV:(L.set j a).length=n:=by simp[hLn]
 have XL:bc (L.set j a) j=a:=by rw[g8 a zO];simp[ie]
 have hVL:∀c,c≠j->bc (L.set j a) c=bc L c:=λc h0=>by rw[g8 a zO];simp[ie,h0]
 refine ae.abn (c:=((2*j:Nat):Int)) zO zO (ae.En (c:=((2*j+1:Nat):Int)) zO zO λJ hJ=>?_);obtain⟨c,hcd⟩:∃c,c=y5 n (bc (L.set j a)) j:=⟨_,rfl⟩;have hkc:=sI n (bc (L.set j a)) j;rw[<-hcd]at hkc;have jh:J [iv (c:Int)] ((b6,Obj.cells (enc .i64 a).toArray 397 zZ)::(bh,Obj.cells #[.slice (some ⟨la,0,none⟩) L.length (L.length+aP.length),.map (some mb)] 395 zZ)::(la,.cells (rows (eX .i64 L++aP)) 397 zZ)::Cm):=by
  refine hJ _ _ λgs2=>?_;intro J2 BP;have hstop:n<=c\/prec (bc L c) a=false->J2 [.bool true] ((b6,Obj.cells (enc .i64 a).toArray 397 zZ)::(bh,Obj.cells #[.slice (some ⟨la,0,none⟩) L.length (L.length+aP.length),.map (some mb)] 395 zZ)::(la,.cells (rows (eX .i64 L++aP)) 397 zZ)::Cm):=λhst=>BP _ _ λgs=>by
   refine Br.yes (ax.q ?_);refine aa.fq (rF ho0 (i:=j) zO a) ?_;rintro v C' ⟨rfl,cA⟩;have hd:=hc.done hOV zO;rw[XL]at hd;have hex:=NZ hu (by
    rw[<-hcd];by_cases h0:n<=c
    ·exact .inl h0
    right;rw[XL,hVL c zO];rcases hst with h|h
    ·omega
    exact h)
   rw[<-hlV]at hex;exact⟨_,_,rfl,.tail,rfl,_,_,cA,hp,hd,hex⟩
  refine DR.self ?_
  (repeat (first|apply Nil.ptr|apply ai.mk|refine Ld.mk (by repeat (first|exact List.Mem.head _|apply List.Mem.tail|apply xab)) rfl ?_|apply aR.mk|apply ae.geq))
  refine Br.dec (λh0=>JE.mk (hstop (.inl zO))) (λh0=>?_);have h0:c<n:=by omega
  (repeat (first|apply Nil.ptr|apply ai.mk|refine Ld.mk (by repeat (first|exact List.Mem.head _|apply List.Mem.tail|apply xab)) rfl ?_|apply aR.mk|apply ae.geq))
  refine au.nat zO ?_;refine ax.row (l:=eX .i64 L++aP) zM aI (fW zO aP) ?_;refine ax.q ?_;intro F;refine aa.eq (wX _ a _) (⟨.refl _,Un.not ?_⟩);cases Xu:prec (bc L c) a with
  |false=>exact aD.mk (JE.mk (hstop (.inr Xu)))
  |true=>
  refine aD.mk (JE.mk (BP _ _ λgs=>Br.no ?_))
  (repeat (first|apply Nil.ptr|apply ai.mk|refine Ld.mk (by repeat (first|exact List.Mem.head _|apply List.Mem.tail|apply xab)) rfl ?_|apply aR.mk|apply ae.geq))
  refine au.nat zO ?_;refine ax.row (l:=eX .i64 L++aP) zM aI (fW zO aP) ?_;refine aa.fq (rF ho0 (i:=j) zO (bc L c)) ?_;rintro v C' ⟨rfl,cA⟩;have hcj:c≠j:=by omega
  have hst:=sY hu (by rw[<-hcd];exact h0) (by rw[<-hcd,XL,hVL c hcj];exact Xu);rw[<-hcd]at hst;have hcs:=hc.step hOV (i:=j) (q:=c) zO zO hcj;have hpp:=(swap_perm (l:=L.set j a) (i:=j) (q:=c) zO zO hcj).trans hp;have Zz:(L.set j (bc L c)).set c a=((L.set j a).set j (bc (L.set j a) c)).set c (bc (L.set j a) j):=(u6 a zO zO hcj).symm;have BN:bc ((L.set j (bc L c)).set c a)=ie (ie (bc (L.set j a)) j (bc (L.set j a) c)) c (bc (L.set j a) j):=by
   rw[Zz,g8 _ zP,g8 _ zO]
  refine aC.mk ⟨c,_,_,C',rfl,rfl,cA,by simp[hLn],by omega,?_,?_,?_⟩ ?_
  ·rw[Zz];exact hpp
  ·rw[BN];exact hst
  ·rw[Zz];rw[hVL c hcj]at hcs⊢;exact hcs
  simp only[bL,xbh];omega
 intro J3 hJ3;have hkd:y5 n (bc (L.set j a)) j=if(decide (2*j+1+1<n) &&prec (bc L (2*j+1+1)) (bc L (2*j+1)))=true then 2*j+1+1 else 2*j+1:=by
  unfold y5;rw[hVL _ zO,hVL _ zO]
 rw[hkd]at hcd;have hno:¬(2*j+1+1<n/\prec (bc L (2*j+1+1)) (bc L (2*j+1))=true)->J3 [.bool false] ((b6,Obj.cells (enc .i64 a).toArray 397 zZ)::(bh,Obj.cells #[.slice (some ⟨la,0,none⟩) L.length (L.length+aP.length),.map (some mb)] 395 zZ)::(la,.cells (rows (eX .i64 L++aP)) 397 zZ)::Cm):=λhx=>hJ3 _ _ λgs=>by
  rw[xac (by simpa using hx)]at hcd;rw[hcd]at jh;exact Br.no (.mk jh)
 refine DR.self (ae.En (c:=((2*j+1+1:Nat):Int)) zO zO ?_)
 (repeat (first|apply Nil.ptr|apply ai.mk|refine Ld.mk (by repeat (first|exact List.Mem.head _|apply List.Mem.tail|apply xab)) rfl ?_|apply aR.mk|apply ae.geq))
 refine Br.dec (λh0=>?_) (λh0=>JE.mk (hno (λh=>h0 zO)));have h0:2*j+1+1<n:=by omega
 (repeat (first|apply Nil.ptr|apply ai.mk|refine Ld.mk (by repeat (first|exact List.Mem.head _|apply List.Mem.tail|apply xab)) rfl ?_|apply aR.mk|apply ae.geq))
 refine ae.En (c:=((2*j+1+1:Nat):Int)) zO zO (au.nat zO ?_);refine ax.row (l:=eX .i64 L++aP) zM aI (fW zO aP) ?_
 (repeat (first|apply Nil.ptr|apply ai.mk|refine Ld.mk (by repeat (first|exact List.Mem.head _|apply List.Mem.tail|apply xab)) rfl ?_|apply aR.mk|apply ae.geq))
 refine au.nat zO ?_;refine ax.row (l:=eX .i64 L++aP) zM aI (fW zO aP) ?_;intro F;refine aa.eq (wX _ _ _) (⟨.refl _,?_⟩);cases Xu:prec (bc L (2*j+1+1)) (bc L (2*j+1))with
 |false=>exact aD.mk (JE.mk (hno (λh=>by rw[Xu]at h;exact absurd h.2 zD)))
 |true=>
 refine aD.mk (JE.mk (hJ3 _ _ λgs=>Br.yes ?_));refine ae.En (c:=((2*j+1+1:Nat):Int)) zO zO ?_;rw[xad (by simp[h0,Xu])]at hcd;rw[hcd]at jh;exact .mk jh
theorem VM(B:Hp):Fc zQ 261 #[] B (λv H=>∃b C,v=.pointer (some ⟨b,0,none⟩)/\H=C++B/\WU (.pointer (some ⟨b,0,none⟩)) [] C):=by
 refine aF λg=>IX (Build.mk (cs:=[.slice none 0 0,.map none]) zK ?_);intro b _;exact⟨_,_,rfl,.refl _,b,[_],rfl,rfl,λ_=>none,⟨b,_,_,[],[],rfl,rfl,bg.nil _ _,.inl ⟨rfl,rfl,rfl⟩,λ_=>rfl⟩,⟨λj hj=>by simp at hj,λ_ _=>rfl⟩,λj _ hj=>by simp at hj,by simp[jV]⟩
theorem RC{h:zV}{l:List It}{C:Hp}(hi:WU h l C)(cJ:l.length<4398046511104)(x k:Int):
  Fc zQ 263 #[h,iv x,iv k] C (λv C'=>∃l',WU h l' C'/\
   ((x∈l.map Prod.fst/\v=iv 11/\l'=l)\/(x∉l.map Prod.fst/\v=iv 0/\l'.Perm ((x,k)::l)))):=by
 have F9:=hi;obtain⟨f,ho,hc,hO,h1⟩:=hi;have ho0:=ho;obtain⟨bh,sv,mv,Cs,Cm,rfl,rfl,hs,hm,hne⟩:=ho;refine aF λg=>IV ?_
 (repeat (first|apply Nil.ptr|refine ai.mk ?_|refine Ld.mk zM rfl ?_|refine aR.mk ?_|refine ae.eql ?_|refine ae.neq ?_|refine ae.lss ?_|refine ae.leq ?_|refine ae.gtr ?_|refine ae.geq ?_|apply Un.not|refine Ext.mk rfl ?_|refine aD.mk ?_|refine ae.aH ?_|refine ae.kS ?_|refine ae.kR ?_|apply Br.yes|apply Br.no))
 rcases SR hc (x:=x)with⟨hx,hf⟩|⟨i,hi,hx,hf⟩
 ·refine hm.Nh zS hf ?_
  (repeat (first|apply Nil.ptr|refine ai.mk ?_|refine Ld.mk zM rfl ?_|refine aR.mk ?_|refine ae.eql ?_|refine ae.neq ?_|refine ae.lss ?_|refine ae.leq ?_|refine ae.gtr ?_|refine ae.geq ?_|apply Un.not|refine Ext.mk rfl ?_|refine aD.mk ?_|refine ae.aH ?_|refine ae.kS ?_|refine ae.kR ?_|apply Br.yes|apply Br.no))
  intro J hJ;obtain⟨uB,kT,TU,hp4⟩:=QB (a:=(x,k)) hc hO h1 hx;have jh:∀mb XZ,kX .i64 idx (.map (some mb)) f XZ->J [] ((bh,Obj.cells #[sv,.map (some mb)] 395 zZ)::(Cs++XZ)):=by
   intro mb XZ hm';refine hJ _ λgs=>?_
   (repeat (first|apply Nil.ptr|refine ai.mk ?_|refine Ld.mk zM rfl ?_|refine aR.mk ?_|refine ae.eql ?_|refine ae.neq ?_|refine ae.lss ?_|refine ae.leq ?_|refine ae.gtr ?_|refine ae.geq ?_|apply Un.not|refine Ext.mk rfl ?_|refine aD.mk ?_|refine ae.aH ?_|refine ae.kS ?_|refine ae.kR ?_|apply Br.yes|apply Br.no))
   refine Build.mk (cs:=enc .i64 (x,k)) zK (az.one (k:=2) (e:=397) (z:=.agg #[iv 0,iv 0]) zK zK zK zD rfl λxb=>?_);refine hs.GL (A:=[_,_]) (B:=XZ) (r:=enc .i64 (x,k)) zM rfl (o6 _ _) ⟨[iv 0,iv 0],rfl,rfl⟩ (by rw[cS];omega) (by rw[cS];omega) λv' C' hs'=>?_
   (repeat (first|apply Nil.ptr|refine ai.mk ?_|refine Ld.mk zM rfl ?_|refine aR.mk ?_|refine ae.eql ?_|refine ae.neq ?_|refine ae.lss ?_|refine ae.leq ?_|refine ae.gtr ?_|refine ae.geq ?_|apply Un.not|refine Ext.mk rfl ?_|refine aD.mk ?_|refine ae.aH ?_|refine ae.kS ?_|refine ae.kR ?_|apply Br.yes|apply Br.no))
   refine St.one (by repeat (first|exact c8.head _|apply c8.tail|apply c8.cc)) (by obtain⟨a,c,rfl⟩:=hs'.len;rfl) zI rfl ?_
   (repeat (first|apply Nil.ptr|refine ai.mk ?_|refine Ld.mk zM rfl ?_|refine aR.mk ?_|refine ae.eql ?_|refine ae.neq ?_|refine ae.lss ?_|refine ae.leq ?_|refine ae.gtr ?_|refine ae.geq ?_|apply Un.not|refine Ext.mk rfl ?_|refine aD.mk ?_|refine ae.aH ?_|refine ae.kS ?_|refine ae.kR ?_|apply Br.yes|apply Br.no))
   refine hs'.bP ?_;refine ae.lg (c:=((l.length:Nat):Int)) (by rw[xaf,cS];simp) zO ?_;have sM:bg 397 2 v' (eX .i64 (l++[(x,k)])) C':=by simpa[eX]using hs'
   have cA:T7 (.pointer (some ⟨bh,0,none⟩)) (l++[(x,k)]) f ((bh,Obj.cells #[v',.map (some mb)] 395 zZ)::(C'++XZ)):=
    ⟨bh,_,_,C',XZ,rfl,rfl,sM,hm',λh=>by simp at h⟩
   refine aa.pre (.tail) ?_;refine aa.fq (YQ cA (i:=l.length) zI zP uB kT TU) ?_;rintro v C'' ⟨rfl,l',f',p,r9,dc,hc2,hex,hp,BN,afI⟩;refine⟨_,_,rfl,.refl _,l',⟨f',r9,hc2,afI hp4,TU.perm dc⟩,.inr ⟨hx,rfl,dc.trans ?_⟩⟩;exact xbe (l₁:=l) (l₂:=[(x,k)])
  (repeat (first|apply Nil.ptr|refine ai.mk ?_|refine Ld.mk zM rfl ?_|refine aR.mk ?_|refine ae.eql ?_|refine ae.neq ?_|refine ae.lss ?_|refine ae.leq ?_|refine ae.gtr ?_|refine ae.geq ?_|apply Un.not|refine Ext.mk rfl ?_|refine aD.mk ?_|refine ae.aH ?_|refine ae.kS ?_|refine ae.kR ?_|apply Br.yes|apply Br.no))
  rcases hm with⟨rfl,rfl,hfn⟩|⟨mb,m,ck,rfl,h2⟩
  ·(repeat (first|apply Nil.ptr|refine ai.mk ?_|refine Ld.mk zM rfl ?_|refine aR.mk ?_|refine ae.eql ?_|refine ae.neq ?_|refine ae.lss ?_|refine ae.leq ?_|refine ae.gtr ?_|refine ae.geq ?_|apply Un.not|refine Ext.mk rfl ?_|refine aD.mk ?_|refine ae.aH ?_|refine ae.kS ?_|refine ae.kR ?_|apply Br.yes|apply Br.no))
   intro mb _
   (repeat (first|apply Nil.ptr|refine ai.mk ?_|refine Ld.mk zM rfl ?_|refine aR.mk ?_|refine ae.eql ?_|refine ae.neq ?_|refine ae.lss ?_|refine ae.leq ?_|refine ae.gtr ?_|refine ae.geq ?_|apply Un.not|refine Ext.mk rfl ?_|refine aD.mk ?_|refine ae.aH ?_|refine ae.kS ?_|refine ae.kR ?_|apply Br.yes|apply Br.no))
   refine St.one (by repeat (first|exact c8.head _|apply c8.tail|apply c8.cc)) rfl zI rfl ?_;refine JE.of ?_ (jh mb _ (by rw[hfn];exact kX.made mb));simp only[xaL];refine .perm ?_;refine(List.Perm.swap _ _ _).trans (.cons _ ?_);exact xbe (l₁:=[_])
  (repeat (first|apply Nil.ptr|refine ai.mk ?_|refine Ld.mk zM rfl ?_|refine aR.mk ?_|refine ae.eql ?_|refine ae.neq ?_|refine ae.lss ?_|refine ae.leq ?_|refine ae.gtr ?_|refine ae.geq ?_|apply Un.not|refine Ext.mk rfl ?_|refine aD.mk ?_|refine ae.aH ?_|refine ae.kS ?_|refine ae.kR ?_|apply Br.yes|apply Br.no))
  exact JE.mk (jh mb Cm (.inr ⟨mb,m,ck,rfl,h2⟩))
 refine hm.Ng zS hf ?_
 (repeat (first|apply Nil.ptr|refine ai.mk ?_|refine Ld.mk zM rfl ?_|refine aR.mk ?_|refine ae.eql ?_|refine ae.neq ?_|refine ae.lss ?_|refine ae.leq ?_|refine ae.gtr ?_|refine ae.geq ?_|apply Un.not|refine Ext.mk rfl ?_|refine aD.mk ?_|refine ae.aH ?_|refine ae.kS ?_|refine ae.kR ?_|apply Br.yes|apply Br.no))
 refine⟨_,_,rfl,.refl _,l,F9,.inl ⟨?_,rfl,rfl⟩⟩;rw[iz];exact⟨i,hi,hx⟩
theorem VK{h:zV}{l:List It}{C:Hp}(hi:WU h l C)(cJ:l.length<4398046511104):
  Fc zQ 265 #[h] C (λv C'=>∃l',WU h l' C'/\
   ((l=[]/\v=.tuple #[iv 0,iv 0,iv 10]/\l'=l)\/(∃a,l.Perm (a::l')/\(∀b∈l,prec b a=false)/\v=.tuple #[iv a.1,iv a.2,iv 0]))):=by
 have F9:=hi;obtain⟨f,ho,hc,hO,h1⟩:=hi;by_cases hl:l=[]
 ·subst hl;refine aF λg=>xz ?_;obtain⟨bh,sv,mv,Cs,Cm,rfl,rfl,hs,hm,hne⟩:=ho
  (repeat (first|apply Nil.ptr|apply ai.mk|refine Ld.mk (by repeat (first|exact List.Mem.head _|apply List.Mem.tail|apply xab)) rfl ?_|apply aR.mk|apply ae.eql|apply ae.lss|apply Br.yes|apply Br.no|apply ae.aH))
  refine cm.or true (λ_=>?_) rfl λ_=>?_
  ·(repeat (first|apply Nil.ptr|apply ai.mk|refine Ld.mk (by repeat (first|exact List.Mem.head _|apply List.Mem.tail|apply xab)) rfl ?_|apply aR.mk|apply ae.eql|apply ae.lss|apply Br.yes|apply Br.no|apply ae.aH))
   refine hs.bP ?_
   (repeat (first|apply Nil.ptr|apply ai.mk|refine Ld.mk (by repeat (first|exact List.Mem.head _|apply List.Mem.tail|apply xab)) rfl ?_|apply aR.mk|apply ae.eql|apply ae.lss|apply Br.yes|apply Br.no|apply ae.aH))
   exact⟨rfl,rfl⟩
  (repeat (first|apply Nil.ptr|apply ai.mk|refine Ld.mk (by repeat (first|exact List.Mem.head _|apply List.Mem.tail|apply xab)) rfl ?_|apply aR.mk|apply ae.eql|apply ae.lss|apply Br.yes|apply Br.no|apply ae.aH))
  exact⟨_,_,rfl,.refl _,[],F9,.inl ⟨rfl,rfl,rfl⟩⟩
 obtain⟨n,hn⟩:∃n,l.length=n+1:=⟨l.length-1,by have:=xc9.2 hl;omega⟩;have hmin:∀b∈l,prec b (bc l 0)=false:=λb hb=>by
  obtain⟨j,hj,e⟩:=xbd.1 hb;have:=UZ hO j hj;rwa [show bc l j=b by simp[bc,List.getD,hj,e]]at this
 intro g;refine xz (R:=aM _) ?_;obtain⟨bh,la,mb,aP,Cm,rfl,rfl,aI,hm⟩:=ho.open zO;unfold L265
 (repeat (first|apply Nil.ptr|apply ai.mk|refine Ld.mk (by repeat (first|exact List.Mem.head _|apply List.Mem.tail|apply xab)) rfl ?_|apply aR.mk|apply ae.eql|apply ae.lss|apply Br.yes|apply Br.no|apply ae.aH))
 refine cm.or false (λ_=>?_) rfl λ_=>?_
 ·(repeat (first|apply Nil.ptr|apply ai.mk|refine Ld.mk (by repeat (first|exact List.Mem.head _|apply List.Mem.tail|apply xab)) rfl ?_|apply aR.mk|apply ae.eql|apply ae.lss|apply Br.yes|apply Br.no|apply ae.aH))
  exact⟨rfl,by rw[hn];simp;omega⟩
 (repeat (first|apply Nil.ptr|apply ai.mk|refine Ld.mk (by repeat (first|exact List.Mem.head _|apply List.Mem.tail|apply xab)) rfl ?_|apply aR.mk|apply ae.eql|apply ae.lss|apply Br.yes|apply Br.no|apply ae.aH))
 refine au.of 0 rfl zO ?_;refine ax.row (l:=eX .i64 l++aP) zM aI (fW zO aP) ?_;intro s9 _;refine St.p (o6 _ _) ?_
 (repeat (first|apply Nil.ptr|apply ai.mk|refine Ld.mk (by repeat (first|exact List.Mem.head _|apply List.Mem.tail|apply xab)) rfl ?_|apply aR.mk|apply ae.eql|apply ae.lss|apply Br.yes|apply Br.no|apply ae.aH))
 refine ae.lg (c:=(n:Int)) (by rw[hn];simp) zO ?_
 (repeat (first|apply Nil.ptr|apply ai.mk|refine Ld.mk (by repeat (first|exact List.Mem.head _|apply List.Mem.tail|apply xab)) rfl ?_|apply aR.mk|apply ae.eql|apply ae.lss|apply Br.yes|apply Br.no|apply ae.aH))
 refine au.nat zO ?_;refine ax.row (l:=eX .i64 l++aP) zM aI (fW zO aP) ?_;intro b27 _;refine St.p (o6 _ _) ?_
 (repeat (first|apply Nil.ptr|apply ai.mk|refine Ld.mk (by repeat (first|exact List.Mem.head _|apply List.Mem.tail|apply xab)) rfl ?_|apply aR.mk|apply ae.eql|apply ae.lss|apply Br.yes|apply Br.no|apply ae.aH))
 refine gy.upto (h:=n) zO ?_
 (repeat (first|apply Nil.ptr|apply ai.mk|refine Ld.mk (by repeat (first|exact List.Mem.head _|apply List.Mem.tail|apply xab)) rfl ?_|apply aR.mk|apply ae.eql|apply ae.lss|apply Br.yes|apply Br.no|apply ae.aH))
 refine St.one (by repeat (first|exact c8.head _|apply c8.tail|apply c8.cc)) rfl zI rfl ?_;refine DR.self ?_
 (repeat (first|apply Nil.ptr|apply ai.mk|refine Ld.mk (by repeat (first|exact List.Mem.head _|apply List.Mem.tail|apply xab)) rfl ?_|apply aR.mk|apply ae.eql|apply ae.lss|apply Br.yes|apply Br.no|apply ae.aH))
 rw[<-xaL Cm];refine kX.del (A:=[_,_,_,_]) (B:=[]) hm λXZ hm'=>?_;rw[xaL];have Xt:eX .i64 l++aP=eX .i64 (l.take n)++(enc .i64 (bc l n)::aP):=by
  have e:l=l.take n++[bc l n]:=by
   have h2:l.drop n=[bc l n]:=by
    rw[xbc zO,xdi zO];simp[hn,bc,List.getD]
   have:=(xbk n l).symm;rw[h2]at this;exact this
  conv=>lhs;rw[e]
  simp[eX]
 have Sc:∀r∈eX .i64 (l.take n)++(enc .i64 (bc l n)::aP),r.length=2:=by rw[<-Xt];exact aI
 intro J hJ;have hlt:(l.take n).length=n:=by simp[hn]
 have jh:∀l' C',WU (.pointer (some ⟨bh,0,none⟩)) l' C'->l.Perm (bc l 0::l')->J [] ((b27,Obj.cells (enc .i64 (bc l n)).toArray 397 zZ)::(s9,Obj.cells (enc .i64 (bc l 0)).toArray 397 zZ)::C'):=by
  intro l' C' hi' Y8;refine hJ _ λgs=>?_
  (repeat (first|apply Nil.ptr|apply ai.mk|refine Ld.mk (by repeat (first|exact List.Mem.head _|apply List.Mem.tail|apply xab)) rfl ?_|apply aR.mk|apply ae.eql|apply ae.lss|apply Br.yes|apply Br.no|apply ae.aH))
  exact⟨_,_,rfl,.skip .tail,l',hi',.inr ⟨_,Y8,hmin,rfl⟩⟩
 (repeat (first|apply Nil.ptr|apply ai.mk|refine Ld.mk (by repeat (first|exact List.Mem.head _|apply List.Mem.tail|apply xab)) rfl ?_|apply aR.mk|apply ae.eql|apply ae.lss|apply Br.yes|apply Br.no|apply ae.aH))
 have x5:T7 (.pointer (some ⟨bh,0,none⟩)) (l.take n) (EA f (bc l 0).1 none) ((bh,Obj.cells #[.slice (some ⟨la,0,none⟩) n (l.length+aP.length),.map (some mb)] 395 zZ)::(la,.cells (rows (eX .i64 l++aP)) 397 zZ)::XZ):=by
  rw[Xt];exact .shut Sc hlt.symm (by simp[hn];omega) hm'
 refine Br.mk (λh0=>?_) (λh0=>?_)
 ·have h0:0<n:=by simpa using h0
  obtain⟨_,q1,q2,q3,q4⟩:=US hc hO h1 hn h0;refine ax.q ?_;refine aa.fq (rF x5 (i:=0) zO (bc l n)) ?_;rintro v C2 ⟨rfl,r9⟩;have BM:nq ((l.take n).set 0 (bc l n)) (EA (EA f (bc l 0).1 none) (bc l n).1 (some 0)) 0:=by
   refine⟨λj hj Zk=>?_,λx hx=>?_⟩
   ·unfold EA;rw[xac]
    ·exact q4.1 j hj Zk
    intro e;have h00:bc ((l.take n).set 0 (bc l n)) 0=bc l n:=by rw[g8 _ zO];simp[ie]
    exact Zk (q3.inj hj zP (by rw[e,h00]))
   unfold EA;rw[xac]
   ·exact q4.2 x hx
   intro e;refine hx (iz.2 ⟨0,by simp;omega,?_⟩);rw[g8 _ zO];simp[ie,e]
  refine aa.fq (R1 r9 (i:=0) zP zP (by simpa[hn]using q2) BM q3) ?_;rintro v C3 ⟨rfl,l3,f3,Dv,RE,Zu,abV⟩;exact JE.mk (jh l3 C3 ⟨f3,Dv,Zu,abV,q3.perm RE⟩ ((RE.cons (bc l 0)).trans q1).symm)
 have h0:n=0:=by simp at h0;omega
 subst h0;refine JE.mk (jh (l.take 0) _ ⟨_,x5,⟨λj hj=>by simp at hj,λx _=>?_⟩,λj _ hj=>by simp at hj,by simp[jV]⟩ ?_)
 ·unfold EA;split
  ·rfl
  rename_i hne;refine hc.2 x λhm=>hne ?_;obtain⟨j,hj,e⟩:=iz.1 hm;rw[show j=0 by omega]at e;exact e.symm
 match l,hn with
 | [a],_=>exact .refl _
end
end Go.Proofs
namespace an
open Go.Sx TK
def nn(s k:Nat):It:=((s:Int),(k:Int))
variable {n:Nat} {c:Nat->Nat->Nat} {T:Nat} {D:zL} {l l':List It} {s i:Nat}
end an
