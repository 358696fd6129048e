import Derived.Test.YtgeffephefcdiaaGreatK3
import Derived.Test.YtgeffephefcdiaaGreatK2
import Derived.Test.YtgeffephefcdiaaGreatK1
import Derived.Deep.Slices
import Derived.SizedLaws
set_option linter.unusedVariables false
set_option linter.unusedSimpArgs false
set_option linter.unusedSectionVars false
set_option maxRecDepth 100000
namespace Go.Proofs
open Go Go.Sx
open aA
theorem LY(x:Bool)(B:Hp):Rd zQ 248 #[.bool x] B (· =.int .u8 ((x.toNat:Nat):Int)):=by
 refine aE λg=>I4 ?_;cases x
 ·exact Br.no (bg.mk (.refl _) rfl)
 exact Br.yes (bg.mk (.refl _) rfl)
def Xe(op:Nat)(a b:Bool):Bool:=op.testBit (2*a.toNat+b.toNat)
abbrev M0(b op:Nat):Hp:=[(b,.cells #[.int .u8 (op:Int)] 5 zZ)]
theorem GD{b op:Nat}(hop:op<16):By (.func (.func 247) #[] #[ptr b]) (M0 b op) (λx y _=>Xe op x y):=by
 refine⟨_,_,_,rfl,by kernel_rfl,λx y z=>?_⟩;refine aE λg=>I5 (DR.of (R:=M0 b op) (.refl _) (Ld.q ?_));refine aa.eq (LY x _) (⟨.refl _,?_⟩);have hx:x.toNat<=1:=by cases x<;>decide
 have hy:y.toNat<=1:=by cases y<;>decide
 refine ae.xZ (a:=2) (aa.eq (LY y _) (⟨.refl _,?_⟩));refine ae.fH (ae.iM (by simp[bF];omega) (ae.jF (b:=1) (by simp[bF];exact xaA (xbl _ _) zO) (by simp[bF]) (ae.eR (b:=1) (bg.mk (.refl _) ?_))));congr 1;unfold Xe;rw[xbR];rw[xc9,xa0]
theorem FQ:By (.func (.func 179) #[] #[]) [] (λx y z=>if x then y else z):=by
 refine⟨_,_,_,rfl,by kernel_rfl,λx y z=>?_⟩;refine aE λg=>JH ?_;cases x
 ·refine dc.mk false (λh=>by simp at h) (λ_=>rfl) λgs=>?_;refine dc.mk (by exact z) (λ_=>Un.not (dc.and z (λ_=>⟨rfl,rfl⟩) zI λgs=>⟨rfl,by simp⟩)) (λh=>by simp at h) λgs=>?_;exact bg.mk (.refl _) rfl
 refine dc.and y (λ_=>⟨rfl,rfl⟩) zI λgs=>?_;refine dc.or false (λ_=>Un.not (dc.and z (λ_=>⟨rfl,rfl⟩) zI λgs=>⟨rfl,by simp⟩)) zI λgs=>?_;refine bg.mk (.refl _) ?_;cases y<;>rfl
section
variable {kp:Nat} {K:Kd} {S:Nat->aA.Fn} {ord ah tr:zL} {C:Hp}
theorem aa5{α:Type}(w a b:α)(L R:List α):(w::(L++(a::b::R))).Perm (a::([b]++w::(L++R))):=by
 classical
 rw[xcs];intro x;simp only[xbf,xb3,xdK];omega
theorem Ee(hK:cc kp K S ord ah tr C){q:zL}(hq:∀r∈q,live K.N r):∃c,Tree K.n (lv ah) K.N q c:=by
 obtain⟨c,h1,_⟩:=Uo (S:=S) hK.ok.wf hK.ok.lv hK.ok.mid.int K.n 0 q zO zO hq (λr _=>xaM _);exact⟨c,h1⟩
theorem j6.two{f:aA.Fn}{w:zV}{H:Hp}(h:j6 kp K S ord ah tr f w H):∃x e,w=.tuple #[x,e]:=by
 rcases h with(⟨x,K',S',rfl,_⟩|⟨rfl,_⟩)|⟨rfl,_⟩
 ·exact⟨_,_,rfl⟩
 ·exact⟨_,_,rfl⟩
 exact⟨_,_,rfl⟩
theorem jG(hK:cc kp K S ord ah tr C){op a b:Nat}(hop:op<16)(ha:live K.N a)(hb:live K.N b):
  Fc zQ 176 #[ptr kp,.int .u8 (op:Int),u32 a,u32 b] C (j6 kp K S ord ah tr (λx=>Xe op (S a x) (S b x))):=by
 refine aE λg=>JK λb1 _=>?_;refine ae.aH (Br.no (Ld.q ?_));refine ae.ny (b:=15) (Br.F (au.Rj (e:=110) (x:=(a:Int)) (y:=(b:Int)) zK zK zK λbs=>?_));have hq:∀r∈l3 (a,b,0),live K.N r:=λr hr=>by
  simp only[l3,xak,xaQ,xbE]at hr;rcases hr with rfl|rfl|rfl
  ·exact ha
  ·exact hb
  exact .inl zO
 have hI:dk .u32 ((bs,Obj.cells (ax .u32 [(a:Int),(b:Int)]) 110 zZ)::M0 b1 op) (.slice (some ⟨bs,0,none⟩) 2 2) (iw [a,b]):=(aO.made (T:=110) (kd:=.u32) (b:=bs) (iw [a,b])).ints.mono λ_ h=>xad (M0 b1 op) h;refine aa.fq (args:=#[ptr kp,.slice (some ⟨bs,0,none⟩) 2 2]) (C:=((bs,Obj.cells (ax .u32 [(a:Int),(b:Int)]) 110 zZ)::M0 b1 op)++C) (Ab hK hI (λr hr=>?_) (by show 2<=1048576;omega)) ?_
 ·simp only[xak,xaQ,xbE]at hr;rcases hr with rfl|rfl
  ·exact ha
  exact hb
 rintro w H ⟨bw,vl,CL,lvl,rfl,rfl,XL,ni,hlv⟩;refine Ext.mk rfl (Ext.mk rfl (ae.cL (Br.F (Build.aaT (e:=110) (q:=.u32) (x:=(a:Int)) (y:=(b:Int)) zK zK zK ?_))));obtain⟨c,hT⟩:=Ee hK hq;refine aa.pre (H':=(bs,Obj.cells (ax .u32 [(a:Int),(b:Int)]) 110 zZ)::(M0 b1 op++gy bw kp vl (.slice none 0 0)::(CL++C))) (.perm (aa5 _ _ _ _ _)) (aa.fq (args:=#[ptr bw,kq (a,b,0),.func (.func 247) #[] #[ptr b1]]) (LU (t:=λx y _=>Xe op x y) hK (GD hop) XL ni hlv (a,b,0) hq hT) ?_);intro w H hD;obtain⟨x,e,rfl⟩:=hD.two;exact Ext.mk rfl (Ext.mk rfl (aM.mk .tail hD))
theorem Om(hK:cc kp K S ord ah tr C){a:Nat}(ha:live K.N a):
  Fc zQ 122 #[ptr kp,u32 a] C (j6 kp K S ord ah tr (λx=> !S a x)):=by
 refine aE λg=>Kl (aa.fq (args:=#[ptr kp,.int .u8 ((3:Nat):Int),u32 a,u32 0]) (jG hK (op:=3) zD ha (.inl zO)) ?_);intro w H hD;have e:(λx=>Xe 3 (S a x) (S 0 x))=λx=> !S a x:=by
  funext x
  rw[hK.ok.mid.int.zero];cases S a x<;>rfl
 rw[e]at hD;obtain⟨x,e,rfl⟩:=hD.two;exact Ext.mk rfl (Ext.mk rfl (aM.mk (.refl _) hD))
theorem aa2{α:Type}(w a:α)(L R:List α):(w::(L++(a::R))).Perm (a::([]++w::(L++R))):=by
 classical
 rw[xcs];intro x;simp only[xbf,xb3,xdK];omega
theorem z9(hK:cc kp K S ord ah tr C){a b c:Nat}(ha:live K.N a)(hb:live K.N b)(hc:live K.N c):
  Fc zQ 126 #[ptr kp,u32 a,u32 b,u32 c] C (j6 kp K S ord ah tr (λx=>if S a x then S b x else S c x)):=by
 refine aE λg=>Kg (au.abm (e:=110) (x:=(a:Int)) (y:=(b:Int)) (z:=(c:Int)) zK zK zK λbs=>?_);have hq:∀r∈l3 (a,b,c),live K.N r:=λr hr=>by
  simp only[l3,xak,xaQ,xbE]at hr;rcases hr with rfl|rfl|rfl
  ·exact ha
  ·exact hb
  exact hc
 refine aa.fq (args:=#[ptr kp,.slice (some ⟨bs,0,none⟩) 3 3]) (C:=[(bs,Obj.cells (ax .u32 [(a:Int),(b:Int),(c:Int)]) 110 zZ)]++C) (Ab hK (refs:=l3 (a,b,c)) ((aO.made (T:=110) (kd:=.u32) (b:=bs) (iw (l3 (a,b,c)))).ints) hq (by show 3<=1048576;omega)) ?_;rintro w H ⟨bw,vl,CL,lvl,rfl,rfl,XL,ni,hlv⟩;refine Ext.mk rfl (Ext.mk rfl (ae.cL (Br.F (Build.three (e:=110) (q:=.u32) (x:=(a:Int)) (y:=(b:Int)) (z:=(c:Int)) zK zK zK ?_))));obtain⟨k,hT⟩:=Ee hK hq;refine aa.pre (H':=(bs,Obj.cells (ax .u32 [(a:Int),(b:Int),(c:Int)]) 110 zZ)::([]++gy bw kp vl (.slice none 0 0)::(CL++C))) (.perm (aa2 _ _ _ _)) (aa.fq (args:=#[ptr bw,kq (a,b,c),.func (.func 179) #[] #[]]) (LU (t:=λx y z=>if x then y else z) hK FQ XL ni hlv (a,b,c) hq hT) ?_);intro w H hD;obtain⟨x,e,rfl⟩:=hD.two;exact Ext.mk rfl (Ext.mk rfl (aM.mk .tail hD))
theorem pT.grow(hK:cc kp K S ord ah tr C){K':Kd}{S':Nat->aA.Fn}{f:aA.Fn}{r:Nat}{C':Hp}{cT:zL}(h:pT K S K' S' f r)(dh:cc kp K' S' ord ah cT C')(hl:r<2\/2<=r):kP K S K' S' f r:=
 ⟨h.n,h.cap,h.N,h.fn,by
  by_cases h2:r<2
  ·exact .inl h2
  refine .inr (dh.ok.mid.held r ?_);rw[h.hold,xae ⟨rfl,by omega⟩];omega,h.is,λs=>by rw[h.hold];split<;>omega⟩
theorem Oh(hK:cc kp K S ord ah tr C){v:Nat}(hv:v<K.n):
  Fc zQ 120 #[ptr kp,iv (v:Int)] C (j6 kp K S ord ah tr (λx=>x.testBit v)):=by
 refine aE λg=>Ko (ae.aH (Br.no ?_));have hint:=hK.ok.mid.int;have hL:=hK.ok.lv;have mU:=hK.od;have h0:live K.N 0:=.inl zO;have h1:live K.N 1:=.inl zO;have d0:dep K.n (lv ah) K.N 0=K.n:=aU (hK.ok.wf.const zO);have d1:dep K.n (lv ah) K.N 1=K.n:=aU (hK.ok.wf.const zO);have hl:=hL.lt v hv;have eI:ite S ⟨v,0,1⟩=λx=>x.testBit v:=by
  funext x
  unfold aA.ite;simp only[hint.zero,hint.one];cases x.testBit v<;>rfl
 refine aa.fq (args:=#[ptr kp,iv (v:Int),u32 0,u32 1]) (AT hK hv h0 h1 (.inr ⟨by rw[d0];exact hl,by rw[d1];exact hl⟩)) ?_;rintro w C' (⟨r,K',S',rfl,dh,mk⟩|⟨r,rfl,rfl,_,Pv,hfull,Gj⟩|⟨rfl,rfl,hcap,hne,hT⟩)
 ·rw[eI]at mk;exact Ext.mk rfl (Ext.mk rfl (aM.mk (.refl _) (.inl (.inl ⟨r,K',S',rfl,dh,mk.grow hK dh zO⟩))))
 ·exact Ext.mk rfl (Ext.mk rfl (aM.mk (.refl _) (.inr ⟨rfl,⟨K,S,tr,hK,.inr rfl,.refl K S⟩,r,Pv,hfull,by rw[Gj,eI]⟩)))
 refine Ext.mk rfl (Ext.mk rfl (aM.mk (.refl _) (.inl (.inr ⟨rfl,⟨K,S,tr,hK,.inr rfl,.refl K S⟩,?_⟩))));rintro⟨ku,RM,hfit⟩;have Ns:=mU.of hL hv;have sN:∀j,j<lv ah v->¬cC (λx:Nat=>x.testBit v) (ord.getD j 0):=by
  rintro j hj ⟨x,hx⟩;apply hx;have TX:j<K.n:=by omega
  obtain⟨o1,o2⟩:=mU.bc j TX;show Nat.testBit _ v=Nat.testBit _ v;rw[ak.aj,ak.aj,xac (λh=>by rw[h]at hj;omega),xac (λh=>by rw[h]at hj;omega)]
 have hh:cC (λx:Nat=>x.testBit v) (ord.getD (lv ah v) 0):=by
  rw[Ns];exact⟨0,by show Nat.testBit _ v≠Nat.testBit _ v;rw[ak.aj,ak.aj,xae rfl,xae rfl];decide⟩
 have:=hK.ok.roomFor mU RM hfit (λg hg=>cH (λg h=>.inl h) hg) (d:=⟨v,0,1⟩) h0 h1 (show(0:Nat)≠1 by omega) hv ⟨by rw[d0];exact hl,by rw[d1];exact hl⟩ (cH (λg h=>.inr h) (by rw[eI];exact oF sN hl hh)) hT;omega
end
end Go.Proofs
namespace Go.Sx
open Go
section
variable {κ β:Type} [DecidableEq κ] {ke:κ->zV} {vr:zV->β->Prop} {es:Array MapEntry} {ck:Nat} {m:List (κ×β)} {H:Hp} {b:Nat}
theorem aD.del{kd:TypeDesc}{k:κ}{K:Hp->Prop}(hk:∀a b,Instr.sameNow kd (ke a) (ke b)=some (decide (a=b)))(h:aD ke vr es ck m)(hm:(b,Obj.map es ck)∈H)
 (h1:∀es',aD ke vr es' ck (ia m k)->∃H',c6 b (.map es ck) (.map es' ck) H H'/\K H'):ow kd H (.map (some b)) (ke k) K:=by
 refine .inr ?_;rcases h.findNow hk k with⟨i,y,e,g1,g2,g3,g4⟩|⟨g1,g2⟩
 ·refine⟨b,es,ck,_,rfl,g4,?_⟩;have:=h.less i;rw[<-vQ h.nd g2]at this;exact h1 _ this
 refine⟨b,es,ck,_,rfl,g2,hm,?_⟩;have e:ia m k=m:=by
  unfold ia;rw[xcd];intro w hw;simp only[decide_not,xbF,xbp];intro e;exact g1 (xam.2 ⟨w,hw,e⟩)
 obtain⟨H',hu,hK⟩:=h1 es (by rw[e];exact h);have:∀{H H':Hp},c6 b (.map es ck) (.map es ck) H H'->H'=H:=by
  intro H H' hu;generalize ho:Obj.map es ck=o at hu;induction hu with
  |head R=>rfl
  |tail _ ih=>rw[ih]
 rw[this hu]at hK;exact hK
end
def kN(kd:IntKind)(r:Nat):zV:=.int kd (r:Int)
theorem jw{kd:IntKind}(a b:Nat):Instr.sameNow (.int kd) (kN kd a) (kN kd b)=some (decide (a=b)):=by
 simp only[kN,Instr.sameNow,xa6,xaq];by_cases e:a=b
 ·subst e;simp
 have:¬(a:Int)=(b:Int):=by omega
 simp[e,this]
theorem Lj{kd:IntKind}(a:Nat):Instr.sameBits 10000 (kN kd a) (kN kd a)=true:=by
 simp[kN,Instr.sameBits]
end Go.Sx
namespace aA
open ak
def QF(t:Bool->Bool->Bool)(v:Nat)(f:Fn):Fn:=λx=>t (f (aB x v false)) (f (aB x v true))
section
variable {t:Bool->Bool->Bool} {v u:Nat} {f:Fn}
theorem oE{x v:Nat}{b c:Bool}:aB (aB x v b) v c=aB x v c:=by
 apply xaY;intro k;rw[aj,aj,aj];split<;>rfl
theorem TG(h:u≠v)(b:Bool):QF t v (λx=>f (aB x u b))=λx=>QF t v f (aB x u b):=by
 funext x
 unfold QF;simp only[dj h]
theorem TE(h:¬cC f u):¬cC (QF t v f) u:=by
 rintro⟨x,hx⟩;by_cases e:u=v
 ·subst e;apply hx;unfold QF;simp only[oE]
 apply hx;unfold QF;simp only[dj e];have key:∀y,f (aB y u false)=f (aB y u true):=λy=>xaK λhn=>h ⟨y,hn⟩;rw[key,key]
theorem WU(ht:∀a,t a a=a)(h:¬cC f v):QF t v f=f:=by
 funext x
 unfold QF;have key:∀b,f (aB x v b)=f x:=λb=>cK h x b;rw[key,key,ht]
end
def jt3(e:Bool):Bool->Bool->Bool->Bool:=λx y _=>if e then x||y else x&&y
def jf(e:Bool)(S:Nat->Fn)(a b:Nat):Fn:=uv (jt3 e) S [a,b,0]
theorem sH(e:Bool)(S:Nat->Fn)(a b x:Nat):jf e S a b x=if e then S a x||S b x else S a x&&S b x:=rfl
theorem A0(e:Bool)(S:Nat->Fn)(a b:Nat):jf e S a b=jf e S b a:=by
 funext x;rw[sH,sH];cases e<;>cases S a x<;>cases S b x<;>rfl
theorem Xm(e:Bool)(S:Nat->Fn)(a b:Nat):jf e S (min a b) (max a b)=jf e S a b:=by
 by_cases h:a<=b
 ·rw[xcq h,Nat.max_eq_right h]
 rw[xdu zO,Nat.max_eq_left zO,A0]
theorem Vu(e:Bool)(S:Nat->Fn)(a:Nat):jf e S a a=S a:=by
 funext x;rw[sH];cases e<;>cases S a x<;>rfl
section
variable {N:eA} {S:Nat->Fn} {n:Nat} {ah:Nat->Nat}
theorem Rf(hi:Interp N S)(e:Bool)(a:Nat):jf e S e.toNat a=S e.toNat:=by
 funext x;rw[sH];cases e
 ·show(S 0 x&&S a x)=S 0 x;rw[hi.zero];rfl
 show(S 1 x||S a x)=S 1 x;rw[hi.one];rfl
theorem Re(hi:Interp N S)(e:Bool)(a:Nat):jf e S (!e).toNat a=S a:=by
 funext x;rw[sH];cases e
 ·show(S 1 x&&S a x)=S a x;rw[hi.one];cases S a x<;>rfl
 show(S 0 x||S a x)=S a x;rw[hi.zero];cases S a x<;>rfl
theorem uM(h:WF n ah N)(hl:j5 n ah){r v:Nat}(hd:ah v<dep n ah N r)(b:Bool):dW N v b r=r:=by
 unfold dW;cases e:N r with
 |none=>rfl
 |some d=>
  rw[an e]at hd;simp only;rw[xac (λe2=>by rw[e2]at hd;omega)]
theorem kK{r:Nat}{d:Nd}(e:N r=some d):dW N d.v false r=d.lo/\dW N d.v true r=d.hi:=by
 unfold dW;rw[e];simp
theorem wE{N':eA}(hN:∀s d,N s=some d->N' s=some d)(hc:∀r,r<2->N' r=none)(h0:∀r,r<2->N r=none){r:Nat}(hr:live N r):dep n ah N' r=dep n ah N r:=by
 rcases hr with hr|⟨d,hd⟩
 ·rw[aU (hc r hr),aU (h0 r hr)]
 rw[an hd,an (hN r d hd)]
theorem D4(v:Nat)(bb:Bool)(a b:Nat)(h0:N 0=none):iX N v bb [a,b,0]=[dW N v bb a,dW N v bb b,0]:=by
 have:dW N v bb 0=0:=by unfold dW;rw[h0]
 simp[iX,this]
theorem aeB(h:WF n ah N)(hl:j5 n ah){a b:Nat}(h0:N 0=none)(hlt:min (dep n ah N a) (dep n ah N b)<n):
  ∃v,uy n ah N [a,b,0] v/\ah v=min (dep n ah N a) (dep n ah N b):=by
 have hd0:dep n ah N 0=n:=aU h0;have node:∀r,dep n ah N r<n->∃d,N r=some d:=λr hr=>by
  cases e:N r with
  |none=>rw[aU e]at hr;omega
  |some d=>exact⟨d,rfl⟩
 by_cases hab:dep n ah N b<dep n ah N a
 ·obtain⟨d,hd⟩:=node b zO;have e:=an (n:=n) (ah:=ah) hd;refine⟨d.v,⟨h.var hd,⟨b,by simp,d,hd,rfl⟩,λr hr=>?_⟩,by omega⟩;simp only[xak,xaQ,xbE]at hr;rcases hr with rfl|rfl|rfl<;>omega
 obtain⟨d,hd⟩:=node a zO;have e:=an (n:=n) (ah:=ah) hd;refine⟨d.v,⟨h.var hd,⟨a,by simp,d,hd,rfl⟩,λr hr=>?_⟩,by omega⟩;simp only[xak,xaQ,xbE]at hr;rcases hr with rfl|rfl|rfl<;>omega
end
end aA
set_option maxRecDepth 100000
namespace Go.Proofs
open Go Go.Sx
open aA
section
variable {kp:Nat} {K:Kd} {ord ah tr:zL} {C:Hp} {S:Nat->aA.Fn}
theorem lT(h:cS kp K ord ah tr C)(v:Int):Rd zQ 150 #[ptr kp,iv v] C (· =if 0<=v/\v<K.n then .tuple #[iv ((ah.getD v.toNat 0:Nat):Int),iv 0]else .tuple #[iv 0,iv 2]):=by
 have h0:=h;obtain⟨b,rfl,hO⟩:=h;refine aE λg=>qG (ae.aH (Br.no (aa.eq (rz h0 v) (Un.not ?_))));by_cases FZ:0<=v/\v<K.n
 ·rw[xan FZ,xae FZ];refine Br.no (Nil.ptr (Ld.f ?_));have hlen:=hO.ol.2;obtain⟨n,rfl⟩:∃n:Nat,v=n:=⟨v.toNat,by omega⟩;exact hO.lv.ld (x:=((ah.getD n 0:Nat):Int)) (bH zO) (bG.sub (.cons (.app (.app (.app (.app (.app .left))))))) (bg.mk (.refl _) rfl)
 rw[xal FZ,xac FZ];exact Br.yes (bg.mk (.refl _) rfl)
end
def KU(bq kp bm:Nat)(ok:Bool):Nat×Obj:=(bq,.cells #[ptr kp,.map (some bm),iv (if ok then 0 else 9)] 387 zZ)
abbrev uC(bq kp bm:Nat)(ok:Bool)(es:Array MapEntry)(ck:Nat)(C:Hp):Hp:=KU bq kp bm ok::(bm,.map es ck)::C
abbrev vr1(v:zV)(_:Unit):Prop:=v=iv 1
abbrev BG(made:zL):List (Nat×Unit):=made.map λr=>(r,())
theorem q8(made:zL):(BG made).map Prod.fst=made:=by
 induction made with
 |nil=>rfl
 |cons a l ih=>simp only[BG,xay,xau,xcW]at ih⊢;exact ih
structure yj(kp:Nat)(K0:Kd)(S0:Nat->aA.Fn)(U:aA.Fn->Prop)(ord ah:zL)(K:Kd)(S:Nat->aA.Fn)(made:zL)(es:Array MapEntry)(ck:Nat)(C:Hp)(ok:Bool):Prop where
 ks:cc kp K S ord ah [] C
 cW:kV K0 S0 U ord K S made
 dD:aD (kN .u32) vr1 es ck (BG made)
 bad:ok=false->¬Fits U K0.cap
theorem yj.nd{kp:Nat}{K0:Kd}{S0:Nat->aA.Fn}{U:aA.Fn->Prop}{ord ah:zL}{K:Kd}{S:Nat->aA.Fn}{made:zL}{es:Array MapEntry}{ck:Nat}{C:Hp}{ok:Bool}(h:yj kp K0 S0 U ord ah K S made es ck C ok):made.Nodup:=by
 have:=h.dD.nd;rwa [q8]at this
structure EO(K:Kd)(S:Nat->aA.Fn)(made:zL)(K':Kd)(S':Nat->aA.Fn)(made':zL):Prop where
 N:∀s d,K.N s=some d->K'.N s=some d
 fn:∀s,live K.N s->S' s=S s
 mem:∀s∈made,s∈made'
theorem EO.refl{K:Kd}{S:Nat->aA.Fn}{made:zL}:EO K S made K S made:=⟨λ_ _ h=>h,λ_ _=>rfl,λ_ h=>h⟩
theorem EO.trans{K K' K2:Kd}{S S' S2:Nat->aA.Fn}{made made' fT:zL}(h:EO K S made K' S' made')(h':EO K' S' made' K2 S2 fT):EO K S made K2 S2 fT:=
 ⟨λs d hd=>h'.N s d (h.N s d hd),λs hs=>(h'.fn s (ct h.N hs)).trans (h.fn s hs),λs hs=>h'.mem s (h.mem s hs)⟩
section
variable {kp bq bm:Nat} {K K0:Kd} {S S0:Nat->aA.Fn} {U:aA.Fn->Prop} {ord ah made:zL} {es:Array MapEntry} {ck:Nat} {C:Hp} {ok:Bool}
theorem MU{tr:zL}{r:Nat}(h:cc kp K S ord ah tr C)(hr:live K.N r):Rd zQ 379 #[ptr bq,.agg (got K.N r).toArray] (uC bq kp bm ok es ck C) (· =iv ((dep K.n (lv ah) K.N r:Nat):Int)):=by
 have hlen:=(aQ K.N r).1;refine aE λg=>Hl λb1 _=>?_;cases hN:K.N r with
 |none=>
  have h2:r<2:=by rcases hr with h|⟨d,hd⟩;exact h;rw[hN]at hd;cases hd
  have eg:got K.N r=[iv (-1),u32 r,u32 r]:=fG h2;rw[eg];refine Ld.f ?_;refine ae.lss (Br.T (Ld.n ?_));refine aa.eq (gM h.rep) ?_;rw[aU hN];exact bg.mk .tail rfl
 |some d=>
  have h2:=h.ok.wf.two hN;have hv:=h.ok.wf.var hN;rw[dV hN h2];refine Ld.f ?_;refine ae.lss (Br.F (DR.of (R:=(b1,Obj.cells (bu d).toArray 226 zZ)::uC bq kp bm ok es ck C) (.refl _) (Ld.n ?_)));refine Ld.f ?_;refine aa.rq (lT h.rep (d.v:Int)) ?_;rw[xae zO];rintro w rfl;refine⟨.refl _,?_⟩;apply Ext.two;rw[an hN];exact bg.mk .tail rfl
theorem Fo{tr:zL}{r:Nat}(h:cc kp K S ord ah tr C)(hr:live K.N r):Rd zQ 326 #[ptr bq,u32 r] (uC bq kp bm ok es ck C) (· =.tuple #[.agg (got K.N r).toArray,iv ((dep K.n (lv ah) K.N r:Nat):Int)]):=by
 refine aE λg=>HZ λb1 _=>?_;refine Ld.n ?_;refine aa.rq (iT h.rep (by have:=h.bL hr;omega)) ?_;rw[bX.2 hr];rintro w rfl;refine Ext.two λBq _=>(St.whole (r:=got K.N r) (by exact .head _) rfl (aQ _ _).1 (aQ _ _).2 ?_);refine DR.of (R:=[(Bq,Obj.cells (got K.N r).toArray 226 zZ)]) (aN.left (A:=[_])) (ay.whole (r:=got K.N r) (by exact .head _) (aQ _ _).1 ?_);refine ay.whole (r:=got K.N r) (by exact .head _) (aQ _ _).1 ?_;refine aa.eq (MU h hr) (⟨aN.left (A:=[_]),?_⟩);refine St.whole (r:=got K.N r) (by exact .tail (.head _)) rfl (aQ _ _).1 (aQ _ _).2 ?_;refine⟨aN.left (A:=[_]),?_⟩;refine ay.whole (r:=got K.N r) (by exact .tail _ (.head _)) (aQ _ _).1 ?_;exact bg.mk (.skip .tail) rfl
theorem yL(v:zV)(a b:zV)(B:Hp):Rd zQ 327 #[ptr bq,v,a,b] (KU bq kp bm false::B) (· =u32 0):=by
 refine aE λg=>xx (Ld.n ?_);exact ae.cL (Br.T (bg.mk (.refl _) rfl))
theorem kV.aaW(h:kV K0 S0 U ord K S made)(hK:cc kp K S ord ah [] C){K':Kd}{S':Nat->aA.Fn}{f:aA.Fn}{r:Nat}(m:pT K S K' S' f r)(h2:2<=r)(hU:∀g,aG K0.n ord (λg=>g=f) g->U g):kV K0 S0 U ord K' S' (made++[r]):=h.step hK m h2 hU
theorem kV.again(h:kV K0 S0 U ord K S made)(hK:cc kp K S ord ah [] C){K' K2:Kd}{S':Nat->aA.Fn}{f:aA.Fn}{r:Nat}{C2:Hp}(m:pT K S K' S' f r)(hf:Ao K' K2 r)(dm:cc kp K2 S' ord ah [] C2):kV K0 S0 U ord K2 S' made/\(∀s d,K.N s=some d->K2.N s=some d):=by
 have hold:∀s,K2.hold s=K.hold s:=λs=>by
  rw[hf.hold,m.hold];by_cases e:s=r/\2<=r
  ·rw[xae e,xae e];omega
  rw[xac e,xac e]
 have hN:∀s d,K.N s=some d->K2.N s=some d:=λs d hs=>jW hK.ok dm.ok (λs h=>by rw[hold];exact h) (λs d d' h1 h2=>by
  have a:=hf.N s d' h2;rw[m.N s d h1]at a;exact(xbm a).symm) _ s d hs (xaj _)
 refine⟨⟨hf.n.trans (m.n.trans h.n),hf.cap.trans (m.cap.trans h.cap),λs d hd=>hN s d (h.N s d hd),λs hs=>(m.fn s (h.live hs)).trans (h.fn s hs),λs=>by rw[hold,h.hold],h.two,λg hg=>h.U g (cH (λg=>?_) hg)⟩,hN⟩;rintro⟨s,hs,rfl⟩;have hs':K.hold s≠0:=by rw[<-hold];exact hs
 exact⟨s,hs',m.fn s (.inr (hK.ok.mid.held s hs'))⟩
theorem QV{made:zL}{r:Nat}(h:r∉made):dX (BG made) r ()=BG (made++[r]):=by
 unfold dX;rw[xac (by rw[q8];exact h)];simp[BG]
theorem oV{made:zL}{r:Nat}:(r∈made->aJ (BG made) r=some ())/\(r∉made->aJ (BG made) r=none):=by
 refine⟨λh=>?_,λh=>iz.2 (by rw[q8];exact h)⟩;cases e:aJ (BG made) r with
 |none=>have:=iz.1 e;rw[q8]at this;exact absurd h this
 |some u=>rfl
theorem Cz(hq:yj kp K0 S0 U ord ah K S made es ck C true){v lo hi:Nat}(hv:v<K.n)(hlo:live K.N lo)(hhi:live K.N hi)(hlt:lv ah v<dep K.n (lv ah) K.N lo/\lv ah v<dep K.n (lv ah) K.N hi)
 (hU:∀g,aG K0.n ord (λg=>g=ite S ⟨v,lo,hi⟩) g->U g)(iV:lo≠hi->U (ite S ⟨v,lo,hi⟩))(hf:∀s,K0.hold s=65535->live K0.N s):
  Fc zQ 327 #[ptr bq,iv (v:Int),u32 lo,u32 hi] (uC bq kp bm true es ck C) (λw H=>∃r K' S' made' es' bB C' nu,w=u32 r/\H=uC bq kp bm nu es' bB C'/\yj kp K0 S0 U ord ah K' S' made' es' bB C' nu/\EO K S made K' S' made'/\
   (nu=true->S' r=ite S ⟨v,lo,hi⟩/\(live K0.N r\/r∈made'))):=by
 have hK:=hq.ks;have fc:=hq.nd;refine aE λg=>xx (Ld.n ?_);refine ae.cL (Br.F (Ld.n ?_));refine aa.fq (AT hK hv hlo hhi (.inr hlt)) ?_;rintro w C' (⟨r,K',S',rfl,dh,mk⟩|⟨r,rfl,rfl,hlr,Pv,hfull,Gj⟩|⟨rfl,rfl,hcap,hne,hT⟩)
 ·refine Ext.two λJ hJ=>(ae.ik (Br.F (ae.cL (Br.F (ae.BH (b:=1) ?_)))));have YR:r<4294967296:=by have:=dh.bL mk.live;omega
  have hA:EO K S made K' S' made:=⟨mk.N,mk.fn,λ_ h=>h⟩;have drop:(r<2\/r∈made)->Nil (ptr bq) λv36=>ai 0 v36 λv37=>Ld (KU bq kp bm true::(bm,Obj.map es ck)::C') v37 λv38=>aa zQ g 142 #[v38,u32 r] (KU bq kp bm true::(bm,Obj.map es ck)::C') (λv39 H40=>JE J [u32 r] H40) (dg (aM λw H=>∃r K' S' made' es' bB C' nu,w=u32 r/\H=uC bq kp bm nu es' bB C'/\yj kp K0 S0 U ord ah K' S' made' es' bB C' nu/\EO K S made K' S' made'/\
   (nu=true->S' r=ite S ⟨v,lo,hi⟩/\(live K0.N r\/r∈made')))):=λhr=>by
   refine Ld.n ?_;refine aa.fq (mY dh (r:=r) YR (λh2=>by rw[mk.hold,xae ⟨rfl,h2⟩];omega)) ?_;rintro w C2 ⟨rfl,K2,dm,f2⟩;obtain⟨pJ,Zy⟩:=hq.cW.again hK mk f2 dm;refine JE.mk (hJ _ _ λgs=>?_);exact aM.here ⟨r,K2,S',made,es,ck,C2,true,rfl,rfl,⟨dm,pJ,hq.dD,λh=>by cases h⟩,⟨Zy,mk.fn,λ_ h=>h⟩,λ_=>⟨mk.is,hr.imp (λh=>.inl h) id⟩⟩
  by_cases h2:r<2
  ·rw[xan zO];refine dc.or (a:=true) true (λh=>by cases h) zI λgs=>Br.yes ?_;exact drop (.inl h2)
  rw[xal zO];refine dc.or (a:=false) (decide (r∈made)) (λ_=>?_) zI λgs=>?_
  ·refine Ld.n ?_;by_cases hm:r∈made
   ·refine aD.hit (k:=r) (x:=()) jw hq.dD (.tail _ (.head _)) (oV.1 hm) ?_;rintro v rfl;exact ae.gtr ⟨rfl,by rw[xan hm];rfl⟩
   refine aD.bM (k:=r) jw hq.dD (.tail _ (.head _)) (oV.2 hm) ?_;exact ae.gtr ⟨rfl,by rw[xal hm];rfl⟩
  rw[xdy];refine Br.dec (λhm=>drop (.inr hm)) (λhm=>?_);refine Ld.n ?_;refine aD.br (k:=r) (x:=()) jw Lj hq.dD rfl λes' bB he=>⟨_,.tail (.head _),?_⟩;rw[QV hm]at he;refine JE.mk (hJ _ _ λgs=>?_);exact aM.here ⟨r,K',S',made++[r],es',bB,C',true,rfl,rfl,⟨dh,hq.cW.aaW hK mk zO hU,he,λh=>by cases h⟩,⟨mk.N,mk.fn,λ_ h=>xad _ h⟩,λ_=>⟨mk.is,.inr zI⟩⟩
 ·refine Ext.two λJ hJ=>(ae.ik (Br.T (Ld.n ?_)));refine aa.eq (vY hK hv hlo hhi hlt hlr Pv Gj) (Ext.two (JE.mk (hJ _ _ λgs=>?_)));exact aM.here ⟨r,K,S,made,es,ck,_,true,rfl,rfl,hq,.refl,λ_=>⟨Gj,(hq.cW.full hfull).elim .inr λh=>.inl (hf r h)⟩⟩
 refine Ext.two λJ hJ=>(ae.ik (Br.F (ae.cL (Br.T (Nil.ptr (ai.mk (St.one (by exact .head _) rfl zI rfl ?_)))))));refine JE.mk (hJ _ _ λgs=>?_);refine aM.here ⟨0,K,S,made,es,ck,C',false,rfl,rfl,⟨hK,hq.cW,hq.dD,λ_=>?_⟩,.refl,λh=>by cases h⟩;rintro⟨ku,RM,hfit⟩;have:=hK.ok.roomFor hK.od RM (by rw[hq.cW.cap];exact hfit) (by rw[hq.cW.n];exact hq.cW.U) (d:=⟨v,lo,hi⟩) hlo hhi hne hv hlt (iV hne) hT;omega
end
def pk(p:Nat×Nat):zV:=.agg #[u32 p.1,u32 p.2]
theorem QH(a b:Nat×Nat):Bz zQ 447 (pk a) (pk b) (decide (a=b)):=by
 refine Bz.flat (fs:=#[⟨"f",110,0,false, "", "thicket/quant",0⟩,⟨"g",110,1,false, "", "thicket/quant",4⟩]) zK zK ?_ ?_
 ·intro f hf;simp only[xak,xaQ,xbE]at hf;rcases hf with rfl|rfl
  ·exact⟨by decide,_,_,rfl,rfl,.inl ⟨.u32,_,_,by kernel_rfl,rfl,rfl⟩⟩
  exact⟨by decide,_,_,rfl,rfl,.inl ⟨.u32,_,_,by kernel_rfl,rfl,rfl⟩⟩
 obtain⟨a1,a2⟩:=a;obtain⟨b1,b2⟩:=b;simp[u32];omega
theorem Fp(a:Nat×Nat):mr zQ 447 (pk a):=by
 refine mr.flat (fs:=#[⟨"f",110,0,false, "", "thicket/quant",0⟩,⟨"g",110,1,false, "", "thicket/quant",4⟩]) zK ?_;intro f hf;simp only[xak,xaQ,xbE]at hf;rcases hf with rfl|rfl
 ·exact⟨by decide,_,rfl,.inl ⟨.u32,_,_,by kernel_rfl,rfl,rfl⟩⟩
 exact⟨by decide,_,rfl,.inl ⟨.u32,_,_,by kernel_rfl,rfl,rfl⟩⟩
theorem UX(a:Nat×Nat):Instr.sameBits 10000 (pk a) (pk a)=true:=kQ 9998 (by intro x hx;simp[u32]at hx;rcases hx with rfl|rfl<;>exact .inl ⟨_,_,rfl⟩)
def Gw(b3 b5 b1 s7 k6:Nat):zV:=.func (.func 380) #[] #[ptr b3,ptr b5,ptr b1,ptr s7,ptr k6]
def JKn(K0:Kd)(F:Nat×Nat->aA.Fn)(S:Nat->aA.Fn)(made:zL)(ok:Bool)(es:Array MapEntry)(ck:Nat):Prop:=
 ∃m:List ((Nat×Nat)×Nat),aD pk Pb es ck m/\(ok=true->∀y∈m,S y.2=F y.1/\(live K0.N y.2\/y.2∈made))
abbrev Xn(e:Bool)(b3 b5 b1 s7 k6 bj bq kp bm:Nat)(ok:Bool)(xN:Array MapEntry)(xO:Nat)(es:Array MapEntry)(ck:Nat)(C:Hp):Hp:=
 (k6,.cells #[Gw b3 b5 b1 s7 k6] 445 zZ)::(s7,.cells #[.map (some bj)] 444 zZ)::(bj,.map xN xO)::(b5,.cells #[u32 (!e).toNat] 110 zZ)::(b3,.cells #[u32 e.toNat] 110 zZ)::(b1,.cells #[ptr bq] 313 zZ)::uC bq kp bm ok es ck C
section
variable {kp bq bm b3 b5 b1 s7 k6 bj:Nat} {K0:Kd} {S0:Nat->aA.Fn} {U:aA.Fn->Prop} {ord ah:zL} {e:Bool}
theorem yj.vU{K:Kd}{S:Nat->aA.Fn}{made:zL}{es:Array MapEntry}{ck:Nat}{C:Hp}{ok:Bool}(h:yj kp K0 S0 U ord ah K S made es ck C ok){r:Nat}(hr:live K0.N r\/r∈made):live K.N r:=by
 rcases hr with hr|hr
 ·exact h.cW.live hr
 exact h.cW.iB h.ks hr
theorem JKn.more{F:Nat×Nat->aA.Fn}{K K':Kd}{S S':Nat->aA.Fn}{made made':zL}{es xN:Array MapEntry}{ck xO:Nat}{C:Hp}{ok nu:Bool}(hq:yj kp K0 S0 U ord ah K S made es ck C ok)(h:JKn K0 F S made ok xN xO)(ha:EO K S made K' S' made')(hok:nu=true->ok=true):JKn K0 F S' made' nu xN xO:=by
 obtain⟨m,h1,h2⟩:=h;refine⟨m,h1,λh y hy=>?_⟩;obtain⟨a,b⟩:=h2 (hok h) y hy;exact⟨by rw[ha.fn _ (hq.vU b),a],b.imp id (ha.mem _)⟩
def Z5(kp:Nat)(K0:Kd)(S0:Nat->aA.Fn)(U:aA.Fn->Prop)(ord ah:zL)(e:Bool)(b3 b5 b1 s7 k6 bj bq bm:Nat)(K:Kd)(S:Nat->aA.Fn)(made:zL)(ok:Bool)(f:aA.Fn)(w:zV)(H:Hp):Prop:=
 ∃x K' S' made' es' bB C' nu YF YG,w=u32 x/\H=Xn e b3 b5 b1 s7 k6 bj bq kp bm nu YF YG es' bB C'/\yj kp K0 S0 U ord ah K' S' made' es' bB C' nu/\JKn K0 (λp=>jf e S0 p.1 p.2) S' made' nu YF YG/\EO K S made K' S' made'/\
  (nu=true->ok=true/\S' x=f/\(live K0.N x\/x∈made'))
theorem DI{N:eA}{n:Nat}{bW:Nat->Nat}(h:WF n bW N)(hl:j5 n bW){r v:Nat}(hr:live N r)(hv:v<n)(hle:bW v<=dep n bW N r):
  ∃z p q,got N r=[iv z,u32 p,u32 q]/\(bW v=dep n bW N r->z=(v:Int)/\p=dW N v false r/\q=dW N v true r)/\(bW v<dep n bW N r->dW N v false r=r/\dW N v true r=r):=by
 have hlv:=hl.lt v hv;cases e:N r with
 |none=>
  have h2:r<2:=by rcases hr with h|⟨d,hd⟩;exact h;rw[e]at hd;cases hd
  refine⟨_,_,_,fG h2,λh3=>?_,λh3=>⟨uM h hl h3 _,uM h hl h3 _⟩⟩;rw[aU e]at h3;omega
 |some d=>
  refine⟨_,_,_,dV e (h.two e),λh3=>?_,λh3=>⟨uM h hl h3 _,uM h hl h3 _⟩⟩;rw[an e]at h3;have:v=d.v:=hl.inj _ _ hv (h.var e) h3;subst this;obtain⟨c1,c2⟩:=kK (N:=N) e;exact⟨rfl,c1.symm,c2.symm⟩
set_option maxHeartbeats 2000000 in
theorem Rb(fN:aT zQ 380=true)(kZ:WF K0.n (lv ah) K0.N)(pz:Interp K0.N S0)(jM:j5 K0.n (lv ah))(mU:aA.Ord K0.n (lv ah) ord)(hf:∀s,K0.hold s=65535->live K0.N s):
  ∀(k a b:Nat),K0.n-min (dep K0.n (lv ah) K0.N a) (dep K0.n (lv ah) K0.N b)=k->∀(K:Kd) (S:Nat->aA.Fn) (made:zL) (es:Array MapEntry) (ck:Nat) (C:Hp) (ok:Bool) (xN:Array MapEntry) (xO:Nat),
  live K0.N a->live K0.N b->yj kp K0 S0 U ord ah K S made es ck C ok->JKn K0 (λp=>jf e S0 p.1 p.2) S made ok xN xO->(∀g,aG K0.n ord (λg=>g=jf e S0 a b) g->U g)->
  Fc zQ 380 #[u32 a,u32 b,ptr b3,ptr b5,ptr b1,ptr s7,ptr k6] (Xn e b3 b5 b1 s7 k6 bj bq kp bm ok xN xO es ck C) (Z5 kp K0 S0 U ord ah e b3 b5 b1 s7 k6 bj bq bm K S made ok (jf e S0 a b)):=by
 have hc0:∀r,r<2->K0.N r=none:=λr hr=>kZ.const hr;intro k;induction k using Nat.strongRecOn with
 |ind k ih=>
 intro a b hk K S made es ck C ok xN xO ha hb hS hJ hU g;have hK:=hS.ks;have Ls:∀r,r<2->K.N r=none:=λr hr=>hK.ok.wf.const hr;have eN:=hS.cW.n;have la:=hS.cW.live ha;have lb:=hS.cW.live hb;have now:∀x,live K0.N x->(S0 x=jf e S0 a b)->∀Z:Hp,aM (Z5 kp K0 S0 U ord ah e b3 b5 b1 s7 k6 bj bq bm K S made ok (jf e S0 a b)) (.returned (u32 x)) (Z++Xn e b3 b5 b1 s7 k6 bj bq kp bm ok xN xO es ck C):=λx hx hf Z=>
  aM.mk .right ⟨x,K,S,made,es,ck,C,ok,xN,xO,rfl,rfl,hS,hJ,.refl,λh=>⟨h,by rw[hS.cW.fn x hx];exact hf,.inl hx⟩⟩
 have Gb:e.toNat<2:=by cases e<;>decide
 have TW:(!e).toNat<2:=by cases e<;>decide
 refine Hi (R:=aM _) ?_;unfold L380;refine Ld.q ?_;refine ae.eR (dc.or (decide (b=e.toNat)) (λ_=>?_) zI λgs=>?_)
 ·refine Ld.q ?_;exact ae.eR ⟨rfl,rfl⟩
 rw[<-xa7];refine Br.dec (λh1=>?_) (λh1=>?_)
 ·refine Ld.q ?_;refine now _ (.inl Gb) ?_ [];rcases h1 with rfl|rfl
  ·exact(Rf pz e b).symm
  rw[A0];exact(Rf pz e a).symm
 refine Ld.q ?_;refine ae.eR (dc.or (decide (a=b)) (λ_=>ae.eR ⟨rfl,rfl⟩) zI λgs=>?_);rw[<-xa7];refine Br.dec (λh2=>?_) (λh2=>?_)
 ·refine now b hb ?_ [];rcases h2 with rfl|rfl
  ·exact(Re pz e b).symm
  exact(Vu e S0 a).symm
 refine Ld.q ?_;refine ae.eR (Br.dec (λh3=>?_) (λh3=>?_))
 ·refine now a ha ?_ [];rw[h3,A0];exact(Re pz e a).symm
 refine Ld.q ?_;refine Ld.n ?_;cases ok with
 |false=>
  exact ae.cL (Br.T (aM.here ⟨0,K,S,made,es,ck,C,false,xN,xO,rfl,rfl,hS,hJ,.refl,λh=>by cases h⟩))
 |true=>
 refine ae.cL (Br.F (⟨.u32,(a:Int),(b:Int),rfl,rfl,⟨.u32,(a:Int),(b:Int),rfl,rfl,?_⟩⟩));have agO:(if(b:Int)<(a:Int)then(b:Int)else(a:Int))=((min a b:Nat):Int):=by split<;>omega
 have agP:(if(b:Int)>(a:Int)then(b:Int)else(a:Int))=((max a b:Nat):Int):=by split<;>omega
 rw[agO,agP];refine Build.mk (cs:=[u32 (min a b),u32 (max a b)]) zK λux _=>?_;refine St.p (by intro x hx;simp[u32]at hx;rcases hx with rfl|rfl<;>rfl) ?_;refine Ld.q ?_;refine ay.q ?_;obtain⟨m,hE,hkn⟩:=hJ;have x7:(bj,Obj.map xN xO)∈(ux,Obj.cells #[u32 (min a b),u32 (max a b)] 447 zZ)::Xn e b3 b5 b1 s7 k6 bj bq kp bm true xN xO es ck C:=.tail _ (.tail _ (.tail _ (.head _)));cases hg:aJ m (min a b,max a b)with
 |some x=>
  refine aD.F5 (ke:=pk) (k:=(min a b,max a b)) QH Fp hE x7 hg ?_;rintro v rfl;obtain⟨g1,g2⟩:=hkn rfl _ ((dS hE.nd).1 hg);refine Ext.mk rfl (Ext.mk rfl (Br.yes (aM.mk .tail ⟨x,K,S,made,es,ck,C,true,xN,xO,rfl,rfl,hS,⟨m,hE,hkn⟩,.refl,λh=>⟨h,?_,g2⟩⟩)));rw[g1];exact Xm e S0 a b
 |none=>
 refine aD.vN (ke:=pk) (k:=(min a b,max a b)) QH Fp hE x7 hg ?_;refine Ext.mk rfl (Ext.mk rfl (Br.no (Ld.q ?_)));refine aa.eq (Fo (bm:=bm) (ok:=true) (es:=es) (ck:=ck) hK la) (Ext.two λb36 _=>(St.whole (r:=got K.N a) (by exact .head _) rfl (aQ _ _).1 (aQ _ _).2 ?_));refine Ld.q ?_;refine aa.eq (Fo (bm:=bm) (ok:=true) (es:=es) (ck:=ck) hK lb) (Ext.two λZS _=>(St.whole (r:=got K.N b) (by exact .head _) rfl (aQ _ _).1 (aQ _ _).2 ?_));rw[n6 hS.cW.N hc0 Ls ha,n6 hS.cW.N hc0 Ls hb,eN,wE hS.cW.N Ls hc0 ha,wE hS.cW.N Ls hc0 hb];have hmin:min (dep K0.n (lv ah) K0.N a) (dep K0.n (lv ah) K0.N b)<K0.n:=by
  refine xaK λhn=>h2 (.inr ?_);have EK:∀r,live K0.N r->K0.n<=dep K0.n (lv ah) K0.N r->r<2:=λr hr hd=>by
   rcases hr with h|⟨d,dN⟩
   ·exact h
   rw[an dN]at hd;have:=jM.lt _ (kZ.var dN);omega
  have a2:=EK a ha zO;have b2:=EK b hb zO;cases e<;>simp only[Bool.toNat_true,Bool.toNat_false,xcw,xcp]at h1 h2<;>omega
 obtain⟨v,hv,hvl⟩:=aeB kZ jM (hc0 0 zO) hmin;have hva:=hv.le a zI;have hvb:=hv.le b zI;obtain⟨za,pa,qa,ega,ga1,ga2⟩:=DI kZ jM ha hv.lt hva;obtain⟨zb,pb,qb,egb,gb1,gb2⟩:=DI kZ jM hb hv.lt hvb;rw[ega,egb];have fM:∀r∈[a,b,0],live K0.N r:=λr hr=>by
  simp only[xak,xaQ,xbE]at hr;rcases hr with rfl|rfl|rfl
  ·exact ha
  ·exact hb
  exact .inl zO
 obtain⟨f1,f2⟩:=o9 (S:=S0) kZ jM pz fM hv false;obtain⟨t1,t2⟩:=o9 (S:=S0) kZ jM pz fM hv true;rw[D4 v _ a b (hc0 0 zO)]at f1 f2 t1 t2;have ec:∀bb,jf e S0 (dW K0.N v bb a) (dW K0.N v bb b)=λx=>jf e S0 a b (ak.aB x v bb):=λbb=>by
  have:=LG (S:=S0) kZ jM pz rfl fM hv (jt3 e) bb;rw[D4 v _ a b (hc0 0 zO)]at this;exact this
 generalize ea1:dW K0.N v false a=a1 at*;generalize ea2:dW K0.N v true a=a2 at*;generalize ec1:dW K0.N v false b=c1 at*;generalize ec2:dW K0.N v true b=c2 at*;have fk:=jM.lt v hv.lt;have Ns:=mU.of jM hv.lt;have sN:∀j,j<lv ah v->¬cC (jf e S0 a b) (ord.getD j 0):=zu kZ jM pz mU (q:=[a,b,0]) rfl fM (xb7 fk) hv.le (jt3 e);obtain⟨i1,P3⟩:=jK (n:=K0.n) (ord:=ord) (c:=jf e S0 a1 c1) sN (b:=false) (by rw[Ns,<-ea1,<-ec1];exact ec false);obtain⟨i2,P2⟩:=jK (n:=K0.n) (ord:=ord) (c:=jf e S0 a2 c2) sN (b:=true) (by rw[Ns,<-ea2,<-ec2];exact ec true);have eF:jf e S0 a1 c1=λx=>jf e S0 a b (ak.aB x v false):=by rw[<-ea1,<-ec1];exact ec false
 have eT:jf e S0 a2 c2=λx=>jf e S0 a b (ak.aB x v true):=by rw[<-ea2,<-ec2];exact ec true
 have la1:=f1 a1 zI;have lc1:=f1 c1 zI;have la2:=t1 a2 zI;have lc2:=t1 c2 zI;have da1:=f2 a1 zI;have dc1:=f2 c1 zI;have da2:=t2 a2 zI;have dc2:=t2 c2 zI;refine Ld.f ?_;intro J49 h49;have acZ:J49 [iv (v:Int)] ((ZS,.cells #[iv zb,u32 pb,u32 qb] 226 zZ)::(b36,.cells #[iv za,u32 pa,u32 qa] 226 zZ)::(ux,.cells #[u32 (min a b),u32 (max a b)] 447 zZ)::Xn e b3 b5 b1 s7 k6 bj bq kp bm true xN xO es ck C):=by
  refine h49 _ _ λgs J53 h53=>?_;have acY:J53 [] ((ZS,.cells #[iv zb,u32 pb,u32 qb] 226 zZ)::(b36,.cells #[iv za,u32 a1,u32 a2] 226 zZ)::(ux,.cells #[u32 (min a b),u32 (max a b)] 447 zZ)::Xn e b3 b5 b1 s7 k6 bj bq kp bm true xN xO es ck C):=by
   refine h53 _ λgs J56 h56=>?_;have acX:J56 [] ((ZS,.cells #[iv zb,u32 c1,u32 c2] 226 zZ)::(b36,.cells #[iv za,u32 a1,u32 a2] 226 zZ)::(ux,.cells #[u32 (min a b),u32 (max a b)] 447 zZ)::Xn e b3 b5 b1 s7 k6 bj bq kp bm true xN xO es ck C):=by
    refine h56 _ λgs=>?_;refine Ld.q ?_;refine Ld.f ?_;refine Ld.f ?_;refine aF.of rfl fN ?_;have hJ0:JKn K0 (λp=>jf e S0 p.1 p.2) S made true xN xO:=⟨m,hE,hkn⟩;refine aa.fq (args:=#[u32 a1,u32 c1,ptr b3,ptr b5,ptr b1,ptr s7,ptr k6]) (ih _ zO a1 c1 rfl K S made es ck C true xN xO la1 lc1 hS hJ0 (λg hg=>hU g (P3 g hg))) ?_;rintro w H ⟨x1,K1,S1,yV,kx,jN,C1,ok1,aeY,ae0,rfl,rfl,EG,hJ1,Wh,x6⟩;refine DR.of (R:=[(ZS,.cells #[iv zb,u32 c1,u32 c2] 226 zZ),(b36,.cells #[iv za,u32 a1,u32 a2] 226 zZ),(k6,.cells #[Gw b3 b5 b1 s7 k6] 445 zZ),(b1,.cells #[ptr bq] 313 zZ)]) (.cons (.cons (.skip (.cons (.skip (.skip (.skip (.skip (aN.left (A:=[_])))))))))) (Ld.q ?_);refine Ld.q ?_;refine Ld.f ?_;refine Ld.f ?_;refine aF.of rfl fN (aa.fq (args:=#[u32 a2,u32 c2,ptr b3,ptr b5,ptr b1,ptr s7,ptr k6]) (ih _ zO a2 c2 rfl K1 S1 yV kx jN C1 ok1 aeY ae0 la2 lc2 EG hJ1 (λg hg=>hU g (P2 g hg))) ?_);rintro w H ⟨x2,K2,S2,fT,gR,iF,C2,ok2,aeX,aeZ,rfl,rfl,jD,BQ,n5,tD⟩;refine⟨.cons (.cons (.skip (.cons (.skip (.skip (.skip (.skip (aN.left (A:=[_]))))))))),?_⟩;have yb:=Wh.trans n5;have fin:∀(x3:Nat) K3 S3 jh o7 qM C3 EC,yj kp K0 S0 U ord ah K3 S3 jh o7 qM C3 EC->EO K2 S2 fT K3 S3 jh->(EC=true->ok2=true/\S3 x3=jf e S0 a b/\(live K0.N x3\/x3∈jh))->
      ∀H49,H49=(ZS,.cells #[iv zb,u32 c1,u32 c2] 226 zZ)::(b36,.cells #[iv za,u32 a1,u32 a2] 226 zZ)::(ux,.cells #[u32 (min a b),u32 (max a b)] 447 zZ)::Xn e b3 b5 b1 s7 k6 bj bq kp bm EC aeX aeZ o7 qM C3->
      aN H49 [(ZS,.cells #[iv zb,u32 c1,u32 c2] 226 zZ),(b36,.cells #[iv za,u32 a1,u32 a2] 226 zZ),(k6,.cells #[Gw b3 b5 b1 s7 k6] 445 zZ),(b1,.cells #[ptr bq] 313 zZ)]/\
      Ld H49 (ptr s7) λv77=>ay 2 H49 (ptr ux) λv78=>iL zQ 447 H49 v77 v78 (u32 x3) λH79=>aM (Z5 kp K0 S0 U ord ah e b3 b5 b1 s7 k6 bj bq bm K S made true (jf e S0 a b)) (.returned (u32 x3)) H79:=by
     rintro x3 K3 S3 jh o7 qM C3 EC Zu EI Dw H49 rfl;refine⟨.cons (.cons (.skip (.cons (.skip (.skip (.skip (.skip (aN.left (A:=[_]))))))))),?_⟩;refine Ld.q ?_;refine ay.q ?_;obtain⟨m3,Ps,Y9⟩:=BQ.more jD EI (λh=>(Dw h).1);refine aD.Mr (ke:=pk) (k:=(min a b,max a b)) (vr:=Pb) (x:=x3) QH Fp UX Ps rfl λes' bB he=>⟨_,.tail (.tail (.tail (.tail (.tail (.head _))))),?_⟩;refine aM.mk (.skip (.skip .tail)) ⟨x3,K3,S3,jh,o7,qM,C3,EC,es',bB,rfl,rfl,Zu,⟨_,he,λh y hy=>(nR hy).elim (λe1=>?_) (λhy=>Y9 h y hy)⟩,yb.trans EI,λh=>⟨rfl,(Dw h).2⟩⟩;rw[e1];exact⟨(Dw h).2.1.trans (Xm e S0 a b).symm,(Dw h).2.2⟩
    cases ok2 with
    |false=>
     exact aa.eq (args:=#[ptr bq,iv (v:Int),u32 x1,u32 x2]) (yL (kp:=kp) (bm:=bm) _ _ _ _) (fin 0 K2 S2 fT gR iF C2 false jD .refl (λh=>by cases h) _ rfl)
    |true=>
     obtain⟨Yq,e2,m2⟩:=tD rfl;obtain⟨_,e1,m1⟩:=x6 Yq;have YB:=EG.vU m1;have l1:live K2.N x1:=ct n5.N YB;have l2:=jD.vU m2;have Wy:S2 x1=jf e S0 a1 c1:=(n5.fn x1 YB).trans e1;have dm:=jD.ks;have n2:=jD.cW.n;have b1':=dm.ok.below dm.od (l:=lv ah v+1) l1 zO (by rw[Wy];exact i1);have b2':=dm.ok.below dm.od (l:=lv ah v+1) l2 zO (by rw[e2];exact i2);have sM:ite S2 ⟨v,x1,x2⟩=jf e S0 a b:=by
      funext x
      unfold aA.ite;rw[Wy,e2,eF,eT]
      conv=>rhs;rw[<-ak.iu x v]
      simp only;cases x.testBit v<;>rfl
     have iV:x1≠x2->U (ite S2 ⟨v,x1,x2⟩):=λhx=>by
      have zh:cC (jf e S0 a b) (ord.getD (lv ah v) 0):=by
       rw[Ns];refine xaK λhno=>hx ?_;refine dm.ok.wf.same dm.ok.lv dm.ok.mid.int l1 l2 λx=>?_;rw[Wy,e2,eF,eT];exact(cK hno x false).trans (cK hno x true).symm
      rw[sM];exact hU _ (oF sN fk zh)
     refine aa.fq (args:=#[ptr bq,iv (v:Int),u32 x1,u32 x2]) (Cz jD (by rw[n2];exact hv.lt) l1 l2 ⟨by omega,by omega⟩ (by rw[sM];exact hU) iV hf) ?_;rintro w H ⟨r,K3,S3,jh,o7,qM,C3,EC,rfl,rfl,Zu,EI,Dw⟩;exact fin r K3 S3 jh o7 qM C3 EC Zu EI (λh=>⟨rfl,by rw[(Dw h).1,sM],(Dw h).2⟩) _ rfl
   refine ae.ny (Br.dec (λhh=>?_) (λhh=>?_))
   ·obtain⟨x1,x2⟩:=gb2 zO;subst x1;subst x2;refine ai.mk (St.one (by exact .head _) rfl zI rfl ?_);refine ai.mk (St.one (by exact .head _) rfl zI rfl ?_);exact JE.mk acX
   obtain⟨x1,x2,x3⟩:=gb1 zO;rw[x2,x3];exact JE.mk acX
  refine ae.ny (Br.dec (λhh=>?_) (λhh=>?_))
  ·obtain⟨x1,x2⟩:=ga2 zO;subst x1;subst x2;refine ai.mk (St.one (by exact .tail (.head _)) rfl zI rfl ?_);refine ai.mk (St.one (by exact .tail (.head _)) rfl zI rfl ?_);exact JE.mk acY
  obtain⟨x1,x2,x3⟩:=ga1 zO;rw[x2,x3];exact JE.mk acY
 refine ae.eZ (Br.dec (λhh=>?_) (λhh=>?_))
 ·obtain⟨x1,x2,x3⟩:=gb1 zO;refine Ld.f ?_;subst x1;exact JE.mk acZ
 obtain⟨x1,x2,x3⟩:=ga1 zO;subst x1;exact JE.mk acZ
end
theorem Rq{N:eA}{S:Nat->aA.Fn}{n:Nat}{bW:Nat->Nat}{ord:zL}(h:WF n bW N)(hl:j5 n bW)(hi:Interp N S)(ho:aA.Ord n bW ord){r:Nat}(hr:live N r){l:Nat}(BL:l<=n)(hle:l<=dep n bW N r):∀j,j<l->¬cC (S r) (ord.getD j 0):=by
 rintro j hj ⟨x,hx⟩;apply hx;obtain⟨o1,o2⟩:=ho.bc j zO;rw[h.bN hl hi hr o1 zO x false,h.bN hl hi hr o1 zO x true]
section
variable {kp bq bm:Nat} {K0:Kd} {S0:Nat->aA.Fn} {U:aA.Fn->Prop} {ord ah:zL}
def WT(kp:Nat)(K0:Kd)(S0:Nat->aA.Fn)(U:aA.Fn->Prop)(ord ah:zL)(bq bm:Nat)(LB:Hp)(K:Kd)(S:Nat->aA.Fn)(made:zL)(f:aA.Fn)(w:zV)(H:Hp):Prop:=
 ∃x K' S' made' es' bB C' nu,w=u32 x/\H=LB++uC bq kp bm nu es' bB C'/\yj kp K0 S0 U ord ah K' S' made' es' bB C' nu/\EO K S made K' S' made'/\(nu=true->S' x=f/\(live K0.N x\/x∈made'))
theorem Vt{e:Bool}(kZ:WF K0.n (lv ah) K0.N)(pz:Interp K0.N S0)(jM:j5 K0.n (lv ah))(mU:aA.Ord K0.n (lv ah) ord)(hf:∀s,K0.hold s=65535->live K0.N s){a b:Nat}{K:Kd}{S:Nat->aA.Fn}{made:zL}{es:Array MapEntry}{ck:Nat}{C:Hp}
 (ha:live K0.N a)(hb:live K0.N b)(hS:yj kp K0 S0 U ord ah K S made es ck C true)(hU:∀g,aG K0.n ord (λg=>g=jf e S0 a b) g->U g):
  Fc zQ 330 #[ptr bq,u32 a,u32 b,.bool e] (uC bq kp bm true es ck C) (WT kp K0 S0 U ord ah bq bm [] K S made (jf e S0 a b)):=by
 refine aE λg=>HW λb1 _ b3 _ b5 _=>?_;refine St.one (by exact .tail (.head _)) rfl zI rfl ?_;refine St.one (by exact .head _) rfl zI rfl ?_;have fN:aT zQ 380=true:=by kernel_rfl
 intro J hJ;have hJ':J [] ((b5,.cells #[u32 (!e).toNat] 110 zZ)::(b3,.cells #[u32 e.toNat] 110 zZ)::(b1,.cells #[ptr bq] 313 zZ)::uC bq kp bm true es ck C):=by
  refine hJ _ λgs=>?_;intro bj _ s7 _;refine St.one (by exact .head _) rfl zI rfl ?_;intro k6 _;refine St.one (by exact .head _) rfl zI rfl ?_;refine Ld.q ?_;refine aF.of rfl fN (aa.fq (args:=#[u32 a,u32 b,ptr b3,ptr b5,ptr b1,ptr s7,ptr k6]) (Rb (e:=e) fN kZ pz jM mU hf _ a b rfl K S made es ck C true #[] 0 ha hb hS ⟨[],aD.empty,λ_ y hy=>by cases hy⟩ hU) ?_);rintro w H ⟨x,K',S',made',es',bB,C',nu,YF,YG,rfl,rfl,NF,_,hA,ho⟩;exact aM.mk (.skip (.skip (.skip (.skip (.skip .tail))))) ⟨x,K',S',made',es',bB,C',nu,rfl,rfl,NF,hA,λh=>(ho h).2⟩
 cases e with
 |true=>
  refine Br.yes (St.one (by exact .tail (.head _)) rfl zI rfl ?_);refine St.one (by exact .head _) rfl zI rfl ?_;exact JE.mk hJ'
 |false=>exact Br.no (JE.mk hJ')
def L4(kp:Nat)(K0:Kd)(S0:Nat->aA.Fn)(U:aA.Fn->Prop)(ord ah:zL)(bq bm:Nat)(t:Bool->Bool->Bool)(v:Nat)(fv:zV)(LB:Hp):Prop:=
 ∃f first cap,fv=.func (.func f) first cap/\aT zQ f=true/\∀(r:Nat) (d:Nd),K0.N r=some d->d.v=v->∀K S made es ck C,yj kp K0 S0 U ord ah K S made es ck C true->(∀g,aG K0.n ord (λg=>g=QF t v (S0 r)) g->U g)->
  Fc zQ f (first++ #[.agg (bu d).toArray]++cap) (LB++uC bq kp bm true es ck C) (WT kp K0 S0 U ord ah bq bm LB K S made (QF t v (S0 r)))
def SZ(b1 g8 me b3 z6:Nat):zV:=.func (.func 325) #[] #[ptr b1,ptr g8,ptr me,ptr b3,ptr z6]
def DKn(K0:Kd)(F:Nat->aA.Fn)(S:Nat->aA.Fn)(made:zL)(ok:Bool)(es:Array MapEntry)(ck:Nat):Prop:=
 ∃m:List (Nat×Nat),aD (kN .u32) Pb es ck m/\(ok=true->∀y∈m,S y.2=F y.1/\(live K0.N y.2\/y.2∈made))
theorem DKn.more{F:Nat->aA.Fn}{K K':Kd}{S S':Nat->aA.Fn}{made made':zL}{es xN:Array MapEntry}{ck xO:Nat}{C:Hp}{ok nu:Bool}(hq:yj kp K0 S0 U ord ah K S made es ck C ok)(h:DKn K0 F S made ok xN xO)(ha:EO K S made K' S' made')(hok:nu=true->ok=true):DKn K0 F S' made' nu xN xO:=by
 obtain⟨m,h1,h2⟩:=h;refine⟨m,h1,λh y hy=>?_⟩;obtain⟨a,b⟩:=h2 (hok h) y hy;exact⟨by rw[ha.fn _ (hq.vU b),a],b.imp id (ha.mem _)⟩
abbrev dHp(b1 b3 g8 me z6 bd lvl:Nat)(fv:zV)(LB:Hp)(bq kp bm:Nat)(ok:Bool)(Py:Array MapEntry)(Pz:Nat)(es:Array MapEntry)(ck:Nat)(C:Hp):Hp:=
 (z6,.cells #[SZ b1 g8 me b3 z6] 389 zZ)::(me,.cells #[.map (some bd)] 388 zZ)::(bd,.map Py Pz)::(g8,.cells #[iv (lvl:Int)] 3 zZ)::(b3,.cells #[fv] 300 zZ)::(b1,.cells #[ptr bq] 313 zZ)::(LB++uC bq kp bm ok es ck C)
def ahc(kp:Nat)(K0:Kd)(S0:Nat->aA.Fn)(U:aA.Fn->Prop)(ord ah:zL)(t:Bool->Bool->Bool)(v b1 b3 g8 me z6 bd:Nat)(fv:zV)(LB:Hp)(bq bm:Nat)(K:Kd)(S:Nat->aA.Fn)(made:zL)(ok:Bool)(f:aA.Fn)(w:zV)(H:Hp):Prop:=
 ∃x K' S' made' es' bB C' nu ZK ZM,w=u32 x/\H=dHp b1 b3 g8 me z6 bd (lv ah v) fv LB bq kp bm nu ZK ZM es' bB C'/\yj kp K0 S0 U ord ah K' S' made' es' bB C' nu/\DKn K0 (λr=>QF t v (S0 r)) S' made' nu ZK ZM/\EO K S made K' S' made'/\
  (nu=true->ok=true/\S' x=f/\(live K0.N x\/x∈made'))
variable {b1 b3 g8 me z6 bd:Nat} {fv:zV} {LB:Hp} {t:Bool->Bool->Bool} {v:Nat}
set_option maxHeartbeats 2000000 in
theorem SK(fN:aT zQ 325=true)(hLq:L4 kp K0 S0 U ord ah bq bm t v fv LB)(ht:∀a,t a a=a)(hv:v<K0.n)(kZ:WF K0.n (lv ah) K0.N)(pz:Interp K0.N S0)(jM:j5 K0.n (lv ah))(mU:aA.Ord K0.n (lv ah) ord)(hf:∀s,K0.hold s=65535->live K0.N s):
  ∀(k r:Nat),K0.n-dep K0.n (lv ah) K0.N r=k->∀(K:Kd) (S:Nat->aA.Fn) (made:zL) (es:Array MapEntry) (ck:Nat) (C:Hp) (ok:Bool) (Py:Array MapEntry) (Pz:Nat),
  live K0.N r->yj kp K0 S0 U ord ah K S made es ck C ok->DKn K0 (λr=>QF t v (S0 r)) S made ok Py Pz->(∀g,aG K0.n ord (λg=>g=QF t v (S0 r)) g->U g)->
  Fc zQ 325 #[u32 r,ptr b1,ptr g8,ptr me,ptr b3,ptr z6] (dHp b1 b3 g8 me z6 bd (lv ah v) fv LB bq kp bm ok Py Pz es ck C) (ahc kp K0 S0 U ord ah t v b1 b3 g8 me z6 bd fv LB bq bm K S made ok (QF t v (S0 r))):=by
 have hc0:∀r,r<2->K0.N r=none:=λr hr=>kZ.const hr;intro k;induction k using Nat.strongRecOn with
 |ind k ih=>
 intro r hk K S made es ck C ok Py Pz hr hS hD hU g;have hK:=hS.ks;have Ls:∀r,r<2->K.N r=none:=λr hr=>hK.ok.wf.const hr;have eN:=hS.cW.n;have lr:=hS.cW.live hr;refine H6 (R:=aM _) ?_;unfold L325;refine Ld.q ?_;refine aa.eq (Fo (bm:=bm) (ok:=ok) (es:=es) (ck:=ck) hK lr) (Ext.two λb6 _=>(St.whole (r:=got K.N r) (by exact .head _) rfl (aQ _ _).1 (aQ _ _).2 ?_));rw[n6 hS.cW.N hc0 Ls hr,eN,wE hS.cW.N Ls hc0 hr];refine Ld.q ?_;refine ae.ny (dc.or (!ok) (λ_=>?_) zI λgs=>?_)
 ·refine Ld.q ?_;refine Ld.n ?_;exact ae.cL ⟨rfl,by cases ok<;>rfl⟩
 refine Br.mk (λhb=>?_) (λhb=>?_)
 ·-- deeper, or an error before
  refine aM.mk .tail ⟨r,K,S,made,es,ck,C,ok,Py,Pz,rfl,rfl,hS,hD,.refl,λh=>⟨h,?_,.inl hr⟩⟩;rw[h]at hb;simp only[xcw,xdw,xaI]at hb;rw[hS.cW.fn r hr];refine(WU ht ?_).symm;rintro⟨x,hx⟩;apply hx;rw[kZ.bN jM pz hr hv hb x false,kZ.bN jM pz hr hv hb x true]
 simp only[xaD,xbp,Bool.not_eq_false',Nat.not_lt]at hb;obtain⟨A5,rfl⟩:=hb;obtain⟨m,hE,hkn⟩:=hD;refine Ld.q ?_;have x7:(bd,Obj.map Py Pz)∈(b6,Obj.cells (got K0.N r).toArray 226 zZ)::dHp b1 b3 g8 me z6 bd (lv ah v) fv LB bq kp bm true Py Pz es ck C:=.tail _ (.tail _ (.tail _ (.head _)));have hlv:=jM.lt v hv;obtain⟨d,hd⟩:∃d,K0.N r=some d:=by
  cases e:K0.N r with
  |none=>rw[aU e]at A5;omega
  |some d=>exact⟨d,rfl⟩
 have ed:=an (n:=K0.n) (ah:=lv ah) hd;have h2:=kZ.two hd;have kY:=kZ.var hd;cases hg:aJ m r with
 |some x=>
  refine aD.hit (k:=r) jw hE x7 hg ?_;rintro w rfl;obtain⟨g1,g2⟩:=hkn rfl _ ((dS hE.nd).1 hg);exact Ext.mk rfl (Ext.mk rfl (Br.yes (aM.mk .tail ⟨x,K,S,made,es,ck,C,true,Py,Pz,rfl,rfl,hS,⟨m,hE,hkn⟩,.refl,λh=>⟨h,g1,g2⟩⟩)))
 |none=>
 refine aD.bM (k:=r) jw hE x7 hg ?_;refine Ext.mk rfl (Ext.mk rfl (Br.no ?_));rw[dV hd h2];intro J hJ;have fin:∀(x3:Nat) K3 S3 jh o7 qM C3 EC ZJ ZL,yj kp K0 S0 U ord ah K3 S3 jh o7 qM C3 EC->DKn K0 (λr=>QF t v (S0 r)) S3 jh EC ZJ ZL->EO K S made K3 S3 jh->(EC=true->S3 x3=QF t v (S0 r)/\(live K0.N x3\/x3∈jh))->
   J [u32 x3] ((b6,.cells (bu d).toArray 226 zZ)::dHp b1 b3 g8 me z6 bd (lv ah v) fv LB bq kp bm EC ZJ ZL o7 qM C3):=by
  intro x3 K3 S3 jh o7 qM C3 EC ZJ ZL Zu hD3 EI Dw;refine hJ _ _ λgs=>?_;refine Ld.q ?_;obtain⟨m3,Ps,Y9⟩:=hD3;refine aD.br (k:=r) (x:=x3) jw Lj Ps rfl λes' bB he=>⟨_,.tail (.tail (.tail (.head _))),?_⟩;refine aM.mk .tail ⟨x3,K3,S3,jh,o7,qM,C3,EC,es',bB,rfl,rfl,Zu,⟨_,he,λh y hy=>(nR hy).elim (λe1=>?_) (λhy=>Y9 h y hy)⟩,EI,λh=>⟨rfl,Dw h⟩⟩;rw[e1];exact Dw h
 have hD0:DKn K0 (λr=>QF t v (S0 r)) S made true Py Pz:=⟨m,hE,hkn⟩;refine Ld.q ?_;refine ae.eR (Br.dec (λhl=>?_) (λhl=>?_))
 ·-- at the variable
  have ev:d.v=v:=jM.inj _ _ kY hv zO;obtain⟨f,first,cap,rfl,VX,abW⟩:=hLq;refine Ld.q ?_;refine ay.q ?_;refine aF.of rfl VX (aa.fq (C:=LB++uC bq kp bm true es ck C) (abW r d hd ev K S made es ck C hS hU) ?_);rintro w H ⟨x,K',S',made',es',bB,C',nu,rfl,rfl,NF,hA,ho⟩;exact JE.mk (fin x K' S' made' es' bB C' nu Py Pz NF (hD0.more hS hA (λ_=>rfl)) hA ho)
 -- above it
 have afy:lv ah d.v<lv ah v:=by omega
 have hne:d.v≠v:=λe=>by rw[e]at afy;omega
 obtain⟨g1,g2,g3⟩:=gi (S:=S0) kZ jM pz hr kY zO false;obtain⟨t1,t2,t3⟩:=gi (S:=S0) kZ jM pz hr kY zO true;obtain⟨q1,q2⟩:=kK (N:=K0.N) hd;rw[q1]at g1 g2 g3;rw[q2]at t1 t2 t3;have fk:=jM.lt d.v kY;have Ns:=mU.of jM kY;have sN:∀j,j<lv ah d.v->¬cC (QF t v (S0 r)) (ord.getD j 0):=λj hj=>TE (Rq kZ jM pz mU hr (xb7 fk) zO j hj);have eF:QF t v (S0 d.lo)=λx=>QF t v (S0 r) (ak.aB x d.v false):=by rw[<-TG hne];congr 1;exact funext g1
 have eT:QF t v (S0 d.hi)=λx=>QF t v (S0 r) (ak.aB x d.v true):=by rw[<-TG hne];congr 1;exact funext t1
 obtain⟨i1,P3⟩:=jK (n:=K0.n) (ord:=ord) (c:=QF t v (S0 d.lo)) sN (b:=false) (by rw[Ns];exact eF);obtain⟨i2,P2⟩:=jK (n:=K0.n) (ord:=ord) (c:=QF t v (S0 d.hi)) sN (b:=true) (by rw[Ns];exact eT);refine Ld.q ?_;refine Ld.f ?_;refine aF.of rfl fN (aa.fq (args:=#[u32 d.lo,ptr b1,ptr g8,ptr me,ptr b3,ptr z6]) (ih _ zO d.lo rfl K S made es ck C true Py Pz g2 hS hD0 (λg hg=>hU g (P3 g hg))) ?_);rintro w H ⟨x1,K1,S1,yV,kx,jN,C1,ok1,agR,agT,rfl,rfl,EG,hD1,Wh,x6⟩;refine DR.of (R:=[(b6,.cells (bu d).toArray 226 zZ),(z6,.cells #[SZ b1 g8 me b3 z6] 389 zZ),(b1,.cells #[ptr bq] 313 zZ)]) (.cons (.cons (.skip (.skip (.skip (.skip (aN.left (A:=[_])))))))) (Ld.q ?_);refine Ld.f ?_;refine Ld.q ?_;refine Ld.f ?_;refine aF.of rfl fN (aa.fq (args:=#[u32 d.hi,ptr b1,ptr g8,ptr me,ptr b3,ptr z6]) (ih _ zO d.hi rfl K1 S1 yV kx jN C1 ok1 agR agT t2 EG hD1 (λg hg=>hU g (P2 g hg))) ?_);rintro w H ⟨x2,K2,S2,fT,gR,iF,C2,ok2,ade,adh,rfl,rfl,jD,hD2,n5,tD⟩;refine⟨.cons (.cons (.skip (.skip (.skip (.skip (aN.left (A:=[_]))))))),?_⟩;have yb:=Wh.trans n5;cases ok2 with
 |false=>
  refine aa.eq (args:=#[ptr bq,iv (d.v:Int),u32 x1,u32 x2]) (yL (kp:=kp) (bm:=bm) _ _ _ _) (⟨.cons (.cons (.skip (.skip (.skip (.skip (aN.left (A:=[_]))))))),?_⟩);exact JE.mk (fin 0 K2 S2 fT gR iF C2 false ade adh jD hD2 yb (λh=>by cases h))
 |true=>
  obtain⟨Yq,e2,m2⟩:=tD rfl;obtain⟨_,e1,m1⟩:=x6 Yq;have YB:=EG.vU m1;have l1:live K2.N x1:=ct n5.N YB;have l2:=jD.vU m2;have Wy:S2 x1=QF t v (S0 d.lo):=(n5.fn x1 YB).trans e1;have dm:=jD.ks;have n2:=jD.cW.n;have b1':=dm.ok.below dm.od (l:=lv ah d.v+1) l1 zO (by rw[Wy];exact i1);have b2':=dm.ok.below dm.od (l:=lv ah d.v+1) l2 zO (by rw[e2];exact i2);have sM:ite S2 ⟨d.v,x1,x2⟩=QF t v (S0 r):=by
   funext x
   unfold aA.ite;rw[Wy,e2,eF,eT]
   conv=>rhs;rw[<-ak.iu x d.v]
   simp only;cases x.testBit d.v<;>rfl
  have iV:x1≠x2->U (ite S2 ⟨d.v,x1,x2⟩):=λhx=>by
   have zh:cC (QF t v (S0 r)) (ord.getD (lv ah d.v) 0):=by
    rw[Ns];refine xaK λhno=>hx ?_;refine dm.ok.wf.same dm.ok.lv dm.ok.mid.int l1 l2 λx=>?_;rw[Wy,e2,eF,eT];exact(cK hno x false).trans (cK hno x true).symm
   rw[sM];exact hU _ (oF sN fk zh)
  refine aa.fq (args:=#[ptr bq,iv (d.v:Int),u32 x1,u32 x2]) (Cz jD (by rw[n2];exact kY) l1 l2 ⟨by omega,by omega⟩ (by rw[sM];exact hU) iV hf) ?_;rintro w H ⟨r3,K3,S3,jh,o7,qM,C3,EC,rfl,rfl,Zu,EI,Dw⟩;refine⟨.cons (.cons (.skip (.skip (.skip (.skip (aN.left (A:=[_]))))))),?_⟩;exact JE.mk (fin r3 K3 S3 jh o7 qM C3 EC ade adh Zu (hD2.more jD EI (λ_=>rfl)) (yb.trans EI) (λh=>⟨by rw[(Dw h).1,sM],(Dw h).2⟩))
end
def Yw(es:Array MapEntry)(l:zL):List zV->Hp->Nat:=λ_ H=>match H with
 |(_,.mapIter _ _ seen _)::_=>(bS es (BG l) seen).length
 |_=>0
structure Let(K K':Kd)(l:zL):Prop where
 n:K'.n=K.n
 cap:K'.cap=K.cap
 N:∀s d,K'.N s=some d->K.N s=some d
 hold:∀s,K'.hold s+l.count s=K.hold s
section
variable {kp bq bm:Nat} {K0:Kd} {S0:Nat->aA.Fn} {U:aA.Fn->Prop} {ord ah:zL}
theorem AK{g:Gh}{K:Kd}{S:Nat->aA.Fn}{l:zL}{es:Array MapEntry}{ck b9 b1:Nat}{ok:Bool}{C LB:Hp}(hK:cc kp K S ord ah [] C)(hE:aD (kN .u32) vr1 es ck (BG l))(hc:∀s,l.count s<=K.hold s)(h2:∀s∈l,2<=s)(Pt:∀s∈l,s<4294967296){Kc:Hp->Prop}
 (hk:∀K' C' bi it,cc kp K' S ord ah [] C'->Let K K' l->Kc ((bi,it)::(b9,.cells #[ptr bq] 313 zZ)::(b1,.cells #[ptr kp] 85 zZ)::(LB++uC bq kp bm ok es ck C'))):
  j7 zQ g 324 #[ptr b9,ptr b1] ((b9,.cells #[ptr bq] 313 zZ)::(b1,.cells #[ptr kp] 85 zZ)::(LB++uC bq kp bm ok es ck C)) Kc:=by
 refine Es (R:=_) ?_;unfold L324;refine Ld.q ?_;refine Ld.n ?_;refine .inr ⟨bm,es,ck,rfl,.tail _ (.tail _ (xab _ (.tail _ (.head _)))),λbi _=>?_⟩;refine⟨λ_ H=>∃(done:zL) (K':Kd) (C':Hp) (seen:Array Nat),H=(bi,.mapIter (some bm) ck seen ck)::(b9,.cells #[ptr bq] 313 zZ)::(b1,.cells #[ptr kp] 85 zZ)::(LB++uC bq kp bm ok es ck C')/\
   cc kp K' S ord ah [] C'/\Let K K' done/\(done++(bS es (BG l) seen).map Prod.fst).Perm l,Yw es l,JE.mk ⟨[],K,C,#[],rfl,hK,⟨rfl,rfl,λ_ _ h=>h,λs=>by simp⟩,by rw[mz hE,q8];exact .refl _⟩,?_⟩
 rintro H ⟨done,K',C',seen,rfl,dh,hl,hp⟩ gs;refine aD.next (bi:=bi) (bm:=bm) (seen:=seen) hE (.tail _ (.tail _ (.tail _ (xab _ (.tail _ (.head _)))))) (.head _) (λe x seen' he hkey hv Pj hbk hfi=>⟨_,.head _,?_⟩) (λhu=>?_)
 ·refine Ext.mk rfl (Br.yes (⟨bi,bm,ck,seen',e.born,ck,es,e,rfl,.head _,hbk,.tail _ (.tail _ (.tail _ (xab _ (.tail _ (.head _))))),hfi,?_⟩));refine Ext.mk rfl (Ld.q ?_);have hxl:x.1∈l:=by
   refine hp.mem_iff.1 (xab _ ?_);exact xaR (Pj.mem_iff.2 (.head _))
  have BN:done.count x.1+1<=l.count x.1:=by
   rw[<-hp.count_eq,xbf,(Pj.map Prod.fst).count_eq,xay,List.count_cons_self];omega
  have hhx:K'.hold x.1≠0:=by
   have a:=hl.hold x.1;have b:=hc x.1;omega
  show aa zQ g 142 #[ptr kp,e.key] _ _ _;rw[hkey];refine aa.fq (args:=#[ptr kp,u32 x.1]) (mY dh (r:=x.1) (Pt _ hxl) (λ_=>hhx)) ?_;rintro w C2 ⟨rfl,K2,dm,f2⟩;refine aC.mk ⟨done++[x.1],K2,C2,seen',rfl,dm,⟨f2.n.trans hl.n,f2.cap.trans hl.cap,λs d hd=>hl.N s d (f2.N s d hd),λs=>?_⟩,?_⟩ ?_
  ·have a:=hl.hold s;rw[f2.hold,xbf,xcG];by_cases e1:s=x.1
   ·subst e1;have:=h2 _ hxl;simp[this];omega
   have:(x.1==s)=false:=by simpa using λe'=>e1 e'.symm
   simp[e1,this];exact a
  ·refine .trans ?_ hp;rw[xai];refine xbY _ ?_;exact(Pj.map Prod.fst).symm
  show(bS es (BG l) seen').length<(bS es (BG l) seen).length;rw[Pj.length_eq,xaw];omega
 refine Ext.mk rfl (Br.no ?_);rw[hu,xb6,xaL]at hp;refine⟨⟨_,rfl⟩,hk K' C' bi _ dh ⟨hl.n,hl.cap,hl.N,λs=>?_⟩⟩;rw[<-hp.count_eq];exact hl.hold s
end
section
variable {kp:Nat} {K:Kd} {S:Nat->aA.Fn} {ord ah tr:zL} {C:Hp}
theorem aa4{α:Type}(a x y b:α)(L R:List α):(a::x::y::b::(L++R)).Perm (a::b::(L++x::y::R)):=by
 classical
 rw[xcs];intro z;simp only[xbf,xb3];omega
theorem M7{made:zL}{x:Nat}:ia (BG made) x=BG (made.filter λr=>decide (¬r=x)):=by
 unfold ia BG;induction made with
 |nil=>rfl
 |cons a l ih=>
  simp only[xay,xbk];by_cases h:a=x
  ·simp[h]at ih⊢;exact ih
  simp[h]at ih⊢;exact ih
def ot(kp:Nat)(K:Kd)(S:Nat->aA.Fn)(ord ah:zL)(LB:Hp)(f:aA.Fn)(w:zV)(H:Hp):Prop:=
 (∃x K' S' C',w=.tuple #[u32 x,.bool true,iv 0]/\H=LB++C'/\cc kp K' S' ord ah [] C'/\kP K S K' S' f x)\/
 (w=.tuple #[u32 0,.bool false,iv 9]/\(∃K' S' C',H=LB++C'/\cc kp K' S' ord ah [] C'/\Kept K S K' S')/\¬Fits (aG K.n ord (λg=>K.held S g\/g=f)) K.cap)
def kO(kp:Nat)(K:Kd)(S:Nat->aA.Fn)(ord ah:zL)(LB:Hp)(f:aA.Fn)(w:zV)(H:Hp):Prop:=
 ot kp K S ord ah LB f w H\/∃x,w=.tuple #[u32 x,.bool false,iv 0]/\(∃K' S' C',H=LB++C'/\cc kp K' S' ord ah [] C'/\Kept K S K' S')/\2<=x/\K.hold x=65535/\S x=f
theorem KT(hK:cc kp K S ord ah tr C){f:aA.Fn}{LB:Hp}{fb:zV}
 (hb:∀K1 C1,cc kp K1 S ord ah [] C1->WV K K1 1->∃ff first cap,fb=.func (.func ff) first cap/\aT zQ ff=true/\∀bq bm,yj kp K1 S (aG K.n ord (λg=>K.held S g\/g=f)) ord ah K1 S [] #[] 0 C1 true->
   Fc zQ ff (first++ #[ptr bq]++cap) (LB++uC bq kp bm true #[] 0 C1) (WT kp K1 S (aG K.n ord (λg=>K.held S g\/g=f)) ord ah bq bm LB K1 S [] f)):
  Fc zQ 256 #[ptr kp,fb] (LB++C) (kO kp K S ord ah LB f):=by
 refine aE λg=>IZ λb1 _=>?_;refine Ld.q ?_;intro bm _;refine Build.mk (cs:=[ptr kp,.map (some bm),iv 0]) zK λbq _ b9 _=>?_;refine St.one (by exact .head _) rfl zI rfl ?_;refine Ld.q ?_;refine aa.fq (args:=#[ptr kp,u32 1]) (mQ hK (r:=1) (.inl zO) (λh=>by omega)) ?_;rintro w C1 ⟨rfl,K1,eW,mo⟩;have fj:∀s,K1.hold s=K.hold s:=λs=>by rw[mo.hold,xac zO]
 have acf:∀g,K1.held S g->K.held S g:=by
  rintro g ⟨s,hs,rfl⟩;exact⟨s,by have:K1.hold s≠0:=hs;rwa [fj]at this,rfl⟩
 obtain⟨ff,first,cap,rfl,VX,hbody⟩:=hb K1 C1 eW mo;refine Ld.q ?_;refine aF.of rfl VX (aa.pre (H':=(b9,.cells #[ptr bq] 313 zZ)::(b1,.cells #[ptr kp] 85 zZ)::(LB++uC bq kp bm true #[] 0 C1)) (.perm (aa4 _ _ _ _ _ _)) ?_);have Sk:yj kp K1 S (aG K.n ord (λg=>K.held S g\/g=f)) ord ah K1 S [] #[] 0 C1 true:=⟨eW,.refl λg hg=>by rw[mo.n]at hg;exact cH (λg h=>.inl (acf g h)) hg,aD.empty,λh=>by cases h⟩;refine aa.fq (C:=LB++uC bq kp bm true #[] 0 C1) (hbody bq bm Sk) ?_;rintro w H ⟨x,K2,S2,made,es,ck,C2,ok,rfl,rfl,jD,hA,ho⟩;have dm:=jD.ks;have j8:=jD.cW;have fc:=jD.nd;have Gd:∀s,made.count s<=K2.hold s:=λs=>by rw[j8.hold];omega
 have Pt:∀s∈made,s<4294967296:=λs hs=>by have:=dm.bL (j8.iB dm hs);omega
 have rE:∀s,K.hold s≠0->live K.N s:=λs hs=>.inr (hK.ok.mid.held s hs);have agr:∀s d,K.N s=some d->K2.N s=some d:=λs d hd=>j8.N s d (by rw[mo.N];exact hd);have hfn:∀s,live K.N s->S2 s=S s:=λs hs=>j8.fn s (by rw[mo.N];exact hs);refine Ld.q ?_;refine Ld.n ?_;cases ok with
 |false=>
  refine ae.cL (Br.T (Ld.q ?_));refine Ld.n ?_;refine AK dm jD.dD Gd j8.two Pt λK3 C3 bi it kj hl=>?_;have gE:∀s,K3.hold s=K.hold s:=λs=>by
   have a:=hl.hold s;have b:=j8.hold s;rw[fj]at b;omega
  refine aM.mk (.skip (.skip (.skip (.cU (.skip .tail) _)))) (.inl (.inr ⟨rfl,⟨K3,S2,C3,rfl,kj,⟨by rw[hl.n,j8.n,mo.n],by rw[hl.cap,j8.cap,mo.cap],gE,λg=>?_,λr hr=>hfn r (rE r hr)⟩⟩,?_⟩))
  ·constructor
   ·rintro⟨s,hs,rfl⟩;have hs':K.hold s≠0:=by rw[<-gE];exact hs
    exact⟨s,hs',hfn s (rE s hs')⟩
   rintro⟨s,hs,rfl⟩;exact⟨s,by show K3.hold s≠0;rw[gE];exact hs,(hfn s (rE s hs)).symm⟩
  have:=jD.bad rfl;rw[mo.cap]at this;exact this
 |true=>
  obtain⟨hx,hxm⟩:=ho rfl;refine ae.cL (Br.F (Ld.q ?_));refine Ld.n ?_;have fin:∀(K3:Kd) (l:zL) (o7:Array MapEntry) (C3:Hp),cc kp K3 S2 ord ah [] C3->(∀s d,K3.N s=some d->K2.N s=some d)->K3.n=K2.n->K3.cap=K2.cap->aD (kN .u32) vr1 o7 ck (BG l)->(∀s∈l,s∈made)->(∀s,K3.hold s=K.hold s+l.count s+if s=x/\2<=x then 1 else 0)->
    j7 zQ g 324 #[ptr b9,ptr b1] ((b9,.cells #[ptr bq] 313 zZ)::(b1,.cells #[ptr kp] 85 zZ)::(LB++uC bq kp bm true o7 ck C3)) λH=>aM (kO kp K S ord ah LB f) (.returned (.tuple #[u32 x,.bool true,iv 0])) H:=by
   intro K3 l o7 C3 kj hN3 hn3 Zn Ps hlm BM;refine AK kj Ps (λs=>by rw[BM];omega) (λs hs=>j8.two s (hlm s hs)) (λs hs=>Pt s (hlm s hs)) λK4 C4 bi it NH hl=>?_;have nh:∀s,K4.hold s=K.hold s+if s=x/\2<=x then 1 else 0:=λs=>by
    have a:=hl.hold s;rw[BM]at a;omega
   have wg:live K4.N x:=by
    by_cases h2:x<2
    ·exact .inl h2
    refine .inr (NH.ok.mid.held x ?_);rw[nh,xae ⟨rfl,by omega⟩];omega
   refine aM.mk (.skip (.skip (.skip (.cU (.skip .tail) _)))) (.inl (.inl ⟨x,K4,S2,C4,rfl,rfl,NH,⟨by rw[hl.n,hn3,j8.n,mo.n],by rw[hl.cap,Zn,j8.cap,mo.cap],λs d hs=>jW hK.ok NH.ok (λs h=>by rw[nh];omega) (λs d d' h h'=>?_) _ s d hs (xaj _),hfn,wg,hx,nh⟩⟩));have a:=hN3 s d' (hl.N s d' h');rw[agr s d h]at a;exact(xbm a).symm
  by_cases hm:x∈made
  ·refine aD.hit (k:=x) (x:=()) jw jD.dD (.tail _ (.tail _ (xab _ (.tail _ (.head _))))) (oV.1 hm) ?_;rintro v rfl;refine ae.gtr (Br.T (Ld.q ?_));refine Ld.n ?_;refine aD.del (k:=x) jw jD.dD (.tail _ (.tail _ (xab _ (.tail _ (.head _))))) λes' he=>⟨_,.tail (.tail ((c6.tail (.head _)).ca LB)),?_⟩;rw[M7]at he;refine fin K2 _ es' C2 dm (λ_ _ h=>h) rfl rfl he (λs hs=>(xbT.1 hs).1) λs=>?_;rw[j8.hold,fj];have Pu:=j8.two x hm;by_cases e1:s=x
   ·subst e1;have c1:made.count s=1:=by rw[fc.count,xae hm]
    have c2:(made.filter λr=>decide (¬r=s)).count s=0:=xdI.2 zI;rw[c1,c2,xae ⟨rfl,Pu⟩]
   have:(made.filter λr=>decide (¬r=x)).count s=made.count s:=List.count_filter (by simpa using e1);rw[this,xac (λh=>e1 h.1)];rfl
  refine aD.bM (k:=x) jw jD.dD (.tail _ (.tail _ (xab _ (.tail _ (.head _))))) (oV.2 hm) ?_;refine ae.gtr (Br.F (Ld.q ?_));have wg:live K2.N x:=jD.vU hxm;by_cases BN:2<=x/\K2.hold x=65535
  ·have hKx:K.hold x=65535:=by
    have:=j8.hold x;rw[fj,xdI.2 hm]at this;omega
   refine aa.eq (args:=#[ptr kp,u32 x]) (oW dm wg BN.1 BN.2) (ae.ik ?_);rw[show decide ((8:Int)=0)=false from rfl];refine AK dm jD.dD Gd j8.two Pt λK3 C3 bi it kj hl=>?_;have gE:∀s,K3.hold s=K.hold s:=λs=>by
    have a:=hl.hold s;have b:=j8.hold s;rw[fj]at b;omega
   refine aM.mk (.skip (.skip (.skip (.cU (.skip .tail) _)))) (.inr ⟨x,rfl,⟨K3,S2,C3,rfl,kj,⟨by rw[hl.n,j8.n,mo.n],by rw[hl.cap,j8.cap,mo.cap],gE,λg=>?_,λr hr=>hfn r (rE r hr)⟩⟩,BN.1,hKx,by rw[<-hx];exact(hfn x (rE x zO)).symm⟩);constructor
   ·rintro⟨s,hs,rfl⟩;have hs':K.hold s≠0:=by rw[<-gE];exact hs
    exact⟨s,hs',hfn s (rE s hs')⟩
   rintro⟨s,hs,rfl⟩;exact⟨s,by show K3.hold s≠0;rw[gE];exact hs,(hfn s (rE s hs)).symm⟩
  refine aa.fq (args:=#[ptr kp,u32 x]) (mQ dm (r:=x) wg (λh2=>by have:=dm.gg x;omega)) ?_;rintro w C3 ⟨rfl,K3,kj,m3⟩;refine ae.ik ?_;rw[show decide ((0:Int)=0)=true from rfl];refine fin K3 made es C3 kj (λs d h=>by rw[<-m3.N];exact h) m3.n m3.cap jD.dD (λ_ h=>h) λs=>?_;rw[m3.hold,j8.hold,fj];split<;>omega
end
section
variable {kp bq bm:Nat} {K0:Kd} {S0:Nat->aA.Fn} {U:aA.Fn->Prop} {ord ah:zL}
theorem LH{t:Bool->Bool->Bool}{v r:Nat}{fv:zV}{LB:Hp}(hLq:L4 kp K0 S0 U ord ah bq bm t v fv LB)(ht:∀a,t a a=a)(hv:v<K0.n)(kZ:WF K0.n (lv ah) K0.N)(pz:Interp K0.N S0)(jM:j5 K0.n (lv ah))(mU:aA.Ord K0.n (lv ah) ord)(hf:∀s,K0.hold s=65535->live K0.N s)
 {K:Kd}{S:Nat->aA.Fn}{made:zL}{es:Array MapEntry}{ck:Nat}{C:Hp}(hr:live K0.N r)(hS:yj kp K0 S0 U ord ah K S made es ck C true)(hU:∀g,aG K0.n ord (λg=>g=QF t v (S0 r)) g->U g):
  Fc zQ 258 #[ptr bq,u32 r,iv (v:Int),fv] (LB++uC bq kp bm true es ck C) (WT kp K0 S0 U ord ah bq bm LB K S made (QF t v (S0 r))):=by
 have fN:aT zQ 325=true:=by kernel_rfl
 have ags:=hLq;obtain⟨f0,agI,alL,RT,_⟩:=ags;have hn:=hS.cW.n;refine aE λg=>IX λb1 _ b3 _=>?_;refine Ld.q ?_;refine Ld.n ?_;refine aa.rq (lT hS.ks.rep (v:Int)) ?_;rw[xae zO];rintro w rfl;refine Ext.two λg8 _=>(St.one (by exact .head _) rfl zI rfl ?_);intro bd _ me _;refine St.one (by exact .head _) rfl zI rfl ?_;intro z6 _;refine St.one (by exact .head _) rfl zI rfl ?_;refine Ld.q ?_;refine aF.of rfl fN ?_;subst RT;refine aa.fq (args:=#[u32 r,ptr b1,ptr g8,ptr me,ptr b3,ptr z6]) (SK (b1:=b1) (b3:=b3) (g8:=g8) (me:=me) (z6:=z6) (bd:=bd) fN hLq ht hv kZ pz jM mU hf _ r rfl K S made es ck C true #[] 0 hr hS ⟨[],aD.empty,λ_ y hy=>by cases hy⟩ hU) ?_;rintro w H ⟨x,K',S',made',es',bB,C',nu,ZK,ZM,rfl,rfl,NF,_,hA,ho⟩;exact aM.mk (.skip (.skip (.skip (.skip (.skip .tail))))) ⟨x,K',S',made',es',bB,C',nu,rfl,rfl,NF,hA,λh=>(ho h).2⟩
abbrev Tj(b5:Nat)(b:Bool):Nat×Obj:=(b5,.cells #[.bool b] 4 zZ)
theorem Fh{v b5:Nat}{b:Bool}{LB:Hp}(kZ:WF K0.n (lv ah) K0.N)(pz:Interp K0.N S0)(jM:j5 K0.n (lv ah))(hm:Tj b5 b∈LB):L4 kp K0 S0 U ord ah bq bm (λx y=>if b then y else x) v (.func (.func 259) #[] #[ptr b5]) LB:=by
 refine⟨_,_,_,rfl,by kernel_rfl,λr d hd kY K S made es ck C hS hU=>?_⟩;have hr:live K0.N r:=.inr ⟨d,hd⟩;have RZ:=kZ.var hd;obtain⟨g1,g2,g3⟩:=gi (S:=S0) kZ jM pz hr RZ (by rw[an hd];exact xaj _) false;obtain⟨t1,t2,t3⟩:=gi (S:=S0) kZ jM pz hr RZ (by rw[an hd];exact xaj _) true;obtain⟨q1,q2⟩:=kK (N:=K0.N) hd;rw[q1]at g1 g2 g3;rw[q2]at t1 t2 t3;subst kY;refine aE λg=>IW λb1 _=>?_;refine Ld.mk (v:=.bool b) (by exact .tail _ (xad _ hm)) rfl ?_;refine Br.mk (λhb=>?_) (λhb=>?_)
 ·subst hb;refine Ld.f ?_;refine aM.mk .tail ⟨d.hi,K,S,made,es,ck,C,true,rfl,rfl,hS,.refl,λ_=>⟨?_,.inl t2⟩⟩;rw[hS.cW.fn _ t2];exact funext t1
 subst hb;refine Ld.f ?_;refine aM.mk .tail ⟨d.lo,K,S,made,es,ck,C,true,rfl,rfl,hS,.refl,λ_=>⟨?_,.inl g2⟩⟩;rw[hS.cW.fn _ g2];exact funext g1
theorem Ea{v b1 b5:Nat}{e:Bool}{LB:Hp}(kZ:WF K0.n (lv ah) K0.N)(pz:Interp K0.N S0)(jM:j5 K0.n (lv ah))(mU:aA.Ord K0.n (lv ah) ord)(hf:∀s,K0.hold s=65535->live K0.N s)(hm:Tj b5 e∈LB)(h1:(b1,Obj.cells #[ptr bq] 313 zZ)∈LB):
  L4 kp K0 S0 U ord ah bq bm (λx y=>if e then x||y else x&&y) v (.func (.func 329) #[] #[ptr b1,ptr b5]) LB:=by
 refine⟨_,_,_,rfl,by kernel_rfl,λr d hd kY K S made es ck C hS hU=>?_⟩;have hr:live K0.N r:=.inr ⟨d,hd⟩;have RZ:=kZ.var hd;obtain⟨g1,g2,g3⟩:=gi (S:=S0) kZ jM pz hr RZ (by rw[an hd];exact xaj _) false;obtain⟨t1,t2,t3⟩:=gi (S:=S0) kZ jM pz hr RZ (by rw[an hd];exact xaj _) true;obtain⟨q1,q2⟩:=kK (N:=K0.N) hd;rw[q1]at g1 g2 g3;rw[q2]at t1 t2 t3;subst kY;have eq:QF (λx y=>if e then x||y else x&&y) d.v (S0 r)=jf e S0 d.lo d.hi:=by
  funext x
  rw[sH,g1,t1];rfl
 rw[eq]at hU⊢;refine aE λg=>HX λb _=>?_;refine Ld.mk (v:=ptr bq) (by exact .tail _ (xad _ h1)) rfl ?_;refine Ld.f ?_;refine Ld.f ?_;refine Ld.mk (v:=.bool e) (by exact .tail _ (xad _ hm)) rfl ?_;refine aa.fq (args:=#[ptr bq,u32 d.lo,u32 d.hi,.bool e]) (C:=uC bq kp bm true es ck C) (Vt kZ pz jM mU hf g2 t2 hS hU) ?_;rintro w H ⟨x,K',S',made',es',bB,C',nu,rfl,rfl,NF,hA,ho⟩;exact aM.mk .tail ⟨x,K',S',made',es',bB,C',nu,rfl,rfl,NF,hA,ho⟩
end
section
variable {kp:Nat} {K:Kd} {S:Nat->aA.Fn} {ord ah tr:zL} {C:Hp}
abbrev rHp(b5 b3 b1:Nat)(b:Bool)(v r:Nat):Hp:=[Tj b5 b,(b3,.cells #[iv (v:Int)] 3 zZ),(b1,.cells #[u32 r] 110 zZ)]
theorem ot.three{LB:Hp}{f:aA.Fn}{w:zV}{H:Hp}(h:ot kp K S ord ah LB f w H):∃x b e,w=.tuple #[x,b,e]:=by
 rcases h with⟨x,K',S',C',rfl,_⟩|⟨rfl,_⟩
 ·exact⟨_,_,_,rfl⟩
 exact⟨_,_,_,rfl⟩
theorem ot.drop{LB:Hp}{f:aA.Fn}{w:zV}{H:Hp}(h:ot kp K S ord ah LB f w H):∃C',aN H C'/\ot kp K S ord ah [] f w C':=by
 rcases h with⟨x,K',S',C',rfl,rfl,dh,hg⟩|⟨rfl,⟨K',S',C',rfl,dh,hk⟩,hn⟩
 ·exact⟨C',.right,.inl ⟨x,K',S',C',rfl,rfl,dh,hg⟩⟩
 exact⟨C',.right,.inr ⟨rfl,⟨K',S',C',rfl,dh,hk⟩,hn⟩⟩
theorem kO.PV{LB:Hp}{f:aA.Fn}{w:zV}{H:Hp}(h:kO kp K S ord ah LB f w H):∃x y z,w=.tuple #[x,y,z]:=by
 rcases h with h|⟨x,rfl,_⟩
 ·exact h.three
 exact⟨_,_,_,rfl⟩
theorem aM.XP{LB:Hp}{f:aA.Fn}{w:zV}{H:Hp}(h:kO kp K S ord ah LB f w H):aM (kO kp K S ord ah [] f) (.returned w) H:=by
 rcases h with h|⟨x,rfl,⟨K',S',C',rfl,dh,hk⟩,h2⟩
 ·obtain⟨C',h1,h2⟩:=h.drop;exact aM.mk h1 (.inl h2)
 exact aM.mk .right (.inr ⟨x,rfl,⟨K',S',C',rfl,dh,hk⟩,h2⟩)
theorem kR(hK:cc kp K S ord ah tr C){r v:Nat}{b:Bool}(hr:live K.N r)(hv:v<K.n):
  Fc zQ 183 #[ptr kp,u32 r,iv (v:Int),.bool b] C (kO kp K S ord ah [] (λx=>S r (ak.aB x v b))):=by
 have eq:QF (λx y=>if b then y else x) v (S r)=λx=>S r (ak.aB x v b):=by
  funext x;unfold QF;cases b<;>rfl
 rw[<-eq];refine aE λg=>JD λb1 _ b3 _ b5 _=>?_;refine aa.fq (args:=#[ptr kp,.func (.func 257) #[] #[ptr b1,ptr b3,ptr b5]]) (C:=rHp b5 b3 b1 b v r++C) (KT (f:=QF (λx y=>if b then y else x) v (S r)) hK λK1 C1 eW mo=>⟨_,_,_,rfl,by kernel_rfl,λbq bm hQ=>?_⟩) ?_
 ·intro g;refine IY (R:=aM _) ?_;unfold L257;refine Ld.q ?_;refine Ld.q ?_;have RD:live K1.N r:=by rw[mo.N];exact hr
  refine aa.fq (args:=#[ptr bq,u32 r,iv (v:Int),.func (.func 259) #[] #[ptr b5]]) (C:=rHp b5 b3 b1 b v r++uC bq kp bm true #[] 0 C1)
   (LH (Fh eW.ok.wf eW.ok.mid.int eW.ok.lv (b:=b) (.head _)) (λa=>by cases b<;>rfl) (by rw[mo.n];exact hv) eW.ok.wf eW.ok.mid.int eW.ok.lv eW.od (λs hs=>.inr (eW.ok.mid.held s zO)) RD hQ (λg hg=>by rw[mo.n]at hg;exact cH (λg h=>.inr h) hg)) ?_
  intro w H hO;exact aM.here hO
 intro w H hO;obtain⟨x,bb,e,rfl⟩:=hO.PV;exact Ext.mk rfl (Ext.mk rfl (Ext.mk rfl (aM.XP hO)))
def qf(e:Bool)(v:Nat)(f:aA.Fn):aA.Fn:=QF (λx y=>if e then x||y else x&&y) v f
theorem xW(hK:cc kp K S ord ah tr C){r v:Nat}{e:Bool}(hr:live K.N r)(hv:v<K.n):
  Fc zQ 260 #[ptr kp,u32 r,iv (v:Int),.bool e] C (kO kp K S ord ah [] (qf e v (S r))):=by
 refine aE λg=>IV λb1 _ b3 _ b5 _=>?_;refine aa.fq (args:=#[ptr kp,.func (.func 328) #[] #[ptr b1,ptr b3,ptr b5]]) (C:=rHp b5 b3 b1 e v r++C) (KT (f:=qf e v (S r)) hK λK1 C1 eW mo=>⟨_,_,_,rfl,by kernel_rfl,λbq bm hQ=>?_⟩) ?_
 ·intro g;refine HY (R:=aM _) ?_;unfold L328;intro b2 _;refine Ld.q ?_;refine Ld.q ?_;refine Ld.q ?_;have RD:live K1.N r:=by rw[mo.N];exact hr
  have hf1:∀s,K1.hold s=65535->live K1.N s:=λs hs=>.inr (eW.ok.mid.held s zO);refine aa.fq (args:=#[ptr bq,u32 r,iv (v:Int),.func (.func 329) #[] #[ptr b2,ptr b5]]) (C:=((b2,Obj.cells #[ptr bq] 313 zZ)::rHp b5 b3 b1 e v r)++uC bq kp bm true #[] 0 C1)
   (LH (Ea eW.ok.wf eW.ok.mid.int eW.ok.lv eW.od hf1 (e:=e) (.tail _ (.head _)) (.head _)) (λa=>by cases e<;>cases a<;>rfl) (by rw[mo.n];exact hv) eW.ok.wf eW.ok.mid.int eW.ok.lv eW.od hf1 RD hQ (λg hg=>by rw[mo.n]at hg;exact cH (λg h=>.inr h) hg)) ?_
  rintro w H ⟨x,K',S',made',es',bB,C',nu,rfl,rfl,NF,hA,ho⟩;exact aM.mk .tail ⟨x,K',S',made',es',bB,C',nu,rfl,rfl,NF,hA,ho⟩
 intro w H hO;obtain⟨x,bb,e,rfl⟩:=hO.PV;exact Ext.mk rfl (Ext.mk rfl (Ext.mk rfl (aM.XP hO)))
end
end Go.Proofs
namespace Go.Sx
open Go
section
variable {P:Program} {g:Gh} {H:Hp}
def FcD(P:Program)(f:FuncId)(args:Array zV)(C:Hp)(Q:zV->Hp->Prop):Prop:=∀g,kM P g f args C (aM Q)
theorem j7.fn{f:FuncId}{args:Array zV}{C H:Hp}{c:Hp->Hp}{Q:zV->Hp->Prop}{K:Hp->Prop}(hh:bG C H c)(hc:FcD P f args C Q)(hk:∀v C',Q v C'->K (c C')):j7 P g f args H K:=by
 intro w hw u;obtain⟨rfl,F,hp⟩:=hh.spec;have eL:Own g (C++F) w:=aN.perm (hp C) g w hw;refine((hc (g.add F)) w (Own.fm.1 eL) u).mono ?_;rintro e u' w' ⟨rfl,H',ho,v,C',rfl,he,hq⟩;have h1:Own g (H'++F) w':=Own.fm.2 ho;have h2:Own g (c H') w':=aN.perm (hp H').symm g w' h1;exact⟨rfl,c C',hh.dD he g w' h2,⟨v,rfl⟩,hk _ _ hq⟩
end
end Go.Sx
set_option maxRecDepth 100000
namespace Go.Proofs
open Go Go.Sx
section
open aA
section
variable {kp:Nat} {K:Kd} {ord ah tr:zL} {C:Hp} {S:Nat->aA.Fn}
theorem NW(h:cc kp K S ord ah tr C){r:Nat}(hr:r<4294967296)(hh:2<=r->K.hold r≠0):∀g,L142 g (ptr kp) (u32 r) C (aM λv C'=>v=iv 0/\∃K',cc kp K' S ord ah [] C'/\Ao K K' r):=by
 have h0:=h;obtain⟨b,hC,hO⟩:=h.rep;intro g;unfold L142;refine ae.aH (Br.no λJ2 BQ=>?_);have fin:∀(K':Kd) C1,cS kp K' ord ah tr C1->Ok K' S (lv ah)->Idle K'->Ao K K' r->J2 [] C1:=λK' C1 dh A3 wh hm=>by
  refine BQ _ λgs=>?_;obtain⟨b',rfl,ya⟩:=dh;refine Nil.ptr (ai.mk (St.one (by exact .head _) rfl (by simp[uz.cells]) rfl ?_));have mU:Ord K'.n (lv ah) ord:=by rw[hm.n];exact h.od
  refine aM.mk (nD:=({b' with vt:=.slice none 0 0,CR:=[]}:uz).hp kp K'.n) ?_ ⟨rfl,K',⟨⟨{b' with vt:=.slice none 0 0,CR:=[]},rfl,{ya with tr:=aO.nil}⟩,A3,mU,wh,trivial⟩,hm⟩;refine .cons (.cU (.cU (.cU (.cU (.cU (.cU .nil _) _) _) _) _) _)
 refine ae.ny (b:=1) (Br.dec (λh2=>?_) (λh2=>?_));rotate_left
 ·exact JE.mk (fin K C h.rep h.ok h.idle ⟨rfl,rfl,λ_ _ h=>h,λs=>by rw[xac zO]⟩)
 have oZ:2<=r:=by omega
 have pL:=hh oZ;obtain⟨d,hd⟩:=h.ok.mid.held r pL;have hfu:=h.ok.mid.fit hd;have Np:=hO.ul;have hfit:r<K.ho.length:=by omega
 have hle:=h.gg r;refine aa.eq (vX h.rep hr (λs=>by have:=h.gg s;omega)) (ae.ik (Br.F ?_));subst hC;refine Nil.ptr (ai.mk (Ld.f ?_));refine hO.ho.ld (x:=((K.hold r:Nat):Int)) (bH hfit) (bG.sub (.cons (.app (.app (.app .left))))) (ae.bY (b:=1) (hO.ho.nt (x:=((K.hold r-1:Nat):Int)) (.cons (.app (.app (.app .left)))) (by rw[aq];exact hfit) λTO Zg=>?_));rw[fi]at Zg;have g1:∀s,(K.ho.set r (K.hold r-1)).getD s 0=if s=r then K.hold r-1 else K.hold s:=λs=>gQ hfit
 have hM:=h.ok.mid.drop (r:=r) (cv:=K.ho.set r (K.hold r-1)) zO zI (by rw[g1,xae rfl];omega) (λs hs=>by rw[g1,xac hs]);have eW:cS kp {K with ho:=K.ho.set r (K.hold r-1)} ord ah tr (({b with CH:=TO}:uz).hp kp K.n):=⟨_,rfl,{hO with ho:=Zg,ul:=by simp;exact Np}⟩;have hho:∀s,(K.ho.set r (K.hold r-1)).getD s 0=if s=r/\2<=r then K.hold s-1 else K.hold s:=λs=>by
  rw[g1];by_cases e:s=r
  ·subst e;rw[xae rfl,xae ⟨rfl,oZ⟩]
  rw[xac e,xac (λh=>e h.1)]
 refine Nil.ptr (ai.mk (Ld.f ?_));refine Zg.ld (x:=((K.hold r-1:Nat):Int)) (by rw[bH (by simpa using hfit),g1,xae rfl]) (bG.sub (.cons (.app (.app (.app .left))))) (ae.eR (b:=0) (Br.dec (λh3=>?_) (λh3=>?_)));rotate_left
 ·rw[xac zO]at hM;exact JE.mk (fin {K with ho:=K.ho.set r (K.hold r-1)} _ eW ⟨hM,h.ok.pos,h.ok.lv,h.ok.wf⟩ h.idle ⟨rfl,rfl,λ_ _ h=>h,hho⟩)
 rw[xae zO]at hM;refine Nil.ptr (ai.mk ?_);have Lu:jO {K with ho:=K.ho.set r (K.hold r-1)} S iP (gU zero' [r]):=hM.congr (λ_=>xcT) λs _=>by
  unfold up gU zero';by_cases e:s=r
  ·subst e;simp
  simp[e,xa9 e]
 refine aa.fq (mH (P0:=zero') eW Lu h.ok.pos (λt Sr h0=>?_) (h.bL (.inr ⟨d,hd⟩)) (λs=>by have:=h.EX s;show K.use s<_;omega)) ?_
 ·by_cases e:t=r
  ·subst e;exact⟨d,hd⟩
  have h0':0<zero' t+[r].count t:=h0;simp[zero',xa9 e]at h0'
 rintro w C2 ⟨rfl,K2,dm,Wd,TV,_,dU⟩;refine JE.mk (fin K2 _ dm ⟨Wd,TV,by rw[dU.n];exact h.ok.lv,Lg h.ok.wf Wd (λh=>dU.N h) dU.n⟩ (dU.idle h.idle) ⟨dU.n,dU.cap,λs e hs=>dU.N hs,λs=>?_⟩);show K2.ho.getD s 0=_;rw[dU.ho];exact hho s
theorem iW(h:cc kp K S ord ah tr C){r:Nat}(hr:r<4294967296)(hh:2<=r->K.hold r≠0):FcD zQ 142 #[ptr kp,u32 r] C (λv C'=>v=iv 0/\∃K',cc kp K' S ord ah [] C'/\Ao K K' r):=
 λg=>Eu (NW h hr hh g)
end
end
section
open aA
section
variable {kp:Nat} {K:Kd} {S:Nat->aA.Fn} {ord ah tr:zL} {C:Hp}
theorem uA(B:Hp)(x:Nat):Rd zQ 182 #[u32 x,.bool true,iv 0] B (· =.tuple #[u32 x,iv 0]):=by
 exact aE λg=>qz (ae.cL (Br.F (Un.not (Br.no (bg.mk (.refl _) rfl)))))
theorem uB(B:Hp)(x:zV)(b:zV):Rd zQ 182 #[x,b,iv 9] B (· =.tuple #[u32 0,iv 9]):=by
 exact aE λg=>qz (ae.cL (Br.T (bg.mk (.refl _) rfl)))
theorem oB(B:Hp)(x:Nat):Rd zQ 182 #[u32 x,.bool false,iv 0] B (· =.tuple #[u32 0,iv 8]):=by
 exact aE λg=>qz (ae.cL (Br.F (Un.not (Br.yes (bg.mk (.refl _) rfl)))))
theorem yF(hK:cc kp K S ord ah tr C){v:Nat}(hv:v<K.n):Rd zQ 180 #[ptr kp,iv (v:Int)] C (· =.tuple #[.int .u64 ((2^v:Nat):Int),.bool true]):=by
 have hn:=hK.bc.lB;refine aE λg=>JG λJ hJ=>?_;refine ae.lss ?_;rw[xal zO];refine Split.go rfl (ae.AL (Split.go rfl (aa.eq (gM hK.rep) (ae.tI ?_))));rw[xal zO];refine aL.mk (aL.mk (JE.mk (hJ _ _ λgs=>Br.no ?_)));have h2:2^v<18446744073709551616:=xaP (xby zD (show v<64 by omega)) zD;refine ae.Ck (a:=1) (by simp[IntKind.bits];omega) (by rw[xa5];simpa[bF]using h2) ?_;rw[xa5];exact bg.mk (.refl _) rfl
theorem su(hK:cc kp K S ord ah tr C){Y:Hp}{mask:Nat}{vr:zV}{refs:zL}(hm:mask<2^K.n)(hr:dk .u32 Y vr (iw refs))(hl:∀r∈refs,live K.N r)(cD:refs.length<=1048576):Rd zQ 181 #[ptr kp,.int .u64 (mask:Int),vr] (Y++C) (· =iv 0):=by
 have hn:=hK.bc.lB;refine aE λg=>JF (ae.aH (Br.no (aa.eq (gM hK.rep) ?_)));have Lx:mask<18446744073709551616:=xaP hm (xaz (n:=2) zD hn);refine ae.iM (by simpa[bF]using Lx) ?_;rw[xa0,xdt hm];refine ae.cL (Br.F (hr.bP ?_));rw[aq];refine⟨λvs H=>∃i:Nat,vs=[iv (i:Int)]/\i<=refs.length/\H=Y++C,λvs _=>refs.length-bJ vs 0,JE.mk ⟨0,rfl,xaM _,rfl⟩,?_⟩;rintro w7 H ⟨i,⟨⟩,hi,rfl⟩ gs;refine ae.eZ (Br.dec (λhlt=>?_) (λhlt=>?_))
 ·have hlr:=hl _ (xaB hlt);refine hr.ld (n:=((refs[i]:Nat):Int)) (cP (xaa hlt)) (λ_ h=>xad _ h) ?_;refine aa.eq (args:=#[ptr kp,u32 refs[i]]) (iT hK.rep (by have:=hK.bL hlr;omega)) ?_;rw[bX.2 hlr];refine Ext.two λb15 _=>(St.whole (r:=got K.N refs[i]) (by exact .head _) rfl (aQ _ _).1 (aQ _ _).2 ?_);exact ae.cL (Br.F (ae.inc (aC.of .tail ⟨i+1,rfl,hlt,rfl⟩ (by simp only[bJ];omega))))
 exact bg.mk (.refl _) rfl
theorem ot.done{f:aA.Fn}{w:zV}{H:Hp}(h:ot kp K S ord ah [] f w H):(∃x,w=.tuple #[u32 x,.bool true,iv 0]/\Z9 kp K S ord ah tr f (.tuple #[u32 x,iv 0]) H)\/(w=.tuple #[u32 0,.bool false,iv 9]/\Z9 kp K S ord ah tr f (.tuple #[u32 0,iv 9]) H):=by
 rcases h with⟨x,K',S',C',rfl,rfl,dh,hg⟩|⟨rfl,⟨K',S',C',rfl,dh,hk⟩,hn⟩
 ·exact .inl ⟨x,rfl,.inl ⟨x,K',S',rfl,dh,hg⟩⟩
 exact .inr ⟨rfl,.inr ⟨rfl,⟨K',S',[],dh,.inl rfl,hk⟩,hn⟩⟩
theorem ri{n v:Nat}(hv:v<n):2^v<2^n:=xby zD hv
theorem vy(hK:cc kp K S ord ah tr C){r v:Nat}{b:Bool}(hr:live K.N r)(hv:v<K.n):
  Fc zQ 127 #[ptr kp,u32 r,iv (v:Int),.bool b] C (j6 kp K S ord ah tr (λx=>S r (ak.aB x v b))):=by
 refine aE λg=>Kf (aa.eq (yF hK hv) (Ext.two (ae.AL (dc.and (a:=true) false (λ_=>Un.not ⟨rfl,rfl⟩) rfl λgs=>Br.no ?_))));refine au.int (e:=110) zK zK zK λbs=>?_;refine aa.eq (args:=#[ptr kp,.int .u64 ((2^v:Nat):Int),.slice (some ⟨bs,0,none⟩) 1 1]) (su (Y:=[(bs,Obj.cells (ax .u32 [(r:Int)]) 110 zZ)]) (refs:=[r]) hK (ri hv) ((aO.made (T:=110) (kd:=.u32) (b:=bs) (iw [r])).ints) (λs hs=>by simp at hs;subst hs;exact hr) (by show 1<=1048576;omega)) (ae.cL (Br.F ?_));refine aa.fq (args:=#[ptr kp,u32 r,iv (v:Int),.bool b]) (kR hK hr hv) ?_;rintro w H (hO|⟨x,rfl,⟨K',S',C',rfl,dh,hk⟩,h2,hfx,V9⟩);rotate_left
 ·exact Ext.mk rfl (Ext.mk rfl (Ext.mk rfl (aa.eq (oB _ x) (Ext.mk rfl (Ext.mk rfl (aM.mk .tail (.inr ⟨rfl,⟨K',S',[],dh,.inl rfl,hk⟩,x,h2,hfx,V9⟩)))))))
 rcases hO.done (tr:=tr)with⟨x,rfl,hD⟩|⟨rfl,hD⟩
 ·exact Ext.mk rfl (Ext.mk rfl (Ext.mk rfl (aa.eq (uA _ x) (Ext.mk rfl (Ext.mk rfl (aM.mk .tail (.inl hD)))))))
 exact Ext.mk rfl (Ext.mk rfl (Ext.mk rfl (aa.eq (uB _ _ _) (Ext.mk rfl (Ext.mk rfl (aM.mk .tail (.inl hD)))))))
end
theorem Fits.mono{A B:aA.Fn->Prop}{cap:Nat}(h:∀g,A g->B g)(hB:Fits B cap):Fits A cap:=by
 classical
 obtain⟨ku,⟨l,h1,h2,h3⟩,hc⟩:=hB;refine⟨(l.filter λg=>decide (A g)).length,⟨l.filter λg=>decide (A g),h1.filter _,rfl,λg=>?_⟩,?_⟩
 ·rw[xbT,xaI,<-h3];exact⟨λx=>⟨h g x,x⟩,λx=>x.2⟩
 have:=xb1 (λg=>decide (A g)) l;omega
def bitsOf(mask n:Nat):zL:=(List.range n).filter λi=>mask.testBit i
theorem tN(mask n:Nat):bitsOf mask (n+1)=bitsOf mask n++if mask.testBit n then [n]else []:=by
 unfold bitsOf;rw[xci,xb4,xbk,List.filter_nil]
def ue(e:Bool)(vs:zL)(f:aA.Fn):aA.Fn:=vs.foldl (λg v=>qf e v g) f
theorem QA(e:Bool)(vs:zL)(v:Nat)(f:aA.Fn):ue e (vs++[v]) f=qf e v (ue e vs f):=by
 unfold ue;rw[xdo];rfl
section
variable {kp:Nat} {K:Kd} {S:Nat->aA.Fn} {ord ah tr:zL} {C:Hp}
def BA(kp:Nat)(K:Kd)(S:Nat->aA.Fn)(ord ah tr:zL)(e:Bool)(mask r:Nat)(w:zV)(H:Hp):Prop:=
 (∃x K' S',w=.tuple #[u32 x,iv 0]/\cc kp K' S' ord ah [] H/\kP K S K' S' (ue e (bitsOf mask K.n) (S r)) x)\/
 (w=.tuple #[u32 0,iv 9]/\(∃K' S' cT,cc kp K' S' ord ah cT H/\(cT=[]\/cT=tr)/\Kept K S K' S')/\∃i,i<K.n/\mask.testBit i=true/\¬Fits (aG K.n ord (λg=>(K.held S g\/(bitsOf mask i≠[]/\g=ue e (bitsOf mask i) (S r)))\/g=qf e i (ue e (bitsOf mask i) (S r)))) K.cap)
def mj(kp:Nat)(K:Kd)(S:Nat->aA.Fn)(ord ah tr:zL)(e:Bool)(mask r:Nat)(w:zV)(H:Hp):Prop:=
 BA kp K S ord ah tr e mask r w H\/(w=.tuple #[u32 0,iv 8]/\(∃K' S' cT,cc kp K' S' ord ah cT H/\(cT=[]\/cT=tr)/\Kept K S K' S')/\
  ((mask=0/\2<=r/\K.hold r=65535)\/∃i x,i<K.n/\mask.testBit i=true/\2<=x/\live K.N x/\S x=qf e i (ue e (bitsOf mask i) (S r))/\65534<=K.hold x/\((bitsOf mask i≠[]/\S x=ue e (bitsOf mask i) (S r))\/K.hold x=65535)))
structure Way(K:Kd)(S:Nat->aA.Fn)(K1:Kd)(S1:Nat->aA.Fn)(ch:Bool)(cur:Nat):Prop where
 n:K1.n=K.n
 cap:K1.cap=K.cap
 N:∀s d,K.N s=some d->K1.N s=some d
 fn:∀s,live K.N s->S1 s=S s
 live:live K1.N cur
 hold:∀s,K1.hold s=K.hold s+if ch=true/\s=cur/\2<=cur then 1 else 0
theorem zw(hK:cc kp K S ord ah tr C){r mask:Nat}{e:Bool}(hr:live K.N r)(hm:mask<2^K.n):
  Fc zQ 184 #[ptr kp,u32 r,.int .u64 (mask:Int),.bool e] C (mj kp K S ord ah tr e mask r):=by
 have hn:=hK.bc.lB;have Lx:mask<18446744073709551616:=xaP hm (xaz (n:=2) zD hn);have rE:∀s,K.hold s≠0->live K.N s:=λs hs=>.inr (hK.ok.mid.held s hs);refine aE λg=>JC (au.int (e:=110) zK zK zK λbs=>?_);refine aa.eq (args:=#[ptr kp,.int .u64 (mask:Int),.slice (some ⟨bs,0,none⟩) 1 1]) (su (Y:=[(bs,Obj.cells (ax .u32 [(r:Int)]) 110 zZ)]) (refs:=[r]) hK hm ((aO.made (T:=110) (kd:=.u32) (b:=bs) (iw [r])).ints) (λs hs=>by simp at hs;subst hs;exact hr) (by show 1<=1048576;omega)) (ae.cL (Br.F ?_));refine ae.eR (b:=0) (Br.dec (λh0=>?_) (λh0=>?_))
 ·subst h0;by_cases hfr:2<=r/\K.hold r=65535
  ·exact aa.eq (args:=#[ptr kp,u32 r]) (oW hK hr hfr.1 hfr.2) (ae.cL (Br.T (aM.mk .tail (.inr ⟨rfl,⟨K,S,tr,hK,.inr rfl,.refl K S⟩,.inl ⟨rfl,hfr.1,hfr.2⟩⟩))))
  refine aa.fq (args:=#[ptr kp,u32 r]) (mQ hK (r:=r) hr (λh2=>by have:=hK.gg r;omega)) ?_;rintro w C1 ⟨rfl,K1,eW,mo⟩;refine ae.cL (Br.F (aM.mk .tail (.inl (.inl ⟨r,K1,S,rfl,eW,mo.n,mo.cap,λs d hd=>by rw[mo.N];exact hd,λ_ _=>rfl,by rw[mo.N];exact hr,?_,λs=>by rw[mo.hold];split<;>omega⟩))));have:bitsOf 0 K.n=[]:=by unfold bitsOf;rw[xdl];intro a _;simp
  rw[this];rfl
 refine aa.eq (gM hK.rep) ?_;refine⟨λvs H=>∃(i cur:Nat) (ch:Bool) (K1:Kd) (S1:Nat->aA.Fn) (C1:Hp) (W7:zL),vs=[u32 cur,.bool ch,iv (i:Int)]/\i<=K.n/\H=(bs,Obj.cells (ax .u32 [(r:Int)]) 110 zZ)::C1/\cc kp K1 S1 ord ah W7 C1/\
   (ch=decide (bitsOf mask i≠[]))/\S1 cur=ue e (bitsOf mask i) (S r)/\Way K S K1 S1 ch cur/\(ch=true->W7=[]),λvs _=>K.n-bJ vs 2,
  JE.mk ⟨0,r,false,K,S,C,tr,rfl,xaM _,rfl,hK,rfl,rfl,⟨rfl,rfl,λ_ _ h=>h,λ_ _=>rfl,hr,λs=>by rw[xac (λh=>by cases h.1)];rfl⟩,λh=>by cases h⟩,?_⟩
 rintro w16 w17 w18 H ⟨i,cur,ch,K1,S1,C1,W7,hvs,hi,rfl,eW,kJ,l5,hw,eM⟩ gs;simp only[xau,xa1]at hvs;obtain⟨rfl,rfl,rfl⟩:=hvs;refine ae.eZ (Br.dec (λhlt=>?_) (λhlt=>?_));rotate_left
 ·obtain rfl:i=K.n:=by omega
  have hne:bitsOf mask K.n≠[]:=λhb=>h0 (by
   apply xaY;intro j;rw[xcN];by_cases hj:j<K.n
   ·cases ht:mask.testBit j with
    |false=>rfl
    |true=>
     have:j∈bitsOf mask K.n:=xbT.2 ⟨xaN.2 hj,ht⟩;rw[hb]at this;cases this
   exact xb8 (xaP hm (xaz zD zO)))
  have hct:ch=true:=by rw[kJ];exact xan hne
  rw[eM hct]at eW;exact aM.mk .tail (.inl (.inl ⟨cur,K1,S1,rfl,eW,hw.n,hw.cap,hw.N,hw.fn,hw.live,l5,λs=>by rw[hw.hold];simp[hct]⟩))
 intro J hJ;refine ae.iM (by simpa[bF]using Lx) (ae.jF (b:=1) (by have:mask>>>i<=mask:=xbl _ _;simp[bF];omega) (by simp[bF]) ?_);have NC:(mask>>>i) &&&1=(mask.testBit i).toNat:=by
  rw[xbR,xc9,xa0];have:mask/2^i%2<2:=xbC _ zD;by_cases h:mask/2^i%2=1
  ·simp[h]
  have:mask/2^i%2=0:=by omega
  simp[this]
 rw[NC];refine ae.eR (b:=0) ?_;cases ht:mask.testBit i with
 |false=>
  refine Br.T (JE.mk (hJ _ _ _ λgs=>?_));refine ae.inc ?_;have eb:bitsOf mask (i+1)=bitsOf mask i:=by rw[tN,ht];simp
  exact aC.mk ⟨i+1,cur,ch,K1,S1,C1,W7,rfl,hlt,rfl,eW,by rw[eb];exact kJ,by rw[eb];exact l5,hw,eM⟩ (by simp only[bJ];omega)
 |true=>
  refine Br.F ?_;have eb:bitsOf mask (i+1)=bitsOf mask i++[i]:=by rw[tN,ht];simp
  have hh1:∀s,K1.hold s≠0->live K1.N s:=λs hs=>.inr (eW.ok.mid.held s hs);refine aa.fq (args:=#[ptr kp,u32 cur,iv (i:Int),.bool e]) (xW eW hw.live (by rw[hw.n];exact hlt)) ?_;rintro w H ((⟨x,K2,S2,C2,rfl,rfl,dm,hg⟩|⟨rfl,⟨K2,S2,C2,rfl,dm,hk⟩,hno⟩)|⟨x,rfl,⟨K2,S2,C2,rfl,dm,hk⟩,Pu,hfx,V9⟩)
  ·refine Ext.mk rfl (Ext.mk rfl (Ext.mk rfl (aa.eq (uA _ x) (Ext.two λZ6 h38=>?_))));have go:∀K3 C3,cc kp K3 S2 ord ah [] C3->Way K S K3 S2 true x->Z6 [] ((bs,Obj.cells (ax .u32 [(r:Int)]) 110 zZ)::C3):=λK3 C3 kj Vz=>by
    refine h38 _ λgs=>?_;refine ae.cL (Br.F (JE.mk (hJ _ _ _ λgs=>?_)));exact ae.inc (aC.mk ⟨i+1,x,true,K3,S2,C3,[],rfl,hlt,rfl,kj,by rw[eb];exact(xan zI).symm,by rw[hg.is,eb,QA,l5],Vz,λ_=>rfl⟩ (by simp only[bJ];omega))
   have fn2:∀s,live K.N s->S2 s=S s:=λs hs=>(hg.fn s (ct hw.N hs)).trans (hw.fn s hs);cases ch with
   |false=>
    refine Br.no (JE.mk (go K2 H dm ⟨hg.n.trans hw.n,hg.cap.trans hw.cap,λs d hd=>hg.N s d (hw.N s d hd),fn2,hg.live,λs=>?_⟩));have a:=hw.hold s;rw[xac (λh=>by cases h.1)]at a;rw[hg.hold,a];simp
   |true=>
    have hlc:=hw.live;have hcc:2<=cur->K2.hold cur≠0:=λh2=>by rw[hg.hold,hw.hold,xae ⟨rfl,rfl,h2⟩];omega
    refine Br.yes (aa.fq (args:=#[ptr kp,u32 cur]) (mY dm (r:=cur) (by have:=eW.bL hlc;omega) hcc) ?_);rintro w C3 ⟨rfl,K3,kj,f3⟩;have gE:∀s,K3.hold s=K.hold s+if s=x/\2<=x then 1 else 0:=λs=>by
     have a:=hw.hold s;simp only[xcW]at a;rw[f3.hold,hg.hold,a];split<;>split<;>omega
    refine JE.mk (go K3 C3 kj ⟨by rw[f3.n,hg.n,hw.n],by rw[f3.cap,hg.cap,hw.cap],λs d hs=>jW hK.ok kj.ok (λs h=>by rw[gE];omega) (λs d d' h h'=>?_) _ s d hs (xaj _),fn2,?_,λs=>by rw[gE];simp⟩)
    ·have a:=f3.N s d' h';rw[hg.N s d (hw.N s d h)]at a;exact(xbm a).symm
    by_cases h2:x<2
    ·exact .inl h2
    refine .inr (kj.ok.mid.held x ?_);rw[gE,xae ⟨rfl,by omega⟩];omega
  ·refine Ext.mk rfl (Ext.mk rfl (Ext.mk rfl (aa.eq (uB _ _ _) (Ext.two λZ6 h38=>?_))));have uo:∀g,K1.held S1 g->K.held S g\/(bitsOf mask i≠[]/\g=ue e (bitsOf mask i) (S r)):=by
    rintro g ⟨s,hs,rfl⟩;have hs':K1.hold s≠0:=hs;by_cases hz:K.hold s=0
    ·right;rw[hw.hold,hz]at hs';by_cases hx:ch=true/\s=cur/\2<=cur
     ·refine⟨?_,by rw[hx.2.1];exact l5⟩;have:=hx.1;rw[kJ]at this;exact xca this
     rw[xac hx]at hs';omega
    exact .inl ⟨s,hz,hw.fn s (rE s hz)⟩
   have Dx:¬Fits (aG K.n ord (λg=>(K.held S g\/(bitsOf mask i≠[]/\g=ue e (bitsOf mask i) (S r)))\/g=qf e i (ue e (bitsOf mask i) (S r)))) K.cap:=λhfit=>hno (by
    rw[hw.n,hw.cap,l5];exact Fits.mono (λg hg=>cH (λg h=>h.imp (uo g) id) hg) hfit)
   have go:∀K3 C3 PS,cc kp K3 S2 ord ah PS C3->PS=[]->(∀s,K3.hold s=K.hold s)->K3.n=K2.n->K3.cap=K2.cap->Z6 [] ((bs,Obj.cells (ax .u32 [(r:Int)]) 110 zZ)::C3):=λK3 C3 PS kj Rz BM hn3 Zn=>by
    refine h38 _ λgs=>?_;refine ae.cL (Br.T ?_);have hfn:∀s,K.hold s≠0->S2 s=S s:=λs hs=>(hk.fn s (by rw[hw.hold];omega)).trans (hw.fn s (rE s hs));refine aM.mk .tail (.inl (.inr ⟨rfl,⟨K3,S2,PS,kj,.inl Rz,⟨by rw[hn3,hk.n,hw.n],by rw[Zn,hk.cap,hw.cap],BM,λg=>?_,hfn⟩⟩,i,hlt,ht,Dx⟩));constructor
    ·rintro⟨s,hs,rfl⟩;have hs':K.hold s≠0:=by rw[<-BM];exact hs
     exact⟨s,hs',hfn s hs'⟩
    rintro⟨s,hs,rfl⟩;exact⟨s,by show K3.hold s≠0;rw[BM];exact hs,(hfn s hs).symm⟩
   cases ch with
   |false=>
    refine Br.no (JE.mk (go K2 H [] dm rfl (λs=>?_) rfl rfl));rw[hk.hold,hw.hold,xac (λh=>by cases h.1)];rfl
   |true=>
    have hcc:2<=cur->K2.hold cur≠0:=λh2=>by rw[hk.hold,hw.hold,xae ⟨rfl,rfl,h2⟩];omega
    refine Br.yes (aa.fq (args:=#[ptr kp,u32 cur]) (mY dm (r:=cur) (by have:=eW.bL hw.live;omega) hcc) ?_);rintro w C3 ⟨rfl,K3,kj,f3⟩;refine JE.mk (go K3 C3 [] kj rfl (λs=>?_) f3.n f3.cap);have a:=hw.hold s;simp only[xcW]at a;rw[f3.hold,hk.hold,a];split<;>omega
  refine Ext.mk rfl (Ext.mk rfl (Ext.mk rfl (aa.eq (oB _ x) (Ext.two λZ6 h38=>?_))));have wg:live K.N x:=rE x (by have:=hw.hold x;split at this<;>omega);have Sj:S x=qf e i (ue e (bitsOf mask i) (S r)):=by rw[<-l5,<-V9];exact(hw.fn x wg).symm
  have afO:65534<=K.hold x/\((bitsOf mask i≠[]/\S x=ue e (bitsOf mask i) (S r))\/K.hold x=65535):=by
   have:=hw.hold x;by_cases hx:ch=true/\x=cur/\2<=cur
   ·rw[xae hx]at this;refine⟨by omega,.inl ⟨?_,?_⟩⟩
    ·have h1:=hx.1;rw[kJ]at h1;exact xca h1
    rw[<-l5,<-hx.2.1];exact(hw.fn x wg).symm
   rw[xac hx]at this;exact⟨by omega,.inr zO⟩
  have go:∀K3 C3 PS,cc kp K3 S2 ord ah PS C3->PS=[]->(∀s,K3.hold s=K.hold s)->K3.n=K2.n->K3.cap=K2.cap->Z6 [] ((bs,Obj.cells (ax .u32 [(r:Int)]) 110 zZ)::C3):=λK3 C3 PS kj Rz BM hn3 Zn=>by
   refine h38 _ λgs=>?_;refine ae.cL (Br.T ?_);have hfn:∀s,K.hold s≠0->S2 s=S s:=λs hs=>(hk.fn s (by rw[hw.hold];omega)).trans (hw.fn s (rE s hs));refine aM.mk .tail (.inr ⟨rfl,⟨K3,S2,PS,kj,.inl Rz,⟨by rw[hn3,hk.n,hw.n],by rw[Zn,hk.cap,hw.cap],BM,λg=>?_,hfn⟩⟩,.inr ⟨i,x,hlt,ht,Pu,wg,Sj,afO⟩⟩);constructor
   ·rintro⟨s,hs,rfl⟩;have hs':K.hold s≠0:=by rw[<-BM];exact hs
    exact⟨s,hs',hfn s hs'⟩
   rintro⟨s,hs,rfl⟩;exact⟨s,by show K3.hold s≠0;rw[BM];exact hs,(hfn s hs).symm⟩
  cases ch with
  |false=>
   refine Br.no (JE.mk (go K2 H [] dm rfl (λs=>?_) rfl rfl));rw[hk.hold,hw.hold,xac (λh=>by cases h.1)];rfl
  |true=>
   have hcc:2<=cur->K2.hold cur≠0:=λh2=>by rw[hk.hold,hw.hold,xae ⟨rfl,rfl,h2⟩];omega
   refine Br.yes (aa.fq (args:=#[ptr kp,u32 cur]) (mY dm (r:=cur) (by have:=eW.bL hw.live;omega) hcc) ?_);rintro w C3 ⟨rfl,K3,kj,f3⟩;refine JE.mk (go K3 C3 [] kj rfl (λs=>?_) f3.n f3.cap);have a:=hw.hold s;simp only[xcW]at a;rw[f3.hold,hk.hold,a];split<;>omega
end
section
variable {kp:Nat} {K:Kd} {S:Nat->aA.Fn} {ord ah tr:zL} {C:Hp}
theorem BA.two{e:Bool}{mask r:Nat}{w:zV}{H:Hp}(h:BA kp K S ord ah tr e mask r w H):∃x y,w=.tuple #[x,y]:=by
 rcases h with⟨x,K',S',rfl,_⟩|⟨rfl,_⟩
 ·exact⟨_,_,rfl⟩
 exact⟨_,_,rfl⟩
theorem mj.two{e:Bool}{mask r:Nat}{w:zV}{H:Hp}(h:mj kp K S ord ah tr e mask r w H):∃x y,w=.tuple #[x,y]:=by
 rcases h with h|⟨rfl,_⟩
 ·exact h.two
 exact⟨_,_,rfl⟩
theorem DV(hK:cc kp K S ord ah tr C){r mask:Nat}(hr:live K.N r)(hm:mask<2^K.n):
  Fc zQ 128 #[ptr kp,u32 r,.int .u64 (mask:Int)] C (mj kp K S ord ah tr true mask r):=by
 refine aE λg=>Ke (aa.fq (zw hK hr hm) ?_);intro w H hO;obtain⟨x,y,rfl⟩:=hO.two;exact Ext.mk rfl (Ext.mk rfl (aM.here hO))
theorem DO(hK:cc kp K S ord ah tr C){r mask:Nat}(hr:live K.N r)(hm:mask<2^K.n):
  Fc zQ 129 #[ptr kp,u32 r,.int .u64 (mask:Int)] C (mj kp K S ord ah tr false mask r):=by
 refine aE λg=>Kb (aa.fq (zw hK hr hm) ?_);intro w H hO;obtain⟨x,y,rfl⟩:=hO.two;exact Ext.mk rfl (Ext.mk rfl (aM.here hO))
def W3(kp:Nat)(K:Kd)(S:Nat->aA.Fn)(ord ah tr:zL)(lo hi f:aA.Fn)(w:zV)(H:Hp):Prop:=
 (∃x K' S',w=.tuple #[u32 x,iv 0]/\cc kp K' S' ord ah [] H/\kP K S K' S' f x)\/
 (w=.tuple #[u32 0,iv 9]/\(∃K' S' cT,cc kp K' S' ord ah cT H/\(cT=[]\/cT=tr)/\Kept K S K' S')/\
  (¬Fits (aG K.n ord (λg=>K.held S g\/g=lo)) K.cap\/¬Fits (aG K.n ord (λg=>(K.held S g\/g=lo)\/g=hi)) K.cap\/¬Fits (aG K.n ord (λg=>((K.held S g\/g=lo)\/g=hi)\/g=f)) K.cap))
def One(p:Prop)(a:Nat):Prop:=(a=1/\p)\/(a=0/\¬p)
def Ew(kp:Nat)(K:Kd)(S:Nat->aA.Fn)(ord ah tr:zL)(lo hi f:aA.Fn)(w:zV)(H:Hp):Prop:=
 W3 kp K S ord ah tr lo hi f w H\/(w=.tuple #[u32 0,iv 8]/\(∃K' S' cT,cc kp K' S' ord ah cT H/\(cT=[]\/cT=tr)/\Kept K S K' S')/\
  ∃x,2<=x/\live K.N x/\((S x=lo/\K.hold x=65535)\/(∃a,One (S x=lo) a/\S x=hi/\K.hold x+a=65535)\/(∃a b,One (S x=lo) a/\One (S x=hi) b/\S x=f/\K.hold x+a+b=65535)))
theorem kP.one{K':Kd}{S':Nat->aA.Fn}{f:aA.Fn}{x:Nat}{cT:zL}{C':Hp}(h:kP K S K' S' f x)(dh:cc kp K' S' ord ah cT C'){s:Nat}(hs:aA.live K.N s)(h2:2<=s):∃a,One (S s=f) a/\K'.hold s=K.hold s+a:=by
 have hfn:=h.fn s hs;by_cases e:s=x
 ·exact⟨1,.inl ⟨rfl,by rw[<-hfn,e];exact h.is⟩,by rw[h.hold,xae ⟨e,by omega⟩]⟩
 refine⟨0,.inr ⟨rfl,λhf=>e ?_⟩,by rw[h.hold,xac (λh=>e h.1)]⟩;exact dh.ok.wf.same dh.ok.lv dh.ok.mid.int (ct h.N hs) h.live λy=>by rw[hfn,hf,h.is]
theorem N7(hK:cc kp K S ord ah tr C){r v h:Nat}(hr:live K.N r)(hv:v<K.n)(hh:live K.N h):
  Fc zQ 130 #[ptr kp,u32 r,iv (v:Int),u32 h] C (Ew kp K S ord ah tr (λx=>S r (ak.aB x v false)) (λx=>S r (ak.aB x v true)) (λx=>if S h x then S r (ak.aB x v true)else S r (ak.aB x v false))):=by
 have uF:1<=2^K.n:=xeg;have rE:∀s,K.hold s≠0->live K.N s:=λs hs=>.inr (hK.ok.mid.held s hs);refine aE λg=>Ka (aa.eq (yF hK hv) (Ext.two (ae.AL (dc.and (a:=true) false (λ_=>Un.not ⟨rfl,rfl⟩) rfl λgs=>Br.no ?_))));refine au.Rj (e:=110) zK zK zK λbs=>?_;refine aa.rq (args:=#[ptr kp,.int .u64 ((2^v:Nat):Int),.slice (some ⟨bs,0,none⟩) 2 2]) (su (Y:=[(bs,Obj.cells (ax .u32 [(r:Int),(h:Int)]) 110 zZ)]) (refs:=[r,h]) hK (ri hv) ((aO.made (T:=110) (kd:=.u32) (b:=bs) (iw [r,h])).ints) (λs hs=>by
  simp only[xak,xaQ,xbE]at hs;rcases hs with rfl|rfl
  ·exact hr
  exact hh) (by show 2<=1048576;omega)) ?_
 rintro w rfl;refine ae.cL (Br.F (aa.fq (args:=#[ptr kp,u32 r,iv (v:Int),.bool false]) (kR hK hr hv) ?_));rintro w H (hO|⟨x,rfl,⟨K1,S1,C1,rfl,eW,hk⟩,Pu,hfx,V9⟩);rotate_left
 ·exact Ext.mk rfl (Ext.mk rfl (Ext.mk rfl (aa.eq (oB _ x) (Ext.two (ae.cL (Br.T (aM.mk .tail (.inr ⟨rfl,⟨K1,S1,[],eW,.inl rfl,hk⟩,x,Pu,rE x zO,.inl ⟨V9,hfx⟩⟩))))))))
 rcases hO with⟨x1,K1,S1,C1,rfl,rfl,eW,g1⟩|⟨rfl,⟨K1,S1,C1,rfl,eW,hk⟩,hno⟩;rotate_left
 ·exact Ext.mk rfl (Ext.mk rfl (Ext.mk rfl (aa.eq (uB _ _ _) (Ext.two (ae.cL (Br.T (aM.mk .tail (.inl (.inr ⟨rfl,⟨K1,S1,[],eW,.inl rfl,hk⟩,.inl hno⟩)))))))))
 refine Ext.mk rfl (Ext.mk rfl (Ext.mk rfl (aa.eq (uA _ x1) (Ext.two (ae.cL (Br.F ?_))))));have RD:=ct g1.N hr;have e1:S1 r=S r:=g1.fn r hr;have hh1:=ct g1.N hh;have l1:=g1.live;have fj:=g1.hold;have RR:∀g,K1.held S1 g->K.held S g\/g=λx=>S r (ak.aB x v false):=g1.held rE;refine aa.fq (args:=#[ptr kp,u32 r,iv (v:Int),.bool true]) (kR eW RD (by rw[g1.n];exact hv)) ?_;intro w H hO;rw[e1]at hO;rcases hO with(⟨x2,K2,S2,C2,rfl,rfl,dm,g2⟩|⟨rfl,⟨K2,S2,C2,rfl,dm,hk⟩,hno⟩)|⟨x,rfl,⟨K2,S2,C2,rfl,dm,hk⟩,Pu,hfx,V9⟩;rotate_left
 ·refine Ext.mk rfl (Ext.mk rfl (Ext.mk rfl (aa.eq (uB _ _ _) (Ext.two (ae.cL (Br.T (j7.fn (args:=#[ptr kp,u32 x1]) (.cons .here) (iW dm (r:=x1) (by have:=eW.bL l1;omega) (λh2=>by rw[hk.hold,fj,xae ⟨rfl,h2⟩];omega)) ?_)))))));rintro w C3 ⟨rfl,K3,kj,f3⟩;have BM:∀s,K3.hold s=K.hold s:=λs=>by
   rw[f3.hold,hk.hold,fj];split<;>omega
  have hfn:∀s,K.hold s≠0->S2 s=S s:=λs hs=>(hk.fn s (by rw[fj];omega)).trans (g1.fn s (rE s hs));refine aM.mk .tail (.inl (.inr ⟨rfl,⟨K3,S2,[],kj,.inl rfl,⟨by rw[f3.n,hk.n,g1.n],by rw[f3.cap,hk.cap,g1.cap],BM,λg=>?_,hfn⟩⟩,.inr (.inl λhfit=>hno ?_)⟩))
  ·constructor
   ·rintro⟨s,hs,rfl⟩;have hs':K.hold s≠0:=by rw[<-BM];exact hs
    exact⟨s,hs',hfn s hs'⟩
   rintro⟨s,hs,rfl⟩;exact⟨s,by show K3.hold s≠0;rw[BM];exact hs,(hfn s hs).symm⟩
  rw[g1.n,g1.cap];exact Fits.mono (λg hg=>cH (λg h=>h.imp (RR g) id) hg) hfit
 ·refine Ext.mk rfl (Ext.mk rfl (Ext.mk rfl (aa.eq (oB _ x) (Ext.two (ae.cL (Br.T ?_))))));have wg:live K.N x:=rE x (by have:=fj x;split at this<;>omega);obtain⟨a,ha,hka⟩:=g1.one eW wg Pu;have Sj:S x=λx=>S r (ak.aB x v true):=by rw[<-V9];exact(g1.fn x wg).symm
  refine j7.fn (args:=#[ptr kp,u32 x1]) (.cons .here) (iW dm (r:=x1) (by have:=eW.bL l1;omega) (λh2=>by rw[hk.hold,fj,xae ⟨rfl,h2⟩];omega)) ?_;rintro w C3 ⟨rfl,K3,kj,f3⟩;have BM:∀s,K3.hold s=K.hold s:=λs=>by
   rw[f3.hold,hk.hold,fj];split<;>omega
  have hfn:∀s,K.hold s≠0->S2 s=S s:=λs hs=>(hk.fn s (by rw[fj];omega)).trans (g1.fn s (rE s hs));refine aM.mk .tail (.inr ⟨rfl,⟨K3,S2,[],kj,.inl rfl,⟨by rw[f3.n,hk.n,g1.n],by rw[f3.cap,hk.cap,g1.cap],BM,λg=>?_,hfn⟩⟩,x,Pu,wg,.inr (.inl ⟨a,ha,Sj,by omega⟩)⟩);constructor
  ·rintro⟨s,hs,rfl⟩;have hs':K.hold s≠0:=by rw[<-BM];exact hs
   exact⟨s,hs',hfn s hs'⟩
  rintro⟨s,hs,rfl⟩;exact⟨s,by show K3.hold s≠0;rw[BM];exact hs,(hfn s hs).symm⟩
 refine Ext.mk rfl (Ext.mk rfl (Ext.mk rfl (aa.eq (uA _ x2) (Ext.two (ae.cL (Br.F ?_))))));have hh2:=ct g2.N hh1;have l12:=ct g2.N l1;have l2:=g2.live;have fU:=g2.hold;have afo:∀s,K1.hold s≠0->live K1.N s:=λs hs=>.inr (eW.ok.mid.held s hs);have Zh:∀g,K2.held S2 g->(K.held S g\/g=λx=>S r (ak.aB x v false))\/g=λx=>S r (ak.aB x v true):=λg hg=>(g2.held afo g hg).imp (RR g) id;have eh:S2 h=S h:=(g2.fn h hh1).trans (g1.fn h hh);have ex1:S2 x1=λx=>S r (ak.aB x v false):=(g2.fn x1 l1).trans g1.is;have VW:∀s,live K.N s->S2 s=S s:=λs hs=>(g2.fn s (ct g1.N hs)).trans (g1.fn s hs);refine aa.fq (args:=#[ptr kp,u32 h,u32 x2,u32 x1]) (z9 dm hh2 l2 l12) ?_;intro w H hO;rw[eh,ex1,g2.is]at hO;rcases hO with(⟨x3,K3,S3,rfl,kj,g3⟩|⟨rfl,⟨K3,S3,PS,kj,_,hk⟩,hno⟩)|⟨rfl,⟨K3,S3,PS,kj,_,hk⟩,x,Pu,hfx,V9⟩
 ·apply Ext.two;have gE:=g3.hold;refine j7.fn (args:=#[ptr kp,u32 x2]) (.cons .here) (iW kj (r:=x2) (by have:=dm.bL l2;omega) (λh2=>by rw[gE,fU,xae ⟨rfl,h2⟩];omega)) ?_;rintro w C4 ⟨rfl,K4,NH,f4⟩;have nh:∀s,K4.hold s=K1.hold s+if s=x3/\2<=x3 then 1 else 0:=λs=>by
   rw[f4.hold,gE,fU];split<;>split<;>omega
  refine j7.fn (args:=#[ptr kp,u32 x1]) (.cons .here) (iW NH (r:=x1) (by have:=eW.bL l1;omega) (λh2=>by rw[nh,fj,xae ⟨rfl,h2⟩];omega)) ?_;rintro w C5 ⟨rfl,K5,Lv,f5⟩;have nY:∀s,K5.hold s=K.hold s+if s=x3/\2<=x3 then 1 else 0:=λs=>by
   rw[f5.hold,nh,fj];split<;>split<;>omega
  have wg:live K5.N x3:=by
   by_cases h2:x3<2
   ·exact .inl h2
   refine .inr (Lv.ok.mid.held x3 ?_);rw[nY,xae ⟨rfl,by omega⟩];omega
  have afQ:∀s,live K.N s->S3 s=S s:=λs hs=>(g3.fn s (ct g2.N (ct g1.N hs))).trans (VW s hs);refine aM.mk .tail (.inl (.inl ⟨x3,K5,S3,rfl,Lv,⟨by rw[f5.n,f4.n,g3.n,g2.n,g1.n],by rw[f5.cap,f4.cap,g3.cap,g2.cap,g1.cap],λs d hs=>jW hK.ok Lv.ok (λs h=>by rw[nY];omega) (λs d d' h h'=>?_) _ s d hs (xaj _),afQ,wg,g3.is,nY⟩⟩));have a:=f4.N s d' (f5.N s d' h');rw[g3.N s d (g2.N s d (g1.N s d h))]at a;exact(xbm a).symm
 ·apply Ext.two;have gE:=hk.hold;refine j7.fn (args:=#[ptr kp,u32 x2]) (.cons .here) (iW kj (r:=x2) (by have:=dm.bL l2;omega) (λh2=>by rw[gE,fU,xae ⟨rfl,h2⟩];omega)) ?_;rintro w C4 ⟨rfl,K4,NH,f4⟩;have nh:∀s,K4.hold s=K1.hold s:=λs=>by
   rw[f4.hold,gE,fU];split<;>omega
  refine j7.fn (args:=#[ptr kp,u32 x1]) (.cons .here) (iW NH (r:=x1) (by have:=eW.bL l1;omega) (λh2=>by rw[nh,fj,xae ⟨rfl,h2⟩];omega)) ?_;rintro w C5 ⟨rfl,K5,Lv,f5⟩;have nY:∀s,K5.hold s=K.hold s:=λs=>by
   rw[f5.hold,nh,fj];split<;>omega
  have hfn:∀s,K.hold s≠0->S3 s=S s:=λs hs=>(hk.fn s (by rw[fU,fj];omega)).trans (VW s (rE s hs));refine aM.mk .tail (.inl (.inr ⟨rfl,⟨K5,S3,[],Lv,.inl rfl,⟨by rw[f5.n,f4.n,hk.n,g2.n,g1.n],by rw[f5.cap,f4.cap,hk.cap,g2.cap,g1.cap],nY,λg=>?_,hfn⟩⟩,.inr (.inr λhfit=>hno ?_)⟩))
  ·constructor
   ·rintro⟨s,hs,rfl⟩;have hs':K.hold s≠0:=by rw[<-nY];exact hs
    exact⟨s,hs',hfn s hs'⟩
   rintro⟨s,hs,rfl⟩;exact⟨s,by show K5.hold s≠0;rw[nY];exact hs,(hfn s hs).symm⟩
  rw[g2.n,g2.cap,g1.n,g1.cap];exact Fits.mono (λg hg=>cH (λg h=>h.imp (Zh g) id) hg) hfit
 apply Ext.two;have gE:=hk.hold;have wg:live K.N x:=rE x (by have:=fU x;have:=fj x;split at* <;>split at* <;>omega);obtain⟨a,ha,hka⟩:=g1.one eW wg Pu;obtain⟨b,hb,hkb⟩:=g2.one dm (ct g1.N wg) Pu;rw[g1.fn x wg]at hb;have Sj:S x=λx=>if S h x then S r (ak.aB x v true)else S r (ak.aB x v false):=by rw[<-V9];exact(VW x wg).symm
 refine j7.fn (args:=#[ptr kp,u32 x2]) (.cons .here) (iW kj (r:=x2) (by have:=dm.bL l2;omega) (λh2=>by rw[gE,fU,xae ⟨rfl,h2⟩];omega)) ?_;rintro w C4 ⟨rfl,K4,NH,f4⟩;have nh:∀s,K4.hold s=K1.hold s:=λs=>by
  rw[f4.hold,gE,fU];split<;>omega
 refine j7.fn (args:=#[ptr kp,u32 x1]) (.cons .here) (iW NH (r:=x1) (by have:=eW.bL l1;omega) (λh2=>by rw[nh,fj,xae ⟨rfl,h2⟩];omega)) ?_;rintro w C5 ⟨rfl,K5,Lv,f5⟩;have nY:∀s,K5.hold s=K.hold s:=λs=>by
  rw[f5.hold,nh,fj];split<;>omega
 have hfn:∀s,K.hold s≠0->S3 s=S s:=λs hs=>(hk.fn s (by rw[fU,fj];omega)).trans (VW s (rE s hs));refine aM.mk .tail (.inr ⟨rfl,⟨K5,S3,[],Lv,.inl rfl,⟨by rw[f5.n,f4.n,hk.n,g2.n,g1.n],by rw[f5.cap,f4.cap,hk.cap,g2.cap,g1.cap],nY,λg=>?_,hfn⟩⟩,x,Pu,wg,.inr (.inr ⟨a,b,ha,hb,Sj,by omega⟩)⟩);constructor
 ·rintro⟨s,hs,rfl⟩;have hs':K.hold s≠0:=by rw[<-nY];exact hs
  exact⟨s,hs',hfn s hs'⟩
 rintro⟨s,hs,rfl⟩;exact⟨s,by show K5.hold s≠0;rw[nY];exact hs,(hfn s hs).symm⟩
end
end
section
theorem BX{n:Nat}(hn:n<=16)(B:Hp):Rd zQ 382 #[iv (n:Int)] B (· =iv ((ak.wN n:Nat):Int)):=by
 refine aE λg=>Hg ?_;have h1:1<<<n<=65536:=by rw[xa5];exact xaz (n:=2) zD hn
 refine ae.Ck (a:=1) (b:=n) (by simp[IntKind.bits];omega) (by simp[bF];omega) (ae.iM (b:=6) (by simp[bF];omega) (⟨_,_,_,rfl,rfl,?_⟩));refine bg.mk (.refl _) ?_;have:1<<<n>>>6=2^n/64:=by rw[xa5,xa0]
 rw[this];congr 1;unfold ak.wN;rw[Nat.max_def];split<;>split<;>omega
theorem Ly{n:Nat}(hn:n<=16)(B:Hp):Rd zQ 383 #[iv (n:Int)] B (· =.int .u64 ((ak.dK n:Nat):Int)):=by
 refine aE λg=>Hf (ae.tI (a:=n) (b:=6) (Br.dec (λh=>?_) (λh=>?_)))
 ·exact bg.mk (.refl _) (by unfold ak.dK;rw[xae h];rfl)
 have h1:2^n<=32:=xaz (n:=2) zD (by omega:n<=5);have h2:2^2^n<=2^32:=xaz zD h1;have h3:=xbx (2^n);refine ae.nL (a:=1) (b:=n) ?_;rw[xa5,xbi zO];refine ae.nL (a:=1) ?_;rw[xa5,xbi zO];exact ae.bY (b:=1) (bg.mk (.refl _) (by unfold ak.dK;rw[xac h]))
theorem Nj{n:Nat}{ws:zL}(hn:n<=16)(hl:ws.length=ak.wN n)(hw:∀w∈ws,w<18446744073709551616){w:Nat}(hg:ws[ws.length-1]? =some w):
  (m8 w (ak.dK n)=0)↔ak.eY n ws:=by
 have key:∀w,w<18446744073709551616->(m8 w (ak.dK n)=0↔w<=ak.dK n):=by
  intro w hw;constructor
  ·intro h;have:w&&&ak.dK n=w:=by
    apply xaY;intro j;have:=xcb (λx=>x.testBit j) h;simp only[dF,xcN]at this;rw[xbh];cases h1:w.testBit j<;>cases h2:(ak.dK n).testBit j<;>simp_all
   rw[<-this];exact xc7
  intro h;have:=ak.wW h;unfold m8;rw[this,Nat.xor_self]
 constructor
 ·intro h;refine⟨hn,hl,λu hu=>?_⟩;by_cases h6:6<=n
  ·unfold ak.dK;rw[xae h6];have:=hw u hu;omega
  have h1:ws.length=1:=by rw[hl,ak.Kx zO]
  obtain⟨x,rfl⟩:=List.length_eq_one_iff.1 h1;simp at hg hu;subst hg;subst hu;exact(key _ (hw _ zI)).1 h
 intro h;exact(key w (hw w (xax hg))).2 (h.full w (xax hg))
theorem DN{B:Hp}{v:zV}{t:Tb}(ht:EN B v t):Rd zQ 384 #[v] B (· =.bool (decide (TF t))):=by
 obtain⟨tn,ws⟩:=t;obtain⟨s,rfl,hs,hw⟩:=ht;simp only at hs hw⊢;refine aE λg=>He λb1 _ J hJ=>?_;have hno:¬TF ⟨tn,ws⟩->JE J [.bool true] ((b1,.cells (Value.cells (.agg #[iv tn,s])) 116 zZ)::B):=λh=>
  JE.mk (hJ _ _ λgs=>Br.yes (bg.mk .tail (by rw[xal h])))
 refine DR.self ?_;refine ai.mk (Ld.mk zM rfl ?_);refine ae.lss (Br.dec (λh0=>hno λh=>by have:=h.1;simp only at this;omega) (λh0=>?_));obtain⟨n,rfl⟩:∃n:Nat,tn=n:=⟨tn.toNat,by omega⟩;have hTF:TF ⟨(n:Int),ws⟩↔ak.eY n ws:=by unfold TF;simp
 refine ai.mk (Ld.mk zM rfl ?_);refine ae.ny (b:=16) (aL.mk (Br.dec (λh1=>hno λh=>by have:=(hTF.1 h).xY;omega) (λh1=>?_)));refine ai.mk (Ld.mk zM rfl ?_);refine hs.bP ?_;refine ai.mk (Ld.mk zM rfl ?_);intro F;refine aa.eq (BX zO B) (⟨(by repeat (first|exact aN.refl _|apply aN.cons|apply aN.skip|apply aN.cU|apply aN.fS)),?_⟩);rw[aq];refine ae.AQ (aL.mk ?_);simp only[xag];by_cases hl:ws.length=ak.wN n
 case neg=>rw[show decide (ws.length≠ak.wN n)=true by simp[hl]];exact hno λh=>hl (hTF.1 h).len
 rw[show decide (ws.length≠ak.wN n)=false by simp[hl]];refine JE.mk (hJ _ _ λgs=>Br.no ?_);have hpos:=ak.X2 n;obtain⟨w,hg⟩:∃w,ws[ws.length-1]? =some w:=⟨_,xaa zO⟩;refine DR.self ?_;refine ai.mk (Ld.mk zM rfl ?_);refine ai.mk (Ld.mk zM rfl ?_);refine hs.bP ?_;rw[aq];refine ae.xS (b:=1) (by have:=ak.yp (n:=n) zO;simp[bF];omega) zO (hs.ld (cP hg) zS ?_);refine ai.mk (Ld.mk zM rfl ?_);refine aa.eq (Ly zO B) (⟨(by repeat (first|exact aN.refl _|apply aN.cons|apply aN.skip|apply aN.cU|apply aN.fS)),?_⟩);refine ae.Ei (by have:=hw w (xax hg);simpa[bF]using this) (by have:=ak.rK n;simpa[bF]using this) (ae.eR (b:=0) (bg.mk .tail ?_));congr 1;exact xcm.2 ((Nj zO hl hw hg).trans hTF.symm)
theorem DM{B:Hp}{v:zV}{ts:List Tb}(ht:jH B v ts)(cD:ts.length<2^62):Rd zQ 345 #[v] B (· =.bool (decide (∀t∈ts,TF t/\some t.n=ts.head?.map Tb.n))):=by
 refine aE λg=>HJ (ht.bP ?_);refine⟨λvs H=>bV B H/\∃k:Nat,vs=[iv (k:Int)]/\k<=ts.length/\∀i t,i<k->ts[i]? =some t->TF t/\some t.n=ts.head?.map Tb.n,λvs _=>ts.length-bJ vs 0,JE.mk ⟨.refl _,0,rfl,by omega,by omega⟩,?_⟩;rintro w H ⟨hg,k,⟨⟩,hk,aI⟩ gs;refine ae.eZ (Br.dec (λhlt=>?_) (λhlt=>?_))
 ·obtain⟨t,nv⟩:∃t,ts[k]? =some t:=⟨_,xaa hlt⟩;obtain⟨t0,VG⟩:∃t,ts[0]? =some t:=⟨_,xaa zO⟩;have hh:ts.head?.map Tb.n=some t0.n:=by rw[List.head?_eq_getElem?,VG];rfl
  have htB:=ht.mono hg.sub;refine htB.ld nv (λ_ h=>h) λs hs=>?_;intro b1 _;refine St.p ?_ ?_
  ·obtain⟨a,c,rfl,_⟩:=hs.1.shape;simp[Value.oneCell']
  intro J hJ;have hno:∀H',bV B H'->¬(TF t/\some t.n=ts.head?.map Tb.n)->JE J [.bool true] H':=λH' XB h=>
   JE.mk (hJ _ _ λgs=>Br.yes (bg.mk XB.dD (by rw[xal];exact λhh=>h (hh t (xax nv)))))
  have TY:bV B ((b1,Obj.cells (List.toArray [iv t.n,s]) 116 zZ)::H):=.cons hg;refine DR.self (ay.q ?_);intro F;refine aa.eq (B:=H) (DN ⟨s,rfl,hs⟩) (⟨.refl _,Un.not ?_⟩);by_cases hT:TF t
  case neg=>rw[xal hT];exact Br.yes (hno _ TY λh=>hT h.1)
  rw[xan hT];apply Br.no;refine ai.mk (Ld.mk zM rfl ?_);refine htB.ldN VG zS ?_;refine ae.cL (aL.mk ?_);simp only[xag];by_cases hn:t.n=t0.n
  case neg=>rw[xan hn];exact hno _ TY λh=>hn (by have:=h.2;rw[hh]at this;simpa using this)
  rw[xal (by simpa using hn)];refine JE.mk (hJ _ _ λgs=>Br.no ?_);refine ae.inc (aC.mk ⟨TY,k+1,rfl,by omega,λi u hi hu=>?_⟩ (by simp[bJ];omega));by_cases e:i=k
  ·subst e;rw[nv]at hu;cases hu;exact⟨hT,by rw[hh,hn]⟩
  exact aI i u zO hu
 refine bg.mk hg.dD ?_;rw[xan];intro t htm;obtain⟨i,hi,rfl⟩:=xa8.1 htm;exact aI i _ zO (xaa hi)
theorem wy{B:Hp}{b:Nat}{t:Tb}{s:zV}{T:TypeId}{fz:Nat×Nat}(hm:(b,Obj.cells #[iv t.n,s] T fz)∈B)(hw:Words B s t.ws):
  Rd zQ 345 #[.slice (some ⟨b,0,none⟩) 1 1] B (· =.bool (decide (TF t))):=
 (DM (jH.one (cap:=0) hm hw) zI).mono λv H ⟨h1,h2⟩=>⟨h1,by rw[h2];congr 1;simp⟩
theorem aa9{B:Hp}{v:zV}{t:Tb}(ht:EN B v t)(u:Int):Rd zQ 404 #[v,iv u] B (· =iv (if TF t then(if 0<=u/\u<t.n then 0 else 2)else 5)):=by
 obtain⟨s,rfl,hw⟩:=ht;refine aE λg=>GR λb1 _=>?_;refine ay.q ?_;refine wR λb2=>?_;refine aa.rd .here (wy (by exact List.Mem.head _) (hw.mono zS)) ?_;rintro v rfl;apply Un.not;by_cases hT:TF t
 ·rw[xan hT,xae hT];refine Br.no (ae.lss (dc.or (decide (t.n<=u)) (λh=>?_) rfl ?_))
  ·refine ai.mk (Ld.mk zM rfl ?_);exact ae.geq ⟨rfl,rfl⟩
  intro gs;have hor:(decide (u<0)||decide (t.n<=u))=decide (¬(0<=u/\u<t.n)):=by
   by_cases h1:u<0<;>by_cases h2:t.n<=u<;>simp[h1,h2]<;>omega
  rw[hor];refine Br.dec (λh=>?_) (λh=>?_)
  ·exact bg.mk (by repeat (first|exact aN.refl _|apply aN.cons|apply aN.skip|apply aN.cU|apply aN.fS)) (by rw[xac h])
  exact bg.mk (by repeat (first|exact aN.refl _|apply aN.cons|apply aN.skip|apply aN.cU|apply aN.fS)) (by rw[xae (xel.1 h)])
 rw[xal hT,xac hT];exact Br.yes (bg.mk (by repeat (first|exact aN.refl _|apply aN.cons|apply aN.skip|apply aN.cU|apply aN.fS)) rfl)
theorem zN{u i:Nat}(hu:u<64)(hi:i<18446744073709551616)(Lo:i<9223372036854775808)(B:Hp):Rd zQ 344 #[iv (u:Int),iv (i:Int)] B
  (· =.int .u64 ((if 6<=u then(if(i>>>(u-6)).testBit 0 then 18446744073709551615 else 0)else ak.mask u:Nat):Int)):=by
 refine aE λg=>HK (ae.tI (a:=u) (b:=6) (Br.dec (λh=>?_) (λh=>?_)))
 ·refine aZ.nat (by simpa[bF]using hi) (ae.xS (b:=6) (by simp[bF];omega) h (ae.iM (by simpa[bF]using hi) ?_));have hs:i>>>(u-6)<18446744073709551616:=xaA (xbl _ _) hi;refine ae.jF (b:=1) (by simpa[bF]using hs) zD (Un.aeO (by rw[ak.gv];split<;>decide) ?_);refine bg.mk (.refl _) ?_;rw[xae h,ak.gv];split<;>rfl
 refine⟨λvs H=>H=B/\∃j:Nat,vs=[.int .u64 ((ak.Bk u j:Nat):Int),iv (j:Int)]/\j<=64,λvs _=>64-bJ vs 1,JE.mk ⟨rfl,0,rfl,by omega⟩,?_⟩;rintro w1 w2 H ⟨rfl,j,⟨⟩,hj⟩ gs;refine ae.eZ (b:=64) (Br.dec (λhlt=>?_) (λhlt=>?_))
 ·refine ae.iM (by simp[bF];omega) ?_;have hs:j>>>u<64:=xaA (xbl _ _) hlt;refine ae.jF (b:=1) (by simp[bF];omega) zD ?_;have h1:j>>>u&&&1<=1:=by rw[ak.gv];split<;>decide
  refine aZ.q (ae.nL ?_);have h2:((j>>>u&&&1)<<<j)<18446744073709551616:=by
   rw[xcl]
   calc _<=1*2^j:=xaW _ h1
    _<2^64:=by rw[xc2];exact xby zD hlt
  rw[xbi h2];have h3:ak.Bk u j<18446744073709551616:=xaP (ak.Bj u j) (xaz (n:=2) zD hj);exact ae.K6 (by simpa[bF]using h3) (by simpa[bF]using h2) (ae.inc (aC.mk ⟨rfl,j+1,rfl,by omega⟩ (by simp[bJ];omega)))
 have:j=64:=by omega
 subst this;exact bg.mk (.refl _) (by rw[xac h];rfl)
theorem uD{n:Nat}(hn:n<=16){fv:zV}{f:FuncId}{first cap:Array zV}(RT:fv=.func (.func f) first cap)(fN:aT zQ f=true){F:Nat->Nat}(hF:∀i,i<ak.wN n->F i<18446744073709551616){B:Hp}
 (hc:∀i:Nat,i<ak.wN n->Rd zQ f (first++ #[iv (i:Int)]++cap) B (· =.int .u64 ((F i:Nat):Int))):
  Px zQ 340 #[iv (n:Int),fv] B (λv H=>EN H v ⟨n,(List.range (ak.wN n)).map λi=>F i&&&ak.dK n⟩):=by
 intro g;have hwl:=ak.yp hn;refine HN (R:=aM _) ?_;unfold L340;intro b1 _;refine aa.eq (BX hn B) (cV.ints (kU hn).1 (kU hn).2 λbw=>?_);refine Build.mk (cs:=[iv (n:Int),.slice (some ⟨bw,0,none⟩) (ak.wN n) (ak.wN n)]) zK λb8 _=>?_;refine St.q ?_;refine ai.mk (Ld.mk zM rfl ?_);refine aR.mk ?_;rw[range_zero (G:=λi=>F i&&&ak.dK n)];refine⟨λvs H=>∃i:Nat,vs=[iv (i:Int)]/\i<=ak.wN n/\H=(b8,.cells (List.toArray [iv (n:Int),.slice (some ⟨bw,0,none⟩) (ak.wN n) (ak.wN n)]) 116 zZ)::
   (bw,.cells (ax .u64 (iw ((List.range (ak.wN n)).map λk=>if k<i then F k&&&ak.dK n else 0))) 33 zZ)::(b1,.cells #[iv 0,.slice none 0 0] 116 zZ)::B,
  λvs _=>ak.wN n-bJ vs 0,JE.mk ⟨0,rfl,by omega,rfl⟩,?_⟩
 rintro w H ⟨i,⟨⟩,hi,rfl⟩ gs;refine ae.eZ (Br.dec (λhlt=>?_) (λhlt=>?_))
 ·refine DR.self ?_;refine ai.mk (Ld.mk zM rfl ?_);refine aF.of RT fN ?_;refine aa.eq (hc i hlt) (⟨.refl _,?_⟩);refine aa.eq (Ly hn B) (⟨.refl _,?_⟩);refine ae.jF (by simpa[bF]using hF i hlt) (by simpa[bF]using ak.rK n) (av.nat hlt ?_);refine St.ints (l:=iw _) (by exact .tail (.head _)) (by simpa using hlt) ?_;refine ae.inc ?_;rw[MT hlt];exact aC.mk ⟨i+1,rfl,by omega,rfl⟩ (by simp[bJ];omega)
 have:i=ak.wN n:=by omega
 subst this;rw[Fm];refine ay.q ?_;refine St.q ?_;refine ay.q ?_;refine GQ.mk (by repeat (first|exact bV.refl _|apply bV.cons|apply bV.app)) ⟨_,rfl,?_⟩;have:=Words.block (b:=bw) (cap:=ak.wN n) (ws:=(List.range (ak.wN n)).map λi=>F i&&&ak.dK n) (T:=33) (fz:=(0,0)) (B:=(b8,.cells (List.toArray [iv (n:Int),.slice (some ⟨bw,0,none⟩) (ak.wN n) (ak.wN n)]) 116 zZ)::
  (bw,.cells (ax .u64 (iw ((List.range (ak.wN n)).map λi=>F i&&&ak.dK n))) 33 zZ)::(b1,.cells (List.toArray [iv (n:Int),.slice (some ⟨bw,0,none⟩) (ak.wN n) (ak.wN n)]) 116 zZ)::B) (by exact .tail _ (.head _)) zI (λw hw=>by
   obtain⟨k,_,rfl⟩:=xam.1 hw;exact xaA xc7 (ak.rK n))
 simpa using this
theorem Se{B:Hp}{pv pb pa s:zV}{u n i:Nat}{c:Bool}{ws:zL}(hv:Go.Sx.At B pv [iv (u:Int)])(hb:Go.Sx.At B pb [.bool c])(ha:Go.Sx.At B pa [iv (n:Int),s])(hw:Words B s ws)(hf:ak.eY n ws)(hu:u<n)(hi:i<ak.wN n):
  Rd zQ 396 #[iv (i:Int),pv,pb,pa] B (· =.int .u64 ((ak.rH ws u c i:Nat):Int)):=by
 intro g;have hn:=hf.xY;have hwl:=ak.yp hn;refine GY (R:=aM _) ?_;unfold L396;refine Ld.at hv (λ_ h=>h) ?_;refine ae.tI (a:=u) (b:=6) (Br.dec (λh6=>?_) (λh6=>?_))
 ·have hp:2^(u-6)<=1024:=xaz (n:=2) zD (by omega:u-6<=10);refine Ld.at hv (λ_ h=>h) ?_;refine ae.xS (b:=6) (by simp[bF];omega) h6 (ae.Ck (a:=1) (by simp[IntKind.bits];omega) (by rw[xa5];simp[bF];omega) ?_);rw[xa5];refine ae.Ei (by simp[bF];omega) (by simp[bF];omega) ?_;have hand:=m7 i (2^(u-6));intro J hJ;have abC:ak.aB i (u-6) c<ak.wN n:=by
   rw[ak.Ky zO]at hi⊢;exact ak.fY hi zO
  have ie:JE J [iv ((ak.aB i (u-6) c:Nat):Int)] B:=by
   refine JE.mk (hJ _ _ λgs=>?_);refine ai.at ha λq hq=>Ld.at hq (λ_ h=>h) ?_;have hg:ws[ak.aB i (u-6) c]? =some (ws.getD (ak.aB i (u-6) c) 0):=by rw[xaa (by rw[hf.len];exact abC),xar,xaa (by rw[hf.len];exact abC)];rfl
   refine hw.1.ld (cP hg) (λ_ h=>h) ?_;exact bg.mk (.refl _) (by unfold ak.rH;rw[xae h6])
  refine Ld.at hb (λ_ h=>h) ?_;cases c
  ·exact Br.no ie
  refine Br.yes (Ld.at hv (λ_ h=>h) ?_);refine ae.xS (b:=6) (by simp[bF];omega) h6 (ae.Ck (a:=1) (by simp[IntKind.bits];omega) (by rw[xa5];simp[bF];omega) ?_);rw[xa5];refine ae.K6 (by simp[bF];omega) (by simp[bF];omega) ?_;have e:m8 i (2^(u-6))|||2^(u-6)=ak.aB i (u-6) true:=by
   apply xaY;intro k;rw[xb0,dF,ak.aj,xbW];by_cases e:k=u-6
   ·simp[e]
   simp[e,xa9 e]
  rw[e];exact ie
 have hp:2^u<=32:=xaz (n:=2) zD (by omega:u<=5);have hg:ws[i]? =some (ws.getD i 0):=by rw[xaa (by rw[hf.len];exact hi),xar,xaa (by rw[hf.len];exact hi)];rfl
 have hwi:=hw.2 _ (xax hg);have hm:=ak.ri u;refine DR.self (Ld.at hv (λ_ h=>h) (Ld.at hv (λ_ h=>h) ?_));refine ae.Ck (a:=1) (b:=u) (by simp[IntKind.bits];omega) (by rw[xa5];simp[bF];omega) ?_;rw[xa5];refine aa.eq (zN (u:=u) (i:=0) zO zO zO B) ?_;rw[xac h6];refine⟨.refl _,?_⟩;refine Ld.at hb (λ_ h=>h) ?_;cases c
 ·refine Br.no (ai.at ha λq hq=>Ld.at hq (λ_ h=>h) ?_);refine hw.1.ld (cP hg) (λ_ h=>h) ?_;refine ae.Ei (by simpa[bF]using hwi) (by simpa[bF]using hm) (ae.nL ?_);have:=m7 (ws.getD i 0) (ak.mask u);exact ae.K6 (by simp only[bF];omega) (by simp only[bF];omega) (bg.mk (.refl _) (by unfold ak.rH;rw[xac h6];rfl))
 refine Br.yes (ai.at ha λq hq=>Ld.at hq (λ_ h=>h) ?_);refine hw.1.ld (cP hg) (λ_ h=>h) ?_;refine ae.jF (by simpa[bF]using hwi) (by simpa[bF]using hm) ?_;have h1:ws.getD i 0&&&ak.mask u<=ws.getD i 0:=xcg;refine ae.iM (by simp only[bF];omega) ?_;have h2:=xbl (ws.getD i 0&&&ak.mask u) (2^u);exact ae.K6 (by simp only[bF];omega) (by simp only[bF];omega) (bg.mk (.refl _) (by unfold ak.rH;rw[xac h6];rfl))
theorem A9{B:Hp}{v:zV}{n u:Nat}{ws:zL}{c:Bool}(ht:EN B v ⟨n,ws⟩)(hf:ak.eY n ws)(hu:u<n):
  Px zQ 387 #[v,iv (u:Int),.bool c] B (λv H=>EN H v ⟨n,ak.iK n ws u c⟩):=by
 obtain⟨s,rfl,hw⟩:=ht;refine aE λg=>G7 λb1 _ b3 _ b5 _ b7 _=>?_;refine ai.mk (Ld.mk zM rfl ?_);refine aa.px (.cons .here) (uD hf.xY rfl zK (F:=λi=>ak.rH ws u c i) (λi hi=>?_) (λi hi=>?_)) ?_
 ·unfold ak.rH;split
  ·by_cases h:ak.aB i (u-6) c<ws.length
   ·rw[xar,xaa h];exact hf.lt (xaB h)
   rw[xar,xaC zO];decide
  have hg:ws.getD i 0<2^64:=by rw[xar,xaa (by rw[hf.len];exact hi)];exact hf.lt (xaB _)
  split
  ·refine xbG (n:=64) (xaA xcg hg) (xaA (xbl _ _) (xaA xcg hg))
  exact xbG (n:=64) (xaA (m7 _ _) hg) (xbC _ zD)
 ·exact Se (Go.Sx.At.block (l:=[iv (u:Int)]) zM) (Go.Sx.At.block (l:=[.bool c]) zM) (Go.Sx.At.block (l:=[iv (n:Int),s]) zM) (hw.mono zS) hf hu hi
 rintro v N ⟨s',rfl,eL⟩;refine St.p ?_ ?_
 ·have:=bO eL;simpa[Value.oneCell']using this
 refine ay.q ?_;exact GQ.mk (by repeat (first|exact bV.refl _|apply bV.cons|apply bV.app)) ⟨s',rfl,eL.mono zS⟩
theorem KD{B:Hp}{v:zV}{n u:Nat}{ws:zL}{c:Bool}(ht:EN B v ⟨n,ws⟩)(hf:ak.eY n ws)(hu:u<n):
  Px zQ 398 #[v,iv (u:Int),.bool c] B (λr H=>∃v',r=.tuple #[v',iv 0]/\EN H v' ⟨n,ak.iK n ws u c⟩):=by
 obtain⟨s,rfl,hw⟩:=ht;refine aE λg=>GW λb1 _ b3 _=>?_;refine ay.q ?_;refine aa.eq (aa9 (t:=⟨n,ws⟩) ⟨s,rfl,hw.mono zS⟩ (u:Int)) ?_;rw[xae (show TF ⟨(n:Int),ws⟩from⟨by simp,by simpa using hf⟩),xae ⟨by omega,by simp only;omega⟩];refine ae.cL (Br.F (ay.q ?_));refine aa.pq (A9 (v:=.agg (List.toArray [iv (n:Int),s])) ⟨s,rfl,hw.mono zS⟩ hf hu) ?_;rintro v N ⟨s',rfl,eL⟩;refine St.p ?_ ?_
 ·have:=bO eL;simpa[Value.oneCell']using this
 refine ay.q ?_;exact GQ.mk (by repeat (first|exact bV.refl _|apply bV.cons|apply bV.app)) ⟨_,rfl,s',rfl,eL.mono zS⟩
theorem D9{w j:Nat}(hj:j<8):((List.range (j+1)).map λi=>UInt8.ofNat (w>>>(8*i)))=((List.range j).map λi=>UInt8.ofNat (w>>>(8*i)))++[UInt8.ofNat (w>>>(8*j))]:=by
 rw[xci,xaE];rfl
theorem Oc(l:List UInt8)(n:Nat):sX (l++[UInt8.ofNat n])=sX l++[[Value.int .u8 ((n%256:Nat):Int)]]:=by
 simp[sX]
theorem FP{B:Hp}{v:zV}{t:Tb}(ht:EN B v t)(hl:t.ws.length<=4294967296):Rd zQ 399 #[v] B (· =Aw (ak.ic t.ws)):=by
 obtain⟨s,rfl,hw⟩:=ht;refine aE λg=>GV λb1 _=>?_;refine ai.mk (Ld.mk zM rfl ?_);refine hw.1.bP ?_;rw[aq];refine⟨λvs H=>∃(k:Nat) (v:zV) (C:Hp),vs=[v,iv (k:Int)]/\k<=t.ws.length/\H=C++B/\aV 5 1 v (sX (ak.ic (t.ws.take k))) C,λvs _=>t.ws.length-bJ vs 1,
  JE.of (.tail) ⟨0,_,[],rfl,by omega,rfl,aV.nil _ _⟩,?_⟩
 rintro w6 w7 H ⟨k,v,C,⟨⟩,hk,rfl,ho⟩ gs;refine ae.eZ (Br.dec (λhlt=>?_) (λhlt=>?_))
 ·have hg:t.ws[k]? =some t.ws[k]:=xaa hlt;have hwk:=hw.2 _ (xaB hlt);refine hw.1.ld (cP hg) zS ?_;have hlen:(sX (ak.ic (t.ws.take k))).length=8*k:=by simp only[sX,xav,ak.tx,xbB];omega
  refine⟨λvs H=>∃(j:Nat) (v:zV) (C:Hp),vs=[v,iv (j:Int)]/\j<=8/\H=C++B/\aV 5 1 v (sX (ak.ic (t.ws.take k)++(List.range j).map λi=>UInt8.ofNat (t.ws[k]>>>(8*i)))) C,λvs _=>8-bJ vs 1,
   JE.mk ⟨0,_,C,rfl,by omega,rfl,by simpa using ho⟩,?_⟩
  rintro w8 w9 H ⟨j,v,C,⟨⟩,hj,rfl,ho⟩ gs;refine ae.eZ (b:=8) (Br.dec (λh8=>?_) (λh8=>?_))
  ·refine ae.xZ (a:=8) (ae.iM (by simpa[bF]using hwk) (aZ.agU (au.int (e:=5) zK zK zK λxb=>?_)));refine ho.GL (A:=[_]) (r:=[Value.int .u8 (((t.ws[k]>>>(8*j))%256:Nat):Int)]) (by exact .head _) rfl (by simp[Value.oneCell']) ⟨[.int .u8 0],rfl,rfl⟩ (by simp only[sX,xav,xaf,xaJ]at hlen⊢;omega) (by simp only[sX,xav,xaf,xaJ]at hlen⊢;omega) λv' C' cv=>?_;refine ae.inc (aC.of .tail ⟨j+1,_,C',rfl,by omega,rfl,?_⟩ (by simp[bJ];omega));rw[D9 h8,<-xai,Oc];exact cv
  have:j=8:=by omega
  subst this;refine ae.inc (aC.mk ⟨k+1,_,C,rfl,by omega,rfl,?_⟩ (by simp[bJ];omega));rw[xaZ hlt,ak.ic,List.flatMap_append];simpa[ak.ic,ak.kU]using ho
 have:k=t.ws.length:=by omega
 subst this;rw[xba]at ho;refine kX.own ho (λ_ h=>xad _ h) ?_;exact bg.mk .right rfl
theorem ZU{B:Hp}{b n:Nat}{es:Array MapEntry}{ck:Nat}{m:List (List UInt8×zL)}{v:zV}{ws:zL}(hE:gF n B es ck m)(ht:EN B v ⟨n,ws⟩)(hf:ak.eY n ws):
  Fc zQ 397 #[.map (some b),v] ((b,.map es ck)::B) (λ_ H=>∃es' bB N,H=(b,.map es' bB)::(N++B)/\gF n (N++B) es' bB (Au m ws)):=by
 obtain⟨s,rfl,hw⟩:=ht;refine aE λg=>GX λb1 _=>?_;refine DR.self (ay.q ?_);refine ay.q ?_;refine aa.eq (FP (t:=⟨n,ws⟩) ⟨s,rfl,hw⟩ (uJ hf)) (⟨.refl _,?_⟩);refine hE.br (b:=b) ⟨s,rfl,hw⟩ hf λes' bB DF=>⟨_,.tail (.head _),?_⟩;exact aM.mk (nD:=(b,.map es' bB)::([]++B)) .tail ⟨es',bB,[],rfl,DF⟩
theorem M3{B:Hp}{v:zV}{n:Nat}{ts:List Tb}{L:List (zL)}(ht:jH B v ts)(hL:ts=L.map λws=>⟨n,ws⟩)(hf:∀ws∈L,ak.eY n ws)(cD:L.length<4611686018427387904):
  Fc zQ 388 #[v] B (λr H=>∃b es ck m N,r=.map (some b)/\H=(b,.map es ck)::(N++B)/\gF n (N++B) es ck m/\∀x,x∈m.map Prod.snd↔x∈L):=by
 have hlen:ts.length=L.length:=by rw[hL];simp
 refine aE λg=>G6 λb _=>?_;refine ht.bP ?_;rw[hlen];refine⟨λvs H=>∃(k:Nat) (es:Array MapEntry) (ck:Nat) (m:List (List UInt8×zL)) (N:Hp),vs=[iv (k:Int)]/\k<=L.length/\H=(b,.map es ck)::(N++B)/\gF n (N++B) es ck m/\∀x,x∈m.map Prod.snd↔x∈L.take k,
  λvs _=>L.length-bJ vs 0,JE.mk ⟨0,_,_,[],[],rfl,by omega,rfl,gF.empty _ _,by simp⟩,?_⟩
 rintro w H ⟨k,es,ck,m,N,⟨⟩,hk,rfl,hE,hm⟩ gs;refine ae.eZ (Br.dec (λhlt=>?_) (λhlt=>?_))
 ·have hg:ts[k]? =some ⟨n,L[k]⟩:=by rw[hL,xat,xaa hlt];rfl
  have pw:=hf L[k] (xaB hlt);refine ht.ld hg zS λs hw=>?_;intro b2 _;refine St.p ?_ ?_
  ·have:=bO hw;simpa[Value.oneCell']using this
  refine ay.q ?_;refine aa.fq (ZU hE ⟨s,rfl,hw.mono zS⟩ pw) ?_;rintro r C' ⟨es',bB,N',rfl,DF⟩;refine ae.inc (aC.of .tail ⟨k+1,es',bB,Au m L[k],N'++N,rfl,by omega,by rw[xai],by rw[xai];exact DF,λx=>?_⟩ (by simp[bJ];omega));rw[r8 hE.2 pw,hm,xaZ hlt,xao,xaG]
 have:k=L.length:=by omega
 subst this;rw[xba]at hm;exact aM.here ⟨b,es,ck,m,N,rfl,rfl,hE,hm⟩
theorem DK{B:Hp}{bm n u:Nat}{es:Array MapEntry}{ck:Nat}{m:List (List UInt8×zL)}(hm:(bm,Obj.map es ck)∈B)(hE:gF n B es ck m)(hu:u<n)(cD:m.length<4611686018427387904):
  Fc zQ 389 #[.map (some bm),iv (u:Int)] B (λr H=>∃b' es' bB m' N,r=.tuple #[.map (some b'),iv ((ak.nodes n (m.map Prod.snd) u).length:Int)]/\H=(b',.map es' bB)::(N++B)/\gF n (N++B) es' bB m'/\
   ∀x,x∈m'.map Prod.snd↔∃t∈m.map Prod.snd,∃c,x=ak.iK n t u c):=by
 refine aE λg=>G5 ?_;intro b' _;refine .inr ⟨bm,es,ck,rfl,.tail _ hm,λbi _=>?_⟩;refine⟨λvs H=>∃(es':Array MapEntry) (bB:Nat) (m':List (List UInt8×zL)) (seen:Array Nat) (N:Hp) (D:List (zL)),vs=[iv ((ak.nodes n D u).length:Int)]/\
   H=(bi,.mapIter (some bm) ck seen ck)::(b',.map es' bB)::(N++B)/\gF n (N++B) es' bB m'/\(m.map Prod.snd).Perm (D++(bS es m seen).map Prod.snd)/\∀x,x∈m'.map Prod.snd↔∃t∈D,∃c,x=ak.iK n t u c,
  λvs H=>match H with|(_,.mapIter _ _ seen _)::_=>(bS es m seen).length|_=>0,JE.mk ⟨_,_,[],_,[],[],rfl,rfl,gF.empty _ _,?_,by simp⟩,?_⟩
 ·rw[mz hE.1];simp
 rintro w H ⟨es',bB,m',seen,N,D,⟨⟩,rfl,DF,c8,hmem⟩ gs;have hbm:∀{X:Hp},(bm,Obj.map es ck)∈X++B:=xab _ hm;refine hE.1.next (.tail _ (.tail _ hbm)) (.head _) (λe x seen' he hkey hval hstep acr hfind=>⟨_,.head _,?_⟩) (λF3=>?_)
 ·obtain⟨bs,ws⟩:=x;simp only at hval hkey;refine Ext.mk rfl (Br.yes (⟨bi,bm,ck,seen',e.born,ck,es,e,rfl,.head _,acr,.tail _ (.tail _ hbm),hfind,?_⟩));refine Ext.mk rfl ?_;have hx:(bs,ws)∈m:=by
   have h:=hstep.mem_iff.2 (xbI (a:=(bs,ws)));unfold bS at h;obtain⟨p,hp,lY⟩:=xam.1 h;rw[<-lY];exact(xdD (xbT.1 hp).1).2
  obtain⟨hbs,hf⟩:=hE.2 _ hx;simp only at hbs hf;obtain⟨s,hes,hw⟩:=hval;rw[hes];have hone:=bO hw;intro b1 _;refine St.p (by simpa[Value.oneCell']using hone) ?_;refine ay.q ?_;refine aa.pq (B:=N++B) (KD (n:=n) (ws:=ws) ⟨s,rfl,hw.mono zS⟩ hf hu) ?_;rintro r N1 ⟨v1,rfl,s1,rfl,jy⟩;have abL:=bO jy;refine Ext.two λb2 _=>(St.p (by simpa[Value.oneCell']using abL) ?_);refine ay.q ?_;refine aa.pq (B:=N1++(N++B)) (KD (n:=n) (ws:=ws) ⟨s,rfl,hw.mono zS⟩ hf hu) ?_;rintro r N2 ⟨v2,rfl,s2,rfl,pJ⟩;have abK:=bO pJ;refine Ext.two λb3 _=>(St.p (by simpa[Value.oneCell']using abK) ?_);refine DR.self (ay.q ?_);refine ay.q ?_;have f1:=ak.er (v:=u) (ws:=ws) (b:=false) hf.xY;have f2:=ak.er (v:=u) (ws:=ws) (b:=true) hf.xY;refine aa.eq (B:=N2++(N1++(N++B))) (FP (t:=⟨n,ak.iK n ws u false⟩) ⟨s1,rfl,jy.mono zS⟩ (uJ f1)) (⟨.refl _,?_⟩);refine aa.eq (B:=N2++(N1++(N++B))) (FP (t:=⟨n,ak.iK n ws u true⟩) ⟨s2,rfl,pJ⟩ (uJ f2)) (⟨.refl _,?_⟩);intro J hJ;have A5:(ak.ic (ak.iK n ws u false)≠ak.ic (ak.iK n ws u true))↔ak.dep n ws u=true:=by
   simp only[ak.dep,ne_eq,xaI];exact not_congr ⟨λh=>f1.key_inj f2 h,λh=>by rw[h]⟩
  have ie:JE J [iv ((ak.nodes n (D++[ws]) u).length:Int)] ((b3,.cells (List.toArray [iv (n:Int),s2]) 116 zZ)::(b2,.cells (List.toArray [iv (n:Int),s1]) 116 zZ)::
    (b1,.cells (List.toArray [iv (n:Int),s]) 116 zZ)::(bi,.mapIter (some bm) ck seen' ck)::(b',.map es' bB)::(N2++(N1++(N++B)))):=by
   refine JE.mk (hJ _ _ λgs=>?_);refine DR.of (R:=(b3,.cells (List.toArray [iv (n:Int),s2]) 116 zZ)::(b2,.cells (List.toArray [iv (n:Int),s1]) 116 zZ)::[]) ?_ ?_
   ·exact .cons (.cons (λg w h=>(Own.left (B:=_) (A:=[]) h)))
   refine ay.q ?_;refine ay.q ?_;have sO:=DF.mono (B':=N2++(N1++(N++B))) zS;refine sO.br (b:=b') (ws:=ak.iK n ws u false) ⟨s1,rfl,jy.mono zS⟩ f1 λgR iF Ps=>⟨_,.tail (.tail (.tail (.tail (.head _)))),?_⟩;refine⟨.cons (.cons (λg w h=>(Own.left (B:=_) (A:=[]) h))),?_⟩;refine Ps.br (b:=b') (ws:=ak.iK n ws u true) ⟨s2,rfl,pJ⟩ f2 λo7 qM hE4=>⟨_,.tail (.tail (.tail (.tail (.head _)))),?_⟩;refine aC.of (H':=(bi,.mapIter (some bm) ck seen' ck)::(b',.map o7 qM)::((N2++(N1++N))++B)) ?_ ⟨o7,qM,Au (Au m' (ak.iK n ws u false)) (ak.iK n ws u true),seen',N2++(N1++N),D++[ws],rfl,rfl,?_,?_,λx=>?_⟩ ?_
   ·refine .skip (.skip (.skip (.cons (.cons ?_))));intro g w h;rw[xai,xai];exact h
   ·rw[xai,xai];exact hE4
   ·refine c8.trans ?_;refine(xbY D (hstep.map Prod.snd)).trans ?_;simp only[xay,xai,xaO,xb2];exact .refl _
   ·rw[r8 Ps.2 f2,r8 sO.2 f1,hmem];constructor
    ·rintro((⟨t,ht,c,rfl⟩|rfl)|rfl)
     ·exact⟨t,by simp[ht],c,rfl⟩
     ·exact⟨ws,by simp,_,rfl⟩
     exact⟨ws,by simp,_,rfl⟩
    rintro⟨t,ht,c,rfl⟩;rcases xao.1 ht with ht|ht
    ·exact .inl (.inl ⟨t,ht,c,rfl⟩)
    simp at ht;subst ht;cases c
    ·exact .inl (.inr rfl)
    exact .inr rfl
   have:=hstep.length_eq;simp only[xaw]at this⊢;omega
  refine ae.aaV (Br.dec (λh=>?_) (λh=>?_))
  ·refine ae.WO (b:=1) ?_ ?_
   ·have h1:=c8.length_eq;simp only[xav,xaf]at h1;have h2:(ak.nodes n D u).length<=D.length:=xb1 _ _;simp[bF];omega
   have:(ak.nodes n (D++[ws]) u).length=(ak.nodes n D u).length+1:=by
    simp[ak.nodes,xb4,A5.1 h]
   rw[this]at ie;exact ie
  have:(ak.nodes n (D++[ws]) u).length=(ak.nodes n D u).length:=by
   have hd:ak.dep n ws u=false:=by cases hh:ak.dep n ws u;rfl;exact absurd (A5.2 hh) h
   simp[ak.nodes,xb4,hd]
  rw[this]at ie;exact ie
 refine Ext.mk rfl (Br.no ?_);rw[F3]at c8;simp only[xb6,xaL]at c8;refine aM.mk (nD:=(b',.map es' bB)::(N++B)) .tail ⟨b',es',bB,m',N,?_,rfl,DF,λx=>?_⟩
 ·rw[ak.mL c8]
 rw[hmem];constructor
 ·rintro⟨t,ht,h⟩;exact⟨t,c8.mem_iff.2 ht,h⟩
 rintro⟨t,ht,h⟩;exact⟨t,c8.mem_iff.1 ht,h⟩
theorem MK{B:Hp}{v:zV}{ts:List Tb}(ht:jH B v ts)(cD:ts.length<2^62):Rd zQ 385 #[v] B (· =.bool (decide (∀t∈ts,TF t/\some t.n=ts.head?.map Tb.n))):=by
 intro g;refine G9 (R:=aM _) ?_;unfold L385;refine ht.bP ?_;refine⟨λvs H=>bV B H/\∃k:Nat,vs=[iv (k:Int)]/\k<=ts.length/\∀i t,i<k->ts[i]? =some t->TF t/\some t.n=ts.head?.map Tb.n,λvs _=>ts.length-bJ vs 0,JE.mk ⟨.refl _,0,rfl,by omega,by omega⟩,?_⟩;rintro w H ⟨hg,k,hv,hk,aI⟩ gs;simp only[xau,xa1]at hv;subst hv;refine ae.eZ (Br.dec (λhlt=>?_) (λhlt=>?_))
 ·obtain⟨t,nv⟩:∃t,ts[k]? =some t:=⟨_,xaa hlt⟩;obtain⟨t0,VG⟩:∃t,ts[0]? =some t:=⟨_,xaa zO⟩;have hh:ts.head?.map Tb.n=some t0.n:=by rw[List.head?_eq_getElem?,VG];rfl
  have htB:=ht.mono hg.sub;refine htB.ld nv (λ_ h=>h) λs hs=>?_;intro b1 _;refine St.whole (r:=[iv t.n,s]) (by exact c6.head _) rfl rfl ?_ ?_
  ·obtain⟨a,c,rfl,_⟩:=hs.1.shape;simp[Value.oneCell']
  intro J hJ;have hno:∀H',bV B H'->¬(TF t/\some t.n=ts.head?.map Tb.n)->JE J [.bool true] H':=λH' XB h=>
   JE.mk (hJ _ _ λgs=>Br.yes (bg.mk XB.dD (by rw[xal];exact λhh=>h (hh t (xax nv)))))
  have TY:bV B ((b1,Obj.cells (List.toArray [iv t.n,s]) 116 zZ)::H):=.cons hg;refine DR.self ?_;refine ay.whole (r:=[iv t.n,s]) (by exact List.Mem.head _) rfl ?_;intro F;refine aa.rd (B:=H) (.cons .here) (DN ⟨s,rfl,hs⟩) ?_;rintro v rfl;refine⟨.refl _,Un.not ?_⟩;by_cases hT:TF t
  case neg=>rw[xal hT];exact Br.yes (hno _ TY λh=>hT h.1)
  rw[xan hT];apply Br.no;refine ai.mk (Ld.mk zM rfl ?_);refine htB.ldN VG zS ?_;refine ae.cL (aL.mk ?_);simp only[xag];by_cases hn:t.n=t0.n
  case neg=>rw[xan hn];exact hno _ TY λh=>hn (by have:=h.2;rw[hh]at this;simpa using this)
  rw[xal (by simpa using hn)];refine JE.mk (hJ _ _ λgs=>Br.no ?_);refine ae.WO (b:=1) (by simp[bF];omega) ?_;refine aC.mk ⟨TY,k+1,rfl,by omega,λi u hi hu=>?_⟩ (by simp[bJ];omega);by_cases e:i=k
  ·subst e;rw[nv]at hu;cases hu;exact⟨hT,by rw[hh,hn]⟩
  exact aI i u zO hu
 refine bg.mk hg.dD ?_;rw[xan];intro t htm;obtain⟨i,hi,rfl⟩:=xa8.1 htm;exact aI i _ zO (xaa hi)
def rW(ts:List Tb):Prop:=∀t∈ts,TF t/\some t.n=ts.head?.map Tb.n
instance (ts:List Tb):Decidable (rW ts):=by unfold rW;infer_instance
theorem vi{B:Hp}{v:zV}{ts:List Tb}(ht:jH B v ts)(cD:ts.length<2^62):Rd zQ 385 #[v] B (· =.bool (decide (rW ts))):=MK ht cD
theorem CQ{n:Nat}{L:List (zL)}(hf:∀ws∈L,ak.eY n ws):rW (L.map λws=>⟨n,ws⟩):=by
 intro t ht;obtain⟨ws,hws,rfl⟩:=xam.1 ht;refine⟨⟨by simp,by simpa using hf ws hws⟩,?_⟩;cases L with
 |nil=>simp at hws
 |cons a b=>rfl
theorem K8{ts:List Tb}(h:rW ts)(hne:ts≠[]):∃(n:Nat) (L:List (zL)),n<=16/\ts=L.map (λws=>⟨n,ws⟩)/\L≠[]/\∀ws∈L,ak.eY n ws:=by
 cases ts with
 |nil=>exact absurd rfl hne
 |cons t r=>
  have ht:=(h t zI).1;have hn:∀u∈t::r,u.n=t.n:=λu hu=>by have:=(h u hu).2;simpa using this
  refine⟨t.n.toNat,(t::r).map Tb.ws,ht.2.xY,?_,by simp,λws hws=>?_⟩
  ·rw[xbM]
   conv=>lhs;rw[<-xed (t::r)]
   apply xbg;intro u hu;have h1:=hn u hu;have h2:=ht.1;obtain⟨un,uw⟩:=u;simp only[Function.comp,id]at h1⊢;congr 1;omega
  obtain⟨u,hu,rfl⟩:=xam.1 hws;have:=(h u hu).1.2;rwa [hn u hu]at this
end
end Go.Proofs
namespace aA
theorem Rm.sQ(m:Rm):∀ls ord,m.dJ 0 ls ord=ls.take (m.dJ 0 ls ord).length
 | [],_=>rfl
 |c::cs,ord=>by
  by_cases hf:m.fit ord (0+c)=true
  ·have:=m.sQ cs (fR ord (0+c));rw[dJ,xae hf,xaw,xd5,<-this,xa3]
  rw[dJ,xac hf];simp
def Rm.can(m:Rm)(ord ls:zL):Bool:=decide ((m.dJ 0 ls ord).length=ls.length)
theorem Rm.Ss(m:Rm){ord ls:zL}{i:Nat}(hi:i<(m.dJ 0 ls ord).length){l:Nat}(hl:ls[i]? =some l):m.fit (az ord (ls.take i)) l=true:=by
 obtain⟨_,c,h1,h2⟩:=m.rI 0 ls ord i hi;rw[hl]at h1;cases h1;rw[m.sQ,List.take_take,xcq (xb7 hi),xa3]at h2;exact h2
theorem Rm.NJ(m:Rm){ord ls:zL}{l:Nat}(hl:ls[(m.dJ 0 ls ord).length]? =some l):m.fit (az ord (ls.take (m.dJ 0 ls ord).length)) l=false:=by
 have:=m.wq 0 ls ord l hl;rw[xa3]at this;rw[<-m.sQ];exact this
def road(a b:Nat):zL:=List.range' a (b-a)++(List.range' b (a-b)).reverse
theorem vj(a b:Nat):(road a b).length=(b-a)+(a-b):=by simp[road]
theorem Qx{a b l n:Nat}(ha:a<n)(hb:b<n)(h:l∈road a b):l+1<n:=by
 unfold road at h;rcases xao.1 h with h|h
 ·rw[xek]at h;omega
 rw[List.mem_reverse,xek]at h;omega
theorem kD{α:Type}[DecidableEq α]:∀{l p:List α},l.Nodup->(∀x∈l,x∈p)->p.length<=l.length->l.Perm p
 | [],p,_,_,h=>by
  have:p=[]:=xcM.1 (by simpa using h);subst this;exact .refl _
 |x::t,p,hn,hs,hl=>by
  have hx:=hs x zI;have hp:=List.perm_cons_erase hx;have hlen:(p.erase x).length=p.length-1:=List.length_erase_of_mem hx;have hpos:=List.length_pos_of_mem hx;refine(List.Perm.cons x (kD (xaV.1 hn).2 (λy hy=>?_) (by simp only[xaw]at hl;omega))).trans hp.symm;refine(List.mem_erase_of_ne λe=>?_).2 (hs y (by simp[hy]));subst e;exact(xaV.1 hn).1 hy
end aA
set_option maxRecDepth 100000
namespace Go.Proofs
open Go Go.Sx
open aA
theorem Dn{l:zL}(h:l.Nodup):(iw l).Nodup:=xb9.2 (h.imp λhne e=>hne (Int.ofNat.inj e))
theorem s8{p:List Int}:tQ p↔p.Perm (iw (List.range p.length)):=by
 constructor
 ·intro h;refine(kD (Dn xbj) (λx hx=>?_) (by rw[aq,xaJ];exact xaj _)).symm;obtain⟨k,hk,rfl⟩:=xam.1 hx;exact h k (xaN.1 hk)
 intro h v hv;exact h.mem_iff.2 (xam.2 ⟨v,xaN.2 hv,rfl⟩)
theorem Tu{p:List Int}(hn:p.Nodup)(h:∀x∈p,0<=x/\x<(p.length:Int)):tQ p:=by
 refine s8.2 (kD hn (λx hx=>?_) (by rw[aq,xaJ];exact xaj _));obtain⟨h1,h2⟩:=h x hx;exact xam.2 ⟨x.toNat,xaN.2 zO,by show((x.toNat:Nat):Int)=x;omega⟩
theorem Tv{p:List Int}(h:tQ p){x:Int}(hx:x∈p):0<=x/\x<(p.length:Int):=by
 have:=(s8.1 h).mem_iff.1 hx;obtain⟨k,hk,rfl⟩:=xam.1 this;have:=xaN.1 hk;show(0:Int)<=(k:Int)/\(k:Int)<_;omega
theorem El{p:List Int}(h:tQ p):p.Nodup:=(s8.1 h).nodup_iff.2 (Dn xbj)
theorem Qk{p:List Int}{i n W:Nat}(hi:i<p.length)(hn:p[i]=(n:Int))(hw:n<W):((List.range W).map λk=>decide (((k:Nat):Int)∈p.take i)).set n true=(List.range W).map λk=>decide (((k:Nat):Int)∈p.take (i+1)):=by
 apply xbd;intro j;rw[xaZ hi,hn];by_cases hj:j<W
 ·by_cases e:n=j
  ·subst e;rw[xbJ (by simpa using hw)];simp[hw]
  rw[xbH e];simp only[xat,xdB hj,xch,xao,xaG];congr 1;have:¬((j:Nat):Int)=(n:Int):=by omega
  simp[this]
 rw[xaC zP,xaC zP]
theorem MH{p:List Int}{W:Nat}:List.replicate W false=(List.range W).map λk=>decide (((k:Nat):Int)∈p.take 0):=by
 apply xbd;intro j;by_cases hj:j<W
 ·simp[hj]
 rw[xaC zP,xaC zP]
theorem sA{B:Hp}{v:zV}{p:List Int}(h:dk .i64 B v p)(cD:p.length<=70368744177664):Rd zQ 283 #[v] B (λr=>(r=iv 0/\tQ p/\p.length<=64)\/(r=iv 13/\tQ p/\64<p.length)\/(r=iv 4/\¬tQ p)):=by
 refine aE λg=>Iy (h.bP (cV.Td zO λb=>h.bP ?_));rw[MH (p:=p)];refine⟨λvs H=>∃i:Nat,vs=[iv (i:Int)]/\H=(b,.cells (fo ((List.range p.length).map λk=>decide (((k:Nat):Int)∈p.take i))) 4 zZ)::B/\i<=p.length/\(p.take i).Nodup/\∀x∈p.take i,0<=x/\x<(p.length:Int),λvs _=>p.length-bJ vs 0,
  JE.mk ⟨0,rfl,rfl,xaM _,by simp,by simp⟩,?_⟩
 rintro w H ⟨i,⟨⟩,rfl,hi,fc,hin⟩ gs;refine ae.eZ (Br.dec (λhlt=>?_) (λhlt=>?_))
 ·refine h.ld (xaa hlt) (λ_ h=>.tail _ h) ?_;obtain⟨x,hx⟩:∃x,p[i]=x:=⟨_,rfl⟩;have hxm:x∈p:=by rw[<-hx];exact xaB hlt
  rw[hx];have hB:=Ex.block (b:=b) (cap:=p.length) (l:=(List.range p.length).map λk=>decide (((k:Nat):Int)∈p.take i)) (T:=4) (fz:=(0,0)) (B:=(b,.cells (fo ((List.range p.length).map λk=>decide (((k:Nat):Int)∈p.take i))) 4 zZ)::B) (.head _) zI;rw[xav,xaJ]at hB;refine ae.lss (dc.or (decide ((p.length:Int)<=x)) (λ_=>h.bP (ae.geq ⟨rfl,rfl⟩)) zI λgs=>?_);rw[<-xa7];refine dc.or (decide (x∈p.take i)) (λhno=>?_) zI λgs=>?_
  ·have Dx:=xdh hno;obtain⟨n,rfl⟩:∃n:Nat,x=n:=⟨x.toNat,by omega⟩;refine hB.ld (b:=decide (((n:Nat):Int)∈p.take i)) ?_ (λ_ h=>h) ⟨rfl,rfl⟩;rw[xat,xdB zO];rfl
  rw[<-xa7];refine Br.dec (λaf4=>bg.mk .tail (.inr (.inr ⟨rfl,λha=>?_⟩))) (λab6=>?_)
  ·have h1:=Tv ha hxm;rcases af4 with hb|hb
   ·omega
   have h2:=El ha;rw[<-xbr i p,xa4]at h2;refine h2.2.2 x hb x ?_ rfl;rw[xbs hlt,hx];exact .head _
  obtain⟨n,rfl⟩:∃n:Nat,x=n:=⟨x.toNat,by omega⟩;refine av.nat zO ?_;refine St.Td (l:=(List.range p.length).map λk=>decide (((k:Nat):Int)∈p.take i)) (.head _) zP ?_;rw[Qk hlt hx zO];refine ae.inc (aC.mk ⟨i+1,rfl,rfl,hlt,?_,λx FX=>?_⟩ (by simp only[bJ];omega))
  ·rw[xaZ hlt,hx,xa4];exact⟨fc,by simp,λa ha b hb e=>by simp at hb;subst hb;subst e;exact ab6 (.inr ha)⟩
  rw[xaZ hlt,hx,xao,xaG]at FX;rcases FX with FX|rfl
  ·exact hin x FX
  omega
 obtain rfl:i=p.length:=by omega
 rw[xba]at fc hin;have aI:=Tu fc hin;refine h.bP (ae.ny (b:=64) (Br.dec (λhg=>bg.mk .tail (.inr (.inl ⟨rfl,aI,hg⟩))) (λhg=>bg.mk .tail (.inl ⟨rfl,aI,by omega⟩))))
theorem ME{B:Hp}{v:zV}{p:List Int}{x:Int}(h:dk .i64 B v p)(cD:p.length<4611686018427387904):Rd zQ 351 #[v,iv x] B (· =iv (if x∈p then((p.idxOf x:Nat):Int)else-1)):=by
 refine aE λg=>HB (h.bP ?_);refine⟨λvs H=>∃i:Nat,vs=[iv (i:Int)]/\H=B/\i<=p.length/\x∉p.take i,λvs _=>p.length-bJ vs 0,JE.mk ⟨0,rfl,rfl,xaM _,by simp⟩,?_⟩;rintro w H ⟨i,⟨⟩,rfl,hi,hq⟩ gs;refine ae.eZ (Br.dec (λhlt=>?_) (λhlt=>?_))
 ·refine h.ld (xaa hlt) (λ_ h=>h) ?_;refine ae.ik (Br.dec (λhe=>bg.mk (.refl _) ?_) (λhe=>?_))
  ·rw[xae (by rw[he];exact xaB hlt),Rs hq hlt he.symm]
  refine ae.inc (aC.of (.refl _) ⟨i+1,rfl,rfl,hlt,?_⟩ (by simp only[bJ];omega));rw[xaZ hlt,xao,xaG];rintro(h|h)
  ·exact hq h
  exact he h
 refine bg.mk (.refl _) ?_;rw[xcv zO]at hq;rw[xac hq]
theorem WD{B:Hp}{v1 v2:zV}{p q:zL}{n:Nat}(h1:dk .i64 B v1 (iw p))(h2:dk .i64 B v2 (iw q))(hp:p.Perm (List.range n))(hq:q.Perm (List.range n))(hn:n<=64):Rd zQ 350 #[v1,v2] B (· =iv 0):=by
 have e1:p.length=n:=by rw[hp.length_eq,xaJ]
 have e2:q.length=n:=by rw[hq.length_eq,xaJ]
 refine aE λg=>HC (aa.rq (sA h1 (by rw[aq];omega)) ?_);rintro v (⟨rfl,_,_⟩|⟨_,_,hl⟩|⟨_,hno⟩);rotate_left
 ·rw[aq]at hl;omega
 ·exact absurd (wZ hp) hno
 refine aa.rq (sA h2 (by rw[aq];omega)) ?_;rintro v (⟨rfl,_,_⟩|⟨_,_,hl⟩|⟨_,hno⟩);rotate_left
 ·rw[aq]at hl;omega
 ·exact absurd (wZ hq) hno
 refine ae.ik (dc.or false (λ_=>ae.ik ⟨rfl,rfl⟩) rfl λgs=>?_);refine dc.or false (λ_=>?_) rfl λgs=>Br.no ?_
 ·refine h1.bP (h2.bP (ae.AQ ⟨rfl,?_⟩));rw[aq,aq,xal zO]
 exact⟨.i64,0,0,rfl,rfl,bg.mk (.refl _) rfl⟩
end Go.Proofs
namespace Go.Sx
open Go
section
variable {P:Program} {g:Gh} {H:Hp}
theorem au.Yn{t e:TypeId}{z:zV}{a b c d x y:zV}{K:zV->Hp->Prop}(h1:P.underlying t=some (.slice e))(h2:dG P e=some 2)(h3:fK P e=some z)
 (h:∀u,K (.slice (some ⟨u,0,Option.none⟩) 3 3) ((u,.cells (rows [[a,b],[c,d],[x,y]]) e zZ)::H)):au P t 3 [(0,.agg #[a,b]),(1,.agg #[c,d]),(2,.agg #[x,y])] H K:=by
 refine⟨rows [[a,b],[c,d],[x,y]],e,2,z,h1,h2,h3,by decide,?_,λb _=>h b⟩;have e1:Array.range (3*2)=#[0,1,2,3,4,5]:=rfl;simp[Instr.fill,Value.cells,rows,e1]
theorem aV.made{T:TypeId}{k b:Nat}(rs:List (List zV))(h:∀r∈rs,r.length=k):aV T k (.slice (some ⟨b,0,none⟩) rs.length rs.length) rs [(b,.cells (rows rs) T zZ)]:=
 .inr ⟨b,[],by simp,by simp,by simpa using h⟩
end
end Go.Sx
namespace aA
open ak
variable {n:Nat} {F:Nat->Nat} {ws us rs:zL}
def y2(n:Nat)(F:Nat->Nat):zL:=(List.range (wN n)).map λi=>F i&&&dK n
theorem sF(hn:n<=16):eY n (y2 n F):=by
 refine⟨hn,by simp[y2],λw hw=>?_⟩;obtain⟨i,_,rfl⟩:=xam.1 hw;exact xc7
theorem Nk{x:Nat}(hx:x<2^n):bit (y2 n F) x=(F (x/64)).testBit (x%64):=by
 have hi:=Dg hx;unfold bit;have gP:(y2 n F).getD (x/64) 0=F (x/64) &&&dK n:=by simp[y2,hi]
 rw[gP,xbh,mD];have hfb:decide (x%64<if 6<=n then 64 else 2^n)=true:=by
  rw[xaI];split
  ·exact xbC _ zD
  have h1:2^n<=32:=xaz (n:=2) zD (by omega:n<=5);omega
 rw[hfb,xdS]
theorem wA{f:Fn}(h:∀x,x<2^n->(F (x/64)).testBit (x%64)=f x)(hf:∀x,f (x%2^n)=f x):pA n (y2 n F)=f:=by
 funext x
 unfold pA;have hx:x%2^n<2^n:=xbC _ (xbx n);rw[Nk hx,h _ hx,hf]
theorem Be(x:Nat):pA n ws (x%2^n)=pA n ws x:=by unfold pA;rw[Nat.mod_mod]
theorem uQ{x:Nat}(hx:x<2^n):(ws.getD (x/64) 0).testBit (x%64)=pA n ws x:=by
 unfold pA bit;rw[xbi hx]
theorem CK{j:Nat}(hj:j<64):(18446744073709551615:Nat).testBit j=true:=by
 have:(18446744073709551615:Nat)=2^64-1:=by decide
 rw[this,xcQ];simpa using hj
theorem U4{w j:Nat}(hw:w<18446744073709551616)(hj:j<64):(18446744073709551615-w).testBit j= !w.testBit j:=by
 have e:(18446744073709551615-w)=2^64-(w+1):=by
  have:(2:Nat)^64=18446744073709551616:=by decide
  omega
 rw[e,xd9 (by
  have:(2:Nat)^64=18446744073709551616:=by decide
  omega)]
 simp[hj]
end aA
set_option maxRecDepth 100000
namespace Go.Proofs
open Go Go.Sx
section
open aA
section
variable {B:Hp}
def kz(B:Hp)(v:zV)(n:Nat)(f:aA.Fn):Prop:=∃ws,EN B v ⟨n,ws⟩/\ak.eY n ws/\pA n ws=f
theorem kz.mono{B B':Hp}{v:zV}{n:Nat}{f:aA.Fn}(h:kz B v n f)(hs:∀x∈B,x∈B'):kz B' v n f:=let ⟨ws,h1,h2,h3⟩:=h;⟨ws,h1.mono hs,h2,h3⟩
theorem D2{n:Nat}(hn:n<=16)(B:Hp):Rd zQ 339 #[iv (n:Int)] B (· =iv 0):=by
 exact aE λg=>HP (ae.lss (Br.F (ae.ny (b:=16) (Br.F (bg.mk (.refl _) rfl)))))
theorem E3{b:Bool}{p:zV}{i:Int}(hb:Go.Sx.At B p [.bool b]):Rd zQ 341 #[iv i,p] B (· =.int .u64 (((if b then 18446744073709551615 else 0:Nat)):Int)):=by
 refine aE λg=>HM (Ld.at hb (λ_ h=>h) ?_);cases b
 ·exact Br.no (bg.mk (.refl _) rfl)
 exact Br.yes (bg.mk (.refl _) rfl)
theorem yx{n:Nat}(hn:n<=16)(b:Bool)(B:Hp):Px zQ 275 #[iv (n:Int),.bool b] B (λr H=>∃v,r=.tuple #[v,iv 0]/\kz H v n (λ_=>b)):=by
 refine aE λg=>IF λb1 _ b3 _=>?_;refine aa.eq (D2 hn _) (ae.cL (Br.F (aa.pq (uD hn rfl zK (F:=λ_=>if b then 18446744073709551615 else 0) (λi _=>by cases b<;>decide) (B:=(b1,.cells #[.bool b] 4 zZ)::B) λi _=>E3 (Go.Sx.At.block (l:=[.bool b]) zM)) ?_)));rintro v N ⟨s,rfl,hw⟩;refine St.p ?_ ?_
 ·have:=bO hw;simpa[Value.oneCell']using this
 refine ay.q ?_;refine GQ.mk (by repeat (first|exact bV.refl _|apply bV.cons|apply bV.app)) ⟨_,rfl,_,⟨s,rfl,hw.mono zS⟩,sF hn,wA (λx hx=>?_) (λx=>rfl)⟩;cases b
 ·exact xcN _
 exact CK (xbC _ zD)
theorem PN{v i:Nat}{p:zV}(hv:v<64)(hi:i<9223372036854775808)(hb:Go.Sx.At B p [iv (v:Int)]):Rd zQ 343 #[iv (i:Int),p] B (· =.int .u64 ((if 6<=v then(if(i>>>(v-6)).testBit 0 then 18446744073709551615 else 0)else ak.mask v:Nat):Int)):=by
 refine aE λg=>HL (Ld.at hb (λ_ h=>h) ?_);exact aa.eq (zN hv zO hi B) (bg.mk (.refl _) rfl)
theorem Ul{n v:Nat}(hn:n<=16)(hv:v<n)(B:Hp):Px zQ 278 #[iv (n:Int),iv (v:Int)] B (λr H=>∃t,r=.tuple #[t,iv 0]/\kz H t n (λx=>x.testBit v)):=by
 refine aE λg=>IC λb1 _ b3 _=>?_;refine aa.eq (D2 hn _) (ae.cL (Br.F (Ld.q ?_)));refine ae.lss ?_;rw[xal zO];refine dc.or (a:=false) false (λ_=>?_) rfl λgs=>Br.no ?_
 ·refine Ld.q ?_;exact ae.tI ⟨rfl,by rw[xal zO]⟩
 have hwl:=ak.yp hn;refine aa.pq (uD hn rfl zK (F:=λi=>if 6<=v then(if(i>>>(v-6)).testBit 0 then 18446744073709551615 else 0)else ak.mask v) (λi _=>by
  have:=ak.ri v;split
  ·split<;>decide
  exact this) (B:=(b1,.cells #[iv (v:Int)] 3 zZ)::B) λi hi=>PN zO zO (Go.Sx.At.block (l:=[iv (v:Int)]) zM)) ?_
 rintro w N ⟨s,rfl,hw⟩;refine St.p ?_ ?_
 ·have:=bO hw;simpa[Value.oneCell']using this
 refine ay.q ?_;refine GQ.mk (by repeat (first|exact bV.refl _|apply bV.cons|apply bV.app)) ⟨_,rfl,_,⟨s,rfl,hw.mono zS⟩,sF hn,wA (λx hx=>?_) (λx=>?_)⟩
 ·have hj:x%64<64:=xbC _ zD;have ajF:x=64*(x/64)+x%64:=by omega
  by_cases h6:6<=v
  ·rw[xae h6];have e:x.testBit v=((x/64)>>>(v-6)).testBit 0:=by
    rw[xbD,xcu];have:=Nat.testBit_div_two_pow (n:=6) x (v-6);rw[show(2:Nat)^6=64 from rfl]at this;rw[this];congr 1;omega
   rw[e];cases ((x/64)>>>(v-6)).testBit 0
   ·exact xcN _
   exact CK hj
  rw[xac h6,ak.gH];have:=xbz x 6 v;rw[show(2:Nat)^6=64 from rfl]at this;rw[this];simp[hj];omega
 rw[xbz];simp[hv]
end
end
section
open aA
section
variable {B:Hp}
theorem o5{n i:Nat}{ws:zL}(hf:ak.eY n ws):ws.getD i 0<18446744073709551616:=by
 by_cases h:i<ws.length
 ·rw[xar,xaa h];exact hf.lt (xaB h)
 rw[xar,xaC zO];decide
theorem rJ{n i:Nat}{ws:zL}(hf:ak.eY n ws)(hi:i<ak.wN n):ws[i]? =some (ws.getD i 0):=by
 rw[xar,xaa (by rw[hf.len];exact hi)];rfl
theorem PU{p1 p2 p3 s1 s2 s3:zV}{n i:Nat}{ws us rs:zL}(h1:Go.Sx.At B p1 [iv (n:Int),s1])(h2:Go.Sx.At B p2 [iv (n:Int),s2])(h3:Go.Sx.At B p3 [iv (n:Int),s3])(hw:Words B s1 ws)(hu:Words B s2 us)(hr:Words B s3 rs)(hf:ak.eY n ws)(hg:ak.eY n us)(hh:ak.eY n rs)(hi:i<ak.wN n):
  Rd zQ 346 #[iv (i:Int),p1,p2,p3] B (· =.int .u64 (((ws.getD i 0&&&us.getD i 0)|||((18446744073709551615-ws.getD i 0) &&&rs.getD i 0):Nat):Int)):=by
 have lw:=o5 (i:=i) hf;have lu:=o5 (i:=i) hg;have lr:=o5 (i:=i) hh;refine aE λg=>HH (ai.at h1 λq hq=>Ld.at hq (λ_ h=>h) ?_);refine hw.1.ld (cP (rJ hf hi)) (λ_ h=>h) ?_;refine ai.at h2 λq hq=>Ld.at hq (λ_ h=>h) ?_;refine hu.1.ld (cP (rJ hg hi)) (λ_ h=>h) ?_;refine ae.jF (by simpa only[bF]using lw) (by simpa only[bF]using lu) (ai.at h1 λq hq=>Ld.at hq (λ_ h=>h) ?_);refine hw.1.ld (cP (rJ hf hi)) (λ_ h=>h) ?_;refine Un.aet lw ?_;refine ai.at h3 λq hq=>Ld.at hq (λ_ h=>h) ?_;refine hr.1.ld (cP (rJ hh hi)) (λ_ h=>h) ?_;exact ae.jF (by simp only[bF];omega) (by simpa only[bF]using lr) (ae.K6 (xaA xcg (by simpa only[bF]using lw)) (xaA xcg (by simp only[bF];omega)) (bg.mk (.refl _) rfl))
theorem aaU{bx n:Nat}{s1 s2 s3:zV}{ws us rs:zL}(h1:Words B s1 ws)(h2:Words B s2 us)(h3:Words B s3 rs):jH ((bx,.cells (rows [[iv (n:Int),s1],[iv (n:Int),s2],[iv (n:Int),s3]]) 116 zZ)::B) (.slice (some ⟨bx,0,none⟩) 3 3) [⟨n,ws⟩,⟨n,us⟩,⟨n,rs⟩]:=by
 refine⟨[[iv (n:Int),s1],[iv (n:Int),s2],[iv (n:Int),s3]],(Sl.q6 (aV.made (T:=116) (k:=2) (b:=bx) _ zI) zD).mono λ_ h=>by simp at h;rw[h];exact .head _,rfl,λi r x hr hx=>?_⟩
 match i with
 |0=>simp at hr hx;subst hr;subst hx;exact⟨s1,rfl,h1.mono λ_ h=>.tail _ h⟩
 |1=>simp at hr hx;subst hr;subst hx;exact⟨s2,rfl,h2.mono λ_ h=>.tail _ h⟩
 |2=>simp at hr hx;subst hr;subst hx;exact⟨s3,rfl,h3.mono λ_ h=>.tail _ h⟩
 |i+3=>simp at hr
theorem Up{v1 v2 v3:zV}{n:Nat}{f1 f2 f3:aA.Fn}(h1:kz B v1 n f1)(h2:kz B v2 n f2)(h3:kz B v3 n f3):Px zQ 279 #[v1,v2,v3] B (λr H=>∃t,r=.tuple #[t,iv 0]/\kz H t n (λx=>if f1 x then f2 x else f3 x)):=by
 obtain⟨ws,⟨s1,rfl,hw⟩,hf,rfl⟩:=h1;obtain⟨us,⟨s2,rfl,hu⟩,hg,rfl⟩:=h2;obtain⟨rs,⟨s3,rfl,hr⟩,hh,rfl⟩:=h3;refine aE λg=>IB λb1 _ b3 _ b5 _ b7 _=>?_;refine ay.q ?_;refine ay.q ?_;refine ay.q ?_;refine au.Yn (e:=116) (z:=.agg #[iv 0,.slice none 0 0]) zK zK zK λbx=>?_;refine aa.rd .here (DM (aaU (n:=n) (hw.mono zS) (hu.mono zS) (hr.mono zS)) (by show 3<2^62;decide)) ?_;rintro w rfl;rw[xan (by
  intro t ht;simp only[xak,xaQ,xbE]at ht;rcases ht with rfl|rfl|rfl
  ·exact⟨⟨by simp,by simpa using hf⟩,rfl⟩
  ·exact⟨⟨by simp,by simpa using hg⟩,rfl⟩
  exact⟨⟨by simp,by simpa using hh⟩,rfl⟩)]
 refine Un.not (Br.no (Ld.f ?_));refine aa.pre (H':=(b7,.cells #[iv 0,.slice none 0 0] 116 zZ)::(b5,.cells #[iv (n:Int),s3] 116 zZ)::(b3,.cells #[iv (n:Int),s2] 116 zZ)::(b1,.cells #[iv (n:Int),s1] 116 zZ)::B) .tail ?_;have ol:∀i,(ws.getD i 0&&&us.getD i 0)|||((18446744073709551615-ws.getD i 0) &&&rs.getD i 0)<18446744073709551616:=λi=>
  xbG (n:=64) (xaA xcg (o5 hf)) (xaA xc7 (o5 hh))
 refine aa.pq (uD hf.xY rfl zK (F:=λi=>(ws.getD i 0&&&us.getD i 0)|||((18446744073709551615-ws.getD i 0) &&&rs.getD i 0)) (λi _=>ol i) (B:=(b5,.cells #[iv (n:Int),s3] 116 zZ)::(b3,.cells #[iv (n:Int),s2] 116 zZ)::(b1,.cells #[iv (n:Int),s1] 116 zZ)::B)
  λi hi=>PU (Go.Sx.At.block (l:=[iv (n:Int),s1]) zM) (Go.Sx.At.block (l:=[iv (n:Int),s2]) zM) (Go.Sx.At.block (l:=[iv (n:Int),s3]) zM) (hw.mono zS) (hu.mono zS) (hr.mono zS) hf hg hh hi) ?_
 rintro w N ⟨s',rfl,eL⟩;refine St.p ?_ ?_
 ·have:=bO eL;simpa[Value.oneCell']using this
 refine ay.q ?_;refine GQ.mk (by repeat (first|exact bV.refl _|apply bV.cons|apply bV.app)) ⟨_,rfl,_,⟨s',rfl,eL.mono zS⟩,sF hf.xY,wA (λx hx=>?_) (λx=>by rw[Be,Be,Be])⟩;rw[xb0,xbh,xbh,U4 (o5 hf) (xbC _ zD),uQ hx,uQ hx,uQ hx];cases pA n ws x<;>cases pA n us x<;>cases pA n rs x<;>rfl
end
end
end Go.Proofs
namespace Go.Sx
open Go
section
variable {P:Program} {g:Gh} {H B:Hp} {c:Hp->Hp}
theorem aN.Yt{x:Nat×Obj}(h:x∈H):aN H [x]:=by
 obtain⟨A,D,rfl⟩:=xde h;exact .fS (aN.left (A:=[x]))
end
end Go.Sx
set_option maxRecDepth 100000
namespace Go.Proofs
open Go Go.Sx
section
open aA
section
variable {kp gb n:Nat} {vr vf:zV} {refs:zL} {fs:List (zL)} {K:Kd} {S:Nat->aA.Fn} {ord ah tr:zL} {C B:Hp}
theorem cc.perm(hK:cc kp K S ord ah tr C):ord.Perm (List.range K.n):=by
 have mU:=hK.od;refine kD ?_ (λx hx=>?_) (by rw[xaJ,mU.len];exact xaj _)
 ·refine List.pairwise_iff_getElem.2 λi j hi hj hij e=>?_;have g1:=(mU.bc i (by rw[<-mU.len];exact hi)).2;have g2:=(mU.bc j (by rw[<-mU.len];exact hj)).2;rw[xar,xaa hi,e]at g1;rw[xar,xaa hj]at g2;omega
 obtain⟨i,hi,rfl⟩:=xa8.1 hx;rw[mU.len]at hi;have:=(mU.bc i hi).1;rw[xar,xaa (by rw[mU.len];exact hi)]at this;exact xaN.2 this
end
end
section
open aA
theorem QD{B:Hp}{v1 v2:zV}{p q:zL}{n:Nat}(h1:dk .i64 B v1 (iw p))(h2:dk .i64 B v2 (iw q))(hp:p.Perm (List.range n))(hq:q.Perm (List.range n))(hn:n<=64):
  Fc zQ 284 #[v1,v2] B (λr H=>∃s C,r=.tuple #[s,iv 0]/\H=C++B/\aO 3 .i64 s (iw (path p q)) C):=by
 have e1:p.length=n:=by rw[hp.length_eq,xaJ]
 have e2:q.length=n:=by rw[hq.length_eq,xaJ]
 have fc:q.Nodup:=hq.nodup_iff.2 xbj;have hpq:=hp.trans hq.symm;refine aE λg=>Ix (aa.eq (WD h1 h2 hp hq hn) (ae.cL (Br.F (aa.fq (wM h1 (by rw[aq];omega)) ?_))));rintro va H ⟨CA,rfl,hA⟩;refine h2.bP ?_;rw[aq];refine⟨λvs H=>∃(i:Nat) (w9:zV) (C N:Hp),vs=[w9,iv (i:Int)]/\i<=n/\H=C++(N++B)/\aO 3 .i64 w9 (iw (ef p q i)) C/\aO 3 .i64 va (iw (az p (ef p q i))) N,λvs _=>n-bJ vs 1,
  JE.mk ⟨0,_,[],CA,rfl,xaM _,rfl,aO.nil,hA⟩,?_⟩
 rintro w9 w10 H ⟨i,u9,C,N,⟨⟩,hi,rfl,ho,hw⟩ gs;refine ae.eZ (Br.dec (λhlt=>?_) (λhlt=>?_));rotate_left
 ·obtain rfl:i=q.length:=by omega
  exact aM.mk (.cU .right _) ⟨w9,C,rfl,rfl,ho⟩
 have spec:=jT fc hpq i zO;obtain⟨s1,s2,s3⟩:=spec;obtain⟨s4,s5⟩:=s3 hlt;have ahQ:=sB fc hpq (i+1) zO;have qK:(i+1)*p.length<=64*64:=xbP zO zO;refine h2.ld (n:=((q.getD i 0:Nat):Int)) (bH hlt) (λ_ h=>xab _ (xab _ h)) ?_;have hmem:q.getD i 0∈az p (ef p q i):=by
  have:q.getD i 0∈q:=by rw[xar,xaa hlt];exact xaB _
  exact((lf s1).trans hpq).mem_iff.2 this
 refine aa.eq (ME hw.ints (by rw[aq,fQ];omega)) ?_;rw[xae (QY.2 hmem),YH];refine⟨λvs H=>∃(j:Nat) (u9:zV) (P:zL) (C N:Hp),vs=[u9,iv (j:Int)]/\i<=j/\j<n/\P++GB i j=ef p q (i+1)/\H=C++(N++B)/\aO 3 .i64 u9 (iw P) C/\aO 3 .i64 va (iw (az p P)) N,λvs _=>bJ vs 1,
  JE.mk ⟨plc (az p (ef p q i)) (q.getD i 0),w9,ef p q i,C,N,rfl,s4,by omega,rfl,rfl,ho,hw⟩,?_⟩
 rintro w22 w23 H ⟨j,u9,P,C2,N2,⟨⟩,hij,TX,hP,rfl,tD,pJ⟩ gs;refine ae.ny (Br.dec (λhgt=>?_) (λhgt=>?_))
 ·obtain⟨j,rfl⟩:∃k,j=k+1:=⟨j-1,by omega⟩;have hPl:P.length<=4096:=by
   have:=xcb List.length hP;rw[xaf]at this;omega
  have hlen:(az p P).length=n:=by rw[fQ,e1]
  refine DR.self (ae.bY (b:=1) ?_);rw[xb5];refine pJ.ld (x:=(((az p P).getD (j+1) 0:Nat):Int)) (bH zO) (λ_ h=>xab _ (xad _ h)) (ae.bY (b:=1) ?_);rw[xb5];refine pJ.ld (x:=(((az p P).getD j 0:Nat):Int)) (bH zO) (λ_ h=>xab _ (xad _ h)) (pJ.nt (x:=(((az p P).getD (j+1) 0:Nat):Int)) (.app .left) (by rw[aq];omega) λN3 Vz=>?_);refine Vz.nt (x:=(((az p P).getD j 0:Nat):Int)) (.app .left) (by rw[xbQ,aq];omega) λN4 hw4=>?_;have e:((iw (az p P)).set j (((az p P).getD (j+1) 0:Nat):Int)).set (j+1) (((az p P).getD j 0:Nat):Int)=iw (az p (P++[j])):=by
   rw[gA];unfold fR;rw[fi,fi]
  rw[e]at hw4;refine ae.bY (b:=1) ?_;rw[xb5];refine au.int (e:=3) zK zK zK λbx=>?_;refine tD.pC (.cons .left) (by exact .head _) (by rw[aq];omega) (by rw[aq];omega) λv' C3 Dw=>?_;refine ae.bY (b:=1) ?_;rw[xb5];refine aC.of .tail ⟨j,v',P++[j],C3,N4,rfl,by omega,by omega,?_,rfl,by rw[cg];exact Dw,hw4⟩ ?_
  ·rw[<-hP,rT (show i<=j by omega),xai];rfl
  simp only[bJ];omega
 obtain rfl:j=i:=by omega
 rw[Bn (xaj _),xaL]at hP;subst hP;exact ae.inc (aC.of (.refl _) ⟨j+1,w22,C2,N2,rfl,by omega,rfl,tD,pJ⟩ (by simp only[bJ];omega))
def wk(b kp f d:Nat)(ok:Bool):Nat×Obj:=(b,.cells #[ptr kp,iv (f:Int),iv (d:Int),.bool ok] 417 zZ)
section
variable {kp b f d:Nat} {K:Kd} {S:Nat->aA.Fn} {ord tr:zL} {C:Hp}
theorem Mh(h:At kp K S ord tr C):Fc zQ 352 #[ptr kp] C (λr H=>∃b,r=ptr b/\H=wk b kp tr.length 0 false::C):=by
 refine aE λg=>HA (aa.eq (rU h) (Build.mk (cs:=[ptr kp,iv ((tr.length:Nat):Int),iv 0,.bool false]) zK ?_));intro b _;exact aM.here ⟨b,rfl,rfl⟩
theorem PC(h:At kp K S ord tr C){l:Nat}(hl:l+1<K.n)(eM:tr.length<17592186044416)(hf:jc K S ord l)(hd:d<4611686018427387904):
  Fc zQ 355 #[ptr b,iv (l:Int)] (wk b kp f d false::C) (λr H=>r=iv 0/\∃C',H=wk b kp f (d+1) false::C'/\At kp K S (fR ord l) (tr++[l]) C'):=by
 refine aE λg=>xl (Ld.n ?_);refine aa.fq (uO h hl eM hf) ?_;rintro v C' ⟨rfl,h'⟩;intro J hJ;refine ae.ik (Br.T (Ld.n ?_));refine ae.inc (Nil.ptr (ai.mk (St.one (by exact .head _) rfl zI rfl ?_)));exact JE.mk (hJ _ λgs=>aM.here ⟨rfl,C',rfl,h'⟩)
theorem PD(h:At kp K S ord tr C){l:Nat}(hl:l+1<K.n)(eM:tr.length<17592186044416)(hf:¬jc K S ord l):
  Rd zQ 355 #[ptr b,iv (l:Int)] (wk b kp f d false::C) (· =iv 9):=by
 refine aE λg=>xl (Ld.n ?_);refine aa.eq (m5 h hl eM hf) λJ hJ=>?_;exact ae.ik (Br.F (JE.mk (hJ _ λgs=>bg.mk (.refl _) rfl)))
theorem PF{ok:Bool}{path:zL}(h:At kp K S (az ord path) (tr++path) C)(hp:∀l∈path,l+1<K.n)(eM:(tr++path).length<17592186044416)(hd:d<4611686018427387904):
  Fc zQ 390 #[ptr b] (wk b kp tr.length d ok::C) (λr H=>r=.tuple #[]/\∃C',H=wk b kp tr.length (d+path.length) ok::C'/\At kp K S ord tr C'):=by
 have ze:path.length<17592186044416:=by rw[xaf]at eM;omega
 refine aE λg=>G4 (DR.of (R:=[wk b kp tr.length d ok]) (aN.left (A:=[_]) (B:=C)) (Ld.n ?_));refine Ld.n ?_;refine aa.fq (args:=#[ptr kp,iv ((tr.length+0:Nat):Int)]) (LR h hp (xaM _) eM) ?_;rintro v C' ⟨rfl,h'⟩;rw[xdM,xaL]at h';refine⟨aN.left (A:=[_]) (B:=C'),?_⟩;refine Ext.two (Ld.n ?_);refine ae.fH (Nil.ptr (ai.mk (St.one (by exact .head _) rfl zI rfl ?_)));exact aM.here ⟨rfl,C',rfl,h'⟩
theorem Md:Rd zQ 354 #[ptr b] (wk b kp f d true::C) (· =.tuple #[]):=by
 refine aE λg=>xm (Ld.n ?_);exact Un.not (Br.no (bg.mk (.refl _) rfl))
theorem Me{path:zL}(h:At kp K S (az ord path) (tr++path) C)(hp:∀l∈path,l+1<K.n)(eM:(tr++path).length<17592186044416)(hd:d<4611686018427387904):
  Fc zQ 354 #[ptr b] (wk b kp tr.length d false::C) (λr H=>r=.tuple #[]/\∃C',H=wk b kp tr.length (d+path.length) false::C'/\At kp K S ord tr C'):=by
 refine aE λg=>xm (Ld.n ?_);refine Un.not (Br.yes (aa.fq (PF h hp eM hd) ?_));rintro v H ⟨rfl,C',rfl,h'⟩;exact aM.here ⟨rfl,C',rfl,h'⟩
theorem Eg(h:At kp K S ord tr C){v:Nat}(hv:v<K.n):Rd zQ 150 #[ptr kp,iv (v:Int)] C (λr=>∃p,p<K.n/\ord.getD p 0=v/\r=.tuple #[iv (p:Int),iv 0]):=by
 obtain⟨K',S',bW,h,hk⟩:=h;obtain⟨b,rfl,hO⟩:=h.rep;have hn:=hO.lB;have nX:v<K'.n:=by rw[hk.n];exact hv
 have hlen:v<bW.length:=by rw[hO.ol.2];exact nX
 refine aE λg=>qG (ae.aH (Br.no (aa.eq (rz h.rep (v:Int)) ?_)));rw[xan zO];refine Un.not (Br.no (Ld.n ?_));refine hO.lv.ld (x:=((bW.getD v 0:Nat):Int)) (bH hlen) (bG.sub (.cons (.app (.app (.app (.app (.app .left))))))) (bg.mk (.refl _) ⟨bW.getD v 0,?_,?_,rfl⟩)
 ·rw[<-hk.n];exact h.ok.lv.lt v nX
 exact h.od.of h.ok.lv nX
theorem Ef(h:At kp K S ord tr C){v:Int}(hv:v<0\/(K.n:Int)<=v):Rd zQ 150 #[ptr kp,iv v] C (· =.tuple #[iv 0,iv 2]):=by
 obtain⟨K',S',bW,h,hk⟩:=h;have hn:=hk.n;refine aE λg=>qG (ae.aH (Br.no (aa.eq (rz h.rep v) ?_)));rw[xal zO];exact Un.not (Br.yes (bg.mk (.refl _) rfl))
def L0(kp:Nat)(K:Kd)(S:Nat->aA.Fn)(ord tr ls:zL)(r:zV)(C:Hp):Prop:=
 ((rm K S).can ord ls=true/\r=.tuple #[iv ((ls.length:Nat):Int),iv 0]/\At kp K S (az ord ls) (tr++ls) C)\/
 ((rm K S).can ord ls=false/\r=.tuple #[iv ((2*((rm K S).dJ 0 ls ord).length:Nat):Int),iv 9]/\At kp K S ord tr C)
theorem Vc{Y:Hp}{v:zV}{ls:zL}(h:At kp K S ord tr C)(hI:dk .i64 Y v (iw ls))(hp:∀l∈ls,l+1<K.n)(eM:tr.length+ls.length<17592186044416):
  Fc zQ 285 #[ptr kp,v] (Y++C) (λr H=>∃C',H=Y++C'/\L0 kp K S ord tr ls r C'):=by
 let m:=rm K S
 have hgl:=m.l7 0 ls ord;have hpt:∀i,∀l∈ls.take i,l+1<K.n:=λi l hl=>hp l (xcD hl);refine aE λg=>Iw λb1 _=>?_;refine aa.fq (Mh h) ?_;rintro v3 H ⟨b,rfl,rfl⟩;intro b5 _;refine St.one (by exact .head _) rfl zI rfl ?_;refine hI.bP ?_;rw[aq];refine⟨λvs H=>∃i C2,i<=(m.dJ 0 ls ord).length/\vs=[iv (i:Int)]/\H=(b5,.cells #[ptr b] 414 zZ)::(b1,.cells #[iv 0] 3 zZ)::(Y++(wk b kp tr.length i false::C2))/\At kp K S (az ord (ls.take i)) (tr++ls.take i) C2,
  λvs _=>ls.length-bJ vs 0,JE.mk ⟨0,C,xaM _,rfl,rfl,by simpa[az]using h⟩,?_⟩
 rintro w13 H ⟨i,C2,hi,⟨⟩,rfl,h2⟩ gs;have zf:(tr++ls.take i).length<17592186044416:=by rw[xaf,xbB];omega
 refine ae.eZ (Br.dec (λhlt=>?_) (λhlt=>?_))
 ·refine hI.ld (n:=((ls.getD i 0:Nat):Int)) (bH hlt) (λ_ h=>.tail _ (.tail _ (xad _ h))) ?_;have eg:ls.getD i 0=ls[i]:=by rw[xar,xaa hlt];rfl
  have Dz:ls.getD i 0+1<K.n:=by rw[eg];exact hp _ (xaB hlt)
  have eq:ls[i]? =some (ls.getD i 0):=by rw[eg];exact xaa hlt
  refine Ld.q ?_;by_cases hg:i<(m.dJ 0 ls ord).length
  ·have hf:jc K S (az ord (ls.take i)) (ls.getD i 0):=qe.1 (m.Ss hg eq);refine aa.fn (.cons (.cons (.app .here))) (PC h2 Dz zf hf zO) ?_;rintro r H ⟨rfl,C3,rfl,h3⟩;refine ae.cL (Br.F (ae.inc (aC.mk ⟨i+1,C3,hg,rfl,rfl,?_⟩ (by simp only[bJ];omega))));have e:ls.take (i+1)=ls.take i++[ls.getD i 0]:=by rw[xbo,eq];rfl
   rw[e,gA,<-xai];exact h3
  obtain rfl:i=(m.dJ 0 ls ord).length:=by omega
  have hf:¬jc K S (az ord (ls.take (m.dJ 0 ls ord).length)) (ls.getD (m.dJ 0 ls ord).length 0):=λhf=>by
   have h8:=m.NJ eq;have h9:=qe.2 hf;rw[show(rm K S).fit _ _=false from h8]at h9;cases h9
  refine aa.eq (PD h2 Dz zf hf) (ae.cL (Br.T (St.one (by exact .tail (.head _)) rfl zI rfl ?_)));refine tX (R:=_) ?_;unfold L353;refine Ld.q ?_;refine aa.fn (.cons (.cons (.app .here))) (Me h2 (hpt _) zf zO) ?_;rintro r H ⟨rfl,C3,rfl,h3⟩;refine Ld.q ?_;have eD:(m.dJ 0 ls ord).length+(ls.take (m.dJ 0 ls ord).length).length=2*(m.dJ 0 ls ord).length:=by rw[xbB];omega
  rw[eD];refine Ld.n ?_;refine St.one (by exact .tail (.head _)) rfl zI rfl ?_;refine⟨⟨_,rfl⟩,?_⟩;refine Ld.q ?_;refine aM.mk (.skip (.skip (.cU .tail _))) ⟨C3,rfl,.inr ⟨xal (show¬(m.dJ 0 ls ord).length=ls.length by omega),rfl,h3⟩⟩
 have RO:i=ls.length:=by omega
 subst RO;rw[xba]at h2;have hcan:(rm K S).can ord ls=true:=xan (show(m.dJ 0 ls ord).length=ls.length by omega);refine Ld.q ?_;refine Nil.ptr (ai.mk (St.one (c6.tail (c6.tail (c6.ca (.head _) _))) rfl zI rfl ?_));refine St.one (by exact .tail (.head _)) rfl zI rfl ?_;refine tX (R:=_) ?_;unfold L353;refine Ld.q ?_;refine aa.eq (B:=wk b kp tr.length ls.length true::C2) Md (Ld.q ?_);refine Ld.n ?_;refine St.one (by exact .tail (.head _)) rfl zI rfl ?_;refine⟨⟨_,rfl⟩,?_⟩;refine Ld.q ?_;refine aM.mk (.skip (.skip (.cU .tail _))) ⟨C2,rfl,.inl ⟨hcan,rfl,h2⟩⟩
end
section
variable {kp b f d:Nat} {K:Kd} {S:Nat->aA.Fn} {ord tr:zL} {C:Hp}
theorem L0.tup{ls:zL}{r:zV}(h:L0 kp K S ord tr ls r C):∃x y,r=.tuple #[x,y]:=by
 rcases h with⟨_,rfl,_⟩|⟨_,rfl,_⟩<;>exact⟨_,_,rfl⟩
theorem QO{Y:Hp}{v:zV}{q:zL}(h:At kp K S ord tr C)(hI:dk .i64 Y v (iw q))(YT:ord.Perm (List.range K.n))(hpq:q.Perm (List.range K.n))(eM:tr.length<17454747090944):
  Fc zQ 195 #[ptr kp,v] (Y++C) (λr H=>∃C',H=Y++C'/\L0 kp K S ord tr (path ord q) r C'):=by
 have hn:=h.lB;have EF:ord.length=K.n:=by rw[YT.length_eq,xaJ]
 have hql:q.length=K.n:=by rw[hpq.length_eq,xaJ]
 have fc:q.Nodup:=hpq.nodup_iff.2 xbj;refine aE λg=>Jq (ae.aH (Br.no ?_));intro J2 BQ;refine aa.rq (sA hI (by rw[aq];omega)) ?_;rintro r (⟨rfl,ha,hl⟩|⟨_,_,hl⟩|⟨_,hno⟩);rotate_left
 ·rw[aq]at hl;omega
 ·exact absurd (wZ hpq) hno
 refine ae.cL (Split.go zD ?_);refine hI.bP (aa.eq (m4 h) (ae.AQ ?_));rw[xal (by rw[aq];omega)];refine aL.mk (JE.mk (BQ _ _ λgs=>Br.no ?_));refine aa.fq (Tm h) ?_;rintro vo H ⟨N,rfl,ho⟩;refine aa.pre (H':=(N++Y)++C) (.perm (by rw[xai,<-xai,<-xai];exact xbb.append_right C)) (aa.fq (QD (ho.ints.mono λ_ h=>xad _ h) (hI.mono λ_ h=>xab _ h) YT hpq hn) ?_);rintro r H ⟨s,CP,rfl,rfl,hP⟩;refine Ext.mk rfl (Ext.mk rfl (ae.cL (Br.F ?_)));obtain⟨_,ze⟩:=AN fc (YT.trans hpq.symm);have ahP:(path ord q).length<=4096:=by
  have:=sB fc (YT.trans hpq.symm) q.length (xaj _);have h2:q.length*ord.length<=64*64:=xbP zO zO;unfold path;omega
 refine aa.fq (Vc h (hP.ints.mono λ_ h=>xad _ h) (λx hx=>by have:=ze x hx;omega) zO) ?_;rintro r H ⟨C',rfl,hM⟩;obtain⟨x,y,rfl⟩:=hM.tup;refine Ext.two (aM.mk ?_ ⟨C',rfl,hM⟩);rw[xai,xai];exact aN.right.trans .right
def Vj(p:Nat):Nat->Nat->Nat
 |0,_=>p
 |_,k=>p-k
def Nw(n p:Nat):Nat->Nat->Nat
 |0,k=>p+k
 |_,_=>n-1
end
end
end Go.Proofs
namespace aA
theorem sq{p j:Nat}(h:p<=j):road p (j+1)=road p j++[j]:=by
 unfold road;rw[show p-(j+1)=0 by omega,show p-j=0 by omega,show j+1-p=(j-p)+1 by omega,List.range'_concat];simp;omega
theorem sr{p j:Nat}(h:j<p):road p j=road p (j+1)++[j]:=by
 unfold road;rw[show j-p=0 by omega,show j+1-p=0 by omega,show p-j=(p-(j+1))+1 by omega,List.range'_succ];simp
theorem gB(p:Nat):road p p=[]:=by unfold road;simp
end aA
set_option maxRecDepth 100000
namespace Go.Proofs
open Go Go.Sx
open aA
section
variable {kp gb n:Nat} {vr vf:zV} {refs:zL} {fs:List (zL)} {K:Kd} {S:Nat->aA.Fn} {ord tr:zL} {C Z:Hp}
theorem KW{ord:zL}(hp:ord.Perm (List.range n)):∀i,i<n->ord.getD i 0<n:=λi hi=>by
 have EF:ord.length=n:=by rw[hp.length_eq,xaJ]
 have:ord.getD i 0∈ord:=by rw[xar,xaa zO];exact xaB _
 exact xaN.1 (hp.mem_iff.1 this)
end
end Go.Proofs
namespace Go.Sx
open Go Go.ChangeShapes Go.WideShapes Go.Deep
section
variable {H:Type} {enc:TypeId×zV->H} {P:Program} {W:World} {base:Nat} {spare:Nat->Bool} {held:Bool}
theorem ta(a:Addr)(n:Nat):(a.add n).block=a.block:=by unfold Addr.add;split<;>rfl
theorem Bv(a:Addr)(n:Nat):(a.add n).off=a.off+n:=by unfold Addr.add;split<;>simp_all
theorem kL{b:Nat}{a:Addr}{k:Nat}{cs:List zV}(hk:0<k)(h:W.cells? b a k=some cs):
  a.spot=none/\∃c T fz,W.heap[a.block]? =some (.cells c T fz)/\a.off+k<=c.size/\c.extract a.off (a.off+k)=cs.toArray:=by
 obtain⟨_,hl,hg⟩:=World.cells?_some h;have h0:=hg 0 hk;have hc0:W.cell? a=some (cs[0]' zO):=by
  have:a.add 0=a:=by simp[Addr.add]
  rw[this]at h0;rw[h0];exact xaa zO
 unfold World.cell? at hc0;split at hc0
 ·rename_i c T fz hb;cases hs:a.spot with
  |some s=>rw[hs]at hc0;simp at hc0
  |none=>
   have hcell:∀i,i<k->c[a.off+i]? =cs[i]? :=λi hi=>by
    have:=hg i hi;unfold World.cell? at this;rw[ta,hb]at this;simp only[Bv]at this;have hsp:(a.add i).spot.isSome=false:=by unfold Addr.add;split<;>simp[hs]
    rw[hsp]at this;simpa using this
   have hsz:a.off+k<=c.size:=by
    have:=hcell (k-1) zO;rw[xaa zO]at this;have:=(xaU.1 this).1;omega
   refine⟨rfl,c,T,fz,hb,hsz,?_⟩;apply Array.ext_getElem?;intro i;rw[xdj];by_cases hi:i<k
   ·rw[xae zO,hcell i hi];simp
   rw[xac zO];simp;omega
 simp at hc0
theorem aaj{t e:TypeId}{v:zV}{d:DataW H}{ps:List MemPlace}{r:Reach}{b0 k:Nat}(ht:P.underlying t=some (.slice e))(hk:P.cellsOf e=k)(Zb:0<k)(hv:Value.okWide P W r b0 t v)(h:DataW.Trod enc P W base spare held t v d ps):
  (v=.slice none 0 0/\d=.nil)\/∃(a:Addr) (n cap:Nat) (es sp:List (DataW H)),v=.slice (some a) n cap/\d=.slice es sp/\es.length=n/\n<=cap/\
   ∀i,i<n->∃c T fz cs,a.spot=none/\(a.block,Obj.cells c T fz)∈whole W/\a.off+i*k+k<=c.size/\c.extract (a.off+i*k) (a.off+i*k+k)=cs.toArray/\∃fuel y,DataW.trod enc P W base spare held fuel e cs=some y/\cs.length=k:=by
 obtain⟨a0,n0,c0,rfl⟩:=okWide_slice ht hv;obtain⟨fuel,hf⟩:=h;rcases open_slice ht hf with⟨h1,h2⟩|⟨a,len,cap,m,n,D,Pl,hcs,hb,hl,hm,x7,hx,hi⟩
 ·left;simp only[Value.cells,xau,xa1]at h1;simp only[xdx]at h2;exact⟨by simpa using h1,h2.1⟩
 right;simp only[xdx]at hx;have nX:Value.slice a0 n0 c0=.slice (some a) len cap:=by simpa[Value.cells]using hcs
 have hlm:len<=m:=by rw[x7];split<;>omega
 refine⟨a,len,cap,_,_,nX,hx.1,by simp,hl,λi hin=>?_⟩;have hkk:=hk;have Dt:a.spot=none:=by
  obtain⟨cs0,hc0,_⟩:=hi 0 zO;rw[hk]at hc0;rw[show a.add (0*k)=a by simp[Addr.add]]at hc0;exact(kL Zb hc0).1
 obtain⟨cs,hc,hd⟩:=hi i zO;rw[hk]at hc;obtain⟨_,hlen,_⟩:=World.cells?_some hc;obtain⟨_,c,T,fz,h1,h2,h3⟩:=kL Zb hc;rw[ta]at h1;rw[Bv]at h2 h3;exact⟨c,T,fz,cs,Dt,yQ h1,h2,h3,n,_,hd,hlen⟩
theorem yu{t e:TypeId}{cs:List zV}{x:DataW H×List MemPlace}{fuel k:Nat}(ht:P.underlying t=some (.slice e))(hk:P.cellsOf e=k)(Zb:0<k)(h:DataW.trod enc P W base spare held fuel t cs=some x):
  ∃(v:zV) (rs:List (List zV)),cs=[v]/\Sl k (whole W) v rs/\((rs=[]/\x.1=.nil)\/∃es sp,x.1=.slice es sp/\es.length=rs.length)/\
   ∀(i:Nat) (r:List zV),rs[i]? =some r->∃(fuel:Nat) (y:DataW H×List MemPlace) (es sp:List (DataW H)),DataW.trod enc P W base spare held fuel e r=some y/\x.1=.slice es sp/\es[i]? =some y.1:=by
 rcases open_slice ht h with⟨h1,h2⟩|⟨a,len,cap,m,n,D,Pl,hcs,hb,hl,hm,x7,hx,hi⟩
 ·exact⟨_,[],h1,Sl.nil _ _,.inl ⟨rfl,by rw[h2]⟩,λi r hr=>by simp at hr⟩
 have hlm:len<=m:=by rw[x7];split<;>omega
 have hex:∃rs:List (List zV),rs.length=len/\∀i r,rs[i]? =some r->W.cells? base (a.add (i*k)) k=some r/\DataW.trod enc P W base spare held n e r=some (D i,Pl i):=by
  clear hcs hx hl x7;induction len with
  |zero=>exact⟨[],rfl,λi r hr=>by simp at hr⟩
  |succ len ih=>
   obtain⟨rs,h1,h2⟩:=ih zO;obtain⟨r,h3,h4⟩:=hi len zO;rw[hk]at h3;refine⟨rs++[r],by simp[h1],λi r' hr=>?_⟩;by_cases hlt:i<rs.length
   ·rw[xaX hlt]at hr;exact h2 i r' hr
   rw[xbO zO]at hr;have F8:i-rs.length=0:=by
    by_cases e:i-rs.length=0
    ·exact e
    rw[xaC zP]at hr;cases hr
   rw[F8]at hr;simp only[xcL,xaq]at hr;subst hr;obtain rfl:i=len:=by omega
   exact⟨h3,h4⟩
 obtain⟨rs,Dv,Du⟩:=hex;have aI:∀r∈rs,r.length=k:=λr hr=>by
  obtain⟨i,hi,e⟩:=xa8.1 hr;obtain⟨hc,_⟩:=Du i r (by rw[xaa hi,e]);exact(World.cells?_some hc).2.1
 refine⟨.slice (some a) len cap,rs,hcs,⟨aI,?_⟩,.inr ⟨_,_,by rw[hx],by simp[Dv]⟩,λi r hr=>?_⟩
 ·cases rs with
  |nil=>exact .inl ⟨some a,cap,by rw[<-Dv];rfl,rfl⟩
  |cons r0 rest=>
   right;obtain⟨hc0,_⟩:=Du 0 r0 rfl;obtain⟨Dt,c,T,fz,hb0,_,_⟩:=kL Zb hc0;rw[show a.add (0*k)=a by simp[Addr.add]]at Dt hb0;obtain⟨ab,ao,asp⟩:=a;simp only at Dt hb0;subst Dt;have acp:∀i r,(r0::rest)[i]? =some r->ao+i*k+k<=c.size/\c.extract (ao+i*k) (ao+i*k+k)=r.toArray:=λi r hr=>by
    obtain⟨hc,_⟩:=Du i r hr;obtain⟨_,c',T',fz',h1,h2,h3⟩:=kL Zb hc;rw[ta]at h1;rw[Bv]at h2 h3;simp only at h1 h2 h3;rw[hb0]at h1;simp only[xaq,Obj.cells.injEq]at h1;obtain⟨rfl,_,_⟩:=h1;exact⟨h2,h3⟩
   refine⟨ab,ao,cap,c,T,fz,by rw[Dv],by omega,yQ hb0,?_,λi r hr j v hj=>?_⟩
   ·have abX:=acp (rest.length) ((r0::rest)[rest.length]' zI) (xaa zI);have:=abX.1;simp only[xaw,xbq];omega
   obtain⟨h1,h2⟩:=acp i r hr;have VU:j<k:=by
    have:=(xah.1 hj).1;rw[aI r (xax hr)]at this;exact this
   have h3:=xcb (λz:Array zV=>z[j]?) h2;simp only[xdj,xdq]at h3;rw[hj]at h3;rw[<-h3,xae zO]
 obtain⟨_,hd⟩:=Du i r hr;have RO:i<len:=by rw[<-Dv];exact(xah.1 hr).1
 exact⟨n,_,_,_,hd,by rw[hx],by simp[RO]⟩
theorem Mw{t e:TypeId}{q:IntKind}{cs:List zV}{x:DataW H×List MemPlace}{fuel:Nat}(ht:P.underlying t=some (.slice e))(he:P.underlying e=some (.int q))(hk:P.cellsOf e=1)(h:DataW.trod enc P W base spare held fuel t cs=some x):
  ∃(v:zV) (l:List Int),cs=[v]/\dk q (whole W) v l/\(∀n∈l,(Lit.int q n).wf=true)/\((l=[]/\x.1=.nil)\/∃es sp,x.1=.slice es sp/\es.length=l.length):=by
 obtain⟨v,rs,hcs,RC,hx,hr⟩:=yu ht hk zD h;have hone:∀r∈rs,∃n,r=[.int q n]/\(Lit.int q n).wf=true:=λr hm=>by
  obtain⟨i,hi,e⟩:=xa8.1 hm;obtain⟨f,y,_,_,hy,_⟩:=hr i r (by rw[xaa hi,e]);obtain⟨n,h1,_,h2⟩:=DataW.trod_int he hy;exact⟨n,h1,h2⟩
 have hex:∃l:List Int,rs=l.map (λn=>[Value.int q n])/\∀n∈l,(Lit.int q n).wf=true:=by
  clear RC hx hr hcs;induction rs with
  |nil=>exact⟨[],rfl,by simp⟩
  |cons r rest ih=>
   obtain⟨l,h1,h2⟩:=ih λr hm=>hone r (by simp[hm]);obtain⟨n,h3,h4⟩:=hone r zI;exact⟨n::l,by simp[h1,h3],λm hm=>by rcases xak.1 hm with rfl|hm;exact h4;exact h2 m hm⟩
 obtain⟨l,rfl,hwf⟩:=hex;refine⟨v,l,hcs,RC,hwf,?_⟩;rcases hx with⟨h1,h2⟩|⟨es,sp,h1,h2⟩
 ·exact .inl ⟨by simpa using h1,h2⟩
 exact .inr ⟨es,sp,h1,by simpa using h2⟩
end
end Go.Sx
set_option maxRecDepth 100000
namespace Go.Proofs
open Go Go.Sx
section
open Go.ChangeShapes Go.WideShapes Go.Deep
variable {H:Type} {enc:TypeId×zV->H} {W:World} {base:Nat} {spare:Nat->Bool} {held:Bool}
theorem Vn{f:FuncId}{args:Array zV}{W:World}(h:Rd zQ f args (whole W) (· =.bool true)):
  Calls zQ f args W λe W'=>e=.returned (.bool true)/\Go.RowKit.Below W.heap.size W W':=
 Yz (h.mono λ_ _ ⟨h1,h2⟩=>⟨by rw[h1];exact .refl _,h2⟩)
end
end Go.Proofs
namespace aA
def Rm.ED(m:Rm)(g:Nat)(ord:zL)(p:Nat)(dn:Bool):Nat->Nat->Nat->Nat->Nat×Nat×Nat
 |0,j,b,q=>(j,b,q)
 |k+1,j,b,q=>
  if m.fit (az ord (road p j)) (bif dn then j else j-1)=true then
   if(if m.size (az ord (road p (bif dn then j+1 else j-1)))<b then m.size (az ord (road p (bif dn then j+1 else j-1)))else b)*g<m.size (az ord (road p (bif dn then j+1 else j-1)))*100 then
    (bif dn then j+1 else j-1,if m.size (az ord (road p (bif dn then j+1 else j-1)))<b then m.size (az ord (road p (bif dn then j+1 else j-1)))else b,if m.size (az ord (road p (bif dn then j+1 else j-1)))<b then(bif dn then j+1 else j-1)else q)
   else m.ED g ord p dn k (bif dn then j+1 else j-1) (if m.size (az ord (road p (bif dn then j+1 else j-1)))<b then m.size (az ord (road p (bif dn then j+1 else j-1)))else b) (if m.size (az ord (road p (bif dn then j+1 else j-1)))<b then(bif dn then j+1 else j-1)else q)
  else(j,b,q)
def dst(x y:Nat):Nat:=(x-y)+(y-x)
def Rm.rest(m:Rm)(dn:Bool)(j:Nat):Nat:=bif dn then m.n-1-j else j
def Rm.sj(m:Rm)(g:Nat)(ord:zL)(p:Nat):Nat×Nat:=
 let dn:=decide (m.n-1-p<=p)
 let a:=m.ED g ord p dn (m.rest dn p) p (m.size ord) p
 let b:=m.ED g ord p (!dn) (m.rest (!dn) p) p a.2.1 a.2.2
 (b.2.2,dst a.1 p+dst a.1 p+dst b.1 p+if b.2.2≠a.2.2 then dst b.1 b.2.2 else dst b.1 p+dst p b.2.2)
def Rm.cr(m:Rm)(g:Nat)(ord:zL):zL->zL×Nat
 | []=>([],0)
 |v::r=>let p:=ord.idxOf v;let a:=m.sj g ord p;let b:=m.cr g (az ord (road p a.1)) r;(road p a.1++b.1,a.2+b.2)
structure adt(m:Rm)(ord:zL)(p:Nat)(dn:Bool)(k j b q:Nat)(r:Nat×Nat×Nat):Prop where
 way:bif dn then j<=r.1/\r.1<=j+k else r.1<=j/\j<=r.1+k
 size:r.2.1=m.size (az ord (road p r.2.2))
 new:(r.2.1=b/\r.2.2=q)\/(r.2.1<b/\bif dn then j<r.2.2/\r.2.2<=r.1 else r.1<=r.2.2/\r.2.2<j)
 fit:∀i,(bif dn then j<=i/\i<r.1 else r.1<i/\i<=j)->m.fit (az ord (road p i)) (bif dn then i else i-1)=true
theorem Rm.vV(m:Rm)(g:Nat)(ord:zL)(p:Nat)(dn:Bool):∀k j b q,(dn=false->k<=j)->b=m.size (az ord (road p q))->adt m ord p dn k j b q (m.ED g ord p dn k j b q)
 |0,j,b,q,hk,hb=>⟨by cases dn<;>simp[ED],hb,.inl ⟨rfl,rfl⟩,λi hi=>by cases dn<;>simp[ED]at hi<;>omega⟩
 |k+1,j,b,q,hk,hb=>by
  rw[ED];by_cases hf:m.fit (az ord (road p j)) (bif dn then j else j-1)=true
  ·rw[xae hf];obtain⟨J,hJ⟩:∃J,J=bif dn then j+1 else j-1:=⟨_,rfl⟩;rw[<-hJ];obtain⟨s,hs⟩:∃s,s=m.size (az ord (road p J)):=⟨_,rfl⟩;rw[<-hs];obtain⟨B,hB⟩:∃B,B=if s<b then s else b:=⟨_,rfl⟩
   obtain⟨Q,hQ⟩:∃Q,Q=if s<b then J else q:=⟨_,rfl⟩
   rw[<-hB,<-hQ];have hbq:(B=b/\Q=q)\/(B<b/\Q=J):=by
    by_cases h:s<b
    ·rw[xae h]at hB hQ;exact .inr ⟨by omega,hQ⟩
    rw[xac h]at hB hQ;exact .inl ⟨hB,hQ⟩
   have hb':B=m.size (az ord (road p Q)):=by
    by_cases h:s<b
    ·rw[xae h]at hB hQ;rw[hB,hQ,hs]
    rw[xac h]at hB hQ;rw[hB,hQ,hb]
   clear hB hQ;by_cases hg:B*g<s*100
   ·rw[xae hg];refine⟨?_,hb',?_,λi hi=>?_⟩
    ·cases dn
     ·simp only[xag]at hJ⊢;have:=hk rfl;omega
     simp only[xap]at hJ⊢;omega
    ·cases dn
     ·simp only[xag]at hJ⊢;have:=hk rfl;omega
     simp only[xap]at hJ⊢;omega
    have:i=j:=by
     cases dn
     ·simp only[xag]at hi hJ;omega
     simp only[xap]at hi hJ;omega
    subst this;exact hf
   rw[xac hg];have ih:=m.vV g ord p dn k J B Q (λh=>by subst h;have:=hk rfl;simp only[xag]at hJ;omega) hb';obtain⟨w1,w2,w3,w4⟩:=ih;refine⟨?_,w2,?_,λi hi=>?_⟩
   ·cases dn
    ·simp only[xag]at w1 hJ⊢;have:=hk rfl;omega
    simp only[xap]at w1 hJ⊢;omega
   ·cases dn
    ·simp only[xag]at w3 w1 hJ⊢;have:=hk rfl;omega
    simp only[xap]at w3 w1 hJ⊢;omega
   by_cases e:i=j
   ·subst e;exact hf
   refine w4 i ?_;cases dn
   ·simp only[xag]at hi hJ⊢;omega
   simp only[xap]at hi hJ⊢;omega
  rw[xac hf];exact⟨by cases dn<;>simp,hb,.inl ⟨rfl,rfl⟩,λi hi=>by cases dn<;>simp at hi<;>omega⟩
structure adp(m:Rm)(ord:zL)(p:Nat)(r:Nat×Nat):Prop where
 lt:r.1<m.n
 le:m.size (az ord (road p r.1))<=m.size ord
 stay:m.size (az ord (road p r.1))=m.size ord->r.1=p
 uW:r.2<=3*(m.n-1)
theorem Rm.AG(m:Rm)(g:Nat){ord:zL}{p:Nat}(hp:p<m.n):adp m ord p (m.sj g ord p):=by
 have ha:=m.vV g ord p (decide (m.n-1-p<=p)) (m.rest (decide (m.n-1-p<=p)) p) p (m.size ord) p (λh=>by unfold Rm.rest;rw[h];exact xaj _) (by rw[gB];rfl);unfold sj;simp only;generalize decide (m.n-1-p<=p)=dn at*;generalize m.ED g ord p dn (m.rest dn p) p (m.size ord) p=a at*;have hb:=m.vV g ord p (!dn) (m.rest (!dn) p) p a.2.1 a.2.2 (λh=>by unfold Rm.rest;rw[h];exact xaj _) ha.size;generalize m.ED g ord p (!dn) (m.rest (!dn) p) p a.2.1 a.2.2=b at*;obtain⟨a1,a2,a3,a4⟩:=ha;obtain⟨b1,b2,b3,b4⟩:=hb;unfold Rm.rest at a1 b1;refine⟨?_,?_,λh=>?_,?_⟩
 ·cases dn<;>simp only[xag,xap,xcp,xcw]at a1 b1 a3 b3<;>simp only<;>omega
 ·simp only;rw[<-b2];cases dn<;>simp only[xag,xap,xcp,xcw]at a1 b1 a3 b3<;>omega
 ·simp only at h⊢;rw[<-b2]at h;cases dn<;>simp only[xag,xap,xcp,xcw]at a1 b1 a3 b3<;>omega
 unfold dst;cases dn<;>simp only[xag,xap,xcp,xcw]at a1 b1 a3 b3<;>simp only<;>split<;>omega
end aA
namespace aA
section
variable {m:Rm} {g:Nat}
theorem KS{p q:Nat}(hp:p<m.n)(hq:q<m.n):∀x∈road p q,x+1<m.n:=λx hx=>Qx hp hq hx
theorem FV{ord:zL}{v n:Nat}(hp:ord.Perm (List.range n))(hv:v<n):ord.idxOf v<n:=by
 have h1:v∈ord:=hp.mem_iff.2 (xaN.2 hv);have h2:=xeh h1;rwa [hp.length_eq,xaJ]at h2
theorem mE{ord path:zL}{n:Nat}(hp:ord.Perm (List.range n))(h:∀x∈path,x+1<n):(az ord path).Perm (List.range n):=
 (lf λx hx=>by rw[hp.length_eq,xaJ];exact h x hx).trans hp
structure ZW(m:Rm)(g:Nat)(ord l:zL)(r:zL×Nat):Prop where
 mem:∀x∈r.1,x+1<m.n
 le:m.size (az ord r.1)<=m.size ord
 stay:m.size (az ord r.1)=m.size ord->r.1=[]/\∀v∈l,(m.sj g ord (ord.idxOf v)).1=ord.idxOf v
 uW:r.2<=3*(m.n-1)*l.length
 len:r.1.length<=m.n*l.length
theorem mG:∀{l ord:zL},ord.Perm (List.range m.n)->(∀v∈l,v<m.n)->ZW m g ord l (m.cr g ord l)
 | [],ord,hp,hl=>⟨by simp[Rm.cr],xaj _,λ_=>⟨rfl,by simp⟩,by simp[Rm.cr],by simp[Rm.cr]⟩
 |v::l,ord,hp,hl=>by
  have hv:=FV hp (hl v zI);have h1:=m.AG g (ord:=ord) hv;rw[Rm.cr];generalize hq:ord.idxOf v=p at*;generalize hr:m.sj g ord p=a at*;obtain⟨a1,a2,a3,a4⟩:=h1;have hin:=KS hv a1;have h2:=mG (l:=l) (ord:=az ord (road p a.1)) (mE hp hin) (λx hx=>hl x (by simp[hx]));generalize m.cr g (az ord (road p a.1)) l=b at*;obtain⟨b1,b2,b3,b4,b5⟩:=h2;have Dv:=vj p a.1;refine⟨λx hx=>?_,?_,λh=>?_,?_,?_⟩
  ·rcases xao.1 hx with h|h
   ·exact hin x h
   exact b1 x h
  ·rw[cq];omega
  ·rw[cq]at h;have e:=a3 zO;rw[e,gB]at b3 h⊢;obtain⟨c1,c2⟩:=b3 h;refine⟨by rw[c1];rfl,λu hu=>?_⟩;rcases xak.1 hu with rfl|hu
   ·rw[hq,hr];exact e
   exact c2 u hu
  ·rw[xaw,xdm,xbU];show a.2+b.2<=_;omega
  rw[xaf,xaw,xdm,xbU];omega
def Rm.df(m:Rm)(g:Nat)(ord:zL):List (zL)->zL×Nat
 | []=>([],0)
 |l::r=>let a:=m.cr g ord l;let b:=m.df g (az ord a.1) r;(a.1++b.1,a.2+b.2)
def Rm.tJ(m:Rm)(g:Nat)(ord:zL):List (zL)->Prop
 | []=>False
 | [l]=>¬m.size (az ord (m.cr g ord l).1)<m.size ord
 |l::r=>m.size (az ord (m.cr g ord l).1)<m.size ord/\m.tJ g (az ord (m.cr g ord l).1) r
theorem qv{ord l:zL}{r:List (zL)}(hr:r≠[]):m.tJ g ord (l::r)↔m.size (az ord (m.cr g ord l).1)<m.size ord/\m.tJ g (az ord (m.cr g ord l).1) r:=by
 cases r with
 |nil=>exact absurd rfl hr
 |cons a b=>exact xcT
structure ZX(m:Rm)(g:Nat)(ord:zL)(ls:List (zL))(r:zL×Nat):Prop where
 mem:∀x∈r.1,x+1<m.n
 le:m.size (az ord r.1)<=m.size ord
 Yk:1<=ls.length/\ls.length+m.size (az ord r.1)<=m.size ord+1
 still:∀v,v<m.n->(m.sj g (az ord r.1) ((az ord r.1).idxOf v)).1=(az ord r.1).idxOf v
 uW:r.2<=3*(m.n-1)*m.n*ls.length
 len:r.1.length<=m.n*m.n*ls.length
theorem KK:∀{ls:List (zL)} {ord:zL},ord.Perm (List.range m.n)->(∀l∈ls,l.Perm (List.range m.n))->m.tJ g ord ls->ZX m g ord ls (m.df g ord ls)
 | [],ord,hp,hl,hg=>hg.elim
 | [l],ord,hp,hl,hg=>by
  have VR:=hl l zI;have ni:l.length=m.n:=by rw[VR.length_eq,xaJ]
  obtain⟨a1,a2,a3,a4,a5⟩:=mG (g:=g) hp (λv hv=>xaN.1 (VR.mem_iff.1 hv)) (l:=l);have XB:¬m.size (az ord (m.cr g ord l).1)<m.size ord:=hg;have h:m.df g ord [l]=((m.cr g ord l).1++[],(m.cr g ord l).2+0):=rfl;rw[h,xaL,xcu];have he:m.size (az ord (m.cr g ord l).1)=m.size ord:=by omega
  obtain⟨c1,c2⟩:=a3 he;refine⟨a1,a2,⟨by simp,by simp;omega⟩,λv hv=>?_,by rw[ni]at a4;simpa using a4,by rw[ni]at a5;simpa using a5⟩;rw[c1];exact c2 v (VR.mem_iff.2 (xaN.2 hv))
 |l::l2::r,ord,hp,hl,hg=>by
  have VR:=hl l zI;have ni:l.length=m.n:=by rw[VR.length_eq,xaJ]
  obtain⟨a1,a2,a3,a4,a5⟩:=mG (g:=g) hp (λv hv=>xaN.1 (VR.mem_iff.1 hv)) (l:=l);obtain⟨g1,g2⟩:=(qv zI).1 hg;have ih:=KK (ls:=l2::r) (mE hp a1) (λx hx=>hl x (by simp[xak.1 hx])) g2;have h:m.df g ord (l::l2::r)=((m.cr g ord l).1++(m.df g (az ord (m.cr g ord l).1) (l2::r)).1,(m.cr g ord l).2+(m.df g (az ord (m.cr g ord l).1) (l2::r)).2):=rfl;rw[h];generalize m.cr g ord l=a at*;generalize m.df g (az ord a.1) (l2::r)=b at*;obtain⟨b1,b2,b3,b4,b5,b6⟩:=ih;refine⟨λx hx=>?_,by rw[cq];omega,⟨by simp,?_⟩,?_,?_,?_⟩
  ·rcases xao.1 hx with h|h
   ·exact a1 x h
   exact b1 x h
  ·rw[cq,xaw];omega
  ·rw[cq];exact b4
  ·show a.2+b.2<=_;rw[ni]at a4;rw[xaw,xdm,xbU];omega
  rw[ni]at a5;rw[xaf,xaw,xdm,xbU];omega
theorem yG{v:Nat}:∀{l ord:zL},m.cr g ord (l++[v])=((m.cr g ord l).1++road ((az ord (m.cr g ord l).1).idxOf v) (m.sj g (az ord (m.cr g ord l).1) ((az ord (m.cr g ord l).1).idxOf v)).1,(m.cr g ord l).2+(m.sj g (az ord (m.cr g ord l).1) ((az ord (m.cr g ord l).1).idxOf v)).2)
 | [],ord=>by simp[Rm.cr,az]
 |u::l,ord=>by
  rw[xaO,Rm.cr,Rm.cr];simp only;rw[yG (l:=l)];simp only[cq,xai,xcV]
theorem yH{l:zL}:∀{ls:List (zL)} {ord:zL},m.df g ord (ls++[l])=((m.df g ord ls).1++(m.cr g (az ord (m.df g ord ls).1) l).1,(m.df g ord ls).2+(m.cr g (az ord (m.df g ord ls).1) l).2)
 | [],ord=>by simp[Rm.df,az]
 |u::ls,ord=>by
  rw[xaO,Rm.df,Rm.df];simp only;rw[yH (ls:=ls)];simp only[cq,xai,xcV]
def Rm.sR(m:Rm)(g:Nat)(ord:zL):List (zL)->Prop
 | []=>True
 |l::r=>m.size (az ord (m.cr g ord l).1)<m.size ord/\m.sR g (az ord (m.cr g ord l).1) r
theorem tK{l:zL}:∀{ls:List (zL)} {ord:zL},m.sR g ord ls->m.size (az (az ord (m.df g ord ls).1) (m.cr g (az ord (m.df g ord ls).1) l).1)<m.size (az ord (m.df g ord ls).1)->m.sR g ord (ls++[l])
 | [],ord,_,h=>⟨h,trivial⟩
 |u::ls,ord,h1,h=>by
  refine⟨h1.1,tK (ls:=ls) h1.2 ?_⟩;rw[Rm.df]at h;simp only[cq]at h;exact h
theorem DL{l:zL}:∀{ls:List (zL)} {ord:zL},m.sR g ord ls->¬m.size (az (az ord (m.df g ord ls).1) (m.cr g (az ord (m.df g ord ls).1) l).1)<m.size (az ord (m.df g ord ls).1)->m.tJ g ord (ls++[l])
 | [],ord,_,h=>h
 |u::ls,ord,h1,h=>by
  rw[xaO,qv zI];refine⟨h1.1,DL (ls:=ls) h1.2 ?_⟩;rw[Rm.df]at h;simp only[cq]at h;exact h
structure TM(m:Rm)(g:Nat)(ord:zL)(ls:List (zL))(r:zL×Nat):Prop where
 mem:∀x∈r.1,x+1<m.n
 le:ls.length+m.size (az ord r.1)<=m.size ord
 uW:r.2<=3*(m.n-1)*m.n*ls.length
 len:r.1.length<=m.n*m.n*ls.length
theorem zm:∀{ls:List (zL)} {ord:zL},ord.Perm (List.range m.n)->(∀l∈ls,l.Perm (List.range m.n))->m.sR g ord ls->TM m g ord ls (m.df g ord ls)
 | [],ord,hp,hl,hg=>⟨by simp[Rm.df],by simp[Rm.df,az],by simp[Rm.df],by simp[Rm.df]⟩
 |l::r,ord,hp,hl,hg=>by
  have VR:=hl l zI;have ni:l.length=m.n:=by rw[VR.length_eq,xaJ]
  obtain⟨a1,a2,a3,a4,a5⟩:=mG (g:=g) hp (λv hv=>xaN.1 (VR.mem_iff.1 hv)) (l:=l);have ih:=zm (ls:=r) (mE hp a1) (λx hx=>hl x (by simp[hx])) hg.2;have hg1:=hg.1;rw[Rm.df];generalize m.cr g ord l=a at*;generalize m.df g (az ord a.1) r=b at*;obtain⟨b1,b2,b3,b4⟩:=ih;rw[ni]at a4 a5;refine⟨λx hx=>?_,by rw[cq,xaw];omega,?_,?_⟩
  ·rcases xao.1 hx with h|h
   ·exact a1 x h
   exact b1 x h
  ·rw[xaw,xdm,xbU];show a.2+b.2<=_;omega
  rw[xaf,xaw,xdm,xbU];omega
end
end aA
set_option maxRecDepth 100000
namespace Go.Proofs
open Go Go.Sx
section
open aA
def gZ(kp a b q gr sw:Nat)(la:Int)(st:zV):Array zV:=#[ptr kp,iv (a:Int),iv (b:Int),iv (q:Int),iv (gr:Int),iv (sw:Int),iv la,st]
def fy(wp:Nat)(c:Array zV):Nat×Obj:=(wp,.cells c 324 zZ)
def pY(bx wp:Nat):Nat×Obj:=(bx,.cells #[ptr wp] 321 zZ)
def stf(dn:Bool):Nat:=bif dn then 335 else 337
def BF(dn:Bool)(bx:Nat):zV:=.func (.func (stf dn)) #[] #[ptr bx]
def Ez:Hp->Nat
 |(_,.cells c _ _)::_=>bJ c.toList 1
 |_=>0
section
variable {kp wp bx a b q gr sw p:Nat} {la:Int} {st:zV} {K:Kd} {S:Nat->aA.Fn} {ord o tr:zL} {C:Hp} {dn:Bool}
theorem PX{l a':Nat}{d:Int}(h:At kp K S ord tr C)(hl:l+1<K.n)(eM:tr.length<17592186044416)(hf:jc K S ord l)(ha:(a:Int)+d=(a':Int))(hb:a'<1024)(BI:sw<4611686018427387904):
  Fc zQ 336 #[ptr wp,iv (l:Int),iv d] (fy wp (gZ kp a b q gr sw la st)::C) (λv H=>v=iv 0/\∃C',H=fy wp (gZ kp a' b q gr (sw+1) la st)::C'/\At kp K S (fR ord l) (tr++[l]) C'):=by
 refine aE λg=>xu (Ld.n ?_);refine aa.fq (uO h hl eM hf) ?_;rintro v C' ⟨rfl,h'⟩;intro J6 h6;refine ae.ik (Br.T (Ld.n ?_));refine ae.inc (Nil.ptr (ai.mk (St.one (c':=gZ kp a b q gr (sw+1) la st) (by exact .head _) rfl (by simp[gZ]) rfl ?_)));refine Ld.n ?_;refine ae.En (c:=(a':Int)) ha zO (Nil.ptr (ai.mk (St.one (c':=gZ kp a' b q gr (sw+1) la st) (by exact .head _) rfl (by simp[gZ]) rfl ?_)));exact JE.mk (h6 _ λgs=>aM.here ⟨rfl,C',rfl,h'⟩)
theorem W9{l:Nat}{d:Int}(h:At kp K S ord tr C)(hl:l+1<K.n)(eM:tr.length<17592186044416)(hf:¬jc K S ord l):
  Rd zQ 336 #[ptr wp,iv (l:Int),iv d] (fy wp (gZ kp a b q gr sw la st)::C) (· =iv 9):=by
 refine aE λg=>xu (Ld.n ?_);refine aa.eq (m5 h hl eM hf) λJ6 h6=>?_;exact ae.ik (Br.F (JE.mk (h6 _ λgs=>bg.mk (.refl _) rfl)))
theorem r9(h:At kp K S ord tr C)(TW:1<=K.n):
  Fc zQ 266 #[ptr wp,.bool dn] (fy wp (gZ kp a b q gr sw la st)::C) (λv H=>v=.tuple #[]/\∃bx,H=fy wp (gZ kp a b q gr sw (bif dn then((K.n-1:Nat):Int)else 0) (BF dn bx))::pY bx wp::C):=by
 have hn:=h.lB;refine aE λg=>IP λb1 _=>?_;cases dn
 ·refine Br.no (Ld.q ?_);refine Nil.ptr (ai.mk (St.one (c':=gZ kp a b q gr sw 0 st) (by exact .tail (.head _)) rfl (by simp[gZ]) rfl ?_));refine Ld.q ?_;refine Nil.ptr (ai.mk (St.one (c':=gZ kp a b q gr sw 0 (BF false b1)) (by exact .tail (.head _)) rfl (by simp[gZ]) rfl ?_));exact aM.mk .swap ⟨rfl,b1,rfl⟩
 refine Br.yes (DR.self (Ld.q ?_));refine Ld.q ?_;refine Ld.n ?_;intro F;refine aa.eq (m4 h) (⟨.refl _,?_⟩);refine ae.bY (b:=1) (Nil.ptr (ai.mk λF=>(St.one (c':=gZ kp a b q gr sw ((K.n-1:Nat):Int) st) (by exact .tail (.head _)) rfl (by simp[gZ]) rfl ?_)));refine Ld.q ?_;refine Nil.ptr (ai.mk (St.one (c':=gZ kp a b q gr sw ((K.n-1:Nat):Int) (BF true b1)) (by exact .tail (.head _)) rfl (by simp[gZ]) rfl ?_));exact aM.mk .swap ⟨rfl,b1,rfl⟩
def oS(dn:Bool)(j:Nat):Nat:=bif dn then j+1 else j-1
def Ya(dn:Bool)(j:Nat):Nat:=bif dn then j else j-1
theorem Qw{j:Nat}(hs:bif dn then p<=j else 0<j/\j<=p):road p (oS dn j)=road p j++[Ya dn j]:=by
 cases dn
 ·simp only[xag]at hs;obtain⟨i,rfl⟩:∃i,j=i+1:=⟨j-1,by omega⟩;exact sr hs.2
 exact sq hs
theorem Ca{j:Nat}(h:At kp K S (az o (road p j)) (tr++road p j) C)(hp:p<K.n)(hs:bif dn then p<=j/\j+1<K.n else 0<j/\j<=p)(eM:(tr++road p j).length<17592186044416)(hf:jc K S (az o (road p j)) (Ya dn j))(BI:sw<4611686018427387904):
  Fc zQ (stf dn) #[ptr bx] (fy wp (gZ kp j b q gr sw la st)::pY bx wp::C) (λv H=>v=iv 0/\∃C',H=fy wp (gZ kp (oS dn j) b q gr (sw+1) la st)::pY bx wp::C'/\At kp K S (az o (road p (oS dn j))) (tr++road p (oS dn j)) C'):=by
 have hn:=h.lB;have hr:=Qw (p:=p) (dn:=dn) (j:=j) (by cases dn<;>simp only[xag,xap]at hs⊢ <;>omega);intro g;rw[hr,gA,<-xai];cases dn
 ·simp only[xag]at hs;refine xq (R:=aM _) ?_;unfold L337;refine DR.self (Ld.q ?_);refine Ld.q ?_;refine Ld.n ?_;refine ae.bY (b:=1) λF=>?_;refine aa.pre .swap ?_;refine aa.fn (.cons .here) (PX (a':=j-1) h zO eM hf zO zO BI) ?_;rintro v H ⟨rfl,C',rfl,h'⟩;exact aM.mk .swap ⟨rfl,C',rfl,h'⟩
 simp only[xap]at hs;refine xw (R:=aM _) ?_;unfold L335;refine DR.self (Ld.q ?_);refine Ld.q ?_;refine Ld.n ?_;intro F;refine aa.pre .swap ?_;refine aa.fn (.cons .here) (PX (a':=j+1) h zO eM hf zO zO BI) ?_;rintro v H ⟨rfl,C',rfl,h'⟩;exact aM.mk .swap ⟨rfl,C',rfl,h'⟩
theorem Uw{j:Nat}(h:At kp K S ord tr C)(hs:bif dn then j+1<K.n else 0<j/\j<K.n)(eM:tr.length<17592186044416)(hf:¬jc K S ord (Ya dn j)):
  Rd zQ (stf dn) #[ptr bx] (fy wp (gZ kp j b q gr sw la st)::pY bx wp::C) (· =iv 9):=by
 have hn:=h.lB;intro g;cases dn
 ·simp only[xag]at hs;refine xq (R:=aM _) ?_;unfold L337;refine DR.self (Ld.q ?_);refine Ld.q ?_;refine Ld.n ?_;refine ae.bY (b:=1) λF=>?_;refine aa.pre .swap ?_;exact aa.eq (W9 h zO eM hf) (bg.mk .swap rfl)
 simp only[xap]at hs;refine xw (R:=aM _) ?_;unfold L335;refine DR.self (Ld.q ?_);refine Ld.q ?_;refine Ld.n ?_;intro F;refine aa.pre .swap ?_;exact aa.eq (W9 h zO eM hf) (bg.mk .swap rfl)
theorem B9(dn:Bool):aT zQ (stf dn)=true:=by cases dn<;>kernel_rfl
theorem qd{n j:Nat}(hn:n<=64)(hp:p<n)(hj:j<n):(road p j).length<=64:=by rw[vj];omega
theorem Qs(h0:At kp K S o tr C)(hp:p<K.n)(mw:100<=gr/\gr<=1000)(hb:b<=1048576)(BI:sw<1099511627776)(eM:tr.length<17454747090944)(hla:la=bif dn then((K.n-1:Nat):Int)else 0){r:Nat×Nat×Nat}(hr:(rm K S).ED gr o p dn ((rm K S).rest dn p) p b q=r):
  Fc zQ 267 #[ptr wp] (fy wp (gZ kp p b q gr sw la (BF dn bx))::pY bx wp::C) (λv H=>v=.tuple #[]/\∃C',H=fy wp (gZ kp r.1 r.2.1 r.2.2 gr (sw+dst r.1 p) la (BF dn bx))::pY bx wp::C'/\At kp K S (az o (road p r.1)) (tr++road p r.1) C'):=by
 have hn:=h0.lB;refine aE λg=>IN ?_;refine⟨λvs H=>∃(k j b' q':Nat) (C':Hp),vs=[]/\H=fy wp (gZ kp j b' q' gr (sw+dst j p) la (BF dn bx))::pY bx wp::C'/\At kp K S (az o (road p j)) (tr++road p j) C'/\k=(rm K S).rest dn j/\(bif dn then p<=j/\j<K.n else j<=p)/\b'<=1048576/\(rm K S).ED gr o p dn k j b' q'=r,
  λ_ H=>bif dn then K.n-Ez H else Ez H,JE.mk ⟨_,p,b,q,C,rfl,by simp[dst],by rw[gB,xaL];exact h0,rfl,by cases dn<;>simp[hp],hb,hr⟩,?_⟩
 rintro H ⟨k,j,b',q',C',_,rfl,hA,hk,hs,hb',um⟩ gs;have TX:j<K.n:=by cases dn<;>simp only[xag,xap]at hs<;>omega
 have Gc:dst j p<=64:=by unfold dst;omega
 have Dv:=qd hn hp TX;have Ds:(tr++road p j).length<17592186044416:=by rw[xaf];omega
 have v9:(rm K S).n=K.n:=rfl;have hsz:∀o:zL,(rm K S).size o=cF K S o:=λ_=>rfl;intro J5 h5;have fin:r=(j,b',q')->J5 [.bool false] (fy wp (gZ kp j b' q' gr (sw+dst j p) la (BF dn bx))::pY bx wp::C'):=λe=>h5 _ _ λgs=>Br.no (aM.here ⟨rfl,C',by rw[e],by rw[e];exact hA⟩);refine DR.self (Ld.n ?_);refine Ld.n ?_;refine ae.cL (Br.dec (λhne=>?_) (λheq=>?_));rotate_left
 ·have Zb:k=0:=by
   rw[hk];unfold Rm.rest;cases dn<;>simp only[xag,xap]at hla⊢ <;>omega
  subst Zb;exact JE.mk (fin um.symm)
 have we:bif dn then j+1<K.n else 0<j:=by
  cases dn<;>simp only[xag,xap]at hla⊢ <;>omega
 obtain⟨k',hk'⟩:∃k',k=k'+1:=by
  refine⟨k-1,?_⟩;rw[hk];unfold Rm.rest;cases dn<;>simp only[xag,xap]at we⊢ <;>omega
 subst hk';rw[Rm.ED]at um;change (if(rm K S).fit (az o (road p j)) (Ya dn j)=true then _ else _)=r at um;refine Ld.n ?_;intro F;refine aF.of (f:=stf dn) rfl (B9 dn) ?_;by_cases hf:jc K S (az o (road p j)) (Ya dn j);rotate_left
 ·refine aa.eq (args:=#[ptr bx]) (Uw hA (by cases dn<;>simp only[xag,xap]at we⊢ <;>omega) Ds hf) (ae.ik (aL.mk ?_));rw[xac (λh=>hf (qe.1 h))]at um;exact JE.mk (fin um.symm)
 refine aa.fn (args:=#[ptr bx]) .here (Ca hA hp (by cases dn<;>simp only[xag,xap]at we hs⊢ <;>omega) Ds hf zO) ?_;rintro v H ⟨rfl,C2,rfl,n5⟩;refine ae.ik (aL.mk ?_);rw[xae (show(rm K S).fit (az o (road p j)) (Ya dn j)=true from qe.2 hf)]at um;change (if(if(rm K S).size (az o (road p (oS dn j)))<b' then(rm K S).size (az o (road p (oS dn j)))else b')*gr<(rm K S).size (az o (road p (oS dn j)))*100 then(oS dn j,if(rm K S).size (az o (road p (oS dn j)))<b' then(rm K S).size (az o (road p (oS dn j)))else b',if(rm K S).size (az o (road p (oS dn j)))<b' then oS dn j else q')else(rm K S).ED gr o p dn k' (oS dn j) (if(rm K S).size (az o (road p (oS dn j)))<b' then(rm K S).size (az o (road p (oS dn j)))else b') (if(rm K S).size (az o (road p (oS dn j)))<b' then oS dn j else q'))=r at um;have hle:=gu n5;rw[hsz]at um;have afd:sw+dst j p+1=sw+dst (oS dn j) p:=by unfold dst oS;cases dn<;>simp only[xag,xap]at we hs⊢ <;>omega
 rw[afd];have hnk:k'=(rm K S).rest dn (oS dn j):=by
  unfold Rm.rest at hk⊢;unfold oS;cases dn<;>simp only[xag,xap]at we hk⊢ <;>omega
 have Nu:bif dn then p<=oS dn j/\oS dn j<K.n else oS dn j<=p:=by
  unfold oS;cases dn<;>simp only[xag,xap]at we hs⊢ <;>omega
 have hms:(bif dn then K.n-oS dn j else oS dn j)<(bif dn then K.n-j else j):=by
  unfold oS;cases dn<;>simp only[xag,xap]at we⊢ <;>omega
 generalize hj':oS dn j=j' at*;generalize hs':cF K S (az o (road p j'))=s at*;have abO:∀b2 q2,Ez (fy wp (gZ kp j b' q' gr (sw+dst j p) la (BF dn bx))::pY bx wp::C')=j/\∀C2,Ez (fy wp (gZ kp j' b2 q2 gr (sw+dst j' p) la (BF dn bx))::pY bx wp::C2)=j':=λb2 q2=>⟨by simp[Ez,fy,gZ,bJ],λC2=>by simp[Ez,fy,gZ,bJ]⟩;refine JE.mk (h5 _ _ λgs=>Br.yes ?_);refine Ld.n ?_;refine aa.eq (cE n5) ?_;rw[hs'];intro J14 h14;have next:∀b2 q2,b2<=1048576->(if b2*gr<s*100 then(j',b2,q2)else(rm K S).ED gr o p dn k' j' b2 q2)=r->J14 [] (fy wp (gZ kp j' b2 q2 gr (sw+dst j' p) la (BF dn bx))::pY bx wp::C2):=by
  intro b2 q2 tF qK;refine h14 _ λgs=>?_;have uj:b2*gr<=1048576*1000:=xbP tF mw.2;refine ae.xZ (b:=100) (Ld.n ?_);refine Ld.n ?_;refine ae.xZ (ae.ny (Br.dec (λhgt=>?_) (λhgt=>?_)))
  ·rw[xae hgt]at qK;subst qK;exact aM.here ⟨rfl,C2,rfl,n5⟩
  rw[xac hgt]at qK;refine aC.mk ⟨k',j',b2,q2,C2,rfl,rfl,n5,hnk,Nu,tF,qK⟩ ?_;rw[(abO b2 q2).1,(abO b2 q2).2];exact hms
 refine Ld.n ?_;refine ae.eZ (Br.dec (λhlt=>?_) (λhlt=>?_))
 ·rw[xae hlt,xae hlt]at um;refine Ld.n ?_;refine Nil.ptr (ai.mk (St.one (c':=gZ kp j' s q' gr (sw+dst j' p) la (BF dn bx)) (by exact .head _) rfl (by simp[gZ]) rfl ?_));refine Nil.ptr (ai.mk (St.one (c':=gZ kp j' s j' gr (sw+dst j' p) la (BF dn bx)) (by exact .head _) rfl (by simp[gZ]) rfl ?_));exact JE.mk (next _ _ zO um)
 rw[xac hlt,xac hlt]at um;exact JE.mk (next _ _ hb' um)
theorem Ar{j t:Nat}(h:At kp K S (az o (road p j)) (tr++road p j) C)(EF:o.length=K.n)(hp:p<K.n)(hjt:(p<=t/\t<=j/\j<K.n)\/(j<=t/\t<=p))(BI:sw<17592186044416)(eM:tr.length<17454747090944):
  Fc zQ 268 #[ptr wp,iv (t:Int)] (fy wp (gZ kp j b q gr sw la st)::C) (λv H=>v=.tuple #[]/\∃C',H=fy wp (gZ kp t b q gr (sw+dst j t) la st)::C'/\At kp K S (az o (road p t)) (tr++road p t) C'):=by
 have hn:=h.lB;refine aE λg=>IM ?_;refine⟨λvs H=>∃(i:Nat) (C':Hp),vs=[]/\H=fy wp (gZ kp i b q gr (sw+dst j i) la st)::C'/\At kp K S (az o (road p i)) (tr++road p i) C'/\((p<=t/\t<=i/\i<=j/\j<K.n)\/(j<=i/\i<=t/\t<=p)),
  λ_ H=>dst (Ez H) t,JE.mk ⟨j,C,rfl,by simp[dst],h,by omega⟩,?_⟩
 rintro H ⟨i,C',_,rfl,hA,hs⟩ gs;have hin:i<K.n:=by omega
 have hdi:dst j i<=64:=by unfold dst;omega
 have Dv:=qd hn hp hin;have FY:∀i sw C',Ez (fy wp (gZ kp i b q gr sw la st)::C')=i:=λi sw C'=>by simp[Ez,fy,gZ,bJ]
 refine Ld.n ?_;refine ae.AQ (Br.dec (λhne=>?_) (λheq=>?_));rotate_left
 ·obtain rfl:i=t:=by omega
  exact aM.here ⟨rfl,C',rfl,hA⟩
 refine Ld.n ?_;rcases hs with hs|hs
 ·obtain⟨i,rfl⟩:∃i',i=i'+1:=⟨i-1,by omega⟩;rw[sq zO,gA,<-xai]at hA;refine aa.fq (Bt hA (by rw[sq zO,xaf,xcj]at Dv;rw[xaf];omega)) ?_;rintro w C2 ⟨rfl,n5⟩;rw[qS (by rw[fQ,EF];omega)]at n5;refine Ext.two (Ld.n ?_);refine ae.inc (Nil.ptr (ai.mk (St.one (c':=gZ kp (i+1) b q gr (sw+dst j (i+1)+1) la st) (by exact .head _) rfl (by simp[gZ]) rfl ?_)));refine Ld.n ?_;refine ae.eZ (Br.T (Nil.ptr (ai.mk (St.one (c':=gZ kp i b q gr (sw+dst j (i+1)+1) la st) (by exact .head _) rfl (by simp[gZ]) rfl ?_))));refine aC.mk ⟨i,C2,rfl,by rw[show sw+dst j (i+1)+1=sw+dst j i by unfold dst;omega];rfl,n5,by omega⟩ ?_;show dst (Ez (fy wp (gZ kp i b q gr (sw+dst j (i+1)+1) la st)::C2)) t<dst (Ez (fy wp (gZ kp (i+1) b q gr (sw+dst j (i+1)) la st)::C')) t;rw[FY,FY];unfold dst;omega
 rw[sr zO,gA,<-xai]at hA;refine aa.fq (Bt hA (by rw[sr zO,xaf,xcj]at Dv;rw[xaf];omega)) ?_;rintro w C2 ⟨rfl,n5⟩;rw[qS (by rw[fQ,EF];omega)]at n5;refine Ext.two (Ld.n ?_);refine ae.inc (Nil.ptr (ai.mk (St.one (c':=gZ kp i b q gr (sw+dst j i+1) la st) (by exact .head _) rfl (by simp[gZ]) rfl ?_)));refine Ld.n ?_;refine ae.eZ (Br.F (ae.inc (Nil.ptr (ai.mk (St.one (c':=gZ kp (i+1) b q gr (sw+dst j i+1) la st) (by exact .head _) rfl (by simp[gZ]) rfl ?_)))));refine aC.mk ⟨i+1,C2,rfl,by rw[show sw+dst j i+1=sw+dst j (i+1)by unfold dst;omega];rfl,n5,by omega⟩ ?_;show dst (Ez (fy wp (gZ kp (i+1) b q gr (sw+dst j i+1) la st)::C2)) t<dst (Ez (fy wp (gZ kp i b q gr (sw+dst j i) la st)::C')) t;rw[FY,FY];unfold dst;omega
end
end
section
open aA
section
variable {kp v gr:Nat} {K:Kd} {S:Nat->aA.Fn} {ord tr:zL} {C:Hp}
theorem p7(kp:Nat){gr:Int}(C:Hp):Rd zQ 186 #[ptr kp,iv gr] C (· =iv (if gr<100\/1000<gr then 1 else 0)):=by
 refine aE λg=>JA (ae.aH (Br.no (ae.lss (dc.or (decide (1000<gr)) (λ_=>ae.gtr ⟨rfl,rfl⟩) rfl λgs=>?_))));by_cases h:gr<100\/1000<gr
 ·rw[xae h];refine Br.Ub ?_ (bg.mk (.refl _) rfl);simpa using h
 rw[xac h];refine Br.no' ?_ (bg.mk (.refl _) rfl);simpa using h
theorem Yi(hp:ord.Perm (List.range K.n)){p:Nat}(TU:p<K.n)(hv:ord.getD p 0=v):ord.idxOf v=p:=by
 have EF:ord.length=K.n:=by rw[hp.length_eq,xaJ]
 have fc:ord.Nodup:=hp.nodup_iff.2 xbj;have hm:v∈ord:=by
  rw[<-hv,xar,xaa zO];exact xaB _
 have h1:=xeh hm;refine getD_inj fc h1 zO ?_;rw[hv,xar,xaa h1];exact List.getElem_idxOf h1
theorem UA(h:At kp K S ord tr C)(hp:ord.Perm (List.range K.n))(hv:v<K.n)(mw:100<=gr/\gr<=1000)(eM:tr.length<17454747090944){r:Nat×Nat}(hr:(rm K S).sj gr ord (ord.idxOf v)=r):
  Fc zQ 188 #[ptr kp,iv (v:Int),iv (gr:Int)] C (λw H=>w=.tuple #[rep (cF K S ord) (cF K S (az ord (road (ord.idxOf v) r.1))) r.2,iv 0]/\At kp K S (az ord (road (ord.idxOf v) r.1)) (tr++road (ord.idxOf v) r.1) H):=by
 have hn:=h.lB;have EF:ord.length=K.n:=by rw[hp.length_eq,xaJ]
 have hsz:=gu h;have v9:(rm K S).n=K.n:=rfl;refine aE λg=>Jy λb1 _=>?_;refine aa.eq (p7 kp (gr:=(gr:Int)) C) ?_;rw[xac zO];refine ae.cL (Br.F (aa.rq (Eg h hv) ?_));rintro w ⟨p,TU,VK,rfl⟩;have YU:=Yi hp TU VK;rw[YU]at hr⊢;have aku:p<(rm K S).n:=TU;refine Ext.two (ae.cL (Br.F (aa.eq (cE h) (Build.mk (cs:=[iv ((cF K S ord:Nat):Int),iv 0,iv 0,.bool false]) zK λwU _=>?_))));refine St.q ?_;refine Ld.f ?_;refine Build.mk (cs:=[ptr kp,iv (p:Int),iv ((cF K S ord:Nat):Int),iv (p:Int),iv (gr:Int),iv 0,iv 0,.nilFunc]) zK λwp _=>?_;refine aa.eq (m4 h) (ae.bY (b:=1) (ae.bY (ae.BH ?_)));obtain⟨X,hX⟩:∃X:Hp,X=[(wU,Obj.cells (List.toArray [iv ((cF K S ord:Nat):Int),iv 0,iv 0,.bool false]) 147 zZ),(b1,Obj.cells #[iv 0,iv 0,iv 0,.bool false] 147 zZ)]:=⟨_,rfl⟩;unfold Rm.sj at hr;simp only[v9]at hr;rw[show(rm K S).size ord=cF K S ord from rfl]at hr;generalize hdn:decide (K.n-1-p<=p)=dn at*;have agM:∀x:Nat×Obj,aN (x::(wU,Obj.cells (List.toArray [iv ((cF K S ord:Nat):Int),iv 0,iv 0,.bool false]) 147 zZ)::(b1,Obj.cells #[iv 0,iv 0,iv 0,.bool false] 147 zZ)::C) (X++(x::C)):=λx=>.perm (by rw[hX];exact(xaT (l₁:=[_,_])).symm);refine aa.pre (agM _) ?_;refine aa.fq (r9 (wp:=wp) (a:=p) (b:=cF K S ord) (q:=p) (gr:=gr) (sw:=0) (la:=0) (st:=.nilFunc) (dn:=dn) h zO) ?_;rintro w H ⟨rfl,bx,rfl⟩;refine aa.fn (.app .here) (Qs h TU mw zO zO eM rfl rfl) ?_;rintro w H ⟨rfl,C1,rfl,Wh⟩;have Dz:=(rm K S).vV gr ord p dn ((rm K S).rest dn p) p (cF K S ord) p (λh=>by unfold Rm.rest;rw[h];exact xaj _) (by rw[gB];rfl);generalize (rm K S).ED gr ord p dn ((rm K S).rest dn p) p (cF K S ord) p=a at*;have qK:=(rm K S).vV gr ord p (!dn) ((rm K S).rest (!dn) p) p a.2.1 a.2.2 (λh=>by unfold Rm.rest;rw[h];exact xaj _) Dz.size;obtain⟨a1,a2,a3,a4⟩:=Dz;unfold Rm.rest at a1;rw[v9]at a1;have ur:a.1<K.n/\((p<=a.1)\/(a.1<=p)):=by cases dn<;>simp only[xag,xap]at a1<;>omega
 have hab:a.2.1<=1048576:=by
  have:a.2.1<=cF K S ord:=by omega
  omega
 have Pp:dst a.1 p<=64:=by unfold dst;omega
 refine aa.pre (aN.cU (.cons .tail) X) ?_;refine aa.fn (.app .here) (Ar (t:=p) Wh EF TU zO zO eM) ?_;rintro w H ⟨rfl,C2,rfl,n5⟩;rw[gB,xaL]at n5;have n5:At kp K S ord tr C2:=n5;refine Ld.n ?_;refine Un.not (aa.fq (r9 (dn:= !dn) n5 zO) ?_);rintro w H ⟨rfl,bx2,rfl⟩;refine aa.fn (.app .here) (Qs n5 TU mw hab zO eM rfl rfl) ?_;rintro w H ⟨rfl,C3,rfl,EI⟩;generalize (rm K S).ED gr ord p (!dn) ((rm K S).rest (!dn) p) p a.2.1 a.2.2=b at*;obtain⟨e1,e2,e3,e4⟩:=qK;unfold Rm.rest at e1;rw[v9]at e1;have ze:bif dn then p<=a.2.2/\a.2.2<=a.1 else a.1<=a.2.2/\a.2.2<=p:=by
  cases dn<;>simp only[xag,xap]at a3 a1⊢ <;>omega
 have hb1:b.1<K.n/\((p<=b.1)\/(b.1<=p)):=by cases dn<;>simp only[xag,xap,xcp,xcw]at e1<;>omega
 have x9:dst b.1 p<=64:=by unfold dst;omega
 intro J47 h47;have fin:∀(bb:Nat) (FL:Int) (st':zV) (Cf:Hp),At kp K S (az ord (road p r.1)) (tr++road p r.1) Cf->J47 [] (X++(fy wp (gZ kp r.1 bb r.1 gr r.2 FL st')::Cf)):=by
  intro bb FL st' Cf hAf;rw[hX];refine h47 _ λgs=>?_;refine DR.of (R:=[fy wp (gZ kp r.1 bb r.1 gr r.2 FL st')]) (aN.Yt (.tail _ (.tail _ (.head _)))) (Ld.n ?_);intro F;refine aa.eq (cE hAf) (⟨aN.Yt (.tail _ (.tail _ (.head _))),?_⟩);refine ai.mk λF=>(St.one (c':=#[iv ((cF K S ord:Nat):Int),iv ((cF K S (az ord (road p r.1)):Nat):Int),iv 0,.bool false]) (by exact .head _) rfl zI rfl ?_);refine⟨aN.Yt (.tail _ (.tail _ (.head _))),?_⟩;refine ai.mk λF=>(St.one (c':=#[iv ((cF K S ord:Nat):Int),iv ((cF K S (az ord (road p r.1)):Nat):Int),iv ((r.2:Nat):Int),.bool false]) (by exact .head _) rfl zI rfl ?_);refine ay.q ?_;refine St.q ?_;refine ay.q ?_;exact aM.mk (.skip (.skip .tail)) ⟨rfl,hAf⟩
 refine Ld.n ?_;refine ae.AQ (Br.dec (λhne=>?_) (λheq=>?_))
 ·-- the other way is better
  rw[xae hne]at hr;refine Ld.n ?_;refine aa.pre (aN.cU (.cons .tail) X) ?_;have hbt:(p<=b.2.2/\b.2.2<=b.1/\b.1<K.n)\/(b.1<=b.2.2/\b.2.2<=p):=by
   cases dn<;>simp only[xag,xap,xcp,xcw]at e3 e1<;>omega
  refine aa.fn (.app .here) (Ar (t:=b.2.2) EI EF TU hbt zO eM) ?_;rintro w H ⟨rfl,C4,rfl,ZD⟩;subst hr;refine JE.mk ?_;rw[xa3];exact fin b.2.1 _ _ C4 ZD
 -- back again
 have heq:b.2.2=a.2.2:=xel.1 heq;rw[xac (λh=>h heq)]at hr;refine aa.pre (aN.cU (.cons .tail) X) ?_;refine aa.fn (.app .here) (Ar (t:=p) EI EF TU zO zO eM) ?_;rintro w H ⟨rfl,C4,rfl,ZD⟩;rw[gB,xaL]at ZD;have ZD:At kp K S ord tr C4:=ZD;refine aa.fq (r9 (dn:=dn) ZD zO) ?_;rintro w H ⟨rfl,S8,rfl⟩;obtain⟨s3,hs3⟩:∃s3,s3=0+dst a.1 p+dst a.1 p+dst b.1 p+dst b.1 p:=⟨_,rfl⟩;rw[<-hs3];obtain⟨Xi,afB⟩:∃Xi,Xi=(bif dn then((K.n-1:Nat):Int)else 0):=⟨_,rfl⟩;rw[<-afB];refine⟨λvs H=>∃(i:Nat) (C':Hp),vs=[]/\H=fy wp (gZ kp i b.2.1 b.2.2 gr (s3+dst p i) Xi (BF dn S8))::pY S8 wp::(X++C')/\At kp K S (az ord (road p i)) (tr++road p i) C'/\(bif dn then p<=i/\i<=b.2.2 else b.2.2<=i/\i<=p),
  λ_ H=>dst (Ez H) b.2.2,JE.of (H':=fy wp (gZ kp p b.2.1 b.2.2 gr s3 Xi (BF dn S8))::pY S8 wp::(X++C4)) (.perm ?_) ⟨p,C4,rfl,by simp[dst],by rw[gB,xaL];exact ZD,?_⟩,?_⟩
 ·exact(xaT (l₁:=X)).trans (List.Perm.cons _ xaT)
 ·rw[heq];cases dn<;>simp only[xag,xap]at ze⊢ <;>omega
 rintro H ⟨i,C5,_,rfl,hA5,hi⟩ gs;rw[heq]at hi;have hin:i<K.n:=by cases dn<;>simp only[xag,xap]at hi ze<;>omega
 have hdi:dst p i<=64:=by unfold dst;omega
 have Dv:=qd hn TU hin;intro J83 h83;refine DR.self (Ld.n ?_);refine Ld.n ?_;refine ae.AQ (Br.dec (λhne=>?_) (λhie=>?_))
 ·refine Ld.n ?_;intro F;refine aF.of (f:=stf dn) rfl (B9 dn) ?_;have Pj:aN (fy wp (gZ kp i b.2.1 b.2.2 gr (s3+dst p i) Xi (BF dn S8))::pY S8 wp::(X++C5)) (X++(fy wp (gZ kp i b.2.1 b.2.2 gr (s3+dst p i) Xi (BF dn S8))::pY S8 wp::C5)):=
   .perm ((xaT (l₁:=X)).trans (List.Perm.cons _ xaT)).symm
  refine aa.pre Pj ?_;have hstep:bif dn then p<=i/\i+1<K.n else 0<i/\i<=p:=by
   rw[heq]at hne;cases dn<;>simp only[xag,xap]at hi ze⊢ <;>omega
  have hfit:jc K S (az ord (road p i)) (Ya dn i):=by
   refine qe.1 (a4 i ?_);rw[heq]at hne;cases dn<;>simp only[xag,xap]at hi ze⊢ <;>omega
  refine aa.fn (args:=#[ptr S8]) (.app .here) (Ca hA5 TU hstep (by rw[xaf];omega) hfit zO) ?_;rintro w H ⟨rfl,C6,rfl,hA6⟩;refine ae.ik (aL.mk ?_);have BJ:s3+dst p i+1=s3+dst p (oS dn i):=by unfold dst oS;cases dn<;>simp only[xag,xap]at hstep⊢ <;>omega
  rw[BJ];refine JE.of (.perm ((xaT (l₁:=X)).trans (List.Perm.cons _ xaT))) (h83 _ _ λgs=>Br.yes ?_);refine aC.mk ⟨oS dn i,C6,rfl,rfl,hA6,?_⟩ ?_
  ·rw[heq]at hne⊢;unfold oS;cases dn<;>simp only[xag,xap]at hi hstep⊢ <;>omega
  have FY:∀i sw C',Ez (fy wp (gZ kp i b.2.1 b.2.2 gr sw Xi (BF dn S8))::C')=i:=λi sw C'=>by simp[Ez,fy,gZ,bJ]
  rw[FY,FY,heq];rw[heq]at hne;unfold oS dst;cases dn<;>simp only[xag,xap]at hi hstep⊢ <;>omega
 have hie:i=b.2.2:=xel.1 hie;subst hie;subst hr;refine JE.mk (h83 _ _ λgs=>Br.no ?_);refine JE.of ?_ (fin b.2.1 Xi (BF dn S8) C5 hA5);refine(aN.cons .tail).trans ?_;refine(aN.perm (xaT (l₁:=X)).symm).trans ?_;have e:s3+dst p b.2.2=dst a.1 p+dst a.1 p+dst b.1 p+(dst b.1 p+dst p b.2.2):=by omega
 rw[e];exact .refl _
end
end
section
theorem P7{n A:Nat}{L:List (zL)}(hn:n<=16)(hl:L.length<33554432){k:Nat}(hk:k<=n):(ak.st n L A k).length<2199023255551:=by
 have h2:=ak.sg n L A k;have h3:2^k<=2^16:=xaz zD zO;have h4:2^k*L.length<=2^16*L.length:=xaW _ h3;omega
theorem SH{B:Hp}{v1 v2:zV}{a b:zL}(h1:Words B v1 a)(h2:Words B v2 b)(cD:a.length<2^62):Rd zQ 386 #[v1,v2] B (· =.bool (decide (a=b))):=by
 refine aE λg=>G8 (h1.1.bP (h2.1.bP ?_));simp only[aq];refine ae.AQ (Br.dec (λh=>?_) (λh=>?_))
 ·exact bg.mk (.refl _) (by rw[xal (λe=>h (by rw[e]))])
 refine h1.1.bP ?_;simp only[aq];have hlen:a.length=b.length:=by omega
 refine⟨λvs H=>H=B/\∃j:Nat,vs=[iv (j:Int)]/\j<=a.length/\∀i,i<j->a[i]? =b[i]?,λvs _=>a.length-bJ vs 0,JE.mk ⟨rfl,0,rfl,by omega,by omega⟩,?_⟩;rintro w H ⟨rfl,j,⟨⟩,hj,aI⟩ gs;refine ae.eZ (Br.dec (λhlt=>?_) (λhlt=>?_))
 ·have ga:a[j]? =some a[j]:=xaa hlt;have gb:b[j]? =some b[j]:=xaa zO;refine h1.1.ld (cP ga) (λ_ h=>h) ?_;refine h2.1.ld (cP gb) (λ_ h=>h) ?_;refine ae.AQ (Br.dec (λhne=>?_) (λhne=>?_))
  ·exact bg.mk (.refl _) (by rw[xal];rintro rfl;exact hne rfl)
  refine ae.inc (aC.mk ⟨rfl,j+1,rfl,by omega,λi hi=>?_⟩ (by simp[bJ];omega));by_cases e:i=j
  ·subst e;rw[ga,gb];simp;omega
  exact aI i zO
 refine bg.mk (.refl _) ?_;rw[xan];apply xbd ;intro i;by_cases hi:i<a.length
 ·exact aI i zO
 rw[xaC zO,xaC zO]
theorem Q1{B:Hp}{v:zV}{n u A:Nat}{L:List (zL)}(ht:jH B v (L.map λws=>⟨n,ws⟩))(hf:∀ws∈L,ak.eY n ws)(hne:L≠[])(cD:L.length<4398046511104)(hA:A<2^n)(hu:u<n)(hAu:A.testBit u=false):
  Rd zQ 349 #[v,.int .u64 (A:Int),iv (u:Int)] B (· =.tuple #[iv ((ak.lvl n L A u:Nat):Int),iv 0]):=by
 obtain⟨w0,TS⟩:∃w0,L[0]? =some w0:=⟨_,xaa (xdc.2 hne)⟩;have wc:n<=16:=(hf w0 (xax TS)).xY;have ale:A<65536:=xaP hA (xaz (n:=2) zD wc);refine aE λg=>HD (aa.eq (vi ht zP) ?_);rw[xan (CQ hf)];refine Un.not (Br.no λJ hJ=>(ht.bP ?_));rw[xav];have hpos:0<L.length:=xdc.2 hne;refine ae.ny (b:=0) (Br.adg hpos (ht.ldN (i:=0) (t:=⟨n,w0⟩) (by rw[xat,TS];rfl) (λ_ h=>h) ?_));refine JE.mk (hJ _ _ λgs=>?_);simp only;refine ae.lss (dc.or (decide (n<=u)) (λ_=>?_) rfl λgs=>?_)
 ·exact ae.tI ⟨by trivial,rfl⟩
 rw[show(decide ((u:Int)<0)||decide (n<=u))=false by simp;omega];refine dc.or (decide (A>>>n≠0)) (λ_=>?_) rfl λgs=>?_
 ·exact ae.iM (by simp[bF];omega) (ae.AQ (b:=0) ⟨by trivial,rfl⟩)
 rw[show(false||decide (A>>>n≠0))=false by rw[xa0,xdt hA];rfl];apply Br.no;have abA:∀k,A>>>k<18446744073709551616:=λk=>xaA (xbl _ _) zO;refine ae.iM (by simp[bF];omega) (ae.jF (b:=1) (by simpa[bF]using abA u) zD (ae.eR (b:=1) (Br.SO (by rw[ak.uN,hAu];simp) (aa.fq (M3 ht rfl hf zO) ?_))));rintro r H ⟨b,es,ck,m,N,rfl,rfl,hE,hm⟩;have hbound:∀k,k<=n->∀m:List (List UInt8×zL),(m.map Prod.snd).Nodup->(∀x,x∈m.map Prod.snd↔x∈ak.st n L A k)->m.length<4611686018427387904:=by
  intro k hk m fc hmem;have h1:=(ak.ju fc (ak.nG n L A k) hmem).length_eq;have h2:=ak.sg n L A k;have h3:2^k<=2^16:=xaz zD zO;have h4:2^k*L.length<=2^16*L.length:=xaW _ h3;rw[xav]at h1;omega
 refine⟨λvs H=>∃(k:Nat) (b:Nat) (es:Array MapEntry) (ck:Nat) (m:List (List UInt8×zL)) (N:Hp),vs=[.map (some b),iv (k:Int)]/\k<=n/\H=(b,.map es ck)::(N++B)/\gF n (N++B) es ck m/\∀x,x∈m.map Prod.snd↔x∈ak.st n L A k,
  λvs _=>n-bJ vs 1,JE.mk ⟨0,b,es,ck,m,N,rfl,by omega,rfl,hE,λx=>by rw[hm];exact ak.gp.symm⟩,?_⟩
 clear hm hE;rintro w25 w26 H ⟨k,b,es,ck,m,N,⟨⟩,hk,rfl,hE,hm⟩ gs;have sO:=hE.mono (B':=(b,Obj.map es ck)::(N++B)) zS;refine ae.eZ (Br.dec (λhlt=>?_) (λhlt=>?_))
 ·intro J hJ;refine ae.iM (by simp[bF];omega) (ae.jF (b:=1) (by simpa[bF]using abA k) zD (ae.eR (b:=1) (Br.dec (λh=>?_) (λh=>?_))))
  ·have hb:=(ak.uN A k).1 h;refine aa.fq (DK (.head _) sO hlt (hbound k hk m hE.nodup hm)) ?_;rintro r H ⟨b',es',bB,m',N',rfl,rfl,DF,hm'⟩;refine Ext.mk rfl (Ext.mk rfl (JE.mk (hJ _ _ λgs=>?_)));refine ae.inc (aC.mk ⟨k+1,b',es',bB,m',N'++(b,.map es ck)::N,rfl,by omega,by rw[xai];rfl,by rw[xai];exact DF,λx=>?_⟩ (by simp[bJ];omega));rw[hm',ak.st,xae hb,ak.cf];constructor
   ·rintro⟨t,h1,h2⟩;exact⟨t,(hm t).1 h1,h2⟩
   rintro⟨t,h1,h2⟩;exact⟨t,(hm t).2 h1,h2⟩
  have hb:A.testBit k=false:=by cases hh:A.testBit k;rfl;exact absurd ((ak.uN A k).2 hh) h
  refine JE.mk (hJ _ _ λgs=>?_);refine ae.inc (aC.mk ⟨k+1,b,es,ck,m,N,rfl,by omega,rfl,hE,λx=>?_⟩ (by simp[bJ];omega));rw[hm,ak.st,hb];simp
 have:k=n:=by omega
 subst this;refine aa.fq (DK (.head _) sO hu (hbound k hk m hE.nodup hm)) ?_;rintro r H ⟨b',es',bB,m',N',rfl,rfl,DF,hm'⟩;refine Ext.mk rfl (Ext.mk rfl (bg.mk ?_ ?_))
 ·exact .skip (.fS (.skip .right))
 have:=ak.mL (n:=k) (v:=u) (ak.ju hE.nodup (ak.nG k L A k) hm);unfold ak.lvl;rw[<-this];rfl
theorem uX{B:Hp}{v:zV}{t:Tb}(ht:EN B v t):Rd zQ 348 #[v] B (· =.tuple (if TF t then#[.int .u64 ((ak.pZ t.n.toNat t.ws:Nat):Int),iv 0]else#[.int .u64 0,iv 5])):=by
 obtain⟨tn,ws⟩:=t;obtain⟨s,rfl,hw⟩:=ht;simp only at hw⊢;refine aE λg=>HE λb1 _=>?_;refine ay.q ?_;refine wR λb2=>?_;refine aa.rd .here (wy (t:=⟨tn,ws⟩) (by exact .head _) (hw.mono zS)) ?_;rintro v rfl;apply Un.not;by_cases hT:TF ⟨tn,ws⟩
 case neg=>
  rw[xal hT,xac hT];exact Br.yes (bg.mk (by repeat (first|exact aN.refl _|apply aN.cons|apply aN.skip|apply aN.cU|apply aN.fS)) rfl)
 rw[xan hT,xae hT];apply Br.no;obtain⟨n,rfl⟩:∃n:Nat,tn=n:=⟨tn.toNat,by have:=hT.1;simp only at this;omega⟩;have hf:ak.eY n ws:=by have:=hT.2;simpa using this
 refine ai.mk (Ld.mk zM rfl ?_);refine⟨λvs H=>∃(k:Nat) (N:Hp),vs=[.int .u64 ((ak.lg n ws k:Nat):Int),iv (k:Int)]/\k<=n/\H=(b1,.cells (Value.cells (.agg #[iv (n:Int),s])) 116 zZ)::(N++B),
  λvs _=>n-bJ vs 1,JE.of .tail ⟨0,[],rfl,by omega,rfl⟩,?_⟩
 rintro w15 w16 H ⟨k,N,⟨⟩,hk,rfl⟩ gs;have wc:=hf.xY;have RC:=ak.nF n ws k;have ajV:ak.lg n ws k<65536:=xaP RC (xaz (n:=2) zD (by omega:k<=16));refine ae.eZ (Br.dec (λhlt=>?_) (λhlt=>?_))
 ·intro J hJ;refine DR.self (ay.q (ay.q ?_));refine aa.pq (B:=N++B) (A9 (v:=.agg (List.toArray [iv (n:Int),s])) ⟨s,rfl,hw.mono zS⟩ hf hlt) ?_;rintro v N1 ⟨s1,rfl,jy⟩;refine⟨.cons .right,An.mk rfl ?_⟩;refine aa.pq (B:=N1++(N++B)) (A9 (v:=.agg (List.toArray [iv (n:Int),s])) ⟨s,rfl,hw.mono zS⟩ hf hlt) ?_;rintro v N2 ⟨s2,rfl,pJ⟩;refine⟨.cons (.fS .right),An.mk rfl ?_⟩;refine aa.eq (B:=N2++(N1++(N++B))) (SH (jy.mono zS) pJ (by have:=uJ (ak.er (v:=k) (ws:=ws) (b:=false) hf.xY);simp only;omega)) (⟨.cons (.fS .right),Un.not ?_⟩);have ie:JE J [.int .u64 ((ak.lg n ws (k+1):Nat):Int)] ((b1,.cells (Value.cells (.agg #[iv (n:Int),s])) 116 zZ)::(N2++(N1++(N++B)))):=by
   refine JE.mk (hJ _ _ λgs=>?_);exact ae.inc (aC.mk ⟨k+1,N2++(N1++N),rfl,by omega,by rw[xai,xai]⟩ (by simp[bJ];omega))
  rw[ak.lg]at ie;by_cases hd:ak.dep n ws k=true
  ·rw[xae hd]at ie;have:ak.iK n ws k false≠ak.iK n ws k true:=by simpa[ak.dep]using hd
   rw[xal this];refine Br.yes (ae.nL (a:=1) ?_);have h2:2^k<65536:=xaP (xby (n:=16) zD zO) zD;rw[xa5,xbi zO];exact ae.K6 (by simp[bF];omega) (by simp[bF];omega) ie
  rw[xac hd]at ie;have:ak.iK n ws k false=ak.iK n ws k true:=by simpa[ak.dep]using hd
  rw[xan this];exact Br.no ie
 have:k=n:=by omega
 subst this;refine bg.mk (.skip .right) ?_;simp[ak.pZ]
theorem QM{B:Hp}{v:zV}{ts:List Tb}(ht:jH B v ts)(cD:ts.length<4398046511104):Px zQ 347 #[v] B (λr _=>∃s,r=.tuple #[s,iv (if rW ts then 0 else 5)]):=by
 refine aE λg=>HG (aa.eq (vi ht zO) (Un.not ?_));by_cases hO:rW ts
 case neg=>rw[xal hO,xac hO];exact Br.yes (GQ.mk (.refl _) ⟨_,rfl⟩)
 rw[xan hO,xae hO];refine Br.no (ht.bP (ae.eR (b:=0) (Br.dec (λh0=>GQ.mk (.refl _) ⟨_,rfl⟩) (λh0=>?_))));obtain⟨n,L,wc,rfl,hne,hf⟩:=K8 hO (by intro e;rw[e]at h0;exact h0 rfl);rw[xav]at cD;obtain⟨w0,TS⟩:∃w0,L[0]? =some w0:=⟨_,xaa (xdc.2 hne)⟩;refine ht.ldN (i:=0) (t:=⟨n,w0⟩) (by rw[xat,TS];rfl) (λ_ h=>h) ?_;simp only;refine cV.ints zO zO λbw=>?_;refine ht.bP ?_;refine⟨λvs H=>∃(k:Nat) (l:zL),vs=[iv (k:Int)]/\k<=L.length/\H=(bw,.cells (ax .u64 (iw l)) 33 zZ)::B/\l.length=n/\∀w∈l,w<18446744073709551616,
  λvs _=>L.length-bJ vs 0,JE.mk ⟨0,List.replicate n 0,rfl,by omega,by simp[iw],by simp,λw hw=>by rw[xbZ hw];decide⟩,?_⟩
 rintro w H ⟨k,l,⟨⟩,hk,rfl,hl,Xy⟩ gs;rw[xav];refine ae.eZ (Br.dec (λhlt=>?_) (λhlt=>?_))
 ·have hg:(L.map λws=>(⟨n,ws⟩:Tb))[k]? =some ⟨n,L[k]⟩:=by rw[xat,xaa hlt];rfl
  have pw:=hf L[k] (xaB hlt);refine ht.ld hg zS λs hw=>?_;intro b2 _;refine St.p ?_ ?_
  ·have:=bO hw;simpa[Value.oneCell']using this
  refine ay.q ?_;refine aa.eq (B:=B) (uX (v:=.agg (List.toArray [iv (n:Int),s])) (t:=⟨n,L[k]⟩) ⟨s,rfl,hw⟩) ?_;rw[xae (show TF ⟨(n:Int),L[k]⟩from⟨by simp,by simpa using pw⟩)];refine Ext.mk rfl (Ext.mk rfl (aR.mk ?_));simp only[xbe];have aby:ak.pZ n L[k]<65536:=xaP (ak.nF n L[k] n) (xaz (n:=2) zD wc);refine⟨λvs H=>∃(j:Nat) (l:zL),vs=[iv (j:Int)]/\j<=n/\H=(bw,.cells (ax .u64 (iw l)) 33 zZ)::B/\l.length=n/\∀w∈l,w<18446744073709551616,
   λvs _=>n-bJ vs 0,JE.of .tail ⟨0,l,rfl,by omega,rfl,hl,Xy⟩,?_⟩
  rintro w H ⟨j,l,⟨⟩,hj,rfl,hl,Xy⟩ gs;refine ae.eZ (Br.dec (λXz=>?_) (λXz=>?_))
  ·intro J hJ;have ie:∀l:zL,l.length=n->(∀w∈l,w<18446744073709551616)->JE J [] ((bw,.cells (ax .u64 (iw l)) 33 zZ)::B):=λl hl Xy=>by
    refine JE.mk (hJ _ λgs=>?_);exact ae.inc (aC.mk ⟨j+1,l,rfl,by omega,rfl,hl,Xy⟩ (by simp[bJ];omega))
   have hsh:ak.pZ n L[k]>>>j<65536:=xaA (xbl _ _) aby;refine ae.iM (by simp[bF];omega) (ae.jF (b:=1) (by simp[bF];omega) zD (ae.eR (b:=1) (Br.dec (λh=>?_) (λh=>ie l hl Xy))));refine DR.self ?_;have hgj:l[j]? =some l[j]:=xaa zO;have hlj:=Xy _ (xaB (show j<l.length by omega));refine av.nat Xz ?_;refine Ld.mk (v:=.int .u64 (l[j]:Int)) (by exact .head _) (by simp[ax,iw,hgj]) ?_;refine ae.nL (a:=1) ?_;have h2:2^j<65536:=xaP (xby (n:=16) zD zO) zD;rw[xa5,xbi zO];refine ae.Ei (by simp[bF];omega) (by simp[bF];omega) ?_;have h3:=m7 (ak.pZ n L[k]) (2^j);refine ae.K6 (by simp only[bF];exact hlj) (by simp only[bF];omega) (av.nat Xz ?_);refine St.ints (l:=iw l) (by exact .head _) zP ?_;have e:(iw l).set j ((l[j]|||m8 (ak.pZ n L[k]) (2^j):Nat):Int)=iw (l.set j (l[j]|||m8 (ak.pZ n L[k]) (2^j))):=by simp[iw,xcP]
   rw[e];refine ie _ (by simp[hl]) λw hw=>?_;rcases xcf hw with hw|rfl
   ·exact Xy w hw
   exact xbG (n:=64) hlj zO
  exact ae.inc (aC.mk ⟨k+1,l,rfl,by omega,rfl,hl,Xy⟩ (by simp[bJ];omega))
 exact GQ.mk (by repeat (first|exact bV.refl _|apply bV.cons|apply bV.app)) ⟨_,rfl⟩
end
end Go.Proofs
namespace ak
open Go.Sx
def gC:zL->Nat
 | []=>0
 |x::r=>r.foldl min x
theorem rL:∀(r:zL) (x:Nat),r.foldl min x<=x/\∀y∈r,r.foldl min x<=y
 | [],x=>⟨xaj _,by simp⟩
 |z::r,x=>by
  obtain⟨h1,h2⟩:=rL r (min x z);refine⟨by rw[xcE];omega,λy hy=>?_⟩;rw[xcE];rcases xak.1 hy with rfl|hy
  ·omega
  exact h2 y hy
theorem pP:∀(r:zL) (x:Nat),r.foldl min x=x\/r.foldl min x∈r
 | [],x=>.inl rfl
 |z::r,x=>by
  rw[xcE];rcases pP r (min x z)with h|h
  ·rw[h];rcases Nat.le_total x z with h'|h'
   ·left;omega
   right;rw[xdu h'];simp
  right;exact xbu _ h
theorem Db{l:zL}{y:Nat}(h:y∈l):gC l<=y:=by
 cases l with
 |nil=>simp at h
 |cons x r=>
  obtain⟨h1,h2⟩:=rL r x;rcases xak.1 h with rfl|h
  ·exact h1
  exact h2 y h
theorem oU{l:zL}(h:l≠[]):gC l∈l:=by
 cases l with
 |nil=>exact absurd rfl h
 |cons x r=>
  rcases pP r x with h|h
  ·show r.foldl min x∈_;rw[h];simp
  exact xbu _ h
theorem Dc{l:zL}{m:Nat}(h1:m∈l)(h2:∀y∈l,m<=y):gC l=m:=
 xd3 (Db h1) (h2 _ (oU (by intro e;rw[e]at h1;simp at h1)))
theorem FC(l:zL)(x:Nat):gC (l++[x])=if l=[]then x else min (gC l) x:=by
 cases l with
 |nil=>rfl
 |cons y r=>simp[gC,xdo]
def bM(n a:Nat):zL:=(List.range n).filter λv=> !a.testBit v
def has(n a:Nat):zL:=(List.range n).filter λv=>a.testBit v
theorem cO{n a v:Nat}:v∈bM n a↔v<n/\a.testBit v=false:=by simp[bM]
theorem rf{n a v:Nat}:v∈has n a↔v<n/\a.testBit v=true:=by simp[has]
theorem n9{α:Type}(p q:α->Bool)(x:α):∀(l:List α),l.Nodup->x∈l->p x=true->q x=false->(∀y∈l,y≠x->q y=p y)->(l.filter q).length+1=(l.filter p).length
 | [],_,h,_,_,_=>by simp at h
 |y::l,nd,h,hp,hq,aI=>by
  rw[xaV]at nd;by_cases e:y=x
  ·subst e;have hsame:l.filter q=l.filter p:=by
    apply xdn;intro z hz;exact aI z (by simp[hz]) (λe=>nd.1 (e▸hz))
   rw[xbk,xbk,hp,hq,hsame];simp
  have hxl:x∈l:=by rcases xak.1 h with h|h;exact absurd h.symm e;exact h
  have ih:=n9 p q x l nd.2 hxl hp hq λz hz hne=>aI z (by simp[hz]) hne;have hy:=aI y zI e;rw[xbk,xbk,hy];cases p y
  ·simpa using ih
  simp only[xa6,xaw];omega
theorem qW{a u v:Nat}(h:v≠u):(aB a u true).testBit v=a.testBit v:=by rw[aj,xac h]
theorem gK{n a v:Nat}(h:v∈bM n a):(bM n (aB a v true)).length+1=(bM n a).length:=by
 obtain⟨h1,h2⟩:=cO.1 h;refine n9 _ _ v (List.range n) xbj (xaN.2 h1) (by simp[h2]) (by simp[aj]) λy hy hne=>?_;rw[qW hne]
def Th(n:Nat)(c:Nat->Nat->Nat):Nat->Nat->Nat
 |0,_=>0
 |f+1,a=>gC ((bM n a).map λv=>c a v+Th n c f (aB a v true))
def par(n:Nat)(c:Nat->Nat->Nat):Nat->Nat->Nat
 |0,_=>0
 |f+1,s=>gC ((has n s).map λv=>c (aB s v false) v+par n c f (aB s v false))
theorem Ec{n:Nat}{c:Nat->Nat->Nat}:∀(f:Nat) (a:Nat),(bM n a).length<=f->Th n c (f+1) a=Th n c f a
 |0,a,h=>by
  have:bM n a=[]:=xcM.1 zO;simp[Th,this,gC]
 |f+1,a,h=>by
  rw[Th,Th];congr 1;apply xbg;intro v hv;rw[Ec f _ (by have:=gK hv;omega)]
theorem Vb(n a:Nat):(bM n a).length<=n:=by have:=xb1 (λv=> !a.testBit v) (List.range n);simpa[bM]using this
def B(n:Nat)(c:Nat->Nat->Nat)(a:Nat):Nat:=Th n c n a
def W(n:Nat)(c:Nat->Nat->Nat)(s:Nat):Nat:=par n c n s
theorem Kv(n:Nat)(c:Nat->Nat->Nat)(a:Nat):B n c a=gC ((bM n a).map λv=>c a v+B n c (aB a v true)):=by
 unfold B;rw[<-Ec n a (Vb n a)];rfl
theorem adD{n:Nat}{c:Nat->Nat->Nat}{a v:Nat}(hv:v∈bM n a):B n c a<=c a v+B n c (aB a v true):=by
 rw[Kv n c a];exact Db (xam.2 ⟨v,hv,rfl⟩)
theorem adE{n:Nat}{c:Nat->Nat->Nat}{a:Nat}(h:bM n a≠[]):∃v∈bM n a,B n c a=c a v+B n c (aB a v true):=by
 have:=oU (l:=(bM n a).map λv=>c a v+B n c (aB a v true)) (by simpa using h);rw[<-Kv]at this;obtain⟨v,hv,e⟩:=xam.1 this;exact⟨v,hv,e.symm⟩
theorem Ma{n:Nat}{c:Nat->Nat->Nat}{a:Nat}(h:bM n a=[]):B n c a=0:=by rw[Kv,h];rfl
structure Used(n:Nat)(c:Nat->Nat->Nat)(U:Nat):Prop where
 zero:∀a v,v<n->a.testBit v=false->U.testBit v=false->c a v=0
 mask:∀a v,v<n->a.testBit v=false->c a v=c (a&&&U) v
theorem oh{a U v:Nat}{b:Bool}:(aB a v b) &&&U=if U.testBit v then aB (a&&&U) v b else a&&&U:=by
 apply xaY;intro k;by_cases hU:U.testBit v=true
 ·rw[xae hU,xbh,aj,aj,xbh];by_cases e:k=v
  ·subst e;simp[hU]
  simp[e]
 rw[xac hU,xbh,aj,xbh];by_cases e:k=v
 ·subst e;simp[hU]
 simp[e]
def dB(n U a:Nat):zL:=(bM n a).filter λv=>U.testBit v
theorem fD{n U a v:Nat}:v∈dB n U a↔v<n/\a.testBit v=false/\U.testBit v=true:=by simp[dB,cO,and_assoc]
theorem lF(n U a:Nat):dB n U (a&&&U)=dB n U a:=by
 unfold dB bM;rw[xdi,xdi];apply xdn;intro v _;rw[xbh];cases a.testBit v<;>cases U.testBit v<;>rfl
theorem Ku{n U:Nat}{c:Nat->Nat->Nat}(hU:Used n c U):∀(d a:Nat),(bM n a).length=d->B n c a=gC ((dB n U a).map λv=>c (a&&&U) v+B n c (aB a v true))/\∀a',(bM n a').length<=d->a'&&&U=a&&&U->B n c a'=B n c a:=by
 intro d;induction d using Nat.strongRecOn with
 |_ d ih=>
  have key:∀a,(bM n a).length=d->B n c a=gC ((dB n U a).map λv=>c (a&&&U) v+B n c (aB a v true)):=by
   intro a hd;by_cases hm:bM n a=[]
   ·have h1:dB n U a=[]:=by unfold dB;rw[hm];rfl
    rw[h1,Ma hm];rfl
   have hle:∀v∈dB n U a,B n c a<=c (a&&&U) v+B n c (aB a v true):=λv hv=>by
    obtain⟨h1,h2,h3⟩:=fD.1 hv;rw[<-hU.mask a v h1 h2];exact adD (cO.2 ⟨h1,h2⟩)
   obtain⟨v,hv,he⟩:=adE (c:=c) hm;obtain⟨h1,h2⟩:=cO.1 hv;by_cases hu:U.testBit v=true
   ·symm;refine Dc (xam.2 ⟨v,fD.2 ⟨h1,h2,hu⟩,by rw[<-hU.mask a v h1 h2];exact he.symm⟩) λy hy=>?_;obtain⟨w,hw,rfl⟩:=xam.1 hy;exact hle w hw
   have A1:U.testBit v=false:=by simpa using hu
   rw[hU.zero a v h1 h2 A1,xa3]at he;have hlt:(bM n (aB a v true)).length<d:=by have:=gK hv;omega
   have hand:aB a v true&&&U=a&&&U:=by rw[oh,xac hu]
   obtain⟨k1,k2⟩:=ih _ hlt (aB a v true) rfl;have Xx:dB n U (aB a v true)=dB n U a:=by rw[<-lF,hand,lF]
   by_cases F3:dB n U a=[]
   ·rw[Xx,F3]at k1;rw[he,k1,F3];rfl
   symm;rw[Xx,hand]at k1;have hmem:=oU (l:=(dB n U a).map λw=>c (a&&&U) w+B n c (aB (aB a v true) w true)) (by simpa using F3);rw[<-k1]at hmem;obtain⟨w,hw,j8⟩:=xam.1 hmem;obtain⟨w1,w2,w3⟩:=fD.1 hw;have hwv:w≠v:=λe=>by rw[e]at w3;rw[A1]at w3;cases w3
   have XF:aB (aB a v true) w true=aB (aB a w true) v true:=by
    apply xaY;intro k;rw[aj,aj,aj,aj];by_cases e1:k=w<;>by_cases e2:k=v<;>simp[e1,e2]
   have hmw:w∈bM n a:=cO.2 ⟨w1,w2⟩;have hsub:B n c (aB (aB a v true) w true)=B n c (aB a w true):=by
    have uk:(bM n (aB a w true)).length<d:=by have:=gK hmw;omega
    refine(ih _ uk (aB a w true) rfl).2 _ ?_ ?_
    ·have hvm:v∈bM n (aB a w true):=cO.2 ⟨h1,by rw[aj,xac (xa9 hwv)];exact h2⟩;have:=gK hvm;rw[XF];omega
    rw[XF,oh,xac hu]
   have hval:c (a&&&U) w+B n c (aB a w true)=B n c a:=by rw[he,<-j8,hsub]
   refine Dc (xam.2 ⟨w,hw,hval⟩) λy hy=>?_;obtain⟨z,hz,rfl⟩:=xam.1 hy;exact hle z hz
  intro a hd;refine⟨key a hd,λa' dN hand=>?_⟩;have Xx:dB n U a'=dB n U a:=by rw[<-lF,hand,lF]
  have h':B n c a'=gC ((dB n U a').map λv=>c (a'&&&U) v+B n c (aB a' v true)):=by
   rcases xeq (bM n a').length d with h|h
   ·exact(ih _ h a' rfl).1
   exact key a' zO
  rw[h',key a hd,Xx,hand];congr 1;apply xbg;intro v hv;congr 1;obtain⟨v1,v2,v3⟩:=fD.1 hv;have hma:v∈bM n a:=cO.2 ⟨v1,v2⟩;have afu:v∈bM n a':=by
   rw[<-Xx]at hv;exact cO.2 ⟨v1,(fD.1 hv).2.1⟩
  have hlt:(bM n (aB a v true)).length<d:=by have:=gK hma;omega
  refine(ih _ hlt (aB a v true) rfl).2 _ ?_ ?_
  ·have:=gK afu;have:=gK hma;omega
  rw[oh,oh,hand]
theorem XZ{n U:Nat}{c:Nat->Nat->Nat}(hU:Used n c U)(a:Nat):B n c (a&&&U)=B n c a:=by
 have e:(a&&&U) &&&U=a&&&U:=by rw[Nat.and_assoc,Nat.and_self]
 rcases Nat.le_total (bM n (a&&&U)).length (bM n a).length with h|h
 ·exact(Ku hU _ a rfl).2 _ h e
 exact((Ku hU _ (a&&&U) rfl).2 a h e.symm).symm
theorem adC{n U:Nat}{c:Nat->Nat->Nat}(hU:Used n c U)(a:Nat):B n c a=gC ((dB n U a).map λv=>c (a&&&U) v+B n c (aB (a&&&U) v true)):=by
 rw[(Ku hU _ a rfl).1];congr 1;apply xbg;intro v hv;obtain⟨v1,v2,v3⟩:=fD.1 hv;congr 1;rw[<-XZ hU (aB a v true),oh,xae v3]
def ord(n:Nat)(c:Nat->Nat->Nat):Nat->Nat->zL
 |0,_=>[]
 |f+1,a=>match(bM n a).find? λv=>c a v+B n c (aB a v true)==B n c a with
  |some v=>v::ord n c f (aB a v true)
  |none=>[]
theorem vG{n:Nat}{c:Nat->Nat->Nat}{f a:Nat}(h:bM n a≠[]):∃v,v∈bM n a/\c a v+B n c (aB a v true)=B n c a/\(∀u∈bM n a,u<v->c a u+B n c (aB a u true)≠B n c a)/\ord n c (f+1) a=v::ord n c f (aB a v true):=by
 obtain⟨w,hw,he⟩:=adE (c:=c) h;cases hf:(bM n a).find? λv=>c a v+B n c (aB a v true)==B n c a with
 |none=>
  rw[xcz]at hf;exact absurd (by simpa using he.symm) (hf w hw)
 |some v=>
  have h1:=List.find?_some hf;refine⟨v,List.mem_of_find?_eq_some hf,by simpa using h1,λu hu huv=>?_,by rw[ord,hf]⟩;rw[xd4]at hf;obtain⟨_,as1,bs,hab,hno⟩:=hf;have hs:(bM n a).Pairwise (· < ·):=List.Pairwise.filter _ List.pairwise_lt_range;rw[hab]at hs hu;rcases xao.1 hu with hu|hu
  ·have:=hno u hu;simpa using this
  rw[List.pairwise_append]at hs;have h2:=hs.2.1;rw[List.pairwise_cons]at h2;rcases xak.1 hu with rfl|hu
  ·omega
  have:=h2.1 u hu;omega
end ak
namespace ak
open Go.Sx
theorem dj{x u v:Nat}{b c:Bool}(h:u≠v):aB (aB x u b) v c=aB (aB x v c) u b:=by
 apply xaY;intro k;rw[aj,aj,aj,aj];by_cases e1:k=u<;>by_cases e2:k=v
 ·exact absurd (e1.symm.trans e2) h
 ·simp[e1,h]
 ·simp[e2,xa9 h]
 simp[e1,e2]
theorem Wz{n u v:Nat}{ws:zL}{b:Bool}(hf:eY n ws)(hu:u<n)(hv:v<n)(h:dep n ws v=false):dep n (iK n ws u b) v=false:=by
 by_cases e:u=v
 ·subst e;cases hd:dep n (iK n ws u b) u
  ·rfl
  obtain⟨x,hx,hne⟩:=(uL (er hf.xY) hu).1 hd;rw[eX hf hu (fY hx hu),eX hf hu (fY hx hu)]at hne;refine absurd ?_ hne;congr 1;apply xaY;intro k;rw[aj,aj,aj,aj];by_cases e:k=u<;>simp[e]
 cases hd:dep n (iK n ws u b) v
 ·rfl
 obtain⟨x,hx,hne⟩:=(uL (er hf.xY) hv).1 hd;rw[eX hf hu (fY hx hv),eX hf hu (fY hx hv),dj (xa9 e),dj (xa9 e)]at hne;have:=(uL hf hv).2 ⟨aB x u b,fY hx hu,hne⟩;rw[h]at this;cases this
theorem Ax{n:Nat}{L:Fs}{A:Nat}(hL:∀t∈L,eY n t)(hn:n<=16){v:Nat}(hv:v<n)(h:∀t∈L,dep n t v=false):∀k,k<=n->∀t∈st n L A k,dep n t v=false
 |0,_,t,ht=>h t (gp.1 ht)
 |k+1,hk,t,ht=>by
  rw[st]at ht;split at ht
  ·obtain⟨u,hu,b,rfl⟩:=cf.1 ht;exact Wz (E9 hL hn k u hu) zO hv (Ax hL hn hv h k zO u hu)
  exact Ax hL hn hv h k zO t ht
def aX(n:Nat)(L:Fs):Nat:=L.foldl (λu t=>u|||pZ n t) 0
theorem pG(n v:Nat):∀(L:Fs) (u:Nat),(L.foldl (λu t=>u|||pZ n t) u).testBit v=(u.testBit v||L.any λt=>(pZ n t).testBit v)
 | [],u=>by simp
 |t::L,u=>by rw[xcE,pG n v L,xb0,List.any_cons,Bool.or_assoc]
theorem Av{n v:Nat}{L:Fs}:(aX n L).testBit v=L.any λt=>(pZ n t).testBit v:=by
 unfold aX;rw[pG];simp
theorem uR{n v:Nat}{L:Fs}(hv:v<n)(h:(aX n L).testBit v=false):∀t∈L,dep n t v=false:=by
 rw[Av,List.any_eq_false]at h;intro t ht;have:=h t ht;rw[pZ,iJ]at this;simpa[hv]using this
theorem DP(n:Nat):∀(L:Fs) (u:Nat),u<2^n->L.foldl (λu t=>u|||pZ n t) u<2^n
 | [],u,h=>h
 |t::L,u,h=>DP n L _ (xbG h (nF n t n))
theorem uS(n:Nat)(L:Fs):aX n L<2^n:=DP n L 0 (xbx n)
theorem KG{n:Nat}{L:Fs}{A:Nat}(hL:∀t∈L,eY n t)(hn:n<=16):∀k,k<=n->∀x,x∈st n L A k↔x∈st n L (A&&&aX n L) k
 |0,_,x=>xcT
 |k+1,hk,x=>by
  have ih:=KG (A:=A) hL hn k zO;rw[st,st,xbh];cases hA:A.testBit k
  ·simpa using ih x
  cases hU:(aX n L).testBit k
  ·simp only[xa6,xec,xaS,xa2];rw[cf,<-ih x];have hd:=Ax (A:=A) hL hn (v:=k) zO (uR zO hU) k zO;have hf:=E9 (A:=A) hL hn k;constructor
   ·rintro⟨t,ht,b,rfl⟩;rw[oc (hf t ht) zO (hd t ht)];exact ht
   intro hx;exact⟨x,hx,false,(oc (hf x hx) zO (hd x hx)).symm⟩
  simp only[xdS,xa6];rw[cf,cf];constructor
  ·rintro⟨t,ht,h⟩;exact⟨t,(ih t).1 ht,h⟩
  rintro⟨t,ht,h⟩;exact⟨t,(ih t).2 ht,h⟩
theorem KA{n:Nat}{L:Fs}(hL:∀t∈L,eY n t)(hn:n<=16):Used n (lvl n L) (aX n L):=by
 refine⟨λa v hv _ hU=>?_,λa v hv _=>?_⟩
 ·unfold lvl nodes;rw[xcM,xdl];intro t ht;rw[Ax hL hn hv (uR hv hU) n (xaj _) t ht];simp
 exact mL (ju (nG n L a n) (nG n L _ n) (KG hL hn n (xaj _)))
end ak
set_option maxRecDepth 100000
namespace Go.Proofs
open Go Go.Sx
def kp(x:Nat×Nat):zV:=.agg (ax .i64 [(x.1:Int),(x.2:Int)])
def ki(x:Nat):zV:=iv (x:Int)
theorem FO(a b:Nat):Instr.sameNow (.int .i64) (ki a) (ki b)=some (decide (a=b)):=by
 simp only[Instr.sameNow,ki,xa6,xaq];rw[xbS];simp;omega
theorem Vs(a:Nat):Instr.sameBits 10000 (ki a) (ki a)=true:=by simp[Instr.sameBits,ki]
theorem Q7(a b:Nat×Nat):Bz zQ 411 (kp a) (kp b) (decide (a=b)):=by
 have:=Bz.array (P:=zQ) (t:=411) (e:=3) (q:=.i64) (n:=2) zK zK zK [(a.1:Int),(a.2:Int)] [(b.1:Int),(b.2:Int)] rfl rfl;have e:decide ([(a.1:Int),(a.2:Int)]=[(b.1:Int),(b.2:Int)])=decide (a=b):=by
  rw[xcm];obtain⟨a1,a2⟩:=a;obtain⟨b1,b2⟩:=b;simp;omega
 rw[e]at this;exact this
theorem FM(a:Nat×Nat):mr zQ 411 (kp a):=mr.array (P:=zQ) (t:=411) (e:=3) (q:=.i64) (n:=2) zK zK zK _ rfl
theorem xU(n:Nat)(q:IntKind)(l:List Int):Instr.sameBits (n+1+1) (.agg (ax q l)) (.agg (ax q l))=true:=by
 simp only[Instr.sameBits,ax,xep,xcn,xc4];intro x hx;obtain⟨a,b⟩:=x;have h:=xdD hx;have e:a=b:=by
  rw[List.zip_eq_zip_take_min]at hx;obtain⟨i,hi,he⟩:=xa8.1 hx;simp at he;exact he.1.symm.trans he.2
 subst e;have:=h.1;simp only[xdC,xam]at this;obtain⟨y,_,rfl⟩:=this;simp[Instr.sameBits]
theorem Vp(a:Nat×Nat):Instr.sameBits 10000 (kp a) (kp a)=true:=xU 9998 _ _
abbrev vrN(v:zV)(x:Nat):Prop:=v=iv (x:Int)
structure LZ(n:Nat)(L:List (zL))(kx:Array MapEntry)(jN:Nat)(gR:Array MapEntry)(iF:Nat):Prop where
 ah:∃m,aD kp vrN kx jN m/\∀x∈m,x.2=ak.lvl n L x.1.1 x.1.2
 dow:∃m,aD ki vrN gR iF m/\∀x∈m,x.2=ak.B n (ak.lvl n L) x.1
def nj(bp bl bd:Nat)(xM:zV)(n:Nat)(L:List (zL))(U:Nat)(B H:Hp):Prop:=
 ∃kx jN gR iF,H=(bp,.cells #[xM,iv (n:Int),iv (U:Int),.map (some bl),.map (some bd)] 343 zZ)::(bl,.map kx jN)::(bd,.map gR iF)::B/\LZ n L kx jN gR iF
theorem C8{κ:Type}[DecidableEq κ]{f:κ->Nat}{m:List (κ×Nat)}{k:κ}(h:∀x∈m,x.2=f x.1):∀x∈dX m k (f k),x.2=f x.1:=by
 intro x hx;unfold dX at hx;split at hx
 ·obtain⟨y,hy,rfl⟩:=xam.1 hx;split
  ·rfl
  exact h y hy
 rcases xao.1 hx with hx|hx
 ·exact h x hx
 simp at hx;subst hx;rfl
theorem Dd{κ:Type}[DecidableEq κ]{f:κ->Nat}{m:List (κ×Nat)}{k:κ}{x:Nat}(h:∀x∈m,x.2=f x.1)(hk:aJ m k=some x):x=f k:=by
 unfold aJ at hk;obtain⟨y,hy,rfl⟩:=xdR.1 hk;have h1:=List.find?_some hy;have h2:=h y (List.mem_of_find?_eq_some hy);simp only[xaI]at h1;rw[h2,h1]
structure xf(xM:zV)(n:Nat)(L:List (zL))(B:Hp):Prop where
 tb:jH B xM (Mx n L)
 BS:∀ws∈L,ak.eY n ws
 ne:L≠[]
 small:L.length<33554432
 n12:n<=12
theorem FH{xM:zV}{n:Nat}{L:List (zL)}{B:Hp}(h:xf xM n L B)(a v:Nat):ak.lvl n L a v<2199023255551:=by
 have h1:ak.lvl n L a v<=(ak.st n L a n).length:=xb1 _ _;have h2:=P7 (n:=n) (A:=a) (L:=L) (by have:=h.n12;omega) h.small (xaj n);omega
theorem CZ{xM:zV}{n:Nat}{L:List (zL)}{B:Hp}(h:xf xM n L B){bp bl bd a v:Nat}{H:Hp}(hp:nj bp bl bd xM n L (ak.aX n L) B H)(ha:a<2^n)(hv:v<n)(hav:a.testBit v=false):
  Fc zQ 281 #[.pointer (some ⟨bp,0,none⟩),iv (a:Int),iv (v:Int)] H (λr H'=>r=iv ((ak.lvl n L a v:Nat):Int)/\nj bp bl bd xM n L (ak.aX n L) B H'):=by
 obtain⟨kx,jN,gR,iF,rfl,hM⟩:=hp;have hU:=ak.uS n L;have uh:=h.n12;have lY:2^n<=2^12:=xaz zD uh;have DE:=ak.KA h.BS zO;have hsU:ak.aX n L>>>v<=ak.aX n L:=xbl _ _;refine aE λg=>Iz (Nil.ptr ?_);refine ai.mk (Ld.mk zM rfl ?_);refine ae.iM (by simp[bF];omega) (ae.jF (b:=1) (by simp[bF];omega) zD (ae.eR (b:=0) ?_));have NC:ak.aX n L>>>v&&&1=0↔(ak.aX n L).testBit v=false:=by
  rw[ak.gv,xbD,xcu];cases (ak.aX n L).testBit v<;>simp
 refine Br.dec (λh0=>?_) (λh0=>?_)
 ·refine aM.here ⟨?_,kx,jN,gR,iF,rfl,hM⟩;rw[DE.zero a v hv hav (NC.1 h0)];rfl
 have hUv:(ak.aX n L).testBit v=true:=by cases hh:(ak.aX n L).testBit v;exact absurd (NC.2 hh) h0;rfl
 apply Nil.ptr;refine ai.mk (Ld.mk zM rfl ?_);refine ae.jF (by simp[bF];omega) (by simp[bF];omega) ?_;have hlv:ak.lvl n L a v=ak.lvl n L (a&&&ak.aX n L) v:=DE.mask a v hv hav;have XH:(a&&&ak.aX n L).testBit v=false:=by rw[xbh,hav];rfl
 have haU:a&&&ak.aX n L<2^n:=xaA xcg ha;rw[hlv];obtain⟨a',dY⟩:∃a',a'=a&&&ak.aX n L:=⟨_,rfl⟩;rw[<-dY]at XH haU⊢;refine Build.two (q:=.i64) (e:=3) zK zK zK ?_;rw[show ax .i64 [(a':Int),(v:Int)]=List.toArray [iv (a':Int),iv (v:Int)]from rfl];intro T6 _;refine St.q ?_;apply Nil.ptr;refine ai.mk (Ld.mk zM rfl ?_);refine ay.q ?_;obtain⟨⟨m1,T3,uj⟩,ach⟩:=hM;have abD:∀J:List zV->Hp->Prop,(∀w25:zV,∀H24:Hp,(∀alu:Fr,aM (λr H'=>r=iv ((ak.lvl n L a' v:Nat):Int)/\nj bp bl bd xM n L (ak.aX n L) B H') (.returned w25) H24)->J [w25] H24)->
   ∀Ww WA,LZ n L Ww WA gR iF->J [iv ((ak.lvl n L a' v:Nat):Int)] ((bp,.cells #[xM,iv (n:Int),iv ((ak.aX n L:Nat):Int),.map (some bl),.map (some bd)] 343 zZ)::(bl,.map Ww WA)::(bd,.map gR iF)::B):=
  λJ hJ Ww WA hM=>hJ _ _ λgs=>aM.here ⟨rfl,Ww,WA,gR,iF,rfl,hM⟩
 cases hg:aJ m1 (a',v)with
 |some x=>
  have hx:=Dd (f:=λk=>ak.lvl n L k.1 k.2) uj hg;simp only at hx;refine aD.F5 (ke:=kp) (k:=(a',v)) Q7 FM T3 (by exact .tail _ (.tail _ (.head _))) hg λy hy=>?_;subst hy;refine Ext.two λJ hJ=>(Un.not (Br.no (JE.of .tail ?_)));rw[hx];exact abD J hJ _ _ ⟨⟨m1,T3,uj⟩,ach⟩
 |none=>
  refine aD.vN (ke:=kp) (k:=(a',v)) Q7 FM T3 (by exact .tail _ (.tail _ (.head _))) hg ?_;refine Ext.two λJ hJ=>(Un.not (Br.yes (DR.self (Nil.ptr ?_))));refine ai.mk (Ld.mk zM rfl ?_);refine⟨T6,0,.i64,0,rfl,rfl,by decide,by decide,?_⟩;refine Ld.q ?_;refine aZ.q (aa.eq (B:=B) (Q1 (n:=n) (L:=L) h.tb h.BS h.ne (by have:=h.small;omega) haU hv XH) (⟨.refl _,Ext.mk rfl (Ext.mk rfl ?_)⟩));refine DR.of (R:=(T6,.cells (List.toArray [iv (a':Int),iv (v:Int)]) 411 zZ)::(bp,.cells #[xM,iv (n:Int),iv ((ak.aX n L:Nat):Int),.map (some bl),.map (some bd)] 343 zZ)::[]) (.cons (.cons (λg w h=>(Own.left (B:=_) (A:=[]) h)))) (Nil.ptr ?_);refine ai.mk (Ld.mk zM rfl ?_);refine ay.q ?_;refine aD.Mr (ke:=kp) (vr:=vrN) (b:=bl) (val:=iv ((ak.lvl n L a' v:Nat):Int)) (k:=(a',v)) (x:=ak.lvl n L a' v) Q7 FM Vp T3 rfl λes' bB DF=>⟨_,.tail (.tail (.head _)),?_⟩;have afx:∀x∈dX m1 (a',v) (ak.lvl n L a' v),x.2=ak.lvl n L x.1.1 x.1.2:=C8 (f:=λk:Nat×Nat=>ak.lvl n L k.1 k.2) (k:=(a',v)) uj;have Zz:LZ n L es' bB gR iF:=⟨⟨dX m1 (a',v) (ak.lvl n L a' v),DF,afx⟩,ach⟩;exact JE.of .tail (abD J hJ es' bB Zz)
end Go.Proofs
namespace Go.Sx
open Go
theorem vJ(n:Int):BitVec.ofInt 64 (IntKind.i64.wrap n)=BitVec.ofInt 64 n:=by
 apply BitVec.eq_of_toNat_eq;simp only[BitVec.toNat_ofInt,IntKind.wrap,IntKind.bits,IntKind.signed,xcn,xaI];congr 1;split<;>omega
theorem wrap_toInt(x:BitVec 64):IntKind.i64.wrap (x.toNat:Int)=x.toInt:=by
 rw[BitVec.toInt_eq_toNat_cond];have:=x.isLt;have e:(2:Int)^(64-1)=9223372036854775808:=rfl;simp only[IntKind.wrap,IntKind.bits,IntKind.signed,xcn,xaI,e];split<;>split<;>omega
theorem qq(op:BinOp)(x y:Int):BitVec.ofInt 64 (bits op .i64 x y)=(match op with
  | .and=>BitVec.ofInt 64 x&&&BitVec.ofInt 64 y
  | .or=>BitVec.ofInt 64 x|||BitVec.ofInt 64 y
  | .xor=>BitVec.ofInt 64 x^^^BitVec.ofInt 64 y
  |_=>BitVec.ofInt 64 x&&& ~~~BitVec.ofInt 64 y):=by
 unfold bits;simp only[vJ];rw[xcF];simp only[IntKind.bits];rw[BitVec.ofNat_toNat,BitVec.setWidth_eq];cases op<;>rfl
theorem wT(op:BinOp)(x y:Int):bits op .i64 x y=(BitVec.ofInt 64 (bits op .i64 x y)).toInt:=by
 unfold bits;simp only[vJ];rw[xcF];simp only[IntKind.bits];rw[BitVec.ofNat_toNat,BitVec.setWidth_eq];exact wrap_toInt _
theorem MZ{a U v:Nat}(ha:a<4611686018427387904)(hU:U<4611686018427387904)(hv:v<62):
  bits .and .i64 ((bits .or .i64 a (bits .xor .i64 (-1) U)).fdiv (2^(min (v:Int).toNat IntKind.i64.bits))) 1=if a.testBit v=true\/U.testBit v=false then 1 else 0:=by
 have hX:=qq .or (a:Int) (bits .xor .i64 (-1) U);simp only at hX;have hN:=qq .xor (-1) (U:Int);simp only at hN;rw[hN]at hX;generalize hx:bits .or .i64 a (bits .xor .i64 (-1) U)=x at hX;have hxi:x=(BitVec.ofInt 64 x).toInt:=by rw[<-hx];exact wT _ _ _
 have hm:min (v:Int).toNat IntKind.i64.bits=v:=by simp[IntKind.bits];omega
 rw[hm];have hs:x.fdiv (2^v)=((BitVec.ofInt 64 x).sshiftRight v).toInt:=by
  rw[BitVec.toInt_sshiftRight,<-hxi,Int.shiftRight_eq_div_pow,Int.fdiv_eq_ediv_of_nonneg _ (Int.le_of_lt (Int.pow_pos zD))]
  push_cast;rfl
 rw[hs,wT,qq];simp only[BitVec.ofInt_toInt];rw[hX];have h1:BitVec.ofInt 64 (1:Int)=1#64:=rfl;have h2:BitVec.ofInt 64 (-1:Int)=BitVec.allOnes 64:=by decide
 rw[h1,h2];have NC:((BitVec.ofInt 64 (a:Int)|||BitVec.allOnes 64^^^BitVec.ofInt 64 (U:Int)).sshiftRight v).getLsbD 0=(a.testBit v|| !U.testBit v):=by
  rw[BitVec.getLsbD_sshiftRight];have e1:v+0<64:=by omega
  simp only[xcu,show¬(64<=0)from by decide,xdp,xcp,xcn,show v<64 by omega,xa6];rw[BitVec.getLsbD_or,BitVec.getLsbD_xor,BitVec.getLsbD_allOnes,xcF,xcF,BitVec.getLsbD_ofNat,BitVec.getLsbD_ofNat];simp[show v<64 by omega]
 have ie:∀y:BitVec 64,(y&&&1#64).toInt=if y.getLsbD 0 then 1 else 0:=by
  intro y;have:y&&&1#64=if y.getLsbD 0 then 1#64 else 0#64:=by
   apply BitVec.eq_of_getLsbD_eq;intro i hi;rw[BitVec.getLsbD_and];by_cases h0:i=0
   ·subst h0;cases hb:y.getLsbD 0<;>simp[hb]
   have:(1#64).getLsbD i=false:=by simp[BitVec.getLsbD_one,h0]
   rw[this];cases y.getLsbD 0<;>simp[this]
  rw[this];cases y.getLsbD 0<;>decide
 rw[ie,NC];cases a.testBit v<;>cases U.testBit v<;>simp
theorem aa7{a U v:Nat}(ha:a<4611686018427387904)(hU:U<4611686018427387904)(hv:v<62){k:zV->Prop}(h:k (.bool (decide (a.testBit v=true\/U.testBit v=false)))):
  Un .xor (.int .i64 (U:Int)) λv33=>ae .num .or (.int .i64 (a:Int)) v33 λv34=>ae .num .shr v34 (.int .i64 (v:Int)) λv35=>ae .num .and v35 (.int .i64 1) λv36=>ae .num .eql v36 (.int .i64 1) k:=by
 refine⟨_,rfl,_,rfl,?_⟩;have h0:¬((v:Int)<0):=by omega
 refine⟨_,by simp only[gX,h0,xa2];rfl,_,rfl,?_⟩;refine ae.ik ?_;have hs:(if IntKind.i64.signed=true then(-1:Int)else IntKind.i64.max)= -1:=rfl;rw[hs,MZ ha hU hv];by_cases hc:a.testBit v=true\/U.testBit v=false
 ·rw[xae hc];rw[xan hc]at h;exact h
 rw[xac hc];rw[xal hc]at h;exact h
end Go.Sx
set_option maxRecDepth 100000
namespace Go.Proofs
open Go Go.Sx
section
theorem iR(x:zV)(r:List zV)(i:Nat):bJ (x::r) (i+1)=bJ r i:=by cases x<;>rfl
def jQ(n:Nat)(L:List (zL))(U a k:Nat):zL:=((List.range k).filter λv=> !a.testBit v&&U.testBit v).map λv=>ak.lvl n L a v+ak.B n (ak.lvl n L) (ak.aB a v true)
theorem MI{n:Nat}{L:List (zL)}{U a:Nat}:jQ n L U a n=(ak.dB n U a).map λv=>ak.lvl n L a v+ak.B n (ak.lvl n L) (ak.aB a v true):=by
 unfold jQ ak.dB ak.bM;rw[xdi];congr 1;apply xdn;intro v _;cases a.testBit v<;>cases U.testBit v<;>rfl
theorem vg{n:Nat}{L:List (zL)}{U a k:Nat}:jQ n L U a (k+1)=if a.testBit k=true\/U.testBit k=false then jQ n L U a k else jQ n L U a k++[ak.lvl n L a k+ak.B n (ak.lvl n L) (ak.aB a k true)]:=by
 unfold jQ;rw[xci,xb4,xaE];cases h1:a.testBit k<;>cases h2:U.testBit k<;>simp[h1,h2]
def z5(l:zL):zV:=if l=[]then iv (-1)else iv ((ak.gC l:Nat):Int)
theorem Tg(n:Nat)(c:Nat->Nat->Nat)(M:Nat)(hc:∀a v,c a v<=M):∀f a,ak.Th n c f a<=f*M
 |0,a=>by simp[ak.Th]
 |f+1,a=>by
  rw[ak.Th,xbq];by_cases h:ak.bM n a=[]
  ·rw[h];simp[ak.gC]
  have:=ak.oU (l:=(ak.bM n a).map λv=>c a v+ak.Th n c f (ak.aB a v true)) (by simpa using h);obtain⟨v,_,e⟩:=xam.1 this;rw[<-e];have h1:=hc a v;have h2:=Tg n c M hc f (ak.aB a v true);omega
theorem L9{xM:zV}{n:Nat}{L:List (zL)}{B:Hp}(h:xf xM n L B)(a:Nat):ak.B n (ak.lvl n L) a<35184372088832:=by
 have h1:=Tg n (ak.lvl n L) 2199023255551 (λa v=>xb7 (FH h a v)) n a;have h2:n*2199023255551<=12*2199023255551:=xaW _ h.n12;unfold ak.B;omega
theorem Bu{a U n:Nat}(hU:U<2^n)(h:∀v,v<n->¬(a.testBit v=false/\U.testBit v=true)):a&&&U=U:=by
 apply xaY;intro k;rw[xbh];by_cases hk:k<n
 ·have:=h k hk;cases h1:a.testBit k<;>cases h2:U.testBit k<;>simp_all
 have:U.testBit k=false:=xb8 (xaP hU (xaz zD zO));rw[this];simp
theorem r5{xM:zV}{n:Nat}{L:List (zL)}{B:Hp}(h:xf xM n L B){bp bl bd:Nat}:∀(d a:Nat),(ak.dB n (ak.aX n L) a).length<=d->a<2^n->∀H,nj bp bl bd xM n L (ak.aX n L) B H->
  Fc zQ 282 #[.pointer (some ⟨bp,0,none⟩),iv (a:Int)] H (λr H'=>r=iv ((ak.B n (ak.lvl n L) a:Nat):Int)/\nj bp bl bd xM n L (ak.aX n L) B H'):=by
 have hU:=ak.uS n L;have uh:=h.n12;have lY:2^n<=2^12:=xaz zD uh;have DE:=ak.KA h.BS zO;intro d;induction d using Nat.strongRecOn with
 |_ d ih=>
  intro a hd ha H hp;obtain⟨kx,jN,gR,iF,rfl,hM⟩:=hp;refine aE λg=>xA (Nil.ptr ?_);refine ai.mk (Ld.mk zM rfl ?_);refine ae.jF (by simp[bF];omega) (by simp[bF];omega) (Nil.ptr ?_);refine ai.mk (Ld.mk zM rfl ?_);have hBa:ak.B n (ak.lvl n L) a=ak.B n (ak.lvl n L) (a&&&ak.aX n L):=(ak.XZ DE a).symm;have Xx:ak.dB n (ak.aX n L) (a&&&ak.aX n L)=ak.dB n (ak.aX n L) a:=ak.lF _ _ _;have haU:a&&&ak.aX n L<2^n:=xaA xcg ha;have iV:(a&&&ak.aX n L) &&&ak.aX n L=a&&&ak.aX n L:=by rw[Nat.and_assoc,Nat.and_self]
  rw[hBa];rw[<-Xx]at hd;obtain⟨a',dY⟩:∃a',a'=a&&&ak.aX n L:=⟨_,rfl⟩;rw[<-dY]at haU hd iV⊢;clear hBa Xx ha dY;have aI:=MI (n:=n) (L:=L) (U:=ak.aX n L) (a:=a');have abE:ak.B n (ak.lvl n L) a'=ak.gC (jQ n L (ak.aX n L) a' n):=by
   rw[aI];have:=ak.adC DE a';rw[iV]at this;exact this
  refine ae.eR (Br.dec (λh0=>?_) (λh0=>?_))
  ·refine aM.here ⟨?_,kx,jN,gR,iF,rfl,hM⟩;have:ak.dB n (ak.aX n L) a'=[]:=by
    rw[xcC];intro v hv;obtain⟨_,h2,h3⟩:=ak.fD.1 hv;rw[h0,h3]at h2;cases h2
   rw[abE,aI,this];rfl
  have hne:jQ n L (ak.aX n L) a' n≠[]:=by
   rw[aI];intro e;apply h0;rw[<-iV];refine Bu hU λv hv hh=>?_;have:v∈ak.dB n (ak.aX n L) a':=ak.fD.2 ⟨hv,hh.1,hh.2⟩;rw[List.map_eq_nil_iff.1 e]at this;simp at this
  apply Nil.ptr;refine ai.mk (Ld.mk zM rfl ?_);obtain⟨RK,m2,sO,lZ⟩:=hM;cases hg:aJ m2 a' with
  |some x=>
   have hx:=Dd (f:=ak.B n (ak.lvl n L)) lZ hg;refine aD.hit (ke:=ki) (k:=a') FO sO (by exact .tail _ (.tail _ (.head _))) hg λy hy=>?_;subst hy;refine Ext.mk rfl (Ext.mk rfl (Br.yes (aM.here ⟨?_,kx,jN,gR,iF,rfl,RK,m2,sO,lZ⟩)));rw[hx];rfl
  |none=>
   refine aD.bM (ke:=ki) (k:=a') FO sO (by exact .tail _ (.tail _ (.head _))) hg ?_;refine Ext.mk rfl (Ext.mk rfl (Br.no (Nil.ptr ?_)));refine ai.mk (Ld.mk zM rfl ?_);refine⟨λvs H=>∃k:Nat,vs=[z5 (jQ n L (ak.aX n L) a' k),iv (k:Int)]/\k<=n/\nj bp bl bd xM n L (ak.aX n L) B H,λvs _=>n-bJ vs 1,
    JE.mk ⟨0,rfl,xaM _,kx,jN,gR,iF,rfl,RK,m2,sO,lZ⟩,?_⟩
   clear sO lZ hg RK kx jN gR iF m2;rintro w22 w23 H ⟨k,⟨⟩,hk,hp⟩ gs;refine ae.eZ (Br.dec (λhlt=>?_) (λhlt=>?_))
   ·intro J hJ;have Pm:=hp;obtain⟨kx,jN,gR,iF,rfl,hM⟩:=hp;apply Nil.ptr;refine ai.mk (Ld.mk zM rfl ?_);refine aa7 zO zO zO ?_;have Dy:∀l H,l=jQ n L (ak.aX n L) a' (k+1)->nj bp bl bd xM n L (ak.aX n L) B H->J [z5 l] H:=λl H hl hp=>hJ _ _ λgs=>by
     exact ae.inc (aC.mk ⟨k+1,by rw[hl],by omega,hp⟩ (by rw[iR,iR];show n-(((k:Int)+1).toNat)<n-((k:Int).toNat);omega))
    by_cases hc:a'.testBit k=true\/(ak.aX n L).testBit k=false
    ·rw[xan hc];refine Br.yes (JE.mk (Dy _ _ ?_ Pm));rw[vg,xae hc]
    rw[xal hc];have hck:a'.testBit k=false/\(ak.aX n L).testBit k=true:=by
     cases h1:a'.testBit k<;>cases h2:(ak.aX n L).testBit k<;>simp_all
    have hmem:k∈ak.dB n (ak.aX n L) a':=ak.fD.2 ⟨hlt,hck.1,hck.2⟩;refine Br.no (DR.self ?_);have hpk:2^k<=2^12:=xaz zD zO;refine ae.Ck (a:=1) (by simp[IntKind.bits];omega) (by rw[xa5];simp[bF];omega) ?_;rw[xa5];refine ae.K6 (by simp[bF];omega) (by simp[bF];omega) ?_;have Wv:a'|||2^k=ak.aB a' k true:=rfl
    rw[Wv];refine aa.fq (CZ h Pm haU hlt hck.1) ?_;rintro r H1 ⟨rfl,uF⟩;have hlen:(ak.dB n (ak.aX n L) (ak.aB a' k true)).length<d:=by
     have h1:(ak.dB n (ak.aX n L) (ak.aB a' k true)).length+1=(ak.dB n (ak.aX n L) a').length:=by
      unfold ak.dB ak.bM;rw[xdi,xdi];refine ak.n9 _ _ k (List.range n) xbj (xaN.2 hlt) (by simp[hck]) (by simp[ak.aj]) λy hy hne=>?_;rw[ak.qW hne]
     omega
    refine aa.fq (ih _ hlen (ak.aB a' k true) (xaj _) (ak.fY haU hlt) H1 uF) ?_;rintro r H2 ⟨rfl,lY⟩;have hb1:=FH h a' k;have tF:=L9 h (ak.aB a' k true);refine ae.fH ?_;have hstep:=vg (n:=n) (L:=L) (U:=ak.aX n L) (a:=a') (k:=k);rw[xac hc]at hstep;generalize ak.lvl n L a' k+ak.B n (ak.lvl n L) (ak.aB a' k true)=x at hstep;unfold z5;by_cases hl:jQ n L (ak.aX n L) a' k=[]
    ·rw[xae hl];refine ae.lss (dc.mk true (λe=>by simp at e) (λ_=>rfl) λgs=>Br.yes (JE.mk ?_));have:=Dy [x] _ (by rw[hstep,hl];rfl) lY;simpa[z5,ak.gC]using this
    rw[xac hl];have hms:=ak.FC (jQ n L (ak.aX n L) a' k) x;rw[xac hl,<-hstep]at hms;have afq:jQ n L (ak.aX n L) a' (k+1)≠[]:=by rw[hstep];simp
    have TW:=Dy _ H2 rfl lY;unfold z5 at TW;rw[xac afq,hms]at TW;have hneg:decide (((ak.gC (jQ n L (ak.aX n L) a' k):Nat):Int)<0)=false:=xal zO;by_cases hx:x<ak.gC (jQ n L (ak.aX n L) a' k)
    ·rw[xdu zO]at TW;refine ae.lss ?_;rw[hneg];exact dc.mk true (λ_=>ae.eZ ⟨rfl,by rw[xan hx]⟩) (λe=>by simp at e) λgs=>Br.yes (JE.mk TW)
    rw[xcq zO]at TW;refine ae.lss ?_;rw[hneg];exact dc.mk false (λ_=>ae.eZ ⟨rfl,by rw[xal hx]⟩) (λe=>by simp at e) λgs=>Br.no (JE.mk TW)
   have:k=n:=by omega
   subst this;obtain⟨kx,jN,gR,iF,rfl,RK,m2,sO,lZ⟩:=hp;apply Nil.ptr;refine ai.mk (Ld.mk zM rfl ?_);unfold z5;rw[xac hne,<-abE];refine aD.br (ke:=ki) (vr:=vrN) (b:=bd) (val:=iv ((ak.B k (ak.lvl k L) a':Nat):Int)) (k:=a') (x:=ak.B k (ak.lvl k L) a') FO Vs sO rfl λes' bB DF=>⟨_,.tail (.tail (.head _)),?_⟩;have afw:∀x∈dX m2 a' (ak.B k (ak.lvl k L) a'),x.2=ak.B k (ak.lvl k L) x.1:=C8 (f:=ak.B k (ak.lvl k L)) lZ;exact aM.here ⟨rfl,kx,jN,es',bB,rfl,RK,_,DF,afw⟩
end
section
def ahd(v:zV)(ts:List Tb)(B:Hp)(r:zV)(H:Hp):Prop:=
 (rW ts/\∃(bp bl bd n:Nat) (L:List (zL)) (N:Hp),ts=Mx n L/\(L=[]->n=0)/\n<=16/\(∀ws∈L,ak.eY n ws)/\r=.tuple #[.pointer (some ⟨bp,0,none⟩),iv 0]/\nj bp bl bd v n L (ak.aX n L) (N++B) H)
 \/(¬rW ts/\r=.tuple #[.pointer none,iv 5])
theorem tp(n:Nat)(L:List (zL)):LZ n L #[] 0 #[] 0:=⟨⟨[],aD.empty,by simp⟩,⟨[],aD.empty,by simp⟩⟩
theorem EV{n:Nat}{L:List (zL)}{k:Nat}(h:k<L.length):ak.aX n (L.take (k+1))=ak.aX n (L.take k)|||ak.pZ n L[k]:=by
 unfold ak.aX;rw[xbo,xaa h,Option.toList_some,xdo];rfl
theorem NV{B:Hp}{v:zV}{ts:List Tb}(ht:jH B v ts)(cD:ts.length<4398046511104):Px zQ 280 #[v] B (ahd v ts B):=by
 obtain⟨va,vc,vl,rfl⟩:∃a c l,v=.slice a l c:=by
  obtain⟨rs,h1,_⟩:=ht;obtain⟨a,c,e,_⟩:=h1.shape;exact⟨a,c,_,e⟩
 refine aE λg=>IA λb1 _ b2 _=>?_;refine Build.mk (cs:=[.slice va vl vc,iv 0,iv 0,.map (some b1),.map (some b2)]) zK λbp _=>?_;generalize hvs:Value.slice va vl vc=vv at ht⊢;refine ht.bP (ae.eR (b:=0) (Br.dec (λh0=>?_) (λh0=>?_)))
 ·have F3:ts=[]:=xbV h0;subst F3;refine⟨_,_,rfl,aN.cons aN.swap,(by repeat (first|exact bV.refl _|apply bV.cons|apply bV.app)),Or.inl ⟨by simp[rW],bp,b1,b2,0,[],[],rfl,λ_=>rfl,by omega,by simp,rfl,_,_,_,_,?_,tp _ _⟩⟩;subst hvs;rfl
 refine aa.pq (B:=B) (QM ht cD) ?_;rintro r N ⟨s,rfl⟩;apply Ext.two;by_cases hO:rW ts
 case neg=>
  rw[xac hO];exact ae.AQ (a:=5) (b:=0) (Br.dec (λ_=>GQ.mk (by repeat (first|exact bV.refl _|apply bV.cons|apply bV.app)) (.inr ⟨hO,rfl⟩)) (λh=>absurd zD h))
 rw[xae hO];refine ae.AQ (a:=0) (b:=0) (Br.dec (λh=>absurd rfl h) (λ_=>?_));obtain⟨n,L,wc,rfl,hne,hf⟩:=K8 hO (by intro e;rw[e]at h0;exact h0 rfl);rw[xav]at cD h0;obtain⟨w0,TS⟩:∃w0,L[0]? =some w0:=⟨_,xaa (xdc.2 hne)⟩;refine ht.ldN (i:=0) (t:=⟨n,w0⟩) (by rw[xat,TS];rfl) zS ?_;simp only;refine Nil.ptr (ai.mk (St.one (c:=#[vv,iv 0,iv 0,.map (some b1),.map (some b2)]) (c':=#[vv,iv (n:Int),iv 0,.map (some b1),.map (some b2)]) (H':=(bp,.cells #[vv,iv (n:Int),iv 0,.map (some b1),.map (some b2)] 343 zZ)::(b2,.map #[] 0)::(b1,.map #[] 0)::(N++B)) (by subst hvs;exact .head _) rfl zI rfl ?_));refine ht.bP ?_;rw[xav];refine⟨λvs H=>∃(k:Nat) (N:Hp),vs=[iv (k:Int)]/\k<=L.length/\H=(bp,.cells #[vv,iv (n:Int),iv ((ak.aX n (L.take k):Nat):Int),.map (some b1),.map (some b2)] 343 zZ)::(b2,.map #[] 0)::(b1,.map #[] 0)::(N++B),
  λvs _=>L.length-bJ vs 0,JE.mk ⟨0,N,rfl,by omega,rfl⟩,?_⟩
 clear N;rintro w H ⟨k,N,⟨⟩,hk,rfl⟩ gs;refine ae.eZ (Br.dec (λhlt=>?_) (λhlt=>?_))
 ·have hg:(L.map λws=>(⟨n,ws⟩:Tb))[k]? =some ⟨n,L[k]⟩:=by rw[xat,xaa hlt];rfl
  have pw:=hf L[k] (xaB hlt);refine ht.ld hg zS λs hw=>?_;intro b3 _;refine St.p ?_ ?_
  ·have:=bO hw;simpa[Value.oneCell']using this
  refine ay.q ?_;refine aa.eq (B:=B) (uX (v:=.agg (List.toArray [iv (n:Int),s])) (t:=⟨n,L[k]⟩) ⟨s,rfl,hw⟩) ?_;rw[xae (show TF ⟨(n:Int),L[k]⟩from⟨by simp,by simpa using pw⟩)];apply Ext.two;simp only[xbe];have aj2:2^n<=2^16:=xaz (n:=2) zD wc;have aby:ak.pZ n L[k]<2^n:=ak.nF n L[k] n;have hus:=ak.uS n (L.take k);apply Nil.ptr;refine ai.mk (Ld.mk zM rfl ?_);refine aZ.q (ae.K6 (by simp[bF];omega) (by simp[bF];omega) ?_);rw[<-EV hlt];refine Nil.ptr (ai.mk (St.one (c:=#[vv,iv (n:Int),iv ((ak.aX n (L.take k):Nat):Int),.map (some b1),.map (some b2)]) (c':=#[vv,iv (n:Int),iv ((ak.aX n (L.take (k+1)):Nat):Int),.map (some b1),.map (some b2)]) (by repeat (first|exact c6.head _|apply c6.tail|apply c6.ca)) rfl zI rfl ?_));exact ae.inc (aC.of .tail ⟨k+1,N,rfl,by omega,rfl⟩ (by simp[bJ];omega))
 have:k=L.length:=by omega
 subst this;rw[xba];refine⟨_,_,rfl,aN.cons aN.swap,(by repeat (first|exact bV.refl _|apply bV.cons|apply bV.app)),Or.inl ⟨hO,bp,b1,b2,n,L,N,rfl,λe=>absurd e hne,wc,hf,rfl,_,_,_,_,rfl,tp _ _⟩⟩
theorem QR{n:Nat}{c:Nat->Nat->Nat}{f a v:Nat}(hv:v∈ak.bM n a)(he:c a v+ak.B n c (ak.aB a v true)=ak.B n c a)(hm:∀u∈ak.bM n a,u<v->c a u+ak.B n c (ak.aB a u true)≠ak.B n c a):
    ak.ord n c (f+1) a=v::ak.ord n c f (ak.aB a v true):=by
  obtain⟨u,h1,h2,h3,h4⟩:=ak.vG (c:=c) (f:=f) (List.ne_nil_of_mem hv);rcases xcJ u v with h|h|h
  · exact absurd h2 (hm u h1 h)
  · rw[h4,h]
  · exact absurd he (h3 v hv h)
theorem Od{xM:zV}{n:Nat}{L:List (zL)}{B:Hp}{bp bl bd a:Nat}(ha:a<4611686018427387904){H:Hp}(hp:nj bp bl bd xM n L 0 B H):
    Fc zQ 282 #[.pointer (some ⟨bp,0,none⟩),iv (a:Int)] H (λr H'=>r=iv 0/\H'=H):=by
  obtain⟨kx,jN,gR,iF,rfl,hM⟩:=hp;refine aE λg=>xA (Nil.ptr ?_);refine ai.mk (Ld.mk zM rfl ?_);refine ae.jF (b:=0) (by simp[bF];omega) (by simp[bF]) (Nil.ptr ?_);refine ai.mk (Ld.mk zM rfl ?_);exact ae.eR (b:=0) (Br.T (aM.here ⟨rfl,rfl⟩))
def adB(ts:List Tb)(B:Hp)(r:zV)(H:Hp):Prop:=
  (¬rW ts/\r=.tuple #[iv 0,.slice none 0 0,iv 5])\/
  (rW ts/\∃(n:Nat) (L:List (zL)),ts=Mx n L/\(L=[]->n=0)/\n<=16/\(∀ws∈L,ak.eY n ws)/\
    ((12<n/\r=.tuple #[iv 0,.slice none 0 0,iv 6])\/
     (n<=12/\∃(s:zV) (C N:Hp),r=.tuple #[iv ((ak.B n (ak.lvl n L) 0:Nat):Int),s,iv 0]/\aO 3 .i64 s (iw (ak.ord n (ak.lvl n L) n 0)) C/\H=C++(N++B))))
structure BSt(n:Nat)(c:Nat->Nat->Nat)(s:zV)(a:Nat)(l:zL)(C:Hp):Prop where
  own:aO 3 .i64 s (iw l) C
  lt:a<2^n
  len:(ak.bM n a).length+l.length=n
  pre:l++ak.ord n c (n-l.length) a=ak.ord n c n 0
theorem LQ{a v:Nat}:(a>>>v&&&1=0)↔a.testBit v=false:=by
  have:=xc9 (x:=a) (i:=v);rw[this,xbR,xa0];simp
theorem WE{B:Hp}{v:zV}{ts:List Tb}(ht:jH B v ts)(cD:ts.length<33554432):Px zQ 194 #[v] B (adB ts B):=by
  refine aE λg=>Jr (aa.pq (NV ht zO) ?_);rintro r N0 (⟨hO,bp,bl,bd,n,L,N,rfl,VP,wc,hf,rfl,hp⟩|⟨hO,rfl⟩)
  case inr=>exact Ext.mk rfl (Ext.mk rfl (ae.AQ (a:=5) (b:=0) (Br.dec (λ_=>GQ.mk (by repeat (first|exact bV.refl _|apply bV.cons|apply bV.app)) (.inl ⟨hO,rfl⟩)) (λh=>absurd zD h))))
  generalize N0++B=H2 at hp⊢;clear N0;rw[pX]at cD;have Pm:=hp;obtain⟨kx,jN,gR,iF,rfl,hM⟩:=hp;refine Ext.mk rfl (Ext.mk rfl (ae.AQ (a:=0) (b:=0) (Br.dec (λh=>absurd rfl h) (λ_=>?_))));apply Nil.ptr;refine ai.mk (Ld.mk zM rfl ?_);refine ae.ny (b:=12) (Br.dec (λNI=>GQ.mk (by repeat (first|exact bV.refl _|apply bV.cons|apply bV.app)) (.inr ⟨hO,n,L,rfl,VP,wc,hf,.inl ⟨NI,rfl⟩⟩)) (λNI=>?_));clear hM;have uh:n<=12:=by omega
  have hOK:L≠[]->xf v n L (N++B):=λhne=>⟨ht.mono zS,hf,hne,cD,uh⟩;have lY:2^n<=2^12:=xaz zD uh;have hm0:(ak.bM n 0).length=n:=by
    have:ak.bM n 0=List.range n:=by unfold ak.bM;rw[xcd];simp
    rw[this,xaJ]
  refine⟨λvs H=>∃(s:zV) (a:Nat) (l:zL) (C H1:Hp),vs=[s,iv (a:Int)]/\BSt n (ak.lvl n L) s a l C/\nj bp bl bd v n L (ak.aX n L) (N++B) H1/\H=C++H1,
    λvs _=>(ak.bM n (bJ vs 1)).length,JE.mk ⟨_,0,[],[],_,rfl,⟨aO.nil,xbx n,by rw[hm0];rfl,by simp⟩,Pm,rfl⟩,?_⟩
  clear Pm kx jN gR iF;rintro w14 w15 H ⟨s,a,l,C,H1,⟨⟩,hb,hp,rfl⟩ gs;have Pm:=hp;obtain⟨kx,jN,gR,iF,rfl,hM⟩:=hp;refine hb.own.bP ?_;rw[aq];apply Nil.ptr;refine ai.mk (Ld.mk zM rfl ?_);have XG:=hb.len;refine ae.eZ (Br.dec (λhlt=>?_) (λhlt=>?_))
  · have aft:ak.bM n a≠[]:=by intro e;rw[e]at XG;simp at XG;omega
    have hne:L≠[]:=λe=>by have:=VP e;omega
    have ze:=hOK hne;have hnf:n-l.length=n-l.length-1+1:=by omega
    apply Nil.ptr;refine ai.mk (Ld.mk zM rfl ?_);refine⟨λvs H=>∃(k:Nat) (H1:Hp),vs=[w14,iv (a:Int),iv (k:Int)]/\k<=n/\(∀u∈ak.bM n a,u<k->ak.lvl n L a u+ak.B n (ak.lvl n L) (ak.aB a u true)≠ak.B n (ak.lvl n L) a)/\nj bp bl bd v n L (ak.aX n L) (N++B) H1/\H=C++H1,
      λvs _=>n-bJ vs 2,JE.mk ⟨0,_,rfl,by omega,λu _ h=>by omega,Pm,rfl⟩,?_⟩
    clear hM Pm;rintro w28 w29 w30 H ⟨k,H1,⟨⟩,hk,hmin,hp,rfl⟩ gs;refine ae.eZ (Br.dec (λhlk=>?_) (λhlk=>?_))
    · intro J hJ
      have hpk:2^k<=2^12:=xaz zD zO;have hno:∀H1,¬(a.testBit k=false/\ak.lvl n L a k+ak.B n (ak.lvl n L) (ak.aB a k true)=ak.B n (ak.lvl n L) a)->nj bp bl bd v n L (ak.aX n L) (N++B) H1->J [.bool false] (C++H1):=λH1 hx hp=>hJ _ _ λgs=>by
        refine Br.no (ae.inc (aC.mk ⟨k+1,H1,rfl,by omega,λu hu hlu=>?_,hp,rfl⟩ (by rw[iR,iR,iR,iR];show n-(((k:Int)+1).toNat)<n-((k:Int).toNat);omega)));by_cases e:u=k
        · subst e;exact λh=>hx ⟨(ak.cO.1 hu).2,h⟩
        · exact hmin u hu zO
      refine DR.self ?_;have akG:a<4611686018427387904:=by have:=hb.lt;omega
      refine ae.iM (by simp[bF];omega) (ae.jF (b:=1) (by simp[bF];exact xaA (xbl _ _) zO) zD (ae.eR (b:=0) (Br.dec (λh0=>?_) (λh0=>JE.mk (hno H1 (λh=>h0 (LQ.2 h.1)) hp)))));have hak:=LQ.1 h0;refine ae.Ck (a:=1) (by simp[IntKind.bits];omega) (by rw[xa5];simp[bF];omega) ?_;rw[xa5];refine ae.K6 (by simp[bF];omega) (by simp[bF];omega) ?_;have Wv:a|||2^k=ak.aB a k true:=rfl
      rw[Wv];intro F;refine aa.fq (CZ ze hp hb.lt hlk hak) ?_;rintro r H2 ⟨rfl,lY⟩;intro F;refine aa.fq (r5 ze _ (ak.aB a k true) (xaj _) (ak.fY hb.lt hlk) H2 lY) ?_;rintro r H3 ⟨rfl,TV⟩;have hb1:=FH ze a k;have tF:=L9 ze (ak.aB a k true);refine ae.fH λF=>(aa.fq (r5 ze _ a (xaj _) hb.lt H3 TV) ?_);rintro r H4 ⟨rfl,hp4⟩;refine ae.eR ?_;by_cases he:ak.lvl n L a k+ak.B n (ak.lvl n L) (ak.aB a k true)=ak.B n (ak.lvl n L) a
      · rw[xan he]
        have hmem:k∈ak.bM n a:=ak.cO.2 ⟨hlk,hak⟩;have VM:=QR (f:=n-l.length-1) hmem he hmin;have hml:=ak.gK hmem;refine aL.mk (JE.mk (hJ _ _ λgs=>Br.yes ?_));refine au.int (e:=3) zK zK zK λxb=>?_;refine aO.app (A:=[_]) hb.own (by exact .head _) zP zP λv' C' ho=>?_;refine ae.Ck (a:=1) (by simp[IntKind.bits];omega) (by rw[xa5];simp[bF];omega) ?_;rw[xa5];refine ae.K6 (by simp[bF];omega) (by simp[bF];omega) ?_;rw[Wv];refine aC.of .right ⟨v',ak.aB a k true,l++[k],C',H4,rfl,⟨by simpa[iw]using ho,ak.fY hb.lt hlk,by simp;omega,?_⟩,hp4,rfl⟩ (by rw[iR,iR];show(ak.bM n (ak.aB a k true)).length<(ak.bM n a).length;omega);have:=hb.pre;rw[hnf,VM]at this;rw[xaf,xcj,Nat.sub_add_eq,xai];exact this
      · rw[xal he]
        exact aL.mk (JE.mk (hno H4 (λh=>he h.2) hp4))
    · obtain⟨u,h1,h2,_⟩:=ak.vG (c:=ak.lvl n L) (f:=0) aft
      exact absurd h2 (hmin u h1 (by have:=(ak.cO.1 h1).1;omega))
  · have ni:l.length=n:=by omega
    have hl:l=ak.ord n (ak.lvl n L) n 0:=by
      have:=hb.pre;rw[ni,xc8]at this;simpa[ak.ord]using this
    have hown:=hb.own;rw[hl]at hown;by_cases hne:L=[]
    · have hn:=VP hne
      subst hne;subst hn;refine aa.fq (Od (a:=0) zO Pm) ?_;rintro r H3 ⟨rfl,rfl⟩;exact⟨_,_,rfl,.refl _,(by repeat (first|exact bV.refl _|apply bV.cons|apply bV.app)),.inr ⟨hO,0,[],rfl,VP,wc,hf,.inr ⟨uh,_,C,(_::_::_::N),rfl,hown,rfl⟩⟩⟩
    · refine aa.fq (r5 (hOK hne) _ 0 (xaj _) (xbx n) _ Pm) ?_
      rintro r H3 ⟨rfl,o7,qM,es4,ck4,rfl,Zz⟩;exact⟨_,_,rfl,.refl _,(by repeat (first|exact bV.refl _|apply bV.cons|apply bV.app)),.inr ⟨hO,n,L,rfl,VP,wc,hf,.inr ⟨uh,_,C,(_::_::_::N),rfl,hown,rfl⟩⟩⟩
end
end Go.Proofs
namespace TL
abbrev It:=Int×Int
def prec(a b:It):Bool:=decide (a.2<b.2)||(a.2==b.2&&decide (a.1<b.1))
theorem vz{a b:It}:prec a b=true↔a.2<b.2\/a.2=b.2/\a.1<b.1:=by simp[prec]
theorem mI{a b:It}:prec a b=false↔¬(a.2<b.2\/a.2=b.2/\a.1<b.1):=by rw[<-vz];simp
theorem nO(a:It):prec a a=false:=by rw[mI];omega
theorem qj{a b:It}(h:prec a b=true):prec b a=false:=by rw[vz]at h;rw[mI];omega
theorem le_trans{a b c:It}(h1:prec b a=false)(h2:prec c b=false):prec c a=false:=by rw[mI]at*;omega
theorem FK{a b c:It}(h1:prec a b=true)(h2:prec c b=false):prec c a=false:=by rw[vz]at h1;rw[mI]at*;omega
def ig(V:Nat->It)(i:Nat)(b:It):Nat->It:=λj=>if j=i then b else V j
def E(V:Nat->It)(j:Nat):Prop:=prec (V j) (V ((j-1) /2))=false
def Ac(n:Nat)(V:Nat->It)(i:Nat):Prop:=
 (∀j,0<j->j<n->j≠i->(j-1) /2≠i->E V j)/\(∀j,0<j->j<n->(j-1) /2=i->0<i->prec (V j) (V ((i-1) /2))=false)
def pg(n:Nat)(V:Nat->It)(i:Nat):Prop:=∀j,0<j->j<n->(j-1) /2=i->E V j
def WZ(n:Nat)(V:Nat->It)(i:Nat):Prop:=
 (∀j,0<j->j<n->(j-1) /2≠i->E V j)/\(∀j,0<j->j<n->(j-1) /2=i->0<i->prec (V j) (V ((i-1) /2))=false)
def Ord(n:Nat)(V:Nat->It):Prop:=∀j,0<j->j<n->E V j
theorem Uh{n i:Nat}{V:Nat->It}(hi:0<i)(hn:i<n)(h:Ac n V i)(ha:prec (V i) (V ((i-1) /2))=true):
  Ac n (ig (ig V i (V ((i-1) /2))) ((i-1) /2) (V i)) ((i-1) /2)/\pg n (ig (ig V i (V ((i-1) /2))) ((i-1) /2) (V i)) ((i-1) /2):=by
 obtain⟨h1,h2⟩:=h;have hq:(i-1) /2≠i:=by omega
 generalize hqd:(i-1) /2=q at*;have hqi:q<i:=by omega
 refine⟨⟨?_,?_⟩,?_⟩
 ·intro j j0 jn jq jp;unfold E ig;rw[xac jq,xac jp];by_cases e1:j=i
  ·exact absurd (by rw[e1,hqd]) jp
  rw[xac e1];by_cases e2:(j-1) /2=i
  ·rw[xae e2];exact h2 j j0 jn e2 hi
  rw[xac e2];exact h1 j j0 jn e1 e2
 ·intro j j0 jn jp q0;unfold ig;have hqq:(q-1) /2≠q:=by omega
  have afi:(q-1) /2≠i:=by omega
  rw[xac hqq,xac afi];have hjq:j≠q:=by omega
  rw[xac hjq];have VJ:E V q:=h1 q q0 zO hq zO;by_cases e1:j=i
  ·rw[xae e1];exact VJ
  rw[xac e1];have:=h1 j j0 jn e1 zO;unfold E at this VJ;rw[jp]at this;exact le_trans VJ this
 intro j j0 jn jp;unfold E ig;rw[jp,xae rfl];have hjq:j≠q:=by omega
 rw[xac hjq];by_cases e1:j=i
 ·rw[xae e1];exact qj ha
 rw[xac e1];have:=h1 j j0 jn e1 zO;unfold E at this;rw[jp]at this;exact FK ha this
theorem Ui{n i:Nat}{V:Nat->It}(h:Ac n V i)(ha:i=0\/prec (V i) (V ((i-1) /2))=false):WZ n V i:=by
 refine⟨λj j0 jn jp=>?_,h.2⟩;by_cases e:j=i
 ·subst e;rcases ha with ha|ha
  ·omega
  exact ha
 exact h.1 j j0 jn e jp
theorem zq{n i:Nat}{V:Nat->It}(h:WZ n V i)(hc:pg n V i):Ord n V:=λj j0 jn=>by
 by_cases e:(j-1) /2=i
 ·exact hc j j0 jn e
 exact h.1 j j0 jn e
def y6(n:Nat)(V:Nat->It)(i:Nat):Nat:=if(decide (2*i+1+1<n) &&prec (V (2*i+1+1)) (V (2*i+1)))=true then 2*i+1+1 else 2*i+1
theorem sG(n:Nat)(V:Nat->It)(i:Nat):y6 n V i=2*i+1\/y6 n V i=2*i+2/\2*i+2<n:=by
 unfold y6;split
 ·rename_i h;simp only[xaH,xaI]at h;right;omega
 left;rfl
theorem y5{n i j:Nat}{V:Nat->It}(j0:0<j)(jn:j<n)(jp:(j-1) /2=i):prec (V j) (V (y6 n V i))=false:=by
 unfold y6;split
 ·rename_i h;simp only[xaH,xaI]at h;rcases(show j=2*i+1\/j=2*i+1+1 by omega)with rfl|rfl
  ·exact qj h.2
  exact nO _
 rename_i h;rcases(show j=2*i+1\/j=2*i+1+1 by omega)with rfl|rfl
 ·exact nO _
 cases hh:prec (V (2*i+1+1)) (V (2*i+1))
 ·rfl
 exact absurd (by simp[hh,jn]) h
theorem sW{n i:Nat}{V:Nat->It}(h:WZ n V i)(hk:y6 n V i<n)(ha:prec (V (y6 n V i)) (V i)=true):
  WZ n (ig (ig V i (V (y6 n V i))) (y6 n V i) (V i)) (y6 n V i):=by
 have hl:∀j,0<j->j<n->(j-1) /2=i->prec (V j) (V (y6 n V i))=false:=λj=>y5;have hkc:=sG n V i;generalize y6 n V i=c at*;obtain⟨h1,h2⟩:=h;have hcp:(c-1) /2=i:=by omega
 have hc0:0<c:=by omega
 have pM:c≠i:=by omega
 refine⟨?_,?_⟩
 ·intro j j0 jn jp;unfold E ig;rw[xac jp];by_cases e1:j=c
  ·rw[xae e1,xae (by rw[e1];exact hcp)];exact qj ha
  rw[xac e1];by_cases e2:j=i
  ·rw[xae e2];have:(j-1) /2≠i:=by omega
   rw[xac this,e2];exact h2 c hc0 hk hcp zO
  rw[xac e2];by_cases e3:(j-1) /2=i
  ·rw[xae e3];exact hl j j0 jn e3
  rw[xac e3];exact h1 j j0 jn e3
 intro j j0 jn jp _;unfold ig;rw[hcp];have:j≠c:=by omega
 have e2:j≠i:=by omega
 rw[xac this,xac e2,xac (λe=>pM e.symm),xae rfl];have:=h1 j j0 jn zO;unfold E at this;rwa [jp]at this
theorem NY{n i:Nat}{V:Nat->It}(h:WZ n V i)(ha:n<=y6 n V i\/prec (V (y6 n V i)) (V i)=false):Ord n V:=by
 refine zq h λj j0 jn jp=>?_;have hl:=y5 (V:=V) j0 jn jp;rcases ha with ha|ha
 ·rcases sG n V i with h|h<;>omega
 unfold E;rw[jp];exact le_trans ha hl
theorem U1{n:Nat}{V:Nat->It}(h:Ord n V):∀j,j<n->prec (V j) (V 0)=false:=by
 intro j;induction j using Nat.strongRecOn with
 |_ j ih=>
  intro jn;by_cases j0:j=0
  ·subst j0;exact nO _
  exact le_trans (ih ((j-1) /2) zO zO) (h j zO jn)
def bc(l:List It)(j:Nat):It:=l.getD j (0,0)
theorem WI{l:List It}{j:Nat}(h:j<l.length):l[j]? =some (bc l j):=by simp[bc,List.getD,h]
theorem gY{l:List It}{i:Nat}(b:It)(h:i<l.length):bc (l.set i b)=ig (bc l) i b:=by
 funext j
 unfold bc ig;simp only[List.getD,xbn];by_cases e:i=j
 ·subst e;simp[h]
 rw[xac e,xac (λx=>e x.symm)]
theorem qc{l:List It}{i:Nat}(h:i<l.length):l.set i (bc l i)=l:=by
 apply xbd;intro j;rw[xbn];by_cases e:i=j
 ·subst e;simp[h,bc,List.getD]
 simp[e]
theorem swap_perm{l:List It}{i q:Nat}(hi:i<l.length)(hq:q<l.length)(hne:q≠i):((l.set i (bc l q)).set q (bc l i)).Perm l:=by
 rw[xcs];intro x;have g1:l[i]=bc l i:=by simp[bc,List.getD,hi]
 have g2:l[q]=bc l q:=by simp[bc,List.getD,hq]
 have g3:(l.set i (bc l q))[q]'(by simp[hq])=bc l q:=by rw[List.getElem_set_ne (λe=>hne e.symm)];exact g2
 rw[xdL (by simp[hq]),xdL hi,g1,g3];have hc:bc l i=x->0<l.count x:=λe=>by rw[xbK,<-e,<-g1];exact xaB hi
 by_cases e1:bc l i=x
 ·have:=hc e1;by_cases e2:bc l q=x<;>simp[e1,e2]<;>omega
 by_cases e2:bc l q=x<;>simp[e1,e2]
def j3(l:List It):Prop:=(l.map Prod.fst).Nodup
theorem j3.perm{l l':List It}(h:j3 l)(p:l'.Perm l):j3 l':=(p.map _).nodup_iff.2 h
theorem j3.inj{l:List It}(h:j3 l){i j:Nat}(hi:i<l.length)(hj:j<l.length)(e:(bc l i).1=(bc l j).1):i=j:=by
 unfold j3 at h;have hp:=List.pairwise_iff_getElem.1 h;have g:∀k (hk:k<l.length),(l.map Prod.fst)[k]'(by simpa using hk)=(bc l k).1:=λk hk=>by simp[bc,List.getD,hk]
 rcases xcJ i j with hlt|rfl|hlt
 ·have:=hp i j (by simpa using hi) (by simpa using hj) hlt;rw[g i hi,g j hj]at this;exact absurd e this
 ·rfl
 have:=hp j i (by simpa using hj) (by simpa using hi) hlt;rw[g i hi,g j hj]at this;exact absurd e.symm this
theorem iA{l:List It}{x:Int}:x∈l.map Prod.fst↔∃j,j<l.length/\(bc l j).1=x:=by
 rw[xa8];constructor
 ·rintro⟨j,hj,e⟩;have hj':j<l.length:=by simpa using hj
  exact⟨j,hj',by simpa[bc,List.getD,hj']using e⟩
 rintro⟨j,hj,e⟩;exact⟨j,by simpa using hj,by simpa[bc,List.getD,hj]using e⟩
def EA(f:Int->Option Nat)(x:Int)(p:Option Nat):Int->Option Nat:=λy=>if y=x then p else f y
def nr(l:List It)(f:Int->Option Nat)(i:Nat):Prop:=(∀j,j<l.length->j≠i->f (bc l j).1=some j)/\∀x,x∉l.map Prod.fst->f x=none
def Cons(l:List It)(f:Int->Option Nat):Prop:=(∀j,j<l.length->f (bc l j).1=some j)/\∀x,x∉l.map Prod.fst->f x=none
theorem nr.done{l:List It}{f:Int->Option Nat}{i:Nat}(h:nr l f i)(ho:j3 l)(hi:i<l.length):Cons l (EA f (bc l i).1 (some i)):=by
 refine⟨λj hj=>?_,λx hx=>?_⟩
 ·unfold EA;by_cases e:(bc l j).1=(bc l i).1
  ·rw[xae e,ho.inj hj hi e]
  rw[xac e];exact h.1 j hj (λe2=>e (by rw[e2]))
 unfold EA;rw[xac (λe=>hx (iA.2 ⟨i,hi,e.symm⟩))];exact h.2 x hx
theorem nr.step{l:List It}{f:Int->Option Nat}{i q:Nat}(h:nr l f i)(ho:j3 l)(hi:i<l.length)(hq:q<l.length)(hne:q≠i):
  nr ((l.set i (bc l q)).set q (bc l i)) (EA f (bc l q).1 (some i)) q:=by
 have BO:∀j,bc ((l.set i (bc l q)).set q (bc l i)) j=ig (ig (bc l) i (bc l q)) q (bc l i) j:=λj=>by rw[gY _ (by simpa using hq),gY _ hi]
 refine⟨λj hj hjq=>?_,λx hx=>?_⟩
 ·rw[BO];simp only[xbQ]at hj;unfold ig EA;rw[xac hjq];by_cases e:j=i
  ·rw[xae e,xae rfl,e]
  rw[xac e];rw[xac (λe2=>hjq (ho.inj hj hq e2))];exact h.1 j hj e
 have hx':x∉l.map Prod.fst:=λhm=>hx (by
  have:=(swap_perm hi hq hne).map Prod.fst;exact this.mem_iff.2 hm)
 unfold EA;rw[xac (λe=>hx' (iA.2 ⟨q,hq,e.symm⟩))];exact h.2 x hx'
end TL
namespace TL
open Go Go.Sx
def enc(kd:IntKind)(a:It):List zV:=[.int kd a.1,.int .i64 a.2]
def eS(kd:IntKind)(l:List It):List (List zV):=l.map (enc kd)
theorem cR(kd:IntKind)(l:List It):(eS kd l).length=l.length:=by simp[eS]
theorem NU(kd:IntKind)(l:List It):∀r∈eS kd l,r.length=2:=λr hr=>by
 obtain⟨a,_,rfl⟩:=xam.1 hr;rfl
theorem fV{kd:IntKind}{l:List It}{i:Nat}(h:i<l.length)(aK:List (List zV)):(eS kd l++aK)[i]? =some (enc kd (bc l i)):=by
 rw[xaX (by rw[cR];exact h),eS,xat,WI h];rfl
theorem SJ{kd:IntKind}{l:List It}{i:Nat}(h:i<l.length)(a:It)(aK:List (List zV)):(eS kd l++aK).set i (enc kd a)=eS kd (l.set i a)++aK:=by
 rw[xc0 _ _ (by rw[cR];exact h),eS,eS,xcP]
def idx(i:Nat):zV:=.int .i64 (i:Int)
def HO(kd:IntKind)(TI TH:TypeId)(h:zV)(l:List It)(f:Int->Option Nat)(C:Hp):Prop:=
 ∃bh sv mv Cs Cm,h=.pointer (some ⟨bh,0,none⟩)/\C=(bh,Obj.cells #[sv,mv] TH (0,0))::(Cs++Cm)/\aV TI 2 sv (eS kd l) Cs/\kW kd idx mv f Cm/\(mv=.map none->l=[])
theorem HO.open{kd:IntKind}{TI TH:TypeId}{h:zV}{l:List It}{f:Int->Option Nat}{C:Hp}(H:HO kd TI TH h l f C)(hp:0<l.length):
  ∃bh la mb aK Cm,h=.pointer (some ⟨bh,0,none⟩)/\
   C=(bh,Obj.cells #[.slice (some ⟨la,0,none⟩) l.length (l.length+aK.length),.map (some mb)] TH (0,0))::(la,.cells (rows (eS kd l++aK)) TI (0,0))::Cm/\
   (∀r∈eS kd l++aK,r.length=2)/\kW kd idx (.map (some mb)) f Cm:=by
 obtain⟨bh,sv,mv,Cs,Cm,rfl,rfl,hs,hm,hne⟩:=H;obtain⟨la,aK,rfl,rfl,aI⟩:=hs.pos (by rw[cR];exact hp);rw[cR];rcases hm with⟨rfl,_⟩|⟨mb,m,ck,rfl,h2⟩
 ·rw[hne rfl]at hp;simp at hp
 exact⟨bh,la,mb,aK,Cm,rfl,rfl,aI,.inr ⟨mb,m,ck,rfl,h2⟩⟩
theorem HO.shut{kd:IntKind}{TI TH:TypeId}{bh la mb n c:Nat}{aK:List (List zV)}{Cm:Hp}{l:List It}{f:Int->Option Nat}(aI:∀r∈eS kd l++aK,r.length=2)(hn:n=l.length)(hc:c=l.length+aK.length)
 (hm:kW kd idx (.map (some mb)) f Cm):
  HO kd TI TH (.pointer (some ⟨bh,0,none⟩)) l f ((bh,Obj.cells #[.slice (some ⟨la,0,none⟩) n c,.map (some mb)] TH (0,0))::(la,.cells (rows (eS kd l++aK)) TI (0,0))::Cm):=
 ⟨bh,_,_,[_],Cm,rfl,rfl,aV.mk' aI (by rw[cR];exact hn) (by rw[cR];exact hc),hm,λh=>by simp at h⟩
theorem Qv{l aK:List (List zV)}(h:∀r∈l++aK,r.length=2)(kd:IntKind)(l':List It):∀r∈eS kd l'++aK,r.length=2:=λr hr=>by
 rcases xao.1 hr with hr|hr
 ·exact NU kd l' r hr
 exact h r (by simp[hr])
theorem o8(kd:IntKind)(a:It):∀v∈enc kd a,v.oneCell'=true:=by simp[enc,Value.oneCell']
end TL
namespace TL
open Go Go.Sx
theorem Yg(j:Nat)(h:0<j):((j-1:Nat):Int).tdiv 2=(((j-1) /2:Nat):Int):=by
 rw[Int.tdiv_eq_ediv_of_nonneg zO];omega
theorem u7{l:List It}{i q:Nat}(a:It)(hi:i<l.length)(hq:q<l.length)(hne:q≠i):((l.set i a).set i (bc (l.set i a) q)).set q (bc (l.set i a) i)=(l.set i (bc l q)).set q a:=by
 rw[gY a hi,List.set_set];simp[ig,hne]
def HI(kd:IntKind)(TI TH:TypeId)(h:zV)(l:List It)(C:Hp):Prop:=∃f,HO kd TI TH h l f C/\Cons l f/\Ord l.length (bc l)/\j3 l
theorem GJ{l:List It}{a:It}{j:Nat}(h:j<l.length):bc (l++[a]) j=bc l j:=by simp[bc,List.getD,xaX h]
theorem QC{l:List It}{f:Int->Option Nat}{a:It}(hc:Cons l f)(ho:Ord l.length (bc l))(h1:j3 l)(hx:a.1∉l.map Prod.fst):
  Ac (l++[a]).length (bc (l++[a])) l.length/\nr (l++[a]) f l.length/\j3 (l++[a])/\pg (l++[a]).length (bc (l++[a])) l.length:=by
 simp only[xaf,xaw,xce,xa3];refine⟨⟨λj j0 jn jne jp=>?_,λj j0 jn jp=>by omega⟩,⟨λj jn jne=>?_,λx hx'=>?_⟩,?_,λj j0 jn jp=>by omega⟩
 ·unfold E;rw[GJ zO,GJ zO];exact ho j j0 zO
 ·simp only[xaf,xaw,xce]at jn;rw[GJ zO];exact hc.1 j zO
 ·exact hc.2 x (λh=>hx' (by rw[xaE,xao];exact .inl h))
 unfold j3 at*;rw[xaE,xa4];exact⟨h1,by simp,λa' dY b hb=>by simp at hb;subst hb;intro e;subst e;exact hx dY⟩
theorem SU{l:List It}{f:Int->Option Nat}(hc:Cons l f){x:Int}:(x∉l.map Prod.fst/\f x=none)\/∃i,i<l.length/\(bc l i).1=x/\f x=some i:=by
 by_cases h:x∈l.map Prod.fst
 ·obtain⟨j,hj,e⟩:=iA.1 h;exact .inr ⟨j,hj,e,by rw[<-e];exact hc.1 j hj⟩
 exact .inl ⟨h,hc.2 x h⟩
theorem US{l:List It}{f:Int->Option Nat}(hc:Cons l f)(ho:Ord l.length (bc l))(h1:j3 l){n:Nat}(hn:l.length=n+1):
  let l':=l.take n
  ((0<n->(bc l n)::(l'.set 0 (bc l n)).tail=l'.set 0 (bc l n)/\(bc l 0::l'.set 0 (bc l n)).Perm l/\WZ n (bc (l'.set 0 (bc l n))) 0/\j3 (l'.set 0 (bc l n))/\
   nr (l'.set 0 (bc l n)) (EA f (bc l 0).1 none) 0)):=by
 intro l' VP;have hl':l'.length=n:=by simp[l',hn]
 have c8:(bc l 0::l'.set 0 (bc l n)).Perm l:=by
  rw[xcs];intro x;have e:l=l'++[bc l n]:=by
   have:l=l.take n++l.drop n:=(xbr n l).symm;have h2:l.drop n=[bc l n]:=by
    rw[xbs zO,xdk zO];simp[hn,bc,List.getD]
   rw[h2]at this;exact this
  have g0:l'[0]' zO=bc l 0:=by simp[l',bc,List.getD,hn]
  conv=>rhs;rw[e]
  rw[xb3,xdL zO,g0,xbf];have hc0:bc l 0=x->0<l'.count x:=λe=>by rw[xbK,<-e,<-g0];exact xaB _
  by_cases e1:bc l 0=x
  ·have:=hc0 e1;by_cases e2:bc l n=x<;>simp[e1,e2]<;>omega
  by_cases e2:bc l n=x<;>simp[e1,e2]
 have BO:∀j,j<n->j≠0->bc (l'.set 0 (bc l n)) j=bc l j:=λj hj h0=>by
  rw[gY _ zO];simp[ig,h0,l',bc,List.getD,hj]
 have hO:j3 (l'.set 0 (bc l n)):=by
  have:=(h1.perm c8:j3 _);unfold j3 at this⊢;simp only[xay,xaV]at this;exact this.2
 refine⟨?_,c8,⟨λj j0 jn jp=>?_,λj j0 jn jp h=>by omega⟩,hO,λj hj Ze=>?_,λx hx=>?_⟩
 ·cases hh:l' with
  |nil=>rw[hh]at hl';simp at hl';omega
  |cons a r=>simp
 ·unfold E;rw[BO j jn zO,BO _ zO jp];exact ho j j0 zO
 ·simp only[xbQ,hl']at hj;rw[BO j hj Ze];unfold EA;rw[xac (λe=>Ze (h1.inj zO zO e))];exact hc.1 j zO
 unfold EA;by_cases e:x=(bc l 0).1
 ·rw[xae e]
 rw[xac e];refine hc.2 x λhm=>hx ?_;have:=(c8.map Prod.fst).mem_iff.2 hm;simp only[xay,xak]at this;rcases this with h|h
 ·exact absurd h e
 exact h
end TL
set_option maxRecDepth 100000
namespace Go.Proofs
open Go Go.Sx
section
open TL
abbrev T9:=HO .i64 397 395
abbrev WX:=HI .i64 397 395
theorem xd(a b:It)(B:Hp):Rd zQ 381 #[.agg #[iv a.1,iv a.2],.agg #[iv b.1,iv b.2]] B (· =.bool (prec a b)):=by
 refine aE λg=>Hh λb1 _ b2 _=>?_
 (repeat (first|apply ai.mk|refine Ld.mk (by repeat (first|exact List.Mem.head _|apply List.Mem.tail|apply xab)) rfl ?_|apply ae.eql|apply ae.geq))
 refine dc.or (a.2==b.2&&decide (a.1<b.1)) (λ_=>?_) rfl λ_=>bg.mk (.skip .tail) rfl
 (repeat (first|apply ai.mk|refine Ld.mk (by repeat (first|exact List.Mem.head _|apply List.Mem.tail|apply xab)) rfl ?_|apply ae.eql|apply ae.geq))
 refine dc.and (decide (a.1<b.1)) (λ_=>?_) rfl λ_=>⟨rfl,rfl⟩
 (repeat (first|apply ai.mk|refine Ld.mk (by repeat (first|exact List.Mem.head _|apply List.Mem.tail|apply xab)) rfl ?_|apply ae.eql|apply ae.geq))
 exact⟨rfl,rfl⟩
theorem rD{h:zV}{l:List It}{f:Int->Option Nat}{C:Hp}(ho:T9 h l f C){i:Nat}(hi:i<l.length)(a:It):
  Fc zQ 333 #[h,iv (i:Int),.agg #[iv a.1,iv a.2]] C (λv C'=>v=.tuple #[]/\T9 h (l.set i a) (EA f a.1 (some i)) C'):=by
 obtain⟨bh,la,mb,aK,Cm,rfl,rfl,aI,hm⟩:=ho.open zO;refine aE λg=>HT λb1 _=>?_;refine DR.self ?_
 (repeat (first|apply Nil.ptr|apply ai.mk|refine Ld.mk (by repeat (first|exact List.Mem.head _|apply List.Mem.tail|apply xab)) rfl ?_))
 refine ay.whole (r:=enc .i64 a) zM rfl ?_;refine av.nat hi ?_;refine St.row (l:=eS .i64 l++aK) (by repeat (first|exact c6.head _|apply c6.tail|apply c6.ca)) aI (by rw[xaf,cR];omega) rfl (o8 _ _) ?_;refine DR.self ?_
 (repeat (first|apply Nil.ptr|apply ai.mk|refine Ld.mk (by repeat (first|exact List.Mem.head _|apply List.Mem.tail|apply xab)) rfl ?_))
 rw[<-xaL Cm];refine kW.br (p:=i) (A:=[_,_,_]) (B:=[]) hm λC' hm'=>?_;refine⟨_,_,rfl,.tail,rfl,?_⟩;rw[SJ hi,xaL];exact .shut (Qv aI _ _) zI zI hm'
theorem YL{h:zV}{l:List It}{f:Int->Option Nat}{C:Hp}(ho:T9 h l f C){i:Nat}(hi:i<l.length)(cD:l.length<4611686018427387904)(hu:Ac l.length (bc l) i)(hc:nr l f i)(hO:j3 l):
  Fc zQ 332 #[h,iv (i:Int)] C (λv C'=>v=.tuple #[]/\∃l' f' p,T9 h l' f' C'/\l'.Perm l/\Cons l' f'/\WZ l'.length (bc l') p/\p<l'.length/\bc l' p=bc l i/\
   (pg l.length (bc l) i->Ord l'.length (bc l'))):=by
 obtain⟨bh,la,mb,aK,Cm,rfl,rfl,aI,hm⟩:=ho.open zO;obtain⟨n,hn⟩:∃n,n=l.length:=⟨_,rfl⟩;obtain⟨a,ha⟩:∃a,a=bc l i:=⟨_,rfl⟩;refine aE λg=>HU ?_
 (repeat (first|apply Nil.ptr|apply ai.mk|refine Ld.mk (by repeat (first|exact List.Mem.head _|apply List.Mem.tail|apply xab)) rfl ?_))
 refine av.nat hi ?_;refine ay.row (l:=eS .i64 l++aK) zM aI (fV hi aK) ?_;intro b6 _;refine St.p (o8 _ _) ?_;rw[<-ha];refine⟨λvs H=>∃(j:Nat) (L:List It) (f:Int->Option Nat) (C:Hp),vs=[iv (j:Int)]/\H=(b6,Obj.cells (enc .i64 a).toArray 397 zZ)::C/\T9 (.pointer (some ⟨bh,0,none⟩)) L f C/\L.length=n/\j<n/\
   (L.set j a).Perm l/\Ac n (bc (L.set j a)) j/\nr (L.set j a) f j/\(pg n (bc l) i->pg n (bc (L.set j a)) j),
  λvs _=>bJ vs 0,.mk ⟨i,l,f,_,rfl,rfl,ho,hn.symm,by omega,?_,?_,?_,?_⟩,?_⟩
 ·exact(by rw[ha,qc hi])
 ·rw[ha,qc hi,hn];exact hu
 ·rw[ha,qc hi];exact hc
 ·rw[ha,qc hi];exact id
 rintro w H ⟨j,L,f,C,hw,rfl,ho,hLn,hj,hp,hu,hc,kJ⟩ gs;simp only[xau,xa1]at hw;subst hw;have ho0:=ho;obtain⟨bh',la,mb,aK,Cm,hbh,rfl,aI,hm⟩:=ho.open zO;simp only[Value.pointer.injEq,xaq,Addr.mk.injEq,xa1]at hbh;subst hbh;have hOV:j3 (L.set j a):=hO.perm hp;have hlV:(L.set j a).length=n:=by simp[hLn]
 have XJ:bc (L.set j a) j=a:=by rw[gY a zO];simp[ig]
 have hVq:0<j->bc (L.set j a) ((j-1) /2)=bc L ((j-1) /2):=λh0=>by rw[gY a zO];simp[ig,show¬((j-1) /2=j)from by omega]
 intro J hJ;have hend:¬(0<j/\prec a (bc L ((j-1) /2))=true)->J [.bool false] ((b6,Obj.cells (enc .i64 a).toArray 397 zZ)::(bh,Obj.cells #[.slice (some ⟨la,0,none⟩) L.length (L.length+aK.length),.map (some mb)] 395 zZ)::(la,.cells (rows (eS .i64 L++aK)) 397 zZ)::Cm):=λhno=>hJ _ _ λgs=>by
  refine Br.no (ay.q ?_);refine aa.fq (rD ho0 (i:=j) zO a) ?_;rintro v C' ⟨rfl,cv⟩;have hd:=hc.done hOV zO;rw[XJ]at hd;have hex:=Ui hu (by
   by_cases h0:j=0
   ·exact .inl h0
   right;rw[XJ,hVq zO];cases h:prec a (bc L ((j-1) /2))
   ·rfl
   exact absurd ⟨by omega,h⟩ hno)
  rw[<-hlV]at hex;exact⟨_,_,rfl,.tail,rfl,_,_,j,cv,hp,hd,hex,by omega,by rw[XJ,ha],λhk=>zq hex (by rw[hlV];exact kJ (by rw[hn];exact hk))⟩
 refine DR.self (ae.gtr (Br.dec (λh0=>?_) (λh0=>JE.mk (hend (λh=>h0 zO)))));have h0:0<j:=by omega
 refine ay.q ?_
 (repeat (first|apply Nil.ptr|apply ai.mk|refine Ld.mk (by repeat (first|exact List.Mem.head _|apply List.Mem.tail|apply xab)) rfl ?_))
 refine ae.lj (c:=((j-1:Nat):Int)) zO zO (ae.Qy zD (Yg j h0) zO (av.nat zO ?_));refine ay.row (l:=eS .i64 L++aK) zM aI (fV zO aK) ?_;intro F;refine aa.eq (xd a _ _) (⟨.refl _,?_⟩);cases Xv:prec a (bc L ((j-1) /2))with
 |false=>exact aL.mk (JE.mk (hend (λh=>by rw[Xv]at h;exact absurd h.2 zD)))
 |true=>
 refine aL.mk (JE.mk (hJ _ _ λgs=>Br.yes ?_))
 (repeat (first|apply Nil.ptr|apply ai.mk|refine Ld.mk (by repeat (first|exact List.Mem.head _|apply List.Mem.tail|apply xab)) rfl ?_))
 refine ae.lj (c:=((j-1:Nat):Int)) zO zO (ae.Qy zD (Yg j h0) zO (av.nat zO ?_));refine ay.row (l:=eS .i64 L++aK) zM aI (fV zO aK) ?_;refine aa.fq (rD ho0 (i:=j) zO (bc L ((j-1) /2))) ?_;rintro v C' ⟨rfl,cv⟩;refine ae.lj (c:=((j-1:Nat):Int)) zO zO (ae.Qy zD (Yg j h0) zO ?_);have hst:=Uh h0 (by rw[<-hlV]at hj;rw[hlV]at hj;exact hj) hu (by rw[XJ,hVq h0];exact Xv);have hcs:=hc.step hOV (i:=j) (q:=(j-1) /2) zO zO zO;have hpp:=(swap_perm (l:=L.set j a) (i:=j) (q:=(j-1) /2) zO zO zO).trans hp;have Zs:(L.set j (bc L ((j-1) /2))).set ((j-1) /2) a=((L.set j a).set j (bc (L.set j a) ((j-1) /2))).set ((j-1) /2) (bc (L.set j a) j):=(u7 a zO zO zO).symm;have BO:bc ((L.set j (bc L ((j-1) /2))).set ((j-1) /2) a)=ig (ig (bc (L.set j a)) j (bc (L.set j a) ((j-1) /2))) ((j-1) /2) (bc (L.set j a) j):=by
  rw[Zs,gY _ zP,gY _ zO]
 refine aC.mk ⟨(j-1) /2,_,_,C',rfl,rfl,cv,by simp[hLn],by omega,?_,?_,?_,λ_=>?_⟩ ?_
 ·rw[Zs];exact hpp
 ·rw[BO];exact hst.1
 ·rw[Zs];rw[hVq h0]at hcs⊢;exact hcs
 ·rw[BO];exact hst.2
 simp only[bJ,xbe];omega
end
section
open TL
theorem R2{h:zV}{l:List It}{f:Int->Option Nat}{C:Hp}(ho:T9 h l f C){i:Nat}(hi:i<l.length)(cD:l.length<4611686018427387904)(hu:WZ l.length (bc l) i)(hc:nr l f i)(hO:j3 l):
  Fc zQ 334 #[h,iv (i:Int)] C (λv C'=>v=.tuple #[]/\∃l' f',T9 h l' f' C'/\l'.Perm l/\Cons l' f'/\Ord l'.length (bc l')):=by
 obtain⟨bh,la,mb,aK,Cm,rfl,rfl,aI,hm⟩:=ho.open zO;obtain⟨n,hn⟩:∃n,n=l.length:=⟨_,rfl⟩;obtain⟨a,ha⟩:∃a,a=bc l i:=⟨_,rfl⟩;refine aE λg=>HR ?_
 (repeat (first|apply Nil.ptr|apply ai.mk|refine Ld.mk (by repeat (first|exact List.Mem.head _|apply List.Mem.tail|apply xab)) rfl ?_|apply aR.mk|apply ae.geq))
 refine av.nat hi ?_;refine ay.row (l:=eS .i64 l++aK) zM aI (fV hi aK) ?_;intro b6 _;refine St.p (o8 _ _) ?_;rw[<-ha];refine⟨λvs H=>∃(j:Nat) (L:List It) (f:Int->Option Nat) (C:Hp),vs=[iv (j:Int)]/\H=(b6,Obj.cells (enc .i64 a).toArray 397 zZ)::C/\T9 (.pointer (some ⟨bh,0,none⟩)) L f C/\L.length=n/\j<n/\
   (L.set j a).Perm l/\WZ n (bc (L.set j a)) j/\nr (L.set j a) f j,
  λvs _=>n-bJ vs 0,.mk ⟨i,l,f,_,rfl,rfl,ho,hn.symm,by omega,?_,?_,?_⟩,?_⟩
 ·exact(by rw[ha,qc hi])
 ·rw[ha,qc hi,hn];exact hu
 ·rw[ha,qc hi];exact hc
 rintro w H ⟨j,L,f,C,hw,rfl,ho,hLn,hj,hp,hu,hc⟩ gs;simp only[xau,xa1]at hw;subst hw;have ho0:=ho;obtain⟨bh',la,mb,aK,Cm,hbh,rfl,aI,hm⟩:=ho.open zO;simp only[Value.pointer.injEq,xaq,Addr.mk.injEq,xa1]at hbh;subst hbh;have hOV:j3 (L.set j a):=hO.perm hp;have hlV:(L.set j a).length=n:=by simp[hLn]
 have XJ:bc (L.set j a) j=a:=by rw[gY a zO];simp[ig]
 have hVL:∀c,c≠j->bc (L.set j a) c=bc L c:=λc h0=>by rw[gY a zO];simp[ig,h0]
 refine ae.abb (c:=((2*j:Nat):Int)) zO zO (ae.En (c:=((2*j+1:Nat):Int)) zO zO λJ hJ=>?_);obtain⟨c,hcd⟩:∃c,c=y6 n (bc (L.set j a)) j:=⟨_,rfl⟩;have hkc:=sG n (bc (L.set j a)) j;rw[<-hcd]at hkc;have ji:J [iv (c:Int)] ((b6,Obj.cells (enc .i64 a).toArray 397 zZ)::(bh,Obj.cells #[.slice (some ⟨la,0,none⟩) L.length (L.length+aK.length),.map (some mb)] 395 zZ)::(la,.cells (rows (eS .i64 L++aK)) 397 zZ)::Cm):=by
  refine hJ _ _ λgs2=>?_;intro J2 BQ;have hstop:n<=c\/prec (bc L c) a=false->J2 [.bool true] ((b6,Obj.cells (enc .i64 a).toArray 397 zZ)::(bh,Obj.cells #[.slice (some ⟨la,0,none⟩) L.length (L.length+aK.length),.map (some mb)] 395 zZ)::(la,.cells (rows (eS .i64 L++aK)) 397 zZ)::Cm):=λhst=>BQ _ _ λgs=>by
   refine Br.yes (ay.q ?_);refine aa.fq (rD ho0 (i:=j) zO a) ?_;rintro v C' ⟨rfl,cv⟩;have hd:=hc.done hOV zO;rw[XJ]at hd;have hex:=NY hu (by
    rw[<-hcd];by_cases h0:n<=c
    ·exact .inl h0
    right;rw[XJ,hVL c zO];rcases hst with h|h
    ·omega
    exact h)
   rw[<-hlV]at hex;exact⟨_,_,rfl,.tail,rfl,_,_,cv,hp,hd,hex⟩
  refine DR.self ?_
  (repeat (first|apply Nil.ptr|apply ai.mk|refine Ld.mk (by repeat (first|exact List.Mem.head _|apply List.Mem.tail|apply xab)) rfl ?_|apply aR.mk|apply ae.geq))
  refine Br.dec (λh0=>JE.mk (hstop (.inl zO))) (λh0=>?_);have h0:c<n:=by omega
  (repeat (first|apply Nil.ptr|apply ai.mk|refine Ld.mk (by repeat (first|exact List.Mem.head _|apply List.Mem.tail|apply xab)) rfl ?_|apply aR.mk|apply ae.geq))
  refine av.nat zO ?_;refine ay.row (l:=eS .i64 L++aK) zM aI (fV zO aK) ?_;refine ay.q ?_;intro F;refine aa.eq (xd _ a _) (⟨.refl _,Un.not ?_⟩);cases Xv:prec (bc L c) a with
  |false=>exact aL.mk (JE.mk (hstop (.inr Xv)))
  |true=>
  refine aL.mk (JE.mk (BQ _ _ λgs=>Br.no ?_))
  (repeat (first|apply Nil.ptr|apply ai.mk|refine Ld.mk (by repeat (first|exact List.Mem.head _|apply List.Mem.tail|apply xab)) rfl ?_|apply aR.mk|apply ae.geq))
  refine av.nat zO ?_;refine ay.row (l:=eS .i64 L++aK) zM aI (fV zO aK) ?_;refine aa.fq (rD ho0 (i:=j) zO (bc L c)) ?_;rintro v C' ⟨rfl,cv⟩;have hcj:c≠j:=by omega
  have hst:=sW hu (by rw[<-hcd];exact h0) (by rw[<-hcd,XJ,hVL c hcj];exact Xv);rw[<-hcd]at hst;have hcs:=hc.step hOV (i:=j) (q:=c) zO zO hcj;have hpp:=(swap_perm (l:=L.set j a) (i:=j) (q:=c) zO zO hcj).trans hp;have Zs:(L.set j (bc L c)).set c a=((L.set j a).set j (bc (L.set j a) c)).set c (bc (L.set j a) j):=(u7 a zO zO hcj).symm;have BO:bc ((L.set j (bc L c)).set c a)=ig (ig (bc (L.set j a)) j (bc (L.set j a) c)) c (bc (L.set j a) j):=by
   rw[Zs,gY _ zP,gY _ zO]
  refine aC.mk ⟨c,_,_,C',rfl,rfl,cv,by simp[hLn],by omega,?_,?_,?_⟩ ?_
  ·rw[Zs];exact hpp
  ·rw[BO];exact hst
  ·rw[Zs];rw[hVL c hcj]at hcs⊢;exact hcs
  simp only[bJ,xbe];omega
 intro J3 hJ3;have hkd:y6 n (bc (L.set j a)) j=if(decide (2*j+1+1<n) &&prec (bc L (2*j+1+1)) (bc L (2*j+1)))=true then 2*j+1+1 else 2*j+1:=by
  unfold y6;rw[hVL _ zO,hVL _ zO]
 rw[hkd]at hcd;have hno:¬(2*j+1+1<n/\prec (bc L (2*j+1+1)) (bc L (2*j+1))=true)->J3 [.bool false] ((b6,Obj.cells (enc .i64 a).toArray 397 zZ)::(bh,Obj.cells #[.slice (some ⟨la,0,none⟩) L.length (L.length+aK.length),.map (some mb)] 395 zZ)::(la,.cells (rows (eS .i64 L++aK)) 397 zZ)::Cm):=λhx=>hJ3 _ _ λgs=>by
  rw[xac (by simpa using hx)]at hcd;rw[hcd]at ji;exact Br.no (.mk ji)
 refine DR.self (ae.En (c:=((2*j+1+1:Nat):Int)) zO zO ?_)
 (repeat (first|apply Nil.ptr|apply ai.mk|refine Ld.mk (by repeat (first|exact List.Mem.head _|apply List.Mem.tail|apply xab)) rfl ?_|apply aR.mk|apply ae.geq))
 refine Br.dec (λh0=>?_) (λh0=>JE.mk (hno (λh=>h0 zO)));have h0:2*j+1+1<n:=by omega
 (repeat (first|apply Nil.ptr|apply ai.mk|refine Ld.mk (by repeat (first|exact List.Mem.head _|apply List.Mem.tail|apply xab)) rfl ?_|apply aR.mk|apply ae.geq))
 refine ae.En (c:=((2*j+1+1:Nat):Int)) zO zO (av.nat zO ?_);refine ay.row (l:=eS .i64 L++aK) zM aI (fV zO aK) ?_
 (repeat (first|apply Nil.ptr|apply ai.mk|refine Ld.mk (by repeat (first|exact List.Mem.head _|apply List.Mem.tail|apply xab)) rfl ?_|apply aR.mk|apply ae.geq))
 refine av.nat zO ?_;refine ay.row (l:=eS .i64 L++aK) zM aI (fV zO aK) ?_;intro F;refine aa.eq (xd _ _ _) (⟨.refl _,?_⟩);cases Xv:prec (bc L (2*j+1+1)) (bc L (2*j+1))with
 |false=>exact aL.mk (JE.mk (hno (λh=>by rw[Xv]at h;exact absurd h.2 zD)))
 |true=>
 refine aL.mk (JE.mk (hJ3 _ _ λgs=>Br.yes ?_));refine ae.En (c:=((2*j+1+1:Nat):Int)) zO zO ?_;rw[xae (by simp[h0,Xv])]at hcd;rw[hcd]at ji;exact .mk ji
theorem VN(B:Hp):Fc zQ 261 #[] B (λv H=>∃b C,v=.pointer (some ⟨b,0,none⟩)/\H=C++B/\WX (.pointer (some ⟨b,0,none⟩)) [] C):=by
 refine aE λg=>IU (Build.mk (cs:=[.slice none 0 0,.map none]) zK ?_);intro b _;exact⟨_,_,rfl,.refl _,b,[_],rfl,rfl,λ_=>none,⟨b,_,_,[],[],rfl,rfl,aV.nil _ _,.inl ⟨rfl,rfl,rfl⟩,λ_=>rfl⟩,⟨λj hj=>by simp at hj,λ_ _=>rfl⟩,λj _ hj=>by simp at hj,by simp[j3]⟩
theorem RF{h:zV}{l:List It}{C:Hp}(hi:WX h l C)(cD:l.length<4398046511104)(x k:Int):
  Fc zQ 263 #[h,iv x,iv k] C (λv C'=>∃l',WX h l' C'/\
   ((x∈l.map Prod.fst/\v=iv 11/\l'=l)\/(x∉l.map Prod.fst/\v=iv 0/\l'.Perm ((x,k)::l)))):=by
 have F8:=hi;obtain⟨f,ho,hc,hO,h1⟩:=hi;have ho0:=ho;obtain⟨bh,sv,mv,Cs,Cm,rfl,rfl,hs,hm,hne⟩:=ho;refine aE λg=>IS ?_
 (repeat (first|apply Nil.ptr|refine ai.mk ?_|refine Ld.mk zM rfl ?_|refine aR.mk ?_|refine ae.eql ?_|refine ae.neq ?_|refine ae.lss ?_|refine ae.leq ?_|refine ae.gtr ?_|refine ae.geq ?_|apply Un.not|refine Ext.mk rfl ?_|refine aL.mk ?_|refine ae.aH ?_|refine ae.kS ?_|refine ae.jV ?_|apply Br.yes|apply Br.no))
 rcases SU hc (x:=x)with⟨hx,hf⟩|⟨i,hi,hx,hf⟩
 ·refine hm.Ng zS hf ?_
  (repeat (first|apply Nil.ptr|refine ai.mk ?_|refine Ld.mk zM rfl ?_|refine aR.mk ?_|refine ae.eql ?_|refine ae.neq ?_|refine ae.lss ?_|refine ae.leq ?_|refine ae.gtr ?_|refine ae.geq ?_|apply Un.not|refine Ext.mk rfl ?_|refine aL.mk ?_|refine ae.aH ?_|refine ae.kS ?_|refine ae.jV ?_|apply Br.yes|apply Br.no))
  intro J hJ;obtain⟨uF,lY,TV,hp4⟩:=QC (a:=(x,k)) hc hO h1 hx;have ji:∀mb XX,kW .i64 idx (.map (some mb)) f XX->J [] ((bh,Obj.cells #[sv,.map (some mb)] 395 zZ)::(Cs++XX)):=by
   intro mb XX hm';refine hJ _ λgs=>?_
   (repeat (first|apply Nil.ptr|refine ai.mk ?_|refine Ld.mk zM rfl ?_|refine aR.mk ?_|refine ae.eql ?_|refine ae.neq ?_|refine ae.lss ?_|refine ae.leq ?_|refine ae.gtr ?_|refine ae.geq ?_|apply Un.not|refine Ext.mk rfl ?_|refine aL.mk ?_|refine ae.aH ?_|refine ae.kS ?_|refine ae.jV ?_|apply Br.yes|apply Br.no))
   refine Build.mk (cs:=enc .i64 (x,k)) zK (au.one (k:=2) (e:=397) (z:=.agg #[iv 0,iv 0]) zK zK zK zD rfl λxb=>?_);refine hs.GL (A:=[_,_]) (B:=XX) (r:=enc .i64 (x,k)) zM rfl (o8 _ _) ⟨[iv 0,iv 0],rfl,rfl⟩ (by rw[cR];omega) (by rw[cR];omega) λv' C' hs'=>?_
   (repeat (first|apply Nil.ptr|refine ai.mk ?_|refine Ld.mk zM rfl ?_|refine aR.mk ?_|refine ae.eql ?_|refine ae.neq ?_|refine ae.lss ?_|refine ae.leq ?_|refine ae.gtr ?_|refine ae.geq ?_|apply Un.not|refine Ext.mk rfl ?_|refine aL.mk ?_|refine ae.aH ?_|refine ae.kS ?_|refine ae.jV ?_|apply Br.yes|apply Br.no))
   refine St.one (by repeat (first|exact c6.head _|apply c6.tail|apply c6.ca)) (by obtain⟨a,c,rfl⟩:=hs'.len;rfl) zI rfl ?_
   (repeat (first|apply Nil.ptr|refine ai.mk ?_|refine Ld.mk zM rfl ?_|refine aR.mk ?_|refine ae.eql ?_|refine ae.neq ?_|refine ae.lss ?_|refine ae.leq ?_|refine ae.gtr ?_|refine ae.geq ?_|apply Un.not|refine Ext.mk rfl ?_|refine aL.mk ?_|refine ae.aH ?_|refine ae.kS ?_|refine ae.jV ?_|apply Br.yes|apply Br.no))
   refine hs'.bP ?_;refine ae.lj (c:=((l.length:Nat):Int)) (by rw[xaf,cR];simp) zO ?_;have sK:aV 397 2 v' (eS .i64 (l++[(x,k)])) C':=by simpa[eS]using hs'
   have cv:T9 (.pointer (some ⟨bh,0,none⟩)) (l++[(x,k)]) f ((bh,Obj.cells #[v',.map (some mb)] 395 zZ)::(C'++XX)):=
    ⟨bh,_,_,C',XX,rfl,rfl,sK,hm',λh=>by simp at h⟩
   refine aa.pre (.tail) ?_;refine aa.fq (YL cv (i:=l.length) zI zP uF lY TV) ?_;rintro v C'' ⟨rfl,l',f',p,tD,c8,hc2,hex,hp,BO,afn⟩;refine⟨_,_,rfl,.refl _,l',⟨f',tD,hc2,afn hp4,TV.perm c8⟩,.inr ⟨hx,rfl,c8.trans ?_⟩⟩;exact xbb (l₁:=l) (l₂:=[(x,k)])
  (repeat (first|apply Nil.ptr|refine ai.mk ?_|refine Ld.mk zM rfl ?_|refine aR.mk ?_|refine ae.eql ?_|refine ae.neq ?_|refine ae.lss ?_|refine ae.leq ?_|refine ae.gtr ?_|refine ae.geq ?_|apply Un.not|refine Ext.mk rfl ?_|refine aL.mk ?_|refine ae.aH ?_|refine ae.kS ?_|refine ae.jV ?_|apply Br.yes|apply Br.no))
  rcases hm with⟨rfl,rfl,hfn⟩|⟨mb,m,ck,rfl,h2⟩
  ·(repeat (first|apply Nil.ptr|refine ai.mk ?_|refine Ld.mk zM rfl ?_|refine aR.mk ?_|refine ae.eql ?_|refine ae.neq ?_|refine ae.lss ?_|refine ae.leq ?_|refine ae.gtr ?_|refine ae.geq ?_|apply Un.not|refine Ext.mk rfl ?_|refine aL.mk ?_|refine ae.aH ?_|refine ae.kS ?_|refine ae.jV ?_|apply Br.yes|apply Br.no))
   intro mb _
   (repeat (first|apply Nil.ptr|refine ai.mk ?_|refine Ld.mk zM rfl ?_|refine aR.mk ?_|refine ae.eql ?_|refine ae.neq ?_|refine ae.lss ?_|refine ae.leq ?_|refine ae.gtr ?_|refine ae.geq ?_|apply Un.not|refine Ext.mk rfl ?_|refine aL.mk ?_|refine ae.aH ?_|refine ae.kS ?_|refine ae.jV ?_|apply Br.yes|apply Br.no))
   refine St.one (by repeat (first|exact c6.head _|apply c6.tail|apply c6.ca)) rfl zI rfl ?_;refine JE.of ?_ (ji mb _ (by rw[hfn];exact kW.made mb));simp only[xaL];refine .perm ?_;refine(List.Perm.swap _ _ _).trans (.cons _ ?_);exact xbb (l₁:=[_])
  (repeat (first|apply Nil.ptr|refine ai.mk ?_|refine Ld.mk zM rfl ?_|refine aR.mk ?_|refine ae.eql ?_|refine ae.neq ?_|refine ae.lss ?_|refine ae.leq ?_|refine ae.gtr ?_|refine ae.geq ?_|apply Un.not|refine Ext.mk rfl ?_|refine aL.mk ?_|refine ae.aH ?_|refine ae.kS ?_|refine ae.jV ?_|apply Br.yes|apply Br.no))
  exact JE.mk (ji mb Cm (.inr ⟨mb,m,ck,rfl,h2⟩))
 refine hm.Nf zS hf ?_
 (repeat (first|apply Nil.ptr|refine ai.mk ?_|refine Ld.mk zM rfl ?_|refine aR.mk ?_|refine ae.eql ?_|refine ae.neq ?_|refine ae.lss ?_|refine ae.leq ?_|refine ae.gtr ?_|refine ae.geq ?_|apply Un.not|refine Ext.mk rfl ?_|refine aL.mk ?_|refine ae.aH ?_|refine ae.kS ?_|refine ae.jV ?_|apply Br.yes|apply Br.no))
 refine⟨_,_,rfl,.refl _,l,F8,.inl ⟨?_,rfl,rfl⟩⟩;rw[iA];exact⟨i,hi,hx⟩
theorem VL{h:zV}{l:List It}{C:Hp}(hi:WX h l C)(cD:l.length<4398046511104):
  Fc zQ 265 #[h] C (λv C'=>∃l',WX h l' C'/\
   ((l=[]/\v=.tuple #[iv 0,iv 0,iv 10]/\l'=l)\/(∃a,l.Perm (a::l')/\(∀b∈l,prec b a=false)/\v=.tuple #[iv a.1,iv a.2,iv 0]))):=by
 have F8:=hi;obtain⟨f,ho,hc,hO,h1⟩:=hi;by_cases hl:l=[]
 ·subst hl;refine aE λg=>xC ?_;obtain⟨bh,sv,mv,Cs,Cm,rfl,rfl,hs,hm,hne⟩:=ho
  (repeat (first|apply Nil.ptr|apply ai.mk|refine Ld.mk (by repeat (first|exact List.Mem.head _|apply List.Mem.tail|apply xab)) rfl ?_|apply aR.mk|apply ae.eql|apply ae.lss|apply Br.yes|apply Br.no|apply ae.aH))
  refine dc.or true (λ_=>?_) rfl λ_=>?_
  ·(repeat (first|apply Nil.ptr|apply ai.mk|refine Ld.mk (by repeat (first|exact List.Mem.head _|apply List.Mem.tail|apply xab)) rfl ?_|apply aR.mk|apply ae.eql|apply ae.lss|apply Br.yes|apply Br.no|apply ae.aH))
   refine hs.bP ?_
   (repeat (first|apply Nil.ptr|apply ai.mk|refine Ld.mk (by repeat (first|exact List.Mem.head _|apply List.Mem.tail|apply xab)) rfl ?_|apply aR.mk|apply ae.eql|apply ae.lss|apply Br.yes|apply Br.no|apply ae.aH))
   exact⟨rfl,rfl⟩
  (repeat (first|apply Nil.ptr|apply ai.mk|refine Ld.mk (by repeat (first|exact List.Mem.head _|apply List.Mem.tail|apply xab)) rfl ?_|apply aR.mk|apply ae.eql|apply ae.lss|apply Br.yes|apply Br.no|apply ae.aH))
  exact⟨_,_,rfl,.refl _,[],F8,.inl ⟨rfl,rfl,rfl⟩⟩
 obtain⟨n,hn⟩:∃n,l.length=n+1:=⟨l.length-1,by have:=xdc.2 hl;omega⟩;have hmin:∀b∈l,prec b (bc l 0)=false:=λb hb=>by
  obtain⟨j,hj,e⟩:=xa8.1 hb;have:=U1 hO j hj;rwa [show bc l j=b by simp[bc,List.getD,hj,e]]at this
 intro g;refine xC (R:=aM _) ?_;obtain⟨bh,la,mb,aK,Cm,rfl,rfl,aI,hm⟩:=ho.open zO;unfold L265
 (repeat (first|apply Nil.ptr|apply ai.mk|refine Ld.mk (by repeat (first|exact List.Mem.head _|apply List.Mem.tail|apply xab)) rfl ?_|apply aR.mk|apply ae.eql|apply ae.lss|apply Br.yes|apply Br.no|apply ae.aH))
 refine dc.or false (λ_=>?_) rfl λ_=>?_
 ·(repeat (first|apply Nil.ptr|apply ai.mk|refine Ld.mk (by repeat (first|exact List.Mem.head _|apply List.Mem.tail|apply xab)) rfl ?_|apply aR.mk|apply ae.eql|apply ae.lss|apply Br.yes|apply Br.no|apply ae.aH))
  exact⟨rfl,by rw[hn];simp;omega⟩
 (repeat (first|apply Nil.ptr|apply ai.mk|refine Ld.mk (by repeat (first|exact List.Mem.head _|apply List.Mem.tail|apply xab)) rfl ?_|apply aR.mk|apply ae.eql|apply ae.lss|apply Br.yes|apply Br.no|apply ae.aH))
 refine av.of 0 rfl zO ?_;refine ay.row (l:=eS .i64 l++aK) zM aI (fV zO aK) ?_;intro s7 _;refine St.p (o8 _ _) ?_
 (repeat (first|apply Nil.ptr|apply ai.mk|refine Ld.mk (by repeat (first|exact List.Mem.head _|apply List.Mem.tail|apply xab)) rfl ?_|apply aR.mk|apply ae.eql|apply ae.lss|apply Br.yes|apply Br.no|apply ae.aH))
 refine ae.lj (c:=(n:Int)) (by rw[hn];simp) zO ?_
 (repeat (first|apply Nil.ptr|apply ai.mk|refine Ld.mk (by repeat (first|exact List.Mem.head _|apply List.Mem.tail|apply xab)) rfl ?_|apply aR.mk|apply ae.eql|apply ae.lss|apply Br.yes|apply Br.no|apply ae.aH))
 refine av.nat zO ?_;refine ay.row (l:=eS .i64 l++aK) zM aI (fV zO aK) ?_;intro b27 _;refine St.p (o8 _ _) ?_
 (repeat (first|apply Nil.ptr|apply ai.mk|refine Ld.mk (by repeat (first|exact List.Mem.head _|apply List.Mem.tail|apply xab)) rfl ?_|apply aR.mk|apply ae.eql|apply ae.lss|apply Br.yes|apply Br.no|apply ae.aH))
 refine gw.upto (h:=n) zO ?_
 (repeat (first|apply Nil.ptr|apply ai.mk|refine Ld.mk (by repeat (first|exact List.Mem.head _|apply List.Mem.tail|apply xab)) rfl ?_|apply aR.mk|apply ae.eql|apply ae.lss|apply Br.yes|apply Br.no|apply ae.aH))
 refine St.one (by repeat (first|exact c6.head _|apply c6.tail|apply c6.ca)) rfl zI rfl ?_;refine DR.self ?_
 (repeat (first|apply Nil.ptr|apply ai.mk|refine Ld.mk (by repeat (first|exact List.Mem.head _|apply List.Mem.tail|apply xab)) rfl ?_|apply aR.mk|apply ae.eql|apply ae.lss|apply Br.yes|apply Br.no|apply ae.aH))
 rw[<-xaL Cm];refine kW.del (A:=[_,_,_,_]) (B:=[]) hm λXX hm'=>?_;rw[xaL];have Xu:eS .i64 l++aK=eS .i64 (l.take n)++(enc .i64 (bc l n)::aK):=by
  have e:l=l.take n++[bc l n]:=by
   have h2:l.drop n=[bc l n]:=by
    rw[xbs zO,xdk zO];simp[hn,bc,List.getD]
   have:=(xbr n l).symm;rw[h2]at this;exact this
  conv=>lhs;rw[e]
  simp[eS]
 have Sd:∀r∈eS .i64 (l.take n)++(enc .i64 (bc l n)::aK),r.length=2:=by rw[<-Xu];exact aI
 intro J hJ;have hlt:(l.take n).length=n:=by simp[hn]
 have ji:∀l' C',WX (.pointer (some ⟨bh,0,none⟩)) l' C'->l.Perm (bc l 0::l')->J [] ((b27,Obj.cells (enc .i64 (bc l n)).toArray 397 zZ)::(s7,Obj.cells (enc .i64 (bc l 0)).toArray 397 zZ)::C'):=by
  intro l' C' hi' YV;refine hJ _ λgs=>?_
  (repeat (first|apply Nil.ptr|apply ai.mk|refine Ld.mk (by repeat (first|exact List.Mem.head _|apply List.Mem.tail|apply xab)) rfl ?_|apply aR.mk|apply ae.eql|apply ae.lss|apply Br.yes|apply Br.no|apply ae.aH))
  exact⟨_,_,rfl,.skip .tail,l',hi',.inr ⟨_,YV,hmin,rfl⟩⟩
 (repeat (first|apply Nil.ptr|apply ai.mk|refine Ld.mk (by repeat (first|exact List.Mem.head _|apply List.Mem.tail|apply xab)) rfl ?_|apply aR.mk|apply ae.eql|apply ae.lss|apply Br.yes|apply Br.no|apply ae.aH))
 have x6:T9 (.pointer (some ⟨bh,0,none⟩)) (l.take n) (EA f (bc l 0).1 none) ((bh,Obj.cells #[.slice (some ⟨la,0,none⟩) n (l.length+aK.length),.map (some mb)] 395 zZ)::(la,.cells (rows (eS .i64 l++aK)) 397 zZ)::XX):=by
  rw[Xu];exact .shut Sd hlt.symm (by simp[hn];omega) hm'
 refine Br.mk (λh0=>?_) (λh0=>?_)
 ·have h0:0<n:=by simpa using h0
  obtain⟨_,q1,q2,q3,q4⟩:=US hc hO h1 hn h0;refine ay.q ?_;refine aa.fq (rD x6 (i:=0) zO (bc l n)) ?_;rintro v C2 ⟨rfl,tD⟩;have BN:nr ((l.take n).set 0 (bc l n)) (EA (EA f (bc l 0).1 none) (bc l n).1 (some 0)) 0:=by
   refine⟨λj hj Ze=>?_,λx hx=>?_⟩
   ·unfold EA;rw[xac]
    ·exact q4.1 j hj Ze
    intro e;have h00:bc ((l.take n).set 0 (bc l n)) 0=bc l n:=by rw[gY _ zO];simp[ig]
    exact Ze (q3.inj hj zP (by rw[e,h00]))
   unfold EA;rw[xac]
   ·exact q4.2 x hx
   intro e;refine hx (iA.2 ⟨0,by simp;omega,?_⟩);rw[gY _ zO];simp[ig,e]
  refine aa.fq (R2 tD (i:=0) zP zP (by simpa[hn]using q2) BN q3) ?_;rintro v C3 ⟨rfl,l3,f3,Dw,RG,Zn,abJ⟩;exact JE.mk (ji l3 C3 ⟨f3,Dw,Zn,abJ,q3.perm RG⟩ ((RG.cons (bc l 0)).trans q1).symm)
 have h0:n=0:=by simp at h0;omega
 subst h0;refine JE.mk (ji (l.take 0) _ ⟨_,x6,⟨λj hj=>by simp at hj,λx _=>?_⟩,λj _ hj=>by simp at hj,by simp[j3]⟩ ?_)
 ·unfold EA;split
  ·rfl
  rename_i hne;refine hc.2 x λhm=>hne ?_;obtain⟨j,hj,e⟩:=iA.1 hm;rw[show j=0 by omega]at e;exact e.symm
 match l,hn with
 | [a],_=>exact .refl _
end
end Go.Proofs
namespace ak
open Go.Sx TL
def nn(s k:Nat):It:=((s:Int),(k:Int))
variable {n:Nat} {c:Nat->Nat->Nat} {T:Nat} {D:zL} {l l':List It} {s i:Nat}
end ak
