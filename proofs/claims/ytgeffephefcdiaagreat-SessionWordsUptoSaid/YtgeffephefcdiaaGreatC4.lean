import Derived.Test.YtgeffephefcdiaaGreatC3
import Derived.Test.YtgeffephefcdiaaGreatC2
import Derived.Test.YtgeffephefcdiaaGreatC1
import Derived.Deep.Slices
import Derived.SizedLaws
set_option linter.unusedVariables false
set_option linter.unusedSimpArgs false
set_option linter.unusedSectionVars false
set_option maxRecDepth 100000
namespace Go.Proofs
open Go Go.Sx
open ax
theorem Mp(x:Bool)(B:Hp):Rd zQ 248 #[.bool x] B (· =.int .u8 ((x.toNat:Nat):Int)):=by
 refine aE λg=>Ju ?_;cases x
 ·exact Br.no (br.mk (.refl _) rfl)
 exact Br.yes (br.mk (.refl _) rfl)
def XG(op:Nat)(a b:Bool):Bool:=op.testBit (2*a.toNat+b.toNat)
abbrev Nx(b op:Nat):Hp:=[(b,.cells #[.int .u8 (op:Int)] 5 zZ)]
theorem G7{b op:Nat}(hop:op<16):BI (.func (.func 247) #[] #[ptr b]) (Nx b op) (λx y _=>XG op x y):=by
 refine⟨_,_,_,rfl,by kernel_rfl,λx y z=>?_⟩;refine aE λg=>Jv (DR.of (R:=Nx b op) (.refl _) (Ld.q ?_));refine aa.eq (Mp x _) (⟨.refl _,?_⟩);have hx:x.toNat<=1:=by cases x<;>decide
 have hy:y.toNat<=1:=by cases y<;>decide
 refine ae.yb (a:=2) (aa.eq (Mp y _) (⟨.refl _,?_⟩));refine ae.fI (ae.ic (by simp[bA];omega) (ae.jj (b:=1) (by simp[bA];exact xau (xbo _ _) zO) (by simp[bA]) (ae.dJ (b:=1) (br.mk (.refl _) ?_))));congr 1;unfold XG;rw[xbT];rw[xbP,xaW]
theorem Gi:BI (.func (.func 179) #[] #[]) [] (λx y z=>if x then y else z):=by
 refine⟨_,_,_,rfl,by kernel_rfl,λx y z=>?_⟩;refine aE λg=>Kg ?_;cases x
 ·refine cm.mk false (λh=>by simp at h) (λ_=>rfl) λgs=>?_;refine cm.mk (by exact z) (λ_=>Un.not (cm.and z (λ_=>⟨rfl,rfl⟩) zI λgs=>⟨rfl,by simp⟩)) (λh=>by simp at h) λgs=>?_;exact br.mk (.refl _) rfl
 refine cm.and y (λ_=>⟨rfl,rfl⟩) zI λgs=>?_;refine cm.or false (λ_=>Un.not (cm.and z (λ_=>⟨rfl,rfl⟩) zI λgs=>⟨rfl,by simp⟩)) zI λgs=>?_;refine br.mk (.refl _) ?_;cases y<;>rfl
section
variable {kp:Nat} {K:Kd} {S:Nat->ax.Fn} {ord ah tr:zL} {C:Hp}
theorem abG{α:Type}(w a b:α)(L R:List α):(w::(L++(a::b::R))).Perm (a::([b]++w::(L++R))):=by
 classical
 rw[xcu];intro x;simp only[xbh,xb5,xdO];omega
theorem Ez(hK:cc kp K S ord ah tr C){q:zL}(hq:∀r∈q,live K.N r):∃c,Tree K.n (lv ah) K.N q c:=by
 obtain⟨c,h1,_⟩:=UN (S:=S) hK.ok.wf hK.ok.lv hK.ok.mid.int K.n 0 q zO zO hq (λr _=>xaO _);exact⟨c,h1⟩
theorem kj.two{f:ax.Fn}{w:zV}{H:Hp}(h:kj kp K S ord ah tr f w H):∃x e,w=.tuple #[x,e]:=by
 rcases h with(⟨x,K',S',rfl,_⟩|⟨rfl,_⟩)|⟨rfl,_⟩
 ·exact⟨_,_,rfl⟩
 ·exact⟨_,_,rfl⟩
 exact⟨_,_,rfl⟩
theorem jK(hK:cc kp K S ord ah tr C){op a b:Nat}(hop:op<16)(ha:live K.N a)(hb:live K.N b):
  Fc zQ 176 #[ptr kp,.int .u8 (op:Int),u32 a,u32 b] C (kj kp K S ord ah tr (λx=>XG op (S a x) (S b x))):=by
 refine aE λg=>Kk λb1 _=>?_;refine ae.aI (Br.no (Ld.q ?_));refine ae.nq (b:=15) (Br.F (au.RK (e:=110) (x:=(a:Int)) (y:=(b:Int)) zK zK zK λbs=>?_));have hq:∀r∈l3 (a,b,0),live K.N r:=λr hr=>by
  simp only[l3,xal,xaQ,xbH]at hr;rcases hr with rfl|rfl|rfl
  ·exact ha
  ·exact hb
  exact .inl zO
 have hI:dF .u32 ((bs,Obj.cells (ay .u32 [(a:Int),(b:Int)]) 110 zZ)::Nx b1 op) (.slice (some ⟨bs,0,none⟩) 2 2) (iw [a,b]):=(aP.made (T:=110) (kd:=.u32) (b:=bs) (iw [a,b])).ints.mono λ_ h=>xad (Nx b1 op) h;refine aa.fq (args:=#[ptr kp,.slice (some ⟨bs,0,none⟩) 2 2]) (C:=((bs,Obj.cells (ay .u32 [(a:Int),(b:Int)]) 110 zZ)::Nx b1 op)++C) (Am hK hI (λr hr=>?_) (by show 2<=1048576;omega)) ?_
 ·simp only[xal,xaQ,xbH]at hr;rcases hr with rfl|rfl
  ·exact ha
  exact hb
 rintro w H ⟨bw,vl,CL,lvl,rfl,rfl,Yd,nD,hlv⟩;refine Ext.mk rfl (Ext.mk rfl (ae.cO (Br.F (Build.abu (e:=110) (q:=.u32) (x:=(a:Int)) (y:=(b:Int)) zK zK zK ?_))));obtain⟨c,hT⟩:=Ez hK hq;refine aa.pre (H':=(bs,Obj.cells (ay .u32 [(a:Int),(b:Int)]) 110 zZ)::(Nx b1 op++gz bw kp vl (.slice none 0 0)::(CL++C))) (.perm (abG _ _ _ _ _)) (aa.fq (args:=#[ptr bw,kq (a,b,0),.func (.func 247) #[] #[ptr b1]]) (Ml (t:=λx y _=>XG op x y) hK (G7 hop) Yd nD hlv (a,b,0) hq hT) ?_);intro w H hD;obtain⟨x,e,rfl⟩:=hD.two;exact Ext.mk rfl (Ext.mk rfl (aF.mk .tail hD))
theorem OK(hK:cc kp K S ord ah tr C){a:Nat}(ha:live K.N a):
  Fc zQ 122 #[ptr kp,u32 a] C (kj kp K S ord ah tr (λx=> !S a x)):=by
 refine aE λg=>KL (aa.fq (args:=#[ptr kp,.int .u8 ((3:Nat):Int),u32 a,u32 0]) (jK hK (op:=3) zD ha (.inl zO)) ?_);intro w H hD;have e:(λx=>XG 3 (S a x) (S 0 x))=λx=> !S a x:=by
  funext x
  rw[hK.ok.mid.int.zero];cases S a x<;>rfl
 rw[e]at hD;obtain⟨x,e,rfl⟩:=hD.two;exact Ext.mk rfl (Ext.mk rfl (aF.mk (.refl _) hD))
theorem abD{α:Type}(w a:α)(L R:List α):(w::(L++(a::R))).Perm (a::([]++w::(L++R))):=by
 classical
 rw[xcu];intro x;simp only[xbh,xb5,xdO];omega
theorem Ak(hK:cc kp K S ord ah tr C){a b c:Nat}(ha:live K.N a)(hb:live K.N b)(hc:live K.N c):
  Fc zQ 126 #[ptr kp,u32 a,u32 b,u32 c] C (kj kp K S ord ah tr (λx=>if S a x then S b x else S c x)):=by
 refine aE λg=>KH (au.abZ (e:=110) (x:=(a:Int)) (y:=(b:Int)) (z:=(c:Int)) zK zK zK λbs=>?_);have hq:∀r∈l3 (a,b,c),live K.N r:=λr hr=>by
  simp only[l3,xal,xaQ,xbH]at hr;rcases hr with rfl|rfl|rfl
  ·exact ha
  ·exact hb
  exact hc
 refine aa.fq (args:=#[ptr kp,.slice (some ⟨bs,0,none⟩) 3 3]) (C:=[(bs,Obj.cells (ay .u32 [(a:Int),(b:Int),(c:Int)]) 110 zZ)]++C) (Am hK (refs:=l3 (a,b,c)) ((aP.made (T:=110) (kd:=.u32) (b:=bs) (iw (l3 (a,b,c)))).ints) hq (by show 3<=1048576;omega)) ?_;rintro w H ⟨bw,vl,CL,lvl,rfl,rfl,Yd,nD,hlv⟩;refine Ext.mk rfl (Ext.mk rfl (ae.cO (Br.F (Build.three (e:=110) (q:=.u32) (x:=(a:Int)) (y:=(b:Int)) (z:=(c:Int)) zK zK zK ?_))));obtain⟨k,hT⟩:=Ez hK hq;refine aa.pre (H':=(bs,Obj.cells (ay .u32 [(a:Int),(b:Int),(c:Int)]) 110 zZ)::([]++gz bw kp vl (.slice none 0 0)::(CL++C))) (.perm (abD _ _ _ _)) (aa.fq (args:=#[ptr bw,kq (a,b,c),.func (.func 179) #[] #[]]) (Ml (t:=λx y z=>if x then y else z) hK Gi Yd nD hlv (a,b,c) hq hT) ?_);intro w H hD;obtain⟨x,e,rfl⟩:=hD.two;exact Ext.mk rfl (Ext.mk rfl (aF.mk .tail hD))
theorem pW.grow(hK:cc kp K S ord ah tr C){K':Kd}{S':Nat->ax.Fn}{f:ax.Fn}{r:Nat}{C':Hp}{cX:zL}(h:pW K S K' S' f r)(dk:cc kp K' S' ord ah cX C')(hl:r<2\/2<=r):kV K S K' S' f r:=
 ⟨h.n,h.cap,h.N,h.fn,by
  by_cases h2:r<2
  ·exact .inl h2
  refine .inr (dk.ok.mid.held r ?_);rw[h.hold,xae ⟨rfl,by omega⟩];omega,h.is,λs=>by rw[h.hold];split<;>omega⟩
theorem OG(hK:cc kp K S ord ah tr C){v:Nat}(hv:v<K.n):
  Fc zQ 120 #[ptr kp,iv (v:Int)] C (kj kp K S ord ah tr (λx=>x.testBit v)):=by
 refine aE λg=>KN (ae.aI (Br.no ?_));have hint:=hK.ok.mid.int;have hL:=hK.ok.lv;have m5:=hK.od;have h0:live K.N 0:=.inl zO;have h1:live K.N 1:=.inl zO;have d0:dep K.n (lv ah) K.N 0=K.n:=aU (hK.ok.wf.const zO);have d1:dep K.n (lv ah) K.N 1=K.n:=aU (hK.ok.wf.const zO);have hl:=hL.lt v hv;have eI:ite S ⟨v,0,1⟩=λx=>x.testBit v:=by
  funext x
  unfold ax.ite;simp only[hint.zero,hint.one];cases x.testBit v<;>rfl
 refine aa.fq (args:=#[ptr kp,iv (v:Int),u32 0,u32 1]) (A3 hK hv h0 h1 (.inr ⟨by rw[d0];exact hl,by rw[d1];exact hl⟩)) ?_;rintro w C' (⟨r,K',S',rfl,dk,mk⟩|⟨r,rfl,rfl,_,PZ,hfull,GI⟩|⟨rfl,rfl,hcap,hne,hT⟩)
 ·rw[eI]at mk;exact Ext.mk rfl (Ext.mk rfl (aF.mk (.refl _) (.inl (.inl ⟨r,K',S',rfl,dk,mk.grow hK dk zO⟩))))
 ·exact Ext.mk rfl (Ext.mk rfl (aF.mk (.refl _) (.inr ⟨rfl,⟨K,S,tr,hK,.inr rfl,.refl K S⟩,r,PZ,hfull,by rw[GI,eI]⟩)))
 refine Ext.mk rfl (Ext.mk rfl (aF.mk (.refl _) (.inl (.inr ⟨rfl,⟨K,S,tr,hK,.inr rfl,.refl K S⟩,?_⟩))));rintro⟨ku,Sc,hfit⟩;have NW:=m5.of hL hv;have sU:∀j,j<lv ah v->¬cG (λx:Nat=>x.testBit v) (ord.getD j 0):=by
  rintro j hj ⟨x,hx⟩;apply hx;have LO:j<K.n:=by omega
  obtain⟨o1,o2⟩:=m5.bg j LO;show Nat.testBit _ v=Nat.testBit _ v;rw[ak.aj,ak.aj,xac (λh=>by rw[h]at hj;omega),xac (λh=>by rw[h]at hj;omega)]
 have hh:cG (λx:Nat=>x.testBit v) (ord.getD (lv ah v) 0):=by
  rw[NW];exact⟨0,by show Nat.testBit _ v≠Nat.testBit _ v;rw[ak.aj,ak.aj,xae rfl,xae rfl];decide⟩
 have:=hK.ok.roomFor m5 Sc hfit (λg hg=>cK (λg h=>.inl h) hg) (d:=⟨v,0,1⟩) h0 h1 (show(0:Nat)≠1 by omega) hv ⟨by rw[d0];exact hl,by rw[d1];exact hl⟩ (cK (λg h=>.inr h) (by rw[eI];exact oJ sU hl hh)) hT;omega
end
end Go.Proofs
namespace Go.Sx
open Go
section
variable {κ β:Type} [DecidableEq κ] {ke:κ->zV} {vr:zV->β->Prop} {es:Array MapEntry} {ck:Nat} {m:List (κ×β)} {H:Hp} {b:Nat}
theorem aD.del{kd:TypeDesc}{k:κ}{K:Hp->Prop}(hk:∀a b,Instr.sameNow kd (ke a) (ke b)=some (decide (a=b)))(h:aD ke vr es ck m)(hm:(b,Obj.map es ck)∈H)
 (h1:∀es',aD ke vr es' ck (ig m k)->∃H',dg b (.map es ck) (.map es' ck) H H'/\K H'):oD kd H (.map (some b)) (ke k) K:=by
 refine .inr ?_;rcases h.findNow hk k with⟨i,y,e,g1,g2,g3,g4⟩|⟨g1,g2⟩
 ·refine⟨b,es,ck,_,rfl,g4,?_⟩;have:=h.less i;rw[<-vZ h.nd g2]at this;exact h1 _ this
 refine⟨b,es,ck,_,rfl,g2,hm,?_⟩;have e:ig m k=m:=by
  unfold ig;rw[xcg];intro w hw;simp only[decide_not,xbE,xbl];intro e;exact g1 (xao.2 ⟨w,hw,e⟩)
 obtain⟨H',hu,hK⟩:=h1 es (by rw[e];exact h);have:∀{H H':Hp},dg b (.map es ck) (.map es ck) H H'->H'=H:=by
  intro H H' hu;generalize ho:Obj.map es ck=o at hu;induction hu with
  |head R=>rfl
  |tail _ ih=>rw[ih]
 rw[this hu]at hK;exact hK
end
def kN(kd:IntKind)(r:Nat):zV:=.int kd (r:Int)
theorem jF{kd:IntKind}(a b:Nat):Instr.sameNow (.int kd) (kN kd a) (kN kd b)=some (decide (a=b)):=by
 simp only[kN,Instr.sameNow,xa7,xaq];by_cases e:a=b
 ·subst e;simp
 have:¬(a:Int)=(b:Int):=by omega
 simp[e,this]
theorem LK{kd:IntKind}(a:Nat):Instr.sameBits 10000 (kN kd a) (kN kd a)=true:=by
 simp[kN,Instr.sameBits]
end Go.Sx
namespace ax
open ak
def QF(t:Bool->Bool->Bool)(v:Nat)(f:Fn):Fn:=λx=>t (f (aB x v false)) (f (aB x v true))
section
variable {t:Bool->Bool->Bool} {v u:Nat} {f:Fn}
theorem jQ{x v:Nat}{b c:Bool}:aB (aB x v b) v c=aB x v c:=by
 apply xaY;intro k;rw[aj,aj,aj];split<;>rfl
theorem T8(h:u≠v)(b:Bool):QF t v (λx=>f (aB x u b))=λx=>QF t v f (aB x u b):=by
 funext x
 unfold QF;simp only[cu h]
theorem T7(h:¬cG f u):¬cG (QF t v f) u:=by
 rintro⟨x,hx⟩;by_cases e:u=v
 ·subst e;apply hx;unfold QF;simp only[jQ]
 apply hx;unfold QF;simp only[cu e];have key:∀y,f (aB y u false)=f (aB y u true):=λy=>xaD λhn=>h ⟨y,hn⟩;rw[key,key]
theorem Xl(ht:∀a,t a a=a)(h:¬cG f v):QF t v f=f:=by
 funext x
 unfold QF;have key:∀b,f (aB x v b)=f x:=λb=>cQ h x b;rw[key,key,ht]
end
def jt3(e:Bool):Bool->Bool->Bool->Bool:=λx y _=>if e then x||y else x&&y
def jf(e:Bool)(S:Nat->Fn)(a b:Nat):Fn:=uA (jt3 e) S [a,b,0]
theorem sN(e:Bool)(S:Nat->Fn)(a b x:Nat):jf e S a b x=if e then S a x||S b x else S a x&&S b x:=rfl
theorem Ba(e:Bool)(S:Nat->Fn)(a b:Nat):jf e S a b=jf e S b a:=by
 funext x;rw[sN,sN];cases e<;>cases S a x<;>cases S b x<;>rfl
theorem XP(e:Bool)(S:Nat->Fn)(a b:Nat):jf e S (min a b) (max a b)=jf e S a b:=by
 by_cases h:a<=b
 ·rw[xcG h,Nat.max_eq_right h]
 rw[xdw zO,Nat.max_eq_left zO,Ba]
theorem VW(e:Bool)(S:Nat->Fn)(a:Nat):jf e S a a=S a:=by
 funext x;rw[sN];cases e<;>cases S a x<;>rfl
section
variable {N:eG} {S:Nat->Fn} {n:Nat} {ah:Nat->Nat}
theorem RG(hi:Interp N S)(e:Bool)(a:Nat):jf e S e.toNat a=S e.toNat:=by
 funext x;rw[sN];cases e
 ·show(S 0 x&&S a x)=S 0 x;rw[hi.zero];rfl
 show(S 1 x||S a x)=S 1 x;rw[hi.one];rfl
theorem RF(hi:Interp N S)(e:Bool)(a:Nat):jf e S (!e).toNat a=S a:=by
 funext x;rw[sN];cases e
 ·show(S 1 x&&S a x)=S a x;rw[hi.one];cases S a x<;>rfl
 show(S 0 x||S a x)=S a x;rw[hi.zero];cases S a x<;>rfl
theorem uR(h:WF n ah N)(hl:jV n ah){r v:Nat}(hd:ah v<dep n ah N r)(b:Bool):ef N v b r=r:=by
 unfold ef;cases e:N r with
 |none=>rfl
 |some d=>
  rw[an e]at hd;simp only;rw[xac (λe2=>by rw[e2]at hd;omega)]
theorem kR{r:Nat}{d:Nd}(e:N r=some d):ef N d.v false r=d.lo/\ef N d.v true r=d.hi:=by
 unfold ef;rw[e];simp
theorem wL{N':eG}(hN:∀s d,N s=some d->N' s=some d)(hc:∀r,r<2->N' r=none)(h0:∀r,r<2->N r=none){r:Nat}(hr:live N r):dep n ah N' r=dep n ah N r:=by
 rcases hr with hr|⟨d,hd⟩
 ·rw[aU (hc r hr),aU (h0 r hr)]
 rw[an hd,an (hN r d hd)]
theorem En(v:Nat)(bb:Bool)(a b:Nat)(h0:N 0=none):iZ N v bb [a,b,0]=[ef N v bb a,ef N v bb b,0]:=by
 have:ef N v bb 0=0:=by unfold ef;rw[h0]
 simp[iZ,this]
theorem afj(h:WF n ah N)(hl:jV n ah){a b:Nat}(h0:N 0=none)(hlt:min (dep n ah N a) (dep n ah N b)<n):
  ∃v,uC n ah N [a,b,0] v/\ah v=min (dep n ah N a) (dep n ah N b):=by
 have hd0:dep n ah N 0=n:=aU h0;have node:∀r,dep n ah N r<n->∃d,N r=some d:=λr hr=>by
  cases e:N r with
  |none=>rw[aU e]at hr;omega
  |some d=>exact⟨d,rfl⟩
 by_cases hab:dep n ah N b<dep n ah N a
 ·obtain⟨d,hd⟩:=node b zO;have e:=an (n:=n) (ah:=ah) hd;refine⟨d.v,⟨h.var hd,⟨b,by simp,d,hd,rfl⟩,λr hr=>?_⟩,by omega⟩;simp only[xal,xaQ,xbH]at hr;rcases hr with rfl|rfl|rfl<;>omega
 obtain⟨d,hd⟩:=node a zO;have e:=an (n:=n) (ah:=ah) hd;refine⟨d.v,⟨h.var hd,⟨a,by simp,d,hd,rfl⟩,λr hr=>?_⟩,by omega⟩;simp only[xal,xaQ,xbH]at hr;rcases hr with rfl|rfl|rfl<;>omega
end
end ax
set_option maxRecDepth 100000
namespace Go.Proofs
open Go Go.Sx
open ax
section
variable {kp:Nat} {K:Kd} {ord ah tr:zL} {C:Hp} {S:Nat->ax.Fn}
theorem l9(h:cW kp K ord ah tr C)(v:Int):Rd zQ 150 #[ptr kp,iv v] C (· =if 0<=v/\v<K.n then .tuple #[iv ((ah.getD v.toNat 0:Nat):Int),iv 0]else .tuple #[iv 0,iv 2]):=by
 have h0:=h;obtain⟨b,rfl,hO⟩:=h;refine aE λg=>qN (ae.aI (Br.no (aa.eq (rH h0 v) (Un.not ?_))));by_cases Gq:0<=v/\v<K.n
 ·rw[xam Gq,xae Gq];refine Br.no (Nil.ptr (Ld.f ?_));have hlen:=hO.ol.2;obtain⟨n,rfl⟩:∃n:Nat,v=n:=⟨v.toNat,by omega⟩;exact hO.lv.ld (x:=((ah.getD n 0:Nat):Int)) (bI zO) (bH.sub (.cons (.app (.app (.app (.app (.app .left))))))) (br.mk (.refl _) rfl)
 rw[xak Gq,xac Gq];exact Br.yes (br.mk (.refl _) rfl)
end
def Lq(bq kp bm:Nat)(ok:Bool):Nat×Obj:=(bq,.cells #[ptr kp,.map (some bm),iv (if ok then 0 else 9)] 387 zZ)
abbrev uG(bq kp bm:Nat)(ok:Bool)(es:Array MapEntry)(ck:Nat)(C:Hp):Hp:=Lq bq kp bm ok::(bm,.map es ck)::C
abbrev vr1(v:zV)(_:Unit):Prop:=v=iv 1
abbrev BR(made:zL):List (Nat×Unit):=made.map λr=>(r,())
theorem ry(made:zL):(BR made).map Prod.fst=made:=by
 induction made with
 |nil=>rfl
 |cons a l ih=>simp only[BR,xaC,xax,xcZ]at ih⊢;exact ih
structure yz(kp:Nat)(K0:Kd)(S0:Nat->ax.Fn)(U:ax.Fn->Prop)(ord ah:zL)(K:Kd)(S:Nat->ax.Fn)(made:zL)(es:Array MapEntry)(ck:Nat)(C:Hp)(ok:Bool):Prop where
 ks:cc kp K S ord ah [] C
 c6:k9 K0 S0 U ord K S made
 dK:aD (kN .u32) vr1 es ck (BR made)
 bad:ok=false->¬Fits U K0.cap
theorem yz.nd{kp:Nat}{K0:Kd}{S0:Nat->ax.Fn}{U:ax.Fn->Prop}{ord ah:zL}{K:Kd}{S:Nat->ax.Fn}{made:zL}{es:Array MapEntry}{ck:Nat}{C:Hp}{ok:Bool}(h:yz kp K0 S0 U ord ah K S made es ck C ok):made.Nodup:=by
 have:=h.dK.nd;rwa [ry]at this
structure Fb(K:Kd)(S:Nat->ax.Fn)(made:zL)(K':Kd)(S':Nat->ax.Fn)(made':zL):Prop where
 N:∀s d,K.N s=some d->K'.N s=some d
 fn:∀s,live K.N s->S' s=S s
 mem:∀s∈made,s∈made'
theorem Fb.refl{K:Kd}{S:Nat->ax.Fn}{made:zL}:Fb K S made K S made:=⟨λ_ _ h=>h,λ_ _=>rfl,λ_ h=>h⟩
theorem Fb.trans{K K' K2:Kd}{S S' S2:Nat->ax.Fn}{made made' fS:zL}(h:Fb K S made K' S' made')(h':Fb K' S' made' K2 S2 fS):Fb K S made K2 S2 fS:=
 ⟨λs d hd=>h'.N s d (h.N s d hd),λs hs=>(h'.fn s (cv h.N hs)).trans (h.fn s hs),λs hs=>h'.mem s (h.mem s hs)⟩
section
variable {kp bq bm:Nat} {K K0:Kd} {S S0:Nat->ax.Fn} {U:ax.Fn->Prop} {ord ah made:zL} {es:Array MapEntry} {ck:Nat} {C:Hp} {ok:Bool}
theorem Np{tr:zL}{r:Nat}(h:cc kp K S ord ah tr C)(hr:live K.N r):Rd zQ 379 #[ptr bq,.agg (got K.N r).toArray] (uG bq kp bm ok es ck C) (· =iv ((dep K.n (lv ah) K.N r:Nat):Int)):=by
 have hlen:=(aQ K.N r).1;refine aE λg=>HQ λb1 _=>?_;cases hN:K.N r with
 |none=>
  have h2:r<2:=by rcases hr with h|⟨d,hd⟩;exact h;rw[hN]at hd;cases hd
  have eg:got K.N r=[iv (-1),u32 r,u32 r]:=fG h2;rw[eg];refine Ld.f ?_;refine ae.lss (Br.T (Ld.n ?_));refine aa.eq (gP h.rep) ?_;rw[aU hN];exact br.mk .tail rfl
 |some d=>
  have h2:=h.ok.wf.two hN;have hv:=h.ok.wf.var hN;rw[dZ hN h2];refine Ld.f ?_;refine ae.lss (Br.F (DR.of (R:=(b1,Obj.cells (bB d).toArray 226 zZ)::uG bq kp bm ok es ck C) (.refl _) (Ld.n ?_)));refine Ld.f ?_;refine aa.rq (l9 h.rep (d.v:Int)) ?_;rw[xae zO];rintro w rfl;refine⟨.refl _,?_⟩;apply Ext.two;rw[an hN];exact br.mk .tail rfl
theorem FL{tr:zL}{r:Nat}(h:cc kp K S ord ah tr C)(hr:live K.N r):Rd zQ 326 #[ptr bq,u32 r] (uG bq kp bm ok es ck C) (· =.tuple #[.agg (got K.N r).toArray,iv ((dep K.n (lv ah) K.N r:Nat):Int)]):=by
 refine aE λg=>Iy λb1 _=>?_;refine Ld.n ?_;refine aa.rq (iU h.rep (by have:=h.bL hr;omega)) ?_;rw[bX.2 hr];rintro w rfl;refine Ext.two λBB _=>(St.whole (r:=got K.N r) (by exact .head _) rfl (aQ _ _).1 (aQ _ _).2 ?_);refine DR.of (R:=[(BB,Obj.cells (got K.N r).toArray 226 zZ)]) (aN.left (A:=[_])) (az.whole (r:=got K.N r) (by exact .head _) (aQ _ _).1 ?_);refine az.whole (r:=got K.N r) (by exact .head _) (aQ _ _).1 ?_;refine aa.eq (Np h hr) (⟨aN.left (A:=[_]),?_⟩);refine St.whole (r:=got K.N r) (by exact .tail (.head _)) rfl (aQ _ _).1 (aQ _ _).2 ?_;refine⟨aN.left (A:=[_]),?_⟩;refine az.whole (r:=got K.N r) (by exact .tail _ (.head _)) (aQ _ _).1 ?_;exact br.mk (.skip .tail) rfl
theorem yW(v:zV)(a b:zV)(B:Hp):Rd zQ 327 #[ptr bq,v,a,b] (Lq bq kp bm false::B) (· =u32 0):=by
 refine aE λg=>xE (Ld.n ?_);exact ae.cO (Br.T (br.mk (.refl _) rfl))
theorem k9.abx(h:k9 K0 S0 U ord K S made)(hK:cc kp K S ord ah [] C){K':Kd}{S':Nat->ax.Fn}{f:ax.Fn}{r:Nat}(m:pW K S K' S' f r)(h2:2<=r)(hU:∀g,aH K0.n ord (λg=>g=f) g->U g):k9 K0 S0 U ord K' S' (made++[r]):=h.step hK m h2 hU
theorem k9.again(h:k9 K0 S0 U ord K S made)(hK:cc kp K S ord ah [] C){K' K2:Kd}{S':Nat->ax.Fn}{f:ax.Fn}{r:Nat}{C2:Hp}(m:pW K S K' S' f r)(hf:Az K' K2 r)(dr:cc kp K2 S' ord ah [] C2):k9 K0 S0 U ord K2 S' made/\(∀s d,K.N s=some d->K2.N s=some d):=by
 have hold:∀s,K2.hold s=K.hold s:=λs=>by
  rw[hf.hold,m.hold];by_cases e:s=r/\2<=r
  ·rw[xae e,xae e];omega
  rw[xac e,xac e]
 have hN:∀s d,K.N s=some d->K2.N s=some d:=λs d hs=>j6 hK.ok dr.ok (λs h=>by rw[hold];exact h) (λs d d' h1 h2=>by
  have a:=hf.N s d' h2;rw[m.N s d h1]at a;exact(xbp a).symm) _ s d hs (xai _)
 refine⟨⟨hf.n.trans (m.n.trans h.n),hf.cap.trans (m.cap.trans h.cap),λs d hd=>hN s d (h.N s d hd),λs hs=>(m.fn s (h.live hs)).trans (h.fn s hs),λs=>by rw[hold,h.hold],h.two,λg hg=>h.U g (cK (λg=>?_) hg)⟩,hN⟩;rintro⟨s,hs,rfl⟩;have hs':K.hold s≠0:=by rw[<-hold];exact hs
 exact⟨s,hs',m.fn s (.inr (hK.ok.mid.held s hs'))⟩
theorem Ro{made:zL}{r:Nat}(h:r∉made):eo (BR made) r ()=BR (made++[r]):=by
 unfold eo;rw[xac (by rw[ry];exact h)];simp[BR]
theorem oZ{made:zL}{r:Nat}:(r∈made->aG (BR made) r=some ())/\(r∉made->aG (BR made) r=none):=by
 refine⟨λh=>?_,λh=>iB.2 (by rw[ry];exact h)⟩;cases e:aG (BR made) r with
 |none=>have:=iB.1 e;rw[ry]at this;exact absurd h this
 |some u=>rfl
theorem CV(hq:yz kp K0 S0 U ord ah K S made es ck C true){v lo hi:Nat}(hv:v<K.n)(hlo:live K.N lo)(hhi:live K.N hi)(hlt:lv ah v<dep K.n (lv ah) K.N lo/\lv ah v<dep K.n (lv ah) K.N hi)
 (hU:∀g,aH K0.n ord (λg=>g=ite S ⟨v,lo,hi⟩) g->U g)(iW:lo≠hi->U (ite S ⟨v,lo,hi⟩))(hf:∀s,K0.hold s=65535->live K0.N s):
  Fc zQ 327 #[ptr bq,iv (v:Int),u32 lo,u32 hi] (uG bq kp bm true es ck C) (λw H=>∃r K' S' made' es' bD C' ny,w=u32 r/\H=uG bq kp bm ny es' bD C'/\yz kp K0 S0 U ord ah K' S' made' es' bD C' ny/\Fb K S made K' S' made'/\
   (ny=true->S' r=ite S ⟨v,lo,hi⟩/\(live K0.N r\/r∈made'))):=by
 have hK:=hq.ks;have fc:=hq.nd;refine aE λg=>xE (Ld.n ?_);refine ae.cO (Br.F (Ld.n ?_));refine aa.fq (A3 hK hv hlo hhi (.inr hlt)) ?_;rintro w C' (⟨r,K',S',rfl,dk,mk⟩|⟨r,rfl,rfl,hlr,PZ,hfull,GI⟩|⟨rfl,rfl,hcap,hne,hT⟩)
 ·refine Ext.two λJ hJ=>(ae.gX (Br.F (ae.cO (Br.F (ae.BS (b:=1) ?_)))));have Zs:r<4294967296:=by have:=dk.bL mk.live;omega
  have hA:Fb K S made K' S' made:=⟨mk.N,mk.fn,λ_ h=>h⟩;have drop:(r<2\/r∈made)->Nil (ptr bq) λv36=>ai 0 v36 λv37=>Ld (Lq bq kp bm true::(bm,Obj.map es ck)::C') v37 λv38=>aa zQ g 142 #[v38,u32 r] (Lq bq kp bm true::(bm,Obj.map es ck)::C') (λv39 H40=>JE J [u32 r] H40) (dD (aF λw H=>∃r K' S' made' es' bD C' ny,w=u32 r/\H=uG bq kp bm ny es' bD C'/\yz kp K0 S0 U ord ah K' S' made' es' bD C' ny/\Fb K S made K' S' made'/\
   (ny=true->S' r=ite S ⟨v,lo,hi⟩/\(live K0.N r\/r∈made')))):=λhr=>by
   refine Ld.n ?_;refine aa.fq (m7 dk (r:=r) Zs (λh2=>by rw[mk.hold,xae ⟨rfl,h2⟩];omega)) ?_;rintro w C2 ⟨rfl,K2,dr,f2⟩;obtain⟨o6,Z5⟩:=hq.c6.again hK mk f2 dr;refine JE.mk (hJ _ _ λgs=>?_);exact aF.here ⟨r,K2,S',made,es,ck,C2,true,rfl,rfl,⟨dr,o6,hq.dK,λh=>by cases h⟩,⟨Z5,mk.fn,λ_ h=>h⟩,λ_=>⟨mk.is,hr.imp (λh=>.inl h) id⟩⟩
  by_cases h2:r<2
  ·rw[xam zO];refine cm.or (a:=true) true (λh=>by cases h) zI λgs=>Br.yes ?_;exact drop (.inl h2)
  rw[xak zO];refine cm.or (a:=false) (decide (r∈made)) (λ_=>?_) zI λgs=>?_
  ·refine Ld.n ?_;by_cases hm:r∈made
   ·refine aD.hit (k:=r) (x:=()) jF hq.dK (.tail _ (.head _)) (oZ.1 hm) ?_;rintro v rfl;exact ae.gtr ⟨rfl,by rw[xam hm];rfl⟩
   refine aD.bM (k:=r) jF hq.dK (.tail _ (.head _)) (oZ.2 hm) ?_;exact ae.gtr ⟨rfl,by rw[xak hm];rfl⟩
  rw[xdA];refine Br.dec (λhm=>drop (.inr hm)) (λhm=>?_);refine Ld.n ?_;refine aD.bt (k:=r) (x:=()) jF LK hq.dK rfl λes' bD he=>⟨_,.tail (.head _),?_⟩;rw[Ro hm]at he;refine JE.mk (hJ _ _ λgs=>?_);exact aF.here ⟨r,K',S',made++[r],es',bD,C',true,rfl,rfl,⟨dk,hq.c6.abx hK mk zO hU,he,λh=>by cases h⟩,⟨mk.N,mk.fn,λ_ h=>xad _ h⟩,λ_=>⟨mk.is,.inr zI⟩⟩
 ·refine Ext.two λJ hJ=>(ae.gX (Br.T (Ld.n ?_)));refine aa.eq (we hK hv hlo hhi hlt hlr PZ GI) (Ext.two (JE.mk (hJ _ _ λgs=>?_)));exact aF.here ⟨r,K,S,made,es,ck,_,true,rfl,rfl,hq,.refl,λ_=>⟨GI,(hq.c6.full hfull).elim .inr λh=>.inl (hf r h)⟩⟩
 refine Ext.two λJ hJ=>(ae.gX (Br.F (ae.cO (Br.T (Nil.ptr (ai.mk (St.one (by exact .head _) rfl zI rfl ?_)))))));refine JE.mk (hJ _ _ λgs=>?_);refine aF.here ⟨0,K,S,made,es,ck,C',false,rfl,rfl,⟨hK,hq.c6,hq.dK,λ_=>?_⟩,.refl,λh=>by cases h⟩;rintro⟨ku,Sc,hfit⟩;have:=hK.ok.roomFor hK.od Sc (by rw[hq.c6.cap];exact hfit) (by rw[hq.c6.n];exact hq.c6.U) (d:=⟨v,lo,hi⟩) hlo hhi hne hv hlt (iW hne) hT;omega
end
def pk(p:Nat×Nat):zV:=.agg #[u32 p.1,u32 p.2]
theorem Q8(a b:Nat×Nat):BJ zQ 447 (pk a) (pk b) (decide (a=b)):=by
 refine BJ.flat (fs:=#[⟨"f",110,0,false, "", "thicket/quant",0⟩,⟨"g",110,1,false, "", "thicket/quant",4⟩]) zK zK ?_ ?_
 ·intro f hf;simp only[xal,xaQ,xbH]at hf;rcases hf with rfl|rfl
  ·exact⟨by decide,_,_,rfl,rfl,.inl ⟨.u32,_,_,by kernel_rfl,rfl,rfl⟩⟩
  exact⟨by decide,_,_,rfl,rfl,.inl ⟨.u32,_,_,by kernel_rfl,rfl,rfl⟩⟩
 obtain⟨a1,a2⟩:=a;obtain⟨b1,b2⟩:=b;simp[u32];omega
theorem FN(a:Nat×Nat):mD zQ 447 (pk a):=by
 refine mD.flat (fs:=#[⟨"f",110,0,false, "", "thicket/quant",0⟩,⟨"g",110,1,false, "", "thicket/quant",4⟩]) zK ?_;intro f hf;simp only[xal,xaQ,xbH]at hf;rcases hf with rfl|rfl
 ·exact⟨by decide,_,rfl,.inl ⟨.u32,_,_,by kernel_rfl,rfl,rfl⟩⟩
 exact⟨by decide,_,rfl,.inl ⟨.u32,_,_,by kernel_rfl,rfl,rfl⟩⟩
theorem Vm(a:Nat×Nat):Instr.sameBits 10000 (pk a) (pk a)=true:=kX 9998 (by intro x hx;simp[u32]at hx;rcases hx with rfl|rfl<;>exact .inl ⟨_,_,rfl⟩)
def GX(b3 b5 b1 ti lq:Nat):zV:=.func (.func 380) #[] #[ptr b3,ptr b5,ptr b1,ptr ti,ptr lq]
def JKn(K0:Kd)(F:Nat×Nat->ax.Fn)(S:Nat->ax.Fn)(made:zL)(ok:Bool)(es:Array MapEntry)(ck:Nat):Prop:=
 ∃m:List ((Nat×Nat)×Nat),aD pk PA es ck m/\(ok=true->∀y∈m,S y.2=F y.1/\(live K0.N y.2\/y.2∈made))
abbrev XQ(e:Bool)(b3 b5 b1 ti lq bj bq kp bm:Nat)(ok:Bool)(xW:Array MapEntry)(xX:Nat)(es:Array MapEntry)(ck:Nat)(C:Hp):Hp:=
 (lq,.cells #[GX b3 b5 b1 ti lq] 445 zZ)::(ti,.cells #[.map (some bj)] 444 zZ)::(bj,.map xW xX)::(b5,.cells #[u32 (!e).toNat] 110 zZ)::(b3,.cells #[u32 e.toNat] 110 zZ)::(b1,.cells #[ptr bq] 313 zZ)::uG bq kp bm ok es ck C
section
variable {kp bq bm b3 b5 b1 ti lq bj:Nat} {K0:Kd} {S0:Nat->ax.Fn} {U:ax.Fn->Prop} {ord ah:zL} {e:Bool}
theorem yz.v7{K:Kd}{S:Nat->ax.Fn}{made:zL}{es:Array MapEntry}{ck:Nat}{C:Hp}{ok:Bool}(h:yz kp K0 S0 U ord ah K S made es ck C ok){r:Nat}(hr:live K0.N r\/r∈made):live K.N r:=by
 rcases hr with hr|hr
 ·exact h.c6.live hr
 exact h.c6.iD h.ks hr
theorem JKn.more{F:Nat×Nat->ax.Fn}{K K':Kd}{S S':Nat->ax.Fn}{made made':zL}{es xW:Array MapEntry}{ck xX:Nat}{C:Hp}{ok ny:Bool}(hq:yz kp K0 S0 U ord ah K S made es ck C ok)(h:JKn K0 F S made ok xW xX)(ha:Fb K S made K' S' made')(hok:ny=true->ok=true):JKn K0 F S' made' ny xW xX:=by
 obtain⟨m,h1,h2⟩:=h;refine⟨m,h1,λh y hy=>?_⟩;obtain⟨a,b⟩:=h2 (hok h) y hy;exact⟨by rw[ha.fn _ (hq.v7 b),a],b.imp id (ha.mem _)⟩
def aaB(kp:Nat)(K0:Kd)(S0:Nat->ax.Fn)(U:ax.Fn->Prop)(ord ah:zL)(e:Bool)(b3 b5 b1 ti lq bj bq bm:Nat)(K:Kd)(S:Nat->ax.Fn)(made:zL)(ok:Bool)(f:ax.Fn)(w:zV)(H:Hp):Prop:=
 ∃x K' S' made' es' bD C' ny Zf Zg,w=u32 x/\H=XQ e b3 b5 b1 ti lq bj bq kp bm ny Zf Zg es' bD C'/\yz kp K0 S0 U ord ah K' S' made' es' bD C' ny/\JKn K0 (λp=>jf e S0 p.1 p.2) S' made' ny Zf Zg/\Fb K S made K' S' made'/\
  (ny=true->ok=true/\S' x=f/\(live K0.N x\/x∈made'))
theorem D2{N:eG}{n:Nat}{bW:Nat->Nat}(h:WF n bW N)(hl:jV n bW){r v:Nat}(hr:live N r)(hv:v<n)(hle:bW v<=dep n bW N r):
  ∃z p q,got N r=[iv z,u32 p,u32 q]/\(bW v=dep n bW N r->z=(v:Int)/\p=ef N v false r/\q=ef N v true r)/\(bW v<dep n bW N r->ef N v false r=r/\ef N v true r=r):=by
 have hlv:=hl.lt v hv;cases e:N r with
 |none=>
  have h2:r<2:=by rcases hr with h|⟨d,hd⟩;exact h;rw[e]at hd;cases hd
  refine⟨_,_,_,fG h2,λh3=>?_,λh3=>⟨uR h hl h3 _,uR h hl h3 _⟩⟩;rw[aU e]at h3;omega
 |some d=>
  refine⟨_,_,_,dZ e (h.two e),λh3=>?_,λh3=>⟨uR h hl h3 _,uR h hl h3 _⟩⟩;rw[an e]at h3;have:v=d.v:=hl.inj _ _ hv (h.var e) h3;subst this;obtain⟨c1,c2⟩:=kR (N:=N) e;exact⟨rfl,c1.symm,c2.symm⟩
set_option maxHeartbeats 2000000 in
theorem RE(fN:aT zQ 380=true)(lp:WF K0.n (lv ah) K0.N)(pD:Interp K0.N S0)(jS:jV K0.n (lv ah))(m5:ax.Ord K0.n (lv ah) ord)(hf:∀s,K0.hold s=65535->live K0.N s):
  ∀(k a b:Nat),K0.n-min (dep K0.n (lv ah) K0.N a) (dep K0.n (lv ah) K0.N b)=k->∀(K:Kd) (S:Nat->ax.Fn) (made:zL) (es:Array MapEntry) (ck:Nat) (C:Hp) (ok:Bool) (xW:Array MapEntry) (xX:Nat),
  live K0.N a->live K0.N b->yz kp K0 S0 U ord ah K S made es ck C ok->JKn K0 (λp=>jf e S0 p.1 p.2) S made ok xW xX->(∀g,aH K0.n ord (λg=>g=jf e S0 a b) g->U g)->
  Fc zQ 380 #[u32 a,u32 b,ptr b3,ptr b5,ptr b1,ptr ti,ptr lq] (XQ e b3 b5 b1 ti lq bj bq kp bm ok xW xX es ck C) (aaB kp K0 S0 U ord ah e b3 b5 b1 ti lq bj bq bm K S made ok (jf e S0 a b)):=by
 have hc0:∀r,r<2->K0.N r=none:=λr hr=>lp.const hr;intro k;induction k using Nat.strongRecOn with
 |ind k ih=>
 intro a b hk K S made es ck C ok xW xX ha hb hS hJ hU g;have hK:=hS.ks;have LU:∀r,r<2->K.N r=none:=λr hr=>hK.ok.wf.const hr;have eN:=hS.c6.n;have la:=hS.c6.live ha;have lb:=hS.c6.live hb;have now:∀x,live K0.N x->(S0 x=jf e S0 a b)->∀Z:Hp,aF (aaB kp K0 S0 U ord ah e b3 b5 b1 ti lq bj bq bm K S made ok (jf e S0 a b)) (.returned (u32 x)) (Z++XQ e b3 b5 b1 ti lq bj bq kp bm ok xW xX es ck C):=λx hx hf Z=>
  aF.mk .right ⟨x,K,S,made,es,ck,C,ok,xW,xX,rfl,rfl,hS,hJ,.refl,λh=>⟨h,by rw[hS.c6.fn x hx];exact hf,.inl hx⟩⟩
 have Gz:e.toNat<2:=by cases e<;>decide
 have Um:(!e).toNat<2:=by cases e<;>decide
 refine HP (R:=aF _) ?_;unfold L380;refine Ld.q ?_;refine ae.dJ (cm.or (decide (b=e.toNat)) (λ_=>?_) zI λgs=>?_)
 ·refine Ld.q ?_;exact ae.dJ ⟨rfl,rfl⟩
 rw[<-xa8];refine Br.dec (λh1=>?_) (λh1=>?_)
 ·refine Ld.q ?_;refine now _ (.inl Gz) ?_ [];rcases h1 with rfl|rfl
  ·exact(RG pD e b).symm
  rw[Ba];exact(RG pD e a).symm
 refine Ld.q ?_;refine ae.dJ (cm.or (decide (a=b)) (λ_=>ae.dJ ⟨rfl,rfl⟩) zI λgs=>?_);rw[<-xa8];refine Br.dec (λh2=>?_) (λh2=>?_)
 ·refine now b hb ?_ [];rcases h2 with rfl|rfl
  ·exact(RF pD e b).symm
  exact(VW e S0 a).symm
 refine Ld.q ?_;refine ae.dJ (Br.dec (λh3=>?_) (λh3=>?_))
 ·refine now a ha ?_ [];rw[h3,Ba];exact(RF pD e a).symm
 refine Ld.q ?_;refine Ld.n ?_;cases ok with
 |false=>
  exact ae.cO (Br.T (aF.here ⟨0,K,S,made,es,ck,C,false,xW,xX,rfl,rfl,hS,hJ,.refl,λh=>by cases h⟩))
 |true=>
 refine ae.cO (Br.F (⟨.u32,(a:Int),(b:Int),rfl,rfl,⟨.u32,(a:Int),(b:Int),rfl,rfl,?_⟩⟩));have ahx:(if(b:Int)<(a:Int)then(b:Int)else(a:Int))=((min a b:Nat):Int):=by split<;>omega
 have ahy:(if(b:Int)>(a:Int)then(b:Int)else(a:Int))=((max a b:Nat):Int):=by split<;>omega
 rw[ahx,ahy];refine Build.mk (cs:=[u32 (min a b),u32 (max a b)]) zK λuB _=>?_;refine St.p (by intro x hx;simp[u32]at hx;rcases hx with rfl|rfl<;>rfl) ?_;refine Ld.q ?_;refine az.q ?_;obtain⟨m,hE,hkn⟩:=hJ;have yf:(bj,Obj.map xW xX)∈(uB,Obj.cells #[u32 (min a b),u32 (max a b)] 447 zZ)::XQ e b3 b5 b1 ti lq bj bq kp bm true xW xX es ck C:=.tail _ (.tail _ (.tail _ (.head _)));cases hg:aG m (min a b,max a b)with
 |some x=>
  refine aD.Gu (ke:=pk) (k:=(min a b,max a b)) Q8 FN hE yf hg ?_;rintro v rfl;obtain⟨g1,g2⟩:=hkn rfl _ ((dX hE.nd).1 hg);refine Ext.mk rfl (Ext.mk rfl (Br.yes (aF.mk .tail ⟨x,K,S,made,es,ck,C,true,xW,xX,rfl,rfl,hS,⟨m,hE,hkn⟩,.refl,λh=>⟨h,?_,g2⟩⟩)));rw[g1];exact XP e S0 a b
 |none=>
 refine aD.vV (ke:=pk) (k:=(min a b,max a b)) Q8 FN hE yf hg ?_;refine Ext.mk rfl (Ext.mk rfl (Br.no (Ld.q ?_)));refine aa.eq (FL (bm:=bm) (ok:=true) (es:=es) (ck:=ck) hK la) (Ext.two λb36 _=>(St.whole (r:=got K.N a) (by exact .head _) rfl (aQ _ _).1 (aQ _ _).2 ?_));refine Ld.q ?_;refine aa.eq (FL (bm:=bm) (ok:=true) (es:=es) (ck:=ck) hK lb) (Ext.two λb44 _=>(St.whole (r:=got K.N b) (by exact .head _) rfl (aQ _ _).1 (aQ _ _).2 ?_));rw[n8 hS.c6.N hc0 LU ha,n8 hS.c6.N hc0 LU hb,eN,wL hS.c6.N LU hc0 ha,wL hS.c6.N LU hc0 hb];have hmin:min (dep K0.n (lv ah) K0.N a) (dep K0.n (lv ah) K0.N b)<K0.n:=by
  refine xaD λhn=>h2 (.inr ?_);have E7:∀r,live K0.N r->K0.n<=dep K0.n (lv ah) K0.N r->r<2:=λr hr hd=>by
   rcases hr with h|⟨d,dR⟩
   ·exact h
   rw[an dR]at hd;have:=jS.lt _ (lp.var dR);omega
  have a2:=E7 a ha zO;have b2:=E7 b hb zO;cases e<;>simp only[Bool.toNat_true,Bool.toNat_false,xcy,xcs]at h1 h2<;>omega
 obtain⟨v,hv,hvl⟩:=afj lp jS (hc0 0 zO) hmin;have hva:=hv.le a zI;have hvb:=hv.le b zI;obtain⟨za,pa,qa,ega,ga1,ga2⟩:=D2 lp jS ha hv.lt hva;obtain⟨zb,pb,qb,egb,gb1,gb2⟩:=D2 lp jS hb hv.lt hvb;rw[ega,egb];have fM:∀r∈[a,b,0],live K0.N r:=λr hr=>by
  simp only[xal,xaQ,xbH]at hr;rcases hr with rfl|rfl|rfl
  ·exact ha
  ·exact hb
  exact .inl zO
 obtain⟨f1,f2⟩:=po (S:=S0) lp jS pD fM hv false;obtain⟨t1,t2⟩:=po (S:=S0) lp jS pD fM hv true;rw[En v _ a b (hc0 0 zO)]at f1 f2 t1 t2;have ec:∀bb,jf e S0 (ef K0.N v bb a) (ef K0.N v bb b)=λx=>jf e S0 a b (ak.aB x v bb):=λbb=>by
  have:=L7 (S:=S0) lp jS pD rfl fM hv (jt3 e) bb;rw[En v _ a b (hc0 0 zO)]at this;exact this
 generalize ea1:ef K0.N v false a=a1 at*;generalize ea2:ef K0.N v true a=a2 at*;generalize ec1:ef K0.N v false b=c1 at*;generalize ec2:ef K0.N v true b=c2 at*;have gp:=jS.lt v hv.lt;have NW:=m5.of jS hv.lt;have sU:∀j,j<lv ah v->¬cG (jf e S0 a b) (ord.getD j 0):=z6 lp jS pD m5 (q:=[a,b,0]) rfl fM (xca gp) hv.le (jt3 e);obtain⟨i1,Qr⟩:=jO (n:=K0.n) (ord:=ord) (c:=jf e S0 a1 c1) sU (b:=false) (by rw[NW,<-ea1,<-ec1];exact ec false);obtain⟨i2,Qq⟩:=jO (n:=K0.n) (ord:=ord) (c:=jf e S0 a2 c2) sU (b:=true) (by rw[NW,<-ea2,<-ec2];exact ec true);have eF:jf e S0 a1 c1=λx=>jf e S0 a b (ak.aB x v false):=by rw[<-ea1,<-ec1];exact ec false
 have eT:jf e S0 a2 c2=λx=>jf e S0 a b (ak.aB x v true):=by rw[<-ea2,<-ec2];exact ec true
 have la1:=f1 a1 zI;have lc1:=f1 c1 zI;have la2:=t1 a2 zI;have lc2:=t1 c2 zI;have da1:=f2 a1 zI;have dc1:=f2 c1 zI;have da2:=t2 a2 zI;have dc2:=t2 c2 zI;refine Ld.f ?_;intro J49 h49;have adE:J49 [iv (v:Int)] ((b44,.cells #[iv zb,u32 pb,u32 qb] 226 zZ)::(b36,.cells #[iv za,u32 pa,u32 qa] 226 zZ)::(uB,.cells #[u32 (min a b),u32 (max a b)] 447 zZ)::XQ e b3 b5 b1 ti lq bj bq kp bm true xW xX es ck C):=by
  refine h49 _ _ λgs J53 h53=>?_;have adD:J53 [] ((b44,.cells #[iv zb,u32 pb,u32 qb] 226 zZ)::(b36,.cells #[iv za,u32 a1,u32 a2] 226 zZ)::(uB,.cells #[u32 (min a b),u32 (max a b)] 447 zZ)::XQ e b3 b5 b1 ti lq bj bq kp bm true xW xX es ck C):=by
   refine h53 _ λgs J56 h56=>?_;have adC:J56 [] ((b44,.cells #[iv zb,u32 c1,u32 c2] 226 zZ)::(b36,.cells #[iv za,u32 a1,u32 a2] 226 zZ)::(uB,.cells #[u32 (min a b),u32 (max a b)] 447 zZ)::XQ e b3 b5 b1 ti lq bj bq kp bm true xW xX es ck C):=by
    refine h56 _ λgs=>?_;refine Ld.q ?_;refine Ld.f ?_;refine Ld.f ?_;refine aL.of rfl fN ?_;have hJ0:JKn K0 (λp=>jf e S0 p.1 p.2) S made true xW xX:=⟨m,hE,hkn⟩;refine aa.fq (args:=#[u32 a1,u32 c1,ptr b3,ptr b5,ptr b1,ptr ti,ptr lq]) (ih _ zO a1 c1 rfl K S made es ck C true xW xX la1 lc1 hS hJ0 (λg hg=>hU g (Qr g hg))) ?_;rintro w H ⟨x1,K1,S1,y9,kE,jT,C1,ok1,afG,afI,rfl,rfl,E0,hJ1,WH,ye⟩;refine DR.of (R:=[(b44,.cells #[iv zb,u32 c1,u32 c2] 226 zZ),(b36,.cells #[iv za,u32 a1,u32 a2] 226 zZ),(lq,.cells #[GX b3 b5 b1 ti lq] 445 zZ),(b1,.cells #[ptr bq] 313 zZ)]) (.cons (.cons (.skip (.cons (.skip (.skip (.skip (.skip (aN.left (A:=[_])))))))))) (Ld.q ?_);refine Ld.q ?_;refine Ld.f ?_;refine Ld.f ?_;refine aL.of rfl fN (aa.fq (args:=#[u32 a2,u32 c2,ptr b3,ptr b5,ptr b1,ptr ti,ptr lq]) (ih _ zO a2 c2 rfl K1 S1 y9 kE jT C1 ok1 afG afI la2 lc2 E0 hJ1 (λg hg=>hU g (Qq g hg))) ?_);rintro w H ⟨x2,K2,S2,fS,gV,iH,C2,Lx,afF,afH,rfl,rfl,jI,BZ,n7,tM⟩;refine⟨.cons (.cons (.skip (.cons (.skip (.skip (.skip (.skip (aN.left (A:=[_]))))))))),?_⟩;have yl:=WH.trans n7;have fin:∀(x3:Nat) K3 S3 jo pg qU C3 yY,yz kp K0 S0 U ord ah K3 S3 jo pg qU C3 yY->Fb K2 S2 fS K3 S3 jo->(yY=true->Lx=true/\S3 x3=jf e S0 a b/\(live K0.N x3\/x3∈jo))->
      ∀H49,H49=(b44,.cells #[iv zb,u32 c1,u32 c2] 226 zZ)::(b36,.cells #[iv za,u32 a1,u32 a2] 226 zZ)::(uB,.cells #[u32 (min a b),u32 (max a b)] 447 zZ)::XQ e b3 b5 b1 ti lq bj bq kp bm yY afF afH pg qU C3->
      aN H49 [(b44,.cells #[iv zb,u32 c1,u32 c2] 226 zZ),(b36,.cells #[iv za,u32 a1,u32 a2] 226 zZ),(lq,.cells #[GX b3 b5 b1 ti lq] 445 zZ),(b1,.cells #[ptr bq] 313 zZ)]/\
      Ld H49 (ptr ti) λv77=>az 2 H49 (ptr uB) λv78=>iO zQ 447 H49 v77 v78 (u32 x3) λH79=>aF (aaB kp K0 S0 U ord ah e b3 b5 b1 ti lq bj bq bm K S made true (jf e S0 a b)) (.returned (u32 x3)) H79:=by
     rintro x3 K3 S3 jo pg qU C3 yY ZZ E4 DN H49 rfl;refine⟨.cons (.cons (.skip (.cons (.skip (.skip (.skip (.skip (aN.left (A:=[_]))))))))),?_⟩;refine Ld.q ?_;refine az.q ?_;obtain⟨m3,PW,ZF⟩:=BZ.more jI E4 (λh=>(DN h).1);refine aD.MQ (ke:=pk) (k:=(min a b,max a b)) (vr:=PA) (x:=x3) Q8 FN Vm PW rfl λes' bD he=>⟨_,.tail (.tail (.tail (.tail (.tail (.head _))))),?_⟩;refine aF.mk (.skip (.skip .tail)) ⟨x3,K3,S3,jo,pg,qU,C3,yY,es',bD,rfl,rfl,ZZ,⟨_,he,λh y hy=>(nT hy).elim (λe1=>?_) (λhy=>ZF h y hy)⟩,yl.trans E4,λh=>⟨rfl,(DN h).2⟩⟩;rw[e1];exact⟨(DN h).2.1.trans (XP e S0 a b).symm,(DN h).2.2⟩
    cases Lx with
    |false=>
     exact aa.eq (args:=#[ptr bq,iv (v:Int),u32 x1,u32 x2]) (yW (kp:=kp) (bm:=bm) _ _ _ _) (fin 0 K2 S2 fS gV iH C2 false jI .refl (λh=>by cases h) _ rfl)
    |true=>
     obtain⟨YU,e2,m2⟩:=tM rfl;obtain⟨_,e1,m1⟩:=ye YU;have Zb:=E0.v7 m1;have l1:live K2.N x1:=cv n7.N Zb;have l2:=jI.v7 m2;have WZ:S2 x1=jf e S0 a1 c1:=(n7.fn x1 Zb).trans e1;have dr:=jI.ks;have n2:=jI.c6.n;have b1':=dr.ok.below dr.od (l:=lv ah v+1) l1 zO (by rw[WZ];exact i1);have b2':=dr.ok.below dr.od (l:=lv ah v+1) l2 zO (by rw[e2];exact i2);have sS:ite S2 ⟨v,x1,x2⟩=jf e S0 a b:=by
      funext x
      unfold ax.ite;rw[WZ,e2,eF,eT]
      conv=>rhs;rw[<-ak.iz x v]
      simp only;cases x.testBit v<;>rfl
     have iW:x1≠x2->U (ite S2 ⟨v,x1,x2⟩):=λhx=>by
      have zw:cG (jf e S0 a b) (ord.getD (lv ah v) 0):=by
       rw[NW];refine xaD λhno=>hx ?_;refine dr.ok.wf.same dr.ok.lv dr.ok.mid.int l1 l2 λx=>?_;rw[WZ,e2,eF,eT];exact(cQ hno x false).trans (cQ hno x true).symm
      rw[sS];exact hU _ (oJ sU gp zw)
     refine aa.fq (args:=#[ptr bq,iv (v:Int),u32 x1,u32 x2]) (CV jI (by rw[n2];exact hv.lt) l1 l2 ⟨by omega,by omega⟩ (by rw[sS];exact hU) iW hf) ?_;rintro w H ⟨r,K3,S3,jo,pg,qU,C3,yY,rfl,rfl,ZZ,E4,DN⟩;exact fin r K3 S3 jo pg qU C3 yY ZZ E4 (λh=>⟨rfl,by rw[(DN h).1,sS],(DN h).2⟩) _ rfl
   refine ae.nq (Br.dec (λhh=>?_) (λhh=>?_))
   ·obtain⟨x1,x2⟩:=gb2 zO;subst x1;subst x2;refine ai.mk (St.one (by exact .head _) rfl zI rfl ?_);refine ai.mk (St.one (by exact .head _) rfl zI rfl ?_);exact JE.mk adC
   obtain⟨x1,x2,x3⟩:=gb1 zO;rw[x2,x3];exact JE.mk adC
  refine ae.nq (Br.dec (λhh=>?_) (λhh=>?_))
  ·obtain⟨x1,x2⟩:=ga2 zO;subst x1;subst x2;refine ai.mk (St.one (by exact .tail (.head _)) rfl zI rfl ?_);refine ai.mk (St.one (by exact .tail (.head _)) rfl zI rfl ?_);exact JE.mk adD
  obtain⟨x1,x2,x3⟩:=ga1 zO;rw[x2,x3];exact JE.mk adD
 refine ae.eZ (Br.dec (λhh=>?_) (λhh=>?_))
 ·obtain⟨x1,x2,x3⟩:=gb1 zO;refine Ld.f ?_;subst x1;exact JE.mk adE
 obtain⟨x1,x2,x3⟩:=ga1 zO;subst x1;exact JE.mk adE
end
theorem RP{N:eG}{S:Nat->ax.Fn}{n:Nat}{bW:Nat->Nat}{ord:zL}(h:WF n bW N)(hl:jV n bW)(hi:Interp N S)(ho:ax.Ord n bW ord){r:Nat}(hr:live N r){l:Nat}(BU:l<=n)(hle:l<=dep n bW N r):∀j,j<l->¬cG (S r) (ord.getD j 0):=by
 rintro j hj ⟨x,hx⟩;apply hx;obtain⟨o1,o2⟩:=ho.bg j zO;rw[h.bN hl hi hr o1 zO x false,h.bN hl hi hr o1 zO x true]
section
variable {kp bq bm:Nat} {K0:Kd} {S0:Nat->ax.Fn} {U:ax.Fn->Prop} {ord ah:zL}
def Xk(kp:Nat)(K0:Kd)(S0:Nat->ax.Fn)(U:ax.Fn->Prop)(ord ah:zL)(bq bm:Nat)(LB:Hp)(K:Kd)(S:Nat->ax.Fn)(made:zL)(f:ax.Fn)(w:zV)(H:Hp):Prop:=
 ∃x K' S' made' es' bD C' ny,w=u32 x/\H=LB++uG bq kp bm ny es' bD C'/\yz kp K0 S0 U ord ah K' S' made' es' bD C' ny/\Fb K S made K' S' made'/\(ny=true->S' x=f/\(live K0.N x\/x∈made'))
theorem VV{e:Bool}(lp:WF K0.n (lv ah) K0.N)(pD:Interp K0.N S0)(jS:jV K0.n (lv ah))(m5:ax.Ord K0.n (lv ah) ord)(hf:∀s,K0.hold s=65535->live K0.N s){a b:Nat}{K:Kd}{S:Nat->ax.Fn}{made:zL}{es:Array MapEntry}{ck:Nat}{C:Hp}
 (ha:live K0.N a)(hb:live K0.N b)(hS:yz kp K0 S0 U ord ah K S made es ck C true)(hU:∀g,aH K0.n ord (λg=>g=jf e S0 a b) g->U g):
  Fc zQ 330 #[ptr bq,u32 a,u32 b,.bool e] (uG bq kp bm true es ck C) (Xk kp K0 S0 U ord ah bq bm [] K S made (jf e S0 a b)):=by
 refine aE λg=>Iv λb1 _ b3 _ b5 _=>?_;refine St.one (by exact .tail (.head _)) rfl zI rfl ?_;refine St.one (by exact .head _) rfl zI rfl ?_;have fN:aT zQ 380=true:=by kernel_rfl
 intro J hJ;have hJ':J [] ((b5,.cells #[u32 (!e).toNat] 110 zZ)::(b3,.cells #[u32 e.toNat] 110 zZ)::(b1,.cells #[ptr bq] 313 zZ)::uG bq kp bm true es ck C):=by
  refine hJ _ λgs=>?_;intro bj _ ti _;refine St.one (by exact .head _) rfl zI rfl ?_;intro lq _;refine St.one (by exact .head _) rfl zI rfl ?_;refine Ld.q ?_;refine aL.of rfl fN (aa.fq (args:=#[u32 a,u32 b,ptr b3,ptr b5,ptr b1,ptr ti,ptr lq]) (RE (e:=e) fN lp pD jS m5 hf _ a b rfl K S made es ck C true #[] 0 ha hb hS ⟨[],aD.empty,λ_ y hy=>by cases hy⟩ hU) ?_);rintro w H ⟨x,K',S',made',es',bD,C',ny,Zf,Zg,rfl,rfl,PT,_,hA,ho⟩;exact aF.mk (.skip (.skip (.skip (.skip (.skip .tail))))) ⟨x,K',S',made',es',bD,C',ny,rfl,rfl,PT,hA,λh=>(ho h).2⟩
 cases e with
 |true=>
  refine Br.yes (St.one (by exact .tail (.head _)) rfl zI rfl ?_);refine St.one (by exact .head _) rfl zI rfl ?_;exact JE.mk hJ'
 |false=>exact Br.no (JE.mk hJ')
def Mv(kp:Nat)(K0:Kd)(S0:Nat->ax.Fn)(U:ax.Fn->Prop)(ord ah:zL)(bq bm:Nat)(t:Bool->Bool->Bool)(v:Nat)(fv:zV)(LB:Hp):Prop:=
 ∃f first cap,fv=.func (.func f) first cap/\aT zQ f=true/\∀(r:Nat) (d:Nd),K0.N r=some d->d.v=v->∀K S made es ck C,yz kp K0 S0 U ord ah K S made es ck C true->(∀g,aH K0.n ord (λg=>g=QF t v (S0 r)) g->U g)->
  Fc zQ f (first++ #[.agg (bB d).toArray]++cap) (LB++uG bq kp bm true es ck C) (Xk kp K0 S0 U ord ah bq bm LB K S made (QF t v (S0 r)))
def Tx(b1 ji mu b3 Ah:Nat):zV:=.func (.func 325) #[] #[ptr b1,ptr ji,ptr mu,ptr b3,ptr Ah]
def DKn(K0:Kd)(F:Nat->ax.Fn)(S:Nat->ax.Fn)(made:zL)(ok:Bool)(es:Array MapEntry)(ck:Nat):Prop:=
 ∃m:List (Nat×Nat),aD (kN .u32) PA es ck m/\(ok=true->∀y∈m,S y.2=F y.1/\(live K0.N y.2\/y.2∈made))
theorem DKn.more{F:Nat->ax.Fn}{K K':Kd}{S S':Nat->ax.Fn}{made made':zL}{es xW:Array MapEntry}{ck xX:Nat}{C:Hp}{ok ny:Bool}(hq:yz kp K0 S0 U ord ah K S made es ck C ok)(h:DKn K0 F S made ok xW xX)(ha:Fb K S made K' S' made')(hok:ny=true->ok=true):DKn K0 F S' made' ny xW xX:=by
 obtain⟨m,h1,h2⟩:=h;refine⟨m,h1,λh y hy=>?_⟩;obtain⟨a,b⟩:=h2 (hok h) y hy;exact⟨by rw[ha.fn _ (hq.v7 b),a],b.imp id (ha.mem _)⟩
abbrev dHp(b1 b3 ji mu Ah bd lvl:Nat)(fv:zV)(LB:Hp)(bq kp bm:Nat)(ok:Bool)(P2:Array MapEntry)(P3:Nat)(es:Array MapEntry)(ck:Nat)(C:Hp):Hp:=
 (Ah,.cells #[Tx b1 ji mu b3 Ah] 389 zZ)::(mu,.cells #[.map (some bd)] 388 zZ)::(bd,.map P2 P3)::(ji,.cells #[iv (lvl:Int)] 3 zZ)::(b3,.cells #[fv] 300 zZ)::(b1,.cells #[ptr bq] 313 zZ)::(LB++uG bq kp bm ok es ck C)
def ahX(kp:Nat)(K0:Kd)(S0:Nat->ax.Fn)(U:ax.Fn->Prop)(ord ah:zL)(t:Bool->Bool->Bool)(v b1 b3 ji mu Ah bd:Nat)(fv:zV)(LB:Hp)(bq bm:Nat)(K:Kd)(S:Nat->ax.Fn)(made:zL)(ok:Bool)(f:ax.Fn)(w:zV)(H:Hp):Prop:=
 ∃x K' S' made' es' bD C' ny aag aai,w=u32 x/\H=dHp b1 b3 ji mu Ah bd (lv ah v) fv LB bq kp bm ny aag aai es' bD C'/\yz kp K0 S0 U ord ah K' S' made' es' bD C' ny/\DKn K0 (λr=>QF t v (S0 r)) S' made' ny aag aai/\Fb K S made K' S' made'/\
  (ny=true->ok=true/\S' x=f/\(live K0.N x\/x∈made'))
variable {b1 b3 ji mu Ah bd:Nat} {fv:zV} {LB:Hp} {t:Bool->Bool->Bool} {v:Nat}
set_option maxHeartbeats 2000000 in
theorem Ti(fN:aT zQ 325=true)(hLq:Mv kp K0 S0 U ord ah bq bm t v fv LB)(ht:∀a,t a a=a)(hv:v<K0.n)(lp:WF K0.n (lv ah) K0.N)(pD:Interp K0.N S0)(jS:jV K0.n (lv ah))(m5:ax.Ord K0.n (lv ah) ord)(hf:∀s,K0.hold s=65535->live K0.N s):
  ∀(k r:Nat),K0.n-dep K0.n (lv ah) K0.N r=k->∀(K:Kd) (S:Nat->ax.Fn) (made:zL) (es:Array MapEntry) (ck:Nat) (C:Hp) (ok:Bool) (P2:Array MapEntry) (P3:Nat),
  live K0.N r->yz kp K0 S0 U ord ah K S made es ck C ok->DKn K0 (λr=>QF t v (S0 r)) S made ok P2 P3->(∀g,aH K0.n ord (λg=>g=QF t v (S0 r)) g->U g)->
  Fc zQ 325 #[u32 r,ptr b1,ptr ji,ptr mu,ptr b3,ptr Ah] (dHp b1 b3 ji mu Ah bd (lv ah v) fv LB bq kp bm ok P2 P3 es ck C) (ahX kp K0 S0 U ord ah t v b1 b3 ji mu Ah bd fv LB bq bm K S made ok (QF t v (S0 r))):=by
 have hc0:∀r,r<2->K0.N r=none:=λr hr=>lp.const hr;intro k;induction k using Nat.strongRecOn with
 |ind k ih=>
 intro r hk K S made es ck C ok P2 P3 hr hS hD hU g;have hK:=hS.ks;have LU:∀r,r<2->K.N r=none:=λr hr=>hK.ok.wf.const hr;have eN:=hS.c6.n;have lr:=hS.c6.live hr;refine Iz (R:=aF _) ?_;unfold L325;refine Ld.q ?_;refine aa.eq (FL (bm:=bm) (ok:=ok) (es:=es) (ck:=ck) hK lr) (Ext.two λb6 _=>(St.whole (r:=got K.N r) (by exact .head _) rfl (aQ _ _).1 (aQ _ _).2 ?_));rw[n8 hS.c6.N hc0 LU hr,eN,wL hS.c6.N LU hc0 hr];refine Ld.q ?_;refine ae.nq (cm.or (!ok) (λ_=>?_) zI λgs=>?_)
 ·refine Ld.q ?_;refine Ld.n ?_;exact ae.cO ⟨rfl,by cases ok<;>rfl⟩
 refine Br.mk (λhb=>?_) (λhb=>?_)
 ·-- deeper, or an error before
  refine aF.mk .tail ⟨r,K,S,made,es,ck,C,ok,P2,P3,rfl,rfl,hS,hD,.refl,λh=>⟨h,?_,.inl hr⟩⟩;rw[h]at hb;simp only[xcy,xdy,xaJ]at hb;rw[hS.c6.fn r hr];refine(Xl ht ?_).symm;rintro⟨x,hx⟩;apply hx;rw[lp.bN jS pD hr hv hb x false,lp.bN jS pD hr hv hb x true]
 simp only[xaG,xbl,Bool.not_eq_false',Nat.not_lt]at hb;obtain⟨Bf,rfl⟩:=hb;obtain⟨m,hE,hkn⟩:=hD;refine Ld.q ?_;have yf:(bd,Obj.map P2 P3)∈(b6,Obj.cells (got K0.N r).toArray 226 zZ)::dHp b1 b3 ji mu Ah bd (lv ah v) fv LB bq kp bm true P2 P3 es ck C:=.tail _ (.tail _ (.tail _ (.head _)));have hlv:=jS.lt v hv;obtain⟨d,hd⟩:∃d,K0.N r=some d:=by
  cases e:K0.N r with
  |none=>rw[aU e]at Bf;omega
  |some d=>exact⟨d,rfl⟩
 have ed:=an (n:=K0.n) (ah:=lv ah) hd;have h2:=lp.two hd;have lj:=lp.var hd;cases hg:aG m r with
 |some x=>
  refine aD.hit (k:=r) jF hE yf hg ?_;rintro w rfl;obtain⟨g1,g2⟩:=hkn rfl _ ((dX hE.nd).1 hg);exact Ext.mk rfl (Ext.mk rfl (Br.yes (aF.mk .tail ⟨x,K,S,made,es,ck,C,true,P2,P3,rfl,rfl,hS,⟨m,hE,hkn⟩,.refl,λh=>⟨h,g1,g2⟩⟩)))
 |none=>
 refine aD.bM (k:=r) jF hE yf hg ?_;refine Ext.mk rfl (Ext.mk rfl (Br.no ?_));rw[dZ hd h2];intro J hJ;have fin:∀(x3:Nat) K3 S3 jo pg qU C3 yY aaf aah,yz kp K0 S0 U ord ah K3 S3 jo pg qU C3 yY->DKn K0 (λr=>QF t v (S0 r)) S3 jo yY aaf aah->Fb K S made K3 S3 jo->(yY=true->S3 x3=QF t v (S0 r)/\(live K0.N x3\/x3∈jo))->
   J [u32 x3] ((b6,.cells (bB d).toArray 226 zZ)::dHp b1 b3 ji mu Ah bd (lv ah v) fv LB bq kp bm yY aaf aah pg qU C3):=by
  intro x3 K3 S3 jo pg qU C3 yY aaf aah ZZ hD3 E4 DN;refine hJ _ _ λgs=>?_;refine Ld.q ?_;obtain⟨m3,PW,ZF⟩:=hD3;refine aD.bt (k:=r) (x:=x3) jF LK PW rfl λes' bD he=>⟨_,.tail (.tail (.tail (.head _))),?_⟩;refine aF.mk .tail ⟨x3,K3,S3,jo,pg,qU,C3,yY,es',bD,rfl,rfl,ZZ,⟨_,he,λh y hy=>(nT hy).elim (λe1=>?_) (λhy=>ZF h y hy)⟩,E4,λh=>⟨rfl,DN h⟩⟩;rw[e1];exact DN h
 have hD0:DKn K0 (λr=>QF t v (S0 r)) S made true P2 P3:=⟨m,hE,hkn⟩;refine Ld.q ?_;refine ae.dJ (Br.dec (λhl=>?_) (λhl=>?_))
 ·-- at the variable
  have ev:d.v=v:=jS.inj _ _ lj hv zO;obtain⟨f,first,cap,rfl,Wr,acF⟩:=hLq;refine Ld.q ?_;refine az.q ?_;refine aL.of rfl Wr (aa.fq (C:=LB++uG bq kp bm true es ck C) (acF r d hd ev K S made es ck C hS hU) ?_);rintro w H ⟨x,K',S',made',es',bD,C',ny,rfl,rfl,PT,hA,ho⟩;exact JE.mk (fin x K' S' made' es' bD C' ny P2 P3 PT (hD0.more hS hA (λ_=>rfl)) hA ho)
 -- above it
 have age:lv ah d.v<lv ah v:=by omega
 have hne:d.v≠v:=λe=>by rw[e]at age;omega
 obtain⟨g1,g2,g3⟩:=gh (S:=S0) lp jS pD hr lj zO false;obtain⟨t1,t2,t3⟩:=gh (S:=S0) lp jS pD hr lj zO true;obtain⟨q1,q2⟩:=kR (N:=K0.N) hd;rw[q1]at g1 g2 g3;rw[q2]at t1 t2 t3;have gp:=jS.lt d.v lj;have NW:=m5.of jS lj;have sU:∀j,j<lv ah d.v->¬cG (QF t v (S0 r)) (ord.getD j 0):=λj hj=>T7 (RP lp jS pD m5 hr (xca gp) zO j hj);have eF:QF t v (S0 d.lo)=λx=>QF t v (S0 r) (ak.aB x d.v false):=by rw[<-T8 hne];congr 1;exact funext g1
 have eT:QF t v (S0 d.hi)=λx=>QF t v (S0 r) (ak.aB x d.v true):=by rw[<-T8 hne];congr 1;exact funext t1
 obtain⟨i1,Qr⟩:=jO (n:=K0.n) (ord:=ord) (c:=QF t v (S0 d.lo)) sU (b:=false) (by rw[NW];exact eF);obtain⟨i2,Qq⟩:=jO (n:=K0.n) (ord:=ord) (c:=QF t v (S0 d.hi)) sU (b:=true) (by rw[NW];exact eT);refine Ld.q ?_;refine Ld.f ?_;refine aL.of rfl fN (aa.fq (args:=#[u32 d.lo,ptr b1,ptr ji,ptr mu,ptr b3,ptr Ah]) (ih _ zO d.lo rfl K S made es ck C true P2 P3 g2 hS hD0 (λg hg=>hU g (Qr g hg))) ?_);rintro w H ⟨x1,K1,S1,y9,kE,jT,C1,ok1,ahA,ahC,rfl,rfl,E0,hD1,WH,ye⟩;refine DR.of (R:=[(b6,.cells (bB d).toArray 226 zZ),(Ah,.cells #[Tx b1 ji mu b3 Ah] 389 zZ),(b1,.cells #[ptr bq] 313 zZ)]) (.cons (.cons (.skip (.skip (.skip (.skip (aN.left (A:=[_])))))))) (Ld.q ?_);refine Ld.f ?_;refine Ld.q ?_;refine Ld.f ?_;refine aL.of rfl fN (aa.fq (args:=#[u32 d.hi,ptr b1,ptr ji,ptr mu,ptr b3,ptr Ah]) (ih _ zO d.hi rfl K1 S1 y9 kE jT C1 ok1 ahA ahC t2 E0 hD1 (λg hg=>hU g (Qq g hg))) ?_);rintro w H ⟨x2,K2,S2,fS,gV,iH,C2,Lx,adR,adU,rfl,rfl,jI,hD2,n7,tM⟩;refine⟨.cons (.cons (.skip (.skip (.skip (.skip (aN.left (A:=[_]))))))),?_⟩;have yl:=WH.trans n7;cases Lx with
 |false=>
  refine aa.eq (args:=#[ptr bq,iv (d.v:Int),u32 x1,u32 x2]) (yW (kp:=kp) (bm:=bm) _ _ _ _) (⟨.cons (.cons (.skip (.skip (.skip (.skip (aN.left (A:=[_]))))))),?_⟩);exact JE.mk (fin 0 K2 S2 fS gV iH C2 false adR adU jI hD2 yl (λh=>by cases h))
 |true=>
  obtain⟨YU,e2,m2⟩:=tM rfl;obtain⟨_,e1,m1⟩:=ye YU;have Zb:=E0.v7 m1;have l1:live K2.N x1:=cv n7.N Zb;have l2:=jI.v7 m2;have WZ:S2 x1=QF t v (S0 d.lo):=(n7.fn x1 Zb).trans e1;have dr:=jI.ks;have n2:=jI.c6.n;have b1':=dr.ok.below dr.od (l:=lv ah d.v+1) l1 zO (by rw[WZ];exact i1);have b2':=dr.ok.below dr.od (l:=lv ah d.v+1) l2 zO (by rw[e2];exact i2);have sS:ite S2 ⟨d.v,x1,x2⟩=QF t v (S0 r):=by
   funext x
   unfold ax.ite;rw[WZ,e2,eF,eT]
   conv=>rhs;rw[<-ak.iz x d.v]
   simp only;cases x.testBit d.v<;>rfl
  have iW:x1≠x2->U (ite S2 ⟨d.v,x1,x2⟩):=λhx=>by
   have zw:cG (QF t v (S0 r)) (ord.getD (lv ah d.v) 0):=by
    rw[NW];refine xaD λhno=>hx ?_;refine dr.ok.wf.same dr.ok.lv dr.ok.mid.int l1 l2 λx=>?_;rw[WZ,e2,eF,eT];exact(cQ hno x false).trans (cQ hno x true).symm
   rw[sS];exact hU _ (oJ sU gp zw)
  refine aa.fq (args:=#[ptr bq,iv (d.v:Int),u32 x1,u32 x2]) (CV jI (by rw[n2];exact lj) l1 l2 ⟨by omega,by omega⟩ (by rw[sS];exact hU) iW hf) ?_;rintro w H ⟨r3,K3,S3,jo,pg,qU,C3,yY,rfl,rfl,ZZ,E4,DN⟩;refine⟨.cons (.cons (.skip (.skip (.skip (.skip (aN.left (A:=[_]))))))),?_⟩;exact JE.mk (fin r3 K3 S3 jo pg qU C3 yY adR adU ZZ (hD2.more jI E4 (λ_=>rfl)) (yl.trans E4) (λh=>⟨by rw[(DN h).1,sS],(DN h).2⟩))
end
def Y6(es:Array MapEntry)(l:zL):List zV->Hp->Nat:=λ_ H=>match H with
 |(_,.mapIter _ _ seen _)::_=>(bT es (BR l) seen).length
 |_=>0
structure Let(K K':Kd)(l:zL):Prop where
 n:K'.n=K.n
 cap:K'.cap=K.cap
 N:∀s d,K'.N s=some d->K.N s=some d
 hold:∀s,K'.hold s+l.count s=K.hold s
section
variable {kp bq bm:Nat} {K0:Kd} {S0:Nat->ax.Fn} {U:ax.Fn->Prop} {ord ah:zL}
theorem AV{g:Gh}{K:Kd}{S:Nat->ax.Fn}{l:zL}{es:Array MapEntry}{ck b9 b1:Nat}{ok:Bool}{C LB:Hp}(hK:cc kp K S ord ah [] C)(hE:aD (kN .u32) vr1 es ck (BR l))(hc:∀s,l.count s<=K.hold s)(h2:∀s∈l,2<=s)(PX:∀s∈l,s<4294967296){Kc:Hp->Prop}
 (hk:∀K' C' bi it,cc kp K' S ord ah [] C'->Let K K' l->Kc ((bi,it)::(b9,.cells #[ptr bq] 313 zZ)::(b1,.cells #[ptr kp] 85 zZ)::(LB++uG bq kp bm ok es ck C'))):
  kx zQ g 324 #[ptr b9,ptr b1] ((b9,.cells #[ptr bq] 313 zZ)::(b1,.cells #[ptr kp] 85 zZ)::(LB++uG bq kp bm ok es ck C)) Kc:=by
 refine EL (R:=_) ?_;unfold L324;refine Ld.q ?_;refine Ld.n ?_;refine .inr ⟨bm,es,ck,rfl,.tail _ (.tail _ (xab _ (.tail _ (.head _)))),λbi _=>?_⟩;refine⟨λ_ H=>∃(done:zL) (K':Kd) (C':Hp) (seen:Array Nat),H=(bi,.mapIter (some bm) ck seen ck)::(b9,.cells #[ptr bq] 313 zZ)::(b1,.cells #[ptr kp] 85 zZ)::(LB++uG bq kp bm ok es ck C')/\
   cc kp K' S ord ah [] C'/\Let K K' done/\(done++(bT es (BR l) seen).map Prod.fst).Perm l,Y6 es l,JE.mk ⟨[],K,C,#[],rfl,hK,⟨rfl,rfl,λ_ _ h=>h,λs=>by simp⟩,by rw[mI hE,ry];exact .refl _⟩,?_⟩
 rintro H ⟨done,K',C',seen,rfl,dk,hl,hp⟩ gs;refine aD.next (bi:=bi) (bm:=bm) (seen:=seen) hE (.tail _ (.tail _ (.tail _ (xab _ (.tail _ (.head _)))))) (.head _) (λe x seen' he hkey hv PJ hbk hfi=>⟨_,.head _,?_⟩) (λhu=>?_)
 ·refine Ext.mk rfl (Br.yes (⟨bi,bm,ck,seen',e.born,ck,es,e,rfl,.head _,hbk,.tail _ (.tail _ (.tail _ (xab _ (.tail _ (.head _))))),hfi,?_⟩));refine Ext.mk rfl (Ld.q ?_);have hxl:x.1∈l:=by
   refine hp.mem_iff.1 (xab _ ?_);exact xaR (PJ.mem_iff.2 (.head _))
  have BW:done.count x.1+1<=l.count x.1:=by
   rw[<-hp.count_eq,xbh,(PJ.map Prod.fst).count_eq,xaC,List.count_cons_self];omega
  have hhx:K'.hold x.1≠0:=by
   have a:=hl.hold x.1;have b:=hc x.1;omega
  show aa zQ g 142 #[ptr kp,e.key] _ _ _;rw[hkey];refine aa.fq (args:=#[ptr kp,u32 x.1]) (m7 dk (r:=x.1) (PX _ hxl) (λ_=>hhx)) ?_;rintro w C2 ⟨rfl,K2,dr,f2⟩;refine aC.mk ⟨done++[x.1],K2,C2,seen',rfl,dr,⟨f2.n.trans hl.n,f2.cap.trans hl.cap,λs d hd=>hl.N s d (f2.N s d hd),λs=>?_⟩,?_⟩ ?_
  ·have a:=hl.hold s;rw[f2.hold,xbh,xcK];by_cases e1:s=x.1
   ·subst e1;have:=h2 _ hxl;simp[this];omega
   have:(x.1==s)=false:=by simpa using λe'=>e1 e'.symm
   simp[e1,this];exact a
  ·refine .trans ?_ hp;rw[xaj];refine xbZ _ ?_;exact(PJ.map Prod.fst).symm
  show(bT es (BR l) seen').length<(bT es (BR l) seen).length;rw[PJ.length_eq,xaB];omega
 refine Ext.mk rfl (Br.no ?_);rw[hu,xb9,xaL]at hp;refine⟨⟨_,rfl⟩,hk K' C' bi _ dk ⟨hl.n,hl.cap,hl.N,λs=>?_⟩⟩;rw[<-hp.count_eq];exact hl.hold s
end
section
variable {kp:Nat} {K:Kd} {S:Nat->ax.Fn} {ord ah tr:zL} {C:Hp}
theorem abF{α:Type}(a x y b:α)(L R:List α):(a::x::y::b::(L++R)).Perm (a::b::(L++x::y::R)):=by
 classical
 rw[xcu];intro z;simp only[xbh,xb5];omega
theorem ND{made:zL}{x:Nat}:ig (BR made) x=BR (made.filter λr=>decide (¬r=x)):=by
 unfold ig BR;induction made with
 |nil=>rfl
 |cons a l ih=>
  simp only[xaC,xbn];by_cases h:a=x
  ·simp[h]at ih⊢;exact ih
  simp[h]at ih⊢;exact ih
def oz(kp:Nat)(K:Kd)(S:Nat->ax.Fn)(ord ah:zL)(LB:Hp)(f:ax.Fn)(w:zV)(H:Hp):Prop:=
 (∃x K' S' C',w=.tuple #[u32 x,.bool true,iv 0]/\H=LB++C'/\cc kp K' S' ord ah [] C'/\kV K S K' S' f x)\/
 (w=.tuple #[u32 0,.bool false,iv 9]/\(∃K' S' C',H=LB++C'/\cc kp K' S' ord ah [] C'/\Kept K S K' S')/\¬Fits (aH K.n ord (λg=>K.held S g\/g=f)) K.cap)
def kU(kp:Nat)(K:Kd)(S:Nat->ax.Fn)(ord ah:zL)(LB:Hp)(f:ax.Fn)(w:zV)(H:Hp):Prop:=
 oz kp K S ord ah LB f w H\/∃x,w=.tuple #[u32 x,.bool false,iv 0]/\(∃K' S' C',H=LB++C'/\cc kp K' S' ord ah [] C'/\Kept K S K' S')/\2<=x/\K.hold x=65535/\S x=f
theorem Lp(hK:cc kp K S ord ah tr C){f:ax.Fn}{LB:Hp}{fb:zV}
 (hb:∀K1 C1,cc kp K1 S ord ah [] C1->Xm K K1 1->∃ff first cap,fb=.func (.func ff) first cap/\aT zQ ff=true/\∀bq bm,yz kp K1 S (aH K.n ord (λg=>K.held S g\/g=f)) ord ah K1 S [] #[] 0 C1 true->
   Fc zQ ff (first++ #[ptr bq]++cap) (LB++uG bq kp bm true #[] 0 C1) (Xk kp K1 S (aH K.n ord (λg=>K.held S g\/g=f)) ord ah bq bm LB K1 S [] f)):
  Fc zQ 256 #[ptr kp,fb] (LB++C) (kU kp K S ord ah LB f):=by
 refine aE λg=>Jo λb1 _=>?_;refine Ld.q ?_;intro bm _;refine Build.mk (cs:=[ptr kp,.map (some bm),iv 0]) zK λbq _ b9 _=>?_;refine St.one (by exact .head _) rfl zI rfl ?_;refine Ld.q ?_;refine aa.fq (args:=#[ptr kp,u32 1]) (mY hK (r:=1) (.inl zO) (λh=>by omega)) ?_;rintro w C1 ⟨rfl,K1,eW,mo⟩;have fk:∀s,K1.hold s=K.hold s:=λs=>by rw[mo.hold,xac zO]
 have acV:∀g,K1.held S g->K.held S g:=by
  rintro g ⟨s,hs,rfl⟩;exact⟨s,by have:K1.hold s≠0:=hs;rwa [fk]at this,rfl⟩
 obtain⟨ff,first,cap,rfl,Wr,hbody⟩:=hb K1 C1 eW mo;refine Ld.q ?_;refine aL.of rfl Wr (aa.pre (H':=(b9,.cells #[ptr bq] 313 zZ)::(b1,.cells #[ptr kp] 85 zZ)::(LB++uG bq kp bm true #[] 0 C1)) (.perm (abF _ _ _ _ _ _)) ?_);have SO:yz kp K1 S (aH K.n ord (λg=>K.held S g\/g=f)) ord ah K1 S [] #[] 0 C1 true:=⟨eW,.refl λg hg=>by rw[mo.n]at hg;exact cK (λg h=>.inl (acV g h)) hg,aD.empty,λh=>by cases h⟩;refine aa.fq (C:=LB++uG bq kp bm true #[] 0 C1) (hbody bq bm SO) ?_;rintro w H ⟨x,K2,S2,made,es,ck,C2,ok,rfl,rfl,jI,hA,ho⟩;have dr:=jI.ks;have kz:=jI.c6;have fc:=jI.nd;have GB:∀s,made.count s<=K2.hold s:=λs=>by rw[kz.hold];omega
 have PX:∀s∈made,s<4294967296:=λs hs=>by have:=dr.bL (kz.iD dr hs);omega
 have rM:∀s,K.hold s≠0->live K.N s:=λs hs=>.inr (hK.ok.mid.held s hs);have ag8:∀s d,K.N s=some d->K2.N s=some d:=λs d hd=>kz.N s d (by rw[mo.N];exact hd);have hfn:∀s,live K.N s->S2 s=S s:=λs hs=>kz.fn s (by rw[mo.N];exact hs);refine Ld.q ?_;refine Ld.n ?_;cases ok with
 |false=>
  refine ae.cO (Br.T (Ld.q ?_));refine Ld.n ?_;refine AV dr jI.dK GB kz.two PX λK3 C3 bi it kD hl=>?_;have gH:∀s,K3.hold s=K.hold s:=λs=>by
   have a:=hl.hold s;have b:=kz.hold s;rw[fk]at b;omega
  refine aF.mk (.skip (.skip (.skip (.c8 (.skip .tail) _)))) (.inl (.inr ⟨rfl,⟨K3,S2,C3,rfl,kD,⟨by rw[hl.n,kz.n,mo.n],by rw[hl.cap,kz.cap,mo.cap],gH,λg=>?_,λr hr=>hfn r (rM r hr)⟩⟩,?_⟩))
  ·constructor
   ·rintro⟨s,hs,rfl⟩;have hs':K.hold s≠0:=by rw[<-gH];exact hs
    exact⟨s,hs',hfn s (rM s hs')⟩
   rintro⟨s,hs,rfl⟩;exact⟨s,by show K3.hold s≠0;rw[gH];exact hs,(hfn s (rM s hs)).symm⟩
  have:=jI.bad rfl;rw[mo.cap]at this;exact this
 |true=>
  obtain⟨hx,hxm⟩:=ho rfl;refine ae.cO (Br.F (Ld.q ?_));refine Ld.n ?_;have fin:∀(K3:Kd) (l:zL) (pg:Array MapEntry) (C3:Hp),cc kp K3 S2 ord ah [] C3->(∀s d,K3.N s=some d->K2.N s=some d)->K3.n=K2.n->K3.cap=K2.cap->aD (kN .u32) vr1 pg ck (BR l)->(∀s∈l,s∈made)->(∀s,K3.hold s=K.hold s+l.count s+if s=x/\2<=x then 1 else 0)->
    kx zQ g 324 #[ptr b9,ptr b1] ((b9,.cells #[ptr bq] 313 zZ)::(b1,.cells #[ptr kp] 85 zZ)::(LB++uG bq kp bm true pg ck C3)) λH=>aF (kU kp K S ord ah LB f) (.returned (.tuple #[u32 x,.bool true,iv 0])) H:=by
   intro K3 l pg C3 kD hN3 hn3 ZT PW hlm BV;refine AV kD PW (λs=>by rw[BV];omega) (λs hs=>kz.two s (hlm s hs)) (λs hs=>PX s (hlm s hs)) λK4 C4 bi it Ob hl=>?_;have nk:∀s,K4.hold s=K.hold s+if s=x/\2<=x then 1 else 0:=λs=>by
    have a:=hl.hold s;rw[BV]at a;omega
   have wv:live K4.N x:=by
    by_cases h2:x<2
    ·exact .inl h2
    refine .inr (Ob.ok.mid.held x ?_);rw[nk,xae ⟨rfl,by omega⟩];omega
   refine aF.mk (.skip (.skip (.skip (.c8 (.skip .tail) _)))) (.inl (.inl ⟨x,K4,S2,C4,rfl,rfl,Ob,⟨by rw[hl.n,hn3,kz.n,mo.n],by rw[hl.cap,ZT,kz.cap,mo.cap],λs d hs=>j6 hK.ok Ob.ok (λs h=>by rw[nk];omega) (λs d d' h h'=>?_) _ s d hs (xai _),hfn,wv,hx,nk⟩⟩));have a:=hN3 s d' (hl.N s d' h');rw[ag8 s d h]at a;exact(xbp a).symm
  by_cases hm:x∈made
  ·refine aD.hit (k:=x) (x:=()) jF jI.dK (.tail _ (.tail _ (xab _ (.tail _ (.head _))))) (oZ.1 hm) ?_;rintro v rfl;refine ae.gtr (Br.T (Ld.q ?_));refine Ld.n ?_;refine aD.del (k:=x) jF jI.dK (.tail _ (.tail _ (xab _ (.tail _ (.head _))))) λes' he=>⟨_,.tail (.tail ((dg.tail (.head _)).ca LB)),?_⟩;rw[ND]at he;refine fin K2 _ es' C2 dr (λ_ _ h=>h) rfl rfl he (λs hs=>(xbD.1 hs).1) λs=>?_;rw[kz.hold,fk];have PY:=kz.two x hm;by_cases e1:s=x
   ·subst e1;have c1:made.count s=1:=by rw[fc.count,xae hm]
    have c2:(made.filter λr=>decide (¬r=s)).count s=0:=xdL.2 zI;rw[c1,c2,xae ⟨rfl,PY⟩]
   have:(made.filter λr=>decide (¬r=x)).count s=made.count s:=List.count_filter (by simpa using e1);rw[this,xac (λh=>e1 h.1)];rfl
  refine aD.bM (k:=x) jF jI.dK (.tail _ (.tail _ (xab _ (.tail _ (.head _))))) (oZ.2 hm) ?_;refine ae.gtr (Br.F (Ld.q ?_));have wv:live K2.N x:=jI.v7 hxm;by_cases BW:2<=x/\K2.hold x=65535
  ·have hKx:K.hold x=65535:=by
    have:=kz.hold x;rw[fk,xdL.2 hm]at this;omega
   refine aa.eq (args:=#[ptr kp,u32 x]) (o5 dr wv BW.1 BW.2) (ae.gX ?_);rw[show decide ((8:Int)=0)=false from rfl];refine AV dr jI.dK GB kz.two PX λK3 C3 bi it kD hl=>?_;have gH:∀s,K3.hold s=K.hold s:=λs=>by
    have a:=hl.hold s;have b:=kz.hold s;rw[fk]at b;omega
   refine aF.mk (.skip (.skip (.skip (.c8 (.skip .tail) _)))) (.inr ⟨x,rfl,⟨K3,S2,C3,rfl,kD,⟨by rw[hl.n,kz.n,mo.n],by rw[hl.cap,kz.cap,mo.cap],gH,λg=>?_,λr hr=>hfn r (rM r hr)⟩⟩,BW.1,hKx,by rw[<-hx];exact(hfn x (rM x zO)).symm⟩);constructor
   ·rintro⟨s,hs,rfl⟩;have hs':K.hold s≠0:=by rw[<-gH];exact hs
    exact⟨s,hs',hfn s (rM s hs')⟩
   rintro⟨s,hs,rfl⟩;exact⟨s,by show K3.hold s≠0;rw[gH];exact hs,(hfn s (rM s hs)).symm⟩
  refine aa.fq (args:=#[ptr kp,u32 x]) (mY dr (r:=x) wv (λh2=>by have:=dr.gf x;omega)) ?_;rintro w C3 ⟨rfl,K3,kD,m3⟩;refine ae.gX ?_;rw[show decide ((0:Int)=0)=true from rfl];refine fin K3 made es C3 kD (λs d h=>by rw[<-m3.N];exact h) m3.n m3.cap jI.dK (λ_ h=>h) λs=>?_;rw[m3.hold,kz.hold,fk];split<;>omega
end
section
variable {kp bq bm:Nat} {K0:Kd} {S0:Nat->ax.Fn} {U:ax.Fn->Prop} {ord ah:zL}
theorem L8{t:Bool->Bool->Bool}{v r:Nat}{fv:zV}{LB:Hp}(hLq:Mv kp K0 S0 U ord ah bq bm t v fv LB)(ht:∀a,t a a=a)(hv:v<K0.n)(lp:WF K0.n (lv ah) K0.N)(pD:Interp K0.N S0)(jS:jV K0.n (lv ah))(m5:ax.Ord K0.n (lv ah) ord)(hf:∀s,K0.hold s=65535->live K0.N s)
 {K:Kd}{S:Nat->ax.Fn}{made:zL}{es:Array MapEntry}{ck:Nat}{C:Hp}(hr:live K0.N r)(hS:yz kp K0 S0 U ord ah K S made es ck C true)(hU:∀g,aH K0.n ord (λg=>g=QF t v (S0 r)) g->U g):
  Fc zQ 258 #[ptr bq,u32 r,iv (v:Int),fv] (LB++uG bq kp bm true es ck C) (Xk kp K0 S0 U ord ah bq bm LB K S made (QF t v (S0 r))):=by
 have fN:aT zQ 325=true:=by kernel_rfl
 have ag9:=hLq;obtain⟨f0,ahr,amD,Sk,_⟩:=ag9;have hn:=hS.c6.n;refine aE λg=>Jm λb1 _ b3 _=>?_;refine Ld.q ?_;refine Ld.n ?_;refine aa.rq (l9 hS.ks.rep (v:Int)) ?_;rw[xae zO];rintro w rfl;refine Ext.two λji _=>(St.one (by exact .head _) rfl zI rfl ?_);intro bd _ mu _;refine St.one (by exact .head _) rfl zI rfl ?_;intro Ah _;refine St.one (by exact .head _) rfl zI rfl ?_;refine Ld.q ?_;refine aL.of rfl fN ?_;subst Sk;refine aa.fq (args:=#[u32 r,ptr b1,ptr ji,ptr mu,ptr b3,ptr Ah]) (Ti (b1:=b1) (b3:=b3) (ji:=ji) (mu:=mu) (Ah:=Ah) (bd:=bd) fN hLq ht hv lp pD jS m5 hf _ r rfl K S made es ck C true #[] 0 hr hS ⟨[],aD.empty,λ_ y hy=>by cases hy⟩ hU) ?_;rintro w H ⟨x,K',S',made',es',bD,C',ny,aag,aai,rfl,rfl,PT,_,hA,ho⟩;exact aF.mk (.skip (.skip (.skip (.skip (.skip .tail))))) ⟨x,K',S',made',es',bD,C',ny,rfl,rfl,PT,hA,λh=>(ho h).2⟩
abbrev TO(b5:Nat)(b:Bool):Nat×Obj:=(b5,.cells #[.bool b] 4 zZ)
theorem FE{v b5:Nat}{b:Bool}{LB:Hp}(lp:WF K0.n (lv ah) K0.N)(pD:Interp K0.N S0)(jS:jV K0.n (lv ah))(hm:TO b5 b∈LB):Mv kp K0 S0 U ord ah bq bm (λx y=>if b then y else x) v (.func (.func 259) #[] #[ptr b5]) LB:=by
 refine⟨_,_,_,rfl,by kernel_rfl,λr d hd lj K S made es ck C hS hU=>?_⟩;have hr:live K0.N r:=.inr ⟨d,hd⟩;have Ss:=lp.var hd;obtain⟨g1,g2,g3⟩:=gh (S:=S0) lp jS pD hr Ss (by rw[an hd];exact xai _) false;obtain⟨t1,t2,t3⟩:=gh (S:=S0) lp jS pD hr Ss (by rw[an hd];exact xai _) true;obtain⟨q1,q2⟩:=kR (N:=K0.N) hd;rw[q1]at g1 g2 g3;rw[q2]at t1 t2 t3;subst lj;refine aE λg=>Jl λb1 _=>?_;refine Ld.mk (v:=.bool b) (by exact .tail _ (xad _ hm)) rfl ?_;refine Br.mk (λhb=>?_) (λhb=>?_)
 ·subst hb;refine Ld.f ?_;refine aF.mk .tail ⟨d.hi,K,S,made,es,ck,C,true,rfl,rfl,hS,.refl,λ_=>⟨?_,.inl t2⟩⟩;rw[hS.c6.fn _ t2];exact funext t1
 subst hb;refine Ld.f ?_;refine aF.mk .tail ⟨d.lo,K,S,made,es,ck,C,true,rfl,rfl,hS,.refl,λ_=>⟨?_,.inl g2⟩⟩;rw[hS.c6.fn _ g2];exact funext g1
theorem Eu{v b1 b5:Nat}{e:Bool}{LB:Hp}(lp:WF K0.n (lv ah) K0.N)(pD:Interp K0.N S0)(jS:jV K0.n (lv ah))(m5:ax.Ord K0.n (lv ah) ord)(hf:∀s,K0.hold s=65535->live K0.N s)(hm:TO b5 e∈LB)(h1:(b1,Obj.cells #[ptr bq] 313 zZ)∈LB):
  Mv kp K0 S0 U ord ah bq bm (λx y=>if e then x||y else x&&y) v (.func (.func 329) #[] #[ptr b1,ptr b5]) LB:=by
 refine⟨_,_,_,rfl,by kernel_rfl,λr d hd lj K S made es ck C hS hU=>?_⟩;have hr:live K0.N r:=.inr ⟨d,hd⟩;have Ss:=lp.var hd;obtain⟨g1,g2,g3⟩:=gh (S:=S0) lp jS pD hr Ss (by rw[an hd];exact xai _) false;obtain⟨t1,t2,t3⟩:=gh (S:=S0) lp jS pD hr Ss (by rw[an hd];exact xai _) true;obtain⟨q1,q2⟩:=kR (N:=K0.N) hd;rw[q1]at g1 g2 g3;rw[q2]at t1 t2 t3;subst lj;have eq:QF (λx y=>if e then x||y else x&&y) d.v (S0 r)=jf e S0 d.lo d.hi:=by
  funext x
  rw[sN,g1,t1];rfl
 rw[eq]at hU⊢;refine aE λg=>Iw λb _=>?_;refine Ld.mk (v:=ptr bq) (by exact .tail _ (xad _ h1)) rfl ?_;refine Ld.f ?_;refine Ld.f ?_;refine Ld.mk (v:=.bool e) (by exact .tail _ (xad _ hm)) rfl ?_;refine aa.fq (args:=#[ptr bq,u32 d.lo,u32 d.hi,.bool e]) (C:=uG bq kp bm true es ck C) (VV lp pD jS m5 hf g2 t2 hS hU) ?_;rintro w H ⟨x,K',S',made',es',bD,C',ny,rfl,rfl,PT,hA,ho⟩;exact aF.mk .tail ⟨x,K',S',made',es',bD,C',ny,rfl,rfl,PT,hA,ho⟩
end
section
variable {kp:Nat} {K:Kd} {S:Nat->ax.Fn} {ord ah tr:zL} {C:Hp}
abbrev rHp(b5 b3 b1:Nat)(b:Bool)(v r:Nat):Hp:=[TO b5 b,(b3,.cells #[iv (v:Int)] 3 zZ),(b1,.cells #[u32 r] 110 zZ)]
theorem oz.three{LB:Hp}{f:ax.Fn}{w:zV}{H:Hp}(h:oz kp K S ord ah LB f w H):∃x b e,w=.tuple #[x,b,e]:=by
 rcases h with⟨x,K',S',C',rfl,_⟩|⟨rfl,_⟩
 ·exact⟨_,_,_,rfl⟩
 exact⟨_,_,_,rfl⟩
theorem oz.drop{LB:Hp}{f:ax.Fn}{w:zV}{H:Hp}(h:oz kp K S ord ah LB f w H):∃C',aN H C'/\oz kp K S ord ah [] f w C':=by
 rcases h with⟨x,K',S',C',rfl,rfl,dk,hg⟩|⟨rfl,⟨K',S',C',rfl,dk,hk⟩,hn⟩
 ·exact⟨C',.right,.inl ⟨x,K',S',C',rfl,rfl,dk,hg⟩⟩
 exact⟨C',.right,.inr ⟨rfl,⟨K',S',C',rfl,dk,hk⟩,hn⟩⟩
theorem kU.Ql{LB:Hp}{f:ax.Fn}{w:zV}{H:Hp}(h:kU kp K S ord ah LB f w H):∃x y z,w=.tuple #[x,y,z]:=by
 rcases h with h|⟨x,rfl,_⟩
 ·exact h.three
 exact⟨_,_,_,rfl⟩
theorem aF.Yi{LB:Hp}{f:ax.Fn}{w:zV}{H:Hp}(h:kU kp K S ord ah LB f w H):aF (kU kp K S ord ah [] f) (.returned w) H:=by
 rcases h with h|⟨x,rfl,⟨K',S',C',rfl,dk,hk⟩,h2⟩
 ·obtain⟨C',h1,h2⟩:=h.drop;exact aF.mk h1 (.inl h2)
 exact aF.mk .right (.inr ⟨x,rfl,⟨K',S',C',rfl,dk,hk⟩,h2⟩)
theorem kY(hK:cc kp K S ord ah tr C){r v:Nat}{b:Bool}(hr:live K.N r)(hv:v<K.n):
  Fc zQ 183 #[ptr kp,u32 r,iv (v:Int),.bool b] C (kU kp K S ord ah [] (λx=>S r (ak.aB x v b))):=by
 have eq:QF (λx y=>if b then y else x) v (S r)=λx=>S r (ak.aB x v b):=by
  funext x;unfold QF;cases b<;>rfl
 rw[<-eq];refine aE λg=>Kb λb1 _ b3 _ b5 _=>?_;refine aa.fq (args:=#[ptr kp,.func (.func 257) #[] #[ptr b1,ptr b3,ptr b5]]) (C:=rHp b5 b3 b1 b v r++C) (Lp (f:=QF (λx y=>if b then y else x) v (S r)) hK λK1 C1 eW mo=>⟨_,_,_,rfl,by kernel_rfl,λbq bm hQ=>?_⟩) ?_
 ·intro g;refine Jn (R:=aF _) ?_;unfold L257;refine Ld.q ?_;refine Ld.q ?_;have R1:live K1.N r:=by rw[mo.N];exact hr
  refine aa.fq (args:=#[ptr bq,u32 r,iv (v:Int),.func (.func 259) #[] #[ptr b5]]) (C:=rHp b5 b3 b1 b v r++uG bq kp bm true #[] 0 C1)
   (L8 (FE eW.ok.wf eW.ok.mid.int eW.ok.lv (b:=b) (.head _)) (λa=>by cases b<;>rfl) (by rw[mo.n];exact hv) eW.ok.wf eW.ok.mid.int eW.ok.lv eW.od (λs hs=>.inr (eW.ok.mid.held s zO)) R1 hQ (λg hg=>by rw[mo.n]at hg;exact cK (λg h=>.inr h) hg)) ?_
  intro w H hO;exact aF.here hO
 intro w H hO;obtain⟨x,bb,e,rfl⟩:=hO.Ql;exact Ext.mk rfl (Ext.mk rfl (Ext.mk rfl (aF.Yi hO)))
def qf(e:Bool)(v:Nat)(f:ax.Fn):ax.Fn:=QF (λx y=>if e then x||y else x&&y) v f
theorem x8(hK:cc kp K S ord ah tr C){r v:Nat}{e:Bool}(hr:live K.N r)(hv:v<K.n):
  Fc zQ 260 #[ptr kp,u32 r,iv (v:Int),.bool e] C (kU kp K S ord ah [] (qf e v (S r))):=by
 refine aE λg=>Jk λb1 _ b3 _ b5 _=>?_;refine aa.fq (args:=#[ptr kp,.func (.func 328) #[] #[ptr b1,ptr b3,ptr b5]]) (C:=rHp b5 b3 b1 e v r++C) (Lp (f:=qf e v (S r)) hK λK1 C1 eW mo=>⟨_,_,_,rfl,by kernel_rfl,λbq bm hQ=>?_⟩) ?_
 ·intro g;refine Ix (R:=aF _) ?_;unfold L328;intro b2 _;refine Ld.q ?_;refine Ld.q ?_;refine Ld.q ?_;have R1:live K1.N r:=by rw[mo.N];exact hr
  have hf1:∀s,K1.hold s=65535->live K1.N s:=λs hs=>.inr (eW.ok.mid.held s zO);refine aa.fq (args:=#[ptr bq,u32 r,iv (v:Int),.func (.func 329) #[] #[ptr b2,ptr b5]]) (C:=((b2,Obj.cells #[ptr bq] 313 zZ)::rHp b5 b3 b1 e v r)++uG bq kp bm true #[] 0 C1)
   (L8 (Eu eW.ok.wf eW.ok.mid.int eW.ok.lv eW.od hf1 (e:=e) (.tail _ (.head _)) (.head _)) (λa=>by cases e<;>cases a<;>rfl) (by rw[mo.n];exact hv) eW.ok.wf eW.ok.mid.int eW.ok.lv eW.od hf1 R1 hQ (λg hg=>by rw[mo.n]at hg;exact cK (λg h=>.inr h) hg)) ?_
  rintro w H ⟨x,K',S',made',es',bD,C',ny,rfl,rfl,PT,hA,ho⟩;exact aF.mk .tail ⟨x,K',S',made',es',bD,C',ny,rfl,rfl,PT,hA,ho⟩
 intro w H hO;obtain⟨x,bb,e,rfl⟩:=hO.Ql;exact Ext.mk rfl (Ext.mk rfl (Ext.mk rfl (aF.Yi hO)))
end
end Go.Proofs
namespace Go.Sx
open Go
section
variable {P:Program} {g:Gh} {H:Hp}
def FcD(P:Program)(f:FuncId)(args:Array zV)(C:Hp)(Q:zV->Hp->Prop):Prop:=∀g,kT P g f args C (aF Q)
theorem kx.fn{f:FuncId}{args:Array zV}{C H:Hp}{c:Hp->Hp}{Q:zV->Hp->Prop}{K:Hp->Prop}(hh:bH C H c)(hc:FcD P f args C Q)(hk:∀v C',Q v C'->K (c C')):kx P g f args H K:=by
 intro w hw u;obtain⟨rfl,F,hp⟩:=hh.spec;have eP:Own g (C++F) w:=aN.perm (hp C) g w hw;refine((hc (g.add F)) w (Own.fm.1 eP) u).mono ?_;rintro e u' w' ⟨rfl,H',ho,v,C',rfl,he,hq⟩;have h1:Own g (H'++F) w':=Own.fm.2 ho;have h2:Own g (c H') w':=aN.perm (hp H').symm g w' h1;exact⟨rfl,c C',hh.dK he g w' h2,⟨v,rfl⟩,hk _ _ hq⟩
end
end Go.Sx
set_option maxRecDepth 100000
namespace Go.Proofs
open Go Go.Sx
section
open ax
section
variable {kp:Nat} {K:Kd} {ord ah tr:zL} {C:Hp} {S:Nat->ax.Fn}
theorem On(h:cc kp K S ord ah tr C){r:Nat}(hr:r<4294967296)(hh:2<=r->K.hold r≠0):∀g,L142 g (ptr kp) (u32 r) C (aF λv C'=>v=iv 0/\∃K',cc kp K' S ord ah [] C'/\Az K K' r):=by
 have h0:=h;obtain⟨b,hC,hO⟩:=h.rep;intro g;unfold L142;refine ae.aI (Br.no λJ2 BZ=>?_);have fin:∀(K':Kd) C1,cW kp K' ord ah tr C1->Ok K' S (lv ah)->Idle K'->Az K K' r->J2 [] C1:=λK' C1 dk Bd wx hm=>by
  refine BZ _ λgs=>?_;obtain⟨b',rfl,yj⟩:=dk;refine Nil.ptr (ai.mk (St.one (by exact .head _) rfl (by simp[uD.cells]) rfl ?_));have m5:Ord K'.n (lv ah) ord:=by rw[hm.n];exact h.od
  refine aF.mk (nH:=({b' with vt:=.slice none 0 0,CR:=[]}:uD).hp kp K'.n) ?_ ⟨rfl,K',⟨⟨{b' with vt:=.slice none 0 0,CR:=[]},rfl,{yj with tr:=aP.nil}⟩,Bd,m5,wx,trivial⟩,hm⟩;refine .cons (.c8 (.c8 (.c8 (.c8 (.c8 (.c8 .nil _) _) _) _) _) _)
 refine ae.nq (b:=1) (Br.dec (λh2=>?_) (λh2=>?_));rotate_left
 ·exact JE.mk (fin K C h.rep h.ok h.idle ⟨rfl,rfl,λ_ _ h=>h,λs=>by rw[xac zO]⟩)
 have o9:2<=r:=by omega
 have pN:=hh o9;obtain⟨d,hd⟩:=h.ok.mid.held r pN;have hfu:=h.ok.mid.fit hd;have NU:=hO.ul;have hfit:r<K.ho.length:=by omega
 have hle:=h.gf r;refine aa.eq (wc h.rep hr (λs=>by have:=h.gf s;omega)) (ae.gX (Br.F ?_));subst hC;refine Nil.ptr (ai.mk (Ld.f ?_));refine hO.ho.ld (x:=((K.hold r:Nat):Int)) (bI hfit) (bH.sub (.cons (.app (.app (.app .left))))) (ae.bY (b:=1) (hO.ho.nw (x:=((K.hold r-1:Nat):Int)) (.cons (.app (.app (.app .left)))) (by rw[aq];exact hfit) λUe ZL=>?_));rw[fj]at ZL;have g1:∀s,(K.ho.set r (K.hold r-1)).getD s 0=if s=r then K.hold r-1 else K.hold s:=λs=>gU hfit
 have hM:=h.ok.mid.drop (r:=r) (cC:=K.ho.set r (K.hold r-1)) zO zI (by rw[g1,xae rfl];omega) (λs hs=>by rw[g1,xac hs]);have eW:cW kp {K with ho:=K.ho.set r (K.hold r-1)} ord ah tr (({b with CH:=Ue}:uD).hp kp K.n):=⟨_,rfl,{hO with ho:=ZL,ul:=by simp;exact NU}⟩;have hho:∀s,(K.ho.set r (K.hold r-1)).getD s 0=if s=r/\2<=r then K.hold s-1 else K.hold s:=λs=>by
  rw[g1];by_cases e:s=r
  ·subst e;rw[xae rfl,xae ⟨rfl,o9⟩]
  rw[xac e,xac (λh=>e h.1)]
 refine Nil.ptr (ai.mk (Ld.f ?_));refine ZL.ld (x:=((K.hold r-1:Nat):Int)) (by rw[bI (by simpa using hfit),g1,xae rfl]) (bH.sub (.cons (.app (.app (.app .left))))) (ae.dJ (b:=0) (Br.dec (λh3=>?_) (λh3=>?_)));rotate_left
 ·rw[xac zO]at hM;exact JE.mk (fin {K with ho:=K.ho.set r (K.hold r-1)} _ eW ⟨hM,h.ok.pos,h.ok.lv,h.ok.wf⟩ h.idle ⟨rfl,rfl,λ_ _ h=>h,hho⟩)
 rw[xae zO]at hM;refine Nil.ptr (ai.mk ?_);have LW:jU {K with ho:=K.ho.set r (K.hold r-1)} S iR (gY zero' [r]):=hM.congr (λ_=>xcY) λs _=>by
  unfold up gY zero';by_cases e:s=r
  ·subst e;simp
  simp[e,xbb e]
 refine aa.fq (mP (P0:=zero') eW LW h.ok.pos (λt SU h0=>?_) (h.bL (.inr ⟨d,hd⟩)) (λs=>by have:=h.Fm s;show K.use s<_;omega)) ?_
 ·by_cases e:t=r
  ·subst e;exact⟨d,hd⟩
  have h0':0<zero' t+[r].count t:=h0;simp[zero',xbb e]at h0'
 rintro w C2 ⟨rfl,K2,dr,WC,Ul,_,dY⟩;refine JE.mk (fin K2 _ dr ⟨WC,Ul,by rw[dY.n];exact h.ok.lv,LI h.ok.wf WC (λh=>dY.N h) dY.n⟩ (dY.idle h.idle) ⟨dY.n,dY.cap,λs e hs=>dY.N hs,λs=>?_⟩);show K2.ho.getD s 0=_;rw[dY.ho];exact hho s
theorem iY(h:cc kp K S ord ah tr C){r:Nat}(hr:r<4294967296)(hh:2<=r->K.hold r≠0):FcD zQ 142 #[ptr kp,u32 r] C (λv C'=>v=iv 0/\∃K',cc kp K' S ord ah [] C'/\Az K K' r):=
 λg=>EN (On h hr hh g)
end
end
section
open ax
section
variable {kp:Nat} {K:Kd} {S:Nat->ax.Fn} {ord ah tr:zL} {C:Hp}
theorem uE(B:Hp)(x:Nat):Rd zQ 182 #[u32 x,.bool true,iv 0] B (· =.tuple #[u32 x,iv 0]):=by
 exact aE λg=>qM (ae.cO (Br.F (Un.not (Br.no (br.mk (.refl _) rfl)))))
theorem uF(B:Hp)(x:zV)(b:zV):Rd zQ 182 #[x,b,iv 9] B (· =.tuple #[u32 0,iv 9]):=by
 exact aE λg=>qM (ae.cO (Br.T (br.mk (.refl _) rfl)))
theorem oF(B:Hp)(x:Nat):Rd zQ 182 #[u32 x,.bool false,iv 0] B (· =.tuple #[u32 0,iv 8]):=by
 exact aE λg=>qM (ae.cO (Br.F (Un.not (Br.yes (br.mk (.refl _) rfl)))))
theorem yP(hK:cc kp K S ord ah tr C){v:Nat}(hv:v<K.n):Rd zQ 180 #[ptr kp,iv (v:Int)] C (· =.tuple #[.int .u64 ((2^v:Nat):Int),.bool true]):=by
 have hn:=hK.bg.lY;refine aE λg=>Kf λJ hJ=>?_;refine ae.lss ?_;rw[xak zO];refine Split.go rfl (ae.AW (Split.go rfl (aa.eq (gP hK.rep) (ae.s6 ?_))));rw[xak zO];refine aM.mk (aM.mk (JE.mk (hJ _ _ λgs=>Br.no ?_)));have h2:2^v<18446744073709551616:=xaN (xbk zD (show v<64 by omega)) zD;refine ae.Cz (a:=1) (by simp[IntKind.bits];omega) (by rw[xa4];simpa[bA]using h2) ?_;rw[xa4];exact br.mk (.refl _) rfl
theorem sF(hK:cc kp K S ord ah tr C){Y:Hp}{mask:Nat}{vr:zV}{refs:zL}(hm:mask<2^K.n)(hr:dF .u32 Y vr (iw refs))(hl:∀r∈refs,live K.N r)(cD:refs.length<=1048576):Rd zQ 181 #[ptr kp,.int .u64 (mask:Int),vr] (Y++C) (· =iv 0):=by
 have hn:=hK.bg.lY;refine aE λg=>Ke (ae.aI (Br.no (aa.eq (gP hK.rep) ?_)));have E5:mask<18446744073709551616:=xaN hm (xaA (n:=2) zD hn);refine ae.ic (by simpa[bA]using E5) ?_;rw[xaW,xcQ hm];refine ae.cO (Br.F (hr.bP ?_));rw[aq];refine⟨λvs H=>∃i:Nat,vs=[iv (i:Int)]/\i<=refs.length/\H=Y++C,λvs _=>refs.length-bJ vs 0,JE.mk ⟨0,rfl,xaO _,rfl⟩,?_⟩;rintro w7 H ⟨i,⟨⟩,hi,rfl⟩ gs;refine ae.eZ (Br.dec (λhlt=>?_) (λhlt=>?_))
 ·have hlr:=hl _ (xaF hlt);refine hr.ld (n:=((refs[i]:Nat):Int)) (cL (xaa hlt)) (λ_ h=>xad _ h) ?_;refine aa.eq (args:=#[ptr kp,u32 refs[i]]) (iU hK.rep (by have:=hK.bL hlr;omega)) ?_;rw[bX.2 hlr];refine Ext.two λb15 _=>(St.whole (r:=got K.N refs[i]) (by exact .head _) rfl (aQ _ _).1 (aQ _ _).2 ?_);exact ae.cO (Br.F (ae.inc (aC.of .tail ⟨i+1,rfl,hlt,rfl⟩ (by simp only[bJ];omega))))
 exact br.mk (.refl _) rfl
theorem oz.done{f:ax.Fn}{w:zV}{H:Hp}(h:oz kp K S ord ah [] f w H):(∃x,w=.tuple #[u32 x,.bool true,iv 0]/\aaF kp K S ord ah tr f (.tuple #[u32 x,iv 0]) H)\/(w=.tuple #[u32 0,.bool false,iv 9]/\aaF kp K S ord ah tr f (.tuple #[u32 0,iv 9]) H):=by
 rcases h with⟨x,K',S',C',rfl,rfl,dk,hg⟩|⟨rfl,⟨K',S',C',rfl,dk,hk⟩,hn⟩
 ·exact .inl ⟨x,rfl,.inl ⟨x,K',S',rfl,dk,hg⟩⟩
 exact .inr ⟨rfl,.inr ⟨rfl,⟨K',S',[],dk,.inl rfl,hk⟩,hn⟩⟩
theorem rC{n v:Nat}(hv:v<n):2^v<2^n:=xbk zD hv
theorem vE(hK:cc kp K S ord ah tr C){r v:Nat}{b:Bool}(hr:live K.N r)(hv:v<K.n):
  Fc zQ 127 #[ptr kp,u32 r,iv (v:Int),.bool b] C (kj kp K S ord ah tr (λx=>S r (ak.aB x v b))):=by
 refine aE λg=>KG (aa.eq (yP hK hv) (Ext.two (ae.AW (cm.and (a:=true) false (λ_=>Un.not ⟨rfl,rfl⟩) rfl λgs=>Br.no ?_))));refine au.int (e:=110) zK zK zK λbs=>?_;refine aa.eq (args:=#[ptr kp,.int .u64 ((2^v:Nat):Int),.slice (some ⟨bs,0,none⟩) 1 1]) (sF (Y:=[(bs,Obj.cells (ay .u32 [(r:Int)]) 110 zZ)]) (refs:=[r]) hK (rC hv) ((aP.made (T:=110) (kd:=.u32) (b:=bs) (iw [r])).ints) (λs hs=>by simp at hs;subst hs;exact hr) (by show 1<=1048576;omega)) (ae.cO (Br.F ?_));refine aa.fq (args:=#[ptr kp,u32 r,iv (v:Int),.bool b]) (kY hK hr hv) ?_;rintro w H (hO|⟨x,rfl,⟨K',S',C',rfl,dk,hk⟩,h2,hfx,N9⟩);rotate_left
 ·exact Ext.mk rfl (Ext.mk rfl (Ext.mk rfl (aa.eq (oF _ x) (Ext.mk rfl (Ext.mk rfl (aF.mk .tail (.inr ⟨rfl,⟨K',S',[],dk,.inl rfl,hk⟩,x,h2,hfx,N9⟩)))))))
 rcases hO.done (tr:=tr)with⟨x,rfl,hD⟩|⟨rfl,hD⟩
 ·exact Ext.mk rfl (Ext.mk rfl (Ext.mk rfl (aa.eq (uE _ x) (Ext.mk rfl (Ext.mk rfl (aF.mk .tail (.inl hD)))))))
 exact Ext.mk rfl (Ext.mk rfl (Ext.mk rfl (aa.eq (uF _ _ _) (Ext.mk rfl (Ext.mk rfl (aF.mk .tail (.inl hD)))))))
end
theorem Fits.mono{A B:ax.Fn->Prop}{cap:Nat}(h:∀g,A g->B g)(hB:Fits B cap):Fits A cap:=by
 classical
 obtain⟨ku,⟨l,h1,h2,h3⟩,hc⟩:=hB;refine⟨(l.filter λg=>decide (A g)).length,⟨l.filter λg=>decide (A g),h1.filter _,rfl,λg=>?_⟩,?_⟩
 ·rw[xbD,xaJ,<-h3];exact⟨λx=>⟨h g x,x⟩,λx=>x.2⟩
 have:=xb2 (λg=>decide (A g)) l;omega
def bitsOf(mask n:Nat):zL:=(List.range n).filter λi=>mask.testBit i
theorem oo(mask n:Nat):bitsOf mask (n+1)=bitsOf mask n++if mask.testBit n then [n]else []:=by
 unfold bitsOf;rw[xcl,xb6,xbn,List.filter_nil]
def qm(e:Bool)(vs:zL)(f:ax.Fn):ax.Fn:=vs.foldl (λg v=>qf e v g) f
theorem CX(e:Bool)(vs:zL)(v:Nat)(f:ax.Fn):qm e (vs++[v]) f=qf e v (qm e vs f):=by
 unfold qm;rw[xdp];rfl
section
variable {kp:Nat} {K:Kd} {S:Nat->ax.Fn} {ord ah tr:zL} {C:Hp}
def BL(kp:Nat)(K:Kd)(S:Nat->ax.Fn)(ord ah tr:zL)(e:Bool)(mask r:Nat)(w:zV)(H:Hp):Prop:=
 (∃x K' S',w=.tuple #[u32 x,iv 0]/\cc kp K' S' ord ah [] H/\kV K S K' S' (qm e (bitsOf mask K.n) (S r)) x)\/
 (w=.tuple #[u32 0,iv 9]/\(∃K' S' cX,cc kp K' S' ord ah cX H/\(cX=[]\/cX=tr)/\Kept K S K' S')/\∃i,i<K.n/\mask.testBit i=true/\¬Fits (aH K.n ord (λg=>(K.held S g\/(bitsOf mask i≠[]/\g=qm e (bitsOf mask i) (S r)))\/g=qf e i (qm e (bitsOf mask i) (S r)))) K.cap)
def mB(kp:Nat)(K:Kd)(S:Nat->ax.Fn)(ord ah tr:zL)(e:Bool)(mask r:Nat)(w:zV)(H:Hp):Prop:=
 BL kp K S ord ah tr e mask r w H\/(w=.tuple #[u32 0,iv 8]/\(∃K' S' cX,cc kp K' S' ord ah cX H/\(cX=[]\/cX=tr)/\Kept K S K' S')/\
  ((mask=0/\2<=r/\K.hold r=65535)\/∃i x,i<K.n/\mask.testBit i=true/\2<=x/\live K.N x/\S x=qf e i (qm e (bitsOf mask i) (S r))/\65534<=K.hold x/\((bitsOf mask i≠[]/\S x=qm e (bitsOf mask i) (S r))\/K.hold x=65535)))
structure Way(K:Kd)(S:Nat->ax.Fn)(K1:Kd)(S1:Nat->ax.Fn)(ch:Bool)(cur:Nat):Prop where
 n:K1.n=K.n
 cap:K1.cap=K.cap
 N:∀s d,K.N s=some d->K1.N s=some d
 fn:∀s,live K.N s->S1 s=S s
 live:live K1.N cur
 hold:∀s,K1.hold s=K.hold s+if ch=true/\s=cur/\2<=cur then 1 else 0
theorem z8(hK:cc kp K S ord ah tr C){r mask:Nat}{e:Bool}(hr:live K.N r)(hm:mask<2^K.n):
  Fc zQ 184 #[ptr kp,u32 r,.int .u64 (mask:Int),.bool e] C (mB kp K S ord ah tr e mask r):=by
 have hn:=hK.bg.lY;have E5:mask<18446744073709551616:=xaN hm (xaA (n:=2) zD hn);have rM:∀s,K.hold s≠0->live K.N s:=λs hs=>.inr (hK.ok.mid.held s hs);refine aE λg=>Ka (au.int (e:=110) zK zK zK λbs=>?_);refine aa.eq (args:=#[ptr kp,.int .u64 (mask:Int),.slice (some ⟨bs,0,none⟩) 1 1]) (sF (Y:=[(bs,Obj.cells (ay .u32 [(r:Int)]) 110 zZ)]) (refs:=[r]) hK hm ((aP.made (T:=110) (kd:=.u32) (b:=bs) (iw [r])).ints) (λs hs=>by simp at hs;subst hs;exact hr) (by show 1<=1048576;omega)) (ae.cO (Br.F ?_));refine ae.dJ (b:=0) (Br.dec (λh0=>?_) (λh0=>?_))
 ·subst h0;by_cases hfr:2<=r/\K.hold r=65535
  ·exact aa.eq (args:=#[ptr kp,u32 r]) (o5 hK hr hfr.1 hfr.2) (ae.cO (Br.T (aF.mk .tail (.inr ⟨rfl,⟨K,S,tr,hK,.inr rfl,.refl K S⟩,.inl ⟨rfl,hfr.1,hfr.2⟩⟩))))
  refine aa.fq (args:=#[ptr kp,u32 r]) (mY hK (r:=r) hr (λh2=>by have:=hK.gf r;omega)) ?_;rintro w C1 ⟨rfl,K1,eW,mo⟩;refine ae.cO (Br.F (aF.mk .tail (.inl (.inl ⟨r,K1,S,rfl,eW,mo.n,mo.cap,λs d hd=>by rw[mo.N];exact hd,λ_ _=>rfl,by rw[mo.N];exact hr,?_,λs=>by rw[mo.hold];split<;>omega⟩))));have:bitsOf 0 K.n=[]:=by unfold bitsOf;rw[xcS];intro a _;simp
  rw[this];rfl
 refine aa.eq (gP hK.rep) ?_;refine⟨λvs H=>∃(i cur:Nat) (ch:Bool) (K1:Kd) (S1:Nat->ax.Fn) (C1:Hp) (Xy:zL),vs=[u32 cur,.bool ch,iv (i:Int)]/\i<=K.n/\H=(bs,Obj.cells (ay .u32 [(r:Int)]) 110 zZ)::C1/\cc kp K1 S1 ord ah Xy C1/\
   (ch=decide (bitsOf mask i≠[]))/\S1 cur=qm e (bitsOf mask i) (S r)/\Way K S K1 S1 ch cur/\(ch=true->Xy=[]),λvs _=>K.n-bJ vs 2,
  JE.mk ⟨0,r,false,K,S,C,tr,rfl,xaO _,rfl,hK,rfl,rfl,⟨rfl,rfl,λ_ _ h=>h,λ_ _=>rfl,hr,λs=>by rw[xac (λh=>by cases h.1)];rfl⟩,λh=>by cases h⟩,?_⟩
 rintro w16 w17 w18 H ⟨i,cur,ch,K1,S1,C1,Xy,hvs,hi,rfl,eW,kQ,mg,hw,eR⟩ gs;simp only[xax,xa0]at hvs;obtain⟨rfl,rfl,rfl⟩:=hvs;refine ae.eZ (Br.dec (λhlt=>?_) (λhlt=>?_));rotate_left
 ·obtain rfl:i=K.n:=by omega
  have hne:bitsOf mask K.n≠[]:=λhb=>h0 (by
   apply xaY;intro j;rw[xcA];by_cases hj:j<K.n
   ·cases ht:mask.testBit j with
    |false=>rfl
    |true=>
     have:j∈bitsOf mask K.n:=xbD.2 ⟨xaM.2 hj,ht⟩;rw[hb]at this;cases this
   exact xbW (xaN hm (xaA zD zO)))
  have hct:ch=true:=by rw[kQ];exact xam hne
  rw[eR hct]at eW;exact aF.mk .tail (.inl (.inl ⟨cur,K1,S1,rfl,eW,hw.n,hw.cap,hw.N,hw.fn,hw.live,mg,λs=>by rw[hw.hold];simp[hct]⟩))
 intro J hJ;refine ae.ic (by simpa[bA]using E5) (ae.jj (b:=1) (by have:mask>>>i<=mask:=xbo _ _;simp[bA];omega) (by simp[bA]) ?_);have sV:(mask>>>i) &&&1=(mask.testBit i).toNat:=by
  rw[xbT,xbP,xaW];have:mask/2^i%2<2:=xbG _ zD;by_cases h:mask/2^i%2=1
  ·simp[h]
  have:mask/2^i%2=0:=by omega
  simp[this]
 rw[sV];refine ae.dJ (b:=0) ?_;cases ht:mask.testBit i with
 |false=>
  refine Br.T (JE.mk (hJ _ _ _ λgs=>?_));refine ae.inc ?_;have eb:bitsOf mask (i+1)=bitsOf mask i:=by rw[oo,ht];simp
  exact aC.mk ⟨i+1,cur,ch,K1,S1,C1,Xy,rfl,hlt,rfl,eW,by rw[eb];exact kQ,by rw[eb];exact mg,hw,eR⟩ (by simp only[bJ];omega)
 |true=>
  refine Br.F ?_;have eb:bitsOf mask (i+1)=bitsOf mask i++[i]:=by rw[oo,ht];simp
  have hh1:∀s,K1.hold s≠0->live K1.N s:=λs hs=>.inr (eW.ok.mid.held s hs);refine aa.fq (args:=#[ptr kp,u32 cur,iv (i:Int),.bool e]) (x8 eW hw.live (by rw[hw.n];exact hlt)) ?_;rintro w H ((⟨x,K2,S2,C2,rfl,rfl,dr,hg⟩|⟨rfl,⟨K2,S2,C2,rfl,dr,hk⟩,hno⟩)|⟨x,rfl,⟨K2,S2,C2,rfl,dr,hk⟩,PY,hfx,N9⟩)
  ·refine Ext.mk rfl (Ext.mk rfl (Ext.mk rfl (aa.eq (uE _ x) (Ext.two λJ38 h38=>?_))));have go:∀K3 C3,cc kp K3 S2 ord ah [] C3->Way K S K3 S2 true x->J38 [] ((bs,Obj.cells (ay .u32 [(r:Int)]) 110 zZ)::C3):=λK3 C3 kD V4=>by
    refine h38 _ λgs=>?_;refine ae.cO (Br.F (JE.mk (hJ _ _ _ λgs=>?_)));exact ae.inc (aC.mk ⟨i+1,x,true,K3,S2,C3,[],rfl,hlt,rfl,kD,by rw[eb];exact(xam zI).symm,by rw[hg.is,eb,CX,mg],V4,λ_=>rfl⟩ (by simp only[bJ];omega))
   have fn2:∀s,live K.N s->S2 s=S s:=λs hs=>(hg.fn s (cv hw.N hs)).trans (hw.fn s hs);cases ch with
   |false=>
    refine Br.no (JE.mk (go K2 H dr ⟨hg.n.trans hw.n,hg.cap.trans hw.cap,λs d hd=>hg.N s d (hw.N s d hd),fn2,hg.live,λs=>?_⟩));have a:=hw.hold s;rw[xac (λh=>by cases h.1)]at a;rw[hg.hold,a];simp
   |true=>
    have hlc:=hw.live;have hcc:2<=cur->K2.hold cur≠0:=λh2=>by rw[hg.hold,hw.hold,xae ⟨rfl,rfl,h2⟩];omega
    refine Br.yes (aa.fq (args:=#[ptr kp,u32 cur]) (m7 dr (r:=cur) (by have:=eW.bL hlc;omega) hcc) ?_);rintro w C3 ⟨rfl,K3,kD,f3⟩;have gH:∀s,K3.hold s=K.hold s+if s=x/\2<=x then 1 else 0:=λs=>by
     have a:=hw.hold s;simp only[xcZ]at a;rw[f3.hold,hg.hold,a];split<;>split<;>omega
    refine JE.mk (go K3 C3 kD ⟨by rw[f3.n,hg.n,hw.n],by rw[f3.cap,hg.cap,hw.cap],λs d hs=>j6 hK.ok kD.ok (λs h=>by rw[gH];omega) (λs d d' h h'=>?_) _ s d hs (xai _),fn2,?_,λs=>by rw[gH];simp⟩)
    ·have a:=f3.N s d' h';rw[hg.N s d (hw.N s d h)]at a;exact(xbp a).symm
    by_cases h2:x<2
    ·exact .inl h2
    refine .inr (kD.ok.mid.held x ?_);rw[gH,xae ⟨rfl,by omega⟩];omega
  ·refine Ext.mk rfl (Ext.mk rfl (Ext.mk rfl (aa.eq (uF _ _ _) (Ext.two λJ38 h38=>?_))));have ux:∀g,K1.held S1 g->K.held S g\/(bitsOf mask i≠[]/\g=qm e (bitsOf mask i) (S r)):=by
    rintro g ⟨s,hs,rfl⟩;have hs':K1.hold s≠0:=hs;by_cases hz:K.hold s=0
    ·right;rw[hw.hold,hz]at hs';by_cases hx:ch=true/\s=cur/\2<=cur
     ·refine⟨?_,by rw[hx.2.1];exact mg⟩;have:=hx.1;rw[kQ]at this;exact xcd this
     rw[xac hx]at hs';omega
    exact .inl ⟨s,hz,hw.fn s (rM s hz)⟩
   have DP:¬Fits (aH K.n ord (λg=>(K.held S g\/(bitsOf mask i≠[]/\g=qm e (bitsOf mask i) (S r)))\/g=qf e i (qm e (bitsOf mask i) (S r)))) K.cap:=λhfit=>hno (by
    rw[hw.n,hw.cap,mg];exact Fits.mono (λg hg=>cK (λg h=>h.imp (ux g) id) hg) hfit)
   have go:∀K3 C3 Qi,cc kp K3 S2 ord ah Qi C3->Qi=[]->(∀s,K3.hold s=K.hold s)->K3.n=K2.n->K3.cap=K2.cap->J38 [] ((bs,Obj.cells (ay .u32 [(r:Int)]) 110 zZ)::C3):=λK3 C3 Qi kD RX BV hn3 ZT=>by
    refine h38 _ λgs=>?_;refine ae.cO (Br.T ?_);have hfn:∀s,K.hold s≠0->S2 s=S s:=λs hs=>(hk.fn s (by rw[hw.hold];omega)).trans (hw.fn s (rM s hs));refine aF.mk .tail (.inl (.inr ⟨rfl,⟨K3,S2,Qi,kD,.inl RX,⟨by rw[hn3,hk.n,hw.n],by rw[ZT,hk.cap,hw.cap],BV,λg=>?_,hfn⟩⟩,i,hlt,ht,DP⟩));constructor
    ·rintro⟨s,hs,rfl⟩;have hs':K.hold s≠0:=by rw[<-BV];exact hs
     exact⟨s,hs',hfn s hs'⟩
    rintro⟨s,hs,rfl⟩;exact⟨s,by show K3.hold s≠0;rw[BV];exact hs,(hfn s hs).symm⟩
   cases ch with
   |false=>
    refine Br.no (JE.mk (go K2 H [] dr rfl (λs=>?_) rfl rfl));rw[hk.hold,hw.hold,xac (λh=>by cases h.1)];rfl
   |true=>
    have hcc:2<=cur->K2.hold cur≠0:=λh2=>by rw[hk.hold,hw.hold,xae ⟨rfl,rfl,h2⟩];omega
    refine Br.yes (aa.fq (args:=#[ptr kp,u32 cur]) (m7 dr (r:=cur) (by have:=eW.bL hw.live;omega) hcc) ?_);rintro w C3 ⟨rfl,K3,kD,f3⟩;refine JE.mk (go K3 C3 [] kD rfl (λs=>?_) f3.n f3.cap);have a:=hw.hold s;simp only[xcZ]at a;rw[f3.hold,hk.hold,a];split<;>omega
  refine Ext.mk rfl (Ext.mk rfl (Ext.mk rfl (aa.eq (oF _ x) (Ext.two λJ38 h38=>?_))));have wv:live K.N x:=rM x (by have:=hw.hold x;split at this<;>omega);have SN:S x=qf e i (qm e (bitsOf mask i) (S r)):=by rw[<-mg,<-N9];exact(hw.fn x wv).symm
  have agv:65534<=K.hold x/\((bitsOf mask i≠[]/\S x=qm e (bitsOf mask i) (S r))\/K.hold x=65535):=by
   have:=hw.hold x;by_cases hx:ch=true/\x=cur/\2<=cur
   ·rw[xae hx]at this;refine⟨by omega,.inl ⟨?_,?_⟩⟩
    ·have h1:=hx.1;rw[kQ]at h1;exact xcd h1
    rw[<-mg,<-hx.2.1];exact(hw.fn x wv).symm
   rw[xac hx]at this;exact⟨by omega,.inr zO⟩
  have go:∀K3 C3 Qi,cc kp K3 S2 ord ah Qi C3->Qi=[]->(∀s,K3.hold s=K.hold s)->K3.n=K2.n->K3.cap=K2.cap->J38 [] ((bs,Obj.cells (ay .u32 [(r:Int)]) 110 zZ)::C3):=λK3 C3 Qi kD RX BV hn3 ZT=>by
   refine h38 _ λgs=>?_;refine ae.cO (Br.T ?_);have hfn:∀s,K.hold s≠0->S2 s=S s:=λs hs=>(hk.fn s (by rw[hw.hold];omega)).trans (hw.fn s (rM s hs));refine aF.mk .tail (.inr ⟨rfl,⟨K3,S2,Qi,kD,.inl RX,⟨by rw[hn3,hk.n,hw.n],by rw[ZT,hk.cap,hw.cap],BV,λg=>?_,hfn⟩⟩,.inr ⟨i,x,hlt,ht,PY,wv,SN,agv⟩⟩);constructor
   ·rintro⟨s,hs,rfl⟩;have hs':K.hold s≠0:=by rw[<-BV];exact hs
    exact⟨s,hs',hfn s hs'⟩
   rintro⟨s,hs,rfl⟩;exact⟨s,by show K3.hold s≠0;rw[BV];exact hs,(hfn s hs).symm⟩
  cases ch with
  |false=>
   refine Br.no (JE.mk (go K2 H [] dr rfl (λs=>?_) rfl rfl));rw[hk.hold,hw.hold,xac (λh=>by cases h.1)];rfl
  |true=>
   have hcc:2<=cur->K2.hold cur≠0:=λh2=>by rw[hk.hold,hw.hold,xae ⟨rfl,rfl,h2⟩];omega
   refine Br.yes (aa.fq (args:=#[ptr kp,u32 cur]) (m7 dr (r:=cur) (by have:=eW.bL hw.live;omega) hcc) ?_);rintro w C3 ⟨rfl,K3,kD,f3⟩;refine JE.mk (go K3 C3 [] kD rfl (λs=>?_) f3.n f3.cap);have a:=hw.hold s;simp only[xcZ]at a;rw[f3.hold,hk.hold,a];split<;>omega
end
section
variable {kp:Nat} {K:Kd} {S:Nat->ax.Fn} {ord ah tr:zL} {C:Hp}
theorem BL.two{e:Bool}{mask r:Nat}{w:zV}{H:Hp}(h:BL kp K S ord ah tr e mask r w H):∃x y,w=.tuple #[x,y]:=by
 rcases h with⟨x,K',S',rfl,_⟩|⟨rfl,_⟩
 ·exact⟨_,_,rfl⟩
 exact⟨_,_,rfl⟩
theorem mB.two{e:Bool}{mask r:Nat}{w:zV}{H:Hp}(h:mB kp K S ord ah tr e mask r w H):∃x y,w=.tuple #[x,y]:=by
 rcases h with h|⟨rfl,_⟩
 ·exact h.two
 exact⟨_,_,rfl⟩
theorem Ee(hK:cc kp K S ord ah tr C){r mask:Nat}(hr:live K.N r)(hm:mask<2^K.n):
  Fc zQ 128 #[ptr kp,u32 r,.int .u64 (mask:Int)] C (mB kp K S ord ah tr true mask r):=by
 refine aE λg=>KF (aa.fq (z8 hK hr hm) ?_);intro w H hO;obtain⟨x,y,rfl⟩:=hO.two;exact Ext.mk rfl (Ext.mk rfl (aF.here hO))
theorem D8(hK:cc kp K S ord ah tr C){r mask:Nat}(hr:live K.N r)(hm:mask<2^K.n):
  Fc zQ 129 #[ptr kp,u32 r,.int .u64 (mask:Int)] C (mB kp K S ord ah tr false mask r):=by
 refine aE λg=>KE (aa.fq (z8 hK hr hm) ?_);intro w H hO;obtain⟨x,y,rfl⟩:=hO.two;exact Ext.mk rfl (Ext.mk rfl (aF.here hO))
def Xu(kp:Nat)(K:Kd)(S:Nat->ax.Fn)(ord ah tr:zL)(lo hi f:ax.Fn)(w:zV)(H:Hp):Prop:=
 (∃x K' S',w=.tuple #[u32 x,iv 0]/\cc kp K' S' ord ah [] H/\kV K S K' S' f x)\/
 (w=.tuple #[u32 0,iv 9]/\(∃K' S' cX,cc kp K' S' ord ah cX H/\(cX=[]\/cX=tr)/\Kept K S K' S')/\
  (¬Fits (aH K.n ord (λg=>K.held S g\/g=lo)) K.cap\/¬Fits (aH K.n ord (λg=>(K.held S g\/g=lo)\/g=hi)) K.cap\/¬Fits (aH K.n ord (λg=>((K.held S g\/g=lo)\/g=hi)\/g=f)) K.cap))
def One(p:Prop)(a:Nat):Prop:=(a=1/\p)\/(a=0/\¬p)
def EP(kp:Nat)(K:Kd)(S:Nat->ax.Fn)(ord ah tr:zL)(lo hi f:ax.Fn)(w:zV)(H:Hp):Prop:=
 Xu kp K S ord ah tr lo hi f w H\/(w=.tuple #[u32 0,iv 8]/\(∃K' S' cX,cc kp K' S' ord ah cX H/\(cX=[]\/cX=tr)/\Kept K S K' S')/\
  ∃x,2<=x/\live K.N x/\((S x=lo/\K.hold x=65535)\/(∃a,One (S x=lo) a/\S x=hi/\K.hold x+a=65535)\/(∃a b,One (S x=lo) a/\One (S x=hi) b/\S x=f/\K.hold x+a+b=65535)))
theorem kV.one{K':Kd}{S':Nat->ax.Fn}{f:ax.Fn}{x:Nat}{cX:zL}{C':Hp}(h:kV K S K' S' f x)(dk:cc kp K' S' ord ah cX C'){s:Nat}(hs:ax.live K.N s)(h2:2<=s):∃a,One (S s=f) a/\K'.hold s=K.hold s+a:=by
 have hfn:=h.fn s hs;by_cases e:s=x
 ·exact⟨1,.inl ⟨rfl,by rw[<-hfn,e];exact h.is⟩,by rw[h.hold,xae ⟨e,by omega⟩]⟩
 refine⟨0,.inr ⟨rfl,λhf=>e ?_⟩,by rw[h.hold,xac (λh=>e h.1)]⟩;exact dk.ok.wf.same dk.ok.lv dk.ok.mid.int (cv h.N hs) h.live λy=>by rw[hfn,hf,h.is]
theorem Ow(hK:cc kp K S ord ah tr C){r v h:Nat}(hr:live K.N r)(hv:v<K.n)(hh:live K.N h):
  Fc zQ 130 #[ptr kp,u32 r,iv (v:Int),u32 h] C (EP kp K S ord ah tr (λx=>S r (ak.aB x v false)) (λx=>S r (ak.aB x v true)) (λx=>if S h x then S r (ak.aB x v true)else S r (ak.aB x v false))):=by
 have uK:1<=2^K.n:=xej;have rM:∀s,K.hold s≠0->live K.N s:=λs hs=>.inr (hK.ok.mid.held s hs);refine aE λg=>KD (aa.eq (yP hK hv) (Ext.two (ae.AW (cm.and (a:=true) false (λ_=>Un.not ⟨rfl,rfl⟩) rfl λgs=>Br.no ?_))));refine au.RK (e:=110) zK zK zK λbs=>?_;refine aa.rq (args:=#[ptr kp,.int .u64 ((2^v:Nat):Int),.slice (some ⟨bs,0,none⟩) 2 2]) (sF (Y:=[(bs,Obj.cells (ay .u32 [(r:Int),(h:Int)]) 110 zZ)]) (refs:=[r,h]) hK (rC hv) ((aP.made (T:=110) (kd:=.u32) (b:=bs) (iw [r,h])).ints) (λs hs=>by
  simp only[xal,xaQ,xbH]at hs;rcases hs with rfl|rfl
  ·exact hr
  exact hh) (by show 2<=1048576;omega)) ?_
 rintro w rfl;refine ae.cO (Br.F (aa.fq (args:=#[ptr kp,u32 r,iv (v:Int),.bool false]) (kY hK hr hv) ?_));rintro w H (hO|⟨x,rfl,⟨K1,S1,C1,rfl,eW,hk⟩,PY,hfx,N9⟩);rotate_left
 ·exact Ext.mk rfl (Ext.mk rfl (Ext.mk rfl (aa.eq (oF _ x) (Ext.two (ae.cO (Br.T (aF.mk .tail (.inr ⟨rfl,⟨K1,S1,[],eW,.inl rfl,hk⟩,x,PY,rM x zO,.inl ⟨N9,hfx⟩⟩))))))))
 rcases hO with⟨x1,K1,S1,C1,rfl,rfl,eW,g1⟩|⟨rfl,⟨K1,S1,C1,rfl,eW,hk⟩,hno⟩;rotate_left
 ·exact Ext.mk rfl (Ext.mk rfl (Ext.mk rfl (aa.eq (uF _ _ _) (Ext.two (ae.cO (Br.T (aF.mk .tail (.inl (.inr ⟨rfl,⟨K1,S1,[],eW,.inl rfl,hk⟩,.inl hno⟩)))))))))
 refine Ext.mk rfl (Ext.mk rfl (Ext.mk rfl (aa.eq (uE _ x1) (Ext.two (ae.cO (Br.F ?_))))));have R1:=cv g1.N hr;have e1:S1 r=S r:=g1.fn r hr;have hh1:=cv g1.N hh;have l1:=g1.live;have fk:=g1.hold;have Sh:∀g,K1.held S1 g->K.held S g\/g=λx=>S r (ak.aB x v false):=g1.held rM;refine aa.fq (args:=#[ptr kp,u32 r,iv (v:Int),.bool true]) (kY eW R1 (by rw[g1.n];exact hv)) ?_;intro w H hO;rw[e1]at hO;rcases hO with(⟨x2,K2,S2,C2,rfl,rfl,dr,g2⟩|⟨rfl,⟨K2,S2,C2,rfl,dr,hk⟩,hno⟩)|⟨x,rfl,⟨K2,S2,C2,rfl,dr,hk⟩,PY,hfx,N9⟩;rotate_left
 ·refine Ext.mk rfl (Ext.mk rfl (Ext.mk rfl (aa.eq (uF _ _ _) (Ext.two (ae.cO (Br.T (kx.fn (args:=#[ptr kp,u32 x1]) (.cons .here) (iY dr (r:=x1) (by have:=eW.bL l1;omega) (λh2=>by rw[hk.hold,fk,xae ⟨rfl,h2⟩];omega)) ?_)))))));rintro w C3 ⟨rfl,K3,kD,f3⟩;have BV:∀s,K3.hold s=K.hold s:=λs=>by
   rw[f3.hold,hk.hold,fk];split<;>omega
  have hfn:∀s,K.hold s≠0->S2 s=S s:=λs hs=>(hk.fn s (by rw[fk];omega)).trans (g1.fn s (rM s hs));refine aF.mk .tail (.inl (.inr ⟨rfl,⟨K3,S2,[],kD,.inl rfl,⟨by rw[f3.n,hk.n,g1.n],by rw[f3.cap,hk.cap,g1.cap],BV,λg=>?_,hfn⟩⟩,.inr (.inl λhfit=>hno ?_)⟩))
  ·constructor
   ·rintro⟨s,hs,rfl⟩;have hs':K.hold s≠0:=by rw[<-BV];exact hs
    exact⟨s,hs',hfn s hs'⟩
   rintro⟨s,hs,rfl⟩;exact⟨s,by show K3.hold s≠0;rw[BV];exact hs,(hfn s hs).symm⟩
  rw[g1.n,g1.cap];exact Fits.mono (λg hg=>cK (λg h=>h.imp (Sh g) id) hg) hfit
 ·refine Ext.mk rfl (Ext.mk rfl (Ext.mk rfl (aa.eq (oF _ x) (Ext.two (ae.cO (Br.T ?_))))));have wv:live K.N x:=rM x (by have:=fk x;split at this<;>omega);obtain⟨a,ha,hka⟩:=g1.one eW wv PY;have SN:S x=λx=>S r (ak.aB x v true):=by rw[<-N9];exact(g1.fn x wv).symm
  refine kx.fn (args:=#[ptr kp,u32 x1]) (.cons .here) (iY dr (r:=x1) (by have:=eW.bL l1;omega) (λh2=>by rw[hk.hold,fk,xae ⟨rfl,h2⟩];omega)) ?_;rintro w C3 ⟨rfl,K3,kD,f3⟩;have BV:∀s,K3.hold s=K.hold s:=λs=>by
   rw[f3.hold,hk.hold,fk];split<;>omega
  have hfn:∀s,K.hold s≠0->S2 s=S s:=λs hs=>(hk.fn s (by rw[fk];omega)).trans (g1.fn s (rM s hs));refine aF.mk .tail (.inr ⟨rfl,⟨K3,S2,[],kD,.inl rfl,⟨by rw[f3.n,hk.n,g1.n],by rw[f3.cap,hk.cap,g1.cap],BV,λg=>?_,hfn⟩⟩,x,PY,wv,.inr (.inl ⟨a,ha,SN,by omega⟩)⟩);constructor
  ·rintro⟨s,hs,rfl⟩;have hs':K.hold s≠0:=by rw[<-BV];exact hs
   exact⟨s,hs',hfn s hs'⟩
  rintro⟨s,hs,rfl⟩;exact⟨s,by show K3.hold s≠0;rw[BV];exact hs,(hfn s hs).symm⟩
 refine Ext.mk rfl (Ext.mk rfl (Ext.mk rfl (aa.eq (uE _ x2) (Ext.two (ae.cO (Br.F ?_))))));have hh2:=cv g2.N hh1;have l12:=cv g2.N l1;have l2:=g2.live;have fT:=g2.hold;have af4:∀s,K1.hold s≠0->live K1.N s:=λs hs=>.inr (eW.ok.mid.held s hs);have ZM:∀g,K2.held S2 g->(K.held S g\/g=λx=>S r (ak.aB x v false))\/g=λx=>S r (ak.aB x v true):=λg hg=>(g2.held af4 g hg).imp (Sh g) id;have eh:S2 h=S h:=(g2.fn h hh1).trans (g1.fn h hh);have ex1:S2 x1=λx=>S r (ak.aB x v false):=(g2.fn x1 l1).trans g1.is;have Wq:∀s,live K.N s->S2 s=S s:=λs hs=>(g2.fn s (cv g1.N hs)).trans (g1.fn s hs);refine aa.fq (args:=#[ptr kp,u32 h,u32 x2,u32 x1]) (Ak dr hh2 l2 l12) ?_;intro w H hO;rw[eh,ex1,g2.is]at hO;rcases hO with(⟨x3,K3,S3,rfl,kD,g3⟩|⟨rfl,⟨K3,S3,Qi,kD,_,hk⟩,hno⟩)|⟨rfl,⟨K3,S3,Qi,kD,_,hk⟩,x,PY,hfx,N9⟩
 ·apply Ext.two;have gH:=g3.hold;refine kx.fn (args:=#[ptr kp,u32 x2]) (.cons .here) (iY kD (r:=x2) (by have:=dr.bL l2;omega) (λh2=>by rw[gH,fT,xae ⟨rfl,h2⟩];omega)) ?_;rintro w C4 ⟨rfl,K4,Ob,f4⟩;have nk:∀s,K4.hold s=K1.hold s+if s=x3/\2<=x3 then 1 else 0:=λs=>by
   rw[f4.hold,gH,fT];split<;>split<;>omega
  refine kx.fn (args:=#[ptr kp,u32 x1]) (.cons .here) (iY Ob (r:=x1) (by have:=eW.bL l1;omega) (λh2=>by rw[nk,fk,xae ⟨rfl,h2⟩];omega)) ?_;rintro w C5 ⟨rfl,K5,LX,f5⟩;have n5:∀s,K5.hold s=K.hold s+if s=x3/\2<=x3 then 1 else 0:=λs=>by
   rw[f5.hold,nk,fk];split<;>split<;>omega
  have wv:live K5.N x3:=by
   by_cases h2:x3<2
   ·exact .inl h2
   refine .inr (LX.ok.mid.held x3 ?_);rw[n5,xae ⟨rfl,by omega⟩];omega
  have agx:∀s,live K.N s->S3 s=S s:=λs hs=>(g3.fn s (cv g2.N (cv g1.N hs))).trans (Wq s hs);refine aF.mk .tail (.inl (.inl ⟨x3,K5,S3,rfl,LX,⟨by rw[f5.n,f4.n,g3.n,g2.n,g1.n],by rw[f5.cap,f4.cap,g3.cap,g2.cap,g1.cap],λs d hs=>j6 hK.ok LX.ok (λs h=>by rw[n5];omega) (λs d d' h h'=>?_) _ s d hs (xai _),agx,wv,g3.is,n5⟩⟩));have a:=f4.N s d' (f5.N s d' h');rw[g3.N s d (g2.N s d (g1.N s d h))]at a;exact(xbp a).symm
 ·apply Ext.two;have gH:=hk.hold;refine kx.fn (args:=#[ptr kp,u32 x2]) (.cons .here) (iY kD (r:=x2) (by have:=dr.bL l2;omega) (λh2=>by rw[gH,fT,xae ⟨rfl,h2⟩];omega)) ?_;rintro w C4 ⟨rfl,K4,Ob,f4⟩;have nk:∀s,K4.hold s=K1.hold s:=λs=>by
   rw[f4.hold,gH,fT];split<;>omega
  refine kx.fn (args:=#[ptr kp,u32 x1]) (.cons .here) (iY Ob (r:=x1) (by have:=eW.bL l1;omega) (λh2=>by rw[nk,fk,xae ⟨rfl,h2⟩];omega)) ?_;rintro w C5 ⟨rfl,K5,LX,f5⟩;have n5:∀s,K5.hold s=K.hold s:=λs=>by
   rw[f5.hold,nk,fk];split<;>omega
  have hfn:∀s,K.hold s≠0->S3 s=S s:=λs hs=>(hk.fn s (by rw[fT,fk];omega)).trans (Wq s (rM s hs));refine aF.mk .tail (.inl (.inr ⟨rfl,⟨K5,S3,[],LX,.inl rfl,⟨by rw[f5.n,f4.n,hk.n,g2.n,g1.n],by rw[f5.cap,f4.cap,hk.cap,g2.cap,g1.cap],n5,λg=>?_,hfn⟩⟩,.inr (.inr λhfit=>hno ?_)⟩))
  ·constructor
   ·rintro⟨s,hs,rfl⟩;have hs':K.hold s≠0:=by rw[<-n5];exact hs
    exact⟨s,hs',hfn s hs'⟩
   rintro⟨s,hs,rfl⟩;exact⟨s,by show K5.hold s≠0;rw[n5];exact hs,(hfn s hs).symm⟩
  rw[g2.n,g2.cap,g1.n,g1.cap];exact Fits.mono (λg hg=>cK (λg h=>h.imp (ZM g) id) hg) hfit
 apply Ext.two;have gH:=hk.hold;have wv:live K.N x:=rM x (by have:=fT x;have:=fk x;split at* <;>split at* <;>omega);obtain⟨a,ha,hka⟩:=g1.one eW wv PY;obtain⟨b,hb,hkb⟩:=g2.one dr (cv g1.N wv) PY;rw[g1.fn x wv]at hb;have SN:S x=λx=>if S h x then S r (ak.aB x v true)else S r (ak.aB x v false):=by rw[<-N9];exact(Wq x wv).symm
 refine kx.fn (args:=#[ptr kp,u32 x2]) (.cons .here) (iY kD (r:=x2) (by have:=dr.bL l2;omega) (λh2=>by rw[gH,fT,xae ⟨rfl,h2⟩];omega)) ?_;rintro w C4 ⟨rfl,K4,Ob,f4⟩;have nk:∀s,K4.hold s=K1.hold s:=λs=>by
  rw[f4.hold,gH,fT];split<;>omega
 refine kx.fn (args:=#[ptr kp,u32 x1]) (.cons .here) (iY Ob (r:=x1) (by have:=eW.bL l1;omega) (λh2=>by rw[nk,fk,xae ⟨rfl,h2⟩];omega)) ?_;rintro w C5 ⟨rfl,K5,LX,f5⟩;have n5:∀s,K5.hold s=K.hold s:=λs=>by
  rw[f5.hold,nk,fk];split<;>omega
 have hfn:∀s,K.hold s≠0->S3 s=S s:=λs hs=>(hk.fn s (by rw[fT,fk];omega)).trans (Wq s (rM s hs));refine aF.mk .tail (.inr ⟨rfl,⟨K5,S3,[],LX,.inl rfl,⟨by rw[f5.n,f4.n,hk.n,g2.n,g1.n],by rw[f5.cap,f4.cap,hk.cap,g2.cap,g1.cap],n5,λg=>?_,hfn⟩⟩,x,PY,wv,.inr (.inr ⟨a,b,ha,hb,SN,by omega⟩)⟩);constructor
 ·rintro⟨s,hs,rfl⟩;have hs':K.hold s≠0:=by rw[<-n5];exact hs
  exact⟨s,hs',hfn s hs'⟩
 rintro⟨s,hs,rfl⟩;exact⟨s,by show K5.hold s≠0;rw[n5];exact hs,(hfn s hs).symm⟩
end
end
section
theorem B9{n:Nat}(hn:n<=16)(B:Hp):Rd zQ 382 #[iv (n:Int)] B (· =iv ((ak.wN n:Nat):Int)):=by
 refine aE λg=>HM ?_;have h1:1<<<n<=65536:=by rw[xa4];exact xaA (n:=2) zD hn
 refine ae.Cz (a:=1) (b:=n) (by simp[IntKind.bits];omega) (by simp[bA];omega) (ae.ic (b:=6) (by simp[bA];omega) (⟨_,_,_,rfl,rfl,?_⟩));refine br.mk (.refl _) ?_;have:1<<<n>>>6=2^n/64:=by rw[xa4,xaW]
 rw[this];congr 1;unfold ak.wN;rw[Nat.max_def];split<;>split<;>omega
theorem LZ{n:Nat}(hn:n<=16)(B:Hp):Rd zQ 383 #[iv (n:Int)] B (· =.int .u64 ((ak.dP n:Nat):Int)):=by
 refine aE λg=>HL (ae.s6 (a:=n) (b:=6) (Br.dec (λh=>?_) (λh=>?_)))
 ·exact br.mk (.refl _) (by unfold ak.dP;rw[xae h];rfl)
 have h1:2^n<=32:=xaA (n:=2) zD (by omega:n<=5);have h2:2^2^n<=2^32:=xaA zD h1;have h3:=xa6 (2^n);refine ae.kW (a:=1) (b:=n) ?_;rw[xa4,xbc zO];refine ae.kW (a:=1) ?_;rw[xa4,xbc zO];exact ae.bY (b:=1) (br.mk (.refl _) (by unfold ak.dP;rw[xac h]))
theorem NM{n:Nat}{ws:zL}(hn:n<=16)(hl:ws.length=ak.wN n)(hw:∀w∈ws,w<18446744073709551616){w:Nat}(hg:ws[ws.length-1]? =some w):
  (iJ w (ak.dP n)=0)↔ak.eY n ws:=by
 have key:∀w,w<18446744073709551616->(iJ w (ak.dP n)=0↔w<=ak.dP n):=by
  intro w hw;constructor
  ·intro h;have:w&&&ak.dP n=w:=by
    apply xaY;intro j;have:=xce (λx=>x.testBit j) h;simp only[cP,xcA]at this;rw[xbd];cases h1:w.testBit j<;>cases h2:(ak.dP n).testBit j<;>simp_all
   rw[<-this];exact xc9
  intro h;have:=ak.xg h;unfold iJ;rw[this,Nat.xor_self]
 constructor
 ·intro h;refine⟨hn,hl,λu hu=>?_⟩;by_cases h6:6<=n
  ·unfold ak.dP;rw[xae h6];have:=hw u hu;omega
  have h1:ws.length=1:=by rw[hl,ak.KX zO]
  obtain⟨x,rfl⟩:=List.length_eq_one_iff.1 h1;simp at hg hu;subst hg;subst hu;exact(key _ (hw _ zI)).1 h
 intro h;exact(key w (hw w (xaw hg))).2 (h.full w (xaw hg))
theorem D7{B:Hp}{v:zV}{t:Tb}(ht:Fa B v t):Rd zQ 384 #[v] B (· =.bool (decide (TF t))):=by
 obtain⟨tn,ws⟩:=t;obtain⟨s,rfl,hs,hw⟩:=ht;simp only at hs hw⊢;refine aE λg=>HK λb1 _ J hJ=>?_;have hno:¬TF ⟨tn,ws⟩->JE J [.bool true] ((b1,.cells (Value.cells (.agg #[iv tn,s])) 116 zZ)::B):=λh=>
  JE.mk (hJ _ _ λgs=>Br.yes (br.mk .tail (by rw[xak h])))
 refine DR.self ?_;refine ai.mk (Ld.mk zM rfl ?_);refine ae.lss (Br.dec (λh0=>hno λh=>by have:=h.1;simp only at this;omega) (λh0=>?_));obtain⟨n,rfl⟩:∃n:Nat,tn=n:=⟨tn.toNat,by omega⟩;have hTF:TF ⟨(n:Int),ws⟩↔ak.eY n ws:=by unfold TF;simp
 refine ai.mk (Ld.mk zM rfl ?_);refine ae.nq (b:=16) (aM.mk (Br.dec (λh1=>hno λh=>by have:=(hTF.1 h).ya;omega) (λh1=>?_)));refine ai.mk (Ld.mk zM rfl ?_);refine hs.bP ?_;refine ai.mk (Ld.mk zM rfl ?_);intro F;refine aa.eq (B9 zO B) (⟨(by repeat (first|exact aN.refl _|apply aN.cons|apply aN.skip|apply aN.c8|apply aN.gC)),?_⟩);rw[aq];refine ae.xU (aM.mk ?_);simp only[xag];by_cases hl:ws.length=ak.wN n
 case neg=>rw[show decide (ws.length≠ak.wN n)=true by simp[hl]];exact hno λh=>hl (hTF.1 h).len
 rw[show decide (ws.length≠ak.wN n)=false by simp[hl]];refine JE.mk (hJ _ _ λgs=>Br.no ?_);have hpos:=ak.Yw n;obtain⟨w,hg⟩:∃w,ws[ws.length-1]? =some w:=⟨_,xaa zO⟩;refine DR.self ?_;refine ai.mk (Ld.mk zM rfl ?_);refine ai.mk (Ld.mk zM rfl ?_);refine hs.bP ?_;rw[aq];refine ae.x5 (b:=1) (by have:=ak.yH (n:=n) zO;simp[bA];omega) zO (hs.ld (cL hg) zS ?_);refine ai.mk (Ld.mk zM rfl ?_);refine aa.eq (LZ zO B) (⟨(by repeat (first|exact aN.refl _|apply aN.cons|apply aN.skip|apply aN.c8|apply aN.gC)),?_⟩);refine ae.pV (by have:=hw w (xaw hg);simpa[bA]using this) (by have:=ak.rT n;simpa[bA]using this) (ae.dJ (b:=0) (br.mk .tail ?_));congr 1;exact xb8.2 ((NM zO hl hw hg).trans hTF.symm)
theorem D6{B:Hp}{v:zV}{ts:List Tb}(ht:jL B v ts)(cD:ts.length<2^62):Rd zQ 345 #[v] B (· =.bool (decide (∀t∈ts,TF t/\some t.n=ts.head?.map Tb.n))):=by
 refine aE λg=>Ii (ht.bP ?_);refine⟨λvs H=>bV B H/\∃k:Nat,vs=[iv (k:Int)]/\k<=ts.length/\∀i t,i<k->ts[i]? =some t->TF t/\some t.n=ts.head?.map Tb.n,λvs _=>ts.length-bJ vs 0,JE.mk ⟨.refl _,0,rfl,by omega,by omega⟩,?_⟩;rintro w H ⟨hg,k,⟨⟩,hk,aJ⟩ gs;refine ae.eZ (Br.dec (λhlt=>?_) (λhlt=>?_))
 ·obtain⟨t,nA⟩:∃t,ts[k]? =some t:=⟨_,xaa hlt⟩;obtain⟨t0,Wa⟩:∃t,ts[0]? =some t:=⟨_,xaa zO⟩;have hh:ts.head?.map Tb.n=some t0.n:=by rw[List.head?_eq_getElem?,Wa];rfl
  have htB:=ht.mono hg.sub;refine htB.ld nA (λ_ h=>h) λs hs=>?_;intro b1 _;refine St.p ?_ ?_
  ·obtain⟨a,c,rfl,_⟩:=hs.1.shape;simp[Value.oneCell']
  intro J hJ;have hno:∀H',bV B H'->¬(TF t/\some t.n=ts.head?.map Tb.n)->JE J [.bool true] H':=λH' X3 h=>
   JE.mk (hJ _ _ λgs=>Br.yes (br.mk X3.dK (by rw[xak];exact λhh=>h (hh t (xaw nA)))))
  have Uo:bV B ((b1,Obj.cells (List.toArray [iv t.n,s]) 116 zZ)::H):=.cons hg;refine DR.self (az.q ?_);intro F;refine aa.eq (B:=H) (D7 ⟨s,rfl,hs⟩) (⟨.refl _,Un.not ?_⟩);by_cases hT:TF t
  case neg=>rw[xak hT];exact Br.yes (hno _ Uo λh=>hT h.1)
  rw[xam hT];apply Br.no;refine ai.mk (Ld.mk zM rfl ?_);refine htB.ldN Wa zS ?_;refine ae.cO (aM.mk ?_);simp only[xag];by_cases hn:t.n=t0.n
  case neg=>rw[xam hn];exact hno _ Uo λh=>hn (by have:=h.2;rw[hh]at this;simpa using this)
  rw[xak (by simpa using hn)];refine JE.mk (hJ _ _ λgs=>Br.no ?_);refine ae.inc (aC.mk ⟨Uo,k+1,rfl,by omega,λi u hi hu=>?_⟩ (by simp[bJ];omega));by_cases e:i=k
  ·subst e;rw[nA]at hu;cases hu;exact⟨hT,by rw[hh,hn]⟩
  exact aJ i u zO hu
 refine br.mk hg.dK ?_;rw[xam];intro t htm;obtain⟨i,hi,rfl⟩:=xa9.1 htm;exact aJ i _ zO (xaa hi)
theorem wF{B:Hp}{b:Nat}{t:Tb}{s:zV}{T:TypeId}{fz:Nat×Nat}(hm:(b,Obj.cells #[iv t.n,s] T fz)∈B)(hw:Words B s t.ws):
  Rd zQ 345 #[.slice (some ⟨b,0,none⟩) 1 1] B (· =.bool (decide (TF t))):=
 (D6 (jL.one (cap:=0) hm hw) zI).mono λv H ⟨h1,h2⟩=>⟨h1,by rw[h2];congr 1;simp⟩
theorem abK{B:Hp}{v:zV}{t:Tb}(ht:Fa B v t)(u:Int):Rd zQ 404 #[v,iv u] B (· =iv (if TF t then(if 0<=u/\u<t.n then 0 else 2)else 5)):=by
 obtain⟨s,rfl,hw⟩:=ht;refine aE λg=>Ht λb1 _=>?_;refine az.q ?_;refine wY λb2=>?_;refine aa.rd .here (wF (by exact List.Mem.head _) (hw.mono zS)) ?_;rintro v rfl;apply Un.not;by_cases hT:TF t
 ·rw[xam hT,xae hT];refine Br.no (ae.lss (cm.or (decide (t.n<=u)) (λh=>?_) rfl ?_))
  ·refine ai.mk (Ld.mk zM rfl ?_);exact ae.geq ⟨rfl,rfl⟩
  intro gs;have hor:(decide (u<0)||decide (t.n<=u))=decide (¬(0<=u/\u<t.n)):=by
   by_cases h1:u<0<;>by_cases h2:t.n<=u<;>simp[h1,h2]<;>omega
  rw[hor];refine Br.dec (λh=>?_) (λh=>?_)
  ·exact br.mk (by repeat (first|exact aN.refl _|apply aN.cons|apply aN.skip|apply aN.c8|apply aN.gC)) (by rw[xac h])
  exact br.mk (by repeat (first|exact aN.refl _|apply aN.cons|apply aN.skip|apply aN.c8|apply aN.gC)) (by rw[xae (xdT.1 h)])
 rw[xak hT,xac hT];exact Br.yes (br.mk (by repeat (first|exact aN.refl _|apply aN.cons|apply aN.skip|apply aN.c8|apply aN.gC)) rfl)
theorem Ad{u i:Nat}(hu:u<64)(hi:i<18446744073709551616)(LP:i<9223372036854775808)(B:Hp):Rd zQ 344 #[iv (u:Int),iv (i:Int)] B
  (· =.int .u64 ((if 6<=u then(if(i>>>(u-6)).testBit 0 then 18446744073709551615 else 0)else ak.mask u:Nat):Int)):=by
 refine aE λg=>Ij (ae.s6 (a:=u) (b:=6) (Br.dec (λh=>?_) (λh=>?_)))
 ·refine bc.nat (by simpa[bA]using hi) (ae.x5 (b:=6) (by simp[bA];omega) h (ae.ic (by simpa[bA]using hi) ?_));have hs:i>>>(u-6)<18446744073709551616:=xau (xbo _ _) hi;refine ae.jj (b:=1) (by simpa[bA]using hs) zD (Un.abN (by rw[ak.gw];split<;>decide) ?_);refine br.mk (.refl _) ?_;rw[xae h,ak.gw];split<;>rfl
 refine⟨λvs H=>H=B/\∃j:Nat,vs=[.int .u64 ((ak.Bv u j:Nat):Int),iv (j:Int)]/\j<=64,λvs _=>64-bJ vs 1,JE.mk ⟨rfl,0,rfl,by omega⟩,?_⟩;rintro w1 w2 H ⟨rfl,j,⟨⟩,hj⟩ gs;refine ae.eZ (b:=64) (Br.dec (λhlt=>?_) (λhlt=>?_))
 ·refine ae.ic (by simp[bA];omega) ?_;have hs:j>>>u<64:=xau (xbo _ _) hlt;refine ae.jj (b:=1) (by simp[bA];omega) zD ?_;have h1:j>>>u&&&1<=1:=by rw[ak.gw];split<;>decide
  refine bc.q (ae.kW ?_);have h2:((j>>>u&&&1)<<<j)<18446744073709551616:=by
   rw[xco]
   calc _<=1*2^j:=xaZ _ h1
    _<2^64:=by rw[xdm];exact xbk zD hlt
  rw[xbc h2];have h3:ak.Bv u j<18446744073709551616:=xaN (ak.Bu u j) (xaA (n:=2) zD hj);exact ae.C9 (by simpa[bA]using h3) (by simpa[bA]using h2) (ae.inc (aC.mk ⟨rfl,j+1,rfl,by omega⟩ (by simp[bJ];omega)))
 have:j=64:=by omega
 subst this;exact br.mk (.refl _) (by rw[xac h];rfl)
theorem uI{n:Nat}(hn:n<=16){fv:zV}{f:FuncId}{first cap:Array zV}(Sk:fv=.func (.func f) first cap)(fN:aT zQ f=true){F:Nat->Nat}(hF:∀i,i<ak.wN n->F i<18446744073709551616){B:Hp}
 (hc:∀i:Nat,i<ak.wN n->Rd zQ f (first++ #[iv (i:Int)]++cap) B (· =.int .u64 ((F i:Nat):Int))):
  Px zQ 340 #[iv (n:Int),fv] B (λv H=>Fa H v ⟨n,(List.range (ak.wN n)).map λi=>F i&&&ak.dP n⟩):=by
 intro g;have hwl:=ak.yH hn;refine Im (R:=aF _) ?_;unfold L340;intro b1 _;refine aa.eq (B9 hn B) (cZ.ints (k8 hn).1 (k8 hn).2 λbw=>?_);refine Build.mk (cs:=[iv (n:Int),.slice (some ⟨bw,0,none⟩) (ak.wN n) (ak.wN n)]) zK λb8 _=>?_;refine St.q ?_;refine ai.mk (Ld.mk zM rfl ?_);refine aR.mk ?_;rw[range_zero (G:=λi=>F i&&&ak.dP n)];refine⟨λvs H=>∃i:Nat,vs=[iv (i:Int)]/\i<=ak.wN n/\H=(b8,.cells (List.toArray [iv (n:Int),.slice (some ⟨bw,0,none⟩) (ak.wN n) (ak.wN n)]) 116 zZ)::
   (bw,.cells (ay .u64 (iw ((List.range (ak.wN n)).map λk=>if k<i then F k&&&ak.dP n else 0))) 33 zZ)::(b1,.cells #[iv 0,.slice none 0 0] 116 zZ)::B,
  λvs _=>ak.wN n-bJ vs 0,JE.mk ⟨0,rfl,by omega,rfl⟩,?_⟩
 rintro w H ⟨i,⟨⟩,hi,rfl⟩ gs;refine ae.eZ (Br.dec (λhlt=>?_) (λhlt=>?_))
 ·refine DR.self ?_;refine ai.mk (Ld.mk zM rfl ?_);refine aL.of Sk fN ?_;refine aa.eq (hc i hlt) (⟨.refl _,?_⟩);refine aa.eq (LZ hn B) (⟨.refl _,?_⟩);refine ae.jj (by simpa[bA]using hF i hlt) (by simpa[bA]using ak.rT n) (av.nat hlt ?_);refine St.ints (l:=iw _) (by exact .tail (.head _)) (by simpa using hlt) ?_;refine ae.inc ?_;rw[No hlt];exact aC.mk ⟨i+1,rfl,by omega,rfl⟩ (by simp[bJ];omega)
 have:i=ak.wN n:=by omega
 subst this;rw[FK];refine az.q ?_;refine St.q ?_;refine az.q ?_;refine Hs.mk (by repeat (first|exact bV.refl _|apply bV.cons|apply bV.app)) ⟨_,rfl,?_⟩;have:=Words.block (b:=bw) (cap:=ak.wN n) (ws:=(List.range (ak.wN n)).map λi=>F i&&&ak.dP n) (T:=33) (fz:=(0,0)) (B:=(b8,.cells (List.toArray [iv (n:Int),.slice (some ⟨bw,0,none⟩) (ak.wN n) (ak.wN n)]) 116 zZ)::
  (bw,.cells (ay .u64 (iw ((List.range (ak.wN n)).map λi=>F i&&&ak.dP n))) 33 zZ)::(b1,.cells (List.toArray [iv (n:Int),.slice (some ⟨bw,0,none⟩) (ak.wN n) (ak.wN n)]) 116 zZ)::B) (by exact .tail _ (.head _)) zI (λw hw=>by
   obtain⟨k,_,rfl⟩:=xao.1 hw;exact xau xc9 (ak.rT n))
 simpa using this
theorem SI{B:Hp}{pv pb pa s:zV}{u n i:Nat}{c:Bool}{ws:zL}(hv:Go.Sx.At B pv [iv (u:Int)])(hb:Go.Sx.At B pb [.bool c])(ha:Go.Sx.At B pa [iv (n:Int),s])(hw:Words B s ws)(hf:ak.eY n ws)(hu:u<n)(hi:i<ak.wN n):
  Rd zQ 396 #[iv (i:Int),pv,pb,pa] B (· =.int .u64 ((ak.rQ ws u c i:Nat):Int)):=by
 intro g;have hn:=hf.ya;have hwl:=ak.yH hn;refine Hz (R:=aF _) ?_;unfold L396;refine Ld.at hv (λ_ h=>h) ?_;refine ae.s6 (a:=u) (b:=6) (Br.dec (λh6=>?_) (λh6=>?_))
 ·have hp:2^(u-6)<=1024:=xaA (n:=2) zD (by omega:u-6<=10);refine Ld.at hv (λ_ h=>h) ?_;refine ae.x5 (b:=6) (by simp[bA];omega) h6 (ae.Cz (a:=1) (by simp[IntKind.bits];omega) (by rw[xa4];simp[bA];omega) ?_);rw[xa4];refine ae.pV (by simp[bA];omega) (by simp[bA];omega) ?_;have hand:=fH i (2^(u-6));intro J hJ;have aci:ak.aB i (u-6) c<ak.wN n:=by
   rw[ak.KY zO]at hi⊢;exact ak.fX hi zO
  have ik:JE J [iv ((ak.aB i (u-6) c:Nat):Int)] B:=by
   refine JE.mk (hJ _ _ λgs=>?_);refine ai.at ha λq hq=>Ld.at hq (λ_ h=>h) ?_;have hg:ws[ak.aB i (u-6) c]? =some (ws.getD (ak.aB i (u-6) c) 0):=by rw[xaa (by rw[hf.len];exact aci),xar,xaa (by rw[hf.len];exact aci)];rfl
   refine hw.1.ld (cL hg) (λ_ h=>h) ?_;exact br.mk (.refl _) (by unfold ak.rQ;rw[xae h6])
  refine Ld.at hb (λ_ h=>h) ?_;cases c
  ·exact Br.no ik
  refine Br.yes (Ld.at hv (λ_ h=>h) ?_);refine ae.x5 (b:=6) (by simp[bA];omega) h6 (ae.Cz (a:=1) (by simp[IntKind.bits];omega) (by rw[xa4];simp[bA];omega) ?_);rw[xa4];refine ae.C9 (by simp[bA];omega) (by simp[bA];omega) ?_;have e:iJ i (2^(u-6))|||2^(u-6)=ak.aB i (u-6) true:=by
   apply xaY;intro k;rw[xb1,cP,ak.aj,xbB];by_cases e:k=u-6
   ·simp[e]
   simp[e,xbb e]
  rw[e];exact ik
 have hp:2^u<=32:=xaA (n:=2) zD (by omega:u<=5);have hg:ws[i]? =some (ws.getD i 0):=by rw[xaa (by rw[hf.len];exact hi),xar,xaa (by rw[hf.len];exact hi)];rfl
 have hwi:=hw.2 _ (xaw hg);have hm:=ak.rC u;refine DR.self (Ld.at hv (λ_ h=>h) (Ld.at hv (λ_ h=>h) ?_));refine ae.Cz (a:=1) (b:=u) (by simp[IntKind.bits];omega) (by rw[xa4];simp[bA];omega) ?_;rw[xa4];refine aa.eq (Ad (u:=u) (i:=0) zO zO zO B) ?_;rw[xac h6];refine⟨.refl _,?_⟩;refine Ld.at hb (λ_ h=>h) ?_;cases c
 ·refine Br.no (ai.at ha λq hq=>Ld.at hq (λ_ h=>h) ?_);refine hw.1.ld (cL hg) (λ_ h=>h) ?_;refine ae.pV (by simpa[bA]using hwi) (by simpa[bA]using hm) (ae.kW ?_);have:=fH (ws.getD i 0) (ak.mask u);exact ae.C9 (by simp only[bA];omega) (by simp only[bA];omega) (br.mk (.refl _) (by unfold ak.rQ;rw[xac h6];rfl))
 refine Br.yes (ai.at ha λq hq=>Ld.at hq (λ_ h=>h) ?_);refine hw.1.ld (cL hg) (λ_ h=>h) ?_;refine ae.jj (by simpa[bA]using hwi) (by simpa[bA]using hm) ?_;have h1:ws.getD i 0&&&ak.mask u<=ws.getD i 0:=xcj;refine ae.ic (by simp only[bA];omega) ?_;have h2:=xbo (ws.getD i 0&&&ak.mask u) (2^u);exact ae.C9 (by simp only[bA];omega) (by simp only[bA];omega) (br.mk (.refl _) (by unfold ak.rQ;rw[xac h6];rfl))
theorem Bj{B:Hp}{v:zV}{n u:Nat}{ws:zL}{c:Bool}(ht:Fa B v ⟨n,ws⟩)(hf:ak.eY n ws)(hu:u<n):
  Px zQ 387 #[v,iv (u:Int),.bool c] B (λv H=>Fa H v ⟨n,ak.iN n ws u c⟩):=by
 obtain⟨s,rfl,hw⟩:=ht;refine aE λg=>HG λb1 _ b3 _ b5 _ b7 _=>?_;refine ai.mk (Ld.mk zM rfl ?_);refine aa.px (.cons .here) (uI hf.ya rfl zK (F:=λi=>ak.rQ ws u c i) (λi hi=>?_) (λi hi=>?_)) ?_
 ·unfold ak.rQ;split
  ·by_cases h:ak.aB i (u-6) c<ws.length
   ·rw[xar,xaa h];exact hf.lt (xaF h)
   rw[xar,xaE zO];decide
  have hg:ws.getD i 0<2^64:=by rw[xar,xaa (by rw[hf.len];exact hi)];exact hf.lt (xaF _)
  split
  ·refine xbF (n:=64) (xau xcj hg) (xau (xbo _ _) (xau xcj hg))
  exact xbF (n:=64) (xau (fH _ _) hg) (xbG _ zD)
 ·exact SI (Go.Sx.At.block (l:=[iv (u:Int)]) zM) (Go.Sx.At.block (l:=[.bool c]) zM) (Go.Sx.At.block (l:=[iv (n:Int),s]) zM) (hw.mono zS) hf hu hi
 rintro v N ⟨s',rfl,eP⟩;refine St.p ?_ ?_
 ·have:=bO eP;simpa[Value.oneCell']using this
 refine az.q ?_;exact Hs.mk (by repeat (first|exact bV.refl _|apply bV.cons|apply bV.app)) ⟨s',rfl,eP.mono zS⟩
theorem K9{B:Hp}{v:zV}{n u:Nat}{ws:zL}{c:Bool}(ht:Fa B v ⟨n,ws⟩)(hf:ak.eY n ws)(hu:u<n):
  Px zQ 398 #[v,iv (u:Int),.bool c] B (λr H=>∃v',r=.tuple #[v',iv 0]/\Fa H v' ⟨n,ak.iN n ws u c⟩):=by
 obtain⟨s,rfl,hw⟩:=ht;refine aE λg=>Hx λb1 _ b3 _=>?_;refine az.q ?_;refine aa.eq (abK (t:=⟨n,ws⟩) ⟨s,rfl,hw.mono zS⟩ (u:Int)) ?_;rw[xae (show TF ⟨(n:Int),ws⟩from⟨by simp,by simpa using hf⟩),xae ⟨by omega,by simp only;omega⟩];refine ae.cO (Br.F (az.q ?_));refine aa.pq (Bj (v:=.agg (List.toArray [iv (n:Int),s])) ⟨s,rfl,hw.mono zS⟩ hf hu) ?_;rintro v N ⟨s',rfl,eP⟩;refine St.p ?_ ?_
 ·have:=bO eP;simpa[Value.oneCell']using this
 refine az.q ?_;exact Hs.mk (by repeat (first|exact bV.refl _|apply bV.cons|apply bV.app)) ⟨_,rfl,s',rfl,eP.mono zS⟩
theorem Et{w j:Nat}(hj:j<8):((List.range (j+1)).map λi=>UInt8.ofNat (w>>>(8*i)))=((List.range j).map λi=>UInt8.ofNat (w>>>(8*i)))++[UInt8.ofNat (w>>>(8*j))]:=by
 rw[xcl,xaH];rfl
theorem OB(l:List UInt8)(n:Nat):tf (l++[UInt8.ofNat n])=tf l++[[Value.int .u8 ((n%256:Nat):Int)]]:=by
 simp[tf]
theorem Gg{B:Hp}{v:zV}{t:Tb}(ht:Fa B v t)(hl:t.ws.length<=4294967296):Rd zQ 399 #[v] B (· =AI (ak.ij t.ws)):=by
 obtain⟨s,rfl,hw⟩:=ht;refine aE λg=>Hw λb1 _=>?_;refine ai.mk (Ld.mk zM rfl ?_);refine hw.1.bP ?_;rw[aq];refine⟨λvs H=>∃(k:Nat) (v:zV) (C:Hp),vs=[v,iv (k:Int)]/\k<=t.ws.length/\H=C++B/\aV 5 1 v (tf (ak.ij (t.ws.take k))) C,λvs _=>t.ws.length-bJ vs 1,
  JE.of (.tail) ⟨0,_,[],rfl,by omega,rfl,aV.nil _ _⟩,?_⟩
 rintro w6 w7 H ⟨k,v,C,⟨⟩,hk,rfl,ho⟩ gs;refine ae.eZ (Br.dec (λhlt=>?_) (λhlt=>?_))
 ·have hg:t.ws[k]? =some t.ws[k]:=xaa hlt;have hwk:=hw.2 _ (xaF hlt);refine hw.1.ld (cL hg) zS ?_;have hlen:(tf (ak.ij (t.ws.take k))).length=8*k:=by simp only[tf,xav,ak.tI,xbI];omega
  refine⟨λvs H=>∃(j:Nat) (v:zV) (C:Hp),vs=[v,iv (j:Int)]/\j<=8/\H=C++B/\aV 5 1 v (tf (ak.ij (t.ws.take k)++(List.range j).map λi=>UInt8.ofNat (t.ws[k]>>>(8*i)))) C,λvs _=>8-bJ vs 1,
   JE.mk ⟨0,_,C,rfl,by omega,rfl,by simpa using ho⟩,?_⟩
  rintro w8 w9 H ⟨j,v,C,⟨⟩,hj,rfl,ho⟩ gs;refine ae.eZ (b:=8) (Br.dec (λh8=>?_) (λh8=>?_))
  ·refine ae.yb (a:=8) (ae.ic (by simpa[bA]using hwk) (bc.ahD (au.int (e:=5) zK zK zK λxb=>?_)));refine ho.Hi (A:=[_]) (r:=[Value.int .u8 (((t.ws[k]>>>(8*j))%256:Nat):Int)]) (by exact .head _) rfl (by simp[Value.oneCell']) ⟨[.int .u8 0],rfl,rfl⟩ (by simp only[tf,xav,xaf,xaK]at hlen⊢;omega) (by simp only[tf,xav,xaf,xaK]at hlen⊢;omega) λv' C' cC=>?_;refine ae.inc (aC.of .tail ⟨j+1,_,C',rfl,by omega,rfl,?_⟩ (by simp[bJ];omega));rw[Et h8,<-xaj,OB];exact cC
  have:j=8:=by omega
  subst this;refine ae.inc (aC.mk ⟨k+1,_,C,rfl,by omega,rfl,?_⟩ (by simp[bJ];omega));rw[xba hlt,ak.ij,List.flatMap_append];simpa[ak.ij,ak.k8]using ho
 have:k=t.ws.length:=by omega
 subst this;rw[xbm]at ho;refine lg.own ho (λ_ h=>xad _ h) ?_;exact br.mk .right rfl
theorem aar{B:Hp}{b n:Nat}{es:Array MapEntry}{ck:Nat}{m:List (List UInt8×zL)}{v:zV}{ws:zL}(hE:gI n B es ck m)(ht:Fa B v ⟨n,ws⟩)(hf:ak.eY n ws):
  Fc zQ 397 #[.map (some b),v] ((b,.map es ck)::B) (λ_ H=>∃es' bD N,H=(b,.map es' bD)::(N++B)/\gI n (N++B) es' bD (AG m ws)):=by
 obtain⟨s,rfl,hw⟩:=ht;refine aE λg=>Hy λb1 _=>?_;refine DR.self (az.q ?_);refine az.q ?_;refine aa.eq (Gg (t:=⟨n,ws⟩) ⟨s,rfl,hw⟩ (uO hf)) (⟨.refl _,?_⟩);refine hE.bt (b:=b) ⟨s,rfl,hw⟩ hf λes' bD DY=>⟨_,.tail (.head _),?_⟩;exact aF.mk (nH:=(b,.map es' bD)::([]++B)) .tail ⟨es',bD,[],rfl,DY⟩
theorem Nz{B:Hp}{v:zV}{n:Nat}{ts:List Tb}{L:List (zL)}(ht:jL B v ts)(hL:ts=L.map λws=>⟨n,ws⟩)(hf:∀ws∈L,ak.eY n ws)(cD:L.length<4611686018427387904):
  Fc zQ 388 #[v] B (λr H=>∃b es ck m N,r=.map (some b)/\H=(b,.map es ck)::(N++B)/\gI n (N++B) es ck m/\∀x,x∈m.map Prod.snd↔x∈L):=by
 have hlen:ts.length=L.length:=by rw[hL];simp
 refine aE λg=>HE λb _=>?_;refine ht.bP ?_;rw[hlen];refine⟨λvs H=>∃(k:Nat) (es:Array MapEntry) (ck:Nat) (m:List (List UInt8×zL)) (N:Hp),vs=[iv (k:Int)]/\k<=L.length/\H=(b,.map es ck)::(N++B)/\gI n (N++B) es ck m/\∀x,x∈m.map Prod.snd↔x∈L.take k,
  λvs _=>L.length-bJ vs 0,JE.mk ⟨0,_,_,[],[],rfl,by omega,rfl,gI.empty _ _,by simp⟩,?_⟩
 rintro w H ⟨k,es,ck,m,N,⟨⟩,hk,rfl,hE,hm⟩ gs;refine ae.eZ (Br.dec (λhlt=>?_) (λhlt=>?_))
 ·have hg:ts[k]? =some ⟨n,L[k]⟩:=by rw[hL,xat,xaa hlt];rfl
  have pB:=hf L[k] (xaF hlt);refine ht.ld hg zS λs hw=>?_;intro b2 _;refine St.p ?_ ?_
  ·have:=bO hw;simpa[Value.oneCell']using this
  refine az.q ?_;refine aa.fq (aar hE ⟨s,rfl,hw.mono zS⟩ pB) ?_;rintro r C' ⟨es',bD,N',rfl,DY⟩;refine ae.inc (aC.of .tail ⟨k+1,es',bD,AG m L[k],N'++N,rfl,by omega,by rw[xaj],by rw[xaj];exact DY,λx=>?_⟩ (by simp[bJ];omega));rw[sq hE.2 pB,hm,xba hlt,xan,xaz]
 have:k=L.length:=by omega
 subst this;rw[xbm]at hm;exact aF.here ⟨b,es,ck,m,N,rfl,rfl,hE,hm⟩
theorem D4{B:Hp}{bm n u:Nat}{es:Array MapEntry}{ck:Nat}{m:List (List UInt8×zL)}(hm:(bm,Obj.map es ck)∈B)(hE:gI n B es ck m)(hu:u<n)(cD:m.length<4611686018427387904):
  Fc zQ 389 #[.map (some bm),iv (u:Int)] B (λr H=>∃b' es' bD m' N,r=.tuple #[.map (some b'),iv ((ak.nodes n (m.map Prod.snd) u).length:Int)]/\H=(b',.map es' bD)::(N++B)/\gI n (N++B) es' bD m'/\
   ∀x,x∈m'.map Prod.snd↔∃t∈m.map Prod.snd,∃c,x=ak.iN n t u c):=by
 refine aE λg=>HD ?_;intro b' _;refine .inr ⟨bm,es,ck,rfl,.tail _ hm,λbi _=>?_⟩;refine⟨λvs H=>∃(es':Array MapEntry) (bD:Nat) (m':List (List UInt8×zL)) (seen:Array Nat) (N:Hp) (D:List (zL)),vs=[iv ((ak.nodes n D u).length:Int)]/\
   H=(bi,.mapIter (some bm) ck seen ck)::(b',.map es' bD)::(N++B)/\gI n (N++B) es' bD m'/\(m.map Prod.snd).Perm (D++(bT es m seen).map Prod.snd)/\∀x,x∈m'.map Prod.snd↔∃t∈D,∃c,x=ak.iN n t u c,
  λvs H=>match H with|(_,.mapIter _ _ seen _)::_=>(bT es m seen).length|_=>0,JE.mk ⟨_,_,[],_,[],[],rfl,rfl,gI.empty _ _,?_,by simp⟩,?_⟩
 ·rw[mI hE.1];simp
 rintro w H ⟨es',bD,m',seen,N,D,⟨⟩,rfl,DY,dh,hmem⟩ gs;have hbm:∀{X:Hp},(bm,Obj.map es ck)∈X++B:=xab _ hm;refine hE.1.next (.tail _ (.tail _ hbm)) (.head _) (λe x seen' he hkey hval hstep ac5 hfind=>⟨_,.head _,?_⟩) (λGs=>?_)
 ·obtain⟨bs,ws⟩:=x;simp only at hval hkey;refine Ext.mk rfl (Br.yes (⟨bi,bm,ck,seen',e.born,ck,es,e,rfl,.head _,ac5,.tail _ (.tail _ hbm),hfind,?_⟩));refine Ext.mk rfl ?_;have hx:(bs,ws)∈m:=by
   have h:=hstep.mem_iff.2 (xbK (a:=(bs,ws)));unfold bT at h;obtain⟨p,hp,iX⟩:=xao.1 h;rw[<-iX];exact(xdE (xbD.1 hp).1).2
  obtain⟨hbs,hf⟩:=hE.2 _ hx;simp only at hbs hf;obtain⟨s,hes,hw⟩:=hval;rw[hes];have hone:=bO hw;intro b1 _;refine St.p (by simpa[Value.oneCell']using hone) ?_;refine az.q ?_;refine aa.pq (B:=N++B) (K9 (n:=n) (ws:=ws) ⟨s,rfl,hw.mono zS⟩ hf hu) ?_;rintro r N1 ⟨v1,rfl,s1,rfl,jg⟩;have acs:=bO jg;refine Ext.two λb2 _=>(St.p (by simpa[Value.oneCell']using acs) ?_);refine az.q ?_;refine aa.pq (B:=N1++(N++B)) (K9 (n:=n) (ws:=ws) ⟨s,rfl,hw.mono zS⟩ hf hu) ?_;rintro r N2 ⟨v2,rfl,s2,rfl,o6⟩;have acr:=bO o6;refine Ext.two λb3 _=>(St.p (by simpa[Value.oneCell']using acr) ?_);refine DR.self (az.q ?_);refine az.q ?_;have f1:=ak.eB (v:=u) (ws:=ws) (b:=false) hf.ya;have f2:=ak.eB (v:=u) (ws:=ws) (b:=true) hf.ya;refine aa.eq (B:=N2++(N1++(N++B))) (Gg (t:=⟨n,ak.iN n ws u false⟩) ⟨s1,rfl,jg.mono zS⟩ (uO f1)) (⟨.refl _,?_⟩);refine aa.eq (B:=N2++(N1++(N++B))) (Gg (t:=⟨n,ak.iN n ws u true⟩) ⟨s2,rfl,o6⟩ (uO f2)) (⟨.refl _,?_⟩);intro J hJ;have Bf:(ak.ij (ak.iN n ws u false)≠ak.ij (ak.iN n ws u true))↔ak.dep n ws u=true:=by
   simp only[ak.dep,ne_eq,xaJ];exact not_congr ⟨λh=>f1.key_inj f2 h,λh=>by rw[h]⟩
  have ik:JE J [iv ((ak.nodes n (D++[ws]) u).length:Int)] ((b3,.cells (List.toArray [iv (n:Int),s2]) 116 zZ)::(b2,.cells (List.toArray [iv (n:Int),s1]) 116 zZ)::
    (b1,.cells (List.toArray [iv (n:Int),s]) 116 zZ)::(bi,.mapIter (some bm) ck seen' ck)::(b',.map es' bD)::(N2++(N1++(N++B)))):=by
   refine JE.mk (hJ _ _ λgs=>?_);refine DR.of (R:=(b3,.cells (List.toArray [iv (n:Int),s2]) 116 zZ)::(b2,.cells (List.toArray [iv (n:Int),s1]) 116 zZ)::[]) ?_ ?_
   ·exact .cons (.cons (λg w h=>(Own.left (B:=_) (A:=[]) h)))
   refine az.q ?_;refine az.q ?_;have sW:=DY.mono (B':=N2++(N1++(N++B))) zS;refine sW.bt (b:=b') (ws:=ak.iN n ws u false) ⟨s1,rfl,jg.mono zS⟩ f1 λgV iH PW=>⟨_,.tail (.tail (.tail (.tail (.head _)))),?_⟩;refine⟨.cons (.cons (λg w h=>(Own.left (B:=_) (A:=[]) h))),?_⟩;refine PW.bt (b:=b') (ws:=ak.iN n ws u true) ⟨s2,rfl,o6⟩ f2 λpg qU hE4=>⟨_,.tail (.tail (.tail (.tail (.head _)))),?_⟩;refine aC.of (H':=(bi,.mapIter (some bm) ck seen' ck)::(b',.map pg qU)::((N2++(N1++N))++B)) ?_ ⟨pg,qU,AG (AG m' (ak.iN n ws u false)) (ak.iN n ws u true),seen',N2++(N1++N),D++[ws],rfl,rfl,?_,?_,λx=>?_⟩ ?_
   ·refine .skip (.skip (.skip (.cons (.cons ?_))));intro g w h;rw[xaj,xaj];exact h
   ·rw[xaj,xaj];exact hE4
   ·refine dh.trans ?_;refine(xbZ D (hstep.map Prod.snd)).trans ?_;simp only[xaC,xaj,xaP,xb4];exact .refl _
   ·rw[sq PW.2 f2,sq sW.2 f1,hmem];constructor
    ·rintro((⟨t,ht,c,rfl⟩|rfl)|rfl)
     ·exact⟨t,by simp[ht],c,rfl⟩
     ·exact⟨ws,by simp,_,rfl⟩
     exact⟨ws,by simp,_,rfl⟩
    rintro⟨t,ht,c,rfl⟩;rcases xan.1 ht with ht|ht
    ·exact .inl (.inl ⟨t,ht,c,rfl⟩)
    simp at ht;subst ht;cases c
    ·exact .inl (.inr rfl)
    exact .inr rfl
   have:=hstep.length_eq;simp only[xaB]at this⊢;omega
  refine ae.abw (Br.dec (λh=>?_) (λh=>?_))
  ·refine ae.Xg (b:=1) ?_ ?_
   ·have h1:=dh.length_eq;simp only[xav,xaf]at h1;have h2:(ak.nodes n D u).length<=D.length:=xb2 _ _;simp[bA];omega
   have:(ak.nodes n (D++[ws]) u).length=(ak.nodes n D u).length+1:=by
    simp[ak.nodes,xb6,Bf.1 h]
   rw[this]at ik;exact ik
  have:(ak.nodes n (D++[ws]) u).length=(ak.nodes n D u).length:=by
   have hd:ak.dep n ws u=false:=by cases hh:ak.dep n ws u;rfl;exact absurd (Bf.2 hh) h
   simp[ak.nodes,xb6,hd]
  rw[this]at ik;exact ik
 refine Ext.mk rfl (Br.no ?_);rw[Gs]at dh;simp only[xb9,xaL]at dh;refine aF.mk (nH:=(b',.map es' bD)::(N++B)) .tail ⟨b',es',bD,m',N,?_,rfl,DY,λx=>?_⟩
 ·rw[ak.mT dh]
 rw[hmem];constructor
 ·rintro⟨t,ht,h⟩;exact⟨t,dh.mem_iff.2 ht,h⟩
 rintro⟨t,ht,h⟩;exact⟨t,dh.mem_iff.1 ht,h⟩
theorem M9{B:Hp}{v:zV}{ts:List Tb}(ht:jL B v ts)(cD:ts.length<2^62):Rd zQ 385 #[v] B (· =.bool (decide (∀t∈ts,TF t/\some t.n=ts.head?.map Tb.n))):=by
 intro g;refine HJ (R:=aF _) ?_;unfold L385;refine ht.bP ?_;refine⟨λvs H=>bV B H/\∃k:Nat,vs=[iv (k:Int)]/\k<=ts.length/\∀i t,i<k->ts[i]? =some t->TF t/\some t.n=ts.head?.map Tb.n,λvs _=>ts.length-bJ vs 0,JE.mk ⟨.refl _,0,rfl,by omega,by omega⟩,?_⟩;rintro w H ⟨hg,k,hv,hk,aJ⟩ gs;simp only[xax,xa0]at hv;subst hv;refine ae.eZ (Br.dec (λhlt=>?_) (λhlt=>?_))
 ·obtain⟨t,nA⟩:∃t,ts[k]? =some t:=⟨_,xaa hlt⟩;obtain⟨t0,Wa⟩:∃t,ts[0]? =some t:=⟨_,xaa zO⟩;have hh:ts.head?.map Tb.n=some t0.n:=by rw[List.head?_eq_getElem?,Wa];rfl
  have htB:=ht.mono hg.sub;refine htB.ld nA (λ_ h=>h) λs hs=>?_;intro b1 _;refine St.whole (r:=[iv t.n,s]) (by exact dg.head _) rfl rfl ?_ ?_
  ·obtain⟨a,c,rfl,_⟩:=hs.1.shape;simp[Value.oneCell']
  intro J hJ;have hno:∀H',bV B H'->¬(TF t/\some t.n=ts.head?.map Tb.n)->JE J [.bool true] H':=λH' X3 h=>
   JE.mk (hJ _ _ λgs=>Br.yes (br.mk X3.dK (by rw[xak];exact λhh=>h (hh t (xaw nA)))))
  have Uo:bV B ((b1,Obj.cells (List.toArray [iv t.n,s]) 116 zZ)::H):=.cons hg;refine DR.self ?_;refine az.whole (r:=[iv t.n,s]) (by exact List.Mem.head _) rfl ?_;intro F;refine aa.rd (B:=H) (.cons .here) (D7 ⟨s,rfl,hs⟩) ?_;rintro v rfl;refine⟨.refl _,Un.not ?_⟩;by_cases hT:TF t
  case neg=>rw[xak hT];exact Br.yes (hno _ Uo λh=>hT h.1)
  rw[xam hT];apply Br.no;refine ai.mk (Ld.mk zM rfl ?_);refine htB.ldN Wa zS ?_;refine ae.cO (aM.mk ?_);simp only[xag];by_cases hn:t.n=t0.n
  case neg=>rw[xam hn];exact hno _ Uo λh=>hn (by have:=h.2;rw[hh]at this;simpa using this)
  rw[xak (by simpa using hn)];refine JE.mk (hJ _ _ λgs=>Br.no ?_);refine ae.Xg (b:=1) (by simp[bA];omega) ?_;refine aC.mk ⟨Uo,k+1,rfl,by omega,λi u hi hu=>?_⟩ (by simp[bJ];omega);by_cases e:i=k
  ·subst e;rw[nA]at hu;cases hu;exact⟨hT,by rw[hh,hn]⟩
  exact aJ i u zO hu
 refine br.mk hg.dK ?_;rw[xam];intro t htm;obtain⟨i,hi,rfl⟩:=xa9.1 htm;exact aJ i _ zO (xaa hi)
def r9(ts:List Tb):Prop:=∀t∈ts,TF t/\some t.n=ts.head?.map Tb.n
instance (ts:List Tb):Decidable (r9 ts):=by unfold r9;infer_instance
theorem vy{B:Hp}{v:zV}{ts:List Tb}(ht:jL B v ts)(cD:ts.length<2^62):Rd zQ 385 #[v] B (· =.bool (decide (r9 ts))):=M9 ht cD
theorem Df{n:Nat}{L:List (zL)}(hf:∀ws∈L,ak.eY n ws):r9 (L.map λws=>⟨n,ws⟩):=by
 intro t ht;obtain⟨ws,hws,rfl⟩:=xao.1 ht;refine⟨⟨by simp,by simpa using hf ws hws⟩,?_⟩;cases L with
 |nil=>simp at hws
 |cons a b=>rfl
theorem Ly{ts:List Tb}(h:r9 ts)(hne:ts≠[]):∃(n:Nat) (L:List (zL)),n<=16/\ts=L.map (λws=>⟨n,ws⟩)/\L≠[]/\∀ws∈L,ak.eY n ws:=by
 cases ts with
 |nil=>exact absurd rfl hne
 |cons t r=>
  have ht:=(h t zI).1;have hn:∀u∈t::r,u.n=t.n:=λu hu=>by have:=(h u hu).2;simpa using this
  refine⟨t.n.toNat,(t::r).map Tb.ws,ht.2.ya,?_,by simp,λws hws=>?_⟩
  ·rw[xbO]
   conv=>lhs;rw[<-xeg (t::r)]
   apply xbj;intro u hu;have h1:=hn u hu;have h2:=ht.1;obtain⟨un,uw⟩:=u;simp only[Function.comp,id]at h1⊢;congr 1;omega
  obtain⟨u,hu,rfl⟩:=xao.1 hws;have:=(h u hu).1.2;rwa [hn u hu]at this
end
end Go.Proofs
namespace ax
theorem Rm.sY(m:Rm):∀ls ord,m.dO 0 ls ord=ls.take (m.dO 0 ls ord).length
 | [],_=>rfl
 |c::cs,ord=>by
  by_cases hf:m.fit ord (0+c)=true
  ·have:=m.sY cs (fR ord (0+c));rw[dO,xae hf,xaB,xd8,<-this,xa5]
  rw[dO,xac hf];simp
def Rm.can(m:Rm)(ord ls:zL):Bool:=decide ((m.dO 0 ls ord).length=ls.length)
theorem Rm.SV(m:Rm){ord ls:zL}{i:Nat}(hi:i<(m.dO 0 ls ord).length){l:Nat}(hl:ls[i]? =some l):m.fit (aA ord (ls.take i)) l=true:=by
 obtain⟨_,c,h1,h2⟩:=m.rR 0 ls ord i hi;rw[hl]at h1;cases h1;rw[m.sY,List.take_take,xcG (xca hi),xa5]at h2;exact h2
theorem Rm.Oc(m:Rm){ord ls:zL}{l:Nat}(hl:ls[(m.dO 0 ls ord).length]? =some l):m.fit (aA ord (ls.take (m.dO 0 ls ord).length)) l=false:=by
 have:=m.wB 0 ls ord l hl;rw[xa5]at this;rw[<-m.sY];exact this
def road(a b:Nat):zL:=List.range' a (b-a)++(List.range' b (a-b)).reverse
theorem vz(a b:Nat):(road a b).length=(b-a)+(a-b):=by simp[road]
theorem QY{a b l n:Nat}(ha:a<n)(hb:b<n)(h:l∈road a b):l+1<n:=by
 unfold road at h;rcases xan.1 h with h|h
 ·rw[xen]at h;omega
 rw[List.mem_reverse,xen]at h;omega
theorem kK{α:Type}[DecidableEq α]:∀{l p:List α},l.Nodup->(∀x∈l,x∈p)->p.length<=l.length->l.Perm p
 | [],p,_,_,h=>by
  have:p=[]:=xcP.1 (by simpa using h);subst this;exact .refl _
 |x::t,p,hn,hs,hl=>by
  have hx:=hs x zI;have hp:=List.perm_cons_erase hx;have hlen:(p.erase x).length=p.length-1:=List.length_erase_of_mem hx;have hpos:=List.length_pos_of_mem hx;refine(List.Perm.cons x (kK (xaX.1 hn).2 (λy hy=>?_) (by simp only[xaB]at hl;omega))).trans hp.symm;refine(List.mem_erase_of_ne λe=>?_).2 (hs y (by simp[hy]));subst e;exact(xaX.1 hn).1 hy
end ax
set_option maxRecDepth 100000
namespace Go.Proofs
open Go Go.Sx
open ax
theorem DF{l:zL}(h:l.Nodup):(iw l).Nodup:=xcc.2 (h.imp λhne e=>hne (Int.ofNat.inj e))
theorem tj{p:List Int}:tW p↔p.Perm (iw (List.range p.length)):=by
 constructor
 ·intro h;refine(kK (DF xbi) (λx hx=>?_) (by rw[aq,xaK];exact xai _)).symm;obtain⟨k,hk,rfl⟩:=xao.1 hx;exact h k (xaM.1 hk)
 intro h v hv;exact h.mem_iff.2 (xao.2 ⟨v,xaM.2 hv,rfl⟩)
theorem TY{p:List Int}(hn:p.Nodup)(h:∀x∈p,0<=x/\x<(p.length:Int)):tW p:=by
 refine tj.2 (kK hn (λx hx=>?_) (by rw[aq,xaK];exact xai _));obtain⟨h1,h2⟩:=h x hx;exact xao.2 ⟨x.toNat,xaM.2 zO,by show((x.toNat:Nat):Int)=x;omega⟩
theorem TZ{p:List Int}(h:tW p){x:Int}(hx:x∈p):0<=x/\x<(p.length:Int):=by
 have:=(tj.1 h).mem_iff.1 hx;obtain⟨k,hk,rfl⟩:=xao.1 this;have:=xaM.1 hk;show(0:Int)<=(k:Int)/\(k:Int)<_;omega
theorem EF{p:List Int}(h:tW p):p.Nodup:=(tj.1 h).nodup_iff.2 (DF xbi)
theorem QJ{p:List Int}{i n W:Nat}(hi:i<p.length)(hn:p[i]=(n:Int))(hw:n<W):((List.range W).map λk=>decide (((k:Nat):Int)∈p.take i)).set n true=(List.range W).map λk=>decide (((k:Nat):Int)∈p.take (i+1)):=by
 apply xbg;intro j;rw[xba hi,hn];by_cases hj:j<W
 ·by_cases e:n=j
  ·subst e;rw[xbL (by simpa using hw)];simp[hw]
  rw[xbJ e];simp only[xat,xdC hj,xck,xan,xaz];congr 1;have:¬((j:Nat):Int)=(n:Int):=by omega
  simp[this]
 rw[xaE zP,xaE zP]
theorem M6{p:List Int}{W:Nat}:List.replicate W false=(List.range W).map λk=>decide (((k:Nat):Int)∈p.take 0):=by
 apply xbg;intro j;by_cases hj:j<W
 ·simp[hj]
 rw[xaE zP,xaE zP]
theorem sG{B:Hp}{v:zV}{p:List Int}(h:dF .i64 B v p)(cD:p.length<=70368744177664):Rd zQ 283 #[v] B (λr=>(r=iv 0/\tW p/\p.length<=64)\/(r=iv 13/\tW p/\64<p.length)\/(r=iv 4/\¬tW p)):=by
 refine aE λg=>I0 (h.bP (cZ.TG zO λb=>h.bP ?_));rw[M6 (p:=p)];refine⟨λvs H=>∃i:Nat,vs=[iv (i:Int)]/\H=(b,.cells (fo ((List.range p.length).map λk=>decide (((k:Nat):Int)∈p.take i))) 4 zZ)::B/\i<=p.length/\(p.take i).Nodup/\∀x∈p.take i,0<=x/\x<(p.length:Int),λvs _=>p.length-bJ vs 0,
  JE.mk ⟨0,rfl,rfl,xaO _,by simp,by simp⟩,?_⟩
 rintro w H ⟨i,⟨⟩,rfl,hi,fc,hin⟩ gs;refine ae.eZ (Br.dec (λhlt=>?_) (λhlt=>?_))
 ·refine h.ld (xaa hlt) (λ_ h=>.tail _ h) ?_;obtain⟨x,hx⟩:∃x,p[i]=x:=⟨_,rfl⟩;have hxm:x∈p:=by rw[<-hx];exact xaF hlt
  rw[hx];have hB:=ER.block (b:=b) (cap:=p.length) (l:=(List.range p.length).map λk=>decide (((k:Nat):Int)∈p.take i)) (T:=4) (fz:=(0,0)) (B:=(b,.cells (fo ((List.range p.length).map λk=>decide (((k:Nat):Int)∈p.take i))) 4 zZ)::B) (.head _) zI;rw[xav,xaK]at hB;refine ae.lss (cm.or (decide ((p.length:Int)<=x)) (λ_=>h.bP (ae.geq ⟨rfl,rfl⟩)) zI λgs=>?_);rw[<-xa8];refine cm.or (decide (x∈p.take i)) (λhno=>?_) zI λgs=>?_
  ·have DP:=xdh hno;obtain⟨n,rfl⟩:∃n:Nat,x=n:=⟨x.toNat,by omega⟩;refine hB.ld (b:=decide (((n:Nat):Int)∈p.take i)) ?_ (λ_ h=>h) ⟨rfl,rfl⟩;rw[xat,xdC zO];rfl
  rw[<-xa8];refine Br.dec (λagL=>br.mk .tail (.inr (.inr ⟨rfl,λha=>?_⟩))) (λacP=>?_)
  ·have h1:=TZ ha hxm;rcases agL with hb|hb
   ·omega
   have h2:=EF ha;rw[<-xbt i p,xa2]at h2;refine h2.2.2 x hb x ?_ rfl;rw[xbu hlt,hx];exact .head _
  obtain⟨n,rfl⟩:∃n:Nat,x=n:=⟨x.toNat,by omega⟩;refine av.nat zO ?_;refine St.TG (l:=(List.range p.length).map λk=>decide (((k:Nat):Int)∈p.take i)) (.head _) zP ?_;rw[QJ hlt hx zO];refine ae.inc (aC.mk ⟨i+1,rfl,rfl,hlt,?_,λx Gn=>?_⟩ (by simp only[bJ];omega))
  ·rw[xba hlt,hx,xa2];exact⟨fc,by simp,λa ha b hb e=>by simp at hb;subst hb;subst e;exact acP (.inr ha)⟩
  rw[xba hlt,hx,xan,xaz]at Gn;rcases Gn with Gn|rfl
  ·exact hin x Gn
  omega
 obtain rfl:i=p.length:=by omega
 rw[xbm]at fc hin;have aJ:=TY fc hin;refine h.bP (ae.nq (b:=64) (Br.dec (λhg=>br.mk .tail (.inr (.inl ⟨rfl,aJ,hg⟩))) (λhg=>br.mk .tail (.inl ⟨rfl,aJ,by omega⟩))))
theorem M3{B:Hp}{v:zV}{p:List Int}{x:Int}(h:dF .i64 B v p)(cD:p.length<4611686018427387904):Rd zQ 351 #[v,iv x] B (· =iv (if x∈p then((p.idxOf x:Nat):Int)else-1)):=by
 refine aE λg=>Ia (h.bP ?_);refine⟨λvs H=>∃i:Nat,vs=[iv (i:Int)]/\H=B/\i<=p.length/\x∉p.take i,λvs _=>p.length-bJ vs 0,JE.mk ⟨0,rfl,rfl,xaO _,by simp⟩,?_⟩;rintro w H ⟨i,⟨⟩,rfl,hi,hq⟩ gs;refine ae.eZ (Br.dec (λhlt=>?_) (λhlt=>?_))
 ·refine h.ld (xaa hlt) (λ_ h=>h) ?_;refine ae.gX (Br.dec (λhe=>br.mk (.refl _) ?_) (λhe=>?_))
  ·rw[xae (by rw[he];exact xaF hlt),RR hq hlt he.symm]
  refine ae.inc (aC.of (.refl _) ⟨i+1,rfl,rfl,hlt,?_⟩ (by simp only[bJ];omega));rw[xba hlt,xan,xaz];rintro(h|h)
  ·exact hq h
  exact he h
 refine br.mk (.refl _) ?_;rw[xcw zO]at hq;rw[xac hq]
theorem W6{B:Hp}{v1 v2:zV}{p q:zL}{n:Nat}(h1:dF .i64 B v1 (iw p))(h2:dF .i64 B v2 (iw q))(hp:p.Perm (List.range n))(hq:q.Perm (List.range n))(hn:n<=64):Rd zQ 350 #[v1,v2] B (· =iv 0):=by
 have e1:p.length=n:=by rw[hp.length_eq,xaK]
 have e2:q.length=n:=by rw[hq.length_eq,xaK]
 refine aE λg=>Ib (aa.rq (sG h1 (by rw[aq];omega)) ?_);rintro v (⟨rfl,_,_⟩|⟨_,_,hl⟩|⟨_,hno⟩);rotate_left
 ·rw[aq]at hl;omega
 ·exact absurd (xk hp) hno
 refine aa.rq (sG h2 (by rw[aq];omega)) ?_;rintro v (⟨rfl,_,_⟩|⟨_,_,hl⟩|⟨_,hno⟩);rotate_left
 ·rw[aq]at hl;omega
 ·exact absurd (xk hq) hno
 refine ae.gX (cm.or false (λ_=>ae.gX ⟨rfl,rfl⟩) rfl λgs=>?_);refine cm.or false (λ_=>?_) rfl λgs=>Br.no ?_
 ·refine h1.bP (h2.bP (ae.xU ⟨rfl,?_⟩));rw[aq,aq,xak zO]
 exact⟨.i64,0,0,rfl,rfl,br.mk (.refl _) rfl⟩
end Go.Proofs
namespace Go.Sx
open Go
section
variable {P:Program} {g:Gh} {H:Hp}
theorem au.YR{t e:TypeId}{z:zV}{a b c d x y:zV}{K:zV->Hp->Prop}(h1:P.underlying t=some (.slice e))(h2:dL P e=some 2)(h3:fK P e=some z)
 (h:∀u,K (.slice (some ⟨u,0,Option.none⟩) 3 3) ((u,.cells (rows [[a,b],[c,d],[x,y]]) e zZ)::H)):au P t 3 [(0,.agg #[a,b]),(1,.agg #[c,d]),(2,.agg #[x,y])] H K:=by
 refine⟨rows [[a,b],[c,d],[x,y]],e,2,z,h1,h2,h3,by decide,?_,λb _=>h b⟩;have e1:Array.range (3*2)=#[0,1,2,3,4,5]:=rfl;simp[Instr.fill,Value.cells,rows,e1]
theorem aV.made{T:TypeId}{k b:Nat}(rs:List (List zV))(h:∀r∈rs,r.length=k):aV T k (.slice (some ⟨b,0,none⟩) rs.length rs.length) rs [(b,.cells (rows rs) T zZ)]:=
 .inr ⟨b,[],by simp,by simp,by simpa using h⟩
end
end Go.Sx
namespace ax
open ak
variable {n:Nat} {F:Nat->Nat} {ws us rs:zL}
def zh(n:Nat)(F:Nat->Nat):zL:=(List.range (wN n)).map λi=>F i&&&dP n
theorem sL(hn:n<=16):eY n (zh n F):=by
 refine⟨hn,by simp[zh],λw hw=>?_⟩;obtain⟨i,_,rfl⟩:=xao.1 hw;exact xc9
theorem NN{x:Nat}(hx:x<2^n):bit (zh n F) x=(F (x/64)).testBit (x%64):=by
 have hi:=Dw hx;unfold bit;have gT:(zh n F).getD (x/64) 0=F (x/64) &&&dP n:=by simp[zh,hi]
 rw[gT,xbd,mL];have hfb:decide (x%64<if 6<=n then 64 else 2^n)=true:=by
  rw[xaJ];split
  ·exact xbG _ zD
  have h1:2^n<=32:=xaA (n:=2) zD (by omega:n<=5);omega
 rw[hfb,xdW]
theorem wH{f:Fn}(h:∀x,x<2^n->(F (x/64)).testBit (x%64)=f x)(hf:∀x,f (x%2^n)=f x):pE n (zh n F)=f:=by
 funext x
 unfold pE;have hx:x%2^n<2^n:=xbG _ (xa6 n);rw[NN hx,h _ hx,hf]
theorem Bo(x:Nat):pE n ws (x%2^n)=pE n ws x:=by unfold pE;rw[Nat.mod_mod]
theorem uV{x:Nat}(hx:x<2^n):(ws.getD (x/64) 0).testBit (x%64)=pE n ws x:=by
 unfold pE bit;rw[xbc hx]
theorem De{j:Nat}(hj:j<64):(18446744073709551615:Nat).testBit j=true:=by
 have:(18446744073709551615:Nat)=2^64-1:=by decide
 rw[this,xcU];simpa using hj
theorem Vt{w j:Nat}(hw:w<18446744073709551616)(hj:j<64):(18446744073709551615-w).testBit j= !w.testBit j:=by
 have e:(18446744073709551615-w)=2^64-(w+1):=by
  have:(2:Nat)^64=18446744073709551616:=by decide
  omega
 rw[e,xds (by
  have:(2:Nat)^64=18446744073709551616:=by decide
  omega)]
 simp[hj]
end ax
set_option maxRecDepth 100000
namespace Go.Proofs
open Go Go.Sx
section
open ax
section
variable {B:Hp}
def kF(B:Hp)(v:zV)(n:Nat)(f:ax.Fn):Prop:=∃ws,Fa B v ⟨n,ws⟩/\ak.eY n ws/\pE n ws=f
theorem kF.mono{B B':Hp}{v:zV}{n:Nat}{f:ax.Fn}(h:kF B v n f)(hs:∀x∈B,x∈B'):kF B' v n f:=let ⟨ws,h1,h2,h3⟩:=h;⟨ws,h1.mono hs,h2,h3⟩
theorem El{n:Nat}(hn:n<=16)(B:Hp):Rd zQ 339 #[iv (n:Int)] B (· =iv 0):=by
 exact aE λg=>Io (ae.lss (Br.F (ae.nq (b:=16) (Br.F (br.mk (.refl _) rfl)))))
theorem Fq{b:Bool}{p:zV}{i:Int}(hb:Go.Sx.At B p [.bool b]):Rd zQ 341 #[iv i,p] B (· =.int .u64 (((if b then 18446744073709551615 else 0:Nat)):Int)):=by
 refine aE λg=>Il (Ld.at hb (λ_ h=>h) ?_);cases b
 ·exact Br.no (br.mk (.refl _) rfl)
 exact Br.yes (br.mk (.refl _) rfl)
theorem yK{n:Nat}(hn:n<=16)(b:Bool)(B:Hp):Px zQ 275 #[iv (n:Int),.bool b] B (λr H=>∃v,r=.tuple #[v,iv 0]/\kF H v n (λ_=>b)):=by
 refine aE λg=>I7 λb1 _ b3 _=>?_;refine aa.eq (El hn _) (ae.cO (Br.F (aa.pq (uI hn rfl zK (F:=λ_=>if b then 18446744073709551615 else 0) (λi _=>by cases b<;>decide) (B:=(b1,.cells #[.bool b] 4 zZ)::B) λi _=>Fq (Go.Sx.At.block (l:=[.bool b]) zM)) ?_)));rintro v N ⟨s,rfl,hw⟩;refine St.p ?_ ?_
 ·have:=bO hw;simpa[Value.oneCell']using this
 refine az.q ?_;refine Hs.mk (by repeat (first|exact bV.refl _|apply bV.cons|apply bV.app)) ⟨_,rfl,_,⟨s,rfl,hw.mono zS⟩,sL hn,wH (λx hx=>?_) (λx=>rfl)⟩;cases b
 ·exact xcA _
 exact De (xbG _ zD)
theorem Qf{v i:Nat}{p:zV}(hv:v<64)(hi:i<9223372036854775808)(hb:Go.Sx.At B p [iv (v:Int)]):Rd zQ 343 #[iv (i:Int),p] B (· =.int .u64 ((if 6<=v then(if(i>>>(v-6)).testBit 0 then 18446744073709551615 else 0)else ak.mask v:Nat):Int)):=by
 refine aE λg=>Ik (Ld.at hb (λ_ h=>h) ?_);exact aa.eq (Ad hv zO hi B) (br.mk (.refl _) rfl)
theorem UK{n v:Nat}(hn:n<=16)(hv:v<n)(B:Hp):Px zQ 278 #[iv (n:Int),iv (v:Int)] B (λr H=>∃t,r=.tuple #[t,iv 0]/\kF H t n (λx=>x.testBit v)):=by
 refine aE λg=>I4 λb1 _ b3 _=>?_;refine aa.eq (El hn _) (ae.cO (Br.F (Ld.q ?_)));refine ae.lss ?_;rw[xak zO];refine cm.or (a:=false) false (λ_=>?_) rfl λgs=>Br.no ?_
 ·refine Ld.q ?_;exact ae.s6 ⟨rfl,by rw[xak zO]⟩
 have hwl:=ak.yH hn;refine aa.pq (uI hn rfl zK (F:=λi=>if 6<=v then(if(i>>>(v-6)).testBit 0 then 18446744073709551615 else 0)else ak.mask v) (λi _=>by
  have:=ak.rC v;split
  ·split<;>decide
  exact this) (B:=(b1,.cells #[iv (v:Int)] 3 zZ)::B) λi hi=>Qf zO zO (Go.Sx.At.block (l:=[iv (v:Int)]) zM)) ?_
 rintro w N ⟨s,rfl,hw⟩;refine St.p ?_ ?_
 ·have:=bO hw;simpa[Value.oneCell']using this
 refine az.q ?_;refine Hs.mk (by repeat (first|exact bV.refl _|apply bV.cons|apply bV.app)) ⟨_,rfl,_,⟨s,rfl,hw.mono zS⟩,sL hn,wH (λx hx=>?_) (λx=>?_)⟩
 ·have hj:x%64<64:=xbG _ zD;have aku:x=64*(x/64)+x%64:=by omega
  by_cases h6:6<=v
  ·rw[xae h6];have e:x.testBit v=((x/64)>>>(v-6)).testBit 0:=by
    rw[xbv,xcn];have:=Nat.testBit_div_two_pow (n:=6) x (v-6);rw[show(2:Nat)^6=64 from rfl]at this;rw[this];congr 1;omega
   rw[e];cases ((x/64)>>>(v-6)).testBit 0
   ·exact xcA _
   exact De hj
  rw[xac h6,ak.gK];have:=xbA x 6 v;rw[show(2:Nat)^6=64 from rfl]at this;rw[this];simp[hj];omega
 rw[xbA];simp[hv]
end
end
section
open ax
section
variable {B:Hp}
theorem pc{n i:Nat}{ws:zL}(hf:ak.eY n ws):ws.getD i 0<18446744073709551616:=by
 by_cases h:i<ws.length
 ·rw[xar,xaa h];exact hf.lt (xaF h)
 rw[xar,xaE zO];decide
theorem rS{n i:Nat}{ws:zL}(hf:ak.eY n ws)(hi:i<ak.wN n):ws[i]? =some (ws.getD i 0):=by
 rw[xar,xaa (by rw[hf.len];exact hi)];rfl
theorem Qk{p1 p2 p3 s1 s2 s3:zV}{n i:Nat}{ws us rs:zL}(h1:Go.Sx.At B p1 [iv (n:Int),s1])(h2:Go.Sx.At B p2 [iv (n:Int),s2])(h3:Go.Sx.At B p3 [iv (n:Int),s3])(hw:Words B s1 ws)(hu:Words B s2 us)(hr:Words B s3 rs)(hf:ak.eY n ws)(hg:ak.eY n us)(hh:ak.eY n rs)(hi:i<ak.wN n):
  Rd zQ 346 #[iv (i:Int),p1,p2,p3] B (· =.int .u64 (((ws.getD i 0&&&us.getD i 0)|||((18446744073709551615-ws.getD i 0) &&&rs.getD i 0):Nat):Int)):=by
 have lw:=pc (i:=i) hf;have lu:=pc (i:=i) hg;have lr:=pc (i:=i) hh;refine aE λg=>Ih (ai.at h1 λq hq=>Ld.at hq (λ_ h=>h) ?_);refine hw.1.ld (cL (rS hf hi)) (λ_ h=>h) ?_;refine ai.at h2 λq hq=>Ld.at hq (λ_ h=>h) ?_;refine hu.1.ld (cL (rS hg hi)) (λ_ h=>h) ?_;refine ae.jj (by simpa only[bA]using lw) (by simpa only[bA]using lu) (ai.at h1 λq hq=>Ld.at hq (λ_ h=>h) ?_);refine hw.1.ld (cL (rS hf hi)) (λ_ h=>h) ?_;refine Un.afb lw ?_;refine ai.at h3 λq hq=>Ld.at hq (λ_ h=>h) ?_;refine hr.1.ld (cL (rS hh hi)) (λ_ h=>h) ?_;exact ae.jj (by simp only[bA];omega) (by simpa only[bA]using lr) (ae.C9 (xau xcj (by simpa only[bA]using lw)) (xau xcj (by simp only[bA];omega)) (br.mk (.refl _) rfl))
theorem abv{bx n:Nat}{s1 s2 s3:zV}{ws us rs:zL}(h1:Words B s1 ws)(h2:Words B s2 us)(h3:Words B s3 rs):jL ((bx,.cells (rows [[iv (n:Int),s1],[iv (n:Int),s2],[iv (n:Int),s3]]) 116 zZ)::B) (.slice (some ⟨bx,0,none⟩) 3 3) [⟨n,ws⟩,⟨n,us⟩,⟨n,rs⟩]:=by
 refine⟨[[iv (n:Int),s1],[iv (n:Int),s2],[iv (n:Int),s3]],(Sl.rj (aV.made (T:=116) (k:=2) (b:=bx) _ zI) zD).mono λ_ h=>by simp at h;rw[h];exact .head _,rfl,λi r x hr hx=>?_⟩
 match i with
 |0=>simp at hr hx;subst hr;subst hx;exact⟨s1,rfl,h1.mono λ_ h=>.tail _ h⟩
 |1=>simp at hr hx;subst hr;subst hx;exact⟨s2,rfl,h2.mono λ_ h=>.tail _ h⟩
 |2=>simp at hr hx;subst hr;subst hx;exact⟨s3,rfl,h3.mono λ_ h=>.tail _ h⟩
 |i+3=>simp at hr
theorem UO{v1 v2 v3:zV}{n:Nat}{f1 f2 f3:ax.Fn}(h1:kF B v1 n f1)(h2:kF B v2 n f2)(h3:kF B v3 n f3):Px zQ 279 #[v1,v2,v3] B (λr H=>∃t,r=.tuple #[t,iv 0]/\kF H t n (λx=>if f1 x then f2 x else f3 x)):=by
 obtain⟨ws,⟨s1,rfl,hw⟩,hf,rfl⟩:=h1;obtain⟨us,⟨s2,rfl,hu⟩,hg,rfl⟩:=h2;obtain⟨rs,⟨s3,rfl,hr⟩,hh,rfl⟩:=h3;refine aE λg=>I3 λb1 _ b3 _ b5 _ b7 _=>?_;refine az.q ?_;refine az.q ?_;refine az.q ?_;refine au.YR (e:=116) (z:=.agg #[iv 0,.slice none 0 0]) zK zK zK λbx=>?_;refine aa.rd .here (D6 (abv (n:=n) (hw.mono zS) (hu.mono zS) (hr.mono zS)) (by show 3<2^62;decide)) ?_;rintro w rfl;rw[xam (by
  intro t ht;simp only[xal,xaQ,xbH]at ht;rcases ht with rfl|rfl|rfl
  ·exact⟨⟨by simp,by simpa using hf⟩,rfl⟩
  ·exact⟨⟨by simp,by simpa using hg⟩,rfl⟩
  exact⟨⟨by simp,by simpa using hh⟩,rfl⟩)]
 refine Un.not (Br.no (Ld.f ?_));refine aa.pre (H':=(b7,.cells #[iv 0,.slice none 0 0] 116 zZ)::(b5,.cells #[iv (n:Int),s3] 116 zZ)::(b3,.cells #[iv (n:Int),s2] 116 zZ)::(b1,.cells #[iv (n:Int),s1] 116 zZ)::B) .tail ?_;have ol:∀i,(ws.getD i 0&&&us.getD i 0)|||((18446744073709551615-ws.getD i 0) &&&rs.getD i 0)<18446744073709551616:=λi=>
  xbF (n:=64) (xau xcj (pc hf)) (xau xc9 (pc hh))
 refine aa.pq (uI hf.ya rfl zK (F:=λi=>(ws.getD i 0&&&us.getD i 0)|||((18446744073709551615-ws.getD i 0) &&&rs.getD i 0)) (λi _=>ol i) (B:=(b5,.cells #[iv (n:Int),s3] 116 zZ)::(b3,.cells #[iv (n:Int),s2] 116 zZ)::(b1,.cells #[iv (n:Int),s1] 116 zZ)::B)
  λi hi=>Qk (Go.Sx.At.block (l:=[iv (n:Int),s1]) zM) (Go.Sx.At.block (l:=[iv (n:Int),s2]) zM) (Go.Sx.At.block (l:=[iv (n:Int),s3]) zM) (hw.mono zS) (hu.mono zS) (hr.mono zS) hf hg hh hi) ?_
 rintro w N ⟨s',rfl,eP⟩;refine St.p ?_ ?_
 ·have:=bO eP;simpa[Value.oneCell']using this
 refine az.q ?_;refine Hs.mk (by repeat (first|exact bV.refl _|apply bV.cons|apply bV.app)) ⟨_,rfl,_,⟨s',rfl,eP.mono zS⟩,sL hf.ya,wH (λx hx=>?_) (λx=>by rw[Bo,Bo,Bo])⟩;rw[xb1,xbd,xbd,Vt (pc hf) (xbG _ zD),uV hx,uV hx,uV hx];cases pE n ws x<;>cases pE n us x<;>cases pE n rs x<;>rfl
end
end
end Go.Proofs
namespace Go.Sx
open Go
section
variable {P:Program} {g:Gh} {H B:Hp} {c:Hp->Hp}
theorem aN.YX{x:Nat×Obj}(h:x∈H):aN H [x]:=by
 obtain⟨A,D,rfl⟩:=xde h;exact .gC (aN.left (A:=[x]))
end
end Go.Sx
set_option maxRecDepth 100000
namespace Go.Proofs
open Go Go.Sx
section
open ax
section
variable {kp gb n:Nat} {vr vf:zV} {refs:zL} {fs:List (zL)} {K:Kd} {S:Nat->ax.Fn} {ord ah tr:zL} {C B:Hp}
theorem cc.perm(hK:cc kp K S ord ah tr C):ord.Perm (List.range K.n):=by
 have m5:=hK.od;refine kK ?_ (λx hx=>?_) (by rw[xaK,m5.len];exact xai _)
 ·refine List.pairwise_iff_getElem.2 λi j hi hj hij e=>?_;have g1:=(m5.bg i (by rw[<-m5.len];exact hi)).2;have g2:=(m5.bg j (by rw[<-m5.len];exact hj)).2;rw[xar,xaa hi,e]at g1;rw[xar,xaa hj]at g2;omega
 obtain⟨i,hi,rfl⟩:=xa9.1 hx;rw[m5.len]at hi;have:=(m5.bg i hi).1;rw[xar,xaa (by rw[m5.len];exact hi)]at this;exact xaM.2 this
end
end
section
open ax
theorem Q5{B:Hp}{v1 v2:zV}{p q:zL}{n:Nat}(h1:dF .i64 B v1 (iw p))(h2:dF .i64 B v2 (iw q))(hp:p.Perm (List.range n))(hq:q.Perm (List.range n))(hn:n<=64):
  Fc zQ 284 #[v1,v2] B (λr H=>∃s C,r=.tuple #[s,iv 0]/\H=C++B/\aP 3 .i64 s (iw (path p q)) C):=by
 have e1:p.length=n:=by rw[hp.length_eq,xaK]
 have e2:q.length=n:=by rw[hq.length_eq,xaK]
 have fc:q.Nodup:=hq.nodup_iff.2 xbi;have hpq:=hp.trans hq.symm;refine aE λg=>IZ (aa.eq (W6 h1 h2 hp hq hn) (ae.cO (Br.F (aa.fq (wU h1 (by rw[aq];omega)) ?_))));rintro va H ⟨CA,rfl,hA⟩;refine h2.bP ?_;rw[aq];refine⟨λvs H=>∃(i:Nat) (w9:zV) (C N:Hp),vs=[w9,iv (i:Int)]/\i<=n/\H=C++(N++B)/\aP 3 .i64 w9 (iw (ew p q i)) C/\aP 3 .i64 va (iw (aA p (ew p q i))) N,λvs _=>n-bJ vs 1,
  JE.mk ⟨0,_,[],CA,rfl,xaO _,rfl,aP.nil,hA⟩,?_⟩
 rintro w9 w10 H ⟨i,u9,C,N,⟨⟩,hi,rfl,ho,hw⟩ gs;refine ae.eZ (Br.dec (λhlt=>?_) (λhlt=>?_));rotate_left
 ·obtain rfl:i=q.length:=by omega
  exact aF.mk (.c8 .right _) ⟨w9,C,rfl,rfl,ho⟩
 have spec:=j3 fc hpq i zO;obtain⟨s1,s2,s3⟩:=spec;obtain⟨s4,s5⟩:=s3 hlt;have aiF:=sH fc hpq (i+1) zO;have qR:(i+1)*p.length<=64*64:=xcb zO zO;refine h2.ld (n:=((q.getD i 0:Nat):Int)) (bI hlt) (λ_ h=>xab _ (xab _ h)) ?_;have hmem:q.getD i 0∈aA p (ew p q i):=by
  have:q.getD i 0∈q:=by rw[xar,xaa hlt];exact xaF _
  exact((lF s1).trans hpq).mem_iff.2 this
 refine aa.eq (M3 hw.ints (by rw[aq,fQ];omega)) ?_;rw[xae (Rs.2 hmem),Zh];refine⟨λvs H=>∃(j:Nat) (u9:zV) (P:zL) (C N:Hp),vs=[u9,iv (j:Int)]/\i<=j/\j<n/\P++G5 i j=ew p q (i+1)/\H=C++(N++B)/\aP 3 .i64 u9 (iw P) C/\aP 3 .i64 va (iw (aA p P)) N,λvs _=>bJ vs 1,
  JE.mk ⟨plc (aA p (ew p q i)) (q.getD i 0),w9,ew p q i,C,N,rfl,s4,by omega,rfl,rfl,ho,hw⟩,?_⟩
 rintro w22 w23 H ⟨j,u9,P,C2,N2,⟨⟩,hij,LO,hP,rfl,tM,o6⟩ gs;refine ae.nq (Br.dec (λhgt=>?_) (λhgt=>?_))
 ·obtain⟨j,rfl⟩:∃k,j=k+1:=⟨j-1,by omega⟩;have hPl:P.length<=4096:=by
   have:=xce List.length hP;rw[xaf]at this;omega
  have hlen:(aA p P).length=n:=by rw[fQ,e1]
  refine DR.self (ae.bY (b:=1) ?_);rw[xb7];refine o6.ld (x:=(((aA p P).getD (j+1) 0:Nat):Int)) (bI zO) (λ_ h=>xab _ (xad _ h)) (ae.bY (b:=1) ?_);rw[xb7];refine o6.ld (x:=(((aA p P).getD j 0:Nat):Int)) (bI zO) (λ_ h=>xab _ (xad _ h)) (o6.nw (x:=(((aA p P).getD (j+1) 0:Nat):Int)) (.app .left) (by rw[aq];omega) λN3 V4=>?_);refine V4.nw (x:=(((aA p P).getD j 0:Nat):Int)) (.app .left) (by rw[xbR,aq];omega) λN4 hw4=>?_;have e:((iw (aA p P)).set j (((aA p P).getD (j+1) 0:Nat):Int)).set (j+1) (((aA p P).getD j 0:Nat):Int)=iw (aA p (P++[j])):=by
   rw[gB];unfold fR;rw[fj,fj]
  rw[e]at hw4;refine ae.bY (b:=1) ?_;rw[xb7];refine au.int (e:=3) zK zK zK λbx=>?_;refine tM.qJ (.cons .left) (by exact .head _) (by rw[aq];omega) (by rw[aq];omega) λv' C3 DN=>?_;refine ae.bY (b:=1) ?_;rw[xb7];refine aC.of .tail ⟨j,v',P++[j],C3,N4,rfl,by omega,by omega,?_,rfl,by rw[cg];exact DN,hw4⟩ ?_
  ·rw[<-hP,r6 (show i<=j by omega),xaj];rfl
  simp only[bJ];omega
 obtain rfl:j=i:=by omega
 rw[By (xai _),xaL]at hP;subst hP;exact ae.inc (aC.of (.refl _) ⟨j+1,w22,C2,N2,rfl,by omega,rfl,tM,o6⟩ (by simp only[bJ];omega))
def wk(b kp f d:Nat)(ok:Bool):Nat×Obj:=(b,.cells #[ptr kp,iv (f:Int),iv (d:Int),.bool ok] 417 zZ)
section
variable {kp b f d:Nat} {K:Kd} {S:Nat->ax.Fn} {ord tr:zL} {C:Hp}
theorem MH(h:At kp K S ord tr C):Fc zQ 352 #[ptr kp] C (λr H=>∃b,r=ptr b/\H=wk b kp tr.length 0 false::C):=by
 refine aE λg=>H9 (aa.eq (r7 h) (Build.mk (cs:=[ptr kp,iv ((tr.length:Nat):Int),iv 0,.bool false]) zK ?_));intro b _;exact aF.here ⟨b,rfl,rfl⟩
theorem P6(h:At kp K S ord tr C){l:Nat}(hl:l+1<K.n)(eR:tr.length<17592186044416)(hf:je K S ord l)(hd:d<4611686018427387904):
  Fc zQ 355 #[ptr b,iv (l:Int)] (wk b kp f d false::C) (λr H=>r=iv 0/\∃C',H=wk b kp f (d+1) false::C'/\At kp K S (fR ord l) (tr++[l]) C'):=by
 refine aE λg=>xy (Ld.n ?_);refine aa.fq (uT h hl eR hf) ?_;rintro v C' ⟨rfl,h'⟩;intro J hJ;refine ae.gX (Br.T (Ld.n ?_));refine ae.inc (Nil.ptr (ai.mk (St.one (by exact .head _) rfl zI rfl ?_)));exact JE.mk (hJ _ λgs=>aF.here ⟨rfl,C',rfl,h'⟩)
theorem P7(h:At kp K S ord tr C){l:Nat}(hl:l+1<K.n)(eR:tr.length<17592186044416)(hf:¬je K S ord l):
  Rd zQ 355 #[ptr b,iv (l:Int)] (wk b kp f d false::C) (· =iv 9):=by
 refine aE λg=>xy (Ld.n ?_);refine aa.eq (nf h hl eR hf) λJ hJ=>?_;exact ae.gX (Br.F (JE.mk (hJ _ λgs=>br.mk (.refl _) rfl)))
theorem P9{ok:Bool}{path:zL}(h:At kp K S (aA ord path) (tr++path) C)(hp:∀l∈path,l+1<K.n)(eR:(tr++path).length<17592186044416)(hd:d<4611686018427387904):
  Fc zQ 390 #[ptr b] (wk b kp tr.length d ok::C) (λr H=>r=.tuple #[]/\∃C',H=wk b kp tr.length (d+path.length) ok::C'/\At kp K S ord tr C'):=by
 have zu:path.length<17592186044416:=by rw[xaf]at eR;omega
 refine aE λg=>HC (DR.of (R:=[wk b kp tr.length d ok]) (aN.left (A:=[_]) (B:=C)) (Ld.n ?_));refine Ld.n ?_;refine aa.fq (args:=#[ptr kp,iv ((tr.length+0:Nat):Int)]) (Mi h hp (xaO _) eR) ?_;rintro v C' ⟨rfl,h'⟩;rw[xee,xaL]at h';refine⟨aN.left (A:=[_]) (B:=C'),?_⟩;refine Ext.two (Ld.n ?_);refine ae.fI (Nil.ptr (ai.mk (St.one (by exact .head _) rfl zI rfl ?_)));exact aF.here ⟨rfl,C',rfl,h'⟩
theorem MD:Rd zQ 354 #[ptr b] (wk b kp f d true::C) (· =.tuple #[]):=by
 refine aE λg=>xz (Ld.n ?_);exact Un.not (Br.no (br.mk (.refl _) rfl))
theorem ME{path:zL}(h:At kp K S (aA ord path) (tr++path) C)(hp:∀l∈path,l+1<K.n)(eR:(tr++path).length<17592186044416)(hd:d<4611686018427387904):
  Fc zQ 354 #[ptr b] (wk b kp tr.length d false::C) (λr H=>r=.tuple #[]/\∃C',H=wk b kp tr.length (d+path.length) false::C'/\At kp K S ord tr C'):=by
 refine aE λg=>xz (Ld.n ?_);refine Un.not (Br.yes (aa.fq (P9 h hp eR hd) ?_));rintro v H ⟨rfl,C',rfl,h'⟩;exact aF.here ⟨rfl,C',rfl,h'⟩
theorem EB(h:At kp K S ord tr C){v:Nat}(hv:v<K.n):Rd zQ 150 #[ptr kp,iv (v:Int)] C (λr=>∃p,p<K.n/\ord.getD p 0=v/\r=.tuple #[iv (p:Int),iv 0]):=by
 obtain⟨K',S',bW,h,hk⟩:=h;obtain⟨b,rfl,hO⟩:=h.rep;have hn:=hO.lY;have nZ:v<K'.n:=by rw[hk.n];exact hv
 have hlen:v<bW.length:=by rw[hO.ol.2];exact nZ
 refine aE λg=>qN (ae.aI (Br.no (aa.eq (rH h.rep (v:Int)) ?_)));rw[xam zO];refine Un.not (Br.no (Ld.n ?_));refine hO.lv.ld (x:=((bW.getD v 0:Nat):Int)) (bI hlen) (bH.sub (.cons (.app (.app (.app (.app (.app .left))))))) (br.mk (.refl _) ⟨bW.getD v 0,?_,?_,rfl⟩)
 ·rw[<-hk.n];exact h.ok.lv.lt v nZ
 exact h.od.of h.ok.lv nZ
theorem EA(h:At kp K S ord tr C){v:Int}(hv:v<0\/(K.n:Int)<=v):Rd zQ 150 #[ptr kp,iv v] C (· =.tuple #[iv 0,iv 2]):=by
 obtain⟨K',S',bW,h,hk⟩:=h;have hn:=hk.n;refine aE λg=>qN (ae.aI (Br.no (aa.eq (rH h.rep v) ?_)));rw[xak zO];exact Un.not (Br.yes (br.mk (.refl _) rfl))
def Mr(kp:Nat)(K:Kd)(S:Nat->ax.Fn)(ord tr ls:zL)(r:zV)(C:Hp):Prop:=
 ((rm K S).can ord ls=true/\r=.tuple #[iv ((ls.length:Nat):Int),iv 0]/\At kp K S (aA ord ls) (tr++ls) C)\/
 ((rm K S).can ord ls=false/\r=.tuple #[iv ((2*((rm K S).dO 0 ls ord).length:Nat):Int),iv 9]/\At kp K S ord tr C)
theorem VB{Y:Hp}{v:zV}{ls:zL}(h:At kp K S ord tr C)(hI:dF .i64 Y v (iw ls))(hp:∀l∈ls,l+1<K.n)(eR:tr.length+ls.length<17592186044416):
  Fc zQ 285 #[ptr kp,v] (Y++C) (λr H=>∃C',H=Y++C'/\Mr kp K S ord tr ls r C'):=by
 let m:=rm K S
 have hgl:=m.mi 0 ls ord;have hpt:∀i,∀l∈ls.take i,l+1<K.n:=λi l hl=>hp l (xcH hl);refine aE λg=>IY λb1 _=>?_;refine aa.fq (MH h) ?_;rintro v3 H ⟨b,rfl,rfl⟩;intro b5 _;refine St.one (by exact .head _) rfl zI rfl ?_;refine hI.bP ?_;rw[aq];refine⟨λvs H=>∃i C2,i<=(m.dO 0 ls ord).length/\vs=[iv (i:Int)]/\H=(b5,.cells #[ptr b] 414 zZ)::(b1,.cells #[iv 0] 3 zZ)::(Y++(wk b kp tr.length i false::C2))/\At kp K S (aA ord (ls.take i)) (tr++ls.take i) C2,
  λvs _=>ls.length-bJ vs 0,JE.mk ⟨0,C,xaO _,rfl,rfl,by simpa[aA]using h⟩,?_⟩
 rintro w13 H ⟨i,C2,hi,⟨⟩,rfl,h2⟩ gs;have Sb:(tr++ls.take i).length<17592186044416:=by rw[xaf,xbI];omega
 refine ae.eZ (Br.dec (λhlt=>?_) (λhlt=>?_))
 ·refine hI.ld (n:=((ls.getD i 0:Nat):Int)) (bI hlt) (λ_ h=>.tail _ (.tail _ (xad _ h))) ?_;have eg:ls.getD i 0=ls[i]:=by rw[xar,xaa hlt];rfl
  have DS:ls.getD i 0+1<K.n:=by rw[eg];exact hp _ (xaF hlt)
  have eq:ls[i]? =some (ls.getD i 0):=by rw[eg];exact xaa hlt
  refine Ld.q ?_;by_cases hg:i<(m.dO 0 ls ord).length
  ·have hf:je K S (aA ord (ls.take i)) (ls.getD i 0):=qj.1 (m.SV hg eq);refine aa.fn (.cons (.cons (.app .here))) (P6 h2 DS Sb hf zO) ?_;rintro r H ⟨rfl,C3,rfl,h3⟩;refine ae.cO (Br.F (ae.inc (aC.mk ⟨i+1,C3,hg,rfl,rfl,?_⟩ (by simp only[bJ];omega))));have e:ls.take (i+1)=ls.take i++[ls.getD i 0]:=by rw[xbs,eq];rfl
   rw[e,gB,<-xaj];exact h3
  obtain rfl:i=(m.dO 0 ls ord).length:=by omega
  have hf:¬je K S (aA ord (ls.take (m.dO 0 ls ord).length)) (ls.getD (m.dO 0 ls ord).length 0):=λhf=>by
   have h8:=m.Oc eq;have h9:=qj.2 hf;rw[show(rm K S).fit _ _=false from h8]at h9;cases h9
  refine aa.eq (P7 h2 DS Sb hf) (ae.cO (Br.T (St.one (by exact .tail (.head _)) rfl zI rfl ?_)));refine ue (R:=_) ?_;unfold L353;refine Ld.q ?_;refine aa.fn (.cons (.cons (.app .here))) (ME h2 (hpt _) Sb zO) ?_;rintro r H ⟨rfl,C3,rfl,h3⟩;refine Ld.q ?_;have eD:(m.dO 0 ls ord).length+(ls.take (m.dO 0 ls ord).length).length=2*(m.dO 0 ls ord).length:=by rw[xbI];omega
  rw[eD];refine Ld.n ?_;refine St.one (by exact .tail (.head _)) rfl zI rfl ?_;refine⟨⟨_,rfl⟩,?_⟩;refine Ld.q ?_;refine aF.mk (.skip (.skip (.c8 .tail _))) ⟨C3,rfl,.inr ⟨xak (show¬(m.dO 0 ls ord).length=ls.length by omega),rfl,h3⟩⟩
 have Se:i=ls.length:=by omega
 subst Se;rw[xbm]at h2;have hcan:(rm K S).can ord ls=true:=xam (show(m.dO 0 ls ord).length=ls.length by omega);refine Ld.q ?_;refine Nil.ptr (ai.mk (St.one (dg.tail (dg.tail (dg.ca (.head _) _))) rfl zI rfl ?_));refine St.one (by exact .tail (.head _)) rfl zI rfl ?_;refine ue (R:=_) ?_;unfold L353;refine Ld.q ?_;refine aa.eq (B:=wk b kp tr.length ls.length true::C2) MD (Ld.q ?_);refine Ld.n ?_;refine St.one (by exact .tail (.head _)) rfl zI rfl ?_;refine⟨⟨_,rfl⟩,?_⟩;refine Ld.q ?_;refine aF.mk (.skip (.skip (.c8 .tail _))) ⟨C2,rfl,.inl ⟨hcan,rfl,h2⟩⟩
end
section
variable {kp b f d:Nat} {K:Kd} {S:Nat->ax.Fn} {ord tr:zL} {C:Hp}
theorem Mr.tup{ls:zL}{r:zV}(h:Mr kp K S ord tr ls r C):∃x y,r=.tuple #[x,y]:=by
 rcases h with⟨_,rfl,_⟩|⟨_,rfl,_⟩<;>exact⟨_,_,rfl⟩
theorem Rh{Y:Hp}{v:zV}{q:zL}(h:At kp K S ord tr C)(hI:dF .i64 Y v (iw q))(Zv:ord.Perm (List.range K.n))(hpq:q.Perm (List.range K.n))(eR:tr.length<17454747090944):
  Fc zQ 195 #[ptr kp,v] (Y++C) (λr H=>∃C',H=Y++C'/\Mr kp K S ord tr (path ord q) r C'):=by
 have hn:=h.lY;have EZ:ord.length=K.n:=by rw[Zv.length_eq,xaK]
 have hql:q.length=K.n:=by rw[hpq.length_eq,xaK]
 have fc:q.Nodup:=hpq.nodup_iff.2 xbi;refine aE λg=>JR (ae.aI (Br.no ?_));intro J2 BZ;refine aa.rq (sG hI (by rw[aq];omega)) ?_;rintro r (⟨rfl,ha,hl⟩|⟨_,_,hl⟩|⟨_,hno⟩);rotate_left
 ·rw[aq]at hl;omega
 ·exact absurd (xk hpq) hno
 refine ae.cO (Split.go zD ?_);refine hI.bP (aa.eq (m9 h) (ae.xU ?_));rw[xak (by rw[aq];omega)];refine aM.mk (JE.mk (BZ _ _ λgs=>Br.no ?_));refine aa.fq (TQ h) ?_;rintro vo H ⟨N,rfl,ho⟩;refine aa.pre (H':=(N++Y)++C) (.perm (by rw[xaj,<-xaj,<-xaj];exact xbe.append_right C)) (aa.fq (Q5 (ho.ints.mono λ_ h=>xad _ h) (hI.mono λ_ h=>xab _ h) Zv hpq hn) ?_);rintro r H ⟨s,CP,rfl,rfl,hP⟩;refine Ext.mk rfl (Ext.mk rfl (ae.cO (Br.F ?_)));obtain⟨_,zu⟩:=AY fc (Zv.trans hpq.symm);have aiE:(path ord q).length<=4096:=by
  have:=sH fc (Zv.trans hpq.symm) q.length (xai _);have h2:q.length*ord.length<=64*64:=xcb zO zO;unfold path;omega
 refine aa.fq (VB h (hP.ints.mono λ_ h=>xad _ h) (λx hx=>by have:=zu x hx;omega) zO) ?_;rintro r H ⟨C',rfl,hM⟩;obtain⟨x,y,rfl⟩:=hM.tup;refine Ext.two (aF.mk ?_ ⟨C',rfl,hM⟩);rw[xaj,xaj];exact aN.right.trans .right
def VK(p:Nat):Nat->Nat->Nat
 |0,_=>p
 |_,k=>p-k
def NZ(n p:Nat):Nat->Nat->Nat
 |0,k=>p+k
 |_,_=>n-1
end
end
end Go.Proofs
namespace ax
theorem sD{p j:Nat}(h:p<=j):road p (j+1)=road p j++[j]:=by
 unfold road;rw[show p-(j+1)=0 by omega,show p-j=0 by omega,show j+1-p=(j-p)+1 by omega,List.range'_concat];simp;omega
theorem sE{p j:Nat}(h:j<p):road p j=road p (j+1)++[j]:=by
 unfold road;rw[show j-p=0 by omega,show j+1-p=0 by omega,show p-j=(p-(j+1))+1 by omega,List.range'_succ];simp
theorem gD(p:Nat):road p p=[]:=by unfold road;simp
end ax
set_option maxRecDepth 100000
namespace Go.Proofs
open Go Go.Sx
open ax
section
variable {kp gb n:Nat} {vr vf:zV} {refs:zL} {fs:List (zL)} {K:Kd} {S:Nat->ax.Fn} {ord tr:zL} {C Z:Hp}
theorem Ls{ord:zL}(hp:ord.Perm (List.range n)):∀i,i<n->ord.getD i 0<n:=λi hi=>by
 have EZ:ord.length=n:=by rw[hp.length_eq,xaK]
 have:ord.getD i 0∈ord:=by rw[xar,xaa zO];exact xaF _
 exact xaM.1 (hp.mem_iff.1 this)
end
end Go.Proofs
namespace Go.Sx
open Go Go.ChangeShapes Go.WideShapes Go.Deep
section
variable {H:Type} {enc:TypeId×zV->H} {P:Program} {W:World} {base:Nat} {spare:Nat->Bool} {held:Bool}
theorem tq(a:Addr)(n:Nat):(a.add n).block=a.block:=by unfold Addr.add;split<;>rfl
theorem BF(a:Addr)(n:Nat):(a.add n).off=a.off+n:=by unfold Addr.add;split<;>simp_all
theorem kS{b:Nat}{a:Addr}{k:Nat}{cs:List zV}(hk:0<k)(h:W.cells? b a k=some cs):
  a.spot=none/\∃c T fz,W.heap[a.block]? =some (.cells c T fz)/\a.off+k<=c.size/\c.extract a.off (a.off+k)=cs.toArray:=by
 obtain⟨_,hl,hg⟩:=World.cells?_some h;have h0:=hg 0 hk;have hc0:W.cell? a=some (cs[0]' zO):=by
  have:a.add 0=a:=by simp[Addr.add]
  rw[this]at h0;rw[h0];exact xaa zO
 unfold World.cell? at hc0;split at hc0
 ·rename_i c T fz hb;cases hs:a.spot with
  |some s=>rw[hs]at hc0;simp at hc0
  |none=>
   have hcell:∀i,i<k->c[a.off+i]? =cs[i]? :=λi hi=>by
    have:=hg i hi;unfold World.cell? at this;rw[tq,hb]at this;simp only[BF]at this;have hsp:(a.add i).spot.isSome=false:=by unfold Addr.add;split<;>simp[hs]
    rw[hsp]at this;simpa using this
   have hsz:a.off+k<=c.size:=by
    have:=hcell (k-1) zO;rw[xaa zO]at this;have:=(xaU.1 this).1;omega
   refine⟨rfl,c,T,fz,hb,hsz,?_⟩;apply Array.ext_getElem?;intro i;rw[xdj];by_cases hi:i<k
   ·rw[xae zO,hcell i hi];simp
   rw[xac zO];simp;omega
 simp at hc0
theorem aaP{t e:TypeId}{v:zV}{d:DataW H}{ps:List MemPlace}{r:Reach}{b0 k:Nat}(ht:P.underlying t=some (.slice e))(hk:P.cellsOf e=k)(ZH:0<k)(hv:Value.okWide P W r b0 t v)(h:DataW.Trod enc P W base spare held t v d ps):
  (v=.slice none 0 0/\d=.nil)\/∃(a:Addr) (n cap:Nat) (es sp:List (DataW H)),v=.slice (some a) n cap/\d=.slice es sp/\es.length=n/\n<=cap/\
   ∀i,i<n->∃c T fz cs,a.spot=none/\(a.block,Obj.cells c T fz)∈whole W/\a.off+i*k+k<=c.size/\c.extract (a.off+i*k) (a.off+i*k+k)=cs.toArray/\∃fuel y,DataW.trod enc P W base spare held fuel e cs=some y/\cs.length=k:=by
 obtain⟨a0,n0,c0,rfl⟩:=okWide_slice ht hv;obtain⟨fuel,hf⟩:=h;rcases open_slice ht hf with⟨h1,h2⟩|⟨a,len,cap,m,n,D,Pl,hcs,hb,hl,hm,yf,hx,hi⟩
 ·left;simp only[Value.cells,xax,xa0]at h1;simp only[xdz]at h2;exact⟨by simpa using h1,h2.1⟩
 right;simp only[xdz]at hx;have nZ:Value.slice a0 n0 c0=.slice (some a) len cap:=by simpa[Value.cells]using hcs
 have hlm:len<=m:=by rw[yf];split<;>omega
 refine⟨a,len,cap,_,_,nZ,hx.1,by simp,hl,λi hin=>?_⟩;have hkk:=hk;have DK:a.spot=none:=by
  obtain⟨cs0,hc0,_⟩:=hi 0 zO;rw[hk]at hc0;rw[show a.add (0*k)=a by simp[Addr.add]]at hc0;exact(kS ZH hc0).1
 obtain⟨cs,hc,hd⟩:=hi i zO;rw[hk]at hc;obtain⟨_,hlen,_⟩:=World.cells?_some hc;obtain⟨_,c,T,fz,h1,h2,h3⟩:=kS ZH hc;rw[tq]at h1;rw[BF]at h2 h3;exact⟨c,T,fz,cs,DK,y5 h1,h2,h3,n,_,hd,hlen⟩
theorem yJ{t e:TypeId}{cs:List zV}{x:DataW H×List MemPlace}{fuel k:Nat}(ht:P.underlying t=some (.slice e))(hk:P.cellsOf e=k)(ZH:0<k)(h:DataW.trod enc P W base spare held fuel t cs=some x):
  ∃(v:zV) (rs:List (List zV)),cs=[v]/\Sl k (whole W) v rs/\((rs=[]/\x.1=.nil)\/∃es sp,x.1=.slice es sp/\es.length=rs.length)/\
   ∀(i:Nat) (r:List zV),rs[i]? =some r->∃(fuel:Nat) (y:DataW H×List MemPlace) (es sp:List (DataW H)),DataW.trod enc P W base spare held fuel e r=some y/\x.1=.slice es sp/\es[i]? =some y.1:=by
 rcases open_slice ht h with⟨h1,h2⟩|⟨a,len,cap,m,n,D,Pl,hcs,hb,hl,hm,yf,hx,hi⟩
 ·exact⟨_,[],h1,Sl.nil _ _,.inl ⟨rfl,by rw[h2]⟩,λi r hr=>by simp at hr⟩
 have hlm:len<=m:=by rw[yf];split<;>omega
 have hex:∃rs:List (List zV),rs.length=len/\∀i r,rs[i]? =some r->W.cells? base (a.add (i*k)) k=some r/\DataW.trod enc P W base spare held n e r=some (D i,Pl i):=by
  clear hcs hx hl yf;induction len with
  |zero=>exact⟨[],rfl,λi r hr=>by simp at hr⟩
  |succ len ih=>
   obtain⟨rs,h1,h2⟩:=ih zO;obtain⟨r,h3,h4⟩:=hi len zO;rw[hk]at h3;refine⟨rs++[r],by simp[h1],λi r' hr=>?_⟩;by_cases hlt:i<rs.length
   ·rw[xaV hlt]at hr;exact h2 i r' hr
   rw[xbz zO]at hr;have Gw:i-rs.length=0:=by
    by_cases e:i-rs.length=0
    ·exact e
    rw[xaE zP]at hr;cases hr
   rw[Gw]at hr;simp only[xcO,xaq]at hr;subst hr;obtain rfl:i=len:=by omega
   exact⟨h3,h4⟩
 obtain⟨rs,DM,DL⟩:=hex;have aJ:∀r∈rs,r.length=k:=λr hr=>by
  obtain⟨i,hi,e⟩:=xa9.1 hr;obtain⟨hc,_⟩:=DL i r (by rw[xaa hi,e]);exact(World.cells?_some hc).2.1
 refine⟨.slice (some a) len cap,rs,hcs,⟨aJ,?_⟩,.inr ⟨_,_,by rw[hx],by simp[DM]⟩,λi r hr=>?_⟩
 ·cases rs with
  |nil=>exact .inl ⟨some a,cap,by rw[<-DM];rfl,rfl⟩
  |cons r0 rest=>
   right;obtain⟨hc0,_⟩:=DL 0 r0 rfl;obtain⟨DK,c,T,fz,hb0,_,_⟩:=kS ZH hc0;rw[show a.add (0*k)=a by simp[Addr.add]]at DK hb0;obtain⟨ab,ao,asp⟩:=a;simp only at DK hb0;subst DK;have ac3:∀i r,(r0::rest)[i]? =some r->ao+i*k+k<=c.size/\c.extract (ao+i*k) (ao+i*k+k)=r.toArray:=λi r hr=>by
    obtain⟨hc,_⟩:=DL i r hr;obtain⟨_,c',T',fz',h1,h2,h3⟩:=kS ZH hc;rw[tq]at h1;rw[BF]at h2 h3;simp only at h1 h2 h3;rw[hb0]at h1;simp only[xaq,Obj.cells.injEq]at h1;obtain⟨rfl,_,_⟩:=h1;exact⟨h2,h3⟩
   refine⟨ab,ao,cap,c,T,fz,by rw[DM],by omega,y5 hb0,?_,λi r hr j v hj=>?_⟩
   ·have acG:=ac3 (rest.length) ((r0::rest)[rest.length]' zI) (xaa zI);have:=acG.1;simp only[xaB,xbx];omega
   obtain⟨h1,h2⟩:=ac3 i r hr;have Wn:j<k:=by
    have:=(xah.1 hj).1;rw[aJ r (xaw hr)]at this;exact this
   have h3:=xce (λz:Array zV=>z[j]?) h2;simp only[xdj,xdr]at h3;rw[hj]at h3;rw[<-h3,xae zO]
 obtain⟨_,hd⟩:=DL i r hr;have Se:i<len:=by rw[<-DM];exact(xah.1 hr).1
 exact⟨n,_,_,_,hd,by rw[hx],by simp[Se]⟩
theorem MU{t e:TypeId}{q:IntKind}{cs:List zV}{x:DataW H×List MemPlace}{fuel:Nat}(ht:P.underlying t=some (.slice e))(he:P.underlying e=some (.int q))(hk:P.cellsOf e=1)(h:DataW.trod enc P W base spare held fuel t cs=some x):
  ∃(v:zV) (l:List Int),cs=[v]/\dF q (whole W) v l/\(∀n∈l,(Lit.int q n).wf=true)/\((l=[]/\x.1=.nil)\/∃es sp,x.1=.slice es sp/\es.length=l.length):=by
 obtain⟨v,rs,hcs,RZ,hx,hr⟩:=yJ ht hk zD h;have hone:∀r∈rs,∃n,r=[.int q n]/\(Lit.int q n).wf=true:=λr hm=>by
  obtain⟨i,hi,e⟩:=xa9.1 hm;obtain⟨f,y,_,_,hy,_⟩:=hr i r (by rw[xaa hi,e]);obtain⟨n,h1,_,h2⟩:=DataW.trod_int he hy;exact⟨n,h1,h2⟩
 have hex:∃l:List Int,rs=l.map (λn=>[Value.int q n])/\∀n∈l,(Lit.int q n).wf=true:=by
  clear RZ hx hr hcs;induction rs with
  |nil=>exact⟨[],rfl,by simp⟩
  |cons r rest ih=>
   obtain⟨l,h1,h2⟩:=ih λr hm=>hone r (by simp[hm]);obtain⟨n,h3,h4⟩:=hone r zI;exact⟨n::l,by simp[h1,h3],λm hm=>by rcases xal.1 hm with rfl|hm;exact h4;exact h2 m hm⟩
 obtain⟨l,rfl,hwf⟩:=hex;refine⟨v,l,hcs,RZ,hwf,?_⟩;rcases hx with⟨h1,h2⟩|⟨es,sp,h1,h2⟩
 ·exact .inl ⟨by simpa using h1,h2⟩
 exact .inr ⟨es,sp,h1,by simpa using h2⟩
end
end Go.Sx
set_option maxRecDepth 100000
namespace Go.Proofs
open Go Go.Sx
section
open Go.ChangeShapes Go.WideShapes Go.Deep
variable {H:Type} {enc:TypeId×zV->H} {W:World} {base:Nat} {spare:Nat->Bool} {held:Bool}
theorem VO{f:FuncId}{args:Array zV}{W:World}(h:Rd zQ f args (whole W) (· =.bool true)):
  Calls zQ f args W λe W'=>e=.returned (.bool true)/\Go.RowKit.Below W.heap.size W W':=
 Y9 (h.mono λ_ _ ⟨h1,h2⟩=>⟨by rw[h1];exact .refl _,h2⟩)
end
end Go.Proofs
namespace ax
def Rm.EX(m:Rm)(g:Nat)(ord:zL)(p:Nat)(dn:Bool):Nat->Nat->Nat->Nat->Nat×Nat×Nat
 |0,j,b,q=>(j,b,q)
 |k+1,j,b,q=>
  if m.fit (aA ord (road p j)) (bif dn then j else j-1)=true then
   if(if m.size (aA ord (road p (bif dn then j+1 else j-1)))<b then m.size (aA ord (road p (bif dn then j+1 else j-1)))else b)*g<m.size (aA ord (road p (bif dn then j+1 else j-1)))*100 then
    (bif dn then j+1 else j-1,if m.size (aA ord (road p (bif dn then j+1 else j-1)))<b then m.size (aA ord (road p (bif dn then j+1 else j-1)))else b,if m.size (aA ord (road p (bif dn then j+1 else j-1)))<b then(bif dn then j+1 else j-1)else q)
   else m.EX g ord p dn k (bif dn then j+1 else j-1) (if m.size (aA ord (road p (bif dn then j+1 else j-1)))<b then m.size (aA ord (road p (bif dn then j+1 else j-1)))else b) (if m.size (aA ord (road p (bif dn then j+1 else j-1)))<b then(bif dn then j+1 else j-1)else q)
  else(j,b,q)
def dst(x y:Nat):Nat:=(x-y)+(y-x)
def Rm.rest(m:Rm)(dn:Bool)(j:Nat):Nat:=bif dn then m.n-1-j else j
def Rm.sB(m:Rm)(g:Nat)(ord:zL)(p:Nat):Nat×Nat:=
 let dn:=decide (m.n-1-p<=p)
 let a:=m.EX g ord p dn (m.rest dn p) p (m.size ord) p
 let b:=m.EX g ord p (!dn) (m.rest (!dn) p) p a.2.1 a.2.2
 (b.2.2,dst a.1 p+dst a.1 p+dst b.1 p+if b.2.2≠a.2.2 then dst b.1 b.2.2 else dst b.1 p+dst p b.2.2)
def Rm.ct(m:Rm)(g:Nat)(ord:zL):zL->zL×Nat
 | []=>([],0)
 |v::r=>let p:=ord.idxOf v;let a:=m.sB g ord p;let b:=m.ct g (aA ord (road p a.1)) r;(road p a.1++b.1,a.2+b.2)
structure ad5(m:Rm)(ord:zL)(p:Nat)(dn:Bool)(k j b q:Nat)(r:Nat×Nat×Nat):Prop where
 way:bif dn then j<=r.1/\r.1<=j+k else r.1<=j/\j<=r.1+k
 size:r.2.1=m.size (aA ord (road p r.2.2))
 new:(r.2.1=b/\r.2.2=q)\/(r.2.1<b/\bif dn then j<r.2.2/\r.2.2<=r.1 else r.1<=r.2.2/\r.2.2<j)
 fit:∀i,(bif dn then j<=i/\i<r.1 else r.1<i/\i<=j)->m.fit (aA ord (road p i)) (bif dn then i else i-1)=true
theorem Rm.v8(m:Rm)(g:Nat)(ord:zL)(p:Nat)(dn:Bool):∀k j b q,(dn=false->k<=j)->b=m.size (aA ord (road p q))->ad5 m ord p dn k j b q (m.EX g ord p dn k j b q)
 |0,j,b,q,hk,hb=>⟨by cases dn<;>simp[EX],hb,.inl ⟨rfl,rfl⟩,λi hi=>by cases dn<;>simp[EX]at hi<;>omega⟩
 |k+1,j,b,q,hk,hb=>by
  rw[EX];by_cases hf:m.fit (aA ord (road p j)) (bif dn then j else j-1)=true
  ·rw[xae hf];obtain⟨J,hJ⟩:∃J,J=bif dn then j+1 else j-1:=⟨_,rfl⟩;rw[<-hJ];obtain⟨s,hs⟩:∃s,s=m.size (aA ord (road p J)):=⟨_,rfl⟩;rw[<-hs];obtain⟨B,hB⟩:∃B,B=if s<b then s else b:=⟨_,rfl⟩
   obtain⟨Q,hQ⟩:∃Q,Q=if s<b then J else q:=⟨_,rfl⟩
   rw[<-hB,<-hQ];have hbq:(B=b/\Q=q)\/(B<b/\Q=J):=by
    by_cases h:s<b
    ·rw[xae h]at hB hQ;exact .inr ⟨by omega,hQ⟩
    rw[xac h]at hB hQ;exact .inl ⟨hB,hQ⟩
   have hb':B=m.size (aA ord (road p Q)):=by
    by_cases h:s<b
    ·rw[xae h]at hB hQ;rw[hB,hQ,hs]
    rw[xac h]at hB hQ;rw[hB,hQ,hb]
   clear hB hQ;by_cases hg:B*g<s*100
   ·rw[xae hg];refine⟨?_,hb',?_,λi hi=>?_⟩
    ·cases dn
     ·simp only[xag]at hJ⊢;have:=hk rfl;omega
     simp only[xap]at hJ⊢;omega
    ·cases dn
     ·simp only[xag]at hJ⊢;have:=hk rfl;omega
     simp only[xap]at hJ⊢;omega
    have:i=j:=by
     cases dn
     ·simp only[xag]at hi hJ;omega
     simp only[xap]at hi hJ;omega
    subst this;exact hf
   rw[xac hg];have ih:=m.v8 g ord p dn k J B Q (λh=>by subst h;have:=hk rfl;simp only[xag]at hJ;omega) hb';obtain⟨w1,w2,w3,w4⟩:=ih;refine⟨?_,w2,?_,λi hi=>?_⟩
   ·cases dn
    ·simp only[xag]at w1 hJ⊢;have:=hk rfl;omega
    simp only[xap]at w1 hJ⊢;omega
   ·cases dn
    ·simp only[xag]at w3 w1 hJ⊢;have:=hk rfl;omega
    simp only[xap]at w3 w1 hJ⊢;omega
   by_cases e:i=j
   ·subst e;exact hf
   refine w4 i ?_;cases dn
   ·simp only[xag]at hi hJ⊢;omega
   simp only[xap]at hi hJ⊢;omega
  rw[xac hf];exact⟨by cases dn<;>simp,hb,.inl ⟨rfl,rfl⟩,λi hi=>by cases dn<;>simp at hi<;>omega⟩
structure ad2(m:Rm)(ord:zL)(p:Nat)(r:Nat×Nat):Prop where
 lt:r.1<m.n
 le:m.size (aA ord (road p r.1))<=m.size ord
 stay:m.size (aA ord (road p r.1))=m.size ord->r.1=p
 u5:r.2<=3*(m.n-1)
theorem Rm.AQ(m:Rm)(g:Nat){ord:zL}{p:Nat}(hp:p<m.n):ad2 m ord p (m.sB g ord p):=by
 have ha:=m.v8 g ord p (decide (m.n-1-p<=p)) (m.rest (decide (m.n-1-p<=p)) p) p (m.size ord) p (λh=>by unfold Rm.rest;rw[h];exact xai _) (by rw[gD];rfl);unfold sB;simp only;generalize decide (m.n-1-p<=p)=dn at*;generalize m.EX g ord p dn (m.rest dn p) p (m.size ord) p=a at*;have hb:=m.v8 g ord p (!dn) (m.rest (!dn) p) p a.2.1 a.2.2 (λh=>by unfold Rm.rest;rw[h];exact xai _) ha.size;generalize m.EX g ord p (!dn) (m.rest (!dn) p) p a.2.1 a.2.2=b at*;obtain⟨a1,a2,a3,a4⟩:=ha;obtain⟨b1,b2,b3,b4⟩:=hb;unfold Rm.rest at a1 b1;refine⟨?_,?_,λh=>?_,?_⟩
 ·cases dn<;>simp only[xag,xap,xcs,xcy]at a1 b1 a3 b3<;>simp only<;>omega
 ·simp only;rw[<-b2];cases dn<;>simp only[xag,xap,xcs,xcy]at a1 b1 a3 b3<;>omega
 ·simp only at h⊢;rw[<-b2]at h;cases dn<;>simp only[xag,xap,xcs,xcy]at a1 b1 a3 b3<;>omega
 unfold dst;cases dn<;>simp only[xag,xap,xcs,xcy]at a1 b1 a3 b3<;>simp only<;>split<;>omega
end ax
namespace ax
section
variable {m:Rm} {g:Nat}
theorem Lo{p q:Nat}(hp:p<m.n)(hq:q<m.n):∀x∈road p q,x+1<m.n:=λx hx=>QY hp hq hx
theorem Gl{ord:zL}{v n:Nat}(hp:ord.Perm (List.range n))(hv:v<n):ord.idxOf v<n:=by
 have h1:v∈ord:=hp.mem_iff.2 (xaM.2 hv);have h2:=xek h1;rwa [hp.length_eq,xaK]at h2
theorem mM{ord path:zL}{n:Nat}(hp:ord.Perm (List.range n))(h:∀x∈path,x+1<n):(aA ord path).Perm (List.range n):=
 (lF λx hx=>by rw[hp.length_eq,xaK];exact h x hx).trans hp
structure aat(m:Rm)(g:Nat)(ord l:zL)(r:zL×Nat):Prop where
 mem:∀x∈r.1,x+1<m.n
 le:m.size (aA ord r.1)<=m.size ord
 stay:m.size (aA ord r.1)=m.size ord->r.1=[]/\∀v∈l,(m.sB g ord (ord.idxOf v)).1=ord.idxOf v
 u5:r.2<=3*(m.n-1)*l.length
 len:r.1.length<=m.n*l.length
theorem mO:∀{l ord:zL},ord.Perm (List.range m.n)->(∀v∈l,v<m.n)->aat m g ord l (m.ct g ord l)
 | [],ord,hp,hl=>⟨by simp[Rm.ct],xai _,λ_=>⟨rfl,by simp⟩,by simp[Rm.ct],by simp[Rm.ct]⟩
 |v::l,ord,hp,hl=>by
  have hv:=Gl hp (hl v zI);have h1:=m.AQ g (ord:=ord) hv;rw[Rm.ct];generalize hq:ord.idxOf v=p at*;generalize hr:m.sB g ord p=a at*;obtain⟨a1,a2,a3,a4⟩:=h1;have hin:=Lo hv a1;have h2:=mO (l:=l) (ord:=aA ord (road p a.1)) (mM hp hin) (λx hx=>hl x (by simp[hx]));generalize m.ct g (aA ord (road p a.1)) l=b at*;obtain⟨b1,b2,b3,b4,b5⟩:=h2;have DM:=vz p a.1;refine⟨λx hx=>?_,?_,λh=>?_,?_,?_⟩
  ·rcases xan.1 hx with h|h
   ·exact hin x h
   exact b1 x h
  ·rw[cr];omega
  ·rw[cr]at h;have e:=a3 zO;rw[e,gD]at b3 h⊢;obtain⟨c1,c2⟩:=b3 h;refine⟨by rw[c1];rfl,λu hu=>?_⟩;rcases xal.1 hu with rfl|hu
   ·rw[hq,hr];exact e
   exact c2 u hu
  ·rw[xaB,xdn,xbV];show a.2+b.2<=_;omega
  rw[xaf,xaB,xdn,xbV];omega
def Rm.dj(m:Rm)(g:Nat)(ord:zL):List (zL)->zL×Nat
 | []=>([],0)
 |l::r=>let a:=m.ct g ord l;let b:=m.dj g (aA ord a.1) r;(a.1++b.1,a.2+b.2)
def Rm.tR(m:Rm)(g:Nat)(ord:zL):List (zL)->Prop
 | []=>False
 | [l]=>¬m.size (aA ord (m.ct g ord l).1)<m.size ord
 |l::r=>m.size (aA ord (m.ct g ord l).1)<m.size ord/\m.tR g (aA ord (m.ct g ord l).1) r
theorem qG{ord l:zL}{r:List (zL)}(hr:r≠[]):m.tR g ord (l::r)↔m.size (aA ord (m.ct g ord l).1)<m.size ord/\m.tR g (aA ord (m.ct g ord l).1) r:=by
 cases r with
 |nil=>exact absurd rfl hr
 |cons a b=>exact xcY
structure aau(m:Rm)(g:Nat)(ord:zL)(ls:List (zL))(r:zL×Nat):Prop where
 mem:∀x∈r.1,x+1<m.n
 le:m.size (aA ord r.1)<=m.size ord
 YO:1<=ls.length/\ls.length+m.size (aA ord r.1)<=m.size ord+1
 still:∀v,v<m.n->(m.sB g (aA ord r.1) ((aA ord r.1).idxOf v)).1=(aA ord r.1).idxOf v
 u5:r.2<=3*(m.n-1)*m.n*ls.length
 len:r.1.length<=m.n*m.n*ls.length
theorem Lh:∀{ls:List (zL)} {ord:zL},ord.Perm (List.range m.n)->(∀l∈ls,l.Perm (List.range m.n))->m.tR g ord ls->aau m g ord ls (m.dj g ord ls)
 | [],ord,hp,hl,hg=>hg.elim
 | [l],ord,hp,hl,hg=>by
  have Wk:=hl l zI;have nD:l.length=m.n:=by rw[Wk.length_eq,xaK]
  obtain⟨a1,a2,a3,a4,a5⟩:=mO (g:=g) hp (λv hv=>xaM.1 (Wk.mem_iff.1 hv)) (l:=l);have X3:¬m.size (aA ord (m.ct g ord l).1)<m.size ord:=hg;have h:m.dj g ord [l]=((m.ct g ord l).1++[],(m.ct g ord l).2+0):=rfl;rw[h,xaL,xcn];have he:m.size (aA ord (m.ct g ord l).1)=m.size ord:=by omega
  obtain⟨c1,c2⟩:=a3 he;refine⟨a1,a2,⟨by simp,by simp;omega⟩,λv hv=>?_,by rw[nD]at a4;simpa using a4,by rw[nD]at a5;simpa using a5⟩;rw[c1];exact c2 v (Wk.mem_iff.2 (xaM.2 hv))
 |l::l2::r,ord,hp,hl,hg=>by
  have Wk:=hl l zI;have nD:l.length=m.n:=by rw[Wk.length_eq,xaK]
  obtain⟨a1,a2,a3,a4,a5⟩:=mO (g:=g) hp (λv hv=>xaM.1 (Wk.mem_iff.1 hv)) (l:=l);obtain⟨g1,g2⟩:=(qG zI).1 hg;have ih:=Lh (ls:=l2::r) (mM hp a1) (λx hx=>hl x (by simp[xal.1 hx])) g2;have h:m.dj g ord (l::l2::r)=((m.ct g ord l).1++(m.dj g (aA ord (m.ct g ord l).1) (l2::r)).1,(m.ct g ord l).2+(m.dj g (aA ord (m.ct g ord l).1) (l2::r)).2):=rfl;rw[h];generalize m.ct g ord l=a at*;generalize m.dj g (aA ord a.1) (l2::r)=b at*;obtain⟨b1,b2,b3,b4,b5,b6⟩:=ih;refine⟨λx hx=>?_,by rw[cr];omega,⟨by simp,?_⟩,?_,?_,?_⟩
  ·rcases xan.1 hx with h|h
   ·exact a1 x h
   exact b1 x h
  ·rw[cr,xaB];omega
  ·rw[cr];exact b4
  ·show a.2+b.2<=_;rw[nD]at a4;rw[xaB,xdn,xbV];omega
  rw[nD]at a5;rw[xaf,xaB,xdn,xbV];omega
theorem yQ{v:Nat}:∀{l ord:zL},m.ct g ord (l++[v])=((m.ct g ord l).1++road ((aA ord (m.ct g ord l).1).idxOf v) (m.sB g (aA ord (m.ct g ord l).1) ((aA ord (m.ct g ord l).1).idxOf v)).1,(m.ct g ord l).2+(m.sB g (aA ord (m.ct g ord l).1) ((aA ord (m.ct g ord l).1).idxOf v)).2)
 | [],ord=>by simp[Rm.ct,aA]
 |u::l,ord=>by
  rw[xaP,Rm.ct,Rm.ct];simp only;rw[yQ (l:=l)];simp only[cr,xaj,xcN]
theorem yS{l:zL}:∀{ls:List (zL)} {ord:zL},m.dj g ord (ls++[l])=((m.dj g ord ls).1++(m.ct g (aA ord (m.dj g ord ls).1) l).1,(m.dj g ord ls).2+(m.ct g (aA ord (m.dj g ord ls).1) l).2)
 | [],ord=>by simp[Rm.dj,aA]
 |u::ls,ord=>by
  rw[xaP,Rm.dj,Rm.dj];simp only;rw[yS (ls:=ls)];simp only[cr,xaj,xcN]
def Rm.s7(m:Rm)(g:Nat)(ord:zL):List (zL)->Prop
 | []=>True
 |l::r=>m.size (aA ord (m.ct g ord l).1)<m.size ord/\m.s7 g (aA ord (m.ct g ord l).1) r
theorem tS{l:zL}:∀{ls:List (zL)} {ord:zL},m.s7 g ord ls->m.size (aA (aA ord (m.dj g ord ls).1) (m.ct g (aA ord (m.dj g ord ls).1) l).1)<m.size (aA ord (m.dj g ord ls).1)->m.s7 g ord (ls++[l])
 | [],ord,_,h=>⟨h,trivial⟩
 |u::ls,ord,h1,h=>by
  refine⟨h1.1,tS (ls:=ls) h1.2 ?_⟩;rw[Rm.dj]at h;simp only[cr]at h;exact h
theorem D5{l:zL}:∀{ls:List (zL)} {ord:zL},m.s7 g ord ls->¬m.size (aA (aA ord (m.dj g ord ls).1) (m.ct g (aA ord (m.dj g ord ls).1) l).1)<m.size (aA ord (m.dj g ord ls).1)->m.tR g ord (ls++[l])
 | [],ord,_,h=>h
 |u::ls,ord,h1,h=>by
  rw[xaP,qG zI];refine⟨h1.1,D5 (ls:=ls) h1.2 ?_⟩;rw[Rm.dj]at h;simp only[cr]at h;exact h
structure Uc(m:Rm)(g:Nat)(ord:zL)(ls:List (zL))(r:zL×Nat):Prop where
 mem:∀x∈r.1,x+1<m.n
 le:ls.length+m.size (aA ord r.1)<=m.size ord
 u5:r.2<=3*(m.n-1)*m.n*ls.length
 len:r.1.length<=m.n*m.n*ls.length
theorem zN:∀{ls:List (zL)} {ord:zL},ord.Perm (List.range m.n)->(∀l∈ls,l.Perm (List.range m.n))->m.s7 g ord ls->Uc m g ord ls (m.dj g ord ls)
 | [],ord,hp,hl,hg=>⟨by simp[Rm.dj],by simp[Rm.dj,aA],by simp[Rm.dj],by simp[Rm.dj]⟩
 |l::r,ord,hp,hl,hg=>by
  have Wk:=hl l zI;have nD:l.length=m.n:=by rw[Wk.length_eq,xaK]
  obtain⟨a1,a2,a3,a4,a5⟩:=mO (g:=g) hp (λv hv=>xaM.1 (Wk.mem_iff.1 hv)) (l:=l);have ih:=zN (ls:=r) (mM hp a1) (λx hx=>hl x (by simp[hx])) hg.2;have hg1:=hg.1;rw[Rm.dj];generalize m.ct g ord l=a at*;generalize m.dj g (aA ord a.1) r=b at*;obtain⟨b1,b2,b3,b4⟩:=ih;rw[nD]at a4 a5;refine⟨λx hx=>?_,by rw[cr,xaB];omega,?_,?_⟩
  ·rcases xan.1 hx with h|h
   ·exact a1 x h
   exact b1 x h
  ·rw[xaB,xdn,xbV];show a.2+b.2<=_;omega
  rw[xaf,xaB,xdn,xbV];omega
end
end ax
set_option maxRecDepth 100000
namespace Go.Proofs
open Go Go.Sx
section
open ax
def ia(kp a b q gr sw:Nat)(la:Int)(st:zV):Array zV:=#[ptr kp,iv (a:Int),iv (b:Int),iv (q:Int),iv (gr:Int),iv (sw:Int),iv la,st]
def fy(wp:Nat)(c:Array zV):Nat×Obj:=(wp,.cells c 324 zZ)
def p6(bx wp:Nat):Nat×Obj:=(bx,.cells #[ptr wp] 321 zZ)
def stf(dn:Bool):Nat:=bif dn then 335 else 337
def BQ(dn:Bool)(bx:Nat):zV:=.func (.func (stf dn)) #[] #[ptr bx]
def EU:Hp->Nat
 |(_,.cells c _ _)::_=>bJ c.toList 1
 |_=>0
section
variable {kp wp bx a b q gr sw p:Nat} {la:Int} {st:zV} {K:Kd} {S:Nat->ax.Fn} {ord o tr:zL} {C:Hp} {dn:Bool}
theorem Qn{l a':Nat}{d:Int}(h:At kp K S ord tr C)(hl:l+1<K.n)(eR:tr.length<17592186044416)(hf:je K S ord l)(ha:(a:Int)+d=(a':Int))(hb:a'<1024)(BT:sw<4611686018427387904):
  Fc zQ 336 #[ptr wp,iv (l:Int),iv d] (fy wp (ia kp a b q gr sw la st)::C) (λv H=>v=iv 0/\∃C',H=fy wp (ia kp a' b q gr (sw+1) la st)::C'/\At kp K S (fR ord l) (tr++[l]) C'):=by
 refine aE λg=>xC (Ld.n ?_);refine aa.fq (uT h hl eR hf) ?_;rintro v C' ⟨rfl,h'⟩;intro J6 h6;refine ae.gX (Br.T (Ld.n ?_));refine ae.inc (Nil.ptr (ai.mk (St.one (c':=ia kp a b q gr (sw+1) la st) (by exact .head _) rfl (by simp[ia]) rfl ?_)));refine Ld.n ?_;refine ae.EH (c:=(a':Int)) ha zO (Nil.ptr (ai.mk (St.one (c':=ia kp a' b q gr (sw+1) la st) (by exact .head _) rfl (by simp[ia]) rfl ?_)));exact JE.mk (h6 _ λgs=>aF.here ⟨rfl,C',rfl,h'⟩)
theorem XA{l:Nat}{d:Int}(h:At kp K S ord tr C)(hl:l+1<K.n)(eR:tr.length<17592186044416)(hf:¬je K S ord l):
  Rd zQ 336 #[ptr wp,iv (l:Int),iv d] (fy wp (ia kp a b q gr sw la st)::C) (· =iv 9):=by
 refine aE λg=>xC (Ld.n ?_);refine aa.eq (nf h hl eR hf) λJ6 h6=>?_;exact ae.gX (Br.F (JE.mk (h6 _ λgs=>br.mk (.refl _) rfl)))
theorem sr(h:At kp K S ord tr C)(Um:1<=K.n):
  Fc zQ 266 #[ptr wp,.bool dn] (fy wp (ia kp a b q gr sw la st)::C) (λv H=>v=.tuple #[]/\∃bx,H=fy wp (ia kp a b q gr sw (bif dn then((K.n-1:Nat):Int)else 0) (BQ dn bx))::p6 bx wp::C):=by
 have hn:=h.lY;refine aE λg=>Jf λb1 _=>?_;cases dn
 ·refine Br.no (Ld.q ?_);refine Nil.ptr (ai.mk (St.one (c':=ia kp a b q gr sw 0 st) (by exact .tail (.head _)) rfl (by simp[ia]) rfl ?_));refine Ld.q ?_;refine Nil.ptr (ai.mk (St.one (c':=ia kp a b q gr sw 0 (BQ false b1)) (by exact .tail (.head _)) rfl (by simp[ia]) rfl ?_));exact aF.mk .swap ⟨rfl,b1,rfl⟩
 refine Br.yes (DR.self (Ld.q ?_));refine Ld.q ?_;refine Ld.n ?_;intro F;refine aa.eq (m9 h) (⟨.refl _,?_⟩);refine ae.bY (b:=1) (Nil.ptr (ai.mk λF=>(St.one (c':=ia kp a b q gr sw ((K.n-1:Nat):Int) st) (by exact .tail (.head _)) rfl (by simp[ia]) rfl ?_)));refine Ld.q ?_;refine Nil.ptr (ai.mk (St.one (c':=ia kp a b q gr sw ((K.n-1:Nat):Int) (BQ true b1)) (by exact .tail (.head _)) rfl (by simp[ia]) rfl ?_));exact aF.mk .swap ⟨rfl,b1,rfl⟩
def oW(dn:Bool)(j:Nat):Nat:=bif dn then j+1 else j-1
def YE(dn:Bool)(j:Nat):Nat:=bif dn then j else j-1
theorem QX{j:Nat}(hs:bif dn then p<=j else 0<j/\j<=p):road p (oW dn j)=road p j++[YE dn j]:=by
 cases dn
 ·simp only[xag]at hs;obtain⟨i,rfl⟩:∃i,j=i+1:=⟨j-1,by omega⟩;exact sE hs.2
 exact sD hs
theorem Cp{j:Nat}(h:At kp K S (aA o (road p j)) (tr++road p j) C)(hp:p<K.n)(hs:bif dn then p<=j/\j+1<K.n else 0<j/\j<=p)(eR:(tr++road p j).length<17592186044416)(hf:je K S (aA o (road p j)) (YE dn j))(BT:sw<4611686018427387904):
  Fc zQ (stf dn) #[ptr bx] (fy wp (ia kp j b q gr sw la st)::p6 bx wp::C) (λv H=>v=iv 0/\∃C',H=fy wp (ia kp (oW dn j) b q gr (sw+1) la st)::p6 bx wp::C'/\At kp K S (aA o (road p (oW dn j))) (tr++road p (oW dn j)) C'):=by
 have hn:=h.lY;have hr:=QX (p:=p) (dn:=dn) (j:=j) (by cases dn<;>simp only[xag,xap]at hs⊢ <;>omega);intro g;rw[hr,gB,<-xaj];cases dn
 ·simp only[xag]at hs;refine xB (R:=aF _) ?_;unfold L337;refine DR.self (Ld.q ?_);refine Ld.q ?_;refine Ld.n ?_;refine ae.bY (b:=1) λF=>?_;refine aa.pre .swap ?_;refine aa.fn (.cons .here) (Qn (a':=j-1) h zO eR hf zO zO BT) ?_;rintro v H ⟨rfl,C',rfl,h'⟩;exact aF.mk .swap ⟨rfl,C',rfl,h'⟩
 simp only[xap]at hs;refine xD (R:=aF _) ?_;unfold L335;refine DR.self (Ld.q ?_);refine Ld.q ?_;refine Ld.n ?_;intro F;refine aa.pre .swap ?_;refine aa.fn (.cons .here) (Qn (a':=j+1) h zO eR hf zO zO BT) ?_;rintro v H ⟨rfl,C',rfl,h'⟩;exact aF.mk .swap ⟨rfl,C',rfl,h'⟩
theorem UW{j:Nat}(h:At kp K S ord tr C)(hs:bif dn then j+1<K.n else 0<j/\j<K.n)(eR:tr.length<17592186044416)(hf:¬je K S ord (YE dn j)):
  Rd zQ (stf dn) #[ptr bx] (fy wp (ia kp j b q gr sw la st)::p6 bx wp::C) (· =iv 9):=by
 have hn:=h.lY;intro g;cases dn
 ·simp only[xag]at hs;refine xB (R:=aF _) ?_;unfold L337;refine DR.self (Ld.q ?_);refine Ld.q ?_;refine Ld.n ?_;refine ae.bY (b:=1) λF=>?_;refine aa.pre .swap ?_;exact aa.eq (XA h zO eR hf) (br.mk .swap rfl)
 simp only[xap]at hs;refine xD (R:=aF _) ?_;unfold L335;refine DR.self (Ld.q ?_);refine Ld.q ?_;refine Ld.n ?_;intro F;refine aa.pre .swap ?_;exact aa.eq (XA h zO eR hf) (br.mk .swap rfl)
theorem Co(dn:Bool):aT zQ (stf dn)=true:=by cases dn<;>kernel_rfl
theorem qh{n j:Nat}(hn:n<=64)(hp:p<n)(hj:j<n):(road p j).length<=64:=by rw[vz];omega
theorem QT(h0:At kp K S o tr C)(hp:p<K.n)(mG:100<=gr/\gr<=1000)(hb:b<=1048576)(BT:sw<1099511627776)(eR:tr.length<17454747090944)(hla:la=bif dn then((K.n-1:Nat):Int)else 0){r:Nat×Nat×Nat}(hr:(rm K S).EX gr o p dn ((rm K S).rest dn p) p b q=r):
  Fc zQ 267 #[ptr wp] (fy wp (ia kp p b q gr sw la (BQ dn bx))::p6 bx wp::C) (λv H=>v=.tuple #[]/\∃C',H=fy wp (ia kp r.1 r.2.1 r.2.2 gr (sw+dst r.1 p) la (BQ dn bx))::p6 bx wp::C'/\At kp K S (aA o (road p r.1)) (tr++road p r.1) C'):=by
 have hn:=h0.lY;refine aE λg=>Je ?_;refine⟨λvs H=>∃(k j b' q':Nat) (C':Hp),vs=[]/\H=fy wp (ia kp j b' q' gr (sw+dst j p) la (BQ dn bx))::p6 bx wp::C'/\At kp K S (aA o (road p j)) (tr++road p j) C'/\k=(rm K S).rest dn j/\(bif dn then p<=j/\j<K.n else j<=p)/\b'<=1048576/\(rm K S).EX gr o p dn k j b' q'=r,
  λ_ H=>bif dn then K.n-EU H else EU H,JE.mk ⟨_,p,b,q,C,rfl,by simp[dst],by rw[gD,xaL];exact h0,rfl,by cases dn<;>simp[hp],hb,hr⟩,?_⟩
 rintro H ⟨k,j,b',q',C',_,rfl,hA,hk,hs,hb',uv⟩ gs;have LO:j<K.n:=by cases dn<;>simp only[xag,xap]at hs<;>omega
 have GA:dst j p<=64:=by unfold dst;omega
 have DM:=qh hn hp LO;have DJ:(tr++road p j).length<17592186044416:=by rw[xaf];omega
 have wo:(rm K S).n=K.n:=rfl;have hsz:∀o:zL,(rm K S).size o=cI K S o:=λ_=>rfl;intro J5 h5;have fin:r=(j,b',q')->J5 [.bool false] (fy wp (ia kp j b' q' gr (sw+dst j p) la (BQ dn bx))::p6 bx wp::C'):=λe=>h5 _ _ λgs=>Br.no (aF.here ⟨rfl,C',by rw[e],by rw[e];exact hA⟩);refine DR.self (Ld.n ?_);refine Ld.n ?_;refine ae.cO (Br.dec (λhne=>?_) (λheq=>?_));rotate_left
 ·have ZH:k=0:=by
   rw[hk];unfold Rm.rest;cases dn<;>simp only[xag,xap]at hla⊢ <;>omega
  subst ZH;exact JE.mk (fin uv.symm)
 have wu:bif dn then j+1<K.n else 0<j:=by
  cases dn<;>simp only[xag,xap]at hla⊢ <;>omega
 obtain⟨k',hk'⟩:∃k',k=k'+1:=by
  refine⟨k-1,?_⟩;rw[hk];unfold Rm.rest;cases dn<;>simp only[xag,xap]at wu⊢ <;>omega
 subst hk';rw[Rm.EX]at uv;change (if(rm K S).fit (aA o (road p j)) (YE dn j)=true then _ else _)=r at uv;refine Ld.n ?_;intro F;refine aL.of (f:=stf dn) rfl (Co dn) ?_;by_cases hf:je K S (aA o (road p j)) (YE dn j);rotate_left
 ·refine aa.eq (args:=#[ptr bx]) (UW hA (by cases dn<;>simp only[xag,xap]at wu⊢ <;>omega) DJ hf) (ae.gX (aM.mk ?_));rw[xac (λh=>hf (qj.1 h))]at uv;exact JE.mk (fin uv.symm)
 refine aa.fn (args:=#[ptr bx]) .here (Cp hA hp (by cases dn<;>simp only[xag,xap]at wu hs⊢ <;>omega) DJ hf zO) ?_;rintro v H ⟨rfl,C2,rfl,n7⟩;refine ae.gX (aM.mk ?_);rw[xae (show(rm K S).fit (aA o (road p j)) (YE dn j)=true from qj.2 hf)]at uv;change (if(if(rm K S).size (aA o (road p (oW dn j)))<b' then(rm K S).size (aA o (road p (oW dn j)))else b')*gr<(rm K S).size (aA o (road p (oW dn j)))*100 then(oW dn j,if(rm K S).size (aA o (road p (oW dn j)))<b' then(rm K S).size (aA o (road p (oW dn j)))else b',if(rm K S).size (aA o (road p (oW dn j)))<b' then oW dn j else q')else(rm K S).EX gr o p dn k' (oW dn j) (if(rm K S).size (aA o (road p (oW dn j)))<b' then(rm K S).size (aA o (road p (oW dn j)))else b') (if(rm K S).size (aA o (road p (oW dn j)))<b' then oW dn j else q'))=r at uv;have hle:=gv n7;rw[hsz]at uv;have afU:sw+dst j p+1=sw+dst (oW dn j) p:=by unfold dst oW;cases dn<;>simp only[xag,xap]at wu hs⊢ <;>omega
 rw[afU];have hnk:k'=(rm K S).rest dn (oW dn j):=by
  unfold Rm.rest at hk⊢;unfold oW;cases dn<;>simp only[xag,xap]at wu hk⊢ <;>omega
 have NX:bif dn then p<=oW dn j/\oW dn j<K.n else oW dn j<=p:=by
  unfold oW;cases dn<;>simp only[xag,xap]at wu hs⊢ <;>omega
 have hms:(bif dn then K.n-oW dn j else oW dn j)<(bif dn then K.n-j else j):=by
  unfold oW;cases dn<;>simp only[xag,xap]at wu⊢ <;>omega
 generalize hj':oW dn j=j' at*;generalize hs':cI K S (aA o (road p j'))=s at*;have acw:∀b2 q2,EU (fy wp (ia kp j b' q' gr (sw+dst j p) la (BQ dn bx))::p6 bx wp::C')=j/\∀C2,EU (fy wp (ia kp j' b2 q2 gr (sw+dst j' p) la (BQ dn bx))::p6 bx wp::C2)=j':=λb2 q2=>⟨by simp[EU,fy,ia,bJ],λC2=>by simp[EU,fy,ia,bJ]⟩;refine JE.mk (h5 _ _ λgs=>Br.yes ?_);refine Ld.n ?_;refine aa.eq (cH n7) ?_;rw[hs'];intro J14 h14;have next:∀b2 q2,b2<=1048576->(if b2*gr<s*100 then(j',b2,q2)else(rm K S).EX gr o p dn k' j' b2 q2)=r->J14 [] (fy wp (ia kp j' b2 q2 gr (sw+dst j' p) la (BQ dn bx))::p6 bx wp::C2):=by
  intro b2 q2 rP qR;refine h14 _ λgs=>?_;have uu:b2*gr<=1048576*1000:=xcb rP mG.2;refine ae.yb (b:=100) (Ld.n ?_);refine Ld.n ?_;refine ae.yb (ae.nq (Br.dec (λhgt=>?_) (λhgt=>?_)))
  ·rw[xae hgt]at qR;subst qR;exact aF.here ⟨rfl,C2,rfl,n7⟩
  rw[xac hgt]at qR;refine aC.mk ⟨k',j',b2,q2,C2,rfl,rfl,n7,hnk,NX,rP,qR⟩ ?_;rw[(acw b2 q2).1,(acw b2 q2).2];exact hms
 refine Ld.n ?_;refine ae.eZ (Br.dec (λhlt=>?_) (λhlt=>?_))
 ·rw[xae hlt,xae hlt]at uv;refine Ld.n ?_;refine Nil.ptr (ai.mk (St.one (c':=ia kp j' s q' gr (sw+dst j' p) la (BQ dn bx)) (by exact .head _) rfl (by simp[ia]) rfl ?_));refine Nil.ptr (ai.mk (St.one (c':=ia kp j' s j' gr (sw+dst j' p) la (BQ dn bx)) (by exact .head _) rfl (by simp[ia]) rfl ?_));exact JE.mk (next _ _ zO uv)
 rw[xac hlt,xac hlt]at uv;exact JE.mk (next _ _ hb' uv)
theorem AD{j t:Nat}(h:At kp K S (aA o (road p j)) (tr++road p j) C)(EZ:o.length=K.n)(hp:p<K.n)(hjt:(p<=t/\t<=j/\j<K.n)\/(j<=t/\t<=p))(BT:sw<17592186044416)(eR:tr.length<17454747090944):
  Fc zQ 268 #[ptr wp,iv (t:Int)] (fy wp (ia kp j b q gr sw la st)::C) (λv H=>v=.tuple #[]/\∃C',H=fy wp (ia kp t b q gr (sw+dst j t) la st)::C'/\At kp K S (aA o (road p t)) (tr++road p t) C'):=by
 have hn:=h.lY;refine aE λg=>Jd ?_;refine⟨λvs H=>∃(i:Nat) (C':Hp),vs=[]/\H=fy wp (ia kp i b q gr (sw+dst j i) la st)::C'/\At kp K S (aA o (road p i)) (tr++road p i) C'/\((p<=t/\t<=i/\i<=j/\j<K.n)\/(j<=i/\i<=t/\t<=p)),
  λ_ H=>dst (EU H) t,JE.mk ⟨j,C,rfl,by simp[dst],h,by omega⟩,?_⟩
 rintro H ⟨i,C',_,rfl,hA,hs⟩ gs;have hin:i<K.n:=by omega
 have hdi:dst j i<=64:=by unfold dst;omega
 have DM:=qh hn hp hin;have Gp:∀i sw C',EU (fy wp (ia kp i b q gr sw la st)::C')=i:=λi sw C'=>by simp[EU,fy,ia,bJ]
 refine Ld.n ?_;refine ae.xU (Br.dec (λhne=>?_) (λheq=>?_));rotate_left
 ·obtain rfl:i=t:=by omega
  exact aF.here ⟨rfl,C',rfl,hA⟩
 refine Ld.n ?_;rcases hs with hs|hs
 ·obtain⟨i,rfl⟩:∃i',i=i'+1:=⟨i-1,by omega⟩;rw[sD zO,gB,<-xaj]at hA;refine aa.fq (BD hA (by rw[sD zO,xaf,xb3]at DM;rw[xaf];omega)) ?_;rintro w C2 ⟨rfl,n7⟩;rw[q5 (by rw[fQ,EZ];omega)]at n7;refine Ext.two (Ld.n ?_);refine ae.inc (Nil.ptr (ai.mk (St.one (c':=ia kp (i+1) b q gr (sw+dst j (i+1)+1) la st) (by exact .head _) rfl (by simp[ia]) rfl ?_)));refine Ld.n ?_;refine ae.eZ (Br.T (Nil.ptr (ai.mk (St.one (c':=ia kp i b q gr (sw+dst j (i+1)+1) la st) (by exact .head _) rfl (by simp[ia]) rfl ?_))));refine aC.mk ⟨i,C2,rfl,by rw[show sw+dst j (i+1)+1=sw+dst j i by unfold dst;omega];rfl,n7,by omega⟩ ?_;show dst (EU (fy wp (ia kp i b q gr (sw+dst j (i+1)+1) la st)::C2)) t<dst (EU (fy wp (ia kp (i+1) b q gr (sw+dst j (i+1)) la st)::C')) t;rw[Gp,Gp];unfold dst;omega
 rw[sE zO,gB,<-xaj]at hA;refine aa.fq (BD hA (by rw[sE zO,xaf,xb3]at DM;rw[xaf];omega)) ?_;rintro w C2 ⟨rfl,n7⟩;rw[q5 (by rw[fQ,EZ];omega)]at n7;refine Ext.two (Ld.n ?_);refine ae.inc (Nil.ptr (ai.mk (St.one (c':=ia kp i b q gr (sw+dst j i+1) la st) (by exact .head _) rfl (by simp[ia]) rfl ?_)));refine Ld.n ?_;refine ae.eZ (Br.F (ae.inc (Nil.ptr (ai.mk (St.one (c':=ia kp (i+1) b q gr (sw+dst j i+1) la st) (by exact .head _) rfl (by simp[ia]) rfl ?_)))));refine aC.mk ⟨i+1,C2,rfl,by rw[show sw+dst j i+1=sw+dst j (i+1)by unfold dst;omega];rfl,n7,by omega⟩ ?_;show dst (EU (fy wp (ia kp (i+1) b q gr (sw+dst j i+1) la st)::C2)) t<dst (EU (fy wp (ia kp i b q gr (sw+dst j i) la st)::C')) t;rw[Gp,Gp];unfold dst;omega
end
end
section
open ax
section
variable {kp v gr:Nat} {K:Kd} {S:Nat->ax.Fn} {ord tr:zL} {C:Hp}
theorem qc(kp:Nat){gr:Int}(C:Hp):Rd zQ 186 #[ptr kp,iv gr] C (· =iv (if gr<100\/1000<gr then 1 else 0)):=by
 refine aE λg=>J0 (ae.aI (Br.no (ae.lss (cm.or (decide (1000<gr)) (λ_=>ae.gtr ⟨rfl,rfl⟩) rfl λgs=>?_))));by_cases h:gr<100\/1000<gr
 ·rw[xae h];refine Br.UA ?_ (br.mk (.refl _) rfl);simpa using h
 rw[xac h];refine Br.XI ?_ (br.mk (.refl _) rfl);simpa using h
theorem YM(hp:ord.Perm (List.range K.n)){p:Nat}(Uk:p<K.n)(hv:ord.getD p 0=v):ord.idxOf v=p:=by
 have EZ:ord.length=K.n:=by rw[hp.length_eq,xaK]
 have fc:ord.Nodup:=hp.nodup_iff.2 xbi;have hm:v∈ord:=by
  rw[<-hv,xar,xaa zO];exact xaF _
 have h1:=xek hm;refine getD_inj fc h1 zO ?_;rw[hv,xar,xaa h1];exact List.getElem_idxOf h1
theorem U0(h:At kp K S ord tr C)(hp:ord.Perm (List.range K.n))(hv:v<K.n)(mG:100<=gr/\gr<=1000)(eR:tr.length<17454747090944){r:Nat×Nat}(hr:(rm K S).sB gr ord (ord.idxOf v)=r):
  Fc zQ 188 #[ptr kp,iv (v:Int),iv (gr:Int)] C (λw H=>w=.tuple #[rep (cI K S ord) (cI K S (aA ord (road (ord.idxOf v) r.1))) r.2,iv 0]/\At kp K S (aA ord (road (ord.idxOf v) r.1)) (tr++road (ord.idxOf v) r.1) H):=by
 have hn:=h.lY;have EZ:ord.length=K.n:=by rw[hp.length_eq,xaK]
 have hsz:=gv h;have wo:(rm K S).n=K.n:=rfl;refine aE λg=>JY λb1 _=>?_;refine aa.eq (qc kp (gr:=(gr:Int)) C) ?_;rw[xac zO];refine ae.cO (Br.F (aa.rq (EB h hv) ?_));rintro w ⟨p,Uk,Zu,rfl⟩;have Zw:=YM hp Uk Zu;rw[Zw]at hr⊢;have aln:p<(rm K S).n:=Uk;refine Ext.two (ae.cO (Br.F (aa.eq (cH h) (Build.mk (cs:=[iv ((cI K S ord:Nat):Int),iv 0,iv 0,.bool false]) zK λxf _=>?_))));refine St.q ?_;refine Ld.f ?_;refine Build.mk (cs:=[ptr kp,iv (p:Int),iv ((cI K S ord:Nat):Int),iv (p:Int),iv (gr:Int),iv 0,iv 0,.nilFunc]) zK λwp _=>?_;refine aa.eq (m9 h) (ae.bY (b:=1) (ae.bY (ae.BS ?_)));obtain⟨X,hX⟩:∃X:Hp,X=[(xf,Obj.cells (List.toArray [iv ((cI K S ord:Nat):Int),iv 0,iv 0,.bool false]) 147 zZ),(b1,Obj.cells #[iv 0,iv 0,iv 0,.bool false] 147 zZ)]:=⟨_,rfl⟩;unfold Rm.sB at hr;simp only[wo]at hr;rw[show(rm K S).size ord=cI K S ord from rfl]at hr;generalize hdn:decide (K.n-1-p<=p)=dn at*;have ahv:∀x:Nat×Obj,aN (x::(xf,Obj.cells (List.toArray [iv ((cI K S ord:Nat):Int),iv 0,iv 0,.bool false]) 147 zZ)::(b1,Obj.cells #[iv 0,iv 0,iv 0,.bool false] 147 zZ)::C) (X++(x::C)):=λx=>.perm (by rw[hX];exact(xaT (l₁:=[_,_])).symm);refine aa.pre (ahv _) ?_;refine aa.fq (sr (wp:=wp) (a:=p) (b:=cI K S ord) (q:=p) (gr:=gr) (sw:=0) (la:=0) (st:=.nilFunc) (dn:=dn) h zO) ?_;rintro w H ⟨rfl,bx,rfl⟩;refine aa.fn (.app .here) (QT h Uk mG zO zO eR rfl rfl) ?_;rintro w H ⟨rfl,C1,rfl,WH⟩;have DS:=(rm K S).v8 gr ord p dn ((rm K S).rest dn p) p (cI K S ord) p (λh=>by unfold Rm.rest;rw[h];exact xai _) (by rw[gD];rfl);generalize (rm K S).EX gr ord p dn ((rm K S).rest dn p) p (cI K S ord) p=a at*;have qR:=(rm K S).v8 gr ord p (!dn) ((rm K S).rest (!dn) p) p a.2.1 a.2.2 (λh=>by unfold Rm.rest;rw[h];exact xai _) DS.size;obtain⟨a1,a2,a3,a4⟩:=DS;unfold Rm.rest at a1;rw[wo]at a1;have uy:a.1<K.n/\((p<=a.1)\/(a.1<=p)):=by cases dn<;>simp only[xag,xap]at a1<;>omega
 have hab:a.2.1<=1048576:=by
  have:a.2.1<=cI K S ord:=by omega
  omega
 have PR:dst a.1 p<=64:=by unfold dst;omega
 refine aa.pre (aN.c8 (.cons .tail) X) ?_;refine aa.fn (.app .here) (AD (t:=p) WH EZ Uk zO zO eR) ?_;rintro w H ⟨rfl,C2,rfl,n7⟩;rw[gD,xaL]at n7;have n7:At kp K S ord tr C2:=n7;refine Ld.n ?_;refine Un.not (aa.fq (sr (dn:= !dn) n7 zO) ?_);rintro w H ⟨rfl,bx2,rfl⟩;refine aa.fn (.app .here) (QT n7 Uk mG hab zO eR rfl rfl) ?_;rintro w H ⟨rfl,C3,rfl,E4⟩;generalize (rm K S).EX gr ord p (!dn) ((rm K S).rest (!dn) p) p a.2.1 a.2.2=b at*;obtain⟨e1,e2,e3,e4⟩:=qR;unfold Rm.rest at e1;rw[wo]at e1;have zu:bif dn then p<=a.2.2/\a.2.2<=a.1 else a.1<=a.2.2/\a.2.2<=p:=by
  cases dn<;>simp only[xag,xap]at a3 a1⊢ <;>omega
 have hb1:b.1<K.n/\((p<=b.1)\/(b.1<=p)):=by cases dn<;>simp only[xag,xap,xcs,xcy]at e1<;>omega
 have yh:dst b.1 p<=64:=by unfold dst;omega
 intro J47 h47;have fin:∀(bb:Nat) (Gc:Int) (st':zV) (Cf:Hp),At kp K S (aA ord (road p r.1)) (tr++road p r.1) Cf->J47 [] (X++(fy wp (ia kp r.1 bb r.1 gr r.2 Gc st')::Cf)):=by
  intro bb Gc st' Cf hAf;rw[hX];refine h47 _ λgs=>?_;refine DR.of (R:=[fy wp (ia kp r.1 bb r.1 gr r.2 Gc st')]) (aN.YX (.tail _ (.tail _ (.head _)))) (Ld.n ?_);intro F;refine aa.eq (cH hAf) (⟨aN.YX (.tail _ (.tail _ (.head _))),?_⟩);refine ai.mk λF=>(St.one (c':=#[iv ((cI K S ord:Nat):Int),iv ((cI K S (aA ord (road p r.1)):Nat):Int),iv 0,.bool false]) (by exact .head _) rfl zI rfl ?_);refine⟨aN.YX (.tail _ (.tail _ (.head _))),?_⟩;refine ai.mk λF=>(St.one (c':=#[iv ((cI K S ord:Nat):Int),iv ((cI K S (aA ord (road p r.1)):Nat):Int),iv ((r.2:Nat):Int),.bool false]) (by exact .head _) rfl zI rfl ?_);refine az.q ?_;refine St.q ?_;refine az.q ?_;exact aF.mk (.skip (.skip .tail)) ⟨rfl,hAf⟩
 refine Ld.n ?_;refine ae.xU (Br.dec (λhne=>?_) (λheq=>?_))
 ·-- the other way is better
  rw[xae hne]at hr;refine Ld.n ?_;refine aa.pre (aN.c8 (.cons .tail) X) ?_;have hbt:(p<=b.2.2/\b.2.2<=b.1/\b.1<K.n)\/(b.1<=b.2.2/\b.2.2<=p):=by
   cases dn<;>simp only[xag,xap,xcs,xcy]at e3 e1<;>omega
  refine aa.fn (.app .here) (AD (t:=b.2.2) E4 EZ Uk hbt zO eR) ?_;rintro w H ⟨rfl,C4,rfl,hA4⟩;subst hr;refine JE.mk ?_;rw[xa5];exact fin b.2.1 _ _ C4 hA4
 -- back again
 have heq:b.2.2=a.2.2:=xdT.1 heq;rw[xac (λh=>h heq)]at hr;refine aa.pre (aN.c8 (.cons .tail) X) ?_;refine aa.fn (.app .here) (AD (t:=p) E4 EZ Uk zO zO eR) ?_;rintro w H ⟨rfl,C4,rfl,hA4⟩;rw[gD,xaL]at hA4;have hA4:At kp K S ord tr C4:=hA4;refine aa.fq (sr (dn:=dn) hA4 zO) ?_;rintro w H ⟨rfl,TA,rfl⟩;obtain⟨s3,hs3⟩:∃s3,s3=0+dst a.1 p+dst a.1 p+dst b.1 p+dst b.1 p:=⟨_,rfl⟩;rw[<-hs3];obtain⟨XL,agj⟩:∃XL,XL=(bif dn then((K.n-1:Nat):Int)else 0):=⟨_,rfl⟩;rw[<-agj];refine⟨λvs H=>∃(i:Nat) (C':Hp),vs=[]/\H=fy wp (ia kp i b.2.1 b.2.2 gr (s3+dst p i) XL (BQ dn TA))::p6 TA wp::(X++C')/\At kp K S (aA ord (road p i)) (tr++road p i) C'/\(bif dn then p<=i/\i<=b.2.2 else b.2.2<=i/\i<=p),
  λ_ H=>dst (EU H) b.2.2,JE.of (H':=fy wp (ia kp p b.2.1 b.2.2 gr s3 XL (BQ dn TA))::p6 TA wp::(X++C4)) (.perm ?_) ⟨p,C4,rfl,by simp[dst],by rw[gD,xaL];exact hA4,?_⟩,?_⟩
 ·exact(xaT (l₁:=X)).trans (List.Perm.cons _ xaT)
 ·rw[heq];cases dn<;>simp only[xag,xap]at zu⊢ <;>omega
 rintro H ⟨i,C5,_,rfl,hA5,hi⟩ gs;rw[heq]at hi;have hin:i<K.n:=by cases dn<;>simp only[xag,xap]at hi zu<;>omega
 have hdi:dst p i<=64:=by unfold dst;omega
 have DM:=qh hn Uk hin;intro J83 h83;refine DR.self (Ld.n ?_);refine Ld.n ?_;refine ae.xU (Br.dec (λhne=>?_) (λhie=>?_))
 ·refine Ld.n ?_;intro F;refine aL.of (f:=stf dn) rfl (Co dn) ?_;have PJ:aN (fy wp (ia kp i b.2.1 b.2.2 gr (s3+dst p i) XL (BQ dn TA))::p6 TA wp::(X++C5)) (X++(fy wp (ia kp i b.2.1 b.2.2 gr (s3+dst p i) XL (BQ dn TA))::p6 TA wp::C5)):=
   .perm ((xaT (l₁:=X)).trans (List.Perm.cons _ xaT)).symm
  refine aa.pre PJ ?_;have hstep:bif dn then p<=i/\i+1<K.n else 0<i/\i<=p:=by
   rw[heq]at hne;cases dn<;>simp only[xag,xap]at hi zu⊢ <;>omega
  have hfit:je K S (aA ord (road p i)) (YE dn i):=by
   refine qj.1 (a4 i ?_);rw[heq]at hne;cases dn<;>simp only[xag,xap]at hi zu⊢ <;>omega
  refine aa.fn (args:=#[ptr TA]) (.app .here) (Cp hA5 Uk hstep (by rw[xaf];omega) hfit zO) ?_;rintro w H ⟨rfl,C6,rfl,hA6⟩;refine ae.gX (aM.mk ?_);have DO:s3+dst p i+1=s3+dst p (oW dn i):=by unfold dst oW;cases dn<;>simp only[xag,xap]at hstep⊢ <;>omega
  rw[DO];refine JE.of (.perm ((xaT (l₁:=X)).trans (List.Perm.cons _ xaT))) (h83 _ _ λgs=>Br.yes ?_);refine aC.mk ⟨oW dn i,C6,rfl,rfl,hA6,?_⟩ ?_
  ·rw[heq]at hne⊢;unfold oW;cases dn<;>simp only[xag,xap]at hi hstep⊢ <;>omega
  have Gp:∀i sw C',EU (fy wp (ia kp i b.2.1 b.2.2 gr sw XL (BQ dn TA))::C')=i:=λi sw C'=>by simp[EU,fy,ia,bJ]
  rw[Gp,Gp,heq];rw[heq]at hne;unfold oW dst;cases dn<;>simp only[xag,xap]at hi hstep⊢ <;>omega
 have hie:i=b.2.2:=xdT.1 hie;subst hie;subst hr;refine JE.mk (h83 _ _ λgs=>Br.no ?_);refine JE.of ?_ (fin b.2.1 XL (BQ dn TA) C5 hA5);refine(aN.cons .tail).trans ?_;refine(aN.perm (xaT (l₁:=X)).symm).trans ?_;have e:s3+dst p b.2.2=dst a.1 p+dst a.1 p+dst b.1 p+(dst b.1 p+dst p b.2.2):=by omega
 rw[e];exact .refl _
end
end
section
theorem Qv{n A:Nat}{L:List (zL)}(hn:n<=16)(hl:L.length<33554432){k:Nat}(hk:k<=n):(ak.st n L A k).length<2199023255551:=by
 have h2:=ak.su n L A k;have h3:2^k<=2^16:=xaA zD zO;have h4:2^k*L.length<=2^16*L.length:=xaZ _ h3;omega
theorem Tf{B:Hp}{v1 v2:zV}{a b:zL}(h1:Words B v1 a)(h2:Words B v2 b)(cD:a.length<2^62):Rd zQ 386 #[v1,v2] B (· =.bool (decide (a=b))):=by
 refine aE λg=>HH (h1.1.bP (h2.1.bP ?_));simp only[aq];refine ae.xU (Br.dec (λh=>?_) (λh=>?_))
 ·exact br.mk (.refl _) (by rw[xak (λe=>h (by rw[e]))])
 refine h1.1.bP ?_;simp only[aq];have hlen:a.length=b.length:=by omega
 refine⟨λvs H=>H=B/\∃j:Nat,vs=[iv (j:Int)]/\j<=a.length/\∀i,i<j->a[i]? =b[i]?,λvs _=>a.length-bJ vs 0,JE.mk ⟨rfl,0,rfl,by omega,by omega⟩,?_⟩;rintro w H ⟨rfl,j,⟨⟩,hj,aJ⟩ gs;refine ae.eZ (Br.dec (λhlt=>?_) (λhlt=>?_))
 ·have ga:a[j]? =some a[j]:=xaa hlt;have gb:b[j]? =some b[j]:=xaa zO;refine h1.1.ld (cL ga) (λ_ h=>h) ?_;refine h2.1.ld (cL gb) (λ_ h=>h) ?_;refine ae.xU (Br.dec (λhne=>?_) (λhne=>?_))
  ·exact br.mk (.refl _) (by rw[xak];rintro rfl;exact hne rfl)
  refine ae.inc (aC.mk ⟨rfl,j+1,rfl,by omega,λi hi=>?_⟩ (by simp[bJ];omega));by_cases e:i=j
  ·subst e;rw[ga,gb];simp;omega
  exact aJ i zO
 refine br.mk (.refl _) ?_;rw[xam];apply xbg ;intro i;by_cases hi:i<a.length
 ·exact aJ i zO
 rw[xaE zO,xaE zO]
theorem Rw{B:Hp}{v:zV}{n u A:Nat}{L:List (zL)}(ht:jL B v (L.map λws=>⟨n,ws⟩))(hf:∀ws∈L,ak.eY n ws)(hne:L≠[])(cD:L.length<4398046511104)(hA:A<2^n)(hu:u<n)(hAu:A.testBit u=false):
  Rd zQ 349 #[v,.int .u64 (A:Int),iv (u:Int)] B (· =.tuple #[iv ((ak.lvl n L A u:Nat):Int),iv 0]):=by
 obtain⟨w0,Uj⟩:∃w0,L[0]? =some w0:=⟨_,xaa (xdc.2 hne)⟩;have wq:n<=16:=(hf w0 (xaw Uj)).ya;have al7:A<65536:=xaN hA (xaA (n:=2) zD wq);refine aE λg=>Ic (aa.eq (vy ht zP) ?_);rw[xam (Df hf)];refine Un.not (Br.no λJ hJ=>(ht.bP ?_));rw[xav];have hpos:0<L.length:=xdc.2 hne;refine ae.nq (b:=0) (Br.adT hpos (ht.ldN (i:=0) (t:=⟨n,w0⟩) (by rw[xat,Uj];rfl) (λ_ h=>h) ?_));refine JE.mk (hJ _ _ λgs=>?_);simp only;refine ae.lss (cm.or (decide (n<=u)) (λ_=>?_) rfl λgs=>?_)
 ·exact ae.s6 ⟨by trivial,rfl⟩
 rw[show(decide ((u:Int)<0)||decide (n<=u))=false by simp;omega];refine cm.or (decide (A>>>n≠0)) (λ_=>?_) rfl λgs=>?_
 ·exact ae.ic (by simp[bA];omega) (ae.xU (b:=0) ⟨by trivial,rfl⟩)
 rw[show(false||decide (A>>>n≠0))=false by rw[xaW,xcQ hA];rfl];apply Br.no;have acg:∀k,A>>>k<18446744073709551616:=λk=>xau (xbo _ _) zO;refine ae.ic (by simp[bA];omega) (ae.jj (b:=1) (by simpa[bA]using acg u) zD (ae.dJ (b:=1) (Br.Tn (by rw[ak.uS,hAu];simp) (aa.fq (Nz ht rfl hf zO) ?_))));rintro r H ⟨b,es,ck,m,N,rfl,rfl,hE,hm⟩;have hbound:∀k,k<=n->∀m:List (List UInt8×zL),(m.map Prod.snd).Nodup->(∀x,x∈m.map Prod.snd↔x∈ak.st n L A k)->m.length<4611686018427387904:=by
  intro k hk m fc hmem;have h1:=(ak.jE fc (ak.nM n L A k) hmem).length_eq;have h2:=ak.su n L A k;have h3:2^k<=2^16:=xaA zD zO;have h4:2^k*L.length<=2^16*L.length:=xaZ _ h3;rw[xav]at h1;omega
 refine⟨λvs H=>∃(k:Nat) (b:Nat) (es:Array MapEntry) (ck:Nat) (m:List (List UInt8×zL)) (N:Hp),vs=[.map (some b),iv (k:Int)]/\k<=n/\H=(b,.map es ck)::(N++B)/\gI n (N++B) es ck m/\∀x,x∈m.map Prod.snd↔x∈ak.st n L A k,
  λvs _=>n-bJ vs 1,JE.mk ⟨0,b,es,ck,m,N,rfl,by omega,rfl,hE,λx=>by rw[hm];exact ak.gn.symm⟩,?_⟩
 clear hm hE;rintro w25 w26 H ⟨k,b,es,ck,m,N,⟨⟩,hk,rfl,hE,hm⟩ gs;have sW:=hE.mono (B':=(b,Obj.map es ck)::(N++B)) zS;refine ae.eZ (Br.dec (λhlt=>?_) (λhlt=>?_))
 ·intro J hJ;refine ae.ic (by simp[bA];omega) (ae.jj (b:=1) (by simpa[bA]using acg k) zD (ae.dJ (b:=1) (Br.dec (λh=>?_) (λh=>?_))))
  ·have hb:=(ak.uS A k).1 h;refine aa.fq (D4 (.head _) sW hlt (hbound k hk m hE.nodup hm)) ?_;rintro r H ⟨b',es',bD,m',N',rfl,rfl,DY,hm'⟩;refine Ext.mk rfl (Ext.mk rfl (JE.mk (hJ _ _ λgs=>?_)));refine ae.inc (aC.mk ⟨k+1,b',es',bD,m',N'++(b,.map es ck)::N,rfl,by omega,by rw[xaj];rfl,by rw[xaj];exact DY,λx=>?_⟩ (by simp[bJ];omega));rw[hm',ak.st,xae hb,ak.cf];constructor
   ·rintro⟨t,h1,h2⟩;exact⟨t,(hm t).1 h1,h2⟩
   rintro⟨t,h1,h2⟩;exact⟨t,(hm t).2 h1,h2⟩
  have hb:A.testBit k=false:=by cases hh:A.testBit k;rfl;exact absurd ((ak.uS A k).2 hh) h
  refine JE.mk (hJ _ _ λgs=>?_);refine ae.inc (aC.mk ⟨k+1,b,es,ck,m,N,rfl,by omega,rfl,hE,λx=>?_⟩ (by simp[bJ];omega));rw[hm,ak.st,hb];simp
 have:k=n:=by omega
 subst this;refine aa.fq (D4 (.head _) sW hu (hbound k hk m hE.nodup hm)) ?_;rintro r H ⟨b',es',bD,m',N',rfl,rfl,DY,hm'⟩;refine Ext.mk rfl (Ext.mk rfl (br.mk ?_ ?_))
 ·exact .skip (.gC (.skip .right))
 have:=ak.mT (n:=k) (v:=u) (ak.jE hE.nodup (ak.nM k L A k) hm);unfold ak.lvl;rw[<-this];rfl
theorem u6{B:Hp}{v:zV}{t:Tb}(ht:Fa B v t):Rd zQ 348 #[v] B (· =.tuple (if TF t then#[.int .u64 ((ak.p7 t.n.toNat t.ws:Nat):Int),iv 0]else#[.int .u64 0,iv 5])):=by
 obtain⟨tn,ws⟩:=t;obtain⟨s,rfl,hw⟩:=ht;simp only at hw⊢;refine aE λg=>Ie λb1 _=>?_;refine az.q ?_;refine wY λb2=>?_;refine aa.rd .here (wF (t:=⟨tn,ws⟩) (by exact .head _) (hw.mono zS)) ?_;rintro v rfl;apply Un.not;by_cases hT:TF ⟨tn,ws⟩
 case neg=>
  rw[xak hT,xac hT];exact Br.yes (br.mk (by repeat (first|exact aN.refl _|apply aN.cons|apply aN.skip|apply aN.c8|apply aN.gC)) rfl)
 rw[xam hT,xae hT];apply Br.no;obtain⟨n,rfl⟩:∃n:Nat,tn=n:=⟨tn.toNat,by have:=hT.1;simp only at this;omega⟩;have hf:ak.eY n ws:=by have:=hT.2;simpa using this
 refine ai.mk (Ld.mk zM rfl ?_);refine⟨λvs H=>∃(k:Nat) (N:Hp),vs=[.int .u64 ((ak.lH n ws k:Nat):Int),iv (k:Int)]/\k<=n/\H=(b1,.cells (Value.cells (.agg #[iv (n:Int),s])) 116 zZ)::(N++B),
  λvs _=>n-bJ vs 1,JE.of .tail ⟨0,[],rfl,by omega,rfl⟩,?_⟩
 rintro w15 w16 H ⟨k,N,⟨⟩,hk,rfl⟩ gs;have wq:=hf.ya;have RZ:=ak.nL n ws k;have akL:ak.lH n ws k<65536:=xaN RZ (xaA (n:=2) zD (by omega:k<=16));refine ae.eZ (Br.dec (λhlt=>?_) (λhlt=>?_))
 ·intro J hJ;refine DR.self (az.q (az.q ?_));refine aa.pq (B:=N++B) (Bj (v:=.agg (List.toArray [iv (n:Int),s])) ⟨s,rfl,hw.mono zS⟩ hf hlt) ?_;rintro v N1 ⟨s1,rfl,jg⟩;refine⟨.cons .right,B7.mk rfl ?_⟩;refine aa.pq (B:=N1++(N++B)) (Bj (v:=.agg (List.toArray [iv (n:Int),s])) ⟨s,rfl,hw.mono zS⟩ hf hlt) ?_;rintro v N2 ⟨s2,rfl,o6⟩;refine⟨.cons (.gC .right),B7.mk rfl ?_⟩;refine aa.eq (B:=N2++(N1++(N++B))) (Tf (jg.mono zS) o6 (by have:=uO (ak.eB (v:=k) (ws:=ws) (b:=false) hf.ya);simp only;omega)) (⟨.cons (.gC .right),Un.not ?_⟩);have ik:JE J [.int .u64 ((ak.lH n ws (k+1):Nat):Int)] ((b1,.cells (Value.cells (.agg #[iv (n:Int),s])) 116 zZ)::(N2++(N1++(N++B)))):=by
   refine JE.mk (hJ _ _ λgs=>?_);exact ae.inc (aC.mk ⟨k+1,N2++(N1++N),rfl,by omega,by rw[xaj,xaj]⟩ (by simp[bJ];omega))
  rw[ak.lH]at ik;by_cases hd:ak.dep n ws k=true
  ·rw[xae hd]at ik;have:ak.iN n ws k false≠ak.iN n ws k true:=by simpa[ak.dep]using hd
   rw[xak this];refine Br.yes (ae.kW (a:=1) ?_);have h2:2^k<65536:=xaN (xbk (n:=16) zD zO) zD;rw[xa4,xbc zO];exact ae.C9 (by simp[bA];omega) (by simp[bA];omega) ik
  rw[xac hd]at ik;have:ak.iN n ws k false=ak.iN n ws k true:=by simpa[ak.dep]using hd
  rw[xam this];exact Br.no ik
 have:k=n:=by omega
 subst this;refine br.mk (.skip .right) ?_;simp[ak.p7]
theorem Rf{B:Hp}{v:zV}{ts:List Tb}(ht:jL B v ts)(cD:ts.length<4398046511104):Px zQ 347 #[v] B (λr _=>∃s,r=.tuple #[s,iv (if r9 ts then 0 else 5)]):=by
 refine aE λg=>Ig (aa.eq (vy ht zO) (Un.not ?_));by_cases hO:r9 ts
 case neg=>rw[xak hO,xac hO];exact Br.yes (Hs.mk (.refl _) ⟨_,rfl⟩)
 rw[xam hO,xae hO];refine Br.no (ht.bP (ae.dJ (b:=0) (Br.dec (λh0=>Hs.mk (.refl _) ⟨_,rfl⟩) (λh0=>?_))));obtain⟨n,L,wq,rfl,hne,hf⟩:=Ly hO (by intro e;rw[e]at h0;exact h0 rfl);rw[xav]at cD;obtain⟨w0,Uj⟩:∃w0,L[0]? =some w0:=⟨_,xaa (xdc.2 hne)⟩;refine ht.ldN (i:=0) (t:=⟨n,w0⟩) (by rw[xat,Uj];rfl) (λ_ h=>h) ?_;simp only;refine cZ.ints zO zO λbw=>?_;refine ht.bP ?_;refine⟨λvs H=>∃(k:Nat) (l:zL),vs=[iv (k:Int)]/\k<=L.length/\H=(bw,.cells (ay .u64 (iw l)) 33 zZ)::B/\l.length=n/\∀w∈l,w<18446744073709551616,
  λvs _=>L.length-bJ vs 0,JE.mk ⟨0,List.replicate n 0,rfl,by omega,by simp[iw],by simp,λw hw=>by rw[xb0 hw];decide⟩,?_⟩
 rintro w H ⟨k,l,⟨⟩,hk,rfl,hl,R7⟩ gs;rw[xav];refine ae.eZ (Br.dec (λhlt=>?_) (λhlt=>?_))
 ·have hg:(L.map λws=>(⟨n,ws⟩:Tb))[k]? =some ⟨n,L[k]⟩:=by rw[xat,xaa hlt];rfl
  have pB:=hf L[k] (xaF hlt);refine ht.ld hg zS λs hw=>?_;intro b2 _;refine St.p ?_ ?_
  ·have:=bO hw;simpa[Value.oneCell']using this
  refine az.q ?_;refine aa.eq (B:=B) (u6 (v:=.agg (List.toArray [iv (n:Int),s])) (t:=⟨n,L[k]⟩) ⟨s,rfl,hw⟩) ?_;rw[xae (show TF ⟨(n:Int),L[k]⟩from⟨by simp,by simpa using pB⟩)];refine Ext.mk rfl (Ext.mk rfl (aR.mk ?_));simp only[xa3];have ace:ak.p7 n L[k]<65536:=xaN (ak.nL n L[k] n) (xaA (n:=2) zD wq);refine⟨λvs H=>∃(j:Nat) (l:zL),vs=[iv (j:Int)]/\j<=n/\H=(bw,.cells (ay .u64 (iw l)) 33 zZ)::B/\l.length=n/\∀w∈l,w<18446744073709551616,
   λvs _=>n-bJ vs 0,JE.of .tail ⟨0,l,rfl,by omega,rfl,hl,R7⟩,?_⟩
  rintro w H ⟨j,l,⟨⟩,hj,rfl,hl,R7⟩ gs;refine ae.eZ (Br.dec (λX1=>?_) (λX1=>?_))
  ·intro J hJ;have ik:∀l:zL,l.length=n->(∀w∈l,w<18446744073709551616)->JE J [] ((bw,.cells (ay .u64 (iw l)) 33 zZ)::B):=λl hl R7=>by
    refine JE.mk (hJ _ λgs=>?_);exact ae.inc (aC.mk ⟨j+1,l,rfl,by omega,rfl,hl,R7⟩ (by simp[bJ];omega))
   have hsh:ak.p7 n L[k]>>>j<65536:=xau (xbo _ _) ace;refine ae.ic (by simp[bA];omega) (ae.jj (b:=1) (by simp[bA];omega) zD (ae.dJ (b:=1) (Br.dec (λh=>?_) (λh=>ik l hl R7))));refine DR.self ?_;have ZN:l[j]? =some l[j]:=xaa zO;have hlj:=R7 _ (xaF (show j<l.length by omega));refine av.nat X1 ?_;refine Ld.mk (v:=.int .u64 (l[j]:Int)) (by exact .head _) (by simp[ay,iw,ZN]) ?_;refine ae.kW (a:=1) ?_;have h2:2^j<65536:=xaN (xbk (n:=16) zD zO) zD;rw[xa4,xbc zO];refine ae.pV (by simp[bA];omega) (by simp[bA];omega) ?_;have h3:=fH (ak.p7 n L[k]) (2^j);refine ae.C9 (by simp only[bA];exact hlj) (by simp only[bA];omega) (av.nat X1 ?_);refine St.ints (l:=iw l) (by exact .head _) zP ?_;have e:(iw l).set j ((l[j]|||iJ (ak.p7 n L[k]) (2^j):Nat):Int)=iw (l.set j (l[j]|||iJ (ak.p7 n L[k]) (2^j))):=by simp[iw,xcT]
   rw[e];refine ik _ (by simp[hl]) λw hw=>?_;rcases xci hw with hw|rfl
   ·exact R7 w hw
   exact xbF (n:=64) hlj zO
  exact ae.inc (aC.mk ⟨k+1,l,rfl,by omega,rfl,hl,R7⟩ (by simp[bJ];omega))
 exact Hs.mk (by repeat (first|exact bV.refl _|apply bV.cons|apply bV.app)) ⟨_,rfl⟩
end
end Go.Proofs
namespace ak
open Go.Sx
def gE:zL->Nat
 | []=>0
 |x::r=>r.foldl min x
theorem rU:∀(r:zL) (x:Nat),r.foldl min x<=x/\∀y∈r,r.foldl min x<=y
 | [],x=>⟨xai _,by simp⟩
 |z::r,x=>by
  obtain⟨h1,h2⟩:=rU r (min x z);refine⟨by rw[xcI];omega,λy hy=>?_⟩;rw[xcI];rcases xal.1 hy with rfl|hy
  ·omega
  exact h2 y hy
theorem pR:∀(r:zL) (x:Nat),r.foldl min x=x\/r.foldl min x∈r
 | [],x=>.inl rfl
 |z::r,x=>by
  rw[xcI];rcases pR r (min x z)with h|h
  ·rw[h];rcases Nat.le_total x z with h'|h'
   ·left;omega
   right;rw[xdw h'];simp
  right;exact xbw _ h
theorem Dr{l:zL}{y:Nat}(h:y∈l):gE l<=y:=by
 cases l with
 |nil=>simp at h
 |cons x r=>
  obtain⟨h1,h2⟩:=rU r x;rcases xal.1 h with rfl|h
  ·exact h1
  exact h2 y h
theorem oY{l:zL}(h:l≠[]):gE l∈l:=by
 cases l with
 |nil=>exact absurd rfl h
 |cons x r=>
  rcases pR r x with h|h
  ·show r.foldl min x∈_;rw[h];simp
  exact xbw _ h
theorem Ds{l:zL}{m:Nat}(h1:m∈l)(h2:∀y∈l,m<=y):gE l=m:=
 xd6 (Dr h1) (h2 _ (oY (by intro e;rw[e]at h1;simp at h1)))
theorem FZ(l:zL)(x:Nat):gE (l++[x])=if l=[]then x else min (gE l) x:=by
 cases l with
 |nil=>rfl
 |cons y r=>simp[gE,xdp]
def bM(n a:Nat):zL:=(List.range n).filter λv=> !a.testBit v
def has(n a:Nat):zL:=(List.range n).filter λv=>a.testBit v
theorem cT{n a v:Nat}:v∈bM n a↔v<n/\a.testBit v=false:=by simp[bM]
theorem rA{n a v:Nat}:v∈has n a↔v<n/\a.testBit v=true:=by simp[has]
theorem ob{α:Type}(p q:α->Bool)(x:α):∀(l:List α),l.Nodup->x∈l->p x=true->q x=false->(∀y∈l,y≠x->q y=p y)->(l.filter q).length+1=(l.filter p).length
 | [],_,h,_,_,_=>by simp at h
 |y::l,nd,h,hp,hq,aJ=>by
  rw[xaX]at nd;by_cases e:y=x
  ·subst e;have hsame:l.filter q=l.filter p:=by
    apply xdo;intro z hz;exact aJ z (by simp[hz]) (λe=>nd.1 (e▸hz))
   rw[xbn,xbn,hp,hq,hsame];simp
  have hxl:x∈l:=by rcases xal.1 h with h|h;exact absurd h.symm e;exact h
  have ih:=ob p q x l nd.2 hxl hp hq λz hz hne=>aJ z (by simp[hz]) hne;have hy:=aJ y zI e;rw[xbn,xbn,hy];cases p y
  ·simpa using ih
  simp only[xa7,xaB];omega
theorem q8{a u v:Nat}(h:v≠u):(aB a u true).testBit v=a.testBit v:=by rw[aj,xac h]
theorem gN{n a v:Nat}(h:v∈bM n a):(bM n (aB a v true)).length+1=(bM n a).length:=by
 obtain⟨h1,h2⟩:=cT.1 h;refine ob _ _ v (List.range n) xbi (xaM.2 h1) (by simp[h2]) (by simp[aj]) λy hy hne=>?_;rw[q8 hne]
def TM(n:Nat)(c:Nat->Nat->Nat):Nat->Nat->Nat
 |0,_=>0
 |f+1,a=>gE ((bM n a).map λv=>c a v+TM n c f (aB a v true))
def par(n:Nat)(c:Nat->Nat->Nat):Nat->Nat->Nat
 |0,_=>0
 |f+1,s=>gE ((has n s).map λv=>c (aB s v false) v+par n c f (aB s v false))
theorem Ew{n:Nat}{c:Nat->Nat->Nat}:∀(f:Nat) (a:Nat),(bM n a).length<=f->TM n c (f+1) a=TM n c f a
 |0,a,h=>by
  have:bM n a=[]:=xcP.1 zO;simp[TM,this,gE]
 |f+1,a,h=>by
  rw[TM,TM];congr 1;apply xbj;intro v hv;rw[Ew f _ (by have:=gN hv;omega)]
theorem VA(n a:Nat):(bM n a).length<=n:=by have:=xb2 (λv=> !a.testBit v) (List.range n);simpa[bM]using this
def B(n:Nat)(c:Nat->Nat->Nat)(a:Nat):Nat:=TM n c n a
def W(n:Nat)(c:Nat->Nat->Nat)(s:Nat):Nat:=par n c n s
theorem KV(n:Nat)(c:Nat->Nat->Nat)(a:Nat):B n c a=gE ((bM n a).map λv=>c a v+B n c (aB a v true)):=by
 unfold B;rw[<-Ew n a (VA n a)];rfl
theorem aef{n:Nat}{c:Nat->Nat->Nat}{a v:Nat}(hv:v∈bM n a):B n c a<=c a v+B n c (aB a v true):=by
 rw[KV n c a];exact Dr (xao.2 ⟨v,hv,rfl⟩)
theorem aeg{n:Nat}{c:Nat->Nat->Nat}{a:Nat}(h:bM n a≠[]):∃v∈bM n a,B n c a=c a v+B n c (aB a v true):=by
 have:=oY (l:=(bM n a).map λv=>c a v+B n c (aB a v true)) (by simpa using h);rw[<-KV]at this;obtain⟨v,hv,e⟩:=xao.1 this;exact⟨v,hv,e.symm⟩
theorem MA{n:Nat}{c:Nat->Nat->Nat}{a:Nat}(h:bM n a=[]):B n c a=0:=by rw[KV,h];rfl
structure Used(n:Nat)(c:Nat->Nat->Nat)(U:Nat):Prop where
 zero:∀a v,v<n->a.testBit v=false->U.testBit v=false->c a v=0
 mask:∀a v,v<n->a.testBit v=false->c a v=c (a&&&U) v
theorem ot{a U v:Nat}{b:Bool}:(aB a v b) &&&U=if U.testBit v then aB (a&&&U) v b else a&&&U:=by
 apply xaY;intro k;by_cases hU:U.testBit v=true
 ·rw[xae hU,xbd,aj,aj,xbd];by_cases e:k=v
  ·subst e;simp[hU]
  simp[e]
 rw[xac hU,xbd,aj,xbd];by_cases e:k=v
 ·subst e;simp[hU]
 simp[e]
def dI(n U a:Nat):zL:=(bM n a).filter λv=>U.testBit v
theorem fD{n U a v:Nat}:v∈dI n U a↔v<n/\a.testBit v=false/\U.testBit v=true:=by simp[dI,cT,and_assoc]
theorem lZ(n U a:Nat):dI n U (a&&&U)=dI n U a:=by
 unfold dI bM;rw[xdi,xdi];apply xdo;intro v _;rw[xbd];cases a.testBit v<;>cases U.testBit v<;>rfl
theorem KU{n U:Nat}{c:Nat->Nat->Nat}(hU:Used n c U):∀(d a:Nat),(bM n a).length=d->B n c a=gE ((dI n U a).map λv=>c (a&&&U) v+B n c (aB a v true))/\∀a',(bM n a').length<=d->a'&&&U=a&&&U->B n c a'=B n c a:=by
 intro d;induction d using Nat.strongRecOn with
 |_ d ih=>
  have key:∀a,(bM n a).length=d->B n c a=gE ((dI n U a).map λv=>c (a&&&U) v+B n c (aB a v true)):=by
   intro a hd;by_cases hm:bM n a=[]
   ·have h1:dI n U a=[]:=by unfold dI;rw[hm];rfl
    rw[h1,MA hm];rfl
   have hle:∀v∈dI n U a,B n c a<=c (a&&&U) v+B n c (aB a v true):=λv hv=>by
    obtain⟨h1,h2,h3⟩:=fD.1 hv;rw[<-hU.mask a v h1 h2];exact aef (cT.2 ⟨h1,h2⟩)
   obtain⟨v,hv,he⟩:=aeg (c:=c) hm;obtain⟨h1,h2⟩:=cT.1 hv;by_cases hu:U.testBit v=true
   ·symm;refine Ds (xao.2 ⟨v,fD.2 ⟨h1,h2,hu⟩,by rw[<-hU.mask a v h1 h2];exact he.symm⟩) λy hy=>?_;obtain⟨w,hw,rfl⟩:=xao.1 hy;exact hle w hw
   have Bb:U.testBit v=false:=by simpa using hu
   rw[hU.zero a v h1 h2 Bb,xa5]at he;have hlt:(bM n (aB a v true)).length<d:=by have:=gN hv;omega
   have hand:aB a v true&&&U=a&&&U:=by rw[ot,xac hu]
   obtain⟨k1,k2⟩:=ih _ hlt (aB a v true) rfl;have X0:dI n U (aB a v true)=dI n U a:=by rw[<-lZ,hand,lZ]
   by_cases Gs:dI n U a=[]
   ·rw[X0,Gs]at k1;rw[he,k1,Gs];rfl
   symm;rw[X0,hand]at k1;have hmem:=oY (l:=(dI n U a).map λw=>c (a&&&U) w+B n c (aB (aB a v true) w true)) (by simpa using Gs);rw[<-k1]at hmem;obtain⟨w,hw,kz⟩:=xao.1 hmem;obtain⟨w1,w2,w3⟩:=fD.1 hw;have hwv:w≠v:=λe=>by rw[e]at w3;rw[Bb]at w3;cases w3
   have X7:aB (aB a v true) w true=aB (aB a w true) v true:=by
    apply xaY;intro k;rw[aj,aj,aj,aj];by_cases e1:k=w<;>by_cases e2:k=v<;>simp[e1,e2]
   have hmw:w∈bM n a:=cT.2 ⟨w1,w2⟩;have hsub:B n c (aB (aB a v true) w true)=B n c (aB a w true):=by
    have qy:(bM n (aB a w true)).length<d:=by have:=gN hmw;omega
    refine(ih _ qy (aB a w true) rfl).2 _ ?_ ?_
    ·have hvm:v∈bM n (aB a w true):=cT.2 ⟨h1,by rw[aj,xac (xbb hwv)];exact h2⟩;have:=gN hvm;rw[X7];omega
    rw[X7,ot,xac hu]
   have hval:c (a&&&U) w+B n c (aB a w true)=B n c a:=by rw[he,<-kz,hsub]
   refine Ds (xao.2 ⟨w,hw,hval⟩) λy hy=>?_;obtain⟨z,hz,rfl⟩:=xao.1 hy;exact hle z hz
  intro a hd;refine⟨key a hd,λa' dR hand=>?_⟩;have X0:dI n U a'=dI n U a:=by rw[<-lZ,hand,lZ]
  have h':B n c a'=gE ((dI n U a').map λv=>c (a'&&&U) v+B n c (aB a' v true)):=by
   rcases xes (bM n a').length d with h|h
   ·exact(ih _ h a' rfl).1
   exact key a' zO
  rw[h',key a hd,X0,hand];congr 1;apply xbj;intro v hv;congr 1;obtain⟨v1,v2,v3⟩:=fD.1 hv;have hma:v∈bM n a:=cT.2 ⟨v1,v2⟩;have aga:v∈bM n a':=by
   rw[<-X0]at hv;exact cT.2 ⟨v1,(fD.1 hv).2.1⟩
  have hlt:(bM n (aB a v true)).length<d:=by have:=gN hma;omega
  refine(ih _ hlt (aB a v true) rfl).2 _ ?_ ?_
  ·have:=gN aga;have:=gN hma;omega
  rw[ot,ot,hand]
theorem Yt{n U:Nat}{c:Nat->Nat->Nat}(hU:Used n c U)(a:Nat):B n c (a&&&U)=B n c a:=by
 have e:(a&&&U) &&&U=a&&&U:=by rw[Nat.and_assoc,Nat.and_self]
 rcases Nat.le_total (bM n (a&&&U)).length (bM n a).length with h|h
 ·exact(KU hU _ a rfl).2 _ h e
 exact((KU hU _ (a&&&U) rfl).2 a h e.symm).symm
theorem aee{n U:Nat}{c:Nat->Nat->Nat}(hU:Used n c U)(a:Nat):B n c a=gE ((dI n U a).map λv=>c (a&&&U) v+B n c (aB (a&&&U) v true)):=by
 rw[(KU hU _ a rfl).1];congr 1;apply xbj;intro v hv;obtain⟨v1,v2,v3⟩:=fD.1 hv;congr 1;rw[<-Yt hU (aB a v true),ot,xae v3]
def ord(n:Nat)(c:Nat->Nat->Nat):Nat->Nat->zL
 |0,_=>[]
 |f+1,a=>match(bM n a).find? λv=>c a v+B n c (aB a v true)==B n c a with
  |some v=>v::ord n c f (aB a v true)
  |none=>[]
theorem vM{n:Nat}{c:Nat->Nat->Nat}{f a:Nat}(h:bM n a≠[]):∃v,v∈bM n a/\c a v+B n c (aB a v true)=B n c a/\(∀u∈bM n a,u<v->c a u+B n c (aB a u true)≠B n c a)/\ord n c (f+1) a=v::ord n c f (aB a v true):=by
 obtain⟨w,hw,he⟩:=aeg (c:=c) h;cases hf:(bM n a).find? λv=>c a v+B n c (aB a v true)==B n c a with
 |none=>
  rw[xcC]at hf;exact absurd (by simpa using he.symm) (hf w hw)
 |some v=>
  have h1:=xeB hf;refine⟨v,xdH hf,by simpa using h1,λu hu huv=>?_,by rw[ord,hf]⟩;rw[xd7]at hf;obtain⟨_,as1,bs,hab,hno⟩:=hf;have hs:(bM n a).Pairwise (· < ·):=List.Pairwise.filter _ List.pairwise_lt_range;rw[hab]at hs hu;rcases xan.1 hu with hu|hu
  ·have:=hno u hu;simpa using this
  rw[List.pairwise_append]at hs;have h2:=hs.2.1;rw[List.pairwise_cons]at h2;rcases xal.1 hu with rfl|hu
  ·omega
  have:=h2.1 u hu;omega
end ak
namespace ak
open Go.Sx
theorem cu{x u v:Nat}{b c:Bool}(h:u≠v):aB (aB x u b) v c=aB (aB x v c) u b:=by
 apply xaY;intro k;rw[aj,aj,aj,aj];by_cases e1:k=u<;>by_cases e2:k=v
 ·exact absurd (e1.symm.trans e2) h
 ·simp[e1,h]
 ·simp[e2,xbb h]
 simp[e1,e2]
theorem W0{n u v:Nat}{ws:zL}{b:Bool}(hf:eY n ws)(hu:u<n)(hv:v<n)(h:dep n ws v=false):dep n (iN n ws u b) v=false:=by
 by_cases e:u=v
 ·subst e;cases hd:dep n (iN n ws u b) u
  ·rfl
  obtain⟨x,hx,hne⟩:=(uQ (eB hf.ya) hu).1 hd;rw[eX hf hu (fX hx hu),eX hf hu (fX hx hu)]at hne;refine absurd ?_ hne;congr 1;apply xaY;intro k;rw[aj,aj,aj,aj];by_cases e:k=u<;>simp[e]
 cases hd:dep n (iN n ws u b) v
 ·rfl
 obtain⟨x,hx,hne⟩:=(uQ (eB hf.ya) hv).1 hd;rw[eX hf hu (fX hx hv),eX hf hu (fX hx hv),cu (xbb e),cu (xbb e)]at hne;have:=(uQ hf hv).2 ⟨aB x u b,fX hx hu,hne⟩;rw[h]at this;cases this
theorem AJ{n:Nat}{L:Fs}{A:Nat}(hL:∀t∈L,eY n t)(hn:n<=16){v:Nat}(hv:v<n)(h:∀t∈L,dep n t v=false):∀k,k<=n->∀t∈st n L A k,dep n t v=false
 |0,_,t,ht=>h t (gn.1 ht)
 |k+1,hk,t,ht=>by
  rw[st]at ht;split at ht
  ·obtain⟨u,hu,b,rfl⟩:=cf.1 ht;exact W0 (Fy hL hn k u hu) zO hv (AJ hL hn hv h k zO u hu)
  exact AJ hL hn hv h k zO t ht
def aX(n:Nat)(L:Fs):Nat:=L.foldl (λu t=>u|||p7 n t) 0
theorem pJ(n v:Nat):∀(L:Fs) (u:Nat),(L.foldl (λu t=>u|||p7 n t) u).testBit v=(u.testBit v||L.any λt=>(p7 n t).testBit v)
 | [],u=>by simp
 |t::L,u=>by rw[xcI,pJ n v L,xb1,List.any_cons,Bool.or_assoc]
theorem AH{n v:Nat}{L:Fs}:(aX n L).testBit v=L.any λt=>(p7 n t).testBit v:=by
 unfold aX;rw[pJ];simp
theorem uX{n v:Nat}{L:Fs}(hv:v<n)(h:(aX n L).testBit v=false):∀t∈L,dep n t v=false:=by
 rw[AH,List.any_eq_false]at h;intro t ht;have:=h t ht;rw[p7,iM]at this;simpa[hv]using this
theorem D9(n:Nat):∀(L:Fs) (u:Nat),u<2^n->L.foldl (λu t=>u|||p7 n t) u<2^n
 | [],u,h=>h
 |t::L,u,h=>D9 n L _ (xbF h (nL n t n))
theorem uY(n:Nat)(L:Fs):aX n L<2^n:=D9 n L 0 (xa6 n)
theorem Lc{n:Nat}{L:Fs}{A:Nat}(hL:∀t∈L,eY n t)(hn:n<=16):∀k,k<=n->∀x,x∈st n L A k↔x∈st n L (A&&&aX n L) k
 |0,_,x=>xcY
 |k+1,hk,x=>by
  have ih:=Lc (A:=A) hL hn k zO;rw[st,st,xbd];cases hA:A.testBit k
  ·simpa using ih x
  cases hU:(aX n L).testBit k
  ·simp only[xa7,xed,xaS,xa1];rw[cf,<-ih x];have hd:=AJ (A:=A) hL hn (v:=k) zO (uX zO hU) k zO;have hf:=Fy (A:=A) hL hn k;constructor
   ·rintro⟨t,ht,b,rfl⟩;rw[og (hf t ht) zO (hd t ht)];exact ht
   intro hx;exact⟨x,hx,false,(og (hf x hx) zO (hd x hx)).symm⟩
  simp only[xdW,xa7];rw[cf,cf];constructor
  ·rintro⟨t,ht,h⟩;exact⟨t,(ih t).1 ht,h⟩
  rintro⟨t,ht,h⟩;exact⟨t,(ih t).2 ht,h⟩
theorem K6{n:Nat}{L:Fs}(hL:∀t∈L,eY n t)(hn:n<=16):Used n (lvl n L) (aX n L):=by
 refine⟨λa v hv _ hU=>?_,λa v hv _=>?_⟩
 ·unfold lvl nodes;rw[xcP,xcS];intro t ht;rw[AJ hL hn hv (uX hv hU) n (xai _) t ht];simp
 exact mT (jE (nM n L a n) (nM n L _ n) (Lc hL hn n (xai _)))
end ak
set_option maxRecDepth 100000
namespace Go.Proofs
open Go Go.Sx
def kp(x:Nat×Nat):zV:=.agg (ay .i64 [(x.1:Int),(x.2:Int)])
def ki(x:Nat):zV:=iv (x:Int)
theorem Gf(a b:Nat):Instr.sameNow (.int .i64) (ki a) (ki b)=some (decide (a=b)):=by
 simp only[Instr.sameNow,ki,xa7,xaq];rw[xbU];simp;omega
theorem VU(a:Nat):Instr.sameBits 10000 (ki a) (ki a)=true:=by simp[Instr.sameBits,ki]
theorem RA(a b:Nat×Nat):BJ zQ 411 (kp a) (kp b) (decide (a=b)):=by
 have:=BJ.array (P:=zQ) (t:=411) (e:=3) (q:=.i64) (n:=2) zK zK zK [(a.1:Int),(a.2:Int)] [(b.1:Int),(b.2:Int)] rfl rfl;have e:decide ([(a.1:Int),(a.2:Int)]=[(b.1:Int),(b.2:Int)])=decide (a=b):=by
  rw[xb8];obtain⟨a1,a2⟩:=a;obtain⟨b1,b2⟩:=b;simp;omega
 rw[e]at this;exact this
theorem Gd(a:Nat×Nat):mD zQ 411 (kp a):=mD.array (P:=zQ) (t:=411) (e:=3) (q:=.i64) (n:=2) zK zK zK _ rfl
theorem x6(n:Nat)(q:IntKind)(l:List Int):Instr.sameBits (n+1+1) (.agg (ay q l)) (.agg (ay q l))=true:=by
 simp only[Instr.sameBits,ay,xer,xcp,xc6];intro x hx;obtain⟨a,b⟩:=x;have h:=xdE hx;have e:a=b:=by
  rw[List.zip_eq_zip_take_min]at hx;obtain⟨i,hi,he⟩:=xa9.1 hx;simp at he;exact he.1.symm.trans he.2
 subst e;have:=h.1;simp only[xdD,xao]at this;obtain⟨y,_,rfl⟩:=this;simp[Instr.sameBits]
theorem VQ(a:Nat×Nat):Instr.sameBits 10000 (kp a) (kp a)=true:=x6 9998 _ _
abbrev vrN(v:zV)(x:Nat):Prop:=v=iv (x:Int)
structure Mq(n:Nat)(L:List (zL))(kE:Array MapEntry)(jT:Nat)(gV:Array MapEntry)(iH:Nat):Prop where
 ah:∃m,aD kp vrN kE jT m/\∀x∈m,x.2=ak.lvl n L x.1.1 x.1.2
 dow:∃m,aD ki vrN gV iH m/\∀x∈m,x.2=ak.B n (ak.lvl n L) x.1
def nr(bp bl bd:Nat)(xV:zV)(n:Nat)(L:List (zL))(U:Nat)(B H:Hp):Prop:=
 ∃kE jT gV iH,H=(bp,.cells #[xV,iv (n:Int),iv (U:Int),.map (some bl),.map (some bd)] 343 zZ)::(bl,.map kE jT)::(bd,.map gV iH)::B/\Mq n L kE jT gV iH
theorem Dp{κ:Type}[DecidableEq κ]{f:κ->Nat}{m:List (κ×Nat)}{k:κ}(h:∀x∈m,x.2=f x.1):∀x∈eo m k (f k),x.2=f x.1:=by
 intro x hx;unfold eo at hx;split at hx
 ·obtain⟨y,hy,rfl⟩:=xao.1 hx;split
  ·rfl
  exact h y hy
 rcases xan.1 hx with hx|hx
 ·exact h x hx
 simp at hx;subst hx;rfl
theorem Dt{κ:Type}[DecidableEq κ]{f:κ->Nat}{m:List (κ×Nat)}{k:κ}{x:Nat}(h:∀x∈m,x.2=f x.1)(hk:aG m k=some x):x=f k:=by
 unfold aG at hk;obtain⟨y,hy,rfl⟩:=xdV.1 hk;have h1:=xeB hy;have h2:=h y (xdH hy);simp only[xaJ]at h1;rw[h2,h1]
structure xp(xV:zV)(n:Nat)(L:List (zL))(B:Hp):Prop where
 tb:jL B xV (MV n L)
 B3:∀ws∈L,ak.eY n ws
 ne:L≠[]
 small:L.length<33554432
 n12:n<=12
theorem F6{xV:zV}{n:Nat}{L:List (zL)}{B:Hp}(h:xp xV n L B)(a v:Nat):ak.lvl n L a v<2199023255551:=by
 have h1:ak.lvl n L a v<=(ak.st n L a n).length:=xb2 _ _;have h2:=Qv (n:=n) (A:=a) (L:=L) (by have:=h.n12;omega) h.small (xai n);omega
theorem Dm{xV:zV}{n:Nat}{L:List (zL)}{B:Hp}(h:xp xV n L B){bp bl bd a v:Nat}{H:Hp}(hp:nr bp bl bd xV n L (ak.aX n L) B H)(ha:a<2^n)(hv:v<n)(hav:a.testBit v=false):
  Fc zQ 281 #[.pointer (some ⟨bp,0,none⟩),iv (a:Int),iv (v:Int)] H (λr H'=>r=iv ((ak.lvl n L a v:Nat):Int)/\nr bp bl bd xV n L (ak.aX n L) B H'):=by
 obtain⟨kE,jT,gV,iH,rfl,hM⟩:=hp;have hU:=ak.uY n L;have ur:=h.n12;have iX:2^n<=2^12:=xaA zD ur;have DX:=ak.K6 h.B3 zO;have hsU:ak.aX n L>>>v<=ak.aX n L:=xbo _ _;refine aE λg=>I1 (Nil.ptr ?_);refine ai.mk (Ld.mk zM rfl ?_);refine ae.ic (by simp[bA];omega) (ae.jj (b:=1) (by simp[bA];omega) zD (ae.dJ (b:=0) ?_));have sV:ak.aX n L>>>v&&&1=0↔(ak.aX n L).testBit v=false:=by
  rw[ak.gw,xbv,xcn];cases (ak.aX n L).testBit v<;>simp
 refine Br.dec (λh0=>?_) (λh0=>?_)
 ·refine aF.here ⟨?_,kE,jT,gV,iH,rfl,hM⟩;rw[DX.zero a v hv hav (sV.1 h0)];rfl
 have hUv:(ak.aX n L).testBit v=true:=by cases hh:(ak.aX n L).testBit v;exact absurd (sV.2 hh) h0;rfl
 apply Nil.ptr;refine ai.mk (Ld.mk zM rfl ?_);refine ae.jj (by simp[bA];omega) (by simp[bA];omega) ?_;have hlv:ak.lvl n L a v=ak.lvl n L (a&&&ak.aX n L) v:=DX.mask a v hv hav;have X9:(a&&&ak.aX n L).testBit v=false:=by rw[xbd,hav];rfl
 have haU:a&&&ak.aX n L<2^n:=xau xcj ha;rw[hlv];obtain⟨a',er⟩:∃a',a'=a&&&ak.aX n L:=⟨_,rfl⟩;rw[<-er]at X9 haU⊢;refine Build.two (q:=.i64) (e:=3) zK zK zK ?_;rw[show ay .i64 [(a':Int),(v:Int)]=List.toArray [iv (a':Int),iv (v:Int)]from rfl];intro Uw _;refine St.q ?_;apply Nil.ptr;refine ai.mk (Ld.mk zM rfl ?_);refine az.q ?_;obtain⟨⟨m1,Ut,uu⟩,acX⟩:=hM;have acj:∀J:List zV->Hp->Prop,(∀w25:zV,∀H24:Hp,(∀amm:Fr,aF (λr H'=>r=iv ((ak.lvl n L a' v:Nat):Int)/\nr bp bl bd xV n L (ak.aX n L) B H') (.returned w25) H24)->J [w25] H24)->
   ∀WX W3,Mq n L WX W3 gV iH->J [iv ((ak.lvl n L a' v:Nat):Int)] ((bp,.cells #[xV,iv (n:Int),iv ((ak.aX n L:Nat):Int),.map (some bl),.map (some bd)] 343 zZ)::(bl,.map WX W3)::(bd,.map gV iH)::B):=
  λJ hJ WX W3 hM=>hJ _ _ λgs=>aF.here ⟨rfl,WX,W3,gV,iH,rfl,hM⟩
 cases hg:aG m1 (a',v)with
 |some x=>
  have hx:=Dt (f:=λk=>ak.lvl n L k.1 k.2) uu hg;simp only at hx;refine aD.Gu (ke:=kp) (k:=(a',v)) RA Gd Ut (by exact .tail _ (.tail _ (.head _))) hg λy hy=>?_;subst hy;refine Ext.two λJ hJ=>(Un.not (Br.no (JE.of .tail ?_)));rw[hx];exact acj J hJ _ _ ⟨⟨m1,Ut,uu⟩,acX⟩
 |none=>
  refine aD.vV (ke:=kp) (k:=(a',v)) RA Gd Ut (by exact .tail _ (.tail _ (.head _))) hg ?_;refine Ext.two λJ hJ=>(Un.not (Br.yes (DR.self (Nil.ptr ?_))));refine ai.mk (Ld.mk zM rfl ?_);refine⟨Uw,0,.i64,0,rfl,rfl,by decide,by decide,?_⟩;refine Ld.q ?_;refine bc.q (aa.eq (B:=B) (Rw (n:=n) (L:=L) h.tb h.B3 h.ne (by have:=h.small;omega) haU hv X9) (⟨.refl _,Ext.mk rfl (Ext.mk rfl ?_)⟩));refine DR.of (R:=(Uw,.cells (List.toArray [iv (a':Int),iv (v:Int)]) 411 zZ)::(bp,.cells #[xV,iv (n:Int),iv ((ak.aX n L:Nat):Int),.map (some bl),.map (some bd)] 343 zZ)::[]) (.cons (.cons (λg w h=>(Own.left (B:=_) (A:=[]) h)))) (Nil.ptr ?_);refine ai.mk (Ld.mk zM rfl ?_);refine az.q ?_;refine aD.MQ (ke:=kp) (vr:=vrN) (b:=bl) (val:=iv ((ak.lvl n L a' v:Nat):Int)) (k:=(a',v)) (x:=ak.lvl n L a' v) RA Gd VQ Ut rfl λes' bD DY=>⟨_,.tail (.tail (.head _)),?_⟩;have agd:∀x∈eo m1 (a',v) (ak.lvl n L a' v),x.2=ak.lvl n L x.1.1 x.1.2:=Dp (f:=λk:Nat×Nat=>ak.lvl n L k.1 k.2) (k:=(a',v)) uu;have Z6:Mq n L es' bD gV iH:=⟨⟨eo m1 (a',v) (ak.lvl n L a' v),DY,agd⟩,acX⟩;exact JE.of .tail (acj J hJ es' bD Z6)
end Go.Proofs
namespace Go.Sx
open Go
theorem vQ(n:Int):BitVec.ofInt 64 (IntKind.i64.wrap n)=BitVec.ofInt 64 n:=by
 apply BitVec.eq_of_toNat_eq;simp only[BitVec.toNat_ofInt,IntKind.wrap,IntKind.bits,IntKind.signed,xcp,xaJ];congr 1;split<;>omega
theorem wrap_toInt(x:BitVec 64):IntKind.i64.wrap (x.toNat:Int)=x.toInt:=by
 rw[BitVec.toInt_eq_toNat_cond];have:=x.isLt;have e:(2:Int)^(64-1)=9223372036854775808:=rfl;simp only[IntKind.wrap,IntKind.bits,IntKind.signed,xcp,xaJ,e];split<;>split<;>omega
theorem qv(op:BinOp)(x y:Int):BitVec.ofInt 64 (bits op .i64 x y)=(match op with
  | .and=>BitVec.ofInt 64 x&&&BitVec.ofInt 64 y
  | .or=>BitVec.ofInt 64 x|||BitVec.ofInt 64 y
  | .xor=>BitVec.ofInt 64 x^^^BitVec.ofInt 64 y
  |_=>BitVec.ofInt 64 x&&& ~~~BitVec.ofInt 64 y):=by
 unfold bits;simp only[vQ];rw[xcJ];simp only[IntKind.bits];rw[BitVec.ofNat_toNat,BitVec.setWidth_eq];cases op<;>rfl
theorem xd(op:BinOp)(x y:Int):bits op .i64 x y=(BitVec.ofInt 64 (bits op .i64 x y)).toInt:=by
 unfold bits;simp only[vQ];rw[xcJ];simp only[IntKind.bits];rw[BitVec.ofNat_toNat,BitVec.setWidth_eq];exact wrap_toInt _
theorem Nw{a U v:Nat}(ha:a<4611686018427387904)(hU:U<4611686018427387904)(hv:v<62):
  bits .and .i64 ((bits .or .i64 a (bits .xor .i64 (-1) U)).fdiv (2^(min (v:Int).toNat IntKind.i64.bits))) 1=if a.testBit v=true\/U.testBit v=false then 1 else 0:=by
 have hX:=qv .or (a:Int) (bits .xor .i64 (-1) U);simp only at hX;have hN:=qv .xor (-1) (U:Int);simp only at hN;rw[hN]at hX;generalize hx:bits .or .i64 a (bits .xor .i64 (-1) U)=x at hX;have Zj:x=(BitVec.ofInt 64 x).toInt:=by rw[<-hx];exact xd _ _ _
 have hm:min (v:Int).toNat IntKind.i64.bits=v:=by simp[IntKind.bits];omega
 rw[hm];have hs:x.fdiv (2^v)=((BitVec.ofInt 64 x).sshiftRight v).toInt:=by
  rw[BitVec.toInt_sshiftRight,<-Zj,Int.shiftRight_eq_div_pow,Int.fdiv_eq_ediv_of_nonneg _ (Int.le_of_lt (Int.pow_pos zD))]
  push_cast;rfl
 rw[hs,xd,qv];simp only[BitVec.ofInt_toInt];rw[hX];have h1:BitVec.ofInt 64 (1:Int)=1#64:=rfl;have h2:BitVec.ofInt 64 (-1:Int)=BitVec.allOnes 64:=by decide
 rw[h1,h2];have sV:((BitVec.ofInt 64 (a:Int)|||BitVec.allOnes 64^^^BitVec.ofInt 64 (U:Int)).sshiftRight v).getLsbD 0=(a.testBit v|| !U.testBit v):=by
  rw[BitVec.getLsbD_sshiftRight];have e1:v+0<64:=by omega
  simp only[xcn,show¬(64<=0)from by decide,xdq,xcs,xcp,show v<64 by omega,xa7];rw[BitVec.getLsbD_or,BitVec.getLsbD_xor,BitVec.getLsbD_allOnes,xcJ,xcJ,BitVec.getLsbD_ofNat,BitVec.getLsbD_ofNat];simp[show v<64 by omega]
 have ik:∀y:BitVec 64,(y&&&1#64).toInt=if y.getLsbD 0 then 1 else 0:=by
  intro y;have:y&&&1#64=if y.getLsbD 0 then 1#64 else 0#64:=by
   apply BitVec.eq_of_getLsbD_eq;intro i hi;rw[BitVec.getLsbD_and];by_cases h0:i=0
   ·subst h0;cases hb:y.getLsbD 0<;>simp[hb]
   have:(1#64).getLsbD i=false:=by simp[BitVec.getLsbD_one,h0]
   rw[this];cases y.getLsbD 0<;>simp[this]
  rw[this];cases y.getLsbD 0<;>decide
 rw[ik,sV];cases a.testBit v<;>cases U.testBit v<;>simp
theorem abI{a U v:Nat}(ha:a<4611686018427387904)(hU:U<4611686018427387904)(hv:v<62){k:zV->Prop}(h:k (.bool (decide (a.testBit v=true\/U.testBit v=false)))):
  Un .xor (.int .i64 (U:Int)) λv33=>ae .num .or (.int .i64 (a:Int)) v33 λv34=>ae .num .shr v34 (.int .i64 (v:Int)) λv35=>ae .num .and v35 (.int .i64 1) λv36=>ae .num .eql v36 (.int .i64 1) k:=by
 refine⟨_,rfl,_,rfl,?_⟩;have h0:¬((v:Int)<0):=by omega
 refine⟨_,by simp only[gu,h0,xa1];rfl,_,rfl,?_⟩;refine ae.gX ?_;have hs:(if IntKind.i64.signed=true then(-1:Int)else IntKind.i64.max)= -1:=rfl;rw[hs,Nw ha hU hv];by_cases hc:a.testBit v=true\/U.testBit v=false
 ·rw[xae hc];rw[xam hc]at h;exact h
 rw[xac hc];rw[xak hc]at h;exact h
end Go.Sx
set_option maxRecDepth 100000
namespace Go.Proofs
open Go Go.Sx
section
theorem iT(x:zV)(r:List zV)(i:Nat):bJ (x::r) (i+1)=bJ r i:=by cases x<;>rfl
def jX(n:Nat)(L:List (zL))(U a k:Nat):zL:=((List.range k).filter λv=> !a.testBit v&&U.testBit v).map λv=>ak.lvl n L a v+ak.B n (ak.lvl n L) (ak.aB a v true)
theorem M7{n:Nat}{L:List (zL)}{U a:Nat}:jX n L U a n=(ak.dI n U a).map λv=>ak.lvl n L a v+ak.B n (ak.lvl n L) (ak.aB a v true):=by
 unfold jX ak.dI ak.bM;rw[xdi];congr 1;apply xdo;intro v _;cases a.testBit v<;>cases U.testBit v<;>rfl
theorem vx{n:Nat}{L:List (zL)}{U a k:Nat}:jX n L U a (k+1)=if a.testBit k=true\/U.testBit k=false then jX n L U a k else jX n L U a k++[ak.lvl n L a k+ak.B n (ak.lvl n L) (ak.aB a k true)]:=by
 unfold jX;rw[xcl,xb6,xaH];cases h1:a.testBit k<;>cases h2:U.testBit k<;>simp[h1,h2]
def Ag(l:zL):zV:=if l=[]then iv (-1)else iv ((ak.gE l:Nat):Int)
theorem TL(n:Nat)(c:Nat->Nat->Nat)(M:Nat)(hc:∀a v,c a v<=M):∀f a,ak.TM n c f a<=f*M
 |0,a=>by simp[ak.TM]
 |f+1,a=>by
  rw[ak.TM,xbx];by_cases h:ak.bM n a=[]
  ·rw[h];simp[ak.gE]
  have:=ak.oY (l:=(ak.bM n a).map λv=>c a v+ak.TM n c f (ak.aB a v true)) (by simpa using h);obtain⟨v,_,e⟩:=xao.1 this;rw[<-e];have h1:=hc a v;have h2:=TL n c M hc f (ak.aB a v true);omega
theorem Mz{xV:zV}{n:Nat}{L:List (zL)}{B:Hp}(h:xp xV n L B)(a:Nat):ak.B n (ak.lvl n L) a<35184372088832:=by
 have h1:=TL n (ak.lvl n L) 2199023255551 (λa v=>xca (F6 h a v)) n a;have h2:n*2199023255551<=12*2199023255551:=xaZ _ h.n12;unfold ak.B;omega
theorem BE{a U n:Nat}(hU:U<2^n)(h:∀v,v<n->¬(a.testBit v=false/\U.testBit v=true)):a&&&U=U:=by
 apply xaY;intro k;rw[xbd];by_cases hk:k<n
 ·have:=h k hk;cases h1:a.testBit k<;>cases h2:U.testBit k<;>simp_all
 have:U.testBit k=false:=xbW (xaN hU (xaA zD zO));rw[this];simp
theorem sj{xV:zV}{n:Nat}{L:List (zL)}{B:Hp}(h:xp xV n L B){bp bl bd:Nat}:∀(d a:Nat),(ak.dI n (ak.aX n L) a).length<=d->a<2^n->∀H,nr bp bl bd xV n L (ak.aX n L) B H->
  Fc zQ 282 #[.pointer (some ⟨bp,0,none⟩),iv (a:Int)] H (λr H'=>r=iv ((ak.B n (ak.lvl n L) a:Nat):Int)/\nr bp bl bd xV n L (ak.aX n L) B H'):=by
 have hU:=ak.uY n L;have ur:=h.n12;have iX:2^n<=2^12:=xaA zD ur;have DX:=ak.K6 h.B3 zO;intro d;induction d using Nat.strongRecOn with
 |_ d ih=>
  intro a hd ha H hp;obtain⟨kE,jT,gV,iH,rfl,hM⟩:=hp;refine aE λg=>xH (Nil.ptr ?_);refine ai.mk (Ld.mk zM rfl ?_);refine ae.jj (by simp[bA];omega) (by simp[bA];omega) (Nil.ptr ?_);refine ai.mk (Ld.mk zM rfl ?_);have hBa:ak.B n (ak.lvl n L) a=ak.B n (ak.lvl n L) (a&&&ak.aX n L):=(ak.Yt DX a).symm;have X0:ak.dI n (ak.aX n L) (a&&&ak.aX n L)=ak.dI n (ak.aX n L) a:=ak.lZ _ _ _;have haU:a&&&ak.aX n L<2^n:=xau xcj ha;have iW:(a&&&ak.aX n L) &&&ak.aX n L=a&&&ak.aX n L:=by rw[Nat.and_assoc,Nat.and_self]
  rw[hBa];rw[<-X0]at hd;obtain⟨a',er⟩:∃a',a'=a&&&ak.aX n L:=⟨_,rfl⟩;rw[<-er]at haU hd iW⊢;clear hBa X0 ha er;have aJ:=M7 (n:=n) (L:=L) (U:=ak.aX n L) (a:=a');have ack:ak.B n (ak.lvl n L) a'=ak.gE (jX n L (ak.aX n L) a' n):=by
   rw[aJ];have:=ak.aee DX a';rw[iW]at this;exact this
  refine ae.dJ (Br.dec (λh0=>?_) (λh0=>?_))
  ·refine aF.here ⟨?_,kE,jT,gV,iH,rfl,hM⟩;have:ak.dI n (ak.aX n L) a'=[]:=by
    rw[xcF];intro v hv;obtain⟨_,h2,h3⟩:=ak.fD.1 hv;rw[h0,h3]at h2;cases h2
   rw[ack,aJ,this];rfl
  have hne:jX n L (ak.aX n L) a' n≠[]:=by
   rw[aJ];intro e;apply h0;rw[<-iW];refine BE hU λv hv hh=>?_;have:v∈ak.dI n (ak.aX n L) a':=ak.fD.2 ⟨hv,hh.1,hh.2⟩;rw[List.map_eq_nil_iff.1 e]at this;simp at this
  apply Nil.ptr;refine ai.mk (Ld.mk zM rfl ?_);obtain⟨R9,m2,sW,me⟩:=hM;cases hg:aG m2 a' with
  |some x=>
   have hx:=Dt (f:=ak.B n (ak.lvl n L)) me hg;refine aD.hit (ke:=ki) (k:=a') Gf sW (by exact .tail _ (.tail _ (.head _))) hg λy hy=>?_;subst hy;refine Ext.mk rfl (Ext.mk rfl (Br.yes (aF.here ⟨?_,kE,jT,gV,iH,rfl,R9,m2,sW,me⟩)));rw[hx];rfl
  |none=>
   refine aD.bM (ke:=ki) (k:=a') Gf sW (by exact .tail _ (.tail _ (.head _))) hg ?_;refine Ext.mk rfl (Ext.mk rfl (Br.no (Nil.ptr ?_)));refine ai.mk (Ld.mk zM rfl ?_);refine⟨λvs H=>∃k:Nat,vs=[Ag (jX n L (ak.aX n L) a' k),iv (k:Int)]/\k<=n/\nr bp bl bd xV n L (ak.aX n L) B H,λvs _=>n-bJ vs 1,
    JE.mk ⟨0,rfl,xaO _,kE,jT,gV,iH,rfl,R9,m2,sW,me⟩,?_⟩
   clear sW me hg R9 kE jT gV iH m2;rintro w22 w23 H ⟨k,⟨⟩,hk,hp⟩ gs;refine ae.eZ (Br.dec (λhlt=>?_) (λhlt=>?_))
   ·intro J hJ;have PM:=hp;obtain⟨kE,jT,gV,iH,rfl,hM⟩:=hp;apply Nil.ptr;refine ai.mk (Ld.mk zM rfl ?_);refine abI zO zO zO ?_;have DQ:∀l H,l=jX n L (ak.aX n L) a' (k+1)->nr bp bl bd xV n L (ak.aX n L) B H->J [Ag l] H:=λl H hl hp=>hJ _ _ λgs=>by
     exact ae.inc (aC.mk ⟨k+1,by rw[hl],by omega,hp⟩ (by rw[iT,iT];show n-(((k:Int)+1).toNat)<n-((k:Int).toNat);omega))
    by_cases hc:a'.testBit k=true\/(ak.aX n L).testBit k=false
    ·rw[xam hc];refine Br.yes (JE.mk (DQ _ _ ?_ PM));rw[vx,xae hc]
    rw[xak hc];have hck:a'.testBit k=false/\(ak.aX n L).testBit k=true:=by
     cases h1:a'.testBit k<;>cases h2:(ak.aX n L).testBit k<;>simp_all
    have hmem:k∈ak.dI n (ak.aX n L) a':=ak.fD.2 ⟨hlt,hck.1,hck.2⟩;refine Br.no (DR.self ?_);have hpk:2^k<=2^12:=xaA zD zO;refine ae.Cz (a:=1) (by simp[IntKind.bits];omega) (by rw[xa4];simp[bA];omega) ?_;rw[xa4];refine ae.C9 (by simp[bA];omega) (by simp[bA];omega) ?_;have WW:a'|||2^k=ak.aB a' k true:=rfl
    rw[WW];refine aa.fq (Dm h PM haU hlt hck.1) ?_;rintro r H1 ⟨rfl,uK⟩;have hlen:(ak.dI n (ak.aX n L) (ak.aB a' k true)).length<d:=by
     have h1:(ak.dI n (ak.aX n L) (ak.aB a' k true)).length+1=(ak.dI n (ak.aX n L) a').length:=by
      unfold ak.dI ak.bM;rw[xdi,xdi];refine ak.ob _ _ k (List.range n) xbi (xaM.2 hlt) (by simp[hck]) (by simp[ak.aj]) λy hy hne=>?_;rw[ak.q8 hne]
     omega
    refine aa.fq (ih _ hlen (ak.aB a' k true) (xai _) (ak.fX haU hlt) H1 uK) ?_;rintro r H2 ⟨rfl,iX⟩;have hb1:=F6 h a' k;have rP:=Mz h (ak.aB a' k true);refine ae.fI ?_;have hstep:=vx (n:=n) (L:=L) (U:=ak.aX n L) (a:=a') (k:=k);rw[xac hc]at hstep;generalize ak.lvl n L a' k+ak.B n (ak.lvl n L) (ak.aB a' k true)=x at hstep;unfold Ag;by_cases hl:jX n L (ak.aX n L) a' k=[]
    ·rw[xae hl];refine ae.lss (cm.mk true (λe=>by simp at e) (λ_=>rfl) λgs=>Br.yes (JE.mk ?_));have:=DQ [x] _ (by rw[hstep,hl];rfl) iX;simpa[Ag,ak.gE]using this
    rw[xac hl];have hms:=ak.FZ (jX n L (ak.aX n L) a' k) x;rw[xac hl,<-hstep]at hms;have af6:jX n L (ak.aX n L) a' (k+1)≠[]:=by rw[hstep];simp
    have Um:=DQ _ H2 rfl iX;unfold Ag at Um;rw[xac af6,hms]at Um;have hneg:decide (((ak.gE (jX n L (ak.aX n L) a' k):Nat):Int)<0)=false:=xak zO;by_cases hx:x<ak.gE (jX n L (ak.aX n L) a' k)
    ·rw[xdw zO]at Um;refine ae.lss ?_;rw[hneg];exact cm.mk true (λ_=>ae.eZ ⟨rfl,by rw[xam hx]⟩) (λe=>by simp at e) λgs=>Br.yes (JE.mk Um)
    rw[xcG zO]at Um;refine ae.lss ?_;rw[hneg];exact cm.mk false (λ_=>ae.eZ ⟨rfl,by rw[xak hx]⟩) (λe=>by simp at e) λgs=>Br.no (JE.mk Um)
   have:k=n:=by omega
   subst this;obtain⟨kE,jT,gV,iH,rfl,R9,m2,sW,me⟩:=hp;apply Nil.ptr;refine ai.mk (Ld.mk zM rfl ?_);unfold Ag;rw[xac hne,<-ack];refine aD.bt (ke:=ki) (vr:=vrN) (b:=bd) (val:=iv ((ak.B k (ak.lvl k L) a':Nat):Int)) (k:=a') (x:=ak.B k (ak.lvl k L) a') Gf VU sW rfl λes' bD DY=>⟨_,.tail (.tail (.head _)),?_⟩;have agc:∀x∈eo m2 a' (ak.B k (ak.lvl k L) a'),x.2=ak.B k (ak.lvl k L) x.1:=Dp (f:=ak.B k (ak.lvl k L)) me;exact aF.here ⟨rfl,kE,jT,es',bD,rfl,R9,_,DY,agc⟩
end
section
def ahY(v:zV)(ts:List Tb)(B:Hp)(r:zV)(H:Hp):Prop:=
 (r9 ts/\∃(bp bl bd n:Nat) (L:List (zL)) (N:Hp),ts=MV n L/\(L=[]->n=0)/\n<=16/\(∀ws∈L,ak.eY n ws)/\r=.tuple #[.pointer (some ⟨bp,0,none⟩),iv 0]/\nr bp bl bd v n L (ak.aX n L) (N++B) H)
 \/(¬r9 ts/\r=.tuple #[.pointer none,iv 5])
theorem tC(n:Nat)(L:List (zL)):Mq n L #[] 0 #[] 0:=⟨⟨[],aD.empty,by simp⟩,⟨[],aD.empty,by simp⟩⟩
theorem Fk{n:Nat}{L:List (zL)}{k:Nat}(h:k<L.length):ak.aX n (L.take (k+1))=ak.aX n (L.take k)|||ak.p7 n L[k]:=by
 unfold ak.aX;rw[xbs,xaa h,Option.toList_some,xdp];rfl
theorem Om{B:Hp}{v:zV}{ts:List Tb}(ht:jL B v ts)(cD:ts.length<4398046511104):Px zQ 280 #[v] B (ahY v ts B):=by
 obtain⟨va,vc,vl,rfl⟩:∃a c l,v=.slice a l c:=by
  obtain⟨rs,h1,_⟩:=ht;obtain⟨a,c,e,_⟩:=h1.shape;exact⟨a,c,_,e⟩
 refine aE λg=>I2 λb1 _ b2 _=>?_;refine Build.mk (cs:=[.slice va vl vc,iv 0,iv 0,.map (some b1),.map (some b2)]) zK λbp _=>?_;generalize hvs:Value.slice va vl vc=vv at ht⊢;refine ht.bP (ae.dJ (b:=0) (Br.dec (λh0=>?_) (λh0=>?_)))
 ·have Gs:ts=[]:=xbX h0;subst Gs;refine⟨_,_,rfl,aN.cons aN.swap,(by repeat (first|exact bV.refl _|apply bV.cons|apply bV.app)),Or.inl ⟨by simp[r9],bp,b1,b2,0,[],[],rfl,λ_=>rfl,by omega,by simp,rfl,_,_,_,_,?_,tC _ _⟩⟩;subst hvs;rfl
 refine aa.pq (B:=B) (Rf ht cD) ?_;rintro r N ⟨s,rfl⟩;apply Ext.two;by_cases hO:r9 ts
 case neg=>
  rw[xac hO];exact ae.xU (a:=5) (b:=0) (Br.dec (λ_=>Hs.mk (by repeat (first|exact bV.refl _|apply bV.cons|apply bV.app)) (.inr ⟨hO,rfl⟩)) (λh=>absurd zD h))
 rw[xae hO];refine ae.xU (a:=0) (b:=0) (Br.dec (λh=>absurd rfl h) (λ_=>?_));obtain⟨n,L,wq,rfl,hne,hf⟩:=Ly hO (by intro e;rw[e]at h0;exact h0 rfl);rw[xav]at cD h0;obtain⟨w0,Uj⟩:∃w0,L[0]? =some w0:=⟨_,xaa (xdc.2 hne)⟩;refine ht.ldN (i:=0) (t:=⟨n,w0⟩) (by rw[xat,Uj];rfl) zS ?_;simp only;refine Nil.ptr (ai.mk (St.one (c:=#[vv,iv 0,iv 0,.map (some b1),.map (some b2)]) (c':=#[vv,iv (n:Int),iv 0,.map (some b1),.map (some b2)]) (H':=(bp,.cells #[vv,iv (n:Int),iv 0,.map (some b1),.map (some b2)] 343 zZ)::(b2,.map #[] 0)::(b1,.map #[] 0)::(N++B)) (by subst hvs;exact .head _) rfl zI rfl ?_));refine ht.bP ?_;rw[xav];refine⟨λvs H=>∃(k:Nat) (N:Hp),vs=[iv (k:Int)]/\k<=L.length/\H=(bp,.cells #[vv,iv (n:Int),iv ((ak.aX n (L.take k):Nat):Int),.map (some b1),.map (some b2)] 343 zZ)::(b2,.map #[] 0)::(b1,.map #[] 0)::(N++B),
  λvs _=>L.length-bJ vs 0,JE.mk ⟨0,N,rfl,by omega,rfl⟩,?_⟩
 clear N;rintro w H ⟨k,N,⟨⟩,hk,rfl⟩ gs;refine ae.eZ (Br.dec (λhlt=>?_) (λhlt=>?_))
 ·have hg:(L.map λws=>(⟨n,ws⟩:Tb))[k]? =some ⟨n,L[k]⟩:=by rw[xat,xaa hlt];rfl
  have pB:=hf L[k] (xaF hlt);refine ht.ld hg zS λs hw=>?_;intro b3 _;refine St.p ?_ ?_
  ·have:=bO hw;simpa[Value.oneCell']using this
  refine az.q ?_;refine aa.eq (B:=B) (u6 (v:=.agg (List.toArray [iv (n:Int),s])) (t:=⟨n,L[k]⟩) ⟨s,rfl,hw⟩) ?_;rw[xae (show TF ⟨(n:Int),L[k]⟩from⟨by simp,by simpa using pB⟩)];apply Ext.two;simp only[xa3];have akR:2^n<=2^16:=xaA (n:=2) zD wq;have ace:ak.p7 n L[k]<2^n:=ak.nL n L[k] n;have hus:=ak.uY n (L.take k);apply Nil.ptr;refine ai.mk (Ld.mk zM rfl ?_);refine bc.q (ae.C9 (by simp[bA];omega) (by simp[bA];omega) ?_);rw[<-Fk hlt];refine Nil.ptr (ai.mk (St.one (c:=#[vv,iv (n:Int),iv ((ak.aX n (L.take k):Nat):Int),.map (some b1),.map (some b2)]) (c':=#[vv,iv (n:Int),iv ((ak.aX n (L.take (k+1)):Nat):Int),.map (some b1),.map (some b2)]) (by repeat (first|exact dg.head _|apply dg.tail|apply dg.ca)) rfl zI rfl ?_));exact ae.inc (aC.of .tail ⟨k+1,N,rfl,by omega,rfl⟩ (by simp[bJ];omega))
 have:k=L.length:=by omega
 subst this;rw[xbm];refine⟨_,_,rfl,aN.cons aN.swap,(by repeat (first|exact bV.refl _|apply bV.cons|apply bV.app)),Or.inl ⟨hO,bp,b1,b2,n,L,N,rfl,λe=>absurd e hne,wq,hf,rfl,_,_,_,_,rfl,tC _ _⟩⟩
theorem Ri{n:Nat}{c:Nat->Nat->Nat}{f a v:Nat}(hv:v∈ak.bM n a)(he:c a v+ak.B n c (ak.aB a v true)=ak.B n c a)(hm:∀u∈ak.bM n a,u<v->c a u+ak.B n c (ak.aB a u true)≠ak.B n c a):
    ak.ord n c (f+1) a=v::ak.ord n c f (ak.aB a v true):=by
  obtain⟨u,h1,h2,h3,h4⟩:=ak.vM (c:=c) (f:=f) (List.ne_nil_of_mem hv);rcases xcM u v with h|h|h
  · exact absurd h2 (hm u h1 h)
  · rw[h4,h]
  · exact absurd he (h3 v hv h)
theorem OD{xV:zV}{n:Nat}{L:List (zL)}{B:Hp}{bp bl bd a:Nat}(ha:a<4611686018427387904){H:Hp}(hp:nr bp bl bd xV n L 0 B H):
    Fc zQ 282 #[.pointer (some ⟨bp,0,none⟩),iv (a:Int)] H (λr H'=>r=iv 0/\H'=H):=by
  obtain⟨kE,jT,gV,iH,rfl,hM⟩:=hp;refine aE λg=>xH (Nil.ptr ?_);refine ai.mk (Ld.mk zM rfl ?_);refine ae.jj (b:=0) (by simp[bA];omega) (by simp[bA]) (Nil.ptr ?_);refine ai.mk (Ld.mk zM rfl ?_);exact ae.dJ (b:=0) (Br.T (aF.here ⟨rfl,rfl⟩))
def aed(ts:List Tb)(B:Hp)(r:zV)(H:Hp):Prop:=
  (¬r9 ts/\r=.tuple #[iv 0,.slice none 0 0,iv 5])\/
  (r9 ts/\∃(n:Nat) (L:List (zL)),ts=MV n L/\(L=[]->n=0)/\n<=16/\(∀ws∈L,ak.eY n ws)/\
    ((12<n/\r=.tuple #[iv 0,.slice none 0 0,iv 6])\/
     (n<=12/\∃(s:zV) (C N:Hp),r=.tuple #[iv ((ak.B n (ak.lvl n L) 0:Nat):Int),s,iv 0]/\aP 3 .i64 s (iw (ak.ord n (ak.lvl n L) n 0)) C/\H=C++(N++B))))
structure BSt(n:Nat)(c:Nat->Nat->Nat)(s:zV)(a:Nat)(l:zL)(C:Hp):Prop where
  own:aP 3 .i64 s (iw l) C
  lt:a<2^n
  len:(ak.bM n a).length+l.length=n
  pre:l++ak.ord n c (n-l.length) a=ak.ord n c n 0
theorem Mh{a v:Nat}:(a>>>v&&&1=0)↔a.testBit v=false:=by
  have:=xbP (x:=a) (i:=v);rw[this,xbT,xaW];simp
theorem W7{B:Hp}{v:zV}{ts:List Tb}(ht:jL B v ts)(cD:ts.length<33554432):Px zQ 194 #[v] B (aed ts B):=by
  refine aE λg=>JS (aa.pq (Om ht zO) ?_);rintro r N0 (⟨hO,bp,bl,bd,n,L,N,rfl,Wi,wq,hf,rfl,hp⟩|⟨hO,rfl⟩)
  case inr=>exact Ext.mk rfl (Ext.mk rfl (ae.xU (a:=5) (b:=0) (Br.dec (λ_=>Hs.mk (by repeat (first|exact bV.refl _|apply bV.cons|apply bV.app)) (.inl ⟨hO,rfl⟩)) (λh=>absurd zD h))))
  generalize N0++B=H2 at hp⊢;clear N0;rw[p5]at cD;have PM:=hp;obtain⟨kE,jT,gV,iH,rfl,hM⟩:=hp;refine Ext.mk rfl (Ext.mk rfl (ae.xU (a:=0) (b:=0) (Br.dec (λh=>absurd rfl h) (λ_=>?_))));apply Nil.ptr;refine ai.mk (Ld.mk zM rfl ?_);refine ae.nq (b:=12) (Br.dec (λDZ=>Hs.mk (by repeat (first|exact bV.refl _|apply bV.cons|apply bV.app)) (.inr ⟨hO,n,L,rfl,Wi,wq,hf,.inl ⟨DZ,rfl⟩⟩)) (λDZ=>?_));clear hM;have ur:n<=12:=by omega
  have hOK:L≠[]->xp v n L (N++B):=λhne=>⟨ht.mono zS,hf,hne,cD,ur⟩;have iX:2^n<=2^12:=xaA zD ur;have hm0:(ak.bM n 0).length=n:=by
    have:ak.bM n 0=List.range n:=by unfold ak.bM;rw[xcg];simp
    rw[this,xaK]
  refine⟨λvs H=>∃(s:zV) (a:Nat) (l:zL) (C H1:Hp),vs=[s,iv (a:Int)]/\BSt n (ak.lvl n L) s a l C/\nr bp bl bd v n L (ak.aX n L) (N++B) H1/\H=C++H1,
    λvs _=>(ak.bM n (bJ vs 1)).length,JE.mk ⟨_,0,[],[],_,rfl,⟨aP.nil,xa6 n,by rw[hm0];rfl,by simp⟩,PM,rfl⟩,?_⟩
  clear PM kE jT gV iH;rintro w14 w15 H ⟨s,a,l,C,H1,⟨⟩,hb,hp,rfl⟩ gs;have PM:=hp;obtain⟨kE,jT,gV,iH,rfl,hM⟩:=hp;refine hb.own.bP ?_;rw[aq];apply Nil.ptr;refine ai.mk (Ld.mk zM rfl ?_);have X8:=hb.len;refine ae.eZ (Br.dec (λhlt=>?_) (λhlt=>?_))
  · have af9:ak.bM n a≠[]:=by intro e;rw[e]at X8;simp at X8;omega
    have hne:L≠[]:=λe=>by have:=Wi e;omega
    have zu:=hOK hne;have hnf:n-l.length=n-l.length-1+1:=by omega
    apply Nil.ptr;refine ai.mk (Ld.mk zM rfl ?_);refine⟨λvs H=>∃(k:Nat) (H1:Hp),vs=[w14,iv (a:Int),iv (k:Int)]/\k<=n/\(∀u∈ak.bM n a,u<k->ak.lvl n L a u+ak.B n (ak.lvl n L) (ak.aB a u true)≠ak.B n (ak.lvl n L) a)/\nr bp bl bd v n L (ak.aX n L) (N++B) H1/\H=C++H1,
      λvs _=>n-bJ vs 2,JE.mk ⟨0,_,rfl,by omega,λu _ h=>by omega,PM,rfl⟩,?_⟩
    clear hM PM;rintro w28 w29 w30 H ⟨k,H1,⟨⟩,hk,hmin,hp,rfl⟩ gs;refine ae.eZ (Br.dec (λhlk=>?_) (λhlk=>?_))
    · intro J hJ
      have hpk:2^k<=2^12:=xaA zD zO;have hno:∀H1,¬(a.testBit k=false/\ak.lvl n L a k+ak.B n (ak.lvl n L) (ak.aB a k true)=ak.B n (ak.lvl n L) a)->nr bp bl bd v n L (ak.aX n L) (N++B) H1->J [.bool false] (C++H1):=λH1 hx hp=>hJ _ _ λgs=>by
        refine Br.no (ae.inc (aC.mk ⟨k+1,H1,rfl,by omega,λu hu hlu=>?_,hp,rfl⟩ (by rw[iT,iT,iT,iT];show n-(((k:Int)+1).toNat)<n-((k:Int).toNat);omega)));by_cases e:u=k
        · subst e;exact λh=>hx ⟨(ak.cT.1 hu).2,h⟩
        · exact hmin u hu zO
      refine DR.self ?_;have alz:a<4611686018427387904:=by have:=hb.lt;omega
      refine ae.ic (by simp[bA];omega) (ae.jj (b:=1) (by simp[bA];exact xau (xbo _ _) zO) zD (ae.dJ (b:=0) (Br.dec (λh0=>?_) (λh0=>JE.mk (hno H1 (λh=>h0 (Mh.2 h.1)) hp)))));have hak:=Mh.1 h0;refine ae.Cz (a:=1) (by simp[IntKind.bits];omega) (by rw[xa4];simp[bA];omega) ?_;rw[xa4];refine ae.C9 (by simp[bA];omega) (by simp[bA];omega) ?_;have WW:a|||2^k=ak.aB a k true:=rfl
      rw[WW];intro F;refine aa.fq (Dm zu hp hb.lt hlk hak) ?_;rintro r H2 ⟨rfl,iX⟩;intro F;refine aa.fq (sj zu _ (ak.aB a k true) (xai _) (ak.fX hb.lt hlk) H2 iX) ?_;rintro r H3 ⟨rfl,Ul⟩;have hb1:=F6 zu a k;have rP:=Mz zu (ak.aB a k true);refine ae.fI λF=>(aa.fq (sj zu _ a (xai _) hb.lt H3 Ul) ?_);rintro r H4 ⟨rfl,hp4⟩;refine ae.dJ ?_;by_cases he:ak.lvl n L a k+ak.B n (ak.lvl n L) (ak.aB a k true)=ak.B n (ak.lvl n L) a
      · rw[xam he]
        have hmem:k∈ak.bM n a:=ak.cT.2 ⟨hlk,hak⟩;have Wf:=Ri (f:=n-l.length-1) hmem he hmin;have hml:=ak.gN hmem;refine aM.mk (JE.mk (hJ _ _ λgs=>Br.yes ?_));refine au.int (e:=3) zK zK zK λxb=>?_;refine aP.app (A:=[_]) hb.own (by exact .head _) zP zP λv' C' ho=>?_;refine ae.Cz (a:=1) (by simp[IntKind.bits];omega) (by rw[xa4];simp[bA];omega) ?_;rw[xa4];refine ae.C9 (by simp[bA];omega) (by simp[bA];omega) ?_;rw[WW];refine aC.of .right ⟨v',ak.aB a k true,l++[k],C',H4,rfl,⟨by simpa[iw]using ho,ak.fX hb.lt hlk,by simp;omega,?_⟩,hp4,rfl⟩ (by rw[iT,iT];show(ak.bM n (ak.aB a k true)).length<(ak.bM n a).length;omega);have:=hb.pre;rw[hnf,Wf]at this;rw[xaf,xb3,Nat.sub_add_eq,xaj];exact this
      · rw[xak he]
        exact aM.mk (JE.mk (hno H4 (λh=>he h.2) hp4))
    · obtain⟨u,h1,h2,_⟩:=ak.vM (c:=ak.lvl n L) (f:=0) af9
      exact absurd h2 (hmin u h1 (by have:=(ak.cT.1 h1).1;omega))
  · have nD:l.length=n:=by omega
    have hl:l=ak.ord n (ak.lvl n L) n 0:=by
      have:=hb.pre;rw[nD,xcV]at this;simpa[ak.ord]using this
    have hown:=hb.own;rw[hl]at hown;by_cases hne:L=[]
    · have hn:=Wi hne
      subst hne;subst hn;refine aa.fq (OD (a:=0) zO PM) ?_;rintro r H3 ⟨rfl,rfl⟩;exact⟨_,_,rfl,.refl _,(by repeat (first|exact bV.refl _|apply bV.cons|apply bV.app)),.inr ⟨hO,0,[],rfl,Wi,wq,hf,.inr ⟨ur,_,C,(_::_::_::N),rfl,hown,rfl⟩⟩⟩
    · refine aa.fq (sj (hOK hne) _ 0 (xai _) (xa6 n) _ PM) ?_
      rintro r H3 ⟨rfl,pg,qU,es4,ck4,rfl,Z6⟩;exact⟨_,_,rfl,.refl _,(by repeat (first|exact bV.refl _|apply bV.cons|apply bV.app)),.inr ⟨hO,n,L,rfl,Wi,wq,hf,.inr ⟨ur,_,C,(_::_::_::N),rfl,hown,rfl⟩⟩⟩
end
end Go.Proofs
namespace Ub
abbrev It:=Int×Int
def prec(a b:It):Bool:=decide (a.2<b.2)||(a.2==b.2&&decide (a.1<b.1))
theorem vG{a b:It}:prec a b=true↔a.2<b.2\/a.2=b.2/\a.1<b.1:=by simp[prec]
theorem mQ{a b:It}:prec a b=false↔¬(a.2<b.2\/a.2=b.2/\a.1<b.1):=by rw[<-vG];simp
theorem nR(a:It):prec a a=false:=by rw[mQ];omega
theorem qp{a b:It}(h:prec a b=true):prec b a=false:=by rw[vG]at h;rw[mQ];omega
theorem le_trans{a b c:It}(h1:prec b a=false)(h2:prec c b=false):prec c a=false:=by rw[mQ]at*;omega
theorem Gb{a b c:It}(h1:prec a b=true)(h2:prec c b=false):prec c a=false:=by rw[vG]at h1;rw[mQ]at*;omega
def iq(V:Nat->It)(i:Nat)(b:It):Nat->It:=λj=>if j=i then b else V j
def E(V:Nat->It)(j:Nat):Prop:=prec (V j) (V ((j-1) /2))=false
def An(n:Nat)(V:Nat->It)(i:Nat):Prop:=
 (∀j,0<j->j<n->j≠i->(j-1) /2≠i->E V j)/\(∀j,0<j->j<n->(j-1) /2=i->0<i->prec (V j) (V ((i-1) /2))=false)
def py(n:Nat)(V:Nat->It)(i:Nat):Prop:=∀j,0<j->j<n->(j-1) /2=i->E V j
def Xr(n:Nat)(V:Nat->It)(i:Nat):Prop:=
 (∀j,0<j->j<n->(j-1) /2≠i->E V j)/\(∀j,0<j->j<n->(j-1) /2=i->0<i->prec (V j) (V ((i-1) /2))=false)
def Ord(n:Nat)(V:Nat->It):Prop:=∀j,0<j->j<n->E V j
theorem UG{n i:Nat}{V:Nat->It}(hi:0<i)(hn:i<n)(h:An n V i)(ha:prec (V i) (V ((i-1) /2))=true):
  An n (iq (iq V i (V ((i-1) /2))) ((i-1) /2) (V i)) ((i-1) /2)/\py n (iq (iq V i (V ((i-1) /2))) ((i-1) /2) (V i)) ((i-1) /2):=by
 obtain⟨h1,h2⟩:=h;have hq:(i-1) /2≠i:=by omega
 generalize hqd:(i-1) /2=q at*;have hqi:q<i:=by omega
 refine⟨⟨?_,?_⟩,?_⟩
 ·intro j j0 jn jq jp;unfold E iq;rw[xac jq,xac jp];by_cases e1:j=i
  ·exact absurd (by rw[e1,hqd]) jp
  rw[xac e1];by_cases e2:(j-1) /2=i
  ·rw[xae e2];exact h2 j j0 jn e2 hi
  rw[xac e2];exact h1 j j0 jn e1 e2
 ·intro j j0 jn jp q0;unfold iq;have hqq:(q-1) /2≠q:=by omega
  have afZ:(q-1) /2≠i:=by omega
  rw[xac hqq,xac afZ];have hjq:j≠q:=by omega
  rw[xac hjq];have PI:E V q:=h1 q q0 zO hq zO;by_cases e1:j=i
  ·rw[xae e1];exact PI
  rw[xac e1];have:=h1 j j0 jn e1 zO;unfold E at this PI;rw[jp]at this;exact le_trans PI this
 intro j j0 jn jp;unfold E iq;rw[jp,xae rfl];have hjq:j≠q:=by omega
 rw[xac hjq];by_cases e1:j=i
 ·rw[xae e1];exact qp ha
 rw[xac e1];have:=h1 j j0 jn e1 zO;unfold E at this;rw[jp]at this;exact Gb ha this
theorem UH{n i:Nat}{V:Nat->It}(h:An n V i)(ha:i=0\/prec (V i) (V ((i-1) /2))=false):Xr n V i:=by
 refine⟨λj j0 jn jp=>?_,h.2⟩;by_cases e:j=i
 ·subst e;rcases ha with ha|ha
  ·omega
  exact ha
 exact h.1 j j0 jn e jp
theorem z5{n i:Nat}{V:Nat->It}(h:Xr n V i)(hc:py n V i):Ord n V:=λj j0 jn=>by
 by_cases e:(j-1) /2=i
 ·exact hc j j0 jn e
 exact h.1 j j0 jn e
def zl(n:Nat)(V:Nat->It)(i:Nat):Nat:=if(decide (2*i+1+1<n) &&prec (V (2*i+1+1)) (V (2*i+1)))=true then 2*i+1+1 else 2*i+1
theorem sM(n:Nat)(V:Nat->It)(i:Nat):zl n V i=2*i+1\/zl n V i=2*i+2/\2*i+2<n:=by
 unfold zl;split
 ·rename_i h;simp only[xay,xaJ]at h;right;omega
 left;rfl
theorem zk{n i j:Nat}{V:Nat->It}(j0:0<j)(jn:j<n)(jp:(j-1) /2=i):prec (V j) (V (zl n V i))=false:=by
 unfold zl;split
 ·rename_i h;simp only[xay,xaJ]at h;rcases(show j=2*i+1\/j=2*i+1+1 by omega)with rfl|rfl
  ·exact qp h.2
  exact nR _
 rename_i h;rcases(show j=2*i+1\/j=2*i+1+1 by omega)with rfl|rfl
 ·exact nR _
 cases hh:prec (V (2*i+1+1)) (V (2*i+1))
 ·rfl
 exact absurd (by simp[hh,jn]) h
theorem td{n i:Nat}{V:Nat->It}(h:Xr n V i)(hk:zl n V i<n)(ha:prec (V (zl n V i)) (V i)=true):
  Xr n (iq (iq V i (V (zl n V i))) (zl n V i) (V i)) (zl n V i):=by
 have hl:∀j,0<j->j<n->(j-1) /2=i->prec (V j) (V (zl n V i))=false:=λj=>zk;have hkc:=sM n V i;generalize zl n V i=c at*;obtain⟨h1,h2⟩:=h;have hcp:(c-1) /2=i:=by omega
 have hc0:0<c:=by omega
 have pO:c≠i:=by omega
 refine⟨?_,?_⟩
 ·intro j j0 jn jp;unfold E iq;rw[xac jp];by_cases e1:j=c
  ·rw[xae e1,xae (by rw[e1];exact hcp)];exact qp ha
  rw[xac e1];by_cases e2:j=i
  ·rw[xae e2];have:(j-1) /2≠i:=by omega
   rw[xac this,e2];exact h2 c hc0 hk hcp zO
  rw[xac e2];by_cases e3:(j-1) /2=i
  ·rw[xae e3];exact hl j j0 jn e3
  rw[xac e3];exact h1 j j0 jn e3
 intro j j0 jn jp _;unfold iq;rw[hcp];have:j≠c:=by omega
 have e2:j≠i:=by omega
 rw[xac this,xac e2,xac (λe=>pO e.symm),xae rfl];have:=h1 j j0 jn zO;unfold E at this;rwa [jp]at this
theorem Oq{n i:Nat}{V:Nat->It}(h:Xr n V i)(ha:n<=zl n V i\/prec (V (zl n V i)) (V i)=false):Ord n V:=by
 refine z5 h λj j0 jn jp=>?_;have hl:=zk (V:=V) j0 jn jp;rcases ha with ha|ha
 ·rcases sM n V i with h|h<;>omega
 unfold E;rw[jp];exact le_trans ha hl
theorem Vq{n:Nat}{V:Nat->It}(h:Ord n V):∀j,j<n->prec (V j) (V 0)=false:=by
 intro j;induction j using Nat.strongRecOn with
 |_ j ih=>
  intro jn;by_cases j0:j=0
  ·subst j0;exact nR _
  exact le_trans (ih ((j-1) /2) zO zO) (h j zO jn)
def bg(l:List It)(j:Nat):It:=l.getD j (0,0)
theorem Xa{l:List It}{j:Nat}(h:j<l.length):l[j]? =some (bg l j):=by simp[bg,List.getD,h]
theorem g9{l:List It}{i:Nat}(b:It)(h:i<l.length):bg (l.set i b)=iq (bg l) i b:=by
 funext j
 unfold bg iq;simp only[List.getD,xbr];by_cases e:i=j
 ·subst e;simp[h]
 rw[xac e,xac (λx=>e x.symm)]
theorem qg{l:List It}{i:Nat}(h:i<l.length):l.set i (bg l i)=l:=by
 apply xbg;intro j;rw[xbr];by_cases e:i=j
 ·subst e;simp[h,bg,List.getD]
 simp[e]
theorem swap_perm{l:List It}{i q:Nat}(hi:i<l.length)(hq:q<l.length)(hne:q≠i):((l.set i (bg l q)).set q (bg l i)).Perm l:=by
 rw[xcu];intro x;have g1:l[i]=bg l i:=by simp[bg,List.getD,hi]
 have g2:l[q]=bg l q:=by simp[bg,List.getD,hq]
 have g3:(l.set i (bg l q))[q]'(by simp[hq])=bg l q:=by rw[List.getElem_set_ne (λe=>hne e.symm)];exact g2
 rw[xdP (by simp[hq]),xdP hi,g1,g3];have hc:bg l i=x->0<l.count x:=λe=>by rw[xbM,<-e,<-g1];exact xaF hi
 by_cases e1:bg l i=x
 ·have:=hc e1;by_cases e2:bg l q=x<;>simp[e1,e2]<;>omega
 by_cases e2:bg l q=x<;>simp[e1,e2]
def kf(l:List It):Prop:=(l.map Prod.fst).Nodup
theorem kf.perm{l l':List It}(h:kf l)(p:l'.Perm l):kf l':=(p.map _).nodup_iff.2 h
theorem kf.inj{l:List It}(h:kf l){i j:Nat}(hi:i<l.length)(hj:j<l.length)(e:(bg l i).1=(bg l j).1):i=j:=by
 unfold kf at h;have hp:=List.pairwise_iff_getElem.1 h;have g:∀k (hk:k<l.length),(l.map Prod.fst)[k]'(by simpa using hk)=(bg l k).1:=λk hk=>by simp[bg,List.getD,hk]
 rcases xcM i j with hlt|rfl|hlt
 ·have:=hp i j (by simpa using hi) (by simpa using hj) hlt;rw[g i hi,g j hj]at this;exact absurd e this
 ·rfl
 have:=hp j i (by simpa using hj) (by simpa using hi) hlt;rw[g i hi,g j hj]at this;exact absurd e.symm this
theorem iC{l:List It}{x:Int}:x∈l.map Prod.fst↔∃j,j<l.length/\(bg l j).1=x:=by
 rw[xa9];constructor
 ·rintro⟨j,hj,e⟩;have hj':j<l.length:=by simpa using hj
  exact⟨j,hj',by simpa[bg,List.getD,hj']using e⟩
 rintro⟨j,hj,e⟩;exact⟨j,by simpa using hj,by simpa[bg,List.getD,hj]using e⟩
def EV(f:Int->Option Nat)(x:Int)(p:Option Nat):Int->Option Nat:=λy=>if y=x then p else f y
def nv(l:List It)(f:Int->Option Nat)(i:Nat):Prop:=(∀j,j<l.length->j≠i->f (bg l j).1=some j)/\∀x,x∉l.map Prod.fst->f x=none
def Cons(l:List It)(f:Int->Option Nat):Prop:=(∀j,j<l.length->f (bg l j).1=some j)/\∀x,x∉l.map Prod.fst->f x=none
theorem nv.done{l:List It}{f:Int->Option Nat}{i:Nat}(h:nv l f i)(ho:kf l)(hi:i<l.length):Cons l (EV f (bg l i).1 (some i)):=by
 refine⟨λj hj=>?_,λx hx=>?_⟩
 ·unfold EV;by_cases e:(bg l j).1=(bg l i).1
  ·rw[xae e,ho.inj hj hi e]
  rw[xac e];exact h.1 j hj (λe2=>e (by rw[e2]))
 unfold EV;rw[xac (λe=>hx (iC.2 ⟨i,hi,e.symm⟩))];exact h.2 x hx
theorem nv.step{l:List It}{f:Int->Option Nat}{i q:Nat}(h:nv l f i)(ho:kf l)(hi:i<l.length)(hq:q<l.length)(hne:q≠i):
  nv ((l.set i (bg l q)).set q (bg l i)) (EV f (bg l q).1 (some i)) q:=by
 have BX:∀j,bg ((l.set i (bg l q)).set q (bg l i)) j=iq (iq (bg l) i (bg l q)) q (bg l i) j:=λj=>by rw[g9 _ (by simpa using hq),g9 _ hi]
 refine⟨λj hj hjq=>?_,λx hx=>?_⟩
 ·rw[BX];simp only[xbR]at hj;unfold iq EV;rw[xac hjq];by_cases e:j=i
  ·rw[xae e,xae rfl,e]
  rw[xac e];rw[xac (λe2=>hjq (ho.inj hj hq e2))];exact h.1 j hj e
 have hx':x∉l.map Prod.fst:=λhm=>hx (by
  have:=(swap_perm hi hq hne).map Prod.fst;exact this.mem_iff.2 hm)
 unfold EV;rw[xac (λe=>hx' (iC.2 ⟨q,hq,e.symm⟩))];exact h.2 x hx'
end Ub
namespace Ub
open Go Go.Sx
def enc(kd:IntKind)(a:It):List zV:=[.int kd a.1,.int .i64 a.2]
def eU(kd:IntKind)(l:List It):List (List zV):=l.map (enc kd)
theorem cV(kd:IntKind)(l:List It):(eU kd l).length=l.length:=by simp[eU]
theorem Ol(kd:IntKind)(l:List It):∀r∈eU kd l,r.length=2:=λr hr=>by
 obtain⟨a,_,rfl⟩:=xao.1 hr;rfl
theorem fU{kd:IntKind}{l:List It}{i:Nat}(h:i<l.length)(aK:List (List zV)):(eU kd l++aK)[i]? =some (enc kd (bg l i)):=by
 rw[xaV (by rw[cV];exact h),eU,xat,Xa h];rfl
theorem Th{kd:IntKind}{l:List It}{i:Nat}(h:i<l.length)(a:It)(aK:List (List zV)):(eU kd l++aK).set i (enc kd a)=eU kd (l.set i a)++aK:=by
 rw[xc3 _ _ (by rw[cV];exact h),eU,eU,xcT]
def idx(i:Nat):zV:=.int .i64 (i:Int)
def HO(kd:IntKind)(TI TH:TypeId)(h:zV)(l:List It)(f:Int->Option Nat)(C:Hp):Prop:=
 ∃bh sv mv Cs Cm,h=.pointer (some ⟨bh,0,none⟩)/\C=(bh,Obj.cells #[sv,mv] TH (0,0))::(Cs++Cm)/\aV TI 2 sv (eU kd l) Cs/\lf kd idx mv f Cm/\(mv=.map none->l=[])
theorem HO.open{kd:IntKind}{TI TH:TypeId}{h:zV}{l:List It}{f:Int->Option Nat}{C:Hp}(H:HO kd TI TH h l f C)(hp:0<l.length):
  ∃bh la mb aK Cm,h=.pointer (some ⟨bh,0,none⟩)/\
   C=(bh,Obj.cells #[.slice (some ⟨la,0,none⟩) l.length (l.length+aK.length),.map (some mb)] TH (0,0))::(la,.cells (rows (eU kd l++aK)) TI (0,0))::Cm/\
   (∀r∈eU kd l++aK,r.length=2)/\lf kd idx (.map (some mb)) f Cm:=by
 obtain⟨bh,sv,mv,Cs,Cm,rfl,rfl,hs,hm,hne⟩:=H;obtain⟨la,aK,rfl,rfl,aJ⟩:=hs.pos (by rw[cV];exact hp);rw[cV];rcases hm with⟨rfl,_⟩|⟨mb,m,ck,rfl,h2⟩
 ·rw[hne rfl]at hp;simp at hp
 exact⟨bh,la,mb,aK,Cm,rfl,rfl,aJ,.inr ⟨mb,m,ck,rfl,h2⟩⟩
theorem HO.shut{kd:IntKind}{TI TH:TypeId}{bh la mb n c:Nat}{aK:List (List zV)}{Cm:Hp}{l:List It}{f:Int->Option Nat}(aJ:∀r∈eU kd l++aK,r.length=2)(hn:n=l.length)(hc:c=l.length+aK.length)
 (hm:lf kd idx (.map (some mb)) f Cm):
  HO kd TI TH (.pointer (some ⟨bh,0,none⟩)) l f ((bh,Obj.cells #[.slice (some ⟨la,0,none⟩) n c,.map (some mb)] TH (0,0))::(la,.cells (rows (eU kd l++aK)) TI (0,0))::Cm):=
 ⟨bh,_,_,[_],Cm,rfl,rfl,aV.mk' aJ (by rw[cV];exact hn) (by rw[cV];exact hc),hm,λh=>by simp at h⟩
theorem QW{l aK:List (List zV)}(h:∀r∈l++aK,r.length=2)(kd:IntKind)(l':List It):∀r∈eU kd l'++aK,r.length=2:=λr hr=>by
 rcases xan.1 hr with hr|hr
 ·exact Ol kd l' r hr
 exact h r (by simp[hr])
theorem pn(kd:IntKind)(a:It):∀v∈enc kd a,v.oneCell'=true:=by simp[enc,Value.oneCell']
end Ub
namespace Ub
open Go Go.Sx
theorem YK(j:Nat)(h:0<j):((j-1:Nat):Int).tdiv 2=(((j-1) /2:Nat):Int):=by
 rw[Int.tdiv_eq_ediv_of_nonneg zO];omega
theorem vp{l:List It}{i q:Nat}(a:It)(hi:i<l.length)(hq:q<l.length)(hne:q≠i):((l.set i a).set i (bg (l.set i a) q)).set q (bg (l.set i a) i)=(l.set i (bg l q)).set q a:=by
 rw[g9 a hi,List.set_set];simp[iq,hne]
def HI(kd:IntKind)(TI TH:TypeId)(h:zV)(l:List It)(C:Hp):Prop:=∃f,HO kd TI TH h l f C/\Cons l f/\Ord l.length (bg l)/\kf l
theorem Hg{l:List It}{a:It}{j:Nat}(h:j<l.length):bg (l++[a]) j=bg l j:=by simp[bg,List.getD,xaV h]
theorem Q4{l:List It}{f:Int->Option Nat}{a:It}(hc:Cons l f)(ho:Ord l.length (bg l))(h1:kf l)(hx:a.1∉l.map Prod.fst):
  An (l++[a]).length (bg (l++[a])) l.length/\nv (l++[a]) f l.length/\kf (l++[a])/\py (l++[a]).length (bg (l++[a])) l.length:=by
 simp only[xaf,xaB,xch,xa5];refine⟨⟨λj j0 jn jne jp=>?_,λj j0 jn jp=>by omega⟩,⟨λj jn jne=>?_,λx hx'=>?_⟩,?_,λj j0 jn jp=>by omega⟩
 ·unfold E;rw[Hg zO,Hg zO];exact ho j j0 zO
 ·simp only[xaf,xaB,xch]at jn;rw[Hg zO];exact hc.1 j zO
 ·exact hc.2 x (λh=>hx' (by rw[xaH,xan];exact .inl h))
 unfold kf at*;rw[xaH,xa2];exact⟨h1,by simp,λa' er b hb=>by simp at hb;subst hb;intro e;subst e;exact hx er⟩
theorem Ts{l:List It}{f:Int->Option Nat}(hc:Cons l f){x:Int}:(x∉l.map Prod.fst/\f x=none)\/∃i,i<l.length/\(bg l i).1=x/\f x=some i:=by
 by_cases h:x∈l.map Prod.fst
 ·obtain⟨j,hj,e⟩:=iC.1 h;exact .inr ⟨j,hj,e,by rw[<-e];exact hc.1 j hj⟩
 exact .inl ⟨h,hc.2 x h⟩
theorem Vi{l:List It}{f:Int->Option Nat}(hc:Cons l f)(ho:Ord l.length (bg l))(h1:kf l){n:Nat}(hn:l.length=n+1):
  let l':=l.take n
  ((0<n->(bg l n)::(l'.set 0 (bg l n)).tail=l'.set 0 (bg l n)/\(bg l 0::l'.set 0 (bg l n)).Perm l/\Xr n (bg (l'.set 0 (bg l n))) 0/\kf (l'.set 0 (bg l n))/\
   nv (l'.set 0 (bg l n)) (EV f (bg l 0).1 none) 0)):=by
 intro l' Wi;have hl':l'.length=n:=by simp[l',hn]
 have dh:(bg l 0::l'.set 0 (bg l n)).Perm l:=by
  rw[xcu];intro x;have e:l=l'++[bg l n]:=by
   have:l=l.take n++l.drop n:=(xbt n l).symm;have h2:l.drop n=[bg l n]:=by
    rw[xbu zO,xdk zO];simp[hn,bg,List.getD]
   rw[h2]at this;exact this
  have g0:l'[0]' zO=bg l 0:=by simp[l',bg,List.getD,hn]
  conv=>rhs;rw[e]
  rw[xb5,xdP zO,g0,xbh];have hc0:bg l 0=x->0<l'.count x:=λe=>by rw[xbM,<-e,<-g0];exact xaF _
  by_cases e1:bg l 0=x
  ·have:=hc0 e1;by_cases e2:bg l n=x<;>simp[e1,e2]<;>omega
  by_cases e2:bg l n=x<;>simp[e1,e2]
 have BX:∀j,j<n->j≠0->bg (l'.set 0 (bg l n)) j=bg l j:=λj hj h0=>by
  rw[g9 _ zO];simp[iq,h0,l',bg,List.getD,hj]
 have hO:kf (l'.set 0 (bg l n)):=by
  have:=(h1.perm dh:kf _);unfold kf at this⊢;simp only[xaC,xaX]at this;exact this.2
 refine⟨?_,dh,⟨λj j0 jn jp=>?_,λj j0 jn jp h=>by omega⟩,hO,λj hj Wo=>?_,λx hx=>?_⟩
 ·cases hh:l' with
  |nil=>rw[hh]at hl';simp at hl';omega
  |cons a r=>simp
 ·unfold E;rw[BX j jn zO,BX _ zO jp];exact ho j j0 zO
 ·simp only[xbR,hl']at hj;rw[BX j hj Wo];unfold EV;rw[xac (λe=>Wo (h1.inj zO zO e))];exact hc.1 j zO
 unfold EV;by_cases e:x=(bg l 0).1
 ·rw[xae e]
 rw[xac e];refine hc.2 x λhm=>hx ?_;have:=(dh.map Prod.fst).mem_iff.2 hm;simp only[xaC,xal]at this;rcases this with h|h
 ·exact absurd h e
 exact h
end Ub
set_option maxRecDepth 100000
namespace Go.Proofs
open Go Go.Sx
section
open Ub
abbrev Uy:=HO .i64 397 395
abbrev Xp:=HI .i64 397 395
theorem xl(a b:It)(B:Hp):Rd zQ 381 #[.agg #[iv a.1,iv a.2],.agg #[iv b.1,iv b.2]] B (· =.bool (prec a b)):=by
 refine aE λg=>HN λb1 _ b2 _=>?_
 (repeat (first|apply ai.mk|refine Ld.mk (by repeat (first|exact List.Mem.head _|apply List.Mem.tail|apply xab)) rfl ?_|apply ae.eql|apply ae.geq))
 refine cm.or (a.2==b.2&&decide (a.1<b.1)) (λ_=>?_) rfl λ_=>br.mk (.skip .tail) rfl
 (repeat (first|apply ai.mk|refine Ld.mk (by repeat (first|exact List.Mem.head _|apply List.Mem.tail|apply xab)) rfl ?_|apply ae.eql|apply ae.geq))
 refine cm.and (decide (a.1<b.1)) (λ_=>?_) rfl λ_=>⟨rfl,rfl⟩
 (repeat (first|apply ai.mk|refine Ld.mk (by repeat (first|exact List.Mem.head _|apply List.Mem.tail|apply xab)) rfl ?_|apply ae.eql|apply ae.geq))
 exact⟨rfl,rfl⟩
theorem rL{h:zV}{l:List It}{f:Int->Option Nat}{C:Hp}(ho:Uy h l f C){i:Nat}(hi:i<l.length)(a:It):
  Fc zQ 333 #[h,iv (i:Int),.agg #[iv a.1,iv a.2]] C (λv C'=>v=.tuple #[]/\Uy h (l.set i a) (EV f a.1 (some i)) C'):=by
 obtain⟨bh,la,mb,aK,Cm,rfl,rfl,aJ,hm⟩:=ho.open zO;refine aE λg=>Ir λb1 _=>?_;refine DR.self ?_
 (repeat (first|apply Nil.ptr|apply ai.mk|refine Ld.mk (by repeat (first|exact List.Mem.head _|apply List.Mem.tail|apply xab)) rfl ?_))
 refine az.whole (r:=enc .i64 a) zM rfl ?_;refine av.nat hi ?_;refine St.row (l:=eU .i64 l++aK) (by repeat (first|exact dg.head _|apply dg.tail|apply dg.ca)) aJ (by rw[xaf,cV];omega) rfl (pn _ _) ?_;refine DR.self ?_
 (repeat (first|apply Nil.ptr|apply ai.mk|refine Ld.mk (by repeat (first|exact List.Mem.head _|apply List.Mem.tail|apply xab)) rfl ?_))
 rw[<-xaL Cm];refine lf.bt (p:=i) (A:=[_,_,_]) (B:=[]) hm λC' hm'=>?_;refine⟨_,_,rfl,.tail,rfl,?_⟩;rw[Th hi,xaL];exact .shut (QW aJ _ _) zI zI hm'
theorem Zm{h:zV}{l:List It}{f:Int->Option Nat}{C:Hp}(ho:Uy h l f C){i:Nat}(hi:i<l.length)(cD:l.length<4611686018427387904)(hu:An l.length (bg l) i)(hc:nv l f i)(hO:kf l):
  Fc zQ 332 #[h,iv (i:Int)] C (λv C'=>v=.tuple #[]/\∃l' f' p,Uy h l' f' C'/\l'.Perm l/\Cons l' f'/\Xr l'.length (bg l') p/\p<l'.length/\bg l' p=bg l i/\
   (py l.length (bg l) i->Ord l'.length (bg l'))):=by
 obtain⟨bh,la,mb,aK,Cm,rfl,rfl,aJ,hm⟩:=ho.open zO;obtain⟨n,hn⟩:∃n,n=l.length:=⟨_,rfl⟩;obtain⟨a,ha⟩:∃a,a=bg l i:=⟨_,rfl⟩;refine aE λg=>Is ?_
 (repeat (first|apply Nil.ptr|apply ai.mk|refine Ld.mk (by repeat (first|exact List.Mem.head _|apply List.Mem.tail|apply xab)) rfl ?_))
 refine av.nat hi ?_;refine az.row (l:=eU .i64 l++aK) zM aJ (fU hi aK) ?_;intro b6 _;refine St.p (pn _ _) ?_;rw[<-ha];refine⟨λvs H=>∃(j:Nat) (L:List It) (f:Int->Option Nat) (C:Hp),vs=[iv (j:Int)]/\H=(b6,Obj.cells (enc .i64 a).toArray 397 zZ)::C/\Uy (.pointer (some ⟨bh,0,none⟩)) L f C/\L.length=n/\j<n/\
   (L.set j a).Perm l/\An n (bg (L.set j a)) j/\nv (L.set j a) f j/\(py n (bg l) i->py n (bg (L.set j a)) j),
  λvs _=>bJ vs 0,.mk ⟨i,l,f,_,rfl,rfl,ho,hn.symm,by omega,?_,?_,?_,?_⟩,?_⟩
 ·exact(by rw[ha,qg hi])
 ·rw[ha,qg hi,hn];exact hu
 ·rw[ha,qg hi];exact hc
 ·rw[ha,qg hi];exact id
 rintro w H ⟨j,L,f,C,hw,rfl,ho,hLn,hj,hp,hu,hc,kQ⟩ gs;simp only[xax,xa0]at hw;subst hw;have ho0:=ho;obtain⟨bh',la,mb,aK,Cm,hbh,rfl,aJ,hm⟩:=ho.open zO;simp only[Value.pointer.injEq,xaq,Addr.mk.injEq,xa0]at hbh;subst hbh;have hOV:kf (L.set j a):=hO.perm hp;have hlV:(L.set j a).length=n:=by simp[hLn]
 have Yb:bg (L.set j a) j=a:=by rw[g9 a zO];simp[iq]
 have hVq:0<j->bg (L.set j a) ((j-1) /2)=bg L ((j-1) /2):=λh0=>by rw[g9 a zO];simp[iq,show¬((j-1) /2=j)from by omega]
 intro J hJ;have hend:¬(0<j/\prec a (bg L ((j-1) /2))=true)->J [.bool false] ((b6,Obj.cells (enc .i64 a).toArray 397 zZ)::(bh,Obj.cells #[.slice (some ⟨la,0,none⟩) L.length (L.length+aK.length),.map (some mb)] 395 zZ)::(la,.cells (rows (eU .i64 L++aK)) 397 zZ)::Cm):=λhno=>hJ _ _ λgs=>by
  refine Br.no (az.q ?_);refine aa.fq (rL ho0 (i:=j) zO a) ?_;rintro v C' ⟨rfl,cC⟩;have hd:=hc.done hOV zO;rw[Yb]at hd;have hex:=UH hu (by
   by_cases h0:j=0
   ·exact .inl h0
   right;rw[Yb,hVq zO];cases h:prec a (bg L ((j-1) /2))
   ·rfl
   exact absurd ⟨by omega,h⟩ hno)
  rw[<-hlV]at hex;exact⟨_,_,rfl,.tail,rfl,_,_,j,cC,hp,hd,hex,by omega,by rw[Yb,ha],λhk=>z5 hex (by rw[hlV];exact kQ (by rw[hn];exact hk))⟩
 refine DR.self (ae.gtr (Br.dec (λh0=>?_) (λh0=>JE.mk (hend (λh=>h0 zO)))));have h0:0<j:=by omega
 refine az.q ?_
 (repeat (first|apply Nil.ptr|apply ai.mk|refine Ld.mk (by repeat (first|exact List.Mem.head _|apply List.Mem.tail|apply xab)) rfl ?_))
 refine ae.lJ (c:=((j-1:Nat):Int)) zO zO (ae.QZ zD (YK j h0) zO (av.nat zO ?_));refine az.row (l:=eU .i64 L++aK) zM aJ (fU zO aK) ?_;intro F;refine aa.eq (xl a _ _) (⟨.refl _,?_⟩);cases XY:prec a (bg L ((j-1) /2))with
 |false=>exact aM.mk (JE.mk (hend (λh=>by rw[XY]at h;exact absurd h.2 zD)))
 |true=>
 refine aM.mk (JE.mk (hJ _ _ λgs=>Br.yes ?_))
 (repeat (first|apply Nil.ptr|apply ai.mk|refine Ld.mk (by repeat (first|exact List.Mem.head _|apply List.Mem.tail|apply xab)) rfl ?_))
 refine ae.lJ (c:=((j-1:Nat):Int)) zO zO (ae.QZ zD (YK j h0) zO (av.nat zO ?_));refine az.row (l:=eU .i64 L++aK) zM aJ (fU zO aK) ?_;refine aa.fq (rL ho0 (i:=j) zO (bg L ((j-1) /2))) ?_;rintro v C' ⟨rfl,cC⟩;refine ae.lJ (c:=((j-1:Nat):Int)) zO zO (ae.QZ zD (YK j h0) zO ?_);have hst:=UG h0 (by rw[<-hlV]at hj;rw[hlV]at hj;exact hj) hu (by rw[Yb,hVq h0];exact XY);have hcs:=hc.step hOV (i:=j) (q:=(j-1) /2) zO zO zO;have hpp:=(swap_perm (l:=L.set j a) (i:=j) (q:=(j-1) /2) zO zO zO).trans hp;have ZX:(L.set j (bg L ((j-1) /2))).set ((j-1) /2) a=((L.set j a).set j (bg (L.set j a) ((j-1) /2))).set ((j-1) /2) (bg (L.set j a) j):=(vp a zO zO zO).symm;have BX:bg ((L.set j (bg L ((j-1) /2))).set ((j-1) /2) a)=iq (iq (bg (L.set j a)) j (bg (L.set j a) ((j-1) /2))) ((j-1) /2) (bg (L.set j a) j):=by
  rw[ZX,g9 _ zP,g9 _ zO]
 refine aC.mk ⟨(j-1) /2,_,_,C',rfl,rfl,cC,by simp[hLn],by omega,?_,?_,?_,λ_=>?_⟩ ?_
 ·rw[ZX];exact hpp
 ·rw[BX];exact hst.1
 ·rw[ZX];rw[hVq h0]at hcs⊢;exact hcs
 ·rw[BX];exact hst.2
 simp only[bJ,xa3];omega
end
section
open Ub
theorem Sv{h:zV}{l:List It}{f:Int->Option Nat}{C:Hp}(ho:Uy h l f C){i:Nat}(hi:i<l.length)(cD:l.length<4611686018427387904)(hu:Xr l.length (bg l) i)(hc:nv l f i)(hO:kf l):
  Fc zQ 334 #[h,iv (i:Int)] C (λv C'=>v=.tuple #[]/\∃l' f',Uy h l' f' C'/\l'.Perm l/\Cons l' f'/\Ord l'.length (bg l')):=by
 obtain⟨bh,la,mb,aK,Cm,rfl,rfl,aJ,hm⟩:=ho.open zO;obtain⟨n,hn⟩:∃n,n=l.length:=⟨_,rfl⟩;obtain⟨a,ha⟩:∃a,a=bg l i:=⟨_,rfl⟩;refine aE λg=>Iq ?_
 (repeat (first|apply Nil.ptr|apply ai.mk|refine Ld.mk (by repeat (first|exact List.Mem.head _|apply List.Mem.tail|apply xab)) rfl ?_|apply aR.mk|apply ae.geq))
 refine av.nat hi ?_;refine az.row (l:=eU .i64 l++aK) zM aJ (fU hi aK) ?_;intro b6 _;refine St.p (pn _ _) ?_;rw[<-ha];refine⟨λvs H=>∃(j:Nat) (L:List It) (f:Int->Option Nat) (C:Hp),vs=[iv (j:Int)]/\H=(b6,Obj.cells (enc .i64 a).toArray 397 zZ)::C/\Uy (.pointer (some ⟨bh,0,none⟩)) L f C/\L.length=n/\j<n/\
   (L.set j a).Perm l/\Xr n (bg (L.set j a)) j/\nv (L.set j a) f j,
  λvs _=>n-bJ vs 0,.mk ⟨i,l,f,_,rfl,rfl,ho,hn.symm,by omega,?_,?_,?_⟩,?_⟩
 ·exact(by rw[ha,qg hi])
 ·rw[ha,qg hi,hn];exact hu
 ·rw[ha,qg hi];exact hc
 rintro w H ⟨j,L,f,C,hw,rfl,ho,hLn,hj,hp,hu,hc⟩ gs;simp only[xax,xa0]at hw;subst hw;have ho0:=ho;obtain⟨bh',la,mb,aK,Cm,hbh,rfl,aJ,hm⟩:=ho.open zO;simp only[Value.pointer.injEq,xaq,Addr.mk.injEq,xa0]at hbh;subst hbh;have hOV:kf (L.set j a):=hO.perm hp;have hlV:(L.set j a).length=n:=by simp[hLn]
 have Yb:bg (L.set j a) j=a:=by rw[g9 a zO];simp[iq]
 have hVL:∀c,c≠j->bg (L.set j a) c=bg L c:=λc h0=>by rw[g9 a zO];simp[iq,h0]
 refine ae.abO (c:=((2*j:Nat):Int)) zO zO (ae.EH (c:=((2*j+1:Nat):Int)) zO zO λJ hJ=>?_);obtain⟨c,hcd⟩:∃c,c=zl n (bg (L.set j a)) j:=⟨_,rfl⟩;have hkc:=sM n (bg (L.set j a)) j;rw[<-hcd]at hkc;have jr:J [iv (c:Int)] ((b6,Obj.cells (enc .i64 a).toArray 397 zZ)::(bh,Obj.cells #[.slice (some ⟨la,0,none⟩) L.length (L.length+aK.length),.map (some mb)] 395 zZ)::(la,.cells (rows (eU .i64 L++aK)) 397 zZ)::Cm):=by
  refine hJ _ _ λgs2=>?_;intro J2 BZ;have hstop:n<=c\/prec (bg L c) a=false->J2 [.bool true] ((b6,Obj.cells (enc .i64 a).toArray 397 zZ)::(bh,Obj.cells #[.slice (some ⟨la,0,none⟩) L.length (L.length+aK.length),.map (some mb)] 395 zZ)::(la,.cells (rows (eU .i64 L++aK)) 397 zZ)::Cm):=λhst=>BZ _ _ λgs=>by
   refine Br.yes (az.q ?_);refine aa.fq (rL ho0 (i:=j) zO a) ?_;rintro v C' ⟨rfl,cC⟩;have hd:=hc.done hOV zO;rw[Yb]at hd;have hex:=Oq hu (by
    rw[<-hcd];by_cases h0:n<=c
    ·exact .inl h0
    right;rw[Yb,hVL c zO];rcases hst with h|h
    ·omega
    exact h)
   rw[<-hlV]at hex;exact⟨_,_,rfl,.tail,rfl,_,_,cC,hp,hd,hex⟩
  refine DR.self ?_
  (repeat (first|apply Nil.ptr|apply ai.mk|refine Ld.mk (by repeat (first|exact List.Mem.head _|apply List.Mem.tail|apply xab)) rfl ?_|apply aR.mk|apply ae.geq))
  refine Br.dec (λh0=>JE.mk (hstop (.inl zO))) (λh0=>?_);have h0:c<n:=by omega
  (repeat (first|apply Nil.ptr|apply ai.mk|refine Ld.mk (by repeat (first|exact List.Mem.head _|apply List.Mem.tail|apply xab)) rfl ?_|apply aR.mk|apply ae.geq))
  refine av.nat zO ?_;refine az.row (l:=eU .i64 L++aK) zM aJ (fU zO aK) ?_;refine az.q ?_;intro F;refine aa.eq (xl _ a _) (⟨.refl _,Un.not ?_⟩);cases XY:prec (bg L c) a with
  |false=>exact aM.mk (JE.mk (hstop (.inr XY)))
  |true=>
  refine aM.mk (JE.mk (BZ _ _ λgs=>Br.no ?_))
  (repeat (first|apply Nil.ptr|apply ai.mk|refine Ld.mk (by repeat (first|exact List.Mem.head _|apply List.Mem.tail|apply xab)) rfl ?_|apply aR.mk|apply ae.geq))
  refine av.nat zO ?_;refine az.row (l:=eU .i64 L++aK) zM aJ (fU zO aK) ?_;refine aa.fq (rL ho0 (i:=j) zO (bg L c)) ?_;rintro v C' ⟨rfl,cC⟩;have hcj:c≠j:=by omega
  have hst:=td hu (by rw[<-hcd];exact h0) (by rw[<-hcd,Yb,hVL c hcj];exact XY);rw[<-hcd]at hst;have hcs:=hc.step hOV (i:=j) (q:=c) zO zO hcj;have hpp:=(swap_perm (l:=L.set j a) (i:=j) (q:=c) zO zO hcj).trans hp;have ZX:(L.set j (bg L c)).set c a=((L.set j a).set j (bg (L.set j a) c)).set c (bg (L.set j a) j):=(vp a zO zO hcj).symm;have BX:bg ((L.set j (bg L c)).set c a)=iq (iq (bg (L.set j a)) j (bg (L.set j a) c)) c (bg (L.set j a) j):=by
   rw[ZX,g9 _ zP,g9 _ zO]
  refine aC.mk ⟨c,_,_,C',rfl,rfl,cC,by simp[hLn],by omega,?_,?_,?_⟩ ?_
  ·rw[ZX];exact hpp
  ·rw[BX];exact hst
  ·rw[ZX];rw[hVL c hcj]at hcs⊢;exact hcs
  simp only[bJ,xa3];omega
 intro J3 hJ3;have hkd:zl n (bg (L.set j a)) j=if(decide (2*j+1+1<n) &&prec (bg L (2*j+1+1)) (bg L (2*j+1)))=true then 2*j+1+1 else 2*j+1:=by
  unfold zl;rw[hVL _ zO,hVL _ zO]
 rw[hkd]at hcd;have hno:¬(2*j+1+1<n/\prec (bg L (2*j+1+1)) (bg L (2*j+1))=true)->J3 [.bool false] ((b6,Obj.cells (enc .i64 a).toArray 397 zZ)::(bh,Obj.cells #[.slice (some ⟨la,0,none⟩) L.length (L.length+aK.length),.map (some mb)] 395 zZ)::(la,.cells (rows (eU .i64 L++aK)) 397 zZ)::Cm):=λhx=>hJ3 _ _ λgs=>by
  rw[xac (by simpa using hx)]at hcd;rw[hcd]at jr;exact Br.no (.mk jr)
 refine DR.self (ae.EH (c:=((2*j+1+1:Nat):Int)) zO zO ?_)
 (repeat (first|apply Nil.ptr|apply ai.mk|refine Ld.mk (by repeat (first|exact List.Mem.head _|apply List.Mem.tail|apply xab)) rfl ?_|apply aR.mk|apply ae.geq))
 refine Br.dec (λh0=>?_) (λh0=>JE.mk (hno (λh=>h0 zO)));have h0:2*j+1+1<n:=by omega
 (repeat (first|apply Nil.ptr|apply ai.mk|refine Ld.mk (by repeat (first|exact List.Mem.head _|apply List.Mem.tail|apply xab)) rfl ?_|apply aR.mk|apply ae.geq))
 refine ae.EH (c:=((2*j+1+1:Nat):Int)) zO zO (av.nat zO ?_);refine az.row (l:=eU .i64 L++aK) zM aJ (fU zO aK) ?_
 (repeat (first|apply Nil.ptr|apply ai.mk|refine Ld.mk (by repeat (first|exact List.Mem.head _|apply List.Mem.tail|apply xab)) rfl ?_|apply aR.mk|apply ae.geq))
 refine av.nat zO ?_;refine az.row (l:=eU .i64 L++aK) zM aJ (fU zO aK) ?_;intro F;refine aa.eq (xl _ _ _) (⟨.refl _,?_⟩);cases XY:prec (bg L (2*j+1+1)) (bg L (2*j+1))with
 |false=>exact aM.mk (JE.mk (hno (λh=>by rw[XY]at h;exact absurd h.2 zD)))
 |true=>
 refine aM.mk (JE.mk (hJ3 _ _ λgs=>Br.yes ?_));refine ae.EH (c:=((2*j+1+1:Nat):Int)) zO zO ?_;rw[xae (by simp[h0,XY])]at hcd;rw[hcd]at jr;exact .mk jr
theorem Wg(B:Hp):Fc zQ 261 #[] B (λv H=>∃b C,v=.pointer (some ⟨b,0,none⟩)/\H=C++B/\Xp (.pointer (some ⟨b,0,none⟩)) [] C):=by
 refine aE λg=>Jj (Build.mk (cs:=[.slice none 0 0,.map none]) zK ?_);intro b _;exact⟨_,_,rfl,.refl _,b,[_],rfl,rfl,λ_=>none,⟨b,_,_,[],[],rfl,rfl,aV.nil _ _,.inl ⟨rfl,rfl,rfl⟩,λ_=>rfl⟩,⟨λj hj=>by simp at hj,λ_ _=>rfl⟩,λj _ hj=>by simp at hj,by simp[kf]⟩
theorem R3{h:zV}{l:List It}{C:Hp}(hi:Xp h l C)(cD:l.length<4398046511104)(x k:Int):
  Fc zQ 263 #[h,iv x,iv k] C (λv C'=>∃l',Xp h l' C'/\
   ((x∈l.map Prod.fst/\v=iv 11/\l'=l)\/(x∉l.map Prod.fst/\v=iv 0/\l'.Perm ((x,k)::l)))):=by
 have Gw:=hi;obtain⟨f,ho,hc,hO,h1⟩:=hi;have ho0:=ho;obtain⟨bh,sv,mv,Cs,Cm,rfl,rfl,hs,hm,hne⟩:=ho;refine aE λg=>Jh ?_
 (repeat (first|apply Nil.ptr|refine ai.mk ?_|refine Ld.mk zM rfl ?_|refine aR.mk ?_|refine ae.eql ?_|refine ae.neq ?_|refine ae.lss ?_|refine ae.leq ?_|refine ae.gtr ?_|refine ae.geq ?_|apply Un.not|refine Ext.mk rfl ?_|refine aM.mk ?_|refine ae.aI ?_|refine ae.kZ ?_|refine ae.j5 ?_|apply Br.yes|apply Br.no))
 rcases Ts hc (x:=x)with⟨hx,hf⟩|⟨i,hi,hx,hf⟩
 ·refine hm.NJ zS hf ?_
  (repeat (first|apply Nil.ptr|refine ai.mk ?_|refine Ld.mk zM rfl ?_|refine aR.mk ?_|refine ae.eql ?_|refine ae.neq ?_|refine ae.lss ?_|refine ae.leq ?_|refine ae.gtr ?_|refine ae.geq ?_|apply Un.not|refine Ext.mk rfl ?_|refine aM.mk ?_|refine ae.aI ?_|refine ae.kZ ?_|refine ae.j5 ?_|apply Br.yes|apply Br.no))
  intro J hJ;obtain⟨uK,iX,Ul,hp4⟩:=Q4 (a:=(x,k)) hc hO h1 hx;have jr:∀mb Yr,lf .i64 idx (.map (some mb)) f Yr->J [] ((bh,Obj.cells #[sv,.map (some mb)] 395 zZ)::(Cs++Yr)):=by
   intro mb Yr hm';refine hJ _ λgs=>?_
   (repeat (first|apply Nil.ptr|refine ai.mk ?_|refine Ld.mk zM rfl ?_|refine aR.mk ?_|refine ae.eql ?_|refine ae.neq ?_|refine ae.lss ?_|refine ae.leq ?_|refine ae.gtr ?_|refine ae.geq ?_|apply Un.not|refine Ext.mk rfl ?_|refine aM.mk ?_|refine ae.aI ?_|refine ae.kZ ?_|refine ae.j5 ?_|apply Br.yes|apply Br.no))
   refine Build.mk (cs:=enc .i64 (x,k)) zK (au.one (k:=2) (e:=397) (z:=.agg #[iv 0,iv 0]) zK zK zK zD rfl λxb=>?_);refine hs.Hi (A:=[_,_]) (B:=Yr) (r:=enc .i64 (x,k)) zM rfl (pn _ _) ⟨[iv 0,iv 0],rfl,rfl⟩ (by rw[cV];omega) (by rw[cV];omega) λv' C' hs'=>?_
   (repeat (first|apply Nil.ptr|refine ai.mk ?_|refine Ld.mk zM rfl ?_|refine aR.mk ?_|refine ae.eql ?_|refine ae.neq ?_|refine ae.lss ?_|refine ae.leq ?_|refine ae.gtr ?_|refine ae.geq ?_|apply Un.not|refine Ext.mk rfl ?_|refine aM.mk ?_|refine ae.aI ?_|refine ae.kZ ?_|refine ae.j5 ?_|apply Br.yes|apply Br.no))
   refine St.one (by repeat (first|exact dg.head _|apply dg.tail|apply dg.ca)) (by obtain⟨a,c,rfl⟩:=hs'.len;rfl) zI rfl ?_
   (repeat (first|apply Nil.ptr|refine ai.mk ?_|refine Ld.mk zM rfl ?_|refine aR.mk ?_|refine ae.eql ?_|refine ae.neq ?_|refine ae.lss ?_|refine ae.leq ?_|refine ae.gtr ?_|refine ae.geq ?_|apply Un.not|refine Ext.mk rfl ?_|refine aM.mk ?_|refine ae.aI ?_|refine ae.kZ ?_|refine ae.j5 ?_|apply Br.yes|apply Br.no))
   refine hs'.bP ?_;refine ae.lJ (c:=((l.length:Nat):Int)) (by rw[xaf,cV];simp) zO ?_;have sQ:aV 397 2 v' (eU .i64 (l++[(x,k)])) C':=by simpa[eU]using hs'
   have cC:Uy (.pointer (some ⟨bh,0,none⟩)) (l++[(x,k)]) f ((bh,Obj.cells #[v',.map (some mb)] 395 zZ)::(C'++Yr)):=
    ⟨bh,_,_,C',Yr,rfl,rfl,sQ,hm',λh=>by simp at h⟩
   refine aa.pre (.tail) ?_;refine aa.fq (Zm cC (i:=l.length) zI zP uK iX Ul) ?_;rintro v C'' ⟨rfl,l',f',p,tM,dh,hc2,hex,hp,BX,af3⟩;refine⟨_,_,rfl,.refl _,l',⟨f',tM,hc2,af3 hp4,Ul.perm dh⟩,.inr ⟨hx,rfl,dh.trans ?_⟩⟩;exact xbe (l₁:=l) (l₂:=[(x,k)])
  (repeat (first|apply Nil.ptr|refine ai.mk ?_|refine Ld.mk zM rfl ?_|refine aR.mk ?_|refine ae.eql ?_|refine ae.neq ?_|refine ae.lss ?_|refine ae.leq ?_|refine ae.gtr ?_|refine ae.geq ?_|apply Un.not|refine Ext.mk rfl ?_|refine aM.mk ?_|refine ae.aI ?_|refine ae.kZ ?_|refine ae.j5 ?_|apply Br.yes|apply Br.no))
  rcases hm with⟨rfl,rfl,hfn⟩|⟨mb,m,ck,rfl,h2⟩
  ·(repeat (first|apply Nil.ptr|refine ai.mk ?_|refine Ld.mk zM rfl ?_|refine aR.mk ?_|refine ae.eql ?_|refine ae.neq ?_|refine ae.lss ?_|refine ae.leq ?_|refine ae.gtr ?_|refine ae.geq ?_|apply Un.not|refine Ext.mk rfl ?_|refine aM.mk ?_|refine ae.aI ?_|refine ae.kZ ?_|refine ae.j5 ?_|apply Br.yes|apply Br.no))
   intro mb _
   (repeat (first|apply Nil.ptr|refine ai.mk ?_|refine Ld.mk zM rfl ?_|refine aR.mk ?_|refine ae.eql ?_|refine ae.neq ?_|refine ae.lss ?_|refine ae.leq ?_|refine ae.gtr ?_|refine ae.geq ?_|apply Un.not|refine Ext.mk rfl ?_|refine aM.mk ?_|refine ae.aI ?_|refine ae.kZ ?_|refine ae.j5 ?_|apply Br.yes|apply Br.no))
   refine St.one (by repeat (first|exact dg.head _|apply dg.tail|apply dg.ca)) rfl zI rfl ?_;refine JE.of ?_ (jr mb _ (by rw[hfn];exact lf.made mb));simp only[xaL];refine .perm ?_;refine(List.Perm.swap _ _ _).trans (.cons _ ?_);exact xbe (l₁:=[_])
  (repeat (first|apply Nil.ptr|refine ai.mk ?_|refine Ld.mk zM rfl ?_|refine aR.mk ?_|refine ae.eql ?_|refine ae.neq ?_|refine ae.lss ?_|refine ae.leq ?_|refine ae.gtr ?_|refine ae.geq ?_|apply Un.not|refine Ext.mk rfl ?_|refine aM.mk ?_|refine ae.aI ?_|refine ae.kZ ?_|refine ae.j5 ?_|apply Br.yes|apply Br.no))
  exact JE.mk (jr mb Cm (.inr ⟨mb,m,ck,rfl,h2⟩))
 refine hm.NI zS hf ?_
 (repeat (first|apply Nil.ptr|refine ai.mk ?_|refine Ld.mk zM rfl ?_|refine aR.mk ?_|refine ae.eql ?_|refine ae.neq ?_|refine ae.lss ?_|refine ae.leq ?_|refine ae.gtr ?_|refine ae.geq ?_|apply Un.not|refine Ext.mk rfl ?_|refine aM.mk ?_|refine ae.aI ?_|refine ae.kZ ?_|refine ae.j5 ?_|apply Br.yes|apply Br.no))
 refine⟨_,_,rfl,.refl _,l,Gw,.inl ⟨?_,rfl,rfl⟩⟩;rw[iC];exact⟨i,hi,hx⟩
theorem We{h:zV}{l:List It}{C:Hp}(hi:Xp h l C)(cD:l.length<4398046511104):
  Fc zQ 265 #[h] C (λv C'=>∃l',Xp h l' C'/\
   ((l=[]/\v=.tuple #[iv 0,iv 0,iv 10]/\l'=l)\/(∃a,l.Perm (a::l')/\(∀b∈l,prec b a=false)/\v=.tuple #[iv a.1,iv a.2,iv 0]))):=by
 have Gw:=hi;obtain⟨f,ho,hc,hO,h1⟩:=hi;by_cases hl:l=[]
 ·subst hl;refine aE λg=>xJ ?_;obtain⟨bh,sv,mv,Cs,Cm,rfl,rfl,hs,hm,hne⟩:=ho
  (repeat (first|apply Nil.ptr|apply ai.mk|refine Ld.mk (by repeat (first|exact List.Mem.head _|apply List.Mem.tail|apply xab)) rfl ?_|apply aR.mk|apply ae.eql|apply ae.lss|apply Br.yes|apply Br.no|apply ae.aI))
  refine cm.or true (λ_=>?_) rfl λ_=>?_
  ·(repeat (first|apply Nil.ptr|apply ai.mk|refine Ld.mk (by repeat (first|exact List.Mem.head _|apply List.Mem.tail|apply xab)) rfl ?_|apply aR.mk|apply ae.eql|apply ae.lss|apply Br.yes|apply Br.no|apply ae.aI))
   refine hs.bP ?_
   (repeat (first|apply Nil.ptr|apply ai.mk|refine Ld.mk (by repeat (first|exact List.Mem.head _|apply List.Mem.tail|apply xab)) rfl ?_|apply aR.mk|apply ae.eql|apply ae.lss|apply Br.yes|apply Br.no|apply ae.aI))
   exact⟨rfl,rfl⟩
  (repeat (first|apply Nil.ptr|apply ai.mk|refine Ld.mk (by repeat (first|exact List.Mem.head _|apply List.Mem.tail|apply xab)) rfl ?_|apply aR.mk|apply ae.eql|apply ae.lss|apply Br.yes|apply Br.no|apply ae.aI))
  exact⟨_,_,rfl,.refl _,[],Gw,.inl ⟨rfl,rfl,rfl⟩⟩
 obtain⟨n,hn⟩:∃n,l.length=n+1:=⟨l.length-1,by have:=xdc.2 hl;omega⟩;have hmin:∀b∈l,prec b (bg l 0)=false:=λb hb=>by
  obtain⟨j,hj,e⟩:=xa9.1 hb;have:=Vq hO j hj;rwa [show bg l j=b by simp[bg,List.getD,hj,e]]at this
 intro g;refine xJ (R:=aF _) ?_;obtain⟨bh,la,mb,aK,Cm,rfl,rfl,aJ,hm⟩:=ho.open zO;unfold L265
 (repeat (first|apply Nil.ptr|apply ai.mk|refine Ld.mk (by repeat (first|exact List.Mem.head _|apply List.Mem.tail|apply xab)) rfl ?_|apply aR.mk|apply ae.eql|apply ae.lss|apply Br.yes|apply Br.no|apply ae.aI))
 refine cm.or false (λ_=>?_) rfl λ_=>?_
 ·(repeat (first|apply Nil.ptr|apply ai.mk|refine Ld.mk (by repeat (first|exact List.Mem.head _|apply List.Mem.tail|apply xab)) rfl ?_|apply aR.mk|apply ae.eql|apply ae.lss|apply Br.yes|apply Br.no|apply ae.aI))
  exact⟨rfl,by rw[hn];simp;omega⟩
 (repeat (first|apply Nil.ptr|apply ai.mk|refine Ld.mk (by repeat (first|exact List.Mem.head _|apply List.Mem.tail|apply xab)) rfl ?_|apply aR.mk|apply ae.eql|apply ae.lss|apply Br.yes|apply Br.no|apply ae.aI))
 refine av.of 0 rfl zO ?_;refine az.row (l:=eU .i64 l++aK) zM aJ (fU zO aK) ?_;intro ti _;refine St.p (pn _ _) ?_
 (repeat (first|apply Nil.ptr|apply ai.mk|refine Ld.mk (by repeat (first|exact List.Mem.head _|apply List.Mem.tail|apply xab)) rfl ?_|apply aR.mk|apply ae.eql|apply ae.lss|apply Br.yes|apply Br.no|apply ae.aI))
 refine ae.lJ (c:=(n:Int)) (by rw[hn];simp) zO ?_
 (repeat (first|apply Nil.ptr|apply ai.mk|refine Ld.mk (by repeat (first|exact List.Mem.head _|apply List.Mem.tail|apply xab)) rfl ?_|apply aR.mk|apply ae.eql|apply ae.lss|apply Br.yes|apply Br.no|apply ae.aI))
 refine av.nat zO ?_;refine az.row (l:=eU .i64 l++aK) zM aJ (fU zO aK) ?_;intro b27 _;refine St.p (pn _ _) ?_
 (repeat (first|apply Nil.ptr|apply ai.mk|refine Ld.mk (by repeat (first|exact List.Mem.head _|apply List.Mem.tail|apply xab)) rfl ?_|apply aR.mk|apply ae.eql|apply ae.lss|apply Br.yes|apply Br.no|apply ae.aI))
 refine gx.upto (h:=n) zO ?_
 (repeat (first|apply Nil.ptr|apply ai.mk|refine Ld.mk (by repeat (first|exact List.Mem.head _|apply List.Mem.tail|apply xab)) rfl ?_|apply aR.mk|apply ae.eql|apply ae.lss|apply Br.yes|apply Br.no|apply ae.aI))
 refine St.one (by repeat (first|exact dg.head _|apply dg.tail|apply dg.ca)) rfl zI rfl ?_;refine DR.self ?_
 (repeat (first|apply Nil.ptr|apply ai.mk|refine Ld.mk (by repeat (first|exact List.Mem.head _|apply List.Mem.tail|apply xab)) rfl ?_|apply aR.mk|apply ae.eql|apply ae.lss|apply Br.yes|apply Br.no|apply ae.aI))
 rw[<-xaL Cm];refine lf.del (A:=[_,_,_,_]) (B:=[]) hm λYr hm'=>?_;rw[xaL];have XX:eU .i64 l++aK=eU .i64 (l.take n)++(enc .i64 (bg l n)::aK):=by
  have e:l=l.take n++[bg l n]:=by
   have h2:l.drop n=[bg l n]:=by
    rw[xbu zO,xdk zO];simp[hn,bg,List.getD]
   have:=(xbt n l).symm;rw[h2]at this;exact this
  conv=>lhs;rw[e]
  simp[eU]
 have SH:∀r∈eU .i64 (l.take n)++(enc .i64 (bg l n)::aK),r.length=2:=by rw[<-XX];exact aJ
 intro J hJ;have hlt:(l.take n).length=n:=by simp[hn]
 have jr:∀l' C',Xp (.pointer (some ⟨bh,0,none⟩)) l' C'->l.Perm (bg l 0::l')->J [] ((b27,Obj.cells (enc .i64 (bg l n)).toArray 397 zZ)::(ti,Obj.cells (enc .i64 (bg l 0)).toArray 397 zZ)::C'):=by
  intro l' C' hi' Zx;refine hJ _ λgs=>?_
  (repeat (first|apply Nil.ptr|apply ai.mk|refine Ld.mk (by repeat (first|exact List.Mem.head _|apply List.Mem.tail|apply xab)) rfl ?_|apply aR.mk|apply ae.eql|apply ae.lss|apply Br.yes|apply Br.no|apply ae.aI))
  exact⟨_,_,rfl,.skip .tail,l',hi',.inr ⟨_,Zx,hmin,rfl⟩⟩
 (repeat (first|apply Nil.ptr|apply ai.mk|refine Ld.mk (by repeat (first|exact List.Mem.head _|apply List.Mem.tail|apply xab)) rfl ?_|apply aR.mk|apply ae.eql|apply ae.lss|apply Br.yes|apply Br.no|apply ae.aI))
 have ye:Uy (.pointer (some ⟨bh,0,none⟩)) (l.take n) (EV f (bg l 0).1 none) ((bh,Obj.cells #[.slice (some ⟨la,0,none⟩) n (l.length+aK.length),.map (some mb)] 395 zZ)::(la,.cells (rows (eU .i64 l++aK)) 397 zZ)::Yr):=by
  rw[XX];exact .shut SH hlt.symm (by simp[hn];omega) hm'
 refine Br.mk (λh0=>?_) (λh0=>?_)
 ·have h0:0<n:=by simpa using h0
  obtain⟨_,q1,q2,q3,q4⟩:=Vi hc hO h1 hn h0;refine az.q ?_;refine aa.fq (rL ye (i:=0) zO (bg l n)) ?_;rintro v C2 ⟨rfl,tM⟩;have BW:nv ((l.take n).set 0 (bg l n)) (EV (EV f (bg l 0).1 none) (bg l n).1 (some 0)) 0:=by
   refine⟨λj hj Wo=>?_,λx hx=>?_⟩
   ·unfold EV;rw[xac]
    ·exact q4.1 j hj Wo
    intro e;have h00:bg ((l.take n).set 0 (bg l n)) 0=bg l n:=by rw[g9 _ zO];simp[iq]
    exact Wo (q3.inj hj zP (by rw[e,h00]))
   unfold EV;rw[xac]
   ·exact q4.2 x hx
   intro e;refine hx (iC.2 ⟨0,by simp;omega,?_⟩);rw[g9 _ zO];simp[iq,e]
  refine aa.fq (Sv tM (i:=0) zP zP (by simpa[hn]using q2) BW q3) ?_;rintro v C3 ⟨rfl,l3,f3,DN,R4,ZT,acq⟩;exact JE.mk (jr l3 C3 ⟨f3,DN,ZT,acq,q3.perm R4⟩ ((R4.cons (bg l 0)).trans q1).symm)
 have h0:n=0:=by simp at h0;omega
 subst h0;refine JE.mk (jr (l.take 0) _ ⟨_,ye,⟨λj hj=>by simp at hj,λx _=>?_⟩,λj _ hj=>by simp at hj,by simp[kf]⟩ ?_)
 ·unfold EV;split
  ·rfl
  rename_i hne;refine hc.2 x λhm=>hne ?_;obtain⟨j,hj,e⟩:=iC.1 hm;rw[show j=0 by omega]at e;exact e.symm
 match l,hn with
 | [a],_=>exact .refl _
end
end Go.Proofs
namespace ak
open Go.Sx Ub
def nn(s k:Nat):It:=((s:Int),(k:Int))
variable {n:Nat} {c:Nat->Nat->Nat} {T:Nat} {D:zL} {l l':List It} {s i:Nat}
end ak
