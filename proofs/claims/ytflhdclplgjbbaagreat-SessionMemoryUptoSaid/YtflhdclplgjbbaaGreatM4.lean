import Derived.Test.YtflhdclplgjbbaaGreatM3
import Derived.Test.YtflhdclplgjbbaaGreatM2
import Derived.Test.YtflhdclplgjbbaaGreatM1
import Derived.Deep.Slices
import Derived.SizedLaws
set_option linter.defProp false
set_option linter.unusedVariables false
set_option linter.unusedSimpArgs false
set_option linter.unusedSectionVars false
set_option maxRecDepth 100000
namespace Go.Proofs
open Go Go.Sx
open ax
theorem Ms(x:Bool)(B:Hp):Rd zQ 151 #[.bool x] B (· =.int .u8 ((x.toNat:Nat):Int)):=by
 refine aJ λg=>JT ?_;cases x
 ·exact Br.no (br.mk (.refl _) rfl)
 exact Br.yes (br.mk (.refl _) rfl)
def YN(op:Nat)(a b:Bool):Bool:=op.testBit (2*a.toNat+b.toNat)
abbrev NJ(b op:Nat):Hp:=[(b,.cells #[.int .u8 (op:Int)] 5 zZ)]
def HB{b op:Nat}(Δ:op<16):Ck (.func (.func 150) #[] #[γ b]) (NJ b op) (λx y _=>YN op x y):=by
 refine⟨_,_,_,rfl,by kernel_rfl,λx y z=>?_⟩;refine aJ λg=>JU (DR.of (R:=NJ b op) (.refl _) (Ld.q ?_));refine ae.eq (Ms x _) (⟨.refl _,?_⟩);have hx:x.toNat<=1:=by cases x<;>decide
 have hy:y.toNat<=1:=by cases y<;>decide
 refine ah.yC (a:=2) (ae.eq (Ms y _) (⟨.refl _,?_⟩));refine ah.fT (ah.iW (by simp[bI];omega) (ah.jU (b:=1) (by simp[bI];exact xaC (xbm _ _) zO) (by simp[bI]) (ah.fc (b:=1) (br.mk (.refl _) ?_))));congr 1;unfold YN;rw[xbX];rw[xdb,xa0]
theorem GI:Ck (.func (.func 102) #[] #[]) [] (λx y z=>if x then y else z):=by
 refine⟨_,_,_,rfl,by kernel_rfl,λx y z=>?_⟩;refine aJ λg=>KG ?_;cases x
 ·refine dh.mk false (λh=>by simp at h) (λ_=>rfl) λgs=>?_;refine dh.mk (by exact z) (λ_=>Un.not (dh.and z (λ_=>⟨rfl,rfl⟩) zI λgs=>⟨rfl,by simp⟩)) (λh=>by simp at h) λgs=>?_;exact br.mk (.refl _) rfl
 refine dh.and y (λ_=>⟨rfl,rfl⟩) zI λgs=>?_;refine dh.or false (λ_=>Un.not (dh.and z (λ_=>⟨rfl,rfl⟩) zI λgs=>⟨rfl,by simp⟩)) zI λgs=>?_;refine br.mk (.refl _) ?_;cases y<;>rfl
variable{kp:Nat}{K:Kd}{S:Nat->ax.Fn}{θ ai tr:zL}{C:Hp}
section
def ac5{α:Type}(w a b:α)(L R:List α):(w::(L++(a::b::R))).Perm (a::([b]++w::(L++R))):=by
 classical
 rw[xcz];intro x;simp only[xbf,xca,xdV];omega
def EV(hK:bS kp K S θ ai tr C){q:zL}(hq:∀r∈q,live K.N r):∃c,Tree K.n (lv ai) K.N q c:=by obtain⟨c,h1,_⟩:=Wa (S:=S) hK.ok.wf hK.ok.lv hK.ok.mid.int K.n 0 q zO zO hq (λr _=>xaL _);exact⟨c,h1⟩
def kH.two{f:ax.Fn}{w:zV}{H:Hp}(h:kH kp K S θ ai tr f w H):∃x e,w=.tuple #[x,e]:=by
 rcases h with(⟨x,K',S',rfl,_⟩|⟨rfl,_⟩)|⟨rfl,_⟩
 ·exact⟨_,_,rfl⟩
 ·exact⟨_,_,rfl⟩
 exact⟨_,_,rfl⟩
def jV(hK:bS kp K S θ ai tr C){op a b:Nat}(Δ:op<16)(ha:live K.N a)(hb:live K.N b):
  Fc zQ 99 #[γ kp,.int .u8 (op:Int),δ a,δ b] C (kH kp K S θ ai tr (λx=>YN op (S a x) (S b x))):=by
 refine aJ λg=>O8 λb1 _=>?_;refine ah.aK (Br.no (Ld.q ?_));refine ah.nV (b:=15) (Br.F (aq.SH (e:=78) (x:=(a:Int)) (y:=(b:Int)) zK zK zK λbs=>?_));have hq:∀r∈l3 (a,b,0),live K.N r:=λr hr=>by
  simp only[l3,xak,xaQ,xbi]at hr;rcases hr with rfl|rfl|rfl
  ·exact ha
  ·exact hb
  exact .inl zO
 have hI:di .u32 ((bs,Obj.cells (az .u32 [(a:Int),(b:Int)]) 78 zZ)::NJ b1 op) (.slice (some ⟨bs,0,none⟩) 2 2) (iw [a,b]):=(aL.made (T:=78) (kd:=.u32) (b:=bs) (iw [a,b])).ints.mono λ_ h=>xad (NJ b1 op) h;refine ae.fq (args:=#[γ kp,.slice (some ⟨bs,0,none⟩) 2 2]) (C:=((bs,Obj.cells (az .u32 [(a:Int),(b:Int)]) 78 zZ)::NJ b1 op)++C) (AI hK hI (λr hr=>?_) (by show 2<=1048576;omega)) ?_
 ·simp only[xak,xaQ,xbi]at hr;rcases hr with rfl|rfl
  ·exact ha
  exact hb
 rintro w H ⟨bw,vl,CL,lvl,rfl,rfl,Zq,nL,hlv⟩;refine Ext.mk rfl (Ext.mk rfl (ah.cM (Br.F (Build.acT (e:=78) (q:=.u32) (x:=(a:Int)) (y:=(b:Int)) zK zK zK ?_))));obtain⟨c,hT⟩:=EV hK hq;refine ae.pre (H':=(bs,Obj.cells (az .u32 [(a:Int),(b:Int)]) 78 zZ)::(NJ b1 op++gF bw kp vl (.slice none 0 0)::(CL++C))) (.perm (ac5 _ _ _ _ _)) (ae.fq (args:=#[γ bw,kq (a,b,0),.func (.func 150) #[] #[γ b1]]) (Mo (t:=λx y _=>YN op x y) hK (HB Δ) Zq nL hlv (a,b,0) hq hT) ?_);intro w H hD;obtain⟨x,e,rfl⟩:=hD.two;exact Ext.mk rfl (Ext.mk rfl (aQ.mk .tail hD))
def O1(hK:bS kp K S θ ai tr C){a:Nat}(ha:live K.N a):
  Fc zQ 65 #[γ kp,δ a] C (kH kp K S θ ai tr (λx=> !S a x)):=by
 refine aJ λg=>PC (ae.fq (args:=#[γ kp,.int .u8 ((3:Nat):Int),δ a,δ 0]) (jV hK (op:=3) zD ha (.inl zO)) ?_);intro w H hD;have e:(λx=>YN 3 (S a x) (S 0 x))=λx=> !S a x:=by
  funext x
  rw[hK.ok.mid.int.zero];cases S a x<;>rfl
 rw[e]at hD;obtain⟨x,e,rfl⟩:=hD.two;exact Ext.mk rfl (Ext.mk rfl (aQ.mk (.refl _) hD))
def ac2{α:Type}(w a:α)(L R:List α):(w::(L++(a::R))).Perm (a::([]++w::(L++R))):=by
 classical
 rw[xcz];intro x;simp only[xbf,xca,xdV];omega
def AE(hK:bS kp K S θ ai tr C){a b c:Nat}(ha:live K.N a)(hb:live K.N b)(hc:live K.N c):
  Fc zQ 69 #[γ kp,δ a,δ b,δ c] C (kH kp K S θ ai tr (λx=>if S a x then S b x else S c x)):=by
 refine aJ λg=>Py (aq.ado (e:=78) (x:=(a:Int)) (y:=(b:Int)) (z:=(c:Int)) zK zK zK λbs=>?_);have hq:∀r∈l3 (a,b,c),live K.N r:=λr hr=>by
  simp only[l3,xak,xaQ,xbi]at hr;rcases hr with rfl|rfl|rfl
  ·exact ha
  ·exact hb
  exact hc
 refine ae.fq (args:=#[γ kp,.slice (some ⟨bs,0,none⟩) 3 3]) (C:=[(bs,Obj.cells (az .u32 [(a:Int),(b:Int),(c:Int)]) 78 zZ)]++C) (AI hK (refs:=l3 (a,b,c)) ((aL.made (T:=78) (kd:=.u32) (b:=bs) (iw (l3 (a,b,c)))).ints) hq (by show 3<=1048576;omega)) ?_;rintro w H ⟨bw,vl,CL,lvl,rfl,rfl,Zq,nL,hlv⟩;refine Ext.mk rfl (Ext.mk rfl (ah.cM (Br.F (Build.three (e:=78) (q:=.u32) (x:=(a:Int)) (y:=(b:Int)) (z:=(c:Int)) zK zK zK ?_))));obtain⟨k,hT⟩:=EV hK hq;refine ae.pre (H':=(bs,Obj.cells (az .u32 [(a:Int),(b:Int),(c:Int)]) 78 zZ)::([]++gF bw kp vl (.slice none 0 0)::(CL++C))) (.perm (ac2 _ _ _ _)) (ae.fq (args:=#[γ bw,kq (a,b,c),.func (.func 102) #[] #[]]) (Mo (t:=λx y z=>if x then y else z) hK GI Zq nL hlv (a,b,c) hq hT) ?_);intro w H hD;obtain⟨x,e,rfl⟩:=hD.two;exact Ext.mk rfl (Ext.mk rfl (aQ.mk .tail hD))
def qx.grow(hK:bS kp K S θ ai tr C){K':Kd}{S':Nat->ax.Fn}{f:ax.Fn}{r:Nat}{C':Hp}{cC:zL}(h:qx K S K' S' f r)(de:bS kp K' S' θ ai cC C')(hl:r<2\/2<=r):gn K S K' S' f r:=
 ⟨h.n,h.cap,h.N,h.fn,by
  by_cases h2:r<2
  ·exact .inl h2
  refine .inr (de.ok.mid.held r ?_);rw[h.hold,xae ⟨rfl,by omega⟩];omega,h.is,λs=>by rw[h.hold];split<;>omega⟩
def OW(hK:bS kp K S θ ai tr C){v:Nat}(hv:v<K.n):
  Fc zQ 63 #[γ kp,iv (v:Int)] C (kH kp K S θ ai tr (λx=>x.testBit v)):=by
 refine aJ λg=>PE (ah.aK (Br.no ?_));have hint:=hK.ok.mid.int;have hL:=hK.ok.lv;have lB:=hK.od;have h0:live K.N 0:=.inl zO;have h1:live K.N 1:=.inl zO;have d0:ι K.n (lv ai) K.N 0=K.n:=aV (hK.ok.wf.const zO);have d1:ι K.n (lv ai) K.N 1=K.n:=aV (hK.ok.wf.const zO);have hl:=hL.lt v hv;have eI:ite S ⟨v,0,1⟩=λx=>x.testBit v:=by
  funext x
  unfold ax.ite;simp only[hint.zero,hint.one];cases x.testBit v<;>rfl
 refine ae.fq (args:=#[γ kp,iv (v:Int),δ 0,δ 1]) (Bv hK hv h0 h1 (.inr ⟨by rw[d0];exact hl,by rw[d1];exact hl⟩)) ?_;rintro w C' (⟨r,K',S',rfl,de,mk⟩|⟨r,rfl,rfl,_,QT,hfull,G9⟩|⟨rfl,rfl,hcap,ξ,hT⟩)
 ·rw[eI]at mk;exact Ext.mk rfl (Ext.mk rfl (aQ.mk (.refl _) (.inl (.inl ⟨r,K',S',rfl,de,mk.grow hK de zO⟩))))
 ·exact Ext.mk rfl (Ext.mk rfl (aQ.mk (.refl _) (.inr ⟨rfl,⟨K,S,tr,hK,.inr rfl,.refl K S⟩,r,QT,hfull,by rw[G9,eI]⟩)))
 refine Ext.mk rfl (Ext.mk rfl (aQ.mk (.refl _) (.inl (.inr ⟨rfl,⟨K,S,tr,hK,.inr rfl,.refl K S⟩,?_⟩))));rintro⟨ku,Th,hfit⟩;have Eb:=lB.of hL hv;have tv:∀j,j<lv ai v->¬bW (λx:Nat=>x.testBit v) (θ.getD j 0):=by
  rintro j hj ⟨x,hx⟩;apply hx;have VC:j<K.n:=by omega
  obtain⟨o1,o2⟩:=lB.bg j VC;show Nat.testBit _ v=Nat.testBit _ v;rw[an.ak,an.ak,xac (λh=>by rw[h]at hj;omega),xac (λh=>by rw[h]at hj;omega)]
 have hh:bW (λx:Nat=>x.testBit v) (θ.getD (lv ai v) 0):=by
  rw[Eb];exact⟨0,by show Nat.testBit _ v≠Nat.testBit _ v;rw[an.ak,an.ak,xae rfl,xae rfl];decide⟩
 have:=hK.ok.roomFor lB Th hfit (λg hg=>aX (λg h=>.inl h) hg) (d:=⟨v,0,1⟩) h0 h1 (show(0:Nat)≠1 by omega) hv ⟨by rw[d0];exact hl,by rw[d1];exact hl⟩ (aX (λg h=>.inr h) (by rw[eI];exact pC tv hl hh)) hT;omega
end
end Go.Proofs
namespace Go.Sx
open Go
variable{es:Array MapEntry}{ck b:Nat}{H:Hp}
section
variable{κ β:Type}[DecidableEq κ]{ke:κ->zV}{vr:zV->β->Prop}{m:List (κ×β)}
theorem aI.del{kd:TypeDesc}{k:κ}{K:Hp->Prop}(hk:∀a b,Instr.sameNow kd (ke a) (ke b)=some (decide (a=b)))(h:aI ke vr es ck m)(hm:(b,Obj.map es ck)∈H)
 (h1:∀τ,aI ke vr τ ck (iJ m k)->∃H',df b (.map es ck) (.map τ ck) H H'/\K H'):po kd H (.map (some b)) (ke k) K:=by
 refine .inr ?_;rcases h.findNow hk k with⟨i,y,e,g1,g2,g3,g4⟩|⟨g1,g2⟩
 ·refine⟨b,es,ck,_,rfl,g4,?_⟩;have:=h.less i;rw[<-wD h.nd g2]at this;exact h1 _ this
 refine⟨b,es,ck,_,rfl,g2,hm,?_⟩;have e:iJ m k=m:=by
  unfold iJ;rw[xcx];intro w hw;simp only[decide_not,xbL,xbq];intro e;exact g1 (xal.2 ⟨w,hw,e⟩)
 obtain⟨H',hu,hK⟩:=h1 es (by rw[e];exact h);have:∀{H H':Hp},df b (.map es ck) (.map es ck) H H'->H'=H:=by
  intro H H' hu;generalize ho:Obj.map es ck=o at hu;induction hu with
  |head R=>rfl
  |tail _ ih=>rw[ih]
 rw[this hu]at hK;exact hK
end
def kN(kd:IntKind)(r:Nat):zV:=.int kd (r:Int)
def jO{kd:IntKind}(a b:Nat):Instr.sameNow (.int kd) (kN kd a) (kN kd b)=some (decide (a=b)):=by
 simp only[kN,Instr.sameNow,xa5,xat];by_cases e:a=b
 ·subst e;simp
 have:¬(a:Int)=(b:Int):=by omega
 simp[e,this]
def LI{kd:IntKind}(a:Nat):Instr.sameBits 10000 (kN kd a) (kN kd a)=true:=by simp[kN,Instr.sameBits]
end Go.Sx
namespace ax
open an
def QF(t:Bool->Bool->Bool)(v:Nat)(f:Fn):Fn:=λx=>t (f (aC x v false)) (f (aC x v true))
variable{t:Bool->Bool->Bool}{v:Nat}
section
variable{u:Nat}{f:Fn}
def pB{x:Nat}{b c:Bool}:aC (aC x v b) v c=aC x v c:=by apply xaV;intro k;rw[ak,ak,ak];split<;>rfl
def Vg(h:u≠v)(b:Bool):QF t v (λx=>f (aC x u b))=λx=>QF t v f (aC x u b):=by
 funext x
 unfold QF;simp only[dx h]
def Vf(h:¬bW f u):¬bW (QF t v f) u:=by
 rintro⟨x,hx⟩;by_cases e:u=v
 ·subst e;apply hx;unfold QF;simp only[pB]
 apply hx;unfold QF;simp only[dx e];have key:∀y,f (aC y u false)=f (aC y u true):=λy=>xaD λhn=>h ⟨y,hn⟩;rw[key,key]
def Yu(ht:∀a,t a a=a)(h:¬bW f v):QF t v f=f:=by
 funext x
 unfold QF;have key:∀b,f (aC x v b)=f x:=λb=>cQ h x b;rw[key,key,ht]
end
def jt3(e:Bool):Bool->Bool->Bool->Bool:=λx y _=>if e then x||y else x&&y
def jf(e:Bool)(S:Nat->Fn)(a b:Nat):Fn:=uT (jt3 e) S [a,b,0]
def ti(e:Bool)(S:Nat->Fn)(a b x:Nat):jf e S a b x=if e then S a x||S b x else S a x&&S b x:=rfl
def BD(e:Bool)(S:Nat->Fn)(a b:Nat):jf e S a b=jf e S b a:=by funext x;rw[ti,ti];cases e<;>cases S a x<;>cases S b x<;>rfl
def YU(e:Bool)(S:Nat->Fn)(a b:Nat):jf e S (min a b) (max a b)=jf e S a b:=by
 by_cases h:a<=b
 ·rw[xcJ h,Nat.max_eq_right h]
 rw[xdz zO,Nat.max_eq_left zO,BD]
def Xg(e:Bool)(S:Nat->Fn)(a:Nat):jf e S a a=S a:=by funext x;rw[ti];cases e<;>cases S a x<;>rfl
variable{n:Nat}
section
variable{N:eM}{S:Nat->Fn}{ai:Nat->Nat}
def SC(hi:Interp N S)(e:Bool)(a:Nat):jf e S e.toNat a=S e.toNat:=by
 funext x;rw[ti];cases e
 ·show(S 0 x&&S a x)=S 0 x;rw[hi.zero];rfl
 show(S 1 x||S a x)=S 1 x;rw[hi.one];rfl
def SB(hi:Interp N S)(e:Bool)(a:Nat):jf e S (!e).toNat a=S a:=by
 funext x;rw[ti];cases e
 ·show(S 1 x&&S a x)=S a x;rw[hi.one];cases S a x<;>rfl
 show(S 0 x||S a x)=S a x;rw[hi.zero];cases S a x<;>rfl
def vq(h:WF n ai N)(hl:jY n ai){r:Nat}(hd:ai v<ι n ai N r)(b:Bool):er N v b r=r:=by
 unfold er;cases e:N r with
 |none=>rfl
 |some d=>
  rw[au e]at hd;simp only;rw[xac (λe2=>by rw[e2]at hd;omega)]
def k8{r:Nat}{d:Nd}(e:N r=some d):er N d.v false r=d.lo/\er N d.v true r=d.hi:=by unfold er;rw[e];simp
def xl{N':eM}(hN:∀s d,N s=some d->N' s=some d)(hc:∀r,r<2->N' r=none)(h0:∀r,r<2->N r=none){r:Nat}(hr:live N r):ι n ai N' r=ι n ai N r:=by
 rcases hr with hr|⟨d,hd⟩
 ·rw[aV (hc r hr),aV (h0 r hr)]
 rw[au hd,au (hN r d hd)]
def EK(v:Nat)(bb:Bool)(a b:Nat)(h0:N 0=none):jh N v bb [a,b,0]=[er N v bb a,er N v bb b,0]:=by
 have:er N v bb 0=0:=by unfold er;rw[h0]
 simp[jh,this]
def agJ(h:WF n ai N)(hl:jY n ai){a b:Nat}(h0:N 0=none)(η:min (ι n ai N a) (ι n ai N b)<n):
  ∃v,uV n ai N [a,b,0] v/\ai v=min (ι n ai N a) (ι n ai N b):=by
 have hd0:ι n ai N 0=n:=aV h0;have node:∀r,ι n ai N r<n->∃d,N r=some d:=λr hr=>by
  cases e:N r with
  |none=>rw[aV e]at hr;omega
  |some d=>exact⟨d,rfl⟩
 by_cases hab:ι n ai N b<ι n ai N a
 ·obtain⟨d,hd⟩:=node b zO;have e:=au (n:=n) (ai:=ai) hd;refine⟨d.v,⟨h.var hd,⟨b,by simp,d,hd,rfl⟩,λr hr=>?_⟩,by omega⟩;simp only[xak,xaQ,xbi]at hr;rcases hr with rfl|rfl|rfl<;>omega
 obtain⟨d,hd⟩:=node a zO;have e:=au (n:=n) (ai:=ai) hd;refine⟨d.v,⟨h.var hd,⟨a,by simp,d,hd,rfl⟩,λr hr=>?_⟩,by omega⟩;simp only[xak,xaQ,xbi]at hr;rcases hr with rfl|rfl|rfl<;>omega
end
end ax
set_option maxRecDepth 100000
namespace Go.Proofs
open Go Go.Sx
open ax
variable{kp:Nat}{K:Kd}{θ ai tr:zL}{C:Hp}{S:Nat->ax.Fn}
section
def mB(h:cX kp K θ ai tr C)(v:Int):Rd zQ 93 #[γ kp,iv v] C (· =if 0<=v/\v<K.n then .tuple #[iv ((ai.getD v.toNat 0:Nat):Int),iv 0]else .tuple #[iv 0,iv 2]):=by
 have h0:=h;obtain⟨b,rfl,hO⟩:=h;refine aJ λg=>tM (ah.aK (Br.no (ae.eq (r6 h0 v) (Un.not ?_))));by_cases Od:0<=v/\v<K.n
 ·rw[xam Od,xae Od];refine Br.no (Nil.γ (Ld.f ?_));have Ξ:=hO.ol.2;obtain⟨n,rfl⟩:∃n:Nat,v=n:=⟨v.toNat,by omega⟩;exact hO.lv.ld (x:=((ai.getD n 0:Nat):Int)) (bM zO) (bE.sub (.cons (.app (.app (.app (.app (.app .left))))))) (br.mk (.refl _) rfl)
 rw[xan Od,xac Od];exact Br.yes (br.mk (.refl _) rfl)
end
def Lm(bq kp bm:Nat)(ok:Bool):Nat×Obj:=(bq,.cells #[γ kp,.map (some bm),iv (if ok then 0 else 9)] 285 zZ)
abbrev uZ(bq kp bm:Nat)(ok:Bool)(es:Array MapEntry)(ck:Nat)(C:Hp):Hp:=Lm bq kp bm ok::(bm,.map es ck)::C
abbrev vr1(v:zV)(_:Unit):Prop:=v=iv 1
abbrev Cv(ν:zL):List (Nat×Unit):=ν.map λr=>(r,())
def rT(ν:zL):(Cv ν).map Prod.fst=ν:=by
 induction ν with
 |nil=>rfl
 |cons a l ih=>simp only[Cv,xay,xaw,xco]at ih⊢;exact ih
structure yT(kp:Nat)(K0:Kd)(S0:Nat->ax.Fn)(U:ax.Fn->Prop)(θ ai:zL)(K:Kd)(S:Nat->ax.Fn)(ν:zL)(es:Array MapEntry)(ck:Nat)(C:Hp)(ok:Bool):Prop where
 ks:bS kp K S θ ai [] C
 c6:lP K0 S0 U θ K S ν
 dO:aI (kN .u32) vr1 es ck (Cv ν)
 bad:ok=false->¬Fits U K0.cap
variable{ν:zL}{es:Array MapEntry}{ck:Nat}{ok:Bool}
def yT.nd{kp:Nat}{K0:Kd}{S0:Nat->ax.Fn}{U:ax.Fn->Prop}{θ ai:zL}(h:yT kp K0 S0 U θ ai K S ν es ck C ok):ν.Nodup:=by have:=h.dO.nd;rwa [rT]at this
structure FD(K:Kd)(S:Nat->ax.Fn)(ν:zL)(K':Kd)(S':Nat->ax.Fn)(Φ:zL):Prop where
 N:∀s d,K.N s=some d->K'.N s=some d
 fn:∀s,live K.N s->S' s=S s
 mem:∀s∈ν,s∈Φ
def FD.refl:FD K S ν K S ν:=⟨λ_ _ h=>h,λ_ _=>rfl,λ_ h=>h⟩
variable{K':Kd}{S':Nat->ax.Fn}
def FD.trans{K2:Kd}{S2:Nat->ax.Fn}{Φ gg:zL}(h:FD K S ν K' S' Φ)(h':FD K' S' Φ K2 S2 gg):FD K S ν K2 S2 gg:=
 ⟨λs d hd=>h'.N s d (h.N s d hd),λs hs=>(h'.fn s (bC h.N hs)).trans (h.fn s hs),λs hs=>h'.mem s (h.mem s hs)⟩
variable{bq bm ck:Nat}{K0:Kd}{S0:Nat->ax.Fn}{U:ax.Fn->Prop}{es:Array MapEntry}
section
variable{ν:zL}{ok:Bool}
variable{r:Nat}
theorem NA(h:bS kp K S θ ai tr C)(hr:live K.N r):Rd zQ 263 #[γ bq,.agg (got K.N r).toArray] (uZ bq kp bm ok es ck C) (· =iv ((ι K.n (lv ai) K.N r:Nat):Int)):=by
 have Ξ:=(aS K.N r).1;refine aJ λg=>Io λb1 _=>?_;cases hN:K.N r with
 |none=>
  have h2:r<2:=by rcases hr with h|⟨d,hd⟩;exact h;rw[hN]at hd;cases hd
  have eg:got K.N r=[iv (-1),δ r,δ r]:=fS h2;rw[eg];refine Ld.f ?_;refine ah.lss (Br.T (Ld.n ?_));refine ae.eq (gY h.rep) ?_;rw[aV hN];exact br.mk .tail rfl
 |some d=>
  have h2:=h.ok.wf.two hN;have hv:=h.ok.wf.var hN;rw[eo hN h2];refine Ld.f ?_;refine ah.lss (Br.F (DR.of (R:=(b1,Obj.cells (bB d).toArray 144 zZ)::uZ bq kp bm ok es ck C) (.refl _) (Ld.n ?_)));refine Ld.f ?_;refine ae.rq (mB h.rep (d.v:Int)) ?_;rw[xae zO];rintro w rfl;refine⟨.refl _,?_⟩;apply Ext.two;rw[au hN];exact br.mk .tail rfl
theorem Gd(h:bS kp K S θ ai tr C)(hr:live K.N r):Rd zQ 219 #[γ bq,δ r] (uZ bq kp bm ok es ck C) (· =.tuple #[.agg (got K.N r).toArray,iv ((ι K.n (lv ai) K.N r:Nat):Int)]):=by
 refine aJ λg=>IZ λb1 _=>?_;refine Ld.n ?_;refine ae.rq (jc h.rep (by have:=h.bQ hr;omega)) ?_;rw[cg.2 hr];rintro w rfl;refine Ext.two λB8 _=>(St.whole (r:=got K.N r) (by exact .head _) rfl (aS _ _).1 (aS _ _).2 ?_);refine DR.of (R:=[(B8,Obj.cells (got K.N r).toArray 144 zZ)]) (aO.left (A:=[_])) (aB.whole (r:=got K.N r) (by exact .head _) (aS _ _).1 ?_);refine aB.whole (r:=got K.N r) (by exact .head _) (aS _ _).1 ?_;refine ae.eq (NA h hr) (⟨aO.left (A:=[_]),?_⟩);refine St.whole (r:=got K.N r) (by exact .tail (.head _)) rfl (aS _ _).1 (aS _ _).2 ?_;refine⟨aO.left (A:=[_]),?_⟩;refine aB.whole (r:=got K.N r) (by exact .tail _ (.head _)) (aS _ _).1 ?_;exact br.mk (.skip .tail) rfl
def zj(v:zV)(a b:zV)(B:Hp):Rd zQ 220 #[γ bq,v,a,b] (Lm bq kp bm false::B) (· =δ 0):=by refine aJ λg=>x5 (Ld.n ?_);exact ah.cM (Br.T (br.mk (.refl _) rfl))
def lP.acW(h:lP K0 S0 U θ K S ν)(hK:bS kp K S θ ai [] C){f:ax.Fn}(m:qx K S K' S' f r)(h2:2<=r)(hU:∀g,aE K0.n θ (λg=>g=f) g->U g):lP K0 S0 U θ K' S' (ν++[r]):=h.step hK m h2 hU
def lP.again(h:lP K0 S0 U θ K S ν)(hK:bS kp K S θ ai [] C){K2:Kd}{f:ax.Fn}{C2:Hp}(m:qx K S K' S' f r)(hf:AZ K' K2 r)(cY:bS kp K2 S' θ ai [] C2):lP K0 S0 U θ K2 S' ν/\(∀s d,K.N s=some d->K2.N s=some d):=by
 have hold:∀s,K2.hold s=K.hold s:=λs=>by
  rw[hf.hold,m.hold];by_cases e:s=r/\2<=r
  ·rw[xae e,xae e];omega
  rw[xac e,xac e]
 have hN:∀s d,K.N s=some d->K2.N s=some d:=λs d hs=>kA hK.ok cY.ok (λs h=>by rw[hold];exact h) (λs d d' h1 h2=>by
  have a:=hf.N s d' h2;rw[m.N s d h1]at a;exact(xbb a).symm) _ s d hs (xai _)
 refine⟨⟨hf.n.trans (m.n.trans h.n),hf.cap.trans (m.cap.trans h.cap),λs d hd=>hN s d (h.N s d hd),λs hs=>(m.fn s (h.live hs)).trans (h.fn s hs),λs=>by rw[hold,h.hold],h.two,λg hg=>h.U g (aX (λg=>?_) hg)⟩,hN⟩;rintro⟨s,hs,rfl⟩;have μ:K.hold s≠0:=by rw[<-hold];exact hs
 exact⟨s,μ,m.fn s (.inr (hK.ok.mid.held s μ))⟩
def Sh(h:r∉ν):eu (Cv ν) r ()=Cv (ν++[r]):=by unfold eu;rw[xac (by rw[rT];exact h)];simp[Cv]
def pL:(r∈ν->aN (Cv ν) r=some ())/\(r∉ν->aN (Cv ν) r=none):=by
 refine⟨λh=>?_,λh=>iH.2 (by rw[rT];exact h)⟩;cases e:aN (Cv ν) r with
 |none=>have:=iH.1 e;rw[rT]at this;exact absurd h this
 |some u=>rfl
theorem DD(hq:yT kp K0 S0 U θ ai K S ν es ck C true){v lo hi:Nat}(hv:v<K.n)(hlo:live K.N lo)(hhi:live K.N hi)(η:lv ai v<ι K.n (lv ai) K.N lo/\lv ai v<ι K.n (lv ai) K.N hi)
 (hU:∀g,aE K0.n θ (λg=>g=ite S ⟨v,lo,hi⟩) g->U g)(je:lo≠hi->U (ite S ⟨v,lo,hi⟩))(hf:∀s,K0.hold s=65535->live K0.N s):
  Fc zQ 220 #[γ bq,iv (v:Int),δ lo,δ hi] (uZ bq kp bm true es ck C) (λw H=>∃r K' S' Φ τ bF C' nS,w=δ r/\H=uZ bq kp bm nS τ bF C'/\yT kp K0 S0 U θ ai K' S' Φ τ bF C' nS/\FD K S ν K' S' Φ/\
   (nS=true->S' r=ite S ⟨v,lo,hi⟩/\(live K0.N r\/r∈Φ))):=by
 have hK:=hq.ks;have fQ:=hq.nd;refine aJ λg=>x5 (Ld.n ?_);refine ah.cM (Br.F (Ld.n ?_));refine ae.fq (Bv hK hv hlo hhi (.inr η)) ?_;rintro w C' (⟨r,K',S',rfl,de,mk⟩|⟨r,rfl,rfl,hlr,QT,hfull,G9⟩|⟨rfl,rfl,hcap,ξ,hT⟩)
 ·refine Ext.two λJ hJ=>(ah.iD (Br.F (ah.cM (Br.F (ah.By (b:=1) ?_)))));have aaJ:r<4294967296:=by have:=de.bQ mk.live;omega
  have hA:FD K S ν K' S' ν:=⟨mk.N,mk.fn,λ_ h=>h⟩;have drop:(r<2\/r∈ν)->Nil (γ bq) λv36=>aj 0 v36 λv37=>Ld (Lm bq kp bm true::(bm,Obj.map es ck)::C') v37 λv38=>ae zQ g 85 #[v38,δ r] (Lm bq kp bm true::(bm,Obj.map es ck)::C') (λv39 H40=>JE J [δ r] H40) (dy (aQ λw H=>∃r K' S' Φ τ bF C' nS,w=δ r/\H=uZ bq kp bm nS τ bF C'/\yT kp K0 S0 U θ ai K' S' Φ τ bF C' nS/\FD K S ν K' S' Φ/\
   (nS=true->S' r=ite S ⟨v,lo,hi⟩/\(live K0.N r\/r∈Φ)))):=λhr=>by
   refine Ld.n ?_;refine ae.fq (nv de (r:=r) aaJ (λh2=>by rw[mk.hold,xae ⟨rfl,h2⟩];omega)) ?_;rintro w C2 ⟨rfl,K2,cY,f2⟩;obtain⟨qm,hN2⟩:=hq.c6.again hK mk f2 cY;refine JE.mk (hJ _ _ λgs=>?_);exact aQ.here ⟨r,K2,S',ν,es,ck,C2,true,rfl,rfl,⟨cY,qm,hq.dO,λh=>by cases h⟩,⟨hN2,mk.fn,λ_ h=>h⟩,λ_=>⟨mk.is,hr.imp (λh=>.inl h) id⟩⟩
  by_cases h2:r<2
  ·rw[xam zO];refine dh.or (a:=true) true (λh=>by cases h) zI λgs=>Br.yes ?_;exact drop (.inl h2)
  rw[xan zO];refine dh.or (a:=false) (decide (r∈ν)) (λ_=>?_) zI λgs=>?_
  ·refine Ld.n ?_;by_cases hm:r∈ν
   ·refine aI.hit (k:=r) (x:=()) jO hq.dO (.tail _ (.head _)) (pL.1 hm) ?_;rintro v rfl;exact ah.gtr ⟨rfl,by rw[xam hm];rfl⟩
   refine aI.bR (k:=r) jO hq.dO (.tail _ (.head _)) (pL.2 hm) ?_;exact ah.gtr ⟨rfl,by rw[xan hm];rfl⟩
  rw[xdD];refine Br.dec (λhm=>drop (.inr hm)) (λhm=>?_);refine Ld.n ?_;refine aI.bt (k:=r) (x:=()) jO LI hq.dO rfl λτ bF he=>⟨_,.tail (.head _),?_⟩;rw[Sh hm]at he;refine JE.mk (hJ _ _ λgs=>?_);exact aQ.here ⟨r,K',S',ν++[r],τ,bF,C',true,rfl,rfl,⟨de,hq.c6.acW hK mk zO hU,he,λh=>by cases h⟩,⟨mk.N,mk.fn,λ_ h=>xad _ h⟩,λ_=>⟨mk.is,.inr zI⟩⟩
 ·refine Ext.two λJ hJ=>(ah.iD (Br.T (Ld.n ?_)));refine ae.eq (wJ hK hv hlo hhi η hlr QT G9) (Ext.two (JE.mk (hJ _ _ λgs=>?_)));exact aQ.here ⟨r,K,S,ν,es,ck,_,true,rfl,rfl,hq,.refl,λ_=>⟨G9,(hq.c6.full hfull).elim .inr λh=>.inl (hf r h)⟩⟩
 refine Ext.two λJ hJ=>(ah.iD (Br.F (ah.cM (Br.T (Nil.γ (aj.mk (St.one (by exact .head _) rfl zI rfl ?_)))))));refine JE.mk (hJ _ _ λgs=>?_);refine aQ.here ⟨0,K,S,ν,es,ck,C',false,rfl,rfl,⟨hK,hq.c6,hq.dO,λ_=>?_⟩,.refl,λh=>by cases h⟩;rintro⟨ku,Th,hfit⟩;have:=hK.ok.roomFor hK.od Th (by rw[hq.c6.cap];exact hfit) (by rw[hq.c6.n];exact hq.c6.U) (d:=⟨v,lo,hi⟩) hlo hhi ξ hv η (je ξ) hT;omega
end
def pk(p:Nat×Nat):zV:=.agg #[δ p.1,δ p.2]
def R3(a b:Nat×Nat):Cn zQ 337 (pk a) (pk b) (decide (a=b)):=by
 refine Cn.flat (fs:=#[⟨"f",78,0,false, "", "thicket/quant",0⟩,⟨"g",78,1,false, "", "thicket/quant",4⟩]) zK zK ?_ ?_
 ·intro f hf;simp only[xak,xaQ,xbi]at hf;rcases hf with rfl|rfl
  ·exact⟨by decide,_,_,rfl,rfl,.inl ⟨.u32,_,_,by kernel_rfl,rfl,rfl⟩⟩
  exact⟨by decide,_,_,rfl,rfl,.inl ⟨.u32,_,_,by kernel_rfl,rfl,rfl⟩⟩
 obtain⟨a1,a2⟩:=a;obtain⟨b1,b2⟩:=b;simp[δ];omega
def Gf(a:Nat×Nat):mO zQ 337 (pk a):=by
 apply mO.flat (fs:=#[⟨"f",78,0,false, "", "thicket/quant",0⟩,⟨"g",78,1,false, "", "thicket/quant",4⟩]) zK;intro f hf;simp only[xak,xaQ,xbi]at hf;rcases hf with rfl|rfl
 ·exact⟨by decide,_,rfl,.inl ⟨.u32,_,_,by kernel_rfl,rfl,rfl⟩⟩
 exact⟨by decide,_,rfl,.inl ⟨.u32,_,_,by kernel_rfl,rfl,rfl⟩⟩
def WG(a:Nat×Nat):Instr.sameBits 10000 (pk a) (pk a)=true:=lj 9998 (by intro x hx;simp[δ]at hx;rcases hx with rfl|rfl<;>exact .inl ⟨_,_,rfl⟩)
def Hu(b3 b5 b1 tI l5:Nat):zV:=.func (.func 264) #[] #[γ b3,γ b5,γ b1,γ tI,γ l5]
def JKn(K0:Kd)(F:Nat×Nat->ax.Fn)(S:Nat->ax.Fn)(ν:zL)(ok:Bool)(es:Array MapEntry)(ck:Nat):Prop:=
 ∃m:List ((Nat×Nat)×Nat),aI pk Qs es ck m/\(ok=true->∀y∈m,S y.2=F y.1/\(live K0.N y.2\/y.2∈ν))
abbrev YV(e:Bool)(b3 b5 b1 tI l5 bj bq kp bm:Nat)(ok:Bool)(yj:Array MapEntry)(yl:Nat)(es:Array MapEntry)(ck:Nat)(C:Hp):Hp:=
 (l5,.cells #[Hu b3 b5 b1 tI l5] 335 zZ)::(tI,.cells #[.map (some bj)] 334 zZ)::(bj,.map yj yl)::(b5,.cells #[δ (!e).toNat] 78 zZ)::(b3,.cells #[δ e.toNat] 78 zZ)::(b1,.cells #[γ bq] 217 zZ)::uZ bq kp bm ok es ck C
variable{b3 b1:Nat}
section
variable{b5 tI l5 bj:Nat}{e:Bool}
def yT.wF(h:yT kp K0 S0 U θ ai K S ν es ck C ok){r:Nat}(hr:live K0.N r\/r∈ν):live K.N r:=by
 rcases hr with hr|hr
 ·exact h.c6.live hr
 exact h.c6.iK h.ks hr
def JKn.more{F:Nat×Nat->ax.Fn}{Φ:zL}{yj:Array MapEntry}{yl:Nat}{nS:Bool}(hq:yT kp K0 S0 U θ ai K S ν es ck C ok)(h:JKn K0 F S ν ok yj yl)(ha:FD K S ν K' S' Φ)(hok:nS=true->ok=true):JKn K0 F S' Φ nS yj yl:=by obtain⟨m,h1,h2⟩:=h;refine⟨m,h1,λh y hy=>?_⟩;obtain⟨a,b⟩:=h2 (hok h) y hy;exact⟨by rw[ha.fn _ (hq.wF b),a],b.imp id (ha.mem _)⟩
def abQ(kp:Nat)(K0:Kd)(S0:Nat->ax.Fn)(U:ax.Fn->Prop)(θ ai:zL)(e:Bool)(b3 b5 b1 tI l5 bj bq bm:Nat)(K:Kd)(S:Nat->ax.Fn)(ν:zL)(ok:Bool)(f:ax.Fn)(w:zV)(H:Hp):Prop:=
 ∃x K' S' Φ τ bF C' nS aav aaw,w=δ x/\H=YV e b3 b5 b1 tI l5 bj bq kp bm nS aav aaw τ bF C'/\yT kp K0 S0 U θ ai K' S' Φ τ bF C' nS/\JKn K0 (λp=>jf e S0 p.1 p.2) S' Φ nS aav aaw/\FD K S ν K' S' Φ/\
  (nS=true->ok=true/\S' x=f/\(live K0.N x\/x∈Φ))
def En{N:eM}{n:Nat}{bU:Nat->Nat}(h:WF n bU N)(hl:jY n bU){r v:Nat}(hr:live N r)(hv:v<n)(hle:bU v<=ι n bU N r):
  ∃z p q,got N r=[iv z,δ p,δ q]/\(bU v=ι n bU N r->z=(v:Int)/\p=er N v false r/\q=er N v true r)/\(bU v<ι n bU N r->er N v false r=r/\er N v true r=r):=by
 have hlv:=hl.lt v hv;cases e:N r with
 |none=>
  have h2:r<2:=by rcases hr with h|⟨d,hd⟩;exact h;rw[e]at hd;cases hd
  refine⟨_,_,_,fS h2,λh3=>?_,λh3=>⟨vq h hl h3 _,vq h hl h3 _⟩⟩;rw[aV e]at h3;omega
 |some d=>
  refine⟨_,_,_,eo e (h.two e),λh3=>?_,λh3=>⟨vq h hl h3 _,vq h hl h3 _⟩⟩;rw[au e]at h3;have:v=d.v:=hl.inj _ _ hv (h.var e) h3;subst this;obtain⟨c1,c2⟩:=k8 (N:=N) e;exact⟨rfl,c1.symm,c2.symm⟩
set_option maxHeartbeats 2000000 in
theorem SA(fX:aW zQ 264=true)(lY:WF K0.n (lv ai) K0.N)(p9:Interp K0.N S0)(j5:jY K0.n (lv ai))(lB:ax.Ord K0.n (lv ai) θ)(hf:∀s,K0.hold s=65535->live K0.N s):
  ∀(k a b:Nat),K0.n-min (ι K0.n (lv ai) K0.N a) (ι K0.n (lv ai) K0.N b)=k->∀(K:Kd) (S:Nat->ax.Fn) (ν:zL) (es:Array MapEntry) (ck:Nat) (C:Hp) (ok:Bool) (yj:Array MapEntry) (yl:Nat),
  live K0.N a->live K0.N b->yT kp K0 S0 U θ ai K S ν es ck C ok->JKn K0 (λp=>jf e S0 p.1 p.2) S ν ok yj yl->(∀g,aE K0.n θ (λg=>g=jf e S0 a b) g->U g)->
  Fc zQ 264 #[δ a,δ b,γ b3,γ b5,γ b1,γ tI,γ l5] (YV e b3 b5 b1 tI l5 bj bq kp bm ok yj yl es ck C) (abQ kp K0 S0 U θ ai e b3 b5 b1 tI l5 bj bq bm K S ν ok (jf e S0 a b)):=by
 have hc0:∀r,r<2->K0.N r=none:=λr hr=>lY.const hr;intro k;induction k using Nat.strongRecOn with
 |ind k ih=>
 intro a b hk K S ν es ck C ok yj yl ha hb hS hJ hU g;have hK:=hS.ks;have LR:∀r,r<2->K.N r=none:=λr hr=>hK.ok.wf.const hr;have eN:=hS.c6.n;have la:=hS.c6.live ha;have lb:=hS.c6.live hb;have now:∀x,live K0.N x->(S0 x=jf e S0 a b)->∀Z:Hp,aQ (abQ kp K0 S0 U θ ai e b3 b5 b1 tI l5 bj bq bm K S ν ok (jf e S0 a b)) (.returned (δ x)) (Z++YV e b3 b5 b1 tI l5 bj bq kp bm ok yj yl es ck C):=λx hx hf Z=>
  aQ.mk .right ⟨x,K,S,ν,es,ck,C,ok,yj,yl,rfl,rfl,hS,hJ,.refl,λh=>⟨h,by rw[hS.c6.fn x hx];exact hf,.inl hx⟩⟩
 have GZ:e.toNat<2:=by cases e<;>decide
 have VA:(!e).toNat<2:=by cases e<;>decide
 refine Im (R:=aQ _) ?_;unfold L264;refine Ld.q ?_;refine ah.fc (dh.or (decide (b=e.toNat)) (λ_=>?_) zI λgs=>?_)
 ·refine Ld.q ?_;exact ah.fc ⟨rfl,rfl⟩
 rw[<-xa6];refine Br.dec (λh1=>?_) (λh1=>?_)
 ·refine Ld.q ?_;refine now _ (.inl GZ) ?_ [];rcases h1 with rfl|rfl
  ·exact(SC p9 e b).symm
  rw[BD];exact(SC p9 e a).symm
 refine Ld.q ?_;refine ah.fc (dh.or (decide (a=b)) (λ_=>ah.fc ⟨rfl,rfl⟩) zI λgs=>?_);rw[<-xa6];refine Br.dec (λh2=>?_) (λh2=>?_)
 ·refine now b hb ?_ [];rcases h2 with rfl|rfl
  ·exact(SB p9 e b).symm
  exact(Xg e S0 a).symm
 refine Ld.q ?_;refine ah.fc (Br.dec (λh3=>?_) (λh3=>?_))
 ·refine now a ha ?_ [];rw[h3,BD];exact(SB p9 e a).symm
 refine Ld.q ?_;refine Ld.n ?_;cases ok with
 |false=>
  exact ah.cM (Br.T (aQ.here ⟨0,K,S,ν,es,ck,C,false,yj,yl,rfl,rfl,hS,hJ,.refl,λh=>by cases h⟩))
 |true=>
 refine ah.cM (Br.F (⟨.u32,(a:Int),(b:Int),rfl,rfl,⟨.u32,(a:Int),(b:Int),rfl,rfl,?_⟩⟩));have ai8:(if(b:Int)<(a:Int)then(b:Int)else(a:Int))=((min a b:Nat):Int):=by split<;>omega
 have ai9:(if(b:Int)>(a:Int)then(b:Int)else(a:Int))=((max a b:Nat):Int):=by split<;>omega
 rw[ai8,ai9];refine Build.mk (cs:=[δ (min a b),δ (max a b)]) zK λuU _=>?_;refine St.p (by intro x hx;simp[δ]at hx;rcases hx with rfl|rfl<;>rfl) ?_;refine Ld.q ?_;refine aB.q ?_;obtain⟨m,hE,hkn⟩:=hJ;have yH:(bj,Obj.map yj yl)∈(uU,Obj.cells #[δ (min a b),δ (max a b)] 337 zZ)::YV e b3 b5 b1 tI l5 bj bq kp bm true yj yl es ck C:=.tail _ (.tail _ (.tail _ (.head _)));cases hg:aN m (min a b,max a b)with
 |some x=>
  refine aI.GU (ke:=pk) (k:=(min a b,max a b)) R3 Gf hE yH hg ?_;rintro v rfl;obtain⟨g1,g2⟩:=hkn rfl _ ((ef hE.nd).1 hg);refine Ext.mk rfl (Ext.mk rfl (Br.yes (aQ.mk .tail ⟨x,K,S,ν,es,ck,C,true,yj,yl,rfl,rfl,hS,⟨m,hE,hkn⟩,.refl,λh=>⟨h,?_,g2⟩⟩)));rw[g1];exact YU e S0 a b
 |none=>
 refine aI.wA (ke:=pk) (k:=(min a b,max a b)) R3 Gf hE yH hg ?_;refine Ext.mk rfl (Ext.mk rfl (Br.no (Ld.q ?_)));refine ae.eq (Gd (bm:=bm) (ok:=true) (es:=es) (ck:=ck) hK la) (Ext.two λb36 _=>(St.whole (r:=got K.N a) (by exact .head _) rfl (aS _ _).1 (aS _ _).2 ?_));refine Ld.q ?_;refine ae.eq (Gd (bm:=bm) (ok:=true) (es:=es) (ck:=ck) hK lb) (Ext.two λb44 _=>(St.whole (r:=got K.N b) (by exact .head _) rfl (aS _ _).1 (aS _ _).2 ?_));rw[oJ hS.c6.N hc0 LR ha,oJ hS.c6.N hc0 LR hb,eN,xl hS.c6.N LR hc0 ha,xl hS.c6.N LR hc0 hb];have hmin:min (ι K0.n (lv ai) K0.N a) (ι K0.n (lv ai) K0.N b)<K0.n:=by
  refine xaD λhn=>h2 (.inr ?_);have Fz:∀r,live K0.N r->K0.n<=ι K0.n (lv ai) K0.N r->r<2:=λr hr hd=>by
   rcases hr with h|⟨d,dF⟩
   ·exact h
   rw[au dF]at hd;have:=j5.lt _ (lY.var dF);omega
  have a2:=Fz a ha zO;have b2:=Fz b hb zO;cases e<;>simp only[Bool.toNat_true,Bool.toNat_false,xcE,xct]at h1 h2<;>omega
 obtain⟨v,hv,hvl⟩:=agJ lY j5 (hc0 0 zO) hmin;have hva:=hv.le a zI;have hvb:=hv.le b zI;obtain⟨za,pa,qa,ega,ga1,ga2⟩:=En lY j5 ha hv.lt hva;obtain⟨zb,pb,qb,egb,gb1,gb2⟩:=En lY j5 hb hv.lt hvb;rw[ega,egb];have fW:∀r∈[a,b,0],live K0.N r:=λr hr=>by
  simp only[xak,xaQ,xbi]at hr;rcases hr with rfl|rfl|rfl
  ·exact ha
  ·exact hb
  exact .inl zO
 obtain⟨f1,f2⟩:=pV (S:=S0) lY j5 p9 fW hv false;obtain⟨t1,t2⟩:=pV (S:=S0) lY j5 p9 fW hv true;rw[EK v _ a b (hc0 0 zO)]at f1 f2 t1 t2;have ec:∀bb,jf e S0 (er K0.N v bb a) (er K0.N v bb b)=λx=>jf e S0 a b (an.aC x v bb):=λbb=>by
  have:=L4 (S:=S0) lY j5 p9 rfl fW hv (jt3 e) bb;rw[EK v _ a b (hc0 0 zO)]at this;exact this
 generalize ea1:er K0.N v false a=a1 at*;generalize ea2:er K0.N v true a=a2 at*;generalize ec1:er K0.N v false b=c1 at*;generalize ec2:er K0.N v true b=c2 at*;have iL:=j5.lt v hv.lt;have Eb:=lB.of j5 hv.lt;have tv:∀j,j<lv ai v->¬bW (jf e S0 a b) (θ.getD j 0):=An lY j5 p9 lB (q:=[a,b,0]) rfl fW (xce iL) hv.le (jt3 e);obtain⟨i1,Rq⟩:=j3 (n:=K0.n) (θ:=θ) (c:=jf e S0 a1 c1) tv (b:=false) (by rw[Eb,<-ea1,<-ec1];exact ec false);obtain⟨i2,Ro⟩:=j3 (n:=K0.n) (θ:=θ) (c:=jf e S0 a2 c2) tv (b:=true) (by rw[Eb,<-ea2,<-ec2];exact ec true);have eF:jf e S0 a1 c1=λx=>jf e S0 a b (an.aC x v false):=by rw[<-ea1,<-ec1];exact ec false
 have eT:jf e S0 a2 c2=λx=>jf e S0 a b (an.aC x v true):=by rw[<-ea2,<-ec2];exact ec true
 have la1:=f1 a1 zI;have lc1:=f1 c1 zI;have la2:=t1 a2 zI;have lc2:=t1 c2 zI;have da1:=f2 a1 zI;have dc1:=f2 c1 zI;have da2:=t2 a2 zI;have dc2:=t2 c2 zI;refine Ld.f ?_;intro J49 h49;have aeX:J49 [iv (v:Int)] ((b44,.cells #[iv zb,δ pb,δ qb] 144 zZ)::(b36,.cells #[iv za,δ pa,δ qa] 144 zZ)::(uU,.cells #[δ (min a b),δ (max a b)] 337 zZ)::YV e b3 b5 b1 tI l5 bj bq kp bm true yj yl es ck C):=by
  refine h49 _ _ λgs J53 h53=>?_;have aeW:J53 [] ((b44,.cells #[iv zb,δ pb,δ qb] 144 zZ)::(b36,.cells #[iv za,δ a1,δ a2] 144 zZ)::(uU,.cells #[δ (min a b),δ (max a b)] 337 zZ)::YV e b3 b5 b1 tI l5 bj bq kp bm true yj yl es ck C):=by
   refine h53 _ λgs J56 h56=>?_;have aeV:J56 [] ((b44,.cells #[iv zb,δ c1,δ c2] 144 zZ)::(b36,.cells #[iv za,δ a1,δ a2] 144 zZ)::(uU,.cells #[δ (min a b),δ (max a b)] 337 zZ)::YV e b3 b5 b1 tI l5 bj bq kp bm true yj yl es ck C):=by
    refine h56 _ λgs=>?_;refine Ld.q ?_;refine Ld.f ?_;refine Ld.f ?_;refine aM.of rfl fX ?_;have hJ0:JKn K0 (λp=>jf e S0 p.1 p.2) S ν true yj yl:=⟨m,hE,hkn⟩;refine ae.fq (args:=#[δ a1,δ c1,γ b3,γ b5,γ b1,γ tI,γ l5]) (ih _ zO a1 c1 rfl K S ν es ck C true yj yl la1 lc1 hS hJ0 (λg hg=>hU g (Rq g hg))) ?_;rintro w H ⟨x1,K1,S1,zw,kR,j7,C1,ok1,ag8,aha,rfl,rfl,Fw,hJ1,XU,yG⟩;refine DR.of (R:=[(b44,.cells #[iv zb,δ c1,δ c2] 144 zZ),(b36,.cells #[iv za,δ a1,δ a2] 144 zZ),(l5,.cells #[Hu b3 b5 b1 tI l5] 335 zZ),(b1,.cells #[γ bq] 217 zZ)]) (.cons (.cons (.skip (.cons (.skip (.skip (.skip (.skip (aO.left (A:=[_])))))))))) (Ld.q ?_);refine Ld.q ?_;refine Ld.f ?_;refine Ld.f ?_;refine aM.of rfl fX (ae.fq (args:=#[δ a2,δ c2,γ b3,γ b5,γ b1,γ tI,γ l5]) (ih _ zO a2 c2 rfl K1 S1 zw kR j7 C1 ok1 ag8 aha la2 lc2 Fw hJ1 (λg hg=>hU g (Ro g hg))) ?_);rintro w H ⟨x2,K2,S2,gg,ic,iO,C2,ok2,ag7,ag9,rfl,rfl,jS,CJ,oI,uh⟩;refine⟨.cons (.cons (.skip (.cons (.skip (.skip (.skip (.skip (aO.left (A:=[_]))))))))),?_⟩;have yM:=XU.trans oI;have fin:∀(x3:Nat) K3 S3 jD pT rF C3 Fq,yT kp K0 S0 U θ ai K3 S3 jD pT rF C3 Fq->FD K2 S2 gg K3 S3 jD->(Fq=true->ok2=true/\S3 x3=jf e S0 a b/\(live K0.N x3\/x3∈jD))->
      ∀H49,H49=(b44,.cells #[iv zb,δ c1,δ c2] 144 zZ)::(b36,.cells #[iv za,δ a1,δ a2] 144 zZ)::(uU,.cells #[δ (min a b),δ (max a b)] 337 zZ)::YV e b3 b5 b1 tI l5 bj bq kp bm Fq ag7 ag9 pT rF C3->
      aO H49 [(b44,.cells #[iv zb,δ c1,δ c2] 144 zZ),(b36,.cells #[iv za,δ a1,δ a2] 144 zZ),(l5,.cells #[Hu b3 b5 b1 tI l5] 335 zZ),(b1,.cells #[γ bq] 217 zZ)]/\
      Ld H49 (γ tI) λv77=>aB 2 H49 (γ uU) λv78=>iV zQ 337 H49 v77 v78 (δ x3) λH79=>aQ (abQ kp K0 S0 U θ ai e b3 b5 b1 tI l5 bj bq bm K S ν true (jf e S0 a b)) (.returned (δ x3)) H79:=by
     rintro x3 K3 S3 jD pT rF C3 Fq hS3 Fx Ec H49 rfl;refine⟨.cons (.cons (.skip (.cons (.skip (.skip (.skip (.skip (aO.left (A:=[_]))))))))),?_⟩;refine Ld.q ?_;refine aB.q ?_;obtain⟨m3,QM,aaW⟩:=CJ.more jS Fx (λh=>(Ec h).1);refine aI.M1 (ke:=pk) (k:=(min a b,max a b)) (vr:=Qs) (x:=x3) R3 Gf WG QM rfl λτ bF he=>⟨_,.tail (.tail (.tail (.tail (.tail (.head _))))),?_⟩;refine aQ.mk (.skip (.skip .tail)) ⟨x3,K3,S3,jD,pT,rF,C3,Fq,τ,bF,rfl,rfl,hS3,⟨_,he,λh y hy=>(oq hy).elim (λe1=>?_) (λhy=>aaW h y hy)⟩,yM.trans Fx,λh=>⟨rfl,(Ec h).2⟩⟩;rw[e1];exact⟨(Ec h).2.1.trans (YU e S0 a b).symm,(Ec h).2.2⟩
    cases ok2 with
    |false=>
     exact ae.eq (args:=#[γ bq,iv (v:Int),δ x1,δ x2]) (zj (kp:=kp) (bm:=bm) _ _ _ _) (fin 0 K2 S2 gg ic iO C2 false jS .refl (λh=>by cases h) _ rfl)
    |true=>
     obtain⟨aaf,e2,m2⟩:=uh rfl;obtain⟨_,e1,m1⟩:=yG aaf;have l1':=Fw.wF m1;have l1:live K2.N x1:=bC oI.N l1';have l2:=jS.wF m2;have Yb:S2 x1=jf e S0 a1 c1:=(oI.fn x1 l1').trans e1;have cY:=jS.ks;have n2:=jS.c6.n;have b1':=cY.ok.below cY.od (l:=lv ai v+1) l1 zO (by rw[Yb];exact i1);have b2':=cY.ok.below cY.od (l:=lv ai v+1) l2 zO (by rw[e2];exact i2);have tu:ite S2 ⟨v,x1,x2⟩=jf e S0 a b:=by
      funext x
      unfold ax.ite;rw[Yb,e2,eF,eT]
      conv=>rhs;rw[<-an.iE x v]
      simp only;cases x.testBit v<;>rfl
     have je:x1≠x2->U (ite S2 ⟨v,x1,x2⟩):=λhx=>by
      have Ad:bW (jf e S0 a b) (θ.getD (lv ai v) 0):=by
       rw[Eb];refine xaD λΓ=>hx ?_;refine cY.ok.wf.same cY.ok.lv cY.ok.mid.int l1 l2 λx=>?_;rw[Yb,e2,eF,eT];exact(cQ Γ x false).trans (cQ Γ x true).symm
      rw[tu];exact hU _ (pC tv iL Ad)
     refine ae.fq (args:=#[γ bq,iv (v:Int),δ x1,δ x2]) (DD jS (by rw[n2];exact hv.lt) l1 l2 ⟨by omega,by omega⟩ (by rw[tu];exact hU) je hf) ?_;rintro w H ⟨r,K3,S3,jD,pT,rF,C3,Fq,rfl,rfl,hS3,Fx,Ec⟩;exact fin r K3 S3 jD pT rF C3 Fq hS3 Fx (λh=>⟨rfl,by rw[(Ec h).1,tu],(Ec h).2⟩) _ rfl
   refine ah.nV (Br.dec (λhh=>?_) (λhh=>?_))
   ·obtain⟨x1,x2⟩:=gb2 zO;subst x1;subst x2;refine aj.mk (St.one (by exact .head _) rfl zI rfl ?_);refine aj.mk (St.one (by exact .head _) rfl zI rfl ?_);exact JE.mk aeV
   obtain⟨x1,x2,x3⟩:=gb1 zO;rw[x2,x3];exact JE.mk aeV
  refine ah.nV (Br.dec (λhh=>?_) (λhh=>?_))
  ·obtain⟨x1,x2⟩:=ga2 zO;subst x1;subst x2;refine aj.mk (St.one (by exact .tail (.head _)) rfl zI rfl ?_);refine aj.mk (St.one (by exact .tail (.head _)) rfl zI rfl ?_);exact JE.mk aeW
  obtain⟨x1,x2,x3⟩:=ga1 zO;rw[x2,x3];exact JE.mk aeW
 refine ah.eA (Br.dec (λhh=>?_) (λhh=>?_))
 ·obtain⟨x1,x2,x3⟩:=gb1 zO;refine Ld.f ?_;subst x1;exact JE.mk aeX
 obtain⟨x1,x2,x3⟩:=ga1 zO;subst x1;exact JE.mk aeX
end
variable{r:Nat}
def SM{N:eM}{n:Nat}{bU:Nat->Nat}{θ:zL}(h:WF n bU N)(hl:jY n bU)(hi:Interp N S)(ho:ax.Ord n bU θ)(hr:live N r){l:Nat}(yI:l<=n)(hle:l<=ι n bU N r):∀j,j<l->¬bW (S r) (θ.getD j 0):=by rintro j hj ⟨x,hx⟩;apply hx;obtain⟨o1,o2⟩:=ho.bg j zO;rw[h.bO hl hi hr o1 zO x false,h.bO hl hi hr o1 zO x true]
section
def Yt(kp:Nat)(K0:Kd)(S0:Nat->ax.Fn)(U:ax.Fn->Prop)(θ ai:zL)(bq bm:Nat)(LB:Hp)(K:Kd)(S:Nat->ax.Fn)(ν:zL)(f:ax.Fn)(w:zV)(H:Hp):Prop:=
 ∃x K' S' Φ τ bF C' nS,w=δ x/\H=LB++uZ bq kp bm nS τ bF C'/\yT kp K0 S0 U θ ai K' S' Φ τ bF C' nS/\FD K S ν K' S' Φ/\(nS=true->S' x=f/\(live K0.N x\/x∈Φ))
theorem Xf{e:Bool}(lY:WF K0.n (lv ai) K0.N)(p9:Interp K0.N S0)(j5:jY K0.n (lv ai))(lB:ax.Ord K0.n (lv ai) θ)(hf:∀s,K0.hold s=65535->live K0.N s){a b:Nat}
 (ha:live K0.N a)(hb:live K0.N b)(hS:yT kp K0 S0 U θ ai K S ν es ck C true)(hU:∀g,aE K0.n θ (λg=>g=jf e S0 a b) g->U g):
  Fc zQ 223 #[γ bq,δ a,δ b,.bool e] (uZ bq kp bm true es ck C) (Yt kp K0 S0 U θ ai bq bm [] K S ν (jf e S0 a b)):=by
 refine aJ λg=>IW λb1 _ b3 _ b5 _=>?_;refine St.one (by exact .tail (.head _)) rfl zI rfl ?_;refine St.one (by exact .head _) rfl zI rfl ?_;have fX:aW zQ 264=true:=by kernel_rfl
 intro J hJ;have hJ':J [] ((b5,.cells #[δ (!e).toNat] 78 zZ)::(b3,.cells #[δ e.toNat] 78 zZ)::(b1,.cells #[γ bq] 217 zZ)::uZ bq kp bm true es ck C):=by
  refine hJ _ λgs=>?_;intro bj _ tI _;refine St.one (by exact .head _) rfl zI rfl ?_;intro l5 _;refine St.one (by exact .head _) rfl zI rfl ?_;refine Ld.q ?_;refine aM.of rfl fX (ae.fq (args:=#[δ a,δ b,γ b3,γ b5,γ b1,γ tI,γ l5]) (SA (e:=e) fX lY p9 j5 lB hf _ a b rfl K S ν es ck C true #[] 0 ha hb hS ⟨[],aI.empty,λ_ y hy=>by cases hy⟩ hU) ?_);rintro w H ⟨x,K',S',Φ,τ,bF,C',nS,aav,aaw,rfl,rfl,pQ,_,hA,ho⟩;exact aQ.mk (.skip (.skip (.skip (.skip (.skip .tail))))) ⟨x,K',S',Φ,τ,bF,C',nS,rfl,rfl,pQ,hA,λh=>(ho h).2⟩
 cases e with
 |true=>
  refine Br.yes (St.one (by exact .tail (.head _)) rfl zI rfl ?_);refine St.one (by exact .head _) rfl zI rfl ?_;exact JE.mk hJ'
 |false=>exact Br.no (JE.mk hJ')
def MA(kp:Nat)(K0:Kd)(S0:Nat->ax.Fn)(U:ax.Fn->Prop)(θ ai:zL)(bq bm:Nat)(t:Bool->Bool->Bool)(v:Nat)(fv:zV)(LB:Hp):Prop:=
 ∃f first cap,fv=.func (.func f) first cap/\aW zQ f=true/\∀(r:Nat) (d:Nd),K0.N r=some d->d.v=v->∀K S ν es ck C,yT kp K0 S0 U θ ai K S ν es ck C true->(∀g,aE K0.n θ (λg=>g=QF t v (S0 r)) g->U g)->
  Fc zQ f (first++ #[.agg (bB d).toArray]++cap) (LB++uZ bq kp bm true es ck C) (Yt kp K0 S0 U θ ai bq bm LB K S ν (QF t v (S0 r)))
def UD(b1 jx mJ b3 AA:Nat):zV:=.func (.func 218) #[] #[γ b1,γ jx,γ mJ,γ b3,γ AA]
def DKn(K0:Kd)(F:Nat->ax.Fn)(S:Nat->ax.Fn)(ν:zL)(ok:Bool)(es:Array MapEntry)(ck:Nat):Prop:=
 ∃m:List (Nat×Nat),aI (kN .u32) Qs es ck m/\(ok=true->∀y∈m,S y.2=F y.1/\(live K0.N y.2\/y.2∈ν))
def DKn.more{F:Nat->ax.Fn}{Φ:zL}{yj:Array MapEntry}{yl:Nat}{nS:Bool}(hq:yT kp K0 S0 U θ ai K S ν es ck C ok)(h:DKn K0 F S ν ok yj yl)(ha:FD K S ν K' S' Φ)(hok:nS=true->ok=true):DKn K0 F S' Φ nS yj yl:=by obtain⟨m,h1,h2⟩:=h;refine⟨m,h1,λh y hy=>?_⟩;obtain⟨a,b⟩:=h2 (hok h) y hy;exact⟨by rw[ha.fn _ (hq.wF b),a],b.imp id (ha.mem _)⟩
abbrev dHp(b1 b3 jx mJ AA bd lvl:Nat)(fv:zV)(LB:Hp)(bq kp bm:Nat)(ok:Bool)(QV:Array MapEntry)(QW:Nat)(es:Array MapEntry)(ck:Nat)(C:Hp):Hp:=
 (AA,.cells #[UD b1 jx mJ b3 AA] 287 zZ)::(mJ,.cells #[.map (some bd)] 286 zZ)::(bd,.map QV QW)::(jx,.cells #[iv (lvl:Int)] 3 zZ)::(b3,.cells #[fv] 204 zZ)::(b1,.cells #[γ bq] 217 zZ)::(LB++uZ bq kp bm ok es ck C)
def ajx(kp:Nat)(K0:Kd)(S0:Nat->ax.Fn)(U:ax.Fn->Prop)(θ ai:zL)(t:Bool->Bool->Bool)(v b1 b3 jx mJ AA bd:Nat)(fv:zV)(LB:Hp)(bq bm:Nat)(K:Kd)(S:Nat->ax.Fn)(ν:zL)(ok:Bool)(f:ax.Fn)(w:zV)(H:Hp):Prop:=
 ∃x K' S' Φ τ bF C' nS abw aby,w=δ x/\H=dHp b1 b3 jx mJ AA bd (lv ai v) fv LB bq kp bm nS abw aby τ bF C'/\yT kp K0 S0 U θ ai K' S' Φ τ bF C' nS/\DKn K0 (λr=>QF t v (S0 r)) S' Φ nS abw aby/\FD K S ν K' S' Φ/\
  (nS=true->ok=true/\S' x=f/\(live K0.N x\/x∈Φ))
variable{jx mJ AA bd:Nat}{fv:zV}{LB:Hp}{t:Bool->Bool->Bool}{v:Nat}
set_option maxHeartbeats 2000000 in
theorem Uo(fX:aW zQ 218=true)(hLq:MA kp K0 S0 U θ ai bq bm t v fv LB)(ht:∀a,t a a=a)(hv:v<K0.n)(lY:WF K0.n (lv ai) K0.N)(p9:Interp K0.N S0)(j5:jY K0.n (lv ai))(lB:ax.Ord K0.n (lv ai) θ)(hf:∀s,K0.hold s=65535->live K0.N s):
  ∀(k r:Nat),K0.n-ι K0.n (lv ai) K0.N r=k->∀(K:Kd) (S:Nat->ax.Fn) (ν:zL) (es:Array MapEntry) (ck:Nat) (C:Hp) (ok:Bool) (QV:Array MapEntry) (QW:Nat),
  live K0.N r->yT kp K0 S0 U θ ai K S ν es ck C ok->DKn K0 (λr=>QF t v (S0 r)) S ν ok QV QW->(∀g,aE K0.n θ (λg=>g=QF t v (S0 r)) g->U g)->
  Fc zQ 218 #[δ r,γ b1,γ jx,γ mJ,γ b3,γ AA] (dHp b1 b3 jx mJ AA bd (lv ai v) fv LB bq kp bm ok QV QW es ck C) (ajx kp K0 S0 U θ ai t v b1 b3 jx mJ AA bd fv LB bq bm K S ν ok (QF t v (S0 r))):=by
 have hc0:∀r,r<2->K0.N r=none:=λr hr=>lY.const hr;intro k;induction k using Nat.strongRecOn with
 |ind k ih=>
 intro r hk K S ν es ck C ok QV QW hr hS hD hU g;have hK:=hS.ks;have LR:∀r,r<2->K.N r=none:=λr hr=>hK.ok.wf.const hr;have eN:=hS.c6.n;have lr:=hS.c6.live hr;refine I0 (R:=aQ _) ?_;unfold L218;refine Ld.q ?_;refine ae.eq (Gd (bm:=bm) (ok:=ok) (es:=es) (ck:=ck) hK lr) (Ext.two λb6 _=>(St.whole (r:=got K.N r) (by exact .head _) rfl (aS _ _).1 (aS _ _).2 ?_));rw[oJ hS.c6.N hc0 LR hr,eN,xl hS.c6.N LR hc0 hr];refine Ld.q ?_;refine ah.nV (dh.or (!ok) (λ_=>?_) zI λgs=>?_)
 ·refine Ld.q ?_;refine Ld.n ?_;exact ah.cM ⟨rfl,by cases ok<;>rfl⟩
 refine Br.mk (λhb=>?_) (λhb=>?_)
 ·-- deeper, or an error before
  refine aQ.mk .tail ⟨r,K,S,ν,es,ck,C,ok,QV,QW,rfl,rfl,hS,hD,.refl,λh=>⟨h,?_,.inl hr⟩⟩;rw[h]at hb;simp only[xcE,xdB,xaM]at hb;rw[hS.c6.fn r hr];refine(Yu ht ?_).symm;rintro⟨x,hx⟩;apply hx;rw[lY.bO j5 p9 hr hv hb x false,lY.bO j5 p9 hr hv hb x true]
 simp only[xaG,xbq,Bool.not_eq_false',Nat.not_lt]at hb;obtain⟨BJ,rfl⟩:=hb;obtain⟨m,hE,hkn⟩:=hD;refine Ld.q ?_;have yH:(bd,Obj.map QV QW)∈(b6,Obj.cells (got K0.N r).toArray 144 zZ)::dHp b1 b3 jx mJ AA bd (lv ai v) fv LB bq kp bm true QV QW es ck C:=.tail _ (.tail _ (.tail _ (.head _)));have hlv:=j5.lt v hv;obtain⟨d,hd⟩:∃d,K0.N r=some d:=by
  cases e:K0.N r with
  |none=>rw[aV e]at BJ;omega
  |some d=>exact⟨d,rfl⟩
 have ed:=au (n:=K0.n) (ai:=lv ai) hd;have h2:=lY.two hd;have kQ:=lY.var hd;cases hg:aN m r with
 |some x=>
  refine aI.hit (k:=r) jO hE yH hg ?_;rintro w rfl;obtain⟨g1,g2⟩:=hkn rfl _ ((ef hE.nd).1 hg);exact Ext.mk rfl (Ext.mk rfl (Br.yes (aQ.mk .tail ⟨x,K,S,ν,es,ck,C,true,QV,QW,rfl,rfl,hS,⟨m,hE,hkn⟩,.refl,λh=>⟨h,g1,g2⟩⟩)))
 |none=>
 refine aI.bR (k:=r) jO hE yH hg ?_;refine Ext.mk rfl (Ext.mk rfl (Br.no ?_));rw[eo hd h2];intro J hJ;have fin:∀(x3:Nat) K3 S3 jD pT rF C3 Fq abv abx,yT kp K0 S0 U θ ai K3 S3 jD pT rF C3 Fq->DKn K0 (λr=>QF t v (S0 r)) S3 jD Fq abv abx->FD K S ν K3 S3 jD->(Fq=true->S3 x3=QF t v (S0 r)/\(live K0.N x3\/x3∈jD))->
   J [δ x3] ((b6,.cells (bB d).toArray 144 zZ)::dHp b1 b3 jx mJ AA bd (lv ai v) fv LB bq kp bm Fq abv abx pT rF C3):=by
  intro x3 K3 S3 jD pT rF C3 Fq abv abx hS3 hD3 Fx Ec;refine hJ _ _ λgs=>?_;refine Ld.q ?_;obtain⟨m3,QM,aaW⟩:=hD3;refine aI.bt (k:=r) (x:=x3) jO LI QM rfl λτ bF he=>⟨_,.tail (.tail (.tail (.head _))),?_⟩;refine aQ.mk .tail ⟨x3,K3,S3,jD,pT,rF,C3,Fq,τ,bF,rfl,rfl,hS3,⟨_,he,λh y hy=>(oq hy).elim (λe1=>?_) (λhy=>aaW h y hy)⟩,Fx,λh=>⟨rfl,Ec h⟩⟩;rw[e1];exact Ec h
 have hD0:DKn K0 (λr=>QF t v (S0 r)) S ν true QV QW:=⟨m,hE,hkn⟩;refine Ld.q ?_;refine ah.fc (Br.dec (λhl=>?_) (λhl=>?_))
 ·-- at the variable
  have ev:d.v=v:=j5.inj _ _ kQ hv zO;obtain⟨f,first,cap,rfl,XG,adW⟩:=hLq;refine Ld.q ?_;refine aB.q ?_;refine aM.of rfl XG (ae.fq (C:=LB++uZ bq kp bm true es ck C) (adW r d hd ev K S ν es ck C hS hU) ?_);rintro w H ⟨x,K',S',Φ,τ,bF,C',nS,rfl,rfl,pQ,hA,ho⟩;exact JE.mk (fin x K' S' Φ τ bF C' nS QV QW pQ (hD0.more hS hA (λ_=>rfl)) hA ho)
 -- above it
 have ahK:lv ai d.v<lv ai v:=by omega
 have ξ:d.v≠v:=λe=>by rw[e]at ahK;omega
 obtain⟨g1,g2,g3⟩:=gy (S:=S0) lY j5 p9 hr kQ zO false;obtain⟨t1,t2,t3⟩:=gy (S:=S0) lY j5 p9 hr kQ zO true;obtain⟨q1,q2⟩:=k8 (N:=K0.N) hd;rw[q1]at g1 g2 g3;rw[q2]at t1 t2 t3;have iL:=j5.lt d.v kQ;have Eb:=lB.of j5 kQ;have tv:∀j,j<lv ai d.v->¬bW (QF t v (S0 r)) (θ.getD j 0):=λj hj=>Vf (SM lY j5 p9 lB hr (xce iL) zO j hj);have eF:QF t v (S0 d.lo)=λx=>QF t v (S0 r) (an.aC x d.v false):=by rw[<-Vg ξ];congr 1;exact funext g1
 have eT:QF t v (S0 d.hi)=λx=>QF t v (S0 r) (an.aC x d.v true):=by rw[<-Vg ξ];congr 1;exact funext t1
 obtain⟨i1,Rq⟩:=j3 (n:=K0.n) (θ:=θ) (c:=QF t v (S0 d.lo)) tv (b:=false) (by rw[Eb];exact eF);obtain⟨i2,Ro⟩:=j3 (n:=K0.n) (θ:=θ) (c:=QF t v (S0 d.hi)) tv (b:=true) (by rw[Eb];exact eT);refine Ld.q ?_;refine Ld.f ?_;refine aM.of rfl fX (ae.fq (args:=#[δ d.lo,γ b1,γ jx,γ mJ,γ b3,γ AA]) (ih _ zO d.lo rfl K S ν es ck C true QV QW g2 hS hD0 (λg hg=>hU g (Rq g hg))) ?_);rintro w H ⟨x1,K1,S1,zw,kR,j7,C1,ok1,ajb,ajd,rfl,rfl,Fw,hD1,XU,yG⟩;refine DR.of (R:=[(b6,.cells (bB d).toArray 144 zZ),(AA,.cells #[UD b1 jx mJ b3 AA] 287 zZ),(b1,.cells #[γ bq] 217 zZ)]) (.cons (.cons (.skip (.skip (.skip (.skip (aO.left (A:=[_])))))))) (Ld.q ?_);refine Ld.f ?_;refine Ld.q ?_;refine Ld.f ?_;refine aM.of rfl fX (ae.fq (args:=#[δ d.hi,γ b1,γ jx,γ mJ,γ b3,γ AA]) (ih _ zO d.hi rfl K1 S1 zw kR j7 C1 ok1 ajb ajd t2 Fw hD1 (λg hg=>hU g (Ro g hg))) ?_);rintro w H ⟨x2,K2,S2,gg,ic,iO,C2,ok2,afc,aff,rfl,rfl,jS,hD2,oI,uh⟩;refine⟨.cons (.cons (.skip (.skip (.skip (.skip (aO.left (A:=[_]))))))),?_⟩;have yM:=XU.trans oI;cases ok2 with
 |false=>
  refine ae.eq (args:=#[γ bq,iv (d.v:Int),δ x1,δ x2]) (zj (kp:=kp) (bm:=bm) _ _ _ _) (⟨.cons (.cons (.skip (.skip (.skip (.skip (aO.left (A:=[_]))))))),?_⟩);exact JE.mk (fin 0 K2 S2 gg ic iO C2 false afc aff jS hD2 yM (λh=>by cases h))
 |true=>
  obtain⟨aaf,e2,m2⟩:=uh rfl;obtain⟨_,e1,m1⟩:=yG aaf;have l1':=Fw.wF m1;have l1:live K2.N x1:=bC oI.N l1';have l2:=jS.wF m2;have Yb:S2 x1=QF t v (S0 d.lo):=(oI.fn x1 l1').trans e1;have cY:=jS.ks;have n2:=jS.c6.n;have b1':=cY.ok.below cY.od (l:=lv ai d.v+1) l1 zO (by rw[Yb];exact i1);have b2':=cY.ok.below cY.od (l:=lv ai d.v+1) l2 zO (by rw[e2];exact i2);have tu:ite S2 ⟨d.v,x1,x2⟩=QF t v (S0 r):=by
   funext x
   unfold ax.ite;rw[Yb,e2,eF,eT]
   conv=>rhs;rw[<-an.iE x d.v]
   simp only;cases x.testBit d.v<;>rfl
  have je:x1≠x2->U (ite S2 ⟨d.v,x1,x2⟩):=λhx=>by
   have Ad:bW (QF t v (S0 r)) (θ.getD (lv ai d.v) 0):=by
    rw[Eb];refine xaD λΓ=>hx ?_;refine cY.ok.wf.same cY.ok.lv cY.ok.mid.int l1 l2 λx=>?_;rw[Yb,e2,eF,eT];exact(cQ Γ x false).trans (cQ Γ x true).symm
   rw[tu];exact hU _ (pC tv iL Ad)
  refine ae.fq (args:=#[γ bq,iv (d.v:Int),δ x1,δ x2]) (DD jS (by rw[n2];exact kQ) l1 l2 ⟨by omega,by omega⟩ (by rw[tu];exact hU) je hf) ?_;rintro w H ⟨r3,K3,S3,jD,pT,rF,C3,Fq,rfl,rfl,hS3,Fx,Ec⟩;refine⟨.cons (.cons (.skip (.skip (.skip (.skip (aO.left (A:=[_]))))))),?_⟩;exact JE.mk (fin r3 K3 S3 jD pT rF C3 Fq afc aff hS3 (hD2.more jS Fx (λ_=>rfl)) (yM.trans Fx) (λh=>⟨by rw[(Ec h).1,tu],(Ec h).2⟩))
end
def aam(es:Array MapEntry)(l:zL):List zV->Hp->Nat:=λ_ H=>match H with
 |(_,.mapIter _ _ seen _)::_=>(bY es (Cv l) seen).length
 |_=>0
structure Let(K K':Kd)(l:zL):Prop where
 n:K'.n=K.n
 cap:K'.cap=K.cap
 N:∀s d,K'.N s=some d->K.N s=some d
 hold:∀s,K'.hold s+l.count s=K.hold s
section
theorem Bl{g:Gh}{l:zL}{b9:Nat}{LB:Hp}(hK:bS kp K S θ ai [] C)(hE:aI (kN .u32) vr1 es ck (Cv l))(hc:∀s,l.count s<=K.hold s)(h2:∀s∈l,2<=s)(QN:∀s∈l,s<4294967296){Kc:Hp->Prop}
 (hk:∀K' C' bi it,bS kp K' S θ ai [] C'->Let K K' l->Kc ((bi,it)::(b9,.cells #[γ bq] 217 zZ)::(b1,.cells #[γ kp] 53 zZ)::(LB++uZ bq kp bm ok es ck C'))):
  kJ zQ g 217 #[γ b9,γ b1] ((b9,.cells #[γ bq] 217 zZ)::(b1,.cells #[γ kp] 53 zZ)::(LB++uZ bq kp bm ok es ck C)) Kc:=by
 refine Ff (R:=_) ?_;unfold L217;refine Ld.q ?_;refine Ld.n ?_;refine .inr ⟨bm,es,ck,rfl,.tail _ (.tail _ (xaa _ (.tail _ (.head _)))),λbi _=>?_⟩;refine⟨λ_ H=>∃(done:zL) (K':Kd) (C':Hp) (seen:Array Nat),H=(bi,.mapIter (some bm) ck seen ck)::(b9,.cells #[γ bq] 217 zZ)::(b1,.cells #[γ kp] 53 zZ)::(LB++uZ bq kp bm ok es ck C')/\
   bS kp K' S θ ai [] C'/\Let K K' done/\(done++(bY es (Cv l) seen).map Prod.fst).Perm l,aam es l,JE.mk ⟨[],K,C,#[],rfl,hK,⟨rfl,rfl,λ_ _ h=>h,λs=>by simp⟩,by rw[mU hE,rT];exact .refl _⟩,?_⟩
 rintro H ⟨done,K',C',seen,rfl,de,hl,hp⟩ gs;refine aI.next (bi:=bi) (bm:=bm) (seen:=seen) hE (.tail _ (.tail _ (.tail _ (xaa _ (.tail _ (.head _)))))) (.head _) (λe x Ψ he hkey hv S7 hbk hfi=>⟨_,.head _,?_⟩) (λhu=>?_)
 ·refine Ext.mk rfl (Br.yes (⟨bi,bm,ck,Ψ,e.born,ck,es,e,rfl,.head _,hbk,.tail _ (.tail _ (.tail _ (xaa _ (.tail _ (.head _))))),hfi,?_⟩));refine Ext.mk rfl (Ld.q ?_);have hxl:x.1∈l:=by
   refine hp.mem_iff.1 (xaa _ ?_);exact xaT (S7.mem_iff.2 (.head _))
  have CD:done.count x.1+1<=l.count x.1:=by
   rw[<-hp.count_eq,xbf,(S7.map Prod.fst).count_eq,xay,List.count_cons_self];omega
  have hhx:K'.hold x.1≠0:=by
   have a:=hl.hold x.1;have b:=hc x.1;omega
  show ae zQ g 85 #[γ kp,e.key] _ _ _;rw[hkey];refine ae.fq (args:=#[γ kp,δ x.1]) (nv de (r:=x.1) (QN _ hxl) (λ_=>hhx)) ?_;rintro w C2 ⟨rfl,K2,cY,f2⟩;refine aD.mk ⟨done++[x.1],K2,C2,Ψ,rfl,cY,⟨f2.n.trans hl.n,f2.cap.trans hl.cap,λs d hd=>hl.N s d (f2.N s d hd),λs=>?_⟩,?_⟩ ?_
  ·have a:=hl.hold s;rw[f2.hold,xbf,xcN];by_cases e1:s=x.1
   ·subst e1;have:=h2 _ hxl;simp[this];omega
   have:(x.1==s)=false:=by simpa using λe'=>e1 e'.symm
   simp[e1,this];exact a
  ·refine .trans ?_ hp;rw[xag];refine xbB _ ?_;exact(S7.map Prod.fst).symm
  show(bY es (Cv l) Ψ).length<(bY es (Cv l) seen).length;rw[S7.length_eq,xax];omega
 refine Ext.mk rfl (Br.no ?_);rw[hu,xcd,xaI]at hp;refine⟨⟨_,rfl⟩,hk K' C' bi _ de ⟨hl.n,hl.cap,hl.N,λs=>?_⟩⟩;rw[<-hp.count_eq];exact hl.hold s
end
section
def ac4{α:Type}(a x y b:α)(L R:List α):(a::x::y::b::(L++R)).Perm (a::b::(L++x::y::R)):=by
 classical
 rw[xcz];intro z;simp only[xbf,xca];omega
def NP{x:Nat}:iJ (Cv ν) x=Cv (ν.filter λr=>decide (¬r=x)):=by
 unfold iJ Cv;induction ν with
 |nil=>rfl
 |cons a l ih=>
  simp only[xay,xbz];by_cases h:a=x
  ·simp[h]at ih⊢;exact ih
  simp[h]at ih⊢;exact ih
def pg(kp:Nat)(K:Kd)(S:Nat->ax.Fn)(θ ai:zL)(LB:Hp)(f:ax.Fn)(w:zV)(H:Hp):Prop:=
 (∃x K' S' C',w=.tuple #[δ x,.bool true,iv 0]/\H=LB++C'/\bS kp K' S' θ ai [] C'/\gn K S K' S' f x)\/
 (w=.tuple #[δ 0,.bool false,iv 9]/\(∃K' S' C',H=LB++C'/\bS kp K' S' θ ai [] C'/\Kept K S K' S')/\¬Fits (aE K.n θ (λg=>K.held S g\/g=f)) K.cap)
def lg(kp:Nat)(K:Kd)(S:Nat->ax.Fn)(θ ai:zL)(LB:Hp)(f:ax.Fn)(w:zV)(H:Hp):Prop:=
 pg kp K S θ ai LB f w H\/∃x,w=.tuple #[δ x,.bool false,iv 0]/\(∃K' S' C',H=LB++C'/\bS kp K' S' θ ai [] C'/\Kept K S K' S')/\2<=x/\K.hold x=65535/\S x=f
theorem Ll(hK:bS kp K S θ ai tr C){f:ax.Fn}{LB:Hp}{fb:zV}
 (hb:∀K1 C1,bS kp K1 S θ ai [] C1->Yv K K1 1->∃ff first cap,fb=.func (.func ff) first cap/\aW zQ ff=true/\∀bq bm,yT kp K1 S (aE K.n θ (λg=>K.held S g\/g=f)) θ ai K1 S [] #[] 0 C1 true->
   Fc zQ ff (first++ #[γ bq]++cap) (LB++uZ bq kp bm true #[] 0 C1) (Yt kp K1 S (aE K.n θ (λg=>K.held S g\/g=f)) θ ai bq bm LB K1 S [] f)):
  Fc zQ 159 #[γ kp,fb] (LB++C) (lg kp K S θ ai LB f):=by
 refine aJ λg=>JO λb1 _=>?_;refine Ld.q ?_;intro bm _;refine Build.mk (cs:=[γ kp,.map (some bm),iv 0]) zK λbq _ b9 _=>?_;refine St.one (by exact .head _) rfl zI rfl ?_;refine Ld.q ?_;refine ae.fq (args:=#[γ kp,δ 1]) (nh hK (r:=1) (.inl zO) (λh=>by omega)) ?_;rintro w C1 ⟨rfl,K1,dR,mo⟩;have fB:∀s,K1.hold s=K.hold s:=λs=>by rw[mo.hold,xac zO]
 have aeg:∀g,K1.held S g->K.held S g:=by
  rintro g ⟨s,hs,rfl⟩;exact⟨s,by have:K1.hold s≠0:=hs;rwa [fB]at this,rfl⟩
 obtain⟨ff,first,cap,rfl,XG,hbody⟩:=hb K1 C1 dR mo;refine Ld.q ?_;refine aM.of rfl XG (ae.pre (H':=(b9,.cells #[γ bq] 217 zZ)::(b1,.cells #[γ kp] 53 zZ)::(LB++uZ bq kp bm true #[] 0 C1)) (.perm (ac4 _ _ _ _ _ _)) ?_);have TS:yT kp K1 S (aE K.n θ (λg=>K.held S g\/g=f)) θ ai K1 S [] #[] 0 C1 true:=⟨dR,.refl λg hg=>by rw[mo.n]at hg;exact aX (λg h=>.inl (aeg g h)) hg,aI.empty,λh=>by cases h⟩;refine ae.fq (C:=LB++uZ bq kp bm true #[] 0 C1) (hbody bq bm TS) ?_;rintro w H ⟨x,K2,S2,ν,es,ck,C2,ok,rfl,rfl,jS,hA,ho⟩;have cY:=jS.ks;have kL:=jS.c6;have fQ:=jS.nd;have G4:∀s,ν.count s<=K2.hold s:=λs=>by rw[kL.hold];omega
 have QN:∀s∈ν,s<4294967296:=λs hs=>by have:=cY.bQ (kL.iK cY hs);omega
 have rD:∀s,K.hold s≠0->live K.N s:=λs hs=>.inr (hK.ok.mid.held s hs);have aiF:∀s d,K.N s=some d->K2.N s=some d:=λs d hd=>kL.N s d (by rw[mo.N];exact hd);have hfn:∀s,live K.N s->S2 s=S s:=λs hs=>kL.fn s (by rw[mo.N];exact hs);refine Ld.q ?_;refine Ld.n ?_;cases ok with
 |false=>
  refine ah.cM (Br.T (Ld.q ?_));refine Ld.n ?_;refine Bl cY jS.dO G4 kL.two QN λK3 C3 bi it kB hl=>?_;have gM:∀s,K3.hold s=K.hold s:=λs=>by
   have a:=hl.hold s;have b:=kL.hold s;rw[fB]at b;omega
  refine aQ.mk (.skip (.skip (.skip (.cv (.skip .tail) _)))) (.inl (.inr ⟨rfl,⟨K3,S2,C3,rfl,kB,⟨by rw[hl.n,kL.n,mo.n],by rw[hl.cap,kL.cap,mo.cap],gM,λg=>?_,λr hr=>hfn r (rD r hr)⟩⟩,?_⟩))
  ·constructor
   ·rintro⟨s,hs,rfl⟩;have μ:K.hold s≠0:=by rw[<-gM];exact hs
    exact⟨s,μ,hfn s (rD s μ)⟩
   rintro⟨s,hs,rfl⟩;exact⟨s,by show K3.hold s≠0;rw[gM];exact hs,(hfn s (rD s hs)).symm⟩
  have:=jS.bad rfl;rw[mo.cap]at this;exact this
 |true=>
  obtain⟨hx,hxm⟩:=ho rfl;refine ah.cM (Br.F (Ld.q ?_));refine Ld.n ?_;have fin:∀(K3:Kd) (l:zL) (pT:Array MapEntry) (C3:Hp),bS kp K3 S2 θ ai [] C3->(∀s d,K3.N s=some d->K2.N s=some d)->K3.n=K2.n->K3.cap=K2.cap->aI (kN .u32) vr1 pT ck (Cv l)->(∀s∈l,s∈ν)->(∀s,K3.hold s=K.hold s+l.count s+if s=x/\2<=x then 1 else 0)->
    kJ zQ g 217 #[γ b9,γ b1] ((b9,.cells #[γ bq] 217 zZ)::(b1,.cells #[γ kp] 53 zZ)::(LB++uZ bq kp bm true pT ck C3)) λH=>aQ (lg kp K S θ ai LB f) (.returned (.tuple #[δ x,.bool true,iv 0])) H:=by
   intro K3 l pT C3 kB hN3 hn3 hc3 QM hlm CC;refine Bl kB QM (λs=>by rw[CC];omega) (λs hs=>kL.two s (hlm s hs)) (λs hs=>QN s (hlm s hs)) λK4 C4 bi it Ou hl=>?_;have nJ:∀s,K4.hold s=K.hold s+if s=x/\2<=x then 1 else 0:=λs=>by
    have a:=hl.hold s;rw[CC]at a;omega
   have wS:live K4.N x:=by
    by_cases h2:x<2
    ·exact .inl h2
    refine .inr (Ou.ok.mid.held x ?_);rw[nJ,xae ⟨rfl,by omega⟩];omega
   refine aQ.mk (.skip (.skip (.skip (.cv (.skip .tail) _)))) (.inl (.inl ⟨x,K4,S2,C4,rfl,rfl,Ou,⟨by rw[hl.n,hn3,kL.n,mo.n],by rw[hl.cap,hc3,kL.cap,mo.cap],λs d hs=>kA hK.ok Ou.ok (λs h=>by rw[nJ];omega) (λs d d' h h'=>?_) _ s d hs (xai _),hfn,wS,hx,nJ⟩⟩));have a:=hN3 s d' (hl.N s d' h');rw[aiF s d h]at a;exact(xbb a).symm
  by_cases hm:x∈ν
  ·refine aI.hit (k:=x) (x:=()) jO jS.dO (.tail _ (.tail _ (xaa _ (.tail _ (.head _))))) (pL.1 hm) ?_;rintro v rfl;refine ah.gtr (Br.T (Ld.q ?_));refine Ld.n ?_;refine aI.del (k:=x) jO jS.dO (.tail _ (.tail _ (xaa _ (.tail _ (.head _))))) λτ he=>⟨_,.tail (.tail ((df.tail (.head _)).cf LB)),?_⟩;rw[NP]at he;refine fin K2 _ τ C2 cY (λ_ _ h=>h) rfl rfl he (λs hs=>(xb0.1 hs).1) λs=>?_;rw[kL.hold,fB];have QR:=kL.two x hm;by_cases e1:s=x
   ·subst e1;have c1:ν.count s=1:=by rw[fQ.count,xae hm]
    have c2:(ν.filter λr=>decide (¬r=s)).count s=0:=xdS.2 zI;rw[c1,c2,xae ⟨rfl,QR⟩]
   have:(ν.filter λr=>decide (¬r=x)).count s=ν.count s:=List.count_filter (by simpa using e1);rw[this,xac (λh=>e1 h.1)];rfl
  refine aI.bR (k:=x) jO jS.dO (.tail _ (.tail _ (xaa _ (.tail _ (.head _))))) (pL.2 hm) ?_;refine ah.gtr (Br.F (Ld.q ?_));have wS:live K2.N x:=jS.wF hxm;by_cases CD:2<=x/\K2.hold x=65535
  ·have hKx:K.hold x=65535:=by
    have:=kL.hold x;rw[fB,xdS.2 hm]at this;omega
   refine ae.eq (args:=#[γ kp,δ x]) (pM cY wS CD.1 CD.2) (ah.iD ?_);rw[show decide ((8:Int)=0)=false from rfl];refine Bl cY jS.dO G4 kL.two QN λK3 C3 bi it kB hl=>?_;have gM:∀s,K3.hold s=K.hold s:=λs=>by
    have a:=hl.hold s;have b:=kL.hold s;rw[fB]at b;omega
   refine aQ.mk (.skip (.skip (.skip (.cv (.skip .tail) _)))) (.inr ⟨x,rfl,⟨K3,S2,C3,rfl,kB,⟨by rw[hl.n,kL.n,mo.n],by rw[hl.cap,kL.cap,mo.cap],gM,λg=>?_,λr hr=>hfn r (rD r hr)⟩⟩,CD.1,hKx,by rw[<-hx];exact(hfn x (rD x zO)).symm⟩);constructor
   ·rintro⟨s,hs,rfl⟩;have μ:K.hold s≠0:=by rw[<-gM];exact hs
    exact⟨s,μ,hfn s (rD s μ)⟩
   rintro⟨s,hs,rfl⟩;exact⟨s,by show K3.hold s≠0;rw[gM];exact hs,(hfn s (rD s hs)).symm⟩
  refine ae.fq (args:=#[γ kp,δ x]) (nh cY (r:=x) wS (λh2=>by have:=cY.dU x;omega)) ?_;rintro w C3 ⟨rfl,K3,kB,m3⟩;refine ah.iD ?_;rw[show decide ((0:Int)=0)=true from rfl];refine fin K3 ν es C3 kB (λs d h=>by rw[<-m3.N];exact h) m3.n m3.cap jS.dO (λ_ h=>h) λs=>?_;rw[m3.hold,kL.hold,fB];split<;>omega
end
section
theorem Mb{t:Bool->Bool->Bool}{v:Nat}{fv:zV}{LB:Hp}(hLq:MA kp K0 S0 U θ ai bq bm t v fv LB)(ht:∀a,t a a=a)(hv:v<K0.n)(lY:WF K0.n (lv ai) K0.N)(p9:Interp K0.N S0)(j5:jY K0.n (lv ai))(lB:ax.Ord K0.n (lv ai) θ)(hf:∀s,K0.hold s=65535->live K0.N s)
 (hr:live K0.N r)(hS:yT kp K0 S0 U θ ai K S ν es ck C true)(hU:∀g,aE K0.n θ (λg=>g=QF t v (S0 r)) g->U g):
  Fc zQ 161 #[γ bq,δ r,iv (v:Int),fv] (LB++uZ bq kp bm true es ck C) (Yt kp K0 S0 U θ ai bq bm LB K S ν (QF t v (S0 r))):=by
 have fX:aW zQ 218=true:=by kernel_rfl
 have aiG:=hLq;obtain⟨f0,ai2,aoj,Tp,_⟩:=aiG;have hn:=hS.c6.n;refine aJ λg=>JM λb1 _ b3 _=>?_;refine Ld.q ?_;refine Ld.n ?_;refine ae.rq (mB hS.ks.rep (v:Int)) ?_;rw[xae zO];rintro w rfl;refine Ext.two λjx _=>(St.one (by exact .head _) rfl zI rfl ?_);intro bd _ mJ _;refine St.one (by exact .head _) rfl zI rfl ?_;intro AA _;refine St.one (by exact .head _) rfl zI rfl ?_;refine Ld.q ?_;refine aM.of rfl fX ?_;subst Tp;refine ae.fq (args:=#[δ r,γ b1,γ jx,γ mJ,γ b3,γ AA]) (Uo (b1:=b1) (b3:=b3) (jx:=jx) (mJ:=mJ) (AA:=AA) (bd:=bd) fX hLq ht hv lY p9 j5 lB hf _ r rfl K S ν es ck C true #[] 0 hr hS ⟨[],aI.empty,λ_ y hy=>by cases hy⟩ hU) ?_;rintro w H ⟨x,K',S',Φ,τ,bF,C',nS,abw,aby,rfl,rfl,pQ,_,hA,ho⟩;exact aQ.mk (.skip (.skip (.skip (.skip (.skip .tail))))) ⟨x,K',S',Φ,τ,bF,C',nS,rfl,rfl,pQ,hA,λh=>(ho h).2⟩
abbrev UQ(b5:Nat)(b:Bool):Nat×Obj:=(b5,.cells #[.bool b] 4 zZ)
theorem F8{v b5:Nat}{b:Bool}{LB:Hp}(lY:WF K0.n (lv ai) K0.N)(p9:Interp K0.N S0)(j5:jY K0.n (lv ai))(hm:UQ b5 b∈LB):MA kp K0 S0 U θ ai bq bm (λx y=>if b then y else x) v (.func (.func 162) #[] #[γ b5]) LB:=by
 refine⟨_,_,_,rfl,by kernel_rfl,λr d hd kQ K S ν es ck C hS hU=>?_⟩;have hr:live K0.N r:=.inr ⟨d,hd⟩;have Tv:=lY.var hd;obtain⟨g1,g2,g3⟩:=gy (S:=S0) lY j5 p9 hr Tv (by rw[au hd];exact xai _) false;obtain⟨t1,t2,t3⟩:=gy (S:=S0) lY j5 p9 hr Tv (by rw[au hd];exact xai _) true;obtain⟨q1,q2⟩:=k8 (N:=K0.N) hd;rw[q1]at g1 g2 g3;rw[q2]at t1 t2 t3;subst kQ;refine aJ λg=>JL λb1 _=>?_;refine Ld.mk (v:=.bool b) (by exact .tail _ (xad _ hm)) rfl ?_;refine Br.mk (λhb=>?_) (λhb=>?_)
 ·subst hb;refine Ld.f ?_;refine aQ.mk .tail ⟨d.hi,K,S,ν,es,ck,C,true,rfl,rfl,hS,.refl,λ_=>⟨?_,.inl t2⟩⟩;rw[hS.c6.fn _ t2];exact funext t1
 subst hb;refine Ld.f ?_;refine aQ.mk .tail ⟨d.lo,K,S,ν,es,ck,C,true,rfl,rfl,hS,.refl,λ_=>⟨?_,.inl g2⟩⟩;rw[hS.c6.fn _ g2];exact funext g1
theorem ER{v b5:Nat}{e:Bool}{LB:Hp}(lY:WF K0.n (lv ai) K0.N)(p9:Interp K0.N S0)(j5:jY K0.n (lv ai))(lB:ax.Ord K0.n (lv ai) θ)(hf:∀s,K0.hold s=65535->live K0.N s)(hm:UQ b5 e∈LB)(h1:(b1,Obj.cells #[γ bq] 217 zZ)∈LB):
  MA kp K0 S0 U θ ai bq bm (λx y=>if e then x||y else x&&y) v (.func (.func 222) #[] #[γ b1,γ b5]) LB:=by
 refine⟨_,_,_,rfl,by kernel_rfl,λr d hd kQ K S ν es ck C hS hU=>?_⟩;have hr:live K0.N r:=.inr ⟨d,hd⟩;have Tv:=lY.var hd;obtain⟨g1,g2,g3⟩:=gy (S:=S0) lY j5 p9 hr Tv (by rw[au hd];exact xai _) false;obtain⟨t1,t2,t3⟩:=gy (S:=S0) lY j5 p9 hr Tv (by rw[au hd];exact xai _) true;obtain⟨q1,q2⟩:=k8 (N:=K0.N) hd;rw[q1]at g1 g2 g3;rw[q2]at t1 t2 t3;subst kQ;have eq:QF (λx y=>if e then x||y else x&&y) d.v (S0 r)=jf e S0 d.lo d.hi:=by
  funext x
  rw[ti,g1,t1];rfl
 rw[eq]at hU⊢;refine aJ λg=>IX λb _=>?_;refine Ld.mk (v:=γ bq) (by exact .tail _ (xad _ h1)) rfl ?_;refine Ld.f ?_;refine Ld.f ?_;refine Ld.mk (v:=.bool e) (by exact .tail _ (xad _ hm)) rfl ?_;refine ae.fq (args:=#[γ bq,δ d.lo,δ d.hi,.bool e]) (C:=uZ bq kp bm true es ck C) (Xf lY p9 j5 lB hf g2 t2 hS hU) ?_;rintro w H ⟨x,K',S',Φ,τ,bF,C',nS,rfl,rfl,pQ,hA,ho⟩;exact aQ.mk .tail ⟨x,K',S',Φ,τ,bF,C',nS,rfl,rfl,pQ,hA,ho⟩
end
section
abbrev rHp(b5 b3 b1:Nat)(b:Bool)(v r:Nat):Hp:=[UQ b5 b,(b3,.cells #[iv (v:Int)] 3 zZ),(b1,.cells #[δ r] 78 zZ)]
variable{LB H:Hp}{f:ax.Fn}{w:zV}
def pg.three(h:pg kp K S θ ai LB f w H):∃x b e,w=.tuple #[x,b,e]:=by
 rcases h with⟨x,K',S',C',rfl,_⟩|⟨rfl,_⟩
 ·exact⟨_,_,_,rfl⟩
 exact⟨_,_,_,rfl⟩
def pg.drop(h:pg kp K S θ ai LB f w H):∃C',aO H C'/\pg kp K S θ ai [] f w C':=by
 rcases h with⟨x,K',S',C',rfl,rfl,de,hg⟩|⟨rfl,⟨K',S',C',rfl,de,hk⟩,hn⟩
 ·exact⟨C',.right,.inl ⟨x,K',S',C',rfl,rfl,de,hg⟩⟩
 exact⟨C',.right,.inr ⟨rfl,⟨K',S',C',rfl,de,hk⟩,hn⟩⟩
def lg.Rh(h:lg kp K S θ ai LB f w H):∃x y z,w=.tuple #[x,y,z]:=by
 rcases h with h|⟨x,rfl,_⟩
 ·exact h.three
 exact⟨_,_,_,rfl⟩
def aQ.Zx(h:lg kp K S θ ai LB f w H):aQ (lg kp K S θ ai [] f) (.returned w) H:=by
 rcases h with h|⟨x,rfl,⟨K',S',C',rfl,de,hk⟩,h2⟩
 ·obtain⟨C',h1,h2⟩:=h.drop;exact aQ.mk h1 (.inl h2)
 exact aQ.mk .right (.inr ⟨x,rfl,⟨K',S',C',rfl,de,hk⟩,h2⟩)
theorem lp(hK:bS kp K S θ ai tr C){v:Nat}{b:Bool}(hr:live K.N r)(hv:v<K.n):
  Fc zQ 106 #[γ kp,δ r,iv (v:Int),.bool b] C (lg kp K S θ ai [] (λx=>S r (an.aC x v b))):=by
 have eq:QF (λx y=>if b then y else x) v (S r)=λx=>S r (an.aC x v b):=by
  funext x;unfold QF;cases b<;>rfl
 rw[<-eq];refine aJ λg=>KD λb1 _ b3 _ b5 _=>?_;refine ae.fq (args:=#[γ kp,.func (.func 160) #[] #[γ b1,γ b3,γ b5]]) (C:=rHp b5 b3 b1 b v r++C) (Ll (f:=QF (λx y=>if b then y else x) v (S r)) hK λK1 C1 dR mo=>⟨_,_,_,rfl,by kernel_rfl,λbq bm hQ=>?_⟩) ?_
 ·intro g;refine JN (R:=aQ _) ?_;unfold L160;refine Ld.q ?_;refine Ld.q ?_;have Qz:live K1.N r:=by rw[mo.N];exact hr
  refine ae.fq (args:=#[γ bq,δ r,iv (v:Int),.func (.func 162) #[] #[γ b5]]) (C:=rHp b5 b3 b1 b v r++uZ bq kp bm true #[] 0 C1)
   (Mb (F8 dR.ok.wf dR.ok.mid.int dR.ok.lv (b:=b) (.head _)) (λa=>by cases b<;>rfl) (by rw[mo.n];exact hv) dR.ok.wf dR.ok.mid.int dR.ok.lv dR.od (λs hs=>.inr (dR.ok.mid.held s zO)) Qz hQ (λg hg=>by rw[mo.n]at hg;exact aX (λg h=>.inr h) hg)) ?_
  intro w H hO;exact aQ.here hO
 intro w H hO;obtain⟨x,bb,e,rfl⟩:=hO.Rh;exact Ext.mk rfl (Ext.mk rfl (Ext.mk rfl (aQ.Zx hO)))
def qf(e:Bool)(v:Nat)(f:ax.Fn):ax.Fn:=QF (λx y=>if e then x||y else x&&y) v f
theorem yw(hK:bS kp K S θ ai tr C){v:Nat}{e:Bool}(hr:live K.N r)(hv:v<K.n):
  Fc zQ 163 #[γ kp,δ r,iv (v:Int),.bool e] C (lg kp K S θ ai [] (qf e v (S r))):=by
 refine aJ λg=>JK λb1 _ b3 _ b5 _=>?_;refine ae.fq (args:=#[γ kp,.func (.func 221) #[] #[γ b1,γ b3,γ b5]]) (C:=rHp b5 b3 b1 e v r++C) (Ll (f:=qf e v (S r)) hK λK1 C1 dR mo=>⟨_,_,_,rfl,by kernel_rfl,λbq bm hQ=>?_⟩) ?_
 ·intro g;refine IY (R:=aQ _) ?_;unfold L221;intro b2 _;refine Ld.q ?_;refine Ld.q ?_;refine Ld.q ?_;have Qz:live K1.N r:=by rw[mo.N];exact hr
  have hf1:∀s,K1.hold s=65535->live K1.N s:=λs hs=>.inr (dR.ok.mid.held s zO);refine ae.fq (args:=#[γ bq,δ r,iv (v:Int),.func (.func 222) #[] #[γ b2,γ b5]]) (C:=((b2,Obj.cells #[γ bq] 217 zZ)::rHp b5 b3 b1 e v r)++uZ bq kp bm true #[] 0 C1)
   (Mb (ER dR.ok.wf dR.ok.mid.int dR.ok.lv dR.od hf1 (e:=e) (.tail _ (.head _)) (.head _)) (λa=>by cases e<;>cases a<;>rfl) (by rw[mo.n];exact hv) dR.ok.wf dR.ok.mid.int dR.ok.lv dR.od hf1 Qz hQ (λg hg=>by rw[mo.n]at hg;exact aX (λg h=>.inr h) hg)) ?_
  rintro w H ⟨x,K',S',Φ,τ,bF,C',nS,rfl,rfl,pQ,hA,ho⟩;exact aQ.mk .tail ⟨x,K',S',Φ,τ,bF,C',nS,rfl,rfl,pQ,hA,ho⟩
 intro w H hO;obtain⟨x,bb,e,rfl⟩:=hO.Rh;exact Ext.mk rfl (Ext.mk rfl (Ext.mk rfl (aQ.Zx hO)))
end
end Go.Proofs
namespace Go.Sx
open Go
variable{P:Program}{g:Gh}{H:Hp}
section
def FcD(P:Program)(f:FuncId)(args:Array zV)(C:Hp)(Q:zV->Hp->Prop):Prop:=∀g,lf P g f args C (aQ Q)
def kJ.fn{f:FuncId}{args:Array zV}{C:Hp}{c:Hp->Hp}{Q:zV->Hp->Prop}{K:Hp->Prop}(hh:bE C H c)(hc:FcD P f args C Q)(hk:∀v C',Q v C'->K (c C')):kJ P g f args H K:=by intro w hw u;obtain⟨rfl,F,hp⟩:=hh.spec;have eX:Own g (C++F) w:=aO.perm (hp C) g w hw;refine((hc (g.add F)) w (Own.fD.1 eX) u).mono ?_;rintro e u' w' ⟨rfl,H',ho,v,C',rfl,he,hq⟩;have h1:Own g (H'++F) w':=Own.fD.2 ho;have h2:Own g (c H') w':=aO.perm (hp H').symm g w' h1;exact⟨rfl,c C',hh.dO he g w' h2,⟨v,rfl⟩,hk _ _ hq⟩
end
end Go.Sx
set_option maxRecDepth 100000
namespace Go.Proofs
open Go Go.Sx
section
open ax
section
variable {kp:Nat} {K:Kd} {θ ai tr:zL} {C:Hp} {S:Nat->ax.Fn}
def OG(h:bS kp K S θ ai tr C){r:Nat}(hr:r<4294967296)(hh:2<=r->K.hold r≠0):∀g,L85 g (γ kp) (δ r) C (aQ λv C'=>v=iv 0/\∃K',bS kp K' S θ ai [] C'/\AZ K K' r):=by
 have h0:=h;obtain⟨b,hC,hO⟩:=h.rep;intro g;unfold L85;refine ah.aK (Br.no λJ2 CJ=>?_);have fin:∀(K':Kd) C1,cX kp K' θ ai tr C1->Ok K' S (lv ai)->Idle K'->AZ K K' r->J2 [] C1:=λK' C1 de yF wT hm=>by
  refine CJ _ λgs=>?_;obtain⟨b',rfl,yL⟩:=de;refine Nil.γ (aj.mk (St.one (by exact .head _) rfl (by simp[uW.cells]) rfl ?_));have lB:Ord K'.n (lv ai) θ:=by rw[hm.n];exact h.od
  refine aQ.mk (mS:=({b' with vt:=.slice none 0 0,CR:=[]}:uW).hp kp K'.n) ?_ ⟨rfl,K',⟨⟨{b' with vt:=.slice none 0 0,CR:=[]},rfl,{yL with tr:=aL.nil}⟩,yF,lB,wT,trivial⟩,hm⟩;refine .cons (.cv (.cv (.cv (.cv (.cv (.cv .nil _) _) _) _) _) _)
 refine ah.nV (b:=1) (Br.dec (λh2=>?_) (λh2=>?_));rotate_left
 ·exact JE.mk (fin K C h.rep h.ok h.idle ⟨rfl,rfl,λ_ _ h=>h,λs=>by rw[xac zO]⟩)
 have lZ:2<=r:=by omega
 have p6:=hh lZ;obtain⟨d,hd⟩:=h.ok.mid.held r p6;have hfu:=h.ok.mid.fit hd;have Oe:=hO.ul;have hfit:r<K.ho.length:=by omega
 have hle:=h.dU r;refine ae.eq (wI h.rep hr (λs=>by have:=h.dU s;omega)) (ah.iD (Br.F ?_));subst hC;refine Nil.γ (aj.mk (Ld.f ?_));refine hO.ho.ld (x:=((K.hold r:Nat):Int)) (bM hfit) (bE.sub (.cons (.app (.app (.app .left))))) (ah.cj (b:=1) (hO.ho.mh (x:=((K.hold r-1:Nat):Int)) (.cons (.app (.app (.app .left)))) (by rw[av];exact hfit) λVr hhh=>?_));rw[fA]at hhh;have g1:∀s,(K.ho.set r (K.hold r-1)).getD s 0=if s=r then K.hold r-1 else K.hold s:=λs=>ia hfit
 have hM:=h.ok.mid.drop (r:=r) (cA:=K.ho.set r (K.hold r-1)) zO zI (by rw[g1,xae rfl];omega) (λs hs=>by rw[g1,xac hs]);have dR:cX kp {K with ho:=K.ho.set r (K.hold r-1)} θ ai tr (({b with CH:=Vr}:uW).hp kp K.n):=⟨_,rfl,{hO with ho:=hhh,ul:=by simp;exact Oe}⟩;have hho:∀s,(K.ho.set r (K.hold r-1)).getD s 0=if s=r/\2<=r then K.hold s-1 else K.hold s:=λs=>by
  rw[g1];by_cases e:s=r
  ·subst e;rw[xae rfl,xae ⟨rfl,lZ⟩]
  rw[xac e,xac (λh=>e h.1)]
 refine Nil.γ (aj.mk (Ld.f ?_));refine hhh.ld (x:=((K.hold r-1:Nat):Int)) (by rw[bM (by simpa using hfit),g1,xae rfl]) (bE.sub (.cons (.app (.app (.app .left))))) (ah.fc (b:=0) (Br.dec (λh3=>?_) (λh3=>?_)));rotate_left
 ·rw[xac zO]at hM;exact JE.mk (fin {K with ho:=K.ho.set r (K.hold r-1)} _ dR ⟨hM,h.ok.pos,h.ok.lv,h.ok.wf⟩ h.idle ⟨rfl,rfl,λ_ _ h=>h,hho⟩)
 rw[xae zO]at hM;refine Nil.γ (aj.mk ?_);have LS:j9 {K with ho:=K.ho.set r (K.hold r-1)} S iZ (ig zero' [r]):=hM.congr (λ_=>xcZ) λs _=>by
  unfold up ig zero';by_cases e:s=r
  ·subst e;simp
  simp[e,xa9 e]
 refine ae.fq (m4 (P0:=zero') dR LS h.ok.pos (λt TY h0=>?_) (h.bQ (.inr ⟨d,hd⟩)) (λs=>by have:=h.FM s;show K.use s<_;omega)) ?_
 ·by_cases e:t=r
  ·subst e;exact⟨d,hd⟩
  have h0':0<zero' t+[r].count t:=h0;simp[zero',xa9 e]at h0'
 rintro w C2 ⟨rfl,K2,cY,XQ,Vz,_,ej⟩;refine JE.mk (fin K2 _ cY ⟨XQ,Vz,by rw[ej.n];exact h.ok.lv,LF h.ok.wf XQ (λh=>ej.N h) ej.n⟩ (ej.idle h.idle) ⟨ej.n,ej.cap,λs e hs=>ej.N hs,λs=>?_⟩);show K2.ho.getD s 0=_;rw[ej.ho];exact hho s
def jg(h:bS kp K S θ ai tr C){r:Nat}(hr:r<4294967296)(hh:2<=r->K.hold r≠0):FcD zQ 85 #[γ kp,δ r] C (λv C'=>v=iv 0/\∃K',bS kp K' S θ ai [] C'/\AZ K K' r):=
 λg=>HU (OG h hr hh g)
end
end
section
open ax
section
variable {kp:Nat} {K:Kd} {S:Nat->ax.Fn} {θ ai tr:zL} {C:Hp}
def uX(B:Hp)(x:Nat):Rd zQ 105 #[δ x,.bool true,iv 0] B (· =.tuple #[δ x,iv 0]):=by exact aJ λg=>ru (ah.cM (Br.F (Un.not (Br.no (br.mk (.refl _) rfl)))))
def uY(B:Hp)(x:zV)(b:zV):Rd zQ 105 #[x,b,iv 9] B (· =.tuple #[δ 0,iv 9]):=by exact aJ λg=>ru (ah.cM (Br.T (br.mk (.refl _) rfl)))
def py(B:Hp)(x:Nat):Rd zQ 105 #[δ x,.bool false,iv 0] B (· =.tuple #[δ 0,iv 8]):=by exact aJ λg=>ru (ah.cM (Br.F (Un.not (Br.yes (br.mk (.refl _) rfl)))))
def y9(hK:bS kp K S θ ai tr C){v:Nat}(hv:v<K.n):Rd zQ 103 #[γ kp,iv (v:Int)] C (· =.tuple #[.int .u64 ((2^v:Nat):Int),.bool true]):=by have hn:=hK.bg.mq;refine aJ λg=>KF λJ hJ=>?_;apply ah.lss;rw[xan zO];refine Split.go rfl (ah.Bm (Split.go rfl (ae.eq (gY hK.rep) (ah.uo ?_))));rw[xan zO];refine aG.mk (aG.mk (JE.mk (hJ _ _ λgs=>Br.no ?_)));have h2:2^v<18446744073709551616:=xaP (xby zD (show v<64 by omega)) zD;refine ah.Dt (a:=1) (by simp[IntKind.bits];omega) (by rw[xa4];simpa[bI]using h2) ?_;rw[xa4];exact br.mk (.refl _) rfl
def s7(hK:bS kp K S θ ai tr C){Y:Hp}{mask:Nat}{vr:zV}{refs:zL}(hm:mask<2^K.n)(hr:di .u32 Y vr (iw refs))(hl:∀r∈refs,live K.N r)(cB:refs.length<=1048576):Rd zQ 104 #[γ kp,.int .u64 (mask:Int),vr] (Y++C) (· =iv 0):=by
 have hn:=hK.bg.mq;refine aJ λg=>KE (ah.aK (Br.no (ae.eq (gY hK.rep) ?_)));have LW:mask<18446744073709551616:=xaP hm (xaA (n:=2) zD hn);apply ah.iW (by simpa[bI]using LW);rw[xa0,xdy hm];refine ah.cM (Br.F (hr.bL ?_));rw[av];refine⟨λvs H=>∃i:Nat,vs=[iv (i:Int)]/\i<=refs.length/\H=Y++C,λvs _=>refs.length-bH vs 0,JE.mk ⟨0,rfl,xaL _,rfl⟩,?_⟩;rintro w7 H ⟨i,⟨⟩,hi,rfl⟩ gs;refine ah.eA (Br.dec (λη=>?_) (λη=>?_))
 ·have hlr:=hl _ (xaK η);apply hr.ld (n:=((refs[i]:Nat):Int)) (dk (xab η)) (λ_ h=>xad _ h);refine ae.eq (args:=#[γ kp,δ refs[i]]) (jc hK.rep (by have:=hK.bQ hlr;omega)) ?_;rw[cg.2 hlr];refine Ext.two λb15 _=>(St.whole (r:=got K.N refs[i]) (by exact .head _) rfl (aS _ _).1 (aS _ _).2 ?_);exact ah.cM (Br.F (ah.inc (aD.of .tail ⟨i+1,rfl,η,rfl⟩ (by simp only[bH];omega))))
 exact br.mk (.refl _) rfl
def pg.done{f:ax.Fn}{w:zV}{H:Hp}(h:pg kp K S θ ai [] f w H):(∃x,w=.tuple #[δ x,.bool true,iv 0]/\abU kp K S θ ai tr f (.tuple #[δ x,iv 0]) H)\/(w=.tuple #[δ 0,.bool false,iv 9]/\abU kp K S θ ai tr f (.tuple #[δ 0,iv 9]) H):=by
 rcases h with⟨x,K',S',C',rfl,rfl,de,hg⟩|⟨rfl,⟨K',S',C',rfl,de,hk⟩,hn⟩
 ·exact .inl ⟨x,rfl,.inl ⟨x,K',S',rfl,de,hg⟩⟩
 exact .inr ⟨rfl,.inr ⟨rfl,⟨K',S',[],de,.inl rfl,hk⟩,hn⟩⟩
def rY{n v:Nat}(hv:v<n):2^v<2^n:=xby zD hv
def v8(hK:bS kp K S θ ai tr C){r v:Nat}{b:Bool}(hr:live K.N r)(hv:v<K.n):
  Fc zQ 70 #[γ kp,δ r,iv (v:Int),.bool b] C (kH kp K S θ ai tr (λx=>S r (an.aC x v b))):=by
 refine aJ λg=>Pw (ae.eq (y9 hK hv) (Ext.two (ah.Bm (dh.and (a:=true) false (λ_=>Un.not ⟨rfl,rfl⟩) rfl λgs=>Br.no ?_))));refine aq.int (e:=78) zK zK zK λbs=>?_;refine ae.eq (args:=#[γ kp,.int .u64 ((2^v:Nat):Int),.slice (some ⟨bs,0,none⟩) 1 1]) (s7 (Y:=[(bs,Obj.cells (az .u32 [(r:Int)]) 78 zZ)]) (refs:=[r]) hK (rY hv) ((aL.made (T:=78) (kd:=.u32) (b:=bs) (iw [r])).ints) (λs hs=>by simp at hs;subst hs;exact hr) (by show 1<=1048576;omega)) (ah.cM (Br.F ?_));apply ae.fq (args:=#[γ kp,δ r,iv (v:Int),.bool b]) (lp hK hr hv);rintro w H (hO|⟨x,rfl,⟨K',S',C',rfl,de,hk⟩,h2,hfx,XN⟩);rotate_left
 ·exact Ext.mk rfl (Ext.mk rfl (Ext.mk rfl (ae.eq (py _ x) (Ext.mk rfl (Ext.mk rfl (aQ.mk .tail (.inr ⟨rfl,⟨K',S',[],de,.inl rfl,hk⟩,x,h2,hfx,XN⟩)))))))
 rcases hO.done (tr:=tr)with⟨x,rfl,hD⟩|⟨rfl,hD⟩
 ·exact Ext.mk rfl (Ext.mk rfl (Ext.mk rfl (ae.eq (uX _ x) (Ext.mk rfl (Ext.mk rfl (aQ.mk .tail (.inl hD)))))))
 exact Ext.mk rfl (Ext.mk rfl (Ext.mk rfl (ae.eq (uY _ _ _) (Ext.mk rfl (Ext.mk rfl (aQ.mk .tail (.inl hD)))))))
end
def Fits.mono{A B:ax.Fn->Prop}{cap:Nat}(h:∀g,A g->B g)(hB:Fits B cap):Fits A cap:=by
 classical
 obtain⟨ku,⟨l,h1,h2,h3⟩,hc⟩:=hB;refine⟨(l.filter λg=>decide (A g)).length,⟨l.filter λg=>decide (A g),h1.filter _,rfl,λg=>?_⟩,?_⟩
 ·rw[xb0,xaM,<-h3];exact⟨λx=>⟨h g x,x⟩,λx=>x.2⟩
 have:=xbU (λg=>decide (A g)) l;omega
def ω(mask n:Nat):zL:=(List.range n).filter λi=>mask.testBit i
def oZ(mask n:Nat):ω mask (n+1)=ω mask n++if mask.testBit n then [n]else []:=by unfold ω;rw[xbZ,xcb,xbz,List.filter_nil]
def nZ(e:Bool)(vs:zL)(f:ax.Fn):ax.Fn:=vs.foldl (λg v=>qf e v g) f
def DE(e:Bool)(vs:zL)(v:Nat)(f:ax.Fn):nZ e (vs++[v]) f=qf e v (nZ e vs f):=by unfold nZ;rw[xds];rfl
section
variable {kp:Nat} {K K':Kd} {S S':Nat->ax.Fn} {θ ai bU tr cC o:zL} {C C':Hp}
def jJ{n:Nat}{θ:zL}{f:ax.Fn}(hf:∀v,¬bW f v)(g:ax.Fn):¬aE n θ (λg=>g=f) g:=by rintro⟨l,hl,hg,hh⟩;rw[vi (l:=n) (λj _=>hf _) l zO g hg]at hh;exact hf _ hh
def gn.Ey{f:ax.Fn}{x:Nat}(h:gn K S K' S' f x)(hK:bS kp K S θ ai tr C)(de:bS kp K' S' θ ai cC C'):Fits (aE K.n θ (λg=>K.held S g\/g=f)) K.cap:=by
 have hc:=de.ok.size de.od;have hr:=de.ok.mid.room;have h2:=de.ok.mid.cap;rw[h.n]at hc;refine Fits.mono (λg hg=>?_) ⟨K'.used-2,hc,by rw[<-h.cap];omega⟩;have old:∀g,K.held S g->K'.held S' g:=λg ⟨s,hs,e⟩=>⟨s,by show K'.hold s≠0;have:K.hold s≠0:=hs;rw[h.hold];omega,by rw[h.fn s (.inr (hK.ok.mid.held s hs)),e]⟩;by_cases h2:2<=x
 ·refine aX (λg hg=>?_) hg;rcases hg with hg|rfl
  ·exact old g hg
  exact⟨x,by show K'.hold x≠0;rw[h.hold,xae ⟨rfl,h2⟩];omega,h.is.symm⟩
 rcases(mj g).1 hg with hg|hg
 ·exact aX old hg
 refine absurd hg (jJ (λv=>?_) g);rintro⟨y,hy⟩;rw[<-h.is]at hy;have hi:=de.ok.mid.int;obtain rfl|rfl:x=0\/x=1:=by omega
 ·exact hy (by rw[hi.zero,hi.zero])
 exact hy (by rw[hi.one,hi.one])
def cy(hK:bS kp K S θ ai tr C){r:Nat}(hl:live K.N r):2<=r↔∃v,bW (S r) v:=by
 constructor
 ·intro h2;obtain⟨d,hd⟩:∃d,K.N r=some d:=by
   rcases hl with hl|hl
   ·omega
   exact hl
  exact⟨d.v,gA hK.ok.wf hK.ok.lv hK.ok.mid.int hd⟩
 rintro⟨v,y,hy⟩;have hi:=hK.ok.mid.int;by_cases h2:2<=r
 ·exact h2
 exfalso;obtain rfl|rfl:r=0\/r=1:=by omega
 ·exact hy (by rw[hi.zero,hi.zero])
 exact hy (by rw[hi.one,hi.one])
end
section
variable {kp:Nat} {K:Kd} {S:Nat->ax.Fn} {θ ai tr:zL} {C:Hp}
def Co(kp:Nat)(K:Kd)(S:Nat->ax.Fn)(θ ai tr:zL)(e:Bool)(mask r:Nat)(w:zV)(H:Hp):Prop:=
 (∃x K' S',w=.tuple #[δ x,iv 0]/\bS kp K' S' θ ai [] H/\gn K S K' S' (nZ e (ω mask K.n) (S r)) x)\/
 (w=.tuple #[δ 0,iv 9]/\(∃K' S' cC,bS kp K' S' θ ai cC H/\(cC=[]\/cC=tr)/\Kept K S K' S')/\∃i,i<K.n/\mask.testBit i=true/\¬Fits (aE K.n θ (λg=>(K.held S g\/(ω mask i≠[]/\g=nZ e (ω mask i) (S r)))\/g=qf e i (nZ e (ω mask i) (S r)))) K.cap)
def ye(kp:Nat)(K:Kd)(S:Nat->ax.Fn)(θ ai tr:zL)(e:Bool)(mask r:Nat)(w:zV)(H:Hp):Prop:=
 Co kp K S θ ai tr e mask r w H\/(w=.tuple #[δ 0,iv 8]/\(∃K' S' cC,bS kp K' S' θ ai cC H/\(cC=[]\/cC=tr)/\Kept K S K' S')/\
  ((mask=0/\2<=r/\K.hold r=65535)\/∃i x,i<K.n/\mask.testBit i=true/\2<=x/\live K.N x/\S x=qf e i (nZ e (ω mask i) (S r))/\65534<=K.hold x/\((ω mask i≠[]/\S x=nZ e (ω mask i) (S r))\/K.hold x=65535)))
structure Way(K:Kd)(S:Nat->ax.Fn)(K1:Kd)(S1:Nat->ax.Fn)(ch:Bool)(cur:Nat):Prop where
 n:K1.n=K.n
 cap:K1.cap=K.cap
 N:∀s d,K.N s=some d->K1.N s=some d
 fn:∀s,live K.N s->S1 s=S s
 live:live K1.N cur
 hold:∀s,K1.hold s=K.hold s+if ch=true/\s=cur/\2<=cur then 1 else 0
def Vp(K:Kd)(S:Nat->ax.Fn)(θ:zL)(e:Bool)(mask r i:Nat):Prop:=Fits (aE K.n θ (λg=>(K.held S g\/(ω mask i≠[]/\g=nZ e (ω mask i) (S r)))\/g=qf e i (nZ e (ω mask i) (S r)))) K.cap
def MC(K:Kd)(S:Nat->ax.Fn)(e:Bool)(mask r i:Nat):Prop:=∃x,2<=x/\live K.N x/\S x=qf e i (nZ e (ω mask i) (S r))/\65534<=K.hold x/\((ω mask i≠[]/\S x=nZ e (ω mask i) (S r))\/K.hold x=65535)
def A0(K:Kd)(S:Nat->ax.Fn)(θ:zL)(e:Bool)(mask r i:Nat):Prop:=∀j,j<i->mask.testBit j=true->Vp K S θ e mask r j/\¬MC K S e mask r j
def uG(kp:Nat)(K:Kd)(S:Nat->ax.Fn)(θ ai tr:zL)(e:Bool)(mask r:Nat)(w:zV)(H:Hp):Prop:=
 (∃x K' S',w=.tuple #[δ x,iv 0]/\bS kp K' S' θ ai [] H/\gn K S K' S' (nZ e (ω mask K.n) (S r)) x/\(mask=0->¬(2<=r/\K.hold r=65535))/\A0 K S θ e mask r K.n)\/
 (w=.tuple #[δ 0,iv 9]/\(∃K' S' cC,bS kp K' S' θ ai cC H/\(cC=[]\/cC=tr)/\Kept K S K' S')/\∃i,i<K.n/\mask.testBit i=true/\¬Vp K S θ e mask r i/\A0 K S θ e mask r i)\/
 (w=.tuple #[δ 0,iv 8]/\(∃K' S' cC,bS kp K' S' θ ai cC H/\(cC=[]\/cC=tr)/\Kept K S K' S')/\((mask=0/\2<=r/\K.hold r=65535)\/∃i,i<K.n/\mask.testBit i=true/\MC K S e mask r i/\A0 K S θ e mask r i))
def uG.full{e:Bool}{mask r:Nat}{w:zV}{H:Hp}(h:uG kp K S θ ai tr e mask r w H):ye kp K S θ ai tr e mask r w H:=by
 rcases h with⟨x,K',S',e1,h1,h2,_⟩|⟨e1,h1,i,hi,hb,hf,_⟩|⟨e1,h1,h2|⟨i,hi,hb,⟨x,a,b,c,d,f⟩,_⟩⟩
 ·exact .inl (.inl ⟨x,K',S',e1,h1,h2⟩)
 ·exact .inl (.inr ⟨e1,h1,i,hi,hb,hf⟩)
 ·exact .inr ⟨e1,h1,.inl h2⟩
 exact .inr ⟨e1,h1,.inr ⟨i,x,hi,hb,a,b,c,d,f⟩⟩
theorem Um(hK:bS kp K S θ ai tr C){r mask:Nat}{e:Bool}(hr:live K.N r)(hm:mask<2^K.n):
  Fc zQ 107 #[γ kp,δ r,.int .u64 (mask:Int),.bool e] C (uG kp K S θ ai tr e mask r):=by
 have hn:=hK.bg.mq;have LW:mask<18446744073709551616:=xaP hm (xaA (n:=2) zD hn);have rD:∀s,K.hold s≠0->live K.N s:=λs hs=>.inr (hK.ok.mid.held s hs);refine aJ λg=>KC (aq.int (e:=78) zK zK zK λbs=>?_);refine ae.eq (args:=#[γ kp,.int .u64 (mask:Int),.slice (some ⟨bs,0,none⟩) 1 1]) (s7 (Y:=[(bs,Obj.cells (az .u32 [(r:Int)]) 78 zZ)]) (refs:=[r]) hK hm ((aL.made (T:=78) (kd:=.u32) (b:=bs) (iw [r])).ints) (λs hs=>by simp at hs;subst hs;exact hr) (by show 1<=1048576;omega)) (ah.cM (Br.F ?_));refine ah.fc (b:=0) (Br.dec (λh0=>?_) (λh0=>?_))
 ·subst h0;by_cases hfr:2<=r/\K.hold r=65535
  ·exact ae.eq (args:=#[γ kp,δ r]) (pM hK hr hfr.1 hfr.2) (ah.cM (Br.T (aQ.mk .tail (.inr (.inr ⟨rfl,⟨K,S,tr,hK,.inr rfl,.refl K S⟩,.inl ⟨rfl,hfr.1,hfr.2⟩⟩)))))
  refine ae.fq (args:=#[γ kp,δ r]) (nh hK (r:=r) hr (λh2=>by have:=hK.dU r;omega)) ?_;rintro w C1 ⟨rfl,K1,dR,mo⟩;refine ah.cM (Br.F (aQ.mk .tail (.inl ⟨r,K1,S,rfl,dR,⟨mo.n,mo.cap,λs d hd=>by rw[mo.N];exact hd,λ_ _=>rfl,by rw[mo.N];exact hr,?_,λs=>by rw[mo.hold];split<;>omega⟩,λ_=>hfr,λj hj hb=>by rw[xcG]at hb;cases hb⟩)));have:ω 0 K.n=[]:=by unfold ω;rw[xdo];intro a _;simp
  rw[this];rfl
 refine ae.eq (gY hK.rep) ?_;refine⟨λvs H=>∃(i cur:Nat) (ch:Bool) (K1:Kd) (S1:Nat->ax.Fn) (C1:Hp) (YG:zL),vs=[δ cur,.bool ch,iv (i:Int)]/\i<=K.n/\H=(bs,Obj.cells (az .u32 [(r:Int)]) 78 zZ)::C1/\bS kp K1 S1 θ ai YG C1/\
   (ch=decide (ω mask i≠[]))/\S1 cur=nZ e (ω mask i) (S r)/\Way K S K1 S1 ch cur/\(ch=true->YG=[])/\A0 K S θ e mask r i,λvs _=>K.n-bH vs 2,
  JE.mk ⟨0,r,false,K,S,C,tr,rfl,xaL _,rfl,hK,rfl,rfl,⟨rfl,rfl,λ_ _ h=>h,λ_ _=>rfl,hr,λs=>by rw[xac (λh=>by cases h.1)];rfl⟩,(λh=>by cases h),λj hj=>absurd hj (xb9 _)⟩,?_⟩
 rintro w16 w17 w18 H ⟨i,cur,ch,K1,S1,C1,YG,hvs,hi,rfl,dR,kM,ju,hw,fm,hD⟩ gs;simp only[xaw,xaW]at hvs;obtain⟨rfl,rfl,rfl⟩:=hvs;refine ah.eA (Br.dec (λη=>?_) (λη=>?_));rotate_left
 ·obtain rfl:i=K.n:=by omega
  have ξ:ω mask K.n≠[]:=λhb=>h0 (by
   apply xaV;intro j;rw[xcG];by_cases hj:j<K.n
   ·cases ht:mask.testBit j with
    |false=>rfl
    |true=>
     have:j∈ω mask K.n:=xb0.2 ⟨xaN.2 hj,ht⟩;rw[hb]at this;cases this
   exact xcf (xaP hm (xaA zD zO)))
  have hct:ch=true:=by rw[kM];exact xam ξ
  rw[fm hct]at dR;exact aQ.mk .tail (.inl ⟨cur,K1,S1,rfl,dR,⟨hw.n,hw.cap,hw.N,hw.fn,hw.live,ju,λs=>by rw[hw.hold];simp[hct]⟩,λh=>absurd h h0,hD⟩)
 intro J hJ;refine ah.iW (by simpa[bI]using LW) (ah.jU (b:=1) (by have:mask>>>i<=mask:=xbm _ _;simp[bI];omega) (by simp[bI]) ?_);have Oo:(mask>>>i) &&&1=(mask.testBit i).toNat:=by
  rw[xbX,xdb,xa0];have:mask/2^i%2<2:=xbJ _ zD;by_cases h:mask/2^i%2=1
  ·simp[h]
  have:mask/2^i%2=0:=by omega
  simp[this]
 rw[Oo];refine ah.fc (b:=0) ?_;cases ht:mask.testBit i with
 |false=>
  refine Br.T (JE.mk (hJ _ _ _ λgs=>?_));refine ah.inc ?_;have eb:ω mask (i+1)=ω mask i:=by rw[oZ,ht];simp
  exact aD.mk ⟨i+1,cur,ch,K1,S1,C1,YG,rfl,η,rfl,dR,by rw[eb];exact kM,by rw[eb];exact ju,hw,fm,λj hj hb=>by
    rcases xdQ.1 hj with h|rfl
    ·exact hD j h hb
    rw[ht]at hb;cases hb⟩ (by simp only[bH];omega)
 |true=>
  refine Br.F ?_;have eb:ω mask (i+1)=ω mask i++[i]:=by rw[oZ,ht];simp
  have hh1:∀s,K1.hold s≠0->live K1.N s:=λs hs=>.inr (dR.ok.mid.held s hs);refine ae.fq (args:=#[γ kp,δ cur,iv (i:Int),.bool e]) (yw dR hw.live (by rw[hw.n];exact η)) ?_;rintro w H ((⟨x,K2,S2,C2,rfl,rfl,cY,hg⟩|⟨rfl,⟨K2,S2,C2,rfl,cY,hk⟩,Γ⟩)|⟨x,rfl,⟨K2,S2,C2,rfl,cY,hk⟩,QR,hfx,XN⟩)
  ·refine Ext.mk rfl (Ext.mk rfl (Ext.mk rfl (ae.eq (uX _ x) (Ext.two λJ38 h38=>?_))));have fn2:∀s,live K.N s->S2 s=S s:=λs hs=>(hg.fn s (bC hw.N hs)).trans (hw.fn s hs);have hnew:Vp K S θ e mask r i/\¬MC K S e mask r i:=by
    constructor
    ·have h3:=hg.Ey dR cY;rw[hw.n,hw.cap,ju]at h3;refine Fits.mono (λg VE=>?_) h3;have old:∀g,K.held S g->K1.held S1 g:=λg ⟨s,hs,e⟩=>⟨s,by show K1.hold s≠0;have:K.hold s≠0:=hs;rw[hw.hold];omega,e.trans (hw.fn s (rD s hs)).symm⟩;by_cases h2:2<=cur
     ·refine aX (λg hh=>hh.imp (λhh=>?_) id) VE;rcases hh with hh|⟨hb,rfl⟩
      ·exact old g hh
      exact⟨cur,by show K1.hold cur≠0;rw[hw.hold,xae ⟨by rw[kM];exact xam hb,rfl,h2⟩];omega,ju.symm⟩
     rcases(mj g).1 VE with VE|VE
     ·rcases(mj g).1 VE with VE|VE
      ·exact aX (λg hh=>.inl (old g hh)) VE
      refine absurd (aX (λg hh=>hh.2) VE) (jJ (λv hv=>h2 ?_) g);rw[<-ju]at hv;exact(cy dR hw.live).2 ⟨v,hv⟩
     exact aX (λg hh=>.inr hh) VE
    rintro⟨x',lZ,hl',pQ,p6,hor⟩;obtain rfl:x'=x:=cY.ok.wf.same cY.ok.lv cY.ok.mid.int (bC hg.N (bC hw.N hl')) hg.live λy=>by rw[fn2 x' hl',pQ,hg.is,ju]
    have h1:=hg.hold x';rw[xae ⟨rfl,lZ⟩,hw.hold]at h1;have h3:=cY.dU x';rcases hor with⟨hb,hp⟩|hp
    ·have hxc:x'=cur:=dR.ok.wf.same dR.ok.lv dR.ok.mid.int (bC hw.N hl') hw.live λy=>by rw[hw.fn x' hl',hp,ju]
     rw[xae ⟨by rw[kM];exact xam hb,hxc,by omega⟩]at h1;omega
    split at h1<;>omega
   have hD':A0 K S θ e mask r (i+1):=λj hj hb=>by
    rcases xdQ.1 hj with h|rfl
    ·exact hD j h hb
    exact hnew
   have go:∀K3 C3,bS kp K3 S2 θ ai [] C3->Way K S K3 S2 true x->J38 [] ((bs,Obj.cells (az .u32 [(r:Int)]) 78 zZ)::C3):=λK3 C3 kB Xk=>by
    refine h38 _ λgs=>?_;refine ah.cM (Br.F (JE.mk (hJ _ _ _ λgs=>?_)));exact ah.inc (aD.mk ⟨i+1,x,true,K3,S2,C3,[],rfl,η,rfl,kB,by rw[eb];exact(xam zI).symm,by rw[hg.is,eb,DE,ju],Xk,λ_=>rfl,hD'⟩ (by simp only[bH];omega))
   cases ch with
   |false=>
    refine Br.no (JE.mk (go K2 H cY ⟨hg.n.trans hw.n,hg.cap.trans hw.cap,λs d hd=>hg.N s d (hw.N s d hd),fn2,hg.live,λs=>?_⟩));have a:=hw.hold s;rw[xac (λh=>by cases h.1)]at a;rw[hg.hold,a];simp
   |true=>
    have hlc:=hw.live;have hcc:2<=cur->K2.hold cur≠0:=λh2=>by rw[hg.hold,hw.hold,xae ⟨rfl,rfl,h2⟩];omega
    refine Br.yes (ae.fq (args:=#[γ kp,δ cur]) (nv cY (r:=cur) (by have:=dR.bQ hlc;omega) hcc) ?_);rintro w C3 ⟨rfl,K3,kB,f3⟩;have gM:∀s,K3.hold s=K.hold s+if s=x/\2<=x then 1 else 0:=λs=>by
     have a:=hw.hold s;simp only[xco]at a;rw[f3.hold,hg.hold,a];split<;>split<;>omega
    refine JE.mk (go K3 C3 kB ⟨by rw[f3.n,hg.n,hw.n],by rw[f3.cap,hg.cap,hw.cap],λs d hs=>kA hK.ok kB.ok (λs h=>by rw[gM];omega) (λs d d' h h'=>?_) _ s d hs (xai _),fn2,?_,λs=>by rw[gM];simp⟩)
    ·have a:=f3.N s d' h';rw[hg.N s d (hw.N s d h)]at a;exact(xbb a).symm
    by_cases h2:x<2
    ·exact .inl h2
    refine .inr (kB.ok.mid.held x ?_);rw[gM,xae ⟨rfl,by omega⟩];omega
  ·refine Ext.mk rfl (Ext.mk rfl (Ext.mk rfl (ae.eq (uY _ _ _) (Ext.two λJ38 h38=>?_))));have uR:∀g,K1.held S1 g->K.held S g\/(ω mask i≠[]/\g=nZ e (ω mask i) (S r)):=by
    rintro g ⟨s,hs,rfl⟩;have μ:K1.hold s≠0:=hs;by_cases hz:K.hold s=0
    ·right;rw[hw.hold,hz]at μ;by_cases hx:ch=true/\s=cur/\2<=cur
     ·refine⟨?_,by rw[hx.2.1];exact ju⟩;have:=hx.1;rw[kM]at this;exact xb5 this
     rw[xac hx]at μ;omega
    exact .inl ⟨s,hz,hw.fn s (rD s hz)⟩
   have Ee:¬Fits (aE K.n θ (λg=>(K.held S g\/(ω mask i≠[]/\g=nZ e (ω mask i) (S r)))\/g=qf e i (nZ e (ω mask i) (S r)))) K.cap:=λhfit=>Γ (by
    rw[hw.n,hw.cap,ju];exact Fits.mono (λg hg=>aX (λg h=>h.imp (uR g) id) hg) hfit)
   have go:∀K3 C3 Re,bS kp K3 S2 θ ai Re C3->Re=[]->(∀s,K3.hold s=K.hold s)->K3.n=K2.n->K3.cap=K2.cap->J38 [] ((bs,Obj.cells (az .u32 [(r:Int)]) 78 zZ)::C3):=λK3 C3 Re kB SX CC hn3 hc3=>by
    refine h38 _ λgs=>?_;refine ah.cM (Br.T ?_);have hfn:∀s,K.hold s≠0->S2 s=S s:=λs hs=>(hk.fn s (by rw[hw.hold];omega)).trans (hw.fn s (rD s hs));refine aQ.mk .tail (.inr (.inl ⟨rfl,⟨K3,S2,Re,kB,.inl SX,⟨by rw[hn3,hk.n,hw.n],by rw[hc3,hk.cap,hw.cap],CC,λg=>?_,hfn⟩⟩,i,η,ht,Ee,hD⟩));constructor
    ·rintro⟨s,hs,rfl⟩;have μ:K.hold s≠0:=by rw[<-CC];exact hs
     exact⟨s,μ,hfn s μ⟩
    rintro⟨s,hs,rfl⟩;exact⟨s,by show K3.hold s≠0;rw[CC];exact hs,(hfn s hs).symm⟩
   cases ch with
   |false=>
    refine Br.no (JE.mk (go K2 H [] cY rfl (λs=>?_) rfl rfl));rw[hk.hold,hw.hold,xac (λh=>by cases h.1)];rfl
   |true=>
    have hcc:2<=cur->K2.hold cur≠0:=λh2=>by rw[hk.hold,hw.hold,xae ⟨rfl,rfl,h2⟩];omega
    refine Br.yes (ae.fq (args:=#[γ kp,δ cur]) (nv cY (r:=cur) (by have:=dR.bQ hw.live;omega) hcc) ?_);rintro w C3 ⟨rfl,K3,kB,f3⟩;refine JE.mk (go K3 C3 [] kB rfl (λs=>?_) f3.n f3.cap);have a:=hw.hold s;simp only[xco]at a;rw[f3.hold,hk.hold,a];split<;>omega
  refine Ext.mk rfl (Ext.mk rfl (Ext.mk rfl (ae.eq (py _ x) (Ext.two λJ38 h38=>?_))));have wS:live K.N x:=rD x (by have:=hw.hold x;split at this<;>omega);have TR:S x=qf e i (nZ e (ω mask i) (S r)):=by rw[<-ju,<-XN];exact(hw.fn x wS).symm
  have ah1:65534<=K.hold x/\((ω mask i≠[]/\S x=nZ e (ω mask i) (S r))\/K.hold x=65535):=by
   have:=hw.hold x;by_cases hx:ch=true/\x=cur/\2<=cur
   ·rw[xae hx]at this;refine⟨by omega,.inl ⟨?_,?_⟩⟩
    ·have h1:=hx.1;rw[kM]at h1;exact xb5 h1
    rw[<-ju,<-hx.2.1];exact(hw.fn x wS).symm
   rw[xac hx]at this;exact⟨by omega,.inr zO⟩
  have go:∀K3 C3 Re,bS kp K3 S2 θ ai Re C3->Re=[]->(∀s,K3.hold s=K.hold s)->K3.n=K2.n->K3.cap=K2.cap->J38 [] ((bs,Obj.cells (az .u32 [(r:Int)]) 78 zZ)::C3):=λK3 C3 Re kB SX CC hn3 hc3=>by
   refine h38 _ λgs=>?_;refine ah.cM (Br.T ?_);have hfn:∀s,K.hold s≠0->S2 s=S s:=λs hs=>(hk.fn s (by rw[hw.hold];omega)).trans (hw.fn s (rD s hs));refine aQ.mk .tail (.inr (.inr ⟨rfl,⟨K3,S2,Re,kB,.inl SX,⟨by rw[hn3,hk.n,hw.n],by rw[hc3,hk.cap,hw.cap],CC,λg=>?_,hfn⟩⟩,.inr ⟨i,η,ht,⟨x,QR,wS,TR,ah1⟩,hD⟩⟩));constructor
   ·rintro⟨s,hs,rfl⟩;have μ:K.hold s≠0:=by rw[<-CC];exact hs
    exact⟨s,μ,hfn s μ⟩
   rintro⟨s,hs,rfl⟩;exact⟨s,by show K3.hold s≠0;rw[CC];exact hs,(hfn s hs).symm⟩
  cases ch with
  |false=>
   refine Br.no (JE.mk (go K2 H [] cY rfl (λs=>?_) rfl rfl));rw[hk.hold,hw.hold,xac (λh=>by cases h.1)];rfl
  |true=>
   have hcc:2<=cur->K2.hold cur≠0:=λh2=>by rw[hk.hold,hw.hold,xae ⟨rfl,rfl,h2⟩];omega
   refine Br.yes (ae.fq (args:=#[γ kp,δ cur]) (nv cY (r:=cur) (by have:=dR.bQ hw.live;omega) hcc) ?_);rintro w C3 ⟨rfl,K3,kB,f3⟩;refine JE.mk (go K3 C3 [] kB rfl (λs=>?_) f3.n f3.cap);have a:=hw.hold s;simp only[xco]at a;rw[f3.hold,hk.hold,a];split<;>omega
end
section
variable {kp:Nat} {K:Kd} {S:Nat->ax.Fn} {θ ai tr:zL} {C:Hp}
variable{mask r:Nat}
def Co.two{e:Bool}{w:zV}{H:Hp}(h:Co kp K S θ ai tr e mask r w H):∃x y,w=.tuple #[x,y]:=by
 rcases h with⟨x,K',S',rfl,_⟩|⟨rfl,_⟩
 ·exact⟨_,_,rfl⟩
 exact⟨_,_,rfl⟩
def ye.two{e:Bool}{w:zV}{H:Hp}(h:ye kp K S θ ai tr e mask r w H):∃x y,w=.tuple #[x,y]:=by
 rcases h with h|⟨rfl,_⟩
 ·exact h.two
 exact⟨_,_,rfl⟩
def Ug(hK:bS kp K S θ ai tr C)(hr:live K.N r)(hm:mask<2^K.n):
  Fc zQ 71 #[γ kp,δ r,.int .u64 (mask:Int)] C (uG kp K S θ ai tr true mask r):=by refine aJ λg=>Pv (ae.fq (Um hK hr hm) ?_);intro w H hO;obtain⟨x,y,rfl⟩:=hO.full.two;exact Ext.mk rfl (Ext.mk rfl (aQ.here hO))
def Ub(hK:bS kp K S θ ai tr C)(hr:live K.N r)(hm:mask<2^K.n):
  Fc zQ 72 #[γ kp,δ r,.int .u64 (mask:Int)] C (uG kp K S θ ai tr false mask r):=by refine aJ λg=>Pu (ae.fq (Um hK hr hm) ?_);intro w H hO;obtain⟨x,y,rfl⟩:=hO.full.two;exact Ext.mk rfl (Ext.mk rfl (aQ.here hO))
def One(p:Prop)(a:Nat):Prop:=(a=1/\p)\/(a=0/\¬p)
variable{S':Nat->ax.Fn}
def gn.one{K':Kd}{f:ax.Fn}{x:Nat}{cC:zL}{C':Hp}(h:gn K S K' S' f x)(de:bS kp K' S' θ ai cC C'){s:Nat}(hs:ax.live K.N s)(h2:2<=s):∃a,One (S s=f) a/\K'.hold s=K.hold s+a:=by
 have hfn:=h.fn s hs;by_cases e:s=x
 ·exact⟨1,.inl ⟨rfl,by rw[<-hfn,e];exact h.is⟩,by rw[h.hold,xae ⟨e,by omega⟩]⟩
 refine⟨0,.inr ⟨rfl,λhf=>e ?_⟩,by rw[h.hold,xac (λh=>e h.1)]⟩;exact de.ok.wf.same de.ok.lv de.ok.mid.int (bC h.N hs) h.live λy=>by rw[hfn,hf,h.is]
def VU(K:Kd)(S:Nat->ax.Fn)(θ:zL)(lo:ax.Fn):Prop:=Fits (aE K.n θ (λg=>K.held S g\/g=lo)) K.cap
def ZI(K:Kd)(S:Nat->ax.Fn)(θ:zL)(lo hi:ax.Fn):Prop:=Fits (aE K.n θ (λg=>(K.held S g\/g=lo)\/g=hi)) K.cap
def CF3(K:Kd)(S:Nat->ax.Fn)(θ:zL)(lo hi f:ax.Fn):Prop:=Fits (aE K.n θ (λg=>((K.held S g\/g=lo)\/g=hi)\/g=f)) K.cap
def YC(K:Kd)(S:Nat->ax.Fn)(lo:ax.Fn):Prop:=∃x,2<=x/\live K.N x/\S x=lo/\K.hold x=65535
def CU2(K:Kd)(S:Nat->ax.Fn)(lo hi:ax.Fn):Prop:=∃x a,2<=x/\live K.N x/\One (S x=lo) a/\S x=hi/\K.hold x+a=65535
def CU3(K:Kd)(S:Nat->ax.Fn)(lo hi f:ax.Fn):Prop:=∃x a b,2<=x/\live K.N x/\One (S x=lo) a/\One (S x=hi) b/\S x=f/\K.hold x+a+b=65535
def MF(kp:Nat)(K:Kd)(S:Nat->ax.Fn)(θ ai tr:zL)(lo hi f:ax.Fn)(w:zV)(H:Hp):Prop:=
 (∃x K' S',w=.tuple #[δ x,iv 0]/\bS kp K' S' θ ai [] H/\gn K S K' S' f x/\(VU K S θ lo/\¬YC K S lo)/\(ZI K S θ lo hi/\¬CU2 K S lo hi)/\CF3 K S θ lo hi f/\¬CU3 K S lo hi f)\/
 (w=.tuple #[δ 0,iv 9]/\(∃K' S' cC,bS kp K' S' θ ai cC H/\(cC=[]\/cC=tr)/\Kept K S K' S')/\
  (¬VU K S θ lo\/((VU K S θ lo/\¬YC K S lo)/\¬ZI K S θ lo hi)\/((VU K S θ lo/\¬YC K S lo)/\(ZI K S θ lo hi/\¬CU2 K S lo hi)/\¬CF3 K S θ lo hi f)))\/
 (w=.tuple #[δ 0,iv 8]/\(∃K' S' cC,bS kp K' S' θ ai cC H/\(cC=[]\/cC=tr)/\Kept K S K' S')/\
  (YC K S lo\/((VU K S θ lo/\¬YC K S lo)/\CU2 K S lo hi)\/((VU K S θ lo/\¬YC K S lo)/\(ZI K S θ lo hi/\¬CU2 K S lo hi)/\CU3 K S lo hi f)))
def One.uniq{p:Prop}{a b:Nat}(h:One p a)(h':One p b):a=b:=by
 rcases h with⟨rfl,h⟩|⟨rfl,h⟩<;>rcases h' with⟨rfl,h'⟩|⟨rfl,h'⟩
 ·rfl
 ·exact absurd h h'
 ·exact absurd h' h
 rfl
def gn.Bq{K':Kd}{f:ax.Fn}{x:Nat}{cC:zL}{C':Hp}(h:gn K S K' S' f x)(de:bS kp K' S' θ ai cC C'){s:Nat}(hs:ax.live K.N s)(h2:2<=s)(hf:S s=f):K.hold s<65535:=by
 obtain rfl:s=x:=de.ok.wf.same de.ok.lv de.ok.mid.int (bC h.N hs) h.live λy=>by rw[h.fn s hs,hf,h.is]
 have h1:=h.hold s;rw[xae ⟨rfl,h2⟩]at h1;have:=de.dU s;omega
def gn.more{K':Kd}{f:ax.Fn}{x:Nat}{cC:zL}{C':Hp}{P:ax.Fn->Prop}(h:gn K S K' S' f x)(hK:bS kp K S θ ai tr C)(de:bS kp K' S' θ ai cC C')(hF:Fits (aE K'.n θ (λg=>K'.held S' g\/P g)) K'.cap):Fits (aE K.n θ (λg=>(K.held S g\/g=f)\/P g)) K.cap:=by
 rw[h.n,h.cap]at hF;refine Fits.mono (λg hg=>?_) hF;have old:∀g,K.held S g->K'.held S' g:=λg ⟨s,hs,e⟩=>⟨s,by show K'.hold s≠0;have:K.hold s≠0:=hs;rw[h.hold];omega,e.trans (h.fn s (.inr (hK.ok.mid.held s hs))).symm⟩;by_cases h2:2<=x
 ·refine aX (λg hh=>hh.imp (λhh=>?_) id) hg;rcases hh with hh|rfl
  ·exact old g hh
  exact⟨x,by show K'.hold x≠0;rw[h.hold,xae ⟨rfl,h2⟩];omega,h.is.symm⟩
 rcases(mj g).1 hg with hg|hg
 ·rcases(mj g).1 hg with hg|hg
  ·exact aX (λg hh=>.inl (old g hh)) hg
  refine absurd hg (jJ (λv hv=>h2 ?_) g);rw[<-h.is]at hv;exact(cy de h.live).2 ⟨v,hv⟩
 exact aX (λg hh=>.inr hh) hg
def abA(hK:bS kp K S θ ai tr C){v h:Nat}(hr:live K.N r)(hv:v<K.n)(hh:live K.N h):
  Fc zQ 73 #[γ kp,δ r,iv (v:Int),δ h] C (MF kp K S θ ai tr (λx=>S r (an.aC x v false)) (λx=>S r (an.aC x v true)) (λx=>if S h x then S r (an.aC x v true)else S r (an.aC x v false))):=by
 have u6:1<=2^K.n:=xer;have rD:∀s,K.hold s≠0->live K.N s:=λs hs=>.inr (hK.ok.mid.held s hs);refine aJ λg=>Pt (ae.eq (y9 hK hv) (Ext.two (ah.Bm (dh.and (a:=true) false (λ_=>Un.not ⟨rfl,rfl⟩) rfl λgs=>Br.no ?_))));refine aq.SH (e:=78) zK zK zK λbs=>?_;refine ae.rq (args:=#[γ kp,.int .u64 ((2^v:Nat):Int),.slice (some ⟨bs,0,none⟩) 2 2]) (s7 (Y:=[(bs,Obj.cells (az .u32 [(r:Int),(h:Int)]) 78 zZ)]) (refs:=[r,h]) hK (rY hv) ((aL.made (T:=78) (kd:=.u32) (b:=bs) (iw [r,h])).ints) (λs hs=>by
  simp only[xak,xaQ,xbi]at hs;rcases hs with rfl|rfl
  ·exact hr
  exact hh) (by show 2<=1048576;omega)) ?_
 rintro w rfl;refine ah.cM (Br.F (ae.fq (args:=#[γ kp,δ r,iv (v:Int),.bool false]) (lp hK hr hv) ?_));rintro w H (hO|⟨x,rfl,⟨K1,S1,C1,rfl,dR,hk⟩,QR,hfx,XN⟩);rotate_left
 ·exact Ext.mk rfl (Ext.mk rfl (Ext.mk rfl (ae.eq (py _ x) (Ext.two (ah.cM (Br.T (aQ.mk .tail (.inr (.inr ⟨rfl,⟨K1,S1,[],dR,.inl rfl,hk⟩,.inl ⟨x,QR,rD x zO,XN,hfx⟩⟩)))))))))
 rcases hO with⟨x1,K1,S1,C1,rfl,rfl,dR,g1⟩|⟨rfl,⟨K1,S1,C1,rfl,dR,hk⟩,Γ⟩;rotate_left
 ·exact Ext.mk rfl (Ext.mk rfl (Ext.mk rfl (ae.eq (uY _ _ _) (Ext.two (ah.cM (Br.T (aQ.mk .tail (.inr (.inl ⟨rfl,⟨K1,S1,[],dR,.inl rfl,hk⟩,.inl Γ⟩)))))))))
 refine Ext.mk rfl (Ext.mk rfl (Ext.mk rfl (ae.eq (uX _ x1) (Ext.two (ah.cM (Br.F ?_))))));have p1:VU K S θ (λx=>S r (an.aC x v false))/\¬YC K S (λx=>S r (an.aC x v false)):=⟨g1.Ey hK dR,λ⟨x,h2,hl,hx,h5⟩=>by have:=g1.Bq dR hl h2 hx;omega⟩;have Qz:=bC g1.N hr;have e1:S1 r=S r:=g1.fn r hr;have hh1:=bC g1.N hh;have l1:=g1.live;have fB:=g1.hold;have Tn:∀g,K1.held S1 g->K.held S g\/g=λx=>S r (an.aC x v false):=g1.held rD;refine ae.fq (args:=#[γ kp,δ r,iv (v:Int),.bool true]) (lp dR Qz (by rw[g1.n];exact hv)) ?_;intro w H hO;rw[e1]at hO;rcases hO with(⟨x2,K2,S2,C2,rfl,rfl,cY,g2⟩|⟨rfl,⟨K2,S2,C2,rfl,cY,hk⟩,Γ⟩)|⟨x,rfl,⟨K2,S2,C2,rfl,cY,hk⟩,QR,hfx,XN⟩;rotate_left
 ·refine Ext.mk rfl (Ext.mk rfl (Ext.mk rfl (ae.eq (uY _ _ _) (Ext.two (ah.cM (Br.T (kJ.fn (args:=#[γ kp,δ x1]) (.cons .here) (jg cY (r:=x1) (by have:=dR.bQ l1;omega) (λh2=>by rw[hk.hold,fB,xae ⟨rfl,h2⟩];omega)) ?_)))))));rintro w C3 ⟨rfl,K3,kB,f3⟩;have CC:∀s,K3.hold s=K.hold s:=λs=>by
   rw[f3.hold,hk.hold,fB];split<;>omega
  have hfn:∀s,K.hold s≠0->S2 s=S s:=λs hs=>(hk.fn s (by rw[fB];omega)).trans (g1.fn s (rD s hs));refine aQ.mk .tail (.inr (.inl ⟨rfl,⟨K3,S2,[],kB,.inl rfl,⟨by rw[f3.n,hk.n,g1.n],by rw[f3.cap,hk.cap,g1.cap],CC,λg=>?_,hfn⟩⟩,.inr (.inl ⟨p1,λhfit=>Γ ?_⟩)⟩))
  ·constructor
   ·rintro⟨s,hs,rfl⟩;have μ:K.hold s≠0:=by rw[<-CC];exact hs
    exact⟨s,μ,hfn s μ⟩
   rintro⟨s,hs,rfl⟩;exact⟨s,by show K3.hold s≠0;rw[CC];exact hs,(hfn s hs).symm⟩
  rw[g1.n,g1.cap];exact Fits.mono (λg hg=>aX (λg h=>h.imp (Tn g) id) hg) hfit
 ·refine Ext.mk rfl (Ext.mk rfl (Ext.mk rfl (ae.eq (py _ x) (Ext.two (ah.cM (Br.T ?_))))));have wS:live K.N x:=rD x (by have:=fB x;split at this<;>omega);obtain⟨a,ha,hka⟩:=g1.one dR wS QR;have TR:S x=λx=>S r (an.aC x v true):=by rw[<-XN];exact(g1.fn x wS).symm
  refine kJ.fn (args:=#[γ kp,δ x1]) (.cons .here) (jg cY (r:=x1) (by have:=dR.bQ l1;omega) (λh2=>by rw[hk.hold,fB,xae ⟨rfl,h2⟩];omega)) ?_;rintro w C3 ⟨rfl,K3,kB,f3⟩;have CC:∀s,K3.hold s=K.hold s:=λs=>by
   rw[f3.hold,hk.hold,fB];split<;>omega
  have hfn:∀s,K.hold s≠0->S2 s=S s:=λs hs=>(hk.fn s (by rw[fB];omega)).trans (g1.fn s (rD s hs));refine aQ.mk .tail (.inr (.inr ⟨rfl,⟨K3,S2,[],kB,.inl rfl,⟨by rw[f3.n,hk.n,g1.n],by rw[f3.cap,hk.cap,g1.cap],CC,λg=>?_,hfn⟩⟩,.inr (.inl ⟨p1,x,a,QR,wS,ha,TR,by omega⟩)⟩));constructor
  ·rintro⟨s,hs,rfl⟩;have μ:K.hold s≠0:=by rw[<-CC];exact hs
   exact⟨s,μ,hfn s μ⟩
  rintro⟨s,hs,rfl⟩;exact⟨s,by show K3.hold s≠0;rw[CC];exact hs,(hfn s hs).symm⟩
 refine Ext.mk rfl (Ext.mk rfl (Ext.mk rfl (ae.eq (uX _ x2) (Ext.two (ah.cM (Br.F ?_))))));have g2i:=g2.is;have p2:ZI K S θ (λx=>S r (an.aC x v false)) (λx=>S r (an.aC x v true))/\¬CU2 K S (λx=>S r (an.aC x v false)) (λx=>S r (an.aC x v true)):=⟨g1.more hK dR (g2.Ey dR cY),λ⟨x,a,h2,hl,ha,hx,h5⟩=>by
  obtain⟨a',dS,e⟩:=g1.one dR hl h2;have:=ha.uniq dS;have:=g2.Bq cY (bC g1.N hl) h2 (by rw[g1.fn x hl,hx]);omega⟩
 have hh2:=bC g2.N hh1;have l12:=bC g2.N l1;have l2:=g2.live;have gh:=g2.hold;have ahz:∀s,K1.hold s≠0->live K1.N s:=λs hs=>.inr (dR.ok.mid.held s hs);have aa2:∀g,K2.held S2 g->(K.held S g\/g=λx=>S r (an.aC x v false))\/g=λx=>S r (an.aC x v true):=λg hg=>(g2.held ahz g hg).imp (Tn g) id;have eh:S2 h=S h:=(g2.fn h hh1).trans (g1.fn h hh);have ex1:S2 x1=λx=>S r (an.aC x v false):=(g2.fn x1 l1).trans g1.is;have Tq:∀s,live K.N s->S2 s=S s:=λs hs=>(g2.fn s (bC g1.N hs)).trans (g1.fn s hs);apply ae.fq (args:=#[γ kp,δ h,δ x2,δ x1]) (AE cY hh2 l2 l12);intro w H hO;rw[eh,ex1,g2.is]at hO;rcases hO with(⟨x3,K3,S3,rfl,kB,g3⟩|⟨rfl,⟨K3,S3,Re,kB,_,hk⟩,Γ⟩)|⟨rfl,⟨K3,S3,Re,kB,_,hk⟩,x,QR,hfx,XN⟩
 ·apply Ext.two;have gM:=g3.hold;refine kJ.fn (args:=#[γ kp,δ x2]) (.cons .here) (jg kB (r:=x2) (by have:=cY.bQ l2;omega) (λh2=>by rw[gM,gh,xae ⟨rfl,h2⟩];omega)) ?_;rintro w C4 ⟨rfl,K4,Ou,f4⟩;have nJ:∀s,K4.hold s=K1.hold s+if s=x3/\2<=x3 then 1 else 0:=λs=>by
   rw[f4.hold,gM,gh];split<;>split<;>omega
  refine kJ.fn (args:=#[γ kp,δ x1]) (.cons .here) (jg Ou (r:=x1) (by have:=dR.bQ l1;omega) (λh2=>by rw[nJ,fB,xae ⟨rfl,h2⟩];omega)) ?_;rintro w C5 ⟨rfl,K5,LU,f5⟩;have oD:∀s,K5.hold s=K.hold s+if s=x3/\2<=x3 then 1 else 0:=λs=>by
   rw[f5.hold,nJ,fB];split<;>split<;>omega
  have wS:live K5.N x3:=by
   by_cases h2:x3<2
   ·exact .inl h2
   refine .inr (LU.ok.mid.held x3 ?_);rw[oD,xae ⟨rfl,by omega⟩];omega
  have ah3:∀s,live K.N s->S3 s=S s:=λs hs=>(g3.fn s (bC g2.N (bC g1.N hs))).trans (Tq s hs);refine aQ.mk .tail (.inl ⟨x3,K5,S3,rfl,LU,⟨by rw[f5.n,f4.n,g3.n,g2.n,g1.n],by rw[f5.cap,f4.cap,g3.cap,g2.cap,g1.cap],λs d hs=>kA hK.ok LU.ok (λs h=>by rw[oD];omega) (λs d d' h h'=>?_) _ s d hs (xai _),ah3,wS,g3.is,oD⟩,p1,p2,?_,?_⟩);rotate_left
  ·have h3:=g2.more dR cY (P:=λg=>g=λx=>if S h x then S r (an.aC x v true)else S r (an.aC x v false)) (g3.Ey cY kB);have h4:=g1.more hK dR (P:=λg=>(g=λx=>S r (an.aC x v true))\/g=λx=>if S h x then S r (an.aC x v true)else S r (an.aC x v false)) (Fits.mono (λg hg=>aX (λg h=>or_assoc.2 h) hg) h3);exact Fits.mono (λg hg=>aX (λg h=>or_assoc.1 h) hg) h4
  ·rintro⟨x,a,b,h2,hl,ha,hb,hx,h5⟩;obtain⟨a',dS,e1⟩:=g1.one dR hl h2;obtain⟨b',hb',e2⟩:=g2.one cY (bC g1.N hl) h2;rw[g1.fn x hl]at hb';have:=ha.uniq dS;have:=hb.uniq hb';have:=g3.Bq kB (bC g2.N (bC g1.N hl)) h2 (by rw[Tq x hl,hx]);omega
  have a:=f4.N s d' (f5.N s d' h');rw[g3.N s d (g2.N s d (g1.N s d h))]at a;exact(xbb a).symm
 ·apply Ext.two;have gM:=hk.hold;refine kJ.fn (args:=#[γ kp,δ x2]) (.cons .here) (jg kB (r:=x2) (by have:=cY.bQ l2;omega) (λh2=>by rw[gM,gh,xae ⟨rfl,h2⟩];omega)) ?_;rintro w C4 ⟨rfl,K4,Ou,f4⟩;have nJ:∀s,K4.hold s=K1.hold s:=λs=>by
   rw[f4.hold,gM,gh];split<;>omega
  refine kJ.fn (args:=#[γ kp,δ x1]) (.cons .here) (jg Ou (r:=x1) (by have:=dR.bQ l1;omega) (λh2=>by rw[nJ,fB,xae ⟨rfl,h2⟩];omega)) ?_;rintro w C5 ⟨rfl,K5,LU,f5⟩;have oD:∀s,K5.hold s=K.hold s:=λs=>by
   rw[f5.hold,nJ,fB];split<;>omega
  have hfn:∀s,K.hold s≠0->S3 s=S s:=λs hs=>(hk.fn s (by rw[gh,fB];omega)).trans (Tq s (rD s hs));refine aQ.mk .tail (.inr (.inl ⟨rfl,⟨K5,S3,[],LU,.inl rfl,⟨by rw[f5.n,f4.n,hk.n,g2.n,g1.n],by rw[f5.cap,f4.cap,hk.cap,g2.cap,g1.cap],oD,λg=>?_,hfn⟩⟩,.inr (.inr ⟨p1,p2,λhfit=>Γ ?_⟩)⟩))
  ·constructor
   ·rintro⟨s,hs,rfl⟩;have μ:K.hold s≠0:=by rw[<-oD];exact hs
    exact⟨s,μ,hfn s μ⟩
   rintro⟨s,hs,rfl⟩;exact⟨s,by show K5.hold s≠0;rw[oD];exact hs,(hfn s hs).symm⟩
  rw[g2.n,g2.cap,g1.n,g1.cap];exact Fits.mono (λg hg=>aX (λg h=>h.imp (aa2 g) id) hg) hfit
 apply Ext.two;have gM:=hk.hold;have wS:live K.N x:=rD x (by have:=gh x;have:=fB x;split at* <;>split at* <;>omega);obtain⟨a,ha,hka⟩:=g1.one dR wS QR;obtain⟨b,hb,hkb⟩:=g2.one cY (bC g1.N wS) QR;rw[g1.fn x wS]at hb;have TR:S x=λx=>if S h x then S r (an.aC x v true)else S r (an.aC x v false):=by rw[<-XN];exact(Tq x wS).symm
 refine kJ.fn (args:=#[γ kp,δ x2]) (.cons .here) (jg kB (r:=x2) (by have:=cY.bQ l2;omega) (λh2=>by rw[gM,gh,xae ⟨rfl,h2⟩];omega)) ?_;rintro w C4 ⟨rfl,K4,Ou,f4⟩;have nJ:∀s,K4.hold s=K1.hold s:=λs=>by
  rw[f4.hold,gM,gh];split<;>omega
 refine kJ.fn (args:=#[γ kp,δ x1]) (.cons .here) (jg Ou (r:=x1) (by have:=dR.bQ l1;omega) (λh2=>by rw[nJ,fB,xae ⟨rfl,h2⟩];omega)) ?_;rintro w C5 ⟨rfl,K5,LU,f5⟩;have oD:∀s,K5.hold s=K.hold s:=λs=>by
  rw[f5.hold,nJ,fB];split<;>omega
 have hfn:∀s,K.hold s≠0->S3 s=S s:=λs hs=>(hk.fn s (by rw[gh,fB];omega)).trans (Tq s (rD s hs));refine aQ.mk .tail (.inr (.inr ⟨rfl,⟨K5,S3,[],LU,.inl rfl,⟨by rw[f5.n,f4.n,hk.n,g2.n,g1.n],by rw[f5.cap,f4.cap,hk.cap,g2.cap,g1.cap],oD,λg=>?_,hfn⟩⟩,.inr (.inr ⟨p1,p2,x,a,b,QR,wS,ha,hb,TR,by omega⟩)⟩));constructor
 ·rintro⟨s,hs,rfl⟩;have μ:K.hold s≠0:=by rw[<-oD];exact hs
  exact⟨s,μ,hfn s μ⟩
 rintro⟨s,hs,rfl⟩;exact⟨s,by show K5.hold s≠0;rw[oD];exact hs,(hfn s hs).symm⟩
end
end
section
variable{n:Nat}
theorem C7(hn:n<=16)(B:Hp):Rd zQ 266 #[iv (n:Int)] B (· =iv ((an.wN n:Nat):Int)):=by
 refine aJ λg=>Ik ?_;have h1:1<<<n<=65536:=by rw[xa4];exact xaA (n:=2) zD hn
 refine ah.Dt (a:=1) (b:=n) (by simp[IntKind.bits];omega) (by simp[bI];omega) (ah.iW (b:=6) (by simp[bI];omega) (⟨_,_,_,rfl,rfl,?_⟩));refine br.mk (.refl _) ?_;have:1<<<n>>>6=2^n/64:=by rw[xa4,xa0]
 rw[this];congr 1;unfold an.wN;rw[Nat.max_def];split<;>split<;>omega
def LX(hn:n<=16)(B:Hp):Rd zQ 267 #[iv (n:Int)] B (· =.int .u64 ((an.dN n:Nat):Int)):=by
 refine aJ λg=>Ij (ah.uo (a:=n) (b:=6) (Br.dec (λh=>?_) (λh=>?_)))
 ·exact br.mk (.refl _) (by unfold an.dN;rw[xae h];rfl)
 have h1:2^n<=32:=xaA (n:=2) zD (by omega:n<=5);have h2:2^2^n<=2^32:=xaA zD h1;have h3:=xbx (2^n);apply ah.oc (a:=1) (b:=n);rw[xa4,xbl zO];apply ah.oc (a:=1);rw[xa4,xbl zO];exact ah.cj (b:=1) (br.mk (.refl _) (by unfold an.dN;rw[xac h]))
variable{ws:zL}
def N7(hn:n<=16)(hl:ws.length=an.wN n)(hw:∀w∈ws,w<18446744073709551616){w:Nat}(hg:ws[ws.length-1]? =some w):
  (nE w (an.dN n)=0)↔an.eU n ws:=by
 have key:∀w,w<18446744073709551616->(nE w (an.dN n)=0↔w<=an.dN n):=by
  intro w hw;constructor
  ·intro h;have:w&&&an.dN n=w:=by
    apply xaV;intro j;have:=xch (λx=>x.testBit j) h;simp only[dK,xcG]at this;rw[xbj];cases h1:w.testBit j<;>cases h2:(an.dN n).testBit j<;>simp_all
   rw[<-this];exact xda
  intro h;have:=an.xI h;unfold nE;rw[this,Nat.xor_self]
 constructor
 ·intro h;refine⟨hn,hl,λu hu=>?_⟩;by_cases h6:6<=n
  ·unfold an.dN;rw[xae h6];have:=hw u hu;omega
  have h1:ws.length=1:=by rw[hl,an.KQ zO]
  obtain⟨x,rfl⟩:=List.length_eq_one_iff.1 h1;simp at hg hu;subst hg;subst hu;exact(key _ (hw _ zI)).1 h
 intro h;exact(key w (hw w (xav hg))).2 (h.full w (xav hg))
variable{v:zV}{t:Tb}
def Ev{B:Hp}(ht:FC B v t):Rd zQ 268 #[v] B (· =.bool (decide (TF t))):=by
 obtain⟨tn,ws⟩:=t;obtain⟨s,rfl,hs,hw⟩:=ht;simp only at hs hw⊢;refine aJ λg=>Ii λb1 _ J hJ=>?_;have Γ:¬TF ⟨tn,ws⟩->JE J [.bool true] ((b1,.cells (Value.cells (.agg #[iv tn,s])) 175 zZ)::B):=λh=>
  JE.mk (hJ _ _ λgs=>Br.yes (br.mk .tail (by rw[xan h])))
 apply DR.self;refine aj.mk (Ld.mk zM rfl ?_);refine ah.lss (Br.dec (λh0=>Γ λh=>by have:=h.1;simp only at this;omega) (λh0=>?_));obtain⟨n,rfl⟩:∃n:Nat,tn=n:=⟨tn.toNat,by omega⟩;have hTF:TF ⟨(n:Int),ws⟩↔an.eU n ws:=by unfold TF;simp
 refine aj.mk (Ld.mk zM rfl ?_);refine ah.nV (b:=16) (aG.mk (Br.dec (λh1=>Γ λh=>by have:=(hTF.1 h).yz;omega) (λh1=>?_)));refine aj.mk (Ld.mk zM rfl ?_);apply hs.bL;refine aj.mk (Ld.mk zM rfl ?_);intro F;refine ae.eq (C7 zO B) (⟨(by repeat (first|exact aO.refl _|apply aO.cons|apply aO.skip|apply aO.cv|apply aO.dX)),?_⟩);rw[av];refine ah.Cu (aG.mk ?_);simp only[xaj];by_cases hl:ws.length=an.wN n
 case neg=>rw[show decide (ws.length≠an.wN n)=true by simp[hl]];exact Γ λh=>hl (hTF.1 h).len
 rw[show decide (ws.length≠an.wN n)=false by simp[hl]];refine JE.mk (hJ _ _ λgs=>Br.no ?_);have hpos:=an.ZM n;obtain⟨w,hg⟩:∃w,ws[ws.length-1]? =some w:=⟨_,xab zO⟩;apply DR.self;refine aj.mk (Ld.mk zM rfl ?_);refine aj.mk (Ld.mk zM rfl ?_);apply hs.bL;rw[av];refine ah.yp (b:=1) (by have:=an.yY (n:=n) zO;simp[bI];omega) zO (hs.ld (dk hg) zS ?_);refine aj.mk (Ld.mk zM rfl ?_);refine ae.eq (LX zO B) (⟨(by repeat (first|exact aO.refl _|apply aO.cons|apply aO.skip|apply aO.cv|apply aO.dX)),?_⟩);refine ah.E4 (by have:=hw w (xav hg);simpa[bI]using this) (by have:=an.sr n;simpa[bI]using this) (ah.fc (b:=0) (br.mk .tail ?_));congr 1;exact xb1.2 ((N7 zO hl hw hg).trans hTF.symm)
variable{ts:List Tb}
def Eu{B:Hp}(ht:jW B v ts)(cB:ts.length<2^62):Rd zQ 238 #[v] B (· =.bool (decide (∀t∈ts,TF t/\some t.n=ts.head?.map Tb.n))):=by
 refine aJ λg=>IJ (ht.bL ?_);refine⟨λvs H=>cc B H/\∃k:Nat,vs=[iv (k:Int)]/\k<=ts.length/\∀i t,i<k->ts[i]? =some t->TF t/\some t.n=ts.head?.map Tb.n,λvs _=>ts.length-bH vs 0,JE.mk ⟨.refl _,0,rfl,by omega,by omega⟩,?_⟩;rintro w H ⟨hg,k,⟨⟩,hk,aH⟩ gs;refine ah.eA (Br.dec (λη=>?_) (λη=>?_))
 ·obtain⟨t,nT⟩:∃t,ts[k]? =some t:=⟨_,xab η⟩;obtain⟨t0,Xq⟩:∃t,ts[0]? =some t:=⟨_,xab zO⟩;have hh:ts.head?.map Tb.n=some t0.n:=by rw[List.head?_eq_getElem?,Xq];rfl
  have htB:=ht.mono hg.sub;refine htB.ld nT (λ_ h=>h) λs hs=>?_;intro b1 _;refine St.p ?_ ?_
  ·obtain⟨a,c,rfl,_⟩:=hs.1.shape;simp[Value.oneCell']
  intro J hJ;have Γ:∀H',cc B H'->¬(TF t/\some t.n=ts.head?.map Tb.n)->JE J [.bool true] H':=λH' Fv h=>
   JE.mk (hJ _ _ λgs=>Br.yes (br.mk Fv.dO (by rw[xan];exact λhh=>h (hh t (xav nT)))))
  have VD:cc B ((b1,Obj.cells (List.toArray [iv t.n,s]) 175 zZ)::H):=.cons hg;refine DR.self (aB.q ?_);intro F;refine ae.eq (B:=H) (Ev ⟨s,rfl,hs⟩) (⟨.refl _,Un.not ?_⟩);by_cases hT:TF t
  case neg=>rw[xan hT];exact Br.yes (Γ _ VD λh=>hT h.1)
  rw[xam hT];apply Br.no;refine aj.mk (Ld.mk zM rfl ?_);apply htB.ldN Xq zS;refine ah.cM (aG.mk ?_);simp only[xaj];by_cases hn:t.n=t0.n
  case neg=>rw[xam hn];exact Γ _ VD λh=>hn (by have:=h.2;rw[hh]at this;simpa using this)
  rw[xan (by simpa using hn)];refine JE.mk (hJ _ _ λgs=>Br.no ?_);refine ah.inc (aD.mk ⟨VD,k+1,rfl,by omega,λi u hi hu=>?_⟩ (by simp[bH];omega));by_cases e:i=k
  ·subst e;rw[nT]at hu;cases hu;exact⟨hT,by rw[hh,hn]⟩
  exact aH i u zO hu
 apply br.mk hg.dO;rw[xam];intro t htm;obtain⟨i,hi,rfl⟩:=xbc.1 htm;exact aH i _ zO (xab hi)
def xe{B:Hp}{b:Nat}{s:zV}{T:TypeId}{fz:Nat×Nat}(hm:(b,Obj.cells #[iv t.n,s] T fz)∈B)(hw:Words B s t.ws):
  Rd zQ 238 #[.slice (some ⟨b,0,none⟩) 1 1] B (· =.bool (decide (TF t))):=
 (Eu (jW.one (cap:=0) hm hw) zI).mono λv H ⟨h1,h2⟩=>⟨h1,by rw[h2];congr 1;simp⟩
theorem ac9{B:Hp}(ht:FC B v t)(u:Int):Rd zQ 284 #[v,iv u] B (· =iv (if TF t then(if 0<=u/\u<t.n then 0 else 2)else 5)):=by
 obtain⟨s,rfl,hw⟩:=ht;refine aJ λg=>HV λb1 _=>?_;refine aB.q ?_;refine xE λb2=>?_;refine ae.rd .here (xe (by exact List.Mem.head _) (hw.mono zS)) ?_;rintro v rfl;apply Un.not;by_cases hT:TF t
 ·rw[xam hT,xae hT];refine Br.no (ah.lss (dh.or (decide (t.n<=u)) (λh=>?_) rfl ?_))
  ·refine aj.mk (Ld.mk zM rfl ?_);exact ah.geq ⟨rfl,rfl⟩
  intro gs;have hor:(decide (u<0)||decide (t.n<=u))=decide (¬(0<=u/\u<t.n)):=by
   by_cases h1:u<0<;>by_cases h2:t.n<=u<;>simp[h1,h2]<;>omega
  rw[hor];refine Br.dec (λh=>?_) (λh=>?_)
  ·exact br.mk (by repeat (first|exact aO.refl _|apply aO.cons|apply aO.skip|apply aO.cv|apply aO.dX)) (by rw[xac h])
  exact br.mk (by repeat (first|exact aO.refl _|apply aO.cons|apply aO.skip|apply aO.cv|apply aO.dX)) (by rw[xae (xdr.1 h)])
 rw[xan hT,xac hT];exact Br.yes (br.mk (by repeat (first|exact aO.refl _|apply aO.cons|apply aO.skip|apply aO.cv|apply aO.dX)) rfl)
variable{u:Nat}
def Au{i:Nat}(hu:u<64)(hi:i<18446744073709551616)(LN:i<9223372036854775808)(B:Hp):Rd zQ 237 #[iv (u:Int),iv (i:Int)] B
  (· =.int .u64 ((if 6<=u then(if(i>>>(u-6)).testBit 0 then 18446744073709551615 else 0)else an.mask u:Nat):Int)):=by
 refine aJ λg=>IK (ah.uo (a:=u) (b:=6) (Br.dec (λh=>?_) (λh=>?_)))
 ·refine bu.nat (by simpa[bI]using hi) (ah.yp (b:=6) (by simp[bI];omega) h (ah.iW (by simpa[bI]using hi) ?_));have hs:i>>>(u-6)<18446744073709551616:=xaC (xbm _ _) hi;refine ah.jU (b:=1) (by simpa[bI]using hs) zD (Un.agZ (by rw[an.gC];split<;>decide) ?_);apply br.mk (.refl _);rw[xae h,an.gC];split<;>rfl
 refine⟨λvs H=>H=B/\∃j:Nat,vs=[.int .u64 ((an.B1 u j:Nat):Int),iv (j:Int)]/\j<=64,λvs _=>64-bH vs 1,JE.mk ⟨rfl,0,rfl,by omega⟩,?_⟩;rintro w1 w2 H ⟨rfl,j,⟨⟩,hj⟩ gs;refine ah.eA (b:=64) (Br.dec (λη=>?_) (λη=>?_))
 ·refine ah.iW (by simp[bI];omega) ?_;have hs:j>>>u<64:=xaC (xbm _ _) η;refine ah.jU (b:=1) (by simp[bI];omega) zD ?_;have h1:j>>>u&&&1<=1:=by rw[an.gC];split<;>decide
  refine bu.q (ah.oc ?_);have h2:((j>>>u&&&1)<<<j)<18446744073709551616:=by
   rw[xcp]
   calc _<=1*2^j:=xaY _ h1
    _<2^64:=by rw[xdn];exact xby zD η
  rw[xbl h2];have h3:an.B1 u j<18446744073709551616:=xaP (an.BZ u j) (xaA (n:=2) zD hj);exact ah.Lt (by simpa[bI]using h3) (by simpa[bI]using h2) (ah.inc (aD.mk ⟨rfl,j+1,rfl,by omega⟩ (by simp[bH];omega)))
 have:j=64:=by omega
 subst this;exact br.mk (.refl _) (by rw[xac h];rfl)
theorem u4(hn:n<=16){fv:zV}{f:FuncId}{first cap:Array zV}(Tp:fv=.func (.func f) first cap)(fX:aW zQ f=true){F:Nat->Nat}(hF:∀i,i<an.wN n->F i<18446744073709551616){B:Hp}
 (hc:∀i:Nat,i<an.wN n->Rd zQ f (first++ #[iv (i:Int)]++cap) B (· =.int .u64 ((F i:Nat):Int))):
  Px zQ 233 #[iv (n:Int),fv] B (λv H=>FC H v ⟨n,(List.range (an.wN n)).map λi=>F i&&&an.dN n⟩):=by
 intro g;have hwl:=an.yY hn;refine IN (R:=aQ _) ?_;unfold L233;intro b1 _;refine ae.eq (C7 hn B) (cJ.ints (lJ hn).1 (lJ hn).2 λbw=>?_);refine Build.mk (cs:=[iv (n:Int),.slice (some ⟨bw,0,none⟩) (an.wN n) (an.wN n)]) zK λb8 _=>?_;refine St.q ?_;refine aj.mk (Ld.mk zM rfl ?_);refine aP.mk ?_;rw[range_zero (G:=λi=>F i&&&an.dN n)];refine⟨λvs H=>∃i:Nat,vs=[iv (i:Int)]/\i<=an.wN n/\H=(b8,.cells (List.toArray [iv (n:Int),.slice (some ⟨bw,0,none⟩) (an.wN n) (an.wN n)]) 175 zZ)::
   (bw,.cells (az .u64 (iw ((List.range (an.wN n)).map λk=>if k<i then F k&&&an.dN n else 0))) 33 zZ)::(b1,.cells #[iv 0,.slice none 0 0] 175 zZ)::B,
  λvs _=>an.wN n-bH vs 0,JE.mk ⟨0,rfl,by omega,rfl⟩,?_⟩
 rintro w H ⟨i,⟨⟩,hi,rfl⟩ gs;refine ah.eA (Br.dec (λη=>?_) (λη=>?_))
 ·refine DR.self ?_;refine aj.mk (Ld.mk zM rfl ?_);refine aM.of Tp fX ?_;refine ae.eq (hc i η) (⟨.refl _,?_⟩);refine ae.eq (LX hn B) (⟨.refl _,?_⟩);refine ah.jU (by simpa[bI]using hF i η) (by simpa[bI]using an.sr n) (ay.nat η ?_);refine St.ints (l:=iw _) (by exact .tail (.head _)) (by simpa using η) ?_;refine ah.inc ?_;rw[Ny η];exact aD.mk ⟨i+1,rfl,by omega,rfl⟩ (by simp[bH];omega)
 have:i=an.wN n:=by omega
 subst this;rw[Gc];refine aB.q ?_;refine St.q ?_;refine aB.q ?_;refine HT.mk (by repeat (first|exact cc.refl _|apply cc.cons|apply cc.app)) ⟨_,rfl,?_⟩;have:=Words.block (b:=bw) (cap:=an.wN n) (ws:=(List.range (an.wN n)).map λi=>F i&&&an.dN n) (T:=33) (fz:=(0,0)) (B:=(b8,.cells (List.toArray [iv (n:Int),.slice (some ⟨bw,0,none⟩) (an.wN n) (an.wN n)]) 175 zZ)::
  (bw,.cells (az .u64 (iw ((List.range (an.wN n)).map λi=>F i&&&an.dN n))) 33 zZ)::(b1,.cells (List.toArray [iv (n:Int),.slice (some ⟨bw,0,none⟩) (an.wN n) (an.wN n)]) 175 zZ)::B) (by exact .tail _ (.head _)) zI (λw hw=>by
   obtain⟨k,_,rfl⟩:=xal.1 hw;exact xaC xda (an.sr n))
 simpa using this
theorem TN{B:Hp}{pv pb pa s:zV}{i:Nat}{c:Bool}(hv:Go.Sx.At B pv [iv (u:Int)])(hb:Go.Sx.At B pb [.bool c])(ha:Go.Sx.At B pa [iv (n:Int),s])(hw:Words B s ws)(hf:an.eU n ws)(hu:u<n)(hi:i<an.wN n):
  Rd zQ 277 #[iv (i:Int),pv,pb,pa] B (· =.int .u64 ((an.sk ws u c i:Nat):Int)):=by
 intro g;have hn:=hf.yz;have hwl:=an.yY hn;refine H7 (R:=aQ _) ?_;unfold L277;refine Ld.at hv (λ_ h=>h) ?_;refine ah.uo (a:=u) (b:=6) (Br.dec (λh6=>?_) (λh6=>?_))
 ·have hp:2^(u-6)<=1024:=xaA (n:=2) zD (by omega:u-6<=10);refine Ld.at hv (λ_ h=>h) ?_;refine ah.yp (b:=6) (by simp[bI];omega) h6 (ah.Dt (a:=1) (by simp[IntKind.bits];omega) (by rw[xa4];simp[bI];omega) ?_);rw[xa4];refine ah.E4 (by simp[bI];omega) (by simp[bI];omega) ?_;have hand:=nD i (2^(u-6));intro J hJ;have adB:an.aC i (u-6) c<an.wN n:=by
   rw[an.KR zO]at hi⊢;exact an.gp hi zO
  have iz:JE J [iv ((an.aC i (u-6) c:Nat):Int)] B:=by
   refine JE.mk (hJ _ _ λgs=>?_);refine aj.at ha λq hq=>Ld.at hq (λ_ h=>h) ?_;have hg:ws[an.aC i (u-6) c]? =some (ws.getD (an.aC i (u-6) c) 0):=by rw[xab (by rw[hf.len];exact adB),xas,xab (by rw[hf.len];exact adB)];rfl
   refine hw.1.ld (dk hg) (λ_ h=>h) ?_;exact br.mk (.refl _) (by unfold an.sk;rw[xae h6])
  refine Ld.at hb (λ_ h=>h) ?_;cases c
  ·exact Br.no iz
  refine Br.yes (Ld.at hv (λ_ h=>h) ?_);refine ah.yp (b:=6) (by simp[bI];omega) h6 (ah.Dt (a:=1) (by simp[IntKind.bits];omega) (by rw[xa4];simp[bI];omega) ?_);rw[xa4];refine ah.Lt (by simp[bI];omega) (by simp[bI];omega) ?_;have e:nE i (2^(u-6))|||2^(u-6)=an.aC i (u-6) true:=by
   apply xaV;intro k;rw[xb7,dK,an.ak,xb4];by_cases e:k=u-6
   ·simp[e]
   simp[e,xa9 e]
  rw[e];exact iz
 have hp:2^u<=32:=xaA (n:=2) zD (by omega:u<=5);have hg:ws[i]? =some (ws.getD i 0):=by rw[xab (by rw[hf.len];exact hi),xas,xab (by rw[hf.len];exact hi)];rfl
 have hwi:=hw.2 _ (xav hg);have hm:=an.rY u;refine DR.self (Ld.at hv (λ_ h=>h) (Ld.at hv (λ_ h=>h) ?_));refine ah.Dt (a:=1) (b:=u) (by simp[IntKind.bits];omega) (by rw[xa4];simp[bI];omega) ?_;rw[xa4];refine ae.eq (Au (u:=u) (i:=0) zO zO zO B) ?_;rw[xac h6];refine⟨.refl _,?_⟩;refine Ld.at hb (λ_ h=>h) ?_;cases c
 ·refine Br.no (aj.at ha λq hq=>Ld.at hq (λ_ h=>h) ?_);refine hw.1.ld (dk hg) (λ_ h=>h) ?_;refine ah.E4 (by simpa[bI]using hwi) (by simpa[bI]using hm) (ah.oc ?_);have:=nD (ws.getD i 0) (an.mask u);exact ah.Lt (by simp only[bI];omega) (by simp only[bI];omega) (br.mk (.refl _) (by unfold an.sk;rw[xac h6];rfl))
 refine Br.yes (aj.at ha λq hq=>Ld.at hq (λ_ h=>h) ?_);refine hw.1.ld (dk hg) (λ_ h=>h) ?_;refine ah.jU (by simpa[bI]using hwi) (by simpa[bI]using hm) ?_;have h1:ws.getD i 0&&&an.mask u<=ws.getD i 0:=xci;refine ah.iW (by simp only[bI];omega) ?_;have h2:=xbm (ws.getD i 0&&&an.mask u) (2^u);exact ah.Lt (by simp only[bI];omega) (by simp only[bI];omega) (br.mk (.refl _) (by unfold an.sk;rw[xac h6];rfl))
theorem BO{B:Hp}{c:Bool}(ht:FC B v ⟨n,ws⟩)(hf:an.eU n ws)(hu:u<n):
  Px zQ 271 #[v,iv (u:Int),.bool c] B (λv H=>FC H v ⟨n,an.iU n ws u c⟩):=by
 obtain⟨s,rfl,hw⟩:=ht;refine aJ λg=>Ie λb1 _ b3 _ b5 _ b7 _=>?_;refine aj.mk (Ld.mk zM rfl ?_);refine ae.px (.cons .here) (u4 hf.yz rfl zK (F:=λi=>an.sk ws u c i) (λi hi=>?_) (λi hi=>?_)) ?_
 ·unfold an.sk;split
  ·by_cases h:an.aC i (u-6) c<ws.length
   ·rw[xas,xab h];exact hf.lt (xaK h)
   rw[xas,xaB zO];decide
  have hg:ws.getD i 0<2^64:=by rw[xas,xab (by rw[hf.len];exact hi)];exact hf.lt (xaK _)
  split
  ·refine xbM (n:=64) (xaC xci hg) (xaC (xbm _ _) (xaC xci hg))
  exact xbM (n:=64) (xaC (nD _ _) hg) (xbJ _ zD)
 ·exact TN (Go.Sx.At.block (l:=[iv (u:Int)]) zM) (Go.Sx.At.block (l:=[.bool c]) zM) (Go.Sx.At.block (l:=[iv (n:Int),s]) zM) (hw.mono zS) hf hu hi
 rintro v N ⟨s',rfl,eX⟩;refine St.p ?_ ?_
 ·have:=bT eX;simpa[Value.oneCell']using this
 refine aB.q ?_;exact HT.mk (by repeat (first|exact cc.refl _|apply cc.cons|apply cc.app)) ⟨s',rfl,eX.mono zS⟩
theorem KW{B:Hp}{c:Bool}(ht:FC B v ⟨n,ws⟩)(hf:an.eU n ws)(hu:u<n):
  Px zQ 279 #[v,iv (u:Int),.bool c] B (λr H=>∃v',r=.tuple #[v',iv 0]/\FC H v' ⟨n,an.iU n ws u c⟩):=by
 obtain⟨s,rfl,hw⟩:=ht;refine aJ λg=>HZ λb1 _ b3 _=>?_;refine aB.q ?_;refine ae.eq (ac9 (t:=⟨n,ws⟩) ⟨s,rfl,hw.mono zS⟩ (u:Int)) ?_;rw[xae (show TF ⟨(n:Int),ws⟩from⟨by simp,by simpa using hf⟩),xae ⟨by omega,by simp only;omega⟩];refine ah.cM (Br.F (aB.q ?_));refine ae.pq (BO (v:=.agg (List.toArray [iv (n:Int),s])) ⟨s,rfl,hw.mono zS⟩ hf hu) ?_;rintro v N ⟨s',rfl,eX⟩;refine St.p ?_ ?_
 ·have:=bT eX;simpa[Value.oneCell']using this
 refine aB.q ?_;exact HT.mk (by repeat (first|exact cc.refl _|apply cc.cons|apply cc.app)) ⟨_,rfl,s',rfl,eX.mono zS⟩
def EP{w j:Nat}(hj:j<8):((List.range (j+1)).map λi=>UInt8.ofNat (w>>>(8*i)))=((List.range j).map λi=>UInt8.ofNat (w>>>(8*i)))++[UInt8.ofNat (w>>>(8*j))]:=by rw[xbZ,xaz];rfl
def OS(l:List UInt8)(n:Nat):tF (l++[UInt8.ofNat n])=tF l++[[Value.int .u8 ((n%256:Nat):Int)]]:=by simp[tF]
def GH{B:Hp}(ht:FC B v t)(hl:t.ws.length<=4294967296):Rd zQ 280 #[v] B (· =A8 (an.iy t.ws)):=by
 obtain⟨s,rfl,hw⟩:=ht;refine aJ λg=>HY λb1 _=>?_;refine aj.mk (Ld.mk zM rfl ?_);apply hw.1.bL;rw[av];refine⟨λvs H=>∃(k:Nat) (v:zV) (C:Hp),vs=[v,iv (k:Int)]/\k<=t.ws.length/\H=C++B/\aU 5 1 v (tF (an.iy (t.ws.take k))) C,λvs _=>t.ws.length-bH vs 1,
  JE.of (.tail) ⟨0,_,[],rfl,by omega,rfl,aU.nil _ _⟩,?_⟩
 rintro w6 w7 H ⟨k,v,C,⟨⟩,hk,rfl,ho⟩ gs;refine ah.eA (Br.dec (λη=>?_) (λη=>?_))
 ·have hg:t.ws[k]? =some t.ws[k]:=xab η;have hwk:=hw.2 _ (xaK η);apply hw.1.ld (dk hg) zS;have Ξ:(tF (an.iy (t.ws.take k))).length=8*k:=by simp only[tF,xar,an.ud,xbI];omega
  refine⟨λvs H=>∃(j:Nat) (v:zV) (C:Hp),vs=[v,iv (j:Int)]/\j<=8/\H=C++B/\aU 5 1 v (tF (an.iy (t.ws.take k)++(List.range j).map λi=>UInt8.ofNat (t.ws[k]>>>(8*i)))) C,λvs _=>8-bH vs 1,
   JE.mk ⟨0,_,C,rfl,by omega,rfl,by simpa using ho⟩,?_⟩
  rintro w8 w9 H ⟨j,v,C,⟨⟩,hj,rfl,ho⟩ gs;refine ah.eA (b:=8) (Br.dec (λh8=>?_) (λh8=>?_))
  ·refine ah.yC (a:=8) (ah.iW (by simpa[bI]using hwk) (bu.aje (aq.int (e:=5) zK zK zK λxb=>?_)));refine ho.HK (A:=[_]) (r:=[Value.int .u8 (((t.ws[k]>>>(8*j))%256:Nat):Int)]) (by exact .head _) rfl (by simp[Value.oneCell']) ⟨[.int .u8 0],rfl,rfl⟩ (by simp only[tF,xar,xaf,xaF]at Ξ⊢;omega) (by simp only[tF,xar,xaf,xaF]at Ξ⊢;omega) λv' C' cA=>?_;refine ah.inc (aD.of .tail ⟨j+1,_,C',rfl,by omega,rfl,?_⟩ (by simp[bH];omega));rw[EP h8,<-xag,OS];exact cA
  have:j=8:=by omega
  subst this;refine ah.inc (aD.mk ⟨k+1,_,C,rfl,by omega,rfl,?_⟩ (by simp[bH];omega));rw[xa8 η,an.iy,List.flatMap_append];simpa[an.iy,an.lJ]using ho
 have:k=t.ws.length:=by omega
 subst this;rw[xa7]at ho;apply lT.own ho (λ_ h=>xad _ h);exact br.mk .right rfl
theorem abH{B:Hp}{b:Nat}{es:Array MapEntry}{ck:Nat}{m:List (List UInt8×zL)}(hE:gN n B es ck m)(ht:FC B v ⟨n,ws⟩)(hf:an.eU n ws):
  Fc zQ 278 #[.map (some b),v] ((b,.map es ck)::B) (λ_ H=>∃τ bF N,H=(b,.map τ bF)::(N++B)/\gN n (N++B) τ bF (A6 m ws)):=by
 obtain⟨s,rfl,hw⟩:=ht;refine aJ λg=>H6 λb1 _=>?_;refine DR.self (aB.q ?_);refine aB.q ?_;refine ae.eq (GH (t:=⟨n,ws⟩) ⟨s,rfl,hw⟩ (vj hf)) (⟨.refl _,?_⟩);refine hE.bt (b:=b) ⟨s,rfl,hw⟩ hf λτ bF Ek=>⟨_,.tail (.head _),?_⟩;exact aQ.mk (mS:=(b,.map τ bF)::([]++B)) .tail ⟨τ,bF,[],rfl,Ek⟩
theorem NL{B:Hp}{L:List (zL)}(ht:jW B v ts)(hL:ts=L.map λws=>⟨n,ws⟩)(hf:∀ws∈L,an.eU n ws)(cB:L.length<4611686018427387904):
  Fc zQ 272 #[v] B (λr H=>∃b es ck m N,r=.map (some b)/\H=(b,.map es ck)::(N++B)/\gN n (N++B) es ck m/\∀x,x∈m.map Prod.snd↔x∈L):=by
 have Ξ:ts.length=L.length:=by rw[hL];simp
 refine aJ λg=>Ic λb _=>?_;refine ht.bL ?_;rw[Ξ];refine⟨λvs H=>∃(k:Nat) (es:Array MapEntry) (ck:Nat) (m:List (List UInt8×zL)) (N:Hp),vs=[iv (k:Int)]/\k<=L.length/\H=(b,.map es ck)::(N++B)/\gN n (N++B) es ck m/\∀x,x∈m.map Prod.snd↔x∈L.take k,
  λvs _=>L.length-bH vs 0,JE.mk ⟨0,_,_,[],[],rfl,by omega,rfl,gN.empty _ _,by simp⟩,?_⟩
 rintro w H ⟨k,es,ck,m,N,⟨⟩,hk,rfl,hE,hm⟩ gs;refine ah.eA (Br.dec (λη=>?_) (λη=>?_))
 ·have hg:ts[k]? =some ⟨n,L[k]⟩:=by rw[hL,xaq,xab η];rfl
  have p7:=hf L[k] (xaK η);refine ht.ld hg zS λs hw=>?_;intro b2 _;refine St.p ?_ ?_
  ·have:=bT hw;simpa[Value.oneCell']using this
  refine aB.q ?_;refine ae.fq (abH hE ⟨s,rfl,hw.mono zS⟩ p7) ?_;rintro r C' ⟨τ,bF,N',rfl,Ek⟩;refine ah.inc (aD.of .tail ⟨k+1,τ,bF,A6 m L[k],N'++N,rfl,by omega,by rw[xag],by rw[xag];exact Ek,λx=>?_⟩ (by simp[bH];omega));rw[sR hE.2 p7,hm,xa8 η,xao,xaE]
 have:k=L.length:=by omega
 subst this;rw[xa7]at hm;exact aQ.here ⟨b,es,ck,m,N,rfl,rfl,hE,hm⟩
theorem Ep{B:Hp}{bm:Nat}{es:Array MapEntry}{ck:Nat}{m:List (List UInt8×zL)}(hm:(bm,Obj.map es ck)∈B)(hE:gN n B es ck m)(hu:u<n)(cB:m.length<4611686018427387904):
  Fc zQ 273 #[.map (some bm),iv (u:Int)] B (λr H=>∃b' τ bF m' N,r=.tuple #[.map (some b'),iv ((an.nodes n (m.map Prod.snd) u).length:Int)]/\H=(b',.map τ bF)::(N++B)/\gN n (N++B) τ bF m'/\
   ∀x,x∈m'.map Prod.snd↔∃t∈m.map Prod.snd,∃c,x=an.iU n t u c):=by
 refine aJ λg=>Ib ?_;intro b' _;refine .inr ⟨bm,es,ck,rfl,.tail _ hm,λbi _=>?_⟩;refine⟨λvs H=>∃(τ:Array MapEntry) (bF:Nat) (m':List (List UInt8×zL)) (seen:Array Nat) (N:Hp) (D:List (zL)),vs=[iv ((an.nodes n D u).length:Int)]/\
   H=(bi,.mapIter (some bm) ck seen ck)::(b',.map τ bF)::(N++B)/\gN n (N++B) τ bF m'/\(m.map Prod.snd).Perm (D++(bY es m seen).map Prod.snd)/\∀x,x∈m'.map Prod.snd↔∃t∈D,∃c,x=an.iU n t u c,
  λvs H=>match H with|(_,.mapIter _ _ seen _)::_=>(bY es m seen).length|_=>0,JE.mk ⟨_,_,[],_,[],[],rfl,rfl,gN.empty _ _,?_,by simp⟩,?_⟩
 ·rw[mU hE.1];simp
 rintro w H ⟨τ,bF,m',seen,N,D,⟨⟩,rfl,Ek,cZ,hmem⟩ gs;have hbm:∀{X:Hp},(bm,Obj.map es ck)∈X++B:=xaa _ hm;refine hE.1.next (.tail _ (.tail _ hbm)) (.head _) (λe x Ψ he hkey hval hstep aer hfind=>⟨_,.head _,?_⟩) (λGR=>?_)
 ·obtain⟨bs,ws⟩:=x;simp only at hval hkey;refine Ext.mk rfl (Br.yes (⟨bi,bm,ck,Ψ,e.born,ck,es,e,rfl,.head _,aer,.tail _ (.tail _ hbm),hfind,?_⟩));refine Ext.mk rfl ?_;have hx:(bs,ws)∈m:=by
   have h:=hstep.mem_iff.2 (xbA (a:=(bs,ws)));unfold bY at h;obtain⟨p,hp,nq⟩:=xal.1 h;rw[<-nq];exact(xdJ (xb0.1 hp).1).2
  obtain⟨hbs,hf⟩:=hE.2 _ hx;simp only at hbs hf;obtain⟨s,hes,hw⟩:=hval;rw[hes];have hone:=bT hw;intro b1 _;refine St.p (by simpa[Value.oneCell']using hone) ?_;refine aB.q ?_;refine ae.pq (B:=N++B) (KW (n:=n) (ws:=ws) ⟨s,rfl,hw.mono zS⟩ hf hu) ?_;rintro r N1 ⟨v1,rfl,s1,rfl,jQ⟩;have adL:=bT jQ;refine Ext.two λb2 _=>(St.p (by simpa[Value.oneCell']using adL) ?_);refine aB.q ?_;refine ae.pq (B:=N1++(N++B)) (KW (n:=n) (ws:=ws) ⟨s,rfl,hw.mono zS⟩ hf hu) ?_;rintro r N2 ⟨v2,rfl,s2,rfl,qm⟩;have adK:=bT qm;refine Ext.two λb3 _=>(St.p (by simpa[Value.oneCell']using adK) ?_);refine DR.self (aB.q ?_);refine aB.q ?_;have f1:=an.eH (v:=u) (ws:=ws) (b:=false) hf.yz;have f2:=an.eH (v:=u) (ws:=ws) (b:=true) hf.yz;refine ae.eq (B:=N2++(N1++(N++B))) (GH (t:=⟨n,an.iU n ws u false⟩) ⟨s1,rfl,jQ.mono zS⟩ (vj f1)) (⟨.refl _,?_⟩);refine ae.eq (B:=N2++(N1++(N++B))) (GH (t:=⟨n,an.iU n ws u true⟩) ⟨s2,rfl,qm⟩ (vj f2)) (⟨.refl _,?_⟩);intro J hJ;have BJ:(an.iy (an.iU n ws u false)≠an.iy (an.iU n ws u true))↔an.ι n ws u=true:=by
   simp only[an.ι,ne_eq,xaM];exact xeL ⟨λh=>f1.key_inj f2 h,λh=>by rw[h]⟩
  have iz:JE J [iv ((an.nodes n (D++[ws]) u).length:Int)] ((b3,.cells (List.toArray [iv (n:Int),s2]) 175 zZ)::(b2,.cells (List.toArray [iv (n:Int),s1]) 175 zZ)::
    (b1,.cells (List.toArray [iv (n:Int),s]) 175 zZ)::(bi,.mapIter (some bm) ck Ψ ck)::(b',.map τ bF)::(N2++(N1++(N++B)))):=by
   refine JE.mk (hJ _ _ λgs=>?_);refine DR.of (R:=(b3,.cells (List.toArray [iv (n:Int),s2]) 175 zZ)::(b2,.cells (List.toArray [iv (n:Int),s1]) 175 zZ)::[]) ?_ ?_
   ·exact .cons (.cons (λg w h=>(Own.left (B:=_) (A:=[]) h)))
   refine aB.q ?_;refine aB.q ?_;have tw:=Ek.mono (B':=N2++(N1++(N++B))) zS;refine tw.bt (b:=b') (ws:=an.iU n ws u false) ⟨s1,rfl,jQ.mono zS⟩ f1 λic iO QM=>⟨_,.tail (.tail (.tail (.tail (.head _)))),?_⟩;refine⟨.cons (.cons (λg w h=>(Own.left (B:=_) (A:=[]) h))),?_⟩;refine QM.bt (b:=b') (ws:=an.iU n ws u true) ⟨s2,rfl,qm⟩ f2 λpT rF hE4=>⟨_,.tail (.tail (.tail (.tail (.head _)))),?_⟩;refine aD.of (H':=(bi,.mapIter (some bm) ck Ψ ck)::(b',.map pT rF)::((N2++(N1++N))++B)) ?_ ⟨pT,rF,A6 (A6 m' (an.iU n ws u false)) (an.iU n ws u true),Ψ,N2++(N1++N),D++[ws],rfl,rfl,?_,?_,λx=>?_⟩ ?_
   ·refine .skip (.skip (.skip (.cons (.cons ?_))));intro g w h;rw[xag,xag];exact h
   ·rw[xag,xag];exact hE4
   ·refine cZ.trans ?_;refine(xbB D (hstep.map Prod.snd)).trans ?_;simp only[xay,xag,xaS,xbR];exact .refl _
   ·rw[sR QM.2 f2,sR tw.2 f1,hmem];constructor
    ·rintro((⟨t,ht,c,rfl⟩|rfl)|rfl)
     ·exact⟨t,by simp[ht],c,rfl⟩
     ·exact⟨ws,by simp,_,rfl⟩
     exact⟨ws,by simp,_,rfl⟩
    rintro⟨t,ht,c,rfl⟩;rcases xao.1 ht with ht|ht
    ·exact .inl (.inl ⟨t,ht,c,rfl⟩)
    simp at ht;subst ht;cases c
    ·exact .inl (.inr rfl)
    exact .inr rfl
   have:=hstep.length_eq;simp only[xax]at this⊢;omega
  refine ah.acV (Br.dec (λh=>?_) (λh=>?_))
  ·refine ah.Ce (b:=1) ?_ ?_
   ·have h1:=cZ.length_eq;simp only[xar,xaf]at h1;have h2:(an.nodes n D u).length<=D.length:=xbU _ _;simp[bI];omega
   have:(an.nodes n (D++[ws]) u).length=(an.nodes n D u).length+1:=by
    simp[an.nodes,xcb,BJ.1 h]
   rw[this]at iz;exact iz
  have:(an.nodes n (D++[ws]) u).length=(an.nodes n D u).length:=by
   have hd:an.ι n ws u=false:=by cases hh:an.ι n ws u;rfl;exact absurd (BJ.2 hh) h
   simp[an.nodes,xcb,hd]
  rw[this]at iz;exact iz
 refine Ext.mk rfl (Br.no ?_);rw[GR]at cZ;simp only[xcd,xaI]at cZ;refine aQ.mk (mS:=(b',.map τ bF)::(N++B)) .tail ⟨b',τ,bF,m',N,?_,rfl,Ek,λx=>?_⟩
 ·rw[an.kz cZ]
 rw[hmem];constructor
 ·rintro⟨t,ht,h⟩;exact⟨t,cZ.mem_iff.2 ht,h⟩
 rintro⟨t,ht,h⟩;exact⟨t,cZ.mem_iff.1 ht,h⟩
def No{B:Hp}(ht:jW B v ts)(cB:ts.length<2^62):Rd zQ 269 #[v] B (· =.bool (decide (∀t∈ts,TF t/\some t.n=ts.head?.map Tb.n))):=by
 intro g;apply Ih (R:=aQ _);unfold L269;apply ht.bL;refine⟨λvs H=>cc B H/\∃k:Nat,vs=[iv (k:Int)]/\k<=ts.length/\∀i t,i<k->ts[i]? =some t->TF t/\some t.n=ts.head?.map Tb.n,λvs _=>ts.length-bH vs 0,JE.mk ⟨.refl _,0,rfl,by omega,by omega⟩,?_⟩;rintro w H ⟨hg,k,hv,hk,aH⟩ gs;simp only[xaw,xaW]at hv;subst hv;refine ah.eA (Br.dec (λη=>?_) (λη=>?_))
 ·obtain⟨t,nT⟩:∃t,ts[k]? =some t:=⟨_,xab η⟩;obtain⟨t0,Xq⟩:∃t,ts[0]? =some t:=⟨_,xab zO⟩;have hh:ts.head?.map Tb.n=some t0.n:=by rw[List.head?_eq_getElem?,Xq];rfl
  have htB:=ht.mono hg.sub;refine htB.ld nT (λ_ h=>h) λs hs=>?_;intro b1 _;refine St.whole (r:=[iv t.n,s]) (by exact df.head _) rfl rfl ?_ ?_
  ·obtain⟨a,c,rfl,_⟩:=hs.1.shape;simp[Value.oneCell']
  intro J hJ;have Γ:∀H',cc B H'->¬(TF t/\some t.n=ts.head?.map Tb.n)->JE J [.bool true] H':=λH' Fv h=>
   JE.mk (hJ _ _ λgs=>Br.yes (br.mk Fv.dO (by rw[xan];exact λhh=>h (hh t (xav nT)))))
  have VD:cc B ((b1,Obj.cells (List.toArray [iv t.n,s]) 175 zZ)::H):=.cons hg;apply DR.self;apply aB.whole (r:=[iv t.n,s]) (by exact List.Mem.head _) rfl;intro F;apply ae.rd (B:=H) (.cons .here) (Ev ⟨s,rfl,hs⟩);rintro v rfl;refine⟨.refl _,Un.not ?_⟩;by_cases hT:TF t
  case neg=>rw[xan hT];exact Br.yes (Γ _ VD λh=>hT h.1)
  rw[xam hT];apply Br.no;refine aj.mk (Ld.mk zM rfl ?_);apply htB.ldN Xq zS;refine ah.cM (aG.mk ?_);simp only[xaj];by_cases hn:t.n=t0.n
  case neg=>rw[xam hn];exact Γ _ VD λh=>hn (by have:=h.2;rw[hh]at this;simpa using this)
  rw[xan (by simpa using hn)];refine JE.mk (hJ _ _ λgs=>Br.no ?_);refine ah.Ce (b:=1) (by simp[bI];omega) ?_;refine aD.mk ⟨VD,k+1,rfl,by omega,λi u hi hu=>?_⟩ (by simp[bH];omega);by_cases e:i=k
  ·subst e;rw[nT]at hu;cases hu;exact⟨hT,by rw[hh,hn]⟩
  exact aH i u zO hu
 apply br.mk hg.dO;rw[xam];intro t htm;obtain⟨i,hi,rfl⟩:=xbc.1 htm;exact aH i _ zO (xab hi)
def sJ(ts:List Tb):Prop:=∀t∈ts,TF t/\some t.n=ts.head?.map Tb.n
instance (ts:List Tb):Decidable (sJ ts):=by unfold sJ;infer_instance
def vV{B:Hp}(ht:jW B v ts)(cB:ts.length<2^62):Rd zQ 269 #[v] B (· =.bool (decide (sJ ts))):=No ht cB
def DL{L:List (zL)}(hf:∀ws∈L,an.eU n ws):sJ (L.map λws=>⟨n,ws⟩):=by
 intro t ht;obtain⟨ws,hws,rfl⟩:=xal.1 ht;refine⟨⟨by simp,by simpa using hf ws hws⟩,?_⟩;cases L with
 |nil=>simp at hws
 |cons a b=>rfl
def Lv(h:sJ ts)(ξ:ts≠[]):∃(n:Nat) (L:List (zL)),n<=16/\ts=L.map (λws=>⟨n,ws⟩)/\L≠[]/\∀ws∈L,an.eU n ws:=by
 cases ts with
 |nil=>exact absurd rfl ξ
 |cons t r=>
  have ht:=(h t zI).1;have hn:∀u∈t::r,u.n=t.n:=λu hu=>by have:=(h u hu).2;simpa using this
  refine⟨t.n.toNat,(t::r).map Tb.ws,ht.2.yz,?_,by simp,λws hws=>?_⟩
  ·rw[xbY]
   conv=>lhs;rw[<-xeN (t::r)]
   apply xbn;intro u hu;have h1:=hn u hu;have h2:=ht.1;obtain⟨un,uw⟩:=u;simp only[Function.comp,id]at h1⊢;congr 1;omega
  obtain⟨u,hu,rfl⟩:=xal.1 hws;have:=(h u hu).1.2;rwa [hn u hu]at this
end
end Go.Proofs
namespace ax
def Rm.tx(m:Rm):∀ls θ,m.dJ 0 ls θ=ls.take (m.dJ 0 ls θ).length
 | [],_=>rfl
 |c::cs,θ=>by
  by_cases hf:m.fit θ (0+c)=true
  ·have:=m.tx cs (fV θ (0+c));rw[dJ,xae hf,xax,xej,<-this,xa1]
  rw[dJ,xac hf];simp
def Rm.can(m:Rm)(θ ls:zL):Bool:=decide ((m.dJ 0 ls θ).length=ls.length)
def Rm.TZ(m:Rm){θ ls:zL}{i:Nat}(hi:i<(m.dJ 0 ls θ).length){l:Nat}(hl:ls[i]? =some l):m.fit (aA θ (ls.take i)) l=true:=by obtain⟨_,c,h1,h2⟩:=m.sn 0 ls θ i hi;rw[hl]at h1;cases h1;rw[m.tx,List.take_take,xcJ (xce hi),xa1]at h2;exact h2
def Rm.Ow(m:Rm){θ ls:zL}{l:Nat}(hl:ls[(m.dJ 0 ls θ).length]? =some l):m.fit (aA θ (ls.take (m.dJ 0 ls θ).length)) l=false:=by have:=m.wX 0 ls θ l hl;rw[xa1]at this;rw[<-m.tx];exact this
def Θ(a b:Nat):zL:=List.range' a (b-a)++(List.range' b (a-b)).reverse
def vX(a b:Nat):(Θ a b).length=(b-a)+(a-b):=by simp[Θ]
def RV{a b l n:Nat}(ha:a<n)(hb:b<n)(h:l∈Θ a b):l+1<n:=by
 unfold Θ at h;rcases xao.1 h with h|h
 ·rw[xew]at h;omega
 rw[List.mem_reverse,xew]at h;omega
def kW{α:Type}[DecidableEq α]:∀{l p:List α},l.Nodup->(∀x∈l,x∈p)->p.length<=l.length->l.Perm p
 | [],p,_,_,h=>by
  have:p=[]:=xcS.1 (by simpa using h);subst this;exact .refl _
 |x::t,p,hn,hs,hl=>by
  have hx:=hs x zI;have hp:=List.perm_cons_erase hx;have Ξ:(p.erase x).length=p.length-1:=List.length_erase_of_mem hx;have hpos:=List.length_pos_of_mem hx;refine(List.Perm.cons x (kW (xaX.1 hn).2 (λy hy=>?_) (by simp only[xax]at hl;omega))).trans hp.symm;refine(List.mem_erase_of_ne λe=>?_).2 (hs y (by simp[hy]));subst e;exact(xaX.1 hn).1 hy
end ax
set_option maxRecDepth 100000
namespace Go.Proofs
open Go Go.Sx
open ax
def D5{l:zL}(h:l.Nodup):(iw l).Nodup:=xbN.2 (h.imp λξ e=>ξ (Int.ofNat.inj e))
variable{p:List Int}
def tJ:o8 p↔p.Perm (iw (List.range p.length)):=by
 constructor
 ·intro h;refine(kW (D5 xbh) (λx hx=>?_) (by rw[av,xaF];exact xai _)).symm;obtain⟨k,hk,rfl⟩:=xal.1 hx;exact h k (xaN.1 hk)
 intro h v hv;exact h.mem_iff.2 (xal.2 ⟨v,xaN.2 hv,rfl⟩)
def U5(hn:p.Nodup)(h:∀x∈p,0<=x/\x<(p.length:Int)):o8 p:=by refine tJ.2 (kW hn (λx hx=>?_) (by rw[av,xaF];exact xai _));obtain⟨h1,h2⟩:=h x hx;exact xal.2 ⟨x.toNat,xaN.2 zO,by show((x.toNat:Nat):Int)=x;omega⟩
def U6(h:o8 p){x:Int}(hx:x∈p):0<=x/\x<(p.length:Int):=by have:=(tJ.1 h).mem_iff.1 hx;obtain⟨k,hk,rfl⟩:=xal.1 this;have:=xaN.1 hk;show(0:Int)<=(k:Int)/\(k:Int)<_;omega
def E7(h:o8 p):p.Nodup:=(tJ.1 h).nodup_iff.2 (D5 xbh)
def RI{i n W:Nat}(hi:i<p.length)(hn:p[i]=(n:Int))(hw:n<W):((List.range W).map λk=>decide (((k:Nat):Int)∈p.take i)).set n true=(List.range W).map λk=>decide (((k:Nat):Int)∈p.take (i+1)):=by
 apply xba;intro j;rw[xa8 hi,hn];by_cases hj:j<W
 ·by_cases e:n=j
  ·subst e;rw[xbo (by simpa using hw)];simp[hw]
  rw[xbw e];simp only[xaq,xdH hj,xcj,xao,xaE];congr 1;have:¬((j:Nat):Int)=(n:Int):=by omega
  simp[this]
 rw[xaB zP,xaB zP]
def Nl{W:Nat}:List.replicate W false=(List.range W).map λk=>decide (((k:Nat):Int)∈p.take 0):=by
 apply xba;intro j;by_cases hj:j<W
 ·simp[hj]
 rw[xaB zP,xaB zP]
def s8{B:Hp}{v:zV}(h:di .i64 B v p)(cB:p.length<=70368744177664):Rd zQ 186 #[v] B (λr=>(r=iv 0/\o8 p/\p.length<=64)\/(r=iv 13/\o8 p/\64<p.length)\/(r=iv 4/\¬o8 p)):=by
 refine aJ λg=>Jo (h.bL (cJ.UJ zO λb=>h.bL ?_));rw[Nl (p:=p)];refine⟨λvs H=>∃i:Nat,vs=[iv (i:Int)]/\H=(b,.cells (fE ((List.range p.length).map λk=>decide (((k:Nat):Int)∈p.take i))) 4 zZ)::B/\i<=p.length/\(p.take i).Nodup/\∀x∈p.take i,0<=x/\x<(p.length:Int),λvs _=>p.length-bH vs 0,
  JE.mk ⟨0,rfl,rfl,xaL _,by simp,by simp⟩,?_⟩
 rintro w H ⟨i,⟨⟩,rfl,hi,fQ,hin⟩ gs;refine ah.eA (Br.dec (λη=>?_) (λη=>?_))
 ·apply h.ld (xab η) (λ_ h=>.tail _ h);obtain⟨x,hx⟩:∃x,p[i]=x:=⟨_,rfl⟩;have hxm:x∈p:=by rw[<-hx];exact xaK η
  rw[hx];have hB:=Fi.block (b:=b) (cap:=p.length) (l:=(List.range p.length).map λk=>decide (((k:Nat):Int)∈p.take i)) (T:=4) (fz:=(0,0)) (B:=(b,.cells (fE ((List.range p.length).map λk=>decide (((k:Nat):Int)∈p.take i))) 4 zZ)::B) (.head _) zI;rw[xar,xaF]at hB;refine ah.lss (dh.or (decide ((p.length:Int)<=x)) (λ_=>h.bL (ah.geq ⟨rfl,rfl⟩)) zI λgs=>?_);rw[<-xa6];refine dh.or (decide (x∈p.take i)) (λΓ=>?_) zI λgs=>?_
  ·have Ee:=xdj Γ;obtain⟨n,rfl⟩:∃n:Nat,x=n:=⟨x.toNat,by omega⟩;refine hB.ld (b:=decide (((n:Nat):Int)∈p.take i)) ?_ (λ_ h=>h) ⟨rfl,rfl⟩;rw[xaq,xdH zO];rfl
  rw[<-xa6];refine Br.dec (λaij=>br.mk .tail (.inr (.inr ⟨rfl,λha=>?_⟩))) (λad8=>?_)
  ·have h1:=U6 ha hxm;rcases aij with hb|hb
   ·omega
   have h2:=E7 ha;rw[<-xbs i p,xa3]at h2;refine h2.2.2 x hb x ?_ rfl;rw[xbt η,hx];exact .head _
  obtain⟨n,rfl⟩:∃n:Nat,x=n:=⟨x.toNat,by omega⟩;apply ay.nat zO;apply St.UJ (l:=(List.range p.length).map λk=>decide (((k:Nat):Int)∈p.take i)) (.head _) zP;rw[RI η hx zO];refine ah.inc (aD.mk ⟨i+1,rfl,rfl,η,?_,λx GN=>?_⟩ (by simp only[bH];omega))
  ·rw[xa8 η,hx,xa3];exact⟨fQ,by simp,λa ha b hb e=>by simp at hb;subst hb;subst e;exact ad8 (.inr ha)⟩
  rw[xa8 η,hx,xao,xaE]at GN;rcases GN with GN|rfl
  ·exact hin x GN
  omega
 obtain rfl:i=p.length:=by omega
 rw[xa7]at fQ hin;have aH:=U5 fQ hin;refine h.bL (ah.nV (b:=64) (Br.dec (λhg=>br.mk .tail (.inr (.inl ⟨rfl,aH,hg⟩))) (λhg=>br.mk .tail (.inl ⟨rfl,aH,by omega⟩))))
def Ni{B:Hp}{v:zV}{x:Int}(h:di .i64 B v p)(cB:p.length<4611686018427387904):Rd zQ 244 #[v,iv x] B (· =iv (if x∈p then((p.idxOf x:Nat):Int)else-1)):=by
 refine aJ λg=>IC (h.bL ?_);refine⟨λvs H=>∃i:Nat,vs=[iv (i:Int)]/\H=B/\i<=p.length/\x∉p.take i,λvs _=>p.length-bH vs 0,JE.mk ⟨0,rfl,rfl,xaL _,by simp⟩,?_⟩;rintro w H ⟨i,⟨⟩,rfl,hi,hq⟩ gs;refine ah.eA (Br.dec (λη=>?_) (λη=>?_))
 ·apply h.ld (xab η) (λ_ h=>h);refine ah.iD (Br.dec (λhe=>br.mk (.refl _) ?_) (λhe=>?_))
  ·rw[xae (by rw[he];exact xaK η),SO hq η he.symm]
  refine ah.inc (aD.of (.refl _) ⟨i+1,rfl,rfl,η,?_⟩ (by simp only[bH];omega));rw[xa8 η,xao,xaE];rintro(h|h)
  ·exact hq h
  exact he h
 apply br.mk (.refl _);rw[xcD zO]at hq;rw[xac hq]
def Yg{B:Hp}{v1 v2:zV}{p q:zL}{n:Nat}(h1:di .i64 B v1 (iw p))(h2:di .i64 B v2 (iw q))(hp:p.Perm (List.range n))(hq:q.Perm (List.range n))(hn:n<=64):Rd zQ 243 #[v1,v2] B (· =iv 0):=by
 have e1:p.length=n:=by rw[hp.length_eq,xaF]
 have e2:q.length=n:=by rw[hq.length_eq,xaF]
 refine aJ λg=>ID (ae.rq (s8 h1 (by rw[av];omega)) ?_);rintro v (⟨rfl,_,_⟩|⟨_,_,hl⟩|⟨_,Γ⟩);rotate_left
 ·rw[av]at hl;omega
 ·exact absurd (xL hp) Γ
 refine ae.rq (s8 h2 (by rw[av];omega)) ?_;rintro v (⟨rfl,_,_⟩|⟨_,_,hl⟩|⟨_,Γ⟩);rotate_left
 ·rw[av]at hl;omega
 ·exact absurd (xL hq) Γ
 refine ah.iD (dh.or false (λ_=>ah.iD ⟨rfl,rfl⟩) rfl λgs=>?_);refine dh.or false (λ_=>?_) rfl λgs=>Br.no ?_
 ·refine h1.bL (h2.bL (ah.Cu ⟨rfl,?_⟩));rw[av,av,xan zO]
 exact⟨.i64,0,0,rfl,rfl,br.mk (.refl _) rfl⟩
end Go.Proofs
namespace Go.Sx
open Go
variable{P:Program}{g:Gh}{H:Hp}
section
def aq.aac{t e:TypeId}{z:zV}{a b c d x y:zV}{K:zV->Hp->Prop}(h1:P.underlying t=some (.slice e))(h2:dm P e=some 2)(h3:fh P e=some z)
 (h:∀u,K (.slice (some ⟨u,0,Option.none⟩) 3 3) ((u,.cells (ψ [[a,b],[c,d],[x,y]]) e zZ)::H)):aq P t 3 [(0,.agg #[a,b]),(1,.agg #[c,d]),(2,.agg #[x,y])] H K:=by refine⟨ψ [[a,b],[c,d],[x,y]],e,2,z,h1,h2,h3,by decide,?_,λb _=>h b⟩;have e1:Array.range (3*2)=#[0,1,2,3,4,5]:=rfl;simp[Instr.fill,Value.cells,ψ,e1]
def aU.made{T:TypeId}{k b:Nat}(rs:List (List zV))(h:∀r∈rs,r.length=k):aU T k (.slice (some ⟨b,0,none⟩) rs.length rs.length) rs [(b,.cells (ψ rs) T zZ)]:=
 .inr ⟨b,[],by simp,by simp,by simpa using h⟩
end
end Go.Sx
namespace ax
open an
variable {n:Nat} {F:Nat->Nat} {ws us rs:zL}
def zG(n:Nat)(F:Nat->Nat):zL:=(List.range (wN n)).map λi=>F i&&&dN n
def tg(hn:n<=16):eU n (zG n F):=by refine⟨hn,by simp[zG],λw hw=>?_⟩;obtain⟨i,_,rfl⟩:=xal.1 hw;exact xda
def N8{x:Nat}(hx:x<2^n):bit (zG n F) x=(F (x/64)).testBit (x%64):=by
 have hi:=DY hx;unfold bit;have g9:(zG n F).getD (x/64) 0=F (x/64) &&&dN n:=by simp[zG,hi]
 rw[g9,xbj,mW];have hfb:decide (x%64<if 6<=n then 64 else 2^n)=true:=by
  rw[xaM];split
  ·exact xbJ _ zD
  have h1:2^n<=32:=xaA (n:=2) zD (by omega:n<=5);omega
 rw[hfb,xd2]
def xg{f:Fn}(h:∀x,x<2^n->(F (x/64)).testBit (x%64)=f x)(hf:∀x,f (x%2^n)=f x):nW n (zG n F)=f:=by
 funext x
 unfold nW;have hx:x%2^n<2^n:=xbJ _ (xbx n);rw[N8 hx,h _ hx,hf]
def BU(x:Nat):nW n ws (x%2^n)=nW n ws x:=by unfold nW;rw[Nat.mod_mod]
def vB{x:Nat}(hx:x<2^n):(ws.getD (x/64) 0).testBit (x%64)=nW n ws x:=by unfold nW bit;rw[xbl hx]
def DK{j:Nat}(hj:j<64):(18446744073709551615:Nat).testBit j=true:=by
 have:(18446744073709551615:Nat)=2^64-1:=by decide
 rw[this,xcW];simpa using hj
def WN{w j:Nat}(hw:w<18446744073709551616)(hj:j<64):(18446744073709551615-w).testBit j= !w.testBit j:=by
 have e:(18446744073709551615-w)=2^64-(w+1):=by
  have:(2:Nat)^64=18446744073709551616:=by decide
  omega
 rw[e,xem (by
  have:(2:Nat)^64=18446744073709551616:=by decide
  omega)]
 simp[hj]
end ax
set_option maxRecDepth 100000
namespace Go.Proofs
open Go Go.Sx
section
open ax
section
variable {B:Hp}
def kS(B:Hp)(v:zV)(n:Nat)(f:ax.Fn):Prop:=∃ws,FC B v ⟨n,ws⟩/\an.eU n ws/\nW n ws=f
variable{n:Nat}
def kS.mono{B B':Hp}{v:zV}{f:ax.Fn}(h:kS B v n f)(hs:∀x∈B,x∈B'):kS B' v n f:=let ⟨ws,h1,h2,h3⟩:=h;⟨ws,h1.mono hs,h2,h3⟩
def EI(hn:n<=16)(B:Hp):Rd zQ 232 #[iv (n:Int)] B (· =iv 0):=by exact aJ λg=>IP (ah.lss (Br.F (ah.nV (b:=16) (Br.F (br.mk (.refl _) rfl)))))
def FQ{b:Bool}{p:zV}{i:Int}(hb:Go.Sx.At B p [.bool b]):Rd zQ 234 #[iv i,p] B (· =.int .u64 (((if b then 18446744073709551615 else 0:Nat)):Int)):=by
 refine aJ λg=>IM (Ld.at hb (λ_ h=>h) ?_);cases b
 ·exact Br.no (br.mk (.refl _) rfl)
 exact Br.yes (br.mk (.refl _) rfl)
theorem y4(hn:n<=16)(b:Bool)(B:Hp):Px zQ 178 #[iv (n:Int),.bool b] B (λr H=>∃v,r=.tuple #[v,iv 0]/\kS H v n (λ_=>b)):=by
 refine aJ λg=>Jw λb1 _ b3 _=>?_;refine ae.eq (EI hn _) (ah.cM (Br.F (ae.pq (u4 hn rfl zK (F:=λ_=>if b then 18446744073709551615 else 0) (λi _=>by cases b<;>decide) (B:=(b1,.cells #[.bool b] 4 zZ)::B) λi _=>FQ (Go.Sx.At.block (l:=[.bool b]) zM)) ?_)));rintro v N ⟨s,rfl,hw⟩;refine St.p ?_ ?_
 ·have:=bT hw;simpa[Value.oneCell']using this
 refine aB.q ?_;refine HT.mk (by repeat (first|exact cc.refl _|apply cc.cons|apply cc.app)) ⟨_,rfl,_,⟨s,rfl,hw.mono zS⟩,tg hn,xg (λx hx=>?_) (λx=>rfl)⟩;cases b
 ·exact xcG _
 exact DK (xbJ _ zD)
def Q9{v i:Nat}{p:zV}(hv:v<64)(hi:i<9223372036854775808)(hb:Go.Sx.At B p [iv (v:Int)]):Rd zQ 236 #[iv (i:Int),p] B (· =.int .u64 ((if 6<=v then(if(i>>>(v-6)).testBit 0 then 18446744073709551615 else 0)else an.mask v:Nat):Int)):=by refine aJ λg=>IL (Ld.at hb (λ_ h=>h) ?_);exact ae.eq (Au hv zO hi B) (br.mk (.refl _) rfl)
theorem V8{v:Nat}(hn:n<=16)(hv:v<n)(B:Hp):Px zQ 181 #[iv (n:Int),iv (v:Int)] B (λr H=>∃t,r=.tuple #[t,iv 0]/\kS H t n (λx=>x.testBit v)):=by
 refine aJ λg=>Js λb1 _ b3 _=>?_;refine ae.eq (EI hn _) (ah.cM (Br.F (Ld.q ?_)));refine ah.lss ?_;rw[xan zO];refine dh.or (a:=false) false (λ_=>?_) rfl λgs=>Br.no ?_
 ·refine Ld.q ?_;exact ah.uo ⟨rfl,by rw[xan zO]⟩
 have hwl:=an.yY hn;refine ae.pq (u4 hn rfl zK (F:=λi=>if 6<=v then(if(i>>>(v-6)).testBit 0 then 18446744073709551615 else 0)else an.mask v) (λi _=>by
  have:=an.rY v;split
  ·split<;>decide
  exact this) (B:=(b1,.cells #[iv (v:Int)] 3 zZ)::B) λi hi=>Q9 zO zO (Go.Sx.At.block (l:=[iv (v:Int)]) zM)) ?_
 rintro w N ⟨s,rfl,hw⟩;refine St.p ?_ ?_
 ·have:=bT hw;simpa[Value.oneCell']using this
 refine aB.q ?_;refine HT.mk (by repeat (first|exact cc.refl _|apply cc.cons|apply cc.app)) ⟨_,rfl,_,⟨s,rfl,hw.mono zS⟩,tg hn,xg (λx hx=>?_) (λx=>?_)⟩
 ·have hj:x%64<64:=xbJ _ zD;have amm:x=64*(x/64)+x%64:=by omega
  by_cases h6:6<=v
  ·rw[xae h6];have e:x.testBit v=((x/64)>>>(v-6)).testBit 0:=by
    rw[xbK,xcB];have:=Nat.testBit_div_two_pow (n:=6) x (v-6);rw[show(2:Nat)^6=64 from rfl]at this;rw[this];congr 1;omega
   rw[e];cases ((x/64)>>>(v-6)).testBit 0
   ·exact xcG _
   exact DK hj
  rw[xac h6,an.gQ];have:=xbC x 6 v;rw[show(2:Nat)^6=64 from rfl]at this;rw[this];simp[hj];omega
 rw[xbC];simp[hv]
end
end
section
open ax
section
variable {B:Hp}
variable{n:Nat}{ws:zL}
def pR{i:Nat}(hf:an.eU n ws):ws.getD i 0<18446744073709551616:=by
 by_cases h:i<ws.length
 ·rw[xas,xab h];exact hf.lt (xaK h)
 rw[xas,xaB zO];decide
def sq{i:Nat}(hf:an.eU n ws)(hi:i<an.wN n):ws[i]? =some (ws.getD i 0):=by rw[xas,xab (by rw[hf.len];exact hi)];rfl
theorem Rg{p1 p2 p3 s1 s2 s3:zV}{i:Nat}{us rs:zL}(h1:Go.Sx.At B p1 [iv (n:Int),s1])(h2:Go.Sx.At B p2 [iv (n:Int),s2])(h3:Go.Sx.At B p3 [iv (n:Int),s3])(hw:Words B s1 ws)(hu:Words B s2 us)(hr:Words B s3 rs)(hf:an.eU n ws)(hg:an.eU n us)(hh:an.eU n rs)(hi:i<an.wN n):
  Rd zQ 239 #[iv (i:Int),p1,p2,p3] B (· =.int .u64 (((ws.getD i 0&&&us.getD i 0)|||((18446744073709551615-ws.getD i 0) &&&rs.getD i 0):Nat):Int)):=by
 have lw:=pR (i:=i) hf;have lu:=pR (i:=i) hg;have lr:=pR (i:=i) hh;refine aJ λg=>II (aj.at h1 λq hq=>Ld.at hq (λ_ h=>h) ?_);refine hw.1.ld (dk (sq hf hi)) (λ_ h=>h) ?_;refine aj.at h2 λq hq=>Ld.at hq (λ_ h=>h) ?_;refine hu.1.ld (dk (sq hg hi)) (λ_ h=>h) ?_;refine ah.jU (by simpa only[bI]using lw) (by simpa only[bI]using lu) (aj.at h1 λq hq=>Ld.at hq (λ_ h=>h) ?_);refine hw.1.ld (dk (sq hf hi)) (λ_ h=>h) ?_;refine Un.agA lw ?_;refine aj.at h3 λq hq=>Ld.at hq (λ_ h=>h) ?_;refine hr.1.ld (dk (sq hh hi)) (λ_ h=>h) ?_;exact ah.jU (by simp only[bI];omega) (by simpa only[bI]using lr) (ah.Lt (xaC xci (by simpa only[bI]using lw)) (xaC xci (by simp only[bI];omega)) (br.mk (.refl _) rfl))
def acU{bx:Nat}{s1 s2 s3:zV}{us rs:zL}(h1:Words B s1 ws)(h2:Words B s2 us)(h3:Words B s3 rs):jW ((bx,.cells (ψ [[iv (n:Int),s1],[iv (n:Int),s2],[iv (n:Int),s3]]) 175 zZ)::B) (.slice (some ⟨bx,0,none⟩) 3 3) [⟨n,ws⟩,⟨n,us⟩,⟨n,rs⟩]:=by
 refine⟨[[iv (n:Int),s1],[iv (n:Int),s2],[iv (n:Int),s3]],(Sl.iC (aU.made (T:=175) (k:=2) (b:=bx) _ zI) zD).mono λ_ h=>by simp at h;rw[h];exact .head _,rfl,λi r x hr hx=>?_⟩
 match i with
 |0=>simp at hr hx;subst hr;subst hx;exact⟨s1,rfl,h1.mono λ_ h=>.tail _ h⟩
 |1=>simp at hr hx;subst hr;subst hx;exact⟨s2,rfl,h2.mono λ_ h=>.tail _ h⟩
 |2=>simp at hr hx;subst hr;subst hx;exact⟨s3,rfl,h3.mono λ_ h=>.tail _ h⟩
 |i+3=>simp at hr
theorem Wb{v1 v2 v3:zV}{f1 f2 f3:ax.Fn}(h1:kS B v1 n f1)(h2:kS B v2 n f2)(h3:kS B v3 n f3):Px zQ 182 #[v1,v2,v3] B (λr H=>∃t,r=.tuple #[t,iv 0]/\kS H t n (λx=>if f1 x then f2 x else f3 x)):=by
 obtain⟨ws,⟨s1,rfl,hw⟩,hf,rfl⟩:=h1;obtain⟨us,⟨s2,rfl,hu⟩,hg,rfl⟩:=h2;obtain⟨rs,⟨s3,rfl,hr⟩,hh,rfl⟩:=h3;refine aJ λg=>Jr λb1 _ b3 _ b5 _ b7 _=>?_;refine aB.q ?_;refine aB.q ?_;refine aB.q ?_;refine aq.aac (e:=175) (z:=.agg #[iv 0,.slice none 0 0]) zK zK zK λbx=>?_;refine ae.rd .here (Eu (acU (n:=n) (hw.mono zS) (hu.mono zS) (hr.mono zS)) (by show 3<2^62;decide)) ?_;rintro w rfl;rw[xam (by
  intro t ht;simp only[xak,xaQ,xbi]at ht;rcases ht with rfl|rfl|rfl
  ·exact⟨⟨by simp,by simpa using hf⟩,rfl⟩
  ·exact⟨⟨by simp,by simpa using hg⟩,rfl⟩
  exact⟨⟨by simp,by simpa using hh⟩,rfl⟩)]
 refine Un.not (Br.no (Ld.f ?_));refine ae.pre (H':=(b7,.cells #[iv 0,.slice none 0 0] 175 zZ)::(b5,.cells #[iv (n:Int),s3] 175 zZ)::(b3,.cells #[iv (n:Int),s2] 175 zZ)::(b1,.cells #[iv (n:Int),s1] 175 zZ)::B) .tail ?_;have ol:∀i,(ws.getD i 0&&&us.getD i 0)|||((18446744073709551615-ws.getD i 0) &&&rs.getD i 0)<18446744073709551616:=λi=>
  xbM (n:=64) (xaC xci (pR hf)) (xaC xda (pR hh))
 refine ae.pq (u4 hf.yz rfl zK (F:=λi=>(ws.getD i 0&&&us.getD i 0)|||((18446744073709551615-ws.getD i 0) &&&rs.getD i 0)) (λi _=>ol i) (B:=(b5,.cells #[iv (n:Int),s3] 175 zZ)::(b3,.cells #[iv (n:Int),s2] 175 zZ)::(b1,.cells #[iv (n:Int),s1] 175 zZ)::B)
  λi hi=>Rg (Go.Sx.At.block (l:=[iv (n:Int),s1]) zM) (Go.Sx.At.block (l:=[iv (n:Int),s2]) zM) (Go.Sx.At.block (l:=[iv (n:Int),s3]) zM) (hw.mono zS) (hu.mono zS) (hr.mono zS) hf hg hh hi) ?_
 rintro w N ⟨s',rfl,eX⟩;refine St.p ?_ ?_
 ·have:=bT eX;simpa[Value.oneCell']using this
 refine aB.q ?_;refine HT.mk (by repeat (first|exact cc.refl _|apply cc.cons|apply cc.app)) ⟨_,rfl,_,⟨s',rfl,eX.mono zS⟩,tg hf.yz,xg (λx hx=>?_) (λx=>by rw[BU,BU,BU])⟩;rw[xb7,xbj,xbj,WN (pR hf) (xbJ _ zD),vB hx,vB hx,vB hx];cases nW n ws x<;>cases nW n us x<;>cases nW n rs x<;>rfl
end
end
end Go.Proofs
namespace Go.Sx
open Go
variable{P:Program}{g:Gh}{H C:Hp}{c:Hp->Hp}
section
def aU.E3{elem k bytes:Nat}{zero:zV}{v x:zV}{rs r2:List (List zV)}(h:aU elem k v rs C)(hh:bE C H c)(hx:Sl k H x r2)(h1:∀r∈r2,∀u∈r,u.oneCell'=true)(hz:∃z:List zV,zero.cells=z.toArray/\z.length=k)
 (hb:(rs.length+r2.length)*bytes<=140737488355328)(hm:rs.length+r2.length<=9223372036854775807){K:zV->Hp->Prop}(hk:∀v' C',aU elem k v' (rs++r2) C'->K v' (c C')):App P elem k bytes zero H v x K:=by obtain⟨A,B,e⟩:=hh.split;have e2:=hh.spec.1;rw[e]at e2;subst e2;obtain⟨a,cap,rfl,hc⟩:=Sl.cells hx;exact aU.apps h hc hx.1 h1 hz hb hm λv' C' ho=>by have:=hk v' C' ho;rwa [e]at this
end
variable{B:Hp}
section
def aO.aaj{x:Nat×Obj}(h:x∈H):aO H [x]:=by obtain⟨A,D,rfl⟩:=xdh h;exact .dX (aO.left (A:=[x]))
end
end Go.Sx
set_option maxRecDepth 100000
namespace Go.Proofs
open Go Go.Sx
section
open ax
section
variable {kp gb n:Nat} {vr vf:zV} {refs:zL} {fs:List (zL)} {K:Kd} {S:Nat->ax.Fn} {θ ai tr:zL} {C B:Hp}
def bS.perm(hK:bS kp K S θ ai tr C):θ.Perm (List.range K.n):=by
 have lB:=hK.od;refine kW ?_ (λx hx=>?_) (by rw[xaF,lB.len];exact xai _)
 ·refine List.pairwise_iff_getElem.2 λi j hi hj hij e=>?_;have g1:=(lB.bg i (by rw[<-lB.len];exact hi)).2;have g2:=(lB.bg j (by rw[<-lB.len];exact hj)).2;rw[xas,xab hi,e]at g1;rw[xas,xab hj]at g2;omega
 obtain⟨i,hi,rfl⟩:=xbc.1 hx;rw[lB.len]at hi;have:=(lB.bg i hi).1;rw[xas,xab (by rw[lB.len];exact hi)]at this;exact xaN.2 this
end
end
section
open ax
def RY{B:Hp}{v1 v2:zV}{p q:zL}{n:Nat}(h1:di .i64 B v1 (iw p))(h2:di .i64 B v2 (iw q))(hp:p.Perm (List.range n))(hq:q.Perm (List.range n))(hn:n<=64):
  Fc zQ 187 #[v1,v2] B (λr H=>∃s C,r=.tuple #[s,iv 0]/\H=C++B/\aL 3 .i64 s (iw (Λ p q)) C):=by
 have e1:p.length=n:=by rw[hp.length_eq,xaF]
 have e2:q.length=n:=by rw[hq.length_eq,xaF]
 have fQ:q.Nodup:=hq.nodup_iff.2 xbh;have hpq:=hp.trans hq.symm;refine aJ λg=>Jn (ae.eq (Yg h1 h2 hp hq hn) (ah.cM (Br.F (ae.fq (xA h1 (by rw[av];omega)) ?_))));rintro va H ⟨CA,rfl,hA⟩;apply h2.bL;rw[av];refine⟨λvs H=>∃(i:Nat) (w9:zV) (C N:Hp),vs=[w9,iv (i:Int)]/\i<=n/\H=C++(N++B)/\aL 3 .i64 w9 (iw (ew p q i)) C/\aL 3 .i64 va (iw (aA p (ew p q i))) N,λvs _=>n-bH vs 1,
  JE.mk ⟨0,_,[],CA,rfl,xaL _,rfl,aL.nil,hA⟩,?_⟩
 rintro w9 w10 H ⟨i,u9,C,N,⟨⟩,hi,rfl,ho,hw⟩ gs;refine ah.eA (Br.dec (λη=>?_) (λη=>?_));rotate_left
 ·obtain rfl:i=q.length:=by omega
  exact aQ.mk (.cv .right _) ⟨w9,C,rfl,rfl,ho⟩
 have spec:=kx fQ hpq i zO;obtain⟨s1,s2,s3⟩:=spec;obtain⟨s4,s5⟩:=s3 η;have akk:=ta fQ hpq (i+1) zO;have q8:(i+1)*p.length<=64*64:=xcg zO zO;apply h2.ld (n:=((q.getD i 0:Nat):Int)) (bM η) (λ_ h=>xaa _ (xaa _ h));have hmem:q.getD i 0∈aA p (ew p q i):=by
  have:q.getD i 0∈q:=by rw[xas,xab η];exact xaK _
  exact((l8 s1).trans hpq).mem_iff.2 this
 refine ae.eq (Ni hw.ints (by rw[av,gf];omega)) ?_;rw[xae (aai.2 hmem),aax];refine⟨λvs H=>∃(j:Nat) (u9:zV) (P:zL) (C N:Hp),vs=[u9,iv (j:Int)]/\i<=j/\j<n/\P++Hz i j=ew p q (i+1)/\H=C++(N++B)/\aL 3 .i64 u9 (iw P) C/\aL 3 .i64 va (iw (aA p P)) N,λvs _=>bH vs 1,
  JE.mk ⟨plc (aA p (ew p q i)) (q.getD i 0),w9,ew p q i,C,N,rfl,s4,by omega,rfl,rfl,ho,hw⟩,?_⟩
 rintro w22 w23 H ⟨j,u9,P,C2,N2,⟨⟩,hij,VC,hP,rfl,uh,qm⟩ gs;refine ah.nV (Br.dec (λhgt=>?_) (λhgt=>?_))
 ·obtain⟨j,rfl⟩:∃k,j=k+1:=⟨j-1,by omega⟩;have hPl:P.length<=4096:=by
   have:=xch List.length hP;rw[xaf]at this;omega
  have Ξ:(aA p P).length=n:=by rw[gf,e1]
  refine DR.self (ah.cj (b:=1) ?_);rw[xcc];refine qm.ld (x:=(((aA p P).getD (j+1) 0:Nat):Int)) (bM zO) (λ_ h=>xaa _ (xad _ h)) (ah.cj (b:=1) ?_);rw[xcc];refine qm.ld (x:=(((aA p P).getD j 0:Nat):Int)) (bM zO) (λ_ h=>xaa _ (xad _ h)) (qm.mh (x:=(((aA p P).getD (j+1) 0:Nat):Int)) (.app .left) (by rw[av];omega) λN3 Xk=>?_);refine Xk.mh (x:=(((aA p P).getD j 0:Nat):Int)) (.app .left) (by rw[xbE,av];omega) λN4 hw4=>?_;have e:((iw (aA p P)).set j (((aA p P).getD (j+1) 0:Nat):Int)).set (j+1) (((aA p P).getD j 0:Nat):Int)=iw (aA p (P++[j])):=by
   rw[gH];unfold fV;rw[fA,fA]
  rw[e]at hw4;apply ah.cj (b:=1);rw[xcc];refine aq.int (e:=3) zK zK zK λbx=>?_;refine uh.qd (.cons .left) (by exact .head _) (by rw[av];omega) (by rw[av];omega) λv' C3 Ec=>?_;apply ah.cj (b:=1);rw[xcc];refine aD.of .tail ⟨j,v',P++[j],C3,N4,rfl,by omega,by omega,?_,rfl,by rw[cH];exact Ec,hw4⟩ ?_
  ·rw[<-hP,sG (show i<=j by omega),xag];rfl
  simp only[bH];omega
 obtain rfl:j=i:=by omega
 rw[B5 (xai _),xaI]at hP;subst hP;exact ah.inc (aD.of (.refl _) ⟨j+1,w22,C2,N2,rfl,by omega,rfl,uh,qm⟩ (by simp only[bH];omega))
def wk(b kp f d:Nat)(ok:Bool):Nat×Obj:=(b,.cells #[γ kp,iv (f:Int),iv (d:Int),.bool ok] 317 zZ)
section
variable {kp b f d:Nat} {K:Kd} {S:Nat->ax.Fn} {θ tr:zL} {C:Hp}
def MS(h:At kp K S θ tr C):Fc zQ 245 #[γ kp] C (λr H=>∃b,r=γ b/\H=wk b kp tr.length 0 false::C):=by refine aJ λg=>IB (ae.eq (sH h) (Build.mk (cs:=[γ kp,iv ((tr.length:Nat):Int),iv 0,.bool false]) zK ?_));intro b _;exact aQ.here ⟨b,rfl,rfl⟩
def Q0(h:At kp K S θ tr C){l:Nat}(hl:l+1<K.n)(fm:tr.length<17592186044416)(hf:js K S θ l)(hd:d<4611686018427387904):
  Fc zQ 248 #[γ b,iv (l:Int)] (wk b kp f d false::C) (λr H=>r=iv 0/\∃C',H=wk b kp f (d+1) false::C'/\At kp K S (fV θ l) (tr++[l]) C'):=by refine aJ λg=>xV (Ld.n ?_);apply ae.fq (vy h hl fm hf);rintro v C' ⟨rfl,h'⟩;intro J hJ;refine ah.iD (Br.T (Ld.n ?_));refine ah.inc (Nil.γ (aj.mk (St.one (by exact .head _) rfl zI rfl ?_)));exact JE.mk (hJ _ λgs=>aQ.here ⟨rfl,C',rfl,h'⟩)
def Q1(h:At kp K S θ tr C){l:Nat}(hl:l+1<K.n)(fm:tr.length<17592186044416)(hf:¬js K S θ l):
  Rd zQ 248 #[γ b,iv (l:Int)] (wk b kp f d false::C) (· =iv 9):=by refine aJ λg=>xV (Ld.n ?_);refine ae.eq (nA h hl fm hf) λJ hJ=>?_;exact ah.iD (Br.F (JE.mk (hJ _ λgs=>br.mk (.refl _) rfl)))
theorem Q2{ok:Bool}{Λ:zL}(h:At kp K S (aA θ Λ) (tr++Λ) C)(hp:∀l∈Λ,l+1<K.n)(fm:(tr++Λ).length<17592186044416)(hd:d<4611686018427387904):
  Fc zQ 274 #[γ b] (wk b kp tr.length d ok::C) (λr H=>r=.tuple #[]/\∃C',H=wk b kp tr.length (d+Λ.length) ok::C'/\At kp K S θ tr C'):=by
 have Ab:Λ.length<17592186044416:=by rw[xaf]at fm;omega
 refine aJ λg=>Ia (DR.of (R:=[wk b kp tr.length d ok]) (aO.left (A:=[_]) (B:=C)) (Ld.n ?_));refine Ld.n ?_;refine ae.fq (args:=#[γ kp,iv ((tr.length+0:Nat):Int)]) (Mm h hp (xaL _) fm) ?_;rintro v C' ⟨rfl,h'⟩;rw[xep,xaI]at h';refine⟨aO.left (A:=[_]) (B:=C'),?_⟩;refine Ext.two (Ld.n ?_);refine ah.fT (Nil.γ (aj.mk (St.one (by exact .head _) rfl zI rfl ?_)));exact aQ.here ⟨rfl,C',rfl,h'⟩
def MM:Rd zQ 247 #[γ b] (wk b kp f d true::C) (· =.tuple #[]):=by refine aJ λg=>xW (Ld.n ?_);exact Un.not (Br.no (br.mk (.refl _) rfl))
def MN{Λ:zL}(h:At kp K S (aA θ Λ) (tr++Λ) C)(hp:∀l∈Λ,l+1<K.n)(fm:(tr++Λ).length<17592186044416)(hd:d<4611686018427387904):
  Fc zQ 247 #[γ b] (wk b kp tr.length d false::C) (λr H=>r=.tuple #[]/\∃C',H=wk b kp tr.length (d+Λ.length) false::C'/\At kp K S θ tr C'):=by refine aJ λg=>xW (Ld.n ?_);refine Un.not (Br.yes (ae.fq (Q2 h hp fm hd) ?_));rintro v H ⟨rfl,C',rfl,h'⟩;exact aQ.here ⟨rfl,C',rfl,h'⟩
def EY(h:At kp K S θ tr C){v:Nat}(hv:v<K.n):Rd zQ 93 #[γ kp,iv (v:Int)] C (λr=>∃p,p<K.n/\θ.getD p 0=v/\r=.tuple #[iv (p:Int),iv 0]):=by
 obtain⟨K',S',bU,h,hk⟩:=h;obtain⟨b,rfl,hO⟩:=h.rep;have hn:=hO.mq;have oC:v<K'.n:=by rw[hk.n];exact hv
 have Ξ:v<bU.length:=by rw[hO.ol.2];exact oC
 refine aJ λg=>tM (ah.aK (Br.no (ae.eq (r6 h.rep (v:Int)) ?_)));rw[xam zO];refine Un.not (Br.no (Ld.n ?_));refine hO.lv.ld (x:=((bU.getD v 0:Nat):Int)) (bM Ξ) (bE.sub (.cons (.app (.app (.app (.app (.app .left))))))) (br.mk (.refl _) ⟨bU.getD v 0,?_,?_,rfl⟩)
 ·rw[<-hk.n];exact h.ok.lv.lt v oC
 exact h.od.of h.ok.lv oC
def EX(h:At kp K S θ tr C){v:Int}(hv:v<0\/(K.n:Int)<=v):Rd zQ 93 #[γ kp,iv v] C (· =.tuple #[iv 0,iv 2]):=by obtain⟨K',S',bU,h,hk⟩:=h;have hn:=hk.n;refine aJ λg=>tM (ah.aK (Br.no (ae.eq (r6 h.rep v) ?_)));rw[xan zO];exact Un.not (Br.yes (br.mk (.refl _) rfl))
def Mv(kp:Nat)(K:Kd)(S:Nat->ax.Fn)(θ tr ls:zL)(r:zV)(C:Hp):Prop:=
 ((rm K S).can θ ls=true/\r=.tuple #[iv ((ls.length:Nat):Int),iv 0]/\At kp K S (aA θ ls) (tr++ls) C)\/
 ((rm K S).can θ ls=false/\r=.tuple #[iv ((2*((rm K S).dJ 0 ls θ).length:Nat):Int),iv 9]/\At kp K S θ tr C)
theorem WW{Y:Hp}{v:zV}{ls:zL}(h:At kp K S θ tr C)(hI:di .i64 Y v (iw ls))(hp:∀l∈ls,l+1<K.n)(fm:tr.length+ls.length<17592186044416):
  Fc zQ 188 #[γ kp,v] (Y++C) (λr H=>∃C',H=Y++C'/\Mv kp K S θ tr ls r C'):=by
 let m:=rm K S
 have hgl:=m.mF 0 ls θ;have hpt:∀i,∀l∈ls.take i,l+1<K.n:=λi l hl=>hp l (xcK hl);refine aJ λg=>Jm λb1 _=>?_;refine ae.fq (MS h) ?_;rintro v3 H ⟨b,rfl,rfl⟩;intro b5 _;refine St.one (by exact .head _) rfl zI rfl ?_;refine hI.bL ?_;rw[av];refine⟨λvs H=>∃i C2,i<=(m.dJ 0 ls θ).length/\vs=[iv (i:Int)]/\H=(b5,.cells #[γ b] 314 zZ)::(b1,.cells #[iv 0] 3 zZ)::(Y++(wk b kp tr.length i false::C2))/\At kp K S (aA θ (ls.take i)) (tr++ls.take i) C2,
  λvs _=>ls.length-bH vs 0,JE.mk ⟨0,C,xaL _,rfl,rfl,by simpa[aA]using h⟩,?_⟩
 rintro w13 H ⟨i,C2,hi,⟨⟩,rfl,h2⟩ gs;have Tg:(tr++ls.take i).length<17592186044416:=by rw[xaf,xbI];omega
 refine ah.eA (Br.dec (λη=>?_) (λη=>?_))
 ·refine hI.ld (n:=((ls.getD i 0:Nat):Int)) (bM η) (λ_ h=>.tail _ (.tail _ (xad _ h))) ?_;have eg:ls.getD i 0=ls[i]:=by rw[xas,xab η];rfl
  have Cz:ls.getD i 0+1<K.n:=by rw[eg];exact hp _ (xaK η)
  have eq:ls[i]? =some (ls.getD i 0):=by rw[eg];exact xab η
  refine Ld.q ?_;by_cases hg:i<(m.dJ 0 ls θ).length
  ·have hf:js K S (aA θ (ls.take i)) (ls.getD i 0):=qR.1 (m.TZ hg eq);refine ae.fn (.cons (.cons (.app .here))) (Q0 h2 Cz Tg hf zO) ?_;rintro r H ⟨rfl,C3,rfl,h3⟩;refine ah.cM (Br.F (ah.inc (aD.mk ⟨i+1,C3,hg,rfl,rfl,?_⟩ (by simp only[bH];omega))));have e:ls.take (i+1)=ls.take i++[ls.getD i 0]:=by rw[xbg,eq];rfl
   rw[e,gH,<-xag];exact h3
  obtain rfl:i=(m.dJ 0 ls θ).length:=by omega
  have hf:¬js K S (aA θ (ls.take (m.dJ 0 ls θ).length)) (ls.getD (m.dJ 0 ls θ).length 0):=λhf=>by
   have h8:=m.Ow eq;have h9:=qR.2 hf;rw[show(rm K S).fit _ _=false from h8]at h9;cases h9
  refine ae.eq (Q1 h2 Cz Tg hf) (ah.cM (Br.T (St.one (by exact .tail (.head _)) rfl zI rfl ?_)));refine uE (R:=_) ?_;unfold L246;refine Ld.q ?_;refine ae.fn (.cons (.cons (.app .here))) (MN h2 (hpt _) Tg zO) ?_;rintro r H ⟨rfl,C3,rfl,h3⟩;refine Ld.q ?_;have eD:(m.dJ 0 ls θ).length+(ls.take (m.dJ 0 ls θ).length).length=2*(m.dJ 0 ls θ).length:=by rw[xbI];omega
  rw[eD];refine Ld.n ?_;refine St.one (by exact .tail (.head _)) rfl zI rfl ?_;refine⟨⟨_,rfl⟩,?_⟩;refine Ld.q ?_;refine aQ.mk (.skip (.skip (.cv .tail _))) ⟨C3,rfl,.inr ⟨xan (show¬(m.dJ 0 ls θ).length=ls.length by omega),rfl,h3⟩⟩
 have Tj:i=ls.length:=by omega
 subst Tj;rw[xa7]at h2;have hcan:(rm K S).can θ ls=true:=xam (show(m.dJ 0 ls θ).length=ls.length by omega);refine Ld.q ?_;refine Nil.γ (aj.mk (St.one (df.tail (df.tail (df.cf (.head _) _))) rfl zI rfl ?_));refine St.one (by exact .tail (.head _)) rfl zI rfl ?_;refine uE (R:=_) ?_;unfold L246;refine Ld.q ?_;refine ae.eq (B:=wk b kp tr.length ls.length true::C2) MM (Ld.q ?_);refine Ld.n ?_;refine St.one (by exact .tail (.head _)) rfl zI rfl ?_;refine⟨⟨_,rfl⟩,?_⟩;refine Ld.q ?_;refine aQ.mk (.skip (.skip (.cv .tail _))) ⟨C2,rfl,.inl ⟨hcan,rfl,h2⟩⟩
end
section
variable {kp b f d:Nat} {K:Kd} {S:Nat->ax.Fn} {θ tr:zL} {C:Hp}
def Mv.tup{ls:zL}{r:zV}(h:Mv kp K S θ tr ls r C):∃x y,r=.tuple #[x,y]:=by rcases h with⟨_,rfl,_⟩|⟨_,rfl,_⟩<;>exact⟨_,_,rfl⟩
def Sa{Y:Hp}{v:zV}{q:zL}(h:At kp K S θ tr C)(hI:di .i64 Y v (iw q))(hpo:θ.Perm (List.range K.n))(hpq:q.Perm (List.range K.n))(fm:tr.length<17454747090944):
  Fc zQ 118 #[γ kp,v] (Y++C) (λr H=>∃C',H=Y++C'/\Mv kp K S θ tr (Λ θ q) r C'):=by
 have hn:=h.mq;have Cy:θ.length=K.n:=by rw[hpo.length_eq,xaF]
 have hql:q.length=K.n:=by rw[hpq.length_eq,xaF]
 have fQ:q.Nodup:=hpq.nodup_iff.2 xbh;refine aJ λg=>Kr (ah.aK (Br.no ?_));intro J2 CJ;refine ae.rq (s8 hI (by rw[av];omega)) ?_;rintro r (⟨rfl,ha,hl⟩|⟨_,_,hl⟩|⟨_,Γ⟩);rotate_left
 ·rw[av]at hl;omega
 ·exact absurd (xL hpq) Γ
 refine ah.cM (Split.go zD ?_);refine hI.bL (ae.eq (ny h) (ah.Cu ?_));rw[xan (by rw[av];omega)];refine aG.mk (JE.mk (CJ _ _ λgs=>Br.no ?_));apply ae.fq (EW h);rintro vo H ⟨N,rfl,ho⟩;refine ae.pre (H':=(N++Y)++C) (.perm (by rw[xag,<-xag,<-xag];exact xbk.append_right C)) (ae.fq (RY (ho.ints.mono λ_ h=>xad _ h) (hI.mono λ_ h=>xaa _ h) hpo hpq hn) ?_);rintro r H ⟨s,CP,rfl,rfl,hP⟩;refine Ext.mk rfl (Ext.mk rfl (ah.cM (Br.F ?_)));obtain⟨_,Ab⟩:=Bo fQ (hpo.trans hpq.symm);have aki:(Λ θ q).length<=4096:=by
  have:=ta fQ (hpo.trans hpq.symm) q.length (xai _);have h2:q.length*θ.length<=64*64:=xcg zO zO;unfold Λ;omega
 refine ae.fq (WW h (hP.ints.mono λ_ h=>xad _ h) (λx hx=>by have:=Ab x hx;omega) zO) ?_;rintro r H ⟨C',rfl,hM⟩;obtain⟨x,y,rfl⟩:=hM.tup;refine Ext.two (aQ.mk ?_ ⟨C',rfl,hM⟩);rw[xag,xag];exact aO.right.trans .right
def W5(p:Nat):Nat->Nat->Nat
 |0,_=>p
 |_,k=>p-k
def Oi(n p:Nat):Nat->Nat->Nat
 |0,k=>p+k
 |_,_=>n-1
end
end
end Go.Proofs
namespace ax
def sY{p j:Nat}(h:p<=j):Θ p (j+1)=Θ p j++[j]:=by unfold Θ;rw[show p-(j+1)=0 by omega,show p-j=0 by omega,show j+1-p=(j-p)+1 by omega,List.range'_concat];simp;omega
def s6{p j:Nat}(h:j<p):Θ p j=Θ p (j+1)++[j]:=by unfold Θ;rw[show j-p=0 by omega,show j+1-p=0 by omega,show p-j=(p-(j+1))+1 by omega,List.range'_succ];simp
def gJ(p:Nat):Θ p p=[]:=by unfold Θ;simp
end ax
set_option maxRecDepth 100000
namespace Go.Proofs
open Go Go.Sx
open ax
variable{kp gb n:Nat}{vr vf:zV}{refs θ tr:zL}{fs:List (zL)}{K:Kd}{S:Nat->ax.Fn}{C:Hp}
section
variable{Z:Hp}
def Lp{θ:zL}(hp:θ.Perm (List.range n)):∀i,i<n->θ.getD i 0<n:=λi hi=>by
 have Cy:θ.length=n:=by rw[hp.length_eq,xaF]
 have:θ.getD i 0∈θ:=by rw[xas,xab zO];exact xaK _
 exact xaN.1 (hp.mem_iff.1 this)
end
end Go.Proofs
namespace Go.Sx
open Go Go.ChangeShapes Go.WideShapes Go.Deep
variable{P:Program}{W:World}{base:Nat}{spare:Nat->Bool}{held:Bool}
section
variable{H:Type}{enc:TypeId×zV->H}
def tL(a:Addr)(n:Nat):(a.add n).block=a.block:=by unfold Addr.add;split<;>rfl
def Cd(a:Addr)(n:Nat):(a.add n).off=a.off+n:=by unfold Addr.add;split<;>simp_all
def k9{b:Nat}{a:Addr}{k:Nat}{cs:List zV}(hk:0<k)(h:W.cells? b a k=some cs):
  a.spot=none/\∃c T fz,W.heap[a.block]? =some (.cells c T fz)/\a.off+k<=c.size/\c.extract a.off (a.off+k)=cs.toArray:=by
 obtain⟨_,hl,hg⟩:=World.cells?_some h;have h0:=hg 0 hk;have hc0:W.cell? a=some (cs[0]' zO):=by
  have:a.add 0=a:=by simp[Addr.add]
  rw[this]at h0;rw[h0];exact xab zO
 unfold World.cell? at hc0;split at hc0
 ·rename_i c T fz hb;cases hs:a.spot with
  |some s=>rw[hs]at hc0;simp at hc0
  |none=>
   have hcell:∀i,i<k->c[a.off+i]? =cs[i]? :=λi hi=>by
    have:=hg i hi;unfold World.cell? at this;rw[tL,hb]at this;simp only[Cd]at this;have hsp:(a.add i).spot.isSome=false:=by unfold Addr.add;split<;>simp[hs]
    rw[hsp]at this;simpa using this
   have hsz:a.off+k<=c.size:=by
    have:=hcell (k-1) zO;rw[xab zO]at this;have:=(xaU.1 this).1;omega
   refine⟨rfl,c,T,fz,hb,hsz,?_⟩;apply Array.ext_getElem?;intro i;rw[xdl];by_cases hi:i<k
   ·rw[xae zO,hcell i hi];simp
   rw[xac zO];simp;omega
 simp at hc0
def ab6{t e:TypeId}{v:zV}{d:DataW H}{ps:List MemPlace}{r:Reach}{b0 k:Nat}(ht:P.underlying t=some (.slice e))(hk:P.cellsOf e=k)(hk0:0<k)(hv:Value.okWide P W r b0 t v)(h:DataW.Trod enc P W base spare held t v d ps):
  (v=.slice none 0 0/\d=.nil)\/∃(a:Addr) (n cap:Nat) (es sp:List (DataW H)),v=.slice (some a) n cap/\d=.slice es sp/\es.length=n/\n<=cap/\
   ∀i,i<n->∃c T fz cs,a.spot=none/\(a.block,Obj.cells c T fz)∈whole W/\a.off+i*k+k<=c.size/\c.extract (a.off+i*k) (a.off+i*k+k)=cs.toArray/\∃fuel y,DataW.trod enc P W base spare held fuel e cs=some y/\cs.length=k:=by
 obtain⟨a0,n0,c0,rfl⟩:=okWide_slice ht hv;obtain⟨fuel,hf⟩:=h;rcases open_slice ht hf with⟨h1,h2⟩|⟨a,len,cap,m,n,D,Pl,hcs,hb,hl,hm,yH,hx,hi⟩
 ·left;simp only[Value.cells,xaw,xaW]at h1;simp only[xdf]at h2;exact⟨by simpa using h1,h2.1⟩
 right;simp only[xdf]at hx;have oC:Value.slice a0 n0 c0=.slice (some a) len cap:=by simpa[Value.cells]using hcs
 have hlm:len<=m:=by rw[yH];split<;>omega
 refine⟨a,len,cap,_,_,oC,hx.1,by simp,hl,λi hin=>?_⟩;have hkk:=hk;have D9:a.spot=none:=by
  obtain⟨cs0,hc0,_⟩:=hi 0 zO;rw[hk]at hc0;rw[show a.add (0*k)=a by simp[Addr.add]]at hc0;exact(k9 hk0 hc0).1
 obtain⟨cs,hc,hd⟩:=hi i zO;rw[hk]at hc;obtain⟨_,Ξ,_⟩:=World.cells?_some hc;obtain⟨_,c,T,fz,h1,h2,h3⟩:=k9 hk0 hc;rw[tL]at h1;rw[Cd]at h2 h3;exact⟨c,T,fz,cs,D9,zo h1,h2,h3,n,_,hd,Ξ⟩
def M6{t e:TypeId}{cs:List zV}{x:DataW H×List MemPlace}{fuel k:Nat}(ht:P.underlying t=some (.slice e))(hk:P.cellsOf e=k)(hk0:0<k)(h:DataW.trod enc P W base spare held fuel t cs=some x):
  ∃(v:zV) (rs:List (List zV)),cs=[v]/\Sl k (whole W) v rs/\((rs=[]/\x.1=.nil)\/∃es sp,x.1=.slice es sp/\es.length=rs.length)/\
   ∀(i:Nat) (r:List zV),rs[i]? =some r->∃(fuel:Nat) (y:DataW H×List MemPlace) (es sp:List (DataW H)),DataW.trod enc P W base spare held fuel e r=some y/\x.1=.slice es sp/\es[i]? =some y.1:=by
 rcases open_slice ht h with⟨h1,h2⟩|⟨a,len,cap,m,n,D,Pl,hcs,hb,hl,hm,yH,hx,hi⟩
 ·exact⟨_,[],h1,Sl.nil _ _,.inl ⟨rfl,by rw[h2]⟩,λi r hr=>by simp at hr⟩
 have hlm:len<=m:=by rw[yH];split<;>omega
 have hex:∃rs:List (List zV),rs.length=len/\∀i r,rs[i]? =some r->W.cells? base (a.add (i*k)) k=some r/\DataW.trod enc P W base spare held n e r=some (D i,Pl i):=by
  clear hcs hx hl yH;induction len with
  |zero=>exact⟨[],rfl,λi r hr=>by simp at hr⟩
  |succ len ih=>
   obtain⟨rs,h1,h2⟩:=ih zO;obtain⟨r,h3,h4⟩:=hi len zO;rw[hk]at h3;refine⟨rs++[r],by simp[h1],λi r' hr=>?_⟩;by_cases η:i<rs.length
   ·rw[xaZ η]at hr;exact h2 i r' hr
   rw[xbW zO]at hr;have GW:i-rs.length=0:=by
    by_cases e:i-rs.length=0
    ·exact e
    rw[xaB zP]at hr;cases hr
   rw[GW]at hr;simp only[xcR,xat]at hr;subst hr;obtain rfl:i=len:=by omega
   exact⟨h3,h4⟩
 obtain⟨rs,Ea,Aa⟩:=hex;have aH:∀r∈rs,r.length=k:=λr hr=>by
  obtain⟨i,hi,e⟩:=xbc.1 hr;obtain⟨hc,_⟩:=Aa i r (by rw[xab hi,e]);exact(World.cells?_some hc).2.1
 refine⟨.slice (some a) len cap,rs,hcs,⟨aH,?_⟩,.inr ⟨_,_,by rw[hx],by simp[Ea]⟩,λi r hr=>?_⟩
 ·cases rs with
  |nil=>exact .inl ⟨some a,cap,by rw[<-Ea];rfl,rfl⟩
  |cons r0 rest=>
   right;obtain⟨hc0,_⟩:=Aa 0 r0 rfl;obtain⟨D9,c,T,fz,hb0,_,_⟩:=k9 hk0 hc0;rw[show a.add (0*k)=a by simp[Addr.add]]at D9 hb0;obtain⟨ab,ao,asp⟩:=a;simp only at D9 hb0;subst D9;have aep:∀i r,(r0::rest)[i]? =some r->ao+i*k+k<=c.size/\c.extract (ao+i*k) (ao+i*k+k)=r.toArray:=λi r hr=>by
    obtain⟨hc,_⟩:=Aa i r hr;obtain⟨_,c',T',fz',h1,h2,h3⟩:=k9 hk0 hc;rw[tL]at h1;rw[Cd]at h2 h3;simp only at h1 h2 h3;rw[hb0]at h1;simp only[xat,Obj.cells.injEq]at h1;obtain⟨rfl,_,_⟩:=h1;exact⟨h2,h3⟩
   refine⟨ab,ao,cap,c,T,fz,by rw[Ea],by omega,zo hb0,?_,λi r hr j v hj=>?_⟩
   ·have adX:=aep (rest.length) ((r0::rest)[rest.length]' zI) (xab zI);have:=adX.1;simp only[xax,xbr];omega
   obtain⟨h1,h2⟩:=aep i r hr;have XD:j<k:=by
    have:=(xah.1 hj).1;rw[aH r (xav hr)]at this;exact this
   have h3:=xch (λz:Array zV=>z[j]?) h2;simp only[xdl,xdu]at h3;rw[hj]at h3;rw[<-h3,xae zO]
 obtain⟨_,hd⟩:=Aa i r hr;have Tj:i<len:=by rw[<-Ea];exact(xah.1 hr).1
 exact⟨n,_,_,_,hd,by rw[hx],by simp[Tj]⟩
end
end Go.Sx
set_option maxRecDepth 100000
namespace Go.Proofs
open Go Go.Sx
section
open Go.ChangeShapes Go.WideShapes Go.Deep
variable{H:Type}{enc:TypeId×zV->H}{W:World}{base:Nat}{spare:Nat->Bool}{held:Bool}
def W9{f:FuncId}{args:Array zV}{W:World}(h:Rd zQ f args (whole W) (· =.bool true)):
  Calls zQ f args W λe W'=>e=.returned (.bool true)/\Go.RowKit.Below W.heap.size W W':=
 aap (h.mono λ_ _ ⟨h1,h2⟩=>⟨by rw[h1];exact .refl _,h2⟩)
end
end Go.Proofs
namespace ax
def Rm.Ft(m:Rm)(g:Nat)(θ:zL)(p:Nat)(dn:Bool):Nat->Nat->Nat->Nat->Nat×Nat×Nat
 |0,j,b,q=>(j,b,q)
 |k+1,j,b,q=>
  if m.fit (aA θ (Θ p j)) (bif dn then j else j-1)=true then
   if(if m.size (aA θ (Θ p (bif dn then j+1 else j-1)))<b then m.size (aA θ (Θ p (bif dn then j+1 else j-1)))else b)*g<m.size (aA θ (Θ p (bif dn then j+1 else j-1)))*100 then
    (bif dn then j+1 else j-1,if m.size (aA θ (Θ p (bif dn then j+1 else j-1)))<b then m.size (aA θ (Θ p (bif dn then j+1 else j-1)))else b,if m.size (aA θ (Θ p (bif dn then j+1 else j-1)))<b then(bif dn then j+1 else j-1)else q)
   else m.Ft g θ p dn k (bif dn then j+1 else j-1) (if m.size (aA θ (Θ p (bif dn then j+1 else j-1)))<b then m.size (aA θ (Θ p (bif dn then j+1 else j-1)))else b) (if m.size (aA θ (Θ p (bif dn then j+1 else j-1)))<b then(bif dn then j+1 else j-1)else q)
  else(j,b,q)
def dst(x y:Nat):Nat:=(x-y)+(y-x)
def Rm.rest(m:Rm)(dn:Bool)(j:Nat):Nat:=bif dn then m.n-1-j else j
def Rm.sW(m:Rm)(g:Nat)(θ:zL)(p:Nat):Nat×Nat:=
 let dn:=decide (m.n-1-p<=p)
 let a:=m.Ft g θ p dn (m.rest dn p) p (m.size θ) p
 let b:=m.Ft g θ p (!dn) (m.rest (!dn) p) p a.2.1 a.2.2
 (b.2.2,dst a.1 p+dst a.1 p+dst b.1 p+if b.2.2≠a.2.2 then dst b.1 b.2.2 else dst b.1 p+dst p b.2.2)
def Rm.cr(m:Rm)(g:Nat)(θ:zL):zL->zL×Nat
 | []=>([],0)
 |v::r=>let p:=θ.idxOf v;let a:=m.sW g θ p;let b:=m.cr g (aA θ (Θ p a.1)) r;(Θ p a.1++b.1,a.2+b.2)
structure afs(m:Rm)(θ:zL)(p:Nat)(dn:Bool)(k j b q:Nat)(r:Nat×Nat×Nat):Prop where
 way:bif dn then j<=r.1/\r.1<=j+k else r.1<=j/\j<=r.1+k
 size:r.2.1=m.size (aA θ (Θ p r.2.2))
 new:(r.2.1=b/\r.2.2=q)\/(r.2.1<b/\bif dn then j<r.2.2/\r.2.2<=r.1 else r.1<=r.2.2/\r.2.2<j)
 fit:∀i,(bif dn then j<=i/\i<r.1 else r.1<i/\i<=j)->m.fit (aA θ (Θ p i)) (bif dn then i else i-1)=true
def Rm.wG(m:Rm)(g:Nat)(θ:zL)(p:Nat)(dn:Bool):∀k j b q,(dn=false->k<=j)->b=m.size (aA θ (Θ p q))->afs m θ p dn k j b q (m.Ft g θ p dn k j b q)
 |0,j,b,q,hk,hb=>⟨by cases dn<;>simp[Ft],hb,.inl ⟨rfl,rfl⟩,λi hi=>by cases dn<;>simp[Ft]at hi<;>omega⟩
 |k+1,j,b,q,hk,hb=>by
  rw[Ft];by_cases hf:m.fit (aA θ (Θ p j)) (bif dn then j else j-1)=true
  ·rw[xae hf];obtain⟨J,hJ⟩:∃J,J=bif dn then j+1 else j-1:=⟨_,rfl⟩;rw[<-hJ];obtain⟨s,hs⟩:∃s,s=m.size (aA θ (Θ p J)):=⟨_,rfl⟩;rw[<-hs];obtain⟨B,hB⟩:∃B,B=if s<b then s else b:=⟨_,rfl⟩
   obtain⟨Q,hQ⟩:∃Q,Q=if s<b then J else q:=⟨_,rfl⟩
   rw[<-hB,<-hQ];have hbq:(B=b/\Q=q)\/(B<b/\Q=J):=by
    by_cases h:s<b
    ·rw[xae h]at hB hQ;exact .inr ⟨by omega,hQ⟩
    rw[xac h]at hB hQ;exact .inl ⟨hB,hQ⟩
   have hb':B=m.size (aA θ (Θ p Q)):=by
    by_cases h:s<b
    ·rw[xae h]at hB hQ;rw[hB,hQ,hs]
    rw[xac h]at hB hQ;rw[hB,hQ,hb]
   clear hB hQ;by_cases hg:B*g<s*100
   ·rw[xae hg];refine⟨?_,hb',?_,λi hi=>?_⟩
    ·cases dn
     ·simp only[xaj]at hJ⊢;have:=hk rfl;omega
     simp only[xap]at hJ⊢;omega
    ·cases dn
     ·simp only[xaj]at hJ⊢;have:=hk rfl;omega
     simp only[xap]at hJ⊢;omega
    have:i=j:=by
     cases dn
     ·simp only[xaj]at hi hJ;omega
     simp only[xap]at hi hJ;omega
    subst this;exact hf
   rw[xac hg];have ih:=m.wG g θ p dn k J B Q (λh=>by subst h;have:=hk rfl;simp only[xaj]at hJ;omega) hb';obtain⟨w1,w2,w3,w4⟩:=ih;refine⟨?_,w2,?_,λi hi=>?_⟩
   ·cases dn
    ·simp only[xaj]at w1 hJ⊢;have:=hk rfl;omega
    simp only[xap]at w1 hJ⊢;omega
   ·cases dn
    ·simp only[xaj]at w3 w1 hJ⊢;have:=hk rfl;omega
    simp only[xap]at w3 w1 hJ⊢;omega
   by_cases e:i=j
   ·subst e;exact hf
   apply w4 i;cases dn
   ·simp only[xaj]at hi hJ⊢;omega
   simp only[xap]at hi hJ⊢;omega
  rw[xac hf];exact⟨by cases dn<;>simp,hb,.inl ⟨rfl,rfl⟩,λi hi=>by cases dn<;>simp at hi<;>omega⟩
structure afo(m:Rm)(θ:zL)(p:Nat)(r:Nat×Nat):Prop where
 lt:r.1<m.n
 le:m.size (aA θ (Θ p r.1))<=m.size θ
 stay:m.size (aA θ (Θ p r.1))=m.size θ->r.1=p
 vI:r.2<=3*(m.n-1)
def Rm.Bg(m:Rm)(g:Nat){θ:zL}{p:Nat}(hp:p<m.n):afo m θ p (m.sW g θ p):=by
 have ha:=m.wG g θ p (decide (m.n-1-p<=p)) (m.rest (decide (m.n-1-p<=p)) p) p (m.size θ) p (λh=>by unfold Rm.rest;rw[h];exact xai _) (by rw[gJ];rfl);unfold sW;simp only;generalize decide (m.n-1-p<=p)=dn at*;generalize m.Ft g θ p dn (m.rest dn p) p (m.size θ) p=a at*;have hb:=m.wG g θ p (!dn) (m.rest (!dn) p) p a.2.1 a.2.2 (λh=>by unfold Rm.rest;rw[h];exact xai _) ha.size;generalize m.Ft g θ p (!dn) (m.rest (!dn) p) p a.2.1 a.2.2=b at*;obtain⟨a1,a2,a3,a4⟩:=ha;obtain⟨b1,b2,b3,b4⟩:=hb;unfold Rm.rest at a1 b1;refine⟨?_,?_,λh=>?_,?_⟩
 ·cases dn<;>simp only[xaj,xap,xct,xcE]at a1 b1 a3 b3<;>simp only<;>omega
 ·simp only;rw[<-b2];cases dn<;>simp only[xaj,xap,xct,xcE]at a1 b1 a3 b3<;>omega
 ·simp only at h⊢;rw[<-b2]at h;cases dn<;>simp only[xaj,xap,xct,xcE]at a1 b1 a3 b3<;>omega
 unfold dst;cases dn<;>simp only[xaj,xap,xct,xcE]at a1 b1 a3 b3<;>simp only<;>split<;>omega
section
variable{m:Rm}{g:Nat}
def Lj{p q:Nat}(hp:p<m.n)(hq:q<m.n):∀x∈Θ p q,x+1<m.n:=λx hx=>RV hp hq hx
def GL{θ:zL}{v n:Nat}(hp:θ.Perm (List.range n))(hv:v<n):θ.idxOf v<n:=by have h1:v∈θ:=hp.mem_iff.2 (xaN.2 hv);have h2:=xes h1;rwa [hp.length_eq,xaF]at h2
def mX{θ Λ:zL}{n:Nat}(hp:θ.Perm (List.range n))(h:∀x∈Λ,x+1<n):(aA θ Λ).Perm (List.range n):=
 (l8 λx hx=>by rw[hp.length_eq,xaF];exact h x hx).trans hp
structure abJ(m:Rm)(g:Nat)(θ l:zL)(r:zL×Nat):Prop where
 mem:∀x∈r.1,x+1<m.n
 le:m.size (aA θ r.1)<=m.size θ
 stay:m.size (aA θ r.1)=m.size θ->r.1=[]/\∀v∈l,(m.sW g θ (θ.idxOf v)).1=θ.idxOf v
 vI:r.2<=3*(m.n-1)*l.length
 len:r.1.length<=m.n*l.length
def m0:∀{l θ:zL},θ.Perm (List.range m.n)->(∀v∈l,v<m.n)->abJ m g θ l (m.cr g θ l)
 | [],θ,hp,hl=>⟨by simp[Rm.cr],xai _,λ_=>⟨rfl,by simp⟩,by simp[Rm.cr],by simp[Rm.cr]⟩
 |v::l,θ,hp,hl=>by
  have hv:=GL hp (hl v zI);have h1:=m.Bg g (θ:=θ) hv;rw[Rm.cr];generalize hq:θ.idxOf v=p at*;generalize hr:m.sW g θ p=a at*;obtain⟨a1,a2,a3,a4⟩:=h1;have hin:=Lj hv a1;have h2:=m0 (l:=l) (θ:=aA θ (Θ p a.1)) (mX hp hin) (λx hx=>hl x (by simp[hx]));generalize m.cr g (aA θ (Θ p a.1)) l=b at*;obtain⟨b1,b2,b3,b4,b5⟩:=h2;have Ea:=vX p a.1;refine⟨λx hx=>?_,?_,λh=>?_,?_,?_⟩
  ·rcases xao.1 hx with h|h
   ·exact hin x h
   exact b1 x h
  ·rw[cq];omega
  ·rw[cq]at h;have e:=a3 zO;rw[e,gJ]at b3 h⊢;obtain⟨c1,c2⟩:=b3 h;refine⟨by rw[c1];rfl,λu hu=>?_⟩;rcases xak.1 hu with rfl|hu
   ·rw[hq,hr];exact e
   exact c2 u hu
  ·rw[xax,xdF,xb8];show a.2+b.2<=_;omega
  rw[xaf,xax,xdF,xb8];omega
def Rm.cR(m:Rm)(g:Nat)(θ:zL):List (zL)->zL×Nat
 | []=>([],0)
 |l::r=>let a:=m.cr g θ l;let b:=m.cR g (aA θ a.1) r;(a.1++b.1,a.2+b.2)
def Rm.oK(m:Rm)(g:Nat)(θ:zL):List (zL)->Prop
 | []=>False
 | [l]=>¬m.size (aA θ (m.cr g θ l).1)<m.size θ
 |l::r=>m.size (aA θ (m.cr g θ l).1)<m.size θ/\m.oK g (aA θ (m.cr g θ l).1) r
def rf{θ l:zL}{r:List (zL)}(hr:r≠[]):m.oK g θ (l::r)↔m.size (aA θ (m.cr g θ l).1)<m.size θ/\m.oK g (aA θ (m.cr g θ l).1) r:=by
 cases r with
 |nil=>exact absurd rfl hr
 |cons a b=>exact xcZ
structure abK(m:Rm)(g:Nat)(θ:zL)(ls:List (zL))(r:zL×Nat):Prop where
 mem:∀x∈r.1,x+1<m.n
 le:m.size (aA θ r.1)<=m.size θ
 Z9:1<=ls.length/\ls.length+m.size (aA θ r.1)<=m.size θ+1
 still:∀v,v<m.n->(m.sW g (aA θ r.1) ((aA θ r.1).idxOf v)).1=(aA θ r.1).idxOf v
 vI:r.2<=3*(m.n-1)*m.n*ls.length
 len:r.1.length<=m.n*m.n*ls.length
def Lc:∀{ls:List (zL)} {θ:zL},θ.Perm (List.range m.n)->(∀l∈ls,l.Perm (List.range m.n))->m.oK g θ ls->abK m g θ ls (m.cR g θ ls)
 | [],θ,hp,hl,hg=>hg.elim
 | [l],θ,hp,hl,hg=>by
  have XA:=hl l zI;have nL:l.length=m.n:=by rw[XA.length_eq,xaF]
  obtain⟨a1,a2,a3,a4,a5⟩:=m0 (g:=g) hp (λv hv=>xaN.1 (XA.mem_iff.1 hv)) (l:=l);have Fv:¬m.size (aA θ (m.cr g θ l).1)<m.size θ:=hg;have h:m.cR g θ [l]=((m.cr g θ l).1++[],(m.cr g θ l).2+0):=rfl;rw[h,xaI,xcB];have he:m.size (aA θ (m.cr g θ l).1)=m.size θ:=by omega
  obtain⟨c1,c2⟩:=a3 he;refine⟨a1,a2,⟨by simp,by simp;omega⟩,λv hv=>?_,by rw[nL]at a4;simpa using a4,by rw[nL]at a5;simpa using a5⟩;rw[c1];exact c2 v (XA.mem_iff.2 (xaN.2 hv))
 |l::l2::r,θ,hp,hl,hg=>by
  have XA:=hl l zI;have nL:l.length=m.n:=by rw[XA.length_eq,xaF]
  obtain⟨a1,a2,a3,a4,a5⟩:=m0 (g:=g) hp (λv hv=>xaN.1 (XA.mem_iff.1 hv)) (l:=l);obtain⟨g1,g2⟩:=(rf zI).1 hg;have ih:=Lc (ls:=l2::r) (mX hp a1) (λx hx=>hl x (by simp[xak.1 hx])) g2;have h:m.cR g θ (l::l2::r)=((m.cr g θ l).1++(m.cR g (aA θ (m.cr g θ l).1) (l2::r)).1,(m.cr g θ l).2+(m.cR g (aA θ (m.cr g θ l).1) (l2::r)).2):=rfl;rw[h];generalize m.cr g θ l=a at*;generalize m.cR g (aA θ a.1) (l2::r)=b at*;obtain⟨b1,b2,b3,b4,b5,b6⟩:=ih;refine⟨λx hx=>?_,by rw[cq];omega,⟨by simp,?_⟩,?_,?_,?_⟩
  ·rcases xao.1 hx with h|h
   ·exact a1 x h
   exact b1 x h
  ·rw[cq,xax];omega
  ·rw[cq];exact b4
  ·show a.2+b.2<=_;rw[nL]at a4;rw[xax,xdF,xb8];omega
  rw[nL]at a5;rw[xaf,xax,xdF,xb8];omega
def zc{v:Nat}:∀{l θ:zL},m.cr g θ (l++[v])=((m.cr g θ l).1++Θ ((aA θ (m.cr g θ l).1).idxOf v) (m.sW g (aA θ (m.cr g θ l).1) ((aA θ (m.cr g θ l).1).idxOf v)).1,(m.cr g θ l).2+(m.sW g (aA θ (m.cr g θ l).1) ((aA θ (m.cr g θ l).1).idxOf v)).2)
 | [],θ=>by simp[Rm.cr,aA]
 |u::l,θ=>by
  rw[xaS,Rm.cr,Rm.cr];simp only;rw[zc (l:=l)];simp only[cq,xag,xcq]
def ze{l:zL}:∀{ls:List (zL)} {θ:zL},m.cR g θ (ls++[l])=((m.cR g θ ls).1++(m.cr g (aA θ (m.cR g θ ls).1) l).1,(m.cR g θ ls).2+(m.cr g (aA θ (m.cR g θ ls).1) l).2)
 | [],θ=>by simp[Rm.cR,aA]
 |u::ls,θ=>by
  rw[xaS,Rm.cR,Rm.cR];simp only;rw[ze (ls:=ls)];simp only[cq,xag,xcq]
def Rm.tA(m:Rm)(g:Nat)(θ:zL):List (zL)->Prop
 | []=>True
 |l::r=>m.size (aA θ (m.cr g θ l).1)<m.size θ/\m.tA g (aA θ (m.cr g θ l).1) r
def ur{l:zL}:∀{ls:List (zL)} {θ:zL},m.tA g θ ls->m.size (aA (aA θ (m.cR g θ ls).1) (m.cr g (aA θ (m.cR g θ ls).1) l).1)<m.size (aA θ (m.cR g θ ls).1)->m.tA g θ (ls++[l])
 | [],θ,_,h=>⟨h,trivial⟩
 |u::ls,θ,h1,h=>by
  refine⟨h1.1,ur (ls:=ls) h1.2 ?_⟩;rw[Rm.cR]at h;simp only[cq]at h;exact h
def Er{l:zL}:∀{ls:List (zL)} {θ:zL},m.tA g θ ls->¬m.size (aA (aA θ (m.cR g θ ls).1) (m.cr g (aA θ (m.cR g θ ls).1) l).1)<m.size (aA θ (m.cR g θ ls).1)->m.oK g θ (ls++[l])
 | [],θ,_,h=>h
 |u::ls,θ,h1,h=>by
  rw[xaS,rf zI];refine⟨h1.1,Er (ls:=ls) h1.2 ?_⟩;rw[Rm.cR]at h;simp only[cq]at h;exact h
structure Vo(m:Rm)(g:Nat)(θ:zL)(ls:List (zL))(r:zL×Nat):Prop where
 mem:∀x∈r.1,x+1<m.n
 le:ls.length+m.size (aA θ r.1)<=m.size θ
 vI:r.2<=3*(m.n-1)*m.n*ls.length
 len:r.1.length<=m.n*m.n*ls.length
def Aj:∀{ls:List (zL)} {θ:zL},θ.Perm (List.range m.n)->(∀l∈ls,l.Perm (List.range m.n))->m.tA g θ ls->Vo m g θ ls (m.cR g θ ls)
 | [],θ,hp,hl,hg=>⟨by simp[Rm.cR],by simp[Rm.cR,aA],by simp[Rm.cR],by simp[Rm.cR]⟩
 |l::r,θ,hp,hl,hg=>by
  have XA:=hl l zI;have nL:l.length=m.n:=by rw[XA.length_eq,xaF]
  obtain⟨a1,a2,a3,a4,a5⟩:=m0 (g:=g) hp (λv hv=>xaN.1 (XA.mem_iff.1 hv)) (l:=l);have ih:=Aj (ls:=r) (mX hp a1) (λx hx=>hl x (by simp[hx])) hg.2;have hg1:=hg.1;rw[Rm.cR];generalize m.cr g θ l=a at*;generalize m.cR g (aA θ a.1) r=b at*;obtain⟨b1,b2,b3,b4⟩:=ih;rw[nL]at a4 a5;refine⟨λx hx=>?_,by rw[cq,xax];omega,?_,?_⟩
  ·rcases xao.1 hx with h|h
   ·exact a1 x h
   exact b1 x h
  ·rw[xax,xdF,xb8];show a.2+b.2<=_;omega
  rw[xaf,xax,xdF,xb8];omega
end
end ax
set_option maxRecDepth 100000
namespace Go.Proofs
open Go Go.Sx
section
open ax
def iu(kp a b q gr sw:Nat)(la:Int)(st:zV):Array zV:=#[γ kp,iv (a:Int),iv (b:Int),iv (q:Int),iv (gr:Int),iv (sw:Int),iv la,st]
def fJ(wp:Nat)(c:Array zV):Nat×Obj:=(wp,.cells c 228 zZ)
def qI(bx wp:Nat):Nat×Obj:=(bx,.cells #[γ wp] 225 zZ)
def stf(dn:Bool):Nat:=bif dn then 228 else 230
def Cr(dn:Bool)(bx:Nat):zV:=.func (.func (stf dn)) #[] #[γ bx]
def Fk:Hp->Nat
 |(_,.cells c _ _)::_=>bH c.toList 1
 |_=>0
section
variable {kp wp bx a b q gr sw p:Nat} {la:Int} {st:zV} {K:Kd} {S:Nat->ax.Fn} {θ o tr:zL} {C:Hp} {dn:Bool}
theorem Rj{l a':Nat}{d:Int}(h:At kp K S θ tr C)(hl:l+1<K.n)(fm:tr.length<17592186044416)(hf:js K S θ l)(ha:(a:Int)+d=(a':Int))(hb:a'<1024)(Cw:sw<4611686018427387904):
  Fc zQ 229 #[γ wp,iv (l:Int),iv d] (fJ wp (iu kp a b q gr sw la st)::C) (λv H=>v=iv 0/\∃C',H=fJ wp (iu kp a' b q gr (sw+1) la st)::C'/\At kp K S (fV θ l) (tr++[l]) C'):=by
 refine aJ λg=>xZ (Ld.n ?_);refine ae.fq (vy h hl fm hf) ?_;rintro v C' ⟨rfl,h'⟩;intro J6 h6;refine ah.iD (Br.T (Ld.n ?_));refine ah.inc (Nil.γ (aj.mk (St.one (c':=iu kp a b q gr (sw+1) la st) (by exact .head _) rfl (by simp[iu]) rfl ?_)));refine Ld.n ?_;refine ah.AG (c:=(a':Int)) ha zO (Nil.γ (aj.mk (St.one (c':=iu kp a' b q gr (sw+1) la st) (by exact .head _) rfl (by simp[iu]) rfl ?_)));exact JE.mk (h6 _ λgs=>aQ.here ⟨rfl,C',rfl,h'⟩)
def YI{l:Nat}{d:Int}(h:At kp K S θ tr C)(hl:l+1<K.n)(fm:tr.length<17592186044416)(hf:¬js K S θ l):
  Rd zQ 229 #[γ wp,iv (l:Int),iv d] (fJ wp (iu kp a b q gr sw la st)::C) (· =iv 9):=by refine aJ λg=>xZ (Ld.n ?_);refine ae.eq (nA h hl fm hf) λJ6 h6=>?_;exact ah.iD (Br.F (JE.mk (h6 _ λgs=>br.mk (.refl _) rfl)))
theorem sS(h:At kp K S θ tr C)(VA:1<=K.n):
  Fc zQ 169 #[γ wp,.bool dn] (fJ wp (iu kp a b q gr sw la st)::C) (λv H=>v=.tuple #[]/\∃bx,H=fJ wp (iu kp a b q gr sw (bif dn then((K.n-1:Nat):Int)else 0) (Cr dn bx))::qI bx wp::C):=by
 have hn:=h.mq;refine aJ λg=>JF λb1 _=>?_;cases dn
 ·refine Br.no (Ld.q ?_);refine Nil.γ (aj.mk (St.one (c':=iu kp a b q gr sw 0 st) (by exact .tail (.head _)) rfl (by simp[iu]) rfl ?_));refine Ld.q ?_;refine Nil.γ (aj.mk (St.one (c':=iu kp a b q gr sw 0 (Cr false b1)) (by exact .tail (.head _)) rfl (by simp[iu]) rfl ?_));exact aQ.mk .swap ⟨rfl,b1,rfl⟩
 refine Br.yes (DR.self (Ld.q ?_));refine Ld.q ?_;refine Ld.n ?_;intro F;refine ae.eq (ny h) (⟨.refl _,?_⟩);refine ah.cj (b:=1) (Nil.γ (aj.mk λF=>(St.one (c':=iu kp a b q gr sw ((K.n-1:Nat):Int) st) (by exact .tail (.head _)) rfl (by simp[iu]) rfl ?_)));refine Ld.q ?_;refine Nil.γ (aj.mk (St.one (c':=iu kp a b q gr sw ((K.n-1:Nat):Int) (Cr true b1)) (by exact .tail (.head _)) rfl (by simp[iu]) rfl ?_));exact aQ.mk .swap ⟨rfl,b1,rfl⟩
def pI(dn:Bool)(j:Nat):Nat:=bif dn then j+1 else j-1
def ZU(dn:Bool)(j:Nat):Nat:=bif dn then j else j-1
variable{j:Nat}
def RU(hs:bif dn then p<=j else 0<j/\j<=p):Θ p (pI dn j)=Θ p j++[ZU dn j]:=by
 cases dn
 ·simp only[xaj]at hs;obtain⟨i,rfl⟩:∃i,j=i+1:=⟨j-1,by omega⟩;exact s6 hs.2
 exact sY hs
theorem Dl(h:At kp K S (aA o (Θ p j)) (tr++Θ p j) C)(hp:p<K.n)(hs:bif dn then p<=j/\j+1<K.n else 0<j/\j<=p)(fm:(tr++Θ p j).length<17592186044416)(hf:js K S (aA o (Θ p j)) (ZU dn j))(Cw:sw<4611686018427387904):
  Fc zQ (stf dn) #[γ bx] (fJ wp (iu kp j b q gr sw la st)::qI bx wp::C) (λv H=>v=iv 0/\∃C',H=fJ wp (iu kp (pI dn j) b q gr (sw+1) la st)::qI bx wp::C'/\At kp K S (aA o (Θ p (pI dn j))) (tr++Θ p (pI dn j)) C'):=by
 have hn:=h.mq;have hr:=RU (p:=p) (dn:=dn) (j:=j) (by cases dn<;>simp only[xaj,xap]at hs⊢ <;>omega);intro g;rw[hr,gH,<-xag];cases dn
 ·simp only[xaj]at hs;refine xY (R:=aQ _) ?_;unfold L230;refine DR.self (Ld.q ?_);refine Ld.q ?_;refine Ld.n ?_;refine ah.cj (b:=1) λF=>?_;refine ae.pre .swap ?_;refine ae.fn (.cons .here) (Rj (a':=j-1) h zO fm hf zO zO Cw) ?_;rintro v H ⟨rfl,C',rfl,h'⟩;exact aQ.mk .swap ⟨rfl,C',rfl,h'⟩
 simp only[xap]at hs;refine x4 (R:=aQ _) ?_;unfold L228;refine DR.self (Ld.q ?_);refine Ld.q ?_;refine Ld.n ?_;intro F;refine ae.pre .swap ?_;refine ae.fn (.cons .here) (Rj (a':=j+1) h zO fm hf zO zO Cw) ?_;rintro v H ⟨rfl,C',rfl,h'⟩;exact aQ.mk .swap ⟨rfl,C',rfl,h'⟩
theorem Wh(h:At kp K S θ tr C)(hs:bif dn then j+1<K.n else 0<j/\j<K.n)(fm:tr.length<17592186044416)(hf:¬js K S θ (ZU dn j)):
  Rd zQ (stf dn) #[γ bx] (fJ wp (iu kp j b q gr sw la st)::qI bx wp::C) (· =iv 9):=by
 have hn:=h.mq;intro g;cases dn
 ·simp only[xaj]at hs;refine xY (R:=aQ _) ?_;unfold L230;refine DR.self (Ld.q ?_);refine Ld.q ?_;refine Ld.n ?_;refine ah.cj (b:=1) λF=>?_;refine ae.pre .swap ?_;exact ae.eq (YI h zO fm hf) (br.mk .swap rfl)
 simp only[xap]at hs;refine x4 (R:=aQ _) ?_;unfold L228;refine DR.self (Ld.q ?_);refine Ld.q ?_;refine Ld.n ?_;intro F;refine ae.pre .swap ?_;exact ae.eq (YI h zO fm hf) (br.mk .swap rfl)
def Dk(dn:Bool):aW zQ (stf dn)=true:=by cases dn<;>kernel_rfl
def qQ{n:Nat}(hn:n<=64)(hp:p<n)(hj:j<n):(Θ p j).length<=64:=by rw[vX];omega
theorem RQ(h0:At kp K S o tr C)(hp:p<K.n)(mQ:100<=gr/\gr<=1000)(hb:b<=1048576)(Cw:sw<1099511627776)(fm:tr.length<17454747090944)(hla:la=bif dn then((K.n-1:Nat):Int)else 0){r:Nat×Nat×Nat}(hr:(rm K S).Ft gr o p dn ((rm K S).rest dn p) p b q=r):
  Fc zQ 170 #[γ wp] (fJ wp (iu kp p b q gr sw la (Cr dn bx))::qI bx wp::C) (λv H=>v=.tuple #[]/\∃C',H=fJ wp (iu kp r.1 r.2.1 r.2.2 gr (sw+dst r.1 p) la (Cr dn bx))::qI bx wp::C'/\At kp K S (aA o (Θ p r.1)) (tr++Θ p r.1) C'):=by
 have hn:=h0.mq;refine aJ λg=>JD ?_;refine⟨λvs H=>∃(k j b' q':Nat) (C':Hp),vs=[]/\H=fJ wp (iu kp j b' q' gr (sw+dst j p) la (Cr dn bx))::qI bx wp::C'/\At kp K S (aA o (Θ p j)) (tr++Θ p j) C'/\k=(rm K S).rest dn j/\(bif dn then p<=j/\j<K.n else j<=p)/\b'<=1048576/\(rm K S).Ft gr o p dn k j b' q'=r,
  λ_ H=>bif dn then K.n-Fk H else Fk H,JE.mk ⟨_,p,b,q,C,rfl,by simp[dst],by rw[gJ,xaI];exact h0,rfl,by cases dn<;>simp[hp],hb,hr⟩,?_⟩
 rintro H ⟨k,j,b',q',C',_,rfl,hA,hk,hs,hb',uQ⟩ gs;have VC:j<K.n:=by cases dn<;>simp only[xaj,xap]at hs<;>omega
 have G0:dst j p<=64:=by unfold dst;omega
 have Ea:=qQ hn hp VC;have SV:(tr++Θ p j).length<17592186044416:=by rw[xaf];omega
 have wP:(rm K S).n=K.n:=rfl;have hsz:∀o:zL,(rm K S).size o=cK K S o:=λ_=>rfl;intro J5 h5;have fin:r=(j,b',q')->J5 [.bool false] (fJ wp (iu kp j b' q' gr (sw+dst j p) la (Cr dn bx))::qI bx wp::C'):=λe=>h5 _ _ λgs=>Br.no (aQ.here ⟨rfl,C',by rw[e],by rw[e];exact hA⟩);refine DR.self (Ld.n ?_);refine Ld.n ?_;refine ah.cM (Br.dec (λξ=>?_) (λheq=>?_));rotate_left
 ·have hk0:k=0:=by
   rw[hk];unfold Rm.rest;cases dn<;>simp only[xaj,xap]at hla⊢ <;>omega
  subst hk0;exact JE.mk (fin uQ.symm)
 have wR:bif dn then j+1<K.n else 0<j:=by
  cases dn<;>simp only[xaj,xap]at hla⊢ <;>omega
 obtain⟨k',hk'⟩:∃k',k=k'+1:=by
  refine⟨k-1,?_⟩;rw[hk];unfold Rm.rest;cases dn<;>simp only[xaj,xap]at wR⊢ <;>omega
 subst hk';rw[Rm.Ft]at uQ;change (if(rm K S).fit (aA o (Θ p j)) (ZU dn j)=true then _ else _)=r at uQ;refine Ld.n ?_;intro F;refine aM.of (f:=stf dn) rfl (Dk dn) ?_;by_cases hf:js K S (aA o (Θ p j)) (ZU dn j);rotate_left
 ·refine ae.eq (args:=#[γ bx]) (Wh hA (by cases dn<;>simp only[xaj,xap]at wR⊢ <;>omega) SV hf) (ah.iD (aG.mk ?_));rw[xac (λh=>hf (qR.1 h))]at uQ;exact JE.mk (fin uQ.symm)
 refine ae.fn (args:=#[γ bx]) .here (Dl hA hp (by cases dn<;>simp only[xaj,xap]at wR hs⊢ <;>omega) SV hf zO) ?_;rintro v H ⟨rfl,C2,rfl,oI⟩;refine ah.iD (aG.mk ?_);rw[xae (show(rm K S).fit (aA o (Θ p j)) (ZU dn j)=true from qR.2 hf)]at uQ;change (if(if(rm K S).size (aA o (Θ p (pI dn j)))<b' then(rm K S).size (aA o (Θ p (pI dn j)))else b')*gr<(rm K S).size (aA o (Θ p (pI dn j)))*100 then(pI dn j,if(rm K S).size (aA o (Θ p (pI dn j)))<b' then(rm K S).size (aA o (Θ p (pI dn j)))else b',if(rm K S).size (aA o (Θ p (pI dn j)))<b' then pI dn j else q')else(rm K S).Ft gr o p dn k' (pI dn j) (if(rm K S).size (aA o (Θ p (pI dn j)))<b' then(rm K S).size (aA o (Θ p (pI dn j)))else b') (if(rm K S).size (aA o (Θ p (pI dn j)))<b' then pI dn j else q'))=r at uQ;have hle:=gB oI;rw[hsz]at uQ;have ahn:sw+dst j p+1=sw+dst (pI dn j) p:=by unfold dst pI;cases dn<;>simp only[xaj,xap]at wR hs⊢ <;>omega
 rw[ahn];have hnk:k'=(rm K S).rest dn (pI dn j):=by
  unfold Rm.rest at hk⊢;unfold pI;cases dn<;>simp only[xaj,xap]at wR hk⊢ <;>omega
 have Og:bif dn then p<=pI dn j/\pI dn j<K.n else pI dn j<=p:=by
  unfold pI;cases dn<;>simp only[xaj,xap]at wR hs⊢ <;>omega
 have hms:(bif dn then K.n-pI dn j else pI dn j)<(bif dn then K.n-j else j):=by
  unfold pI;cases dn<;>simp only[xaj,xap]at wR⊢ <;>omega
 generalize hj':pI dn j=j' at*;generalize μ:cK K S (aA o (Θ p j'))=s at*;have adO:∀b2 q2,Fk (fJ wp (iu kp j b' q' gr (sw+dst j p) la (Cr dn bx))::qI bx wp::C')=j/\∀C2,Fk (fJ wp (iu kp j' b2 q2 gr (sw+dst j' p) la (Cr dn bx))::qI bx wp::C2)=j':=λb2 q2=>⟨by simp[Fk,fJ,iu,bH],λC2=>by simp[Fk,fJ,iu,bH]⟩;refine JE.mk (h5 _ _ λgs=>Br.yes ?_);refine Ld.n ?_;refine ae.eq (cI oI) ?_;rw[μ];intro J14 h14;have next:∀b2 q2,b2<=1048576->(if b2*gr<s*100 then(j',b2,q2)else(rm K S).Ft gr o p dn k' j' b2 q2)=r->J14 [] (fJ wp (iu kp j' b2 q2 gr (sw+dst j' p) la (Cr dn bx))::qI bx wp::C2):=by
  intro b2 q2 uj q8;refine h14 _ λgs=>?_;have uO:b2*gr<=1048576*1000:=xcg uj mQ.2;refine ah.yC (b:=100) (Ld.n ?_);refine Ld.n ?_;refine ah.yC (ah.nV (Br.dec (λhgt=>?_) (λhgt=>?_)))
  ·rw[xae hgt]at q8;subst q8;exact aQ.here ⟨rfl,C2,rfl,oI⟩
  rw[xac hgt]at q8;refine aD.mk ⟨k',j',b2,q2,C2,rfl,rfl,oI,hnk,Og,uj,q8⟩ ?_;rw[(adO b2 q2).1,(adO b2 q2).2];exact hms
 refine Ld.n ?_;refine ah.eA (Br.dec (λη=>?_) (λη=>?_))
 ·rw[xae η,xae η]at uQ;refine Ld.n ?_;refine Nil.γ (aj.mk (St.one (c':=iu kp j' s q' gr (sw+dst j' p) la (Cr dn bx)) (by exact .head _) rfl (by simp[iu]) rfl ?_));refine Nil.γ (aj.mk (St.one (c':=iu kp j' s j' gr (sw+dst j' p) la (Cr dn bx)) (by exact .head _) rfl (by simp[iu]) rfl ?_));exact JE.mk (next _ _ zO uQ)
 rw[xac η,xac η]at uQ;exact JE.mk (next _ _ hb' uQ)
theorem A4{t:Nat}(h:At kp K S (aA o (Θ p j)) (tr++Θ p j) C)(Cy:o.length=K.n)(hp:p<K.n)(hjt:(p<=t/\t<=j/\j<K.n)\/(j<=t/\t<=p))(Cw:sw<17592186044416)(fm:tr.length<17454747090944):
  Fc zQ 171 #[γ wp,iv (t:Int)] (fJ wp (iu kp j b q gr sw la st)::C) (λv H=>v=.tuple #[]/\∃C',H=fJ wp (iu kp t b q gr (sw+dst j t) la st)::C'/\At kp K S (aA o (Θ p t)) (tr++Θ p t) C'):=by
 have hn:=h.mq;refine aJ λg=>JC ?_;refine⟨λvs H=>∃(i:Nat) (C':Hp),vs=[]/\H=fJ wp (iu kp i b q gr (sw+dst j i) la st)::C'/\At kp K S (aA o (Θ p i)) (tr++Θ p i) C'/\((p<=t/\t<=i/\i<=j/\j<K.n)\/(j<=i/\i<=t/\t<=p)),
  λ_ H=>dst (Fk H) t,JE.mk ⟨j,C,rfl,by simp[dst],h,by omega⟩,?_⟩
 rintro H ⟨i,C',_,rfl,hA,hs⟩ gs;have hin:i<K.n:=by omega
 have hdi:dst j i<=64:=by unfold dst;omega
 have Ea:=qQ hn hp hin;have GO:∀i sw C',Fk (fJ wp (iu kp i b q gr sw la st)::C')=i:=λi sw C'=>by simp[Fk,fJ,iu,bH]
 refine Ld.n ?_;refine ah.Cu (Br.dec (λξ=>?_) (λheq=>?_));rotate_left
 ·obtain rfl:i=t:=by omega
  exact aQ.here ⟨rfl,C',rfl,hA⟩
 refine Ld.n ?_;rcases hs with hs|hs
 ·obtain⟨i,rfl⟩:∃i',i=i'+1:=⟨i-1,by omega⟩;rw[sY zO,gH,<-xag]at hA;refine ae.fq (Ca hA (by rw[sY zO,xaf,xcm]at Ea;rw[xaf];omega)) ?_;rintro w C2 ⟨rfl,oI⟩;rw[rJ (by rw[gf,Cy];omega)]at oI;refine Ext.two (Ld.n ?_);refine ah.inc (Nil.γ (aj.mk (St.one (c':=iu kp (i+1) b q gr (sw+dst j (i+1)+1) la st) (by exact .head _) rfl (by simp[iu]) rfl ?_)));refine Ld.n ?_;refine ah.eA (Br.T (Nil.γ (aj.mk (St.one (c':=iu kp i b q gr (sw+dst j (i+1)+1) la st) (by exact .head _) rfl (by simp[iu]) rfl ?_))));refine aD.mk ⟨i,C2,rfl,by rw[show sw+dst j (i+1)+1=sw+dst j i by unfold dst;omega];rfl,oI,by omega⟩ ?_;show dst (Fk (fJ wp (iu kp i b q gr (sw+dst j (i+1)+1) la st)::C2)) t<dst (Fk (fJ wp (iu kp (i+1) b q gr (sw+dst j (i+1)) la st)::C')) t;rw[GO,GO];unfold dst;omega
 rw[s6 zO,gH,<-xag]at hA;refine ae.fq (Ca hA (by rw[s6 zO,xaf,xcm]at Ea;rw[xaf];omega)) ?_;rintro w C2 ⟨rfl,oI⟩;rw[rJ (by rw[gf,Cy];omega)]at oI;refine Ext.two (Ld.n ?_);refine ah.inc (Nil.γ (aj.mk (St.one (c':=iu kp i b q gr (sw+dst j i+1) la st) (by exact .head _) rfl (by simp[iu]) rfl ?_)));refine Ld.n ?_;refine ah.eA (Br.F (ah.inc (Nil.γ (aj.mk (St.one (c':=iu kp (i+1) b q gr (sw+dst j i+1) la st) (by exact .head _) rfl (by simp[iu]) rfl ?_)))));refine aD.mk ⟨i+1,C2,rfl,by rw[show sw+dst j i+1=sw+dst j (i+1)by unfold dst;omega];rfl,oI,by omega⟩ ?_;show dst (Fk (fJ wp (iu kp (i+1) b q gr (sw+dst j i+1) la st)::C2)) t<dst (Fk (fJ wp (iu kp i b q gr (sw+dst j i) la st)::C')) t;rw[GO,GO];unfold dst;omega
end
end
section
open ax
section
variable {kp v gr:Nat} {K:Kd} {S:Nat->ax.Fn} {θ tr:zL} {C:Hp}
def qM(kp:Nat){gr:Int}(C:Hp):Rd zQ 109 #[γ kp,iv gr] C (· =iv (if gr<100\/1000<gr then 1 else 0)):=by
 refine aJ λg=>KA (ah.aK (Br.no (ah.lss (dh.or (decide (1000<gr)) (λ_=>ah.gtr ⟨rfl,rfl⟩) rfl λgs=>?_))));by_cases h:gr<100\/1000<gr
 ·rw[xae h];refine Br.VV ?_ (br.mk (.refl _) rfl);simpa using h
 rw[xac h];refine Br.no' ?_ (br.mk (.refl _) rfl);simpa using h
def Z7(hp:θ.Perm (List.range K.n)){p:Nat}(Vy:p<K.n)(hv:θ.getD p 0=v):θ.idxOf v=p:=by
 have Cy:θ.length=K.n:=by rw[hp.length_eq,xaF]
 have fQ:θ.Nodup:=hp.nodup_iff.2 xbh;have hm:v∈θ:=by
  rw[<-hv,xas,xab zO];exact xaK _
 have h1:=xes hm;apply getD_inj fQ h1 zO;rw[hv,xas,xab h1];exact List.getElem_idxOf h1
theorem Wl(h:At kp K S θ tr C)(hp:θ.Perm (List.range K.n))(hv:v<K.n)(mQ:100<=gr/\gr<=1000)(fm:tr.length<17454747090944){r:Nat×Nat}(hr:(rm K S).sW gr θ (θ.idxOf v)=r):
  Fc zQ 111 #[γ kp,iv (v:Int),iv (gr:Int)] C (λw H=>w=.tuple #[rep (cK K S θ) (cK K S (aA θ (Θ (θ.idxOf v) r.1))) r.2,iv 0]/\At kp K S (aA θ (Θ (θ.idxOf v) r.1)) (tr++Θ (θ.idxOf v) r.1) H):=by
 have hn:=h.mq;have Cy:θ.length=K.n:=by rw[hp.length_eq,xaF]
 have hsz:=gB h;have wP:(rm K S).n=K.n:=rfl;refine aJ λg=>Ky λb1 _=>?_;refine ae.eq (qM kp (gr:=(gr:Int)) C) ?_;rw[xac zO];refine ah.cM (Br.F (ae.rq (EY h hv) ?_));rintro w ⟨p,Vy,hpv,rfl⟩;have hpi:=Z7 hp Vy hpv;rw[hpi]at hr⊢;have am4:p<(rm K S).n:=Vy;refine Ext.two (ah.cM (Br.F (ae.eq (cI h) (Build.mk (cs:=[iv ((cK K S θ:Nat):Int),iv 0,iv 0,.bool false]) zK λxH _=>?_))));refine St.q ?_;refine Ld.f ?_;refine Build.mk (cs:=[γ kp,iv (p:Int),iv ((cK K S θ:Nat):Int),iv (p:Int),iv (gr:Int),iv 0,iv 0,.nilFunc]) zK λwp _=>?_;refine ae.eq (ny h) (ah.cj (b:=1) (ah.cj (ah.By ?_)));obtain⟨X,hX⟩:∃X:Hp,X=[(xH,Obj.cells (List.toArray [iv ((cK K S θ:Nat):Int),iv 0,iv 0,.bool false]) 97 zZ),(b1,Obj.cells #[iv 0,iv 0,iv 0,.bool false] 97 zZ)]:=⟨_,rfl⟩;unfold Rm.sW at hr;simp only[wP]at hr;rw[show(rm K S).size θ=cK K S θ from rfl]at hr;generalize hdn:decide (K.n-1-p<=p)=dn at*;have ai6:∀x:Nat×Obj,aO (x::(xH,Obj.cells (List.toArray [iv ((cK K S θ:Nat):Int),iv 0,iv 0,.bool false]) 97 zZ)::(b1,Obj.cells #[iv 0,iv 0,iv 0,.bool false] 97 zZ)::C) (X++(x::C)):=λx=>.perm (by rw[hX];exact(xaO (l₁:=[_,_])).symm);refine ae.pre (ai6 _) ?_;refine ae.fq (sS (wp:=wp) (a:=p) (b:=cK K S θ) (q:=p) (gr:=gr) (sw:=0) (la:=0) (st:=.nilFunc) (dn:=dn) h zO) ?_;rintro w H ⟨rfl,bx,rfl⟩;refine ae.fn (.app .here) (RQ h Vy mQ zO zO fm rfl rfl) ?_;rintro w H ⟨rfl,C1,rfl,XU⟩;have Cz:=(rm K S).wG gr θ p dn ((rm K S).rest dn p) p (cK K S θ) p (λh=>by unfold Rm.rest;rw[h];exact xai _) (by rw[gJ];rfl);generalize (rm K S).Ft gr θ p dn ((rm K S).rest dn p) p (cK K S θ) p=a at*;have q8:=(rm K S).wG gr θ p (!dn) ((rm K S).rest (!dn) p) p a.2.1 a.2.2 (λh=>by unfold Rm.rest;rw[h];exact xai _) Cz.size;obtain⟨a1,a2,a3,a4⟩:=Cz;unfold Rm.rest at a1;rw[wP]at a1;have uS:a.1<K.n/\((p<=a.1)\/(a.1<=p)):=by cases dn<;>simp only[xaj,xap]at a1<;>omega
 have hab:a.2.1<=1048576:=by
  have:a.2.1<=cK K S θ:=by omega
  omega
 have QI:dst a.1 p<=64:=by unfold dst;omega
 refine ae.pre (aO.cv (.cons .tail) X) ?_;refine ae.fn (.app .here) (A4 (t:=p) XU Cy Vy zO zO fm) ?_;rintro w H ⟨rfl,C2,rfl,oI⟩;rw[gJ,xaI]at oI;have oI:At kp K S θ tr C2:=oI;refine Ld.n ?_;refine Un.not (ae.fq (sS (dn:= !dn) oI zO) ?_);rintro w H ⟨rfl,bx2,rfl⟩;refine ae.fn (.app .here) (RQ oI Vy mQ hab zO fm rfl rfl) ?_;rintro w H ⟨rfl,C3,rfl,Fx⟩;generalize (rm K S).Ft gr θ p (!dn) ((rm K S).rest (!dn) p) p a.2.1 a.2.2=b at*;obtain⟨e1,e2,e3,e4⟩:=q8;unfold Rm.rest at e1;rw[wP]at e1;have Ab:bif dn then p<=a.2.2/\a.2.2<=a.1 else a.1<=a.2.2/\a.2.2<=p:=by
  cases dn<;>simp only[xaj,xap]at a3 a1⊢ <;>omega
 have hb1:b.1<K.n/\((p<=b.1)\/(b.1<=p)):=by cases dn<;>simp only[xaj,xap,xct,xcE]at e1<;>omega
 have yK:dst b.1 p<=64:=by unfold dst;omega
 intro J47 h47;have fin:∀(bb:Nat) (GC:Int) (st':zV) (Cf:Hp),At kp K S (aA θ (Θ p r.1)) (tr++Θ p r.1) Cf->J47 [] (X++(fJ wp (iu kp r.1 bb r.1 gr r.2 GC st')::Cf)):=by
  intro bb GC st' Cf hAf;rw[hX];refine h47 _ λgs=>?_;refine DR.of (R:=[fJ wp (iu kp r.1 bb r.1 gr r.2 GC st')]) (aO.aaj (.tail _ (.tail _ (.head _)))) (Ld.n ?_);intro F;refine ae.eq (cI hAf) (⟨aO.aaj (.tail _ (.tail _ (.head _))),?_⟩);refine aj.mk λF=>(St.one (c':=#[iv ((cK K S θ:Nat):Int),iv ((cK K S (aA θ (Θ p r.1)):Nat):Int),iv 0,.bool false]) (by exact .head _) rfl zI rfl ?_);refine⟨aO.aaj (.tail _ (.tail _ (.head _))),?_⟩;refine aj.mk λF=>(St.one (c':=#[iv ((cK K S θ:Nat):Int),iv ((cK K S (aA θ (Θ p r.1)):Nat):Int),iv ((r.2:Nat):Int),.bool false]) (by exact .head _) rfl zI rfl ?_);refine aB.q ?_;refine St.q ?_;refine aB.q ?_;exact aQ.mk (.skip (.skip .tail)) ⟨rfl,hAf⟩
 refine Ld.n ?_;refine ah.Cu (Br.dec (λξ=>?_) (λheq=>?_))
 ·-- the other way is better
  rw[xae ξ]at hr;refine Ld.n ?_;refine ae.pre (aO.cv (.cons .tail) X) ?_;have hbt:(p<=b.2.2/\b.2.2<=b.1/\b.1<K.n)\/(b.1<=b.2.2/\b.2.2<=p):=by
   cases dn<;>simp only[xaj,xap,xct,xcE]at e3 e1<;>omega
  refine ae.fn (.app .here) (A4 (t:=b.2.2) Fx Cy Vy hbt zO fm) ?_;rintro w H ⟨rfl,C4,rfl,hA4⟩;subst hr;refine JE.mk ?_;rw[xa1];exact fin b.2.1 _ _ C4 hA4
 -- back again
 have heq:b.2.2=a.2.2:=xdr.1 heq;rw[xac (λh=>h heq)]at hr;refine ae.pre (aO.cv (.cons .tail) X) ?_;refine ae.fn (.app .here) (A4 (t:=p) Fx Cy Vy zO zO fm) ?_;rintro w H ⟨rfl,C4,rfl,hA4⟩;rw[gJ,xaI]at hA4;have hA4:At kp K S θ tr C4:=hA4;refine ae.fq (sS (dn:=dn) hA4 zO) ?_;rintro w H ⟨rfl,UG,rfl⟩;obtain⟨s3,hs3⟩:∃s3,s3=0+dst a.1 p+dst a.1 p+dst b.1 p+dst b.1 p:=⟨_,rfl⟩;rw[<-hs3];obtain⟨YQ,ahN⟩:∃YQ,YQ=(bif dn then((K.n-1:Nat):Int)else 0):=⟨_,rfl⟩;rw[<-ahN];refine⟨λvs H=>∃(i:Nat) (C':Hp),vs=[]/\H=fJ wp (iu kp i b.2.1 b.2.2 gr (s3+dst p i) YQ (Cr dn UG))::qI UG wp::(X++C')/\At kp K S (aA θ (Θ p i)) (tr++Θ p i) C'/\(bif dn then p<=i/\i<=b.2.2 else b.2.2<=i/\i<=p),
  λ_ H=>dst (Fk H) b.2.2,JE.of (H':=fJ wp (iu kp p b.2.1 b.2.2 gr s3 YQ (Cr dn UG))::qI UG wp::(X++C4)) (.perm ?_) ⟨p,C4,rfl,by simp[dst],by rw[gJ,xaI];exact hA4,?_⟩,?_⟩
 ·exact(xaO (l₁:=X)).trans (List.Perm.cons _ xaO)
 ·rw[heq];cases dn<;>simp only[xaj,xap]at Ab⊢ <;>omega
 rintro H ⟨i,C5,_,rfl,hA5,hi⟩ gs;rw[heq]at hi;have hin:i<K.n:=by cases dn<;>simp only[xaj,xap]at hi Ab<;>omega
 have hdi:dst p i<=64:=by unfold dst;omega
 have Ea:=qQ hn Vy hin;intro J83 h83;refine DR.self (Ld.n ?_);refine Ld.n ?_;refine ah.Cu (Br.dec (λξ=>?_) (λhie=>?_))
 ·refine Ld.n ?_;intro F;refine aM.of (f:=stf dn) rfl (Dk dn) ?_;have S7:aO (fJ wp (iu kp i b.2.1 b.2.2 gr (s3+dst p i) YQ (Cr dn UG))::qI UG wp::(X++C5)) (X++(fJ wp (iu kp i b.2.1 b.2.2 gr (s3+dst p i) YQ (Cr dn UG))::qI UG wp::C5)):=
   .perm ((xaO (l₁:=X)).trans (List.Perm.cons _ xaO)).symm
  refine ae.pre S7 ?_;have hstep:bif dn then p<=i/\i+1<K.n else 0<i/\i<=p:=by
   rw[heq]at ξ;cases dn<;>simp only[xaj,xap]at hi Ab⊢ <;>omega
  have hfit:js K S (aA θ (Θ p i)) (ZU dn i):=by
   refine qR.1 (a4 i ?_);rw[heq]at ξ;cases dn<;>simp only[xaj,xap]at hi Ab⊢ <;>omega
  refine ae.fn (args:=#[γ UG]) (.app .here) (Dl hA5 Vy hstep (by rw[xaf];omega) hfit zO) ?_;rintro w H ⟨rfl,C6,rfl,hA6⟩;refine ah.iD (aG.mk ?_);have Ed:s3+dst p i+1=s3+dst p (pI dn i):=by unfold dst pI;cases dn<;>simp only[xaj,xap]at hstep⊢ <;>omega
  rw[Ed];refine JE.of (.perm ((xaO (l₁:=X)).trans (List.Perm.cons _ xaO))) (h83 _ _ λgs=>Br.yes ?_);refine aD.mk ⟨pI dn i,C6,rfl,rfl,hA6,?_⟩ ?_
  ·rw[heq]at ξ⊢;unfold pI;cases dn<;>simp only[xaj,xap]at hi hstep⊢ <;>omega
  have GO:∀i sw C',Fk (fJ wp (iu kp i b.2.1 b.2.2 gr sw YQ (Cr dn UG))::C')=i:=λi sw C'=>by simp[Fk,fJ,iu,bH]
  rw[GO,GO,heq];rw[heq]at ξ;unfold pI dst;cases dn<;>simp only[xaj,xap]at hi hstep⊢ <;>omega
 have hie:i=b.2.2:=xdr.1 hie;subst hie;subst hr;refine JE.mk (h83 _ _ λgs=>Br.no ?_);refine JE.of ?_ (fin b.2.1 YQ (Cr dn UG) C5 hA5);refine(aO.cons .tail).trans ?_;refine(aO.perm (xaO (l₁:=X)).symm).trans ?_;have e:s3+dst p b.2.2=dst a.1 p+dst a.1 p+dst b.1 p+(dst b.1 p+dst p b.2.2):=by omega
 rw[e];exact .refl _
end
end
section
def Rw{n A:Nat}{L:List (zL)}(hn:n<=16)(hl:L.length<33554432){k:Nat}(hk:k<=n):(an.st n L A k).length<2199023255551:=by have h2:=an.sU n L A k;have h3:2^k<=2^16:=xaA zD zO;have h4:2^k*L.length<=2^16*L.length:=xaY _ h3;omega
def Uj{B:Hp}{v1 v2:zV}{a b:zL}(h1:Words B v1 a)(h2:Words B v2 b)(cB:a.length<2^62):Rd zQ 270 #[v1,v2] B (· =.bool (decide (a=b))):=by
 refine aJ λg=>Ig (h1.1.bL (h2.1.bL ?_));simp only[av];refine ah.Cu (Br.dec (λh=>?_) (λh=>?_))
 ·exact br.mk (.refl _) (by rw[xan (λe=>h (by rw[e]))])
 apply h1.1.bL;simp only[av];have Ξ:a.length=b.length:=by omega
 refine⟨λvs H=>H=B/\∃j:Nat,vs=[iv (j:Int)]/\j<=a.length/\∀i,i<j->a[i]? =b[i]?,λvs _=>a.length-bH vs 0,JE.mk ⟨rfl,0,rfl,by omega,by omega⟩,?_⟩;rintro w H ⟨rfl,j,⟨⟩,hj,aH⟩ gs;refine ah.eA (Br.dec (λη=>?_) (λη=>?_))
 ·have ga:a[j]? =some a[j]:=xab η;have gb:b[j]? =some b[j]:=xab zO;apply h1.1.ld (dk ga) (λ_ h=>h);apply h2.1.ld (dk gb) (λ_ h=>h);refine ah.Cu (Br.dec (λξ=>?_) (λξ=>?_))
  ·exact br.mk (.refl _) (by rw[xan];rintro rfl;exact ξ rfl)
  refine ah.inc (aD.mk ⟨rfl,j+1,rfl,by omega,λi hi=>?_⟩ (by simp[bH];omega));by_cases e:i=j
  ·subst e;rw[ga,gb];simp;omega
  exact aH i zO
 apply br.mk (.refl _);rw[xam];apply xba ;intro i;by_cases hi:i<a.length
 ·exact aH i zO
 rw[xaB zO,xaB zO]
def Sp{B:Hp}{v:zV}{n u A:Nat}{L:List (zL)}(ht:jW B v (L.map λws=>⟨n,ws⟩))(hf:∀ws∈L,an.eU n ws)(ξ:L≠[])(cB:L.length<4398046511104)(hA:A<2^n)(hu:u<n)(hAu:A.testBit u=false):
  Rd zQ 242 #[v,.int .u64 (A:Int),iv (u:Int)] B (· =.tuple #[iv ((an.lvl n L A u:Nat):Int),iv 0]):=by
 obtain⟨w0,Vx⟩:∃w0,L[0]? =some w0:=⟨_,xab (xde.2 ξ)⟩;have wQ:n<=16:=(hf w0 (xav Vx)).yz;have anP:A<65536:=xaP hA (xaA (n:=2) zD wQ);refine aJ λg=>IE (ae.eq (vV ht zP) ?_);rw[xam (DL hf)];refine Un.not (Br.no λJ hJ=>(ht.bL ?_));rw[xar];have hpos:0<L.length:=xde.2 ξ;refine ah.nV (b:=0) (Br.afe hpos (ht.ldN (i:=0) (t:=⟨n,w0⟩) (by rw[xaq,Vx];rfl) (λ_ h=>h) ?_));refine JE.mk (hJ _ _ λgs=>?_);simp only;refine ah.lss (dh.or (decide (n<=u)) (λ_=>?_) rfl λgs=>?_)
 ·exact ah.uo ⟨by trivial,rfl⟩
 rw[show(decide ((u:Int)<0)||decide (n<=u))=false by simp;omega];refine dh.or (decide (A>>>n≠0)) (λ_=>?_) rfl λgs=>?_
 ·exact ah.iW (by simp[bI];omega) (ah.Cu (b:=0) ⟨by trivial,rfl⟩)
 rw[show(false||decide (A>>>n≠0))=false by rw[xa0,xdy hA];rfl];apply Br.no;have adz:∀k,A>>>k<18446744073709551616:=λk=>xaC (xbm _ _) zO;refine ah.iW (by simp[bI];omega) (ah.jU (b:=1) (by simpa[bI]using adz u) zD (ah.fc (b:=1) (Br.Ut (by rw[an.vx,hAu];simp) (ae.fq (NL ht rfl hf zO) ?_))));rintro r H ⟨b,es,ck,m,N,rfl,rfl,hE,hm⟩;have hbound:∀k,k<=n->∀m:List (List UInt8×zL),(m.map Prod.snd).Nodup->(∀x,x∈m.map Prod.snd↔x∈an.st n L A k)->m.length<4611686018427387904:=by
  intro k hk m fQ hmem;have h1:=(an.gU fQ (an.n9 n L A k) hmem).length_eq;have h2:=an.sU n L A k;have h3:2^k<=2^16:=xaA zD zO;have h4:2^k*L.length<=2^16*L.length:=xaY _ h3;rw[xar]at h1;omega
 refine⟨λvs H=>∃(k:Nat) (b:Nat) (es:Array MapEntry) (ck:Nat) (m:List (List UInt8×zL)) (N:Hp),vs=[.map (some b),iv (k:Int)]/\k<=n/\H=(b,.map es ck)::(N++B)/\gN n (N++B) es ck m/\∀x,x∈m.map Prod.snd↔x∈an.st n L A k,
  λvs _=>n-bH vs 1,JE.mk ⟨0,b,es,ck,m,N,rfl,by omega,rfl,hE,λx=>by rw[hm];exact an.eG.symm⟩,?_⟩
 clear hm hE;rintro w25 w26 H ⟨k,b,es,ck,m,N,⟨⟩,hk,rfl,hE,hm⟩ gs;have tw:=hE.mono (B':=(b,Obj.map es ck)::(N++B)) zS;refine ah.eA (Br.dec (λη=>?_) (λη=>?_))
 ·intro J hJ;refine ah.iW (by simp[bI];omega) (ah.jU (b:=1) (by simpa[bI]using adz k) zD (ah.fc (b:=1) (Br.dec (λh=>?_) (λh=>?_))))
  ·have hb:=(an.vx A k).1 h;apply ae.fq (Ep (.head _) tw η (hbound k hk m hE.nodup hm));rintro r H ⟨b',τ,bF,m',N',rfl,rfl,Ek,Ω⟩;refine Ext.mk rfl (Ext.mk rfl (JE.mk (hJ _ _ λgs=>?_)));refine ah.inc (aD.mk ⟨k+1,b',τ,bF,m',N'++(b,.map es ck)::N,rfl,by omega,by rw[xag];rfl,by rw[xag];exact Ek,λx=>?_⟩ (by simp[bH];omega));rw[Ω,an.st,xae hb,an.bX];constructor
   ·rintro⟨t,h1,h2⟩;exact⟨t,(hm t).1 h1,h2⟩
   rintro⟨t,h1,h2⟩;exact⟨t,(hm t).2 h1,h2⟩
  have hb:A.testBit k=false:=by cases hh:A.testBit k;rfl;exact absurd ((an.vx A k).2 hh) h
  refine JE.mk (hJ _ _ λgs=>?_);refine ah.inc (aD.mk ⟨k+1,b,es,ck,m,N,rfl,by omega,rfl,hE,λx=>?_⟩ (by simp[bH];omega));rw[hm,an.st,hb];simp
 have:k=n:=by omega
 subst this;apply ae.fq (Ep (.head _) tw hu (hbound k hk m hE.nodup hm));rintro r H ⟨b',τ,bF,m',N',rfl,rfl,Ek,Ω⟩;refine Ext.mk rfl (Ext.mk rfl (br.mk ?_ ?_))
 ·exact .skip (.dX (.skip .right))
 have:=an.kz (n:=k) (v:=u) (an.gU hE.nodup (an.n9 k L A k) hm);unfold an.lvl;rw[<-this];rfl
theorem vJ{B:Hp}{v:zV}{t:Tb}(ht:FC B v t):Rd zQ 241 #[v] B (· =.tuple (if TF t then#[.int .u64 ((an.qJ t.n.toNat t.ws:Nat):Int),iv 0]else#[.int .u64 0,iv 5])):=by
 obtain⟨tn,ws⟩:=t;obtain⟨s,rfl,hw⟩:=ht;simp only at hw⊢;refine aJ λg=>IF λb1 _=>?_;refine aB.q ?_;refine xE λb2=>?_;refine ae.rd .here (xe (t:=⟨tn,ws⟩) (by exact .head _) (hw.mono zS)) ?_;rintro v rfl;apply Un.not;by_cases hT:TF ⟨tn,ws⟩
 case neg=>
  rw[xan hT,xac hT];exact Br.yes (br.mk (by repeat (first|exact aO.refl _|apply aO.cons|apply aO.skip|apply aO.cv|apply aO.dX)) rfl)
 rw[xam hT,xae hT];apply Br.no;obtain⟨n,rfl⟩:∃n:Nat,tn=n:=⟨tn.toNat,by have:=hT.1;simp only at this;omega⟩;have hf:an.eU n ws:=by have:=hT.2;simpa using this
 refine aj.mk (Ld.mk zM rfl ?_);refine⟨λvs H=>∃(k:Nat) (N:Hp),vs=[.int .u64 ((an.l9 n ws k:Nat):Int),iv (k:Int)]/\k<=n/\H=(b1,.cells (Value.cells (.agg #[iv (n:Int),s])) 175 zZ)::(N++B),
  λvs _=>n-bH vs 1,JE.of .tail ⟨0,[],rfl,by omega,rfl⟩,?_⟩
 rintro w15 w16 H ⟨k,N,⟨⟩,hk,rfl⟩ gs;have wQ:=hf.yz;have Y9:=an.n8 n ws k;have amz:an.l9 n ws k<65536:=xaP Y9 (xaA (n:=2) zD (by omega:k<=16));refine ah.eA (Br.dec (λη=>?_) (λη=>?_))
 ·intro J hJ;refine DR.self (aB.q (aB.q ?_));refine ae.pq (B:=N++B) (BO (v:=.agg (List.toArray [iv (n:Int),s])) ⟨s,rfl,hw.mono zS⟩ hf η) ?_;rintro v N1 ⟨s1,rfl,jQ⟩;refine⟨.cons .right,CY.mk rfl ?_⟩;refine ae.pq (B:=N1++(N++B)) (BO (v:=.agg (List.toArray [iv (n:Int),s])) ⟨s,rfl,hw.mono zS⟩ hf η) ?_;rintro v N2 ⟨s2,rfl,qm⟩;refine⟨.cons (.dX .right),CY.mk rfl ?_⟩;refine ae.eq (B:=N2++(N1++(N++B))) (Uj (jQ.mono zS) qm (by have:=vj (an.eH (v:=k) (ws:=ws) (b:=false) hf.yz);simp only;omega)) (⟨.cons (.dX .right),Un.not ?_⟩);have iz:JE J [.int .u64 ((an.l9 n ws (k+1):Nat):Int)] ((b1,.cells (Value.cells (.agg #[iv (n:Int),s])) 175 zZ)::(N2++(N1++(N++B)))):=by
   refine JE.mk (hJ _ _ λgs=>?_);exact ah.inc (aD.mk ⟨k+1,N2++(N1++N),rfl,by omega,by rw[xag,xag]⟩ (by simp[bH];omega))
  rw[an.l9]at iz;by_cases hd:an.ι n ws k=true
  ·rw[xae hd]at iz;have:an.iU n ws k false≠an.iU n ws k true:=by simpa[an.ι]using hd
   rw[xan this];refine Br.yes (ah.oc (a:=1) ?_);have h2:2^k<65536:=xaP (xby (n:=16) zD zO) zD;rw[xa4,xbl zO];exact ah.Lt (by simp[bI];omega) (by simp[bI];omega) iz
  rw[xac hd]at iz;have:an.iU n ws k false=an.iU n ws k true:=by simpa[an.ι]using hd
  rw[xam this];exact Br.no iz
 have:k=n:=by omega
 subst this;refine br.mk (.skip .right) ?_;simp[an.qJ]
theorem R8{B:Hp}{v:zV}{ts:List Tb}(ht:jW B v ts)(cB:ts.length<4398046511104):Px zQ 240 #[v] B (λr _=>∃s,r=.tuple #[s,iv (if sJ ts then 0 else 5)]):=by
 refine aJ λg=>IG (ae.eq (vV ht zO) (Un.not ?_));by_cases hO:sJ ts
 case neg=>rw[xan hO,xac hO];exact Br.yes (HT.mk (.refl _) ⟨_,rfl⟩)
 rw[xam hO,xae hO];refine Br.no (ht.bL (ah.fc (b:=0) (Br.dec (λh0=>HT.mk (.refl _) ⟨_,rfl⟩) (λh0=>?_))));obtain⟨n,L,wQ,rfl,ξ,hf⟩:=Lv hO (by intro e;rw[e]at h0;exact h0 rfl);rw[xar]at cB;obtain⟨w0,Vx⟩:∃w0,L[0]? =some w0:=⟨_,xab (xde.2 ξ)⟩;refine ht.ldN (i:=0) (t:=⟨n,w0⟩) (by rw[xaq,Vx];rfl) (λ_ h=>h) ?_;simp only;refine cJ.ints zO zO λbw=>?_;refine ht.bL ?_;refine⟨λvs H=>∃(k:Nat) (l:zL),vs=[iv (k:Int)]/\k<=L.length/\H=(bw,.cells (az .u64 (iw l)) 33 zZ)::B/\l.length=n/\∀w∈l,w<18446744073709551616,
  λvs _=>L.length-bH vs 0,JE.mk ⟨0,List.replicate n 0,rfl,by omega,by simp[iw],by simp,λw hw=>by rw[xbS hw];decide⟩,?_⟩
 rintro w H ⟨k,l,⟨⟩,hk,rfl,hl,Zf⟩ gs;rw[xar];refine ah.eA (Br.dec (λη=>?_) (λη=>?_))
 ·have hg:(L.map λws=>(⟨n,ws⟩:Tb))[k]? =some ⟨n,L[k]⟩:=by rw[xaq,xab η];rfl
  have p7:=hf L[k] (xaK η);refine ht.ld hg zS λs hw=>?_;intro b2 _;refine St.p ?_ ?_
  ·have:=bT hw;simpa[Value.oneCell']using this
  refine aB.q ?_;refine ae.eq (B:=B) (vJ (v:=.agg (List.toArray [iv (n:Int),s])) (t:=⟨n,L[k]⟩) ⟨s,rfl,hw⟩) ?_;rw[xae (show TF ⟨(n:Int),L[k]⟩from⟨by simp,by simpa using p7⟩)];refine Ext.mk rfl (Ext.mk rfl (aP.mk ?_));simp only[xbe];have adx:an.qJ n L[k]<65536:=xaP (an.n8 n L[k] n) (xaA (n:=2) zD wQ);refine⟨λvs H=>∃(j:Nat) (l:zL),vs=[iv (j:Int)]/\j<=n/\H=(bw,.cells (az .u64 (iw l)) 33 zZ)::B/\l.length=n/\∀w∈l,w<18446744073709551616,
   λvs _=>n-bH vs 0,JE.of .tail ⟨0,l,rfl,by omega,rfl,hl,Zf⟩,?_⟩
  rintro w H ⟨j,l,⟨⟩,hj,rfl,hl,Zf⟩ gs;refine ah.eA (Br.dec (λQD=>?_) (λQD=>?_))
  ·intro J hJ;have iz:∀l:zL,l.length=n->(∀w∈l,w<18446744073709551616)->JE J [] ((bw,.cells (az .u64 (iw l)) 33 zZ)::B):=λl hl Zf=>by
    refine JE.mk (hJ _ λgs=>?_);exact ah.inc (aD.mk ⟨j+1,l,rfl,by omega,rfl,hl,Zf⟩ (by simp[bH];omega))
   have hsh:an.qJ n L[k]>>>j<65536:=xaC (xbm _ _) adx;refine ah.iW (by simp[bI];omega) (ah.jU (b:=1) (by simp[bI];omega) zD (ah.fc (b:=1) (Br.dec (λh=>?_) (λh=>iz l hl Zf))));refine DR.self ?_;have hgj:l[j]? =some l[j]:=xab zO;have hlj:=Zf _ (xaK (show j<l.length by omega));refine ay.nat QD ?_;refine Ld.mk (v:=.int .u64 (l[j]:Int)) (by exact .head _) (by simp[az,iw,hgj]) ?_;refine ah.oc (a:=1) ?_;have h2:2^j<65536:=xaP (xby (n:=16) zD zO) zD;rw[xa4,xbl zO];refine ah.E4 (by simp[bI];omega) (by simp[bI];omega) ?_;have h3:=nD (an.qJ n L[k]) (2^j);refine ah.Lt (by simp only[bI];exact hlj) (by simp only[bI];omega) (ay.nat QD ?_);refine St.ints (l:=iw l) (by exact .head _) zP ?_;have e:(iw l).set j ((l[j]|||nE (an.qJ n L[k]) (2^j):Nat):Int)=iw (l.set j (l[j]|||nE (an.qJ n L[k]) (2^j))):=by simp[iw,xcC]
   rw[e];refine iz _ (by simp[hl]) λw hw=>?_;rcases xb2 hw with hw|rfl
   ·exact Zf w hw
   exact xbM (n:=64) hlj zO
  exact ah.inc (aD.mk ⟨k+1,l,rfl,by omega,rfl,hl,Zf⟩ (by simp[bH];omega))
 exact HT.mk (by repeat (first|exact cc.refl _|apply cc.cons|apply cc.app)) ⟨_,rfl⟩
end
end Go.Proofs
namespace an
open Go.Sx
def gK:zL->Nat
 | []=>0
 |x::r=>r.foldl min x
def su:∀(r:zL) (x:Nat),r.foldl min x<=x/\∀y∈r,r.foldl min x<=y
 | [],x=>⟨xai _,by simp⟩
 |z::r,x=>by
  obtain⟨h1,h2⟩:=su r (min x z);refine⟨by rw[xcL];omega,λy hy=>?_⟩;rw[xcL];rcases xak.1 hy with rfl|hy
  ·omega
  exact h2 y hy
def qt:∀(r:zL) (x:Nat),r.foldl min x=x\/r.foldl min x∈r
 | [],x=>.inl rfl
 |z::r,x=>by
  rw[xcL];rcases qt r (min x z)with h|h
  ·rw[h];rcases Nat.le_total x z with h'|h'
   ·left;omega
   right;rw[xdz h'];simp
  right;exact xbv _ h
def DU{l:zL}{y:Nat}(h:y∈l):gK l<=y:=by
 cases l with
 |nil=>simp at h
 |cons x r=>
  obtain⟨h1,h2⟩:=su r x;rcases xak.1 h with rfl|h
  ·exact h1
  exact h2 y h
def pK{l:zL}(h:l≠[]):gK l∈l:=by
 cases l with
 |nil=>exact absurd rfl h
 |cons x r=>
  rcases qt r x with h|h
  ·show r.foldl min x∈_;rw[h];simp
  exact xbv _ h
def DV{l:zL}{m:Nat}(h1:m∈l)(h2:∀y∈l,m<=y):gK l=m:=
 xef (DU h1) (h2 _ (pK (by intro e;rw[e]at h1;simp at h1)))
def Gt(l:zL)(x:Nat):gK (l++[x])=if l=[]then x else min (gK l) x:=by
 cases l with
 |nil=>rfl
 |cons y r=>simp[gK,xds]
def bR(n a:Nat):zL:=(List.range n).filter λv=> !a.testBit v
def has(n a:Nat):zL:=(List.range n).filter λv=>a.testBit v
variable{n a v:Nat}
def cU:v∈bR n a↔v<n/\a.testBit v=false:=by simp[bR]
def rV:v∈has n a↔v<n/\a.testBit v=true:=by simp[has]
def oS{α:Type}(p q:α->Bool)(x:α):∀(l:List α),l.Nodup->x∈l->p x=true->q x=false->(∀y∈l,y≠x->q y=p y)->(l.filter q).length+1=(l.filter p).length
 | [],_,h,_,_,_=>by simp at h
 |y::l,nd,h,hp,hq,aH=>by
  rw[xaX]at nd;by_cases e:y=x
  ·subst e;have hsame:l.filter q=l.filter p:=by
    apply xdq;intro z hz;exact aH z (by simp[hz]) (λe=>nd.1 (e▸hz))
   rw[xbz,xbz,hp,hq,hsame];simp
  have hxl:x∈l:=by rcases xak.1 h with h|h;exact absurd h.symm e;exact h
  have ih:=oS p q x l nd.2 hxl hp hq λz hz ξ=>aH z (by simp[hz]) ξ;have hy:=aH y zI e;rw[xbz,xbz,hy];cases p y
  ·simpa using ih
  simp only[xa5,xax];omega
def rM{u:Nat}(h:v≠u):(aC a u true).testBit v=a.testBit v:=by rw[ak,xac h]
def gW(h:v∈bR n a):(bR n (aC a v true)).length+1=(bR n a).length:=by obtain⟨h1,h2⟩:=cU.1 h;refine oS _ _ v (List.range n) xbh (xaN.2 h1) (by simp[h2]) (by simp[ak]) λy hy ξ=>?_;rw[rM ξ]
def UO(n:Nat)(c:Nat->Nat->Nat):Nat->Nat->Nat
 |0,_=>0
 |f+1,a=>gK ((bR n a).map λv=>c a v+UO n c f (aC a v true))
def par(n:Nat)(c:Nat->Nat->Nat):Nat->Nat->Nat
 |0,_=>0
 |f+1,s=>gK ((has n s).map λv=>c (aC s v false) v+par n c f (aC s v false))
def ET{n:Nat}{c:Nat->Nat->Nat}:∀(f:Nat) (a:Nat),(bR n a).length<=f->UO n c (f+1) a=UO n c f a
 |0,a,h=>by
  have:bR n a=[]:=xcS.1 zO;simp[UO,this,gK]
 |f+1,a,h=>by
  rw[UO,UO];congr 1;apply xbn;intro v hv;rw[ET f _ (by have:=gW hv;omega)]
def WV(n a:Nat):(bR n a).length<=n:=by have:=xbU (λv=> !a.testBit v) (List.range n);simpa[bR]using this
def B(n:Nat)(c:Nat->Nat->Nat)(a:Nat):Nat:=UO n c n a
def W(n:Nat)(c:Nat->Nat->Nat)(s:Nat):Nat:=par n c n s
def KN(n:Nat)(c:Nat->Nat->Nat)(a:Nat):B n c a=gK ((bR n a).map λv=>c a v+B n c (aC a v true)):=by unfold B;rw[<-ET n a (WV n a)];rfl
variable{c:Nat->Nat->Nat}
def afC(hv:v∈bR n a):B n c a<=c a v+B n c (aC a v true):=by rw[KN n c a];exact DU (xal.2 ⟨v,hv,rfl⟩)
def afD(h:bR n a≠[]):∃v∈bR n a,B n c a=c a v+B n c (aC a v true):=by have:=pK (l:=(bR n a).map λv=>c a v+B n c (aC a v true)) (by simpa using h);rw[<-KN]at this;obtain⟨v,hv,e⟩:=xal.1 this;exact⟨v,hv,e.symm⟩
def MI(h:bR n a=[]):B n c a=0:=by rw[KN,h];rfl
structure Used(n:Nat)(c:Nat->Nat->Nat)(U:Nat):Prop where
 zero:∀a v,v<n->a.testBit v=false->U.testBit v=false->c a v=0
 mask:∀a v,v<n->a.testBit v=false->c a v=c (a&&&U) v
variable{U:Nat}
def o7{b:Bool}:(aC a v b) &&&U=if U.testBit v then aC (a&&&U) v b else a&&&U:=by
 apply xaV;intro k;by_cases hU:U.testBit v=true
 ·rw[xae hU,xbj,ak,ak,xbj];by_cases e:k=v
  ·subst e;simp[hU]
  simp[e]
 rw[xac hU,xbj,ak,xbj];by_cases e:k=v
 ·subst e;simp[hU]
 simp[e]
def dI(n U a:Nat):zL:=(bR n a).filter λv=>U.testBit v
def fO:v∈dI n U a↔v<n/\a.testBit v=false/\U.testBit v=true:=by simp[dI,cU,and_assoc]
def mr(n U a:Nat):dI n U (a&&&U)=dI n U a:=by unfold dI bR;rw[xdk,xdk];apply xdq;intro v _;rw[xbj];cases a.testBit v<;>cases U.testBit v<;>rfl
def KM(hU:Used n c U):∀(d a:Nat),(bR n a).length=d->B n c a=gK ((dI n U a).map λv=>c (a&&&U) v+B n c (aC a v true))/\∀a',(bR n a').length<=d->a'&&&U=a&&&U->B n c a'=B n c a:=by
 intro d;induction d using Nat.strongRecOn with
 |_ d ih=>
  have key:∀a,(bR n a).length=d->B n c a=gK ((dI n U a).map λv=>c (a&&&U) v+B n c (aC a v true)):=by
   intro a hd;by_cases hm:bR n a=[]
   ·have h1:dI n U a=[]:=by unfold dI;rw[hm];rfl
    rw[h1,MI hm];rfl
   have hle:∀v∈dI n U a,B n c a<=c (a&&&U) v+B n c (aC a v true):=λv hv=>by
    obtain⟨h1,h2,h3⟩:=fO.1 hv;rw[<-hU.mask a v h1 h2];exact afC (cU.2 ⟨h1,h2⟩)
   obtain⟨v,hv,he⟩:=afD (c:=c) hm;obtain⟨h1,h2⟩:=cU.1 hv;by_cases hu:U.testBit v=true
   ·symm;refine DV (xal.2 ⟨v,fO.2 ⟨h1,h2,hu⟩,by rw[<-hU.mask a v h1 h2];exact he.symm⟩) λy hy=>?_;obtain⟨w,hw,rfl⟩:=xal.1 hy;exact hle w hw
   have BF:U.testBit v=false:=by simpa using hu
   rw[hU.zero a v h1 h2 BF,xa1]at he;have η:(bR n (aC a v true)).length<d:=by have:=gW hv;omega
   have hand:aC a v true&&&U=a&&&U:=by rw[o7,xac hu]
   obtain⟨k1,k2⟩:=ih _ η (aC a v true) rfl;have Ze:dI n U (aC a v true)=dI n U a:=by rw[<-mr,hand,mr]
   by_cases GR:dI n U a=[]
   ·rw[Ze,GR]at k1;rw[he,k1,GR];rfl
   symm;rw[Ze,hand]at k1;have hmem:=pK (l:=(dI n U a).map λw=>c (a&&&U) w+B n c (aC (aC a v true) w true)) (by simpa using GR);rw[<-k1]at hmem;obtain⟨w,hw,kL⟩:=xal.1 hmem;obtain⟨w1,w2,w3⟩:=fO.1 hw;have hwv:w≠v:=λe=>by rw[e]at w3;rw[BF]at w3;cases w3
   have Zk:aC (aC a v true) w true=aC (aC a w true) v true:=by
    apply xaV;intro k;rw[ak,ak,ak,ak];by_cases e1:k=w<;>by_cases e2:k=v<;>simp[e1,e2]
   have hmw:w∈bR n a:=cU.2 ⟨w1,w2⟩;have hsub:B n c (aC (aC a v true) w true)=B n c (aC a w true):=by
    have uP:(bR n (aC a w true)).length<d:=by have:=gW hmw;omega
    refine(ih _ uP (aC a w true) rfl).2 _ ?_ ?_
    ·have hvm:v∈bR n (aC a w true):=cU.2 ⟨h1,by rw[ak,xac (xa9 hwv)];exact h2⟩;have:=gW hvm;rw[Zk];omega
    rw[Zk,o7,xac hu]
   have hval:c (a&&&U) w+B n c (aC a w true)=B n c a:=by rw[he,<-kL,hsub]
   refine DV (xal.2 ⟨w,hw,hval⟩) λy hy=>?_;obtain⟨z,hz,rfl⟩:=xal.1 hy;exact hle z hz
  intro a hd;refine⟨key a hd,λa' dF hand=>?_⟩;have Ze:dI n U a'=dI n U a:=by rw[<-mr,hand,mr]
  have h':B n c a'=gK ((dI n U a').map λv=>c (a'&&&U) v+B n c (aC a' v true)):=by
   rcases xeB (bR n a').length d with h|h
   ·exact(ih _ h a' rfl).1
   exact key a' zO
  rw[h',key a hd,Ze,hand];congr 1;apply xbn;intro v hv;congr 1;obtain⟨v1,v2,v3⟩:=fO.1 hv;have hma:v∈bR n a:=cU.2 ⟨v1,v2⟩;have ahG:v∈bR n a':=by
   rw[<-Ze]at hv;exact cU.2 ⟨v1,(fO.1 hv).2.1⟩
  have η:(bR n (aC a v true)).length<d:=by have:=gW hma;omega
  refine(ih _ η (aC a v true) rfl).2 _ ?_ ?_
  ·have:=gW ahG;have:=gW hma;omega
  rw[o7,o7,hand]
def ZJ(hU:Used n c U)(a:Nat):B n c (a&&&U)=B n c a:=by
 have e:(a&&&U) &&&U=a&&&U:=by rw[Nat.and_assoc,Nat.and_self]
 rcases Nat.le_total (bR n (a&&&U)).length (bR n a).length with h|h
 ·exact(KM hU _ a rfl).2 _ h e
 exact((KM hU _ (a&&&U) rfl).2 a h e.symm).symm
def afB(hU:Used n c U)(a:Nat):B n c a=gK ((dI n U a).map λv=>c (a&&&U) v+B n c (aC (a&&&U) v true)):=by rw[(KM hU _ a rfl).1];congr 1;apply xbn;intro v hv;obtain⟨v1,v2,v3⟩:=fO.1 hv;congr 1;rw[<-ZJ hU (aC a v true),o7,xae v3]
def θ(n:Nat)(c:Nat->Nat->Nat):Nat->Nat->zL
 |0,_=>[]
 |f+1,a=>match(bR n a).find? λv=>c a v+B n c (aC a v true)==B n c a with
  |some v=>v::θ n c f (aC a v true)
  |none=>[]
def wo{f:Nat}(h:bR n a≠[]):∃v,v∈bR n a/\c a v+B n c (aC a v true)=B n c a/\(∀u∈bR n a,u<v->c a u+B n c (aC a u true)≠B n c a)/\θ n c (f+1) a=v::θ n c f (aC a v true):=by
 obtain⟨w,hw,he⟩:=afD (c:=c) h;cases hf:(bR n a).find? λv=>c a v+B n c (aC a v true)==B n c a with
 |none=>
  rw[xcV]at hf;exact absurd (by simpa using he.symm) (hf w hw)
 |some v=>
  have h1:=List.find?_some hf;refine⟨v,List.mem_of_find?_eq_some hf,by simpa using h1,λu hu huv=>?_,by rw[θ,hf]⟩;rw[xeh]at hf;obtain⟨_,as1,bs,hab,Γ⟩:=hf;have hs:(bR n a).Pairwise (· < ·):=List.Pairwise.filter _ List.pairwise_lt_range;rw[hab]at hs hu;rcases xao.1 hu with hu|hu
  ·have:=Γ u hu;simpa using this
  rw[List.pairwise_append]at hs;have h2:=hs.2.1;rw[xet]at h2;rcases xak.1 hu with rfl|hu
  ·omega
  have:=h2.1 u hu;omega
def dx{x u:Nat}{b c:Bool}(h:u≠v):aC (aC x u b) v c=aC (aC x v c) u b:=by
 apply xaV;intro k;rw[ak,ak,ak,ak];by_cases e1:k=u<;>by_cases e2:k=v
 ·exact absurd (e1.symm.trans e2) h
 ·simp[e1,h]
 ·simp[e2,xa9 h]
 simp[e1,e2]
def Yc{u:Nat}{ws:zL}{b:Bool}(hf:eU n ws)(hu:u<n)(hv:v<n)(h:ι n ws v=false):ι n (iU n ws u b) v=false:=by
 by_cases e:u=v
 ·subst e;cases hd:ι n (iU n ws u b) u
  ·rfl
  obtain⟨x,hx,ξ⟩:=(vp (eH hf.yz) hu).1 hd;rw[fj hf hu (gp hx hu),fj hf hu (gp hx hu)]at ξ;refine absurd ?_ ξ;congr 1;apply xaV;intro k;rw[ak,ak,ak,ak];by_cases e:k=u<;>simp[e]
 cases hd:ι n (iU n ws u b) v
 ·rfl
 obtain⟨x,hx,ξ⟩:=(vp (eH hf.yz) hv).1 hd;rw[fj hf hu (gp hx hv),fj hf hu (gp hx hv),dx (xa9 e),dx (xa9 e)]at ξ;have:=(vp hf hv).2 ⟨aC x u b,gp hx hu,ξ⟩;rw[h]at this;cases this
def A9{n:Nat}{L:Fs}{A:Nat}(hL:∀t∈L,eU n t)(hn:n<=16){v:Nat}(hv:v<n)(h:∀t∈L,ι n t v=false):∀k,k<=n->∀t∈st n L A k,ι n t v=false
 |0,_,t,ht=>h t (eG.1 ht)
 |k+1,hk,t,ht=>by
  rw[st]at ht;split at ht
  ·obtain⟨u,hu,b,rfl⟩:=bX.1 ht;exact Yc (FY hL hn k u hu) zO hv (A9 hL hn hv h k zO u hu)
  exact A9 hL hn hv h k zO t ht
def aZ(n:Nat)(L:Fs):Nat:=L.foldl (λu t=>u|||qJ n t) 0
def qh(n v:Nat):∀(L:Fs) (u:Nat),(L.foldl (λu t=>u|||qJ n t) u).testBit v=(u.testBit v||L.any λt=>(qJ n t).testBit v)
 | [],u=>by simp
 |t::L,u=>by rw[xcL,qh n v L,xb7,List.any_cons,Bool.or_assoc]
def A7{L:Fs}:(aZ n L).testBit v=L.any λt=>(qJ n t).testBit v:=by unfold aZ;rw[qh];simp
def vC{L:Fs}(hv:v<n)(h:(aZ n L).testBit v=false):∀t∈L,ι n t v=false:=by rw[A7,List.any_eq_false]at h;intro t ht;have:=h t ht;rw[qJ,iT]at this;simpa[hv]using this
def Ew(n:Nat):∀(L:Fs) (u:Nat),u<2^n->L.foldl (λu t=>u|||qJ n t) u<2^n
 | [],u,h=>h
 |t::L,u,h=>Ew n L _ (xbM h (n8 n t n))
def vD(n:Nat)(L:Fs):aZ n L<2^n:=Ew n L 0 (xbx n)
def K6{n:Nat}{L:Fs}{A:Nat}(hL:∀t∈L,eU n t)(hn:n<=16):∀k,k<=n->∀x,x∈st n L A k↔x∈st n L (A&&&aZ n L) k
 |0,_,x=>xcZ
 |k+1,hk,x=>by
  have ih:=K6 (A:=A) hL hn k zO;rw[st,st,xbj];cases hA:A.testBit k
  ·simpa using ih x
  cases hU:(aZ n L).testBit k
  ·simp only[xa5,xdX,xaR,xa2];rw[bX,<-ih x];have hd:=A9 (A:=A) hL hn (v:=k) zO (vC zO hU) k zO;have hf:=FY (A:=A) hL hn k;constructor
   ·rintro⟨t,ht,b,rfl⟩;rw[oW (hf t ht) zO (hd t ht)];exact ht
   intro hx;exact⟨x,hx,false,(oW (hf x hx) zO (hd x hx)).symm⟩
  simp only[xd2,xa5];rw[bX,bX];constructor
  ·rintro⟨t,ht,h⟩;exact⟨t,(ih t).1 ht,h⟩
  rintro⟨t,ht,h⟩;exact⟨t,(ih t).2 ht,h⟩
def KT{L:Fs}(hL:∀t∈L,eU n t)(hn:n<=16):Used n (lvl n L) (aZ n L):=by
 refine⟨λa v hv _ hU=>?_,λa v hv _=>?_⟩
 ·unfold lvl nodes;rw[xcS,xdo];intro t ht;rw[A9 hL hn hv (vC hv hU) n (xai _) t ht];simp
 exact kz (gU (n9 n L a n) (n9 n L _ n) (K6 hL hn n (xai _)))
end an
set_option maxRecDepth 100000
namespace Go.Proofs
open Go Go.Sx
def kp(x:Nat×Nat):zV:=.agg (az .i64 [(x.1:Int),(x.2:Int)])
def ki(x:Nat):zV:=iv (x:Int)
def GG(a b:Nat):Instr.sameNow (.int .i64) (ki a) (ki b)=some (decide (a=b)):=by simp only[Instr.sameNow,ki,xa5,xat];rw[xbH];simp;omega
def Xe(a:Nat):Instr.sameBits 10000 (ki a) (ki a)=true:=by simp[Instr.sameBits,ki]
def Sw(a b:Nat×Nat):Cn zQ 309 (kp a) (kp b) (decide (a=b)):=by
 have:=Cn.array (P:=zQ) (t:=309) (e:=3) (q:=.i64) (n:=2) zK zK zK [(a.1:Int),(a.2:Int)] [(b.1:Int),(b.2:Int)] rfl rfl;have e:decide ([(a.1:Int),(a.2:Int)]=[(b.1:Int),(b.2:Int)])=decide (a=b):=by
  rw[xb1];obtain⟨a1,a2⟩:=a;obtain⟨b1,b2⟩:=b;simp;omega
 rw[e]at this;exact this
def GD(a:Nat×Nat):mO zQ 309 (kp a):=mO.array (P:=zQ) (t:=309) (e:=3) (q:=.i64) (n:=2) zK zK zK _ rfl
def yq(n:Nat)(q:IntKind)(l:List Int):Instr.sameBits (n+1+1) (.agg (az q l)) (.agg (az q l))=true:=by
 simp only[Instr.sameBits,az,xeA,xcr,xc8];intro x hx;obtain⟨a,b⟩:=x;have h:=xdJ hx;have e:a=b:=by
  rw[List.zip_eq_zip_take_min]at hx;obtain⟨i,hi,he⟩:=xbc.1 hx;simp at he;exact he.1.symm.trans he.2
 subst e;have:=h.1;simp only[xdd,xal]at this;obtain⟨y,_,rfl⟩:=this;simp[Instr.sameBits]
def Xb(a:Nat×Nat):Instr.sameBits 10000 (kp a) (kp a)=true:=yq 9998 _ _
abbrev vrN(v:zV)(x:Nat):Prop:=v=iv (x:Int)
structure Mu(n:Nat)(L:List (zL))(kR:Array MapEntry)(j7:Nat)(ic:Array MapEntry)(iO:Nat):Prop where
 ai:∃m,aI kp vrN kR j7 m/\∀x∈m,x.2=an.lvl n L x.1.1 x.1.2
 dow:∃m,aI ki vrN ic iO m/\∀x∈m,x.2=an.B n (an.lvl n L) x.1
def nM(bp bl bd:Nat)(yh:zV)(n:Nat)(L:List (zL))(U:Nat)(B H:Hp):Prop:=
 ∃kR j7 ic iO,H=(bp,.cells #[yh,iv (n:Int),iv (U:Int),.map (some bl),.map (some bd)] 247 zZ)::(bl,.map kR j7)::(bd,.map ic iO)::B/\Mu n L kR j7 ic iO
def DS{κ:Type}[DecidableEq κ]{f:κ->Nat}{m:List (κ×Nat)}{k:κ}(h:∀x∈m,x.2=f x.1):∀x∈eu m k (f k),x.2=f x.1:=by
 intro x hx;unfold eu at hx;split at hx
 ·obtain⟨y,hy,rfl⟩:=xal.1 hx;split
  ·rfl
  exact h y hy
 rcases xao.1 hx with hx|hx
 ·exact h x hx
 simp at hx;subst hx;rfl
def DW{κ:Type}[DecidableEq κ]{f:κ->Nat}{m:List (κ×Nat)}{k:κ}{x:Nat}(h:∀x∈m,x.2=f x.1)(hk:aN m k=some x):x=f k:=by unfold aN at hk;obtain⟨y,hy,rfl⟩:=xdp.1 hk;have h1:=List.find?_some hy;have h2:=h y (List.mem_of_find?_eq_some hy);simp only[xaM]at h1;rw[h2,h1]
structure xO(yh:zV)(n:Nat)(L:List (zL))(B:Hp):Prop where
 tb:jW B yh (M7 n L)
 CQ:∀ws∈L,an.eU n ws
 ne:L≠[]
 small:L.length<33554432
 n12:n<=12
def Gy{yh:zV}{n:Nat}{L:List (zL)}{B:Hp}(h:xO yh n L B)(a v:Nat):an.lvl n L a v<2199023255551:=by have h1:an.lvl n L a v<=(an.st n L a n).length:=xbU _ _;have h2:=Rw (n:=n) (A:=a) (L:=L) (by have:=h.n12;omega) h.small (xai n);omega
theorem DP{yh:zV}{n:Nat}{L:List (zL)}{B:Hp}(h:xO yh n L B){bp bl bd a v:Nat}{H:Hp}(hp:nM bp bl bd yh n L (an.aZ n L) B H)(ha:a<2^n)(hv:v<n)(hav:a.testBit v=false):
  Fc zQ 184 #[.pointer (some ⟨bp,0,none⟩),iv (a:Int),iv (v:Int)] H (λr H'=>r=iv ((an.lvl n L a v:Nat):Int)/\nM bp bl bd yh n L (an.aZ n L) B H'):=by
 obtain⟨kR,j7,ic,iO,rfl,hM⟩:=hp;have hU:=an.vD n L;have uN:=h.n12;have nq:2^n<=2^12:=xaA zD uN;have Ej:=an.KT h.CQ zO;have hsU:an.aZ n L>>>v<=an.aZ n L:=xbm _ _;refine aJ λg=>Jp (Nil.γ ?_);refine aj.mk (Ld.mk zM rfl ?_);refine ah.iW (by simp[bI];omega) (ah.jU (b:=1) (by simp[bI];omega) zD (ah.fc (b:=0) ?_));have Oo:an.aZ n L>>>v&&&1=0↔(an.aZ n L).testBit v=false:=by
  rw[an.gC,xbK,xcB];cases (an.aZ n L).testBit v<;>simp
 refine Br.dec (λh0=>?_) (λh0=>?_)
 ·refine aQ.here ⟨?_,kR,j7,ic,iO,rfl,hM⟩;rw[Ej.zero a v hv hav (Oo.1 h0)];rfl
 have hUv:(an.aZ n L).testBit v=true:=by cases hh:(an.aZ n L).testBit v;exact absurd (Oo.2 hh) h0;rfl
 apply Nil.γ;refine aj.mk (Ld.mk zM rfl ?_);refine ah.jU (by simp[bI];omega) (by simp[bI];omega) ?_;have hlv:an.lvl n L a v=an.lvl n L (a&&&an.aZ n L) v:=Ej.mask a v hv hav;have Zm:(a&&&an.aZ n L).testBit v=false:=by rw[xbj,hav];rfl
 have haU:a&&&an.aZ n L<2^n:=xaC xci ha;rw[hlv];obtain⟨a',dS⟩:∃a',a'=a&&&an.aZ n L:=⟨_,rfl⟩;rw[<-dS]at Zm haU⊢;refine Build.two (q:=.i64) (e:=3) zK zK zK ?_;rw[show az .i64 [(a':Int),(v:Int)]=List.toArray [iv (a':Int),iv (v:Int)]from rfl];intro VQ _;refine St.q ?_;apply Nil.γ;refine aj.mk (Ld.mk zM rfl ?_);refine aB.q ?_;obtain⟨⟨m1,VM,uO⟩,aei⟩:=hM;have adC:∀J:List zV->Hp->Prop,(∀w25:zV,∀H24:Hp,(∀an1:Fr,aQ (λr H'=>r=iv ((an.lvl n L a' v:Nat):Int)/\nM bp bl bd yh n L (an.aZ n L) B H') (.returned w25) H24)->J [w25] H24)->
   ∀X9 Yd,Mu n L X9 Yd ic iO->J [iv ((an.lvl n L a' v:Nat):Int)] ((bp,.cells #[yh,iv (n:Int),iv ((an.aZ n L:Nat):Int),.map (some bl),.map (some bd)] 247 zZ)::(bl,.map X9 Yd)::(bd,.map ic iO)::B):=
  λJ hJ X9 Yd hM=>hJ _ _ λgs=>aQ.here ⟨rfl,X9,Yd,ic,iO,rfl,hM⟩
 cases hg:aN m1 (a',v)with
 |some x=>
  have hx:=DW (f:=λk=>an.lvl n L k.1 k.2) uO hg;simp only at hx;refine aI.GU (ke:=kp) (k:=(a',v)) Sw GD VM (by exact .tail _ (.tail _ (.head _))) hg λy hy=>?_;subst hy;refine Ext.two λJ hJ=>(Un.not (Br.no (JE.of .tail ?_)));rw[hx];exact adC J hJ _ _ ⟨⟨m1,VM,uO⟩,aei⟩
 |none=>
  refine aI.wA (ke:=kp) (k:=(a',v)) Sw GD VM (by exact .tail _ (.tail _ (.head _))) hg ?_;refine Ext.two λJ hJ=>(Un.not (Br.yes (DR.self (Nil.γ ?_))));refine aj.mk (Ld.mk zM rfl ?_);refine⟨VQ,0,.i64,0,rfl,rfl,by decide,by decide,?_⟩;refine Ld.q ?_;refine bu.q (ae.eq (B:=B) (Sp (n:=n) (L:=L) h.tb h.CQ h.ne (by have:=h.small;omega) haU hv Zm) (⟨.refl _,Ext.mk rfl (Ext.mk rfl ?_)⟩));refine DR.of (R:=(VQ,.cells (List.toArray [iv (a':Int),iv (v:Int)]) 309 zZ)::(bp,.cells #[yh,iv (n:Int),iv ((an.aZ n L:Nat):Int),.map (some bl),.map (some bd)] 247 zZ)::[]) (.cons (.cons (λg w h=>(Own.left (B:=_) (A:=[]) h)))) (Nil.γ ?_);refine aj.mk (Ld.mk zM rfl ?_);refine aB.q ?_;refine aI.M1 (ke:=kp) (vr:=vrN) (b:=bl) (val:=iv ((an.lvl n L a' v:Nat):Int)) (k:=(a',v)) (x:=an.lvl n L a' v) Sw GD Xb VM rfl λτ bF Ek=>⟨_,.tail (.tail (.head _)),?_⟩;have ahJ:∀x∈eu m1 (a',v) (an.lvl n L a' v),x.2=an.lvl n L x.1.1 x.1.2:=DS (f:=λk:Nat×Nat=>an.lvl n L k.1 k.2) (k:=(a',v)) uO;have hM':Mu n L τ bF ic iO:=⟨⟨eu m1 (a',v) (an.lvl n L a' v),Ek,ahJ⟩,aei⟩;exact JE.of .tail (adC J hJ τ bF hM')
end Go.Proofs
namespace Go.Sx
open Go
def wv(n:Int):BitVec.ofInt 64 (IntKind.i64.wrap n)=BitVec.ofInt 64 n:=by apply BitVec.eq_of_toNat_eq;simp only[BitVec.toNat_ofInt,IntKind.wrap,IntKind.bits,IntKind.signed,xcr,xaM];congr 1;split<;>omega
def wrap_toInt(x:BitVec 64):IntKind.i64.wrap (x.toNat:Int)=x.toInt:=by rw[BitVec.toInt_eq_toNat_cond];have:=x.isLt;have e:(2:Int)^(64-1)=9223372036854775808:=rfl;simp only[IntKind.wrap,IntKind.bits,IntKind.signed,xcr,xaM,e];split<;>split<;>omega
def qZ(op:BinOp)(x y:Int):BitVec.ofInt 64 (bits op .i64 x y)=(match op with
  | .and=>BitVec.ofInt 64 x&&&BitVec.ofInt 64 y
  | .or=>BitVec.ofInt 64 x|||BitVec.ofInt 64 y
  | .xor=>BitVec.ofInt 64 x^^^BitVec.ofInt 64 y
  |_=>BitVec.ofInt 64 x&&& ~~~BitVec.ofInt 64 y):=by unfold bits;simp only[wv];rw[xcM];simp only[IntKind.bits];rw[BitVec.ofNat_toNat,BitVec.setWidth_eq];cases op<;>rfl
def xG(op:BinOp)(x y:Int):bits op .i64 x y=(BitVec.ofInt 64 (bits op .i64 x y)).toInt:=by unfold bits;simp only[wv];rw[xcM];simp only[IntKind.bits];rw[BitVec.ofNat_toNat,BitVec.setWidth_eq];exact wrap_toInt _
def NI{a U v:Nat}(ha:a<4611686018427387904)(hU:U<4611686018427387904)(hv:v<62):
  bits .and .i64 ((bits .or .i64 a (bits .xor .i64 (-1) U)).fdiv (2^(min (v:Int).toNat IntKind.i64.bits))) 1=if a.testBit v=true\/U.testBit v=false then 1 else 0:=by
 have hX:=qZ .or (a:Int) (bits .xor .i64 (-1) U);simp only at hX;have hN:=qZ .xor (-1) (U:Int);simp only at hN;rw[hN]at hX;generalize hx:bits .or .i64 a (bits .xor .i64 (-1) U)=x at hX;have YZ:x=(BitVec.ofInt 64 x).toInt:=by rw[<-hx];exact xG _ _ _
 have hm:min (v:Int).toNat IntKind.i64.bits=v:=by simp[IntKind.bits];omega
 rw[hm];have hs:x.fdiv (2^v)=((BitVec.ofInt 64 x).sshiftRight v).toInt:=by
  rw[BitVec.toInt_sshiftRight,<-YZ,Int.shiftRight_eq_div_pow,Int.fdiv_eq_ediv_of_nonneg _ (Int.le_of_lt (Int.pow_pos zD))]
  push_cast;rfl
 rw[hs,xG,qZ];simp only[BitVec.ofInt_toInt];rw[hX];have h1:BitVec.ofInt 64 (1:Int)=1#64:=rfl;have h2:BitVec.ofInt 64 (-1:Int)=BitVec.allOnes 64:=by decide
 rw[h1,h2];have Oo:((BitVec.ofInt 64 (a:Int)|||BitVec.allOnes 64^^^BitVec.ofInt 64 (U:Int)).sshiftRight v).getLsbD 0=(a.testBit v|| !U.testBit v):=by
  rw[BitVec.getLsbD_sshiftRight];have e1:v+0<64:=by omega
  simp only[xcB,show¬(64<=0)from by decide,xdt,xct,xcr,show v<64 by omega,xa5];rw[BitVec.getLsbD_or,BitVec.getLsbD_xor,BitVec.getLsbD_allOnes,xcM,xcM,BitVec.getLsbD_ofNat,BitVec.getLsbD_ofNat];simp[show v<64 by omega]
 have iz:∀y:BitVec 64,(y&&&1#64).toInt=if y.getLsbD 0 then 1 else 0:=by
  intro y;have:y&&&1#64=if y.getLsbD 0 then 1#64 else 0#64:=by
   apply BitVec.eq_of_getLsbD_eq;intro i hi;rw[BitVec.getLsbD_and];by_cases h0:i=0
   ·subst h0;cases hb:y.getLsbD 0<;>simp[hb]
   have:(1#64).getLsbD i=false:=by simp[BitVec.getLsbD_one,h0]
   rw[this];cases y.getLsbD 0<;>simp[this]
  rw[this];cases y.getLsbD 0<;>decide
 rw[iz,Oo];cases a.testBit v<;>cases U.testBit v<;>simp
def ac7{a U v:Nat}(ha:a<4611686018427387904)(hU:U<4611686018427387904)(hv:v<62){k:zV->Prop}(h:k (.bool (decide (a.testBit v=true\/U.testBit v=false)))):
  Un .xor (.int .i64 (U:Int)) λv33=>ah .num .or (.int .i64 (a:Int)) v33 λv34=>ah .num .shr v34 (.int .i64 (v:Int)) λv35=>ah .num .and v35 (.int .i64 1) λv36=>ah .num .eql v36 (.int .i64 1) k:=by
 refine⟨_,rfl,_,rfl,?_⟩;have h0:¬((v:Int)<0):=by omega
 refine⟨_,by simp only[iq,h0,xa2];rfl,_,rfl,?_⟩;apply ah.iD;have hs:(if IntKind.i64.signed=true then(-1:Int)else IntKind.i64.max)= -1:=rfl;rw[hs,NI ha hU hv];by_cases hc:a.testBit v=true\/U.testBit v=false
 ·rw[xae hc];rw[xam hc]at h;exact h
 rw[xac hc];rw[xan hc]at h;exact h
end Go.Sx
set_option maxRecDepth 100000
namespace Go.Proofs
open Go Go.Sx
section
def jb(x:zV)(r:List zV)(i:Nat):bH (x::r) (i+1)=bH r i:=by cases x<;>rfl
def kg(n:Nat)(L:List (zL))(U a k:Nat):zL:=((List.range k).filter λv=> !a.testBit v&&U.testBit v).map λv=>an.lvl n L a v+an.B n (an.lvl n L) (an.aC a v true)
variable{n:Nat}{L:List (zL)}
def Nm{U a:Nat}:kg n L U a n=(an.dI n U a).map λv=>an.lvl n L a v+an.B n (an.lvl n L) (an.aC a v true):=by unfold kg an.dI an.bR;rw[xdk];congr 1;apply xdq;intro v _;cases a.testBit v<;>cases U.testBit v<;>rfl
def vU{U a k:Nat}:kg n L U a (k+1)=if a.testBit k=true\/U.testBit k=false then kg n L U a k else kg n L U a k++[an.lvl n L a k+an.B n (an.lvl n L) (an.aC a k true)]:=by unfold kg;rw[xbZ,xcb,xaz];cases h1:a.testBit k<;>cases h2:U.testBit k<;>simp[h1,h2]
def Ay(l:zL):zV:=if l=[]then iv (-1)else iv ((an.gK l:Nat):Int)
def UN(n:Nat)(c:Nat->Nat->Nat)(M:Nat)(hc:∀a v,c a v<=M):∀f a,an.UO n c f a<=f*M
 |0,a=>by simp[an.UO]
 |f+1,a=>by
  rw[an.UO,xbr];by_cases h:an.bR n a=[]
  ·rw[h];simp[an.gK]
  have:=an.pK (l:=(an.bR n a).map λv=>c a v+an.UO n c f (an.aC a v true)) (by simpa using h);obtain⟨v,_,e⟩:=xal.1 this;rw[<-e];have h1:=hc a v;have h2:=UN n c M hc f (an.aC a v true);omega
def MH{yh:zV}{B:Hp}(h:xO yh n L B)(a:Nat):an.B n (an.lvl n L) a<35184372088832:=by have h1:=UN n (an.lvl n L) 2199023255551 (λa v=>xce (Gy h a v)) n a;have h2:n*2199023255551<=12*2199023255551:=xaY _ h.n12;unfold an.B;omega
def Cb{a U:Nat}(hU:U<2^n)(h:∀v,v<n->¬(a.testBit v=false/\U.testBit v=true)):a&&&U=U:=by
 apply xaV;intro k;rw[xbj];by_cases hk:k<n
 ·have:=h k hk;cases h1:a.testBit k<;>cases h2:U.testBit k<;>simp_all
 have:U.testBit k=false:=xcf (xaP hU (xaA zD zO));rw[this];simp
theorem sO{yh:zV}{n:Nat}{L:List (zL)}{B:Hp}(h:xO yh n L B){bp bl bd:Nat}:∀(d a:Nat),(an.dI n (an.aZ n L) a).length<=d->a<2^n->∀H,nM bp bl bd yh n L (an.aZ n L) B H->
  Fc zQ 185 #[.pointer (some ⟨bp,0,none⟩),iv (a:Int)] H (λr H'=>r=iv ((an.B n (an.lvl n L) a:Nat):Int)/\nM bp bl bd yh n L (an.aZ n L) B H'):=by
 have hU:=an.vD n L;have uN:=h.n12;have nq:2^n<=2^12:=xaA zD uN;have Ej:=an.KT h.CQ zO;intro d;induction d using Nat.strongRecOn with
 |_ d ih=>
  intro a hd ha H hp;obtain⟨kR,j7,ic,iO,rfl,hM⟩:=hp;refine aJ λg=>x8 (Nil.γ ?_);refine aj.mk (Ld.mk zM rfl ?_);refine ah.jU (by simp[bI];omega) (by simp[bI];omega) (Nil.γ ?_);refine aj.mk (Ld.mk zM rfl ?_);have hBa:an.B n (an.lvl n L) a=an.B n (an.lvl n L) (a&&&an.aZ n L):=(an.ZJ Ej a).symm;have Ze:an.dI n (an.aZ n L) (a&&&an.aZ n L)=an.dI n (an.aZ n L) a:=an.mr _ _ _;have haU:a&&&an.aZ n L<2^n:=xaC xci ha;have je:(a&&&an.aZ n L) &&&an.aZ n L=a&&&an.aZ n L:=by rw[Nat.and_assoc,Nat.and_self]
  rw[hBa];rw[<-Ze]at hd;obtain⟨a',dS⟩:∃a',a'=a&&&an.aZ n L:=⟨_,rfl⟩;rw[<-dS]at haU hd je⊢;clear hBa Ze ha dS;have aH:=Nm (n:=n) (L:=L) (U:=an.aZ n L) (a:=a');have adD:an.B n (an.lvl n L) a'=an.gK (kg n L (an.aZ n L) a' n):=by
   rw[aH];have:=an.afB Ej a';rw[je]at this;exact this
  refine ah.fc (Br.dec (λh0=>?_) (λh0=>?_))
  ·refine aQ.here ⟨?_,kR,j7,ic,iO,rfl,hM⟩;have:an.dI n (an.aZ n L) a'=[]:=by
    rw[xcI];intro v hv;obtain⟨_,h2,h3⟩:=an.fO.1 hv;rw[h0,h3]at h2;cases h2
   rw[adD,aH,this];rfl
  have ξ:kg n L (an.aZ n L) a' n≠[]:=by
   rw[aH];intro e;apply h0;rw[<-je];refine Cb hU λv hv hh=>?_;have:v∈an.dI n (an.aZ n L) a':=an.fO.2 ⟨hv,hh.1,hh.2⟩;rw[List.map_eq_nil_iff.1 e]at this;simp at this
  apply Nil.γ;refine aj.mk (Ld.mk zM rfl ?_);obtain⟨Te,m2,tw,mC⟩:=hM;cases hg:aN m2 a' with
  |some x=>
   have hx:=DW (f:=an.B n (an.lvl n L)) mC hg;refine aI.hit (ke:=ki) (k:=a') GG tw (by exact .tail _ (.tail _ (.head _))) hg λy hy=>?_;subst hy;refine Ext.mk rfl (Ext.mk rfl (Br.yes (aQ.here ⟨?_,kR,j7,ic,iO,rfl,Te,m2,tw,mC⟩)));rw[hx];rfl
  |none=>
   refine aI.bR (ke:=ki) (k:=a') GG tw (by exact .tail _ (.tail _ (.head _))) hg ?_;refine Ext.mk rfl (Ext.mk rfl (Br.no (Nil.γ ?_)));refine aj.mk (Ld.mk zM rfl ?_);refine⟨λvs H=>∃k:Nat,vs=[Ay (kg n L (an.aZ n L) a' k),iv (k:Int)]/\k<=n/\nM bp bl bd yh n L (an.aZ n L) B H,λvs _=>n-bH vs 1,
    JE.mk ⟨0,rfl,xaL _,kR,j7,ic,iO,rfl,Te,m2,tw,mC⟩,?_⟩
   clear tw mC hg Te kR j7 ic iO m2;rintro w22 w23 H ⟨k,⟨⟩,hk,hp⟩ gs;refine ah.eA (Br.dec (λη=>?_) (λη=>?_))
   ·intro J hJ;have QB:=hp;obtain⟨kR,j7,ic,iO,rfl,hM⟩:=hp;apply Nil.γ;refine aj.mk (Ld.mk zM rfl ?_);refine ac7 zO zO zO ?_;have Ef:∀l H,l=kg n L (an.aZ n L) a' (k+1)->nM bp bl bd yh n L (an.aZ n L) B H->J [Ay l] H:=λl H hl hp=>hJ _ _ λgs=>by
     exact ah.inc (aD.mk ⟨k+1,by rw[hl],by omega,hp⟩ (by rw[jb,jb];show n-(((k:Int)+1).toNat)<n-((k:Int).toNat);omega))
    by_cases hc:a'.testBit k=true\/(an.aZ n L).testBit k=false
    ·rw[xam hc];refine Br.yes (JE.mk (Ef _ _ ?_ QB));rw[vU,xae hc]
    rw[xan hc];have hck:a'.testBit k=false/\(an.aZ n L).testBit k=true:=by
     cases h1:a'.testBit k<;>cases h2:(an.aZ n L).testBit k<;>simp_all
    have hmem:k∈an.dI n (an.aZ n L) a':=an.fO.2 ⟨η,hck.1,hck.2⟩;refine Br.no (DR.self ?_);have hpk:2^k<=2^12:=xaA zD zO;refine ah.Dt (a:=1) (by simp[IntKind.bits];omega) (by rw[xa4];simp[bI];omega) ?_;rw[xa4];refine ah.Lt (by simp[bI];omega) (by simp[bI];omega) ?_;have X8:a'|||2^k=an.aC a' k true:=rfl
    rw[X8];refine ae.fq (DP h QB haU η hck.1) ?_;rintro r H1 ⟨rfl,u6⟩;have Ξ:(an.dI n (an.aZ n L) (an.aC a' k true)).length<d:=by
     have h1:(an.dI n (an.aZ n L) (an.aC a' k true)).length+1=(an.dI n (an.aZ n L) a').length:=by
      unfold an.dI an.bR;rw[xdk,xdk];refine an.oS _ _ k (List.range n) xbh (xaN.2 η) (by simp[hck]) (by simp[an.ak]) λy hy ξ=>?_;rw[an.rM ξ]
     omega
    refine ae.fq (ih _ Ξ (an.aC a' k true) (xai _) (an.gp haU η) H1 u6) ?_;rintro r H2 ⟨rfl,nq⟩;have hb1:=Gy h a' k;have uj:=MH h (an.aC a' k true);refine ah.fT ?_;have hstep:=vU (n:=n) (L:=L) (U:=an.aZ n L) (a:=a') (k:=k);rw[xac hc]at hstep;generalize an.lvl n L a' k+an.B n (an.lvl n L) (an.aC a' k true)=x at hstep;unfold Ay;by_cases hl:kg n L (an.aZ n L) a' k=[]
    ·rw[xae hl];refine ah.lss (dh.mk true (λe=>by simp at e) (λ_=>rfl) λgs=>Br.yes (JE.mk ?_));have:=Ef [x] _ (by rw[hstep,hl];rfl) nq;simpa[Ay,an.gK]using this
    rw[xac hl];have hms:=an.Gt (kg n L (an.aZ n L) a' k) x;rw[xac hl,<-hstep]at hms;have ahB:kg n L (an.aZ n L) a' (k+1)≠[]:=by rw[hstep];simp
    have VA:=Ef _ H2 rfl nq;unfold Ay at VA;rw[xac ahB,hms]at VA;have hneg:decide (((an.gK (kg n L (an.aZ n L) a' k):Nat):Int)<0)=false:=xan zO;by_cases hx:x<an.gK (kg n L (an.aZ n L) a' k)
    ·rw[xdz zO]at VA;refine ah.lss ?_;rw[hneg];exact dh.mk true (λ_=>ah.eA ⟨rfl,by rw[xam hx]⟩) (λe=>by simp at e) λgs=>Br.yes (JE.mk VA)
    rw[xcJ zO]at VA;refine ah.lss ?_;rw[hneg];exact dh.mk false (λ_=>ah.eA ⟨rfl,by rw[xan hx]⟩) (λe=>by simp at e) λgs=>Br.no (JE.mk VA)
   have:k=n:=by omega
   subst this;obtain⟨kR,j7,ic,iO,rfl,Te,m2,tw,mC⟩:=hp;apply Nil.γ;refine aj.mk (Ld.mk zM rfl ?_);unfold Ay;rw[xac ξ,<-adD];refine aI.bt (ke:=ki) (vr:=vrN) (b:=bd) (val:=iv ((an.B k (an.lvl k L) a':Nat):Int)) (k:=a') (x:=an.B k (an.lvl k L) a') GG Xe tw rfl λτ bF Ek=>⟨_,.tail (.tail (.head _)),?_⟩;have ahI:∀x∈eu m2 a' (an.B k (an.lvl k L) a'),x.2=an.B k (an.lvl k L) x.1:=DS (f:=an.B k (an.lvl k L)) mC;exact aQ.here ⟨rfl,kR,j7,τ,bF,rfl,Te,_,Ek,ahI⟩
end
section
def ajy(v:zV)(ts:List Tb)(B:Hp)(r:zV)(H:Hp):Prop:=
 (sJ ts/\∃(bp bl bd n:Nat) (L:List (zL)) (N:Hp),ts=M7 n L/\(L=[]->n=0)/\n<=16/\(∀ws∈L,an.eU n ws)/\r=.tuple #[.pointer (some ⟨bp,0,none⟩),iv 0]/\nM bp bl bd v n L (an.aZ n L) (N++B) H)
 \/(¬sJ ts/\r=.tuple #[.pointer none,iv 5])
def tW(n:Nat)(L:List (zL)):Mu n L #[] 0 #[] 0:=⟨⟨[],aI.empty,by simp⟩,⟨[],aI.empty,by simp⟩⟩
def FK{n:Nat}{L:List (zL)}{k:Nat}(h:k<L.length):an.aZ n (L.take (k+1))=an.aZ n (L.take k)|||an.qJ n L[k]:=by unfold an.aZ;rw[xbg,xab h,Option.toList_some,xds];rfl
theorem OE{B:Hp}{v:zV}{ts:List Tb}(ht:jW B v ts)(cB:ts.length<4398046511104):Px zQ 183 #[v] B (ajy v ts B):=by
 obtain⟨va,vc,vl,rfl⟩:∃a c l,v=.slice a l c:=by
  obtain⟨rs,h1,_⟩:=ht;obtain⟨a,c,e,_⟩:=h1.shape;exact⟨a,c,_,e⟩
 refine aJ λg=>Jq λb1 _ b2 _=>?_;refine Build.mk (cs:=[.slice va vl vc,iv 0,iv 0,.map (some b1),.map (some b2)]) zK λbp _=>?_;generalize hvs:Value.slice va vl vc=vv at ht⊢;refine ht.bL (ah.fc (b:=0) (Br.dec (λh0=>?_) (λh0=>?_)))
 ·have GR:ts=[]:=xbO h0;subst GR;refine⟨_,_,rfl,aO.cons aO.swap,(by repeat (first|exact cc.refl _|apply cc.cons|apply cc.app)),Or.inl ⟨by simp[sJ],bp,b1,b2,0,[],[],rfl,λ_=>rfl,by omega,by simp,rfl,_,_,_,_,?_,tW _ _⟩⟩;subst hvs;rfl
 refine ae.pq (B:=B) (R8 ht cB) ?_;rintro r N ⟨s,rfl⟩;apply Ext.two;by_cases hO:sJ ts
 case neg=>
  rw[xac hO];exact ah.Cu (a:=5) (b:=0) (Br.dec (λ_=>HT.mk (by repeat (first|exact cc.refl _|apply cc.cons|apply cc.app)) (.inr ⟨hO,rfl⟩)) (λh=>absurd zD h))
 rw[xae hO];refine ah.Cu (a:=0) (b:=0) (Br.dec (λh=>absurd rfl h) (λ_=>?_));obtain⟨n,L,wQ,rfl,ξ,hf⟩:=Lv hO (by intro e;rw[e]at h0;exact h0 rfl);rw[xar]at cB h0;obtain⟨w0,Vx⟩:∃w0,L[0]? =some w0:=⟨_,xab (xde.2 ξ)⟩;refine ht.ldN (i:=0) (t:=⟨n,w0⟩) (by rw[xaq,Vx];rfl) zS ?_;simp only;refine Nil.γ (aj.mk (St.one (c:=#[vv,iv 0,iv 0,.map (some b1),.map (some b2)]) (c':=#[vv,iv (n:Int),iv 0,.map (some b1),.map (some b2)]) (H':=(bp,.cells #[vv,iv (n:Int),iv 0,.map (some b1),.map (some b2)] 247 zZ)::(b2,.map #[] 0)::(b1,.map #[] 0)::(N++B)) (by subst hvs;exact .head _) rfl zI rfl ?_));refine ht.bL ?_;rw[xar];refine⟨λvs H=>∃(k:Nat) (N:Hp),vs=[iv (k:Int)]/\k<=L.length/\H=(bp,.cells #[vv,iv (n:Int),iv ((an.aZ n (L.take k):Nat):Int),.map (some b1),.map (some b2)] 247 zZ)::(b2,.map #[] 0)::(b1,.map #[] 0)::(N++B),
  λvs _=>L.length-bH vs 0,JE.mk ⟨0,N,rfl,by omega,rfl⟩,?_⟩
 clear N;rintro w H ⟨k,N,⟨⟩,hk,rfl⟩ gs;refine ah.eA (Br.dec (λη=>?_) (λη=>?_))
 ·have hg:(L.map λws=>(⟨n,ws⟩:Tb))[k]? =some ⟨n,L[k]⟩:=by rw[xaq,xab η];rfl
  have p7:=hf L[k] (xaK η);refine ht.ld hg zS λs hw=>?_;intro b3 _;refine St.p ?_ ?_
  ·have:=bT hw;simpa[Value.oneCell']using this
  refine aB.q ?_;refine ae.eq (B:=B) (vJ (v:=.agg (List.toArray [iv (n:Int),s])) (t:=⟨n,L[k]⟩) ⟨s,rfl,hw⟩) ?_;rw[xae (show TF ⟨(n:Int),L[k]⟩from⟨by simp,by simpa using p7⟩)];apply Ext.two;simp only[xbe];have amF:2^n<=2^16:=xaA (n:=2) zD wQ;have adx:an.qJ n L[k]<2^n:=an.n8 n L[k] n;have hus:=an.vD n (L.take k);apply Nil.γ;refine aj.mk (Ld.mk zM rfl ?_);refine bu.q (ah.Lt (by simp[bI];omega) (by simp[bI];omega) ?_);rw[<-FK η];refine Nil.γ (aj.mk (St.one (c:=#[vv,iv (n:Int),iv ((an.aZ n (L.take k):Nat):Int),.map (some b1),.map (some b2)]) (c':=#[vv,iv (n:Int),iv ((an.aZ n (L.take (k+1)):Nat):Int),.map (some b1),.map (some b2)]) (by repeat (first|exact df.head _|apply df.tail|apply df.cf)) rfl zI rfl ?_));exact ah.inc (aD.of .tail ⟨k+1,N,rfl,by omega,rfl⟩ (by simp[bH];omega))
 have:k=L.length:=by omega
 subst this;rw[xa7];refine⟨_,_,rfl,aO.cons aO.swap,(by repeat (first|exact cc.refl _|apply cc.cons|apply cc.app)),Or.inl ⟨hO,bp,b1,b2,n,L,N,rfl,λe=>absurd e ξ,wQ,hf,rfl,_,_,_,_,rfl,tW _ _⟩⟩
def Sb{n:Nat}{c:Nat->Nat->Nat}{f a v:Nat}(hv:v∈an.bR n a)(he:c a v+an.B n c (an.aC a v true)=an.B n c a)(hm:∀u∈an.bR n a,u<v->c a u+an.B n c (an.aC a u true)≠an.B n c a):
    an.θ n c (f+1) a=v::an.θ n c f (an.aC a v true):=by
  obtain⟨u,h1,h2,h3,h4⟩:=an.wo (c:=c) (f:=f) (List.ne_nil_of_mem hv);rcases xcu u v with h|h|h
  · exact absurd h2 (hm u h1 h)
  · rw[h4,h]
  · exact absurd he (h3 v hv h)
def OT{yh:zV}{n:Nat}{L:List (zL)}{B:Hp}{bp bl bd a:Nat}(ha:a<4611686018427387904){H:Hp}(hp:nM bp bl bd yh n L 0 B H):
    Fc zQ 185 #[.pointer (some ⟨bp,0,none⟩),iv (a:Int)] H (λr H'=>r=iv 0/\H'=H):=by  obtain⟨kR,j7,ic,iO,rfl,hM⟩:=hp;refine aJ λg=>x8 (Nil.γ ?_);refine aj.mk (Ld.mk zM rfl ?_);refine ah.jU (b:=0) (by simp[bI];omega) (by simp[bI]) (Nil.γ ?_);refine aj.mk (Ld.mk zM rfl ?_);exact ah.fc (b:=0) (Br.T (aQ.here ⟨rfl,rfl⟩))
def afA(ts:List Tb)(B:Hp)(r:zV)(H:Hp):Prop:=
  (¬sJ ts/\r=.tuple #[iv 0,.slice none 0 0,iv 5])\/
  (sJ ts/\∃(n:Nat) (L:List (zL)),ts=M7 n L/\(L=[]->n=0)/\n<=16/\(∀ws∈L,an.eU n ws)/\
    ((12<n/\r=.tuple #[iv 0,.slice none 0 0,iv 6])\/
     (n<=12/\∃(s:zV) (C N:Hp),r=.tuple #[iv ((an.B n (an.lvl n L) 0:Nat):Int),s,iv 0]/\aL 3 .i64 s (iw (an.θ n (an.lvl n L) n 0)) C/\H=C++(N++B))))
structure BSt(n:Nat)(c:Nat->Nat->Nat)(s:zV)(a:Nat)(l:zL)(C:Hp):Prop where
  own:aL 3 .i64 s (iw l) C
  lt:a<2^n
  len:(an.bR n a).length+l.length=n
  pre:l++an.θ n c (n-l.length) a=an.θ n c n 0
def Ml{a v:Nat}:(a>>>v&&&1=0)↔a.testBit v=false:=by  have:=xdb (x:=a) (i:=v);rw[this,xbX,xa0];simp
def Yh{B:Hp}{v:zV}{ts:List Tb}(ht:jW B v ts)(cB:ts.length<33554432):Px zQ 117 #[v] B (afA ts B):=by
  refine aJ λg=>Ks (ae.pq (OE ht zO) ?_);rintro r N0 (⟨hO,bp,bl,bd,n,L,N,rfl,hn0,wQ,hf,rfl,hp⟩|⟨hO,rfl⟩)
  case inr=>exact Ext.mk rfl (Ext.mk rfl (ah.Cu (a:=5) (b:=0) (Br.dec (λ_=>HT.mk (by repeat (first|exact cc.refl _|apply cc.cons|apply cc.app)) (.inl ⟨hO,rfl⟩)) (λh=>absurd zD h))))
  generalize N0++B=H2 at hp⊢;clear N0;rw[qH]at cB;have QB:=hp;obtain⟨kR,j7,ic,iO,rfl,hM⟩:=hp;refine Ext.mk rfl (Ext.mk rfl (ah.Cu (a:=0) (b:=0) (Br.dec (λh=>absurd rfl h) (λ_=>?_))));apply Nil.γ;refine aj.mk (Ld.mk zM rfl ?_);refine ah.nV (b:=12) (Br.dec (λOv=>HT.mk (by repeat (first|exact cc.refl _|apply cc.cons|apply cc.app)) (.inr ⟨hO,n,L,rfl,hn0,wQ,hf,.inl ⟨Ov,rfl⟩⟩)) (λOv=>?_));clear hM;have uN:n<=12:=by omega
  have hOK:L≠[]->xO v n L (N++B):=λξ=>⟨ht.mono zS,hf,ξ,cB,uN⟩;have nq:2^n<=2^12:=xaA zD uN;have hm0:(an.bR n 0).length=n:=by
    have:an.bR n 0=List.range n:=by unfold an.bR;rw[xcx];simp
    rw[this,xaF]
  refine⟨λvs H=>∃(s:zV) (a:Nat) (l:zL) (C H1:Hp),vs=[s,iv (a:Int)]/\BSt n (an.lvl n L) s a l C/\nM bp bl bd v n L (an.aZ n L) (N++B) H1/\H=C++H1,
    λvs _=>(an.bR n (bH vs 1)).length,JE.mk ⟨_,0,[],[],_,rfl,⟨aL.nil,xbx n,by rw[hm0];rfl,by simp⟩,QB,rfl⟩,?_⟩
  clear QB kR j7 ic iO;rintro w14 w15 H ⟨s,a,l,C,H1,⟨⟩,hb,hp,rfl⟩ gs;have QB:=hp;obtain⟨kR,j7,ic,iO,rfl,hM⟩:=hp;apply hb.own.bL;rw[av];apply Nil.γ;refine aj.mk (Ld.mk zM rfl ?_);have Zl:=hb.len;refine ah.eA (Br.dec (λη=>?_) (λη=>?_))
  · have ahE:an.bR n a≠[]:=by intro e;rw[e]at Zl;simp at Zl;omega
    have ξ:L≠[]:=λe=>by have:=hn0 e;omega
    have Ab:=hOK ξ;have hnf:n-l.length=n-l.length-1+1:=by omega
    apply Nil.γ;refine aj.mk (Ld.mk zM rfl ?_);refine⟨λvs H=>∃(k:Nat) (H1:Hp),vs=[w14,iv (a:Int),iv (k:Int)]/\k<=n/\(∀u∈an.bR n a,u<k->an.lvl n L a u+an.B n (an.lvl n L) (an.aC a u true)≠an.B n (an.lvl n L) a)/\nM bp bl bd v n L (an.aZ n L) (N++B) H1/\H=C++H1,
      λvs _=>n-bH vs 2,JE.mk ⟨0,_,rfl,by omega,λu _ h=>by omega,QB,rfl⟩,?_⟩
    clear hM QB;rintro w28 w29 w30 H ⟨k,H1,⟨⟩,hk,hmin,hp,rfl⟩ gs;refine ah.eA (Br.dec (λhlk=>?_) (λhlk=>?_))
    · intro J hJ
      have hpk:2^k<=2^12:=xaA zD zO;have Γ:∀H1,¬(a.testBit k=false/\an.lvl n L a k+an.B n (an.lvl n L) (an.aC a k true)=an.B n (an.lvl n L) a)->nM bp bl bd v n L (an.aZ n L) (N++B) H1->J [.bool false] (C++H1):=λH1 hx hp=>hJ _ _ λgs=>by
        refine Br.no (ah.inc (aD.mk ⟨k+1,H1,rfl,by omega,λu hu hlu=>?_,hp,rfl⟩ (by rw[jb,jb,jb,jb];show n-(((k:Int)+1).toNat)<n-((k:Int).toNat);omega)));by_cases e:u=k
        · subst e;exact λh=>hx ⟨(an.cU.1 hu).2,h⟩
        · exact hmin u hu zO
      apply DR.self;have anf:a<4611686018427387904:=by have:=hb.lt;omega
      refine ah.iW (by simp[bI];omega) (ah.jU (b:=1) (by simp[bI];exact xaC (xbm _ _) zO) zD (ah.fc (b:=0) (Br.dec (λh0=>?_) (λh0=>JE.mk (Γ H1 (λh=>h0 (Ml.2 h.1)) hp)))));have hak:=Ml.1 h0;refine ah.Dt (a:=1) (by simp[IntKind.bits];omega) (by rw[xa4];simp[bI];omega) ?_;rw[xa4];refine ah.Lt (by simp[bI];omega) (by simp[bI];omega) ?_;have X8:a|||2^k=an.aC a k true:=rfl
      rw[X8];intro F;apply ae.fq (DP Ab hp hb.lt hlk hak);rintro r H2 ⟨rfl,nq⟩;intro F;apply ae.fq (sO Ab _ (an.aC a k true) (xai _) (an.gp hb.lt hlk) H2 nq);rintro r H3 ⟨rfl,Vz⟩;have hb1:=Gy Ab a k;have uj:=MH Ab (an.aC a k true);refine ah.fT λF=>(ae.fq (sO Ab _ a (xai _) hb.lt H3 Vz) ?_);rintro r H4 ⟨rfl,hp4⟩;apply ah.fc;by_cases he:an.lvl n L a k+an.B n (an.lvl n L) (an.aC a k true)=an.B n (an.lvl n L) a
      · rw[xam he]
        have hmem:k∈an.bR n a:=an.cU.2 ⟨hlk,hak⟩;have Xw:=Sb (f:=n-l.length-1) hmem he hmin;have hml:=an.gW hmem;refine aG.mk (JE.mk (hJ _ _ λgs=>Br.yes ?_));refine aq.int (e:=3) zK zK zK λxb=>?_;refine aL.app (A:=[_]) hb.own (by exact .head _) zP zP λv' C' ho=>?_;refine ah.Dt (a:=1) (by simp[IntKind.bits];omega) (by rw[xa4];simp[bI];omega) ?_;rw[xa4];refine ah.Lt (by simp[bI];omega) (by simp[bI];omega) ?_;rw[X8];refine aD.of .right ⟨v',an.aC a k true,l++[k],C',H4,rfl,⟨by simpa[iw]using ho,an.gp hb.lt hlk,by simp;omega,?_⟩,hp4,rfl⟩ (by rw[jb,jb];show(an.bR n (an.aC a k true)).length<(an.bR n a).length;omega);have:=hb.pre;rw[hnf,Xw]at this;rw[xaf,xcm,Nat.sub_add_eq,xag];exact this
      · rw[xan he]
        exact aG.mk (JE.mk (Γ H4 (λh=>he h.2) hp4))
    · obtain⟨u,h1,h2,_⟩:=an.wo (c:=an.lvl n L) (f:=0) ahE
      exact absurd h2 (hmin u h1 (by have:=(an.cU.1 h1).1;omega))
  · have nL:l.length=n:=by omega
    have hl:l=an.θ n (an.lvl n L) n 0:=by
      have:=hb.pre;rw[nL,xcX]at this;simpa[an.θ]using this
    have hown:=hb.own;rw[hl]at hown;by_cases ξ:L=[]
    · have hn:=hn0 ξ
      subst ξ;subst hn;apply ae.fq (OT (a:=0) zO QB);rintro r H3 ⟨rfl,rfl⟩;exact⟨_,_,rfl,.refl _,(by repeat (first|exact cc.refl _|apply cc.cons|apply cc.app)),.inr ⟨hO,0,[],rfl,hn0,wQ,hf,.inr ⟨uN,_,C,(_::_::_::N),rfl,hown,rfl⟩⟩⟩
    · apply ae.fq (sO (hOK ξ) _ 0 (xai _) (xbx n) _ QB)
      rintro r H3 ⟨rfl,pT,rF,es4,ck4,rfl,hM'⟩;exact⟨_,_,rfl,.refl _,(by repeat (first|exact cc.refl _|apply cc.cons|apply cc.app)),.inr ⟨hO,n,L,rfl,hn0,wQ,hf,.inr ⟨uN,_,C,(_::_::_::N),rfl,hown,rfl⟩⟩⟩
end
end Go.Proofs
namespace QX
abbrev It:=Int×Int
def prec(a b:It):Bool:=decide (a.2<b.2)||(a.2==b.2&&decide (a.1<b.1))
variable{a b:It}
def v9:prec a b=true↔a.2<b.2\/a.2=b.2/\a.1<b.1:=by simp[prec]
def iG:prec a b=false↔¬(a.2<b.2\/a.2=b.2/\a.1<b.1):=by rw[<-v9];simp
def om(a:It):prec a a=false:=by rw[iG];omega
def qV(h:prec a b=true):prec b a=false:=by rw[v9]at h;rw[iG];omega
def le_trans{c:It}(h1:prec b a=false)(h2:prec c b=false):prec c a=false:=by rw[iG]at*;omega
def GB{c:It}(h1:prec a b=true)(h2:prec c b=false):prec c a=false:=by rw[v9]at h1;rw[iG]at*;omega
def iA(V:Nat->It)(i:Nat)(b:It):Nat->It:=λj=>if j=i then b else V j
def E(V:Nat->It)(j:Nat):Prop:=prec (V j) (V ((j-1) /2))=false
def AJ(n:Nat)(V:Nat->It)(i:Nat):Prop:=
 (∀j,0<j->j<n->j≠i->(j-1) /2≠i->E V j)/\(∀j,0<j->j<n->(j-1) /2=i->0<i->prec (V j) (V ((i-1) /2))=false)
def pX(n:Nat)(V:Nat->It)(i:Nat):Prop:=∀j,0<j->j<n->(j-1) /2=i->E V j
def Yz(n:Nat)(V:Nat->It)(i:Nat):Prop:=
 (∀j,0<j->j<n->(j-1) /2≠i->E V j)/\(∀j,0<j->j<n->(j-1) /2=i->0<i->prec (V j) (V ((i-1) /2))=false)
def Ord(n:Nat)(V:Nat->It):Prop:=∀j,0<j->j<n->E V j
variable{n i:Nat}{V:Nat->It}
def V4(hi:0<i)(hn:i<n)(h:AJ n V i)(ha:prec (V i) (V ((i-1) /2))=true):
  AJ n (iA (iA V i (V ((i-1) /2))) ((i-1) /2) (V i)) ((i-1) /2)/\pX n (iA (iA V i (V ((i-1) /2))) ((i-1) /2) (V i)) ((i-1) /2):=by
 obtain⟨h1,h2⟩:=h;have hq:(i-1) /2≠i:=by omega
 generalize hqd:(i-1) /2=q at*;have hqi:q<i:=by omega
 refine⟨⟨?_,?_⟩,?_⟩
 ·intro j j0 jn jq jp;unfold E iA;rw[xac jq,xac jp];by_cases e1:j=i
  ·exact absurd (by rw[e1,hqd]) jp
  rw[xac e1];by_cases e2:(j-1) /2=i
  ·rw[xae e2];exact h2 j j0 jn e2 hi
  rw[xac e2];exact h1 j j0 jn e1 e2
 ·intro j j0 jn jp q0;unfold iA;have hqq:(q-1) /2≠q:=by omega
  have ahs:(q-1) /2≠i:=by omega
  rw[xac hqq,xac ahs];have hjq:j≠q:=by omega
  rw[xac hjq];have Xu:E V q:=h1 q q0 zO hq zO;by_cases e1:j=i
  ·rw[xae e1];exact Xu
  rw[xac e1];have:=h1 j j0 jn e1 zO;unfold E at this Xu;rw[jp]at this;exact le_trans Xu this
 intro j j0 jn jp;unfold E iA;rw[jp,xae rfl];have hjq:j≠q:=by omega
 rw[xac hjq];by_cases e1:j=i
 ·rw[xae e1];exact qV ha
 rw[xac e1];have:=h1 j j0 jn e1 zO;unfold E at this;rw[jp]at this;exact GB ha this
def V5(h:AJ n V i)(ha:i=0\/prec (V i) (V ((i-1) /2))=false):Yz n V i:=by
 refine⟨λj j0 jn jp=>?_,h.2⟩;by_cases e:j=i
 ·subst e;rcases ha with ha|ha
  ·omega
  exact ha
 exact h.1 j j0 jn e jp
def Am(h:Yz n V i)(hc:pX n V i):Ord n V:=λj j0 jn=>by
 by_cases e:(j-1) /2=i
 ·exact hc j j0 jn e
 exact h.1 j j0 jn e
def z5(n:Nat)(V:Nat->It)(i:Nat):Nat:=if(decide (2*i+1+1<n) &&prec (V (2*i+1+1)) (V (2*i+1)))=true then 2*i+1+1 else 2*i+1
def th(n:Nat)(V:Nat->It)(i:Nat):z5 n V i=2*i+1\/z5 n V i=2*i+2/\2*i+2<n:=by
 unfold z5;split
 ·rename_i h;simp only[xaJ,xaM]at h;right;omega
 left;rfl
variable{j:Nat}
def zY(j0:0<j)(jn:j<n)(jp:(j-1) /2=i):prec (V j) (V (z5 n V i))=false:=by
 unfold z5;split
 ·rename_i h;simp only[xaJ,xaM]at h;rcases(show j=2*i+1\/j=2*i+1+1 by omega)with rfl|rfl
  ·exact qV h.2
  exact om _
 rename_i h;rcases(show j=2*i+1\/j=2*i+1+1 by omega)with rfl|rfl
 ·exact om _
 cases hh:prec (V (2*i+1+1)) (V (2*i+1))
 ·rfl
 exact absurd (by simp[hh,jn]) h
def tE(h:Yz n V i)(hk:z5 n V i<n)(ha:prec (V (z5 n V i)) (V i)=true):
  Yz n (iA (iA V i (V (z5 n V i))) (z5 n V i) (V i)) (z5 n V i):=by
 have hl:∀j,0<j->j<n->(j-1) /2=i->prec (V j) (V (z5 n V i))=false:=λj=>zY;have hkc:=th n V i;generalize z5 n V i=c at*;obtain⟨h1,h2⟩:=h;have hcp:(c-1) /2=i:=by omega
 have hc0:0<c:=by omega
 have qp:c≠i:=by omega
 refine⟨?_,?_⟩
 ·intro j j0 jn jp;unfold E iA;rw[xac jp];by_cases e1:j=c
  ·rw[xae e1,xae (by rw[e1];exact hcp)];exact qV ha
  rw[xac e1];by_cases e2:j=i
  ·rw[xae e2];have:(j-1) /2≠i:=by omega
   rw[xac this,e2];exact h2 c hc0 hk hcp zO
  rw[xac e2];by_cases e3:(j-1) /2=i
  ·rw[xae e3];exact hl j j0 jn e3
  rw[xac e3];exact h1 j j0 jn e3
 intro j j0 jn jp _;unfold iA;rw[hcp];have:j≠c:=by omega
 have e2:j≠i:=by omega
 rw[xac this,xac e2,xac (λe=>qp e.symm),xae rfl];have:=h1 j j0 jn zO;unfold E at this;rwa [jp]at this
def OI(h:Yz n V i)(ha:n<=z5 n V i\/prec (V (z5 n V i)) (V i)=false):Ord n V:=by
 refine Am h λj j0 jn jp=>?_;have hl:=zY (V:=V) j0 jn jp;rcases ha with ha|ha
 ·rcases th n V i with h|h<;>omega
 unfold E;rw[jp];exact le_trans ha hl
def WJ(h:Ord n V):∀j,j<n->prec (V j) (V 0)=false:=by
 intro j;induction j using Nat.strongRecOn with
 |_ j ih=>
  intro jn;by_cases j0:j=0
  ·subst j0;exact om _
  exact le_trans (ih ((j-1) /2) zO zO) (h j zO jn)
def bg(l:List It)(j:Nat):It:=l.getD j (0,0)
variable{l:List It}
def Yl(h:j<l.length):l[j]? =some (bg l j):=by simp[bg,List.getD,h]
def ir(b:It)(h:i<l.length):bg (l.set i b)=iA (bg l) i b:=by
 funext j
 unfold bg iA;simp only[List.getD,xbp];by_cases e:i=j
 ·subst e;simp[h]
 rw[xac e,xac (λx=>e x.symm)]
def qP(h:i<l.length):l.set i (bg l i)=l:=by
 apply xba;intro j;rw[xbp];by_cases e:i=j
 ·subst e;simp[h,bg,List.getD]
 simp[e]
def swap_perm{q:Nat}(hi:i<l.length)(hq:q<l.length)(ξ:q≠i):((l.set i (bg l q)).set q (bg l i)).Perm l:=by
 rw[xcz];intro x;have g1:l[i]=bg l i:=by simp[bg,List.getD,hi]
 have g2:l[q]=bg l q:=by simp[bg,List.getD,hq]
 have g3:(l.set i (bg l q))[q]'(by simp[hq])=bg l q:=by rw[List.getElem_set_ne (λe=>ξ e.symm)];exact g2
 rw[xdW (by simp[hq]),xdW hi,g1,g3];have hc:bg l i=x->0<l.count x:=λe=>by rw[xbP,<-e,<-g1];exact xaK hi
 by_cases e1:bg l i=x
 ·have:=hc e1;by_cases e2:bg l q=x<;>simp[e1,e2]<;>omega
 by_cases e2:bg l q=x<;>simp[e1,e2]
def kF(l:List It):Prop:=(l.map Prod.fst).Nodup
def kF.perm{l':List It}(h:kF l)(p:l'.Perm l):kF l':=(p.map _).nodup_iff.2 h
def kF.inj(h:kF l)(hi:i<l.length)(hj:j<l.length)(e:(bg l i).1=(bg l j).1):i=j:=by
 unfold kF at h;have hp:=List.pairwise_iff_getElem.1 h;have g:∀k (hk:k<l.length),(l.map Prod.fst)[k]'(by simpa using hk)=(bg l k).1:=λk hk=>by simp[bg,List.getD,hk]
 rcases xcu i j with η|rfl|η
 ·have:=hp i j (by simpa using hi) (by simpa using hj) η;rw[g i hi,g j hj]at this;exact absurd e this
 ·rfl
 have:=hp j i (by simpa using hj) (by simpa using hi) η;rw[g i hi,g j hj]at this;exact absurd e.symm this
def iI{x:Int}:x∈l.map Prod.fst↔∃j,j<l.length/\(bg l j).1=x:=by
 rw[xbc];constructor
 ·rintro⟨j,hj,e⟩;have hj':j<l.length:=by simpa using hj
  exact⟨j,hj',by simpa[bg,List.getD,hj']using e⟩
 rintro⟨j,hj,e⟩;exact⟨j,by simpa using hj,by simpa[bg,List.getD,hj]using e⟩
def Fl(f:Int->Option Nat)(x:Int)(p:Option Nat):Int->Option Nat:=λy=>if y=x then p else f y
def nP(l:List It)(f:Int->Option Nat)(i:Nat):Prop:=(∀j,j<l.length->j≠i->f (bg l j).1=some j)/\∀x,x∉l.map Prod.fst->f x=none
def Cons(l:List It)(f:Int->Option Nat):Prop:=(∀j,j<l.length->f (bg l j).1=some j)/\∀x,x∉l.map Prod.fst->f x=none
variable{f:Int->Option Nat}
def nP.done(h:nP l f i)(ho:kF l)(hi:i<l.length):Cons l (Fl f (bg l i).1 (some i)):=by
 refine⟨λj hj=>?_,λx hx=>?_⟩
 ·unfold Fl;by_cases e:(bg l j).1=(bg l i).1
  ·rw[xae e,ho.inj hj hi e]
  rw[xac e];exact h.1 j hj (λe2=>e (by rw[e2]))
 unfold Fl;rw[xac (λe=>hx (iI.2 ⟨i,hi,e.symm⟩))];exact h.2 x hx
def nP.step{q:Nat}(h:nP l f i)(ho:kF l)(hi:i<l.length)(hq:q<l.length)(ξ:q≠i):
  nP ((l.set i (bg l q)).set q (bg l i)) (Fl f (bg l q).1 (some i)) q:=by
 have CE:∀j,bg ((l.set i (bg l q)).set q (bg l i)) j=iA (iA (bg l) i (bg l q)) q (bg l i) j:=λj=>by rw[ir _ (by simpa using hq),ir _ hi]
 refine⟨λj hj hjq=>?_,λx hx=>?_⟩
 ·rw[CE];simp only[xbE]at hj;unfold iA Fl;rw[xac hjq];by_cases e:j=i
  ·rw[xae e,xae rfl,e]
  rw[xac e];rw[xac (λe2=>hjq (ho.inj hj hq e2))];exact h.1 j hj e
 have hx':x∉l.map Prod.fst:=λhm=>hx (by
  have:=(swap_perm hi hq ξ).map Prod.fst;exact this.mem_iff.2 hm)
 unfold Fl;rw[xac (λe=>hx' (iI.2 ⟨q,hq,e.symm⟩))];exact h.2 x hx'
open Go Go.Sx
def enc(kd:IntKind)(a:It):List zV:=[.int kd a.1,.int .i64 a.2]
def fe(kd:IntKind)(l:List It):List (List zV):=l.map (enc kd)
def cW(kd:IntKind)(l:List It):(fe kd l).length=l.length:=by simp[fe]
def OD(kd:IntKind)(l:List It):∀r∈fe kd l,r.length=2:=λr hr=>by
 obtain⟨a,_,rfl⟩:=xal.1 hr;rfl
variable{kd:IntKind}
def gi(h:i<l.length)(aF:List (List zV)):(fe kd l++aF)[i]? =some (enc kd (bg l i)):=by rw[xaZ (by rw[cW];exact h),fe,xaq,Yl h];rfl
def Ul(h:i<l.length)(a:It)(aF:List (List zV)):(fe kd l++aF).set i (enc kd a)=fe kd (l.set i a)++aF:=by rw[xc5 _ _ (by rw[cW];exact h),fe,fe,xcC]
def idx(i:Nat):zV:=.int .i64 (i:Int)
def HO(kd:IntKind)(TI TH:TypeId)(h:zV)(l:List It)(f:Int->Option Nat)(C:Hp):Prop:=
 ∃bh sv mv Cs Cm,h=.pointer (some ⟨bh,0,none⟩)/\C=(bh,Obj.cells #[sv,mv] TH (0,0))::(Cs++Cm)/\aU TI 2 sv (fe kd l) Cs/\lR kd idx mv f Cm/\(mv=.map none->l=[])
def HO.open{TI TH:TypeId}{h:zV}{C:Hp}(H:HO kd TI TH h l f C)(hp:0<l.length):
  ∃bh la mb aF Cm,h=.pointer (some ⟨bh,0,none⟩)/\
   C=(bh,Obj.cells #[.slice (some ⟨la,0,none⟩) l.length (l.length+aF.length),.map (some mb)] TH (0,0))::(la,.cells (ψ (fe kd l++aF)) TI (0,0))::Cm/\
   (∀r∈fe kd l++aF,r.length=2)/\lR kd idx (.map (some mb)) f Cm:=by
 obtain⟨bh,sv,mv,Cs,Cm,rfl,rfl,hs,hm,ξ⟩:=H;obtain⟨la,aF,rfl,rfl,aH⟩:=hs.pos (by rw[cW];exact hp);rw[cW];rcases hm with⟨rfl,_⟩|⟨mb,m,ck,rfl,h2⟩
 ·rw[ξ rfl]at hp;simp at hp
 exact⟨bh,la,mb,aF,Cm,rfl,rfl,aH,.inr ⟨mb,m,ck,rfl,h2⟩⟩
def HO.shut{TI TH:TypeId}{bh la mb c:Nat}{aF:List (List zV)}{Cm:Hp}(aH:∀r∈fe kd l++aF,r.length=2)(hn:n=l.length)(hc:c=l.length+aF.length)
 (hm:lR kd idx (.map (some mb)) f Cm):
  HO kd TI TH (.pointer (some ⟨bh,0,none⟩)) l f ((bh,Obj.cells #[.slice (some ⟨la,0,none⟩) n c,.map (some mb)] TH (0,0))::(la,.cells (ψ (fe kd l++aF)) TI (0,0))::Cm):=
 ⟨bh,_,_,[_],Cm,rfl,rfl,aU.mk' aH (by rw[cW];exact hn) (by rw[cW];exact hc),hm,λh=>by simp at h⟩
def RT{l aF:List (List zV)}(h:∀r∈l++aF,r.length=2)(kd:IntKind)(l':List It):∀r∈fe kd l'++aF,r.length=2:=λr hr=>by
 rcases xao.1 hr with hr|hr
 ·exact OD kd l' r hr
 exact h r (by simp[hr])
def pU(kd:IntKind)(a:It):∀v∈enc kd a,v.oneCell'=true:=by simp[enc,Value.oneCell']
def Z5(j:Nat)(h:0<j):((j-1:Nat):Int).tdiv 2=(((j-1) /2:Nat):Int):=by rw[Int.tdiv_eq_ediv_of_nonneg zO];omega
def vQ{q:Nat}(a:It)(hi:i<l.length)(hq:q<l.length)(ξ:q≠i):((l.set i a).set i (bg (l.set i a) q)).set q (bg (l.set i a) i)=(l.set i (bg l q)).set q a:=by rw[ir a hi,List.set_set];simp[iA,ξ]
def HI(kd:IntKind)(TI TH:TypeId)(h:zV)(l:List It)(C:Hp):Prop:=∃f,HO kd TI TH h l f C/\Cons l f/\Ord l.length (bg l)/\kF l
def HH(h:j<l.length):bg (l++[a]) j=bg l j:=by simp[bg,List.getD,xaZ h]
def RX(hc:Cons l f)(ho:Ord l.length (bg l))(h1:kF l)(hx:a.1∉l.map Prod.fst):
  AJ (l++[a]).length (bg (l++[a])) l.length/\nP (l++[a]) f l.length/\kF (l++[a])/\pX (l++[a]).length (bg (l++[a])) l.length:=by
 simp only[xaf,xax,xbF,xa1];refine⟨⟨λj j0 jn jne jp=>?_,λj j0 jn jp=>by omega⟩,⟨λj jn jne=>?_,λx hx'=>?_⟩,?_,λj j0 jn jp=>by omega⟩
 ·unfold E;rw[HH zO,HH zO];exact ho j j0 zO
 ·simp only[xaf,xax,xbF]at jn;rw[HH zO];exact hc.1 j zO
 ·exact hc.2 x (λh=>hx' (by rw[xaz,xao];exact .inl h))
 unfold kF at*;rw[xaz,xa3];exact⟨h1,by simp,λa' dS b hb=>by simp at hb;subst hb;intro e;subst e;exact hx dS⟩
def Uy(hc:Cons l f){x:Int}:(x∉l.map Prod.fst/\f x=none)\/∃i,i<l.length/\(bg l i).1=x/\f x=some i:=by
 by_cases h:x∈l.map Prod.fst
 ·obtain⟨j,hj,e⟩:=iI.1 h;exact .inr ⟨j,hj,e,by rw[<-e];exact hc.1 j hj⟩
 exact .inl ⟨h,hc.2 x h⟩
theorem WC{l:List It}{f:Int->Option Nat}(hc:Cons l f)(ho:Ord l.length (bg l))(h1:kF l){n:Nat}(hn:l.length=n+1):
  let l':=l.take n
  ((0<n->(bg l n)::(l'.set 0 (bg l n)).tail=l'.set 0 (bg l n)/\(bg l 0::l'.set 0 (bg l n)).Perm l/\Yz n (bg (l'.set 0 (bg l n))) 0/\kF (l'.set 0 (bg l n))/\
   nP (l'.set 0 (bg l n)) (Fl f (bg l 0).1 none) 0)):=by
 intro l' hn0;have hl':l'.length=n:=by simp[l',hn]
 have cZ:(bg l 0::l'.set 0 (bg l n)).Perm l:=by
  rw[xcz];intro x;have e:l=l'++[bg l n]:=by
   have:l=l.take n++l.drop n:=(xbs n l).symm;have h2:l.drop n=[bg l n]:=by
    rw[xbt zO,xdm zO];simp[hn,bg,List.getD]
   rw[h2]at this;exact this
  have g0:l'[0]' zO=bg l 0:=by simp[l',bg,List.getD,hn]
  conv=>rhs;rw[e]
  rw[xca,xdW zO,g0,xbf];have hc0:bg l 0=x->0<l'.count x:=λe=>by rw[xbP,<-e,<-g0];exact xaK _
  by_cases e1:bg l 0=x
  ·have:=hc0 e1;by_cases e2:bg l n=x<;>simp[e1,e2]<;>omega
  by_cases e2:bg l n=x<;>simp[e1,e2]
 have CE:∀j,j<n->j≠0->bg (l'.set 0 (bg l n)) j=bg l j:=λj hj h0=>by
  rw[ir _ zO];simp[iA,h0,l',bg,List.getD,hj]
 have hO:kF (l'.set 0 (bg l n)):=by
  have:=(h1.perm cZ:kF _);unfold kF at this⊢;simp only[xay,xaX]at this;exact this.2
 refine⟨?_,cZ,⟨λj j0 jn jp=>?_,λj j0 jn jp h=>by omega⟩,hO,λj hj hj0=>?_,λx hx=>?_⟩
 ·cases hh:l' with
  |nil=>rw[hh]at hl';simp at hl';omega
  |cons a r=>simp
 ·unfold E;rw[CE j jn zO,CE _ zO jp];exact ho j j0 zO
 ·simp only[xbE,hl']at hj;rw[CE j hj hj0];unfold Fl;rw[xac (λe=>hj0 (h1.inj zO zO e))];exact hc.1 j zO
 unfold Fl;by_cases e:x=(bg l 0).1
 ·rw[xae e]
 rw[xac e];refine hc.2 x λhm=>hx ?_;have:=(cZ.map Prod.fst).mem_iff.2 hm;simp only[xay,xak]at this;rcases this with h|h
 ·exact absurd h e
 exact h
end QX
set_option maxRecDepth 100000
namespace Go.Proofs
open Go Go.Sx
section
open QX
abbrev VS:=HO .i64 295 293
abbrev Yx:=HI .i64 295 293
def xM(a b:It)(B:Hp):Rd zQ 265 #[.agg #[iv a.1,iv a.2],.agg #[iv b.1,iv b.2]] B (· =.bool (prec a b)):=by
 refine aJ λg=>Il λb1 _ b2 _=>?_
 (repeat (first|apply aj.mk|refine Ld.mk (by repeat (first|exact List.Mem.head _|apply List.Mem.tail|apply xaa)) rfl ?_|apply ah.eql|apply ah.geq))
 refine dh.or (a.2==b.2&&decide (a.1<b.1)) (λ_=>?_) rfl λ_=>br.mk (.skip .tail) rfl
 (repeat (first|apply aj.mk|refine Ld.mk (by repeat (first|exact List.Mem.head _|apply List.Mem.tail|apply xaa)) rfl ?_|apply ah.eql|apply ah.geq))
 refine dh.and (decide (a.1<b.1)) (λ_=>?_) rfl λ_=>⟨rfl,rfl⟩
 (repeat (first|apply aj.mk|refine Ld.mk (by repeat (first|exact List.Mem.head _|apply List.Mem.tail|apply xaa)) rfl ?_|apply ah.eql|apply ah.geq))
 exact⟨rfl,rfl⟩
def sg{h:zV}{l:List It}{f:Int->Option Nat}{C:Hp}(ho:VS h l f C){i:Nat}(hi:i<l.length)(a:It):
  Fc zQ 226 #[h,iv (i:Int),.agg #[iv a.1,iv a.2]] C (λv C'=>v=.tuple #[]/\VS h (l.set i a) (Fl f a.1 (some i)) C'):=by
 obtain⟨bh,la,mb,aF,Cm,rfl,rfl,aH,hm⟩:=ho.open zO;refine aJ λg=>IT λb1 _=>?_;apply DR.self
 (repeat (first|apply Nil.γ|apply aj.mk|refine Ld.mk (by repeat (first|exact List.Mem.head _|apply List.Mem.tail|apply xaa)) rfl ?_))
 apply aB.whole (r:=enc .i64 a) zM rfl;apply ay.nat hi;refine St.row (l:=fe .i64 l++aF) (by repeat (first|exact df.head _|apply df.tail|apply df.cf)) aH (by rw[xaf,cW];omega) rfl (pU _ _) ?_;apply DR.self
 (repeat (first|apply Nil.γ|apply aj.mk|refine Ld.mk (by repeat (first|exact List.Mem.head _|apply List.Mem.tail|apply xaa)) rfl ?_))
 rw[<-xaI Cm];refine lR.bt (p:=i) (A:=[_,_,_]) (B:=[]) hm λC' Ω=>?_;refine⟨_,_,rfl,.tail,rfl,?_⟩;rw[Ul hi,xaI];exact .shut (RT aH _ _) zI zI Ω
theorem aaC{h:zV}{l:List It}{f:Int->Option Nat}{C:Hp}(ho:VS h l f C){i:Nat}(hi:i<l.length)(cB:l.length<4611686018427387904)(hu:AJ l.length (bg l) i)(hc:nP l f i)(hO:kF l):
  Fc zQ 225 #[h,iv (i:Int)] C (λv C'=>v=.tuple #[]/\∃l' f' p,VS h l' f' C'/\l'.Perm l/\Cons l' f'/\Yz l'.length (bg l') p/\p<l'.length/\bg l' p=bg l i/\
   (pX l.length (bg l) i->Ord l'.length (bg l'))):=by
 obtain⟨bh,la,mb,aF,Cm,rfl,rfl,aH,hm⟩:=ho.open zO;obtain⟨n,hn⟩:∃n,n=l.length:=⟨_,rfl⟩;obtain⟨a,ha⟩:∃a,a=bg l i:=⟨_,rfl⟩;refine aJ λg=>IU ?_
 (repeat (first|apply Nil.γ|apply aj.mk|refine Ld.mk (by repeat (first|exact List.Mem.head _|apply List.Mem.tail|apply xaa)) rfl ?_))
 refine ay.nat hi ?_;refine aB.row (l:=fe .i64 l++aF) zM aH (gi hi aF) ?_;intro b6 _;refine St.p (pU _ _) ?_;rw[<-ha];refine⟨λvs H=>∃(j:Nat) (L:List It) (f:Int->Option Nat) (C:Hp),vs=[iv (j:Int)]/\H=(b6,Obj.cells (enc .i64 a).toArray 295 zZ)::C/\VS (.pointer (some ⟨bh,0,none⟩)) L f C/\L.length=n/\j<n/\
   (L.set j a).Perm l/\AJ n (bg (L.set j a)) j/\nP (L.set j a) f j/\(pX n (bg l) i->pX n (bg (L.set j a)) j),
  λvs _=>bH vs 0,.mk ⟨i,l,f,_,rfl,rfl,ho,hn.symm,by omega,?_,?_,?_,?_⟩,?_⟩
 ·exact(by rw[ha,qP hi])
 ·rw[ha,qP hi,hn];exact hu
 ·rw[ha,qP hi];exact hc
 ·rw[ha,qP hi];exact id
 rintro w H ⟨j,L,f,C,hw,rfl,ho,hLn,hj,hp,hu,hc,kM⟩ gs;simp only[xaw,xaW]at hw;subst hw;have ho0:=ho;obtain⟨bh',la,mb,aF,Cm,hbh,rfl,aH,hm⟩:=ho.open zO;simp only[Value.pointer.injEq,xat,Addr.mk.injEq,xaW]at hbh;subst hbh;have hOV:kF (L.set j a):=hO.perm hp;have hlV:(L.set j a).length=n:=by simp[hLn]
 have Zo:bg (L.set j a) j=a:=by rw[ir a zO];simp[iA]
 have hVq:0<j->bg (L.set j a) ((j-1) /2)=bg L ((j-1) /2):=λh0=>by rw[ir a zO];simp[iA,show¬((j-1) /2=j)from by omega]
 intro J hJ;have hend:¬(0<j/\prec a (bg L ((j-1) /2))=true)->J [.bool false] ((b6,Obj.cells (enc .i64 a).toArray 295 zZ)::(bh,Obj.cells #[.slice (some ⟨la,0,none⟩) L.length (L.length+aF.length),.map (some mb)] 293 zZ)::(la,.cells (ψ (fe .i64 L++aF)) 295 zZ)::Cm):=λΓ=>hJ _ _ λgs=>by
  refine Br.no (aB.q ?_);refine ae.fq (sg ho0 (i:=j) zO a) ?_;rintro v C' ⟨rfl,cA⟩;have hd:=hc.done hOV zO;rw[Zo]at hd;have hex:=V5 hu (by
   by_cases h0:j=0
   ·exact .inl h0
   right;rw[Zo,hVq zO];cases h:prec a (bg L ((j-1) /2))
   ·rfl
   exact absurd ⟨by omega,h⟩ Γ)
  rw[<-hlV]at hex;exact⟨_,_,rfl,.tail,rfl,_,_,j,cA,hp,hd,hex,by omega,by rw[Zo,ha],λhk=>Am hex (by rw[hlV];exact kM (by rw[hn];exact hk))⟩
 refine DR.self (ah.gtr (Br.dec (λh0=>?_) (λh0=>JE.mk (hend (λh=>h0 zO)))));have h0:0<j:=by omega
 refine aB.q ?_
 (repeat (first|apply Nil.γ|apply aj.mk|refine Ld.mk (by repeat (first|exact List.Mem.head _|apply List.Mem.tail|apply xaa)) rfl ?_))
 refine ah.mc (c:=((j-1:Nat):Int)) zO zO (ah.RW zD (Z5 j h0) zO (ay.nat zO ?_));refine aB.row (l:=fe .i64 L++aF) zM aH (gi zO aF) ?_;intro F;refine ae.eq (xM a _ _) (⟨.refl _,?_⟩);cases Zc:prec a (bg L ((j-1) /2))with
 |false=>exact aG.mk (JE.mk (hend (λh=>by rw[Zc]at h;exact absurd h.2 zD)))
 |true=>
 refine aG.mk (JE.mk (hJ _ _ λgs=>Br.yes ?_))
 (repeat (first|apply Nil.γ|apply aj.mk|refine Ld.mk (by repeat (first|exact List.Mem.head _|apply List.Mem.tail|apply xaa)) rfl ?_))
 refine ah.mc (c:=((j-1:Nat):Int)) zO zO (ah.RW zD (Z5 j h0) zO (ay.nat zO ?_));refine aB.row (l:=fe .i64 L++aF) zM aH (gi zO aF) ?_;refine ae.fq (sg ho0 (i:=j) zO (bg L ((j-1) /2))) ?_;rintro v C' ⟨rfl,cA⟩;refine ah.mc (c:=((j-1:Nat):Int)) zO zO (ah.RW zD (Z5 j h0) zO ?_);have hst:=V4 h0 (by rw[<-hlV]at hj;rw[hlV]at hj;exact hj) hu (by rw[Zo,hVq h0];exact Zc);have hcs:=hc.step hOV (i:=j) (q:=(j-1) /2) zO zO zO;have hpp:=(swap_perm (l:=L.set j a) (i:=j) (q:=(j-1) /2) zO zO zO).trans hp;have hVV:(L.set j (bg L ((j-1) /2))).set ((j-1) /2) a=((L.set j a).set j (bg (L.set j a) ((j-1) /2))).set ((j-1) /2) (bg (L.set j a) j):=(vQ a zO zO zO).symm;have CE:bg ((L.set j (bg L ((j-1) /2))).set ((j-1) /2) a)=iA (iA (bg (L.set j a)) j (bg (L.set j a) ((j-1) /2))) ((j-1) /2) (bg (L.set j a) j):=by
  rw[hVV,ir _ zP,ir _ zO]
 refine aD.mk ⟨(j-1) /2,_,_,C',rfl,rfl,cA,by simp[hLn],by omega,?_,?_,?_,λ_=>?_⟩ ?_
 ·rw[hVV];exact hpp
 ·rw[CE];exact hst.1
 ·rw[hVV];rw[hVq h0]at hcs⊢;exact hcs
 ·rw[CE];exact hst.2
 simp only[bH,xbe];omega
end
section
open QX
theorem Tx{h:zV}{l:List It}{f:Int->Option Nat}{C:Hp}(ho:VS h l f C){i:Nat}(hi:i<l.length)(cB:l.length<4611686018427387904)(hu:Yz l.length (bg l) i)(hc:nP l f i)(hO:kF l):
  Fc zQ 227 #[h,iv (i:Int)] C (λv C'=>v=.tuple #[]/\∃l' f',VS h l' f' C'/\l'.Perm l/\Cons l' f'/\Ord l'.length (bg l')):=by
 obtain⟨bh,la,mb,aF,Cm,rfl,rfl,aH,hm⟩:=ho.open zO;obtain⟨n,hn⟩:∃n,n=l.length:=⟨_,rfl⟩;obtain⟨a,ha⟩:∃a,a=bg l i:=⟨_,rfl⟩;refine aJ λg=>IS ?_
 (repeat (first|apply Nil.γ|apply aj.mk|refine Ld.mk (by repeat (first|exact List.Mem.head _|apply List.Mem.tail|apply xaa)) rfl ?_|apply aP.mk|apply ah.geq))
 refine ay.nat hi ?_;refine aB.row (l:=fe .i64 l++aF) zM aH (gi hi aF) ?_;intro b6 _;refine St.p (pU _ _) ?_;rw[<-ha];refine⟨λvs H=>∃(j:Nat) (L:List It) (f:Int->Option Nat) (C:Hp),vs=[iv (j:Int)]/\H=(b6,Obj.cells (enc .i64 a).toArray 295 zZ)::C/\VS (.pointer (some ⟨bh,0,none⟩)) L f C/\L.length=n/\j<n/\
   (L.set j a).Perm l/\Yz n (bg (L.set j a)) j/\nP (L.set j a) f j,
  λvs _=>n-bH vs 0,.mk ⟨i,l,f,_,rfl,rfl,ho,hn.symm,by omega,?_,?_,?_⟩,?_⟩
 ·exact(by rw[ha,qP hi])
 ·rw[ha,qP hi,hn];exact hu
 ·rw[ha,qP hi];exact hc
 rintro w H ⟨j,L,f,C,hw,rfl,ho,hLn,hj,hp,hu,hc⟩ gs;simp only[xaw,xaW]at hw;subst hw;have ho0:=ho;obtain⟨bh',la,mb,aF,Cm,hbh,rfl,aH,hm⟩:=ho.open zO;simp only[Value.pointer.injEq,xat,Addr.mk.injEq,xaW]at hbh;subst hbh;have hOV:kF (L.set j a):=hO.perm hp;have hlV:(L.set j a).length=n:=by simp[hLn]
 have Zo:bg (L.set j a) j=a:=by rw[ir a zO];simp[iA]
 have hVL:∀c,c≠j->bg (L.set j a) c=bg L c:=λc h0=>by rw[ir a zO];simp[iA,h0]
 refine ah.ade (c:=((2*j:Nat):Int)) zO zO (ah.AG (c:=((2*j+1:Nat):Int)) zO zO λJ hJ=>?_);obtain⟨c,hcd⟩:∃c,c=z5 n (bg (L.set j a)) j:=⟨_,rfl⟩;have hkc:=th n (bg (L.set j a)) j;rw[<-hcd]at hkc;have jE:J [iv (c:Int)] ((b6,Obj.cells (enc .i64 a).toArray 295 zZ)::(bh,Obj.cells #[.slice (some ⟨la,0,none⟩) L.length (L.length+aF.length),.map (some mb)] 293 zZ)::(la,.cells (ψ (fe .i64 L++aF)) 295 zZ)::Cm):=by
  refine hJ _ _ λgs2=>?_;intro J2 CJ;have hstop:n<=c\/prec (bg L c) a=false->J2 [.bool true] ((b6,Obj.cells (enc .i64 a).toArray 295 zZ)::(bh,Obj.cells #[.slice (some ⟨la,0,none⟩) L.length (L.length+aF.length),.map (some mb)] 293 zZ)::(la,.cells (ψ (fe .i64 L++aF)) 295 zZ)::Cm):=λhst=>CJ _ _ λgs=>by
   refine Br.yes (aB.q ?_);refine ae.fq (sg ho0 (i:=j) zO a) ?_;rintro v C' ⟨rfl,cA⟩;have hd:=hc.done hOV zO;rw[Zo]at hd;have hex:=OI hu (by
    rw[<-hcd];by_cases h0:n<=c
    ·exact .inl h0
    right;rw[Zo,hVL c zO];rcases hst with h|h
    ·omega
    exact h)
   rw[<-hlV]at hex;exact⟨_,_,rfl,.tail,rfl,_,_,cA,hp,hd,hex⟩
  refine DR.self ?_
  (repeat (first|apply Nil.γ|apply aj.mk|refine Ld.mk (by repeat (first|exact List.Mem.head _|apply List.Mem.tail|apply xaa)) rfl ?_|apply aP.mk|apply ah.geq))
  refine Br.dec (λh0=>JE.mk (hstop (.inl zO))) (λh0=>?_);have h0:c<n:=by omega
  (repeat (first|apply Nil.γ|apply aj.mk|refine Ld.mk (by repeat (first|exact List.Mem.head _|apply List.Mem.tail|apply xaa)) rfl ?_|apply aP.mk|apply ah.geq))
  refine ay.nat zO ?_;refine aB.row (l:=fe .i64 L++aF) zM aH (gi zO aF) ?_;refine aB.q ?_;intro F;refine ae.eq (xM _ a _) (⟨.refl _,Un.not ?_⟩);cases Zc:prec (bg L c) a with
  |false=>exact aG.mk (JE.mk (hstop (.inr Zc)))
  |true=>
  refine aG.mk (JE.mk (CJ _ _ λgs=>Br.no ?_))
  (repeat (first|apply Nil.γ|apply aj.mk|refine Ld.mk (by repeat (first|exact List.Mem.head _|apply List.Mem.tail|apply xaa)) rfl ?_|apply aP.mk|apply ah.geq))
  refine ay.nat zO ?_;refine aB.row (l:=fe .i64 L++aF) zM aH (gi zO aF) ?_;refine ae.fq (sg ho0 (i:=j) zO (bg L c)) ?_;rintro v C' ⟨rfl,cA⟩;have hcj:c≠j:=by omega
  have hst:=tE hu (by rw[<-hcd];exact h0) (by rw[<-hcd,Zo,hVL c hcj];exact Zc);rw[<-hcd]at hst;have hcs:=hc.step hOV (i:=j) (q:=c) zO zO hcj;have hpp:=(swap_perm (l:=L.set j a) (i:=j) (q:=c) zO zO hcj).trans hp;have hVV:(L.set j (bg L c)).set c a=((L.set j a).set j (bg (L.set j a) c)).set c (bg (L.set j a) j):=(vQ a zO zO hcj).symm;have CE:bg ((L.set j (bg L c)).set c a)=iA (iA (bg (L.set j a)) j (bg (L.set j a) c)) c (bg (L.set j a) j):=by
   rw[hVV,ir _ zP,ir _ zO]
  refine aD.mk ⟨c,_,_,C',rfl,rfl,cA,by simp[hLn],by omega,?_,?_,?_⟩ ?_
  ·rw[hVV];exact hpp
  ·rw[CE];exact hst
  ·rw[hVV];rw[hVL c hcj]at hcs⊢;exact hcs
  simp only[bH,xbe];omega
 intro J3 hJ3;have hkd:z5 n (bg (L.set j a)) j=if(decide (2*j+1+1<n) &&prec (bg L (2*j+1+1)) (bg L (2*j+1)))=true then 2*j+1+1 else 2*j+1:=by
  unfold z5;rw[hVL _ zO,hVL _ zO]
 rw[hkd]at hcd;have Γ:¬(2*j+1+1<n/\prec (bg L (2*j+1+1)) (bg L (2*j+1))=true)->J3 [.bool false] ((b6,Obj.cells (enc .i64 a).toArray 295 zZ)::(bh,Obj.cells #[.slice (some ⟨la,0,none⟩) L.length (L.length+aF.length),.map (some mb)] 293 zZ)::(la,.cells (ψ (fe .i64 L++aF)) 295 zZ)::Cm):=λhx=>hJ3 _ _ λgs=>by
  rw[xac (by simpa using hx)]at hcd;rw[hcd]at jE;exact Br.no (.mk jE)
 refine DR.self (ah.AG (c:=((2*j+1+1:Nat):Int)) zO zO ?_)
 (repeat (first|apply Nil.γ|apply aj.mk|refine Ld.mk (by repeat (first|exact List.Mem.head _|apply List.Mem.tail|apply xaa)) rfl ?_|apply aP.mk|apply ah.geq))
 refine Br.dec (λh0=>?_) (λh0=>JE.mk (Γ (λh=>h0 zO)));have h0:2*j+1+1<n:=by omega
 (repeat (first|apply Nil.γ|apply aj.mk|refine Ld.mk (by repeat (first|exact List.Mem.head _|apply List.Mem.tail|apply xaa)) rfl ?_|apply aP.mk|apply ah.geq))
 refine ah.AG (c:=((2*j+1+1:Nat):Int)) zO zO (ay.nat zO ?_);refine aB.row (l:=fe .i64 L++aF) zM aH (gi zO aF) ?_
 (repeat (first|apply Nil.γ|apply aj.mk|refine Ld.mk (by repeat (first|exact List.Mem.head _|apply List.Mem.tail|apply xaa)) rfl ?_|apply aP.mk|apply ah.geq))
 refine ay.nat zO ?_;refine aB.row (l:=fe .i64 L++aF) zM aH (gi zO aF) ?_;intro F;refine ae.eq (xM _ _ _) (⟨.refl _,?_⟩);cases Zc:prec (bg L (2*j+1+1)) (bg L (2*j+1))with
 |false=>exact aG.mk (JE.mk (Γ (λh=>by rw[Zc]at h;exact absurd h.2 zD)))
 |true=>
 refine aG.mk (JE.mk (hJ3 _ _ λgs=>Br.yes ?_));refine ah.AG (c:=((2*j+1+1:Nat):Int)) zO zO ?_;rw[xae (by simp[h0,Zc])]at hcd;rw[hcd]at jE;exact .mk jE
def Xx(B:Hp):Fc zQ 164 #[] B (λv H=>∃b C,v=.pointer (some ⟨b,0,none⟩)/\H=C++B/\Yx (.pointer (some ⟨b,0,none⟩)) [] C):=by refine aJ λg=>JJ (Build.mk (cs:=[.slice none 0 0,.map none]) zK ?_);intro b _;exact⟨_,_,rfl,.refl _,b,[_],rfl,rfl,λ_=>none,⟨b,_,_,[],[],rfl,rfl,aU.nil _ _,.inl ⟨rfl,rfl,rfl⟩,λ_=>rfl⟩,⟨λj hj=>by simp at hj,λ_ _=>rfl⟩,λj _ hj=>by simp at hj,by simp[kF]⟩
theorem S6{h:zV}{l:List It}{C:Hp}(hi:Yx h l C)(cB:l.length<4398046511104)(x k:Int):
  Fc zQ 166 #[h,iv x,iv k] C (λv C'=>∃l',Yx h l' C'/\
   ((x∈l.map Prod.fst/\v=iv 11/\l'=l)\/(x∉l.map Prod.fst/\v=iv 0/\l'.Perm ((x,k)::l)))):=by
 have GW:=hi;obtain⟨f,ho,hc,hO,h1⟩:=hi;have ho0:=ho;obtain⟨bh,sv,mv,Cs,Cm,rfl,rfl,hs,hm,ξ⟩:=ho;refine aJ λg=>JH ?_
 (repeat (first|apply Nil.γ|refine aj.mk ?_|refine Ld.mk zM rfl ?_|refine aP.mk ?_|refine ah.eql ?_|refine ah.neq ?_|refine ah.lss ?_|refine ah.leq ?_|refine ah.gtr ?_|refine ah.geq ?_|apply Un.not|refine Ext.mk rfl ?_|refine aG.mk ?_|refine ah.aK ?_|refine ah.lz ?_|refine ah.lq ?_|apply Br.yes|apply Br.no))
 rcases Uy hc (x:=x)with⟨hx,hf⟩|⟨i,hi,hx,hf⟩
 ·refine hm.NW zS hf ?_
  (repeat (first|apply Nil.γ|refine aj.mk ?_|refine Ld.mk zM rfl ?_|refine aP.mk ?_|refine ah.eql ?_|refine ah.neq ?_|refine ah.lss ?_|refine ah.leq ?_|refine ah.gtr ?_|refine ah.geq ?_|apply Un.not|refine Ext.mk rfl ?_|refine aG.mk ?_|refine ah.aK ?_|refine ah.lz ?_|refine ah.lq ?_|apply Br.yes|apply Br.no))
  intro J hJ;obtain⟨u6,nq,Vz,hp4⟩:=RX (a:=(x,k)) hc hO h1 hx;have jE:∀mb ZG,lR .i64 idx (.map (some mb)) f ZG->J [] ((bh,Obj.cells #[sv,.map (some mb)] 293 zZ)::(Cs++ZG)):=by
   intro mb ZG Ω;refine hJ _ λgs=>?_
   (repeat (first|apply Nil.γ|refine aj.mk ?_|refine Ld.mk zM rfl ?_|refine aP.mk ?_|refine ah.eql ?_|refine ah.neq ?_|refine ah.lss ?_|refine ah.leq ?_|refine ah.gtr ?_|refine ah.geq ?_|apply Un.not|refine Ext.mk rfl ?_|refine aG.mk ?_|refine ah.aK ?_|refine ah.lz ?_|refine ah.lq ?_|apply Br.yes|apply Br.no))
   refine Build.mk (cs:=enc .i64 (x,k)) zK (aq.one (k:=2) (e:=295) (z:=.agg #[iv 0,iv 0]) zK zK zK zD rfl λxb=>?_);refine hs.HK (A:=[_,_]) (B:=ZG) (r:=enc .i64 (x,k)) zM rfl (pU _ _) ⟨[iv 0,iv 0],rfl,rfl⟩ (by rw[cW];omega) (by rw[cW];omega) λv' C' μ=>?_
   (repeat (first|apply Nil.γ|refine aj.mk ?_|refine Ld.mk zM rfl ?_|refine aP.mk ?_|refine ah.eql ?_|refine ah.neq ?_|refine ah.lss ?_|refine ah.leq ?_|refine ah.gtr ?_|refine ah.geq ?_|apply Un.not|refine Ext.mk rfl ?_|refine aG.mk ?_|refine ah.aK ?_|refine ah.lz ?_|refine ah.lq ?_|apply Br.yes|apply Br.no))
   refine St.one (by repeat (first|exact df.head _|apply df.tail|apply df.cf)) (by obtain⟨a,c,rfl⟩:=μ.len;rfl) zI rfl ?_
   (repeat (first|apply Nil.γ|refine aj.mk ?_|refine Ld.mk zM rfl ?_|refine aP.mk ?_|refine ah.eql ?_|refine ah.neq ?_|refine ah.lss ?_|refine ah.leq ?_|refine ah.gtr ?_|refine ah.geq ?_|apply Un.not|refine Ext.mk rfl ?_|refine aG.mk ?_|refine ah.aK ?_|refine ah.lz ?_|refine ah.lq ?_|apply Br.yes|apply Br.no))
   refine μ.bL ?_;refine ah.mc (c:=((l.length:Nat):Int)) (by rw[xaf,cW];simp) zO ?_;have tq:aU 295 2 v' (fe .i64 (l++[(x,k)])) C':=by simpa[fe]using μ
   have cA:VS (.pointer (some ⟨bh,0,none⟩)) (l++[(x,k)]) f ((bh,Obj.cells #[v',.map (some mb)] 293 zZ)::(C'++ZG)):=
    ⟨bh,_,_,C',ZG,rfl,rfl,tq,Ω,λh=>by simp at h⟩
   refine ae.pre (.tail) ?_;refine ae.fq (aaC cA (i:=l.length) zI zP u6 nq Vz) ?_;rintro v C'' ⟨rfl,l',f',p,uh,cZ,hc2,hex,hp,CE,ahx⟩;refine⟨_,_,rfl,.refl _,l',⟨f',uh,hc2,ahx hp4,Vz.perm cZ⟩,.inr ⟨hx,rfl,cZ.trans ?_⟩⟩;exact xbk (l₁:=l) (l₂:=[(x,k)])
  (repeat (first|apply Nil.γ|refine aj.mk ?_|refine Ld.mk zM rfl ?_|refine aP.mk ?_|refine ah.eql ?_|refine ah.neq ?_|refine ah.lss ?_|refine ah.leq ?_|refine ah.gtr ?_|refine ah.geq ?_|apply Un.not|refine Ext.mk rfl ?_|refine aG.mk ?_|refine ah.aK ?_|refine ah.lz ?_|refine ah.lq ?_|apply Br.yes|apply Br.no))
  rcases hm with⟨rfl,rfl,hfn⟩|⟨mb,m,ck,rfl,h2⟩
  ·(repeat (first|apply Nil.γ|refine aj.mk ?_|refine Ld.mk zM rfl ?_|refine aP.mk ?_|refine ah.eql ?_|refine ah.neq ?_|refine ah.lss ?_|refine ah.leq ?_|refine ah.gtr ?_|refine ah.geq ?_|apply Un.not|refine Ext.mk rfl ?_|refine aG.mk ?_|refine ah.aK ?_|refine ah.lz ?_|refine ah.lq ?_|apply Br.yes|apply Br.no))
   intro mb _
   (repeat (first|apply Nil.γ|refine aj.mk ?_|refine Ld.mk zM rfl ?_|refine aP.mk ?_|refine ah.eql ?_|refine ah.neq ?_|refine ah.lss ?_|refine ah.leq ?_|refine ah.gtr ?_|refine ah.geq ?_|apply Un.not|refine Ext.mk rfl ?_|refine aG.mk ?_|refine ah.aK ?_|refine ah.lz ?_|refine ah.lq ?_|apply Br.yes|apply Br.no))
   refine St.one (by repeat (first|exact df.head _|apply df.tail|apply df.cf)) rfl zI rfl ?_;refine JE.of ?_ (jE mb _ (by rw[hfn];exact lR.made mb));simp only[xaI];refine .perm ?_;refine(List.Perm.swap _ _ _).trans (.cons _ ?_);exact xbk (l₁:=[_])
  (repeat (first|apply Nil.γ|refine aj.mk ?_|refine Ld.mk zM rfl ?_|refine aP.mk ?_|refine ah.eql ?_|refine ah.neq ?_|refine ah.lss ?_|refine ah.leq ?_|refine ah.gtr ?_|refine ah.geq ?_|apply Un.not|refine Ext.mk rfl ?_|refine aG.mk ?_|refine ah.aK ?_|refine ah.lz ?_|refine ah.lq ?_|apply Br.yes|apply Br.no))
  exact JE.mk (jE mb Cm (.inr ⟨mb,m,ck,rfl,h2⟩))
 refine hm.NV zS hf ?_
 (repeat (first|apply Nil.γ|refine aj.mk ?_|refine Ld.mk zM rfl ?_|refine aP.mk ?_|refine ah.eql ?_|refine ah.neq ?_|refine ah.lss ?_|refine ah.leq ?_|refine ah.gtr ?_|refine ah.geq ?_|apply Un.not|refine Ext.mk rfl ?_|refine aG.mk ?_|refine ah.aK ?_|refine ah.lz ?_|refine ah.lq ?_|apply Br.yes|apply Br.no))
 refine⟨_,_,rfl,.refl _,l,GW,.inl ⟨?_,rfl,rfl⟩⟩;rw[iI];exact⟨i,hi,hx⟩
end
end Go.Proofs
