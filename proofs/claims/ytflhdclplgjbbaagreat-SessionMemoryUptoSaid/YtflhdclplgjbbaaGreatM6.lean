import Derived.Test.YtflhdclplgjbbaaGreatM5
import Derived.Test.YtflhdclplgjbbaaGreatM3
import Derived.Test.YtflhdclplgjbbaaGreatM2
import Derived.Test.YtflhdclplgjbbaaGreatM1
import Derived.Test.YtflhdclplgjbbaaGreatM4
import Derived.Test.YtflhdclplgjbbaaGreatRows
set_option linter.defProp false
set_option linter.unusedVariables false
set_option linter.unusedSimpArgs false
set_option linter.unusedSectionVars false
set_option maxRecDepth 100000
namespace Go.Proofs
open Go Go.Sx Tryz
section
open ax
section
variable {sp nx:Nat} {c:Cf} {F F':FS} {θ tr:zL} {H:Hp} {x:dr}
def jH(sp:Nat)(c:Cf)(nx:Nat)(F:FS)(θ tr:zL)(x:dr)(v:zV)(H:Hp):Prop:=
 ∃(r:Rp) (F':FS) (q5:Nat) (o cC:zL),v=r.v/\jX sp c q5 F' o cC H/\cC.length<=tr.length+66*uu c.n F θ+1/\Cg c nx F θ x r F' q5 o
def jH.rp{v:zV}(h:jH sp c nx F θ tr x v H):abT v:=by obtain⟨r,_,_,_,_,e,_⟩:=h;exact⟨r.e,r.h,r.n,r.t,e⟩
def ji{v:zV}{H':Hp}(hm:fP x.op=none)(ho:x.op≠12/\x.op≠13/\x.op≠22/\x.op≠23)(e:Int)(N:Nat)(hv:v=fi e (-1) N 0)(h':jX sp c nx F θ tr H')(hA:YD c.n F x e N)
 (VN:x.op=17->(fC F x.a=true/\e=0/\N=sz c.n θ (λg=>g=fF F x.a))\/(fC F x.a=false/\e=3/\N=0))(h18:x.op=18->e=0/\N=uu c.n F θ)
 (h21:x.op=21->((x.a<0\/(c.n:Int)<=x.a)/\e=2/\N=0)\/((0<=x.a/\x.a<c.n)/\e=0/\N<c.n/\θ.getD N 0=x.a.toNat))(h0:(x.op=0\/23<x.op)->e=12/\N=0):jH sp c nx F θ tr x v H':=by refine⟨⟨e, -1,N,0⟩,F,nx,θ,tr,hv,h',by omega,?_⟩;unfold Cg;rw[hm];dsimp only;rw[xac ho.1,xac ho.2.1,xac ho.2.2.1,xac ho.2.2.2];exact⟨rfl,rfl,rfl,e,N,rfl,hA,VN,h18,h21,h0⟩
def gV{r:Rp}{q5:Nat}{o:zL}(hm:fP x.op=none)(h:(x.op=12/\o=θ/\if fC F x.a=true then(mL (j6 F) (fF F x.a)/\r=⟨8, -1,0,0⟩/\F'=F/\q5=nx)\/(¬mL (j6 F) (fF F x.a)/\r=⟨0,nx,0,0⟩/\F'=F++[((nx:Int),fF F x.a)]/\q5=nx+1)else r=⟨3, -1,0,0⟩/\F'=F/\q5=nx)\/
  (x.op=13/\o=θ/\q5=nx/\if fC F x.a=true then r=⟨0, -1,0,0⟩/\F'=iJ F x.a else r=⟨3, -1,0,0⟩/\F'=F)\/
  (x.op=22/\F'=F/\q5=nx/\if x.a<0\/(c.n:Int)<=x.a+1 then r=⟨1, -1,0,0⟩/\o=θ else(Es c.n F θ x.a.toNat+2<=c.cap/\r=⟨0, -1,0,0⟩/\o=fV θ x.a.toNat)\/(¬Es c.n F θ x.a.toNat+2<=c.cap/\r=⟨9, -1,0,0⟩/\o=θ))\/
  (x.op=23/\F'=F/\q5=nx/\((yX x/\r=⟨1, -1,0,0⟩/\o=θ)\/(¬yX x/\(x.a=6/\12<c.n)/\r=⟨6, -1,0,0⟩/\o=θ)\/(¬yX x/\¬(x.a=6/\12<c.n)/\∃ls k d,Ve c F x.a.toNat x.b.toNat θ ls k d/\r=⟨0, -1,(uu c.n F (aA θ ls):Nat),0⟩/\o=aA θ ls)))):Cg c nx F θ x r F' q5 o:=by
 unfold Cg;rw[hm];dsimp only;rcases h with⟨e,h⟩|⟨e,h⟩|⟨e,h1,h2,h⟩|⟨e,h1,h2,h⟩
 ·rw[xae e];exact h
 ·rw[xac zO,xae e];exact h
 ·rw[xac zO,xac zO,xae e];exact⟨h1,h2,h⟩
 rw[xac zO,xac zO,xac zO,xae e];exact⟨h1,h2,h⟩
def Ru(h:jX sp c nx F θ tr H)(hc:c.Ok)(Ed:nx+1<9223372036854775808)(hx:x.x<18446744073709551616)(fm:tr.length+66*uu c.n F θ<16000000000000):
  Fc zQ 9 #[γ sp,x.v] H (jH sp c nx F θ tr x):=by
 refine rL (λv H h=>h.rp) (λw f hm=>?_) (λf hm ha fX=>?_) (λhm ha=>?_)
 ·obtain⟨hf,fX,hw⟩:=Ye hm;by_cases hl:mu c.n F w x=0
  ·refine(LC h hc Ed hx hf fX hw hl (RN hc zO)).mono ?_;rintro v H' ⟨t,o,cC,ht,hT,⟨rfl,h',h0⟩|⟨e,he,rfl,h',VL,h9,hb⟩⟩
   ·refine⟨⟨0,nx,0,t⟩,_,_,o,[],rfl,h',by simp,?_⟩;unfold Cg;rw[hm];dsimp only;rw[xae hl];exact⟨t,0,ht,hT,h0,λh=>absurd h zD,.inl ⟨rfl,rfl,rfl,rfl⟩⟩
   refine⟨⟨e, -1,0,t⟩,F,nx,o,cC,rfl,h',by omega,?_⟩;unfold Cg;rw[hm];dsimp only;rw[xae hl];exact⟨t,e,ht,hT,VL,h9,.inr ⟨by omega,rfl,rfl,rfl⟩⟩
  refine Fc.mono (wE h hx hw hl) λv H' ⟨e1,e2⟩=>?_;refine⟨⟨mu c.n F w x, -1,0,0⟩,F,nx,θ,tr,e2,by rw[e1];exact h,by omega,?_⟩;unfold Cg;rw[hm];dsimp only;rw[xac hl];exact⟨rfl,rfl,rfl,rfl⟩
 ·rcases US ha with e|e|e|e|e|e|e|e|e|e|e|e
  ·have hd:Fc zQ 46 #[γ sp,x.v] H (jH sp c nx F θ tr x):=by
    refine(abu h Ed).mono ?_;rintro v H' (⟨e1,rfl,rfl⟩|⟨e1,hF,e8,e9⟩|⟨e1,hF,rfl,h'⟩)
    ·exact⟨⟨3, -1,0,0⟩,F,nx,θ,tr,rfl,h,by omega,gV hm (.inl ⟨e,rfl,by rw[xac (by rw[e1];decide)];exact⟨rfl,rfl,rfl⟩⟩)⟩
    ·exact⟨⟨8, -1,0,0⟩,F,nx,θ,tr,e8,by rw[e9];exact h,by omega,gV hm (.inl ⟨e,rfl,by rw[xae e1];exact .inl ⟨hF,rfl,rfl,rfl⟩⟩)⟩
    exact⟨⟨0,nx,0,0⟩,_,_,θ,[],rfl,h',by simp,gV hm (.inl ⟨e,rfl,by rw[xae e1];exact .inr ⟨hF,rfl,rfl,rfl⟩⟩)⟩
   rw[e]at ha;cases ha;exact hd
  ·have hd:Fc zQ 47 #[γ sp,x.v] H (jH sp c nx F θ tr x):=by
    refine(X3 h).mono ?_;rintro v H' (⟨e1,rfl,rfl⟩|⟨e1,rfl,h'⟩)
    ·exact⟨⟨3, -1,0,0⟩,F,nx,θ,tr,rfl,h,by omega,gV hm (.inr (.inl ⟨e,rfl,rfl,by rw[xac (by rw[e1];decide)];exact⟨rfl,rfl⟩⟩))⟩
    exact⟨⟨0, -1,0,0⟩,_,_,θ,[],rfl,h',by simp,gV hm (.inr (.inl ⟨e,rfl,rfl,by rw[xae e1];exact⟨rfl,rfl⟩⟩))⟩
   rw[e]at ha;cases ha;exact hd
  ·have hd:Fc zQ 48 #[γ sp,x.v] H (jH sp c nx F θ tr x):=by
    refine Fc.mono (Ma h hx) λv H' ⟨e1,e2⟩=>?_;subst e1;cases hb:fC F x.a with
    |true=>
     rw[hb,xae rfl]at e2;refine ji hm zO 0 _ e2 h (λ_=>?_) zO zO zO zO;rw[xae (by rw[hb,e];rfl)];exact⟨λ_=>⟨rfl,rfl⟩,by omega,by omega,by omega,by omega⟩
    |false=>
     rw[hb,xac zD]at e2;refine ji hm zO 3 0 e2 h (λ_=>?_) zO zO zO zO;rw[xac (by rw[hb];simp)];exact⟨rfl,rfl⟩
   rw[e]at ha;cases ha;exact hd
  ·have hd:Fc zQ 49 #[γ sp,x.v] H (jH sp c nx F θ tr x):=by
    refine Fc.mono (Wu h) λv H' ⟨e1,e2⟩=>?_;subst e1;cases hb:fC F x.a&&fC F x.b with
    |true=>
     rw[hb,xae rfl]at e2;refine ji hm zO 0 _ e2 h (λ_=>?_) zO zO zO zO;rw[xae (by rw[e];simpa using hb)];exact⟨by omega,λ_=>⟨rfl,rfl⟩,by omega,by omega,by omega⟩
    |false=>
     rw[hb,xac zD]at e2;refine ji hm zO 3 0 e2 h (λ_=>?_) zO zO zO zO;rw[xac (by rw[e];simp only[ne_eq,xcv,xdt,xdD];rw[hb];decide)];exact⟨rfl,rfl⟩
   rw[e]at ha;cases ha;exact hd
  ·have hd:Fc zQ 50 #[γ sp,x.v] H (jH sp c nx F θ tr x):=by
    refine Fc.mono (Lh h) λv H' ⟨e1,e2⟩=>?_;subst e1;cases hb:fC F x.a with
    |true=>
     rw[hb,xae rfl]at e2;refine ji hm zO 0 _ e2 h (λ_=>?_) zO zO zO zO;rw[xae (by rw[hb,e];rfl)];exact⟨by omega,by omega,λ_=>⟨rfl,rfl⟩,by omega,by omega⟩
    |false=>
     rw[hb,xac zD]at e2;refine ji hm zO 3 0 e2 h (λ_=>?_) zO zO zO zO;rw[xac (by rw[hb];simp)];exact⟨rfl,rfl⟩
   rw[e]at ha;cases ha;exact hd
  ·have hd:Fc zQ 51 #[γ sp,x.v] H (jH sp c nx F θ tr x):=by
    refine Fc.mono (Wn h) λv H' ⟨e1,e2⟩=>?_;subst e1;cases hb:fC F x.a with
    |true=>
     rw[hb,xae rfl]at e2;exact ji hm zO 0 _ e2 h (λ_=>by omega) (λ_=>.inl ⟨hb,rfl,rfl⟩) zO zO zO
    |false=>
     rw[hb,xac zD]at e2;exact ji hm zO 3 0 e2 h (λ_=>by omega) (λ_=>.inr ⟨hb,rfl,rfl⟩) zO zO zO
   rw[e]at ha;cases ha;exact hd
  ·have hd:Fc zQ 52 #[γ sp,x.v] H (jH sp c nx F θ tr x):=by
    refine Fc.mono (W6 h) λv H' ⟨e1,e2⟩=>?_;subst e1;exact ji hm zO 0 _ e2 h (λ_=>by omega) zO (λ_=>⟨rfl,rfl⟩) zO zO
   rw[e]at ha;cases ha;exact hd
  ·have hd:Fc zQ 53 #[γ sp,x.v] H (jH sp c nx F θ tr x):=by
    refine Fc.mono (Su h) λv H' ⟨e1,e2⟩=>?_;subst e1;rcases e2 with⟨hb,e2⟩|⟨hb,hf,e2⟩|⟨hb,hf,V,hV,hL,e2⟩
    ·refine ji hm zO 3 0 e2 h (λ_=>?_) zO zO zO zO;rw[xac (by rw[hb];simp)];exact⟨rfl,rfl⟩
    ·refine ji hm zO 10 0 e2 h (λ_=>?_) zO zO zO zO;rw[xae (by rw[hb,e];rfl)];exact⟨by omega,by omega,by omega,λ_=>.inl ⟨hf,rfl,rfl⟩,by omega⟩
    refine ji hm zO 0 V e2 h (λ_=>?_) zO zO zO zO;rw[xae (by rw[hb,e];rfl)];exact⟨by omega,by omega,by omega,λ_=>.inr ⟨hf,rfl,hL⟩,by omega⟩
   rw[e]at ha;cases ha;exact hd
  ·have hd:Fc zQ 54 #[γ sp,x.v] H (jH sp c nx F θ tr x):=by
    refine Fc.mono (FV h) λv H' ⟨e1,e2⟩=>?_;subst e1;rcases e2 with⟨hb,e2⟩|⟨hb,m,Ω,e2⟩
    ·refine ji hm zO 3 0 e2 h (λ_=>?_) zO zO zO zO;rw[xac (by rw[hb];simp)];exact⟨rfl,rfl⟩
    refine ji hm zO 0 m e2 h (λ_=>?_) zO zO zO zO;rw[xae (by rw[hb,e];rfl)];exact⟨by omega,by omega,by omega,by omega,λ_=>⟨rfl,Ω⟩⟩
   rw[e]at ha;cases ha;exact hd
  ·have hd:Fc zQ 55 #[γ sp,x.v] H (jH sp c nx F θ tr x):=by
    refine Fc.mono (So h) λv H' ⟨e1,e2⟩=>?_;subst e1;rcases e2 with⟨h1,e2⟩|⟨h1,p,h2,h3,e2⟩
    ·exact ji hm zO 2 0 e2 h (λ_=>by omega) zO zO (λ_=>.inl ⟨h1,rfl,rfl⟩) zO
    exact ji hm zO 0 p e2 h (λ_=>by omega) zO zO (λ_=>.inr ⟨h1,rfl,h2,h3⟩) zO
   rw[e]at ha;cases ha;exact hd
  ·have hd:Fc zQ 56 #[γ sp,x.v] H (jH sp c nx F θ tr x):=by
    refine(X7 h zO).mono ?_;rintro v H' (⟨h1,e2,rfl⟩|⟨l,hl,h1,h2,e2,rfl⟩|⟨l,hl,h1,h2,e2,h'⟩)
    ·exact⟨⟨1, -1,0,0⟩,F,nx,θ,tr,e2,h,by omega,gV hm (.inr (.inr (.inl ⟨e,rfl,rfl,by rw[xae h1];exact⟨rfl,rfl⟩⟩)))⟩
    ·refine⟨⟨9, -1,0,0⟩,F,nx,θ,tr,e2,h,by omega,gV hm (.inr (.inr (.inl ⟨e,rfl,rfl,?_⟩)))⟩;rw[xac zO,show x.a.toNat=l by omega];exact .inr ⟨h2,rfl,rfl⟩
    refine⟨⟨0, -1,0,0⟩,F,nx,fV θ l,_,e2,h',by rw[xaf,xcm];omega,gV hm (.inr (.inr (.inl ⟨e,rfl,rfl,?_⟩)))⟩;rw[xac zO,show x.a.toNat=l by omega];exact .inl ⟨h2,rfl,rfl⟩
   rw[e]at ha;cases ha;exact hd
  have hd:Fc zQ 57 #[γ sp,x.v] H (jH sp c nx F θ tr x):=by
   refine(Nx h zO).mono ?_;rintro v H' (⟨h1,e2,rfl⟩|⟨h1,h2,e2,h'⟩|⟨h1,h2,ls,k,d,hR,e2,h',hb⟩)
   ·exact⟨⟨1, -1,0,0⟩,F,nx,θ,tr,e2,h,by omega,gV hm (.inr (.inr (.inr ⟨e,rfl,rfl,.inl ⟨h1,rfl,rfl⟩⟩)))⟩
   ·exact⟨⟨6, -1,0,0⟩,F,nx,θ,tr,e2,h',by omega,gV hm (.inr (.inr (.inr ⟨e,rfl,rfl,.inr (.inl ⟨h1,h2,rfl,rfl⟩)⟩)))⟩
   exact⟨⟨0, -1,uu c.n F (aA θ ls),0⟩,F,nx,aA θ ls,_,e2,h',by rw[xaf];omega,gV hm (.inr (.inr (.inr ⟨e,rfl,rfl,.inr (.inr ⟨h1,h2,ls,k,d,hR,rfl,rfl⟩)⟩)))⟩
  rw[e]at ha;cases ha;exact hd
 have Δ:¬(1<=x.op/\x.op<=11):=λΔ=>by
  have:x.op=1\/x.op=2\/x.op=3\/x.op=4\/x.op=5\/x.op=6\/x.op=7\/x.op=8\/x.op=9\/x.op=10\/x.op=11:=by omega
  rcases this with e|e|e|e|e|e|e|e|e|e|e<;>rw[e]at hm<;>cases hm
 have amG:¬(12<=x.op/\x.op<=23):=λΔ=>by
  have:x.op=12\/x.op=13\/x.op=14\/x.op=15\/x.op=16\/x.op=17\/x.op=18\/x.op=19\/x.op=20\/x.op=21\/x.op=22\/x.op=23:=by omega
  rcases this with e|e|e|e|e|e|e|e|e|e|e|e<;>rw[e]at ha<;>cases ha
 exact ji hm zO 12 0 rfl h (λ_=>by omega) zO zO zO (λ_=>⟨rfl,rfl⟩)
end
section
variable {nx:Nat} {c:Cf} {F:FS} {θ:zL} {x:dr}
def UT{n:Nat}{e e':Int}{N N':Nat}(Δ:x.op=14\/x.op=15\/x.op=16\/x.op=19\/x.op=20)(a:YD n F x e N)(b:YD n F x e' N'):e=e'/\N=N':=by
 have a:=a Δ;have b:=b Δ;split at a<;>rename_i hh
 ·rw[xae hh]at b;obtain⟨a1,a2,a3,a4,a5⟩:=a;obtain⟨b1,b2,b3,b4,b5⟩:=b;rcases Δ with o|o|o|o|o
  ·obtain⟨rfl,rfl⟩:=a1 o;obtain⟨rfl,rfl⟩:=b1 o;exact⟨rfl,rfl⟩
  ·obtain⟨rfl,rfl⟩:=a2 o;obtain⟨rfl,rfl⟩:=b2 o;exact⟨rfl,rfl⟩
  ·obtain⟨rfl,rfl⟩:=a3 o;obtain⟨rfl,rfl⟩:=b3 o;exact⟨rfl,rfl⟩
  ·rcases a4 o with⟨x1,rfl,rfl⟩|⟨x1,rfl,x2⟩
   ·rcases b4 o with⟨y1,rfl,rfl⟩|⟨y1,_⟩
    ·exact⟨rfl,rfl⟩
    exact absurd x1 y1
   rcases b4 o with⟨y1,_⟩|⟨y1,rfl,y2⟩
   ·exact absurd y1 x1
   exact⟨rfl,x2.uniq y2⟩
  obtain⟨rfl,x1⟩:=a5 o;obtain⟨rfl,y1⟩:=b5 o;exact⟨rfl,x1.uniq y1⟩
 rw[xac hh]at b;obtain⟨rfl,rfl⟩:=a;obtain⟨rfl,rfl⟩:=b;exact⟨rfl,rfl⟩
def T5{l:zL}(hn:l.Nodup){i j:Nat}(hi:i<l.length)(hj:j<l.length)(h:l.getD i 0=l.getD j 0):i=j:=by
 have e:∀k,(hk:k<l.length)->l.getD k 0=l[k]:=λk hk=>by rw[xas,xab hk];rfl
 rw[e i hi,e j hj]at h;exact(xeD hn).1 h
def Cg.uniq(hp:θ.Perm (List.range c.n))(h0:Fits (aE c.n θ (HF (j6 F))) c.cap)
 {r r':Rp}{F1 F2:FS}{n1 n2:Nat}{o o':zL}(a:Cg c nx F θ x r F1 n1 o)(b:Cg c nx F θ x r' F2 n2 o'):r=r'/\F1=F2/\n1=n2/\o=o':=by
 unfold Cg at a b;cases hm:fP x.op with
 |some p=>
  obtain⟨w,f⟩:=p;rw[hm]at a b;dsimp only at a b;by_cases hl:mu c.n F w x=0
  ·rw[xae hl]at a b;obtain⟨t,e,a1,a2,a3,a4,a5⟩:=a;obtain⟨t',e',b1,b2,b3,b4,b5⟩:=b;obtain⟨rfl,rfl,rfl⟩:=FP (T:=nR c.n c.cap (j6 F) (fF F) x) (R:=RunT c F) (λt p h e e'=>WK (h.fits h0)) (λt p _ ls LD ⟨⟨k,d,h⟩,_⟩ ⟨⟨k',d',h'⟩,_⟩=>(Fe.uniq h h').1) a2 b2 a3 b3 a4 b4 a1 b1;rcases a5 with⟨h,rfl,rfl,rfl⟩|⟨h,rfl,rfl,rfl⟩<;>rcases b5 with⟨h',rfl,rfl,rfl⟩|⟨h',rfl,rfl,rfl⟩
   ·exact⟨rfl,rfl,rfl,rfl⟩
   ·exact absurd h h'
   ·exact absurd h' h
   exact⟨rfl,rfl,rfl,rfl⟩
  rw[xac hl]at a b;obtain⟨rfl,rfl,rfl,rfl⟩:=a;obtain⟨rfl,rfl,rfl,rfl⟩:=b;exact⟨rfl,rfl,rfl,rfl⟩
 |none=>
  rw[hm]at a b;dsimp only at a b;by_cases Ov:x.op=12
  ·rw[xae Ov]at a b;obtain⟨rfl,a⟩:=a;obtain⟨rfl,b⟩:=b;split at a<;>rename_i hh
   ·rw[xae hh]at b;rcases a with⟨h,rfl,rfl,rfl⟩|⟨h,rfl,rfl,rfl⟩<;>rcases b with⟨h',rfl,rfl,rfl⟩|⟨h',rfl,rfl,rfl⟩
    ·exact⟨rfl,rfl,rfl,rfl⟩
    ·exact absurd h h'
    ·exact absurd h' h
    exact⟨rfl,rfl,rfl,rfl⟩
   rw[xac hh]at b;obtain⟨rfl,rfl,rfl⟩:=a;obtain⟨rfl,rfl,rfl⟩:=b;exact⟨rfl,rfl,rfl,rfl⟩
  rw[xac Ov]at a b;by_cases h13:x.op=13
  ·rw[xae h13]at a b;obtain⟨rfl,rfl,a⟩:=a;obtain⟨rfl,rfl,b⟩:=b;split at a<;>rename_i hh
   ·rw[xae hh]at b;obtain⟨rfl,rfl⟩:=a;obtain⟨rfl,rfl⟩:=b;exact⟨rfl,rfl,rfl,rfl⟩
   rw[xac hh]at b;obtain⟨rfl,rfl⟩:=a;obtain⟨rfl,rfl⟩:=b;exact⟨rfl,rfl,rfl,rfl⟩
  rw[xac h13]at a b;obtain⟨rfl,rfl,a⟩:=a;obtain⟨rfl,rfl,b⟩:=b;by_cases h22:x.op=22
  ·rw[xae h22]at a b;split at a<;>rename_i hh
   ·rw[xae hh]at b;obtain⟨rfl,rfl⟩:=a;obtain⟨rfl,rfl⟩:=b;exact⟨rfl,rfl,rfl,rfl⟩
   rw[xac hh]at b;rcases a with⟨h,rfl,rfl⟩|⟨h,rfl,rfl⟩<;>rcases b with⟨h',rfl,rfl⟩|⟨h',rfl,rfl⟩
   ·exact⟨rfl,rfl,rfl,rfl⟩
   ·exact absurd h h'
   ·exact absurd h' h
   exact⟨rfl,rfl,rfl,rfl⟩
  rw[xac h22]at a b;by_cases h23:x.op=23
  ·rw[xae h23]at a b;rcases a with⟨h,rfl,rfl⟩|⟨h,h2,rfl,rfl⟩|⟨h,h2,ls,k,d,hR,rfl,rfl⟩<;>rcases b with⟨h',rfl,rfl⟩|⟨h',lZ,rfl,rfl⟩|⟨h',lZ,LD,k',d',TT,rfl,rfl⟩
   ·exact⟨rfl,rfl,rfl,rfl⟩
   ·exact absurd h h'
   ·exact absurd h h'
   ·exact absurd h' h
   ·exact⟨rfl,rfl,rfl,rfl⟩
   ·exact absurd h2 lZ
   ·exact absurd h' h
   ·exact absurd lZ h2
   obtain rfl:=(Fe.uniq hR TT).1;exact⟨rfl,rfl,rfl,rfl⟩
  rw[xac h23]at a b;obtain⟨rfl,e,N,rfl,a0,a1,a2,a3,a4⟩:=a;obtain⟨rfl,e',N',rfl,b0,b1,b2,b3,b4⟩:=b;have key:e=e'/\N=N':=by
   have no:¬(1<=x.op/\x.op<=11):=λXW=>by
    have:x.op=1\/x.op=2\/x.op=3\/x.op=4\/x.op=5\/x.op=6\/x.op=7\/x.op=8\/x.op=9\/x.op=10\/x.op=11:=by omega
    rcases this with e|e|e|e|e|e|e|e|e|e|e<;>rw[e]at hm<;>cases hm
   by_cases h14:x.op=14\/x.op=15\/x.op=16\/x.op=19\/x.op=20
   ·exact UT h14 a0 b0
   by_cases VN:x.op=17
   ·rcases a1 VN with⟨h,rfl,rfl⟩|⟨h,rfl,rfl⟩<;>rcases b1 VN with⟨h',rfl,rfl⟩|⟨h',rfl,rfl⟩
    ·exact⟨rfl,rfl⟩
    ·rw[h]at h';cases h'
    ·rw[h]at h';cases h'
    exact⟨rfl,rfl⟩
   by_cases h18:x.op=18
   ·obtain⟨rfl,rfl⟩:=a2 h18;obtain⟨rfl,rfl⟩:=b2 h18;exact⟨rfl,rfl⟩
   by_cases h21:x.op=21
   ·rcases a3 h21 with⟨h,rfl,rfl⟩|⟨h,rfl,h2,h3⟩<;>rcases b3 h21 with⟨h',rfl,rfl⟩|⟨h',rfl,lZ,vg⟩
    ·exact⟨rfl,rfl⟩
    ·omega
    ·omega
    have hl:=hp.length_eq;rw[xaF]at hl;exact⟨rfl,T5 (hp.nodup_iff.2 xbh) zO zO (by rw[h3,vg])⟩
   obtain⟨rfl,rfl⟩:=a4 zO;obtain⟨rfl,rfl⟩:=b4 zO;exact⟨rfl,rfl⟩
  obtain⟨rfl,rfl⟩:=key;exact⟨rfl,rfl,rfl,rfl⟩
end
inductive HR(c:Cf):Nat->FS->zL->List dr->List Rp->Nat->FS->zL->Prop
 |nil {nx:Nat} {F:FS} {o:zL}:HR c nx F o [] [] nx F o
 |cons {nx n1 n2:Nat} {F F1 F2:FS} {o o1 o2:zL} {x:dr} {r:Rp} {xs:List dr} {rs:List Rp}:Fits (aE c.n o (HF (j6 F))) c.cap->o.Perm (List.range c.n)->Cg c nx F o x r F1 n1 o1->HR c n1 F1 o1 xs rs n2 F2 o2->HR c nx F o (x::xs) (r::rs) n2 F2 o2
section
variable {c:Cf}
def HR.uniq{nx:Nat}{F:FS}{o:zL}{xs:List dr}{rs rs':List Rp}{n2 n2':Nat}{F2 F2':FS}{o2 o2':zL}(a:HR c nx F o xs rs n2 F2 o2)(b:HR c nx F o xs rs' n2' F2' o2'):rs=rs'/\n2=n2'/\F2=F2'/\o2=o2':=by
 induction a generalizing rs' with
 |nil=>cases b;exact⟨rfl,rfl,rfl,rfl⟩
 |cons h0 hp hs _ ih=>
  cases b with
  |cons _ _ μ hb=>
   obtain⟨rfl,rfl,rfl,rfl⟩:=hs.uniq hp h0 μ;obtain⟨rfl,h⟩:=ih hb;exact⟨rfl,h⟩
def HR.snoc{nx n1 n2:Nat}{F F1 F2:FS}{o o1 o2:zL}{x:dr}{r:Rp}{xs:List dr}{rs:List Rp}(a:HR c nx F o xs rs n1 F1 o1)(h0:Fits (aE c.n o1 (HF (j6 F1))) c.cap)(hp:o1.Perm (List.range c.n))(h:Cg c n1 F1 o1 x r F2 n2 o2):HR c nx F o (xs++[x]) (rs++[r]) n2 F2 o2:=by
 induction a with
 |nil=>exact .cons h0 hp h .nil
 |cons a b d _ ih=>exact .cons a b d (ih h0 hp h)
end
end
section
def nI(x:Nat):zV:=iv (x:Int)
def RB{v:zV}{C:Hp}{l:List Int}(h:aL 3 .i64 v l C)(cB:l.length<1152921504606846976):Fc zQ 59 #[v] C (λr C'=>r=.tuple #[]/\aL 3 .i64 v (FZ l) C'):=by refine aJ λg=>PI (h.bL ?_);refine bu.q (ae.rq (B6 zO C) ?_);rintro w ⟨r,_,rfl⟩;have hd:Da 3 .i64 v l.toArray C:=h;apply ae.fn .here (Lr acR l.length hd (a:=0) (b:=l.length) zO zO zI (by simpa using cB) (.inl rfl) _);rintro w C' ⟨rfl,e,⟨h1,h2⟩,dF⟩;have he:=RA (d:=l.toArray) (by simpa using h1) (by simpa using h2);exact aQ.here ⟨rfl,by rw[show FZ l=e.toList from he.symm];exact dF⟩
open ax
section
noncomputable abbrev AFI:Func:=Tryz.f95
variable {f:FuncId} {cap:Array zV} {B:Hp} {N:Nat} {S:zL->Prop}
noncomputable def cO:Code:=match AFI.body with|some (.seq _ (.seq (.seq _ (.block _ (.rangeFunc _ _ c _))) _))=>c|_=>.skip
noncomputable def dV:Code:=match AFI.body with|some (.seq _ (.seq (.seq _ (.block _ (.rangeFunc _ _ _ c))) _))=>c|_=>.skip
noncomputable def Mp(i:Nat):Oper:=match dV with| .block _ (.region _ ζ _)=>(match ζ[i]? with|some o=>o|none=>default)|_=>default
def iP(fn:FuncId)(tmps:Array zV)(assign body:Code)(D:Nat):Loop:={state:=.ready,pending:=none,fn,tmps,params:=#[7],assign,body,defers:=D}
def ab2(l D bs:Nat)(fn:FuncId)(tmps:Array zV)(assign body:Code)(ss:zL)(A:Hp):Prop:=
 ∃v C',A=(l,.loop (iP fn tmps assign body D))::(D,.deferred (some []))::(bs,.cells #[v] 43 zZ)::C'/\aL 3 .i64 v (iw ss) C'
def O0{g:Gh}{l D bs:Nat}{fn:FuncId}{tmps:Array zV}{fr:Fr}(hsz:tmps.size=13)(g9:∀s,tmps.getD s undef=fr s)(f2:fr 2=γ bs){ss:zL}{x:Nat}{A X:Hp}{W:World}
 (hG:ab2 l D bs fn tmps cO dV ss A)(hl:ss.length<1099511627776)(hW:Own g (A++X) W):
  YieldAt Fence.wide 0 zQ l #[nI x] W (λe W'=>e=.returned (.bool true)/\∃A',ab2 l D bs fn tmps cO dV (ss++[x]) A'/\Own g (A'++X) W'):=by
 obtain⟨v,C',rfl,ho⟩:=hG;have hF:∀f,(Fence.wide.inRound l).fn f:=λ_=>trivial;have hL:W.heap[l]? =some (.loop (iP fn tmps cO dV D)):=hW.has _ (.head _);refine⟨fn,_,cO,dV,run_yield hL rfl,roundIn_of_wpIn trivial ?_⟩;have ha:yo [] 13 {tmps:=tmps.setIfInBounds 7 (nI x),defers:=[]} (bt fr (some 7) (nI x)):=(yo.put (a:={tmps:=tmps,defers:=[]}) (d:=some 7) ⟨rfl,hsz,g9⟩ rfl (nI x));have ha:yo [] 13 {tmps:=(#[7].zip #[nI x]).foldl (λtmps (t,a)=>tmps.setIfInBounds t a) tmps,defers:=[]} (bt fr (some 7) (nI x)):=by simpa using ha
 change Code.wpIn _ 0 zQ (.region _ #[_] false) _ _ _;apply wpIn_region_lit;refine dH (g:=g) (n:=13) (v0:=nI x) hF rfl zC rfl ha hW rfl λa1 uS=>?_;apply wpListIn_nil;have hbr:=run_beginRound (P:=zQ) hL rfl;refine⟨_,hbr,?_⟩;have Ei:=hW.putObj (o':=.loop {iP fn tmps cO dV D with state:=.busy}) (.head _);change Code.wpIn _ 0 zQ (.block _ (.region _ #[_,_,_,_,_] false)) _ _ _;apply wpIn_block;apply wpIn_region_lit;obtain⟨H1,hH1⟩:∃H1,H1=(l,Obj.loop {iP fn tmps cO dV D with state:=.busy})::(((D,.deferred (some []))::(bs,.cells #[v] 43 zZ)::C')++X):=⟨_,rfl⟩
 replace Ei:Own g H1 (W.putObj l (.loop {iP fn tmps cO dV D with state:=.busy})):=by rw[hH1];exact Ei
 have e0:Bp zQ g (Mp 0) (ev (bt (bt fr (some 7) (nI x)) (some 5) (nI x))) H1 (λz=>z=v)=Ld H1 (fr 2) (λz=>z=v):=by kernel_rfl
 refine dH (g:=g) (n:=13) (v0:=v) hF rfl zC rfl uS Ei (e0.mpr (by rw[f2];exact Ld.mk (by rw[hH1];exact .tail _ (.tail _ (.head _))) rfl rfl)) λa2 q9=>?_;refine dH (g:=g) (n:=13) (v0:=nI x) hF rfl zC rfl q9 Ei rfl λa3 ve=>?_;have eb:∀K:zV->Hp->Prop,aq zQ 43 1 [(0,iv (x:Int))] H1 K=NK zQ g (Mp 2) (ev (bt (bt (bt (bt fr (some 7) (nI x)) (some 5) (nI x)) (some 8) v) (some 9) (nI x))) H1 K (λ_ _=>False):=λK=>by kernel_rfl
 refine y8 (g:=g) (n:=13) (s:=_) (K:=λv H=>∃b,v=.slice (some ⟨b,0,none⟩) 1 1/\H=(b,.cells (az .i64 [(x:Int)]) 3 zZ)::H1) hF rfl zC rfl ve Ei rfl
  ((eb _).mp (aq.int zK zK zK λb=>⟨b,rfl,rfl⟩)) λv1 H2 w2 a4 hv TP G8=>?_
 obtain⟨b,rfl,rfl⟩:=hv;have hn:(iw ss).length=ss.length:=av ss;obtain⟨H2,hH2⟩:∃H2,H2=(b,Obj.cells (az .i64 [(x:Int)]) 3 zZ)::H1:=⟨_,rfl⟩;rw[<-hH2]at TP;refine y8 (g:=g) (n:=13) (s:=_) (K:=λv' H=>∃C2,aL 3 .i64 v' (iw (ss++[x])) C2/\H=(b,Obj.cells (az .i64 [(x:Int)]) 3 zZ)::(l,Obj.loop {iP fn tmps cO dV D with state:=.busy})::(D,.deferred (some []))::(bs,.cells #[v] 43 zZ)::(C2++X))
  hF rfl zC rfl G8 TP (by simp only[execOp,resolve,invoke,builtin];simp[bind,Sem.bind];rfl) ?_ λv2 H3 w3 a5 hv BP G7=>?_
 ·have e1:∀K:zV->Hp->Prop,App zQ 3 1 8 (iv 0) H2 v (.slice (some ⟨b,0,none⟩) 1 1) K=
   NK zQ g (Mp 3) (ev (bt (bt (bt (bt (bt fr (some 7) (nI x)) (some 5) (nI x)) (some 8) v) (some 9) (nI x)) (some 10) (.slice (some ⟨b,0,none⟩) 1 1))) H2 K (λ_ _=>False):=λK=>by kernel_rfl
  refine(e1 _).mp ?_;rw[hH2,hH1];refine ho.qd (.cons (.cons (.cons (.cons .left)))) (by exact .head _) zO zO λv' C2 uh=>⟨C2,?_,rfl⟩;rw[cH];exact uh
 obtain⟨C2,uh,rfl⟩:=hv;have es:∀(H:Hp) (K:zV->Hp->Prop),St 1 H (fr 2) v2 (λH'=>K undef H')=NK zQ g (Mp 4) (ev (bt (bt (bt (bt (bt (bt fr (some 7) (nI x)) (some 5) (nI x)) (some 8) v) (some 9) (nI x)) (some 10) (.slice (some ⟨b,0,none⟩) 1 1)) (some 11) v2)) H K (λ_ _=>False):=λH K=>by kernel_rfl
 refine YK (g:=g) (n:=13) (s:=_) (K:=λ_ H=>H=(b,Obj.cells (az .i64 [(x:Int)]) 3 zZ)::(l,Obj.loop {iP fn tmps cO dV D with state:=.busy})::(D,.deferred (some []))::(bs,.cells #[v2] 43 zZ)::(C2++X))
  hF rfl zC rfl G7 BP rfl ((es _ _).mp ?_) λH4 w4 a6 hv XL G6=>?_
 ·rw[f2];exact St.one (.tail (.tail (.tail (.head _)))) uh.one zI rfl rfl
 subst hv;apply wpListIn_nil;simp only[Exit.inBlock,roundPost];refine⟨_,_,run_endRound none (XL.has _ (.tail _ (.head _))),rfl,_,⟨v2,C2,rfl,uh⟩,?_⟩;exact(XL.putObj (.tail (.head _))).tail
def HJ(hg:uF zQ f cap B nI N S)(hc:aW zQ f=true)(hN:N<=1099511627776):
  Fc zQ 95 #[.slice none 0 0,.func (.func f) #[] cap] B (λv H=>∃ss C',S ss/\H=C'++B/\aL 3 .i64 v (iw ss) C'):=by
 intro g w hw;rw[<-callsIn_wide (n:=0)];have hF:∀f,Fence.wide.fn f:=λ_=>trivial;apply callsIn_of_wp_marks func95 rfl trivial;have ha:=nF (m:=13) (args:=[.slice none 0 0,.func (.func f) #[] cap]) zI;apply wpIn_seq;apply wpIn_region_lit;refine y8 (g:=g) (n:=13) (s:=_) (K:=λv H=>∃bs,v=γ bs/\H=(bs,.cells #[.slice none 0 0] 43 zZ)::B) hF rfl zC rfl ha hw rfl (λbs _=>⟨bs,rfl,rfl⟩) λv H1 w1 a1 hv jQ uS=>?_;obtain⟨bs,rfl,rfl⟩:=hv;refine dH (g:=g) (n:=13) (v0:=.slice none 0 0) hF rfl zC rfl uS jQ rfl λa2 q9=>?_;apply wpListIn_nil;apply wpIn_seq;apply wpIn_seq;apply wpIn_region_lit;refine dH (g:=g) (n:=13) (v0:=.func (.func f) #[] cap) hF rfl zC rfl q9 jQ rfl λa3 ve=>?_;apply wpListIn_nil;apply wpIn_block;refine wpIn_rangeFunc λfn hfn=>?_;have yG:=(jQ.alloc (.deferred (some []))).alloc (.loop (iP fn a3.tmps cO dV w1.heap.size));have f6:a3.tmps[6]?.getD undef=.func (.func f) #[] cap:=by have:=ve.get 6;rw[xau]at this;exact this
 obtain⟨W1,Ei⟩:∃W1,W1=(w1.alloc (.deferred (some []))).alloc (.loop (iP fn a3.tmps cO dV w1.heap.size)):=⟨_,rfl⟩;rw[<-Ei]at yG;refine⟨w1.heap.size+1,[{target:=.collected w1.heap.size,args:=#[]}],W1,{target:=.fn (.func f) cap,args:=#[.func (.yield (w1.heap.size+1)) #[] #[]]},W1,f,#[.func (.yield (w1.heap.size+1)) #[] #[]]++cap,W1,?_,?_,λ_ _=>trivial,?_,λh=>(by cases h),?_⟩
 ·rw[Ei];exact run_enterLoop_outer fn a3.tmps #[7] _ _
 ·simp[resolve,Deferred.ofValue,f6,go_sem]
 ·simp[invoke,go_sem];exact eL hc _ _
 have hsz:(w1.alloc (.deferred (some []))).heap.size=w1.heap.size+1:=by simp
 rw[hsz]at yG;apply CallsIn.mono (hg g (w1.heap.size+1) (ab2 (w1.heap.size+1) w1.heap.size bs fn a3.tmps cO dV) (λss x A X W hG hl hW=>O0 ve.size ve.get rfl hG zO hW) [_,_,_] W1 ⟨_,[],rfl,aL.nil⟩ yG);rintro e W2 ⟨⟨v0,rfl⟩,ss,A',hS,⟨v,C',rfl,ho⟩,TP⟩;refine⟨none,_,run_endLoop (TP.has _ (.head _)) (by simp[iP]),?_⟩;have BP:=TP.putObj (o':=.loop {iP fn a3.tmps cO dV w1.heap.size with state:=.exhausted}) (.head _);simp only[Exit.then,Exit.inBlock];have G8:yo [{target:=.collected w1.heap.size,args:=#[]}] 13 {a3 with defers:=[{target:=.collected w1.heap.size,args:=#[]}]++a3.defers} (bt (bt (bt (g8 [.slice none 0 0,.func (.func f) #[] cap] 0) (some 2) (γ bs)) (some 4) (.slice none 0 0)) (some 6) (.func (.func f) #[] cap)):=
  ⟨by rw[ve.defers];rfl,ve.size,ve.get⟩
 apply wpIn_seq;apply wpIn_region_lit;obtain⟨H3,hH3⟩:∃H3,H3=(w1.heap.size+1,Obj.loop {iP fn a3.tmps cO dV w1.heap.size with state:=.exhausted})::(((w1.heap.size,.deferred (some []))::(bs,.cells #[v] 43 zZ)::C')++B):=⟨_,rfl⟩
 replace BP:Own g H3 (W2.putObj (w1.heap.size+1) (.loop {iP fn a3.tmps cO dV w1.heap.size with state:=.exhausted})):=by rw[hH3];exact BP
 have e0:Bp zQ g (eZ AFI 4 0) (ev (bt (bt (bt (g8 [.slice none 0 0,.func (.func f) #[] cap] 0) (some 2) (γ bs)) (some 4) (.slice none 0 0)) (some 6) (.func (.func f) #[] cap))) H3 (λz=>z=v)=Ld H3 (γ bs) (λz=>z=v):=by kernel_rfl
 refine dH (g:=g) (n:=13) (v0:=v) hF rfl zC rfl G8 BP (e0.mpr (Ld.mk (by rw[hH3];exact .tail _ (.tail _ (.head _))) rfl rfl)) λa5 G7=>?_;refine dH (g:=g) (n:=13) (v0:=v) hF rfl zC rfl G7 BP rfl λa6 G6=>?_;apply wpListIn_nil;apply wpIn_ret;simp only[Exit.then,bodyPostM];rw[G6.defers];rw[hH3]at BP;refine⟨by simp,.inl ⟨w1.heap.size,_,rfl,run_takeDeferred (BP.has _ (.tail _ (.head _))),?_⟩⟩;have XL:=BP.putObj (o':=.deferred none) (.tail (.head _));refine⟨_,results_tmp rfl _ _ _,C'++B,XL.tail.tail.tail,v,C'++B,?_,.refl _,ss,C',hS,rfl,ho⟩;have:=G6.get 4;rw[this];rfl
end
section
variable {f:FuncId} {cap:Array zV} {B:Hp} {N:Nat} {S:zL->Prop}
theorem EJ(hg:uF zQ f cap B nI N S)(hc:aW zQ f=true)(hN:N<=1099511627776):
  Fc zQ 58 #[.func (.func f) #[] cap] B (λv H=>∃ss C',S ss/\H=C'++B/\aL 3 .i64 v (iw ss) C'):=by
 refine aJ λg=>PJ ?_;refine ae.fq (HJ hg hc hN) ?_;rintro v H h;exact aQ.here h
theorem F0(hg:uF zQ f cap B nI N S)(hS:∀ss,S ss->ss.length<=N)(hc:aW zQ f=true)(hN:N<=1099511627776):
  Fc zQ 25 #[.func (.func f) #[] cap] B (λv H=>∃ss C',S ss/\H=C'++B/\aL 3 .i64 v (iw (Dp ss)) C'):=by
 refine aJ λg=>Qe ?_;refine ae.fq (EJ hg hc hN) ?_;rintro v H ⟨ss,C',hs,rfl,ho⟩;have Ξ:=hS ss hs;refine ae.fn (.left (A:=B)) (RB ho (by rw[av];omega)) ?_;rintro w C2 ⟨rfl,cA⟩;rw[K8]at cA;exact aQ.here ⟨ss,C2,hs,rfl,cA⟩
end
section
def FN{κ β:Type}{es:Array MapEntry}{m:List (κ×β)}{seen:Array Nat}{x:κ×β}(h:x∈bY es m seen):x∈m:=by obtain⟨p,hp,rfl⟩:=xal.1 h;exact(xdJ (xb0.1 hp).1).2
def ag5{v:zV}{a:Int}(h:v=kI .i64 a)(ha:0<=a):v=nI a.toNat:=by rw[h];unfold nI kI;rw[Int.toNat_of_nonneg ha]
variable {es:Array MapEntry} {ck b:Nat} {m:List (Int×Nat)}
theorem FI(B:Hp):Fc zQ 26 #[.map (some b)] B
  (λv H=>∃bm,v=.func (.func 60) #[] #[γ bm]/\H=(bm,.cells #[.map (some b)] 56 zZ)::B):=by
 refine aJ λg=>Qd ?_;intro b1 _;exact aQ.here ⟨b1,rfl,rfl⟩
noncomputable abbrev VFI:Func:=Tryz.f60
def ajm(g:Gh)(bi b:Nat)(l:Nat)(es:Array MapEntry)(ck:Nat)(m:List (Int×Nat))(G:zL->Hp->Prop)(B:Hp)(k:Nat)(a:Act)(w:World):Prop:=
 ∃(fr:Fr) (ss:zL) (A:Hp) (seen:Array Nat),yo [] 14 a fr/\fr 0=.func (.yield l) #[] #[]/\fr 5=γ bi/\G ss A/\Own g (A++((bi,.mapIter (some b) ck seen ck)::B)) w/\
  (ss++(bY es m seen).map (λp=>p.1.toNat)).Perm (m.map (λp=>p.1.toNat))/\k=(bY es m seen).length
def Dd{bm:Nat}{fz:Nat×Nat}(h:aI (kI .i64) (λv (r:Nat)=>v=δ r) es ck m)(hpos:∀p∈m,0<=p.1):uF zQ 60 #[γ bm] [(bm,.cells #[.map (some b)] 56 fz),(b,.map es ck)] nI m.length
  (λss=>ss.Perm (m.map (λp=>p.1.toNat))):=by
 intro g l G hY A W h0 hW;have hF:∀f,Fence.wide.fn f:=λ_=>trivial;apply callsIn_of_wp func60 rfl trivial;have ha:=nF (m:=14) (args:=[.func (.yield l) #[] #[],γ bm]) zI;apply wpIn_seq;apply wpIn_region_lit;obtain⟨B,hB⟩:∃B,B=[(bm,Obj.cells #[.map (some b)] 56 fz),(b,.map es ck)]:=⟨_,rfl⟩;rw[<-hB]at hW;have uO:(bm,Obj.cells #[.map (some b)] 56 fz)∈A++B:=by rw[hB];exact xaa _ (.head _)
 have mC:(b,Obj.map es ck)∈A++B:=by rw[hB];exact xaa _ (.tail _ (.head _))
 have hmB:∀{X:Hp},(b,Obj.map es ck)∈X++B:=by intro X;rw[hB];exact xaa _ (.tail _ (.head _))
 rw[<-hB];have e0:Bp zQ g (eZ VFI 0 0) (ev (g8 [.func (.yield l) #[] #[],γ bm] 0)) (A++B) (λx=>x=.map (some b))=Ld (A++B) (γ bm) (λx=>x=.map (some b)):=by kernel_rfl
 refine dH (g:=g) (n:=14) (v0:=.map (some b)) hF rfl zC rfl ha hW (e0.mpr (Ld.mk uO rfl rfl)) λa1 uS=>?_;refine vN (g:=g) (n:=14) (s:=Instr.range 56 (.map (some b))) (K:=λv H=>∃bi,v=γ bi/\H=(bi,.mapIter (some b) ck #[] ck)::(A++B)) hF rfl zC rfl uS rfl
  (Rng.run (.inr ⟨b,es,ck,rfl,mC,λbi _=>⟨bi,rfl,rfl⟩⟩) hW (t:=56) (kt:=3) (e:=78) zK) λv H' w1 a2 hv jQ q9=>?_
 obtain⟨bi,rfl,rfl⟩:=hv;apply wpListIn_nil;have qm:Own g (A++((bi,.mapIter (some b) ck #[] ck)::B)) w1:=jQ.perm (xaO).symm;clear jQ uS ha hW uO mC;apply wpIn_block;refine vA (ajm g bi b l es ck m G B) (k:=(bY es m #[]).length) ⟨_,[],A,#[],q9,rfl,rfl,h0,qm,by rw[mU h];exact .refl _,rfl⟩ ?_;clear q9 qm h0 e0 A;rintro k a w ⟨fr,ss,A,seen,ha,f0,f6,hG,hw,cZ,hk⟩;apply wpIn_seq;apply wpIn_region_lit;have e6:ev fr (.tmp 5)=γ bi:=f6;refine vN (g:=g) (n:=14) (s:=Instr.next (γ bi) false 0)
  (K:=λv H=>(bY es m seen=[]/\v=.tuple #[.bool false]/\H=A++((bi,.mapIter (some b) ck seen ck)::B))\/
   ∃(e:MapEntry) (x:Int×Nat) (Ψ:Array Nat),v=.tuple #[.bool true,e.key,e.val]/\e.key=nI x.1.toNat/\(bY es m seen).Perm (x::bY es m Ψ)/\Ψ.back?=some e.born/\es.find? (·.born==e.born)=some e/\
    H=A++((bi,.mapIter (some b) ck Ψ ck)::B)) hF rfl zC rfl ha ?_
  (ZD.run (h.next (bi:=bi) (bm:=b) (seen:=seen) (H:=A++((bi,.mapIter (some b) ck seen ck)::B)) (xaa _ (.tail _ (by rw[hB];exact .tail _ (.head _)))) (xaa _ (.head _))
   (λe x Ψ he hk hv hp hb hf=>⟨_,(df.head _).cf A,.inr ⟨e,x,Ψ,rfl,ag5 hk (hpos x (FN (hp.mem_iff.2 (.head _)))),hp,hb,hf,rfl⟩⟩) (λhu=>.inl ⟨hu,rfl,rfl⟩)) hw) λv H' w1 a1 hv jQ uS=>?_
 ·rw[e6.symm];rfl
 rcases hv with⟨hu,rfl,rfl⟩|⟨e,x,Ψ,rfl,GY,hp,hbk,hfi,rfl⟩
 ·refine dH (g:=g) (n:=14) (v0:=.bool false) hF rfl zC rfl uS jQ ⟨_,_,rfl,rfl,rfl⟩ λa2 q9=>?_;apply wpListIn_nil;apply wpIn_seq;refine wpIn_cond_false (by rw[q9.eval];rfl) ?_;apply wpIn_exit;simp only[Exit.then,Exit.inBlock,xa5,bodyPost];refine⟨q9.defers,_,results_none rfl _ _ _,⟨_,rfl⟩,ss,A,?_,hG,(jQ.perm xaO).tail⟩;rw[hu,xcd,xaI]at cZ;exact cZ
 refine dH (g:=g) (n:=14) (v0:=.bool true) hF rfl zC rfl uS jQ ⟨_,_,rfl,rfl,rfl⟩ λa2 q9=>?_;apply wpListIn_nil;apply wpIn_seq;refine wpIn_cond_true (by rw[q9.eval];rfl) ?_;apply wpIn_skip;apply wpIn_block;apply wpIn_seq;apply wpIn_region_lit;refine vN (g:=g) (n:=14) (s:=Instr.entry (γ bi)) (K:=λv H=>v=.tuple #[e.key,e.val]/\H=A++((bi,.mapIter (some b) ck Ψ ck)::B)) hF rfl zC rfl q9 ?_ ?_ λv H' w2 a3 hv qm ve=>?_
 ·rw[e6.symm];rfl
 ·obtain⟨v,hr,hv⟩:=KJ.run (P:=zQ) (k:=λv=>v=.tuple #[e.key,e.val]) ⟨bi,b,ck,Ψ,e.born,ck,es,e,rfl,xaa _ (.head _),hbk,xaa _ (.tail _ (by rw[hB];exact .tail _ (.head _))),hfi,rfl⟩ jQ;exact⟨v,w1,_,hr,jQ,hv,rfl⟩
 obtain⟨rfl,rfl⟩:=hv;refine dH (g:=g) (n:=14) (v0:=nI x.1.toNat) hF rfl zC rfl ve qm ⟨_,_,rfl,rfl,GY⟩ λa4 G8=>?_;refine dH (g:=g) (n:=14) (v0:=nI x.1.toNat) hF rfl zC rfl G8 qm (show nI x.1.toNat=nI x.1.toNat from rfl) λa5 G7=>?_;apply wpListIn_nil;apply wpIn_seq;apply wpIn_region_lit;refine dH (g:=g) (n:=14) (v0:=.func (.yield l) #[] #[]) hF rfl zC rfl G7 qm f0 λa6 G6=>?_;refine dH (g:=g) (n:=14) (v0:=nI x.1.toNat) hF rfl zC rfl G6 qm (show nI x.1.toNat=nI x.1.toNat from rfl) λa7 XK=>?_;have Ξ:(bY es m seen).length=(bY es m Ψ).length+1:=by rw[hp.length_eq];rfl
 have η:ss.length<m.length:=by
  have:=cZ.length_eq;simp only[xaf,xar]at this⊢;omega
 obtain⟨fn,tmps,assign,body,hy,hR⟩:=hY _ x.1.toNat A _ w2 hG η qm;refine wpListIn_plain rfl λK hK=>⟨λ_ _=>trivial,?_⟩;rw[Oper.semAt_eq _ _ _ zC,XK.eval];have hex:∀F7:Fr,F7=bt (bt (bt (bt (bt (bt (bt fr (some 6) (.tuple #[.bool true,e.key,e.val])) (some 7) (.bool true)) (some 8) (.tuple #[e.key,e.val])) (some 9) (nI x.1.toNat)) (some 3) (nI x.1.toNat)) (some 10) (.func (.yield l) #[] #[])) (some 11) (nI x.1.toNat)->(execOp (ev F7) (eZ VFI 3 2)).run zQ w2=.ok (.round l fn tmps assign body) w2:=λF7 hF7=>by
  have v11:ev F7 (.tmp 10)=.func (.yield l) #[] #[]:=by rw[hF7];rfl
  have v12:ev F7 (.tmp 11)=nI x.1.toNat:=by rw[hF7];rfl
  have e11:execOp (ev F7) (eZ VFI 3 2)=(do let d <-resolve (ev F7) {callee:=.value (.tmp 10),args:=#[.tmp 11],argTypes:=#[3]} 4;invoke d.target d.args):=rfl;rw[e11];simp[resolve,Deferred.ofValue,v11,v12,invoke,go_sem,hy]
 refine(xch (Oper.uponIn Fence.wide 0 zQ (eZ VFI 3 2) a7 K _) (hex _ rfl)).mpr ⟨λh=>(by cases h),hR.mono ?_⟩;rintro e' w3 ⟨rfl,A',hG',Xk⟩;apply hK _ _;have ha8:=XK.put (d:=some 12) rfl (.bool true);refine dH (g:=g) (n:=14) (v0:=.bool false) hF rfl zC rfl ha8 Xk ⟨_,rfl,rfl⟩ λa9 ha9=>?_;apply wpListIn_nil;refine wpIn_cond_false (by rw[ha9.eval];rfl) ?_;apply wpIn_skip;refine⟨(bY es m Ψ).length,by omega,_,ss++[x.1.toNat],A',Ψ,ha9,f0,f6,hG',Xk,?_,rfl⟩;rw[xag];exact((hp.map (λp=>p.1.toNat)).append_left ss).symm.trans cZ
end
section
variable {sp kp mb nx:Nat} {c:Cf} {K:Kd} {S:Nat->ax.Fn} {θ ai tr:zL} {hs:List (Int×Nat)} {es:Array MapEntry} {ck:Nat} {C:Hp}
def G5(h:gP kp nx c K S θ ai tr hs es ck C)(hl:hs.length<=1099511627776):
  Fc zQ 13 #[γ sp] (gS sp c kp mb nx es ck C) (λv H=>∃N,H=N++gS sp c kp mb nx es ck C/\aL 3 .i64 v (iw (Dp (hs.map λp=>p.1.toNat))) N):=by refine aJ λg=>Qn (ah.aK (Br.no (Ld.n (v:=.map (some mb)) ?_)));apply ae.fq (FI _);rintro w H ⟨bm,rfl,rfl⟩;apply ae.pre (H':=[(bm,.cells #[.map (some mb)] 56 zZ),(mb,.map es ck)]++(jz sp c kp mb nx::C)) (.perm (List.Perm.cons _ (List.Perm.swap _ _ _)));refine ae.fn .left (F0 (S:=λss=>ss.Perm (hs.map λp=>p.1.toNat)) (N:=hs.length) (Dd (bm:=bm) (fz:=(0,0)) h.dO λp hp=>(h.lt p hp).1) (λss hss=>by have:=hss.length_eq;rw[xar]at this;omega) zK hl) ?_;rintro v H ⟨ss,N,hss,rfl,ho⟩;rw[Wj hss]at ho;refine aQ.mk ?_ ⟨N,rfl,ho⟩;rw[xag];refine .cv ?_ N;exact .skip (.perm (List.Perm.swap _ _ _))
def Nc(h:gP kp nx c K S θ ai tr hs es ck C):
  Fc zQ 14 #[γ sp] (gS sp c kp mb nx es ck C) (λv H=>∃N,H=N++gS sp c kp mb nx es ck C/\aL 3 .i64 v (iw θ) N):=by refine aJ λg=>Qm (ah.aK (Br.no (Ld.n (v:=γ kp) ?_)));apply ae.fq (EW h.ks.bg);rintro v H ⟨N,rfl,ho⟩;exact aQ.mk (aO.Rn [jz sp c kp mb nx,(mb,.map es ck)] N C) ⟨N,rfl,ho⟩
end
section
variable {sp nx:Nat} {c:Cf} {F:FS} {θ tr:zL} {H:Hp}
def hsN(F:FS):zL:=Dp (F.map λp=>p.1.toNat)
def oH(h:jX sp c nx F θ tr H)(hl:F.length<=1099511627776):Fc zQ 13 #[γ sp] H (λv H'=>∃N,H'=N++H/\aL 3 .i64 v (iw (hsN F)) N):=by
 obtain⟨kp,mb,K,S,ai,hs,es,ck,C,rfl,h,rfl⟩:=h;have e:(jj S hs).map (λp=>p.1.toNat)=hs.map λp=>p.1.toNat:=by unfold jj;rw[xbY];rfl
 unfold hsN;rw[e];exact G5 h (by unfold jj at hl;rwa [xar]at hl)
def wm(h:jX sp c nx F θ tr H):Fc zQ 14 #[γ sp] H (λv H'=>∃N,H'=N++H/\aL 3 .i64 v (iw θ) N):=by obtain⟨kp,mb,K,S,ai,hs,es,ck,C,rfl,h,rfl⟩:=h;exact Nc h
end
variable{F:FS}
def jX.T6{sp nx:Nat}{c:Cf}{θ tr:zL}{H:Hp}(h:jX sp c nx F θ tr H):uu c.n F θ<=1048574:=by obtain⟨kp,mb,K,S,ai,hs,es,ck,C,rfl,h,rfl⟩:=h;rw[<-h.uu];exact gB h.ks.bg
def jX.o8{sp nx:Nat}{c:Cf}{θ tr:zL}{H:Hp}(h:jX sp c nx F θ tr H):Proofs.o8 (iw θ)/\θ.length=c.n:=by
 have hp:=h.perm;have hl:θ.length=c.n:=by rw[hp.length_eq,xaF]
 refine⟨λv hv=>?_,hl⟩;rw[av,hl]at hv;exact xaT (f:=λn:Nat=>(n:Int)) (hp.mem_iff.2 (xaN.2 hv))
section
variable {c:Cf}
def Cg.nx{nx n1:Nat}{F1:FS}{o o1:zL}{x:dr}{r:Rp}(a:Cg c nx F o x r F1 n1 o1):n1<=nx+1:=by
 unfold Cg at a;split at a
 ·split at a
  ·obtain⟨t,e,_,_,_,_,⟨_,_,_,rfl⟩|⟨_,_,_,rfl⟩⟩:=a<;>omega
  obtain⟨_,_,rfl,_⟩:=a;omega
 split at a
 ·obtain⟨_,a⟩:=a;split at a
  ·rcases a with⟨_,_,_,rfl⟩|⟨_,_,_,rfl⟩<;>omega
  obtain⟨_,_,rfl⟩:=a;omega
 split at a
 ·obtain⟨_,rfl,_⟩:=a;omega
 obtain⟨_,rfl,_⟩:=a;omega
def ZV{sp nx:Nat}{θ tr:zL}{H:Hp}{x:dr}{xs:List dr}{l:List Rp}{i:Nat}(hc:c.Ok)(hx:x.Ok)(h:jX sp c nx F θ tr H)(hD:HR c 0 [] (List.range c.n) xs l nx F θ)(hn:nx<=i)(ht:tr.length<=i*69206017)(hi:i<200000):
  Fc zQ 9 #[γ sp,x.v] H (λv H'=>∃r:Rp,v=r.v/\∃(q5:Nat) (F':FS) (o' cC:zL),jX sp c q5 F' o' cC H'/\HR c 0 [] (List.range c.n) (xs++[x]) (l++[r]) q5 F' o'/\q5<=i+1/\cC.length<=(i+1)*69206017):=by have hf:=h.T6;refine(Ru h hc zO hx.x zO).mono ?_;rintro v H' ⟨r,F',q5,o,cC,rfl,h',hb,hS⟩;have:=hS.nx;exact⟨r,rfl,q5,F',o,cC,h',hD.snoc h.fits h.perm hS,by omega,by omega⟩
def R1{ci:vz}{steps:List dr}{sv:zV}{Y:Hp}(hs:Sl 5 Y sv (steps.map dr.cells))(hok:∀s∈steps,s.Ok)(cB:steps.length<=174762):
  Fc zQ 8 #[.agg ci.cells.toArray,sv] Y (λw H=>(fx ci≠0/\w=.tuple #[.slice none 0 0,ε (fx ci)]/\H=Y)\/
   (fx ci=0/\∃(d:Cf) (l:List Rp) (s:zV) (CR HS:Hp) (nx:Nat) (F:FS) (o:zL),ci=d.i/\d.Ok/\w=.tuple #[s,ε 0]/\H=CR++Y/\aU 37 4 s (l.map Rp.cells) CR/\l.length=steps.length/\HR d 0 [] (List.range d.n) steps l nx F o)):=by
 refine(Lo hs zO (λi sp l H=>∃(d:Cf) (nx:Nat) (F:FS) (o tr:zL),ci=d.i/\d.Ok/\jX sp d nx F o tr H/\HR d 0 [] (List.range d.n) (steps.take i) l nx F o/\nx<=i/\tr.length<=i*69206017) (λd hd hk sp kp mb C hK=>⟨d,0,[],_,[],hd,hk,BE hK,.nil,xai _,by simp⟩) ?_).mono ?_
 ·rintro i sp l H x he hx ⟨d,nx,F,o,tr,hd,hk,hS,hD,hn,ht⟩ hl;have hi:=(xah.1 hx).1;have ex:steps.take (i+1)=steps.take i++[x]:=by rw[xbg,hx];rfl
  refine(ZV hk (hok x (xav hx)) hS hD hn ht zO).mono ?_;rintro v H' ⟨r,rfl,q5,F',o',cC,h',hD',hn',ht'⟩;exact⟨r,rfl,d,q5,F',o',cC,hd,hk,h',by rw[ex];exact hD',hn',ht'⟩
 rintro w H (h|⟨he,sp,l,s,CR,HS,rfl,rfl,hR,hl,d,nx,F,o,tr,hd,hk,hS,hD,_⟩)
 ·exact .inl h
 rw[xa7]at hD;exact .inr ⟨he,d,l,s,CR,HS,nx,F,o,hd,hk,rfl,rfl,hR,hl,hD⟩
end
def Cf.SQ{d c:Cf}(h:d.i=c.i):d=c:=by obtain⟨a1,a2,a3,a4,a5⟩:=d;obtain⟨b1,b2,b3,b4,b5⟩:=c;simp only[Cf.i,vz.mk.injEq]at h;simp only[Cf.mk.injEq];omega
def App.blk{P:Program}{elem k bytes b:Nat}{zero:zV}{rs aF:List (List zV)}{A B:Hp}(aH:∀x∈rs++aF,x.length=k){xb:Nat}{r:List zV}{xT:TypeId}{fz:Nat×Nat}{xc:Nat}
 (hx:(xb,Obj.cells r.toArray xT fz)∈A++([(b,.cells (ψ (rs++aF)) elem zZ)]++B))(hr:r.length=k)(h1:∀u∈r,u.oneCell'=true)(hz:∃z:List zV,zero.cells=z.toArray/\z.length=k)
 (hb:(rs.length+1)*bytes<=140737488355328)(cB:rs.length+1<=9223372036854775807){K:zV->Hp->Prop}
 (hfit:∀j0 fy,aF=j0::fy->K (.slice (some ⟨b,0,none⟩) (rs.length+1) (rs.length+aF.length)) (A++([(b,.cells (ψ (rs++[r]++fy)) elem zZ)]++B)))
 (hgrow:∀b' fy,(∀x∈fy,x.length=k)->aF=[]->∃mS,aO ((b',.cells (ψ (rs++[r]++fy)) elem zZ)::(A++([(b,.cells (ψ (rs++aF)) elem zZ)]++B))) mS/\K (.slice (some ⟨b',0,none⟩) (rs.length+1) (rs.length+1+fy.length)) mS):
  App P elem k bytes zero (A++([(b,.cells (ψ (rs++aF)) elem zZ)]++B)) (.slice (some ⟨b,0,none⟩) rs.length (rs.length+aF.length)) (.slice (some ⟨xb,0,none⟩) 1 xc) K:=by
 have Ai:∀x∈[r],x.length=k:=λx hx=>by simp at hx;rw[hx];exact hr
 obtain⟨z,hz1,Qw⟩:=hz;have hnews:Cells (A++([(b,.cells (ψ (rs++aF)) elem zZ)]++B)) (some ⟨xb,0,none⟩) (1*k) (ψ [r]):=.inr ⟨rfl,_,_,_,hx,by simp[hr],by simp[ψ];rw[<-hr,xa7]⟩;have hnone:∀u∈(ψ [r]).toList,u.oneCell'=true:=by simpa[ψ]using h1
 have hsz:=bK aH;have mE:∀x∈rs,x.length=k:=λx hx=>aH x (by simp[hx]);have hold:ψ rs=(ψ (rs++aF)).extract 0 (0+rs.length*k):=by
  rw[<-cS];apply xc4;have:=bK mE;have h2:(ψ rs).toList.length=rs.length*k:=by rw[xb3];exact this
  rw[xeb,xei,xdI,List.drop_zero,xa1,xcU,<-h2,xdU]
 refine⟨some ⟨b,0,none⟩,rs.length,rs.length+aF.length,some ⟨xb,0,none⟩,1,xc,ψ rs,ψ [r],rfl,rfl,.inr ⟨rfl,_,elem,(0,0),by simp,?_,hold⟩,hnews,by rw[bK Ai];simp,bK mE,hnone,λaeb=>?_,λaa3=>⟨hb,by omega,λeE hn b' hbf=>?_⟩⟩
 ·rw[hsz];simp only[xaf,xa1];exact xaY _ zO
 ·obtain⟨j0,fy,rfl⟩:∃j0 fy,aF=j0::fy:=by cases aF with|nil=>exact absurd aeb (by simp only[xbF];omega)|cons a b=>exact⟨a,b,rfl⟩
  have hq:=hfit j0 fy rfl;have e:jo (ψ (rs++j0::fy)) ((⟨b,0,none⟩:Addr).off+rs.length*k) (ψ [r]).toList=ψ (rs++[r]++fy):=by
   have e:(ψ [r]).toList=r:=by simp[ψ]
   rw[e,show(⟨b,0,none⟩:Addr).off+rs.length*k=rs.length*k by simp,vW aH zI hr];simp
  refine⟨_,elem,_,rfl,?_,((df.head _).append B).cf A,?_⟩
  ·rw[hsz];simp[xbr,xd1]
  rw[e];exact hq
 have hj:aF=[]:=by cases aF with|nil=>rfl|cons a b=>exact absurd aa3 (by simp only[xax];omega)
 have hq:=hgrow b' (List.replicate (eE-(rs.length+1)) z) (λx hx=>by rw[xbS hx,Qw]) hj;rw[hz1,n6 z Qw,cS,cS];rw[show rs.length+1+(List.replicate (eE-(rs.length+1)) z).length=eE by simp;omega]at hq;exact hq
def Gw(v w:zV)(l m:List Int)(C:Hp):Prop:=
 (∃C1 C2,C=C2++C1/\aL 3 .i64 v l C1/\aL 3 .i64 w (l++m) C2)\/
 ∃b aF,v=.slice (some ⟨b,0,none⟩) l.length (l.length+m.length+aF.length)/\w=.slice (some ⟨b,0,none⟩) (l.length+m.length) (l.length+m.length+aF.length)/\
  C=[(b,.cells (ψ ((l++m).map (λn=>[Value.int .i64 n])++aF)) 3 zZ)]/\∀r∈aF,r.length=1
section
variable {v w:zV} {l m:List Int} {C H:Hp} {c:Hp->Hp}
def Gw.iC(h:aL 3 .i64 v l C):Gw v v l [] C:=by
 rcases h with⟨rfl,hl,rfl⟩|⟨b,aF,rfl,rfl,aH⟩
 ·obtain rfl:l=[]:=List.map_eq_nil_iff.1 hl;exact .inl ⟨[],[],rfl,aL.nil,aL.nil⟩
 refine .inr ⟨b,aF,by simp,by simp,by simp,λr hr=>aH r (xaa _ hr)⟩
def Gw.own(h:Gw v w l m C):∃C',aO C C'/\(∀y∈C',y∈C)/\aL 3 .i64 v l C':=by
 rcases h with⟨C1,C2,rfl,h1,h2⟩|⟨b,aF,rfl,rfl,rfl,aH⟩
 ·exact⟨C1,.right,λy hy=>xaa _ hy,h1⟩
 refine⟨_,.refl _,λy hy=>hy,.inr ⟨b,m.map (λn=>[Value.int .i64 n])++aF,?_,?_,λr hr=>?_⟩⟩
 ·simp only[xar,xaf,xcq]
 ·rw[xaz,xag]
 rcases xao.1 hr with hr|hr
 ·obtain⟨n,_,rfl⟩:=xal.1 hr;rfl
 rcases xao.1 hr with hr|hr
 ·obtain⟨n,_,rfl⟩:=xal.1 hr;rfl
 exact aH r hr
def Gw.SG(h:Gw v w l m C):di .i64 C v l:=by obtain⟨C',_,hs,ho⟩:=h.own;exact ho.ints.mono hs
def Gw.YW(h:Gw v w l m C):di .i64 C w (l++m):=by
 rcases h with⟨C1,C2,rfl,h1,h2⟩|⟨b,aF,rfl,rfl,rfl,aH⟩
 ·exact h2.ints.mono λy hy=>xad _ hy
 refine aL.ints (T:=3) (.inr ⟨b,aF,?_,rfl,λr hr=>?_⟩)
 ·simp only[xar,xaf]
 rcases xao.1 hr with hr|hr
 ·obtain⟨n,_,rfl⟩:=xal.1 hr;rfl
 exact aH r hr
def Gw.one(h:Gw v w l m C):w.oneCell'=true:=by
 rcases h with⟨C1,C2,rfl,h1,h2⟩|⟨b,aF,rfl,rfl,rfl,aH⟩
 ·exact h2.one
 rfl
def Gw.app{P:Program}(h:Gw v w l m C)(hh:bE C H c){xb xc:Nat}{x:Int}{xT:TypeId}{fz:Nat×Nat}(hx:(xb,Obj.cells (az .i64 [x]) xT fz)∈H)(hb:l.length+m.length+1<=17592186044416){K:zV->Hp->Prop}
 (hk:∀w' C',Gw v w' l (m++[x]) C'->K w' (c C')):App P 3 1 8 (iv 0) H w (.slice (some ⟨xb,0,none⟩) 1 xc) K:=by
 obtain⟨A,B,e⟩:=hh.split;have e2:=hh.spec.1;rw[e]at e2;subst e2;rcases h with⟨C1,C2,rfl,h1,h2⟩|⟨b,aF,rfl,rfl,rfl,aH⟩
 ·rw[xag]at hx⊢;refine h2.app hx (by rw[xaf];omega) (by rw[xaf];omega) λv' C' ho=>?_;have:=hk v' (C'++C1) (.inl ⟨C1,C',rfl,h1,by rw[<-xag];exact ho⟩);rwa [e,xag]at this
 have ha:∀r∈(l++m).map (λn=>[Value.int .i64 n])++aF,r.length=1:=λr hr=>by
  rcases xao.1 hr with hr|hr
  ·obtain⟨n,_,rfl⟩:=xal.1 hr;rfl
  exact aH r hr
 have el:((l++m).map λn=>[Value.int .i64 n]).length=l.length+m.length:=by rw[xar,xaf]
 have em:(l++m).map (λn=>[Value.int .i64 n])++[[Value.int .i64 x]]=(l++(m++[x])).map λn=>[Value.int .i64 n]:=by simp
 have:=App.blk (P:=P) (elem:=3) (k:=1) (bytes:=8) (b:=b) (zero:=iv 0) (A:=A) (B:=B) (r:=[iv x]) (xc:=xc) (K:=K) ha hx rfl (by simp[Value.oneCell']) ⟨[iv 0],rfl,rfl⟩ (by rw[el];omega) (by rw[el];omega) ?_ ?_
 ·rw[el]at this;exact this
 ·rintro j0 fy rfl;rw[el,em];have:=hk (.slice (some ⟨b,0,none⟩) (l.length+m.length+1) (l.length+m.length+(j0::fy).length)) _ (.inr ⟨b,fy,?_,?_,rfl,λr hr=>aH r (.tail _ hr)⟩)
  ·rwa [e]at this
  ·simp only[xaf,xax,xbF];congr 1;omega
  simp only[xaf,xax,xbF];congr 1;omega
 rintro b' fy hj rfl;rw[el,em];have:=hk (.slice (some ⟨b',0,none⟩) (l.length+m.length+1) (l.length+m.length+1+fy.length)) ([(b',.cells (ψ ((l++(m++[x])).map (λn=>[Value.int .i64 n])++fy)) 3 zZ)]++[(b,.cells (ψ ((l++m).map (λn=>[Value.int .i64 n])++[])) 3 zZ)]) (.inl ⟨_,_,rfl,?_,?_⟩)
 ·refine⟨_,?_,this⟩;rw[e];exact .perm xaO.symm
 ·refine .inr ⟨b,m.map (λn=>[Value.int .i64 n]),by simp,by rw[xaz,xaI],λr hr=>?_⟩;rw[<-xaz]at hr;obtain⟨n,_,rfl⟩:=xal.1 hr;rfl
 refine .inr ⟨b',fy,?_,rfl,λr hr=>?_⟩
 ·simp only[xar,xaf,xax,xbF];congr 1
 rcases xao.1 hr with hr|hr
 ·obtain⟨n,_,rfl⟩:=xal.1 hr;rfl
 exact hj r hr
end
end
end Go.Proofs
namespace Go.Sx
open Go
variable{B:Hp}
section
variable{P:Program}{g:Gh}{K:zV->Hp->Prop}{KP:List PanicEntry->Hp->Prop}
def mR.afh{o:Oper}{ρ:Operand->zV}{x y:Operand}{t t' elem b n c:Nat}{T:TypeId}{kd:IntKind}{l:List Int}(ho:o.op=.call ⟨.builtin .copy,#[x,y],#[t,t']⟩)(ht:P.underlying t=some (.slice elem))(hz:dm P elem=some 1)
 (hx:ρ x=.slice (some ⟨b,0,none⟩) n c)(hl:l.length=n)(hy:di kd ((b,.cells (az kd (List.replicate n 0)) T zZ)::B) (ρ y) l)(hk:K (.int .i64 n) ((b,.cells (az kd l) T zZ)::B)):
  mR P g o ρ ((b,.cells (az kd (List.replicate n 0)) T zZ)::B) K KP:=by
 obtain⟨a,cap,hy',hc⟩:=Sl.cells hy;obtain⟨i,hi,hin⟩:=bJ hz;refine mR.ofValue (s:=Builtin.copy_ #[t,t'] o.type #[ρ x,ρ y]) (by simp[execOp,ho,resolve,invoke,builtin,bind,Sem.bind];rfl) λw hw=>?_;rw[zg,xar,hl]at hc;rw[xar,hl]at hy';have hf:=Cells.run (P:=P) (size:=1) (cap:=cap) hw hc;have e:jo (az kd (List.replicate n 0)) (0+0) (az kd l).toList=az kd l:=by
  unfold az;rw[m6 _ _ _ (by simp[hl])];simp[hl]
 obtain⟨w',hr,cA⟩:=eC (P:=P) (T:=T) 0 (az kd l).toList 0 (az kd (List.replicate n 0)) _ ((b,.cells (az kd l) T zZ)::B) w hw (by rw[e];exact .head _) (λv hv=>by
  unfold az at hv;simp only[xdd,xal]at hv;obtain⟨_,_,rfl⟩:=hv;rfl) (by simp[hl])
 refine⟨_,w',_,?_,cA,hk⟩;rw[hx,hy'];simp[Builtin.copy_,run_underlying ht,Builtin.lenOf,run_sizeOf hi,hin,hf,hr,goInt]
end
end Go.Sx
set_option maxRecDepth 100000
namespace Go.Proofs
open Go Go.Sx Tryz
section
open ax
def Dg{B:Hp}{v:zV}{l:List Int}(h:di .i64 B v l)(hl:l.length<=17592186044416):Fc zQ 15 #[v] B (λw H=>∃N,H=N++B/\aL 3 .i64 w l N):=by refine aJ λg=>Ql (h.bL ?_);refine cJ.ints zO zO λb=>?_;apply mR.afh (elem:=3) (l:=l) rfl zK zK rfl rfl (h.mono λy hy=>.tail _ hy);exact aQ.mk (.refl _) ⟨[_],rfl,aL.made l⟩
def Ls{v:zV}{l:List Int}{C:Hp}(h:aL 3 .i64 v l C)(hl:l.length<=17592186044416):Fc zQ 16 #[v] C (λw H=>∃l',l'.length=l.length/\aL 3 .i64 v l' H):=by
 refine aJ λg=>Qk (⟨λvs H=>∃(i:Nat) (l':List Int),vs=[ε (i:Int)]/\i<=l.length/\l'.length=l.length/\aL 3 .i64 v l' H,λvs _=>l.length-bH vs 0,JE.mk ⟨0,l,rfl,xaL _,rfl,h⟩,?_⟩);rintro w H ⟨i,l',⟨⟩,hi,hl',ho⟩ gs;apply ho.bL;rw[hl'];refine ah.eA (Br.dec (λη=>?_) (λhge=>?_))
 ·apply ho.ld (xab (show i<l'.length by omega)) (λy hy=>hy);refine ah.mul (ah.sub (ah.sub (ho.mh .here zO λC' cA=>?_)));exact ah.inc (aD.of (.refl _) ⟨i+1,_,rfl,η,by rw[xbE];exact hl',cA⟩ (by simp only[bH];omega))
 exact aQ.mk (.refl _) ⟨l',hl',ho⟩
def dr.eq(a b:dr):Bool:=decide (a.op=b.op) && (decide (a.a=b.a) && (decide (a.b=b.b) && (decide (a.c=b.c) &&decide (a.x=b.x))))
def dr.eq_self(a:dr):dr.eq a a=true:=by simp[dr.eq]
def Ue:(Tryz.prog.fieldsOf 35).toList.map (λf=>(f.name,f.type,f.offset))=[("Op",5,0),("A",3,1),("B",3,2),("C",3,3),("X",33,4)]:=by kernel_rfl
def ZT:Tryz.prog.underlying 5=some (.int .u8):=by kernel_rfl
def agL{g:Gh}{H:Hp}{o:Oper}{ρ:Operand->zV}{k:zV->Prop}{neq:Bool}{x y:Operand}{a b:dr}(ho:o.op=.binOp (cond neq .neq .eql) 35 x y 35)(hx:ρ x=a.v)(hy:ρ y=b.v)
 (hk:k (.bool (cond neq (!dr.eq a b) (dr.eq a b)))):iQ zQ g o ρ H k:=by
 refine iQ.struct (neq:=neq) ho hx hy zK zK zK (b:=dr.eq a b) ?_ hk;intro w;have h:=Ue;generalize (Tryz.prog.fieldsOf 35).toList=fs at h;rcases fs with _|⟨f1,_|⟨f2,_|⟨f3,_|⟨f4,_|⟨f5,_|⟨f6,fs⟩⟩⟩⟩⟩⟩<;>simp only[xay,xcd,xaw,xdf,xaW,reduceCtorEq,xdw]at h;obtain⟨⟨n1,t1,o1⟩,⟨n2,t2,o2⟩,⟨n3,t3,o3⟩,⟨n4,t4,o4⟩,n5,t5,o5⟩:=h;have p1:∀(r:dr) w,(part 5 r.cells.toArray 0).run zQ w=.ok (.int .u8 (r.op:Int)) w:=λr w=>run_part_plain (w:=w) zK rfl;have p2:∀(r:dr) w,(part 3 r.cells.toArray 1).run zQ w=.ok (ε r.a) w:=λr w=>run_part_plain (w:=w) zK rfl;have p3:∀(r:dr) w,(part 3 r.cells.toArray 2).run zQ w=.ok (ε r.b) w:=λr w=>run_part_plain (w:=w) zK rfl;have p4:∀(r:dr) w,(part 3 r.cells.toArray 3).run zQ w=.ok (ε r.c) w:=λr w=>run_part_plain (w:=w) zK rfl;have p5:∀(r:dr) w,(part 33 r.cells.toArray 4).run zQ w=.ok (χ r.x) w:=λr w=>run_part_plain (w:=w) zK rfl;have dq:∀x y:Int,(x==y)=decide (x=y):=λx y=>by rw[xbH];simp
 have q1:∀(x y:Nat) w,(Op.equalIn 9999 5 (.int .u8 (x:Int)) (.int .u8 (y:Int))).run zQ w=.ok (decide (x=y)) w:=λx y w=>by
  rw[run_equalIn_int w 9998 5 .u8 _ _ _ ZT,dq];congr 1;exact xb1.2 Int.ofNat_inj
 have q2:∀(x y:Int) w,(Op.equalIn 9999 3 (ε x) (ε y)).run zQ w=.ok (decide (x=y)) w:=λx y w=>by
  rw[run_equalIn_int w 9998 3 .i64 _ _ _ K9,dq]
 have q3:∀(x y:Nat) w,(Op.equalIn 9999 33 (χ x) (χ y)).run zQ w=.ok (decide (x=y)) w:=λx y w=>by
  rw[run_equalIn_int w 9998 33 .u64 _ _ _ KZ,dq];congr 1;exact xb1.2 Int.ofNat_inj
 show(Op.eqFields 9999 a.cells.toArray b.cells.toArray [f1,f2,f3,f4,f5]).run zQ w=_;simp only[Op.eqFields,n1,n2,n3,n4,n5,t1,t2,t3,t4,t5,o1,o2,o3,o4,o5,Sem.run_bind,p1,p2,p3,p4,p5,q1,q2,q3,Result.andThen_ok,Sem.run_ite,Sem.run_pure];unfold dr.eq;by_cases h1:a.op=b.op<;>by_cases h2:a.a=b.a<;>by_cases h3:a.b=b.b<;>by_cases h4:a.c=b.c<;>by_cases h5:a.x=b.x<;>simp[h1,h2,h3,h4,h5]
end
section
open ax
structure Pc where
 v:zV
 w:zV
 l:List Int
 m:List Int
 n:Hp
def rC:List Pc->Hp->Hp
 | [],X=>X
 |s::S,X=>s.n++rC S X
def pN{X:Hp}:∀S:List Pc,∀y∈X,y∈rC S X
 | [],_,h=>h
 |_::S,y,h=>xaa _ (pN S y h)
def LL{X:Hp}:∀{S:List Pc} {s:Pc},s∈S->∀y∈s.n,y∈rC S X
 |_::S,s,h,y,hy=>by
  rcases xak.1 h with rfl|h
  ·exact xad _ hy
  exact xaa _ (LL h y hy)
def Ta{X:Hp}{s s':Pc}(e:s.n=s'.n):∀(S:List Pc) (i:Nat),rC (S.set i s) X=rC (S.set i s') X
 | [],_=>rfl
 |a::S,0=>by show s.n++_=s'.n++_;rw[e]
 |a::S,i+1=>by show a.n++rC (S.set i s) X=a.n++rC (S.set i s') X;rw[Ta e S i]
def BH{X:Hp}:∀{S:List Pc} {i:Nat} {s:Pc},S[i]? =some s->bE s.n (rC S X) (λC=>rC (S.set i {s with n:=C}) X)
 |a::S,0,s,h=>by cases h;exact bE.left
 |a::S,i+1,s,h=>bE.app (BH (S:=S) (i:=i) (by simpa using h))
def vR{α:Type}:∀{l:List α} {i:Nat} {x:α},l[i]? =some x->l.set i x=l
 |a::l,0,x,h=>by cases h;rfl
 |a::l,i+1,x,h=>by rw[xdM,vR (by simpa using h)]
structure PS(Q:Pc->Prop)(V:List zV)(lens:zL)(S:List Pc):Prop where
 hv:S.map Pc.v=V
 hl:S.map (λs=>s.l.length)=lens
 q:∀s∈S,Q s
def QO(s:Pc):Prop:=aL 3 .i64 s.v s.l s.n
def QG(s:Pc):Prop:=Gw s.v s.w s.l s.m s.n
section
variable {Q:Pc->Prop} {V:List zV} {lens:zL} {S:List Pc} {i:Nat} {s s':Pc} {X:Hp}
def PS.len(h:PS Q V lens S):S.length=V.length:=by rw[<-h.hv,xar]
def PS.get(h:PS Q V lens S)(hi:i<V.length):∃s,S[i]? =some s:=⟨_,xab (by rw[h.len];exact hi)⟩
def PS.v(h:PS Q V lens S)(hs:S[i]? =some s):V[i]? =some s.v:=by rw[<-h.hv,xaq,hs];rfl
def PS.l(h:PS Q V lens S)(hs:S[i]? =some s):lens[i]? =some s.l.length:=by rw[<-h.hl,xaq,hs];rfl
def PS.set(h:PS Q V lens S)(hs:S[i]? =some s)(e1:s'.v=s.v)(e2:s'.l.length=s.l.length)(hq:Q s'):PS Q V lens (S.set i s'):=by
 refine⟨?_,?_,λt ht=>?_⟩
 ·rw[xcC,e1,h.hv];exact vR (h.v hs)
 ·rw[xcC,e2,h.hl];exact vR (h.l hs)
 rcases xb2 ht with ht|rfl
 ·exact h.q t ht
 exact hq
def PS.toG(h:PS QO V lens S):PS QG V lens (S.map λs=>{s with w:=s.v,m:=[]}):=by
 refine⟨?_,?_,λt ht=>?_⟩
 ·rw[xbY];exact h.hv
 ·rw[xbY];exact h.hl
 obtain⟨s,hs,rfl⟩:=xal.1 ht;exact Gw.iC (h.q s hs)
def LK:∀S:List Pc,rC (S.map λs=>{s with w:=s.v,m:=[]}) X=rC S X
 | []=>rfl
 |s::S=>by show s.n++_=s.n++_;rw[LK S]
def toO:∀{S:List Pc} {V:List zV} {lens:zL},PS QG V lens S->∃S',aO (rC S X) (rC S' X)/\PS QO V lens S'
 | [],V,lens,h=>⟨[],.refl _,⟨h.hv,h.hl,nofun⟩⟩
 |s::S,V,lens,h=>by
  obtain⟨hv,hl,hq⟩:=h;obtain⟨S',e,h'⟩:=toO (S:=S) (V:=S.map Pc.v) (lens:=S.map λs=>s.l.length) ⟨rfl,rfl,λt ht=>hq t (.tail _ ht)⟩;obtain⟨C,e1,_,ho⟩:=Gw.own (hq s (.head _));refine⟨{s with n:=C}::S',?_,⟨?_,?_,λt ht=>?_⟩⟩
  ·exact(aO.frame e1 _).trans (aO.cv e _)
  ·rw[<-hv,xay,xay,h'.hv]
  ·rw[<-hl,xay,xay,h'.hl]
  rcases xak.1 ht with rfl|ht
  ·exact ho
  exact h'.q t ht
variable{k:Nat}
def ldV{a0 v:zV}{H:Hp}{K:zV->Prop}(ha:Sl 1 X a0 (V.map λv=>[v]))(hi:V[k]? =some v)(hs:∀y∈X,y∈H)(hk:K v):ay 1 a0 (ε (k:Int)) λp=>Ld H p K:=
 ay.sl ha (by rw[xaq,hi];rfl) λp hp=>Ld.at hp hs hk
def mk(r k j:Nat):Int:=((r*100000+k*1000+j*r:Nat):Int)
def MK(r k n:Nat):List Int:=(List.range n).map (mk r k)
def xR{r n:Nat}:(MK r k n).length=n:=by simp[MK]
def Vi{r n j:Nat}(h:j<n):(MK r k n)[j]? =some (mk r k j):=by simp[MK,h]
def My{r n:Nat}:MK r k (n+1)=MK r k n++[mk r k n]:=by simp[MK,xbZ]
end
def ah.mkP{r k j:Nat}{K:zV->Prop}(hr:r<=2)(hk:k<=1000)(hj:j<=17592186044416)(h:K (ε (mk r k j))):
  ah .num .mul (ε (r:Int)) (ε 100000) λv25=>ah .num .mul (ε (k:Int)) (ε 1000) λv26=>ah .num .add v25 v26 λv27=>ah .num .mul (ε (j:Int)) (ε (r:Int)) λv28=>ah .num .add v27 v28 K:=by have h1:j*r<=j*2:=xcy _ hr;refine ah.Gs (b:=100000) (by simp only[bI];omega) (ah.Gs (b:=1000) (by simp only[bI];omega) (ah.Ce (by simp only[bI];omega) (ah.Gs (by simp only[bI];omega) (ah.Ce (by simp only[bI];omega) h))))
def MG(r k n j:Nat):List Int:=(List.range j).map λi=>mk r k (n+i)
def Mz{r k n j:Nat}:MG r k n (j+1)=MG r k n j++[mk r k (n+j)]:=by simp[MG,xbZ]
def afr{r k n j:Nat}:MK r k n++MG r k n j=MK r k (n+j):=by
 induction j with
 |zero=>simp[MG]
 |succ j ih=>rw[Mz,<-xag,ih,<-xcq,My]
section
variable {V:List zV} {lens:zL} {X:Hp} {a0:zV}
set_option maxHeartbeats 1000000 in
theorem UU{S0:List Pc}(hS:PS QO V lens S0)(ha:Sl 1 X a0 (V.map λv=>[v]))(h4:V.length<=1000)(Ξ:∀n∈lens,n<=1000000000000):Fc zQ 18 #[a0] (rC S0 X) (λv _=>v=.bool true):=by
 refine aJ λg=>Qi (⟨λvs H=>∃(r:Nat) (S:List Pc),vs=[ε (r:Int)]/\1<=r/\r<=3/\PS QO V lens S/\H=rC S X,λvs _=>3-bH vs 0,JE.mk ⟨1,S0,rfl,xai _,by decide,hS,rfl⟩,?_⟩);clear hS;rintro w5 H4 ⟨r,S,⟨⟩,Qz,hr3,hS,rfl⟩ gs;refine ah.By (b:=2) (Br.dec (λhr=>?_) (λhr=>aQ.mk (.refl _) rfl));have Sr:∀{Q:Pc->Prop} {S:List Pc} {i:Nat} {s:Pc},PS Q V lens S->S[i]? =some s->s.l.length<=1000000000000:=λh hs=>Ξ _ (xav (h.l hs));refine⟨λvs H=>∃(i:Nat) (S:List Pc),vs=[ε (i:Int)]/\i<=V.length/\PS QO V lens S/\(∀k s,S[k]? =some s->k<i->s.l=MK r k s.l.length)/\H=rC S X,λvs _=>V.length-bH vs 0,
  JE.mk ⟨0,S,rfl,xaL _,hS,λ_ _ _ h=>absurd h (xb9 _),rfl⟩,?_⟩
 clear hS;rintro w11 H10 ⟨i,S,⟨⟩,hi,hS,hm,rfl⟩ gs;refine ha.bL ?_;rw[xar];refine ah.eA (Br.dec (λη=>?_) (λhge=>?_))
 ·obtain⟨s,hs⟩:=hS.get η;refine⟨λvs H=>∃(j:Nat) (S':List Pc) (s':Pc) (rest:List Int),vs=[ε (j:Int)]/\PS QO V lens S'/\S'[i]? =some s'/\(∀k s,S'[k]? =some s->k<i->s.l=MK r k s.l.length)/\s'.l=MK r i j++rest/\H=rC S' X,λvs _=>s.l.length-bH vs 0,
   JE.mk ⟨0,S,s,s.l,rfl,hS,hs,hm,rfl,rfl⟩,?_⟩
  rintro w18 H17 ⟨j,S',s',rest,⟨⟩,pQ,μ,Ω,el,rfl⟩ gs;have hvi:=pQ.v μ;have yI:s'.l.length=s.l.length:=by have a:=pQ.l μ;have b:=hS.l hs;rw[a]at b;exact xbb b
  have hl9:=Sr pQ μ;have ho:aL 3 .i64 s'.v s'.l s'.n:=pQ.q s' (xav μ);have ell:s'.l.length=j+rest.length:=by rw[el,xaf,xR]
  refine ldV ha hvi (pN S') (ho.bL ?_);refine ah.eA (Br.dec (λhj=>?_) (λhj=>?_))
  ·refine ldV ha hvi (pN S') (ah.mkP hr zO zO ?_);refine ho.mh (BH μ) hj λC' cA=>?_;have eh:rC (S'.set i {s' with n:=C'}) X=rC (S'.set i ⟨s'.v,s'.w,s'.l.set j (mk r i j),s'.m,C'⟩) X:=Ta (by rfl) S' i;refine ah.inc (aD.of (H':=rC (S'.set i ⟨s'.v,s'.w,s'.l.set j (mk r i j),s'.m,C'⟩) X) (by rw[<-eh];exact .refl _) ⟨j+1,S'.set i ⟨s'.v,s'.w,s'.l.set j (mk r i j),s'.m,C'⟩,⟨s'.v,s'.w,s'.l.set j (mk r i j),s'.m,C'⟩,rest.tail,rfl,pQ.set (s':=⟨s'.v,s'.w,s'.l.set j (mk r i j),s'.m,C'⟩) μ rfl (xbE ..) cA,xbo (by rw[pQ.len];exact η),λk t hk VB=>?_,?_,rfl⟩ (by simp only[bH];omega))
   ·rw[xbw zO]at hk;exact Ω k t hk VB
   obtain⟨a,rest',rfl⟩:∃a b,rest=a::b:=by
    cases rest with
    |nil=>simp only[xbF]at ell;omega
    |cons a b=>exact⟨a,b,rfl⟩
   show s'.l.set j (mk r i j)=_;rw[el,xcl _ _ (by rw[xR];exact xai _),xR,xcX,My,xag];rfl
  refine ah.inc (aD.of (.refl _) ⟨i+1,S',rfl,η,pQ,λk t hk VB=>?_,rfl⟩ (by simp only[bH];omega));by_cases e:k=i
  ·subst e;rw[μ]at hk;cases hk;have:rest=[]:=xbO zO;subst this;rw[xaI]at el;rw[el,xR]
  exact Ω k t hk zO
 have hV:V.length=i:=by omega
 have hG:=hS.toG;rw[<-LK S];have gm:∀k s,(S.map λs=>{s with w:=s.v,m:=[]})[k]? =some s->s.l=MK r k s.l.length/\s.w=s.v/\s.m=[]:=λk s hk=>by
  rw[xaq]at hk;obtain⟨t,ht,rfl⟩:=xdp.1 hk;exact⟨hm k t ht (by have:=(xah.1 ht).1;rw[hS.len]at this;omega),rfl,rfl⟩
 generalize (S.map λs=>{s with w:=s.v,m:=[]})=S1 at hG gm⊢;clear hm hS hi hge;subst hV;refine⟨λvs H=>∃(i:Nat) (gv:zV) (CG:Hp) (S:List Pc),vs=[gv,ε (i:Int)]/\i<=V.length/\PS QG V lens S/\(∀k s,S[k]? =some s->s.l=MK r k s.l.length/\(k<i->s.m=MG r k s.l.length 30)/\(i<=k->s.w=s.v/\s.m=[]))/\aU 43 1 gv ((S.take i).map λs=>[s.w]) CG/\H=CG++rC S X,λvs _=>V.length-bH vs 1,
  JE.mk ⟨0,_,[],S1,rfl,xaL _,hG,λk s hk=>⟨(gm k s hk).1,λh=>absurd h (xb9 _),λ_=>(gm k s hk).2⟩,aU.nil _ _,rfl⟩,?_⟩
 clear hG gm;rintro w38 w39 H37 ⟨i,gv,CG,S,⟨⟩,hi,hS,hm,hgv,rfl⟩ gs;refine ha.bL ?_;rw[xar];refine ah.eA (Br.dec (λη=>?_) (λhge=>?_))
 ·obtain⟨s,hs⟩:=hS.get η;refine ldV ha (hS.v hs) (λy hy=>xaa _ (pN S y hy)) ?_;refine⟨λvs H=>∃(j:Nat) (S':List Pc) (s':Pc),vs=[s'.w,ε (j:Int)]/\j<=30/\PS QG V lens S'/\S'[i]? =some s'/\(∀k s,S'[k]? =some s->s.l=MK r k s.l.length/\(k<i->s.m=MG r k s.l.length 30)/\(i+1<=k->s.w=s.v/\s.m=[]))/\s'.m=MG r i s'.l.length j/\aU 43 1 w38 ((S'.take i).map λs=>[s.w]) CG/\H=CG++rC S' X,λvs _=>30-bH vs 1,
   JE.mk ⟨0,S,s,?_,xaL _,hS,hs,λk t hk=>⟨(hm k t hk).1,(hm k t hk).2.1,λh=>(hm k t hk).2.2 zO⟩,?_,hgv,rfl⟩,?_⟩
  ·rw[((hm i s hs).2.2 (xai _)).1];rfl
  ·rw[((hm i s hs).2.2 (xai _)).2];rfl
  rintro w48 w49 H47 ⟨j,S',s',⟨⟩,hj,pQ,μ,Ω,em,ad7,rfl⟩ gs;have hg:Gw s'.v s'.w s'.l s'.m s'.n:=pQ.q s' (xav μ);have hl9:=Sr pQ μ;have hml:s'.m.length=j:=by rw[em];simp[MG]
  refine ah.eA (b:=30) (Br.dec (λhj3=>?_) (λhj3=>?_))
  ·have h1:(s'.l.length+j)*r<=(s'.l.length+j)*2:=xcy _ hr;refine ah.Gs (b:=100000) (by simp only[bI];omega) (ah.Gs (b:=1000) (by simp only[bI];omega) (ah.Ce (by simp only[bI];omega) (ldV ha (pQ.v μ) (λy hy=>xaa _ (pN S' y hy)) (hg.SG.bL ?_))));refine ah.Ce (by simp only[bI];omega) (ah.Gs (by simp only[bI];omega) (ah.Ce (by simp only[bI];omega) (aq.int (e:=3) (x:=mk r i (s'.l.length+j)) zK zK zK λbx=>?_)));refine hg.app (x:=mk r i (s'.l.length+j)) (.cons (.app (BH μ))) (by exact .head _) zO λw' C' Fv=>?_;have eh:rC (S'.set i {s' with n:=C'}) X=rC (S'.set i ⟨s'.v,w',s'.l,s'.m++[mk r i (s'.l.length+j)],C'⟩) X:=Ta (by rfl) S' i;refine ah.inc (aD.of (H':=CG++rC (S'.set i ⟨s'.v,w',s'.l,s'.m++[mk r i (s'.l.length+j)],C'⟩) X) (by rw[<-eh];exact .tail) ⟨j+1,S'.set i ⟨s'.v,w',s'.l,s'.m++[mk r i (s'.l.length+j)],C'⟩,⟨s'.v,w',s'.l,s'.m++[mk r i (s'.l.length+j)],C'⟩,rfl,hj3,pQ.set (s':=⟨s'.v,w',s'.l,s'.m++[mk r i (s'.l.length+j)],C'⟩) μ rfl rfl Fv,xbo (by rw[pQ.len];exact η),λk t hk=>?_,?_,?_,rfl⟩ (by simp only[bH];omega))
   ·by_cases e:i=k
    ·subst e;rw[xbo (by rw[pQ.len];exact η)]at hk;cases hk;exact⟨(Ω i s' μ).1,λh=>absurd h (Nat.lt_irrefl _),λh=>by omega⟩
    rw[xbw e]at hk;exact Ω k t hk
   ·show s'.m++_=_;rw[em,Mz]
   rw[List.take_set_of_le (xai _)];exact ad7
  obtain rfl:j=30:=by omega
  refine aq.cell (z:=.slice none 0 0) (e:=43) zK zK zK hg.one λbx=>?_;have htl:((S'.take i).map λs=>[s.w]).length=i:=by rw[xar,xbI,pQ.len];omega
  refine aU.qd (r:=[s'.w]) ad7 (.cons .left) (by exact .head _) rfl (by simpa using hg.one) ⟨[.slice none 0 0],rfl,rfl⟩ (by rw[htl];omega) (by rw[htl];omega) λv' CG' ahX=>?_;refine ah.inc (aD.of .tail ⟨i+1,v',CG',S',rfl,η,pQ,λk t hk=>⟨(Ω k t hk).1,λh=>?_,(Ω k t hk).2.2⟩,?_,rfl⟩ (by simp only[bH];omega))
  ·by_cases e:k=i
   ·subst e;rw[μ]at hk;cases hk;exact em
   exact(Ω k t hk).2.1 zO
  rw[xbg,μ,xaz];exact ahX
 obtain rfl:i=V.length:=by omega
 rw[show S.take V.length=S by rw[<-hS.len,xa7]]at hgv;refine⟨λvs H=>∃i:Nat,vs=[ε (i:Int)]/\i<=V.length/\H=CG++rC S X,λvs _=>V.length-bH vs 0,JE.mk ⟨0,rfl,xaL _,rfl⟩,?_⟩;rintro w78 H77 ⟨i,⟨⟩,hi',rfl⟩ gs;refine ha.bL ?_;rw[xar];refine ah.eA (Br.dec (λη=>?_) (λhge=>?_))
 ·obtain⟨s,hs⟩:=hS.get η;have hg:Gw s.v s.w s.l s.m s.n:=hS.q s (xav hs);have hl9:=Sr hS hs;have hmi:=hm i s hs;have inS:∀y∈s.n,y∈CG++rC S X:=λy hy=>xaa _ (LL (xav hs) y hy);have inX:∀y∈X,y∈CG++rC S X:=λy hy=>xaa _ (pN S y hy);have eW:s.l++s.m=MK r i (s.l.length+30):=by rw[hmi.2.1 η];(conv=>lhs;lhs;rw[hmi.1]);exact afr
  have hgi:(S.map λs=>[s.w])[i]? =some [s.w]:=by rw[xaq,hs];rfl
  refine⟨λvs H=>∃j:Nat,vs=[ε (j:Int)]/\j<=s.l.length+30/\H=CG++rC S X,λvs _=>s.l.length+30-bH vs 0,JE.mk ⟨0,rfl,xaL _,rfl⟩,?_⟩;rintro w85 H84 ⟨j,⟨⟩,hj,rfl⟩ gs;refine hgv.Vv hgi (λy hy=>xad _ hy) (hg.YW.bL ?_);rw[eW,xR];refine ah.eA (Br.dec (λQD=>?_) (λQD=>?_))
  ·refine ah.mkP hr zO zO (hgv.Vv hgi (λy hy=>xad _ hy) (hg.YW.ld (by rw[eW];exact Vi QD) inS ?_));refine ah.cM (dh.or false (λ_=>?_) rfl λ_=>?_)
   ·refine ldV ha (hS.v hs) inX (hg.SG.bL (ah.eA (dh.and false (λQC=>?_) rfl λ_=>⟨rfl,by rw[xdX]⟩)));refine ldV ha (hS.v hs) inX (hg.SG.ld (n:=mk r i j) ?_ inS (ah.cM ⟨rfl,by simp⟩));rw[hmi.1];exact Vi (xb5 QC)
   exact Br.no' zI (ah.inc (aD.of (.refl _) ⟨j+1,rfl,QD,rfl⟩ (by simp only[bH];omega)))
  exact ah.inc (aD.of (.refl _) ⟨i+1,rfl,η,rfl⟩ (by simp only[bH];omega))
 obtain⟨S',e,pQ⟩:=toO (X:=X) hS;exact ah.inc (aD.of (.dX e) ⟨r+1,S',rfl,by omega,by omega,pQ,rfl⟩ (by simp only[bH];omega))
end
def aq.abF{P:Program}{H:Hp}{t e:Nat}{z a b c d:zV}{K:zV->Hp->Prop}(h1:P.underlying t=some (.slice e))(h2:dm P e=some 1)(h3:fh P e=some z)(ha:a.oneCell'=true)(hb:b.oneCell'=true)(hc:c.oneCell'=true)(hd:d.oneCell'=true)
 (h:∀x,K (.slice (some ⟨x,0,none⟩) 4 4) ((x,.cells (ψ [[a],[b],[c],[d]]) e zZ)::H)):aq P t 4 [(0,a),(1,b),(2,c),(3,d)] H K:=by
 have one:∀{x:zV},x.oneCell'=true->x.cells=#[x]:=λ{x} hx=>by cases x<;>first|rfl|(simp[Value.oneCell']at hx)
 refine⟨ψ [[a],[b],[c],[d]],e,1,z,h1,h2,h3,by decide,?_,λb _=>h b⟩;have e1:Array.range (4*1)=#[0,1,2,3]:=rfl;simp[Instr.fill,one ha,one hb,one hc,one hd,ψ,e1]
def Cg.fl{c:Cf}{nx n1:Nat}{F F1:FS}{o o1:zL}{x:dr}{r:Rp}(a:Cg c nx F o x r F1 n1 o1):F1.length<=F.length+1:=by
 have hm:∀a:Int,(iJ F a).length<=F.length:=λa=>xbU ..;unfold Cg at a;split at a
 ·split at a
  ·obtain⟨t,e,_,_,_,_,⟨_,_,rfl,_⟩|⟨_,_,rfl,_⟩⟩:=a<;>simp
  obtain⟨_,rfl,_,_⟩:=a;omega
 split at a
 ·obtain⟨_,a⟩:=a;split at a
  ·rcases a with⟨_,_,rfl,_⟩|⟨_,_,rfl,_⟩<;>simp
  obtain⟨_,rfl,_⟩:=a;omega
 split at a
 ·obtain⟨_,_,a⟩:=a;split at a
  ·rw[a.2];have:=hm x.a;omega
  rw[a.2];omega
 rw[a.1];omega
def Rows.one{l:List dr}:∀r∈l.map dr.cells,∀u∈r,u.oneCell'=true:=λr hr=>by
 obtain⟨x,_,rfl⟩:=xal.1 hr;exact x.one
def Rows.agT{l:List Rp}:∀r∈l.map Rp.cells,∀u∈r,u.oneCell'=true:=λr hr=>by
 obtain⟨x,_,rfl⟩:=xal.1 hr;exact x.one
set_option maxHeartbeats 1000000 in
theorem rN{ci:vz}{steps:List dr}{sv:zV}{Y:Hp}(hs:Sl 5 Y sv (steps.map dr.cells))(hok:∀s∈steps,s.Ok)(cB:steps.length<=174762):
  Rd zQ 5 #[.agg ci.cells.toArray,sv] Y (· =.bool true):=by
 refine aJ λg=>Vn λb1 _=>?_;refine ae.eq (HG _) (Un.not (Br.no (aq.none (e:=35) (k:=5) (z:=.agg #[.int .u8 0,ε 0,ε 0,ε 0,χ 0]) zK zK zK λb6=>?_)));have h60:aU 35 5 (.slice (some ⟨b6,0,none⟩) 0 0) [] [(b6,.cells (ψ []) 35 zZ)]:=.inr ⟨b6,[],rfl,rfl,nofun⟩;refine h60.E3 (C:=[(b6,.cells (ψ []) 35 zZ)]) (c:=λX=>X++((b1,.cells ci.cells.toArray 23 zZ)::Y)) (bE.left (C:=[(b6,.cells (ψ []) 35 zZ)])) (hs.mono λy hy=>.tail _ (.tail _ hy)) Rows.one ⟨[.int .u8 0,ε 0,ε 0,ε 0,χ 0],rfl,rfl⟩ zP zP λv10 CK hK=>?_;rw[xbR]at hK;refine aB.q (r:=ci.cells) (ae.fn (.app (.cons .here)) (R1 hs hok cB) ?_);intro wa Ha hA;obtain⟨va,CA,rfl,rfl,hAA⟩:∃(va:zV) (CA:Hp),wa=.tuple #[va,ε (fx ci)]/\Ha=CA++Y/\((fx ci≠0/\va=.slice none 0 0/\CA=[])\/(fx ci=0/\∃(d:Cf) (l:List Rp) (nx:Nat) (F:FS) (o:zL),ci=d.i/\d.Ok/\aU 37 4 va (l.map Rp.cells) CA/\l.length=steps.length/\HR d 0 [] (List.range d.n) steps l nx F o)):=by
  rcases hA with⟨h,rfl,rfl⟩|⟨h,d,l,s,CR,HS,nx,F,o,h1,h2,rfl,rfl,h3,h4,h5⟩
  ·exact⟨_,[],rfl,rfl,.inl ⟨h,rfl,rfl⟩⟩
  exact⟨_,CR,by rw[h],rfl,.inr ⟨h,d,l,nx,F,o,h1,h2,h3,h4,h5⟩⟩
 refine Ext.two (aB.q (r:=ci.cells) (ae.fn (.app (.cons (.app .here))) (R1 hs hok cB) ?_));intro wb Hb hB;obtain⟨vb,CB,rfl,rfl,hBB⟩:∃(vb:zV) (CB:Hp),wb=.tuple #[vb,ε (fx ci)]/\Hb=CB++Y/\((fx ci≠0/\vb=.slice none 0 0/\CB=[])\/(fx ci=0/\∃(d:Cf) (l:List Rp) (nx:Nat) (F:FS) (o:zL),ci=d.i/\d.Ok/\aU 37 4 vb (l.map Rp.cells) CB/\l.length=steps.length/\HR d 0 [] (List.range d.n) steps l nx F o)):=by
  rcases hB with⟨h,rfl,rfl⟩|⟨h,d,l,s,CR,HS,nx,F,o,h1,h2,rfl,rfl,h3,h4,h5⟩
  ·exact⟨_,[],rfl,rfl,.inl ⟨h,rfl,rfl⟩⟩
  exact⟨_,CR,by rw[h],rfl,.inr ⟨h,d,l,nx,F,o,h1,h2,h3,h4,h5⟩⟩
 clear hA hB;refine Ext.two (hs.bL ?_);rw[xar];have inY:∀y∈Y,y∈CK++((b1,.cells ci.cells.toArray 23 zZ)::(CA++(CB++Y))):=λy hy=>xaa _ (.tail _ (xaa _ (xaa _ hy)));have ae8:aO (CK++((b1,.cells ci.cells.toArray 23 zZ)::(CA++(CB++Y)))) Y:=.dX (.skip (.dX .right));refine⟨λvs H=>∃i:Nat,vs=[ε (i:Int)]/\i<=steps.length/\H=CK++((b1,.cells ci.cells.toArray 23 zZ)::(CA++(CB++Y))),λvs _=>steps.length-bH vs 0,JE.mk ⟨0,rfl,xaL _,rfl⟩,?_⟩;rintro w27 H26 ⟨i,⟨⟩,hi,rfl⟩ gs;refine ah.eA (Br.dec (λη=>?_) (λhge=>?_))
 ·obtain⟨x,hx⟩:∃x,steps[i]? =some x:=⟨_,xab η⟩;have YZ:(steps.map dr.cells)[i]? =some x.cells:=by rw[xaq,hx];rfl
  refine ay.sl hs YZ λp hp=>aB.at hp rfl zD inY ?_;refine ay.sl (Sl.iC hK zD) YZ λp hp=>aB.at hp rfl zD (λy hy=>xad _ hy) ?_;refine agL (neq:=true) (a:=x) (b:=x) rfl rfl rfl ?_;exact Br.no' (by rw[dr.eq_self];rfl) (ah.inc (aD.of (.refl _) ⟨i+1,rfl,η,rfl⟩ (by simp only[bH];omega)))
 have Z2:∃(l:List Rp),Sl 4 (CK++((b1,.cells ci.cells.toArray 23 zZ)::(CA++(CB++Y)))) va (l.map Rp.cells)/\Sl 4 (CK++((b1,.cells ci.cells.toArray 23 zZ)::(CA++(CB++Y)))) vb (l.map Rp.cells)/\l.length<9223372036854775807:=by
  rcases hAA with⟨h,rfl,rfl⟩|⟨h,d,l,nx,F,o,h1,h2,h3,h4,h5⟩<;>rcases hBB with⟨h',rfl,rfl⟩|⟨h',d',l',q5,F',o',qs,lZ,vg,h4',h5'⟩
  ·exact⟨[],Sl.nil _ _,Sl.nil _ _,by decide⟩
  ·exact absurd h' h
  ·exact absurd h h'
  obtain rfl:d=d':=Cf.SQ (h1.symm.trans qs);obtain⟨rfl,_⟩:=h5.uniq h5';exact⟨l,(Sl.iC h3 zD).mono λy hy=>xaa _ (.tail _ (xad _ hy)),(Sl.iC vg zD).mono λy hy=>xaa _ (.tail _ (xaa _ (xad _ hy))),by omega⟩
 obtain⟨l0,hsa,hsb,hl0⟩:=Z2;intro J35 h35;refine ah.cM (Split.go (xan (λh=>h rfl)) ?_);refine ae.eh .here (pD hsa hsb hl0) ?_;rw[gI.2 rfl];refine Un.not (aG.mk (Split.go rfl (ah.cM (aG.mk (JE.mk (h35 _ _ λ_=>?_))))));show Br (.bool (decide (fx ci≠0))) _ _;refine Br.dec (λξ=>?_) (λh0=>?_)
 ·intro J39 h39;refine ah.iD (Split.go (xam rfl) (ae.eh .here (pD hsa hsb hl0) ?_));rw[gI.2 rfl];refine aG.mk (JE.mk (h39 _ _ λ_=>?_));exact br.mk ae8 rfl
 have h00:fx ci=0:=xdr.1 h0;clear hsa hsb hl0 l0 h35 ae8 inY hge hi h0 J35;rcases hAA with⟨h,_⟩|⟨_,d,l,nx,F,o,h1,hdO,hA,hl,h5⟩
 ·exact absurd h00 h
 rcases hBB with⟨h,_⟩|⟨_,d',l',q5,F',o',qs,_,hB,hl',h5'⟩
 ·exact absurd h00 h
 obtain rfl:d=d':=Cf.SQ (h1.symm.trans qs);obtain⟨rfl,_⟩:=h5.uniq h5';clear h5 h5' qs hl';subst h1;refine aq.none (e:=37) (k:=4) (z:=.agg #[ε 0,ε 0,χ 0,ε 0]) zK zK zK λAz=>?_;have aiX:aU 37 4 (.slice (some ⟨Az,0,none⟩) 0 0) [] [(Az,.cells (ψ []) 37 zZ)]:=.inr ⟨Az,[],rfl,rfl,nofun⟩;have hbs:Sl 4 ((Az,.cells (ψ []) 37 zZ)::(CK++((b1,.cells d.i.cells.toArray 23 zZ)::(CA++(CB++Y))))) vb (l.map Rp.cells):=(Sl.iC hB zD).mono λy hy=>.tail _ (xaa _ (.tail _ (xaa _ (xad _ hy))));refine aiX.E3 (C:=[(Az,.cells (ψ []) 37 zZ)]) (c:=λX=>X++(CK++((b1,.cells d.i.cells.toArray 23 zZ)::(CA++(CB++Y))))) (bE.left (C:=[(Az,.cells (ψ []) 37 zZ)])) hbs Rows.agT ⟨[ε 0,ε 0,χ 0,ε 0],rfl,rfl⟩ zP zP λv52 CP hP=>?_;rw[xbR]at hP;obtain⟨aa,ac,hva⟩:=hA.len;rw[xar]at hva;rw[hva];refine aP.mk ?_;rw[<-hva];refine⟨λvs H=>∃(i:Nat) (rs:List (List zV)) (CA:Hp),vs=[ε (i:Int)]/\i<=l.length/\rs.length=l.length/\aU 37 4 va rs CA/\H=CP++(CK++((b1,.cells d.i.cells.toArray 23 zZ)::(CA++(CB++Y)))),λvs _=>l.length-bH vs 0,JE.mk ⟨0,_,CA,rfl,xaL _,xar ..,hA,rfl⟩,?_⟩;clear hA;rintro w59 H58 ⟨i,rs,CA,⟨⟩,hi,Aa,hA,rfl⟩ gs;refine ah.eA (Br.dec (λη=>?_) (λhge=>?_))
 ·refine Build.mk (cs:=Rp.cells ⟨0,99,0,0⟩) zK (hA.WA (.app (.app (.cons .left))) zO rfl (Rp.one _) λC' hA'=>?_);exact ah.inc (aD.of (.refl _) ⟨i+1,_,C',rfl,η,by rw[xbE];exact Aa,hA',rfl⟩ (by simp only[bH];omega))
 refine Build.mk (cs:=Rp.cells ⟨0,0,0,0⟩) zK (aq.one (z:=.agg #[ε 0,ε 0,χ 0,ε 0]) (e:=37) (k:=4) (r:=Rp.cells ⟨0,0,0,0⟩) zK zK zK zD rfl λb66=>?_);refine aU.qd (r:=Rp.cells ⟨0,0,0,0⟩) hA (.cons (.app (.app (.cons .left)))) (by exact .head _) rfl (Rp.one _) ⟨[ε 0,ε 0,χ 0,ε 0],rfl,rfl⟩ zO zO λv70 CA' hA'=>?_;refine ae.eh .here (pD (l:=l) (r:=l) ((Sl.iC hB zD).mono λy hy=>.tail _ (xaa _ (xaa _ (.tail _ (xaa _ (xad _ hy)))))) ((Sl.iC hP zD).mono λy hy=>.tail _ (xad _ hy)) zO) ?_;rw[gI.2 rfl];refine Un.not (dh.or false (λ_=>?_) rfl λ_=>?_)
 ·refine hA'.bL ?_;rw[hva];refine aP.mk (ah.AG (c:=(l.length:Int)+1) rfl zO (ah.cM ⟨rfl,?_⟩));rw[xaf,Aa];simp
 refine Br.no (aB.q (r:=d.i.cells) (ae.fn hnew (Dq d.i (Q:=λv H=>∃sp,v=.tuple #[γ sp,ε 0]/\jX sp d 0 [] (List.range d.n) [] H) (λh=>absurd h00 h) λd' dF yF sp kp mb C hK=>?_) ?_))
 ·obtain rfl:d'=d:=Cf.SQ dF.symm;exact⟨sp,rfl,BE hK⟩
 rintro w HS0 ⟨sp,rfl,TS⟩;refine Ext.two (ah.cM (Br.F (hs.bL ?_)));rw[xar];obtain⟨Z,hZ⟩:∃Z:Hp,Z=(b66,Obj.cells (Rp.cells ⟨0,0,0,0⟩).toArray 37 zZ)::(CP++(CK++((b1,.cells d.i.cells.toArray 23 zZ)::(CA'++(CB++Y))))):=⟨_,rfl⟩;have inY:∀y∈Y,y∈Z:=λy hy=>by rw[hZ];exact .tail _ (xaa _ (xaa _ (.tail _ (xaa _ (xaa _ hy)))))
 have hZY:aO Z Y:=by rw[hZ];exact .skip (.dX (.dX (.skip (.dX .right))))
 refine⟨λvs H=>∃(i nx:Nat) (F:FS) (o tr:zL) (HS:Hp),vs=[ε (i:Int)]/\i<=steps.length/\jX sp d nx F o tr HS/\nx<=i/\F.length<=i/\tr.length<=i*69206017/\H=HS++Z,λvs _=>steps.length-bH vs 0,
  JE.mk ⟨0,0,[],_,[],HS0,rfl,xaL _,TS,xai _,xai _,xaL _,by rw[hZ]⟩,?_⟩
 clear TS;rintro w92 H91 ⟨i,nx,F,o,tr,HS,⟨⟩,hi,hS,Ed,hFl,fm,rfl⟩ gs;refine ah.eA (Br.dec (λη=>?_) (λhge=>?_))
 ·obtain⟨x,hx⟩:∃x,steps[i]? =some x:=⟨_,xab η⟩;have hxO:=hok x (xav hx);have YZ:(steps.map dr.cells)[i]? =some x.cells:=by rw[xaq,hx];rfl
  have hf:=hS.T6;refine ay.sl hs YZ λp hp=>aB.at hp rfl zD (λy hy=>xaa _ (inY y hy)) ?_;intro b96 _;refine St.p (r:=x.cells) x.one (aB.q (r:=x.cells) (ae.fn (.cons .left) (Ru hS hdO zO hxO.x zO) ?_));rintro v HS' ⟨r,F',q5,o',cC,rfl,pQ,hb',hD⟩;have a1:=hD.nx;have a2:=hD.fl;exact ah.inc (aD.of .tail ⟨i+1,q5,F',o',cC,HS',rfl,η,pQ,by omega,by omega,by rw[xd1];omega,rfl⟩ (by simp only[bH];omega))
 clear hge;have hn:=hdO.n;obtain⟨_,Cy⟩:=hS.o8;have hh9:(iw (hsN F)).length<=200000:=by
  rw[av];unfold hsN;rw[(me _).length_eq,xar];omega
 have ho9:(iw o).length<=200000:=by rw[av,Cy];omega
 have hF9:F.length<=1099511627776:=by omega
 refine ae.fn .left (oH hS hF9) ?_;rintro hv _ ⟨N1,rfl,o1⟩;refine ae.pre .assoc (ae.fn (.app .left) (wm hS) ?_);rintro ov _ ⟨N2,rfl,o2⟩;refine ae.pre (.cv .assoc _) (ae.fn (.app (.app .left)) (oH hS hF9) ?_);rintro gv _ ⟨N3,rfl,o3⟩;refine ae.pre (.cv (.cv .assoc _) _) (ae.fn (.app (.app (.app .left))) (wm hS) ?_);rintro pv _ ⟨N4,rfl,o4⟩;refine ae.pre (.cv (.cv (.cv .assoc _) _) _) (ae.fn .here (Dg (o1.ints.mono λy hy=>xad _ hy) zO) ?_);rintro h2 _ ⟨T1,rfl,q1⟩;refine ae.fn .here (Dg (o2.ints.mono λy hy=>xaa _ (xaa _ (xad _ hy))) zO) ?_;rintro o2v _ ⟨T2,rfl,q2⟩;refine ae.fn (.app (.app .left)) (Ls o1 zO) ?_;rintro _ N1' ⟨l1,Cz,o1'⟩;refine ae.fn (.app (.app (.app .left))) (Ls o2 zO) ?_;rintro _ N2' ⟨l2,q8,o2'⟩;intro aoN aiZ;refine ae.eh .here (sb (o3.ints.mono λy hy=>xaa _ (xaa _ (xaa _ (xaa _ (xad _ hy))))) (q1.ints.mono λy hy=>xaa _ (xad _ hy)) zO) (Split.go (xam rfl) ?_);refine ae.eh .here (sb (o4.ints.mono λy hy=>xaa _ (xaa _ (xaa _ (xaa _ (xaa _ (xad _ hy)))))) (q2.ints.mono λy hy=>xad _ hy) zO) (aG.mk (Split.go (xam rfl) ?_));refine ae.fn (.app (.app (.app (.app (.app (.app .left)))))) (oH hS hF9) ?_;rintro alV _ ⟨N5,rfl,o5⟩;refine ae.eh .here (sb (o5.ints.mono λy hy=>xaa _ (xaa _ (xaa _ (xaa _ (xaa _ (xaa _ (xad _ (xad _ hy)))))))) (q1.ints.mono λy hy=>xaa _ (xad _ hy)) zO) (aG.mk (Split.go (xam rfl) ?_));refine ae.pre (.cv (.cv (.cv (.cv (.cv (.cv .assoc _) _) _) _) _) _) (ae.fn (.app (.app (.app (.app (.app (.app (.app .left))))))) (wm hS) ?_);rintro alU _ ⟨N6,rfl,o6⟩;refine ae.eh .here (sb (o6.ints.mono λy hy=>xaa _ (xaa _ (xaa _ (xaa _ (xaa _ (xaa _ (xaa _ (xad _ (xad _ hy))))))))) (q2.ints.mono λy hy=>xad _ hy) zO) (aG.mk (Split.go (xam rfl) ?_));refine aq.abF (e:=43) (z:=.slice none 0 0) zK zK zK o1'.one o2'.one o3.one o4.one λbx=>?_;obtain⟨R,hR⟩:∃R:Hp,R=N5++((N6++HS)++Z):=⟨_,rfl⟩;have hRY:aO R Y:=by rw[hR];exact .dX (.dX hZY)
 rw[<-hR];refine ae.pre (H':=rC [⟨hv,hv,l1,[],N1'⟩,⟨ov,ov,l2,[],N2'⟩,⟨gv,gv,iw (hsN F),[],N3⟩,⟨pv,pv,iw o,[],N4⟩] [(bx,.cells (ψ [[hv],[ov],[gv],[pv]]) 43 zZ)]++R) ?_ (ae.fn .left (UU (V:=[hv,ov,gv,pv]) (lens:=[l1.length,l2.length,(iw (hsN F)).length,(iw o).length]) ⟨rfl,rfl,λs hs=>?_⟩ ?_ zI λn hn=>?_) ?_)
 ·refine(aO.cons (.dX .right)).trans (.perm ?_);show List.Perm _ ((N1'++(N2'++(N3++(N4++[(bx,_)]))))++R);simp only[xag];refine xaO.symm.trans (xbB _ ?_);refine xaO.symm.trans (xbB _ ?_);refine xaO.symm.trans (xbB _ ?_);exact xaO.symm
 ·simp only[xak,xaQ,xbi]at hs;rcases hs with rfl|rfl|rfl|rfl
  ·exact o1'
  ·exact o2'
  ·exact o3
  exact o4
 ·refine(Sl.iC (aU.made (T:=43) (k:=1) (b:=bx) [[hv],[ov],[gv],[pv]] zI) zD)
 ·simp only[xak,xaQ,xbi]at hn;rcases hn with rfl|rfl|rfl|rfl<;>omega
 rintro alT C9 rfl;refine aG.mk (JE.mk (aiZ _ _ λ_=>?_));exact br.mk (.dX hRY) rfl
section
open Go.ChangeShapes Go.WideShapes Go.Deep
variable {H:Type} {enc:TypeId×zV->H} {W:World} {base:Nat} {spare:Nat->Bool} {held:Bool}
variable{cs:List zV}{x:DataW H×List MemPlace}
def OP{fuel:Nat}(hl:cs.length=5)(h:DataW.trod enc zQ W base spare held fuel 23 cs=some x):∃c:vz,cs=c.cells/\c.str<256:=by
 obtain⟨xs,n,_,_,_,hx,hf⟩:=DataW.trod_struct Tryz.underlying23 h
 match cs,hl with
 | [c0,c1,c2,c3,c4],_=>
  have hx5:xs.length=5:=hx;have uf:Tryz.prog.cellsOf 3=1:=by kernel_rfl
  have BB:Tryz.prog.cellsOf 5=1:=by kernel_rfl
  have g0:DataW.trod enc zQ W base spare held n 3 (List.take (Tryz.prog.cellsOf 3) [c0,c1,c2,c3,c4])=xs[0]? :=hf 0 _ rfl;have g1:DataW.trod enc zQ W base spare held n 3 (List.take (Tryz.prog.cellsOf 3) [c1,c2,c3,c4])=xs[1]? :=hf 1 _ rfl;have g2:DataW.trod enc zQ W base spare held n 5 (List.take (Tryz.prog.cellsOf 5) [c2,c3,c4])=xs[2]? :=hf 2 _ rfl;have g3:DataW.trod enc zQ W base spare held n 3 (List.take (Tryz.prog.cellsOf 3) [c3,c4])=xs[3]? :=hf 3 _ rfl;have g4:DataW.trod enc zQ W base spare held n 3 (List.take (Tryz.prog.cellsOf 3) [c4])=xs[4]? :=hf 4 _ rfl;rw[uf,xab zO]at g0;rw[uf,xab zO]at g1;rw[BB,xab zO]at g2;rw[uf,xab zO]at g3;rw[uf,xab zO]at g4;simp only[xej,xep]at g0 g1 g2 g3 g4;obtain⟨n0,e0,_,w0⟩:=DataW.trod_int Tryz.underlying3 g0;obtain⟨n1,e1,_,w1⟩:=DataW.trod_int Tryz.underlying3 g1;obtain⟨n2,e2,_,w2⟩:=DataW.trod_int Tryz.underlying5 g2;obtain⟨n3,e3,_,w3⟩:=DataW.trod_int Tryz.underlying3 g3;obtain⟨n4,e4,_,w4⟩:=DataW.trod_int Tryz.underlying3 g4;have b0:=bounds_i64 w0;have b1:=bounds_i64 w1;have b2:=bounds_u8 w2;have b3:=bounds_i64 w3;have b4:=bounds_i64 w4;simp only[xaw,xaW]at e0 e1 e2 e3 e4;have z2:((n2.toNat:Nat):Int)=n2:=by omega
  exact⟨⟨n0,n1,n2.toNat,n3,n4⟩,by unfold vz.cells;simp only;rw[e0,e1,e2,e3,e4,z2],by simp only;omega⟩
def FX{fuel:Nat}(hl:cs.length=5)(h:DataW.trod enc zQ W base spare held fuel 35 cs=some x):∃s:dr,cs=s.cells/\s.Ok:=by
 obtain⟨xs,n,_,_,_,hx,hf⟩:=DataW.trod_struct Tryz.underlying35 h
 match cs,hl with
 | [c0,c1,c2,c3,c4],_=>
  have hx5:xs.length=5:=hx;have uf:Tryz.prog.cellsOf 3=1:=by kernel_rfl
  have Sz:Tryz.prog.cellsOf 33=1:=by kernel_rfl
  have BB:Tryz.prog.cellsOf 5=1:=by kernel_rfl
  have g0:DataW.trod enc zQ W base spare held n 5 (List.take (Tryz.prog.cellsOf 5) [c0,c1,c2,c3,c4])=xs[0]? :=hf 0 _ rfl;have g1:DataW.trod enc zQ W base spare held n 3 (List.take (Tryz.prog.cellsOf 3) [c1,c2,c3,c4])=xs[1]? :=hf 1 _ rfl;have g2:DataW.trod enc zQ W base spare held n 3 (List.take (Tryz.prog.cellsOf 3) [c2,c3,c4])=xs[2]? :=hf 2 _ rfl;have g3:DataW.trod enc zQ W base spare held n 3 (List.take (Tryz.prog.cellsOf 3) [c3,c4])=xs[3]? :=hf 3 _ rfl;have g4:DataW.trod enc zQ W base spare held n 33 (List.take (Tryz.prog.cellsOf 33) [c4])=xs[4]? :=hf 4 _ rfl;rw[BB,xab zO]at g0;rw[uf,xab zO]at g1;rw[uf,xab zO]at g2;rw[uf,xab zO]at g3;rw[Sz,xab zO]at g4;simp only[xej,xep]at g0 g1 g2 g3 g4;obtain⟨n0,e0,_,w0⟩:=DataW.trod_int Tryz.underlying5 g0;obtain⟨n1,e1,_,w1⟩:=DataW.trod_int Tryz.underlying3 g1;obtain⟨n2,e2,_,w2⟩:=DataW.trod_int Tryz.underlying3 g2;obtain⟨n3,e3,_,w3⟩:=DataW.trod_int Tryz.underlying3 g3;obtain⟨n4,e4,_,w4⟩:=DataW.trod_int Tryz.underlying33 g4;have b0:=bounds_u8 w0;have b1:=bounds_i64 w1;have b2:=bounds_i64 w2;have b3:=bounds_i64 w3;have b4:=bounds_u64 w4;simp only[xaw,xaW]at e0 e1 e2 e3 e4;have z0:((n0.toNat:Nat):Int)=n0:=by omega
  have z4:((n4.toNat:Nat):Int)=n4:=by omega
  exact⟨⟨n0.toNat,n1,n2,n3,n4.toNat⟩,by simp only[dr.cells,χ];rw[e0,e1,e2,e3,e4,z0,z4],⟨by simp only;omega,by simp only;omega,by simp only;omega,by simp only;omega,by simp only;omega⟩⟩
def Rv{fuel:Nat}(h:DataW.trod enc zQ W base spare held fuel 35 cs=some x):∃ps,x.1=.agg ps/\ps.length=5:=by obtain⟨xs,n,_,rfl,_,hx,_⟩:=DataW.trod_struct Tryz.underlying35 h;exact⟨_,rfl,by rw[xar];exact hx⟩
def abE{v:zV}{d:DataW H}{ps:List MemPlace}(h:DataW.Trod enc zQ W base spare held 23 v d ps)(hv:∃cs,v=.agg cs/\cs.size=Tryz.prog.cellsOf 23):∃c:vz,v=.agg c.cells.toArray/\c.str<256:=by obtain⟨fuel,hf⟩:=h;obtain⟨cs,rfl,hsz⟩:=hv;rw[show Tryz.prog.cellsOf 23=5 by kernel_rfl]at hsz;obtain⟨l⟩:=cs;obtain⟨s,hs,hok⟩:=OP (cs:=l) hsz hf;subst hs;exact⟨s,rfl,hok⟩
def Nn{v:zV}{d:DataW H}{ps:List MemPlace}(h:DataW.Trod enc zQ W base spare held 24 v d ps)(hv:∃a n c,v=.slice a n c):
  ∃steps:List dr,Sl 5 (whole W) v (steps.map dr.cells)/\(∀s∈steps,s.Ok)/\((∀n∈d.weights zQ 24,n<=reachBytes)->steps.length<4398046511104)/\(steps.length=0\/∃es sp,d=.slice es sp/\steps.length=es.length/\∀e∈es,∃ps,e=.agg ps/\ps.length=5):=by
 obtain⟨fuel,hf⟩:=h;have k5:Tryz.prog.cellsOf 35=5:=by kernel_rfl
 obtain⟨v',rs,hcs,Y9,hw,hr⟩:=M6 Tryz.underlying24 k5 zD hf;have Od:v'=v:=by
  obtain⟨a,n,c,rfl⟩:=hv;simpa[Value.cells]using hcs.symm
 subst Od;have hone:∀r∈rs,∃s:dr,r=s.cells/\s.Ok:=λr hm=>by
  obtain⟨i,hi,e⟩:=xbc.1 hm;obtain⟨f,y,_,_,hy,_⟩:=hr i r (by rw[xab hi,e]);exact FX (Y9.1 r hm) hy
 have hex:∃steps:List dr,rs=steps.map dr.cells/\∀s∈steps,s.Ok:=by
  clear Y9 hw hr hcs;induction rs with
  |nil=>exact⟨[],rfl,by simp⟩
  |cons r rest ih=>
   obtain⟨l,h1,h2⟩:=ih λr hm=>hone r (by simp[hm]);obtain⟨s,h3,h4⟩:=hone r zI;exact⟨s::l,by simp[h1,h3],λm hm=>by rcases xak.1 hm with rfl|hm;exact h4;exact h2 m hm⟩
 obtain⟨steps,rfl,hok⟩:=hex;refine⟨steps,Y9,hok,λaH=>?_,?_⟩;rotate_left
 ·rcases hw with⟨h1,_⟩|⟨es,sp,h1,h2⟩
  ·exact .inl (by simpa using xch List.length h1)
  rw[xar]at h2;refine .inr ⟨es,sp,h1,h2.symm,λe he=>?_⟩;obtain⟨i,hi,rfl⟩:=xbc.1 he;obtain⟨f,y,ic,sp2,hy,GN,hy2⟩:=hr i _ (xab (by rw[xar];omega));have:es=ic:=by
   have e:=h1.symm.trans GN;simp only[DataW.slice.injEq]at e;exact e.1
  subst this;rw[xab hi]at hy2;obtain⟨ps,h5,h6⟩:=Rv hy;exact⟨ps,(xbb hy2).trans h5,h6⟩
 rcases hw with⟨h1,_⟩|⟨es,sp,h1,h2⟩
 ·have:steps=[]:=by simpa using h1
  subst this;simp
 simp only at h1;have:=aH ((es.length+sp.length)*Tryz.prog.bytesOf 35) (by rw[h1,DataW.weights,Tryz.underlying24];exact xbA ..);rw[show Tryz.prog.bytesOf 35=40 by kernel_rfl]at this;have h3:reachBytes=140737488351232:=rfl;rw[xar]at h2;omega
end
end
end Go.Proofs
namespace Go.Proofs.YtflhdclplgjbbaaGreat.Zz
theorem one_le{H:Type}(d:DataW H):1<=Rows.uptoBulk d:=by
 cases d with
 |lit l=>cases l<;>simp[Rows.uptoBulk]
 |nil=>simp[Rows.uptoBulk]
 |ptr d=>simp[Rows.uptoBulk]
 |slice elems spare=>simp[Rows.uptoBulk]
 |agg parts=>simp[Rows.uptoBulk]
 |iface t d=>simp[Rows.uptoBulk]
 |map entries=>simp[Rows.uptoBulk]
 |held h=>simp[Rows.uptoBulk]
def WI{H:Type}{d:DataW H}{l:List (DataW H)}(h:d∈l):Rows.uptoBulk d<=Rows.uptoBulkAll l:=by
 induction l with
 |nil=>cases h
 |cons x r ih=>
  simp only[Rows.uptoBulkAll];cases xak.1 h with
  |inl e=>subst e;omega
  |inr e=>have:=ih e;omega
variable{H:Type}
def append(l r:List (DataW H)):Rows.uptoBulkAll (l++r)=Rows.uptoBulkAll l+Rows.uptoBulkAll r:=by
 induction l with
 |nil=>simp[Rows.uptoBulkAll]
 |cons x l ih=>simp only[xaS,Rows.uptoBulkAll,ih];omega
def length_le(l:List (DataW H)):l.length<=Rows.uptoBulkAll l:=by
 induction l with
 |nil=>simp[Rows.uptoBulkAll]
 |cons x r ih=>have:=one_le x;simp only[Rows.uptoBulkAll,xax];omega
def Dr(elems spare:List (DataW H)):Rows.uptoBulkAll elems+1<=Rows.uptoBulk (.slice elems spare):=by simp only[Rows.uptoBulk];omega
def bound{l:List (DataW H)}(hk:Rows.uptoSmall H l=true):Rows.uptoBulkAll l<=1048576:=by simpa[Rows.uptoSmall]using hk
def ajl{es:List (DataW H)}(h:∀e∈es,∃ps,e=.agg ps/\ps.length=5):6*es.length<=Rows.uptoBulkAll es:=by
 induction es with
 |nil=>simp[Rows.uptoBulkAll]
 |cons x r ih=>
  obtain⟨ps,rfl,h5⟩:=h x zI;have h1:=ih λe he=>h e (by simp[he]);have h2:=length_le ps;simp only[Rows.uptoBulkAll,Rows.uptoBulk,xax];omega
def ZZ{ds:List (DataW H)}(hk:Rows.uptoSmall H ds=true){d:DataW H}(hd:d∈ds){n:Nat}(h:n=0\/∃es sp,d=.slice es sp/\n=es.length/\∀e∈es,∃ps,e=.agg ps/\ps.length=5):n<=174762:=by
 rcases h with rfl|⟨es,sp,rfl,rfl,h⟩
 ·omega
 have h1:=bound hk;have h2:=WI hd;have h3:=Dr es sp;have h4:=ajl h;omega
end Go.Proofs.YtflhdclplgjbbaaGreat.Zz
