import Derived.Test.YtmngikblgfodnaaGreatDoorH5
import Derived.Test.YtmngikblgfodnaaGreatDoorH4
import Derived.Test.YtmngikblgfodnaaGreatDoorH2
import Derived.Test.YtmngikblgfodnaaGreatDoorH3
import Derived.Laws.StructEq
import Derived.ChangeKeysEq
import Derived.Lib.LaidTab
import GoSem.ClaimJoined
set_option linter.unusedVariables false
set_option linter.unusedSimpArgs false
set_option linter.unusedSectionVars false
set_option maxRecDepth 100000
namespace Go.Proofs
open Go Go.Sx Tryz
section
open Fm Sw
section
variable {v:zV} {B:Hp}
theorem PC{s0 s1 s2 s3:List UInt8}(hv:Sl 1 B v [[aq s0],[aq s1],[aq s2],[aq s3]])(h0:s0≠[])(hl:s0.length<=100/\s1.length<=100/\s2.length<=100/\s3.length<=100):Rd zQ 109 #[v,aq [32]] B (λr=>∃t,r=aq t):=by
 refine aK λg=>HG (hv.bE (ae.bB (a:=4) (b:=0) (Br.F (ae.bB (a:=4) (b:=1) (Br.F ?_)))));intro J6 h6;have get:∀i:Nat,i<4->∃s:List UInt8,[[aq s0],[aq s1],[aq s2],[aq s3]][i]? =some [aq s]/\s.length<=100:=λi hi=>by
  have:i=0\/i=1\/i=2\/i=3:=by omega
  rcases this with rfl|rfl|rfl|rfl
  ·exact⟨s0,rfl,hl.1⟩
  ·exact⟨s1,rfl,hl.2.1⟩
  ·exact⟨s2,rfl,hl.2.2.1⟩
  exact⟨s3,rfl,hl.2.2.2⟩
 have main:J6 [nI 3] B:=by
  refine h6 _ _ λ_=>hv.bE ?_;refine⟨λvs H=>∃i n:Nat,vs=[nI n,nI i]/\i<=4/\n=3+(([s0,s1,s2,s3].take i).map List.length).sum/\H=B,λvs _=>4-bA vs 1,JE.mk ⟨0,3,rfl,by decide,rfl,rfl⟩,?_⟩;rintro w15 w16 H ⟨i,n,⟨⟩,hi,hn,rfl⟩ gs;have hn4:n<=403:=by
   have:i=0\/i=1\/i=2\/i=3\/i=4:=by omega
   rcases this with rfl|rfl|rfl|rfl|rfl<;>simp at hn<;>omega
  refine ae.cX (b:=4) (Br.dec (λhlt=>?_) (λhge=>?_))
  ·obtain⟨s,hs,IT⟩:=get i hlt;have hs':[s0,s1,s2,s3][i]? =some s:=by
    have:i=0\/i=1\/i=2\/i=3:=by omega
    rcases this with rfl|rfl|rfl|rfl<;>(simp only[xch,xdS,xas,xaz,xbb,aq,Value.string.injEq,ByteArray.mk.injEq]at hs⊢;simpa using hs)
   refine ah.sl hv hs λp hp=>Ld.at hp (λy hy=>hy) ?_;intro J20 h20;refine aN.of (ae.gD (a:=9223372036854775807) (by simp[aS]) zO (ae.gW (Br.F (JE.mk (h20 _ λ_=>?_)))));refine aN.of (ae.dX (by simp only[aS];omega) (ae.inc (az.of (.refl _) ⟨i+1,n+s.length,rfl,hlt,?_,rfl⟩ (by simp only[bA];omega))));rw[xbv,hs',hn,xaB,List.sum_append];simp only[xdO,xaM,xcL,List.sum_cons,List.sum_nil];omega
  have:i=4:=by omega
  subst this;have hs0:=xb7.2 h0;have hnv:n=3+(s0.length+(s1.length+(s2.length+s3.length))):=by simpa using hn
  intro YA _;refine aa.fn (.left (C:=[_])) (CG (n:=n) zO) ?_;rintro _ C ⟨c,hc,hB⟩;refine ah.sl (hv.mono (B':=C++H) λy hy=>xaa _ hy) (i:=0) (r:=[aq s0]) rfl λp hp=>Ld.at hp (λy hy=>hy) ?_;refine aa.fn .left (kE hB s0 zP) ?_;intro _ C1 SD;rw[xa6]at SD;refine cP.tail (hv.mono (B':=H) λy hy=>hy) λv' n4=>n4.bE ?_;refine⟨λvs X=>∃(i:Nat) (l:List UInt8) (C:Hp),vs=[nI i]/\i<=3/\l.length=s0.length+i+(([s1,s2,s3].take i).map List.length).sum/\xg YA l c C/\X=C++H,λvs _=>3-bA vs 0,JE.mk ⟨0,s0,C1,rfl,by decide,by simp,SD,rfl⟩,?_⟩;rintro w45 X ⟨j,l,C2,⟨⟩,hj,nM,QD,rfl⟩ gs2;refine ae.cX (b:=3) (Br.dec (λhlt=>?_) (λae0=>?_))
  ·have afT:∃s:List UInt8,[[aq s1],[aq s2],[aq s3]][j]? =some [aq s]/\l.length+1+s.length<=n/\s0.length+(j+1)+(([s1,s2,s3].take (j+1)).map List.length).sum=l.length+1+s.length:=by
    have:j=0\/j=1\/j=2:=by omega
    rcases this with rfl|rfl|rfl
    ·exact⟨s1,rfl,by simp at nM;omega,by simp at nM⊢;omega⟩
    ·exact⟨s2,rfl,by simp at nM;omega,by simp at nM⊢;omega⟩
    exact⟨s3,rfl,by simp at nM;omega,by simp at nM⊢;omega⟩
   obtain⟨s,hs,hle,hsum⟩:=afT;refine ah.sl (n4.mono (B':=C2++H) λy hy=>xaa _ hy) hs λp hp=>Ld.at hp (λy hy=>hy) ?_;refine aa.fn .left (kE QD [32] zP) ?_;intro _ C3 tA;refine aa.fn .left (kE tA s zP) ?_;intro _ C4 Yk;exact ae.inc (az.of (.refl _) ⟨j+1,_,C4,rfl,hlt,by rw[hsum];simp;omega,Yk,rfl⟩ (by simp only[bA];omega))
  have:j=3:=by omega
  subst this;have hl3:l.length=s0.length+3+(s1.length+(s2.length+s3.length)):=by simpa using nM
  refine aa.fn (args:=#[bf YA]) .left (ng QD (by intro e;rw[e]at hl3;simp at hl3;omega) zO) ?_;rintro _ C3 ⟨rfl,_⟩;exact bD.mk .right ⟨_,rfl⟩
 refine aN.of (ae.gW (a:=1) (b:=0) (Br.T ?_));intro J58 h58;refine aN.of (hv.bE (ae.gD (a:=4) (b:=1) zD zD (ae.qm (a:=9223372036854775807) (b:=3) (by simp[aS]) zD (ae.kM (a:=1) (Br.F (JE.mk (h58 _ λ_=>?_)))))));exact aN.of (hv.bE (ae.gD (a:=4) (b:=1) zD zD (ae.mI (a:=1) (b:=3) zD (ae.dX (a:=0) (b:=3) zD (JE.mk main)))))
end
end
section
open aC
section
variable {kp mb b1 b9 c9 c1 c3 LN:Nat} {K:Kd} {S:Nat->aC.Fn} {ord ag tr:zL} {C Z:Hp}
abbrev DE:Nat:=18446744073709551616
abbrev u64(x:Nat):zV:=.int .u64 (x:Int)
theorem vi(h:cT kp K S ord ag tr C){r:Nat}{d:Nd}(hd:K.N r=some d):Rd zQ 134 #[ptr kp,u32 r] C (· =.agg (bH d).toArray):=Ty (vj (X:=[]) h hd)
theorem Cz(h:cT kp K S ord ag tr C){X:Hp}{r b:Nat}(hm:(b,Obj.cells (aA .u32 [(r:Int)]) 80 zZ)∈X)(hr:live K.N r):Rd zQ 132 #[ptr kp,.slice (some ⟨b,0,none⟩) 1 1] (X++C) (· =iv 0):=
 Ty (vp (X:=X) (rs:=[r]) h (er.block (xad _ hm) zI) (λx hx=>by rw[xaG.1 hx];exact hr) zI)
def cw(K:Kd)(ag:zL)(S:Nat->aC.Fn)(r:Nat):Nat:=sat K.n (S r) /2^dep K.n (lv ag) K.N r
theorem qq(h:cT kp K S ord ag tr C){r:Nat}(hr:r<2):cw K ag S r=r:=by
 have hi:=h.ok.mid.int;have h0:K.N r=none:=by
  cases hN:K.N r with
  |none=>rfl
  |some d=>have:=h.ok.mid.two hN;omega
 unfold cw;rw[bj h0];have:r=0\/r=1:=by omega
 rcases this with rfl|rfl
 ·rw[show S 0=λ_=>false from funext hi.zero,qY,Nat.zero_div]
 rw[show S 1=λ_=>true from funext hi.one,sat_true,Nat.div_self (xbK _)]
theorem Rl(h:cT kp K S ord ag tr C):∀(k r:Nat),K.n-dep K.n (lv ag) K.N r<=k->live K.N r->cw K ag S r*2^dep K.n (lv ag) K.N r=sat K.n (S r)/\
  (∀d,K.N r=some d->cw K ag S r=cw K ag S d.lo*2^(dep K.n (lv ag) K.N d.lo-lv ag d.v-1)+cw K ag S d.hi*2^(dep K.n (lv ag) K.N d.hi-lv ag d.v-1)):=by
 have hi:=h.ok.mid.int;intro k;induction k with
 |zero=>
  intro r hk hr;cases hN:K.N r with
  |some d=>
   rw[ay hN]at hk;have:=h.ok.lv.lt _ (h.ok.mid.var hN);omega
  |none=>
   have h2:r<2:=by
    rcases hr with hr|⟨d,e⟩
    ·exact hr
    rw[hN]at e;cases e
   refine⟨?_,λd hd=>by cases hd⟩;rw[qq h h2,bj hN];have:r=0\/r=1:=by omega
   rcases this with rfl|rfl
   ·rw[show S 0=λ_=>false from funext hi.zero,qY,xdK]
   rw[show S 1=λ_=>true from funext hi.one,sat_true,xdD]
 |succ k ih=>
  intro r hk hr;cases hN:K.N r with
  |none=>
   rw[bj hN]at*;have h2:r<2:=by
    rcases hr with hr|⟨d,e⟩
    ·exact hr
    rw[hN]at e;cases e
   refine⟨?_,λd hd=>by cases hd⟩;rw[qq h h2];have:r=0\/r=1:=by omega
   rcases this with rfl|rfl
   ·rw[show S 0=λ_=>false from funext hi.zero,qY,xdK]
   rw[show S 1=λ_=>true from funext hi.one,sat_true,xdD]
  |some d=>
   have hlo:=h.ok.wf.lo hN;have hhi:=h.ok.wf.hi hN;have hvl:=h.ok.lv.lt _ (h.ok.mid.var hN);have e1:=ay (n:=K.n) (ag:=lv ag) hN;have q:=OI h.ok.wf h.ok.lv hi hN (h.ok.mid.var hN) (ih d.lo zO hlo.1).1 (ih d.hi zO hhi.1).1;have e2:cw K ag S r=cw K ag S d.lo*2^(dep K.n (lv ag) K.N d.lo-lv ag d.v-1)+cw K ag S d.hi*2^(dep K.n (lv ag) K.N d.hi-lv ag d.v-1):=by
    show sat K.n (S r) /_=_;rw[<-q,Nat.mul_div_cancel _ (xbK _)]
   exact⟨by rw[e2];exact q,λd' hd=>by cases hd;exact e2⟩
theorem qW(h:cT kp K S ord ag tr C){r:Nat}(hr:live K.N r)(h1:(b1,Obj.cells #[ptr kp] 41 zZ)∈Z):
  Rd zQ 135 #[u32 r,ptr b1] (Z++C) (· =iv ((dep K.n (lv ag) K.N r:Nat):Int)):=by
 have uV:=xad C h1;refine aK λg=>Hg (aa.eq (nT r _) (Br.mk (λhb=>?_) (λhb=>?_)))
 ·have h2:r<2:=xcz hb;refine Ld.mk uV rfl ?_;refine aa.eq (mO h.rep) (bD.mk (.refl _) ?_);have h0:K.N r=none:=by
   cases hN:K.N r with
   |none=>rfl
   |some d=>have:=h.ok.mid.two hN;omega
  rw[bj h0]
 have h2:¬r<2:=of_decide_eq_false hb;obtain⟨d,hN⟩:∃d,K.N r=some d:=by
  rcases hr with hr|hr
  ·omega
  exact hr
 have tc:=h.ok.mid.var hN;refine DR.of (.refl _) (Ld.mk uV rfl ?_);refine Ld.mk uV rfl ?_;intro F;refine aa.eq (args:=#[ptr kp,u32 r]) (vi h hN) (⟨.refl _,?_⟩);refine wx.mk (off:=0) (cs:=(bH d).toArray) (v:=iv (d.v:Int)) rfl ?_;intro F;refine aa.eq (args:=#[ptr kp,iv (d.v:Int)]) (xW h.rep _) (⟨.refl _,?_⟩);rw[xae ⟨by omega,by omega⟩];refine Ext.two (bD.mk (.refl _) ?_);rw[ay hN];rfl
theorem y5(a k:Nat):((a%DE)<<<k)%DE=(a*2^k)%DE:=by
 rw[xdk,Nat.mod_mul_mod]
theorem Tu(h:cT kp K S ord ag tr C){r:Nat}{d:Nd}(hN:K.N r=some d)(h1:(b1,Obj.cells #[ptr kp] 41 zZ)∈Z)(h9:(b9,Obj.cells #[.func (.func 135) #[] #[ptr b1]] 204 zZ)∈Z):
  Rd zQ 138 #[.agg (bH d).toArray,u64 (cw K ag S d.lo%DE),u64 (cw K ag S d.hi%DE),ptr b1,ptr b9] (Z++C) (· =u64 (cw K ag S r%DE)):=by
 have uV:=xad C h1;have h9':=xad C h9;have tc:=h.ok.mid.var hN;have hlo:=h.ok.wf.lo hN;have hhi:=h.ok.wf.hi hN;have hn:=h.at'.sU;have hdl:=h.ok.wf.gI h.ok.lv d.lo;have hdh:=h.ok.wf.gI h.ok.lv d.hi;refine aK λg=>He λc1 _=>?_;refine Ld.mk (.tail _ uV) rfl ?_;refine Ld.f (v:=iv (d.v:Int)) (aa.eq (xW h.rep _) ?_);rw[xae ⟨by omega,by omega⟩];refine Ext.two (DR.of (.refl _) (Ld.mk (.tail _ h9') rfl ?_));refine Ld.f (v:=u32 d.lo) (Ld.mk (.tail _ h9') rfl ?_);refine Ld.f (v:=u32 d.hi) λF=>?_;refine bK.of rfl zK (aa.eq (args:=#[u32 d.lo,ptr b1]) (qW (Z:=Z) h hlo.1 h1) (⟨.refl _,?_⟩));rw[xbI];show ae _ _ (iv ((dep K.n (lv ag) K.N d.lo:Nat):Int)) (iv ((lv ag d.v:Nat):Int)) _;refine ae.cc (ae.cc (b:=1) (ae.sP λF=>(bK.of rfl zK (aa.eq (args:=#[u32 d.hi,ptr b1]) (qW (Z:=Z) h hhi.1 h1) ?_))));show ae _ _ (iv ((dep K.n (lv ag) K.N d.hi:Nat):Int)) (iv ((lv ag d.v:Nat):Int)) _;refine ae.cc (ae.cc (b:=1) (ae.sP (ae.af9 (bD.mk .tail ?_))));rw[y5,y5,<-Nat.add_mod,(Rl h K.n r (xdP _ _) (.inr ⟨d,hN⟩)).2 d hN]
structure KnS(K:Kd)(ag:zL)(S:Nat->aC.Fn)(es:Array MapEntry)(ck:Nat)(m:List (Nat×Nat)):Prop where
 dL:aT kr (λv (x:Nat)=>v=u64 x) es ck m
 val:∀r x,bO m r=some x->x=cw K ag S r%DE
 low:∀r,r<2->bO m r≠none
theorem J4(h:cT kp K S ord ag tr C)(h9:(c9,Obj.cells #[.map (some mb)] 246 zZ)∈Z)(h1:(c1,Obj.cells #[ptr kp] 41 zZ)∈Z)(h3:(c3,Obj.cells #[.func (.func 138) #[] #[ptr b1,ptr b9]] 217 zZ)∈Z)
 (h12:(LN,Obj.cells #[.func (.func 168) #[] #[ptr c9,ptr c1,ptr c3,ptr LN]] 247 zZ)∈Z)(Zl:(b1,Obj.cells #[ptr kp] 41 zZ)∈Z)(hb9:(b9,Obj.cells #[.func (.func 135) #[] #[ptr b1]] 204 zZ)∈Z):
  ∀(k r:Nat) (es:Array MapEntry) (ck:Nat) (m:List (Nat×Nat)),K.n-dep K.n (lv ag) K.N r<=k->live K.N r->KnS K ag S es ck m->
  Fc zQ 168 #[u32 r,ptr c9,ptr c1,ptr c3,ptr LN] ((mb,.map es ck)::(Z++C)) (λv H=>v=u64 (cw K ag S r%DE)/\∃es' cC m',H=(mb,.map es' cC)::(Z++C)/\KnS K ag S es' cC m'):=by
 have hit:∀{r:Nat} {es:Array MapEntry} {ck:Nat} {m:List (Nat×Nat)} {x:Nat},KnS K ag S es ck m->bO m r=some x->
   Fc zQ 168 #[u32 r,ptr c9,ptr c1,ptr c3,ptr LN] ((mb,.map es ck)::(Z++C)) (λv H=>v=u64 (cw K ag S r%DE)/\∃es' cC m',H=(mb,.map es' cC)::(Z++C)/\KnS K ag S es' cC m'):=by
  intro r es ck m x hm hv;refine aK λg=>wm (Ld.mk (v:=.map (some mb)) (.tail _ (xad _ h9)) rfl ?_);refine hm.dL.hit (k:=r) gi (b:=mb) (by exact .head _) hv λv' e=>?_;subst e;exact Ext.two (Br.yes (aQ.mk (.refl _) ⟨by rw[hm.val r x hv],es,ck,m,rfl,hm⟩))
 intro k;induction k with
 |zero=>
  intro r es ck m hk hr hm;have rA:r<2:=by
   cases hN:K.N r with
   |some d=>
    rw[ay hN]at hk;have:=h.ok.lv.lt _ (h.ok.mid.var hN);omega
   |none=>
    rcases hr with hr|⟨d,e⟩
    ·exact hr
    rw[hN]at e;cases e
  cases hv:bO m r with
  |none=>exact absurd hv (hm.low r rA)
  |some v=>exact hit hm hv
 |succ k ih=>
  intro r es ck m hk hr hm;cases hv:bO m r with
  |some v=>exact hit hm hv
  |none=>
  have rA:¬r<2:=λh2=>hm.low r h2 hv;obtain⟨d,hN⟩:∃d,K.N r=some d:=by
   rcases hr with hr|hr
   ·omega
   exact hr
  have hlo:=h.ok.wf.lo hN;have hhi:=h.ok.wf.hi hN;rw[ay hN]at hk;have hvl:=h.ok.lv.lt _ (h.ok.mid.var hN);refine aK λg=>wm (Ld.mk (v:=.map (some mb)) (.tail _ (xad _ h9)) rfl ?_);refine hm.dL.bU (k:=r) gi (b:=mb) (by exact .head _) hv ?_;refine Ext.two (Br.no (Ld.mk (v:=ptr kp) (.tail _ (xad _ h1)) rfl ?_));refine aa.eq (args:=#[ptr kp,u32 r]) (vi h hN) λb8 _=>?_;refine St.p (iO d) ?_;refine DR.of (R:=(b8,Obj.cells (bH d).toArray 201 zZ)::Z) (.cons (.skip .left)) (Ld.mk (v:=.func (.func 138) #[] #[ptr b1,ptr b9]) (.tail _ h3) rfl ?_);refine ax.q ?_;refine Ld.mk (v:=.func (.func 168) #[] #[ptr c9,ptr c1,ptr c3,ptr LN]) (.tail _ h12) rfl ?_;refine Ld.f (v:=u32 d.lo) (Ld.mk (v:=.func (.func 168) #[] #[ptr c9,ptr c1,ptr c3,ptr LN]) (.tail _ h12) rfl ?_);refine Ld.f (v:=u32 d.hi) λF=>?_;refine bK.of rfl zK (aa.fq (args:=#[u32 d.lo,ptr c9,ptr c1,ptr c3,ptr LN]) (ih d.lo es ck m zO hlo.1 hm) ?_);rintro v1 H ⟨rfl,nQ,mh,m1,rfl,AD⟩;refine⟨.cons (.skip .left),?_⟩;intro F;refine bK.of rfl zK (aa.fq (args:=#[u32 d.hi,ptr c9,ptr c1,ptr c3,ptr LN]) (ih d.hi nQ mh m1 zO hhi.1 AD) ?_);rintro v2 H ⟨rfl,lB,mg,m2,rfl,tw⟩;refine⟨.cons (.skip .left),?_⟩;intro F;refine bK.of rfl zK (aa.eq (args:=#[.agg (bH d).toArray,u64 (cw K ag S d.lo%DE),u64 (cw K ag S d.hi%DE),ptr b1,ptr b9]) (Tu (Z:=Z) h hN Zl hb9) (Ld.mk (v:=.map (some mb)) (.tail _ (.tail _ (xad _ h9))) rfl ?_));refine tw.dL.bT (k:=r) (b:=mb) (x:=cw K ag S r%DE) gi k7 rfl λQ9 RB he=>⟨_,.tail (.head _),?_⟩;refine aQ.mk .tail ⟨rfl,Q9,RB,_,rfl,he,λr' x' n4=>?_,λr' hr'=>?_⟩
  ·rw[cM]at n4;split at n4
   ·rename_i e;subst e;cases n4;rfl
   exact tw.val r' x' n4
  rw[cM];split
  ·simp
  exact tw.low r' hr'
theorem Rp(h:cT kp K S ord ag tr C){r:Nat}(hr:live K.N r):
  Rd zQ 103 #[ptr kp,u32 r] C (· =.tuple #[u64 (sat K.n (S r)%DE),iv 0]):=by
 have hi:=h.ok.mid.int;refine aK λg=>HL λb1 _=>?_;refine Ld.q ?_;refine aj.int (e:=80) zK zK zK λbx=>?_;refine aa.eh .here (Cz (X:=[(bx,_),(b1,_)]) h (by exact .head _) hr) (ae.ic (Br.F λb9 _=>(St.one (c':=#[.func (.func 135) #[] #[ptr b1]]) (by exact .head _) rfl zI rfl ?_)));refine Ld.q ?_;refine aa.fq (args:=#[ptr kp,u32 r,u64 0,u64 1,.func (.func 138) #[] #[ptr b1,ptr b9]]) (C:=(b9,Obj.cells #[.func (.func 135) #[] #[ptr b1]] 204 zZ)::(bx,_)::(b1,Obj.cells #[ptr kp] 41 zZ)::C) (Q:=λv H=>v=u64 (cw K ag S r%DE)/\H=(b9,Obj.cells #[.func (.func 135) #[] #[ptr b1]] 204 zZ)::(bx,Obj.cells (aA .u32 [(r:Int)]) 80 zZ)::(b1,Obj.cells #[ptr kp] 41 zZ)::C) (aK λg=>Hf ?_) ?_
 ·intro c1 _ c3 _ mb _;refine aT.bT (ke:=kr) (vr:=λv (x:Nat)=>v=u64 x) (k:=0) (b:=mb) (x:=0) gi k7 aT.empty rfl λnQ mh UB=>⟨_,.head _,?_⟩;refine aT.bT (ke:=kr) (vr:=λv (x:Nat)=>v=u64 x) (k:=1) (b:=mb) (x:=1) gi k7 UB rfl λlB mg Wp=>⟨_,.head _,?_⟩;intro c9 _;refine St.one (c':=#[.map (some mb)]) (by exact .head _) rfl zI rfl ?_;intro LN _;refine St.one (c':=#[.func (.func 168) #[] #[ptr c9,ptr c1,ptr c3,ptr LN]]) (by exact .head _) rfl zI rfl ?_;refine Ld.q ?_;refine bK.of rfl zK ?_;obtain⟨Z,hZ⟩:∃Z:Hp,Z=[(LN,Obj.cells #[.func (.func 168) #[] #[ptr c9,ptr c1,ptr c3,ptr LN]] 247 zZ),(c9,.cells #[.map (some mb)] 246 zZ),(c3,.cells #[.func (.func 138) #[] #[ptr b1,ptr b9]] 217 zZ),(c1,.cells #[ptr kp] 41 zZ),
   (b9,Obj.cells #[.func (.func 135) #[] #[ptr b1]] 204 zZ),(bx,Obj.cells (aA .u32 [(r:Int)]) 80 zZ),(b1,Obj.cells #[ptr kp] 41 zZ)]:=⟨_,rfl⟩
  refine aa.pre (H':=(mb,Obj.map lB mg)::(Z++C)) (.perm ?_) ?_
  ·rw[hZ];exact(List.Perm.cons _ (List.Perm.swap _ _ _)).trans (List.Perm.swap _ _ _)
  refine aa.fq (args:=#[u32 r,ptr c9,ptr c1,ptr c3,ptr LN]) (J4 (Z:=Z) (b1:=b1) (b9:=b9) h (by rw[hZ];exact .tail _ (.head _)) (by rw[hZ];exact .tail _ (.tail _ (.tail _ (.head _)))) (by rw[hZ];exact .tail _ (.tail _ (.head _))) (by rw[hZ];exact .head _) (by rw[hZ];exact .tail _ (.tail _ (.tail _ (.tail _ (.tail _ (.tail _ (.head _))))))) (by rw[hZ];exact .tail _ (.tail _ (.tail _ (.tail _ (.head _))))) K.n r lB mg _ (xdP _ _) hr ⟨Wp,λr' x hm=>?_,λr' hr'=>?_⟩) ?_
  ·rw[cM,cM]at hm;split at hm
   ·rename_i e;subst e;cases hm;rw[qq h zD];rfl
   split at hm
   ·rename_i e;subst e;cases hm;rw[qq h zD];rfl
   simp[bO]at hm
  ·rw[cM,cM];have:r'=0\/r'=1:=by omega
   rcases this with rfl|rfl<;>simp
  rintro v H ⟨rfl,Q9,RB,m3,rfl,_⟩;refine aQ.mk ?_ ⟨rfl,rfl⟩;rw[hZ];exact .skip (.skip (.skip (.skip (.skip (.refl _)))))
 rintro v H ⟨rfl,rfl⟩;refine Ld.q ?_;refine bK.of rfl zK (aa.eh (args:=#[u32 r,ptr b1]) .here (qW (Z:=[(b9,_),(bx,_),(b1,_)]) h hr (by exact .tail _ (.tail _ (.head _)))) (ae.sP (bD.mk (.skip (.skip .tail)) ?_)));rw[y5,(Rl h K.n r (xdP _ _) hr).1]
end
section
variable {B:Hp}
abbrev i64(a:Int):zV:=iv a
structure Cf where
 n:Nat
 cap:Nat
 str:Nat
 gr:Nat
 rs:Nat
end
def HF(L:List aC.Fn)(g:aC.Fn):Prop:=g∈L/\∃v,fg g v
def F2(n cap:Nat)(L:List aC.Fn)(ord:zL)(lo hi:aC.Fn):Prop:=Fits (bc n ord (λg=>(HF L g\/g=lo)\/g=hi)) cap
end
end Go.Proofs
namespace aC
open ak
variable {n:Nat} {ag:Nat->Nat} {N:dU} {S:Nat->Fn} {ord:zL} {R:Nat->Prop} {V:zL}
inductive Rc(N:dU)(R:Nat->Prop):Nat->Prop
 |base {r:Nat}:R r->Rc N R r
 |lo {p:Nat} {d:Nd}:Rc N R p->N p=some d->Rc N R d.lo
 |hi {p:Nat} {d:Nd}:Rc N R p->N p=some d->Rc N R d.hi
def Vv(N:dU)(V:zL):Prop:=∀u∈V,∃d,N u=some d/\(d.lo<2\/d.lo∈V)/\(d.hi<2\/d.hi∈V)
theorem HU(h0:∀r,r<2->N r=none)(hV:Vv N V)(hR:∀r,R r->r<2\/r∈V):∀l r,A N ag n R l r->r<2\/r∈V
 |0,r,ha=>hR r ha
 |l+1,r,ha=>by
  rcases ha with⟨h1,_⟩|⟨p,d,h1,h2,_,h4⟩
  ·exact HU h0 hV hR l r h1
  rcases HU h0 hV hR l p h1 with hp|hp
  ·rw[h0 p hp]at h2;cases h2
  obtain⟨d',hd,a,b⟩:=hV p hp;rw[h2]at hd;cases hd;rcases h4 with rfl|rfl
  ·exact a
  exact b
theorem Rc.at(h:WF n ag N)(hR:∀r,R r->live N r){u:Nat}(hu:Rc N R u):∀d,N u=some d->A N ag n R (ag d.v) u:=by
 induction hu with
 |base hr=>
  intro d hd;have:=rU (N:=N) (ag:=ag) (n:=n) (ag d.v) 0 hr (by rw[ay hd];omega);rwa [xa1]at this
 | @lo p e hp he ih=>
  intro d hd;have hlt:=(h.lo he).2;rw[ay hd]at hlt;have hb:A N ag n R (ag e.v+1) e.lo:=.inr ⟨p,e,ih e he,he,rfl,.inl rfl⟩;have:=rU (ag d.v-(ag e.v+1)) _ hb (by rw[ay hd];omega);rwa [show ag e.v+1+(ag d.v-(ag e.v+1))=ag d.v by omega]at this
 | @hi p e hp he ih=>
  intro d hd;have hlt:=(h.hi he).2;rw[ay hd]at hlt;have hb:A N ag n R (ag e.v+1) e.hi:=.inr ⟨p,e,ih e he,he,rfl,.inr rfl⟩;have:=rU (ag d.v-(ag e.v+1)) _ hb (by rw[ay hd];omega);rwa [show ag e.v+1+(ag d.v-(ag e.v+1))=ag d.v by omega]at this
theorem JJ(h:WF n ag N)(hl:nW n ag)(ho:Ord n ag ord)(hi:Interp N S)(hR:∀r,R r->live N r)(hV:Vv N V)(hRV:∀r,R r->r<2\/r∈V)(hVR:∀u∈V,Rc N R u)(g:Fn):bc n ord (Fs S R) g↔∃u∈V,g=S u:=by
 constructor
 ·rintro⟨l,KW,hf,x,hx⟩;obtain⟨v1,v2⟩:=ho.at' l KW;obtain⟨r,ha,rfl⟩:=(Ln h hl ho hi hR l zO g).1 hf;rcases HU (λr hr=>h.const hr) hV hRV l r ha with hc|hm
  ·exfalso;have:r=0\/r=1:=by omega
   rcases this with rfl|rfl
   ·exact hx (by rw[hi.zero,hi.zero])
   exact hx (by rw[hi.one,hi.one])
  exact⟨r,hm,rfl⟩
 rintro⟨u,hu,rfl⟩;obtain⟨d,hd,_⟩:=hV u hu;have hv:=h.var hd;refine⟨ag d.v,hl.lt _ hv,(Ln h hl ho hi hR _ (xcq (hl.lt _ hv)) _).2 ⟨u,(hVR u hu).at h hR d hd,rfl⟩,?_⟩;rw[ho.of hl hv];exact jc h hl hi hd
theorem SX(h:WF n ag N)(hl:nW n ag)(ho:Ord n ag ord)(hi:Interp N S)(hR:∀r,R r->live N r)(hV:Vv N V)(hRV:∀r,R r->r<2\/r∈V)(hVR:∀u∈V,Rc N R u)(nd:V.Nodup):pA (bc n ord (Fs S R)) V.length:=by
 have live':∀u∈V,live N u:=λu hu=>let ⟨d,hd,_⟩:=hV u hu;.inr ⟨d,hd⟩
 refine⟨V.map S,?_,by simp,λg=>?_⟩
 ·refine xb9.2 (nd.imp_of_mem λ{a b} ha hb hne e=>hne ?_);exact h.same hl hi (live' a ha) (live' b hb) λx=>congrFun e x
 rw[JJ h hl ho hi hR hV hRV hVR,xam];exact⟨λ⟨u,hu,e⟩=>⟨u,hu,e.symm⟩,λ⟨u,hu,e⟩=>⟨u,hu,e.symm⟩⟩
end aC
set_option maxRecDepth 100000
namespace Go.Proofs
open Go Go.Sx Tryz
open aC
section
variable {kp mb b7 b1 b3 yC SH:Nat} {cap:Array zV} {K:Kd} {S:Nat->aC.Fn} {ord ag tr:zL} {C Z:Hp} {P:zL->Hp->Prop}
def xz(V:zL):List (Nat×Unit):=V.map λr=>(r,())
theorem ud{V:zL}{r:Nat}:bO (xz V) r=if r∈V then some ()else none:=by
 unfold xz;induction V with
 |nil=>rfl
 |cons a V ih=>
  unfold bO at*;rw[xaM,xbG];by_cases e:a=r
  ·subst e;simp
  simp only[e,xdI];rw[ih];have:(r∈a::V)↔r∈V:=by simp[xbn e]
  by_cases hv:r∈V
  ·rw[xae hv,xae (this.2 hv)]
  rw[xac hv,xac λh=>hv (this.1 h)]
theorem OH{V:zL}{r:Nat}(h:r∉V):cY (xz V) r ()=xz (V++[r]):=by
 unfold cY xz;rw[xac (by rw[xbR];simpa using h),xaB];rfl
abbrev CZ(es:Array MapEntry)(ck:Nat)(V:zL):Prop:=aT kr (λv (_:Unit)=>v=i64 1) es ck (xz V)
structure Walk(K:Kd)(V V':zL)(r:Nat):Prop where
 nd:V'.Nodup
 sub:∀u∈V,u∈V'
 has:r<2\/r∈V'
 shut:∀u∈V',u∉V->∃d,K.N u=some d/\(d.lo<2\/d.lo∈V')/\(d.hi<2\/d.hi∈V')
 rc:∀u∈V',u∉V->Rc K.N (λq=>q=r) u
def YP(SH:Nat)(cap:Array zV)(K:Kd)(P:zL->Hp->Prop):Prop:=bR zQ SH=true/\∀(V:zL) (r:Nat) (d:Nd) (G:Hp),K.N r=some d->P V G->Fc zQ SH (#[.agg (bH d).toArray]++cap) G (λv G'=>v=.tuple #[]/\P (V++[r]) G')
theorem xB{N:dU}{r q u:Nat}(h1:Rc N (λx=>x=r) q)(h2:Rc N (λx=>x=q) u):Rc N (λx=>x=r) u:=by
 induction h2 with
 |base e=>rw[e];exact h1
 |lo _ hd ih=>exact .lo ih hd
 |hi _ hd ih=>exact .hi ih hd
theorem SV(h:cT kp K S ord ag tr C)(hd:YP SH cap K P)(h7:(b7,Obj.cells #[.map (some mb)] 296 zZ)∈Z)(h1:(b1,Obj.cells #[ptr kp] 41 zZ)∈Z)(h3:(b3,Obj.cells #[.func (.func SH) #[] cap] 241 zZ)∈Z)
 (h10:(yC,Obj.cells #[.func (.func 207) #[] #[ptr b7,ptr b1,ptr b3,ptr yC]] 205 zZ)∈Z):
  ∀(k r:Nat) (es:Array MapEntry) (ck:Nat) (V:zL) (G:Hp),K.n-dep K.n (lv ag) K.N r<=k->live K.N r->V.Nodup->CZ es ck V->P V G->
  Fc zQ 207 #[u32 r,ptr b7,ptr b1,ptr b3,ptr yC] ((mb,.map es ck)::(G++(Z++C))) (λv H=>v=.tuple #[]/\∃es' cC V' G',H=(mb,.map es' cC)::(G'++(Z++C))/\CZ es' cC V'/\P V' G'/\Walk K V V' r):=by
 have stop:∀{r:Nat} {es:Array MapEntry} {ck:Nat} {V:zL} {G:Hp},V.Nodup->CZ es ck V->P V G->(r<2\/r∈V)->
   Fc zQ 207 #[u32 r,ptr b7,ptr b1,ptr b3,ptr yC] ((mb,.map es ck)::(G++(Z++C))) (λv H=>v=.tuple #[]/\∃es' cC V' G',H=(mb,.map es' cC)::(G'++(Z++C))/\CZ es' cC V'/\P V' G'/\Walk K V V' r):=by
  intro r es ck V G gw hE hP hr;refine aK λg=>v9 (aa.eq (nT r _) (cz.or (a:=decide (r<2)) (decide (r∈V)) (λ_=>?_) rfl λ_=>?_))
  ·refine Ld.mk (v:=.map (some mb)) (.tail _ (xaa _ (xad _ h7))) rfl ?_;by_cases hm:r∈V
   ·refine hE.hit (k:=r) gi (b:=mb) (by exact .head _) (by rw[ud,xae hm]) λv e=>?_;subst e;exact ae.gtr ⟨rfl,by rw[xau hm];rfl⟩
   refine hE.bU (k:=r) gi (b:=mb) (by exact .head _) (by rw[ud,xac hm]) ?_;exact ae.gtr ⟨rfl,by rw[xap hm];rfl⟩
  rw[<-xbp,xau hr];refine Br.yes (aQ.mk (.refl _) ⟨rfl,es,ck,V,G,rfl,hE,hP,⟨gw,λ_ h=>h,hr,λu h h'=>absurd h h',λu h h'=>absurd h h'⟩⟩)
 intro k;induction k with
 |zero=>
  intro r es ck V G hk hr gw hE hP;refine stop gw hE hP (.inl ?_);cases hN:K.N r with
  |some d=>
   rw[ay hN]at hk;have:=h.ok.lv.lt _ (h.ok.mid.var hN);omega
  |none=>
   rcases hr with hr|⟨d,e⟩
   ·exact hr
   rw[hN]at e;cases e
 |succ k ih=>
  intro r es ck V G hk hr gw hE hP;by_cases hs:r<2\/r∈V
  ·exact stop gw hE hP hs
  have rA:¬r<2:=λh=>hs (.inl h);have hrV:r∉V:=λh=>hs (.inr h);obtain⟨d,hN⟩:∃d,K.N r=some d:=by
   rcases hr with hr|hr
   ·omega
   exact hr
  have hlo:=h.ok.wf.lo hN;have hhi:=h.ok.wf.hi hN;rw[ay hN]at hk;have hvl:=h.ok.lv.lt _ (h.ok.mid.var hN);refine aK λg=>v9 (aa.eq (nT r _) (cz.or (a:=decide (r<2)) false (λ_=>?_) rfl λ_=>?_))
  ·refine Ld.mk (v:=.map (some mb)) (.tail _ (xaa _ (xad _ h7))) rfl ?_;refine hE.bU (k:=r) gi (b:=mb) (by exact .head _) (by rw[ud,xac hrV]) ?_;exact ae.gtr ⟨rfl,rfl⟩
  rw[xap rA];refine Br.no (Ld.mk (v:=.map (some mb)) (.tail _ (xaa _ (xad _ h7))) rfl ?_);refine hE.bT (k:=r) (b:=mb) (x:=()) gi k7 rfl λnQ mh UB=>⟨_,.head _,?_⟩;rw[OH hrV]at UB;refine Ld.mk (v:=ptr kp) (.tail _ (xaa _ (xad _ h1))) rfl ?_;refine aa.eq (args:=#[ptr kp,u32 r]) (vi h hN) λoz _=>?_;refine St.p (iO d) ?_;refine Ld.mk (v:=.func (.func SH) #[] cap) (.tail _ (.tail _ (xaa _ (xad _ h3)))) rfl ?_;refine ax.q ?_;refine bK.of rfl hd.1 (aa.fn (.cons (.cons .left)) (by simpa using hd.2 V r d G hN hP) ?_);rintro v G1 ⟨rfl,hP1⟩;refine Ld.mk (v:=.func (.func 207) #[] #[ptr b7,ptr b1,ptr b3,ptr yC]) (.tail _ (.tail _ (xaa _ (xad _ h10)))) rfl ?_;refine Ld.f (v:=u32 d.lo) (bK.of rfl zK ?_);have aeD:(V++[r]).Nodup:=xa9.2 ⟨gw,by simp,λa ha b hb e=>hrV (by rw[xaG.1 hb]at e;rwa [<-e])⟩;refine aa.fq (args:=#[u32 d.lo,ptr b7,ptr b1,ptr b3,ptr yC]) (ih d.lo nQ mh (V++[r]) G1 zO hlo.1 aeD UB hP1) ?_;rintro v H ⟨rfl,lB,mg,V2,G2,rfl,uT,hP2,w2⟩;refine Ld.mk (v:=.func (.func 207) #[] #[ptr b7,ptr b1,ptr b3,ptr yC]) (.tail _ (.tail _ (xaa _ (xad _ h10)))) rfl ?_;refine Ld.f (v:=u32 d.hi) (bK.of rfl zK (aa.fq (args:=#[u32 d.hi,ptr b7,ptr b1,ptr b3,ptr yC]) (ih d.hi lB mg V2 G2 zO hhi.1 w2.nd uT hP2) ?_));rintro v H ⟨rfl,Q9,RB,V3,G3,rfl,hE3,hP3,w3⟩;have r2:r∈V2:=w2.sub r zI;refine aQ.mk .tail ⟨rfl,Q9,RB,V3,G3,rfl,hE3,hP3,⟨w3.nd,λu hu=>w3.sub u (w2.sub u (xad _ hu)),.inr (w3.sub r r2),λu hu hn=>?_,λu hu hn=>?_⟩⟩
  ·by_cases V8:u∈V2
   ·by_cases Ns:u∈V++[r]
    ·rcases xaq.1 Ns with h'|h'
     ·exact absurd h' hn
     rw[xaG.1 h'];exact⟨d,hN,w2.has.imp id (w3.sub _),w3.has⟩
    obtain⟨e,he,a,b⟩:=w2.shut u V8 Ns;exact⟨e,he,a.imp id (w3.sub _),b.imp id (w3.sub _)⟩
   exact w3.shut u hu V8
  by_cases V8:u∈V2
  ·by_cases Ns:u∈V++[r]
   ·rcases xaq.1 Ns with h'|h'
    ·exact absurd h' hn
    exact .base (xaG.1 h')
   exact xB (Rc.lo (.base rfl) hN) (w2.rc u V8 Ns)
  exact xB (Rc.hi (.base rfl) hN) (w3.rc u hu V8)
theorem RN(h:cT kp K S ord ag tr C)(hd:YP SH cap K P){r b:Nat}{X G:Hp}(hr:live K.N r)(hP:P [] G)(hm:(b,Obj.cells (aA .u32 [(r:Int)]) 80 zZ)∈X):
  Fc zQ 160 #[ptr kp,.slice (some ⟨b,0,none⟩) 1 1,.func (.func SH) #[] cap] (G++(X++C)) (λv H=>v=.tuple #[]/\∃V G',H=G'++(X++C)/\P V G'/\V.Nodup/\Vv K.N V/\(r<2\/r∈V)/\∀u∈V,Rc K.N (λq=>q=r) u):=by
 refine aK λg=>GU λb1 _ b3 _ mb _ b7 _=>?_;refine St.one (c':=#[.map (some mb)]) (by exact .head _) rfl zI rfl ?_;intro yC _;refine St.one (c':=#[.func (.func 207) #[] #[ptr b7,ptr b1,ptr b3,ptr yC]]) (by exact .head _) rfl zI rfl ?_;refine aE.mk ?_;obtain⟨Z,hZ⟩:∃Z:Hp,Z=(yC,Obj.cells #[.func (.func 207) #[] #[ptr b7,ptr b1,ptr b3,ptr yC]] 205 zZ)::(b7,.cells #[.map (some mb)] 296 zZ)::(b3,.cells #[.func (.func SH) #[] cap] 241 zZ)::(b1,.cells #[ptr kp] 41 zZ)::X:=⟨_,rfl⟩;have Nw:∀(e:Obj),List.Perm ((yC,Obj.cells #[.func (.func 207) #[] #[ptr b7,ptr b1,ptr b3,ptr yC]] 205 zZ)::(b7,.cells #[.map (some mb)] 296 zZ)::(mb,e)::(b3,.cells #[.func (.func SH) #[] cap] 241 zZ)::(b1,.cells #[ptr kp] 41 zZ)::(G++(X++C))) ((mb,e)::(G++(Z++C))):=λe=>by
  rw[hZ];refine((List.Perm.cons _ (List.Perm.swap _ _ _)).trans (List.Perm.swap _ _ _)).trans (.cons _ ?_);have:∀(a b c d:Nat×Obj),(a::b::c::d::(G++(X++C))).Perm (G++(a::b::c::d::(X++C))):=λa b c d=>by
   have:=(xa0 (l₁:=[a,b,c,d]) (l₂:=G)).append_right (X++C);simpa[xai]using this
  exact this _ _ _ _
 refine⟨λvs H=>∃(i:Nat) (es:Array MapEntry) (ck:Nat) (V:zL) (G':Hp),vs=[i64 (i:Int)]/\H=(mb,.map es ck)::(G'++(Z++C))/\CZ es ck V/\P V G'/\((i=0/\V=[])\/(i=1/\Walk K [] V r)),λvs _=>1-bA vs 0,JE.of (.perm (Nw _)) ⟨0,#[],0,[],G,rfl,rfl,aT.empty,hP,.inl ⟨rfl,rfl⟩⟩,?_⟩;rintro w H ⟨i,es,ck,V,G',⟨⟩,rfl,hE,hPV,hi⟩ gs;have mZ:∀{x:Nat×Obj},x∈Z->x∈(mb,Obj.map es ck)::(G'++(Z++C)):=λhx=>.tail _ (xaa _ (xad _ hx));rcases hi with⟨rfl,rfl⟩|⟨rfl,hw⟩
 ·refine ae.cX (b:=1) (Br.T (ah.nat zD ?_));refine Ld.mk (v:=u32 r) (mZ (by rw[hZ];exact .tail _ (.tail _ (.tail _ (.tail _ hm))))) rfl ?_;refine Ld.mk (v:=.func (.func 207) #[] #[ptr b7,ptr b1,ptr b3,ptr yC]) (mZ (by rw[hZ];exact .head _)) rfl ?_;refine bK.of rfl zK (aa.fq (args:=#[u32 r,ptr b7,ptr b1,ptr b3,ptr yC]) (SV (Z:=Z) h hd (by rw[hZ];exact .tail _ (.head _)) (by rw[hZ];exact .tail _ (.tail _ (.tail _ (.head _)))) (by rw[hZ];exact .tail _ (.tail _ (.head _))) (by rw[hZ];exact .head _) K.n r es ck [] G' (xdP _ _) hr List.nodup_nil hE hPV) ?_);rintro v H ⟨rfl,lB,mg,V2,G2,rfl,uT,hP2,w2⟩;exact ae.inc (a:=0) (az.mk ⟨1,lB,mg,V2,G2,rfl,rfl,uT,hP2,.inr ⟨rfl,w2⟩⟩ (by simp only[bA];decide))
 refine ae.cX (b:=1) (Br.F (aQ.mk ?_ ⟨rfl,V,G',rfl,hPV,hw.nd,λu hu=>hw.shut u hu zI,hw.has,λu hu=>hw.rc u hu zI⟩));rw[hZ];exact .skip (.cL (.skip (.skip (.skip .tail))) _)
theorem LI(b4:Nat):YP 161 #[ptr b4] K (λV G=>∃x:Int,G=[(b4,.cells #[i64 x] 3 zZ)]/\(V.length<4611686018427387904->x=V.length)):=by
 refine⟨by kernel_rfl,?_⟩;rintro V r d G hN ⟨x,rfl,hx⟩;refine aK λg=>GS λb1 _=>?_;refine Ld.mk (v:=i64 x) (.tail _ (.head _)) rfl ?_;refine ae.add (St.one (c':=#[i64 (IntKind.i64.wrap (x+1))]) (by exact .tail (.head _)) rfl zI rfl ?_);refine aQ.mk .tail ⟨rfl,_,rfl,λhl=>?_⟩;rw[xaf,xbg]at hl⊢;rw[hx zO,wrap_i64 zO];omega
theorem Ro(h:cT kp K S ord ag tr C){r b:Nat}{X:Hp}(hr:live K.N r)(hm:(b,Obj.cells (aA .u32 [(r:Int)]) 80 zZ)∈X):
  Rd zQ 125 #[ptr kp,.slice (some ⟨b,0,none⟩) 1 1] (X++C) (· =.tuple #[i64 ((sz K.n ord (λg=>g=S r):Nat):Int),i64 0]):=by
 refine aK λg=>Ht (aa.eq (Cz (X:=X) h hm hr) (ae.ic (Br.F ?_)));intro b4 _;refine St.one (c':=#[i64 0]) (by exact .head _) rfl zI rfl ?_;refine aa.fn (C:=[(b4,Obj.cells #[i64 0] 3 zZ)]++(X++C)) .here (RN (P:=λV G=>∃x:Int,G=[(b4,.cells #[i64 x] 3 zZ)]/\(V.length<4611686018427387904->x=V.length)) h (LI b4) hr ⟨0,rfl,λ_=>rfl⟩ hm) ?_;rintro v H ⟨rfl,V,G,rfl,⟨x,rfl,hx⟩,gw,hsh,hrV,hrc⟩;refine Ld.q ?_;refine bD.mk .tail ?_;have hc:=SX h.ok.wf h.ok.lv h.od h.ok.mid.int (R:=λq=>q=r) (λq hq=>by rw[hq];exact hr) hsh (λq hq=>by rw[hq];exact hrV) hrc gw;have hlen:V.length<=1048576:=by
  have:∀u∈V,u∈List.range 1048576:=λu hu=>by
   obtain⟨d,hd,_⟩:=hsh u hu;exact xaO.2 (h.dz (.inr ⟨d,hd⟩))
  have:=bV gw this;rwa [xaK]at this
 rw[hx zO,<-AR hc];have e:Fs S (λq=>q=r)=λg=>g=S r:=funext λg=>propext ⟨λ⟨q,hq,e⟩=>by rw[e,hq],λe=>⟨r,rfl,e⟩⟩;rw[e];rfl
end
end Go.Proofs
namespace aC
open ak
variable {n:Nat} {ord:zL}
def WI(ord:zL)(L:List Fn):Nat->List Fn
 |0=>L
 |l+1=>(WI ord L l).flatMap λf=>[λx=>f (aB x (ord.getD l 0) false),λx=>f (aB x (ord.getD l 0) true)]
theorem uY(L:List Fn):∀l,(WI ord L l).length=L.length*2^l
 |0=>by simp[WI]
 |l+1=>by
  rw[WI,List.length_flatMap];simp only[xak,xa3];rw[List.map_const',List.sum_replicate_nat,uY L l,xcB,xcu]
theorem QM{F:Fn->Prop}{L:List Fn}(h:∀g,F g->g∈L):∀l g,fs ord F l g->g∈WI ord L l
 |0,g,hg=>h g hg
 |l+1,g,⟨f,hf,b,e⟩=>by
  rw[WI,List.mem_flatMap];refine⟨f,QM h l f hf,?_⟩;subst e;cases b<;>simp
def Fa(ord:zL)(L:List Fn):Nat->List Fn
 |0=>[]
 |k+1=>Fa ord L k++WI ord L k
theorem sI{ord:zL}(L:List Fn):∀k,(Fa ord L k).length+L.length=L.length*2^k
 |0=>by simp[Fa]
 |k+1=>by
  have:=sI (ord:=ord) L k;rw[Fa,xaf,uY,xcB];have e:L.length*(2^k*2)=L.length*2^k+L.length*2^k:=by rw[<-xcu,Nat.mul_two]
  omega
theorem Bt{L:List Fn}{g:Fn}{l:Nat}(h:g∈WI ord L l):∀k,l<k->g∈Fa ord L k
 |0,hk=>by omega
 |k+1,hk=>by
  rw[Fa,xaq];by_cases e:l=k
  ·subst e;exact .inr h
  exact .inl (Bt h k zO)
theorem Ks{F:Fn->Prop}{L:List Fn}(h:∀g,F g->g∈L):∀g,bc n ord F g->g∈Fa ord L n:=by
 rintro g ⟨l,hl,hg,_⟩;exact Bt (QM h l g hg) n hl
theorem Bk:∀l:List Fn,∃l':List Fn,l'.Nodup/\l'.length<=l.length/\∀g,g∈l↔g∈l'
 | []=>⟨[],List.nodup_nil,xal _,λ_=>xdg⟩
 |f::l=>by
  obtain⟨l',h1,h2,h3⟩:=Bk l;by_cases hm:f∈l'
  ·refine⟨l',h1,Nat.le_succ_of_le h2,λg=>?_⟩;rw[xag,h3];exact⟨λh=>h.elim (λe=>e▸hm) id,.inr⟩
  exact⟨f::l',xaW.2 ⟨hm,h1⟩,Nat.succ_le_succ h2,λg=>by rw[xag,xag,h3]⟩
theorem Va{U:Fn->Prop}{l:List Fn}(h:∀g,U g->g∈l):∃k,k<=l.length/\pA U k:=by
 classical
 obtain⟨l',h1,h2,h3⟩:=Bk l;refine⟨(l'.filter λg=>decide (U g)).length,xbZ (xbT _ _) h2,_,h1.filter _,rfl,λg=>?_⟩;rw[xcS,xaP,<-h3];exact⟨λx=>⟨h g x,x⟩,λx=>x.2⟩
theorem uD{F:Fn->Prop}{L:List Fn}{cap:Nat}(h:∀g,F g->g∈L)(hc:L.length*2^n+2<=cap):∃ku,pA (bc n ord F) ku/\ku+2<=cap:=by
 obtain⟨k,h1,h2⟩:=Va (Ks (n:=n) (ord:=ord) h);have:=sI (ord:=ord) L n;exact⟨k,h2,by omega⟩
end aC
namespace Go.Proofs.Fm
inductive Lk(z:Tok)(o:List Tok):List Tok->List Tok->Prop
 |fin:Lk z o [z] o
 |cons {x y:Tok} {l l':List Tok}:x.k=y.k->x.v=y.v->x.k≠0->Lk z o l l'->Lk z o (x::l) (y::l')
inductive Gr(L:Prop)(z:Tok)(o:List Tok):Gl->Gl->Prop
 |ir {lv dp AI:Nat} {l l':List Tok}:(¬L->AI<=dp)->Lk z o l l'->Gr L z o (.ir lv dp l) (.ir lv AI l')
 |more {lv dp AI:Nat} {a:Tr} {l l':List Tok}:(¬L->AI<=dp)->Lk z o l l'->Gr L z o (.more lv dp a l) (.more lv AI a l')
 |tight {dp AI:Nat} {l l':List Tok}:(¬L->AI<=dp)->Lk z o l l'->Gr L z o (.tight dp l) (.tight AI l')
inductive Pr(L:Prop)(z:Tok)(o:List Tok):Pl->Pl->Prop
 |ok {t:Tr} {l l':List Tok}:Lk z o l l'->Pr L z o (.done (.ok t l)) (.done (.ok t l'))
 |bad {p e:Nat} {q:Pl}:Pr L z o (.done (.bad p e)) q
 |aS {p:Pl} {q:Nat}:L->Pr L z o p (.done (.bad q 7))
 |call {g g':Gl} {k k':Rs->Pl}:Gr L z o g g'->(∀t l l',Lk z o l l'->Pr L z o (k (.ok t l)) (k' (.ok t l')))->(∀p e,k (.bad p e)=.done (.bad p e))->(∀p e,k' (.bad p e)=.done (.bad p e))->Pr L z o (.call g k) (.call g' k')
section
variable {L:Prop} {z y:Tok} {o r:List Tok} {n:Nat}
theorem Pr.cO{k:Nat}(hk:k≠0)(hz:z.k=0\/z.k=16)(s9:k≠16){t:Tr}{l l':List Tok}(h:Lk z o l l'){f f':Tr->List Tok->Pl}(hf:∀l l',Lk z o l l'->Pr L z o (f t l) (f' t l')):Pr L z o ((Rs.ok t l).cO k f) ((Rs.ok t l').cO k f'):=by
 cases h with
 |fin=>
  have:(Rs.ok t [z]).cO k f=.done (.bad z.p 14):=xac zO;rw[this];exact .bad
 | @cons x y l l' h1 h2 h3 h4=>
  show Pr L z o (if x.k=k then f t l else _) (if y.k=k then f' t l' else _);by_cases e:x.k=k
  ·rw[xae e,xae (h1▸e)];exact hf _ _ h4
  rw[xac e];exact .bad
theorem zc(hz:z.k=0\/z.k=16)(ho:o=y::r)(hy:y.k=11){g g':Gl}(h:Gr L z o g g'):Pr L z o (fY n g) (fY n g'):=by
 have D:∀t l l',Lk z o l l'->Pr L z o (.done (.ok t l)) (.done (.ok t l')):=λt l l' h=>.ok h;cases h with
 | @ir lv dp AI l l' hd hl=>
  show Pr L z o (if lv=5 then _ else _) (if lv=5 then _ else _);by_cases e:lv=5
  ·rw[xae e,xae e];exact .call (.tight hd hl) D (λ_ _=>rfl) (λ_ _=>rfl)
  rw[xac e,xac e];exact .call (.ir hd hl) (λt l l' h=>.call (.more hd h) D (λ_ _=>rfl) (λ_ _=>rfl)) (λ_ _=>rfl) (λ_ _=>rfl)
 | @more lv dp AI a l l' hd hl=>
  have hs:=y6 lv;cases hl with
  |fin=>
   subst ho;show Pr L z _ (if z.k=eO lv then _ else _) (if y.k=eO lv then _ else _);rw[xac zO,xac zO];exact .ok .fin
  | @cons x y' l l' h1 h2 h3 h4=>
   show Pr L z o (if x.k=eO lv then(if eO lv=8 then _ else _)else _) (if y'.k=eO lv then(if eO lv=8 then _ else _)else _);rw[<-h1];by_cases e:x.k=eO lv
   ·rw[xae e,xae e];by_cases e8:eO lv=8
    ·rw[xae e8,xae e8];exact .call (.ir hd h4) (λt l l' h=>.ok h) (λ_ _=>rfl) (λ_ _=>rfl)
    rw[xac e8,xac e8];exact .call (.ir hd h4) (λt l l' h=>.call (.more hd h) D (λ_ _=>rfl) (λ_ _=>rfl)) (λ_ _=>rfl) (λ_ _=>rfl)
   rw[xac e,xac e];exact .ok (.cons h1 h2 h3 h4)
 | @tight dp AI l l' hd hl=>
  cases hl with
  |fin=>
   have:fY n (.tight dp [z])=.done (.bad z.p 14):=by
    show(if z.k=1\/z.k=2 then _ else if z.k=3 then _ else if z.k=4 then _ else if z.k=10 then _ else if z.k=12 then _ else _)=_;rw[xac zO,xac zO,xac zO,xac zO,xac zO]
   rw[this];exact .bad
  | @cons x y' l l' h1 h2 h3 h4=>
   have aS:∀{p:Nat} {q q':Pl},Pr L z o q q'->Pr L z o (if 1000<=dp then .done (.bad p 7)else q) (if 1000<=AI then .done (.bad y'.p 7)else q'):=λ{p q q'} h=>by
    by_cases a:1000<=dp
    ·rw[xae a];exact .bad
    rw[xac a];by_cases b:1000<=AI
    ·rw[xae b];by_cases hL:L
     ·exact .aS hL
     have:=hd hL;omega
    rw[xac b];exact h
   have AE:¬L->AI+1<=dp+1:=λh=>by have:=hd h;omega
   show Pr L z o (if x.k=1\/x.k=2 then _ else if x.k=3 then(if n<=x.v then _ else _)else if x.k=4 then(if 1000<=dp then _ else _)else if x.k=10 then(if 1000<=dp then _ else _)else if x.k=12 then(if 1000<=dp then _ else _)else _)
    (if y'.k=1\/y'.k=2 then _ else if y'.k=3 then(if n<=y'.v then _ else _)else if y'.k=4 then(if 1000<=AI then _ else _)else if y'.k=10 then(if 1000<=AI then _ else _)else if y'.k=12 then(if 1000<=AI then _ else _)else _)
   rw[<-h1,<-h2];by_cases e1:x.k=1\/x.k=2
   ·rw[xae e1,xae e1];exact .ok h4
   rw[xac e1,xac e1];by_cases e2:x.k=3
   ·rw[xae e2,xae e2];by_cases e:n<=x.v
    ·rw[xae e];exact .bad
    rw[xac e,xac e];exact .ok h4
   rw[xac e2,xac e2];by_cases e3:x.k=4
   ·rw[xae e3,xae e3];exact aS (.call (.tight AE h4) (λt l l' h=>.ok h) (λ_ _=>rfl) (λ_ _=>rfl))
   rw[xac e3,xac e3];by_cases e4:x.k=10
   ·rw[xae e4,xae e4];exact aS (.call (.ir AE h4) (λt l l' h=>.cO zD hz zD h λl l' h=>.ok h) (λ_ _=>rfl) (λ_ _=>rfl))
   rw[xac e4,xac e4];by_cases e5:x.k=12
   ·rw[xae e5,xae e5];exact aS (.call (.ir AE h4) (λt l l' h=>.cO zD hz zD h λl l' h=>.call (.ir AE h) (λt l l' h=>.cO zD hz zD h λl l' h=>.call (.ir AE h) (λt l l' h=>.cO zD hz zD h λl l' h=>.ok h) (λ_ _=>rfl) (λ_ _=>rfl)) (λ_ _=>rfl) (λ_ _=>rfl)) (λ_ _=>rfl) (λ_ _=>rfl))
   rw[xac e5];exact .bad
theorem Ev.sim(hz:z.k=0\/z.k=16)(ho:o=y::r)(hy:y.k=11){p:Pl}{s:Rs}(h:Ev n p s):∀{p':Pl},Pr L z o p p'->∀t l,s=.ok t l->(∃l',Ev n p' (.ok t l')/\Lk z o l l')\/(L/\∃q,Ev n p' (.bad q 7)):=by
 induction h with
 |done=>
  intro p' hp t l e;cases hp with
  |ok h=>cases e;exact .inl ⟨_,.done,h⟩
  |bad=>cases e
  |aS hL=>exact .inr ⟨hL,_,.done⟩
 | @call g k r1 r2 h1 h2 i1 i2=>
  intro p' hp t l e;cases hp with
  |aS hL=>exact .inr ⟨hL,_,.done⟩
  |call hg hk hb hb'=>
   cases r1 with
   |bad p' e'=>
    rw[hb]at h2;cases h2;cases e
   |ok t1 l1=>
    rcases i1 (zc hz ho hy hg) t1 l1 rfl with⟨l1',a,b⟩|⟨hL,q,a⟩
    ·rcases i2 (hk t1 l1 l1' b) t l e with⟨l',c,d⟩|⟨hL,q,c⟩
     ·exact .inl ⟨l',.call a c,d⟩
     exact .inr ⟨hL,q,.call a c⟩
    exact .inr ⟨hL,q,.call a (by rw[hb'];exact .done)⟩
end
theorem IB(s:List UInt8):∀(l:List UInt8) (n k:Nat),num n k (l++41::s)=num n k l
 | [],n,k=>by
  show num n k (41::s)=(n,k);unfold num;exact xae (.inl rfl)
 |b::l,n,k=>by
  show num n k (b::(l++41::s))=num n k (b::l);unfold num;rw[IB s l]
theorem Iw(s:List UInt8):∀(t r:List UInt8),(41:UInt8)∉t->t.isPrefixOf (r++41::s)=t.isPrefixOf r
 | [],r,_=>by cases r<;>rfl
 |a::t,[],h=>by
  have:(a==(41:UInt8))=false:=by
   rw[beq_eq_false_iff_ne];exact λe=>h (by rw[e];exact .head _)
  show(a==41&&t.isPrefixOf s)=false;rw[this];rfl
 |a::t,b::r,h=>by
  show(a==b&&t.isPrefixOf (r++41::s))=(a==b&&t.isPrefixOf r);rw[Iw s t r λh'=>h (.tail _ h')]
theorem Im(b:UInt8)(r s:List UInt8):∀S:List (List UInt8×Nat),(∀x∈S,∃a t,x.1=a::t/\(41:UInt8)∉t)->wF (b::(r++41::s)) S=wF (b::r) S
 | [],_=>rfl
 |x::S,h=>by
  obtain⟨a,t,e,ht⟩:=h x (.head _);unfold wF;rw[Im b r s S λy hy=>h y (.tail _ hy),e];have:(a::t).isPrefixOf (b::(r++41::s))=(a::t).isPrefixOf (b::r):=by
   show(a==b&&t.isPrefixOf (r++41::s))=(a==b&&t.isPrefixOf r);rw[Iw s t r ht]
  rw[this]
theorem Od(b:UInt8)(r s:List UInt8):cD (b::(r++41::s))=cD (b::r):=by
 unfold cD;have h1:kO (b::(r++41::s))=kO (b::r):=by
  show(if _ then _ else _)=(if _ then _ else _);rw[IB]
 have hS:∀x∈eu,∃a t,x.1=a::t/\(41:UInt8)∉t:=by
  intro x hx;simp only[eu,xag,xaw,xaZ]at hx;rcases hx with rfl|rfl|rfl|rfl|rfl|rfl|rfl|rfl|rfl|rfl|rfl|rfl|rfl|rfl<;>exact⟨_,_,rfl,by decide⟩
 rw[h1,Im b r s eu hS]
theorem Oc{s:List UInt8}{p:Nat}{f:List UInt8}{o1:List Tok}(h:dh p f o1):∀{i:List Tok} {z:Tok},o1=i++[z]->z.k=0->∀(q:Nat) (o2:List Tok),dh (q+f.length) (41::s) o2->∃o',dh q (f++41::s) o'/\Lk z o2 o1 o':=by
 have one:∀{x z:Tok} {i:List Tok},[x]=i++[z]->x=z:=λ{x z i} e=>by
  cases i with
  |nil=>cases e;rfl
  |cons y i=>simp at e
 induction h with
 |fin=>
  intro i z e hz q o2 h2;obtain rfl:=one e;exact⟨o2,h2,.fin⟩
 | @blank p r o h ih=>
  intro i z e hz q o2 h2;obtain⟨o',a,b⟩:=ih e hz (q+1) o2 (by rw[xak]at h2;rw[show q+1+r.length=q+(r.length+1)by omega];exact h2);exact⟨o',.blank a,b⟩
 |wrong hb h=>
  intro i z e hz q o2 h2;obtain rfl:=one e;cases hz
 | @tok p b r o hb h h' ih=>
  intro i z e hz q o2 h2;have hl:=pF h;obtain⟨j,rfl⟩:∃j,o=j++[z]:=by
   cases i with
   |nil=>
    simp only[xa6,xaz]at e;obtain⟨_,rfl⟩:=e;obtain⟨i',t',e',_⟩:=h'.last;simp at e'
   |cons y i=>
    simp only[xaS,xaz]at e;exact⟨i,e.2⟩
  obtain⟨o',a,c⟩:=ih rfl hz (q+(cD (b::r)).2.2) o2 (by
   rw[show q+(cD (b::r)).2.2+((b::r).drop (cD (b::r)).2.2).length=q+(b::r).length by rw[xbS];omega];exact h2)
  have ht:=Od b r s;have XX:(cD (b::r)).1≠0:=by
   obtain⟨i',t',e',_,hi'⟩:=(dh.tok hb h h').last;cases i' with
   |nil=>
    simp only[xa6,xaz]at e';have:=xca List.length e'.2;simp at this
   |cons y i'=>
    simp only[xaS,xaz]at e';have:=(hi' y (.head _)).1;rw[<-e'.1]at this;exact this
  refine⟨⟨(cD (b::r)).1,q,(cD (b::r)).2.1⟩::o',?_,.cons rfl rfl XX c⟩;have:=dh.tok (p:=q) (b:=b) (r:=r++41::s) (o:=o') hb (by rw[ht];exact h) (by
   rw[ht,show b::(r++41::s)=(b::r)++41::s from rfl,xed hl.2.1];exact a)
  rw[ht]at this;exact this
theorem Zz{n:Nat}{f s:List UInt8}{t:Tr}{l':List Tok}(h:Reads n f (.ok t l'))(q dp:Nat){o2:List Tok}{y:Tok}{r:List Tok}(ho:o2=y::r)(hy:y.k=11)(h2:dh (q+f.length) (41::s) o2):
  ∃o',dh q (f++41::s) o'/\(Ev n (fY n (.ir 0 dp o')) (.ok t o2)\/∃p,Ev n (fY n (.ir 0 dp o')) (.bad p 7)):=by
 cases h with
 | @mk o _ hl ht he=>
  obtain⟨i,z,rfl,hz,hi⟩:=ht.last;cases he with
  | @call _ _ r1 _ h1 h3=>
   cases r1 with
   |bad p e=>cases h3
   |ok t1 l1=>
    have abZ:∀{i:List Tok},(∀u∈i,u.k≠0/\u.k≠16)->Lk z o2 (i++[z]) (i++o2):=by
     intro i;induction i with
     |nil=>exact λ_=>.fin
     |cons x i ih=>exact λh=>.cons rfl rfl (h x (.head _)).1 (ih λu hu=>h u (.tail _ hu))
    obtain⟨x,l2,rfl⟩:∃x l2,l1=x::l2:=by
     cases l1 with
     |nil=>cases h3
     |cons x l2=>exact⟨x,l2,rfl⟩
    have hx:x.k=0/\t1=t:=by
     by_cases e:x.k=0
     ·have e':(Rs.ok t1 (x::l2)).cO 0 (λt l'=>.done (.ok t l'))=.done (.ok t1 l2):=xae e;have wC:=e'▸(show Ev n ((Rs.ok t1 (x::l2)).cO 0 λt l'=>.done (.ok t l')) (.ok t l')from h3);cases wC;exact⟨e,rfl⟩
     have e':(Rs.ok t1 (x::l2)).cO 0 (λt l'=>.done (.ok t l'))=.done (.bad x.p 14):=xac e;have wC:=e'▸(show Ev n ((Rs.ok t1 (x::l2)).cO 0 λt l'=>.done (.ok t l')) (.ok t l')from h3);cases wC
    obtain⟨hx0,rfl⟩:=hx;have Ss:z.k=0:=by
     rcases Ev.sim (L:=False) hz ho hy h1 (zc hz ho hy (.ir (λ_=>xal _) (abZ hi))) t1 _ rfl with⟨l',_,hk⟩|⟨hL,_⟩
     ·cases hk with
      |fin=>exact hx0
      |cons _ _ h3 _=>exact absurd hx0 h3
     ·exact hL.elim
    obtain⟨o',a,b⟩:=Oc ht rfl Ss q o2 h2;refine⟨o',a,?_⟩;rcases Ev.sim (L:=True) hz ho hy h1 (zc hz ho hy (Gr.ir (AI:=dp) (λh=>absurd trivial h) b)) t1 _ rfl with⟨l',c,hk⟩|⟨_,q',c⟩
    ·cases hk with
     |fin=>exact .inl c
     |cons _ _ h3 _=>exact absurd hx0 h3
    ·exact .inr ⟨q',c⟩
theorem Ev.up{n dp:Nat}{l:List Tok}{r:Rs}:∀(j lv:Nat),lv+j<=5->(∀t x l',r=.ok t (x::l')->∀m,lv<=m->m<lv+j->x.k≠eO m)->(∀t,r≠.ok t [])->Ev n (fY n (.ir (lv+j) dp l)) r->Ev n (fY n (.ir lv dp l)) r
 |0,lv,_,_,_,h=>h
 |j+1,lv,hj,hx,hn,h=>by
  have h1:=Ev.up (r:=r) (dp:=dp) (l:=l) (n:=n) j (lv+1) zO (λt x l' e m h1 h2=>hx t x l' e m zO zO) hn (by rw[show lv+1+j=lv+(j+1)by omega];exact h);show Ev n (if lv=5 then _ else _) r;rw[xac zO];refine .call h1 ?_;cases r with
  |bad p e=>exact .done
  |ok t l'=>
   cases l' with
   |nil=>exact absurd rfl (hn t)
   |cons x l'=>
    refine .call ?_ .done;show Ev n (if x.k=eO lv then _ else _) _;rw[xac (hx t x l' rfl lv (xal _) zO)];exact .done
theorem Ev.t5{n dp:Nat}{l:List Tok}{r:Rs}(h:Ev n (fY n (.tight dp l)) r):Ev n (fY n (.ir 5 dp l)) r:=.call h .done
def Rs.nr(c:Nat):Rs->Prop
 | .ok _ l=>∀x∈l,x.p<=c
 | .bad p _=>p<=c
def Gl.nr(c:Nat):Gl->Prop
 | .ir _ _ l=>∀x∈l,x.p<=c
 | .more _ _ _ l=>∀x∈l,x.p<=c
 | .tight _ l=>∀x∈l,x.p<=c
inductive Pl.Nr(c:Nat):Pl->Prop
 |done {r:Rs}:r.nr c->Nr c (.done r)
 |call {g:Gl} {k:Rs->Pl}:g.nr c->(∀r,r.nr c->Nr c (k r))->Nr c (.call g k)
theorem Pl.Nr.thn{c:Nat}{r:Rs}{f:Tr->List Tok->Pl}(hr:r.nr c)(h:∀t l,(∀x∈l,x.p<=c)->Nr c (f t l)):Nr c (r.thn f):=by
 cases r with
 |ok t l=>exact h t l hr
 |bad p e=>exact .done hr
theorem Pl.Nr.cO{c k:Nat}{r:Rs}{f:Tr->List Tok->Pl}(hr:r.nr c)(h:∀t l,(∀x∈l,x.p<=c)->Nr c (f t l)):Nr c (r.cO k f):=by
 refine .thn hr λt l h1=>?_;cases l with
 |nil=>exact .done (xaA _)
 |cons x l=>
  show Nr c (if x.k=k then _ else _);split
  ·exact h t l λy hy=>h1 y (.tail _ hy)
  exact .done (h1 x (.head _))
theorem TD(n:Nat){c:Nat}(g:Gl)(hg:g.nr c):(fY n g).Nr c:=by
 cases g with
 |ir lv dp l=>
  show Pl.Nr c (if lv=5 then _ else _);split
  ·exact .call (by exact hg) λr h=>.done h
  exact .call (by exact hg) λr h=>.thn h λt l h=>.call (by exact h) λr h=>.done h
 |more lv dp a l=>
  cases l with
  |nil=>exact .done (xaA _)
  |cons x l=>
   have hl:∀y∈l,y.p<=c:=λy hy=>hg y (.tail _ hy);show Pl.Nr c (if x.k=eO lv then(if eO lv=8 then _ else _)else _);split
   ·split
    ·exact .call (by exact hl) λr h=>.thn h λt l h=>.done h
    exact .call (by exact hl) λr h=>.thn h λt l h=>.call (by exact h) λr h=>.done h
   exact .done hg
 |tight dp l=>
  cases l with
  |nil=>exact .done (xaA _)
  |cons x l=>
   have hx:x.p<=c:=hg x (.head _);have hl:∀y∈l,y.p<=c:=λy hy=>hg y (.tail _ hy);show Pl.Nr c (if x.k=1\/x.k=2 then _ else if x.k=3 then(if n<=x.v then _ else _)else if x.k=4 then(if 1000<=dp then _ else _)else if x.k=10 then(if 1000<=dp then _ else _)else if x.k=12 then(if 1000<=dp then _ else _)else _);split
   ·exact .done hl
   split
   ·split
    ·exact .done hx
    exact .done hl
   split
   ·split
    ·exact .done hx
    exact .call (by exact hl) λr h=>.thn h λt l h=>.done h
   split
   ·split
    ·exact .done hx
    exact .call (by exact hl) λr h=>.cO h λt l h=>.done h
   split
   ·split
    ·exact .done hx
    exact .call (by exact hl) λr h=>.cO h λt l h=>.call (by exact h) λr h=>.cO h λt l h=>.call (by exact h) λr h=>.cO h λt l h=>.done h
   exact .done hx
theorem Ev.nr{n c:Nat}{p:Pl}{r:Rs}(h:Ev n p r)(hp:p.Nr c):r.nr c:=by
 induction h with
 |done=>cases hp with|done h=>exact h
 |call _ _ i1 i2=>cases hp with|call h0 h=>exact i2 (h _ (i1 (TD n _ h0)))
theorem dh.place{p:Nat}{l:List UInt8}{o:List Tok}(h:dh p l o):∀x∈o,x.p<=p+l.length:=by
 induction h with
 |fin=>intro x hx;rw[xaG.1 hx];exact xew _ _
 |blank _ ih=>intro x hx;have:=ih x hx;rw[xak];omega
 |wrong _ _=>intro x hx;rw[xaG.1 hx];exact xew _ _
 |tok _ h _ ih=>
  intro x hx;rcases xag.1 hx with rfl|hx
  ·exact xew _ _
  have:=ih x hx;have:=pF h;rw[xbS]at*;omega
theorem Reads.place{n:Nat}{l:List UInt8}{a e:Nat}(h:Reads n l (.bad a e)):a<=l.length:=by
 cases h with
 |Ee _=>exact xaA _
 |mk _ ht h=>
  have:=h.nr (c:=l.length) (.call (λx hx=>by have:=ht.place x hx;omega) λr hr=>.cO hr λt l h=>.done h);exact this
def Tr.all:Tr->List (Nat->Bool)
 | .c k=>[(Tr.c k).fn]
 | .v n=>[(Tr.v n).fn]
 | .no a=>(Tr.no a).fn::a.all
 | .bin k a b=>(Tr.bin k a b).fn::(a.all++b.all)
 | .ite a b d=>(Tr.ite a b d).fn::(a.all++(b.all++d.all))
theorem Tr.gQ{g:Nat->Bool}:∀{t:Tr},t.gR g↔g∈t.all
 | .c k=>by simp[Tr.gR,Tr.all]
 | .v n=>by simp[Tr.gR,Tr.all]
 | .no a=>by simp[Tr.gR,Tr.all,Tr.gQ (t:=a)]
 | .bin k a b=>by simp[Tr.gR,Tr.all,Tr.gQ (t:=a),Tr.gQ (t:=b)]
 | .ite a b d=>by simp[Tr.gR,Tr.all,Tr.gQ (t:=a),Tr.gQ (t:=b),Tr.gQ (t:=d)]
end Go.Proofs.Fm
set_option maxRecDepth 100000
namespace Go.Proofs
open Go Go.Sx Tryz
section
open Fm Sw aC
abbrev NS:=List (List UInt8×Nat)
abbrev FN:=List (List UInt8×aC.Fn)
theorem Ku{k:List UInt8}{old x:Nat}:∀{ns:NS},(ns.map Prod.fst).Nodup->bO ns k=some old->(ns.map Prod.snd++[x]).Perm (old::(cY ns k x).map Prod.snd):=by
 have key:∀{ns:NS},(ns.map Prod.fst).Nodup->bO ns k=some old->(x::ns.map Prod.snd).Perm (old::(ns.map λy=>if y.1=k then(k,x)else y).map Prod.snd):=by
  intro ns;induction ns with
  |nil=>intro _ h;simp[bO]at h
  |cons p ns ih=>
   intro nd h;obtain⟨h1,h2⟩:=xaW.1 nd;by_cases e:p.1=k
   ·have:old=p.2:=by
     unfold bO at h;rw[xbG,xau e]at h;simpa using h.symm
    subst this;have gC:(ns.map λy=>if y.1=k then(k,x)else y)=ns:=by
     refine(xbr λy hy=>?_).trans (xej ns);rw[xac λe'=>h1 (by rw[e,<-e'];exact xam.2 ⟨y,hy,rfl⟩)];rfl
    simp only[xaM,xae e,gC];exact .swap _ _ _
   have hg:bO ns k=some old:=by
    unfold bO at h⊢;rw[xbG,xap e]at h;exact h
   simp only[xaM,xac e];exact(List.Perm.swap _ _ _).trans (((ih h2 hg).cons _).trans (.swap _ _ _))
 intro ns nd h;have hk:k∈ns.map Prod.fst:=by
  rcases Classical.em (k∈ns.map Prod.fst)with h'|h'
  ·exact h'
  rw[gE.2 h']at h;cases h
 unfold cY;rw[xae hk];exact(xa0 (l₁:=ns.map Prod.snd) (l₂:=[x])).trans (key nd h)
theorem aai{k:List UInt8}{x:Nat}{ns:NS}(h:bO ns k=none):cY ns k x=ns++[(k,x)]:=by
 unfold cY;rw[xac (gE.1 h)]
def jr(S:Nat->aC.Fn)(ns:NS):FN:=ns.map λp=>(p.1,S p.2)
theorem Ph{S:Nat->aC.Fn}{ns:NS}{k:List UInt8}{x:Nat}:jr S (cY ns k x)=cY (jr S ns) k (S x):=by
 unfold cY jr;have e:(ns.map λp=>(p.1,S p.2)).map Prod.fst=ns.map Prod.fst:=by rw[xbR];rfl
 rw[e];split
 ·rw[xbR,xbR];refine xbr λy _=>?_;show(λp:List UInt8×Nat=>(p.1,S p.2)) (if y.1=k then(k,x)else y)=if y.1=k then(k,S x)else(y.1,S y.2)
  split<;>rfl
 rw[xaB];rfl
theorem ri{S:Nat->aC.Fn}{a:List UInt8}:∀ns:NS,bO (jr S ns) a=(bO ns a).map S
 | []=>rfl
 |p::ns=>by
  have ih:=ri (S:=S) (a:=a) ns;unfold bO jr at*;rw[xaM,xbG,xbG];by_cases e:p.1=a
  ·simp[e]
  simp only[e,xdI];exact ih
theorem rP{S S':Nat->aC.Fn}{ns:NS}(h:∀p∈ns,S' p.2=S p.2):jr S' ns=jr S ns:=xbr λp hp=>by rw[h p hp]
theorem W8{n:Nat}{ord:zL}{f:aC.Fn}(hn:n<=8):sz n ord (λg=>g=f)<=256:=by
 obtain⟨k,hk,hc⟩:=uD (n:=n) (ord:=ord) (F:=λg=>g=f) (L:=[f]) (cap:=1*2^n+2) (λg hg=>by rw[hg];exact .head _) (xal _);rw[AR hk];have:2^n<=2^8:=xat zD hn;omega
abbrev iI(T:TypeId)(fz:Nat×Nat):Nat×Obj:=(1,.cells powC T fz)
abbrev qP(sp kp mb:Nat)(es:Array MapEntry)(ck:Nat)(C:Hp):Hp:=(sp,.cells #[ptr kp,.map (some mb)] 44 zZ)::(mb,.map es ck)::C
structure vN(kp n cap:Nat)(K:Kd)(S:Nat->aC.Fn)(ord ag tr:zL)(C:Hp)(es:Array MapEntry)(ck:Nat)(ns:NS):Prop where
 ks:cT kp K S ord ag tr C
 dL:NmE es ck ns
 hb:bL (K0 n cap) S0 K S (ns.map Prod.snd)
section
variable {sp kp mb n cap:Nat} {K:Kd} {S:Nat->aC.Fn} {ord ag tr:zL} {C:Hp} {es:Array MapEntry} {ck:Nat} {ns:NS} {T:TypeId} {fz:Nat×Nat}
theorem qd{xs:zL}(h:bL (K0 n cap) S0 K S xs){x:Nat}(hx:x∈xs)(h2:2<=x):K.hold x≠0:=by
 rw[h.hold,xae h2];have:=xcH.2 hx;omega
theorem abr{xs:zL}(h:bL (K0 n cap) S0 K S xs)(s:Nat):K.hold s<=xs.length:=by
 have:=h.le s;have e:(K0 n cap).hold s=0:=by
  show([]:zL).getD s 0=0;simp
 omega
theorem zY{xs:zL}(h:bL (K0 n cap) S0 K S xs)(hK:cT kp K S ord ag tr C){x:Nat}(hx:x∈xs):aC.live K.N x:=by
 by_cases h2:2<=x
 ·exact hK.BR x (qd h hx h2)
 exact .inl zO
theorem Qr{xs:zL}(h:bL (K0 n cap) S0 K S xs)(g:aC.Fn)(hg:K.held S g):∃x∈xs,S x=g:=by
 have:=h.held (P:=λg=>∃x∈xs,S x=g) (λx hx=>⟨x,hx,rfl⟩) g hg;rcases this with h'|h'
 ·obtain⟨s,hs,_⟩:=h';exfalso;have e:(K0 n cap).hold s=0:=by
   show([]:zL).getD s 0=0;simp
  exact hs e
 exact h'
theorem Xh{x:Nat}{nm:List UInt8}(hK:cT kp K S ord ag tr C)(hE:NmE es ck ns)(hH:bL (K0 n cap) S0 K S (ns.map Prod.snd++[x]))(hx:aC.live K.N x)(hn:n<=8):
  Fc zQ 73 #[ptr sp,aq nm,u32 x] (iI T fz::qP sp kp mb es ck C) (λr H=>r=nY (dec (sz n ord (λg=>g=S x))) 0 0/\∃K' es' cC C' iT,H=iI T fz::qP sp kp mb es' cC C'/\vN kp n cap K' S ord ag iT C' es' cC (cY ns nm x)/\(iT=tr\/iT=[])):=by
 refine aK λg=>Mx λb1 _ J3 h3=>?_;have SC:K.n=n:=hH.n;have go:∀(K':Kd) (C':Hp) (iT:zL),cT kp K' S ord ag iT C'->bL (K0 n cap) S0 K' S ((cY ns nm x).map Prod.snd)->(iT=tr\/iT=[])->J3 [] ((b1,Obj.cells #[aq [],nI 0,nI 0] 26 zZ)::iI T fz::qP sp kp mb es ck C'):=λK' C' iT jT hH' iy=>by
  refine h3 _ λ_=>?_;have hxm:x∈(cY ns nm x).map Prod.snd:=by
   have:(nm,x)∈cY ns nm x:=by
    unfold cY;split
    ·rename_i h;obtain⟨y,hy,e⟩:=xam.1 h;exact xam.2 ⟨y,hy,by rw[xae e]⟩
    exact xaa _ (.head _)
   exact xam.2 ⟨_,this,rfl⟩
  have Zc:aC.live K'.N x:=zY hH' jT hxm;have hn':K'.n=n:=hH'.n;refine Ld.v (v:=.map (some mb)) (.tail _ (.tail _ (.head _))) ?_;refine hE.bT (k:=nm) (b:=mb) (x:=x) iW xp rfl λes' cC BU=>⟨_,.tail (.tail (.tail (.head _))),?_⟩;refine Ld.v (v:=ptr kp) (.tail _ (.tail _ (.head _))) (aj.int (e:=80) zK zK zK λbx=>?_);refine aa.eq (Ro (X:=[(bx,_),(b1,_),iI T fz,(sp,_),(mb,_)]) jT Zc (.head _)) (Ext.two ?_);rw[hn'];have hsz:=W8 (n:=n) (ord:=ord) (f:=S x) hn;generalize sz n ord (λg=>g=S x)=m at hsz⊢;refine aa.eq (qn (n:=m) zO (.tail _ (.tail _ (.head _)))) (aa.eq (pN (dec m) 0 _) ?_);refine St.whole (r:=dZ (dec m) 0 0) (.tail (.head _)) rfl rfl (bI _ _ _) (ax.whole (r:=dZ (dec m) 0 0) (.tail _ (.head _)) rfl ?_);exact aQ.mk (.skip .tail) ⟨rfl,K',es',cC,C',iT,rfl,⟨jT,BU,hH'⟩,iy⟩
 refine Ld.v (v:=.map (some mb)) (.tail _ (.tail _ (.head _))) ?_;refine hE.look (k:=nm) iW (b:=mb) (.tail _ (.tail _ (.tail _ (.head _)))) (λold v ho hv=>?_) (λho=>?_)
 ·subst hv;have hp:=(Ku (x:=x) hE.nd ho);have Zt:=hH.perm hp;have xZ:old∈old::(cY ns nm x).map Prod.snd:=.head _;refine Ext.mk rfl (Ext.mk rfl (Br.yes (Ld.v (v:=ptr kp) (.tail _ (.tail _ (.head _))) ?_)));refine aa.fn (args:=#[ptr kp,u32 old]) (.cons (.cons (.cons (.cons .here)))) (Af hK (by have:=hK.dz (zY Zt hK xZ);omega) (λh2=>qd Zt xZ h2)) ?_;rintro _ C' ⟨rfl,K',jT,hf⟩;exact JE.mk (go K' C' [] jT (Zt.WJ hf) (.inr rfl))
 refine Ext.mk rfl (Ext.mk rfl (Br.no (JE.mk (go K C tr hK ?_ (.inl rfl)))));rw[aai ho,xaB];exact hH
theorem OB{x:Nat}{nm:List UInt8}(hK:cT kp K S ord ag tr C)(hE:NmE es ck ns)(hH:bL (K0 n cap) S0 K S (ns.map Prod.snd++[x]))(hx:aC.live K.N x)(hn:n<=8):
  Fc zQ 31 #[ptr sp,aq nm,u32 x,nI 0] (iI T fz::qP sp kp mb es ck C) (λr H=>r=nY (dec (sz n ord (λg=>g=S x))) 0 0/\∃K' es' cC C' iT,H=iI T fz::qP sp kp mb es' cC C'/\vN kp n cap K' S ord ag iT C' es' cC (cY ns nm x)/\(iT=tr\/iT=[])):=by
 refine aK λg=>yO λb1 _=>ae.jD (a:=0) (b:=0) (Br.F ?_);refine aa.fn (.cons .here) (Xh hK hE hH hx hn) ?_;rintro _ H ⟨rfl,h⟩;refine St.whole (r:=dZ (dec (sz n ord (λg=>g=S x))) 0 0) (.head _) rfl rfl (bI _ _ _) (ax.whole (r:=dZ (dec (sz n ord (λg=>g=S x))) 0 0) (.head _) rfl ?_);exact aQ.mk .tail ⟨rfl,h⟩
theorem AX{x e:Nat}{nm:List UInt8}(he:e≠0)(B:Hp):Rd zQ 31 #[ptr sp,aq nm,u32 x,nI e] B (· =nY [] 0 e):=by
 refine aK λg=>yO λb1 _=>ae.jD (b:=0) (Br.T (aa.eq (mY 0 e _) ?_) he);refine St.whole (r:=dZ [] 0 e) (.head _) rfl rfl (bI _ _ _) (ax.whole (r:=dZ [] 0 e) (.head _) rfl ?_);exact bD.mk .tail rfl
def acn(sp kp mb n cap:Nat)(S:Nat->aC.Fn)(ord ag tr:zL)(es:Array MapEntry)(ck:Nat)(ns:NS)(T:TypeId)(fz:Nat×Nat)(C:Hp)(nm l:List UInt8)(lz:Nat)(r:zV)(H:Hp):Prop:=
 (∃a e,Reads n l (.bad a e)/\e≠0/\(r=if e=14\/e=2\/e=7 then nY [] (lz+a) e else nY [] 0 e)/\H=iI T fz::qP sp kp mb es ck C)\/
 ∃t l',Reads n l (.ok t l')/\((∃x K' S' es' cC C',r=nY (dec (sz n ord (λg=>g=t.fn))) 0 0/\H=iI T fz::qP sp kp mb es' cC C'/\vN kp n cap K' S' ord ag [] C' es' cC (cY ns nm x)/\S' x=t.fn/\∀p∈ns,S' p.2=S p.2)\/
  (∃K' S' C' iT,r=nY [] 0 9/\H=iI T fz::qP sp kp mb es ck C'/\vN kp n cap K' S' ord ag iT C' es ck ns/\(∀p∈ns,S' p.2=S p.2)/\¬Fits (bc n ord (λg=>(∃x∈ns.map Prod.snd,S x=g)\/t.gR g)) cap))
theorem ZU{a b:Nat}{x y:Nat}(h:(Value.tuple #[u32 a,nI x])=.tuple #[u32 b,nI y]):a=b/\x=y:=by
 simp only[Value.tuple.injEq,Array.mk.injEq,xaz,u32,nI,Value.int.injEq,xdt,xbb]at h;omega
set_option maxHeartbeats 1000000 in
theorem Xe(hI:vN kp n cap K S ord ag tr C es ck ns)(hn:n<=8)(hm:ns.length<=1000){nm text:List UInt8}{lz:Nat}(hf:lz<=text.length)(hl:text.length<=400):
  Fc zQ 17 #[ptr sp,aq nm,aq text,nI lz] (iI T fz::qP sp kp mb es ck C) (acn sp kp mb n cap S ord ag tr es ck ns T fz C nm (text.drop lz) lz):=by
 have hK:=hI.ks;have SC:K.n=n:=hI.hb.n;have hKc:K.cap=cap:=hI.hb.cap;have hlen:(ns.map Prod.snd).length=ns.length:=xax _;have afO:2^n<=2^8:=xat zD hn;refine aK λg=>M9 λb1 _=>?_;refine DR.of (R:=[(sp,.cells #[ptr kp,.map (some mb)] 44 zZ)]) (.gU (.tail _ (.tail _ (.head _)))) (Ld.v (v:=ptr kp) (.head _) ?_);refine aZ.mA (l:=text) (i:=lz) (j:=text.length) rfl zK rfl (.inr ⟨_,.i64,rfl,rfl⟩) (.inl ⟨rfl,rfl⟩) hf (xal _) ?_;rw[xbe];refine aa.fn (args:=#[ptr kp,aq (text.drop lz)]) (.cons (.cons (.cons (.cons .here)))) (QT hK (text.drop lz) (λs=>by have:=abr hI.hb s;rw[SC];omega)) ?_;rw[SC];rintro r C2 (⟨rfl,a,e,hb,rfl⟩|⟨t,l',x,e,hr,rfl,hb⟩)
 ·have he:=hb.fit;refine⟨.gU (.tail _ (.tail _ (.head _))),Ext.mk rfl (Ext.mk rfl (Ext.mk rfl (ae.bB (b:=14) (cz.or (decide (e=2)) (λ_=>ae.bB (b:=2) ⟨rfl,rfl⟩) rfl λ_=>?_))))⟩;rw[<-xbp];refine cz.or (decide (e=7)) (λ_=>ae.bB (b:=7) ⟨rfl,rfl⟩) rfl λ_=>?_;rw[<-xbp];have ha:lz+a<9223372036854775808:=by
   have:=hb.place;rw[xbS]at this;omega
  refine Br.dec (λh=>?_) (λh=>?_)
  ·refine ae.dX (by simpa only[aS]using ha) (aa.eq (mY (lz+a) e _) ?_);refine St.whole (r:=dZ [] (lz+a) e) (.head _) rfl rfl (bI _ _ _) (ax.whole (r:=dZ [] (lz+a) e) (.head _) rfl ?_);exact aQ.mk .tail (.inl ⟨a,e,hb,he,by rw[xae zO],rfl⟩)
  refine aa.eq (AX (x:=0) he _) ?_;refine St.whole (r:=dZ [] 0 e) (.head _) rfl rfl (bI _ _ _) (ax.whole (r:=dZ [] 0 e) (.head _) rfl ?_);exact aQ.mk .tail (.inl ⟨a,e,hb,he,by rw[xac zO],rfl⟩)
 rcases hb with⟨x',K',S',iT,ee,jT,hh,Zc,hSx,rfl⟩|⟨ee,⟨K',S',iT,jT,hh⟩,hno⟩
 ·obtain⟨rfl,rfl⟩:=ZU ee;refine⟨.gU (.tail _ (.tail _ (.head _))),Ext.mk rfl (Ext.mk rfl (Ext.mk rfl (ae.bB (a:=0) (b:=14) (cz.or false (λ_=>ae.bB (a:=0) (b:=2) ⟨rfl,rfl⟩) rfl λ_=>cz.or false (λ_=>ae.bB (a:=0) (b:=7) ⟨rfl,rfl⟩) rfl λ_=>Br.no ?_))))⟩;refine aa.fn (args:=#[ptr sp,aq nm,u32 x,nI 0]) (.cons .here) (OB jT hI.dL (hI.hb.more hh) Zc hn) ?_;rintro _ H ⟨rfl,K2,es',cC,C',mm,rfl,hI2,KO⟩;rw[hSx];refine St.whole (r:=dZ (dec (sz n ord (λg=>g=t.fn))) 0 0) (.head _) rfl rfl (bI _ _ _) (ax.whole (r:=dZ (dec (sz n ord (λg=>g=t.fn))) 0 0) (.head _) rfl ?_);have ht:mm=[]:=KO.elim id id;subst ht;refine aQ.mk .tail (.inr ⟨t,l',hr,.inl ⟨x,K2,S',es',cC,C',rfl,rfl,hI2,hSx,λp hp=>?_⟩⟩);exact(rj hK jT hh λh2=>qd hI.hb (xam.2 ⟨p,hp,rfl⟩) h2).2
 obtain⟨rfl,rfl⟩:=ZU ee;refine⟨.gU (.tail _ (.tail _ (.head _))),Ext.mk rfl (Ext.mk rfl (Ext.mk rfl (ae.bB (a:=9) (b:=14) (cz.or false (λ_=>ae.bB (a:=9) (b:=2) ⟨rfl,rfl⟩) rfl λ_=>cz.or false (λ_=>ae.bB (a:=9) (b:=7) ⟨rfl,rfl⟩) rfl λ_=>Br.no ?_))))⟩;refine aa.eq (AX (x:=0) zD _) ?_;refine St.whole (r:=dZ [] 0 9) (.head _) rfl rfl (bI _ _ _) (ax.whole (r:=dZ [] 0 9) (.head _) rfl ?_);refine aQ.mk .tail (.inr ⟨t,l',hr,.inr ⟨K',S',C2,iT,rfl,rfl,⟨jT,hI.dL,by have:=hI.hb.more hh;rwa [xaH]at this⟩,λp hp=>(rj hK jT hh λh2=>qd hI.hb (xam.2 ⟨p,hp,rfl⟩) h2).2,λhF=>hno ?_⟩⟩);rw[SC,hKc];exact Fits.mono (λg hg=>ef (λg h=>h.imp (Qr hI.hb g) id) hg) hF
end
end
section
open Fm Sw aC
def tg(T:TypeId)(fz:Nat×Nat)(sp n cap:Nat)(ord:zL)(F:FN)(tr:zL)(H:Hp):Prop:=
 ∃kp mb K S ag ns es ck C,H=iI T fz::qP sp kp mb es ck C/\vN kp n cap K S ord ag tr C es ck ns/\jr S ns=F
def jf(F:FN)(t:List UInt8):Bool:=(bO F t).isSome
theorem Qu{S:Nat->aC.Fn}{ns:NS}:mc ns=jf (jr S ns):=funext λt=>by
 unfold mc jf;rw[ri];cases bO ns t<;>rfl
def Bg(T:TypeId)(fz:Nat×Nat)(sp n cap:Nat)(ord:zL)(F:FN)(tr:zL)(H:Hp):Prop:=
 Fc zQ 11 #[ptr sp] H (λv H'=>v=.tuple #[]/\tg T fz sp n cap ord F tr H')
section
variable {T:TypeId} {fz:Nat×Nat} {sp n cap:Nat} {ord:zL} {F:FN} {tr:zL} {H0:Hp}
theorem tg.bg(h:tg T fz sp n cap ord F tr H0):Bg T fz sp n cap ord F tr H0:=by
 obtain⟨kp,mb,K,S,ag,ns,es,ck,C,rfl,h1,h2⟩:=h;refine aK λg=>yP (Ld.v (v:=ptr kp) (.tail _ (.head _)) (ae.aG (Br.no ?_)));exact aQ.mk (.refl _) ⟨rfl,kp,mb,K,S,ag,ns,es,ck,C,rfl,h1,h2⟩
abbrev gN7(sp:Nat):Nat×Obj:=(sp,.cells #[.pointer none,.map none] 44 zZ)
theorem Tq(B:Hp):Fc zQ 4 #[] B (λv H=>∃sp,v=ptr sp/\H=gN7 sp::B):=by
 refine aK λg=>Sf (Build.mk (cs:=[.pointer none,.map none]) zK λsp _=>?_);exact aQ.mk (.refl _) ⟨sp,rfl,rfl⟩
theorem QR:Bg T fz sp 8 1000 (List.range 8) [] [] [iI T fz,gN7 sp]:=by
 refine aK λg=>yP (Ld.v (v:=.pointer none) (.tail _ (.head _)) (ae.jd (Br.yes ?_)));refine aa.fn hnew (Xq (n:=8) (cap:=1000) zD zD) ?_;rintro _ C ⟨kp,rfl,hK⟩;refine Ext.two (Nil.ptr (.mk (St.one (c':=#[ptr kp,.map none]) ((cu.head _).tail.aO C) rfl (show 0<2 by decide) rfl ?_)));intro mb _;refine Nil.ptr (.mk (St.one (c':=#[ptr kp,.map (some mb)]) (((cu.head _).tail.aO C).tail) rfl (show 1<2 by decide) rfl ?_));refine aQ.mk (gY:=iI T fz::qP sp kp mb #[] 0 C) (.perm ?_) ⟨rfl,kp,mb,_,_,_,[],_,_,C,rfl,⟨hK,aT.empty,.refl⟩,rfl⟩;refine(xa0 (l₁:=(mb,Obj.map #[] 0)::C) (l₂:=[iI T fz,(sp,.cells #[ptr kp,.map (some mb)] 44 zZ)])).trans ?_;exact .refl _
structure agk(T:TypeId)(fz:Nat×Nat)(sp n cap:Nat)(ord:zL)(F:FN)(tr:zL)(i:Nat)(ws:List Wd)(m:Nat)(Q:zV->Hp->Prop):Prop where
 h1:∀p,A9 m (JX (sF.getD i ([],[])).2 ws) ws=some p->∀H,tg T fz sp n cap ord F tr H->Q (nY [] p 14) H
 h2:A9 m (JX (sF.getD i ([],[])).2 ws) ws=none->∀p,A8 (jf F) (JX (sF.getD i ([],[])).2 ws) ws=some p->∀H,tg T fz sp n cap ord F tr H->Q (nY [] p 15) H
 h3:A9 m (JX (sF.getD i ([],[])).2 ws) ws=none->A8 (jf F) (JX (sF.getD i ([],[])).2 ws) ws=none->∀kp mb K S ag ns es ck C N av,vN kp n cap K S ord ag tr C es ck ns->jr S ns=F->aM 76 4 av ((rdv (JX (sF.getD i ([],[])).2 ws) ws).map qQ) N->
  Fc zQ (Rz.getD i 0) #[ptr sp,av] (N++(iI T fz::qP sp kp mb es ck C)) (λr H=>(∃t a e,r=nY t a e)/\∃N' H',H=N'++H'/\Q r H')
theorem Vc:(sF.all λc=>decide (c.2.length<=3))=true:=by decide
theorem Ry:((List.range 19).all λi=>bR zQ (Rz.getD i 0))=true:=by kernel_rfl
set_option maxHeartbeats 1000000 in
theorem pW(hB:Bg T fz sp n cap ord F tr H0){text:List UInt8}(hl:text.length<=400){w:Wd}{ws:List Wd}(hw:qL 0 none text=w::ws){i:Nat}(hc:cmd w.t=some i){Q:zV->Hp->Prop}
 (XJ:(sF.getD i ([],[])).2=[43]->∀B:Hp,Fc zQ 27 #[aq [110],nI ws.length] B (λv H=>v=aq (List.replicate ws.length 110)/\H=B))
 (hQ:agk T fz sp n cap ord F tr i ws text.length Q):Fc zQ 5 #[ptr sp,aq text] H0 Q:=by
 have hi:=Rx hc;have IW:bR zQ (Rz.getD i 0)=true:=xcp.1 Ry i (xaO.2 hi);have IT:(sF.getD i ([],[])).2.length<=3:=by
  have hi':i<sF.length:=hi;rw[xan,xab hi'];exact xcz (xcp.1 Vc _ (xaF hi'))
 obtain⟨Dp,V4⟩:=kP text 0 none;rw[hw]at Dp V4;rw[xak]at Dp;refine aK λg=>C8 λb1 _=>ae.aG (Br.no (aa.fn (.cons .here) hB ?_));rintro _ _ ⟨rfl,kp,mb,K,S,ag,ns,es,ck,C,rfl,hI,hF⟩;refine aN.of (ae.gW (b:=400) (Br.F (aa.fq (xh text hl _) ?_)));rintro v H ⟨N,rfl,hs⟩;rw[hw]at hs;refine hs.bE ?_;rw[xax,xak];refine ae.bB (b:=0) (Br.F ?_);have hv:=(Sl.fZ hs zD).mono (B':=N++((b1,Obj.cells #[aq [],nI 0,nI 0] 26 zZ)::(iI T fz::qP sp kp mb es ck C))) λy hy=>xad _ hy;refine ah.sl hv (i:=0) (r:=w.cells) rfl λp hp=>af.at hp λq hq=>Ld.at (v:=aq w.t) (r:=[nI w.a,nI w.e]) hq (λy hy=>hy) ?_;refine aa.eq (tZ sp w.t _) ?_;rw[hc];refine Ext.mk rfl (Ext.mk rfl λYB _=>St.whole (r:=pE sp i) (.head _) rfl rfl (Ak sp i) (Br.yes ?_));refine DR.of (R:=[(YB,.cells (pE sp i).toArray 50 zZ)]) (.gU (.head _)) (Ld.u (v:=aq (sF.getD i ([],[])).2) (.head _) ?_);refine cP.tail hv λv' n4=>aN.of λ_=>?_;refine aa.fq (Tx hI.dL (T:=44) (fz:=(0,0)) (kv:=ptr kp) (mb:=mb) (sp:=sp) (.tail _ (xaa _ (.tail _ (.tail _ (.head _))))) (.tail _ (xaa _ (.tail _ (.tail _ (.tail _ (.head _)))))) (sF.getD i ([],[])).2 IT ws zO (λx hx=>by have:=(V4 x (.tail _ hx)).1;simp only[xdz,xa3]at this;omega) (n4.mono λy hy=>.tail _ hy) text.length XJ) ?_;have hff:mc ns=jf F:=by rw[Qu,hF]
 rw[hff];have hS:tg T fz sp n cap ord F tr (iI T fz::qP sp kp mb es ck C):=⟨kp,mb,K,S,ag,ns,es,ck,C,rfl,hI,hF⟩;have bad:∀(p e:Nat) (N2:Hp),e≠0->Q (nY [] p e) (iI T fz::qP sp kp mb es ck C)->∀SJ:Nat,
   St 3 ((SJ,.cells #[aq [],nI 0,nI 0] 26 zZ)::(N2++((YB,.cells (pE sp i).toArray 50 zZ)::(N++((b1,Obj.cells #[aq [],nI 0,nI 0] 26 zZ)::(iI T fz::qP sp kp mb es ck C)))))) (.pointer (some ⟨SJ,0,none⟩)) (nY [] p e) λH45=>
   af 2 (.pointer (some ⟨SJ,0,none⟩)) λv46=>Ld H45 v46 λv47=>ae .num .neq v47 (iv 0) λv48=>
   Br v48 (ax 3 H45 (.pointer (some ⟨SJ,0,none⟩)) λv49=>St 3 H45 (.pointer (some ⟨b1,0,none⟩)) v49 λH50=>ax 3 H50 (.pointer (some ⟨b1,0,none⟩)) λv51=>aQ Q (.returned v51) H50) False:=λp e N2 he hq SJ=>by
  refine St.whole (r:=dZ [] p e) (.head _) rfl rfl (bI _ _ _) (Ld.u (v:=nI e) (.head _) (ae.jD (b:=0) (Br.T ?_ he)));refine ax.whole (r:=dZ [] p e) (.head _) rfl (St.whole (r:=dZ [] p e) (.tail ((cu.tail ((cu.head _).aO N)).aO N2)) rfl rfl (bI _ _ _) (ax.whole (r:=dZ [] p e) (.tail _ (xaa _ (.tail _ (xaa _ (.head _))))) rfl ?_));exact aQ.mk (.skip (.bN (.skip (.bN .tail)))) hq
 have Ij:∀{H:Hp} {p v:zV} {K1 K2:Hp->Prop},St 3 H p v K1->(∀X,K1 X->K2 X)->St 3 H p v K2:=λh hk=>by
  obtain⟨b,o,c,T,H',h1,h2,h3,h4,h5,h6⟩:=h;exact⟨b,o,c,T,H',h1,h2,h3,h4,h5,hk _ h6⟩
 have Jg:∀{v:zV} {A B:Prop},Br v A False->Br v A B:=λh=>by
  obtain⟨b,rfl,h1,h2⟩:=h;exact⟨b,rfl,h1,λe=>(h2 e).elim⟩
 have IM:∀{H:Hp} {p:zV} {K1 K2:zV->Prop},Ld H p K1->(∀X,K1 X->K2 X)->Ld H p K2:=λh hk=>by
  obtain⟨b,o,c,T,fz,v,h1,h2,h3,h4⟩:=h;exact⟨b,o,c,T,fz,v,h1,h2,h3,hk _ h4⟩
 have I6:∀{j:Nat} {p:zV} {K1 K2:zV->Prop},af j p K1->(∀X,K1 X->K2 X)->af j p K2:=λh hk=>by
  obtain⟨b,o,h1,h2⟩:=h;exact⟨b,o,h1,hk _ h2⟩
 have CE:∀{v w:zV} {K1 K2:zV->Prop},ae .num .neq v w K1->(∀X,K1 X->K2 X)->ae .num .neq v w K2:=λh hk=>by
  obtain⟨b,h1,h2⟩:=h;exact⟨b,h1,hk _ h2⟩
 rintro _ H ⟨N2,rfl,hR⟩;rcases hR with⟨p,hp,rfl⟩|⟨hn,p,hp,rfl⟩|⟨hn,P1,av,rfl,n8⟩
 ·refine⟨.bN (.gU (.head _)),Ext.mk rfl (Ext.mk rfl λSJ _ _=>?_)⟩;exact Ij (bad p 14 N2 zD (hQ.h1 p hp _ hS) SJ) λX h=>I6 h λa h=>IM h λb h=>CE h λc h=>Jg h
 ·refine⟨.bN (.gU (.head _)),Ext.mk rfl (Ext.mk rfl λSJ _ _=>?_)⟩;exact Ij (bad p 15 N2 zD (hQ.h2 hn p hp _ hS) SJ) λX h=>I6 h λa h=>IM h λb h=>CE h λc h=>Jg h
 refine⟨.bN (.gU (.head _)),Ext.mk rfl (Ext.mk rfl λSJ _ _=>?_)⟩;refine St.whole (r:=dZ [] 0 0) (.head _) rfl rfl (bI _ _ _) (Ld.u (v:=nI 0) (.head _) (ae.jD (a:=0) (b:=0) (Br.F ?_)));refine Ld.u (v:=.func (.func (Rz.getD i 0)) #[ptr sp] #[]) (.tail _ (xaa _ (.head _))) (bK.of rfl IW ?_);refine aa.pre (H':=(b1,Obj.cells #[aq [],nI 0,nI 0] 26 zZ)::(N2++(iI T fz::qP sp kp mb es ck C))) ((aF.skip (.cL (.skip (.bN (.refl _))) N2)).trans (.perm xaU)) ?_;refine aa.fn (args:=#[ptr sp,av]) (.cons .here) (hQ.h3 hn P1 kp mb K S ag ns es ck C N2 av hI hF n8) ?_;rintro _ _ ⟨⟨t,a,e,rfl⟩,N',H',rfl,hq⟩;refine St.whole (r:=dZ t a e) (.head _) rfl rfl (bI _ _ _) (ax.whole (r:=dZ t a e) (.head _) rfl ?_);exact aQ.mk (.skip (.bN (.refl _))) hq
end
section
variable {T:TypeId} {fz:Nat×Nat} {sp n cap:Nat} {ord:zL} {F:FN} {tr:zL} {H0:Hp}
def R9(T:TypeId)(fz:Nat×Nat)(sp n cap:Nat)(ord:zL)(F:FN)(tr:zL)(nm l:List UInt8)(lz:Nat)(r:zV)(H:Hp):Prop:=
 (∃a e,Reads n l (.bad a e)/\e≠0/\(r=if e=14\/e=2\/e=7 then nY [] (lz+a) e else nY [] 0 e)/\tg T fz sp n cap ord F tr H)\/
 ∃t l',Reads n l (.ok t l')/\((r=nY (dec (sz n ord (λg=>g=t.fn))) 0 0/\tg T fz sp n cap ord (cY F nm t.fn) [] H)\/
  (r=nY [] 0 9/\(∃iT,tg T fz sp n cap ord F iT H)/\¬Fits (bc n ord (λg=>(∃p∈F,p.2=g)\/t.gR g)) cap))
theorem DV{nm l:List UInt8}{lz:Nat}{r:zV}{H:Hp}(h:R9 T fz sp n cap ord F tr nm l lz r H):∃t a e,r=nY t a e:=by
 rcases h with⟨a,e,_,_,rfl,_⟩|⟨t,l',_,⟨rfl,_⟩|⟨rfl,_⟩⟩
 ·split
  ·exact⟨_,_,_,rfl⟩
  exact⟨_,_,_,rfl⟩
 ·exact⟨_,_,_,rfl⟩
 exact⟨_,_,_,rfl⟩
theorem OF{kp mb:Nat}{K:Kd}{S:Nat->aC.Fn}{ag:zL}{es:Array MapEntry}{ck:Nat}{ns:NS}{C:Hp}(hI:vN kp n cap K S ord ag tr C es ck ns)(hF:jr S ns=F){nm l:List UInt8}{lz:Nat}{r:zV}{H:Hp}
 (h:acn sp kp mb n cap S ord ag tr es ck ns T fz C nm l lz r H):R9 T fz sp n cap ord F tr nm l lz r H:=by
 rcases h with⟨a,e,h1,h2,h3,rfl⟩|⟨t,l',h1,⟨x,K',S',es',cC,C',rfl,rfl,hI',hx,hs⟩|⟨K',S',C',iT,rfl,rfl,hI',hs,hno⟩⟩
 ·exact .inl ⟨a,e,h1,h2,h3,kp,mb,K,S,ag,ns,es,ck,C,rfl,hI,hF⟩
 ·exact .inr ⟨t,l',h1,.inl ⟨rfl,kp,mb,K',S',ag,_,es',cC,C',rfl,hI',by rw[Ph,rP hs,hF,hx]⟩⟩
 refine .inr ⟨t,l',h1,.inr ⟨rfl,⟨iT,kp,mb,K',S',ag,ns,es,ck,C',rfl,hI',by rw[rP hs,hF]⟩,λhf=>hno ?_⟩⟩;refine Fits.mono (λg hg=>ef (λg h=>?_) hg) hf;refine h.imp ?_ id;rintro⟨x,hx,rfl⟩;obtain⟨p,hp,rfl⟩:=xam.1 hx;exact⟨(p.1,S p.2),by rw[<-hF];exact xam.2 ⟨p,hp,rfl⟩,rfl⟩
theorem uJ(hB:Bg T fz sp n cap ord F tr H0){text:List UInt8}(hl:text.length<=400){w:Wd}{ws:List Wd}(hw:qL 0 none text=w::ws)(hc:cmd w.t=none){Q:zV->Hp->Prop}
 (zW:(wR w.t=false\/∀w2 SR,ws=w2::SR->w2.t≠[61])->∀H,tg T fz sp n cap ord F tr H->Q (nY [] w.a 15) H)
 (KR:∀w2 SR,wR w.t=true->ws=w2::SR->w2.t=[61]->n<=8/\F.length<=1000/\∀r H,R9 T fz sp n cap ord F tr w.t (text.drop (w2.e+EX (text.drop w2.e))) (w2.e+EX (text.drop w2.e)) r H->Q r H):
  Fc zQ 5 #[ptr sp,aq text] H0 Q:=by
 obtain⟨Dp,V4⟩:=kP text 0 none;rw[hw]at Dp V4;rw[xak]at Dp;have aaA:w.t.length<=400:=by
  have:=(V4 w (.head _)).1;simp only[xdz,xa3]at this;omega
 refine aK λg=>C8 λb1 _=>ae.aG (Br.no (aa.fn (.cons .here) hB ?_));rintro _ _ ⟨rfl,kp,mb,K,S,ag,ns,es,ck,C,rfl,hI,hF⟩;have hS:tg T fz sp n cap ord F tr (iI T fz::qP sp kp mb es ck C):=⟨kp,mb,K,S,ag,ns,es,ck,C,rfl,hI,hF⟩;refine aN.of (ae.gW (b:=400) (Br.F (aa.fq (xh text hl _) ?_)));rintro v H ⟨N,rfl,hs⟩;rw[hw]at hs;refine hs.bE ?_;rw[xax,xak];refine ae.bB (b:=0) (Br.F ?_);have Y7:=Sl.fZ hs zD;refine ah.sl Y7 (i:=0) (r:=w.cells) rfl λp hp=>af.at hp λq hq=>Ld.at (v:=aq w.t) (r:=[nI w.a,nI w.e]) hq (λy hy=>xad _ hy) ?_;refine aa.eq (tZ sp w.t _) ?_;rw[hc];refine Ext.mk rfl (Ext.mk rfl λYB _=>St.whole (r:=[aq [],aq [],.nilFunc]) (.head _) rfl rfl zh (Br.no ?_));refine ah.sl Y7 (i:=0) (r:=w.cells) rfl λp hp=>af.at hp λq hq=>Ld.at (v:=aq w.t) (r:=[nI w.a,nI w.e]) hq (λy hy=>.tail _ (xad _ hy)) ?_;refine aa.eq (AW sp w.t aaA _) (Un.not ?_)
 /- a fault -/
 have bad:(wR w.t=false\/∀w2 SR,ws=w2::SR->w2.t≠[61])->ah 3 v (nI 0) λv74=>af 1 v74 λv75=>Ld ((YB,.cells #[aq [],aq [],.nilFunc] 50 zZ)::(N++((b1,Obj.cells #[aq [],nI 0,nI 0] 26 zZ)::(iI T fz::qP sp kp mb es ck C)))) v75 λv76=>
   aa zQ g 12 #[v76,nI 15] ((YB,.cells #[aq [],aq [],.nilFunc] 50 zZ)::(N++((b1,Obj.cells #[aq [],nI 0,nI 0] 26 zZ)::(iI T fz::qP sp kp mb es ck C)))) (λv77 H78=>
   St 3 H78 (.pointer (some ⟨b1,0,none⟩)) v77 λH79=>ax 3 H79 (.pointer (some ⟨b1,0,none⟩)) λv80=>aQ Q (.returned v80) H79) (cv (aQ Q)):=λhb=>by
  refine ah.sl Y7 (i:=0) (r:=w.cells) rfl λp hp=>af.at hp λq hq=>Ld.at (v:=nI w.a) (r:=[nI w.e]) hq (λy hy=>.tail _ (xad _ hy)) ?_;refine aa.eq (mY w.a 15 _) (St.whole (r:=dZ [] w.a 15) (.tail ((cu.head _).aO N)) rfl rfl (bI _ _ _) (ax.whole (r:=dZ [] w.a 15) (.tail _ (xaa _ (.head _))) rfl ?_));exact aQ.mk (.skip (.bN .tail)) (zW hb _ hS)
 cases hnm:wR w.t with
 |false=>
  refine cz.or true (λh=>absurd h zD) rfl λ_=>cz.or true (λh=>absurd h zD) rfl λ_=>Br.yes ?_;exact bad (.inl hnm)
 |true=>
  refine cz.or (decide (ws.length+1<2)) (λ_=>hs.bE ?_) rfl λ_=>?_
  ·rw[xax,xak];exact ae.cX (b:=2) ⟨rfl,rfl⟩
  rw[show(!true)=false from rfl,xdZ];cases ws with
  |nil=>
   refine cz.or true (λh=>absurd h zD) rfl λ_=>Br.yes ?_;exact bad (.inr λ_ _ e=>by cases e)
  |cons w2 SR=>
   rw[xap (by rw[xak];omega)];refine cz.or (decide (w2.t≠[61])) (λ_=>?_) rfl λ_=>?_
   ·refine ah.sl Y7 (i:=1) (r:=w2.cells) rfl λp hp=>af.at hp λq hq=>Ld.at (v:=aq w2.t) (r:=[nI w2.a,nI w2.e]) hq (λy hy=>.tail _ (xad _ hy)) ?_;exact ae.AT (b:=[61]) ⟨rfl,rfl⟩
   rw[xdZ];refine Br.dec (λhne=>bad (.inr λ_ _ e=>by cases e;exact hne)) (λheq=>?_);have heq:w2.t=[61]:=xer.1 heq;obtain⟨hn8,z7,KR⟩:=KR w2 SR hnm rfl heq;have Wp:w2.e<=text.length:=by have:=(V4 w2 (.tail _ (.head _))).2;omega
   have Dv:=RK (text.drop w2.e);rw[xbS]at Dv;refine DR.of (R:=(b1,Obj.cells #[aq [],nI 0,nI 0] 26 zZ)::N) (.skip ((aF.perm xa0).trans (.cons ?_))) ?_
   ·exact .right
   refine ah.sl Y7 (i:=0) (r:=w.cells) rfl λp hp=>af.at hp λq hq=>Ld.at (v:=aq w.t) (r:=[nI w.a,nI w.e]) hq (λy hy=>.tail _ hy) ?_;refine ah.sl Y7 (i:=1) (r:=w2.cells) rfl λp hp=>ax.at hp rfl zD (λy hy=>.tail _ hy) ?_;refine aa.eq (Oy text hl w2 Wp _) ⟨.skip ((aF.perm xa0).trans (.cons .right)),?_⟩;refine aa.fn (args:=#[ptr sp,aq w.t,aq text,nI (w2.e+EX (text.drop w2.e))]) (.cons (.app (.cons .here))) (Xe hI hn8 (by rw[<-hF]at z7;unfold jr at z7;rw[xax]at z7;exact z7) zO hl) ?_;rintro r H hr;have hq:=KR r H (OF hI hF hr);obtain⟨t,a,e,rfl⟩:=DV (OF hI hF hr);refine⟨.skip ((aF.perm xa0).trans (.cons .right)),?_⟩;refine St.whole (r:=dZ t a e) (.tail ((cu.head _).aO N)) rfl rfl (bI _ _ _) (ax.whole (r:=dZ t a e) (.tail _ (xaa _ (.head _))) rfl ?_);exact aQ.mk (.skip (.bN .tail)) hq
end
section
variable {T:TypeId} {fz:Nat×Nat} {sp kp mb n cap:Nat} {ord ag tr:zL} {F:FN} {K:Kd} {S:Nat->aC.Fn} {es:Array MapEntry} {ck:Nat} {ns:NS} {C N:Hp} {av:zV}
theorem vN.get(hI:vN kp n cap K S ord ag tr C es ck ns)(hF:jr S ns=F){t:List UInt8}{f:aC.Fn}(h:bO F t=some f):∃r,bO ns t=some r/\S r=f/\aC.live K.N r:=by
 rw[<-hF,ri]at h;cases hr:bO ns t with
 |none=>rw[hr]at h;cases h
 |some r=>
  rw[hr]at h;cases h;exact⟨r,rfl,rfl,zY hI.hb hI.ks (xam.2 ⟨(t,r),(fe hI.dL.nd).1 hr,rfl⟩)⟩
abbrev ZM(Q:zV->Hp->Prop):zV->Hp->Prop:=λr H=>(∃t a e,r=nY t a e)/\∃N' H',H=N'++H'/\Q r H'
end
section
variable {T:TypeId} {fz:Nat×Nat} {sp kp mb n cap:Nat} {ord ag tr:zL} {F:FN} {K:Kd} {S:Nat->aC.Fn} {es:Array MapEntry} {ck:Nat} {ns:NS} {C N H0:Hp} {av:zV}
theorem AO(b:Bool)(B:Hp):Rd zQ 102 #[.bool b] B (· =aq [if b then 49 else 48]):=by
 refine aK λg=>HM ?_;cases b
 ·exact Br.no (bD.mk (.refl _) rfl)
 exact Br.yes (bD.mk (.refl _) rfl)
theorem LG{w0:Wd×Nat}{fa:aC.Fn}(hI:vN kp n cap K S ord ag tr C es ck ns)(hF:jr S ns=F)(n8:aM 76 4 av ([w0].map qQ) N)(ha:bO F w0.1.t=some fa)(hs:sat n fa<1000):
  Fc zQ (Rz.getD 8 0) #[ptr sp,av] (N++(iI T fz::qP sp kp mb es ck C)) (ZM (λr H=>r=nY (dec (sat n fa)) 0 0/\tg T fz sp n cap ord F tr H)):=by
 obtain⟨a,h1,rfl,hla⟩:=hI.get hF ha;have hK:=hI.ks;have hv:=(Sl.fZ n8 zD);have mem:∀{x:Nat×Obj},x∈[iI T fz,(sp,.cells #[ptr kp,.map (some mb)] 44 zZ),(mb,.map es ck)]->x∈N++[iI T fz,(sp,.cells #[ptr kp,.map (some mb)] 44 zZ),(mb,.map es ck)]:=λh=>xaa _ h;refine aK λg=>MF λb1 _=>DR.of (R:=N++[iI T fz,(sp,.cells #[ptr kp,.map (some mb)] 44 zZ),(mb,.map es ck)]) (.skip (.cL (.cons (.cons (.cons .nil))) N)) ?_;refine Ld.v (v:=ptr kp) (mem (.tail _ (.head _))) (Ld.v (v:=.map (some mb)) (mem (.tail _ (.head _))) ?_);refine ah.sl hv (i:=0) (r:=qQ w0) rfl λp hp=>af.at hp λq hq=>af.at hq λq2 tu=>Ld.at (v:=aq w0.1.t) (r:=[nI w0.1.a,nI w0.1.e,nI w0.2]) tu (λy hy=>xad _ hy) ?_;refine hI.dL.hit (k:=w0.1.t) iW (b:=mb) (mem (.tail _ (.tail _ (.head _)))) h1 λv V6=>?_;subst V6;refine aa.eh (args:=#[ptr kp,u32 a]) (.cons (.app (.cons (.cons (.cons .here))))) (Rp hK hla) ⟨.skip (.cL (.cons (.cons (.cons .nil))) N),Ext.two ?_⟩;rw[show K.n=n from hI.hb.n,xa5 (show sat n (S a)<DE by have:DE=18446744073709551616:=rfl;omega)];refine aa.eq (Rf hs (.tail _ (xaa _ (.head _)))) (aa.eq (pN _ 0 _) ?_);refine St.whole (r:=dZ (dec (sat n (S a))) 0 0) (.head _) rfl rfl (bI _ _ _) (ax.whole (r:=dZ (dec (sat n (S a))) 0 0) (.head _) rfl ?_);exact aQ.mk .tail ⟨⟨_,_,_,rfl⟩,N,_,rfl,rfl,kp,mb,K,S,ag,ns,es,ck,C,rfl,hI,hF⟩
theorem zi{s:List UInt8}{ws:List Wd}(h:s≠[43]):JX s ws=s:=by unfold JX;rw[xac h]
theorem xM(hB:Bg T fz sp n cap ord F tr H0){text:List UInt8}{w x:Wd}{f:aC.Fn}(hl:text.length<=400)(hw:qL 0 none text=[w,x])(hc:cmd w.t=some 8)(hr:A9 text.length [115] [x]=none)(hx:bO F x.t=some f)(hs:sat n f<1000):
  Fc zQ 5 #[ptr sp,aq text] H0 (λr H=>r=nY (dec (sat n f)) 0 0/\tg T fz sp n cap ord F tr H):=by
 have e1:jf F x.t=true:=by unfold jf;rw[hx];rfl
 refine pW hB hl hw hc (λh=>absurd h zD) ⟨λp hp=>?_,λ_ p hp H hS=>?_,λ_ hn kp mb K S ag ns es ck C N av hI hF n8=>?_⟩
 ·rw[zi zD]at hp;have:A9 text.length [115] [x]=some p:=hp;rw[hr]at this;cases this
 ·rw[zi zD]at hp;have hp:A8 (jf F) [115] [x]=some p:=hp;simp[A8,e1]at hp
 rw[zi zD]at n8;exact LG hI hF (w0:=(x,_)) n8 hx hs
end
end
section
open Fm aC
def WO(g:Gh)(a0 a1 v3:zV)(H:Hp)(K:Hp->Prop):Prop:=
aZ zQ g (bM Tryz.f130 1 1) (ev (λs=>cond (Nat.beq s 6) v3 (undef))) H λv5=>
Br v5 (
∀J6:Jt,(∀H8:Hp,(∀gs7:Fr,
St 1 H8 a0 (.string (ByteArray.mk #[])) λH9=>
St 1 H9 a1 (Value.int .i64 13) λH10=>
K H10)->J6 [] H8)->
aZ zQ g (bM Tryz.f130 2 1) (ev (λs=>cond (Nat.beq s 9) v3 (undef))) H λv11=>
Ext 0 v11 λv12=>
Ext 1 v11 λv13=>
Fb H (.cells #[] 209 zZ) λb14 H15=>
St 0 H15 (.pointer (some ⟨b14,0,none⟩)) v12 λH16=>
Un .not v13 λv17=>
Br v17 (
cU zQ g (bM Tryz.f130 4 1) (ev (λs=>cond (Nat.beq s 15) v3 (undef))) H16 (λv18 H19=>
JE J6 [] H19) (λ_ _=>∀_:Fr,False)) (
JE J6 [] H16)) (
K H)
theorem Pn{g:Gh}{a0 a1 v:zV}{u u':FrameMode}{H:Hp}{K:Hp->Prop}(hu:(u=.returning/\v=.nilIface/\u'=.returning)\/(u=.panicking [{v,recovered:=false}]/\u'=.panicking [{v,recovered:=true}]))
 (h:WO g a0 a1 v H K):jF zQ 130 g #[a0,a1] u H K:=by
 refine jF.rec (args:=[a0,a1]) (hn:=(.n .e (.n (.h 1 [] [0,1] .e .e) .e))) func130 rfl rfl rfl rfl rfl rfl rfl rfl rfl rfl rfl hu ?_;refine Eq.mpr (?_:_=WO g a0 a1 v H K) h;kernel_rfl
theorem nt.live{N:dU}{r:Nat}{t:Tr}(h:nt N r t):live N r:=by
 cases h with
 |c0=>exact .inl zD
 |c1=>exact .inl zD
 |n h _ _ _=>exact .inr ⟨_,h⟩
theorem WY{N:dU}{r:Nat}{t:Tr}(h:nt N r t):ei t≠[]:=by
 cases h with
 |c0=>simp[ei]
 |c1=>simp[ei]
 |n h _ _ _=>simp[ei]
theorem Lm{kp:Nat}{K:Kd}{S:Nat->aC.Fn}{ord ag tr:zL}{C:Hp}(hK:cT kp K S ord ag tr C)(hv:∀r d,K.N r=some d->d.v<10){r:Nat}{t:Tr}(ht:nt K.N r t)(hl:(ei t).length<=65536):
  Rd zQ 100 #[ptr kp,u32 r] C (· =.tuple #[aq (ei t),nI 0]):=by
 refine aK λg=>HP λb4 _ b6 _=>ae.aG (Br.no ?_);refine aa.eh (args:=#[ptr kp,u32 r]) (.cons (.cons .here)) (kx hK.rep (by have:=hK.dz ht.live;omega)) ?_;rw[cg.2 ht.live];obtain⟨h3,h1⟩:=bJ K.N r;refine Ext.mk rfl (Ext.mk rfl λRQ _=>St.whole (r:=got K.N r) (.head _) rfl h3 h1 (ae.jD (b:=0) (Br.F λb46 _=>?_)));refine aa.pre (ur [_,_,_] C _) (aa.fn (.cons (.cons (.cons .here))) (NO hK hv ht [] [SI b46 (.pointer none) (.slice none 0 0)] ⟨_,_,[],rfl,aM.nil _ _,.inl rfl⟩ (by simpa using hl)) ?_);rintro _ _ ⟨B',rfl,Yl⟩;rw[xa6]at Yl;refine aa.rd (.cons (.cons (.cons .left))) (qj Yl) ?_;rintro _ rfl;refine ae.gW (b:=65536) (Br.F (aa.fn (.cons (.cons (.cons .left))) (EW Yl (WY ht) zO) ?_));rintro _ X rfl;refine St.one (c':=#[aq (ei t)]) (.tail (.tail (.head _))) rfl (show 0<1 by decide) rfl ?_;refine St.one (c':=#[nI 0]) (.tail (.head _)) rfl (show 0<1 by decide) rfl ?_;refine Pn (v:=.nilIface) (u':=.returning) (.inl ⟨rfl,rfl,rfl⟩) (aZ.zw rfl rfl rfl ⟨#[],by kernel_rfl⟩ (.inl ⟨rfl,rfl,_,rfl⟩) (Br.no ?_));refine Ld.mk (.tail _ (.tail _ (.head _))) rfl (Ld.mk (.tail _ (.head _)) rfl ?_);exact bD.mk (.skip (.skip (.skip .right))) rfl
section
variable {kp:Nat} {K:Kd} {S:Nat->aC.Fn} {ord ag tr:zL} {C:Hp}
theorem Tt(hK:cT kp K S ord ag tr C)(hn:K.n<=10):∀(k r:Nat),K.n-dep K.n (lv ag) K.N r<=k->live K.N r->∃t,nt K.N r t/\Wr t/\t.Fit K.n/\t.DB<=k/\t.fn=S r:=by
 have hi:=hK.ok.mid.int;have hw:=hK.ok.wf;intro k;induction k with
 |zero=>
  intro r hk hr;by_cases h2:r<2
  ·have NJ:r=0\/r=1:=by omega
   rcases NJ with rfl|rfl
   ·exact⟨_,.c0,.c0,.inl rfl,xal _,by rw[funext hi.zero];rfl⟩
   exact⟨_,.c1,.c1,.inr rfl,xal _,by rw[funext hi.one];rfl⟩
  obtain⟨d,hd⟩:=hr.resolve_left h2;have h1:=hw.lo hd;have h3:=hw.gI hK.ok.lv d.lo;rw[ay hd]at hk;omega
 |succ k ih=>
  intro r hk hr;by_cases h2:r<2
  ·have NJ:r=0\/r=1:=by omega
   rcases NJ with rfl|rfl
   ·exact⟨_,.c0,.c0,.inl rfl,xaA _,by rw[funext hi.zero];rfl⟩
   exact⟨_,.c1,.c1,.inr rfl,xaA _,by rw[funext hi.one];rfl⟩
  obtain⟨d,hd⟩:=hr.resolve_left h2;have h1:=hw.lo hd;have h3:=hw.hi hd;rw[ay hd]at hk;obtain⟨a,a1,a2,a3,a4,a5⟩:=ih d.hi zO h3.1;obtain⟨b,b1,b2,b3,b4,b5⟩:=ih d.lo zO h1.1;have hv:=hw.var hd;refine⟨.ite (.v d.v) a b,.n hd zO a1 b1,.n zO a2 b2,⟨hv,a3,b3⟩,by show max a.DB b.DB+1<=k+1;omega,?_⟩
  funext x
  show(if x.testBit d.v then a.fn x else b.fn x)=_;rw[a5,b5,hi.node hd]
end
def YY(f:Nat->Bool):Nat->Nat
 |0=>0
 |m+1=>YY f m+if f m then 2^m else 0
theorem Pj(f:Nat->Bool):∀m,YY f m<2^m
 |0=>by show 0<1;decide
 |m+1=>by
  have:=Pj f m;unfold YY;rw[xcB];split<;>omega
theorem IG(f:Nat->Bool):∀m j,j<m->(YY f m).testBit j=f j
 |m+1,j,h=>by
  have hl:=Pj f m;unfold YY;by_cases hj:j=m
  ·subst hj;cases hf:f j with
   |true=>simp only[xa7];rw[xcP,Nat.testBit_two_pow_add_eq,xbN hl];rfl
   |false=>simp only[xaD,xaT,xbY];exact xbN hl
  ·have ih:=IG f m j zO;cases hf:f m with
   |true=>simp only[xa7];rw[xcP,Nat.testBit_two_pow_add_gt zO];exact ih
   |false=>simp only[xaD,xaT,xbY];exact ih
theorem Fm.Tr.ij{n:Nat}:∀{t:Tr},t.Fit n->∀x,t.fn (x%2^n)=t.fn x
 | .c k,_,x=>rfl
 | .v m,h,x=>by
  have hm:m<n:=h;show(x%2^n).testBit m=x.testBit m;rw[xbl];simp[hm]
 | .no a,h,x=>by show(!a.fn (x%2^n))= !a.fn x;rw[ij (t:=a) h]
 | .bin k a b,h,x=>by
  show(Xp k).testBit (2*(a.fn (x%2^n)).toNat+(b.fn (x%2^n)).toNat)=(Xp k).testBit (2*(a.fn x).toNat+(b.fn x).toNat);rw[ij (t:=a) h.2.1,ij (t:=b) h.2.2]
 | .ite a b d,h,x=>by
  show(if a.fn (x%2^n)then b.fn (x%2^n)else d.fn (x%2^n))=if a.fn x then b.fn x else d.fn x
  rw[ij (t:=a) h.1,ij (t:=b) h.2.1,ij (t:=d) h.2.2]
theorem Fm.Tr.iV{n:Nat}{g:Nat->Bool}:∀{t:Tr},t.Fit n->t.gR g->∀x,g (x%2^n)=g x
 | .c k,h,hg,x=>by subst hg;exact Tr.ij (t:=.c k) h x
 | .v m,h,hg,x=>by subst hg;exact Tr.ij (t:=.v m) h x
 | .no a,h,hg,x=>by
  rcases hg with rfl|hg
  ·exact Tr.ij (t:=.no a) h x
  exact iV (t:=a) h hg x
 | .bin k a b,h,hg,x=>by
  rcases hg with rfl|hg|hg
  ·exact Tr.ij (t:=.bin k a b) h x
  ·exact iV (t:=a) h.2.1 hg x
  exact iV (t:=b) h.2.2 hg x
 | .ite a b d,h,hg,x=>by
  rcases hg with rfl|hg|hg|hg
  ·exact Tr.ij (t:=.ite a b d) h x
  ·exact iV (t:=a) h.1 hg x
  ·exact iV (t:=b) h.2.1 hg x
  exact iV (t:=d) h.2.2 hg x
section
variable {n:Nat} {ord:zL}
theorem Tf(hn:n<=16){f:aC.Fn}(hf:∀x,f (x%2^n)=f x):∃ws,ak.dA n ws/\fB n ws=f:=
 ⟨mN n λi=>YY (λj=>f (64*i+j)) 64,gG hn,ji (λx _=>by rw[IG _ _ _ (xbx _ zD),xdr]) hf⟩
theorem OD{L:List (zL)}(hn:n<=8)(Ds:1<=n)(hf:∀t∈L,ak.dA n t)(hp:ord.Perm (List.range n)):fM n ord L n<=127*L.length+2:=by
 have h1:=xw n ord L (n-1);have h2:=Ps (L:=L) hf zO Ds hp;have h4:2^(n-1)*L.length<=128*L.length:=xba _ (xbZ (xat zD (show n-1<=7 by omega)) zD);have e:fM n ord L n=fM n ord L (n-1)+(pX n ord L (n-1)).length:=by
  obtain⟨m,rfl⟩:∃m,n=m+1:=⟨n-1,by omega⟩;rfl
 rw[e];omega
theorem Vb(hn:n<=8)(Ds:1<=n)(L:List aC.Fn)(hL:∀f∈L,∀x,f (x%2^n)=f x){P:aC.Fn->Prop}(hP:∀g,P g->g∈L):∃Ts:List (zL),Ts.length=L.length/\(∀t∈Ts,ak.dA n t)/\∀g,P g->FT n Ts g:=by
 have key:∀L:List aC.Fn,(∀f∈L,∀x,f (x%2^n)=f x)->∃Ts:List (zL),Ts.length=L.length/\(∀t∈Ts,ak.dA n t)/\∀g∈L,FT n Ts g:=by
  intro L;induction L with
  |nil=>exact λ_=>⟨[],rfl,nofun,nofun⟩
  |cons f L ih=>
   intro h;obtain⟨Ts,h1,h2,h3⟩:=ih λg hg=>h g (.tail _ hg);obtain⟨ws,hw,e⟩:=Tf zO (h f (.head _));refine⟨ws::Ts,by simp[h1],λt ht=>?_,λg hg=>?_⟩
   ·rcases xag.1 ht with rfl|ht
    ·exact hw
    exact h2 t ht
   rcases xag.1 hg with rfl|hg
   ·exact⟨ws,.head _,e.symm⟩
   obtain⟨t,ht,e'⟩:=h3 g hg;exact⟨t,.tail _ ht,e'⟩
 obtain⟨Ts,h1,h2,h3⟩:=key L hL;exact⟨Ts,h1,h2,λg hg=>h3 g (hP g hg)⟩
theorem Q1(hn:n<=8)(Ds:1<=n)(hp:ord.Perm (List.range n))(L:List aC.Fn)(hL:∀f∈L,∀x,f (x%2^n)=f x){c:Nat}(hc:127*L.length+4<=c){P:aC.Fn->Prop}(hP:∀g,P g->g∈L):Fits (bc n ord P) c:=by
 obtain⟨Ts,h1,h2,h3⟩:=Vb hn Ds L hL hP;have hs:=OD (ord:=ord) hn Ds h2 hp;exact Fits.mono (λg hg=>ef (G:=FT n Ts) h3 hg) ⟨_,Rw h2 zO (tj hp),by omega⟩
end
end
section
open Fm Sw aC
def yQ:Tr:=.bin 5 (.v 0) (.v 1)
theorem NT:Reads 8 [120,48,32,38,32,120,49] (.ok yQ []):=by
 have e0:cD [120,48,32,38,32,120,49]=(3,0,2):=rfl;have e1:cD [38,32,120,49]=(5,0,1):=rfl;have e2:cD [120,49]=(3,1,2):=rfl;have ht:dh 0 [120,48,32,38,32,120,49] [⟨3,0,0⟩,⟨5,3,0⟩,⟨3,5,1⟩,⟨0,7,0⟩]:=
  dh.step e0 zD zD (.blank (dh.step e1 zD zD (.blank (dh.step e2 zD zD .fin))))
 refine .mk zD ht (.call (r:=.ok yQ [⟨0,7,0⟩]) (Ev.up 4 0 zD (λt x l' e m _ h=>?_) (λ_ e=>by cases e) ?_) (Ev.cO rfl .done))
 ·cases e;have:m=0\/m=1\/m=2\/m=3:=by omega
  rcases this with rfl|rfl|rfl|rfl<;>decide
 exact .call (r:=.ok (.v 0) [⟨5,3,0⟩,⟨3,5,1⟩,⟨0,7,0⟩]) (Ev.t5 .done) (.call (.call (r:=.ok (.v 1) [⟨0,7,0⟩]) (Ev.t5 .done) (.call .done .done)) .done)
theorem NU:yQ.Fit 8:=⟨by decide,(by show 0<8;decide),(by show 1<8;decide)⟩
theorem VC:fB 8 (mN 8 λ_=>9838263505978427528)=yQ.fn:=by
 refine ji (λx hx=>?_) (Tr.ij (t:=yQ) NU);have h:∀x:Fin 256,((λ_=>9838263505978427528:Nat->Nat) (x.1/64)).testBit (x.1%64)=yQ.fn x.1:=by decide+kernel
 exact h ⟨x,hx⟩
theorem SS:fM 8 (List.range 8) [mN 8 λ_=>9838263505978427528] 8=2:=by decide+kernel
theorem ZQ:sz 8 (List.range 8) (λg=>g=yQ.fn)=2:=by
 have h:=Oj (n:=8) (ord:=List.range 8) (L:=[mN 8 λ_=>9838263505978427528]) (λt ht=>by rw[xaG.1 ht];exact gG zD) zD (tj (.refl _));rw[SS]at h;have e:FT 8 [mN 8 λ_=>9838263505978427528]=λg=>g=yQ.fn:=funext λg=>propext ⟨λ⟨t,ht,e⟩=>by rw[e,xaG.1 ht,VC],λe=>⟨_,.head _,by rw[e,VC]⟩⟩;rw[<-e];exact h
theorem NP:sat 8 yQ.fn=64:=by decide+kernel
theorem Fm.Tr.Ot{t:Tr}{n:Nat}(hf:t.Fit n):∀g∈t.all,∀x,g (x%2^n)=g x:=λg hg=>Tr.iV hf (Tr.gQ.2 hg)
section
variable {T:TypeId} {fz:Nat×Nat} {sp kp mb n cap:Nat} {ord ag tr:zL} {F:FN} {K:Kd} {S:Nat->aC.Fn} {es:Array MapEntry} {ck:Nat} {ns:NS} {C N H0:Hp} {av:zV}
theorem IL(hB:Bg T fz sp n cap ord F tr H0){text:List UInt8}{w:Wd}{ws:List Wd}{i:Nat}{sh:List UInt8}(hl:text.length<=400)(hw:qL 0 none text=w::ws)(hc:cmd w.t=some i)(hsh:JX (sF.getD i ([],[])).2 ws=sh)(hr:A9 text.length sh ws=none)(hn:A8 (jf F) sh ws=none){Q:zV->Hp->Prop}
 (h:∀kp mb K S ag ns es ck C N av,vN kp n cap K S ord ag tr C es ck ns->jr S ns=F->aM 76 4 av ((rdv sh ws).map qQ) N->Fc zQ (Rz.getD i 0) #[ptr sp,av] (N++(iI T fz::qP sp kp mb es ck C)) (ZM Q)):
  Fc zQ 5 #[ptr sp,aq text] H0 Q:=by
 obtain⟨Dp,_⟩:=kP text 0 none;rw[hw,xak]at Dp;refine pW hB hl hw hc (λ_ B=>Kj zO B) ⟨λq hq=>?_,λ_ q hq=>?_,λ_ _=>by rw[hsh];exact h⟩
 ·rw[hsh,hr]at hq;cases hq
 rw[hsh,hn]at hq;cases hq
end
theorem qp{n:Nat}:(dec n).length<=4/\dec n≠[]:=by
 unfold dec;split
 ·exact⟨by simp,by simp⟩
 split
 ·exact⟨by simp,by simp⟩
 split
 ·exact⟨by simp,by simp⟩
 exact⟨by simp,by simp⟩
section
variable {T:TypeId} {fz:Nat×Nat} {sp kp mb n cap:Nat} {ord ag tr:zL} {F:FN} {K:Kd} {S:Nat->aC.Fn} {es:Array MapEntry} {ck:Nat} {ns:NS} {C N H0:Hp} {av:zV}
theorem vN.few(hI:vN kp n cap K S ord ag tr C es ck ns)(hF:jr S ns=F)(o:zL):∃k,k<=F.length*2^n/\pA (bc n o (K.held S)) k:=by
 obtain⟨k,hk,hc⟩:=uD (n:=n) (ord:=o) (F:=K.held S) (L:=F.map Prod.snd) (cap:=(F.map Prod.snd).length*2^n+2) (λg hg=>by
  obtain⟨x,hx,rfl⟩:=Qr hI.hb g hg;obtain⟨p,hp,rfl⟩:=xam.1 hx;exact xam.2 ⟨(p.1,S p.2),by rw[<-hF];exact xam.2 ⟨p,hp,rfl⟩,rfl⟩) (xal _)
 rw[xax]at hc;exact⟨k,by omega,hk⟩
theorem vN.ff(hI:vN kp n cap K S ord ag tr C es ck ns)(hF:jr S ns=F)(o:zL):Proofs.ff K S o<=F.length*2^n:=by
 obtain⟨k,hk,hc⟩:=hI.few hF o;unfold Proofs.ff;rw[show K.n=n from hI.hb.n,AR hc];exact hk
theorem vN.at(hI:vN kp n cap K S ord ag tr C es ck ns)(hF:jr S ns=F){o t:zL}{C2:Hp}(h:At kp K S o t C2):tg T fz sp n cap o F t (iI T fz::qP sp kp mb es ck C2):=by
 obtain⟨K',S',fG,jT,hk⟩:=h;refine⟨kp,mb,K',S',fG,ns,es,ck,C2,rfl,⟨jT,hI.dL,hI.hb.kept hk⟩,?_⟩;rw[rP (S:=S) λp hp=>?_,hF];by_cases h2:2<=p.2
 ·exact hk.fn p.2 (qd hI.hb (xam.2 ⟨p,hp,rfl⟩) h2)
 have NJ:p.2=0\/p.2=1:=by omega
 rcases NJ with e|e<;>rw[e]
 ·rw[funext hI.ks.ok.mid.int.zero,funext jT.ok.mid.int.zero]
 rw[funext hI.ks.ok.mid.int.one,funext jT.ok.mid.int.one]
def OrQ(T:TypeId)(fz:Nat×Nat)(sp n cap:Nat)(F:FN)(tr:zL)(r:zV)(H:Hp):Prop:=
 ∃t ord' iT,r=nY t 0 0/\tg T fz sp n cap ord' F iT H/\iT.length<=tr.length+66*(F.length*2^n)+n*n
theorem r4(hI:vN kp n cap K S ord ag tr C es ck ns)(hF:jr S ns=F)(hF1:F.length*2^n<=600){s gr:Nat}(AA:∀k,k<=F.length*2^n->swB n k s<10000)(hrun:Fc zQ 147 #[ptr kp,.int .u8 (s:Int),iv (gr:Int)] C (Sa kp K S ord tr s)):
  Fc zQ 112 #[ptr sp,.int .u8 (s:Int),nI gr] (iI T fz::qP sp kp mb es ck C) (OrQ T fz sp n cap F tr):=by
 have SC:K.n=n:=hI.hb.n;refine aK λg=>HC λb1 _=>Ld.v (v:=ptr kp) (.tail _ (.tail _ (.head _))) ?_;refine aa.fn (args:=#[ptr kp,.int .u8 (s:Int),nI gr]) (.cons (.cons (.cons (.cons .here)))) hrun ?_;rintro _ C2 ⟨ls,c,d,rfl,hA,hSt,hc,_⟩;have ka:=hI.ff hF ord;have kb:=hI.ff hF (aJ ord ls);have hls:ls.length+66*Proofs.ff K S (aJ ord ls)<=66*Proofs.ff K S ord:=hSt.len;have hc4:c<10000:=by
  rw[SC]at hc;exact xaE hc (AA _ ka)
 generalize hea:Proofs.ff K S ord=a at*;generalize heb:Proofs.ff K S (aJ ord ls)=b at*;refine Ext.two λyC _=>St.whole (r:=[nI a,nI b,nI c,.bool d]) (.head _) rfl rfl (by intro v hv;simp only[xag,xaw,xaZ]at hv;rcases hv with rfl|rfl|rfl|rfl<;>rfl) ?_;have hent:∀X:Hp,aF ((yC,Obj.cells [nI a,nI b,nI c,Value.bool d].toArray 224 zZ)::(b1,Obj.cells #[aq [],nI 0,nI 0] 26 zZ)::iI T fz::X) [(yC,Obj.cells [nI a,nI b,nI c,Value.bool d].toArray 224 zZ)]:=λX=>.gU (.head _);refine DR.of (hent _) (Ld.u (v:=nI a) (.head _) (Ld.u (v:=nI b) (.head _) (Ld.u (v:=nI c) (.head _) (Ld.u (v:=.bool d) (.head _) ?_))));refine aa.eq (qn (n:=a) zO (.tail _ (.tail _ (.head _)))) ⟨hent _,aa.eq (qn (n:=b) zO (.tail _ (.tail _ (.head _)))) ⟨hent _,aa.eq (qn (n:=c) hc4 (.tail _ (.tail _ (.head _)))) ⟨hent _,aa.eq (AO d _) ⟨hent _,?_⟩⟩⟩⟩;refine aj.m9 (e:=9) (z:=aq []) [aq (dec a),aq (dec b),aq (dec c),aq [if d then 49 else 48]] zK zK zK (by show 4<=16777216;decide) (by intro r hr;simp only[xag,xaw,xaZ]at hr;rcases hr with rfl|rfl|rfl|rfl<;>rfl) rfl rfl λbw=>⟨.gU (.tail _ (.head _)),?_⟩;have hv:Sl 1 [(bw,Obj.cells (rows [[aq (dec a)],[aq (dec b)],[aq (dec c)],[aq [if d then 49 else 48]]]) 9 zZ)] (.slice (some ⟨bw,0,none⟩) 4 4) [[aq (dec a)],[aq (dec b)],[aq (dec c)],[aq [if d then 49 else 48]]]:=Sl.fZ (aM.made (T:=9) (k:=1) (b:=bw) [[aq (dec a)],[aq (dec b)],[aq (dec c)],[aq [if d then 49 else 48]]] (λr hr=>by simp only[xag,xaw,xaZ]at hr;rcases hr with rfl|rfl|rfl|rfl<;>rfl)) zD;refine aa.rq (PC (hv.mono λy hy=>?_) qp.2 ⟨by have:=(qp (n:=a)).1;omega,by have:=(qp (n:=b)).1;omega,by have:=(qp (n:=c)).1;omega,by show 1<=100;decide⟩) ?_
 ·rw[xaG.1 hy];exact .head _
 rintro _ ⟨t,rfl⟩;refine⟨.gU (.tail _ (.head _)),aa.eq (pN t 0 _) ⟨.gU (.tail _ (.head _)),?_⟩⟩;refine St.whole (r:=dZ t 0 0) (.tail (.tail (.head _))) rfl rfl (bI _ _ _) (ax.whole (r:=dZ t 0 0) (.tail _ (.tail _ (.head _))) rfl ?_);refine aQ.mk (.skip (.skip .tail)) ⟨t,_,_,rfl,hI.at hF hA,?_⟩;rw[xaf];omega
theorem Oq{n k s:Nat}(hn:n<=8)(h:s=1\/s=3\/s=4\/s=5\/s=6\/(s=2/\n<=6/\k<=64)):swB n k s<10000:=by
 have hnn:n*(n-1)<=56:=xbZ (xcJ hn (show n-1<=7 by omega)) zD;have hn3:3*n*(n-1)<=168:=by rw[xcu];omega
 rcases h with rfl|rfl|rfl|rfl|rfl|⟨rfl,h6,hk⟩
 ·show 3*n*(n-1)<10000;omega
 ·show(n-1)*2<10000;omega
 ·show(n-2)*10<10000;omega
 ·show(n-3)*46<10000;omega
 ·show n*(n-1)<10000;omega
 have h30:n*(n-1)<=30:=xbZ (xcJ h6 (show n-1<=5 by omega)) zD;have h90:3*n*(n-1)<=90:=by rw[xcu];omega
 show 3*n*(n-1)*(k+1)<10000;exact xaE (xcJ h90 (show k+1<=65 by omega)) zD
theorem LD{a:Wd×Nat}(hI:vN kp n cap K S ord ag tr C es ck ns)(hF:jr S ns=F)(hn:n<=8)(hF1:F.length*2^n<=600)(n8:aM 76 4 av ([a].map qQ) N)(nN:100<=a.2/\a.2<=1000)(iy:tr.length<1000000):
  Fc zQ (Rz.getD 14 0) #[ptr sp,av] (N++(iI T fz::qP sp kp mb es ck C)) (ZM (OrQ T fz sp n cap F tr)):=by
 have hv:=(Sl.fZ n8 zD);have hr:=r4 (T:=T) (fz:=fz) (sp:=sp) (mb:=mb) hI hF hF1 (s:=1) (λk _=>Oq hn (.inl rfl)) (OO hI.ks.at' hI.ks.perm nN zO);refine aK λg=>ME λb1 _=>?_;refine ah.sl hv (i:=0) (r:=qQ a) rfl λp hp=>af.at hp λq hq=>Ld.at (v:=nI a.2) (r:=[]) hq (λy hy=>.tail _ (xad _ hy)) ?_;refine aa.fn (args:=#[ptr sp,.int .u8 ((1:Nat):Int),nI a.2]) (.cons (.app .here)) hr ?_;rintro _ H ⟨t,o,t',rfl,h⟩;refine St.whole (r:=dZ t 0 0) (.head _) rfl rfl (bI _ _ _) (ax.whole (r:=dZ t 0 0) (.head _) rfl ?_);exact aQ.mk .tail ⟨⟨_,_,_,rfl⟩,N,_,rfl,t,o,t',rfl,h⟩
theorem EI(hI:vN kp n cap K S ord ag tr C es ck ns)(hF:jr S ns=F)(hn:n<=8)(hF1:F.length*2^n<=600)(iy:tr.length<1000000):
  Fc zQ (Rz.getD 17 0) #[ptr sp,av] (N++(iI T fz::qP sp kp mb es ck C)) (ZM (OrQ T fz sp n cap F tr)):=by
 refine aK λg=>MD λb1 _=>?_;refine aa.fn (args:=#[ptr sp,.int .u8 ((6:Nat):Int),nI 100]) (.cons (.app .here)) (r4 (T:=T) (fz:=fz) (sp:=sp) (mb:=mb) hI hF hF1 (s:=6) (λk _=>Oq hn (.inr (.inr (.inr (.inr (.inl rfl)))))) (ON hI.ks.at' hI.ks.perm zD (by have:K.n=n:=hI.hb.n;omega) zO)) ?_;rintro _ H ⟨t,o,t',rfl,h⟩;refine St.whole (r:=dZ t 0 0) (.head _) rfl rfl (bI _ _ _) (ax.whole (r:=dZ t 0 0) (.head _) rfl ?_);exact aQ.mk .tail ⟨⟨_,_,_,rfl⟩,N,_,rfl,t,o,t',rfl,h⟩
end
section
variable {T:TypeId} {fz:Nat×Nat} {sp kp mb n cap:Nat} {ord ag tr:zL} {F:FN} {K:Kd} {S:Nat->aC.Fn} {es:Array MapEntry} {ck:Nat} {ns:NS} {C N H0:Hp} {av:zV}
theorem LH{w0 w1:Wd×Nat}{fa:aC.Fn}(hI:vN kp n cap K S ord ag tr C es ck ns)(hF:jr S ns=F)(n8:aM 76 4 av ([w0,w1].map qQ) N)(ha:bO F w0.1.t=some fa)(hx:w1.2<9223372036854775808):
  Fc zQ (Rz.getD 7 0) #[ptr sp,av] (N++(iI T fz::qP sp kp mb es ck C)) (ZM (λr H=>r=nY [if fa w1.2 then 49 else 48] 0 0/\tg T fz sp n cap ord F tr H)):=by
 obtain⟨a,h1,rfl,hla⟩:=hI.get hF ha;have hK:=hI.ks;have hv:=(Sl.fZ n8 zD);have mem:∀{x:Nat×Obj},x∈[iI T fz,(sp,.cells #[ptr kp,.map (some mb)] 44 zZ),(mb,.map es ck)]->x∈N++[iI T fz,(sp,.cells #[ptr kp,.map (some mb)] 44 zZ),(mb,.map es ck)]:=λh=>xaa _ h;refine aK λg=>MG λb1 _=>DR.of (R:=N++[iI T fz,(sp,.cells #[ptr kp,.map (some mb)] 44 zZ),(mb,.map es ck)]) (.skip (.cL (.cons (.cons (.cons .nil))) N)) ?_;refine Ld.v (v:=ptr kp) (mem (.tail _ (.head _))) (Ld.v (v:=.map (some mb)) (mem (.tail _ (.head _))) ?_);refine ah.sl hv (i:=0) (r:=qQ w0) rfl λp hp=>af.at hp λq hq=>af.at hq λq2 tu=>Ld.at (v:=aq w0.1.t) (r:=[nI w0.1.a,nI w0.1.e,nI w0.2]) tu (λy hy=>xad _ hy) ?_;refine hI.dL.hit (k:=w0.1.t) iW (b:=mb) (mem (.tail _ (.tail _ (.head _)))) h1 λv V6=>?_;subst V6;refine ah.sl hv (i:=1) (r:=qQ w1) rfl λp hp=>af.at hp λq hq=>Ld.at (v:=nI w1.2) (r:=[]) hq (λy hy=>xad _ hy) ?_;refine aH.nat (by simp only[aS];omega) (aa.eh (args:=#[ptr kp,u32 a,.int .u64 (w1.2:Int)]) (.cons (.app (.cons (.cons (.cons .here))))) (RC hK hla zO) ⟨.skip (.cL (.cons (.cons (.cons .nil))) N),Ext.two ?_⟩);refine aa.eq (AO _ _) (aa.eq (pN _ 0 _) ?_);refine St.whole (r:=dZ [if S a w1.2 then 49 else 48] 0 0) (.head _) rfl rfl (bI _ _ _) (ax.whole (r:=dZ [if S a w1.2 then 49 else 48] 0 0) (.head _) rfl ?_);exact aQ.mk .tail ⟨⟨_,_,_,rfl⟩,N,_,rfl,rfl,kp,mb,K,S,ag,ns,es,ck,C,rfl,hI,hF⟩
def ack(T:TypeId)(fz:Nat×Nat)(sp n cap:Nat)(ord:zL)(F:FN)(tr:zL)(f:aC.Fn)(r:zV)(H:Hp):Prop:=
 ∃t,r=nY (ei t) 0 0/\Wr t/\t.Fit n/\t.DB<=n/\t.fn=f/\(ei t).length<=65536/\tg T fz sp n cap ord F tr H
theorem LF{w0:Wd×Nat}{fa:aC.Fn}(hI:vN kp n cap K S ord ag tr C es ck ns)(hF:jr S ns=F)(hn:n<=8)(n8:aM 76 4 av ([w0].map qQ) N)(ha:bO F w0.1.t=some fa):
  Fc zQ (Rz.getD 6 0) #[ptr sp,av] (N++(iI T fz::qP sp kp mb es ck C)) (ZM (ack T fz sp n cap ord F tr fa)):=by
 obtain⟨a,h1,rfl,hla⟩:=hI.get hF ha;have hK:=hI.ks;have SC:K.n=n:=hI.hb.n;have hv:=(Sl.fZ n8 zD);obtain⟨t,t1,t2,t3,t4,t5⟩:=Tt hK zO K.n a zO hla;rw[SC]at t3 t4;have afO:2^n<=2^8:=xat zD hn;have tl:(ei t).length<=65536:=by have:=SQ t2 n t4;omega
 have mem:∀{x:Nat×Obj},x∈[iI T fz,(sp,.cells #[ptr kp,.map (some mb)] 44 zZ),(mb,.map es ck)]->x∈N++[iI T fz,(sp,.cells #[ptr kp,.map (some mb)] 44 zZ),(mb,.map es ck)]:=λh=>xaa _ h;refine aK λg=>MH λb1 _=>DR.of (R:=N++[iI T fz,(sp,.cells #[ptr kp,.map (some mb)] 44 zZ),(mb,.map es ck)]) (.skip (.cL (.cons (.cons (.cons .nil))) N)) ?_;refine Ld.v (v:=ptr kp) (mem (.tail _ (.head _))) (Ld.v (v:=.map (some mb)) (mem (.tail _ (.head _))) ?_);refine ah.sl hv (i:=0) (r:=qQ w0) rfl λp hp=>af.at hp λq hq=>af.at hq λq2 tu=>Ld.at (v:=aq w0.1.t) (r:=[nI w0.1.a,nI w0.1.e,nI w0.2]) tu (λy hy=>xad _ hy) ?_;refine hI.dL.hit (k:=w0.1.t) iW (b:=mb) (mem (.tail _ (.tail _ (.head _)))) h1 λv V6=>?_;subst V6;refine aa.eh (args:=#[ptr kp,u32 a]) (.cons (.app (.cons (.cons (.cons .here))))) (Lm hK (λs d hd=>by have:=hK.ok.wf.var hd;omega) t1 tl) ⟨.skip (.cL (.cons (.cons (.cons .nil))) N),Ext.two ?_⟩;refine aa.eq (pN _ 0 _) ⟨.skip (.cL (.cons (.cons (.cons .nil))) N),?_⟩;refine St.whole (r:=dZ (ei t) 0 0) (.head _) rfl rfl (bI _ _ _) (ax.whole (r:=dZ (ei t) 0 0) (.head _) rfl ?_);exact aQ.mk .tail ⟨⟨_,_,_,rfl⟩,N,_,rfl,t,rfl,t2,t3,t4,t5,tl,kp,mb,K,S,ag,ns,es,ck,C,rfl,hI,hF⟩
theorem KC(hB:Bg T fz sp n cap ord F tr H0){text:List UInt8}{w x y:Wd}{f:aC.Fn}{k:Nat}(hl:text.length<=400)(hw:qL 0 none text=[w,x,y])(hc:cmd w.t=some 7)(hr:A9 text.length [115,110] [x,y]=none)(hx:bO F x.t=some f)(hy:VO y.t=some k)(hk:k<9223372036854775808):
  Fc zQ 5 #[ptr sp,aq text] H0 (λr H=>r=nY [if f k then 49 else 48] 0 0/\tg T fz sp n cap ord F tr H):=by
 have e1:jf F x.t=true:=by unfold jf;rw[hx];rfl
 refine pW hB hl hw hc (λh=>absurd h zD) ⟨λp hp=>?_,λ_ p hp H hS=>?_,λ_ hn kp mb K S ag ns es ck C N av hI hF n8=>?_⟩
 ·rw[zi zD]at hp;have:A9 text.length [115,110] [x,y]=some p:=hp;rw[hr]at this;cases this
 ·rw[zi zD]at hp;have hp:A8 (jf F) [115,110] [x,y]=some p:=hp;simp[A8,e1]at hp
 rw[zi zD]at n8;have e:rdv (sF.getD 7 ([],[])).2 [x,y]=[(x,(CX 115 x.t).getD 0),(y,k)]:=by
  show [(x,(CX 115 x.t).getD 0),(y,(CX 110 y.t).getD 0)]=_;have ea:CX 110 y.t=some k:=hy;rw[ea];rfl
 rw[e]at n8;exact LH hI hF (w0:=(x,_)) (w1:=(y,k)) n8 hx hk
theorem KA(hB:Bg T fz sp n cap ord F tr H0)(hn:n<=8){text:List UInt8}{w x:Wd}{f:aC.Fn}(hl:text.length<=400)(hw:qL 0 none text=[w,x])(hc:cmd w.t=some 6)(hr:A9 text.length [115] [x]=none)(hx:bO F x.t=some f):
  Fc zQ 5 #[ptr sp,aq text] H0 (ack T fz sp n cap ord F tr f):=by
 have e1:jf F x.t=true:=by unfold jf;rw[hx];rfl
 refine pW hB hl hw hc (λh=>absurd h zD) ⟨λp hp=>?_,λ_ p hp H hS=>?_,λ_ hn' kp mb K S ag ns es ck C N av hI hF n8=>?_⟩
 ·rw[zi zD]at hp;have:A9 text.length [115] [x]=some p:=hp;rw[hr]at this;cases this
 ·rw[zi zD]at hp;have hp:A8 (jf F) [115] [x]=some p:=hp;simp[A8,e1]at hp
 rw[zi zD]at n8;exact LF hI hF hn (w0:=(x,_)) n8 hx
end
theorem Q8:∀k:Fin 256,(qL 0 none ([101,118,97,108,32,103,32]++dec k.1)).map (λw=>(w.t,w.a,w.e))=[([101,118,97,108],0,4),([103],5,6),(dec k.1,7,7+(dec k.1).length)]/\VO (dec k.1)=some k.1:=by decide+kernel
section
variable {T:TypeId} {fz:Nat×Nat} {sp n cap:Nat} {ord tr:zL} {F:FN} {H0 Y:Hp}
theorem KB(hB:Bg T fz sp n cap ord F tr H0){c b:UInt8}{l:List UInt8}(hc:c≠32)(hb:b≠32)(Le:cmd [c]=none)(hnm:wR [c]=true)(hl:l.length+5<=400)(hn:n<=8)(hF:F.length<=1000):
  Fc zQ 5 #[ptr sp,aq (c::32::61::32::b::l)] H0 (R9 T fz sp n cap ord F tr [c] (b::l) 4):=by
 have hw:qL 0 none (c::32::61::32::b::l)=⟨[c],0,1⟩::⟨[61],2,3⟩::qL 4 none (b::l):=by
  show(if c=32 then _ else qL 1 (some [c]) (32::61::32::b::l))=_;rw[xac hc];rfl
 refine uJ hB (by simp only[xak];omega) hw Le (λh=>?_) (λw2 SR _ e e61=>?_)
 ·exfalso;rcases h with h|h
  ·rw[hnm]at h;cases h
  exact h _ _ rfl rfl
 cases e;refine⟨hn,hF,λr H hq=>?_⟩;have e4:3+EX (List.drop 3 (c::32::61::32::b::l))=4:=by
  show 3+((if b=32 then _ else 0)+1)=4;rw[xac hb]
 have hq:R9 T fz sp n cap ord F tr [c] (List.drop (3+EX (List.drop 3 (c::32::61::32::b::l))) (c::32::61::32::b::l)) (3+EX (List.drop 3 (c::32::61::32::b::l))) r H:=hq;rw[e4]at hq;exact hq
theorem tg.out{X:Hp}(h:tg T fz sp n cap ord F tr H0):aF (X++(H0++Y)) (iI T fz::Y):=by
 obtain⟨kp,mb,K,S,ag,ns,es,ck,C,rfl,_⟩:=h;exact .bN (.cons (.bN (.refl _)))
end
section
variable {T:TypeId} {fz:Nat×Nat} {Y:Hp}
theorem Wf(X:Hp):br [] X (λZ=>Z++X):=br.left (C:=[])
theorem SU{sp:Nat}:Fc zQ 5 #[ptr sp,aq [102,32,61,32,120,48,32,38,32,120,49]] [iI T fz,gN7 sp] (λr H=>r=nY [50] 0 0/\tg T fz sp 8 1000 (List.range 8) [([102],yQ.fn)] [] H):=by
 refine uJ QR zD (w:=⟨[102],0,1⟩) (ws:=[⟨[61],2,3⟩,⟨[120,48],4,6⟩,⟨[38],7,8⟩,⟨[120,49],9,11⟩]) zK zK (λh=>?_) (λw2 SR _ e e61=>?_)
 ·exfalso;rcases h with h|h
  ·exact absurd h zD
  exact h _ _ rfl rfl
 cases e;refine⟨by decide,by decide,λr H hq=>?_⟩;have hr:Reads 8 (List.drop (3+EX (List.drop 3 [102,32,61,32,120,48,32,38,32,120,49])) [102,32,61,32,120,48,32,38,32,120,49]) (.ok yQ []):=NT;rcases hq with⟨a,e,hb,_⟩|⟨t,l',hr',hq⟩
 ·exact absurd (hr.uniq hb) nofun
 have:=hr.uniq hr';cases this;rcases hq with⟨rfl,hS⟩|⟨_,_,hno⟩
 ·rw[ZQ];exact⟨rfl,hS⟩
 refine absurd (Q1 zD zD (.refl _) yQ.all (Tr.Ot NU) (c:=1000) zD (λg hg=>?_)) hno;rcases hg with⟨p,hp,_⟩|hg
 ·cases hp
 exact Tr.gQ.1 hg
theorem adW(f:aC.Fn):sat 8 f<=256:=by
 unfold sat;have:=List.countP_le_length (p:=f) (l:=List.range (2^8));rwa [xaK]at this
theorem U4{x:Nat}(hx:x<256):qL 0 none ([101,118,97,108,32,103,32]++dec x)=[⟨[101,118,97,108],0,4⟩,⟨[103],5,6⟩,⟨dec x,7,7+(dec x).length⟩]/\VO (dec x)=some x:=by
 obtain⟨h1,h2⟩:=Q8 ⟨x,hx⟩;refine⟨?_,h2⟩;refine(List.map_inj_right (f:=λw:Wd=>(w.t,w.a,w.e)) (λa b h=>?_)).1 h1;cases a;cases b;simp only[xdC]at h;obtain⟨rfl,rfl,rfl⟩:=h;rfl
set_option maxHeartbeats 8000000 in
theorem tX{l:List UInt8}{x k:Nat}(hx:x<256)(hk:k<256):Rd zQ 3 #[aq l,.int .u8 (x:Int),.int .u8 (k:Int)] (iI T fz::Y) (· =.bool true):=by
 refine aK λgh=>Sg (aa.fq (Tq _) ?_);rintro _ _ ⟨sp,rfl,rfl⟩;refine ae.aG (Br.no (aa.pre (H':=[iI T fz,gN7 sp]++Y) .swap ?_));refine aa.fn (args:=#[ptr sp,aq [102,32,61,32,120,48,32,38,32,120,49]]) (.left (C:=[iI T fz,gN7 sp])) SU ?_;rintro _ H1 ⟨rfl,NF⟩;intro b6 _;refine St.whole (r:=dZ [50] 0 0) (.head _) rfl rfl (bI _ _ _) ?_;refine aa.fn (args:=#[ptr sp,aq [115,97,116,115,32,102]]) (.cons .left) (xM NF.bg (w:=⟨[115,97,116,115],0,4⟩) (x:=⟨[102],5,6⟩) zD zK zK zK (f:=yQ.fn) rfl (by rw[NP];decide)) ?_;rintro _ H2 ⟨rfl,sr⟩;rw[NP];intro b11 _;refine St.whole (r:=dZ (dec 64) 0 0) (.head _) rfl rfl (bI _ _ _) ?_;refine Ld.u (v:=nI 0) (.tail _ (.head _)) (ae.jD (a:=0) (b:=0) (cz.or false (λ_=>Ld.u (v:=aq [50]) (.tail _ (.head _)) (ae.AT (b:=[50]) ⟨rfl,rfl⟩)) rfl λ_=>?_));refine cz.or false (λ_=>Ld.u (v:=nI 0) (.head _) (ae.jD (a:=0) (b:=0) ⟨rfl,rfl⟩)) rfl λ_=>?_;refine cz.or false (λ_=>Ld.u (v:=aq (dec 64)) (.head _) (ae.AT (b:=[54,52]) ⟨rfl,rfl⟩)) rfl λ_=>Br.no ?_;obtain⟨P0,hP0⟩:∃P:Hp,P=[(b11,.cells (dZ (dec 64) 0 0).toArray 26 zZ),(b6,.cells (dZ [50] 0 0).toArray 26 zZ)]:=⟨_,rfl⟩;have eP:∀X:Hp,(b11,Obj.cells (dZ (dec 64) 0 0).toArray 26 zZ)::(b6,Obj.cells (dZ [50] 0 0).toArray 26 zZ)::X=P0++X:=λX=>by rw[hP0];rfl
 rw[eP];clear hP0 eP;have fin:∀(X HS:Hp) (n cap:Nat) (ord:zL) (F:FN) (tr:zL) (t:Bool),tg T fz sp n cap ord F tr HS->aF X ([]++(HS++Y))->t=true->aQ (λv H=>H=iI T fz::Y/\v=.bool true) (.returned (.bool t)) X:=λX HS n cap ord F tr t h he e=>by
  rw[e];exact bD.mk (he.trans h.out) rfl
 refine aa.fn (args:=#[nI 8,aq l]) (Wf _) (yd (n:=8) zD l []) ?_;rintro v8 _ ⟨N,rfl,h⟩;rw[xaH]at h;rw[xaH];obtain⟨m,s0,p,e,rfl,hs0,abm⟩:∃(m:Nat) (s0:zV) (p e:Nat),v8=.tuple #[.agg #[nI m,s0],nI p,nI e]/\s0.oneCell'=true/\((e≠0/\Reads 8 l (.bad p e))\/(e=0/\∃t l',Reads 8 l (.ok t l')/\dM N (.agg #[nI m,s0]) 8 t.fn)):=by
  rcases h with⟨a,e,hr,rfl⟩|⟨t,l',v,hr,rfl,hT⟩
  ·exact⟨0,_,a,e,rfl,rfl,.inl ⟨hr.fit,hr⟩⟩
  obtain⟨s0,rfl,hs0⟩:=hT.cell;exact⟨8,s0,0,0,rfl,hs0,.inr ⟨rfl,t,l',hr,hT⟩⟩
 have aaf:∀(m:Nat) (s0:zV),s0.oneCell'=true->∀u∈[nI m,s0],u.oneCell'=true:=λm s0 hs u hu=>by
  simp only[xag,xaw,xaZ]at hu;rcases hu with rfl|rfl
  ·rfl
  exact hs
 refine Ext.mk rfl (Ext.mk rfl (Ext.mk rfl λb37 _=>St.whole (r:=[nI m,s0]) (.head _) rfl rfl (aaf _ _ hs0) ?_));obtain⟨ct,hct⟩:∃c:Nat×Obj,c=(b37,.cells [nI m,s0].toArray 30 zZ):=⟨_,rfl⟩;rw[<-hct];refine aN.of (ae.gW (b:=390) (cz.or (decide (l=[])) (λ_=>ae.tT (b:=[]) ⟨rfl,rfl⟩) rfl λ_=>?_));refine cz.or (decide (l[0]? =some 32)) (λh=>?_) rfl λ_=>?_
 ·rw[xaL,xbk,xbk]at h;obtain⟨b,hb,_⟩:=m4 (l:=l) (i:=0) (by cases l with|nil=>exact absurd rfl h.2|cons _ _=>exact Nat.succ_pos _);refine bP.of hb (ae.bB (b:=32) ⟨rfl,?_⟩);congr 1;rw[hb];refine xdm.2 ?_;have:=N6 b 32 zD;simp only[xas];rw[this];exact xdg
 rw[<-xbp,<-xbp];refine Br.dec (λh=>fin _ _ _ _ _ _ _ _ sr (.skip (.bN (.bN (.refl _)))) rfl) (λh=>?_);obtain⟨b,r,rfl,hb,ag4⟩:∃b r,l=b::r/\b≠32/\r.length+1<=390:=by
  cases l with
  |nil=>exact absurd (.inl (.inr rfl)) h
  |cons b r=>exact⟨b,r,rfl,λe=>h (.inr (by rw[e];rfl)),by simp only[xak]at h;omega⟩
 refine ae.tU (a:=[103,32,61,32]) (by simp only[xak,xa3];omega) ?_;refine aa.fn (args:=#[ptr sp,aq (103::32::61::32::b::r)]) (.cons (.app (.app (.left (A:=Y))))) (KB sr.bg zD hb zK zK zO zD zD) ?_;intro r50 H3 hq;rcases abm with⟨he,hrb⟩|⟨rfl,t,lt,hrd,hT⟩
 ·rcases hq with⟨a,e',hb',_,rfl,UL⟩|⟨t',l',hr',_⟩;rotate_left
  ·exact absurd (hrb.uniq hr') nofun
  obtain⟨rfl,rfl⟩:p=a/\e=e':=by have:=hrb.uniq hb';cases this;exact⟨rfl,rfl⟩
  have hp:=hrb.place;rw[xak]at hp;rw[xae (by have:=hrb.code (by rw[xak];omega);omega)];intro b52 _;refine St.whole (r:=dZ [] (4+p) e) (.head _) rfl rfl (bI _ _ _) ?_;refine ae.jD (b:=0) (Br.T (Ld.u (v:=nI e) (.head _) (ae.bB (cz.and (decide (4+p=p+4)) (λ_=>Ld.u (v:=nI (4+p)) (.head _) (ae.dX (b:=4) (by simp only[aS];omega) (ae.bB ⟨rfl,rfl⟩))) rfl λ_=>?_))) he);refine fin _ _ _ _ _ _ _ _ UL (.skip (.skip (.bN (.bN (.refl _))))) ?_;rw[xau rfl,xau (xcP 4 p)];rfl
 rcases hq with⟨a,e,hbd,_⟩|⟨t',l',hr',hh⟩
 ·exact absurd (hrd.uniq hbd) nofun
 have:=hrd.uniq hr';cases this;rcases hh with⟨rfl,UL⟩|⟨rfl,⟨iT,UL⟩,_⟩;rotate_left
 ·intro b52 _;refine St.whole (r:=dZ [] 0 9) (.head _) rfl rfl (bI _ _ _) ?_;refine ae.jD (a:=0) (b:=0) (Br.F (Ld.u (v:=nI 9) (.head _) (ae.bB (a:=9) (b:=9) (Br.T (Ld.u (v:=aq []) (.head _) (ae.tT (b:=[]) ?_))))));exact fin _ _ _ _ _ _ _ _ UL (.skip (.skip (.bN (.bN (.refl _))))) rfl
 have ft:t.Fit 8:=(hrd.wt λo ho=>ho.len).1;have ai7:=adW t.fn;generalize hm0:sz 8 (List.range 8) (λg=>g=t.fn)=m0;have UL:tg T fz sp 8 1000 (List.range 8) [([102],yQ.fn),([103],t.fn)] [] H3:=UL;intro b52 _;refine St.whole (r:=dZ (dec m0) 0 0) (.head _) rfl rfl (bI _ _ _) ?_;obtain⟨c52,UD⟩:∃c:Nat×Obj,c=(b52,.cells (dZ (dec m0) 0 0).toArray 26 zZ):=⟨_,rfl⟩;rw[<-UD];refine ae.jD (a:=0) (b:=0) (Br.F (Ld.u (v:=nI 0) (by rw[UD];exact .head _) (ae.bB (a:=0) (b:=9) (Br.F (Ld.u (v:=nI 0) (by rw[UD];exact .head _) (ae.jD (a:=0) (b:=0) (Br.F ?_)))))));have hTX:∀X HS:Hp,dM (X++(c52::ct::(N++(P0++(HS++Y))))) (.agg #[nI m,s0]) 8 t.fn:=λX HS=>hT.mono λy hy=>xaa _ (.tail _ (.tail _ (xad _ hy)));have X6:∀X HS:Hp,(b37,Obj.cells [nI m,s0].toArray 30 zZ)∈X++(c52::ct::(N++(P0++(HS++Y)))):=λX HS=>xaa _ (.tail _ (by rw[hct];exact .head _));clear UD hct;refine ax.whole (r:=[nI m,s0]) (X6 [] _) rfl (aa.eq (JR (n:=8) zD (hTX [] _)) (Ext.two ?_));refine ax.whole (r:=[nI m,s0]) (X6 [] _) rfl (aH.nat (by simp only[aS];omega) (aa.eq (W7 (n:=8) zD (hTX [] _) (x:=x) hx) (Ext.two ?_)));obtain⟨bx,hbx⟩:∃bx,bx=t.fn x:=⟨_,rfl⟩;rw[<-hbx];refine ae.jD (a:=0) (b:=0) (cz.or false (λ_=>ae.jD (a:=0) (b:=0) ⟨rfl,rfl⟩) rfl λ_=>Br.no ?_);intro J89 h89;have main:∀(HS:Hp) (ord tr:zL),tg T fz sp 8 1000 ord [([102],yQ.fn),([103],t.fn)] tr HS->J89 [.bool false] (c52::ct::(N++(P0++(HS++Y)))):=λHS ord tr hS=>by
  refine h89 _ _ λ_=>Br.no ?_;refine aa.fn (args:=#[ptr sp,aq [115,97,116,115,32,103]]) (.cons (.cons (.app (.app (.left (A:=Y)))))) (xM hS.bg (w:=⟨[115,97,116,115],0,4⟩) (x:=⟨[103],5,6⟩) zD zK zK zK (f:=t.fn) rfl zO) ?_;rintro _ H4 ⟨rfl,hS4⟩;intro b95 _;refine St.whole (r:=dZ (dec (sat 8 t.fn)) 0 0) (.head _) rfl rfl (bI _ _ _) ?_;obtain⟨hw,hnm⟩:=U4 hx;have hdl:=(qp (n:=x)).1;refine aH.nat (by simp only[aS];omega) (aa.eq (Ib (n:=x) zO _) (ae.tU (a:=[101,118,97,108,32,103,32]) (by simp only[xak,xa3];omega) ?_));refine aa.fn (args:=#[ptr sp,aq ([101,118,97,108,32,103,32]++dec x)]) (.cons (.cons (.cons (.app (.app (.left (A:=Y))))))) (KC hS4.bg (f:=t.fn) (by rw[xaf];simp only[xak,xa3];omega) hw zK ?_ rfl hnm zO) ?_
  ·show(if(CX 115 [103]).isNone then _ else(if(CX 110 (dec x)).isNone then _ else _))=_;have e1:CX 110 (dec x)=some x:=hnm;rw[xac zD,e1];rfl
  rintro _ H5 ⟨rfl,hS5⟩;rw[<-hbx];intro acg _;refine St.whole (r:=dZ [if bx then 49 else 48] 0 0) (.head _) rfl rfl (bI _ _ _) ?_;refine aa.fn (args:=#[ptr sp,aq [115,104,111,119,32,103]]) (.cons (.cons (.cons (.cons (.app (.app (.left (A:=Y)))))))) (KA hS5.bg zD (w:=⟨[115,104,111,119],0,4⟩) (x:=⟨[103],5,6⟩) zD zK zK zK (f:=t.fn) rfl) ?_;rintro _ H6 ⟨u,rfl,Ns,V8,hu3,hu4,hu5,hS6⟩;intro acf _;refine St.whole (r:=dZ (ei u) 0 0) (.head _) rfl rfl (bI _ _ _) ?_;intro ale afQ;have eE:∀X:Hp,aF ((acf,Obj.cells (dZ (ei u) 0 0).toArray 26 zZ)::(acg,Obj.cells (dZ [if bx then 49 else 48] 0 0).toArray 26 zZ)::(b95,Obj.cells (dZ (dec (sat 8 t.fn)) 0 0).toArray 26 zZ)::X) [(acf,Obj.cells (dZ (ei u) 0 0).toArray 26 zZ),(acg,Obj.cells (dZ [if bx then 49 else 48] 0 0).toArray 26 zZ),(b95,Obj.cells (dZ (dec (sat 8 t.fn)) 0 0).toArray 26 zZ)]:=λX=>aF.left (A:=[_,_,_]);refine DR.of (eE _) ?_;refine Ld.u (v:=nI 0) (.tail _ (.tail _ (.head _))) (ae.jD (a:=0) (b:=0) (Br.no ?_));refine Ld.u (v:=nI 0) (.tail _ (.head _)) (ae.jD (a:=0) (b:=0) (aI.mk (Br.no ?_)));refine Ld.u (v:=aq (dec (sat 8 t.fn))) (.tail _ (.tail _ (.head _))) λaln=>aa.eq (Ib (n:=sat 8 t.fn) zO _) ⟨eE _,?_⟩;refine ae.AT ?_;rw[xap (λh=>h rfl)];refine aI.mk (Br.no ?_);refine Ld.u (v:=aq [if bx then 49 else 48]) (.tail _ (.head _)) (ae.tT (b:=[49]) (ae.ad3 ?_));have e49:decide ([if bx then(49:UInt8)else 48]=[49])=bx:=by cases bx<;>rfl
  have e48:decide ([if bx then(49:UInt8)else 48]=[48])= !bx:=by cases bx<;>rfl
  rw[e49,show(!(bx==bx))=false by cases bx<;>rfl];refine aI.mk (Br.no ?_);refine Ld.u (v:=aq [if bx then 49 else 48]) (.tail _ (.head _)) (ae.tT (b:=[48]) (ae.afY ?_));rw[e48,show((!bx)==bx)=false by cases bx<;>rfl];refine aI.mk (JE.mk (afQ _ _ λ_=>Br.no ?_));refine Ld.u (v:=nI 0) (.head _) (ae.jD (a:=0) (b:=0) (Br.F (Ld.u (v:=aq (ei u)) (.head _) ?_)));have PW:Reads 8 (ei u) (.ok u []):=JD Ns V8 zO hu5;refine aa.fn (args:=#[nI 8,aq (ei u)]) (Wf _) (yd (n:=8) zD (ei u) []) ?_;rintro aix _ ⟨N2,rfl,h⟩;rw[xaH]at h;rw[xaH];rcases h with⟨a,e,hr,rfl⟩|⟨t2,l2,v2,hr,rfl,WB⟩
  ·exact absurd (PW.uniq hr) nofun
  obtain⟨rfl,_⟩:u=t2/\l2=[]:=by have:=PW.uniq hr;cases this;exact⟨rfl,rfl⟩
  obtain⟨s3,rfl,Y8⟩:=WB.cell;refine Ext.mk rfl (Ext.mk rfl (Ext.mk rfl λakZ _=>St.whole (r:=[nI 8,s3]) (.head _) rfl rfl (aaf _ _ Y8) ?_));intro ald afP;refine ae.bB (a:=0) (b:=0) (Split.go rfl (ax.whole (r:=[nI 8,s3]) (.head _) rfl (ax.whole (r:=[nI m,s0]) (.tail _ (xaa _ (X6 [_,_,_] _))) rfl ?_)));refine aa.rq (y9 (n:=8) (WB.mono λy hy=>.tail _ (xad _ hy)) ((hTX [_,_,_] H6).mono λy hy=>.tail _ (xaa _ hy))) ?_;rintro _ ⟨xb,rfl,hxb⟩;refine aI.mk (JE.mk (afP _ _ λ_=>?_));exact fin _ _ _ _ _ _ _ _ hS6 (.skip (.bN (.skip (.skip (.skip (.skip (.skip (.bN (.bN (.refl _)))))))))) (hxb.2 hu4)
 clear h89;have abT:([([102],yQ.fn),([103],t.fn)]:FN).length*2^8<=600:=by show 2*256<=600;decide
 have Q6:∀(HS:Hp) (ord:zL) (tr:zL),tr.length<1000000->tg T fz sp 8 1000 ord [([102],yQ.fn),([103],t.fn)] tr HS->Fc zQ 5 #[ptr sp,aq [101,120,97,99,116]] HS (OrQ T fz sp 8 1000 [([102],yQ.fn),([103],t.fn)] tr):=λHS ord tr iy hS=>
  IL hS.bg (w:=⟨[101,120,97,99,116],0,5⟩) (ws:=[]) (i:=17) (sh:=[]) zD zK zK zK zK zK λkp mb K S ag ns es ck C N av hI hF n8=>EI hI hF zD abT iy
 have y4:Fc zQ 5 #[ptr sp,aq [115,105,102,116,32,49,50,48]] H3 (OrQ T fz sp 8 1000 [([102],yQ.fn),([103],t.fn)] []):=
  IL UL.bg (w:=⟨[115,105,102,116],0,4⟩) (ws:=[⟨[49,50,48],5,8⟩]) (i:=14) (sh:=[110]) zD zK zK zK zK zK λkp mb K S ag ns es ck C N av hI hF n8=>LD (a:=(⟨[49,50,48],5,8⟩,120)) hI hF zD abT n8 zD zD
 refine ae.wI (b:=3) zD (ae.bB (b:=1) (Split.mk (λh1=>?_) (λh1=>?_)))
 ·rw[xaP]at h1;refine aa.fn (args:=#[ptr sp,aq [115,105,102,116,32,49,50,48]]) (.cons (.cons (.app (.app (.left (A:=Y)))))) y4 ?_;rintro _ H4 ⟨t4,o4,tr4,rfl,hS4,_⟩;refine wx.mk (v:=nI 0) rfl (ae.jD (a:=0) (b:=0) (aI.mk (Split.go rfl ?_)));refine ae.wI (b:=3) zD (ae.bB (b:=2) ?_);rw[xap zO];exact Split.TO rfl (aI.mk (aI.mk (JE.mk (main H4 _ _ hS4))))
 have h1:k%3≠1:=by simpa using h1
 refine aI.mk (ae.wI (b:=3) zD (ae.bB (b:=2) (Split.mk (λh2=>?_) (λh2=>?_))))
 ·refine aa.fn (args:=#[ptr sp,aq [101,120,97,99,116]]) (.cons (.cons (.app (.app (.left (A:=Y)))))) (Q6 H3 _ _ zD UL) ?_;rintro _ H4 ⟨t4,o4,tr4,rfl,hS4,_⟩;exact wx.mk (v:=nI 0) rfl (ae.jD (a:=0) (b:=0) (aI.mk (aI.mk (JE.mk (main H4 _ _ hS4)))))
 exact aI.mk (aI.mk (JE.mk (main H3 _ _ UL)))
end
section
open Go.ChangeShapes Go.WideShapes Go.Deep
theorem Z8{f:FuncId}{args:Array zV}{B Y:Hp}{x:Nat×Obj}{Q:zV->Prop}(hp:B.Perm (x::Y))(h:Rd zQ f args (x::Y) Q):Rd zQ f args B Q:=
 λg=>((h g).pre (.perm hp)).mono λe H' ⟨v,gY,h1,h2,h3,h4⟩=>⟨v,B,h1,h2.trans (by rw[h3];exact .perm hp.symm),rfl,h4⟩
theorem OZ{a b:String×DataW Unit}{W:World}(h:laidMet zQ [a,b,("internal/strconv.uint64pow10",Lib.tabData .u64 (pwL.map λ(x:Nat)=>(x:Int)))] W):∃T fz,W.heap[1]? =some (.cells powC T fz):=by
 obtain⟨_,⟨_,_,_,_,_,_,_,_,_,_,⟨_,_,_,_,_,_,_,_,_,_,⟨g,t,cs,fuel,p,q,h1,h2,h3,h4,_⟩,_⟩,_⟩,_⟩:=h;obtain rfl:g=1:=(xbF ((show Tryz.prog.globalNamed "internal/strconv.uint64pow10" =some 1 by kernel_rfl).symm.trans h1)).symm;obtain rfl:t=335:=(xbF ((show(Tryz.prog.globals[1]?).map (·.type)=some 335 by kernel_rfl).symm.trans h2)).symm;have hc:=Lib.cells_of_tab (n:=20) (e:=33) (k:=.u64) zK zK zK zK h4;unfold World.var? at h3;rw[h1,xd1]at h3;split at h3
 ·rename_i cs' T fz hh;cases h3;refine⟨T,fz,?_⟩;rw[hh];have:cs=powC:=xc1 (by rw[hc];unfold powC;rw[xbR];rfl);rw[this]
 cases h3
theorem Pw{a b:String×DataW Unit}{W:World}{f:FuncId}{args:Array zV}(hl:laidMet zQ [a,b,("internal/strconv.uint64pow10",Lib.tabData .u64 (pwL.map λ(x:Nat)=>(x:Int)))] W)(h:∀T fz Y,Rd zQ f args (iI T fz::Y) (· =.bool true)):Rd zQ f args (whole W) (· =.bool true):=by
 obtain⟨T,fz,hg⟩:=OZ hl;have hm:iI T fz∈whole W:=by
  unfold whole;have hs:1<W.heap.size:=(xaR.1 hg).1;refine xam.2 ⟨1,xaO.2 hs,?_⟩;rw[xav,hg];rfl
 obtain⟨s,t,e⟩:=xc3 hm;exact Z8 (Y:=s++t) (by rw[e];exact xaU) (h T fz _)
end
end
end Go.Proofs
