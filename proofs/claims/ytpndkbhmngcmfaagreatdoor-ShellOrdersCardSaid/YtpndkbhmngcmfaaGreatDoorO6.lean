import Derived.Test.YtpndkbhmngcmfaaGreatDoorO5
import Derived.Test.YtpndkbhmngcmfaaGreatDoorO4
import Derived.Test.YtpndkbhmngcmfaaGreatDoorO3
import Derived.Test.YtpndkbhmngcmfaaGreatDoorO2
import Derived.Laws.StructEq
import Derived.ChangeKeysEq
import Derived.Lib.LaidTab
import GoSem.ClaimJoined
set_option linter.unusedVariables false
set_option linter.unusedSimpArgs false
set_option linter.unusedSectionVars false
set_option maxRecDepth 100000
namespace Go.Proofs
open Go Go.Sx
open aE
section
variable {kp mb b1 b9 c9 c1 c3 MA:Nat} {K:Kd} {S:Nat->aE.Fn} {ord ah tr:zL} {C Z:Hp}
abbrev DU:Nat:=18446744073709551616
abbrev u64(x:Nat):zV:=.int .u64 (x:Int)
theorem vL(h:cZ kp K S ord ah tr C){r:Nat}{d:Nd}(hd:K.N r=some d):Rd zQ 138 #[ptr kp,u32 r] C (· =.agg (bJ d).toArray):=aaD (Db (X:=[]) h hd)
theorem Df(h:cZ kp K S ord ah tr C){X:Hp}{r b:Nat}(hm:(b,Obj.cells (aA .u32 [(r:Int)]) 82 zZ)∈X)(hr:live K.N r):Rd zQ 136 #[ptr kp,.slice (some ⟨b,0,none⟩) 1 1] (X++C) (· =iv 0):=
 aaD (Dg (X:=X) (rs:=[r]) h (dY.block (xad _ hm) zI) (λx hx=>by rw[xaK.1 hx];exact hr) zI)
def cw(K:Kd)(ah:zL)(S:Nat->aE.Fn)(r:Nat):Nat:=sat K.n (S r) /2^dep K.n (lv ah) K.N r
theorem qK(h:cZ kp K S ord ah tr C){r:Nat}(hr:r<2):cw K ah S r=r:=by
 have hi:=h.ok.mid.int;have h0:K.N r=none:=by
  cases hN:K.N r with
  |none=>rfl
  |some d=>have:=h.ok.mid.two hN;omega
 unfold cw;rw[br h0];have:r=0\/r=1:=by omega
 rcases this with rfl|rfl
 ·rw[show S 0=λ_=>false from funext hi.zero,rj,Nat.zero_div]
 rw[show S 1=λ_=>true from funext hi.one,sat_true,Nat.div_self (xbJ _)]
theorem RW(h:cZ kp K S ord ah tr C):∀(k r:Nat),K.n-dep K.n (lv ah) K.N r<=k->live K.N r->cw K ah S r*2^dep K.n (lv ah) K.N r=sat K.n (S r)/\
  (∀d,K.N r=some d->cw K ah S r=cw K ah S d.lo*2^(dep K.n (lv ah) K.N d.lo-lv ah d.v-1)+cw K ah S d.hi*2^(dep K.n (lv ah) K.N d.hi-lv ah d.v-1)):=by
 have hi:=h.ok.mid.int;intro k;induction k with
 |zero=>
  intro r hk hr;cases hN:K.N r with
  |some d=>
   rw[aB hN]at hk;have:=h.ok.lv.lt _ (h.ok.mid.var hN);omega
  |none=>
   have h2:r<2:=by
    rcases hr with hr|⟨d,e⟩
    ·exact hr
    rw[hN]at e;cases e
   refine⟨?_,λd hd=>by cases hd⟩;rw[qK h h2,br hN];have:r=0\/r=1:=by omega
   rcases this with rfl|rfl
   ·rw[show S 0=λ_=>false from funext hi.zero,rj,xdM]
   rw[show S 1=λ_=>true from funext hi.one,sat_true,xdE]
 |succ k ih=>
  intro r hk hr;cases hN:K.N r with
  |none=>
   rw[br hN]at*;have h2:r<2:=by
    rcases hr with hr|⟨d,e⟩
    ·exact hr
    rw[hN]at e;cases e
   refine⟨?_,λd hd=>by cases hd⟩;rw[qK h h2];have:r=0\/r=1:=by omega
   rcases this with rfl|rfl
   ·rw[show S 0=λ_=>false from funext hi.zero,rj,xdM]
   rw[show S 1=λ_=>true from funext hi.one,sat_true,xdE]
  |some d=>
   have hlo:=h.ok.wf.lo hN;have hhi:=h.ok.wf.hi hN;have hvl:=h.ok.lv.lt _ (h.ok.mid.var hN);have e1:=aB (n:=K.n) (ah:=lv ah) hN;have q:=Pn h.ok.wf h.ok.lv hi hN (h.ok.mid.var hN) (ih d.lo zO hlo.1).1 (ih d.hi zO hhi.1).1;have e2:cw K ah S r=cw K ah S d.lo*2^(dep K.n (lv ah) K.N d.lo-lv ah d.v-1)+cw K ah S d.hi*2^(dep K.n (lv ah) K.N d.hi-lv ah d.v-1):=by
    show sat K.n (S r) /_=_;rw[<-q,Nat.mul_div_cancel _ (xbJ _)]
   exact⟨by rw[e2];exact q,λd' hd=>by cases hd;exact e2⟩
theorem rf(h:cZ kp K S ord ah tr C){r:Nat}(hr:live K.N r)(h1:(b1,Obj.cells #[ptr kp] 45 zZ)∈Z):
  Rd zQ 139 #[u32 r,ptr b1] (Z++C) (· =iv ((dep K.n (lv ah) K.N r:Nat):Int)):=by
 have vq:=xad C h1;refine aK λg=>HR (aa.eq (rX r _) (Br.mk (λhb=>?_) (λhb=>?_)))
 ·have h2:r<2:=xcl hb;refine Ld.mk vq rfl ?_;refine aa.eq (kx h.rep) (bE.mk (.refl _) ?_);have h0:K.N r=none:=by
   cases hN:K.N r with
   |none=>rfl
   |some d=>have:=h.ok.mid.two hN;omega
  rw[br h0]
 have h2:¬r<2:=of_decide_eq_false hb;obtain⟨d,hN⟩:∃d,K.N r=some d:=by
  rcases hr with hr|hr
  ·omega
  exact hr
 have vj:=h.ok.mid.var hN;refine DR.of (.refl _) (Ld.mk vq rfl ?_);refine Ld.mk vq rfl ?_;intro F;refine aa.eq (args:=#[ptr kp,u32 r]) (vL h hN) (⟨.refl _,?_⟩);refine A1.mk (off:=0) (cs:=(bJ d).toArray) (v:=iv (d.v:Int)) rfl ?_;intro F;refine aa.eq (args:=#[ptr kp,iv (d.v:Int)]) (yu h.rep _) (⟨.refl _,?_⟩);rw[xae ⟨by omega,by omega⟩];refine Ext.two (bE.mk (.refl _) ?_);rw[aB hN];rfl
theorem zn(a k:Nat):((a%DU)<<<k)%DU=(a*2^k)%DU:=by
 rw[xdk,Nat.mod_mul_mod]
theorem T3(h:cZ kp K S ord ah tr C){r:Nat}{d:Nd}(hN:K.N r=some d)(h1:(b1,Obj.cells #[ptr kp] 45 zZ)∈Z)(h9:(b9,Obj.cells #[.func (.func 139) #[] #[ptr b1]] 204 zZ)∈Z):
  Rd zQ 142 #[.agg (bJ d).toArray,u64 (cw K ah S d.lo%DU),u64 (cw K ah S d.hi%DU),ptr b1,ptr b9] (Z++C) (· =u64 (cw K ah S r%DU)):=by
 have vq:=xad C h1;have h9':=xad C h9;have vj:=h.ok.mid.var hN;have hlo:=h.ok.wf.lo hN;have hhi:=h.ok.wf.hi hN;have hn:=h.at'.rC;have hdl:=h.ok.wf.iA h.ok.lv d.lo;have hdh:=h.ok.wf.iA h.ok.lv d.hi;refine aK λg=>HP λc1 _=>?_;refine Ld.mk (.tail _ vq) rfl ?_;refine Ld.f (v:=iv (d.v:Int)) (aa.eq (yu h.rep _) ?_);rw[xae ⟨by omega,by omega⟩];refine Ext.two (DR.of (.refl _) (Ld.mk (.tail _ h9') rfl ?_));refine Ld.f (v:=u32 d.lo) (Ld.mk (.tail _ h9') rfl ?_);refine Ld.f (v:=u32 d.hi) λF=>?_;refine bG.of rfl zK (aa.eq (args:=#[u32 d.lo,ptr b1]) (rf (Z:=Z) h hlo.1 h1) (⟨.refl _,?_⟩));rw[xbH];show ae _ _ (iv ((dep K.n (lv ah) K.N d.lo:Nat):Int)) (iv ((lv ah d.v:Nat):Int)) _;refine ae.cf (ae.cf (b:=1) (ae.tj λF=>(bG.of rfl zK (aa.eq (args:=#[u32 d.hi,ptr b1]) (rf (Z:=Z) h hhi.1 h1) ?_))));show ae _ _ (iv ((dep K.n (lv ah) K.N d.hi:Nat):Int)) (iv ((lv ah d.v:Nat):Int)) _;refine ae.cf (ae.cf (b:=1) (ae.tj (ae.agj (bE.mk .tail ?_))));rw[zn,zn,<-Nat.add_mod,(RW h K.n r (xdB _ _) (.inr ⟨d,hN⟩)).2 d hN]
structure KnS(K:Kd)(ah:zL)(S:Nat->aE.Fn)(es:Array MapEntry)(ck:Nat)(m:List (Nat×Nat)):Prop where
 dV:aT kr (λv (x:Nat)=>v=u64 x) es ck m
 val:∀r x,bU m r=some x->x=cw K ah S r%DU
 low:∀r,r<2->bU m r≠none
theorem KU(h:cZ kp K S ord ah tr C)(h9:(c9,Obj.cells #[.map (some mb)] 246 zZ)∈Z)(h1:(c1,Obj.cells #[ptr kp] 45 zZ)∈Z)(h3:(c3,Obj.cells #[.func (.func 142) #[] #[ptr b1,ptr b9]] 217 zZ)∈Z)
 (h12:(MA,Obj.cells #[.func (.func 172) #[] #[ptr c9,ptr c1,ptr c3,ptr MA]] 247 zZ)∈Z)(ZP:(b1,Obj.cells #[ptr kp] 45 zZ)∈Z)(hb9:(b9,Obj.cells #[.func (.func 139) #[] #[ptr b1]] 204 zZ)∈Z):
  ∀(k r:Nat) (es:Array MapEntry) (ck:Nat) (m:List (Nat×Nat)),K.n-dep K.n (lv ah) K.N r<=k->live K.N r->KnS K ah S es ck m->
  Fc zQ 172 #[u32 r,ptr c9,ptr c1,ptr c3,ptr MA] ((mb,.map es ck)::(Z++C)) (λv H=>v=u64 (cw K ah S r%DU)/\∃es' cE m',H=(mb,.map es' cE)::(Z++C)/\KnS K ah S es' cE m'):=by
 have hit:∀{r:Nat} {es:Array MapEntry} {ck:Nat} {m:List (Nat×Nat)} {x:Nat},KnS K ah S es ck m->bU m r=some x->
   Fc zQ 172 #[u32 r,ptr c9,ptr c1,ptr c3,ptr MA] ((mb,.map es ck)::(Z++C)) (λv H=>v=u64 (cw K ah S r%DU)/\∃es' cE m',H=(mb,.map es' cE)::(Z++C)/\KnS K ah S es' cE m'):=by
  intro r es ck m x hm hv;refine aK λg=>wG (Ld.mk (v:=.map (some mb)) (.tail _ (xad _ h9)) rfl ?_);refine hm.dV.hit (k:=r) gv (b:=mb) (by exact .head _) hv λv' e=>?_;subst e;exact Ext.two (Br.yes (aQ.mk (.refl _) ⟨by rw[hm.val r x hv],es,ck,m,rfl,hm⟩))
 intro k;induction k with
 |zero=>
  intro r es ck m hk hr hm;have rK:r<2:=by
   cases hN:K.N r with
   |some d=>
    rw[aB hN]at hk;have:=h.ok.lv.lt _ (h.ok.mid.var hN);omega
   |none=>
    rcases hr with hr|⟨d,e⟩
    ·exact hr
    rw[hN]at e;cases e
  cases hv:bU m r with
  |none=>exact absurd hv (hm.low r rK)
  |some v=>exact hit hm hv
 |succ k ih=>
  intro r es ck m hk hr hm;cases hv:bU m r with
  |some v=>exact hit hm hv
  |none=>
  have rK:¬r<2:=λh2=>hm.low r h2 hv;obtain⟨d,hN⟩:∃d,K.N r=some d:=by
   rcases hr with hr|hr
   ·omega
   exact hr
  have hlo:=h.ok.wf.lo hN;have hhi:=h.ok.wf.hi hN;rw[aB hN]at hk;have hvl:=h.ok.lv.lt _ (h.ok.mid.var hN);refine aK λg=>wG (Ld.mk (v:=.map (some mb)) (.tail _ (xad _ h9)) rfl ?_);refine hm.dV.bT (k:=r) gv (b:=mb) (by exact .head _) hv ?_;refine Ext.two (Br.no (Ld.mk (v:=ptr kp) (.tail _ (xad _ h1)) rfl ?_));refine aa.eq (args:=#[ptr kp,u32 r]) (vL h hN) λb8 _=>?_;refine St.p (j8 d) ?_;refine DR.of (R:=(b8,Obj.cells (bJ d).toArray 201 zZ)::Z) (.cons (.skip .left)) (Ld.mk (v:=.func (.func 142) #[] #[ptr b1,ptr b9]) (.tail _ h3) rfl ?_);refine au.q ?_;refine Ld.mk (v:=.func (.func 172) #[] #[ptr c9,ptr c1,ptr c3,ptr MA]) (.tail _ h12) rfl ?_;refine Ld.f (v:=u32 d.lo) (Ld.mk (v:=.func (.func 172) #[] #[ptr c9,ptr c1,ptr c3,ptr MA]) (.tail _ h12) rfl ?_);refine Ld.f (v:=u32 d.hi) λF=>?_;refine bG.of rfl zK (aa.fq (args:=#[u32 d.lo,ptr c9,ptr c1,ptr c3,ptr MA]) (ih d.lo es ck m zO hlo.1 hm) ?_);rintro v1 H ⟨rfl,n4,mB,m1,rfl,AT⟩;refine⟨.cons (.skip .left),?_⟩;intro F;refine bG.of rfl zK (aa.fq (args:=#[u32 d.hi,ptr c9,ptr c1,ptr c3,ptr MA]) (ih d.hi n4 mB m1 zO hhi.1 AT) ?_);rintro v2 H ⟨rfl,l5,mA,m2,rfl,tQ⟩;refine⟨.cons (.skip .left),?_⟩;intro F;refine bG.of rfl zK (aa.eq (args:=#[.agg (bJ d).toArray,u64 (cw K ah S d.lo%DU),u64 (cw K ah S d.hi%DU),ptr b1,ptr b9]) (T3 (Z:=Z) h hN ZP hb9) (Ld.mk (v:=.map (some mb)) (.tail _ (.tail _ (xad _ h9))) rfl ?_));refine tQ.dV.bV (k:=r) (b:=mb) (x:=cw K ah S r%DU) gv lB rfl λRK R9 he=>⟨_,.tail (.head _),?_⟩;refine aQ.mk .tail ⟨rfl,RK,R9,_,rfl,he,λr' x' mr=>?_,λr' hr'=>?_⟩
  ·rw[cP]at mr;split at mr
   ·rename_i e;subst e;cases mr;rfl
   exact tQ.val r' x' mr
  rw[cP];split
  ·simp
  exact tQ.low r' hr'
theorem RZ(h:cZ kp K S ord ah tr C){r:Nat}(hr:live K.N r):
  Rd zQ 107 #[ptr kp,u32 r] C (· =.tuple #[u64 (sat K.n (S r)%DU),iv 0]):=by
 have hi:=h.ok.mid.int;refine aK λg=>Ir λb1 _=>?_;refine Ld.q ?_;refine ak.int (e:=82) zK zK zK λbx=>?_;refine aa.eh .here (Df (X:=[(bx,_),(b1,_)]) h (by exact .head _) hr) (ae.fX (Br.F λb9 _=>(St.one (c':=#[.func (.func 139) #[] #[ptr b1]]) (by exact .head _) rfl zI rfl ?_)));refine Ld.q ?_;refine aa.fq (args:=#[ptr kp,u32 r,u64 0,u64 1,.func (.func 142) #[] #[ptr b1,ptr b9]]) (C:=(b9,Obj.cells #[.func (.func 139) #[] #[ptr b1]] 204 zZ)::(bx,_)::(b1,Obj.cells #[ptr kp] 45 zZ)::C) (Q:=λv H=>v=u64 (cw K ah S r%DU)/\H=(b9,Obj.cells #[.func (.func 139) #[] #[ptr b1]] 204 zZ)::(bx,Obj.cells (aA .u32 [(r:Int)]) 82 zZ)::(b1,Obj.cells #[ptr kp] 45 zZ)::C) (aK λg=>HQ ?_) ?_
 ·intro c1 _ c3 _ mb _;refine aT.bV (ke:=kr) (vr:=λv (x:Nat)=>v=u64 x) (k:=0) (b:=mb) (x:=0) gv lB aT.empty rfl λn4 mB Vb=>⟨_,.head _,?_⟩;refine aT.bV (ke:=kr) (vr:=λv (x:Nat)=>v=u64 x) (k:=1) (b:=mb) (x:=1) gv lB Vb rfl λl5 mA WW=>⟨_,.head _,?_⟩;intro c9 _;refine St.one (c':=#[.map (some mb)]) (by exact .head _) rfl zI rfl ?_;intro MA _;refine St.one (c':=#[.func (.func 172) #[] #[ptr c9,ptr c1,ptr c3,ptr MA]]) (by exact .head _) rfl zI rfl ?_;refine Ld.q ?_;refine bG.of rfl zK ?_;obtain⟨Z,hZ⟩:∃Z:Hp,Z=[(MA,Obj.cells #[.func (.func 172) #[] #[ptr c9,ptr c1,ptr c3,ptr MA]] 247 zZ),(c9,.cells #[.map (some mb)] 246 zZ),(c3,.cells #[.func (.func 142) #[] #[ptr b1,ptr b9]] 217 zZ),(c1,.cells #[ptr kp] 45 zZ),
   (b9,Obj.cells #[.func (.func 139) #[] #[ptr b1]] 204 zZ),(bx,Obj.cells (aA .u32 [(r:Int)]) 82 zZ),(b1,Obj.cells #[ptr kp] 45 zZ)]:=⟨_,rfl⟩
  refine aa.pre (H':=(mb,Obj.map l5 mA)::(Z++C)) (.perm ?_) ?_
  ·rw[hZ];exact(List.Perm.cons _ (List.Perm.swap _ _ _)).trans (List.Perm.swap _ _ _)
  refine aa.fq (args:=#[u32 r,ptr c9,ptr c1,ptr c3,ptr MA]) (KU (Z:=Z) (b1:=b1) (b9:=b9) h (by rw[hZ];exact .tail _ (.head _)) (by rw[hZ];exact .tail _ (.tail _ (.tail _ (.head _)))) (by rw[hZ];exact .tail _ (.tail _ (.head _))) (by rw[hZ];exact .head _) (by rw[hZ];exact .tail _ (.tail _ (.tail _ (.tail _ (.tail _ (.tail _ (.head _))))))) (by rw[hZ];exact .tail _ (.tail _ (.tail _ (.tail _ (.head _))))) K.n r l5 mA _ (xdB _ _) hr ⟨WW,λr' x hm=>?_,λr' hr'=>?_⟩) ?_
  ·rw[cP,cP]at hm;split at hm
   ·rename_i e;subst e;cases hm;rw[qK h zD];rfl
   split at hm
   ·rename_i e;subst e;cases hm;rw[qK h zD];rfl
   simp[bU]at hm
  ·rw[cP,cP];have:r'=0\/r'=1:=by omega
   rcases this with rfl|rfl<;>simp
  rintro v H ⟨rfl,RK,R9,m3,rfl,_⟩;refine aQ.mk ?_ ⟨rfl,rfl⟩;rw[hZ];exact .skip (.skip (.skip (.skip (.skip (.refl _)))))
 rintro v H ⟨rfl,rfl⟩;refine Ld.q ?_;refine bG.of rfl zK (aa.eh (args:=#[u32 r,ptr b1]) .here (rf (Z:=[(b9,_),(bx,_),(b1,_)]) h hr (by exact .tail _ (.tail _ (.head _)))) (ae.tj (bE.mk (.skip (.skip .tail)) ?_)));rw[zn,(RW h K.n r (xdB _ _) hr).1]
end
section
variable {B:Hp}
abbrev i64(a:Int):zV:=iv a
structure Cf where
 n:Nat
 cap:Nat
 str:Nat
 gr:Nat
 rs:Nat
end
section
theorem B8{n:Int}(hn:n<0\/64<n)(B:Hp):Rd zQ 46 #[iv n] B (· =.tuple #[.slice none 0 0,iv 1]):=by
 refine aK λg=>za (ae.lss (cr.or (a:=decide (n<0)) (decide (64<n)) (λ_=>ae.gtr ⟨rfl,rfl⟩) rfl λ_=>?_));rw[<-xbb,xav hn];exact Br.yes (bE.mk (.refl _) rfl)
theorem XZ{n cap:Int}(hb:n<1\/64<n\/cap<2\/1048576<cap):Rd zQ 27 #[i64 n,i64 cap] [] (· =.tuple #[.pointer none,i64 1]):=by
 refine aK λg=>zc ?_;by_cases hn:n<0\/64<n
 ·refine aa.eq (B8 hn _) (Ext.two (ae.fX (cr.or true (λh=>absurd h zD) rfl λgs=>?_)));refine cr.or true (λh=>absurd h zD) rfl λgs=>?_;refine cr.or true (λh=>absurd h zD) rfl λgs=>Br.yes ?_;exact bE.mk (.refl _) rfl
 obtain⟨m,rfl⟩:∃m:Nat,n=m:=⟨n.toNat,by omega⟩;refine aa.fq (sL (n:=m) zO) ?_;rintro v CO ⟨s,rfl,hO⟩;refine Ext.two (ae.fX (cr.or (decide ((m:Int)<1)) (λ_=>ae.lss ⟨rfl,rfl⟩) rfl λgs=>?_));refine cr.or (decide (cap<2)) (λ_=>ae.lss ⟨rfl,rfl⟩) rfl λgs=>?_;refine cr.or (decide (1048576<cap)) (λ_=>ae.gtr ⟨rfl,rfl⟩) rfl λgs=>?_;exact Br.To (by simp only[xcb,xaQ];omega) (bE.mk (λ_ _ h=>h.jR) rfl)
end
def HF(L:List aE.Fn)(g:aE.Fn):Prop:=g∈L/\∃v,fm g v
def F2(n cap:Nat)(L:List aE.Fn)(ord:zL)(lo hi:aE.Fn):Prop:=Fits (bc n ord (λg=>(HF L g\/g=lo)\/g=hi)) cap
end Go.Proofs
namespace aE
open an
variable {n:Nat} {ah:Nat->Nat} {N:eA} {S:Nat->Fn} {ord:zL} {R:Nat->Prop} {V:zL}
inductive Rc(N:eA)(R:Nat->Prop):Nat->Prop
 |base {r:Nat}:R r->Rc N R r
 |lo {p:Nat} {d:Nd}:Rc N R p->N p=some d->Rc N R d.lo
 |hi {p:Nat} {d:Nd}:Rc N R p->N p=some d->Rc N R d.hi
def V1(N:eA)(V:zL):Prop:=∀u∈V,∃d,N u=some d/\(d.lo<2\/d.lo∈V)/\(d.hi<2\/d.hi∈V)
theorem IA(h0:∀r,r<2->N r=none)(hV:V1 N V)(hR:∀r,R r->r<2\/r∈V):∀l r,A N ah n R l r->r<2\/r∈V
 |0,r,ha=>hR r ha
 |l+1,r,ha=>by
  rcases ha with⟨h1,_⟩|⟨p,d,h1,h2,_,h4⟩
  ·exact IA h0 hV hR l r h1
  rcases IA h0 hV hR l p h1 with hp|hp
  ·rw[h0 p hp]at h2;cases h2
  obtain⟨d',hd,a,b⟩:=hV p hp;rw[h2]at hd;cases hd;rcases h4 with rfl|rfl
  ·exact a
  exact b
theorem Rc.at(h:WF n ah N)(hR:∀r,R r->live N r){u:Nat}(hu:Rc N R u):∀d,N u=some d->A N ah n R (ah d.v) u:=by
 induction hu with
 |base hr=>
  intro d hd;have:=sk (N:=N) (ah:=ah) (n:=n) (ah d.v) 0 hr (by rw[aB hd];omega);rwa [xaZ]at this
 | @lo p e hp he ih=>
  intro d hd;have hlt:=(h.lo he).2;rw[aB hd]at hlt;have hb:A N ah n R (ah e.v+1) e.lo:=.inr ⟨p,e,ih e he,he,rfl,.inl rfl⟩;have:=sk (ah d.v-(ah e.v+1)) _ hb (by rw[aB hd];omega);rwa [show ah e.v+1+(ah d.v-(ah e.v+1))=ah d.v by omega]at this
 | @hi p e hp he ih=>
  intro d hd;have hlt:=(h.hi he).2;rw[aB hd]at hlt;have hb:A N ah n R (ah e.v+1) e.hi:=.inr ⟨p,e,ih e he,he,rfl,.inr rfl⟩;have:=sk (ah d.v-(ah e.v+1)) _ hb (by rw[aB hd];omega);rwa [show ah e.v+1+(ah d.v-(ah e.v+1))=ah d.v by omega]at this
theorem Kw(h:WF n ah N)(hl:n8 n ah)(ho:Ord n ah ord)(hi:Interp N S)(hR:∀r,R r->live N r)(hV:V1 N V)(hRV:∀r,R r->r<2\/r∈V)(hVR:∀u∈V,Rc N R u)(g:Fn):bc n ord (Fs S R) g↔∃u∈V,g=S u:=by
 constructor
 ·rintro⟨l,ER,hf,x,hx⟩;obtain⟨v1,v2⟩:=ho.at' l ER;obtain⟨r,ha,rfl⟩:=(Mc h hl ho hi hR l zO g).1 hf;rcases IA (λr hr=>h.const hr) hV hRV l r ha with hc|hm
  ·exfalso;have:r=0\/r=1:=by omega
   rcases this with rfl|rfl
   ·exact hx (by rw[hi.zero,hi.zero])
   exact hx (by rw[hi.one,hi.one])
  exact⟨r,hm,rfl⟩
 rintro⟨u,hu,rfl⟩;obtain⟨d,hd,_⟩:=hV u hu;have hv:=h.var hd;refine⟨ah d.v,hl.lt _ hv,(Mc h hl ho hi hR _ (xcs (hl.lt _ hv)) _).2 ⟨u,(hVR u hu).at h hR d hd,rfl⟩,?_⟩;rw[ho.of hl hv];exact je h hl hi hd
theorem Tz(h:WF n ah N)(hl:n8 n ah)(ho:Ord n ah ord)(hi:Interp N S)(hR:∀r,R r->live N r)(hV:V1 N V)(hRV:∀r,R r->r<2\/r∈V)(hVR:∀u∈V,Rc N R u)(nd:V.Nodup):ot (bc n ord (Fs S R)) V.length:=by
 have live':∀u∈V,live N u:=λu hu=>let ⟨d,hd,_⟩:=hV u hu;.inr ⟨d,hd⟩
 refine⟨V.map S,?_,by simp,λg=>?_⟩
 ·refine xb9.2 (nd.imp_of_mem λ{a b} ha hb hne e=>hne ?_);exact h.same hl hi (live' a ha) (live' b hb) λx=>congrFun e x
 rw[Kw h hl ho hi hR hV hRV hVR,xam];exact⟨λ⟨u,hu,e⟩=>⟨u,hu,e.symm⟩,λ⟨u,hu,e⟩=>⟨u,hu,e.symm⟩⟩
end aE
set_option maxRecDepth 100000
namespace Go.Proofs
open Go Go.Sx
open aE
section
variable {kp mb b7 b1 b3 yY Th:Nat} {cap:Array zV} {K:Kd} {S:Nat->aE.Fn} {ord ah tr:zL} {C Z:Hp} {P:zL->Hp->Prop}
def xR(V:zL):List (Nat×Unit):=V.map λr=>(r,())
theorem uA{V:zL}{r:Nat}:bU (xR V) r=if r∈V then some ()else none:=by
 unfold xR;induction V with
 |nil=>rfl
 |cons a V ih=>
  unfold bU at*;rw[xaM,xbF];by_cases e:a=r
  ·subst e;simp
  simp only[e,xdK];rw[ih];have:(r∈a::V)↔r∈V:=by simp[xbp e]
  by_cases hv:r∈V
  ·rw[xae hv,xae (this.2 hv)]
  rw[xac hv,xac λh=>hv (this.1 h)]
theorem Pm{V:zL}{r:Nat}(h:r∉V):c8 (xR V) r ()=xR (V++[r]):=by
 unfold c8 xR;rw[xac (by rw[xbL];simpa using h),xaF];rfl
abbrev Dv(es:Array MapEntry)(ck:Nat)(V:zL):Prop:=aT kr (λv (_:Unit)=>v=i64 1) es ck (xR V)
structure Walk(K:Kd)(V V':zL)(r:Nat):Prop where
 nd:V'.Nodup
 sub:∀u∈V,u∈V'
 has:r<2\/r∈V'
 shut:∀u∈V',u∉V->∃d,K.N u=some d/\(d.lo<2\/d.lo∈V')/\(d.hi<2\/d.hi∈V')
 rc:∀u∈V',u∉V->Rc K.N (λq=>q=r) u
def Zp(Th:Nat)(cap:Array zV)(K:Kd)(P:zL->Hp->Prop):Prop:=bQ zQ Th=true/\∀(V:zL) (r:Nat) (d:Nd) (G:Hp),K.N r=some d->P V G->Fc zQ Th (#[.agg (bJ d).toArray]++cap) G (λv G'=>v=.tuple #[]/\P (V++[r]) G')
theorem xV{N:eA}{r q u:Nat}(h1:Rc N (λx=>x=r) q)(h2:Rc N (λx=>x=q) u):Rc N (λx=>x=r) u:=by
 induction h2 with
 |base e=>rw[e];exact h1
 |lo _ hd ih=>exact .lo ih hd
 |hi _ hd ih=>exact .hi ih hd
theorem Tx(h:cZ kp K S ord ah tr C)(hd:Zp Th cap K P)(h7:(b7,Obj.cells #[.map (some mb)] 296 zZ)∈Z)(h1:(b1,Obj.cells #[ptr kp] 45 zZ)∈Z)(h3:(b3,Obj.cells #[.func (.func Th) #[] cap] 241 zZ)∈Z)
 (h10:(yY,Obj.cells #[.func (.func 211) #[] #[ptr b7,ptr b1,ptr b3,ptr yY]] 205 zZ)∈Z):
  ∀(k r:Nat) (es:Array MapEntry) (ck:Nat) (V:zL) (G:Hp),K.n-dep K.n (lv ah) K.N r<=k->live K.N r->V.Nodup->Dv es ck V->P V G->
  Fc zQ 211 #[u32 r,ptr b7,ptr b1,ptr b3,ptr yY] ((mb,.map es ck)::(G++(Z++C))) (λv H=>v=.tuple #[]/\∃es' cE V' G',H=(mb,.map es' cE)::(G'++(Z++C))/\Dv es' cE V'/\P V' G'/\Walk K V V' r):=by
 have stop:∀{r:Nat} {es:Array MapEntry} {ck:Nat} {V:zL} {G:Hp},V.Nodup->Dv es ck V->P V G->(r<2\/r∈V)->
   Fc zQ 211 #[u32 r,ptr b7,ptr b1,ptr b3,ptr yY] ((mb,.map es ck)::(G++(Z++C))) (λv H=>v=.tuple #[]/\∃es' cE V' G',H=(mb,.map es' cE)::(G'++(Z++C))/\Dv es' cE V'/\P V' G'/\Walk K V V' r):=by
  intro r es ck V G gE hE hP hr;refine aK λg=>wB (aa.eq (rX r _) (cr.or (a:=decide (r<2)) (decide (r∈V)) (λ_=>?_) rfl λ_=>?_))
  ·refine Ld.mk (v:=.map (some mb)) (.tail _ (xaa _ (xad _ h7))) rfl ?_;by_cases hm:r∈V
   ·refine hE.hit (k:=r) gv (b:=mb) (by exact .head _) (by rw[uA,xae hm]) λv e=>?_;subst e;exact ae.gtr ⟨rfl,by rw[xav hm];rfl⟩
   refine hE.bT (k:=r) gv (b:=mb) (by exact .head _) (by rw[uA,xac hm]) ?_;exact ae.gtr ⟨rfl,by rw[xaq hm];rfl⟩
  rw[<-xbb,xav hr];refine Br.yes (aQ.mk (.refl _) ⟨rfl,es,ck,V,G,rfl,hE,hP,⟨gE,λ_ h=>h,hr,λu h h'=>absurd h h',λu h h'=>absurd h h'⟩⟩)
 intro k;induction k with
 |zero=>
  intro r es ck V G hk hr gE hE hP;refine stop gE hE hP (.inl ?_);cases hN:K.N r with
  |some d=>
   rw[aB hN]at hk;have:=h.ok.lv.lt _ (h.ok.mid.var hN);omega
  |none=>
   rcases hr with hr|⟨d,e⟩
   ·exact hr
   rw[hN]at e;cases e
 |succ k ih=>
  intro r es ck V G hk hr gE hE hP;by_cases hs:r<2\/r∈V
  ·exact stop gE hE hP hs
  have rK:¬r<2:=λh=>hs (.inl h);have hrV:r∉V:=λh=>hs (.inr h);obtain⟨d,hN⟩:∃d,K.N r=some d:=by
   rcases hr with hr|hr
   ·omega
   exact hr
  have hlo:=h.ok.wf.lo hN;have hhi:=h.ok.wf.hi hN;rw[aB hN]at hk;have hvl:=h.ok.lv.lt _ (h.ok.mid.var hN);refine aK λg=>wB (aa.eq (rX r _) (cr.or (a:=decide (r<2)) false (λ_=>?_) rfl λ_=>?_))
  ·refine Ld.mk (v:=.map (some mb)) (.tail _ (xaa _ (xad _ h7))) rfl ?_;refine hE.bT (k:=r) gv (b:=mb) (by exact .head _) (by rw[uA,xac hrV]) ?_;exact ae.gtr ⟨rfl,rfl⟩
  rw[xaq rK];refine Br.no (Ld.mk (v:=.map (some mb)) (.tail _ (xaa _ (xad _ h7))) rfl ?_);refine hE.bV (k:=r) (b:=mb) (x:=()) gv lB rfl λn4 mB Vb=>⟨_,.head _,?_⟩;rw[Pm hrV]at Vb;refine Ld.mk (v:=ptr kp) (.tail _ (xaa _ (xad _ h1))) rfl ?_;refine aa.eq (args:=#[ptr kp,u32 r]) (vL h hN) λoo _=>?_;refine St.p (j8 d) ?_;refine Ld.mk (v:=.func (.func Th) #[] cap) (.tail _ (.tail _ (xaa _ (xad _ h3)))) rfl ?_;refine au.q ?_;refine bG.of rfl hd.1 (aa.fn (.cons (.cons .left)) (by simpa using hd.2 V r d G hN hP) ?_);rintro v G1 ⟨rfl,hP1⟩;refine Ld.mk (v:=.func (.func 211) #[] #[ptr b7,ptr b1,ptr b3,ptr yY]) (.tail _ (.tail _ (xaa _ (xad _ h10)))) rfl ?_;refine Ld.f (v:=u32 d.lo) (bG.of rfl zK ?_);have aeR:(V++[r]).Nodup:=xa7.2 ⟨gE,by simp,λa ha b hb e=>hrV (by rw[xaK.1 hb]at e;rwa [<-e])⟩;refine aa.fq (args:=#[u32 d.lo,ptr b7,ptr b1,ptr b3,ptr yY]) (ih d.lo n4 mB (V++[r]) G1 zO hlo.1 aeR Vb hP1) ?_;rintro v H ⟨rfl,l5,mA,V2,G2,rfl,vp,hP2,w2⟩;refine Ld.mk (v:=.func (.func 211) #[] #[ptr b7,ptr b1,ptr b3,ptr yY]) (.tail _ (.tail _ (xaa _ (xad _ h10)))) rfl ?_;refine Ld.f (v:=u32 d.hi) (bG.of rfl zK (aa.fq (args:=#[u32 d.hi,ptr b7,ptr b1,ptr b3,ptr yY]) (ih d.hi l5 mA V2 G2 zO hhi.1 w2.nd vp hP2) ?_));rintro v H ⟨rfl,RK,R9,V3,G3,rfl,hE3,hP3,w3⟩;have r2:r∈V2:=w2.sub r zI;refine aQ.mk .tail ⟨rfl,RK,R9,V3,G3,rfl,hE3,hP3,⟨w3.nd,λu hu=>w3.sub u (w2.sub u (xad _ hu)),.inr (w3.sub r r2),λu hu hn=>?_,λu hu hn=>?_⟩⟩
  ·by_cases ZD:u∈V2
   ·by_cases S8:u∈V++[r]
    ·rcases xao.1 S8 with h'|h'
     ·exact absurd h' hn
     rw[xaK.1 h'];exact⟨d,hN,w2.has.imp id (w3.sub _),w3.has⟩
    obtain⟨e,he,a,b⟩:=w2.shut u ZD S8;exact⟨e,he,a.imp id (w3.sub _),b.imp id (w3.sub _)⟩
   exact w3.shut u hu ZD
  by_cases ZD:u∈V2
  ·by_cases S8:u∈V++[r]
   ·rcases xao.1 S8 with h'|h'
    ·exact absurd h' hn
    exact .base (xaK.1 h')
   exact xV (Rc.lo (.base rfl) hN) (w2.rc u ZD S8)
  exact xV (Rc.hi (.base rfl) hN) (w3.rc u hu ZD)
theorem Sn(h:cZ kp K S ord ah tr C)(hd:Zp Th cap K P){r b:Nat}{X G:Hp}(hr:live K.N r)(hP:P [] G)(hm:(b,Obj.cells (aA .u32 [(r:Int)]) 82 zZ)∈X):
  Fc zQ 164 #[ptr kp,.slice (some ⟨b,0,none⟩) 1 1,.func (.func Th) #[] cap] (G++(X++C)) (λv H=>v=.tuple #[]/\∃V G',H=G'++(X++C)/\P V G'/\V.Nodup/\V1 K.N V/\(r<2\/r∈V)/\∀u∈V,Rc K.N (λq=>q=r) u):=by
 refine aK λg=>Hy λb1 _ b3 _ mb _ b7 _=>?_;refine St.one (c':=#[.map (some mb)]) (by exact .head _) rfl zI rfl ?_;intro yY _;refine St.one (c':=#[.func (.func 211) #[] #[ptr b7,ptr b1,ptr b3,ptr yY]]) (by exact .head _) rfl zI rfl ?_;refine aG.mk ?_;obtain⟨Z,hZ⟩:∃Z:Hp,Z=(yY,Obj.cells #[.func (.func 211) #[] #[ptr b7,ptr b1,ptr b3,ptr yY]] 205 zZ)::(b7,.cells #[.map (some mb)] 296 zZ)::(b3,.cells #[.func (.func Th) #[] cap] 241 zZ)::(b1,.cells #[ptr kp] 45 zZ)::X:=⟨_,rfl⟩;have Ol:∀(e:Obj),List.Perm ((yY,Obj.cells #[.func (.func 211) #[] #[ptr b7,ptr b1,ptr b3,ptr yY]] 205 zZ)::(b7,.cells #[.map (some mb)] 296 zZ)::(mb,e)::(b3,.cells #[.func (.func Th) #[] cap] 241 zZ)::(b1,.cells #[ptr kp] 45 zZ)::(G++(X++C))) ((mb,e)::(G++(Z++C))):=λe=>by
  rw[hZ];refine((List.Perm.cons _ (List.Perm.swap _ _ _)).trans (List.Perm.swap _ _ _)).trans (.cons _ ?_);have:∀(a b c d:Nat×Obj),(a::b::c::d::(G++(X++C))).Perm (G++(a::b::c::d::(X++C))):=λa b c d=>by
   have:=(xaW (l₁:=[a,b,c,d]) (l₂:=G)).append_right (X++C);simpa[xai]using this
  exact this _ _ _ _
 refine⟨λvs H=>∃(i:Nat) (es:Array MapEntry) (ck:Nat) (V:zL) (G':Hp),vs=[i64 (i:Int)]/\H=(mb,.map es ck)::(G'++(Z++C))/\Dv es ck V/\P V G'/\((i=0/\V=[])\/(i=1/\Walk K [] V r)),λvs _=>1-bj vs 0,JE.of (.perm (Ol _)) ⟨0,#[],0,[],G,rfl,rfl,aT.empty,hP,.inl ⟨rfl,rfl⟩⟩,?_⟩;rintro w H ⟨i,es,ck,V,G',⟨⟩,rfl,hE,hPV,hi⟩ gs;have mZ:∀{x:Nat×Obj},x∈Z->x∈(mb,Obj.map es ck)::(G'++(Z++C)):=λhx=>.tail _ (xaa _ (xad _ hx));rcases hi with⟨rfl,rfl⟩|⟨rfl,hw⟩
 ·refine ae.cU (b:=1) (Br.T (ai.nat zD ?_));refine Ld.mk (v:=u32 r) (mZ (by rw[hZ];exact .tail _ (.tail _ (.tail _ (.tail _ hm))))) rfl ?_;refine Ld.mk (v:=.func (.func 211) #[] #[ptr b7,ptr b1,ptr b3,ptr yY]) (mZ (by rw[hZ];exact .head _)) rfl ?_;refine bG.of rfl zK (aa.fq (args:=#[u32 r,ptr b7,ptr b1,ptr b3,ptr yY]) (Tx (Z:=Z) h hd (by rw[hZ];exact .tail _ (.head _)) (by rw[hZ];exact .tail _ (.tail _ (.tail _ (.head _)))) (by rw[hZ];exact .tail _ (.tail _ (.head _))) (by rw[hZ];exact .head _) K.n r es ck [] G' (xdB _ _) hr List.nodup_nil hE hPV) ?_);rintro v H ⟨rfl,l5,mA,V2,G2,rfl,vp,hP2,w2⟩;exact ae.inc (a:=0) (az.mk ⟨1,l5,mA,V2,G2,rfl,rfl,vp,hP2,.inr ⟨rfl,w2⟩⟩ (by simp only[bj];decide))
 refine ae.cU (b:=1) (Br.F (aQ.mk ?_ ⟨rfl,V,G',rfl,hPV,hw.nd,λu hu=>hw.shut u hu zI,hw.has,λu hu=>hw.rc u hu zI⟩));rw[hZ];exact .skip (.cT (.skip (.skip (.skip .tail))) _)
theorem Ms(b4:Nat):Zp 165 #[ptr b4] K (λV G=>∃x:Int,G=[(b4,.cells #[i64 x] 3 zZ)]/\(V.length<4611686018427387904->x=V.length)):=by
 refine⟨by kernel_rfl,?_⟩;rintro V r d G hN ⟨x,rfl,hx⟩;refine aK λg=>Hx λb1 _=>?_;refine Ld.mk (v:=i64 x) (.tail _ (.head _)) rfl ?_;refine ae.add (St.one (c':=#[i64 (IntKind.i64.wrap (x+1))]) (by exact .tail (.head _)) rfl zI rfl ?_);refine aQ.mk .tail ⟨rfl,_,rfl,λhl=>?_⟩;rw[xaf,xbf]at hl⊢;rw[hx zO,wrap_i64 zO];omega
theorem RY(h:cZ kp K S ord ah tr C){r b:Nat}{X:Hp}(hr:live K.N r)(hm:(b,Obj.cells (aA .u32 [(r:Int)]) 82 zZ)∈X):
  Rd zQ 129 #[ptr kp,.slice (some ⟨b,0,none⟩) 1 1] (X++C) (· =.tuple #[i64 ((sz K.n ord (λg=>g=S r):Nat):Int),i64 0]):=by
 refine aK λg=>H6 (aa.eq (Df (X:=X) h hm hr) (ae.fX (Br.F ?_)));intro b4 _;refine St.one (c':=#[i64 0]) (by exact .head _) rfl zI rfl ?_;refine aa.fn (C:=[(b4,Obj.cells #[i64 0] 3 zZ)]++(X++C)) .here (Sn (P:=λV G=>∃x:Int,G=[(b4,.cells #[i64 x] 3 zZ)]/\(V.length<4611686018427387904->x=V.length)) h (Ms b4) hr ⟨0,rfl,λ_=>rfl⟩ hm) ?_;rintro v H ⟨rfl,V,G,rfl,⟨x,rfl,hx⟩,gE,hsh,hrV,hrc⟩;refine Ld.q ?_;refine bE.mk .tail ?_;have hc:=Tz h.ok.wf h.ok.lv h.od h.ok.mid.int (R:=λq=>q=r) (λq hq=>by rw[hq];exact hr) hsh (λq hq=>by rw[hq];exact hrV) hrc gE;have hlen:V.length<=1048576:=by
  have:∀u∈V,u∈List.range 1048576:=λu hu=>by
   obtain⟨d,hd,_⟩:=hsh u hu;exact xaJ.2 (h.eC (.inr ⟨d,hd⟩))
  have:=bN gE this;rwa [xaC]at this
 rw[hx zO,<-Bb hc];have e:Fs S (λq=>q=r)=λg=>g=S r:=funext λg=>propext ⟨λ⟨q,hq,e⟩=>by rw[e,hq],λe=>⟨r,rfl,e⟩⟩;rw[e];rfl
end
end Go.Proofs
namespace aE
open an
variable {n:Nat} {ord:zL}
def Xf(ord:zL)(L:List Fn):Nat->List Fn
 |0=>L
 |l+1=>(Xf ord L l).flatMap λf=>[λx=>f (aD x (ord.getD l 0) false),λx=>f (aD x (ord.getD l 0) true)]
theorem vz(L:List Fn):∀l,(Xf ord L l).length=L.length*2^l
 |0=>by simp[Xf]
 |l+1=>by
  rw[Xf,List.length_flatMap];simp only[xal,xbA];rw[List.map_const',List.sum_replicate_nat,vz L l,xc6,xck]
theorem Rv{F:Fn->Prop}{L:List Fn}(h:∀g,F g->g∈L):∀l g,fs ord F l g->g∈Xf ord L l
 |0,g,hg=>h g hg
 |l+1,g,⟨f,hf,b,e⟩=>by
  rw[Xf,List.mem_flatMap];refine⟨f,Rv h l f hf,?_⟩;subst e;cases b<;>simp
def FA(ord:zL)(L:List Fn):Nat->List Fn
 |0=>[]
 |k+1=>FA ord L k++Xf ord L k
theorem s6{ord:zL}(L:List Fn):∀k,(FA ord L k).length+L.length=L.length*2^k
 |0=>by simp[FA]
 |k+1=>by
  have:=s6 (ord:=ord) L k;rw[FA,xaf,vz,xc6];have e:L.length*(2^k*2)=L.length*2^k+L.length*2^k:=by rw[<-xck,Nat.mul_two]
  omega
theorem BQ{L:List Fn}{g:Fn}{l:Nat}(h:g∈Xf ord L l):∀k,l<k->g∈FA ord L k
 |0,hk=>by omega
 |k+1,hk=>by
  rw[FA,xao];by_cases e:l=k
  ·subst e;exact .inr h
  exact .inl (BQ h k zO)
theorem Lh{F:Fn->Prop}{L:List Fn}(h:∀g,F g->g∈L):∀g,bc n ord F g->g∈FA ord L n:=by
 rintro g ⟨l,hl,hg,_⟩;exact BQ (Rv h l g hg) n hl
theorem BH:∀l:List Fn,∃l':List Fn,l'.Nodup/\l'.length<=l.length/\∀g,g∈l↔g∈l'
 | []=>⟨[],List.nodup_nil,xak _,λ_=>xc8⟩
 |f::l=>by
  obtain⟨l',h1,h2,h3⟩:=BH l;by_cases hm:f∈l'
  ·refine⟨l',h1,Nat.le_succ_of_le h2,λg=>?_⟩;rw[xag,h3];exact⟨λh=>h.elim (λe=>e▸hm) id,.inr⟩
  exact⟨f::l',xaX.2 ⟨hm,h1⟩,Nat.succ_le_succ h2,λg=>by rw[xag,xag,h3]⟩
theorem VH{U:Fn->Prop}{l:List Fn}(h:∀g,U g->g∈l):∃k,k<=l.length/\ot U k:=by
 classical
 obtain⟨l',h1,h2,h3⟩:=BH l;refine⟨(l'.filter λg=>decide (U g)).length,xbB (xbW _ _) h2,_,h1.filter _,rfl,λg=>?_⟩;rw[xcP,xaQ,<-h3];exact⟨λx=>⟨h g x,x⟩,λx=>x.2⟩
theorem uR{F:Fn->Prop}{L:List Fn}{cap:Nat}(h:∀g,F g->g∈L)(hc:L.length*2^n+2<=cap):∃ku,ot (bc n ord F) ku/\ku+2<=cap:=by
 obtain⟨k,h1,h2⟩:=VH (Lh (n:=n) (ord:=ord) h);have:=s6 (ord:=ord) L n;exact⟨k,h2,by omega⟩
end aE
namespace Go.Proofs.Fm
inductive Lk(z:Tok)(o:List Tok):List Tok->List Tok->Prop
 |fin:Lk z o [z] o
 |cons {x y:Tok} {l l':List Tok}:x.k=y.k->x.v=y.v->x.k≠0->Lk z o l l'->Lk z o (x::l) (y::l')
inductive Gr(L:Prop)(z:Tok)(o:List Tok):Gl->Gl->Prop
 |jz {lv dp AZ:Nat} {l l':List Tok}:(¬L->AZ<=dp)->Lk z o l l'->Gr L z o (.jz lv dp l) (.jz lv AZ l')
 |more {lv dp AZ:Nat} {a:Tr} {l l':List Tok}:(¬L->AZ<=dp)->Lk z o l l'->Gr L z o (.more lv dp a l) (.more lv AZ a l')
 |tight {dp AZ:Nat} {l l':List Tok}:(¬L->AZ<=dp)->Lk z o l l'->Gr L z o (.tight dp l) (.tight AZ l')
inductive Pr(L:Prop)(z:Tok)(o:List Tok):Pl->Pl->Prop
 |ok {t:Tr} {l l':List Tok}:Lk z o l l'->Pr L z o (.done (.ok t l)) (.done (.ok t l'))
 |bad {p e:Nat} {q:Pl}:Pr L z o (.done (.bad p e)) q
 |aU {p:Pl} {q:Nat}:L->Pr L z o p (.done (.bad q 7))
 |call {g g':Gl} {k k':Rs->Pl}:Gr L z o g g'->(∀t l l',Lk z o l l'->Pr L z o (k (.ok t l)) (k' (.ok t l')))->(∀p e,k (.bad p e)=.done (.bad p e))->(∀p e,k' (.bad p e)=.done (.bad p e))->Pr L z o (.call g k) (.call g' k')
section
variable {L:Prop} {z y:Tok} {o r:List Tok} {n:Nat}
theorem Pr.cF{k:Nat}(hk:k≠0)(hz:z.k=0\/z.k=16)(tF:k≠16){t:Tr}{l l':List Tok}(h:Lk z o l l'){f f':Tr->List Tok->Pl}(hf:∀l l',Lk z o l l'->Pr L z o (f t l) (f' t l')):Pr L z o ((Rs.ok t l).cF k f) ((Rs.ok t l').cF k f'):=by
 cases h with
 |fin=>
  have:(Rs.ok t [z]).cF k f=.done (.bad z.p 14):=xac zO;rw[this];exact .bad
 | @cons x y l l' h1 h2 h3 h4=>
  show Pr L z o (if x.k=k then f t l else _) (if y.k=k then f' t l' else _);by_cases e:x.k=k
  ·rw[xae e,xae (h1▸e)];exact hf _ _ h4
  rw[xac e];exact .bad
theorem zw(hz:z.k=0\/z.k=16)(ho:o=y::r)(hy:y.k=11){g g':Gl}(h:Gr L z o g g'):Pr L z o (g9 n g) (g9 n g'):=by
 have D:∀t l l',Lk z o l l'->Pr L z o (.done (.ok t l)) (.done (.ok t l')):=λt l l' h=>.ok h;cases h with
 | @jz lv dp AZ l l' hd hl=>
  show Pr L z o (if lv=5 then _ else _) (if lv=5 then _ else _);by_cases e:lv=5
  ·rw[xae e,xae e];exact .call (.tight hd hl) D (λ_ _=>rfl) (λ_ _=>rfl)
  rw[xac e,xac e];exact .call (.jz hd hl) (λt l l' h=>.call (.more hd h) D (λ_ _=>rfl) (λ_ _=>rfl)) (λ_ _=>rfl) (λ_ _=>rfl)
 | @more lv dp AZ a l l' hd hl=>
  have hs:=IW lv;cases hl with
  |fin=>
   subst ho;show Pr L z _ (if z.k=eJ lv then _ else _) (if y.k=eJ lv then _ else _);rw[xac zO,xac zO];exact .ok .fin
  | @cons x y' l l' h1 h2 h3 h4=>
   show Pr L z o (if x.k=eJ lv then(if eJ lv=8 then _ else _)else _) (if y'.k=eJ lv then(if eJ lv=8 then _ else _)else _);rw[<-h1];by_cases e:x.k=eJ lv
   ·rw[xae e,xae e];by_cases e8:eJ lv=8
    ·rw[xae e8,xae e8];exact .call (.jz hd h4) (λt l l' h=>.ok h) (λ_ _=>rfl) (λ_ _=>rfl)
    rw[xac e8,xac e8];exact .call (.jz hd h4) (λt l l' h=>.call (.more hd h) D (λ_ _=>rfl) (λ_ _=>rfl)) (λ_ _=>rfl) (λ_ _=>rfl)
   rw[xac e,xac e];exact .ok (.cons h1 h2 h3 h4)
 | @tight dp AZ l l' hd hl=>
  cases hl with
  |fin=>
   have:g9 n (.tight dp [z])=.done (.bad z.p 14):=by
    show(if z.k=1\/z.k=2 then _ else if z.k=3 then _ else if z.k=4 then _ else if z.k=10 then _ else if z.k=12 then _ else _)=_;rw[xac zO,xac zO,xac zO,xac zO,xac zO]
   rw[this];exact .bad
  | @cons x y' l l' h1 h2 h3 h4=>
   have aU:∀{p:Nat} {q q':Pl},Pr L z o q q'->Pr L z o (if 1000<=dp then .done (.bad p 7)else q) (if 1000<=AZ then .done (.bad y'.p 7)else q'):=λ{p q q'} h=>by
    by_cases a:1000<=dp
    ·rw[xae a];exact .bad
    rw[xac a];by_cases b:1000<=AZ
    ·rw[xae b];by_cases hL:L
     ·exact .aU hL
     have:=hd hL;omega
    rw[xac b];exact h
   have AU:¬L->AZ+1<=dp+1:=λh=>by have:=hd h;omega
   show Pr L z o (if x.k=1\/x.k=2 then _ else if x.k=3 then(if n<=x.v then _ else _)else if x.k=4 then(if 1000<=dp then _ else _)else if x.k=10 then(if 1000<=dp then _ else _)else if x.k=12 then(if 1000<=dp then _ else _)else _)
    (if y'.k=1\/y'.k=2 then _ else if y'.k=3 then(if n<=y'.v then _ else _)else if y'.k=4 then(if 1000<=AZ then _ else _)else if y'.k=10 then(if 1000<=AZ then _ else _)else if y'.k=12 then(if 1000<=AZ then _ else _)else _)
   rw[<-h1,<-h2];by_cases e1:x.k=1\/x.k=2
   ·rw[xae e1,xae e1];exact .ok h4
   rw[xac e1,xac e1];by_cases e2:x.k=3
   ·rw[xae e2,xae e2];by_cases e:n<=x.v
    ·rw[xae e];exact .bad
    rw[xac e,xac e];exact .ok h4
   rw[xac e2,xac e2];by_cases e3:x.k=4
   ·rw[xae e3,xae e3];exact aU (.call (.tight AU h4) (λt l l' h=>.ok h) (λ_ _=>rfl) (λ_ _=>rfl))
   rw[xac e3,xac e3];by_cases e4:x.k=10
   ·rw[xae e4,xae e4];exact aU (.call (.jz AU h4) (λt l l' h=>.cF zD hz zD h λl l' h=>.ok h) (λ_ _=>rfl) (λ_ _=>rfl))
   rw[xac e4,xac e4];by_cases e5:x.k=12
   ·rw[xae e5,xae e5];exact aU (.call (.jz AU h4) (λt l l' h=>.cF zD hz zD h λl l' h=>.call (.jz AU h) (λt l l' h=>.cF zD hz zD h λl l' h=>.call (.jz AU h) (λt l l' h=>.cF zD hz zD h λl l' h=>.ok h) (λ_ _=>rfl) (λ_ _=>rfl)) (λ_ _=>rfl) (λ_ _=>rfl)) (λ_ _=>rfl) (λ_ _=>rfl))
   rw[xac e5];exact .bad
theorem Ev.sim(hz:z.k=0\/z.k=16)(ho:o=y::r)(hy:y.k=11){p:Pl}{s:Rs}(h:Ev n p s):∀{p':Pl},Pr L z o p p'->∀t l,s=.ok t l->(∃l',Ev n p' (.ok t l')/\Lk z o l l')\/(L/\∃q,Ev n p' (.bad q 7)):=by
 induction h with
 |done=>
  intro p' hp t l e;cases hp with
  |ok h=>cases e;exact .inl ⟨_,.done,h⟩
  |bad=>cases e
  |aU hL=>exact .inr ⟨hL,_,.done⟩
 | @call g k r1 r2 h1 h2 i1 i2=>
  intro p' hp t l e;cases hp with
  |aU hL=>exact .inr ⟨hL,_,.done⟩
  |call hg hk hb hb'=>
   cases r1 with
   |bad p' e'=>
    rw[hb]at h2;cases h2;cases e
   |ok t1 l1=>
    rcases i1 (zw hz ho hy hg) t1 l1 rfl with⟨l1',a,b⟩|⟨hL,q,a⟩
    ·rcases i2 (hk t1 l1 l1' b) t l e with⟨l',c,d⟩|⟨hL,q,c⟩
     ·exact .inl ⟨l',.call a c,d⟩
     exact .inr ⟨hL,q,.call a c⟩
    exact .inr ⟨hL,q,.call a (by rw[hb'];exact .done)⟩
end
theorem I8(s:List UInt8):∀(l:List UInt8) (n k:Nat),num n k (l++41::s)=num n k l
 | [],n,k=>by
  show num n k (41::s)=(n,k);unfold num;exact xae (.inl rfl)
 |b::l,n,k=>by
  show num n k (b::(l++41::s))=num n k (b::l);unfold num;rw[I8 s l]
theorem I3(s:List UInt8):∀(t r:List UInt8),(41:UInt8)∉t->t.isPrefixOf (r++41::s)=t.isPrefixOf r
 | [],r,_=>by cases r<;>rfl
 |a::t,[],h=>by
  have:(a==(41:UInt8))=false:=by
   rw[beq_eq_false_iff_ne];exact λe=>h (by rw[e];exact .head _)
  show(a==41&&t.isPrefixOf s)=false;rw[this];rfl
 |a::t,b::r,h=>by
  show(a==b&&t.isPrefixOf (r++41::s))=(a==b&&t.isPrefixOf r);rw[I3 s t r λh'=>h (.tail _ h')]
theorem IU(b:UInt8)(r s:List UInt8):∀S:List (List UInt8×Nat),(∀x∈S,∃a t,x.1=a::t/\(41:UInt8)∉t)->wT (b::(r++41::s)) S=wT (b::r) S
 | [],_=>rfl
 |x::S,h=>by
  obtain⟨a,t,e,ht⟩:=h x (.head _);unfold wT;rw[IU b r s S λy hy=>h y (.tail _ hy),e];have:(a::t).isPrefixOf (b::(r++41::s))=(a::t).isPrefixOf (b::r):=by
   show(a==b&&t.isPrefixOf (r++41::s))=(a==b&&t.isPrefixOf r);rw[I3 s t r ht]
  rw[this]
theorem OW(b:UInt8)(r s:List UInt8):dk (b::(r++41::s))=dk (b::r):=by
 unfold dk;have h1:kU (b::(r++41::s))=kU (b::r):=by
  show(if _ then _ else _)=(if _ then _ else _);rw[I8]
 have hS:∀x∈eB,∃a t,x.1=a::t/\(41:UInt8)∉t:=by
  intro x hx;simp only[eB,xag,xaw,xa1]at hx;rcases hx with rfl|rfl|rfl|rfl|rfl|rfl|rfl|rfl|rfl|rfl|rfl|rfl|rfl|rfl<;>exact⟨_,_,rfl,by decide⟩
 rw[h1,IU b r s eB hS]
theorem OV{s:List UInt8}{p:Nat}{f:List UInt8}{o1:List Tok}(h:eo p f o1):∀{i:List Tok} {z:Tok},o1=i++[z]->z.k=0->∀(q:Nat) (o2:List Tok),eo (q+f.length) (41::s) o2->∃o',eo q (f++41::s) o'/\Lk z o2 o1 o':=by
 have one:∀{x z:Tok} {i:List Tok},[x]=i++[z]->x=z:=λ{x z i} e=>by
  cases i with
  |nil=>cases e;rfl
  |cons y i=>simp at e
 induction h with
 |fin=>
  intro i z e hz q o2 h2;obtain rfl:=one e;exact⟨o2,h2,.fin⟩
 | @blank p r o h ih=>
  intro i z e hz q o2 h2;obtain⟨o',a,b⟩:=ih e hz (q+1) o2 (by rw[xal]at h2;rw[show q+1+r.length=q+(r.length+1)by omega];exact h2);exact⟨o',.blank a,b⟩
 |wrong hb h=>
  intro i z e hz q o2 h2;obtain rfl:=one e;cases hz
 | @tok p b r o hb h h' ih=>
  intro i z e hz q o2 h2;have hl:=pT h;obtain⟨j,rfl⟩:∃j,o=j++[z]:=by
   cases i with
   |nil=>
    simp only[xbe,xay]at e;obtain⟨_,rfl⟩:=e;obtain⟨i',t',e',_⟩:=h'.last;simp at e'
   |cons y i=>
    simp only[xaN,xay]at e;exact⟨i,e.2⟩
  obtain⟨o',a,c⟩:=ih rfl hz (q+(dk (b::r)).2.2) o2 (by
   rw[show q+(dk (b::r)).2.2+((b::r).drop (dk (b::r)).2.2).length=q+(b::r).length by rw[xb5];omega];exact h2)
  have ht:=OW b r s;have LQ:(dk (b::r)).1≠0:=by
   obtain⟨i',t',e',_,hi'⟩:=(eo.tok hb h h').last;cases i' with
   |nil=>
    simp only[xbe,xay]at e';have:=xb2 List.length e'.2;simp at this
   |cons y i'=>
    simp only[xaN,xay]at e';have:=(hi' y (.head _)).1;rw[<-e'.1]at this;exact this
  refine⟨⟨(dk (b::r)).1,q,(dk (b::r)).2.1⟩::o',?_,.cons rfl rfl LQ c⟩;have:=eo.tok (p:=q) (b:=b) (r:=r++41::s) (o:=o') hb (by rw[ht];exact h) (by
   rw[ht,show b::(r++41::s)=(b::r)++41::s from rfl,xef hl.2.1];exact a)
  rw[ht]at this;exact this
theorem Z8{n:Nat}{f s:List UInt8}{t:Tr}{l':List Tok}(h:Reads n f (.ok t l'))(q dp:Nat){o2:List Tok}{y:Tok}{r:List Tok}(ho:o2=y::r)(hy:y.k=11)(h2:eo (q+f.length) (41::s) o2):
  ∃o',eo q (f++41::s) o'/\(Ev n (g9 n (.jz 0 dp o')) (.ok t o2)\/∃p,Ev n (g9 n (.jz 0 dp o')) (.bad p 7)):=by
 cases h with
 | @mk o _ hl ht he=>
  obtain⟨i,z,rfl,hz,hi⟩:=ht.last;cases he with
  | @call _ _ r1 _ h1 h3=>
   cases r1 with
   |bad p e=>cases h3
   |ok t1 l1=>
    have acw:∀{i:List Tok},(∀u∈i,u.k≠0/\u.k≠16)->Lk z o2 (i++[z]) (i++o2):=by
     intro i;induction i with
     |nil=>exact λ_=>.fin
     |cons x i ih=>exact λh=>.cons rfl rfl (h x (.head _)).1 (ih λu hu=>h u (.tail _ hu))
    obtain⟨x,l2,rfl⟩:∃x l2,l1=x::l2:=by
     cases l1 with
     |nil=>cases h3
     |cons x l2=>exact⟨x,l2,rfl⟩
    have hx:x.k=0/\t1=t:=by
     by_cases e:x.k=0
     ·have e':(Rs.ok t1 (x::l2)).cF 0 (λt l'=>.done (.ok t l'))=.done (.ok t1 l2):=xae e;have wQ:=e'▸(show Ev n ((Rs.ok t1 (x::l2)).cF 0 λt l'=>.done (.ok t l')) (.ok t l')from h3);cases wQ;exact⟨e,rfl⟩
     have e':(Rs.ok t1 (x::l2)).cF 0 (λt l'=>.done (.ok t l'))=.done (.bad x.p 14):=xac e;have wQ:=e'▸(show Ev n ((Rs.ok t1 (x::l2)).cF 0 λt l'=>.done (.ok t l')) (.ok t l')from h3);cases wQ
    obtain⟨hx0,rfl⟩:=hx;have S6:z.k=0:=by
     rcases Ev.sim (L:=False) hz ho hy h1 (zw hz ho hy (.jz (λ_=>xak _) (acw hi))) t1 _ rfl with⟨l',_,hk⟩|⟨hL,_⟩
     ·cases hk with
      |fin=>exact hx0
      |cons _ _ h3 _=>exact absurd hx0 h3
     ·exact hL.elim
    obtain⟨o',a,b⟩:=OV ht rfl S6 q o2 h2;refine⟨o',a,?_⟩;rcases Ev.sim (L:=True) hz ho hy h1 (zw hz ho hy (Gr.jz (AZ:=dp) (λh=>absurd trivial h) b)) t1 _ rfl with⟨l',c,hk⟩|⟨_,q',c⟩
    ·cases hk with
     |fin=>exact .inl c
     |cons _ _ h3 _=>exact absurd hx0 h3
    ·exact .inr ⟨q',c⟩
theorem Ev.up{n dp:Nat}{l:List Tok}{r:Rs}:∀(j lv:Nat),lv+j<=5->(∀t x l',r=.ok t (x::l')->∀m,lv<=m->m<lv+j->x.k≠eJ m)->(∀t,r≠.ok t [])->Ev n (g9 n (.jz (lv+j) dp l)) r->Ev n (g9 n (.jz lv dp l)) r
 |0,lv,_,_,_,h=>h
 |j+1,lv,hj,hx,hn,h=>by
  have h1:=Ev.up (r:=r) (dp:=dp) (l:=l) (n:=n) j (lv+1) zO (λt x l' e m h1 h2=>hx t x l' e m zO zO) hn (by rw[show lv+1+j=lv+(j+1)by omega];exact h);show Ev n (if lv=5 then _ else _) r;rw[xac zO];refine .call h1 ?_;cases r with
  |bad p e=>exact .done
  |ok t l'=>
   cases l' with
   |nil=>exact absurd rfl (hn t)
   |cons x l'=>
    refine .call ?_ .done;show Ev n (if x.k=eJ lv then _ else _) _;rw[xac (hx t x l' rfl lv (xak _) zO)];exact .done
theorem Ev.t5{n dp:Nat}{l:List Tok}{r:Rs}(h:Ev n (g9 n (.tight dp l)) r):Ev n (g9 n (.jz 5 dp l)) r:=.call h .done
def Rs.nr(c:Nat):Rs->Prop
 | .ok _ l=>∀x∈l,x.p<=c
 | .bad p _=>p<=c
def Gl.nr(c:Nat):Gl->Prop
 | .jz _ _ l=>∀x∈l,x.p<=c
 | .more _ _ _ l=>∀x∈l,x.p<=c
 | .tight _ l=>∀x∈l,x.p<=c
inductive Pl.Nr(c:Nat):Pl->Prop
 |done {r:Rs}:r.nr c->Nr c (.done r)
 |call {g:Gl} {k:Rs->Pl}:g.nr c->(∀r,r.nr c->Nr c (k r))->Nr c (.call g k)
theorem Pl.Nr.thn{c:Nat}{r:Rs}{f:Tr->List Tok->Pl}(hr:r.nr c)(h:∀t l,(∀x∈l,x.p<=c)->Nr c (f t l)):Nr c (r.thn f):=by
 cases r with
 |ok t l=>exact h t l hr
 |bad p e=>exact .done hr
theorem Pl.Nr.cF{c k:Nat}{r:Rs}{f:Tr->List Tok->Pl}(hr:r.nr c)(h:∀t l,(∀x∈l,x.p<=c)->Nr c (f t l)):Nr c (r.cF k f):=by
 refine .thn hr λt l h1=>?_;cases l with
 |nil=>exact .done (xaA _)
 |cons x l=>
  show Nr c (if x.k=k then _ else _);split
  ·exact h t l λy hy=>h1 y (.tail _ hy)
  exact .done (h1 x (.head _))
theorem Ub(n:Nat){c:Nat}(g:Gl)(hg:g.nr c):(g9 n g).Nr c:=by
 cases g with
 |jz lv dp l=>
  show Pl.Nr c (if lv=5 then _ else _);split
  ·exact .call (by exact hg) λr h=>.done h
  exact .call (by exact hg) λr h=>.thn h λt l h=>.call (by exact h) λr h=>.done h
 |more lv dp a l=>
  cases l with
  |nil=>exact .done (xaA _)
  |cons x l=>
   have hl:∀y∈l,y.p<=c:=λy hy=>hg y (.tail _ hy);show Pl.Nr c (if x.k=eJ lv then(if eJ lv=8 then _ else _)else _);split
   ·split
    ·exact .call (by exact hl) λr h=>.thn h λt l h=>.done h
    exact .call (by exact hl) λr h=>.thn h λt l h=>.call (by exact h) λr h=>.done h
   exact .done hg
 |tight dp l=>
  cases l with
  |nil=>exact .done (xaA _)
  |cons x l=>
   have hx:x.p<=c:=hg x (.head _);have hl:∀y∈l,y.p<=c:=λy hy=>hg y (.tail _ hy);show Pl.Nr c (if x.k=1\/x.k=2 then _ else if x.k=3 then(if n<=x.v then _ else _)else if x.k=4 then(if 1000<=dp then _ else _)else if x.k=10 then(if 1000<=dp then _ else _)else if x.k=12 then(if 1000<=dp then _ else _)else _);split
   ·exact .done hl
   split
   ·split
    ·exact .done hx
    exact .done hl
   split
   ·split
    ·exact .done hx
    exact .call (by exact hl) λr h=>.thn h λt l h=>.done h
   split
   ·split
    ·exact .done hx
    exact .call (by exact hl) λr h=>.cF h λt l h=>.done h
   split
   ·split
    ·exact .done hx
    exact .call (by exact hl) λr h=>.cF h λt l h=>.call (by exact h) λr h=>.cF h λt l h=>.call (by exact h) λr h=>.cF h λt l h=>.done h
   exact .done hx
theorem Ev.nr{n c:Nat}{p:Pl}{r:Rs}(h:Ev n p r)(hp:p.Nr c):r.nr c:=by
 induction h with
 |done=>cases hp with|done h=>exact h
 |call _ _ i1 i2=>cases hp with|call h0 h=>exact i2 (h _ (i1 (Ub n _ h0)))
theorem eo.place{p:Nat}{l:List UInt8}{o:List Tok}(h:eo p l o):∀x∈o,x.p<=p+l.length:=by
 induction h with
 |fin=>intro x hx;rw[xaK.1 hx];exact xey _ _
 |blank _ ih=>intro x hx;have:=ih x hx;rw[xal];omega
 |wrong _ _=>intro x hx;rw[xaK.1 hx];exact xey _ _
 |tok _ h _ ih=>
  intro x hx;rcases xag.1 hx with rfl|hx
  ·exact xey _ _
  have:=ih x hx;have:=pT h;rw[xb5]at*;omega
theorem Reads.place{n:Nat}{l:List UInt8}{a e:Nat}(h:Reads n l (.bad a e)):a<=l.length:=by
 cases h with
 |Ls _=>exact xaA _
 |mk _ ht h=>
  have:=h.nr (c:=l.length) (.call (λx hx=>by have:=ht.place x hx;omega) λr hr=>.cF hr λt l h=>.done h);exact this
def Tr.all:Tr->List (Nat->Bool)
 | .c k=>[(Tr.c k).fn]
 | .v n=>[(Tr.v n).fn]
 | .no a=>(Tr.no a).fn::a.all
 | .bin k a b=>(Tr.bin k a b).fn::(a.all++b.all)
 | .ite a b d=>(Tr.ite a b d).fn::(a.all++(b.all++d.all))
theorem Tr.gi{g:Nat->Bool}:∀{t:Tr},t.iI g↔g∈t.all
 | .c k=>by simp[Tr.iI,Tr.all]
 | .v n=>by simp[Tr.iI,Tr.all]
 | .no a=>by simp[Tr.iI,Tr.all,Tr.gi (t:=a)]
 | .bin k a b=>by simp[Tr.iI,Tr.all,Tr.gi (t:=a),Tr.gi (t:=b)]
 | .ite a b d=>by simp[Tr.iI,Tr.all,Tr.gi (t:=a),Tr.gi (t:=b),Tr.gi (t:=d)]
def Gl.pc:Gl->Nat
 | .jz _ _ l=>l.length
 | .more _ _ a l=>a.all.length+l.length
 | .tight _ l=>l.length
def Rs.xu(c:Nat):Rs->Prop
 | .ok t l=>t.all.length+l.length<=c
 | .bad _ _=>True
inductive Pl.Fw:Nat->Pl->Prop
 |done {c:Nat} {r:Rs}:r.xu c->Fw c (.done r)
 |call {c:Nat} {g:Gl} {k:Rs->Pl}:(∀r,r.xu g.pc->Fw c (k r))->Fw c (.call g k)
theorem Pl.Fw.thn{c c':Nat}{r:Rs}{f:Tr->List Tok->Pl}(hr:r.xu c')(h:∀t l,t.all.length+l.length<=c'->Fw c (f t l)):Fw c (r.thn f):=by
 cases r with
 |ok t l=>exact h t l hr
 |bad p e=>exact .done trivial
theorem Pl.Fw.cF{c c' k:Nat}{r:Rs}{f:Tr->List Tok->Pl}(hr:r.xu c')(h:∀t l,t.all.length+l.length+1<=c'->Fw c (f t l)):Fw c (r.cF k f):=by
 refine .thn hr λt l h1=>?_;cases l with
 |nil=>exact .done trivial
 |cons x l=>
  show Fw c (if x.k=k then _ else _);split
  ·exact h t l h1
  exact .done trivial
theorem Uc(n:Nat)(g:Gl):Pl.Fw g.pc (g9 n g):=by
 cases g with
 |jz lv dp l=>
  show Pl.Fw _ (if lv=5 then _ else _);split
  ·exact .call λr h=>.done h
  exact .call λr h=>.thn h λt l1 h1=>.call λr h=>.done (by
   cases r with
   |ok t' l'=>exact xbB h h1
   |bad=>trivial)
 |more lv dp a l=>
  cases l with
  |nil=>exact .done trivial
  |cons x l=>
   show Pl.Fw _ (if x.k=eJ lv then(if eJ lv=8 then _ else _)else _);split
   ·split
    ·refine .call λr h=>.thn h λt l1 h2=>.done ?_;simp only[Rs.xu,Tr.all,Gl.pc,xal,xaf]at h2⊢;omega
    refine .call λr h=>.thn h λt l1 h2=>.call λr h=>.done ?_;cases r with
    |ok t' l'=>
     simp only[Rs.xu,Tr.all,Gl.pc,xal,xaf]at h2 h⊢;omega
    |bad=>trivial
   ·exact .done (xak _)
 |tight dp l=>
  cases l with
  |nil=>exact .done trivial
  |cons x l=>
   show Pl.Fw (l.length+1) (if x.k=1\/x.k=2 then _ else if x.k=3 then(if n<=x.v then _ else _)else if x.k=4 then(if 1000<=dp then _ else _)else if x.k=10 then(if 1000<=dp then _ else _)else if x.k=12 then(if 1000<=dp then _ else _)else _);split
   ·exact .done (by simp only[Rs.xu,Tr.all,xal,xbA];omega)
   split
   ·split
    ·exact .done trivial
    exact .done (by simp only[Rs.xu,Tr.all,xal,xbA];omega)
   split
   ·split
    ·exact .done trivial
    exact .call λr h=>.thn h λt l1 h2=>.done (by simp only[Rs.xu,Tr.all,Gl.pc,xal]at h2⊢;omega)
   split
   ·split
    ·exact .done trivial
    exact .call λr h=>.cF h λt l1 h2=>.done (by simp only[Rs.xu,Gl.pc]at h2⊢;omega)
   split
   ·split
    ·exact .done trivial
    refine .call λr h=>.cF h λt l1 h2=>.call λr h=>.cF h λt2 l2 h4=>.call λr h=>.cF h λt3 l3 h6=>.done ?_;simp only[Rs.xu,Tr.all,Gl.pc,xal,xaf]at h2 h4 h6⊢;omega
   exact .done trivial
theorem Ev.xu{n c:Nat}{p:Pl}{r:Rs}(h:Ev n p r)(hp:p.Fw c):r.xu c:=by
 induction h generalizing c with
 |done=>cases hp with|done h=>exact h
 |call _ _ i1 i2=>cases hp with|call h=>exact i2 (h _ (i1 (Uc n _)))
theorem Reads.xu{n:Nat}{l:List UInt8}{t:Tr}{l':List Tok}(h:Reads n l (.ok t l'))(hlen:∀o,eo 0 l o->o.length<=l.length+1):t.all.length<=l.length+1:=by
 cases h with
 |mk hl ht h=>
  have h1:=hlen _ ht;have h2:=h.xu (c:=l.length+1) (.call λr hr=>.cF hr λt l2 h3=>.done (by simp only[Rs.xu,Gl.pc]at h3⊢;omega));have h3:t.all.length+l'.length<=l.length+1:=h2;omega
end Go.Proofs.Fm
set_option maxRecDepth 100000
namespace Go.Proofs
open Go Go.Sx
section
open Fm Sw aE
abbrev NS:=List (List UInt8×Nat)
abbrev FN:=List (List UInt8×aE.Fn)
theorem Lm{k:List UInt8}{old x:Nat}:∀{ns:NS},(ns.map Prod.fst).Nodup->bU ns k=some old->(ns.map Prod.snd++[x]).Perm (old::(c8 ns k x).map Prod.snd):=by
 have key:∀{ns:NS},(ns.map Prod.fst).Nodup->bU ns k=some old->(x::ns.map Prod.snd).Perm (old::(ns.map λy=>if y.1=k then(k,x)else y).map Prod.snd):=by
  intro ns;induction ns with
  |nil=>intro _ h;simp[bU]at h
  |cons p ns ih=>
   intro nd h;obtain⟨h1,h2⟩:=xaX.1 nd;by_cases e:p.1=k
   ·have:old=p.2:=by
     unfold bU at h;rw[xbF,xav e]at h;simpa using h.symm
    subst this;have gK:(ns.map λy=>if y.1=k then(k,x)else y)=ns:=by
     refine(xbi λy hy=>?_).trans (xd0 ns);rw[xac λe'=>h1 (by rw[e,<-e'];exact xam.2 ⟨y,hy,rfl⟩)];rfl
    simp only[xaM,xae e,gK];exact .swap _ _ _
   have hg:bU ns k=some old:=by
    unfold bU at h⊢;rw[xbF,xaq e]at h;exact h
   simp only[xaM,xac e];exact(List.Perm.swap _ _ _).trans (((ih h2 hg).cons _).trans (.swap _ _ _))
 intro ns nd h;have hk:k∈ns.map Prod.fst:=by
  rcases Classical.em (k∈ns.map Prod.fst)with h'|h'
  ·exact h'
  rw[gN.2 h']at h;cases h
 unfold c8;rw[xae hk];exact(xaW (l₁:=ns.map Prod.snd) (l₂:=[x])).trans (key nd h)
theorem aaM{k:List UInt8}{x:Nat}{ns:NS}(h:bU ns k=none):c8 ns k x=ns++[(k,x)]:=by
 unfold c8;rw[xac (gN.1 h)]
def ij(S:Nat->aE.Fn)(ns:NS):FN:=ns.map λp=>(p.1,S p.2)
theorem P3{S:Nat->aE.Fn}{ns:NS}{k:List UInt8}{x:Nat}:ij S (c8 ns k x)=c8 (ij S ns) k (S x):=by
 unfold c8 ij;have e:(ns.map λp=>(p.1,S p.2)).map Prod.fst=ns.map Prod.fst:=by rw[xbL];rfl
 rw[e];split
 ·rw[xbL,xbL];refine xbi λy _=>?_;show(λp:List UInt8×Nat=>(p.1,S p.2)) (if y.1=k then(k,x)else y)=if y.1=k then(k,S x)else(y.1,S y.2)
  split<;>rfl
 rw[xaF];rfl
theorem rE{S:Nat->aE.Fn}{a:List UInt8}:∀ns:NS,bU (ij S ns) a=(bU ns a).map S
 | []=>rfl
 |p::ns=>by
  have ih:=rE (S:=S) (a:=a) ns;unfold bU ij at*;rw[xaM,xbF,xbF];by_cases e:p.1=a
  ·simp[e]
  simp only[e,xdK];exact ih
theorem r6{S S':Nat->aE.Fn}{ns:NS}(h:∀p∈ns,S' p.2=S p.2):ij S' ns=ij S ns:=xbi λp hp=>by rw[h p hp]
theorem XC{n:Nat}{ord:zL}{f:aE.Fn}(hn:n<=8):sz n ord (λg=>g=f)<=256:=by
 obtain⟨k,hk,hc⟩:=uR (n:=n) (ord:=ord) (F:=λg=>g=f) (L:=[f]) (cap:=1*2^n+2) (λg hg=>by rw[hg];exact .head _) (xak _);rw[Bb hk];have:2^n<=2^8:=xax zD hn;omega
abbrev gz(T:TypeId)(fz:Nat×Nat):Nat×Obj:=(1,.cells powC T fz)
abbrev mI(sp kp mb:Nat)(es:Array MapEntry)(ck:Nat)(C:Hp):Hp:=(sp,.cells #[ptr kp,.map (some mb)] 48 zZ)::(mb,.map es ck)::C
structure r8(kp n cap:Nat)(K:Kd)(S:Nat->aE.Fn)(ord ah tr:zL)(C:Hp)(es:Array MapEntry)(ck:Nat)(ns:NS):Prop where
 ks:cZ kp K S ord ah tr C
 dV:NmE es ck ns
 hb:bM (K0 n cap) S0 K S (ns.map Prod.snd)
section
variable {sp kp mb n cap:Nat} {K:Kd} {S:Nat->aE.Fn} {ord ah tr:zL} {C:Hp} {es:Array MapEntry} {ck:Nat} {ns:NS} {T:TypeId} {fz:Nat×Nat}
theorem qv{xs:zL}(h:bM (K0 n cap) S0 K S xs){x:Nat}(hx:x∈xs)(h2:2<=x):K.hold x≠0:=by
 rw[h.hold,xae h2];have:=xcG.2 hx;omega
theorem abX{xs:zL}(h:bM (K0 n cap) S0 K S xs)(s:Nat):K.hold s<=xs.length:=by
 have:=h.le s;have e:(K0 n cap).hold s=0:=by
  show([]:zL).getD s 0=0;simp
 omega
theorem Ah{xs:zL}(h:bM (K0 n cap) S0 K S xs)(hK:cZ kp K S ord ah tr C){x:Nat}(hx:x∈xs):aE.live K.N x:=by
 by_cases h2:2<=x
 ·exact hK.Cj x (qv h hx h2)
 exact .inl zO
theorem Q5{xs:zL}(h:bM (K0 n cap) S0 K S xs)(g:aE.Fn)(hg:K.held S g):∃x∈xs,S x=g:=by
 have:=h.held (P:=λg=>∃x∈xs,S x=g) (λx hx=>⟨x,hx,rfl⟩) g hg;rcases this with h'|h'
 ·obtain⟨s,hs,_⟩:=h';exfalso;have e:(K0 n cap).hold s=0:=by
   show([]:zL).getD s 0=0;simp
  exact hs e
 exact h'
theorem XM{x:Nat}{nm:List UInt8}(hK:cZ kp K S ord ah tr C)(hE:NmE es ck ns)(hH:bM (K0 n cap) S0 K S (ns.map Prod.snd++[x]))(hx:aE.live K.N x)(hn:n<=8):
  Fc zQ 77 #[ptr sp,ay nm,u32 x] (gz T fz::mI sp kp mb es ck C) (λr H=>r=nR (dec (sz n ord (λg=>g=S x))) 0 0/\∃K' es' cE C' jx,H=gz T fz::mI sp kp mb es' cE C'/\r8 kp n cap K' S ord ah jx C' es' cE (c8 ns nm x)/\(jx=tr\/jx=[])):=by
 refine aK λg=>M8 λb1 _ J3 h3=>?_;have EZ:K.n=n:=hH.n;have go:∀(K':Kd) (C':Hp) (jx:zL),cZ kp K' S ord ah jx C'->bM (K0 n cap) S0 K' S ((c8 ns nm x).map Prod.snd)->(jx=tr\/jx=[])->J3 [] ((b1,Obj.cells #[ay [],nI 0,nI 0] 27 zZ)::gz T fz::mI sp kp mb es ck C'):=λK' C' jx jX hH' ei=>by
  refine h3 _ λ_=>?_;have hxm:x∈(c8 ns nm x).map Prod.snd:=by
   have:(nm,x)∈c8 ns nm x:=by
    unfold c8;split
    ·rename_i h;obtain⟨y,hy,e⟩:=xam.1 h;exact xam.2 ⟨y,hy,by rw[xae e]⟩
    exact xaa _ (.head _)
   exact xam.2 ⟨_,this,rfl⟩
  have ZI:aE.live K'.N x:=Ah hH' jX hxm;have hn':K'.n=n:=hH'.n;refine Ld.v (v:=.map (some mb)) (.tail _ (.tail _ (.head _))) ?_;refine hE.bV (k:=nm) (b:=mb) (x:=x) mL xL rfl λes' cE Co=>⟨_,.tail (.tail (.tail (.head _))),?_⟩;refine Ld.v (v:=ptr kp) (.tail _ (.tail _ (.head _))) (ak.int (e:=82) zK zK zK λbx=>?_);refine aa.eq (RY (X:=[(bx,_),(b1,_),gz T fz,(sp,_),(mb,_)]) jX ZI (.head _)) (Ext.two ?_);rw[hn'];have hsz:=XC (n:=n) (ord:=ord) (f:=S x) hn;generalize sz n ord (λg=>g=S x)=m at hsz⊢;refine aa.eq (nq (n:=m) zO (.tail _ (.tail _ (.head _)))) (aa.eq (p9 (dec m) 0 _) ?_);refine St.whole (r:=dO (dec m) 0 0) (.tail (.head _)) rfl rfl (bD _ _ _) (au.whole (r:=dO (dec m) 0 0) (.tail _ (.head _)) rfl ?_);exact aQ.mk (.skip .tail) ⟨rfl,K',es',cE,C',jx,rfl,⟨jX,Co,hH'⟩,ei⟩
 refine Ld.v (v:=.map (some mb)) (.tail _ (.tail _ (.head _))) ?_;refine hE.look (k:=nm) mL (b:=mb) (.tail _ (.tail _ (.tail _ (.head _)))) (λold v ho hv=>?_) (λho=>?_)
 ·subst hv;have hp:=(Lm (x:=x) hE.nd ho);have ZX:=hH.perm hp;have xk:old∈old::(c8 ns nm x).map Prod.snd:=.head _;refine Ext.mk rfl (Ext.mk rfl (Br.yes (Ld.v (v:=ptr kp) (.tail _ (.tail _ (.head _))) ?_)));refine aa.fn (args:=#[ptr kp,u32 old]) (.cons (.cons (.cons (.cons .here)))) (Ar hK (by have:=hK.eC (Ah ZX hK xk);omega) (λh2=>qv ZX xk h2)) ?_;rintro _ C' ⟨rfl,K',jX,hf⟩;exact JE.mk (go K' C' [] jX (ZX.Xg hf) (.inr rfl))
 refine Ext.mk rfl (Ext.mk rfl (Br.no (JE.mk (go K C tr hK ?_ (.inl rfl)))));rw[aaM ho,xaF];exact hH
theorem Pe{x:Nat}{nm:List UInt8}(hK:cZ kp K S ord ah tr C)(hE:NmE es ck ns)(hH:bM (K0 n cap) S0 K S (ns.map Prod.snd++[x]))(hx:aE.live K.N x)(hn:n<=8):
  Fc zQ 35 #[ptr sp,ay nm,u32 x,nI 0] (gz T fz::mI sp kp mb es ck C) (λr H=>r=nR (dec (sz n ord (λg=>g=S x))) 0 0/\∃K' es' cE C' jx,H=gz T fz::mI sp kp mb es' cE C'/\r8 kp n cap K' S ord ah jx C' es' cE (c8 ns nm x)/\(jx=tr\/jx=[])):=by
 refine aK λg=>zb λb1 _=>ae.mF (a:=0) (b:=0) (Br.F ?_);refine aa.fn (.cons .here) (XM hK hE hH hx hn) ?_;rintro _ H ⟨rfl,h⟩;refine St.whole (r:=dO (dec (sz n ord (λg=>g=S x))) 0 0) (.head _) rfl rfl (bD _ _ _) (au.whole (r:=dO (dec (sz n ord (λg=>g=S x))) 0 0) (.head _) rfl ?_);exact aQ.mk .tail ⟨rfl,h⟩
theorem Bk{x e:Nat}{nm:List UInt8}(he:e≠0)(B:Hp):Rd zQ 35 #[ptr sp,ay nm,u32 x,nI e] B (· =nR [] 0 e):=by
 refine aK λg=>zb λb1 _=>ae.mF (b:=0) (Br.T (aa.eq (jl 0 e _) ?_) he);refine St.whole (r:=dO [] 0 e) (.head _) rfl rfl (bD _ _ _) (au.whole (r:=dO [] 0 e) (.head _) rfl ?_);exact bE.mk .tail rfl
def acN(sp kp mb n cap:Nat)(S:Nat->aE.Fn)(ord ah tr:zL)(es:Array MapEntry)(ck:Nat)(ns:NS)(T:TypeId)(fz:Nat×Nat)(C:Hp)(nm l:List UInt8)(lY:Nat)(r:zV)(H:Hp):Prop:=
 (∃a e,Reads n l (.bad a e)/\e≠0/\(r=if e=14\/e=2\/e=7 then nR [] (lY+a) e else nR [] 0 e)/\H=gz T fz::mI sp kp mb es ck C)\/
 ∃t l',Reads n l (.ok t l')/\((∃x K' S' es' cE C',r=nR (dec (sz n ord (λg=>g=t.fn))) 0 0/\H=gz T fz::mI sp kp mb es' cE C'/\r8 kp n cap K' S' ord ah [] C' es' cE (c8 ns nm x)/\S' x=t.fn/\∀p∈ns,S' p.2=S p.2)\/
  (∃K' S' C' jx,r=nR [] 0 9/\H=gz T fz::mI sp kp mb es ck C'/\r8 kp n cap K' S' ord ah jx C' es ck ns/\(∀p∈ns,S' p.2=S p.2)/\¬Fits (bc n ord (λg=>(∃x∈ns.map Prod.snd,S x=g)\/t.iI g)) cap))
theorem aar{a b:Nat}{x y:Nat}(h:(Value.tuple #[u32 a,nI x])=.tuple #[u32 b,nI y]):a=b/\x=y:=by
 simp only[Value.tuple.injEq,Array.mk.injEq,xay,u32,nI,Value.int.injEq,xdu,xa5]at h;omega
set_option maxHeartbeats 1000000 in
theorem XJ(hI:r8 kp n cap K S ord ah tr C es ck ns)(hn:n<=8)(hm:ns.length<=1000){nm text:List UInt8}{lY:Nat}(hf:lY<=text.length)(hl:text.length<=400):
  Fc zQ 21 #[ptr sp,ay nm,ay text,nI lY] (gz T fz::mI sp kp mb es ck C) (acN sp kp mb n cap S ord ah tr es ck ns T fz C nm (text.drop lY) lY):=by
 have hK:=hI.ks;have EZ:K.n=n:=hI.hb.n;have hKc:K.cap=cap:=hI.hb.cap;have hlen:(ns.map Prod.snd).length=ns.length:=xau _;have akH:2^n<=2^8:=xax zD hn;refine aK λg=>NY λb1 _=>?_;refine DR.of (R:=[(sp,.cells #[ptr kp,.map (some mb)] 48 zZ)]) (.jg (.tail _ (.tail _ (.head _)))) (Ld.v (v:=ptr kp) (.head _) ?_);refine bA.mM (l:=text) (i:=lY) (j:=text.length) rfl zK rfl (.inr ⟨_,.i64,rfl,rfl⟩) (.inl ⟨rfl,rfl⟩) hf (xak _) ?_;rw[xbc];refine aa.fn (args:=#[ptr kp,ay (text.drop lY)]) (.cons (.cons (.cons (.cons .here)))) (Rz hK (text.drop lY) (λs=>by have:=abX hI.hb s;rw[EZ];omega)) ?_;rw[EZ];rintro r C2 (⟨rfl,a,e,hb,rfl⟩|⟨t,l',x,e,hr,rfl,hb⟩)
 ·have he:=hb.fit;refine⟨.jg (.tail _ (.tail _ (.head _))),Ext.mk rfl (Ext.mk rfl (Ext.mk rfl (ae.bu (b:=14) (cr.or (decide (e=2)) (λ_=>ae.bu (b:=2) ⟨rfl,rfl⟩) rfl λ_=>?_))))⟩;rw[<-xbb];refine cr.or (decide (e=7)) (λ_=>ae.bu (b:=7) ⟨rfl,rfl⟩) rfl λ_=>?_;rw[<-xbb];have ha:lY+a<9223372036854775808:=by
   have:=hb.place;rw[xb5]at this;omega
  refine Br.dec (λh=>?_) (λh=>?_)
  ·refine ae.e7 (by simpa only[aU]using ha) (aa.eq (jl (lY+a) e _) ?_);refine St.whole (r:=dO [] (lY+a) e) (.head _) rfl rfl (bD _ _ _) (au.whole (r:=dO [] (lY+a) e) (.head _) rfl ?_);exact aQ.mk .tail (.inl ⟨a,e,hb,he,by rw[xae zO],rfl⟩)
  refine aa.eq (Bk (x:=0) he _) ?_;refine St.whole (r:=dO [] 0 e) (.head _) rfl rfl (bD _ _ _) (au.whole (r:=dO [] 0 e) (.head _) rfl ?_);exact aQ.mk .tail (.inl ⟨a,e,hb,he,by rw[xac zO],rfl⟩)
 rcases hb with⟨x',K',S',jx,ee,jX,hh,ZI,hSx,rfl⟩|⟨ee,⟨K',S',jx,jX,hh⟩,hno⟩
 ·obtain⟨rfl,rfl⟩:=aar ee;refine⟨.jg (.tail _ (.tail _ (.head _))),Ext.mk rfl (Ext.mk rfl (Ext.mk rfl (ae.bu (a:=0) (b:=14) (cr.or false (λ_=>ae.bu (a:=0) (b:=2) ⟨rfl,rfl⟩) rfl λ_=>cr.or false (λ_=>ae.bu (a:=0) (b:=7) ⟨rfl,rfl⟩) rfl λ_=>Br.no ?_))))⟩;refine aa.fn (args:=#[ptr sp,ay nm,u32 x,nI 0]) (.cons .here) (Pe jX hI.dV (hI.hb.more hh) ZI hn) ?_;rintro _ H ⟨rfl,K2,es',cE,C',kX,rfl,hI2,LH⟩;rw[hSx];refine St.whole (r:=dO (dec (sz n ord (λg=>g=t.fn))) 0 0) (.head _) rfl rfl (bD _ _ _) (au.whole (r:=dO (dec (sz n ord (λg=>g=t.fn))) 0 0) (.head _) rfl ?_);have ht:kX=[]:=LH.elim id id;subst ht;refine aQ.mk .tail (.inr ⟨t,l',hr,.inl ⟨x,K2,S',es',cE,C',rfl,rfl,hI2,hSx,λp hp=>?_⟩⟩);exact(rF hK jX hh λh2=>qv hI.hb (xam.2 ⟨p,hp,rfl⟩) h2).2
 obtain⟨rfl,rfl⟩:=aar ee;refine⟨.jg (.tail _ (.tail _ (.head _))),Ext.mk rfl (Ext.mk rfl (Ext.mk rfl (ae.bu (a:=9) (b:=14) (cr.or false (λ_=>ae.bu (a:=9) (b:=2) ⟨rfl,rfl⟩) rfl λ_=>cr.or false (λ_=>ae.bu (a:=9) (b:=7) ⟨rfl,rfl⟩) rfl λ_=>Br.no ?_))))⟩;refine aa.eq (Bk (x:=0) zD _) ?_;refine St.whole (r:=dO [] 0 9) (.head _) rfl rfl (bD _ _ _) (au.whole (r:=dO [] 0 9) (.head _) rfl ?_);refine aQ.mk .tail (.inr ⟨t,l',hr,.inr ⟨K',S',C2,jx,rfl,rfl,⟨jX,hI.dV,by have:=hI.hb.more hh;rwa [xaG]at this⟩,λp hp=>(rF hK jX hh λh2=>qv hI.hb (xam.2 ⟨p,hp,rfl⟩) h2).2,λhF=>hno ?_⟩⟩);rw[EZ,hKc];exact Fits.mono (λg hg=>eu (λg h=>h.imp (Q5 hI.hb g) id) hg) hF
end
end
section
open Fm Sw aE
def r7(T:TypeId)(fz:Nat×Nat)(sp n cap:Nat)(ord:zL)(F:FN)(tr:zL)(H:Hp):Prop:=
 ∃kp mb K S ah ns es ck C,H=gz T fz::mI sp kp mb es ck C/\r8 kp n cap K S ord ah tr C es ck ns/\ij S ns=F
def oH(F:FN)(t:List UInt8):Bool:=(bU F t).isSome
theorem Q8{S:Nat->aE.Fn}{ns:NS}:my ns=oH (ij S ns):=funext λt=>by
 unfold my oH;rw[rE];cases bU ns t<;>rfl
def Bg(T:TypeId)(fz:Nat×Nat)(sp n cap:Nat)(ord:zL)(F:FN)(tr:zL)(H:Hp):Prop:=
 Fc zQ 15 #[ptr sp] H (λv H'=>v=.tuple #[]/\r7 T fz sp n cap ord F tr H')
section
variable {T:TypeId} {fz:Nat×Nat} {sp n cap:Nat} {ord:zL} {F:FN} {tr:zL} {H0:Hp}
theorem r7.bg(h:r7 T fz sp n cap ord F tr H0):Bg T fz sp n cap ord F tr H0:=by
 obtain⟨kp,mb,K,S,ah,ns,es,ck,C,rfl,h1,h2⟩:=h;refine aK λg=>ze (Ld.v (v:=ptr kp) (.tail _ (.head _)) (ae.aJ (Br.no ?_)));exact aQ.mk (.refl _) ⟨rfl,kp,mb,K,S,ah,ns,es,ck,C,rfl,h1,h2⟩
abbrev Z5(sp:Nat):Nat×Obj:=(sp,.cells #[.pointer none,.map none] 48 zZ)
theorem IQ(B:Hp):Fc zQ 7 #[] B (λv H=>∃sp,v=ptr sp/\H=Z5 sp::B):=by
 refine aK λg=>SN (Build.mk (cs:=[.pointer none,.map none]) zK λsp _=>?_);exact aQ.mk (.refl _) ⟨sp,rfl,rfl⟩
theorem Cy:Bg T fz sp 8 1000 (List.range 8) [] [] [gz T fz,Z5 sp]:=by
 refine aK λg=>ze (Ld.v (v:=.pointer none) (.tail _ (.head _)) (ae.jf (Br.yes ?_)));refine aa.fn hnew (PZ (n:=8) (cap:=1000) zD zD) ?_;rintro _ C ⟨kp,rfl,hK⟩;refine Ext.two (Nil.ptr (.mk (St.one (c':=#[ptr kp,.map none]) ((cu.head _).tail.aH C) rfl (show 0<2 by decide) rfl ?_)));intro mb _;refine Nil.ptr (.mk (St.one (c':=#[ptr kp,.map (some mb)]) (((cu.head _).tail.aH C).tail) rfl (show 1<2 by decide) rfl ?_));refine aQ.mk (gW:=gz T fz::mI sp kp mb #[] 0 C) (.perm ?_) ⟨rfl,kp,mb,_,_,_,[],_,_,C,rfl,⟨hK,aT.empty,.refl⟩,rfl⟩;refine(xaW (l₁:=(mb,Obj.map #[] 0)::C) (l₂:=[gz T fz,(sp,.cells #[ptr kp,.map (some mb)] 48 zZ)])).trans ?_;exact .refl _
structure agt(T:TypeId)(fz:Nat×Nat)(sp n cap:Nat)(ord:zL)(F:FN)(tr:zL)(i:Nat)(ws:List Wd)(m:Nat)(Q:zV->Hp->Prop):Prop where
 h1:∀p,Ej m (KQ (sW.getD i ([],[])).2 ws) ws=some p->∀H,r7 T fz sp n cap ord F tr H->Q (nR [] p 14) H
 h2:Ej m (KQ (sW.getD i ([],[])).2 ws) ws=none->∀p,Ei (oH F) (KQ (sW.getD i ([],[])).2 ws) ws=some p->∀H,r7 T fz sp n cap ord F tr H->Q (nR [] p 15) H
 h3:Ej m (KQ (sW.getD i ([],[])).2 ws) ws=none->Ei (oH F) (KQ (sW.getD i ([],[])).2 ws) ws=none->∀kp mb K S ah ns es ck C N av,r8 kp n cap K S ord ah tr C es ck ns->ij S ns=F->aO 78 4 av ((rdv (KQ (sW.getD i ([],[])).2 ws) ws).map kS) N->
  Fc zQ (Mz.getD i 0) #[ptr sp,av] (N++(gz T fz::mI sp kp mb es ck C)) (λr H=>(∃t a e,r=nR t a e)/\∃N' H',H=N'++H'/\Q r H')
theorem VJ:(sW.all λc=>decide (c.2.length<=3))=true:=by decide
theorem R7:((List.range 19).all λi=>bQ zQ (Mz.getD i 0))=true:=by kernel_rfl
set_option maxHeartbeats 1000000 in
theorem uY(hB:Bg T fz sp n cap ord F tr H0){text:List UInt8}(hl:text.length<=400){w:Wd}{ws:List Wd}(hw:tg 0 none text=w::ws){i:Nat}(hc:cmd w.t=some i){Q:zV->Hp->Prop}
 (Yh:(sW.getD i ([],[])).2=[43]->∀B:Hp,Fc zQ 31 #[ay [110],nI ws.length] B (λv H=>v=ay (List.replicate ws.length 110)/\H=B))
 (hQ:agt T fz sp n cap ord F tr i ws text.length Q):Fc zQ 8 #[ptr sp,ay text] H0 Q:=by
 have hi:=R6 hc;have Jo:bQ zQ (Mz.getD i 0)=true:=xcr.1 R7 i (xaJ.2 hi);have Ca:(sW.getD i ([],[])).2.length<=3:=by
  have hi':i<sW.length:=hi;rw[xap,xab hi'];exact xcl (xcr.1 VJ _ (xaD hi'))
 obtain⟨EL,WA⟩:=kV text 0 none;rw[hw]at EL WA;rw[xal]at EL;refine aK λg=>Dw λb1 _=>ae.aJ (Br.no (aa.fn (.cons .here) hB ?_));rintro _ _ ⟨rfl,kp,mb,K,S,ah,ns,es,ck,C,rfl,hI,hF⟩;refine aL.of (ae.iF (b:=400) (Br.F (aa.fq (xG text hl _) ?_)));rintro v H ⟨N,rfl,hs⟩;rw[hw]at hs;refine hs.bF ?_;rw[xau,xal];refine ae.bu (b:=0) (Br.F ?_);have hv:=(Sl.fi hs zD).mono (B':=N++((b1,Obj.cells #[ay [],nI 0,nI 0] 27 zZ)::(gz T fz::mI sp kp mb es ck C))) λy hy=>xad _ hy;refine ai.sl hv (i:=0) (r:=w.cells) rfl λp hp=>ag.at hp λq hq=>Ld.at (v:=ay w.t) (r:=[nI w.a,nI w.e]) hq (λy hy=>hy) ?_;refine aa.eq (uy sp w.t _) ?_;rw[hc];refine Ext.mk rfl (Ext.mk rfl λZa _=>St.whole (r:=pR sp i) (.head _) rfl rfl (Ax sp i) (Br.yes ?_));refine DR.of (R:=[(Za,.cells (pR sp i).toArray 54 zZ)]) (.jg (.head _)) (Ld.u (v:=ay (sW.getD i ([],[])).2) (.head _) ?_);refine cR.tail hv λv' mr=>aL.of λ_=>?_;refine aa.fq (T7 hI.dV (T:=48) (fz:=(0,0)) (kv:=ptr kp) (mb:=mb) (sp:=sp) (.tail _ (xaa _ (.tail _ (.tail _ (.head _))))) (.tail _ (xaa _ (.tail _ (.tail _ (.tail _ (.head _)))))) (sW.getD i ([],[])).2 Ca ws zO (λx hx=>by have:=(WA x (.tail _ hx)).1;simp only[xdz,xbA]at this;omega) (mr.mono λy hy=>.tail _ hy) text.length Yh) ?_;have hff:my ns=oH F:=by rw[Q8,hF]
 rw[hff];have hS:r7 T fz sp n cap ord F tr (gz T fz::mI sp kp mb es ck C):=⟨kp,mb,K,S,ah,ns,es,ck,C,rfl,hI,hF⟩;have bad:∀(p e:Nat) (N2:Hp),e≠0->Q (nR [] p e) (gz T fz::mI sp kp mb es ck C)->∀Ti:Nat,
   St 3 ((Ti,.cells #[ay [],nI 0,nI 0] 27 zZ)::(N2++((Za,.cells (pR sp i).toArray 54 zZ)::(N++((b1,Obj.cells #[ay [],nI 0,nI 0] 27 zZ)::(gz T fz::mI sp kp mb es ck C)))))) (.pointer (some ⟨Ti,0,none⟩)) (nR [] p e) λH45=>
   ag 2 (.pointer (some ⟨Ti,0,none⟩)) λv46=>Ld H45 v46 λv47=>ae .num .neq v47 (iv 0) λv48=>
   Br v48 (au 3 H45 (.pointer (some ⟨Ti,0,none⟩)) λv49=>St 3 H45 (.pointer (some ⟨b1,0,none⟩)) v49 λH50=>au 3 H50 (.pointer (some ⟨b1,0,none⟩)) λv51=>aQ Q (.returned v51) H50) False:=λp e N2 he hq Ti=>by
  refine St.whole (r:=dO [] p e) (.head _) rfl rfl (bD _ _ _) (Ld.u (v:=nI e) (.head _) (ae.mF (b:=0) (Br.T ?_ he)));refine au.whole (r:=dO [] p e) (.head _) rfl (St.whole (r:=dO [] p e) (.tail ((cu.tail ((cu.head _).aH N)).aH N2)) rfl rfl (bD _ _ _) (au.whole (r:=dO [] p e) (.tail _ (xaa _ (.tail _ (xaa _ (.head _))))) rfl ?_));exact aQ.mk (.skip (.bY (.skip (.bY .tail)))) hq
 have IP:∀{H:Hp} {p v:zV} {K1 K2:Hp->Prop},St 3 H p v K1->(∀X,K1 X->K2 X)->St 3 H p v K2:=λh hk=>by
  obtain⟨b,o,c,T,H',h1,h2,h3,h4,h5,h6⟩:=h;exact⟨b,o,c,T,H',h1,h2,h3,h4,h5,hk _ h6⟩
 have JO:∀{v:zV} {A B:Prop},Br v A False->Br v A B:=λh=>by
  obtain⟨b,rfl,h1,h2⟩:=h;exact⟨b,rfl,h1,λe=>(h2 e).elim⟩
 have Jg:∀{H:Hp} {p:zV} {K1 K2:zV->Prop},Ld H p K1->(∀X,K1 X->K2 X)->Ld H p K2:=λh hk=>by
  obtain⟨b,o,c,T,fz,v,h1,h2,h3,h4⟩:=h;exact⟨b,o,c,T,fz,v,h1,h2,h3,hk _ h4⟩
 have JB:∀{j:Nat} {p:zV} {K1 K2:zV->Prop},ag j p K1->(∀X,K1 X->K2 X)->ag j p K2:=λh hk=>by
  obtain⟨b,o,h1,h2⟩:=h;exact⟨b,o,h1,hk _ h2⟩
 have Dj:∀{v w:zV} {K1 K2:zV->Prop},ae .num .neq v w K1->(∀X,K1 X->K2 X)->ae .num .neq v w K2:=λh hk=>by
  obtain⟨b,h1,h2⟩:=h;exact⟨b,h1,hk _ h2⟩
 rintro _ H ⟨N2,rfl,hR⟩;rcases hR with⟨p,hp,rfl⟩|⟨hn,p,hp,rfl⟩|⟨hn,QC,av,rfl,ie⟩
 ·refine⟨.bY (.jg (.head _)),Ext.mk rfl (Ext.mk rfl λTi _ _=>?_)⟩;exact IP (bad p 14 N2 zD (hQ.h1 p hp _ hS) Ti) λX h=>JB h λa h=>Jg h λb h=>Dj h λc h=>JO h
 ·refine⟨.bY (.jg (.head _)),Ext.mk rfl (Ext.mk rfl λTi _ _=>?_)⟩;exact IP (bad p 15 N2 zD (hQ.h2 hn p hp _ hS) Ti) λX h=>JB h λa h=>Jg h λb h=>Dj h λc h=>JO h
 refine⟨.bY (.jg (.head _)),Ext.mk rfl (Ext.mk rfl λTi _ _=>?_)⟩;refine St.whole (r:=dO [] 0 0) (.head _) rfl rfl (bD _ _ _) (Ld.u (v:=nI 0) (.head _) (ae.mF (a:=0) (b:=0) (Br.F ?_)));refine Ld.u (v:=.func (.func (Mz.getD i 0)) #[ptr sp] #[]) (.tail _ (xaa _ (.head _))) (bG.of rfl Jo ?_);refine aa.pre (H':=(b1,Obj.cells #[ay [],nI 0,nI 0] 27 zZ)::(N2++(gz T fz::mI sp kp mb es ck C))) ((aI.skip (.cT (.skip (.bY (.refl _))) N2)).trans (.perm xaT)) ?_;refine aa.fn (args:=#[ptr sp,av]) (.cons .here) (hQ.h3 hn QC kp mb K S ah ns es ck C N2 av hI hF ie) ?_;rintro _ _ ⟨⟨t,a,e,rfl⟩,N',H',rfl,hq⟩;refine St.whole (r:=dO t a e) (.head _) rfl rfl (bD _ _ _) (au.whole (r:=dO t a e) (.head _) rfl ?_);exact aQ.mk (.skip (.bY (.refl _))) hq
end
section
variable {T:TypeId} {fz:Nat×Nat} {sp n cap:Nat} {ord:zL} {F:FN} {tr:zL} {H0:Hp}
def SK(T:TypeId)(fz:Nat×Nat)(sp n cap:Nat)(ord:zL)(F:FN)(tr:zL)(nm l:List UInt8)(lY:Nat)(r:zV)(H:Hp):Prop:=
 (∃a e,Reads n l (.bad a e)/\e≠0/\(r=if e=14\/e=2\/e=7 then nR [] (lY+a) e else nR [] 0 e)/\r7 T fz sp n cap ord F tr H)\/
 ∃t l',Reads n l (.ok t l')/\((r=nR (dec (sz n ord (λg=>g=t.fn))) 0 0/\r7 T fz sp n cap ord (c8 F nm t.fn) [] H)\/
  (r=nR [] 0 9/\(∃jx,r7 T fz sp n cap ord F jx H)/\¬Fits (bc n ord (λg=>(∃p∈F,p.2=g)\/t.iI g)) cap))
theorem Ee{nm l:List UInt8}{lY:Nat}{r:zV}{H:Hp}(h:SK T fz sp n cap ord F tr nm l lY r H):∃t a e,r=nR t a e:=by
 rcases h with⟨a,e,_,_,rfl,_⟩|⟨t,l',_,⟨rfl,_⟩|⟨rfl,_⟩⟩
 ·split
  ·exact⟨_,_,_,rfl⟩
  exact⟨_,_,_,rfl⟩
 ·exact⟨_,_,_,rfl⟩
 exact⟨_,_,_,rfl⟩
theorem Pj{kp mb:Nat}{K:Kd}{S:Nat->aE.Fn}{ah:zL}{es:Array MapEntry}{ck:Nat}{ns:NS}{C:Hp}(hI:r8 kp n cap K S ord ah tr C es ck ns)(hF:ij S ns=F){nm l:List UInt8}{lY:Nat}{r:zV}{H:Hp}
 (h:acN sp kp mb n cap S ord ah tr es ck ns T fz C nm l lY r H):SK T fz sp n cap ord F tr nm l lY r H:=by
 rcases h with⟨a,e,h1,h2,h3,rfl⟩|⟨t,l',h1,⟨x,K',S',es',cE,C',rfl,rfl,hI',hx,hs⟩|⟨K',S',C',jx,rfl,rfl,hI',hs,hno⟩⟩
 ·exact .inl ⟨a,e,h1,h2,h3,kp,mb,K,S,ah,ns,es,ck,C,rfl,hI,hF⟩
 ·exact .inr ⟨t,l',h1,.inl ⟨rfl,kp,mb,K',S',ah,_,es',cE,C',rfl,hI',by rw[P3,r6 hs,hF,hx]⟩⟩
 refine .inr ⟨t,l',h1,.inr ⟨rfl,⟨jx,kp,mb,K',S',ah,ns,es,ck,C',rfl,hI',by rw[r6 hs,hF]⟩,λhf=>hno ?_⟩⟩;refine Fits.mono (λg hg=>eu (λg h=>?_) hg) hf;refine h.imp ?_ id;rintro⟨x,hx,rfl⟩;obtain⟨p,hp,rfl⟩:=xam.1 hx;exact⟨(p.1,S p.2),by rw[<-hF];exact xam.2 ⟨p,hp,rfl⟩,rfl⟩
theorem uX(hB:Bg T fz sp n cap ord F tr H0){text:List UInt8}(hl:text.length<=400){w:Wd}{ws:List Wd}(hw:tg 0 none text=w::ws)(hc:cmd w.t=none){Q:zV->Hp->Prop}
 (pE:(xg w.t=false\/∀w2 Tu,ws=w2::Tu->w2.t≠[61])->∀H,r7 T fz sp n cap ord F tr H->Q (nR [] w.a 15) H)
 (LJ:∀w2 Tu,xg w.t=true->ws=w2::Tu->w2.t=[61]->n<=8/\F.length<=1000/\∀r H,SK T fz sp n cap ord F tr w.t (text.drop (w2.e+Fl (text.drop w2.e))) (w2.e+Fl (text.drop w2.e)) r H->Q r H):
  Fc zQ 8 #[ptr sp,ay text] H0 Q:=by
 obtain⟨EL,WA⟩:=kV text 0 none;rw[hw]at EL WA;rw[xal]at EL;have aa5:w.t.length<=400:=by
  have:=(WA w (.head _)).1;simp only[xdz,xbA]at this;omega
 refine aK λg=>Dw λb1 _=>ae.aJ (Br.no (aa.fn (.cons .here) hB ?_));rintro _ _ ⟨rfl,kp,mb,K,S,ah,ns,es,ck,C,rfl,hI,hF⟩;have hS:r7 T fz sp n cap ord F tr (gz T fz::mI sp kp mb es ck C):=⟨kp,mb,K,S,ah,ns,es,ck,C,rfl,hI,hF⟩;refine aL.of (ae.iF (b:=400) (Br.F (aa.fq (xG text hl _) ?_)));rintro v H ⟨N,rfl,hs⟩;rw[hw]at hs;refine hs.bF ?_;rw[xau,xal];refine ae.bu (b:=0) (Br.F ?_);have ZC:=Sl.fi hs zD;refine ai.sl ZC (i:=0) (r:=w.cells) rfl λp hp=>ag.at hp λq hq=>Ld.at (v:=ay w.t) (r:=[nI w.a,nI w.e]) hq (λy hy=>xad _ hy) ?_;refine aa.eq (uy sp w.t _) ?_;rw[hc];refine Ext.mk rfl (Ext.mk rfl λZa _=>St.whole (r:=[ay [],ay [],.nilFunc]) (.head _) rfl rfl zG (Br.no ?_));refine ai.sl ZC (i:=0) (r:=w.cells) rfl λp hp=>ag.at hp λq hq=>Ld.at (v:=ay w.t) (r:=[nI w.a,nI w.e]) hq (λy hy=>.tail _ (xad _ hy)) ?_;refine aa.eq (Bj sp w.t aa5 _) (Un.not ?_)
 /- a fault -/
 have bad:(xg w.t=false\/∀w2 Tu,ws=w2::Tu->w2.t≠[61])->ai 3 v (nI 0) λv74=>ag 1 v74 λv75=>Ld ((Za,.cells #[ay [],ay [],.nilFunc] 54 zZ)::(N++((b1,Obj.cells #[ay [],nI 0,nI 0] 27 zZ)::(gz T fz::mI sp kp mb es ck C)))) v75 λv76=>
   aa zQ g 16 #[v76,nI 15] ((Za,.cells #[ay [],ay [],.nilFunc] 54 zZ)::(N++((b1,Obj.cells #[ay [],nI 0,nI 0] 27 zZ)::(gz T fz::mI sp kp mb es ck C)))) (λv77 H78=>
   St 3 H78 (.pointer (some ⟨b1,0,none⟩)) v77 λH79=>au 3 H79 (.pointer (some ⟨b1,0,none⟩)) λv80=>aQ Q (.returned v80) H79) (cA (aQ Q)):=λhb=>by
  refine ai.sl ZC (i:=0) (r:=w.cells) rfl λp hp=>ag.at hp λq hq=>Ld.at (v:=nI w.a) (r:=[nI w.e]) hq (λy hy=>.tail _ (xad _ hy)) ?_;refine aa.eq (jl w.a 15 _) (St.whole (r:=dO [] w.a 15) (.tail ((cu.head _).aH N)) rfl rfl (bD _ _ _) (au.whole (r:=dO [] w.a 15) (.tail _ (xaa _ (.head _))) rfl ?_));exact aQ.mk (.skip (.bY .tail)) (pE hb _ hS)
 cases hnm:xg w.t with
 |false=>
  refine cr.or true (λh=>absurd h zD) rfl λ_=>cr.or true (λh=>absurd h zD) rfl λ_=>Br.yes ?_;exact bad (.inl hnm)
 |true=>
  refine cr.or (decide (ws.length+1<2)) (λ_=>hs.bF ?_) rfl λ_=>?_
  ·rw[xau,xal];exact ae.cU (b:=2) ⟨rfl,rfl⟩
  rw[show(!true)=false from rfl,xd3];cases ws with
  |nil=>
   refine cr.or true (λh=>absurd h zD) rfl λ_=>Br.yes ?_;exact bad (.inr λ_ _ e=>by cases e)
  |cons w2 Tu=>
   rw[xaq (by rw[xal];omega)];refine cr.or (decide (w2.t≠[61])) (λ_=>?_) rfl λ_=>?_
   ·refine ai.sl ZC (i:=1) (r:=w2.cells) rfl λp hp=>ag.at hp λq hq=>Ld.at (v:=ay w2.t) (r:=[nI w2.a,nI w2.e]) hq (λy hy=>.tail _ (xad _ hy)) ?_;exact ae.O7 (b:=[61]) ⟨rfl,rfl⟩
   rw[xd3];refine Br.dec (λhne=>bad (.inr λ_ _ e=>by cases e;exact hne)) (λheq=>?_);have heq:w2.t=[61]:=xet.1 heq;obtain⟨hn8,Al,LJ⟩:=LJ w2 Tu hnm rfl heq;have WW:w2.e<=text.length:=by have:=(WA w2 (.tail _ (.head _))).2;omega
   have Ou:=Si (text.drop w2.e);rw[xb5]at Ou;refine DR.of (R:=(b1,Obj.cells #[ay [],nI 0,nI 0] 27 zZ)::N) (.skip ((aI.perm xaW).trans (.cons ?_))) ?_
   ·exact .right
   refine ai.sl ZC (i:=0) (r:=w.cells) rfl λp hp=>ag.at hp λq hq=>Ld.at (v:=ay w.t) (r:=[nI w.a,nI w.e]) hq (λy hy=>.tail _ hy) ?_;refine ai.sl ZC (i:=1) (r:=w2.cells) rfl λp hp=>au.at hp rfl zD (λy hy=>.tail _ hy) ?_;refine aa.eq (Pc text hl w2 WW _) ⟨.skip ((aI.perm xaW).trans (.cons .right)),?_⟩;refine aa.fn (args:=#[ptr sp,ay w.t,ay text,nI (w2.e+Fl (text.drop w2.e))]) (.cons (.app (.cons .here))) (XJ hI hn8 (by rw[<-hF]at Al;unfold ij at Al;rw[xau]at Al;exact Al) zO hl) ?_;rintro r H hr;have hq:=LJ r H (Pj hI hF hr);obtain⟨t,a,e,rfl⟩:=Ee (Pj hI hF hr);refine⟨.skip ((aI.perm xaW).trans (.cons .right)),?_⟩;refine St.whole (r:=dO t a e) (.tail ((cu.head _).aH N)) rfl rfl (bD _ _ _) (au.whole (r:=dO t a e) (.tail _ (xaa _ (.head _))) rfl ?_);exact aQ.mk (.skip (.bY .tail)) hq
end
section
variable {T:TypeId} {fz:Nat×Nat} {sp kp mb n cap:Nat} {ord ah tr:zL} {F:FN} {K:Kd} {S:Nat->aE.Fn} {es:Array MapEntry} {ck:Nat} {ns:NS} {C N:Hp} {av:zV}
theorem r8.get(hI:r8 kp n cap K S ord ah tr C es ck ns)(hF:ij S ns=F){t:List UInt8}{f:aE.Fn}(h:bU F t=some f):∃r,bU ns t=some r/\S r=f/\aE.live K.N r:=by
 rw[<-hF,rE]at h;cases hr:bU ns t with
 |none=>rw[hr]at h;cases h
 |some r=>
  rw[hr]at h;cases h;exact⟨r,rfl,rfl,Ah hI.hb hI.ks (xam.2 ⟨(t,r),(fk hI.dV.nd).1 hr,rfl⟩)⟩
abbrev Xm(Q:zV->Hp->Prop):zV->Hp->Prop:=λr H=>(∃t a e,r=nR t a e)/\∃N' H',H=N'++H'/\Q r H'
end
section
variable {T:TypeId} {fz:Nat×Nat} {sp kp mb n cap:Nat} {ord ah tr:zL} {F:FN} {K:Kd} {S:Nat->aE.Fn} {es:Array MapEntry} {ck:Nat} {ns:NS} {C N H0:Hp} {av:zV}
theorem OS(b:Bool)(B:Hp):Rd zQ 106 #[.bool b] B (· =ay [if b then 49 else 48]):=by
 refine aK λg=>Is ?_;cases b
 ·exact Br.no (bE.mk (.refl _) rfl)
 exact Br.yes (bE.mk (.refl _) rfl)
theorem Mr{w0:Wd×Nat}{fa:aE.Fn}(hI:r8 kp n cap K S ord ah tr C es ck ns)(hF:ij S ns=F)(ie:aO 78 4 av ([w0].map kS) N)(ha:bU F w0.1.t=some fa)(hs:sat n fa<100):
  Fc zQ (Mz.getD 8 0) #[ptr sp,av] (N++(gz T fz::mI sp kp mb es ck C)) (Xm (λr H=>r=nR (dec (sat n fa)) 0 0/\r7 T fz sp n cap ord F tr H)):=by
 obtain⟨a,h1,rfl,hla⟩:=hI.get hF ha;have hK:=hI.ks;have hv:=(Sl.fi ie zD);have mem:∀{x:Nat×Obj},x∈[gz T fz,(sp,.cells #[ptr kp,.map (some mb)] 48 zZ),(mb,.map es ck)]->x∈N++[gz T fz,(sp,.cells #[ptr kp,.map (some mb)] 48 zZ),(mb,.map es ck)]:=λh=>xaa _ h;refine aK λg=>Ns λb1 _=>DR.of (R:=N++[gz T fz,(sp,.cells #[ptr kp,.map (some mb)] 48 zZ),(mb,.map es ck)]) (.skip (.cT (.cons (.cons (.cons .nil))) N)) ?_;refine Ld.v (v:=ptr kp) (mem (.tail _ (.head _))) (Ld.v (v:=.map (some mb)) (mem (.tail _ (.head _))) ?_);refine ai.sl hv (i:=0) (r:=kS w0) rfl λp hp=>ag.at hp λq hq=>ag.at hq λq2 tO=>Ld.at (v:=ay w0.1.t) (r:=[nI w0.1.a,nI w0.1.e,nI w0.2]) tO (λy hy=>xad _ hy) ?_;refine hI.dV.hit (k:=w0.1.t) mL (b:=mb) (mem (.tail _ (.tail _ (.head _)))) h1 λv WC=>?_;subst WC;refine aa.eh (args:=#[ptr kp,u32 a]) (.cons (.app (.cons (.cons (.cons .here))))) (RZ hK hla) ⟨.skip (.cT (.cons (.cons (.cons .nil))) N),Ext.two ?_⟩;rw[show K.n=n from hI.hb.n,xa3 (show sat n (S a)<DU by have:DU=18446744073709551616:=rfl;omega)];refine aa.eq (RO hs _) (aa.eq (p9 _ 0 _) ?_);refine St.whole (r:=dO (dec (sat n (S a))) 0 0) (.head _) rfl rfl (bD _ _ _) (au.whole (r:=dO (dec (sat n (S a))) 0 0) (.head _) rfl ?_);exact aQ.mk .tail ⟨⟨_,_,_,rfl⟩,N,_,rfl,rfl,kp,mb,K,S,ah,ns,es,ck,C,rfl,hI,hF⟩
theorem Li{s:List UInt8}{ws:List Wd}(h:s≠[43]):KQ s ws=s:=by unfold KQ;rw[xac h]
theorem yf(hB:Bg T fz sp n cap ord F tr H0){text:List UInt8}{w x:Wd}{f:aE.Fn}(hl:text.length<=400)(hw:tg 0 none text=[w,x])(hc:cmd w.t=some 8)(hr:Ej text.length [115] [x]=none)(hx:bU F x.t=some f)(hs:sat n f<100):
  Fc zQ 8 #[ptr sp,ay text] H0 (λr H=>r=nR (dec (sat n f)) 0 0/\r7 T fz sp n cap ord F tr H):=by
 have e1:oH F x.t=true:=by unfold oH;rw[hx];rfl
 refine uY hB hl hw hc (λh=>absurd h zD) ⟨λp hp=>?_,λ_ p hp H hS=>?_,λ_ hn kp mb K S ah ns es ck C N av hI hF ie=>?_⟩
 ·rw[Li zD]at hp;have:Ej text.length [115] [x]=some p:=hp;rw[hr]at this;cases this
 ·rw[Li zD]at hp;have hp:Ei (oH F) [115] [x]=some p:=hp;simp[Ei,e1]at hp
 rw[Li zD]at ie;exact Mr hI hF (w0:=(x,_)) ie hx hs
end
end
section
open Fm aE
def Zz(f:Nat->Bool):Nat->Nat
 |0=>0
 |m+1=>Zz f m+if f m then 2^m else 0
theorem P4(f:Nat->Bool):∀m,Zz f m<2^m
 |0=>by show 0<1;decide
 |m+1=>by
  have:=P4 f m;unfold Zz;rw[xc6];split<;>omega
theorem Jc(f:Nat->Bool):∀m j,j<m->(Zz f m).testBit j=f j
 |m+1,j,h=>by
  have hl:=P4 f m;unfold Zz;by_cases hj:j=m
  ·subst hj;cases hf:f j with
   |true=>simp only[xa4];rw[xc5,Nat.testBit_two_pow_add_eq,xbQ hl];rfl
   |false=>simp only[xaE,xaU,xbT];exact xbQ hl
  ·have ih:=Jc f m j zO;cases hf:f m with
   |true=>simp only[xa4];rw[xc5,Nat.testBit_two_pow_add_gt zO];exact ih
   |false=>simp only[xaE,xaU,xbT];exact ih
theorem Fm.Tr.iz{n:Nat}:∀{t:Tr},t.Fit n->∀x,t.fn (x%2^n)=t.fn x
 | .c k,_,x=>rfl
 | .v m,h,x=>by
  have hm:m<n:=h;show(x%2^n).testBit m=x.testBit m;rw[xbk];simp[hm]
 | .no a,h,x=>by show(!a.fn (x%2^n))= !a.fn x;rw[iz (t:=a) h]
 | .bin k a b,h,x=>by
  show(XX k).testBit (2*(a.fn (x%2^n)).toNat+(b.fn (x%2^n)).toNat)=(XX k).testBit (2*(a.fn x).toNat+(b.fn x).toNat);rw[iz (t:=a) h.2.1,iz (t:=b) h.2.2]
 | .ite a b d,h,x=>by
  show(if a.fn (x%2^n)then b.fn (x%2^n)else d.fn (x%2^n))=if a.fn x then b.fn x else d.fn x
  rw[iz (t:=a) h.1,iz (t:=b) h.2.1,iz (t:=d) h.2.2]
theorem Fm.Tr.iY{n:Nat}{g:Nat->Bool}:∀{t:Tr},t.Fit n->t.iI g->∀x,g (x%2^n)=g x
 | .c k,h,hg,x=>by subst hg;exact Tr.iz (t:=.c k) h x
 | .v m,h,hg,x=>by subst hg;exact Tr.iz (t:=.v m) h x
 | .no a,h,hg,x=>by
  rcases hg with rfl|hg
  ·exact Tr.iz (t:=.no a) h x
  exact iY (t:=a) h hg x
 | .bin k a b,h,hg,x=>by
  rcases hg with rfl|hg|hg
  ·exact Tr.iz (t:=.bin k a b) h x
  ·exact iY (t:=a) h.2.1 hg x
  exact iY (t:=b) h.2.2 hg x
 | .ite a b d,h,hg,x=>by
  rcases hg with rfl|hg|hg|hg
  ·exact Tr.iz (t:=.ite a b d) h x
  ·exact iY (t:=a) h.1 hg x
  ·exact iY (t:=b) h.2.1 hg x
  exact iY (t:=d) h.2.2 hg x
section
variable {n:Nat} {ord:zL}
theorem TP(hn:n<=16){f:aE.Fn}(hf:∀x,f (x%2^n)=f x):∃ws,an.dG n ws/\gL n ws=f:=
 ⟨m5 n λi=>Zz (λj=>f (64*i+j)) 64,gP hn,jj (λx _=>by rw[Jc _ _ _ (xbu _ zD),xdr]) hf⟩
theorem Pg{L:List (zL)}(hn:n<=8)(DK:1<=n)(hf:∀t∈L,an.dG n t)(hp:ord.Perm (List.range n)):fQ n ord L n<=127*L.length+2:=by
 have h1:=xN n ord L (n-1);have h2:=Qb (L:=L) hf zO DK hp;have h4:2^(n-1)*L.length<=128*L.length:=xa8 _ (xbB (xax zD (show n-1<=7 by omega)) zD);have e:fQ n ord L n=fQ n ord L (n-1)+(qj n ord L (n-1)).length:=by
  obtain⟨m,rfl⟩:∃m,n=m+1:=⟨n-1,by omega⟩;rfl
 rw[e];omega
theorem VI(hn:n<=8)(DK:1<=n)(L:List aE.Fn)(hL:∀f∈L,∀x,f (x%2^n)=f x){P:aE.Fn->Prop}(hP:∀g,P g->g∈L):∃Ts:List (zL),Ts.length=L.length/\(∀t∈Ts,an.dG n t)/\∀g,P g->FT n Ts g:=by
 have key:∀L:List aE.Fn,(∀f∈L,∀x,f (x%2^n)=f x)->∃Ts:List (zL),Ts.length=L.length/\(∀t∈Ts,an.dG n t)/\∀g∈L,FT n Ts g:=by
  intro L;induction L with
  |nil=>exact λ_=>⟨[],rfl,nofun,nofun⟩
  |cons f L ih=>
   intro h;obtain⟨Ts,h1,h2,h3⟩:=ih λg hg=>h g (.tail _ hg);obtain⟨ws,hw,e⟩:=TP zO (h f (.head _));refine⟨ws::Ts,by simp[h1],λt ht=>?_,λg hg=>?_⟩
   ·rcases xag.1 ht with rfl|ht
    ·exact hw
    exact h2 t ht
   rcases xag.1 hg with rfl|hg
   ·exact⟨ws,.head _,e.symm⟩
   obtain⟨t,ht,e'⟩:=h3 g hg;exact⟨t,.tail _ ht,e'⟩
 obtain⟨Ts,h1,h2,h3⟩:=key L hL;exact⟨Ts,h1,h2,λg hg=>h3 g (hP g hg)⟩
theorem CE(hn:n<=8)(DK:1<=n)(hp:ord.Perm (List.range n))(L:List aE.Fn)(hL:∀f∈L,∀x,f (x%2^n)=f x){c:Nat}(hc:127*L.length+4<=c){P:aE.Fn->Prop}(hP:∀g,P g->g∈L):Fits (bc n ord P) c:=by
 obtain⟨Ts,h1,h2,h3⟩:=VI hn DK L hL hP;have hs:=Pg (ord:=ord) hn DK h2 hp;exact Fits.mono (λg hg=>eu (G:=FT n Ts) h3 hg) ⟨_,R5 h2 zO (tK hp),by omega⟩
end
end
section
open Fm Sw aE
section
variable {T:TypeId} {fz:Nat×Nat} {sp kp mb n cap:Nat} {ord ah tr:zL} {F:FN} {K:Kd} {S:Nat->aE.Fn} {es:Array MapEntry} {ck:Nat} {ns:NS} {C N H0:Hp} {av:zV}
def NwQ(T:TypeId)(fz:Nat×Nat)(sp n cap:Nat)(ord:zL)(F:FN)(tr:zL)(a b:Wd×Nat)(r:zV)(H:Hp):Prop:=
 if a.2<1\/64<a.2 then r=nR [] a.1.a 1/\r7 T fz sp n cap ord F tr H else
 if b.2<2\/1048576<b.2 then r=nR [] b.1.a 1/\r7 T fz sp n cap ord F tr H else r=nR [] 0 0/\r7 T fz sp a.2 b.2 (List.range a.2) [] [] H
theorem RQ{a b:Wd×Nat}(hI:r8 kp n cap K S ord ah tr C es ck ns)(hF:ij S ns=F)(ie:aO 78 4 av ([a,b].map kS) N):
  Fc zQ (Mz.getD 0 0) #[ptr sp,av] (N++(gz T fz::mI sp kp mb es ck C)) (Xm (NwQ T fz sp n cap ord F tr a b)):=by
 have hv:=(Sl.fi ie zD);have hS:r7 T fz sp n cap ord F tr (gz T fz::mI sp kp mb es ck C):=⟨kp,mb,K,S,ah,ns,es,ck,C,rfl,hI,hF⟩;refine aK λg=>Nu λb1 _=>?_;have sub:∀y∈N,y∈(b1,Obj.cells #[ay [],nI 0,nI 0] 27 zZ)::(N++(gz T fz::mI sp kp mb es ck C)):=λy hy=>.tail _ (xad _ hy);refine ai.sl hv (i:=0) (r:=kS a) rfl λp hp=>ag.at hp λq hq=>Ld.at (v:=nI a.2) (r:=[]) hq sub (ae.cU (b:=1) ?_);refine cr.or (decide (64<a.2)) (λ_=>ai.sl hv (i:=0) (r:=kS a) rfl λp hp=>ag.at hp λq hq=>Ld.at (v:=nI a.2) (r:=[]) hq sub (ae.iF (b:=64) ⟨rfl,rfl⟩)) rfl λ_=>?_;rw[<-xbb];refine Br.dec (λh=>?_) (λh=>?_)
 ·refine ai.sl hv (i:=0) (r:=kS a) rfl λp hp=>ag.at hp λq hq=>ag.at hq λq2 tO=>Ld.at (v:=nI a.1.a) (r:=[nI a.1.e,nI a.2]) tO sub ?_;refine aa.eq (jl a.1.a 1 _) (St.whole (r:=dO [] a.1.a 1) (.head _) rfl rfl (bD _ _ _) (au.whole (r:=dO [] a.1.a 1) (.head _) rfl ?_));exact aQ.mk .tail ⟨⟨_,_,_,rfl⟩,N,_,rfl,by unfold NwQ;rw[xae h];exact⟨rfl,hS⟩⟩
 refine DR.of (R:=N) (.skip .left) ?_;refine ai.sl hv (i:=0) (r:=kS a) rfl λp hp=>ag.at hp λq hq=>Ld.at (v:=nI a.2) (r:=[]) hq (λy hy=>hy) ?_;refine ai.sl hv (i:=1) (r:=kS b) rfl λp hp=>ag.at hp λq hq=>Ld.at (v:=nI b.2) (r:=[]) hq (λy hy=>hy) ?_;by_cases hb:b.2<2\/1048576<b.2
 ·refine aa.eh hnew (XZ (n:=a.2) (cap:=b.2) zO) ⟨.skip .left,Ext.two (ae.mF (a:=1) (b:=0) (Br.T ?_))⟩;refine ai.sl hv (i:=1) (r:=kS b) rfl λp hp=>ag.at hp λq hq=>ag.at hq λq2 tO=>Ld.at (v:=nI b.1.a) (r:=[nI b.1.e,nI b.2]) tO sub ?_;refine aa.eq (jl b.1.a 1 _) (St.whole (r:=dO [] b.1.a 1) (.head _) rfl rfl (bD _ _ _) (au.whole (r:=dO [] b.1.a 1) (.head _) rfl ?_));exact aQ.mk .tail ⟨⟨_,_,_,rfl⟩,N,_,rfl,by unfold NwQ;rw[xac h,xae hb];exact⟨rfl,hS⟩⟩
 refine aa.fn hnew (PZ (n:=a.2) (cap:=b.2) zO zO) ?_;rintro _ C2 ⟨kp2,rfl,hK⟩;refine⟨.bY (.skip .left),Ext.two (ae.mF (a:=0) (b:=0) (Br.F ?_))⟩;refine Nil.ptr (.mk (St.one (c':=#[ptr kp2,.map (some mb)]) (((((cu.head _).tail).aH N).tail).aH C2) rfl (show 0<2 by decide) rfl ?_));intro mb2 _;refine Nil.ptr (.mk (St.one (c':=#[ptr kp2,.map (some mb2)]) ((((((cu.head _).tail).aH N).tail).aH C2).tail) rfl (show 1<2 by decide) rfl ?_));refine Build.mk (cs:=dO [] 0 0) zK (St.whole (r:=dO [] 0 0) (((cu.head _).aH C2).tail) rfl rfl (bD _ _ _) (au.whole (r:=dO [] 0 0) (.tail _ (xaa _ (.head _))) rfl ?_));refine aQ.mk (gW:=gz T fz::mI sp kp2 mb2 #[] 0 C2) ((aI.cons (.cT (.skip (.bY (.cons (.cons .nil)))) C2)).trans (.perm (xaW (l₁:=(mb2,Obj.map #[] 0)::C2) (l₂:=[gz T fz,(sp,.cells #[ptr kp2,.map (some mb2)] 48 zZ)])))) ⟨⟨_,_,_,rfl⟩,[],_,rfl,?_⟩;unfold NwQ;rw[xac h,xac hb];exact⟨rfl,kp2,mb2,_,_,_,[],_,_,C2,rfl,⟨hK,aT.empty,.refl⟩,rfl⟩
theorem P8(hB:Bg T fz sp n cap ord F tr H0){text:List UInt8}{w a b:Wd}{x y:Nat}(hl:text.length<=400)(hw:tg 0 none text=[w,a,b])(hc:cmd w.t=some 0)(hr:Ej text.length [110,110] [a,b]=none)(hx:XY a.t=some x)(hy:XY b.t=some y):
  Fc zQ 8 #[ptr sp,ay text] H0 (NwQ T fz sp n cap ord F tr (a,x) (b,y)):=by
 refine uY hB hl hw hc (λh=>absurd h zD) ⟨λp hp=>?_,λ_ p hp H hS=>?_,λ_ hn kp mb K S ah ns es ck C N av hI hF ie=>?_⟩
 ·rw[Li zD]at hp;have:Ej text.length [110,110] [a,b]=some p:=hp;rw[hr]at this;cases this
 ·rw[Li zD]at hp;have hp:Ei (oH F) [110,110] [a,b]=some p:=hp;simp[Ei]at hp
 rw[Li zD]at ie;have e:rdv (sW.getD 0 ([],[])).2 [a,b]=[(a,x),(b,y)]:=by
  show [(a,(JX 110 a.t).getD 0),(b,(JX 110 b.t).getD 0)]=_;have ea:JX 110 a.t=some x:=hx;have eb:JX 110 b.t=some y:=hy;rw[ea,eb];rfl
 rw[e]at ie;exact RQ hI hF ie
end
def Kp:Tr:=.bin 5 (.v 0) (.v 1)
theorem OE:Reads 8 [120,48,32,38,32,120,49] (.ok Kp []):=by
 have e0:dk [120,48,32,38,32,120,49]=(3,0,2):=rfl;have e1:dk [38,32,120,49]=(5,0,1):=rfl;have e2:dk [120,49]=(3,1,2):=rfl;have ht:eo 0 [120,48,32,38,32,120,49] [⟨3,0,0⟩,⟨5,3,0⟩,⟨3,5,1⟩,⟨0,7,0⟩]:=
  eo.step e0 zD zD (.blank (eo.step e1 zD zD (.blank (eo.step e2 zD zD .fin))))
 refine .mk zD ht (.call (r:=.ok Kp [⟨0,7,0⟩]) (Ev.up 4 0 zD (λt x l' e m _ h=>?_) (λ_ e=>by cases e) ?_) (Ev.cF rfl .done))
 ·cases e;have:m=0\/m=1\/m=2\/m=3:=by omega
  rcases this with rfl|rfl|rfl|rfl<;>decide
 exact .call (r:=.ok (.v 0) [⟨5,3,0⟩,⟨3,5,1⟩,⟨0,7,0⟩]) (Ev.t5 .done) (.call (.call (r:=.ok (.v 1) [⟨0,7,0⟩]) (Ev.t5 .done) (.call .done .done)) .done)
theorem OF:Kp.Fit 8:=⟨by decide,(by show 0<8;decide),(by show 1<8;decide)⟩
theorem Wa:gL 8 (m5 8 λ_=>9838263505978427528)=Kp.fn:=by
 refine jj (λx hx=>?_) (Tr.iz (t:=Kp) OF);have h:∀x:Fin 256,((λ_=>9838263505978427528:Nat->Nat) (x.1/64)).testBit (x.1%64)=Kp.fn x.1:=by decide+kernel
 exact h ⟨x,hx⟩
theorem Tv:fQ 8 (List.range 8) [m5 8 λ_=>9838263505978427528] 8=2:=by decide+kernel
theorem aan:sz 8 (List.range 8) (λg=>g=Kp.fn)=2:=by
 have h:=O2 (n:=8) (ord:=List.range 8) (L:=[m5 8 λ_=>9838263505978427528]) (λt ht=>by rw[xaK.1 ht];exact gP zD) zD (tK (.refl _));rw[Tv]at h;have e:FT 8 [m5 8 λ_=>9838263505978427528]=λg=>g=Kp.fn:=funext λg=>propext ⟨λ⟨t,ht,e⟩=>by rw[e,xaK.1 ht,Wa],λe=>⟨_,.head _,by rw[e,Wa]⟩⟩;rw[<-e];exact h
theorem OD:sat 8 Kp.fn=64:=by decide+kernel
theorem Fm.Tr.Bd{t:Tr}{n:Nat}(hf:t.Fit n):∀g∈t.all,∀x,g (x%2^n)=g x:=λg hg=>Tr.iY hf (Tr.gi.2 hg)
section
variable {T:TypeId} {fz:Nat×Nat} {Y:Hp}
theorem OH:Rd zQ 6 #[] (gz T fz::Y) (· =.bool true):=by
 refine aK λg=>SO (aa.fq (IQ _) ?_);rintro _ _ ⟨sp,rfl,rfl⟩;refine ae.aJ (Br.no (aa.pre (H':=[gz T fz,Z5 sp]++Y) .swap ?_));refine aa.fn (args:=#[ptr sp,ay [102,32,61,32,120,48,32,38,32,120,49]]) (.left (C:=[gz T fz,Z5 sp])) (uX (Q:=λr H=>r=nR [50] 0 0/\r7 T fz sp 8 1000 (List.range 8) [([102],Kp.fn)] [] H) Cy zD (w:=⟨[102],0,1⟩) (ws:=[⟨[61],2,3⟩,⟨[120,48],4,6⟩,⟨[38],7,8⟩,⟨[120,49],9,11⟩]) zK zK (λh=>?_) (λw2 Tu _ e e61=>?_)) ?_
 ·exfalso;rcases h with h|h
  ·exact absurd h zD
  exact h _ _ rfl rfl
 ·cases e;refine⟨by decide,by decide,λr H hq=>?_⟩;have hr:Reads 8 (List.drop (3+Fl (List.drop 3 [102,32,61,32,120,48,32,38,32,120,49])) [102,32,61,32,120,48,32,38,32,120,49]) (.ok Kp []):=OE;rcases hq with⟨a,e,hb,_⟩|⟨t,l',hr',hq⟩
  ·exact absurd (hr.uniq hb) nofun
  have:=hr.uniq hr';cases this;rcases hq with⟨rfl,hS⟩|⟨_,_,hno⟩
  ·rw[aan];exact⟨rfl,hS⟩
  refine absurd (CE zD zD (.refl _) Kp.all (Tr.Bd OF) (c:=1000) zD (λg hg=>?_)) hno;rcases hg with⟨p,hp,_⟩|hg
  ·cases hp
  exact Tr.gi.1 hg
 rintro _ H1 ⟨rfl,AX⟩;intro b6 _;refine St.whole (r:=dO [50] 0 0) (.head _) rfl rfl (bD _ _ _) ?_;refine aa.fn (args:=#[ptr sp,ay [115,97,116,115,32,102]]) (.cons .left) (yf AX.bg (w:=⟨[115,97,116,115],0,4⟩) (x:=⟨[102],5,6⟩) zD zK zK zK (f:=Kp.fn) rfl (by rw[OD];decide)) ?_;rintro _ H2 ⟨rfl,rM⟩;rw[OD];intro b11 _;refine St.whole (r:=dO (dec 64) 0 0) (.head _) rfl rfl (bD _ _ _) ?_;refine Ld.u (v:=ay [50]) (.tail _ (.head _)) (ae.Be (b:=[50]) ?_);refine cr.and true (λ_=>Ld.u (v:=nI 0) (.tail _ (.head _)) (ae.bu (a:=0) (b:=0) ⟨rfl,rfl⟩)) rfl λ_=>?_;refine cr.and true (λ_=>Ld.u (v:=ay (dec 64)) (.head _) (ae.Be (b:=[54,52]) ⟨rfl,rfl⟩)) rfl λ_=>?_;refine cr.and true (λ_=>Ld.u (v:=nI 0) (.head _) (ae.bu (a:=0) (b:=0) ⟨rfl,rfl⟩)) rfl λ_=>?_;obtain⟨kp,mb,K,S,ah,ns,es,ck,C,rfl,_⟩:=rM;exact bE.mk (.skip (.skip (.cons (.bY (.refl _))))) rfl
end
section
variable {T:TypeId} {fz:Nat×Nat} {sp kp mb n cap:Nat} {ord ah tr:zL} {F:FN} {K:Kd} {S:Nat->aE.Fn} {es:Array MapEntry} {ck:Nat} {ns:NS} {C N H0:Hp} {av:zV}
theorem gZ(hB:Bg T fz sp n cap ord F tr H0){text:List UInt8}{w:Wd}{ws:List Wd}{i:Nat}{sh:List UInt8}(hl:text.length<=400)(hw:tg 0 none text=w::ws)(hc:cmd w.t=some i)(hsh:KQ (sW.getD i ([],[])).2 ws=sh)(hr:Ej text.length sh ws=none)(hn:Ei (oH F) sh ws=none){Q:zV->Hp->Prop}
 (h:∀kp mb K S ah ns es ck C N av,r8 kp n cap K S ord ah tr C es ck ns->ij S ns=F->aO 78 4 av ((rdv sh ws).map kS) N->Fc zQ (Mz.getD i 0) #[ptr sp,av] (N++(gz T fz::mI sp kp mb es ck C)) (Xm Q)):
  Fc zQ 8 #[ptr sp,ay text] H0 Q:=by
 obtain⟨EL,_⟩:=kV text 0 none;rw[hw,xal]at EL;refine uY hB hl hw hc (λ_ B=>K7 zO B) ⟨λq hq=>?_,λ_ q hq=>?_,λ_ _=>by rw[hsh];exact h⟩
 ·rw[hsh,hr]at hq;cases hq
 rw[hsh,hn]at hq;cases hq
end
end
end Go.Proofs
namespace aE
def xW(c:Nat):Nat->Nat
 |0=>0
 |n+1=>256*xW c n+c
def cN(k x:Nat):Nat:=(List.range k).countP x.testBit
def y1(n x:Nat):Nat:=((x>>>1) &&&xW 85 n)+(x&&&xW 85 n)
def y2(n x:Nat):Nat:=((y1 n x>>>2) &&&xW 51 n)+(y1 n x&&&xW 51 n)
def y3(n x:Nat):Nat:=((y2 n x>>>4)+y2 n x) &&&xW 15 n
theorem tb8{a:Nat}(ha:a<256)(A j:Nat):(256*A+a).testBit j=if j<8 then a.testBit j else A.testBit (j-8):=
 Nat.testBit_two_pow_mul_add A (i:=8) ha j
theorem YY{a c s:Nat}(A C:Nat)(hs:s<=8)(ha:a<256)(hc:c<2^(8-s)):((256*A+a)>>>s) &&& (256*C+c)=256*((A>>>s) &&&C)+((a>>>s) &&&c):=by
 have Ot:c<256:=xa0 hc (xax zD (show 8-s<=8 by omega));have h1:(a>>>s) &&&c<256:=xaL xb3 Ot;refine xaY λj=>?_;rw[xa6,xbg,tb8 ha,tb8 Ot,tb8 h1];by_cases hj:j<8
 ·rw[xae hj,xae hj,xa6,xbg];by_cases h2:s+j<8
  ·rw[xae h2]
  rw[xac h2];have:c.testBit j=false:=xbQ (xa0 hc (xax zD zO));rw[this,xel,xel]
 rw[xac hj,xac hj,xac zO,xa6,xbg,show s+j-8=s+(j-8)by omega]
theorem Zb{a c:Nat}(A C:Nat)(ha:a<256)(hc:c<256):(256*A+a) &&& (256*C+c)=256*(A&&&C)+(a&&&c):=by
 have:=YY (s:=0) A C zD ha hc;simpa using this
theorem JL:∀a:Fin 256,y1 1 a.1<256/\y2 1 a.1<256/\y2 1 a.1%16<=4/\y2 1 a.1/16<=4/\y3 1 a.1=cN 8 a.1/\cN 8 a.1<=8:=by decide+kernel
theorem Tq{a:Nat}(n A:Nat)(ha:a<256):y1 (n+1) (256*A+a)=256*y1 n A+y1 1 a:=by
 unfold y1;rw[show xW 85 (n+1)=256*xW 85 n+85 from rfl,show xW 85 1=85 from rfl,YY A _ zD ha zD,Zb A _ ha zD,xdg];omega
theorem IB{a:Nat}(n A:Nat)(ha:a<256):y2 (n+1) (256*A+a)=256*y2 n A+y2 1 a:=by
 have h:y1 1 a<256:=(JL ⟨a,ha⟩).1;unfold y2;rw[Tq n A ha,show xW 51 (n+1)=256*xW 51 n+51 from rfl,show xW 51 1=51 from rfl,YY _ _ zD h zD,Zb _ _ h zD,xdg];omega
theorem Xr:∀n A:Nat,y2 n A%16<=4
 |0,A=>by unfold y2;simp[xW]
 |n+1,A=>by
  have ha:A%256<256:=xbu _ zD;have:=IB n (A/256) ha;rw[xdr]at this;have h:=JL ⟨A%256,ha⟩;have h3:y2 1 (A%256)%16<=4:=h.2.2.1;rw[this];omega
theorem Tp{a:Nat}(n A:Nat)(ha:a<256):y3 (n+1) (256*A+a)=256*y3 n A+cN 8 a:=by
 have h:=JL ⟨a,ha⟩;have hn:=Xr n A;have h2:y2 1 a<256:=h.2.1;have h3:y2 1 a%16<=4:=h.2.2.1;have h4:y2 1 a/16<=4:=h.2.2.2.1;have h5:y3 1 a=cN 8 a:=h.2.2.2.2.1;rw[<-h5];unfold y3;rw[IB n A ha,show xW 15 (n+1)=256*xW 15 n+15 from rfl,show xW 15 1=15 from rfl];generalize y2 n A=B at hn;generalize y2 1 a=b at h2 h3 h4;have hl:16*(B%16)+b/16+b<256:=by omega
 have e:((256*B+b)>>>4)+(256*B+b)=256*((B>>>4)+B)+(16*(B%16)+b/16+b):=by
  rw[xaR,xaR];omega
 rw[e,Zb _ _ hl zD];congr 1;rw[show(15:Nat)=2^4-1 from rfl,xb0,xb0,xaR];omega
theorem La{a:Nat}(k A:Nat)(ha:a<256):cN (k+8) (256*A+a)=cN k A+cN 8 a:=by
 unfold cN;rw[xc5 k 8,List.range_add,List.countP_append,List.countP_map,xc5];congr 1
 ·refine xeu λx _=>?_;show(256*A+a).testBit (8+x)=true↔_;rw[tb8 ha,xac zO,Nat.add_sub_cancel_left]
 refine xeu λx hx=>?_;rw[tb8 ha,xae (xaJ.1 hx)]
theorem Y7{x:Nat}(hx:x<2^64):∃p0 p1 p2 p3 p4 p5 p6 p7:Nat,(p0<=8/\p1<=8/\p2<=8/\p3<=8/\p4<=8/\p5<=8/\p6<=8/\p7<=8)/\
  y3 8 x=p0+256*(p1+256*(p2+256*(p3+256*(p4+256*(p5+256*(p6+256*p7))))))/\cN 64 x=p0+p1+p2+p3+p4+p5+p6+p7:=by
 have s:∀n k X:Nat,y3 (n+1) X=256*y3 n (X/256)+cN 8 (X%256)/\cN (k+8) X=cN k (X/256)+cN 8 (X%256)/\cN 8 (X%256)<=8:=λn k X=>by
  have ha:X%256<256:=xbu _ zD;have h1:=Tp n (X/256) ha;have h2:=La k (X/256) ha;rw[xdr]at h1 h2;exact⟨h1,h2,(JL ⟨X%256,ha⟩).2.2.2.2.2⟩
 obtain⟨a0,b0,c0⟩:=s 7 56 x;obtain⟨a1,b1,c1⟩:=s 6 48 (x/256);obtain⟨a2,b2,c2⟩:=s 5 40 (x/256/256);obtain⟨a3,b3,c3⟩:=s 4 32 (x/256/256/256);obtain⟨a4,b4,c4⟩:=s 3 24 (x/256/256/256/256);obtain⟨a5,b5,c5⟩:=s 2 16 (x/256/256/256/256/256);obtain⟨a6,b6,c6⟩:=s 1 8 (x/256/256/256/256/256/256);obtain⟨a7,b7,c7⟩:=s 0 0 (x/256/256/256/256/256/256/256);have z3:∀X,y3 0 X=0:=λX=>by unfold y3;simp[xW]
 have z0:∀X,cN 0 X=0:=λX=>rfl;rw[z3]at a7;rw[z0]at b7;refine⟨_,_,_,_,_,_,_,_,⟨c0,c1,c2,c3,c4,c5,c6,c7⟩,?_,?_⟩
 ·clear b0 b1 b2 b3 b4 b5 b6 b7;have g0:y3 8 x=256*y3 7 (x/256)+cN 8 (x%256):=a0;have g1:y3 7 (x/256)=256*y3 6 (x/256/256)+cN 8 (x/256%256):=a1;have g2:y3 6 (x/256/256)=256*y3 5 (x/256/256/256)+cN 8 (x/256/256%256):=a2;have g3:y3 5 (x/256/256/256)=256*y3 4 (x/256/256/256/256)+cN 8 (x/256/256/256%256):=a3;have g4:y3 4 (x/256/256/256/256)=256*y3 3 (x/256/256/256/256/256)+cN 8 (x/256/256/256/256%256):=a4;have g5:y3 3 (x/256/256/256/256/256)=256*y3 2 (x/256/256/256/256/256/256)+cN 8 (x/256/256/256/256/256%256):=a5;have g6:y3 2 (x/256/256/256/256/256/256)=256*y3 1 (x/256/256/256/256/256/256/256)+cN 8 (x/256/256/256/256/256/256%256):=a6;have g7:y3 1 (x/256/256/256/256/256/256/256)=256*0+cN 8 (x/256/256/256/256/256/256/256%256):=a7;omega
 clear a0 a1 a2 a3 a4 a5 a6 a7;have d0:cN 64 x=cN 56 (x/256)+cN 8 (x%256):=b0;have d1:cN 56 (x/256)=cN 48 (x/256/256)+cN 8 (x/256%256):=b1;have d2:cN 48 (x/256/256)=cN 40 (x/256/256/256)+cN 8 (x/256/256%256):=b2;have d3:cN 40 (x/256/256/256)=cN 32 (x/256/256/256/256)+cN 8 (x/256/256/256%256):=b3;have d4:cN 32 (x/256/256/256/256)=cN 24 (x/256/256/256/256/256)+cN 8 (x/256/256/256/256%256):=b4;have d5:cN 24 (x/256/256/256/256/256)=cN 16 (x/256/256/256/256/256/256)+cN 8 (x/256/256/256/256/256%256):=b5;have d6:cN 16 (x/256/256/256/256/256/256)=cN 8 (x/256/256/256/256/256/256/256)+cN 8 (x/256/256/256/256/256/256%256):=b6;have d7:cN 8 (x/256/256/256/256/256/256/256)=0+cN 8 (x/256/256/256/256/256/256/256%256):=b7;omega
end aE
set_option maxRecDepth 100000
namespace Go.Proofs
open Go Go.Sx
section
open Fm Sw aE
theorem dvq{p d Y X:Nat}(h:p<d)(e:X=p+d*Y):X/d=Y:=by
 rw[e,Nat.add_mul_div_left _ _ (xaL (xaA _) h),xct h,xaZ]
theorem acy{p0 p1 p2 p3 p4 p5 p6 p7 A:Nat}(hp:p0<=8/\p1<=8/\p2<=8/\p3<=8/\p4<=8/\p5<=8/\p6<=8/\p7<=8)
 (hA:A=p0+256*(p1+256*(p2+256*(p3+256*(p4+256*(p5+256*(p6+256*p7))))))):
  ∃B2 C2,A+A/256=B2/\B2+B2/65536=C2/\A<2000000000000000000/\B2<2000000000000000000/\C2<2000000000000000000/\C2+C2/4294967296<4000000000000000000/\
   (C2+C2/4294967296)%2^7=p0+p1+p2+p3+p4+p5+p6+p7:=by
 have LK:A/256=p1+256*(p2+256*(p3+256*(p4+256*(p5+256*(p6+256*p7))))):=dvq (p:=p0) zO hA;obtain⟨B2,hB⟩:∃B2,A+A/256=B2:=⟨_,rfl⟩;have wP:B2=(p0+p1)+256*((p1+p2)+256*((p2+p3)+256*((p3+p4)+256*((p4+p5)+256*((p5+p6)+256*((p6+p7)+256*p7)))))):=by
  rw[<-hB,LK,hA];clear LK hB hA;omega
 have yz:B2/65536=(p2+p3)+256*((p3+p4)+256*((p4+p5)+256*((p5+p6)+256*((p6+p7)+256*p7)))):=dvq (p:=(p0+p1)+256*(p1+p2)) (by clear hB wP LK hA;omega) (by rw[wP];clear hB wP LK hA;omega);obtain⟨C2,hC⟩:∃C2,B2+B2/65536=C2:=⟨_,rfl⟩;have Oz:C2=(p0+p1+p2+p3)+256*((p1+p2+p3+p4)+256*((p2+p3+p4+p5)+256*((p3+p4+p5+p6)+256*((p4+p5+p6+p7)+256*((p5+p6+p7)+256*((p6+p7)+256*p7)))))):=by
  rw[<-hC,yz,wP];clear hC yz wP hB LK hA;omega
 have tO:C2/4294967296=(p4+p5+p6+p7)+256*((p5+p6+p7)+256*((p6+p7)+256*p7)):=dvq (p:=(p0+p1+p2+p3)+256*((p1+p2+p3+p4)+256*((p2+p3+p4+p5)+256*(p3+p4+p5+p6)))) (by clear hC Oz yz hB wP LK hA;omega) (by rw[Oz];clear hC Oz yz hB wP LK hA;omega);refine⟨B2,C2,hB,hC,?_,?_,?_,?_,?_⟩
 ·rw[hA];clear hC Oz yz tO hB wP LK hA;omega
 ·rw[wP];clear hC Oz yz tO hB wP LK hA;omega
 ·rw[Oz];clear hC Oz yz tO hB wP LK hA;omega
 ·rw[tO,Oz];clear hC Oz yz tO hB wP LK hA;omega
 rw[tO,Oz];have e:(p0+p1+p2+p3)+256*((p1+p2+p3+p4)+256*((p2+p3+p4+p5)+256*((p3+p4+p5+p6)+256*((p4+p5+p6+p7)+256*((p5+p6+p7)+256*((p6+p7)+256*p7))))))+((p4+p5+p6+p7)+256*((p5+p6+p7)+256*((p6+p7)+256*p7)))=(p0+p1+p2+p3+p4+p5+p6+p7)+2^7*(2*((p1+p2+p3+p4)+256*((p2+p3+p4+p5)+256*((p3+p4+p5+p6)+256*((p4+p5+p6+p7)+256*((p5+p6+p7)+256*((p6+p7)+256*p7))))))+2*((p5+p6+p7)+256*((p6+p7)+256*p7))):=by
  clear hC Oz yz tO hB wP LK hA;omega
 rw[e,Nat.add_mul_mod_self_left,xa3 (by clear e hC Oz yz tO hB wP LK hA;omega)]
theorem Uk{x:Nat}(hx:x<18446744073709551616)(B:Hp):Rd zQ 26 #[.int .u64 (x:Int)] B (· =nI (cN 64 x)):=by
 obtain⟨p0,p1,p2,p3,p4,p5,p6,p7,hp,h3,hs⟩:=Y7 (x:=x) hx;have m85:xW 85 8=6148914691236517205:=by decide
 have m51:xW 51 8=3689348814741910323:=by decide
 have m15:xW 15 8=1085102592571150095:=by decide
 have e1:((x>>>1) &&&6148914691236517205)+(x&&&6148914691236517205)=y1 8 x:=by unfold y1;rw[m85]
 have e2:((y1 8 x>>>2) &&&3689348814741910323)+(y1 8 x&&&3689348814741910323)=y2 8 x:=by unfold y2;rw[m51]
 have e3:((y2 8 x>>>4)+y2 8 x) &&&1085102592571150095=y3 8 x:=by unfold y3;rw[m15]
 have l1:(x>>>1) &&&6148914691236517205<=6148914691236517205:=xb3;have l2:x&&&6148914691236517205<=6148914691236517205:=xb3;have k1:(y1 8 x>>>2) &&&3689348814741910323<=3689348814741910323:=xb3;have k2:y1 8 x&&&3689348814741910323<=3689348814741910323:=xb3;have ZB:y1 8 x<18446744073709551616:=by rw[<-e1];omega
 have hy2:y2 8 x<9223372036854775808:=by rw[<-e2];omega
 have h4:y2 8 x>>>4<=y2 8 x/16:=Nat.le_of_eq (xaR _ 4);have s1:x>>>1<=x:=xbM x 1;have s2:y1 8 x>>>2<=y1 8 x:=xbM _ 2;have L:aU .u64=18446744073709551616:=rfl;have L2:aU .i64=9223372036854775808:=rfl;refine aK λg=>NT (ae.gk (by rw[L];exact hx) (ae.fY (b:=6148914691236517205) (xaL s1 (by rw[L];exact hx)) zD (ae.fY (b:=6148914691236517205) (by rw[L];exact hx) zD (ae.e7 (by rw[L,e1];exact ZB) ?_))));rw[e1];refine ae.gk (by rw[L];exact ZB) (ae.fY (b:=3689348814741910323) (xaL s2 (by rw[L];exact ZB)) zD (ae.fY (b:=3689348814741910323) (by rw[L];exact ZB) zD (ae.e7 (by rw[L,e2];exact Nat.lt_trans hy2 zD) ?_)));rw[e2];have hy4:(y2 8 x>>>4)+y2 8 x<18446744073709551616:=by clear e1 e2 e3 l1 l2 k1 k2 ZB h3 s1 s2;omega
 refine ae.gk (by rw[L];exact Nat.lt_trans hy2 zD) (ae.e7 (by rw[L];exact hy4) (ae.fY (b:=1085102592571150095) (by rw[L];exact hy4) zD ?_));rw[e3,h3];obtain⟨A,hA⟩:∃A,A=p0+256*(p1+256*(p2+256*(p3+256*(p4+256*(p5+256*(p6+256*p7)))))):=⟨_,rfl⟩;rw[<-hA];obtain⟨B2,C2,hB,hC,b1,b2,b3,b4,hR⟩:=acy hp hA;clear hA h3 e1 e2 e3 l1 l2 k1 k2 ZB hy2 h4 s1 m85 m51 m15;have a8:A>>>8=A/256:=xaR _ 8;have mC:B2>>>16=B2/65536:=xaR _ 16;have VL:C2>>>32=C2/4294967296:=xaR _ 32;refine ae.gk (by clear a8 mC VL hR hB hC;omega) ?_;rw[a8];refine ae.e7 (by rw[hB];clear a8 mC VL hR hB hC;omega) ?_;rw[hB];refine ae.gk (by clear a8 mC VL hR hB hC;omega) ?_;rw[mC];refine ae.e7 (by rw[hC];clear a8 mC VL hR hB hC;omega) ?_;rw[hC];refine ae.gk (by clear a8 mC VL hR hB hC;omega) ?_;rw[VL];refine ae.e7 (by clear a8 mC VL hR hB hC;omega) (aM.nat (by clear a8 mC VL hR hB hC;omega) (ae.fY (b:=127) (by clear a8 mC VL hR hB hC;omega) zD (bE.mk (.refl _) ?_)));rw[show(127:Nat)=2^7-1 from rfl,xb0,hs,hR]
theorem KG{v:zV}{f:aE.Fn}{B:Hp}(hT:eH B v 6 f):Rd zQ 13 #[v] B (· =.tuple #[.int .u64 ((sat 6 f:Nat):Int),nI 0]):=by
 obtain⟨ws,⟨s,rfl,hw⟩,hf,rfl⟩:=hT;obtain⟨w,rfl⟩:∃w,ws=[w]:=by
  have:=hf.len;have e:an.wN 6=1:=rfl;rw[e]at this;exact List.length_eq_one_iff.1 this
 have aer:w<18446744073709551616:=hw.2 w (.head _);have aeD:cN 64 w=sat 6 (gL 6 [w]):=by
  unfold cN sat;refine xeu λx hx=>?_;have hx:x<64:=xaJ.1 hx;have:gL 6 [w] x=w.testBit x:=by
   unfold gL an.bit;rw[show x%2^6=x from xa3 hx];simp[xct hx,xa3 hx]
  rw[this]
 refine aK λg=>N9 λb1 _=>au.whole (r:=[nI 6,s]) (.head _) rfl ?_;refine nD λb4=>?_;refine aa.rd .here (lZ (t:=⟨((6:Nat):Int),[w]⟩) (.head _) (hw.mono zS)) ?_;rintro _ rfl;rw[xav (show TF ⟨((6:Nat):Int),[w]⟩from⟨by simp,by simpa using hf⟩)];refine Un.not (Br.no (Ld.u (v:=s) (.tail _ (.head _)) ?_));refine hw.1.bF ?_;refine⟨λvs H=>∃i,vs=[nI (if i=0 then 0 else cN 64 w),nI i]/\i<=1/\H=(b4,.cells [nI 6,s].toArray 37 zZ)::(b1,.cells (Value.cells (.agg #[nI 6,s])) 37 zZ)::B,λvs _=>1-bj vs 1,JE.mk ⟨0,rfl,by decide,rfl⟩,?_⟩;rintro w16 w17 H ⟨i,⟨⟩,hi,rfl⟩ gs;have e1:((iw [w]).length:Int)=((1:Nat):Int):=rfl;rw[e1];have hle:cN 64 w<=64:=by
  unfold cN;have:=List.countP_le_length (p:=w.testBit) (l:=List.range 64);rwa [xaC]at this
 refine ae.cU (b:=1) (Br.dec (λh=>?_) (λh=>?_))
 ·have:i=0:=by omega
  subst this;refine hw.1.ld (n:=(w:Int)) (i:=0) rfl (λy hy=>.tail _ (.tail _ hy)) (aa.eq (Uk aer _) ?_);refine ae.e7 (a:=0) (by simp only[aU];omega) (ae.inc (az.of (.refl _) ⟨1,by simp,xak _,rfl⟩ (by simp only[bj];omega)))
 have:i=1:=by omega
 subst this;refine aM.nat (by simp only[aU];split<;>omega) (bE.mk (.skip .tail) ?_);rw[xac zD,aeD];rfl
theorem T1{n:Nat}(hn:n<100)(B:Hp):Rd zQ 14 #[.int .u64 (n:Int)] B (· =ay (dec n)):=by
 have one:∀k:Nat,k<10->Rd zQ 14 #[.int .u64 (k:Int)] B (· =ay [dg k]):=λk hk=>by
  refine aK λg=>zf (ae.cU (b:=10) (Br.T (ae.e7 (a:=48) (by simp only[aU];omega) (aM.nat (by simp only[aU];omega) ?_))));refine ak.nA (e:=5) (z:=.int .u8 0) [.int .u8 ((48+k:Nat):Int)] zK zK zK (by show 1<=16777216;decide) (by simp[Value.oneCell']) rfl rfl λbx=>?_;refine dZ.cut (l:=[dg k]) (.head _) rfl zD (λj u hu=>?_) (bE.mk .tail rfl);rcases j with _|j
  ·cases hu;rw[RS hk];rfl
  simp at hu
 by_cases h10:n<10
 ·refine Fc.mono (one n h10) ?_;rintro v H ⟨e,rfl⟩;refine⟨e,?_⟩;unfold dec;rw[xae h10]
 refine aK λg=>zf (ae.cU (b:=10) (Br.F (ae.tI (b:=10) (by simp only[aU];omega) zD (aa.eq (one (n/10) zO) (ae.K8 (b:=10) zD (aa.eq (one (n%10) zO) (ae.O8 (a:=[dg (n/10)]) (b:=[dg (n%10)]) (by show 1+1<=_;decide) (bE.mk (.refl _) ?_)))))))) ;unfold dec;rw[xac h10,xae hn];rfl
end
section
open Fm Sw aE
theorem tW{n:Nat}:(dec n).length<=4/\dec n≠[]:=by
 unfold dec;split
 ·exact⟨by simp,by simp⟩
 split
 ·exact⟨by simp,by simp⟩
 split
 ·exact⟨by simp,by simp⟩
 exact⟨by simp,by simp⟩
section
variable {T:TypeId} {fz:Nat×Nat} {sp kp mb n cap:Nat} {ord ah tr:zL} {F:FN} {K:Kd} {S:Nat->aE.Fn} {es:Array MapEntry} {ck:Nat} {ns:NS} {C N H0:Hp} {av:zV}
theorem r8.xu(hI:r8 kp n cap K S ord ah tr C es ck ns)(hF:ij S ns=F)(o:zL):∃k,k<=F.length*2^n/\ot (bc n o (K.held S)) k:=by
 obtain⟨k,hk,hc⟩:=uR (n:=n) (ord:=o) (F:=K.held S) (L:=F.map Prod.snd) (cap:=(F.map Prod.snd).length*2^n+2) (λg hg=>by
  obtain⟨x,hx,rfl⟩:=Q5 hI.hb g hg;obtain⟨p,hp,rfl⟩:=xam.1 hx;exact xam.2 ⟨(p.1,S p.2),by rw[<-hF];exact xam.2 ⟨p,hp,rfl⟩,rfl⟩) (xak _)
 rw[xau]at hc;exact⟨k,by omega,hk⟩
theorem r8.cO(hI:r8 kp n cap K S ord ah tr C es ck ns)(hF:ij S ns=F)(o:zL):Proofs.cO K S o<=F.length*2^n:=by
 obtain⟨k,hk,hc⟩:=hI.xu hF o;unfold Proofs.cO;rw[show K.n=n from hI.hb.n,Bb hc];exact hk
theorem r8.gw(hI:r8 kp n cap K S ord ah tr C es ck ns)(hF:ij S ns=F)(hr:F.length*2^n*2+2<=cap)(o:zL)(l:Nat):Proofs.gw K S o l:=by
 obtain⟨k1,h1,c1⟩:=hI.xu hF o;obtain⟨k2,h2,c2⟩:=hI.xu hF (ff o l);have:=Xx (l:=l) c1 c2;unfold Proofs.gw;rw[show K.n=n from hI.hb.n,show K.cap=cap from hI.hb.cap];omega
theorem r8.at(hI:r8 kp n cap K S ord ah tr C es ck ns)(hF:ij S ns=F){o t:zL}{C2:Hp}(h:At kp K S o t C2):r7 T fz sp n cap o F t (gz T fz::mI sp kp mb es ck C2):=by
 obtain⟨K',S',fI,jX,hk⟩:=h;refine⟨kp,mb,K',S',fI,ns,es,ck,C2,rfl,⟨jX,hI.dV,hI.hb.kept hk⟩,?_⟩;rw[r6 (S:=S) λp hp=>?_,hF];by_cases h2:2<=p.2
 ·exact hk.fn p.2 (qv hI.hb (xam.2 ⟨p,hp,rfl⟩) h2)
 have Xd:p.2=0\/p.2=1:=by omega
 rcases Xd with e|e<;>rw[e]
 ·rw[funext hI.ks.ok.mid.int.zero,funext jX.ok.mid.int.zero]
 rw[funext hI.ks.ok.mid.int.one,funext jX.ok.mid.int.one]
def Zg(T:TypeId)(fz:Nat×Nat)(sp n cap:Nat)(F:FN)(tr:zL)(r:zV)(H:Hp):Prop:=
 ∃t ord' jx,r=nR t 0 0/\r7 T fz sp n cap ord' F jx H/\jx.length<=tr.length+66*(F.length*2^n)+n*n
theorem mO(hI:r8 kp n cap K S ord ah tr C es ck ns)(hF:ij S ns=F)(hn:n<=6)(ZY:F.length*2^n<=64){s gr:Nat}(hs:s<=6)(jL:100<=gr/\gr<=1000)(ei:tr.length<1000000):
  Fc zQ 116 #[ptr sp,.int .u8 (s:Int),nI gr] (gz T fz::mI sp kp mb es ck C) (Zg T fz sp n cap F tr):=by
 have EZ:K.n=n:=hI.hb.n;refine aK λg=>Ii λb1 _=>Ld.v (v:=ptr kp) (.tail _ (.tail _ (.head _))) ?_;refine aa.fn (args:=#[ptr kp,.int .u8 (s:Int),nI gr]) (.cons (.cons (.cons (.cons .here)))) (T4 hI.ks.at' hI.ks.perm hs jL (λ_=>by omega) zO) ?_;rintro _ C2 ⟨ls,c,d,rfl,hA,hSt,hc,_⟩;have ka:=hI.cO hF ord;have kb:=hI.cO hF (ax ord ls);have hls:ls.length+66*Proofs.cO K S (ax ord ls)<=66*Proofs.cO K S ord:=hSt.len;have hc4:c<10000:=by
  rw[EZ]at hc;have hnn:n*(n-1)<=30:=xbB (xbK hn (show n-1<=5 by omega)) zD;have hn3:3*n*(n-1)<=90:=by rw[xck];omega
  refine xaL hc ?_;have:s=0\/s=1\/s=2\/s=3\/s=4\/s=5\/s=6:=by omega
  rcases this with rfl|rfl|rfl|rfl|rfl|rfl|rfl
  ·show 0<10000;decide
  ·show 3*n*(n-1)<10000;omega
  ·show 3*n*(n-1)*(Proofs.cO K S ord+1)<10000;exact xaL (xbK hn3 (show Proofs.cO K S ord+1<=65 by omega)) zD
  ·show(n-1)*2<10000;omega
  ·show(n-2)*10<10000;omega
  ·show(n-3)*46<10000;omega
  show n*(n-1)<10000;omega
 generalize hea:Proofs.cO K S ord=a at*;generalize heb:Proofs.cO K S (ax ord ls)=b at*;refine Ext.two λyY _=>St.whole (r:=[nI a,nI b,nI c,.bool d]) (.head _) rfl rfl (by intro v hv;simp only[xag,xaw,xa1]at hv;rcases hv with rfl|rfl|rfl|rfl<;>rfl) ?_;have hent:∀X:Hp,aI ((yY,Obj.cells [nI a,nI b,nI c,Value.bool d].toArray 224 zZ)::(b1,Obj.cells #[ay [],nI 0,nI 0] 27 zZ)::gz T fz::X) [(yY,Obj.cells [nI a,nI b,nI c,Value.bool d].toArray 224 zZ)]:=λX=>.jg (.head _);refine DR.of (hent _) (Ld.u (v:=nI a) (.head _) (Ld.u (v:=nI b) (.head _) (Ld.u (v:=nI c) (.head _) (Ld.u (v:=.bool d) (.head _) ?_))));refine aa.eq (nq (n:=a) zO (.tail _ (.tail _ (.head _)))) ⟨hent _,aa.eq (nq (n:=b) zO (.tail _ (.tail _ (.head _)))) ⟨hent _,aa.eq (nq (n:=c) hc4 (.tail _ (.tail _ (.head _)))) ⟨hent _,aa.eq (OS d _) ⟨hent _,?_⟩⟩⟩⟩;refine ak.nA (e:=9) (z:=ay []) [ay (dec a),ay (dec b),ay (dec c),ay [if d then 49 else 48]] zK zK zK (by show 4<=16777216;decide) (by intro r hr;simp only[xag,xaw,xa1]at hr;rcases hr with rfl|rfl|rfl|rfl<;>rfl) rfl rfl λbw=>⟨.jg (.tail _ (.head _)),?_⟩;have hv:Sl 1 [(bw,Obj.cells (rows [[ay (dec a)],[ay (dec b)],[ay (dec c)],[ay [if d then 49 else 48]]]) 9 zZ)] (.slice (some ⟨bw,0,none⟩) 4 4) [[ay (dec a)],[ay (dec b)],[ay (dec c)],[ay [if d then 49 else 48]]]:=Sl.fi (aO.made (T:=9) (k:=1) (b:=bw) [[ay (dec a)],[ay (dec b)],[ay (dec c)],[ay [if d then 49 else 48]]] (λr hr=>by simp only[xag,xaw,xa1]at hr;rcases hr with rfl|rfl|rfl|rfl<;>rfl)) zD;refine aa.rq (Qi (hv.mono λy hy=>?_) tW.2 ⟨by have:=(tW (n:=a)).1;omega,by have:=(tW (n:=b)).1;omega,by have:=(tW (n:=c)).1;omega,by show 1<=100;decide⟩) ?_
 ·rw[xaK.1 hy];exact .head _
 rintro _ ⟨t,rfl⟩;refine⟨.jg (.tail _ (.head _)),aa.eq (p9 t 0 _) ⟨.jg (.tail _ (.head _)),?_⟩⟩;refine St.whole (r:=dO t 0 0) (.tail (.tail (.head _))) rfl rfl (bD _ _ _) (au.whole (r:=dO t 0 0) (.tail _ (.tail _ (.head _))) rfl ?_);refine aQ.mk (.skip (.skip .tail)) ⟨t,_,_,rfl,hI.at hF hA,?_⟩;rw[xaf];omega
theorem yP{a:Wd×Nat}{i s:Nat}(hI:r8 kp n cap K S ord ah tr C es ck ns)(hF:ij S ns=F)(hn:n<=6)(ZY:F.length*2^n<=64)(ie:aO 78 4 av ([a].map kS) N)(hi:(i=14/\s=1)\/(i=15/\s=2))(jL:100<=a.2/\a.2<=1000)(ei:tr.length<1000000):
  Fc zQ (Mz.getD i 0) #[ptr sp,av] (N++(gz T fz::mI sp kp mb es ck C)) (Xm (Zg T fz sp n cap F tr)):=by
 have hv:=(Sl.fi ie zD);have hr:=mO (T:=T) (fz:=fz) (sp:=sp) (mb:=mb) hI hF hn ZY (s:=s) zO jL ei;rcases hi with⟨rfl,rfl⟩|⟨rfl,rfl⟩
 ·refine aK λg=>No λb1 _=>?_;refine ai.sl hv (i:=0) (r:=kS a) rfl λp hp=>ag.at hp λq hq=>Ld.at (v:=nI a.2) (r:=[]) hq (λy hy=>.tail _ (xad _ hy)) ?_;refine aa.fn (args:=#[ptr sp,.int .u8 ((1:Nat):Int),nI a.2]) (.cons (.app .here)) hr ?_;rintro _ H ⟨t,o,t',rfl,h⟩;refine St.whole (r:=dO t 0 0) (.head _) rfl rfl (bD _ _ _) (au.whole (r:=dO t 0 0) (.head _) rfl ?_);exact aQ.mk .tail ⟨⟨_,_,_,rfl⟩,N,_,rfl,t,o,t',rfl,h⟩
 refine aK λg=>Nn λb1 _=>?_;refine ai.sl hv (i:=0) (r:=kS a) rfl λp hp=>ag.at hp λq hq=>Ld.at (v:=nI a.2) (r:=[]) hq (λy hy=>.tail _ (xad _ hy)) ?_;refine aa.fn (args:=#[ptr sp,.int .u8 ((2:Nat):Int),nI a.2]) (.cons (.app .here)) hr ?_;rintro _ H ⟨t,o,t',rfl,h⟩;refine St.whole (r:=dO t 0 0) (.head _) rfl rfl (bD _ _ _) (au.whole (r:=dO t 0 0) (.head _) rfl ?_);exact aQ.mk .tail ⟨⟨_,_,_,rfl⟩,N,_,rfl,t,o,t',rfl,h⟩
theorem nk{a:Wd×Nat}(hI:r8 kp n cap K S ord ah tr C es ck ns)(hF:ij S ns=F)(hn:n<=6)(ZY:F.length*2^n<=64)(ie:aO 78 4 av ([a].map kS) N)(ha:2<=a.2/\a.2<=4)(ei:tr.length<1000000):
  Fc zQ (Mz.getD 16 0) #[ptr sp,av] (N++(gz T fz::mI sp kp mb es ck C)) (Xm (Zg T fz sp n cap F tr)):=by
 have hv:=(Sl.fi ie zD);refine aK λg=>Nm λb1 _=>?_;have sub:∀y∈N,y∈(b1,Obj.cells #[ay [],nI 0,nI 0] 27 zZ)::(N++(gz T fz::mI sp kp mb es ck C)):=λy hy=>.tail _ (xad _ hy);refine ai.sl hv (i:=0) (r:=kS a) rfl λp hp=>ag.at hp λq hq=>Ld.at (v:=nI a.2) (r:=[]) hq sub (ae.cU (b:=2) ?_);refine cr.or (decide (4<a.2)) (λ_=>ai.sl hv (i:=0) (r:=kS a) rfl λp hp=>ag.at hp λq hq=>Ld.at (v:=nI a.2) (r:=[]) hq sub (ae.iF (b:=4) ⟨rfl,rfl⟩)) rfl λ_=>?_;rw[<-xbb];refine Br.F ?_ zO;refine ai.sl hv (i:=0) (r:=kS a) rfl λp hp=>ag.at hp λq hq=>Ld.at (v:=nI a.2) (r:=[]) hq sub ?_;refine ae.ir (b:=2) (by simp only[aU];omega) ha.1 (aM.nat (by simp only[aU];omega) (ae.e7 (a:=3) (by simp only[aU];omega) ?_));refine aa.fn (args:=#[ptr sp,.int .u8 ((3+(a.2-2):Nat):Int),nI 100]) (.cons (.app .here)) (mO (T:=T) (fz:=fz) (sp:=sp) (mb:=mb) hI hF hn ZY (s:=3+(a.2-2)) zO zD ei) ?_;rintro _ H ⟨t,o,t',rfl,h⟩;refine St.whole (r:=dO t 0 0) (.head _) rfl rfl (bD _ _ _) (au.whole (r:=dO t 0 0) (.head _) rfl ?_);exact aQ.mk .tail ⟨⟨_,_,_,rfl⟩,N,_,rfl,t,o,t',rfl,h⟩
theorem E6(hI:r8 kp n cap K S ord ah tr C es ck ns)(hF:ij S ns=F)(hn:n<=6)(ZY:F.length*2^n<=64)(ei:tr.length<1000000):
  Fc zQ (Mz.getD 17 0) #[ptr sp,av] (N++(gz T fz::mI sp kp mb es ck C)) (Xm (Zg T fz sp n cap F tr)):=by
 refine aK λg=>Nl λb1 _=>?_;refine aa.fn (args:=#[ptr sp,.int .u8 ((6:Nat):Int),nI 100]) (.cons (.app .here)) (mO (T:=T) (fz:=fz) (sp:=sp) (mb:=mb) hI hF hn ZY (s:=6) zD zD ei) ?_;rintro _ H ⟨t,o,t',rfl,h⟩;refine St.whole (r:=dO t 0 0) (.head _) rfl rfl (bD _ _ _) (au.whole (r:=dO t 0 0) (.head _) rfl ?_);exact aQ.mk .tail ⟨⟨_,_,_,rfl⟩,N,_,rfl,t,o,t',rfl,h⟩
theorem yO{a:Wd×Nat}(hI:r8 kp n cap K S ord ah tr C es ck ns)(hF:ij S ns=F)(hr:F.length*2^n*2+2<=cap)(ie:aO 78 4 av ([a].map kS) N)(ha:a.2+1<n)(ei:tr.length<1000000):
  Fc zQ (Mz.getD 13 0) #[ptr sp,av] (N++(gz T fz::mI sp kp mb es ck C)) (Xm (Zg T fz sp n cap F tr)):=by
 have hv:=(Sl.fi ie zD);refine aK λg=>Np λb1 _=>DR.of (R:=N++[(sp,.cells #[ptr kp,.map (some mb)] 48 zZ)]) (.skip (.cT (.skip (.cons .nil)) N)) ?_;refine Ld.v (v:=ptr kp) (xaa _ (.head _)) ?_;refine ai.sl hv (i:=0) (r:=kS a) rfl λp hp=>ag.at hp λq hq=>Ld.at (v:=nI a.2) (r:=[]) hq (λy hy=>xad _ hy) ?_;refine aa.fn (args:=#[ptr kp,nI a.2]) (.cons (.app (.cons (.cons (.cons .here))))) (tZ hI.ks.at' (l:=a.2) (by rw[show K.n=n from hI.hb.n];exact ha) zO (hI.gw hF hr ord a.2)) ?_;rintro _ C2 ⟨rfl,hA⟩;refine aa.eq (p9 [] 0 _) ⟨.skip (.cT (.skip (.cons .nil)) N),?_⟩;refine St.whole (r:=dO [] 0 0) (.head _) rfl rfl (bD _ _ _) (au.whole (r:=dO [] 0 0) (.head _) rfl ?_);refine aQ.mk .tail ⟨⟨_,_,_,rfl⟩,N,_,rfl,[],_,_,rfl,hI.at hF hA,?_⟩;have:1<=n*n:=xbB (show 1<=2*2 by decide) (xbK zO zO);rw[xaf,xbf];omega
theorem vH{l:List (Wd×Nat)}(hI:r8 kp n cap K S ord ah tr C es ck ns)(hF:ij S ns=F)(hr:F.length*2^n*2+2<=cap)(hn:1<=n/\n<=6)(ie:aO 78 4 av (l.map kS) N)(hq:(l.map Prod.snd).Perm (List.range n))(ei:tr.length<1000000):
  Fc zQ (Mz.getD 12 0) #[ptr sp,av] (N++(gz T fz::mI sp kp mb es ck C)) (Xm (Zg T fz sp n cap F tr)):=by
 have ER:l.length=n:=by have:=hq.length_eq;rwa [xau,xaC]at this
 have EZ:K.n=n:=hI.hb.n;have hv:=(Sl.fi ie zD);have Oi:=hI.ks.perm;refine aK λg=>Nq λb1 _=>ie.bF ?_;rw[xau];refine ae.bu (b:=0) (Br.F (ie.bF ?_) zO);rw[xau];refine Ld.v (v:=ptr kp) (.tail _ (xaa _ (.tail _ (.head _)))) (aa.eh (args:=#[ptr kp]) (.cons (.app (.cons (.cons (.cons .here))))) (kx hI.ks.rep) ?_);rw[EZ];refine ae.mF (Br.F (ie.bF ?_) zO);rw[xau];refine⟨λvs H=>∃(i:Nat) (v:zV) (D:Hp),vs=[v,nI i]/\i<=l.length/\aR 3 .i64 v (iw ((l.map Prod.snd).take i)) D/\H=D++((b1,Obj.cells #[ay [],nI 0,nI 0] 27 zZ)::(N++(gz T fz::mI sp kp mb es ck C))),λvs _=>l.length-bj vs 1,JE.mk ⟨0,_,[],rfl,xaA _,aR.nil,rfl⟩,?_⟩;rintro w51 w52 H ⟨i,v,D,⟨⟩,hi,WC,rfl⟩ gs;refine ae.cU (Br.dec (λhlt=>?_) (λhge=>?_))
 ·have hw:l[i]? =some l[i]:=xab hlt;generalize l[i]=w at hw;refine ai.sl hv (i:=i) (r:=kS w) (by rw[xas,hw];rfl) λp hp=>au.at hp rfl zD (λy hy=>xaa _ (.tail _ (xad _ hy))) λb56 _=>?_;refine St.whole (r:=kS w) (.head _) rfl rfl (ua _) (Ld.u (v:=nI w.2) (.head _) ?_);refine ak.int (e:=3) zK zK zK λbx=>?_;have hlen:(iw ((l.map Prod.snd).take i)).length<=6:=by rw[aq,xbs];omega
  refine WC.mD (x:=(w.2:Int)) (.cons (.cons .left)) (by exact .head _) zO zO λv' D' mr=>?_;refine ae.inc (az.of (.skip .tail) ⟨i+1,v',D',rfl,hlt,?_,rfl⟩ (by simp only[bj];omega));have e:(l.map Prod.snd).take (i+1)=(l.map Prod.snd).take i++[w.2]:=by
   rw[xbn,xas,hw];rfl
  rw[e,cc];exact mr
 have:i=l.length:=by omega
 subst this;rw[xc0 (by rw[xau];exact xak _)]at WC;refine Ld.v (v:=ptr kp) (xaa _ (.tail _ (xaa _ (.tail _ (.head _))))) ?_;have eh:∀X:Hp,D++((b1,Obj.cells #[ay [],nI 0,nI 0] 27 zZ)::(N++(gz T fz::mI sp kp mb es ck X)))=(D++((b1,Obj.cells #[ay [],nI 0,nI 0] 27 zZ)::(N++[gz T fz,(sp,.cells #[ptr kp,.map (some mb)] 48 zZ),(mb,.map es ck)])))++X:=λX=>by simp
 rw[eh];refine aa.fq (args:=#[ptr kp,w51]) (BB hI.ks.at' (WC.ints.mono λy hy=>xad _ hy) Oi (by rw[EZ];exact hq) zO) ?_;rintro r H ⟨C2,rfl,hM⟩;rw[<-eh];have hqn:(l.map Prod.snd).Nodup:=hq.nodup_iff.2 xbo;obtain⟨aha,WJ⟩:=tL hqn (Oi.trans (by rw[EZ];exact hq.symm));have yx:=uI hqn (Oi.trans (by rw[EZ];exact hq.symm)) (by rw[xau]);have xk:ord.length=n:=by rw[Oi.length_eq,xaC,EZ]
 have hcan:(rm K S).can ord (path ord (l.map Prod.snd))=true:=
  JK (rm K S) (Q:=λ_=>True) (λ_ _ _ _=>trivial) (λo x _ _=>mS.2 (hI.gw hF hr o x)) trivial (λx hx=>by
   have h1:=WJ x hx;have h2:(rm K S).n=n:=EZ;rw[h2];omega)
 rcases hM with⟨_,rfl,hA⟩|⟨h0,_⟩;rotate_left
 ·rw[hcan]at h0;cases h0
 have mg:(path ord (l.map Prod.snd)).length<=n*n:=by
  have h1:=yx;rw[ER]at h1;exact xbB zO (xcU n (xdB n 1))
 have Z2:n*n<=6*6:=xbK hn.2 hn.2;refine Ext.two (aa.eq (nq (n:=(path ord (l.map Prod.snd)).length) zO (xaa _ (.tail _ (xaa _ (.head _))))) (aa.eq (p9 _ 0 _) ?_));refine St.whole (r:=dO (dec (path ord (l.map Prod.snd)).length) 0 0) ((cu.head _).aH D) rfl rfl (bD _ _ _) (au.whole (r:=dO (dec (path ord (l.map Prod.snd)).length) 0 0) (xaa _ (.head _)) rfl ?_);refine aQ.mk (.bY .tail) ⟨⟨_,_,_,rfl⟩,N,_,rfl,_,_,_,rfl,hI.at hF hA,?_⟩;rw[xaf];omega
end
section
variable {T:TypeId} {fz:Nat×Nat} {sp n cap:Nat} {ord tr:zL} {F:FN} {H0 Y:Hp}
def Zx(l:List UInt8):Bool:=decide (0<l.length) &&decide (l.length<=300) &&decide (l[0]? ≠some 32)
theorem KI(l:List UInt8)(B:Hp):Rd zQ 9 #[ay l] B (· =.bool (Zx l)):=by
 refine aK λg=>SM (aL.of (ae.iF (b:=0) (cr.and (decide (l.length<=300)) (λ_=>aL.of (ae.AR (b:=300) ⟨rfl,rfl⟩)) rfl λ_=>?_)));refine cr.and (decide (l[0]? ≠some 32)) (λh=>?_) rfl λ_=>bE.mk (.refl _) rfl;rw[xaB,xaQ]at h;obtain⟨b,hb,_⟩:=nj (l:=l) (i:=0) h.1;refine bR.of hb (ae.mF (b:=32) ⟨rfl,?_⟩);congr 1;rw[hb];refine xdl.2 ?_;have:=OO b 32 zD;simp only[ne_eq,xar];rw[this];exact xc8
theorem PJ{l:List UInt8}(h:Zx l=true):∃b r,l=b::r/\b≠32/\l.length<=300:=by
 unfold Zx at h;simp only[xaB,xaQ]at h;cases l with
 |nil=>simp at h
 |cons b r=>exact⟨b,r,rfl,λe=>h.2 (by rw[e];rfl),h.1.2⟩
theorem Lt(hB:Bg T fz sp n cap ord F tr H0){c b:UInt8}{l:List UInt8}(hc:c≠32)(hb:b≠32)(Jn:cmd [c]=none)(hnm:xg [c]=true)(hl:l.length+5<=400)(hn:n<=8)(hF:F.length<=1000):
  Fc zQ 8 #[ptr sp,ay (c::32::61::32::b::l)] H0 (SK T fz sp n cap ord F tr [c] (b::l) 4):=by
 have hw:tg 0 none (c::32::61::32::b::l)=⟨[c],0,1⟩::⟨[61],2,3⟩::tg 4 none (b::l):=by
  show(if c=32 then _ else tg 1 (some [c]) (32::61::32::b::l))=_;rw[xac hc];rfl
 refine uX hB (by simp only[xal];omega) hw Jn (λh=>?_) (λw2 Tu _ e e61=>?_)
 ·exfalso;rcases h with h|h
  ·rw[hnm]at h;cases h
  exact h _ _ rfl rfl
 cases e;refine⟨hn,hF,λr H hq=>?_⟩;have e4:3+Fl (List.drop 3 (c::32::61::32::b::l))=4:=by
  show 3+((if b=32 then _ else 0)+1)=4;rw[xac hb]
 have hq:SK T fz sp n cap ord F tr [c] (List.drop (3+Fl (List.drop 3 (c::32::61::32::b::l))) (c::32::61::32::b::l)) (3+Fl (List.drop 3 (c::32::61::32::b::l))) r H:=hq;rw[e4]at hq;exact hq
theorem r7.out{X:Hp}(h:r7 T fz sp n cap ord F tr H0):aI (X++(H0++Y)) (gz T fz::Y):=by
 obtain⟨kp,mb,K,S,ah,ns,es,ck,C,rfl,_⟩:=h;exact .bY (.cons (.bY (.refl _)))
end
def XW:List (List UInt8):=[[115,105,102,116,32,49,50,48],[115,101,116,116,108,101,32,49,48,48],[119,105,110,100,111,119,32,50],[119,105,110,100,111,119,32,51],[119,105,110,100,111,119,32,52],[101,120,97,99,116],[115,119,97,112,32,48],[115,119,97,112,32,52],[111,114,100,101,114,32,53,32,52,32,51,32,50,32,49,32,48],[111,114,100,101,114,32,50,32,48,32,52,32,49,32,53,32,51]]
section
variable {T:TypeId} {fz:Nat×Nat} {sp:Nat} {ord tr:zL} {f:aE.Fn} {H0 Y:Hp}
theorem PT(hS:r7 T fz sp 6 100000 ord [([102],f)] tr H0)(ei:tr.length<1000000){i:Nat}(hi:i<10):∃tx,XW[i]? =some tx/\Fc zQ 8 #[ptr sp,ay tx] H0 (Zg T fz sp 6 100000 [([102],f)] tr):=by
 have xp:([([102],f)]:FN).length*2^6<=64:=by show 1*64<=64;decide
 have hr:([([102],f)]:FN).length*2^6*2+2<=100000:=by show 1*64*2+2<=100000;decide
 have:i=0\/i=1\/i=2\/i=3\/i=4\/i=5\/i=6\/i=7\/i=8\/i=9:=by omega
 rcases this with rfl|rfl|rfl|rfl|rfl|rfl|rfl|rfl|rfl|rfl
 ·exact⟨_,rfl,gZ hS.bg (w:=⟨[115,105,102,116],0,4⟩) (ws:=[⟨[49,50,48],5,8⟩]) (i:=14) (sh:=[110]) zD zK zK zK zK zK λkp mb K S ah ns es ck C N av hI hF ie=>yP (a:=(⟨[49,50,48],5,8⟩,120)) hI hF zD xp ie (.inl ⟨rfl,rfl⟩) zD ei⟩
 ·exact⟨_,rfl,gZ hS.bg (w:=⟨[115,101,116,116,108,101],0,6⟩) (ws:=[⟨[49,48,48],7,10⟩]) (i:=15) (sh:=[110]) zD zK zK zK zK zK λkp mb K S ah ns es ck C N av hI hF ie=>yP (a:=(⟨[49,48,48],7,10⟩,100)) hI hF zD xp ie (.inr ⟨rfl,rfl⟩) zD ei⟩
 ·exact⟨_,rfl,gZ hS.bg (w:=⟨[119,105,110,100,111,119],0,6⟩) (ws:=[⟨[50],7,8⟩]) (i:=16) (sh:=[110]) zD zK zK zK zK zK λkp mb K S ah ns es ck C N av hI hF ie=>nk (a:=(⟨[50],7,8⟩,2)) hI hF zD xp ie zD ei⟩
 ·exact⟨_,rfl,gZ hS.bg (w:=⟨[119,105,110,100,111,119],0,6⟩) (ws:=[⟨[51],7,8⟩]) (i:=16) (sh:=[110]) zD zK zK zK zK zK λkp mb K S ah ns es ck C N av hI hF ie=>nk (a:=(⟨[51],7,8⟩,3)) hI hF zD xp ie zD ei⟩
 ·exact⟨_,rfl,gZ hS.bg (w:=⟨[119,105,110,100,111,119],0,6⟩) (ws:=[⟨[52],7,8⟩]) (i:=16) (sh:=[110]) zD zK zK zK zK zK λkp mb K S ah ns es ck C N av hI hF ie=>nk (a:=(⟨[52],7,8⟩,4)) hI hF zD xp ie zD ei⟩
 ·exact⟨_,rfl,gZ hS.bg (w:=⟨[101,120,97,99,116],0,5⟩) (ws:=[]) (i:=17) (sh:=[]) zD zK zK zK zK zK λkp mb K S ah ns es ck C N av hI hF ie=>E6 hI hF zD xp ei⟩
 ·exact⟨_,rfl,gZ hS.bg (w:=⟨[115,119,97,112],0,4⟩) (ws:=[⟨[48],5,6⟩]) (i:=13) (sh:=[110]) zD zK zK zK zK zK λkp mb K S ah ns es ck C N av hI hF ie=>yO (a:=(⟨[48],5,6⟩,0)) hI hF hr ie zD ei⟩
 ·exact⟨_,rfl,gZ hS.bg (w:=⟨[115,119,97,112],0,4⟩) (ws:=[⟨[52],5,6⟩]) (i:=13) (sh:=[110]) zD zK zK zK zK zK λkp mb K S ah ns es ck C N av hI hF ie=>yO (a:=(⟨[52],5,6⟩,4)) hI hF hr ie zD ei⟩
 ·exact⟨_,rfl,gZ hS.bg (w:=⟨[111,114,100,101,114],0,5⟩) (ws:=[⟨[53],6,7⟩,⟨[52],8,9⟩,⟨[51],10,11⟩,⟨[50],12,13⟩,⟨[49],14,15⟩,⟨[48],16,17⟩]) (i:=12) (sh:=[110,110,110,110,110,110]) zD zK zK zK zK zK λkp mb K S ah ns es ck C N av hI hF ie=>vH (l:=[(⟨[53],6,7⟩,5),(⟨[52],8,9⟩,4),(⟨[51],10,11⟩,3),(⟨[50],12,13⟩,2),(⟨[49],14,15⟩,1),(⟨[48],16,17⟩,0)]) hI hF hr zD ie zD ei⟩
 exact⟨_,rfl,gZ hS.bg (w:=⟨[111,114,100,101,114],0,5⟩) (ws:=[⟨[50],6,7⟩,⟨[48],8,9⟩,⟨[52],10,11⟩,⟨[49],12,13⟩,⟨[53],14,15⟩,⟨[51],16,17⟩]) (i:=12) (sh:=[110,110,110,110,110,110]) zD zK zK zK zK zK λkp mb K S ah ns es ck C N av hI hF ie=>vH (l:=[(⟨[50],6,7⟩,2),(⟨[48],8,9⟩,0),(⟨[52],10,11⟩,4),(⟨[49],12,13⟩,1),(⟨[53],14,15⟩,5),(⟨[51],16,17⟩,3)]) hI hF hr zD ie zD ei⟩
end
section
variable {T:TypeId} {fz:Nat×Nat} {Y:Hp}
set_option maxHeartbeats 8000000 in
theorem tq{l:List UInt8}{av:zV}{q:zL}(hq:dY .u8 (gz T fz::Y) av (iw q))(h8:∀x∈q,x<256)(hqm:q.length<9223372036854775808):Rd zQ 5 #[ay l,av] (gz T fz::Y) (· =.bool true):=by
 refine aK λgh=>SP (aa.eq OH (Un.not (Br.no (aa.fq (IQ _) ?_))));rintro _ _ ⟨sp,rfl,rfl⟩;refine aa.pre (H':=[gz T fz,Z5 sp]++Y) .swap ?_;refine aa.fn (args:=#[ptr sp,ay [110,101,119,32,54,32,49,48,48,48,48,48]]) (.left (C:=[gz T fz,Z5 sp])) (P8 Cy (w:=⟨[110,101,119],0,3⟩) (a:=⟨[54],4,5⟩) (b:=⟨[49,48,48,48,48,48],6,12⟩) (x:=6) (y:=100000) zD zK zK zK zK zK) ?_;rintro v6 HS hq6;have hS:r7 T fz sp 6 100000 (List.range 6) [] [] HS:=hq6.2;clear hq6;have bye:∀(X HS:Hp) (n cap:Nat) (ord:zL) (F:FN) (tr:zL) (t:Bool),r7 T fz sp n cap ord F tr HS->t=true->aQ (λv H=>H=gz T fz::Y/\v=.bool true) (.returned (.bool t)) (X++(HS++Y)):=λX HS n cap ord F tr t h e=>by
  rw[e];exact bE.mk h.out rfl
 refine aa.fn (args:=#[nI 6,ay l]) (show bB [] (HS++Y) (λX=>X++(HS++Y))from bB.left (C:=[])) (Ma (n:=6) zD l []) ?_;rintro v8 _ ⟨N,rfl,h⟩;rw[xaG]at h;rw[xaG];obtain⟨m,s0,p,e,rfl,hs0,he⟩:∃(m:Nat) (s0:zV) (p e:Nat),v8=.tuple #[.agg #[nI m,s0],nI p,nI e]/\s0.oneCell'=true/\(e=0->∃t l',Reads 6 l (.ok t l')/\eH N (.agg #[nI m,s0]) 6 t.fn):=by
  rcases h with⟨a,e,hr,rfl⟩|⟨t,l',v,hr,rfl,hT⟩
  ·exact⟨0,_,a,e,rfl,rfl,λh=>absurd h hr.fit⟩
  obtain⟨s0,rfl,hs0⟩:=hT.cell;exact⟨6,s0,0,0,rfl,hs0,λ_=>⟨t,l',hr,hT⟩⟩
 have h1:∀u∈[nI m,s0],u.oneCell'=true:=λu hu=>by
  simp only[xag,xaw,xa1]at hu;rcases hu with rfl|rfl
  ·rfl
  exact hs0
 refine Ext.mk rfl (Ext.mk rfl (Ext.mk rfl λoo _=>St.whole (r:=[nI m,s0]) (.head _) rfl rfl h1 ?_));obtain⟨ct,hct⟩:∃c:Nat×Obj,c=(oo,.cells [nI m,s0].toArray 37 zZ):=⟨_,rfl⟩;rw[<-hct];refine aa.eq (KI l _) (Un.not ?_);refine cr.or (decide (e≠0)) (λ_=>ae.mF (b:=0) ⟨rfl,rfl⟩) rfl λ_=>?_;by_cases pE:(!Zx l||decide (e≠0))=true
 ·rw[pE];exact Br.yes (bye (ct::N) HS _ _ _ _ _ _ hS rfl)
 have pE:(!Zx l||decide (e≠0))=false:=by simpa using pE
 rw[pE];apply Br.no;obtain⟨hp,h0⟩:Zx l=true/\e=0:=by simpa using pE
 subst h0;obtain⟨t,lt,hrd,hT⟩:=he rfl;obtain⟨b,r,rfl,hb,WQ⟩:=PJ hp;have ft:t.Fit 6:=(hrd.wt λo ho=>ho.len).1;have aji:sat 6 t.fn<=64:=by
  unfold sat;have:=List.countP_le_length (p:=t.fn) (l:=List.range (2^6));rwa [xaC]at this
 refine ae.O8 (a:=[102,32,61,32]) (by simp at WQ⊢;omega) ?_;refine aa.fn (args:=#[ptr sp,ay (102::32::61::32::b::r)]) (.cons (.app (.left (A:=Y)))) (Lt hS.bg zD hb zK zK (by simp at WQ;omega) zD zD) ?_;intro r23 H1 yz;obtain⟨rt,ra,rfl,AX⟩:∃rt ra,r23=nR rt ra 0/\r7 T fz sp 6 100000 (List.range 6) [([102],t.fn)] [] H1:=by
  rcases yz with⟨a,e,hbd,_⟩|⟨t',l',hr',hh⟩
  ·exact absurd (hrd.uniq hbd) nofun
  have:=hrd.uniq hr';cases this;rcases hh with⟨rfl,hh⟩|⟨_,_,hno⟩
  ·exact⟨_,_,rfl,hh⟩
  refine absurd (CE zD zD (.refl _) t.all (Tr.Bd ft) (c:=100000) ?_ (λg hg=>?_)) hno
  ·have:=hrd.xu λo ho=>ho.len;omega
  rcases hg with⟨p,hp,_⟩|hg
  ·cases hp
  exact Tr.gi.1 hg
 intro MF _;refine St.whole (r:=dO rt ra 0) (.head _) rfl rfl (bD _ _ _) ?_;obtain⟨c25,abS⟩:∃c:Nat×Obj,c=(MF,.cells (dO rt ra 0).toArray 27 zZ):=⟨_,rfl⟩;rw[<-abS];refine au.whole (r:=[nI m,s0]) (.tail _ (by rw[hct];exact .head _)) rfl ?_;refine aa.eq (KG (hT.mono (B':=c25::ct::(N++(H1++Y))) λy hy=>.tail _ (.tail _ (xad _ hy)))) (Ext.two ?_);refine ak.nA (e:=9) (z:=ay []) (XW.map ay) zK zK zK zD zD rfl rfl λbw=>?_;obtain⟨cw,hcw⟩:∃c:Nat×Obj,c=(bw,.cells (XW.map ay).toArray 9 zZ):=⟨_,rfl⟩;rw[<-hcw];refine Ld.u (v:=nI 0) (.tail _ (by rw[abS];exact .head _)) (ae.mF (a:=0) (b:=0) (cr.or false (λ_=>ae.mF (a:=0) (b:=0) ⟨rfl,rfl⟩) rfl λ_=>Br.no ?_));refine⟨λvs H=>∃(i:Nat) (HS:Hp) (ord tr:zL),vs=[nI i]/\i<=q.length/\i<=20/\H=cw::c25::ct::(N++(HS++Y))/\r7 T fz sp 6 100000 ord [([102],t.fn)] tr HS/\tr.length<=i*4260,λvs _=>20-bj vs 0,JE.mk ⟨0,H1,_,[],rfl,xaA _,xaA _,rfl,AX,xaA _⟩,?_⟩;rintro w45 H ⟨i,H1,ord,tr,⟨⟩,hi,ajL,rfl,AX,ei⟩ gs;have hY:∀y∈gz T fz::Y,y∈cw::c25::ct::(N++(H1++Y)):=λy hy=>.tail _ (.tail _ (.tail _ (xaa _ ?_)));rotate_left
 ·rcases xag.1 hy with rfl|hy
  ·obtain⟨kp,mb,K,S,ah,ns,es,ck,C,rfl,_⟩:=AX;exact .head _
  exact xaa _ hy
 refine hq.bF ?_;rw[aq];refine ae.cU (cr.and (decide (i<20)) (λ_=>ae.cU (b:=20) ⟨rfl,rfl⟩) rfl λ_=>?_);rw[<-xdJ];refine Br.dec (λhlt=>?_) (λhge=>?_)
 ·obtain⟨x,hx⟩:∃x,q[i]? =some x:=⟨_,xab hlt.1⟩;have hx8:=h8 x (xaz hx);refine hq.ld (n:=(x:Int)) (i:=i) (cI hx) hY (aM.nat (by simp only[aU];omega) (aG.mk (ae.K8 (b:=10) zD ?_)));obtain⟨tx,htx,hfc⟩:=PT AX zO (i:=x%10) (xbu _ zD);refine ai.nat (xbu _ zD) (Ld.mk (v:=ay tx) (by rw[hcw];exact .head _) (by simp[htx]) ?_);refine aa.fn (args:=#[ptr sp,ay tx]) (.cons (.cons (.cons (.app (.left (A:=Y)))))) hfc ?_;rintro _ H2 ⟨t2,zy,kX,rfl,rM,qq⟩;have qq:kX.length<=tr.length+4260:=by
   have e:tr.length+66*(([([102],t.fn)]:FN).length*2^6)+6*6=tr.length+4260:=rfl;omega
  intro b60 _;refine St.whole (r:=dO t2 0 0) (.head _) rfl rfl (bD _ _ _) ?_;refine aa.fn (args:=#[ptr sp,ay [115,97,116,115,32,102]]) (.cons (.cons (.cons (.cons (.app (.left (A:=Y))))))) (yf rM.bg (w:=⟨[115,97,116,115],0,4⟩) (x:=⟨[102],5,6⟩) zD zK zK zK (f:=t.fn) rfl zO) ?_;rintro _ H3 ⟨rfl,hS3⟩;intro b65 _;refine St.whole (r:=dO (dec (sat 6 t.fn)) 0 0) (.head _) rfl rfl (bD _ _ _) ?_;intro J68 h68;have eE:∀X:Hp,aI ((b65,Obj.cells (dO (dec (sat 6 t.fn)) 0 0).toArray 27 zZ)::(b60,Obj.cells (dO t2 0 0).toArray 27 zZ)::X) [(b65,Obj.cells (dO (dec (sat 6 t.fn)) 0 0).toArray 27 zZ),(b60,Obj.cells (dO t2 0 0).toArray 27 zZ)]:=λX=>aI.left (A:=[_,_]);refine DR.of (R:=[(b65,Obj.cells (dO (dec (sat 6 t.fn)) 0 0).toArray 27 zZ),(b60,Obj.cells (dO t2 0 0).toArray 27 zZ)]) (eE _) ?_;refine Ld.u (v:=nI 0) (.tail _ (.head _)) (ae.mF (a:=0) (b:=0) (Br.no ?_));refine Ld.u (v:=nI 0) (.head _) (ae.mF (a:=0) (b:=0) (aS.mk (Br.no ?_)));refine Ld.u (v:=ay (dec (sat 6 t.fn))) (.head _) λF83=>aa.eq (T1 (n:=sat 6 t.fn) zO _) ⟨eE _,?_⟩;refine ae.O7 (aS.mk (JE.mk (h68 _ _ λ_=>?_)));rw[xaq (λh=>h rfl)];refine Br.no (ae.inc (az.of (.skip .tail) ⟨i+1,H3,zy,kX,rfl,hlt.1,hlt.2,rfl,hS3,by omega⟩ (by simp only[bj];omega)))
 exact bye (cw::c25::ct::N) H1 _ _ _ _ _ _ AX rfl
end
section
open Go.ChangeShapes Go.WideShapes Go.Deep
theorem aaC{f:FuncId}{args:Array zV}{B Y:Hp}{x:Nat×Obj}{Q:zV->Prop}(hp:B.Perm (x::Y))(h:Rd zQ f args (x::Y) Q):Rd zQ f args B Q:=
 λg=>((h g).pre (.perm hp)).mono λe H' ⟨v,gW,h1,h2,h3,h4⟩=>⟨v,B,h1,h2.trans (by rw[h3];exact .perm hp.symm),rfl,h4⟩
theorem PF{a b:String×DataW Unit}{W:World}(h:laidMet zQ [a,b,("internal/strconv.uint64pow10",Lib.tabData .u64 (pwL.map λ(x:Nat)=>(x:Int)))] W):∃T fz,W.heap[1]? =some (.cells powC T fz):=by
 obtain⟨_,⟨_,_,_,_,_,_,_,_,_,_,⟨_,_,_,_,_,_,_,_,_,_,⟨g,t,cs,fuel,p,q,h1,h2,h3,h4,_⟩,_⟩,_⟩,_⟩:=h;obtain rfl:g=1:=(xbE ((show Tryz.prog.globalNamed "internal/strconv.uint64pow10" =some 1 by kernel_rfl).symm.trans h1)).symm;obtain rfl:t=335:=(xbE ((show(Tryz.prog.globals[1]?).map (·.type)=some 335 by kernel_rfl).symm.trans h2)).symm;have hc:=Lib.cells_of_tab (n:=20) (e:=40) (k:=.u64) zK zK zK zK h4;unfold World.var? at h3;rw[h1,xd5]at h3;split at h3
 ·rename_i cs' T fz hh;cases h3;refine⟨T,fz,?_⟩;rw[hh];have:cs=powC:=xcZ (by rw[hc];unfold powC;rw[xbL];rfl);rw[this]
 cases h3
end
end
section
open Fm Sw aE
section
open Go.ChangeShapes Go.WideShapes Go.Deep
theorem Lv{a b:String×DataW Unit}{W:World}{f:FuncId}{args:Array zV}(hl:laidMet zQ [a,b,("internal/strconv.uint64pow10",Lib.tabData .u64 (pwL.map λ(x:Nat)=>(x:Int)))] W)(h:∀T fz Y,(∀y∈whole W,y∈gz T fz::Y)->Rd zQ f args (gz T fz::Y) (· =.bool true)):Rd zQ f args (whole W) (· =.bool true):=by
 obtain⟨T,fz,hg⟩:=PF hl;have hm:gz T fz∈whole W:=by
  unfold whole;have hs:1<W.heap.size:=(xaP.1 hg).1;refine xam.2 ⟨1,xaJ.2 hs,?_⟩;rw[xat,hg];rfl
 obtain⟨s,t,e⟩:=xc1 hm;exact aaC (Y:=s++t) (by rw[e];exact xaT) (h T fz _ λy hy=>(xaT (a:=gz T fz)).subset (by rw[<-e];exact hy))
end
end
end Go.Proofs
