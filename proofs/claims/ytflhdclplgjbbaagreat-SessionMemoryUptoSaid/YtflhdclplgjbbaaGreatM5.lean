import Derived.Test.YtflhdclplgjbbaaGreatM4
import Derived.Test.YtflhdclplgjbbaaGreatM3
import Derived.Test.YtflhdclplgjbbaaGreatM2
import Derived.Test.YtflhdclplgjbbaaGreatM1
set_option linter.defProp false
set_option linter.unusedVariables false
set_option linter.unusedSimpArgs false
set_option linter.unusedSectionVars false
set_option maxRecDepth 100000
namespace Go.Proofs
open Go Go.Sx
open QX
theorem Xv{h:zV}{l:List It}{C:Hp}(hi:Yx h l C)(cB:l.length<4398046511104):
  Fc zQ 168 #[h] C (λv C'=>∃l',Yx h l' C'/\
   ((l=[]/\v=.tuple #[iv 0,iv 0,iv 10]/\l'=l)\/(∃a,l.Perm (a::l')/\(∀b∈l,prec b a=false)/\v=.tuple #[iv a.1,iv a.2,iv 0]))):=by
 have GW:=hi;obtain⟨f,ho,hc,hO,h1⟩:=hi;by_cases hl:l=[]
 ·subst hl;refine aJ λg=>ya ?_;obtain⟨bh,sv,mv,Cs,Cm,rfl,rfl,hs,hm,ξ⟩:=ho
  (repeat (first|apply Nil.γ|apply aj.mk|refine Ld.mk (by repeat (first|exact List.Mem.head _|apply List.Mem.tail|apply xaa)) rfl ?_|apply aP.mk|apply ah.eql|apply ah.lss|apply Br.yes|apply Br.no|apply ah.aK))
  refine dh.or true (λ_=>?_) rfl λ_=>?_
  ·(repeat (first|apply Nil.γ|apply aj.mk|refine Ld.mk (by repeat (first|exact List.Mem.head _|apply List.Mem.tail|apply xaa)) rfl ?_|apply aP.mk|apply ah.eql|apply ah.lss|apply Br.yes|apply Br.no|apply ah.aK))
   refine hs.bL ?_
   (repeat (first|apply Nil.γ|apply aj.mk|refine Ld.mk (by repeat (first|exact List.Mem.head _|apply List.Mem.tail|apply xaa)) rfl ?_|apply aP.mk|apply ah.eql|apply ah.lss|apply Br.yes|apply Br.no|apply ah.aK))
   exact⟨rfl,rfl⟩
  (repeat (first|apply Nil.γ|apply aj.mk|refine Ld.mk (by repeat (first|exact List.Mem.head _|apply List.Mem.tail|apply xaa)) rfl ?_|apply aP.mk|apply ah.eql|apply ah.lss|apply Br.yes|apply Br.no|apply ah.aK))
  exact⟨_,_,rfl,.refl _,[],GW,.inl ⟨rfl,rfl,rfl⟩⟩
 obtain⟨n,hn⟩:∃n,l.length=n+1:=⟨l.length-1,by have:=xde.2 hl;omega⟩;have hmin:∀b∈l,prec b (bg l 0)=false:=λb hb=>by
  obtain⟨j,hj,e⟩:=xbc.1 hb;have:=WJ hO j hj;rwa [show bg l j=b by simp[bg,List.getD,hj,e]]at this
 intro g;refine ya (R:=aQ _) ?_;obtain⟨bh,la,mb,aF,Cm,rfl,rfl,aH,hm⟩:=ho.open zO;unfold L168
 (repeat (first|apply Nil.γ|apply aj.mk|refine Ld.mk (by repeat (first|exact List.Mem.head _|apply List.Mem.tail|apply xaa)) rfl ?_|apply aP.mk|apply ah.eql|apply ah.lss|apply Br.yes|apply Br.no|apply ah.aK))
 refine dh.or false (λ_=>?_) rfl λ_=>?_
 ·(repeat (first|apply Nil.γ|apply aj.mk|refine Ld.mk (by repeat (first|exact List.Mem.head _|apply List.Mem.tail|apply xaa)) rfl ?_|apply aP.mk|apply ah.eql|apply ah.lss|apply Br.yes|apply Br.no|apply ah.aK))
  exact⟨rfl,by rw[hn];simp;omega⟩
 (repeat (first|apply Nil.γ|apply aj.mk|refine Ld.mk (by repeat (first|exact List.Mem.head _|apply List.Mem.tail|apply xaa)) rfl ?_|apply aP.mk|apply ah.eql|apply ah.lss|apply Br.yes|apply Br.no|apply ah.aK))
 refine ay.of 0 rfl zO ?_;refine aB.row (l:=fe .i64 l++aF) zM aH (gi zO aF) ?_;intro tI _;refine St.p (pU _ _) ?_
 (repeat (first|apply Nil.γ|apply aj.mk|refine Ld.mk (by repeat (first|exact List.Mem.head _|apply List.Mem.tail|apply xaa)) rfl ?_|apply aP.mk|apply ah.eql|apply ah.lss|apply Br.yes|apply Br.no|apply ah.aK))
 refine ah.mc (c:=(n:Int)) (by rw[hn];simp) zO ?_
 (repeat (first|apply Nil.γ|apply aj.mk|refine Ld.mk (by repeat (first|exact List.Mem.head _|apply List.Mem.tail|apply xaa)) rfl ?_|apply aP.mk|apply ah.eql|apply ah.lss|apply Br.yes|apply Br.no|apply ah.aK))
 refine ay.nat zO ?_;refine aB.row (l:=fe .i64 l++aF) zM aH (gi zO aF) ?_;intro b27 _;refine St.p (pU _ _) ?_
 (repeat (first|apply Nil.γ|apply aj.mk|refine Ld.mk (by repeat (first|exact List.Mem.head _|apply List.Mem.tail|apply xaa)) rfl ?_|apply aP.mk|apply ah.eql|apply ah.lss|apply Br.yes|apply Br.no|apply ah.aK))
 refine gD.upto (h:=n) zO ?_
 (repeat (first|apply Nil.γ|apply aj.mk|refine Ld.mk (by repeat (first|exact List.Mem.head _|apply List.Mem.tail|apply xaa)) rfl ?_|apply aP.mk|apply ah.eql|apply ah.lss|apply Br.yes|apply Br.no|apply ah.aK))
 refine St.one (by repeat (first|exact df.head _|apply df.tail|apply df.cf)) rfl zI rfl ?_;refine DR.self ?_
 (repeat (first|apply Nil.γ|apply aj.mk|refine Ld.mk (by repeat (first|exact List.Mem.head _|apply List.Mem.tail|apply xaa)) rfl ?_|apply aP.mk|apply ah.eql|apply ah.lss|apply Br.yes|apply Br.no|apply ah.aK))
 rw[<-xaI Cm];refine lR.del (A:=[_,_,_,_]) (B:=[]) hm λZG Ω=>?_;rw[xaI];have Zb:fe .i64 l++aF=fe .i64 (l.take n)++(enc .i64 (bg l n)::aF):=by
  have e:l=l.take n++[bg l n]:=by
   have h2:l.drop n=[bg l n]:=by
    rw[xbt zO,xdm zO];simp[hn,bg,List.getD]
   have:=(xbs n l).symm;rw[h2]at this;exact this
  conv=>lhs;rw[e]
  simp[fe]
 have TM:∀r∈fe .i64 (l.take n)++(enc .i64 (bg l n)::aF),r.length=2:=by rw[<-Zb];exact aH
 intro J hJ;have η:(l.take n).length=n:=by simp[hn]
 have jE:∀l' C',Yx (.pointer (some ⟨bh,0,none⟩)) l' C'->l.Perm (bg l 0::l')->J [] ((b27,Obj.cells (enc .i64 (bg l n)).toArray 295 zZ)::(tI,Obj.cells (enc .i64 (bg l 0)).toArray 295 zZ)::C'):=by
  intro l' C' hi' hp';refine hJ _ λgs=>?_
  (repeat (first|apply Nil.γ|apply aj.mk|refine Ld.mk (by repeat (first|exact List.Mem.head _|apply List.Mem.tail|apply xaa)) rfl ?_|apply aP.mk|apply ah.eql|apply ah.lss|apply Br.yes|apply Br.no|apply ah.aK))
  exact⟨_,_,rfl,.skip .tail,l',hi',.inr ⟨_,hp',hmin,rfl⟩⟩
 (repeat (first|apply Nil.γ|apply aj.mk|refine Ld.mk (by repeat (first|exact List.Mem.head _|apply List.Mem.tail|apply xaa)) rfl ?_|apply aP.mk|apply ah.eql|apply ah.lss|apply Br.yes|apply Br.no|apply ah.aK))
 have yG:VS (.pointer (some ⟨bh,0,none⟩)) (l.take n) (Fl f (bg l 0).1 none) ((bh,Obj.cells #[.slice (some ⟨la,0,none⟩) n (l.length+aF.length),.map (some mb)] 293 zZ)::(la,.cells (ψ (fe .i64 l++aF)) 295 zZ)::ZG):=by
  rw[Zb];exact .shut TM η.symm (by simp[hn];omega) Ω
 refine Br.mk (λh0=>?_) (λh0=>?_)
 ·have h0:0<n:=by simpa using h0
  obtain⟨_,q1,q2,q3,q4⟩:=WC hc hO h1 hn h0;refine aB.q ?_;refine ae.fq (sg yG (i:=0) zO (bg l n)) ?_;rintro v C2 ⟨rfl,uh⟩;have CD:nP ((l.take n).set 0 (bg l n)) (Fl (Fl f (bg l 0).1 none) (bg l n).1 (some 0)) 0:=by
   refine⟨λj hj hj0=>?_,λx hx=>?_⟩
   ·unfold Fl;rw[xac]
    ·exact q4.1 j hj hj0
    intro e;have h00:bg ((l.take n).set 0 (bg l n)) 0=bg l n:=by rw[ir _ zO];simp[iA]
    exact hj0 (q3.inj hj zP (by rw[e,h00]))
   unfold Fl;rw[xac]
   ·exact q4.2 x hx
   intro e;refine hx (iI.2 ⟨0,by simp;omega,?_⟩);rw[ir _ zO];simp[iA,e]
  refine ae.fq (Tx uh (i:=0) zP zP (by simpa[hn]using q2) CD q3) ?_;rintro v C3 ⟨rfl,l3,f3,Ec,S8,hc3,adJ⟩;exact JE.mk (jE l3 C3 ⟨f3,Ec,hc3,adJ,q3.perm S8⟩ ((S8.cons (bg l 0)).trans q1).symm)
 have h0:n=0:=by simp at h0;omega
 subst h0;refine JE.mk (jE (l.take 0) _ ⟨_,yG,⟨λj hj=>by simp at hj,λx _=>?_⟩,λj _ hj=>by simp at hj,by simp[kF]⟩ ?_)
 ·unfold Fl;split
  ·rfl
  rename_i ξ;refine hc.2 x λhm=>ξ ?_;obtain⟨j,hj,e⟩:=iI.1 hm;rw[show j=0 by omega]at e;exact e.symm
 match l,hn with
 | [a],_=>exact .refl _
end Go.Proofs
namespace an
open Go.Sx QX
def nn(s k:Nat):It:=((s:Int),(k:Int))
variable {n:Nat} {c:Nat->Nat->Nat} {T:Nat} {D:zL} {l l':List It} {s i:Nat}
end an
set_option maxRecDepth 100000
namespace Go.Proofs
open Go Go.Sx
section
open ax QX
def M4{pt n v:Nat}{T:Nd->Option Nat}{C:Hp}(h:pc pt n T C)(hv:v<n):
  Rd zQ 224 #[γ pt,iv (v:Int)] C (λr=>∃l:List (Nd×Nat),(l.map Prod.fst).Nodup/\(∀d r,(d,r)∈l↔T d=some r/\d.v=v)/\r=.tuple #[iv ((l.length:Nat):Int),iv 0]):=by
 have h0:=h;obtain⟨vs,Cs,ms,rfl,hs,ho⟩:=h;obtain⟨m,hm⟩:∃m,ms[v]? =some m:=⟨_,xab (by rw[ho.len];exact hv)⟩;have he:=ho.dO v m hm;have hT:∀d:Nd,d.v=v->T d=aN m.l d:=λd hd=>by rw[ho.T,hd,hm];rfl
 have hmem:∀d r,(d,r)∈m.l↔T d=some r/\d.v=v:=λd r=>by
  constructor
  ·intro hx;have hd:=ho.var v m hm _ hx;exact⟨by rw[hT d hd];exact(ef he.nd).2 hx,hd⟩
  rintro⟨h1,h2⟩;rw[hT d h2]at h1;exact(ef he.nd).1 h1
 refine aJ λg=>IV (ae.eq (l7 h0 hv) (ah.cM (Br.F (Nil.γ ?_))));refine aj.mk (Ld.mk zM rfl ?_);refine hs.Vv (x:=.map (some m.b)) (by rw[xaq,hm];rfl) (λ_ h=>by exact .tail _ (xad _ h)) ?_;apply he.Sq (b:=m.b) (by exact .tail _ (xaa _ (rX hm)));exact br.mk (.refl _) ⟨m.l,he.nd,hmem,rfl⟩
section
variable {kp v gr:Nat} {K:Kd} {S:Nat->ax.Fn} {θ tr:zL} {C:Hp}
def N9{ai:zL}(h:cX kp K θ ai tr C)(hv:v<K.n):Rd zQ 165 #[γ kp,iv (v:Int)] C (λr=>∃l:List (Nd×Nat),(l.map Prod.fst).Nodup/\(∀d r,(d,r)∈l↔K.T d=some r/\d.v=v)/\r=.tuple #[iv ((l.length:Nat):Int),iv 0]):=by have h0:=h;obtain⟨b,rfl,hO⟩:=h;refine aJ λg=>JI (ah.aK (Br.no (ae.eq (r6 h0 (v:Int)) ?_)));rw[xam zO];refine Un.not (Br.no (Nil.γ (aj.mk (Ld.f ?_))));apply ae.rq (M4 hO.ut hv);rintro r ⟨l,h1,h2,rfl⟩;exact Ext.mk rfl (Ext.mk rfl (br.mk (.refl _) ⟨l,h1,h2,rfl⟩))
def XB{h:zV}{l:List It}(hi:Yx h l C):Rd zQ 167 #[h] C (· =iv ((l.length:Nat):Int)):=by obtain⟨f,⟨bh,sv,mv,Cs,Cm,rfl,rfl,hs,hm,ξ⟩,_⟩:=hi;refine aJ λg=>JG (ah.aK (Br.no (Ld.n ?_)));apply hs.bL;rw[cW];exact br.mk (.refl _) rfl
def sln:List zV->Nat
 | .slice _ n _::_=>n
 |_=>0
end
end
section
open ax
section
variable {kp mb CX b1 b7 FB bn:Nat} {K:Kd} {S:Nat->ax.Fn} {θ ai tr:zL} {C:Hp}
def kr(r:Nat):zV:=δ r
def dc(a b:Nat):Instr.sameNow (.int .u32) (kr a) (kr b)=some (decide (a=b)):=by simp only[Instr.sameNow,kr,δ,xa5,xat];rw[xbH];simp;omega
def gZ(a:Nat):Instr.sameBits 10000 (kr a) (kr a)=true:=by simp[Instr.sameBits,kr,δ]
structure Kn(n:Nat)(S:Nat->ax.Fn)(es:Array MapEntry)(ck:Nat)(m:List (Nat×zV))(Y:Hp):Prop where
 dO:aI kr (λv x=>v=x) es ck m
 kK:∀r v,aN m r=some v->kS Y v n (S r)
 low:∀r,r<2->aN m r≠none
variable{n:Nat}
def Kn.mono{es:Array MapEntry}{ck:Nat}{m:List (Nat×zV)}{Y Y':Hp}(h:Kn n S es ck m Y)(hs:∀x∈Y,x∈Y'):Kn n S es ck m Y':=⟨h.dO,λr v hm=>(h.kK r v hm).mono hs,h.low⟩
def kS.one{B:Hp}{v:zV}{f:ax.Fn}(h:kS B v n f):∃s,v=.agg #[iv (n:Int),s]/\s.oneCell'=true:=by obtain⟨ws,⟨s,rfl,hw⟩,_,_⟩:=h;exact⟨s,rfl,bT hw⟩
def c8{s:zV}(h:s.oneCell'=true):∀u∈[Value.int .i64 (n:Int),s],u.oneCell'=true:=λu hu=>by
 simp only[xak,xaQ,xbi]at hu;rcases hu with rfl|rfl
 ·rfl
 exact h
def fN(d:Nd):∀u∈bB d,u.oneCell'=true:=λu hu=>by
 simp only[bB,xak,xaQ,xbi]at hu;rcases hu with rfl|rfl|rfl<;>rfl
theorem xz{X:Hp}(h:bS kp K S θ ai tr C){r:Nat}{d:Nd}(hd:K.N r=some d):Px zQ 125 #[γ kp,δ r] (X++C) (λv _=>v=.agg (bB d).toArray):=by
 have η:=h.bQ (.inr ⟨d,hd⟩);refine aJ λg=>Kj λb1 _=>?_;refine ae.eq (args:=#[γ kp,δ r]) (jc h.rep zO) ?_;rw[eo hd (h.ok.mid.two hd).1];refine Ext.two λb7 _=>(St.p (fN d) ?_);refine aB.q ?_;refine St.p (fN d) ?_;refine aB.q ?_;exact HT.mk (by repeat (first|exact cc.refl _|apply cc.cons|apply cc.app)) rfl
def xC{X:Hp}{v:zV}(h:bS kp K S θ ai tr C){rs:zL}(hv:di .u32 (X++C) v (iw rs))(hr:∀r∈rs,live K.N r)(hl:rs.length<4611686018427387904):Px zQ 123 #[γ kp,v] (X++C) (λw _=>w=iv 0):=by
 refine aJ λg=>Kl (ah.aK (Br.no (hv.bL ?_)));rw[av];refine⟨λvs H=>∃(i:Nat) (N:Hp),vs=[iv (i:Int)]/\i<=rs.length/\H=N++(X++C),λvs _=>rs.length-bH vs 0,JE.mk ⟨0,[],rfl,xaL _,rfl⟩,?_⟩;rintro w H ⟨i,N,hw,hi,rfl⟩ gs;simp only[xaw,xaW]at hw;subst hw;refine ah.eA (Br.dec (λη=>?_) (λhge=>?_))
 ·have Fu:=hr _ (xaK η);have uP:=h.bQ Fu;apply hv.ld (n:=((rs[i]:Nat):Int)) (dk (xab η)) (λ_ h=>xaa _ h);apply ae.eq (args:=#[γ kp,δ rs[i]]) (jc h.rep zO);rw[xae (cg.2 Fu)];refine Ext.two λb15 _=>(St.whole (r:=got K.N rs[i]) (by exact .head _) rfl (aS _ _).1 (aS _ _).2 ?_);exact ah.cM (Br.F (ah.inc (aD.mk ⟨i+1,_::N,rfl,η,rfl⟩ (by simp only[bH];omega))))
 exact HT.mk (by repeat (first|exact cc.refl _|apply cc.cons|apply cc.app)) rfl
theorem Uc{X:Hp}(hn:n<=16){d:Nd}(hd:d.v<n){v1 v2:zV}{f1 f2:ax.Fn}(h1:kS X v1 n f1)(h2:kS X v2 n f2)(hm:(bn,Obj.cells #[iv (n:Int)] 3 zZ)∈X):
  Px zQ 180 #[.agg (bB d).toArray,v1,v2,γ bn] X (λw H=>kS H w n (λx=>if x.testBit d.v then f2 x else f1 x)):=by
 obtain⟨s1,rfl,o1⟩:=h1.one;obtain⟨s2,rfl,o2⟩:=h2.one;refine aJ λg=>Ju λc1 _ c3 _ c5 _ c7 _=>?_;refine Ld.mk (v:=iv (n:Int)) (by exact .tail _ (.tail _ (.tail _ (.tail _ hm)))) rfl ?_;refine Ld.f ?_;refine ae.px (bE.left (C:=[]) (A:=_)) (V8 hn hd []) ?_;rintro w N ⟨t,rfl,ht⟩;rw[xaI]at ht⊢;obtain⟨s3,rfl,o3⟩:=ht.one;refine Ext.two λZy _=>(St.p (c8 o3) ?_);refine aB.q ?_;refine aB.q ?_;refine aB.q ?_;refine ae.pre (.perm (.cons _ (xaO.trans (.cons _ (xaO.trans (.cons _ (xaO.trans (.cons _ xaO)))))))) ?_;refine ae.pq (Wb (B:=N++X) (ht.mono λ_ h=>xad _ h) (h2.mono λ_ h=>xaa _ h) (h1.mono λ_ h=>xaa _ h)) ?_;rintro w N2 ⟨t4,rfl,ht4⟩;obtain⟨s4,rfl,o4⟩:=ht4.one;refine Ext.two λc26 _=>(St.p (c8 o4) ?_);refine aB.q ?_;refine St.p (c8 o4) ?_;refine aB.q ?_;refine HT.mk (by repeat (first|exact cc.refl _|apply cc.cons|apply cc.app)) (ht4.mono ?_);intro x hx;repeat (first|exact hx|apply xbv)
theorem afk(h:bS kp K S θ ai tr C)(hn:K.n<=16){Z0:Hp}(h19:(CX,Obj.cells #[.map (some mb)] 301 zZ)∈Z0)(h1:(b1,Obj.cells #[γ kp] 53 zZ)∈Z0)(h7:(b7,Obj.cells #[.func (.func 180) #[] #[γ bn]] 240 zZ)∈Z0)
 (h22:(FB,Obj.cells #[.func (.func 235) #[] #[γ CX,γ b1,γ b7,γ FB]] 302 zZ)∈Z0)(hbn:(bn,Obj.cells #[iv (K.n:Int)] 3 zZ)∈Z0):
  ∀(k r:Nat) (es:Array MapEntry) (ck:Nat) (m:List (Nat×zV)) (Z:Hp),K.n-ι K.n (lv ai) K.N r<=k->live K.N r->(∀x∈Z0,x∈Z)->Kn K.n S es ck m Z->
  Fc zQ 235 #[δ r,γ CX,γ b1,γ b7,γ FB] ((mb,.map es ck)::(Z++C)) (λv H=>∃τ bF m' N,H=(mb,.map τ bF)::(N++(Z++C))/\Kn K.n S τ bF m' (N++Z)/\kS (N++Z) v K.n (S r)):=by
 have hit:∀{r:Nat} {es:Array MapEntry} {ck:Nat} {m:List (Nat×zV)} {Z:Hp} {v:zV},(∀x∈Z0,x∈Z)->Kn K.n S es ck m Z->aN m r=some v->
   Fc zQ 235 #[δ r,γ CX,γ b1,γ b7,γ FB] ((mb,.map es ck)::(Z++C)) (λv H=>∃τ bF m' N,H=(mb,.map τ bF)::(N++(Z++C))/\Kn K.n S τ bF m' (N++Z)/\kS (N++Z) v K.n (S r)):=by
  intro r es ck m Z v hZ hm hv g;obtain⟨s,rfl,hs⟩:=(hm.kK r v hv).one;refine xX (R:=aQ _) ?_;unfold L235;intro c1 _;refine Ld.mk (v:=.map (some mb)) (by exact .tail _ (.tail _ (xad _ (hZ _ h19)))) rfl ?_;refine hm.dO.hit (k:=r) dc (b:=mb) (by exact .tail _ (.head _)) hv λv' e=>?_;subst e;refine Ext.two λc7 _=>(St.p (c8 hs) ?_);refine Br.yes (aB.q ?_);refine St.p (c8 hs) ?_;refine aB.q ?_;exact aQ.mk (.skip .tail) ⟨es,ck,m,[],rfl,hm,hm.kK r _ hv⟩
 intro k;induction k with
 |zero=>
  intro r es ck m Z hk hr hZ hm;have q7:r<2:=by
   cases hN:K.N r with
   |some d=>
    have:=h.ok.wf.iN h.ok.lv r;rw[au hN]at hk;have:=h.ok.lv.lt _ (h.ok.mid.var hN);omega
   |none=>
    rcases hr with hr|⟨d,e⟩
    ·exact hr
    rw[hN]at e;cases e
  cases hv:aN m r with
  |none=>exact absurd hv (hm.low r q7)
  |some v=>exact hit hZ hm hv
 |succ k ih=>
  intro r es ck m Z hk hr hZ hm;cases hv:aN m r with
  |some v=>exact hit hZ hm hv
  |none=>
  have q7:¬r<2:=λh2=>hm.low r h2 hv;obtain⟨d,hN⟩:∃d,K.N r=some d:=by
   rcases hr with hr|hr
   ·omega
   exact hr
  have kQ:=h.ok.mid.var hN;have hlo:=h.ok.wf.lo hN;have hhi:=h.ok.wf.hi hN;have hdl:=h.ok.wf.iN h.ok.lv r;rw[au hN]at hk;have hvl:=h.ok.lv.lt _ kQ;have G9:S r=λx=>if x.testBit d.v then S d.hi x else S d.lo x:=funext λx=>h.ok.mid.int.node hN x
  refine aJ λg=>xX λc1 _=>?_;refine Ld.mk (v:=.map (some mb)) (by exact .tail _ (.tail _ (xad _ (hZ _ h19)))) rfl ?_;refine hm.dO.bR (k:=r) dc (b:=mb) (by exact .tail _ (.head _)) hv ?_;refine Ext.two λc7 _=>(St.q ?_);refine Br.no (Ld.mk (v:=γ kp) (by exact .tail _ (.tail _ (.tail _ (xad _ (hZ _ h1))))) rfl ?_);refine ae.pq (args:=#[γ kp,δ r]) (xz (X:=Z) h hN) ?_;rintro w N0 rfl;intro Zy _;refine St.p (fN d) ?_;obtain⟨Z1,hZ1⟩:∃Z1,Z1=(Zy,Obj.cells (bB d).toArray 144 zZ)::(N0++Z):=⟨_,rfl⟩;have TO:∀x∈Z,x∈Z1:=λx hx=>by rw[hZ1];exact .tail _ (xaa _ hx)
  have Tr:aO (Z1++C) ((Zy,Obj.cells (bB d).toArray 144 zZ)::Z):=by rw[hZ1];exact aO.left.trans (.cons .right)
  have u6:((Zy,Obj.cells (bB d).toArray 144 zZ)::(c7,.cells (List.toArray [iv 0,.slice none 0 0]) 175 zZ)::(c1,.cells #[iv 0,.slice none 0 0] 175 zZ)::(mb,Obj.map es ck)::(N0++(Z++C))).Perm
    ((c1,.cells #[iv 0,.slice none 0 0] 175 zZ)::(c7,.cells (List.toArray [iv 0,.slice none 0 0]) 175 zZ)::(mb,Obj.map es ck)::(Z1++C)):=by
   rw[hZ1,xaS,xag];refine(List.Perm.swap _ _ _).trans ?_;refine(List.Perm.cons _ (List.Perm.swap _ _ _)).trans ?_;refine(List.Perm.swap _ _ _).trans (.cons _ (.cons _ (.swap _ _ _)))
  have hR0:aO ((Zy,Obj.cells (bB d).toArray 144 zZ)::(c7,.cells (List.toArray [iv 0,.slice none 0 0]) 175 zZ)::(c1,.cells #[iv 0,.slice none 0 0] 175 zZ)::(mb,Obj.map es ck)::(N0++(Z++C))) ((Zy,Obj.cells (bB d).toArray 144 zZ)::Z):=
   .cons (.skip (.skip (.skip (.dX .left))))
  refine DR.of hR0 (Ld.mk (v:=.func (.func 180) #[] #[γ bn]) (by exact .tail _ (hZ _ h7)) rfl ?_);refine aB.q ?_;refine Ld.mk (v:=.func (.func 235) #[] #[γ CX,γ b1,γ b7,γ FB]) (by exact .tail _ (hZ _ h22)) rfl ?_;refine Ld.f ?_;refine Ld.mk (v:=.func (.func 235) #[] #[γ CX,γ b1,γ b7,γ FB]) (by exact .tail _ (hZ _ h22)) rfl ?_;refine Ld.f ?_;intro F;refine aM.of rfl zK (ae.pre (.perm u6) ?_);refine ae.fq (args:=#[δ d.lo,γ CX,γ b1,γ b7,γ FB]) (ih d.lo es ck m Z1 zO hlo.1 (λx hx=>TO _ (hZ x hx)) (hm.mono TO)) ?_;rintro v1 H ⟨kR,j7,m1,N1,rfl,uO,ht1⟩;refine⟨.skip (.skip (.skip (.dX Tr))),?_⟩;rw[<-xag];intro F;refine aM.of rfl zK (ae.fq (args:=#[δ d.hi,γ CX,γ b1,γ b7,γ FB]) (ih d.hi kR j7 m1 (N1++Z1) zO hhi.1 (λx hx=>xaa _ (TO _ (hZ x hx))) uO) ?_);rintro v2 H ⟨ic,iO,m2,N2,rfl,mC,Y7⟩;refine⟨.skip (.skip (.skip (.dX (aO.assoc.trans (.dX Tr))))),?_⟩;rw[<-xag];intro F;refine aM.of rfl zK (ae.pq (args:=#[.agg (bB d).toArray,v1,v2,γ bn]) (Uc (bn:=bn) hn kQ (ht1.mono λ_ h=>xaa _ h) Y7 (xaa _ (xaa _ (TO _ (hZ _ hbn))))) ?_);intro v3 N3 SX;rw[<-G9]at SX;refine⟨.skip (.skip (.skip (aO.assoc.trans (.dX (aO.assoc.trans (.dX (aO.assoc.trans (.dX Tr)))))))),?_⟩;obtain⟨s3,rfl,o3⟩:=SX.one;intro c37 _;intro F;refine St.p (c8 o3) ?_;refine Ld.mk (v:=.map (some mb)) (by exact .tail _ (.tail _ (.tail _ (.tail _ (xad _ (xaa _ (xaa _ (xaa _ (TO _ (hZ _ h19)))))))))) rfl ?_;refine aB.q ?_;refine mC.dO.bt (k:=r) (b:=mb) (x:=.agg #[iv (K.n:Int),s3]) dc gZ rfl λpT rF he=>⟨_,.tail (.tail (.tail (.head _))),?_⟩;refine aB.q ?_;refine St.p (c8 o3) ?_;refine aB.q ?_;have hmem:∀x∈N3++(N2++(N1++Z1)),x∈(N3++(N2++(N1++((Zy,Obj.cells (bB d).toArray 144 zZ)::N0))))++Z:=λx hx=>by
   rw[hZ1]at hx;simpa only[xag,xaS]using hx
  refine aQ.mk (.skip (.skip .tail)) ⟨pT,rF,eu m2 r (.agg #[iv (K.n:Int),s3]),N3++(N2++(N1++((Zy,Obj.cells (bB d).toArray 144 zZ)::N0))),by rw[hZ1];simp only[xag,xaS],⟨he,λr' v' oC=>?_,λr' hr'=>?_⟩,SX.mono hmem⟩
  ·rw[bP]at oC;split at oC
   ·rename_i e;subst e;cases oC;exact SX.mono hmem
   exact(mC.kK r' v' oC).mono λx hx=>hmem x (xaa _ hx)
  rw[bP];split
  ·simp
  exact mC.low r' hr'
end
section
variable {kp bn:Nat} {K:Kd} {S:Nat->ax.Fn} {θ ai tr:zL} {C:Hp}
theorem X5(h:bS kp K S θ ai tr C)(hn:K.n<=16){r:Nat}(hr:live K.N r){X:Hp}{v0 v1:zV}(hv0:kS X v0 K.n (λ_=>false))(hv1:kS X v1 K.n (λ_=>true))(hbn:(bn,Obj.cells #[iv (K.n:Int)] 3 zZ)∈X):
  Fc zQ 179 #[γ kp,δ r,v0,v1,.func (.func 180) #[] #[γ bn]] (X++C) (λv H=>∃N,H=N++(X++C)/\kS (N++X) v K.n (S r)):=by
 obtain⟨s0,rfl,o0⟩:=hv0.one;obtain⟨s1,rfl,o1⟩:=hv1.one;have hi:=h.ok.mid.int;refine aJ λg=>Jv λb1 _ b3 _ b5 _ b7 _ b9 _ mb _=>?_;refine aB.q ?_;refine aI.bt (ke:=kr) (vr:=λv x=>v=x) (k:=0) (b:=mb) (x:=Value.agg #[iv (K.n:Int),s0]) dc gZ aI.empty rfl λkR j7 GZ=>⟨_,.head _,?_⟩;refine aB.q ?_;refine aI.bt (ke:=kr) (vr:=λv x=>v=x) (k:=1) (b:=mb) (x:=Value.agg #[iv (K.n:Int),s1]) dc gZ GZ rfl λic iO VG=>⟨_,.head _,?_⟩;intro CX _;refine St.one (c':=#[.map (some mb)]) (by exact .head _) rfl zI rfl ?_;intro FB _;refine St.one (c':=#[.func (.func 235) #[] #[γ CX,γ b1,γ b7,γ FB]]) (by exact .head _) rfl zI rfl ?_;refine Ld.q ?_;refine aM.of rfl zK ?_;obtain⟨Z0,Zn⟩:∃Z0:Hp,Z0=(FB,Obj.cells #[.func (.func 235) #[] #[γ CX,γ b1,γ b7,γ FB]] 302 zZ)::(CX,.cells #[.map (some mb)] 301 zZ)::(b7,.cells #[.func (.func 180) #[] #[γ bn]] 240 zZ)::(b5,.cells (Value.cells (.agg #[iv (K.n:Int),s1])) 175 zZ)::(b3,.cells (Value.cells (.agg #[iv (K.n:Int),s0])) 175 zZ)::(b1,.cells #[γ kp] 53 zZ)::X:=⟨_,rfl⟩;have hXZ:∀x∈X,x∈Z0:=λx hx=>by rw[Zn];exact .tail _ (.tail _ (.tail _ (.tail _ (.tail _ (.tail _ hx)))))
 refine ae.pre (H':=(b9,Obj.cells #[iv 0,.slice none 0 0] 175 zZ)::(mb,Obj.map ic iO)::(Z0++C)) (.perm ?_) ?_
 ·rw[Zn];simp only[xaS];refine(List.Perm.cons _ (List.Perm.cons _ (List.Perm.swap _ _ _))).trans ?_;refine(List.Perm.cons _ (List.Perm.swap _ _ _)).trans ?_;refine(List.Perm.swap _ _ _).trans (.cons _ ?_);refine(List.Perm.cons _ (List.Perm.swap _ _ _)).trans ?_;exact List.Perm.swap _ _ _
 refine ae.fq (args:=#[δ r,γ CX,γ b1,γ b7,γ FB]) (afk (Z0:=Z0) (bn:=bn) h hn (by rw[Zn];exact .tail _ (.head _)) (by rw[Zn];exact .tail _ (.tail _ (.tail _ (.tail _ (.tail _ (.head _)))))) (by rw[Zn];exact .tail _ (.tail _ (.head _))) (by rw[Zn];exact .head _) (hXZ _ hbn) K.n r ic iO _ Z0 (xdA _ _) hr (λ_ h=>h) ⟨VG,λr v hm=>?_,λr hr=>?_⟩) ?_
 ·rw[bP,bP]at hm;split at hm
  ·rename_i e;subst e;cases hm;have:=hv1.mono hXZ;rwa [show(λ_=>true)=S 1 from funext λx=>(hi.one x).symm]at this
  split at hm
  ·rename_i e;subst e;cases hm;have:=hv0.mono hXZ;rwa [show(λ_=>false)=S 0 from funext λx=>(hi.zero x).symm]at this
  simp[aN]at hm
 ·rw[bP,bP];have:r=0\/r=1:=by omega
  rcases this with rfl|rfl<;>simp
 rintro v H ⟨pT,rF,m3,N,rfl,_,ht⟩;obtain⟨s3,rfl,o3⟩:=ht.one;refine St.p (c8 o3) ?_;refine aB.q ?_;refine aQ.mk (.skip .tail) ⟨N++[(FB,Obj.cells #[.func (.func 235) #[] #[γ CX,γ b1,γ b7,γ FB]] 302 zZ),(CX,.cells #[.map (some mb)] 301 zZ),(b7,.cells #[.func (.func 180) #[] #[γ bn]] 240 zZ),(b5,.cells (Value.cells (.agg #[iv (K.n:Int),s1])) 175 zZ),(b3,.cells (Value.cells (.agg #[iv (K.n:Int),s0])) 175 zZ),(b1,.cells #[γ kp] 53 zZ)],by rw[Zn];simp,ht.mono λx hx=>?_⟩;rw[Zn]at hx;simpa using hx
theorem OL(h:bS kp K S θ ai tr C)(hn:K.n<=16){r:Nat}(hr:live K.N r):
  Fc zQ 116 #[γ kp,δ r] C (λv H=>∃N t,H=N++C/\v=.tuple #[t,iv 0]/\kS N t K.n (S r)):=by
 refine aJ λg=>Kt λb1 _=>?_;refine aq.int (e:=78) zK zK zK λbx=>?_;refine ae.px .here (xC (X:=[(bx,_),(b1,_)]) (rs:=[r]) h (di.block (by exact .head _) zI) (λx hx=>by rw[xaE.1 hx];exact hr) zI) ?_;rintro w N0 rfl;refine ah.cM (Br.F (ae.eq (gY h.rep) λjx _=>?_));refine St.one (c':=#[iv (K.n:Int)]) (by exact .head _) rfl zI rfl ?_;refine Ld.q ?_;refine ah.nV (b:=16) (Br.F (Ld.q ?_));refine ae.px (bE.left (C:=[]) (A:=_)) (y4 hn false []) ?_;rintro w N1 ⟨t0,rfl,Xq⟩;rw[xaI]at Xq⊢;obtain⟨s0,rfl,o0⟩:=Xq.one;refine Ext.two λb26 _=>(St.p (c8 o0) ?_);refine Ld.q ?_;refine ae.px (bE.left (C:=[]) (A:=_)) (y4 hn true []) ?_;rintro w N2 ⟨t1,rfl,ht1⟩;rw[xaI]at ht1⊢;obtain⟨s1,rfl,o1⟩:=ht1.one;refine Ext.two λb34 _=>(St.p (c8 o1) ?_);refine aB.q ?_;refine aB.q ?_;obtain⟨X,hX⟩:∃X:Hp,X=(b34,Obj.cells (List.toArray [iv (K.n:Int),s1]) 175 zZ)::(N2++((b26,Obj.cells (List.toArray [iv (K.n:Int),s0]) 175 zZ)::(N1++((jx,Obj.cells #[iv (K.n:Int)] 3 zZ)::(N0++[(bx,Obj.cells (az .u32 [(r:Int)]) 78 zZ)]))))):=⟨_,rfl⟩;refine ae.pre (H':=(b1,Obj.cells #[iv 0,.slice none 0 0] 175 zZ)::(X++C)) (.perm ?_) ?_
 ·rw[hX];have:=xaO (a:=(b1,Obj.cells #[Value.int .i64 0,.slice none 0 0] 175 zZ)) (l₂:=C) (l₁:=(b34,Obj.cells (List.toArray [Value.int .i64 (K.n:Int),s1]) 175 zZ)::(N2++((b26,Obj.cells (List.toArray [Value.int .i64 (K.n:Int),s0]) 175 zZ)::(N1++((jx,Obj.cells #[Value.int .i64 (K.n:Int)] 3 zZ)::(N0++[(bx,Obj.cells (az .u32 [(r:Int)]) 78 zZ)]))))));simpa only[xaS,xag,xbR]using this
 refine ae.fq (X5 (X:=X) (bn:=jx) h hn hr (Xq.mono λx hx=>?_) (ht1.mono λx hx=>?_) ?_) ?_
 ·rw[hX];exact .tail _ (xaa _ (.tail _ (xad _ hx)))
 ·rw[hX];exact .tail _ (xad _ hx)
 ·rw[hX];exact .tail _ (xaa _ (.tail _ (xaa _ (.head _))))
 rintro v H ⟨N,rfl,ht⟩;obtain⟨s3,rfl,o3⟩:=ht.one;refine St.p (c8 o3) ?_;refine aB.q ?_;exact aQ.mk .tail ⟨N++X,_,by rw[xag],rfl,ht⟩
def rts(K:Kd):zL:=(List.range K.ho.length).filter λr=>decide (0<K.hold r)
theorem Nv(h:bS kp K S θ ai tr C):Fc zQ 115 #[γ kp] C (λr H=>∃N,H=N++C/\aL 78 .u32 r (iw (rts K)) N):=by
 obtain⟨b,hC,hO⟩:=h.rep;have hcap:=h.ok.mid.cap;have hle:=h.dU;have hfit:K.ho.length<=1048576:=by
  have:=hO.ul;omega
 refine aJ λg=>Ku (ah.aK (Br.no ?_));have ady:∀z∈b.CH,z∈C:=by rw[hC];exact bE.sub (.cons (.app (.app (.app .left))))
 refine Nil.γ (aj.mk (Ld.u (by rw[hC];exact .head _) ?_));refine hO.ho.bL ?_;rw[av]
 let rk:Nat->zL:=λk=>(List.range k).filter λr=>decide (0<K.hold r)
 refine⟨λvs H=>∃(k:Nat) (w:zV) (N:Hp),vs=[w,iv (k:Int)]/\k<=K.ho.length/\H=N++C/\aL 78 .u32 w (iw (rk k)) N,λvs _=>K.ho.length-bH vs 1,JE.mk ⟨0,_,[],rfl,xaL _,rfl,aL.nil⟩,?_⟩;rintro w11 w12 H ⟨k,w,N,⟨⟩,hk,rfl,hN⟩ gs;refine ah.eA (Br.dec (λη=>?_) (λη=>?_))
 ·intro J hJ;have fin:∀w' N',aL 78 .u32 w' (iw (rk (k+1))) N'->J [w'] (N'++C):=λw' N' h'=>hJ _ _ λgs=>by
   exact ah.inc (aD.of (.refl _) ⟨k+1,w',N',rfl,η,rfl,h'⟩ (by simp only[bH];omega))
  have e:rk (k+1)=rk k++if 0<K.hold k then [k]else []:=by
   show(List.range (k+1)).filter _=_;rw[xbZ,xcb];congr 1;by_cases hp:0<K.hold k<;>simp[hp]
  refine hO.ho.ld (x:=((K.hold k:Nat):Int)) (bM η) (λz hz=>xaa _ (ady z hz)) (ah.nV (b:=0) (Br.dec (λhp=>?_) (λhp=>?_)))
  ·rw[e,xae hp]at fin;refine bu.q ?_;have Ea:(rk k).length<=k:=by
    have:=xbU (λr=>decide (0<K.hold r)) (List.range k);rwa [xaF]at this
   refine aq.int (e:=78) zK zK zK λbx=>?_;refine hN.qd (.cons .left) (by exact .head _) (by rw[av];omega) (by rw[av];omega) λv' N' cA=>?_;rw[cH]at fin;exact JE.of .tail (fin v' N' cA)
  rw[e,xac hp,xaI]at fin;exact JE.mk (fin w11 N hN)
 obtain rfl:k=K.ho.length:=by omega
 exact aQ.here ⟨N,rfl,hN⟩
end
end
end Go.Proofs
namespace an
open Go.Sx
def Fz(c:Nat->Nat->Nat):Nat->zL->Nat
 |_,[]=>0
 |a,v::o=>c a v+Fz c (aC a v true) o
def qN(a:Nat)(o:zL):Nat:=o.foldl (λa v=>aC a v true) a
def Dw(a:Nat)(o o':zL):qN a (o++o')=qN (qN a o) o':=xds ..
def xq(c:Nat->Nat->Nat):∀(o o':zL) (a:Nat),Fz c a (o++o')=Fz c a o+Fz c (qN a o) o'
 | [],o',a=>by simp[Fz,qN]
 |v::o,o',a=>by rw[xaS,Fz,xq c o o',Fz,xcq];rfl
def rG:∀(o:zL) (a u:Nat),(qN a o).testBit u=(a.testBit u||decide (u∈o))
 | [],a,u=>by simp[qN]
 |v::o,a,u=>by
  show(qN (aC a v true) o).testBit u=_;rw[rG o,ak];by_cases e:u=v
  ·simp[e]
  simp[e]
structure nN(n a:Nat)(o:zL):Prop where
 nd:o.Nodup
 mem:∀v,v∈o↔v∈bR n a
variable {n:Nat} {c:Nat->Nat->Nat}
def nN.nil{a:Nat}(h:nN n a []):bR n a=[]:=xcI.2 λv hv=>by simpa using(h.mem v).2 hv
def nN.tail{a v:Nat}{o:zL}(h:nN n a (v::o)):v∈bR n a/\nN n (aC a v true) o:=by
 have h1:=xaX.1 h.nd;refine⟨(h.mem v).1 zI,h1.2,λu=>?_⟩;rw[cU,ak];have hu:=h.mem u;rw[cU,xak]at hu;by_cases e:u=v
 ·subst e;simp[h1.1]
 simp only[e,xdO,xa2]at hu⊢;exact hu
def nN.cons{a v:Nat}{o:zL}(hv:v∈bR n a)(h:nN n (aC a v true) o):nN n a (v::o):=by
 have hm:=h.mem;refine⟨xaX.2 ⟨λhx=>?_,h.nd⟩,λu=>?_⟩
 ·have:=(hm v).1 hx;rw[cU,ak,xae rfl]at this;exact absurd this.2 zI
 rw[xak,hm,cU,cU,ak];rw[cU]at hv;by_cases e:u=v
 ·subst e;simp[hv]
 simp[e]
def Fj:∀(o:zL) (a:Nat),nN n a o->B n c a<=Fz c a o
 | [],a,h=>by rw[MI h.nil];exact xaL _
 |v::o,a,h=>by
  obtain⟨h1,h2⟩:=h.tail;exact xbT (afC h1) (Nat.add_le_add_left (Fj o _ h2) _)
def Gk:∀(f a:Nat),(bR n a).length<=f->nN n a (θ n c f a)/\Fz c a (θ n c f a)=B n c a
 |0,a,h=>by
  have hm:bR n a=[]:=xbO zO;rw[θ,MI hm];exact⟨⟨by simp,λv=>by rw[hm]⟩,rfl⟩
 |f+1,a,h=>by
  by_cases hm:bR n a=[]
  ·have:θ n c (f+1) a=[]:=by rw[θ,hm];rfl
   rw[this,MI hm];exact⟨⟨by simp,λv=>by rw[hm]⟩,rfl⟩
  obtain⟨v,hv,he,_,ho⟩:=wo (c:=c) (f:=f) hm;have:=gW hv;obtain⟨h1,h2⟩:=Gk f (aC a v true) zO;rw[ho];exact⟨h1.cons hv,by rw[Fz,h2,he]⟩
def pJ(n:Nat):bR n 0=List.range n:=by unfold bR;rw[xcx.2];simp
def Wf(n:Nat)(l:Fs)(vs:zL):Fs:=vs.foldl (λl v=>given n l v) l
def TJ(A k:Nat):has (k+1) A=has k A++(if A.testBit k then [k]else []):=by unfold has;rw[xbZ,xcb];congr 1;rw[xbz];simp
def vK(n:Nat)(l:Fs)(a b:zL):Wf n l (a++b)=Wf n (Wf n l a) b:=xds ..
def vO(n:Nat)(L:Fs)(A:Nat):∀k,st n L A k=Wf n (mV L) (has k A)
 |0=>rfl
 |k+1=>by
  rw[st,TJ,vK,<-vO n L A k];split<;>rfl
def Sm(a b:Fs):Prop:=∀x,x∈a↔x∈b
variable{a b:Fs}
def Sm.trans{c:Fs}(h:Sm a b)(h':Sm b c):Sm a c:=λx=>(h x).trans (h' x)
def Sm.symm(h:Sm a b):Sm b a:=λx=>(h x).symm
def Sm.refl(a:Fs):Sm a a:=λ_=>xcZ
def AF(n:Nat)(l:Fs):Prop:=∀t∈l,eU n t
variable {n:Nat}
def uk(h:Sm a b)(v:Nat):Sm (given n a v) (given n b v):=λx=>by
 rw[bX,bX];constructor
 ·rintro⟨t,ht,h'⟩;exact⟨t,(h t).1 ht,h'⟩
 rintro⟨t,ht,h'⟩;exact⟨t,(h t).2 ht,h'⟩
def T0(hn:n<=16)(l:Fs)(v:Nat):AF n (given n l v):=λt ht=>by
 obtain⟨u,_,b,rfl⟩:=bX.1 ht;exact eH hn
def EL{t:zL}{u v:Nat}{b c:Bool}(hf:eU n t)(hu:u<n)(hv:v<n)(h:u≠v):iU n (iU n t u b) v c=iU n (iU n t v c) u b:=
 (eH hf.yz).ext (eH hf.yz) λx hx=>by
  rw[fj (eH hf.yz) hv hx,fj hf hu (gp hx hv),fj (eH hf.yz) hu hx,fj hf hv (gp hx hu),dx (xa9 h)]
def Hf{l:Fs}{u v:Nat}(hl:AF n l)(hu:u<n)(hv:v<n)(h:u≠v):Sm (given n (given n l u) v) (given n (given n l v) u):=λx=>by
 rw[bX,bX];constructor
 ·rintro⟨t,ht,c,rfl⟩;obtain⟨s,hs,b,rfl⟩:=bX.1 ht;exact⟨iU n s v c,bX.2 ⟨s,hs,c,rfl⟩,b,EL (hl s hs) hu hv h⟩
 rintro⟨t,ht,c,rfl⟩;obtain⟨s,hs,b,rfl⟩:=bX.1 ht;exact⟨iU n s u c,bX.2 ⟨s,hs,c,rfl⟩,b,EL (hl s hs) hv hu (xa9 h)⟩
def y7:∀(vs:zL) {a b:Fs},Sm a b->Sm (Wf n a vs) (Wf n b vs)
 | [],_,_,h=>h
 |v::vs,_,_,h=>y7 vs (uk h v)
def Rr(hn:n<=16){vs vs':zL}(hp:vs.Perm vs'):(∀v∈vs,v<n)->∀l,AF n l->Sm (Wf n l vs) (Wf n l vs'):=by
 induction hp with
 |nil=>exact λ_ l _=>Sm.refl _
 |cons v _ ih=>exact λh l hl=>ih (λu hu=>h u (by simp[hu])) _ (T0 hn l v)
 |swap x y r=>
  intro h l hl;by_cases e:x=y
  ·subst e;exact Sm.refl _
  exact y7 r (Hf hl (h y zI) (h x zI) (xa9 e))
 |trans u6 _ ih1 ih2=>exact λh l hl=>(ih1 h l hl).trans (ih2 (λv hv=>h v (u6.mem_iff.2 hv)) l hl)
def y6:∀(vs:zL) {l:Fs},l.Nodup->(Wf n l vs).Nodup
 | [],_,h=>h
 |v::vs,_,_=>y6 vs (k7 _ _ _)
def M3{L:Fs}(h:AF n L):AF n (mV L):=λt ht=>h t (eG.1 ht)
def Gp(ha:a.Nodup)(hb:b.Nodup)(h:Sm a b)(v:Nat):(nodes n a v).length=(nodes n b v).length:=kz (gU ha hb h)
def Ag(n a:Nat):(has n a).Nodup:=List.Pairwise.filter _ xbh
def aba{a v:Nat}(h:v∈has n a):v<n:=(rV.1 h).1
def TK{a v:Nat}(hv:v<n)(ha:a.testBit v=false):(has n (aC a v true)).Perm (has n a++[v]):=by
 refine(xc0 (Ag _ _) ?_).2 λu=>?_
 ·rw[xa3];refine⟨Ag _ _,by simp,λx hx y hy=>?_⟩;simp at hy;subst hy;rintro rfl;rw[(rV.1 hx).2]at ha;cases ha
 rw[rV,xao,xaE,rV,ak];by_cases e:u=v
 ·subst e;simp[hv]
 simp[e]
def Wi(hn:n<=16){L:Fs}(hL:AF n L){a v:Nat}(hv:v<n)(ha:a.testBit v=false):Sm (st n L (aC a v true) n) (given n (st n L a n) v):=by rw[vO,vO];have h:=Rr hn (TK hv ha) (λu hu=>aba hu) _ (M3 hL);rw[vK]at h;exact h
variable {φ:zL->zL} {π:Nat->Nat}
def lay(n:Nat)(F:Nat->Nat):zL:=(List.range (wN n)).map λi=>F i&&&dN n
def neg(n:Nat)(ws:zL):zL:=lay n λi=>18446744073709551615-ws.getD i 0
end an
namespace ax
open an
variable{n:Nat}{θ:zL}
section
variable{L:an.Fs}
def F6(a:Nat)(o:zL)(v:Nat):qN a (o++[v])=aC (qN a o) v true:=by rw[Dw];rfl
def Uv(hn:n<=16)(hL:∀t∈L,eU n t)(hp:θ.Perm (List.range n)):∀k,k<=n->Sm (cur n θ L k) (st n L (qN 0 (θ.take k)) n)
 |0,_=>by
  have e:st n L (qN 0 (θ.take 0)) n=mV L:=by
   rw[vO];have:has n (qN 0 (θ.take 0))=[]:=by
    show has n 0=[];rw[xcI];intro v hv;have:=(rV.1 hv).2;rw[xcG]at this;cases this
   rw[this];rfl
  rw[e];exact .refl _
 |k+1,hk=>by
  have Cy:θ.length=n:=by rw[hp.length_eq,xaF]
  have fQ:θ.Nodup:=hp.nodup_iff.2 xbh;have η:k<θ.length:=by omega
  have hv:θ[k]<n:=xaN.1 (hp.mem_iff.1 (xaK η));have hg:θ.getD k 0=θ[k]:=by rw[xas,xab η];rfl
  have ht:θ.take (k+1)=θ.take k++[θ[k]]:=xa8 η;have Γ:θ[k]∉θ.take k:=λhm=>by
   have h2:(θ.take (k+1)).Nodup:=fQ.sublist (xdZ _ _);rw[ht]at h2;exact(xa3.1 h2).2.2 _ hm _ zI rfl
  have hb:(qN 0 (θ.take k)).testBit θ[k]=false:=by
   rw[rG,xcG,xan Γ];rfl
  rw[ht,F6];refine Sm.trans ?_ (Sm.symm (Wi hn hL hv hb));rw[cur,hg];exact uk (Uv hn hL hp k zO) _
def W7(hn:n<=16)(hL:∀t∈L,eU n t)(hp:θ.Perm (List.range n)){k:Nat}(hk:k<=n)(v:Nat):(nodes n (cur n θ L k) v).length=lvl n L (qN 0 (θ.take k)) v:=by unfold lvl;refine Gp (Ar k) ?_ (Uv hn hL hp k hk) v;rw[vO];exact y6 _ (jL _)
def EH(hn:n<=16)(hL:∀t∈L,eU n t)(hp:θ.Perm (List.range n)):∀k,k<=n->Fz (lvl n L) 0 (θ.take k)=kU n θ L k
 |0,_=>rfl
 |k+1,hk=>by
  have Cy:θ.length=n:=by rw[hp.length_eq,xaF]
  have η:k<θ.length:=by omega
  have hg:θ.getD k 0=θ[k]:=by rw[xas,xab η];rfl
  rw[xa8 η,xq,EH hn hL hp k zO,kU];congr 1;unfold Gz;rw[W7 hn hL hp zO,hg];simp[Fz]
def As(hn:n<=16)(hL:∀t∈L,eU n t)(hp:θ.Perm (List.range n)):Fz (lvl n L) 0 θ=kU n θ L n:=by
 have Cy:θ.length=n:=by rw[hp.length_eq,xaF]
 rw[<-EH hn hL hp n (xai n),<-Cy,xa7]
def GJ(hp:θ.Perm (List.range n)):nN n 0 θ:=⟨hp.nodup_iff.2 xbh,λv=>by rw[pJ];exact hp.mem_iff⟩
def Gg(h:nN n 0 θ):θ.Perm (List.range n):=by refine(xc0 h.nd xbh).2 λv=>?_;rw[h.mem,pJ]
def tH(c:Nat->Nat->Nat):(an.θ n c n 0).Perm (List.range n):=Gg (Gk n 0 (by rw[pJ,xaF];exact xai n)).1
def tG(hn:n<=16)(hL:∀t∈L,eU n t):kU n (an.θ n (lvl n L) n 0) L n=B n (lvl n L) 0:=by rw[<-As hn hL (tH _)];exact(Gk n 0 (by rw[pJ,xaF];exact xai n)).2
def Yi(hn:n<=16)(hL:∀t∈L,eU n t)(hp:θ.Perm (List.range n)):B n (lvl n L) 0<=kU n θ L n:=by rw[<-As hn hL hp];exact Fj θ 0 (GJ hp)
end
end ax
set_option maxRecDepth 100000
namespace Go.Proofs
open Go Go.Sx
section
open ax
section
variable {kp:Nat} {K:Kd} {S:Nat->ax.Fn} {θ tr:zL} {C:Hp}
def vP{n:Nat}{o:zL}:∀k,kU n o [] k=0:=by
  have hc:∀k,cur n o [] k=[]:=λk=>by
    induction k with
    |zero=>rfl
    |succ k ih=>rw[cur,ih];rfl
  intro k;induction k with
  |zero=>rfl
  |succ k ih=>rw[kU,ih];unfold Gz;rw[hc];rfl
def FR{B:Hp}{v:zV}{n:Nat}{f:ax.Fn}(h:kS B v n f):∃s ws,v=.agg #[iv (n:Int),s]/\Words B s ws/\an.eU n ws/\nW n ws=f:=by  obtain⟨ws,⟨s,rfl,hw⟩,hf,he⟩:=h;exact⟨s,ws,rfl,hw,hf,he⟩
def ajp(kp:Nat)(K:Kd)(S:Nat->ax.Fn)(θ tr:zL)(v:zV)(H:Hp):Prop:=
  ∃L:an.Fs,(∀t∈L,an.eU K.n t)/\K.held S=FT K.n L/\L.length<=1048576/\
   ((cK K S θ=an.B K.n (an.lvl K.n L) 0/\v=.tuple #[.agg #[iv ((cK K S θ:Nat):Int),iv ((cK K S θ:Nat):Int),iv 0,.bool true],iv 0]/\At kp K S θ tr H)\/
    (cK K S θ≠an.B K.n (an.lvl K.n L) 0/\∃o ls,o=an.θ K.n (an.lvl K.n L) K.n 0/\ls=Λ θ o/\
     (((rm K S).can θ ls=true/\v=.tuple #[.agg #[iv ((cK K S θ:Nat):Int),iv ((cK K S o:Nat):Int),iv ((ls.length:Nat):Int),.bool true],iv 0]/\At kp K S o (tr++ls) H)\/
      ((rm K S).can θ ls=false/\v=.tuple #[.agg #[iv ((cK K S θ:Nat):Int),iv ((cK K S θ:Nat):Int),iv ((2*((rm K S).dJ 0 ls θ).length:Nat):Int),.bool false],iv 0]/\At kp K S θ tr H))))
theorem VW(h:At kp K S θ tr C)(hp:θ.Perm (List.range K.n))(hn:K.n<=12)(fm:tr.length<17317308137472):
    Fc zQ 82 #[γ kp] C (λv H=>ajp kp K S θ tr v H):=by
  have h0:=h;obtain⟨K',S',bU,hK,hk⟩:=h;have hKn:=hk.n;have fW:∀r,K'.hold r≠0->live K'.N r:=λr hr=>(.inr (hK.ok.mid.held r hr));have hcap:=hK.ok.mid.cap;have hle:=hK.dU;have Ea:(rts K').length<=1048576:=by
    obtain⟨b,_,hO⟩:=hK.rep;have:=hO.ul;have h2:=xbU (λr=>decide (0<K'.hold r)) (List.range K'.ho.length);rw[xaF]at h2;show(List.filter _ _).length<=_;omega
  have wP:∀r,r∈rts K'↔K'.hold r≠0:=λr=>by
    unfold rts;rw[xb0,xaN,decide_eq_true_iff];constructor
    · rintro⟨_,h⟩;omega
    · intro h
      refine⟨xaD λh2=>h ?_,by omega⟩;unfold Kd.hold;rw[xas,xaB zO];rfl
  refine aJ λg=>Pk λb1 _=>?_;refine ah.aK (Br.no (ae.eq (ny h0) (ah.nV (b:=12) (Br.F (ae.fq (Nv hK) ?_)))));rintro vr H ⟨NR,rfl,hR⟩;have TT:di .u32 NR vr (iw (rts K')):=hR.ints;refine hR.bL ?_;rw[av];refine⟨λvs H=>∃(i:Nat) (s:zV) (L:an.Fs) (CS N:Hp),vs=[s,iv (i:Int)]/\i<=(rts K').length/\H=(b1,.cells #[iv 0,iv 0,iv 0,.bool false] 97 zZ)::(CS++(N++C))/\(∀x∈NR,x∈N)/\sI 175 s (M7 K'.n L) CS N/\L.length=i/\(∀t∈L,an.eU K'.n t)/\∀j t,L[j]? =some t->∃r,(rts K')[j]? =some r/\nW K'.n t=S' r,
    λvs _=>(rts K').length-bH vs 1,JE.mk ⟨0,_,[],[],NR,rfl,xaL _,rfl,λ_ h=>h,sI.nil,rfl,λt ht=>absurd ht (xaQ),λj t (hj:([]:List (zL))[j]? =some t)=>absurd hj (by rw[List.getElem?_nil];exact nofun)⟩,?_⟩
  rintro w20 w21 H ⟨i,s,L,CS,N,⟨⟩,hi,rfl,hN,hT,hLl,BQ,hLr⟩ gs;refine ah.eA (Br.dec (λη=>?_) (λhge=>?_))
  · refine TT.ld (n:=(((rts K')[i]:Nat):Int)) (dk (xab η)) (λx hx=>.tail _ (xaa _ (xad _ (hN x hx)))) ?_
    refine ae.fq (args:=#[γ kp,δ (rts K')[i]]) (OL hK zO (fW _ ((wP _).1 (xaK η)))) ?_;rintro w H ⟨Nt,t,rfl,rfl,ht⟩;obtain⟨sw,ws,rfl,hw,hf,he⟩:=FR ht;refine Ext.two λb29 _=>(St.p (c8 (bT hw)) ?_);refine aB.q ?_;refine xE λZA=>?_;have hT':sI 175 w20 (M7 K'.n L) CS (N++Nt):=hT.mono λ_ h=>xad _ h;refine sI.app hT' (A:=[(ZA,_),(b29,_),(b1,_)]) (B:=N++(Nt++C)) (t:=⟨(K'.n:Int),ws⟩) (by exact .head _) (hw.mono λ_ h=>xaa _ h) (by rw[qH];omega) λv' CS' hT2=>?_;refine ah.inc (aD.of (.skip .tail) ⟨i+1,v',L++[ws],CS',N++Nt,rfl,η,by rw[xag];rfl,λx hx=>xad _ (hN x hx),by unfold M7 at hT2⊢;rw[xaz];exact hT2,by rw[xaf,hLl];rfl,λt ht=>?_,λj t hj=>?_⟩ (by simp only[bH];omega))
    · rcases xao.1 ht with ht|ht
      · exact BQ t ht
      · rw[xaE.1 ht];exact hf
    · by_cases hji:j<L.length
      · rw[xaZ hji]at hj
        exact hLr j t hj
      · rw[xbW zO]at hj
        have:j=i:=by
          have:=(xah.1 hj).1;rw[xcm]at this;omega
        subst this;rw[hLl,xcX]at hj;simp at hj;subst hj;exact⟨_,xab η,he⟩
  have hi':i=(rts K').length:=by omega
  subst hi';rw[hKn]at hT BQ hLr;have oE:K.held S=FT K.n L:=by
    refine funext λg=>propext ?_;rw[<-hk.held g];constructor
    · rintro⟨r,hr,rfl⟩
      obtain⟨j,hj,e⟩:=xbc.1 ((wP r).2 hr);obtain⟨r2,q7,he⟩:=hLr j L[j] (xab zO);rw[xab hj,e]at q7;cases q7;exact⟨L[j],xaK _,he.symm⟩
    · rintro⟨t,ht,rfl⟩
      obtain⟨j,hj,e⟩:=xbc.1 ht;obtain⟨r2,q7,he⟩:=hLr j t (by rw[xab hj,e]);exact⟨r2,(wP r2).1 (xav q7),he⟩
  have η:=Lp hp;have hkz:cK K S θ=kU K.n θ L K.n:=by
    unfold cK;rw[oE];exact YH BQ zO η
  have TV:L.length<=1048576:=by omega
  refine ae.eq (cI h0) ?_;have hTb:jW (CS++N) w20 (M7 K.n L):=hT.agK (λ_ h=>xad _ h) (λ_ h=>xaa _ h);rw[<-xag];refine ae.pq (Yh hTb (by rw[qH];omega)) ?_;intro w NB hB;obtain⟨so,Y,hY,rfl,hI⟩:∃so Y,NB++(CS++N)=Y/\w=.tuple #[iv ((an.B K.n (an.lvl K.n L) 0:Nat):Int),so,iv 0]/\(L≠[]->di .i64 Y so (iw (an.θ K.n (an.lvl K.n L) K.n 0))):=by
    have hO:sJ (M7 K.n L):=DL BQ;rcases hB with⟨Γ,_⟩|⟨_,n2,L2,e,hz,_,hf2,hB⟩
    · exact absurd hO Γ
    by_cases j5:L=[]
    · subst j5
      have hL2:L2=[]:=by cases L2 with
        |nil=>rfl
        |cons a b=>simp[M7]at e
      subst hL2;obtain rfl:=hz rfl;have hB0:an.B K.n (an.lvl K.n []) 0=0:=by rw[<-tG zO zI];exact vP _
      rcases hB with⟨h,_⟩|⟨_,s2,C2,N2,rfl,_,_⟩
      · omega
      exact⟨s2,_,rfl,by rw[hB0];rfl,λh=>absurd rfl h⟩
    · have Xy:n2=K.n/\L2=L:=by
        cases L with
        |nil=>exact absurd rfl j5
        |cons a b=>
          cases L2 with
          |nil=>simp[M7]at e
          |cons a2 b2=>
            simp only[M7,xay,xaw,Tb.mk.injEq]at e;obtain⟨⟨e1,e2⟩,e3⟩:=e;have e1:n2=K.n:=by omega
            subst e1;refine⟨rfl,?_⟩;rw[e2];congr 1;refine((List.map_inj_right (f:=λws=>(⟨(K.n:Int),ws⟩:Tb)) ?_).1 e3).symm;intro x y hxy;simpa using hxy
      obtain⟨rfl,rfl⟩:=Xy;rcases hB with⟨h,_⟩|⟨_,s2,C2,N2,rfl,hown,hH⟩
      · omega
      exact⟨s2,_,rfl,rfl,λ_=>by rw[hH];exact hown.ints.mono λ_ h=>xad _ h⟩
  rw[hY];clear hB;refine Ext.mk rfl (Ext.mk rfl (Ext.mk rfl (ah.fc (Br.dec (λheq=>?_) (λξ=>?_)))))
  · refine Build.mk (cs:=[iv ((cK K S θ:Nat):Int),iv ((cK K S θ:Nat):Int),iv 0,.bool true]) zK (St.q ?_)
    refine aB.q ?_;exact aQ.mk (.skip .right) ⟨L,BQ,oE,TV,.inl ⟨heq,rfl,h0⟩⟩
  · have j5:L≠[]:=λe=>by
      subst e;refine ξ ?_;rw[hkz,<-tG zO zI,vP,vP]
    obtain⟨o,ho⟩:∃o,o=an.θ K.n (an.lvl K.n L) K.n 0:=⟨_,rfl⟩;have Δ:o.Perm (List.range K.n):=by rw[ho];exact tH _
    have hIo:=hI j5;rw[<-ho]at hIo;refine ae.fq (Sa h0 hIo hp Δ zO) ?_;rintro w H ⟨C2,rfl,hM⟩;have hpo:=(Bo (Δ.nodup_iff.2 xbh) (hp.trans Δ.symm)).1;rcases hM with⟨hc,rfl,hA⟩|⟨hc,rfl,hA⟩
    · rw[hpo]at hA
      refine Ext.two (ae.eq (cI hA) (ah.iD ?_));rw[xam rfl];refine Build.mk (cs:=[iv ((cK K S θ:Nat):Int),iv ((cK K S o:Nat):Int),iv (((Λ θ o).length:Nat):Int),.bool true]) zK (St.q ?_);refine aB.q ?_;exact aQ.mk (.skip .right) ⟨L,BQ,oE,TV,.inr ⟨ξ,o,_,ho,rfl,.inl ⟨hc,rfl,hA⟩⟩⟩
    · refine Ext.two (ae.eq (cI hA) (ah.iD ?_))
      rw[xan zD];refine Build.mk (cs:=[iv ((cK K S θ:Nat):Int),iv ((cK K S θ:Nat):Int),iv ((2*((rm K S).dJ 0 (Λ θ o) θ).length:Nat):Int),.bool false]) zK (St.q ?_);refine aB.q ?_;exact aQ.mk (.skip .right) ⟨L,BQ,oE,TV,.inr ⟨ξ,o,_,ho,rfl,.inr ⟨hc,rfl,hA⟩⟩⟩
end
end
section
open ax
section
variable {kp:Nat} {K:Kd} {S:Nat->ax.Fn} {θ tr:zL} {C:Hp} {Q:zV->Hp->Prop}
theorem RM{w:Nat}(hw:3<=w/\w<=5):Rd zQ 81 #[.int .u8 (w:Int)] C (· =iv ((w-1:Nat):Int)):=by
 refine aJ λg=>Pm ?_;refine ah.cj (b:=3) (bu.q (ah.fT (b:=2) (br.mk (.refl _) ?_)));rw[show w-3+2=w-1 by omega]
variable{gr:Nat}
theorem iF(h:At kp K S θ tr C){s:Nat}:Rd zQ 77 #[γ kp,.int .u8 (s:Int),iv (gr:Int)] C (· =iv (if 6<s\/gr<100\/1000<gr then 1 else if s=6/\12<K.n then 6 else 0)):=by
 refine aJ λg=>AP ?_;refine ah.aK (Br.no (ah.nV (b:=6) (dh.or (a:=decide (6<s)) (decide (gr<100)) (λ_=>ah.eA (b:=100) ⟨rfl,rfl⟩) rfl λ_=>?_)));refine dh.or (a:=decide (6<s)||decide (gr<100)) (decide (1000<gr)) (λ_=>ah.nV (b:=1000) ⟨rfl,rfl⟩) rfl λ_=>?_;rw[<-xa6,<-xa6];refine Br.dec (λhb=>?_) (λhb=>?_)
 ·rw[xae zO];exact br.mk (.refl _) rfl
 rw[xac zO];intro J9 h9;refine ah.fc (b:=6) ?_;by_cases hs:s=6
 ·rw[xam hs];refine Split.go rfl (ae.eq (ny h) (ah.nV (b:=12) (aG.mk (JE.mk (h9 _ _ λ_=>?_)))));show Br (.bool (decide (12<K.n))) _ _;refine Br.dec (λOv=>?_) (λOv=>?_)
  ·rw[xae ⟨hs,Ov⟩];exact br.mk (.refl _) rfl
  rw[xac zO];exact br.mk (.refl _) rfl
 rw[xan hs];refine Split.NG rfl (aG.mk (JE.mk (h9 _ _ λ_=>Br.no ?_)));rw[xac zO];exact br.mk (.refl _) rfl
def pF(a b c:Int)(d:Bool):∀u∈[Value.int .i64 a,iv b,iv c,.bool d],u.oneCell'=true:=λu hu=>by
 simp only[xak,xaQ,xbi]at hu;rcases hu with rfl|rfl|rfl|rfl<;>rfl
abbrev uK(a b c:Int)(d:Bool):zV:=.agg #[iv a,iv b,iv c,.bool d]
theorem RO(h:At kp K S θ tr C)(mQ:100<=gr/\gr<=1000)(hn:12<K.n):Rd zQ 45 #[γ kp,.int .u8 6,iv (gr:Int)] C (· =.tuple #[uK 0 0 0 false,iv 6]):=by
 refine aJ λg=>iS ?_;intro b1 _;refine ae.eq (iF h (s:=6)) ?_;rw[xac zO,xae ⟨rfl,hn⟩];refine ah.cM (Br.T (Build.mk (cs:=[iv 0,iv 0,iv 0,.bool false]) zK ?_));refine St.q ?_;refine aB.q ?_;exact br.mk .tail rfl
theorem RP(h:At kp K S θ tr C)(mQ:100<=gr/\gr<=1000)(hin:Fc zQ 78 #[γ kp,iv (gr:Int)] C Q)(hQ:∀v H,Q v H->∃(a b c:Int) (d:Bool) (e:zV),v=.tuple #[uK a b c d,e]):
  Fc zQ 45 #[γ kp,.int .u8 1,iv (gr:Int)] C Q:=by
 refine aJ λg=>iS ?_;intro b1 _;refine ae.eq (iF h (s:=1)) ?_;rw[xac zO,xac zO];refine ah.cM (Br.F (ah.fc (a:=1) (b:=1) (Br.yes (ae.fq hin ?_))));intro v H hv;obtain⟨a,b,c,d,e,rfl⟩:=hQ v H hv;refine Ext.two (St.p (pF a b c d) ?_);refine aB.q ?_;exact aQ.mk .tail hv
theorem Ga(h:At kp K S θ tr C)(mQ:100<=gr/\gr<=1000)(hin:Fc zQ 79 #[γ kp,iv (gr:Int)] C (λv H=>∃(a b c:Int) (d:Bool) (r:zV),v=.tuple #[uK a b c d,r,iv 0]/\Q (.tuple #[uK a b c d,iv 0]) H)):
  Fc zQ 45 #[γ kp,.int .u8 2,iv (gr:Int)] C Q:=by
 refine aJ λg=>iS ?_;intro b1 _;refine ae.eq (iF h (s:=2)) ?_;rw[xac zO,xac zO];refine ah.cM (Br.F (ah.fc (a:=2) (b:=1) (Br.no (ah.fc (a:=2) (b:=2) (Br.yes (ae.fq hin ?_))))));rintro v H ⟨a,b,c,d,r,rfl,hv⟩;refine Ext.mk rfl (Ext.mk rfl (Ext.mk rfl ?_));intro FB _;refine St.p (pF a b c d) ?_;refine aB.q ?_;refine St.p (pF a b c d) ?_;refine aB.q ?_;exact aQ.mk (.skip .tail) hv
theorem F9(h:At kp K S θ tr C){w:Nat}(hw:3<=w/\w<=5)(mQ:100<=gr/\gr<=1000)(hin:Fc zQ 80 #[γ kp,iv ((w-1:Nat):Int)] C Q)(hQ:∀v H,Q v H->∃(a b c:Int) (d:Bool) (e:zV),v=.tuple #[uK a b c d,e]):
  Fc zQ 45 #[γ kp,.int .u8 (w:Int),iv (gr:Int)] C Q:=by
 refine aJ λg=>iS ?_;intro b1 _;refine ae.eq (iF h (s:=w)) ?_;rw[xac zO,xac zO];refine ah.cM (Br.F (ah.fc (b:=1) (Br.F (ah.fc (b:=2) (Br.F ?_)))));intro J28 h28;have good:J28 [.bool true] ((b1,.cells #[iv 0,iv 0,iv 0,.bool false] 97 zZ)::C):=by
  refine h28 _ _ λ_=>Br.yes ?_;refine ae.eq (RM hw) (ae.fq hin ?_);intro v H hv;obtain⟨a,b,c,d,e,rfl⟩:=hQ v H hv;refine Ext.two (St.p (pF a b c d) ?_);refine aB.q ?_;exact aQ.mk .tail hv
 refine ah.fc (b:=3) (Br.dec (λe=>?_) (λe=>?_))
 ·rw[xam e];exact JE.mk good
 refine ah.fc (b:=4) (Br.dec (λe=>?_) (λe=>?_))
 ·rw[xam e];exact JE.mk good
 refine ah.fc (b:=5) ?_;rw[xam zO];exact JE.mk good
theorem Nq(h:At kp K S θ tr C)(hn:K.n<=12)(mQ:100<=gr/\gr<=1000)(hin:Fc zQ 82 #[γ kp] C Q)(hQ:∀v H,Q v H->∃(a b c:Int) (d:Bool) (e:zV),v=.tuple #[uK a b c d,e]):
  Fc zQ 45 #[γ kp,.int .u8 6,iv (gr:Int)] C Q:=by
 refine aJ λg=>iS ?_;intro b1 _;refine ae.eq (iF h (s:=6)) ?_;rw[xac zO,xac zO];refine ah.cM (Br.F (ah.fc (a:=6) (b:=1) (Br.no (ah.fc (a:=6) (b:=2) (Br.no ?_)))));intro J28 h28;refine ah.fc (a:=6) (b:=3) (Br.no (ah.fc (a:=6) (b:=4) (Br.no (ah.fc (a:=6) (b:=5) (JE.mk (h28 _ _ λ_=>Br.no ?_))))));refine ah.fc (a:=6) (b:=6) (Br.yes (ae.fq hin ?_));intro v H hv;obtain⟨a,b,c,d,e,rfl⟩:=hQ v H hv;refine Ext.two (St.p (pF a b c d) ?_);refine aB.q ?_;exact aQ.mk .tail hv
theorem RR(h:At kp K S θ tr C)(mQ:100<=gr/\gr<=1000):Rd zQ 45 #[γ kp,.int .u8 0,iv (gr:Int)] C (· =.tuple #[uK (cK K S θ:Nat) (cK K S θ:Nat) 0 false,iv 0]):=by
 refine aJ λg=>iS ?_;intro b1 _;refine ae.eq (iF h (s:=0)) ?_;rw[xac zO,xac zO];refine ah.cM (Br.F (ah.fc (a:=0) (b:=1) (Br.no (ah.fc (a:=0) (b:=2) (Br.no ?_)))));intro J28 h28;refine ah.fc (a:=0) (b:=3) (Br.no (ah.fc (a:=0) (b:=4) (Br.no (ah.fc (a:=0) (b:=5) (JE.mk (h28 _ _ λ_=>Br.no ?_))))));refine ah.fc (a:=0) (b:=6) (Br.no (ae.eq (cI h) (ae.eq (cI h) (Build.mk (cs:=[iv ((cK K S θ:Nat):Int),iv ((cK K S θ:Nat):Int),iv 0,.bool false]) zK ?_))));refine St.q ?_;refine aB.q ?_;exact br.mk .tail rfl
end
section
variable {C:Hp}
def swB(n s:Nat):Nat->Nat
 |1=>3*n*(n-1)
 |2=>3*n*(n-1)*(s+1)
 |3=>(n-1)*2
 |4=>(n-2)*10
 |5=>(n-3)*46
 |6=>n*(n-1)
 |_=>0
end
end
end Go.Proofs
namespace ax
section
variable{m:Rm}{g:Nat}
def Rm.z7(m:Rm)(θ Λ:zL):∀i,m.size (aA θ (Λ.take (m.keep θ Λ i)))=m.size θ->m.keep θ Λ i=0
 |0,_=>rfl
 |i+1,h=>by
  rw[keep]at h⊢;have h0:=m.wK θ Λ i 0 (xaL _);have h0:m.size (aA θ (Λ.take (m.keep θ Λ i)))<=m.size θ:=h0;split at h
  ·omega
  rename_i hn;rw[xac hn];exact m.z7 θ Λ i h
def Rm.FG(m:Rm)(w p:Nat)(θ:zL)(h:m.size (aA θ (m.visit w p θ).1)=m.size θ):(m.visit w p θ).1=[]:=by have:=m.z7 θ (m.dJ p (mI w) θ) (m.dJ p (mI w) θ).length h;show List.take _ _=[];rw[this];rfl
def Rm.C8(m:Rm)(w p:Nat)(θ:zL):(m.visit w p θ).2<=2*(mI w).length:=by have h1:=m.mF p (mI w) θ;show _+(_-_)<=_;omega
def Rm.AD(m:Rm)(w:Nat)(θ:zL):∀i,(m.all w θ i).2<=i*(2*(mI w).length)
 |0=>xaL _
 |i+1=>by
  have h1:=m.AD w θ i;have h2:=m.C8 w i (aA θ (m.all w θ i).1);show(m.all w θ i).2+(m.visit w i (aA θ (m.all w θ i).1)).2<=_;rw[xbr];omega
def we{p q:zL}(hq:q.Nodup)(hp:p.Perm q):∀i,i<=q.length->2*(ew p q i).length+i*i<=i*(2*p.length-1)
 |0,_=>by simp[ew]
 |i+1,hi=>by
  have:=we hq hp i zO;obtain⟨_,_,h3⟩:=kx hq hp i zO;have hl:=hp.length_eq;rw[ew,xaf,B4];have h4:=(h3 zO).2;have e1:(i+1)*(i+1)=i*i+i+i+1:=by rw[xbr,Nat.mul_succ];omega
  have e2:(i+1)*(2*p.length-1)=i*(2*p.length-1)+(2*p.length-1):=xbr _ _;rw[e1,e2];omega
def Gi{p q:zL}{n:Nat}(hq:q.Nodup)(hp:p.Perm q)(hn:q.length=n):2*(Λ p q).length<=n*(n-1):=by
 have:=we hq hp q.length (xai _);have hl:=hp.length_eq;rw[hl,hn]at this;unfold Λ;rw[hn];cases n with
 |zero=>simpa using this
 |succ k=>
  rw[show 2*(k+1) -1=(k+1)+k by omega,xdF (k+1) (k+1) k]at this;show 2*(ew p q (k+1)).length<=(k+1)*k;omega
structure uC(m:Rm)(θ:zL)(ls:zL):Prop where
 mem:∀x∈ls,x+1<m.n
 le:m.size (aA θ ls)<=m.size θ
 len:ls.length+66*m.size (aA θ ls)<=66*m.size θ
variable{θ:zL}
def uC.nil:uC m θ []:=⟨by simp,xai _,by simp[aA]⟩
def uC.of{ls:zL}(h1:∀x∈ls,x+1<m.n)(h2:m.size (aA θ ls)<=m.size θ)(h3:m.size (aA θ ls)=m.size θ->ls=[])(h4:ls.length<=66):uC m θ ls:=by
 refine⟨h1,h2,?_⟩;by_cases e:m.size (aA θ ls)=m.size θ
 ·rw[h3 e];simp[aA]
 omega
def Du(hn:m.n<=64):∀{l θ:zL},θ.Perm (List.range m.n)->(∀v∈l,v<m.n)->(m.cr g θ l).1.length+66*m.size (aA θ (m.cr g θ l).1)<=66*m.size θ
 | [],θ,hp,hl=>by simp[Rm.cr,aA]
 |v::l,θ,hp,hl=>by
  have hv:=GL hp (hl v zI);obtain⟨a1,a2,a3,a4⟩:=m.Bg g (θ:=θ) hv;have hin:=Lj hv a1;have ih:=Du hn (l:=l) (θ:=aA θ (Θ (θ.idxOf v) (m.sW g θ (θ.idxOf v)).1)) (mX hp hin) (λx hx=>hl x (by simp[hx]));have Ea:=vX (θ.idxOf v) (m.sW g θ (θ.idxOf v)).1;rw[Rm.cr];simp only;rw[cq,xaf];by_cases e:m.size (aA θ (Θ (θ.idxOf v) (m.sW g θ (θ.idxOf v)).1))=m.size θ
  ·have e2:=a3 e;rw[e2,gJ]at ih Ea⊢;simpa[aA]using ih
  omega
def qK{l:zL}(hp:θ.Perm (List.range m.n))(hl:l.Perm (List.range m.n))(hn:m.n<=64):uC m θ (m.cr g θ l).1/\(m.cr g θ l).2<=3*m.n*(m.n-1):=by
 have η:∀v∈l,v<m.n:=λv hv=>xaN.1 (hl.mem_iff.1 hv);have h:=m0 (m:=m) (g:=g) (l:=l) hp η;have nL:l.length=m.n:=by rw[hl.length_eq,xaF]
 obtain⟨h1,h2,h3,h4,h5⟩:=h;rw[nL]at h4;exact⟨⟨h1,h2,Du hn hp η⟩,by rw[xcQ,xcn m.n,<-xcQ];exact h4⟩
def vL(hn:m.n<=64):∀{ls:List (zL)} {θ:zL},θ.Perm (List.range m.n)->(∀l∈ls,l.Perm (List.range m.n))->m.oK g θ ls->uC m θ (m.cR g θ ls).1
 | [],θ,hp,hl,hg=>hg.elim
 | [l],θ,hp,hl,hg=>by
  have e:(m.cR g θ [l]).1=(m.cr g θ l).1++[]:=rfl;rw[e,xaI];exact(qK hp (hl l zI) hn).1
 |l::l2::r,θ,hp,hl,hg=>by
  obtain⟨g1,g2⟩:=(rf zI).1 hg;have a:=(qK (g:=g) hp (hl l zI) hn).1;have ih:=vL hn (ls:=l2::r) (mX hp a.mem) (λx hx=>hl x (by simp[xak.1 hx])) g2;have e:(m.cR g θ (l::l2::r)).1=(m.cr g θ l).1++(m.cR g (aA θ (m.cr g θ l).1) (l2::r)).1:=rfl;rw[e];have a1:=a.le;have a2:=a.len;have b1:=ih.le;have b2:=ih.len;refine⟨λx hx=>(xao.1 hx).elim (a.mem x) (ih.mem x),by rw[cq];omega,by rw[cq,xaf];omega⟩
def FU{ls:List (zL)}(hp:θ.Perm (List.range m.n))(hl:∀l∈ls,l.Perm (List.range m.n))(hg:m.oK g θ ls):(m.cR g θ ls).2<=3*m.n*(m.n-1)*(m.size θ+1):=by
 have h:=Lc hp hl hg;have h1:=h.Z9.2;have h2:=h.vI;have e:3*(m.n-1)*m.n=3*m.n*(m.n-1):=by rw[xcQ,xcn (m.n-1),<-xcQ]
 rw[e]at h2;exact xbT h2 (xcy _ zO)
def Rm.E5(m:Rm)(w:Nat)(θ:zL):∀i,(m.all w θ i).1.length+66*m.size (aA θ (m.all w θ i).1)<=66*m.size θ
 |0=>by simp[Rm.all,aA]
 |i+1=>by
  have e:(m.all w θ (i+1)).1=(m.all w θ i).1++(m.visit w i (aA θ (m.all w θ i).1)).1:=rfl;have ih:=m.E5 w θ i;have h1:=m.Db w i (aA θ (m.all w θ i).1);have h2:=m.FG w i (aA θ (m.all w θ i).1);have h3:=(m.sP w i (aA θ (m.all w θ i).1)).1;rw[e,cq,xaf];by_cases e2:m.size (aA (aA θ (m.all w θ i).1) (m.visit w i (aA θ (m.all w θ i).1)).1)=m.size (aA θ (m.all w θ i).1)
  ·rw[h2 e2];simpa[aA]using ih
  omega
def FW{w:Nat}(hw:2<=w/\w<=4)(hn:m.n<=64):uC m θ (m.pass w θ).1/\(m.pass w θ).2<=(m.n+1-w)*(2*(mI w).length):=by
 refine⟨⟨λx hx=>?_,m.U0 w θ _,m.E5 w θ _⟩,m.AD w θ _⟩;by_cases e:m.n+1-w=0
 ·have hx:x∈(m.all w θ (m.n+1-w)).1:=hx;rw[e]at hx;exact absurd hx xaQ
 have:=m.Mq hx;omega
end
open an
variable {n:Nat}
def sat(n:Nat)(f:Fn):Nat:=(List.range (2^n)).countP f
def flip(v x:Nat):Nat:=aC x v (!x.testBit v)
def flip_flip(v x:Nat):flip v (flip v x)=x:=by unfold flip;rw[ak,xae rfl,pB];simpa using iE x v
def LZ{v x:Nat}(hv:v<n)(hx:x<2^n):flip v x<2^n:=gp hx hv
def Oy{v:Nat}(hv:v<n):((List.range (2^n)).map (flip v)).Perm (List.range (2^n)):=by
 refine(xc0 ?_ xbh).2 λx=>?_
 ·refine xbN.2 (xbh.imp λ{a b} h e=>h ?_);rw[<-flip_flip v a,e,flip_flip]
 rw[xal];constructor
 ·rintro⟨y,hy,rfl⟩;exact xaN.2 (LZ hv (xaN.1 hy))
 intro hx;exact⟨flip v x,xaN.2 (LZ hv (xaN.1 hx)),flip_flip v x⟩
def xw{f g p q:Nat->Bool}(h:∀x,(p x).toNat+(q x).toNat=(f x).toNat+(g x).toNat):∀l:zL,l.countP p+l.countP q=l.countP f+l.countP g
 | []=>rfl
 |x::l=>by
  have:=h x;have:=xw h l;simp only[List.countP_cons];cases hp:p x<;>cases hq:q x<;>cases hf:f x<;>cases hg:g x<;>simp_all<;>omega
def RL{v:Nat}(hv:v<n)(f:Fn):sat n (λx=>f (aC x v false))+sat n (λx=>f (aC x v true))=2*sat n f:=by
 unfold sat;rw[xw (f:=f) (g:=λx=>f (flip v x)) (λx=>?_)]
 ·have:List.countP (λx=>f (flip v x)) (List.range (2^n))=List.countP f (List.range (2^n)):=by
   have h:=(Oy hv).countP_eq f;rw[xeM]at h;exact h
  omega
 unfold flip;have:=iE x v;cases hb:x.testBit v<;>rw[hb]at this<;>simp only[xcE,xct]<;>rw[this]<;>omega
def sX:sat n (λ_=>false)=0:=by simp[sat]
def sat_true:sat n (λ_=>true)=2^n:=by simp[sat]
variable {N:eM} {S:Nat->Fn} {ai:Nat->Nat}
def RK(h:WF n ai N)(hl:jY n ai)(hi:Interp N S){r a b:Nat}{d:Nd}(hd:N r=some d)(hv:d.v<n)(ha:a*2^ι n ai N d.lo=sat n (S d.lo))(hb:b*2^ι n ai N d.hi=sat n (S d.hi)):
  (a*2^(ι n ai N d.lo-ai d.v-1)+b*2^(ι n ai N d.hi-ai d.v-1))*2^ι n ai N r=sat n (S r):=by
 have h1:=(h.lo hd).2;have h2:=(h.hi hd).2;rw[au hd];have e1:(λx=>S r (aC x d.v false))=S d.lo:=by
  have:=(gy h hl hi (r:=r) (.inr ⟨d,hd⟩) hv (by rw[au hd];exact xai _) false);rw[(k8 hd).1]at this;exact(funext this.1).symm
 have e2:(λx=>S r (aC x d.v true))=S d.hi:=by
  have:=(gy h hl hi (r:=r) (.inr ⟨d,hd⟩) hv (by rw[au hd];exact xai _) true);rw[(k8 hd).2]at this;exact(funext this.1).symm
 have hh:=RL hv (S r);rw[e1,e2,<-ha,<-hb]at hh;have p1:2^ι n ai N d.lo=2^(ι n ai N d.lo-ai d.v-1)*(2*2^ai d.v):=by
  rw[<-Nat.pow_succ',<-xdE];congr 1;omega
 have p2:2^ι n ai N d.hi=2^(ι n ai N d.hi-ai d.v-1)*(2*2^ai d.v):=by
  rw[<-Nat.pow_succ',<-xdE];congr 1;omega
 rw[p1,p2]at hh;rw[<-xcQ a,<-xcQ b,<-xd1,Nat.mul_left_comm]at hh;omega
end ax
set_option maxRecDepth 100000
namespace Go.Proofs
open Go Go.Sx
section
open ax
def Wz{P:Program}{f:FuncId}{args:Array zV}{B:Hp}{Q:zV->Prop}(h:Px P f args B (λv _=>Q v)):Rd P f args B Q:=λg=>(h g).mono λe H h=>by
 obtain⟨v,H2,rfl,he,hg,hq⟩:=h;exact⟨v,B,rfl,he.trans hg.dO,rfl,hq⟩
def ah.afn{a b:Nat}{k:zV->Prop}(h:k (.int .u64 (((a+b)%18446744073709551616:Nat):Int))):ah .num .add (.int .u64 (a:Int)) (.int .u64 (b:Int)) k:=by
 apply ah.add;rw[wrap_u64];have:(((a:Int)+(b:Int))%18446744073709551616)=((((a+b)%18446744073709551616:Nat)):Int):=by omega
 rw[this];exact h
section
variable {kp:Nat} {K:Kd} {S:Nat->ax.Fn} {θ ai tr:zL} {C:Hp}
def pW(r:Nat)(B:Hp):Rd zQ 124 #[δ r] B (· =.bool (decide (r<2))):=by refine aJ λg=>Kk (ah.fc (b:=0) (dh.or (a:=decide (r=0)) (decide (r=1)) (λ_=>ah.fc (b:=1) ⟨rfl,rfl⟩) rfl λ_=>?_));apply br.mk (.refl _);rw[<-xa6];congr 1;exact xb1.2 zO
theorem UF(h:bS kp K S θ ai tr C){r v:Nat}(hr:live K.N r)(hv:v<18446744073709551616):
  Rd zQ 87 #[γ kp,δ r,.int .u64 (v:Int)] C (· =.tuple #[.bool (S r v),iv 0]):=by
 have tt:K.n<=64:=h.bg.mq;refine aJ λg=>Pg (aq.int (e:=78) zK zK zK λbx=>?_);refine ae.eh .here (Wz (xC (X:=[(bx,_)]) (rs:=[r]) h (di.block (by exact .head _) zI) (λx hx=>by rw[xaE.1 hx];exact hr) zI)) (ah.cM (Br.F (⟨λvs H=>∃q:Nat,vs=[δ q]/\H=C/\live K.N q/\S q v=S r v,λvs _=>K.n-ι K.n (lv ai) K.N (bH vs 0),JE.of .tail ⟨r,rfl,rfl,hr,rfl⟩,?_⟩)));rintro w H ⟨q,⟨⟩,rfl,hq,he⟩ gs;refine ae.eq (pW q _) (Un.not (Br.mk (λhb=>?_) (λhb=>?_)))
 ·have h2:2<=q:=by simpa using hb
  obtain⟨d,hN⟩:∃d,K.N q=some d:=by
   rcases hq with hq|hq
   ·omega
   exact hq
  have kQ:=h.ok.mid.var hN;have hlo:=h.ok.wf.lo hN;have hhi:=h.ok.wf.hi hN;have hvl:=h.ok.lv.lt _ kQ;refine ae.eh .here (Wz (xz (X:=[]) h hN)) λsN _=>?_;refine St.p (fN d) ?_;refine Ld.f ?_;refine Ld.f ?_;refine ah.iW (by simpa[bI]using hv) (ah.jU (by simp[bI];exact xaC (xbm _ _) hv) zD (ah.fc (b:=1) ?_));rw[xbX];rw[BX];have LM:=h.ok.mid.int.node hN v;refine Br.mk (λhb=>?_) (λhb=>?_)
  ·rw[hb,xae rfl]at LM;refine Ld.f ?_;refine aD.of .tail ⟨d.hi,rfl,rfl,hhi.1,LM.symm.trans he⟩ ?_;show K.n-ι K.n (lv ai) K.N d.hi<K.n-ι K.n (lv ai) K.N q;rw[au hN];omega
  rw[hb,xac zD]at LM;refine aD.of .tail ⟨d.lo,rfl,rfl,hlo.1,LM.symm.trans he⟩ ?_;show K.n-ι K.n (lv ai) K.N d.lo<K.n-ι K.n (lv ai) K.N q;rw[au hN];omega
 have h2:q<2:=by simpa using hb
 refine ah.fc (b:=1) (br.mk (.refl _) ?_);rw[<-he];have hint:=h.ok.mid.int;have:q=0\/q=1:=by omega
 rcases this with rfl|rfl
 ·rw[hint.zero];rfl
 rw[hint.one];rfl
end
end
section
open ax
section
variable {kp mb b1 b9 c9 c1 c3 OQ:Nat} {K:Kd} {S:Nat->ax.Fn} {θ ai tr:zL} {C Z:Hp}
abbrev Ch:Nat:=18446744073709551616
abbrev χ(x:Nat):zV:=.int .u64 (x:Int)
variable{r:Nat}
def xy(h:bS kp K S θ ai tr C){d:Nd}(hd:K.N r=some d):Rd zQ 125 #[γ kp,δ r] C (· =.agg (bB d).toArray):=Wz (xz (X:=[]) h hd)
def xB(h:bS kp K S θ ai tr C){X:Hp}{b:Nat}(hm:(b,Obj.cells (az .u32 [(r:Int)]) 78 zZ)∈X)(hr:live K.N r):Rd zQ 123 #[γ kp,.slice (some ⟨b,0,none⟩) 1 1] (X++C) (· =iv 0):=
 Wz (xC (X:=X) (rs:=[r]) h (di.block (xad _ hm) zI) (λx hx=>by rw[xaE.1 hx];exact hr) zI)
def cw(K:Kd)(ai:zL)(S:Nat->ax.Fn)(r:Nat):Nat:=sat K.n (S r) /2^ι K.n (lv ai) K.N r
def sC(h:bS kp K S θ ai tr C){r:Nat}(hr:r<2):cw K ai S r=r:=by
 have hi:=h.ok.mid.int;have h0:K.N r=none:=by
  cases hN:K.N r with
  |none=>rfl
  |some d=>have:=h.ok.mid.two hN;omega
 unfold cw;rw[aV h0];have:r=0\/r=1:=by omega
 rcases this with rfl|rfl
 ·rw[show S 0=λ_=>false from funext hi.zero,sX,Nat.zero_div]
 rw[show S 1=λ_=>true from funext hi.one,sat_true,Nat.div_self (xbx _)]
def Uu(h:bS kp K S θ ai tr C):∀(k r:Nat),K.n-ι K.n (lv ai) K.N r<=k->live K.N r->cw K ai S r*2^ι K.n (lv ai) K.N r=sat K.n (S r)/\
  (∀d,K.N r=some d->cw K ai S r=cw K ai S d.lo*2^(ι K.n (lv ai) K.N d.lo-lv ai d.v-1)+cw K ai S d.hi*2^(ι K.n (lv ai) K.N d.hi-lv ai d.v-1)):=by
 have hi:=h.ok.mid.int;intro k;induction k with
 |zero=>
  intro r hk hr;cases hN:K.N r with
  |some d=>
   rw[au hN]at hk;have:=h.ok.lv.lt _ (h.ok.mid.var hN);omega
  |none=>
   have h2:r<2:=by
    rcases hr with hr|⟨d,e⟩
    ·exact hr
    rw[hN]at e;cases e
   refine⟨?_,λd hd=>by cases hd⟩;rw[sC h h2,aV hN];have:r=0\/r=1:=by omega
   rcases this with rfl|rfl
   ·rw[show S 0=λ_=>false from funext hi.zero,sX,xec]
   rw[show S 1=λ_=>true from funext hi.one,sat_true,xdn]
 |succ k ih=>
  intro r hk hr;cases hN:K.N r with
  |none=>
   rw[aV hN]at*;have h2:r<2:=by
    rcases hr with hr|⟨d,e⟩
    ·exact hr
    rw[hN]at e;cases e
   refine⟨?_,λd hd=>by cases hd⟩;rw[sC h h2];have:r=0\/r=1:=by omega
   rcases this with rfl|rfl
   ·rw[show S 0=λ_=>false from funext hi.zero,sX,xec]
   rw[show S 1=λ_=>true from funext hi.one,sat_true,xdn]
  |some d=>
   have hlo:=h.ok.wf.lo hN;have hhi:=h.ok.wf.hi hN;have hvl:=h.ok.lv.lt _ (h.ok.mid.var hN);have e1:=au (n:=K.n) (ai:=lv ai) hN;have q:=RK h.ok.wf h.ok.lv hi hN (h.ok.mid.var hN) (ih d.lo zO hlo.1).1 (ih d.hi zO hhi.1).1;have e2:cw K ai S r=cw K ai S d.lo*2^(ι K.n (lv ai) K.N d.lo-lv ai d.v-1)+cw K ai S d.hi*2^(ι K.n (lv ai) K.N d.hi-lv ai d.v-1):=by
    show sat K.n (S r) /_=_;rw[<-q,Nat.mul_div_cancel _ (xbx _)]
   exact⟨by rw[e2];exact q,λd' hd=>by cases hd;exact e2⟩
def sV(h:bS kp K S θ ai tr C)(hr:live K.N r)(h1:(b1,Obj.cells #[γ kp] 53 zZ)∈Z):
  Rd zQ 126 #[δ r,γ b1] (Z++C) (· =iv ((ι K.n (lv ai) K.N r:Nat):Int)):=by
 have qs:=xad C h1;refine aJ λg=>Kh (ae.eq (pW r _) (Br.mk (λhb=>?_) (λhb=>?_)))
 ·have h2:r<2:=xb5 hb;apply Ld.mk qs rfl;refine ae.eq (gY h.rep) (br.mk (.refl _) ?_);have h0:K.N r=none:=by
   cases hN:K.N r with
   |none=>rfl
   |some d=>have:=h.ok.mid.two hN;omega
  rw[aV h0]
 have h2:¬r<2:=xdj hb;obtain⟨d,hN⟩:∃d,K.N r=some d:=by
  rcases hr with hr|hr
  ·omega
  exact hr
 have kQ:=h.ok.mid.var hN;refine DR.of (.refl _) (Ld.mk qs rfl ?_);apply Ld.mk qs rfl;intro F;refine ae.eq (args:=#[γ kp,δ r]) (xy h hN) (⟨.refl _,?_⟩);apply CY.mk (ο:=0) (cs:=(bB d).toArray) (v:=iv (d.v:Int)) rfl;intro F;refine ae.eq (args:=#[γ kp,iv (d.v:Int)]) (mB h.rep _) (⟨.refl _,?_⟩);rw[xae ⟨by omega,by omega⟩];refine Ext.two (br.mk (.refl _) ?_);rw[au hN];rfl
def Bf(a k:Nat):((a%Ch)<<<k)%Ch=(a*2^k)%Ch:=by rw[xcp,Nat.mod_mul_mod]
def Wt(h:bS kp K S θ ai tr C){d:Nd}(hN:K.N r=some d)(h1:(b1,Obj.cells #[γ kp] 53 zZ)∈Z)(h9:(b9,Obj.cells #[.func (.func 126) #[] #[γ b1]] 182 zZ)∈Z):
  Rd zQ 128 #[.agg (bB d).toArray,χ (cw K ai S d.lo%Ch),χ (cw K ai S d.hi%Ch),γ b1,γ b9] (Z++C) (· =χ (cw K ai S r%Ch)):=by have qs:=xad C h1;have Zr:=xad C h9;have kQ:=h.ok.mid.var hN;have hlo:=h.ok.wf.lo hN;have hhi:=h.ok.wf.hi hN;have hn:=h.bg.mq;have hdl:=h.ok.wf.iN h.ok.lv d.lo;have hdh:=h.ok.wf.iN h.ok.lv d.hi;refine aJ λg=>Kf λc1 _=>?_;apply Ld.mk (.tail _ qs) rfl;refine Ld.f (v:=iv (d.v:Int)) (ae.eq (mB h.rep _) ?_);rw[xae ⟨by omega,by omega⟩];refine Ext.two (DR.of (.refl _) (Ld.mk (.tail _ Zr) rfl ?_));refine Ld.f (v:=δ d.lo) (Ld.mk (.tail _ Zr) rfl ?_);refine Ld.f (v:=δ d.hi) λF=>?_;refine aM.of rfl zK (ae.eq (args:=#[δ d.lo,γ b1]) (sV (Z:=Z) h hlo.1 h1) (⟨.refl _,?_⟩));rw[xbe];show ah _ _ (iv ((ι K.n (lv ai) K.N d.lo:Nat):Int)) (iv ((lv ai d.v:Nat):Int)) _;refine ah.cj (ah.cj (b:=1) (ah.oc λF=>(aM.of rfl zK (ae.eq (args:=#[δ d.hi,γ b1]) (sV (Z:=Z) h hhi.1 h1) ?_))));show ah _ _ (iv ((ι K.n (lv ai) K.N d.hi:Nat):Int)) (iv ((lv ai d.v:Nat):Int)) _;refine ah.cj (ah.cj (b:=1) (ah.oc (ah.afn (br.mk .tail ?_))));rw[Bf,Bf,<-Nat.add_mod,(Uu h K.n r (xdA _ _) (.inr ⟨d,hN⟩)).2 d hN]
structure KnS(K:Kd)(ai:zL)(S:Nat->ax.Fn)(es:Array MapEntry)(ck:Nat)(m:List (Nat×Nat)):Prop where
 dO:aI kr (λv (x:Nat)=>v=χ x) es ck m
 val:∀r x,aN m r=some x->x=cw K ai S r%Ch
 low:∀r,r<2->aN m r≠none
theorem Np(h:bS kp K S θ ai tr C)(h9:(c9,Obj.cells #[.map (some mb)] 254 zZ)∈Z)(h1:(c1,Obj.cells #[γ kp] 53 zZ)∈Z)(h3:(c3,Obj.cells #[.func (.func 128) #[] #[γ b1,γ b9]] 187 zZ)∈Z)
 (Ov:(OQ,Obj.cells #[.func (.func 193) #[] #[γ c9,γ c1,γ c3,γ OQ]] 255 zZ)∈Z)(hb1:(b1,Obj.cells #[γ kp] 53 zZ)∈Z)(hb9:(b9,Obj.cells #[.func (.func 126) #[] #[γ b1]] 182 zZ)∈Z):
  ∀(k r:Nat) (es:Array MapEntry) (ck:Nat) (m:List (Nat×Nat)),K.n-ι K.n (lv ai) K.N r<=k->live K.N r->KnS K ai S es ck m->
  Fc zQ 193 #[δ r,γ c9,γ c1,γ c3,γ OQ] ((mb,.map es ck)::(Z++C)) (λv H=>v=χ (cw K ai S r%Ch)/\∃τ bF m',H=(mb,.map τ bF)::(Z++C)/\KnS K ai S τ bF m'):=by
 have hit:∀{r:Nat} {es:Array MapEntry} {ck:Nat} {m:List (Nat×Nat)} {x:Nat},KnS K ai S es ck m->aN m r=some x->
   Fc zQ 193 #[δ r,γ c9,γ c1,γ c3,γ OQ] ((mb,.map es ck)::(Z++C)) (λv H=>v=χ (cw K ai S r%Ch)/\∃τ bF m',H=(mb,.map τ bF)::(Z++C)/\KnS K ai S τ bF m'):=by
  intro r es ck m x hm hv;refine aJ λg=>x7 (Ld.mk (v:=.map (some mb)) (.tail _ (xad _ h9)) rfl ?_);refine hm.dO.hit (k:=r) dc (b:=mb) (by exact .head _) hv λv' e=>?_;subst e;exact Ext.two (Br.yes (aQ.mk (.refl _) ⟨by rw[hm.val r x hv],es,ck,m,rfl,hm⟩))
 intro k;induction k with
 |zero=>
  intro r es ck m hk hr hm;have q7:r<2:=by
   cases hN:K.N r with
   |some d=>
    rw[au hN]at hk;have:=h.ok.lv.lt _ (h.ok.mid.var hN);omega
   |none=>
    rcases hr with hr|⟨d,e⟩
    ·exact hr
    rw[hN]at e;cases e
  cases hv:aN m r with
  |none=>exact absurd hv (hm.low r q7)
  |some v=>exact hit hm hv
 |succ k ih=>
  intro r es ck m hk hr hm;cases hv:aN m r with
  |some v=>exact hit hm hv
  |none=>
  have q7:¬r<2:=λh2=>hm.low r h2 hv;obtain⟨d,hN⟩:∃d,K.N r=some d:=by
   rcases hr with hr|hr
   ·omega
   exact hr
  have hlo:=h.ok.wf.lo hN;have hhi:=h.ok.wf.hi hN;rw[au hN]at hk;have hvl:=h.ok.lv.lt _ (h.ok.mid.var hN);refine aJ λg=>x7 (Ld.mk (v:=.map (some mb)) (.tail _ (xad _ h9)) rfl ?_);refine hm.dO.bR (k:=r) dc (b:=mb) (by exact .head _) hv ?_;refine Ext.two (Br.no (Ld.mk (v:=γ kp) (.tail _ (xad _ h1)) rfl ?_));refine ae.eq (args:=#[γ kp,δ r]) (xy h hN) λb8 _=>?_;refine St.p (fN d) ?_;refine DR.of (R:=(b8,Obj.cells (bB d).toArray 144 zZ)::Z) (.cons (.skip .left)) (Ld.mk (v:=.func (.func 128) #[] #[γ b1,γ b9]) (.tail _ h3) rfl ?_);refine aB.q ?_;refine Ld.mk (v:=.func (.func 193) #[] #[γ c9,γ c1,γ c3,γ OQ]) (.tail _ Ov) rfl ?_;refine Ld.f (v:=δ d.lo) (Ld.mk (v:=.func (.func 193) #[] #[γ c9,γ c1,γ c3,γ OQ]) (.tail _ Ov) rfl ?_);refine Ld.f (v:=δ d.hi) λF=>?_;refine aM.of rfl zK (ae.fq (args:=#[δ d.lo,γ c9,γ c1,γ c3,γ OQ]) (ih d.lo es ck m zO hlo.1 hm) ?_);rintro v1 H ⟨rfl,kR,j7,m1,rfl,uO⟩;refine⟨.cons (.skip .left),?_⟩;intro F;refine aM.of rfl zK (ae.fq (args:=#[δ d.hi,γ c9,γ c1,γ c3,γ OQ]) (ih d.hi kR j7 m1 zO hhi.1 uO) ?_);rintro v2 H ⟨rfl,ic,iO,m2,rfl,mC⟩;refine⟨.cons (.skip .left),?_⟩;intro F;refine aM.of rfl zK (ae.eq (args:=#[.agg (bB d).toArray,χ (cw K ai S d.lo%Ch),χ (cw K ai S d.hi%Ch),γ b1,γ b9]) (Wt (Z:=Z) h hN hb1 hb9) (Ld.mk (v:=.map (some mb)) (.tail _ (.tail _ (xad _ h9))) rfl ?_));refine mC.dO.bt (k:=r) (b:=mb) (x:=cw K ai S r%Ch) dc gZ rfl λpT rF he=>⟨_,.tail (.head _),?_⟩;refine aQ.mk .tail ⟨rfl,pT,rF,_,rfl,he,λr' x' oC=>?_,λr' hr'=>?_⟩
  ·rw[bP]at oC;split at oC
   ·rename_i e;subst e;cases oC;rfl
   exact mC.val r' x' oC
  rw[bP];split
  ·simp
  exact mC.low r' hr'
theorem Ux(h:bS kp K S θ ai tr C)(hr:live K.N r):
  Rd zQ 89 #[γ kp,δ r] C (· =.tuple #[χ (sat K.n (S r)%Ch),iv 0]):=by
 have hi:=h.ok.mid.int;refine aJ λg=>Pe λb1 _=>?_;refine Ld.q ?_;refine aq.int (e:=78) zK zK zK λbx=>?_;refine ae.eh .here (xB (X:=[(bx,_),(b1,_)]) h (by exact .head _) hr) (ah.cM (Br.F λb9 _=>(St.one (c':=#[.func (.func 126) #[] #[γ b1]]) (by exact .head _) rfl zI rfl ?_)));refine Ld.q ?_;refine ae.fq (args:=#[γ kp,δ r,χ 0,χ 1,.func (.func 128) #[] #[γ b1,γ b9]]) (C:=(b9,Obj.cells #[.func (.func 126) #[] #[γ b1]] 182 zZ)::(bx,_)::(b1,Obj.cells #[γ kp] 53 zZ)::C) (Q:=λv H=>v=χ (cw K ai S r%Ch)/\H=(b9,Obj.cells #[.func (.func 126) #[] #[γ b1]] 182 zZ)::(bx,Obj.cells (az .u32 [(r:Int)]) 78 zZ)::(b1,Obj.cells #[γ kp] 53 zZ)::C) (aJ λg=>Kg ?_) ?_
 ·intro c1 _ c3 _ mb _;refine aI.bt (ke:=kr) (vr:=λv (x:Nat)=>v=χ x) (k:=0) (b:=mb) (x:=0) dc gZ aI.empty rfl λkR j7 GZ=>⟨_,.head _,?_⟩;refine aI.bt (ke:=kr) (vr:=λv (x:Nat)=>v=χ x) (k:=1) (b:=mb) (x:=1) dc gZ GZ rfl λic iO VG=>⟨_,.head _,?_⟩;intro c9 _;refine St.one (c':=#[.map (some mb)]) (by exact .head _) rfl zI rfl ?_;intro OQ _;refine St.one (c':=#[.func (.func 193) #[] #[γ c9,γ c1,γ c3,γ OQ]]) (by exact .head _) rfl zI rfl ?_;refine Ld.q ?_;refine aM.of rfl zK ?_;obtain⟨Z,hZ⟩:∃Z:Hp,Z=[(OQ,Obj.cells #[.func (.func 193) #[] #[γ c9,γ c1,γ c3,γ OQ]] 255 zZ),(c9,.cells #[.map (some mb)] 254 zZ),(c3,.cells #[.func (.func 128) #[] #[γ b1,γ b9]] 187 zZ),(c1,.cells #[γ kp] 53 zZ),
   (b9,Obj.cells #[.func (.func 126) #[] #[γ b1]] 182 zZ),(bx,Obj.cells (az .u32 [(r:Int)]) 78 zZ),(b1,Obj.cells #[γ kp] 53 zZ)]:=⟨_,rfl⟩
  refine ae.pre (H':=(mb,Obj.map ic iO)::(Z++C)) (.perm ?_) ?_
  ·rw[hZ];exact(List.Perm.cons _ (List.Perm.swap _ _ _)).trans (List.Perm.swap _ _ _)
  refine ae.fq (args:=#[δ r,γ c9,γ c1,γ c3,γ OQ]) (Np (Z:=Z) (b1:=b1) (b9:=b9) h (by rw[hZ];exact .tail _ (.head _)) (by rw[hZ];exact .tail _ (.tail _ (.tail _ (.head _)))) (by rw[hZ];exact .tail _ (.tail _ (.head _))) (by rw[hZ];exact .head _) (by rw[hZ];exact .tail _ (.tail _ (.tail _ (.tail _ (.tail _ (.tail _ (.head _))))))) (by rw[hZ];exact .tail _ (.tail _ (.tail _ (.tail _ (.head _))))) K.n r ic iO _ (xdA _ _) hr ⟨VG,λr' x hm=>?_,λr' hr'=>?_⟩) ?_
  ·rw[bP,bP]at hm;split at hm
   ·rename_i e;subst e;cases hm;rw[sC h zD];rfl
   split at hm
   ·rename_i e;subst e;cases hm;rw[sC h zD];rfl
   simp[aN]at hm
  ·rw[bP,bP];have:r'=0\/r'=1:=by omega
   rcases this with rfl|rfl<;>simp
  rintro v H ⟨rfl,pT,rF,m3,rfl,_⟩;refine aQ.mk ?_ ⟨rfl,rfl⟩;rw[hZ];exact .skip (.skip (.skip (.skip (.skip (.refl _)))))
 rintro v H ⟨rfl,rfl⟩;refine Ld.q ?_;refine aM.of rfl zK (ae.eh (args:=#[δ r,γ b1]) .here (sV (Z:=[(b9,_),(bx,_),(b1,_)]) h hr (by exact .tail _ (.tail _ (.head _)))) (ah.oc (br.mk (.skip (.skip .tail)) ?_)));rw[Bf,(Uu h K.n r (xdA _ _) hr).1]
end
end
end Go.Proofs
namespace Go.Sx
open Go
variable{H:Hp}
section
variable{P:Program}{g:Gh}
def xF:Nat->List (List zV)->List (Nat×zV)
 |_,[]=>[]
 |i,r::rs=>(i,.agg r.toArray)::xF (i+1) rs
def xh{k:Nat}:∀(rs:List (List zV)) (i:Nat) (pre aF:List zV),(∀r∈rs,r.length=k)->pre.length=i*k->aF.length=rs.length*k->oT (λi=>some (i*k,k)) (pre++aF) (xF i rs)=some (pre++rs.flatten)
 | [],i,pre,aF,_,_,hj=>by
  have:aF=[]:=xcS.1 (by simpa using hj);subst this;simp[xF,oT]
 |r::rs,i,pre,aF,hr,hp,hj=>by
  have hrk:=hr r (xbA ..);have QC:aF.length=k+rs.length*k:=by rw[hj,xax,xbr,Nat.add_comm]
  simp only[xF,oT,Value.cells];have hb:(Nat.beq r.toArray.toList.length k&&Nat.ble (i*k+r.toArray.toList.length) (pre++aF).length)=true:=by
   have e1:r.toArray.toList.length=k:=hrk;rw[e1,xaf];simp;omega
  rw[hb,xap];have h1:=m6 r (pre++aF) (i*k) (by rw[xaf];omega);rw[m7]at h1;have h2:wj (pre++aF) (i*k) r=pre++r++aF.drop k:=by
   have:=xch Array.toList h1;simp only at this;rw[this,<-hp];simp[xeC,hrk,xeE]
  show oT _ (wj (pre++aF) (i*k) r) _=_;rw[h2,xh rs (i+1) (pre++r) (aF.drop k) (λx hx=>hr x (xbv _ hx)) (by rw[xaf,hp,hrk,xbr]) (by rw[List.length_drop];omega)];simp
def aq.many{t e k:Nat}{z:zV}(rs:List (List zV)){len:Nat}{parts:List (Nat×zV)}{K:zV->Hp->Prop}(h1:P.underlying t=some (.slice e))(h2:dm P e=some k)(h3:fh P e=some z)(hk:rs.length*k<=16777216)(hr:∀r∈rs,r.length=k)
 (hl:rs.length=len)(hp:xF 0 rs=parts)(h:∀b,K (.slice (some ⟨b,0,Option.none⟩) len len) ((b,.cells (ψ rs) e zZ)::H)):aq P t len parts H K:=by
 subst hl hp;refine⟨ψ rs,e,k,z,h1,h2,h3,by omega,?_,λb _=>h b⟩;have:((Array.range (rs.length*k)).map (z.cells[· %z.cells.size]!))=(((Array.range (rs.length*k)).map (z.cells[· %z.cells.size]!)).toList).toArray:=by rw[xdx]
 rw[this];generalize hc:((Array.range (rs.length*k)).map (z.cells[· %z.cells.size]!)).toList=c;have Ξ:c.length=rs.length*k:=by rw[<-hc];simp
 apply kC _ _ _;have:=xh rs 0 [] c hr zI Ξ;simpa using this
def kI(kd:IntKind)(a:Int):zV:=.int kd a
def cm(kd:IntKind)(a b:Int):Instr.sameNow (.int kd) (kI kd a) (kI kd b)=some (decide (a=b)):=by simp only[Instr.sameNow,kI,xa5,xat];rw[xbH];simp
def BC(kd:IntKind)(a:Int):Instr.sameBits 10000 (kI kd a) (kI kd a)=true:=by simp[Instr.sameBits,kI]
def aI.look{κ β:Type}[DecidableEq κ]{ke:κ->zV}{vr:zV->β->Prop}{es:Array MapEntry}{ck b:Nat}{m:List (κ×β)}{kd:TypeDesc}{zero:zV}{ok:Bool}{k:κ}{K:zV->Prop}(hk:∀a b,Instr.sameNow kd (ke a) (ke b)=some (decide (a=b)))(h:aI ke vr es ck m)(hm:(b,Obj.map es ck)∈H)
 (h1:∀x v,aN m k=some x->vr v x->K (cond ok (.tuple #[v,.bool true]) v))(h2:aN m k=none->K (cond ok (.tuple #[zero,.bool false]) zero)):dg kd zero ok H (.map (some b)) (ke k) K:=by
 cases hx:aN m k with
 |none=>exact h.bR hk hm hx (h2 hx)
 |some x=>exact h.hit hk hm hx λv hv=>h1 x v hx hv
end
end Go.Sx
set_option maxRecDepth 100000
namespace Go.Proofs
open Go Go.Sx
section
open ax
section
variable {B:Hp}
abbrev ε(a:Int):zV:=iv a
abbrev fi(e h:Int)(n:Nat)(t:Int):zV:=.agg #[ε e,ε h,χ n,ε t]
def bN(e h:Int)(n:Nat)(t:Int):∀u∈[ε e,ε h,χ n,ε t],u.oneCell'=true:=λu hu=>by
 simp only[xak,xaQ,xbi]at hu;rcases hu with rfl|rfl|rfl|rfl<;>rfl
theorem cE(e:Int)(B:Hp):Rd zQ 20 #[ε e] B (· =fi e (-1) 0 0):=by
 refine aJ λg=>Qh λb1 _=>?_;refine Build.mk (cs:=[ε e,ε (-1),χ 0,ε 0]) zK (St.p (bN _ _ _ _) ?_);refine aB.q ?_;exact br.mk .tail rfl
theorem dW(n:Nat)(e:Int)(B:Hp):Rd zQ 86 #[χ n,ε e] B (· =if e=0 then fi 0 (-1) n 0 else fi e (-1) 0 0):=by
 refine aJ λg=>Ph λb1 _=>?_;refine ah.neq ?_;by_cases he:e=0
 ·subst he;refine Br.no' rfl (Build.mk (cs:=[ε 0,ε (-1),χ n,ε 0]) zK (St.p (bN _ _ _ _) ?_));refine aB.q ?_;exact br.mk .tail rfl
 refine Br.VV (by simpa using he) (ae.eq (cE e _) (St.p (r:=[ε e,ε (-1),χ 0,ε 0]) (bN _ _ _ _) ?_));refine aB.q ?_;exact br.mk .tail (by rw[xac he])
theorem Lg(b:Bool)(B:Hp):Rd zQ 88 #[.bool b] B (· =χ b.toNat):=by
 refine aJ λg=>Pf ?_;cases b
 ·exact Br.no (br.mk (.refl _) rfl)
 exact Br.yes (br.mk (.refl _) rfl)
structure dr where
 op:Nat
 a:Int
 b:Int
 c:Int
 x:Nat
def dr.cells(s:dr):List zV:=[.int .u8 (s.op:Int),ε s.a,ε s.b,ε s.c,χ s.x]
abbrev dr.v(s:dr):zV:=.agg s.cells.toArray
def dr.one(s:dr):∀u∈s.cells,u.oneCell'=true:=λu hu=>by
 simp only[dr.cells,xak,xaQ,xbi]at hu;rcases hu with rfl|rfl|rfl|rfl|rfl<;>rfl
structure dr.Ok(s:dr):Prop where
 op:s.op<256
 a: -9223372036854775808<=s.a/\s.a<=9223372036854775807
 b: -9223372036854775808<=s.b/\s.b<=9223372036854775807
 c: -9223372036854775808<=s.c/\s.c<=9223372036854775807
 x:s.x<18446744073709551616
structure Cf where
 n:Nat
 cap:Nat
 str:Nat
 gr:Nat
 rs:Nat
def Cf.cells(c:Cf):List zV:=[ε c.n,ε c.cap,.int .u8 (c.str:Int),ε c.gr,ε c.rs]
abbrev jz(sp:Nat)(c:Cf)(kp mb nx:Nat):Nat×Obj:=(sp,.cells (c.cells++[γ kp,.map (some mb),ε (nx:Int)]).toArray 58 zZ)
structure gP(kp nx:Nat)(c:Cf)(K:Kd)(S:Nat->ax.Fn)(θ ai tr:zL)(hs:List (Int×Nat))(es:Array MapEntry)(ck:Nat)(C:Hp):Prop where
 ks:bS kp K S θ ai tr C
 n:K.n=c.n
 cap:K.cap=c.cap
 dO:aI (kI .i64) (λv (r:Nat)=>v=δ r) es ck hs
 live:∀p∈hs,live K.N p.2
 hold:∀r,K.hold r=if 2<=r then(hs.map Prod.snd).count r else 0
 lt:∀p∈hs,0<=p.1/\p.1<nx
abbrev gS(sp:Nat)(c:Cf)(kp mb nx:Nat)(es:Array MapEntry)(ck:Nat)(C:Hp):Hp:=jz sp c kp mb nx::(mb,.map es ck)::C
end
section
variable {sp kp mb nx:Nat} {c:Cf} {K:Kd} {S:Nat->ax.Fn} {θ ai tr:zL} {hs:List (Int×Nat)} {es:Array MapEntry} {ck:Nat} {C:Hp}
def eV(h:gP kp nx c K S θ ai tr hs es ck C)(a:Int):Rd zQ 76 #[γ sp,ε a] (gS sp c kp mb nx es ck C) (· =.bool (aN hs a).isSome):=by
 refine aJ λg=>Pq (Ld.n (v:=.map (some mb)) ?_);refine h.dO.look (k:=a) (cm _) (by exact .tail _ (.head _)) (λx v hx hv=>?_) (λhx=>?_)
 ·exact Ext.two (br.mk (.refl _) (by rw[hx];rfl))
 exact Ext.two (br.mk (.refl _) (by rw[hx];rfl))
def Dc(a:Int):Rd zQ 75 #[γ sp,ε a] (gS sp c kp mb nx es ck C) (· =.bool (decide (0<=a/\a<c.n))):=by
 refine aJ λg=>Pr (ah.geq (dh.and (a:=decide (0<=a)) (decide (a<c.n)) (λ_=>?_) rfl λ_=>?_))
 ·exact Nil.γ (aj.mk (Ld.f (v:=ε c.n) (ah.lss ⟨rfl,rfl⟩)))
 exact br.mk (.refl _) (by rw[<-xeg])
def LH(a:Int)(B:Hp):Rd zQ 74 #[ε a] B (· =.bool (decide (a=0\/a=1))):=by refine aJ λg=>Ps (ah.eql (dh.or (a:=a==0) (a==1) (λ_=>ah.eql ⟨rfl,rfl⟩) rfl λ_=>?_));apply br.mk (.refl _);rw[xa6];rfl
def HD(w:Nat)(x:dr):Bool:=decide (w&&&32≠0) && !decide (x.a=0\/x.a=1)
def OU(w:Nat)(x:dr):Bool:=decide (w&&&64≠0) && !decide (x.c=0\/x.c=1)
def Gn(n w:Nat)(x:dr):Bool:=decide (w&&&8≠0) && !decide (0<=x.a/\x.a<n)
def Gm(n w:Nat)(x:dr):Bool:=decide (w&&&16≠0) && !decide (0<=x.b/\x.b<n)
def NM(n w:Nat)(x:dr):Bool:=decide (w&&&128≠0) &&decide (x.x>>>n≠0)
def xp(hs:List (Int×Nat))(w:Nat)(x:dr):Bool:=decide (w&&&1≠0) && !(aN hs x.a).isSome
def xm(hs:List (Int×Nat))(w:Nat)(x:dr):Bool:=decide (w&&&2≠0) && !(aN hs x.b).isSome
def Aq(hs:List (Int×Nat))(w:Nat)(x:dr):Bool:=decide (w&&&4≠0) && !(aN hs x.c).isSome
def kY(n:Nat)(hs:List (Int×Nat))(w:Nat)(x:dr):Int:=
 if(HD w x||OU w x)=true then 1 else if(Gn n w x||Gm n w x||NM n w x)=true then 2 else if(xp hs w x||xm hs w x||Aq hs w x)=true then 3 else 0
def ah.has{w m:Nat}{k:zV->Prop}(hw:w<256)(hm:m<256)(h:k (.bool (decide (w&&&m≠0)))):ah .num .and (.int .u8 (w:Int)) (.int .u8 (m:Int)) λv=>ah .num .neq v (.int .u8 0) k:=by
 refine ah.jU (by simpa[bI]using hw) (by simpa[bI]using hm) (ah.neq ?_);have:(((w&&&m:Nat):Int) !=0)=decide (w&&&m≠0):=by
  rw[xbH];simp
 rw[this];exact h
def look_ok(h:gP kp nx c K S θ ai tr hs es ck C){x:dr}{w:Nat}(hw:w<256)(hx:x.x<18446744073709551616):Rd zQ 43 #[γ sp,x.v,.int .u8 (w:Int)] (gS sp c kp mb nx es ck C) (· =ε (kY c.n hs w x)):=by
 refine aJ λg=>PW λb1 _ J3 h3=>?_;have Ur:∀b:Bool,(HD w x||OU w x)=b->J3 [.bool b] ((b1,.cells (Value.cells x.v) 35 zZ)::gS sp c kp mb nx es ck C):=λb hb=>by
  refine h3 _ _ λ_=>?_;cases b;rotate_left
  ·exact Br.yes (br.mk .tail (by unfold kY;rw[xae hb]))
  refine Br.no λJ7 h7=>?_;have Uq:∀b:Bool,(Gn c.n w x||Gm c.n w x||NM c.n w x)=b->J7 [.bool b] ((b1,.cells (Value.cells x.v) 35 zZ)::gS sp c kp mb nx es ck C):=λb' hb'=>by
   refine h7 _ _ λ_=>?_;cases b';rotate_left
   ·exact Br.yes (br.mk .tail (by unfold kY;rw[hb,xac zD,xae hb']))
   refine Br.no λJ11 XW=>?_;have Mc:∀b:Bool,(xp hs w x||xm hs w x||Aq hs w x)=b->J11 [.bool b] ((b1,.cells (Value.cells x.v) 35 zZ)::gS sp c kp mb nx es ck C):=λb2 uj=>by
    refine XW _ _ λ_=>?_;cases b2
    ·exact Br.no (br.mk .tail (by unfold kY;rw[hb,hb',uj];rfl))
    exact Br.yes (br.mk .tail (by unfold kY;rw[hb,hb',xac zD,xac zD,xae uj]))
   intro J15 h15;have k15:∀b:Bool,xp hs w x=b->J15 [.bool b] ((b1,.cells (Value.cells x.v) 35 zZ)::gS sp c kp mb nx es ck C):=λb2 uj=>by
    refine h15 _ _ λ_=>?_;cases b2;rotate_left
    ·exact Br.yes (JE.mk (Mc true (by rw[uj];rfl)))
    refine Br.no λJ19 h19=>?_;have k19:∀b:Bool,xm hs w x=b->J19 [.bool b] ((b1,.cells (Value.cells x.v) 35 zZ)::gS sp c kp mb nx es ck C):=λb3 TE=>by
     refine h19 _ _ λ_=>?_;cases b3;rotate_left
     ·exact Br.yes (JE.mk (Mc true (by rw[TE,xdT];rfl)))
     refine Br.no (ah.has (m:=4) hw zD (Split.mk (λe=>?_) (λe=>?_)))
     ·refine Ld.f (v:=ε x.c) (ae.eq (eV h x.c) (Un.not (aG.mk (JE.mk (Mc _ ?_)))));rw[uj,TE];unfold Aq;rw[e];rfl
     refine aG.mk (JE.mk (Mc false ?_));rw[uj,TE];unfold Aq;rw[e];rfl
    refine ah.has (m:=2) hw zD (Split.mk (λe=>?_) (λe=>?_))
    ·refine Ld.f (v:=ε x.b) (ae.eq (eV h x.b) (Un.not (aG.mk (JE.mk (k19 _ ?_)))));unfold xm;rw[e];rfl
    refine aG.mk (JE.mk (k19 false ?_));unfold xm;rw[e];rfl
   refine ah.has (m:=1) hw zD (Split.mk (λe=>?_) (λe=>?_))
   ·refine Ld.f (v:=ε x.a) (ae.eq (eV h x.a) (Un.not (aG.mk (JE.mk (k15 _ ?_)))));unfold xp;rw[e];rfl
   refine aG.mk (JE.mk (k15 false ?_));unfold xp;rw[e];rfl
  intro J50 h50;have k50:∀b:Bool,Gn c.n w x=b->J50 [.bool b] ((b1,.cells (Value.cells x.v) 35 zZ)::gS sp c kp mb nx es ck C):=λb2 uj=>by
   refine h50 _ _ λ_=>?_;cases b2;rotate_left
   ·exact Br.yes (JE.mk (Uq true (by rw[uj];rfl)))
   refine Br.no λJ54 h54=>?_;have k54:∀b:Bool,Gm c.n w x=b->J54 [.bool b] ((b1,.cells (Value.cells x.v) 35 zZ)::gS sp c kp mb nx es ck C):=λb3 TE=>by
    refine h54 _ _ λ_=>?_;cases b3;rotate_left
    ·exact Br.yes (JE.mk (Uq true (by rw[TE,xdT];rfl)))
    refine Br.no (ah.has (m:=128) hw zD (dh.and (decide (x.x>>>c.n≠0)) (λ_=>?_) rfl λgs=>?_))
    ·refine Ld.f (v:=χ x.x) (Nil.γ (aj.mk (Ld.f (v:=ε c.n) (ah.iW (by simpa[bI]using hx) (ah.neq ⟨rfl,?_⟩)))));congr 1;generalize x.x>>>c.n=y;rw[xbH];simp
    refine JE.mk (Uq _ ?_);rw[uj,TE];rfl
   refine ah.has (m:=16) hw zD (Split.mk (λe=>?_) (λe=>?_))
   ·refine Ld.f (v:=ε x.b) (ae.eq (Dc x.b) (Un.not (aG.mk (JE.mk (k54 _ ?_)))));unfold Gm;rw[e];rfl
   refine aG.mk (JE.mk (k54 false ?_));unfold Gm;rw[e];rfl
  refine ah.has (m:=8) hw zD (Split.mk (λe=>?_) (λe=>?_))
  ·refine Ld.f (v:=ε x.a) (ae.eq (Dc x.a) (Un.not (aG.mk (JE.mk (k50 _ ?_)))));unfold Gn;rw[e];rfl
  refine aG.mk (JE.mk (k50 false ?_));unfold Gn;rw[e];rfl
 intro J88 h88;have k88:∀b:Bool,HD w x=b->J88 [.bool b] ((b1,.cells (Value.cells x.v) 35 zZ)::gS sp c kp mb nx es ck C):=λb hb=>by
  refine h88 _ _ λ_=>?_;cases b;rotate_left
  ·exact Br.yes (JE.mk (Ur true (by rw[hb];rfl)))
  refine Br.no (ah.has (m:=64) hw zD (Split.mk (λe=>?_) (λe=>?_)))
  ·refine Ld.f (v:=ε x.c) (aM.of rfl zK (ae.eq (args:=#[ε x.c]) (LH x.c _) (Un.not (aG.mk (JE.mk (Ur _ ?_))))));rw[hb];unfold OU;rw[e];rfl
  refine aG.mk (JE.mk (Ur false ?_));rw[hb];unfold OU;rw[e];rfl
 refine ah.has (m:=32) hw zD (Split.mk (λe=>?_) (λe=>?_))
 ·refine Ld.f (v:=ε x.a) (aM.of rfl zK (ae.eq (args:=#[ε x.a]) (LH x.a _) (Un.not (aG.mk (JE.mk (k88 _ ?_))))));unfold HD;rw[e];rfl
 refine aG.mk (JE.mk (k88 false ?_));unfold HD;rw[e];rfl
end
end
section
open ax
section
def D8{n:Int}(hn:n<0\/64<n)(B:Hp):Rd zQ 28 #[iv n] B (· =.tuple #[.slice none 0 0,iv 1]):=by refine aJ λg=>AV (ah.lss (dh.or (a:=decide (n<0)) (decide (64<n)) (λ_=>ah.gtr ⟨rfl,rfl⟩) rfl λ_=>?_));rw[<-xa6,xam hn];exact Br.yes (br.mk (.refl _) rfl)
theorem aah{n cap:Int}(hb:n<1\/64<n\/cap<2\/1048576<cap):Rd zQ 19 #[ε n,ε cap] [] (· =.tuple #[.pointer none,ε 1]):=by
 refine aJ λg=>AX ?_;by_cases hn:n<0\/64<n
 ·refine ae.eq (D8 hn _) (Ext.two (ah.cM (dh.or true (λh=>absurd h zD) rfl λgs=>?_)));refine dh.or true (λh=>absurd h zD) rfl λgs=>?_;refine dh.or true (λh=>absurd h zD) rfl λgs=>Br.yes ?_;exact br.mk (.refl _) rfl
 obtain⟨m,rfl⟩:∃m:Nat,n=m:=⟨n.toNat,by omega⟩;refine ae.fq (ug (n:=m) zO) ?_;rintro v CO ⟨s,rfl,hO⟩;refine Ext.two (ah.cM (dh.or (decide ((m:Int)<1)) (λ_=>ah.lss ⟨rfl,rfl⟩) rfl λgs=>?_));refine dh.or (decide (cap<2)) (λ_=>ah.lss ⟨rfl,rfl⟩) rfl λgs=>?_;refine dh.or (decide (1048576<cap)) (λ_=>ah.gtr ⟨rfl,rfl⟩) rfl λgs=>?_;exact Br.VV (by simp only[xbu,xaM];omega) (br.mk (λ_ _ h=>h.bA) rfl)
structure vz where
 n:Int
 cap:Int
 str:Nat
 gr:Int
 rs:Int
def vz.cells(c:vz):List zV:=[ε c.n,ε c.cap,.int .u8 (c.str:Int),ε c.gr,ε c.rs]
def vz.one(c:vz):∀u∈c.cells,u.oneCell'=true:=λu hu=>by
 simp only[vz.cells,xak,xaQ,xbi]at hu;rcases hu with rfl|rfl|rfl|rfl|rfl<;>rfl
def ik(c:vz):Bool:=decide (6<c.str)||decide (c.gr<100)||decide (1000<c.gr)||decide (c.rs<0)||decide (16<c.rs)
def ja(c:vz):Bool:=decide (c.n<1\/64<c.n\/c.cap<2\/1048576<c.cap)
def fx(c:vz):Int:=if ik c=true then 1 else if ja c=true then 1 else if c.str=6/\12<c.n then 6 else 0
structure Cf.Ok(c:Cf):Prop where
 n:1<=c.n/\c.n<=64
 cap:2<=c.cap/\c.cap<=1048576
 str:c.str<=6
 gr:100<=c.gr/\c.gr<=1000
 rs:c.rs<=16
 ex:c.str=6->c.n<=12
def Cf.i(c:Cf):vz:=⟨c.n,c.cap,c.str,c.gr,c.rs⟩
def WR{c:vz}(h:fx c=0):∃d:Cf,c=d.i/\d.Ok:=by
 unfold fx at h;split at h
 ·cases h
 rename_i h1;split at h
 ·cases h
 rename_i h2;split at h
 ·cases h
 rename_i h3;simp only[ik,ja,xbu,xaM]at h1 h2;obtain⟨n,cap,str,gr,rs⟩:=c;simp only at h1 h2 h3;exact⟨⟨n.toNat,cap.toNat,str,gr.toNat,rs.toNat⟩,by simp only[Cf.i,vz.mk.injEq];exact⟨by omega,by omega,trivial,by omega,by omega⟩,⟨by simp only;omega,by simp only;omega,by simp only;omega,by simp only;omega,by simp only;omega,λe=>by simp only at e⊢;omega⟩⟩
theorem Dq(c:vz){Q:zV->Hp->Prop}(Γ:fx c≠0->Q (.tuple #[.pointer none,ε (fx c)]) [])
 (hok:∀d:Cf,c=d.i->d.Ok->∀(sp kp mb:Nat) (C:Hp),bS kp (K0 d.n d.cap) S0 (List.range d.n) (List.range d.n) [] C->Q (.tuple #[γ sp,ε 0]) (gS sp d kp mb 0 #[] 0 C)):
  Fc zQ 7 #[.agg c.cells.toArray] [] Q:=by
 refine aJ λg=>Vl λb1 _ J3 h3=>?_;have jt:ik c=true->J3 [.bool true] [(b1,.cells (Value.cells (.agg c.cells.toArray)) 23 zZ)]:=λhb=>by
  refine h3 _ _ λ_=>Br.yes ?_;have e:fx c=1:=by unfold fx;rw[xae hb]
  rw[e]at Γ;exact aQ.mk .tail (Γ zD)
 have jf:ik c=false->J3 [.bool false] [(b1,.cells (Value.cells (.agg c.cells.toArray)) 23 zZ)]:=λhb=>by
  refine h3 _ _ λ_=>Br.no ?_;refine Ld.f (v:=ε c.n) (Ld.f (v:=ε c.cap) ?_);cases uj:ja c;rotate_left
  ·refine ae.eh hnew (aah (by simpa[ja]using uj)) (Ext.two (ah.cM (Br.T ?_)));have e:fx c=1:=by unfold fx;rw[hb,xac zD,xae uj]
   rw[e]at Γ;exact aQ.mk .tail (Γ zD)
  simp only[ja,xbq]at uj;simp only[ik,xaG,xbq]at hb;obtain⟨m,hm⟩:∃m:Nat,c.n=m:=⟨c.n.toNat,by omega⟩;obtain⟨q,hq⟩:∃q:Nat,c.cap=q:=⟨c.cap.toNat,by omega⟩;rw[hm,hq];refine ae.fn hnew (aag (n:=m) (cap:=q) zO zO) ?_;rintro w C ⟨kp,rfl,hK⟩;refine Ext.two (ah.cM (Br.F (Ld.u (v:=.int .u8 (c.str:Int)) (xaa _ (.head _)) ?_)));refine ah.fc (b:=6) (dh.and (decide (12<c.n)) (λ_=>?_) rfl λgs=>?_)
  ·exact Ld.u (v:=ε c.n) (xaa _ (.head _)) (ah.gtr ⟨rfl,rfl⟩)
  rw[<-xeg];refine Br.dec (λh6=>?_) (λh6=>?_)
  ·have e:fx c=6:=by
    unfold fx;rw[xac (by simp only[ik,xbu,xaM];omega),xac (by simp only[ja,xaM];omega),xae h6]
   rw[e]at Γ;exact aQ.mk (λ_ _ h=>h.bA) (Γ zD)
  have e:fx c=0:=by
   unfold fx;rw[xac (by simp only[ik,xbu,xaM];omega),xac (by simp only[ja,xaM];omega),xac h6]
  obtain⟨d,rfl,hd⟩:=WR e;have em:m=d.n:=by simp only[Cf.i]at hm;omega
  have eq:q=d.cap:=by simp only[Cf.i]at hq;omega
  subst em eq;refine aB.whole (r:=d.i.cells) (xaa _ (.head _)) rfl ?_;intro mb _;refine Build.mk (cs:=d.cells++[γ kp,.map (some mb),ε ((0:Nat):Int)]) zK λsp _=>?_;refine aQ.mk ?_ (hok d rfl hd sp kp mb C hK);exact .cons (.cons .left)
 refine Ld.f (v:=.int .u8 (c.str:Int)) (ah.nV (b:=6) (Br.dec (λh=>by rw[xam h];exact JE.mk (jt (by simp[ik,h]))) (λh1=>?_)));refine Ld.f (v:=ε c.gr) (ah.lss (Br.dec (λh=>by rw[xam h];exact JE.mk (jt (by simp[ik,h]))) (λh2=>?_)));refine Ld.f (v:=ε c.gr) (ah.gtr (Br.dec (λh=>by rw[xam h];exact JE.mk (jt (by simp[ik,h]))) (λvg=>?_)));refine Ld.f (v:=ε c.rs) (ah.lss (Br.dec (λh=>by rw[xam h];exact JE.mk (jt (by simp[ik,h]))) (λh4=>?_)));refine Ld.f (v:=ε c.rs) (ah.gtr ?_);cases hb:decide (16<c.rs)
 ·exact JE.mk (jf (by simp only[ik,hb,xan h1,xan h2,xan vg,xan h4];rfl))
 exact JE.mk (jt (by simp only[ik,hb,xdT]))
end
section
variable {sp kp mb nx:Nat} {c:Cf} {K:Kd} {S:Nat->ax.Fn} {θ ai tr:zL} {hs:List (Int×Nat)} {es:Array MapEntry} {ck:Nat} {C:Hp}
def Si{κ β:Type}[DecidableEq κ]{m:List (κ×β)}{k:κ}{x:β}(h:k∉m.map Prod.fst):eu m k x=m++[(k,x)]:=by unfold eu;rw[xac h]
theorem Ah(hE:aI (kI .i64) (λv (r:Nat)=>v=δ r) es ck hs)(hk:(nx:Int)∉hs.map Prod.fst)(Ed:nx+1<9223372036854775808)(r:Nat)(t:Int):
  Fc zQ 44 #[γ sp,δ r,ε t] (gS sp c kp mb nx es ck C) (λv H=>v=fi 0 nx 0 t/\∃τ bF,H=gS sp c kp mb (nx+1) τ bF C/\aI (kI .i64) (λv (r:Nat)=>v=δ r) τ bF (hs++[((nx:Int),r)])):=by
 refine aJ λg=>PV λb1 _=>?_;refine Ld.n (v:=ε (nx:Int)) (Ld.n (v:=ε (nx:Int)) (ah.inc (Nil.γ (aj.mk (St.one (c':=(c.cells++[γ kp,.map (some mb),ε ((nx+1:Nat):Int)]).toArray) (by exact .tail (.head _)) rfl (by simp[Cf.cells]) rfl ?_)))));refine Ld.n (v:=.map (some mb)) (hE.bt (k:=(nx:Int)) (b:=mb) (x:=r) (cm _) (BC _) rfl λτ bF he=>⟨_,.tail (.tail (.head _)),?_⟩);rw[Si hk]at he;refine Build.mk (cs:=[ε 0,ε (nx:Int),χ 0,ε t]) zK (St.p (bN _ _ _ _) ?_);refine aB.q ?_;exact aQ.mk .tail ⟨rfl,τ,bF,rfl,he⟩
def fP(op:Nat):Option (Nat×Nat):=
 if op=11 then some (21,42)else if op=10 then some (129,41)else if op=9 then some (129,40)else if op=8 then some (81,39)else
 if op=7 then some (7,38)else if op=6 then some (3,37)else if op=5 then some (3,36)else if op=4 then some (3,35)else
 if op=3 then some (1,34)else if op=2 then some (32,33)else if op=1 then some (8,32)else none
def Lz(p:Nat×Nat):List zV:=[.int .u8 (p.1:Int),.func (.func p.2) #[] #[]]
def NT:Fc zQ 21 #[] [] (λv H=>∃b es ck m,v=.map (some b)/\H=[(b,.map es ck)]/\aI (kI .u8) (λv (p:Nat×Nat)=>v=.agg (Lz p).toArray) es ck m/\∀op:Nat,aN m (op:Int)=fP op):=by
 refine aJ λg=>Qg λb _=>?_;have bt:∀{k:Int} {p:Nat×Nat} {es:Array MapEntry} {ck:Nat} {m:List (Int×(Nat×Nat))} {Q:Hp->Prop},aI (kI .u8) (λv (p:Nat×Nat)=>v=.agg (Lz p).toArray) es ck m->(∀τ bF,aI (kI .u8) (λv (p:Nat×Nat)=>v=.agg (Lz p).toArray) τ bF (eu m k p)->Q [(b,.map τ bF)])->
   Build zQ 63 [(0,.int .u8 (p.1:Int)),(1,.func (.func p.2) #[] #[])] λv=>aY (.int .u8) [(b,.map es ck)] (.map (some b)) (kI .u8 k) v Q:=λ{k p es ck m Q} he hq=>by
  exact Build.mk (cs:=Lz p) zK (aI.bt (cm _) (BC _) he rfl λτ bF he'=>⟨_,.head _,hq τ bF he'⟩)
 refine bt (k:=1) (p:=(8,32)) aI.empty λ_ _ h=>?_;refine bt (k:=2) (p:=(32,33)) h λ_ _ h=>?_;refine bt (k:=3) (p:=(1,34)) h λ_ _ h=>?_;refine bt (k:=4) (p:=(3,35)) h λ_ _ h=>?_;refine bt (k:=5) (p:=(3,36)) h λ_ _ h=>?_;refine bt (k:=6) (p:=(3,37)) h λ_ _ h=>?_;refine bt (k:=7) (p:=(7,38)) h λ_ _ h=>?_;refine bt (k:=8) (p:=(81,39)) h λ_ _ h=>?_;refine bt (k:=9) (p:=(129,40)) h λ_ _ h=>?_;refine bt (k:=10) (p:=(129,41)) h λ_ _ h=>?_;refine bt (k:=11) (p:=(21,42)) h λ_ _ h=>?_;refine aQ.mk (.refl _) ⟨b,_,_,_,rfl,rfl,h,λop=>?_⟩;simp only[bP];have:∀j:Nat,((op:Int)=(j:Int))=(op=j):=λj=>propext zO;have e:=this 11;have e2:=this 10;have e3:=this 9;have e4:=this 8;have e5:=this 7;have e6:=this 6;have e7:=this 5;have e8:=this 4;have e9:=this 3;have e10:=this 2;have e11:=this 1
 simp only[Int.cast_ofNat_Int]at*;simp only[e,e2,e3,e4,e5,e6,e7,e8,e9,e10,e11];rfl
end
section
variable {sp kp mb nx:Nat} {c:Cf} {K K':Kd} {S S':Nat->ax.Fn} {θ ai bU tr cC o:zL} {hs:List (Int×Nat)} {es:Array MapEntry} {ck:Nat} {C C':Hp}
def Kept.const(hK:bS kp K S θ ai tr C)(de:bS kp K' S' o bU cC C')(r:Nat)(hr:r<2):S' r=S r:=by
  have h1:=hK.ok.mid.int;have h2:=de.ok.mid.int;have:r=0\/r=1:=by omega
  rcases this with rfl|rfl
  · exact funext λx=>by rw[h1.zero,h2.zero]
  · exact funext λx=>by rw[h1.one,h2.one]
def gP.kept(h:gP kp nx c K S θ ai tr hs es ck C)(de:bS kp K' S' o bU cC C')(hk:Kept K S K' S'):gP kp nx c K' S' o bU cC hs es ck C'/\∀p∈hs,S' p.2=S p.2:=by
  have hh:∀p∈hs,2<=p.2->K.hold p.2≠0:=λp hp h2=>by
    rw[h.hold,xae h2];exact xdv (xbP.2 (xaT hp))
  refine⟨⟨de,hk.n.trans h.n,hk.cap.trans h.cap,h.dO,λp hp=>?_,λr=>by rw[hk.hold,h.hold],h.lt⟩,λp hp=>?_⟩
  · by_cases h2:2<=p.2
    · exact .inr (de.ok.mid.held p.2 (by rw[hk.hold];exact hh p hp h2))
    · exact .inl zO
  · by_cases h2:2<=p.2
    · exact hk.fn _ (hh p hp h2)
    · exact Kept.const h.ks de _ zO
def gP.key(h:gP kp nx c K S θ ai tr hs es ck C):(nx:Int)∉hs.map Prod.fst:=λhm=>by
  obtain⟨p,hp,e⟩:=xal.1 hm;have:=h.lt p hp;omega
def gP.grow(h:gP kp nx c K S θ ai tr hs es ck C){f:ax.Fn}{r:Nat}{τ:Array MapEntry}{bF:Nat}(de:bS kp K' S' o bU cC C')(hg:gn K S K' S' f r)(he:aI (kI .i64) (λv (r:Nat)=>v=δ r) τ bF (hs++[((nx:Int),r)])):
    gP kp (nx+1) c K' S' o bU cC (hs++[((nx:Int),r)]) τ bF C'/\∀p∈hs,S' p.2=S p.2:=by
  refine⟨⟨de,hg.n.trans h.n,hg.cap.trans h.cap,he,λp hp=>?_,λs=>?_,λp hp=>?_⟩,λp hp=>hg.fn _ (h.live p hp)⟩
  · rcases xao.1 hp with hp|hp
    · exact bC hg.N (h.live p hp)
    · rw[xaE.1 hp];exact hg.live
  · rw[hg.hold,h.hold,xaz,xbf]
    by_cases e:s=r
    · subst e
      by_cases h2:2<=s
      · simp[h2]
      · simp[h2]
    · have:List.count s (List.map Prod.snd [((nx:Int),r)])=0:=by
        simp only[xay,xcd,xdS,xaE];exact e
      have e2:(if s=r/\2<=r then 1 else 0)=0:=xac λh=>e h.1;rw[this,e2];split<;>rfl
  · rcases xao.1 hp with hp|hp
    · have:=h.lt p hp;omega
    · rw[xaE.1 hp];simp only;omega
def nY(kp:Nat)(K:Kd)(S:Nat->ax.Fn)(θ ai tr:zL)(f:ax.Fn)(T:Nat->Prop)(w:zV)(H:Hp):Prop:=
  (∃r K' S',w=.tuple #[δ r,ε 0]/\bS kp K' S' θ ai [] H/\gn K S K' S' f r/\T 0)\/
  (∃(e:Nat) (K':Kd) (S':Nat->ax.Fn) (cC:zL),w=.tuple #[δ 0,ε e]/\(e=8\/e=9)/\bS kp K' S' θ ai cC H/\(cC=[]\/cC=tr)/\Kept K S K' S'/\T e)
def nY.two{f:ax.Fn}{T:Nat->Prop}{w:zV}{H:Hp}(h:nY kp K S θ ai tr f T w H):∃x y,w=.tuple #[x,y]:=by
  rcases h with⟨r,_,_,rfl,_⟩|⟨e,_,_,_,rfl,_⟩
  · exact⟨_,_,rfl⟩
  · exact⟨_,_,rfl⟩
inductive fk(T:zL->Nat->Prop)(R:zL->zL->Prop)(o:zL):Nat->zL->Prop
  |one:fk T R o 1 o
  |more {t:Nat} {p ls:zL}:fk T R o t p->T p 9->R p ls->fk T R o (t+1) (aA p ls)
def fk.pos{T:zL->Nat->Prop}{R:zL->zL->Prop}{t:Nat}(h:fk T R θ t o):1<=t:=by  cases h<;>omega
def Mx(sp kp mb nx:Nat)(c:Cf)(S:Nat->ax.Fn)(sz:zL->Nat)(θ tr:zL)(hs:List (Int×Nat))(f:ax.Fn)(T:zL->Nat->Prop)(R:zL->zL->Prop)(v:zV)(H:Hp):Prop:=
  ∃(t:Nat) (o bU cC:zL) (K':Kd) (S':Nat->ax.Fn) (τ:Array MapEntry) (bF:Nat) (C':Hp),t<=c.rs+1/\fk T R θ t o/\(∀p∈hs,S' p.2=S p.2)/\
    ((∃r,v=fi 0 nx 0 t/\H=gS sp c kp mb (nx+1) τ bF C'/\gP kp (nx+1) c K' S' o bU cC (hs++[((nx:Int),r)]) τ bF C'/\S' r=f/\T o 0/\cC=[])\/
     (∃e:Nat,(e=8\/e=9)/\v=fi e (-1) 0 t/\H=gS sp c kp mb nx τ bF C'/\gP kp nx c K' S' o bU cC hs τ bF C'/\T o e/\(e=9->t=c.rs+1)/\cC.length+66*sz o<=tr.length+66*sz θ))
theorem WY{f w:Nat}{x:dr}{fn:ax.Fn}{T:zL->Nat->Prop}{R:zL->zL->Prop}(fX:aW zQ f=true)(h:gP kp nx c K S θ ai tr hs es ck C)(hc:c.Ok)(Ed:nx+1<9223372036854775808)(hw:w<256)(hx:x.x<18446744073709551616)(hl:kY c.n hs w x=0)
   (LQ:∀{K':Kd} {S':Nat->ax.Fn} {o bU cC:zL} {C':Hp},gP kp nx c K' S' o bU cC hs es ck C'->(∀p∈hs,S' p.2=S p.2)->Fc zQ f #[γ sp,x.v] (gS sp c kp mb nx es ck C') (λv H=>∃C2,H=gS sp c kp mb nx es ck C2/\nY kp K' S' o bU cC fn (T o) v C2))
   (hrun:∀{K':Kd} {S':Nat->ax.Fn} {o bU cC:zL} {C':Hp},T o 9->gP kp nx c K' S' o bU cC hs es ck C'->(∀p∈hs,S' p.2=S p.2)->cC.length<=tr.length+66*cK K S θ->
      Fc zQ 45 #[γ kp,.int .u8 (c.str:Int),ε c.gr] C' (λv H=>∃ls a b,v=.tuple #[a,b]/\R o ls/\At kp K' S' (aA o ls) (cC++ls) H/\ls.length+66*cK K' S' (aA o ls)<=66*cK K' S' o)):
    Fc zQ 22 #[γ sp,x.v,.agg (Lz (w,f)).toArray] (gS sp c kp mb nx es ck C) (Mx sp kp mb nx c S (cK K S) θ tr hs fn T R):=by
  refine aJ λg=>AW λb1 _ b3 _ b5 _=>?_;refine aB.q (r:=x.cells) (Ld.f (v:=.int .u8 (w:Int)) (ae.eq (look_ok h hw hx) ?_));rw[hl];refine ah.cM (Br.F ?_);refine⟨λvs H=>∃(t:Nat) (o bU cC:zL) (K':Kd) (S':Nat->ax.Fn) (C':Hp),vs=[ε (t:Int)]/\t<=c.rs+1/\H=(b5,.cells #[ε 0,ε 0,χ 0,ε 0] 37 zZ)::(b3,.cells (Lz (w,f)).toArray 63 zZ)::(b1,.cells x.cells.toArray 35 zZ)::gS sp c kp mb nx es ck C'/\
      gP kp nx c K' S' o bU cC hs es ck C'/\Kept K S K' S'/\fk T R θ t o/\cC.length+66*cK K S o<=tr.length+66*cK K S θ,λvs _=>20-bH vs 0,JE.mk ⟨1,θ,ai,tr,K,S,C,rfl,by omega,rfl,h,.refl _ _,.one,xai _⟩,?_⟩
  rintro w0 H ⟨t,o,adi,YG,K1,S1,C1,⟨⟩,ht,rfl,h1,uR,hT,hb⟩ gs;have Aa:=hc.rs;have hsame:=(h.kept h1.ks uR).2;refine Ld.f (v:=.func (.func f) #[] #[]) (aB.q (r:=x.cells) (aM.of rfl fX (ae.fq (args:=#[γ sp,x.v]) (LQ h1 hsame) ?_)));rintro w H ⟨C2,rfl,hQ⟩;rcases hQ with⟨r,K2,S2,rfl,cY,hg,h0⟩|⟨e,K2,S2,Fm,rfl,he,cY,uM,sj,VL⟩
  · refine Ext.two (ah.iD (Br.T (ae.fq (Ah h1.dO h.key Ed r t) ?_)))
    rintro w H ⟨rfl,ic,iO,rfl,hE⟩;refine St.p (r:=[ε 0,ε nx,χ 0,ε t]) (bN _ _ _ _) ?_;refine aB.q ?_;obtain⟨h3,h4⟩:=h1.grow cY hg hE;exact aQ.mk (.skip (.skip .tail)) ⟨t,o,adi,[],K2,S2,ic,iO,C2,ht,hT,λp hp=>(h4 p hp).trans (hsame p hp),.inl ⟨r,rfl,rfl,h3,hg.is,h0,rfl⟩⟩
  · obtain⟨h3,h4⟩:=h1.kept cY sj
    have uj:Fm.length+66*cK K S o<=tr.length+66*cK K S θ:=by
      rcases uM with rfl|rfl
      · rw[xbF];omega
      · exact hb
    have fin:(e=9->t=c.rs+1)->Mx sp kp mb nx c S (cK K S) θ tr hs fn T R (fi e (-1) 0 t) (gS sp c kp mb nx es ck C2):=λhet=>
      ⟨t,o,adi,Fm,K2,S2,es,ck,C2,ht,hT,λp hp=>(h4 p hp).trans (hsame p hp),.inr ⟨e,he,rfl,rfl,h3,VL,het,uj⟩⟩
    refine Ext.two (ah.iD (Br.F (ah.cM (dh.or (decide (c.rs<t)) (λ_=>?_) rfl λgs=>?_))))
    · exact Nil.γ (aj.mk (Ld.f (v:=ε c.rs) (ah.nV ⟨rfl,rfl⟩)))
    rw[<-xa6];refine Br.dec (λLO=>?_) (λLO=>?_)
    · refine ae.eq (cE e _) λb44 _=>?_
      refine St.p (r:=[ε e,ε (-1),χ 0,ε 0]) (bN _ _ _ _) ?_;refine aj.mk (St.one (c':=#[ε e,ε (-1),χ 0,ε t]) (by exact .head _) rfl zI rfl ?_);refine aB.q (r:=[ε e,ε (-1),χ 0,ε t]) (St.p (bN _ _ _ _) ?_);refine aB.q ?_;exact aQ.mk (.skip (.skip (.skip .tail))) (fin λ_=>by omega)
    · have he9:e=9:=by omega
      subst he9;refine DR.of (R:=(b5,.cells #[ε 0,ε 0,χ 0,ε 0] 37 zZ)::(b3,.cells (Lz (w,f)).toArray 63 zZ)::(b1,.cells x.cells.toArray 35 zZ)::gS sp c kp mb nx es ck C2) (.refl _) (Ld.n (v:=γ kp) (Nil.γ (aj.mk (Ld.f (v:=.int .u8 (c.str:Int)) (Nil.γ (aj.mk (Ld.f (v:=ε c.gr) λF=>?_)))))));refine ae.fq (hrun VL h3 (λp hp=>(h4 p hp).trans (hsame p hp)) zO) ?_;rintro w2 H2 ⟨ls,a,b,rfl,hR,hA,Ξ⟩;refine ah.inc ?_;obtain⟨K3,S3,ag3,kB,qo⟩:=hA;obtain⟨h5,h6⟩:=h3.kept kB qo;rw[r9 (uR.trans sj),r9 (uR.trans sj)]at Ξ;refine aD.mk ⟨t+1,aA o ls,ag3,Fm++ls,K3,S3,H2,rfl,by omega,rfl,h5,(uR.trans sj).trans qo,.more hT VL hR,by rw[xaf];omega⟩ (by simp only[bH];omega)
end
def HF(L:List ax.Fn)(g:ax.Fn):Prop:=g∈L/\∃v,bW g v
noncomputable def lH(L:List ax.Fn)(f:ax.Fn):Nat:=L.countP λg=> @decide (g=f) (Classical.propDecidable _)
def mL(L:List ax.Fn)(f:ax.Fn):Prop:=(∃v,bW f v)/\65535<=lH L f
def UR(n cap:Nat)(L:List ax.Fn)(f:ax.Fn)(θ:zL)(e:Nat):Prop:=
 (e=0/\Fits (aE n θ (λg=>HF L g\/g=f)) cap/\¬mL L f)\/(e=9/\¬Fits (aE n θ (λg=>HF L g\/g=f)) cap)\/(e=8/\mL L f)
def Qq(n cap:Nat)(L:List ax.Fn)(q:Bool)(mask:Nat)(f:ax.Fn)(θ:zL)(i:Nat):Prop:=
 Fits (aE n θ (λg=>(HF L g\/(ω mask i≠[]/\g=nZ q (ω mask i) f))\/g=qf q i (nZ q (ω mask i) f))) cap
def Fh(L:List ax.Fn)(q:Bool)(mask:Nat)(f:ax.Fn)(i:Nat):Prop:=
 (∃v,bW (qf q i (nZ q (ω mask i) f)) v)/\65534<=lH L (qf q i (nZ q (ω mask i) f))/\((ω mask i≠[]/\qf q i (nZ q (ω mask i) f)=nZ q (ω mask i) f)\/65535<=lH L (qf q i (nZ q (ω mask i) f)))
def yf(n cap:Nat)(L:List ax.Fn)(q:Bool)(mask:Nat)(f:ax.Fn)(θ:zL)(i:Nat):Prop:=∀j,j<i->mask.testBit j=true->Qq n cap L q mask f θ j/\¬Fh L q mask f j
def qw(n cap:Nat)(L:List ax.Fn)(q:Bool)(mask:Nat)(f:ax.Fn)(θ:zL)(e:Nat):Prop:=
 (e=0/\(mask=0->¬mL L f)/\yf n cap L q mask f θ n)\/
 (e=9/\∃i,i<n/\mask.testBit i=true/\¬Qq n cap L q mask f θ i/\yf n cap L q mask f θ i)\/
 (e=8/\((mask=0/\mL L f)\/∃i,i<n/\mask.testBit i=true/\Fh L q mask f i/\yf n cap L q mask f θ i))
def F1(n cap:Nat)(L:List ax.Fn)(θ:zL)(lo:ax.Fn):Prop:=Fits (aE n θ (λg=>HF L g\/g=lo)) cap
def F2(n cap:Nat)(L:List ax.Fn)(θ:zL)(lo hi:ax.Fn):Prop:=Fits (aE n θ (λg=>(HF L g\/g=lo)\/g=hi)) cap
def F3(n cap:Nat)(L:List ax.Fn)(θ:zL)(lo hi f:ax.Fn):Prop:=Fits (aE n θ (λg=>((HF L g\/g=lo)\/g=hi)\/g=f)) cap
def U1(L:List ax.Fn)(lo:ax.Fn):Prop:=(∃v,bW lo v)/\lH L lo=65535
def U2(L:List ax.Fn)(lo hi:ax.Fn):Prop:=(∃v,bW hi v)/\2<=lH L hi/\∃a,One (hi=lo) a/\lH L hi+a=65535
def U3(L:List ax.Fn)(lo hi f:ax.Fn):Prop:=(∃v,bW f v)/\2<=lH L f/\∃a b,One (f=lo) a/\One (f=hi) b/\lH L f+a+b=65535
def xx(n cap:Nat)(L:List ax.Fn)(lo hi f:ax.Fn)(θ:zL)(e:Nat):Prop:=
 (e=0/\(F1 n cap L θ lo/\¬U1 L lo)/\(F2 n cap L θ lo hi/\¬U2 L lo hi)/\F3 n cap L θ lo hi f/\¬U3 L lo hi f)\/
 (e=9/\(¬F1 n cap L θ lo\/((F1 n cap L θ lo/\¬U1 L lo)/\¬F2 n cap L θ lo hi)\/((F1 n cap L θ lo/\¬U1 L lo)/\(F2 n cap L θ lo hi/\¬U2 L lo hi)/\¬F3 n cap L θ lo hi f)))\/
 (e=8/\(U1 L lo\/((F1 n cap L θ lo/\¬U1 L lo)/\U2 L lo hi)\/((F1 n cap L θ lo/\¬U1 L lo)/\(F2 n cap L θ lo hi/\¬U2 L lo hi)/\U3 L lo hi f)))
variable{L:List ax.Fn}
def rW{g:ax.Fn}(h:0<lH L g):g∈L:=by
 obtain⟨a,h1,h2⟩:=List.countP_pos_iff.1 h;have:a=g:=by simpa using h2
 exact this▸h1
variable{n cap:Nat}{θ:zL}{f:ax.Fn}
def Ae{P:ax.Fn->Prop}(hv:∃v,bW f v)(hc:0<lH L f)(h:Fits (aE n θ (λg=>HF L g\/P g)) cap):Fits (aE n θ (λg=>(HF L g\/P g)\/g=f)) cap:=
 Fits.mono (λg hg=>aX (λg hh=>by
  rcases hh with hh|rfl
  ·exact hh
  exact .inl ⟨rW hc,hv⟩) hg) h
def Yk{e e':Nat}(h0:Fits (aE n θ (HF L)) cap)(h:UR n cap L f θ e)(h':UR n cap L f θ e'):e=e':=by
 have key:mL L f->Fits (aE n θ (λg=>HF L g\/g=f)) cap:=λhF=>Fits.mono (λg hg=>aX (λg hh=>by
  rcases hh with hh|rfl
  ·exact hh
  exact⟨rW (xaP zD hF.2),hF.1⟩) hg) h0
 rcases h with⟨rfl,a,b⟩|⟨rfl,a⟩|⟨rfl,a⟩<;>rcases h' with⟨rfl,a',b'⟩|⟨rfl,a'⟩|⟨rfl,a'⟩
 ·rfl
 ·exact absurd a a'
 ·exact absurd a' b
 ·exact absurd a' a
 ·rfl
 ·exact absurd (key a') a
 ·exact absurd a b'
 ·exact absurd (key a) a'
 rfl
def Ax(mask:Nat):∀i,ω mask i≠[]->∃j,j<i/\mask.testBit j=true/\ω mask i=ω mask j++[j]
 |0,h=>absurd rfl h
 |i+1,h=>by
  rw[oZ]at h⊢;by_cases hb:mask.testBit i=true
  ·exact⟨i,by omega,hb,by rw[xae hb]⟩
  rw[xac hb,xaI]at h⊢;obtain⟨j,h1,h2,h3⟩:=Ax mask i h;exact⟨j,by omega,h2,h3⟩
variable{q:Bool}
def OF{mask i:Nat}(h0:Fits (aE n θ (HF L)) cap)(hD:yf n cap L q mask f θ i)(hF:Fh L q mask f i):Qq n cap L q mask f θ i:=by
 apply Ae hF.1 (xaP zD hF.2.1);by_cases hb:ω mask i=[]
 ·refine Fits.mono (λg hg=>aX (λg hh=>?_) hg) h0;rcases hh with hh|hh
  ·exact hh
  exact absurd hb hh.1
 obtain⟨j,hj,hm,e⟩:=Ax mask i hb;refine Fits.mono (λg hg=>aX (λg hh=>?_) hg) (hD j hj hm).1;rcases hh with hh|⟨_,rfl⟩
 ·exact .inl (.inl hh)
 exact .inr (by rw[e,DE])
def ED{mask:Nat}{e e':Nat}(h0:Fits (aE n θ (HF L)) cap)(h:qw n cap L q mask f θ e)(h':qw n cap L q mask f θ e'):e=e':=by
 have zero:∀{i},mask=0->mask.testBit i=true->False:=λh0 hb=>by subst h0;simp at hb
 have s9:∀{i j},i<n->j<n->mask.testBit i=true->mask.testBit j=true->¬Qq n cap L q mask f θ i->yf n cap L q mask f θ i->Fh L q mask f j->yf n cap L q mask f θ j->False:=λ{i j} _ _ hb hb' hn hd hf dF=>by
  rcases xcu i j with hl|rfl|hl
  ·exact hn (dF i hl hb).1
  ·exact hn (OF h0 hd hf)
  exact(hd j hl hb').2 hf
 rcases h with⟨rfl,a,b⟩|⟨rfl,i,hi,hb,hn,hd⟩|⟨rfl,⟨hz,a⟩|⟨i,hi,hb,hf,hd⟩⟩<;>rcases h' with⟨rfl,a',b'⟩|⟨rfl,i',hi',hb',hn',dF⟩|⟨rfl,⟨hz',a'⟩|⟨i',hi',hb',Oj,dF⟩⟩
 ·rfl
 ·exact absurd (b i' hi' hb').1 hn'
 ·exact absurd a' (a hz')
 ·exact absurd Oj (b i' hi' hb').2
 ·exact absurd (b' i hi hb).1 hn
 ·rfl
 ·exact(zero hz' hb).elim
 ·exact(s9 hi hi' hb hb' hn hd Oj dF).elim
 ·exact absurd a (a' hz)
 ·exact(zero hz hb').elim
 ·rfl
 ·rfl
 ·exact absurd hf (b' i hi hb).2
 ·exact(s9 hi' hi hb' hb hn' dF hf hd).elim
 ·rfl
 rfl
variable{lo hi:ax.Fn}
def Uz{e e':Nat}(h0:Fits (aE n θ (HF L)) cap)(h:xx n cap L lo hi f θ e)(h':xx n cap L lo hi f θ e'):e=e':=by
 have k1:U1 L lo->F1 n cap L θ lo:=λhU=>Fits.mono (λg hg=>aX (λg hh=>by
  rcases hh with hh|rfl
  ·exact hh
  exact⟨rW (by have:=hU.2;omega),hU.1⟩) hg) h0
 have k2:F1 n cap L θ lo->U2 L lo hi->F2 n cap L θ lo hi:=λh1 hU=>Ae hU.1 (by have:=hU.2.1;omega) h1;have k3:F2 n cap L θ lo hi->U3 L lo hi f->F3 n cap L θ lo hi f:=λh1 hU=>Fits.mono (λg hg=>aX (λg hh=>by
  rcases hh with hh|rfl
  ·exact hh
  exact .inl (.inl ⟨rW (by have:=hU.2.1;omega),hU.1⟩)) hg) h1
 have d:∀p1 u1 p2 u2 p3 u3:Prop,(u1->p1)->(p1->u2->p2)->(p2->u3->p3)->∀e e',
  ((e=0/\(p1/\¬u1)/\(p2/\¬u2)/\p3/\¬u3)\/(e=9/\(¬p1\/((p1/\¬u1)/\¬p2)\/((p1/\¬u1)/\(p2/\¬u2)/\¬p3)))\/(e=8/\(u1\/((p1/\¬u1)/\u2)\/((p1/\¬u1)/\(p2/\¬u2)/\u3))))->
  ((e'=0/\(p1/\¬u1)/\(p2/\¬u2)/\p3/\¬u3)\/(e'=9/\(¬p1\/((p1/\¬u1)/\¬p2)\/((p1/\¬u1)/\(p2/\¬u2)/\¬p3)))\/(e'=8/\(u1\/((p1/\¬u1)/\u2)\/((p1/\¬u1)/\(p2/\¬u2)/\u3))))->e=(e':Nat):=by
  intro p1 u1 p2 u2 p3 u3 a b c e e' h h';by_cases x1:u1
  ·have:=a x1;simp only[x1,this,xcv,xdw,xdN,xen,xbi,xdO,xaW,or_true]at h h';omega
  by_cases y1:p1;rotate_left
  ·simp only[x1,y1,xcP,xdN,xdw,xen,xbi,xdO,xaW]at h h';omega
  by_cases x2:u2
  ·have:=b y1 x2;simp only[x1,y1,x2,this,xcv,xcP,xdw,xdN,xco,xen,xbi,xdO,xaW,or_true]at h h';omega
  by_cases y2:p2;rotate_left
  ·simp only[x1,y1,x2,y2,xcv,xcP,xdw,xdN,xco,xen,xbi,xdO,xaW,or_true]at h h';omega
  by_cases x3:u3
  ·have:=c y2 x3;simp only[x1,y1,x2,y2,x3,this,xcv,xcP,xdw,xdN,xco,xen,xbi,xdO,xaW,or_true]at h h';omega
  by_cases y3:p3
  ·simp only[x1,y1,x2,y2,x3,y3,xcv,xcP,xdw,xdN,xco,xen,xbi,xdO,xaW,or_true]at h h';omega
  simp only[x1,y1,x2,y2,x3,y3,xcv,xcP,xdw,xdN,xco,xen,xbi,xdO,xaW,or_true]at h h';omega
 exact d _ _ _ _ _ _ k1 k2 k3 e e' h h'
section
variable {kp:Nat} {K K':Kd} {S S':Nat->ax.Fn} {θ ai bU tr cC o:zL} {C C':Hp} {L:List ax.Fn}
structure cP(K:Kd)(S:Nat->ax.Fn)(L:List ax.Fn):Prop where
 held:K.held S=HF L
 count:∀r,live K.N r->2<=r->K.hold r=lH L (S r)
 all:∀g,g∈L->∃r,live K.N r/\S r=g
def cP.fits(h:cP K S L)(hK:bS kp K S θ ai tr C):Fits (aE K.n θ (HF L)) K.cap:=by have hc:=hK.ok.size hK.od;have hr:=hK.ok.mid.room;have h2:=hK.ok.mid.cap;rw[<-h.held];exact⟨K.used-2,hc,by omega⟩
def cP.find(h:cP K S L)(hK:bS kp K S θ ai tr C){g:ax.Fn}(hv:∃v,bW g v)(hc:0<lH L g):∃x,2<=x/\live K.N x/\S x=g/\K.hold x=lH L g:=by obtain⟨x,hl,rfl⟩:=h.all g (rW hc);have h2:=(cy hK hl).2 hv;exact⟨x,h2,hl,rfl,h.count x hl h2⟩
def cP.Zu(h:cP K S L)(hK:bS kp K S θ ai tr C){r:Nat}(hr:live K.N r):(2<=r/\K.hold r=65535)↔mL L (S r):=by
 constructor
 ·rintro⟨h2,he⟩;exact⟨(cy hK hr).1 h2,by rw[<-h.count r hr h2,he];exact xai _⟩
 rintro⟨hv,hc⟩;have h2:=(cy hK hr).2 hv;have:=h.count r hr h2;have:=hK.dU r;exact⟨h2,by omega⟩
def cP.Zt(h:cP K S L)(hK:bS kp K S θ ai tr C){mask r i:Nat}:MC K S q mask r i↔Fh L q mask (S r) i:=by
 constructor
 ·rintro⟨x,h2,hl,e,h3,h4⟩;have hc:=h.count x hl h2;rw[e]at hc;refine⟨by rw[<-e];exact(cy hK hl).1 h2,by omega,h4.imp (λh4=>⟨h4.1,by rw[<-e];exact h4.2⟩) λh4=>by omega⟩
 rintro⟨hv,h3,h4⟩;obtain⟨x,h2,hl,e,hc⟩:=h.find hK hv zO;have:=hK.dU x;exact⟨x,h2,hl,e,by omega,h4.imp (λh4=>⟨h4.1,by rw[e];exact h4.2⟩) λh4=>by omega⟩
def cP.ae7(h:cP K S L){mask r i:Nat}:Vp K S θ q mask r i↔Qq K.n K.cap L q mask (S r) θ i:=by unfold Vp Qq;rw[h.held]
def cP.Up(h:cP K S L)(hK:bS kp K S θ ai tr C){mask r i:Nat}:A0 K S θ q mask r i↔yf K.n K.cap L q mask (S r) θ i:=
 forall_congr' λj=>forall_congr' λ_=>forall_congr' λ_=>and_congr h.ae7 (xeL (h.Zt hK))
def cP.f1(h:cP K S L):VU K S θ lo↔F1 K.n K.cap L θ lo:=by unfold VU F1;rw[h.held]
def cP.f2(h:cP K S L):ZI K S θ lo hi↔F2 K.n K.cap L θ lo hi:=by unfold ZI F2;rw[h.held]
def cP.f3(h:cP K S L):CF3 K S θ lo hi f↔F3 K.n K.cap L θ lo hi f:=by unfold CF3 F3;rw[h.held]
def One.le{p:Prop}{a:Nat}(h:One p a):a<=1:=by rcases h with⟨rfl,_⟩|⟨rfl,_⟩<;>omega
def cP.u1(h:cP K S L)(hK:bS kp K S θ ai tr C):YC K S lo↔U1 L lo:=by
 constructor
 ·rintro⟨x,h2,hl,rfl,hh⟩;exact⟨(cy hK hl).1 h2,by rw[<-h.count x hl h2,hh]⟩
 rintro⟨hv,hc⟩;obtain⟨x,h2,hl,e,hh⟩:=h.find hK hv zO;exact⟨x,h2,hl,e,by omega⟩
def cP.u2(h:cP K S L)(hK:bS kp K S θ ai tr C):CU2 K S lo hi↔U2 L lo hi:=by
 constructor
 ·rintro⟨x,a,h2,hl,ha,rfl,hh⟩;have:=h.count x hl h2;have:=ha.le;exact⟨(cy hK hl).1 h2,by omega,a,ha,by omega⟩
 rintro⟨hv,hc,a,ha,hh⟩;obtain⟨x,h2,hl,e,hx⟩:=h.find hK hv zO;exact⟨x,a,h2,hl,by rw[e];exact ha,e,by omega⟩
def cP.u3(h:cP K S L)(hK:bS kp K S θ ai tr C):CU3 K S lo hi f↔U3 L lo hi f:=by
 constructor
 ·rintro⟨x,a,b,h2,hl,ha,hb,rfl,hh⟩;have:=h.count x hl h2;have:=ha.le;have:=hb.le;exact⟨(cy hK hl).1 h2,by omega,a,b,ha,hb,by omega⟩
 rintro⟨hv,hc,a,b,ha,hb,hh⟩;obtain⟨x,h2,hl,e,hx⟩:=h.find hK hv zO;exact⟨x,a,b,h2,hl,by rw[e];exact ha,by rw[e];exact hb,e,by omega⟩
def uG.to(h:cP K S L)(hK:bS kp K S θ ai tr C){mask r:Nat}{w:zV}(hr:live K.N r)(hD:uG kp K S θ ai tr q mask r w C'):
  (∃x K' S',w=.tuple #[δ x,iv 0]/\bS kp K' S' θ ai [] C'/\gn K S K' S' (nZ q (ω mask K.n) (S r)) x/\qw K.n K.cap L q mask (S r) θ 0)\/
  (∃(e:Nat) (K':Kd) (S':Nat->ax.Fn) (cC:zL),w=.tuple #[δ 0,iv (e:Int)]/\(e=8\/e=9)/\bS kp K' S' θ ai cC C'/\(cC=[]\/cC=tr)/\Kept K S K' S'/\qw K.n K.cap L q mask (S r) θ e):=by
 rcases hD with⟨x,K',S',e1,h1,h2,h3,h4⟩|⟨e1,⟨K',S',cC,h1,h2,h3⟩,i,hi,hb,hf,hd⟩|⟨e1,⟨K',S',cC,h1,h2,h3⟩,h4⟩
 ·exact .inl ⟨x,K',S',e1,h1,h2,.inl ⟨rfl,λhz=>λhF=>h3 hz ((h.Zu hK hr).2 hF),(h.Up hK).1 h4⟩⟩
 ·exact .inr ⟨9,K',S',cC,e1,.inr rfl,h1,h2,h3,.inr (.inl ⟨rfl,i,hi,hb,λhF=>hf (h.ae7.2 hF),(h.Up hK).1 hd⟩)⟩
 refine .inr ⟨8,K',S',cC,e1,.inl rfl,h1,h2,h3,.inr (.inr ⟨rfl,?_⟩)⟩;rcases h4 with⟨hz,h4⟩|⟨i,hi,hb,hF,hd⟩
 ·exact .inl ⟨hz,(h.Zu hK hr).1 h4⟩
 exact .inr ⟨i,hi,hb,(h.Zt hK).1 hF,(h.Up hK).1 hd⟩
def MF.to(h:cP K S L)(hK:bS kp K S θ ai tr C){w:zV}(hD:MF kp K S θ ai tr lo hi f w C'):
  (∃x K' S',w=.tuple #[δ x,iv 0]/\bS kp K' S' θ ai [] C'/\gn K S K' S' f x/\xx K.n K.cap L lo hi f θ 0)\/
  (∃(e:Nat) (K':Kd) (S':Nat->ax.Fn) (cC:zL),w=.tuple #[δ 0,iv (e:Int)]/\(e=8\/e=9)/\bS kp K' S' θ ai cC C'/\(cC=[]\/cC=tr)/\Kept K S K' S'/\xx K.n K.cap L lo hi f θ e):=by
 have a1:VU K S θ lo/\¬YC K S lo↔F1 K.n K.cap L θ lo/\¬U1 L lo:=and_congr h.f1 (xeL (h.u1 hK));have a2:ZI K S θ lo hi/\¬CU2 K S lo hi↔F2 K.n K.cap L θ lo hi/\¬U2 L lo hi:=and_congr h.f2 (xeL (h.u2 hK));have a3:CF3 K S θ lo hi f/\¬CU3 K S lo hi f↔F3 K.n K.cap L θ lo hi f/\¬U3 L lo hi f:=and_congr h.f3 (xeL (h.u3 hK));rcases hD with⟨x,K',S',e1,h1,h2,h3,h4,h5⟩|⟨e1,⟨K',S',cC,h1,h2,h3⟩,h4⟩|⟨e1,⟨K',S',cC,h1,h2,h3⟩,h4⟩
 ·exact .inl ⟨x,K',S',e1,h1,h2,.inl ⟨rfl,a1.1 h3,a2.1 h4,a3.1 h5⟩⟩
 ·refine .inr ⟨9,K',S',cC,e1,.inr rfl,h1,h2,h3,.inr (.inl ⟨rfl,?_⟩)⟩;rcases h4 with h4|⟨b1,h4⟩|⟨b1,b2,h4⟩
  ·exact .inl λhF=>h4 (h.f1.2 hF)
  ·exact .inr (.inl ⟨a1.1 b1,λhF=>h4 (h.f2.2 hF)⟩)
  exact .inr (.inr ⟨a1.1 b1,a2.1 b2,λhF=>h4 (h.f3.2 hF)⟩)
 refine .inr ⟨8,K',S',cC,e1,.inl rfl,h1,h2,h3,.inr (.inr ⟨rfl,?_⟩)⟩;rcases h4 with h4|⟨b1,h4⟩|⟨b1,b2,h4⟩
 ·exact .inl ((h.u1 hK).1 h4)
 ·exact .inr (.inl ⟨a1.1 b1,(h.u2 hK).1 h4⟩)
 exact .inr (.inr ⟨a1.1 b1,a2.1 b2,(h.u3 hK).1 h4⟩)
end
section
def dQ(n:Nat)(F:Int->ax.Fn)(x:dr):ax.Fn:=match x.op with
 |1=>λy=>y.testBit x.a.toNat
 |2=>λ_=>decide (x.a=1)
 |3=>λy=> !F x.a y
 |4=>λy=>F x.a y&&F x.b y
 |5=>λy=>F x.a y||F x.b y
 |6=>λy=>F x.a y^^F x.b y
 |7=>λy=>if F x.a y then F x.b y else F x.c y
 |8=>λy=>F x.a (an.aC y x.b.toNat (decide (x.c=1)))
 |9=>nZ true (ω x.x n) (F x.a)
 |10=>nZ false (ω x.x n) (F x.a)
 |_=>λy=>if F x.c y then F x.a (an.aC y x.b.toNat true)else F x.a (an.aC y x.b.toNat false)
def nR(n cap:Nat)(L:List ax.Fn)(F:Int->ax.Fn)(x:dr)(θ:zL)(e:Nat):Prop:=
 if x.op=9 then qw n cap L true x.x (F x.a) θ e else if x.op=10 then qw n cap L false x.x (F x.a) θ e else
 if x.op=11 then xx n cap L (λy=>F x.a (an.aC y x.b.toNat false)) (λy=>F x.a (an.aC y x.b.toNat true)) (dQ n F x) θ e else UR n cap L (dQ n F x) θ e
def fL(S:Nat->ax.Fn)(hs:List (Int×Nat)):List ax.Fn:=hs.map λp=>S p.2
def ca(S:Nat->ax.Fn)(hs:List (Int×Nat))(a:Int):ax.Fn:=match aN hs a with|some r=>S r|none=>λ_=>false
variable {sp kp mb nx:Nat} {c:Cf} {K K':Kd} {S S':Nat->ax.Fn} {θ ai bU tr cC o:zL} {hs:List (Int×Nat)} {es:Array MapEntry} {ck:Nat} {C C':Hp}
def X6(h:∀p∈hs,S' p.2=S p.2):fL S' hs=fL S hs:=xbn h
variable{r:Nat}
def bD{a:Int}(h:aN hs a=some r):ca S hs a=S r:=by unfold ca;rw[h]
def gP.find(h:gP kp nx c K S θ ai tr hs es ck C){a:Int}(hm:aN hs a=some r):(a,r)∈hs:=(ef h.dO.nd).1 hm
def Ox(fQ:(hs.map Prod.fst).Nodup)(h:∀p∈hs,S' p.2=S p.2):ca S' hs=ca S hs:=funext λa=>by
 unfold ca;cases hm:aN hs a with
 |none=>rfl
 |some r=>exact h _ ((ef fQ).1 hm)
def gP.same(h:gP kp nx c K S θ ai tr hs es ck C){a b:Nat}(ha:ax.live K.N a)(hb:ax.live K.N b):S a=S b↔a=b:=
 ⟨λe=>h.ks.ok.wf.same h.ks.ok.lv h.ks.ok.mid.int ha hb λx=>congrFun e x,λe=>by rw[e]⟩
def gP.held(h:gP kp nx c K S θ ai tr hs es ck C):K.held S=HF (fL S hs):=funext λg=>propext (by
 constructor
 ·rintro⟨s,hs0,rfl⟩;have h0:K.hold s≠0:=hs0;rw[h.hold]at h0;by_cases h2:2<=s
  ·rw[xae h2]at h0;obtain⟨p,hp,e⟩:=xal.1 (xbP.1 (xeq h0));subst e;exact⟨xal.2 ⟨p,hp,rfl⟩,(cy h.ks (h.live p hp)).1 h2⟩
  rw[xac h2]at h0;exact absurd rfl h0
 rintro⟨hm,hv⟩;obtain⟨p,hp,rfl⟩:=xal.1 hm;have h2:=(cy h.ks (h.live p hp)).2 hv;refine⟨p.2,?_,rfl⟩;show K.hold p.2≠0;rw[h.hold,xae h2];exact xdv (xbP.2 (xaT hp)))
def gP.count(h:gP kp nx c K S θ ai tr hs es ck C)(hr:ax.live K.N r)(h2:2<=r):K.hold r=lH (fL S hs) (S r):=by rw[h.hold,xae h2];unfold lH fL;rw[xeM,List.count,xeM];refine List.countP_congr λp hp=>?_;have:=h.same (h.live p hp) hr;simp only[Function.comp_apply,xcT,xaM];exact this.symm
def gP.full(h:gP kp nx c K S θ ai tr hs es ck C)(hr:K.hold r=65535)(h2:2<=r):mL (fL S hs) (S r):=by have hl:ax.live K.N r:=.inr (h.ks.ok.mid.held r zO);exact⟨(cy h.ks hl).1 h2,by rw[<-h.count hl h2,hr];exact xai _⟩
def gP.done(h:gP kp nx c K S θ ai tr hs es ck C){w:zV}(hD:kH kp K S θ ai tr f w C'):nY kp K S θ ai tr f (UR K.n K.cap (fL S hs) f θ) w C':=by
 rcases hD with(⟨x,K',S',rfl,de,hg⟩|⟨rfl,⟨K',S',cC,de,fm,hk⟩,hf⟩)|⟨rfl,⟨K',S',cC,de,fm,hk⟩,r,h2,hr,rfl⟩
 ·refine .inl ⟨x,K',S',rfl,de,hg,.inl ⟨rfl,by rw[<-h.held];exact hg.Ey h.ks de,?_⟩⟩;rintro⟨hv,hc⟩;have GN:2<=x:=(cy de hg.live).2 (by rw[hg.is];exact hv);have hle:=de.dU x;rw[hg.hold,xae ⟨rfl,GN⟩]at hle;obtain⟨p,hp,e⟩:∃p∈hs,S p.2=f:=by
   have:0<lH (fL S hs) f:=by omega
   obtain⟨g,hg1,VD⟩:=List.countP_pos_iff.1 this;obtain⟨p,hp,rfl⟩:=xal.1 hg1;exact⟨p,hp,by simpa using VD⟩
  have hpx:p.2=x:=de.ok.wf.same de.ok.lv de.ok.mid.int (bC hg.N (h.live p hp)) hg.live λy=>by rw[hg.fn _ (h.live p hp),e,hg.is]
  subst hpx;have:=h.count (h.live p hp) GN;rw[e]at this;omega
 ·exact .inr ⟨9,K',S',cC,rfl,.inr rfl,de,fm,hk,.inr (.inl ⟨rfl,by rw[<-h.held];exact hf⟩)⟩
 exact .inr ⟨8,K',S',cC,rfl,.inl rfl,de,fm,hk,.inr (.inr ⟨rfl,h.full hr h2⟩)⟩
def gP.by(h:gP kp nx c K S θ ai tr hs es ck C):cP K S (fL S hs):=⟨h.held,λr hr h2=>h.count hr h2,λg hg=>by
 obtain⟨p,hp,rfl⟩:=xal.1 hg;exact⟨p.2,h.live p hp,rfl⟩⟩
def gP.each(h:gP kp nx c K S θ ai tr hs es ck C){mask:Nat}{w:zV}(hr:ax.live K.N r)(hD:uG kp K S θ ai tr q mask r w C'):nY kp K S θ ai tr (nZ q (ω mask K.n) (S r)) (qw K.n K.cap (fL S hs) q mask (S r) θ) w C':=by
 rcases hD.to h.by h.ks hr with⟨x,K',S',rfl,de,hg,hT⟩|⟨e,K',S',cC,rfl,he,de,fm,hk,hT⟩
 ·exact .inl ⟨x,K',S',rfl,de,hg,hT⟩
 exact .inr ⟨e,K',S',cC,rfl,he,de,fm,hk,hT⟩
def gP.comp(h:gP kp nx c K S θ ai tr hs es ck C){w:zV}(hD:MF kp K S θ ai tr lo hi f w C'):nY kp K S θ ai tr f (xx K.n K.cap (fL S hs) lo hi f θ) w C':=by
 rcases hD.to h.by h.ks with⟨x,K',S',rfl,de,hg,hT⟩|⟨e,K',S',cC,rfl,he,de,fm,hk,hT⟩
 ·exact .inl ⟨x,K',S',rfl,de,hg,hT⟩
 exact .inr ⟨e,K',S',cC,rfl,he,de,fm,hk,hT⟩
end
section
variable {sp kp mb nx:Nat} {c:Cf} {K:Kd} {S:Nat->ax.Fn} {θ ai tr:zL} {hs:List (Int×Nat)} {es:Array MapEntry} {ck:Nat} {C:Hp} {x:dr}
def O3(hK:bS kp K S θ ai tr C){a b:Nat}(ha:live K.N a)(hb:live K.N b):Fc zQ 66 #[γ kp,δ a,δ b] C (kH kp K S θ ai tr (λy=>S a y&&S b y)):=by refine aJ λg=>PB (ae.fq (jV hK (op:=8) zD ha hb) ?_);intro w H hD;rw[show(λy=>YN 8 (S a y) (S b y))=λy=>S a y&&S b y from funext λy=>by cases S a y<;>cases S b y<;>rfl]at hD;obtain⟨x,e,rfl⟩:=hD.two;exact Ext.two (aQ.here hD)
def UX(hK:bS kp K S θ ai tr C){a b:Nat}(ha:live K.N a)(hb:live K.N b):Fc zQ 67 #[γ kp,δ a,δ b] C (kH kp K S θ ai tr (λy=>S a y||S b y)):=by refine aJ λg=>PA (ae.fq (jV hK (op:=14) zD ha hb) ?_);intro w H hD;rw[show(λy=>YN 14 (S a y) (S b y))=λy=>S a y||S b y from funext λy=>by cases S a y<;>cases S b y<;>rfl]at hD;obtain⟨x,e,rfl⟩:=hD.two;exact Ext.two (aQ.here hD)
def OV(hK:bS kp K S θ ai tr C){a b:Nat}(ha:live K.N a)(hb:live K.N b):Fc zQ 68 #[γ kp,δ a,δ b] C (kH kp K S θ ai tr (λy=>S a y^^S b y)):=by refine aJ λg=>Pz (ae.fq (jV hK (op:=6) zD ha hb) ?_);intro w H hD;rw[show(λy=>YN 6 (S a y) (S b y))=λy=>S a y^^S b y from funext λy=>by cases S a y<;>cases S b y<;>rfl]at hD;obtain⟨x,e,rfl⟩:=hD.two;exact Ext.two (aQ.here hD)
def E9(hK:bS kp K S θ ai tr C)(b:Bool):Fc zQ 64 #[γ kp,.bool b] C (kH kp K S θ ai tr (λ_=>b)):=by
 have hi:=hK.ok.mid.int;refine aJ λg=>PD (ah.aK (Br.no ?_));intro J2 h2;have go:∀r:Nat,r<2->(S r=λ_=>b)->J2 [δ r] C:=λr hr hf=>by
  refine h2 _ _ λ_=>?_;apply ae.fq (nh hK (r:=r) (.inl hr) (λh=>by omega));rintro v H ⟨rfl,K',de,hm⟩;exact aQ.here (.inl (.inl ⟨r,K',S,rfl,de,⟨hm.n,hm.cap,λs d h=>by rw[hm.N];exact h,λ_ _=>rfl,.inl hr,hf,λs=>by rw[hm.hold];split<;>rfl⟩⟩))
 cases b
 ·exact Br.no (JE.mk (go 0 zD (funext hi.zero)))
 exact Br.yes (JE.mk (go 1 zD (funext hi.one)))
def dz{w:Nat}(h:kY n hs w x=0):(HD w x=false/\OU w x=false)/\(Gn n w x=false/\Gm n w x=false/\NM n w x=false)/\(xp hs w x=false/\xm hs w x=false/\Aq hs w x=false):=by
 unfold kY at h;split at h
 ·cases h
 split at h
 ·cases h
 split at h
 ·cases h
 rename_i h1 h2 h3;simp only[xex,xaG]at h1 h2 h3;exact⟨h1,⟨h2.1.1,h2.1.2,h2.2⟩,⟨h3.1.1,h3.1.2,h3.2⟩⟩
def eB{m:List (Int×Nat)}{a:Int}{p:Bool}(h:(p&& !(aN m a).isSome)=false)(hp:p=true):∃r,aN m a=some r:=by
 subst hp;cases hm:aN m a with
 |none=>rw[hm]at h;cases h
 |some r=>exact⟨r,rfl⟩
def FH{a:Int}{p:Bool}(h:(p&& !decide (0<=a/\a<n))=false)(hp:p=true):∃v:Nat,a=v/\v<n:=by
 subst hp;have:0<=a/\a<n:=by simpa using h
 exact⟨a.toNat,by omega,by omega⟩
variable{F:Int->ax.Fn}
def kX(h:x.op<9):nR n cap L F x θ=UR n cap L (dQ n F x) θ:=funext λe=>by
 unfold nR;rw[xac zO,xac zO,xac zO]
def ac8(h:x.op=9):nR n cap L F x θ=qw n cap L true x.x (F x.a) θ:=funext λe=>by
 unfold nR;rw[xae h]
def aae(h:x.op=10):nR n cap L F x θ=qw n cap L false x.x (F x.a) θ:=funext λe=>by
 unfold nR;rw[xac zO,xae h]
def aad(h:x.op=11):nR n cap L F x θ=xx n cap L (λy=>F x.a (an.aC y x.b.toNat false)) (λy=>F x.a (an.aC y x.b.toNat true)) (dQ n F x) θ:=funext λe=>by
 unfold nR;rw[xac zO,xac zO,xae h]
def jI(f:Nat)(op w:Nat):Prop:=∀{sp kp mb nx:Nat} {c:Cf} {K:Kd} {S:Nat->ax.Fn} {θ ai tr:zL} {hs:List (Int×Nat)} {es:Array MapEntry} {ck:Nat} {C:Hp} {x:dr},gP kp nx c K S θ ai tr hs es ck C->x.op=op->x.x<18446744073709551616->kY c.n hs w x=0->
 Fc zQ f #[γ sp,x.v] (gS sp c kp mb nx es ck C) (λv H=>∃C2,H=gS sp c kp mb nx es ck C2/\nY kp K S θ ai tr (dQ c.n (ca S hs) x) (nR c.n c.cap (fL S hs) (ca S hs) x θ) v C2)
def rK:jI 32 1 8:=by
 intro sp kp mb nx c K S θ ai tr hs es ck C x h Δ Vw hl;obtain⟨⟨VJ,VI⟩,⟨SU,Qy,Qx⟩,BL,LP,QH⟩:=dz hl;obtain⟨v,hv,GP⟩:=FH SU zD;refine aJ λg=>P8 λb1 _=>?_;refine DR.of (R:=[(b1,.cells (Value.cells x.v) 35 zZ),jz sp c kp mb nx,(mb,.map es ck)]) (.cons (.cons (.cons λ_ _ h=>h.bA))) (Ld.n (v:=γ kp) (Ld.f (v:=ε x.a) ?_));rw[hv];intro F;refine ae.fq (OW h.ks (v:=v) (by rw[h.n];exact GP)) ?_;rintro w H hD;have hQ:nY kp K S θ ai tr (dQ c.n (ca S hs) x) (nR c.n c.cap (fL S hs) (ca S hs) x θ) w H:=by
  have hq:=h.done hD;rw[h.n,h.cap]at hq;rw[kX zO];have e:dQ c.n (ca S hs) x=λy=>y.testBit x.a.toNat:=by simp only[dQ,Δ]
  rw[e];simp only[hv,xbe];exact hq
 obtain⟨y,e,rfl⟩:=hQ.two;refine⟨.cons (.cons (.cons λ_ _ h=>h.bA)),?_⟩;exact Ext.two (aQ.mk .tail ⟨_,rfl,hQ⟩)
def Bh:jI 33 2 32:=by
 intro sp kp mb nx c K S θ ai tr hs es ck C x h Δ Vw hl;obtain⟨⟨VJ,VI⟩,⟨SU,Qy,Qx⟩,BL,LP,QH⟩:=dz hl;refine aJ λg=>P7 λb1 _=>?_;refine DR.of (R:=[(b1,.cells (Value.cells x.v) 35 zZ),jz sp c kp mb nx,(mb,.map es ck)]) (.cons (.cons (.cons λ_ _ h=>h.bA))) (Ld.n (v:=γ kp) (Ld.f (v:=ε x.a) (ah.iD λF=>(ae.fq (E9 h.ks (decide (x.a=1))) ?_))));rintro w H hD;have hQ:nY kp K S θ ai tr (dQ c.n (ca S hs) x) (nR c.n c.cap (fL S hs) (ca S hs) x θ) w H:=by
  have hq:=h.done hD;rw[h.n,h.cap]at hq;rw[kX zO];have e:dQ c.n (ca S hs) x=λ_=>decide (x.a=1):=by simp only[dQ,Δ]
  rw[e];exact hq
 obtain⟨y,e,rfl⟩:=hQ.two;refine⟨.cons (.cons (.cons λ_ _ h=>h.bA)),?_⟩;exact Ext.two (aQ.mk .tail ⟨_,rfl,hQ⟩)
def Wm:jI 34 3 1:=by
 intro sp kp mb nx c K S θ ai tr hs es ck C x h Δ Vw hl;obtain⟨⟨VJ,VI⟩,⟨SU,Qy,Qx⟩,BL,LP,QH⟩:=dz hl;obtain⟨ra,ha⟩:=eB BL zD;have la:=h.live _ (h.find ha);refine aJ λg=>P6 λb1 _=>?_;refine DR.of (R:=[(b1,.cells (Value.cells x.v) 35 zZ),jz sp c kp mb nx,(mb,.map es ck)]) (.cons (.cons (.cons λ_ _ h=>h.bA))) (Ld.n (v:=γ kp) (Ld.n (v:=.map (some mb)) (Ld.f (v:=ε x.a) (h.dO.hit (k:=x.a) (cm _) (b:=mb) (by exact .tail _ (.tail _ (.head _))) ha λv e=>?_))));subst e;intro F;apply ae.fq (O1 h.ks la);rintro w H hD;have hQ:nY kp K S θ ai tr (dQ c.n (ca S hs) x) (nR c.n c.cap (fL S hs) (ca S hs) x θ) w H:=by
  have hq:=h.done hD;rw[h.n,h.cap]at hq;rw[kX zO];have e:dQ c.n (ca S hs) x=λy=> !ca S hs x.a y:=by simp only[dQ,Δ]
  rw[e];simp only[bD ha];exact hq
 obtain⟨y,e,rfl⟩:=hQ.two;refine⟨.cons (.cons (.cons λ_ _ h=>h.bA)),?_⟩;exact Ext.two (aQ.mk .tail ⟨_,rfl,hQ⟩)
def Li:jI 35 4 3:=by
 intro sp kp mb nx c K S θ ai tr hs es ck C x h Δ Vw hl;obtain⟨⟨VJ,VI⟩,⟨SU,Qy,Qx⟩,BL,LP,QH⟩:=dz hl;obtain⟨ra,ha⟩:=eB BL zD;have la:=h.live _ (h.find ha);obtain⟨rb,hb⟩:=eB LP zD;have lb:=h.live _ (h.find hb);refine aJ λg=>P5 λb1 _=>?_;refine DR.of (R:=[(b1,.cells (Value.cells x.v) 35 zZ),jz sp c kp mb nx,(mb,.map es ck)]) (.cons (.cons (.cons λ_ _ h=>h.bA))) (Ld.n (v:=γ kp) (Ld.n (v:=.map (some mb)) (Ld.f (v:=ε x.a) (h.dO.hit (k:=x.a) (cm _) (b:=mb) (by exact .tail _ (.tail _ (.head _))) ha λv e=>?_))));subst e;refine Ld.n (v:=.map (some mb)) (Ld.f (v:=ε x.b) (h.dO.hit (k:=x.b) (cm _) (b:=mb) (by exact .tail _ (.tail _ (.head _))) hb λv e=>?_));subst e;intro F;apply ae.fq (O3 h.ks la lb);rintro w H hD;have hQ:nY kp K S θ ai tr (dQ c.n (ca S hs) x) (nR c.n c.cap (fL S hs) (ca S hs) x θ) w H:=by
  have hq:=h.done hD;rw[h.n,h.cap]at hq;rw[kX zO];have e:dQ c.n (ca S hs) x=λy=>ca S hs x.a y&&ca S hs x.b y:=by simp only[dQ,Δ]
  rw[e];simp only[bD ha,bD hb];exact hq
 obtain⟨y,e,rfl⟩:=hQ.two;refine⟨.cons (.cons (.cons λ_ _ h=>h.bA)),?_⟩;exact Ext.two (aQ.mk .tail ⟨_,rfl,hQ⟩)
def ZW:jI 36 5 3:=by
 intro sp kp mb nx c K S θ ai tr hs es ck C x h Δ Vw hl;obtain⟨⟨VJ,VI⟩,⟨SU,Qy,Qx⟩,BL,LP,QH⟩:=dz hl;obtain⟨ra,ha⟩:=eB BL zD;have la:=h.live _ (h.find ha);obtain⟨rb,hb⟩:=eB LP zD;have lb:=h.live _ (h.find hb);refine aJ λg=>P4 λb1 _=>?_;refine DR.of (R:=[(b1,.cells (Value.cells x.v) 35 zZ),jz sp c kp mb nx,(mb,.map es ck)]) (.cons (.cons (.cons λ_ _ h=>h.bA))) (Ld.n (v:=γ kp) (Ld.n (v:=.map (some mb)) (Ld.f (v:=ε x.a) (h.dO.hit (k:=x.a) (cm _) (b:=mb) (by exact .tail _ (.tail _ (.head _))) ha λv e=>?_))));subst e;refine Ld.n (v:=.map (some mb)) (Ld.f (v:=ε x.b) (h.dO.hit (k:=x.b) (cm _) (b:=mb) (by exact .tail _ (.tail _ (.head _))) hb λv e=>?_));subst e;intro F;apply ae.fq (UX h.ks la lb);rintro w H hD;have hQ:nY kp K S θ ai tr (dQ c.n (ca S hs) x) (nR c.n c.cap (fL S hs) (ca S hs) x θ) w H:=by
  have hq:=h.done hD;rw[h.n,h.cap]at hq;rw[kX zO];have e:dQ c.n (ca S hs) x=λy=>ca S hs x.a y||ca S hs x.b y:=by simp only[dQ,Δ]
  rw[e];simp only[bD ha,bD hb];exact hq
 obtain⟨y,e,rfl⟩:=hQ.two;refine⟨.cons (.cons (.cons λ_ _ h=>h.bA)),?_⟩;exact Ext.two (aQ.mk .tail ⟨_,rfl,hQ⟩)
def Wc:jI 37 6 3:=by
 intro sp kp mb nx c K S θ ai tr hs es ck C x h Δ Vw hl;obtain⟨⟨VJ,VI⟩,⟨SU,Qy,Qx⟩,BL,LP,QH⟩:=dz hl;obtain⟨ra,ha⟩:=eB BL zD;have la:=h.live _ (h.find ha);obtain⟨rb,hb⟩:=eB LP zD;have lb:=h.live _ (h.find hb);refine aJ λg=>P3 λb1 _=>?_;refine DR.of (R:=[(b1,.cells (Value.cells x.v) 35 zZ),jz sp c kp mb nx,(mb,.map es ck)]) (.cons (.cons (.cons λ_ _ h=>h.bA))) (Ld.n (v:=γ kp) (Ld.n (v:=.map (some mb)) (Ld.f (v:=ε x.a) (h.dO.hit (k:=x.a) (cm _) (b:=mb) (by exact .tail _ (.tail _ (.head _))) ha λv e=>?_))));subst e;refine Ld.n (v:=.map (some mb)) (Ld.f (v:=ε x.b) (h.dO.hit (k:=x.b) (cm _) (b:=mb) (by exact .tail _ (.tail _ (.head _))) hb λv e=>?_));subst e;intro F;apply ae.fq (OV h.ks la lb);rintro w H hD;have hQ:nY kp K S θ ai tr (dQ c.n (ca S hs) x) (nR c.n c.cap (fL S hs) (ca S hs) x θ) w H:=by
  have hq:=h.done hD;rw[h.n,h.cap]at hq;rw[kX zO];have e:dQ c.n (ca S hs) x=λy=>ca S hs x.a y^^ca S hs x.b y:=by simp only[dQ,Δ]
  rw[e];simp only[bD ha,bD hb];exact hq
 obtain⟨y,e,rfl⟩:=hQ.two;refine⟨.cons (.cons (.cons λ_ _ h=>h.bA)),?_⟩;exact Ext.two (aQ.mk .tail ⟨_,rfl,hQ⟩)
def Wo:jI 38 7 7:=by
 intro sp kp mb nx c K S θ ai tr hs es ck C x h Δ Vw hl;obtain⟨⟨VJ,VI⟩,⟨SU,Qy,Qx⟩,BL,LP,QH⟩:=dz hl;obtain⟨ra,ha⟩:=eB BL zD;have la:=h.live _ (h.find ha);obtain⟨rb,hb⟩:=eB LP zD;have lb:=h.live _ (h.find hb);obtain⟨rc,hc⟩:=eB QH zD;have lc:=h.live _ (h.find hc);refine aJ λg=>P2 λb1 _=>?_;refine DR.of (R:=[(b1,.cells (Value.cells x.v) 35 zZ),jz sp c kp mb nx,(mb,.map es ck)]) (.cons (.cons (.cons λ_ _ h=>h.bA))) (Ld.n (v:=γ kp) (Ld.n (v:=.map (some mb)) (Ld.f (v:=ε x.a) (h.dO.hit (k:=x.a) (cm _) (b:=mb) (by exact .tail _ (.tail _ (.head _))) ha λv e=>?_))));subst e;refine Ld.n (v:=.map (some mb)) (Ld.f (v:=ε x.b) (h.dO.hit (k:=x.b) (cm _) (b:=mb) (by exact .tail _ (.tail _ (.head _))) hb λv e=>?_));subst e;refine Ld.n (v:=.map (some mb)) (Ld.f (v:=ε x.c) (h.dO.hit (k:=x.c) (cm _) (b:=mb) (by exact .tail _ (.tail _ (.head _))) hc λv e=>?_));subst e;intro F;apply ae.fq (AE h.ks la lb lc);rintro w H hD;have hQ:nY kp K S θ ai tr (dQ c.n (ca S hs) x) (nR c.n c.cap (fL S hs) (ca S hs) x θ) w H:=by
  have hq:=h.done hD;rw[h.n,h.cap]at hq;rw[kX zO];have e:dQ c.n (ca S hs) x=λy=>if ca S hs x.a y then ca S hs x.b y else ca S hs x.c y:=by simp only[dQ,Δ]
  rw[e];simp only[bD ha,bD hb,bD hc];exact hq
 obtain⟨y,e,rfl⟩:=hQ.two;refine⟨.cons (.cons (.cons λ_ _ h=>h.bA)),?_⟩;exact Ext.two (aQ.mk .tail ⟨_,rfl,hQ⟩)
def Bb:jI 39 8 81:=by
 intro sp kp mb nx c K S θ ai tr hs es ck C x h Δ Vw hl;obtain⟨⟨VJ,VI⟩,⟨SU,Qy,Qx⟩,BL,LP,QH⟩:=dz hl;obtain⟨ra,ha⟩:=eB BL zD;have la:=h.live _ (h.find ha);obtain⟨v,hv,GP⟩:=FH Qy zD;refine aJ λg=>P1 λb1 _=>?_;refine DR.of (R:=[(b1,.cells (Value.cells x.v) 35 zZ),jz sp c kp mb nx,(mb,.map es ck)]) (.cons (.cons (.cons λ_ _ h=>h.bA))) (Ld.n (v:=γ kp) (Ld.n (v:=.map (some mb)) (Ld.f (v:=ε x.a) (h.dO.hit (k:=x.a) (cm _) (b:=mb) (by exact .tail _ (.tail _ (.head _))) ha λv e=>?_))));subst e;refine Ld.f (v:=ε x.b) (Ld.f (v:=ε x.c) (ah.iD ?_));rw[hv];intro F;refine ae.fq (v8 h.ks la (v:=v) (by rw[h.n];exact GP)) ?_;rintro w H hD;have hQ:nY kp K S θ ai tr (dQ c.n (ca S hs) x) (nR c.n c.cap (fL S hs) (ca S hs) x θ) w H:=by
  have hq:=h.done hD;rw[h.n,h.cap]at hq;rw[kX zO];have e:dQ c.n (ca S hs) x=λy=>ca S hs x.a (an.aC y x.b.toNat (decide (x.c=1))):=by simp only[dQ,Δ]
  rw[e];simp only[bD ha,hv,xbe];exact hq
 obtain⟨y,e,rfl⟩:=hQ.two;refine⟨.cons (.cons (.cons λ_ _ h=>h.bA)),?_⟩;exact Ext.two (aQ.mk .tail ⟨_,rfl,hQ⟩)
def F5:jI 40 9 129:=by
 intro sp kp mb nx c K S θ ai tr hs es ck C x h Δ Vw hl;obtain⟨⟨VJ,VI⟩,⟨SU,Qy,Qx⟩,BL,LP,QH⟩:=dz hl;obtain⟨ra,ha⟩:=eB BL zD;have la:=h.live _ (h.find ha);have hm:x.x<2^K.n:=by
  rw[h.n];have:x.x>>>c.n=0:=by simpa[NM]using Qx
  rw[xa0]at this;exact(Nat.div_eq_zero_iff.1 this).resolve_left (xdv (xbx _))
 refine aJ λg=>PZ λb1 _=>?_;refine DR.of (R:=[(b1,.cells (Value.cells x.v) 35 zZ),jz sp c kp mb nx,(mb,.map es ck)]) (.cons (.cons (.cons λ_ _ h=>h.bA))) (Ld.n (v:=γ kp) (Ld.n (v:=.map (some mb)) (Ld.f (v:=ε x.a) (h.dO.hit (k:=x.a) (cm _) (b:=mb) (by exact .tail _ (.tail _ (.head _))) ha λv e=>?_))));subst e;refine Ld.f (v:=χ x.x) λF=>?_;apply ae.fq (Ug h.ks la hm);rintro w H hD;have hQ:nY kp K S θ ai tr (dQ c.n (ca S hs) x) (nR c.n c.cap (fL S hs) (ca S hs) x θ) w H:=by
  have hq:=h.each la hD;rw[h.n,h.cap]at hq;rw[ac8 Δ];have e:dQ c.n (ca S hs) x=nZ true (ω x.x c.n) (ca S hs x.a):=by simp only[dQ,Δ]
  rw[e,bD ha];exact hq
 obtain⟨y,e,rfl⟩:=hQ.two;refine⟨.cons (.cons (.cons λ_ _ h=>h.bA)),?_⟩;exact Ext.two (aQ.mk .tail ⟨_,rfl,hQ⟩)
def F4:jI 41 10 129:=by
 intro sp kp mb nx c K S θ ai tr hs es ck C x h Δ Vw hl;obtain⟨⟨VJ,VI⟩,⟨SU,Qy,Qx⟩,BL,LP,QH⟩:=dz hl;obtain⟨ra,ha⟩:=eB BL zD;have la:=h.live _ (h.find ha);have hm:x.x<2^K.n:=by
  rw[h.n];have:x.x>>>c.n=0:=by simpa[NM]using Qx
  rw[xa0]at this;exact(Nat.div_eq_zero_iff.1 this).resolve_left (xdv (xbx _))
 refine aJ λg=>PY λb1 _=>?_;refine DR.of (R:=[(b1,.cells (Value.cells x.v) 35 zZ),jz sp c kp mb nx,(mb,.map es ck)]) (.cons (.cons (.cons λ_ _ h=>h.bA))) (Ld.n (v:=γ kp) (Ld.n (v:=.map (some mb)) (Ld.f (v:=ε x.a) (h.dO.hit (k:=x.a) (cm _) (b:=mb) (by exact .tail _ (.tail _ (.head _))) ha λv e=>?_))));subst e;refine Ld.f (v:=χ x.x) λF=>?_;apply ae.fq (Ub h.ks la hm);rintro w H hD;have hQ:nY kp K S θ ai tr (dQ c.n (ca S hs) x) (nR c.n c.cap (fL S hs) (ca S hs) x θ) w H:=by
  have hq:=h.each la hD;rw[h.n,h.cap]at hq;rw[aae Δ];have e:dQ c.n (ca S hs) x=nZ false (ω x.x c.n) (ca S hs x.a):=by simp only[dQ,Δ]
  rw[e,bD ha];exact hq
 obtain⟨y,e,rfl⟩:=hQ.two;refine⟨.cons (.cons (.cons λ_ _ h=>h.bA)),?_⟩;exact Ext.two (aQ.mk .tail ⟨_,rfl,hQ⟩)
def Dx:jI 42 11 21:=by
 intro sp kp mb nx c K S θ ai tr hs es ck C x h Δ Vw hl;obtain⟨⟨VJ,VI⟩,⟨SU,Qy,Qx⟩,BL,LP,QH⟩:=dz hl;obtain⟨ra,ha⟩:=eB BL zD;have la:=h.live _ (h.find ha);obtain⟨rc,hc⟩:=eB QH zD;have lc:=h.live _ (h.find hc);obtain⟨v,hv,GP⟩:=FH Qy zD;refine aJ λg=>PX λb1 _=>?_;refine DR.of (R:=[(b1,.cells (Value.cells x.v) 35 zZ),jz sp c kp mb nx,(mb,.map es ck)]) (.cons (.cons (.cons λ_ _ h=>h.bA))) (Ld.n (v:=γ kp) (Ld.n (v:=.map (some mb)) (Ld.f (v:=ε x.a) (h.dO.hit (k:=x.a) (cm _) (b:=mb) (by exact .tail _ (.tail _ (.head _))) ha λv e=>?_))));subst e;apply Ld.f (v:=ε x.b);rw[hv];refine Ld.n (v:=.map (some mb)) (Ld.f (v:=ε x.c) (h.dO.hit (k:=x.c) (cm _) (b:=mb) (by exact .tail _ (.tail _ (.head _))) hc λv e=>?_));subst e;intro F;refine ae.fq (abA h.ks la (v:=v) (by rw[h.n];exact GP) lc) ?_;rintro w H hD;have hQ:nY kp K S θ ai tr (dQ c.n (ca S hs) x) (nR c.n c.cap (fL S hs) (ca S hs) x θ) w H:=by
  have hq:=h.comp hD;rw[h.n,h.cap]at hq;rw[aad Δ];have e:dQ c.n (ca S hs) x=λy=>if ca S hs x.c y then ca S hs x.a (an.aC y x.b.toNat true)else ca S hs x.a (an.aC y x.b.toNat false):=by simp only[dQ,Δ]
  rw[e];simp only[bD ha,bD hc,hv,xbe];exact hq
 obtain⟨y,e,rfl⟩:=hQ.two;refine⟨.cons (.cons (.cons λ_ _ h=>h.bA)),?_⟩;exact Ext.two (aQ.mk .tail ⟨_,rfl,hQ⟩)
end
section
variable {sp kp mb nx:Nat} {c:Cf} {K:Kd} {S:Nat->ax.Fn} {θ ai tr:zL} {hs:List (Int×Nat)} {es:Array MapEntry} {ck:Nat} {C:Hp} {x:dr}
theorem WZ{w f:Nat}(h:gP kp nx c K S θ ai tr hs es ck C)(hw:w<256)(hx:x.x<18446744073709551616)(hl:kY c.n hs w x≠0):
  Rd zQ 22 #[γ sp,x.v,.agg (Lz (w,f)).toArray] (gS sp c kp mb nx es ck C) (· =fi (kY c.n hs w x) (-1) 0 0):=by
 refine aJ λg=>AW λb1 _ b3 _ b5 _=>?_;refine aB.q (r:=x.cells) (Ld.f (v:=.int .u8 (w:Int)) (ae.eq (look_ok h hw hx) (ah.cM (Br.T ?_ hl))));refine ae.eq (cE _ _) (St.p (r:=[ε (kY c.n hs w x),ε (-1),χ 0,ε 0]) (bN _ _ _ _) ?_);refine aB.q ?_;exact br.mk (.skip (.skip .tail)) rfl
def nB(op:Nat):Option Nat:=
 if op=23 then some 57 else if op=22 then some 56 else if op=21 then some 55 else if op=20 then some 54 else
 if op=19 then some 53 else if op=18 then some 52 else if op=17 then some 51 else if op=16 then some 50 else
 if op=15 then some 49 else if op=14 then some 48 else if op=13 then some 47 else if op=12 then some 46 else none
def OY:Fc zQ 23 #[] [] (λv H=>∃b es ck m,v=.map (some b)/\H=[(b,.map es ck)]/\aI (kI .u8) (λv (p:Nat)=>v=.func (.func p) #[] #[]) es ck m/\∀op:Nat,aN m (op:Int)=nB op):=by
 refine aJ λg=>Qf λb _=>?_;have bt:∀{k:Int} {p:Nat} {es:Array MapEntry} {ck:Nat} {m:List (Int×Nat)} {Q:Hp->Prop},aI (kI .u8) (λv (p:Nat)=>v=.func (.func p) #[] #[]) es ck m->(∀τ bF,aI (kI .u8) (λv (p:Nat)=>v=.func (.func p) #[] #[]) τ bF (eu m k p)->Q [(b,.map τ bF)])->
   aY (.int .u8) [(b,.map es ck)] (.map (some b)) (kI .u8 k) (.func (.func p) #[] #[]) Q:=λ{k p es ck m Q} he hq=>
  aI.bt (cm _) (BC _) he rfl λτ bF he'=>⟨_,.head _,hq τ bF he'⟩
 refine bt (k:=12) aI.empty λ_ _ h=>?_;refine bt (k:=13) h λ_ _ h=>?_;refine bt (k:=14) h λ_ _ h=>?_;refine bt (k:=15) h λ_ _ h=>?_;refine bt (k:=16) h λ_ _ h=>?_;refine bt (k:=17) h λ_ _ h=>?_;refine bt (k:=18) h λ_ _ h=>?_;refine bt (k:=19) h λ_ _ h=>?_;refine bt (k:=20) h λ_ _ h=>?_;refine bt (k:=21) h λ_ _ h=>?_;refine bt (k:=22) h λ_ _ h=>?_;refine bt (k:=23) h λ_ _ h=>?_;refine aQ.mk (.refl _) ⟨b,_,_,_,rfl,rfl,h,λop=>?_⟩;simp only[bP];have:∀j:Nat,((op:Int)=(j:Int))=(op=j):=λj=>propext zO;have e:=this 12;have e2:=this 13;have e3:=this 14;have e4:=this 15;have e5:=this 16;have e6:=this 17;have e7:=this 18;have e8:=this 19;have e9:=this 20;have e10:=this 21;have e11:=this 22;have e12:=this 23
 simp only[Int.cast_ofNat_Int]at*;simp only[e,e2,e3,e4,e5,e6,e7,e8,e9,e10,e11,e12];rfl
def abT(v:zV):Prop:=∃(e h:Int) (n:Nat) (t:Int),v=fi e h n t
set_option maxHeartbeats 1000000 in
theorem rL{Q:zV->Hp->Prop}(hQ:∀v H,Q v H->abT v)
 (h1:∀w f,fP x.op=some (w,f)->Fc zQ 22 #[γ sp,x.v,.agg (Lz (w,f)).toArray] C Q)
 (h2:∀f,fP x.op=none->nB x.op=some f->aW zQ f=true->Fc zQ f #[γ sp,x.v] C Q)
 (h3:fP x.op=none->nB x.op=none->Q (fi 12 (-1) 0 0) C):Fc zQ 9 #[γ sp,x.v] C Q:=by
 refine aJ λg=>Vj λb1 _ b3 _=>?_;refine ah.aK (Br.no (DR.of (R:=(b1,.cells x.cells.toArray 35 zZ)::[]) (.skip (.cons λ_ _ h=>h.bA)) (Ld.f (v:=.int .u8 (x.op:Int)) λF=>?_)));refine ae.fn hnew NT ?_;rintro w H ⟨bm,kR,j7,m1,rfl,rfl,VM,uO⟩;refine⟨.skip (.skip (.cons λ_ _ h=>h.bA)),?_⟩;refine⟨[(b1,.cells x.cells.toArray 35 zZ),(bm,.map kR j7)],(aO.perm (List.Perm.swap _ _ _)).trans (.skip ?_),.cons (λ_ _ h=>h.bA),?_⟩
 ·exact(aO.perm (List.Perm.swap _ _ _)).trans (.cons (.cons λ_ _ h=>h.bA))
 refine VM.look (k:=(x.op:Int)) (cm _) (by exact .tail _ (.head _)) (λp v hp hv=>?_) (λhp=>?_)
 ·subst hv;obtain⟨w,f⟩:=p;rw[uO]at hp;refine Ext.two λxH _=>λF=>?_;refine St.p (r:=Lz (w,f)) (λu hu=>by simp only[Lz,xak,xaQ,xbi]at hu;rcases hu with rfl|rfl<;>rfl) (⟨.skip ((aO.perm (List.Perm.swap _ _ _)).trans (.skip ((aO.perm (List.Perm.swap _ _ _)).trans (.cons (.cons λ_ _ h=>h.bA))))),?_⟩);refine Br.yes (aB.q (r:=x.cells) (aB.q (r:=Lz (w,f)) (ae.fq (h1 w f hp) ?_)));intro v H hv;obtain⟨e,h,n,t,rfl⟩:=hQ v H hv;refine St.p (r:=[ε e,ε h,χ n,ε t]) (bN _ _ _ _) ?_;refine aB.q ?_;exact aQ.mk (.skip (.skip (.skip .tail))) hv
 rw[uO]at hp;refine Ext.two λxH _=>λF=>?_;refine St.p (r:=[.int .u8 0,.nilFunc]) (by simp[Value.oneCell']) (⟨.skip ((aO.perm (List.Perm.swap _ _ _)).trans (.skip ((aO.perm (List.Perm.swap _ _ _)).trans (.cons (.cons λ_ _ h=>h.bA))))),?_⟩);refine Br.no (DR.of (R:=(b1,.cells x.cells.toArray 35 zZ)::[]) (.skip (.skip (.skip (.cons λ_ _ h=>h.bA)))) (Ld.f (v:=.int .u8 (x.op:Int)) λF=>?_));refine ae.fn hnew OY ?_;rintro w H ⟨ba,ic,iO,m2,rfl,rfl,tw,mC⟩;refine⟨.skip (.skip (.skip (.skip (.cons λ_ _ h=>h.bA)))),?_⟩;refine⟨[(b1,.cells x.cells.toArray 35 zZ),(ba,.map ic iO)],?_,.cons (λ_ _ h=>h.bA),?_⟩
 ·refine(aO.perm ((List.Perm.cons _ (List.Perm.cons _ (List.Perm.cons _ (List.Perm.swap _ _ _)))).trans ((List.Perm.cons _ (List.Perm.cons _ (List.Perm.swap _ _ _))).trans ((List.Perm.cons _ (List.Perm.swap _ _ _)).trans (List.Perm.swap _ _ _))))).trans ?_;exact .cons ((aO.perm (List.Perm.swap _ _ _)).trans (.skip ((aO.perm (List.Perm.swap _ _ _)).trans (.skip ((aO.perm (List.Perm.swap _ _ _)).trans (.skip (.cons λ_ _ h=>h.bA)))))))
 refine tw.look (k:=(x.op:Int)) (cm _) (by exact .tail _ (.head _)) (λf v hf hv=>?_) (λhf=>?_)
 ·subst hv;rw[mC]at hf;have fX:aW zQ f=true:=by
   unfold nB at hf
   repeat' split at hf
   all_goals first|(cases hf;kernel_rfl)|cases hf
  refine Ext.two (Br.yes (aB.q (r:=x.cells) (aM.of rfl fX (ae.fq (args:=#[γ sp,x.v]) (h2 f hp hf fX) ?_))));intro v H hv;obtain⟨e,h,n,t,rfl⟩:=hQ v H hv;refine St.p (r:=[ε e,ε h,χ n,ε t]) (bN _ _ _ _) ?_;refine aB.q ?_;exact aQ.mk (.skip (.skip (.skip (.skip .tail)))) hv
 rw[mC]at hf;refine Ext.two (Br.no (ae.eq (cE _ _) (St.p (r:=[ε 12,ε (-1),χ 0,ε 0]) (bN _ _ _ _) ?_)));refine aB.q ?_;exact aQ.mk (.skip (.skip (.skip (.skip .tail)))) (h3 hp hf)
end
section
variable {sp kp mb nx:Nat} {c:Cf} {K:Kd} {S:Nat->ax.Fn} {θ ai tr:zL} {hs:List (Int×Nat)} {es:Array MapEntry} {ck:Nat} {C:Hp} {x:dr}
theorem RH(h:gP kp nx c K S θ ai tr hs es ck C)(hx:x.x<18446744073709551616):
  Rd zQ 48 #[γ sp,x.v] (gS sp c kp mb nx es ck C) (· =if(aN hs x.a).isSome then fi 0 (-1) (ca S hs x.a x.x).toNat 0 else fi 3 (-1) 0 0):=by
 refine aJ λg=>PU λb1 _ b3 _=>?_;refine Ld.f (v:=ε x.a) (ae.eq (eV h x.a) (Un.not ?_));cases hm:aN hs x.a with
 |none=>
  refine Br.yes (ae.eq (cE _ _) (St.p (r:=[ε 3,ε (-1),χ 0,ε 0]) (bN _ _ _ _) ?_));refine aB.q ?_;exact br.mk (.skip .tail) rfl
 |some r=>
  apply Br.no;have hl:=h.live _ (h.find hm);refine DR.of (.refl _) (Ld.n (v:=γ kp) (Ld.n (v:=.map (some mb)) (Ld.f (v:=ε x.a) (h.dO.hit (k:=x.a) (cm _) (b:=mb) (by exact .tail _ (.tail _ (.tail _ (.head _)))) hm λv e=>?_))));subst e;refine Ld.f (v:=χ x.x) λF=>?_;refine ae.eq (args:=#[γ kp,δ r,χ x.x]) (UF h.ks hl hx) (⟨.refl _,?_⟩);refine Ext.two (ae.eq (Lg _ _) (ae.eq (dW _ 0 _) (St.p (r:=[ε 0,ε (-1),χ (S r x.x).toNat,ε 0]) (bN _ _ _ _) ?_)));refine aB.q ?_;exact br.mk (.skip .tail) (by rw[bD hm];rfl)
theorem Rz(h:gP kp nx c K S θ ai tr hs es ck C):
  Rd zQ 49 #[γ sp,x.v] (gS sp c kp mb nx es ck C) (λw=>w=if(aN hs x.a).isSome&& (aN hs x.b).isSome then fi 0 (-1) (@decide (ca S hs x.a=ca S hs x.b) (Classical.propDecidable _)).toNat 0 else fi 3 (-1) 0 0):=by
 refine aJ λg=>PT λb1 _ b3 _ J5 h5=>?_;have no:((aN hs x.a).isSome&& (aN hs x.b).isSome)=false->J5 [.bool true] ((b3,.cells #[ε 0,ε 0,χ 0,ε 0] 37 zZ)::(b1,.cells (Value.cells x.v) 35 zZ)::gS sp c kp mb nx es ck C):=λhb=>by
  refine h5 _ _ λ_=>Br.yes ?_;refine ae.eq (cE _ _) (St.p (r:=[ε 3,ε (-1),χ 0,ε 0]) (bN _ _ _ _) ?_);refine aB.q ?_;exact br.mk (.skip .tail) (by rw[hb];rfl)
 refine Ld.f (v:=ε x.a) (ae.eq (eV h x.a) (Un.not ?_));cases hm:aN hs x.a with
 |none=>exact Split.NG rfl (aG.mk (JE.mk (no (by rw[hm];rfl))))
 |some r=>
 refine Split.go rfl (Ld.f (v:=ε x.b) (ae.eq (eV h x.b) (Un.not (aG.mk ?_))));cases mC:aN hs x.b with
 |none=>exact JE.mk (no (by rw[mC];exact xdX _))
 |some q=>
 refine JE.mk (h5 _ _ λ_=>Br.no ?_);have hl:=h.live _ (h.find hm);have q8:=h.live _ (h.find mC);refine DR.of (.refl _) (Ld.n (v:=.map (some mb)) (Ld.f (v:=ε x.a) (h.dO.hit (k:=x.a) (cm _) (b:=mb) (by exact .tail _ (.tail _ (.tail _ (.head _)))) hm λv e=>?_)));subst e;refine Ld.n (v:=.map (some mb)) (Ld.f (v:=ε x.b) (h.dO.hit (k:=x.b) (cm _) (b:=mb) (by exact .tail _ (.tail _ (.tail _ (.head _)))) mC λv e=>?_));subst e;refine ah.fc ?_;have e:decide (r=q)= @decide (ca S hs x.a=ca S hs x.b) (Classical.propDecidable _):=by
  by_cases hq:r=q
  ·rw[xam hq];exact(@decide_eq_true _ (Classical.propDecidable _) (by rw[bD hm,bD mC];exact(h.same hl q8).2 hq)).symm
  rw[xan hq];exact(@decide_eq_false _ (Classical.propDecidable _) (by rw[bD hm,bD mC];exact λe=>hq ((h.same hl q8).1 e))).symm
 rw[e];intro F;refine ae.eq (Lg _ _) λF=>?_;refine ae.eq (dW _ 0 _) λF=>?_;refine St.p (r:=[ε 0,ε (-1),χ _,ε 0]) (bN _ _ _ _) ?_;refine aB.q ?_;exact br.mk (.skip .tail) (by rw[hm,mC];rfl)
theorem RC(h:gP kp nx c K S θ ai tr hs es ck C):
  Rd zQ 52 #[γ sp,x.v] (gS sp c kp mb nx es ck C) (· =fi 0 (-1) (cK K S θ) 0):=by
 have hle:=gB h.ks.bg;refine aJ λg=>PN λb1 _ b3 _=>?_;refine Ld.n (v:=γ kp) ?_;refine ae.eq (cI h.ks.bg) (bu.q (ae.eq (dW _ 0 _) (St.p (r:=[ε 0,ε (-1),χ (cK K S θ),ε 0]) (bN _ _ _ _) ?_)));refine aB.q ?_;exact br.mk (.skip .tail) rfl
theorem Nf(h:gP kp nx c K S θ ai tr hs es ck C)(hv:x.a<0\/(c.n:Int)<=x.a):
  Rd zQ 55 #[γ sp,x.v] (gS sp c kp mb nx es ck C) (· =fi 2 (-1) 0 0):=by
 refine aJ λg=>AS λb1 _ b3 _=>?_;refine DR.of (.refl _) (Ld.n (v:=γ kp) (Ld.f (v:=ε x.a) λF=>?_));refine ae.eq (args:=#[γ kp,ε x.a]) (EX h.ks.bg (by rw[h.n];exact hv)) (⟨.refl _,Ext.two ?_⟩);refine bu.q (a:=0) (ae.eq (dW 0 2 _) (St.p (r:=[ε 2,ε (-1),χ 0,ε 0]) (bN _ _ _ _) ?_));refine aB.q ?_;exact br.mk (.skip .tail) rfl
theorem Ng(h:gP kp nx c K S θ ai tr hs es ck C){v:Nat}(hx:x.a=v)(hv:v<c.n):
  Rd zQ 55 #[γ sp,x.v] (gS sp c kp mb nx es ck C) (λw=>∃p,p<c.n/\θ.getD p 0=v/\w=fi 0 (-1) p 0):=by
 have hn:=h.ks.bg.mq;refine aJ λg=>AS λb1 _ b3 _=>?_;refine DR.of (.refl _) (Ld.n (v:=γ kp) (Ld.f (v:=ε x.a) ?_));rw[hx];intro F;refine ae.rq (args:=#[γ kp,ε (v:Int)]) (EY h.ks.bg (by rw[h.n];exact hv)) ?_;rintro w ⟨p,hp,Δ,rfl⟩;refine⟨.refl _,Ext.two ?_⟩;refine bu.q (ae.eq (dW p 0 _) (St.p (r:=[ε 0,ε (-1),χ p,ε 0]) (bN _ _ _ _) ?_));refine aB.q ?_;exact br.mk (.skip .tail) ⟨p,by rw[<-h.n];exact hp,Δ,rfl⟩
variable{P:Nat->Int->Prop}
theorem Ry(h:gP kp nx c K S θ ai tr hs es ck C)(TG:∀r,aN hs x.a=some r->Rd zQ 89 #[γ kp,δ r] C (λv=>∃n e,P n e/\v=.tuple #[χ n,ε e])):
  Rd zQ 50 #[γ sp,x.v] (gS sp c kp mb nx es ck C) (λv=>((aN hs x.a).isSome=false/\v=fi 3 (-1) 0 0)\/((aN hs x.a).isSome=true/\∃n e,P n e/\v=if e=0 then fi 0 (-1) n 0 else fi e (-1) 0 0)):=by
 refine aJ λg=>PR λb1 _ b3 _=>?_;refine Ld.f (v:=ε x.a) (ae.eq (eV h x.a) (Un.not ?_));cases hm:aN hs x.a with
 |none=>
  refine Br.yes (ae.eq (cE _ _) (St.p (r:=[ε 3,ε (-1),χ 0,ε 0]) (bN _ _ _ _) ?_));refine aB.q ?_;exact br.mk (.skip .tail) (.inl ⟨rfl,rfl⟩)
 |some r=>
  refine Br.no (DR.of (.refl _) (Ld.n (v:=γ kp) (Ld.n (v:=.map (some mb)) (Ld.f (v:=ε x.a) (h.dO.hit (k:=x.a) (cm _) (b:=mb) (by exact .tail _ (.tail _ (.tail _ (.head _)))) hm λv e=>?_)))));subst e;intro F;refine ae.rq (args:=#[γ kp,δ r]) (TG r hm) ?_;rintro w ⟨n,e,hP,rfl⟩;refine⟨.refl _,?_⟩;refine Ext.two λF=>(ae.eq (dW n e _) ?_);intro F;by_cases he:e=0
  ·rw[xae he];refine St.p (r:=[ε 0,ε (-1),χ n,ε 0]) (bN _ _ _ _) ?_;refine aB.q ?_;exact br.mk (.skip .tail) (.inr ⟨rfl,n,e,hP,by rw[xae he]⟩)
  rw[xac he];refine St.p (r:=[ε e,ε (-1),χ 0,ε 0]) (bN _ _ _ _) ?_;refine aB.q ?_;exact br.mk (.skip .tail) (.inr ⟨rfl,n,e,hP,by rw[xac he]⟩)
theorem Nh(h:gP kp nx c K S θ ai tr hs es ck C)(TG:∀r,aN hs x.a=some r->Rd zQ 91 #[γ kp,δ r] C (λv=>∃n e,P n e/\v=.tuple #[χ n,ε e])):
  Rd zQ 53 #[γ sp,x.v] (gS sp c kp mb nx es ck C) (λv=>((aN hs x.a).isSome=false/\v=fi 3 (-1) 0 0)\/((aN hs x.a).isSome=true/\∃n e,P n e/\v=if e=0 then fi 0 (-1) n 0 else fi e (-1) 0 0)):=by
 refine aJ λg=>PM λb1 _ b3 _=>?_;refine Ld.f (v:=ε x.a) (ae.eq (eV h x.a) (Un.not ?_));cases hm:aN hs x.a with
 |none=>
  refine Br.yes (ae.eq (cE _ _) (St.p (r:=[ε 3,ε (-1),χ 0,ε 0]) (bN _ _ _ _) ?_));refine aB.q ?_;exact br.mk (.skip .tail) (.inl ⟨rfl,rfl⟩)
 |some r=>
  refine Br.no (DR.of (.refl _) (Ld.n (v:=γ kp) (Ld.n (v:=.map (some mb)) (Ld.f (v:=ε x.a) (h.dO.hit (k:=x.a) (cm _) (b:=mb) (by exact .tail _ (.tail _ (.tail _ (.head _)))) hm λv e=>?_)))));subst e;intro F;refine ae.rq (args:=#[γ kp,δ r]) (TG r hm) ?_;rintro w ⟨n,e,hP,rfl⟩;refine⟨.refl _,?_⟩;refine Ext.two λF=>(ae.eq (dW n e _) ?_);intro F;by_cases he:e=0
  ·rw[xae he];refine St.p (r:=[ε 0,ε (-1),χ n,ε 0]) (bN _ _ _ _) ?_;refine aB.q ?_;exact br.mk (.skip .tail) (.inr ⟨rfl,n,e,hP,by rw[xae he]⟩)
  rw[xac he];refine St.p (r:=[ε e,ε (-1),χ 0,ε 0]) (bN _ _ _ _) ?_;refine aB.q ?_;exact br.mk (.skip .tail) (.inr ⟨rfl,n,e,hP,by rw[xac he]⟩)
theorem Dm(h:gP kp nx c K S θ ai tr hs es ck C)(TG:∀r,aN hs x.a=some r->Rd zQ 92 #[γ kp,δ r] C (λv=>∃n e,P n e/\v=.tuple #[χ n,ε e])):
  Rd zQ 54 #[γ sp,x.v] (gS sp c kp mb nx es ck C) (λv=>((aN hs x.a).isSome=false/\v=fi 3 (-1) 0 0)\/((aN hs x.a).isSome=true/\∃n e,P n e/\v=if e=0 then fi 0 (-1) n 0 else fi e (-1) 0 0)):=by
 refine aJ λg=>PK ?_;intro b1 _ b3 _;refine Ld.f (v:=ε x.a) ?_;refine ae.eq (eV h x.a) (Un.not ?_);cases hm:aN hs x.a with
 |none=>
  refine Br.yes (ae.eq (cE _ _) (St.p (r:=[ε 3,ε (-1),χ 0,ε 0]) (bN _ _ _ _) ?_));refine aB.q ?_;exact br.mk (.skip .tail) (.inl ⟨rfl,rfl⟩)
 |some r=>
  refine Br.no (DR.of (.refl _) (Ld.n (v:=γ kp) ?_));refine Ld.n (v:=.map (some mb)) ?_;refine Ld.f (v:=ε x.a) ?_;refine h.dO.hit (k:=x.a) (cm _) (b:=mb) (by exact .tail _ (.tail _ (.tail _ (.head _)))) hm λv e=>?_;subst e;intro F;refine ae.rq (args:=#[γ kp,δ r]) (TG r hm) ?_;rintro w ⟨n,e,hP,rfl⟩;refine⟨.refl _,?_⟩;apply Ext.two;intro F;refine ae.eq (dW n e _) ?_;intro F;by_cases he:e=0
  ·rw[xae he];refine St.p (r:=[ε 0,ε (-1),χ n,ε 0]) (bN _ _ _ _) ?_;refine aB.q ?_;exact br.mk (.skip .tail) (.inr ⟨rfl,n,e,hP,by rw[xae he]⟩)
  rw[xac he];refine St.p (r:=[ε e,ε (-1),χ 0,ε 0]) (bN _ _ _ _) ?_;refine aB.q ?_;exact br.mk (.skip .tail) (.inr ⟨rfl,n,e,hP,by rw[xac he]⟩)
end
structure Rp where
 e:Int
 h:Int
 n:Nat
 t:Int
def Rp.cells(r:Rp):List zV:=[ε r.e,ε r.h,χ r.n,ε r.t]
abbrev Rp.v(r:Rp):zV:=.agg r.cells.toArray
def Rp.eq(a b:Rp):Bool:=decide (a.e=b.e) && (decide (a.h=b.h) && (decide (a.n=b.n) &&decide (a.t=b.t)))
def Rp.eq_iff{a b:Rp}:Rp.eq a b=true↔a=b:=by obtain⟨a1,a2,a3,a4⟩:=a;obtain⟨b1,b2,b3,b4⟩:=b;simp[Rp.eq]
def Rp.one(r:Rp):∀u∈r.cells,u.oneCell'=true:=bN _ _ _ _
def Uf:(Tryz.prog.fieldsOf 37).toList.map (λf=>(f.name,f.type,f.offset))=[("E",27,0),("H",3,1),("N",33,2),("Tries",3,3)]:=by kernel_rfl
def K9:Tryz.prog.underlying 3=some (.int .i64):=by kernel_rfl
def Wq:Tryz.prog.underlying 27=some (.int .i64):=by kernel_rfl
def KZ:Tryz.prog.underlying 33=some (.int .u64):=by kernel_rfl
def agP{g:Gh}{H:Hp}{o:Oper}{ρ:Operand->zV}{k:zV->Prop}{neq:Bool}{x y:Operand}{a b:Rp}(ho:o.op=.binOp (cond neq .neq .eql) 37 x y 37)(hx:ρ x=a.v)(hy:ρ y=b.v)
 (hk:k (.bool (cond neq (!Rp.eq a b) (Rp.eq a b)))):iQ zQ g o ρ H k:=by
 refine iQ.struct (neq:=neq) ho hx hy zK zK zK (b:=Rp.eq a b) ?_ hk;intro w;have h:=Uf;generalize (Tryz.prog.fieldsOf 37).toList=fs at h;rcases fs with _|⟨f1,_|⟨f2,_|⟨f3,_|⟨f4,_|⟨f5,fs⟩⟩⟩⟩⟩<;>simp only[xay,xcd,xaw,xdf,xaW,reduceCtorEq,xdw]at h;obtain⟨⟨n1,t1,o1⟩,⟨n2,t2,o2⟩,⟨n3,t3,o3⟩,n4,t4,o4⟩:=h;have p1:∀(r:Rp) w,(part 27 r.cells.toArray 0).run zQ w=.ok (ε r.e) w:=λr w=>run_part_plain (w:=w) zK rfl;have p2:∀(r:Rp) w,(part 3 r.cells.toArray 1).run zQ w=.ok (ε r.h) w:=λr w=>run_part_plain (w:=w) zK rfl;have p3:∀(r:Rp) w,(part 33 r.cells.toArray 2).run zQ w=.ok (χ r.n) w:=λr w=>run_part_plain (w:=w) zK rfl;have p4:∀(r:Rp) w,(part 3 r.cells.toArray 3).run zQ w=.ok (ε r.t) w:=λr w=>run_part_plain (w:=w) zK rfl;have dq:∀x y:Int,(x==y)=decide (x=y):=λx y=>by rw[xbH];simp
 have q1:∀(x y:Int) w,(Op.equalIn 9999 27 (ε x) (ε y)).run zQ w=.ok (decide (x=y)) w:=λx y w=>by
  rw[run_equalIn_int w 9998 27 .i64 _ _ _ Wq,dq]
 have q2:∀(x y:Int) w,(Op.equalIn 9999 3 (ε x) (ε y)).run zQ w=.ok (decide (x=y)) w:=λx y w=>by
  rw[run_equalIn_int w 9998 3 .i64 _ _ _ K9,dq]
 have q3:∀(x y:Nat) w,(Op.equalIn 9999 33 (χ x) (χ y)).run zQ w=.ok (decide (x=y)) w:=λx y w=>by
  rw[run_equalIn_int w 9998 33 .u64 _ _ _ KZ,dq];congr 1;exact xb1.2 Int.ofNat_inj
 show(Op.eqFields 9999 a.cells.toArray b.cells.toArray [f1,f2,f3,f4]).run zQ w=_;simp only[Op.eqFields,n1,n2,n3,n4,t1,t2,t3,t4,o1,o2,o3,o4,Sem.run_bind,p1,p2,p3,p4,q1,q2,q3,Result.andThen_ok,Sem.run_ite,Sem.run_pure];unfold Rp.eq;by_cases h1:a.e=b.e<;>by_cases h2:a.h=b.h<;>by_cases h3:a.n=b.n<;>by_cases h4:a.t=b.t<;>simp[h1,h2,h3,h4]
def rO:List Rp->List Rp->Bool
 | [],[]=>true
 |a::l,b::r=>Rp.eq a b&&rO l r
 |_,_=>false
def gI:∀{l r:List Rp},rO l r=true↔l=r
 | [],[]=>by simp[rO]
 | [],_::_=>by simp[rO]
 |_::_,[]=>by simp[rO]
 |a::l,b::r=>by simp[rO,Rp.eq_iff,gI]
theorem pD{B:Hp}{va vb:zV}{l r:List Rp}(hl:Sl 4 B va (l.map Rp.cells))(hr:Sl 4 B vb (r.map Rp.cells))(cB:l.length<9223372036854775807):Rd zQ 10 #[va,vb] B (· =.bool (rO l r)):=by
 refine aJ λg=>Qp (hl.bL ?_);refine hr.bL ?_;rw[xar,xar];refine ah.Cu (Br.dec (λξ=>?_) (λheq=>?_))
 ·refine br.mk (.refl _) ?_;cases he:rO l r
  ·rfl
  rw[gI.1 he]at ξ;exact absurd rfl ξ
 have heq:l.length=r.length:=by simpa using heq
 refine⟨λvs H=>∃i:Nat,vs=[ε (i:Int)]/\i<=l.length/\H=B/\l.take i=r.take i,λvs _=>l.length-bH vs 0,JE.mk ⟨0,rfl,xaL _,rfl,rfl⟩,?_⟩;rintro w H ⟨i,⟨⟩,hi,rfl,he⟩ gs;refine hl.bL ?_;rw[xar];refine ah.eA (Br.dec (λη=>?_) (λhge=>?_))
 ·have hlr:i<r.length:=by omega
  refine ay.sl hl (i:=i) (r:=l[i].cells) (by rw[xaq,xab η];rfl) λp hp=>?_;refine aB.at hp rfl zD (λ_ h=>h) ?_;refine ay.sl hr (i:=i) (r:=r[i].cells) (by rw[xaq,xab hlr];rfl) λp hp=>?_;refine aB.at hp rfl zD (λ_ h=>h) ?_;refine agP (neq:=true) (x:=.tmp 20) (y:=.tmp 24) (a:=l[i]) (b:=r[i]) zK rfl rfl ?_;simp only[xap];refine Br.mk (λhb=>?_) (λhb=>?_)
  ·refine br.mk (.refl _) ?_;cases VG:rO l r
   ·rfl
   have h2:=gI.1 VG;have:Rp.eq l[i] r[i]=true:=Rp.eq_iff.2 (by subst h2;rfl);rw[this]at hb;cases hb
  have h2:l[i]=r[i]:=Rp.eq_iff.1 (by simpa using hb);refine ah.inc (aD.of (.refl _) ⟨i+1,rfl,η,rfl,?_⟩ (by simp only[bH];omega));rw[xbg,xbg,he,xab η,xab hlr,h2]
 refine br.mk (.refl _) ?_;have h2:l=r:=by rwa [xcD zO,xcD zO]at he
 rw[gI.2 h2]
def R2(n:Nat)(B:Hp):Rd zQ 11 #[ε (n:Int)] B (· =.agg (vz.cells ⟨n,1048576,0,100,0⟩).toArray):=by refine aJ λg=>Qo λb1 _=>?_;refine Build.mk (cs:=vz.cells ⟨n,1048576,0,100,0⟩) zK (St.p (vz.one _) ?_);exact aB.q (r:=vz.cells ⟨n,1048576,0,100,0⟩) (br.mk .tail rfl)
def Cf.Ok.fx{d:Cf}(h:d.Ok):fx d.i=0:=by
 obtain⟨h1,h2,h3,h4,h5,h6⟩:=h;have a1:ik d.i=false:=by
  show(decide (6<d.str)||decide ((d.gr:Int)<100)||decide (1000<(d.gr:Int))||decide ((d.rs:Int)<0)||decide (16<(d.rs:Int)))=false;simp only[xaG,xbq];omega
 have a2:ja d.i=false:=by
  show decide ((d.n:Int)<1\/64<(d.n:Int)\/(d.cap:Int)<2\/1048576<(d.cap:Int))=false;rw[xbq];omega
 have a3:¬(d.i.str=6/\12<d.i.n):=by
  show¬(d.str=6/\12<(d.n:Int));omega
 unfold Proofs.fx;rw[a1,a2,xac zD,xac zD,xac a3]
theorem Lo{c:vz}{steps:List dr}{sv:zV}{Y:Hp}(hs:Sl 5 Y sv (steps.map dr.cells))(cB:steps.length<4398046511104)(I:Nat->Nat->List Rp->Hp->Prop)
 (h0:∀d:Cf,c=d.i->d.Ok->∀(sp kp mb:Nat) (C:Hp),bS kp (K0 d.n d.cap) S0 (List.range d.n) (List.range d.n) [] C->I 0 sp [] (gS sp d kp mb 0 #[] 0 C))
 (hstep:∀(i sp:Nat) (l:List Rp) (H:Hp) (x:dr),fx c=0->steps[i]? =some x->I i sp l H->l.length=i->Fc zQ 9 #[γ sp,x.v] H (λv H'=>∃r:Rp,v=r.v/\I (i+1) sp (l++[r]) H')):
  Fc zQ 8 #[.agg c.cells.toArray,sv] Y (λw H=>(fx c≠0/\w=.tuple #[.slice none 0 0,ε (fx c)]/\H=Y)\/
   (fx c=0/\∃(sp:Nat) (l:List Rp) (s:zV) (CR HS:Hp),w=.tuple #[s,ε 0]/\H=CR++Y/\aU 37 4 s (l.map Rp.cells) CR/\l.length=steps.length/\I steps.length sp l HS)):=by
 refine aJ λg=>Vk λb1 _=>?_;refine aB.q (r:=c.cells) (ae.fn hnew (Dq c (Q:=λv H=>(fx c≠0/\v=.tuple #[.pointer none,ε (fx c)]/\H=[])\/(fx c=0/\∃sp,v=.tuple #[γ sp,ε 0]/\I 0 sp [] H)) (λh=>.inl ⟨h,rfl,rfl⟩) (λd hd hok sp kp mb C hK=>.inr ⟨?_,sp,rfl,h0 d hd hok sp kp mb C hK⟩)) ?_)
 ·subst hd;exact hok.fx
 rintro w H (⟨ξ,rfl,rfl⟩|⟨he,sp,rfl,hI⟩)
 ·refine Ext.two (ah.cM (Br.T ?_ ξ));exact aQ.mk (.tail) (.inl ⟨ξ,rfl,rfl⟩)
 refine Ext.two (ah.cM (Br.F (hs.bL ?_)));rw[xar];refine⟨λvs H'=>∃(i:Nat) (s:zV) (l:List Rp) (CR HS:Hp),vs=[s,ε (i:Int)]/\i<=steps.length/\l.length=i/\H'=CR++(HS++((b1,.cells (Value.cells (.agg c.cells.toArray)) 23 zZ)::Y))/\aU 37 4 s (l.map Rp.cells) CR/\I i sp l HS,
  λvs _=>steps.length-bH vs 1,JE.mk ⟨0,_,[],[],H,rfl,xaL _,rfl,rfl,aU.nil _ _,hI⟩,?_⟩
 rintro w1 w2 H' ⟨i,s,l,CR,HS,⟨⟩,hi,hl,rfl,hR,hI⟩ gs;refine ah.eA (Br.dec (λη=>?_) (λhge=>?_))
 ·refine ay.sl hs (i:=i) (r:=steps[i].cells) (by rw[xaq,xab η];rfl) λp hp=>?_;refine aB.at hp rfl zD (λ_ h=>xaa _ (xaa _ (.tail _ h))) ?_;intro CX _;refine St.p (r:=steps[i].cells) (dr.one _) (aB.q (r:=steps[i].cells) (ae.fn (.cons (.app .left)) (hstep i sp l HS steps[i] he (xab η) hI hl) ?_));rintro v HS' ⟨r,rfl,hI'⟩;refine aq.one (z:=.agg #[ε 0,ε 0,χ 0,ε 0]) (e:=37) (k:=4) (r:=r.cells) zK zK zK zD rfl λbx=>?_;refine aU.qd (r:=r.cells) hR (.cons (.cons .left)) (by exact .head _) rfl (Rp.one r) ⟨[ε 0,ε 0,χ 0,ε 0],rfl,rfl⟩ (by rw[xar];omega) (by rw[xar];omega) λv' CR' TT=>?_;refine ah.inc (aD.of (.skip .tail) ⟨i+1,v',l++[r],CR',HS',rfl,η,by rw[xaf,hl];rfl,rfl,by rw[xaz];exact TT,hI'⟩ (by simp only[bH];omega))
 obtain rfl:i=steps.length:=by omega
 exact aQ.mk (aO.cv (aO.right.trans .tail) CR) (.inr ⟨he,sp,l,w1,CR,HS,rfl,rfl,hR,hl,hI⟩)
abbrev FS:=List (Int×ax.Fn)
def jj(S:Nat->ax.Fn)(hs:List (Int×Nat)):FS:=hs.map λp=>(p.1,S p.2)
def fF(F:FS)(a:Int):ax.Fn:=match aN F a with|some f=>f|none=>λ_=>false
def j6(F:FS):List ax.Fn:=F.map Prod.snd
def fC(F:FS)(a:Int):Bool:=(aN F a).isSome
def wB{S:Nat->ax.Fn}{a:Int}:∀hs:List (Int×Nat),aN (jj S hs) a=(aN hs a).map S
  | []=>rfl
  |p::hs=>by
    have ih:=wB (S:=S) (a:=a) hs;unfold aN jj at*;rw[xay,xbG,xbG];by_cases e:p.1=a
    · simp[e]
    · simp only[e,xdt]
      exact ih
variable{S:Nat->ax.Fn}{hs:List (Int×Nat)}
def nu:fF (jj S hs)=ca S hs:=funext λa=>by
  unfold fF ca;rw[wB];cases aN hs a<;>rfl
def nt:j6 (jj S hs)=fL S hs:=by  unfold j6 jj fL;rw[xbY];rfl
def eP(a:Int):fC (jj S hs) a=(aN hs a).isSome:=by  unfold fC;rw[wB];cases aN hs a<;>rfl
def j8{S':Nat->ax.Fn}(h:∀p∈hs,S' p.2=S p.2):jj S' hs=jj S hs:=xbn λp hp=>by rw[h p hp]
def mu(n:Nat)(F:FS)(w:Nat)(x:dr):Int:=
  if(HD w x||OU w x)=true then 1 else if(Gn n w x||Gm n w x||NM n w x)=true then 2 else
  if((decide (w&&&1≠0) && !fC F x.a)||(decide (w&&&2≠0) && !fC F x.b)||(decide (w&&&4≠0) && !fC F x.c))=true then 3 else 0
variable{w:Nat}
def zx{x:dr}:mu n (jj S hs) w x=kY n hs w x:=by  unfold mu kY xp xm Aq;rw[eP,eP,eP]
noncomputable def uu(n:Nat)(F:FS)(θ:zL):Nat:=sz n θ (HF (j6 F))
def jX(sp:Nat)(c:Cf)(nx:Nat)(F:FS)(θ tr:zL)(H:Hp):Prop:=
  ∃(kp mb:Nat) (K:Kd) (S:Nat->ax.Fn) (ai:zL) (hs:List (Int×Nat)) (es:Array MapEntry) (ck:Nat) (C:Hp),H=gS sp c kp mb nx es ck C/\gP kp nx c K S θ ai tr hs es ck C/\jj S hs=F
section
variable {sp nx:Nat} {c:Cf} {F:FS} {θ tr:zL} {H:Hp} {x:dr}
def gP.uu{kp:Nat}{K:Kd}{ai:zL}{es:Array MapEntry}{ck:Nat}{C:Hp}(h:gP kp nx c K S θ ai tr hs es ck C)(o:zL):cK K S o=Proofs.uu c.n (jj S hs) o:=by  unfold cK Proofs.uu;rw[h.held,nt,h.n]
def BE{d:Cf}{kp mb:Nat}{C:Hp}(hK:bS kp (K0 d.n d.cap) S0 (List.range d.n) (List.range d.n) [] C):jX sp d 0 [] (List.range d.n) [] (gS sp d kp mb 0 #[] 0 C):=
  ⟨kp,mb,_,_,_,[],_,_,C,rfl,⟨hK,rfl,rfl,aI.empty,by simp,λr=>by
    show([]:zL).getD r 0=_;simp,by simp⟩,rfl⟩
def jX.perm(h:jX sp c nx F θ tr H):θ.Perm (List.range c.n):=by  obtain⟨kp,mb,K,S,ai,hs,es,ck,C,rfl,h,rfl⟩:=h;rw[<-h.n];exact h.ks.perm
def ZE(sp:Nat)(c:Cf)(nx:Nat)(F:FS)(θ tr:zL)(x:dr)(R:zL->zL->Prop)(v:zV)(H:Hp):Prop:=
  ∃(t:Nat) (o cC:zL),t<=c.rs+1/\fk (nR c.n c.cap (j6 F) (fF F) x) R θ t o/\
    ((v=fi 0 nx 0 t/\jX sp c (nx+1) (F++[((nx:Int),dQ c.n (fF F) x)]) o [] H/\nR c.n c.cap (j6 F) (fF F) x o 0)\/
     (∃e:Nat,(e=8\/e=9)/\v=fi e (-1) 0 t/\jX sp c nx F o cC H/\nR c.n c.cap (j6 F) (fF F) x o e/\(e=9->t=c.rs+1)/\cC.length+66*uu c.n F o<=tr.length+66*uu c.n F θ))
theorem Ye{f:Nat}(hm:fP x.op=some (w,f)):jI f x.op w/\aW zQ f=true/\w<256:=by
  have nine:x.op=1\/x.op=2\/x.op=3\/x.op=4\/x.op=5\/x.op=6\/x.op=7\/x.op=8\/x.op=9\/x.op=10\/x.op=11:=by
    unfold fP at hm
    repeat' split at hm
    all_goals first|omega|cases hm
  rcases nine with e|e|e|e|e|e|e|e|e|e|e<;>rw[e]at hm⊢ <;>cases hm
  · exact⟨rK,by kernel_rfl,by decide⟩
  · exact⟨Bh,by kernel_rfl,by decide⟩
  · exact⟨Wm,by kernel_rfl,by decide⟩
  · exact⟨Li,by kernel_rfl,by decide⟩
  · exact⟨ZW,by kernel_rfl,by decide⟩
  · exact⟨Wc,by kernel_rfl,by decide⟩
  · exact⟨Wo,by kernel_rfl,by decide⟩
  · exact⟨Bb,by kernel_rfl,by decide⟩
  · exact⟨F5,by kernel_rfl,by decide⟩
  · exact⟨F4,by kernel_rfl,by decide⟩
  · exact⟨Dx,by kernel_rfl,by decide⟩
def sF(hx:x.op=1):jI 32 x.op 8/\aW zQ 32=true:=by  rw[hx];exact⟨rK,by kernel_rfl⟩
def EO(hx:x.op=4):jI 35 x.op 3/\aW zQ 35=true:=by  rw[hx];exact⟨Li,by kernel_rfl⟩
def Vd(c:Cf)(nx:Nat)(F:FS)(T:zL->Nat->Prop)(R:zL->zL->Prop)(b:Nat):Prop:=
  ∀{kp:Nat} {K:Kd} {S:Nat->ax.Fn} {o ai tr:zL} {hs:List (Int×Nat)} {es:Array MapEntry} {ck:Nat} {C:Hp},T o 9->gP kp nx c K S o ai tr hs es ck C->jj S hs=F->tr.length<=b->
    Fc zQ 45 #[γ kp,.int .u8 (c.str:Int),ε c.gr] C (λv H=>∃ls a b,v=.tuple #[a,b]/\R o ls/\At kp K S (aA o ls) (tr++ls) H/\ls.length+66*cK K S (aA o ls)<=66*cK K S o)
def LC{f:Nat}{R:zL->zL->Prop}(h:jX sp c nx F θ tr H)(hc:c.Ok)(Ed:nx+1<9223372036854775808)(hx:x.x<18446744073709551616)(hf:jI f x.op w)(fX:aW zQ f=true)(hw:w<256)(hl:mu c.n F w x=0)
   (hrun:Vd c nx F (nR c.n c.cap (j6 F) (fF F) x) R (tr.length+66*uu c.n F θ)):
    Fc zQ 22 #[γ sp,x.v,.agg (Lz (w,f)).toArray] H (ZE sp c nx F θ tr x R):=by
  obtain⟨kp,mb,K,S,ai,hs,es,ck,C,rfl,h,rfl⟩:=h;rw[zx]at hl;rw[nu,nt,<-h.uu]at hrun;refine(WY fX h hc Ed hw hx hl (fn:=dQ c.n (ca S hs) x) (T:=nR c.n c.cap (fL S hs) (ca S hs) x) (R:=R) (λ{K' S' o bU cC C'} h' hS=>?_) (λ{K' S' o bU cC C'} hT h' hS hb=>?_)).mono ?_
  · have:=hf (sp:=sp) (mb:=mb) h' rfl hx hl
    rwa [X6 hS,Ox h.dO.nd hS]at this
  · exact hrun hT h' (j8 hS) hb
  · rintro v H ⟨t,o,bU,cC,K',S',τ,bF,C',ht,hT,hS,hq⟩
    unfold ZE;have ez:uu c.n (jj S hs)=cK K S:=funext λo=>(h.uu o).symm;rw[nu,nt,ez];refine⟨t,o,cC,ht,hT,?_⟩;rcases hq with⟨r,rfl,rfl,h',hr,h0,rfl⟩|⟨e,he,rfl,rfl,h',VL,h9,hb⟩
    · refine .inl ⟨rfl,⟨kp,mb,K',S',bU,_,τ,bF,C',rfl,h',?_⟩,h0⟩
      rw[<-j8 hS];unfold jj;rw[xaz,<-hr];rfl
    · exact .inr ⟨e,he,rfl,⟨kp,mb,K',S',bU,_,τ,bF,C',rfl,h',j8 hS⟩,VL,h9,hb⟩
def wE{f:Nat}(h:jX sp c nx F θ tr H)(hx:x.x<18446744073709551616)(hw:w<256)(hl:mu c.n F w x≠0):
    Rd zQ 22 #[γ sp,x.v,.agg (Lz (w,f)).toArray] H (· =fi (mu c.n F w x) (-1) 0 0):=by  obtain⟨kp,mb,K,S,ai,hs,es,ck,C,rfl,h,rfl⟩:=h;rw[zx]at hl⊢;exact WZ h hw hx hl
def Ma(h:jX sp c nx F θ tr H)(hx:x.x<18446744073709551616):Rd zQ 48 #[γ sp,x.v] H (· =if fC F x.a then fi 0 (-1) (fF F x.a x.x).toNat 0 else fi 3 (-1) 0 0):=by  obtain⟨kp,mb,K,S,ai,hs,es,ck,C,rfl,h,rfl⟩:=h;rw[eP,nu];exact RH h hx
def Lh(h:jX sp c nx F θ tr H):Rd zQ 50 #[γ sp,x.v] H (· =if fC F x.a then fi 0 (-1) (sat c.n (fF F x.a)%Ch) 0 else fi 3 (-1) 0 0):=by
  obtain⟨kp,mb,K,S,ai,hs,es,ck,C,rfl,h,rfl⟩:=h;rw[eP,nu];refine(Ry h (x:=x) (P:=λn e=>e=0/\n=sat c.n (ca S hs x.a)%Ch) λr hr=>?_).mono λv H ⟨e,hv⟩=>⟨e,?_⟩
  · rw[bD hr,<-h.n]
    exact(Ux h.ks (h.live _ (h.find hr))).mono λv H ⟨e,hv⟩=>⟨e,_,_,⟨rfl,rfl⟩,hv⟩
  · rcases hv with⟨h1,h2⟩|⟨h1,n,e,⟨rfl,rfl⟩,h2⟩
    · rw[h1];exact h2
    · rw[h1];exact h2
end
end
end Go.Proofs
namespace ax
open an
variable {n:Nat} {θ:zL}
def Zv(θ:zL)(L:List Fn):Nat->List Fn
 |0=>L
 |l+1=>(Zv θ L l).flatMap λf=>[λx=>f (aC x (θ.getD l 0) false),λx=>f (aC x (θ.getD l 0) true)]
def wZ(L:List Fn):∀l,(Zv θ L l).length=L.length*2^l
 |0=>by simp[Zv]
 |l+1=>by
  rw[Zv,List.length_flatMap];simp only[xax,xbF];rw[List.map_const',List.sum_replicate_nat,wZ L l,xee,xcQ]
def T7{F:Fn->Prop}{L:List Fn}(h:∀g,F g->g∈L):∀l g,fs θ F l g->g∈Zv θ L l
 |0,g,hg=>h g hg
 |l+1,g,⟨f,hf,b,e⟩=>by
  rw[Zv,List.mem_flatMap];refine⟨f,T7 h l f hf,?_⟩;subst e;cases b<;>simp
def E8(θ:zL)(L:List Fn):Nat->List Fn
 |0=>[]
 |k+1=>E8 θ L k++Zv θ L k
def uz{θ:zL}(L:List Fn):∀k,(E8 θ L k).length+L.length=L.length*2^k
 |0=>by simp[E8]
 |k+1=>by
  have:=uz (θ:=θ) L k;rw[E8,xaf,wZ,xee];have e:L.length*(2^k*2)=L.length*2^k+L.length*2^k:=by rw[<-xcQ,Nat.mul_two]
  omega
def DX{L:List Fn}{g:Fn}{l:Nat}(h:g∈Zv θ L l):∀k,l<k->g∈E8 θ L k
 |0,hk=>by omega
 |k+1,hk=>by
  rw[E8,xao];by_cases e:l=k
  ·subst e;exact .inr h
  exact .inl (DX h k zO)
def zk{F:Fn->Prop}{L:List Fn}(h:∀g,F g->g∈L):∀g,aE n θ F g->g∈E8 θ L n:=by rintro g ⟨l,hl,hg,_⟩;exact DX (T7 h l g hg) n hl
def DO:∀l:List Fn,∃l':List Fn,l'.Nodup/\l'.length<=l.length/\∀g,g∈l↔g∈l'
 | []=>⟨[],List.nodup_nil,xai _,λ_=>xcZ⟩
 |f::l=>by
  obtain⟨l',h1,h2,h3⟩:=DO l;by_cases hm:f∈l'
  ·refine⟨l',h1,Nat.le_succ_of_le h2,λg=>?_⟩;rw[xak,h3];exact⟨λh=>h.elim (λe=>e▸hm) id,.inr⟩
  exact⟨f::l',xaX.2 ⟨hm,h1⟩,Nat.succ_le_succ h2,λg=>by rw[xak,xak,h3]⟩
def Md{U:Fn->Prop}{l:List Fn}(h:∀g,U g->g∈l):∃k,k<=l.length/\nQ U k:=by
 classical
 obtain⟨l',h1,h2,h3⟩:=DO l;refine⟨(l'.filter λg=>decide (U g)).length,xbT (xbU _ _) h2,_,h1.filter _,rfl,λg=>?_⟩;rw[xb0,xaM,<-h3];exact⟨λx=>⟨h g x,x⟩,λx=>x.2⟩
def Gq{F:Fn->Prop}{L:List Fn}{cap:Nat}(h:∀g,F g->g∈L)(hc:L.length*2^n+2<=cap):∃ku,nQ (aE n θ F) ku/\ku+2<=cap:=by obtain⟨k,h1,h2⟩:=Md (zk (n:=n) (θ:=θ) h);have:=uz (θ:=θ) L n;exact⟨k,h2,by omega⟩
end ax
set_option maxRecDepth 100000
namespace Go.Proofs
open Go Go.Sx
section
open ax
def YL{b k len:Nat}{rs:List (List zV)}{T:TypeId}(hr:∀r∈rs,r.length=k)(hk:0<k)(hl:rs.length=len):Sl k [(b,.cells (ψ rs) T zZ)] (.slice (some ⟨b,0,none⟩) len len) rs:=by have h:=aU.mk' (T:=T) (k:=k) (b:=b) (rs:=rs) (aF:=[]) (n:=len) (c:=len) (by simpa using hr) hl.symm (by simp[hl]);rw[xaI]at h;exact Sl.iC h hk
section
variable {sp nx n cap:Nat} {c:Cf} {F:FS} {θ tr o:zL} {H:Hp} {x:dr}
def Sc(h:((j6 F).length+3)*2^n+2<=cap):¬nR n cap (j6 F) (fF F) x o 9:=by
 have room:∀(L2:List ax.Fn) (P:ax.Fn->Prop),L2.length<=3->(∀g,P g->HF (j6 F) g\/g∈L2)->Fits (aE n o P) cap:=λL2 P hl hP=>by
  refine Gq (L:=j6 F++L2) (λg hg=>?_) ?_
  ·rcases hP g hg with h|h
   ·exact xad _ h.1
   exact xaa _ h
  rw[xaf];exact xbT (Nat.add_le_add_right (xaY _ zO) 2) h
 unfold nR;split
 ·rintro(⟨h,_⟩|⟨_,i,_,_,hf,_⟩|⟨h,_⟩)
  ·cases h
  ·refine hf (room [nZ true (ω x.x i) (fF F x.a),qf true i (nZ true (ω x.x i) (fF F x.a))] _ zI λg hg=>?_);rcases hg with(h|⟨_,h⟩)|h
   ·exact .inl h
   ·exact .inr (by simp[h])
   exact .inr (by simp[h])
  cases h
 split
 ·rintro(⟨h,_⟩|⟨_,i,_,_,hf,_⟩|⟨h,_⟩)
  ·cases h
  ·refine hf (room [nZ false (ω x.x i) (fF F x.a),qf false i (nZ false (ω x.x i) (fF F x.a))] _ zI λg hg=>?_);rcases hg with(h|⟨_,h⟩)|h
   ·exact .inl h
   ·exact .inr (by simp[h])
   exact .inr (by simp[h])
  cases h
 split
 ·rintro(⟨h,_⟩|⟨_,hf|⟨_,hf⟩|⟨_,_,hf⟩⟩|⟨h,_⟩)
  ·cases h
  ·exact hf (room [_] _ zI λg hg=>hg.imp id λh=>by simpa using h)
  ·refine hf (room [λy=>fF F x.a (an.aC y x.b.toNat false),λy=>fF F x.a (an.aC y x.b.toNat true)] _ zI λg hg=>?_);rcases hg with(h|h)|h
   ·exact .inl h
   ·exact .inr (by simp[h])
   exact .inr (by simp[h])
  ·refine hf (room [λy=>fF F x.a (an.aC y x.b.toNat false),λy=>fF F x.a (an.aC y x.b.toNat true),dQ n (fF F) x] _ zI λg hg=>?_);rcases hg with((h|h)|h)|h
   ·exact .inl h
   ·exact .inr (by simp[h])
   ·exact .inr (by simp[h])
   exact .inr (by simp[h])
  cases h
 rintro(⟨h,_⟩|⟨_,hf⟩|⟨h,_⟩)
 ·cases h
 ·exact hf (room [_] _ zI λg hg=>hg.imp id λh=>by simpa using h)
 cases h
def abB(L:List ax.Fn)(g:ax.Fn):lH L g<=L.length:=List.countP_le_length
def Sd(h:nR n cap (j6 F) (fF F) x o 8):∃g,65533<=lH (j6 F) g:=by
 have big:∀g k,lH (j6 F) g+k=65535->k<=2->∃g,65533<=lH (j6 F) g:=λg k h hk=>⟨g,by omega⟩;have each:∀q,qw n cap (j6 F) q x.x (fF F x.a) o 8->∃g,65533<=lH (j6 F) g:=λq h=>by
  rcases h with⟨h,_⟩|⟨h,_⟩|⟨_,⟨_,h⟩|⟨i,_,_,h,_⟩⟩
  ·cases h
  ·cases h
  ·exact⟨_,xbT zD h.2⟩
  exact⟨_,xbT zD h.2.1⟩
 unfold nR at h;split at h
 ·exact each _ h
 split at h
 ·exact each _ h
 split at h
 ·rcases h with⟨h,_⟩|⟨h,_⟩|⟨_,⟨_,h⟩|⟨_,_,_,a,ha,h⟩|⟨_,_,_,_,a,b,ha,hb,h⟩⟩
  ·cases h
  ·cases h
  ·exact big _ 0 h zO
  ·exact big _ a h (by have:=ha.le;omega)
  exact big _ (a+b) (by rw[<-xcq];exact h) (by have:=ha.le;have:=hb.le;omega)
 rcases h with⟨h,_⟩|⟨h,_⟩|⟨_,h⟩
 ·cases h
 ·cases h
 exact⟨_,xbT zD h.2⟩
def WL(h:(j6 F).length<65533):¬nR n cap (j6 F) (fF F) x o 8:=λht=>by
 obtain⟨g,hg⟩:=Sd ht;have:=abB (j6 F) g;omega
theorem tf{w f:Nat}(h:jX sp c nx F θ tr H)(hc:c.Ok)(Ed:nx+1<9223372036854775808)(hx:x.x<18446744073709551616)(hm:fP x.op=some (w,f))(hf:jI f x.op w)(fX:aW zQ f=true)(hw:w<256)(hl:mu c.n F w x=0)
 (hr:(F.length+3)*2^c.n+2<=c.cap)(h8:F.length<65533):
  Fc zQ 9 #[γ sp,x.v] H (λv H'=>v=fi 0 nx 0 1/\jX sp c (nx+1) (F++[((nx:Int),dQ c.n (fF F) x)]) θ [] H'):=by
 have Ξ:(j6 F).length=F.length:=by unfold j6;rw[xar]
 have no9:∀o,¬nR c.n c.cap (j6 F) (fF F) x o 9:=λo=>Sc (by rw[Ξ];exact hr);refine rL (λv H h=>?_) (λw' f' Ω=>?_) (λf hn=>by rw[hm]at hn;cases hn) (λhn=>by rw[hm]at hn;cases hn)
 ·obtain⟨rfl,_⟩:=h;exact⟨_,_,_,_,rfl⟩
 rw[hm]at Ω;cases Ω;refine(LC (R:=λ_ _=>False) h hc Ed hx hf fX hw hl λhT _ _=>absurd hT (no9 _)).mono ?_;rintro v H' ⟨t,o,cC,ht,hT,hq⟩;have h1:t=1/\o=θ:=by
  cases hT with
  |one=>exact⟨rfl,rfl⟩
  |more h h9 _=>exact absurd h9 (no9 _)
 obtain⟨rfl,rfl⟩:=h1;rcases hq with⟨rfl,h',_⟩|⟨e,he,_,_,VL,_⟩
 ·exact⟨rfl,h'⟩
 rcases he with rfl|rfl
 ·exact absurd VL (WL (by rw[Ξ];exact h8))
 exact absurd VL (no9 _)
theorem WX{w f:Nat}(h:jX sp c nx F θ tr H)(hx:x.x<18446744073709551616)(hm:fP x.op=some (w,f))(hw:w<256)(hl:mu c.n F w x≠0):
  Fc zQ 9 #[γ sp,x.v] H (λv H'=>v=fi (mu c.n F w x) (-1) 0 0/\H'=H):=by
 refine rL (λv H h=>?_) (λw' f' Ω=>?_) (λf hn=>by rw[hm]at hn;cases hn) (λhn=>by rw[hm]at hn;cases hn)
 ·obtain⟨rfl,_⟩:=h;exact⟨_,_,_,_,rfl⟩
 rw[hm]at Ω;cases Ω;exact Fc.mono (wE h hx hw hl) λv H ⟨e1,e2⟩=>⟨e2,e1⟩
theorem EZ{f:Nat}{Q:zV->Hp->Prop}(hm:fP x.op=none)(ha:nB x.op=some f)(hQ:∀v H,Q v H->abT v)(h:Fc zQ f #[γ sp,x.v] H Q):Fc zQ 9 #[γ sp,x.v] H Q:=
 rL hQ (λw f hn=>by rw[hm]at hn;cases hn) (λf' _ dS _=>by rw[ha]at dS;cases dS;exact h) (λ_ hn=>by rw[ha]at hn;cases hn)
end
def awS:List dr:=[⟨1,0,0,0,0⟩,⟨1,1,0,0,0⟩,⟨4,0,1,0,0⟩,⟨16,2,0,0,0⟩,⟨14,2,0,0,3⟩,⟨1,2,0,0,0⟩]
def awR:List Rp:=[⟨0,0,0,1⟩,⟨0,1,0,1⟩,⟨0,2,0,1⟩,⟨0, -1,1,0⟩,⟨0, -1,1,0⟩,⟨2, -1,0,0⟩]
def awF:FS:=[(0,λy=>y.testBit 0),(1,λy=>y.testBit 1),(2,λy=>y.testBit 0&&y.testBit 1)]
def ZB:Cf:=⟨2,1048576,0,100,0⟩
def B9:ZB.Ok:=⟨by decide,by decide,by decide,by decide,by decide,by decide⟩
def Yj{i sp:Nat}{H:Hp}{x:dr}(hx:awS[i]? =some x)(h:jX sp ZB (min i 3) (awF.take i) [0,1] [] H):
  Fc zQ 9 #[γ sp,x.v] H (λv H'=>∃r,awR[i]? =some r/\v=r.v/\jX sp ZB (min (i+1) 3) (awF.take (i+1)) [0,1] [] H'):=by
 have hi:i<6:=(xah.1 hx).1;obtain rfl|rfl|rfl|rfl|rfl|rfl:i=0\/i=1\/i=2\/i=3\/i=4\/i=5:=by omega
 ·cases hx;refine(tf h B9 zD zD (w:=8) rfl (sF rfl).1 (sF (x:=⟨1,0,0,0,0⟩) rfl).2 zD rfl zD zD).mono ?_;rintro v H' ⟨rfl,h'⟩;exact⟨_,rfl,rfl,h'⟩
 ·cases hx;refine(tf h B9 zD zD (w:=8) rfl (sF rfl).1 (sF (x:=⟨1,1,0,0,0⟩) rfl).2 zD rfl zD zD).mono ?_;rintro v H' ⟨rfl,h'⟩;exact⟨_,rfl,rfl,h'⟩
 ·cases hx;refine(tf h B9 zD zD (w:=3) rfl (EO rfl).1 (EO (x:=⟨4,0,1,0,0⟩) rfl).2 zD rfl zD zD).mono ?_;rintro v H' ⟨rfl,h'⟩;exact⟨_,rfl,rfl,h'⟩
 ·cases hx;refine EZ (f:=50) rfl rfl (λv H h=>?_) (Fc.mono (Lh h) ?_)
  ·obtain⟨r,_,rfl,_⟩:=h;exact⟨_,_,_,_,rfl⟩
  rintro v H' ⟨rfl,rfl⟩;refine⟨_,rfl,?_,h⟩;have:sat 2 (λy=>y.testBit 0&&y.testBit 1)%Ch=1:=by decide+kernel
  show fi 0 (-1) (sat 2 (λy=>y.testBit 0&&y.testBit 1)%Ch) 0=_;rw[this];rfl
 ·cases hx;refine EZ (f:=48) rfl rfl (λv H h=>?_) (Fc.mono (Ma h zD) ?_)
  ·obtain⟨r,_,rfl,_⟩:=h;exact⟨_,_,_,_,rfl⟩
  rintro v H' ⟨rfl,rfl⟩;exact⟨_,rfl,rfl,h⟩
 cases hx;refine(WX h zD (w:=8) rfl zD zD).mono ?_;rintro v H' ⟨rfl,rfl⟩;exact⟨_,rfl,rfl,h⟩
set_option maxHeartbeats 1000000 in
def HG(B:Hp):Rd zQ 6 #[] B (· =.bool true):=by
 refine aJ λg=>Vm (ae.eq (R2 2 _) (Build.mk (cs:=dr.cells ⟨1,0,0,0,0⟩) zK ?_));refine Build.mk (cs:=dr.cells ⟨1,1,0,0,0⟩) zK (Build.mk (cs:=dr.cells ⟨4,0,1,0,0⟩) zK (Build.mk (cs:=dr.cells ⟨16,2,0,0,0⟩) zK (Build.mk (cs:=dr.cells ⟨14,2,0,0,3⟩) zK (Build.mk (cs:=dr.cells ⟨1,2,0,0,0⟩) zK ?_))));refine aq.many (e:=35) (k:=5) (z:=.agg #[.int .u8 0,ε 0,ε 0,ε 0,χ 0]) (awS.map dr.cells) zK zK zK zD zD rfl rfl λbx=>?_;refine ae.fn (bE.left (A:=B)) (Lo (c:=ZB.i) (steps:=awS) (Y:=[(bx,_)]) (YL zD zD rfl) zD (λi sp l H=>l=awR.take i/\jX sp ZB (min i 3) (awF.take i) [0,1] [] H) (λd hd hok sp kp mb C hK=>?_) (λi sp l H x he hx hI hl=>?_)) ?_
 ·have:d=ZB:=by
   obtain⟨a1,a2,a3,a4,a5⟩:=d;simp only[ZB,Cf.i,vz.mk.injEq]at hd;simp only[ZB,Cf.mk.injEq];omega
  subst this;exact⟨rfl,BE hK⟩
 ·obtain⟨rfl,hI⟩:=hI;refine(Yj hx hI).mono ?_;rintro v H' ⟨r,hr,rfl,h'⟩;exact⟨r,rfl,by rw[xbg,hr];rfl,h'⟩
 rintro w H (⟨ξ,_⟩|⟨_,sp,l,s,CR,HS,rfl,rfl,hR,hl,hI⟩)
 ·exact absurd B9.fx ξ
 have hl6:l=awR:=hI.1;subst hl6;refine Ext.two (Build.mk (cs:=Rp.cells ⟨0,0,0,1⟩) zK (Build.mk (cs:=Rp.cells ⟨0,1,0,1⟩) zK (Build.mk (cs:=Rp.cells ⟨0,2,0,1⟩) zK (Build.mk (cs:=Rp.cells ⟨0, -1,1,0⟩) zK (Build.mk (cs:=Rp.cells ⟨0, -1,1,0⟩) zK (Build.mk (cs:=Rp.cells ⟨2, -1,0,0⟩) zK ?_))))));refine aq.many (e:=37) (k:=4) (z:=.agg #[ε 0,ε 0,χ 0,ε 0]) (awR.map Rp.cells) zK zK zK zD zD rfl rfl λby'=>?_;intro J23 h23;refine ah.iD (Split.go zD ?_);refine ae.eh .here (pD (l:=awR) (r:=awR) ((Sl.iC hR zD).mono λ_ h=>?_) ((YL (T:=37) zD zD rfl).mono λ_ h=>?_) zD) ?_
 ·exact .tail _ (xad _ (xad _ h))
 ·rw[xaE.1 h];exact .head _
 rw[gI.2 rfl];refine aG.mk (JE.mk (h23 _ _ λ_=>?_));exact br.mk (.skip aO.right) rfl
end
section
def fk.same{T:zL->Nat->Prop}{R:zL->zL->Prop}{o:zL}(hR:∀t p,fk T R o t p->∀ls LD,R p ls->R p LD->ls=LD):∀{t:Nat} {p p':zL},fk T R o t p->fk T R o t p'->p=p'
 |t,p,p',h,h'=>by
  induction h generalizing p' with
  |one=>
   cases h' with
   |one=>rfl
   |more h _ _=>have:=h.pos;omega
  |more h a b ih=>
   cases h' with
   |one=>have:=h.pos;omega
   |more h2 a2 b2=>
    obtain rfl:=ih _ h2;rw[hR _ _ h _ _ b b2]
def fk.NG{T:zL->Nat->Prop}{R:zL->zL->Prop}{o:zL}{t k:Nat}{p:zL}(h:fk T R o t p):1<=k->k<t->∃q,fk T R o k q/\T q 9:=by
 induction h with
 |one=>intro a b;omega
 |more h a b ih=>
  intro h1 h2;rename_i t p ls;by_cases hk:k=t
  ·subst hk;exact⟨p,h,a⟩
  exact ih h1 zO
def FP{T:zL->Nat->Prop}{R:zL->zL->Prop}{o:zL}(hT:∀t p,fk T R o t p->∀e e',T p e->T p e'->e=e')(hR:∀t p,fk T R o t p->∀ls LD,R p ls->R p LD->ls=LD)
 {t t' m:Nat}{p p':zL}{e e':Nat}(h:fk T R o t p)(h':fk T R o t' p')(he:T p e)(he':T p' e')(h9:e=9->t=m)(Zr:e'=9->t'=m)(hm:t<=m)(Ω:t'<=m):t=t'/\p=p'/\e=e':=by
 have lt:∀{t t':Nat} {p p':zL} {e:Nat},fk T R o t p->fk T R o t' p'->T p e->(e=9->t=m)->t'<=m->¬t<t':=λh h' he h9 hm hl=>by
  obtain⟨q,hq,h9q⟩:=h'.NG h.pos hl;obtain rfl:=hq.same hR h;have:=h9 (hT _ _ h _ _ he h9q);omega
 have a:=lt h h' he h9 Ω;have b:=lt h' h he' Zr hm;obtain rfl:t=t':=by omega
 obtain rfl:=h.same hR h';exact⟨rfl,rfl,hT _ _ h _ _ he he'⟩
end
end Go.Proofs
namespace ax
def Sk{n:Nat}{L L':an.Fs}(h:∀t,t∈L↔t∈L')(A v:Nat):an.lvl n L A v=an.lvl n L' A v:=by
 have key:∀k t,t∈an.st n L A k↔t∈an.st n L' A k:=by
  intro k;induction k with
  |zero=>intro t;rw[an.st,an.st,an.eG,an.eG];exact h t
  |succ k ih=>
   intro t;rw[an.st,an.st];split
   ·rw[an.bX,an.bX];constructor<;>rintro⟨u,h1,h2⟩
    ·exact⟨u,(ih u).1 h1,h2⟩
    exact⟨u,(ih u).2 h1,h2⟩
   exact ih t
 have nd:∀(L:an.Fs) k,(an.st n L A k).Nodup:=by
  intro L k;induction k with
  |zero=>exact an.jL L
  |succ k ih=>
   rw[an.st];split
   ·exact an.k7 _ _ _
   exact ih
 exact an.kz (an.gU (nd L n) (nd L' n) (key n))
variable{n:Nat}{θ:zL}{N:eM}{R:Nat->Prop}
section
variable{ai:Nat->Nat}{S:Nat->Fn}
def NX(h:WF n ai N)(hl:jY n ai)(ho:Ord n ai θ)(hi:Interp N S)(hR:∀r,R r->live N r)(hr:Reach N R){l:Nat}(yI:l<n)(g:Fn):(fs θ (Fs S R) l g/\bW g (θ.getD l 0))↔∃r d,N r=some d/\d.v=θ.getD l 0/\g=S r:=by
 obtain⟨v1,v2⟩:=ho.bg l yI;constructor
 ·rintro⟨hf,x,hx⟩;obtain⟨r,ha,rfl⟩:=(Et h hl ho hi hR l zO g).1 hf;obtain⟨hlv,hle⟩:=rz h hR l r ha;by_cases e:ι n ai N r=l
  ·rcases hlv with hc|⟨d,hd⟩
   ·rw[aV (h.const hc)]at e;omega
   rw[au hd]at e;exact⟨r,d,hd,hl.inj _ _ (h.var hd) v1 zO,rfl⟩
  exact absurd (by rw[h.bO hl hi hlv v1 zO,h.bO hl hi hlv v1 zO]) hx
 rintro⟨r,d,hd,kQ,rfl⟩;have hv:=h.var hd;have η:=hl.lt _ hv;have nL:ai d.v=l:=by rw[kQ,v2]
 refine⟨(Et h hl ho hi hR _ zO _).2 ⟨r,by have:=Vt h hr _ r d hd (xai _);rwa [nL]at this,rfl⟩,?_⟩;rw[<-kQ];refine xaD λΓ=>h.ne hd (h.same hl hi (h.lo hd).1 (h.hi hd).1 λx=>?_);have c1:=h.child hl hi hd x false;have c2:=h.child hl hi hd x true;simp only[xaR,xa2,xa5]at c1 c2;rw[<-c1,<-c2];exact xaD λξ=>Γ ⟨x,ξ⟩
def ON(h:WF n ai N)(hl:jY n ai)(hi:Interp N S){dom:zL}{v:Nat}(hd:dom.Nodup)(hm:∀r,r∈dom↔∃d,N r=some d/\d.v=v):nQ (λg=>∃r d,N r=some d/\d.v=v/\g=S r) dom.length:=by
 refine⟨dom.map S,?_,by simp,λg=>?_⟩
 ·refine xbN.2 (hd.imp_of_mem λ{a b} ha hb ξ heq=>ξ ?_);obtain⟨d1,h1,_⟩:=(hm a).1 ha;obtain⟨d2,h2,_⟩:=(hm b).1 hb;exact h.same hl hi (.inr ⟨d1,h1⟩) (.inr ⟨d2,h2⟩) λx=>by rw[heq]
 rw[xal];constructor
 ·rintro⟨r,d,h1,h2,rfl⟩;exact⟨r,(hm r).2 ⟨d,h1,h2⟩,rfl⟩
 rintro⟨r,h1,rfl⟩;obtain⟨d,h2,h3⟩:=(hm r).1 h1;exact⟨r,d,h2,h3,rfl⟩
end
def Ok.OM{K:Kd}{S:Nat->Fn}{ai:Nat->Nat}(h:Ok K S ai)(ho:Ord K.n ai θ){j:Nat}(hj:j<K.n){l:List (Nd×Nat)}(fQ:(l.map Prod.fst).Nodup)(hl:∀d r,(d,r)∈l↔K.T d=some r/\d.v=θ.getD j 0):nQ (λg=>fs θ (K.held S) j g/\bW g (θ.getD j 0)) l.length:=by
 have hT:∀d r,K.T d=some r↔K.N r=some d:=λd r=>by
  rw[h.mid.kK];exact⟨λh=>h.1,λh=>⟨h,λe=>e⟩⟩
 have aia:∀r,r∈l.map Prod.snd↔∃d,K.N r=some d/\d.v=θ.getD j 0:=λr=>by
  rw[xal];constructor
  ·rintro⟨⟨d,r'⟩,h1,rfl⟩;obtain⟨h2,h3⟩:=(hl d r').1 h1;exact⟨d,(hT d r').1 h2,h3⟩
  rintro⟨d,h1,h2⟩;exact⟨(d,r),(hl d r).2 ⟨(hT d r).2 h1,h2⟩,rfl⟩
 have hdn:(l.map Prod.snd).Nodup:=by
  refine xbN.2 ((xbN.1 fQ).imp_of_mem λ{a b} ha hb ξ heq=>ξ ?_);have h1:=(hT a.1 a.2).1 ((hl a.1 a.2).1 ha).1;have h2:=(hT b.1 b.2).1 ((hl b.1 b.2).1 hb).1;rw[heq,h2]at h1;exact(xbb h1).symm
 have c1:=ON h.wf h.lv h.mid.int hdn aia;rw[xar]at c1;exact c1.congr λg=>(NX h.wf h.lv ho h.mid.int (λr hr=>.inr (h.mid.held r hr)) h.reach hj g).symm
end ax
set_option maxRecDepth 100000
namespace Go.Proofs
open Go Go.Sx
section
open ax QX
section
open Classical in
noncomputable def MQ(n:Nat)(θ:zL)(F:ax.Fn->Prop)(v:Nat):Nat:=
 if h:∃k,nQ (λg=>∃j,j<n/\θ.getD j 0=v/\fs θ F j g/\bW g v) k then Classical.choose h else 0
def ZL{n:Nat}{θ:zL}{F:ax.Fn->Prop}{v k:Nat}(h:nQ (λg=>∃j,j<n/\θ.getD j 0=v/\fs θ F j g/\bW g v) k):MQ n θ F v=k:=by unfold MQ;rw[xd8 ⟨k,h⟩];exact(xck (⟨k,h⟩:∃k,nQ (λg=>∃j,j<n/\θ.getD j 0=v/\fs θ F j g/\bW g v) k)).uniq h
def MP{n:Nat}{θ:zL}{F G:ax.Fn->Prop}(e:∀g,F g↔G g)(v:Nat):MQ n θ F v=MQ n θ G v:=by rw[show F=G from funext λg=>propext (e g)]
def Fp(w:Nat->Nat)(v:Nat):It:=((v:Int),IntKind.i64.wrap (0-((w v:Nat):Int)))
def QS(w:Nat->Nat)(n:Nat)(l:zL):Prop:=l.Perm (List.range n)/\l.Pairwise λa b=>prec (Fp w b) (Fp w a)=false
def Lk{w:Nat->Nat}:∀{l l':zL},l.Perm l'->l.Pairwise (λa b=>prec (Fp w b) (Fp w a)=false)->l'.Pairwise (λa b=>prec (Fp w b) (Fp w a)=false)->l=l'
 | [],l',hp,_,_=>(List.nil_perm.1 hp).symm
 |a::l,[],hp,_,_=>by have:=hp.length_eq;simp at this
 |a::l,b::l',hp,h,h'=>by
  obtain⟨h1,h2⟩:=xet.1 h;obtain⟨h3,h4⟩:=xet.1 h';have e:a=b:=by
   rcases xak.1 (hp.mem_iff.1 (xbA ..))with e|ha
   ·exact e
   rcases xak.1 (hp.mem_iff.2 (xbA ..))with e|hb
   ·exact e.symm
   have q1:=iG.1 (h1 b hb);have q2:=iG.1 (h3 a ha);simp only[Fp]at q1 q2;omega
  subst e;rw[Lk ((List.perm_cons a).1 hp) h2 h4]
def QS.uniq{w:Nat->Nat}{n:Nat}{l l':zL}(h:QS w n l)(h':QS w n l'):l=l':=Lk (h.1.trans h'.1.symm) h.2 h'.2
variable {kp:Nat} {K:Kd} {S:Nat->ax.Fn} {θ tr:zL} {C:Hp}
def OX(hA:At kp K S θ tr C){v:Nat}(hv:v<K.n):Rd zQ 165 #[γ kp,iv (v:Int)] C (· =.tuple #[iv ((MQ K.n θ (K.held S) v:Nat):Int),iv 0]):=by
 obtain⟨K',S',bU,h,hk⟩:=hA;have hn':=hk.n;refine(N9 h.rep (by rw[hn'];exact hv)).mono ?_;rintro r H ⟨e,l,h1,h2,rfl⟩;refine⟨e,?_⟩;have lB:=h.od;have Eb:=lB.of h.ok.lv (v:=v) (by rw[hn'];exact hv);have QC:=h.ok.lv.lt v (by rw[hn'];exact hv);have hc:=h.ok.OM lB QC h1 (by rw[Eb];exact h2);have hu:MQ K.n θ (K.held S) v=l.length:=by
  rw[<-hn',<-MP (λg=>hk.held g)];refine ZL (hc.congr λg=>?_);rw[Eb];constructor
  ·rintro⟨a,b⟩;exact⟨lv bU v,QC,Eb,a,b⟩
  rintro⟨j,hj,e1,a,b⟩;have:j=lv bU v:=by
   have:=(lB.bg j hj).2;rw[e1]at this;exact this.symm
  subst this;exact⟨a,b⟩
 rw[hu]
def Nz(h:At kp K S θ tr C):Fc zQ 110 #[γ kp] C (λr H=>∃N l,H=N++C/\QS (MQ K.n θ (K.held S)) K.n l/\aL 3 .i64 r (iw l) N):=by
 have hn:=h.mq;obtain⟨w,hw⟩:∃w,w=MQ K.n θ (K.held S):=⟨_,rfl⟩;rw[<-hw];refine aJ λg=>Kz (ah.aK (Br.no ?_));apply ae.fq (Xx C);rintro w0 H ⟨bh,C0,rfl,rfl,GW⟩;refine ae.eq (ny h) (⟨λvs H=>∃(i:Nat) (l:List It) (C':Hp),vs=[iv (i:Int)]/\i<=K.n/\H=C'++C/\Yx (.pointer (some ⟨bh,0,none⟩)) l C'/\l.Perm ((List.range i).map (Fp w)),λvs _=>K.n-bH vs 0,JE.mk ⟨0,[],C0,rfl,xaL _,rfl,GW,.refl _⟩,?_⟩);rintro w1 H ⟨i,l,C',⟨⟩,hi,rfl,hh,hp⟩ gs;have nL:l.length=i:=by have:=hp.length_eq;simpa using this
 refine ah.eA (Br.dec (λη=>?_) (λhge=>?_))
 ·apply ae.eq (OX h η);rw[<-hw];refine Ext.two (⟨_,rfl,?_⟩);apply ae.fq (S6 hh zO _ _);rintro r C2 ⟨l2,hh2,⟨hin,_⟩|⟨_,rfl,cZ⟩⟩
  ·exfalso;obtain⟨y,hy,e⟩:=xal.1 hin;obtain⟨z,hz,e2⟩:=xal.1 (hp.mem_iff.1 hy);rw[<-e2]at e;have:=xaN.1 hz;simp only[Fp]at e;omega
  refine ah.inc (aD.mk ⟨i+1,l2,C2,rfl,η,rfl,hh2,?_⟩ (by simp only[bH];omega));apply cZ.trans;rw[xbZ,xaz];exact(List.Perm.cons _ hp).trans (xdC _ _).symm
 obtain rfl:i=K.n:=by omega
 refine⟨λvs H=>∃(s:zV) (done:zL) (l:List It) (CS C':Hp),vs=[s]/\H=CS++(C'++C)/\Yx (.pointer (some ⟨bh,0,none⟩)) l C'/\aL 3 .i64 s (iw done) CS/\(done.map (Fp w)++l).Perm ((List.range K.n).map (Fp w))/\done.Pairwise (λa b=>prec (Fp w b) (Fp w a)=false)/\(∀a∈done,∀b∈l,prec b (Fp w a)=false),λvs _=>K.n-sln vs,JE.mk ⟨_,[],l,[],C',rfl,rfl,hh,aL.nil,hp,List.Pairwise.nil,by simp⟩,?_⟩;clear hp hh nL;rintro w2 H ⟨s,done,l,CS,C',⟨⟩,rfl,hh,hs,hp,hpw,hpd⟩ gs;have Ξ:done.length+l.length=K.n:=by have:=hp.length_eq;simpa using this
 refine ae.eq (XB hh) (ah.nV (b:=0) (Br.dec (λη=>?_) (λhge=>?_)))
 ·apply ae.fq (Xv hh zO);rintro r C2 ⟨l2,hh2,⟨rfl,_⟩|⟨a,cZ,hmin,rfl⟩⟩
  ·simp at η
  have QJ:a∈l:=cZ.mem_iff.2 (.head _);obtain⟨x,hx,hxa⟩:=xal.1 (hp.mem_iff.1 (xaa _ QJ));subst hxa;refine Ext.mk rfl (Ext.mk rfl (Ext.mk rfl (aq.int (e:=3) (x:=(x:Int)) zK zK zK λbx=>?_)));refine hs.qd (x:=(x:Int)) (.cons .left) (by exact .head _) (by rw[av];omega) (by rw[av];omega) λs2 CS2 tq=>?_;have e1:∀{s:zV} {done:zL} {CS:Hp},aL 3 .i64 s (iw done) CS->sln [s]=done.length:=λ{s done CS} h=>by
   obtain⟨a,c,h⟩:=aU.len h;rw[h];simp[sln,iw]
  refine aD.of .tail ⟨s2,done++[x],l2,CS2,C2,rfl,rfl,hh2,by rw[cH];exact tq,?_,?_,?_⟩ ?_
  ·refine .trans ?_ hp;rw[xaz,xag];exact xbB _ cZ.symm
  ·refine List.pairwise_append.2 ⟨hpw,List.pairwise_singleton _ _,λd hd y hy=>?_⟩;rw[xaE.1 hy];exact hpd d hd _ QJ
  ·intro d hd b hb;have VH:b∈l:=cZ.mem_iff.2 (.tail _ hb);rcases xao.1 hd with hd|hd
   ·exact hpd d hd b VH
   rw[xaE.1 hd];exact hmin b VH
  rw[e1 (done:=done++[x]) (by rw[cH];exact tq),e1 hs,xaf,xcm];have:=cZ.length_eq;rw[xax]at this;omega
 have hl0:l=[]:=xcS.1 zO;subst hl0;rw[xaI]at hp;refine aQ.mk (aO.cv .right CS) ⟨CS,done,rfl,⟨?_,hpw⟩,hs⟩;have e:∀l:zL,(l.map (Fp w)).map (λi=>i.1.toNat)=l:=λl=>by
  rw[xbY]
  conv=>rhs;rw[<-xeN l]
  exact xbn λx _=>by simp[Fp]
 have:=hp.map λi=>i.1.toNat;rwa [e,e]at this
end
end
section
open ax
def Bk(m:Rm)(g:Nat)(W:zL->Nat->Nat)(θ:zL):List (zL)->Prop
 | []=>True
 |l::r=>QS (W θ) m.n l/\Bk m g W (aA θ (m.cr g θ l).1) r
def tV{m:Rm}{g:Nat}{W:zL->Nat->Nat}{l:zL}:∀{ls:List (zL)} {θ:zL},Bk m g W θ ls->QS (W (aA θ (m.cR g θ ls).1)) m.n l->Bk m g W θ (ls++[l])
 | [],θ,_,h=>⟨h,trivial⟩
 |a::r,θ,h,h'=>⟨h.1,tV h.2 (by rw[Rm.cR]at h';simp only at h';rw[cq]at h';exact h')⟩
def oh{m:Rm}{g:Nat}{W:zL->Nat->Nat}:∀{ls:List (zL)} {θ:zL},Bk m g W θ ls->∀l∈ls,l.Perm (List.range m.n)
 |a::r,θ,h,l,hl=>by
  rcases xak.1 hl with rfl|hl
  ·exact h.1.1
  exact oh h.2 l hl
def tU{m:Rm}{g:Nat}{W:zL->Nat->Nat}:∀{ls LD:List (zL)} {θ:zL},Bk m g W θ ls->Bk m g W θ LD->m.oK g θ ls->m.oK g θ LD->ls=LD
 |a::r,a'::r',θ,h,h',hg,Fv=>by
  obtain rfl:=h.1.uniq h'.1
  match r,r' with
  | [],[]=>rfl
  | [],b'::s'=>exact absurd Fv.1 hg
  |b::s,[]=>exact absurd hg.1 Fv
  |b::s,b'::s'=>rw[tU h.2 h'.2 hg.2 Fv.2]
section
variable {kp v gr:Nat} {K:Kd} {S:Nat->ax.Fn} {θ tr:zL} {C:Hp}
theorem Dy(h:At kp K S θ tr C)(hp:θ.Perm (List.range K.n))(mQ:100<=gr/\gr<=1000)(fm:tr.length<17317308137472):
  Fc zQ 78 #[γ kp,iv (gr:Int)] C (λv H=>∃l,QS (MQ K.n θ (K.held S)) K.n l/\v=.tuple #[rep (cK K S θ) (cK K S (aA θ ((rm K S).cr gr θ l).1)) ((rm K S).cr gr θ l).2,iv 0]/\At kp K S (aA θ ((rm K S).cr gr θ l).1) (tr++((rm K S).cr gr θ l).1) H):=by
 have hn:=h.mq;have wP:(rm K S).n=K.n:=rfl;refine aJ λg=>Pp λb1 _=>?_;refine ae.eq (qM kp (gr:=(gr:Int)) C) ?_;rw[xac zO];refine ah.cM (Br.F (ae.eq (cI h) (Build.mk (cs:=[iv ((cK K S θ:Nat):Int),iv 0,iv 0,.bool false]) zK λVQ _=>?_)));refine St.q ?_;refine ae.fq (Nz h) ?_;rintro s H ⟨NQ,l,rfl,hqs,hQ⟩;have hl:=hqs.1;have nL:l.length=K.n:=by rw[hl.length_eq,xaF]
 refine hQ.bL ?_;rw[av,nL];refine⟨λvs H=>∃(i:Nat) (C':Hp),vs=[iv (i:Int)]/\i<=K.n/\H=(VQ,.cells (List.toArray [iv ((cK K S θ:Nat):Int),iv 0,iv ((((rm K S).cr gr θ (l.take i)).2:Nat):Int),.bool false]) 97 zZ)::(b1,.cells #[iv 0,iv 0,iv 0,.bool false] 97 zZ)::(NQ++C')/\At kp K S (aA θ ((rm K S).cr gr θ (l.take i)).1) (tr++((rm K S).cr gr θ (l.take i)).1) C',
  λvs _=>K.n-bH vs 0,JE.mk ⟨0,C,rfl,xaL _,rfl,by simpa[Rm.cr,aA]using h⟩,?_⟩
 rintro w H ⟨i,C',⟨⟩,hi,rfl,hA⟩ gs;have hok:=m0 (m:=rm K S) (g:=gr) (l:=l.take i) hp (λv hv=>xaN.1 (hl.mem_iff.1 (xcK hv)));have η:(l.take i).length<=64:=by rw[xbI];omega
 have h1:=hok.len;have h2:=hok.vI;have h3:(rm K S).n*(l.take i).length<=64*64:=xcg hn η;have h4:3*((rm K S).n-1)*(l.take i).length<=(3*64)*64:=xcg (xcy _ (by rw[wP];omega)) η;have hpi:=mX hp hok.mem;refine ah.eA (Br.dec (λη=>?_) (λhge=>?_))
 ·have Tj:i<l.length:=by omega
  have nT:l.take (i+1)=l.take i++[l[i]]:=xa8 Tj;refine hQ.ld (x:=((l[i]:Nat):Int)) (dk (xab Tj)) (λ_ h=>.tail _ (.tail _ (xad _ h))) ?_;have GP:l[i]<K.n:=xaN.1 (hl.mem_iff.1 (xaK Tj));refine ae.fq (Wl hA hpi GP mQ (by rw[xaf];omega) rfl) ?_;rintro w C2 ⟨rfl,oI⟩;have u5:=(rm K S).Bg gr (θ:=aA θ ((rm K S).cr gr θ (l.take i)).1) (GL hpi GP);have Cw:=u5.vI;rw[wP]at Cw;have Xr:=zc (m:=rm K S) (g:=gr) (v:=l[i]) (l:=l.take i) (θ:=θ);rw[<-nT]at Xr;rw[xag,<-cq]at oI;refine Ext.two λb30 _=>(St.q ?_);refine Ld.f ?_;refine Ld.f ?_;refine ah.fT (aj.mk (St.one (c':=List.toArray [iv ((cK K S θ:Nat):Int),iv 0,iv ((((rm K S).cr gr θ (l.take (i+1))).2:Nat):Int),.bool false]) (by exact .tail (.head _)) rfl zI (by rw[Xr];rfl) ?_));exact ah.inc (aD.of .tail ⟨i+1,C2,rfl,η,rfl,by rw[Xr];exact oI⟩ (by simp only[bH];omega))
 obtain rfl:i=K.n:=by omega
 rw[show l.take K.n=l from by rw[<-nL];exact xa7]at hA⊢;refine ae.eq (cI hA) (aj.mk (St.one (c':=List.toArray [iv ((cK K S θ:Nat):Int),iv ((cK K S (aA θ ((rm K S).cr gr θ l).1):Nat):Int),iv ((((rm K S).cr gr θ l).2:Nat):Int),.bool false]) (by exact .head _) rfl zI rfl ?_));refine aB.q ?_;refine St.q ?_;refine aB.q ?_;exact aQ.mk (.skip (.skip .right)) ⟨l,hqs,rfl,hA⟩
theorem Dn(h:At kp K S θ tr C)(hp:θ.Perm (List.range K.n))(mQ:100<=gr/\gr<=1000)(fm:tr.length<17042430230528):
  Fc zQ 79 #[γ kp,iv (gr:Int)] C (λv H=>∃ls,Bk (rm K S) gr (λo=>MQ K.n o (K.held S)) θ ls/\(rm K S).oK gr θ ls/\v=.tuple #[rep (cK K S θ) (cK K S (aA θ ((rm K S).cR gr θ ls).1)) ((rm K S).cR gr θ ls).2,iv ((ls.length:Nat):Int),iv 0]/\At kp K S (aA θ ((rm K S).cR gr θ ls).1) (tr++((rm K S).cR gr θ ls).1) H):=by
 have hn:=h.mq;have hsz:=gB h;have wP:(rm K S).n=K.n:=rfl;have Aa:∀o,(rm K S).size o=cK K S o:=λ_=>rfl;refine aJ λg=>Po λb1 _=>?_;refine ae.eq (qM kp (gr:=(gr:Int)) C) ?_;rw[xac zO];refine ah.cM (Br.F (ae.eq (cI h) (Build.mk (cs:=[iv ((cK K S θ:Nat):Int),iv 0,iv 0,.bool false]) zK λVQ _=>?_)));refine St.q ?_;refine⟨λvs H=>∃(ls:List (zL)) (af:Int) (C':Hp),vs=[iv ((ls.length+1:Nat):Int)]/\Bk (rm K S) gr (λo=>MQ K.n o (K.held S)) θ ls/\(rm K S).tA gr θ ls/\H=(VQ,.cells (List.toArray [iv ((cK K S θ:Nat):Int),iv af,iv ((((rm K S).cR gr θ ls).2:Nat):Int),.bool false]) 97 zZ)::(b1,.cells #[iv 0,iv 0,iv 0,.bool false] 97 zZ)::C'/\At kp K S (aA θ ((rm K S).cR gr θ ls).1) (tr++((rm K S).cR gr θ ls).1) C',
  λvs _=>cK K S θ+1-bH vs 0,JE.mk ⟨[],0,C,rfl,trivial,trivial,rfl,by simpa[Rm.cR,aA]using h⟩,?_⟩
 rintro w H ⟨ls,af,C',⟨⟩,hqq,hgd,rfl,hA⟩ gs;have hls:∀l∈ls,l.Perm (List.range K.n):=oh hqq;obtain⟨g1,g2,g3,g4⟩:=Aj hp hls hgd;rw[wP]at g1 g3 g4;rw[Aa,Aa]at g2;have nL:ls.length<=1048576:=by omega
 have h3:3*(K.n-1)*K.n*ls.length<=(3*64*64)*1048576:=xcg (xcg (xcy _ zO) hn) nL;have h4:K.n*K.n*ls.length<=(64*64)*1048576:=xcg (xcg hn hn) nL;have hpi:=mX hp g1;refine ae.fq (Dy hA hpi mQ (by rw[xaf];omega)) ?_;rintro w C2 ⟨l,hql,rfl,oI⟩;have hl:=hql.1;have hok:=m0 (m:=rm K S) (g:=gr) (l:=l) hpi (λv hv=>xaN.1 (hl.mem_iff.1 hv));have Cw:=hok.vI;have Ξ:l.length=K.n:=by rw[hl.length_eq,xaF]
 have hle:=hok.le;rw[wP,Ξ]at Cw;rw[Aa,Aa]at hle;have h5:3*(K.n-1)*K.n<=3*64*64:=xcg (xcy _ zO) hn;have Xr:=ze (m:=rm K S) (g:=gr) (l:=l) (ls:=ls) (θ:=θ);have S9:=tV hqq hql;rw[xag,<-cq]at oI;have LO:=ur (m:=rm K S) (g:=gr) (l:=l) hgd;have hge:=Er (m:=rm K S) (g:=gr) (l:=l) hgd;rw[Aa,Aa]at LO hge;generalize hx:(rm K S).cr gr (aA θ ((rm K S).cR gr θ ls).1) l=x at*;have e1:aA (aA θ ((rm K S).cR gr θ ls).1) x.1=aA θ ((rm K S).cR gr θ (ls++[l])).1:=by rw[Xr,cq]
 rw[e1]at LO hge hle;refine Ext.two λb24 _=>(St.q ?_);refine Ld.f ?_;refine Ld.f ?_;refine ah.fT (aj.mk (St.one (c':=List.toArray [iv ((cK K S θ:Nat):Int),iv af,iv ((((rm K S).cR gr θ (ls++[l])).2:Nat):Int),.bool false]) (by exact .tail (.head _)) rfl zI (by rw[Xr];rfl) ?_));refine Ld.f ?_;refine aj.mk (St.one (c':=List.toArray [iv ((cK K S θ:Nat):Int),iv ((cK K S (aA θ ((rm K S).cR gr θ (ls++[l])).1):Nat):Int),iv ((((rm K S).cR gr θ (ls++[l])).2:Nat):Int),.bool false]) (by exact .tail (.head _)) rfl zI (by rw[<-e1];rfl) ?_);refine Ld.f ?_;refine Ld.f ?_;rw[e1];refine ah.uo (Br.dec (λam1=>?_) (λη=>?_))
 ·refine aB.q ?_;refine St.q ?_;refine aB.q ?_;exact aQ.mk (.skip (.skip .tail)) ⟨ls++[l],S9,hge zO,by rw[xaf];rfl,by rw[Xr];exact oI⟩
 refine ah.inc (aD.of .tail ⟨ls++[l],_,C2,by rw[xaf];rfl,S9,LO zO,rfl,by rw[Xr];exact oI⟩ ?_);simp only[bH];omega
end
end
end Go.Proofs
namespace ax
open an
def X1{n:Nat}{L L':an.Fs}(hL:∀t∈L,eU n t)(hL':∀t∈L',eU n t)(h:FT n L=FT n L'):lvl n L=lvl n L':=by
 refine funext λA=>funext λv=>Sk (λt=>⟨λht=>?_,λht=>?_⟩) A v
 ·obtain⟨u,hu,e⟩:FT n L' (nW n t):=h▸(⟨t,ht,rfl⟩:FT n L (nW n t));rw[BV (hL t ht) (hL' u hu) e];exact hu
 obtain⟨u,hu,e⟩:FT n L (nW n t):=h.symm▸(⟨t,ht,rfl⟩:FT n L' (nW n t));rw[BV (hL' t ht) (hL u hu) e];exact hu
end ax
set_option maxRecDepth 100000
namespace Go.Proofs
open Go Go.Sx
open ax
variable{kp:Nat}{K:Kd}{S:Nat->ax.Fn}{θ tr:zL}{C:Hp}
section
def Fe(m:Rm)(F:ax.Fn->Prop)(θ:zL)(s gr:Nat)(ls:zL)(c:Nat)(d:Bool):Prop:=
 (s=0/\ls=[]/\c=0/\d=false)\/
 (s=1/\∃l,QS (MQ m.n θ F) m.n l/\ls=(m.cr gr θ l).1/\c=(m.cr gr θ l).2/\d=false)\/
 (s=2/\∃lss,Bk m gr (λo=>MQ m.n o F) θ lss/\m.oK gr θ lss/\ls=(m.cR gr θ lss).1/\c=(m.cR gr θ lss).2/\d=false)\/
 ((3<=s/\s<=5)/\ls=(m.pass (s-1) θ).1/\c=(m.pass (s-1) θ).2/\d=false)\/
 (s=6/\∃L:an.Fs,(∀t∈L,an.eU m.n t)/\F=FT m.n L/\((m.size θ=an.B m.n (an.lvl m.n L) 0/\ls=[]/\c=0/\d=true)\/
  (m.size θ≠an.B m.n (an.lvl m.n L) 0/\((m.can θ (Λ θ (an.θ m.n (an.lvl m.n L) m.n 0))=true/\ls=Λ θ (an.θ m.n (an.lvl m.n L) m.n 0)/\c=(Λ θ (an.θ m.n (an.lvl m.n L) m.n 0)).length/\d=true)\/
   (m.can θ (Λ θ (an.θ m.n (an.lvl m.n L) m.n 0))=false/\ls=[]/\c=2*(m.dJ 0 (Λ θ (an.θ m.n (an.lvl m.n L) m.n 0)) θ).length/\d=false)))))
def Fe.uniq{m:Rm}{F:ax.Fn->Prop}{s gr:Nat}{ls LD:zL}{c c':Nat}{d d':Bool}(h:Fe m F θ s gr ls c d)(h':Fe m F θ s gr LD c' d'):ls=LD/\c=c'/\d=d':=by
 rcases h with⟨rfl,rfl,rfl,rfl⟩|⟨rfl,l,hl,rfl,rfl,rfl⟩|⟨rfl,l,hl,hg,rfl,rfl,rfl⟩|⟨hs,rfl,rfl,rfl⟩|⟨rfl,L,hL,rfl,h⟩
 ·rcases h' with⟨_,rfl,rfl,rfl⟩|⟨h,_⟩|⟨h,_⟩|⟨h,_⟩|⟨h,_⟩
  ·exact⟨rfl,rfl,rfl⟩
  all_goals omega
 ·rcases h' with⟨h,_⟩|⟨_,l',hl',rfl,rfl,rfl⟩|⟨h,_⟩|⟨h,_⟩|⟨h,_⟩
  ·omega
  ·obtain rfl:=hl.uniq hl';exact⟨rfl,rfl,rfl⟩
  all_goals omega
 ·rcases h' with⟨h,_⟩|⟨h,_⟩|⟨_,l',hl',Fv,rfl,rfl,rfl⟩|⟨h,_⟩|⟨h,_⟩
  ·omega
  ·omega
  ·obtain rfl:=tU hl hl' hg Fv;exact⟨rfl,rfl,rfl⟩
  all_goals omega
 ·rcases h' with⟨h,_⟩|⟨h,_⟩|⟨h,_⟩|⟨_,rfl,rfl,rfl⟩|⟨h,_⟩
  ·omega
  ·omega
  ·omega
  ·exact⟨rfl,rfl,rfl⟩
  omega
 rcases h' with⟨h,_⟩|⟨h,_⟩|⟨h,_⟩|⟨h,_⟩|⟨_,L',hL',hF,h'⟩
 ·omega
 ·omega
 ·omega
 ·omega
 rw[<-X1 hL hL' hF]at h';rcases h with⟨a,rfl,rfl,rfl⟩|⟨a,⟨b,rfl,rfl,rfl⟩|⟨b,rfl,rfl,rfl⟩⟩<;>rcases h' with⟨a',rfl,rfl,rfl⟩|⟨a',⟨b',rfl,rfl,rfl⟩|⟨b',rfl,rfl,rfl⟩⟩
 ·exact⟨rfl,rfl,rfl⟩
 ·exact absurd a a'
 ·exact absurd a a'
 ·exact absurd a' a
 ·exact⟨rfl,rfl,rfl⟩
 ·rw[b]at b';cases b'
 ·exact absurd a' a
 ·rw[b]at b';cases b'
 exact⟨rfl,rfl,rfl⟩
def Ys(kp:Nat)(K:Kd)(S:Nat->ax.Fn)(θ tr:zL)(s gr:Nat)(v:zV)(H:Hp):Prop:=
 ∃(ls:zL) (c:Nat) (d:Bool),v=.tuple #[uK (cK K S θ:Nat) (cK K S (aA θ ls):Nat) (c:Nat) d,iv 0]/\At kp K S (aA θ ls) (tr++ls) H/\uC (rm K S) θ ls/\c<=swB K.n (cK K S θ) s/\(d=true->s=6)/\Fe (rm K S) (K.held S) θ s gr ls c d
def Ys.shape{s gr:Nat}{v:zV}{H:Hp}(h:Ys kp K S θ tr s gr v H):∃(a b c:Int) (d:Bool) (e:zV),v=.tuple #[uK a b c d,e]:=by obtain⟨ls,c,d,rfl,_⟩:=h;exact⟨_,_,_,_,_,rfl⟩
def DB(h:At kp K S θ tr C)(hp:θ.Perm (List.range K.n)){s gr:Nat}(hs:s<=6)(mQ:100<=gr/\gr<=1000)(hx:s=6->K.n<=12)(fm:tr.length<16492674416640):
  Fc zQ 45 #[γ kp,.int .u8 (s:Int),iv (gr:Int)] C (Ys kp K S θ tr s gr):=by
 have hn:=h.mq;have hrn:(rm K S).n=K.n:=rfl;have Aa:∀o,(rm K S).size o=cK K S o:=λ_=>rfl;have win:∀w:Nat,3<=w/\w<=5->Fc zQ 45 #[γ kp,.int .u8 (w:Int),iv (gr:Int)] C (Ys kp K S θ tr w gr):=λw hw=>by
  refine F9 h hw mQ ((Yp h (w:=w-1) zO zO).mono ?_) λv H h=>h.shape;rintro v H ⟨rfl,hA⟩;obtain⟨h1,h2⟩:=FW (m:=rm K S) (w:=w-1) (θ:=θ) zO hn;refine⟨_,_,false,rfl,hA,h1,xbT h2 (Nat.le_of_eq ?_),nofun,.inr (.inr (.inr (.inl ⟨hw,rfl,rfl,rfl⟩)))⟩;rw[hrn];obtain rfl|rfl|rfl:w=3\/w=4\/w=5:=by omega
  ·rfl
  ·show(K.n+1-3)*10=(K.n-2)*10;rw[show K.n+1-3=K.n-2 by omega]
  show(K.n+1-4)*46=(K.n-3)*46;rw[show K.n+1-4=K.n-3 by omega]
 obtain rfl|rfl|rfl|h3|rfl:s=0\/s=1\/s=2\/(3<=s/\s<=5)\/s=6:=by omega
 ·apply Fc.mono (RR h mQ);rintro v H ⟨rfl,rfl⟩;exact⟨[],0,false,rfl,by rw[xaI];exact h,.nil,xaL _,nofun,.inl ⟨rfl,rfl,rfl,rfl⟩⟩
 ·refine RP h mQ ((Dy h hp mQ zO).mono ?_) λv H h=>h.shape;rintro v H ⟨l,hl,rfl,hA⟩;obtain⟨h1,h2⟩:=qK (m:=rm K S) (g:=gr) hp hl.1 hn;exact⟨_,_,false,rfl,hA,h1,h2,nofun,.inr (.inl ⟨rfl,l,hl,rfl,rfl,rfl⟩)⟩
 ·refine Ga h mQ ((Dn h hp mQ zO).mono ?_);rintro v H ⟨lss,hqs,hg,rfl,hA⟩;have hls:=oh hqs;exact⟨_,_,_,false,_,rfl,_,_,false,rfl,hA,vL hn hp hls hg,FU hp hls hg,nofun,.inr (.inr (.inl ⟨rfl,lss,hqs,hg,rfl,rfl,rfl⟩))⟩
 ·exact win s h3
 have uN:=hx rfl;refine Nq h uN mQ ((VW h hp uN zO).mono ?_) λv H h=>h.shape;rintro v H ⟨L,BQ,oE,TV,hQ⟩;have hk:∀p:zL,p.Perm (List.range K.n)->cK K S p=kU K.n p L K.n:=λp hp=>by
  unfold cK;rw[oE];exact YH BQ zO (Lp hp)
 rcases hQ with⟨e,rfl,hA⟩|⟨ξ,o,ls,ho,hls,hQ⟩
 ·exact⟨[],0,true,rfl,by rw[xaI];exact hA,.nil,xaL _,λ_=>rfl,.inr (.inr (.inr (.inr ⟨rfl,L,BQ,oE,.inl ⟨e,rfl,rfl,rfl⟩⟩)))⟩
 have Δ:o.Perm (List.range K.n):=by rw[ho];exact tH _
 have hoB:cK K S o=an.B K.n (an.lvl K.n L) 0:=by rw[hk o Δ,ho];exact tG zO BQ
 have hle:an.B K.n (an.lvl K.n L) 0<=cK K S θ:=by rw[hk θ hp];exact Yi zO BQ hp
 have adM:o.Nodup:=Δ.nodup_iff.2 xbh;have Cy:o.length=K.n:=by rw[Δ.length_eq,xaF]
 have hdl:θ.length=K.n:=by rw[hp.length_eq,xaF]
 obtain⟨QA,S7⟩:=Bo adM (hp.trans Δ.symm);have Cw:=Gi adM (hp.trans Δ.symm) Cy;rw[<-hls]at QA S7 Cw;have els:ls=Λ θ (an.θ (rm K S).n (an.lvl (rm K S).n L) (rm K S).n 0):=by rw[hls,ho];rfl
 have LW:K.n*(K.n-1)<=12*11:=xcg uN zO;rcases hQ with⟨hc,rfl,hA⟩|⟨hc,rfl,hA⟩
 ·refine⟨ls,_,true,by rw[QA],by rw[QA];exact hA,.of (λx hx=>by have:=S7 x hx;omega) ?_ ?_ zO,by show ls.length<=K.n*(K.n-1);omega,λ_=>rfl,.inr (.inr (.inr (.inr ⟨rfl,L,BQ,oE,.inr ⟨ξ,.inl ⟨by rw[<-els];exact hc,els,by rw[<-els],rfl⟩⟩⟩)))⟩
  ·rw[QA,Aa,Aa];omega
  rw[QA,Aa,Aa];omega
 have hgl:=(rm K S).mF 0 ls θ;exact⟨[],_,false,rfl,by rw[xaI];exact hA,.nil,by show 2*_<=K.n*(K.n-1);omega,nofun,.inr (.inr (.inr (.inr ⟨rfl,L,BQ,oE,.inr ⟨ξ,.inr ⟨by rw[<-els];exact hc,rfl,by rw[<-els],rfl⟩⟩⟩)))⟩
end
end Go.Proofs
namespace ax
open an
variable {n:Nat} {ai:Nat->Nat} {N:eM} {S:Nat->Fn} {θ:zL} {R:Nat->Prop} {V:zL}
inductive Rc(N:eM)(R:Nat->Prop):Nat->Prop
 |base {r:Nat}:R r->Rc N R r
 |lo {p:Nat} {d:Nd}:Rc N R p->N p=some d->Rc N R d.lo
 |hi {p:Nat} {d:Nd}:Rc N R p->N p=some d->Rc N R d.hi
def O4(N:eM)(V:zL):Prop:=∀u∈V,∃d,N u=some d/\(d.lo<2\/d.lo∈V)/\(d.hi<2\/d.hi∈V)
def KO(h0:∀r,r<2->N r=none)(hV:O4 N V)(hR:∀r,R r->r<2\/r∈V):∀l r,A N ai n R l r->r<2\/r∈V
 |0,r,ha=>hR r ha
 |l+1,r,ha=>by
  rcases ha with⟨h1,_⟩|⟨p,d,h1,h2,_,h4⟩
  ·exact KO h0 hV hR l r h1
  rcases KO h0 hV hR l p h1 with hp|hp
  ·rw[h0 p hp]at h2;cases h2
  obtain⟨d',hd,a,b⟩:=hV p hp;rw[h2]at hd;cases hd;rcases h4 with rfl|rfl
  ·exact a
  exact b
def Rc.at(h:WF n ai N)(hR:∀r,R r->live N r){u:Nat}(hu:Rc N R u):∀d,N u=some d->A N ai n R (ai d.v) u:=by
 induction hu with
 |base hr=>
  intro d hd;have:=tO (N:=N) (ai:=ai) (n:=n) (ai d.v) 0 hr (by rw[au hd];omega);rwa [xa1]at this
 | @lo p e hp he ih=>
  intro d hd;have η:=(h.lo he).2;rw[au hd]at η;have hb:A N ai n R (ai e.v+1) e.lo:=.inr ⟨p,e,ih e he,he,rfl,.inl rfl⟩;have:=tO (ai d.v-(ai e.v+1)) _ hb (by rw[au hd];omega);rwa [show ai e.v+1+(ai d.v-(ai e.v+1))=ai d.v by omega]at this
 | @hi p e hp he ih=>
  intro d hd;have η:=(h.hi he).2;rw[au hd]at η;have hb:A N ai n R (ai e.v+1) e.hi:=.inr ⟨p,e,ih e he,he,rfl,.inr rfl⟩;have:=tO (ai d.v-(ai e.v+1)) _ hb (by rw[au hd];omega);rwa [show ai e.v+1+(ai d.v-(ai e.v+1))=ai d.v by omega]at this
def MU(h:WF n ai N)(hl:jY n ai)(ho:Ord n ai θ)(hi:Interp N S)(hR:∀r,R r->live N r)(hV:O4 N V)(hRV:∀r,R r->r<2\/r∈V)(hVR:∀u∈V,Rc N R u)(g:Fn):aE n θ (Fs S R) g↔∃u∈V,g=S u:=by
 constructor
 ·rintro⟨l,yI,hf,x,hx⟩;obtain⟨v1,v2⟩:=ho.bg l yI;obtain⟨r,ha,rfl⟩:=(Et h hl ho hi hR l zO g).1 hf;rcases KO (λr hr=>h.const hr) hV hRV l r ha with hc|hm
  ·exfalso;have:r=0\/r=1:=by omega
   rcases this with rfl|rfl
   ·exact hx (by rw[hi.zero,hi.zero])
   exact hx (by rw[hi.one,hi.one])
  exact⟨r,hm,rfl⟩
 rintro⟨u,hu,rfl⟩;obtain⟨d,hd,_⟩:=hV u hu;have hv:=h.var hd;refine⟨ai d.v,hl.lt _ hv,(Et h hl ho hi hR _ (xce (hl.lt _ hv)) _).2 ⟨u,(hVR u hu).at h hR d hd,rfl⟩,?_⟩;rw[ho.of hl hv];exact gA h hl hi hd
def VZ(h:WF n ai N)(hl:jY n ai)(ho:Ord n ai θ)(hi:Interp N S)(hR:∀r,R r->live N r)(hV:O4 N V)(hRV:∀r,R r->r<2\/r∈V)(hVR:∀u∈V,Rc N R u)(nd:V.Nodup):nQ (aE n θ (Fs S R)) V.length:=by
 have live':∀u∈V,live N u:=λu hu=>let ⟨d,hd,_⟩:=hV u hu;.inr ⟨d,hd⟩
 refine⟨V.map S,?_,by simp,λg=>?_⟩
 ·refine xbN.2 (nd.imp_of_mem λ{a b} ha hb ξ e=>ξ ?_);exact h.same hl hi (live' a ha) (live' b hb) λx=>congrFun e x
 rw[MU h hl ho hi hR hV hRV hVR,xal];exact⟨λ⟨u,hu,e⟩=>⟨u,hu,e.symm⟩,λ⟨u,hu,e⟩=>⟨u,hu,e.symm⟩⟩
def MV(h:WF n ai N)(hl:jY n ai)(hi:Interp N S)(hV:O4 N V){v:Nat}(Γ:∀u∈V,∀d,N u=some d->d.v≠v):∀(k u:Nat),n-ι n ai N u<=k->u<2\/u∈V->∀x,S u (aC x v false)=S u (aC x v true):=by
 intro k;have const:∀u,u<2->∀x,S u (aC x v false)=S u (aC x v true):=λu hu x=>by
  have:u=0\/u=1:=by omega
  rcases this with rfl|rfl
  ·rw[hi.zero,hi.zero]
  rw[hi.one,hi.one]
 induction k with
 |zero=>
  intro u hk hu x;rcases hu with hu|hu
  ·exact const u hu x
  obtain⟨d,hd,_⟩:=hV u hu;rw[au hd]at hk;have:=hl.lt _ (h.var hd);omega
 |succ k ih=>
  intro u hk hu x;rcases hu with hu|hu
  ·exact const u hu x
  obtain⟨d,hd,a,b⟩:=hV u hu;have h1:=(h.lo hd).2;have h2:=(h.hi hd).2;have h3:=hl.lt _ (h.var hd);rw[au hd]at hk;have ξ:=Γ u hu d hd;rw[hi.node hd,hi.node hd,ak,ak,xac ξ,xac ξ,ih d.lo zO a,ih d.hi zO b]
def Rc.bW(h:WF n ai N)(hl:jY n ai)(hi:Interp N S){r u v:Nat}(hu:Rc N (λq=>q=r) u):bW (S u) v->bW (S r) v:=by
 have step:∀(p q:Nat) (d:Nd) (b:Bool),N p=some d->q=(if b then d.hi else d.lo)->ax.bW (S q) v->ax.bW (S p) v:=λp q d b hp hq hv=>by
  have Xu:live N q/\ai d.v+1<=ι n ai N q:=by
   cases b
   ·rw[hq];exact h.lo hp
   rw[hq];exact h.hi hp
  have ind:∀x c,S q (aC x d.v c)=S q x:=λx c=>h.bO hl hi Xu.1 (h.var hp) zO x c;obtain⟨x,hx⟩:=hv;have ξ:v≠d.v:=λe=>by
   subst e;exact hx (by rw[ind,ind])
  refine⟨aC x d.v b,?_⟩;have e:∀c,S p (aC (aC x d.v b) v c)=S q (aC x v c):=λc=>by
   have tb:(aC (aC x d.v b) v c).testBit d.v=b:=by rw[ak,xac (λe=>ξ e.symm),ak,xae rfl]
   rw[hi.node hp,tb,dx (λe=>ξ e.symm),<-ind (aC x v c) b,hq];cases b<;>rfl
  rw[e,e];exact hx
 induction hu with
 |base hr=>rw[hr];exact id
 |lo _ he ih=>exact λhv=>ih (step _ _ _ false he rfl hv)
 |hi _ he ih=>exact λhv=>ih (step _ _ _ true he rfl hv)
def MW(h:WF n ai N)(hl:jY n ai)(hi:Interp N S){r:Nat}(hV:O4 N V)(hr:r<2\/r∈V)(hVR:∀u∈V,Rc N (λq=>q=r) u)(v:Nat):bW (S r) v↔∃u∈V,∃d,N u=some d/\d.v=v:=by
 constructor
 ·rintro⟨x,hx⟩;refine xaD λΓ=>hx (MV h hl hi hV (λu hu d hd e=>Γ ⟨u,hu,d,hd,e⟩) _ r (xai _) hr x)
 rintro⟨u,hu,d,hd,rfl⟩;exact(hVR u hu).bW h hl hi (gA h hl hi hd)
end ax
set_option maxRecDepth 100000
namespace Go.Proofs
open Go Go.Sx
section
open ax
section
variable {kp mb b7 b1 b3 B8 VP:Nat} {cap:Array zV} {K:Kd} {S:Nat->ax.Fn} {θ ai tr:zL} {C Z:Hp} {P:zL->Hp->Prop}
def zf(V:zL):List (Nat×Unit):=V.map λr=>(r,())
variable{r:Nat}
def vS{V:zL}:aN (zf V) r=if r∈V then some ()else none:=by
 unfold zf;induction V with
 |nil=>rfl
 |cons a V ih=>
  unfold aN at*;rw[xay,xbG];by_cases e:a=r
  ·subst e;simp
  simp only[e,xdt];rw[ih];have:(r∈a::V)↔r∈V:=by simp[xa9 e]
  by_cases hv:r∈V
  ·rw[xae hv,xae (this.2 hv)]
  rw[xac hv,xac λh=>hv (this.1 h)]
def RJ{V:zL}(h:r∉V):eu (zf V) r ()=zf (V++[r]):=by unfold eu zf;rw[xac (by rw[xbY];simpa using h),xaz];rfl
abbrev Fb(es:Array MapEntry)(ck:Nat)(V:zL):Prop:=aI kr (λv (_:Unit)=>v=ε 1) es ck (zf V)
structure Walk(K:Kd)(V V':zL)(r:Nat):Prop where
 nd:V'.Nodup
 sub:∀u∈V,u∈V'
 has:r<2\/r∈V'
 shut:∀u∈V',u∉V->∃d,K.N u=some d/\(d.lo<2\/d.lo∈V')/\(d.hi<2\/d.hi∈V')
 rc:∀u∈V',u∉V->Rc K.N (λq=>q=r) u
def YA(VP:Nat)(cap:Array zV)(K:Kd)(P:zL->Hp->Prop):Prop:=aW zQ VP=true/\∀(V:zL) (r:Nat) (d:Nd) (G:Hp),K.N r=some d->P V G->Fc zQ VP (#[.agg (bB d).toArray]++cap) G (λv G'=>v=.tuple #[]/\P (V++[r]) G')
def zi{N:eM}{q u:Nat}(h1:Rc N (λx=>x=r) q)(h2:Rc N (λx=>x=q) u):Rc N (λx=>x=r) u:=by
 induction h2 with
 |base e=>rw[e];exact h1
 |lo _ hd ih=>exact .lo ih hd
 |hi _ hd ih=>exact .hi ih hd
theorem VY(h:bS kp K S θ ai tr C)(hd:YA VP cap K P)(h7:(b7,Obj.cells #[.map (some mb)] 256 zZ)∈Z)(h1:(b1,Obj.cells #[γ kp] 53 zZ)∈Z)(h3:(b3,Obj.cells #[.func (.func VP) #[] cap] 189 zZ)∈Z)
 (h10:(B8,Obj.cells #[.func (.func 194) #[] #[γ b7,γ b1,γ b3,γ B8]] 183 zZ)∈Z):
  ∀(k r:Nat) (es:Array MapEntry) (ck:Nat) (V:zL) (G:Hp),K.n-ι K.n (lv ai) K.N r<=k->live K.N r->V.Nodup->Fb es ck V->P V G->
  Fc zQ 194 #[δ r,γ b7,γ b1,γ b3,γ B8] ((mb,.map es ck)::(G++(Z++C))) (λv H=>v=.tuple #[]/\∃τ bF V' G',H=(mb,.map τ bF)::(G'++(Z++C))/\Fb τ bF V'/\P V' G'/\Walk K V V' r):=by
 have stop:∀{r:Nat} {es:Array MapEntry} {ck:Nat} {V:zL} {G:Hp},V.Nodup->Fb es ck V->P V G->(r<2\/r∈V)->
   Fc zQ 194 #[δ r,γ b7,γ b1,γ b3,γ B8] ((mb,.map es ck)::(G++(Z++C))) (λv H=>v=.tuple #[]/\∃τ bF V' G',H=(mb,.map τ bF)::(G'++(Z++C))/\Fb τ bF V'/\P V' G'/\Walk K V V' r):=by
  intro r es ck V G fQ hE hP hr;refine aJ λg=>x6 (ae.eq (pW r _) (dh.or (a:=decide (r<2)) (decide (r∈V)) (λ_=>?_) rfl λ_=>?_))
  ·refine Ld.mk (v:=.map (some mb)) (.tail _ (xaa _ (xad _ h7))) rfl ?_;by_cases hm:r∈V
   ·refine hE.hit (k:=r) dc (b:=mb) (by exact .head _) (by rw[vS,xae hm]) λv e=>?_;subst e;exact ah.gtr ⟨rfl,by rw[xam hm];rfl⟩
   refine hE.bR (k:=r) dc (b:=mb) (by exact .head _) (by rw[vS,xac hm]) ?_;exact ah.gtr ⟨rfl,by rw[xan hm];rfl⟩
  rw[<-xa6,xam hr];refine Br.yes (aQ.mk (.refl _) ⟨rfl,es,ck,V,G,rfl,hE,hP,⟨fQ,λ_ h=>h,hr,λu h h'=>absurd h h',λu h h'=>absurd h h'⟩⟩)
 intro k;induction k with
 |zero=>
  intro r es ck V G hk hr fQ hE hP;refine stop fQ hE hP (.inl ?_);cases hN:K.N r with
  |some d=>
   rw[au hN]at hk;have:=h.ok.lv.lt _ (h.ok.mid.var hN);omega
  |none=>
   rcases hr with hr|⟨d,e⟩
   ·exact hr
   rw[hN]at e;cases e
 |succ k ih=>
  intro r es ck V G hk hr fQ hE hP;by_cases hs:r<2\/r∈V
  ·exact stop fQ hE hP hs
  have q7:¬r<2:=λh=>hs (.inl h);have hrV:r∉V:=λh=>hs (.inr h);obtain⟨d,hN⟩:∃d,K.N r=some d:=by
   rcases hr with hr|hr
   ·omega
   exact hr
  have hlo:=h.ok.wf.lo hN;have hhi:=h.ok.wf.hi hN;rw[au hN]at hk;have hvl:=h.ok.lv.lt _ (h.ok.mid.var hN);refine aJ λg=>x6 (ae.eq (pW r _) (dh.or (a:=decide (r<2)) false (λ_=>?_) rfl λ_=>?_))
  ·refine Ld.mk (v:=.map (some mb)) (.tail _ (xaa _ (xad _ h7))) rfl ?_;refine hE.bR (k:=r) dc (b:=mb) (by exact .head _) (by rw[vS,xac hrV]) ?_;exact ah.gtr ⟨rfl,rfl⟩
  rw[xan q7];refine Br.no (Ld.mk (v:=.map (some mb)) (.tail _ (xaa _ (xad _ h7))) rfl ?_);refine hE.bt (k:=r) (b:=mb) (x:=()) dc gZ rfl λkR j7 GZ=>⟨_,.head _,?_⟩;rw[RJ hrV]at GZ;refine Ld.mk (v:=γ kp) (.tail _ (xaa _ (xad _ h1))) rfl ?_;refine ae.eq (args:=#[γ kp,δ r]) (xy h hN) λjx _=>?_;refine St.p (fN d) ?_;refine Ld.mk (v:=.func (.func VP) #[] cap) (.tail _ (.tail _ (xaa _ (xad _ h3)))) rfl ?_;refine aB.q ?_;refine aM.of rfl hd.1 (ae.fn (.cons (.cons .left)) (by simpa using hd.2 V r d G hN hP) ?_);rintro v G1 ⟨rfl,hP1⟩;refine Ld.mk (v:=.func (.func 194) #[] #[γ b7,γ b1,γ b3,γ B8]) (.tail _ (.tail _ (xaa _ (xad _ h10)))) rfl ?_;refine Ld.f (v:=δ d.lo) (aM.of rfl zK ?_);have ahD:(V++[r]).Nodup:=xa3.2 ⟨fQ,by simp,λa ha b hb e=>hrV (by rw[xaE.1 hb]at e;rwa [<-e])⟩;refine ae.fq (args:=#[δ d.lo,γ b7,γ b1,γ b3,γ B8]) (ih d.lo kR j7 (V++[r]) G1 zO hlo.1 ahD GZ hP1) ?_;rintro v H ⟨rfl,ic,iO,V2,G2,rfl,tw,hP2,w2⟩;refine Ld.mk (v:=.func (.func 194) #[] #[γ b7,γ b1,γ b3,γ B8]) (.tail _ (.tail _ (xaa _ (xad _ h10)))) rfl ?_;refine Ld.f (v:=δ d.hi) (aM.of rfl zK (ae.fq (args:=#[δ d.hi,γ b7,γ b1,γ b3,γ B8]) (ih d.hi ic iO V2 G2 zO hhi.1 w2.nd tw hP2) ?_));rintro v H ⟨rfl,pT,rF,V3,G3,rfl,QM,hP3,w3⟩;have r2:r∈V2:=w2.sub r zI;refine aQ.mk .tail ⟨rfl,pT,rF,V3,G3,rfl,QM,hP3,⟨w3.nd,λu hu=>w3.sub u (w2.sub u (xad _ hu)),.inr (w3.sub r r2),λu hu hn=>?_,λu hu hn=>?_⟩⟩
  ·by_cases Xm:u∈V2
   ·by_cases GQ:u∈V++[r]
    ·rcases xao.1 GQ with h'|h'
     ·exact absurd h' hn
     rw[xaE.1 h'];exact⟨d,hN,w2.has.imp id (w3.sub _),w3.has⟩
    obtain⟨e,he,a,b⟩:=w2.shut u Xm GQ;exact⟨e,he,a.imp id (w3.sub _),b.imp id (w3.sub _)⟩
   exact w3.shut u hu Xm
  by_cases Xm:u∈V2
  ·by_cases GQ:u∈V++[r]
   ·rcases xao.1 GQ with h'|h'
    ·exact absurd h' hn
    exact .base (xaE.1 h')
   exact zi (Rc.lo (.base rfl) hN) (w2.rc u Xm GQ)
  exact zi (Rc.hi (.base rfl) hN) (w3.rc u hu Xm)
def ES(h:bS kp K S θ ai tr C)(hd:YA VP cap K P){b:Nat}{X G:Hp}(hr:live K.N r)(hP:P [] G)(hm:(b,Obj.cells (az .u32 [(r:Int)]) 78 zZ)∈X):
  Fc zQ 129 #[γ kp,.slice (some ⟨b,0,none⟩) 1 1,.func (.func VP) #[] cap] (G++(X++C)) (λv H=>v=.tuple #[]/\∃V G',H=G'++(X++C)/\P V G'/\V.Nodup/\O4 K.N V/\(r<2\/r∈V)/\∀u∈V,Rc K.N (λq=>q=r) u):=by
 refine aJ λg=>Ke λb1 _ b3 _ mb _ b7 _=>?_;apply St.one (c':=#[.map (some mb)]) (by exact .head _) rfl zI rfl;intro B8 _;apply St.one (c':=#[.func (.func 194) #[] #[γ b7,γ b1,γ b3,γ B8]]) (by exact .head _) rfl zI rfl;apply aP.mk;obtain⟨Z,hZ⟩:∃Z:Hp,Z=(B8,Obj.cells #[.func (.func 194) #[] #[γ b7,γ b1,γ b3,γ B8]] 183 zZ)::(b7,.cells #[.map (some mb)] 256 zZ)::(b3,.cells #[.func (.func VP) #[] cap] 189 zZ)::(b1,.cells #[γ kp] 53 zZ)::X:=⟨_,rfl⟩;have QB:∀(e:Obj),List.Perm ((B8,Obj.cells #[.func (.func 194) #[] #[γ b7,γ b1,γ b3,γ B8]] 183 zZ)::(b7,.cells #[.map (some mb)] 256 zZ)::(mb,e)::(b3,.cells #[.func (.func VP) #[] cap] 189 zZ)::(b1,.cells #[γ kp] 53 zZ)::(G++(X++C))) ((mb,e)::(G++(Z++C))):=λe=>by
  rw[hZ];refine((List.Perm.cons _ (List.Perm.swap _ _ _)).trans (List.Perm.swap _ _ _)).trans (.cons _ ?_);have:∀(a b c d:Nat×Obj),(a::b::c::d::(G++(X++C))).Perm (G++(a::b::c::d::(X++C))):=λa b c d=>by
   have:=(xbk (l₁:=[a,b,c,d]) (l₂:=G)).append_right (X++C);simpa[xag]using this
  exact this _ _ _ _
 refine⟨λvs H=>∃(i:Nat) (es:Array MapEntry) (ck:Nat) (V:zL) (G':Hp),vs=[ε (i:Int)]/\H=(mb,.map es ck)::(G'++(Z++C))/\Fb es ck V/\P V G'/\((i=0/\V=[])\/(i=1/\Walk K [] V r)),λvs _=>1-bH vs 0,JE.of (.perm (QB _)) ⟨0,#[],0,[],G,rfl,rfl,aI.empty,hP,.inl ⟨rfl,rfl⟩⟩,?_⟩;rintro w H ⟨i,es,ck,V,G',⟨⟩,rfl,hE,hPV,hi⟩ gs;have mZ:∀{x:Nat×Obj},x∈Z->x∈(mb,Obj.map es ck)::(G'++(Z++C)):=λhx=>.tail _ (xaa _ (xad _ hx));rcases hi with⟨rfl,rfl⟩|⟨rfl,hw⟩
 ·refine ah.eA (b:=1) (Br.T (ay.nat zD ?_));refine Ld.mk (v:=δ r) (mZ (by rw[hZ];exact .tail _ (.tail _ (.tail _ (.tail _ hm))))) rfl ?_;refine Ld.mk (v:=.func (.func 194) #[] #[γ b7,γ b1,γ b3,γ B8]) (mZ (by rw[hZ];exact .head _)) rfl ?_;refine aM.of rfl zK (ae.fq (args:=#[δ r,γ b7,γ b1,γ b3,γ B8]) (VY (Z:=Z) h hd (by rw[hZ];exact .tail _ (.head _)) (by rw[hZ];exact .tail _ (.tail _ (.tail _ (.head _)))) (by rw[hZ];exact .tail _ (.tail _ (.head _))) (by rw[hZ];exact .head _) K.n r es ck [] G' (xdA _ _) hr List.nodup_nil hE hPV) ?_);rintro v H ⟨rfl,ic,iO,V2,G2,rfl,tw,hP2,w2⟩;exact ah.inc (a:=0) (aD.mk ⟨1,ic,iO,V2,G2,rfl,rfl,tw,hP2,.inr ⟨rfl,w2⟩⟩ (by simp only[bH];decide))
 refine ah.eA (b:=1) (Br.F (aQ.mk ?_ ⟨rfl,V,G',rfl,hPV,hw.nd,λu hu=>hw.shut u hu zI,hw.has,λu hu=>hw.rc u hu zI⟩));rw[hZ];exact .skip (.cv (.skip (.skip (.skip .tail))) _)
def BW(h:bS kp K S θ ai tr C)(b6:Nat):YA 132 #[γ b6] K (λV G=>∃m:Nat,G=[(b6,.cells #[χ m] 33 zZ)]/\m<18446744073709551616/\∀v,m.testBit v=true↔∃u∈V,∃d,K.N u=some d/\d.v=v):=by
 refine⟨by kernel_rfl,?_⟩;rintro V r d G hN ⟨m,rfl,hm,hv⟩;have hn:=h.bg.mq;have kQ:=h.ok.mid.var hN;refine aJ λg=>Ka λb1 _=>?_;refine DR.of (.refl _) (Ld.mk (v:=χ m) (.tail _ (.head _)) rfl ?_);refine Ld.f (v:=ε (d.v:Int)) (ah.oc (a:=1) ?_);have e:(1<<<d.v)%18446744073709551616=2^d.v:=by
  rw[xcp,xdn];exact xbl (xaP (xby zD (show d.v<64 by omega)) zD)
 rw[e];have h2:2^d.v<18446744073709551616:=xaP (xby zD (show d.v<64 by omega)) zD;refine ah.Lt (by simpa[bI]using hm) (by simpa[bI]using h2) λF=>?_;apply St.one (c':=#[χ (m|||2^d.v)]) (by exact .tail (.head _)) rfl zI rfl;refine aQ.mk .tail ⟨rfl,_,rfl,xbM (n:=64) hm h2,λv=>?_⟩;rw[xb7,xbu,hv,xb4,xaM];constructor
 ·rintro(⟨u,hu,e,he,GY⟩|rfl)
  ·exact⟨u,xad _ hu,e,he,GY⟩
  exact⟨r,by simp,d,hN,rfl⟩
 rintro⟨u,hu,e,he,GY⟩;rcases xao.1 hu with hu|hu
 ·exact .inl ⟨u,hu,e,he,GY⟩
 rw[xaE.1 hu,hN]at he;cases he;exact .inr GY
def HQ(f:ax.Fn)(m:Nat):Prop:=m<18446744073709551616/\∀v,m.testBit v=true↔bW f v
def HQ.uniq{f:ax.Fn}{m m':Nat}(h:HQ f m)(h':HQ f m'):m=m':=xaV λv=>by
 rw[xbH,h.2,h'.2]
theorem EG(h:bS kp K S θ ai tr C)(hr:live K.N r):
  Rd zQ 92 #[γ kp,δ r] C (λv=>∃m,HQ (S r) m/\v=.tuple #[χ m,ε 0]):=by
 refine aJ λg=>Pb (aq.int (e:=78) zK zK zK λbx=>?_);refine ae.eh .here (xB (X:=[(bx,_)]) h (by exact .head _) hr) (ah.cM (Br.F λb6 _=>(St.one (c':=#[χ 0]) (by exact .head _) rfl zI rfl ?_)));refine aq.int (e:=78) zK zK zK λby'=>?_;refine ae.pre (H':=[(b6,Obj.cells #[χ 0] 33 zZ)]++([(by',Obj.cells (az .u32 [(r:Int)]) 78 zZ),(bx,Obj.cells (az .u32 [(r:Int)]) 78 zZ)]++C)) (.perm (.swap _ _ _)) ?_;refine ae.fn .here (ES (P:=λV G=>∃m:Nat,G=[(b6,.cells #[χ m] 33 zZ)]/\m<18446744073709551616/\∀v,m.testBit v=true↔∃u∈V,∃d,K.N u=some d/\d.v=v) h (BW h b6) hr ⟨0,rfl,by decide,λv=>by simp⟩ (by exact .head _)) ?_;rintro v H ⟨rfl,V,G,rfl,⟨m,rfl,hm,hv⟩,fQ,hsh,hrV,hrc⟩;refine Ld.q ?_;refine br.mk (.skip (.skip .tail)) ⟨m,⟨hm,λv=>?_⟩,rfl⟩;rw[hv,MW h.ok.wf h.ok.lv h.ok.mid.int hsh hrV hrc]
def OJ(b4:Nat):YA 130 #[γ b4] K (λV G=>∃x:Int,G=[(b4,.cells #[ε x] 3 zZ)]/\(V.length<4611686018427387904->x=V.length)):=by refine⟨by kernel_rfl,?_⟩;rintro V r d G hN ⟨x,rfl,hx⟩;refine aJ λg=>Kb λb1 _=>?_;apply Ld.mk (v:=ε x) (.tail _ (.head _)) rfl;refine ah.add (St.one (c':=#[ε (IntKind.i64.wrap (x+1))]) (by exact .tail (.head _)) rfl zI rfl ?_);refine aQ.mk .tail ⟨rfl,_,rfl,λhl=>?_⟩;rw[xaf,xcm]at hl⊢;rw[hx zO,wrap_i64 zO];omega
theorem Uw(h:bS kp K S θ ai tr C){b:Nat}{X:Hp}(hr:live K.N r)(hm:(b,Obj.cells (az .u32 [(r:Int)]) 78 zZ)∈X):
  Rd zQ 90 #[γ kp,.slice (some ⟨b,0,none⟩) 1 1] (X++C) (· =.tuple #[ε ((sz K.n θ (λg=>g=S r):Nat):Int),ε 0]):=by
 refine aJ λg=>Pd (ae.eq (xB (X:=X) h hm hr) (ah.cM (Br.F ?_)));intro b4 _;refine St.one (c':=#[ε 0]) (by exact .head _) rfl zI rfl ?_;refine ae.fn (C:=[(b4,Obj.cells #[ε 0] 3 zZ)]++(X++C)) .here (ES (P:=λV G=>∃x:Int,G=[(b4,.cells #[ε x] 3 zZ)]/\(V.length<4611686018427387904->x=V.length)) h (OJ b4) hr ⟨0,rfl,λ_=>rfl⟩ hm) ?_;rintro v H ⟨rfl,V,G,rfl,⟨x,rfl,hx⟩,fQ,hsh,hrV,hrc⟩;refine Ld.q ?_;refine br.mk .tail ?_;have hc:=VZ h.ok.wf h.ok.lv h.od h.ok.mid.int (R:=λq=>q=r) (λq hq=>by rw[hq];exact hr) hsh (λq hq=>by rw[hq];exact hrV) hrc fQ;have Ξ:V.length<=1048576:=by
  have:∀u∈V,u∈List.range 1048576:=λu hu=>by
   obtain⟨d,hd,_⟩:=hsh u hu;exact xaN.2 (h.bQ (.inr ⟨d,hd⟩))
  have:=cz fQ this;rwa [xaF]at this
 rw[hx zO,<-KY hc];have e:Fs S (λq=>q=r)=λg=>g=S r:=funext λg=>propext ⟨λ⟨q,hq,e⟩=>by rw[e,hq],λe=>⟨r,rfl,e⟩⟩;rw[e];rfl
end
end
section
open ax
section
variable {C:Hp}
def Tl(p:Bool)(v:zV):Prop:=∃(n:Nat) (b:Bool),n<18446744073709551616/\v=.agg [χ n,.bool b].toArray/\(b||decide (n≠0))=p
def qG(n:Nat)(b:Bool):∀u∈[χ n,Value.bool b],u.oneCell'=true:=λu hu=>by
 rcases xak.1 hu with rfl|hu
 ·rfl
 rw[xaE.1 hu];rfl
def Tl.no:Tl false (.agg #[χ 0,.bool false]):=⟨0,false,by decide,rfl,rfl⟩
def Tl.yes:Tl true (.agg #[χ 1,.bool false]):=⟨1,false,by decide,rfl,rfl⟩
def y5{p:Bool}{v:zV}(h:Tl p v):Rd zQ 198 #[v,χ 0] C (· =.bool p):=by
 obtain⟨n,b,hn,rfl,hp⟩:=h;refine aJ λg=>Je λb1 _=>?_;refine Ld.f (v:=.bool b) (dh.or (a:=b) (decide (n≠0)) (λ_=>?_) rfl λ_=>?_)
 ·exact Ld.f (v:=χ n) (ah.nV (b:=0) ⟨rfl,by rw[xb1.2 (show 0<n↔n≠0 by omega)]⟩)
 rw[hp];exact br.mk .tail rfl
theorem Dh{p q:Bool}{v w:zV}(h:Tl p v)(h':Tl q w):Rd zQ 258 #[v,w] C (Tl (p||q)):=by
 obtain⟨n,b,hn,rfl,hp⟩:=h;obtain⟨m,d,hm,rfl,hq⟩:=h';refine aJ λg=>Is λb1 _ b3 _ b5 _=>?_;refine Ld.f (v:=χ n) (Ld.f (v:=χ m) (ah.afn (Ld.f (v:=.bool b) (dh.or (a:=b) d (λ_=>?_) rfl λ_=>?_))))
 ·exact Ld.f (v:=.bool d) (⟨rfl,rfl⟩)
 refine dh.or (a:=b||d) (decide ((n+m)%18446744073709551616<n)) (λ_=>?_) rfl λ_=>?_
 ·refine Ld.f (v:=χ n) (ah.eA ⟨rfl,rfl⟩)
 refine Build.mk (cs:=[χ ((n+m)%18446744073709551616),.bool (b||d||decide ((n+m)%18446744073709551616<n))]) zK ?_;refine St.p (r:=[χ ((n+m)%18446744073709551616),.bool (b||d||decide ((n+m)%18446744073709551616<n))]) (qG _ _) ?_;refine aB.q ?_;refine br.mk (.skip (.skip .tail)) ⟨_,_,xbJ _ zD,rfl,?_⟩;rw[<-hp,<-hq];cases b<;>cases d<;>simp only[Bool.true_or,xdT,xdD];rw[<-xa6,<-xa6];exact xb1.2 zO
theorem M5{p:Bool}{v:zV}(h:Tl p v)(k:Nat):Rd zQ 256 #[v,ε (k:Int)] C (Tl p):=by
 obtain⟨n,b,hn,rfl,hp⟩:=h;refine aJ λg=>Iu λb1 _ b3 _=>?_;refine ah.fc (b:=0) (dh.or (a:=decide (k=0)) (decide (n=0)) (λ_=>?_) rfl λ_=>?_)
 ·exact Ld.f (v:=χ n) (ah.fc (b:=0) ⟨rfl,rfl⟩)
 refine Br.mk (λhb=>?_) (λhb=>?_)
 ·refine aB.whole (r:=[χ n,.bool b]) (T:=261) (fz:=(0,0)) (by exact .tail _ (.head _)) rfl ?_;refine St.p (r:=[χ n,.bool b]) (qG _ _) ?_;refine aB.q ?_;exact br.mk (.skip .tail) ⟨n,b,hn,rfl,hp⟩
 rw[<-xa6]at hb;have hb:=xdj hb;refine Ld.f (v:=χ n) (ah.oc λJ VN=>?_);have fin:∀x:Bool,(x||decide ((n<<<k)%18446744073709551616≠0))=true->J [] ((b3,.cells [χ ((n<<<k)%18446744073709551616),.bool x].toArray 261 zZ)::(b1,.cells (Value.cells (.agg [χ n,.bool b].toArray)) 261 zZ)::C):=λx hx=>VN _ λ_=>by
  refine aB.q ?_;refine br.mk (.skip .tail) ⟨_,x,xbJ _ zD,rfl,?_⟩;rw[hx,<-hp];have:decide (n≠0)=true:=xam zO;rw[this,xdT]
 refine DR.of (.refl _) (ah.fc (b:=0) (Br.mk (λhz=>?_) (λhz=>?_)))
 ·refine Build.mk (cs:=[χ ((n<<<k)%18446744073709551616),.bool true]) zK λF=>?_;exact St.p (r:=[χ ((n<<<k)%18446744073709551616),.bool true]) (qG _ _) (JE.mk (fin true rfl))
 refine ah.iW (xbJ _ zD) (Ld.f (v:=χ n) (ah.Cu (aG.mk (Build.mk (cs:=[χ ((n<<<k)%18446744073709551616),.bool (decide (((n<<<k)%18446744073709551616)>>>k≠n))]) zK λF=>?_))));refine St.p (r:=[χ ((n<<<k)%18446744073709551616),.bool (decide (((n<<<k)%18446744073709551616)>>>k≠n))]) (qG _ _) (JE.mk (fin _ ?_));rw[xam (p:=(n<<<k)%18446744073709551616≠0) (xdj hz),xdT]
end
section
variable {kp d nm n f F V:Nat} {kP:zV} {K:Kd} {S:Nat->ax.Fn} {θ ai tr:zL} {C Z:Hp}
abbrev FE(n f nm:Nat)(kP:zV)(F V:Nat):Array zV:=#[ε (n:Int),δ f,.map (some nm),kP,χ F,χ V]
def KS{v b:Nat}(hl:kP.oneCell'=true)(hv:v<64)(hb:b<=1)(hF:F<18446744073709551616)(hV:V<18446744073709551616):
  Fc zQ 199 #[γ d,ε (v:Int),χ b] ((d,.cells (FE n f nm kP F V) 266 zZ)::C) (λw H=>w=.tuple #[]/\∃F' V',H=(d,.cells (FE n f nm kP F' V') 266 zZ)::C/\F'<18446744073709551616/\V'<18446744073709551616/\
   (∀j,F'.testBit j=(F.testBit j||decide (j=v)))/\∀j,V'.testBit j=if j=v then decide (b=1)else V.testBit j):=by
 have e1:(1<<<v)%18446744073709551616=2^v:=by
  rw[xcp,xdn];exact xbl (xaP (xby zD hv) zD)
 have h2:2^v<18446744073709551616:=xaP (xby zD hv) zD;have eb:(b<<<v)%18446744073709551616=b*2^v:=by
  rw[xcp];refine xbl (xaC (xaY _ hb) zO)
 have uj:b*2^v<18446744073709551616:=xaC (xaY _ hb) zO;have hVa:nE V (2^v)<18446744073709551616:=xaC (nD _ _) hV;refine aJ λg=>Jd (DR.of (.refl _) (Ld.n (v:=χ F) ?_));apply ah.oc (a:=1);rw[e1];refine ah.Lt (by simpa[bI]using hF) (by simpa[bI]using h2) (.γ (.mk ?_));intro G;apply St.one (c':=FE n f nm kP (F|||2^v) V) (.head _) rfl zI rfl;refine DR.of (.refl _) (Ld.n (v:=χ V) (ah.oc (a:=1) ?_));rw[e1];refine ah.E4 (by simpa[bI]using hV) (by simpa[bI]using h2) (ah.oc ?_);rw[eb];refine ah.Lt (by simpa[bI]using hVa) (by simpa[bI]using uj) (.γ (.mk ?_));intro G;apply St.one (c':=FE n f nm kP (F|||2^v) (nE V (2^v)|||b*2^v)) (.head _) rfl zI rfl;refine aQ.mk (.refl _) ⟨rfl,_,_,rfl,xbM (n:=64) hF h2,xbM (n:=64) hVa uj,λj=>?_,λj=>?_⟩
 ·rw[xb7,xb4];congr 1;exact xb1.2 eq_comm
 rw[xb7,dK,xb4];have:b=0\/b=1:=by omega
 by_cases e:j=v
 ·rw[xae e,e,xam rfl];rcases this with rfl|rfl
  ·simp
  simp[xb4]
 rw[xac e,xan (xa9 e)];rcases this with rfl|rfl
 ·simp
 rw[xdn,xb4,xan (xa9 e)];simp
structure Fal(n:Nat)(ns:zL):Prop where
 len:ns.length=n+1
 le:∀a,a<=n->ns.getD a 0<=n+1
 step:∀a,a<n->ns.getD (a+1) 0<=ns.getD a 0
def Fal.mono{ns:zL}(h:Fal n ns){a:Nat}:∀k,a+k<=n->ns.getD (a+k) 0<=ns.getD a 0
 |0,_=>xai _
 |k+1,hk=>xbT (h.step (a+k) zO) (Fal.mono h k zO)
def Q5{ls:zL}(hd:(d,Obj.cells (FE n f nm kP F V) 266 zZ)∈Z)(hL:di .i64 Z kP (iw ls))(Ξ:ls.length=n)(hn:n<=64)(η:∀l∈ls,l<n)(hF:F<18446744073709551616):
  Fc zQ 253 #[γ d] Z (λv H=>∃b ns,Fal n ns/\v=.slice (some ⟨b,0,none⟩) (n+1) (n+1)/\H=(b,.cells (az .i64 (iw ns)) 3 zZ)::Z):=by
 refine aJ λg=>Ix (Ld.v hd ?_);refine ah.inc (cJ.ints zO zO λb=>?_);apply Ld.v (.tail _ hd);apply hL.bL;rw[av,Ξ];have z0:List.replicate (n+1) (0:Int)=iw (List.replicate (n+1) 0):=by simp[iw]
 rw[z0];refine⟨λvs H=>∃(j:Nat) (ns:zL),vs=[ε (j:Int)]/\j<=n/\H=(b,.cells (az .i64 (iw ns)) 3 zZ)::Z/\ns.length=n+1/\∀a,ns.getD a 0<=1,λvs _=>n-bH vs 0,JE.mk ⟨0,_,rfl,by omega,rfl,by simp,λa=>?_⟩,?_⟩
 ·by_cases ha:a<n+1
  ·simp[List.getD,ha]
  simp[List.getD,ha]
 rintro w H ⟨j,ns,⟨⟩,hj,rfl,Og,h1⟩ gs;refine ah.eA (Br.dec (λiL=>?_) (λhge=>?_))
 ·intro J hJ;have back:∀ns':zL,ns'.length=n+1->(∀a,ns'.getD a 0<=1)->J [] ((b,.cells (az .i64 (iw ns')) 3 zZ)::Z):=λns' hl' qs=>hJ _ λ_=>by
   exact ah.inc (aD.mk ⟨j+1,ns',rfl,by omega,rfl,hl',qs⟩ (by simp only[bH];omega))
  have hlj:j<ls.length:=by omega
  apply hL.ld (dk (xab hlj)) (λ_ h=>.tail _ h);apply Ld.v (.tail _ hd);refine ah.iW (by simpa[bI]using hF) (ah.jU (by simp[bI];exact xaC (xbm _ _) hF) zD (ah.fc (b:=0) (Br.mk (λ_=>?_) (λ_=>JE.mk (back ns Og h1)))));have hlv:=η ls[j] (xaK hlj);apply ay.nat zO;refine St.ints (.head _) (by rw[av];omega) ?_;rw[show((1:Int))=((1:Nat):Int)from rfl,fA];refine JE.mk (back _ (by simpa using Og) λa=>?_);rw[List.getD,xbp];split
  ·split
   ·exact xai _
   exact xaL _
  exact h1 a
 apply Ld.v (.tail _ hd);apply ah.mc (c:=(n:Int) -1) rfl zO;refine⟨λvs H=>∃(j:Nat) (ns:zL),vs=[ε ((j:Int) -1)]/\j<=n/\H=(b,.cells (az .i64 (iw ns)) 3 zZ)::Z/\ns.length=n+1/\(∀a,a<j->ns.getD a 0<=1)/\(∀a,j<=a->a<=n->ns.getD a 0<=n+1-a)/\∀a,j<=a->a<n->ns.getD (a+1) 0<=ns.getD a 0,
  λvs _=>match vs with| [.int _ q]=>(q+1).toNat|_=>0,JE.mk ⟨n,ns,rfl,xai _,rfl,Og,λa _=>h1 a,λa h h'=>xbT (h1 a) zO,λa h h'=>by omega⟩,?_⟩
 rintro w H ⟨j,ns,⟨⟩,hj,rfl,Og,g1,g2,g3⟩ gs;refine ah.geq (Br.dec (λhge=>?_) (λiL=>?_))
 ·obtain⟨i,rfl⟩:∃i,j=i+1:=⟨j-1,by omega⟩;have ei:(((i+1:Nat):Int) -1)=(i:Int):=by omega
  rw[ei];apply DR.of (.refl _);have hB:di .i64 ((b,Obj.cells (az .i64 (iw ns)) 3 zZ)::Z) (.slice (some ⟨b,0,none⟩) (iw ns).length (n+1)) (iw ns):=di.block (.head _) (by rw[av];omega);rw[av,Og]at hB;have a1:=g1 i zO;have a2:=g2 (i+1) zO zO;refine hB.ld (bM zO) (λ_ h=>h) (ah.inc (hB.ld (bM zO) (λ_ h=>h) (ah.fT (ay.nat zO ?_))));intro G;refine St.ints (.head _) (by rw[av];omega) ?_;rw[fA];apply ah.mc (c:=(i:Int) -1) rfl zO;have get:∀a,(ns.set i (ns.getD i 0+ns.getD (i+1) 0)).getD a 0=if a=i then ns.getD i 0+ns.getD (i+1) 0 else ns.getD a 0:=λa=>by
   rw[List.getD,xbp];by_cases e:i=a
   ·rw[xae e,xae zO,xae e.symm];rfl
   rw[xac e,xac (xa9 e)];rfl
  refine aD.mk ⟨i,_,rfl,by omega,rfl,by simpa using Og,λa ha=>?_,λa ha hn'=>?_,λa ha hn'=>?_⟩ ?_
  ·rw[get,xac zO];exact g1 a zO
  ·rw[get];split
   ·subst a;omega
   exact g2 a zO hn'
  ·rw[get,get];rw[xac (show a+1≠i by omega)];split
   ·subst a;omega
   exact g3 a zO hn'
  show((i:Int) -1+1).toNat<((i:Int)+1).toNat;omega
 obtain rfl:j=0:=by omega
 exact aQ.mk (.refl _) ⟨b,ns,⟨Og,λa ha=>xbT (g2 a (xaL _) ha) zO,λa ha=>g3 a (xaL _) ha⟩,rfl,rfl⟩
end
section
variable {d0 b1 b8 l5 xH uU FA bf kb nm n f F V CW:Nat} {kP:zV} {K:Kd} {S:Nat->ax.Fn} {ai ls ns:zL} {CV:Array MapEntry} {m:List (Nat×Nd)} {Z:Hp}
def ag(n F V x:Nat):Prop:=∀j,j<n->F.testBit j=true->x.testBit j=V.testBit j
noncomputable def qT(n F V:Nat)(g:ax.Fn):Bool:= @decide (∃x,ag n F V x/\g x=true) (Classical.propDecidable _)
def qU{g:ax.Fn}:qT n F V g=true↔∃x,ag n F V x/\g x=true:= @decide_eq_true_iff _ (Classical.propDecidable _)
def Wx:qT n F V (λ_=>false)=false:=by
 cases h:qT n F V (λ_=>false)with
 |false=>rfl
 |true=>obtain⟨x,_,e⟩:=qU.1 h;cases e
def Z6:qT n F V (λ_=>true)=true:=qU.2 ⟨V,λ_ _ _=>rfl,rfl⟩
def Aw(h:Ok K S (lv ai)){r:Nat}{d:Nd}(hN:K.N r=some d)(x:Nat)(b:Bool):S d.lo (an.aC x d.v b)=S d.lo x/\S d.hi (an.aC x d.v b)=S d.hi x:=by
 have e (c:Bool):=(gy h.wf h.lv h.mid.int (r:=r) (.inr ⟨d,hN⟩) (h.mid.var hN) (by rw[au hN];exact xai _) c);have e1:=e false;have e2:=e true;rw[(k8 hN).1]at e1;rw[(k8 hN).2]at e2;constructor
 ·rw[e1.1,e1.1,ax.pB]
 rw[e2.1,e2.1,ax.pB]
def Wy(h:Ok K S (lv ai)){r:Nat}{d:Nd}(hN:K.N r=some d):
  qT K.n F V (S r)=((!F.testBit d.v|| !V.testBit d.v) &&qT K.n F V (S d.lo)||(!F.testBit d.v||V.testBit d.v) &&qT K.n F V (S d.hi)):=by
 have nd:=h.mid.int.node hN;have put:∀(x:Nat) (b:Bool),ag K.n F V x->(F.testBit d.v=true->V.testBit d.v=b)->ag K.n F V (an.aC x d.v b):=λx b hx hb j hj hF=>by
  rw[an.ak];split
  ·subst j;exact(hb hF).symm
  exact hx j hj hF
 have hv:=h.mid.var hN;rw[xbH,xbu,xaJ,xaJ,qU,qU,qU];constructor
 ·rintro⟨x,hx,hS⟩;have q:=nd x;have hxv:=hx d.v hv;cases hb:x.testBit d.v with
  |true=>
   rw[hb,xae rfl]at q;refine .inr ⟨?_,x,hx,by rw[<-q];exact hS⟩;cases hF:F.testBit d.v
   ·rfl
   rw[<-hxv hF,hb];rfl
  |false=>
   rw[hb,xac zD]at q;refine .inl ⟨?_,x,hx,by rw[<-q];exact hS⟩;cases hF:F.testBit d.v
   ·rfl
   rw[<-hxv hF,hb];rfl
 rintro(⟨hc,x,hx,hS⟩|⟨hc,x,hx,hS⟩)
 ·refine⟨an.aC x d.v false,put x false hx λhF=>?_,?_⟩
  ·rw[hF]at hc;simpa using hc
  rw[nd,an.ak,xae rfl,xac zD,(Aw h hN x false).1];exact hS
 refine⟨an.aC x d.v true,put x true hx λhF=>?_,?_⟩
 ·rw[hF]at hc;simpa using hc
 rw[nd,an.ak,xae rfl,xae rfl,(Aw h hN x true).2];exact hS
abbrev O5(es:Array MapEntry)(ck:Nat)(m:List (Nat×Nd)):Prop:=aI kr (λv (d:Nd)=>v=.agg (bB d).toArray) es ck m
structure Yr(K:Kd)(S:Nat->ax.Fn)(ai ls:zL)(m:List (Nat×Nd))(n f F V d0 b1 nm:Nat)(kP:zV)(CV:Array MapEntry)(CW:Nat)(Z:Hp):Prop where
 ok:Ok K S (lv ai)
 mq:K.n<=64
 hn:n=K.n
 d:(d0,Obj.cells (FE n f nm kP F V) 266 zZ)∈Z
 hnm:(nm,Obj.map CV CW)∈Z
 dO:O5 CV CW m
 cov:∀u e,Rc K.N (λq=>q=f) u->K.N u=some e->aN m u=some e
 L:di .i64 Z kP (iw ls)
 get:∀v,v<n->ls[v]? =some (lv ai v)
 F64:F<18446744073709551616
 V64:V<18446744073709551616
structure TcH(n d0 b1 b8 l5 xH uU FA bf kb:Nat)(ns:zL)(Z:Hp):Prop where
 h1:(b1,Obj.cells #[γ d0] 258 zZ)∈Z
 h8:(b8,Obj.cells #[.slice (some ⟨bf,0,none⟩) (n+1) (n+1)] 43 zZ)∈Z
 hf:(bf,Obj.cells (az .i64 (iw ns)) 3 zZ)∈Z
 VN:(l5,Obj.cells #[.map (some kb)] 319 zZ)∈Z
 h20:(xH,Obj.cells #[.func (.func 254) #[] #[γ b1]] 182 zZ)∈Z
 h23:(uU,Obj.cells #[.func (.func 257) #[] #[γ l5,γ b1,γ FA]] 320 zZ)∈Z
 h25:(FA,Obj.cells #[.func (.func 255) #[] #[γ uU,γ b8,γ xH]] 322 zZ)∈Z
 fal:Fal n ns
def MX(h:Yr K S ai ls m n f F V d0 b1 nm kP CV CW Z)(h1:(b1,Obj.cells #[γ d0] 258 zZ)∈Z){r:Nat}(hr:live K.N r)(hR:Rc K.N (λq=>q=f) r):
  Rd zQ 254 #[δ r,γ b1] Z (· =ε ((ι K.n (lv ai) K.N r:Nat):Int)):=by
 refine aJ λg=>Iw (ah.By (b:=1) (Br.dec (λh2=>?_) (λh2=>?_)))
 ·apply Ld.mk h1 rfl;apply Ld.v (v:=ε (n:Int)) h.d;apply br.mk (.refl _);have h0:K.N r=none:=by
   cases hN:K.N r with
   |none=>rfl
   |some d=>have:=h.ok.mid.two hN;omega
  rw[aV h0,h.hn]
 obtain⟨d,hN⟩:∃d,K.N r=some d:=by
  rcases hr with hr|hr
  ·omega
  exact hr
 have kQ:=h.ok.mid.var hN;apply Ld.mk h1 rfl;apply Ld.v h.d;apply Ld.mk h1 rfl;apply Ld.v h.d;refine h.dO.hit (k:=r) dc (b:=nm) h.hnm (h.cov r d hR hN) λv e=>?_;subst e;apply CY.mk (ο:=0) (cs:=(bB d).toArray) (v:=ε (d.v:Int)) rfl;refine h.L.ld (dk (h.get d.v (by rw[h.hn];exact kQ))) (λ_ h=>h) ?_;apply br.mk (.refl _);rw[au hN]
structure KnT(q:Nat->Bool)(es:Array MapEntry)(ck:Nat)(mm:List (Nat×Bool)):Prop where
 dO:aI kr (λv (x:Bool)=>Tl x v) es ck mm
 val:∀r x,aN mm r=some x->x=q r
 low:∀r,r<2->aN mm r≠none
abbrev YB(q:Nat->Bool)(kb:Nat)(Z:Hp)(r:Nat):zV->Hp->Prop:=λv H=>Tl (q r) v/\∃τ bF WT,H=(kb,.map τ bF)::Z/\KnT q τ bF WT
def pz{p:Bool}{v:zV}(h:Tl p v):∃r:List zV,v=.agg r.toArray/\r.length=2/\∀u∈r,u.oneCell'=true:=by obtain⟨n,b,_,rfl,_⟩:=h;exact⟨_,rfl,rfl,qG _ _⟩
def sQ(h:Yr K S ai ls m n f F V d0 b1 nm kP CV CW Z)(t:TcH n d0 b1 b8 l5 xH uU FA bf kb ns Z){q:Nat->Bool}{r l:Nat}(hr:live K.N r)(hR:Rc K.N (λq=>q=f) r)(hl:l<=ι K.n (lv ai) K.N r){es:Array MapEntry}{ck:Nat}
 (hc:Fc zQ 257 #[δ r,γ l5,γ b1,γ FA] ((kb,.map es ck)::Z) (YB q kb Z r)):
  Fc zQ 255 #[δ r,ε (l:Int),γ uU,γ b8,γ xH] ((kb,.map es ck)::Z) (YB q kb Z r):=by have hdl:=h.ok.wf.iN h.ok.lv r;have yI:=t.fal.len;have hB:di .i64 Z (.slice (some ⟨bf,0,none⟩) (iw ns).length (n+1)) (iw ns):=di.block t.hf (by rw[av];omega);rw[av,yI]at hB;have hn':=h.hn;have adS:=t.fal.mono (a:=l) (ι K.n (lv ai) K.N r-l) zO;rw[show l+(ι K.n (lv ai) K.N r-l)=ι K.n (lv ai) K.N r by omega]at adS;have hle:=t.fal.le l zO;have tt:=h.mq;refine aJ λg=>Iv λc1 _=>?_;refine DR.of (R:=Z) (.skip .tail) (Ld.mk t.h23 rfl ?_);apply Ld.mk t.h8 rfl;refine hB.ld (bM zO) (λ_ h=>h) (Ld.mk t.h8 rfl ?_);apply Ld.mk t.h20 rfl;intro G;refine aM.of rfl zK (ae.fq (args:=#[δ r,γ l5,γ b1,γ FA]) hc ?_);rintro v1 H ⟨hv1,kR,j7,mm1,rfl,uO⟩;refine⟨.skip .tail,Z,.skip .tail,.refl _,?_⟩;intro G;refine aM.of rfl zK (ae.eq (args:=#[δ r,γ b1]) (MX (Z:=Z) h t.h1 hr hR) (⟨.skip .tail,Z,.skip .tail,.refl _,?_⟩));refine hB.ld (bM zO) (λ_ h=>h) (ah.cj λG=>(ae.rq (M5 (C:=Z) hv1 _) ?_));intro v2 hv2;intro G;have ahh:=hv2;obtain⟨rr,rfl,ym,QU⟩:=pz hv2;refine St.p (r:=rr) QU ?_ (hr:=ym);refine aB.q ?_ (hr:=ym);exact aQ.mk .tail ⟨ahh,kR,j7,mm1,rfl,uO⟩
end
section
variable {d0 b1 b8 l5 xH uU FA bf kb nm n f F V CW:Nat} {kP:zV} {K:Kd} {S:Nat->ax.Fn} {ai ls ns:zL} {CV:Array MapEntry} {m:List (Nat×Nd)} {Z:Hp}
def wc(a k:Nat):decide ((a>>>k)%2=0)= !a.testBit k:=by rw[<-BX];have:=Nat.mod_two_eq_zero_or_one (a>>>k);rcases this with e|e<;>rw[e]<;>rfl
def MY(h:Yr K S ai ls m n f F V d0 b1 nm kP CV CW Z)(t:TcH n d0 b1 b8 l5 xH uU FA bf kb ns Z):
  ∀(k r:Nat) (es:Array MapEntry) (ck:Nat) (mm:List (Nat×Bool)),K.n-ι K.n (lv ai) K.N r<=k->live K.N r->Rc K.N (λq=>q=f) r->KnT (λr=>qT K.n F V (S r)) es ck mm->
  Fc zQ 257 #[δ r,γ l5,γ b1,γ FA] ((kb,.map es ck)::Z) (YB (λr=>qT K.n F V (S r)) kb Z r):=by
 have hit:∀{r:Nat} {es:Array MapEntry} {ck:Nat} {mm:List (Nat×Bool)} {x:Bool},KnT (λr=>qT K.n F V (S r)) es ck mm->aN mm r=some x->
   Fc zQ 257 #[δ r,γ l5,γ b1,γ FA] ((kb,.map es ck)::Z) (YB (λr=>qT K.n F V (S r)) kb Z r):=by
  intro r es ck mm x hm hv;refine aJ λg=>xS λc1 _=>?_;apply Ld.mk (v:=.map (some kb)) (.tail _ (.tail _ t.VN)) rfl;refine hm.dO.hit (k:=r) dc (b:=kb) (by exact .tail _ (.head _)) hv λv' e=>?_;have ex:=hm.val r x hv;have e':=e;obtain⟨rr,rfl,ym,QU⟩:=pz e;refine Ext.two λc7 _=>(St.p (r:=rr) QU ?_ (hr:=ym));refine Br.yes (aB.q ?_ (hr:=ym));refine St.p (r:=rr) QU ?_ (hr:=ym);refine aB.q ?_ (hr:=ym);exact aQ.mk (.skip .tail) ⟨by show Tl (qT K.n F V (S r)) _;rw[show qT K.n F V (S r)=x from ex.symm];exact e',es,ck,mm,rfl,hm⟩
 intro k;induction k with
 |zero=>
  intro r es ck mm hk hr hR hm;have q7:r<2:=by
   cases hN:K.N r with
   |some d=>
    rw[au hN]at hk;have:=h.ok.lv.lt _ (h.ok.mid.var hN);omega
   |none=>
    rcases hr with hr|⟨d,e⟩
    ·exact hr
    rw[hN]at e;cases e
  cases hv:aN mm r with
  |none=>exact absurd hv (hm.low r q7)
  |some v=>exact hit hm hv
 |succ k ih=>
  intro r es ck mm hk hr hR hm;cases hv:aN mm r with
  |some v=>exact hit hm hv
  |none=>
  have q7:¬r<2:=λh2=>hm.low r h2 hv;obtain⟨d,hN⟩:∃d,K.N r=some d:=by
   rcases hr with hr|hr
   ·omega
   exact hr
  have hlo:=h.ok.wf.lo hN;have hhi:=h.ok.wf.hi hN;rw[au hN]at hk;have kQ:=h.ok.mid.var hN;have hvl:=h.ok.lv.lt _ kQ;have tt:=h.mq;have XT:=h.F64;have XM:=h.V64;have qn:=Wy (F:=F) (V:=V) h.ok hN;refine aJ λg=>xS λc1 _=>?_;apply Ld.mk (v:=.map (some kb)) (.tail _ (.tail _ t.VN)) rfl;apply hm.dO.bR (k:=r) dc (b:=kb) (by exact .tail _ (.head _)) hv;refine Ext.two λc7 _=>(St.p (r:=[χ 0,.bool false]) (qG _ _) (Br.no ?_));have up:∀{x y z:Nat×Obj} {l:List (Nat×Obj)},l=Z->∀{w},w∈Z->w∈x::y::z::l:=λe w hw=>by subst e;exact .tail _ (.tail _ (.tail _ hw))
  apply Ld.mk (v:=γ d0) (.tail _ (.tail _ (.tail _ t.h1))) rfl;apply Ld.v (v:=.map (some nm)) (.tail _ (.tail _ (.tail _ h.d)));refine h.dO.hit (k:=r) dc (b:=nm) (.tail _ (.tail _ (.tail _ h.hnm))) (h.cov r d hR hN) λv e=>?_;subst e;intro c18 _;apply St.p (fN d);apply Ld.mk (v:=γ d0) (.tail _ (.tail _ (.tail _ (.tail _ t.h1)))) rfl;apply Ld.v (v:=kP) (.tail _ (.tail _ (.tail _ (.tail _ h.d))));refine Ld.f (v:=ε (d.v:Int)) (h.L.ld (dk (h.get d.v (by rw[h.hn];exact kQ))) (λ_ h=>.tail _ (.tail _ (.tail _ (.tail _ h)))) ?_);refine ah.inc λc30 _=>?_;intro J32 QN;have last:∀(p:Bool) (t30:List zV) (τ:Array MapEntry) (bF:Nat) (WT:List (Nat×Bool)),Tl p (.agg t30.toArray)->t30.length=2->(∀u∈t30,u.oneCell'=true)->KnT (λr=>qT K.n F V (S r)) τ bF WT->p=((!F.testBit d.v|| !V.testBit d.v) &&qT K.n F V (S d.lo))->
    J32 [] ((c30,.cells t30.toArray 261 zZ)::(c18,.cells (bB d).toArray 144 zZ)::(c7,.cells [χ 0,.bool false].toArray 261 zZ)::(c1,.cells #[χ 0,.bool false] 261 zZ)::(kb,.map τ bF)::Z):=by
   intro p t30 τ bF WT hp ym QU Ω ep;refine QN _ λ_=>?_;intro J35 h35;have fin:∀(p:Bool) (t30:List zV) (τ:Array MapEntry) (bF:Nat) (WT:List (Nat×Bool)),Tl p (.agg t30.toArray)->t30.length=2->(∀u∈t30,u.oneCell'=true)->KnT (λr=>qT K.n F V (S r)) τ bF WT->p=qT K.n F V (S r)->
     J35 [] ((c30,.cells t30.toArray 261 zZ)::(c18,.cells (bB d).toArray 144 zZ)::(c7,.cells [χ 0,.bool false].toArray 261 zZ)::(c1,.cells #[χ 0,.bool false] 261 zZ)::(kb,.map τ bF)::Z):=by
    intro p t30 τ bF WT hp ym QU Ω ep;refine h35 _ λ_=>?_;apply Ld.mk (v:=.map (some kb)) (.tail _ (.tail _ (.tail _ (.tail _ (.tail _ t.VN))))) rfl;refine aB.q ?_ (hr:=ym);refine Ω.dO.bt (k:=r) (b:=kb) (x:=p) dc gZ hp λpT rF he=>⟨_,.tail (.tail (.tail (.tail (.head _)))),?_⟩;refine aB.q ?_ (hr:=ym);refine St.p (r:=t30) QU ?_ (hr:=ym);refine aB.q ?_ (hr:=ym);refine aQ.mk (.skip (.skip (.skip .tail))) ⟨by show Tl (qT K.n F V (S r)) _;rw[<-ep];exact hp,pT,rF,_,rfl,he,λr' x' oC=>?_,λr' hr'=>?_⟩
    ·rw[bP]at oC;split at oC
     ·rename_i e;subst e;cases oC;exact ep
     exact Ω.val r' x' oC
    rw[bP];split
    ·simp
    exact Ω.low r' hr'
   apply Ld.mk (v:=γ d0) (.tail _ (.tail _ (.tail _ (.tail _ (.tail _ t.h1))))) rfl;apply Ld.v (v:=χ F) (.tail _ (.tail _ (.tail _ (.tail _ (.tail _ h.d)))));refine Ld.f (v:=ε (d.v:Int)) (ah.iW (by simpa[bI]using XT) (ah.jU (by simp[bI];exact xaC (xbm _ _) XT) zD (ah.fc (b:=0) ?_)));rw[xbX,wc];refine dh.or (a:= !F.testBit d.v) (V.testBit d.v) (λ_=>?_) rfl λ_=>?_
   ·apply Ld.mk (v:=γ d0) (.tail _ (.tail _ (.tail _ (.tail _ (.tail _ t.h1))))) rfl;apply Ld.v (v:=χ V) (.tail _ (.tail _ (.tail _ (.tail _ (.tail _ h.d)))));refine Ld.f (v:=ε (d.v:Int)) (ah.iW (by simpa[bI]using XM) (ah.jU (by simp[bI];exact xaC (xbm _ _) XM) zD (ah.fc (b:=1) ?_)));rw[xbX,BX];exact⟨rfl,rfl⟩
   refine Br.mk (λhb=>?_) (λhb=>?_)
   ·refine DR.of (R:=(c30,.cells t30.toArray 261 zZ)::(c18,.cells (bB d).toArray 144 zZ)::Z) (.cons (.cons (.skip (.skip .tail)))) (aB.q ?_ (hr:=ym));apply Ld.mk (v:=.func (.func 255) #[] #[γ uU,γ b8,γ xH]) (.tail _ (.tail _ t.h25)) rfl;refine Ld.f (v:=δ d.hi) λG=>?_;refine aM.of rfl zK (ae.fq (args:=#[δ d.hi,ε ((lv ai d.v+1:Nat):Int),γ uU,γ b8,γ xH]) (sQ (Z:=Z) h t hhi.1 (.hi hR hN) zO (ih d.hi τ bF WT zO hhi.1 (.hi hR hN) Ω)) ?_);rintro v2 H ⟨hv2,ic,iO,mm2,rfl,mC⟩;refine⟨.cons (.cons (.skip (.skip .tail))),?_⟩;intro G;apply ae.rq (Dh (C:=Z) hp hv2);intro v3 hv3;intro G;have aaA:=hv3;obtain⟨rr,rfl,h3l,h3o⟩:=pz hv3;refine St.p (r:=rr) h3o ?_ (hr:=h3l) (hs:=by simpa using ym);refine JE.mk (fin _ rr ic iO mm2 aaA h3l h3o mC ?_);rw[ep,qn,hb,xcr]
   refine JE.mk (fin p t30 τ bF WT hp ym QU Ω ?_);rw[ep,qn,hb,xel,xdB]
  apply Ld.mk (v:=γ d0) (.tail _ (.tail _ (.tail _ (.tail _ (.tail _ t.h1))))) rfl;apply Ld.v (v:=χ F) (.tail _ (.tail _ (.tail _ (.tail _ (.tail _ h.d)))));refine Ld.f (v:=ε (d.v:Int)) (ah.iW (by simpa[bI]using XT) (ah.jU (by simp[bI];exact xaC (xbm _ _) XT) zD (ah.fc (b:=0) ?_)));rw[xbX,wc];refine dh.or (a:= !F.testBit d.v) (!V.testBit d.v) (λ_=>?_) rfl λ_=>?_
  ·apply Ld.mk (v:=γ d0) (.tail _ (.tail _ (.tail _ (.tail _ (.tail _ t.h1))))) rfl;apply Ld.v (v:=χ V) (.tail _ (.tail _ (.tail _ (.tail _ (.tail _ h.d)))));refine Ld.f (v:=ε (d.v:Int)) (ah.iW (by simpa[bI]using XM) (ah.jU (by simp[bI];exact xaC (xbm _ _) XM) zD (ah.fc (b:=0) ?_)));rw[xbX,wc];exact⟨rfl,rfl⟩
  refine Br.mk (λhb=>?_) (λhb=>?_)
  ·refine DR.of (R:=(c30,.cells [χ 0,.bool false].toArray 261 zZ)::(c18,.cells (bB d).toArray 144 zZ)::Z) (.cons (.cons (.skip (.skip .tail)))) (aB.q ?_);apply Ld.mk (v:=.func (.func 255) #[] #[γ uU,γ b8,γ xH]) (.tail _ (.tail _ t.h25)) rfl;refine Ld.f (v:=δ d.lo) λG=>?_;refine aM.of rfl zK (ae.fq (args:=#[δ d.lo,ε ((lv ai d.v+1:Nat):Int),γ uU,γ b8,γ xH]) (sQ (Z:=Z) h t hlo.1 (.lo hR hN) zO (ih d.lo es ck mm zO hlo.1 (.lo hR hN) hm)) ?_);rintro v2 H ⟨hv2,ic,iO,mm2,rfl,mC⟩;refine⟨.cons (.cons (.skip (.skip .tail))),?_⟩;intro G;apply ae.rq (Dh (C:=Z) Tl.no hv2);intro v3 hv3;intro G;have aaA:=hv3;obtain⟨rr,rfl,h3l,h3o⟩:=pz hv3;refine St.p (r:=rr) h3o ?_ (hr:=h3l);refine JE.mk (last _ rr ic iO mm2 aaA h3l h3o mC ?_);rw[hb,xcr,xdD]
  refine JE.mk (last false [χ 0,.bool false] es ck mm Tl.no rfl (qG _ _) hm ?_);rw[hb,xel]
end
section
variable {d0 nm n f F V CW:Nat} {kP:zV} {K:Kd} {S:Nat->ax.Fn} {ai ls:zL} {CV:Array MapEntry} {m:List (Nat×Nd)} {Z Z':Hp}
def Yr.more{b b':Nat}(h:Yr K S ai ls m n f F V d0 b nm kP CV CW Z)(hs:∀x∈Z,x∈Z'):Yr K S ai ls m n f F V d0 b' nm kP CV CW Z':=
 ⟨h.ok,h.mq,h.hn,hs _ h.d,hs _ h.hnm,h.dO,h.cov,h.L.mono hs,h.get,h.F64,h.V64⟩
theorem yZ{b:Nat}(h:Yr K S ai ls m n f F V d0 b nm kP CV CW Z)(Ξ:ls.length=n)(hf:live K.N f):Rd zQ 197 #[γ d0] Z (Tl (qT K.n F V (S f))):=by
 have tt:=h.mq;have hn:=h.hn;have hi:=h.ok.mid.int;have η:∀l∈ls,l<n:=λl hl=>by
  obtain⟨i,hi,e⟩:=xbc.1 hl;have q:=h.get i zO;rw[xab hi,e]at q;cases q;rw[hn];exact h.ok.lv.lt _ zO
 refine aJ λg=>Jf λb1 _ b3 _=>?_;refine Ld.q ?_;refine ae.fq (Q5 (Z:=Z) h.d h.L Ξ zO η h.F64) ?_;rintro v H ⟨bf,ns,ah7,rfl,rfl⟩;intro b8 _;refine St.one (c':=#[.slice (some ⟨bf,0,none⟩) (n+1) (n+1)]) (by exact .head _) rfl zI rfl ?_;intro kb _;refine Build.mk (cs:=[χ 0,.bool false]) zK (aI.bt (ke:=kr) (vr:=λv (x:Bool)=>Tl x v) (k:=0) (b:=kb) (x:=false) dc gZ aI.empty Tl.no λkR j7 GZ=>⟨_,.head _,?_⟩);refine Build.mk (cs:=[χ 1,.bool false]) zK (aI.bt (ke:=kr) (vr:=λv (x:Bool)=>Tl x v) (k:=1) (b:=kb) (x:=true) dc gZ GZ Tl.yes λic iO VG=>⟨_,.head _,?_⟩);intro l5 _;refine St.one (c':=#[.map (some kb)]) (by exact .head _) rfl zI rfl ?_;intro xH _;refine St.one (c':=#[.func (.func 254) #[] #[γ b1]]) (by exact .head _) rfl zI rfl ?_;intro uU _ FA _;refine St.one (c':=#[.func (.func 255) #[] #[γ uU,γ b8,γ xH]]) (by exact .head _) rfl zI rfl ?_;refine St.one (c':=#[.func (.func 257) #[] #[γ l5,γ b1,γ FA]]) (by exact .tail (.head _)) rfl zI rfl ?_;obtain⟨Y,hY⟩:∃Y:Hp,Y=(FA,Obj.cells #[.func (.func 255) #[] #[γ uU,γ b8,γ xH]] 322 zZ)::(uU,.cells #[.func (.func 257) #[] #[γ l5,γ b1,γ FA]] 320 zZ)::(xH,.cells #[.func (.func 254) #[] #[γ b1]] 182 zZ)::(l5,.cells #[.map (some kb)] 319 zZ)::
  (b8,.cells #[.slice (some ⟨bf,0,none⟩) (n+1) (n+1)] 43 zZ)::(b3,.cells #[χ 0,.bool false] 261 zZ)::(b1,.cells #[γ d0] 258 zZ)::(bf,.cells (az .i64 (iw ns)) 3 zZ)::Z:=⟨_,rfl⟩
 have hYs:∀x∈Z,x∈Y:=λx hx=>by rw[hY];exact .tail _ (.tail _ (.tail _ (.tail _ (.tail _ (.tail _ (.tail _ (.tail _ hx)))))))
 have hvw:Yr K S ai ls m n f F V d0 b1 nm kP CV CW Y:=h.more hYs;have ht:TcH n d0 b1 b8 l5 xH uU FA bf kb ns Y:=by
  refine⟨?_,?_,?_,?_,?_,?_,?_,ah7⟩<;>rw[hY]<;>simp
 have hk:KnT (λr=>qT K.n F V (S r)) ic iO [(0,false),(1,true)]:=by
  refine⟨VG,λr x hx=>?_,λr hr=>?_⟩
  ·unfold aN at hx;rw[xbG,xbG]at hx;by_cases e0:r=0
   ·subst e0;have:x=false:=by simpa using hx.symm
    rw[this,show S 0=λ_=>false from funext hi.zero];exact Wx.symm
   by_cases e1:r=1
   ·subst e1;have:x=true:=by simpa using hx.symm
    rw[this,show S 1=λ_=>true from funext hi.one];exact Z6.symm
   simp[xa9 e0,xa9 e1]at hx
  have:r=0\/r=1:=by omega
  rcases this with rfl|rfl<;>simp[aN]
 refine DR.of (R:=(FA,Obj.cells #[.func (.func 255) #[] #[γ uU,γ b8,γ xH]] 322 zZ)::(b1,.cells #[γ d0] 258 zZ)::Z) (.cons (.skip (.skip (.skip (.skip (.skip (.skip (.cons .tail)))))))) (Ld.q ?_);refine Ld.q ?_;refine Ld.v (v:=δ f) (.tail _ (.tail _ h.d)) ?_;intro G;refine aM.of rfl zK (ae.pre (H':=(kb,Obj.map ic iO)::Y) (by rw[hY];exact .perm (xaO (l₁:=[_,_,_,_]))) (ae.fn (args:=#[δ f,ε ((0:Nat):Int),γ uU,γ b8,γ xH]) .here (sQ hvw ht hf (.base rfl) (xaL _) (MY hvw ht K.n f ic iO _ (xdA _ _) hf (.base rfl) hk)) ?_));rintro v H ⟨hv,pT,rF,mm3,rfl,qo⟩;intro G;have oC:=hv;obtain⟨rr,rfl,ym,QU⟩:=pz hv;rw[hY];refine St.p (r:=rr) QU ?_ (hr:=ym);refine aB.q ?_ (hr:=ym);exact br.mk (.skip (.skip (.skip (.skip (.skip (.skip (.skip (.skip .tail)))))))) oC
end
section
variable {kp mb b1 b9 HE Az n f:Nat} {kP:zV} {K:Kd} {S:Nat->ax.Fn} {θ ai tr:zL} {C Z:Hp}
def ue(h:bS kp K S θ ai tr C){r:Nat}(hr:live K.N r):Rd zQ 195 #[γ kp,δ r] C (· =ε (if r=0 then 10 else 0)):=by
 have η:=h.bQ hr;refine aJ λg=>Jh (ah.aK (Br.no (ae.eq (args:=#[γ kp,δ r]) (jc h.rep zO) ?_)));rw[cg.2 hr];refine Ext.two λb6 _=>(St.p (aS K.N r).2 ?_ (hr:=(aS K.N r).1));refine ah.cM (Br.F (ah.fc (b:=0) (Br.mk (λhb=>?_) (λhb=>?_))))
 ·rw[xae (xb5 hb)];exact br.mk .tail rfl
 rw[xac (xdj hb)];exact br.mk .tail rfl
structure Vc(K:Kd)(m m':List (Nat×Nd))(r:Nat):Prop where
 good:∀u d,aN m' u=some d->K.N u=some d
 sub:∀u,aN m u≠none->aN m' u≠none
 has:r<2\/aN m' r≠none
 shut:∀u,aN m' u≠none->aN m u=none->∃d,K.N u=some d/\(d.lo<2\/aN m' d.lo≠none)/\(d.hi<2\/aN m' d.hi≠none)
def Vc.cov{m:List (Nat×Nd)}(h:Vc K [] m f)(h2:∀u d,K.N u=some d->2<=u):∀u e,Rc K.N (λq=>q=f) u->K.N u=some e->aN m u=some e:=by
 have step:∀u,Rc K.N (λq=>q=f) u->u<2\/aN m u≠none:=λu hu=>by
  induction hu with
  |base e=>subst e;exact h.has
  |lo hp hN ih=>
   rcases ih with ih|ih
   ·have:=h2 _ _ hN;omega
   obtain⟨d,hd,a,b⟩:=h.shut _ ih rfl;rw[hN]at hd;cases hd;exact a
  |hi hp hN ih=>
   rcases ih with ih|ih
   ·have:=h2 _ _ hN;omega
   obtain⟨d,hd,a,b⟩:=h.shut _ ih rfl;rw[hN]at hd;cases hd;exact b
 intro u e hu hN;rcases step u hu with h'|h'
 ·have:=h2 _ _ hN;omega
 cases hm:aN m u with
 |none=>exact absurd hm h'
 |some d=>have:=h.good u d hm;rw[hN]at this;cases this;rfl
theorem Wr(h:bS kp K S θ ai tr C)(h9:(b9,Obj.cells (FE n f mb kP 0 0) 266 zZ)∈Z)(XW:(HE,Obj.cells #[γ b9] 258 zZ)∈Z)(h1:(b1,Obj.cells #[γ kp] 53 zZ)∈Z)
 (h48:(Az,Obj.cells #[.func (.func 252) #[] #[γ HE,γ b1,γ Az]] 183 zZ)∈Z):
  ∀(k r:Nat) (es:Array MapEntry) (ck:Nat) (m:List (Nat×Nd)),K.n-ι K.n (lv ai) K.N r<=k->live K.N r->O5 es ck m->(∀u d,aN m u=some d->K.N u=some d)->
  Fc zQ 252 #[δ r,γ HE,γ b1,γ Az] ((mb,.map es ck)::(Z++C)) (λv H=>v=.tuple #[]/\∃τ bF m',H=(mb,.map τ bF)::(Z++C)/\O5 τ bF m'/\Vc K m m' r):=by
 have Zr:=xad C h9;have abq:=xad C XW;have qs:=xad C h1;have XV:=xad C h48;have two:=λ(u:Nat) (d:Nd) (e:K.N u=some d)=>(h.ok.mid.two e).1;have stop:∀{r:Nat} {es:Array MapEntry} {ck:Nat} {m:List (Nat×Nd)},O5 es ck m->(∀u d,aN m u=some d->K.N u=some d)->(r<2\/aN m r≠none)->
   Fc zQ 252 #[δ r,γ HE,γ b1,γ Az] ((mb,.map es ck)::(Z++C)) (λv H=>v=.tuple #[]/\∃τ bF m',H=(mb,.map τ bF)::(Z++C)/\O5 τ bF m'/\Vc K m m' r):=by
  intro r es ck m hE hg hr;refine aJ λg=>xU (Ld.mk (v:=γ b9) (.tail _ abq) rfl ?_);refine Ld.v (v:=.map (some mb)) (.tail _ Zr) ?_;have fin:Vc K m m r:=⟨hg,λ_ h=>h,hr,λu h h'=>absurd h' h⟩;cases hv:aN m r with
  |some d=>
   refine hE.hit (k:=r) dc (b:=mb) (by exact .head _) hv λv e=>?_;subst e;refine Ext.two λb8 _=>(St.p (fN d) ?_);refine dh.or (a:=true) true (λe=>by cases e) rfl λ_=>?_;exact Br.yes (aQ.mk .tail ⟨rfl,es,ck,m,rfl,hE,fin⟩)
  |none=>
   have h2:r<2:=hr.resolve_right λh=>h hv;refine hE.bR (k:=r) dc (b:=mb) (by exact .head _) hv ?_;refine Ext.two λb8 _=>(St.p (r:=[ε 0,δ 0,δ 0]) (by simp[δ,Value.oneCell']) (dh.or (a:=false) (decide (r<=1)) (λ_=>ah.By (b:=1) ⟨rfl,rfl⟩) rfl λ_=>?_));rw[xam (show r<=1 by omega)];exact Br.yes (aQ.mk .tail ⟨rfl,es,ck,m,rfl,hE,fin⟩)
 intro k;induction k with
 |zero=>
  intro r es ck m hk hr hE hg;refine stop hE hg (.inl ?_);cases hN:K.N r with
  |some d=>
   rw[au hN]at hk;have:=h.ok.lv.lt _ (h.ok.mid.var hN);omega
  |none=>
   rcases hr with hr|⟨d,e⟩
   ·exact hr
   rw[hN]at e;cases e
 |succ k ih=>
  intro r es ck m hk hr hE hg;by_cases hs:r<2\/aN m r≠none
  ·exact stop hE hg hs
  have q7:¬r<2:=λh=>hs (.inl h);have hv:aN m r=none:=xaD λh=>hs (.inr h);obtain⟨d,hN⟩:∃d,K.N r=some d:=by
   rcases hr with hr|hr
   ·omega
   exact hr
  have η:=h.bQ (.inr ⟨d,hN⟩);have hlo:=h.ok.wf.lo hN;have hhi:=h.ok.wf.hi hN;rw[au hN]at hk;have hvl:=h.ok.lv.lt _ (h.ok.mid.var hN);refine aJ λg=>xU (Ld.mk (v:=γ b9) (.tail _ abq) rfl ?_);refine Ld.v (v:=.map (some mb)) (.tail _ Zr) ?_;refine hE.bR (k:=r) dc (b:=mb) (by exact .head _) hv ?_;refine Ext.two λb8 _=>(St.p (r:=[ε 0,δ 0,δ 0]) (by simp[δ,Value.oneCell']) (dh.or (a:=false) (decide (r<=1)) (λ_=>ah.By (b:=1) ⟨rfl,rfl⟩) rfl λ_=>?_));rw[xan (show¬r<=1 by omega)];refine Br.no (Ld.mk (v:=γ kp) (.tail _ (.tail _ qs)) rfl ?_);refine ae.eq (args:=#[γ kp,δ r]) (jc h.rep zO) ?_;rw[eo hN (two r d hN)];refine Ext.two λCX _=>(St.p (fN d) ?_);refine DR.of (.refl _) (Ld.mk (v:=γ b9) (.tail _ (.tail _ (.tail _ abq))) rfl ?_);refine Ld.v (v:=.map (some mb)) (.tail _ (.tail _ (.tail _ Zr))) ?_;refine aB.q ?_;intro G;refine hE.bt (k:=r) (b:=mb) (x:=d) dc gZ rfl λkR j7 GZ=>⟨_,.tail (.tail (.head _)),?_⟩;have g1:∀u e,aN (eu m r d) u=some e->K.N u=some e:=λu e hu=>by
   rw[bP]at hu;split at hu
   ·cases hu;subst u;exact hN
   exact hg u e hu
  refine Ld.mk (v:=.func (.func 252) #[] #[γ HE,γ b1,γ Az]) (.tail _ (.tail _ (.tail _ XV))) rfl ?_;refine Ld.f (v:=δ d.lo) (aM.of rfl zK (ae.fq (args:=#[δ d.lo,γ HE,γ b1,γ Az]) (ih d.lo kR j7 _ zO hlo.1 GZ g1) ?_));rintro v H ⟨rfl,ic,iO,m2,rfl,tw,w2⟩;refine Ld.mk (v:=.func (.func 252) #[] #[γ HE,γ b1,γ Az]) (.tail _ (.tail _ (.tail _ XV))) rfl ?_;refine Ld.f (v:=δ d.hi) (aM.of rfl zK (ae.fq (args:=#[δ d.hi,γ HE,γ b1,γ Az]) (ih d.hi ic iO m2 zO hhi.1 tw w2.good) ?_));rintro v H ⟨rfl,pT,rF,m3,rfl,QM,w3⟩;have r1:aN (eu m r d) r≠none:=by rw[bP,xae rfl];simp
  refine aQ.mk (.skip .tail) ⟨rfl,pT,rF,m3,rfl,QM,⟨w3.good,λu hu=>w3.sub u (w2.sub u ?_),.inr (w3.sub r (w2.sub r r1)),λu hu hn=>?_⟩⟩
  ·rw[bP];split
   ·simp
   exact hu
  by_cases Xm:aN m2 u=none
  ·exact w3.shut u hu Xm
  by_cases GQ:aN (eu m r d) u=none
  ·obtain⟨e,he,a,b⟩:=w2.shut u Xm GQ;exact⟨e,he,a.imp id (w3.sub _),b.imp id (w3.sub _)⟩
  rw[bP]at GQ;split at GQ
  ·subst u;exact⟨d,hN,w2.has.imp id (w3.sub _),w3.has⟩
  exact absurd hn GQ
end
section
variable {kp:Nat} {K:Kd} {S:Nat->ax.Fn} {θ ai tr:zL} {C:Hp}
theorem ZY(h:bS kp K S θ ai tr C){f:Nat}(hf:live K.N f):Fc zQ 196 #[γ kp,δ f] C (λv H=>∃d0 nm kP CV CW m B,v=γ d0/\kP.oneCell'=true/\H=(d0,.cells (FE K.n f nm kP 0 0) 266 zZ)::((nm,.map CV CW)::(B++C))/\O5 CV CW m/\
  (∀u e,Rc K.N (λq=>q=f) u->K.N u=some e->aN m u=some e)/\di .i64 B kP (iw ((List.range K.n).map (lv ai)))):=by
 have tt:=h.bg.mq;refine aJ λg=>Jg λb1 _=>?_;refine Ld.q ?_;refine ae.eq (gY h.rep) λnm _=>?_;refine Build.mk (cs:=[ε (K.n:Int),δ f,.map (some nm),.slice none 0 0,χ 0,χ 0]) zK λb9 _ HE _=>?_;refine St.one (c':=#[γ b9]) (by exact .head _) rfl zI rfl ?_;refine Ld.q ?_;refine Ld.n (v:=ε (K.n:Int)) ?_;refine⟨λvs H=>∃(j:Nat) (kP:zV) (CL:Hp),vs=[ε (j:Int)]/\j<=K.n/\kP.oneCell'=true/\aL 3 .i64 kP (iw ((List.range j).map (lv ai))) CL/\
   H=(HE,.cells #[γ b9] 258 zZ)::(b9,.cells (FE K.n f nm kP 0 0) 266 zZ)::(nm,.map #[] 0)::(b1,.cells #[γ kp] 53 zZ)::(CL++C),λvs _=>K.n-bH vs 0,
  JE.mk ⟨0,.slice none 0 0,[],rfl,xaL _,rfl,aL.nil,rfl⟩,?_⟩
 rintro w H ⟨j,kP,CL,⟨⟩,hj,ho,hL,rfl⟩ gs;refine ah.eA (Br.dec (λη=>?_) (λhge=>?_))
 ·refine Ld.q ?_;refine ae.eq (mB h.rep _) ?_;rw[xae ⟨by omega,by omega⟩];refine Ext.two (DR.of (R:=(HE,Obj.cells #[γ b9] 258 zZ)::(b9,.cells (FE K.n f nm kP 0 0) 266 zZ)::C) (.cons (.cons (.skip (.skip .right)))) (Ld.q ?_));refine Ld.q ?_;refine Ld.n (v:=kP) λG=>?_;refine aq.int (e:=3) zK zK zK λbx=>?_;refine⟨.skip (.cons (.cons (.skip (.skip .right)))),?_⟩;intro G;refine hL.qd (.cons (.cons (.cons (.cons (.cons .left))))) (by exact .head _) zP zP λv' N' cA=>?_;refine⟨.skip (.cons (.cons (.skip (.skip .right)))),?_⟩;refine .γ (.mk ?_);intro G;have oC:v'.oneCell'=true:=by
   obtain⟨x,y,z,rfl⟩:∃x y z,v'=.slice x y z:=by
    rcases cA with⟨rfl,_⟩|⟨b,c,rfl,_⟩
    ·exact⟨_,_,_,rfl⟩
    exact⟨_,_,_,rfl⟩
   rfl
  refine St.one (c':=FE K.n f nm v' 0 0) (by exact .tail (.tail (.head _))) oC zI rfl ?_;refine ah.inc (aD.of .tail ⟨j+1,v',N',rfl,η,oC,?_,rfl⟩ (by simp only[bH];omega));rw[xbZ,xaz,cH];rw[xbe]at cA;exact cA
 obtain rfl:j=K.n:=by omega
 intro Az _;refine St.one (c':=#[.func (.func 252) #[] #[γ HE,γ b1,γ Az]]) (by exact .head _) rfl zI rfl ?_;refine Ld.q ?_;refine aM.of rfl zK ?_;obtain⟨Z,hZ⟩:∃Z:Hp,Z=(Az,Obj.cells #[.func (.func 252) #[] #[γ HE,γ b1,γ Az]] 183 zZ)::(HE,.cells #[γ b9] 258 zZ)::(b9,.cells (FE K.n f nm kP 0 0) 266 zZ)::(b1,.cells #[γ kp] 53 zZ)::CL:=⟨_,rfl⟩;refine ae.pre (H':=(nm,Obj.map #[] 0)::(Z++C)) (by rw[hZ];exact .perm (xaO (l₁:=[_,_,_]))) (ae.fn (args:=#[δ f,γ HE,γ b1,γ Az]) .here (Wr (Z:=Z) (b9:=b9) (n:=K.n) (f:=f) (kP:=kP) h (by rw[hZ];simp) (by rw[hZ];simp) (by rw[hZ];simp) (by rw[hZ];simp) K.n f #[] 0 [] (xdA _ _) hf aI.empty (λu d e=>by cases e)) ?_);rintro v H ⟨rfl,τ,bF,m',rfl,Ek,w'⟩;refine Ld.mk (v:=γ b9) (.tail _ (xad _ (by rw[hZ];exact .tail _ (.head _)))) rfl ?_;refine aQ.mk ?_ ⟨b9,nm,kP,τ,bF,m',CL,rfl,ho,rfl,Ek,w'.cov (λu d e=>(h.ok.mid.two e).1),hL.ints⟩;rw[hZ];exact .trans (.cons (.skip (.skip (.cons .tail)))) .swap
def ZF(n:Nat)(f:ax.Fn)(V:Nat):Prop:=(∀j,n<=j->V.testBit j=false)/\∀v,v<n->(V.testBit v=true↔¬∃x:Nat,(∀j,v<j->j<n->x.testBit j=V.testBit j)/\x.testBit v=false/\f x=true)
def ZF.uniq{n V V':Nat}{f:ax.Fn}(h:ZF n f V)(h':ZF n f V'):V=V':=by
 have:∀k v,n<=v+k->V.testBit v=V'.testBit v:=by
  intro k;induction k with
  |zero=>intro v hv;rw[h.1 v hv,h'.1 v hv]
  |succ k ih=>
   intro v hv;by_cases GP:n<=v
   ·rw[h.1 v GP,h'.1 v GP]
   rw[xbH,h.2 v zO,h'.2 v zO];have e:∀x:Nat,(∀j,v<j->j<n->x.testBit j=V.testBit j)↔(∀j,v<j->j<n->x.testBit j=V'.testBit j):=λx=>
    ⟨λq j a b=>by rw[q j a b];exact ih j zO,λq j a b=>by rw[q j a b];exact(ih j zO).symm⟩
   simp only[e]
 exact xaV λv=>this n v zO
theorem NC(h:bS kp K S θ ai tr C){f:Nat}(hf:live K.N f)(h0:f≠0):Rd zQ 91 #[γ kp,δ f] C (λv=>∃V,V<18446744073709551616/\ZF K.n (S f) V/\v=.tuple #[χ V,ε 0]):=by
 have tt:=h.bg.mq;have acX:∃x,S f x=true:=by
  refine xaD λΓ=>h0 ?_;have:S f=S 0:=funext λx=>by
   rw[h.ok.mid.int.zero];cases e:S f x with
   |false=>rfl
   |true=>exact absurd ⟨x,e⟩ Γ
  exact h.ok.wf.same h.ok.lv h.ok.mid.int hf (.inl zD) λx=>congrFun this x
 refine aJ λg=>AM (ae.rq (Q:=λv=>∃V,V<18446744073709551616/\ZF K.n (S f) V/\v=.tuple #[χ V,ε 0]) (aJ λg=>yd ?_) ?_);rotate_left
 ·rintro v ⟨V,h1,h2,rfl⟩;exact Ext.two (br.mk (.refl _) ⟨V,h1,h2,rfl⟩)
 refine ae.eq (ue h hf) ?_;rw[xac h0];refine ah.cM (Br.F (ae.fq (ZY h hf) ?_));rintro v H ⟨d0,nm,kP,CV,CW,m,B,rfl,ho,rfl,hE,aie,hL⟩;obtain⟨X,hX⟩:∃X:Hp,X=(nm,Obj.map CV CW)::(B++C):=⟨_,rfl⟩;rw[<-hX];have vw:∀F V,F<18446744073709551616->V<18446744073709551616->Yr K S ai ((List.range K.n).map (lv ai)) m K.n f F V d0 0 nm kP CV CW ((d0,.cells (FE K.n f nm kP F V) 266 zZ)::X):=λF V hF hV=>
  ⟨h.ok,tt,rfl,.head _,by rw[hX];exact .tail _ (.head _),hE,aie,hL.mono λx hx=>by rw[hX];exact .tail _ (.tail _ (xad _ hx)),λv hv=>by simp[hv],hF,hV⟩
 refine ae.rq (yZ (vw 0 0 zD zD) zI hf) ?_;intro t ht;refine ae.eq (y5 (C:=X) ht) ?_;have e0:qT K.n 0 0 (S f)=true:=by
  obtain⟨x,hx⟩:=acX;exact qU.2 ⟨x,λj _ hj=>by simp at hj,hx⟩
 rw[e0];refine Un.not (Br.no (Ld.n (v:=ε (K.n:Int)) (ah.mc (c:=(K.n:Int) -1) rfl zO ?_)));refine⟨λvs H=>∃(j F V:Nat),vs=[χ 0,ε ((j:Int) -1)]/\j<=K.n/\F<18446744073709551616/\V<18446744073709551616/\H=(d0,.cells (FE K.n f nm kP F V) 266 zZ)::X/\(∀i,F.testBit i=(decide (j<=i) &&decide (i<K.n)))/\(∀i,i<j\/K.n<=i->V.testBit i=false)/\
   ∀v,j<=v->v<K.n->(V.testBit v=true↔¬∃x:Nat,(∀i,v<i->i<K.n->x.testBit i=V.testBit i)/\x.testBit v=false/\S f x=true),
  λvs _=>match vs with| [_,.int _ q]=>(q+1).toNat|_=>0,
  JE.mk ⟨K.n,0,0,rfl,xai _,by decide,by decide,rfl,λi=>?_,λi _=>by simp,λv a b=>by omega⟩,?_⟩
 ·rw[xcG];by_cases e:K.n<=i
  ·rw[xan (show¬i<K.n by omega),xdX]
  rw[xan e,xel]
 rintro w1 w2 H ⟨j,F,V,⟨⟩,hj,hF,hV,rfl,hFb,hV0,hVb⟩ gs;refine ah.geq (Br.dec (λhge=>?_) (λη=>?_))
 ·obtain⟨i,rfl⟩:∃i,j=i+1:=⟨j-1,by omega⟩;have ei:(((i+1:Nat):Int) -1)=(i:Int):=by omega
  rw[ei];intro J hJ;have back:∀F' V':Nat,F'<18446744073709551616->V'<18446744073709551616->(∀a,F'.testBit a=(decide (i<=a) &&decide (a<K.n)))->(∀a,a<i\/K.n<=a->V'.testBit a=false)->
    (∀v,i<=v->v<K.n->(V'.testBit v=true↔¬∃x:Nat,(∀a,v<a->a<K.n->x.testBit a=V'.testBit a)/\x.testBit v=false/\S f x=true))->J [χ 0] ((d0,.cells (FE K.n f nm kP F' V') 266 zZ)::X):=λF' V' a b c d e=>hJ _ _ λ_=>by
   refine ah.mc (c:=(i:Int) -1) rfl zO (aD.mk ⟨i,F',V',rfl,by omega,a,b,rfl,c,d,e⟩ ?_);show((i:Int) -1+1).toNat<((i:Int)+1).toNat;omega
  refine ae.fq (KS (C:=X) (b:=0) ho zO zD hF hV) ?_;rintro w H ⟨rfl,F1,V1,rfl,hF1,hV1,aiR,ait⟩;have same:V1=V:=xaV λa=>by
   rw[ait];split
   ·subst a;rw[hV0 i (.inl zO)];rfl
   rfl
  subst same;have fb:∀a,F1.testBit a=(decide (i<=a) &&decide (a<K.n)):=λa=>by
   rw[aiR,hFb];by_cases e:a=i
   ·subst e;rw[xam (show a<K.n by omega),xam rfl,xam (xai a)];simp
   rw[xan e,xdB];congr 1;exact xb1.2 zO
  refine ae.rq (yZ (vw F1 V1 hF1 hV1) zI hf) ?_;intro t ht;intro b31 _;have ht':=ht;obtain⟨rr,rfl,ym,QU⟩:=pz ht;refine St.p (r:=rr) QU ?_ (hr:=ym);refine aB.q ?_ (hr:=ym);refine ae.eq (y5 (C:=X) ht') (Un.not ?_);have qi:qT K.n F1 V1 (S f)=true↔∃x:Nat,(∀a,i<a->a<K.n->x.testBit a=V1.testBit a)/\x.testBit i=false/\S f x=true:=by
   rw[qU];constructor
   ·rintro⟨x,hx,hS⟩;refine⟨x,λa ha hn=>hx a hn (by rw[fb,xam (show i<=a by omega),xam hn];rfl),?_,hS⟩;rw[hx i zO (by rw[fb,xam (xai i),xam (show i<K.n by omega)];rfl)];exact hV0 i (.inl zO)
   rintro⟨x,hx,YZ,hS⟩;refine⟨x,λa hn hF=>?_,hS⟩;rw[fb,xaJ,xaM,xaM]at hF;by_cases e:a=i
   ·subst e;rw[YZ];exact(hV0 a (.inl zO)).symm
   exact hx a zO hn
  refine Br.mk (λhb=>?_) (λhb=>?_)
  ·have Γ:qT K.n F1 V1 (S f)=false:=by simpa using hb
   have hz:∃q,rr=[χ 0,q]:=by
    obtain⟨n,b,hn,e,hp⟩:=ht';rw[Γ]at hp;have:rr=[χ n,.bool b]:=by
     have:=Value.agg.inj e;simpa using this
    rw[xaG,xbq]at hp;have e0:n=0:=xaD hp.2;exact⟨.bool b,by rw[this,e0]⟩
   obtain⟨q,rfl⟩:=hz;refine Ld.f (v:=χ 0) (ah.yp (b:=0) zD (xai _) (ae.pre .tail ?_));refine ae.fq (KS (C:=X) (b:=1) ho zO zD hF1 hV1) ?_;rintro w H ⟨rfl,F2,V2,rfl,hF2,hV2,aiQ,aez⟩;have v2:∀a,a≠i->V2.testBit a=V1.testBit a:=λa ha=>by rw[aez,xac ha]
   refine JE.mk (back F2 V2 hF2 hV2 (λa=>?_) (λa ha=>?_) λv hv GP=>?_)
   ·rw[aiQ,fb];by_cases e:a=i
    ·subst e;rw[xam (show a<K.n by omega),xam rfl,xam (xai a)];rfl
    rw[xan e,xdB]
   ·rw[v2 a zO];exact hV0 a zO
   have ajf:∀x:Nat,(∀a,v<a->a<K.n->x.testBit a=V2.testBit a)↔(∀a,v<a->a<K.n->x.testBit a=V1.testBit a):=λx=>
    ⟨λq a h1 h2=>by rw[q a h1 h2,v2 a zO],λq a h1 h2=>by rw[q a h1 h2,v2 a zO]⟩
   simp only[ajf];by_cases e:v=i
   ·subst e;rw[aez,xae rfl];have:=mt qi.2 (by rw[Γ];decide);simp only[this,xcP];decide
   rw[v2 v e];exact hVb v zO GP
  have SR:qT K.n F1 V1 (S f)=true:=by simpa using hb
  refine JE.of .tail (back F1 V1 hF1 hV1 fb (λa ha=>hV0 a zO) λv hv GP=>?_);by_cases e:v=i
  ·subst e;rw[hV0 v (.inl zO)];simp only[qi.1 SR,xcv];decide
  exact hVb v zO GP
 obtain rfl:j=0:=by omega
 refine Ld.n (v:=χ V) (br.mk ?_ ⟨V,hV,⟨λi hi=>hV0 i (.inr hi),λv hv=>hVb v (xaL _) hv⟩,rfl⟩);rw[hX];exact .skip (.skip .right)
def ND(h:bS kp K S θ ai tr C):Rd zQ 91 #[γ kp,δ 0] C (· =.tuple #[χ 0,ε 10]):=by
 refine aJ λg=>AM (ae.rq (Q:=λv=>v=.tuple #[χ 0,ε 10]) (aJ λg=>yd ?_) ?_);rotate_left
 ·rintro v rfl;exact Ext.two (br.mk (.refl _) rfl)
 apply ae.eq (ue h (.inl zD));rw[xae rfl];exact ah.cM (Br.T (br.mk (.refl _) rfl))
end
section
variable {sp kp mb nx:Nat} {c:Cf} {K:Kd} {S:Nat->ax.Fn} {θ ai tr:zL} {hs:List (Int×Nat)} {es:Array MapEntry} {ck:Nat} {C:Hp} {x:dr}
theorem Rx(h:gP kp nx c K S θ ai tr hs es ck C):
  Rd zQ 51 #[γ sp,x.v] (gS sp c kp mb nx es ck C) (· =if(aN hs x.a).isSome then fi 0 (-1) (sz c.n θ (λg=>g=ca S hs x.a)) 0 else fi 3 (-1) 0 0):=by
 refine aJ λg=>PO λb1 _ b3 _=>?_;refine Ld.f (v:=ε x.a) (ae.eq (eV h x.a) (Un.not ?_));cases hm:aN hs x.a with
 |none=>
  refine Br.yes (ae.eq (cE _ _) (St.p (r:=[ε 3,ε (-1),χ 0,ε 0]) (bN _ _ _ _) ?_));refine aB.q ?_;exact br.mk (.skip .tail) rfl
 |some r=>
  apply Br.no;have hl:=h.live _ (h.find hm);refine DR.of (.refl _) (Ld.n (v:=γ kp) (Ld.n (v:=.map (some mb)) (Ld.f (v:=ε x.a) (h.dO.hit (k:=x.a) (cm _) (b:=mb) (by exact .tail _ (.tail _ (.tail _ (.head _)))) hm λv e=>?_))));subst e;intro F;refine aq.int (e:=78) (x:=(r:Int)) zK zK zK λbx=>?_;refine⟨.tail,?_⟩;intro F;refine ae.pre (H':=[(bx,Obj.cells (az .u32 [(r:Int)]) 78 zZ),(b3,.cells #[ε 0,ε 0,χ 0,ε 0] 37 zZ),(b1,.cells (Value.cells x.v) 35 zZ),jz sp c kp mb nx,(mb,.map es ck)]++C) (.refl _) (ae.eq (args:=#[γ kp,.slice (some ⟨bx,0,none⟩) 1 1]) (Uw h.ks hl (.head _)) (⟨.tail,?_⟩));refine Ext.two (bu.of (m:=((sz K.n θ (λg=>g=S r):Nat):Int)) (fo (kd:=.u64) ?_) ?_)
  ·have hc:=h.ks.ok.size h.ks.od;have hroom:=h.ks.ok.mid.cap;have hcap:=h.ks.rep.cap;obtain⟨k,hk,mD⟩:=Md (U:=aE K.n θ (λg=>g=S r)) (l:=E8 θ [S r] K.n) (zk zI);have hle:k<=1048576:=by
    by_cases h2:2<=r
    ·have oE:K.held S (S r):=⟨r,by show K.hold r≠0;rw[h.hold,xae h2];exact xdv (xbP.2 (xaT (f:=Prod.snd) (h.find hm))),rfl⟩;have amM:=mD.le hc λg hg=>aX (λg e=>by rw[e];exact oE) hg;omega
    have:k=0:=mD.uniq (nQ.none.congr λg=>⟨False.elim,λhg=>jJ (λv=>λhv=>h2 ((cy h.ks hl).2 ⟨v,hv⟩)) g hg⟩);omega
   rw[KY mD];exact xaC hle zD
  refine ae.eq (dW _ 0 _) (St.p (r:=[ε 0,ε (-1),χ (sz K.n θ (λg=>g=S r)),ε 0]) (bN _ _ _ _) ?_);refine aB.q ?_;exact br.mk (.skip (.skip .tail)) (by rw[bD hm,<-h.n];rfl)
theorem Lf(h:gP kp nx c K S θ ai tr hs es ck C)(Γ:aN hs x.a=none\/∃r,aN hs x.a=some r/\2<=r/\K.hold r=65535):
  Rd zQ 46 #[γ sp,x.v] (gS sp c kp mb nx es ck C) (· =if(aN hs x.a).isSome then fi 8 (-1) 0 0 else fi 3 (-1) 0 0):=by
 refine aJ λg=>AU λb1 _ b3 _=>?_;refine Ld.n (v:=.map (some mb)) (Ld.f (v:=ε x.a) (h.dO.look (k:=x.a) (cm _) (b:=mb) (by exact .tail _ (.tail _ (.tail _ (.head _)))) (λr v hr hv=>?_) (λhr=>?_)))
 ·subst hv;refine Ext.two (Un.not (Br.no (Ld.n (v:=γ kp) ?_)));rcases Γ with e|⟨q,hq,h2,hf⟩
  ·rw[hr]at e;cases e
  rw[hr]at hq;cases hq;refine ae.eq (args:=#[γ kp,δ r]) (pM h.ks (h.live _ (h.find hr)) h2 hf) (ah.cM (Br.T (ae.eq (cE _ _) (St.p (r:=[ε 8,ε (-1),χ 0,ε 0]) (bN _ _ _ _) ?_))));refine aB.q ?_;exact br.mk (.skip .tail) (by rw[hr];rfl)
 refine Ext.two (Un.not (Br.yes (ae.eq (cE _ _) (St.p (r:=[ε 3,ε (-1),χ 0,ε 0]) (bN _ _ _ _) ?_))));refine aB.q ?_;exact br.mk (.skip .tail) (by rw[hr];rfl)
theorem Ws(h:gP kp nx c K S θ ai tr hs es ck C)(Ed:nx+1<9223372036854775808){r:Nat}(hr:aN hs x.a=some r)(hf:2<=r->K.hold r<65535):
  Fc zQ 46 #[γ sp,x.v] (gS sp c kp mb nx es ck C) (λv H=>v=fi 0 nx 0 0/\∃K' τ bF C',H=gS sp c kp mb (nx+1) τ bF C'/\gP kp (nx+1) c K' S θ ai [] (hs++[((nx:Int),r)]) τ bF C'):=by
 have hl:=h.live _ (h.find hr);refine aJ λg=>AU λb1 _ b3 _=>?_;refine Ld.n (v:=.map (some mb)) (Ld.f (v:=ε x.a) (h.dO.hit (k:=x.a) (cm _) (b:=mb) (by exact .tail _ (.tail _ (.tail _ (.head _)))) hr λv hv=>?_));subst hv;refine Ext.two (Un.not (Br.no (Ld.n (v:=γ kp) (ae.fq (args:=#[γ kp,δ r]) (nh h.ks hl hf) ?_))));rintro v H ⟨rfl,K',de,hm⟩;refine ah.cM (Br.F (ae.fq (Ah h.dO h.key Ed r 0) ?_));rintro v H2 ⟨rfl,τ,bF,rfl,he⟩;refine St.p (r:=[ε 0,ε nx,χ 0,ε 0]) (bN _ _ _ _) ?_;refine aB.q ?_;have hg:gn K S K' S (S r) r:=⟨hm.n,hm.cap,λs d hd=>by rw[hm.N];exact hd,λ_ _=>rfl,by rw[hm.N];exact hl,rfl,λs=>by rw[hm.hold];split<;>rfl⟩;exact aQ.mk (.skip .tail) ⟨rfl,K',τ,bF,H,rfl,(h.grow de hg he).1⟩
def count_erase{l:List (Int×Nat)}{a:Int}{r:Nat}(fQ:(l.map Prod.fst).Nodup)(hm:(a,r)∈l)(s:Nat):((iJ l a).map Prod.snd).count s=(l.map Prod.snd).count s-if s=r then 1 else 0:=by
 induction l with
 |nil=>cases hm
 |cons p l ih=>
  obtain⟨k,q⟩:=p;rw[xay,xaX]at fQ;unfold iJ at*;by_cases hk:k=a
  ·subst hk;have hq:q=r:=by
    rcases xak.1 hm with e|hm
    ·cases e;rfl
    exact absurd (xaT (f:=Prod.fst) hm) fQ.1
   subst hq;have e:(l.filter λy=>decide ¬y.1=k)=l:=xcx.2 λy hy=>by
    have:y.1≠k:=λe=>fQ.1 (by rw[<-e];exact xal.2 ⟨y,hy,rfl⟩);simpa using this
   rw[xbz,xac zI,e,xay,xca];by_cases hs:s=q
   ·subst hs;simp
   have:(q==s)=false:=by simpa using λe=>hs e.symm
   simp[hs,this]
  have Ω:(a,r)∈l:=by
   rcases xak.1 hm with e|hm
   ·cases e;exact absurd rfl hk
   exact hm
  rw[xbz,xae (by simpa using hk),xay,xay,xca,xca,ih fQ.2 Ω];by_cases hs:s=r
  ·subst hs;have:0<(l.map Prod.snd).count s:=xbP.2 (xaT (f:=Prod.snd) Ω);rw[xae rfl];omega
  rw[xac hs];rfl
theorem RE(h:gP kp nx c K S θ ai tr hs es ck C){r:Nat}(hr:aN hs x.a=some r):
  Fc zQ 47 #[γ sp,x.v] (gS sp c kp mb nx es ck C) (λv H=>v=fi 0 (-1) 0 0/\∃K' τ C',H=gS sp c kp mb nx τ ck C'/\gP kp nx c K' S θ ai [] (iJ hs x.a) τ ck C'):=by
 have hmem:=h.find hr;have hl:=h.live _ hmem;have η:=h.ks.bQ hl;have hh:2<=r->K.hold r≠0:=λh2=>by
  rw[h.hold,xae h2];exact xdv (xbP.2 (xaT (f:=Prod.snd) hmem))
 refine aJ λg=>AT λb1 _ b3 _=>?_;refine Ld.n (v:=.map (some mb)) (Ld.f (v:=ε x.a) (h.dO.hit (k:=x.a) (cm _) (b:=mb) (by exact .tail _ (.tail _ (.tail _ (.head _)))) hr λv hv=>?_));subst hv;refine Ext.two (Un.not (Br.no (Ld.n (v:=γ kp) (ae.fq (args:=#[γ kp,δ r]) (nv h.ks zO hh) ?_))));rintro v H ⟨rfl,K',de,hm⟩;refine DR.of (.refl _) (Ld.n (v:=.map (some mb)) (Ld.f (v:=ε x.a) λF=>?_));refine aI.del (k:=x.a) (cm _) h.dO (.tail _ (.tail _ (.tail _ (.head _)))) λτ he=>⟨_,.tail (.tail (.tail (.head _))),?_⟩;refine ae.eq (dW 0 0 _) (St.p (r:=[ε 0,ε (-1),χ 0,ε 0]) (bN _ _ _ _) ?_);refine aB.q ?_;have hsub:∀p,p∈iJ hs x.a->p∈hs:=λp hp=>(xb0.1 hp).1;have Zg:∀s,K'.hold s=if 2<=s then((iJ hs x.a).map Prod.snd).count s else 0:=λs=>by
  rw[hm.hold,h.hold,count_erase h.dO.nd hmem];by_cases h2:2<=s
  ·rw[xae h2,xae h2];by_cases e:s=r
   ·rw[xae ⟨e,by omega⟩,xae e]
   rw[xac (λh=>e h.1),xac e];rfl
  rw[xac h2,xac h2,xac (λh=>h2 zO)]
 refine aQ.mk (.skip .tail) ⟨rfl,K',τ,H,rfl,⟨de,hm.n.trans h.n,hm.cap.trans h.cap,he,λp hp=>?_,Zg,λp hp=>h.lt p (hsub p hp)⟩⟩;by_cases h2:2<=p.2
 ·refine .inr (de.ok.mid.held p.2 ?_);rw[Zg,xae h2];exact xdv (xbP.2 (xaT (f:=Prod.snd) hp))
 exact .inl zO
theorem RF(h:gP kp nx c K S θ ai tr hs es ck C)(hr:aN hs x.a=none):
  Rd zQ 47 #[γ sp,x.v] (gS sp c kp mb nx es ck C) (· =fi 3 (-1) 0 0):=by
 refine aJ λg=>AT λb1 _ b3 _=>?_;refine Ld.n (v:=.map (some mb)) (Ld.f (v:=ε x.a) (h.dO.bR (k:=x.a) (cm _) (b:=mb) (by exact .tail _ (.tail _ (.tail _ (.head _)))) hr ?_));refine Ext.two (Un.not (Br.yes (ae.eq (cE _ _) (St.p (r:=[ε 3,ε (-1),χ 0,ε 0]) (bN _ _ _ _) ?_))));refine aB.q ?_;exact br.mk (.skip .tail) rfl
variable{C0:Hp}
theorem Dv{e:Int}(he:e≠0)(hex:Rd zQ 94 #[γ kp,ε x.a] C0 (· =ε e)):
  Rd zQ 56 #[γ sp,x.v] (gS sp c kp mb nx es ck C0) (· =fi e (-1) 0 0):=by
 refine aJ λg=>AR λb1 _ b3 _=>?_;refine DR.of (.refl _) (Ld.n (v:=γ kp) (Ld.f (v:=ε x.a) λF=>?_));refine ae.eq (args:=#[γ kp,ε x.a]) hex λF=>?_;refine ae.eq (dW 0 e _) λF=>?_;rw[xac he];refine St.p (r:=[ε e,ε (-1),χ 0,ε 0]) (bN _ _ _ _) ?_;refine aB.q ?_;exact br.mk (.skip .tail) rfl
theorem RG{Q:Hp->Prop}(hex:Fc zQ 94 #[γ kp,ε x.a] C0 (λv H=>v=ε 0/\Q H)):
  Fc zQ 56 #[γ sp,x.v] (gS sp c kp mb nx es ck C0) (λv H=>v=fi 0 (-1) 0 0/\∃C',H=gS sp c kp mb nx es ck C'/\Q C'):=by
 refine aJ λg=>AR λb1 _ b3 _=>?_;refine DR.of (R:=(b3,.cells #[ε 0,ε 0,χ 0,ε 0] 37 zZ)::(b1,.cells (Value.cells x.v) 35 zZ)::gS sp c kp mb nx es ck C0) (.refl _) (Ld.n (v:=γ kp) (Ld.f (v:=ε x.a) λF=>?_));refine ae.fq (args:=#[γ kp,ε x.a]) hex ?_;rintro v C' ⟨rfl,hQ⟩;intro F;refine ae.eq (dW 0 0 _) λF=>?_;refine St.p (r:=[ε 0,ε (-1),χ 0,ε 0]) (bN _ _ _ _) ?_;refine aB.q ?_;exact aQ.mk (.skip .tail) ⟨rfl,C',rfl,hQ⟩
theorem Bc(ha:x.a<0\/6<x.a):Rd zQ 57 #[γ sp,x.v] (gS sp c kp mb nx es ck C0) (· =fi 1 (-1) 0 0):=by
 refine aJ λg=>AQ λb1 _ b3 _=>?_;refine Ld.f (v:=ε x.a) (ah.lss (dh.or (decide (6<x.a)) (λ_=>Ld.f (v:=ε x.a) (ah.gtr ⟨rfl,rfl⟩)) rfl λ_=>?_));rw[<-xa6,xam ha];refine Br.yes (ae.eq (cE _ _) (St.p (r:=[ε 1,ε (-1),χ 0,ε 0]) (bN _ _ _ _) ?_));refine aB.q ?_;exact br.mk (.skip .tail) rfl
theorem oa{s:Nat}(hs:x.a=s)(hs6:s<=6){Q:Int->Nat->Hp->Prop}(hrun:Fc zQ 45 #[γ kp,.int .u8 (s:Int),ε x.b] C0 (λv H=>∃(a b d:Int) (t:Bool) (e:Int),v=.tuple #[uK a b d t,ε e]/\∃n,Q e n H/\Rd zQ 83 #[γ kp] H (· =ε ((n:Nat):Int))/\n<18446744073709551616)):
  Fc zQ 57 #[γ sp,x.v] (gS sp c kp mb nx es ck C0) (λv H=>∃e n C',v=(if e=0 then fi 0 (-1) n 0 else fi e (-1) 0 0)/\H=gS sp c kp mb nx es ck C'/\Q e n C'):=by
 refine aJ λg=>AQ λb1 _ b3 _=>?_;refine Ld.f (v:=ε x.a) ?_;rw[hs];refine ah.lss (dh.or (decide (6<(s:Int))) (λ_=>Ld.f (v:=ε x.a) (by rw[hs];exact ah.gtr ⟨rfl,rfl⟩)) rfl λ_=>?_);rw[<-xa6,xan zO];refine Br.no (DR.of (R:=[(b3,.cells #[ε 0,ε 0,χ 0,ε 0] 37 zZ),(b1,.cells (Value.cells x.v) 35 zZ),jz sp c kp mb nx]) (.cons (.cons (.cons λ_ _ h=>h.bA))) (Ld.n (v:=γ kp) (Ld.f (v:=ε x.a) ?_)));rw[hs];refine bu.q (Ld.f (v:=ε x.b) λF=>?_);refine ae.fq (args:=#[γ kp,.int .u8 (s:Int),ε x.b]) hrun ?_;rintro v H ⟨a,b,d,t,e,rfl,n,hQ,fW,hn⟩;refine⟨.cons (.cons (.cons λ_ _ h=>h.bA)),?_⟩;refine Ext.two λb31 _=>λF=>?_;refine St.p (r:=[ε a,ε b,ε d,.bool t]) (pF _ _ _ _) (⟨.skip (.cons (.cons (.cons λ_ _ h=>h.bA))),?_⟩);refine Ld.n (v:=γ kp) (ae.eq (args:=#[γ kp]) fW (bu.q (a:=n) ?_ (xaP hn zD)));refine ae.eq (dW n e _) ?_;by_cases he:e=0
 ·rw[xae he];refine St.p (r:=[ε 0,ε (-1),χ n,ε 0]) (bN _ _ _ _) ?_;refine aB.q ?_;exact aQ.mk (.skip (.skip .tail)) ⟨e,n,H,by rw[xae he],rfl,hQ⟩
 rw[xac he];refine St.p (r:=[ε e,ε (-1),χ 0,ε 0]) (bN _ _ _ _) ?_;refine aB.q ?_;exact aQ.mk (.skip (.skip .tail)) ⟨e,n,H,by rw[xac he],rfl,hQ⟩
end
section
variable {sp nx kp:Nat} {c:Cf} {F:FS} {θ tr:zL} {H C:Hp} {x:dr} {K:Kd} {S:Nat->ax.Fn}
def U9{hs:List (Int×Nat)}(a:Int):jj S (iJ hs a)=iJ (jj S hs) a:=by unfold jj iJ;rw[List.filter_map];rfl
def Wu(h:jX sp c nx F θ tr H):Rd zQ 49 #[γ sp,x.v] H (λw=>w=if fC F x.a&&fC F x.b then fi 0 (-1) (@decide (fF F x.a=fF F x.b) (Classical.propDecidable _)).toNat 0 else fi 3 (-1) 0 0):=by obtain⟨kp,mb,K,S,ai,hs,es,ck,C,rfl,h,rfl⟩:=h;rw[eP,eP,nu];exact Rz h
def W6(h:jX sp c nx F θ tr H):Rd zQ 52 #[γ sp,x.v] H (· =fi 0 (-1) (uu c.n F θ) 0):=by obtain⟨kp,mb,K,S,ai,hs,es,ck,C,rfl,h,rfl⟩:=h;rw[<-h.uu];exact RC h
def Wn(h:jX sp c nx F θ tr H):Rd zQ 51 #[γ sp,x.v] H (· =if fC F x.a then fi 0 (-1) (sz c.n θ (λg=>g=fF F x.a)) 0 else fi 3 (-1) 0 0):=by obtain⟨kp,mb,K,S,ai,hs,es,ck,C,rfl,h,rfl⟩:=h;rw[eP,nu];exact Rx h
def So(h:jX sp c nx F θ tr H):Rd zQ 55 #[γ sp,x.v] H (λw=>((x.a<0\/(c.n:Int)<=x.a)/\w=fi 2 (-1) 0 0)\/((0<=x.a/\x.a<c.n)/\∃p,p<c.n/\θ.getD p 0=x.a.toNat/\w=fi 0 (-1) p 0)):=by
 obtain⟨kp,mb,K,S,ai,hs,es,ck,C,rfl,h,rfl⟩:=h;by_cases hv:x.a<0\/(c.n:Int)<=x.a
 ·exact(Nf h hv).mono λv H ⟨h1,h2⟩=>⟨h1,.inl ⟨hv,h2⟩⟩
 obtain⟨v,hxv⟩:∃v:Nat,x.a=v:=⟨x.a.toNat,by omega⟩;refine(Ng h hxv zO).mono λw H ⟨h1,p,hp,ho,h2⟩=>⟨h1,.inr ⟨by omega,p,hp,?_,h2⟩⟩;rw[hxv,xbe];exact ho
def FV(h:jX sp c nx F θ tr H):Rd zQ 54 #[γ sp,x.v] H (λw=>(fC F x.a=false/\w=fi 3 (-1) 0 0)\/(fC F x.a=true/\∃m,HQ (fF F x.a) m/\w=fi 0 (-1) m 0)):=by
 obtain⟨kp,mb,K,S,ai,hs,es,ck,C,rfl,h,rfl⟩:=h;rw[eP,nu];refine(Dm h (x:=x) (P:=λn e=>e=0/\HQ (ca S hs x.a) n) λr hr=>?_).mono λv H ⟨e,hv⟩=>⟨e,?_⟩
 ·rw[bD hr];exact(EG h.ks (h.live _ (h.find hr))).mono λv H ⟨e,m,hm,hv⟩=>⟨e,m,0,⟨rfl,hm⟩,hv⟩
 rcases hv with h1|⟨h1,n,e,⟨rfl,hn⟩,h2⟩
 ·exact .inl h1
 exact .inr ⟨h1,n,hn,h2⟩
def abu(h:jX sp c nx F θ tr H)(Ed:nx+1<9223372036854775808):Fc zQ 46 #[γ sp,x.v] H (λw H'=>
  (fC F x.a=false/\w=fi 3 (-1) 0 0/\H'=H)\/(fC F x.a=true/\mL (j6 F) (fF F x.a)/\w=fi 8 (-1) 0 0/\H'=H)\/
  (fC F x.a=true/\¬mL (j6 F) (fF F x.a)/\w=fi 0 nx 0 0/\jX sp c (nx+1) (F++[((nx:Int),fF F x.a)]) θ [] H')):=by
 obtain⟨kp,mb,K,S,ai,hs,es,ck,C,rfl,h,rfl⟩:=h;rw[eP,nu,nt];cases hm:aN hs x.a with
 |none=>
  refine Fc.mono (Lf h (x:=x) (.inl hm)) λv H ⟨h1,h2⟩=>.inl ⟨rfl,?_,h1⟩;rw[hm]at h2;exact h2
 |some r=>
  have hl:live K.N r:=h.live _ (h.find hm);have hle:=h.ks.dU r;rw[bD hm];by_cases hf:2<=r/\K.hold r=65535
  ·refine Fc.mono (Lf h (x:=x) (.inr ⟨r,hm,hf.1,hf.2⟩)) λv H ⟨h1,h2⟩=>.inr (.inl ⟨rfl,h.full hf.2 hf.1,?_,h1⟩);rw[hm]at h2;exact h2
  refine(Ws h Ed hm (λh2=>by omega)).mono ?_;rintro v H ⟨rfl,K',τ,bF,C',rfl,h'⟩;refine .inr (.inr ⟨rfl,?_,rfl,kp,mb,K',S,ai,_,τ,bF,C',rfl,h',by unfold jj;rw[xaz];rfl⟩);rintro⟨hv,hc⟩;have h2:=(cy h.ks hl).2 hv;rw[<-h.count hl h2]at hc;omega
def X3(h:jX sp c nx F θ tr H):Fc zQ 47 #[γ sp,x.v] H (λw H'=>(fC F x.a=false/\w=fi 3 (-1) 0 0/\H'=H)\/(fC F x.a=true/\w=fi 0 (-1) 0 0/\jX sp c nx (iJ F x.a) θ [] H')):=by
 obtain⟨kp,mb,K,S,ai,hs,es,ck,C,rfl,h,rfl⟩:=h;rw[eP];cases hm:aN hs x.a with
 |none=>exact Fc.mono (RF h (x:=x) hm) λv H ⟨h1,h2⟩=>.inl ⟨rfl,h2,h1⟩
 |some r=>
  refine(RE h hm).mono ?_;rintro v H ⟨rfl,K',τ,C',rfl,h'⟩;exact .inr ⟨rfl,rfl,kp,mb,K',S,ai,_,τ,ck,C',rfl,h',U9 _⟩
noncomputable def Es(n:Nat)(F:FS)(θ:zL)(l:Nat):Nat:=A2 n θ l (HF (j6 F))
def X7(h:jX sp c nx F θ tr H)(fm:tr.length<17592186044416):Fc zQ 56 #[γ sp,x.v] H (λw H'=>
  ((x.a<0\/(c.n:Int)<=x.a+1)/\w=fi 1 (-1) 0 0/\H'=H)\/(∃l:Nat,x.a=l/\l+1<c.n/\¬Es c.n F θ l+2<=c.cap/\w=fi 9 (-1) 0 0/\H'=H)\/
  (∃l:Nat,x.a=l/\l+1<c.n/\Es c.n F θ l+2<=c.cap/\w=fi 0 (-1) 0 0/\jX sp c nx F (fV θ l) (tr++[l]) H')):=by
 obtain⟨kp,mb,K,S,ai,hs,es,ck,C,rfl,h,rfl⟩:=h;by_cases ha:x.a<0\/(c.n:Int)<=x.a+1
 ·exact Fc.mono (Dv (x:=x) (e:=1) zD (Uh h.ks (l:=x.a) (by rw[h.n];omega))) λv H ⟨h1,h2⟩=>.inl ⟨ha,h2,h1⟩
 obtain⟨l,hl⟩:∃l:Nat,x.a=l:=⟨x.a.toNat,by omega⟩;have yI:l+1<K.n:=by rw[h.n];omega
 have e:Es c.n (jj S hs) θ l=A2 K.n θ l (K.held S):=by unfold Es;rw[h.held,nt,h.n]
 by_cases hf:js K S θ l
 ·refine(RG (x:=x) (Q:=λC'=>At kp K S (fV θ l) (tr++[l]) C') (by rw[hl];exact vy h.ks.bg yI fm hf)).mono ?_;rintro v H ⟨rfl,C',rfl,K',S',bU,de,hk⟩;obtain⟨h',hS⟩:=h.kept de hk;exact .inr (.inr ⟨l,hl,by omega,by rw[e,<-h.cap];exact hf,rfl,kp,mb,K',S',bU,hs,es,ck,C',rfl,h',j8 hS⟩)
 refine Fc.mono (Dv (x:=x) (e:=9) zD (by rw[hl];exact nA h.ks.bg yI fm hf)) λv H ⟨h1,h2⟩=>.inr (.inl ⟨l,hl,by omega,?_,h2,h1⟩);rw[e,<-h.cap];exact hf
def v5(h:jX sp c nx F θ tr H)(ha:x.a<0\/6<x.a):Rd zQ 57 #[γ sp,x.v] H (· =fi 1 (-1) 0 0):=by obtain⟨kp,mb,K,S,ai,hs,es,ck,C,rfl,h,rfl⟩:=h;exact Bc ha
def abD(h:At kp K S θ tr C){s:Nat}{gr:Int}(hb:6<s\/gr<100\/1000<gr):Rd zQ 77 #[γ kp,.int .u8 (s:Int),ε gr] C (· =ε 1):=by refine aJ λg=>AP (ah.aK (Br.no (ah.nV (b:=6) (dh.or (a:=decide (6<s)) (decide (gr<100)) (λ_=>ah.lss ⟨rfl,rfl⟩) rfl λ_=>?_))));refine dh.or (a:=decide (6<s)||decide (gr<100)) (decide (1000<gr)) (λ_=>ah.gtr ⟨rfl,rfl⟩) rfl λ_=>?_;rw[<-xa6,<-xa6,xam zO];exact Br.yes (br.mk (.refl _) rfl)
theorem RS(h:At kp K S θ tr C){s:Nat}{gr:Int}(hb:6<s\/gr<100\/1000<gr):Rd zQ 45 #[γ kp,.int .u8 (s:Int),ε gr] C (· =.tuple #[uK 0 0 0 false,ε 1]):=by
 refine aJ λg=>iS λb1 _=>?_;refine ae.eq (abD h hb) (ah.cM (Br.T (Build.mk (cs:=[iv 0,iv 0,iv 0,.bool false]) zK (St.q ?_))));refine aB.q ?_;exact br.mk .tail rfl
def vZ(h:jX sp c nx F θ tr H){s:Nat}(hs:x.a=s)(hs6:s<=6)(hb:x.b<100\/1000<x.b):Fc zQ 57 #[γ sp,x.v] H (λw H'=>w=fi 1 (-1) 0 0/\H'=H):=by
 obtain⟨kp,mb,K,S,ai,μ,es,ck,C,rfl,h,rfl⟩:=h;have hle:=gB h.ks.bg;refine(oa (x:=x) hs hs6 (Q:=λe _ H=>e=1/\H=C) (Fc.mono (RS h.ks.bg (s:=s) (.inr hb)) λv H ⟨h1,h2⟩=>?_)).mono ?_
 ·subst h1;exact⟨_,_,_,_,_,h2,_,⟨rfl,rfl⟩,cI h.ks.bg,by omega⟩
 rintro v H ⟨e,n,C',rfl,rfl,rfl,rfl⟩;exact⟨rfl,rfl⟩
end
def g0:ax.Fn:=λy=>y.testBit 0
def g1:ax.Fn:=λy=>y.testBit 1
def g2:ax.Fn:=λy=>y.testBit 0&&y.testBit 1
def g3:ax.Fn:=λy=> !g2 y
def g4:ax.Fn:=λ_=>decide ((0:Int)=1)
section
variable {sp nx kp:Nat} {c:Cf} {F F':FS} {θ tr:zL} {H C:Hp} {x:dr} {K:Kd} {S:Nat->ax.Fn}
def Su(h:jX sp c nx F θ tr H):Rd zQ 53 #[γ sp,x.v] H (λw=>(fC F x.a=false/\w=fi 3 (-1) 0 0)\/(fC F x.a=true/\fF F x.a=(λ_=>false)/\w=fi 10 (-1) 0 0)\/
  (fC F x.a=true/\fF F x.a≠(λ_=>false)/\∃V,V<18446744073709551616/\ZF c.n (fF F x.a) V/\w=fi 0 (-1) V 0)):=by
 obtain⟨kp,mb,K,S,ai,hs,es,ck,C,rfl,h,rfl⟩:=h;rw[eP,nu];refine(Nh h (x:=x) (P:=λn e=>(ca S hs x.a=(λ_=>false)/\n=0/\e=10)\/(ca S hs x.a≠(λ_=>false)/\e=0/\n<18446744073709551616/\ZF c.n (ca S hs x.a) n)) λr hr=>?_).mono λv H ⟨e,hv⟩=>⟨e,?_⟩
 ·rw[bD hr];have hl:=h.live _ (h.find hr);have adq:S r=(λ_=>false)↔r=0:=by
   rw[<-show S 0=λ_=>false from funext h.ks.ok.mid.int.zero];exact h.same hl (.inl zD)
  by_cases h0:r=0
  ·subst h0;exact(ND h.ks).mono λv H ⟨e,hv⟩=>⟨e,0,10,.inl ⟨adq.2 rfl,rfl,rfl⟩,hv⟩
  refine(NC h.ks hl h0).mono λv H ⟨e,V,hV,hL,hv⟩=>⟨e,V,0,.inr ⟨λe=>h0 (adq.1 e),rfl,hV,by rw[<-h.n];exact hL⟩,hv⟩
 rcases hv with h1|⟨h1,n,e,⟨a,rfl,rfl⟩|⟨a,rfl,hV,hL⟩,h2⟩
 ·exact .inl h1
 ·exact .inr (.inl ⟨h1,a,h2⟩)
 exact .inr (.inr ⟨h1,a,n,hV,hL,h2⟩)
def YD(n:Nat)(F:FS)(x:dr)(e:Int)(N:Nat):Prop:=
 (x.op=14\/x.op=15\/x.op=16\/x.op=19\/x.op=20)->
 if(fC F x.a&& (decide (x.op≠15)||fC F x.b))=true then
  (x.op=14->e=0/\N=(fF F x.a x.x).toNat)/\(x.op=15->e=0/\N=(@decide (fF F x.a=fF F x.b) (Classical.propDecidable _)).toNat)/\(x.op=16->e=0/\N=sat n (fF F x.a)%Ch)/\
  (x.op=19->(fF F x.a=(λ_=>false)/\e=10/\N=0)\/(fF F x.a≠(λ_=>false)/\e=0/\ZF n (fF F x.a) N))/\(x.op=20->e=0/\HQ (fF F x.a) N)
 else e=3/\N=0
end
noncomputable def rmF(n cap:Nat)(P:ax.Fn->Prop):Rm:=⟨n,λo=>sz n o P,λo l=> @decide (A2 n o l P+2<=cap) (Nat.decLe _ _)⟩
variable{S:Nat->ax.Fn}
def Z4{K:Kd}:rm K S=rmF K.n K.cap (K.held S):=rfl
def Ve(c:Cf)(F:FS)(s gr:Nat)(o ls:zL)(k:Nat)(d:Bool):Prop:=Fe (rmF c.n c.cap (HF (j6 F))) (HF (j6 F)) o s gr ls k d
def RunT(c:Cf)(F:FS)(o ls:zL):Prop:=(∃k d,Ve c F c.str c.gr o ls k d)/\Fits (aE c.n (aA o ls) (HF (j6 F))) c.cap
section
variable {sp nx:Nat} {c:Cf} {F:FS} {θ tr:zL} {H:Hp} {x:dr}
def gP.rm{kp:Nat}{K:Kd}{ai:zL}{hs:List (Int×Nat)}{es:Array MapEntry}{ck:Nat}{C:Hp}(h:gP kp nx c K S θ ai tr hs es ck C):Proofs.rm K S=rmF c.n c.cap (HF (j6 (jj S hs)))/\K.held S=HF (j6 (jj S hs)):=by rw[Z4,h.held,nt,h.n,h.cap];exact⟨rfl,rfl⟩
def gP.K7{kp:Nat}{K:Kd}{ai:zL}{hs:List (Int×Nat)}{es:Array MapEntry}{ck:Nat}{C:Hp}(h:gP kp nx c K S θ ai tr hs es ck C):Fits (aE c.n θ (HF (j6 (jj S hs)))) c.cap:=by
 have:=h.by.fits h.ks
 rwa [h.n,h.cap,<-nt]at this
def jX.fits(h:jX sp c nx F θ tr H):Fits (aE c.n θ (HF (j6 F))) c.cap:=by obtain⟨kp,mb,K,S,ai,hs,es,ck,C,rfl,h,rfl⟩:=h;exact h.K7
def WK{o:zL}{e e':Nat}(h0:Fits (aE c.n o (HF (j6 F))) c.cap)(h:nR c.n c.cap (j6 F) (fF F) x o e)(h':nR c.n c.cap (j6 F) (fF F) x o e'):e=e':=by
 unfold nR at h h';split at h<;>rename_i h9
 ·rw[xae h9]at h';exact ED h0 h h'
 rw[xac h9]at h';split at h<;>rename_i h10
 ·rw[xae h10]at h';exact ED h0 h h'
 rw[xac h10]at h';split at h<;>rename_i XW
 ·rw[xae XW]at h';exact Uz h0 h h'
 rw[xac XW]at h';exact Yk h0 h h'
def fk.fits{T:zL->Nat->Prop}{t:Nat}{p:zL}(h0:Fits (aE c.n θ (HF (j6 F))) c.cap)(h:fk T (RunT c F) θ t p):Fits (aE c.n p (HF (j6 F))) c.cap:=by
 cases h with
 |one=>exact h0
 |more _ _ h=>exact h.2
def RN{b:Nat}{T:zL->Nat->Prop}(hc:c.Ok)(hb:b<16000000000000):Vd c nx F T (RunT c F) b:=by intro kp K S o ai tr μ es ck C hT h hF fm;refine(DB h.ks.bg h.ks.perm hc.str hc.gr (λe=>by rw[h.n];exact hc.ex e) zO).mono ?_;rintro v H ⟨ls,d,t,rfl,hA,hS,_,_,hD⟩;obtain⟨e1,e2⟩:=h.rm;rw[e1,e2,hF]at hD;refine⟨ls,_,_,rfl,⟨⟨d,t,hD⟩,?_⟩,hA,hS.len⟩;obtain⟨K',S',bU,de,hk⟩:=hA;obtain⟨h',pQ⟩:=h.kept de hk;have:=h'.K7;rwa [j8 pQ,hF]at this
end
section
variable {sp nx kp:Nat} {c:Cf} {F F':FS} {θ tr:zL} {H C:Hp} {x:dr}
def US{op f:Nat}(hm:nB op=some f):op=12\/op=13\/op=14\/op=15\/op=16\/op=17\/op=18\/op=19\/op=20\/op=21\/op=22\/op=23:=by refine xaD λhn=>?_;unfold nB at hm;rw[xac zO,xac zO,xac zO,xac zO,xac zO,xac zO,xac zO,xac zO,xac zO,xac zO,xac zO,xac zO]at hm;cases hm
end
section
variable {sp nx:Nat} {c:Cf} {F:FS} {θ tr:zL} {H:Hp} {x:dr}
def yX(x:dr):Prop:=(x.a<0\/6<x.a)\/x.b<100\/1000<x.b
def Nx(h:jX sp c nx F θ tr H)(fm:tr.length<16000000000000):Fc zQ 57 #[γ sp,x.v] H (λw H'=>
  (yX x/\w=fi 1 (-1) 0 0/\H'=H)\/(¬yX x/\(x.a=6/\12<c.n)/\w=fi 6 (-1) 0 0/\jX sp c nx F θ tr H')\/
  (¬yX x/\¬(x.a=6/\12<c.n)/\∃ls k d,Ve c F x.a.toNat x.b.toNat θ ls k d/\w=fi 0 (-1) (uu c.n F (aA θ ls)) 0/\jX sp c nx F (aA θ ls) (tr++ls) H'/\ls.length+66*uu c.n F (aA θ ls)<=66*uu c.n F θ)):=by
 by_cases ha:x.a<0\/6<x.a
 ·exact Fc.mono (v5 h ha) λv H ⟨h1,h2⟩=>.inl ⟨.inl ha,h2,h1⟩
 obtain⟨s,hs⟩:∃s:Nat,x.a=s:=⟨x.a.toNat,by omega⟩;have hs6:s<=6:=by omega
 by_cases hb:x.b<100\/1000<x.b
 ·exact(vZ h hs hs6 hb).mono λv H ⟨h1,h2⟩=>.inl ⟨.inr hb,h1,h2⟩
 have hnb:¬yX x:=λh=>h.elim ha hb;obtain⟨g,hg⟩:∃g:Nat,x.b=g:=⟨x.b.toNat,by omega⟩;obtain⟨kp,mb,K,S,ai,μ,es,ck,C,rfl,h,rfl⟩:=h;have hle:=λ(o:zL) (tr:zL) (C:Hp) (h:At kp K S o tr C)=>gB h;have keep:∀(o cC:zL) (C':Hp),At kp K S o cC C'->jX sp c nx (jj S μ) o cC (gS sp c kp mb nx es ck C'):=λo cC C' hA=>by
  obtain⟨K',S',bU,de,hk⟩:=hA;obtain⟨h',hS⟩:=h.kept de hk;exact⟨kp,mb,K',S',bU,μ,es,ck,C',rfl,h',j8 hS⟩
 by_cases hx:s=6/\12<c.n
 ·obtain⟨rfl,hn⟩:=hx;have hv:Rd zQ 45 #[γ kp,.int .u8 6,ε x.b] C (· =.tuple #[uK 0 0 0 false,iv 6]):=by rw[hg];exact RO h.ks.bg (gr:=g) zO (by rw[h.n];exact hn)
  refine(oa (x:=x) hs hs6 (Q:=λe _ H=>e=6/\H=C) (Fc.mono hv λv H ⟨h1,h2⟩=>?_)).mono ?_
  ·subst h1;exact⟨_,_,_,_,_,h2,_,⟨rfl,rfl⟩,cI h.ks.bg,by have:=hle _ _ _ h.ks.bg;omega⟩
  rintro v H ⟨e,n,C',rfl,rfl,rfl,rfl⟩;exact .inr (.inl ⟨hnb,⟨by omega,hn⟩,rfl,keep _ _ _ h.ks.bg⟩)
 refine(oa (x:=x) hs hs6 (Q:=λe n H=>e=0/\∃ls k d,n=cK K S (aA θ ls)/\At kp K S (aA θ ls) (tr++ls) H/\ls.length+66*cK K S (aA θ ls)<=66*cK K S θ/\Fe (Proofs.rm K S) (K.held S) θ s g ls k d) (Fc.mono (by rw[hg];exact DB h.ks.bg h.ks.perm hs6 (gr:=g) zO (λe=>by rw[h.n];omega) zO) ?_)).mono ?_
 ·rintro v H ⟨ls,d,t,rfl,hA,hS,_,_,hD⟩;exact⟨_,_,_,_,_,rfl,_,⟨rfl,ls,_,_,rfl,hA,hS.len,hD⟩,cI hA,by have:=hle _ _ _ hA;omega⟩
 rintro v H ⟨e,n,C',rfl,rfl,rfl,ls,k,d,rfl,hA,Ξ,hD⟩;obtain⟨e1,e2⟩:=h.rm;rw[e1,e2]at hD;rw[h.uu,h.uu]at Ξ;refine .inr (.inr ⟨hnb,by omega,ls,k,d,?_,?_,keep _ _ _ hA,Ξ⟩)
 ·unfold Ve;rw[show x.a.toNat=s by omega,show x.b.toNat=g by omega];exact hD
 rw[xae rfl,h.uu]
def Cg(c:Cf)(nx:Nat)(F:FS)(θ:zL)(x:dr)(r:Rp)(F':FS)(q5:Nat)(o:zL):Prop:=
 match fP x.op with
 |some (w,_)=>if mu c.n F w x=0 then∃t e:Nat,t<=c.rs+1/\fk (nR c.n c.cap (j6 F) (fF F) x) (RunT c F) θ t o/\nR c.n c.cap (j6 F) (fF F) x o e/\(e=9->t=c.rs+1)/\
   ((e=0/\r=⟨0,nx,0,t⟩/\F'=F++[((nx:Int),dQ c.n (fF F) x)]/\q5=nx+1)\/(e≠0/\r=⟨e, -1,0,t⟩/\F'=F/\q5=nx))
  else r=⟨mu c.n F w x, -1,0,0⟩/\F'=F/\q5=nx/\o=θ
 |none=>
  if x.op=12 then o=θ/\if fC F x.a=true then(mL (j6 F) (fF F x.a)/\r=⟨8, -1,0,0⟩/\F'=F/\q5=nx)\/(¬mL (j6 F) (fF F x.a)/\r=⟨0,nx,0,0⟩/\F'=F++[((nx:Int),fF F x.a)]/\q5=nx+1)else r=⟨3, -1,0,0⟩/\F'=F/\q5=nx
  else if x.op=13 then o=θ/\q5=nx/\if fC F x.a=true then r=⟨0, -1,0,0⟩/\F'=iJ F x.a else r=⟨3, -1,0,0⟩/\F'=F
  else F'=F/\q5=nx/\
   if x.op=22 then if x.a<0\/(c.n:Int)<=x.a+1 then r=⟨1, -1,0,0⟩/\o=θ else(Es c.n F θ x.a.toNat+2<=c.cap/\r=⟨0, -1,0,0⟩/\o=fV θ x.a.toNat)\/(¬Es c.n F θ x.a.toNat+2<=c.cap/\r=⟨9, -1,0,0⟩/\o=θ)
   else if x.op=23 then(yX x/\r=⟨1, -1,0,0⟩/\o=θ)\/(¬yX x/\(x.a=6/\12<c.n)/\r=⟨6, -1,0,0⟩/\o=θ)\/(¬yX x/\¬(x.a=6/\12<c.n)/\∃ls k d,Ve c F x.a.toNat x.b.toNat θ ls k d/\r=⟨0, -1,(uu c.n F (aA θ ls):Nat),0⟩/\o=aA θ ls)
   else o=θ/\∃(e:Int) (N:Nat),r=⟨e, -1,N,0⟩/\YD c.n F x e N/\
    (x.op=17->(fC F x.a=true/\e=0/\N=sz c.n θ (λg=>g=fF F x.a))\/(fC F x.a=false/\e=3/\N=0))/\
    (x.op=18->e=0/\N=uu c.n F θ)/\
    (x.op=21->((x.a<0\/(c.n:Int)<=x.a)/\e=2/\N=0)\/((0<=x.a/\x.a<c.n)/\e=0/\N<c.n/\θ.getD N 0=x.a.toNat))/\
    ((x.op=0\/23<x.op)->e=12/\N=0)
end
end
end Go.Proofs
