import Derived.Test.YtgeffephefcdiaaGreatW4
import Derived.Test.YtgeffephefcdiaaGreatW3
import Derived.Test.YtgeffephefcdiaaGreatW2
import Derived.Test.YtgeffephefcdiaaGreatW1
import Derived.Laws.StructEq
import Derived.ChangeKeysEq
set_option linter.unusedVariables false
set_option linter.unusedSimpArgs false
set_option linter.unusedSectionVars false
set_option maxRecDepth 100000
namespace Go.Proofs
open Go Go.Sx Tryz
section
open aA TK
theorem Mu{pt n v:Nat}{T:Nd->Option Nat}{C:Hp}(h:og pt n T C)(hv:v<n):
  Rd zQ 331 #[ptr pt,iv (v:Int)] C (λr=>∃l:List (Nd×Nat),(l.map Prod.fst).Nodup/\(∀d r,(d,r)∈l↔T d=some r/\d.v=v)/\r=.tuple #[iv ((l.length:Nat):Int),iv 0]):=by
 have h0:=h;obtain⟨vs,Cs,ms,rfl,hs,ho⟩:=h;obtain⟨m,hm⟩:∃m,ms[v]? =some m:=⟨_,xaa (by rw[ho.len];exact hv)⟩;have he:=ho.dL v m hm;have hT:∀d:Nd,d.v=v->T d=aJ m.l d:=λd hd=>by rw[ho.T,hd,hm];rfl
 have hmem:∀d r,(d,r)∈m.l↔T d=some r/\d.v=v:=λd r=>by
  constructor
  ·intro hx;have hd:=ho.var v m hm _ hx;exact⟨by rw[hT d hd];exact(dW he.nd).2 hx,hd⟩
  rintro⟨h1,h2⟩;rw[hT d h2]at h1;exact(dW he.nd).1 h1
 refine aF λg=>HY (aa.eq (k8 h0 hv) (ae.cD (Br.F (Nil.ptr ?_))));refine ai.mk (Ld.mk zM rfl ?_);refine hs.Xd (x:=.map (some m.b)) (by rw[xau,hm];rfl) (λ_ h=>by exact .tail _ (xae _ h)) ?_;refine he.Q0 (b:=m.b) (by exact .tail _ (xab _ (ri hm))) ?_;exact aZ.mk (.refl _) ⟨m.l,he.nd,hmem,rfl⟩
section
variable {kp v gr:Nat} {K:Kd} {S:Nat->aA.Fn} {ord tr:zL} {C:Hp}
theorem No{ah:zL}(h:cT kp K ord ah tr C)(hv:v<K.n):Rd zQ 262 #[ptr kp,iv (v:Int)] C (λr=>∃l:List (Nd×Nat),(l.map Prod.fst).Nodup/\(∀d r,(d,r)∈l↔K.T d=some r/\d.v=v)/\r=.tuple #[iv ((l.length:Nat):Int),iv 0]):=by
 have h0:=h;obtain⟨b,rfl,hO⟩:=h;refine aF λg=>IW (ae.aH (Br.no (aa.eq (rA h0 (v:Int)) ?_)));rw[xal zO];refine Un.not (Br.no (Nil.ptr (ai.mk (Ld.f ?_))));refine aa.rq (Mu hO.ut hv) ?_;rintro r ⟨l,h1,h2,rfl⟩;exact Ext.mk rfl (Ext.mk rfl (aZ.mk (.refl _) ⟨l,h1,h2,rfl⟩))
theorem Ti(h:At kp K S ord tr C)(hv:v<K.n):Rd zQ 262 #[ptr kp,iv (v:Int)] C (λr=>∃w:Nat,r=.tuple #[iv (w:Int),iv 0]):=by
 obtain⟨K',S',bW,h,hk⟩:=h;exact(No h.rep (by rw[hk.n];exact hv)).mono λr H ⟨e,l,_,_,h3⟩=>⟨e,_,h3⟩
theorem VQ{h:zV}{l:List It}{C:Hp}(hi:WU h l C):Rd zQ 264 #[h] C (· =iv ((l.length:Nat):Int)):=by
 obtain⟨f,⟨bh,sv,mv,Cs,Cm,rfl,rfl,hs,hm,hne⟩,_⟩:=hi;refine aF λg=>IU (ae.aH (Br.no (Ld.n ?_)));refine hs.bP ?_;rw[cS];exact aZ.mk (.refl _) rfl
def sln:List zV->Nat
 | .slice _ n _::_=>n
 |_=>0
theorem Qy(h:At kp K S ord tr C):Fc zQ 187 #[ptr kp] C (λr H=>∃N l,H=N++C/\l.Perm (List.range K.n)/\aN 3 .i64 r (iw l) N):=by
 have hn:=h.lz;refine aF λg=>JC (ae.aH (Br.no (aa.fq (VM C) ?_)));rintro w H ⟨bh,C0,rfl,rfl,F9⟩;refine aa.eq (mX h) (⟨λvs H=>∃(i:Nat) (l:List It) (C':Hp),vs=[iv (i:Int)]/\i<=K.n/\H=C'++C/\WU (.pointer (some ⟨bh,0,none⟩)) l C'/\(l.map Prod.fst).Perm (iw (List.range i)),λvs _=>K.n-bL vs 0,JE.mk ⟨0,[],C0,rfl,xaN _,rfl,F9,.refl _⟩,?_⟩);rintro w H ⟨i,l,C',⟨⟩,hi,rfl,hh,hp⟩ gs;have ng:l.length=i:=by have:=hp.length_eq;simpa[iw]using this
 refine ae.fk (Br.dec (λhlt=>?_) (λhge=>?_))
 ·refine aa.rq (Ti h hlt) ?_;rintro r ⟨w,rfl⟩;refine Ext.two (⟨_,rfl,?_⟩);refine aa.fq (RC hh zO _ _) ?_;rintro r C2 ⟨l2,hh2,⟨hin,_⟩|⟨_,rfl,dc⟩⟩
  ·exfalso;have:=hp.mem_iff.1 hin;rw[QW,xaM]at this;omega
  refine ae.inc (aC.mk ⟨i+1,l2,C2,rfl,hlt,rfl,hh2,?_⟩ (by simp only[bL];omega));refine(dc.map _).trans ?_;rw[xaB,xb6,bY];exact(List.Perm.cons _ hp).trans (xbe (l₁:=[((i:Nat):Int)]))
 obtain rfl:i=K.n:=by omega
 refine⟨λvs H=>∃(s:zV) (done:zL) (l:List It) (CS C':Hp),vs=[s]/\H=CS++(C'++C)/\WU (.pointer (some ⟨bh,0,none⟩)) l C'/\aN 3 .i64 s (iw done) CS/\(iw done++l.map Prod.fst).Perm (iw (List.range K.n)),λvs _=>K.n-sln vs,JE.mk ⟨_,[],l,[],C',rfl,rfl,hh,aN.nil,hp⟩,?_⟩;clear hp hh ng;rintro w H ⟨s,done,l,CS,C',⟨⟩,rfl,hh,hs,hp⟩ gs;have hlen:done.length+l.length=K.n:=by have:=hp.length_eq;simpa[iw]using this
 refine aa.eq (VQ hh) (ae.nh (b:=0) (Br.dec (λhlt=>?_) (λhge=>?_)))
 ·refine aa.fq (VK hh zO) ?_;rintro r C2 ⟨l2,hh2,⟨rfl,_⟩|⟨a,dc,_,rfl⟩⟩
  ·simp at hlt
  have ha:a.1∈iw (List.range K.n):=hp.mem_iff.1 (xab _ (xaT (dc.mem_iff.2 (.head _))));obtain⟨x,hx,hxa⟩:=xan.1 ha;refine Ext.mk rfl (Ext.mk rfl (Ext.mk rfl ?_));rw[<-hxa];refine az.int (e:=3) zK zK zK λbx=>?_;refine hs.rX (x:=(x:Int)) (.cons .left) (by exact .head _) (by rw[ak];omega) (by rw[ak];omega) λs2 CS2 sM=>?_;have kT:(iw (done++[x])++l2.map Prod.fst).Perm (iw (List.range K.n)):=by
   refine .trans ?_ hp;rw[bY,xaj];refine xbZ _ ?_;refine .trans ?_ (dc.map _).symm;rw[xaB,<-hxa];exact .refl _
  have e1:∀{s:zV} {done:zL} {CS:Hp},aN 3 .i64 s (iw done) CS->sln [s]=done.length:=λ{s done CS} h=>by
   obtain⟨a,c,h⟩:=bg.len h;rw[h];simp[sln,iw]
  refine aC.of .tail ⟨s2,done++[x],l2,CS2,C2,rfl,rfl,hh2,by rw[bY];exact sM,kT⟩ ?_;rw[e1 (done:=done++[x]) (by rw[bY];exact sM),e1 hs,xaf,xbP];have:=dc.length_eq;rw[xaH]at this;omega
 have hl0:l=[]:=xda.1 zO;subst hl0;rw[xck,xaL]at hp;obtain⟨l',hl',e⟩:=UY hp;rw[e]at hs;exact aM.mk (aL.cU .right CS) ⟨CS,l',rfl,hl',hs⟩
theorem Cp(h:At kp K S ord tr C)(hp:ord.Perm (List.range K.n))(lZ:100<=gr/\gr<=1000)(eG:tr.length<17317308137472):
  Fc zQ 135 #[ptr kp,iv (gr:Int)] C (λv H=>∃l,l.Perm (List.range K.n)/\v=.tuple #[rep (cG K S ord) (cG K S (ay ord ((rm K S).ct gr ord l).1)) ((rm K S).ct gr ord l).2,iv 0]/\At kp K S (ay ord ((rm K S).ct gr ord l).1) (tr++((rm K S).ct gr ord l).1) H):=by
 have hn:=h.lz;have v7:(rm K S).n=K.n:=rfl;refine aF λg=>J4 λb1 _=>?_;refine aa.eq (pZ kp (gr:=(gr:Int)) C) ?_;rw[xac zO];refine ae.cD (Br.F (aa.eq (cF h) (Build.mk (cs:=[iv ((cG K S ord:Nat):Int),iv 0,iv 0,.bool false]) zK λT5 _=>?_)));refine St.q ?_;refine aa.fq (Qy h) ?_;rintro s H ⟨NQ,l,rfl,hl,hQ⟩;have ng:l.length=K.n:=by rw[hl.length_eq,xaz]
 refine hQ.bP ?_;rw[ak,ng];refine⟨λvs H=>∃(i:Nat) (C':Hp),vs=[iv (i:Int)]/\i<=K.n/\H=(T5,.cells (List.toArray [iv ((cG K S ord:Nat):Int),iv 0,iv ((((rm K S).ct gr ord (l.take i)).2:Nat):Int),.bool false]) 147 zZ)::(b1,.cells #[iv 0,iv 0,iv 0,.bool false] 147 zZ)::(NQ++C')/\At kp K S (ay ord ((rm K S).ct gr ord (l.take i)).1) (tr++((rm K S).ct gr ord (l.take i)).1) C',
  λvs _=>K.n-bL vs 0,JE.mk ⟨0,C,rfl,xaN _,rfl,by simpa[Rm.ct,ay]using h⟩,?_⟩
 rintro w H ⟨i,C',⟨⟩,hi,rfl,hA⟩ gs;have hok:=mF (m:=rm K S) (g:=gr) (l:=l.take i) hp (λv hv=>xaM.1 (hl.mem_iff.1 (xcC hv)));have hlt:(l.take i).length<=64:=by rw[xbz];omega
 have h1:=hok.len;have h2:=hok.uT;have h3:(rm K S).n*(l.take i).length<=64*64:=xcb hn hlt;have h4:3*((rm K S).n-1)*(l.take i).length<=(3*64)*64:=xcb (xc8 _ (by rw[v7];omega)) hlt;have Y7:=mD hp hok.mem;refine ae.fk (Br.dec (λhlt=>?_) (λhge=>?_))
 ·have RN:i<l.length:=by omega
  have nv:l.take (i+1)=l.take i++[l[i]]:=xa9 RN;refine hQ.ld (x:=((l[i]:Nat):Int)) (cQ (xaa RN)) (λ_ h=>.tail _ (.tail _ (xae _ h))) ?_;have FZ:l[i]<K.n:=xaM.1 (hl.mem_iff.1 (xaF RN));refine aa.fq (UB hA Y7 FZ lZ (by rw[xaf];omega) rfl) ?_;rintro w C2 ⟨rfl,nX⟩;have uA:=(rm K S).AI gr (ord:=ay ord ((rm K S).ct gr ord (l.take i)).1) (FV Y7 FZ);have BH:=uA.uT;rw[v7]at BH;have VH:=yE (m:=rm K S) (g:=gr) (v:=l[i]) (l:=l.take i) (ord:=ord);rw[<-nv]at VH;rw[xaj,<-cr]at nX;refine Ext.two λb30 _=>(St.q ?_);refine Ld.f ?_;refine Ld.f ?_;refine ae.eZ (ai.mk (St.one (c':=List.toArray [iv ((cG K S ord:Nat):Int),iv 0,iv ((((rm K S).ct gr ord (l.take (i+1))).2:Nat):Int),.bool false]) (by exact .tail (.head _)) rfl zI (by rw[VH];rfl) ?_));exact ae.inc (aC.of .tail ⟨i+1,C2,rfl,hlt,rfl,by rw[VH];exact nX⟩ (by simp only[bL];omega))
 obtain rfl:i=K.n:=by omega
 rw[show l.take K.n=l from by rw[<-ng];exact xbl]at hA⊢;refine aa.eq (cF hA) (ai.mk (St.one (c':=List.toArray [iv ((cG K S ord:Nat):Int),iv ((cG K S (ay ord ((rm K S).ct gr ord l).1):Nat):Int),iv ((((rm K S).ct gr ord l).2:Nat):Int),.bool false]) (by exact .head _) rfl zI rfl ?_));refine ax.q ?_;refine St.q ?_;refine ax.q ?_;exact aM.mk (.skip (.skip .right)) ⟨l,hl,rfl,hA⟩
end
end
section
open aA
section
variable {kp v gr:Nat} {K:Kd} {S:Nat->aA.Fn} {ord tr:zL} {C:Hp}
theorem Cd(h:At kp K S ord tr C)(hp:ord.Perm (List.range K.n))(lZ:100<=gr/\gr<=1000)(eG:tr.length<17042430230528):
  Fc zQ 136 #[ptr kp,iv (gr:Int)] C (λv H=>∃ls,(∀l∈ls,l.Perm (List.range K.n))/\(rm K S).tH gr ord ls/\v=.tuple #[rep (cG K S ord) (cG K S (ay ord ((rm K S).df gr ord ls).1)) ((rm K S).df gr ord ls).2,iv ((ls.length:Nat):Int),iv 0]/\At kp K S (ay ord ((rm K S).df gr ord ls).1) (tr++((rm K S).df gr ord ls).1) H):=by
 have hn:=h.lz;have hsz:=iF h;have v7:(rm K S).n=K.n:=rfl;have BI:∀o,(rm K S).size o=cG K S o:=λ_=>rfl;refine aF λg=>J0 λb1 _=>?_;refine aa.eq (pZ kp (gr:=(gr:Int)) C) ?_;rw[xac zO];refine ae.cD (Br.F (aa.eq (cF h) (Build.mk (cs:=[iv ((cG K S ord:Nat):Int),iv 0,iv 0,.bool false]) zK λT5 _=>?_)));refine St.q ?_;refine⟨λvs H=>∃(ls:List (zL)) (af:Int) (C':Hp),vs=[iv ((ls.length+1:Nat):Int)]/\(∀l∈ls,l.Perm (List.range K.n))/\(rm K S).sU gr ord ls/\H=(T5,.cells (List.toArray [iv ((cG K S ord:Nat):Int),iv af,iv ((((rm K S).df gr ord ls).2:Nat):Int),.bool false]) 147 zZ)::(b1,.cells #[iv 0,iv 0,iv 0,.bool false] 147 zZ)::C'/\At kp K S (ay ord ((rm K S).df gr ord ls).1) (tr++((rm K S).df gr ord ls).1) C',
  λvs _=>cG K S ord+1-bL vs 0,JE.mk ⟨[],0,C,rfl,by simp,trivial,rfl,by simpa[Rm.df,ay]using h⟩,?_⟩
 rintro w H ⟨ls,af,C',⟨⟩,hls,hgd,rfl,hA⟩ gs;obtain⟨g1,g2,g3,g4⟩:=zk hp hls hgd;rw[v7]at g1 g3 g4;rw[BI,BI]at g2;have ng:ls.length<=1048576:=by omega
 have h3:3*(K.n-1)*K.n*ls.length<=(3*64*64)*1048576:=xcb (xcb (xc8 _ zO) hn) ng;have h4:K.n*K.n*ls.length<=(64*64)*1048576:=xcb (xcb hn hn) ng;have Y7:=mD hp g1;refine aa.fq (Cp hA Y7 lZ (by rw[xaf];omega)) ?_;rintro w C2 ⟨l,hl,rfl,nX⟩;have hok:=mF (m:=rm K S) (g:=gr) (l:=l) Y7 (λv hv=>xaM.1 (hl.mem_iff.1 hv));have BH:=hok.uT;have hlen:l.length=K.n:=by rw[hl.length_eq,xaz]
 have hle:=hok.le;rw[v7,hlen]at BH;rw[BI,BI]at hle;have h5:3*(K.n-1)*K.n<=3*64*64:=xcb (xc8 _ zO) hn;have VH:=yF (m:=rm K S) (g:=gr) (l:=l) (ls:=ls) (ord:=ord);have RF:∀x∈ls++[l],x.Perm (List.range K.n):=λx hx=>by
  rcases xao.1 hx with h|h
  ·exact hls x h
  rw[xaI.1 h];exact hl
 rw[xaj,<-cr]at nX;have Ln:=tI (m:=rm K S) (g:=gr) (l:=l) hgd;have hge:=DK (m:=rm K S) (g:=gr) (l:=l) hgd;rw[BI,BI]at Ln hge;generalize hx:(rm K S).ct gr (ay ord ((rm K S).df gr ord ls).1) l=x at*;have e1:ay (ay ord ((rm K S).df gr ord ls).1) x.1=ay ord ((rm K S).df gr ord (ls++[l])).1:=by rw[VH,cr]
 rw[e1]at Ln hge hle;refine Ext.two λb24 _=>(St.q ?_);refine Ld.f ?_;refine Ld.f ?_;refine ae.eZ (ai.mk (St.one (c':=List.toArray [iv ((cG K S ord:Nat):Int),iv af,iv ((((rm K S).df gr ord (ls++[l])).2:Nat):Int),.bool false]) (by exact .tail (.head _)) rfl zI (by rw[VH];rfl) ?_));refine Ld.f ?_;refine ai.mk (St.one (c':=List.toArray [iv ((cG K S ord:Nat):Int),iv ((cG K S (ay ord ((rm K S).df gr ord (ls++[l])).1):Nat):Int),iv ((((rm K S).df gr ord (ls++[l])).2:Nat):Int),.bool false]) (by exact .tail (.head _)) rfl zI (by rw[<-e1];rfl) ?_);refine Ld.f ?_;refine Ld.f ?_;rw[e1];refine ae.qM (Br.dec (λakZ=>?_) (λhlt=>?_))
 ·refine ax.q ?_;refine St.q ?_;refine ax.q ?_;exact aM.mk (.skip (.skip .tail)) ⟨ls++[l],RF,hge zO,by rw[xaf];rfl,by rw[VH];exact nX⟩
 refine ae.inc (aC.of .tail ⟨ls++[l],_,C2,by rw[xaf];rfl,RF,Ln zO,rfl,by rw[VH];exact nX⟩ ?_);simp only[bL];omega
end
section
variable {kp mb Ec b1 b7 EN bn:Nat} {K:Kd} {S:Nat->aA.Fn} {ord ah tr:zL} {C:Hp}
def kr(r:Nat):zV:=u32 r
theorem cZ(a b:Nat):Instr.sameNow (.int .u32) (kr a) (kr b)=some (decide (a=b)):=by
 simp only[Instr.sameNow,kr,u32,xa7,xas];rw[xbN];simp;omega
theorem gP(a:Nat):Instr.sameBits 10000 (kr a) (kr a)=true:=by simp[Instr.sameBits,kr,u32]
structure Kn(n:Nat)(S:Nat->aA.Fn)(es:Array MapEntry)(ck:Nat)(m:List (Nat×zV))(Y:Hp):Prop where
 dL:aE kr (λv x=>v=x) es ck m
 j5:∀r v,aJ m r=some v->kg Y v n (S r)
 low:∀r,r<2->aJ m r≠none
theorem Kn.mono{n:Nat}{S:Nat->aA.Fn}{es:Array MapEntry}{ck:Nat}{m:List (Nat×zV)}{Y Y':Hp}(h:Kn n S es ck m Y)(hs:∀x∈Y,x∈Y'):Kn n S es ck m Y':=⟨h.dL,λr v hm=>(h.j5 r v hm).mono hs,h.low⟩
theorem kg.one{B:Hp}{v:zV}{n:Nat}{f:aA.Fn}(h:kg B v n f):∃s,v=.agg #[iv (n:Int),s]/\s.oneCell'=true:=by
 obtain⟨ws,⟨s,rfl,hw⟩,_,_⟩:=h;exact⟨s,rfl,bO hw⟩
theorem cY{n:Nat}{s:zV}(h:s.oneCell'=true):∀u∈[Value.int .i64 (n:Int),s],u.oneCell'=true:=λu hu=>by
 simp only[xam,xaP,xbD]at hu;rcases hu with rfl|rfl
 ·rfl
 exact h
theorem fG(d:Nd):∀u∈bu d,u.oneCell'=true:=λu hu=>by
 simp only[bu,xam,xaP,xbD]at hu;rcases hu with rfl|rfl|rfl<;>rfl
theorem wJ{X:Hp}(h:cf kp K S ord ah tr C){r:Nat}{d:Nd}(hd:K.N r=some d):Px zQ 202 #[ptr kp,u32 r] (X++C) (λv _=>v=.agg (bu d).toArray):=by
 have hlt:=h.bK (.inr ⟨d,hd⟩);refine aF λg=>Jm λb1 _=>?_;refine aa.eq (args:=#[ptr kp,u32 r]) (iS h.rep zO) ?_;rw[dY hd (h.ok.mid.two hd).1];refine Ext.two λb7 _=>(St.p (fG d) ?_);refine ax.q ?_;refine St.p (fG d) ?_;refine ax.q ?_;exact GR.mk (by repeat (first|exact bV.refl _|apply bV.cons|apply bV.app)) rfl
theorem wM{X:Hp}{v:zV}(h:cf kp K S ord ah tr C){rs:zL}(hv:dz .u32 (X++C) v (iw rs))(hr:∀r∈rs,live K.N r)(hl:rs.length<4611686018427387904):Px zQ 200 #[ptr kp,v] (X++C) (λw _=>w=iv 0):=by
 refine aF λg=>Jo (ae.aH (Br.no (hv.bP ?_)));rw[ak];refine⟨λvs H=>∃(i:Nat) (N:Hp),vs=[iv (i:Int)]/\i<=rs.length/\H=N++(X++C),λvs _=>rs.length-bL vs 0,JE.mk ⟨0,[],rfl,xaN _,rfl⟩,?_⟩;rintro w H ⟨i,N,hw,hi,rfl⟩ gs;simp only[xaw,xa2]at hw;subst hw;refine ae.fk (Br.dec (λhlt=>?_) (λhge=>?_))
 ·have EE:=hr _ (xaF hlt);have rH:=h.bK EE;refine hv.ld (n:=((rs[i]:Nat):Int)) (cQ (xaa hlt)) (λ_ h=>xab _ h) ?_;refine aa.eq (args:=#[ptr kp,u32 rs[i]]) (iS h.rep zO) ?_;rw[xad (bX.2 EE)];refine Ext.two λb15 _=>(St.whole (r:=got K.N rs[i]) (by exact .head _) rfl (aQ _ _).1 (aQ _ _).2 ?_);exact ae.cD (Br.F (ae.inc (aC.mk ⟨i+1,_::N,rfl,hlt,rfl⟩ (by simp only[bL];omega))))
 exact GR.mk (by repeat (first|exact bV.refl _|apply bV.cons|apply bV.app)) rfl
theorem SB{X:Hp}{n:Nat}(hn:n<=16){d:Nd}(hd:d.v<n){v1 v2:zV}{f1 f2:aA.Fn}(h1:kg X v1 n f1)(h2:kg X v2 n f2)(hm:(bn,Obj.cells #[iv (n:Int)] 3 zZ)∈X):
  Px zQ 277 #[.agg (bu d).toArray,v1,v2,ptr bn] X (λw H=>kg H w n (λx=>if x.testBit d.v then f2 x else f1 x)):=by
 obtain⟨s1,rfl,o1⟩:=h1.one;obtain⟨s2,rfl,o2⟩:=h2.one;refine aF λg=>IG λc1 _ c3 _ c5 _ c7 _=>?_;refine Ld.mk (v:=iv (n:Int)) (by exact .tail _ (.tail _ (.tail _ (.tail _ hm)))) rfl ?_;refine Ld.f ?_;refine aa.px (bI.left (C:=[]) (A:=_)) (Um hn hd []) ?_;rintro w N ⟨t,rfl,ht⟩;rw[xaL]at ht⊢;obtain⟨s3,rfl,o3⟩:=ht.one;refine Ext.two λXS _=>(St.p (cY o3) ?_);refine ax.q ?_;refine ax.q ?_;refine ax.q ?_;refine aa.pre (.perm (.cons _ (xaS.trans (.cons _ (xaS.trans (.cons _ (xaS.trans (.cons _ xaS)))))))) ?_;refine aa.pq (Uq (B:=N++X) (ht.mono λ_ h=>xae _ h) (h2.mono λ_ h=>xab _ h) (h1.mono λ_ h=>xab _ h)) ?_;rintro w N2 ⟨t4,rfl,ht4⟩;obtain⟨s4,rfl,o4⟩:=ht4.one;refine Ext.two λc26 _=>(St.p (cY o4) ?_);refine ax.q ?_;refine St.p (cY o4) ?_;refine ax.q ?_;refine GR.mk (by repeat (first|exact bV.refl _|apply bV.cons|apply bV.app)) (ht4.mono ?_);intro x hx;repeat (first|exact hx|apply xbA)
theorem adB(h:cf kp K S ord ah tr C)(hn:K.n<=16){Z0:Hp}(h19:(Ec,Obj.cells #[.map (some mb)] 403 zZ)∈Z0)(h1:(b1,Obj.cells #[ptr kp] 85 zZ)∈Z0)(h7:(b7,Obj.cells #[.func (.func 277) #[] #[ptr bn]] 336 zZ)∈Z0)
 (h22:(EN,Obj.cells #[.func (.func 342) #[] #[ptr Ec,ptr b1,ptr b7,ptr EN]] 404 zZ)∈Z0)(hbn:(bn,Obj.cells #[iv (K.n:Int)] 3 zZ)∈Z0):
  ∀(k r:Nat) (es:Array MapEntry) (ck:Nat) (m:List (Nat×zV)) (Z:Hp),K.n-dep K.n (lv ah) K.N r<=k->live K.N r->(∀x∈Z0,x∈Z)->Kn K.n S es ck m Z->
  Fc zQ 342 #[u32 r,ptr Ec,ptr b1,ptr b7,ptr EN] ((mb,.map es ck)::(Z++C)) (λv H=>∃es' bB m' N,H=(mb,.map es' bB)::(N++(Z++C))/\Kn K.n S es' bB m' (N++Z)/\kg (N++Z) v K.n (S r)):=by
 have hit:∀{r:Nat} {es:Array MapEntry} {ck:Nat} {m:List (Nat×zV)} {Z:Hp} {v:zV},(∀x∈Z0,x∈Z)->Kn K.n S es ck m Z->aJ m r=some v->
   Fc zQ 342 #[u32 r,ptr Ec,ptr b1,ptr b7,ptr EN] ((mb,.map es ck)::(Z++C)) (λv H=>∃es' bB m' N,H=(mb,.map es' bB)::(N++(Z++C))/\Kn K.n S es' bB m' (N++Z)/\kg (N++Z) v K.n (S r)):=by
  intro r es ck m Z v hZ hm hv g;obtain⟨s,rfl,hs⟩:=(hm.j5 r v hv).one;refine xk (R:=aM _) ?_;unfold L342;intro c1 _;refine Ld.mk (v:=.map (some mb)) (by exact .tail _ (.tail _ (xae _ (hZ _ h19)))) rfl ?_;refine hm.dL.hit (k:=r) cZ (b:=mb) (by exact .tail _ (.head _)) hv λv' e=>?_;subst e;refine Ext.two λc7 _=>(St.p (cY hs) ?_);refine Br.yes (ax.q ?_);refine St.p (cY hs) ?_;refine ax.q ?_;exact aM.mk (.skip .tail) ⟨es,ck,m,[],rfl,hm,hm.j5 r _ hv⟩
 intro k;induction k with
 |zero=>
  intro r es ck m Z hk hr hZ hm;have qs:r<2:=by
   cases hN:K.N r with
   |some d=>
    have:=h.ok.wf.iD h.ok.lv r;rw[aq hN]at hk;have:=h.ok.lv.lt _ (h.ok.mid.var hN);omega
   |none=>
    rcases hr with hr|⟨d,e⟩
    ·exact hr
    rw[hN]at e;cases e
  cases hv:aJ m r with
  |none=>exact absurd hv (hm.low r qs)
  |some v=>exact hit hZ hm hv
 |succ k ih=>
  intro r es ck m Z hk hr hZ hm;cases hv:aJ m r with
  |some v=>exact hit hZ hm hv
  |none=>
  have qs:¬r<2:=λh2=>hm.low r h2 hv;obtain⟨d,hN⟩:∃d,K.N r=some d:=by
   rcases hr with hr|hr
   ·omega
   exact hr
  have kZ:=h.ok.mid.var hN;have hlo:=h.ok.wf.lo hN;have hhi:=h.ok.wf.hi hN;have hdl:=h.ok.wf.iD h.ok.lv r;rw[aq hN]at hk;have hvl:=h.ok.lv.lt _ kZ;have Gk:S r=λx=>if x.testBit d.v then S d.hi x else S d.lo x:=funext λx=>h.ok.mid.int.node hN x
  refine aF λg=>xk λc1 _=>?_;refine Ld.mk (v:=.map (some mb)) (by exact .tail _ (.tail _ (xae _ (hZ _ h19)))) rfl ?_;refine hm.dL.bM (k:=r) cZ (b:=mb) (by exact .tail _ (.head _)) hv ?_;refine Ext.two λc7 _=>(St.q ?_);refine Br.no (Ld.mk (v:=ptr kp) (by exact .tail _ (.tail _ (.tail _ (xae _ (hZ _ h1))))) rfl ?_);refine aa.pq (args:=#[ptr kp,u32 r]) (wJ (X:=Z) h hN) ?_;rintro w N0 rfl;intro XS _;refine St.p (fG d) ?_;obtain⟨Z1,hZ1⟩:∃Z1,Z1=(XS,Obj.cells (bu d).toArray 226 zZ)::(N0++Z):=⟨_,rfl⟩;have Se:∀x∈Z,x∈Z1:=λx hx=>by rw[hZ1];exact .tail _ (xab _ hx)
  have RU:aL (Z1++C) ((XS,Obj.cells (bu d).toArray 226 zZ)::Z):=by rw[hZ1];exact aL.left.trans (.cons .right)
  have uB:((XS,Obj.cells (bu d).toArray 226 zZ)::(c7,.cells (List.toArray [iv 0,.slice none 0 0]) 116 zZ)::(c1,.cells #[iv 0,.slice none 0 0] 116 zZ)::(mb,Obj.map es ck)::(N0++(Z++C))).Perm
    ((c1,.cells #[iv 0,.slice none 0 0] 116 zZ)::(c7,.cells (List.toArray [iv 0,.slice none 0 0]) 116 zZ)::(mb,Obj.map es ck)::(Z1++C)):=by
   rw[hZ1,xaR,xaj];refine(List.Perm.swap _ _ _).trans ?_;refine(List.Perm.cons _ (List.Perm.swap _ _ _)).trans ?_;refine(List.Perm.swap _ _ _).trans (.cons _ (.cons _ (.swap _ _ _)))
  have hR0:aL ((XS,Obj.cells (bu d).toArray 226 zZ)::(c7,.cells (List.toArray [iv 0,.slice none 0 0]) 116 zZ)::(c1,.cells #[iv 0,.slice none 0 0] 116 zZ)::(mb,Obj.map es ck)::(N0++(Z++C))) ((XS,Obj.cells (bu d).toArray 226 zZ)::Z):=
   .cons (.skip (.skip (.skip (.fT .left))))
  refine DR.of hR0 (Ld.mk (v:=.func (.func 277) #[] #[ptr bn]) (by exact .tail _ (hZ _ h7)) rfl ?_);refine ax.q ?_;refine Ld.mk (v:=.func (.func 342) #[] #[ptr Ec,ptr b1,ptr b7,ptr EN]) (by exact .tail _ (hZ _ h22)) rfl ?_;refine Ld.f ?_;refine Ld.mk (v:=.func (.func 342) #[] #[ptr Ec,ptr b1,ptr b7,ptr EN]) (by exact .tail _ (hZ _ h22)) rfl ?_;refine Ld.f ?_;intro F;refine aK.of rfl zK (aa.pre (.perm uB) ?_);refine aa.fq (args:=#[u32 d.lo,ptr Ec,ptr b1,ptr b7,ptr EN]) (ih d.lo es ck m Z1 zO hlo.1 (λx hx=>Se _ (hZ x hx)) (hm.mono Se)) ?_;rintro v1 H ⟨kf,jJ,m1,N1,rfl,uf,ht1⟩;refine⟨.skip (.skip (.skip (.fT RU))),?_⟩;rw[<-xaj];intro F;refine aK.of rfl zK (aa.fq (args:=#[u32 d.hi,ptr Ec,ptr b1,ptr b7,ptr EN]) (ih d.hi kf jJ m1 (N1++Z1) zO hhi.1 (λx hx=>xab _ (Se _ (hZ x hx))) uf) ?_);rintro v2 H ⟨gV,iE,m2,N2,rfl,lY,Xo⟩;refine⟨.skip (.skip (.skip (.fT (aL.assoc.trans (.fT RU))))),?_⟩;rw[<-xaj];intro F;refine aK.of rfl zK (aa.pq (args:=#[.agg (bu d).toArray,v1,v2,ptr bn]) (SB (bn:=bn) hn kZ (ht1.mono λ_ h=>xab _ h) Xo (xab _ (xab _ (Se _ (hZ _ hbn))))) ?_);intro v3 N3 Ry;rw[<-Gk]at Ry;refine⟨.skip (.skip (.skip (aL.assoc.trans (.fT (aL.assoc.trans (.fT (aL.assoc.trans (.fT RU)))))))),?_⟩;obtain⟨s3,rfl,o3⟩:=Ry.one;intro c37 _;intro F;refine St.p (cY o3) ?_;refine Ld.mk (v:=.map (some mb)) (by exact .tail _ (.tail _ (.tail _ (.tail _ (xae _ (xab _ (xab _ (xab _ (Se _ (hZ _ h19)))))))))) rfl ?_;refine ax.q ?_;refine lY.dL.br (k:=r) (b:=mb) (x:=.agg #[iv (K.n:Int),s3]) cZ gP rfl λo5 qN he=>⟨_,.tail (.tail (.tail (.head _))),?_⟩;refine ax.q ?_;refine St.p (cY o3) ?_;refine ax.q ?_;have hmem:∀x∈N3++(N2++(N1++Z1)),x∈(N3++(N2++(N1++((XS,Obj.cells (bu d).toArray 226 zZ)::N0))))++Z:=λx hx=>by
   rw[hZ1]at hx;simpa only[xaj,xaR]using hx
  refine aM.mk (.skip (.skip .tail)) ⟨o5,qN,ef m2 r (.agg #[iv (K.n:Int),s3]),N3++(N2++(N1++((XS,Obj.cells (bu d).toArray 226 zZ)::N0))),by rw[hZ1];simp only[xaj,xaR],⟨he,λr' v' nU=>?_,λr' hr'=>?_⟩,Ry.mono hmem⟩
  ·rw[bJ]at nU;split at nU
   ·rename_i e;subst e;cases nU;exact Ry.mono hmem
   exact(lY.j5 r' v' nU).mono λx hx=>hmem x (xab _ hx)
  rw[bJ];split
  ·simp
  exact lY.low r' hr'
end
section
variable {kp bn:Nat} {K:Kd} {S:Nat->aA.Fn} {ord ah tr:zL} {C:Hp}
theorem Wo(h:cf kp K S ord ah tr C)(hn:K.n<=16){r:Nat}(hr:live K.N r){X:Hp}{v0 v1:zV}(hv0:kg X v0 K.n (λ_=>false))(hv1:kg X v1 K.n (λ_=>true))(hbn:(bn,Obj.cells #[iv (K.n:Int)] 3 zZ)∈X):
  Fc zQ 276 #[ptr kp,u32 r,v0,v1,.func (.func 277) #[] #[ptr bn]] (X++C) (λv H=>∃N,H=N++(X++C)/\kg (N++X) v K.n (S r)):=by
 obtain⟨s0,rfl,o0⟩:=hv0.one;obtain⟨s1,rfl,o1⟩:=hv1.one;have hi:=h.ok.mid.int;refine aF λg=>II λb1 _ b3 _ b5 _ b7 _ b9 _ mb _=>?_;refine ax.q ?_;refine aE.br (ke:=kr) (vr:=λv x=>v=x) (k:=0) (b:=mb) (x:=Value.agg #[iv (K.n:Int),s0]) cZ gP aE.empty rfl λkf jJ Gc=>⟨_,.head _,?_⟩;refine ax.q ?_;refine aE.br (ke:=kr) (vr:=λv x=>v=x) (k:=1) (b:=mb) (x:=Value.agg #[iv (K.n:Int),s1]) cZ gP Gc rfl λgV iE XC=>⟨_,.head _,?_⟩;intro Ec _;refine St.one (c':=#[.map (some mb)]) (by exact .head _) rfl zI rfl ?_;intro EN _;refine St.one (c':=#[.func (.func 342) #[] #[ptr Ec,ptr b1,ptr b7,ptr EN]]) (by exact .head _) rfl zI rfl ?_;refine Ld.q ?_;refine aK.of rfl zK ?_;obtain⟨Z0,XK⟩:∃Z0:Hp,Z0=(EN,Obj.cells #[.func (.func 342) #[] #[ptr Ec,ptr b1,ptr b7,ptr EN]] 404 zZ)::(Ec,.cells #[.map (some mb)] 403 zZ)::(b7,.cells #[.func (.func 277) #[] #[ptr bn]] 336 zZ)::(b5,.cells (Value.cells (.agg #[iv (K.n:Int),s1])) 116 zZ)::(b3,.cells (Value.cells (.agg #[iv (K.n:Int),s0])) 116 zZ)::(b1,.cells #[ptr kp] 85 zZ)::X:=⟨_,rfl⟩;have hXZ:∀x∈X,x∈Z0:=λx hx=>by rw[XK];exact .tail _ (.tail _ (.tail _ (.tail _ (.tail _ (.tail _ hx)))))
 refine aa.pre (H':=(b9,Obj.cells #[iv 0,.slice none 0 0] 116 zZ)::(mb,Obj.map gV iE)::(Z0++C)) (.perm ?_) ?_
 ·rw[XK];simp only[xaR];refine(List.Perm.cons _ (List.Perm.cons _ (List.Perm.swap _ _ _))).trans ?_;refine(List.Perm.cons _ (List.Perm.swap _ _ _)).trans ?_;refine(List.Perm.swap _ _ _).trans (.cons _ ?_);refine(List.Perm.cons _ (List.Perm.swap _ _ _)).trans ?_;exact List.Perm.swap _ _ _
 refine aa.fq (args:=#[u32 r,ptr Ec,ptr b1,ptr b7,ptr EN]) (adB (Z0:=Z0) (bn:=bn) h hn (by rw[XK];exact .tail _ (.head _)) (by rw[XK];exact .tail _ (.tail _ (.tail _ (.tail _ (.tail _ (.head _)))))) (by rw[XK];exact .tail _ (.tail _ (.head _))) (by rw[XK];exact .head _) (hXZ _ hbn) K.n r gV iE _ Z0 (xdt _ _) hr (λ_ h=>h) ⟨XC,λr v hm=>?_,λr hr=>?_⟩) ?_
 ·rw[bJ,bJ]at hm;split at hm
  ·rename_i e;subst e;cases hm;have:=hv1.mono hXZ;rwa [show(λ_=>true)=S 1 from funext λx=>(hi.one x).symm]at this
  split at hm
  ·rename_i e;subst e;cases hm;have:=hv0.mono hXZ;rwa [show(λ_=>false)=S 0 from funext λx=>(hi.zero x).symm]at this
  simp[aJ]at hm
 ·rw[bJ,bJ];have:r=0\/r=1:=by omega
  rcases this with rfl|rfl<;>simp
 rintro v H ⟨o5,qN,m3,N,rfl,_,ht⟩;obtain⟨s3,rfl,o3⟩:=ht.one;refine St.p (cY o3) ?_;refine ax.q ?_;refine aM.mk (.skip .tail) ⟨N++[(EN,Obj.cells #[.func (.func 342) #[] #[ptr Ec,ptr b1,ptr b7,ptr EN]] 404 zZ),(Ec,.cells #[.map (some mb)] 403 zZ),(b7,.cells #[.func (.func 277) #[] #[ptr bn]] 336 zZ),(b5,.cells (Value.cells (.agg #[iv (K.n:Int),s1])) 116 zZ),(b3,.cells (Value.cells (.agg #[iv (K.n:Int),s0])) 116 zZ),(b1,.cells #[ptr kp] 85 zZ)],by rw[XK];simp,ht.mono λx hx=>?_⟩;rw[XK]at hx;simpa using hx
theorem N7(h:cf kp K S ord ah tr C)(hn:K.n<=16){r:Nat}(hr:live K.N r):
  Fc zQ 193 #[ptr kp,u32 r] C (λv H=>∃N t,H=N++C/\v=.tuple #[t,iv 0]/\kg N t K.n (S r)):=by
 refine aF λg=>Jw λb1 _=>?_;refine az.int (e:=110) zK zK zK λbx=>?_;refine aa.px .here (wM (X:=[(bx,_),(b1,_)]) (rs:=[r]) h (dz.block (by exact .head _) zI) (λx hx=>by rw[xaI.1 hx];exact hr) zI) ?_;rintro w N0 rfl;refine ae.cD (Br.F (aa.eq (gO h.rep) λij _=>?_));refine St.one (c':=#[iv (K.n:Int)]) (by exact .head _) rfl zI rfl ?_;refine Ld.q ?_;refine ae.nh (b:=16) (Br.F (Ld.q ?_));refine aa.px (bI.left (C:=[]) (A:=_)) (yu hn false []) ?_;rintro w N1 ⟨t0,rfl,VG⟩;rw[xaL]at VG⊢;obtain⟨s0,rfl,o0⟩:=VG.one;refine Ext.two λb26 _=>(St.p (cY o0) ?_);refine Ld.q ?_;refine aa.px (bI.left (C:=[]) (A:=_)) (yu hn true []) ?_;rintro w N2 ⟨t1,rfl,ht1⟩;rw[xaL]at ht1⊢;obtain⟨s1,rfl,o1⟩:=ht1.one;refine Ext.two λb34 _=>(St.p (cY o1) ?_);refine ax.q ?_;refine ax.q ?_;obtain⟨X,hX⟩:∃X:Hp,X=(b34,Obj.cells (List.toArray [iv (K.n:Int),s1]) 116 zZ)::(N2++((b26,Obj.cells (List.toArray [iv (K.n:Int),s0]) 116 zZ)::(N1++((ij,Obj.cells #[iv (K.n:Int)] 3 zZ)::(N0++[(bx,Obj.cells (av .u32 [(r:Int)]) 110 zZ)]))))):=⟨_,rfl⟩;refine aa.pre (H':=(b1,Obj.cells #[iv 0,.slice none 0 0] 116 zZ)::(X++C)) (.perm ?_) ?_
 ·rw[hX];have:=xaS (a:=(b1,Obj.cells #[Value.int .i64 0,.slice none 0 0] 116 zZ)) (l₂:=C) (l₁:=(b34,Obj.cells (List.toArray [Value.int .i64 (K.n:Int),s1]) 116 zZ)::(N2++((b26,Obj.cells (List.toArray [Value.int .i64 (K.n:Int),s0]) 116 zZ)::(N1++((ij,Obj.cells #[Value.int .i64 (K.n:Int)] 3 zZ)::(N0++[(bx,Obj.cells (av .u32 [(r:Int)]) 110 zZ)]))))));simpa only[xaR,xaj,xb5]using this
 refine aa.fq (Wo (X:=X) (bn:=ij) h hn hr (VG.mono λx hx=>?_) (ht1.mono λx hx=>?_) ?_) ?_
 ·rw[hX];exact .tail _ (xab _ (.tail _ (xae _ hx)))
 ·rw[hX];exact .tail _ (xae _ hx)
 ·rw[hX];exact .tail _ (xab _ (.tail _ (xab _ (.head _))))
 rintro v H ⟨N,rfl,ht⟩;obtain⟨s3,rfl,o3⟩:=ht.one;refine St.p (cY o3) ?_;refine ax.q ?_;exact aM.mk .tail ⟨N++X,_,by rw[xaj],rfl,ht⟩
def rts(K:Kd):zL:=(List.range K.ho.length).filter λr=>decide (0<K.hold r)
theorem MR(h:cf kp K S ord ah tr C):Fc zQ 192 #[ptr kp] C (λr H=>∃N,H=N++C/\aN 110 .u32 r (iw (rts K)) N):=by
 obtain⟨b,hC,hO⟩:=h.rep;have hcap:=h.ok.mid.cap;have hle:=h.gi;have hfit:K.ho.length<=1048576:=by
  have:=hO.ul;omega
 refine aF λg=>Jx (ae.aH (Br.no ?_));have abK:∀z∈b.CH,z∈C:=by rw[hC];exact bI.sub (.cons (.app (.app (.app .left))))
 refine Nil.ptr (ai.mk (Ld.u (by rw[hC];exact .head _) ?_));refine hO.ho.bP ?_;rw[ak]
 let rk:Nat->zL:=λk=>(List.range k).filter λr=>decide (0<K.hold r)
 refine⟨λvs H=>∃(k:Nat) (w:zV) (N:Hp),vs=[w,iv (k:Int)]/\k<=K.ho.length/\H=N++C/\aN 110 .u32 w (iw (rk k)) N,λvs _=>K.ho.length-bL vs 1,JE.mk ⟨0,_,[],rfl,xaN _,rfl,aN.nil⟩,?_⟩;rintro w11 w12 H ⟨k,w,N,⟨⟩,hk,rfl,hN⟩ gs;refine ae.fk (Br.dec (λhlt=>?_) (λhlt=>?_))
 ·intro J hJ;have fin:∀w' N',aN 110 .u32 w' (iw (rk (k+1))) N'->J [w'] (N'++C):=λw' N' h'=>hJ _ _ λgs=>by
   exact ae.inc (aC.of (.refl _) ⟨k+1,w',N',rfl,hlt,rfl,h'⟩ (by simp only[bL];omega))
  have e:rk (k+1)=rk k++if 0<K.hold k then [k]else []:=by
   show(List.range (k+1)).filter _=_;rw[xb6,xbJ];congr 1;by_cases hp:0<K.hold k<;>simp[hp]
  refine hO.ho.ld (x:=((K.hold k:Nat):Int)) (bH hlt) (λz hz=>xab _ (abK z hz)) (ae.nh (b:=0) (Br.dec (λhp=>?_) (λhp=>?_)))
  ·rw[e,xad hp]at fin;refine aV.q ?_;have Du:(rk k).length<=k:=by
    have:=xbO (λr=>decide (0<K.hold r)) (List.range k);rwa [xaz]at this
   refine az.int (e:=110) zK zK zK λbx=>?_;refine hN.rX (.cons .left) (by exact .head _) (by rw[ak];omega) (by rw[ak];omega) λv' N' cA=>?_;rw[bY]at fin;exact JE.of .tail (fin v' N' cA)
  rw[e,xac hp,xaL]at fin;exact JE.mk (fin w11 N hN)
 obtain rfl:k=K.ho.length:=by omega
 exact aM.here ⟨N,rfl,hN⟩
end
end
end Go.Proofs
namespace an
open Go.Sx
def EL(c:Nat->Nat->Nat):Nat->zL->Nat
 |_,[]=>0
 |a,v::o=>c a v+EL c (aB a v true) o
def p6(a:Nat)(o:zL):Nat:=o.foldl (λa v=>aB a v true) a
theorem Cn(a:Nat)(o o':zL):p6 a (o++o')=p6 (p6 a o) o':=xdn ..
theorem wF(c:Nat->Nat->Nat):∀(o o':zL) (a:Nat),EL c a (o++o')=EL c a o+EL c (p6 a o) o'
 | [],o',a=>by simp[EL,p6]
 |v::o,o',a=>by rw[xaR,EL,wF c o o',EL,xcS];rfl
theorem qR:∀(o:zL) (a u:Nat),(p6 a o).testBit u=(a.testBit u||decide (u∈o))
 | [],a,u=>by simp[p6]
 |v::o,a,u=>by
  show(p6 (aB a v true) o).testBit u=_;rw[qR o,aj];by_cases e:u=v
  ·simp[e]
  simp[e]
structure nj(n a:Nat)(o:zL):Prop where
 nd:o.Nodup
 mem:∀v,v∈o↔v∈bM n a
variable {n:Nat} {c:Nat->Nat->Nat}
theorem nj.nil{a:Nat}(h:nj n a []):bM n a=[]:=xcA.2 λv hv=>by simpa using(h.mem v).2 hv
theorem nj.tail{a v:Nat}{o:zL}(h:nj n a (v::o)):v∈bM n a/\nj n (aB a v true) o:=by
 have h1:=xaX.1 h.nd;refine⟨(h.mem v).1 zI,h1.2,λu=>?_⟩;rw[cP,aj];have hu:=h.mem u;rw[cP,xam]at hu;by_cases e:u=v
 ·subst e;simp[h1.1]
 simp only[e,false_or,xa0]at hu⊢;exact hu
theorem nj.cons{a v:Nat}{o:zL}(hv:v∈bM n a)(h:nj n (aB a v true) o):nj n a (v::o):=by
 have hm:=h.mem;refine⟨xaX.2 ⟨λhx=>?_,h.nd⟩,λu=>?_⟩
 ·have:=(hm v).1 hx;rw[cP,aj,xad rfl]at this;exact absurd this.2 zI
 rw[xam,hm,cP,cP,aj];rw[cP]at hv;by_cases e:u=v
 ·subst e;simp[hv]
 simp[e]
theorem Ey:∀(o:zL) (a:Nat),nj n a o->B n c a<=EL c a o
 | [],a,h=>by rw[Ma h.nil];exact xaN _
 |v::o,a,h=>by
  obtain⟨h1,h2⟩:=h.tail;exact xbG (adS h1) (Nat.add_le_add_left (Ey o _ h2) _)
theorem Fv:∀(f a:Nat),(bM n a).length<=f->nj n a (ord n c f a)/\EL c a (ord n c f a)=B n c a
 |0,a,h=>by
  have hm:bM n a=[]:=xbW zO;rw[ord,Ma hm];exact⟨⟨by simp,λv=>by rw[hm]⟩,rfl⟩
 |f+1,a,h=>by
  by_cases hm:bM n a=[]
  ·have:ord n c (f+1) a=[]:=by rw[ord,hm];rfl
   rw[this,Ma hm];exact⟨⟨by simp,λv=>by rw[hm]⟩,rfl⟩
  obtain⟨v,hv,he,_,ho⟩:=vC (c:=c) (f:=f) hm;have:=gM hv;obtain⟨h1,h2⟩:=Fv f (aB a v true) zO;rw[ho];exact⟨h1.cons hv,by rw[EL,h2,he]⟩
theorem oN(n:Nat):bM n 0=List.range n:=by
 unfold bM;rw[xcs.2];simp
end an
namespace an
open Go.Sx
def Uv(n:Nat)(l:Fs)(vs:zL):Fs:=vs.foldl (λl v=>given n l v) l
theorem R9(A k:Nat):has (k+1) A=has k A++(if A.testBit k then [k]else []):=by
 unfold has;rw[xb6,xbJ];congr 1;rw[xbb];simp
theorem uV(n:Nat)(l:Fs)(a b:zL):Uv n l (a++b)=Uv n (Uv n l a) b:=xdn ..
theorem u4(n:Nat)(L:Fs)(A:Nat):∀k,st n L A k=Uv n (mB L) (has k A)
 |0=>rfl
 |k+1=>by
  rw[st,R9,uV,<-u4 n L A k];split<;>rfl
def Sm(a b:Fs):Prop:=∀x,x∈a↔x∈b
theorem Sm.trans{a b c:Fs}(h:Sm a b)(h':Sm b c):Sm a c:=λx=>(h x).trans (h' x)
theorem Sm.symm{a b:Fs}(h:Sm a b):Sm b a:=λx=>(h x).symm
theorem Sm.refl(a:Fs):Sm a a:=λ_=>xcR
def AF(n:Nat)(l:Fs):Prop:=∀t∈l,fg n t
variable {n:Nat}
theorem tF{a b:Fs}(h:Sm a b)(v:Nat):Sm (given n a v) (given n b v):=λx=>by
 rw[cg,cg];constructor
 ·rintro⟨t,ht,h'⟩;exact⟨t,(h t).1 ht,h'⟩
 rintro⟨t,ht,h'⟩;exact⟨t,(h t).2 ht,h'⟩
theorem Ss(hn:n<=16)(l:Fs)(v:Nat):AF n (given n l v):=λt ht=>by
 obtain⟨u,_,b,rfl⟩:=cg.1 ht;exact eB hn
theorem D4{t:zL}{u v:Nat}{b c:Bool}(hf:fg n t)(hu:u<n)(hv:v<n)(h:u≠v):iK n (iK n t u b) v c=iK n (iK n t v c) u b:=
 (eB hf.xU).ext (eB hf.xU) λx hx=>by
  rw[fe (eB hf.xU) hv hx,fe hf hu (gf hx hv),fe (eB hf.xU) hu hx,fe hf hv (gf hx hu),dj (xba h)]
theorem Gm{l:Fs}{u v:Nat}(hl:AF n l)(hu:u<n)(hv:v<n)(h:u≠v):Sm (given n (given n l u) v) (given n (given n l v) u):=λx=>by
 rw[cg,cg];constructor
 ·rintro⟨t,ht,c,rfl⟩;obtain⟨s,hs,b,rfl⟩:=cg.1 ht;exact⟨iK n s v c,cg.2 ⟨s,hs,c,rfl⟩,b,D4 (hl s hs) hu hv h⟩
 rintro⟨t,ht,c,rfl⟩;obtain⟨s,hs,b,rfl⟩:=cg.1 ht;exact⟨iK n s u c,cg.2 ⟨s,hs,c,rfl⟩,b,D4 (hl s hs) hv hu (xba h)⟩
theorem yz:∀(vs:zL) {a b:Fs},Sm a b->Sm (Uv n a vs) (Uv n b vs)
 | [],_,_,h=>h
 |v::vs,_,_,h=>yz vs (tF h v)
theorem P2(hn:n<=16){vs vs':zL}(hp:vs.Perm vs'):(∀v∈vs,v<n)->∀l,AF n l->Sm (Uv n l vs) (Uv n l vs'):=by
 induction hp with
 |nil=>exact λ_ l _=>Sm.refl _
 |cons v _ ih=>exact λh l hl=>ih (λu hu=>h u (by simp[hu])) _ (Ss hn l v)
 |swap x y r=>
  intro h l hl;by_cases e:x=y
  ·subst e;exact Sm.refl _
  exact yz r (Gm hl (h y zI) (h x zI) (xba e))
 |trans uB _ ih1 ih2=>exact λh l hl=>(ih1 h l hl).trans (ih2 (λv hv=>h v (uB.mem_iff.2 hv)) l hl)
theorem yx:∀(vs:zL) {l:Fs},l.Nodup->(Uv n l vs).Nodup
 | [],_,h=>h
 |v::vs,_,_=>yx vs (nZ _ _ _)
theorem Ms{L:Fs}(h:AF n L):AF n (mB L):=λt ht=>h t (gv.1 ht)
theorem Fz{a b:Fs}(ha:a.Nodup)(hb:b.Nodup)(h:Sm a b)(v:Nat):(nodes n a v).length=(nodes n b v).length:=mK (jo ha hb h)
theorem zh(n a:Nat):(has n a).Nodup:=List.Pairwise.filter _ xbn
theorem Zw{a v:Nat}(h:v∈has n a):v<n:=(rh.1 h).1
theorem Sa{a v:Nat}(hv:v<n)(ha:a.testBit v=false):(has n (aB a v true)).Perm (has n a++[v]):=by
 refine(xcU (zh _ _) ?_).2 λu=>?_
 ·rw[xa5];refine⟨zh _ _,by simp,λx hx y hy=>?_⟩;simp at hy;subst hy;rintro rfl;rw[(rh.1 hx).2]at ha;cases ha
 rw[rh,xao,xaI,rh,aj];by_cases e:u=v
 ·subst e;simp[hv]
 simp[e]
theorem Uy(hn:n<=16){L:Fs}(hL:AF n L){a v:Nat}(hv:v<n)(ha:a.testBit v=false):Sm (st n L (aB a v true) n) (given n (st n L a n) v):=by
 rw[u4,u4];have h:=P2 hn (Sa hv ha) (λu hu=>Zw hu) _ (Ms hL);rw[uV]at h;exact h
variable {φ:zL->zL} {π:Nat->Nat}
def lay(n:Nat)(F:Nat->Nat):zL:=(List.range (wN n)).map λi=>F i&&&dK n
def neg(n:Nat)(ws:zL):zL:=lay n λi=>18446744073709551615-ws.getD i 0
end an
namespace aA
open an
section
variable {n:Nat} {ord:zL} {L:an.Fs}
theorem Fg(a:Nat)(o:zL)(v:Nat):p6 a (o++[v])=aB (p6 a o) v true:=by rw[Cn];rfl
theorem SO(hn:n<=16)(hL:∀t∈L,fg n t)(hp:ord.Perm (List.range n)):∀k,k<=n->Sm (cur n ord L k) (st n L (p6 0 (ord.take k)) n)
 |0,_=>by
  have e:st n L (p6 0 (ord.take 0)) n=mB L:=by
   rw[u4];have:has n (p6 0 (ord.take 0))=[]:=by
    show has n 0=[];rw[xcA];intro v hv;have:=(rh.1 hv).2;rw[xcL]at this;cases this
   rw[this];rfl
  rw[e];exact .refl _
 |k+1,hk=>by
  have EF:ord.length=n:=by rw[hp.length_eq,xaz]
  have fO:ord.Nodup:=hp.nodup_iff.2 xbn;have hlt:k<ord.length:=by omega
  have hv:ord[k]<n:=xaM.1 (hp.mem_iff.1 (xaF hlt));have hg:ord.getD k 0=ord[k]:=by rw[xap,xaa hlt];rfl
  have ht:ord.take (k+1)=ord.take k++[ord[k]]:=xa9 hlt;have hno:ord[k]∉ord.take k:=λhm=>by
   have h2:(ord.take (k+1)).Nodup:=fO.sublist (xdO _ _);rw[ht]at h2;exact(xa5.1 h2).2.2 _ hm _ zI rfl
  have hb:(p6 0 (ord.take k)).testBit ord[k]=false:=by
   rw[qR,xcL,xai hno];rfl
  rw[ht,Fg];refine Sm.trans ?_ (Sm.symm (Uy hn hL hv hb));rw[cur,hg];exact tF (SO hn hL hp k zO) _
theorem Vj(hn:n<=16)(hL:∀t∈L,fg n t)(hp:ord.Perm (List.range n)){k:Nat}(hk:k<=n)(v:Nat):(nodes n (cur n ord L k) v).length=lvl n L (p6 0 (ord.take k)) v:=by
 unfold lvl;refine Fz (zz k) ?_ (SO hn hL hp k hk) v;rw[u4];exact yx _ (mA _)
theorem D0(hn:n<=16)(hL:∀t∈L,fg n t)(hp:ord.Perm (List.range n)):∀k,k<=n->EL (lvl n L) 0 (ord.take k)=kz n ord L k
 |0,_=>rfl
 |k+1,hk=>by
  have EF:ord.length=n:=by rw[hp.length_eq,xaz]
  have hlt:k<ord.length:=by omega
  have hg:ord.getD k 0=ord[k]:=by rw[xap,xaa hlt];rfl
  rw[xa9 hlt,wF,D0 hn hL hp k zO,kz];congr 1;unfold FI;rw[Vj hn hL hp zO,hg];simp[EL]
theorem zG(hn:n<=16)(hL:∀t∈L,fg n t)(hp:ord.Perm (List.range n)):EL (lvl n L) 0 ord=kz n ord L n:=by
 have EF:ord.length=n:=by rw[hp.length_eq,xaz]
 rw[<-D0 hn hL hp n (xag n),<-EF,xbl]
theorem FR(hp:ord.Perm (List.range n)):nj n 0 ord:=⟨hp.nodup_iff.2 xbn,λv=>by rw[oN];exact hp.mem_iff⟩
theorem Fq(h:nj n 0 ord):ord.Perm (List.range n):=by
 refine(xcU h.nd xbn).2 λv=>?_;rw[h.mem,oN]
theorem s8(c:Nat->Nat->Nat):(an.ord n c n 0).Perm (List.range n):=Fq (Fv n 0 (by rw[oN,xaz];exact xag n)).1
theorem s7(hn:n<=16)(hL:∀t∈L,fg n t):kz n (an.ord n (lvl n L) n 0) L n=B n (lvl n L) 0:=by
 rw[<-zG hn hL (s8 _)];exact(Fv n 0 (by rw[oN,xaz];exact xag n)).2
theorem WC(hn:n<=16)(hL:∀t∈L,fg n t)(hp:ord.Perm (List.range n)):B n (lvl n L) 0<=kz n ord L n:=by
 rw[<-zG hn hL hp];exact Ey ord 0 (FR hp)
end
end aA
set_option maxRecDepth 100000
namespace Go.Proofs
open Go Go.Sx Tryz
section
open aA
section
variable {kp:Nat} {K:Kd} {S:Nat->aA.Fn} {ord tr:zL} {C:Hp}
theorem u5{n:Nat}{o:zL}:∀k,kz n o [] k=0:=by
  have hc:∀k,cur n o [] k=[]:=λk=>by
    induction k with
    |zero=>rfl
    |succ k ih=>rw[cur,ih];rfl
  intro k;induction k with
  |zero=>rfl
  |succ k ih=>rw[kz,ih];unfold FI;rw[hc];rfl
theorem E4{B:Hp}{v:zV}{n:Nat}{f:aA.Fn}(h:kg B v n f):∃s ws,v=.agg #[iv (n:Int),s]/\Words B s ws/\an.fg n ws/\py n ws=f:=by
  obtain⟨ws,⟨s,rfl,hw⟩,hf,he⟩:=h;exact⟨s,ws,rfl,hw,hf,he⟩
def ahx(kp:Nat)(K:Kd)(S:Nat->aA.Fn)(ord tr:zL)(v:zV)(H:Hp):Prop:=
  ∃L:an.Fs,(∀t∈L,an.fg K.n t)/\K.held S=FT K.n L/\L.length<=1048576/\
   ((cG K S ord=an.B K.n (an.lvl K.n L) 0/\v=.tuple #[.agg #[iv ((cG K S ord:Nat):Int),iv ((cG K S ord:Nat):Int),iv 0,.bool true],iv 0]/\At kp K S ord tr H)\/
    (cG K S ord≠an.B K.n (an.lvl K.n L) 0/\∃o ls,o=an.ord K.n (an.lvl K.n L) K.n 0/\ls=path ord o/\
     (((rm K S).can ord ls=true/\v=.tuple #[.agg #[iv ((cG K S ord:Nat):Int),iv ((cG K S o:Nat):Int),iv ((ls.length:Nat):Int),.bool true],iv 0]/\At kp K S o (tr++ls) H)\/
      ((rm K S).can ord ls=false/\v=.tuple #[.agg #[iv ((cG K S ord:Nat):Int),iv ((cG K S ord:Nat):Int),iv ((2*((rm K S).dJ 0 ls ord).length:Nat):Int),.bool false],iv 0]/\At kp K S ord tr H))))
theorem Ua(h:At kp K S ord tr C)(hp:ord.Perm (List.range K.n))(hn:K.n<=12)(eG:tr.length<17317308137472):
    Fc zQ 139 #[ptr kp] C (λv H=>ahx kp K S ord tr v H):=by
  have h0:=h;obtain⟨K',S',bW,hK,hk⟩:=h;have hKn:=hk.n;have fN:∀r,K'.hold r≠0->live K'.N r:=λr hr=>(.inr (hK.ok.mid.held r hr));have hcap:=hK.ok.mid.cap;have hle:=hK.gi;have Du:(rts K').length<=1048576:=by
    obtain⟨b,_,hO⟩:=hK.rep;have:=hO.ul;have h2:=xbO (λr=>decide (0<K'.hold r)) (List.range K'.ho.length);rw[xaz]at h2;show(List.filter _ _).length<=_;omega
  have v7:∀r,r∈rts K'↔K'.hold r≠0:=λr=>by
    unfold rts;rw[xbV,xaM,decide_eq_true_iff];constructor
    · rintro⟨_,h⟩;omega
    · intro h
      refine⟨xaK λh2=>h ?_,by omega⟩;unfold Kd.hold;rw[xap,xaE zO];rfl
  refine aF λg=>JX λb1 _=>?_;refine ae.aH (Br.no (aa.eq (mX h0) (ae.nh (b:=12) (Br.F (aa.fq (MR hK) ?_)))));rintro vr H ⟨NR,rfl,hR⟩;have ZC:dz .u32 NR vr (iw (rts K')):=hR.ints;refine hR.bP ?_;rw[ak];refine⟨λvs H=>∃(i:Nat) (s:zV) (L:an.Fs) (CS N:Hp),vs=[s,iv (i:Int)]/\i<=(rts K').length/\H=(b1,.cells #[iv 0,iv 0,iv 0,.bool false] 147 zZ)::(CS++(N++C))/\(∀x∈NR,x∈N)/\rY 116 s (Mx K'.n L) CS N/\L.length=i/\(∀t∈L,an.fg K'.n t)/\∀j t,L[j]? =some t->∃r,(rts K')[j]? =some r/\py K'.n t=S' r,
    λvs _=>(rts K').length-bL vs 1,JE.mk ⟨0,_,[],[],NR,rfl,xaN _,rfl,λ_ h=>h,rY.nil,rfl,λt ht=>absurd ht (xaP),λj t (hj:([]:List (zL))[j]? =some t)=>absurd hj (by rw[List.getElem?_nil];exact nofun)⟩,?_⟩
  rintro w20 w21 H ⟨i,s,L,CS,N,⟨⟩,hi,rfl,hN,hT,hLl,EH,hLr⟩ gs;refine ae.fk (Br.dec (λhlt=>?_) (λhge=>?_))
  · refine ZC.ld (n:=(((rts K')[i]:Nat):Int)) (cQ (xaa hlt)) (λx hx=>.tail _ (xab _ (xae _ (hN x hx)))) ?_
    refine aa.fq (args:=#[ptr kp,u32 (rts K')[i]]) (N7 hK zO (fN _ ((v7 _).1 (xaF hlt)))) ?_;rintro w H ⟨Nt,t,rfl,rfl,ht⟩;obtain⟨sw,ws,rfl,hw,hf,he⟩:=E4 ht;refine Ext.two λb29 _=>(St.p (cY (bO hw)) ?_);refine ax.q ?_;refine wP λXT=>?_;have hT':rY 116 w20 (Mx K'.n L) CS (N++Nt):=hT.mono λ_ h=>xae _ h;refine rY.app hT' (A:=[(XT,_),(b29,_),(b1,_)]) (B:=N++(Nt++C)) (t:=⟨(K'.n:Int),ws⟩) (by exact .head _) (hw.mono λ_ h=>xab _ h) (by rw[pU];omega) λv' CS' hT2=>?_;refine ae.inc (aC.of (.skip .tail) ⟨i+1,v',L++[ws],CS',N++Nt,rfl,hlt,by rw[xaj];rfl,λx hx=>xae _ (hN x hx),by unfold Mx at hT2⊢;rw[xaJ];exact hT2,by rw[xaf,hLl];rfl,λt ht=>?_,λj t hj=>?_⟩ (by simp only[bL];omega))
    · rcases xao.1 ht with ht|ht
      · exact EH t ht
      · rw[xaI.1 ht];exact hf
    · by_cases Zj:j<L.length
      · rw[xaY Zj]at hj
        exact hLr j t hj
      · rw[xbu zO]at hj
        have:j=i:=by
          have:=(xak.1 hj).1;rw[xbP]at this;omega
        subst this;rw[hLl,xcF]at hj;simp at hj;subst hj;exact⟨_,xaa hlt,he⟩
  have hi':i=(rts K').length:=by omega
  subst hi';rw[hKn]at hT EH hLr;have tE:K.held S=FT K.n L:=by
    refine funext λg=>propext ?_;rw[<-hk.held g];constructor
    · rintro⟨r,hr,rfl⟩
      obtain⟨j,hj,e⟩:=xbd.1 ((v7 r).2 hr);obtain⟨r2,qs,he⟩:=hLr j L[j] (xaa zO);rw[xaa hj,e]at qs;cases qs;exact⟨L[j],xaF _,he.symm⟩
    · rintro⟨t,ht,rfl⟩
      obtain⟨j,hj,e⟩:=xbd.1 ht;obtain⟨r2,qs,he⟩:=hLr j t (by rw[xaa hj,e]);exact⟨r2,(v7 r2).1 (xav qs),he⟩
  have hlt:=KY hp;have hkz:cG K S ord=kz K.n ord L K.n:=by
    unfold cG;rw[tE];exact W5 EH zO hlt
  have Sn:L.length<=1048576:=by omega
  refine aa.eq (cF h0) ?_;have hTb:jE (CS++N) w20 (Mx K.n L):=hT.aeZ (λ_ h=>xae _ h) (λ_ h=>xab _ h);rw[<-xaj];refine aa.pq (WB hTb (by rw[pU];omega)) ?_;intro w NB hB;obtain⟨so,Y,hY,rfl,hI⟩:∃so Y,NB++(CS++N)=Y/\w=.tuple #[iv ((an.B K.n (an.lvl K.n L) 0:Nat):Int),so,iv 0]/\(L≠[]->dz .i64 Y so (iw (an.ord K.n (an.lvl K.n L) K.n 0))):=by
    have hO:rZ (Mx K.n L):=CK EH;rcases hB with⟨hno,_⟩|⟨_,n2,L2,e,hz,_,Zo,hB⟩
    · exact absurd hO hno
    by_cases jI:L=[]
    · subst jI
      have hL2:L2=[]:=by cases L2 with
        |nil=>rfl
        |cons a b=>simp[Mx]at e
      subst hL2;obtain rfl:=hz rfl;have hB0:an.B K.n (an.lvl K.n []) 0=0:=by rw[<-s7 zO zI];exact u5 _
      rcases hB with⟨h,_⟩|⟨_,s2,C2,N2,rfl,_,_⟩
      · omega
      exact⟨s2,_,rfl,by rw[hB0];rfl,λh=>absurd rfl h⟩
    · have VN:n2=K.n/\L2=L:=by
        cases L with
        |nil=>exact absurd rfl jI
        |cons a b=>
          cases L2 with
          |nil=>simp[Mx]at e
          |cons a2 b2=>
            simp only[Mx,xaB,xaw,Tb.mk.injEq]at e;obtain⟨⟨e1,e2⟩,e3⟩:=e;have e1:n2=K.n:=by omega
            subst e1;refine⟨rfl,?_⟩;rw[e2];congr 1;refine((List.map_inj_right (f:=λws=>(⟨(K.n:Int),ws⟩:Tb)) ?_).1 e3).symm;intro x y hxy;simpa using hxy
      obtain⟨rfl,rfl⟩:=VN;rcases hB with⟨h,_⟩|⟨_,s2,C2,N2,rfl,hown,hH⟩
      · omega
      exact⟨s2,_,rfl,rfl,λ_=>by rw[hH];exact hown.ints.mono λ_ h=>xae _ h⟩
  rw[hY];clear hB;refine Ext.mk rfl (Ext.mk rfl (Ext.mk rfl (ae.dQ (Br.dec (λheq=>?_) (λhne=>?_)))))
  · refine Build.mk (cs:=[iv ((cG K S ord:Nat):Int),iv ((cG K S ord:Nat):Int),iv 0,.bool true]) zK (St.q ?_)
    refine ax.q ?_;exact aM.mk (.skip .right) ⟨L,EH,tE,Sn,.inl ⟨heq,rfl,h0⟩⟩
  · have jI:L≠[]:=λe=>by
      subst e;refine hne ?_;rw[hkz,<-s7 zO zI,u5,u5]
    obtain⟨o,ho⟩:∃o,o=an.ord K.n (an.lvl K.n L) K.n 0:=⟨_,rfl⟩;have hop:o.Perm (List.range K.n):=by rw[ho];exact s8 _
    have hIo:=hI jI;rw[<-ho]at hIo;refine aa.fq (QM h0 hIo hp hop zO) ?_;rintro w H ⟨C2,rfl,hM⟩;have Y6:=(AP (hop.nodup_iff.2 xbn) (hp.trans hop.symm)).1;rcases hM with⟨hc,rfl,hA⟩|⟨hc,rfl,hA⟩
    · rw[Y6]at hA
      refine Ext.two (aa.eq (cF hA) (ae.gI ?_));rw[xal rfl];refine Build.mk (cs:=[iv ((cG K S ord:Nat):Int),iv ((cG K S o:Nat):Int),iv (((path ord o).length:Nat):Int),.bool true]) zK (St.q ?_);refine ax.q ?_;exact aM.mk (.skip .right) ⟨L,EH,tE,Sn,.inr ⟨hne,o,_,ho,rfl,.inl ⟨hc,rfl,hA⟩⟩⟩
    · refine Ext.two (aa.eq (cF hA) (ae.gI ?_))
      rw[xai zD];refine Build.mk (cs:=[iv ((cG K S ord:Nat):Int),iv ((cG K S ord:Nat):Int),iv ((2*((rm K S).dJ 0 (path ord o) ord).length:Nat):Int),.bool false]) zK (St.q ?_);refine ax.q ?_;exact aM.mk (.skip .right) ⟨L,EH,tE,Sn,.inr ⟨hne,o,_,ho,rfl,.inr ⟨hc,rfl,hA⟩⟩⟩
end
end
section
open aA
section
variable {kp:Nat} {K:Kd} {S:Nat->aA.Fn} {ord tr:zL} {C:Hp} {Q:zV->Hp->Prop}
theorem Qn{w:Nat}(hw:3<=w/\w<=5):Rd zQ 138 #[.int .u8 (w:Int)] C (· =iv ((w-1:Nat):Int)):=by
 refine aF λg=>JY ?_;refine ae.bZ (b:=3) (aV.q (ae.eZ (b:=2) (aZ.mk (.refl _) ?_)));rw[show w-3+2=w-1 by omega]
theorem iu(h:At kp K S ord tr C){s gr:Nat}:Rd zQ 134 #[ptr kp,.int .u8 (s:Int),iv (gr:Int)] C (· =iv (if 6<s\/gr<100\/1000<gr then 1 else if s=6/\12<K.n then 6 else 0)):=by
 refine aF λg=>xH ?_;refine ae.aH (Br.no (ae.nh (b:=6) (cm.or (a:=decide (6<s)) (decide (gr<100)) (λ_=>ae.fk (b:=100) ⟨rfl,rfl⟩) rfl λ_=>?_)));refine cm.or (a:=decide (6<s)||decide (gr<100)) (decide (1000<gr)) (λ_=>ae.nh (b:=1000) ⟨rfl,rfl⟩) rfl λ_=>?_;rw[<-xa8,<-xa8];refine Br.dec (λhb=>?_) (λhb=>?_)
 ·rw[xad zO];exact aZ.mk (.refl _) rfl
 rw[xac zO];intro J9 h9;refine ae.dQ (b:=6) ?_;by_cases hs:s=6
 ·rw[xal hs];refine Split.go rfl (aa.eq (mX h) (ae.nh (b:=12) (aD.mk (JE.mk (h9 _ _ λ_=>?_)))));show Br (.bool (decide (12<K.n))) _ _;refine Br.dec (λNK=>?_) (λNK=>?_)
  ·rw[xad ⟨hs,NK⟩];exact aZ.mk (.refl _) rfl
  rw[xac zO];exact aZ.mk (.refl _) rfl
 rw[xai hs];refine Split.AQ rfl (aD.mk (JE.mk (h9 _ _ λ_=>Br.no ?_)));rw[xac zO];exact aZ.mk (.refl _) rfl
theorem oH(a b c:Int)(d:Bool):∀u∈[Value.int .i64 a,iv b,iv c,.bool d],u.oneCell'=true:=λu hu=>by
 simp only[xam,xaP,xbD]at hu;rcases hu with rfl|rfl|rfl|rfl<;>rfl
abbrev ua(a b c:Int)(d:Bool):zV:=.agg #[iv a,iv b,iv c,.bool d]
theorem Qp(h:At kp K S ord tr C){gr:Nat}(lZ:100<=gr/\gr<=1000)(hn:12<K.n):Rd zQ 85 #[ptr kp,.int .u8 6,iv (gr:Int)] C (· =.tuple #[ua 0 0 0 false,iv 6]):=by
 refine aF λg=>iI ?_;intro b1 _;refine aa.eq (iu h (s:=6)) ?_;rw[xac zO,xad ⟨rfl,hn⟩];refine ae.cD (Br.T (Build.mk (cs:=[iv 0,iv 0,iv 0,.bool false]) zK ?_));refine St.q ?_;refine ax.q ?_;exact aZ.mk .tail rfl
theorem Qq(h:At kp K S ord tr C){gr:Nat}(lZ:100<=gr/\gr<=1000)(hin:Fc zQ 135 #[ptr kp,iv (gr:Int)] C Q)(hQ:∀v H,Q v H->∃(a b c:Int) (d:Bool) (e:zV),v=.tuple #[ua a b c d,e]):
  Fc zQ 85 #[ptr kp,.int .u8 1,iv (gr:Int)] C Q:=by
 refine aF λg=>iI ?_;intro b1 _;refine aa.eq (iu h (s:=1)) ?_;rw[xac zO,xac zO];refine ae.cD (Br.F (ae.dQ (a:=1) (b:=1) (Br.yes (aa.fq hin ?_))));intro v H hv;obtain⟨a,b,c,d,e,rfl⟩:=hQ v H hv;refine Ext.two (St.p (oH a b c d) ?_);refine ax.q ?_;exact aM.mk .tail hv
theorem Fj(h:At kp K S ord tr C){gr:Nat}(lZ:100<=gr/\gr<=1000)(hin:Fc zQ 136 #[ptr kp,iv (gr:Int)] C (λv H=>∃(a b c:Int) (d:Bool) (r:zV),v=.tuple #[ua a b c d,r,iv 0]/\Q (.tuple #[ua a b c d,iv 0]) H)):
  Fc zQ 85 #[ptr kp,.int .u8 2,iv (gr:Int)] C Q:=by
 refine aF λg=>iI ?_;intro b1 _;refine aa.eq (iu h (s:=2)) ?_;rw[xac zO,xac zO];refine ae.cD (Br.F (ae.dQ (a:=2) (b:=1) (Br.no (ae.dQ (a:=2) (b:=2) (Br.yes (aa.fq hin ?_))))));rintro v H ⟨a,b,c,d,r,rfl,hv⟩;refine Ext.mk rfl (Ext.mk rfl (Ext.mk rfl ?_));intro EN _;refine St.p (oH a b c d) ?_;refine ax.q ?_;refine St.p (oH a b c d) ?_;refine ax.q ?_;exact aM.mk (.skip .tail) hv
theorem Fi(h:At kp K S ord tr C){w gr:Nat}(hw:3<=w/\w<=5)(lZ:100<=gr/\gr<=1000)(hin:Fc zQ 137 #[ptr kp,iv ((w-1:Nat):Int)] C Q)(hQ:∀v H,Q v H->∃(a b c:Int) (d:Bool) (e:zV),v=.tuple #[ua a b c d,e]):
  Fc zQ 85 #[ptr kp,.int .u8 (w:Int),iv (gr:Int)] C Q:=by
 refine aF λg=>iI ?_;intro b1 _;refine aa.eq (iu h (s:=w)) ?_;rw[xac zO,xac zO];refine ae.cD (Br.F (ae.dQ (b:=1) (Br.F (ae.dQ (b:=2) (Br.F ?_)))));intro J28 h28;have good:J28 [.bool true] ((b1,.cells #[iv 0,iv 0,iv 0,.bool false] 147 zZ)::C):=by
  refine h28 _ _ λ_=>Br.yes ?_;refine aa.eq (Qn hw) (aa.fq hin ?_);intro v H hv;obtain⟨a,b,c,d,e,rfl⟩:=hQ v H hv;refine Ext.two (St.p (oH a b c d) ?_);refine ax.q ?_;exact aM.mk .tail hv
 refine ae.dQ (b:=3) (Br.dec (λe=>?_) (λe=>?_))
 ·rw[xal e];exact JE.mk good
 refine ae.dQ (b:=4) (Br.dec (λe=>?_) (λe=>?_))
 ·rw[xal e];exact JE.mk good
 refine ae.dQ (b:=5) ?_;rw[xal zO];exact JE.mk good
theorem MN(h:At kp K S ord tr C){gr:Nat}(hn:K.n<=12)(lZ:100<=gr/\gr<=1000)(hin:Fc zQ 139 #[ptr kp] C Q)(hQ:∀v H,Q v H->∃(a b c:Int) (d:Bool) (e:zV),v=.tuple #[ua a b c d,e]):
  Fc zQ 85 #[ptr kp,.int .u8 6,iv (gr:Int)] C Q:=by
 refine aF λg=>iI ?_;intro b1 _;refine aa.eq (iu h (s:=6)) ?_;rw[xac zO,xac zO];refine ae.cD (Br.F (ae.dQ (a:=6) (b:=1) (Br.no (ae.dQ (a:=6) (b:=2) (Br.no ?_)))));intro J28 h28;refine ae.dQ (a:=6) (b:=3) (Br.no (ae.dQ (a:=6) (b:=4) (Br.no (ae.dQ (a:=6) (b:=5) (JE.mk (h28 _ _ λ_=>Br.no ?_))))));refine ae.dQ (a:=6) (b:=6) (Br.yes (aa.fq hin ?_));intro v H hv;obtain⟨a,b,c,d,e,rfl⟩:=hQ v H hv;refine Ext.two (St.p (oH a b c d) ?_);refine ax.q ?_;exact aM.mk .tail hv
theorem Qs(h:At kp K S ord tr C){gr:Nat}(lZ:100<=gr/\gr<=1000):Rd zQ 85 #[ptr kp,.int .u8 0,iv (gr:Int)] C (· =.tuple #[ua (cG K S ord:Nat) (cG K S ord:Nat) 0 false,iv 0]):=by
 refine aF λg=>iI ?_;intro b1 _;refine aa.eq (iu h (s:=0)) ?_;rw[xac zO,xac zO];refine ae.cD (Br.F (ae.dQ (a:=0) (b:=1) (Br.no (ae.dQ (a:=0) (b:=2) (Br.no ?_)))));intro J28 h28;refine ae.dQ (a:=0) (b:=3) (Br.no (ae.dQ (a:=0) (b:=4) (Br.no (ae.dQ (a:=0) (b:=5) (JE.mk (h28 _ _ λ_=>Br.no ?_))))));refine ae.dQ (a:=0) (b:=6) (Br.no (aa.eq (cF h) (aa.eq (cF h) (Build.mk (cs:=[iv ((cG K S ord:Nat):Int),iv ((cG K S ord:Nat):Int),iv 0,.bool false]) zK ?_))));refine St.q ?_;refine ax.q ?_;exact aZ.mk .tail rfl
end
section
variable {C:Hp}
def swB(n s:Nat):Nat->Nat
 |1=>3*n*(n-1)
 |2=>3*n*(n-1)*(s+1)
 |3=>(n-1)*2
 |4=>(n-2)*10
 |5=>(n-3)*46
 |6=>n*(n-1)
 |_=>0
end
end
end Go.Proofs
namespace aA
section
variable {m:Rm} {g:Nat}
theorem Rm.y7(m:Rm)(ord path:zL):∀i,m.size (ay ord (path.take (m.keep ord path i)))=m.size ord->m.keep ord path i=0
 |0,_=>rfl
 |i+1,h=>by
  rw[keep]at h⊢;have h0:=m.vW ord path i 0 (xaN _);have h0:m.size (ay ord (path.take (m.keep ord path i)))<=m.size ord:=h0;split at h
  ·omega
  rename_i hn;rw[xac hn];exact m.y7 ord path i h
theorem Rm.ES(m:Rm)(w p:Nat)(ord:zL)(h:m.size (ay ord (m.visit w p ord).1)=m.size ord):(m.visit w p ord).1=[]:=by
 have:=m.y7 ord (m.dJ p (me w) ord) (m.dJ p (me w) ord).length h;show List.take _ _=[];rw[this];rfl
theorem Rm.BV(m:Rm)(w p:Nat)(ord:zL):(m.visit w p ord).2<=2*(me w).length:=by
 have h1:=m.l8 p (me w) ord;show _+(_-_)<=_;omega
theorem Rm.z8(m:Rm)(w:Nat)(ord:zL):∀i,(m.all w ord i).2<=i*(2*(me w).length)
 |0=>xaN _
 |i+1=>by
  have h1:=m.z8 w ord i;have h2:=m.BV w i (ay ord (m.all w ord i).1);show(m.all w ord i).2+(m.visit w i (ay ord (m.all w ord i).1)).2<=_;rw[xbC];omega
theorem vz{p q:zL}(hq:q.Nodup)(hp:p.Perm q):∀i,i<=q.length->2*(er p q i).length+i*i<=i*(2*p.length-1)
 |0,_=>by simp[er]
 |i+1,hi=>by
  have:=vz hq hp i zO;obtain⟨_,_,h3⟩:=jP hq hp i zO;have hl:=hp.length_eq;rw[er,xaf,Bo];have h4:=(h3 zO).2;have e1:(i+1)*(i+1)=i*i+i+i+1:=by rw[xbC,Nat.mul_succ];omega
  have e2:(i+1)*(2*p.length-1)=i*(2*p.length-1)+(2*p.length-1):=xbC _ _;rw[e1,e2];omega
theorem Ft{p q:zL}{n:Nat}(hq:q.Nodup)(hp:p.Perm q)(hn:q.length=n):2*(path p q).length<=n*(n-1):=by
 have:=vz hq hp q.length (xag _);have hl:=hp.length_eq;rw[hl,hn]at this;unfold path;rw[hn];cases n with
 |zero=>simpa using this
 |succ k=>
  rw[show 2*(k+1) -1=(k+1)+k by omega,xdx (k+1) (k+1) k]at this;show 2*(er p q (k+1)).length<=(k+1)*k;omega
structure tT(m:Rm)(ord:zL)(ls:zL):Prop where
 mem:∀x∈ls,x+1<m.n
 le:m.size (ay ord ls)<=m.size ord
 len:ls.length+66*m.size (ay ord ls)<=66*m.size ord
theorem tT.nil{ord:zL}:tT m ord []:=⟨by simp,xag _,by simp[ay]⟩
theorem tT.of{ord ls:zL}(h1:∀x∈ls,x+1<m.n)(h2:m.size (ay ord ls)<=m.size ord)(h3:m.size (ay ord ls)=m.size ord->ls=[])(h4:ls.length<=66):tT m ord ls:=by
 refine⟨h1,h2,?_⟩;by_cases e:m.size (ay ord ls)=m.size ord
 ·rw[h3 e];simp[ay]
 omega
theorem Cj(hn:m.n<=64):∀{l ord:zL},ord.Perm (List.range m.n)->(∀v∈l,v<m.n)->(m.ct g ord l).1.length+66*m.size (ay ord (m.ct g ord l).1)<=66*m.size ord
 | [],ord,hp,hl=>by simp[Rm.ct,ay]
 |v::l,ord,hp,hl=>by
  have hv:=FV hp (hl v zI);obtain⟨a1,a2,a3,a4⟩:=m.AI g (ord:=ord) hv;have hin:=KU hv a1;have ih:=Cj hn (l:=l) (ord:=ay ord (road (ord.idxOf v) (m.sA g ord (ord.idxOf v)).1)) (mD hp hin) (λx hx=>hl x (by simp[hx]));have Du:=vg (ord.idxOf v) (m.sA g ord (ord.idxOf v)).1;rw[Rm.ct];simp only;rw[cr,xaf];by_cases e:m.size (ay ord (road (ord.idxOf v) (m.sA g ord (ord.idxOf v)).1))=m.size ord
  ·have e2:=a3 e;rw[e2,fC]at ih Du⊢;simpa[ay]using ih
  omega
theorem pX{ord l:zL}(hp:ord.Perm (List.range m.n))(hl:l.Perm (List.range m.n))(hn:m.n<=64):tT m ord (m.ct g ord l).1/\(m.ct g ord l).2<=3*m.n*(m.n-1):=by
 have hlt:∀v∈l,v<m.n:=λv hv=>xaM.1 (hl.mem_iff.1 hv);have h:=mF (m:=m) (g:=g) (l:=l) hp hlt;have ng:l.length=m.n:=by rw[hl.length_eq,xaz]
 obtain⟨h1,h2,h3,h4,h5⟩:=h;rw[ng]at h4;exact⟨⟨h1,h2,Cj hn hp hlt⟩,by rw[xcJ,xcm m.n,<-xcJ];exact h4⟩
theorem uW(hn:m.n<=64):∀{ls:List (zL)} {ord:zL},ord.Perm (List.range m.n)->(∀l∈ls,l.Perm (List.range m.n))->m.tH g ord ls->tT m ord (m.df g ord ls).1
 | [],ord,hp,hl,hg=>hg.elim
 | [l],ord,hp,hl,hg=>by
  have e:(m.df g ord [l]).1=(m.ct g ord l).1++[]:=rfl;rw[e,xaL];exact(pX hp (hl l zI) hn).1
 |l::l2::r,ord,hp,hl,hg=>by
  obtain⟨g1,g2⟩:=(qu zI).1 hg;have a:=(pX (g:=g) hp (hl l zI) hn).1;have ih:=uW hn (ls:=l2::r) (mD hp a.mem) (λx hx=>hl x (by simp[xam.1 hx])) g2;have e:(m.df g ord (l::l2::r)).1=(m.ct g ord l).1++(m.df g (ay ord (m.ct g ord l).1) (l2::r)).1:=rfl;rw[e];have a1:=a.le;have a2:=a.len;have b1:=ih.le;have b2:=ih.len;refine⟨λx hx=>(xao.1 hx).elim (a.mem x) (ih.mem x),by rw[cr];omega,by rw[cr,xaf];omega⟩
theorem E5{ls:List (zL)}{ord:zL}(hp:ord.Perm (List.range m.n))(hl:∀l∈ls,l.Perm (List.range m.n))(hg:m.tH g ord ls):(m.df g ord ls).2<=3*m.n*(m.n-1)*(m.size ord+1):=by
 have h:=KN hp hl hg;have h1:=h.Yp.2;have h2:=h.uT;have e:3*(m.n-1)*m.n=3*m.n*(m.n-1):=by rw[xcJ,xcm (m.n-1),<-xcJ]
 rw[e]at h2;exact xbG h2 (xc8 _ zO)
theorem Rm.Ej(m:Rm)(w:Nat)(ord:zL):∀i,(m.all w ord i).1.length+66*m.size (ay ord (m.all w ord i).1)<=66*m.size ord
 |0=>by simp[Rm.all,ay]
 |i+1=>by
  have e:(m.all w ord (i+1)).1=(m.all w ord i).1++(m.visit w i (ay ord (m.all w ord i).1)).1:=rfl;have ih:=m.Ej w ord i;have h1:=m.BW w i (ay ord (m.all w ord i).1);have h2:=m.ES w i (ay ord (m.all w ord i).1);have h3:=(m.sj w i (ay ord (m.all w ord i).1)).1;rw[e,cr,xaf];by_cases e2:m.size (ay (ay ord (m.all w ord i).1) (m.visit w i (ay ord (m.all w ord i).1)).1)=m.size (ay ord (m.all w ord i).1)
  ·rw[h2 e2];simpa[ay]using ih
  omega
theorem E7{w:Nat}{ord:zL}(hw:2<=w/\w<=4)(hn:m.n<=64):tT m ord (m.pass w ord).1/\(m.pass w ord).2<=(m.n+1-w)*(2*(me w).length):=by
 refine⟨⟨λx hx=>?_,m.Tq w ord _,m.Ej w ord _⟩,m.z8 w ord _⟩;by_cases e:m.n+1-w=0
 ·have hx:x∈(m.all w ord (m.n+1-w)).1:=hx;rw[e]at hx;exact absurd hx xaP
 have:=m.LX hx;omega
end
end aA
set_option maxRecDepth 100000
namespace Go.Proofs
open Go Go.Sx Tryz
open aA
section
variable {kp:Nat} {K:Kd} {S:Nat->aA.Fn} {ord tr:zL} {C:Hp}
def WN(kp:Nat)(K:Kd)(S:Nat->aA.Fn)(ord tr:zL)(s:Nat)(v:zV)(H:Hp):Prop:=
 ∃(ls:zL) (c:Nat) (d:Bool),v=.tuple #[ua (cG K S ord:Nat) (cG K S (ay ord ls):Nat) (c:Nat) d,iv 0]/\At kp K S (ay ord ls) (tr++ls) H/\tT (rm K S) ord ls/\c<=swB K.n (cG K S ord) s/\(d=true->s=6)
theorem WN.shape{s:Nat}{v:zV}{H:Hp}(h:WN kp K S ord tr s v H):∃(a b c:Int) (d:Bool) (e:zV),v=.tuple #[ua a b c d,e]:=by
 obtain⟨ls,c,d,rfl,_⟩:=h;exact⟨_,_,_,_,_,rfl⟩
theorem KT(h:At kp K S ord tr C)(hp:ord.Perm (List.range K.n)){s gr:Nat}(hs:s<=6)(lZ:100<=gr/\gr<=1000)(hx:s=6->K.n<=12)(eG:tr.length<16492674416640):
  Fc zQ 85 #[ptr kp,.int .u8 (s:Int),iv (gr:Int)] C (WN kp K S ord tr s):=by
 have hn:=h.lz;have hrn:(rm K S).n=K.n:=rfl;have BI:∀o,(rm K S).size o=cG K S o:=λ_=>rfl;have win:∀w:Nat,3<=w/\w<=5->Fc zQ 85 #[ptr kp,.int .u8 (w:Int),iv (gr:Int)] C (WN kp K S ord tr w):=λw hw=>by
  refine Fi h hw lZ ((WJ h (w:=w-1) zO zO).mono ?_) λv H h=>h.shape;rintro v H ⟨rfl,hA⟩;obtain⟨h1,h2⟩:=E7 (m:=rm K S) (w:=w-1) (ord:=ord) zO hn;refine⟨_,_,false,rfl,hA,h1,xbG h2 (Nat.le_of_eq ?_),nofun⟩;rw[hrn];obtain rfl|rfl|rfl:w=3\/w=4\/w=5:=by omega
  ·rfl
  ·show(K.n+1-3)*10=(K.n-2)*10;rw[show K.n+1-3=K.n-2 by omega]
  show(K.n+1-4)*46=(K.n-3)*46;rw[show K.n+1-4=K.n-3 by omega]
 obtain rfl|rfl|rfl|h3|rfl:s=0\/s=1\/s=2\/(3<=s/\s<=5)\/s=6:=by omega
 ·refine Fc.mono (Qs h lZ) ?_;rintro v H ⟨rfl,rfl⟩;exact⟨[],0,false,rfl,by rw[xaL];exact h,.nil,xaN _,nofun⟩
 ·refine Qq h lZ ((Cp h hp lZ zO).mono ?_) λv H h=>h.shape;rintro v H ⟨l,hl,rfl,hA⟩;obtain⟨h1,h2⟩:=pX (m:=rm K S) (g:=gr) hp hl hn;exact⟨_,_,false,rfl,hA,h1,h2,nofun⟩
 ·refine Fj h lZ ((Cd h hp lZ zO).mono ?_);rintro v H ⟨lss,hls,hg,rfl,hA⟩;exact⟨_,_,_,false,_,rfl,_,_,false,rfl,hA,uW hn hp hls hg,E5 hp hls hg,nofun⟩
 ·exact win s h3
 have ue:=hx rfl;refine MN h ue lZ ((Ua h hp ue zO).mono ?_) λv H h=>h.shape;rintro v H ⟨L,EH,tE,Sn,hQ⟩;have hk:∀p:zL,p.Perm (List.range K.n)->cG K S p=kz K.n p L K.n:=λp hp=>by
  unfold cG;rw[tE];exact W5 EH zO (KY hp)
 rcases hQ with⟨e,rfl,hA⟩|⟨hne,o,ls,ho,hls,hQ⟩
 ·exact⟨[],0,true,rfl,by rw[xaL];exact hA,.nil,xaN _,λ_=>rfl⟩
 have hop:o.Perm (List.range K.n):=by rw[ho];exact s8 _
 have hoB:cG K S o=an.B K.n (an.lvl K.n L) 0:=by rw[hk o hop,ho];exact s7 zO EH
 have hle:an.B K.n (an.lvl K.n L) 0<=cG K S ord:=by rw[hk ord hp];exact WC zO EH hp
 have abY:o.Nodup:=hop.nodup_iff.2 xbn;have EF:o.length=K.n:=by rw[hop.length_eq,xaz]
 have hdl:ord.length=K.n:=by rw[hp.length_eq,xaz]
 obtain⟨Pj,RD⟩:=AP abY (hp.trans hop.symm);have BH:=Ft abY (hp.trans hop.symm) EF;rw[<-hls]at Pj RD BH;have EJ:K.n*(K.n-1)<=12*11:=xcb ue zO;rcases hQ with⟨_,rfl,hA⟩|⟨hc,rfl,hA⟩
 ·refine⟨ls,_,true,by rw[Pj],by rw[Pj];exact hA,.of (λx hx=>by have:=RD x hx;omega) ?_ ?_ zO,by show ls.length<=K.n*(K.n-1);omega,λ_=>rfl⟩
  ·rw[Pj,BI,BI];omega
  rw[Pj,BI,BI];omega
 have hgl:=(rm K S).l8 0 ls ord;exact⟨[],_,false,rfl,by rw[xaL];exact hA,.nil,by show 2*_<=K.n*(K.n-1);omega,nofun⟩
end
end Go.Proofs
namespace aA
open an
variable {n:Nat}
def sat(n:Nat)(f:Fn):Nat:=(List.range (2^n)).countP f
def flip(v x:Nat):Nat:=aB x v (!x.testBit v)
theorem flip_flip(v x:Nat):flip v (flip v x)=x:=by
 unfold flip;rw[aj,xad rfl,oB];simpa using ir x v
theorem Lz{v x:Nat}(hv:v<n)(hx:x<2^n):flip v x<2^n:=gf hx hv
theorem NO{v:Nat}(hv:v<n):((List.range (2^n)).map (flip v)).Perm (List.range (2^n)):=by
 refine(xcU ?_ xbn).2 λx=>?_
 ·refine xcc.2 (xbn.imp λ{a b} h e=>h ?_);rw[<-flip_flip v a,e,flip_flip]
 rw[xan];constructor
 ·rintro⟨y,hy,rfl⟩;exact xaM.2 (Lz hv (xaM.1 hy))
 intro hx;exact⟨flip v x,xaM.2 (Lz hv (xaM.1 hx)),flip_flip v x⟩
theorem wH{f g p q:Nat->Bool}(h:∀x,(p x).toNat+(q x).toNat=(f x).toNat+(g x).toNat):∀l:zL,l.countP p+l.countP q=l.countP f+l.countP g
 | []=>rfl
 |x::l=>by
  have:=h x;have:=wH h l;simp only[List.countP_cons];cases hp:p x<;>cases hq:q x<;>cases hf:f x<;>cases hg:g x<;>simp_all<;>omega
theorem Qm{v:Nat}(hv:v<n)(f:Fn):sat n (λx=>f (aB x v false))+sat n (λx=>f (aB x v true))=2*sat n f:=by
 unfold sat;rw[wH (f:=f) (g:=λx=>f (flip v x)) (λx=>?_)]
 ·have:List.countP (λx=>f (flip v x)) (List.range (2^n))=List.countP f (List.range (2^n)):=by
   have h:=(NO hv).countP_eq f;rw[xex]at h;exact h
  omega
 unfold flip;have:=ir x v;cases hb:x.testBit v<;>rw[hb]at this<;>simp only[xco,xcq]<;>rw[this]<;>omega
theorem sB:sat n (λ_=>false)=0:=by simp[sat]
theorem sat_true:sat n (λ_=>true)=2^n:=by simp[sat]
variable {N:eH} {S:Nat->Fn} {ah:Nat->Nat}
theorem Ql(h:WF n ah N)(hl:jX n ah)(hi:Interp N S){r a b:Nat}{d:Nd}(hd:N r=some d)(hv:d.v<n)(ha:a*2^dep n ah N d.lo=sat n (S d.lo))(hb:b*2^dep n ah N d.hi=sat n (S d.hi)):
  (a*2^(dep n ah N d.lo-ah d.v-1)+b*2^(dep n ah N d.hi-ah d.v-1))*2^dep n ah N r=sat n (S r):=by
 have h1:=(h.lo hd).2;have h2:=(h.hi hd).2;rw[aq hd];have e1:(λx=>S r (aB x d.v false))=S d.lo:=by
  have:=(gk h hl hi (r:=r) (.inr ⟨d,hd⟩) hv (by rw[aq hd];exact xag _) false);rw[(kJ hd).1]at this;exact(funext this.1).symm
 have e2:(λx=>S r (aB x d.v true))=S d.hi:=by
  have:=(gk h hl hi (r:=r) (.inr ⟨d,hd⟩) hv (by rw[aq hd];exact xag _) true);rw[(kJ hd).2]at this;exact(funext this.1).symm
 have hh:=Qm hv (S r);rw[e1,e2,<-ha,<-hb]at hh;have p1:2^dep n ah N d.lo=2^(dep n ah N d.lo-ah d.v-1)*(2*2^ah d.v):=by
  rw[<-Nat.pow_succ',<-xdw];congr 1;omega
 have p2:2^dep n ah N d.hi=2^(dep n ah N d.hi-ah d.v-1)*(2*2^ah d.v):=by
  rw[<-Nat.pow_succ',<-xdw];congr 1;omega
 rw[p1,p2]at hh;rw[<-xcJ a,<-xcJ b,<-xdQ,Nat.mul_left_comm]at hh;omega
end aA
set_option maxRecDepth 100000
namespace Go.Proofs
open Go Go.Sx Tryz
section
open aA
theorem UQ{P:Program}{f:FuncId}{args:Array zV}{B:Hp}{Q:zV->Prop}(h:Px P f args B (λv _=>Q v)):Rd P f args B Q:=λg=>(h g).mono λe H h=>by
 obtain⟨v,H2,rfl,he,hg,hq⟩:=h;exact⟨v,B,rfl,he.trans hg.dL,rfl,hq⟩
theorem ae.adE{a b:Nat}{k:zV->Prop}(h:k (.int .u64 (((a+b)%18446744073709551616:Nat):Int))):ae .num .add (.int .u64 (a:Int)) (.int .u64 (b:Int)) k:=by
 refine ae.add ?_;rw[wrap_u64];have:(((a:Int)+(b:Int))%18446744073709551616)=((((a+b)%18446744073709551616:Nat)):Int):=by omega
 rw[this];exact h
section
variable {kp:Nat} {K:Kd} {S:Nat->aA.Fn} {ord ah tr:zL} {C:Hp}
theorem o8(r:Nat)(B:Hp):Rd zQ 201 #[u32 r] B (· =.bool (decide (r<2))):=by
 refine aF λg=>Jn (ae.dQ (b:=0) (cm.or (a:=decide (r=0)) (decide (r=1)) (λ_=>ae.dQ (b:=1) ⟨rfl,rfl⟩) rfl λ_=>?_));refine aZ.mk (.refl _) ?_;rw[<-xa8];congr 1;exact xcx.2 zO
theorem S6(h:cf kp K S ord ah tr C){r v:Nat}(hr:live K.N r)(hv:v<18446744073709551616):
  Rd zQ 144 #[ptr kp,u32 r,.int .u64 (v:Int)] C (· =.tuple #[.bool (S r v),iv 0]):=by
 have sN:K.n<=64:=h.bc.lz;refine aF λg=>JU (az.int (e:=110) zK zK zK λbx=>?_);refine aa.eh .here (UQ (wM (X:=[(bx,_)]) (rs:=[r]) h (dz.block (by exact .head _) zI) (λx hx=>by rw[xaI.1 hx];exact hr) zI)) (ae.cD (Br.F (⟨λvs H=>∃q:Nat,vs=[u32 q]/\H=C/\live K.N q/\S q v=S r v,λvs _=>K.n-dep K.n (lv ah) K.N (bL vs 0),JE.of .tail ⟨r,rfl,rfl,hr,rfl⟩,?_⟩)));rintro w H ⟨q,⟨⟩,rfl,hq,he⟩ gs;refine aa.eq (o8 q _) (Un.not (Br.mk (λhb=>?_) (λhb=>?_)))
 ·have h2:2<=q:=by simpa using hb
  obtain⟨d,hN⟩:∃d,K.N q=some d:=by
   rcases hq with hq|hq
   ·omega
   exact hq
  have kZ:=h.ok.mid.var hN;have hlo:=h.ok.wf.lo hN;have hhi:=h.ok.wf.hi hN;have hvl:=h.ok.lv.lt _ kZ;refine aa.eh .here (UQ (wJ (X:=[]) h hN)) λsg _=>?_;refine St.p (fG d) ?_;refine Ld.f ?_;refine Ld.f ?_;refine ae.iM (by simpa[bG]using hv) (ae.jz (by simp[bG];exact xaA (xbo _ _) hv) zD (ae.dQ (b:=1) ?_));rw[xbU];rw[Bj];have Lm:=h.ok.mid.int.node hN v;refine Br.mk (λhb=>?_) (λhb=>?_)
  ·rw[hb,xad rfl]at Lm;refine Ld.f ?_;refine aC.of .tail ⟨d.hi,rfl,rfl,hhi.1,Lm.symm.trans he⟩ ?_;show K.n-dep K.n (lv ah) K.N d.hi<K.n-dep K.n (lv ah) K.N q;rw[aq hN];omega
  rw[hb,xac zD]at Lm;refine aC.of .tail ⟨d.lo,rfl,rfl,hlo.1,Lm.symm.trans he⟩ ?_;show K.n-dep K.n (lv ah) K.N d.lo<K.n-dep K.n (lv ah) K.N q;rw[aq hN];omega
 have h2:q<2:=by simpa using hb
 refine ae.dQ (b:=1) (aZ.mk (.refl _) ?_);rw[<-he];have hint:=h.ok.mid.int;have:q=0\/q=1:=by omega
 rcases this with rfl|rfl
 ·rw[hint.zero];rfl
 rw[hint.one];rfl
end
end
section
open aA
section
variable {kp mb b1 b9 c9 c1 c3 Oa:Nat} {K:Kd} {S:Nat->aA.Fn} {ord ah tr:zL} {C Z:Hp}
abbrev Bx:Nat:=18446744073709551616
abbrev u64(x:Nat):zV:=.int .u64 (x:Int)
theorem wI(h:cf kp K S ord ah tr C){r:Nat}{d:Nd}(hd:K.N r=some d):Rd zQ 202 #[ptr kp,u32 r] C (· =.agg (bu d).toArray):=UQ (wJ (X:=[]) h hd)
theorem wL(h:cf kp K S ord ah tr C){X:Hp}{r b:Nat}(hm:(b,Obj.cells (av .u32 [(r:Int)]) 110 zZ)∈X)(hr:live K.N r):Rd zQ 200 #[ptr kp,.slice (some ⟨b,0,none⟩) 1 1] (X++C) (· =iv 0):=
 UQ (wM (X:=X) (rs:=[r]) h (dz.block (xae _ hm) zI) (λx hx=>by rw[xaI.1 hx];exact hr) zI)
def cw(K:Kd)(ah:zL)(S:Nat->aA.Fn)(r:Nat):Nat:=sat K.n (S r) /2^dep K.n (lv ah) K.N r
theorem rS(h:cf kp K S ord ah tr C){r:Nat}(hr:r<2):cw K ah S r=r:=by
 have hi:=h.ok.mid.int;have h0:K.N r=none:=by
  cases hN:K.N r with
  |none=>rfl
  |some d=>have:=h.ok.mid.two hN;omega
 unfold cw;rw[aT h0];have:r=0\/r=1:=by omega
 rcases this with rfl|rfl
 ·rw[show S 0=λ_=>false from funext hi.zero,sB,Nat.zero_div]
 rw[show S 1=λ_=>true from funext hi.one,sat_true,Nat.div_self (xbs _)]
theorem SN(h:cf kp K S ord ah tr C):∀(k r:Nat),K.n-dep K.n (lv ah) K.N r<=k->live K.N r->cw K ah S r*2^dep K.n (lv ah) K.N r=sat K.n (S r)/\
  (∀d,K.N r=some d->cw K ah S r=cw K ah S d.lo*2^(dep K.n (lv ah) K.N d.lo-lv ah d.v-1)+cw K ah S d.hi*2^(dep K.n (lv ah) K.N d.hi-lv ah d.v-1)):=by
 have hi:=h.ok.mid.int;intro k;induction k with
 |zero=>
  intro r hk hr;cases hN:K.N r with
  |some d=>
   rw[aq hN]at hk;have:=h.ok.lv.lt _ (h.ok.mid.var hN);omega
  |none=>
   have h2:r<2:=by
    rcases hr with hr|⟨d,e⟩
    ·exact hr
    rw[hN]at e;cases e
   refine⟨?_,λd hd=>by cases hd⟩;rw[rS h h2,aT hN];have:r=0\/r=1:=by omega
   rcases this with rfl|rfl
   ·rw[show S 0=λ_=>false from funext hi.zero,sB,xd2]
   rw[show S 1=λ_=>true from funext hi.one,sat_true,xdj]
 |succ k ih=>
  intro r hk hr;cases hN:K.N r with
  |none=>
   rw[aT hN]at*;have h2:r<2:=by
    rcases hr with hr|⟨d,e⟩
    ·exact hr
    rw[hN]at e;cases e
   refine⟨?_,λd hd=>by cases hd⟩;rw[rS h h2];have:r=0\/r=1:=by omega
   rcases this with rfl|rfl
   ·rw[show S 0=λ_=>false from funext hi.zero,sB,xd2]
   rw[show S 1=λ_=>true from funext hi.one,sat_true,xdj]
  |some d=>
   have hlo:=h.ok.wf.lo hN;have hhi:=h.ok.wf.hi hN;have hvl:=h.ok.lv.lt _ (h.ok.mid.var hN);have e1:=aq (n:=K.n) (ah:=lv ah) hN;have q:=Ql h.ok.wf h.ok.lv hi hN (h.ok.mid.var hN) (ih d.lo zO hlo.1).1 (ih d.hi zO hhi.1).1;have e2:cw K ah S r=cw K ah S d.lo*2^(dep K.n (lv ah) K.N d.lo-lv ah d.v-1)+cw K ah S d.hi*2^(dep K.n (lv ah) K.N d.hi-lv ah d.v-1):=by
    show sat K.n (S r) /_=_;rw[<-q,Nat.mul_div_cancel _ (xbs _)]
   exact⟨by rw[e2];exact q,λd' hd=>by cases hd;exact e2⟩
theorem su(h:cf kp K S ord ah tr C){r:Nat}(hr:live K.N r)(h1:(b1,Obj.cells #[ptr kp] 85 zZ)∈Z):
  Rd zQ 203 #[u32 r,ptr b1] (Z++C) (· =iv ((dep K.n (lv ah) K.N r:Nat):Int)):=by
 have sR:=xae C h1;refine aF λg=>Jl (aa.eq (o8 r _) (Br.mk (λhb=>?_) (λhb=>?_)))
 ·have h2:r<2:=xcd hb;refine Ld.mk sR rfl ?_;refine aa.eq (gO h.rep) (aZ.mk (.refl _) ?_);have h0:K.N r=none:=by
   cases hN:K.N r with
   |none=>rfl
   |some d=>have:=h.ok.mid.two hN;omega
  rw[aT h0]
 have h2:¬r<2:=xdf hb;obtain⟨d,hN⟩:∃d,K.N r=some d:=by
  rcases hr with hr|hr
  ·omega
  exact hr
 have kZ:=h.ok.mid.var hN;refine DR.of (.refl _) (Ld.mk sR rfl ?_);refine Ld.mk sR rfl ?_;intro F;refine aa.eq (args:=#[ptr kp,u32 r]) (wI h hN) (⟨.refl _,?_⟩);refine An.mk (off:=0) (cs:=(bu d).toArray) (v:=iv (d.v:Int)) rfl ?_;intro F;refine aa.eq (args:=#[ptr kp,iv (d.v:Int)]) (lR h.rep _) (⟨.refl _,?_⟩);rw[xad ⟨by omega,by omega⟩];refine Ext.two (aZ.mk (.refl _) ?_);rw[aq hN];rfl
theorem AH(a k:Nat):((a%Bx)<<<k)%Bx=(a*2^k)%Bx:=by
 rw[xcn,Nat.mod_mul_mod]
theorem UI(h:cf kp K S ord ah tr C){r:Nat}{d:Nd}(hN:K.N r=some d)(h1:(b1,Obj.cells #[ptr kp] 85 zZ)∈Z)(h9:(b9,Obj.cells #[.func (.func 203) #[] #[ptr b1]] 260 zZ)∈Z):
  Rd zQ 205 #[.agg (bu d).toArray,u64 (cw K ah S d.lo%Bx),u64 (cw K ah S d.hi%Bx),ptr b1,ptr b9] (Z++C) (· =u64 (cw K ah S r%Bx)):=by
 have sR:=xae C h1;have h9':=xae C h9;have kZ:=h.ok.mid.var hN;have hlo:=h.ok.wf.lo hN;have hhi:=h.ok.wf.hi hN;have hn:=h.bc.lz;have hdl:=h.ok.wf.iD h.ok.lv d.lo;have hdh:=h.ok.wf.iD h.ok.lv d.hi;refine aF λg=>Jj λc1 _=>?_;refine Ld.mk (.tail _ sR) rfl ?_;refine Ld.f (v:=iv (d.v:Int)) (aa.eq (lR h.rep _) ?_);rw[xad ⟨by omega,by omega⟩];refine Ext.two (DR.of (.refl _) (Ld.mk (.tail _ h9') rfl ?_));refine Ld.f (v:=u32 d.lo) (Ld.mk (.tail _ h9') rfl ?_);refine Ld.f (v:=u32 d.hi) λF=>?_;refine aK.of rfl zK (aa.eq (args:=#[u32 d.lo,ptr b1]) (su (Z:=Z) h hlo.1 h1) (⟨.refl _,?_⟩));rw[xbh];show ae _ _ (iv ((dep K.n (lv ah) K.N d.lo:Nat):Int)) (iv ((lv ah d.v:Nat):Int)) _;refine ae.bZ (ae.bZ (b:=1) (ae.nr λF=>(aK.of rfl zK (aa.eq (args:=#[u32 d.hi,ptr b1]) (su (Z:=Z) h hhi.1 h1) ?_))));show ae _ _ (iv ((dep K.n (lv ah) K.N d.hi:Nat):Int)) (iv ((lv ah d.v:Nat):Int)) _;refine ae.bZ (ae.bZ (b:=1) (ae.nr (ae.adE (aZ.mk .tail ?_))));rw[AH,AH,<-Nat.add_mod,(SN h K.n r (xdt _ _) (.inr ⟨d,hN⟩)).2 d hN]
structure KnS(K:Kd)(ah:zL)(S:Nat->aA.Fn)(es:Array MapEntry)(ck:Nat)(m:List (Nat×Nat)):Prop where
 dL:aE kr (λv (x:Nat)=>v=u64 x) es ck m
 val:∀r x,aJ m r=some x->x=cw K ah S r%Bx
 low:∀r,r<2->aJ m r≠none
theorem MM(h:cf kp K S ord ah tr C)(h9:(c9,Obj.cells #[.map (some mb)] 349 zZ)∈Z)(h1:(c1,Obj.cells #[ptr kp] 85 zZ)∈Z)(h3:(c3,Obj.cells #[.func (.func 205) #[] #[ptr b1,ptr b9]] 265 zZ)∈Z)
 (NK:(Oa,Obj.cells #[.func (.func 290) #[] #[ptr c9,ptr c1,ptr c3,ptr Oa]] 350 zZ)∈Z)(hb1:(b1,Obj.cells #[ptr kp] 85 zZ)∈Z)(hb9:(b9,Obj.cells #[.func (.func 203) #[] #[ptr b1]] 260 zZ)∈Z):
  ∀(k r:Nat) (es:Array MapEntry) (ck:Nat) (m:List (Nat×Nat)),K.n-dep K.n (lv ah) K.N r<=k->live K.N r->KnS K ah S es ck m->
  Fc zQ 290 #[u32 r,ptr c9,ptr c1,ptr c3,ptr Oa] ((mb,.map es ck)::(Z++C)) (λv H=>v=u64 (cw K ah S r%Bx)/\∃es' bB m',H=(mb,.map es' bB)::(Z++C)/\KnS K ah S es' bB m'):=by
 have hit:∀{r:Nat} {es:Array MapEntry} {ck:Nat} {m:List (Nat×Nat)} {x:Nat},KnS K ah S es ck m->aJ m r=some x->
   Fc zQ 290 #[u32 r,ptr c9,ptr c1,ptr c3,ptr Oa] ((mb,.map es ck)::(Z++C)) (λv H=>v=u64 (cw K ah S r%Bx)/\∃es' bB m',H=(mb,.map es' bB)::(Z++C)/\KnS K ah S es' bB m'):=by
  intro r es ck m x hm hv;refine aF λg=>xw (Ld.mk (v:=.map (some mb)) (.tail _ (xae _ h9)) rfl ?_);refine hm.dL.hit (k:=r) cZ (b:=mb) (by exact .head _) hv λv' e=>?_;subst e;exact Ext.two (Br.yes (aM.mk (.refl _) ⟨by rw[hm.val r x hv],es,ck,m,rfl,hm⟩))
 intro k;induction k with
 |zero=>
  intro r es ck m hk hr hm;have qs:r<2:=by
   cases hN:K.N r with
   |some d=>
    rw[aq hN]at hk;have:=h.ok.lv.lt _ (h.ok.mid.var hN);omega
   |none=>
    rcases hr with hr|⟨d,e⟩
    ·exact hr
    rw[hN]at e;cases e
  cases hv:aJ m r with
  |none=>exact absurd hv (hm.low r qs)
  |some v=>exact hit hm hv
 |succ k ih=>
  intro r es ck m hk hr hm;cases hv:aJ m r with
  |some v=>exact hit hm hv
  |none=>
  have qs:¬r<2:=λh2=>hm.low r h2 hv;obtain⟨d,hN⟩:∃d,K.N r=some d:=by
   rcases hr with hr|hr
   ·omega
   exact hr
  have hlo:=h.ok.wf.lo hN;have hhi:=h.ok.wf.hi hN;rw[aq hN]at hk;have hvl:=h.ok.lv.lt _ (h.ok.mid.var hN);refine aF λg=>xw (Ld.mk (v:=.map (some mb)) (.tail _ (xae _ h9)) rfl ?_);refine hm.dL.bM (k:=r) cZ (b:=mb) (by exact .head _) hv ?_;refine Ext.two (Br.no (Ld.mk (v:=ptr kp) (.tail _ (xae _ h1)) rfl ?_));refine aa.eq (args:=#[ptr kp,u32 r]) (wI h hN) λb8 _=>?_;refine St.p (fG d) ?_;refine DR.of (R:=(b8,Obj.cells (bu d).toArray 226 zZ)::Z) (.cons (.skip .left)) (Ld.mk (v:=.func (.func 205) #[] #[ptr b1,ptr b9]) (.tail _ h3) rfl ?_);refine ax.q ?_;refine Ld.mk (v:=.func (.func 290) #[] #[ptr c9,ptr c1,ptr c3,ptr Oa]) (.tail _ NK) rfl ?_;refine Ld.f (v:=u32 d.lo) (Ld.mk (v:=.func (.func 290) #[] #[ptr c9,ptr c1,ptr c3,ptr Oa]) (.tail _ NK) rfl ?_);refine Ld.f (v:=u32 d.hi) λF=>?_;refine aK.of rfl zK (aa.fq (args:=#[u32 d.lo,ptr c9,ptr c1,ptr c3,ptr Oa]) (ih d.lo es ck m zO hlo.1 hm) ?_);rintro v1 H ⟨rfl,kf,jJ,m1,rfl,uf⟩;refine⟨.cons (.skip .left),?_⟩;intro F;refine aK.of rfl zK (aa.fq (args:=#[u32 d.hi,ptr c9,ptr c1,ptr c3,ptr Oa]) (ih d.hi kf jJ m1 zO hhi.1 uf) ?_);rintro v2 H ⟨rfl,gV,iE,m2,rfl,lY⟩;refine⟨.cons (.skip .left),?_⟩;intro F;refine aK.of rfl zK (aa.eq (args:=#[.agg (bu d).toArray,u64 (cw K ah S d.lo%Bx),u64 (cw K ah S d.hi%Bx),ptr b1,ptr b9]) (UI (Z:=Z) h hN hb1 hb9) (Ld.mk (v:=.map (some mb)) (.tail _ (.tail _ (xae _ h9))) rfl ?_));refine lY.dL.br (k:=r) (b:=mb) (x:=cw K ah S r%Bx) cZ gP rfl λo5 qN he=>⟨_,.tail (.head _),?_⟩;refine aM.mk .tail ⟨rfl,o5,qN,_,rfl,he,λr' x' nU=>?_,λr' hr'=>?_⟩
  ·rw[bJ]at nU;split at nU
   ·rename_i e;subst e;cases nU;rfl
   exact lY.val r' x' nU
  rw[bJ];split
  ·simp
  exact lY.low r' hr'
theorem SQ(h:cf kp K S ord ah tr C){r:Nat}(hr:live K.N r):
  Rd zQ 146 #[ptr kp,u32 r] C (· =.tuple #[u64 (sat K.n (S r)%Bx),iv 0]):=by
 have hi:=h.ok.mid.int;refine aF λg=>JS λb1 _=>?_;refine Ld.q ?_;refine az.int (e:=110) zK zK zK λbx=>?_;refine aa.eh .here (wL (X:=[(bx,_),(b1,_)]) h (by exact .head _) hr) (ae.cD (Br.F λb9 _=>(St.one (c':=#[.func (.func 203) #[] #[ptr b1]]) (by exact .head _) rfl zI rfl ?_)));refine Ld.q ?_;refine aa.fq (args:=#[ptr kp,u32 r,u64 0,u64 1,.func (.func 205) #[] #[ptr b1,ptr b9]]) (C:=(b9,Obj.cells #[.func (.func 203) #[] #[ptr b1]] 260 zZ)::(bx,_)::(b1,Obj.cells #[ptr kp] 85 zZ)::C) (Q:=λv H=>v=u64 (cw K ah S r%Bx)/\H=(b9,Obj.cells #[.func (.func 203) #[] #[ptr b1]] 260 zZ)::(bx,Obj.cells (av .u32 [(r:Int)]) 110 zZ)::(b1,Obj.cells #[ptr kp] 85 zZ)::C) (aF λg=>Jk ?_) ?_
 ·intro c1 _ c3 _ mb _;refine aE.br (ke:=kr) (vr:=λv (x:Nat)=>v=u64 x) (k:=0) (b:=mb) (x:=0) cZ gP aE.empty rfl λkf jJ Gc=>⟨_,.head _,?_⟩;refine aE.br (ke:=kr) (vr:=λv (x:Nat)=>v=u64 x) (k:=1) (b:=mb) (x:=1) cZ gP Gc rfl λgV iE XC=>⟨_,.head _,?_⟩;intro c9 _;refine St.one (c':=#[.map (some mb)]) (by exact .head _) rfl zI rfl ?_;intro Oa _;refine St.one (c':=#[.func (.func 290) #[] #[ptr c9,ptr c1,ptr c3,ptr Oa]]) (by exact .head _) rfl zI rfl ?_;refine Ld.q ?_;refine aK.of rfl zK ?_;obtain⟨Z,hZ⟩:∃Z:Hp,Z=[(Oa,Obj.cells #[.func (.func 290) #[] #[ptr c9,ptr c1,ptr c3,ptr Oa]] 350 zZ),(c9,.cells #[.map (some mb)] 349 zZ),(c3,.cells #[.func (.func 205) #[] #[ptr b1,ptr b9]] 265 zZ),(c1,.cells #[ptr kp] 85 zZ),
   (b9,Obj.cells #[.func (.func 203) #[] #[ptr b1]] 260 zZ),(bx,Obj.cells (av .u32 [(r:Int)]) 110 zZ),(b1,Obj.cells #[ptr kp] 85 zZ)]:=⟨_,rfl⟩
  refine aa.pre (H':=(mb,Obj.map gV iE)::(Z++C)) (.perm ?_) ?_
  ·rw[hZ];exact(List.Perm.cons _ (List.Perm.swap _ _ _)).trans (List.Perm.swap _ _ _)
  refine aa.fq (args:=#[u32 r,ptr c9,ptr c1,ptr c3,ptr Oa]) (MM (Z:=Z) (b1:=b1) (b9:=b9) h (by rw[hZ];exact .tail _ (.head _)) (by rw[hZ];exact .tail _ (.tail _ (.tail _ (.head _)))) (by rw[hZ];exact .tail _ (.tail _ (.head _))) (by rw[hZ];exact .head _) (by rw[hZ];exact .tail _ (.tail _ (.tail _ (.tail _ (.tail _ (.tail _ (.head _))))))) (by rw[hZ];exact .tail _ (.tail _ (.tail _ (.tail _ (.head _))))) K.n r gV iE _ (xdt _ _) hr ⟨XC,λr' x hm=>?_,λr' hr'=>?_⟩) ?_
  ·rw[bJ,bJ]at hm;split at hm
   ·rename_i e;subst e;cases hm;rw[rS h zD];rfl
   split at hm
   ·rename_i e;subst e;cases hm;rw[rS h zD];rfl
   simp[aJ]at hm
  ·rw[bJ,bJ];have:r'=0\/r'=1:=by omega
   rcases this with rfl|rfl<;>simp
  rintro v H ⟨rfl,o5,qN,m3,rfl,_⟩;refine aM.mk ?_ ⟨rfl,rfl⟩;rw[hZ];exact .skip (.skip (.skip (.skip (.skip (.refl _)))))
 rintro v H ⟨rfl,rfl⟩;refine Ld.q ?_;refine aK.of rfl zK (aa.eh (args:=#[u32 r,ptr b1]) .here (su (Z:=[(b9,_),(bx,_),(b1,_)]) h hr (by exact .tail _ (.tail _ (.head _)))) (ae.nr (aZ.mk (.skip (.skip .tail)) ?_)));rw[AH,(SN h K.n r (xdt _ _) hr).1]
end
end
end Go.Proofs
namespace Go.Sx
open Go
section
variable {P:Program} {g:Gh} {H:Hp}
def kI(kd:IntKind)(a:Int):zV:=.int kd a
theorem ca(kd:IntKind)(a b:Int):Instr.sameNow (.int kd) (kI kd a) (kI kd b)=some (decide (a=b)):=by
 simp only[Instr.sameNow,kI,xa7,xas];rw[xbN];simp
theorem A1(kd:IntKind)(a:Int):Instr.sameBits 10000 (kI kd a) (kI kd a)=true:=by simp[Instr.sameBits,kI]
theorem aE.look{κ β:Type}[DecidableEq κ]{ke:κ->zV}{vr:zV->β->Prop}{es:Array MapEntry}{ck b:Nat}{m:List (κ×β)}{kd:TypeDesc}{zero:zV}{ok:Bool}{k:κ}{K:zV->Prop}(hk:∀a b,Instr.sameNow kd (ke a) (ke b)=some (decide (a=b)))(h:aE ke vr es ck m)(hm:(b,Obj.map es ck)∈H)
 (h1:∀x v,aJ m k=some x->vr v x->K (cond ok (.tuple #[v,.bool true]) v))(h2:aJ m k=none->K (cond ok (.tuple #[zero,.bool false]) zero)):c6 kd zero ok H (.map (some b)) (ke k) K:=by
 cases hx:aJ m k with
 |none=>exact h.bM hk hm hx (h2 hx)
 |some x=>exact h.hit hk hm hx λv hv=>h1 x v hx hv
end
end Go.Sx
set_option maxRecDepth 100000
namespace Go.Proofs
open Go Go.Sx Tryz
section
open aA
section
variable {B:Hp}
abbrev i64(a:Int):zV:=iv a
abbrev eW(e h:Int)(n:Nat)(t:Int):zV:=.agg #[i64 e,i64 h,u64 n,i64 t]
theorem bC(e h:Int)(n:Nat)(t:Int):∀u∈[i64 e,i64 h,u64 n,i64 t],u.oneCell'=true:=λu hu=>by
 simp only[xam,xaP,xbD]at hu;rcases hu with rfl|rfl|rfl|rfl<;>rfl
theorem cz(e:Int)(B:Hp):Rd zQ 41 #[i64 e] B (· =eW e (-1) 0 0):=by
 refine aF λg=>O0 λb1 _=>?_;refine Build.mk (cs:=[i64 e,i64 (-1),u64 0,i64 0]) zK (St.p (bC _ _ _ _) ?_);refine ax.q ?_;exact aZ.mk .tail rfl
theorem dS(n:Nat)(e:Int)(B:Hp):Rd zQ 143 #[u64 n,i64 e] B (· =if e=0 then eW 0 (-1) n 0 else eW e (-1) 0 0):=by
 refine aF λg=>JV λb1 _=>?_;refine ae.neq ?_;by_cases he:e=0
 ·subst he;refine Br.TQ rfl (Build.mk (cs:=[i64 0,i64 (-1),u64 n,i64 0]) zK (St.p (bC _ _ _ _) ?_));refine ax.q ?_;exact aZ.mk .tail rfl
 refine Br.T9 (by simpa using he) (aa.eq (cz e _) (St.p (r:=[i64 e,i64 (-1),u64 0,i64 0]) (bC _ _ _ _) ?_));refine ax.q ?_;exact aZ.mk .tail (by rw[xac he])
theorem KR(b:Bool)(B:Hp):Rd zQ 145 #[.bool b] B (· =u64 b.toNat):=by
 refine aF λg=>JT ?_;cases b
 ·exact Br.no (aZ.mk (.refl _) rfl)
 exact Br.yes (aZ.mk (.refl _) rfl)
structure fZ where
 op:Nat
 a:Int
 b:Int
 c:Int
 x:Nat
def fZ.cells(s:fZ):List zV:=[.int .u8 (s.op:Int),i64 s.a,i64 s.b,i64 s.c,u64 s.x]
abbrev fZ.v(s:fZ):zV:=.agg s.cells.toArray
theorem fZ.one(s:fZ):∀u∈s.cells,u.oneCell'=true:=λu hu=>by
 simp only[fZ.cells,xam,xaP,xbD]at hu;rcases hu with rfl|rfl|rfl|rfl|rfl<;>rfl
structure fZ.Ok(s:fZ):Prop where
 op:s.op<256
 a: -9223372036854775808<=s.a/\s.a<=9223372036854775807
 b: -9223372036854775808<=s.b/\s.b<=9223372036854775807
 c: -9223372036854775808<=s.c/\s.c<=9223372036854775807
 x:s.x<18446744073709551616
structure Cf where
 n:Nat
 cap:Nat
 str:Nat
 gr:Nat
 rs:Nat
def Cf.cells(c:Cf):List zV:=[i64 c.n,i64 c.cap,.int .u8 (c.str:Int),i64 c.gr,i64 c.rs]
abbrev jN(sp:Nat)(c:Cf)(kp mb nx:Nat):Nat×Obj:=(sp,.cells (c.cells++[ptr kp,.map (some mb),i64 (nx:Int)]).toArray 90 zZ)
structure iq(kp nx:Nat)(c:Cf)(K:Kd)(S:Nat->aA.Fn)(ord ah tr:zL)(hs:List (Int×Nat))(es:Array MapEntry)(ck:Nat)(C:Hp):Prop where
 ks:cf kp K S ord ah tr C
 n:K.n=c.n
 cap:K.cap=c.cap
 dL:aE (kI .i64) (λv (r:Nat)=>v=u32 r) es ck hs
 live:∀p∈hs,live K.N p.2
 hold:∀r,K.hold r=if 2<=r then(hs.map Prod.snd).count r else 0
 lt:∀p∈hs,0<=p.1/\p.1<nx
abbrev gS(sp:Nat)(c:Cf)(kp mb nx:Nat)(es:Array MapEntry)(ck:Nat)(C:Hp):Hp:=jN sp c kp mb nx::(mb,.map es ck)::C
end
section
variable {sp kp mb nx:Nat} {c:Cf} {K:Kd} {S:Nat->aA.Fn} {ord ah tr:zL} {hs:List (Int×Nat)} {es:Array MapEntry} {ck:Nat} {C:Hp}
theorem eS(h:iq kp nx c K S ord ah tr hs es ck C)(a:Int):Rd zQ 133 #[ptr sp,i64 a] (gS sp c kp mb nx es ck C) (· =.bool (aJ hs a).isSome):=by
 refine aF λg=>Ka (Ld.n (v:=.map (some mb)) ?_);refine h.dL.look (k:=a) (ca _) (by exact .tail _ (.head _)) (λx v hx hv=>?_) (λhx=>?_)
 ·exact Ext.two (aZ.mk (.refl _) (by rw[hx];rfl))
 exact Ext.two (aZ.mk (.refl _) (by rw[hx];rfl))
theorem BX(a:Int):Rd zQ 132 #[ptr sp,i64 a] (gS sp c kp mb nx es ck C) (· =.bool (decide (0<=a/\a<c.n))):=by
 refine aF λg=>Kb (ae.geq (cm.and (a:=decide (0<=a)) (decide (a<c.n)) (λ_=>?_) rfl λ_=>?_))
 ·exact Nil.ptr (ai.mk (Ld.f (v:=i64 c.n) (ae.lss ⟨rfl,rfl⟩)))
 exact aZ.mk (.refl _) (by rw[<-xdC])
theorem Lj(a:Int)(B:Hp):Rd zQ 131 #[i64 a] B (· =.bool (decide (a=0\/a=1))):=by
 refine aF λg=>Ke (ae.eql (cm.or (a:=a==0) (a==1) (λ_=>ae.eql ⟨rfl,rfl⟩) rfl λ_=>?_));refine aZ.mk (.refl _) ?_;rw[xa8];rfl
def GH(w:Nat)(x:fZ):Bool:=decide (w&&&32≠0) && !decide (x.a=0\/x.a=1)
def Oe(w:Nat)(x:fZ):Bool:=decide (w&&&64≠0) && !decide (x.c=0\/x.c=1)
def Fy(n w:Nat)(x:fZ):Bool:=decide (w&&&8≠0) && !decide (0<=x.a/\x.a<n)
def Fx(n w:Nat)(x:fZ):Bool:=decide (w&&&16≠0) && !decide (0<=x.b/\x.b<n)
def M4(n w:Nat)(x:fZ):Bool:=decide (w&&&128≠0) &&decide (x.x>>>n≠0)
def wE(hs:List (Int×Nat))(w:Nat)(x:fZ):Bool:=decide (w&&&1≠0) && !(aJ hs x.a).isSome
def wD(hs:List (Int×Nat))(w:Nat)(x:fZ):Bool:=decide (w&&&2≠0) && !(aJ hs x.b).isSome
def zy(hs:List (Int×Nat))(w:Nat)(x:fZ):Bool:=decide (w&&&4≠0) && !(aJ hs x.c).isSome
def kE(n:Nat)(hs:List (Int×Nat))(w:Nat)(x:fZ):Int:=
 if(GH w x||Oe w x)=true then 1 else if(Fy n w x||Fx n w x||M4 n w x)=true then 2 else if(wE hs w x||wD hs w x||zy hs w x)=true then 3 else 0
theorem ae.has{w m:Nat}{k:zV->Prop}(hw:w<256)(hm:m<256)(h:k (.bool (decide (w&&&m≠0)))):ae .num .and (.int .u8 (w:Int)) (.int .u8 (m:Int)) λv=>ae .num .neq v (.int .u8 0) k:=by
 refine ae.jz (by simpa[bG]using hw) (by simpa[bG]using hm) (ae.neq ?_);have:(((w&&&m:Nat):Int) !=0)=decide (w&&&m≠0):=by
  rw[xbN];simp
 rw[this];exact h
theorem look_ok(h:iq kp nx c K S ord ah tr hs es ck C){x:fZ}{w:Nat}(hw:w<256)(hx:x.x<18446744073709551616):Rd zQ 83 #[ptr sp,x.v,.int .u8 (w:Int)] (gS sp c kp mb nx es ck C) (· =i64 (kE c.n hs w x)):=by
 refine aF λg=>OG λb1 _ J3 h3=>?_;have SK:∀b:Bool,(GH w x||Oe w x)=b->J3 [.bool b] ((b1,.cells (Value.cells x.v) 35 zZ)::gS sp c kp mb nx es ck C):=λb hb=>by
  refine h3 _ _ λ_=>?_;cases b;rotate_left
  ·exact Br.yes (aZ.mk .tail (by unfold kE;rw[xad hb]))
  refine Br.no λJ7 h7=>?_;have SJ:∀b:Bool,(Fy c.n w x||Fx c.n w x||M4 c.n w x)=b->J7 [.bool b] ((b1,.cells (Value.cells x.v) 35 zZ)::gS sp c kp mb nx es ck C):=λb' hb'=>by
   refine h7 _ _ λ_=>?_;cases b';rotate_left
   ·exact Br.yes (aZ.mk .tail (by unfold kE;rw[hb,xac zD,xad hb']))
   refine Br.no λJ11 h11=>?_;have LI:∀b:Bool,(wE hs w x||wD hs w x||zy hs w x)=b->J11 [.bool b] ((b1,.cells (Value.cells x.v) 35 zZ)::gS sp c kp mb nx es ck C):=λb2 sb=>by
    refine h11 _ _ λ_=>?_;cases b2
    ·exact Br.no (aZ.mk .tail (by unfold kE;rw[hb,hb',sb];rfl))
    exact Br.yes (aZ.mk .tail (by unfold kE;rw[hb,hb',xac zD,xac zD,xad sb]))
   intro J15 h15;have k15:∀b:Bool,wE hs w x=b->J15 [.bool b] ((b1,.cells (Value.cells x.v) 35 zZ)::gS sp c kp mb nx es ck C):=λb2 sb=>by
    refine h15 _ _ λ_=>?_;cases b2;rotate_left
    ·exact Br.yes (JE.mk (LI true (by rw[sb];rfl)))
    refine Br.no λJ19 h19=>?_;have k19:∀b:Bool,wD hs w x=b->J19 [.bool b] ((b1,.cells (Value.cells x.v) 35 zZ)::gS sp c kp mb nx es ck C):=λb3 R7=>by
     refine h19 _ _ λ_=>?_;cases b3;rotate_left
     ·exact Br.yes (JE.mk (LI true (by rw[R7,xdI];rfl)))
     refine Br.no (ae.has (m:=4) hw zD (Split.mk (λe=>?_) (λe=>?_)))
     ·refine Ld.f (v:=i64 x.c) (aa.eq (eS h x.c) (Un.not (aD.mk (JE.mk (LI _ ?_)))));rw[sb,R7];unfold zy;rw[e];rfl
     refine aD.mk (JE.mk (LI false ?_));rw[sb,R7];unfold zy;rw[e];rfl
    refine ae.has (m:=2) hw zD (Split.mk (λe=>?_) (λe=>?_))
    ·refine Ld.f (v:=i64 x.b) (aa.eq (eS h x.b) (Un.not (aD.mk (JE.mk (k19 _ ?_)))));unfold wD;rw[e];rfl
    refine aD.mk (JE.mk (k19 false ?_));unfold wD;rw[e];rfl
   refine ae.has (m:=1) hw zD (Split.mk (λe=>?_) (λe=>?_))
   ·refine Ld.f (v:=i64 x.a) (aa.eq (eS h x.a) (Un.not (aD.mk (JE.mk (k15 _ ?_)))));unfold wE;rw[e];rfl
   refine aD.mk (JE.mk (k15 false ?_));unfold wE;rw[e];rfl
  intro J50 h50;have k50:∀b:Bool,Fy c.n w x=b->J50 [.bool b] ((b1,.cells (Value.cells x.v) 35 zZ)::gS sp c kp mb nx es ck C):=λb2 sb=>by
   refine h50 _ _ λ_=>?_;cases b2;rotate_left
   ·exact Br.yes (JE.mk (SJ true (by rw[sb];rfl)))
   refine Br.no λJ54 h54=>?_;have k54:∀b:Bool,Fx c.n w x=b->J54 [.bool b] ((b1,.cells (Value.cells x.v) 35 zZ)::gS sp c kp mb nx es ck C):=λb3 R7=>by
    refine h54 _ _ λ_=>?_;cases b3;rotate_left
    ·exact Br.yes (JE.mk (SJ true (by rw[R7,xdI];rfl)))
    refine Br.no (ae.has (m:=128) hw zD (cm.and (decide (x.x>>>c.n≠0)) (λ_=>?_) rfl λgs=>?_))
    ·refine Ld.f (v:=u64 x.x) (Nil.ptr (ai.mk (Ld.f (v:=i64 c.n) (ae.iM (by simpa[bG]using hx) (ae.neq ⟨rfl,?_⟩)))));congr 1;generalize x.x>>>c.n=y;rw[xbN];simp
    refine JE.mk (SJ _ ?_);rw[sb,R7];rfl
   refine ae.has (m:=16) hw zD (Split.mk (λe=>?_) (λe=>?_))
   ·refine Ld.f (v:=i64 x.b) (aa.eq (BX x.b) (Un.not (aD.mk (JE.mk (k54 _ ?_)))));unfold Fx;rw[e];rfl
   refine aD.mk (JE.mk (k54 false ?_));unfold Fx;rw[e];rfl
  refine ae.has (m:=8) hw zD (Split.mk (λe=>?_) (λe=>?_))
  ·refine Ld.f (v:=i64 x.a) (aa.eq (BX x.a) (Un.not (aD.mk (JE.mk (k50 _ ?_)))));unfold Fy;rw[e];rfl
  refine aD.mk (JE.mk (k50 false ?_));unfold Fy;rw[e];rfl
 intro J88 h88;have k88:∀b:Bool,GH w x=b->J88 [.bool b] ((b1,.cells (Value.cells x.v) 35 zZ)::gS sp c kp mb nx es ck C):=λb hb=>by
  refine h88 _ _ λ_=>?_;cases b;rotate_left
  ·exact Br.yes (JE.mk (SK true (by rw[hb];rfl)))
  refine Br.no (ae.has (m:=64) hw zD (Split.mk (λe=>?_) (λe=>?_)))
  ·refine Ld.f (v:=i64 x.c) (aK.of rfl zK (aa.eq (args:=#[i64 x.c]) (Lj x.c _) (Un.not (aD.mk (JE.mk (SK _ ?_))))));rw[hb];unfold Oe;rw[e];rfl
  refine aD.mk (JE.mk (SK false ?_));rw[hb];unfold Oe;rw[e];rfl
 refine ae.has (m:=32) hw zD (Split.mk (λe=>?_) (λe=>?_))
 ·refine Ld.f (v:=i64 x.a) (aK.of rfl zK (aa.eq (args:=#[i64 x.a]) (Lj x.a _) (Un.not (aD.mk (JE.mk (k88 _ ?_))))));unfold GH;rw[e];rfl
 refine aD.mk (JE.mk (k88 false ?_));unfold GH;rw[e];rfl
end
end
section
open aA
section
theorem Ds{n:Int}(hn:n<0\/64<n)(B:Hp):Rd zQ 68 #[iv n] B (· =.tuple #[.slice none 0 0,iv 1]):=by
 refine aF λg=>Aj (ae.lss (cm.or (a:=decide (n<0)) (decide (64<n)) (λ_=>ae.gtr ⟨rfl,rfl⟩) rfl λ_=>?_));rw[<-xa8,xal hn];exact Br.yes (aZ.mk (.refl _) rfl)
theorem Yx{n cap:Int}(hb:n<1\/64<n\/cap<2\/1048576<cap):Rd zQ 40 #[i64 n,i64 cap] [] (· =.tuple #[.pointer none,i64 1]):=by
 refine aF λg=>Al ?_;by_cases hn:n<0\/64<n
 ·refine aa.eq (Ds hn _) (Ext.two (ae.cD (cm.or true (λh=>absurd h zD) rfl λgs=>?_)));refine cm.or true (λh=>absurd h zD) rfl λgs=>?_;refine cm.or true (λh=>absurd h zD) rfl λgs=>Br.yes ?_;exact aZ.mk (.refl _) rfl
 obtain⟨m,rfl⟩:∃m:Nat,n=m:=⟨n.toNat,by omega⟩;refine aa.fq (tD (n:=m) zO) ?_;rintro v CO ⟨s,rfl,hO⟩;refine Ext.two (ae.cD (cm.or (decide ((m:Int)<1)) (λ_=>ae.lss ⟨rfl,rfl⟩) rfl λgs=>?_));refine cm.or (decide (cap<2)) (λ_=>ae.lss ⟨rfl,rfl⟩) rfl λgs=>?_;refine cm.or (decide (1048576<cap)) (λ_=>ae.gtr ⟨rfl,rfl⟩) rfl λgs=>?_;exact Br.T9 (by simp only[xa1,xar];omega) (aZ.mk (λ_ _ h=>h.bt) rfl)
structure Ap where
 n:Int
 cap:Int
 str:Nat
 gr:Int
 rs:Int
def Ap.cells(c:Ap):List zV:=[i64 c.n,i64 c.cap,.int .u8 (c.str:Int),i64 c.gr,i64 c.rs]
theorem Ap.one(c:Ap):∀u∈c.cells,u.oneCell'=true:=λu hu=>by
 simp only[Ap.cells,xam,xaP,xbD]at hu;rcases hu with rfl|rfl|rfl|rfl|rfl<;>rfl
def gZ(c:Ap):Bool:=decide (6<c.str)||decide (c.gr<100)||decide (1000<c.gr)||decide (c.rs<0)||decide (16<c.rs)
def iQ(c:Ap):Bool:=decide (c.n<1\/64<c.n\/c.cap<2\/1048576<c.cap)
def pe(c:Ap):Int:=if gZ c=true then 1 else if iQ c=true then 1 else if c.str=6/\12<c.n then 6 else 0
structure Cf.Ok(c:Cf):Prop where
 n:1<=c.n/\c.n<=64
 cap:2<=c.cap/\c.cap<=1048576
 str:c.str<=6
 gr:100<=c.gr/\c.gr<=1000
 rs:c.rs<=16
 ex:c.str=6->c.n<=12
def Cf.i(c:Cf):Ap:=⟨c.n,c.cap,c.str,c.gr,c.rs⟩
theorem U5{c:Ap}(h:pe c=0):∃d:Cf,c=d.i/\d.Ok:=by
 unfold pe at h;split at h
 ·cases h
 rename_i h1;split at h
 ·cases h
 rename_i h2;split at h
 ·cases h
 rename_i h3;simp only[gZ,iQ,xa1,xar]at h1 h2;obtain⟨n,cap,str,gr,rs⟩:=c;simp only at h1 h2 h3;exact⟨⟨n.toNat,cap.toNat,str,gr.toNat,rs.toNat⟩,by simp only[Cf.i,Ap.mk.injEq];exact⟨by omega,by omega,trivial,by omega,by omega⟩,⟨by simp only;omega,by simp only;omega,by simp only;omega,by simp only;omega,by simp only;omega,λe=>by simp only at e⊢;omega⟩⟩
theorem Qc(c:Ap){Q:zV->Hp->Prop}(hno:pe c≠0->Q (.tuple #[.pointer none,i64 (pe c)]) [])
 (hok:∀d:Cf,c=d.i->d.Ok->∀(sp kp mb:Nat) (C:Hp),cf kp (K0 d.n d.cap) S0 (List.range d.n) (List.range d.n) [] C->Q (.tuple #[ptr sp,i64 0]) (gS sp d kp mb 0 #[] 0 C)):
  Fc zQ 14 #[.agg c.cells.toArray] [] Q:=by
 refine aF λg=>O9 λb1 _ J3 h3=>?_;have jt:gZ c=true->J3 [.bool true] [(b1,.cells (Value.cells (.agg c.cells.toArray)) 23 zZ)]:=λhb=>by
  refine h3 _ _ λ_=>Br.yes ?_;have e:pe c=1:=by unfold pe;rw[xad hb]
  rw[e]at hno;exact aM.mk .tail (hno zD)
 have jf:gZ c=false->J3 [.bool false] [(b1,.cells (Value.cells (.agg c.cells.toArray)) 23 zZ)]:=λhb=>by
  refine h3 _ _ λ_=>Br.no ?_;refine Ld.f (v:=i64 c.n) (Ld.f (v:=i64 c.cap) ?_);cases sb:iQ c;rotate_left
  ·refine aa.eh hnew (Yx (by simpa[iQ]using sb)) (Ext.two (ae.cD (Br.T ?_)));have e:pe c=1:=by unfold pe;rw[hb,xac zD,xad sb]
   rw[e]at hno;exact aM.mk .tail (hno zD)
  simp only[iQ,xa4]at sb;simp only[gZ,xax,xa4]at hb;obtain⟨m,hm⟩:∃m:Nat,c.n=m:=⟨c.n.toNat,by omega⟩;obtain⟨q,hq⟩:∃q:Nat,c.cap=q:=⟨c.cap.toNat,by omega⟩;rw[hm,hq];refine aa.fn hnew (Yw (n:=m) (cap:=q) zO zO) ?_;rintro w C ⟨kp,rfl,hK⟩;refine Ext.two (ae.cD (Br.F (Ld.u (v:=.int .u8 (c.str:Int)) (xab _ (.head _)) ?_)));refine ae.dQ (b:=6) (cm.and (decide (12<c.n)) (λ_=>?_) rfl λgs=>?_)
  ·exact Ld.u (v:=i64 c.n) (xab _ (.head _)) (ae.gtr ⟨rfl,rfl⟩)
  rw[<-xdC];refine Br.dec (λh6=>?_) (λh6=>?_)
  ·have e:pe c=6:=by
    unfold pe;rw[xac (by simp only[gZ,xa1,xar];omega),xac (by simp only[iQ,xar];omega),xad h6]
   rw[e]at hno;exact aM.mk (λ_ _ h=>h.bt) (hno zD)
  have e:pe c=0:=by
   unfold pe;rw[xac (by simp only[gZ,xa1,xar];omega),xac (by simp only[iQ,xar];omega),xac h6]
  obtain⟨d,rfl,hd⟩:=U5 e;have em:m=d.n:=by simp only[Cf.i]at hm;omega
  have eq:q=d.cap:=by simp only[Cf.i]at hq;omega
  subst em eq;refine ax.whole (r:=d.i.cells) (xab _ (.head _)) rfl ?_;intro mb _;refine Build.mk (cs:=d.cells++[ptr kp,.map (some mb),i64 ((0:Nat):Int)]) zK λsp _=>?_;refine aM.mk ?_ (hok d rfl hd sp kp mb C hK);exact .cons (.cons .left)
 refine Ld.f (v:=.int .u8 (c.str:Int)) (ae.nh (b:=6) (Br.dec (λh=>by rw[xal h];exact JE.mk (jt (by simp[gZ,h]))) (λh1=>?_)));refine Ld.f (v:=i64 c.gr) (ae.lss (Br.dec (λh=>by rw[xal h];exact JE.mk (jt (by simp[gZ,h]))) (λh2=>?_)));refine Ld.f (v:=i64 c.gr) (ae.gtr (Br.dec (λh=>by rw[xal h];exact JE.mk (jt (by simp[gZ,h]))) (λzj=>?_)));refine Ld.f (v:=i64 c.rs) (ae.lss (Br.dec (λh=>by rw[xal h];exact JE.mk (jt (by simp[gZ,h]))) (λh4=>?_)));refine Ld.f (v:=i64 c.rs) (ae.gtr ?_);cases hb:decide (16<c.rs)
 ·exact JE.mk (jf (by simp only[gZ,hb,xai h1,xai h2,xai zj,xai h4];rfl))
 exact JE.mk (jt (by simp only[gZ,hb,xdI]))
end
section
variable {sp kp mb nx:Nat} {c:Cf} {K:Kd} {S:Nat->aA.Fn} {ord ah tr:zL} {hs:List (Int×Nat)} {es:Array MapEntry} {ck:Nat} {C:Hp}
theorem QU{κ β:Type}[DecidableEq κ]{m:List (κ×β)}{k:κ}{x:β}(h:k∉m.map Prod.fst):ef m k x=m++[(k,x)]:=by
 unfold ef;rw[xac h]
theorem zi(hE:aE (kI .i64) (λv (r:Nat)=>v=u32 r) es ck hs)(hk:(nx:Int)∉hs.map Prod.fst)(A6:nx+1<9223372036854775808)(r:Nat)(t:Int):
  Fc zQ 84 #[ptr sp,u32 r,i64 t] (gS sp c kp mb nx es ck C) (λv H=>v=eW 0 nx 0 t/\∃es' bB,H=gS sp c kp mb (nx+1) es' bB C/\aE (kI .i64) (λv (r:Nat)=>v=u32 r) es' bB (hs++[((nx:Int),r)])):=by
 refine aF λg=>OF λb1 _=>?_;refine Ld.n (v:=i64 (nx:Int)) (Ld.n (v:=i64 (nx:Int)) (ae.inc (Nil.ptr (ai.mk (St.one (c':=(c.cells++[ptr kp,.map (some mb),i64 ((nx+1:Nat):Int)]).toArray) (by exact .tail (.head _)) rfl (by simp[Cf.cells]) rfl ?_)))));refine Ld.n (v:=.map (some mb)) (hE.br (k:=(nx:Int)) (b:=mb) (x:=r) (ca _) (A1 _) rfl λes' bB he=>⟨_,.tail (.tail (.head _)),?_⟩);rw[QU hk]at he;refine Build.mk (cs:=[i64 0,i64 (nx:Int),u64 0,i64 t]) zK (St.p (bC _ _ _ _) ?_);refine ax.q ?_;exact aM.mk .tail ⟨rfl,es',bB,rfl,he⟩
def dA(op:Nat):Option (Nat×Nat):=
 if op=11 then some (21,82)else if op=10 then some (129,81)else if op=9 then some (129,80)else if op=8 then some (81,79)else
 if op=7 then some (7,78)else if op=6 then some (3,77)else if op=5 then some (3,76)else if op=4 then some (3,75)else
 if op=3 then some (1,74)else if op=2 then some (32,73)else if op=1 then some (8,72)else none
def Le(p:Nat×Nat):List zV:=[.int .u8 (p.1:Int),.func (.func p.2) #[] #[]]
theorem M9:Fc zQ 42 #[] [] (λv H=>∃b es ck m,v=.map (some b)/\H=[(b,.map es ck)]/\aE (kI .u8) (λv (p:Nat×Nat)=>v=.agg (Le p).toArray) es ck m/\∀op:Nat,aJ m (op:Int)=dA op):=by
 refine aF λg=>OZ λb _=>?_;have br:∀{k:Int} {p:Nat×Nat} {es:Array MapEntry} {ck:Nat} {m:List (Int×(Nat×Nat))} {Q:Hp->Prop},aE (kI .u8) (λv (p:Nat×Nat)=>v=.agg (Le p).toArray) es ck m->(∀es' bB,aE (kI .u8) (λv (p:Nat×Nat)=>v=.agg (Le p).toArray) es' bB (ef m k p)->Q [(b,.map es' bB)])->
   Build zQ 95 [(0,.int .u8 (p.1:Int)),(1,.func (.func p.2) #[] #[])] λv=>aW (.int .u8) [(b,.map es ck)] (.map (some b)) (kI .u8 k) v Q:=λ{k p es ck m Q} he hq=>by
  exact Build.mk (cs:=Le p) zK (aE.br (ca _) (A1 _) he rfl λes' bB he'=>⟨_,.head _,hq es' bB he'⟩)
 refine br (k:=1) (p:=(8,72)) aE.empty λ_ _ h=>?_;refine br (k:=2) (p:=(32,73)) h λ_ _ h=>?_;refine br (k:=3) (p:=(1,74)) h λ_ _ h=>?_;refine br (k:=4) (p:=(3,75)) h λ_ _ h=>?_;refine br (k:=5) (p:=(3,76)) h λ_ _ h=>?_;refine br (k:=6) (p:=(3,77)) h λ_ _ h=>?_;refine br (k:=7) (p:=(7,78)) h λ_ _ h=>?_;refine br (k:=8) (p:=(81,79)) h λ_ _ h=>?_;refine br (k:=9) (p:=(129,80)) h λ_ _ h=>?_;refine br (k:=10) (p:=(129,81)) h λ_ _ h=>?_;refine br (k:=11) (p:=(21,82)) h λ_ _ h=>?_;refine aM.mk (.refl _) ⟨b,_,_,_,rfl,rfl,h,λop=>?_⟩;simp only[bJ];have:∀j:Nat,((op:Int)=(j:Int))=(op=j):=λj=>propext zO;have e:=this 11;have e2:=this 10;have e3:=this 9;have e4:=this 8;have e5:=this 7;have e6:=this 6;have e7:=this 5;have e8:=this 4;have e9:=this 3;have e10:=this 2;have ZO:=this 1
 simp only[Int.cast_ofNat_Int]at*;simp only[e,e2,e3,e4,e5,e6,e7,e8,e9,e10,ZO];rfl
end
section
variable {sp kp mb nx:Nat} {c:Cf} {K K':Kd} {S S':Nat->aA.Fn} {ord ah bW tr cV o:zL} {hs:List (Int×Nat)} {es:Array MapEntry} {ck:Nat} {C C':Hp}
theorem Kept.const(hK:cf kp K S ord ah tr C)(dh:cf kp K' S' o bW cV C')(r:Nat)(hr:r<2):S' r=S r:=by
  have h1:=hK.ok.mid.int;have h2:=dh.ok.mid.int;have:r=0\/r=1:=by omega
  rcases this with rfl|rfl
  · exact funext λx=>by rw[h1.zero,h2.zero]
  · exact funext λx=>by rw[h1.one,h2.one]
theorem iq.kept(h:iq kp nx c K S ord ah tr hs es ck C)(dh:cf kp K' S' o bW cV C')(hk:Kept K S K' S'):iq kp nx c K' S' o bW cV hs es ck C'/\∀p∈hs,S' p.2=S p.2:=by
  have hh:∀p∈hs,2<=p.2->K.hold p.2≠0:=λp hp h2=>by
    rw[h.hold,xad h2];exact xdq (xbL.2 (xaT hp))
  refine⟨⟨dh,hk.n.trans h.n,hk.cap.trans h.cap,h.dL,λp hp=>?_,λr=>by rw[hk.hold,h.hold],h.lt⟩,λp hp=>?_⟩
  · by_cases h2:2<=p.2
    · exact .inr (dh.ok.mid.held p.2 (by rw[hk.hold];exact hh p hp h2))
    · exact .inl zO
  · by_cases h2:2<=p.2
    · exact hk.fn _ (hh p hp h2)
    · exact Kept.const h.ks dh _ zO
theorem iq.key(h:iq kp nx c K S ord ah tr hs es ck C):(nx:Int)∉hs.map Prod.fst:=λhm=>by
  obtain⟨p,hp,e⟩:=xan.1 hm;have:=h.lt p hp;omega
theorem iq.grow(h:iq kp nx c K S ord ah tr hs es ck C){f:aA.Fn}{r:Nat}{es':Array MapEntry}{bB:Nat}(dh:cf kp K' S' o bW cV C')(hg:kO K S K' S' f r)(he:aE (kI .i64) (λv (r:Nat)=>v=u32 r) es' bB (hs++[((nx:Int),r)])):
    iq kp (nx+1) c K' S' o bW cV (hs++[((nx:Int),r)]) es' bB C'/\∀p∈hs,S' p.2=S p.2:=by
  refine⟨⟨dh,hg.n.trans h.n,hg.cap.trans h.cap,he,λp hp=>?_,λs=>?_,λp hp=>?_⟩,λp hp=>hg.fn _ (h.live p hp)⟩
  · rcases xao.1 hp with hp|hp
    · exact cu hg.N (h.live p hp)
    · rw[xaI.1 hp];exact hg.live
  · rw[hg.hold,h.hold,xaJ,xbi]
    by_cases e:s=r
    · subst e
      by_cases h2:2<=s
      · simp[h2]
      · simp[h2]
    · have:List.count s (List.map Prod.snd [((nx:Int),r)])=0:=by
        simp only[xaB,xck,xdH,xaI];exact e
      have e2:(if s=r/\2<=r then 1 else 0)=0:=xac λh=>e h.1;rw[this,e2];split<;>rfl
  · rcases xao.1 hp with hp|hp
    · have:=h.lt p hp;omega
    · rw[xaI.1 hp];simp only;omega
def nA(kp:Nat)(K:Kd)(S:Nat->aA.Fn)(ord ah tr:zL)(f:aA.Fn)(T:Nat->Prop)(w:zV)(H:Hp):Prop:=
  (∃r K' S',w=.tuple #[u32 r,i64 0]/\cf kp K' S' ord ah [] H/\kO K S K' S' f r/\T 0)\/
  (∃(e:Nat) (K':Kd) (S':Nat->aA.Fn) (cV:zL),w=.tuple #[u32 0,i64 e]/\(e=8\/e=9)/\cf kp K' S' ord ah cV H/\(cV=[]\/cV=tr)/\Kept K S K' S'/\T e)
theorem nA.two{f:aA.Fn}{T:Nat->Prop}{w:zV}{H:Hp}(h:nA kp K S ord ah tr f T w H):∃x y,w=.tuple #[x,y]:=by
  rcases h with⟨r,_,_,rfl,_⟩|⟨e,_,_,_,rfl,_⟩
  · exact⟨_,_,rfl⟩
  · exact⟨_,_,rfl⟩
inductive tS(T:zL->Nat->Prop)(R:zL->zL->Prop)(o:zL):Nat->zL->Prop
  |one:tS T R o 1 o
  |more {t:Nat} {p ls:zL}:tS T R o t p->T p 9->R p ls->tS T R o (t+1) (ay p ls)
theorem tS.pos{T:zL->Nat->Prop}{R:zL->zL->Prop}{t:Nat}(h:tS T R ord t o):1<=t:=by
  cases h<;>omega
def L4(sp kp mb nx:Nat)(c:Cf)(S:Nat->aA.Fn)(sz:zL->Nat)(ord tr:zL)(hs:List (Int×Nat))(f:aA.Fn)(T:zL->Nat->Prop)(R:zL->zL->Prop)(v:zV)(H:Hp):Prop:=
  ∃(t:Nat) (o bW cV:zL) (K':Kd) (S':Nat->aA.Fn) (es':Array MapEntry) (bB:Nat) (C':Hp),t<=c.rs+1/\tS T R ord t o/\(∀p∈hs,S' p.2=S p.2)/\
    ((∃r,v=eW 0 nx 0 t/\H=gS sp c kp mb (nx+1) es' bB C'/\iq kp (nx+1) c K' S' o bW cV (hs++[((nx:Int),r)]) es' bB C'/\S' r=f/\T o 0/\cV=[])\/
     (∃e:Nat,(e=8\/e=9)/\v=eW e (-1) 0 t/\H=gS sp c kp mb nx es' bB C'/\iq kp nx c K' S' o bW cV hs es' bB C'/\T o e/\(e=9->t=c.rs+1)/\cV.length+66*sz o<=tr.length+66*sz ord))
theorem Vc{f w:Nat}{x:fZ}{fn:aA.Fn}{T:zL->Nat->Prop}{R:zL->zL->Prop}(fP:aU zQ f=true)(h:iq kp nx c K S ord ah tr hs es ck C)(hc:c.Ok)(A6:nx+1<9223372036854775808)(hw:w<256)(hx:x.x<18446744073709551616)(hl:kE c.n hs w x=0)
   (Lp:∀{K':Kd} {S':Nat->aA.Fn} {o bW cV:zL} {C':Hp},iq kp nx c K' S' o bW cV hs es ck C'->(∀p∈hs,S' p.2=S p.2)->Fc zQ f #[ptr sp,x.v] (gS sp c kp mb nx es ck C') (λv H=>∃C2,H=gS sp c kp mb nx es ck C2/\nA kp K' S' o bW cV fn (T o) v C2))
   (hrun:∀{K':Kd} {S':Nat->aA.Fn} {o bW cV:zL} {C':Hp},T o 9->iq kp nx c K' S' o bW cV hs es ck C'->(∀p∈hs,S' p.2=S p.2)->cV.length<=tr.length+66*cG K S ord->
      Fc zQ 85 #[ptr kp,.int .u8 (c.str:Int),i64 c.gr] C' (λv H=>∃ls a b,v=.tuple #[a,b]/\R o ls/\At kp K' S' (ay o ls) (cV++ls) H/\ls.length+66*cG K' S' (ay o ls)<=66*cG K' S' o)):
    Fc zQ 43 #[ptr sp,x.v,.agg (Le (w,f)).toArray] (gS sp c kp mb nx es ck C) (L4 sp kp mb nx c S (cG K S) ord tr hs fn T R):=by
  refine aF λg=>Ak λb1 _ b3 _ b5 _=>?_;refine ax.q (r:=x.cells) (Ld.f (v:=.int .u8 (w:Int)) (aa.eq (look_ok h hw hx) ?_));rw[hl];refine ae.cD (Br.F ?_);refine⟨λvs H=>∃(t:Nat) (o bW cV:zL) (K':Kd) (S':Nat->aA.Fn) (C':Hp),vs=[i64 (t:Int)]/\t<=c.rs+1/\H=(b5,.cells #[i64 0,i64 0,u64 0,i64 0] 37 zZ)::(b3,.cells (Le (w,f)).toArray 95 zZ)::(b1,.cells x.cells.toArray 35 zZ)::gS sp c kp mb nx es ck C'/\
      iq kp nx c K' S' o bW cV hs es ck C'/\Kept K S K' S'/\tS T R ord t o/\cV.length+66*cG K S o<=tr.length+66*cG K S ord,λvs _=>20-bL vs 0,JE.mk ⟨1,ord,ah,tr,K,S,C,rfl,by omega,rfl,h,.refl _ _,.one,xag _⟩,?_⟩
  rintro w0 H ⟨t,o,abr,W4,K1,S1,C1,⟨⟩,ht,rfl,h1,uh,hT,hb⟩ gs;have BI:=hc.rs;have hsame:=(h.kept h1.ks uh).2;refine Ld.f (v:=.func (.func f) #[] #[]) (ax.q (r:=x.cells) (aK.of rfl fP (aa.fq (args:=#[ptr sp,x.v]) (Lp h1 hsame) ?_)));rintro w H ⟨C2,rfl,hQ⟩;rcases hQ with⟨r,K2,S2,rfl,dk,hg,h0⟩|⟨e,K2,S2,qQ,rfl,he,dk,rE,rJ,Sh⟩
  · refine Ext.two (ae.gI (Br.T (aa.fq (zi h1.dL h.key A6 r t) ?_)))
    rintro w H ⟨rfl,gV,iE,rfl,hE⟩;refine St.p (r:=[i64 0,i64 nx,u64 0,i64 t]) (bC _ _ _ _) ?_;refine ax.q ?_;obtain⟨h3,h4⟩:=h1.grow dk hg hE;exact aM.mk (.skip (.skip .tail)) ⟨t,o,abr,[],K2,S2,gV,iE,C2,ht,hT,λp hp=>(h4 p hp).trans (hsame p hp),.inl ⟨r,rfl,rfl,h3,hg.is,h0,rfl⟩⟩
  · obtain⟨h3,h4⟩:=h1.kept dk rJ
    have sb:qQ.length+66*cG K S o<=tr.length+66*cG K S ord:=by
      rcases rE with rfl|rfl
      · rw[xcf];omega
      · exact hb
    have fin:(e=9->t=c.rs+1)->L4 sp kp mb nx c S (cG K S) ord tr hs fn T R (eW e (-1) 0 t) (gS sp c kp mb nx es ck C2):=λhet=>
      ⟨t,o,abr,qQ,K2,S2,es,ck,C2,ht,hT,λp hp=>(h4 p hp).trans (hsame p hp),.inr ⟨e,he,rfl,rfl,h3,Sh,het,sb⟩⟩
    refine Ext.two (ae.gI (Br.F (ae.cD (cm.or (decide (c.rs<t)) (λ_=>?_) rfl λgs=>?_))))
    · exact Nil.ptr (ai.mk (Ld.f (v:=i64 c.rs) (ae.nh ⟨rfl,rfl⟩)))
    rw[<-xa8];refine Br.dec (λLn=>?_) (λLn=>?_)
    · refine aa.eq (cz e _) λZX _=>?_
      refine St.p (r:=[i64 e,i64 (-1),u64 0,i64 0]) (bC _ _ _ _) ?_;refine ai.mk (St.one (c':=#[i64 e,i64 (-1),u64 0,i64 t]) (by exact .head _) rfl zI rfl ?_);refine ax.q (r:=[i64 e,i64 (-1),u64 0,i64 t]) (St.p (bC _ _ _ _) ?_);refine ax.q ?_;exact aM.mk (.skip (.skip (.skip .tail))) (fin λ_=>by omega)
    · have he9:e=9:=by omega
      subst he9;refine DR.of (R:=(b5,.cells #[i64 0,i64 0,u64 0,i64 0] 37 zZ)::(b3,.cells (Le (w,f)).toArray 95 zZ)::(b1,.cells x.cells.toArray 35 zZ)::gS sp c kp mb nx es ck C2) (.refl _) (Ld.n (v:=ptr kp) (Nil.ptr (ai.mk (Ld.f (v:=.int .u8 (c.str:Int)) (Nil.ptr (ai.mk (Ld.f (v:=i64 c.gr) λF=>?_)))))));refine aa.fq (hrun Sh h3 (λp hp=>(h4 p hp).trans (hsame p hp)) zO) ?_;rintro w2 H2 ⟨ls,a,b,rfl,hR,hA,hlen⟩;refine ae.inc ?_;obtain⟨K3,S3,aff,j9,pI⟩:=hA;obtain⟨h5,h6⟩:=h3.kept j9 pI;rw[rD (uh.trans rJ),rD (uh.trans rJ)]at hlen;refine aC.mk ⟨t+1,ay o ls,aff,qQ++ls,K3,S3,H2,rfl,by omega,rfl,h5,(uh.trans rJ).trans pI,.more hT Sh hR,by rw[xaf];omega⟩ (by simp only[bL];omega)
end
section
def HF(L:List aA.Fn)(g:aA.Fn):Prop:=g∈L/\∃v,cE g v
noncomputable def ye(L:List aA.Fn)(f:aA.Fn):Nat:=L.countP λg=> @decide (g=f) (Classical.propDecidable _)
def Ev(L:List aA.Fn)(f:aA.Fn):Prop:=(∃v,cE f v)/\65535<=ye L f
def ZY(n cap:Nat)(L:List aA.Fn)(f:aA.Fn)(ord:zL)(e:Nat):Prop:=
 (e=0/\Fits (aG n ord (λg=>HF L g\/g=f)) cap/\¬Ev L f)\/(e=9/\¬Fits (aG n ord (λg=>HF L g\/g=f)) cap)\/(e=8/\Ev L f)
def DW(n cap:Nat)(L:List aA.Fn)(q:Bool)(mask:Nat)(f:aA.Fn)(ord:zL)(e:Nat):Prop:=
 e=0\/(e=9/\∃i,i<n/\mask.testBit i=true/\¬Fits (aG n ord (λg=>(HF L g\/(bitsOf mask i≠[]/\g=uc q (bitsOf mask i) f))\/g=qf q i (uc q (bitsOf mask i) f))) cap)\/(e=8/\∃g,65534<=ye L g)
def SS(n cap:Nat)(L:List aA.Fn)(lo hi f:aA.Fn)(ord:zL)(e:Nat):Prop:=
 e=0\/(e=9/\(¬Fits (aG n ord (λg=>HF L g\/g=lo)) cap\/¬Fits (aG n ord (λg=>(HF L g\/g=lo)\/g=hi)) cap\/¬Fits (aG n ord (λg=>((HF L g\/g=lo)\/g=hi)\/g=f)) cap))\/(e=8/\∃g,65533<=ye L g)
def dN(n:Nat)(F:Int->aA.Fn)(x:fZ):aA.Fn:=match x.op with
 |1=>λy=>y.testBit x.a.toNat
 |2=>λ_=>decide (x.a=1)
 |3=>λy=> !F x.a y
 |4=>λy=>F x.a y&&F x.b y
 |5=>λy=>F x.a y||F x.b y
 |6=>λy=>F x.a y^^F x.b y
 |7=>λy=>if F x.a y then F x.b y else F x.c y
 |8=>λy=>F x.a (an.aB y x.b.toNat (decide (x.c=1)))
 |9=>uc true (bitsOf x.x n) (F x.a)
 |10=>uc false (bitsOf x.x n) (F x.a)
 |_=>λy=>if F x.c y then F x.a (an.aB y x.b.toNat true)else F x.a (an.aB y x.b.toNat false)
def qo(n cap:Nat)(L:List aA.Fn)(F:Int->aA.Fn)(x:fZ)(ord:zL)(e:Nat):Prop:=
 if x.op=9 then DW n cap L true x.x (F x.a) ord e else if x.op=10 then DW n cap L false x.x (F x.a) ord e else
 if x.op=11 then SS n cap L (λy=>F x.a (an.aB y x.b.toNat false)) (λy=>F x.a (an.aB y x.b.toNat true)) (dN n F x) ord e else ZY n cap L (dN n F x) ord e
def fL(S:Nat->aA.Fn)(hs:List (Int×Nat)):List aA.Fn:=hs.map λp=>S p.2
def bU(S:Nat->aA.Fn)(hs:List (Int×Nat))(a:Int):aA.Fn:=match aJ hs a with|some r=>S r|none=>λ_=>false
variable {sp kp mb nx:Nat} {c:Cf} {K K':Kd} {S S':Nat->aA.Fn} {ord ah bW tr cV o:zL} {hs:List (Int×Nat)} {es:Array MapEntry} {ck:Nat} {C C':Hp}
theorem qP{n:Nat}{ord:zL}{f:aA.Fn}(hf:∀v,¬cE f v)(g:aA.Fn):¬aG n ord (λg=>g=f) g:=by
 rintro⟨l,hl,hg,hh⟩;rw[uE (l:=n) (λj _=>hf _) l zO g hg]at hh;exact hf _ hh
theorem kO.adq{K':Kd}{S':Nat->aA.Fn}{f:aA.Fn}{x:Nat}{cV:zL}{C':Hp}(h:kO K S K' S' f x)(hK:cf kp K S ord ah tr C)(dh:cf kp K' S' ord ah cV C'):Fits (aG K.n ord (λg=>K.held S g\/g=f)) K.cap:=by
 have hc:=dh.ok.size dh.od;have hr:=dh.ok.mid.room;have h2:=dh.ok.mid.cap;rw[h.n]at hc;refine Fits.mono (λg hg=>?_) ⟨K'.used-2,hc,by rw[<-h.cap];omega⟩;have old:∀g,K.held S g->K'.held S' g:=λg ⟨s,hs,e⟩=>⟨s,by show K'.hold s≠0;have:K.hold s≠0:=hs;rw[h.hold];omega,by rw[h.fn s (.inr (hK.ok.mid.held s hs)),e]⟩;by_cases h2:2<=x
 ·refine cI (λg hg=>?_) hg;rcases hg with hg|rfl
  ·exact old g hg
  exact⟨x,by show K'.hold x≠0;rw[h.hold,xad ⟨rfl,h2⟩];omega,h.is.symm⟩
 rcases(CX g).1 hg with hg|hg
 ·exact cI old hg
 refine absurd hg (qP (λv=>?_) g);rintro⟨y,hy⟩;rw[<-h.is]at hy;have hi:=dh.ok.mid.int;obtain rfl|rfl:x=0\/x=1:=by omega
 ·exact hy (by rw[hi.zero,hi.zero])
 exact hy (by rw[hi.one,hi.one])
theorem Wq(h:∀p∈hs,S' p.2=S p.2):fL S' hs=fL S hs:=xbq h
theorem bA{a:Int}{r:Nat}(h:aJ hs a=some r):bU S hs a=S r:=by unfold bU;rw[h]
theorem iq.find(h:iq kp nx c K S ord ah tr hs es ck C){a:Int}{r:Nat}(hm:aJ hs a=some r):(a,r)∈hs:=(dW h.dL.nd).1 hm
theorem NN(fO:(hs.map Prod.fst).Nodup)(h:∀p∈hs,S' p.2=S p.2):bU S' hs=bU S hs:=funext λa=>by
 unfold bU;cases hm:aJ hs a with
 |none=>rfl
 |some r=>exact h _ ((dW fO).1 hm)
theorem iB(hK:cf kp K S ord ah tr C){r:Nat}(hl:live K.N r):2<=r↔∃v,cE (S r) v:=by
 constructor
 ·intro h2;obtain⟨d,hd⟩:∃d,K.N r=some d:=by
   rcases hl with hl|hl
   ·omega
   exact hl
  exact⟨d.v,gp hK.ok.wf hK.ok.lv hK.ok.mid.int hd⟩
 rintro⟨v,y,hy⟩;have hi:=hK.ok.mid.int;by_cases h2:2<=r
 ·exact h2
 exfalso;obtain rfl|rfl:r=0\/r=1:=by omega
 ·exact hy (by rw[hi.zero,hi.zero])
 exact hy (by rw[hi.one,hi.one])
theorem iq.same(h:iq kp nx c K S ord ah tr hs es ck C){a b:Nat}(ha:aA.live K.N a)(hb:aA.live K.N b):S a=S b↔a=b:=
 ⟨λe=>h.ks.ok.wf.same h.ks.ok.lv h.ks.ok.mid.int ha hb λx=>congrFun e x,λe=>by rw[e]⟩
theorem iq.held(h:iq kp nx c K S ord ah tr hs es ck C):K.held S=HF (fL S hs):=funext λg=>propext (by
 constructor
 ·rintro⟨s,hs0,rfl⟩;have h0:K.hold s≠0:=hs0;rw[h.hold]at h0;by_cases h2:2<=s
  ·rw[xad h2]at h0;obtain⟨p,hp,e⟩:=xan.1 (xbL.1 (xee h0));subst e;exact⟨xan.2 ⟨p,hp,rfl⟩,(iB h.ks (h.live p hp)).1 h2⟩
  rw[xac h2]at h0;exact absurd rfl h0
 rintro⟨hm,hv⟩;obtain⟨p,hp,rfl⟩:=xan.1 hm;have h2:=(iB h.ks (h.live p hp)).2 hv;refine⟨p.2,?_,rfl⟩;show K.hold p.2≠0;rw[h.hold,xad h2];exact xdq (xbL.2 (xaT hp)))
theorem iq.count(h:iq kp nx c K S ord ah tr hs es ck C){r:Nat}(hr:aA.live K.N r)(h2:2<=r):K.hold r=ye (fL S hs) (S r):=by
 rw[h.hold,xad h2];unfold ye fL;rw[xex,List.count,xex];refine List.countP_congr λp hp=>?_;have:=h.same (h.live p hp) hr;simp only[Function.comp_apply,xcM,xar];exact this.symm
theorem iq.full(h:iq kp nx c K S ord ah tr hs es ck C){r:Nat}(hr:K.hold r=65535)(h2:2<=r):Ev (fL S hs) (S r):=by
 have hl:aA.live K.N r:=.inr (h.ks.ok.mid.held r zO);exact⟨(iB h.ks hl).1 h2,by rw[<-h.count hl h2,hr];exact xag _⟩
theorem iq.big(h:iq kp nx c K S ord ah tr hs es ck C){r k:Nat}(hr:k<=K.hold r)(hk:0<k)(h2:2<=r):k<=ye (fL S hs) (S r):=by
 rw[<-h.count (.inr (h.ks.ok.mid.held r zO)) h2];exact hr
theorem iq.done(h:iq kp nx c K S ord ah tr hs es ck C){f:aA.Fn}{w:zV}(hD:jY kp K S ord ah tr f w C'):nA kp K S ord ah tr f (ZY K.n K.cap (fL S hs) f ord) w C':=by
 rcases hD with(⟨x,K',S',rfl,dh,hg⟩|⟨rfl,⟨K',S',cV,dh,eG,hk⟩,hf⟩)|⟨rfl,⟨K',S',cV,dh,eG,hk⟩,r,h2,hr,rfl⟩
 ·refine .inl ⟨x,K',S',rfl,dh,hg,.inl ⟨rfl,by rw[<-h.held];exact hg.adq h.ks dh,?_⟩⟩;rintro⟨hv,hc⟩;have FX:2<=x:=(iB dh hg.live).2 (by rw[hg.is];exact hv);have hle:=dh.gi x;rw[hg.hold,xad ⟨rfl,FX⟩]at hle;obtain⟨p,hp,e⟩:∃p∈hs,S p.2=f:=by
   have:0<ye (fL S hs) f:=by omega
   obtain⟨g,hg1,TX⟩:=List.countP_pos_iff.1 this;obtain⟨p,hp,rfl⟩:=xan.1 hg1;exact⟨p,hp,by simpa using TX⟩
  have hpx:p.2=x:=dh.ok.wf.same dh.ok.lv dh.ok.mid.int (cu hg.N (h.live p hp)) hg.live λy=>by rw[hg.fn _ (h.live p hp),e,hg.is]
  subst hpx;have:=h.count (h.live p hp) FX;rw[e]at this;omega
 ·exact .inr ⟨9,K',S',cV,rfl,.inr rfl,dh,eG,hk,.inr (.inl ⟨rfl,by rw[<-h.held];exact hf⟩)⟩
 exact .inr ⟨8,K',S',cV,rfl,.inl rfl,dh,eG,hk,.inr (.inr ⟨rfl,h.full hr h2⟩)⟩
theorem iq.each(h:iq kp nx c K S ord ah tr hs es ck C){q:Bool}{mask r:Nat}{w:zV}(hD:mq kp K S ord ah tr q mask r w C'):nA kp K S ord ah tr (uc q (bitsOf mask K.n) (S r)) (DW K.n K.cap (fL S hs) q mask (S r) ord) w C':=by
 rcases hD with(⟨x,K',S',rfl,dh,hg⟩|⟨rfl,⟨K',S',cV,dh,eG,hk⟩,i,hi,hb,hf⟩)|⟨rfl,⟨K',S',cV,dh,eG,hk⟩,hF⟩
 ·exact .inl ⟨x,K',S',rfl,dh,hg,.inl rfl⟩
 ·exact .inr ⟨9,K',S',cV,rfl,.inr rfl,dh,eG,hk,.inr (.inl ⟨rfl,i,hi,hb,by rw[<-h.held];exact hf⟩)⟩
 refine .inr ⟨8,K',S',cV,rfl,.inl rfl,dh,eG,hk,.inr (.inr ⟨rfl,?_⟩)⟩;rcases hF with⟨_,h2,hr⟩|⟨i,x,_,_,h2,_,_,hx,_⟩
 ·exact⟨_,h.big (k:=65534) zO zO h2⟩
 exact⟨_,h.big hx zO h2⟩
theorem iq.comp(h:iq kp nx c K S ord ah tr hs es ck C){lo hi f:aA.Fn}{w:zV}(hD:Ew kp K S ord ah tr lo hi f w C'):nA kp K S ord ah tr f (SS K.n K.cap (fL S hs) lo hi f ord) w C':=by
 rcases hD with(⟨x,K',S',rfl,dh,hg⟩|⟨rfl,⟨K',S',cV,dh,eG,hk⟩,hf⟩)|⟨rfl,⟨K',S',cV,dh,eG,hk⟩,x,h2,_,hF⟩
 ·exact .inl ⟨x,K',S',rfl,dh,hg,.inl rfl⟩
 ·exact .inr ⟨9,K',S',cV,rfl,.inr rfl,dh,eG,hk,.inr (.inl ⟨rfl,by rw[<-h.held];exact hf⟩)⟩
 refine .inr ⟨8,K',S',cV,rfl,.inl rfl,dh,eG,hk,.inr (.inr ⟨rfl,_,h.big (k:=65533) ?_ zO h2⟩)⟩;have one:∀{p:Prop} {a:Nat},One p a->a<=1:=λho=>by rcases ho with⟨h,_⟩|⟨h,_⟩<;>omega
 rcases hF with⟨_,h⟩|⟨a,ha,_,h⟩|⟨a,b,ha,hb,_,h⟩
 ·omega
 ·have:=one ha;omega
 have:=one ha;have:=one hb;omega
end
section
variable {sp kp mb nx:Nat} {c:Cf} {K:Kd} {S:Nat->aA.Fn} {ord ah tr:zL} {hs:List (Int×Nat)} {es:Array MapEntry} {ck:Nat} {C:Hp} {x:fZ}
theorem Oo(hK:cf kp K S ord ah tr C){a b:Nat}(ha:live K.N a)(hb:live K.N b):Fc zQ 123 #[ptr kp,u32 a,u32 b] C (jY kp K S ord ah tr (λy=>S a y&&S b y)):=by
 refine aF λg=>Ko (aa.fq (jD hK (op:=8) zD ha hb) ?_);intro w H hD;rw[show(λy=>Xa 8 (S a y) (S b y))=λy=>S a y&&S b y from funext λy=>by cases S a y<;>cases S b y<;>rfl]at hD;obtain⟨x,e,rfl⟩:=hD.two;exact Ext.two (aM.here hD)
theorem Tn(hK:cf kp K S ord ah tr C){a b:Nat}(ha:live K.N a)(hb:live K.N b):Fc zQ 124 #[ptr kp,u32 a,u32 b] C (jY kp K S ord ah tr (λy=>S a y||S b y)):=by
 refine aF λg=>Km (aa.fq (jD hK (op:=14) zD ha hb) ?_);intro w H hD;rw[show(λy=>Xa 14 (S a y) (S b y))=λy=>S a y||S b y from funext λy=>by cases S a y<;>cases S b y<;>rfl]at hD;obtain⟨x,e,rfl⟩:=hD.two;exact Ext.two (aM.here hD)
theorem Og(hK:cf kp K S ord ah tr C){a b:Nat}(ha:live K.N a)(hb:live K.N b):Fc zQ 125 #[ptr kp,u32 a,u32 b] C (jY kp K S ord ah tr (λy=>S a y^^S b y)):=by
 refine aF λg=>Kl (aa.fq (jD hK (op:=6) zD ha hb) ?_);intro w H hD;rw[show(λy=>Xa 6 (S a y) (S b y))=λy=>S a y^^S b y from funext λy=>by cases S a y<;>cases S b y<;>rfl]at hD;obtain⟨x,e,rfl⟩:=hD.two;exact Ext.two (aM.here hD)
theorem Eo(hK:cf kp K S ord ah tr C)(b:Bool):Fc zQ 121 #[ptr kp,.bool b] C (jY kp K S ord ah tr (λ_=>b)):=by
 have hi:=hK.ok.mid.int;refine aF λg=>Kq (ae.aH (Br.no ?_));intro J2 h2;have go:∀r:Nat,r<2->(S r=λ_=>b)->J2 [u32 r] C:=λr hr hf=>by
  refine h2 _ _ λ_=>?_;refine aa.fq (mP hK (r:=r) (.inl hr) (λh=>by omega)) ?_;rintro v H ⟨rfl,K',dh,hm⟩;exact aM.here (.inl (.inl ⟨r,K',S,rfl,dh,⟨hm.n,hm.cap,λs d h=>by rw[hm.N];exact h,λ_ _=>rfl,.inl hr,hf,λs=>by rw[hm.hold];split<;>rfl⟩⟩))
 cases b
 ·exact Br.no (JE.mk (go 0 zD (funext hi.zero)))
 exact Br.yes (JE.mk (go 1 zD (funext hi.one)))
theorem dm{n w:Nat}(h:kE n hs w x=0):(GH w x=false/\Oe w x=false)/\(Fy n w x=false/\Fx n w x=false/\M4 n w x=false)/\(wE hs w x=false/\wD hs w x=false/\zy hs w x=false):=by
 unfold kE at h;split at h
 ·cases h
 split at h
 ·cases h
 split at h
 ·cases h
 rename_i h1 h2 h3;simp only[xel,xax]at h1 h2 h3;exact⟨h1,⟨h2.1.1,h2.1.2,h2.2⟩,⟨h3.1.1,h3.1.2,h3.2⟩⟩
theorem eA{m:List (Int×Nat)}{a:Int}{p:Bool}(h:(p&& !(aJ m a).isSome)=false)(hp:p=true):∃r,aJ m a=some r:=by
 subst hp;cases hm:aJ m a with
 |none=>rw[hm]at h;cases h
 |some r=>exact⟨r,rfl⟩
theorem ET{n:Nat}{a:Int}{p:Bool}(h:(p&& !decide (0<=a/\a<n))=false)(hp:p=true):∃v:Nat,a=v/\v<n:=by
 subst hp;have:0<=a/\a<n:=by simpa using h
 exact⟨a.toNat,by omega,by omega⟩
theorem kC{n cap:Nat}{L:List aA.Fn}{F:Int->aA.Fn}(h:x.op<9):qo n cap L F x ord=ZY n cap L (dN n F x) ord:=funext λe=>by
 unfold qo;rw[xac zO,xac zO,xac zO]
theorem abj{n cap:Nat}{L:List aA.Fn}{F:Int->aA.Fn}(h:x.op=9):qo n cap L F x ord=DW n cap L true x.x (F x.a) ord:=funext λe=>by
 unfold qo;rw[xad h]
theorem Yu{n cap:Nat}{L:List aA.Fn}{F:Int->aA.Fn}(h:x.op=10):qo n cap L F x ord=DW n cap L false x.x (F x.a) ord:=funext λe=>by
 unfold qo;rw[xac zO,xad h]
theorem Yt{n cap:Nat}{L:List aA.Fn}{F:Int->aA.Fn}(h:x.op=11):qo n cap L F x ord=SS n cap L (λy=>F x.a (an.aB y x.b.toNat false)) (λy=>F x.a (an.aB y x.b.toNat true)) (dN n F x) ord:=funext λe=>by
 unfold qo;rw[xac zO,xac zO,xad h]
def j3(f:Nat)(op w:Nat):Prop:=∀{sp kp mb nx:Nat} {c:Cf} {K:Kd} {S:Nat->aA.Fn} {ord ah tr:zL} {hs:List (Int×Nat)} {es:Array MapEntry} {ck:Nat} {C:Hp} {x:fZ},iq kp nx c K S ord ah tr hs es ck C->x.op=op->x.x<18446744073709551616->kE c.n hs w x=0->
 Fc zQ f #[ptr sp,x.v] (gS sp c kp mb nx es ck C) (λv H=>∃C2,H=gS sp c kp mb nx es ck C2/\nA kp K S ord ah tr (dN c.n (bU S hs) x) (qo c.n c.cap (fL S hs) (bU S hs) x ord) v C2)
theorem qW:j3 72 1 8:=by
 intro sp kp mb nx c K S ord ah tr hs es ck C x h hop TR hl;obtain⟨⟨T0,TZ⟩,⟨Rw,Ph,Pg⟩,A9,Lo,Pn⟩:=dm hl;obtain⟨v,hv,FZ⟩:=ET Rw zD;refine aF λg=>OR λb1 _=>?_;refine DR.of (R:=[(b1,.cells (Value.cells x.v) 35 zZ),jN sp c kp mb nx,(mb,.map es ck)]) (.cons (.cons (.cons λ_ _ h=>h.bt))) (Ld.n (v:=ptr kp) (Ld.f (v:=i64 x.a) ?_));rw[hv];intro F;refine aa.fq (Oh h.ks (v:=v) (by rw[h.n];exact FZ)) ?_;rintro w H hD;have hQ:nA kp K S ord ah tr (dN c.n (bU S hs) x) (qo c.n c.cap (fL S hs) (bU S hs) x ord) w H:=by
  have hq:=h.done hD;rw[h.n,h.cap]at hq;rw[kC zO];have e:dN c.n (bU S hs) x=λy=>y.testBit x.a.toNat:=by simp only[dN,hop]
  rw[e];simp only[hv,xbh];exact hq
 obtain⟨y,e,rfl⟩:=hQ.two;refine⟨.cons (.cons (.cons λ_ _ h=>h.bt)),?_⟩;exact Ext.two (aM.mk .tail ⟨_,rfl,hQ⟩)
theorem AJ:j3 73 2 32:=by
 intro sp kp mb nx c K S ord ah tr hs es ck C x h hop TR hl;obtain⟨⟨T0,TZ⟩,⟨Rw,Ph,Pg⟩,A9,Lo,Pn⟩:=dm hl;refine aF λg=>OQ λb1 _=>?_;refine DR.of (R:=[(b1,.cells (Value.cells x.v) 35 zZ),jN sp c kp mb nx,(mb,.map es ck)]) (.cons (.cons (.cons λ_ _ h=>h.bt))) (Ld.n (v:=ptr kp) (Ld.f (v:=i64 x.a) (ae.gI λF=>(aa.fq (Eo h.ks (decide (x.a=1))) ?_))));rintro w H hD;have hQ:nA kp K S ord ah tr (dN c.n (bU S hs) x) (qo c.n c.cap (fL S hs) (bU S hs) x ord) w H:=by
  have hq:=h.done hD;rw[h.n,h.cap]at hq;rw[kC zO];have e:dN c.n (bU S hs) x=λ_=>decide (x.a=1):=by simp only[dN,hop]
  rw[e];exact hq
 obtain⟨y,e,rfl⟩:=hQ.two;refine⟨.cons (.cons (.cons λ_ _ h=>h.bt)),?_⟩;exact Ext.two (aM.mk .tail ⟨_,rfl,hQ⟩)
theorem UC:j3 74 3 1:=by
 intro sp kp mb nx c K S ord ah tr hs es ck C x h hop TR hl;obtain⟨⟨T0,TZ⟩,⟨Rw,Ph,Pg⟩,A9,Lo,Pn⟩:=dm hl;obtain⟨ra,ha⟩:=eA A9 zD;have la:=h.live _ (h.find ha);refine aF λg=>OP λb1 _=>?_;refine DR.of (R:=[(b1,.cells (Value.cells x.v) 35 zZ),jN sp c kp mb nx,(mb,.map es ck)]) (.cons (.cons (.cons λ_ _ h=>h.bt))) (Ld.n (v:=ptr kp) (Ld.n (v:=.map (some mb)) (Ld.f (v:=i64 x.a) (h.dL.hit (k:=x.a) (ca _) (b:=mb) (by exact .tail _ (.tail _ (.head _))) ha λv e=>?_))));subst e;intro F;refine aa.fq (Om h.ks la) ?_;rintro w H hD;have hQ:nA kp K S ord ah tr (dN c.n (bU S hs) x) (qo c.n c.cap (fL S hs) (bU S hs) x ord) w H:=by
  have hq:=h.done hD;rw[h.n,h.cap]at hq;rw[kC zO];have e:dN c.n (bU S hs) x=λy=> !bU S hs x.a y:=by simp only[dN,hop]
  rw[e];simp only[bA ha];exact hq
 obtain⟨y,e,rfl⟩:=hQ.two;refine⟨.cons (.cons (.cons λ_ _ h=>h.bt)),?_⟩;exact Ext.two (aM.mk .tail ⟨_,rfl,hQ⟩)
theorem UJ:j3 75 4 3:=by
 intro sp kp mb nx c K S ord ah tr hs es ck C x h hop TR hl;obtain⟨⟨T0,TZ⟩,⟨Rw,Ph,Pg⟩,A9,Lo,Pn⟩:=dm hl;obtain⟨ra,ha⟩:=eA A9 zD;have la:=h.live _ (h.find ha);obtain⟨rb,hb⟩:=eA Lo zD;have lb:=h.live _ (h.find hb);refine aF λg=>OO λb1 _=>?_;refine DR.of (R:=[(b1,.cells (Value.cells x.v) 35 zZ),jN sp c kp mb nx,(mb,.map es ck)]) (.cons (.cons (.cons λ_ _ h=>h.bt))) (Ld.n (v:=ptr kp) (Ld.n (v:=.map (some mb)) (Ld.f (v:=i64 x.a) (h.dL.hit (k:=x.a) (ca _) (b:=mb) (by exact .tail _ (.tail _ (.head _))) ha λv e=>?_))));subst e;refine Ld.n (v:=.map (some mb)) (Ld.f (v:=i64 x.b) (h.dL.hit (k:=x.b) (ca _) (b:=mb) (by exact .tail _ (.tail _ (.head _))) hb λv e=>?_));subst e;intro F;refine aa.fq (Oo h.ks la lb) ?_;rintro w H hD;have hQ:nA kp K S ord ah tr (dN c.n (bU S hs) x) (qo c.n c.cap (fL S hs) (bU S hs) x ord) w H:=by
  have hq:=h.done hD;rw[h.n,h.cap]at hq;rw[kC zO];have e:dN c.n (bU S hs) x=λy=>bU S hs x.a y&&bU S hs x.b y:=by simp only[dN,hop]
  rw[e];simp only[bA ha,bA hb];exact hq
 obtain⟨y,e,rfl⟩:=hQ.two;refine⟨.cons (.cons (.cons λ_ _ h=>h.bt)),?_⟩;exact Ext.two (aM.mk .tail ⟨_,rfl,hQ⟩)
theorem Yg:j3 76 5 3:=by
 intro sp kp mb nx c K S ord ah tr hs es ck C x h hop TR hl;obtain⟨⟨T0,TZ⟩,⟨Rw,Ph,Pg⟩,A9,Lo,Pn⟩:=dm hl;obtain⟨ra,ha⟩:=eA A9 zD;have la:=h.live _ (h.find ha);obtain⟨rb,hb⟩:=eA Lo zD;have lb:=h.live _ (h.find hb);refine aF λg=>ON λb1 _=>?_;refine DR.of (R:=[(b1,.cells (Value.cells x.v) 35 zZ),jN sp c kp mb nx,(mb,.map es ck)]) (.cons (.cons (.cons λ_ _ h=>h.bt))) (Ld.n (v:=ptr kp) (Ld.n (v:=.map (some mb)) (Ld.f (v:=i64 x.a) (h.dL.hit (k:=x.a) (ca _) (b:=mb) (by exact .tail _ (.tail _ (.head _))) ha λv e=>?_))));subst e;refine Ld.n (v:=.map (some mb)) (Ld.f (v:=i64 x.b) (h.dL.hit (k:=x.b) (ca _) (b:=mb) (by exact .tail _ (.tail _ (.head _))) hb λv e=>?_));subst e;intro F;refine aa.fq (Tn h.ks la lb) ?_;rintro w H hD;have hQ:nA kp K S ord ah tr (dN c.n (bU S hs) x) (qo c.n c.cap (fL S hs) (bU S hs) x ord) w H:=by
  have hq:=h.done hD;rw[h.n,h.cap]at hq;rw[kC zO];have e:dN c.n (bU S hs) x=λy=>bU S hs x.a y||bU S hs x.b y:=by simp only[dN,hop]
  rw[e];simp only[bA ha,bA hb];exact hq
 obtain⟨y,e,rfl⟩:=hQ.two;refine⟨.cons (.cons (.cons λ_ _ h=>h.bt)),?_⟩;exact Ext.two (aM.mk .tail ⟨_,rfl,hQ⟩)
theorem Us:j3 77 6 3:=by
 intro sp kp mb nx c K S ord ah tr hs es ck C x h hop TR hl;obtain⟨⟨T0,TZ⟩,⟨Rw,Ph,Pg⟩,A9,Lo,Pn⟩:=dm hl;obtain⟨ra,ha⟩:=eA A9 zD;have la:=h.live _ (h.find ha);obtain⟨rb,hb⟩:=eA Lo zD;have lb:=h.live _ (h.find hb);refine aF λg=>OM λb1 _=>?_;refine DR.of (R:=[(b1,.cells (Value.cells x.v) 35 zZ),jN sp c kp mb nx,(mb,.map es ck)]) (.cons (.cons (.cons λ_ _ h=>h.bt))) (Ld.n (v:=ptr kp) (Ld.n (v:=.map (some mb)) (Ld.f (v:=i64 x.a) (h.dL.hit (k:=x.a) (ca _) (b:=mb) (by exact .tail _ (.tail _ (.head _))) ha λv e=>?_))));subst e;refine Ld.n (v:=.map (some mb)) (Ld.f (v:=i64 x.b) (h.dL.hit (k:=x.b) (ca _) (b:=mb) (by exact .tail _ (.tail _ (.head _))) hb λv e=>?_));subst e;intro F;refine aa.fq (Og h.ks la lb) ?_;rintro w H hD;have hQ:nA kp K S ord ah tr (dN c.n (bU S hs) x) (qo c.n c.cap (fL S hs) (bU S hs) x ord) w H:=by
  have hq:=h.done hD;rw[h.n,h.cap]at hq;rw[kC zO];have e:dN c.n (bU S hs) x=λy=>bU S hs x.a y^^bU S hs x.b y:=by simp only[dN,hop]
  rw[e];simp only[bA ha,bA hb];exact hq
 obtain⟨y,e,rfl⟩:=hQ.two;refine⟨.cons (.cons (.cons λ_ _ h=>h.bt)),?_⟩;exact Ext.two (aM.mk .tail ⟨_,rfl,hQ⟩)
theorem UE:j3 78 7 7:=by
 intro sp kp mb nx c K S ord ah tr hs es ck C x h hop TR hl;obtain⟨⟨T0,TZ⟩,⟨Rw,Ph,Pg⟩,A9,Lo,Pn⟩:=dm hl;obtain⟨ra,ha⟩:=eA A9 zD;have la:=h.live _ (h.find ha);obtain⟨rb,hb⟩:=eA Lo zD;have lb:=h.live _ (h.find hb);obtain⟨rc,hc⟩:=eA Pn zD;have lc:=h.live _ (h.find hc);refine aF λg=>OL λb1 _=>?_;refine DR.of (R:=[(b1,.cells (Value.cells x.v) 35 zZ),jN sp c kp mb nx,(mb,.map es ck)]) (.cons (.cons (.cons λ_ _ h=>h.bt))) (Ld.n (v:=ptr kp) (Ld.n (v:=.map (some mb)) (Ld.f (v:=i64 x.a) (h.dL.hit (k:=x.a) (ca _) (b:=mb) (by exact .tail _ (.tail _ (.head _))) ha λv e=>?_))));subst e;refine Ld.n (v:=.map (some mb)) (Ld.f (v:=i64 x.b) (h.dL.hit (k:=x.b) (ca _) (b:=mb) (by exact .tail _ (.tail _ (.head _))) hb λv e=>?_));subst e;refine Ld.n (v:=.map (some mb)) (Ld.f (v:=i64 x.c) (h.dL.hit (k:=x.c) (ca _) (b:=mb) (by exact .tail _ (.tail _ (.head _))) hc λv e=>?_));subst e;intro F;refine aa.fq (z9 h.ks la lb lc) ?_;rintro w H hD;have hQ:nA kp K S ord ah tr (dN c.n (bU S hs) x) (qo c.n c.cap (fL S hs) (bU S hs) x ord) w H:=by
  have hq:=h.done hD;rw[h.n,h.cap]at hq;rw[kC zO];have e:dN c.n (bU S hs) x=λy=>if bU S hs x.a y then bU S hs x.b y else bU S hs x.c y:=by simp only[dN,hop]
  rw[e];simp only[bA ha,bA hb,bA hc];exact hq
 obtain⟨y,e,rfl⟩:=hQ.two;refine⟨.cons (.cons (.cons λ_ _ h=>h.bt)),?_⟩;exact Ext.two (aM.mk .tail ⟨_,rfl,hQ⟩)
theorem AA:j3 79 8 81:=by
 intro sp kp mb nx c K S ord ah tr hs es ck C x h hop TR hl;obtain⟨⟨T0,TZ⟩,⟨Rw,Ph,Pg⟩,A9,Lo,Pn⟩:=dm hl;obtain⟨ra,ha⟩:=eA A9 zD;have la:=h.live _ (h.find ha);obtain⟨v,hv,FZ⟩:=ET Ph zD;refine aF λg=>OK λb1 _=>?_;refine DR.of (R:=[(b1,.cells (Value.cells x.v) 35 zZ),jN sp c kp mb nx,(mb,.map es ck)]) (.cons (.cons (.cons λ_ _ h=>h.bt))) (Ld.n (v:=ptr kp) (Ld.n (v:=.map (some mb)) (Ld.f (v:=i64 x.a) (h.dL.hit (k:=x.a) (ca _) (b:=mb) (by exact .tail _ (.tail _ (.head _))) ha λv e=>?_))));subst e;refine Ld.f (v:=i64 x.b) (Ld.f (v:=i64 x.c) (ae.gI ?_));rw[hv];intro F;refine aa.fq (vq h.ks la (v:=v) (by rw[h.n];exact FZ)) ?_;rintro w H hD;have hQ:nA kp K S ord ah tr (dN c.n (bU S hs) x) (qo c.n c.cap (fL S hs) (bU S hs) x ord) w H:=by
  have hq:=h.done hD;rw[h.n,h.cap]at hq;rw[kC zO];have e:dN c.n (bU S hs) x=λy=>bU S hs x.a (an.aB y x.b.toNat (decide (x.c=1))):=by simp only[dN,hop]
  rw[e];simp only[bA ha,hv,xbh];exact hq
 obtain⟨y,e,rfl⟩:=hQ.two;refine⟨.cons (.cons (.cons λ_ _ h=>h.bt)),?_⟩;exact Ext.two (aM.mk .tail ⟨_,rfl,hQ⟩)
theorem Ff:j3 80 9 129:=by
 intro sp kp mb nx c K S ord ah tr hs es ck C x h hop TR hl;obtain⟨⟨T0,TZ⟩,⟨Rw,Ph,Pg⟩,A9,Lo,Pn⟩:=dm hl;obtain⟨ra,ha⟩:=eA A9 zD;have la:=h.live _ (h.find ha);have hm:x.x<2^K.n:=by
  rw[h.n];have:x.x>>>c.n=0:=by simpa[M4]using Pg
  rw[xaZ]at this;exact(Nat.div_eq_zero_iff.1 this).resolve_left (xdq (xbs _))
 refine aF λg=>OJ λb1 _=>?_;refine DR.of (R:=[(b1,.cells (Value.cells x.v) 35 zZ),jN sp c kp mb nx,(mb,.map es ck)]) (.cons (.cons (.cons λ_ _ h=>h.bt))) (Ld.n (v:=ptr kp) (Ld.n (v:=.map (some mb)) (Ld.f (v:=i64 x.a) (h.dL.hit (k:=x.a) (ca _) (b:=mb) (by exact .tail _ (.tail _ (.head _))) ha λv e=>?_))));subst e;refine Ld.f (v:=u64 x.x) λF=>?_;refine aa.fq (DU h.ks la hm) ?_;rintro w H hD;have hQ:nA kp K S ord ah tr (dN c.n (bU S hs) x) (qo c.n c.cap (fL S hs) (bU S hs) x ord) w H:=by
  have hq:=h.each hD;rw[h.n,h.cap]at hq;rw[abj hop];have e:dN c.n (bU S hs) x=uc true (bitsOf x.x c.n) (bU S hs x.a):=by simp only[dN,hop]
  rw[e,bA ha];exact hq
 obtain⟨y,e,rfl⟩:=hQ.two;refine⟨.cons (.cons (.cons λ_ _ h=>h.bt)),?_⟩;exact Ext.two (aM.mk .tail ⟨_,rfl,hQ⟩)
theorem Fe:j3 81 10 129:=by
 intro sp kp mb nx c K S ord ah tr hs es ck C x h hop TR hl;obtain⟨⟨T0,TZ⟩,⟨Rw,Ph,Pg⟩,A9,Lo,Pn⟩:=dm hl;obtain⟨ra,ha⟩:=eA A9 zD;have la:=h.live _ (h.find ha);have hm:x.x<2^K.n:=by
  rw[h.n];have:x.x>>>c.n=0:=by simpa[M4]using Pg
  rw[xaZ]at this;exact(Nat.div_eq_zero_iff.1 this).resolve_left (xdq (xbs _))
 refine aF λg=>OI λb1 _=>?_;refine DR.of (R:=[(b1,.cells (Value.cells x.v) 35 zZ),jN sp c kp mb nx,(mb,.map es ck)]) (.cons (.cons (.cons λ_ _ h=>h.bt))) (Ld.n (v:=ptr kp) (Ld.n (v:=.map (some mb)) (Ld.f (v:=i64 x.a) (h.dL.hit (k:=x.a) (ca _) (b:=mb) (by exact .tail _ (.tail _ (.head _))) ha λv e=>?_))));subst e;refine Ld.f (v:=u64 x.x) λF=>?_;refine aa.fq (DN h.ks la hm) ?_;rintro w H hD;have hQ:nA kp K S ord ah tr (dN c.n (bU S hs) x) (qo c.n c.cap (fL S hs) (bU S hs) x ord) w H:=by
  have hq:=h.each hD;rw[h.n,h.cap]at hq;rw[Yu hop];have e:dN c.n (bU S hs) x=uc false (bitsOf x.x c.n) (bU S hs x.a):=by simp only[dN,hop]
  rw[e,bA ha];exact hq
 obtain⟨y,e,rfl⟩:=hQ.two;refine⟨.cons (.cons (.cons λ_ _ h=>h.bt)),?_⟩;exact Ext.two (aM.mk .tail ⟨_,rfl,hQ⟩)
theorem Co:j3 82 11 21:=by
 intro sp kp mb nx c K S ord ah tr hs es ck C x h hop TR hl;obtain⟨⟨T0,TZ⟩,⟨Rw,Ph,Pg⟩,A9,Lo,Pn⟩:=dm hl;obtain⟨ra,ha⟩:=eA A9 zD;have la:=h.live _ (h.find ha);obtain⟨rc,hc⟩:=eA Pn zD;have lc:=h.live _ (h.find hc);obtain⟨v,hv,FZ⟩:=ET Ph zD;refine aF λg=>OH λb1 _=>?_;refine DR.of (R:=[(b1,.cells (Value.cells x.v) 35 zZ),jN sp c kp mb nx,(mb,.map es ck)]) (.cons (.cons (.cons λ_ _ h=>h.bt))) (Ld.n (v:=ptr kp) (Ld.n (v:=.map (some mb)) (Ld.f (v:=i64 x.a) (h.dL.hit (k:=x.a) (ca _) (b:=mb) (by exact .tail _ (.tail _ (.head _))) ha λv e=>?_))));subst e;refine Ld.f (v:=i64 x.b) ?_;rw[hv];refine Ld.n (v:=.map (some mb)) (Ld.f (v:=i64 x.c) (h.dL.hit (k:=x.c) (ca _) (b:=mb) (by exact .tail _ (.tail _ (.head _))) hc λv e=>?_));subst e;intro F;refine aa.fq (N8 h.ks la (v:=v) (by rw[h.n];exact FZ) lc) ?_;rintro w H hD;have hQ:nA kp K S ord ah tr (dN c.n (bU S hs) x) (qo c.n c.cap (fL S hs) (bU S hs) x ord) w H:=by
  have hq:=h.comp hD;rw[h.n,h.cap]at hq;rw[Yt hop];have e:dN c.n (bU S hs) x=λy=>if bU S hs x.c y then bU S hs x.a (an.aB y x.b.toNat true)else bU S hs x.a (an.aB y x.b.toNat false):=by simp only[dN,hop]
  rw[e];simp only[bA ha,bA hc,hv,xbh];exact hq
 obtain⟨y,e,rfl⟩:=hQ.two;refine⟨.cons (.cons (.cons λ_ _ h=>h.bt)),?_⟩;exact Ext.two (aM.mk .tail ⟨_,rfl,hQ⟩)
end
section
variable {sp kp mb nx:Nat} {c:Cf} {K:Kd} {S:Nat->aA.Fn} {ord ah tr:zL} {hs:List (Int×Nat)} {es:Array MapEntry} {ck:Nat} {C:Hp} {x:fZ}
theorem Vd{w f:Nat}(h:iq kp nx c K S ord ah tr hs es ck C)(hw:w<256)(hx:x.x<18446744073709551616)(hl:kE c.n hs w x≠0):
  Rd zQ 43 #[ptr sp,x.v,.agg (Le (w,f)).toArray] (gS sp c kp mb nx es ck C) (· =eW (kE c.n hs w x) (-1) 0 0):=by
 refine aF λg=>Ak λb1 _ b3 _ b5 _=>?_;refine ax.q (r:=x.cells) (Ld.f (v:=.int .u8 (w:Int)) (aa.eq (look_ok h hw hx) (ae.cD (Br.T ?_ hl))));refine aa.eq (cz _ _) (St.p (r:=[i64 (kE c.n hs w x),i64 (-1),u64 0,i64 0]) (bC _ _ _ _) ?_);refine ax.q ?_;exact aZ.mk (.skip (.skip .tail)) rfl
def m0(op:Nat):Option Nat:=
 if op=23 then some 97 else if op=22 then some 96 else if op=21 then some 95 else if op=20 then some 94 else
 if op=19 then some 93 else if op=18 then some 92 else if op=17 then some 91 else if op=16 then some 90 else
 if op=15 then some 89 else if op=14 then some 88 else if op=13 then some 87 else if op=12 then some 86 else none
theorem Oi:Fc zQ 44 #[] [] (λv H=>∃b es ck m,v=.map (some b)/\H=[(b,.map es ck)]/\aE (kI .u8) (λv (p:Nat)=>v=.func (.func p) #[] #[]) es ck m/\∀op:Nat,aJ m (op:Int)=m0 op):=by
 refine aF λg=>OY λb _=>?_;have br:∀{k:Int} {p:Nat} {es:Array MapEntry} {ck:Nat} {m:List (Int×Nat)} {Q:Hp->Prop},aE (kI .u8) (λv (p:Nat)=>v=.func (.func p) #[] #[]) es ck m->(∀es' bB,aE (kI .u8) (λv (p:Nat)=>v=.func (.func p) #[] #[]) es' bB (ef m k p)->Q [(b,.map es' bB)])->
   aW (.int .u8) [(b,.map es ck)] (.map (some b)) (kI .u8 k) (.func (.func p) #[] #[]) Q:=λ{k p es ck m Q} he hq=>
  aE.br (ca _) (A1 _) he rfl λes' bB he'=>⟨_,.head _,hq es' bB he'⟩
 refine br (k:=12) aE.empty λ_ _ h=>?_;refine br (k:=13) h λ_ _ h=>?_;refine br (k:=14) h λ_ _ h=>?_;refine br (k:=15) h λ_ _ h=>?_;refine br (k:=16) h λ_ _ h=>?_;refine br (k:=17) h λ_ _ h=>?_;refine br (k:=18) h λ_ _ h=>?_;refine br (k:=19) h λ_ _ h=>?_;refine br (k:=20) h λ_ _ h=>?_;refine br (k:=21) h λ_ _ h=>?_;refine br (k:=22) h λ_ _ h=>?_;refine br (k:=23) h λ_ _ h=>?_;refine aM.mk (.refl _) ⟨b,_,_,_,rfl,rfl,h,λop=>?_⟩;simp only[bJ];have:∀j:Nat,((op:Int)=(j:Int))=(op=j):=λj=>propext zO;have e:=this 12;have e2:=this 13;have e3:=this 14;have e4:=this 15;have e5:=this 16;have e6:=this 17;have e7:=this 18;have e8:=this 19;have e9:=this 20;have e10:=this 21;have ZO:=this 22;have e12:=this 23
 simp only[Int.cast_ofNat_Int]at*;simp only[e,e2,e3,e4,e5,e6,e7,e8,e9,e10,ZO,e12];rfl
def aad(v:zV):Prop:=∃(e h:Int) (n:Nat) (t:Int),v=eW e h n t
set_option maxHeartbeats 1000000 in
theorem uZ{C:Hp}{Q:zV->Hp->Prop}(hQ:∀v H,Q v H->aad v)
 (h1:∀w f,dA x.op=some (w,f)->Fc zQ 43 #[ptr sp,x.v,.agg (Le (w,f)).toArray] C Q)
 (h2:∀f,dA x.op=none->m0 x.op=some f->aU zQ f=true->Fc zQ f #[ptr sp,x.v] C Q)
 (h3:dA x.op=none->m0 x.op=none->Q (eW 12 (-1) 0 0) C):Fc zQ 16 #[ptr sp,x.v] C Q:=by
 refine aF λg=>O8 λb1 _ b3 _=>?_;refine ae.aH (Br.no (DR.of (R:=(b1,.cells x.cells.toArray 35 zZ)::[]) (.skip (.cons λ_ _ h=>h.bt)) (Ld.f (v:=.int .u8 (x.op:Int)) λF=>?_)));refine aa.fn hnew M9 ?_;rintro w H ⟨bm,kf,jJ,m1,rfl,rfl,T2,uf⟩;refine⟨.skip (.skip (.cons λ_ _ h=>h.bt)),?_⟩;refine⟨[(b1,.cells x.cells.toArray 35 zZ),(bm,.map kf jJ)],(aL.perm (List.Perm.swap _ _ _)).trans (.skip ?_),.cons (λ_ _ h=>h.bt),?_⟩
 ·exact(aL.perm (List.Perm.swap _ _ _)).trans (.cons (.cons λ_ _ h=>h.bt))
 refine T2.look (k:=(x.op:Int)) (ca _) (by exact .tail _ (.head _)) (λp v hp hv=>?_) (λhp=>?_)
 ·subst hv;obtain⟨w,f⟩:=p;rw[uf]at hp;refine Ext.two λwR _=>λF=>?_;refine St.p (r:=Le (w,f)) (λu hu=>by simp only[Le,xam,xaP,xbD]at hu;rcases hu with rfl|rfl<;>rfl) (⟨.skip ((aL.perm (List.Perm.swap _ _ _)).trans (.skip ((aL.perm (List.Perm.swap _ _ _)).trans (.cons (.cons λ_ _ h=>h.bt))))),?_⟩);refine Br.yes (ax.q (r:=x.cells) (ax.q (r:=Le (w,f)) (aa.fq (h1 w f hp) ?_)));intro v H hv;obtain⟨e,h,n,t,rfl⟩:=hQ v H hv;refine St.p (r:=[i64 e,i64 h,u64 n,i64 t]) (bC _ _ _ _) ?_;refine ax.q ?_;exact aM.mk (.skip (.skip (.skip .tail))) hv
 rw[uf]at hp;refine Ext.two λwR _=>λF=>?_;refine St.p (r:=[.int .u8 0,.nilFunc]) (by simp[Value.oneCell']) (⟨.skip ((aL.perm (List.Perm.swap _ _ _)).trans (.skip ((aL.perm (List.Perm.swap _ _ _)).trans (.cons (.cons λ_ _ h=>h.bt))))),?_⟩);refine Br.no (DR.of (R:=(b1,.cells x.cells.toArray 35 zZ)::[]) (.skip (.skip (.skip (.cons λ_ _ h=>h.bt)))) (Ld.f (v:=.int .u8 (x.op:Int)) λF=>?_));refine aa.fn hnew Oi ?_;rintro w H ⟨ba,gV,iE,m2,rfl,rfl,sQ,lY⟩;refine⟨.skip (.skip (.skip (.skip (.cons λ_ _ h=>h.bt)))),?_⟩;refine⟨[(b1,.cells x.cells.toArray 35 zZ),(ba,.map gV iE)],?_,.cons (λ_ _ h=>h.bt),?_⟩
 ·refine(aL.perm ((List.Perm.cons _ (List.Perm.cons _ (List.Perm.cons _ (List.Perm.swap _ _ _)))).trans ((List.Perm.cons _ (List.Perm.cons _ (List.Perm.swap _ _ _))).trans ((List.Perm.cons _ (List.Perm.swap _ _ _)).trans (List.Perm.swap _ _ _))))).trans ?_;exact .cons ((aL.perm (List.Perm.swap _ _ _)).trans (.skip ((aL.perm (List.Perm.swap _ _ _)).trans (.skip ((aL.perm (List.Perm.swap _ _ _)).trans (.skip (.cons λ_ _ h=>h.bt)))))))
 refine sQ.look (k:=(x.op:Int)) (ca _) (by exact .tail _ (.head _)) (λf v hf hv=>?_) (λhf=>?_)
 ·subst hv;rw[lY]at hf;have fP:aU zQ f=true:=by
   unfold m0 at hf
   repeat' split at hf
   all_goals first|(cases hf;kernel_rfl)|cases hf
  refine Ext.two (Br.yes (ax.q (r:=x.cells) (aK.of rfl fP (aa.fq (args:=#[ptr sp,x.v]) (h2 f hp hf fP) ?_))));intro v H hv;obtain⟨e,h,n,t,rfl⟩:=hQ v H hv;refine St.p (r:=[i64 e,i64 h,u64 n,i64 t]) (bC _ _ _ _) ?_;refine ax.q ?_;exact aM.mk (.skip (.skip (.skip (.skip .tail)))) hv
 rw[lY]at hf;refine Ext.two (Br.no (aa.eq (cz _ _) (St.p (r:=[i64 12,i64 (-1),u64 0,i64 0]) (bC _ _ _ _) ?_)));refine ax.q ?_;exact aM.mk (.skip (.skip (.skip (.skip .tail)))) (h3 hp hf)
end
section
variable {sp kp mb nx:Nat} {c:Cf} {K:Kd} {S:Nat->aA.Fn} {ord ah tr:zL} {hs:List (Int×Nat)} {es:Array MapEntry} {ck:Nat} {C:Hp} {x:fZ}
theorem Qi(h:iq kp nx c K S ord ah tr hs es ck C)(hx:x.x<18446744073709551616):
  Rd zQ 88 #[ptr sp,x.v] (gS sp c kp mb nx es ck C) (· =if(aJ hs x.a).isSome then eW 0 (-1) (bU S hs x.a x.x).toNat 0 else eW 3 (-1) 0 0):=by
 refine aF λg=>OE λb1 _ b3 _=>?_;refine Ld.f (v:=i64 x.a) (aa.eq (eS h x.a) (Un.not ?_));cases hm:aJ hs x.a with
 |none=>
  refine Br.yes (aa.eq (cz _ _) (St.p (r:=[i64 3,i64 (-1),u64 0,i64 0]) (bC _ _ _ _) ?_));refine ax.q ?_;exact aZ.mk (.skip .tail) rfl
 |some r=>
  apply Br.no;have hl:=h.live _ (h.find hm);refine DR.of (.refl _) (Ld.n (v:=ptr kp) (Ld.n (v:=.map (some mb)) (Ld.f (v:=i64 x.a) (h.dL.hit (k:=x.a) (ca _) (b:=mb) (by exact .tail _ (.tail _ (.tail _ (.head _)))) hm λv e=>?_))));subst e;refine Ld.f (v:=u64 x.x) λF=>?_;refine aa.eq (args:=#[ptr kp,u32 r,u64 x.x]) (S6 h.ks hl hx) (⟨.refl _,?_⟩);refine Ext.two (aa.eq (KR _ _) (aa.eq (dS _ 0 _) (St.p (r:=[i64 0,i64 (-1),u64 (S r x.x).toNat,i64 0]) (bC _ _ _ _) ?_)));refine ax.q ?_;exact aZ.mk (.skip .tail) (by rw[bA hm];rfl)
theorem P9(h:iq kp nx c K S ord ah tr hs es ck C):
  Rd zQ 89 #[ptr sp,x.v] (gS sp c kp mb nx es ck C) (λw=>w=if(aJ hs x.a).isSome&& (aJ hs x.b).isSome then eW 0 (-1) (@decide (bU S hs x.a=bU S hs x.b) (Classical.propDecidable _)).toNat 0 else eW 3 (-1) 0 0):=by
 refine aF λg=>OD λb1 _ b3 _ J5 h5=>?_;have no:((aJ hs x.a).isSome&& (aJ hs x.b).isSome)=false->J5 [.bool true] ((b3,.cells #[i64 0,i64 0,u64 0,i64 0] 37 zZ)::(b1,.cells (Value.cells x.v) 35 zZ)::gS sp c kp mb nx es ck C):=λhb=>by
  refine h5 _ _ λ_=>Br.yes ?_;refine aa.eq (cz _ _) (St.p (r:=[i64 3,i64 (-1),u64 0,i64 0]) (bC _ _ _ _) ?_);refine ax.q ?_;exact aZ.mk (.skip .tail) (by rw[hb];rfl)
 refine Ld.f (v:=i64 x.a) (aa.eq (eS h x.a) (Un.not ?_));cases hm:aJ hs x.a with
 |none=>exact Split.AQ rfl (aD.mk (JE.mk (no (by rw[hm];rfl))))
 |some r=>
 refine Split.go rfl (Ld.f (v:=i64 x.b) (aa.eq (eS h x.b) (Un.not (aD.mk ?_))));cases lY:aJ hs x.b with
 |none=>exact JE.mk (no (by rw[lY];exact xdL _))
 |some q=>
 refine JE.mk (h5 _ _ λ_=>Br.no ?_);have hl:=h.live _ (h.find hm);have qK:=h.live _ (h.find lY);refine DR.of (.refl _) (Ld.n (v:=.map (some mb)) (Ld.f (v:=i64 x.a) (h.dL.hit (k:=x.a) (ca _) (b:=mb) (by exact .tail _ (.tail _ (.tail _ (.head _)))) hm λv e=>?_)));subst e;refine Ld.n (v:=.map (some mb)) (Ld.f (v:=i64 x.b) (h.dL.hit (k:=x.b) (ca _) (b:=mb) (by exact .tail _ (.tail _ (.tail _ (.head _)))) lY λv e=>?_));subst e;refine ae.dQ ?_;have e:decide (r=q)= @decide (bU S hs x.a=bU S hs x.b) (Classical.propDecidable _):=by
  by_cases hq:r=q
  ·rw[xal hq];exact(@decide_eq_true _ (Classical.propDecidable _) (by rw[bA hm,bA lY];exact(h.same hl qK).2 hq)).symm
  rw[xai hq];exact(@decide_eq_false _ (Classical.propDecidable _) (by rw[bA hm,bA lY];exact λe=>hq ((h.same hl qK).1 e))).symm
 rw[e];intro F;refine aa.eq (KR _ _) λF=>?_;refine aa.eq (dS _ 0 _) λF=>?_;refine St.p (r:=[i64 0,i64 (-1),u64 _,i64 0]) (bC _ _ _ _) ?_;refine ax.q ?_;exact aZ.mk (.skip .tail) (by rw[hm,lY];rfl)
theorem Qd(h:iq kp nx c K S ord ah tr hs es ck C):
  Rd zQ 92 #[ptr sp,x.v] (gS sp c kp mb nx es ck C) (· =eW 0 (-1) (cG K S ord) 0):=by
 have hle:=iF h.ks.bc;refine aF λg=>OA λb1 _ b3 _=>?_;refine Ld.n (v:=ptr kp) ?_;refine aa.eq (cF h.ks.bc) (aV.q (aa.eq (dS _ 0 _) (St.p (r:=[i64 0,i64 (-1),u64 (cG K S ord),i64 0]) (bC _ _ _ _) ?_)));refine ax.q ?_;exact aZ.mk (.skip .tail) rfl
theorem MC(h:iq kp nx c K S ord ah tr hs es ck C)(hv:x.a<0\/(c.n:Int)<=x.a):
  Rd zQ 95 #[ptr sp,x.v] (gS sp c kp mb nx es ck C) (· =eW 2 (-1) 0 0):=by
 refine aF λg=>Ag λb1 _ b3 _=>?_;refine DR.of (.refl _) (Ld.n (v:=ptr kp) (Ld.f (v:=i64 x.a) λF=>?_));refine aa.eq (args:=#[ptr kp,i64 x.a]) (Ef h.ks.bc (by rw[h.n];exact hv)) (⟨.refl _,Ext.two ?_⟩);refine aV.q (a:=0) (aa.eq (dS 0 2 _) (St.p (r:=[i64 2,i64 (-1),u64 0,i64 0]) (bC _ _ _ _) ?_));refine ax.q ?_;exact aZ.mk (.skip .tail) rfl
theorem MD(h:iq kp nx c K S ord ah tr hs es ck C){v:Nat}(hx:x.a=v)(hv:v<c.n):
  Rd zQ 95 #[ptr sp,x.v] (gS sp c kp mb nx es ck C) (λw=>∃p,p<c.n/\ord.getD p 0=v/\w=eW 0 (-1) p 0):=by
 have hn:=h.ks.bc.lz;refine aF λg=>Ag λb1 _ b3 _=>?_;refine DR.of (.refl _) (Ld.n (v:=ptr kp) (Ld.f (v:=i64 x.a) ?_));rw[hx];intro F;refine aa.rq (args:=#[ptr kp,i64 (v:Int)]) (Eg h.ks.bc (by rw[h.n];exact hv)) ?_;rintro w ⟨p,hp,hop,rfl⟩;refine⟨.refl _,Ext.two ?_⟩;refine aV.q (aa.eq (dS p 0 _) (St.p (r:=[i64 0,i64 (-1),u64 p,i64 0]) (bC _ _ _ _) ?_));refine ax.q ?_;exact aZ.mk (.skip .tail) ⟨p,by rw[<-h.n];exact hp,hop,rfl⟩
theorem P8(h:iq kp nx c K S ord ah tr hs es ck C){P:Nat->Int->Prop}(R8:∀r,aJ hs x.a=some r->Rd zQ 146 #[ptr kp,u32 r] C (λv=>∃n e,P n e/\v=.tuple #[u64 n,i64 e])):
  Rd zQ 90 #[ptr sp,x.v] (gS sp c kp mb nx es ck C) (λv=>((aJ hs x.a).isSome=false/\v=eW 3 (-1) 0 0)\/((aJ hs x.a).isSome=true/\∃n e,P n e/\v=if e=0 then eW 0 (-1) n 0 else eW e (-1) 0 0)):=by
 refine aF λg=>OC λb1 _ b3 _=>?_;refine Ld.f (v:=i64 x.a) (aa.eq (eS h x.a) (Un.not ?_));cases hm:aJ hs x.a with
 |none=>
  refine Br.yes (aa.eq (cz _ _) (St.p (r:=[i64 3,i64 (-1),u64 0,i64 0]) (bC _ _ _ _) ?_));refine ax.q ?_;exact aZ.mk (.skip .tail) (.inl ⟨rfl,rfl⟩)
 |some r=>
  refine Br.no (DR.of (.refl _) (Ld.n (v:=ptr kp) (Ld.n (v:=.map (some mb)) (Ld.f (v:=i64 x.a) (h.dL.hit (k:=x.a) (ca _) (b:=mb) (by exact .tail _ (.tail _ (.tail _ (.head _)))) hm λv e=>?_)))));subst e;intro F;refine aa.rq (args:=#[ptr kp,u32 r]) (R8 r hm) ?_;rintro w ⟨n,e,hP,rfl⟩;refine⟨.refl _,?_⟩;refine Ext.two λF=>(aa.eq (dS n e _) ?_);intro F;by_cases he:e=0
  ·rw[xad he];refine St.p (r:=[i64 0,i64 (-1),u64 n,i64 0]) (bC _ _ _ _) ?_;refine ax.q ?_;exact aZ.mk (.skip .tail) (.inr ⟨rfl,n,e,hP,by rw[xad he]⟩)
  rw[xac he];refine St.p (r:=[i64 e,i64 (-1),u64 0,i64 0]) (bC _ _ _ _) ?_;refine ax.q ?_;exact aZ.mk (.skip .tail) (.inr ⟨rfl,n,e,hP,by rw[xac he]⟩)
theorem ME(h:iq kp nx c K S ord ah tr hs es ck C){P:Nat->Int->Prop}(R8:∀r,aJ hs x.a=some r->Rd zQ 148 #[ptr kp,u32 r] C (λv=>∃n e,P n e/\v=.tuple #[u64 n,i64 e])):
  Rd zQ 93 #[ptr sp,x.v] (gS sp c kp mb nx es ck C) (λv=>((aJ hs x.a).isSome=false/\v=eW 3 (-1) 0 0)\/((aJ hs x.a).isSome=true/\∃n e,P n e/\v=if e=0 then eW 0 (-1) n 0 else eW e (-1) 0 0)):=by
 refine aF λg=>Oz λb1 _ b3 _=>?_;refine Ld.f (v:=i64 x.a) (aa.eq (eS h x.a) (Un.not ?_));cases hm:aJ hs x.a with
 |none=>
  refine Br.yes (aa.eq (cz _ _) (St.p (r:=[i64 3,i64 (-1),u64 0,i64 0]) (bC _ _ _ _) ?_));refine ax.q ?_;exact aZ.mk (.skip .tail) (.inl ⟨rfl,rfl⟩)
 |some r=>
  refine Br.no (DR.of (.refl _) (Ld.n (v:=ptr kp) (Ld.n (v:=.map (some mb)) (Ld.f (v:=i64 x.a) (h.dL.hit (k:=x.a) (ca _) (b:=mb) (by exact .tail _ (.tail _ (.tail _ (.head _)))) hm λv e=>?_)))));subst e;intro F;refine aa.rq (args:=#[ptr kp,u32 r]) (R8 r hm) ?_;rintro w ⟨n,e,hP,rfl⟩;refine⟨.refl _,?_⟩;refine Ext.two λF=>(aa.eq (dS n e _) ?_);intro F;by_cases he:e=0
  ·rw[xad he];refine St.p (r:=[i64 0,i64 (-1),u64 n,i64 0]) (bC _ _ _ _) ?_;refine ax.q ?_;exact aZ.mk (.skip .tail) (.inr ⟨rfl,n,e,hP,by rw[xad he]⟩)
  rw[xac he];refine St.p (r:=[i64 e,i64 (-1),u64 0,i64 0]) (bC _ _ _ _) ?_;refine ax.q ?_;exact aZ.mk (.skip .tail) (.inr ⟨rfl,n,e,hP,by rw[xac he]⟩)
theorem Cb(h:iq kp nx c K S ord ah tr hs es ck C){P:Nat->Int->Prop}(R8:∀r,aJ hs x.a=some r->Rd zQ 149 #[ptr kp,u32 r] C (λv=>∃n e,P n e/\v=.tuple #[u64 n,i64 e])):
  Rd zQ 94 #[ptr sp,x.v] (gS sp c kp mb nx es ck C) (λv=>((aJ hs x.a).isSome=false/\v=eW 3 (-1) 0 0)\/((aJ hs x.a).isSome=true/\∃n e,P n e/\v=if e=0 then eW 0 (-1) n 0 else eW e (-1) 0 0)):=by
 refine aF λg=>Oy ?_;intro b1 _ b3 _;refine Ld.f (v:=i64 x.a) ?_;refine aa.eq (eS h x.a) (Un.not ?_);cases hm:aJ hs x.a with
 |none=>
  refine Br.yes (aa.eq (cz _ _) (St.p (r:=[i64 3,i64 (-1),u64 0,i64 0]) (bC _ _ _ _) ?_));refine ax.q ?_;exact aZ.mk (.skip .tail) (.inl ⟨rfl,rfl⟩)
 |some r=>
  refine Br.no (DR.of (.refl _) (Ld.n (v:=ptr kp) ?_));refine Ld.n (v:=.map (some mb)) ?_;refine Ld.f (v:=i64 x.a) ?_;refine h.dL.hit (k:=x.a) (ca _) (b:=mb) (by exact .tail _ (.tail _ (.tail _ (.head _)))) hm λv e=>?_;subst e;intro F;refine aa.rq (args:=#[ptr kp,u32 r]) (R8 r hm) ?_;rintro w ⟨n,e,hP,rfl⟩;refine⟨.refl _,?_⟩;apply Ext.two;intro F;refine aa.eq (dS n e _) ?_;intro F;by_cases he:e=0
  ·rw[xad he];refine St.p (r:=[i64 0,i64 (-1),u64 n,i64 0]) (bC _ _ _ _) ?_;refine ax.q ?_;exact aZ.mk (.skip .tail) (.inr ⟨rfl,n,e,hP,by rw[xad he]⟩)
  rw[xac he];refine St.p (r:=[i64 e,i64 (-1),u64 0,i64 0]) (bC _ _ _ _) ?_;refine ax.q ?_;exact aZ.mk (.skip .tail) (.inr ⟨rfl,n,e,hP,by rw[xac he]⟩)
end
structure Rp where
 e:Int
 h:Int
 n:Nat
 t:Int
def Rp.cells(r:Rp):List zV:=[i64 r.e,i64 r.h,u64 r.n,i64 r.t]
abbrev Rp.v(r:Rp):zV:=.agg r.cells.toArray
theorem Rp.one(r:Rp):∀u∈r.cells,u.oneCell'=true:=bC _ _ _ _
theorem Cf.Ok.pe{d:Cf}(h:d.Ok):pe d.i=0:=by
 obtain⟨h1,h2,h3,h4,h5,h6⟩:=h;have a1:gZ d.i=false:=by
  show(decide (6<d.str)||decide ((d.gr:Int)<100)||decide (1000<(d.gr:Int))||decide ((d.rs:Int)<0)||decide (16<(d.rs:Int)))=false;simp only[xax,xa4];omega
 have a2:iQ d.i=false:=by
  show decide ((d.n:Int)<1\/64<(d.n:Int)\/(d.cap:Int)<2\/1048576<(d.cap:Int))=false;rw[xa4];omega
 have a3:¬(d.i.str=6/\12<d.i.n):=by
  show¬(d.str=6/\12<(d.n:Int));omega
 unfold Proofs.pe;rw[a1,a2,xac zD,xac zD,xac a3]
abbrev FS:=List (Int×aA.Fn)
def jU(S:Nat->aA.Fn)(hs:List (Int×Nat)):FS:=hs.map λp=>(p.1,S p.2)
def fF(F:FS)(a:Int):aA.Fn:=match aJ F a with|some f=>f|none=>λ_=>false
def pz(F:FS):List aA.Fn:=F.map Prod.snd
def dg(F:FS)(a:Int):Bool:=(aJ F a).isSome
theorem vN{S:Nat->aA.Fn}{a:Int}:∀hs:List (Int×Nat),aJ (jU S hs) a=(aJ hs a).map S
  | []=>rfl
  |p::hs=>by
    have ih:=vN (S:=S) (a:=a) hs;unfold aJ jU at*;rw[xaB,xby,xby];by_cases e:p.1=a
    · simp[e]
    · simp only[e,xdo]
      exact ih
theorem mU{S:Nat->aA.Fn}{hs:List (Int×Nat)}:fF (jU S hs)=bU S hs:=funext λa=>by
  unfold fF bU;rw[vN];cases aJ hs a<;>rfl
theorem rP{S:Nat->aA.Fn}{hs:List (Int×Nat)}:pz (jU S hs)=fL S hs:=by
  unfold pz jU fL;rw[xb2];rfl
theorem eM{S:Nat->aA.Fn}{hs:List (Int×Nat)}(a:Int):dg (jU S hs) a=(aJ hs a).isSome:=by
  unfold dg;rw[vN];cases aJ hs a<;>rfl
theorem mi{S S':Nat->aA.Fn}{hs:List (Int×Nat)}(h:∀p∈hs,S' p.2=S p.2):jU S' hs=jU S hs:=xbq λp hp=>by rw[h p hp]
def gD(n:Nat)(F:FS)(w:Nat)(x:fZ):Int:=
  if(GH w x||Oe w x)=true then 1 else if(Fy n w x||Fx n w x||M4 n w x)=true then 2 else
  if((decide (w&&&1≠0) && !dg F x.a)||(decide (w&&&2≠0) && !dg F x.b)||(decide (w&&&4≠0) && !dg F x.c))=true then 3 else 0
theorem yV{S:Nat->aA.Fn}{hs:List (Int×Nat)}{n w:Nat}{x:fZ}:gD n (jU S hs) w x=kE n hs w x:=by
  unfold gD kE wE wD zy;rw[eM,eM,eM]
noncomputable def yb(n:Nat)(F:FS)(ord:zL):Nat:=sz n ord (HF (pz F))
def kj(sp:Nat)(c:Cf)(nx:Nat)(F:FS)(ord tr:zL)(H:Hp):Prop:=
  ∃(kp mb:Nat) (K:Kd) (S:Nat->aA.Fn) (ah:zL) (hs:List (Int×Nat)) (es:Array MapEntry) (ck:Nat) (C:Hp),H=gS sp c kp mb nx es ck C/\iq kp nx c K S ord ah tr hs es ck C/\jU S hs=F
section
variable {sp nx:Nat} {c:Cf} {F:FS} {ord tr:zL} {H:Hp} {x:fZ}
theorem iq.yb{kp:Nat}{K:Kd}{S:Nat->aA.Fn}{ah:zL}{hs:List (Int×Nat)}{es:Array MapEntry}{ck:Nat}{C:Hp}(h:iq kp nx c K S ord ah tr hs es ck C)(o:zL):cG K S o=Proofs.yb c.n (jU S hs) o:=by
  unfold cG Proofs.yb;rw[h.held,rP,h.n]
theorem Vw{d:Cf}{kp mb:Nat}{C:Hp}(hK:cf kp (K0 d.n d.cap) S0 (List.range d.n) (List.range d.n) [] C):kj sp d 0 [] (List.range d.n) [] (gS sp d kp mb 0 #[] 0 C):=
  ⟨kp,mb,_,_,_,[],_,_,C,rfl,⟨hK,rfl,rfl,aE.empty,by simp,λr=>by
    show([]:zL).getD r 0=_;simp,by simp⟩,rfl⟩
theorem kj.lt(h:kj sp c nx F ord tr H):∀p∈F,0<=p.1/\p.1<nx:=by
  obtain⟨kp,mb,K,S,ah,hs,es,ck,C,rfl,h,rfl⟩:=h;intro p hp;obtain⟨q,hq,rfl⟩:=xan.1 hp;exact h.lt q hq
def XX(sp:Nat)(c:Cf)(nx:Nat)(F:FS)(ord tr:zL)(x:fZ)(R:zL->zL->Prop)(v:zV)(H:Hp):Prop:=
  ∃(t:Nat) (o cV:zL),t<=c.rs+1/\tS (qo c.n c.cap (pz F) (fF F) x) R ord t o/\
    ((v=eW 0 nx 0 t/\kj sp c (nx+1) (F++[((nx:Int),dN c.n (fF F) x)]) o [] H/\qo c.n c.cap (pz F) (fF F) x o 0)\/
     (∃e:Nat,(e=8\/e=9)/\v=eW e (-1) 0 t/\kj sp c nx F o cV H/\qo c.n c.cap (pz F) (fF F) x o e/\(e=9->t=c.rs+1)/\cV.length+66*yb c.n F o<=tr.length+66*yb c.n F ord))
theorem Wy{w f:Nat}(hm:dA x.op=some (w,f)):j3 f x.op w/\aU zQ f=true/\w<256:=by
  have nine:x.op=1\/x.op=2\/x.op=3\/x.op=4\/x.op=5\/x.op=6\/x.op=7\/x.op=8\/x.op=9\/x.op=10\/x.op=11:=by
    unfold dA at hm
    repeat' split at hm
    all_goals first|omega|cases hm
  rcases nine with e|e|e|e|e|e|e|e|e|e|e<;>rw[e]at hm⊢ <;>cases hm
  · exact⟨qW,by kernel_rfl,by decide⟩
  · exact⟨AJ,by kernel_rfl,by decide⟩
  · exact⟨UC,by kernel_rfl,by decide⟩
  · exact⟨UJ,by kernel_rfl,by decide⟩
  · exact⟨Yg,by kernel_rfl,by decide⟩
  · exact⟨Us,by kernel_rfl,by decide⟩
  · exact⟨UE,by kernel_rfl,by decide⟩
  · exact⟨AA,by kernel_rfl,by decide⟩
  · exact⟨Ff,by kernel_rfl,by decide⟩
  · exact⟨Fe,by kernel_rfl,by decide⟩
  · exact⟨Co,by kernel_rfl,by decide⟩
theorem D7(hx:x.op=1):j3 72 x.op 8/\aU zQ 72=true:=by
  rw[hx];exact⟨qW,by kernel_rfl⟩
def TD(c:Cf)(nx:Nat)(F:FS)(T:zL->Nat->Prop)(R:zL->zL->Prop)(b:Nat):Prop:=
  ∀{kp:Nat} {K:Kd} {S:Nat->aA.Fn} {o ah tr:zL} {hs:List (Int×Nat)} {es:Array MapEntry} {ck:Nat} {C:Hp},T o 9->iq kp nx c K S o ah tr hs es ck C->jU S hs=F->tr.length<=b->
    Fc zQ 85 #[ptr kp,.int .u8 (c.str:Int),i64 c.gr] C (λv H=>∃ls a b,v=.tuple #[a,b]/\R o ls/\At kp K S (ay o ls) (tr++ls) H/\ls.length+66*cG K S (ay o ls)<=66*cG K S o)
theorem Lg{w f:Nat}{R:zL->zL->Prop}(h:kj sp c nx F ord tr H)(hc:c.Ok)(A6:nx+1<9223372036854775808)(hx:x.x<18446744073709551616)(hf:j3 f x.op w)(fP:aU zQ f=true)(hw:w<256)(hl:gD c.n F w x=0)
   (hrun:TD c nx F (qo c.n c.cap (pz F) (fF F) x) R (tr.length+66*yb c.n F ord)):
    Fc zQ 43 #[ptr sp,x.v,.agg (Le (w,f)).toArray] H (XX sp c nx F ord tr x R):=by
  obtain⟨kp,mb,K,S,ah,hs,es,ck,C,rfl,h,rfl⟩:=h;rw[yV]at hl;rw[mU,rP,<-h.yb]at hrun;refine(Vc fP h hc A6 hw hx hl (fn:=dN c.n (bU S hs) x) (T:=qo c.n c.cap (fL S hs) (bU S hs) x) (R:=R) (λ{K' S' o bW cV C'} h' hS=>?_) (λ{K' S' o bW cV C'} hT h' hS hb=>?_)).mono ?_
  · have:=hf (sp:=sp) (mb:=mb) h' rfl hx hl
    rwa [Wq hS,NN h.dL.nd hS]at this
  · exact hrun hT h' (mi hS) hb
  · rintro v H ⟨t,o,bW,cV,K',S',es',bB,C',ht,hT,hS,hq⟩
    unfold XX;have ez:yb c.n (jU S hs)=cG K S:=funext λo=>(h.yb o).symm;rw[mU,rP,ez];refine⟨t,o,cV,ht,hT,?_⟩;rcases hq with⟨r,rfl,rfl,h',hr,h0,rfl⟩|⟨e,he,rfl,rfl,h',Sh,h9,hb⟩
    · refine .inl ⟨rfl,⟨kp,mb,K',S',bW,_,es',bB,C',rfl,h',?_⟩,h0⟩
      rw[<-mi hS];unfold jU;rw[xaJ,<-hr];rfl
    · exact .inr ⟨e,he,rfl,⟨kp,mb,K',S',bW,_,es',bB,C',rfl,h',mi hS⟩,Sh,h9,hb⟩
theorem FE{w f:Nat}(h:kj sp c nx F ord tr H)(hx:x.x<18446744073709551616)(hw:w<256)(hl:gD c.n F w x≠0):
    Rd zQ 43 #[ptr sp,x.v,.agg (Le (w,f)).toArray] H (· =eW (gD c.n F w x) (-1) 0 0):=by
  obtain⟨kp,mb,K,S,ah,hs,es,ck,C,rfl,h,rfl⟩:=h;rw[yV]at hl⊢;exact Vd h hw hx hl
theorem LG(h:kj sp c nx F ord tr H)(hx:x.x<18446744073709551616):Rd zQ 88 #[ptr sp,x.v] H (· =if dg F x.a then eW 0 (-1) (fF F x.a x.x).toNat 0 else eW 3 (-1) 0 0):=by
  obtain⟨kp,mb,K,S,ah,hs,es,ck,C,rfl,h,rfl⟩:=h;rw[eM,mU];exact Qi h hx
theorem KS(h:kj sp c nx F ord tr H):Rd zQ 90 #[ptr sp,x.v] H (· =if dg F x.a then eW 0 (-1) (sat c.n (fF F x.a)%Bx) 0 else eW 3 (-1) 0 0):=by
  obtain⟨kp,mb,K,S,ah,hs,es,ck,C,rfl,h,rfl⟩:=h;rw[eM,mU];refine(P8 h (x:=x) (P:=λn e=>e=0/\n=sat c.n (bU S hs x.a)%Bx) λr hr=>?_).mono λv H ⟨e,hv⟩=>⟨e,?_⟩
  · rw[bA hr,<-h.n]
    exact(SQ h.ks (h.live _ (h.find hr))).mono λv H ⟨e,hv⟩=>⟨e,_,_,⟨rfl,rfl⟩,hv⟩
  · rcases hv with⟨h1,h2⟩|⟨h1,n,e,⟨rfl,rfl⟩,h2⟩
    · rw[h1];exact h2
    · rw[h1];exact h2
end
end
end Go.Proofs
namespace aA
open an
variable {n:Nat} {ah:Nat->Nat} {N:eH} {S:Nat->Fn} {ord:zL} {R:Nat->Prop} {V:zL}
inductive Rc(N:eH)(R:Nat->Prop):Nat->Prop
 |base {r:Nat}:R r->Rc N R r
 |lo {p:Nat} {d:Nd}:Rc N R p->N p=some d->Rc N R d.lo
 |hi {p:Nat} {d:Nd}:Rc N R p->N p=some d->Rc N R d.hi
def Oq(N:eH)(V:zL):Prop:=∀u∈V,∃d,N u=some d/\(d.lo<2\/d.lo∈V)/\(d.hi<2\/d.hi∈V)
theorem Kz(h0:∀r,r<2->N r=none)(hV:Oq N V)(hR:∀r,R r->r<2\/r∈V):∀l r,A N ah n R l r->r<2\/r∈V
 |0,r,ha=>hR r ha
 |l+1,r,ha=>by
  rcases ha with⟨h1,_⟩|⟨p,d,h1,h2,_,h4⟩
  ·exact Kz h0 hV hR l r h1
  rcases Kz h0 hV hR l p h1 with hp|hp
  ·rw[h0 p hp]at h2;cases h2
  obtain⟨d',hd,a,b⟩:=hV p hp;rw[h2]at hd;cases hd;rcases h4 with rfl|rfl
  ·exact a
  exact b
theorem Rc.at(h:WF n ah N)(hR:∀r,R r->live N r){u:Nat}(hu:Rc N R u):∀d,N u=some d->A N ah n R (ah d.v) u:=by
 induction hu with
 |base hr=>
  intro d hd;have:=tg (N:=N) (ah:=ah) (n:=n) (ah d.v) 0 hr (by rw[aq hd];omega);rwa [xa3]at this
 | @lo p e hp he ih=>
  intro d hd;have hlt:=(h.lo he).2;rw[aq hd]at hlt;have hb:A N ah n R (ah e.v+1) e.lo:=.inr ⟨p,e,ih e he,he,rfl,.inl rfl⟩;have:=tg (ah d.v-(ah e.v+1)) _ hb (by rw[aq hd];omega);rwa [show ah e.v+1+(ah d.v-(ah e.v+1))=ah d.v by omega]at this
 | @hi p e hp he ih=>
  intro d hd;have hlt:=(h.hi he).2;rw[aq hd]at hlt;have hb:A N ah n R (ah e.v+1) e.hi:=.inr ⟨p,e,ih e he,he,rfl,.inr rfl⟩;have:=tg (ah d.v-(ah e.v+1)) _ hb (by rw[aq hd];omega);rwa [show ah e.v+1+(ah d.v-(ah e.v+1))=ah d.v by omega]at this
theorem Mj(h:WF n ah N)(hl:jX n ah)(ho:Ord n ah ord)(hi:Interp N S)(hR:∀r,R r->live N r)(hV:Oq N V)(hRV:∀r,R r->r<2\/r∈V)(hVR:∀u∈V,Rc N R u)(g:Fn):aG n ord (Fs S R) g↔∃u∈V,g=S u:=by
 constructor
 ·rintro⟨l,BJ,hf,x,hx⟩;obtain⟨v1,v2⟩:=ho.bc l BJ;obtain⟨r,ha,rfl⟩:=(NM h hl ho hi hR l zO g).1 hf;rcases Kz (λr hr=>h.const hr) hV hRV l r ha with hc|hm
  ·exfalso;have:r=0\/r=1:=by omega
   rcases this with rfl|rfl
   ·exact hx (by rw[hi.zero,hi.zero])
   exact hx (by rw[hi.one,hi.one])
  exact⟨r,hm,rfl⟩
 rintro⟨u,hu,rfl⟩;obtain⟨d,hd,_⟩:=hV u hu;have hv:=h.var hd;refine⟨ah d.v,hl.lt _ hv,(NM h hl ho hi hR _ (xb9 (hl.lt _ hv)) _).2 ⟨u,(hVR u hu).at h hR d hd,rfl⟩,?_⟩;rw[ho.of hl hv];exact gp h hl hi hd
theorem Ug(h:WF n ah N)(hl:jX n ah)(ho:Ord n ah ord)(hi:Interp N S)(hR:∀r,R r->live N r)(hV:Oq N V)(hRV:∀r,R r->r<2\/r∈V)(hVR:∀u∈V,Rc N R u)(nd:V.Nodup):pC (aG n ord (Fs S R)) V.length:=by
 have live':∀u∈V,live N u:=λu hu=>let ⟨d,hd,_⟩:=hV u hu;.inr ⟨d,hd⟩
 refine⟨V.map S,?_,by simp,λg=>?_⟩
 ·refine xcc.2 (nd.imp_of_mem λ{a b} ha hb hne e=>hne ?_);exact h.same hl hi (live' a ha) (live' b hb) λx=>congrFun e x
 rw[Mj h hl ho hi hR hV hRV hVR,xan];exact⟨λ⟨u,hu,e⟩=>⟨u,hu,e.symm⟩,λ⟨u,hu,e⟩=>⟨u,hu,e.symm⟩⟩
theorem Ml(h:WF n ah N)(hl:jX n ah)(hi:Interp N S)(hV:Oq N V){v:Nat}(hno:∀u∈V,∀d,N u=some d->d.v≠v):∀(k u:Nat),n-dep n ah N u<=k->u<2\/u∈V->∀x,S u (aB x v false)=S u (aB x v true):=by
 intro k;have const:∀u,u<2->∀x,S u (aB x v false)=S u (aB x v true):=λu hu x=>by
  have:u=0\/u=1:=by omega
  rcases this with rfl|rfl
  ·rw[hi.zero,hi.zero]
  rw[hi.one,hi.one]
 induction k with
 |zero=>
  intro u hk hu x;rcases hu with hu|hu
  ·exact const u hu x
  obtain⟨d,hd,_⟩:=hV u hu;rw[aq hd]at hk;have:=hl.lt _ (h.var hd);omega
 |succ k ih=>
  intro u hk hu x;rcases hu with hu|hu
  ·exact const u hu x
  obtain⟨d,hd,a,b⟩:=hV u hu;have h1:=(h.lo hd).2;have h2:=(h.hi hd).2;have h3:=hl.lt _ (h.var hd);rw[aq hd]at hk;have hne:=hno u hu d hd;rw[hi.node hd,hi.node hd,aj,aj,xac hne,xac hne,ih d.lo zO a,ih d.hi zO b]
theorem Rc.cE(h:WF n ah N)(hl:jX n ah)(hi:Interp N S){r u v:Nat}(hu:Rc N (λq=>q=r) u):cE (S u) v->cE (S r) v:=by
 have step:∀(p q:Nat) (d:Nd) (b:Bool),N p=some d->q=(if b then d.hi else d.lo)->aA.cE (S q) v->aA.cE (S p) v:=λp q d b hp hq hv=>by
  have VJ:live N q/\ah d.v+1<=dep n ah N q:=by
   cases b
   ·rw[hq];exact h.lo hp
   rw[hq];exact h.hi hp
  have ind:∀x c,S q (aB x d.v c)=S q x:=λx c=>h.bN hl hi VJ.1 (h.var hp) zO x c;obtain⟨x,hx⟩:=hv;have hne:v≠d.v:=λe=>by
   subst e;exact hx (by rw[ind,ind])
  refine⟨aB x d.v b,?_⟩;have e:∀c,S p (aB (aB x d.v b) v c)=S q (aB x v c):=λc=>by
   have tb:(aB (aB x d.v b) v c).testBit d.v=b:=by rw[aj,xac (λe=>hne e.symm),aj,xad rfl]
   rw[hi.node hp,tb,dj (λe=>hne e.symm),<-ind (aB x v c) b,hq];cases b<;>rfl
  rw[e,e];exact hx
 induction hu with
 |base hr=>rw[hr];exact id
 |lo _ he ih=>exact λhv=>ih (step _ _ _ false he rfl hv)
 |hi _ he ih=>exact λhv=>ih (step _ _ _ true he rfl hv)
theorem Mm(h:WF n ah N)(hl:jX n ah)(hi:Interp N S){r:Nat}(hV:Oq N V)(hr:r<2\/r∈V)(hVR:∀u∈V,Rc N (λq=>q=r) u)(v:Nat):cE (S r) v↔∃u∈V,∃d,N u=some d/\d.v=v:=by
 constructor
 ·rintro⟨x,hx⟩;refine xaK λhno=>hx (Ml h hl hi hV (λu hu d hd e=>hno ⟨u,hu,d,hd,e⟩) _ r (xag _) hr x)
 rintro⟨u,hu,d,hd,rfl⟩;exact(hVR u hu).cE h hl hi (gp h hl hi hd)
end aA
set_option maxRecDepth 100000
namespace Go.Proofs
open Go Go.Sx Tryz
section
open aA
section
variable {kp mb b7 b1 b3 Bt T4:Nat} {cap:Array zV} {K:Kd} {S:Nat->aA.Fn} {ord ah tr:zL} {C Z:Hp} {P:zL->Hp->Prop}
def yG(V:zL):List (Nat×Unit):=V.map λr=>(r,())
theorem u7{V:zL}{r:Nat}:aJ (yG V) r=if r∈V then some ()else none:=by
 unfold yG;induction V with
 |nil=>rfl
 |cons a V ih=>
  unfold aJ at*;rw[xaB,xby];by_cases e:a=r
  ·subst e;simp
  simp only[e,xdo];rw[ih];have:(r∈a::V)↔r∈V:=by simp[xba e]
  by_cases hv:r∈V
  ·rw[xad hv,xad (this.2 hv)]
  rw[xac hv,xac λh=>hv (this.1 h)]
theorem Qk{V:zL}{r:Nat}(h:r∉V):ef (yG V) r ()=yG (V++[r]):=by
 unfold ef yG;rw[xac (by rw[xb2];simpa using h),xaJ];rfl
abbrev Er(es:Array MapEntry)(ck:Nat)(V:zL):Prop:=aE kr (λv (_:Unit)=>v=i64 1) es ck (yG V)
structure Walk(K:Kd)(V V':zL)(r:Nat):Prop where
 nd:V'.Nodup
 sub:∀u∈V,u∈V'
 has:r<2\/r∈V'
 shut:∀u∈V',u∉V->∃d,K.N u=some d/\(d.lo<2\/d.lo∈V')/\(d.hi<2\/d.hi∈V')
 rc:∀u∈V',u∉V->Rc K.N (λq=>q=r) u
def WX(T4:Nat)(cap:Array zV)(K:Kd)(P:zL->Hp->Prop):Prop:=aU zQ T4=true/\∀(V:zL) (r:Nat) (d:Nd) (G:Hp),K.N r=some d->P V G->Fc zQ T4 (#[.agg (bu d).toArray]++cap) G (λv G'=>v=.tuple #[]/\P (V++[r]) G')
theorem yI{N:eH}{r q u:Nat}(h1:Rc N (λx=>x=r) q)(h2:Rc N (λx=>x=q) u):Rc N (λx=>x=r) u:=by
 induction h2 with
 |base e=>rw[e];exact h1
 |lo _ hd ih=>exact .lo ih hd
 |hi _ hd ih=>exact .hi ih hd
theorem Uf(h:cf kp K S ord ah tr C)(hd:WX T4 cap K P)(h7:(b7,Obj.cells #[.map (some mb)] 351 zZ)∈Z)(h1:(b1,Obj.cells #[ptr kp] 85 zZ)∈Z)(h3:(b3,Obj.cells #[.func (.func T4) #[] cap] 267 zZ)∈Z)
 (h10:(Bt,Obj.cells #[.func (.func 291) #[] #[ptr b7,ptr b1,ptr b3,ptr Bt]] 261 zZ)∈Z):
  ∀(k r:Nat) (es:Array MapEntry) (ck:Nat) (V:zL) (G:Hp),K.n-dep K.n (lv ah) K.N r<=k->live K.N r->V.Nodup->Er es ck V->P V G->
  Fc zQ 291 #[u32 r,ptr b7,ptr b1,ptr b3,ptr Bt] ((mb,.map es ck)::(G++(Z++C))) (λv H=>v=.tuple #[]/\∃es' bB V' G',H=(mb,.map es' bB)::(G'++(Z++C))/\Er es' bB V'/\P V' G'/\Walk K V V' r):=by
 have stop:∀{r:Nat} {es:Array MapEntry} {ck:Nat} {V:zL} {G:Hp},V.Nodup->Er es ck V->P V G->(r<2\/r∈V)->
   Fc zQ 291 #[u32 r,ptr b7,ptr b1,ptr b3,ptr Bt] ((mb,.map es ck)::(G++(Z++C))) (λv H=>v=.tuple #[]/\∃es' bB V' G',H=(mb,.map es' bB)::(G'++(Z++C))/\Er es' bB V'/\P V' G'/\Walk K V V' r):=by
  intro r es ck V G fO hE hP hr;refine aF λg=>xu (aa.eq (o8 r _) (cm.or (a:=decide (r<2)) (decide (r∈V)) (λ_=>?_) rfl λ_=>?_))
  ·refine Ld.mk (v:=.map (some mb)) (.tail _ (xab _ (xae _ h7))) rfl ?_;by_cases hm:r∈V
   ·refine hE.hit (k:=r) cZ (b:=mb) (by exact .head _) (by rw[u7,xad hm]) λv e=>?_;subst e;exact ae.gtr ⟨rfl,by rw[xal hm];rfl⟩
   refine hE.bM (k:=r) cZ (b:=mb) (by exact .head _) (by rw[u7,xac hm]) ?_;exact ae.gtr ⟨rfl,by rw[xai hm];rfl⟩
  rw[<-xa8,xal hr];refine Br.yes (aM.mk (.refl _) ⟨rfl,es,ck,V,G,rfl,hE,hP,⟨fO,λ_ h=>h,hr,λu h h'=>absurd h h',λu h h'=>absurd h h'⟩⟩)
 intro k;induction k with
 |zero=>
  intro r es ck V G hk hr fO hE hP;refine stop fO hE hP (.inl ?_);cases hN:K.N r with
  |some d=>
   rw[aq hN]at hk;have:=h.ok.lv.lt _ (h.ok.mid.var hN);omega
  |none=>
   rcases hr with hr|⟨d,e⟩
   ·exact hr
   rw[hN]at e;cases e
 |succ k ih=>
  intro r es ck V G hk hr fO hE hP;by_cases hs:r<2\/r∈V
  ·exact stop fO hE hP hs
  have qs:¬r<2:=λh=>hs (.inl h);have YW:r∉V:=λh=>hs (.inr h);obtain⟨d,hN⟩:∃d,K.N r=some d:=by
   rcases hr with hr|hr
   ·omega
   exact hr
  have hlo:=h.ok.wf.lo hN;have hhi:=h.ok.wf.hi hN;rw[aq hN]at hk;have hvl:=h.ok.lv.lt _ (h.ok.mid.var hN);refine aF λg=>xu (aa.eq (o8 r _) (cm.or (a:=decide (r<2)) false (λ_=>?_) rfl λ_=>?_))
  ·refine Ld.mk (v:=.map (some mb)) (.tail _ (xab _ (xae _ h7))) rfl ?_;refine hE.bM (k:=r) cZ (b:=mb) (by exact .head _) (by rw[u7,xac YW]) ?_;exact ae.gtr ⟨rfl,rfl⟩
  rw[xai qs];refine Br.no (Ld.mk (v:=.map (some mb)) (.tail _ (xab _ (xae _ h7))) rfl ?_);refine hE.br (k:=r) (b:=mb) (x:=()) cZ gP rfl λkf jJ Gc=>⟨_,.head _,?_⟩;rw[Qk YW]at Gc;refine Ld.mk (v:=ptr kp) (.tail _ (xab _ (xae _ h1))) rfl ?_;refine aa.eq (args:=#[ptr kp,u32 r]) (wI h hN) λij _=>?_;refine St.p (fG d) ?_;refine Ld.mk (v:=.func (.func T4) #[] cap) (.tail _ (.tail _ (xab _ (xae _ h3)))) rfl ?_;refine ax.q ?_;refine aK.of rfl hd.1 (aa.fn (.cons (.cons .left)) (by simpa using hd.2 V r d G hN hP) ?_);rintro v G1 ⟨rfl,hP1⟩;refine Ld.mk (v:=.func (.func 291) #[] #[ptr b7,ptr b1,ptr b3,ptr Bt]) (.tail _ (.tail _ (xab _ (xae _ h10)))) rfl ?_;refine Ld.f (v:=u32 d.lo) (aK.of rfl zK ?_);have afN:(V++[r]).Nodup:=xa5.2 ⟨fO,by simp,λa ha b hb e=>YW (by rw[xaI.1 hb]at e;rwa [<-e])⟩;refine aa.fq (args:=#[u32 d.lo,ptr b7,ptr b1,ptr b3,ptr Bt]) (ih d.lo kf jJ (V++[r]) G1 zO hlo.1 afN Gc hP1) ?_;rintro v H ⟨rfl,gV,iE,V2,G2,rfl,sQ,hP2,w2⟩;refine Ld.mk (v:=.func (.func 291) #[] #[ptr b7,ptr b1,ptr b3,ptr Bt]) (.tail _ (.tail _ (xab _ (xae _ h10)))) rfl ?_;refine Ld.f (v:=u32 d.hi) (aK.of rfl zK (aa.fq (args:=#[u32 d.hi,ptr b7,ptr b1,ptr b3,ptr Bt]) (ih d.hi gV iE V2 G2 zO hhi.1 w2.nd sQ hP2) ?_));rintro v H ⟨rfl,o5,qN,V3,G3,rfl,Pr,hP3,w3⟩;have r2:r∈V2:=w2.sub r zI;refine aM.mk .tail ⟨rfl,o5,qN,V3,G3,rfl,Pr,hP3,⟨w3.nd,λu hu=>w3.sub u (w2.sub u (xae _ hu)),.inr (w3.sub r r2),λu hu hn=>?_,λu hu hn=>?_⟩⟩
  ·by_cases VB:u∈V2
   ·by_cases F0:u∈V++[r]
    ·rcases xao.1 F0 with h'|h'
     ·exact absurd h' hn
     rw[xaI.1 h'];exact⟨d,hN,w2.has.imp id (w3.sub _),w3.has⟩
    obtain⟨e,he,a,b⟩:=w2.shut u VB F0;exact⟨e,he,a.imp id (w3.sub _),b.imp id (w3.sub _)⟩
   exact w3.shut u hu VB
  by_cases VB:u∈V2
  ·by_cases F0:u∈V++[r]
   ·rcases xao.1 F0 with h'|h'
    ·exact absurd h' hn
    exact .base (xaI.1 h')
   exact yI (Rc.lo (.base rfl) hN) (w2.rc u VB F0)
  exact yI (Rc.hi (.base rfl) hN) (w3.rc u hu VB)
theorem Ea(h:cf kp K S ord ah tr C)(hd:WX T4 cap K P){r b:Nat}{X G:Hp}(hr:live K.N r)(hP:P [] G)(hm:(b,Obj.cells (av .u32 [(r:Int)]) 110 zZ)∈X):
  Fc zQ 206 #[ptr kp,.slice (some ⟨b,0,none⟩) 1 1,.func (.func T4) #[] cap] (G++(X++C)) (λv H=>v=.tuple #[]/\∃V G',H=G'++(X++C)/\P V G'/\V.Nodup/\Oq K.N V/\(r<2\/r∈V)/\∀u∈V,Rc K.N (λq=>q=r) u):=by
 refine aF λg=>Ji λb1 _ b3 _ mb _ b7 _=>?_;refine St.one (c':=#[.map (some mb)]) (by exact .head _) rfl zI rfl ?_;intro Bt _;refine St.one (c':=#[.func (.func 291) #[] #[ptr b7,ptr b1,ptr b3,ptr Bt]]) (by exact .head _) rfl zI rfl ?_;refine aR.mk ?_;obtain⟨Z,hZ⟩:∃Z:Hp,Z=(Bt,Obj.cells #[.func (.func 291) #[] #[ptr b7,ptr b1,ptr b3,ptr Bt]] 261 zZ)::(b7,.cells #[.map (some mb)] 351 zZ)::(b3,.cells #[.func (.func T4) #[] cap] 267 zZ)::(b1,.cells #[ptr kp] 85 zZ)::X:=⟨_,rfl⟩;have Pk:∀(e:Obj),List.Perm ((Bt,Obj.cells #[.func (.func 291) #[] #[ptr b7,ptr b1,ptr b3,ptr Bt]] 261 zZ)::(b7,.cells #[.map (some mb)] 351 zZ)::(mb,e)::(b3,.cells #[.func (.func T4) #[] cap] 267 zZ)::(b1,.cells #[ptr kp] 85 zZ)::(G++(X++C))) ((mb,e)::(G++(Z++C))):=λe=>by
  rw[hZ];refine((List.Perm.cons _ (List.Perm.swap _ _ _)).trans (List.Perm.swap _ _ _)).trans (.cons _ ?_);have:∀(a b c d:Nat×Obj),(a::b::c::d::(G++(X++C))).Perm (G++(a::b::c::d::(X++C))):=λa b c d=>by
   have:=(xbe (l₁:=[a,b,c,d]) (l₂:=G)).append_right (X++C);simpa[xaj]using this
  exact this _ _ _ _
 refine⟨λvs H=>∃(i:Nat) (es:Array MapEntry) (ck:Nat) (V:zL) (G':Hp),vs=[i64 (i:Int)]/\H=(mb,.map es ck)::(G'++(Z++C))/\Er es ck V/\P V G'/\((i=0/\V=[])\/(i=1/\Walk K [] V r)),λvs _=>1-bL vs 0,JE.of (.perm (Pk _)) ⟨0,#[],0,[],G,rfl,rfl,aE.empty,hP,.inl ⟨rfl,rfl⟩⟩,?_⟩;rintro w H ⟨i,es,ck,V,G',⟨⟩,rfl,hE,hPV,hi⟩ gs;have mZ:∀{x:Nat×Obj},x∈Z->x∈(mb,Obj.map es ck)::(G'++(Z++C)):=λhx=>.tail _ (xab _ (xae _ hx));rcases hi with⟨rfl,rfl⟩|⟨rfl,hw⟩
 ·refine ae.fk (b:=1) (Br.T (au.nat zD ?_));refine Ld.mk (v:=u32 r) (mZ (by rw[hZ];exact .tail _ (.tail _ (.tail _ (.tail _ hm))))) rfl ?_;refine Ld.mk (v:=.func (.func 291) #[] #[ptr b7,ptr b1,ptr b3,ptr Bt]) (mZ (by rw[hZ];exact .head _)) rfl ?_;refine aK.of rfl zK (aa.fq (args:=#[u32 r,ptr b7,ptr b1,ptr b3,ptr Bt]) (Uf (Z:=Z) h hd (by rw[hZ];exact .tail _ (.head _)) (by rw[hZ];exact .tail _ (.tail _ (.tail _ (.head _)))) (by rw[hZ];exact .tail _ (.tail _ (.head _))) (by rw[hZ];exact .head _) K.n r es ck [] G' (xdt _ _) hr List.nodup_nil hE hPV) ?_);rintro v H ⟨rfl,gV,iE,V2,G2,rfl,sQ,hP2,w2⟩;exact ae.inc (a:=0) (aC.mk ⟨1,gV,iE,V2,G2,rfl,rfl,sQ,hP2,.inr ⟨rfl,w2⟩⟩ (by simp only[bL];decide))
 refine ae.fk (b:=1) (Br.F (aM.mk ?_ ⟨rfl,V,G',rfl,hPV,hw.nd,λu hu=>hw.shut u hu zI,hw.has,λu hu=>hw.rc u hu zI⟩));rw[hZ];exact .skip (.cU (.skip (.skip (.skip .tail))) _)
theorem Bi(h:cf kp K S ord ah tr C)(b6:Nat):WX 209 #[ptr b6] K (λV G=>∃m:Nat,G=[(b6,.cells #[u64 m] 33 zZ)]/\m<18446744073709551616/\∀v,m.testBit v=true↔∃u∈V,∃d,K.N u=some d/\d.v=v):=by
 refine⟨by kernel_rfl,?_⟩;rintro V r d G hN ⟨m,rfl,hm,hv⟩;have hn:=h.bc.lz;have kZ:=h.ok.mid.var hN;refine aF λg=>Jg λb1 _=>?_;refine DR.of (.refl _) (Ld.mk (v:=u64 m) (.tail _ (.head _)) rfl ?_);refine Ld.f (v:=i64 (d.v:Int)) (ae.nr (a:=1) ?_);have e:(1<<<d.v)%18446744073709551616=2^d.v:=by
  rw[xcn,xdj];exact xbm (xaO (xbt zD (show d.v<64 by omega)) zD)
 rw[e];have h2:2^d.v<18446744073709551616:=xaO (xbt zD (show d.v<64 by omega)) zD;refine ae.K7 (by simpa[bG]using hm) (by simpa[bG]using h2) λF=>?_;refine St.one (c':=#[u64 (m|||2^d.v)]) (by exact .tail (.head _)) rfl zI rfl ?_;refine aM.mk .tail ⟨rfl,_,rfl,xbF (n:=64) hm h2,λv=>?_⟩;rw[xb1,xa1,hv,xbX,xar];constructor
 ·rintro(⟨u,hu,e,he,Gb⟩|rfl)
  ·exact⟨u,xae _ hu,e,he,Gb⟩
  exact⟨r,by simp,d,hN,rfl⟩
 rintro⟨u,hu,e,he,Gb⟩;rcases xao.1 hu with hu|hu
 ·exact .inl ⟨u,hu,e,he,Gb⟩
 rw[xaI.1 hu,hN]at he;cases he;exact .inr Gb
def GQ(f:aA.Fn)(m:Nat):Prop:=m<18446744073709551616/\∀v,m.testBit v=true↔cE f v
theorem GQ.uniq{f:aA.Fn}{m m':Nat}(h:GQ f m)(h':GQ f m'):m=m':=xaW λv=>by
 rw[xbN,h.2,h'.2]
theorem DZ(h:cf kp K S ord ah tr C){r:Nat}(hr:live K.N r):
  Rd zQ 149 #[ptr kp,u32 r] C (λv=>∃m,GQ (S r) m/\v=.tuple #[u64 m,i64 0]):=by
 refine aF λg=>JQ (az.int (e:=110) zK zK zK λbx=>?_);refine aa.eh .here (wL (X:=[(bx,_)]) h (by exact .head _) hr) (ae.cD (Br.F λb6 _=>(St.one (c':=#[u64 0]) (by exact .head _) rfl zI rfl ?_)));refine az.int (e:=110) zK zK zK λby'=>?_;refine aa.pre (H':=[(b6,Obj.cells #[u64 0] 33 zZ)]++([(by',Obj.cells (av .u32 [(r:Int)]) 110 zZ),(bx,Obj.cells (av .u32 [(r:Int)]) 110 zZ)]++C)) (.perm (.swap _ _ _)) ?_;refine aa.fn .here (Ea (P:=λV G=>∃m:Nat,G=[(b6,.cells #[u64 m] 33 zZ)]/\m<18446744073709551616/\∀v,m.testBit v=true↔∃u∈V,∃d,K.N u=some d/\d.v=v) h (Bi h b6) hr ⟨0,rfl,by decide,λv=>by simp⟩ (by exact .head _)) ?_;rintro v H ⟨rfl,V,G,rfl,⟨m,rfl,hm,hv⟩,fO,hsh,YW,hrc⟩;refine Ld.q ?_;refine aZ.mk (.skip (.skip .tail)) ⟨m,⟨hm,λv=>?_⟩,rfl⟩;rw[hv,Mm h.ok.wf h.ok.lv h.ok.mid.int hsh YW hrc]
theorem N5(b4:Nat):WX 207 #[ptr b4] K (λV G=>∃x:Int,G=[(b4,.cells #[i64 x] 3 zZ)]/\(V.length<4611686018427387904->x=V.length)):=by
 refine⟨by kernel_rfl,?_⟩;rintro V r d G hN ⟨x,rfl,hx⟩;refine aF λg=>Jh λb1 _=>?_;refine Ld.mk (v:=i64 x) (.tail _ (.head _)) rfl ?_;refine ae.add (St.one (c':=#[i64 (IntKind.i64.wrap (x+1))]) (by exact .tail (.head _)) rfl zI rfl ?_);refine aM.mk .tail ⟨rfl,_,rfl,λhl=>?_⟩;rw[xaf,xbP]at hl⊢;rw[hx zO,wrap_i64 zO];omega
theorem SP(h:cf kp K S ord ah tr C){r b:Nat}{X:Hp}(hr:live K.N r)(hm:(b,Obj.cells (av .u32 [(r:Int)]) 110 zZ)∈X):
  Rd zQ 147 #[ptr kp,.slice (some ⟨b,0,none⟩) 1 1] (X++C) (· =.tuple #[i64 ((sz K.n ord (λg=>g=S r):Nat):Int),i64 0]):=by
 refine aF λg=>JR (aa.eq (wL (X:=X) h hm hr) (ae.cD (Br.F ?_)));intro b4 _;refine St.one (c':=#[i64 0]) (by exact .head _) rfl zI rfl ?_;refine aa.fn (C:=[(b4,Obj.cells #[i64 0] 3 zZ)]++(X++C)) .here (Ea (P:=λV G=>∃x:Int,G=[(b4,.cells #[i64 x] 3 zZ)]/\(V.length<4611686018427387904->x=V.length)) h (N5 b4) hr ⟨0,rfl,λ_=>rfl⟩ hm) ?_;rintro v H ⟨rfl,V,G,rfl,⟨x,rfl,hx⟩,fO,hsh,YW,hrc⟩;refine Ld.q ?_;refine aZ.mk .tail ?_;have hc:=Ug h.ok.wf h.ok.lv h.od h.ok.mid.int (R:=λq=>q=r) (λq hq=>by rw[hq];exact hr) hsh (λq hq=>by rw[hq];exact YW) hrc fO;have hlen:V.length<=1048576:=by
  have:∀u∈V,u∈List.range 1048576:=λu hu=>by
   obtain⟨d,hd,_⟩:=hsh u hu;exact xaM.2 (h.bK (.inr ⟨d,hd⟩))
  have:=cv fO this;rwa [xaz]at this
 rw[hx zO,<-B6 hc];have e:Fs S (λq=>q=r)=λg=>g=S r:=funext λg=>propext ⟨λ⟨q,hq,e⟩=>by rw[e,hq],λe=>⟨r,rfl,e⟩⟩;rw[e];rfl
end
end
section
open aA
section
variable {C:Hp}
def Tl(p:Bool)(v:zV):Prop:=∃(n:Nat) (b:Bool),n<18446744073709551616/\v=.agg [u64 n,.bool b].toArray/\(b||decide (n≠0))=p
theorem pT(n:Nat)(b:Bool):∀u∈[u64 n,Value.bool b],u.oneCell'=true:=λu hu=>by
 rcases xam.1 hu with rfl|hu
 ·rfl
 rw[xaI.1 hu];rfl
theorem Tl.no:Tl false (.agg #[u64 0,.bool false]):=⟨0,false,by decide,rfl,rfl⟩
theorem Tl.yes:Tl true (.agg #[u64 1,.bool false]):=⟨1,false,by decide,rfl,rfl⟩
theorem yw{p:Bool}{v:zV}(h:Tl p v):Rd zQ 295 #[v,u64 0] C (· =.bool p):=by
 obtain⟨n,b,hn,rfl,hp⟩:=h;refine aF λg=>Iq λb1 _=>?_;refine Ld.f (v:=.bool b) (cm.or (a:=b) (decide (n≠0)) (λ_=>?_) rfl λ_=>?_)
 ·exact Ld.f (v:=u64 n) (ae.nh (b:=0) ⟨rfl,by rw[xcx.2 (show 0<n↔n≠0 by omega)]⟩)
 rw[hp];exact aZ.mk .tail rfl
theorem B3{p q:Bool}{v w:zV}(h:Tl p v)(h':Tl q w):Rd zQ 365 #[v,w] C (Tl (p||q)):=by
 obtain⟨n,b,hn,rfl,hp⟩:=h;obtain⟨m,d,hm,rfl,hq⟩:=h';refine aF λg=>Ht λb1 _ b3 _ b5 _=>?_;refine Ld.f (v:=u64 n) (Ld.f (v:=u64 m) (ae.adE (Ld.f (v:=.bool b) (cm.or (a:=b) d (λ_=>?_) rfl λ_=>?_))))
 ·exact Ld.f (v:=.bool d) (⟨rfl,rfl⟩)
 refine cm.or (a:=b||d) (decide ((n+m)%18446744073709551616<n)) (λ_=>?_) rfl λ_=>?_
 ·refine Ld.f (v:=u64 n) (ae.fk ⟨rfl,rfl⟩)
 refine Build.mk (cs:=[u64 ((n+m)%18446744073709551616),.bool (b||d||decide ((n+m)%18446744073709551616<n))]) zK ?_;refine St.p (r:=[u64 ((n+m)%18446744073709551616),.bool (b||d||decide ((n+m)%18446744073709551616<n))]) (pT _ _) ?_;refine ax.q ?_;refine aZ.mk (.skip (.skip .tail)) ⟨_,_,xbv _ zD,rfl,?_⟩;rw[<-hp,<-hq];cases b<;>cases d<;>simp only[Bool.true_or,xdI,xdv];rw[<-xa8,<-xa8];exact xcx.2 zO
theorem Mv{p:Bool}{v:zV}(h:Tl p v)(k:Nat):Rd zQ 363 #[v,i64 (k:Int)] C (Tl p):=by
 obtain⟨n,b,hn,rfl,hp⟩:=h;refine aF λg=>Hu λb1 _ b3 _=>?_;refine ae.dQ (b:=0) (cm.or (a:=decide (k=0)) (decide (n=0)) (λ_=>?_) rfl λ_=>?_)
 ·exact Ld.f (v:=u64 n) (ae.dQ (b:=0) ⟨rfl,rfl⟩)
 refine Br.mk (λhb=>?_) (λhb=>?_)
 ·refine ax.whole (r:=[u64 n,.bool b]) (T:=356) (fz:=(0,0)) (by exact .tail _ (.head _)) rfl ?_;refine St.p (r:=[u64 n,.bool b]) (pT _ _) ?_;refine ax.q ?_;exact aZ.mk (.skip .tail) ⟨n,b,hn,rfl,hp⟩
 rw[<-xa8]at hb;have hb:=xdf hb;refine Ld.f (v:=u64 n) (ae.nr λJ h17=>?_);have fin:∀x:Bool,(x||decide ((n<<<k)%18446744073709551616≠0))=true->J [] ((b3,.cells [u64 ((n<<<k)%18446744073709551616),.bool x].toArray 356 zZ)::(b1,.cells (Value.cells (.agg [u64 n,.bool b].toArray)) 356 zZ)::C):=λx hx=>h17 _ λ_=>by
  refine ax.q ?_;refine aZ.mk (.skip .tail) ⟨_,x,xbv _ zD,rfl,?_⟩;rw[hx,<-hp];have:decide (n≠0)=true:=xal zO;rw[this,xdI]
 refine DR.of (.refl _) (ae.dQ (b:=0) (Br.mk (λhz=>?_) (λhz=>?_)))
 ·refine Build.mk (cs:=[u64 ((n<<<k)%18446744073709551616),.bool true]) zK λF=>?_;exact St.p (r:=[u64 ((n<<<k)%18446744073709551616),.bool true]) (pT _ _) (JE.mk (fin true rfl))
 refine ae.iM (xbv _ zD) (Ld.f (v:=u64 n) (ae.yL (aD.mk (Build.mk (cs:=[u64 ((n<<<k)%18446744073709551616),.bool (decide (((n<<<k)%18446744073709551616)>>>k≠n))]) zK λF=>?_))));refine St.p (r:=[u64 ((n<<<k)%18446744073709551616),.bool (decide (((n<<<k)%18446744073709551616)>>>k≠n))]) (pT _ _) (JE.mk (fin _ ?_));rw[xal (p:=(n<<<k)%18446744073709551616≠0) (xdf hz),xdI]
end
section
variable {kp d nm n f F V:Nat} {j7:zV} {K:Kd} {S:Nat->aA.Fn} {ord ah tr:zL} {C Z:Hp}
abbrev ER(n f nm:Nat)(j7:zV)(F V:Nat):Array zV:=#[i64 (n:Int),u32 f,.map (some nm),j7,u64 F,u64 V]
theorem KD{v b:Nat}(hl:j7.oneCell'=true)(hv:v<64)(hb:b<=1)(hF:F<18446744073709551616)(hV:V<18446744073709551616):
  Fc zQ 296 #[ptr d,i64 (v:Int),u64 b] ((d,.cells (ER n f nm j7 F V) 361 zZ)::C) (λw H=>w=.tuple #[]/\∃F' V',H=(d,.cells (ER n f nm j7 F' V') 361 zZ)::C/\F'<18446744073709551616/\V'<18446744073709551616/\
   (∀j,F'.testBit j=(F.testBit j||decide (j=v)))/\∀j,V'.testBit j=if j=v then decide (b=1)else V.testBit j):=by
 have e1:(1<<<v)%18446744073709551616=2^v:=by
  rw[xcn,xdj];exact xbm (xaO (xbt zD hv) zD)
 have h2:2^v<18446744073709551616:=xaO (xbt zD hv) zD;have eb:(b<<<v)%18446744073709551616=b*2^v:=by
  rw[xcn];refine xbm (xaA (xaV _ hb) zO)
 have sb:b*2^v<18446744073709551616:=xaA (xaV _ hb) zO;have hVa:m5 V (2^v)<18446744073709551616:=xaA (m4 _ _) hV;refine aF λg=>Ip (DR.of (.refl _) (Ld.n (v:=u64 F) ?_));refine ae.nr (a:=1) ?_;rw[e1];refine ae.K7 (by simpa[bG]using hF) (by simpa[bG]using h2) (.ptr (.mk ?_));intro G;refine St.one (c':=ER n f nm j7 (F|||2^v) V) (.head _) rfl zI rfl ?_;refine DR.of (.refl _) (Ld.n (v:=u64 V) (ae.nr (a:=1) ?_));rw[e1];refine ae.Ei (by simpa[bG]using hV) (by simpa[bG]using h2) (ae.nr ?_);rw[eb];refine ae.K7 (by simpa[bG]using hVa) (by simpa[bG]using sb) (.ptr (.mk ?_));intro G;refine St.one (c':=ER n f nm j7 (F|||2^v) (m5 V (2^v)|||b*2^v)) (.head _) rfl zI rfl ?_;refine aM.mk (.refl _) ⟨rfl,_,_,rfl,xbF (n:=64) hF h2,xbF (n:=64) hVa sb,λj=>?_,λj=>?_⟩
 ·rw[xb1,xbX];congr 1;exact xcx.2 eq_comm
 rw[xb1,dG,xbX];have:b=0\/b=1:=by omega
 by_cases e:j=v
 ·rw[xad e,e,xal rfl];rcases this with rfl|rfl
  ·simp
  simp[xbX]
 rw[xac e,xai (xba e)];rcases this with rfl|rfl
 ·simp
 rw[xdj,xbX,xai (xba e)];simp
structure Fal(n:Nat)(ns:zL):Prop where
 len:ns.length=n+1
 le:∀a,a<=n->ns.getD a 0<=n+1
 step:∀a,a<n->ns.getD (a+1) 0<=ns.getD a 0
theorem Fal.mono{ns:zL}(h:Fal n ns){a:Nat}:∀k,a+k<=n->ns.getD (a+k) 0<=ns.getD a 0
 |0,_=>xag _
 |k+1,hk=>xbG (h.step (a+k) zO) (Fal.mono h k zO)
theorem PF{ls:zL}(hd:(d,Obj.cells (ER n f nm j7 F V) 361 zZ)∈Z)(hL:dz .i64 Z j7 (iw ls))(hlen:ls.length=n)(hn:n<=64)(hlt:∀l∈ls,l<n)(hF:F<18446744073709551616):
  Fc zQ 360 #[ptr d] Z (λv H=>∃b ns,Fal n ns/\v=.slice (some ⟨b,0,none⟩) (n+1) (n+1)/\H=(b,.cells (av .i64 (iw ns)) 3 zZ)::Z):=by
 refine aF λg=>Hx (Ld.v hd ?_);refine ae.inc (cW.ints zO zO λb=>?_);refine Ld.v (.tail _ hd) ?_;refine hL.bP ?_;rw[ak,hlen];have z0:List.replicate (n+1) (0:Int)=iw (List.replicate (n+1) 0):=by simp[iw]
 rw[z0];refine⟨λvs H=>∃(j:Nat) (ns:zL),vs=[i64 (j:Int)]/\j<=n/\H=(b,.cells (av .i64 (iw ns)) 3 zZ)::Z/\ns.length=n+1/\∀a,ns.getD a 0<=1,λvs _=>n-bL vs 0,JE.mk ⟨0,_,rfl,by omega,rfl,by simp,λa=>?_⟩,?_⟩
 ·by_cases ha:a<n+1
  ·simp[List.getD,ha]
  simp[List.getD,ha]
 rintro w H ⟨j,ns,⟨⟩,hj,rfl,Ny,h1⟩ gs;refine ae.fk (Br.dec (λgR=>?_) (λhge=>?_))
 ·intro J hJ;have back:∀ns':zL,ns'.length=n+1->(∀a,ns'.getD a 0<=1)->J [] ((b,.cells (av .i64 (iw ns')) 3 zZ)::Z):=λns' hl' sR=>hJ _ λ_=>by
   exact ae.inc (aC.mk ⟨j+1,ns',rfl,by omega,rfl,hl',sR⟩ (by simp only[bL];omega))
  have hlj:j<ls.length:=by omega
  refine hL.ld (cQ (xaa hlj)) (λ_ h=>.tail _ h) ?_;refine Ld.v (.tail _ hd) ?_;refine ae.iM (by simpa[bG]using hF) (ae.jz (by simp[bG];exact xaA (xbo _ _) hF) zD (ae.dQ (b:=0) (Br.mk (λ_=>?_) (λ_=>JE.mk (back ns Ny h1)))));have hlv:=hlt ls[j] (xaF hlj);refine au.nat zO ?_;refine St.ints (.head _) (by rw[ak];omega) ?_;rw[show((1:Int))=((1:Nat):Int)from rfl,fm];refine JE.mk (back _ (by simpa using Ny) λa=>?_);rw[List.getD,xbr];split
  ·split
   ·exact xag _
   exact xaN _
  exact h1 a
 refine Ld.v (.tail _ hd) ?_;refine ae.lg (c:=(n:Int) -1) rfl zO ?_;refine⟨λvs H=>∃(j:Nat) (ns:zL),vs=[i64 ((j:Int) -1)]/\j<=n/\H=(b,.cells (av .i64 (iw ns)) 3 zZ)::Z/\ns.length=n+1/\(∀a,a<j->ns.getD a 0<=1)/\(∀a,j<=a->a<=n->ns.getD a 0<=n+1-a)/\∀a,j<=a->a<n->ns.getD (a+1) 0<=ns.getD a 0,
  λvs _=>match vs with| [.int _ q]=>(q+1).toNat|_=>0,JE.mk ⟨n,ns,rfl,xag _,rfl,Ny,λa _=>h1 a,λa h h'=>xbG (h1 a) zO,λa h h'=>by omega⟩,?_⟩
 rintro w H ⟨j,ns,⟨⟩,hj,rfl,Ny,g1,g2,g3⟩ gs;refine ae.geq (Br.dec (λhge=>?_) (λgR=>?_))
 ·obtain⟨i,rfl⟩:∃i,j=i+1:=⟨j-1,by omega⟩;have ei:(((i+1:Nat):Int) -1)=(i:Int):=by omega
  rw[ei];refine DR.of (.refl _) ?_;have hB:dz .i64 ((b,Obj.cells (av .i64 (iw ns)) 3 zZ)::Z) (.slice (some ⟨b,0,none⟩) (iw ns).length (n+1)) (iw ns):=dz.block (.head _) (by rw[ak];omega);rw[ak,Ny]at hB;have a1:=g1 i zO;have a2:=g2 (i+1) zO zO;refine hB.ld (bH zO) (λ_ h=>h) (ae.inc (hB.ld (bH zO) (λ_ h=>h) (ae.eZ (au.nat zO ?_))));intro G;refine St.ints (.head _) (by rw[ak];omega) ?_;rw[fm];refine ae.lg (c:=(i:Int) -1) rfl zO ?_;have get:∀a,(ns.set i (ns.getD i 0+ns.getD (i+1) 0)).getD a 0=if a=i then ns.getD i 0+ns.getD (i+1) 0 else ns.getD a 0:=λa=>by
   rw[List.getD,xbr];by_cases e:i=a
   ·rw[xad e,xad zO,xad e.symm];rfl
   rw[xac e,xac (xba e)];rfl
  refine aC.mk ⟨i,_,rfl,by omega,rfl,by simpa using Ny,λa ha=>?_,λa ha hn'=>?_,λa ha hn'=>?_⟩ ?_
  ·rw[get,xac zO];exact g1 a zO
  ·rw[get];split
   ·subst a;omega
   exact g2 a zO hn'
  ·rw[get,get];rw[xac (show a+1≠i by omega)];split
   ·subst a;omega
   exact g3 a zO hn'
  show((i:Int) -1+1).toNat<((i:Int)+1).toNat;omega
 obtain rfl:j=0:=by omega
 exact aM.mk (.refl _) ⟨b,ns,⟨Ny,λa ha=>xbG (g2 a (xaN _) ha) zO,λa ha=>g3 a (xaN _) ha⟩,rfl,rfl⟩
end
section
variable {d0 b1 b8 k6 wR um EM bf kb nm n f F V BS:Nat} {j7:zV} {K:Kd} {S:Nat->aA.Fn} {ah ls ns:zL} {BR:Array MapEntry} {m:List (Nat×Nd)} {Z:Hp}
def ag(n F V x:Nat):Prop:=∀j,j<n->F.testBit j=true->x.testBit j=V.testBit j
noncomputable def qT(n F V:Nat)(g:aA.Fn):Bool:= @decide (∃x,ag n F V x/\g x=true) (Classical.propDecidable _)
theorem qe{g:aA.Fn}:qT n F V g=true↔∃x,ag n F V x/\g x=true:= @decide_eq_true_iff _ (Classical.propDecidable _)
theorem UO:qT n F V (λ_=>false)=false:=by
 cases h:qT n F V (λ_=>false)with
 |false=>rfl
 |true=>obtain⟨x,_,e⟩:=qe.1 h;cases e
theorem Yl:qT n F V (λ_=>true)=true:=qe.2 ⟨V,λ_ _ _=>rfl,rfl⟩
theorem zY(h:Ok K S (lv ah)){r:Nat}{d:Nd}(hN:K.N r=some d)(x:Nat)(b:Bool):S d.lo (an.aB x d.v b)=S d.lo x/\S d.hi (an.aB x d.v b)=S d.hi x:=by
 have e (c:Bool):=(gk h.wf h.lv h.mid.int (r:=r) (.inr ⟨d,hN⟩) (h.mid.var hN) (by rw[aq hN];exact xag _) c);have e1:=e false;have e2:=e true;rw[(kJ hN).1]at e1;rw[(kJ hN).2]at e2;constructor
 ·rw[e1.1,e1.1,aA.oB]
 rw[e2.1,e2.1,aA.oB]
theorem UP(h:Ok K S (lv ah)){r:Nat}{d:Nd}(hN:K.N r=some d):
  qT K.n F V (S r)=((!F.testBit d.v|| !V.testBit d.v) &&qT K.n F V (S d.lo)||(!F.testBit d.v||V.testBit d.v) &&qT K.n F V (S d.hi)):=by
 have nd:=h.mid.int.node hN;have put:∀(x:Nat) (b:Bool),ag K.n F V x->(F.testBit d.v=true->V.testBit d.v=b)->ag K.n F V (an.aB x d.v b):=λx b hx hb j hj hF=>by
  rw[an.aj];split
  ·subst j;exact(hb hF).symm
  exact hx j hj hF
 have hv:=h.mid.var hN;rw[xbN,xa1,xaD,xaD,qe,qe,qe];constructor
 ·rintro⟨x,hx,hS⟩;have q:=nd x;have hxv:=hx d.v hv;cases hb:x.testBit d.v with
  |true=>
   rw[hb,xad rfl]at q;refine .inr ⟨?_,x,hx,by rw[<-q];exact hS⟩;cases hF:F.testBit d.v
   ·rfl
   rw[<-hxv hF,hb];rfl
  |false=>
   rw[hb,xac zD]at q;refine .inl ⟨?_,x,hx,by rw[<-q];exact hS⟩;cases hF:F.testBit d.v
   ·rfl
   rw[<-hxv hF,hb];rfl
 rintro(⟨hc,x,hx,hS⟩|⟨hc,x,hx,hS⟩)
 ·refine⟨an.aB x d.v false,put x false hx λhF=>?_,?_⟩
  ·rw[hF]at hc;simpa using hc
  rw[nd,an.aj,xad rfl,xac zD,(zY h hN x false).1];exact hS
 refine⟨an.aB x d.v true,put x true hx λhF=>?_,?_⟩
 ·rw[hF]at hc;simpa using hc
 rw[nd,an.aj,xad rfl,xad rfl,(zY h hN x true).2];exact hS
abbrev Ot(es:Array MapEntry)(ck:Nat)(m:List (Nat×Nd)):Prop:=aE kr (λv (d:Nd)=>v=.agg (bu d).toArray) es ck m
structure WM(K:Kd)(S:Nat->aA.Fn)(ah ls:zL)(m:List (Nat×Nd))(n f F V d0 b1 nm:Nat)(j7:zV)(BR:Array MapEntry)(BS:Nat)(Z:Hp):Prop where
 ok:Ok K S (lv ah)
 lz:K.n<=64
 hn:n=K.n
 d:(d0,Obj.cells (ER n f nm j7 F V) 361 zZ)∈Z
 hnm:(nm,Obj.map BR BS)∈Z
 dL:Ot BR BS m
 cov:∀u e,Rc K.N (λq=>q=f) u->K.N u=some e->aJ m u=some e
 L:dz .i64 Z j7 (iw ls)
 get:∀v,v<n->ls[v]? =some (lv ah v)
 F64:F<18446744073709551616
 V64:V<18446744073709551616
structure TcH(n d0 b1 b8 k6 wR um EM bf kb:Nat)(ns:zL)(Z:Hp):Prop where
 h1:(b1,Obj.cells #[ptr d0] 353 zZ)∈Z
 h8:(b8,Obj.cells #[.slice (some ⟨bf,0,none⟩) (n+1) (n+1)] 43 zZ)∈Z
 hf:(bf,Obj.cells (av .i64 (iw ns)) 3 zZ)∈Z
 h17:(k6,Obj.cells #[.map (some kb)] 419 zZ)∈Z
 h20:(wR,Obj.cells #[.func (.func 361) #[] #[ptr b1]] 260 zZ)∈Z
 h23:(um,Obj.cells #[.func (.func 364) #[] #[ptr k6,ptr b1,ptr EM]] 420 zZ)∈Z
 h25:(EM,Obj.cells #[.func (.func 362) #[] #[ptr um,ptr b8,ptr wR]] 422 zZ)∈Z
 fal:Fal n ns
theorem Mn(h:WM K S ah ls m n f F V d0 b1 nm j7 BR BS Z)(h1:(b1,Obj.cells #[ptr d0] 353 zZ)∈Z){r:Nat}(hr:live K.N r)(hR:Rc K.N (λq=>q=f) r):
  Rd zQ 361 #[u32 r,ptr b1] Z (· =i64 ((dep K.n (lv ah) K.N r:Nat):Int)):=by
 refine aF λg=>Hw (ae.xX (b:=1) (Br.dec (λh2=>?_) (λh2=>?_)))
 ·refine Ld.mk h1 rfl ?_;refine Ld.v (v:=i64 (n:Int)) h.d ?_;refine aZ.mk (.refl _) ?_;have h0:K.N r=none:=by
   cases hN:K.N r with
   |none=>rfl
   |some d=>have:=h.ok.mid.two hN;omega
  rw[aT h0,h.hn]
 obtain⟨d,hN⟩:∃d,K.N r=some d:=by
  rcases hr with hr|hr
  ·omega
  exact hr
 have kZ:=h.ok.mid.var hN;refine Ld.mk h1 rfl ?_;refine Ld.v h.d ?_;refine Ld.mk h1 rfl ?_;refine Ld.v h.d ?_;refine h.dL.hit (k:=r) cZ (b:=nm) h.hnm (h.cov r d hR hN) λv e=>?_;subst e;refine An.mk (off:=0) (cs:=(bu d).toArray) (v:=i64 (d.v:Int)) rfl ?_;refine h.L.ld (cQ (h.get d.v (by rw[h.hn];exact kZ))) (λ_ h=>h) ?_;refine aZ.mk (.refl _) ?_;rw[aq hN]
structure KnT(q:Nat->Bool)(es:Array MapEntry)(ck:Nat)(mm:List (Nat×Bool)):Prop where
 dL:aE kr (λv (x:Bool)=>Tl x v) es ck mm
 val:∀r x,aJ mm r=some x->x=q r
 low:∀r,r<2->aJ mm r≠none
abbrev WZ(q:Nat->Bool)(kb:Nat)(Z:Hp)(r:Nat):zV->Hp->Prop:=λv H=>Tl (q r) v/\∃es' bB U8,H=(kb,.map es' bB)::Z/\KnT q es' bB U8
theorem ow{p:Bool}{v:zV}(h:Tl p v):∃r:List zV,v=.agg r.toArray/\r.length=2/\∀u∈r,u.oneCell'=true:=by
 obtain⟨n,b,_,rfl,_⟩:=h;exact⟨_,rfl,rfl,pT _ _⟩
theorem sk(h:WM K S ah ls m n f F V d0 b1 nm j7 BR BS Z)(t:TcH n d0 b1 b8 k6 wR um EM bf kb ns Z){q:Nat->Bool}{r l:Nat}(hr:live K.N r)(hR:Rc K.N (λq=>q=f) r)(hl:l<=dep K.n (lv ah) K.N r){es:Array MapEntry}{ck:Nat}
 (hc:Fc zQ 364 #[u32 r,ptr k6,ptr b1,ptr EM] ((kb,.map es ck)::Z) (WZ q kb Z r)):
  Fc zQ 362 #[u32 r,i64 (l:Int),ptr um,ptr b8,ptr wR] ((kb,.map es ck)::Z) (WZ q kb Z r):=by
 have hdl:=h.ok.wf.iD h.ok.lv r;have BJ:=t.fal.len;have hB:dz .i64 Z (.slice (some ⟨bf,0,none⟩) (iw ns).length (n+1)) (iw ns):=dz.block t.hf (by rw[ak];omega);rw[ak,BJ]at hB;have hn':=h.hn;have ab5:=t.fal.mono (a:=l) (dep K.n (lv ah) K.N r-l) zO;rw[show l+(dep K.n (lv ah) K.N r-l)=dep K.n (lv ah) K.N r by omega]at ab5;have hle:=t.fal.le l zO;have sN:=h.lz;refine aF λg=>Hv λc1 _=>?_;refine DR.of (R:=Z) (.skip .tail) (Ld.mk t.h23 rfl ?_);refine Ld.mk t.h8 rfl ?_;refine hB.ld (bH zO) (λ_ h=>h) (Ld.mk t.h8 rfl ?_);refine Ld.mk t.h20 rfl ?_;intro G;refine aK.of rfl zK (aa.fq (args:=#[u32 r,ptr k6,ptr b1,ptr EM]) hc ?_);rintro v1 H ⟨hv1,kf,jJ,mm1,rfl,uf⟩;refine⟨.skip .tail,Z,.skip .tail,.refl _,?_⟩;intro G;refine aK.of rfl zK (aa.eq (args:=#[u32 r,ptr b1]) (Mn (Z:=Z) h t.h1 hr hR) (⟨.skip .tail,Z,.skip .tail,.refl _,?_⟩));refine hB.ld (bH zO) (λ_ h=>h) (ae.bZ λG=>(aa.rq (Mv (C:=Z) hv1 _) ?_));intro v2 hv2;intro G;have afs:=hv2;obtain⟨rr,rfl,xM,Pv⟩:=ow hv2;refine St.p (r:=rr) Pv ?_ (hr:=xM);refine ax.q ?_ (hr:=xM);exact aM.mk .tail ⟨afs,kf,jJ,mm1,rfl,uf⟩
end
section
variable {d0 b1 b8 k6 wR um EM bf kb nm n f F V BS:Nat} {j7:zV} {K:Kd} {S:Nat->aA.Fn} {ah ls ns:zL} {BR:Array MapEntry} {m:List (Nat×Nd)} {Z:Hp}
theorem vy(a k:Nat):decide ((a>>>k)%2=0)= !a.testBit k:=by
 rw[<-Bj];have:=Nat.mod_two_eq_zero_or_one (a>>>k);rcases this with e|e<;>rw[e]<;>rfl
theorem Mo(h:WM K S ah ls m n f F V d0 b1 nm j7 BR BS Z)(t:TcH n d0 b1 b8 k6 wR um EM bf kb ns Z):
  ∀(k r:Nat) (es:Array MapEntry) (ck:Nat) (mm:List (Nat×Bool)),K.n-dep K.n (lv ah) K.N r<=k->live K.N r->Rc K.N (λq=>q=f) r->KnT (λr=>qT K.n F V (S r)) es ck mm->
  Fc zQ 364 #[u32 r,ptr k6,ptr b1,ptr EM] ((kb,.map es ck)::Z) (WZ (λr=>qT K.n F V (S r)) kb Z r):=by
 have hit:∀{r:Nat} {es:Array MapEntry} {ck:Nat} {mm:List (Nat×Bool)} {x:Bool},KnT (λr=>qT K.n F V (S r)) es ck mm->aJ mm r=some x->
   Fc zQ 364 #[u32 r,ptr k6,ptr b1,ptr EM] ((kb,.map es ck)::Z) (WZ (λr=>qT K.n F V (S r)) kb Z r):=by
  intro r es ck mm x hm hv;refine aF λg=>xf λc1 _=>?_;refine Ld.mk (v:=.map (some kb)) (.tail _ (.tail _ t.h17)) rfl ?_;refine hm.dL.hit (k:=r) cZ (b:=kb) (by exact .tail _ (.head _)) hv λv' e=>?_;have ex:=hm.val r x hv;have e':=e;obtain⟨rr,rfl,xM,Pv⟩:=ow e;refine Ext.two λc7 _=>(St.p (r:=rr) Pv ?_ (hr:=xM));refine Br.yes (ax.q ?_ (hr:=xM));refine St.p (r:=rr) Pv ?_ (hr:=xM);refine ax.q ?_ (hr:=xM);exact aM.mk (.skip .tail) ⟨by show Tl (qT K.n F V (S r)) _;rw[show qT K.n F V (S r)=x from ex.symm];exact e',es,ck,mm,rfl,hm⟩
 intro k;induction k with
 |zero=>
  intro r es ck mm hk hr hR hm;have qs:r<2:=by
   cases hN:K.N r with
   |some d=>
    rw[aq hN]at hk;have:=h.ok.lv.lt _ (h.ok.mid.var hN);omega
   |none=>
    rcases hr with hr|⟨d,e⟩
    ·exact hr
    rw[hN]at e;cases e
  cases hv:aJ mm r with
  |none=>exact absurd hv (hm.low r qs)
  |some v=>exact hit hm hv
 |succ k ih=>
  intro r es ck mm hk hr hR hm;cases hv:aJ mm r with
  |some v=>exact hit hm hv
  |none=>
  have qs:¬r<2:=λh2=>hm.low r h2 hv;obtain⟨d,hN⟩:∃d,K.N r=some d:=by
   rcases hr with hr|hr
   ·omega
   exact hr
  have hlo:=h.ok.wf.lo hN;have hhi:=h.ok.wf.hi hN;rw[aq hN]at hk;have kZ:=h.ok.mid.var hN;have hvl:=h.ok.lv.lt _ kZ;have sN:=h.lz;have Wd:=h.F64;have V6:=h.V64;have qn:=UP (F:=F) (V:=V) h.ok hN;refine aF λg=>xf λc1 _=>?_;refine Ld.mk (v:=.map (some kb)) (.tail _ (.tail _ t.h17)) rfl ?_;refine hm.dL.bM (k:=r) cZ (b:=kb) (by exact .tail _ (.head _)) hv ?_;refine Ext.two λc7 _=>(St.p (r:=[u64 0,.bool false]) (pT _ _) (Br.no ?_));have up:∀{x y z:Nat×Obj} {l:List (Nat×Obj)},l=Z->∀{w},w∈Z->w∈x::y::z::l:=λe w hw=>by subst e;exact .tail _ (.tail _ (.tail _ hw))
  refine Ld.mk (v:=ptr d0) (.tail _ (.tail _ (.tail _ t.h1))) rfl ?_;refine Ld.v (v:=.map (some nm)) (.tail _ (.tail _ (.tail _ h.d))) ?_;refine h.dL.hit (k:=r) cZ (b:=nm) (.tail _ (.tail _ (.tail _ h.hnm))) (h.cov r d hR hN) λv e=>?_;subst e;intro c18 _;refine St.p (fG d) ?_;refine Ld.mk (v:=ptr d0) (.tail _ (.tail _ (.tail _ (.tail _ t.h1)))) rfl ?_;refine Ld.v (v:=j7) (.tail _ (.tail _ (.tail _ (.tail _ h.d)))) ?_;refine Ld.f (v:=i64 (d.v:Int)) (h.L.ld (cQ (h.get d.v (by rw[h.hn];exact kZ))) (λ_ h=>.tail _ (.tail _ (.tail _ (.tail _ h)))) ?_);refine ae.inc λc30 _=>?_;intro J32 Ps;have last:∀(p:Bool) (t30:List zV) (es':Array MapEntry) (bB:Nat) (U8:List (Nat×Bool)),Tl p (.agg t30.toArray)->t30.length=2->(∀u∈t30,u.oneCell'=true)->KnT (λr=>qT K.n F V (S r)) es' bB U8->p=((!F.testBit d.v|| !V.testBit d.v) &&qT K.n F V (S d.lo))->
    J32 [] ((c30,.cells t30.toArray 356 zZ)::(c18,.cells (bu d).toArray 226 zZ)::(c7,.cells [u64 0,.bool false].toArray 356 zZ)::(c1,.cells #[u64 0,.bool false] 356 zZ)::(kb,.map es' bB)::Z):=by
   intro p t30 es' bB U8 hp xM Pv hm' ep;refine Ps _ λ_=>?_;intro J35 h35;have fin:∀(p:Bool) (t30:List zV) (es':Array MapEntry) (bB:Nat) (U8:List (Nat×Bool)),Tl p (.agg t30.toArray)->t30.length=2->(∀u∈t30,u.oneCell'=true)->KnT (λr=>qT K.n F V (S r)) es' bB U8->p=qT K.n F V (S r)->
     J35 [] ((c30,.cells t30.toArray 356 zZ)::(c18,.cells (bu d).toArray 226 zZ)::(c7,.cells [u64 0,.bool false].toArray 356 zZ)::(c1,.cells #[u64 0,.bool false] 356 zZ)::(kb,.map es' bB)::Z):=by
    intro p t30 es' bB U8 hp xM Pv hm' ep;refine h35 _ λ_=>?_;refine Ld.mk (v:=.map (some kb)) (.tail _ (.tail _ (.tail _ (.tail _ (.tail _ t.h17))))) rfl ?_;refine ax.q ?_ (hr:=xM);refine hm'.dL.br (k:=r) (b:=kb) (x:=p) cZ gP hp λo5 qN he=>⟨_,.tail (.tail (.tail (.tail (.head _)))),?_⟩;refine ax.q ?_ (hr:=xM);refine St.p (r:=t30) Pv ?_ (hr:=xM);refine ax.q ?_ (hr:=xM);refine aM.mk (.skip (.skip (.skip .tail))) ⟨by show Tl (qT K.n F V (S r)) _;rw[<-ep];exact hp,o5,qN,_,rfl,he,λr' x' nU=>?_,λr' hr'=>?_⟩
    ·rw[bJ]at nU;split at nU
     ·rename_i e;subst e;cases nU;exact ep
     exact hm'.val r' x' nU
    rw[bJ];split
    ·simp
    exact hm'.low r' hr'
   refine Ld.mk (v:=ptr d0) (.tail _ (.tail _ (.tail _ (.tail _ (.tail _ t.h1))))) rfl ?_;refine Ld.v (v:=u64 F) (.tail _ (.tail _ (.tail _ (.tail _ (.tail _ h.d))))) ?_;refine Ld.f (v:=i64 (d.v:Int)) (ae.iM (by simpa[bG]using Wd) (ae.jz (by simp[bG];exact xaA (xbo _ _) Wd) zD (ae.dQ (b:=0) ?_)));rw[xbU,vy];refine cm.or (a:= !F.testBit d.v) (V.testBit d.v) (λ_=>?_) rfl λ_=>?_
   ·refine Ld.mk (v:=ptr d0) (.tail _ (.tail _ (.tail _ (.tail _ (.tail _ t.h1))))) rfl ?_;refine Ld.v (v:=u64 V) (.tail _ (.tail _ (.tail _ (.tail _ (.tail _ h.d))))) ?_;refine Ld.f (v:=i64 (d.v:Int)) (ae.iM (by simpa[bG]using V6) (ae.jz (by simp[bG];exact xaA (xbo _ _) V6) zD (ae.dQ (b:=1) ?_)));rw[xbU,Bj];exact⟨rfl,rfl⟩
   refine Br.mk (λhb=>?_) (λhb=>?_)
   ·refine DR.of (R:=(c30,.cells t30.toArray 356 zZ)::(c18,.cells (bu d).toArray 226 zZ)::Z) (.cons (.cons (.skip (.skip .tail)))) (ax.q ?_ (hr:=xM));refine Ld.mk (v:=.func (.func 362) #[] #[ptr um,ptr b8,ptr wR]) (.tail _ (.tail _ t.h25)) rfl ?_;refine Ld.f (v:=u32 d.hi) λG=>?_;refine aK.of rfl zK (aa.fq (args:=#[u32 d.hi,i64 ((lv ah d.v+1:Nat):Int),ptr um,ptr b8,ptr wR]) (sk (Z:=Z) h t hhi.1 (.hi hR hN) zO (ih d.hi es' bB U8 zO hhi.1 (.hi hR hN) hm')) ?_);rintro v2 H ⟨hv2,gV,iE,mm2,rfl,lY⟩;refine⟨.cons (.cons (.skip (.skip .tail))),?_⟩;intro G;refine aa.rq (B3 (C:=Z) hp hv2) ?_;intro v3 hv3;intro G;have YO:=hv3;obtain⟨rr,rfl,h3l,h3o⟩:=ow hv3;refine St.p (r:=rr) h3o ?_ (hr:=h3l) (hs:=by simpa using xM);refine JE.mk (fin _ rr gV iE mm2 YO h3l h3o lY ?_);rw[ep,qn,hb,xbR]
   refine JE.mk (fin p t30 es' bB U8 hp xM Pv hm' ?_);rw[ep,qn,hb,xd9,xdu]
  refine Ld.mk (v:=ptr d0) (.tail _ (.tail _ (.tail _ (.tail _ (.tail _ t.h1))))) rfl ?_;refine Ld.v (v:=u64 F) (.tail _ (.tail _ (.tail _ (.tail _ (.tail _ h.d))))) ?_;refine Ld.f (v:=i64 (d.v:Int)) (ae.iM (by simpa[bG]using Wd) (ae.jz (by simp[bG];exact xaA (xbo _ _) Wd) zD (ae.dQ (b:=0) ?_)));rw[xbU,vy];refine cm.or (a:= !F.testBit d.v) (!V.testBit d.v) (λ_=>?_) rfl λ_=>?_
  ·refine Ld.mk (v:=ptr d0) (.tail _ (.tail _ (.tail _ (.tail _ (.tail _ t.h1))))) rfl ?_;refine Ld.v (v:=u64 V) (.tail _ (.tail _ (.tail _ (.tail _ (.tail _ h.d))))) ?_;refine Ld.f (v:=i64 (d.v:Int)) (ae.iM (by simpa[bG]using V6) (ae.jz (by simp[bG];exact xaA (xbo _ _) V6) zD (ae.dQ (b:=0) ?_)));rw[xbU,vy];exact⟨rfl,rfl⟩
  refine Br.mk (λhb=>?_) (λhb=>?_)
  ·refine DR.of (R:=(c30,.cells [u64 0,.bool false].toArray 356 zZ)::(c18,.cells (bu d).toArray 226 zZ)::Z) (.cons (.cons (.skip (.skip .tail)))) (ax.q ?_);refine Ld.mk (v:=.func (.func 362) #[] #[ptr um,ptr b8,ptr wR]) (.tail _ (.tail _ t.h25)) rfl ?_;refine Ld.f (v:=u32 d.lo) λG=>?_;refine aK.of rfl zK (aa.fq (args:=#[u32 d.lo,i64 ((lv ah d.v+1:Nat):Int),ptr um,ptr b8,ptr wR]) (sk (Z:=Z) h t hlo.1 (.lo hR hN) zO (ih d.lo es ck mm zO hlo.1 (.lo hR hN) hm)) ?_);rintro v2 H ⟨hv2,gV,iE,mm2,rfl,lY⟩;refine⟨.cons (.cons (.skip (.skip .tail))),?_⟩;intro G;refine aa.rq (B3 (C:=Z) Tl.no hv2) ?_;intro v3 hv3;intro G;have YO:=hv3;obtain⟨rr,rfl,h3l,h3o⟩:=ow hv3;refine St.p (r:=rr) h3o ?_ (hr:=h3l);refine JE.mk (last _ rr gV iE mm2 YO h3l h3o lY ?_);rw[hb,xbR,xdv]
  refine JE.mk (last false [u64 0,.bool false] es ck mm Tl.no rfl (pT _ _) hm ?_);rw[hb,xd9]
end
section
variable {d0 nm n f F V BS:Nat} {j7:zV} {K:Kd} {S:Nat->aA.Fn} {ah ls:zL} {BR:Array MapEntry} {m:List (Nat×Nd)} {Z Z':Hp}
theorem WM.more{b b':Nat}(h:WM K S ah ls m n f F V d0 b nm j7 BR BS Z)(hs:∀x∈Z,x∈Z'):WM K S ah ls m n f F V d0 b' nm j7 BR BS Z':=
 ⟨h.ok,h.lz,h.hn,hs _ h.d,hs _ h.hnm,h.dL,h.cov,h.L.mono hs,h.get,h.F64,h.V64⟩
theorem yq{b:Nat}(h:WM K S ah ls m n f F V d0 b nm j7 BR BS Z)(hlen:ls.length=n)(hf:live K.N f):Rd zQ 294 #[ptr d0] Z (Tl (qT K.n F V (S f))):=by
 have sN:=h.lz;have hn:=h.hn;have hi:=h.ok.mid.int;have hlt:∀l∈ls,l<n:=λl hl=>by
  obtain⟨i,hi,e⟩:=xbd.1 hl;have q:=h.get i zO;rw[xaa hi,e]at q;cases q;rw[hn];exact h.ok.lv.lt _ zO
 refine aF λg=>Ir λb1 _ b3 _=>?_;refine Ld.q ?_;refine aa.fq (PF (Z:=Z) h.d h.L hlen zO hlt h.F64) ?_;rintro v H ⟨bf,ns,agi,rfl,rfl⟩;intro b8 _;refine St.one (c':=#[.slice (some ⟨bf,0,none⟩) (n+1) (n+1)]) (by exact .head _) rfl zI rfl ?_;intro kb _;refine Build.mk (cs:=[u64 0,.bool false]) zK (aE.br (ke:=kr) (vr:=λv (x:Bool)=>Tl x v) (k:=0) (b:=kb) (x:=false) cZ gP aE.empty Tl.no λkf jJ Gc=>⟨_,.head _,?_⟩);refine Build.mk (cs:=[u64 1,.bool false]) zK (aE.br (ke:=kr) (vr:=λv (x:Bool)=>Tl x v) (k:=1) (b:=kb) (x:=true) cZ gP Gc Tl.yes λgV iE XC=>⟨_,.head _,?_⟩);intro k6 _;refine St.one (c':=#[.map (some kb)]) (by exact .head _) rfl zI rfl ?_;intro wR _;refine St.one (c':=#[.func (.func 361) #[] #[ptr b1]]) (by exact .head _) rfl zI rfl ?_;intro um _ EM _;refine St.one (c':=#[.func (.func 362) #[] #[ptr um,ptr b8,ptr wR]]) (by exact .head _) rfl zI rfl ?_;refine St.one (c':=#[.func (.func 364) #[] #[ptr k6,ptr b1,ptr EM]]) (by exact .tail (.head _)) rfl zI rfl ?_;obtain⟨Y,hY⟩:∃Y:Hp,Y=(EM,Obj.cells #[.func (.func 362) #[] #[ptr um,ptr b8,ptr wR]] 422 zZ)::(um,.cells #[.func (.func 364) #[] #[ptr k6,ptr b1,ptr EM]] 420 zZ)::(wR,.cells #[.func (.func 361) #[] #[ptr b1]] 260 zZ)::(k6,.cells #[.map (some kb)] 419 zZ)::
  (b8,.cells #[.slice (some ⟨bf,0,none⟩) (n+1) (n+1)] 43 zZ)::(b3,.cells #[u64 0,.bool false] 356 zZ)::(b1,.cells #[ptr d0] 353 zZ)::(bf,.cells (av .i64 (iw ns)) 3 zZ)::Z:=⟨_,rfl⟩
 have hYs:∀x∈Z,x∈Y:=λx hx=>by rw[hY];exact .tail _ (.tail _ (.tail _ (.tail _ (.tail _ (.tail _ (.tail _ (.tail _ hx)))))))
 have hvw:WM K S ah ls m n f F V d0 b1 nm j7 BR BS Y:=h.more hYs;have ht:TcH n d0 b1 b8 k6 wR um EM bf kb ns Y:=by
  refine⟨?_,?_,?_,?_,?_,?_,?_,agi⟩<;>rw[hY]<;>simp
 have hk:KnT (λr=>qT K.n F V (S r)) gV iE [(0,false),(1,true)]:=by
  refine⟨XC,λr x hx=>?_,λr hr=>?_⟩
  ·unfold aJ at hx;rw[xby,xby]at hx;by_cases e0:r=0
   ·subst e0;have:x=false:=by simpa using hx.symm
    rw[this,show S 0=λ_=>false from funext hi.zero];exact UO.symm
   by_cases e1:r=1
   ·subst e1;have:x=true:=by simpa using hx.symm
    rw[this,show S 1=λ_=>true from funext hi.one];exact Yl.symm
   simp[xba e0,xba e1]at hx
  have:r=0\/r=1:=by omega
  rcases this with rfl|rfl<;>simp[aJ]
 refine DR.of (R:=(EM,Obj.cells #[.func (.func 362) #[] #[ptr um,ptr b8,ptr wR]] 422 zZ)::(b1,.cells #[ptr d0] 353 zZ)::Z) (.cons (.skip (.skip (.skip (.skip (.skip (.skip (.cons .tail)))))))) (Ld.q ?_);refine Ld.q ?_;refine Ld.v (v:=u32 f) (.tail _ (.tail _ h.d)) ?_;intro G;refine aK.of rfl zK (aa.pre (H':=(kb,Obj.map gV iE)::Y) (by rw[hY];exact .perm (xaS (l₁:=[_,_,_,_]))) (aa.fn (args:=#[u32 f,i64 ((0:Nat):Int),ptr um,ptr b8,ptr wR]) .here (sk hvw ht hf (.base rfl) (xaN _) (Mo hvw ht K.n f gV iE _ (xdt _ _) hf (.base rfl) hk)) ?_));rintro v H ⟨hv,o5,qN,mm3,rfl,pI⟩;intro G;have nU:=hv;obtain⟨rr,rfl,xM,Pv⟩:=ow hv;rw[hY];refine St.p (r:=rr) Pv ?_ (hr:=xM);refine ax.q ?_ (hr:=xM);exact aZ.mk (.skip (.skip (.skip (.skip (.skip (.skip (.skip (.skip .tail)))))))) nU
end
section
variable {kp mb b1 b9 GI Of n f:Nat} {j7:zV} {K:Kd} {S:Nat->aA.Fn} {ord ah tr:zL} {C Z:Hp}
theorem tC(h:cf kp K S ord ah tr C){r:Nat}(hr:live K.N r):Rd zQ 292 #[ptr kp,u32 r] C (· =i64 (if r=0 then 10 else 0)):=by
 have hlt:=h.bK hr;refine aF λg=>Iu (ae.aH (Br.no (aa.eq (args:=#[ptr kp,u32 r]) (iS h.rep zO) ?_)));rw[bX.2 hr];refine Ext.two λb6 _=>(St.p (aQ K.N r).2 ?_ (hr:=(aQ K.N r).1));refine ae.cD (Br.F (ae.dQ (b:=0) (Br.mk (λhb=>?_) (λhb=>?_))))
 ·rw[xad (xcd hb)];exact aZ.mk .tail rfl
 rw[xac (xdf hb)];exact aZ.mk .tail rfl
structure TC(K:Kd)(m m':List (Nat×Nd))(r:Nat):Prop where
 good:∀u d,aJ m' u=some d->K.N u=some d
 sub:∀u,aJ m u≠none->aJ m' u≠none
 has:r<2\/aJ m' r≠none
 shut:∀u,aJ m' u≠none->aJ m u=none->∃d,K.N u=some d/\(d.lo<2\/aJ m' d.lo≠none)/\(d.hi<2\/aJ m' d.hi≠none)
theorem TC.cov{m:List (Nat×Nd)}(h:TC K [] m f)(h2:∀u d,K.N u=some d->2<=u):∀u e,Rc K.N (λq=>q=f) u->K.N u=some e->aJ m u=some e:=by
 have step:∀u,Rc K.N (λq=>q=f) u->u<2\/aJ m u≠none:=λu hu=>by
  induction hu with
  |base e=>subst e;exact h.has
  |lo hp hN ih=>
   rcases ih with ih|ih
   ·have:=h2 _ _ hN;omega
   obtain⟨d,hd,a,b⟩:=h.shut _ ih rfl;rw[hN]at hd;cases hd;exact a
  |hi hp hN ih=>
   rcases ih with ih|ih
   ·have:=h2 _ _ hN;omega
   obtain⟨d,hd,a,b⟩:=h.shut _ ih rfl;rw[hN]at hd;cases hd;exact b
 intro u e hu hN;rcases step u hu with h'|h'
 ·have:=h2 _ _ hN;omega
 cases hm:aJ m u with
 |none=>exact absurd hm h'
 |some d=>have:=h.good u d hm;rw[hN]at this;cases this;rfl
theorem UG(h:cf kp K S ord ah tr C)(h9:(b9,Obj.cells (ER n f mb j7 0 0) 361 zZ)∈Z)(h11:(GI,Obj.cells #[ptr b9] 353 zZ)∈Z)(h1:(b1,Obj.cells #[ptr kp] 85 zZ)∈Z)
 (h48:(Of,Obj.cells #[.func (.func 359) #[] #[ptr GI,ptr b1,ptr Of]] 261 zZ)∈Z):
  ∀(k r:Nat) (es:Array MapEntry) (ck:Nat) (m:List (Nat×Nd)),K.n-dep K.n (lv ah) K.N r<=k->live K.N r->Ot es ck m->(∀u d,aJ m u=some d->K.N u=some d)->
  Fc zQ 359 #[u32 r,ptr GI,ptr b1,ptr Of] ((mb,.map es ck)::(Z++C)) (λv H=>v=.tuple #[]/\∃es' bB m',H=(mb,.map es' bB)::(Z++C)/\Ot es' bB m'/\TC K m m' r):=by
 have h9':=xae C h9;have ZM:=xae C h11;have sR:=xae C h1;have Wf:=xae C h48;have two:=λ(u:Nat) (d:Nd) (e:K.N u=some d)=>(h.ok.mid.two e).1;have stop:∀{r:Nat} {es:Array MapEntry} {ck:Nat} {m:List (Nat×Nd)},Ot es ck m->(∀u d,aJ m u=some d->K.N u=some d)->(r<2\/aJ m r≠none)->
   Fc zQ 359 #[u32 r,ptr GI,ptr b1,ptr Of] ((mb,.map es ck)::(Z++C)) (λv H=>v=.tuple #[]/\∃es' bB m',H=(mb,.map es' bB)::(Z++C)/\Ot es' bB m'/\TC K m m' r):=by
  intro r es ck m hE hg hr;refine aF λg=>xg (Ld.mk (v:=ptr b9) (.tail _ ZM) rfl ?_);refine Ld.v (v:=.map (some mb)) (.tail _ h9') ?_;have fin:TC K m m r:=⟨hg,λ_ h=>h,hr,λu h h'=>absurd h' h⟩;cases hv:aJ m r with
  |some d=>
   refine hE.hit (k:=r) cZ (b:=mb) (by exact .head _) hv λv e=>?_;subst e;refine Ext.two λb8 _=>(St.p (fG d) ?_);refine cm.or (a:=true) true (λe=>by cases e) rfl λ_=>?_;exact Br.yes (aM.mk .tail ⟨rfl,es,ck,m,rfl,hE,fin⟩)
  |none=>
   have h2:r<2:=hr.resolve_right λh=>h hv;refine hE.bM (k:=r) cZ (b:=mb) (by exact .head _) hv ?_;refine Ext.two λb8 _=>(St.p (r:=[i64 0,u32 0,u32 0]) (by simp[u32,Value.oneCell']) (cm.or (a:=false) (decide (r<=1)) (λ_=>ae.xX (b:=1) ⟨rfl,rfl⟩) rfl λ_=>?_));rw[xal (show r<=1 by omega)];exact Br.yes (aM.mk .tail ⟨rfl,es,ck,m,rfl,hE,fin⟩)
 intro k;induction k with
 |zero=>
  intro r es ck m hk hr hE hg;refine stop hE hg (.inl ?_);cases hN:K.N r with
  |some d=>
   rw[aq hN]at hk;have:=h.ok.lv.lt _ (h.ok.mid.var hN);omega
  |none=>
   rcases hr with hr|⟨d,e⟩
   ·exact hr
   rw[hN]at e;cases e
 |succ k ih=>
  intro r es ck m hk hr hE hg;by_cases hs:r<2\/aJ m r≠none
  ·exact stop hE hg hs
  have qs:¬r<2:=λh=>hs (.inl h);have hv:aJ m r=none:=xaK λh=>hs (.inr h);obtain⟨d,hN⟩:∃d,K.N r=some d:=by
   rcases hr with hr|hr
   ·omega
   exact hr
  have hlt:=h.bK (.inr ⟨d,hN⟩);have hlo:=h.ok.wf.lo hN;have hhi:=h.ok.wf.hi hN;rw[aq hN]at hk;have hvl:=h.ok.lv.lt _ (h.ok.mid.var hN);refine aF λg=>xg (Ld.mk (v:=ptr b9) (.tail _ ZM) rfl ?_);refine Ld.v (v:=.map (some mb)) (.tail _ h9') ?_;refine hE.bM (k:=r) cZ (b:=mb) (by exact .head _) hv ?_;refine Ext.two λb8 _=>(St.p (r:=[i64 0,u32 0,u32 0]) (by simp[u32,Value.oneCell']) (cm.or (a:=false) (decide (r<=1)) (λ_=>ae.xX (b:=1) ⟨rfl,rfl⟩) rfl λ_=>?_));rw[xai (show¬r<=1 by omega)];refine Br.no (Ld.mk (v:=ptr kp) (.tail _ (.tail _ sR)) rfl ?_);refine aa.eq (args:=#[ptr kp,u32 r]) (iS h.rep zO) ?_;rw[dY hN (two r d hN)];refine Ext.two λEc _=>(St.p (fG d) ?_);refine DR.of (.refl _) (Ld.mk (v:=ptr b9) (.tail _ (.tail _ (.tail _ ZM))) rfl ?_);refine Ld.v (v:=.map (some mb)) (.tail _ (.tail _ (.tail _ h9'))) ?_;refine ax.q ?_;intro G;refine hE.br (k:=r) (b:=mb) (x:=d) cZ gP rfl λkf jJ Gc=>⟨_,.tail (.tail (.head _)),?_⟩;have g1:∀u e,aJ (ef m r d) u=some e->K.N u=some e:=λu e hu=>by
   rw[bJ]at hu;split at hu
   ·cases hu;subst u;exact hN
   exact hg u e hu
  refine Ld.mk (v:=.func (.func 359) #[] #[ptr GI,ptr b1,ptr Of]) (.tail _ (.tail _ (.tail _ Wf))) rfl ?_;refine Ld.f (v:=u32 d.lo) (aK.of rfl zK (aa.fq (args:=#[u32 d.lo,ptr GI,ptr b1,ptr Of]) (ih d.lo kf jJ _ zO hlo.1 Gc g1) ?_));rintro v H ⟨rfl,gV,iE,m2,rfl,sQ,w2⟩;refine Ld.mk (v:=.func (.func 359) #[] #[ptr GI,ptr b1,ptr Of]) (.tail _ (.tail _ (.tail _ Wf))) rfl ?_;refine Ld.f (v:=u32 d.hi) (aK.of rfl zK (aa.fq (args:=#[u32 d.hi,ptr GI,ptr b1,ptr Of]) (ih d.hi gV iE m2 zO hhi.1 sQ w2.good) ?_));rintro v H ⟨rfl,o5,qN,m3,rfl,Pr,w3⟩;have r1:aJ (ef m r d) r≠none:=by rw[bJ,xad rfl];simp
  refine aM.mk (.skip .tail) ⟨rfl,o5,qN,m3,rfl,Pr,⟨w3.good,λu hu=>w3.sub u (w2.sub u ?_),.inr (w3.sub r (w2.sub r r1)),λu hu hn=>?_⟩⟩
  ·rw[bJ];split
   ·simp
   exact hu
  by_cases VB:aJ m2 u=none
  ·exact w3.shut u hu VB
  by_cases F0:aJ (ef m r d) u=none
  ·obtain⟨e,he,a,b⟩:=w2.shut u VB F0;exact⟨e,he,a.imp id (w3.sub _),b.imp id (w3.sub _)⟩
  rw[bJ]at F0;split at F0
  ·subst u;exact⟨d,hN,w2.has.imp id (w3.sub _),w3.has⟩
  exact absurd hn F0
end
section
variable {kp:Nat} {K:Kd} {S:Nat->aA.Fn} {ord ah tr:zL} {C:Hp}
theorem Yi(h:cf kp K S ord ah tr C){f:Nat}(hf:live K.N f):Fc zQ 293 #[ptr kp,u32 f] C (λv H=>∃d0 nm j7 BR BS m B,v=ptr d0/\j7.oneCell'=true/\H=(d0,.cells (ER K.n f nm j7 0 0) 361 zZ)::((nm,.map BR BS)::(B++C))/\Ot BR BS m/\
  (∀u e,Rc K.N (λq=>q=f) u->K.N u=some e->aJ m u=some e)/\dz .i64 B j7 (iw ((List.range K.n).map (lv ah)))):=by
 have sN:=h.bc.lz;refine aF λg=>Is λb1 _=>?_;refine Ld.q ?_;refine aa.eq (gO h.rep) λnm _=>?_;refine Build.mk (cs:=[i64 (K.n:Int),u32 f,.map (some nm),.slice none 0 0,u64 0,u64 0]) zK λb9 _ GI _=>?_;refine St.one (c':=#[ptr b9]) (by exact .head _) rfl zI rfl ?_;refine Ld.q ?_;refine Ld.n (v:=i64 (K.n:Int)) ?_;refine⟨λvs H=>∃(j:Nat) (j7:zV) (CL:Hp),vs=[i64 (j:Int)]/\j<=K.n/\j7.oneCell'=true/\aN 3 .i64 j7 (iw ((List.range j).map (lv ah))) CL/\
   H=(GI,.cells #[ptr b9] 353 zZ)::(b9,.cells (ER K.n f nm j7 0 0) 361 zZ)::(nm,.map #[] 0)::(b1,.cells #[ptr kp] 85 zZ)::(CL++C),λvs _=>K.n-bL vs 0,
  JE.mk ⟨0,.slice none 0 0,[],rfl,xaN _,rfl,aN.nil,rfl⟩,?_⟩
 rintro w H ⟨j,j7,CL,⟨⟩,hj,ho,hL,rfl⟩ gs;refine ae.fk (Br.dec (λhlt=>?_) (λhge=>?_))
 ·refine Ld.q ?_;refine aa.eq (lR h.rep _) ?_;rw[xad ⟨by omega,by omega⟩];refine Ext.two (DR.of (R:=(GI,Obj.cells #[ptr b9] 353 zZ)::(b9,.cells (ER K.n f nm j7 0 0) 361 zZ)::C) (.cons (.cons (.skip (.skip .right)))) (Ld.q ?_));refine Ld.q ?_;refine Ld.n (v:=j7) λG=>?_;refine az.int (e:=3) zK zK zK λbx=>?_;refine⟨.skip (.cons (.cons (.skip (.skip .right)))),?_⟩;intro G;refine hL.rX (.cons (.cons (.cons (.cons (.cons .left))))) (by exact .head _) zP zP λv' N' cA=>?_;refine⟨.skip (.cons (.cons (.skip (.skip .right)))),?_⟩;refine .ptr (.mk ?_);intro G;have nU:v'.oneCell'=true:=by
   obtain⟨x,y,z,rfl⟩:∃x y z,v'=.slice x y z:=by
    rcases cA with⟨rfl,_⟩|⟨b,c,rfl,_⟩
    ·exact⟨_,_,_,rfl⟩
    exact⟨_,_,_,rfl⟩
   rfl
  refine St.one (c':=ER K.n f nm v' 0 0) (by exact .tail (.tail (.head _))) nU zI rfl ?_;refine ae.inc (aC.of .tail ⟨j+1,v',N',rfl,hlt,nU,?_,rfl⟩ (by simp only[bL];omega));rw[xb6,xaJ,bY];rw[xbh]at cA;exact cA
 obtain rfl:j=K.n:=by omega
 intro Of _;refine St.one (c':=#[.func (.func 359) #[] #[ptr GI,ptr b1,ptr Of]]) (by exact .head _) rfl zI rfl ?_;refine Ld.q ?_;refine aK.of rfl zK ?_;obtain⟨Z,hZ⟩:∃Z:Hp,Z=(Of,Obj.cells #[.func (.func 359) #[] #[ptr GI,ptr b1,ptr Of]] 261 zZ)::(GI,.cells #[ptr b9] 353 zZ)::(b9,.cells (ER K.n f nm j7 0 0) 361 zZ)::(b1,.cells #[ptr kp] 85 zZ)::CL:=⟨_,rfl⟩;refine aa.pre (H':=(nm,Obj.map #[] 0)::(Z++C)) (by rw[hZ];exact .perm (xaS (l₁:=[_,_,_]))) (aa.fn (args:=#[u32 f,ptr GI,ptr b1,ptr Of]) .here (UG (Z:=Z) (b9:=b9) (n:=K.n) (f:=f) (j7:=j7) h (by rw[hZ];simp) (by rw[hZ];simp) (by rw[hZ];simp) (by rw[hZ];simp) K.n f #[] 0 [] (xdt _ _) hf aE.empty (λu d e=>by cases e)) ?_);rintro v H ⟨rfl,es',bB,m',rfl,DE,w'⟩;refine Ld.mk (v:=ptr b9) (.tail _ (xae _ (by rw[hZ];exact .tail _ (.head _)))) rfl ?_;refine aM.mk ?_ ⟨b9,nm,j7,es',bB,m',CL,rfl,ho,rfl,DE,w'.cov (λu d e=>(h.ok.mid.two e).1),hL.ints⟩;rw[hZ];exact .trans (.cons (.skip (.skip (.cons .tail)))) .swap
def XY(n:Nat)(f:aA.Fn)(V:Nat):Prop:=(∀j,n<=j->V.testBit j=false)/\∀v,v<n->(V.testBit v=true↔¬∃x:Nat,(∀j,v<j->j<n->x.testBit j=V.testBit j)/\x.testBit v=false/\f x=true)
theorem XY.uniq{n V V':Nat}{f:aA.Fn}(h:XY n f V)(h':XY n f V'):V=V':=by
 have:∀k v,n<=v+k->V.testBit v=V'.testBit v:=by
  intro k;induction k with
  |zero=>intro v hv;rw[h.1 v hv,h'.1 v hv]
  |succ k ih=>
   intro v hv;by_cases FZ:n<=v
   ·rw[h.1 v FZ,h'.1 v FZ]
   rw[xbN,h.2 v zO,h'.2 v zO];have e:∀x:Nat,(∀j,v<j->j<n->x.testBit j=V.testBit j)↔(∀j,v<j->j<n->x.testBit j=V'.testBit j):=λx=>
    ⟨λq j a b=>by rw[q j a b];exact ih j zO,λq j a b=>by rw[q j a b];exact(ih j zO).symm⟩
   simp only[e]
 exact xaW λv=>this n v zO
theorem MV(h:cf kp K S ord ah tr C){f:Nat}(hf:live K.N f)(h0:f≠0):Rd zQ 148 #[ptr kp,u32 f] C (λv=>∃V,V<18446744073709551616/\XY K.n (S f) V/\v=.tuple #[u64 V,i64 0]):=by
 have sN:=h.bc.lz;have aa8:∃x,S f x=true:=by
  refine xaK λhno=>h0 ?_;have:S f=S 0:=funext λx=>by
   rw[h.ok.mid.int.zero];cases e:S f x with
   |false=>rfl
   |true=>exact absurd ⟨x,e⟩ hno
  exact h.ok.wf.same h.ok.lv h.ok.mid.int hf (.inl zD) λx=>congrFun this x
 refine aF λg=>xE (aa.rq (Q:=λv=>∃V,V<18446744073709551616/\XY K.n (S f) V/\v=.tuple #[u64 V,i64 0]) (aF λg=>xC ?_) ?_);rotate_left
 ·rintro v ⟨V,h1,h2,rfl⟩;exact Ext.two (aZ.mk (.refl _) ⟨V,h1,h2,rfl⟩)
 refine aa.eq (tC h hf) ?_;rw[xac h0];refine ae.cD (Br.F (aa.fq (Yi h hf) ?_));rintro v H ⟨d0,nm,j7,BR,BS,m,B,rfl,ho,rfl,hE,agp,hL⟩;obtain⟨X,hX⟩:∃X:Hp,X=(nm,Obj.map BR BS)::(B++C):=⟨_,rfl⟩;rw[<-hX];have vw:∀F V,F<18446744073709551616->V<18446744073709551616->WM K S ah ((List.range K.n).map (lv ah)) m K.n f F V d0 0 nm j7 BR BS ((d0,.cells (ER K.n f nm j7 F V) 361 zZ)::X):=λF V hF hV=>
  ⟨h.ok,sN,rfl,.head _,by rw[hX];exact .tail _ (.head _),hE,agp,hL.mono λx hx=>by rw[hX];exact .tail _ (.tail _ (xae _ hx)),λv hv=>by simp[hv],hF,hV⟩
 refine aa.rq (yq (vw 0 0 zD zD) zI hf) ?_;intro t ht;refine aa.eq (yw (C:=X) ht) ?_;have e0:qT K.n 0 0 (S f)=true:=by
  obtain⟨x,hx⟩:=aa8;exact qe.2 ⟨x,λj _ hj=>by simp at hj,hx⟩
 rw[e0];refine Un.not (Br.no (Ld.n (v:=i64 (K.n:Int)) (ae.lg (c:=(K.n:Int) -1) rfl zO ?_)));refine⟨λvs H=>∃(j F V:Nat),vs=[u64 0,i64 ((j:Int) -1)]/\j<=K.n/\F<18446744073709551616/\V<18446744073709551616/\H=(d0,.cells (ER K.n f nm j7 F V) 361 zZ)::X/\(∀i,F.testBit i=(decide (j<=i) &&decide (i<K.n)))/\(∀i,i<j\/K.n<=i->V.testBit i=false)/\
   ∀v,j<=v->v<K.n->(V.testBit v=true↔¬∃x:Nat,(∀i,v<i->i<K.n->x.testBit i=V.testBit i)/\x.testBit v=false/\S f x=true),
  λvs _=>match vs with| [_,.int _ q]=>(q+1).toNat|_=>0,
  JE.mk ⟨K.n,0,0,rfl,xag _,by decide,by decide,rfl,λi=>?_,λi _=>by simp,λv a b=>by omega⟩,?_⟩
 ·rw[xcL];by_cases e:K.n<=i
  ·rw[xai (show¬i<K.n by omega),xdL]
  rw[xai e,xd9]
 rintro w1 w2 H ⟨j,F,V,⟨⟩,hj,hF,hV,rfl,hFb,ZA,hVb⟩ gs;refine ae.geq (Br.dec (λhge=>?_) (λhlt=>?_))
 ·obtain⟨i,rfl⟩:∃i,j=i+1:=⟨j-1,by omega⟩;have ei:(((i+1:Nat):Int) -1)=(i:Int):=by omega
  rw[ei];intro J hJ;have back:∀F' V':Nat,F'<18446744073709551616->V'<18446744073709551616->(∀a,F'.testBit a=(decide (i<=a) &&decide (a<K.n)))->(∀a,a<i\/K.n<=a->V'.testBit a=false)->
    (∀v,i<=v->v<K.n->(V'.testBit v=true↔¬∃x:Nat,(∀a,v<a->a<K.n->x.testBit a=V'.testBit a)/\x.testBit v=false/\S f x=true))->J [u64 0] ((d0,.cells (ER K.n f nm j7 F' V') 361 zZ)::X):=λF' V' a b c d e=>hJ _ _ λ_=>by
   refine ae.lg (c:=(i:Int) -1) rfl zO (aC.mk ⟨i,F',V',rfl,by omega,a,b,rfl,c,d,e⟩ ?_);show((i:Int) -1+1).toNat<((i:Int)+1).toNat;omega
  refine aa.fq (KD (C:=X) (b:=0) ho zO zD hF hV) ?_;rintro w H ⟨rfl,F1,V1,rfl,hF1,hV1,ag2,agF⟩;have same:V1=V:=xaW λa=>by
   rw[agF];split
   ·subst a;rw[ZA i (.inl zO)];rfl
   rfl
  subst same;have fb:∀a,F1.testBit a=(decide (i<=a) &&decide (a<K.n)):=λa=>by
   rw[ag2,hFb];by_cases e:a=i
   ·subst e;rw[xal (show a<K.n by omega),xal rfl,xal (xag a)];simp
   rw[xai e,xdu];congr 1;exact xcx.2 zO
  refine aa.rq (yq (vw F1 V1 hF1 hV1) zI hf) ?_;intro t ht;intro b31 _;have ht':=ht;obtain⟨rr,rfl,xM,Pv⟩:=ow ht;refine St.p (r:=rr) Pv ?_ (hr:=xM);refine ax.q ?_ (hr:=xM);refine aa.eq (yw (C:=X) ht') (Un.not ?_);have qi:qT K.n F1 V1 (S f)=true↔∃x:Nat,(∀a,i<a->a<K.n->x.testBit a=V1.testBit a)/\x.testBit i=false/\S f x=true:=by
   rw[qe];constructor
   ·rintro⟨x,hx,hS⟩;refine⟨x,λa ha hn=>hx a hn (by rw[fb,xal (show i<=a by omega),xal hn];rfl),?_,hS⟩;rw[hx i zO (by rw[fb,xal (xag i),xal (show i<K.n by omega)];rfl)];exact ZA i (.inl zO)
   rintro⟨x,hx,hxi,hS⟩;refine⟨x,λa hn hF=>?_,hS⟩;rw[fb,xaD,xar,xar]at hF;by_cases e:a=i
   ·subst e;rw[hxi];exact(ZA a (.inl zO)).symm
   exact hx a zO hn
  refine Br.mk (λhb=>?_) (λhb=>?_)
  ·have hno:qT K.n F1 V1 (S f)=false:=by simpa using hb
   have hz:∃q,rr=[u64 0,q]:=by
    obtain⟨n,b,hn,e,hp⟩:=ht';rw[hno]at hp;have:rr=[u64 n,.bool b]:=by
     have:=Value.agg.inj e;simpa using this
    rw[xax,xa4]at hp;have e0:n=0:=xaK hp.2;exact⟨.bool b,by rw[this,e0]⟩
   obtain⟨q,rfl⟩:=hz;refine Ld.f (v:=u64 0) (ae.xO (b:=0) zD (xag _) (aa.pre .tail ?_));refine aa.fq (KD (C:=X) (b:=1) ho zO zD hF1 hV1) ?_;rintro w H ⟨rfl,F2,V2,rfl,hF2,hV2,ag1,acO⟩;have v2:∀a,a≠i->V2.testBit a=V1.testBit a:=λa ha=>by rw[acO,xac ha]
   refine JE.mk (back F2 V2 hF2 hV2 (λa=>?_) (λa ha=>?_) λv hv FZ=>?_)
   ·rw[ag1,fb];by_cases e:a=i
    ·subst e;rw[xal (show a<K.n by omega),xal rfl,xal (xag a)];rfl
    rw[xai e,xdu]
   ·rw[v2 a zO];exact ZA a zO
   have ahp:∀x:Nat,(∀a,v<a->a<K.n->x.testBit a=V2.testBit a)↔(∀a,v<a->a<K.n->x.testBit a=V1.testBit a):=λx=>
    ⟨λq a h1 h2=>by rw[q a h1 h2,v2 a zO],λq a h1 h2=>by rw[q a h1 h2,v2 a zO]⟩
   simp only[ahp];by_cases e:v=i
   ·subst e;rw[acO,xad rfl];have:=mt qi.2 (by rw[hno];decide);simp only[this,not_false_eq_true];decide
   rw[v2 v e];exact hVb v zO FZ
  have Ru:qT K.n F1 V1 (S f)=true:=by simpa using hb
  refine JE.of .tail (back F1 V1 hF1 hV1 fb (λa ha=>ZA a zO) λv hv FZ=>?_);by_cases e:v=i
  ·subst e;rw[ZA v (.inl zO)];simp only[qi.1 Ru,not_true_eq_false];decide
  exact hVb v zO FZ
 obtain rfl:j=0:=by omega
 refine Ld.n (v:=u64 V) (aZ.mk ?_ ⟨V,hV,⟨λi hi=>ZA i (.inr hi),λv hv=>hVb v (xaN _) hv⟩,rfl⟩);rw[hX];exact .skip (.skip .right)
theorem MW(h:cf kp K S ord ah tr C):Rd zQ 148 #[ptr kp,u32 0] C (· =.tuple #[u64 0,i64 10]):=by
 refine aF λg=>xE (aa.rq (Q:=λv=>v=.tuple #[u64 0,i64 10]) (aF λg=>xC ?_) ?_);rotate_left
 ·rintro v rfl;exact Ext.two (aZ.mk (.refl _) rfl)
 refine aa.eq (tC h (.inl zD)) ?_;rw[xad rfl];exact ae.cD (Br.T (aZ.mk (.refl _) rfl))
end
end
end Go.Proofs
namespace aA
open an
variable {n:Nat} {ord:zL}
def XP(ord:zL)(L:List Fn):Nat->List Fn
 |0=>L
 |l+1=>(XP ord L l).flatMap λf=>[λx=>f (aB x (ord.getD l 0) false),λx=>f (aB x (ord.getD l 0) true)]
theorem wu(L:List Fn):∀l,(XP ord L l).length=L.length*2^l
 |0=>by simp[XP]
 |l+1=>by
  rw[XP,List.length_flatMap];simp only[xaH,xcf];rw[List.map_const',List.sum_replicate_nat,wu L l,xd4,xcJ]
theorem Sw{F:Fn->Prop}{L:List Fn}(h:∀g,F g->g∈L):∀l g,fs ord F l g->g∈XP ord L l
 |0,g,hg=>h g hg
 |l+1,g,⟨f,hf,b,e⟩=>by
  rw[XP,List.mem_flatMap];refine⟨f,Sw h l f hf,?_⟩;subst e;cases b<;>simp
def Em(ord:zL)(L:List Fn):Nat->List Fn
 |0=>[]
 |k+1=>Em ord L k++XP ord L k
theorem tO{ord:zL}(L:List Fn):∀k,(Em ord L k).length+L.length=L.length*2^k
 |0=>by simp[Em]
 |k+1=>by
  have:=tO (ord:=ord) L k;rw[Em,xaf,wu,xd4];have e:L.length*(2^k*2)=L.length*2^k+L.length*2^k:=by rw[<-xcJ,Nat.mul_two]
  omega
theorem De{L:List Fn}{g:Fn}{l:Nat}(h:g∈XP ord L l):∀k,l<k->g∈Em ord L k
 |0,hk=>by omega
 |k+1,hk=>by
  rw[Em,xao];by_cases e:l=k
  ·subst e;exact .inr h
  exact .inl (De h k zO)
theorem yK{F:Fn->Prop}{L:List Fn}(h:∀g,F g->g∈L):∀g,aG n ord F g->g∈Em ord L n:=by
 rintro g ⟨l,hl,hg,_⟩;exact De (Sw h l g hg) n hl
theorem CW:∀l:List Fn,∃l':List Fn,l'.Nodup/\l'.length<=l.length/\∀g,g∈l↔g∈l'
 | []=>⟨[],List.nodup_nil,xag _,λ_=>xcR⟩
 |f::l=>by
  obtain⟨l',h1,h2,h3⟩:=CW l;by_cases hm:f∈l'
  ·refine⟨l',h1,Nat.le_succ_of_le h2,λg=>?_⟩;rw[xam,h3];exact⟨λh=>h.elim (λe=>e▸hm) id,.inr⟩
  exact⟨f::l',xaX.2 ⟨hm,h1⟩,Nat.succ_le_succ h2,λg=>by rw[xam,xam,h3]⟩
theorem LJ{U:Fn->Prop}{l:List Fn}(h:∀g,U g->g∈l):∃k,k<=l.length/\pC U k:=by
 classical
 obtain⟨l',h1,h2,h3⟩:=CW l;refine⟨(l'.filter λg=>decide (U g)).length,xbG (xbO _ _) h2,_,h1.filter _,rfl,λg=>?_⟩;rw[xbV,xar,<-h3];exact⟨λx=>⟨h g x,x⟩,λx=>x.2⟩
theorem vI{F:Fn->Prop}{L:List Fn}{cap:Nat}(h:∀g,F g->g∈L)(hc:L.length*2^n+2<=cap):∃ku,pC (aG n ord F) ku/\ku+2<=cap:=by
 obtain⟨k,h1,h2⟩:=LJ (yK (n:=n) (ord:=ord) h);have:=tO (ord:=ord) L n;exact⟨k,h2,by omega⟩
end aA
set_option maxRecDepth 100000
namespace Go.Proofs
open Go Go.Sx Tryz
section
open aA
section
variable {sp kp mb nx:Nat} {c:Cf} {K:Kd} {S:Nat->aA.Fn} {ord ah tr:zL} {hs:List (Int×Nat)} {es:Array MapEntry} {ck:Nat} {C:Hp} {x:fZ}
theorem P7(h:iq kp nx c K S ord ah tr hs es ck C):
  Rd zQ 91 #[ptr sp,x.v] (gS sp c kp mb nx es ck C) (· =if(aJ hs x.a).isSome then eW 0 (-1) (sz c.n ord (λg=>g=bU S hs x.a)) 0 else eW 3 (-1) 0 0):=by
 refine aF λg=>OB λb1 _ b3 _=>?_;refine Ld.f (v:=i64 x.a) (aa.eq (eS h x.a) (Un.not ?_));cases hm:aJ hs x.a with
 |none=>
  refine Br.yes (aa.eq (cz _ _) (St.p (r:=[i64 3,i64 (-1),u64 0,i64 0]) (bC _ _ _ _) ?_));refine ax.q ?_;exact aZ.mk (.skip .tail) rfl
 |some r=>
  apply Br.no;have hl:=h.live _ (h.find hm);refine DR.of (.refl _) (Ld.n (v:=ptr kp) (Ld.n (v:=.map (some mb)) (Ld.f (v:=i64 x.a) (h.dL.hit (k:=x.a) (ca _) (b:=mb) (by exact .tail _ (.tail _ (.tail _ (.head _)))) hm λv e=>?_))));subst e;intro F;refine az.int (e:=110) (x:=(r:Int)) zK zK zK λbx=>?_;refine⟨.tail,?_⟩;intro F;refine aa.pre (H':=[(bx,Obj.cells (av .u32 [(r:Int)]) 110 zZ),(b3,.cells #[i64 0,i64 0,u64 0,i64 0] 37 zZ),(b1,.cells (Value.cells x.v) 35 zZ),jN sp c kp mb nx,(mb,.map es ck)]++C) (.refl _) (aa.eq (args:=#[ptr kp,.slice (some ⟨bx,0,none⟩) 1 1]) (SP h.ks hl (.head _)) (⟨.tail,?_⟩));refine Ext.two (aV.of (m:=((sz K.n ord (λg=>g=S r):Nat):Int)) (fh (kd:=.u64) ?_) ?_)
  ·have hc:=h.ks.ok.size h.ks.od;have hroom:=h.ks.ok.mid.cap;have hcap:=h.ks.rep.cap;obtain⟨k,hk,l7⟩:=LJ (U:=aG K.n ord (λg=>g=S r)) (l:=Em ord [S r] K.n) (yK zI);have hle:k<=1048576:=by
    by_cases h2:2<=r
    ·have tE:K.held S (S r):=⟨r,by show K.hold r≠0;rw[h.hold,xad h2];exact xdq (xbL.2 (xaT (f:=Prod.snd) (h.find hm))),rfl⟩;have akK:=l7.le hc λg hg=>cI (λg e=>by rw[e];exact tE) hg;omega
    have:k=0:=l7.uniq (pC.none.congr λg=>⟨False.elim,λhg=>qP (λv=>λhv=>h2 ((iB h.ks hl).2 ⟨v,hv⟩)) g hg⟩);omega
   rw[B6 l7];exact xaA hle zD
  refine aa.eq (dS _ 0 _) (St.p (r:=[i64 0,i64 (-1),u64 (sz K.n ord (λg=>g=S r)),i64 0]) (bC _ _ _ _) ?_);refine ax.q ?_;exact aZ.mk (.skip (.skip .tail)) (by rw[bA hm,<-h.n];rfl)
theorem KQ(h:iq kp nx c K S ord ah tr hs es ck C)(hno:aJ hs x.a=none\/∃r,aJ hs x.a=some r/\2<=r/\K.hold r=65535):
  Rd zQ 86 #[ptr sp,x.v] (gS sp c kp mb nx es ck C) (· =if(aJ hs x.a).isSome then eW 8 (-1) 0 0 else eW 3 (-1) 0 0):=by
 refine aF λg=>Ai λb1 _ b3 _=>?_;refine Ld.n (v:=.map (some mb)) (Ld.f (v:=i64 x.a) (h.dL.look (k:=x.a) (ca _) (b:=mb) (by exact .tail _ (.tail _ (.tail _ (.head _)))) (λr v hr hv=>?_) (λhr=>?_)))
 ·subst hv;refine Ext.two (Un.not (Br.no (Ld.n (v:=ptr kp) ?_)));rcases hno with e|⟨q,hq,h2,hf⟩
  ·rw[hr]at e;cases e
  rw[hr]at hq;cases hq;refine aa.eq (args:=#[ptr kp,u32 r]) (oU h.ks (h.live _ (h.find hr)) h2 hf) (ae.cD (Br.T (aa.eq (cz _ _) (St.p (r:=[i64 8,i64 (-1),u64 0,i64 0]) (bC _ _ _ _) ?_))));refine ax.q ?_;exact aZ.mk (.skip .tail) (by rw[hr];rfl)
 refine Ext.two (Un.not (Br.yes (aa.eq (cz _ _) (St.p (r:=[i64 3,i64 (-1),u64 0,i64 0]) (bC _ _ _ _) ?_))));refine ax.q ?_;exact aZ.mk (.skip .tail) (by rw[hr];rfl)
theorem UH(h:iq kp nx c K S ord ah tr hs es ck C)(A6:nx+1<9223372036854775808){r:Nat}(hr:aJ hs x.a=some r)(hf:2<=r->K.hold r<65535):
  Fc zQ 86 #[ptr sp,x.v] (gS sp c kp mb nx es ck C) (λv H=>v=eW 0 nx 0 0/\∃K' es' bB C',H=gS sp c kp mb (nx+1) es' bB C'/\iq kp (nx+1) c K' S ord ah [] (hs++[((nx:Int),r)]) es' bB C'):=by
 have hl:=h.live _ (h.find hr);refine aF λg=>Ai λb1 _ b3 _=>?_;refine Ld.n (v:=.map (some mb)) (Ld.f (v:=i64 x.a) (h.dL.hit (k:=x.a) (ca _) (b:=mb) (by exact .tail _ (.tail _ (.tail _ (.head _)))) hr λv hv=>?_));subst hv;refine Ext.two (Un.not (Br.no (Ld.n (v:=ptr kp) (aa.fq (args:=#[ptr kp,u32 r]) (mP h.ks hl hf) ?_))));rintro v H ⟨rfl,K',dh,hm⟩;refine ae.cD (Br.F (aa.fq (zi h.dL h.key A6 r 0) ?_));rintro v H2 ⟨rfl,es',bB,rfl,he⟩;refine St.p (r:=[i64 0,i64 nx,u64 0,i64 0]) (bC _ _ _ _) ?_;refine ax.q ?_;have hg:kO K S K' S (S r) r:=⟨hm.n,hm.cap,λs d hd=>by rw[hm.N];exact hd,λ_ _=>rfl,by rw[hm.N];exact hl,rfl,λs=>by rw[hm.hold];split<;>rfl⟩;exact aM.mk (.skip .tail) ⟨rfl,K',es',bB,H,rfl,(h.grow dh hg he).1⟩
theorem count_erase{l:List (Int×Nat)}{a:Int}{r:Nat}(fO:(l.map Prod.fst).Nodup)(hm:(a,r)∈l)(s:Nat):((jb l a).map Prod.snd).count s=(l.map Prod.snd).count s-if s=r then 1 else 0:=by
 induction l with
 |nil=>cases hm
 |cons p l ih=>
  obtain⟨k,q⟩:=p;rw[xaB,xaX]at fO;unfold jb at*;by_cases hk:k=a
  ·subst hk;have hq:q=r:=by
    rcases xam.1 hm with e|hm
    ·cases e;rfl
    exact absurd (xaT (f:=Prod.fst) hm) fO.1
   subst hq;have e:(l.filter λy=>decide ¬y.1=k)=l:=xcs.2 λy hy=>by
    have:y.1≠k:=λe=>fO.1 (by rw[<-e];exact xan.2 ⟨y,hy,rfl⟩);simpa using this
   rw[xbb,xac zI,e,xaB,xb7];by_cases hs:s=q
   ·subst hs;simp
   have:(q==s)=false:=by simpa using λe=>hs e.symm
   simp[hs,this]
  have hm':(a,r)∈l:=by
   rcases xam.1 hm with e|hm
   ·cases e;exact absurd rfl hk
   exact hm
  rw[xbb,xad (by simpa using hk),xaB,xaB,xb7,xb7,ih fO.2 hm'];by_cases hs:s=r
  ·subst hs;have:0<(l.map Prod.snd).count s:=xbL.2 (xaT (f:=Prod.snd) hm');rw[xad rfl];omega
  rw[xac hs];rfl
theorem Qf(h:iq kp nx c K S ord ah tr hs es ck C){r:Nat}(hr:aJ hs x.a=some r):
  Fc zQ 87 #[ptr sp,x.v] (gS sp c kp mb nx es ck C) (λv H=>v=eW 0 (-1) 0 0/\∃K' es' C',H=gS sp c kp mb nx es' ck C'/\iq kp nx c K' S ord ah [] (jb hs x.a) es' ck C'):=by
 have hmem:=h.find hr;have hl:=h.live _ hmem;have hlt:=h.ks.bK hl;have hh:2<=r->K.hold r≠0:=λh2=>by
  rw[h.hold,xad h2];exact xdq (xbL.2 (xaT (f:=Prod.snd) hmem))
 refine aF λg=>Ah λb1 _ b3 _=>?_;refine Ld.n (v:=.map (some mb)) (Ld.f (v:=i64 x.a) (h.dL.hit (k:=x.a) (ca _) (b:=mb) (by exact .tail _ (.tail _ (.tail _ (.head _)))) hr λv hv=>?_));subst hv;refine Ext.two (Un.not (Br.no (Ld.n (v:=ptr kp) (aa.fq (args:=#[ptr kp,u32 r]) (mV h.ks zO hh) ?_))));rintro v H ⟨rfl,K',dh,hm⟩;refine DR.of (.refl _) (Ld.n (v:=.map (some mb)) (Ld.f (v:=i64 x.a) λF=>?_));refine aE.del (k:=x.a) (ca _) h.dL (.tail _ (.tail _ (.tail _ (.head _)))) λes' he=>⟨_,.tail (.tail (.tail (.head _))),?_⟩;refine aa.eq (dS 0 0 _) (St.p (r:=[i64 0,i64 (-1),u64 0,i64 0]) (bC _ _ _ _) ?_);refine ax.q ?_;have hsub:∀p,p∈jb hs x.a->p∈hs:=λp hp=>(xbV.1 hp).1;have XA:∀s,K'.hold s=if 2<=s then((jb hs x.a).map Prod.snd).count s else 0:=λs=>by
  rw[hm.hold,h.hold,count_erase h.dL.nd hmem];by_cases h2:2<=s
  ·rw[xad h2,xad h2];by_cases e:s=r
   ·rw[xad ⟨e,by omega⟩,xad e]
   rw[xac (λh=>e h.1),xac e];rfl
  rw[xac h2,xac h2,xac (λh=>h2 zO)]
 refine aM.mk (.skip .tail) ⟨rfl,K',es',H,rfl,⟨dh,hm.n.trans h.n,hm.cap.trans h.cap,he,λp hp=>?_,XA,λp hp=>h.lt p (hsub p hp)⟩⟩;by_cases h2:2<=p.2
 ·refine .inr (dh.ok.mid.held p.2 ?_);rw[XA,xad h2];exact xdq (xbL.2 (xaT (f:=Prod.snd) hp))
 exact .inl zO
theorem Qg(h:iq kp nx c K S ord ah tr hs es ck C)(hr:aJ hs x.a=none):
  Rd zQ 87 #[ptr sp,x.v] (gS sp c kp mb nx es ck C) (· =eW 3 (-1) 0 0):=by
 refine aF λg=>Ah λb1 _ b3 _=>?_;refine Ld.n (v:=.map (some mb)) (Ld.f (v:=i64 x.a) (h.dL.bM (k:=x.a) (ca _) (b:=mb) (by exact .tail _ (.tail _ (.tail _ (.head _)))) hr ?_));refine Ext.two (Un.not (Br.yes (aa.eq (cz _ _) (St.p (r:=[i64 3,i64 (-1),u64 0,i64 0]) (bC _ _ _ _) ?_))));refine ax.q ?_;exact aZ.mk (.skip .tail) rfl
theorem Ck{C0:Hp}{e:Int}(he:e≠0)(hex:Rd zQ 151 #[ptr kp,i64 x.a] C0 (· =i64 e)):
  Rd zQ 96 #[ptr sp,x.v] (gS sp c kp mb nx es ck C0) (· =eW e (-1) 0 0):=by
 refine aF λg=>Af λb1 _ b3 _=>?_;refine DR.of (.refl _) (Ld.n (v:=ptr kp) (Ld.f (v:=i64 x.a) λF=>?_));refine aa.eq (args:=#[ptr kp,i64 x.a]) hex λF=>?_;refine aa.eq (dS 0 e _) λF=>?_;rw[xac he];refine St.p (r:=[i64 e,i64 (-1),u64 0,i64 0]) (bC _ _ _ _) ?_;refine ax.q ?_;exact aZ.mk (.skip .tail) rfl
theorem Qh{C0:Hp}{Q:Hp->Prop}(hex:Fc zQ 151 #[ptr kp,i64 x.a] C0 (λv H=>v=i64 0/\Q H)):
  Fc zQ 96 #[ptr sp,x.v] (gS sp c kp mb nx es ck C0) (λv H=>v=eW 0 (-1) 0 0/\∃C',H=gS sp c kp mb nx es ck C'/\Q C'):=by
 refine aF λg=>Af λb1 _ b3 _=>?_;refine DR.of (R:=(b3,.cells #[i64 0,i64 0,u64 0,i64 0] 37 zZ)::(b1,.cells (Value.cells x.v) 35 zZ)::gS sp c kp mb nx es ck C0) (.refl _) (Ld.n (v:=ptr kp) (Ld.f (v:=i64 x.a) λF=>?_));refine aa.fq (args:=#[ptr kp,i64 x.a]) hex ?_;rintro v C' ⟨rfl,hQ⟩;intro F;refine aa.eq (dS 0 0 _) λF=>?_;refine St.p (r:=[i64 0,i64 (-1),u64 0,i64 0]) (bC _ _ _ _) ?_;refine ax.q ?_;exact aM.mk (.skip .tail) ⟨rfl,C',rfl,hQ⟩
theorem AB{C0:Hp}(ha:x.a<0\/6<x.a):Rd zQ 97 #[ptr sp,x.v] (gS sp c kp mb nx es ck C0) (· =eW 1 (-1) 0 0):=by
 refine aF λg=>Ae λb1 _ b3 _=>?_;refine Ld.f (v:=i64 x.a) (ae.lss (cm.or (decide (6<x.a)) (λ_=>Ld.f (v:=i64 x.a) (ae.gtr ⟨rfl,rfl⟩)) rfl λ_=>?_));rw[<-xa8,xal ha];refine Br.yes (aa.eq (cz _ _) (St.p (r:=[i64 1,i64 (-1),u64 0,i64 0]) (bC _ _ _ _) ?_));refine ax.q ?_;exact aZ.mk (.skip .tail) rfl
theorem nG{C0:Hp}{s:Nat}(hs:x.a=s)(YT:s<=6){Q:Int->Nat->Hp->Prop}(hrun:Fc zQ 85 #[ptr kp,.int .u8 (s:Int),i64 x.b] C0 (λv H=>∃(a b d:Int) (t:Bool) (e:Int),v=.tuple #[ua a b d t,i64 e]/\∃n,Q e n H/\Rd zQ 140 #[ptr kp] H (· =i64 ((n:Nat):Int))/\n<18446744073709551616)):
  Fc zQ 97 #[ptr sp,x.v] (gS sp c kp mb nx es ck C0) (λv H=>∃e n C',v=(if e=0 then eW 0 (-1) n 0 else eW e (-1) 0 0)/\H=gS sp c kp mb nx es ck C'/\Q e n C'):=by
 refine aF λg=>Ae λb1 _ b3 _=>?_;refine Ld.f (v:=i64 x.a) ?_;rw[hs];refine ae.lss (cm.or (decide (6<(s:Int))) (λ_=>Ld.f (v:=i64 x.a) (by rw[hs];exact ae.gtr ⟨rfl,rfl⟩)) rfl λ_=>?_);rw[<-xa8,xai zO];refine Br.no (DR.of (R:=[(b3,.cells #[i64 0,i64 0,u64 0,i64 0] 37 zZ),(b1,.cells (Value.cells x.v) 35 zZ),jN sp c kp mb nx]) (.cons (.cons (.cons λ_ _ h=>h.bt))) (Ld.n (v:=ptr kp) (Ld.f (v:=i64 x.a) ?_)));rw[hs];refine aV.q (Ld.f (v:=i64 x.b) λF=>?_);refine aa.fq (args:=#[ptr kp,.int .u8 (s:Int),i64 x.b]) hrun ?_;rintro v H ⟨a,b,d,t,e,rfl,n,hQ,fN,hn⟩;refine⟨.cons (.cons (.cons λ_ _ h=>h.bt)),?_⟩;refine Ext.two λb31 _=>λF=>?_;refine St.p (r:=[i64 a,i64 b,i64 d,.bool t]) (oH _ _ _ _) (⟨.skip (.cons (.cons (.cons λ_ _ h=>h.bt))),?_⟩);refine Ld.n (v:=ptr kp) (aa.eq (args:=#[ptr kp]) fN (aV.q (a:=n) ?_ (xaO hn zD)));refine aa.eq (dS n e _) ?_;by_cases he:e=0
 ·rw[xad he];refine St.p (r:=[i64 0,i64 (-1),u64 n,i64 0]) (bC _ _ _ _) ?_;refine ax.q ?_;exact aM.mk (.skip (.skip .tail)) ⟨e,n,H,by rw[xad he],rfl,hQ⟩
 rw[xac he];refine St.p (r:=[i64 e,i64 (-1),u64 0,i64 0]) (bC _ _ _ _) ?_;refine ax.q ?_;exact aM.mk (.skip (.skip .tail)) ⟨e,n,H,by rw[xac he],rfl,hQ⟩
end
end
section
open aA
section
variable {sp nx kp:Nat} {c:Cf} {F:FS} {ord tr:zL} {H C:Hp} {x:fZ} {K:Kd} {S:Nat->aA.Fn}
theorem Tx{S:Nat->aA.Fn}{hs:List (Int×Nat)}(a:Int):jU S (jb hs a)=jb (jU S hs) a:=by
 unfold jU jb;rw[List.filter_map];rfl
theorem UK(h:kj sp c nx F ord tr H):Rd zQ 89 #[ptr sp,x.v] H (λw=>w=if dg F x.a&&dg F x.b then eW 0 (-1) (@decide (fF F x.a=fF F x.b) (Classical.propDecidable _)).toNat 0 else eW 3 (-1) 0 0):=by
 obtain⟨kp,mb,K,S,ah,hs,es,ck,C,rfl,h,rfl⟩:=h;rw[eM,eM,mU];exact P9 h
theorem Vi(h:kj sp c nx F ord tr H):Rd zQ 92 #[ptr sp,x.v] H (· =eW 0 (-1) (yb c.n F ord) 0):=by
 obtain⟨kp,mb,K,S,ah,hs,es,ck,C,rfl,h,rfl⟩:=h;rw[<-h.yb];exact Qd h
theorem UD(h:kj sp c nx F ord tr H):Rd zQ 91 #[ptr sp,x.v] H (· =if dg F x.a then eW 0 (-1) (sz c.n ord (λg=>g=fF F x.a)) 0 else eW 3 (-1) 0 0):=by
 obtain⟨kp,mb,K,S,ah,hs,es,ck,C,rfl,h,rfl⟩:=h;rw[eM,mU];exact P7 h
theorem QY(h:kj sp c nx F ord tr H):Rd zQ 95 #[ptr sp,x.v] H (λw=>((x.a<0\/(c.n:Int)<=x.a)/\w=eW 2 (-1) 0 0)\/((0<=x.a/\x.a<c.n)/\∃p,p<c.n/\ord.getD p 0=x.a.toNat/\w=eW 0 (-1) p 0)):=by
 obtain⟨kp,mb,K,S,ah,hs,es,ck,C,rfl,h,rfl⟩:=h;by_cases hv:x.a<0\/(c.n:Int)<=x.a
 ·exact(MC h hv).mono λv H ⟨h1,h2⟩=>⟨h1,.inl ⟨hv,h2⟩⟩
 obtain⟨v,hxv⟩:∃v:Nat,x.a=v:=⟨x.a.toNat,by omega⟩;refine(MD h hxv zO).mono λw H ⟨h1,p,hp,ho,h2⟩=>⟨h1,.inr ⟨by omega,p,hp,?_,h2⟩⟩;rw[hxv,xbh];exact ho
theorem E6(h:kj sp c nx F ord tr H):Rd zQ 94 #[ptr sp,x.v] H (λw=>(dg F x.a=false/\w=eW 3 (-1) 0 0)\/(dg F x.a=true/\∃m,GQ (fF F x.a) m/\w=eW 0 (-1) m 0)):=by
 obtain⟨kp,mb,K,S,ah,hs,es,ck,C,rfl,h,rfl⟩:=h;rw[eM,mU];refine(Cb h (x:=x) (P:=λn e=>e=0/\GQ (bU S hs x.a) n) λr hr=>?_).mono λv H ⟨e,hv⟩=>⟨e,?_⟩
 ·rw[bA hr];exact(DZ h.ks (h.live _ (h.find hr))).mono λv H ⟨e,m,hm,hv⟩=>⟨e,m,0,⟨rfl,hm⟩,hv⟩
 rcases hv with h1|⟨h1,n,e,⟨rfl,hn⟩,h2⟩
 ·exact .inl h1
 exact .inr ⟨h1,n,hn,h2⟩
theorem ZP(h:kj sp c nx F ord tr H)(A6:nx+1<9223372036854775808):Fc zQ 86 #[ptr sp,x.v] H (λw H'=>
  (dg F x.a=false/\w=eW 3 (-1) 0 0/\H'=H)\/(dg F x.a=true/\Ev (pz F) (fF F x.a)/\w=eW 8 (-1) 0 0/\H'=H)\/
  (dg F x.a=true/\¬Ev (pz F) (fF F x.a)/\w=eW 0 nx 0 0/\kj sp c (nx+1) (F++[((nx:Int),fF F x.a)]) ord [] H')):=by
 obtain⟨kp,mb,K,S,ah,hs,es,ck,C,rfl,h,rfl⟩:=h;rw[eM,mU,rP];cases hm:aJ hs x.a with
 |none=>
  refine Fc.mono (KQ h (x:=x) (.inl hm)) λv H ⟨h1,h2⟩=>.inl ⟨rfl,?_,h1⟩;rw[hm]at h2;exact h2
 |some r=>
  have hl:live K.N r:=h.live _ (h.find hm);have hle:=h.ks.gi r;rw[bA hm];by_cases hf:2<=r/\K.hold r=65535
  ·refine Fc.mono (KQ h (x:=x) (.inr ⟨r,hm,hf.1,hf.2⟩)) λv H ⟨h1,h2⟩=>.inr (.inl ⟨rfl,h.full hf.2 hf.1,?_,h1⟩);rw[hm]at h2;exact h2
  refine(UH h A6 hm (λh2=>by omega)).mono ?_;rintro v H ⟨rfl,K',es',bB,C',rfl,h'⟩;refine .inr (.inr ⟨rfl,?_,rfl,kp,mb,K',S,ah,_,es',bB,C',rfl,h',by unfold jU;rw[xaJ];rfl⟩);rintro⟨hv,hc⟩;have h2:=(iB h.ks hl).2 hv;rw[<-h.count hl h2]at hc;omega
theorem Lx(h:kj sp c nx F ord tr H):Fc zQ 87 #[ptr sp,x.v] H (λw H'=>(dg F x.a=false/\w=eW 3 (-1) 0 0/\H'=H)\/(dg F x.a=true/\w=eW 0 (-1) 0 0/\kj sp c nx (jb F x.a) ord [] H')):=by
 obtain⟨kp,mb,K,S,ah,hs,es,ck,C,rfl,h,rfl⟩:=h;rw[eM];cases hm:aJ hs x.a with
 |none=>exact Fc.mono (Qg h (x:=x) hm) λv H ⟨h1,h2⟩=>.inl ⟨rfl,h2,h1⟩
 |some r=>
  refine(Qf h hm).mono ?_;rintro v H ⟨rfl,K',es',C',rfl,h'⟩;exact .inr ⟨rfl,rfl,kp,mb,K',S,ah,_,es',ck,C',rfl,h',Tx _⟩
noncomputable def Wk(n:Nat)(F:FS)(ord:zL)(l:Nat):Nat:=BE n ord l (HF (pz F))
theorem Wr(h:kj sp c nx F ord tr H)(eG:tr.length<17592186044416):Fc zQ 96 #[ptr sp,x.v] H (λw H'=>
  ((x.a<0\/(c.n:Int)<=x.a+1)/\w=eW 1 (-1) 0 0/\H'=H)\/(∃l:Nat,x.a=l/\l+1<c.n/\¬Wk c.n F ord l+2<=c.cap/\w=eW 9 (-1) 0 0/\H'=H)\/
  (∃l:Nat,x.a=l/\l+1<c.n/\Wk c.n F ord l+2<=c.cap/\w=eW 0 (-1) 0 0/\kj sp c nx F (fM ord l) (tr++[l]) H')):=by
 obtain⟨kp,mb,K,S,ah,hs,es,ck,C,rfl,h,rfl⟩:=h;by_cases ha:x.a<0\/(c.n:Int)<=x.a+1
 ·exact Fc.mono (Ck (x:=x) (e:=1) zD (SD h.ks (l:=x.a) (by rw[h.n];omega))) λv H ⟨h1,h2⟩=>.inl ⟨ha,h2,h1⟩
 obtain⟨l,hl⟩:∃l:Nat,x.a=l:=⟨x.a.toNat,by omega⟩;have BJ:l+1<K.n:=by rw[h.n];omega
 have e:Wk c.n (jU S hs) ord l=BE K.n ord l (K.held S):=by unfold Wk;rw[h.held,rP,h.n]
 by_cases hf:jc K S ord l
 ·refine(Qh (x:=x) (Q:=λC'=>At kp K S (fM ord l) (tr++[l]) C') (by rw[hl];exact uK h.ks.bc BJ eG hf)).mono ?_;rintro v H ⟨rfl,C',rfl,K',S',bW,dh,hk⟩;obtain⟨h',hS⟩:=h.kept dh hk;exact .inr (.inr ⟨l,hl,by omega,by rw[e,<-h.cap];exact hf,rfl,kp,mb,K',S',bW,hs,es,ck,C',rfl,h',mi hS⟩)
 refine Fc.mono (Ck (x:=x) (e:=9) zD (by rw[hl];exact mY h.ks.bc BJ eG hf)) λv H ⟨h1,h2⟩=>.inr (.inl ⟨l,hl,by omega,?_,h2,h1⟩);rw[e,<-h.cap];exact hf
theorem vk(h:kj sp c nx F ord tr H)(ha:x.a<0\/6<x.a):Rd zQ 97 #[ptr sp,x.v] H (· =eW 1 (-1) 0 0):=by
 obtain⟨kp,mb,K,S,ah,hs,es,ck,C,rfl,h,rfl⟩:=h;exact AB ha
theorem ZW(h:At kp K S ord tr C){s:Nat}{gr:Int}(hb:6<s\/gr<100\/1000<gr):Rd zQ 134 #[ptr kp,.int .u8 (s:Int),i64 gr] C (· =i64 1):=by
 refine aF λg=>xH (ae.aH (Br.no (ae.nh (b:=6) (cm.or (a:=decide (6<s)) (decide (gr<100)) (λ_=>ae.lss ⟨rfl,rfl⟩) rfl λ_=>?_))));refine cm.or (a:=decide (6<s)||decide (gr<100)) (decide (1000<gr)) (λ_=>ae.gtr ⟨rfl,rfl⟩) rfl λ_=>?_;rw[<-xa8,<-xa8,xal zO];exact Br.yes (aZ.mk (.refl _) rfl)
theorem Qt(h:At kp K S ord tr C){s:Nat}{gr:Int}(hb:6<s\/gr<100\/1000<gr):Rd zQ 85 #[ptr kp,.int .u8 (s:Int),i64 gr] C (· =.tuple #[ua 0 0 0 false,i64 1]):=by
 refine aF λg=>iI λb1 _=>?_;refine aa.eq (ZW h hb) (ae.cD (Br.T (Build.mk (cs:=[iv 0,iv 0,iv 0,.bool false]) zK (St.q ?_))));refine ax.q ?_;exact aZ.mk .tail rfl
theorem vj(h:kj sp c nx F ord tr H){s:Nat}(hs:x.a=s)(YT:s<=6)(hb:x.b<100\/1000<x.b):Fc zQ 97 #[ptr sp,x.v] H (λw H'=>w=eW 1 (-1) 0 0/\H'=H):=by
 obtain⟨kp,mb,K,S,ah,hs',es,ck,C,rfl,h,rfl⟩:=h;have hle:=iF h.ks.bc;refine(nG (x:=x) hs YT (Q:=λe _ H=>e=1/\H=C) (Fc.mono (Qt h.ks.bc (s:=s) (.inr hb)) λv H ⟨h1,h2⟩=>?_)).mono ?_
 ·subst h1;exact⟨_,_,_,_,_,h2,_,⟨rfl,rfl⟩,cF h.ks.bc,by omega⟩
 rintro v H ⟨e,n,C',rfl,rfl,rfl,rfl⟩;exact⟨rfl,rfl⟩
end
section
variable {sp nx n cap:Nat} {c:Cf} {F:FS} {ord tr o:zL} {H:Hp} {x:fZ}
theorem CE(h:((pz F).length+3)*2^n+2<=cap):¬qo n cap (pz F) (fF F) x o 9:=by
 have room:∀(L2:List aA.Fn) (P:aA.Fn->Prop),L2.length<=3->(∀g,P g->HF (pz F) g\/g∈L2)->Fits (aG n o P) cap:=λL2 P hl hP=>by
  refine vI (L:=pz F++L2) (λg hg=>?_) ?_
  ·rcases hP g hg with h|h
   ·exact xae _ h.1
   exact xab _ h
  rw[xaf];exact xbG (Nat.add_le_add_right (xaV _ zO) 2) h
 unfold qo;split
 ·rintro(h|⟨_,i,_,_,hf⟩|⟨h,_⟩)
  ·cases h
  ·refine hf (room [uc true (bitsOf x.x i) (fF F x.a),qf true i (uc true (bitsOf x.x i) (fF F x.a))] _ zI λg hg=>?_);rcases hg with(h|⟨_,h⟩)|h
   ·exact .inl h
   ·exact .inr (by simp[h])
   exact .inr (by simp[h])
  cases h
 split
 ·rintro(h|⟨_,i,_,_,hf⟩|⟨h,_⟩)
  ·cases h
  ·refine hf (room [uc false (bitsOf x.x i) (fF F x.a),qf false i (uc false (bitsOf x.x i) (fF F x.a))] _ zI λg hg=>?_);rcases hg with(h|⟨_,h⟩)|h
   ·exact .inl h
   ·exact .inr (by simp[h])
   exact .inr (by simp[h])
  cases h
 split
 ·rintro(h|⟨_,hf|hf|hf⟩|⟨h,_⟩)
  ·cases h
  ·exact hf (room [_] _ zI λg hg=>hg.imp id λh=>by simpa using h)
  ·refine hf (room [λy=>fF F x.a (an.aB y x.b.toNat false),λy=>fF F x.a (an.aB y x.b.toNat true)] _ zI λg hg=>?_);rcases hg with(h|h)|h
   ·exact .inl h
   ·exact .inr (by simp[h])
   exact .inr (by simp[h])
  ·refine hf (room [λy=>fF F x.a (an.aB y x.b.toNat false),λy=>fF F x.a (an.aB y x.b.toNat true),dN n (fF F) x] _ zI λg hg=>?_);rcases hg with((h|h)|h)|h
   ·exact .inl h
   ·exact .inr (by simp[h])
   ·exact .inr (by simp[h])
   exact .inr (by simp[h])
  cases h
 rintro(⟨h,_⟩|⟨_,hf⟩|⟨h,_⟩)
 ·cases h
 ·exact hf (room [_] _ zI λg hg=>hg.imp id λh=>by simpa using h)
 cases h
theorem SX(L:List aA.Fn)(g:aA.Fn):ye L g<=L.length:=List.countP_le_length
theorem CG(h:qo n cap (pz F) (fF F) x o 8):∃g,65533<=ye (pz F) g:=by
 unfold qo at h;split at h
 ·rcases h with h|⟨h,_⟩|⟨_,g,hg⟩
  ·cases h
  ·cases h
  exact⟨g,by omega⟩
 split at h
 ·rcases h with h|⟨h,_⟩|⟨_,g,hg⟩
  ·cases h
  ·cases h
  exact⟨g,by omega⟩
 split at h
 ·rcases h with h|⟨h,_⟩|⟨_,g,hg⟩
  ·cases h
  ·cases h
  exact⟨g,by omega⟩
 rcases h with⟨h,_⟩|⟨h,_⟩|⟨_,h⟩
 ·cases h
 ·cases h
 exact⟨_,xbG zD h.2⟩
theorem U0(h:(pz F).length<65533):¬qo n cap (pz F) (fF F) x o 8:=λht=>by
 obtain⟨g,hg⟩:=CG ht;have:=SX (pz F) g;omega
theorem Nc{w f:Nat}(h:kj sp c nx F ord tr H)(hc:c.Ok)(A6:nx+1<9223372036854775808)(hx:x.x<18446744073709551616)(hm:dA x.op=some (w,f))(hf:j3 f x.op w)(fP:aU zQ f=true)(hw:w<256)(hl:gD c.n F w x=0)
 (hr:(F.length+3)*2^c.n+2<=c.cap)(h8:F.length<65533):
  Fc zQ 16 #[ptr sp,x.v] H (λv H'=>v=eW 0 nx 0 1/\kj sp c (nx+1) (F++[((nx:Int),dN c.n (fF F) x)]) ord [] H'):=by
 have hlen:(pz F).length=F.length:=by unfold pz;rw[xaC]
 have no9:∀o,¬qo c.n c.cap (pz F) (fF F) x o 9:=λo=>CE (by rw[hlen];exact hr);refine uZ (λv H h=>?_) (λw' f' hm'=>?_) (λf hn=>by rw[hm]at hn;cases hn) (λhn=>by rw[hm]at hn;cases hn)
 ·obtain⟨rfl,_⟩:=h;exact⟨_,_,_,_,rfl⟩
 rw[hm]at hm';cases hm';refine(Lg (R:=λ_ _=>False) h hc A6 hx hf fP hw hl λhT _ _=>absurd hT (no9 _)).mono ?_;rintro v H' ⟨t,o,cV,ht,hT,hq⟩;have h1:t=1/\o=ord:=by
  cases hT with
  |one=>exact⟨rfl,rfl⟩
  |more h h9 _=>exact absurd h9 (no9 _)
 obtain⟨rfl,rfl⟩:=h1;rcases hq with⟨rfl,h',_⟩|⟨e,he,_,_,Sh,_⟩
 ·exact⟨rfl,h'⟩
 rcases he with rfl|rfl
 ·exact absurd Sh (U0 (by rw[hlen];exact h8))
 exact absurd Sh (no9 _)
theorem wS{f:Nat}{Q:zV->Hp->Prop}(hm:dA x.op=none)(ha:m0 x.op=some f)(hQ:∀v H,Q v H->aad v)(h:Fc zQ f #[ptr sp,x.v] H Q):Fc zQ 16 #[ptr sp,x.v] H Q:=
 uZ hQ (λw f hn=>by rw[hm]at hn;cases hn) (λf' _ ej _=>by rw[ha]at ej;cases ej;exact h) (λ_ hn=>by rw[ha]at hn;cases hn)
end
def g0:aA.Fn:=λy=>y.testBit 0
def g1:aA.Fn:=λy=>y.testBit 1
def g2:aA.Fn:=λy=>y.testBit 0&&y.testBit 1
def g3:aA.Fn:=λy=> !g2 y
def g4:aA.Fn:=λ_=>decide ((0:Int)=1)
theorem Wl{n:Nat}{F:FS}{o:zL}:yb n F o<=F.length*2^n:=by
 have hlen:(pz F).length=F.length:=by unfold pz;rw[xaC]
 obtain⟨k,hk,hc⟩:=vI (n:=n) (ord:=o) (F:=HF (pz F)) (L:=pz F) (cap:=(pz F).length*2^n+2) (λg hg=>hg.1) (xag _);unfold yb;rw[B6 hk];rw[hlen]at hc;omega
section
variable {sp nx kp:Nat} {c:Cf} {F F':FS} {ord tr:zL} {H C:Hp} {x:fZ} {K:Kd} {S:Nat->aA.Fn}
theorem Q2(h:kj sp c nx F ord tr H):Rd zQ 93 #[ptr sp,x.v] H (λw=>(dg F x.a=false/\w=eW 3 (-1) 0 0)\/(dg F x.a=true/\fF F x.a=(λ_=>false)/\w=eW 10 (-1) 0 0)\/
  (dg F x.a=true/\fF F x.a≠(λ_=>false)/\∃V,V<18446744073709551616/\XY c.n (fF F x.a) V/\w=eW 0 (-1) V 0)):=by
 obtain⟨kp,mb,K,S,ah,hs,es,ck,C,rfl,h,rfl⟩:=h;rw[eM,mU];refine(ME h (x:=x) (P:=λn e=>(bU S hs x.a=(λ_=>false)/\n=0/\e=10)\/(bU S hs x.a≠(λ_=>false)/\e=0/\n<18446744073709551616/\XY c.n (bU S hs x.a) n)) λr hr=>?_).mono λv H ⟨e,hv⟩=>⟨e,?_⟩
 ·rw[bA hr];have hl:=h.live _ (h.find hr);have abA:S r=(λ_=>false)↔r=0:=by
   rw[<-show S 0=λ_=>false from funext h.ks.ok.mid.int.zero];exact h.same hl (.inl zD)
  by_cases h0:r=0
  ·subst h0;exact(MW h.ks).mono λv H ⟨e,hv⟩=>⟨e,0,10,.inl ⟨abA.2 rfl,rfl,rfl⟩,hv⟩
  refine(MV h.ks hl h0).mono λv H ⟨e,V,hV,hL,hv⟩=>⟨e,V,0,.inr ⟨λe=>h0 (abA.1 e),rfl,hV,by rw[<-h.n];exact hL⟩,hv⟩
 rcases hv with h1|⟨h1,n,e,⟨a,rfl,rfl⟩|⟨a,rfl,hV,hL⟩,h2⟩
 ·exact .inl h1
 ·exact .inr (.inl ⟨h1,a,h2⟩)
 exact .inr (.inr ⟨h1,a,n,hV,hL,h2⟩)
theorem Qo{b:Nat}{T:zL->Nat->Prop}(hc:c.Ok)(hb:b<16000000000000):TD c nx F T (λ_ _=>True) b:=by
 intro kp K S o ah tr hs' es ck C hT h hF eG;refine(KT h.ks.bc h.ks.perm hc.str hc.gr (λe=>by rw[h.n];exact hc.ex e) zO).mono ?_;rintro v H ⟨ls,d,t,rfl,hA,hS,_⟩;exact⟨ls,_,_,rfl,trivial,hA,hS.len⟩
theorem Fl(h:kj sp c nx F ord tr H)(eG:tr.length<16000000000000):Fc zQ 97 #[ptr sp,x.v] H (λw H'=>∃(e:Int) (n:Nat) (o cV:zL),w=eW e (-1) n 0/\(e≠9/\e≠8)/\(e≠0->n=0)/\kj sp c nx F o cV H'/\cV.length<=tr.length+66*yb c.n F ord):=by
 by_cases ha:x.a<0\/6<x.a
 ·exact Fc.mono (vk h ha) λv H ⟨h1,h2⟩=>⟨1,0,ord,tr,h2,by decide,λ_=>rfl,by rw[h1];exact h,by omega⟩
 obtain⟨s,hs⟩:∃s:Nat,x.a=s:=⟨x.a.toNat,by omega⟩;have YT:s<=6:=by omega
 by_cases hb:x.b<100\/1000<x.b
 ·exact(vj h hs YT hb).mono λv H ⟨h1,h2⟩=>⟨1,0,ord,tr,h1,by decide,λ_=>rfl,by rw[h2];exact h,by omega⟩
 obtain⟨g,hg⟩:∃g:Nat,x.b=g:=⟨x.b.toNat,by omega⟩;obtain⟨kp,mb,K,S,ah,hs',es,ck,C,rfl,h,rfl⟩:=h;have hle:=λ(o:zL) (tr:zL) (C:Hp) (h:At kp K S o tr C)=>iF h;rw[<-h.yb];have keep:∀(o cV:zL) (C':Hp),At kp K S o cV C'->kj sp c nx (jU S hs') o cV (gS sp c kp mb nx es ck C'):=λo cV C' hA=>by
  obtain⟨K',S',bW,dh,hk⟩:=hA;obtain⟨h',hS⟩:=h.kept dh hk;exact⟨kp,mb,K',S',bW,hs',es,ck,C',rfl,h',mi hS⟩
 by_cases hx:s=6/\12<c.n
 ·obtain⟨rfl,hn⟩:=hx;have hv:Rd zQ 85 #[ptr kp,.int .u8 6,i64 x.b] C (· =.tuple #[ua 0 0 0 false,iv 6]):=by rw[hg];exact Qp h.ks.bc (gr:=g) zO (by rw[h.n];exact hn)
  refine(nG (x:=x) hs YT (Q:=λe _ H=>e=6/\H=C) (Fc.mono hv λv H ⟨h1,h2⟩=>?_)).mono ?_
  ·subst h1;exact⟨_,_,_,_,_,h2,_,⟨rfl,rfl⟩,cF h.ks.bc,by have:=hle _ _ _ h.ks.bc;omega⟩
  rintro v H ⟨e,n,C',rfl,rfl,rfl,rfl⟩;exact⟨6,0,ord,tr,rfl,by decide,λ_=>rfl,keep _ _ _ h.ks.bc,by omega⟩
 refine(nG (x:=x) hs YT (Q:=λe _ H=>e=0/\∃ls,At kp K S (ay ord ls) (tr++ls) H/\ls.length+66*cG K S (ay ord ls)<=66*cG K S ord) (Fc.mono (by rw[hg];exact KT h.ks.bc h.ks.perm YT (gr:=g) zO (λe=>by rw[h.n];omega) zO) ?_)).mono ?_
 ·rintro v H ⟨ls,d,t,rfl,hA,hS,_⟩;exact⟨_,_,_,_,_,rfl,_,⟨rfl,ls,hA,hS.len⟩,cF hA,by have:=hle _ _ _ hA;omega⟩
 rintro v H ⟨e,n,C',rfl,rfl,rfl,ls,hA,hlen⟩;exact⟨0,n,_,_,rfl,by decide,λh=>absurd rfl h,keep _ _ _ hA,by rw[xaf];omega⟩
def adU(n:Nat)(F:FS)(x:fZ)(e:Int)(N:Nat):Prop:=
 (x.op=14\/x.op=15\/x.op=16\/x.op=19\/x.op=20)->
 if(dg F x.a&& (decide (x.op≠15)||dg F x.b))=true then
  (x.op=14->e=0/\N=(fF F x.a x.x).toNat)/\(x.op=15->e=0/\N=(@decide (fF F x.a=fF F x.b) (Classical.propDecidable _)).toNat)/\(x.op=16->e=0/\N=sat n (fF F x.a)%Bx)/\
  (x.op=19->(fF F x.a=(λ_=>false)/\e=10/\N=0)\/(fF F x.a≠(λ_=>false)/\e=0/\XY n (fF F x.a) N))/\(x.op=20->e=0/\GQ (fF F x.a) N)
 else e=3/\N=0
def Want(n nx:Nat)(F:FS)(x:fZ)(e h:Int)(N:Nat)(F':FS)(kD:Nat):Prop:=
 match dA x.op with
 |some (w,_)=>if gD n F w x=0 then e=0/\h=nx/\N=0/\F'=F++[((nx:Int),dN n (fF F) x)]/\kD=nx+1 else e=gD n F w x/\h= -1/\N=0/\F'=F/\kD=nx
 |none=>
  if x.op=12 then if dg F x.a=true then e=0/\h=nx/\N=0/\F'=F++[((nx:Int),fF F x.a)]/\kD=nx+1 else e=3/\h= -1/\N=0/\F'=F/\kD=nx
  else if x.op=13 then if dg F x.a=true then e=0/\h= -1/\N=0/\F'=jb F x.a/\kD=nx else e=3/\h= -1/\N=0/\F'=F/\kD=nx
  else h= -1/\F'=F/\kD=nx/\adU n F x e N
def Small(n rs nx:Nat)(F:FS)(x:fZ)(r:Rp)(F':FS)(kD:Nat):Prop:=
 (r.e=9/\r.h= -1/\F'=F/\kD=nx/\((x.op=22/\r.t=0)\/((1<=x.op/\x.op<=11)/\r.t=(rs:Int)+1)))\/
 (r.e≠9/\r.e≠8/\Want n nx F x r.e r.h r.n F' kD/\(if 1<=x.op/\x.op<=11 then(r.e=0->1<=r.t/\r.t<=(rs:Int)+1)/\(r.e≠0->r.t=0)else r.t=0))
def TA(sp:Nat)(c:Cf)(nx:Nat)(F:FS)(ord tr:zL)(x:fZ)(v:zV)(H:Hp):Prop:=
 ∃(r:Rp) (F':FS) (kD:Nat) (o cV:zL),v=r.v/\kj sp c kD F' o cV H/\cV.length<=tr.length+66*yb c.n F ord+1/\Small c.n c.rs nx F x r F' kD/\((F.length+3)*2^c.n+2<=c.cap->x.op≠22->r.e≠9)
def Full(rs nx:Nat)(F:FS)(x:fZ)(r:Rp)(F':FS)(kD:Nat):Prop:=
 r.e=8/\r.h= -1/\F'=F/\kD=nx/\(∃g,65533<=ye (pz F) g)/\((x.op=12/\r.t=0)\/((1<=x.op/\x.op<=11)/\1<=r.t/\r.t<=(rs:Int)+1))
def ik(sp:Nat)(c:Cf)(nx:Nat)(F:FS)(ord tr:zL)(x:fZ)(v:zV)(H:Hp):Prop:=
 ∃(r:Rp) (F':FS) (kD:Nat) (o cV:zL),v=r.v/\kj sp c kD F' o cV H/\cV.length<=tr.length+66*yb c.n F ord+1/\(Small c.n c.rs nx F x r F' kD\/Full c.rs nx F x r F' kD)/\((F.length+3)*2^c.n+2<=c.cap->x.op≠22->r.e≠9)/\(r.e≠0\/x.op<=13->r.n=0)
theorem ik.small{v:zV}{H':Hp}(h:ik sp c nx F ord tr x v H')(h8:F.length<65533):TA sp c nx F ord tr x v H':=by
 obtain⟨r,F',kD,o,cV,e,h',hb,hs|⟨_,_,_,_,⟨g,hg⟩,_⟩,hr,_⟩:=h
 ·exact⟨r,F',kD,o,cV,e,h',hb,hs,hr⟩
 have h1:=SX (pz F) g;have hlen:(pz F).length=F.length:=by unfold pz;rw[xaC]
 omega
end
section
variable {sp nx kp:Nat} {c:Cf} {F F':FS} {ord tr:zL} {H C:Hp} {x:fZ}
theorem Ni{n w:Nat}:gD n F w x=0\/gD n F w x=1\/gD n F w x=2\/gD n F w x=3:=by
 unfold gD
 repeat' split
 all_goals simp
theorem Dg{op:Nat}{p:Nat×Nat}(hm:dA op=some p):1<=op/\op<=11:=by
 unfold dA at hm
 repeat' split at hm
 all_goals first|omega|cases hm
theorem Tk{op f:Nat}(hm:m0 op=some f):op=12\/op=13\/op=14\/op=15\/op=16\/op=17\/op=18\/op=19\/op=20\/op=21\/op=22\/op=23:=by
 refine xaK λhn=>?_;unfold m0 at hm;rw[xac zO,xac zO,xac zO,xac zO,xac zO,xac zO,xac zO,xac zO,xac zO,xac zO,xac zO,xac zO]at hm;cases hm
theorem ik.rp{v:zV}(h:ik sp c nx F ord tr x v H):aad v:=by
 obtain⟨r,_,_,_,_,e,_⟩:=h;exact⟨r.e,r.h,r.n,r.t,e⟩
theorem cN{n:Nat}{e:Int}{N:Nat}(hm:dA x.op=none)(h1:x.op≠12)(h2:x.op≠13)(hA:adU n F x e N):Want n nx F x e (-1) N F nx:=by
 unfold Want;rw[hm];dsimp only;rw[xac h1,xac h2];exact⟨rfl,rfl,rfl,hA⟩
theorem bE{v:zV}{H':Hp}{o cV:zL}(hop:12<=x.op\/x.op=0)(e:Int)(N:Nat)(hv:v=eW e (-1) N 0)(he:e≠9/\e≠8)(h':kj sp c nx F o cV H')(hb:cV.length<=tr.length+66*yb c.n F ord+1)(hW:Want c.n nx F x e (-1) N F nx)(hN:e≠0\/x.op<=13->N=0):ik sp c nx F ord tr x v H':=
 ⟨⟨e, -1,N,0⟩,F,nx,o,cV,hv,h',hb,.inl (.inr ⟨he.1,he.2,hW,by rw[xac zO]⟩),λ_ _=>he.1,hN⟩
theorem MA(h:kj sp c nx F ord tr H)(hc:c.Ok)(A6:nx+1<9223372036854775808)(hx:x.x<18446744073709551616)(eG:tr.length+66*yb c.n F ord<16000000000000):
  Fc zQ 16 #[ptr sp,x.v] H (ik sp c nx F ord tr x):=by
 have hlen:(pz F).length=F.length:=by unfold pz;rw[xaC]
 refine uZ (λv H h=>h.rp) (λw f hm=>?_) (λf hm ha fP=>?_) (λhm ha=>?_)
 ·obtain⟨hf,fP,hw⟩:=Wy hm;have hop:=Dg hm;by_cases hl:gD c.n F w x=0
  ·refine(Lg (R:=λ_ _=>True) h hc A6 hx hf fP hw hl (Qo hc zO)).mono ?_;rintro v H' ⟨t,o,cV,ht,hT,⟨rfl,h',h0⟩|⟨e,he,rfl,h',Sh,h9,hb⟩⟩
   ·refine⟨⟨0,nx,0,t⟩,_,_,o,[],rfl,h',by simp,.inl (.inr ⟨by simp,by simp,?_,?_⟩),λ_ _=>by simp,λ_=>rfl⟩
    ·unfold Want;rw[hm];dsimp only;rw[xad hl];exact⟨rfl,rfl,rfl,rfl,rfl⟩
    rw[xad hop];have:=hT.pos;exact⟨λ_=>⟨by simp only;omega,by simp only;omega⟩,λh=>absurd rfl h⟩
   rcases he with rfl|rfl
   ·have:=hT.pos;exact⟨⟨8, -1,0,t⟩,F,nx,o,cV,rfl,h',by omega,.inr ⟨rfl,rfl,rfl,rfl,CG Sh,.inr ⟨hop,by simp only;omega,by simp only;omega⟩⟩,λ_ _=>by simp,λ_=>rfl⟩
   have ht9:=h9 rfl;subst ht9;refine⟨⟨9, -1,0,((c.rs+1:Nat):Int)⟩,F,nx,o,cV,rfl,h',by omega,.inl (.inl ⟨rfl,rfl,rfl,rfl,.inr ⟨hop,by simp⟩⟩),λhr _=>absurd Sh (CE (by rw[hlen];exact hr)),λ_=>rfl⟩
  refine Fc.mono (FE h hx hw hl) λv H' ⟨e1,e2⟩=>?_;have ak0:=Ni (n:=c.n) (F:=F) (w:=w) (x:=x);refine⟨⟨gD c.n F w x, -1,0,0⟩,F,nx,ord,tr,e2,by rw[e1];exact h,by omega,.inl (.inr ⟨by simp only;omega,by simp only;omega,?_,?_⟩),λ_ _=>by simp only;omega,λ_=>rfl⟩
  ·unfold Want;rw[hm];dsimp only;rw[xac hl];exact⟨rfl,rfl,rfl,rfl,rfl⟩
  rw[xad hop];exact⟨λh=>absurd h hl,λ_=>rfl⟩
 ·rcases Tk ha with e|e|e|e|e|e|e|e|e|e|e|e
  ·have hd:Fc zQ 86 #[ptr sp,x.v] H (ik sp c nx F ord tr x):=by
    refine(ZP h A6).mono ?_;rintro v H' (⟨e1,rfl,rfl⟩|⟨_,hF,e8,e9⟩|⟨e1,_,rfl,h'⟩)
    ·refine bE zO 3 0 rfl zD h zO ?_ (λ_=>rfl);unfold Want;rw[hm];dsimp only;rw[xad e,xac (by rw[e1];decide)];exact⟨rfl,rfl,rfl,rfl,rfl⟩
    ·exact⟨⟨8, -1,0,0⟩,F,nx,ord,tr,e8,by rw[e9];exact h,by omega,.inr ⟨rfl,rfl,rfl,rfl,⟨_,xbG zD hF.2⟩,.inl ⟨e,rfl⟩⟩,λ_ _=>by simp,λ_=>rfl⟩
    refine⟨⟨0,nx,0,0⟩,_,_,ord,[],rfl,h',by simp,.inl (.inr ⟨by simp,by simp,?_,by rw[xac zO]⟩),λ_ _=>by simp,λ_=>rfl⟩;unfold Want;rw[hm];dsimp only;rw[xad e,xad e1];exact⟨rfl,rfl,rfl,rfl,rfl⟩
   rw[e]at ha;cases ha;exact hd
  ·have hd:Fc zQ 87 #[ptr sp,x.v] H (ik sp c nx F ord tr x):=by
    refine(Lx h).mono ?_;rintro v H' (⟨e1,rfl,rfl⟩|⟨e1,rfl,h'⟩)
    ·refine bE zO 3 0 rfl zD h zO ?_ (λ_=>rfl);unfold Want;rw[hm];dsimp only;rw[xac zO,xad e,xac (by rw[e1];decide)];exact⟨rfl,rfl,rfl,rfl,rfl⟩
    refine⟨⟨0, -1,0,0⟩,_,_,ord,[],rfl,h',by simp,.inl (.inr ⟨by simp,by simp,?_,by rw[xac zO]⟩),λ_ _=>by simp,λ_=>rfl⟩;unfold Want;rw[hm];dsimp only;rw[xac zO,xad e,xad e1];exact⟨rfl,rfl,rfl,rfl,rfl⟩
   rw[e]at ha;cases ha;exact hd
  ·have hd:Fc zQ 88 #[ptr sp,x.v] H (ik sp c nx F ord tr x):=by
    refine Fc.mono (LG h hx) λv H' ⟨e1,e2⟩=>?_;subst e1;cases hb:dg F x.a with
    |true=>
     rw[hb,xad rfl]at e2;refine bE zO 0 _ e2 zD h zO (cN hm zO zO λ_=>?_) (λh=>by omega);rw[xad (by rw[hb,e];rfl)];exact⟨λ_=>⟨rfl,rfl⟩,by omega,by omega,by omega,by omega⟩
    |false=>
     rw[hb,xac zD]at e2;refine bE zO 3 0 e2 zD h zO (cN hm zO zO λ_=>?_) (λ_=>rfl);rw[xac (by rw[hb];simp)];exact⟨rfl,rfl⟩
   rw[e]at ha;cases ha;exact hd
  ·have hd:Fc zQ 89 #[ptr sp,x.v] H (ik sp c nx F ord tr x):=by
    refine Fc.mono (UK h) λv H' ⟨e1,e2⟩=>?_;subst e1;cases hb:dg F x.a&&dg F x.b with
    |true=>
     rw[hb,xad rfl]at e2;refine bE zO 0 _ e2 zD h zO (cN hm zO zO λ_=>?_) (λh=>by omega);rw[xad (by rw[e];simpa using hb)];exact⟨by omega,λ_=>⟨rfl,rfl⟩,by omega,by omega,by omega⟩
    |false=>
     rw[hb,xac zD]at e2;refine bE zO 3 0 e2 zD h zO (cN hm zO zO λ_=>?_) (λ_=>rfl);rw[xac (by rw[e];simp only[ne_eq,not_true_eq_false,xdo,xdv];rw[hb];decide)];exact⟨rfl,rfl⟩
   rw[e]at ha;cases ha;exact hd
  ·have hd:Fc zQ 90 #[ptr sp,x.v] H (ik sp c nx F ord tr x):=by
    refine Fc.mono (KS h) λv H' ⟨e1,e2⟩=>?_;subst e1;cases hb:dg F x.a with
    |true=>
     rw[hb,xad rfl]at e2;refine bE zO 0 _ e2 zD h zO (cN hm zO zO λ_=>?_) (λh=>by omega);rw[xad (by rw[hb,e];rfl)];exact⟨by omega,by omega,λ_=>⟨rfl,rfl⟩,by omega,by omega⟩
    |false=>
     rw[hb,xac zD]at e2;refine bE zO 3 0 e2 zD h zO (cN hm zO zO λ_=>?_) (λ_=>rfl);rw[xac (by rw[hb];simp)];exact⟨rfl,rfl⟩
   rw[e]at ha;cases ha;exact hd
  ·have hd:Fc zQ 91 #[ptr sp,x.v] H (ik sp c nx F ord tr x):=by
    refine Fc.mono (UD h) λv H' ⟨e1,e2⟩=>?_;subst e1;have w:∀e' N,Want c.n nx F x e' (-1) N F nx:=λe' N=>cN hm zO zO λ_=>by omega
    cases hb:dg F x.a with
    |true=>
     rw[hb,xad rfl]at e2;exact bE zO 0 _ e2 zD h zO (w _ _) (λh=>by omega)
    |false=>
     rw[hb,xac zD]at e2;exact bE zO 3 0 e2 zD h zO (w _ _) (λ_=>rfl)
   rw[e]at ha;cases ha;exact hd
  ·have hd:Fc zQ 92 #[ptr sp,x.v] H (ik sp c nx F ord tr x):=by
    refine Fc.mono (Vi h) λv H' ⟨e1,e2⟩=>?_;subst e1;exact bE zO 0 _ e2 zD h zO (cN hm zO zO λ_=>by omega) (λh=>by omega)
   rw[e]at ha;cases ha;exact hd
  ·have hd:Fc zQ 93 #[ptr sp,x.v] H (ik sp c nx F ord tr x):=by
    refine Fc.mono (Q2 h) λv H' ⟨e1,e2⟩=>?_;subst e1;rcases e2 with⟨hb,e2⟩|⟨hb,hf,e2⟩|⟨hb,hf,V,hV,hL,e2⟩
    ·refine bE zO 3 0 e2 zD h zO (cN hm zO zO λ_=>?_) (λ_=>rfl);rw[xac (by rw[hb];simp)];exact⟨rfl,rfl⟩
    ·refine bE zO 10 0 e2 zD h zO (cN hm zO zO λ_=>?_) (λ_=>rfl);rw[xad (by rw[hb,e];rfl)];exact⟨by omega,by omega,by omega,λ_=>.inl ⟨hf,rfl,rfl⟩,by omega⟩
    refine bE zO 0 V e2 zD h zO (cN hm zO zO λ_=>?_) (λh=>by omega);rw[xad (by rw[hb,e];rfl)];exact⟨by omega,by omega,by omega,λ_=>.inr ⟨hf,rfl,hL⟩,by omega⟩
   rw[e]at ha;cases ha;exact hd
  ·have hd:Fc zQ 94 #[ptr sp,x.v] H (ik sp c nx F ord tr x):=by
    refine Fc.mono (E6 h) λv H' ⟨e1,e2⟩=>?_;subst e1;rcases e2 with⟨hb,e2⟩|⟨hb,m,hm',e2⟩
    ·refine bE zO 3 0 e2 zD h zO (cN hm zO zO λ_=>?_) (λ_=>rfl);rw[xac (by rw[hb];simp)];exact⟨rfl,rfl⟩
    refine bE zO 0 m e2 zD h zO (cN hm zO zO λ_=>?_) (λh=>by omega);rw[xad (by rw[hb,e];rfl)];exact⟨by omega,by omega,by omega,by omega,λ_=>⟨rfl,hm'⟩⟩
   rw[e]at ha;cases ha;exact hd
  ·have hd:Fc zQ 95 #[ptr sp,x.v] H (ik sp c nx F ord tr x):=by
    refine Fc.mono (QY h) λv H' ⟨e1,e2⟩=>?_;subst e1;have w:∀e' N,Want c.n nx F x e' (-1) N F nx:=λe' N=>cN hm zO zO λ_=>by omega
    rcases e2 with⟨_,e2⟩|⟨_,p,_,_,e2⟩
    ·exact bE zO 2 0 e2 zD h zO (w _ _) (λ_=>rfl)
    exact bE zO 0 p e2 zD h zO (w _ _) (λh=>by omega)
   rw[e]at ha;cases ha;exact hd
  ·have hd:Fc zQ 96 #[ptr sp,x.v] H (ik sp c nx F ord tr x):=by
    refine(Wr h zO).mono ?_;have w:∀e' N,Want c.n nx F x e' (-1) N F nx:=λe' N=>cN hm zO zO λ_=>by omega
    rintro v H' (⟨_,e2,rfl⟩|⟨l,_,_,_,e2,rfl⟩|⟨l,_,_,_,e2,h'⟩)
    ·exact bE zO 1 0 e2 zD h zO (w _ _) (λ_=>rfl)
    ·exact⟨⟨9, -1,0,0⟩,F,nx,ord,tr,e2,h,by omega,.inl (.inl ⟨rfl,rfl,rfl,rfl,.inl ⟨e,rfl⟩⟩),λ_ hn=>absurd e hn,λ_=>rfl⟩
    exact bE zO 0 0 e2 zD h' (by rw[xaf,xbP];omega) (w _ _) (λ_=>rfl)
   rw[e]at ha;cases ha;exact hd
  have hd:Fc zQ 97 #[ptr sp,x.v] H (ik sp c nx F ord tr x):=by
   refine(Fl h zO).mono ?_;have w:∀e' N,Want c.n nx F x e' (-1) N F nx:=λe' N=>cN hm zO zO λ_=>by omega
   rintro v H' ⟨e',n,o,cV,e2,hne,Xw,h',hb⟩;exact bE zO e' n e2 hne h' zO (w _ _) (λh=>Xw zO)
  rw[e]at ha;cases ha;exact hd
 have hop:¬(1<=x.op/\x.op<=11):=λhop=>by
  have:x.op=1\/x.op=2\/x.op=3\/x.op=4\/x.op=5\/x.op=6\/x.op=7\/x.op=8\/x.op=9\/x.op=10\/x.op=11:=by omega
  rcases this with e|e|e|e|e|e|e|e|e|e|e<;>rw[e]at hm<;>cases hm
 have akE:¬(12<=x.op/\x.op<=23):=λhop=>by
  have:x.op=12\/x.op=13\/x.op=14\/x.op=15\/x.op=16\/x.op=17\/x.op=18\/x.op=19\/x.op=20\/x.op=21\/x.op=22\/x.op=23:=by omega
  rcases this with e|e|e|e|e|e|e|e|e|e|e|e<;>rw[e]at ha<;>cases ha
 exact⟨⟨12, -1,0,0⟩,F,nx,ord,tr,rfl,h,by omega,.inl (.inr ⟨by simp,by simp,cN hm zO zO λ_=>by omega,by rw[xac hop]⟩),λ_ _=>by simp,λ_=>rfl⟩
theorem uY(h:kj sp c nx F ord tr H)(hc:c.Ok)(A6:nx+1<9223372036854775808)(hx:x.x<18446744073709551616)(h8:F.length<65533)(eG:tr.length+66*yb c.n F ord<16000000000000):
  Fc zQ 16 #[ptr sp,x.v] H (TA sp c nx F ord tr x):=(MA h hc A6 hx eG).mono λ_ _ hq=>hq.small h8
end
section
variable {sp bp nx k:Nat} {c d:Cf} {F:FS} {ord tr o2 qQ:zL} {H B H1 H2:Hp} {x:fZ} {r:Rp}
def waB(op:Nat):Bool:=(decide (3<=op) &&decide (op<=20)) &&decide (op≠18)
def X5(op:Nat):Bool:=(decide (4<=op) &&decide (op<=7))||decide (op=15)
def X4(op:Nat):Bool:=decide (op=7)||decide (op=11)
def mJ(k:Nat)(i:Int):Bool:=decide (i<0)||decide ((k:Int)<=i)
def xV(k:Nat)(x:fZ):Bool:= !(((waB x.op&&mJ k x.a)||(X5 x.op&&mJ k x.b))||(X4 x.op&&mJ k x.c))
theorem AR{i:Int}(h:mJ k i=false):0<=i/\i<k:=by
 unfold mJ at h;rw[xax,xa4,xa4]at h;omega
theorem ux{v:zV}(hL:dz .i64 B v (iw (List.range k))){i:Int}(h0:0<=i/\i<k)(hs:∀x∈B,x∈H){K:zV->Prop}(h:K (i64 i)):au 1 v (i64 i) (λp=>Ld H p K):=by
 obtain⟨j,rfl⟩:∃j:Nat,i=j:=⟨i.toNat,by omega⟩;exact hL.ld (cQ (by rw[xc7 zO])) hs h
theorem C8{v:zV}(hL:dz .i64 B v (iw (List.range k))):Rd zQ 35 #[x.v,v] B (· =.tuple #[x.v,.bool (xV k x)]):=by
 have hlen:(iw (List.range k)).length=k:=by simp
 refine aF λg=>O5 λb1 _ b3 _=>?_;refine Ld.f (v:=.int .u8 (x.op:Int)) (ae.qM (b:=3) (cm.and (decide (x.op<=20)) (λ_=>Ld.f (v:=.int .u8 (x.op:Int)) (ae.xX (b:=20) ⟨rfl,rfl⟩)) rfl λ_=>?_));refine cm.and (decide (x.op≠18)) (λ_=>Ld.f (v:=.int .u8 (x.op:Int)) (ae.yL (b:=18) ⟨rfl,rfl⟩)) rfl λ_=>?_;refine Ld.f (v:=.int .u8 (x.op:Int)) (ae.qM (b:=4) (cm.and (decide (x.op<=7)) (λ_=>Ld.f (v:=.int .u8 (x.op:Int)) (ae.xX (b:=7) ⟨rfl,rfl⟩)) rfl λ_=>?_));refine cm.or (decide (x.op=15)) (λ_=>Ld.f (v:=.int .u8 (x.op:Int)) (ae.dQ (b:=15) ⟨rfl,rfl⟩)) rfl λ_=>?_;refine Ld.f (v:=.int .u8 (x.op:Int)) (ae.dQ (b:=7) (cm.or (decide (x.op=11)) (λ_=>Ld.f (v:=.int .u8 (x.op:Int)) (ae.dQ (b:=11) ⟨rfl,rfl⟩)) rfl λ_=>?_));refine cm.and (mJ k x.a) (λ_=>Ld.f (v:=i64 x.a) (ae.lss ?_)) rfl λ_=>?_
 ·refine cm.or (decide ((k:Int)<=x.a)) (λ_=>Ld.f (v:=i64 x.a) (hL.bP ?_)) rfl λ_=>⟨rfl,rfl⟩;rw[hlen];exact ae.geq ⟨rfl,rfl⟩
 refine cm.or (X5 x.op&&mJ k x.b) (λ_=>cm.and (mJ k x.b) (λ_=>Ld.f (v:=i64 x.b) (ae.lss ?_)) rfl λ_=>⟨rfl,rfl⟩) rfl λ_=>?_
 ·refine cm.or (decide ((k:Int)<=x.b)) (λ_=>Ld.f (v:=i64 x.b) (hL.bP ?_)) rfl λ_=>⟨rfl,rfl⟩;rw[hlen];exact ae.geq ⟨rfl,rfl⟩
 refine cm.or (X4 x.op&&mJ k x.c) (λ_=>cm.and (mJ k x.c) (λ_=>Ld.f (v:=i64 x.c) (ae.lss ?_)) rfl λ_=>⟨rfl,rfl⟩) rfl λ_=>?_
 ·refine cm.or (decide ((k:Int)<=x.c)) (λ_=>Ld.f (v:=i64 x.c) (hL.bP ?_)) rfl λ_=>⟨rfl,rfl⟩;rw[hlen];exact ae.geq ⟨rfl,rfl⟩
 show Br (.bool (((waB x.op&&mJ k x.a)||(X5 x.op&&mJ k x.b))||(X4 x.op&&mJ k x.c))) _ _;refine Br.mk (λhb=>?_) (λhb=>?_)
 ·refine ax.whole (r:=x.cells) (T:=35) (fz:=(0,0)) (by exact .tail _ (.head _)) rfl ?_;exact St.p (r:=x.cells) x.one (ax.q (r:=x.cells) (aZ.mk (.skip .tail) (by unfold xV;rw[hb];rfl)))
 have hb':=hb;rw[xax,xax]at hb;obtain⟨⟨ha,hbb⟩,hc⟩:=hb;have up:∀y∈B,∀z w:Nat×Obj,y∈z::w::B:=λy hy z w=>.tail _ (.tail _ hy);intro J79 h79;have go:J79 [] ((b3,.cells #[.int .u8 0,i64 0,i64 0,i64 0,u64 0] 35 zZ)::(b1,.cells x.cells.toArray 35 zZ)::B):=by
  refine h79 _ λ_=>?_;intro J82 h82;have go:J82 [] ((b3,.cells #[.int .u8 0,i64 0,i64 0,i64 0,u64 0] 35 zZ)::(b1,.cells x.cells.toArray 35 zZ)::B):=by
   refine h82 _ λ_=>?_;intro J85 h85;have go:J85 [] ((b3,.cells #[.int .u8 0,i64 0,i64 0,i64 0,u64 0] 35 zZ)::(b1,.cells x.cells.toArray 35 zZ)::B):=by
    refine h85 _ λ_=>?_;exact ax.q (r:=x.cells) (St.p (r:=x.cells) x.one (ax.q (r:=x.cells) (aZ.mk (.skip .tail) (by unfold xV;rw[hb'];rfl))))
   show Br (.bool (X4 x.op)) _ _;refine Br.mk (λhw=>?_) (λ_=>JE.mk go);rw[hw,xbR]at hc;refine Ld.f (v:=i64 x.c) (ux hL (AR hc) (λy hy=>up y hy _ _) ?_);exact ai.mk (St.one (c':=x.cells.toArray) (by exact .tail (.head _)) rfl (by simp[fZ.cells]) rfl (JE.mk go))
  show Br (.bool (X5 x.op)) _ _;refine Br.mk (λhw=>?_) (λ_=>JE.mk go);rw[hw,xbR]at hbb;refine Ld.f (v:=i64 x.b) (ux hL (AR hbb) (λy hy=>up y hy _ _) ?_);exact ai.mk (St.one (c':=x.cells.toArray) (by exact .tail (.head _)) rfl (by simp[fZ.cells]) rfl (JE.mk go))
 show Br (.bool (waB x.op)) _ _;refine Br.mk (λhw=>?_) (λ_=>JE.mk go);rw[hw,xbR]at ha;refine Ld.f (v:=i64 x.a) (ux hL (AR ha) (λy hy=>up y hy _ _) ?_);exact ai.mk (St.one (c':=x.cells.toArray) (by exact .tail (.head _)) rfl (by show _<x.cells.toArray.size;simp[fZ.cells]) rfl (JE.mk go))
theorem KA(n:Nat)(B:Hp):Rd zQ 34 #[i64 (n:Int)] B (· =.agg (Ap.cells ⟨n,100000,0,100,0⟩).toArray):=by
 refine aF λg=>O6 λb1 _=>?_;refine Build.mk (cs:=Ap.cells ⟨n,100000,0,100,0⟩) zK (St.p (Ap.one _) ?_);exact ax.q (r:=Ap.cells ⟨n,100000,0,100,0⟩) (aZ.mk .tail rfl)
def mkB(op:Nat):Bool:=decide (1<=op) &&decide (op<=12)
def WE(op:Nat):Bool:=(((decide (op=14)||decide (op=15))||decide (op=16))||decide (op=19))||decide (op=20)
theorem Df(op:Nat)(B:Hp):Rd zQ 37 #[.int .u8 (op:Int)] B (· =.bool (mkB op)):=by
 refine aF λg=>O3 (ae.qM (b:=1) (cm.and (decide (op<=12)) (λ_=>ae.xX (b:=12) ⟨rfl,rfl⟩) rfl λ_=>?_));exact aZ.mk (.refl _) rfl
theorem LU(op:Nat)(B:Hp):Rd zQ 38 #[.int .u8 (op:Int)] B (· =.bool (WE op)):=by
 refine aF λg=>O2 (ae.dQ (b:=14) (cm.or (decide (op=15)) (λ_=>ae.dQ (b:=15) ⟨rfl,rfl⟩) rfl λ_=>?_));refine cm.or (decide (op=16)) (λ_=>ae.dQ (b:=16) ⟨rfl,rfl⟩) rfl λ_=>?_;refine cm.or (decide (op=19)) (λ_=>ae.dQ (b:=19) ⟨rfl,rfl⟩) rfl λ_=>?_;refine cm.or (decide (op=20)) (λ_=>ae.dQ (b:=20) ⟨rfl,rfl⟩) rfl λ_=>?_;exact aZ.mk (.refl _) rfl
def Yb(rs op:Nat)(r:Rp):Bool:=
 if(decide (op<1)||decide (11<op))=true then decide (r.t=0)else
 if r.e=0\/r.e=8 then decide (1<=r.t) &&decide (r.t<=((rs+1:Nat):Int))else if r.e=9 then decide (r.t=((rs+1:Nat):Int))else decide (r.t=0)
theorem PO(hr:c.rs<=16)(op:Nat)(B:Hp):Rd zQ 36 #[.agg c.cells.toArray,.int .u8 (op:Int),r.v] B (· =.bool (Yb c.rs op r)):=by
 refine aF λg=>O4 λb1 _ b3 _=>?_;refine ae.fk (b:=1) (cm.or (decide (11<op)) (λ_=>ae.nh (b:=11) ⟨rfl,rfl⟩) rfl λ_=>?_);refine Br.mk (λhb=>?_) (λhb=>?_)
 ·exact Ld.f (v:=i64 r.t) (ae.gI (aZ.mk (.skip .tail) (by unfold Yb;rw[xad hb])))
 refine Ld.f (v:=i64 r.e) λJ14 h14=>?_;have hb':¬(decide (op<1)||decide (11<op))=true:=by rw[hb];decide
 have go:∀p:Bool,p=decide (r.e=0\/r.e=8)->J14 [.bool p] ((b3,.cells (Value.cells r.v) 37 zZ)::(b1,.cells (Value.cells (.agg c.cells.toArray)) 23 zZ)::B):=λp hp=>by
  refine h14 _ _ λ_=>?_;rw[hp];refine Br.dec (λh1=>?_) (λh1=>?_)
  ·refine Ld.f (v:=i64 r.t) (ae.geq (cm.and (decide (r.t<=((c.rs+1:Nat):Int))) (λ_=>Ld.f (v:=i64 r.t) (Ld.f (v:=i64 c.rs) (ae.inc (ae.leq ⟨rfl,rfl⟩)))) rfl λ_=>?_));exact aZ.mk (.skip .tail) (by unfold Yb;rw[xac hb',xad h1])
  refine ae.gI (Br.dec (λh9=>?_) (λh9=>?_))
  ·exact Ld.f (v:=i64 r.t) (Ld.f (v:=i64 c.rs) (ae.inc (ae.gI (aZ.mk (.skip .tail) (by unfold Yb;rw[xac hb',xac h1,xad h9])))))
  exact Ld.f (v:=i64 r.t) (ae.gI (aZ.mk (.skip .tail) (by unfold Yb;rw[xac hb',xac h1,xac h9])))
 refine ae.gI (Br.dec (λh0=>?_) (λh0=>?_))
 ·exact JE.mk (go _ (by simp[h0]))
 exact ae.gI (JE.mk (go _ (by simp[h0])))
theorem Small.aa4{n rs:Nat}{F':FS}{kD:Nat}(h:Small n rs nx F x r F' kD):Yb rs x.op r=true:=by
 unfold Yb;rcases h with⟨h1,_,_,_,h5⟩|⟨h1,h8,_,h4⟩
 ·rcases h5 with⟨e,ht⟩|⟨e,ht⟩
  ·rw[xad (by rw[e];decide)];exact xal ht
  rw[xac (by rw[xa1,xar,xar];omega),xac zO,xad h1];exact xal zO
 by_cases hop:1<=x.op/\x.op<=11
 ·rw[xad hop]at h4;rw[xac (by rw[xa1,xar,xar];omega)];by_cases h0:r.e=0
  ·have:=h4.1 h0;rw[xad (.inl h0),xaD,xar,xar];omega
  rw[xac zO,xac h1];exact xal (h4.2 h0)
 rw[xac hop]at h4;rw[xad (by rw[xa1,xar,xar];omega)];exact xal h4
theorem zu{a:Int}{y:Nat}(h:kj sp c nx F ord tr H)(ha:dg F a=true)(hy:y<18446744073709551616):Rd zQ 16 #[ptr sp,(⟨14,a,0,0,y⟩:fZ).v] H (· =eW 0 (-1) (fF F a y).toNat 0):=by
 refine Fc.mono (wS (x:=⟨14,a,0,0,y⟩) (f:=88) rfl rfl (Q:=λv H'=>v=eW 0 (-1) (fF F a y).toNat 0/\H'=H) (λv H h=>⟨_,_,_,_,h.1⟩) (Fc.mono (LG h hy) λv H' ⟨e1,e2⟩=>⟨?_,e1⟩)) λv H' h=>⟨h.2,h.1⟩;rw[e2];show(if dg F a=true then _ else _)=_;rw[xad ha]
end
end
section
def nI(x:Nat):zV:=iv (x:Int)
theorem Qb{v:zV}{C:Hp}{l:List Int}(h:aN 3 .i64 v l C)(cJ:l.length<1152921504606846976):Fc zQ 99 #[v] C (λr C'=>r=.tuple #[]/\aN 3 .i64 v (Fa l) C'):=by
 refine aF λg=>Ow (h.bP ?_);refine aV.q (aa.rq (Bq zO C) ?_);rintro w ⟨r,_,rfl⟩;have hd:Da 3 .i64 v l.toArray C:=h;refine aa.fn .here (K6 aa1 l.length hd (a:=0) (b:=l.length) zO zO zI (by simpa using cJ) (.inl rfl) _) ?_;rintro w C' ⟨rfl,e,⟨h1,h2⟩,dP⟩;have he:=Qa (d:=l.toArray) (by simpa using h1) (by simpa using h2);exact aM.here ⟨rfl,by rw[show Fa l=e.toList from he.symm];exact dP⟩
open aA
section
noncomputable abbrev AFI:Func:=Tryz.f152
variable {f:FuncId} {cap:Array zV} {B:Hp} {N:Nat} {S:zL->Prop}
noncomputable def cL:Code:=match AFI.body with|some (.seq _ (.seq (.seq _ (.block _ (.rangeFunc _ _ c _))) _))=>c|_=>.skip
noncomputable def dR:Code:=match AFI.body with|some (.seq _ (.seq (.seq _ (.block _ (.rangeFunc _ _ _ c))) _))=>c|_=>.skip
noncomputable def LW(i:Nat):Oper:=match dR with| .block _ (.region _ ops _)=>(match ops[i]? with|some o=>o|none=>default)|_=>default
def iG(fn:FuncId)(tmps:Array zV)(assign body:Code)(D:Nat):Loop:={state:=.ready,pending:=none,fn,tmps,params:=#[7],assign,body,defers:=D}
def aak(l D bs:Nat)(fn:FuncId)(tmps:Array zV)(assign body:Code)(ss:zL)(A:Hp):Prop:=
 ∃v C',A=(l,.loop (iG fn tmps assign body D))::(D,.deferred (some []))::(bs,.cells #[v] 43 zZ)::C'/\aN 3 .i64 v (iw ss) C'
theorem Ol{g:Gh}{l D bs:Nat}{fn:FuncId}{tmps:Array zV}{fr:Fr}(hsz:tmps.size=13)(gT:∀s,tmps.getD s undef=fr s)(f2:fr 2=ptr bs){ss:zL}{x:Nat}{A X:Hp}{W:World}
 (hG:aak l D bs fn tmps cL dR ss A)(hl:ss.length<1099511627776)(hW:Own g (A++X) W):
  YieldAt Fence.wide 0 zQ l #[nI x] W (λe W'=>e=.returned (.bool true)/\∃A',aak l D bs fn tmps cL dR (ss++[x]) A'/\Own g (A'++X) W'):=by
 obtain⟨v,C',rfl,ho⟩:=hG;have hF:∀f,(Fence.wide.inRound l).fn f:=λ_=>trivial;have hL:W.heap[l]? =some (.loop (iG fn tmps cL dR D)):=hW.has _ (.head _);refine⟨fn,_,cL,dR,run_yield hL rfl,roundIn_of_wpIn trivial ?_⟩;have ha:xN [] 13 {tmps:=tmps.setIfInBounds 7 (nI x),defers:=[]} (br fr (some 7) (nI x)):=(xN.put (a:={tmps:=tmps,defers:=[]}) (d:=some 7) ⟨rfl,hsz,gT⟩ rfl (nI x));have ha:xN [] 13 {tmps:=(#[7].zip #[nI x]).foldl (λtmps (t,a)=>tmps.setIfInBounds t a) tmps,defers:=[]} (br fr (some 7) (nI x)):=by simpa using ha
 change Code.wpIn _ 0 zQ (.region _ #[_] false) _ _ _;refine wpIn_region_lit ?_;refine dD (g:=g) (n:=13) (v0:=nI x) hF rfl zC rfl ha hW rfl λa1 uj=>?_;refine wpListIn_nil ?_;have hbr:=run_beginRound (P:=zQ) hL rfl;refine⟨_,hbr,?_⟩;have DC:=hW.putObj (o':=.loop {iG fn tmps cL dR D with state:=.busy}) (.head _);change Code.wpIn _ 0 zQ (.block _ (.region _ #[_,_,_,_,_] false)) _ _ _;refine wpIn_block ?_;refine wpIn_region_lit ?_;obtain⟨H1,ZK⟩:∃H1,H1=(l,Obj.loop {iG fn tmps cL dR D with state:=.busy})::(((D,.deferred (some []))::(bs,.cells #[v] 43 zZ)::C')++X):=⟨_,rfl⟩
 replace DC:Own g H1 (W.putObj l (.loop {iG fn tmps cL dR D with state:=.busy})):=by rw[ZK];exact DC
 have e0:AS zQ g (LW 0) (ev (br (br fr (some 7) (nI x)) (some 5) (nI x))) H1 (λz=>z=v)=Ld H1 (fr 2) (λz=>z=v):=by kernel_rfl
 refine dD (g:=g) (n:=13) (v0:=v) hF rfl zC rfl uj DC (e0.mpr (by rw[f2];exact Ld.mk (by rw[ZK];exact .tail _ (.tail _ (.head _))) rfl rfl)) λa2 qt=>?_;refine dD (g:=g) (n:=13) (v0:=nI x) hF rfl zC rfl qt DC rfl λa3 uD=>?_;have eb:∀K:zV->Hp->Prop,az zQ 43 1 [(0,iv (x:Int))] H1 K=M1 zQ g (LW 2) (ev (br (br (br (br fr (some 7) (nI x)) (some 5) (nI x)) (some 8) v) (some 9) (nI x))) H1 K (λ_ _=>False):=λK=>by kernel_rfl
 refine yC (g:=g) (n:=13) (s:=_) (K:=λv H=>∃b,v=.slice (some ⟨b,0,none⟩) 1 1/\H=(b,.cells (av .i64 [(x:Int)]) 3 zZ)::H1) hF rfl zC rfl uD DC rfl
  ((eb _).mp (az.int zK zK zK λb=>⟨b,rfl,rfl⟩)) λv1 H2 w2 a4 hv Sf Gj=>?_
 obtain⟨b,rfl,rfl⟩:=hv;have hn:(iw ss).length=ss.length:=ak ss;obtain⟨H2,hH2⟩:∃H2,H2=(b,Obj.cells (av .i64 [(x:Int)]) 3 zZ)::H1:=⟨_,rfl⟩;rw[<-hH2]at Sf;refine yC (g:=g) (n:=13) (s:=_) (K:=λv' H=>∃C2,aN 3 .i64 v' (iw (ss++[x])) C2/\H=(b,Obj.cells (av .i64 [(x:Int)]) 3 zZ)::(l,Obj.loop {iG fn tmps cL dR D with state:=.busy})::(D,.deferred (some []))::(bs,.cells #[v] 43 zZ)::(C2++X))
  hF rfl zC rfl Gj Sf (by simp only[execOp,resolve,invoke,builtin];simp[bind,Sem.bind];rfl) ?_ λv2 H3 w3 a5 hv Bd Gi=>?_
 ·have e1:∀K:zV->Hp->Prop,App zQ 3 1 8 (iv 0) H2 v (.slice (some ⟨b,0,none⟩) 1 1) K=
   M1 zQ g (LW 3) (ev (br (br (br (br (br fr (some 7) (nI x)) (some 5) (nI x)) (some 8) v) (some 9) (nI x)) (some 10) (.slice (some ⟨b,0,none⟩) 1 1))) H2 K (λ_ _=>False):=λK=>by kernel_rfl
  refine(e1 _).mp ?_;rw[hH2,ZK];refine ho.rX (.cons (.cons (.cons (.cons .left)))) (by exact .head _) zO zO λv' C2 r9=>⟨C2,?_,rfl⟩;rw[bY];exact r9
 obtain⟨C2,r9,rfl⟩:=hv;have es:∀(H:Hp) (K:zV->Hp->Prop),St 1 H (fr 2) v2 (λH'=>K undef H')=M1 zQ g (LW 4) (ev (br (br (br (br (br (br fr (some 7) (nI x)) (some 5) (nI x)) (some 8) v) (some 9) (nI x)) (some 10) (.slice (some ⟨b,0,none⟩) 1 1)) (some 11) v2)) H K (λ_ _=>False):=λH K=>by kernel_rfl
 refine W8 (g:=g) (n:=13) (s:=_) (K:=λ_ H=>H=(b,Obj.cells (av .i64 [(x:Int)]) 3 zZ)::(l,Obj.loop {iG fn tmps cL dR D with state:=.busy})::(D,.deferred (some []))::(bs,.cells #[v2] 43 zZ)::(C2++X))
  hF rfl zC rfl Gi Bd rfl ((es _ _).mp ?_) λH4 w4 a6 hv V5 Gg=>?_
 ·rw[f2];exact St.one (.tail (.tail (.tail (.head _)))) r9.one zI rfl rfl
 subst hv;refine wpListIn_nil ?_;simp only[Exit.inBlock,roundPost];refine⟨_,_,run_endRound none (V5.has _ (.tail _ (.head _))),rfl,_,⟨v2,C2,rfl,r9⟩,?_⟩;exact(V5.putObj (.tail (.head _))).tail
theorem GK(hg:tW zQ f cap B nI N S)(hc:aU zQ f=true)(hN:N<=1099511627776):
  Fc zQ 152 #[.slice none 0 0,.func (.func f) #[] cap] B (λv H=>∃ss C',S ss/\H=C'++B/\aN 3 .i64 v (iw ss) C'):=by
 intro g w hw;rw[<-callsIn_wide (n:=0)];have hF:∀f,Fence.wide.fn f:=λ_=>trivial;refine callsIn_of_wp_marks func152 rfl trivial ?_;have ha:=m6 (m:=13) (args:=[.slice none 0 0,.func (.func f) #[] cap]) zI;refine wpIn_seq ?_;refine wpIn_region_lit ?_;refine yC (g:=g) (n:=13) (s:=_) (K:=λv H=>∃bs,v=ptr bs/\H=(bs,.cells #[.slice none 0 0] 43 zZ)::B) hF rfl zC rfl ha hw rfl (λbs _=>⟨bs,rfl,rfl⟩) λv H1 w1 a1 hv ju uj=>?_;obtain⟨bs,rfl,rfl⟩:=hv;refine dD (g:=g) (n:=13) (v0:=.slice none 0 0) hF rfl zC rfl uj ju rfl λa2 qt=>?_;refine wpListIn_nil ?_;refine wpIn_seq ?_;refine wpIn_seq ?_;refine wpIn_region_lit ?_;refine dD (g:=g) (n:=13) (v0:=.func (.func f) #[] cap) hF rfl zC rfl qt ju rfl λa3 uD=>?_;refine wpListIn_nil ?_;refine wpIn_block ?_;refine wpIn_rangeFunc λfn hfn=>?_;have x5:=(ju.alloc (.deferred (some []))).alloc (.loop (iG fn a3.tmps cL dR w1.heap.size));have f6:a3.tmps[6]?.getD undef=.func (.func f) #[] cap:=by have:=uD.get 6;rw[xat]at this;exact this
 obtain⟨W1,DC⟩:∃W1,W1=(w1.alloc (.deferred (some []))).alloc (.loop (iG fn a3.tmps cL dR w1.heap.size)):=⟨_,rfl⟩;rw[<-DC]at x5;refine⟨w1.heap.size+1,[{target:=.collected w1.heap.size,args:=#[]}],W1,{target:=.fn (.func f) cap,args:=#[.func (.yield (w1.heap.size+1)) #[] #[]]},W1,f,#[.func (.yield (w1.heap.size+1)) #[] #[]]++cap,W1,?_,?_,λ_ _=>trivial,?_,λh=>(by cases h),?_⟩
 ·rw[DC];exact run_enterLoop_outer fn a3.tmps #[7] _ _
 ·simp[resolve,Deferred.ofValue,f6,go_sem]
 ·simp[invoke,go_sem];exact eE hc _ _
 have hsz:(w1.alloc (.deferred (some []))).heap.size=w1.heap.size+1:=by simp
 rw[hsz]at x5;refine CallsIn.mono (hg g (w1.heap.size+1) (aak (w1.heap.size+1) w1.heap.size bs fn a3.tmps cL dR) (λss x A X W hG hl hW=>Ol uD.size uD.get rfl hG zO hW) [_,_,_] W1 ⟨_,[],rfl,aN.nil⟩ x5) ?_;rintro e W2 ⟨⟨v0,rfl⟩,ss,A',hS,⟨v,C',rfl,ho⟩,Sf⟩;refine⟨none,_,run_endLoop (Sf.has _ (.head _)) (by simp[iG]),?_⟩;have Bd:=Sf.putObj (o':=.loop {iG fn a3.tmps cL dR w1.heap.size with state:=.exhausted}) (.head _);simp only[Exit.then,Exit.inBlock];have Gj:xN [{target:=.collected w1.heap.size,args:=#[]}] 13 {a3 with defers:=[{target:=.collected w1.heap.size,args:=#[]}]++a3.defers} (br (br (br (gQ [.slice none 0 0,.func (.func f) #[] cap] 0) (some 2) (ptr bs)) (some 4) (.slice none 0 0)) (some 6) (.func (.func f) #[] cap)):=
  ⟨by rw[uD.defers];rfl,uD.size,uD.get⟩
 refine wpIn_seq ?_;refine wpIn_region_lit ?_;obtain⟨H3,ZJ⟩:∃H3,H3=(w1.heap.size+1,Obj.loop {iG fn a3.tmps cL dR w1.heap.size with state:=.exhausted})::(((w1.heap.size,.deferred (some []))::(bs,.cells #[v] 43 zZ)::C')++B):=⟨_,rfl⟩
 replace Bd:Own g H3 (W2.putObj (w1.heap.size+1) (.loop {iG fn a3.tmps cL dR w1.heap.size with state:=.exhausted})):=by rw[ZJ];exact Bd
 have e0:AS zQ g (fE AFI 4 0) (ev (br (br (br (gQ [.slice none 0 0,.func (.func f) #[] cap] 0) (some 2) (ptr bs)) (some 4) (.slice none 0 0)) (some 6) (.func (.func f) #[] cap))) H3 (λz=>z=v)=Ld H3 (ptr bs) (λz=>z=v):=by kernel_rfl
 refine dD (g:=g) (n:=13) (v0:=v) hF rfl zC rfl Gj Bd (e0.mpr (Ld.mk (by rw[ZJ];exact .tail _ (.tail _ (.head _))) rfl rfl)) λa5 Gi=>?_;refine dD (g:=g) (n:=13) (v0:=v) hF rfl zC rfl Gi Bd rfl λa6 Gg=>?_;refine wpListIn_nil ?_;refine wpIn_ret ?_;simp only[Exit.then,bodyPostM];rw[Gg.defers];rw[ZJ]at Bd;refine⟨by simp,.inl ⟨w1.heap.size,_,rfl,run_takeDeferred (Bd.has _ (.tail _ (.head _))),?_⟩⟩;have V5:=Bd.putObj (o':=.deferred none) (.tail (.head _));refine⟨_,results_tmp rfl _ _ _,C'++B,V5.tail.tail.tail,v,C'++B,?_,.refl _,ss,C',hS,rfl,ho⟩;have:=Gg.get 4;rw[this];rfl
end
section
variable {f:FuncId} {cap:Array zV} {B:Hp} {N:Nat} {S:zL->Prop}
theorem D2(hg:tW zQ f cap B nI N S)(hc:aU zQ f=true)(hN:N<=1099511627776):
  Fc zQ 98 #[.func (.func f) #[] cap] B (λv H=>∃ss C',S ss/\H=C'++B/\aN 3 .i64 v (iw ss) C'):=by
 refine aF λg=>Ox ?_;refine aa.fq (GK hg hc hN) ?_;rintro v H h;exact aM.here h
theorem Fb(hg:tW zQ f cap B nI N S)(hS:∀ss,S ss->ss.length<=N)(hc:aU zQ f=true)(hN:N<=1099511627776):
  Fc zQ 46 #[.func (.func f) #[] cap] B (λv H=>∃ss C',S ss/\H=C'++B/\aN 3 .i64 v (iw (Ce ss)) C'):=by
 refine aF λg=>OX ?_;refine aa.fq (D2 hg hc hN) ?_;rintro v H ⟨ss,C',hs,rfl,ho⟩;have hlen:=hS ss hs;refine aa.fn (.left (A:=B)) (Qb ho (by rw[ak];omega)) ?_;rintro w C2 ⟨rfl,cA⟩;rw[KK]at cA;exact aM.here ⟨ss,C2,hs,rfl,cA⟩
end
section
theorem EZ{κ β:Type}{es:Array MapEntry}{m:List (κ×β)}{seen:Array Nat}{x:κ×β}(h:x∈bS es m seen):x∈m:=by
 obtain⟨p,hp,rfl⟩:=xan.1 h;exact(xdA (xbV.1 hp).1).2
theorem afh{v:zV}{a:Int}(h:v=kI .i64 a)(ha:0<=a):v=nI a.toNat:=by
 rw[h];unfold nI kI;rw[Int.toNat_of_nonneg ha]
variable {es:Array MapEntry} {ck b:Nat} {m:List (Int×Nat)}
theorem EU(B:Hp):Fc zQ 47 #[.map (some b)] B
  (λv H=>∃bm,v=.func (.func 100) #[] #[ptr bm]/\H=(bm,.cells #[.map (some b)] 88 zZ)::B):=by
 refine aF λg=>OW ?_;intro b1 _;exact aM.here ⟨b1,rfl,rfl⟩
noncomputable abbrev VFI:Func:=Tryz.f100
def ahu(g:Gh)(bi b:Nat)(l:Nat)(es:Array MapEntry)(ck:Nat)(m:List (Int×Nat))(G:zL->Hp->Prop)(B:Hp)(k:Nat)(a:Act)(w:World):Prop:=
 ∃(fr:Fr) (ss:zL) (A:Hp) (seen:Array Nat),xN [] 14 a fr/\fr 0=.func (.yield l) #[] #[]/\fr 5=ptr bi/\G ss A/\Own g (A++((bi,.mapIter (some b) ck seen ck)::B)) w/\
  (ss++(bS es m seen).map (λp=>p.1.toNat)).Perm (m.map (λp=>p.1.toNat))/\k=(bS es m seen).length
theorem BY{bm:Nat}{fz:Nat×Nat}(h:aE (kI .i64) (λv (r:Nat)=>v=u32 r) es ck m)(hpos:∀p∈m,0<=p.1):tW zQ 100 #[ptr bm] [(bm,.cells #[.map (some b)] 88 fz),(b,.map es ck)] nI m.length
  (λss=>ss.Perm (m.map (λp=>p.1.toNat))):=by
 intro g l G hY A W h0 hW;have hF:∀f,Fence.wide.fn f:=λ_=>trivial;refine callsIn_of_wp func100 rfl trivial ?_;have ha:=m6 (m:=14) (args:=[.func (.yield l) #[] #[],ptr bm]) zI;refine wpIn_seq ?_;refine wpIn_region_lit ?_;obtain⟨B,hB⟩:∃B,B=[(bm,Obj.cells #[.map (some b)] 88 fz),(b,.map es ck)]:=⟨_,rfl⟩;rw[<-hB]at hW;have uf:(bm,Obj.cells #[.map (some b)] 88 fz)∈A++B:=by rw[hB];exact xab _ (.head _)
 have lY:(b,Obj.map es ck)∈A++B:=by rw[hB];exact xab _ (.tail _ (.head _))
 have hmB:∀{X:Hp},(b,Obj.map es ck)∈X++B:=by intro X;rw[hB];exact xab _ (.tail _ (.head _))
 rw[<-hB];have e0:AS zQ g (fE VFI 0 0) (ev (gQ [.func (.yield l) #[] #[],ptr bm] 0)) (A++B) (λx=>x=.map (some b))=Ld (A++B) (ptr bm) (λx=>x=.map (some b)):=by kernel_rfl
 refine dD (g:=g) (n:=14) (v0:=.map (some b)) hF rfl zC rfl ha hW (e0.mpr (Ld.mk uf rfl rfl)) λa1 uj=>?_;refine u3 (g:=g) (n:=14) (s:=Instr.range 88 (.map (some b))) (K:=λv H=>∃bi,v=ptr bi/\H=(bi,.mapIter (some b) ck #[] ck)::(A++B)) hF rfl zC rfl uj rfl
  (Z5.run (.inr ⟨b,es,ck,rfl,lY,λbi _=>⟨bi,rfl,rfl⟩⟩) hW (t:=88) (kt:=3) (e:=110) zK) λv H' w1 a2 hv ju qt=>?_
 obtain⟨bi,rfl,rfl⟩:=hv;refine wpListIn_nil ?_;have pH:Own g (A++((bi,.mapIter (some b) ck #[] ck)::B)) w1:=ju.perm (xaS).symm;clear ju uj ha hW uf lY;refine wpIn_block ?_;refine uL (ahu g bi b l es ck m G B) (k:=(bS es m #[]).length) ⟨_,[],A,#[],qt,rfl,rfl,h0,pH,by rw[mz h];exact .refl _,rfl⟩ ?_;clear qt pH h0 e0 A;rintro k a w ⟨fr,ss,A,seen,ha,f0,f6,hG,hw,dc,hk⟩;refine wpIn_seq ?_;refine wpIn_region_lit ?_;have e6:ev fr (.tmp 5)=ptr bi:=f6;refine u3 (g:=g) (n:=14) (s:=Instr.next (ptr bi) false 0)
  (K:=λv H=>(bS es m seen=[]/\v=.tuple #[.bool false]/\H=A++((bi,.mapIter (some b) ck seen ck)::B))\/
   ∃(e:MapEntry) (x:Int×Nat) (seen':Array Nat),v=.tuple #[.bool true,e.key,e.val]/\e.key=nI x.1.toNat/\(bS es m seen).Perm (x::bS es m seen')/\seen'.back?=some e.born/\es.find? (·.born==e.born)=some e/\
    H=A++((bi,.mapIter (some b) ck seen' ck)::B)) hF rfl zC rfl ha ?_
  (XW.run (h.next (bi:=bi) (bm:=b) (seen:=seen) (H:=A++((bi,.mapIter (some b) ck seen ck)::B)) (xab _ (.tail _ (by rw[hB];exact .tail _ (.head _)))) (xab _ (.head _))
   (λe x seen' he hk hv hp hb hf=>⟨_,(c8.head _).cc A,.inr ⟨e,x,seen',rfl,afh hk (hpos x (EZ (hp.mem_iff.2 (.head _)))),hp,hb,hf,rfl⟩⟩) (λhu=>.inl ⟨hu,rfl,rfl⟩)) hw) λv H' w1 a1 hv ju uj=>?_
 ·rw[e6.symm];rfl
 rcases hv with⟨hu,rfl,rfl⟩|⟨e,x,seen',rfl,Gb,hp,hbk,hfi,rfl⟩
 ·refine dD (g:=g) (n:=14) (v0:=.bool false) hF rfl zC rfl uj ju ⟨_,_,rfl,rfl,rfl⟩ λa2 qt=>?_;refine wpListIn_nil ?_;refine wpIn_seq ?_;refine wpIn_cond_false (by rw[qt.eval];rfl) ?_;refine wpIn_exit ?_;simp only[Exit.then,Exit.inBlock,xa7,bodyPost];refine⟨qt.defers,_,results_none rfl _ _ _,⟨_,rfl⟩,ss,A,?_,hG,(ju.perm xaS).tail⟩;rw[hu,xck,xaL]at dc;exact dc
 refine dD (g:=g) (n:=14) (v0:=.bool true) hF rfl zC rfl uj ju ⟨_,_,rfl,rfl,rfl⟩ λa2 qt=>?_;refine wpListIn_nil ?_;refine wpIn_seq ?_;refine wpIn_cond_true (by rw[qt.eval];rfl) ?_;refine wpIn_skip ?_;refine wpIn_block ?_;refine wpIn_seq ?_;refine wpIn_region_lit ?_;refine u3 (g:=g) (n:=14) (s:=Instr.entry (ptr bi)) (K:=λv H=>v=.tuple #[e.key,e.val]/\H=A++((bi,.mapIter (some b) ck seen' ck)::B)) hF rfl zC rfl qt ?_ ?_ λv H' w2 a3 hv pH uD=>?_
 ·rw[e6.symm];rfl
 ·obtain⟨v,hr,hv⟩:=Ku.run (P:=zQ) (k:=λv=>v=.tuple #[e.key,e.val]) ⟨bi,b,ck,seen',e.born,ck,es,e,rfl,xab _ (.head _),hbk,xab _ (.tail _ (by rw[hB];exact .tail _ (.head _))),hfi,rfl⟩ ju;exact⟨v,w1,_,hr,ju,hv,rfl⟩
 obtain⟨rfl,rfl⟩:=hv;refine dD (g:=g) (n:=14) (v0:=nI x.1.toNat) hF rfl zC rfl uD pH ⟨_,_,rfl,rfl,Gb⟩ λa4 Gj=>?_;refine dD (g:=g) (n:=14) (v0:=nI x.1.toNat) hF rfl zC rfl Gj pH (show nI x.1.toNat=nI x.1.toNat from rfl) λa5 Gi=>?_;refine wpListIn_nil ?_;refine wpIn_seq ?_;refine wpIn_region_lit ?_;refine dD (g:=g) (n:=14) (v0:=.func (.yield l) #[] #[]) hF rfl zC rfl Gi pH f0 λa6 Gg=>?_;refine dD (g:=g) (n:=14) (v0:=nI x.1.toNat) hF rfl zC rfl Gg pH (show nI x.1.toNat=nI x.1.toNat from rfl) λa7 V4=>?_;have hlen:(bS es m seen).length=(bS es m seen').length+1:=by rw[hp.length_eq];rfl
 have hlt:ss.length<m.length:=by
  have:=dc.length_eq;simp only[xaf,xaC]at this⊢;omega
 obtain⟨fn,tmps,assign,body,hy,hR⟩:=hY _ x.1.toNat A _ w2 hG hlt pH;refine wpListIn_plain rfl λK hK=>⟨λ_ _=>trivial,?_⟩;rw[Oper.semAt_eq _ _ _ zC,V4.eval];have hex:∀F7:Fr,F7=br (br (br (br (br (br (br fr (some 6) (.tuple #[.bool true,e.key,e.val])) (some 7) (.bool true)) (some 8) (.tuple #[e.key,e.val])) (some 9) (nI x.1.toNat)) (some 3) (nI x.1.toNat)) (some 10) (.func (.yield l) #[] #[])) (some 11) (nI x.1.toNat)->(execOp (ev F7) (fE VFI 3 2)).run zQ w2=.ok (.round l fn tmps assign body) w2:=λF7 hF7=>by
  have v11:ev F7 (.tmp 10)=.func (.yield l) #[] #[]:=by rw[hF7];rfl
  have v12:ev F7 (.tmp 11)=nI x.1.toNat:=by rw[hF7];rfl
  have ZO:execOp (ev F7) (fE VFI 3 2)=(do let d <-resolve (ev F7) {callee:=.value (.tmp 10),args:=#[.tmp 11],argTypes:=#[3]} 4;invoke d.target d.args):=rfl;rw[ZO];simp[resolve,Deferred.ofValue,v11,v12,invoke,go_sem,hy]
 refine(xcj (Oper.uponIn Fence.wide 0 zQ (fE VFI 3 2) a7 K _) (hex _ rfl)).mpr ⟨λh=>(by cases h),hR.mono ?_⟩;rintro e' w3 ⟨rfl,A',hG',Vz⟩;refine hK _ _ ?_;have ha8:=V4.put (d:=some 12) rfl (.bool true);refine dD (g:=g) (n:=14) (v0:=.bool false) hF rfl zC rfl ha8 Vz ⟨_,rfl,rfl⟩ λa9 ha9=>?_;refine wpListIn_nil ?_;refine wpIn_cond_false (by rw[ha9.eval];rfl) ?_;refine wpIn_skip ?_;refine⟨(bS es m seen').length,by omega,_,ss++[x.1.toNat],A',seen',ha9,f0,f6,hG',Vz,?_,rfl⟩;rw[xaj];exact((hp.map (λp=>p.1.toNat)).append_left ss).symm.trans dc
end
section
variable {sp kp mb nx:Nat} {c:Cf} {K:Kd} {S:Nat->aA.Fn} {ord ah tr:zL} {hs:List (Int×Nat)} {es:Array MapEntry} {ck:Nat} {C:Hp}
theorem Gf(h:iq kp nx c K S ord ah tr hs es ck C)(hl:hs.length<=1099511627776):
  Fc zQ 20 #[ptr sp] (gS sp c kp mb nx es ck C) (λv H=>∃N,H=N++gS sp c kp mb nx es ck C/\aN 3 .i64 v (iw (Ce (hs.map λp=>p.1.toNat))) N):=by
 refine aF λg=>O7 (ae.aH (Br.no (Ld.n (v:=.map (some mb)) ?_)));refine aa.fq (EU _) ?_;rintro w H ⟨bm,rfl,rfl⟩;refine aa.pre (H':=[(bm,.cells #[.map (some mb)] 88 zZ),(mb,.map es ck)]++(jN sp c kp mb nx::C)) (.perm (List.Perm.cons _ (List.Perm.swap _ _ _))) ?_;refine aa.fn .left (Fb (S:=λss=>ss.Perm (hs.map λp=>p.1.toNat)) (N:=hs.length) (BY (bm:=bm) (fz:=(0,0)) h.dL λp hp=>(h.lt p hp).1) (λss YR=>by have:=YR.length_eq;rw[xaC]at this;omega) zK hl) ?_;rintro v H ⟨ss,N,YR,rfl,ho⟩;rw[Uz YR]at ho;refine aM.mk ?_ ⟨N,rfl,ho⟩;rw[xaj];refine .cU ?_ N;exact .skip (.perm (List.Perm.swap _ _ _))
end
section
variable {sp nx:Nat} {c:Cf} {F:FS} {ord tr:zL} {H:Hp}
def hsN(F:FS):zL:=Ce (F.map λp=>p.1.toNat)
theorem DB(h:kj sp c nx F ord tr H)(hl:F.length<=1099511627776):Fc zQ 20 #[ptr sp] H (λv H'=>∃N,H'=N++H/\aN 3 .i64 v (iw (hsN F)) N):=by
 obtain⟨kp,mb,K,S,ah,hs,es,ck,C,rfl,h,rfl⟩:=h;have e:(jU S hs).map (λp=>p.1.toNat)=hs.map λp=>p.1.toNat:=by unfold jU;rw[xb2];rfl
 unfold hsN;rw[e];exact Gf h (by unfold jU at hl;rwa [xaC]at hl)
theorem wm(h:kj sp c nx F ord tr H)(hl:F.length<=1099511627776):Fc zQ 20 #[ptr sp] H (λv H'=>∃l N,H'=N++H/\l.Perm (F.map λp=>p.1.toNat)/\aN 3 .i64 v (iw l) N):=
 (DB h hl).mono λv H' ⟨N,e,ho⟩=>⟨_,N,e,lj _,ho⟩
end
section
variable {sp bp nx:Nat} {c d:Cf} {F:FS} {ord tr o2 qQ:zL} {B H1 H2:Hp} {sv:zV}
theorem VX{i:Nat}(hi:i∈F.map λp=>p.1.toNat)(h0:∀p∈F,0<=p.1):dg F (i:Int)=true:=by
 obtain⟨p,hp,e⟩:=xan.1 hi;have:=h0 p hp;unfold dg aJ;cases hf:F.find? (λq=>decide (q.1=(i:Int)))with
 |some q=>rfl
 |none=>
  have:=xcy.1 hf p hp;simp only[xar]at this;exact absurd zO this
theorem Tv(h1:kj sp c nx F ord tr H1)(h2:kj bp d nx F o2 qQ H2)(hF:F.length<=1099511627776)(hL:dz .i64 B sv (iw (List.range nx))):
  Rd zQ 39 #[ptr sp,ptr bp,sv] (H1++(H2++B)) (· =.bool true):=by
 refine aF λg=>O1 (aa.fn .left (wm h1 hF) ?_);rintro v H ⟨l,N,rfl,hp,ho⟩;have ng:l.length=F.length:=by rw[hp.length_eq,xaC]
 have hlm:∀j (hj:j<l.length),dg F (l[j]:Int)=true/\l[j]<nx:=λj hj=>by
  have hm:l[j]∈F.map λp=>p.1.toNat:=hp.mem_iff.1 (xaF hj);refine⟨VX hm λp hp=>(h1.lt p hp).1,?_⟩;obtain⟨p,hp,e⟩:=xan.1 hm;have:=h1.lt p hp;omega
 refine⟨λvs H=>∃j:Nat,vs=[i64 (j:Int)]/\j<=l.length/\H=N++(H1++(H2++B)),λvs _=>l.length-bL vs 0,JE.of aL.assoc ⟨0,rfl,xaN _,rfl⟩,?_⟩;rintro w H ⟨j,⟨⟩,hj,rfl⟩ gs;have inB:∀y∈B,y∈N++(H1++(H2++B)):=λy hy=>xab _ (xab _ (xab _ hy));refine ho.bP ?_;rw[ak];refine ae.fk (Br.dec (λhlt=>?_) (λhge=>?_))
 ·obtain⟨hh,hn⟩:=hlm j hlt;have get:=cQ (xaa hlt);refine ho.ints.ld get (λ_ h=>xae _ h) (ae.lss (cm.or (a:=decide (((l[j]:Nat):Int)<0)) false (λ_=>?_) rfl λ_=>?_))
  ·refine ho.ints.ld get (λ_ h=>xae _ h) (hL.bP ?_);rw[ak,xaz];exact ae.qM ⟨rfl,by rw[xai zO]⟩
  rw[xai zO];refine Br.no (⟨λvs H=>∃y:Nat,vs=[u64 y]/\y<=64/\H=N++(H1++(H2++B)),λvs _=>64-bL vs 0,JE.mk ⟨0,rfl,xaN _,rfl⟩,?_⟩);rintro w H ⟨y,⟨⟩,hy,rfl⟩ gs;refine ae.fk (b:=64) (Br.dec (λgR=>?_) (λRR=>?_))
  ·refine ho.ints.ld get (λ_ h=>xae _ h) (Build.mk (cs:=fZ.cells ⟨14,((l[j]:Nat):Int),0,0,y⟩) zK (aa.eh (.app .left) (zu h1 hh zO) λb30 _=>?_));refine St.p (r:=[i64 0,i64 (-1),u64 (fF F ((l[j]:Nat):Int) y).toNat,i64 0]) (bC _ _ _ _) (ho.ints.ld get (λ_ h=>.tail _ (xae _ h)) (ux hL zO (λy hy=>.tail _ (inB y hy)) ?_));refine Build.mk (cs:=fZ.cells ⟨14,((l[j]:Nat):Int),0,0,y⟩) zK (aa.eh (.cons (.app (.app .left))) (zu h2 hh zO) λb40 _=>?_);refine St.p (r:=[i64 0,i64 (-1),u64 (fF F ((l[j]:Nat):Int) y).toNat,i64 0]) (bC _ _ _ _) ?_;refine Ld.f (v:=i64 0) ?_;refine ae.cD (cm.or (a:=decide ((0:Int)≠0)) false (λ_=>Ld.f (v:=i64 0) (ae.cD ⟨rfl,rfl⟩)) rfl λ_=>?_);refine cm.or (a:=decide ((0:Int)≠0)||false) false (λ_=>Ld.f (v:=u64 (fF F ((l[j]:Nat):Int) y).toNat) (Ld.f (v:=u64 (fF F ((l[j]:Nat):Int) y).toNat) (ae.cD ⟨rfl,by simp⟩))) rfl λ_=>?_;refine Br.TQ ?_ ?_
   ·decide
   exact ae.inc (aC.of (.skip .tail) ⟨y+1,rfl,gR,rfl⟩ (by simp only[bL];omega))
  exact ae.inc (aC.mk ⟨j+1,rfl,hlt,rfl⟩ (by simp only[bL];omega))
 refine ho.bP ?_;rw[ak];refine aa.fn (.app (.app .left)) (wm h2 hF) ?_;rintro v H ⟨l2,N2,rfl,kT,r9⟩;refine r9.bP ?_;rw[ak];refine ae.dQ (aZ.mk (.fT (.cU (aL.assoc.trans .right) _)) ?_);rw[xal (by rw[ng,kT.length_eq,xaC])]
end
theorem Want.uniq{n nx:Nat}{F:FS}{x:fZ}{e e' h h':Int}{N N':Nat}{F1 F2:FS}{n1 n2:Nat}(ho:(1<=x.op/\x.op<=16)\/x.op=19\/x.op=20)(a:Want n nx F x e h N F1 n1)(b:Want n nx F x e' h' N' F2 n2):e=e'/\h=h'/\N=N'/\F1=F2/\n1=n2:=by
 unfold Want at a b;cases hm:dA x.op with
 |some p=>
  obtain⟨w,f⟩:=p;rw[hm]at a b;dsimp only at a b;by_cases hl:gD n F w x=0
  ·rw[xad hl]at a b;obtain⟨rfl,rfl,rfl,rfl,rfl⟩:=a;obtain⟨rfl,rfl,rfl,rfl,rfl⟩:=b;exact⟨rfl,rfl,rfl,rfl,rfl⟩
  rw[xac hl]at a b;obtain⟨rfl,rfl,rfl,rfl,rfl⟩:=a;obtain⟨rfl,rfl,rfl,rfl,rfl⟩:=b;exact⟨rfl,rfl,rfl,rfl,rfl⟩
 |none=>
  rw[hm]at a b;dsimp only at a b;by_cases NK:x.op=12
  ·rw[xad NK]at a b;split at a<;>rename_i hh
   ·rw[xad hh]at b;obtain⟨rfl,rfl,rfl,rfl,rfl⟩:=a;obtain⟨rfl,rfl,rfl,rfl,rfl⟩:=b;exact⟨rfl,rfl,rfl,rfl,rfl⟩
   rw[xac hh]at b;obtain⟨rfl,rfl,rfl,rfl,rfl⟩:=a;obtain⟨rfl,rfl,rfl,rfl,rfl⟩:=b;exact⟨rfl,rfl,rfl,rfl,rfl⟩
  rw[xac NK]at a b;by_cases h13:x.op=13
  ·rw[xad h13]at a b;split at a<;>rename_i hh
   ·rw[xad hh]at b;obtain⟨rfl,rfl,rfl,rfl,rfl⟩:=a;obtain⟨rfl,rfl,rfl,rfl,rfl⟩:=b;exact⟨rfl,rfl,rfl,rfl,rfl⟩
   rw[xac hh]at b;obtain⟨rfl,rfl,rfl,rfl,rfl⟩:=a;obtain⟨rfl,rfl,rfl,rfl,rfl⟩:=b;exact⟨rfl,rfl,rfl,rfl,rfl⟩
  rw[xac h13]at a b;obtain⟨rfl,rfl,rfl,a⟩:=a;obtain⟨rfl,rfl,rfl,b⟩:=b;have hop:x.op=14\/x.op=15\/x.op=16\/x.op=19\/x.op=20:=by
   rcases ho with ho|ho
   ·have:¬x.op<=11:=λh11=>by
     have:x.op=1\/x.op=2\/x.op=3\/x.op=4\/x.op=5\/x.op=6\/x.op=7\/x.op=8\/x.op=9\/x.op=10\/x.op=11:=by omega
     rcases this with e|e|e|e|e|e|e|e|e|e|e<;>rw[e]at hm<;>cases hm
    omega
   omega
  have a:=a hop;have b:=b hop;split at a<;>rename_i hh
  ·rw[xad hh]at b;obtain⟨a1,a2,a3,a4,a5⟩:=a;obtain⟨b1,b2,b3,b4,b5⟩:=b;have:e=e'/\N=N':=by
    rcases hop with o|o|o|o|o
    ·obtain⟨rfl,rfl⟩:=a1 o;obtain⟨rfl,rfl⟩:=b1 o;exact⟨rfl,rfl⟩
    ·obtain⟨rfl,rfl⟩:=a2 o;obtain⟨rfl,rfl⟩:=b2 o;exact⟨rfl,rfl⟩
    ·obtain⟨rfl,rfl⟩:=a3 o;obtain⟨rfl,rfl⟩:=b3 o;exact⟨rfl,rfl⟩
    ·rcases a4 o with⟨x1,rfl,rfl⟩|⟨x1,rfl,x2⟩
     ·rcases b4 o with⟨y1,rfl,rfl⟩|⟨y1,_⟩
      ·exact⟨rfl,rfl⟩
      exact absurd x1 y1
     rcases b4 o with⟨y1,_⟩|⟨y1,rfl,y2⟩
     ·exact absurd y1 x1
     exact⟨rfl,x2.uniq y2⟩
    obtain⟨rfl,x1⟩:=a5 o;obtain⟨rfl,y1⟩:=b5 o;exact⟨rfl,x1.uniq y1⟩
   exact⟨this.1,rfl,this.2,rfl,rfl⟩
  rw[xac hh]at b;obtain⟨rfl,rfl⟩:=a;obtain⟨rfl,rfl⟩:=b;exact⟨rfl,rfl,rfl,rfl,rfl⟩
section
variable {n nx kD sp:Nat} {F F':FS} {x:fZ} {e h:Int} {N:Nat} {c:Cf} {ord tr:zL} {H:Hp}
theorem kj.has(hS:kj sp c nx F ord tr H){i:Int}(hi:dg F i=true):0<=i/\i<nx:=by
 unfold dg aJ at hi;cases hf:F.find? (λq=>decide (q.1=i))with
 |none=>rw[hf]at hi;cases hi
 |some q=>
  have h1:=xdD hf;have h2:=xew hf;have:=hS.lt q h1;simp only[xar]at h2;omega
theorem Nj{w:Nat}(hb:((decide (w&&&1≠0) && !dg F x.a)||(decide (w&&&2≠0) && !dg F x.b)||(decide (w&&&4≠0) && !dg F x.c))=true):gD n F w x≠0:=by
 unfold gD;rw[xad hb]
 repeat' split
 all_goals decide
theorem Want.hh(hW:Want n nx F x e h N F' kD):(h=nx/\kD=nx+1/\F'.length=F.length+1)\/(h= -1/\kD=nx/\F'.length<=F.length):=by
 unfold Want at hW;cases hm:dA x.op with
 |some p=>
  rw[hm]at hW;dsimp only at hW;split at hW
  ·obtain⟨_,a,_,b,d⟩:=hW;exact .inl ⟨a,d,by rw[b,xaf,xbP]⟩
  obtain⟨_,a,_,b,d⟩:=hW;exact .inr ⟨a,d,by rw[b];exact xag _⟩
 |none=>
  rw[hm]at hW;dsimp only at hW;split at hW
  ·split at hW
   ·obtain⟨_,a,_,b,d⟩:=hW;exact .inl ⟨a,d,by rw[b,xaf,xbP]⟩
   obtain⟨_,a,_,b,d⟩:=hW;exact .inr ⟨a,d,by rw[b];exact xag _⟩
  split at hW
  ·split at hW
   ·obtain⟨_,a,_,b,d⟩:=hW;exact .inr ⟨a,d,by rw[b];exact xbO _ _⟩
   obtain⟨_,a,_,b,d⟩:=hW;exact .inr ⟨a,d,by rw[b];exact xag _⟩
  obtain⟨a,b,d,_⟩:=hW;exact .inr ⟨a,d,by rw[b];exact xag _⟩
theorem Want.rest(hW:Want n nx F x e h N F' kD)(ho:¬(1<=x.op/\x.op<=13)):h= -1/\F'=F/\kD=nx:=by
 unfold Want at hW;cases hm:dA x.op with
 |some p=>have:=Dg hm;omega
 |none=>
  rw[hm]at hW;dsimp only at hW;rw[xac zO,xac zO]at hW;exact⟨hW.1,hW.2.1,hW.2.2.1⟩
theorem Want.none(hW:Want n nx F x e h N F' kD)(hk:∀i,dg F i=true->0<=i/\i<nx)(hm:xV nx x=false):h= -1/\F'=F/\kD=nx:=by
 by_cases ho:¬(1<=x.op/\x.op<=13)
 ·exact hW.rest ho
 have no:∀i,mJ nx i=true->dg F i=false:=λi hi=>by
  cases hf:dg F i with
  |false=>rfl
  |true=>
   have:=hk i hf;unfold mJ at hi;rw[xa1,xar,xar]at hi;omega
 unfold xV at hm;have hm':((waB x.op&&mJ nx x.a||X5 x.op&&mJ nx x.b)||X4 x.op&&mJ nx x.c)=true:=by rw[Bool.not_eq_eq_eq_not]at hm;exact hm
 have key:∀w f,dA x.op=some (w,f)->((decide (w&&&1≠0) && !dg F x.a)||(decide (w&&&2≠0) && !dg F x.b)||(decide (w&&&4≠0) && !dg F x.c))=true->h= -1/\F'=F/\kD=nx:=λw f hmk hb=>by
  unfold Want at hW;rw[hmk]at hW;dsimp only at hW;rw[xac (Nj hb)]at hW;exact⟨hW.2.1,hW.2.2.2⟩
 have two:∀{p q r:Bool},(p||q||r)=true->p=true\/q=true\/r=true:=λ{p q r} h=>by cases p<;>cases q<;>cases r<;>simp_all
 have hop:x.op=1\/x.op=2\/x.op=3\/x.op=4\/x.op=5\/x.op=6\/x.op=7\/x.op=8\/x.op=9\/x.op=10\/x.op=11\/x.op=12\/x.op=13:=by omega
 have na:∀{b:Bool} {i:Int},(b&&mJ nx i)=true->dg F i=false:=λ{b i} h=>no i (by cases b<;>simp_all);rcases hop with o|o|o|o|o|o|o|o|o|o|o|o|o
 ·rw[o]at hm';exact absurd hm' (by simp[waB,X5,X4])
 ·rw[o]at hm';exact absurd hm' (by simp[waB,X5,X4])
 ·refine key 1 _ (by rw[o];rfl) ?_;rcases two hm' with q|q|q
  ·rw[na q];rfl
  ·rw[o]at q;cases q
  rw[o]at q;cases q
 ·refine key 3 _ (by rw[o];rfl) ?_;rcases two hm' with q|q|q
  ·rw[na q];rfl
  ·rw[na q];simp
  rw[o]at q;cases q
 ·refine key 3 _ (by rw[o];rfl) ?_;rcases two hm' with q|q|q
  ·rw[na q];rfl
  ·rw[na q];simp
  rw[o]at q;cases q
 ·refine key 3 _ (by rw[o];rfl) ?_;rcases two hm' with q|q|q
  ·rw[na q];rfl
  ·rw[na q];simp
  rw[o]at q;cases q
 ·refine key 7 _ (by rw[o];rfl) ?_;rcases two hm' with q|q|q
  ·rw[na q];rfl
  ·rw[na q];simp
  rw[na q];simp
 ·refine key 81 _ (by rw[o];rfl) ?_;rcases two hm' with q|q|q
  ·rw[na q];rfl
  ·rw[o]at q;cases q
  rw[o]at q;cases q
 ·refine key 129 _ (by rw[o];rfl) ?_;rcases two hm' with q|q|q
  ·rw[na q];rfl
  ·rw[o]at q;cases q
  rw[o]at q;cases q
 ·refine key 129 _ (by rw[o];rfl) ?_;rcases two hm' with q|q|q
  ·rw[na q];rfl
  ·rw[o]at q;cases q
  rw[o]at q;cases q
 ·refine key 21 _ (by rw[o];rfl) ?_;rcases two hm' with q|q|q
  ·rw[na q];rfl
  ·rw[o]at q;cases q
  rw[na q];simp
 ·have ha:dg F x.a=false:=by
   rcases two hm' with q|q|q
   ·exact na q
   ·rw[o]at q;cases q
   rw[o]at q;cases q
  unfold Want at hW;rw[show dA x.op=Option.none by rw[o];rfl]at hW;dsimp only at hW;rw[xad o,xac (by rw[ha];decide)]at hW;exact⟨hW.2.1,hW.2.2.2⟩
 have ha:dg F x.a=false:=by
  rcases two hm' with q|q|q
  ·exact na q
  ·rw[o]at q;cases q
  rw[o]at q;cases q
 unfold Want at hW;rw[show dA x.op=Option.none by rw[o];rfl]at hW;dsimp only at hW;rw[xac zO,xad o,xac (by rw[ha];decide)]at hW;exact⟨hW.2.1,hW.2.2.2⟩
theorem AG(hc:c.Ok):Fc zQ 14 #[.agg c.cells.toArray] [] (λv H=>∃sp,v=.tuple #[ptr sp,i64 0]/\kj sp c 0 [] (List.range c.n) [] H):=by
 refine Qc c.i (λh=>absurd hc.pe h) λd hd hok sp kp mb C hK=>?_;have:d=c:=by
  obtain⟨a1,a2,a3,a4,a5⟩:=d;obtain⟨b1,b2,b3,b4,b5⟩:=c;simp only[Cf.i,Ap.mk.injEq]at hd;simp only[Cf.mk.injEq];omega
 subst this;exact⟨sp,rfl,Vw hK⟩
end
end
end Go.Proofs
