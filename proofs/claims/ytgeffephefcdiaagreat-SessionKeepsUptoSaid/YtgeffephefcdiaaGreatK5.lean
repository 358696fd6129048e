import Derived.Test.YtgeffephefcdiaaGreatK4
import Derived.Test.YtgeffephefcdiaaGreatK3
import Derived.Test.YtgeffephefcdiaaGreatK2
import Derived.Test.YtgeffephefcdiaaGreatK1
set_option linter.unusedVariables false
set_option linter.unusedSimpArgs false
set_option linter.unusedSectionVars false
set_option maxRecDepth 100000
namespace Go.Proofs
open Go Go.Sx Tryz
section
open aA TL
theorem Mu{pt n v:Nat}{T:Nd->Option Nat}{C:Hp}(h:oo pt n T C)(hv:v<n):
  Rd zQ 331 #[ptr pt,iv (v:Int)] C (λr=>∃l:List (Nd×Nat),(l.map Prod.fst).Nodup/\(∀d r,(d,r)∈l↔T d=some r/\d.v=v)/\r=.tuple #[iv ((l.length:Nat):Int),iv 0]):=by
 have h0:=h;obtain⟨vs,Cs,ms,rfl,hs,ho⟩:=h;obtain⟨m,hm⟩:∃m,ms[v]? =some m:=⟨_,xaa (by rw[ho.len];exact hv)⟩;have he:=ho.dD v m hm;have hT:∀d:Nd,d.v=v->T d=aJ m.l d:=λd hd=>by rw[ho.T,hd,hm];rfl
 have hmem:∀d r,(d,r)∈m.l↔T d=some r/\d.v=v:=λd r=>by
  constructor
  ·intro hx;have hd:=ho.var v m hm _ hx;exact⟨by rw[hT d hd];exact(dS he.nd).2 hx,hd⟩
  rintro⟨h1,h2⟩;rw[hT d h2]at h1;exact(dS he.nd).1 h1
 refine aE λg=>HV (aa.eq (k8 h0 hv) (ae.cL (Br.F (Nil.ptr ?_))));refine ai.mk (Ld.mk zM rfl ?_);refine hs.Xh (x:=.map (some m.b)) (by rw[xat,hm];rfl) (λ_ h=>by exact .tail _ (xad _ h)) ?_;refine he.Q2 (b:=m.b) (by exact .tail _ (xab _ (rh hm))) ?_;exact bg.mk (.refl _) ⟨m.l,he.nd,hmem,rfl⟩
section
variable {kp v gr:Nat} {K:Kd} {S:Nat->aA.Fn} {ord tr:zL} {C:Hp}
theorem Nl{ah:zL}(h:cS kp K ord ah tr C)(hv:v<K.n):Rd zQ 262 #[ptr kp,iv (v:Int)] C (λr=>∃l:List (Nd×Nat),(l.map Prod.fst).Nodup/\(∀d r,(d,r)∈l↔K.T d=some r/\d.v=v)/\r=.tuple #[iv ((l.length:Nat):Int),iv 0]):=by
 have h0:=h;obtain⟨b,rfl,hO⟩:=h;refine aE λg=>IT (ae.aH (Br.no (aa.eq (rz h0 (v:Int)) ?_)));rw[xan zO];refine Un.not (Br.no (Nil.ptr (ai.mk (Ld.f ?_))));refine aa.rq (Mu hO.ut hv) ?_;rintro r ⟨l,h1,h2,rfl⟩;exact Ext.mk rfl (Ext.mk rfl (bg.mk (.refl _) ⟨l,h1,h2,rfl⟩))
theorem Tk(h:At kp K S ord tr C)(hv:v<K.n):Rd zQ 262 #[ptr kp,iv (v:Int)] C (λr=>∃w:Nat,r=.tuple #[iv (w:Int),iv 0]):=by
 obtain⟨K',S',bW,h,hk⟩:=h;exact(Nl h.rep (by rw[hk.n];exact hv)).mono λr H ⟨e,l,_,_,h3⟩=>⟨e,_,h3⟩
theorem VS{h:zV}{l:List It}{C:Hp}(hi:WX h l C):Rd zQ 264 #[h] C (· =iv ((l.length:Nat):Int)):=by
 obtain⟨f,⟨bh,sv,mv,Cs,Cm,rfl,rfl,hs,hm,hne⟩,_⟩:=hi;refine aE λg=>IQ (ae.aH (Br.no (Ld.n ?_)));refine hs.bP ?_;rw[cR];exact bg.mk (.refl _) rfl
def sln:List zV->Nat
 | .slice _ n _::_=>n
 |_=>0
theorem Qz(h:At kp K S ord tr C):Fc zQ 187 #[ptr kp] C (λr H=>∃N l,H=N++C/\l.Perm (List.range K.n)/\aO 3 .i64 r (iw l) N):=by
 have hn:=h.lB;refine aE λg=>Jz (ae.aH (Br.no (aa.fq (VN C) ?_)));rintro w H ⟨bh,C0,rfl,rfl,F8⟩;refine aa.eq (m4 h) (⟨λvs H=>∃(i:Nat) (l:List It) (C':Hp),vs=[iv (i:Int)]/\i<=K.n/\H=C'++C/\WX (.pointer (some ⟨bh,0,none⟩)) l C'/\(l.map Prod.fst).Perm (iw (List.range i)),λvs _=>K.n-bJ vs 0,JE.mk ⟨0,[],C0,rfl,xaM _,rfl,F8,.refl _⟩,?_⟩);rintro w H ⟨i,l,C',⟨⟩,hi,rfl,hh,hp⟩ gs;have ni:l.length=i:=by have:=hp.length_eq;simpa[iw]using this
 refine ae.eZ (Br.dec (λhlt=>?_) (λhge=>?_))
 ·refine aa.rq (Tk h hlt) ?_;rintro r ⟨w,rfl⟩;refine Ext.two (⟨_,rfl,?_⟩);refine aa.fq (RF hh zO _ _) ?_;rintro r C2 ⟨l2,hh2,⟨hin,_⟩|⟨_,rfl,c8⟩⟩
  ·exfalso;have:=hp.mem_iff.1 hin;rw[QY,xaN]at this;omega
  refine ae.inc (aC.mk ⟨i+1,l2,C2,rfl,hlt,rfl,hh2,?_⟩ (by simp only[bJ];omega));refine(c8.map _).trans ?_;rw[xay,xci,cg];exact(List.Perm.cons _ hp).trans (xbb (l₁:=[((i:Nat):Int)]))
 obtain rfl:i=K.n:=by omega
 refine⟨λvs H=>∃(s:zV) (done:zL) (l:List It) (CS C':Hp),vs=[s]/\H=CS++(C'++C)/\WX (.pointer (some ⟨bh,0,none⟩)) l C'/\aO 3 .i64 s (iw done) CS/\(iw done++l.map Prod.fst).Perm (iw (List.range K.n)),λvs _=>K.n-sln vs,JE.mk ⟨_,[],l,[],C',rfl,rfl,hh,aO.nil,hp⟩,?_⟩;clear hp hh ni;rintro w H ⟨s,done,l,CS,C',⟨⟩,rfl,hh,hs,hp⟩ gs;have hlen:done.length+l.length=K.n:=by have:=hp.length_eq;simpa[iw]using this
 refine aa.eq (VS hh) (ae.ny (b:=0) (Br.dec (λhlt=>?_) (λhge=>?_)))
 ·refine aa.fq (VL hh zO) ?_;rintro r C2 ⟨l2,hh2,⟨rfl,_⟩|⟨a,c8,_,rfl⟩⟩
  ·simp at hlt
  have ha:a.1∈iw (List.range K.n):=hp.mem_iff.1 (xab _ (xaR (c8.mem_iff.2 (.head _))));obtain⟨x,hx,hxa⟩:=xam.1 ha;refine Ext.mk rfl (Ext.mk rfl (Ext.mk rfl ?_));rw[<-hxa];refine au.int (e:=3) zK zK zK λbx=>?_;refine hs.pC (x:=(x:Int)) (.cons .left) (by exact .head _) (by rw[aq];omega) (by rw[aq];omega) λs2 CS2 sK=>?_;have lY:(iw (done++[x])++l2.map Prod.fst).Perm (iw (List.range K.n)):=by
   refine .trans ?_ hp;rw[cg,xai];refine xbY _ ?_;refine .trans ?_ (c8.map _).symm;rw[xay,<-hxa];exact .refl _
  have e1:∀{s:zV} {done:zL} {CS:Hp},aO 3 .i64 s (iw done) CS->sln [s]=done.length:=λ{s done CS} h=>by
   obtain⟨a,c,h⟩:=aV.len h;rw[h];simp[sln,iw]
  refine aC.of .tail ⟨s2,done++[x],l2,CS2,C2,rfl,rfl,hh2,by rw[cg];exact sK,lY⟩ ?_;rw[e1 (done:=done++[x]) (by rw[cg];exact sK),e1 hs,xaf,xcj];have:=c8.length_eq;rw[xaw]at this;omega
 have hl0:l=[]:=xcM.1 zO;subst hl0;rw[xb6,xaL]at hp;obtain⟨l',hl',e⟩:=UZ hp;rw[e]at hs;exact aM.mk (aN.cU .right CS) ⟨CS,l',rfl,hl',hs⟩
theorem Cr(h:At kp K S ord tr C)(hp:ord.Perm (List.range K.n))(mw:100<=gr/\gr<=1000)(eM:tr.length<17317308137472):
  Fc zQ 135 #[ptr kp,iv (gr:Int)] C (λv H=>∃l,l.Perm (List.range K.n)/\v=.tuple #[rep (cF K S ord) (cF K S (az ord ((rm K S).cr gr ord l).1)) ((rm K S).cr gr ord l).2,iv 0]/\At kp K S (az ord ((rm K S).cr gr ord l).1) (tr++((rm K S).cr gr ord l).1) H):=by
 have hn:=h.lB;have v9:(rm K S).n=K.n:=rfl;refine aE λg=>JY λb1 _=>?_;refine aa.eq (p7 kp (gr:=(gr:Int)) C) ?_;rw[xac zO];refine ae.cL (Br.F (aa.eq (cE h) (Build.mk (cs:=[iv ((cF K S ord:Nat):Int),iv 0,iv 0,.bool false]) zK λT6 _=>?_)));refine St.q ?_;refine aa.fq (Qz h) ?_;rintro s H ⟨NQ,l,rfl,hl,hQ⟩;have ni:l.length=K.n:=by rw[hl.length_eq,xaJ]
 refine hQ.bP ?_;rw[aq,ni];refine⟨λvs H=>∃(i:Nat) (C':Hp),vs=[iv (i:Int)]/\i<=K.n/\H=(T6,.cells (List.toArray [iv ((cF K S ord:Nat):Int),iv 0,iv ((((rm K S).cr gr ord (l.take i)).2:Nat):Int),.bool false]) 147 zZ)::(b1,.cells #[iv 0,iv 0,iv 0,.bool false] 147 zZ)::(NQ++C')/\At kp K S (az ord ((rm K S).cr gr ord (l.take i)).1) (tr++((rm K S).cr gr ord (l.take i)).1) C',
  λvs _=>K.n-bJ vs 0,JE.mk ⟨0,C,rfl,xaM _,rfl,by simpa[Rm.cr,az]using h⟩,?_⟩
 rintro w H ⟨i,C',⟨⟩,hi,rfl,hA⟩ gs;have hok:=mG (m:=rm K S) (g:=gr) (l:=l.take i) hp (λv hv=>xaN.1 (hl.mem_iff.1 (xcD hv)));have hlt:(l.take i).length<=64:=by rw[xbB];omega
 have h1:=hok.len;have h2:=hok.uW;have h3:(rm K S).n*(l.take i).length<=64*64:=xbP hn hlt;have h4:3*((rm K S).n-1)*(l.take i).length<=(3*64)*64:=xbP (xdb _ (by rw[v9];omega)) hlt;have YU:=mE hp hok.mem;refine ae.eZ (Br.dec (λhlt=>?_) (λhge=>?_))
 ·have RO:i<l.length:=by omega
  have nv:l.take (i+1)=l.take i++[l[i]]:=xaZ RO;refine hQ.ld (x:=((l[i]:Nat):Int)) (cP (xaa RO)) (λ_ h=>.tail _ (.tail _ (xad _ h))) ?_;have Pf:l[i]<K.n:=xaN.1 (hl.mem_iff.1 (xaB RO));refine aa.fq (UA hA YU Pf mw (by rw[xaf];omega) rfl) ?_;rintro w C2 ⟨rfl,n5⟩;have uE:=(rm K S).AG gr (ord:=az ord ((rm K S).cr gr ord (l.take i)).1) (FV YU Pf);have BI:=uE.uW;rw[v9]at BI;have VH:=yG (m:=rm K S) (g:=gr) (v:=l[i]) (l:=l.take i) (ord:=ord);rw[<-nv]at VH;rw[xai,<-cq]at n5;refine Ext.two λb30 _=>(St.q ?_);refine Ld.f ?_;refine Ld.f ?_;refine ae.fH (ai.mk (St.one (c':=List.toArray [iv ((cF K S ord:Nat):Int),iv 0,iv ((((rm K S).cr gr ord (l.take (i+1))).2:Nat):Int),.bool false]) (by exact .tail (.head _)) rfl zI (by rw[VH];rfl) ?_));exact ae.inc (aC.of .tail ⟨i+1,C2,rfl,hlt,rfl,by rw[VH];exact n5⟩ (by simp only[bJ];omega))
 obtain rfl:i=K.n:=by omega
 rw[show l.take K.n=l from by rw[<-ni];exact xba]at hA⊢;refine aa.eq (cE hA) (ai.mk (St.one (c':=List.toArray [iv ((cF K S ord:Nat):Int),iv ((cF K S (az ord ((rm K S).cr gr ord l).1):Nat):Int),iv ((((rm K S).cr gr ord l).2:Nat):Int),.bool false]) (by exact .head _) rfl zI rfl ?_));refine ay.q ?_;refine St.q ?_;refine ay.q ?_;exact aM.mk (.skip (.skip .right)) ⟨l,hl,rfl,hA⟩
end
end
section
open aA
section
variable {kp v gr:Nat} {K:Kd} {S:Nat->aA.Fn} {ord tr:zL} {C:Hp}
theorem Cd(h:At kp K S ord tr C)(hp:ord.Perm (List.range K.n))(mw:100<=gr/\gr<=1000)(eM:tr.length<17042430230528):
  Fc zQ 136 #[ptr kp,iv (gr:Int)] C (λv H=>∃ls,(∀l∈ls,l.Perm (List.range K.n))/\(rm K S).tJ gr ord ls/\v=.tuple #[rep (cF K S ord) (cF K S (az ord ((rm K S).df gr ord ls).1)) ((rm K S).df gr ord ls).2,iv ((ls.length:Nat):Int),iv 0]/\At kp K S (az ord ((rm K S).df gr ord ls).1) (tr++((rm K S).df gr ord ls).1) H):=by
 have hn:=h.lB;have hsz:=gu h;have v9:(rm K S).n=K.n:=rfl;have Du:∀o,(rm K S).size o=cF K S o:=λ_=>rfl;refine aE λg=>JX λb1 _=>?_;refine aa.eq (p7 kp (gr:=(gr:Int)) C) ?_;rw[xac zO];refine ae.cL (Br.F (aa.eq (cE h) (Build.mk (cs:=[iv ((cF K S ord:Nat):Int),iv 0,iv 0,.bool false]) zK λT6 _=>?_)));refine St.q ?_;refine⟨λvs H=>∃(ls:List (zL)) (af:Int) (C':Hp),vs=[iv ((ls.length+1:Nat):Int)]/\(∀l∈ls,l.Perm (List.range K.n))/\(rm K S).sR gr ord ls/\H=(T6,.cells (List.toArray [iv ((cF K S ord:Nat):Int),iv af,iv ((((rm K S).df gr ord ls).2:Nat):Int),.bool false]) 147 zZ)::(b1,.cells #[iv 0,iv 0,iv 0,.bool false] 147 zZ)::C'/\At kp K S (az ord ((rm K S).df gr ord ls).1) (tr++((rm K S).df gr ord ls).1) C',
  λvs _=>cF K S ord+1-bJ vs 0,JE.mk ⟨[],0,C,rfl,by simp,trivial,rfl,by simpa[Rm.df,az]using h⟩,?_⟩
 rintro w H ⟨ls,af,C',⟨⟩,hls,hgd,rfl,hA⟩ gs;obtain⟨g1,g2,g3,g4⟩:=zm hp hls hgd;rw[v9]at g1 g3 g4;rw[Du,Du]at g2;have ni:ls.length<=1048576:=by omega
 have h3:3*(K.n-1)*K.n*ls.length<=(3*64*64)*1048576:=xbP (xbP (xdb _ zO) hn) ni;have h4:K.n*K.n*ls.length<=(64*64)*1048576:=xbP (xbP hn hn) ni;have YU:=mE hp g1;refine aa.fq (Cr hA YU mw (by rw[xaf];omega)) ?_;rintro w C2 ⟨l,hl,rfl,n5⟩;have hok:=mG (m:=rm K S) (g:=gr) (l:=l) YU (λv hv=>xaN.1 (hl.mem_iff.1 hv));have BI:=hok.uW;have hlen:l.length=K.n:=by rw[hl.length_eq,xaJ]
 have hle:=hok.le;rw[v9,hlen]at BI;rw[Du,Du]at hle;have h5:3*(K.n-1)*K.n<=3*64*64:=xbP (xdb _ zO) hn;have VH:=yH (m:=rm K S) (g:=gr) (l:=l) (ls:=ls) (ord:=ord);have RH:∀x∈ls++[l],x.Perm (List.range K.n):=λx hx=>by
  rcases xao.1 hx with h|h
  ·exact hls x h
  rw[xaG.1 h];exact hl
 rw[xai,<-cq]at n5;have Lp:=tK (m:=rm K S) (g:=gr) (l:=l) hgd;have hge:=DL (m:=rm K S) (g:=gr) (l:=l) hgd;rw[Du,Du]at Lp hge;generalize hx:(rm K S).cr gr (az ord ((rm K S).df gr ord ls).1) l=x at*;have e1:az (az ord ((rm K S).df gr ord ls).1) x.1=az ord ((rm K S).df gr ord (ls++[l])).1:=by rw[VH,cq]
 rw[e1]at Lp hge hle;refine Ext.two λb24 _=>(St.q ?_);refine Ld.f ?_;refine Ld.f ?_;refine ae.fH (ai.mk (St.one (c':=List.toArray [iv ((cF K S ord:Nat):Int),iv af,iv ((((rm K S).df gr ord (ls++[l])).2:Nat):Int),.bool false]) (by exact .tail (.head _)) rfl zI (by rw[VH];rfl) ?_));refine Ld.f ?_;refine ai.mk (St.one (c':=List.toArray [iv ((cF K S ord:Nat):Int),iv ((cF K S (az ord ((rm K S).df gr ord (ls++[l])).1):Nat):Int),iv ((((rm K S).df gr ord (ls++[l])).2:Nat):Int),.bool false]) (by exact .tail (.head _)) rfl zI (by rw[<-e1];rfl) ?_);refine Ld.f ?_;refine Ld.f ?_;rw[e1];refine ae.tI (Br.dec (λakq=>?_) (λhlt=>?_))
 ·refine ay.q ?_;refine St.q ?_;refine ay.q ?_;exact aM.mk (.skip (.skip .tail)) ⟨ls++[l],RH,hge zO,by rw[xaf];rfl,by rw[VH];exact n5⟩
 refine ae.inc (aC.of .tail ⟨ls++[l],_,C2,by rw[xaf];rfl,RH,Lp zO,rfl,by rw[VH];exact n5⟩ ?_);simp only[bJ];omega
end
section
variable {kp mb BV b1 b7 EM bn:Nat} {K:Kd} {S:Nat->aA.Fn} {ord ah tr:zL} {C:Hp}
def kr(r:Nat):zV:=u32 r
theorem cY(a b:Nat):Instr.sameNow (.int .u32) (kr a) (kr b)=some (decide (a=b)):=by
 simp only[Instr.sameNow,kr,u32,xa6,xaq];rw[xbS];simp;omega
theorem gN(a:Nat):Instr.sameBits 10000 (kr a) (kr a)=true:=by simp[Instr.sameBits,kr,u32]
structure Kn(n:Nat)(S:Nat->aA.Fn)(es:Array MapEntry)(ck:Nat)(m:List (Nat×zV))(Y:Hp):Prop where
 dD:aD kr (λv x=>v=x) es ck m
 j9:∀r v,aJ m r=some v->kz Y v n (S r)
 low:∀r,r<2->aJ m r≠none
theorem Kn.mono{n:Nat}{S:Nat->aA.Fn}{es:Array MapEntry}{ck:Nat}{m:List (Nat×zV)}{Y Y':Hp}(h:Kn n S es ck m Y)(hs:∀x∈Y,x∈Y'):Kn n S es ck m Y':=⟨h.dD,λr v hm=>(h.j9 r v hm).mono hs,h.low⟩
theorem kz.one{B:Hp}{v:zV}{n:Nat}{f:aA.Fn}(h:kz B v n f):∃s,v=.agg #[iv (n:Int),s]/\s.oneCell'=true:=by
 obtain⟨ws,⟨s,rfl,hw⟩,_,_⟩:=h;exact⟨s,rfl,bO hw⟩
theorem cX{n:Nat}{s:zV}(h:s.oneCell'=true):∀u∈[Value.int .i64 (n:Int),s],u.oneCell'=true:=λu hu=>by
 simp only[xak,xaQ,xbE]at hu;rcases hu with rfl|rfl
 ·rfl
 exact h
theorem fC(d:Nd):∀u∈bu d,u.oneCell'=true:=λu hu=>by
 simp only[bu,xak,xaQ,xbE]at hu;rcases hu with rfl|rfl|rfl<;>rfl
theorem wL{X:Hp}(h:cc kp K S ord ah tr C){r:Nat}{d:Nd}(hd:K.N r=some d):Px zQ 202 #[ptr kp,u32 r] (X++C) (λv _=>v=.agg (bu d).toArray):=by
 have hlt:=h.bL (.inr ⟨d,hd⟩);refine aE λg=>Jj λb1 _=>?_;refine aa.eq (args:=#[ptr kp,u32 r]) (iT h.rep zO) ?_;rw[dV hd (h.ok.mid.two hd).1];refine Ext.two λb7 _=>(St.p (fC d) ?_);refine ay.q ?_;refine St.p (fC d) ?_;refine ay.q ?_;exact GQ.mk (by repeat (first|exact bV.refl _|apply bV.cons|apply bV.app)) rfl
theorem wP{X:Hp}{v:zV}(h:cc kp K S ord ah tr C){rs:zL}(hv:dk .u32 (X++C) v (iw rs))(hr:∀r∈rs,live K.N r)(hl:rs.length<4611686018427387904):Px zQ 200 #[ptr kp,v] (X++C) (λw _=>w=iv 0):=by
 refine aE λg=>Jl (ae.aH (Br.no (hv.bP ?_)));rw[aq];refine⟨λvs H=>∃(i:Nat) (N:Hp),vs=[iv (i:Int)]/\i<=rs.length/\H=N++(X++C),λvs _=>rs.length-bJ vs 0,JE.mk ⟨0,[],rfl,xaM _,rfl⟩,?_⟩;rintro w H ⟨i,N,hw,hi,rfl⟩ gs;simp only[xau,xa1]at hw;subst hw;refine ae.eZ (Br.dec (λhlt=>?_) (λhge=>?_))
 ·have EE:=hr _ (xaB hlt);have uk:=h.bL EE;refine hv.ld (n:=((rs[i]:Nat):Int)) (cP (xaa hlt)) (λ_ h=>xab _ h) ?_;refine aa.eq (args:=#[ptr kp,u32 rs[i]]) (iT h.rep zO) ?_;rw[xae (bX.2 EE)];refine Ext.two λb15 _=>(St.whole (r:=got K.N rs[i]) (by exact .head _) rfl (aQ _ _).1 (aQ _ _).2 ?_);exact ae.cL (Br.F (ae.inc (aC.mk ⟨i+1,_::N,rfl,hlt,rfl⟩ (by simp only[bJ];omega))))
 exact GQ.mk (by repeat (first|exact bV.refl _|apply bV.cons|apply bV.app)) rfl
theorem SC{X:Hp}{n:Nat}(hn:n<=16){d:Nd}(hd:d.v<n){v1 v2:zV}{f1 f2:aA.Fn}(h1:kz X v1 n f1)(h2:kz X v2 n f2)(hm:(bn,Obj.cells #[iv (n:Int)] 3 zZ)∈X):
  Px zQ 277 #[.agg (bu d).toArray,v1,v2,ptr bn] X (λw H=>kz H w n (λx=>if x.testBit d.v then f2 x else f1 x)):=by
 obtain⟨s1,rfl,o1⟩:=h1.one;obtain⟨s2,rfl,o2⟩:=h2.one;refine aE λg=>ID λc1 _ c3 _ c5 _ c7 _=>?_;refine Ld.mk (v:=iv (n:Int)) (by exact .tail _ (.tail _ (.tail _ (.tail _ hm)))) rfl ?_;refine Ld.f ?_;refine aa.px (bG.left (C:=[]) (A:=_)) (Ul hn hd []) ?_;rintro w N ⟨t,rfl,ht⟩;rw[xaL]at ht⊢;obtain⟨s3,rfl,o3⟩:=ht.one;refine Ext.two λXQ _=>(St.p (cX o3) ?_);refine ay.q ?_;refine ay.q ?_;refine ay.q ?_;refine aa.pre (.perm (.cons _ (xaT.trans (.cons _ (xaT.trans (.cons _ (xaT.trans (.cons _ xaT)))))))) ?_;refine aa.pq (Up (B:=N++X) (ht.mono λ_ h=>xad _ h) (h2.mono λ_ h=>xab _ h) (h1.mono λ_ h=>xab _ h)) ?_;rintro w N2 ⟨t4,rfl,ht4⟩;obtain⟨s4,rfl,o4⟩:=ht4.one;refine Ext.two λc26 _=>(St.p (cX o4) ?_);refine ay.q ?_;refine St.p (cX o4) ?_;refine ay.q ?_;refine GQ.mk (by repeat (first|exact bV.refl _|apply bV.cons|apply bV.app)) (ht4.mono ?_);intro x hx;repeat (first|exact hx|apply xbu)
theorem adl(h:cc kp K S ord ah tr C)(hn:K.n<=16){Z0:Hp}(h19:(BV,Obj.cells #[.map (some mb)] 403 zZ)∈Z0)(h1:(b1,Obj.cells #[ptr kp] 85 zZ)∈Z0)(h7:(b7,Obj.cells #[.func (.func 277) #[] #[ptr bn]] 336 zZ)∈Z0)
 (h22:(EM,Obj.cells #[.func (.func 342) #[] #[ptr BV,ptr b1,ptr b7,ptr EM]] 404 zZ)∈Z0)(hbn:(bn,Obj.cells #[iv (K.n:Int)] 3 zZ)∈Z0):
  ∀(k r:Nat) (es:Array MapEntry) (ck:Nat) (m:List (Nat×zV)) (Z:Hp),K.n-dep K.n (lv ah) K.N r<=k->live K.N r->(∀x∈Z0,x∈Z)->Kn K.n S es ck m Z->
  Fc zQ 342 #[u32 r,ptr BV,ptr b1,ptr b7,ptr EM] ((mb,.map es ck)::(Z++C)) (λv H=>∃es' bB m' N,H=(mb,.map es' bB)::(N++(Z++C))/\Kn K.n S es' bB m' (N++Z)/\kz (N++Z) v K.n (S r)):=by
 have hit:∀{r:Nat} {es:Array MapEntry} {ck:Nat} {m:List (Nat×zV)} {Z:Hp} {v:zV},(∀x∈Z0,x∈Z)->Kn K.n S es ck m Z->aJ m r=some v->
   Fc zQ 342 #[u32 r,ptr BV,ptr b1,ptr b7,ptr EM] ((mb,.map es ck)::(Z++C)) (λv H=>∃es' bB m' N,H=(mb,.map es' bB)::(N++(Z++C))/\Kn K.n S es' bB m' (N++Z)/\kz (N++Z) v K.n (S r)):=by
  intro r es ck m Z v hZ hm hv g;obtain⟨s,rfl,hs⟩:=(hm.j9 r v hv).one;refine xp (R:=aM _) ?_;unfold L342;intro c1 _;refine Ld.mk (v:=.map (some mb)) (by exact .tail _ (.tail _ (xad _ (hZ _ h19)))) rfl ?_;refine hm.dD.hit (k:=r) cY (b:=mb) (by exact .tail _ (.head _)) hv λv' e=>?_;subst e;refine Ext.two λc7 _=>(St.p (cX hs) ?_);refine Br.yes (ay.q ?_);refine St.p (cX hs) ?_;refine ay.q ?_;exact aM.mk (.skip .tail) ⟨es,ck,m,[],rfl,hm,hm.j9 r _ hv⟩
 intro k;induction k with
 |zero=>
  intro r es ck m Z hk hr hZ hm;have qt:r<2:=by
   cases hN:K.N r with
   |some d=>
    have:=h.ok.wf.iE h.ok.lv r;rw[an hN]at hk;have:=h.ok.lv.lt _ (h.ok.mid.var hN);omega
   |none=>
    rcases hr with hr|⟨d,e⟩
    ·exact hr
    rw[hN]at e;cases e
  cases hv:aJ m r with
  |none=>exact absurd hv (hm.low r qt)
  |some v=>exact hit hZ hm hv
 |succ k ih=>
  intro r es ck m Z hk hr hZ hm;cases hv:aJ m r with
  |some v=>exact hit hZ hm hv
  |none=>
  have qt:¬r<2:=λh2=>hm.low r h2 hv;obtain⟨d,hN⟩:∃d,K.N r=some d:=by
   rcases hr with hr|hr
   ·omega
   exact hr
  have kY:=h.ok.mid.var hN;have hlo:=h.ok.wf.lo hN;have hhi:=h.ok.wf.hi hN;have hdl:=h.ok.wf.iE h.ok.lv r;rw[an hN]at hk;have hvl:=h.ok.lv.lt _ kY;have Gj:S r=λx=>if x.testBit d.v then S d.hi x else S d.lo x:=funext λx=>h.ok.mid.int.node hN x
  refine aE λg=>xp λc1 _=>?_;refine Ld.mk (v:=.map (some mb)) (by exact .tail _ (.tail _ (xad _ (hZ _ h19)))) rfl ?_;refine hm.dD.bM (k:=r) cY (b:=mb) (by exact .tail _ (.head _)) hv ?_;refine Ext.two λc7 _=>(St.q ?_);refine Br.no (Ld.mk (v:=ptr kp) (by exact .tail _ (.tail _ (.tail _ (xad _ (hZ _ h1))))) rfl ?_);refine aa.pq (args:=#[ptr kp,u32 r]) (wL (X:=Z) h hN) ?_;rintro w N0 rfl;intro XQ _;refine St.p (fC d) ?_;obtain⟨Z1,hZ1⟩:∃Z1,Z1=(XQ,Obj.cells (bu d).toArray 226 zZ)::(N0++Z):=⟨_,rfl⟩;have Sf:∀x∈Z,x∈Z1:=λx hx=>by rw[hZ1];exact .tail _ (xab _ hx)
  have RV:aN (Z1++C) ((XQ,Obj.cells (bu d).toArray 226 zZ)::Z):=by rw[hZ1];exact aN.left.trans (.cons .right)
  have uF:((XQ,Obj.cells (bu d).toArray 226 zZ)::(c7,.cells (List.toArray [iv 0,.slice none 0 0]) 116 zZ)::(c1,.cells #[iv 0,.slice none 0 0] 116 zZ)::(mb,Obj.map es ck)::(N0++(Z++C))).Perm
    ((c1,.cells #[iv 0,.slice none 0 0] 116 zZ)::(c7,.cells (List.toArray [iv 0,.slice none 0 0]) 116 zZ)::(mb,Obj.map es ck)::(Z1++C)):=by
   rw[hZ1,xaO,xai];refine(List.Perm.swap _ _ _).trans ?_;refine(List.Perm.cons _ (List.Perm.swap _ _ _)).trans ?_;refine(List.Perm.swap _ _ _).trans (.cons _ (.cons _ (.swap _ _ _)))
  have hR0:aN ((XQ,Obj.cells (bu d).toArray 226 zZ)::(c7,.cells (List.toArray [iv 0,.slice none 0 0]) 116 zZ)::(c1,.cells #[iv 0,.slice none 0 0] 116 zZ)::(mb,Obj.map es ck)::(N0++(Z++C))) ((XQ,Obj.cells (bu d).toArray 226 zZ)::Z):=
   .cons (.skip (.skip (.skip (.fS .left))))
  refine DR.of hR0 (Ld.mk (v:=.func (.func 277) #[] #[ptr bn]) (by exact .tail _ (hZ _ h7)) rfl ?_);refine ay.q ?_;refine Ld.mk (v:=.func (.func 342) #[] #[ptr BV,ptr b1,ptr b7,ptr EM]) (by exact .tail _ (hZ _ h22)) rfl ?_;refine Ld.f ?_;refine Ld.mk (v:=.func (.func 342) #[] #[ptr BV,ptr b1,ptr b7,ptr EM]) (by exact .tail _ (hZ _ h22)) rfl ?_;refine Ld.f ?_;intro F;refine aF.of rfl zK (aa.pre (.perm uF) ?_);refine aa.fq (args:=#[u32 d.lo,ptr BV,ptr b1,ptr b7,ptr EM]) (ih d.lo es ck m Z1 zO hlo.1 (λx hx=>Sf _ (hZ x hx)) (hm.mono Sf)) ?_;rintro v1 H ⟨kx,jN,m1,N1,rfl,uj,TT⟩;refine⟨.skip (.skip (.skip (.fS RV))),?_⟩;rw[<-xai];intro F;refine aF.of rfl zK (aa.fq (args:=#[u32 d.hi,ptr BV,ptr b1,ptr b7,ptr EM]) (ih d.hi kx jN m1 (N1++Z1) zO hhi.1 (λx hx=>xab _ (Sf _ (hZ x hx))) uj) ?_);rintro v2 H ⟨gR,iF,m2,N2,rfl,lZ,RA⟩;refine⟨.skip (.skip (.skip (.fS (aN.assoc.trans (.fS RV))))),?_⟩;rw[<-xai];intro F;refine aF.of rfl zK (aa.pq (args:=#[.agg (bu d).toArray,v1,v2,ptr bn]) (SC (bn:=bn) hn kY (TT.mono λ_ h=>xab _ h) RA (xab _ (xab _ (Sf _ (hZ _ hbn))))) ?_);intro v3 N3 Rz;rw[<-Gj]at Rz;refine⟨.skip (.skip (.skip (aN.assoc.trans (.fS (aN.assoc.trans (.fS (aN.assoc.trans (.fS RV)))))))),?_⟩;obtain⟨s3,rfl,o3⟩:=Rz.one;intro c37 _;intro F;refine St.p (cX o3) ?_;refine Ld.mk (v:=.map (some mb)) (by exact .tail _ (.tail _ (.tail _ (.tail _ (xad _ (xab _ (xab _ (xab _ (Sf _ (hZ _ h19)))))))))) rfl ?_;refine ay.q ?_;refine lZ.dD.br (k:=r) (b:=mb) (x:=.agg #[iv (K.n:Int),s3]) cY gN rfl λo7 qM he=>⟨_,.tail (.tail (.tail (.head _))),?_⟩;refine ay.q ?_;refine St.p (cX o3) ?_;refine ay.q ?_;have hmem:∀x∈N3++(N2++(N1++Z1)),x∈(N3++(N2++(N1++((XQ,Obj.cells (bu d).toArray 226 zZ)::N0))))++Z:=λx hx=>by
   rw[hZ1]at hx;simpa only[xai,xaO]using hx
  refine aM.mk (.skip (.skip .tail)) ⟨o7,qM,dX m2 r (.agg #[iv (K.n:Int),s3]),N3++(N2++(N1++((XQ,Obj.cells (bu d).toArray 226 zZ)::N0))),by rw[hZ1];simp only[xai,xaO],⟨he,λr' v' nX=>?_,λr' hr'=>?_⟩,Rz.mono hmem⟩
  ·rw[bK]at nX;split at nX
   ·rename_i e;subst e;cases nX;exact Rz.mono hmem
   exact(lZ.j9 r' v' nX).mono λx hx=>hmem x (xab _ hx)
  rw[bK];split
  ·simp
  exact lZ.low r' hr'
end
section
variable {kp bn:Nat} {K:Kd} {S:Nat->aA.Fn} {ord ah tr:zL} {C:Hp}
theorem Wr(h:cc kp K S ord ah tr C)(hn:K.n<=16){r:Nat}(hr:live K.N r){X:Hp}{v0 v1:zV}(hv0:kz X v0 K.n (λ_=>false))(hv1:kz X v1 K.n (λ_=>true))(hbn:(bn,Obj.cells #[iv (K.n:Int)] 3 zZ)∈X):
  Fc zQ 276 #[ptr kp,u32 r,v0,v1,.func (.func 277) #[] #[ptr bn]] (X++C) (λv H=>∃N,H=N++(X++C)/\kz (N++X) v K.n (S r)):=by
 obtain⟨s0,rfl,o0⟩:=hv0.one;obtain⟨s1,rfl,o1⟩:=hv1.one;have hi:=h.ok.mid.int;refine aE λg=>IE λb1 _ b3 _ b5 _ b7 _ b9 _ mb _=>?_;refine ay.q ?_;refine aD.br (ke:=kr) (vr:=λv x=>v=x) (k:=0) (b:=mb) (x:=Value.agg #[iv (K.n:Int),s0]) cY gN aD.empty rfl λkx jN Gb=>⟨_,.head _,?_⟩;refine ay.q ?_;refine aD.br (ke:=kr) (vr:=λv x=>v=x) (k:=1) (b:=mb) (x:=Value.agg #[iv (K.n:Int),s1]) cY gN Gb rfl λgR iF TZ=>⟨_,.head _,?_⟩;intro BV _;refine St.one (c':=#[.map (some mb)]) (by exact .head _) rfl zI rfl ?_;intro EM _;refine St.one (c':=#[.func (.func 342) #[] #[ptr BV,ptr b1,ptr b7,ptr EM]]) (by exact .head _) rfl zI rfl ?_;refine Ld.q ?_;refine aF.of rfl zK ?_;obtain⟨Z0,XI⟩:∃Z0:Hp,Z0=(EM,Obj.cells #[.func (.func 342) #[] #[ptr BV,ptr b1,ptr b7,ptr EM]] 404 zZ)::(BV,.cells #[.map (some mb)] 403 zZ)::(b7,.cells #[.func (.func 277) #[] #[ptr bn]] 336 zZ)::(b5,.cells (Value.cells (.agg #[iv (K.n:Int),s1])) 116 zZ)::(b3,.cells (Value.cells (.agg #[iv (K.n:Int),s0])) 116 zZ)::(b1,.cells #[ptr kp] 85 zZ)::X:=⟨_,rfl⟩;have hXZ:∀x∈X,x∈Z0:=λx hx=>by rw[XI];exact .tail _ (.tail _ (.tail _ (.tail _ (.tail _ (.tail _ hx)))))
 refine aa.pre (H':=(b9,Obj.cells #[iv 0,.slice none 0 0] 116 zZ)::(mb,Obj.map gR iF)::(Z0++C)) (.perm ?_) ?_
 ·rw[XI];simp only[xaO];refine(List.Perm.cons _ (List.Perm.cons _ (List.Perm.swap _ _ _))).trans ?_;refine(List.Perm.cons _ (List.Perm.swap _ _ _)).trans ?_;refine(List.Perm.swap _ _ _).trans (.cons _ ?_);refine(List.Perm.cons _ (List.Perm.swap _ _ _)).trans ?_;exact List.Perm.swap _ _ _
 refine aa.fq (args:=#[u32 r,ptr BV,ptr b1,ptr b7,ptr EM]) (adl (Z0:=Z0) (bn:=bn) h hn (by rw[XI];exact .tail _ (.head _)) (by rw[XI];exact .tail _ (.tail _ (.tail _ (.tail _ (.tail _ (.head _)))))) (by rw[XI];exact .tail _ (.tail _ (.head _))) (by rw[XI];exact .head _) (hXZ _ hbn) K.n r gR iF _ Z0 (xdv _ _) hr (λ_ h=>h) ⟨TZ,λr v hm=>?_,λr hr=>?_⟩) ?_
 ·rw[bK,bK]at hm;split at hm
  ·rename_i e;subst e;cases hm;have:=hv1.mono hXZ;rwa [show(λ_=>true)=S 1 from funext λx=>(hi.one x).symm]at this
  split at hm
  ·rename_i e;subst e;cases hm;have:=hv0.mono hXZ;rwa [show(λ_=>false)=S 0 from funext λx=>(hi.zero x).symm]at this
  simp[aJ]at hm
 ·rw[bK,bK];have:r=0\/r=1:=by omega
  rcases this with rfl|rfl<;>simp
 rintro v H ⟨o7,qM,m3,N,rfl,_,ht⟩;obtain⟨s3,rfl,o3⟩:=ht.one;refine St.p (cX o3) ?_;refine ay.q ?_;refine aM.mk (.skip .tail) ⟨N++[(EM,Obj.cells #[.func (.func 342) #[] #[ptr BV,ptr b1,ptr b7,ptr EM]] 404 zZ),(BV,.cells #[.map (some mb)] 403 zZ),(b7,.cells #[.func (.func 277) #[] #[ptr bn]] 336 zZ),(b5,.cells (Value.cells (.agg #[iv (K.n:Int),s1])) 116 zZ),(b3,.cells (Value.cells (.agg #[iv (K.n:Int),s0])) 116 zZ),(b1,.cells #[ptr kp] 85 zZ)],by rw[XI];simp,ht.mono λx hx=>?_⟩;rw[XI]at hx;simpa using hx
theorem N6(h:cc kp K S ord ah tr C)(hn:K.n<=16){r:Nat}(hr:live K.N r):
  Fc zQ 193 #[ptr kp,u32 r] C (λv H=>∃N t,H=N++C/\v=.tuple #[t,iv 0]/\kz N t K.n (S r)):=by
 refine aE λg=>Js λb1 _=>?_;refine au.int (e:=110) zK zK zK λbx=>?_;refine aa.px .here (wP (X:=[(bx,_),(b1,_)]) (rs:=[r]) h (dk.block (by exact .head _) zI) (λx hx=>by rw[xaG.1 hx];exact hr) zI) ?_;rintro w N0 rfl;refine ae.cL (Br.F (aa.eq (gM h.rep) λg8 _=>?_));refine St.one (c':=#[iv (K.n:Int)]) (by exact .head _) rfl zI rfl ?_;refine Ld.q ?_;refine ae.ny (b:=16) (Br.F (Ld.q ?_));refine aa.px (bG.left (C:=[]) (A:=_)) (yx hn false []) ?_;rintro w N1 ⟨t0,rfl,VG⟩;rw[xaL]at VG⊢;obtain⟨s0,rfl,o0⟩:=VG.one;refine Ext.two λb26 _=>(St.p (cX o0) ?_);refine Ld.q ?_;refine aa.px (bG.left (C:=[]) (A:=_)) (yx hn true []) ?_;rintro w N2 ⟨t1,rfl,TT⟩;rw[xaL]at TT⊢;obtain⟨s1,rfl,o1⟩:=TT.one;refine Ext.two λb34 _=>(St.p (cX o1) ?_);refine ay.q ?_;refine ay.q ?_;obtain⟨X,hX⟩:∃X:Hp,X=(b34,Obj.cells (List.toArray [iv (K.n:Int),s1]) 116 zZ)::(N2++((b26,Obj.cells (List.toArray [iv (K.n:Int),s0]) 116 zZ)::(N1++((g8,Obj.cells #[iv (K.n:Int)] 3 zZ)::(N0++[(bx,Obj.cells (ax .u32 [(r:Int)]) 110 zZ)]))))):=⟨_,rfl⟩;refine aa.pre (H':=(b1,Obj.cells #[iv 0,.slice none 0 0] 116 zZ)::(X++C)) (.perm ?_) ?_
 ·rw[hX];have:=xaT (a:=(b1,Obj.cells #[Value.int .i64 0,.slice none 0 0] 116 zZ)) (l₂:=C) (l₁:=(b34,Obj.cells (List.toArray [Value.int .i64 (K.n:Int),s1]) 116 zZ)::(N2++((b26,Obj.cells (List.toArray [Value.int .i64 (K.n:Int),s0]) 116 zZ)::(N1++((g8,Obj.cells #[Value.int .i64 (K.n:Int)] 3 zZ)::(N0++[(bx,Obj.cells (ax .u32 [(r:Int)]) 110 zZ)]))))));simpa only[xaO,xai,xb2]using this
 refine aa.fq (Wr (X:=X) (bn:=g8) h hn hr (VG.mono λx hx=>?_) (TT.mono λx hx=>?_) ?_) ?_
 ·rw[hX];exact .tail _ (xab _ (.tail _ (xad _ hx)))
 ·rw[hX];exact .tail _ (xad _ hx)
 ·rw[hX];exact .tail _ (xab _ (.tail _ (xab _ (.head _))))
 rintro v H ⟨N,rfl,ht⟩;obtain⟨s3,rfl,o3⟩:=ht.one;refine St.p (cX o3) ?_;refine ay.q ?_;exact aM.mk .tail ⟨N++X,_,by rw[xai],rfl,ht⟩
def rts(K:Kd):zL:=(List.range K.ho.length).filter λr=>decide (0<K.hold r)
theorem MR(h:cc kp K S ord ah tr C):Fc zQ 192 #[ptr kp] C (λr H=>∃N,H=N++C/\aO 110 .u32 r (iw (rts K)) N):=by
 obtain⟨b,hC,hO⟩:=h.rep;have hcap:=h.ok.mid.cap;have hle:=h.gg;have hfit:K.ho.length<=1048576:=by
  have:=hO.ul;omega
 refine aE λg=>Ju (ae.aH (Br.no ?_));have abz:∀z∈b.CH,z∈C:=by rw[hC];exact bG.sub (.cons (.app (.app (.app .left))))
 refine Nil.ptr (ai.mk (Ld.u (by rw[hC];exact .head _) ?_));refine hO.ho.bP ?_;rw[aq]
 let rk:Nat->zL:=λk=>(List.range k).filter λr=>decide (0<K.hold r)
 refine⟨λvs H=>∃(k:Nat) (w:zV) (N:Hp),vs=[w,iv (k:Int)]/\k<=K.ho.length/\H=N++C/\aO 110 .u32 w (iw (rk k)) N,λvs _=>K.ho.length-bJ vs 1,JE.mk ⟨0,_,[],rfl,xaM _,rfl,aO.nil⟩,?_⟩;rintro w11 w12 H ⟨k,w,N,⟨⟩,hk,rfl,hN⟩ gs;refine ae.eZ (Br.dec (λhlt=>?_) (λhlt=>?_))
 ·intro J hJ;have fin:∀w' N',aO 110 .u32 w' (iw (rk (k+1))) N'->J [w'] (N'++C):=λw' N' h'=>hJ _ _ λgs=>by
   exact ae.inc (aC.of (.refl _) ⟨k+1,w',N',rfl,hlt,rfl,h'⟩ (by simp only[bJ];omega))
  have e:rk (k+1)=rk k++if 0<K.hold k then [k]else []:=by
   show(List.range (k+1)).filter _=_;rw[xci,xb4];congr 1;by_cases hp:0<K.hold k<;>simp[hp]
  refine hO.ho.ld (x:=((K.hold k:Nat):Int)) (bH hlt) (λz hz=>xab _ (abz z hz)) (ae.ny (b:=0) (Br.dec (λhp=>?_) (λhp=>?_)))
  ·rw[e,xae hp]at fin;refine aZ.q ?_;have Dv:(rk k).length<=k:=by
    have:=xb1 (λr=>decide (0<K.hold r)) (List.range k);rwa [xaJ]at this
   refine au.int (e:=110) zK zK zK λbx=>?_;refine hN.pC (.cons .left) (by exact .head _) (by rw[aq];omega) (by rw[aq];omega) λv' N' cv=>?_;rw[cg]at fin;exact JE.of .tail (fin v' N' cv)
  rw[e,xac hp,xaL]at fin;exact JE.mk (fin w11 N hN)
 obtain rfl:k=K.ho.length:=by omega
 exact aM.here ⟨N,rfl,hN⟩
end
end
end Go.Proofs
namespace ak
open Go.Sx
def EK(c:Nat->Nat->Nat):Nat->zL->Nat
 |_,[]=>0
 |a,v::o=>c a v+EK c (aB a v true) o
def p8(a:Nat)(o:zL):Nat:=o.foldl (λa v=>aB a v true) a
theorem Cp(a:Nat)(o o':zL):p8 a (o++o')=p8 (p8 a o) o':=xdo ..
theorem wH(c:Nat->Nat->Nat):∀(o o':zL) (a:Nat),EK c a (o++o')=EK c a o+EK c (p8 a o) o'
 | [],o',a=>by simp[EK,p8]
 |v::o,o',a=>by rw[xaO,EK,wH c o o',EK,xcV];rfl
theorem qP:∀(o:zL) (a u:Nat),(p8 a o).testBit u=(a.testBit u||decide (u∈o))
 | [],a,u=>by simp[p8]
 |v::o,a,u=>by
  show(p8 (aB a v true) o).testBit u=_;rw[qP o,aj];by_cases e:u=v
  ·simp[e]
  simp[e]
structure nk(n a:Nat)(o:zL):Prop where
 nd:o.Nodup
 mem:∀v,v∈o↔v∈bM n a
variable {n:Nat} {c:Nat->Nat->Nat}
theorem nk.nil{a:Nat}(h:nk n a []):bM n a=[]:=xcC.2 λv hv=>by simpa using(h.mem v).2 hv
theorem nk.tail{a v:Nat}{o:zL}(h:nk n a (v::o)):v∈bM n a/\nk n (aB a v true) o:=by
 have h1:=xaV.1 h.nd;refine⟨(h.mem v).1 zI,h1.2,λu=>?_⟩;rw[cO,aj];have hu:=h.mem u;rw[cO,xak]at hu;by_cases e:u=v
 ·subst e;simp[h1.1]
 simp only[e,false_or,xa2]at hu⊢;exact hu
theorem nk.cons{a v:Nat}{o:zL}(hv:v∈bM n a)(h:nk n (aB a v true) o):nk n a (v::o):=by
 have hm:=h.mem;refine⟨xaV.2 ⟨λhx=>?_,h.nd⟩,λu=>?_⟩
 ·have:=(hm v).1 hx;rw[cO,aj,xae rfl]at this;exact absurd this.2 zI
 rw[xak,hm,cO,cO,aj];rw[cO]at hv;by_cases e:u=v
 ·subst e;simp[hv]
 simp[e]
theorem Ey:∀(o:zL) (a:Nat),nk n a o->B n c a<=EK c a o
 | [],a,h=>by rw[Ma h.nil];exact xaM _
 |v::o,a,h=>by
  obtain⟨h1,h2⟩:=h.tail;exact xbw (adD h1) (Nat.add_le_add_left (Ey o _ h2) _)
theorem Fv:∀(f a:Nat),(bM n a).length<=f->nk n a (ord n c f a)/\EK c a (ord n c f a)=B n c a
 |0,a,h=>by
  have hm:bM n a=[]:=xbV zO;rw[ord,Ma hm];exact⟨⟨by simp,λv=>by rw[hm]⟩,rfl⟩
 |f+1,a,h=>by
  by_cases hm:bM n a=[]
  ·have:ord n c (f+1) a=[]:=by rw[ord,hm];rfl
   rw[this,Ma hm];exact⟨⟨by simp,λv=>by rw[hm]⟩,rfl⟩
  obtain⟨v,hv,he,_,ho⟩:=vG (c:=c) (f:=f) hm;have:=gK hv;obtain⟨h1,h2⟩:=Fv f (aB a v true) zO;rw[ho];exact⟨h1.cons hv,by rw[EK,h2,he]⟩
theorem oT(n:Nat):bM n 0=List.range n:=by
 unfold bM;rw[xcd.2];simp
end ak
namespace ak
open Go.Sx
def Uu(n:Nat)(l:Fs)(vs:zL):Fs:=vs.foldl (λl v=>given n l v) l
theorem Sa(A k:Nat):has (k+1) A=has k A++(if A.testBit k then [k]else []):=by
 unfold has;rw[xci,xb4];congr 1;rw[xbk];simp
theorem uY(n:Nat)(l:Fs)(a b:zL):Uu n l (a++b)=Uu n (Uu n l a) b:=xdo ..
theorem u5(n:Nat)(L:Fs)(A:Nat):∀k,st n L A k=Uu n (mC L) (has k A)
 |0=>rfl
 |k+1=>by
  rw[st,Sa,uY,<-u5 n L A k];split<;>rfl
def Sm(a b:Fs):Prop:=∀x,x∈a↔x∈b
theorem Sm.trans{a b c:Fs}(h:Sm a b)(h':Sm b c):Sm a c:=λx=>(h x).trans (h' x)
theorem Sm.symm{a b:Fs}(h:Sm a b):Sm b a:=λx=>(h x).symm
theorem Sm.refl(a:Fs):Sm a a:=λ_=>xcT
def AF(n:Nat)(l:Fs):Prop:=∀t∈l,eY n t
variable {n:Nat}
theorem tG{a b:Fs}(h:Sm a b)(v:Nat):Sm (given n a v) (given n b v):=λx=>by
 rw[cf,cf];constructor
 ·rintro⟨t,ht,h'⟩;exact⟨t,(h t).1 ht,h'⟩
 rintro⟨t,ht,h'⟩;exact⟨t,(h t).2 ht,h'⟩
theorem Su(hn:n<=16)(l:Fs)(v:Nat):AF n (given n l v):=λt ht=>by
 obtain⟨u,_,b,rfl⟩:=cf.1 ht;exact er hn
theorem D5{t:zL}{u v:Nat}{b c:Bool}(hf:eY n t)(hu:u<n)(hv:v<n)(h:u≠v):iK n (iK n t u b) v c=iK n (iK n t v c) u b:=
 (er hf.xY).ext (er hf.xY) λx hx=>by
  rw[eX (er hf.xY) hv hx,eX hf hu (fY hx hv),eX (er hf.xY) hu hx,eX hf hv (fY hx hu),dj (xa9 h)]
theorem Gl{l:Fs}{u v:Nat}(hl:AF n l)(hu:u<n)(hv:v<n)(h:u≠v):Sm (given n (given n l u) v) (given n (given n l v) u):=λx=>by
 rw[cf,cf];constructor
 ·rintro⟨t,ht,c,rfl⟩;obtain⟨s,hs,b,rfl⟩:=cf.1 ht;exact⟨iK n s v c,cf.2 ⟨s,hs,c,rfl⟩,b,D5 (hl s hs) hu hv h⟩
 rintro⟨t,ht,c,rfl⟩;obtain⟨s,hs,b,rfl⟩:=cf.1 ht;exact⟨iK n s u c,cf.2 ⟨s,hs,c,rfl⟩,b,D5 (hl s hs) hv hu (xa9 h)⟩
theorem yD:∀(vs:zL) {a b:Fs},Sm a b->Sm (Uu n a vs) (Uu n b vs)
 | [],_,_,h=>h
 |v::vs,_,_,h=>yD vs (tG h v)
theorem P4(hn:n<=16){vs vs':zL}(hp:vs.Perm vs'):(∀v∈vs,v<n)->∀l,AF n l->Sm (Uu n l vs) (Uu n l vs'):=by
 induction hp with
 |nil=>exact λ_ l _=>Sm.refl _
 |cons v _ ih=>exact λh l hl=>ih (λu hu=>h u (by simp[hu])) _ (Su hn l v)
 |swap x y r=>
  intro h l hl;by_cases e:x=y
  ·subst e;exact Sm.refl _
  exact yD r (Gl hl (h y zI) (h x zI) (xa9 e))
 |trans uF _ ih1 ih2=>exact λh l hl=>(ih1 h l hl).trans (ih2 (λv hv=>h v (uF.mem_iff.2 hv)) l hl)
theorem yC:∀(vs:zL) {l:Fs},l.Nodup->(Uu n l vs).Nodup
 | [],_,h=>h
 |v::vs,_,_=>yC vs (n7 _ _ _)
theorem Ms{L:Fs}(h:AF n L):AF n (mC L):=λt ht=>h t (gp.1 ht)
theorem Fz{a b:Fs}(ha:a.Nodup)(hb:b.Nodup)(h:Sm a b)(v:Nat):(nodes n a v).length=(nodes n b v).length:=mL (ju ha hb h)
theorem zj(n a:Nat):(has n a).Nodup:=List.Pairwise.filter _ xbj
theorem Zp{a v:Nat}(h:v∈has n a):v<n:=(rf.1 h).1
theorem Sb{a v:Nat}(hv:v<n)(ha:a.testBit v=false):(has n (aB a v true)).Perm (has n a++[v]):=by
 refine(xcX (zj _ _) ?_).2 λu=>?_
 ·rw[xa4];refine⟨zj _ _,by simp,λx hx y hy=>?_⟩;simp at hy;subst hy;rintro rfl;rw[(rf.1 hx).2]at ha;cases ha
 rw[rf,xao,xaG,rf,aj];by_cases e:u=v
 ·subst e;simp[hv]
 simp[e]
theorem Ux(hn:n<=16){L:Fs}(hL:AF n L){a v:Nat}(hv:v<n)(ha:a.testBit v=false):Sm (st n L (aB a v true) n) (given n (st n L a n) v):=by
 rw[u5,u5];have h:=P4 hn (Sb hv ha) (λu hu=>Zp hu) _ (Ms hL);rw[uY]at h;exact h
variable {φ:zL->zL} {π:Nat->Nat}
def lay(n:Nat)(F:Nat->Nat):zL:=(List.range (wN n)).map λi=>F i&&&dK n
def neg(n:Nat)(ws:zL):zL:=lay n λi=>18446744073709551615-ws.getD i 0
end ak
namespace aA
open ak
section
variable {n:Nat} {ord:zL} {L:ak.Fs}
theorem Fg(a:Nat)(o:zL)(v:Nat):p8 a (o++[v])=aB (p8 a o) v true:=by rw[Cp];rfl
theorem SQ(hn:n<=16)(hL:∀t∈L,eY n t)(hp:ord.Perm (List.range n)):∀k,k<=n->Sm (cur n ord L k) (st n L (p8 0 (ord.take k)) n)
 |0,_=>by
  have e:st n L (p8 0 (ord.take 0)) n=mC L:=by
   rw[u5];have:has n (p8 0 (ord.take 0))=[]:=by
    show has n 0=[];rw[xcC];intro v hv;have:=(rf.1 hv).2;rw[xcN]at this;cases this
   rw[this];rfl
  rw[e];exact .refl _
 |k+1,hk=>by
  have EF:ord.length=n:=by rw[hp.length_eq,xaJ]
  have fc:ord.Nodup:=hp.nodup_iff.2 xbj;have hlt:k<ord.length:=by omega
  have hv:ord[k]<n:=xaN.1 (hp.mem_iff.1 (xaB hlt));have hg:ord.getD k 0=ord[k]:=by rw[xar,xaa hlt];rfl
  have ht:ord.take (k+1)=ord.take k++[ord[k]]:=xaZ hlt;have hno:ord[k]∉ord.take k:=λhm=>by
   have h2:(ord.take (k+1)).Nodup:=fc.sublist (xdO _ _);rw[ht]at h2;exact(xa4.1 h2).2.2 _ hm _ zI rfl
  have hb:(p8 0 (ord.take k)).testBit ord[k]=false:=by
   rw[qP,xcN,xal hno];rfl
  rw[ht,Fg];refine Sm.trans ?_ (Sm.symm (Ux hn hL hv hb));rw[cur,hg];exact tG (SQ hn hL hp k zO) _
theorem Vl(hn:n<=16)(hL:∀t∈L,eY n t)(hp:ord.Perm (List.range n)){k:Nat}(hk:k<=n)(v:Nat):(nodes n (cur n ord L k) v).length=lvl n L (p8 0 (ord.take k)) v:=by
 unfold lvl;refine Fz (zz k) ?_ (SQ hn hL hp k hk) v;rw[u5];exact yC _ (mA _)
theorem D1(hn:n<=16)(hL:∀t∈L,eY n t)(hp:ord.Perm (List.range n)):∀k,k<=n->EK (lvl n L) 0 (ord.take k)=kB n ord L k
 |0,_=>rfl
 |k+1,hk=>by
  have EF:ord.length=n:=by rw[hp.length_eq,xaJ]
  have hlt:k<ord.length:=by omega
  have hg:ord.getD k 0=ord[k]:=by rw[xar,xaa hlt];rfl
  rw[xaZ hlt,wH,D1 hn hL hp k zO,kB];congr 1;unfold FI;rw[Vl hn hL hp zO,hg];simp[EK]
theorem zG(hn:n<=16)(hL:∀t∈L,eY n t)(hp:ord.Perm (List.range n)):EK (lvl n L) 0 ord=kB n ord L n:=by
 have EF:ord.length=n:=by rw[hp.length_eq,xaJ]
 rw[<-D1 hn hL hp n (xaj n),<-EF,xba]
theorem FR(hp:ord.Perm (List.range n)):nk n 0 ord:=⟨hp.nodup_iff.2 xbj,λv=>by rw[oT];exact hp.mem_iff⟩
theorem Fq(h:nk n 0 ord):ord.Perm (List.range n):=by
 refine(xcX h.nd xbj).2 λv=>?_;rw[h.mem,oT]
theorem s6(c:Nat->Nat->Nat):(ak.ord n c n 0).Perm (List.range n):=Fq (Fv n 0 (by rw[oT,xaJ];exact xaj n)).1
theorem sY(hn:n<=16)(hL:∀t∈L,eY n t):kB n (ak.ord n (lvl n L) n 0) L n=B n (lvl n L) 0:=by
 rw[<-zG hn hL (s6 _)];exact(Fv n 0 (by rw[oT,xaJ];exact xaj n)).2
theorem WG(hn:n<=16)(hL:∀t∈L,eY n t)(hp:ord.Perm (List.range n)):B n (lvl n L) 0<=kB n ord L n:=by
 rw[<-zG hn hL hp];exact Ey ord 0 (FR hp)
end
end aA
set_option maxRecDepth 100000
namespace Go.Proofs
open Go Go.Sx Tryz
section
open aA
section
variable {kp:Nat} {K:Kd} {S:Nat->aA.Fn} {ord tr:zL} {C:Hp}
theorem u6{n:Nat}{o:zL}:∀k,kB n o [] k=0:=by
  have hc:∀k,cur n o [] k=[]:=λk=>by
    induction k with
    |zero=>rfl
    |succ k ih=>rw[cur,ih];rfl
  intro k;induction k with
  |zero=>rfl
  |succ k ih=>rw[kB,ih];unfold FI;rw[hc];rfl
theorem E4{B:Hp}{v:zV}{n:Nat}{f:aA.Fn}(h:kz B v n f):∃s ws,v=.agg #[iv (n:Int),s]/\Words B s ws/\ak.eY n ws/\pA n ws=f:=by
  obtain⟨ws,⟨s,rfl,hw⟩,hf,he⟩:=h;exact⟨s,ws,rfl,hw,hf,he⟩
def ag5(kp:Nat)(K:Kd)(S:Nat->aA.Fn)(ord tr:zL)(v:zV)(H:Hp):Prop:=
  ∃L:ak.Fs,(∀t∈L,ak.eY K.n t)/\K.held S=FT K.n L/\L.length<=1048576/\
   ((cF K S ord=ak.B K.n (ak.lvl K.n L) 0/\v=.tuple #[.agg #[iv ((cF K S ord:Nat):Int),iv ((cF K S ord:Nat):Int),iv 0,.bool true],iv 0]/\At kp K S ord tr H)\/
    (cF K S ord≠ak.B K.n (ak.lvl K.n L) 0/\∃o ls,o=ak.ord K.n (ak.lvl K.n L) K.n 0/\ls=path ord o/\
     (((rm K S).can ord ls=true/\v=.tuple #[.agg #[iv ((cF K S ord:Nat):Int),iv ((cF K S o:Nat):Int),iv ((ls.length:Nat):Int),.bool true],iv 0]/\At kp K S o (tr++ls) H)\/
      ((rm K S).can ord ls=false/\v=.tuple #[.agg #[iv ((cF K S ord:Nat):Int),iv ((cF K S ord:Nat):Int),iv ((2*((rm K S).dJ 0 ls ord).length:Nat):Int),.bool false],iv 0]/\At kp K S ord tr H))))
theorem Uc(h:At kp K S ord tr C)(hp:ord.Perm (List.range K.n))(hn:K.n<=12)(eM:tr.length<17317308137472):
    Fc zQ 139 #[ptr kp] C (λv H=>ag5 kp K S ord tr v H):=by
  have h0:=h;obtain⟨K',S',bW,hK,hk⟩:=h;have hKn:=hk.n;have fM:∀r,K'.hold r≠0->live K'.N r:=λr hr=>(.inr (hK.ok.mid.held r hr));have hcap:=hK.ok.mid.cap;have hle:=hK.gg;have Dv:(rts K').length<=1048576:=by
    obtain⟨b,_,hO⟩:=hK.rep;have:=hO.ul;have h2:=xb1 (λr=>decide (0<K'.hold r)) (List.range K'.ho.length);rw[xaJ]at h2;show(List.filter _ _).length<=_;omega
  have v9:∀r,r∈rts K'↔K'.hold r≠0:=λr=>by
    unfold rts;rw[xbT,xaN,decide_eq_true_iff];constructor
    · rintro⟨_,h⟩;omega
    · intro h
      refine⟨xaK λh2=>h ?_,by omega⟩;unfold Kd.hold;rw[xar,xaC zO];rfl
  refine aE λg=>JU λb1 _=>?_;refine ae.aH (Br.no (aa.eq (m4 h0) (ae.ny (b:=12) (Br.F (aa.fq (MR hK) ?_)))));rintro vr H ⟨NR,rfl,hR⟩;have Wa:dk .u32 NR vr (iw (rts K')):=hR.ints;refine hR.bP ?_;rw[aq];refine⟨λvs H=>∃(i:Nat) (s:zV) (L:ak.Fs) (CS N:Hp),vs=[s,iv (i:Int)]/\i<=(rts K').length/\H=(b1,.cells #[iv 0,iv 0,iv 0,.bool false] 147 zZ)::(CS++(N++C))/\(∀x∈NR,x∈N)/\rV 116 s (Mx K'.n L) CS N/\L.length=i/\(∀t∈L,ak.eY K'.n t)/\∀j t,L[j]? =some t->∃r,(rts K')[j]? =some r/\pA K'.n t=S' r,
    λvs _=>(rts K').length-bJ vs 1,JE.mk ⟨0,_,[],[],NR,rfl,xaM _,rfl,λ_ h=>h,rV.nil,rfl,λt ht=>absurd ht (xaQ),λj t (hj:([]:List (zL))[j]? =some t)=>absurd hj (by rw[List.getElem?_nil];exact nofun)⟩,?_⟩
  rintro w20 w21 H ⟨i,s,L,CS,N,⟨⟩,hi,rfl,hN,hT,hLl,EH,hLr⟩ gs;refine ae.eZ (Br.dec (λhlt=>?_) (λhge=>?_))
  · refine Wa.ld (n:=(((rts K')[i]:Nat):Int)) (cP (xaa hlt)) (λx hx=>.tail _ (xab _ (xad _ (hN x hx)))) ?_
    refine aa.fq (args:=#[ptr kp,u32 (rts K')[i]]) (N6 hK zO (fM _ ((v9 _).1 (xaB hlt)))) ?_;rintro w H ⟨Nt,t,rfl,rfl,ht⟩;obtain⟨sw,ws,rfl,hw,hf,he⟩:=E4 ht;refine Ext.two λb29 _=>(St.p (cX (bO hw)) ?_);refine ay.q ?_;refine wR λXR=>?_;have hT':rV 116 w20 (Mx K'.n L) CS (N++Nt):=hT.mono λ_ h=>xad _ h;refine rV.app hT' (A:=[(XR,_),(b29,_),(b1,_)]) (B:=N++(Nt++C)) (t:=⟨(K'.n:Int),ws⟩) (by exact .head _) (hw.mono λ_ h=>xab _ h) (by rw[pX];omega) λv' CS' hT2=>?_;refine ae.inc (aC.of (.skip .tail) ⟨i+1,v',L++[ws],CS',N++Nt,rfl,hlt,by rw[xai];rfl,λx hx=>xad _ (hN x hx),by unfold Mx at hT2⊢;rw[xaE];exact hT2,by rw[xaf,hLl];rfl,λt ht=>?_,λj t hj=>?_⟩ (by simp only[bJ];omega))
    · rcases xao.1 ht with ht|ht
      · exact EH t ht
      · rw[xaG.1 ht];exact hf
    · by_cases Zd:j<L.length
      · rw[xaX Zd]at hj
        exact hLr j t hj
      · rw[xbO zO]at hj
        have:j=i:=by
          have:=(xah.1 hj).1;rw[xcj]at this;omega
        subst this;rw[hLl,xc8]at hj;simp at hj;subst hj;exact⟨_,xaa hlt,he⟩
  have hi':i=(rts K').length:=by omega
  subst hi';rw[hKn]at hT EH hLr;have tE:K.held S=FT K.n L:=by
    refine funext λg=>propext ?_;rw[<-hk.held g];constructor
    · rintro⟨r,hr,rfl⟩
      obtain⟨j,hj,e⟩:=xa8.1 ((v9 r).2 hr);obtain⟨r2,qt,he⟩:=hLr j L[j] (xaa zO);rw[xaa hj,e]at qt;cases qt;exact⟨L[j],xaB _,he.symm⟩
    · rintro⟨t,ht,rfl⟩
      obtain⟨j,hj,e⟩:=xa8.1 ht;obtain⟨r2,qt,he⟩:=hLr j t (by rw[xaa hj,e]);exact⟨r2,(v9 r2).1 (xax qt),he⟩
  have hlt:=KW hp;have hkz:cF K S ord=kB K.n ord L K.n:=by
    unfold cF;rw[tE];exact W8 EH zO hlt
  have So:L.length<=1048576:=by omega
  refine aa.eq (cE h0) ?_;have hTb:jH (CS++N) w20 (Mx K.n L):=hT.aeC (λ_ h=>xad _ h) (λ_ h=>xab _ h);rw[<-xai];refine aa.pq (WE hTb (by rw[pX];omega)) ?_;intro w NB hB;obtain⟨so,Y,hY,rfl,hI⟩:∃so Y,NB++(CS++N)=Y/\w=.tuple #[iv ((ak.B K.n (ak.lvl K.n L) 0:Nat):Int),so,iv 0]/\(L≠[]->dk .i64 Y so (iw (ak.ord K.n (ak.lvl K.n L) K.n 0))):=by
    have hO:rW (Mx K.n L):=CQ EH;rcases hB with⟨hno,_⟩|⟨_,n2,L2,e,hz,_,hf2,hB⟩
    · exact absurd hO hno
    by_cases jM:L=[]
    · subst jM
      have hL2:L2=[]:=by cases L2 with
        |nil=>rfl
        |cons a b=>simp[Mx]at e
      subst hL2;obtain rfl:=hz rfl;have hB0:ak.B K.n (ak.lvl K.n []) 0=0:=by rw[<-sY zO zI];exact u6 _
      rcases hB with⟨h,_⟩|⟨_,s2,C2,N2,rfl,_,_⟩
      · omega
      exact⟨s2,_,rfl,by rw[hB0];rfl,λh=>absurd rfl h⟩
    · have VO:n2=K.n/\L2=L:=by
        cases L with
        |nil=>exact absurd rfl jM
        |cons a b=>
          cases L2 with
          |nil=>simp[Mx]at e
          |cons a2 b2=>
            simp only[Mx,xay,xau,Tb.mk.injEq]at e;obtain⟨⟨e1,e2⟩,e3⟩:=e;have e1:n2=K.n:=by omega
            subst e1;refine⟨rfl,?_⟩;rw[e2];congr 1;refine((List.map_inj_right (f:=λws=>(⟨(K.n:Int),ws⟩:Tb)) ?_).1 e3).symm;intro x y hxy;simpa using hxy
      obtain⟨rfl,rfl⟩:=VO;rcases hB with⟨h,_⟩|⟨_,s2,C2,N2,rfl,hown,hH⟩
      · omega
      exact⟨s2,_,rfl,rfl,λ_=>by rw[hH];exact hown.ints.mono λ_ h=>xad _ h⟩
  rw[hY];clear hB;refine Ext.mk rfl (Ext.mk rfl (Ext.mk rfl (ae.eR (Br.dec (λheq=>?_) (λhne=>?_)))))
  · refine Build.mk (cs:=[iv ((cF K S ord:Nat):Int),iv ((cF K S ord:Nat):Int),iv 0,.bool true]) zK (St.q ?_)
    refine ay.q ?_;exact aM.mk (.skip .right) ⟨L,EH,tE,So,.inl ⟨heq,rfl,h0⟩⟩
  · have jM:L≠[]:=λe=>by
      subst e;refine hne ?_;rw[hkz,<-sY zO zI,u6,u6]
    obtain⟨o,ho⟩:∃o,o=ak.ord K.n (ak.lvl K.n L) K.n 0:=⟨_,rfl⟩;have hop:o.Perm (List.range K.n):=by rw[ho];exact s6 _
    have hIo:=hI jM;rw[<-ho]at hIo;refine aa.fq (QO h0 hIo hp hop zO) ?_;rintro w H ⟨C2,rfl,hM⟩;have YT:=(AN (hop.nodup_iff.2 xbj) (hp.trans hop.symm)).1;rcases hM with⟨hc,rfl,hA⟩|⟨hc,rfl,hA⟩
    · rw[YT]at hA
      refine Ext.two (aa.eq (cE hA) (ae.ik ?_));rw[xan rfl];refine Build.mk (cs:=[iv ((cF K S ord:Nat):Int),iv ((cF K S o:Nat):Int),iv (((path ord o).length:Nat):Int),.bool true]) zK (St.q ?_);refine ay.q ?_;exact aM.mk (.skip .right) ⟨L,EH,tE,So,.inr ⟨hne,o,_,ho,rfl,.inl ⟨hc,rfl,hA⟩⟩⟩
    · refine Ext.two (aa.eq (cE hA) (ae.ik ?_))
      rw[xal zD];refine Build.mk (cs:=[iv ((cF K S ord:Nat):Int),iv ((cF K S ord:Nat):Int),iv ((2*((rm K S).dJ 0 (path ord o) ord).length:Nat):Int),.bool false]) zK (St.q ?_);refine ay.q ?_;exact aM.mk (.skip .right) ⟨L,EH,tE,So,.inr ⟨hne,o,_,ho,rfl,.inr ⟨hc,rfl,hA⟩⟩⟩
end
end
section
open aA
section
variable {kp:Nat} {K:Kd} {S:Nat->aA.Fn} {ord tr:zL} {C:Hp} {Q:zV->Hp->Prop}
theorem Qo{w:Nat}(hw:3<=w/\w<=5):Rd zQ 138 #[.int .u8 (w:Int)] C (· =iv ((w-1:Nat):Int)):=by
 refine aE λg=>JV ?_;refine ae.bY (b:=3) (aZ.q (ae.fH (b:=2) (bg.mk (.refl _) ?_)));rw[show w-3+2=w-1 by omega]
theorem iy(h:At kp K S ord tr C){s gr:Nat}:Rd zQ 134 #[ptr kp,.int .u8 (s:Int),iv (gr:Int)] C (· =iv (if 6<s\/gr<100\/1000<gr then 1 else if s=6/\12<K.n then 6 else 0)):=by
 refine aE λg=>xK ?_;refine ae.aH (Br.no (ae.ny (b:=6) (dc.or (a:=decide (6<s)) (decide (gr<100)) (λ_=>ae.eZ (b:=100) ⟨rfl,rfl⟩) rfl λ_=>?_)));refine dc.or (a:=decide (6<s)||decide (gr<100)) (decide (1000<gr)) (λ_=>ae.ny (b:=1000) ⟨rfl,rfl⟩) rfl λ_=>?_;rw[<-xa7,<-xa7];refine Br.dec (λhb=>?_) (λhb=>?_)
 ·rw[xae zO];exact bg.mk (.refl _) rfl
 rw[xac zO];intro J9 h9;refine ae.eR (b:=6) ?_;by_cases hs:s=6
 ·rw[xan hs];refine Split.go rfl (aa.eq (m4 h) (ae.ny (b:=12) (aL.mk (JE.mk (h9 _ _ λ_=>?_)))));show Br (.bool (decide (12<K.n))) _ _;refine Br.dec (λNI=>?_) (λNI=>?_)
  ·rw[xae ⟨hs,NI⟩];exact bg.mk (.refl _) rfl
  rw[xac zO];exact bg.mk (.refl _) rfl
 rw[xal hs];refine Split.U0 rfl (aL.mk (JE.mk (h9 _ _ λ_=>Br.no ?_)));rw[xac zO];exact bg.mk (.refl _) rfl
theorem oI(a b c:Int)(d:Bool):∀u∈[Value.int .i64 a,iv b,iv c,.bool d],u.oneCell'=true:=λu hu=>by
 simp only[xak,xaQ,xbE]at hu;rcases hu with rfl|rfl|rfl|rfl<;>rfl
abbrev ud(a b c:Int)(d:Bool):zV:=.agg #[iv a,iv b,iv c,.bool d]
theorem Qq(h:At kp K S ord tr C){gr:Nat}(mw:100<=gr/\gr<=1000)(hn:12<K.n):Rd zQ 85 #[ptr kp,.int .u8 6,iv (gr:Int)] C (· =.tuple #[ud 0 0 0 false,iv 6]):=by
 refine aE λg=>iI ?_;intro b1 _;refine aa.eq (iy h (s:=6)) ?_;rw[xac zO,xae ⟨rfl,hn⟩];refine ae.cL (Br.T (Build.mk (cs:=[iv 0,iv 0,iv 0,.bool false]) zK ?_));refine St.q ?_;refine ay.q ?_;exact bg.mk .tail rfl
theorem Qr(h:At kp K S ord tr C){gr:Nat}(mw:100<=gr/\gr<=1000)(hin:Fc zQ 135 #[ptr kp,iv (gr:Int)] C Q)(hQ:∀v H,Q v H->∃(a b c:Int) (d:Bool) (e:zV),v=.tuple #[ud a b c d,e]):
  Fc zQ 85 #[ptr kp,.int .u8 1,iv (gr:Int)] C Q:=by
 refine aE λg=>iI ?_;intro b1 _;refine aa.eq (iy h (s:=1)) ?_;rw[xac zO,xac zO];refine ae.cL (Br.F (ae.eR (a:=1) (b:=1) (Br.yes (aa.fq hin ?_))));intro v H hv;obtain⟨a,b,c,d,e,rfl⟩:=hQ v H hv;refine Ext.two (St.p (oI a b c d) ?_);refine ay.q ?_;exact aM.mk .tail hv
theorem Fj(h:At kp K S ord tr C){gr:Nat}(mw:100<=gr/\gr<=1000)(hin:Fc zQ 136 #[ptr kp,iv (gr:Int)] C (λv H=>∃(a b c:Int) (d:Bool) (r:zV),v=.tuple #[ud a b c d,r,iv 0]/\Q (.tuple #[ud a b c d,iv 0]) H)):
  Fc zQ 85 #[ptr kp,.int .u8 2,iv (gr:Int)] C Q:=by
 refine aE λg=>iI ?_;intro b1 _;refine aa.eq (iy h (s:=2)) ?_;rw[xac zO,xac zO];refine ae.cL (Br.F (ae.eR (a:=2) (b:=1) (Br.no (ae.eR (a:=2) (b:=2) (Br.yes (aa.fq hin ?_))))));rintro v H ⟨a,b,c,d,r,rfl,hv⟩;refine Ext.mk rfl (Ext.mk rfl (Ext.mk rfl ?_));intro EM _;refine St.p (oI a b c d) ?_;refine ay.q ?_;refine St.p (oI a b c d) ?_;refine ay.q ?_;exact aM.mk (.skip .tail) hv
theorem Fi(h:At kp K S ord tr C){w gr:Nat}(hw:3<=w/\w<=5)(mw:100<=gr/\gr<=1000)(hin:Fc zQ 137 #[ptr kp,iv ((w-1:Nat):Int)] C Q)(hQ:∀v H,Q v H->∃(a b c:Int) (d:Bool) (e:zV),v=.tuple #[ud a b c d,e]):
  Fc zQ 85 #[ptr kp,.int .u8 (w:Int),iv (gr:Int)] C Q:=by
 refine aE λg=>iI ?_;intro b1 _;refine aa.eq (iy h (s:=w)) ?_;rw[xac zO,xac zO];refine ae.cL (Br.F (ae.eR (b:=1) (Br.F (ae.eR (b:=2) (Br.F ?_)))));intro J28 h28;have good:J28 [.bool true] ((b1,.cells #[iv 0,iv 0,iv 0,.bool false] 147 zZ)::C):=by
  refine h28 _ _ λ_=>Br.yes ?_;refine aa.eq (Qo hw) (aa.fq hin ?_);intro v H hv;obtain⟨a,b,c,d,e,rfl⟩:=hQ v H hv;refine Ext.two (St.p (oI a b c d) ?_);refine ay.q ?_;exact aM.mk .tail hv
 refine ae.eR (b:=3) (Br.dec (λe=>?_) (λe=>?_))
 ·rw[xan e];exact JE.mk good
 refine ae.eR (b:=4) (Br.dec (λe=>?_) (λe=>?_))
 ·rw[xan e];exact JE.mk good
 refine ae.eR (b:=5) ?_;rw[xan zO];exact JE.mk good
theorem MN(h:At kp K S ord tr C){gr:Nat}(hn:K.n<=12)(mw:100<=gr/\gr<=1000)(hin:Fc zQ 139 #[ptr kp] C Q)(hQ:∀v H,Q v H->∃(a b c:Int) (d:Bool) (e:zV),v=.tuple #[ud a b c d,e]):
  Fc zQ 85 #[ptr kp,.int .u8 6,iv (gr:Int)] C Q:=by
 refine aE λg=>iI ?_;intro b1 _;refine aa.eq (iy h (s:=6)) ?_;rw[xac zO,xac zO];refine ae.cL (Br.F (ae.eR (a:=6) (b:=1) (Br.no (ae.eR (a:=6) (b:=2) (Br.no ?_)))));intro J28 h28;refine ae.eR (a:=6) (b:=3) (Br.no (ae.eR (a:=6) (b:=4) (Br.no (ae.eR (a:=6) (b:=5) (JE.mk (h28 _ _ λ_=>Br.no ?_))))));refine ae.eR (a:=6) (b:=6) (Br.yes (aa.fq hin ?_));intro v H hv;obtain⟨a,b,c,d,e,rfl⟩:=hQ v H hv;refine Ext.two (St.p (oI a b c d) ?_);refine ay.q ?_;exact aM.mk .tail hv
theorem Qt(h:At kp K S ord tr C){gr:Nat}(mw:100<=gr/\gr<=1000):Rd zQ 85 #[ptr kp,.int .u8 0,iv (gr:Int)] C (· =.tuple #[ud (cF K S ord:Nat) (cF K S ord:Nat) 0 false,iv 0]):=by
 refine aE λg=>iI ?_;intro b1 _;refine aa.eq (iy h (s:=0)) ?_;rw[xac zO,xac zO];refine ae.cL (Br.F (ae.eR (a:=0) (b:=1) (Br.no (ae.eR (a:=0) (b:=2) (Br.no ?_)))));intro J28 h28;refine ae.eR (a:=0) (b:=3) (Br.no (ae.eR (a:=0) (b:=4) (Br.no (ae.eR (a:=0) (b:=5) (JE.mk (h28 _ _ λ_=>Br.no ?_))))));refine ae.eR (a:=0) (b:=6) (Br.no (aa.eq (cE h) (aa.eq (cE h) (Build.mk (cs:=[iv ((cF K S ord:Nat):Int),iv ((cF K S ord:Nat):Int),iv 0,.bool false]) zK ?_))));refine St.q ?_;refine ay.q ?_;exact bg.mk .tail rfl
end
section
variable {C:Hp}
def swB(n s:Nat):Nat->Nat
 |1=>3*n*(n-1)
 |2=>3*n*(n-1)*(s+1)
 |3=>(n-1)*2
 |4=>(n-2)*10
 |5=>(n-3)*46
 |6=>n*(n-1)
 |_=>0
end
end
end Go.Proofs
namespace aA
section
variable {m:Rm} {g:Nat}
theorem Rm.y8(m:Rm)(ord path:zL):∀i,m.size (az ord (path.take (m.keep ord path i)))=m.size ord->m.keep ord path i=0
 |0,_=>rfl
 |i+1,h=>by
  rw[keep]at h⊢;have h0:=m.vZ ord path i 0 (xaM _);have h0:m.size (az ord (path.take (m.keep ord path i)))<=m.size ord:=h0;split at h
  ·omega
  rename_i hn;rw[xac hn];exact m.y8 ord path i h
theorem Rm.ER(m:Rm)(w p:Nat)(ord:zL)(h:m.size (az ord (m.visit w p ord).1)=m.size ord):(m.visit w p ord).1=[]:=by
 have:=m.y8 ord (m.dJ p (mc w) ord) (m.dJ p (mc w) ord).length h;show List.take _ _=[];rw[this];rfl
theorem Rm.BY(m:Rm)(w p:Nat)(ord:zL):(m.visit w p ord).2<=2*(mc w).length:=by
 have h1:=m.l7 p (mc w) ord;show _+(_-_)<=_;omega
theorem Rm.z8(m:Rm)(w:Nat)(ord:zL):∀i,(m.all w ord i).2<=i*(2*(mc w).length)
 |0=>xaM _
 |i+1=>by
  have h1:=m.z8 w ord i;have h2:=m.BY w i (az ord (m.all w ord i).1);show(m.all w ord i).2+(m.visit w i (az ord (m.all w ord i).1)).2<=_;rw[xbq];omega
theorem vB{p q:zL}(hq:q.Nodup)(hp:p.Perm q):∀i,i<=q.length->2*(ef p q i).length+i*i<=i*(2*p.length-1)
 |0,_=>by simp[ef]
 |i+1,hi=>by
  have:=vB hq hp i zO;obtain⟨_,_,h3⟩:=jT hq hp i zO;have hl:=hp.length_eq;rw[ef,xaf,Bm];have h4:=(h3 zO).2;have e1:(i+1)*(i+1)=i*i+i+i+1:=by rw[xbq,Nat.mul_succ];omega
  have e2:(i+1)*(2*p.length-1)=i*(2*p.length-1)+(2*p.length-1):=xbq _ _;rw[e1,e2];omega
theorem Ft{p q:zL}{n:Nat}(hq:q.Nodup)(hp:p.Perm q)(hn:q.length=n):2*(path p q).length<=n*(n-1):=by
 have:=vB hq hp q.length (xaj _);have hl:=hp.length_eq;rw[hl,hn]at this;unfold path;rw[hn];cases n with
 |zero=>simpa using this
 |succ k=>
  rw[show 2*(k+1) -1=(k+1)+k by omega,xdm (k+1) (k+1) k]at this;show 2*(ef p q (k+1)).length<=(k+1)*k;omega
structure tV(m:Rm)(ord:zL)(ls:zL):Prop where
 mem:∀x∈ls,x+1<m.n
 le:m.size (az ord ls)<=m.size ord
 len:ls.length+66*m.size (az ord ls)<=66*m.size ord
theorem tV.nil{ord:zL}:tV m ord []:=⟨by simp,xaj _,by simp[az]⟩
theorem tV.of{ord ls:zL}(h1:∀x∈ls,x+1<m.n)(h2:m.size (az ord ls)<=m.size ord)(h3:m.size (az ord ls)=m.size ord->ls=[])(h4:ls.length<=66):tV m ord ls:=by
 refine⟨h1,h2,?_⟩;by_cases e:m.size (az ord ls)=m.size ord
 ·rw[h3 e];simp[az]
 omega
theorem Cn(hn:m.n<=64):∀{l ord:zL},ord.Perm (List.range m.n)->(∀v∈l,v<m.n)->(m.cr g ord l).1.length+66*m.size (az ord (m.cr g ord l).1)<=66*m.size ord
 | [],ord,hp,hl=>by simp[Rm.cr,az]
 |v::l,ord,hp,hl=>by
  have hv:=FV hp (hl v zI);obtain⟨a1,a2,a3,a4⟩:=m.AG g (ord:=ord) hv;have hin:=KS hv a1;have ih:=Cn hn (l:=l) (ord:=az ord (road (ord.idxOf v) (m.sj g ord (ord.idxOf v)).1)) (mE hp hin) (λx hx=>hl x (by simp[hx]));have Dv:=vj (ord.idxOf v) (m.sj g ord (ord.idxOf v)).1;rw[Rm.cr];simp only;rw[cq,xaf];by_cases e:m.size (az ord (road (ord.idxOf v) (m.sj g ord (ord.idxOf v)).1))=m.size ord
  ·have e2:=a3 e;rw[e2,gB]at ih Dv⊢;simpa[az]using ih
  omega
theorem p5{ord l:zL}(hp:ord.Perm (List.range m.n))(hl:l.Perm (List.range m.n))(hn:m.n<=64):tV m ord (m.cr g ord l).1/\(m.cr g ord l).2<=3*m.n*(m.n-1):=by
 have hlt:∀v∈l,v<m.n:=λv hv=>xaN.1 (hl.mem_iff.1 hv);have h:=mG (m:=m) (g:=g) (l:=l) hp hlt;have ni:l.length=m.n:=by rw[hl.length_eq,xaJ]
 obtain⟨h1,h2,h3,h4,h5⟩:=h;rw[ni]at h4;exact⟨⟨h1,h2,Cn hn hp hlt⟩,by rw[xcK,xck m.n,<-xcK];exact h4⟩
theorem uZ(hn:m.n<=64):∀{ls:List (zL)} {ord:zL},ord.Perm (List.range m.n)->(∀l∈ls,l.Perm (List.range m.n))->m.tJ g ord ls->tV m ord (m.df g ord ls).1
 | [],ord,hp,hl,hg=>hg.elim
 | [l],ord,hp,hl,hg=>by
  have e:(m.df g ord [l]).1=(m.cr g ord l).1++[]:=rfl;rw[e,xaL];exact(p5 hp (hl l zI) hn).1
 |l::l2::r,ord,hp,hl,hg=>by
  obtain⟨g1,g2⟩:=(qv zI).1 hg;have a:=(p5 (g:=g) hp (hl l zI) hn).1;have ih:=uZ hn (ls:=l2::r) (mE hp a.mem) (λx hx=>hl x (by simp[xak.1 hx])) g2;have e:(m.df g ord (l::l2::r)).1=(m.cr g ord l).1++(m.df g (az ord (m.cr g ord l).1) (l2::r)).1:=rfl;rw[e];have a1:=a.le;have a2:=a.len;have b1:=ih.le;have b2:=ih.len;refine⟨λx hx=>(xao.1 hx).elim (a.mem x) (ih.mem x),by rw[cq];omega,by rw[cq,xaf];omega⟩
theorem E5{ls:List (zL)}{ord:zL}(hp:ord.Perm (List.range m.n))(hl:∀l∈ls,l.Perm (List.range m.n))(hg:m.tJ g ord ls):(m.df g ord ls).2<=3*m.n*(m.n-1)*(m.size ord+1):=by
 have h:=KK hp hl hg;have h1:=h.Yk.2;have h2:=h.uW;have e:3*(m.n-1)*m.n=3*m.n*(m.n-1):=by rw[xcK,xck (m.n-1),<-xcK]
 rw[e]at h2;exact xbw h2 (xdb _ zO)
theorem Rm.Ej(m:Rm)(w:Nat)(ord:zL):∀i,(m.all w ord i).1.length+66*m.size (az ord (m.all w ord i).1)<=66*m.size ord
 |0=>by simp[Rm.all,az]
 |i+1=>by
  have e:(m.all w ord (i+1)).1=(m.all w ord i).1++(m.visit w i (az ord (m.all w ord i).1)).1:=rfl;have ih:=m.Ej w ord i;have h1:=m.BZ w i (az ord (m.all w ord i).1);have h2:=m.ER w i (az ord (m.all w ord i).1);have h3:=(m.r6 w i (az ord (m.all w ord i).1)).1;rw[e,cq,xaf];by_cases e2:m.size (az (az ord (m.all w ord i).1) (m.visit w i (az ord (m.all w ord i).1)).1)=m.size (az ord (m.all w ord i).1)
  ·rw[h2 e2];simpa[az]using ih
  omega
theorem E7{w:Nat}{ord:zL}(hw:2<=w/\w<=4)(hn:m.n<=64):tV m ord (m.pass w ord).1/\(m.pass w ord).2<=(m.n+1-w)*(2*(mc w).length):=by
 refine⟨⟨λx hx=>?_,m.Ts w ord _,m.Ej w ord _⟩,m.z8 w ord _⟩;by_cases e:m.n+1-w=0
 ·have hx:x∈(m.all w ord (m.n+1-w)).1:=hx;rw[e]at hx;exact absurd hx xaQ
 have:=m.LW hx;omega
end
end aA
set_option maxRecDepth 100000
namespace Go.Proofs
open Go Go.Sx Tryz
open aA
section
variable {kp:Nat} {K:Kd} {S:Nat->aA.Fn} {ord tr:zL} {C:Hp}
def WS(kp:Nat)(K:Kd)(S:Nat->aA.Fn)(ord tr:zL)(s:Nat)(v:zV)(H:Hp):Prop:=
 ∃(ls:zL) (c:Nat) (d:Bool),v=.tuple #[ud (cF K S ord:Nat) (cF K S (az ord ls):Nat) (c:Nat) d,iv 0]/\At kp K S (az ord ls) (tr++ls) H/\tV (rm K S) ord ls/\c<=swB K.n (cF K S ord) s/\(d=true->s=6)
theorem WS.shape{s:Nat}{v:zV}{H:Hp}(h:WS kp K S ord tr s v H):∃(a b c:Int) (d:Bool) (e:zV),v=.tuple #[ud a b c d,e]:=by
 obtain⟨ls,c,d,rfl,_⟩:=h;exact⟨_,_,_,_,_,rfl⟩
theorem KR(h:At kp K S ord tr C)(hp:ord.Perm (List.range K.n)){s gr:Nat}(hs:s<=6)(mw:100<=gr/\gr<=1000)(hx:s=6->K.n<=12)(eM:tr.length<16492674416640):
  Fc zQ 85 #[ptr kp,.int .u8 (s:Int),iv (gr:Int)] C (WS kp K S ord tr s):=by
 have hn:=h.lB;have hrn:(rm K S).n=K.n:=rfl;have Du:∀o,(rm K S).size o=cF K S o:=λ_=>rfl;have win:∀w:Nat,3<=w/\w<=5->Fc zQ 85 #[ptr kp,.int .u8 (w:Int),iv (gr:Int)] C (WS kp K S ord tr w):=λw hw=>by
  refine Fi h hw mw ((WM h (w:=w-1) zO zO).mono ?_) λv H h=>h.shape;rintro v H ⟨rfl,hA⟩;obtain⟨h1,h2⟩:=E7 (m:=rm K S) (w:=w-1) (ord:=ord) zO hn;refine⟨_,_,false,rfl,hA,h1,xbw h2 (Nat.le_of_eq ?_),nofun⟩;rw[hrn];obtain rfl|rfl|rfl:w=3\/w=4\/w=5:=by omega
  ·rfl
  ·show(K.n+1-3)*10=(K.n-2)*10;rw[show K.n+1-3=K.n-2 by omega]
  show(K.n+1-4)*46=(K.n-3)*46;rw[show K.n+1-4=K.n-3 by omega]
 obtain rfl|rfl|rfl|h3|rfl:s=0\/s=1\/s=2\/(3<=s/\s<=5)\/s=6:=by omega
 ·refine Fc.mono (Qt h mw) ?_;rintro v H ⟨rfl,rfl⟩;exact⟨[],0,false,rfl,by rw[xaL];exact h,.nil,xaM _,nofun⟩
 ·refine Qr h mw ((Cr h hp mw zO).mono ?_) λv H h=>h.shape;rintro v H ⟨l,hl,rfl,hA⟩;obtain⟨h1,h2⟩:=p5 (m:=rm K S) (g:=gr) hp hl hn;exact⟨_,_,false,rfl,hA,h1,h2,nofun⟩
 ·refine Fj h mw ((Cd h hp mw zO).mono ?_);rintro v H ⟨lss,hls,hg,rfl,hA⟩;exact⟨_,_,_,false,_,rfl,_,_,false,rfl,hA,uZ hn hp hls hg,E5 hp hls hg,nofun⟩
 ·exact win s h3
 have uh:=hx rfl;refine MN h uh mw ((Uc h hp uh zO).mono ?_) λv H h=>h.shape;rintro v H ⟨L,EH,tE,So,hQ⟩;have hk:∀p:zL,p.Perm (List.range K.n)->cF K S p=kB K.n p L K.n:=λp hp=>by
  unfold cF;rw[tE];exact W8 EH zO (KW hp)
 rcases hQ with⟨e,rfl,hA⟩|⟨hne,o,ls,ho,hls,hQ⟩
 ·exact⟨[],0,true,rfl,by rw[xaL];exact hA,.nil,xaM _,λ_=>rfl⟩
 have hop:o.Perm (List.range K.n):=by rw[ho];exact s6 _
 have hoB:cF K S o=ak.B K.n (ak.lvl K.n L) 0:=by rw[hk o hop,ho];exact sY zO EH
 have hle:ak.B K.n (ak.lvl K.n L) 0<=cF K S ord:=by rw[hk ord hp];exact WG zO EH hp
 have abM:o.Nodup:=hop.nodup_iff.2 xbj;have EF:o.length=K.n:=by rw[hop.length_eq,xaJ]
 have hdl:ord.length=K.n:=by rw[hp.length_eq,xaJ]
 obtain⟨Pk,Pj⟩:=AN abM (hp.trans hop.symm);have BI:=Ft abM (hp.trans hop.symm) EF;rw[<-hls]at Pk Pj BI;have Lx:K.n*(K.n-1)<=12*11:=xbP uh zO;rcases hQ with⟨_,rfl,hA⟩|⟨hc,rfl,hA⟩
 ·refine⟨ls,_,true,by rw[Pk],by rw[Pk];exact hA,.of (λx hx=>by have:=Pj x hx;omega) ?_ ?_ zO,by show ls.length<=K.n*(K.n-1);omega,λ_=>rfl⟩
  ·rw[Pk,Du,Du];omega
  rw[Pk,Du,Du];omega
 have hgl:=(rm K S).l7 0 ls ord;exact⟨[],_,false,rfl,by rw[xaL];exact hA,.nil,by show 2*_<=K.n*(K.n-1);omega,nofun⟩
end
end Go.Proofs
namespace aA
open ak
variable {n:Nat}
def sat(n:Nat)(f:Fn):Nat:=(List.range (2^n)).countP f
def flip(v x:Nat):Nat:=aB x v (!x.testBit v)
theorem flip_flip(v x:Nat):flip v (flip v x)=x:=by
 unfold flip;rw[aj,xae rfl,oE];simpa using iu x v
theorem LA{v x:Nat}(hv:v<n)(hx:x<2^n):flip v x<2^n:=fY hx hv
theorem NM{v:Nat}(hv:v<n):((List.range (2^n)).map (flip v)).Perm (List.range (2^n)):=by
 refine(xcX ?_ xbj).2 λx=>?_
 ·refine xb9.2 (xbj.imp λ{a b} h e=>h ?_);rw[<-flip_flip v a,e,flip_flip]
 rw[xam];constructor
 ·rintro⟨y,hy,rfl⟩;exact xaN.2 (LA hv (xaN.1 hy))
 intro hx;exact⟨flip v x,xaN.2 (LA hv (xaN.1 hx)),flip_flip v x⟩
theorem wJ{f g p q:Nat->Bool}(h:∀x,(p x).toNat+(q x).toNat=(f x).toNat+(g x).toNat):∀l:zL,l.countP p+l.countP q=l.countP f+l.countP g
 | []=>rfl
 |x::l=>by
  have:=h x;have:=wJ h l;simp only[List.countP_cons];cases hp:p x<;>cases hq:q x<;>cases hf:f x<;>cases hg:g x<;>simp_all<;>omega
theorem Qn{v:Nat}(hv:v<n)(f:Fn):sat n (λx=>f (aB x v false))+sat n (λx=>f (aB x v true))=2*sat n f:=by
 unfold sat;rw[wJ (f:=f) (g:=λx=>f (flip v x)) (λx=>?_)]
 ·have:List.countP (λx=>f (flip v x)) (List.range (2^n))=List.countP f (List.range (2^n)):=by
   have h:=(NM hv).countP_eq f;rw[xez]at h;exact h
  omega
 unfold flip;have:=iu x v;cases hb:x.testBit v<;>rw[hb]at this<;>simp only[xcw,xcp]<;>rw[this]<;>omega
theorem sn:sat n (λ_=>false)=0:=by simp[sat]
theorem sat_true:sat n (λ_=>true)=2^n:=by simp[sat]
variable {N:eA} {S:Nat->Fn} {ah:Nat->Nat}
theorem Qm(h:WF n ah N)(hl:j5 n ah)(hi:Interp N S){r a b:Nat}{d:Nd}(hd:N r=some d)(hv:d.v<n)(ha:a*2^dep n ah N d.lo=sat n (S d.lo))(hb:b*2^dep n ah N d.hi=sat n (S d.hi)):
  (a*2^(dep n ah N d.lo-ah d.v-1)+b*2^(dep n ah N d.hi-ah d.v-1))*2^dep n ah N r=sat n (S r):=by
 have h1:=(h.lo hd).2;have h2:=(h.hi hd).2;rw[an hd];have e1:(λx=>S r (aB x d.v false))=S d.lo:=by
  have:=(gi h hl hi (r:=r) (.inr ⟨d,hd⟩) hv (by rw[an hd];exact xaj _) false);rw[(kK hd).1]at this;exact(funext this.1).symm
 have e2:(λx=>S r (aB x d.v true))=S d.hi:=by
  have:=(gi h hl hi (r:=r) (.inr ⟨d,hd⟩) hv (by rw[an hd];exact xaj _) true);rw[(kK hd).2]at this;exact(funext this.1).symm
 have hh:=Qn hv (S r);rw[e1,e2,<-ha,<-hb]at hh;have p1:2^dep n ah N d.lo=2^(dep n ah N d.lo-ah d.v-1)*(2*2^ah d.v):=by
  rw[<-Nat.pow_succ',<-xdz];congr 1;omega
 have p2:2^dep n ah N d.hi=2^(dep n ah N d.hi-ah d.v-1)*(2*2^ah d.v):=by
  rw[<-Nat.pow_succ',<-xdz];congr 1;omega
 rw[p1,p2]at hh;rw[<-xcK a,<-xcK b,<-xdQ,Nat.mul_left_comm]at hh;omega
end aA
set_option maxRecDepth 100000
namespace Go.Proofs
open Go Go.Sx Tryz
section
open aA
theorem UQ{P:Program}{f:FuncId}{args:Array zV}{B:Hp}{Q:zV->Prop}(h:Px P f args B (λv _=>Q v)):Rd P f args B Q:=λg=>(h g).mono λe H h=>by
 obtain⟨v,H2,rfl,he,hg,hq⟩:=h;exact⟨v,B,rfl,he.trans hg.dD,rfl,hq⟩
theorem ae.ado{a b:Nat}{k:zV->Prop}(h:k (.int .u64 (((a+b)%18446744073709551616:Nat):Int))):ae .num .add (.int .u64 (a:Int)) (.int .u64 (b:Int)) k:=by
 refine ae.add ?_;rw[wrap_u64];have:(((a:Int)+(b:Int))%18446744073709551616)=((((a+b)%18446744073709551616:Nat)):Int):=by omega
 rw[this];exact h
section
variable {kp:Nat} {K:Kd} {S:Nat->aA.Fn} {ord ah tr:zL} {C:Hp}
theorem pe(r:Nat)(B:Hp):Rd zQ 201 #[u32 r] B (· =.bool (decide (r<2))):=by
 refine aE λg=>Jk (ae.eR (b:=0) (dc.or (a:=decide (r=0)) (decide (r=1)) (λ_=>ae.eR (b:=1) ⟨rfl,rfl⟩) rfl λ_=>?_));refine bg.mk (.refl _) ?_;rw[<-xa7];congr 1;exact xcm.2 zO
theorem S7(h:cc kp K S ord ah tr C){r v:Nat}(hr:live K.N r)(hv:v<18446744073709551616):
  Rd zQ 144 #[ptr kp,u32 r,.int .u64 (v:Int)] C (· =.tuple #[.bool (S r v),iv 0]):=by
 have sL:K.n<=64:=h.bc.lB;refine aE λg=>JR (au.int (e:=110) zK zK zK λbx=>?_);refine aa.eh .here (UQ (wP (X:=[(bx,_)]) (rs:=[r]) h (dk.block (by exact .head _) zI) (λx hx=>by rw[xaG.1 hx];exact hr) zI)) (ae.cL (Br.F (⟨λvs H=>∃q:Nat,vs=[u32 q]/\H=C/\live K.N q/\S q v=S r v,λvs _=>K.n-dep K.n (lv ah) K.N (bJ vs 0),JE.of .tail ⟨r,rfl,rfl,hr,rfl⟩,?_⟩)));rintro w H ⟨q,⟨⟩,rfl,hq,he⟩ gs;refine aa.eq (pe q _) (Un.not (Br.mk (λhb=>?_) (λhb=>?_)))
 ·have h2:2<=q:=by simpa using hb
  obtain⟨d,hN⟩:∃d,K.N q=some d:=by
   rcases hq with hq|hq
   ·omega
   exact hq
  have kY:=h.ok.mid.var hN;have hlo:=h.ok.wf.lo hN;have hhi:=h.ok.wf.hi hN;have hvl:=h.ok.lv.lt _ kY;refine aa.eh .here (UQ (wL (X:=[]) h hN)) λr4 _=>?_;refine St.p (fC d) ?_;refine Ld.f ?_;refine Ld.f ?_;refine ae.iM (by simpa[bF]using hv) (ae.jF (by simp[bF];exact xaA (xbl _ _) hv) zD (ae.eR (b:=1) ?_));rw[xbR];rw[Bh];have Ln:=h.ok.mid.int.node hN v;refine Br.mk (λhb=>?_) (λhb=>?_)
  ·rw[hb,xae rfl]at Ln;refine Ld.f ?_;refine aC.of .tail ⟨d.hi,rfl,rfl,hhi.1,Ln.symm.trans he⟩ ?_;show K.n-dep K.n (lv ah) K.N d.hi<K.n-dep K.n (lv ah) K.N q;rw[an hN];omega
  rw[hb,xac zD]at Ln;refine aC.of .tail ⟨d.lo,rfl,rfl,hlo.1,Ln.symm.trans he⟩ ?_;show K.n-dep K.n (lv ah) K.N d.lo<K.n-dep K.n (lv ah) K.N q;rw[an hN];omega
 have h2:q<2:=by simpa using hb
 refine ae.eR (b:=1) (bg.mk (.refl _) ?_);rw[<-he];have hint:=h.ok.mid.int;have:q=0\/q=1:=by omega
 rcases this with rfl|rfl
 ·rw[hint.zero];rfl
 rw[hint.one];rfl
end
end
section
open aA
section
variable {kp mb b1 b9 c9 c1 c3 Oa:Nat} {K:Kd} {S:Nat->aA.Fn} {ord ah tr:zL} {C Z:Hp}
abbrev Bw:Nat:=18446744073709551616
abbrev u64(x:Nat):zV:=.int .u64 (x:Int)
theorem wK(h:cc kp K S ord ah tr C){r:Nat}{d:Nd}(hd:K.N r=some d):Rd zQ 202 #[ptr kp,u32 r] C (· =.agg (bu d).toArray):=UQ (wL (X:=[]) h hd)
theorem wO(h:cc kp K S ord ah tr C){X:Hp}{r b:Nat}(hm:(b,Obj.cells (ax .u32 [(r:Int)]) 110 zZ)∈X)(hr:live K.N r):Rd zQ 200 #[ptr kp,.slice (some ⟨b,0,none⟩) 1 1] (X++C) (· =iv 0):=
 UQ (wP (X:=X) (rs:=[r]) h (dk.block (xad _ hm) zI) (λx hx=>by rw[xaG.1 hx];exact hr) zI)
def cw(K:Kd)(ah:zL)(S:Nat->aA.Fn)(r:Nat):Nat:=sat K.n (S r) /2^dep K.n (lv ah) K.N r
theorem rP(h:cc kp K S ord ah tr C){r:Nat}(hr:r<2):cw K ah S r=r:=by
 have hi:=h.ok.mid.int;have h0:K.N r=none:=by
  cases hN:K.N r with
  |none=>rfl
  |some d=>have:=h.ok.mid.two hN;omega
 unfold cw;rw[aU h0];have:r=0\/r=1:=by omega
 rcases this with rfl|rfl
 ·rw[show S 0=λ_=>false from funext hi.zero,sn,Nat.zero_div]
 rw[show S 1=λ_=>true from funext hi.one,sat_true,Nat.div_self (xbx _)]
theorem SP(h:cc kp K S ord ah tr C):∀(k r:Nat),K.n-dep K.n (lv ah) K.N r<=k->live K.N r->cw K ah S r*2^dep K.n (lv ah) K.N r=sat K.n (S r)/\
  (∀d,K.N r=some d->cw K ah S r=cw K ah S d.lo*2^(dep K.n (lv ah) K.N d.lo-lv ah d.v-1)+cw K ah S d.hi*2^(dep K.n (lv ah) K.N d.hi-lv ah d.v-1)):=by
 have hi:=h.ok.mid.int;intro k;induction k with
 |zero=>
  intro r hk hr;cases hN:K.N r with
  |some d=>
   rw[an hN]at hk;have:=h.ok.lv.lt _ (h.ok.mid.var hN);omega
  |none=>
   have h2:r<2:=by
    rcases hr with hr|⟨d,e⟩
    ·exact hr
    rw[hN]at e;cases e
   refine⟨?_,λd hd=>by cases hd⟩;rw[rP h h2,aU hN];have:r=0\/r=1:=by omega
   rcases this with rfl|rfl
   ·rw[show S 0=λ_=>false from funext hi.zero,sn,xd0]
   rw[show S 1=λ_=>true from funext hi.one,sat_true,xc2]
 |succ k ih=>
  intro r hk hr;cases hN:K.N r with
  |none=>
   rw[aU hN]at*;have h2:r<2:=by
    rcases hr with hr|⟨d,e⟩
    ·exact hr
    rw[hN]at e;cases e
   refine⟨?_,λd hd=>by cases hd⟩;rw[rP h h2];have:r=0\/r=1:=by omega
   rcases this with rfl|rfl
   ·rw[show S 0=λ_=>false from funext hi.zero,sn,xd0]
   rw[show S 1=λ_=>true from funext hi.one,sat_true,xc2]
  |some d=>
   have hlo:=h.ok.wf.lo hN;have hhi:=h.ok.wf.hi hN;have hvl:=h.ok.lv.lt _ (h.ok.mid.var hN);have e1:=an (n:=K.n) (ah:=lv ah) hN;have q:=Qm h.ok.wf h.ok.lv hi hN (h.ok.mid.var hN) (ih d.lo zO hlo.1).1 (ih d.hi zO hhi.1).1;have e2:cw K ah S r=cw K ah S d.lo*2^(dep K.n (lv ah) K.N d.lo-lv ah d.v-1)+cw K ah S d.hi*2^(dep K.n (lv ah) K.N d.hi-lv ah d.v-1):=by
    show sat K.n (S r) /_=_;rw[<-q,Nat.mul_div_cancel _ (xbx _)]
   exact⟨by rw[e2];exact q,λd' hd=>by cases hd;exact e2⟩
theorem si(h:cc kp K S ord ah tr C){r:Nat}(hr:live K.N r)(h1:(b1,Obj.cells #[ptr kp] 85 zZ)∈Z):
  Rd zQ 203 #[u32 r,ptr b1] (Z++C) (· =iv ((dep K.n (lv ah) K.N r:Nat):Int)):=by
 have sP:=xad C h1;refine aE λg=>Ji (aa.eq (pe r _) (Br.mk (λhb=>?_) (λhb=>?_)))
 ·have h2:r<2:=xca hb;refine Ld.mk sP rfl ?_;refine aa.eq (gM h.rep) (bg.mk (.refl _) ?_);have h0:K.N r=none:=by
   cases hN:K.N r with
   |none=>rfl
   |some d=>have:=h.ok.mid.two hN;omega
  rw[aU h0]
 have h2:¬r<2:=xdh hb;obtain⟨d,hN⟩:∃d,K.N r=some d:=by
  rcases hr with hr|hr
  ·omega
  exact hr
 have kY:=h.ok.mid.var hN;refine DR.of (.refl _) (Ld.mk sP rfl ?_);refine Ld.mk sP rfl ?_;intro F;refine aa.eq (args:=#[ptr kp,u32 r]) (wK h hN) (⟨.refl _,?_⟩);refine An.mk (off:=0) (cs:=(bu d).toArray) (v:=iv (d.v:Int)) rfl ?_;intro F;refine aa.eq (args:=#[ptr kp,iv (d.v:Int)]) (lT h.rep _) (⟨.refl _,?_⟩);rw[xae ⟨by omega,by omega⟩];refine Ext.two (bg.mk (.refl _) ?_);rw[an hN];rfl
theorem AE(a k:Nat):((a%Bw)<<<k)%Bw=(a*2^k)%Bw:=by
 rw[xcl,Nat.mod_mul_mod]
theorem UJ(h:cc kp K S ord ah tr C){r:Nat}{d:Nd}(hN:K.N r=some d)(h1:(b1,Obj.cells #[ptr kp] 85 zZ)∈Z)(h9:(b9,Obj.cells #[.func (.func 203) #[] #[ptr b1]] 260 zZ)∈Z):
  Rd zQ 205 #[.agg (bu d).toArray,u64 (cw K ah S d.lo%Bw),u64 (cw K ah S d.hi%Bw),ptr b1,ptr b9] (Z++C) (· =u64 (cw K ah S r%Bw)):=by
 have sP:=xad C h1;have h9':=xad C h9;have kY:=h.ok.mid.var hN;have hlo:=h.ok.wf.lo hN;have hhi:=h.ok.wf.hi hN;have hn:=h.bc.lB;have hdl:=h.ok.wf.iE h.ok.lv d.lo;have hdh:=h.ok.wf.iE h.ok.lv d.hi;refine aE λg=>Jg λc1 _=>?_;refine Ld.mk (.tail _ sP) rfl ?_;refine Ld.f (v:=iv (d.v:Int)) (aa.eq (lT h.rep _) ?_);rw[xae ⟨by omega,by omega⟩];refine Ext.two (DR.of (.refl _) (Ld.mk (.tail _ h9') rfl ?_));refine Ld.f (v:=u32 d.lo) (Ld.mk (.tail _ h9') rfl ?_);refine Ld.f (v:=u32 d.hi) λF=>?_;refine aF.of rfl zK (aa.eq (args:=#[u32 d.lo,ptr b1]) (si (Z:=Z) h hlo.1 h1) (⟨.refl _,?_⟩));rw[xbe];show ae _ _ (iv ((dep K.n (lv ah) K.N d.lo:Nat):Int)) (iv ((lv ah d.v:Nat):Int)) _;refine ae.bY (ae.bY (b:=1) (ae.nL λF=>(aF.of rfl zK (aa.eq (args:=#[u32 d.hi,ptr b1]) (si (Z:=Z) h hhi.1 h1) ?_))));show ae _ _ (iv ((dep K.n (lv ah) K.N d.hi:Nat):Int)) (iv ((lv ah d.v:Nat):Int)) _;refine ae.bY (ae.bY (b:=1) (ae.nL (ae.ado (bg.mk .tail ?_))));rw[AE,AE,<-Nat.add_mod,(SP h K.n r (xdv _ _) (.inr ⟨d,hN⟩)).2 d hN]
structure KnS(K:Kd)(ah:zL)(S:Nat->aA.Fn)(es:Array MapEntry)(ck:Nat)(m:List (Nat×Nat)):Prop where
 dD:aD kr (λv (x:Nat)=>v=u64 x) es ck m
 val:∀r x,aJ m r=some x->x=cw K ah S r%Bw
 low:∀r,r<2->aJ m r≠none
theorem ML(h:cc kp K S ord ah tr C)(h9:(c9,Obj.cells #[.map (some mb)] 349 zZ)∈Z)(h1:(c1,Obj.cells #[ptr kp] 85 zZ)∈Z)(h3:(c3,Obj.cells #[.func (.func 205) #[] #[ptr b1,ptr b9]] 265 zZ)∈Z)
 (NI:(Oa,Obj.cells #[.func (.func 290) #[] #[ptr c9,ptr c1,ptr c3,ptr Oa]] 350 zZ)∈Z)(hb1:(b1,Obj.cells #[ptr kp] 85 zZ)∈Z)(hb9:(b9,Obj.cells #[.func (.func 203) #[] #[ptr b1]] 260 zZ)∈Z):
  ∀(k r:Nat) (es:Array MapEntry) (ck:Nat) (m:List (Nat×Nat)),K.n-dep K.n (lv ah) K.N r<=k->live K.N r->KnS K ah S es ck m->
  Fc zQ 290 #[u32 r,ptr c9,ptr c1,ptr c3,ptr Oa] ((mb,.map es ck)::(Z++C)) (λv H=>v=u64 (cw K ah S r%Bw)/\∃es' bB m',H=(mb,.map es' bB)::(Z++C)/\KnS K ah S es' bB m'):=by
 have hit:∀{r:Nat} {es:Array MapEntry} {ck:Nat} {m:List (Nat×Nat)} {x:Nat},KnS K ah S es ck m->aJ m r=some x->
   Fc zQ 290 #[u32 r,ptr c9,ptr c1,ptr c3,ptr Oa] ((mb,.map es ck)::(Z++C)) (λv H=>v=u64 (cw K ah S r%Bw)/\∃es' bB m',H=(mb,.map es' bB)::(Z++C)/\KnS K ah S es' bB m'):=by
  intro r es ck m x hm hv;refine aE λg=>xz (Ld.mk (v:=.map (some mb)) (.tail _ (xad _ h9)) rfl ?_);refine hm.dD.hit (k:=r) cY (b:=mb) (by exact .head _) hv λv' e=>?_;subst e;exact Ext.two (Br.yes (aM.mk (.refl _) ⟨by rw[hm.val r x hv],es,ck,m,rfl,hm⟩))
 intro k;induction k with
 |zero=>
  intro r es ck m hk hr hm;have qt:r<2:=by
   cases hN:K.N r with
   |some d=>
    rw[an hN]at hk;have:=h.ok.lv.lt _ (h.ok.mid.var hN);omega
   |none=>
    rcases hr with hr|⟨d,e⟩
    ·exact hr
    rw[hN]at e;cases e
  cases hv:aJ m r with
  |none=>exact absurd hv (hm.low r qt)
  |some v=>exact hit hm hv
 |succ k ih=>
  intro r es ck m hk hr hm;cases hv:aJ m r with
  |some v=>exact hit hm hv
  |none=>
  have qt:¬r<2:=λh2=>hm.low r h2 hv;obtain⟨d,hN⟩:∃d,K.N r=some d:=by
   rcases hr with hr|hr
   ·omega
   exact hr
  have hlo:=h.ok.wf.lo hN;have hhi:=h.ok.wf.hi hN;rw[an hN]at hk;have hvl:=h.ok.lv.lt _ (h.ok.mid.var hN);refine aE λg=>xz (Ld.mk (v:=.map (some mb)) (.tail _ (xad _ h9)) rfl ?_);refine hm.dD.bM (k:=r) cY (b:=mb) (by exact .head _) hv ?_;refine Ext.two (Br.no (Ld.mk (v:=ptr kp) (.tail _ (xad _ h1)) rfl ?_));refine aa.eq (args:=#[ptr kp,u32 r]) (wK h hN) λb8 _=>?_;refine St.p (fC d) ?_;refine DR.of (R:=(b8,Obj.cells (bu d).toArray 226 zZ)::Z) (.cons (.skip .left)) (Ld.mk (v:=.func (.func 205) #[] #[ptr b1,ptr b9]) (.tail _ h3) rfl ?_);refine ay.q ?_;refine Ld.mk (v:=.func (.func 290) #[] #[ptr c9,ptr c1,ptr c3,ptr Oa]) (.tail _ NI) rfl ?_;refine Ld.f (v:=u32 d.lo) (Ld.mk (v:=.func (.func 290) #[] #[ptr c9,ptr c1,ptr c3,ptr Oa]) (.tail _ NI) rfl ?_);refine Ld.f (v:=u32 d.hi) λF=>?_;refine aF.of rfl zK (aa.fq (args:=#[u32 d.lo,ptr c9,ptr c1,ptr c3,ptr Oa]) (ih d.lo es ck m zO hlo.1 hm) ?_);rintro v1 H ⟨rfl,kx,jN,m1,rfl,uj⟩;refine⟨.cons (.skip .left),?_⟩;intro F;refine aF.of rfl zK (aa.fq (args:=#[u32 d.hi,ptr c9,ptr c1,ptr c3,ptr Oa]) (ih d.hi kx jN m1 zO hhi.1 uj) ?_);rintro v2 H ⟨rfl,gR,iF,m2,rfl,lZ⟩;refine⟨.cons (.skip .left),?_⟩;intro F;refine aF.of rfl zK (aa.eq (args:=#[.agg (bu d).toArray,u64 (cw K ah S d.lo%Bw),u64 (cw K ah S d.hi%Bw),ptr b1,ptr b9]) (UJ (Z:=Z) h hN hb1 hb9) (Ld.mk (v:=.map (some mb)) (.tail _ (.tail _ (xad _ h9))) rfl ?_));refine lZ.dD.br (k:=r) (b:=mb) (x:=cw K ah S r%Bw) cY gN rfl λo7 qM he=>⟨_,.tail (.head _),?_⟩;refine aM.mk .tail ⟨rfl,o7,qM,_,rfl,he,λr' x' nX=>?_,λr' hr'=>?_⟩
  ·rw[bK]at nX;split at nX
   ·rename_i e;subst e;cases nX;rfl
   exact lZ.val r' x' nX
  rw[bK];split
  ·simp
  exact lZ.low r' hr'
theorem SS(h:cc kp K S ord ah tr C){r:Nat}(hr:live K.N r):
  Rd zQ 146 #[ptr kp,u32 r] C (· =.tuple #[u64 (sat K.n (S r)%Bw),iv 0]):=by
 have hi:=h.ok.mid.int;refine aE λg=>JP λb1 _=>?_;refine Ld.q ?_;refine au.int (e:=110) zK zK zK λbx=>?_;refine aa.eh .here (wO (X:=[(bx,_),(b1,_)]) h (by exact .head _) hr) (ae.cL (Br.F λb9 _=>(St.one (c':=#[.func (.func 203) #[] #[ptr b1]]) (by exact .head _) rfl zI rfl ?_)));refine Ld.q ?_;refine aa.fq (args:=#[ptr kp,u32 r,u64 0,u64 1,.func (.func 205) #[] #[ptr b1,ptr b9]]) (C:=(b9,Obj.cells #[.func (.func 203) #[] #[ptr b1]] 260 zZ)::(bx,_)::(b1,Obj.cells #[ptr kp] 85 zZ)::C) (Q:=λv H=>v=u64 (cw K ah S r%Bw)/\H=(b9,Obj.cells #[.func (.func 203) #[] #[ptr b1]] 260 zZ)::(bx,Obj.cells (ax .u32 [(r:Int)]) 110 zZ)::(b1,Obj.cells #[ptr kp] 85 zZ)::C) (aE λg=>Jh ?_) ?_
 ·intro c1 _ c3 _ mb _;refine aD.br (ke:=kr) (vr:=λv (x:Nat)=>v=u64 x) (k:=0) (b:=mb) (x:=0) cY gN aD.empty rfl λkx jN Gb=>⟨_,.head _,?_⟩;refine aD.br (ke:=kr) (vr:=λv (x:Nat)=>v=u64 x) (k:=1) (b:=mb) (x:=1) cY gN Gb rfl λgR iF TZ=>⟨_,.head _,?_⟩;intro c9 _;refine St.one (c':=#[.map (some mb)]) (by exact .head _) rfl zI rfl ?_;intro Oa _;refine St.one (c':=#[.func (.func 290) #[] #[ptr c9,ptr c1,ptr c3,ptr Oa]]) (by exact .head _) rfl zI rfl ?_;refine Ld.q ?_;refine aF.of rfl zK ?_;obtain⟨Z,hZ⟩:∃Z:Hp,Z=[(Oa,Obj.cells #[.func (.func 290) #[] #[ptr c9,ptr c1,ptr c3,ptr Oa]] 350 zZ),(c9,.cells #[.map (some mb)] 349 zZ),(c3,.cells #[.func (.func 205) #[] #[ptr b1,ptr b9]] 265 zZ),(c1,.cells #[ptr kp] 85 zZ),
   (b9,Obj.cells #[.func (.func 203) #[] #[ptr b1]] 260 zZ),(bx,Obj.cells (ax .u32 [(r:Int)]) 110 zZ),(b1,Obj.cells #[ptr kp] 85 zZ)]:=⟨_,rfl⟩
  refine aa.pre (H':=(mb,Obj.map gR iF)::(Z++C)) (.perm ?_) ?_
  ·rw[hZ];exact(List.Perm.cons _ (List.Perm.swap _ _ _)).trans (List.Perm.swap _ _ _)
  refine aa.fq (args:=#[u32 r,ptr c9,ptr c1,ptr c3,ptr Oa]) (ML (Z:=Z) (b1:=b1) (b9:=b9) h (by rw[hZ];exact .tail _ (.head _)) (by rw[hZ];exact .tail _ (.tail _ (.tail _ (.head _)))) (by rw[hZ];exact .tail _ (.tail _ (.head _))) (by rw[hZ];exact .head _) (by rw[hZ];exact .tail _ (.tail _ (.tail _ (.tail _ (.tail _ (.tail _ (.head _))))))) (by rw[hZ];exact .tail _ (.tail _ (.tail _ (.tail _ (.head _))))) K.n r gR iF _ (xdv _ _) hr ⟨TZ,λr' x hm=>?_,λr' hr'=>?_⟩) ?_
  ·rw[bK,bK]at hm;split at hm
   ·rename_i e;subst e;cases hm;rw[rP h zD];rfl
   split at hm
   ·rename_i e;subst e;cases hm;rw[rP h zD];rfl
   simp[aJ]at hm
  ·rw[bK,bK];have:r'=0\/r'=1:=by omega
   rcases this with rfl|rfl<;>simp
  rintro v H ⟨rfl,o7,qM,m3,rfl,_⟩;refine aM.mk ?_ ⟨rfl,rfl⟩;rw[hZ];exact .skip (.skip (.skip (.skip (.skip (.refl _)))))
 rintro v H ⟨rfl,rfl⟩;refine Ld.q ?_;refine aF.of rfl zK (aa.eh (args:=#[u32 r,ptr b1]) .here (si (Z:=[(b9,_),(bx,_),(b1,_)]) h hr (by exact .tail _ (.tail _ (.head _)))) (ae.nL (bg.mk (.skip (.skip .tail)) ?_)));rw[AE,(SP h K.n r (xdv _ _) hr).1]
end
end
end Go.Proofs
namespace Go.Sx
open Go
section
variable {P:Program} {g:Gh} {H:Hp}
def wS:Nat->List (List zV)->List (Nat×zV)
 |_,[]=>[]
 |i,r::rs=>(i,.agg r.toArray)::wS (i+1) rs
theorem wB{k:Nat}:∀(rs:List (List zV)) (i:Nat) (pre aK:List zV),(∀r∈rs,r.length=k)->pre.length=i*k->aK.length=rs.length*k->pR (λi=>some (i*k,k)) (pre++aK) (wS i rs)=some (pre++rs.flatten)
 | [],i,pre,aK,_,_,hj=>by
  have:aK=[]:=xcM.1 (by simpa using hj);subst this;simp[wS,pR]
 |r::rs,i,pre,aK,hr,hp,hj=>by
  have hrk:=hr r (xbI ..);have Zc:aK.length=k+rs.length*k:=by rw[hj,xaw,xbq,Nat.add_comm]
  simp only[wS,pR,Value.cells];have hb:(Nat.beq r.toArray.toList.length k&&Nat.ble (i*k+r.toArray.toList.length) (pre++aK).length)=true:=by
   have e1:r.toArray.toList.length=k:=hrk;rw[e1,xaf];simp;omega
  rw[hb,xap];have h1:=oK r (pre++aK) (i*k) (by rw[xaf];omega);rw[mK]at h1;have h2:vE (pre++aK) (i*k) r=pre++r++aK.drop k:=by
   have:=xcb Array.toList h1;simp only at this;rw[this,<-hp];simp[xer,hrk,xes]
  show pR _ (vE (pre++aK) (i*k) r) _=_;rw[h2,wB rs (i+1) (pre++r) (aK.drop k) (λx hx=>hr x (xbu _ hx)) (by rw[xaf,hp,hrk,xbq]) (by rw[List.length_drop];omega)];simp
theorem au.many{t e k:Nat}{z:zV}(rs:List (List zV)){len:Nat}{parts:List (Nat×zV)}{K:zV->Hp->Prop}(h1:P.underlying t=some (.slice e))(h2:dG P e=some k)(h3:fK P e=some z)(hk:rs.length*k<=16777216)(hr:∀r∈rs,r.length=k)
 (hl:rs.length=len)(hp:wS 0 rs=parts)(h:∀b,K (.slice (some ⟨b,0,Option.none⟩) len len) ((b,.cells (rows rs) e zZ)::H)):au P t len parts H K:=by
 subst hl hp;refine⟨rows rs,e,k,z,h1,h2,h3,by omega,?_,λb _=>h b⟩;have:((Array.range (rs.length*k)).map (z.cells[· %z.cells.size]!))=(((Array.range (rs.length*k)).map (z.cells[· %z.cells.size]!)).toList).toArray:=by rw[xds]
 rw[this];generalize hc:((Array.range (rs.length*k)).map (z.cells[· %z.cells.size]!)).toList=c;have hlen:c.length=rs.length*k:=by rw[<-hc];simp
 refine mW _ _ _ ?_;have:=wB rs 0 [] c hr zI hlen;simpa using this
def kI(kd:IntKind)(a:Int):zV:=.int kd a
theorem bZ(kd:IntKind)(a b:Int):Instr.sameNow (.int kd) (kI kd a) (kI kd b)=some (decide (a=b)):=by
 simp only[Instr.sameNow,kI,xa6,xaq];rw[xbS];simp
theorem AZ(kd:IntKind)(a:Int):Instr.sameBits 10000 (kI kd a) (kI kd a)=true:=by simp[Instr.sameBits,kI]
theorem aD.look{κ β:Type}[DecidableEq κ]{ke:κ->zV}{vr:zV->β->Prop}{es:Array MapEntry}{ck b:Nat}{m:List (κ×β)}{kd:TypeDesc}{zero:zV}{ok:Bool}{k:κ}{K:zV->Prop}(hk:∀a b,Instr.sameNow kd (ke a) (ke b)=some (decide (a=b)))(h:aD ke vr es ck m)(hm:(b,Obj.map es ck)∈H)
 (h1:∀x v,aJ m k=some x->vr v x->K (cond ok (.tuple #[v,.bool true]) v))(h2:aJ m k=none->K (cond ok (.tuple #[zero,.bool false]) zero)):cZ kd zero ok H (.map (some b)) (ke k) K:=by
 cases hx:aJ m k with
 |none=>exact h.bM hk hm hx (h2 hx)
 |some x=>exact h.hit hk hm hx λv hv=>h1 x v hx hv
end
end Go.Sx
set_option maxRecDepth 100000
namespace Go.Proofs
open Go Go.Sx Tryz
section
open aA
section
variable {B:Hp}
abbrev i64(a:Int):zV:=iv a
abbrev eV(e h:Int)(n:Nat)(t:Int):zV:=.agg #[i64 e,i64 h,u64 n,i64 t]
theorem bI(e h:Int)(n:Nat)(t:Int):∀u∈[i64 e,i64 h,u64 n,i64 t],u.oneCell'=true:=λu hu=>by
 simp only[xak,xaQ,xbE]at hu;rcases hu with rfl|rfl|rfl|rfl<;>rfl
theorem cz(e:Int)(B:Hp):Rd zQ 41 #[i64 e] B (· =eV e (-1) 0 0):=by
 refine aE λg=>O1 λb1 _=>?_;refine Build.mk (cs:=[i64 e,i64 (-1),u64 0,i64 0]) zK (St.p (bI _ _ _ _) ?_);refine ay.q ?_;exact bg.mk .tail rfl
theorem dP(n:Nat)(e:Int)(B:Hp):Rd zQ 143 #[u64 n,i64 e] B (· =if e=0 then eV 0 (-1) n 0 else eV e (-1) 0 0):=by
 refine aE λg=>JS λb1 _=>?_;refine ae.neq ?_;by_cases he:e=0
 ·subst he;refine Br.no' rfl (Build.mk (cs:=[i64 0,i64 (-1),u64 n,i64 0]) zK (St.p (bI _ _ _ _) ?_));refine ay.q ?_;exact bg.mk .tail rfl
 refine Br.Ub (by simpa using he) (aa.eq (cz e _) (St.p (r:=[i64 e,i64 (-1),u64 0,i64 0]) (bI _ _ _ _) ?_));refine ay.q ?_;exact bg.mk .tail (by rw[xac he])
theorem KN(b:Bool)(B:Hp):Rd zQ 145 #[.bool b] B (· =u64 b.toNat):=by
 refine aE λg=>JQ ?_;cases b
 ·exact Br.no (bg.mk (.refl _) rfl)
 exact Br.yes (bg.mk (.refl _) rfl)
structure fI where
 op:Nat
 a:Int
 b:Int
 c:Int
 x:Nat
def fI.cells(s:fI):List zV:=[.int .u8 (s.op:Int),i64 s.a,i64 s.b,i64 s.c,u64 s.x]
abbrev fI.v(s:fI):zV:=.agg s.cells.toArray
theorem fI.one(s:fI):∀u∈s.cells,u.oneCell'=true:=λu hu=>by
 simp only[fI.cells,xak,xaQ,xbE]at hu;rcases hu with rfl|rfl|rfl|rfl|rfl<;>rfl
structure fI.Ok(s:fI):Prop where
 op:s.op<256
 a: -9223372036854775808<=s.a/\s.a<=9223372036854775807
 b: -9223372036854775808<=s.b/\s.b<=9223372036854775807
 c: -9223372036854775808<=s.c/\s.c<=9223372036854775807
 x:s.x<18446744073709551616
structure Cf where
 n:Nat
 cap:Nat
 str:Nat
 gr:Nat
 rs:Nat
def Cf.cells(c:Cf):List zV:=[i64 c.n,i64 c.cap,.int .u8 (c.str:Int),i64 c.gr,i64 c.rs]
abbrev jR(sp:Nat)(c:Cf)(kp mb nx:Nat):Nat×Obj:=(sp,.cells (c.cells++[ptr kp,.map (some mb),i64 (nx:Int)]).toArray 90 zZ)
structure iq(kp nx:Nat)(c:Cf)(K:Kd)(S:Nat->aA.Fn)(ord ah tr:zL)(hs:List (Int×Nat))(es:Array MapEntry)(ck:Nat)(C:Hp):Prop where
 ks:cc kp K S ord ah tr C
 n:K.n=c.n
 cap:K.cap=c.cap
 dD:aD (kI .i64) (λv (r:Nat)=>v=u32 r) es ck hs
 live:∀p∈hs,live K.N p.2
 hold:∀r,K.hold r=if 2<=r then(hs.map Prod.snd).count r else 0
 lt:∀p∈hs,0<=p.1/\p.1<nx
abbrev gS(sp:Nat)(c:Cf)(kp mb nx:Nat)(es:Array MapEntry)(ck:Nat)(C:Hp):Hp:=jR sp c kp mb nx::(mb,.map es ck)::C
end
section
variable {sp kp mb nx:Nat} {c:Cf} {K:Kd} {S:Nat->aA.Fn} {ord ah tr:zL} {hs:List (Int×Nat)} {es:Array MapEntry} {ck:Nat} {C:Hp}
theorem eJ(h:iq kp nx c K S ord ah tr hs es ck C)(a:Int):Rd zQ 133 #[ptr sp,i64 a] (gS sp c kp mb nx es ck C) (· =.bool (aJ hs a).isSome):=by
 refine aE λg=>JZ (Ld.n (v:=.map (some mb)) ?_);refine h.dD.look (k:=a) (bZ _) (by exact .tail _ (.head _)) (λx v hx hv=>?_) (λhx=>?_)
 ·exact Ext.two (bg.mk (.refl _) (by rw[hx];rfl))
 exact Ext.two (bg.mk (.refl _) (by rw[hx];rfl))
theorem B1(a:Int):Rd zQ 132 #[ptr sp,i64 a] (gS sp c kp mb nx es ck C) (· =.bool (decide (0<=a/\a<c.n))):=by
 refine aE λg=>J0 (ae.geq (dc.and (a:=decide (0<=a)) (decide (a<c.n)) (λ_=>?_) rfl λ_=>?_))
 ·exact Nil.ptr (ai.mk (Ld.f (v:=i64 c.n) (ae.lss ⟨rfl,rfl⟩)))
 exact bg.mk (.refl _) (by rw[<-xcU])
theorem Li(a:Int)(B:Hp):Rd zQ 131 #[i64 a] B (· =.bool (decide (a=0\/a=1))):=by
 refine aE λg=>J4 (ae.eql (dc.or (a:=a==0) (a==1) (λ_=>ae.eql ⟨rfl,rfl⟩) rfl λ_=>?_));refine bg.mk (.refl _) ?_;rw[xa7];rfl
def GG(w:Nat)(x:fI):Bool:=decide (w&&&32≠0) && !decide (x.a=0\/x.a=1)
def Oe(w:Nat)(x:fI):Bool:=decide (w&&&64≠0) && !decide (x.c=0\/x.c=1)
def Fy(n w:Nat)(x:fI):Bool:=decide (w&&&8≠0) && !decide (0<=x.a/\x.a<n)
def Fx(n w:Nat)(x:fI):Bool:=decide (w&&&16≠0) && !decide (0<=x.b/\x.b<n)
def M4(n w:Nat)(x:fI):Bool:=decide (w&&&128≠0) &&decide (x.x>>>n≠0)
def wG(hs:List (Int×Nat))(w:Nat)(x:fI):Bool:=decide (w&&&1≠0) && !(aJ hs x.a).isSome
def wF(hs:List (Int×Nat))(w:Nat)(x:fI):Bool:=decide (w&&&2≠0) && !(aJ hs x.b).isSome
def zy(hs:List (Int×Nat))(w:Nat)(x:fI):Bool:=decide (w&&&4≠0) && !(aJ hs x.c).isSome
def kF(n:Nat)(hs:List (Int×Nat))(w:Nat)(x:fI):Int:=
 if(GG w x||Oe w x)=true then 1 else if(Fy n w x||Fx n w x||M4 n w x)=true then 2 else if(wG hs w x||wF hs w x||zy hs w x)=true then 3 else 0
theorem ae.has{w m:Nat}{k:zV->Prop}(hw:w<256)(hm:m<256)(h:k (.bool (decide (w&&&m≠0)))):ae .num .and (.int .u8 (w:Int)) (.int .u8 (m:Int)) λv=>ae .num .neq v (.int .u8 0) k:=by
 refine ae.jF (by simpa[bF]using hw) (by simpa[bF]using hm) (ae.neq ?_);have:(((w&&&m:Nat):Int) !=0)=decide (w&&&m≠0):=by
  rw[xbS];simp
 rw[this];exact h
theorem look_ok(h:iq kp nx c K S ord ah tr hs es ck C){x:fI}{w:Nat}(hw:w<256)(hx:x.x<18446744073709551616):Rd zQ 83 #[ptr sp,x.v,.int .u8 (w:Int)] (gS sp c kp mb nx es ck C) (· =i64 (kF c.n hs w x)):=by
 refine aE λg=>OH λb1 _ J3 h3=>?_;have SM:∀b:Bool,(GG w x||Oe w x)=b->J3 [.bool b] ((b1,.cells (Value.cells x.v) 35 zZ)::gS sp c kp mb nx es ck C):=λb hb=>by
  refine h3 _ _ λ_=>?_;cases b;rotate_left
  ·exact Br.yes (bg.mk .tail (by unfold kF;rw[xae hb]))
  refine Br.no λJ7 h7=>?_;have SL:∀b:Bool,(Fy c.n w x||Fx c.n w x||M4 c.n w x)=b->J7 [.bool b] ((b1,.cells (Value.cells x.v) 35 zZ)::gS sp c kp mb nx es ck C):=λb' hb'=>by
   refine h7 _ _ λ_=>?_;cases b';rotate_left
   ·exact Br.yes (bg.mk .tail (by unfold kF;rw[hb,xac zD,xae hb']))
   refine Br.no λJ11 h11=>?_;have LI:∀b:Bool,(wG hs w x||wF hs w x||zy hs w x)=b->J11 [.bool b] ((b1,.cells (Value.cells x.v) 35 zZ)::gS sp c kp mb nx es ck C):=λb2 tF=>by
    refine h11 _ _ λ_=>?_;cases b2
    ·exact Br.no (bg.mk .tail (by unfold kF;rw[hb,hb',tF];rfl))
    exact Br.yes (bg.mk .tail (by unfold kF;rw[hb,hb',xac zD,xac zD,xae tF]))
   intro J15 h15;have k15:∀b:Bool,wG hs w x=b->J15 [.bool b] ((b1,.cells (Value.cells x.v) 35 zZ)::gS sp c kp mb nx es ck C):=λb2 tF=>by
    refine h15 _ _ λ_=>?_;cases b2;rotate_left
    ·exact Br.yes (JE.mk (LI true (by rw[tF];rfl)))
    refine Br.no λJ19 h19=>?_;have k19:∀b:Bool,wF hs w x=b->J19 [.bool b] ((b1,.cells (Value.cells x.v) 35 zZ)::gS sp c kp mb nx es ck C):=λb3 R8=>by
     refine h19 _ _ λ_=>?_;cases b3;rotate_left
     ·exact Br.yes (JE.mk (LI true (by rw[R8,xdJ];rfl)))
     refine Br.no (ae.has (m:=4) hw zD (Split.mk (λe=>?_) (λe=>?_)))
     ·refine Ld.f (v:=i64 x.c) (aa.eq (eJ h x.c) (Un.not (aL.mk (JE.mk (LI _ ?_)))));rw[tF,R8];unfold zy;rw[e];rfl
     refine aL.mk (JE.mk (LI false ?_));rw[tF,R8];unfold zy;rw[e];rfl
    refine ae.has (m:=2) hw zD (Split.mk (λe=>?_) (λe=>?_))
    ·refine Ld.f (v:=i64 x.b) (aa.eq (eJ h x.b) (Un.not (aL.mk (JE.mk (k19 _ ?_)))));unfold wF;rw[e];rfl
    refine aL.mk (JE.mk (k19 false ?_));unfold wF;rw[e];rfl
   refine ae.has (m:=1) hw zD (Split.mk (λe=>?_) (λe=>?_))
   ·refine Ld.f (v:=i64 x.a) (aa.eq (eJ h x.a) (Un.not (aL.mk (JE.mk (k15 _ ?_)))));unfold wG;rw[e];rfl
   refine aL.mk (JE.mk (k15 false ?_));unfold wG;rw[e];rfl
  intro J50 h50;have k50:∀b:Bool,Fy c.n w x=b->J50 [.bool b] ((b1,.cells (Value.cells x.v) 35 zZ)::gS sp c kp mb nx es ck C):=λb2 tF=>by
   refine h50 _ _ λ_=>?_;cases b2;rotate_left
   ·exact Br.yes (JE.mk (SL true (by rw[tF];rfl)))
   refine Br.no λJ54 h54=>?_;have k54:∀b:Bool,Fx c.n w x=b->J54 [.bool b] ((b1,.cells (Value.cells x.v) 35 zZ)::gS sp c kp mb nx es ck C):=λb3 R8=>by
    refine h54 _ _ λ_=>?_;cases b3;rotate_left
    ·exact Br.yes (JE.mk (SL true (by rw[R8,xdJ];rfl)))
    refine Br.no (ae.has (m:=128) hw zD (dc.and (decide (x.x>>>c.n≠0)) (λ_=>?_) rfl λgs=>?_))
    ·refine Ld.f (v:=u64 x.x) (Nil.ptr (ai.mk (Ld.f (v:=i64 c.n) (ae.iM (by simpa[bF]using hx) (ae.neq ⟨rfl,?_⟩)))));congr 1;generalize x.x>>>c.n=y;rw[xbS];simp
    refine JE.mk (SL _ ?_);rw[tF,R8];rfl
   refine ae.has (m:=16) hw zD (Split.mk (λe=>?_) (λe=>?_))
   ·refine Ld.f (v:=i64 x.b) (aa.eq (B1 x.b) (Un.not (aL.mk (JE.mk (k54 _ ?_)))));unfold Fx;rw[e];rfl
   refine aL.mk (JE.mk (k54 false ?_));unfold Fx;rw[e];rfl
  refine ae.has (m:=8) hw zD (Split.mk (λe=>?_) (λe=>?_))
  ·refine Ld.f (v:=i64 x.a) (aa.eq (B1 x.a) (Un.not (aL.mk (JE.mk (k50 _ ?_)))));unfold Fy;rw[e];rfl
  refine aL.mk (JE.mk (k50 false ?_));unfold Fy;rw[e];rfl
 intro J88 h88;have k88:∀b:Bool,GG w x=b->J88 [.bool b] ((b1,.cells (Value.cells x.v) 35 zZ)::gS sp c kp mb nx es ck C):=λb hb=>by
  refine h88 _ _ λ_=>?_;cases b;rotate_left
  ·exact Br.yes (JE.mk (SM true (by rw[hb];rfl)))
  refine Br.no (ae.has (m:=64) hw zD (Split.mk (λe=>?_) (λe=>?_)))
  ·refine Ld.f (v:=i64 x.c) (aF.of rfl zK (aa.eq (args:=#[i64 x.c]) (Li x.c _) (Un.not (aL.mk (JE.mk (SM _ ?_))))));rw[hb];unfold Oe;rw[e];rfl
  refine aL.mk (JE.mk (SM false ?_));rw[hb];unfold Oe;rw[e];rfl
 refine ae.has (m:=32) hw zD (Split.mk (λe=>?_) (λe=>?_))
 ·refine Ld.f (v:=i64 x.a) (aF.of rfl zK (aa.eq (args:=#[i64 x.a]) (Li x.a _) (Un.not (aL.mk (JE.mk (k88 _ ?_))))));unfold GG;rw[e];rfl
 refine aL.mk (JE.mk (k88 false ?_));unfold GG;rw[e];rfl
end
end
section
open aA
section
theorem Dr{n:Int}(hn:n<0\/64<n)(B:Hp):Rd zQ 68 #[iv n] B (· =.tuple #[.slice none 0 0,iv 1]):=by
 refine aE λg=>Aj (ae.lss (dc.or (a:=decide (n<0)) (decide (64<n)) (λ_=>ae.gtr ⟨rfl,rfl⟩) rfl λ_=>?_));rw[<-xa7,xan hn];exact Br.yes (bg.mk (.refl _) rfl)
theorem Ys{n cap:Int}(hb:n<1\/64<n\/cap<2\/1048576<cap):Rd zQ 40 #[i64 n,i64 cap] [] (· =.tuple #[.pointer none,i64 1]):=by
 refine aE λg=>Al ?_;by_cases hn:n<0\/64<n
 ·refine aa.eq (Dr hn _) (Ext.two (ae.cL (dc.or true (λh=>absurd h zD) rfl λgs=>?_)));refine dc.or true (λh=>absurd h zD) rfl λgs=>?_;refine dc.or true (λh=>absurd h zD) rfl λgs=>Br.yes ?_;exact bg.mk (.refl _) rfl
 obtain⟨m,rfl⟩:∃m:Nat,n=m:=⟨n.toNat,by omega⟩;refine aa.fq (tC (n:=m) zO) ?_;rintro v CO ⟨s,rfl,hO⟩;refine Ext.two (ae.cL (dc.or (decide ((m:Int)<1)) (λ_=>ae.lss ⟨rfl,rfl⟩) rfl λgs=>?_));refine dc.or (decide (cap<2)) (λ_=>ae.lss ⟨rfl,rfl⟩) rfl λgs=>?_;refine dc.or (decide (1048576<cap)) (λ_=>ae.gtr ⟨rfl,rfl⟩) rfl λgs=>?_;exact Br.Ub (by simp only[xbt,xaI];omega) (bg.mk (λ_ _ h=>h.bt) rfl)
structure xQ where
 n:Int
 cap:Int
 str:Nat
 gr:Int
 rs:Int
def xQ.cells(c:xQ):List zV:=[i64 c.n,i64 c.cap,.int .u8 (c.str:Int),i64 c.gr,i64 c.rs]
theorem xQ.one(c:xQ):∀u∈c.cells,u.oneCell'=true:=λu hu=>by
 simp only[xQ.cells,xak,xaQ,xbE]at hu;rcases hu with rfl|rfl|rfl|rfl|rfl<;>rfl
def gW(c:xQ):Bool:=decide (6<c.str)||decide (c.gr<100)||decide (1000<c.gr)||decide (c.rs<0)||decide (16<c.rs)
def iQ(c:xQ):Bool:=decide (c.n<1\/64<c.n\/c.cap<2\/1048576<c.cap)
def g9(c:xQ):Int:=if gW c=true then 1 else if iQ c=true then 1 else if c.str=6/\12<c.n then 6 else 0
structure Cf.Ok(c:Cf):Prop where
 n:1<=c.n/\c.n<=64
 cap:2<=c.cap/\c.cap<=1048576
 str:c.str<=6
 gr:100<=c.gr/\c.gr<=1000
 rs:c.rs<=16
 ex:c.str=6->c.n<=12
def Cf.i(c:Cf):xQ:=⟨c.n,c.cap,c.str,c.gr,c.rs⟩
theorem U7{c:xQ}(h:g9 c=0):∃d:Cf,c=d.i/\d.Ok:=by
 unfold g9 at h;split at h
 ·cases h
 rename_i h1;split at h
 ·cases h
 rename_i h2;split at h
 ·cases h
 rename_i h3;simp only[gW,iQ,xbt,xaI]at h1 h2;obtain⟨n,cap,str,gr,rs⟩:=c;simp only at h1 h2 h3;exact⟨⟨n.toNat,cap.toNat,str,gr.toNat,rs.toNat⟩,by simp only[Cf.i,xQ.mk.injEq];exact⟨by omega,by omega,trivial,by omega,by omega⟩,⟨by simp only;omega,by simp only;omega,by simp only;omega,by simp only;omega,by simp only;omega,λe=>by simp only at e⊢;omega⟩⟩
theorem Cg(c:xQ){Q:zV->Hp->Prop}(hno:g9 c≠0->Q (.tuple #[.pointer none,i64 (g9 c)]) [])
 (hok:∀d:Cf,c=d.i->d.Ok->∀(sp kp mb:Nat) (C:Hp),cc kp (K0 d.n d.cap) S0 (List.range d.n) (List.range d.n) [] C->Q (.tuple #[ptr sp,i64 0]) (gS sp d kp mb 0 #[] 0 C)):
  Fc zQ 14 #[.agg c.cells.toArray] [] Q:=by
 refine aE λg=>O8 λb1 _ J3 h3=>?_;have jt:gW c=true->J3 [.bool true] [(b1,.cells (Value.cells (.agg c.cells.toArray)) 23 zZ)]:=λhb=>by
  refine h3 _ _ λ_=>Br.yes ?_;have e:g9 c=1:=by unfold g9;rw[xae hb]
  rw[e]at hno;exact aM.mk .tail (hno zD)
 have jf:gW c=false->J3 [.bool false] [(b1,.cells (Value.cells (.agg c.cells.toArray)) 23 zZ)]:=λhb=>by
  refine h3 _ _ λ_=>Br.no ?_;refine Ld.f (v:=i64 c.n) (Ld.f (v:=i64 c.cap) ?_);cases tF:iQ c;rotate_left
  ·refine aa.eh hnew (Ys (by simpa[iQ]using tF)) (Ext.two (ae.cL (Br.T ?_)));have e:g9 c=1:=by unfold g9;rw[hb,xac zD,xae tF]
   rw[e]at hno;exact aM.mk .tail (hno zD)
  simp only[iQ,xbp]at tF;simp only[gW,xaD,xbp]at hb;obtain⟨m,hm⟩:∃m:Nat,c.n=m:=⟨c.n.toNat,by omega⟩;obtain⟨q,hq⟩:∃q:Nat,c.cap=q:=⟨c.cap.toNat,by omega⟩;rw[hm,hq];refine aa.fn hnew (Yr (n:=m) (cap:=q) zO zO) ?_;rintro w C ⟨kp,rfl,hK⟩;refine Ext.two (ae.cL (Br.F (Ld.u (v:=.int .u8 (c.str:Int)) (xab _ (.head _)) ?_)));refine ae.eR (b:=6) (dc.and (decide (12<c.n)) (λ_=>?_) rfl λgs=>?_)
  ·exact Ld.u (v:=i64 c.n) (xab _ (.head _)) (ae.gtr ⟨rfl,rfl⟩)
  rw[<-xcU];refine Br.dec (λh6=>?_) (λh6=>?_)
  ·have e:g9 c=6:=by
    unfold g9;rw[xac (by simp only[gW,xbt,xaI];omega),xac (by simp only[iQ,xaI];omega),xae h6]
   rw[e]at hno;exact aM.mk (λ_ _ h=>h.bt) (hno zD)
  have e:g9 c=0:=by
   unfold g9;rw[xac (by simp only[gW,xbt,xaI];omega),xac (by simp only[iQ,xaI];omega),xac h6]
  obtain⟨d,rfl,hd⟩:=U7 e;have em:m=d.n:=by simp only[Cf.i]at hm;omega
  have eq:q=d.cap:=by simp only[Cf.i]at hq;omega
  subst em eq;refine ay.whole (r:=d.i.cells) (xab _ (.head _)) rfl ?_;intro mb _;refine Build.mk (cs:=d.cells++[ptr kp,.map (some mb),i64 ((0:Nat):Int)]) zK λsp _=>?_;refine aM.mk ?_ (hok d rfl hd sp kp mb C hK);exact .cons (.cons .left)
 refine Ld.f (v:=.int .u8 (c.str:Int)) (ae.ny (b:=6) (Br.dec (λh=>by rw[xan h];exact JE.mk (jt (by simp[gW,h]))) (λh1=>?_)));refine Ld.f (v:=i64 c.gr) (ae.lss (Br.dec (λh=>by rw[xan h];exact JE.mk (jt (by simp[gW,h]))) (λh2=>?_)));refine Ld.f (v:=i64 c.gr) (ae.gtr (Br.dec (λh=>by rw[xan h];exact JE.mk (jt (by simp[gW,h]))) (λzl=>?_)));refine Ld.f (v:=i64 c.rs) (ae.lss (Br.dec (λh=>by rw[xan h];exact JE.mk (jt (by simp[gW,h]))) (λh4=>?_)));refine Ld.f (v:=i64 c.rs) (ae.gtr ?_);cases hb:decide (16<c.rs)
 ·exact JE.mk (jf (by simp only[gW,hb,xal h1,xal h2,xal zl,xal h4];rfl))
 exact JE.mk (jt (by simp only[gW,hb,xdJ]))
end
section
variable {sp kp mb nx:Nat} {c:Cf} {K:Kd} {S:Nat->aA.Fn} {ord ah tr:zL} {hs:List (Int×Nat)} {es:Array MapEntry} {ck:Nat} {C:Hp}
theorem QW{κ β:Type}[DecidableEq κ]{m:List (κ×β)}{k:κ}{x:β}(h:k∉m.map Prod.fst):dX m k x=m++[(k,x)]:=by
 unfold dX;rw[xac h]
theorem zk(hE:aD (kI .i64) (λv (r:Nat)=>v=u32 r) es ck hs)(hk:(nx:Int)∉hs.map Prod.fst)(BJ:nx+1<9223372036854775808)(r:Nat)(t:Int):
  Fc zQ 84 #[ptr sp,u32 r,i64 t] (gS sp c kp mb nx es ck C) (λv H=>v=eV 0 nx 0 t/\∃es' bB,H=gS sp c kp mb (nx+1) es' bB C/\aD (kI .i64) (λv (r:Nat)=>v=u32 r) es' bB (hs++[((nx:Int),r)])):=by
 refine aE λg=>OG λb1 _=>?_;refine Ld.n (v:=i64 (nx:Int)) (Ld.n (v:=i64 (nx:Int)) (ae.inc (Nil.ptr (ai.mk (St.one (c':=(c.cells++[ptr kp,.map (some mb),i64 ((nx+1:Nat):Int)]).toArray) (by exact .tail (.head _)) rfl (by simp[Cf.cells]) rfl ?_)))));refine Ld.n (v:=.map (some mb)) (hE.br (k:=(nx:Int)) (b:=mb) (x:=r) (bZ _) (AZ _) rfl λes' bB he=>⟨_,.tail (.tail (.head _)),?_⟩);rw[QW hk]at he;refine Build.mk (cs:=[i64 0,i64 (nx:Int),u64 0,i64 t]) zK (St.p (bI _ _ _ _) ?_);refine ay.q ?_;exact aM.mk .tail ⟨rfl,es',bB,rfl,he⟩
def eo(op:Nat):Option (Nat×Nat):=
 if op=11 then some (21,82)else if op=10 then some (129,81)else if op=9 then some (129,80)else if op=8 then some (81,79)else
 if op=7 then some (7,78)else if op=6 then some (3,77)else if op=5 then some (3,76)else if op=4 then some (3,75)else
 if op=3 then some (1,74)else if op=2 then some (32,73)else if op=1 then some (8,72)else none
def Lc(p:Nat×Nat):List zV:=[.int .u8 (p.1:Int),.func (.func p.2) #[] #[]]
theorem M9:Fc zQ 42 #[] [] (λv H=>∃b es ck m,v=.map (some b)/\H=[(b,.map es ck)]/\aD (kI .u8) (λv (p:Nat×Nat)=>v=.agg (Lc p).toArray) es ck m/\∀op:Nat,aJ m (op:Int)=eo op):=by
 refine aE λg=>O0 λb _=>?_;have br:∀{k:Int} {p:Nat×Nat} {es:Array MapEntry} {ck:Nat} {m:List (Int×(Nat×Nat))} {Q:Hp->Prop},aD (kI .u8) (λv (p:Nat×Nat)=>v=.agg (Lc p).toArray) es ck m->(∀es' bB,aD (kI .u8) (λv (p:Nat×Nat)=>v=.agg (Lc p).toArray) es' bB (dX m k p)->Q [(b,.map es' bB)])->
   Build zQ 95 [(0,.int .u8 (p.1:Int)),(1,.func (.func p.2) #[] #[])] λv=>aW (.int .u8) [(b,.map es ck)] (.map (some b)) (kI .u8 k) v Q:=λ{k p es ck m Q} he hq=>by
  exact Build.mk (cs:=Lc p) zK (aD.br (bZ _) (AZ _) he rfl λes' bB he'=>⟨_,.head _,hq es' bB he'⟩)
 refine br (k:=1) (p:=(8,72)) aD.empty λ_ _ h=>?_;refine br (k:=2) (p:=(32,73)) h λ_ _ h=>?_;refine br (k:=3) (p:=(1,74)) h λ_ _ h=>?_;refine br (k:=4) (p:=(3,75)) h λ_ _ h=>?_;refine br (k:=5) (p:=(3,76)) h λ_ _ h=>?_;refine br (k:=6) (p:=(3,77)) h λ_ _ h=>?_;refine br (k:=7) (p:=(7,78)) h λ_ _ h=>?_;refine br (k:=8) (p:=(81,79)) h λ_ _ h=>?_;refine br (k:=9) (p:=(129,80)) h λ_ _ h=>?_;refine br (k:=10) (p:=(129,81)) h λ_ _ h=>?_;refine br (k:=11) (p:=(21,82)) h λ_ _ h=>?_;refine aM.mk (.refl _) ⟨b,_,_,_,rfl,rfl,h,λop=>?_⟩;simp only[bK];have:∀j:Nat,((op:Int)=(j:Int))=(op=j):=λj=>propext zO;have e:=this 11;have e2:=this 10;have e3:=this 9;have e4:=this 8;have e5:=this 7;have e6:=this 6;have e7:=this 5;have e8:=this 4;have e9:=this 3;have e10:=this 2;have ZH:=this 1
 simp only[Int.cast_ofNat_Int]at*;simp only[e,e2,e3,e4,e5,e6,e7,e8,e9,e10,ZH];rfl
end
section
variable {sp kp mb nx:Nat} {c:Cf} {K K':Kd} {S S':Nat->aA.Fn} {ord ah bW tr cT o:zL} {hs:List (Int×Nat)} {es:Array MapEntry} {ck:Nat} {C C':Hp}
theorem Kept.const(hK:cc kp K S ord ah tr C)(dh:cc kp K' S' o bW cT C')(r:Nat)(hr:r<2):S' r=S r:=by
  have h1:=hK.ok.mid.int;have h2:=dh.ok.mid.int;have:r=0\/r=1:=by omega
  rcases this with rfl|rfl
  · exact funext λx=>by rw[h1.zero,h2.zero]
  · exact funext λx=>by rw[h1.one,h2.one]
theorem iq.kept(h:iq kp nx c K S ord ah tr hs es ck C)(dh:cc kp K' S' o bW cT C')(hk:Kept K S K' S'):iq kp nx c K' S' o bW cT hs es ck C'/\∀p∈hs,S' p.2=S p.2:=by
  have hh:∀p∈hs,2<=p.2->K.hold p.2≠0:=λp hp h2=>by
    rw[h.hold,xae h2];exact xdr (xbK.2 (xaR hp))
  refine⟨⟨dh,hk.n.trans h.n,hk.cap.trans h.cap,h.dD,λp hp=>?_,λr=>by rw[hk.hold,h.hold],h.lt⟩,λp hp=>?_⟩
  · by_cases h2:2<=p.2
    · exact .inr (dh.ok.mid.held p.2 (by rw[hk.hold];exact hh p hp h2))
    · exact .inl zO
  · by_cases h2:2<=p.2
    · exact hk.fn _ (hh p hp h2)
    · exact Kept.const h.ks dh _ zO
theorem iq.key(h:iq kp nx c K S ord ah tr hs es ck C):(nx:Int)∉hs.map Prod.fst:=λhm=>by
  obtain⟨p,hp,e⟩:=xam.1 hm;have:=h.lt p hp;omega
theorem iq.grow(h:iq kp nx c K S ord ah tr hs es ck C){f:aA.Fn}{r:Nat}{es':Array MapEntry}{bB:Nat}(dh:cc kp K' S' o bW cT C')(hg:kP K S K' S' f r)(he:aD (kI .i64) (λv (r:Nat)=>v=u32 r) es' bB (hs++[((nx:Int),r)])):
    iq kp (nx+1) c K' S' o bW cT (hs++[((nx:Int),r)]) es' bB C'/\∀p∈hs,S' p.2=S p.2:=by
  refine⟨⟨dh,hg.n.trans h.n,hg.cap.trans h.cap,he,λp hp=>?_,λs=>?_,λp hp=>?_⟩,λp hp=>hg.fn _ (h.live p hp)⟩
  · rcases xao.1 hp with hp|hp
    · exact ct hg.N (h.live p hp)
    · rw[xaG.1 hp];exact hg.live
  · rw[hg.hold,h.hold,xaE,xbf]
    by_cases e:s=r
    · subst e
      by_cases h2:2<=s
      · simp[h2]
      · simp[h2]
    · have:List.count s (List.map Prod.snd [((nx:Int),r)])=0:=by
        simp only[xay,xb6,xdI,xaG];exact e
      have e2:(if s=r/\2<=r then 1 else 0)=0:=xac λh=>e h.1;rw[this,e2];split<;>rfl
  · rcases xao.1 hp with hp|hp
    · have:=h.lt p hp;omega
    · rw[xaG.1 hp];simp only;omega
def nB(kp:Nat)(K:Kd)(S:Nat->aA.Fn)(ord ah tr:zL)(f:aA.Fn)(T:Nat->Prop)(w:zV)(H:Hp):Prop:=
  (∃r K' S',w=.tuple #[u32 r,i64 0]/\cc kp K' S' ord ah [] H/\kP K S K' S' f r/\T 0)\/
  (∃(e:Nat) (K':Kd) (S':Nat->aA.Fn) (cT:zL),w=.tuple #[u32 0,i64 e]/\(e=8\/e=9)/\cc kp K' S' ord ah cT H/\(cT=[]\/cT=tr)/\Kept K S K' S'/\T e)
theorem nB.two{f:aA.Fn}{T:Nat->Prop}{w:zV}{H:Hp}(h:nB kp K S ord ah tr f T w H):∃x y,w=.tuple #[x,y]:=by
  rcases h with⟨r,_,_,rfl,_⟩|⟨e,_,_,_,rfl,_⟩
  · exact⟨_,_,rfl⟩
  · exact⟨_,_,rfl⟩
inductive tU(T:zL->Nat->Prop)(R:zL->zL->Prop)(o:zL):Nat->zL->Prop
  |one:tU T R o 1 o
  |more {t:Nat} {p ls:zL}:tU T R o t p->T p 9->R p ls->tU T R o (t+1) (az p ls)
theorem tU.pos{T:zL->Nat->Prop}{R:zL->zL->Prop}{t:Nat}(h:tU T R ord t o):1<=t:=by
  cases h<;>omega
def L3(sp kp mb nx:Nat)(c:Cf)(S:Nat->aA.Fn)(sz:zL->Nat)(ord tr:zL)(hs:List (Int×Nat))(f:aA.Fn)(T:zL->Nat->Prop)(R:zL->zL->Prop)(v:zV)(H:Hp):Prop:=
  ∃(t:Nat) (o bW cT:zL) (K':Kd) (S':Nat->aA.Fn) (es':Array MapEntry) (bB:Nat) (C':Hp),t<=c.rs+1/\tU T R ord t o/\(∀p∈hs,S' p.2=S p.2)/\
    ((∃r,v=eV 0 nx 0 t/\H=gS sp c kp mb (nx+1) es' bB C'/\iq kp (nx+1) c K' S' o bW cT (hs++[((nx:Int),r)]) es' bB C'/\S' r=f/\T o 0/\cT=[])\/
     (∃e:Nat,(e=8\/e=9)/\v=eV e (-1) 0 t/\H=gS sp c kp mb nx es' bB C'/\iq kp nx c K' S' o bW cT hs es' bB C'/\T o e/\(e=9->t=c.rs+1)/\cT.length+66*sz o<=tr.length+66*sz ord))
theorem Ve{f w:Nat}{x:fI}{fn:aA.Fn}{T:zL->Nat->Prop}{R:zL->zL->Prop}(fN:aT zQ f=true)(h:iq kp nx c K S ord ah tr hs es ck C)(hc:c.Ok)(BJ:nx+1<9223372036854775808)(hw:w<256)(hx:x.x<18446744073709551616)(hl:kF c.n hs w x=0)
   (Lr:∀{K':Kd} {S':Nat->aA.Fn} {o bW cT:zL} {C':Hp},iq kp nx c K' S' o bW cT hs es ck C'->(∀p∈hs,S' p.2=S p.2)->Fc zQ f #[ptr sp,x.v] (gS sp c kp mb nx es ck C') (λv H=>∃C2,H=gS sp c kp mb nx es ck C2/\nB kp K' S' o bW cT fn (T o) v C2))
   (hrun:∀{K':Kd} {S':Nat->aA.Fn} {o bW cT:zL} {C':Hp},T o 9->iq kp nx c K' S' o bW cT hs es ck C'->(∀p∈hs,S' p.2=S p.2)->cT.length<=tr.length+66*cF K S ord->
      Fc zQ 85 #[ptr kp,.int .u8 (c.str:Int),i64 c.gr] C' (λv H=>∃ls a b,v=.tuple #[a,b]/\R o ls/\At kp K' S' (az o ls) (cT++ls) H/\ls.length+66*cF K' S' (az o ls)<=66*cF K' S' o)):
    Fc zQ 43 #[ptr sp,x.v,.agg (Lc (w,f)).toArray] (gS sp c kp mb nx es ck C) (L3 sp kp mb nx c S (cF K S) ord tr hs fn T R):=by
  refine aE λg=>Ak λb1 _ b3 _ b5 _=>?_;refine ay.q (r:=x.cells) (Ld.f (v:=.int .u8 (w:Int)) (aa.eq (look_ok h hw hx) ?_));rw[hl];refine ae.cL (Br.F ?_);refine⟨λvs H=>∃(t:Nat) (o bW cT:zL) (K':Kd) (S':Nat->aA.Fn) (C':Hp),vs=[i64 (t:Int)]/\t<=c.rs+1/\H=(b5,.cells #[i64 0,i64 0,u64 0,i64 0] 37 zZ)::(b3,.cells (Lc (w,f)).toArray 95 zZ)::(b1,.cells x.cells.toArray 35 zZ)::gS sp c kp mb nx es ck C'/\
      iq kp nx c K' S' o bW cT hs es ck C'/\Kept K S K' S'/\tU T R ord t o/\cT.length+66*cF K S o<=tr.length+66*cF K S ord,λvs _=>20-bJ vs 0,JE.mk ⟨1,ord,ah,tr,K,S,C,rfl,by omega,rfl,h,.refl _ _,.one,xaj _⟩,?_⟩
  rintro w0 H ⟨t,o,abf,W7,K1,S1,C1,⟨⟩,ht,rfl,h1,uo,hT,hb⟩ gs;have Du:=hc.rs;have hsame:=(h.kept h1.ks uo).2;refine Ld.f (v:=.func (.func f) #[] #[]) (ay.q (r:=x.cells) (aF.of rfl fN (aa.fq (args:=#[ptr sp,x.v]) (Lr h1 hsame) ?_)));rintro w H ⟨C2,rfl,hQ⟩;rcases hQ with⟨r,K2,S2,rfl,dm,hg,h0⟩|⟨e,K2,S2,BE,rfl,he,dm,ug,rG,Si⟩
  · refine Ext.two (ae.ik (Br.T (aa.fq (zk h1.dD h.key BJ r t) ?_)))
    rintro w H ⟨rfl,gR,iF,rfl,hE⟩;refine St.p (r:=[i64 0,i64 nx,u64 0,i64 t]) (bI _ _ _ _) ?_;refine ay.q ?_;obtain⟨h3,h4⟩:=h1.grow dm hg hE;exact aM.mk (.skip (.skip .tail)) ⟨t,o,abf,[],K2,S2,gR,iF,C2,ht,hT,λp hp=>(h4 p hp).trans (hsame p hp),.inl ⟨r,rfl,rfl,h3,hg.is,h0,rfl⟩⟩
  · obtain⟨h3,h4⟩:=h1.kept dm rG
    have tF:BE.length+66*cF K S o<=tr.length+66*cF K S ord:=by
      rcases ug with rfl|rfl
      · rw[xce];omega
      · exact hb
    have fin:(e=9->t=c.rs+1)->L3 sp kp mb nx c S (cF K S) ord tr hs fn T R (eV e (-1) 0 t) (gS sp c kp mb nx es ck C2):=λhet=>
      ⟨t,o,abf,BE,K2,S2,es,ck,C2,ht,hT,λp hp=>(h4 p hp).trans (hsame p hp),.inr ⟨e,he,rfl,rfl,h3,Si,het,tF⟩⟩
    refine Ext.two (ae.ik (Br.F (ae.cL (dc.or (decide (c.rs<t)) (λ_=>?_) rfl λgs=>?_))))
    · exact Nil.ptr (ai.mk (Ld.f (v:=i64 c.rs) (ae.ny ⟨rfl,rfl⟩)))
    rw[<-xa7];refine Br.dec (λLp=>?_) (λLp=>?_)
    · refine aa.eq (cz e _) λZS _=>?_
      refine St.p (r:=[i64 e,i64 (-1),u64 0,i64 0]) (bI _ _ _ _) ?_;refine ai.mk (St.one (c':=#[i64 e,i64 (-1),u64 0,i64 t]) (by exact .head _) rfl zI rfl ?_);refine ay.q (r:=[i64 e,i64 (-1),u64 0,i64 t]) (St.p (bI _ _ _ _) ?_);refine ay.q ?_;exact aM.mk (.skip (.skip (.skip .tail))) (fin λ_=>by omega)
    · have he9:e=9:=by omega
      subst he9;refine DR.of (R:=(b5,.cells #[i64 0,i64 0,u64 0,i64 0] 37 zZ)::(b3,.cells (Lc (w,f)).toArray 95 zZ)::(b1,.cells x.cells.toArray 35 zZ)::gS sp c kp mb nx es ck C2) (.refl _) (Ld.n (v:=ptr kp) (Nil.ptr (ai.mk (Ld.f (v:=.int .u8 (c.str:Int)) (Nil.ptr (ai.mk (Ld.f (v:=i64 c.gr) λF=>?_)))))));refine aa.fq (hrun Si h3 (λp hp=>(h4 p hp).trans (hsame p hp)) zO) ?_;rintro w2 H2 ⟨ls,a,b,rfl,hR,hA,hlen⟩;refine ae.inc ?_;obtain⟨K3,S3,aeT,kj,pK⟩:=hA;obtain⟨h5,h6⟩:=h3.kept kj pK;rw[rC (uo.trans rG),rC (uo.trans rG)]at hlen;refine aC.mk ⟨t+1,az o ls,aeT,BE++ls,K3,S3,H2,rfl,by omega,rfl,h5,(uo.trans rG).trans pK,.more hT Si hR,by rw[xaf];omega⟩ (by simp only[bJ];omega)
end
section
def HF(L:List aA.Fn)(g:aA.Fn):Prop:=g∈L/\∃v,cC g v
noncomputable def ye(L:List aA.Fn)(f:aA.Fn):Nat:=L.countP λg=> @decide (g=f) (Classical.propDecidable _)
def Ev(L:List aA.Fn)(f:aA.Fn):Prop:=(∃v,cC f v)/\65535<=ye L f
def ZT(n cap:Nat)(L:List aA.Fn)(f:aA.Fn)(ord:zL)(e:Nat):Prop:=
 (e=0/\Fits (aG n ord (λg=>HF L g\/g=f)) cap/\¬Ev L f)\/(e=9/\¬Fits (aG n ord (λg=>HF L g\/g=f)) cap)\/(e=8/\Ev L f)
def DX(n cap:Nat)(L:List aA.Fn)(q:Bool)(mask:Nat)(f:aA.Fn)(ord:zL)(e:Nat):Prop:=
 e=0\/(e=9/\∃i,i<n/\mask.testBit i=true/\¬Fits (aG n ord (λg=>(HF L g\/(bitsOf mask i≠[]/\g=ue q (bitsOf mask i) f))\/g=qf q i (ue q (bitsOf mask i) f))) cap)\/(e=8/\∃g,65534<=ye L g)
def SV(n cap:Nat)(L:List aA.Fn)(lo hi f:aA.Fn)(ord:zL)(e:Nat):Prop:=
 e=0\/(e=9/\(¬Fits (aG n ord (λg=>HF L g\/g=lo)) cap\/¬Fits (aG n ord (λg=>(HF L g\/g=lo)\/g=hi)) cap\/¬Fits (aG n ord (λg=>((HF L g\/g=lo)\/g=hi)\/g=f)) cap))\/(e=8/\∃g,65533<=ye L g)
def dM(n:Nat)(F:Int->aA.Fn)(x:fI):aA.Fn:=match x.op with
 |1=>λy=>y.testBit x.a.toNat
 |2=>λ_=>decide (x.a=1)
 |3=>λy=> !F x.a y
 |4=>λy=>F x.a y&&F x.b y
 |5=>λy=>F x.a y||F x.b y
 |6=>λy=>F x.a y^^F x.b y
 |7=>λy=>if F x.a y then F x.b y else F x.c y
 |8=>λy=>F x.a (ak.aB y x.b.toNat (decide (x.c=1)))
 |9=>ue true (bitsOf x.x n) (F x.a)
 |10=>ue false (bitsOf x.x n) (F x.a)
 |_=>λy=>if F x.c y then F x.a (ak.aB y x.b.toNat true)else F x.a (ak.aB y x.b.toNat false)
def qp(n cap:Nat)(L:List aA.Fn)(F:Int->aA.Fn)(x:fI)(ord:zL)(e:Nat):Prop:=
 if x.op=9 then DX n cap L true x.x (F x.a) ord e else if x.op=10 then DX n cap L false x.x (F x.a) ord e else
 if x.op=11 then SV n cap L (λy=>F x.a (ak.aB y x.b.toNat false)) (λy=>F x.a (ak.aB y x.b.toNat true)) (dM n F x) ord e else ZT n cap L (dM n F x) ord e
def fL(S:Nat->aA.Fn)(hs:List (Int×Nat)):List aA.Fn:=hs.map λp=>S p.2
def bU(S:Nat->aA.Fn)(hs:List (Int×Nat))(a:Int):aA.Fn:=match aJ hs a with|some r=>S r|none=>λ_=>false
variable {sp kp mb nx:Nat} {c:Cf} {K K':Kd} {S S':Nat->aA.Fn} {ord ah bW tr cT o:zL} {hs:List (Int×Nat)} {es:Array MapEntry} {ck:Nat} {C C':Hp}
theorem qO{n:Nat}{ord:zL}{f:aA.Fn}(hf:∀v,¬cC f v)(g:aA.Fn):¬aG n ord (λg=>g=f) g:=by
 rintro⟨l,hl,hg,hh⟩;rw[uI (l:=n) (λj _=>hf _) l zO g hg]at hh;exact hf _ hh
theorem kP.ac8{K':Kd}{S':Nat->aA.Fn}{f:aA.Fn}{x:Nat}{cT:zL}{C':Hp}(h:kP K S K' S' f x)(hK:cc kp K S ord ah tr C)(dh:cc kp K' S' ord ah cT C'):Fits (aG K.n ord (λg=>K.held S g\/g=f)) K.cap:=by
 have hc:=dh.ok.size dh.od;have hr:=dh.ok.mid.room;have h2:=dh.ok.mid.cap;rw[h.n]at hc;refine Fits.mono (λg hg=>?_) ⟨K'.used-2,hc,by rw[<-h.cap];omega⟩;have old:∀g,K.held S g->K'.held S' g:=λg ⟨s,hs,e⟩=>⟨s,by show K'.hold s≠0;have:K.hold s≠0:=hs;rw[h.hold];omega,by rw[h.fn s (.inr (hK.ok.mid.held s hs)),e]⟩;by_cases h2:2<=x
 ·refine cH (λg hg=>?_) hg;rcases hg with hg|rfl
  ·exact old g hg
  exact⟨x,by show K'.hold x≠0;rw[h.hold,xae ⟨rfl,h2⟩];omega,h.is.symm⟩
 rcases(CY g).1 hg with hg|hg
 ·exact cH old hg
 refine absurd hg (qO (λv=>?_) g);rintro⟨y,hy⟩;rw[<-h.is]at hy;have hi:=dh.ok.mid.int;obtain rfl|rfl:x=0\/x=1:=by omega
 ·exact hy (by rw[hi.zero,hi.zero])
 exact hy (by rw[hi.one,hi.one])
theorem Wt(h:∀p∈hs,S' p.2=S p.2):fL S' hs=fL S hs:=xbg h
theorem bA{a:Int}{r:Nat}(h:aJ hs a=some r):bU S hs a=S r:=by unfold bU;rw[h]
theorem iq.find(h:iq kp nx c K S ord ah tr hs es ck C){a:Int}{r:Nat}(hm:aJ hs a=some r):(a,r)∈hs:=(dS h.dD.nd).1 hm
theorem NL(fc:(hs.map Prod.fst).Nodup)(h:∀p∈hs,S' p.2=S p.2):bU S' hs=bU S hs:=funext λa=>by
 unfold bU;cases hm:aJ hs a with
 |none=>rfl
 |some r=>exact h _ ((dS fc).1 hm)
theorem iC(hK:cc kp K S ord ah tr C){r:Nat}(hl:live K.N r):2<=r↔∃v,cC (S r) v:=by
 constructor
 ·intro h2;obtain⟨d,hd⟩:∃d,K.N r=some d:=by
   rcases hl with hl|hl
   ·omega
   exact hl
  exact⟨d.v,gm hK.ok.wf hK.ok.lv hK.ok.mid.int hd⟩
 rintro⟨v,y,hy⟩;have hi:=hK.ok.mid.int;by_cases h2:2<=r
 ·exact h2
 exfalso;obtain rfl|rfl:r=0\/r=1:=by omega
 ·exact hy (by rw[hi.zero,hi.zero])
 exact hy (by rw[hi.one,hi.one])
theorem iq.same(h:iq kp nx c K S ord ah tr hs es ck C){a b:Nat}(ha:aA.live K.N a)(hb:aA.live K.N b):S a=S b↔a=b:=
 ⟨λe=>h.ks.ok.wf.same h.ks.ok.lv h.ks.ok.mid.int ha hb λx=>congrFun e x,λe=>by rw[e]⟩
theorem iq.held(h:iq kp nx c K S ord ah tr hs es ck C):K.held S=HF (fL S hs):=funext λg=>propext (by
 constructor
 ·rintro⟨s,hs0,rfl⟩;have h0:K.hold s≠0:=hs0;rw[h.hold]at h0;by_cases h2:2<=s
  ·rw[xae h2]at h0;obtain⟨p,hp,e⟩:=xam.1 (xbK.1 (xef h0));subst e;exact⟨xam.2 ⟨p,hp,rfl⟩,(iC h.ks (h.live p hp)).1 h2⟩
  rw[xac h2]at h0;exact absurd rfl h0
 rintro⟨hm,hv⟩;obtain⟨p,hp,rfl⟩:=xam.1 hm;have h2:=(iC h.ks (h.live p hp)).2 hv;refine⟨p.2,?_,rfl⟩;show K.hold p.2≠0;rw[h.hold,xae h2];exact xdr (xbK.2 (xaR hp)))
theorem iq.count(h:iq kp nx c K S ord ah tr hs es ck C){r:Nat}(hr:aA.live K.N r)(h2:2<=r):K.hold r=ye (fL S hs) (S r):=by
 rw[h.hold,xae h2];unfold ye fL;rw[xez,List.count,xez];refine List.countP_congr λp hp=>?_;have:=h.same (h.live p hp) hr;simp only[Function.comp_apply,xcO,xaI];exact this.symm
theorem iq.full(h:iq kp nx c K S ord ah tr hs es ck C){r:Nat}(hr:K.hold r=65535)(h2:2<=r):Ev (fL S hs) (S r):=by
 have hl:aA.live K.N r:=.inr (h.ks.ok.mid.held r zO);exact⟨(iC h.ks hl).1 h2,by rw[<-h.count hl h2,hr];exact xaj _⟩
theorem iq.big(h:iq kp nx c K S ord ah tr hs es ck C){r k:Nat}(hr:k<=K.hold r)(hk:0<k)(h2:2<=r):k<=ye (fL S hs) (S r):=by
 rw[<-h.count (.inr (h.ks.ok.mid.held r zO)) h2];exact hr
theorem iq.done(h:iq kp nx c K S ord ah tr hs es ck C){f:aA.Fn}{w:zV}(hD:j6 kp K S ord ah tr f w C'):nB kp K S ord ah tr f (ZT K.n K.cap (fL S hs) f ord) w C':=by
 rcases hD with(⟨x,K',S',rfl,dh,hg⟩|⟨rfl,⟨K',S',cT,dh,eM,hk⟩,hf⟩)|⟨rfl,⟨K',S',cT,dh,eM,hk⟩,r,h2,hr,rfl⟩
 ·refine .inl ⟨x,K',S',rfl,dh,hg,.inl ⟨rfl,by rw[<-h.held];exact hg.ac8 h.ks dh,?_⟩⟩;rintro⟨hv,hc⟩;have FX:2<=x:=(iC dh hg.live).2 (by rw[hg.is];exact hv);have hle:=dh.gg x;rw[hg.hold,xae ⟨rfl,FX⟩]at hle;obtain⟨p,hp,e⟩:∃p∈hs,S p.2=f:=by
   have:0<ye (fL S hs) f:=by omega
   obtain⟨g,hg1,TY⟩:=List.countP_pos_iff.1 this;obtain⟨p,hp,rfl⟩:=xam.1 hg1;exact⟨p,hp,by simpa using TY⟩
  have hpx:p.2=x:=dh.ok.wf.same dh.ok.lv dh.ok.mid.int (ct hg.N (h.live p hp)) hg.live λy=>by rw[hg.fn _ (h.live p hp),e,hg.is]
  subst hpx;have:=h.count (h.live p hp) FX;rw[e]at this;omega
 ·exact .inr ⟨9,K',S',cT,rfl,.inr rfl,dh,eM,hk,.inr (.inl ⟨rfl,by rw[<-h.held];exact hf⟩)⟩
 exact .inr ⟨8,K',S',cT,rfl,.inl rfl,dh,eM,hk,.inr (.inr ⟨rfl,h.full hr h2⟩)⟩
theorem iq.each(h:iq kp nx c K S ord ah tr hs es ck C){q:Bool}{mask r:Nat}{w:zV}(hD:mj kp K S ord ah tr q mask r w C'):nB kp K S ord ah tr (ue q (bitsOf mask K.n) (S r)) (DX K.n K.cap (fL S hs) q mask (S r) ord) w C':=by
 rcases hD with(⟨x,K',S',rfl,dh,hg⟩|⟨rfl,⟨K',S',cT,dh,eM,hk⟩,i,hi,hb,hf⟩)|⟨rfl,⟨K',S',cT,dh,eM,hk⟩,hF⟩
 ·exact .inl ⟨x,K',S',rfl,dh,hg,.inl rfl⟩
 ·exact .inr ⟨9,K',S',cT,rfl,.inr rfl,dh,eM,hk,.inr (.inl ⟨rfl,i,hi,hb,by rw[<-h.held];exact hf⟩)⟩
 refine .inr ⟨8,K',S',cT,rfl,.inl rfl,dh,eM,hk,.inr (.inr ⟨rfl,?_⟩)⟩;rcases hF with⟨_,h2,hr⟩|⟨i,x,_,_,h2,_,_,hx,_⟩
 ·exact⟨_,h.big (k:=65534) zO zO h2⟩
 exact⟨_,h.big hx zO h2⟩
theorem iq.comp(h:iq kp nx c K S ord ah tr hs es ck C){lo hi f:aA.Fn}{w:zV}(hD:Ew kp K S ord ah tr lo hi f w C'):nB kp K S ord ah tr f (SV K.n K.cap (fL S hs) lo hi f ord) w C':=by
 rcases hD with(⟨x,K',S',rfl,dh,hg⟩|⟨rfl,⟨K',S',cT,dh,eM,hk⟩,hf⟩)|⟨rfl,⟨K',S',cT,dh,eM,hk⟩,x,h2,_,hF⟩
 ·exact .inl ⟨x,K',S',rfl,dh,hg,.inl rfl⟩
 ·exact .inr ⟨9,K',S',cT,rfl,.inr rfl,dh,eM,hk,.inr (.inl ⟨rfl,by rw[<-h.held];exact hf⟩)⟩
 refine .inr ⟨8,K',S',cT,rfl,.inl rfl,dh,eM,hk,.inr (.inr ⟨rfl,_,h.big (k:=65533) ?_ zO h2⟩)⟩;have one:∀{p:Prop} {a:Nat},One p a->a<=1:=λho=>by rcases ho with⟨h,_⟩|⟨h,_⟩<;>omega
 rcases hF with⟨_,h⟩|⟨a,ha,_,h⟩|⟨a,b,ha,hb,_,h⟩
 ·omega
 ·have:=one ha;omega
 have:=one ha;have:=one hb;omega
end
section
variable {sp kp mb nx:Nat} {c:Cf} {K:Kd} {S:Nat->aA.Fn} {ord ah tr:zL} {hs:List (Int×Nat)} {es:Array MapEntry} {ck:Nat} {C:Hp} {x:fI}
theorem Oq(hK:cc kp K S ord ah tr C){a b:Nat}(ha:live K.N a)(hb:live K.N b):Fc zQ 123 #[ptr kp,u32 a,u32 b] C (j6 kp K S ord ah tr (λy=>S a y&&S b y)):=by
 refine aE λg=>Kk (aa.fq (jG hK (op:=8) zD ha hb) ?_);intro w H hD;rw[show(λy=>Xe 8 (S a y) (S b y))=λy=>S a y&&S b y from funext λy=>by cases S a y<;>cases S b y<;>rfl]at hD;obtain⟨x,e,rfl⟩:=hD.two;exact Ext.two (aM.here hD)
theorem Tp(hK:cc kp K S ord ah tr C){a b:Nat}(ha:live K.N a)(hb:live K.N b):Fc zQ 124 #[ptr kp,u32 a,u32 b] C (j6 kp K S ord ah tr (λy=>S a y||S b y)):=by
 refine aE λg=>Kj (aa.fq (jG hK (op:=14) zD ha hb) ?_);intro w H hD;rw[show(λy=>Xe 14 (S a y) (S b y))=λy=>S a y||S b y from funext λy=>by cases S a y<;>cases S b y<;>rfl]at hD;obtain⟨x,e,rfl⟩:=hD.two;exact Ext.two (aM.here hD)
theorem Og(hK:cc kp K S ord ah tr C){a b:Nat}(ha:live K.N a)(hb:live K.N b):Fc zQ 125 #[ptr kp,u32 a,u32 b] C (j6 kp K S ord ah tr (λy=>S a y^^S b y)):=by
 refine aE λg=>Kh (aa.fq (jG hK (op:=6) zD ha hb) ?_);intro w H hD;rw[show(λy=>Xe 6 (S a y) (S b y))=λy=>S a y^^S b y from funext λy=>by cases S a y<;>cases S b y<;>rfl]at hD;obtain⟨x,e,rfl⟩:=hD.two;exact Ext.two (aM.here hD)
theorem Eo(hK:cc kp K S ord ah tr C)(b:Bool):Fc zQ 121 #[ptr kp,.bool b] C (j6 kp K S ord ah tr (λ_=>b)):=by
 have hi:=hK.ok.mid.int;refine aE λg=>Km (ae.aH (Br.no ?_));intro J2 h2;have go:∀r:Nat,r<2->(S r=λ_=>b)->J2 [u32 r] C:=λr hr hf=>by
  refine h2 _ _ λ_=>?_;refine aa.fq (mQ hK (r:=r) (.inl hr) (λh=>by omega)) ?_;rintro v H ⟨rfl,K',dh,hm⟩;exact aM.here (.inl (.inl ⟨r,K',S,rfl,dh,⟨hm.n,hm.cap,λs d h=>by rw[hm.N];exact h,λ_ _=>rfl,.inl hr,hf,λs=>by rw[hm.hold];split<;>rfl⟩⟩))
 cases b
 ·exact Br.no (JE.mk (go 0 zD (funext hi.zero)))
 exact Br.yes (JE.mk (go 1 zD (funext hi.one)))
theorem dr{n w:Nat}(h:kF n hs w x=0):(GG w x=false/\Oe w x=false)/\(Fy n w x=false/\Fx n w x=false/\M4 n w x=false)/\(wG hs w x=false/\wF hs w x=false/\zy hs w x=false):=by
 unfold kF at h;split at h
 ·cases h
 split at h
 ·cases h
 split at h
 ·cases h
 rename_i h1 h2 h3;simp only[xem,xaD]at h1 h2 h3;exact⟨h1,⟨h2.1.1,h2.1.2,h2.2⟩,⟨h3.1.1,h3.1.2,h3.2⟩⟩
theorem ej{m:List (Int×Nat)}{a:Int}{p:Bool}(h:(p&& !(aJ m a).isSome)=false)(hp:p=true):∃r,aJ m a=some r:=by
 subst hp;cases hm:aJ m a with
 |none=>rw[hm]at h;cases h
 |some r=>exact⟨r,rfl⟩
theorem ES{n:Nat}{a:Int}{p:Bool}(h:(p&& !decide (0<=a/\a<n))=false)(hp:p=true):∃v:Nat,a=v/\v<n:=by
 subst hp;have:0<=a/\a<n:=by simpa using h
 exact⟨a.toNat,by omega,by omega⟩
theorem kE{n cap:Nat}{L:List aA.Fn}{F:Int->aA.Fn}(h:x.op<9):qp n cap L F x ord=ZT n cap L (dM n F x) ord:=funext λe=>by
 unfold qp;rw[xac zO,xac zO,xac zO]
theorem aa8{n cap:Nat}{L:List aA.Fn}{F:Int->aA.Fn}(h:x.op=9):qp n cap L F x ord=DX n cap L true x.x (F x.a) ord:=funext λe=>by
 unfold qp;rw[xae h]
theorem Yp{n cap:Nat}{L:List aA.Fn}{F:Int->aA.Fn}(h:x.op=10):qp n cap L F x ord=DX n cap L false x.x (F x.a) ord:=funext λe=>by
 unfold qp;rw[xac zO,xae h]
theorem Yo{n cap:Nat}{L:List aA.Fn}{F:Int->aA.Fn}(h:x.op=11):qp n cap L F x ord=SV n cap L (λy=>F x.a (ak.aB y x.b.toNat false)) (λy=>F x.a (ak.aB y x.b.toNat true)) (dM n F x) ord:=funext λe=>by
 unfold qp;rw[xac zO,xac zO,xae h]
def jm(f:Nat)(op w:Nat):Prop:=∀{sp kp mb nx:Nat} {c:Cf} {K:Kd} {S:Nat->aA.Fn} {ord ah tr:zL} {hs:List (Int×Nat)} {es:Array MapEntry} {ck:Nat} {C:Hp} {x:fI},iq kp nx c K S ord ah tr hs es ck C->x.op=op->x.x<18446744073709551616->kF c.n hs w x=0->
 Fc zQ f #[ptr sp,x.v] (gS sp c kp mb nx es ck C) (λv H=>∃C2,H=gS sp c kp mb nx es ck C2/\nB kp K S ord ah tr (dM c.n (bU S hs) x) (qp c.n c.cap (fL S hs) (bU S hs) x ord) v C2)
theorem qU:jm 72 1 8:=by
 intro sp kp mb nx c K S ord ah tr hs es ck C x h hop TR hl;obtain⟨⟨T1,T0⟩,⟨Rx,Ph,Pg⟩,A6,Lq,Po⟩:=dr hl;obtain⟨v,hv,Pf⟩:=ES Rx zD;refine aE λg=>OS λb1 _=>?_;refine DR.of (R:=[(b1,.cells (Value.cells x.v) 35 zZ),jR sp c kp mb nx,(mb,.map es ck)]) (.cons (.cons (.cons λ_ _ h=>h.bt))) (Ld.n (v:=ptr kp) (Ld.f (v:=i64 x.a) ?_));rw[hv];intro F;refine aa.fq (Oh h.ks (v:=v) (by rw[h.n];exact Pf)) ?_;rintro w H hD;have hQ:nB kp K S ord ah tr (dM c.n (bU S hs) x) (qp c.n c.cap (fL S hs) (bU S hs) x ord) w H:=by
  have hq:=h.done hD;rw[h.n,h.cap]at hq;rw[kE zO];have e:dM c.n (bU S hs) x=λy=>y.testBit x.a.toNat:=by simp only[dM,hop]
  rw[e];simp only[hv,xbe];exact hq
 obtain⟨y,e,rfl⟩:=hQ.two;refine⟨.cons (.cons (.cons λ_ _ h=>h.bt)),?_⟩;exact Ext.two (aM.mk .tail ⟨_,rfl,hQ⟩)
theorem AH:jm 73 2 32:=by
 intro sp kp mb nx c K S ord ah tr hs es ck C x h hop TR hl;obtain⟨⟨T1,T0⟩,⟨Rx,Ph,Pg⟩,A6,Lq,Po⟩:=dr hl;refine aE λg=>OR λb1 _=>?_;refine DR.of (R:=[(b1,.cells (Value.cells x.v) 35 zZ),jR sp c kp mb nx,(mb,.map es ck)]) (.cons (.cons (.cons λ_ _ h=>h.bt))) (Ld.n (v:=ptr kp) (Ld.f (v:=i64 x.a) (ae.ik λF=>(aa.fq (Eo h.ks (decide (x.a=1))) ?_))));rintro w H hD;have hQ:nB kp K S ord ah tr (dM c.n (bU S hs) x) (qp c.n c.cap (fL S hs) (bU S hs) x ord) w H:=by
  have hq:=h.done hD;rw[h.n,h.cap]at hq;rw[kE zO];have e:dM c.n (bU S hs) x=λ_=>decide (x.a=1):=by simp only[dM,hop]
  rw[e];exact hq
 obtain⟨y,e,rfl⟩:=hQ.two;refine⟨.cons (.cons (.cons λ_ _ h=>h.bt)),?_⟩;exact Ext.two (aM.mk .tail ⟨_,rfl,hQ⟩)
theorem UB:jm 74 3 1:=by
 intro sp kp mb nx c K S ord ah tr hs es ck C x h hop TR hl;obtain⟨⟨T1,T0⟩,⟨Rx,Ph,Pg⟩,A6,Lq,Po⟩:=dr hl;obtain⟨ra,ha⟩:=ej A6 zD;have la:=h.live _ (h.find ha);refine aE λg=>OQ λb1 _=>?_;refine DR.of (R:=[(b1,.cells (Value.cells x.v) 35 zZ),jR sp c kp mb nx,(mb,.map es ck)]) (.cons (.cons (.cons λ_ _ h=>h.bt))) (Ld.n (v:=ptr kp) (Ld.n (v:=.map (some mb)) (Ld.f (v:=i64 x.a) (h.dD.hit (k:=x.a) (bZ _) (b:=mb) (by exact .tail _ (.tail _ (.head _))) ha λv e=>?_))));subst e;intro F;refine aa.fq (Om h.ks la) ?_;rintro w H hD;have hQ:nB kp K S ord ah tr (dM c.n (bU S hs) x) (qp c.n c.cap (fL S hs) (bU S hs) x ord) w H:=by
  have hq:=h.done hD;rw[h.n,h.cap]at hq;rw[kE zO];have e:dM c.n (bU S hs) x=λy=> !bU S hs x.a y:=by simp only[dM,hop]
  rw[e];simp only[bA ha];exact hq
 obtain⟨y,e,rfl⟩:=hQ.two;refine⟨.cons (.cons (.cons λ_ _ h=>h.bt)),?_⟩;exact Ext.two (aM.mk .tail ⟨_,rfl,hQ⟩)
theorem KQ:jm 75 4 3:=by
 intro sp kp mb nx c K S ord ah tr hs es ck C x h hop TR hl;obtain⟨⟨T1,T0⟩,⟨Rx,Ph,Pg⟩,A6,Lq,Po⟩:=dr hl;obtain⟨ra,ha⟩:=ej A6 zD;have la:=h.live _ (h.find ha);obtain⟨rb,hb⟩:=ej Lq zD;have lb:=h.live _ (h.find hb);refine aE λg=>OP λb1 _=>?_;refine DR.of (R:=[(b1,.cells (Value.cells x.v) 35 zZ),jR sp c kp mb nx,(mb,.map es ck)]) (.cons (.cons (.cons λ_ _ h=>h.bt))) (Ld.n (v:=ptr kp) (Ld.n (v:=.map (some mb)) (Ld.f (v:=i64 x.a) (h.dD.hit (k:=x.a) (bZ _) (b:=mb) (by exact .tail _ (.tail _ (.head _))) ha λv e=>?_))));subst e;refine Ld.n (v:=.map (some mb)) (Ld.f (v:=i64 x.b) (h.dD.hit (k:=x.b) (bZ _) (b:=mb) (by exact .tail _ (.tail _ (.head _))) hb λv e=>?_));subst e;intro F;refine aa.fq (Oq h.ks la lb) ?_;rintro w H hD;have hQ:nB kp K S ord ah tr (dM c.n (bU S hs) x) (qp c.n c.cap (fL S hs) (bU S hs) x ord) w H:=by
  have hq:=h.done hD;rw[h.n,h.cap]at hq;rw[kE zO];have e:dM c.n (bU S hs) x=λy=>bU S hs x.a y&&bU S hs x.b y:=by simp only[dM,hop]
  rw[e];simp only[bA ha,bA hb];exact hq
 obtain⟨y,e,rfl⟩:=hQ.two;refine⟨.cons (.cons (.cons λ_ _ h=>h.bt)),?_⟩;exact Ext.two (aM.mk .tail ⟨_,rfl,hQ⟩)
theorem Yb:jm 76 5 3:=by
 intro sp kp mb nx c K S ord ah tr hs es ck C x h hop TR hl;obtain⟨⟨T1,T0⟩,⟨Rx,Ph,Pg⟩,A6,Lq,Po⟩:=dr hl;obtain⟨ra,ha⟩:=ej A6 zD;have la:=h.live _ (h.find ha);obtain⟨rb,hb⟩:=ej Lq zD;have lb:=h.live _ (h.find hb);refine aE λg=>OO λb1 _=>?_;refine DR.of (R:=[(b1,.cells (Value.cells x.v) 35 zZ),jR sp c kp mb nx,(mb,.map es ck)]) (.cons (.cons (.cons λ_ _ h=>h.bt))) (Ld.n (v:=ptr kp) (Ld.n (v:=.map (some mb)) (Ld.f (v:=i64 x.a) (h.dD.hit (k:=x.a) (bZ _) (b:=mb) (by exact .tail _ (.tail _ (.head _))) ha λv e=>?_))));subst e;refine Ld.n (v:=.map (some mb)) (Ld.f (v:=i64 x.b) (h.dD.hit (k:=x.b) (bZ _) (b:=mb) (by exact .tail _ (.tail _ (.head _))) hb λv e=>?_));subst e;intro F;refine aa.fq (Tp h.ks la lb) ?_;rintro w H hD;have hQ:nB kp K S ord ah tr (dM c.n (bU S hs) x) (qp c.n c.cap (fL S hs) (bU S hs) x ord) w H:=by
  have hq:=h.done hD;rw[h.n,h.cap]at hq;rw[kE zO];have e:dM c.n (bU S hs) x=λy=>bU S hs x.a y||bU S hs x.b y:=by simp only[dM,hop]
  rw[e];simp only[bA ha,bA hb];exact hq
 obtain⟨y,e,rfl⟩:=hQ.two;refine⟨.cons (.cons (.cons λ_ _ h=>h.bt)),?_⟩;exact Ext.two (aM.mk .tail ⟨_,rfl,hQ⟩)
theorem Uq:jm 77 6 3:=by
 intro sp kp mb nx c K S ord ah tr hs es ck C x h hop TR hl;obtain⟨⟨T1,T0⟩,⟨Rx,Ph,Pg⟩,A6,Lq,Po⟩:=dr hl;obtain⟨ra,ha⟩:=ej A6 zD;have la:=h.live _ (h.find ha);obtain⟨rb,hb⟩:=ej Lq zD;have lb:=h.live _ (h.find hb);refine aE λg=>ON λb1 _=>?_;refine DR.of (R:=[(b1,.cells (Value.cells x.v) 35 zZ),jR sp c kp mb nx,(mb,.map es ck)]) (.cons (.cons (.cons λ_ _ h=>h.bt))) (Ld.n (v:=ptr kp) (Ld.n (v:=.map (some mb)) (Ld.f (v:=i64 x.a) (h.dD.hit (k:=x.a) (bZ _) (b:=mb) (by exact .tail _ (.tail _ (.head _))) ha λv e=>?_))));subst e;refine Ld.n (v:=.map (some mb)) (Ld.f (v:=i64 x.b) (h.dD.hit (k:=x.b) (bZ _) (b:=mb) (by exact .tail _ (.tail _ (.head _))) hb λv e=>?_));subst e;intro F;refine aa.fq (Og h.ks la lb) ?_;rintro w H hD;have hQ:nB kp K S ord ah tr (dM c.n (bU S hs) x) (qp c.n c.cap (fL S hs) (bU S hs) x ord) w H:=by
  have hq:=h.done hD;rw[h.n,h.cap]at hq;rw[kE zO];have e:dM c.n (bU S hs) x=λy=>bU S hs x.a y^^bU S hs x.b y:=by simp only[dM,hop]
  rw[e];simp only[bA ha,bA hb];exact hq
 obtain⟨y,e,rfl⟩:=hQ.two;refine⟨.cons (.cons (.cons λ_ _ h=>h.bt)),?_⟩;exact Ext.two (aM.mk .tail ⟨_,rfl,hQ⟩)
theorem UD:jm 78 7 7:=by
 intro sp kp mb nx c K S ord ah tr hs es ck C x h hop TR hl;obtain⟨⟨T1,T0⟩,⟨Rx,Ph,Pg⟩,A6,Lq,Po⟩:=dr hl;obtain⟨ra,ha⟩:=ej A6 zD;have la:=h.live _ (h.find ha);obtain⟨rb,hb⟩:=ej Lq zD;have lb:=h.live _ (h.find hb);obtain⟨rc,hc⟩:=ej Po zD;have lc:=h.live _ (h.find hc);refine aE λg=>OM λb1 _=>?_;refine DR.of (R:=[(b1,.cells (Value.cells x.v) 35 zZ),jR sp c kp mb nx,(mb,.map es ck)]) (.cons (.cons (.cons λ_ _ h=>h.bt))) (Ld.n (v:=ptr kp) (Ld.n (v:=.map (some mb)) (Ld.f (v:=i64 x.a) (h.dD.hit (k:=x.a) (bZ _) (b:=mb) (by exact .tail _ (.tail _ (.head _))) ha λv e=>?_))));subst e;refine Ld.n (v:=.map (some mb)) (Ld.f (v:=i64 x.b) (h.dD.hit (k:=x.b) (bZ _) (b:=mb) (by exact .tail _ (.tail _ (.head _))) hb λv e=>?_));subst e;refine Ld.n (v:=.map (some mb)) (Ld.f (v:=i64 x.c) (h.dD.hit (k:=x.c) (bZ _) (b:=mb) (by exact .tail _ (.tail _ (.head _))) hc λv e=>?_));subst e;intro F;refine aa.fq (z9 h.ks la lb lc) ?_;rintro w H hD;have hQ:nB kp K S ord ah tr (dM c.n (bU S hs) x) (qp c.n c.cap (fL S hs) (bU S hs) x ord) w H:=by
  have hq:=h.done hD;rw[h.n,h.cap]at hq;rw[kE zO];have e:dM c.n (bU S hs) x=λy=>if bU S hs x.a y then bU S hs x.b y else bU S hs x.c y:=by simp only[dM,hop]
  rw[e];simp only[bA ha,bA hb,bA hc];exact hq
 obtain⟨y,e,rfl⟩:=hQ.two;refine⟨.cons (.cons (.cons λ_ _ h=>h.bt)),?_⟩;exact Ext.two (aM.mk .tail ⟨_,rfl,hQ⟩)
theorem Az:jm 79 8 81:=by
 intro sp kp mb nx c K S ord ah tr hs es ck C x h hop TR hl;obtain⟨⟨T1,T0⟩,⟨Rx,Ph,Pg⟩,A6,Lq,Po⟩:=dr hl;obtain⟨ra,ha⟩:=ej A6 zD;have la:=h.live _ (h.find ha);obtain⟨v,hv,Pf⟩:=ES Ph zD;refine aE λg=>OL λb1 _=>?_;refine DR.of (R:=[(b1,.cells (Value.cells x.v) 35 zZ),jR sp c kp mb nx,(mb,.map es ck)]) (.cons (.cons (.cons λ_ _ h=>h.bt))) (Ld.n (v:=ptr kp) (Ld.n (v:=.map (some mb)) (Ld.f (v:=i64 x.a) (h.dD.hit (k:=x.a) (bZ _) (b:=mb) (by exact .tail _ (.tail _ (.head _))) ha λv e=>?_))));subst e;refine Ld.f (v:=i64 x.b) (Ld.f (v:=i64 x.c) (ae.ik ?_));rw[hv];intro F;refine aa.fq (vy h.ks la (v:=v) (by rw[h.n];exact Pf)) ?_;rintro w H hD;have hQ:nB kp K S ord ah tr (dM c.n (bU S hs) x) (qp c.n c.cap (fL S hs) (bU S hs) x ord) w H:=by
  have hq:=h.done hD;rw[h.n,h.cap]at hq;rw[kE zO];have e:dM c.n (bU S hs) x=λy=>bU S hs x.a (ak.aB y x.b.toNat (decide (x.c=1))):=by simp only[dM,hop]
  rw[e];simp only[bA ha,hv,xbe];exact hq
 obtain⟨y,e,rfl⟩:=hQ.two;refine⟨.cons (.cons (.cons λ_ _ h=>h.bt)),?_⟩;exact Ext.two (aM.mk .tail ⟨_,rfl,hQ⟩)
theorem Ff:jm 80 9 129:=by
 intro sp kp mb nx c K S ord ah tr hs es ck C x h hop TR hl;obtain⟨⟨T1,T0⟩,⟨Rx,Ph,Pg⟩,A6,Lq,Po⟩:=dr hl;obtain⟨ra,ha⟩:=ej A6 zD;have la:=h.live _ (h.find ha);have hm:x.x<2^K.n:=by
  rw[h.n];have:x.x>>>c.n=0:=by simpa[M4]using Pg
  rw[xa0]at this;exact(Nat.div_eq_zero_iff.1 this).resolve_left (xdr (xbx _))
 refine aE λg=>OK λb1 _=>?_;refine DR.of (R:=[(b1,.cells (Value.cells x.v) 35 zZ),jR sp c kp mb nx,(mb,.map es ck)]) (.cons (.cons (.cons λ_ _ h=>h.bt))) (Ld.n (v:=ptr kp) (Ld.n (v:=.map (some mb)) (Ld.f (v:=i64 x.a) (h.dD.hit (k:=x.a) (bZ _) (b:=mb) (by exact .tail _ (.tail _ (.head _))) ha λv e=>?_))));subst e;refine Ld.f (v:=u64 x.x) λF=>?_;refine aa.fq (DV h.ks la hm) ?_;rintro w H hD;have hQ:nB kp K S ord ah tr (dM c.n (bU S hs) x) (qp c.n c.cap (fL S hs) (bU S hs) x ord) w H:=by
  have hq:=h.each hD;rw[h.n,h.cap]at hq;rw[aa8 hop];have e:dM c.n (bU S hs) x=ue true (bitsOf x.x c.n) (bU S hs x.a):=by simp only[dM,hop]
  rw[e,bA ha];exact hq
 obtain⟨y,e,rfl⟩:=hQ.two;refine⟨.cons (.cons (.cons λ_ _ h=>h.bt)),?_⟩;exact Ext.two (aM.mk .tail ⟨_,rfl,hQ⟩)
theorem Fe:jm 81 10 129:=by
 intro sp kp mb nx c K S ord ah tr hs es ck C x h hop TR hl;obtain⟨⟨T1,T0⟩,⟨Rx,Ph,Pg⟩,A6,Lq,Po⟩:=dr hl;obtain⟨ra,ha⟩:=ej A6 zD;have la:=h.live _ (h.find ha);have hm:x.x<2^K.n:=by
  rw[h.n];have:x.x>>>c.n=0:=by simpa[M4]using Pg
  rw[xa0]at this;exact(Nat.div_eq_zero_iff.1 this).resolve_left (xdr (xbx _))
 refine aE λg=>OJ λb1 _=>?_;refine DR.of (R:=[(b1,.cells (Value.cells x.v) 35 zZ),jR sp c kp mb nx,(mb,.map es ck)]) (.cons (.cons (.cons λ_ _ h=>h.bt))) (Ld.n (v:=ptr kp) (Ld.n (v:=.map (some mb)) (Ld.f (v:=i64 x.a) (h.dD.hit (k:=x.a) (bZ _) (b:=mb) (by exact .tail _ (.tail _ (.head _))) ha λv e=>?_))));subst e;refine Ld.f (v:=u64 x.x) λF=>?_;refine aa.fq (DO h.ks la hm) ?_;rintro w H hD;have hQ:nB kp K S ord ah tr (dM c.n (bU S hs) x) (qp c.n c.cap (fL S hs) (bU S hs) x ord) w H:=by
  have hq:=h.each hD;rw[h.n,h.cap]at hq;rw[Yp hop];have e:dM c.n (bU S hs) x=ue false (bitsOf x.x c.n) (bU S hs x.a):=by simp only[dM,hop]
  rw[e,bA ha];exact hq
 obtain⟨y,e,rfl⟩:=hQ.two;refine⟨.cons (.cons (.cons λ_ _ h=>h.bt)),?_⟩;exact Ext.two (aM.mk .tail ⟨_,rfl,hQ⟩)
theorem Cq:jm 82 11 21:=by
 intro sp kp mb nx c K S ord ah tr hs es ck C x h hop TR hl;obtain⟨⟨T1,T0⟩,⟨Rx,Ph,Pg⟩,A6,Lq,Po⟩:=dr hl;obtain⟨ra,ha⟩:=ej A6 zD;have la:=h.live _ (h.find ha);obtain⟨rc,hc⟩:=ej Po zD;have lc:=h.live _ (h.find hc);obtain⟨v,hv,Pf⟩:=ES Ph zD;refine aE λg=>OI λb1 _=>?_;refine DR.of (R:=[(b1,.cells (Value.cells x.v) 35 zZ),jR sp c kp mb nx,(mb,.map es ck)]) (.cons (.cons (.cons λ_ _ h=>h.bt))) (Ld.n (v:=ptr kp) (Ld.n (v:=.map (some mb)) (Ld.f (v:=i64 x.a) (h.dD.hit (k:=x.a) (bZ _) (b:=mb) (by exact .tail _ (.tail _ (.head _))) ha λv e=>?_))));subst e;refine Ld.f (v:=i64 x.b) ?_;rw[hv];refine Ld.n (v:=.map (some mb)) (Ld.f (v:=i64 x.c) (h.dD.hit (k:=x.c) (bZ _) (b:=mb) (by exact .tail _ (.tail _ (.head _))) hc λv e=>?_));subst e;intro F;refine aa.fq (N7 h.ks la (v:=v) (by rw[h.n];exact Pf) lc) ?_;rintro w H hD;have hQ:nB kp K S ord ah tr (dM c.n (bU S hs) x) (qp c.n c.cap (fL S hs) (bU S hs) x ord) w H:=by
  have hq:=h.comp hD;rw[h.n,h.cap]at hq;rw[Yo hop];have e:dM c.n (bU S hs) x=λy=>if bU S hs x.c y then bU S hs x.a (ak.aB y x.b.toNat true)else bU S hs x.a (ak.aB y x.b.toNat false):=by simp only[dM,hop]
  rw[e];simp only[bA ha,bA hc,hv,xbe];exact hq
 obtain⟨y,e,rfl⟩:=hQ.two;refine⟨.cons (.cons (.cons λ_ _ h=>h.bt)),?_⟩;exact Ext.two (aM.mk .tail ⟨_,rfl,hQ⟩)
end
section
variable {sp kp mb nx:Nat} {c:Cf} {K:Kd} {S:Nat->aA.Fn} {ord ah tr:zL} {hs:List (Int×Nat)} {es:Array MapEntry} {ck:Nat} {C:Hp} {x:fI}
theorem Vf{w f:Nat}(h:iq kp nx c K S ord ah tr hs es ck C)(hw:w<256)(hx:x.x<18446744073709551616)(hl:kF c.n hs w x≠0):
  Rd zQ 43 #[ptr sp,x.v,.agg (Lc (w,f)).toArray] (gS sp c kp mb nx es ck C) (· =eV (kF c.n hs w x) (-1) 0 0):=by
 refine aE λg=>Ak λb1 _ b3 _ b5 _=>?_;refine ay.q (r:=x.cells) (Ld.f (v:=.int .u8 (w:Int)) (aa.eq (look_ok h hw hx) (ae.cL (Br.T ?_ hl))));refine aa.eq (cz _ _) (St.p (r:=[i64 (kF c.n hs w x),i64 (-1),u64 0,i64 0]) (bI _ _ _ _) ?_);refine ay.q ?_;exact bg.mk (.skip (.skip .tail)) rfl
def m6(op:Nat):Option Nat:=
 if op=23 then some 97 else if op=22 then some 96 else if op=21 then some 95 else if op=20 then some 94 else
 if op=19 then some 93 else if op=18 then some 92 else if op=17 then some 91 else if op=16 then some 90 else
 if op=15 then some 89 else if op=14 then some 88 else if op=13 then some 87 else if op=12 then some 86 else none
theorem Oi:Fc zQ 44 #[] [] (λv H=>∃b es ck m,v=.map (some b)/\H=[(b,.map es ck)]/\aD (kI .u8) (λv (p:Nat)=>v=.func (.func p) #[] #[]) es ck m/\∀op:Nat,aJ m (op:Int)=m6 op):=by
 refine aE λg=>OZ λb _=>?_;have br:∀{k:Int} {p:Nat} {es:Array MapEntry} {ck:Nat} {m:List (Int×Nat)} {Q:Hp->Prop},aD (kI .u8) (λv (p:Nat)=>v=.func (.func p) #[] #[]) es ck m->(∀es' bB,aD (kI .u8) (λv (p:Nat)=>v=.func (.func p) #[] #[]) es' bB (dX m k p)->Q [(b,.map es' bB)])->
   aW (.int .u8) [(b,.map es ck)] (.map (some b)) (kI .u8 k) (.func (.func p) #[] #[]) Q:=λ{k p es ck m Q} he hq=>
  aD.br (bZ _) (AZ _) he rfl λes' bB he'=>⟨_,.head _,hq es' bB he'⟩
 refine br (k:=12) aD.empty λ_ _ h=>?_;refine br (k:=13) h λ_ _ h=>?_;refine br (k:=14) h λ_ _ h=>?_;refine br (k:=15) h λ_ _ h=>?_;refine br (k:=16) h λ_ _ h=>?_;refine br (k:=17) h λ_ _ h=>?_;refine br (k:=18) h λ_ _ h=>?_;refine br (k:=19) h λ_ _ h=>?_;refine br (k:=20) h λ_ _ h=>?_;refine br (k:=21) h λ_ _ h=>?_;refine br (k:=22) h λ_ _ h=>?_;refine br (k:=23) h λ_ _ h=>?_;refine aM.mk (.refl _) ⟨b,_,_,_,rfl,rfl,h,λop=>?_⟩;simp only[bK];have:∀j:Nat,((op:Int)=(j:Int))=(op=j):=λj=>propext zO;have e:=this 12;have e2:=this 13;have e3:=this 14;have e4:=this 15;have e5:=this 16;have e6:=this 17;have e7:=this 18;have e8:=this 19;have e9:=this 20;have e10:=this 21;have ZH:=this 22;have e12:=this 23
 simp only[Int.cast_ofNat_Int]at*;simp only[e,e2,e3,e4,e5,e6,e7,e8,e9,e10,ZH,e12];rfl
def Z8(v:zV):Prop:=∃(e h:Int) (n:Nat) (t:Int),v=eV e h n t
set_option maxHeartbeats 1000000 in
theorem qV{C:Hp}{Q:zV->Hp->Prop}(hQ:∀v H,Q v H->Z8 v)
 (h1:∀w f,eo x.op=some (w,f)->Fc zQ 43 #[ptr sp,x.v,.agg (Lc (w,f)).toArray] C Q)
 (h2:∀f,eo x.op=none->m6 x.op=some f->aT zQ f=true->Fc zQ f #[ptr sp,x.v] C Q)
 (h3:eo x.op=none->m6 x.op=none->Q (eV 12 (-1) 0 0) C):Fc zQ 16 #[ptr sp,x.v] C Q:=by
 refine aE λg=>O6 λb1 _ b3 _=>?_;refine ae.aH (Br.no (DR.of (R:=(b1,.cells x.cells.toArray 35 zZ)::[]) (.skip (.cons λ_ _ h=>h.bt)) (Ld.f (v:=.int .u8 (x.op:Int)) λF=>?_)));refine aa.fn hnew M9 ?_;rintro w H ⟨bm,kx,jN,m1,rfl,rfl,T3,uj⟩;refine⟨.skip (.skip (.cons λ_ _ h=>h.bt)),?_⟩;refine⟨[(b1,.cells x.cells.toArray 35 zZ),(bm,.map kx jN)],(aN.perm (List.Perm.swap _ _ _)).trans (.skip ?_),.cons (λ_ _ h=>h.bt),?_⟩
 ·exact(aN.perm (List.Perm.swap _ _ _)).trans (.cons (.cons λ_ _ h=>h.bt))
 refine T3.look (k:=(x.op:Int)) (bZ _) (by exact .tail _ (.head _)) (λp v hp hv=>?_) (λhp=>?_)
 ·subst hv;obtain⟨w,f⟩:=p;rw[uj]at hp;refine Ext.two λwU _=>λF=>?_;refine St.p (r:=Lc (w,f)) (λu hu=>by simp only[Lc,xak,xaQ,xbE]at hu;rcases hu with rfl|rfl<;>rfl) (⟨.skip ((aN.perm (List.Perm.swap _ _ _)).trans (.skip ((aN.perm (List.Perm.swap _ _ _)).trans (.cons (.cons λ_ _ h=>h.bt))))),?_⟩);refine Br.yes (ay.q (r:=x.cells) (ay.q (r:=Lc (w,f)) (aa.fq (h1 w f hp) ?_)));intro v H hv;obtain⟨e,h,n,t,rfl⟩:=hQ v H hv;refine St.p (r:=[i64 e,i64 h,u64 n,i64 t]) (bI _ _ _ _) ?_;refine ay.q ?_;exact aM.mk (.skip (.skip (.skip .tail))) hv
 rw[uj]at hp;refine Ext.two λwU _=>λF=>?_;refine St.p (r:=[.int .u8 0,.nilFunc]) (by simp[Value.oneCell']) (⟨.skip ((aN.perm (List.Perm.swap _ _ _)).trans (.skip ((aN.perm (List.Perm.swap _ _ _)).trans (.cons (.cons λ_ _ h=>h.bt))))),?_⟩);refine Br.no (DR.of (R:=(b1,.cells x.cells.toArray 35 zZ)::[]) (.skip (.skip (.skip (.cons λ_ _ h=>h.bt)))) (Ld.f (v:=.int .u8 (x.op:Int)) λF=>?_));refine aa.fn hnew Oi ?_;rintro w H ⟨ba,gR,iF,m2,rfl,rfl,sO,lZ⟩;refine⟨.skip (.skip (.skip (.skip (.cons λ_ _ h=>h.bt)))),?_⟩;refine⟨[(b1,.cells x.cells.toArray 35 zZ),(ba,.map gR iF)],?_,.cons (λ_ _ h=>h.bt),?_⟩
 ·refine(aN.perm ((List.Perm.cons _ (List.Perm.cons _ (List.Perm.cons _ (List.Perm.swap _ _ _)))).trans ((List.Perm.cons _ (List.Perm.cons _ (List.Perm.swap _ _ _))).trans ((List.Perm.cons _ (List.Perm.swap _ _ _)).trans (List.Perm.swap _ _ _))))).trans ?_;exact .cons ((aN.perm (List.Perm.swap _ _ _)).trans (.skip ((aN.perm (List.Perm.swap _ _ _)).trans (.skip ((aN.perm (List.Perm.swap _ _ _)).trans (.skip (.cons λ_ _ h=>h.bt)))))))
 refine sO.look (k:=(x.op:Int)) (bZ _) (by exact .tail _ (.head _)) (λf v hf hv=>?_) (λhf=>?_)
 ·subst hv;rw[lZ]at hf;have fN:aT zQ f=true:=by
   unfold m6 at hf
   repeat' split at hf
   all_goals first|(cases hf;kernel_rfl)|cases hf
  refine Ext.two (Br.yes (ay.q (r:=x.cells) (aF.of rfl fN (aa.fq (args:=#[ptr sp,x.v]) (h2 f hp hf fN) ?_))));intro v H hv;obtain⟨e,h,n,t,rfl⟩:=hQ v H hv;refine St.p (r:=[i64 e,i64 h,u64 n,i64 t]) (bI _ _ _ _) ?_;refine ay.q ?_;exact aM.mk (.skip (.skip (.skip (.skip .tail)))) hv
 rw[lZ]at hf;refine Ext.two (Br.no (aa.eq (cz _ _) (St.p (r:=[i64 12,i64 (-1),u64 0,i64 0]) (bI _ _ _ _) ?_)));refine ay.q ?_;exact aM.mk (.skip (.skip (.skip (.skip .tail)))) (h3 hp hf)
end
section
variable {sp kp mb nx:Nat} {c:Cf} {K:Kd} {S:Nat->aA.Fn} {ord ah tr:zL} {hs:List (Int×Nat)} {es:Array MapEntry} {ck:Nat} {C:Hp} {x:fI}
theorem Qj(h:iq kp nx c K S ord ah tr hs es ck C)(hx:x.x<18446744073709551616):
  Rd zQ 88 #[ptr sp,x.v] (gS sp c kp mb nx es ck C) (· =if(aJ hs x.a).isSome then eV 0 (-1) (bU S hs x.a x.x).toNat 0 else eV 3 (-1) 0 0):=by
 refine aE λg=>OF λb1 _ b3 _=>?_;refine Ld.f (v:=i64 x.a) (aa.eq (eJ h x.a) (Un.not ?_));cases hm:aJ hs x.a with
 |none=>
  refine Br.yes (aa.eq (cz _ _) (St.p (r:=[i64 3,i64 (-1),u64 0,i64 0]) (bI _ _ _ _) ?_));refine ay.q ?_;exact bg.mk (.skip .tail) rfl
 |some r=>
  apply Br.no;have hl:=h.live _ (h.find hm);refine DR.of (.refl _) (Ld.n (v:=ptr kp) (Ld.n (v:=.map (some mb)) (Ld.f (v:=i64 x.a) (h.dD.hit (k:=x.a) (bZ _) (b:=mb) (by exact .tail _ (.tail _ (.tail _ (.head _)))) hm λv e=>?_))));subst e;refine Ld.f (v:=u64 x.x) λF=>?_;refine aa.eq (args:=#[ptr kp,u32 r,u64 x.x]) (S7 h.ks hl hx) (⟨.refl _,?_⟩);refine Ext.two (aa.eq (KN _ _) (aa.eq (dP _ 0 _) (St.p (r:=[i64 0,i64 (-1),u64 (S r x.x).toNat,i64 0]) (bI _ _ _ _) ?_)));refine ay.q ?_;exact bg.mk (.skip .tail) (by rw[bA hm];rfl)
theorem Qa(h:iq kp nx c K S ord ah tr hs es ck C):
  Rd zQ 89 #[ptr sp,x.v] (gS sp c kp mb nx es ck C) (λw=>w=if(aJ hs x.a).isSome&& (aJ hs x.b).isSome then eV 0 (-1) (@decide (bU S hs x.a=bU S hs x.b) (Classical.propDecidable _)).toNat 0 else eV 3 (-1) 0 0):=by
 refine aE λg=>OE λb1 _ b3 _ J5 h5=>?_;have no:((aJ hs x.a).isSome&& (aJ hs x.b).isSome)=false->J5 [.bool true] ((b3,.cells #[i64 0,i64 0,u64 0,i64 0] 37 zZ)::(b1,.cells (Value.cells x.v) 35 zZ)::gS sp c kp mb nx es ck C):=λhb=>by
  refine h5 _ _ λ_=>Br.yes ?_;refine aa.eq (cz _ _) (St.p (r:=[i64 3,i64 (-1),u64 0,i64 0]) (bI _ _ _ _) ?_);refine ay.q ?_;exact bg.mk (.skip .tail) (by rw[hb];rfl)
 refine Ld.f (v:=i64 x.a) (aa.eq (eJ h x.a) (Un.not ?_));cases hm:aJ hs x.a with
 |none=>exact Split.U0 rfl (aL.mk (JE.mk (no (by rw[hm];rfl))))
 |some r=>
 refine Split.go rfl (Ld.f (v:=i64 x.b) (aa.eq (eJ h x.b) (Un.not (aL.mk ?_))));cases lZ:aJ hs x.b with
 |none=>exact JE.mk (no (by rw[lZ];exact xec _))
 |some q=>
 refine JE.mk (h5 _ _ λ_=>Br.no ?_);have hl:=h.live _ (h.find hm);have qK:=h.live _ (h.find lZ);refine DR.of (.refl _) (Ld.n (v:=.map (some mb)) (Ld.f (v:=i64 x.a) (h.dD.hit (k:=x.a) (bZ _) (b:=mb) (by exact .tail _ (.tail _ (.tail _ (.head _)))) hm λv e=>?_)));subst e;refine Ld.n (v:=.map (some mb)) (Ld.f (v:=i64 x.b) (h.dD.hit (k:=x.b) (bZ _) (b:=mb) (by exact .tail _ (.tail _ (.tail _ (.head _)))) lZ λv e=>?_));subst e;refine ae.eR ?_;have e:decide (r=q)= @decide (bU S hs x.a=bU S hs x.b) (Classical.propDecidable _):=by
  by_cases hq:r=q
  ·rw[xan hq];exact(@decide_eq_true _ (Classical.propDecidable _) (by rw[bA hm,bA lZ];exact(h.same hl qK).2 hq)).symm
  rw[xal hq];exact(@decide_eq_false _ (Classical.propDecidable _) (by rw[bA hm,bA lZ];exact λe=>hq ((h.same hl qK).1 e))).symm
 rw[e];intro F;refine aa.eq (KN _ _) λF=>?_;refine aa.eq (dP _ 0 _) λF=>?_;refine St.p (r:=[i64 0,i64 (-1),u64 _,i64 0]) (bI _ _ _ _) ?_;refine ay.q ?_;exact bg.mk (.skip .tail) (by rw[hm,lZ];rfl)
theorem Qd(h:iq kp nx c K S ord ah tr hs es ck C):
  Rd zQ 92 #[ptr sp,x.v] (gS sp c kp mb nx es ck C) (· =eV 0 (-1) (cF K S ord) 0):=by
 have hle:=gu h.ks.bc;refine aE λg=>OB λb1 _ b3 _=>?_;refine Ld.n (v:=ptr kp) ?_;refine aa.eq (cE h.ks.bc) (aZ.q (aa.eq (dP _ 0 _) (St.p (r:=[i64 0,i64 (-1),u64 (cF K S ord),i64 0]) (bI _ _ _ _) ?_)));refine ay.q ?_;exact bg.mk (.skip .tail) rfl
theorem MB(h:iq kp nx c K S ord ah tr hs es ck C)(hv:x.a<0\/(c.n:Int)<=x.a):
  Rd zQ 95 #[ptr sp,x.v] (gS sp c kp mb nx es ck C) (· =eV 2 (-1) 0 0):=by
 refine aE λg=>Ag λb1 _ b3 _=>?_;refine DR.of (.refl _) (Ld.n (v:=ptr kp) (Ld.f (v:=i64 x.a) λF=>?_));refine aa.eq (args:=#[ptr kp,i64 x.a]) (Ef h.ks.bc (by rw[h.n];exact hv)) (⟨.refl _,Ext.two ?_⟩);refine aZ.q (a:=0) (aa.eq (dP 0 2 _) (St.p (r:=[i64 2,i64 (-1),u64 0,i64 0]) (bI _ _ _ _) ?_));refine ay.q ?_;exact bg.mk (.skip .tail) rfl
theorem MC(h:iq kp nx c K S ord ah tr hs es ck C){v:Nat}(hx:x.a=v)(hv:v<c.n):
  Rd zQ 95 #[ptr sp,x.v] (gS sp c kp mb nx es ck C) (λw=>∃p,p<c.n/\ord.getD p 0=v/\w=eV 0 (-1) p 0):=by
 have hn:=h.ks.bc.lB;refine aE λg=>Ag λb1 _ b3 _=>?_;refine DR.of (.refl _) (Ld.n (v:=ptr kp) (Ld.f (v:=i64 x.a) ?_));rw[hx];intro F;refine aa.rq (args:=#[ptr kp,i64 (v:Int)]) (Eg h.ks.bc (by rw[h.n];exact hv)) ?_;rintro w ⟨p,hp,hop,rfl⟩;refine⟨.refl _,Ext.two ?_⟩;refine aZ.q (aa.eq (dP p 0 _) (St.p (r:=[i64 0,i64 (-1),u64 p,i64 0]) (bI _ _ _ _) ?_));refine ay.q ?_;exact bg.mk (.skip .tail) ⟨p,by rw[<-h.n];exact hp,hop,rfl⟩
theorem P9(h:iq kp nx c K S ord ah tr hs es ck C){P:Nat->Int->Prop}(R9:∀r,aJ hs x.a=some r->Rd zQ 146 #[ptr kp,u32 r] C (λv=>∃n e,P n e/\v=.tuple #[u64 n,i64 e])):
  Rd zQ 90 #[ptr sp,x.v] (gS sp c kp mb nx es ck C) (λv=>((aJ hs x.a).isSome=false/\v=eV 3 (-1) 0 0)\/((aJ hs x.a).isSome=true/\∃n e,P n e/\v=if e=0 then eV 0 (-1) n 0 else eV e (-1) 0 0)):=by
 refine aE λg=>OD λb1 _ b3 _=>?_;refine Ld.f (v:=i64 x.a) (aa.eq (eJ h x.a) (Un.not ?_));cases hm:aJ hs x.a with
 |none=>
  refine Br.yes (aa.eq (cz _ _) (St.p (r:=[i64 3,i64 (-1),u64 0,i64 0]) (bI _ _ _ _) ?_));refine ay.q ?_;exact bg.mk (.skip .tail) (.inl ⟨rfl,rfl⟩)
 |some r=>
  refine Br.no (DR.of (.refl _) (Ld.n (v:=ptr kp) (Ld.n (v:=.map (some mb)) (Ld.f (v:=i64 x.a) (h.dD.hit (k:=x.a) (bZ _) (b:=mb) (by exact .tail _ (.tail _ (.tail _ (.head _)))) hm λv e=>?_)))));subst e;intro F;refine aa.rq (args:=#[ptr kp,u32 r]) (R9 r hm) ?_;rintro w ⟨n,e,hP,rfl⟩;refine⟨.refl _,?_⟩;refine Ext.two λF=>(aa.eq (dP n e _) ?_);intro F;by_cases he:e=0
  ·rw[xae he];refine St.p (r:=[i64 0,i64 (-1),u64 n,i64 0]) (bI _ _ _ _) ?_;refine ay.q ?_;exact bg.mk (.skip .tail) (.inr ⟨rfl,n,e,hP,by rw[xae he]⟩)
  rw[xac he];refine St.p (r:=[i64 e,i64 (-1),u64 0,i64 0]) (bI _ _ _ _) ?_;refine ay.q ?_;exact bg.mk (.skip .tail) (.inr ⟨rfl,n,e,hP,by rw[xac he]⟩)
theorem MD(h:iq kp nx c K S ord ah tr hs es ck C){P:Nat->Int->Prop}(R9:∀r,aJ hs x.a=some r->Rd zQ 148 #[ptr kp,u32 r] C (λv=>∃n e,P n e/\v=.tuple #[u64 n,i64 e])):
  Rd zQ 93 #[ptr sp,x.v] (gS sp c kp mb nx es ck C) (λv=>((aJ hs x.a).isSome=false/\v=eV 3 (-1) 0 0)\/((aJ hs x.a).isSome=true/\∃n e,P n e/\v=if e=0 then eV 0 (-1) n 0 else eV e (-1) 0 0)):=by
 refine aE λg=>OA λb1 _ b3 _=>?_;refine Ld.f (v:=i64 x.a) (aa.eq (eJ h x.a) (Un.not ?_));cases hm:aJ hs x.a with
 |none=>
  refine Br.yes (aa.eq (cz _ _) (St.p (r:=[i64 3,i64 (-1),u64 0,i64 0]) (bI _ _ _ _) ?_));refine ay.q ?_;exact bg.mk (.skip .tail) (.inl ⟨rfl,rfl⟩)
 |some r=>
  refine Br.no (DR.of (.refl _) (Ld.n (v:=ptr kp) (Ld.n (v:=.map (some mb)) (Ld.f (v:=i64 x.a) (h.dD.hit (k:=x.a) (bZ _) (b:=mb) (by exact .tail _ (.tail _ (.tail _ (.head _)))) hm λv e=>?_)))));subst e;intro F;refine aa.rq (args:=#[ptr kp,u32 r]) (R9 r hm) ?_;rintro w ⟨n,e,hP,rfl⟩;refine⟨.refl _,?_⟩;refine Ext.two λF=>(aa.eq (dP n e _) ?_);intro F;by_cases he:e=0
  ·rw[xae he];refine St.p (r:=[i64 0,i64 (-1),u64 n,i64 0]) (bI _ _ _ _) ?_;refine ay.q ?_;exact bg.mk (.skip .tail) (.inr ⟨rfl,n,e,hP,by rw[xae he]⟩)
  rw[xac he];refine St.p (r:=[i64 e,i64 (-1),u64 0,i64 0]) (bI _ _ _ _) ?_;refine ay.q ?_;exact bg.mk (.skip .tail) (.inr ⟨rfl,n,e,hP,by rw[xac he]⟩)
theorem Cb(h:iq kp nx c K S ord ah tr hs es ck C){P:Nat->Int->Prop}(R9:∀r,aJ hs x.a=some r->Rd zQ 149 #[ptr kp,u32 r] C (λv=>∃n e,P n e/\v=.tuple #[u64 n,i64 e])):
  Rd zQ 94 #[ptr sp,x.v] (gS sp c kp mb nx es ck C) (λv=>((aJ hs x.a).isSome=false/\v=eV 3 (-1) 0 0)\/((aJ hs x.a).isSome=true/\∃n e,P n e/\v=if e=0 then eV 0 (-1) n 0 else eV e (-1) 0 0)):=by
 refine aE λg=>Oz ?_;intro b1 _ b3 _;refine Ld.f (v:=i64 x.a) ?_;refine aa.eq (eJ h x.a) (Un.not ?_);cases hm:aJ hs x.a with
 |none=>
  refine Br.yes (aa.eq (cz _ _) (St.p (r:=[i64 3,i64 (-1),u64 0,i64 0]) (bI _ _ _ _) ?_));refine ay.q ?_;exact bg.mk (.skip .tail) (.inl ⟨rfl,rfl⟩)
 |some r=>
  refine Br.no (DR.of (.refl _) (Ld.n (v:=ptr kp) ?_));refine Ld.n (v:=.map (some mb)) ?_;refine Ld.f (v:=i64 x.a) ?_;refine h.dD.hit (k:=x.a) (bZ _) (b:=mb) (by exact .tail _ (.tail _ (.tail _ (.head _)))) hm λv e=>?_;subst e;intro F;refine aa.rq (args:=#[ptr kp,u32 r]) (R9 r hm) ?_;rintro w ⟨n,e,hP,rfl⟩;refine⟨.refl _,?_⟩;apply Ext.two;intro F;refine aa.eq (dP n e _) ?_;intro F;by_cases he:e=0
  ·rw[xae he];refine St.p (r:=[i64 0,i64 (-1),u64 n,i64 0]) (bI _ _ _ _) ?_;refine ay.q ?_;exact bg.mk (.skip .tail) (.inr ⟨rfl,n,e,hP,by rw[xae he]⟩)
  rw[xac he];refine St.p (r:=[i64 e,i64 (-1),u64 0,i64 0]) (bI _ _ _ _) ?_;refine ay.q ?_;exact bg.mk (.skip .tail) (.inr ⟨rfl,n,e,hP,by rw[xac he]⟩)
end
structure Rp where
 e:Int
 h:Int
 n:Nat
 t:Int
def Rp.cells(r:Rp):List zV:=[i64 r.e,i64 r.h,u64 r.n,i64 r.t]
abbrev Rp.v(r:Rp):zV:=.agg r.cells.toArray
def Rp.eq(a b:Rp):Bool:=decide (a.e=b.e) && (decide (a.h=b.h) && (decide (a.n=b.n) &&decide (a.t=b.t)))
theorem Rp.eq_iff{a b:Rp}:Rp.eq a b=true↔a=b:=by
 obtain⟨a1,a2,a3,a4⟩:=a;obtain⟨b1,b2,b3,b4⟩:=b;simp[Rp.eq]
theorem Rp.one(r:Rp):∀u∈r.cells,u.oneCell'=true:=bI _ _ _ _
theorem SE:(Tryz.prog.fieldsOf 37).toList.map (λf=>(f.name,f.type,f.offset))=[("E",27,0),("H",3,1),("N",33,2),("Tries",3,3)]:=by kernel_rfl
theorem UE:Tryz.prog.underlying 3=some (.int .i64):=by kernel_rfl
theorem UG:Tryz.prog.underlying 27=some (.int .i64):=by kernel_rfl
theorem Ut:Tryz.prog.underlying 33=some (.int .u64):=by kernel_rfl
theorem aeF{g:Gh}{H:Hp}{o:Oper}{ρ:Operand->zV}{k:zV->Prop}{neq:Bool}{x y:Operand}{a b:Rp}(ho:o.op=.binOp (cond neq .neq .eql) 37 x y 37)(hx:ρ x=a.v)(hy:ρ y=b.v)
 (hk:k (.bool (cond neq (!Rp.eq a b) (Rp.eq a b)))):jI zQ g o ρ H k:=by
 refine jI.struct (neq:=neq) ho hx hy zK zK zK (b:=Rp.eq a b) ?_ hk;intro w;have h:=SE;generalize (Tryz.prog.fieldsOf 37).toList=fs at h;rcases fs with _|⟨f1,_|⟨f2,_|⟨f3,_|⟨f4,_|⟨f5,fs⟩⟩⟩⟩⟩<;>simp only[xay,xb6,xau,xdx,xa1,reduceCtorEq,and_false]at h;obtain⟨⟨n1,t1,o1⟩,⟨n2,t2,o2⟩,⟨n3,t3,o3⟩,n4,t4,o4⟩:=h;have p1:∀(r:Rp) w,(part 27 r.cells.toArray 0).run zQ w=.ok (i64 r.e) w:=λr w=>run_part_plain (w:=w) zK rfl;have p2:∀(r:Rp) w,(part 3 r.cells.toArray 1).run zQ w=.ok (i64 r.h) w:=λr w=>run_part_plain (w:=w) zK rfl;have p3:∀(r:Rp) w,(part 33 r.cells.toArray 2).run zQ w=.ok (u64 r.n) w:=λr w=>run_part_plain (w:=w) zK rfl;have p4:∀(r:Rp) w,(part 3 r.cells.toArray 3).run zQ w=.ok (i64 r.t) w:=λr w=>run_part_plain (w:=w) zK rfl;have dq:∀x y:Int,(x==y)=decide (x=y):=λx y=>by rw[xbS];simp
 have q1:∀(x y:Int) w,(Op.equalIn 9999 27 (i64 x) (i64 y)).run zQ w=.ok (decide (x=y)) w:=λx y w=>by
  rw[run_equalIn_int w 9998 27 .i64 _ _ _ UG,dq]
 have q2:∀(x y:Int) w,(Op.equalIn 9999 3 (i64 x) (i64 y)).run zQ w=.ok (decide (x=y)) w:=λx y w=>by
  rw[run_equalIn_int w 9998 3 .i64 _ _ _ UE,dq]
 have q3:∀(x y:Nat) w,(Op.equalIn 9999 33 (u64 x) (u64 y)).run zQ w=.ok (decide (x=y)) w:=λx y w=>by
  rw[run_equalIn_int w 9998 33 .u64 _ _ _ Ut,dq];congr 1;exact xcm.2 Int.ofNat_inj
 show(Op.eqFields 9999 a.cells.toArray b.cells.toArray [f1,f2,f3,f4]).run zQ w=_;simp only[Op.eqFields,n1,n2,n3,n4,t1,t2,t3,t4,o1,o2,o3,o4,Sem.run_bind,p1,p2,p3,p4,q1,q2,q3,Result.andThen_ok,Sem.run_ite,Sem.run_pure];unfold Rp.eq;by_cases h1:a.e=b.e<;>by_cases h2:a.h=b.h<;>by_cases h3:a.n=b.n<;>by_cases h4:a.t=b.t<;>simp[h1,h2,h3,h4]
def qX:List Rp->List Rp->Bool
 | [],[]=>true
 |a::l,b::r=>Rp.eq a b&&qX l r
 |_,_=>false
theorem lq:∀{l r:List Rp},qX l r=true↔l=r
 | [],[]=>by simp[qX]
 | [],_::_=>by simp[qX]
 |_::_,[]=>by simp[qX]
 |a::l,b::r=>by simp[qX,Rp.eq_iff,lq]
theorem MM{B:Hp}{va vb:zV}{l r:List Rp}(hl:Sl 4 B va (l.map Rp.cells))(hr:Sl 4 B vb (r.map Rp.cells))(cD:l.length<9223372036854775807):Rd zQ 17 #[va,vb] B (· =.bool (qX l r)):=by
 refine aE λg=>O5 (hl.bP ?_);refine hr.bP ?_;rw[xav,xav];refine ae.AQ (Br.dec (λhne=>?_) (λheq=>?_))
 ·refine bg.mk (.refl _) ?_;cases he:qX l r
  ·rfl
  rw[lq.1 he]at hne;exact absurd rfl hne
 have heq:l.length=r.length:=by simpa using heq
 refine⟨λvs H=>∃i:Nat,vs=[i64 (i:Int)]/\i<=l.length/\H=B/\l.take i=r.take i,λvs _=>l.length-bJ vs 0,JE.mk ⟨0,rfl,xaM _,rfl,rfl⟩,?_⟩;rintro w H ⟨i,⟨⟩,hi,rfl,he⟩ gs;refine hl.bP ?_;rw[xav];refine ae.eZ (Br.dec (λhlt=>?_) (λhge=>?_))
 ·have hlr:i<r.length:=by omega
  refine av.sl hl (i:=i) (r:=l[i].cells) (by rw[xat,xaa hlt];rfl) λp hp=>?_;refine ay.at hp rfl zD (λ_ h=>h) ?_;refine av.sl hr (i:=i) (r:=r[i].cells) (by rw[xat,xaa hlr];rfl) λp hp=>?_;refine ay.at hp rfl zD (λ_ h=>h) ?_;refine aeF (neq:=true) (x:=.tmp 20) (y:=.tmp 24) (a:=l[i]) (b:=r[i]) zK rfl rfl ?_;simp only[xap];refine Br.mk (λhb=>?_) (λhb=>?_)
  ·refine bg.mk (.refl _) ?_;cases TZ:qX l r
   ·rfl
   have h2:=lq.1 TZ;have:Rp.eq l[i] r[i]=true:=Rp.eq_iff.2 (by subst h2;rfl);rw[this]at hb;cases hb
  have h2:l[i]=r[i]:=Rp.eq_iff.1 (by simpa using hb);refine ae.inc (aC.of (.refl _) ⟨i+1,rfl,hlt,rfl,?_⟩ (by simp only[bJ];omega));rw[xbo,xbo,he,xaa hlt,xaa hlr,h2]
 refine bg.mk (.refl _) ?_;have h2:l=r:=by rwa [xcv zO,xcv zO]at he
 rw[lq.2 h2]
theorem QG(n:Nat)(B:Hp):Rd zQ 18 #[i64 (n:Int)] B (· =.agg (xQ.cells ⟨n,1048576,0,100,0⟩).toArray):=by
 refine aE λg=>O4 λb1 _=>?_;refine Build.mk (cs:=xQ.cells ⟨n,1048576,0,100,0⟩) zK (St.p (xQ.one _) ?_);exact ay.q (r:=xQ.cells ⟨n,1048576,0,100,0⟩) (bg.mk .tail rfl)
theorem Cf.Ok.g9{d:Cf}(h:d.Ok):g9 d.i=0:=by
 obtain⟨h1,h2,h3,h4,h5,h6⟩:=h;have a1:gW d.i=false:=by
  show(decide (6<d.str)||decide ((d.gr:Int)<100)||decide (1000<(d.gr:Int))||decide ((d.rs:Int)<0)||decide (16<(d.rs:Int)))=false;simp only[xaD,xbp];omega
 have a2:iQ d.i=false:=by
  show decide ((d.n:Int)<1\/64<(d.n:Int)\/(d.cap:Int)<2\/1048576<(d.cap:Int))=false;rw[xbp];omega
 have a3:¬(d.i.str=6/\12<d.i.n):=by
  show¬(d.str=6/\12<(d.n:Int));omega
 unfold Proofs.g9;rw[a1,a2,xac zD,xac zD,xac a3]
theorem UT{c:xQ}{steps:List fI}{sv:zV}{Y:Hp}(hs:Sl 5 Y sv (steps.map fI.cells))(cD:steps.length<4398046511104)(I:Nat->Nat->List Rp->Hp->Prop)
 (h0:∀d:Cf,c=d.i->d.Ok->∀(sp kp mb:Nat) (C:Hp),cc kp (K0 d.n d.cap) S0 (List.range d.n) (List.range d.n) [] C->I 0 sp [] (gS sp d kp mb 0 #[] 0 C))
 (hstep:∀(i sp:Nat) (l:List Rp) (H:Hp) (x:fI),g9 c=0->steps[i]? =some x->I i sp l H->l.length=i->Fc zQ 16 #[ptr sp,x.v] H (λv H'=>∃r:Rp,v=r.v/\I (i+1) sp (l++[r]) H')):
  Fc zQ 15 #[.agg c.cells.toArray,sv] Y (λw H=>(g9 c≠0/\w=.tuple #[.slice none 0 0,i64 (g9 c)]/\H=Y)\/
   (g9 c=0/\∃(sp:Nat) (l:List Rp) (s:zV) (CR HS:Hp),w=.tuple #[s,i64 0]/\H=CR++Y/\aV 37 4 s (l.map Rp.cells) CR/\l.length=steps.length/\I steps.length sp l HS)):=by
 refine aE λg=>O7 λb1 _=>?_;refine ay.q (r:=c.cells) (aa.fn hnew (Cg c (Q:=λv H=>(g9 c≠0/\v=.tuple #[.pointer none,i64 (g9 c)]/\H=[])\/(g9 c=0/\∃sp,v=.tuple #[ptr sp,i64 0]/\I 0 sp [] H)) (λh=>.inl ⟨h,rfl,rfl⟩) (λd hd hok sp kp mb C hK=>.inr ⟨?_,sp,rfl,h0 d hd hok sp kp mb C hK⟩)) ?_)
 ·subst hd;exact hok.g9
 rintro w H (⟨hne,rfl,rfl⟩|⟨he,sp,rfl,hI⟩)
 ·refine Ext.two (ae.cL (Br.T ?_ hne));exact aM.mk (.tail) (.inl ⟨hne,rfl,rfl⟩)
 refine Ext.two (ae.cL (Br.F (hs.bP ?_)));rw[xav];refine⟨λvs H'=>∃(i:Nat) (s:zV) (l:List Rp) (CR HS:Hp),vs=[s,i64 (i:Int)]/\i<=steps.length/\l.length=i/\H'=CR++(HS++((b1,.cells (Value.cells (.agg c.cells.toArray)) 23 zZ)::Y))/\aV 37 4 s (l.map Rp.cells) CR/\I i sp l HS,
  λvs _=>steps.length-bJ vs 1,JE.mk ⟨0,_,[],[],H,rfl,xaM _,rfl,rfl,aV.nil _ _,hI⟩,?_⟩
 rintro w1 w2 H' ⟨i,s,l,CR,HS,⟨⟩,hi,hl,rfl,hR,hI⟩ gs;refine ae.eZ (Br.dec (λhlt=>?_) (λhge=>?_))
 ·refine av.sl hs (i:=i) (r:=steps[i].cells) (by rw[xat,xaa hlt];rfl) λp hp=>?_;refine ay.at hp rfl zD (λ_ h=>xab _ (xab _ (.tail _ h))) ?_;intro BV _;refine St.p (r:=steps[i].cells) (fI.one _) (ay.q (r:=steps[i].cells) (aa.fn (.cons (.app .left)) (hstep i sp l HS steps[i] he (xaa hlt) hI hl) ?_));rintro v T8 ⟨r,rfl,hI'⟩;refine au.one (z:=.agg #[i64 0,i64 0,u64 0,i64 0]) (e:=37) (k:=4) (r:=r.cells) zK zK zK zD rfl λbx=>?_;refine aV.pC (r:=r.cells) hR (.cons (.cons .left)) (by exact .head _) rfl (Rp.one r) ⟨[i64 0,i64 0,u64 0,i64 0],rfl,rfl⟩ (by rw[xav];omega) (by rw[xav];omega) λv' CR' Wa=>?_;refine ae.inc (aC.of (.skip .tail) ⟨i+1,v',l++[r],CR',T8,rfl,hlt,by rw[xaf,hl];rfl,rfl,by rw[xaE];exact Wa,hI'⟩ (by simp only[bJ];omega))
 obtain rfl:i=steps.length:=by omega
 exact aM.mk (aN.cU (aN.right.trans .tail) CR) (.inr ⟨he,sp,l,w1,CR,HS,rfl,rfl,hR,hl,hI⟩)
abbrev FS:=List (Int×aA.Fn)
def je(S:Nat->aA.Fn)(hs:List (Int×Nat)):FS:=hs.map λp=>(p.1,S p.2)
def fF(F:FS)(a:Int):aA.Fn:=match aJ F a with|some f=>f|none=>λ_=>false
def uu(F:FS):List aA.Fn:=F.map Prod.snd
def eP(F:FS)(a:Int):Bool:=(aJ F a).isSome
theorem vO{S:Nat->aA.Fn}{a:Int}:∀hs:List (Int×Nat),aJ (je S hs) a=(aJ hs a).map S
  | []=>rfl
  |p::hs=>by
    have ih:=vO (S:=S) (a:=a) hs;unfold aJ je at*;rw[xay,xbv,xbv];by_cases e:p.1=a
    · simp[e]
    · simp only[e,xdp]
      exact ih
theorem mX{S:Nat->aA.Fn}{hs:List (Int×Nat)}:fF (je S hs)=bU S hs:=funext λa=>by
  unfold fF bU;rw[vO];cases aJ hs a<;>rfl
theorem rM{S:Nat->aA.Fn}{hs:List (Int×Nat)}:uu (je S hs)=fL S hs:=by
  unfold uu je fL;rw[xbM];rfl
theorem eE{S:Nat->aA.Fn}{hs:List (Int×Nat)}(a:Int):eP (je S hs) a=(aJ hs a).isSome:=by
  unfold eP;rw[vO];cases aJ hs a<;>rfl
theorem mh{S S':Nat->aA.Fn}{hs:List (Int×Nat)}(h:∀p∈hs,S' p.2=S p.2):je S' hs=je S hs:=xbg λp hp=>by rw[h p hp]
theorem Oo{S:Nat->aA.Fn}{hs:List (Int×Nat)}:(je S hs).map Prod.fst=hs.map Prod.fst:=by
  unfold je;rw[xbM];rfl
def iS(n:Nat)(F:FS)(w:Nat)(x:fI):Int:=
  if(GG w x||Oe w x)=true then 1 else if(Fy n w x||Fx n w x||M4 n w x)=true then 2 else
  if((decide (w&&&1≠0) && !eP F x.a)||(decide (w&&&2≠0) && !eP F x.b)||(decide (w&&&4≠0) && !eP F x.c))=true then 3 else 0
theorem yX{S:Nat->aA.Fn}{hs:List (Int×Nat)}{n w:Nat}{x:fI}:iS n (je S hs) w x=kF n hs w x:=by
  unfold iS kF wG wF zy;rw[eE,eE,eE]
noncomputable def BR(n:Nat)(F:FS)(ord:zL):Nat:=sz n ord (HF (uu F))
def jZ(sp:Nat)(c:Cf)(nx:Nat)(F:FS)(ord tr:zL)(H:Hp):Prop:=
  ∃(kp mb:Nat) (K:Kd) (S:Nat->aA.Fn) (ah:zL) (hs:List (Int×Nat)) (es:Array MapEntry) (ck:Nat) (C:Hp),H=gS sp c kp mb nx es ck C/\iq kp nx c K S ord ah tr hs es ck C/\je S hs=F
section
variable {sp nx:Nat} {c:Cf} {F:FS} {ord tr:zL} {H:Hp} {x:fI}
theorem iq.BR{kp:Nat}{K:Kd}{S:Nat->aA.Fn}{ah:zL}{hs:List (Int×Nat)}{es:Array MapEntry}{ck:Nat}{C:Hp}(h:iq kp nx c K S ord ah tr hs es ck C)(o:zL):cF K S o=Proofs.BR c.n (je S hs) o:=by
  unfold cF Proofs.BR;rw[h.held,rM,h.n]
theorem Lk{d:Cf}{kp mb:Nat}{C:Hp}(hK:cc kp (K0 d.n d.cap) S0 (List.range d.n) (List.range d.n) [] C):jZ sp d 0 [] (List.range d.n) [] (gS sp d kp mb 0 #[] 0 C):=
  ⟨kp,mb,_,_,_,[],_,_,C,rfl,⟨hK,rfl,rfl,aD.empty,by simp,λr=>by
    show([]:zL).getD r 0=_;simp,by simp⟩,rfl⟩
theorem jZ.nodup(h:jZ sp c nx F ord tr H):(F.map Prod.fst).Nodup:=by
  obtain⟨kp,mb,K,S,ah,hs,es,ck,C,rfl,h,rfl⟩:=h;rw[Oo];exact h.dD.nd
theorem jZ.lt(h:jZ sp c nx F ord tr H):∀p∈F,0<=p.1/\p.1<nx:=by
  obtain⟨kp,mb,K,S,ah,hs,es,ck,C,rfl,h,rfl⟩:=h;intro p hp;obtain⟨q,hq,rfl⟩:=xam.1 hp;exact h.lt q hq
def XW(sp:Nat)(c:Cf)(nx:Nat)(F:FS)(ord tr:zL)(x:fI)(R:zL->zL->Prop)(v:zV)(H:Hp):Prop:=
  ∃(t:Nat) (o cT:zL),t<=c.rs+1/\tU (qp c.n c.cap (uu F) (fF F) x) R ord t o/\
    ((v=eV 0 nx 0 t/\jZ sp c (nx+1) (F++[((nx:Int),dM c.n (fF F) x)]) o [] H/\qp c.n c.cap (uu F) (fF F) x o 0)\/
     (∃e:Nat,(e=8\/e=9)/\v=eV e (-1) 0 t/\jZ sp c nx F o cT H/\qp c.n c.cap (uu F) (fF F) x o e/\(e=9->t=c.rs+1)/\cT.length+66*BR c.n F o<=tr.length+66*BR c.n F ord))
theorem WB{w f:Nat}(hm:eo x.op=some (w,f)):jm f x.op w/\aT zQ f=true/\w<256:=by
  have nine:x.op=1\/x.op=2\/x.op=3\/x.op=4\/x.op=5\/x.op=6\/x.op=7\/x.op=8\/x.op=9\/x.op=10\/x.op=11:=by
    unfold eo at hm
    repeat' split at hm
    all_goals first|omega|cases hm
  rcases nine with e|e|e|e|e|e|e|e|e|e|e<;>rw[e]at hm⊢ <;>cases hm
  · exact⟨qU,by kernel_rfl,by decide⟩
  · exact⟨AH,by kernel_rfl,by decide⟩
  · exact⟨UB,by kernel_rfl,by decide⟩
  · exact⟨KQ,by kernel_rfl,by decide⟩
  · exact⟨Yb,by kernel_rfl,by decide⟩
  · exact⟨Uq,by kernel_rfl,by decide⟩
  · exact⟨UD,by kernel_rfl,by decide⟩
  · exact⟨Az,by kernel_rfl,by decide⟩
  · exact⟨Ff,by kernel_rfl,by decide⟩
  · exact⟨Fe,by kernel_rfl,by decide⟩
  · exact⟨Cq,by kernel_rfl,by decide⟩
theorem rS(hx:x.op=1):jm 72 x.op 8/\aT zQ 72=true:=by
  rw[hx];exact⟨qU,by kernel_rfl⟩
theorem D8(hx:x.op=4):jm 75 x.op 3/\aT zQ 75=true:=by
  rw[hx];exact⟨KQ,by kernel_rfl⟩
def TD(c:Cf)(nx:Nat)(F:FS)(T:zL->Nat->Prop)(R:zL->zL->Prop)(b:Nat):Prop:=
  ∀{kp:Nat} {K:Kd} {S:Nat->aA.Fn} {o ah tr:zL} {hs:List (Int×Nat)} {es:Array MapEntry} {ck:Nat} {C:Hp},T o 9->iq kp nx c K S o ah tr hs es ck C->je S hs=F->tr.length<=b->
    Fc zQ 85 #[ptr kp,.int .u8 (c.str:Int),i64 c.gr] C (λv H=>∃ls a b,v=.tuple #[a,b]/\R o ls/\At kp K S (az o ls) (tr++ls) H/\ls.length+66*cF K S (az o ls)<=66*cF K S o)
theorem Lf{w f:Nat}{R:zL->zL->Prop}(h:jZ sp c nx F ord tr H)(hc:c.Ok)(BJ:nx+1<9223372036854775808)(hx:x.x<18446744073709551616)(hf:jm f x.op w)(fN:aT zQ f=true)(hw:w<256)(hl:iS c.n F w x=0)
   (hrun:TD c nx F (qp c.n c.cap (uu F) (fF F) x) R (tr.length+66*BR c.n F ord)):
    Fc zQ 43 #[ptr sp,x.v,.agg (Lc (w,f)).toArray] H (XW sp c nx F ord tr x R):=by
  obtain⟨kp,mb,K,S,ah,hs,es,ck,C,rfl,h,rfl⟩:=h;rw[yX]at hl;rw[mX,rM,<-h.BR]at hrun;refine(Ve fN h hc BJ hw hx hl (fn:=dM c.n (bU S hs) x) (T:=qp c.n c.cap (fL S hs) (bU S hs) x) (R:=R) (λ{K' S' o bW cT C'} h' hS=>?_) (λ{K' S' o bW cT C'} hT h' hS hb=>?_)).mono ?_
  · have:=hf (sp:=sp) (mb:=mb) h' rfl hx hl
    rwa [Wt hS,NL h.dD.nd hS]at this
  · exact hrun hT h' (mh hS) hb
  · rintro v H ⟨t,o,bW,cT,K',S',es',bB,C',ht,hT,hS,hq⟩
    unfold XW;have ez:BR c.n (je S hs)=cF K S:=funext λo=>(h.BR o).symm;rw[mX,rM,ez];refine⟨t,o,cT,ht,hT,?_⟩;rcases hq with⟨r,rfl,rfl,h',hr,h0,rfl⟩|⟨e,he,rfl,rfl,h',Si,h9,hb⟩
    · refine .inl ⟨rfl,⟨kp,mb,K',S',bW,_,es',bB,C',rfl,h',?_⟩,h0⟩
      rw[<-mh hS];unfold je;rw[xaE,<-hr];rfl
    · exact .inr ⟨e,he,rfl,⟨kp,mb,K',S',bW,_,es',bB,C',rfl,h',mh hS⟩,Si,h9,hb⟩
theorem vS{w f:Nat}(h:jZ sp c nx F ord tr H)(hx:x.x<18446744073709551616)(hw:w<256)(hl:iS c.n F w x≠0):
    Rd zQ 43 #[ptr sp,x.v,.agg (Lc (w,f)).toArray] H (· =eV (iS c.n F w x) (-1) 0 0):=by
  obtain⟨kp,mb,K,S,ah,hs,es,ck,C,rfl,h,rfl⟩:=h;rw[yX]at hl⊢;exact Vf h hw hx hl
theorem Bf(h:jZ sp c nx F ord tr H)(hx:x.x<18446744073709551616):Rd zQ 88 #[ptr sp,x.v] H (· =if eP F x.a then eV 0 (-1) (fF F x.a x.x).toNat 0 else eV 3 (-1) 0 0):=by
  obtain⟨kp,mb,K,S,ah,hs,es,ck,C,rfl,h,rfl⟩:=h;rw[eE,mX];exact Qj h hx
theorem KO(h:jZ sp c nx F ord tr H):Rd zQ 90 #[ptr sp,x.v] H (· =if eP F x.a then eV 0 (-1) (sat c.n (fF F x.a)%Bw) 0 else eV 3 (-1) 0 0):=by
  obtain⟨kp,mb,K,S,ah,hs,es,ck,C,rfl,h,rfl⟩:=h;rw[eE,mX];refine(P9 h (x:=x) (P:=λn e=>e=0/\n=sat c.n (bU S hs x.a)%Bw) λr hr=>?_).mono λv H ⟨e,hv⟩=>⟨e,?_⟩
  · rw[bA hr,<-h.n]
    exact(SS h.ks (h.live _ (h.find hr))).mono λv H ⟨e,hv⟩=>⟨e,_,_,⟨rfl,rfl⟩,hv⟩
  · rcases hv with⟨h1,h2⟩|⟨h1,n,e,⟨rfl,rfl⟩,h2⟩
    · rw[h1];exact h2
    · rw[h1];exact h2
end
end
end Go.Proofs
namespace aA
open ak
variable {n:Nat} {ah:Nat->Nat} {N:eA} {S:Nat->Fn} {ord:zL} {R:Nat->Prop} {V:zL}
inductive Rc(N:eA)(R:Nat->Prop):Nat->Prop
 |base {r:Nat}:R r->Rc N R r
 |lo {p:Nat} {d:Nd}:Rc N R p->N p=some d->Rc N R d.lo
 |hi {p:Nat} {d:Nd}:Rc N R p->N p=some d->Rc N R d.hi
def Ot(N:eA)(V:zL):Prop:=∀u∈V,∃d,N u=some d/\(d.lo<2\/d.lo∈V)/\(d.hi<2\/d.hi∈V)
theorem Kw(h0:∀r,r<2->N r=none)(hV:Ot N V)(hR:∀r,R r->r<2\/r∈V):∀l r,A N ah n R l r->r<2\/r∈V
 |0,r,ha=>hR r ha
 |l+1,r,ha=>by
  rcases ha with⟨h1,_⟩|⟨p,d,h1,h2,_,h4⟩
  ·exact Kw h0 hV hR l r h1
  rcases Kw h0 hV hR l p h1 with hp|hp
  ·rw[h0 p hp]at h2;cases h2
  obtain⟨d',hd,a,b⟩:=hV p hp;rw[h2]at hd;cases hd;rcases h4 with rfl|rfl
  ·exact a
  exact b
theorem Rc.at(h:WF n ah N)(hR:∀r,R r->live N r){u:Nat}(hu:Rc N R u):∀d,N u=some d->A N ah n R (ah d.v) u:=by
 induction hu with
 |base hr=>
  intro d hd;have:=td (N:=N) (ah:=ah) (n:=n) (ah d.v) 0 hr (by rw[an hd];omega);rwa [xa3]at this
 | @lo p e hp he ih=>
  intro d hd;have hlt:=(h.lo he).2;rw[an hd]at hlt;have hb:A N ah n R (ah e.v+1) e.lo:=.inr ⟨p,e,ih e he,he,rfl,.inl rfl⟩;have:=td (ah d.v-(ah e.v+1)) _ hb (by rw[an hd];omega);rwa [show ah e.v+1+(ah d.v-(ah e.v+1))=ah d.v by omega]at this
 | @hi p e hp he ih=>
  intro d hd;have hlt:=(h.hi he).2;rw[an hd]at hlt;have hb:A N ah n R (ah e.v+1) e.hi:=.inr ⟨p,e,ih e he,he,rfl,.inr rfl⟩;have:=td (ah d.v-(ah e.v+1)) _ hb (by rw[an hd];omega);rwa [show ah e.v+1+(ah d.v-(ah e.v+1))=ah d.v by omega]at this
theorem Mj(h:WF n ah N)(hl:j5 n ah)(ho:Ord n ah ord)(hi:Interp N S)(hR:∀r,R r->live N r)(hV:Ot N V)(hRV:∀r,R r->r<2\/r∈V)(hVR:∀u∈V,Rc N R u)(g:Fn):aG n ord (Fs S R) g↔∃u∈V,g=S u:=by
 constructor
 ·rintro⟨l,BL,hf,x,hx⟩;obtain⟨v1,v2⟩:=ho.bc l BL;obtain⟨r,ha,rfl⟩:=(NK h hl ho hi hR l zO g).1 hf;rcases Kw (λr hr=>h.const hr) hV hRV l r ha with hc|hm
  ·exfalso;have:r=0\/r=1:=by omega
   rcases this with rfl|rfl
   ·exact hx (by rw[hi.zero,hi.zero])
   exact hx (by rw[hi.one,hi.one])
  exact⟨r,hm,rfl⟩
 rintro⟨u,hu,rfl⟩;obtain⟨d,hd,_⟩:=hV u hu;have hv:=h.var hd;refine⟨ah d.v,hl.lt _ hv,(NK h hl ho hi hR _ (xb7 (hl.lt _ hv)) _).2 ⟨u,(hVR u hu).at h hR d hd,rfl⟩,?_⟩;rw[ho.of hl hv];exact gm h hl hi hd
theorem Uf(h:WF n ah N)(hl:j5 n ah)(ho:Ord n ah ord)(hi:Interp N S)(hR:∀r,R r->live N r)(hV:Ot N V)(hRV:∀r,R r->r<2\/r∈V)(hVR:∀u∈V,Rc N R u)(nd:V.Nodup):pE (aG n ord (Fs S R)) V.length:=by
 have live':∀u∈V,live N u:=λu hu=>let ⟨d,hd,_⟩:=hV u hu;.inr ⟨d,hd⟩
 refine⟨V.map S,?_,by simp,λg=>?_⟩
 ·refine xb9.2 (nd.imp_of_mem λ{a b} ha hb hne e=>hne ?_);exact h.same hl hi (live' a ha) (live' b hb) λx=>congrFun e x
 rw[Mj h hl ho hi hR hV hRV hVR,xam];exact⟨λ⟨u,hu,e⟩=>⟨u,hu,e.symm⟩,λ⟨u,hu,e⟩=>⟨u,hu,e.symm⟩⟩
theorem Ml(h:WF n ah N)(hl:j5 n ah)(hi:Interp N S)(hV:Ot N V){v:Nat}(hno:∀u∈V,∀d,N u=some d->d.v≠v):∀(k u:Nat),n-dep n ah N u<=k->u<2\/u∈V->∀x,S u (aB x v false)=S u (aB x v true):=by
 intro k;have const:∀u,u<2->∀x,S u (aB x v false)=S u (aB x v true):=λu hu x=>by
  have:u=0\/u=1:=by omega
  rcases this with rfl|rfl
  ·rw[hi.zero,hi.zero]
  rw[hi.one,hi.one]
 induction k with
 |zero=>
  intro u hk hu x;rcases hu with hu|hu
  ·exact const u hu x
  obtain⟨d,hd,_⟩:=hV u hu;rw[an hd]at hk;have:=hl.lt _ (h.var hd);omega
 |succ k ih=>
  intro u hk hu x;rcases hu with hu|hu
  ·exact const u hu x
  obtain⟨d,hd,a,b⟩:=hV u hu;have h1:=(h.lo hd).2;have h2:=(h.hi hd).2;have h3:=hl.lt _ (h.var hd);rw[an hd]at hk;have hne:=hno u hu d hd;rw[hi.node hd,hi.node hd,aj,aj,xac hne,xac hne,ih d.lo zO a,ih d.hi zO b]
theorem Rc.cC(h:WF n ah N)(hl:j5 n ah)(hi:Interp N S){r u v:Nat}(hu:Rc N (λq=>q=r) u):cC (S u) v->cC (S r) v:=by
 have step:∀(p q:Nat) (d:Nd) (b:Bool),N p=some d->q=(if b then d.hi else d.lo)->aA.cC (S q) v->aA.cC (S p) v:=λp q d b hp hq hv=>by
  have VJ:live N q/\ah d.v+1<=dep n ah N q:=by
   cases b
   ·rw[hq];exact h.lo hp
   rw[hq];exact h.hi hp
  have ind:∀x c,S q (aB x d.v c)=S q x:=λx c=>h.bN hl hi VJ.1 (h.var hp) zO x c;obtain⟨x,hx⟩:=hv;have hne:v≠d.v:=λe=>by
   subst e;exact hx (by rw[ind,ind])
  refine⟨aB x d.v b,?_⟩;have e:∀c,S p (aB (aB x d.v b) v c)=S q (aB x v c):=λc=>by
   have tb:(aB (aB x d.v b) v c).testBit d.v=b:=by rw[aj,xac (λe=>hne e.symm),aj,xae rfl]
   rw[hi.node hp,tb,dj (λe=>hne e.symm),<-ind (aB x v c) b,hq];cases b<;>rfl
  rw[e,e];exact hx
 induction hu with
 |base hr=>rw[hr];exact id
 |lo _ he ih=>exact λhv=>ih (step _ _ _ false he rfl hv)
 |hi _ he ih=>exact λhv=>ih (step _ _ _ true he rfl hv)
theorem Mm(h:WF n ah N)(hl:j5 n ah)(hi:Interp N S){r:Nat}(hV:Ot N V)(hr:r<2\/r∈V)(hVR:∀u∈V,Rc N (λq=>q=r) u)(v:Nat):cC (S r) v↔∃u∈V,∃d,N u=some d/\d.v=v:=by
 constructor
 ·rintro⟨x,hx⟩;refine xaK λhno=>hx (Ml h hl hi hV (λu hu d hd e=>hno ⟨u,hu,d,hd,e⟩) _ r (xaj _) hr x)
 rintro⟨u,hu,d,hd,rfl⟩;exact(hVR u hu).cC h hl hi (gm h hl hi hd)
end aA
set_option maxRecDepth 100000
namespace Go.Proofs
open Go Go.Sx Tryz
section
open aA
section
variable {kp mb b7 b1 b3 Bq T5:Nat} {cap:Array zV} {K:Kd} {S:Nat->aA.Fn} {ord ah tr:zL} {C Z:Hp} {P:zL->Hp->Prop}
def yI(V:zL):List (Nat×Unit):=V.map λr=>(r,())
theorem ve{V:zL}{r:Nat}:aJ (yI V) r=if r∈V then some ()else none:=by
 unfold yI;induction V with
 |nil=>rfl
 |cons a V ih=>
  unfold aJ at*;rw[xay,xbv];by_cases e:a=r
  ·subst e;simp
  simp only[e,xdp];rw[ih];have:(r∈a::V)↔r∈V:=by simp[xa9 e]
  by_cases hv:r∈V
  ·rw[xae hv,xae (this.2 hv)]
  rw[xac hv,xac λh=>hv (this.1 h)]
theorem Ql{V:zL}{r:Nat}(h:r∉V):dX (yI V) r ()=yI (V++[r]):=by
 unfold dX yI;rw[xac (by rw[xbM];simpa using h),xaE];rfl
abbrev Er(es:Array MapEntry)(ck:Nat)(V:zL):Prop:=aD kr (λv (_:Unit)=>v=i64 1) es ck (yI V)
structure Walk(K:Kd)(V V':zL)(r:Nat):Prop where
 nd:V'.Nodup
 sub:∀u∈V,u∈V'
 has:r<2\/r∈V'
 shut:∀u∈V',u∉V->∃d,K.N u=some d/\(d.lo<2\/d.lo∈V')/\(d.hi<2\/d.hi∈V')
 rc:∀u∈V',u∉V->Rc K.N (λq=>q=r) u
def W0(T5:Nat)(cap:Array zV)(K:Kd)(P:zL->Hp->Prop):Prop:=aT zQ T5=true/\∀(V:zL) (r:Nat) (d:Nd) (G:Hp),K.N r=some d->P V G->Fc zQ T5 (#[.agg (bu d).toArray]++cap) G (λv G'=>v=.tuple #[]/\P (V++[r]) G')
theorem yK{N:eA}{r q u:Nat}(h1:Rc N (λx=>x=r) q)(h2:Rc N (λx=>x=q) u):Rc N (λx=>x=r) u:=by
 induction h2 with
 |base e=>rw[e];exact h1
 |lo _ hd ih=>exact .lo ih hd
 |hi _ hd ih=>exact .hi ih hd
theorem Ue(h:cc kp K S ord ah tr C)(hd:W0 T5 cap K P)(h7:(b7,Obj.cells #[.map (some mb)] 351 zZ)∈Z)(h1:(b1,Obj.cells #[ptr kp] 85 zZ)∈Z)(h3:(b3,Obj.cells #[.func (.func T5) #[] cap] 267 zZ)∈Z)
 (h10:(Bq,Obj.cells #[.func (.func 291) #[] #[ptr b7,ptr b1,ptr b3,ptr Bq]] 261 zZ)∈Z):
  ∀(k r:Nat) (es:Array MapEntry) (ck:Nat) (V:zL) (G:Hp),K.n-dep K.n (lv ah) K.N r<=k->live K.N r->V.Nodup->Er es ck V->P V G->
  Fc zQ 291 #[u32 r,ptr b7,ptr b1,ptr b3,ptr Bq] ((mb,.map es ck)::(G++(Z++C))) (λv H=>v=.tuple #[]/\∃es' bB V' G',H=(mb,.map es' bB)::(G'++(Z++C))/\Er es' bB V'/\P V' G'/\Walk K V V' r):=by
 have stop:∀{r:Nat} {es:Array MapEntry} {ck:Nat} {V:zL} {G:Hp},V.Nodup->Er es ck V->P V G->(r<2\/r∈V)->
   Fc zQ 291 #[u32 r,ptr b7,ptr b1,ptr b3,ptr Bq] ((mb,.map es ck)::(G++(Z++C))) (λv H=>v=.tuple #[]/\∃es' bB V' G',H=(mb,.map es' bB)::(G'++(Z++C))/\Er es' bB V'/\P V' G'/\Walk K V V' r):=by
  intro r es ck V G fc hE hP hr;refine aE λg=>xy (aa.eq (pe r _) (dc.or (a:=decide (r<2)) (decide (r∈V)) (λ_=>?_) rfl λ_=>?_))
  ·refine Ld.mk (v:=.map (some mb)) (.tail _ (xab _ (xad _ h7))) rfl ?_;by_cases hm:r∈V
   ·refine hE.hit (k:=r) cY (b:=mb) (by exact .head _) (by rw[ve,xae hm]) λv e=>?_;subst e;exact ae.gtr ⟨rfl,by rw[xan hm];rfl⟩
   refine hE.bM (k:=r) cY (b:=mb) (by exact .head _) (by rw[ve,xac hm]) ?_;exact ae.gtr ⟨rfl,by rw[xal hm];rfl⟩
  rw[<-xa7,xan hr];refine Br.yes (aM.mk (.refl _) ⟨rfl,es,ck,V,G,rfl,hE,hP,⟨fc,λ_ h=>h,hr,λu h h'=>absurd h h',λu h h'=>absurd h h'⟩⟩)
 intro k;induction k with
 |zero=>
  intro r es ck V G hk hr fc hE hP;refine stop fc hE hP (.inl ?_);cases hN:K.N r with
  |some d=>
   rw[an hN]at hk;have:=h.ok.lv.lt _ (h.ok.mid.var hN);omega
  |none=>
   rcases hr with hr|⟨d,e⟩
   ·exact hr
   rw[hN]at e;cases e
 |succ k ih=>
  intro r es ck V G hk hr fc hE hP;by_cases hs:r<2\/r∈V
  ·exact stop fc hE hP hs
  have qt:¬r<2:=λh=>hs (.inl h);have YQ:r∉V:=λh=>hs (.inr h);obtain⟨d,hN⟩:∃d,K.N r=some d:=by
   rcases hr with hr|hr
   ·omega
   exact hr
  have hlo:=h.ok.wf.lo hN;have hhi:=h.ok.wf.hi hN;rw[an hN]at hk;have hvl:=h.ok.lv.lt _ (h.ok.mid.var hN);refine aE λg=>xy (aa.eq (pe r _) (dc.or (a:=decide (r<2)) false (λ_=>?_) rfl λ_=>?_))
  ·refine Ld.mk (v:=.map (some mb)) (.tail _ (xab _ (xad _ h7))) rfl ?_;refine hE.bM (k:=r) cY (b:=mb) (by exact .head _) (by rw[ve,xac YQ]) ?_;exact ae.gtr ⟨rfl,rfl⟩
  rw[xal qt];refine Br.no (Ld.mk (v:=.map (some mb)) (.tail _ (xab _ (xad _ h7))) rfl ?_);refine hE.br (k:=r) (b:=mb) (x:=()) cY gN rfl λkx jN Gb=>⟨_,.head _,?_⟩;rw[Ql YQ]at Gb;refine Ld.mk (v:=ptr kp) (.tail _ (xab _ (xad _ h1))) rfl ?_;refine aa.eq (args:=#[ptr kp,u32 r]) (wK h hN) λg8 _=>?_;refine St.p (fC d) ?_;refine Ld.mk (v:=.func (.func T5) #[] cap) (.tail _ (.tail _ (xab _ (xad _ h3)))) rfl ?_;refine ay.q ?_;refine aF.of rfl hd.1 (aa.fn (.cons (.cons .left)) (by simpa using hd.2 V r d G hN hP) ?_);rintro v G1 ⟨rfl,hP1⟩;refine Ld.mk (v:=.func (.func 291) #[] #[ptr b7,ptr b1,ptr b3,ptr Bq]) (.tail _ (.tail _ (xab _ (xad _ h10)))) rfl ?_;refine Ld.f (v:=u32 d.lo) (aF.of rfl zK ?_);have afs:(V++[r]).Nodup:=xa4.2 ⟨fc,by simp,λa ha b hb e=>YQ (by rw[xaG.1 hb]at e;rwa [<-e])⟩;refine aa.fq (args:=#[u32 d.lo,ptr b7,ptr b1,ptr b3,ptr Bq]) (ih d.lo kx jN (V++[r]) G1 zO hlo.1 afs Gb hP1) ?_;rintro v H ⟨rfl,gR,iF,V2,G2,rfl,sO,hP2,w2⟩;refine Ld.mk (v:=.func (.func 291) #[] #[ptr b7,ptr b1,ptr b3,ptr Bq]) (.tail _ (.tail _ (xab _ (xad _ h10)))) rfl ?_;refine Ld.f (v:=u32 d.hi) (aF.of rfl zK (aa.fq (args:=#[u32 d.hi,ptr b7,ptr b1,ptr b3,ptr Bq]) (ih d.hi gR iF V2 G2 zO hhi.1 w2.nd sO hP2) ?_));rintro v H ⟨rfl,o7,qM,V3,G3,rfl,Ps,hP3,w3⟩;have r2:r∈V2:=w2.sub r zI;refine aM.mk .tail ⟨rfl,o7,qM,V3,G3,rfl,Ps,hP3,⟨w3.nd,λu hu=>w3.sub u (w2.sub u (xad _ hu)),.inr (w3.sub r r2),λu hu hn=>?_,λu hu hn=>?_⟩⟩
  ·by_cases VB:u∈V2
   ·by_cases F0:u∈V++[r]
    ·rcases xao.1 F0 with h'|h'
     ·exact absurd h' hn
     rw[xaG.1 h'];exact⟨d,hN,w2.has.imp id (w3.sub _),w3.has⟩
    obtain⟨e,he,a,b⟩:=w2.shut u VB F0;exact⟨e,he,a.imp id (w3.sub _),b.imp id (w3.sub _)⟩
   exact w3.shut u hu VB
  by_cases VB:u∈V2
  ·by_cases F0:u∈V++[r]
   ·rcases xao.1 F0 with h'|h'
    ·exact absurd h' hn
    exact .base (xaG.1 h')
   exact yK (Rc.lo (.base rfl) hN) (w2.rc u VB F0)
  exact yK (Rc.hi (.base rfl) hN) (w3.rc u hu VB)
theorem Eb(h:cc kp K S ord ah tr C)(hd:W0 T5 cap K P){r b:Nat}{X G:Hp}(hr:live K.N r)(hP:P [] G)(hm:(b,Obj.cells (ax .u32 [(r:Int)]) 110 zZ)∈X):
  Fc zQ 206 #[ptr kp,.slice (some ⟨b,0,none⟩) 1 1,.func (.func T5) #[] cap] (G++(X++C)) (λv H=>v=.tuple #[]/\∃V G',H=G'++(X++C)/\P V G'/\V.Nodup/\Ot K.N V/\(r<2\/r∈V)/\∀u∈V,Rc K.N (λq=>q=r) u):=by
 refine aE λg=>Jf λb1 _ b3 _ mb _ b7 _=>?_;refine St.one (c':=#[.map (some mb)]) (by exact .head _) rfl zI rfl ?_;intro Bq _;refine St.one (c':=#[.func (.func 291) #[] #[ptr b7,ptr b1,ptr b3,ptr Bq]]) (by exact .head _) rfl zI rfl ?_;refine aR.mk ?_;obtain⟨Z,hZ⟩:∃Z:Hp,Z=(Bq,Obj.cells #[.func (.func 291) #[] #[ptr b7,ptr b1,ptr b3,ptr Bq]] 261 zZ)::(b7,.cells #[.map (some mb)] 351 zZ)::(b3,.cells #[.func (.func T5) #[] cap] 267 zZ)::(b1,.cells #[ptr kp] 85 zZ)::X:=⟨_,rfl⟩;have Pm:∀(e:Obj),List.Perm ((Bq,Obj.cells #[.func (.func 291) #[] #[ptr b7,ptr b1,ptr b3,ptr Bq]] 261 zZ)::(b7,.cells #[.map (some mb)] 351 zZ)::(mb,e)::(b3,.cells #[.func (.func T5) #[] cap] 267 zZ)::(b1,.cells #[ptr kp] 85 zZ)::(G++(X++C))) ((mb,e)::(G++(Z++C))):=λe=>by
  rw[hZ];refine((List.Perm.cons _ (List.Perm.swap _ _ _)).trans (List.Perm.swap _ _ _)).trans (.cons _ ?_);have:∀(a b c d:Nat×Obj),(a::b::c::d::(G++(X++C))).Perm (G++(a::b::c::d::(X++C))):=λa b c d=>by
   have:=(xbb (l₁:=[a,b,c,d]) (l₂:=G)).append_right (X++C);simpa[xai]using this
  exact this _ _ _ _
 refine⟨λvs H=>∃(i:Nat) (es:Array MapEntry) (ck:Nat) (V:zL) (G':Hp),vs=[i64 (i:Int)]/\H=(mb,.map es ck)::(G'++(Z++C))/\Er es ck V/\P V G'/\((i=0/\V=[])\/(i=1/\Walk K [] V r)),λvs _=>1-bJ vs 0,JE.of (.perm (Pm _)) ⟨0,#[],0,[],G,rfl,rfl,aD.empty,hP,.inl ⟨rfl,rfl⟩⟩,?_⟩;rintro w H ⟨i,es,ck,V,G',⟨⟩,rfl,hE,hPV,hi⟩ gs;have mZ:∀{x:Nat×Obj},x∈Z->x∈(mb,Obj.map es ck)::(G'++(Z++C)):=λhx=>.tail _ (xab _ (xad _ hx));rcases hi with⟨rfl,rfl⟩|⟨rfl,hw⟩
 ·refine ae.eZ (b:=1) (Br.T (av.nat zD ?_));refine Ld.mk (v:=u32 r) (mZ (by rw[hZ];exact .tail _ (.tail _ (.tail _ (.tail _ hm))))) rfl ?_;refine Ld.mk (v:=.func (.func 291) #[] #[ptr b7,ptr b1,ptr b3,ptr Bq]) (mZ (by rw[hZ];exact .head _)) rfl ?_;refine aF.of rfl zK (aa.fq (args:=#[u32 r,ptr b7,ptr b1,ptr b3,ptr Bq]) (Ue (Z:=Z) h hd (by rw[hZ];exact .tail _ (.head _)) (by rw[hZ];exact .tail _ (.tail _ (.tail _ (.head _)))) (by rw[hZ];exact .tail _ (.tail _ (.head _))) (by rw[hZ];exact .head _) K.n r es ck [] G' (xdv _ _) hr List.nodup_nil hE hPV) ?_);rintro v H ⟨rfl,gR,iF,V2,G2,rfl,sO,hP2,w2⟩;exact ae.inc (a:=0) (aC.mk ⟨1,gR,iF,V2,G2,rfl,rfl,sO,hP2,.inr ⟨rfl,w2⟩⟩ (by simp only[bJ];decide))
 refine ae.eZ (b:=1) (Br.F (aM.mk ?_ ⟨rfl,V,G',rfl,hPV,hw.nd,λu hu=>hw.shut u hu zI,hw.has,λu hu=>hw.rc u hu zI⟩));rw[hZ];exact .skip (.cU (.skip (.skip (.skip .tail))) _)
theorem Bg(h:cc kp K S ord ah tr C)(b6:Nat):W0 209 #[ptr b6] K (λV G=>∃m:Nat,G=[(b6,.cells #[u64 m] 33 zZ)]/\m<18446744073709551616/\∀v,m.testBit v=true↔∃u∈V,∃d,K.N u=some d/\d.v=v):=by
 refine⟨by kernel_rfl,?_⟩;rintro V r d G hN ⟨m,rfl,hm,hv⟩;have hn:=h.bc.lB;have kY:=h.ok.mid.var hN;refine aE λg=>Jd λb1 _=>?_;refine DR.of (.refl _) (Ld.mk (v:=u64 m) (.tail _ (.head _)) rfl ?_);refine Ld.f (v:=i64 (d.v:Int)) (ae.nL (a:=1) ?_);have e:(1<<<d.v)%18446744073709551616=2^d.v:=by
  rw[xcl,xc2];exact xbi (xaP (xby zD (show d.v<64 by omega)) zD)
 rw[e];have h2:2^d.v<18446744073709551616:=xaP (xby zD (show d.v<64 by omega)) zD;refine ae.K6 (by simpa[bF]using hm) (by simpa[bF]using h2) λF=>?_;refine St.one (c':=#[u64 (m|||2^d.v)]) (by exact .tail (.head _)) rfl zI rfl ?_;refine aM.mk .tail ⟨rfl,_,rfl,xbG (n:=64) hm h2,λv=>?_⟩;rw[xb0,xbt,hv,xbW,xaI];constructor
 ·rintro(⟨u,hu,e,he,Ga⟩|rfl)
  ·exact⟨u,xad _ hu,e,he,Ga⟩
  exact⟨r,by simp,d,hN,rfl⟩
 rintro⟨u,hu,e,he,Ga⟩;rcases xao.1 hu with hu|hu
 ·exact .inl ⟨u,hu,e,he,Ga⟩
 rw[xaG.1 hu,hN]at he;cases he;exact .inr Ga
def WR(f:aA.Fn)(m:Nat):Prop:=m<18446744073709551616/\∀v,m.testBit v=true↔cC f v
theorem D0(h:cc kp K S ord ah tr C){r:Nat}(hr:live K.N r):
  Rd zQ 149 #[ptr kp,u32 r] C (λv=>∃m,WR (S r) m/\v=.tuple #[u64 m,i64 0]):=by
 refine aE λg=>JN (au.int (e:=110) zK zK zK λbx=>?_);refine aa.eh .here (wO (X:=[(bx,_)]) h (by exact .head _) hr) (ae.cL (Br.F λb6 _=>(St.one (c':=#[u64 0]) (by exact .head _) rfl zI rfl ?_)));refine au.int (e:=110) zK zK zK λby'=>?_;refine aa.pre (H':=[(b6,Obj.cells #[u64 0] 33 zZ)]++([(by',Obj.cells (ax .u32 [(r:Int)]) 110 zZ),(bx,Obj.cells (ax .u32 [(r:Int)]) 110 zZ)]++C)) (.perm (.swap _ _ _)) ?_;refine aa.fn .here (Eb (P:=λV G=>∃m:Nat,G=[(b6,.cells #[u64 m] 33 zZ)]/\m<18446744073709551616/\∀v,m.testBit v=true↔∃u∈V,∃d,K.N u=some d/\d.v=v) h (Bg h b6) hr ⟨0,rfl,by decide,λv=>by simp⟩ (by exact .head _)) ?_;rintro v H ⟨rfl,V,G,rfl,⟨m,rfl,hm,hv⟩,fc,hsh,YQ,hrc⟩;refine Ld.q ?_;refine bg.mk (.skip (.skip .tail)) ⟨m,⟨hm,λv=>?_⟩,rfl⟩;rw[hv,Mm h.ok.wf h.ok.lv h.ok.mid.int hsh YQ hrc]
theorem NZ(b4:Nat):W0 207 #[ptr b4] K (λV G=>∃x:Int,G=[(b4,.cells #[i64 x] 3 zZ)]/\(V.length<4611686018427387904->x=V.length)):=by
 refine⟨by kernel_rfl,?_⟩;rintro V r d G hN ⟨x,rfl,hx⟩;refine aE λg=>Je λb1 _=>?_;refine Ld.mk (v:=i64 x) (.tail _ (.head _)) rfl ?_;refine ae.add (St.one (c':=#[i64 (IntKind.i64.wrap (x+1))]) (by exact .tail (.head _)) rfl zI rfl ?_);refine aM.mk .tail ⟨rfl,_,rfl,λhl=>?_⟩;rw[xaf,xcj]at hl⊢;rw[hx zO,wrap_i64 zO];omega
theorem SR(h:cc kp K S ord ah tr C){r b:Nat}{X:Hp}(hr:live K.N r)(hm:(b,Obj.cells (ax .u32 [(r:Int)]) 110 zZ)∈X):
  Rd zQ 147 #[ptr kp,.slice (some ⟨b,0,none⟩) 1 1] (X++C) (· =.tuple #[i64 ((sz K.n ord (λg=>g=S r):Nat):Int),i64 0]):=by
 refine aE λg=>JO (aa.eq (wO (X:=X) h hm hr) (ae.cL (Br.F ?_)));intro b4 _;refine St.one (c':=#[i64 0]) (by exact .head _) rfl zI rfl ?_;refine aa.fn (C:=[(b4,Obj.cells #[i64 0] 3 zZ)]++(X++C)) .here (Eb (P:=λV G=>∃x:Int,G=[(b4,.cells #[i64 x] 3 zZ)]/\(V.length<4611686018427387904->x=V.length)) h (NZ b4) hr ⟨0,rfl,λ_=>rfl⟩ hm) ?_;rintro v H ⟨rfl,V,G,rfl,⟨x,rfl,hx⟩,fc,hsh,YQ,hrc⟩;refine Ld.q ?_;refine bg.mk .tail ?_;have hc:=Uf h.ok.wf h.ok.lv h.od h.ok.mid.int (R:=λq=>q=r) (λq hq=>by rw[hq];exact hr) hsh (λq hq=>by rw[hq];exact YQ) hrc fc;have hlen:V.length<=1048576:=by
  have:∀u∈V,u∈List.range 1048576:=λu hu=>by
   obtain⟨d,hd,_⟩:=hsh u hu;exact xaN.2 (h.bL (.inr ⟨d,hd⟩))
  have:=cu fc this;rwa [xaJ]at this
 rw[hx zO,<-KF hc];have e:Fs S (λq=>q=r)=λg=>g=S r:=funext λg=>propext ⟨λ⟨q,hq,e⟩=>by rw[e,hq],λe=>⟨r,rfl,e⟩⟩;rw[e];rfl
end
end
section
open aA
section
variable {C:Hp}
def Tl(p:Bool)(v:zV):Prop:=∃(n:Nat) (b:Bool),n<18446744073709551616/\v=.agg [u64 n,.bool b].toArray/\(b||decide (n≠0))=p
theorem pW(n:Nat)(b:Bool):∀u∈[u64 n,Value.bool b],u.oneCell'=true:=λu hu=>by
 rcases xak.1 hu with rfl|hu
 ·rfl
 rw[xaG.1 hu];rfl
theorem Tl.no:Tl false (.agg #[u64 0,.bool false]):=⟨0,false,by decide,rfl,rfl⟩
theorem Tl.yes:Tl true (.agg #[u64 1,.bool false]):=⟨1,false,by decide,rfl,rfl⟩
theorem yz{p:Bool}{v:zV}(h:Tl p v):Rd zQ 295 #[v,u64 0] C (· =.bool p):=by
 obtain⟨n,b,hn,rfl,hp⟩:=h;refine aE λg=>Im λb1 _=>?_;refine Ld.f (v:=.bool b) (dc.or (a:=b) (decide (n≠0)) (λ_=>?_) rfl λ_=>?_)
 ·exact Ld.f (v:=u64 n) (ae.ny (b:=0) ⟨rfl,by rw[xcm.2 (show 0<n↔n≠0 by omega)]⟩)
 rw[hp];exact bg.mk .tail rfl
theorem B6{p q:Bool}{v w:zV}(h:Tl p v)(h':Tl q w):Rd zQ 365 #[v,w] C (Tl (p||q)):=by
 obtain⟨n,b,hn,rfl,hp⟩:=h;obtain⟨m,d,hm,rfl,hq⟩:=h';refine aE λg=>Hs λb1 _ b3 _ b5 _=>?_;refine Ld.f (v:=u64 n) (Ld.f (v:=u64 m) (ae.ado (Ld.f (v:=.bool b) (dc.or (a:=b) d (λ_=>?_) rfl λ_=>?_))))
 ·exact Ld.f (v:=.bool d) (⟨rfl,rfl⟩)
 refine dc.or (a:=b||d) (decide ((n+m)%18446744073709551616<n)) (λ_=>?_) rfl λ_=>?_
 ·refine Ld.f (v:=u64 n) (ae.eZ ⟨rfl,rfl⟩)
 refine Build.mk (cs:=[u64 ((n+m)%18446744073709551616),.bool (b||d||decide ((n+m)%18446744073709551616<n))]) zK ?_;refine St.p (r:=[u64 ((n+m)%18446744073709551616),.bool (b||d||decide ((n+m)%18446744073709551616<n))]) (pW _ _) ?_;refine ay.q ?_;refine bg.mk (.skip (.skip .tail)) ⟨_,_,xbC _ zD,rfl,?_⟩;rw[<-hp,<-hq];cases b<;>cases d<;>simp only[Bool.true_or,xdJ,xdy];rw[<-xa7,<-xa7];exact xcm.2 zO
theorem Mv{p:Bool}{v:zV}(h:Tl p v)(k:Nat):Rd zQ 363 #[v,i64 (k:Int)] C (Tl p):=by
 obtain⟨n,b,hn,rfl,hp⟩:=h;refine aE λg=>Ht λb1 _ b3 _=>?_;refine ae.eR (b:=0) (dc.or (a:=decide (k=0)) (decide (n=0)) (λ_=>?_) rfl λ_=>?_)
 ·exact Ld.f (v:=u64 n) (ae.eR (b:=0) ⟨rfl,rfl⟩)
 refine Br.mk (λhb=>?_) (λhb=>?_)
 ·refine ay.whole (r:=[u64 n,.bool b]) (T:=356) (fz:=(0,0)) (by exact .tail _ (.head _)) rfl ?_;refine St.p (r:=[u64 n,.bool b]) (pW _ _) ?_;refine ay.q ?_;exact bg.mk (.skip .tail) ⟨n,b,hn,rfl,hp⟩
 rw[<-xa7]at hb;have hb:=xdh hb;refine Ld.f (v:=u64 n) (ae.nL λJ h17=>?_);have fin:∀x:Bool,(x||decide ((n<<<k)%18446744073709551616≠0))=true->J [] ((b3,.cells [u64 ((n<<<k)%18446744073709551616),.bool x].toArray 356 zZ)::(b1,.cells (Value.cells (.agg [u64 n,.bool b].toArray)) 356 zZ)::C):=λx hx=>h17 _ λ_=>by
  refine ay.q ?_;refine bg.mk (.skip .tail) ⟨_,x,xbC _ zD,rfl,?_⟩;rw[hx,<-hp];have:decide (n≠0)=true:=xan zO;rw[this,xdJ]
 refine DR.of (.refl _) (ae.eR (b:=0) (Br.mk (λhz=>?_) (λhz=>?_)))
 ·refine Build.mk (cs:=[u64 ((n<<<k)%18446744073709551616),.bool true]) zK λF=>?_;exact St.p (r:=[u64 ((n<<<k)%18446744073709551616),.bool true]) (pW _ _) (JE.mk (fin true rfl))
 refine ae.iM (xbC _ zD) (Ld.f (v:=u64 n) (ae.AQ (aL.mk (Build.mk (cs:=[u64 ((n<<<k)%18446744073709551616),.bool (decide (((n<<<k)%18446744073709551616)>>>k≠n))]) zK λF=>?_))));refine St.p (r:=[u64 ((n<<<k)%18446744073709551616),.bool (decide (((n<<<k)%18446744073709551616)>>>k≠n))]) (pW _ _) (JE.mk (fin _ ?_));rw[xan (p:=(n<<<k)%18446744073709551616≠0) (xdh hz),xdJ]
end
section
variable {kp d nm n f F V:Nat} {kg:zV} {K:Kd} {S:Nat->aA.Fn} {ord ah tr:zL} {C Z:Hp}
abbrev EP(n f nm:Nat)(kg:zV)(F V:Nat):Array zV:=#[i64 (n:Int),u32 f,.map (some nm),kg,u64 F,u64 V]
theorem Kz{v b:Nat}(hl:kg.oneCell'=true)(hv:v<64)(hb:b<=1)(hF:F<18446744073709551616)(hV:V<18446744073709551616):
  Fc zQ 296 #[ptr d,i64 (v:Int),u64 b] ((d,.cells (EP n f nm kg F V) 361 zZ)::C) (λw H=>w=.tuple #[]/\∃F' V',H=(d,.cells (EP n f nm kg F' V') 361 zZ)::C/\F'<18446744073709551616/\V'<18446744073709551616/\
   (∀j,F'.testBit j=(F.testBit j||decide (j=v)))/\∀j,V'.testBit j=if j=v then decide (b=1)else V.testBit j):=by
 have e1:(1<<<v)%18446744073709551616=2^v:=by
  rw[xcl,xc2];exact xbi (xaP (xby zD hv) zD)
 have h2:2^v<18446744073709551616:=xaP (xby zD hv) zD;have eb:(b<<<v)%18446744073709551616=b*2^v:=by
  rw[xcl];refine xbi (xaA (xaW _ hb) zO)
 have tF:b*2^v<18446744073709551616:=xaA (xaW _ hb) zO;have hVa:m8 V (2^v)<18446744073709551616:=xaA (m7 _ _) hV;refine aE λg=>Il (DR.of (.refl _) (Ld.n (v:=u64 F) ?_));refine ae.nL (a:=1) ?_;rw[e1];refine ae.K6 (by simpa[bF]using hF) (by simpa[bF]using h2) (.ptr (.mk ?_));intro G;refine St.one (c':=EP n f nm kg (F|||2^v) V) (.head _) rfl zI rfl ?_;refine DR.of (.refl _) (Ld.n (v:=u64 V) (ae.nL (a:=1) ?_));rw[e1];refine ae.Ei (by simpa[bF]using hV) (by simpa[bF]using h2) (ae.nL ?_);rw[eb];refine ae.K6 (by simpa[bF]using hVa) (by simpa[bF]using tF) (.ptr (.mk ?_));intro G;refine St.one (c':=EP n f nm kg (F|||2^v) (m8 V (2^v)|||b*2^v)) (.head _) rfl zI rfl ?_;refine aM.mk (.refl _) ⟨rfl,_,_,rfl,xbG (n:=64) hF h2,xbG (n:=64) hVa tF,λj=>?_,λj=>?_⟩
 ·rw[xb0,xbW];congr 1;exact xcm.2 eq_comm
 rw[xb0,dF,xbW];have:b=0\/b=1:=by omega
 by_cases e:j=v
 ·rw[xae e,e,xan rfl];rcases this with rfl|rfl
  ·simp
  simp[xbW]
 rw[xac e,xal (xa9 e)];rcases this with rfl|rfl
 ·simp
 rw[xc2,xbW,xal (xa9 e)];simp
structure Fal(n:Nat)(ns:zL):Prop where
 len:ns.length=n+1
 le:∀a,a<=n->ns.getD a 0<=n+1
 step:∀a,a<n->ns.getD (a+1) 0<=ns.getD a 0
theorem Fal.mono{ns:zL}(h:Fal n ns){a:Nat}:∀k,a+k<=n->ns.getD (a+k) 0<=ns.getD a 0
 |0,_=>xaj _
 |k+1,hk=>xbw (h.step (a+k) zO) (Fal.mono h k zO)
theorem PI{ls:zL}(hd:(d,Obj.cells (EP n f nm kg F V) 361 zZ)∈Z)(hL:dk .i64 Z kg (iw ls))(hlen:ls.length=n)(hn:n<=64)(hlt:∀l∈ls,l<n)(hF:F<18446744073709551616):
  Fc zQ 360 #[ptr d] Z (λv H=>∃b ns,Fal n ns/\v=.slice (some ⟨b,0,none⟩) (n+1) (n+1)/\H=(b,.cells (ax .i64 (iw ns)) 3 zZ)::Z):=by
 refine aE λg=>Hw (Ld.v hd ?_);refine ae.inc (cV.ints zO zO λb=>?_);refine Ld.v (.tail _ hd) ?_;refine hL.bP ?_;rw[aq,hlen];have z0:List.replicate (n+1) (0:Int)=iw (List.replicate (n+1) 0):=by simp[iw]
 rw[z0];refine⟨λvs H=>∃(j:Nat) (ns:zL),vs=[i64 (j:Int)]/\j<=n/\H=(b,.cells (ax .i64 (iw ns)) 3 zZ)::Z/\ns.length=n+1/\∀a,ns.getD a 0<=1,λvs _=>n-bJ vs 0,JE.mk ⟨0,_,rfl,by omega,rfl,by simp,λa=>?_⟩,?_⟩
 ·by_cases ha:a<n+1
  ·simp[List.getD,ha]
  simp[List.getD,ha]
 rintro w H ⟨j,ns,⟨⟩,hj,rfl,Nu,h1⟩ gs;refine ae.eZ (Br.dec (λfk=>?_) (λhge=>?_))
 ·intro J hJ;have back:∀ns':zL,ns'.length=n+1->(∀a,ns'.getD a 0<=1)->J [] ((b,.cells (ax .i64 (iw ns')) 3 zZ)::Z):=λns' hl' sP=>hJ _ λ_=>by
   exact ae.inc (aC.mk ⟨j+1,ns',rfl,by omega,rfl,hl',sP⟩ (by simp only[bJ];omega))
  have hlj:j<ls.length:=by omega
  refine hL.ld (cP (xaa hlj)) (λ_ h=>.tail _ h) ?_;refine Ld.v (.tail _ hd) ?_;refine ae.iM (by simpa[bF]using hF) (ae.jF (by simp[bF];exact xaA (xbl _ _) hF) zD (ae.eR (b:=0) (Br.mk (λ_=>?_) (λ_=>JE.mk (back ns Nu h1)))));have hlv:=hlt ls[j] (xaB hlj);refine av.nat zO ?_;refine St.ints (.head _) (by rw[aq];omega) ?_;rw[show((1:Int))=((1:Nat):Int)from rfl,fi];refine JE.mk (back _ (by simpa using Nu) λa=>?_);rw[List.getD,xbn];split
  ·split
   ·exact xaj _
   exact xaM _
  exact h1 a
 refine Ld.v (.tail _ hd) ?_;refine ae.lj (c:=(n:Int) -1) rfl zO ?_;refine⟨λvs H=>∃(j:Nat) (ns:zL),vs=[i64 ((j:Int) -1)]/\j<=n/\H=(b,.cells (ax .i64 (iw ns)) 3 zZ)::Z/\ns.length=n+1/\(∀a,a<j->ns.getD a 0<=1)/\(∀a,j<=a->a<=n->ns.getD a 0<=n+1-a)/\∀a,j<=a->a<n->ns.getD (a+1) 0<=ns.getD a 0,
  λvs _=>match vs with| [.int _ q]=>(q+1).toNat|_=>0,JE.mk ⟨n,ns,rfl,xaj _,rfl,Nu,λa _=>h1 a,λa h h'=>xbw (h1 a) zO,λa h h'=>by omega⟩,?_⟩
 rintro w H ⟨j,ns,⟨⟩,hj,rfl,Nu,g1,g2,g3⟩ gs;refine ae.geq (Br.dec (λhge=>?_) (λfk=>?_))
 ·obtain⟨i,rfl⟩:∃i,j=i+1:=⟨j-1,by omega⟩;have ei:(((i+1:Nat):Int) -1)=(i:Int):=by omega
  rw[ei];refine DR.of (.refl _) ?_;have hB:dk .i64 ((b,Obj.cells (ax .i64 (iw ns)) 3 zZ)::Z) (.slice (some ⟨b,0,none⟩) (iw ns).length (n+1)) (iw ns):=dk.block (.head _) (by rw[aq];omega);rw[aq,Nu]at hB;have a1:=g1 i zO;have a2:=g2 (i+1) zO zO;refine hB.ld (bH zO) (λ_ h=>h) (ae.inc (hB.ld (bH zO) (λ_ h=>h) (ae.fH (av.nat zO ?_))));intro G;refine St.ints (.head _) (by rw[aq];omega) ?_;rw[fi];refine ae.lj (c:=(i:Int) -1) rfl zO ?_;have get:∀a,(ns.set i (ns.getD i 0+ns.getD (i+1) 0)).getD a 0=if a=i then ns.getD i 0+ns.getD (i+1) 0 else ns.getD a 0:=λa=>by
   rw[List.getD,xbn];by_cases e:i=a
   ·rw[xae e,xae zO,xae e.symm];rfl
   rw[xac e,xac (xa9 e)];rfl
  refine aC.mk ⟨i,_,rfl,by omega,rfl,by simpa using Nu,λa ha=>?_,λa ha hn'=>?_,λa ha hn'=>?_⟩ ?_
  ·rw[get,xac zO];exact g1 a zO
  ·rw[get];split
   ·subst a;omega
   exact g2 a zO hn'
  ·rw[get,get];rw[xac (show a+1≠i by omega)];split
   ·subst a;omega
   exact g3 a zO hn'
  show((i:Int) -1+1).toNat<((i:Int)+1).toNat;omega
 obtain rfl:j=0:=by omega
 exact aM.mk (.refl _) ⟨b,ns,⟨Nu,λa ha=>xbw (g2 a (xaM _) ha) zO,λa ha=>g3 a (xaM _) ha⟩,rfl,rfl⟩
end
section
variable {d0 b1 b8 k6 wU ux EL bf kb nm n f F V BU:Nat} {kg:zV} {K:Kd} {S:Nat->aA.Fn} {ah ls ns:zL} {BT:Array MapEntry} {m:List (Nat×Nd)} {Z:Hp}
def ag(n F V x:Nat):Prop:=∀j,j<n->F.testBit j=true->x.testBit j=V.testBit j
noncomputable def qT(n F V:Nat)(g:aA.Fn):Bool:= @decide (∃x,ag n F V x/\g x=true) (Classical.propDecidable _)
theorem qh{g:aA.Fn}:qT n F V g=true↔∃x,ag n F V x/\g x=true:= @decide_eq_true_iff _ (Classical.propDecidable _)
theorem UO:qT n F V (λ_=>false)=false:=by
 cases h:qT n F V (λ_=>false)with
 |false=>rfl
 |true=>obtain⟨x,_,e⟩:=qh.1 h;cases e
theorem Yh:qT n F V (λ_=>true)=true:=qh.2 ⟨V,λ_ _ _=>rfl,rfl⟩
theorem zY(h:Ok K S (lv ah)){r:Nat}{d:Nd}(hN:K.N r=some d)(x:Nat)(b:Bool):S d.lo (ak.aB x d.v b)=S d.lo x/\S d.hi (ak.aB x d.v b)=S d.hi x:=by
 have e (c:Bool):=(gi h.wf h.lv h.mid.int (r:=r) (.inr ⟨d,hN⟩) (h.mid.var hN) (by rw[an hN];exact xaj _) c);have e1:=e false;have e2:=e true;rw[(kK hN).1]at e1;rw[(kK hN).2]at e2;constructor
 ·rw[e1.1,e1.1,aA.oE]
 rw[e2.1,e2.1,aA.oE]
theorem UP(h:Ok K S (lv ah)){r:Nat}{d:Nd}(hN:K.N r=some d):
  qT K.n F V (S r)=((!F.testBit d.v|| !V.testBit d.v) &&qT K.n F V (S d.lo)||(!F.testBit d.v||V.testBit d.v) &&qT K.n F V (S d.hi)):=by
 have nd:=h.mid.int.node hN;have put:∀(x:Nat) (b:Bool),ag K.n F V x->(F.testBit d.v=true->V.testBit d.v=b)->ag K.n F V (ak.aB x d.v b):=λx b hx hb j hj hF=>by
  rw[ak.aj];split
  ·subst j;exact(hb hF).symm
  exact hx j hj hF
 have hv:=h.mid.var hN;rw[xbS,xbt,xaH,xaH,qh,qh,qh];constructor
 ·rintro⟨x,hx,hS⟩;have q:=nd x;have hxv:=hx d.v hv;cases hb:x.testBit d.v with
  |true=>
   rw[hb,xae rfl]at q;refine .inr ⟨?_,x,hx,by rw[<-q];exact hS⟩;cases hF:F.testBit d.v
   ·rfl
   rw[<-hxv hF,hb];rfl
  |false=>
   rw[hb,xac zD]at q;refine .inl ⟨?_,x,hx,by rw[<-q];exact hS⟩;cases hF:F.testBit d.v
   ·rfl
   rw[<-hxv hF,hb];rfl
 rintro(⟨hc,x,hx,hS⟩|⟨hc,x,hx,hS⟩)
 ·refine⟨ak.aB x d.v false,put x false hx λhF=>?_,?_⟩
  ·rw[hF]at hc;simpa using hc
  rw[nd,ak.aj,xae rfl,xac zD,(zY h hN x false).1];exact hS
 refine⟨ak.aB x d.v true,put x true hx λhF=>?_,?_⟩
 ·rw[hF]at hc;simpa using hc
 rw[nd,ak.aj,xae rfl,xae rfl,(zY h hN x true).2];exact hS
abbrev Ou(es:Array MapEntry)(ck:Nat)(m:List (Nat×Nd)):Prop:=aD kr (λv (d:Nd)=>v=.agg (bu d).toArray) es ck m
structure WQ(K:Kd)(S:Nat->aA.Fn)(ah ls:zL)(m:List (Nat×Nd))(n f F V d0 b1 nm:Nat)(kg:zV)(BT:Array MapEntry)(BU:Nat)(Z:Hp):Prop where
 ok:Ok K S (lv ah)
 lB:K.n<=64
 hn:n=K.n
 d:(d0,Obj.cells (EP n f nm kg F V) 361 zZ)∈Z
 hnm:(nm,Obj.map BT BU)∈Z
 dD:Ou BT BU m
 cov:∀u e,Rc K.N (λq=>q=f) u->K.N u=some e->aJ m u=some e
 L:dk .i64 Z kg (iw ls)
 get:∀v,v<n->ls[v]? =some (lv ah v)
 F64:F<18446744073709551616
 V64:V<18446744073709551616
structure TcH(n d0 b1 b8 k6 wU ux EL bf kb:Nat)(ns:zL)(Z:Hp):Prop where
 h1:(b1,Obj.cells #[ptr d0] 353 zZ)∈Z
 h8:(b8,Obj.cells #[.slice (some ⟨bf,0,none⟩) (n+1) (n+1)] 43 zZ)∈Z
 hf:(bf,Obj.cells (ax .i64 (iw ns)) 3 zZ)∈Z
 h17:(k6,Obj.cells #[.map (some kb)] 419 zZ)∈Z
 h20:(wU,Obj.cells #[.func (.func 361) #[] #[ptr b1]] 260 zZ)∈Z
 h23:(ux,Obj.cells #[.func (.func 364) #[] #[ptr k6,ptr b1,ptr EL]] 420 zZ)∈Z
 h25:(EL,Obj.cells #[.func (.func 362) #[] #[ptr ux,ptr b8,ptr wU]] 422 zZ)∈Z
 fal:Fal n ns
theorem Mn(h:WQ K S ah ls m n f F V d0 b1 nm kg BT BU Z)(h1:(b1,Obj.cells #[ptr d0] 353 zZ)∈Z){r:Nat}(hr:live K.N r)(hR:Rc K.N (λq=>q=f) r):
  Rd zQ 361 #[u32 r,ptr b1] Z (· =i64 ((dep K.n (lv ah) K.N r:Nat):Int)):=by
 refine aE λg=>Hv (ae.BH (b:=1) (Br.dec (λh2=>?_) (λh2=>?_)))
 ·refine Ld.mk h1 rfl ?_;refine Ld.v (v:=i64 (n:Int)) h.d ?_;refine bg.mk (.refl _) ?_;have h0:K.N r=none:=by
   cases hN:K.N r with
   |none=>rfl
   |some d=>have:=h.ok.mid.two hN;omega
  rw[aU h0,h.hn]
 obtain⟨d,hN⟩:∃d,K.N r=some d:=by
  rcases hr with hr|hr
  ·omega
  exact hr
 have kY:=h.ok.mid.var hN;refine Ld.mk h1 rfl ?_;refine Ld.v h.d ?_;refine Ld.mk h1 rfl ?_;refine Ld.v h.d ?_;refine h.dD.hit (k:=r) cY (b:=nm) h.hnm (h.cov r d hR hN) λv e=>?_;subst e;refine An.mk (off:=0) (cs:=(bu d).toArray) (v:=i64 (d.v:Int)) rfl ?_;refine h.L.ld (cP (h.get d.v (by rw[h.hn];exact kY))) (λ_ h=>h) ?_;refine bg.mk (.refl _) ?_;rw[an hN]
structure KnT(q:Nat->Bool)(es:Array MapEntry)(ck:Nat)(mm:List (Nat×Bool)):Prop where
 dD:aD kr (λv (x:Bool)=>Tl x v) es ck mm
 val:∀r x,aJ mm r=some x->x=q r
 low:∀r,r<2->aJ mm r≠none
abbrev W4(q:Nat->Bool)(kb:Nat)(Z:Hp)(r:Nat):zV->Hp->Prop:=λv H=>Tl (q r) v/\∃es' bB U9,H=(kb,.map es' bB)::Z/\KnT q es' bB U9
theorem oC{p:Bool}{v:zV}(h:Tl p v):∃r:List zV,v=.agg r.toArray/\r.length=2/\∀u∈r,u.oneCell'=true:=by
 obtain⟨n,b,_,rfl,_⟩:=h;exact⟨_,rfl,rfl,pW _ _⟩
theorem r7(h:WQ K S ah ls m n f F V d0 b1 nm kg BT BU Z)(t:TcH n d0 b1 b8 k6 wU ux EL bf kb ns Z){q:Nat->Bool}{r l:Nat}(hr:live K.N r)(hR:Rc K.N (λq=>q=f) r)(hl:l<=dep K.n (lv ah) K.N r){es:Array MapEntry}{ck:Nat}
 (hc:Fc zQ 364 #[u32 r,ptr k6,ptr b1,ptr EL] ((kb,.map es ck)::Z) (W4 q kb Z r)):
  Fc zQ 362 #[u32 r,i64 (l:Int),ptr ux,ptr b8,ptr wU] ((kb,.map es ck)::Z) (W4 q kb Z r):=by
 have hdl:=h.ok.wf.iE h.ok.lv r;have BL:=t.fal.len;have hB:dk .i64 Z (.slice (some ⟨bf,0,none⟩) (iw ns).length (n+1)) (iw ns):=dk.block t.hf (by rw[aq];omega);rw[aq,BL]at hB;have hn':=h.hn;have abS:=t.fal.mono (a:=l) (dep K.n (lv ah) K.N r-l) zO;rw[show l+(dep K.n (lv ah) K.N r-l)=dep K.n (lv ah) K.N r by omega]at abS;have hle:=t.fal.le l zO;have sL:=h.lB;refine aE λg=>Hu λc1 _=>?_;refine DR.of (R:=Z) (.skip .tail) (Ld.mk t.h23 rfl ?_);refine Ld.mk t.h8 rfl ?_;refine hB.ld (bH zO) (λ_ h=>h) (Ld.mk t.h8 rfl ?_);refine Ld.mk t.h20 rfl ?_;intro G;refine aF.of rfl zK (aa.fq (args:=#[u32 r,ptr k6,ptr b1,ptr EL]) hc ?_);rintro v1 H ⟨hv1,kx,jN,mm1,rfl,uj⟩;refine⟨.skip .tail,Z,.skip .tail,.refl _,?_⟩;intro G;refine aF.of rfl zK (aa.eq (args:=#[u32 r,ptr b1]) (Mn (Z:=Z) h t.h1 hr hR) (⟨.skip .tail,Z,.skip .tail,.refl _,?_⟩));refine hB.ld (bH zO) (λ_ h=>h) (ae.bY λG=>(aa.rq (Mv (C:=Z) hv1 _) ?_));intro v2 hv2;intro G;have ae7:=hv2;obtain⟨rr,rfl,xP,Pw⟩:=oC hv2;refine St.p (r:=rr) Pw ?_ (hr:=xP);refine ay.q ?_ (hr:=xP);exact aM.mk .tail ⟨ae7,kx,jN,mm1,rfl,uj⟩
end
section
variable {d0 b1 b8 k6 wU ux EL bf kb nm n f F V BU:Nat} {kg:zV} {K:Kd} {S:Nat->aA.Fn} {ah ls ns:zL} {BT:Array MapEntry} {m:List (Nat×Nd)} {Z:Hp}
theorem vA(a k:Nat):decide ((a>>>k)%2=0)= !a.testBit k:=by
 rw[<-Bh];have:=Nat.mod_two_eq_zero_or_one (a>>>k);rcases this with e|e<;>rw[e]<;>rfl
theorem Mo(h:WQ K S ah ls m n f F V d0 b1 nm kg BT BU Z)(t:TcH n d0 b1 b8 k6 wU ux EL bf kb ns Z):
  ∀(k r:Nat) (es:Array MapEntry) (ck:Nat) (mm:List (Nat×Bool)),K.n-dep K.n (lv ah) K.N r<=k->live K.N r->Rc K.N (λq=>q=f) r->KnT (λr=>qT K.n F V (S r)) es ck mm->
  Fc zQ 364 #[u32 r,ptr k6,ptr b1,ptr EL] ((kb,.map es ck)::Z) (W4 (λr=>qT K.n F V (S r)) kb Z r):=by
 have hit:∀{r:Nat} {es:Array MapEntry} {ck:Nat} {mm:List (Nat×Bool)} {x:Bool},KnT (λr=>qT K.n F V (S r)) es ck mm->aJ mm r=some x->
   Fc zQ 364 #[u32 r,ptr k6,ptr b1,ptr EL] ((kb,.map es ck)::Z) (W4 (λr=>qT K.n F V (S r)) kb Z r):=by
  intro r es ck mm x hm hv;refine aE λg=>xj λc1 _=>?_;refine Ld.mk (v:=.map (some kb)) (.tail _ (.tail _ t.h17)) rfl ?_;refine hm.dD.hit (k:=r) cY (b:=kb) (by exact .tail _ (.head _)) hv λv' e=>?_;have ex:=hm.val r x hv;have e':=e;obtain⟨rr,rfl,xP,Pw⟩:=oC e;refine Ext.two λc7 _=>(St.p (r:=rr) Pw ?_ (hr:=xP));refine Br.yes (ay.q ?_ (hr:=xP));refine St.p (r:=rr) Pw ?_ (hr:=xP);refine ay.q ?_ (hr:=xP);exact aM.mk (.skip .tail) ⟨by show Tl (qT K.n F V (S r)) _;rw[show qT K.n F V (S r)=x from ex.symm];exact e',es,ck,mm,rfl,hm⟩
 intro k;induction k with
 |zero=>
  intro r es ck mm hk hr hR hm;have qt:r<2:=by
   cases hN:K.N r with
   |some d=>
    rw[an hN]at hk;have:=h.ok.lv.lt _ (h.ok.mid.var hN);omega
   |none=>
    rcases hr with hr|⟨d,e⟩
    ·exact hr
    rw[hN]at e;cases e
  cases hv:aJ mm r with
  |none=>exact absurd hv (hm.low r qt)
  |some v=>exact hit hm hv
 |succ k ih=>
  intro r es ck mm hk hr hR hm;cases hv:aJ mm r with
  |some v=>exact hit hm hv
  |none=>
  have qt:¬r<2:=λh2=>hm.low r h2 hv;obtain⟨d,hN⟩:∃d,K.N r=some d:=by
   rcases hr with hr|hr
   ·omega
   exact hr
  have hlo:=h.ok.wf.lo hN;have hhi:=h.ok.wf.hi hN;rw[an hN]at hk;have kY:=h.ok.mid.var hN;have hvl:=h.ok.lv.lt _ kY;have sL:=h.lB;have Wg:=h.F64;have V8:=h.V64;have qn:=UP (F:=F) (V:=V) h.ok hN;refine aE λg=>xj λc1 _=>?_;refine Ld.mk (v:=.map (some kb)) (.tail _ (.tail _ t.h17)) rfl ?_;refine hm.dD.bM (k:=r) cY (b:=kb) (by exact .tail _ (.head _)) hv ?_;refine Ext.two λc7 _=>(St.p (r:=[u64 0,.bool false]) (pW _ _) (Br.no ?_));have up:∀{x y z:Nat×Obj} {l:List (Nat×Obj)},l=Z->∀{w},w∈Z->w∈x::y::z::l:=λe w hw=>by subst e;exact .tail _ (.tail _ (.tail _ hw))
  refine Ld.mk (v:=ptr d0) (.tail _ (.tail _ (.tail _ t.h1))) rfl ?_;refine Ld.v (v:=.map (some nm)) (.tail _ (.tail _ (.tail _ h.d))) ?_;refine h.dD.hit (k:=r) cY (b:=nm) (.tail _ (.tail _ (.tail _ h.hnm))) (h.cov r d hR hN) λv e=>?_;subst e;intro c18 _;refine St.p (fC d) ?_;refine Ld.mk (v:=ptr d0) (.tail _ (.tail _ (.tail _ (.tail _ t.h1)))) rfl ?_;refine Ld.v (v:=kg) (.tail _ (.tail _ (.tail _ (.tail _ h.d)))) ?_;refine Ld.f (v:=i64 (d.v:Int)) (h.L.ld (cP (h.get d.v (by rw[h.hn];exact kY))) (λ_ h=>.tail _ (.tail _ (.tail _ (.tail _ h)))) ?_);refine ae.inc λc30 _=>?_;intro J32 Pt;have last:∀(p:Bool) (t30:List zV) (es':Array MapEntry) (bB:Nat) (U9:List (Nat×Bool)),Tl p (.agg t30.toArray)->t30.length=2->(∀u∈t30,u.oneCell'=true)->KnT (λr=>qT K.n F V (S r)) es' bB U9->p=((!F.testBit d.v|| !V.testBit d.v) &&qT K.n F V (S d.lo))->
    J32 [] ((c30,.cells t30.toArray 356 zZ)::(c18,.cells (bu d).toArray 226 zZ)::(c7,.cells [u64 0,.bool false].toArray 356 zZ)::(c1,.cells #[u64 0,.bool false] 356 zZ)::(kb,.map es' bB)::Z):=by
   intro p t30 es' bB U9 hp xP Pw hm' ep;refine Pt _ λ_=>?_;intro J35 h35;have fin:∀(p:Bool) (t30:List zV) (es':Array MapEntry) (bB:Nat) (U9:List (Nat×Bool)),Tl p (.agg t30.toArray)->t30.length=2->(∀u∈t30,u.oneCell'=true)->KnT (λr=>qT K.n F V (S r)) es' bB U9->p=qT K.n F V (S r)->
     J35 [] ((c30,.cells t30.toArray 356 zZ)::(c18,.cells (bu d).toArray 226 zZ)::(c7,.cells [u64 0,.bool false].toArray 356 zZ)::(c1,.cells #[u64 0,.bool false] 356 zZ)::(kb,.map es' bB)::Z):=by
    intro p t30 es' bB U9 hp xP Pw hm' ep;refine h35 _ λ_=>?_;refine Ld.mk (v:=.map (some kb)) (.tail _ (.tail _ (.tail _ (.tail _ (.tail _ t.h17))))) rfl ?_;refine ay.q ?_ (hr:=xP);refine hm'.dD.br (k:=r) (b:=kb) (x:=p) cY gN hp λo7 qM he=>⟨_,.tail (.tail (.tail (.tail (.head _)))),?_⟩;refine ay.q ?_ (hr:=xP);refine St.p (r:=t30) Pw ?_ (hr:=xP);refine ay.q ?_ (hr:=xP);refine aM.mk (.skip (.skip (.skip .tail))) ⟨by show Tl (qT K.n F V (S r)) _;rw[<-ep];exact hp,o7,qM,_,rfl,he,λr' x' nX=>?_,λr' hr'=>?_⟩
    ·rw[bK]at nX;split at nX
     ·rename_i e;subst e;cases nX;exact ep
     exact hm'.val r' x' nX
    rw[bK];split
    ·simp
    exact hm'.low r' hr'
   refine Ld.mk (v:=ptr d0) (.tail _ (.tail _ (.tail _ (.tail _ (.tail _ t.h1))))) rfl ?_;refine Ld.v (v:=u64 F) (.tail _ (.tail _ (.tail _ (.tail _ (.tail _ h.d))))) ?_;refine Ld.f (v:=i64 (d.v:Int)) (ae.iM (by simpa[bF]using Wg) (ae.jF (by simp[bF];exact xaA (xbl _ _) Wg) zD (ae.eR (b:=0) ?_)));rw[xbR,vA];refine dc.or (a:= !F.testBit d.v) (V.testBit d.v) (λ_=>?_) rfl λ_=>?_
   ·refine Ld.mk (v:=ptr d0) (.tail _ (.tail _ (.tail _ (.tail _ (.tail _ t.h1))))) rfl ?_;refine Ld.v (v:=u64 V) (.tail _ (.tail _ (.tail _ (.tail _ (.tail _ h.d))))) ?_;refine Ld.f (v:=i64 (d.v:Int)) (ae.iM (by simpa[bF]using V8) (ae.jF (by simp[bF];exact xaA (xbl _ _) V8) zD (ae.eR (b:=1) ?_)));rw[xbR,Bh];exact⟨rfl,rfl⟩
   refine Br.mk (λhb=>?_) (λhb=>?_)
   ·refine DR.of (R:=(c30,.cells t30.toArray 356 zZ)::(c18,.cells (bu d).toArray 226 zZ)::Z) (.cons (.cons (.skip (.skip .tail)))) (ay.q ?_ (hr:=xP));refine Ld.mk (v:=.func (.func 362) #[] #[ptr ux,ptr b8,ptr wU]) (.tail _ (.tail _ t.h25)) rfl ?_;refine Ld.f (v:=u32 d.hi) λG=>?_;refine aF.of rfl zK (aa.fq (args:=#[u32 d.hi,i64 ((lv ah d.v+1:Nat):Int),ptr ux,ptr b8,ptr wU]) (r7 (Z:=Z) h t hhi.1 (.hi hR hN) zO (ih d.hi es' bB U9 zO hhi.1 (.hi hR hN) hm')) ?_);rintro v2 H ⟨hv2,gR,iF,mm2,rfl,lZ⟩;refine⟨.cons (.cons (.skip (.skip .tail))),?_⟩;intro G;refine aa.rq (B6 (C:=Z) hp hv2) ?_;intro v3 hv3;intro G;have YJ:=hv3;obtain⟨rr,rfl,h3l,h3o⟩:=oC hv3;refine St.p (r:=rr) h3o ?_ (hr:=h3l) (hs:=by simpa using xP);refine JE.mk (fin _ rr gR iF mm2 YJ h3l h3o lZ ?_);rw[ep,qn,hb,xcn]
   refine JE.mk (fin p t30 es' bB U9 hp xP Pw hm' ?_);rw[ep,qn,hb,xd8,xdw]
  refine Ld.mk (v:=ptr d0) (.tail _ (.tail _ (.tail _ (.tail _ (.tail _ t.h1))))) rfl ?_;refine Ld.v (v:=u64 F) (.tail _ (.tail _ (.tail _ (.tail _ (.tail _ h.d))))) ?_;refine Ld.f (v:=i64 (d.v:Int)) (ae.iM (by simpa[bF]using Wg) (ae.jF (by simp[bF];exact xaA (xbl _ _) Wg) zD (ae.eR (b:=0) ?_)));rw[xbR,vA];refine dc.or (a:= !F.testBit d.v) (!V.testBit d.v) (λ_=>?_) rfl λ_=>?_
  ·refine Ld.mk (v:=ptr d0) (.tail _ (.tail _ (.tail _ (.tail _ (.tail _ t.h1))))) rfl ?_;refine Ld.v (v:=u64 V) (.tail _ (.tail _ (.tail _ (.tail _ (.tail _ h.d))))) ?_;refine Ld.f (v:=i64 (d.v:Int)) (ae.iM (by simpa[bF]using V8) (ae.jF (by simp[bF];exact xaA (xbl _ _) V8) zD (ae.eR (b:=0) ?_)));rw[xbR,vA];exact⟨rfl,rfl⟩
  refine Br.mk (λhb=>?_) (λhb=>?_)
  ·refine DR.of (R:=(c30,.cells [u64 0,.bool false].toArray 356 zZ)::(c18,.cells (bu d).toArray 226 zZ)::Z) (.cons (.cons (.skip (.skip .tail)))) (ay.q ?_);refine Ld.mk (v:=.func (.func 362) #[] #[ptr ux,ptr b8,ptr wU]) (.tail _ (.tail _ t.h25)) rfl ?_;refine Ld.f (v:=u32 d.lo) λG=>?_;refine aF.of rfl zK (aa.fq (args:=#[u32 d.lo,i64 ((lv ah d.v+1:Nat):Int),ptr ux,ptr b8,ptr wU]) (r7 (Z:=Z) h t hlo.1 (.lo hR hN) zO (ih d.lo es ck mm zO hlo.1 (.lo hR hN) hm)) ?_);rintro v2 H ⟨hv2,gR,iF,mm2,rfl,lZ⟩;refine⟨.cons (.cons (.skip (.skip .tail))),?_⟩;intro G;refine aa.rq (B6 (C:=Z) Tl.no hv2) ?_;intro v3 hv3;intro G;have YJ:=hv3;obtain⟨rr,rfl,h3l,h3o⟩:=oC hv3;refine St.p (r:=rr) h3o ?_ (hr:=h3l);refine JE.mk (last _ rr gR iF mm2 YJ h3l h3o lZ ?_);rw[hb,xcn,xdy]
  refine JE.mk (last false [u64 0,.bool false] es ck mm Tl.no rfl (pW _ _) hm ?_);rw[hb,xd8]
end
section
variable {d0 nm n f F V BU:Nat} {kg:zV} {K:Kd} {S:Nat->aA.Fn} {ah ls:zL} {BT:Array MapEntry} {m:List (Nat×Nd)} {Z Z':Hp}
theorem WQ.more{b b':Nat}(h:WQ K S ah ls m n f F V d0 b nm kg BT BU Z)(hs:∀x∈Z,x∈Z'):WQ K S ah ls m n f F V d0 b' nm kg BT BU Z':=
 ⟨h.ok,h.lB,h.hn,hs _ h.d,hs _ h.hnm,h.dD,h.cov,h.L.mono hs,h.get,h.F64,h.V64⟩
theorem yq{b:Nat}(h:WQ K S ah ls m n f F V d0 b nm kg BT BU Z)(hlen:ls.length=n)(hf:live K.N f):Rd zQ 294 #[ptr d0] Z (Tl (qT K.n F V (S f))):=by
 have sL:=h.lB;have hn:=h.hn;have hi:=h.ok.mid.int;have hlt:∀l∈ls,l<n:=λl hl=>by
  obtain⟨i,hi,e⟩:=xa8.1 hl;have q:=h.get i zO;rw[xaa hi,e]at q;cases q;rw[hn];exact h.ok.lv.lt _ zO
 refine aE λg=>Io λb1 _ b3 _=>?_;refine Ld.q ?_;refine aa.fq (PI (Z:=Z) h.d h.L hlen zO hlt h.F64) ?_;rintro v H ⟨bf,ns,afU,rfl,rfl⟩;intro b8 _;refine St.one (c':=#[.slice (some ⟨bf,0,none⟩) (n+1) (n+1)]) (by exact .head _) rfl zI rfl ?_;intro kb _;refine Build.mk (cs:=[u64 0,.bool false]) zK (aD.br (ke:=kr) (vr:=λv (x:Bool)=>Tl x v) (k:=0) (b:=kb) (x:=false) cY gN aD.empty Tl.no λkx jN Gb=>⟨_,.head _,?_⟩);refine Build.mk (cs:=[u64 1,.bool false]) zK (aD.br (ke:=kr) (vr:=λv (x:Bool)=>Tl x v) (k:=1) (b:=kb) (x:=true) cY gN Gb Tl.yes λgR iF TZ=>⟨_,.head _,?_⟩);intro k6 _;refine St.one (c':=#[.map (some kb)]) (by exact .head _) rfl zI rfl ?_;intro wU _;refine St.one (c':=#[.func (.func 361) #[] #[ptr b1]]) (by exact .head _) rfl zI rfl ?_;intro ux _ EL _;refine St.one (c':=#[.func (.func 362) #[] #[ptr ux,ptr b8,ptr wU]]) (by exact .head _) rfl zI rfl ?_;refine St.one (c':=#[.func (.func 364) #[] #[ptr k6,ptr b1,ptr EL]]) (by exact .tail (.head _)) rfl zI rfl ?_;obtain⟨Y,hY⟩:∃Y:Hp,Y=(EL,Obj.cells #[.func (.func 362) #[] #[ptr ux,ptr b8,ptr wU]] 422 zZ)::(ux,.cells #[.func (.func 364) #[] #[ptr k6,ptr b1,ptr EL]] 420 zZ)::(wU,.cells #[.func (.func 361) #[] #[ptr b1]] 260 zZ)::(k6,.cells #[.map (some kb)] 419 zZ)::
  (b8,.cells #[.slice (some ⟨bf,0,none⟩) (n+1) (n+1)] 43 zZ)::(b3,.cells #[u64 0,.bool false] 356 zZ)::(b1,.cells #[ptr d0] 353 zZ)::(bf,.cells (ax .i64 (iw ns)) 3 zZ)::Z:=⟨_,rfl⟩
 have hYs:∀x∈Z,x∈Y:=λx hx=>by rw[hY];exact .tail _ (.tail _ (.tail _ (.tail _ (.tail _ (.tail _ (.tail _ (.tail _ hx)))))))
 have hvw:WQ K S ah ls m n f F V d0 b1 nm kg BT BU Y:=h.more hYs;have ht:TcH n d0 b1 b8 k6 wU ux EL bf kb ns Y:=by
  refine⟨?_,?_,?_,?_,?_,?_,?_,afU⟩<;>rw[hY]<;>simp
 have hk:KnT (λr=>qT K.n F V (S r)) gR iF [(0,false),(1,true)]:=by
  refine⟨TZ,λr x hx=>?_,λr hr=>?_⟩
  ·unfold aJ at hx;rw[xbv,xbv]at hx;by_cases e0:r=0
   ·subst e0;have:x=false:=by simpa using hx.symm
    rw[this,show S 0=λ_=>false from funext hi.zero];exact UO.symm
   by_cases e1:r=1
   ·subst e1;have:x=true:=by simpa using hx.symm
    rw[this,show S 1=λ_=>true from funext hi.one];exact Yh.symm
   simp[xa9 e0,xa9 e1]at hx
  have:r=0\/r=1:=by omega
  rcases this with rfl|rfl<;>simp[aJ]
 refine DR.of (R:=(EL,Obj.cells #[.func (.func 362) #[] #[ptr ux,ptr b8,ptr wU]] 422 zZ)::(b1,.cells #[ptr d0] 353 zZ)::Z) (.cons (.skip (.skip (.skip (.skip (.skip (.skip (.cons .tail)))))))) (Ld.q ?_);refine Ld.q ?_;refine Ld.v (v:=u32 f) (.tail _ (.tail _ h.d)) ?_;intro G;refine aF.of rfl zK (aa.pre (H':=(kb,Obj.map gR iF)::Y) (by rw[hY];exact .perm (xaT (l₁:=[_,_,_,_]))) (aa.fn (args:=#[u32 f,i64 ((0:Nat):Int),ptr ux,ptr b8,ptr wU]) .here (r7 hvw ht hf (.base rfl) (xaM _) (Mo hvw ht K.n f gR iF _ (xdv _ _) hf (.base rfl) hk)) ?_));rintro v H ⟨hv,o7,qM,mm3,rfl,pK⟩;intro G;have nX:=hv;obtain⟨rr,rfl,xP,Pw⟩:=oC hv;rw[hY];refine St.p (r:=rr) Pw ?_ (hr:=xP);refine ay.q ?_ (hr:=xP);exact bg.mk (.skip (.skip (.skip (.skip (.skip (.skip (.skip (.skip .tail)))))))) nX
end
section
variable {kp mb b1 b9 GH Of n f:Nat} {kg:zV} {K:Kd} {S:Nat->aA.Fn} {ord ah tr:zL} {C Z:Hp}
theorem tA(h:cc kp K S ord ah tr C){r:Nat}(hr:live K.N r):Rd zQ 292 #[ptr kp,u32 r] C (· =i64 (if r=0 then 10 else 0)):=by
 have hlt:=h.bL hr;refine aE λg=>Iq (ae.aH (Br.no (aa.eq (args:=#[ptr kp,u32 r]) (iT h.rep zO) ?_)));rw[bX.2 hr];refine Ext.two λb6 _=>(St.p (aQ K.N r).2 ?_ (hr:=(aQ K.N r).1));refine ae.cL (Br.F (ae.eR (b:=0) (Br.mk (λhb=>?_) (λhb=>?_))))
 ·rw[xae (xca hb)];exact bg.mk .tail rfl
 rw[xac (xdh hb)];exact bg.mk .tail rfl
structure TC(K:Kd)(m m':List (Nat×Nd))(r:Nat):Prop where
 good:∀u d,aJ m' u=some d->K.N u=some d
 sub:∀u,aJ m u≠none->aJ m' u≠none
 has:r<2\/aJ m' r≠none
 shut:∀u,aJ m' u≠none->aJ m u=none->∃d,K.N u=some d/\(d.lo<2\/aJ m' d.lo≠none)/\(d.hi<2\/aJ m' d.hi≠none)
theorem TC.cov{m:List (Nat×Nd)}(h:TC K [] m f)(h2:∀u d,K.N u=some d->2<=u):∀u e,Rc K.N (λq=>q=f) u->K.N u=some e->aJ m u=some e:=by
 have step:∀u,Rc K.N (λq=>q=f) u->u<2\/aJ m u≠none:=λu hu=>by
  induction hu with
  |base e=>subst e;exact h.has
  |lo hp hN ih=>
   rcases ih with ih|ih
   ·have:=h2 _ _ hN;omega
   obtain⟨d,hd,a,b⟩:=h.shut _ ih rfl;rw[hN]at hd;cases hd;exact a
  |hi hp hN ih=>
   rcases ih with ih|ih
   ·have:=h2 _ _ hN;omega
   obtain⟨d,hd,a,b⟩:=h.shut _ ih rfl;rw[hN]at hd;cases hd;exact b
 intro u e hu hN;rcases step u hu with h'|h'
 ·have:=h2 _ _ hN;omega
 cases hm:aJ m u with
 |none=>exact absurd hm h'
 |some d=>have:=h.good u d hm;rw[hN]at this;cases this;rfl
theorem UH(h:cc kp K S ord ah tr C)(h9:(b9,Obj.cells (EP n f mb kg 0 0) 361 zZ)∈Z)(h11:(GH,Obj.cells #[ptr b9] 353 zZ)∈Z)(h1:(b1,Obj.cells #[ptr kp] 85 zZ)∈Z)
 (h48:(Of,Obj.cells #[.func (.func 359) #[] #[ptr GH,ptr b1,ptr Of]] 261 zZ)∈Z):
  ∀(k r:Nat) (es:Array MapEntry) (ck:Nat) (m:List (Nat×Nd)),K.n-dep K.n (lv ah) K.N r<=k->live K.N r->Ou es ck m->(∀u d,aJ m u=some d->K.N u=some d)->
  Fc zQ 359 #[u32 r,ptr GH,ptr b1,ptr Of] ((mb,.map es ck)::(Z++C)) (λv H=>v=.tuple #[]/\∃es' bB m',H=(mb,.map es' bB)::(Z++C)/\Ou es' bB m'/\TC K m m' r):=by
 have h9':=xad C h9;have ZE:=xad C h11;have sP:=xad C h1;have Wi:=xad C h48;have two:=λ(u:Nat) (d:Nd) (e:K.N u=some d)=>(h.ok.mid.two e).1;have stop:∀{r:Nat} {es:Array MapEntry} {ck:Nat} {m:List (Nat×Nd)},Ou es ck m->(∀u d,aJ m u=some d->K.N u=some d)->(r<2\/aJ m r≠none)->
   Fc zQ 359 #[u32 r,ptr GH,ptr b1,ptr Of] ((mb,.map es ck)::(Z++C)) (λv H=>v=.tuple #[]/\∃es' bB m',H=(mb,.map es' bB)::(Z++C)/\Ou es' bB m'/\TC K m m' r):=by
  intro r es ck m hE hg hr;refine aE λg=>xk (Ld.mk (v:=ptr b9) (.tail _ ZE) rfl ?_);refine Ld.v (v:=.map (some mb)) (.tail _ h9') ?_;have fin:TC K m m r:=⟨hg,λ_ h=>h,hr,λu h h'=>absurd h' h⟩;cases hv:aJ m r with
  |some d=>
   refine hE.hit (k:=r) cY (b:=mb) (by exact .head _) hv λv e=>?_;subst e;refine Ext.two λb8 _=>(St.p (fC d) ?_);refine dc.or (a:=true) true (λe=>by cases e) rfl λ_=>?_;exact Br.yes (aM.mk .tail ⟨rfl,es,ck,m,rfl,hE,fin⟩)
  |none=>
   have h2:r<2:=hr.resolve_right λh=>h hv;refine hE.bM (k:=r) cY (b:=mb) (by exact .head _) hv ?_;refine Ext.two λb8 _=>(St.p (r:=[i64 0,u32 0,u32 0]) (by simp[u32,Value.oneCell']) (dc.or (a:=false) (decide (r<=1)) (λ_=>ae.BH (b:=1) ⟨rfl,rfl⟩) rfl λ_=>?_));rw[xan (show r<=1 by omega)];exact Br.yes (aM.mk .tail ⟨rfl,es,ck,m,rfl,hE,fin⟩)
 intro k;induction k with
 |zero=>
  intro r es ck m hk hr hE hg;refine stop hE hg (.inl ?_);cases hN:K.N r with
  |some d=>
   rw[an hN]at hk;have:=h.ok.lv.lt _ (h.ok.mid.var hN);omega
  |none=>
   rcases hr with hr|⟨d,e⟩
   ·exact hr
   rw[hN]at e;cases e
 |succ k ih=>
  intro r es ck m hk hr hE hg;by_cases hs:r<2\/aJ m r≠none
  ·exact stop hE hg hs
  have qt:¬r<2:=λh=>hs (.inl h);have hv:aJ m r=none:=xaK λh=>hs (.inr h);obtain⟨d,hN⟩:∃d,K.N r=some d:=by
   rcases hr with hr|hr
   ·omega
   exact hr
  have hlt:=h.bL (.inr ⟨d,hN⟩);have hlo:=h.ok.wf.lo hN;have hhi:=h.ok.wf.hi hN;rw[an hN]at hk;have hvl:=h.ok.lv.lt _ (h.ok.mid.var hN);refine aE λg=>xk (Ld.mk (v:=ptr b9) (.tail _ ZE) rfl ?_);refine Ld.v (v:=.map (some mb)) (.tail _ h9') ?_;refine hE.bM (k:=r) cY (b:=mb) (by exact .head _) hv ?_;refine Ext.two λb8 _=>(St.p (r:=[i64 0,u32 0,u32 0]) (by simp[u32,Value.oneCell']) (dc.or (a:=false) (decide (r<=1)) (λ_=>ae.BH (b:=1) ⟨rfl,rfl⟩) rfl λ_=>?_));rw[xal (show¬r<=1 by omega)];refine Br.no (Ld.mk (v:=ptr kp) (.tail _ (.tail _ sP)) rfl ?_);refine aa.eq (args:=#[ptr kp,u32 r]) (iT h.rep zO) ?_;rw[dV hN (two r d hN)];refine Ext.two λBV _=>(St.p (fC d) ?_);refine DR.of (.refl _) (Ld.mk (v:=ptr b9) (.tail _ (.tail _ (.tail _ ZE))) rfl ?_);refine Ld.v (v:=.map (some mb)) (.tail _ (.tail _ (.tail _ h9'))) ?_;refine ay.q ?_;intro G;refine hE.br (k:=r) (b:=mb) (x:=d) cY gN rfl λkx jN Gb=>⟨_,.tail (.tail (.head _)),?_⟩;have g1:∀u e,aJ (dX m r d) u=some e->K.N u=some e:=λu e hu=>by
   rw[bK]at hu;split at hu
   ·cases hu;subst u;exact hN
   exact hg u e hu
  refine Ld.mk (v:=.func (.func 359) #[] #[ptr GH,ptr b1,ptr Of]) (.tail _ (.tail _ (.tail _ Wi))) rfl ?_;refine Ld.f (v:=u32 d.lo) (aF.of rfl zK (aa.fq (args:=#[u32 d.lo,ptr GH,ptr b1,ptr Of]) (ih d.lo kx jN _ zO hlo.1 Gb g1) ?_));rintro v H ⟨rfl,gR,iF,m2,rfl,sO,w2⟩;refine Ld.mk (v:=.func (.func 359) #[] #[ptr GH,ptr b1,ptr Of]) (.tail _ (.tail _ (.tail _ Wi))) rfl ?_;refine Ld.f (v:=u32 d.hi) (aF.of rfl zK (aa.fq (args:=#[u32 d.hi,ptr GH,ptr b1,ptr Of]) (ih d.hi gR iF m2 zO hhi.1 sO w2.good) ?_));rintro v H ⟨rfl,o7,qM,m3,rfl,Ps,w3⟩;have r1:aJ (dX m r d) r≠none:=by rw[bK,xae rfl];simp
  refine aM.mk (.skip .tail) ⟨rfl,o7,qM,m3,rfl,Ps,⟨w3.good,λu hu=>w3.sub u (w2.sub u ?_),.inr (w3.sub r (w2.sub r r1)),λu hu hn=>?_⟩⟩
  ·rw[bK];split
   ·simp
   exact hu
  by_cases VB:aJ m2 u=none
  ·exact w3.shut u hu VB
  by_cases F0:aJ (dX m r d) u=none
  ·obtain⟨e,he,a,b⟩:=w2.shut u VB F0;exact⟨e,he,a.imp id (w3.sub _),b.imp id (w3.sub _)⟩
  rw[bK]at F0;split at F0
  ·subst u;exact⟨d,hN,w2.has.imp id (w3.sub _),w3.has⟩
  exact absurd hn F0
end
section
variable {kp:Nat} {K:Kd} {S:Nat->aA.Fn} {ord ah tr:zL} {C:Hp}
theorem Yd(h:cc kp K S ord ah tr C){f:Nat}(hf:live K.N f):Fc zQ 293 #[ptr kp,u32 f] C (λv H=>∃d0 nm kg BT BU m B,v=ptr d0/\kg.oneCell'=true/\H=(d0,.cells (EP K.n f nm kg 0 0) 361 zZ)::((nm,.map BT BU)::(B++C))/\Ou BT BU m/\
  (∀u e,Rc K.N (λq=>q=f) u->K.N u=some e->aJ m u=some e)/\dk .i64 B kg (iw ((List.range K.n).map (lv ah)))):=by
 have sL:=h.bc.lB;refine aE λg=>Ip λb1 _=>?_;refine Ld.q ?_;refine aa.eq (gM h.rep) λnm _=>?_;refine Build.mk (cs:=[i64 (K.n:Int),u32 f,.map (some nm),.slice none 0 0,u64 0,u64 0]) zK λb9 _ GH _=>?_;refine St.one (c':=#[ptr b9]) (by exact .head _) rfl zI rfl ?_;refine Ld.q ?_;refine Ld.n (v:=i64 (K.n:Int)) ?_;refine⟨λvs H=>∃(j:Nat) (kg:zV) (CL:Hp),vs=[i64 (j:Int)]/\j<=K.n/\kg.oneCell'=true/\aO 3 .i64 kg (iw ((List.range j).map (lv ah))) CL/\
   H=(GH,.cells #[ptr b9] 353 zZ)::(b9,.cells (EP K.n f nm kg 0 0) 361 zZ)::(nm,.map #[] 0)::(b1,.cells #[ptr kp] 85 zZ)::(CL++C),λvs _=>K.n-bJ vs 0,
  JE.mk ⟨0,.slice none 0 0,[],rfl,xaM _,rfl,aO.nil,rfl⟩,?_⟩
 rintro w H ⟨j,kg,CL,⟨⟩,hj,ho,hL,rfl⟩ gs;refine ae.eZ (Br.dec (λhlt=>?_) (λhge=>?_))
 ·refine Ld.q ?_;refine aa.eq (lT h.rep _) ?_;rw[xae ⟨by omega,by omega⟩];refine Ext.two (DR.of (R:=(GH,Obj.cells #[ptr b9] 353 zZ)::(b9,.cells (EP K.n f nm kg 0 0) 361 zZ)::C) (.cons (.cons (.skip (.skip .right)))) (Ld.q ?_));refine Ld.q ?_;refine Ld.n (v:=kg) λG=>?_;refine au.int (e:=3) zK zK zK λbx=>?_;refine⟨.skip (.cons (.cons (.skip (.skip .right)))),?_⟩;intro G;refine hL.pC (.cons (.cons (.cons (.cons (.cons .left))))) (by exact .head _) zP zP λv' N' cv=>?_;refine⟨.skip (.cons (.cons (.skip (.skip .right)))),?_⟩;refine .ptr (.mk ?_);intro G;have nX:v'.oneCell'=true:=by
   obtain⟨x,y,z,rfl⟩:∃x y z,v'=.slice x y z:=by
    rcases cv with⟨rfl,_⟩|⟨b,c,rfl,_⟩
    ·exact⟨_,_,_,rfl⟩
    exact⟨_,_,_,rfl⟩
   rfl
  refine St.one (c':=EP K.n f nm v' 0 0) (by exact .tail (.tail (.head _))) nX zI rfl ?_;refine ae.inc (aC.of .tail ⟨j+1,v',N',rfl,hlt,nX,?_,rfl⟩ (by simp only[bJ];omega));rw[xci,xaE,cg];rw[xbe]at cv;exact cv
 obtain rfl:j=K.n:=by omega
 intro Of _;refine St.one (c':=#[.func (.func 359) #[] #[ptr GH,ptr b1,ptr Of]]) (by exact .head _) rfl zI rfl ?_;refine Ld.q ?_;refine aF.of rfl zK ?_;obtain⟨Z,hZ⟩:∃Z:Hp,Z=(Of,Obj.cells #[.func (.func 359) #[] #[ptr GH,ptr b1,ptr Of]] 261 zZ)::(GH,.cells #[ptr b9] 353 zZ)::(b9,.cells (EP K.n f nm kg 0 0) 361 zZ)::(b1,.cells #[ptr kp] 85 zZ)::CL:=⟨_,rfl⟩;refine aa.pre (H':=(nm,Obj.map #[] 0)::(Z++C)) (by rw[hZ];exact .perm (xaT (l₁:=[_,_,_]))) (aa.fn (args:=#[u32 f,ptr GH,ptr b1,ptr Of]) .here (UH (Z:=Z) (b9:=b9) (n:=K.n) (f:=f) (kg:=kg) h (by rw[hZ];simp) (by rw[hZ];simp) (by rw[hZ];simp) (by rw[hZ];simp) K.n f #[] 0 [] (xdv _ _) hf aD.empty (λu d e=>by cases e)) ?_);rintro v H ⟨rfl,es',bB,m',rfl,DF,w'⟩;refine Ld.mk (v:=ptr b9) (.tail _ (xad _ (by rw[hZ];exact .tail _ (.head _)))) rfl ?_;refine aM.mk ?_ ⟨b9,nm,kg,es',bB,m',CL,rfl,ho,rfl,DF,w'.cov (λu d e=>(h.ok.mid.two e).1),hL.ints⟩;rw[hZ];exact .trans (.cons (.skip (.skip (.cons .tail)))) .swap
def Lst(n:Nat)(f:aA.Fn)(V:Nat):Prop:=(∀j,n<=j->V.testBit j=false)/\∀v,v<n->(V.testBit v=true↔¬∃x:Nat,(∀j,v<j->j<n->x.testBit j=V.testBit j)/\x.testBit v=false/\f x=true)
theorem MV(h:cc kp K S ord ah tr C){f:Nat}(hf:live K.N f)(h0:f≠0):Rd zQ 148 #[ptr kp,u32 f] C (λv=>∃V,V<18446744073709551616/\Lst K.n (S f) V/\v=.tuple #[u64 V,i64 0]):=by
 have sL:=h.bc.lB;have aaX:∃x,S f x=true:=by
  refine xaK λhno=>h0 ?_;have:S f=S 0:=funext λx=>by
   rw[h.ok.mid.int.zero];cases e:S f x with
   |false=>rfl
   |true=>exact absurd ⟨x,e⟩ hno
  exact h.ok.wf.same h.ok.lv h.ok.mid.int hf (.inl zD) λx=>congrFun this x
 refine aE λg=>xH (aa.rq (Q:=λv=>∃V,V<18446744073709551616/\Lst K.n (S f) V/\v=.tuple #[u64 V,i64 0]) (aE λg=>xF ?_) ?_);rotate_left
 ·rintro v ⟨V,h1,h2,rfl⟩;exact Ext.two (bg.mk (.refl _) ⟨V,h1,h2,rfl⟩)
 refine aa.eq (tA h hf) ?_;rw[xac h0];refine ae.cL (Br.F (aa.fq (Yd h hf) ?_));rintro v H ⟨d0,nm,kg,BT,BU,m,B,rfl,ho,rfl,hE,af0,hL⟩;obtain⟨X,hX⟩:∃X:Hp,X=(nm,Obj.map BT BU)::(B++C):=⟨_,rfl⟩;rw[<-hX];have vw:∀F V,F<18446744073709551616->V<18446744073709551616->WQ K S ah ((List.range K.n).map (lv ah)) m K.n f F V d0 0 nm kg BT BU ((d0,.cells (EP K.n f nm kg F V) 361 zZ)::X):=λF V hF hV=>
  ⟨h.ok,sL,rfl,.head _,by rw[hX];exact .tail _ (.head _),hE,af0,hL.mono λx hx=>by rw[hX];exact .tail _ (.tail _ (xad _ hx)),λv hv=>by simp[hv],hF,hV⟩
 refine aa.rq (yq (vw 0 0 zD zD) zI hf) ?_;intro t ht;refine aa.eq (yz (C:=X) ht) ?_;have e0:qT K.n 0 0 (S f)=true:=by
  obtain⟨x,hx⟩:=aaX;exact qh.2 ⟨x,λj _ hj=>by simp at hj,hx⟩
 rw[e0];refine Un.not (Br.no (Ld.n (v:=i64 (K.n:Int)) (ae.lj (c:=(K.n:Int) -1) rfl zO ?_)));refine⟨λvs H=>∃(j F V:Nat),vs=[u64 0,i64 ((j:Int) -1)]/\j<=K.n/\F<18446744073709551616/\V<18446744073709551616/\H=(d0,.cells (EP K.n f nm kg F V) 361 zZ)::X/\(∀i,F.testBit i=(decide (j<=i) &&decide (i<K.n)))/\(∀i,i<j\/K.n<=i->V.testBit i=false)/\
   ∀v,j<=v->v<K.n->(V.testBit v=true↔¬∃x:Nat,(∀i,v<i->i<K.n->x.testBit i=V.testBit i)/\x.testBit v=false/\S f x=true),
  λvs _=>match vs with| [_,.int _ q]=>(q+1).toNat|_=>0,
  JE.mk ⟨K.n,0,0,rfl,xaj _,by decide,by decide,rfl,λi=>?_,λi _=>by simp,λv a b=>by omega⟩,?_⟩
 ·rw[xcN];by_cases e:K.n<=i
  ·rw[xal (show¬i<K.n by omega),xec]
  rw[xal e,xd8]
 rintro w1 w2 H ⟨j,F,V,⟨⟩,hj,hF,hV,rfl,hFb,Zt,hVb⟩ gs;refine ae.geq (Br.dec (λhge=>?_) (λhlt=>?_))
 ·obtain⟨i,rfl⟩:∃i,j=i+1:=⟨j-1,by omega⟩;have ei:(((i+1:Nat):Int) -1)=(i:Int):=by omega
  rw[ei];intro J hJ;have back:∀F' V':Nat,F'<18446744073709551616->V'<18446744073709551616->(∀a,F'.testBit a=(decide (i<=a) &&decide (a<K.n)))->(∀a,a<i\/K.n<=a->V'.testBit a=false)->
    (∀v,i<=v->v<K.n->(V'.testBit v=true↔¬∃x:Nat,(∀a,v<a->a<K.n->x.testBit a=V'.testBit a)/\x.testBit v=false/\S f x=true))->J [u64 0] ((d0,.cells (EP K.n f nm kg F' V') 361 zZ)::X):=λF' V' a b c d e=>hJ _ _ λ_=>by
   refine ae.lj (c:=(i:Int) -1) rfl zO (aC.mk ⟨i,F',V',rfl,by omega,a,b,rfl,c,d,e⟩ ?_);show((i:Int) -1+1).toNat<((i:Int)+1).toNat;omega
  refine aa.fq (Kz (C:=X) (b:=0) ho zO zD hF hV) ?_;rintro w H ⟨rfl,F1,V1,rfl,hF1,hV1,agC,age⟩;have same:V1=V:=xaY λa=>by
   rw[age];split
   ·subst a;rw[Zt i (.inl zO)];rfl
   rfl
  subst same;have fb:∀a,F1.testBit a=(decide (i<=a) &&decide (a<K.n)):=λa=>by
   rw[agC,hFb];by_cases e:a=i
   ·subst e;rw[xan (show a<K.n by omega),xan rfl,xan (xaj a)];simp
   rw[xal e,xdw];congr 1;exact xcm.2 zO
  refine aa.rq (yq (vw F1 V1 hF1 hV1) zI hf) ?_;intro t ht;intro b31 _;have ht':=ht;obtain⟨rr,rfl,xP,Pw⟩:=oC ht;refine St.p (r:=rr) Pw ?_ (hr:=xP);refine ay.q ?_ (hr:=xP);refine aa.eq (yz (C:=X) ht') (Un.not ?_);have qi:qT K.n F1 V1 (S f)=true↔∃x:Nat,(∀a,i<a->a<K.n->x.testBit a=V1.testBit a)/\x.testBit i=false/\S f x=true:=by
   rw[qh];constructor
   ·rintro⟨x,hx,hS⟩;refine⟨x,λa ha hn=>hx a hn (by rw[fb,xan (show i<=a by omega),xan hn];rfl),?_,hS⟩;rw[hx i zO (by rw[fb,xan (xaj i),xan (show i<K.n by omega)];rfl)];exact Zt i (.inl zO)
   rintro⟨x,hx,hxi,hS⟩;refine⟨x,λa hn hF=>?_,hS⟩;rw[fb,xaH,xaI,xaI]at hF;by_cases e:a=i
   ·subst e;rw[hxi];exact(Zt a (.inl zO)).symm
   exact hx a zO hn
  refine Br.mk (λhb=>?_) (λhb=>?_)
  ·have hno:qT K.n F1 V1 (S f)=false:=by simpa using hb
   have hz:∃q,rr=[u64 0,q]:=by
    obtain⟨n,b,hn,e,hp⟩:=ht';rw[hno]at hp;have:rr=[u64 n,.bool b]:=by
     have:=Value.agg.inj e;simpa using this
    rw[xaD,xbp]at hp;have e0:n=0:=xaK hp.2;exact⟨.bool b,by rw[this,e0]⟩
   obtain⟨q,rfl⟩:=hz;refine Ld.f (v:=u64 0) (ae.xS (b:=0) zD (xaj _) (aa.pre .tail ?_));refine aa.fq (Kz (C:=X) (b:=1) ho zO zD hF1 hV1) ?_;rintro w H ⟨rfl,F2,V2,rfl,hF2,hV2,agB,acB⟩;have v2:∀a,a≠i->V2.testBit a=V1.testBit a:=λa ha=>by rw[acB,xac ha]
   refine JE.mk (back F2 V2 hF2 hV2 (λa=>?_) (λa ha=>?_) λv hv Pf=>?_)
   ·rw[agB,fb];by_cases e:a=i
    ·subst e;rw[xan (show a<K.n by omega),xan rfl,xan (xaj a)];rfl
    rw[xal e,xdw]
   ·rw[v2 a zO];exact Zt a zO
   have agV:∀x:Nat,(∀a,v<a->a<K.n->x.testBit a=V2.testBit a)↔(∀a,v<a->a<K.n->x.testBit a=V1.testBit a):=λx=>
    ⟨λq a h1 h2=>by rw[q a h1 h2,v2 a zO],λq a h1 h2=>by rw[q a h1 h2,v2 a zO]⟩
   simp only[agV];by_cases e:v=i
   ·subst e;rw[acB,xae rfl];have:=mt qi.2 (by rw[hno];decide);simp only[this,not_false_eq_true];decide
   rw[v2 v e];exact hVb v zO Pf
  have Rv:qT K.n F1 V1 (S f)=true:=by simpa using hb
  refine JE.of .tail (back F1 V1 hF1 hV1 fb (λa ha=>Zt a zO) λv hv Pf=>?_);by_cases e:v=i
  ·subst e;rw[Zt v (.inl zO)];simp only[qi.1 Rv,not_true_eq_false];decide
  exact hVb v zO Pf
 obtain rfl:j=0:=by omega
 refine Ld.n (v:=u64 V) (bg.mk ?_ ⟨V,hV,⟨λi hi=>Zt i (.inr hi),λv hv=>hVb v (xaM _) hv⟩,rfl⟩);rw[hX];exact .skip (.skip .right)
theorem MW(h:cc kp K S ord ah tr C):Rd zQ 148 #[ptr kp,u32 0] C (· =.tuple #[u64 0,i64 10]):=by
 refine aE λg=>xH (aa.rq (Q:=λv=>v=.tuple #[u64 0,i64 10]) (aE λg=>xF ?_) ?_);rotate_left
 ·rintro v rfl;exact Ext.two (bg.mk (.refl _) rfl)
 refine aa.eq (tA h (.inl zD)) ?_;rw[xae rfl];exact ae.cL (Br.T (bg.mk (.refl _) rfl))
end
end
end Go.Proofs
namespace aA
open ak
variable {n:Nat} {ord:zL}
def XN(ord:zL)(L:List Fn):Nat->List Fn
 |0=>L
 |l+1=>(XN ord L l).flatMap λf=>[λx=>f (aB x (ord.getD l 0) false),λx=>f (aB x (ord.getD l 0) true)]
theorem wv(L:List Fn):∀l,(XN ord L l).length=L.length*2^l
 |0=>by simp[XN]
 |l+1=>by
  rw[XN,List.length_flatMap];simp only[xaw,xce];rw[List.map_const',List.sum_replicate_nat,wv L l,xd2,xcK]
theorem Sy{F:Fn->Prop}{L:List Fn}(h:∀g,F g->g∈L):∀l g,fs ord F l g->g∈XN ord L l
 |0,g,hg=>h g hg
 |l+1,g,⟨f,hf,b,e⟩=>by
  rw[XN,List.mem_flatMap];refine⟨f,Sy h l f hf,?_⟩;subst e;cases b<;>simp
def Em(ord:zL)(L:List Fn):Nat->List Fn
 |0=>[]
 |k+1=>Em ord L k++XN ord L k
theorem tR{ord:zL}(L:List Fn):∀k,(Em ord L k).length+L.length=L.length*2^k
 |0=>by simp[Em]
 |k+1=>by
  have:=tR (ord:=ord) L k;rw[Em,xaf,wv,xd2];have e:L.length*(2^k*2)=L.length*2^k+L.length*2^k:=by rw[<-xcK,Nat.mul_two]
  omega
theorem De{L:List Fn}{g:Fn}{l:Nat}(h:g∈XN ord L l):∀k,l<k->g∈Em ord L k
 |0,hk=>by omega
 |k+1,hk=>by
  rw[Em,xao];by_cases e:l=k
  ·subst e;exact .inr h
  exact .inl (De h k zO)
theorem yM{F:Fn->Prop}{L:List Fn}(h:∀g,F g->g∈L):∀g,aG n ord F g->g∈Em ord L n:=by
 rintro g ⟨l,hl,hg,_⟩;exact De (Sy h l g hg) n hl
theorem CX:∀l:List Fn,∃l':List Fn,l'.Nodup/\l'.length<=l.length/\∀g,g∈l↔g∈l'
 | []=>⟨[],List.nodup_nil,xaj _,λ_=>xcT⟩
 |f::l=>by
  obtain⟨l',h1,h2,h3⟩:=CX l;by_cases hm:f∈l'
  ·refine⟨l',h1,Nat.le_succ_of_le h2,λg=>?_⟩;rw[xak,h3];exact⟨λh=>h.elim (λe=>e▸hm) id,.inr⟩
  exact⟨f::l',xaV.2 ⟨hm,h1⟩,Nat.succ_le_succ h2,λg=>by rw[xak,xak,h3]⟩
theorem LJ{U:Fn->Prop}{l:List Fn}(h:∀g,U g->g∈l):∃k,k<=l.length/\pE U k:=by
 classical
 obtain⟨l',h1,h2,h3⟩:=CX l;refine⟨(l'.filter λg=>decide (U g)).length,xbw (xb1 _ _) h2,_,h1.filter _,rfl,λg=>?_⟩;rw[xbT,xaI,<-h3];exact⟨λx=>⟨h g x,x⟩,λx=>x.2⟩
theorem FA{F:Fn->Prop}{L:List Fn}{cap:Nat}(h:∀g,F g->g∈L)(hc:L.length*2^n+2<=cap):∃ku,pE (aG n ord F) ku/\ku+2<=cap:=by
 obtain⟨k,h1,h2⟩:=LJ (yM (n:=n) (ord:=ord) h);have:=tR (ord:=ord) L n;exact⟨k,h2,by omega⟩
end aA
set_option maxRecDepth 100000
namespace Go.Proofs
open Go Go.Sx Tryz
section
open aA
section
variable {sp kp mb nx:Nat} {c:Cf} {K:Kd} {S:Nat->aA.Fn} {ord ah tr:zL} {hs:List (Int×Nat)} {es:Array MapEntry} {ck:Nat} {C:Hp} {x:fI}
theorem P8(h:iq kp nx c K S ord ah tr hs es ck C):
  Rd zQ 91 #[ptr sp,x.v] (gS sp c kp mb nx es ck C) (· =if(aJ hs x.a).isSome then eV 0 (-1) (sz c.n ord (λg=>g=bU S hs x.a)) 0 else eV 3 (-1) 0 0):=by
 refine aE λg=>OC λb1 _ b3 _=>?_;refine Ld.f (v:=i64 x.a) (aa.eq (eJ h x.a) (Un.not ?_));cases hm:aJ hs x.a with
 |none=>
  refine Br.yes (aa.eq (cz _ _) (St.p (r:=[i64 3,i64 (-1),u64 0,i64 0]) (bI _ _ _ _) ?_));refine ay.q ?_;exact bg.mk (.skip .tail) rfl
 |some r=>
  apply Br.no;have hl:=h.live _ (h.find hm);refine DR.of (.refl _) (Ld.n (v:=ptr kp) (Ld.n (v:=.map (some mb)) (Ld.f (v:=i64 x.a) (h.dD.hit (k:=x.a) (bZ _) (b:=mb) (by exact .tail _ (.tail _ (.tail _ (.head _)))) hm λv e=>?_))));subst e;intro F;refine au.int (e:=110) (x:=(r:Int)) zK zK zK λbx=>?_;refine⟨.tail,?_⟩;intro F;refine aa.pre (H':=[(bx,Obj.cells (ax .u32 [(r:Int)]) 110 zZ),(b3,.cells #[i64 0,i64 0,u64 0,i64 0] 37 zZ),(b1,.cells (Value.cells x.v) 35 zZ),jR sp c kp mb nx,(mb,.map es ck)]++C) (.refl _) (aa.eq (args:=#[ptr kp,.slice (some ⟨bx,0,none⟩) 1 1]) (SR h.ks hl (.head _)) (⟨.tail,?_⟩));refine Ext.two (aZ.of (m:=((sz K.n ord (λg=>g=S r):Nat):Int)) (eB (kd:=.u64) ?_) ?_)
  ·have hc:=h.ks.ok.size h.ks.od;have hroom:=h.ks.ok.mid.cap;have hcap:=h.ks.rep.cap;obtain⟨k,hk,l6⟩:=LJ (U:=aG K.n ord (λg=>g=S r)) (l:=Em ord [S r] K.n) (yM zI);have hle:k<=1048576:=by
    by_cases h2:2<=r
    ·have tE:K.held S (S r):=⟨r,by show K.hold r≠0;rw[h.hold,xae h2];exact xdr (xbK.2 (xaR (f:=Prod.snd) (h.find hm))),rfl⟩;have aka:=l6.le hc λg hg=>cH (λg e=>by rw[e];exact tE) hg;omega
    have:k=0:=l6.uniq (pE.none.congr λg=>⟨False.elim,λhg=>qO (λv=>λhv=>h2 ((iC h.ks hl).2 ⟨v,hv⟩)) g hg⟩);omega
   rw[KF l6];exact xaA hle zD
  refine aa.eq (dP _ 0 _) (St.p (r:=[i64 0,i64 (-1),u64 (sz K.n ord (λg=>g=S r)),i64 0]) (bI _ _ _ _) ?_);refine ay.q ?_;exact bg.mk (.skip (.skip .tail)) (by rw[bA hm,<-h.n];rfl)
theorem KM(h:iq kp nx c K S ord ah tr hs es ck C)(hno:aJ hs x.a=none\/∃r,aJ hs x.a=some r/\2<=r/\K.hold r=65535):
  Rd zQ 86 #[ptr sp,x.v] (gS sp c kp mb nx es ck C) (· =if(aJ hs x.a).isSome then eV 8 (-1) 0 0 else eV 3 (-1) 0 0):=by
 refine aE λg=>Ai λb1 _ b3 _=>?_;refine Ld.n (v:=.map (some mb)) (Ld.f (v:=i64 x.a) (h.dD.look (k:=x.a) (bZ _) (b:=mb) (by exact .tail _ (.tail _ (.tail _ (.head _)))) (λr v hr hv=>?_) (λhr=>?_)))
 ·subst hv;refine Ext.two (Un.not (Br.no (Ld.n (v:=ptr kp) ?_)));rcases hno with e|⟨q,hq,h2,hf⟩
  ·rw[hr]at e;cases e
  rw[hr]at hq;cases hq;refine aa.eq (args:=#[ptr kp,u32 r]) (oW h.ks (h.live _ (h.find hr)) h2 hf) (ae.cL (Br.T (aa.eq (cz _ _) (St.p (r:=[i64 8,i64 (-1),u64 0,i64 0]) (bI _ _ _ _) ?_))));refine ay.q ?_;exact bg.mk (.skip .tail) (by rw[hr];rfl)
 refine Ext.two (Un.not (Br.yes (aa.eq (cz _ _) (St.p (r:=[i64 3,i64 (-1),u64 0,i64 0]) (bI _ _ _ _) ?_))));refine ay.q ?_;exact bg.mk (.skip .tail) (by rw[hr];rfl)
theorem UI(h:iq kp nx c K S ord ah tr hs es ck C)(BJ:nx+1<9223372036854775808){r:Nat}(hr:aJ hs x.a=some r)(hf:2<=r->K.hold r<65535):
  Fc zQ 86 #[ptr sp,x.v] (gS sp c kp mb nx es ck C) (λv H=>v=eV 0 nx 0 0/\∃K' es' bB C',H=gS sp c kp mb (nx+1) es' bB C'/\iq kp (nx+1) c K' S ord ah [] (hs++[((nx:Int),r)]) es' bB C'):=by
 have hl:=h.live _ (h.find hr);refine aE λg=>Ai λb1 _ b3 _=>?_;refine Ld.n (v:=.map (some mb)) (Ld.f (v:=i64 x.a) (h.dD.hit (k:=x.a) (bZ _) (b:=mb) (by exact .tail _ (.tail _ (.tail _ (.head _)))) hr λv hv=>?_));subst hv;refine Ext.two (Un.not (Br.no (Ld.n (v:=ptr kp) (aa.fq (args:=#[ptr kp,u32 r]) (mQ h.ks hl hf) ?_))));rintro v H ⟨rfl,K',dh,hm⟩;refine ae.cL (Br.F (aa.fq (zk h.dD h.key BJ r 0) ?_));rintro v H2 ⟨rfl,es',bB,rfl,he⟩;refine St.p (r:=[i64 0,i64 nx,u64 0,i64 0]) (bI _ _ _ _) ?_;refine ay.q ?_;have hg:kP K S K' S (S r) r:=⟨hm.n,hm.cap,λs d hd=>by rw[hm.N];exact hd,λ_ _=>rfl,by rw[hm.N];exact hl,rfl,λs=>by rw[hm.hold];split<;>rfl⟩;exact aM.mk (.skip .tail) ⟨rfl,K',es',bB,H,rfl,(h.grow dh hg he).1⟩
theorem count_erase{l:List (Int×Nat)}{a:Int}{r:Nat}(fc:(l.map Prod.fst).Nodup)(hm:(a,r)∈l)(s:Nat):((ia l a).map Prod.snd).count s=(l.map Prod.snd).count s-if s=r then 1 else 0:=by
 induction l with
 |nil=>cases hm
 |cons p l ih=>
  obtain⟨k,q⟩:=p;rw[xay,xaV]at fc;unfold ia at*;by_cases hk:k=a
  ·subst hk;have hq:q=r:=by
    rcases xak.1 hm with e|hm
    ·cases e;rfl
    exact absurd (xaR (f:=Prod.fst) hm) fc.1
   subst hq;have e:(l.filter λy=>decide ¬y.1=k)=l:=xcd.2 λy hy=>by
    have:y.1≠k:=λe=>fc.1 (by rw[<-e];exact xam.2 ⟨y,hy,rfl⟩);simpa using this
   rw[xbk,xac zI,e,xay,xb3];by_cases hs:s=q
   ·subst hs;simp
   have:(q==s)=false:=by simpa using λe=>hs e.symm
   simp[hs,this]
  have hm':(a,r)∈l:=by
   rcases xak.1 hm with e|hm
   ·cases e;exact absurd rfl hk
   exact hm
  rw[xbk,xae (by simpa using hk),xay,xay,xb3,xb3,ih fc.2 hm'];by_cases hs:s=r
  ·subst hs;have:0<(l.map Prod.snd).count s:=xbK.2 (xaR (f:=Prod.snd) hm');rw[xae rfl];omega
  rw[xac hs];rfl
theorem Qg(h:iq kp nx c K S ord ah tr hs es ck C){r:Nat}(hr:aJ hs x.a=some r):
  Fc zQ 87 #[ptr sp,x.v] (gS sp c kp mb nx es ck C) (λv H=>v=eV 0 (-1) 0 0/\∃K' es' C',H=gS sp c kp mb nx es' ck C'/\iq kp nx c K' S ord ah [] (ia hs x.a) es' ck C'):=by
 have hmem:=h.find hr;have hl:=h.live _ hmem;have hlt:=h.ks.bL hl;have hh:2<=r->K.hold r≠0:=λh2=>by
  rw[h.hold,xae h2];exact xdr (xbK.2 (xaR (f:=Prod.snd) hmem))
 refine aE λg=>Ah λb1 _ b3 _=>?_;refine Ld.n (v:=.map (some mb)) (Ld.f (v:=i64 x.a) (h.dD.hit (k:=x.a) (bZ _) (b:=mb) (by exact .tail _ (.tail _ (.tail _ (.head _)))) hr λv hv=>?_));subst hv;refine Ext.two (Un.not (Br.no (Ld.n (v:=ptr kp) (aa.fq (args:=#[ptr kp,u32 r]) (mY h.ks zO hh) ?_))));rintro v H ⟨rfl,K',dh,hm⟩;refine DR.of (.refl _) (Ld.n (v:=.map (some mb)) (Ld.f (v:=i64 x.a) λF=>?_));refine aD.del (k:=x.a) (bZ _) h.dD (.tail _ (.tail _ (.tail _ (.head _)))) λes' he=>⟨_,.tail (.tail (.tail (.head _))),?_⟩;refine aa.eq (dP 0 0 _) (St.p (r:=[i64 0,i64 (-1),u64 0,i64 0]) (bI _ _ _ _) ?_);refine ay.q ?_;have hsub:∀p,p∈ia hs x.a->p∈hs:=λp hp=>(xbT.1 hp).1;have XA:∀s,K'.hold s=if 2<=s then((ia hs x.a).map Prod.snd).count s else 0:=λs=>by
  rw[hm.hold,h.hold,count_erase h.dD.nd hmem];by_cases h2:2<=s
  ·rw[xae h2,xae h2];by_cases e:s=r
   ·rw[xae ⟨e,by omega⟩,xae e]
   rw[xac (λh=>e h.1),xac e];rfl
  rw[xac h2,xac h2,xac (λh=>h2 zO)]
 refine aM.mk (.skip .tail) ⟨rfl,K',es',H,rfl,⟨dh,hm.n.trans h.n,hm.cap.trans h.cap,he,λp hp=>?_,XA,λp hp=>h.lt p (hsub p hp)⟩⟩;by_cases h2:2<=p.2
 ·refine .inr (dh.ok.mid.held p.2 ?_);rw[XA,xae h2];exact xdr (xbK.2 (xaR (f:=Prod.snd) hp))
 exact .inl zO
theorem Qh(h:iq kp nx c K S ord ah tr hs es ck C)(hr:aJ hs x.a=none):
  Rd zQ 87 #[ptr sp,x.v] (gS sp c kp mb nx es ck C) (· =eV 3 (-1) 0 0):=by
 refine aE λg=>Ah λb1 _ b3 _=>?_;refine Ld.n (v:=.map (some mb)) (Ld.f (v:=i64 x.a) (h.dD.bM (k:=x.a) (bZ _) (b:=mb) (by exact .tail _ (.tail _ (.tail _ (.head _)))) hr ?_));refine Ext.two (Un.not (Br.yes (aa.eq (cz _ _) (St.p (r:=[i64 3,i64 (-1),u64 0,i64 0]) (bI _ _ _ _) ?_))));refine ay.q ?_;exact bg.mk (.skip .tail) rfl
theorem Co{C0:Hp}{e:Int}(he:e≠0)(hex:Rd zQ 151 #[ptr kp,i64 x.a] C0 (· =i64 e)):
  Rd zQ 96 #[ptr sp,x.v] (gS sp c kp mb nx es ck C0) (· =eV e (-1) 0 0):=by
 refine aE λg=>Af λb1 _ b3 _=>?_;refine DR.of (.refl _) (Ld.n (v:=ptr kp) (Ld.f (v:=i64 x.a) λF=>?_));refine aa.eq (args:=#[ptr kp,i64 x.a]) hex λF=>?_;refine aa.eq (dP 0 e _) λF=>?_;rw[xac he];refine St.p (r:=[i64 e,i64 (-1),u64 0,i64 0]) (bI _ _ _ _) ?_;refine ay.q ?_;exact bg.mk (.skip .tail) rfl
theorem Qi{C0:Hp}{Q:Hp->Prop}(hex:Fc zQ 151 #[ptr kp,i64 x.a] C0 (λv H=>v=i64 0/\Q H)):
  Fc zQ 96 #[ptr sp,x.v] (gS sp c kp mb nx es ck C0) (λv H=>v=eV 0 (-1) 0 0/\∃C',H=gS sp c kp mb nx es ck C'/\Q C'):=by
 refine aE λg=>Af λb1 _ b3 _=>?_;refine DR.of (R:=(b3,.cells #[i64 0,i64 0,u64 0,i64 0] 37 zZ)::(b1,.cells (Value.cells x.v) 35 zZ)::gS sp c kp mb nx es ck C0) (.refl _) (Ld.n (v:=ptr kp) (Ld.f (v:=i64 x.a) λF=>?_));refine aa.fq (args:=#[ptr kp,i64 x.a]) hex ?_;rintro v C' ⟨rfl,hQ⟩;intro F;refine aa.eq (dP 0 0 _) λF=>?_;refine St.p (r:=[i64 0,i64 (-1),u64 0,i64 0]) (bI _ _ _ _) ?_;refine ay.q ?_;exact aM.mk (.skip .tail) ⟨rfl,C',rfl,hQ⟩
theorem AA{C0:Hp}(ha:x.a<0\/6<x.a):Rd zQ 97 #[ptr sp,x.v] (gS sp c kp mb nx es ck C0) (· =eV 1 (-1) 0 0):=by
 refine aE λg=>Ae λb1 _ b3 _=>?_;refine Ld.f (v:=i64 x.a) (ae.lss (dc.or (decide (6<x.a)) (λ_=>Ld.f (v:=i64 x.a) (ae.gtr ⟨rfl,rfl⟩)) rfl λ_=>?_));rw[<-xa7,xan ha];refine Br.yes (aa.eq (cz _ _) (St.p (r:=[i64 1,i64 (-1),u64 0,i64 0]) (bI _ _ _ _) ?_));refine ay.q ?_;exact bg.mk (.skip .tail) rfl
theorem nH{C0:Hp}{s:Nat}(hs:x.a=s)(YO:s<=6){Q:Int->Nat->Hp->Prop}(hrun:Fc zQ 85 #[ptr kp,.int .u8 (s:Int),i64 x.b] C0 (λv H=>∃(a b d:Int) (t:Bool) (e:Int),v=.tuple #[ud a b d t,i64 e]/\∃n,Q e n H/\Rd zQ 140 #[ptr kp] H (· =i64 ((n:Nat):Int))/\n<18446744073709551616)):
  Fc zQ 97 #[ptr sp,x.v] (gS sp c kp mb nx es ck C0) (λv H=>∃e n C',v=(if e=0 then eV 0 (-1) n 0 else eV e (-1) 0 0)/\H=gS sp c kp mb nx es ck C'/\Q e n C'):=by
 refine aE λg=>Ae λb1 _ b3 _=>?_;refine Ld.f (v:=i64 x.a) ?_;rw[hs];refine ae.lss (dc.or (decide (6<(s:Int))) (λ_=>Ld.f (v:=i64 x.a) (by rw[hs];exact ae.gtr ⟨rfl,rfl⟩)) rfl λ_=>?_);rw[<-xa7,xal zO];refine Br.no (DR.of (R:=[(b3,.cells #[i64 0,i64 0,u64 0,i64 0] 37 zZ),(b1,.cells (Value.cells x.v) 35 zZ),jR sp c kp mb nx]) (.cons (.cons (.cons λ_ _ h=>h.bt))) (Ld.n (v:=ptr kp) (Ld.f (v:=i64 x.a) ?_)));rw[hs];refine aZ.q (Ld.f (v:=i64 x.b) λF=>?_);refine aa.fq (args:=#[ptr kp,.int .u8 (s:Int),i64 x.b]) hrun ?_;rintro v H ⟨a,b,d,t,e,rfl,n,hQ,fM,hn⟩;refine⟨.cons (.cons (.cons λ_ _ h=>h.bt)),?_⟩;refine Ext.two λb31 _=>λF=>?_;refine St.p (r:=[i64 a,i64 b,i64 d,.bool t]) (oI _ _ _ _) (⟨.skip (.cons (.cons (.cons λ_ _ h=>h.bt))),?_⟩);refine Ld.n (v:=ptr kp) (aa.eq (args:=#[ptr kp]) fM (aZ.q (a:=n) ?_ (xaP hn zD)));refine aa.eq (dP n e _) ?_;by_cases he:e=0
 ·rw[xae he];refine St.p (r:=[i64 0,i64 (-1),u64 n,i64 0]) (bI _ _ _ _) ?_;refine ay.q ?_;exact aM.mk (.skip (.skip .tail)) ⟨e,n,H,by rw[xae he],rfl,hQ⟩
 rw[xac he];refine St.p (r:=[i64 e,i64 (-1),u64 0,i64 0]) (bI _ _ _ _) ?_;refine ay.q ?_;exact aM.mk (.skip (.skip .tail)) ⟨e,n,H,by rw[xac he],rfl,hQ⟩
end
end
section
open aA
section
variable {sp nx kp:Nat} {c:Cf} {F:FS} {ord tr:zL} {H C:Hp} {x:fI} {K:Kd} {S:Nat->aA.Fn}
theorem Ty{S:Nat->aA.Fn}{hs:List (Int×Nat)}(a:Int):je S (ia hs a)=ia (je S hs) a:=by
 unfold je ia;rw[List.filter_map];rfl
theorem UK(h:jZ sp c nx F ord tr H):Rd zQ 89 #[ptr sp,x.v] H (λw=>w=if eP F x.a&&eP F x.b then eV 0 (-1) (@decide (fF F x.a=fF F x.b) (Classical.propDecidable _)).toNat 0 else eV 3 (-1) 0 0):=by
 obtain⟨kp,mb,K,S,ah,hs,es,ck,C,rfl,h,rfl⟩:=h;rw[eE,eE,mX];exact Qa h
theorem Vk(h:jZ sp c nx F ord tr H):Rd zQ 92 #[ptr sp,x.v] H (· =eV 0 (-1) (BR c.n F ord) 0):=by
 obtain⟨kp,mb,K,S,ah,hs,es,ck,C,rfl,h,rfl⟩:=h;rw[<-h.BR];exact Qd h
theorem UC(h:jZ sp c nx F ord tr H):Rd zQ 91 #[ptr sp,x.v] H (· =if eP F x.a then eV 0 (-1) (sz c.n ord (λg=>g=fF F x.a)) 0 else eV 3 (-1) 0 0):=by
 obtain⟨kp,mb,K,S,ah,hs,es,ck,C,rfl,h,rfl⟩:=h;rw[eE,mX];exact P8 h
theorem Q0(h:jZ sp c nx F ord tr H):Rd zQ 95 #[ptr sp,x.v] H (λw=>((x.a<0\/(c.n:Int)<=x.a)/\w=eV 2 (-1) 0 0)\/((0<=x.a/\x.a<c.n)/\∃p,p<c.n/\ord.getD p 0=x.a.toNat/\w=eV 0 (-1) p 0)):=by
 obtain⟨kp,mb,K,S,ah,hs,es,ck,C,rfl,h,rfl⟩:=h;by_cases hv:x.a<0\/(c.n:Int)<=x.a
 ·exact(MB h hv).mono λv H ⟨h1,h2⟩=>⟨h1,.inl ⟨hv,h2⟩⟩
 obtain⟨v,hxv⟩:∃v:Nat,x.a=v:=⟨x.a.toNat,by omega⟩;refine(MC h hxv zO).mono λw H ⟨h1,p,hp,ho,h2⟩=>⟨h1,.inr ⟨by omega,p,hp,?_,h2⟩⟩;rw[hxv,xbe];exact ho
theorem E6(h:jZ sp c nx F ord tr H):Rd zQ 94 #[ptr sp,x.v] H (λw=>(eP F x.a=false/\w=eV 3 (-1) 0 0)\/(eP F x.a=true/\∃m,WR (fF F x.a) m/\w=eV 0 (-1) m 0)):=by
 obtain⟨kp,mb,K,S,ah,hs,es,ck,C,rfl,h,rfl⟩:=h;rw[eE,mX];refine(Cb h (x:=x) (P:=λn e=>e=0/\WR (bU S hs x.a) n) λr hr=>?_).mono λv H ⟨e,hv⟩=>⟨e,?_⟩
 ·rw[bA hr];exact(D0 h.ks (h.live _ (h.find hr))).mono λv H ⟨e,m,hm,hv⟩=>⟨e,m,0,⟨rfl,hm⟩,hv⟩
 rcases hv with h1|⟨h1,n,e,⟨rfl,hn⟩,h2⟩
 ·exact .inl h1
 exact .inr ⟨h1,n,hn,h2⟩
theorem ZI(h:jZ sp c nx F ord tr H)(BJ:nx+1<9223372036854775808):Fc zQ 86 #[ptr sp,x.v] H (λw H'=>
  (eP F x.a=false/\w=eV 3 (-1) 0 0/\H'=H)\/(eP F x.a=true/\Ev (uu F) (fF F x.a)/\w=eV 8 (-1) 0 0/\H'=H)\/
  (eP F x.a=true/\¬Ev (uu F) (fF F x.a)/\w=eV 0 nx 0 0/\jZ sp c (nx+1) (F++[((nx:Int),fF F x.a)]) ord [] H')):=by
 obtain⟨kp,mb,K,S,ah,hs,es,ck,C,rfl,h,rfl⟩:=h;rw[eE,mX,rM];cases hm:aJ hs x.a with
 |none=>
  refine Fc.mono (KM h (x:=x) (.inl hm)) λv H ⟨h1,h2⟩=>.inl ⟨rfl,?_,h1⟩;rw[hm]at h2;exact h2
 |some r=>
  have hl:live K.N r:=h.live _ (h.find hm);have hle:=h.ks.gg r;rw[bA hm];by_cases hf:2<=r/\K.hold r=65535
  ·refine Fc.mono (KM h (x:=x) (.inr ⟨r,hm,hf.1,hf.2⟩)) λv H ⟨h1,h2⟩=>.inr (.inl ⟨rfl,h.full hf.2 hf.1,?_,h1⟩);rw[hm]at h2;exact h2
  refine(UI h BJ hm (λh2=>by omega)).mono ?_;rintro v H ⟨rfl,K',es',bB,C',rfl,h'⟩;refine .inr (.inr ⟨rfl,?_,rfl,kp,mb,K',S,ah,_,es',bB,C',rfl,h',by unfold je;rw[xaE];rfl⟩);rintro⟨hv,hc⟩;have h2:=(iC h.ks hl).2 hv;rw[<-h.count hl h2]at hc;omega
theorem Wp(h:jZ sp c nx F ord tr H):Fc zQ 87 #[ptr sp,x.v] H (λw H'=>(eP F x.a=false/\w=eV 3 (-1) 0 0/\H'=H)\/(eP F x.a=true/\w=eV 0 (-1) 0 0/\jZ sp c nx (ia F x.a) ord [] H')):=by
 obtain⟨kp,mb,K,S,ah,hs,es,ck,C,rfl,h,rfl⟩:=h;rw[eE];cases hm:aJ hs x.a with
 |none=>exact Fc.mono (Qh h (x:=x) hm) λv H ⟨h1,h2⟩=>.inl ⟨rfl,h2,h1⟩
 |some r=>
  refine(Qg h hm).mono ?_;rintro v H ⟨rfl,K',es',C',rfl,h'⟩;exact .inr ⟨rfl,rfl,kp,mb,K',S,ah,_,es',ck,C',rfl,h',Ty _⟩
noncomputable def Wn(n:Nat)(F:FS)(ord:zL)(l:Nat):Nat:=BD n ord l (HF (uu F))
theorem Wu(h:jZ sp c nx F ord tr H)(eM:tr.length<17592186044416):Fc zQ 96 #[ptr sp,x.v] H (λw H'=>
  ((x.a<0\/(c.n:Int)<=x.a+1)/\w=eV 1 (-1) 0 0/\H'=H)\/(∃l:Nat,x.a=l/\l+1<c.n/\¬Wn c.n F ord l+2<=c.cap/\w=eV 9 (-1) 0 0/\H'=H)\/
  (∃l:Nat,x.a=l/\l+1<c.n/\Wn c.n F ord l+2<=c.cap/\w=eV 0 (-1) 0 0/\jZ sp c nx F (fR ord l) (tr++[l]) H')):=by
 obtain⟨kp,mb,K,S,ah,hs,es,ck,C,rfl,h,rfl⟩:=h;by_cases ha:x.a<0\/(c.n:Int)<=x.a+1
 ·exact Fc.mono (Co (x:=x) (e:=1) zD (SF h.ks (l:=x.a) (by rw[h.n];omega))) λv H ⟨h1,h2⟩=>.inl ⟨ha,h2,h1⟩
 obtain⟨l,hl⟩:∃l:Nat,x.a=l:=⟨x.a.toNat,by omega⟩;have BL:l+1<K.n:=by rw[h.n];omega
 have e:Wn c.n (je S hs) ord l=BD K.n ord l (K.held S):=by unfold Wn;rw[h.held,rM,h.n]
 by_cases hf:jc K S ord l
 ·refine(Qi (x:=x) (Q:=λC'=>At kp K S (fR ord l) (tr++[l]) C') (by rw[hl];exact uO h.ks.bc BL eM hf)).mono ?_;rintro v H ⟨rfl,C',rfl,K',S',bW,dh,hk⟩;obtain⟨h',hS⟩:=h.kept dh hk;exact .inr (.inr ⟨l,hl,by omega,by rw[e,<-h.cap];exact hf,rfl,kp,mb,K',S',bW,hs,es,ck,C',rfl,h',mh hS⟩)
 refine Fc.mono (Co (x:=x) (e:=9) zD (by rw[hl];exact m5 h.ks.bc BL eM hf)) λv H ⟨h1,h2⟩=>.inr (.inl ⟨l,hl,by omega,?_,h2,h1⟩);rw[e,<-h.cap];exact hf
theorem vq(h:jZ sp c nx F ord tr H)(ha:x.a<0\/6<x.a):Rd zQ 97 #[ptr sp,x.v] H (· =eV 1 (-1) 0 0):=by
 obtain⟨kp,mb,K,S,ah,hs,es,ck,C,rfl,h,rfl⟩:=h;exact AA ha
theorem ZQ(h:At kp K S ord tr C){s:Nat}{gr:Int}(hb:6<s\/gr<100\/1000<gr):Rd zQ 134 #[ptr kp,.int .u8 (s:Int),i64 gr] C (· =i64 1):=by
 refine aE λg=>xK (ae.aH (Br.no (ae.ny (b:=6) (dc.or (a:=decide (6<s)) (decide (gr<100)) (λ_=>ae.lss ⟨rfl,rfl⟩) rfl λ_=>?_))));refine dc.or (a:=decide (6<s)||decide (gr<100)) (decide (1000<gr)) (λ_=>ae.gtr ⟨rfl,rfl⟩) rfl λ_=>?_;rw[<-xa7,<-xa7,xan zO];exact Br.yes (bg.mk (.refl _) rfl)
theorem Qu(h:At kp K S ord tr C){s:Nat}{gr:Int}(hb:6<s\/gr<100\/1000<gr):Rd zQ 85 #[ptr kp,.int .u8 (s:Int),i64 gr] C (· =.tuple #[ud 0 0 0 false,i64 1]):=by
 refine aE λg=>iI λb1 _=>?_;refine aa.eq (ZQ h hb) (ae.cL (Br.T (Build.mk (cs:=[iv 0,iv 0,iv 0,.bool false]) zK (St.q ?_))));refine ay.q ?_;exact bg.mk .tail rfl
theorem vp(h:jZ sp c nx F ord tr H){s:Nat}(hs:x.a=s)(YO:s<=6)(hb:x.b<100\/1000<x.b):Fc zQ 97 #[ptr sp,x.v] H (λw H'=>w=eV 1 (-1) 0 0/\H'=H):=by
 obtain⟨kp,mb,K,S,ah,hs',es,ck,C,rfl,h,rfl⟩:=h;have hle:=gu h.ks.bc;refine(nH (x:=x) hs YO (Q:=λe _ H=>e=1/\H=C) (Fc.mono (Qu h.ks.bc (s:=s) (.inr hb)) λv H ⟨h1,h2⟩=>?_)).mono ?_
 ·subst h1;exact⟨_,_,_,_,_,h2,_,⟨rfl,rfl⟩,cE h.ks.bc,by omega⟩
 rintro v H ⟨e,n,C',rfl,rfl,rfl,rfl⟩;exact⟨rfl,rfl⟩
end
theorem Xc{b k len:Nat}{rs:List (List zV)}{T:TypeId}(hr:∀r∈rs,r.length=k)(hk:0<k)(hl:rs.length=len):Sl k [(b,.cells (rows rs) T zZ)] (.slice (some ⟨b,0,none⟩) len len) rs:=by
 have h:=aV.mk' (T:=T) (k:=k) (b:=b) (rs:=rs) (aK:=[]) (n:=len) (c:=len) (by simpa using hr) hl.symm (by simp[hl]);rw[xaL]at h;exact Sl.q6 h hk
section
variable {sp nx n cap:Nat} {c:Cf} {F:FS} {ord tr o:zL} {H:Hp} {x:fI}
theorem CG(h:((uu F).length+3)*2^n+2<=cap):¬qp n cap (uu F) (fF F) x o 9:=by
 have room:∀(L2:List aA.Fn) (P:aA.Fn->Prop),L2.length<=3->(∀g,P g->HF (uu F) g\/g∈L2)->Fits (aG n o P) cap:=λL2 P hl hP=>by
  refine FA (L:=uu F++L2) (λg hg=>?_) ?_
  ·rcases hP g hg with h|h
   ·exact xad _ h.1
   exact xab _ h
  rw[xaf];exact xbw (Nat.add_le_add_right (xaW _ zO) 2) h
 unfold qp;split
 ·rintro(h|⟨_,i,_,_,hf⟩|⟨h,_⟩)
  ·cases h
  ·refine hf (room [ue true (bitsOf x.x i) (fF F x.a),qf true i (ue true (bitsOf x.x i) (fF F x.a))] _ zI λg hg=>?_);rcases hg with(h|⟨_,h⟩)|h
   ·exact .inl h
   ·exact .inr (by simp[h])
   exact .inr (by simp[h])
  cases h
 split
 ·rintro(h|⟨_,i,_,_,hf⟩|⟨h,_⟩)
  ·cases h
  ·refine hf (room [ue false (bitsOf x.x i) (fF F x.a),qf false i (ue false (bitsOf x.x i) (fF F x.a))] _ zI λg hg=>?_);rcases hg with(h|⟨_,h⟩)|h
   ·exact .inl h
   ·exact .inr (by simp[h])
   exact .inr (by simp[h])
  cases h
 split
 ·rintro(h|⟨_,hf|hf|hf⟩|⟨h,_⟩)
  ·cases h
  ·exact hf (room [_] _ zI λg hg=>hg.imp id λh=>by simpa using h)
  ·refine hf (room [λy=>fF F x.a (ak.aB y x.b.toNat false),λy=>fF F x.a (ak.aB y x.b.toNat true)] _ zI λg hg=>?_);rcases hg with(h|h)|h
   ·exact .inl h
   ·exact .inr (by simp[h])
   exact .inr (by simp[h])
  ·refine hf (room [λy=>fF F x.a (ak.aB y x.b.toNat false),λy=>fF F x.a (ak.aB y x.b.toNat true),dM n (fF F) x] _ zI λg hg=>?_);rcases hg with((h|h)|h)|h
   ·exact .inl h
   ·exact .inr (by simp[h])
   ·exact .inr (by simp[h])
   exact .inr (by simp[h])
  cases h
 rintro(⟨h,_⟩|⟨_,hf⟩|⟨h,_⟩)
 ·cases h
 ·exact hf (room [_] _ zI λg hg=>hg.imp id λh=>by simpa using h)
 cases h
theorem ZO(L:List aA.Fn)(g:aA.Fn):ye L g<=L.length:=List.countP_le_length
theorem CI(h:qp n cap (uu F) (fF F) x o 8):∃g,65533<=ye (uu F) g:=by
 unfold qp at h;split at h
 ·rcases h with h|⟨h,_⟩|⟨_,g,hg⟩
  ·cases h
  ·cases h
  exact⟨g,by omega⟩
 split at h
 ·rcases h with h|⟨h,_⟩|⟨_,g,hg⟩
  ·cases h
  ·cases h
  exact⟨g,by omega⟩
 split at h
 ·rcases h with h|⟨h,_⟩|⟨_,g,hg⟩
  ·cases h
  ·cases h
  exact⟨g,by omega⟩
 rcases h with⟨h,_⟩|⟨h,_⟩|⟨_,h⟩
 ·cases h
 ·cases h
 exact⟨_,xbw zD h.2⟩
theorem U2(h:(uu F).length<65533):¬qp n cap (uu F) (fF F) x o 8:=λht=>by
 obtain⟨g,hg⟩:=CI ht;have:=ZO (uu F) g;omega
theorem sE{w f:Nat}(h:jZ sp c nx F ord tr H)(hc:c.Ok)(BJ:nx+1<9223372036854775808)(hx:x.x<18446744073709551616)(hm:eo x.op=some (w,f))(hf:jm f x.op w)(fN:aT zQ f=true)(hw:w<256)(hl:iS c.n F w x=0)
 (hr:(F.length+3)*2^c.n+2<=c.cap)(h8:F.length<65533):
  Fc zQ 16 #[ptr sp,x.v] H (λv H'=>v=eV 0 nx 0 1/\jZ sp c (nx+1) (F++[((nx:Int),dM c.n (fF F) x)]) ord [] H'):=by
 have hlen:(uu F).length=F.length:=by unfold uu;rw[xav]
 have no9:∀o,¬qp c.n c.cap (uu F) (fF F) x o 9:=λo=>CG (by rw[hlen];exact hr);refine qV (λv H h=>?_) (λw' f' hm'=>?_) (λf hn=>by rw[hm]at hn;cases hn) (λhn=>by rw[hm]at hn;cases hn)
 ·obtain⟨rfl,_⟩:=h;exact⟨_,_,_,_,rfl⟩
 rw[hm]at hm';cases hm';refine(Lf (R:=λ_ _=>False) h hc BJ hx hf fN hw hl λhT _ _=>absurd hT (no9 _)).mono ?_;rintro v H' ⟨t,o,cT,ht,hT,hq⟩;have h1:t=1/\o=ord:=by
  cases hT with
  |one=>exact⟨rfl,rfl⟩
  |more h h9 _=>exact absurd h9 (no9 _)
 obtain⟨rfl,rfl⟩:=h1;rcases hq with⟨rfl,h',_⟩|⟨e,he,_,_,Si,_⟩
 ·exact⟨rfl,h'⟩
 rcases he with rfl|rfl
 ·exact absurd Si (U2 (by rw[hlen];exact h8))
 exact absurd Si (no9 _)
theorem Vd{w f:Nat}(h:jZ sp c nx F ord tr H)(hx:x.x<18446744073709551616)(hm:eo x.op=some (w,f))(hw:w<256)(hl:iS c.n F w x≠0):
  Fc zQ 16 #[ptr sp,x.v] H (λv H'=>v=eV (iS c.n F w x) (-1) 0 0/\H'=H):=by
 refine qV (λv H h=>?_) (λw' f' hm'=>?_) (λf hn=>by rw[hm]at hn;cases hn) (λhn=>by rw[hm]at hn;cases hn)
 ·obtain⟨rfl,_⟩:=h;exact⟨_,_,_,_,rfl⟩
 rw[hm]at hm';cases hm';exact Fc.mono (vS h hx hw hl) λv H ⟨e1,e2⟩=>⟨e2,e1⟩
theorem wV{f:Nat}{Q:zV->Hp->Prop}(hm:eo x.op=none)(ha:m6 x.op=some f)(hQ:∀v H,Q v H->Z8 v)(h:Fc zQ f #[ptr sp,x.v] H Q):Fc zQ 16 #[ptr sp,x.v] H Q:=
 qV hQ (λw f hn=>by rw[hm]at hn;cases hn) (λf' _ dY _=>by rw[ha]at dY;cases dY;exact h) (λ_ hn=>by rw[ha]at hn;cases hn)
end
def awS:List fI:=[⟨1,0,0,0,0⟩,⟨1,1,0,0,0⟩,⟨4,0,1,0,0⟩,⟨16,2,0,0,0⟩,⟨14,2,0,0,3⟩,⟨1,2,0,0,0⟩]
def awR:List Rp:=[⟨0,0,0,1⟩,⟨0,1,0,1⟩,⟨0,2,0,1⟩,⟨0, -1,1,0⟩,⟨0, -1,1,0⟩,⟨2, -1,0,0⟩]
def awF:FS:=[(0,λy=>y.testBit 0),(1,λy=>y.testBit 1),(2,λy=>y.testBit 0&&y.testBit 1)]
def XS:Cf:=⟨2,1048576,0,100,0⟩
theorem Bs:XS.Ok:=⟨by decide,by decide,by decide,by decide,by decide,by decide⟩
theorem WH{i sp:Nat}{H:Hp}{x:fI}(hx:awS[i]? =some x)(h:jZ sp XS (min i 3) (awF.take i) [0,1] [] H):
  Fc zQ 16 #[ptr sp,x.v] H (λv H'=>∃r,awR[i]? =some r/\v=r.v/\jZ sp XS (min (i+1) 3) (awF.take (i+1)) [0,1] [] H'):=by
 have hi:i<6:=(xah.1 hx).1;obtain rfl|rfl|rfl|rfl|rfl|rfl:i=0\/i=1\/i=2\/i=3\/i=4\/i=5:=by omega
 ·cases hx;refine(sE h Bs zD zD (w:=8) rfl (rS rfl).1 (rS (x:=⟨1,0,0,0,0⟩) rfl).2 zD rfl zD zD).mono ?_;rintro v H' ⟨rfl,h'⟩;exact⟨_,rfl,rfl,h'⟩
 ·cases hx;refine(sE h Bs zD zD (w:=8) rfl (rS rfl).1 (rS (x:=⟨1,1,0,0,0⟩) rfl).2 zD rfl zD zD).mono ?_;rintro v H' ⟨rfl,h'⟩;exact⟨_,rfl,rfl,h'⟩
 ·cases hx;refine(sE h Bs zD zD (w:=3) rfl (D8 rfl).1 (D8 (x:=⟨4,0,1,0,0⟩) rfl).2 zD rfl zD zD).mono ?_;rintro v H' ⟨rfl,h'⟩;exact⟨_,rfl,rfl,h'⟩
 ·cases hx;refine wV (f:=90) rfl rfl (λv H h=>?_) (Fc.mono (KO h) ?_)
  ·obtain⟨r,_,rfl,_⟩:=h;exact⟨_,_,_,_,rfl⟩
  rintro v H' ⟨rfl,rfl⟩;refine⟨_,rfl,?_,h⟩;have:sat 2 (λy=>y.testBit 0&&y.testBit 1)%Bw=1:=by decide+kernel
  show eV 0 (-1) (sat 2 (λy=>y.testBit 0&&y.testBit 1)%Bw) 0=_;rw[this];rfl
 ·cases hx;refine wV (f:=88) rfl rfl (λv H h=>?_) (Fc.mono (Bf h zD) ?_)
  ·obtain⟨r,_,rfl,_⟩:=h;exact⟨_,_,_,_,rfl⟩
  rintro v H' ⟨rfl,rfl⟩;exact⟨_,rfl,rfl,h⟩
 cases hx;refine(Vd h zD (w:=8) rfl zD zD).mono ?_;rintro v H' ⟨rfl,rfl⟩;exact⟨_,rfl,rfl,h⟩
set_option maxHeartbeats 1000000 in
theorem GI(B:Hp):Rd zQ 13 #[] B (· =.bool true):=by
 refine aE λg=>O9 (aa.eq (QG 2 _) (Build.mk (cs:=fI.cells ⟨1,0,0,0,0⟩) zK ?_));refine Build.mk (cs:=fI.cells ⟨1,1,0,0,0⟩) zK (Build.mk (cs:=fI.cells ⟨4,0,1,0,0⟩) zK (Build.mk (cs:=fI.cells ⟨16,2,0,0,0⟩) zK (Build.mk (cs:=fI.cells ⟨14,2,0,0,3⟩) zK (Build.mk (cs:=fI.cells ⟨1,2,0,0,0⟩) zK ?_))));refine au.many (e:=35) (k:=5) (z:=.agg #[.int .u8 0,i64 0,i64 0,i64 0,u64 0]) (awS.map fI.cells) zK zK zK zD zD rfl rfl λbx=>?_;refine aa.fn (bG.left (A:=B)) (UT (c:=XS.i) (steps:=awS) (Y:=[(bx,_)]) (Xc zD zD rfl) zD (λi sp l H=>l=awR.take i/\jZ sp XS (min i 3) (awF.take i) [0,1] [] H) (λd hd hok sp kp mb C hK=>?_) (λi sp l H x he hx hI hl=>?_)) ?_
 ·have:d=XS:=by
   obtain⟨a1,a2,a3,a4,a5⟩:=d;simp only[XS,Cf.i,xQ.mk.injEq]at hd;simp only[XS,Cf.mk.injEq];omega
  subst this;exact⟨rfl,Lk hK⟩
 ·obtain⟨rfl,hI⟩:=hI;refine(WH hx hI).mono ?_;rintro v H' ⟨r,hr,rfl,h'⟩;exact⟨r,rfl,by rw[xbo,hr];rfl,h'⟩
 rintro w H (⟨hne,_⟩|⟨_,sp,l,s,CR,HS,rfl,rfl,hR,hl,hI⟩)
 ·exact absurd Bs.g9 hne
 have hl6:l=awR:=hI.1;subst hl6;refine Ext.two (Build.mk (cs:=Rp.cells ⟨0,0,0,1⟩) zK (Build.mk (cs:=Rp.cells ⟨0,1,0,1⟩) zK (Build.mk (cs:=Rp.cells ⟨0,2,0,1⟩) zK (Build.mk (cs:=Rp.cells ⟨0, -1,1,0⟩) zK (Build.mk (cs:=Rp.cells ⟨0, -1,1,0⟩) zK (Build.mk (cs:=Rp.cells ⟨2, -1,0,0⟩) zK ?_))))));refine au.many (e:=37) (k:=4) (z:=.agg #[i64 0,i64 0,u64 0,i64 0]) (awR.map Rp.cells) zK zK zK zD zD rfl rfl λby'=>?_;intro J23 h23;refine ae.ik (Split.go zD ?_);refine aa.eh .here (MM (l:=awR) (r:=awR) ((Sl.q6 hR zD).mono λ_ h=>?_) ((Xc (T:=37) zD zD rfl).mono λ_ h=>?_) zD) ?_
 ·exact .tail _ (xad _ (xad _ h))
 ·rw[xaG.1 h];exact .head _
 rw[lq.2 rfl];refine aL.mk (JE.mk (h23 _ _ λ_=>?_));exact bg.mk (.skip aN.right) rfl
def g0:aA.Fn:=λy=>y.testBit 0
def g1:aA.Fn:=λy=>y.testBit 1
def g2:aA.Fn:=λy=>y.testBit 0&&y.testBit 1
def g3:aA.Fn:=λy=> !g2 y
def g4:aA.Fn:=λ_=>decide ((0:Int)=1)
section
variable {sp nx kp:Nat} {c:Cf} {F F':FS} {ord tr:zL} {H C:Hp} {x:fI} {K:Kd} {S:Nat->aA.Fn}
theorem Q5(h:jZ sp c nx F ord tr H):Rd zQ 93 #[ptr sp,x.v] H (λw=>(eP F x.a=false/\w=eV 3 (-1) 0 0)\/(eP F x.a=true/\fF F x.a=(λ_=>false)/\w=eV 10 (-1) 0 0)\/
  (eP F x.a=true/\fF F x.a≠(λ_=>false)/\∃V,V<18446744073709551616/\Lst c.n (fF F x.a) V/\w=eV 0 (-1) V 0)):=by
 obtain⟨kp,mb,K,S,ah,hs,es,ck,C,rfl,h,rfl⟩:=h;rw[eE,mX];refine(MD h (x:=x) (P:=λn e=>(bU S hs x.a=(λ_=>false)/\n=0/\e=10)\/(bU S hs x.a≠(λ_=>false)/\e=0/\n<18446744073709551616/\Lst c.n (bU S hs x.a) n)) λr hr=>?_).mono λv H ⟨e,hv⟩=>⟨e,?_⟩
 ·rw[bA hr];have hl:=h.live _ (h.find hr);have abo:S r=(λ_=>false)↔r=0:=by
   rw[<-show S 0=λ_=>false from funext h.ks.ok.mid.int.zero];exact h.same hl (.inl zD)
  by_cases h0:r=0
  ·subst h0;exact(MW h.ks).mono λv H ⟨e,hv⟩=>⟨e,0,10,.inl ⟨abo.2 rfl,rfl,rfl⟩,hv⟩
  refine(MV h.ks hl h0).mono λv H ⟨e,V,hV,hL,hv⟩=>⟨e,V,0,.inr ⟨λe=>h0 (abo.1 e),rfl,hV,by rw[<-h.n];exact hL⟩,hv⟩
 rcases hv with h1|⟨h1,n,e,⟨a,rfl,rfl⟩|⟨a,rfl,hV,hL⟩,h2⟩
 ·exact .inl h1
 ·exact .inr (.inl ⟨h1,a,h2⟩)
 exact .inr (.inr ⟨h1,a,n,hV,hL,h2⟩)
theorem Qp{b:Nat}{T:zL->Nat->Prop}(hc:c.Ok)(hb:b<16000000000000):TD c nx F T (λ_ _=>True) b:=by
 intro kp K S o ah tr hs' es ck C hT h hF eM;refine(KR h.ks.bc h.ks.perm hc.str hc.gr (λe=>by rw[h.n];exact hc.ex e) zO).mono ?_;rintro v H ⟨ls,d,t,rfl,hA,hS,_⟩;exact⟨ls,_,_,rfl,trivial,hA,hS.len⟩
theorem Fl(h:jZ sp c nx F ord tr H)(eM:tr.length<16000000000000):Fc zQ 97 #[ptr sp,x.v] H (λw H'=>∃(e:Int) (n:Nat) (o cT:zL),w=eV e (-1) n 0/\(e≠9/\e≠8)/\(e≠0->n=0)/\jZ sp c nx F o cT H'/\cT.length<=tr.length+66*BR c.n F ord):=by
 by_cases ha:x.a<0\/6<x.a
 ·exact Fc.mono (vq h ha) λv H ⟨h1,h2⟩=>⟨1,0,ord,tr,h2,by decide,λ_=>rfl,by rw[h1];exact h,by omega⟩
 obtain⟨s,hs⟩:∃s:Nat,x.a=s:=⟨x.a.toNat,by omega⟩;have YO:s<=6:=by omega
 by_cases hb:x.b<100\/1000<x.b
 ·exact(vp h hs YO hb).mono λv H ⟨h1,h2⟩=>⟨1,0,ord,tr,h1,by decide,λ_=>rfl,by rw[h2];exact h,by omega⟩
 obtain⟨g,hg⟩:∃g:Nat,x.b=g:=⟨x.b.toNat,by omega⟩;obtain⟨kp,mb,K,S,ah,hs',es,ck,C,rfl,h,rfl⟩:=h;have hle:=λ(o:zL) (tr:zL) (C:Hp) (h:At kp K S o tr C)=>gu h;rw[<-h.BR];have keep:∀(o cT:zL) (C':Hp),At kp K S o cT C'->jZ sp c nx (je S hs') o cT (gS sp c kp mb nx es ck C'):=λo cT C' hA=>by
  obtain⟨K',S',bW,dh,hk⟩:=hA;obtain⟨h',hS⟩:=h.kept dh hk;exact⟨kp,mb,K',S',bW,hs',es,ck,C',rfl,h',mh hS⟩
 by_cases hx:s=6/\12<c.n
 ·obtain⟨rfl,hn⟩:=hx;have hv:Rd zQ 85 #[ptr kp,.int .u8 6,i64 x.b] C (· =.tuple #[ud 0 0 0 false,iv 6]):=by rw[hg];exact Qq h.ks.bc (gr:=g) zO (by rw[h.n];exact hn)
  refine(nH (x:=x) hs YO (Q:=λe _ H=>e=6/\H=C) (Fc.mono hv λv H ⟨h1,h2⟩=>?_)).mono ?_
  ·subst h1;exact⟨_,_,_,_,_,h2,_,⟨rfl,rfl⟩,cE h.ks.bc,by have:=hle _ _ _ h.ks.bc;omega⟩
  rintro v H ⟨e,n,C',rfl,rfl,rfl,rfl⟩;exact⟨6,0,ord,tr,rfl,by decide,λ_=>rfl,keep _ _ _ h.ks.bc,by omega⟩
 refine(nH (x:=x) hs YO (Q:=λe _ H=>e=0/\∃ls,At kp K S (az ord ls) (tr++ls) H/\ls.length+66*cF K S (az ord ls)<=66*cF K S ord) (Fc.mono (by rw[hg];exact KR h.ks.bc h.ks.perm YO (gr:=g) zO (λe=>by rw[h.n];omega) zO) ?_)).mono ?_
 ·rintro v H ⟨ls,d,t,rfl,hA,hS,_⟩;exact⟨_,_,_,_,_,rfl,_,⟨rfl,ls,hA,hS.len⟩,cE hA,by have:=hle _ _ _ hA;omega⟩
 rintro v H ⟨e,n,C',rfl,rfl,rfl,ls,hA,hlen⟩;exact⟨0,n,_,_,rfl,by decide,λh=>absurd rfl h,keep _ _ _ hA,by rw[xaf];omega⟩
def adF(n:Nat)(F:FS)(x:fI)(e:Int)(N:Nat):Prop:=
 (x.op=14\/x.op=15\/x.op=16\/x.op=19\/x.op=20)->
 if(eP F x.a&& (decide (x.op≠15)||eP F x.b))=true then
  (x.op=14->e=0/\N=(fF F x.a x.x).toNat)/\(x.op=15->e=0/\N=(@decide (fF F x.a=fF F x.b) (Classical.propDecidable _)).toNat)/\(x.op=16->e=0/\N=sat n (fF F x.a)%Bw)/\
  (x.op=19->(fF F x.a=(λ_=>false)/\e=10/\N=0)\/(fF F x.a≠(λ_=>false)/\e=0/\Lst n (fF F x.a) N))/\(x.op=20->e=0/\WR (fF F x.a) N)
 else e=3/\N=0
def Want(n nx:Nat)(F:FS)(x:fI)(e h:Int)(N:Nat)(F':FS)(nP:Nat):Prop:=
 match eo x.op with
 |some (w,_)=>if iS n F w x=0 then e=0/\h=nx/\N=0/\F'=F++[((nx:Int),dM n (fF F) x)]/\nP=nx+1 else e=iS n F w x/\h= -1/\N=0/\F'=F/\nP=nx
 |none=>
  if x.op=12 then if eP F x.a=true then e=0/\h=nx/\N=0/\F'=F++[((nx:Int),fF F x.a)]/\nP=nx+1 else e=3/\h= -1/\N=0/\F'=F/\nP=nx
  else if x.op=13 then if eP F x.a=true then e=0/\h= -1/\N=0/\F'=ia F x.a/\nP=nx else e=3/\h= -1/\N=0/\F'=F/\nP=nx
  else h= -1/\F'=F/\nP=nx/\adF n F x e N
def Small(n rs nx:Nat)(F:FS)(x:fI)(r:Rp)(F':FS)(nP:Nat):Prop:=
 (r.e=9/\r.h= -1/\F'=F/\nP=nx/\((x.op=22/\r.t=0)\/((1<=x.op/\x.op<=11)/\r.t=(rs:Int)+1)))\/
 (r.e≠9/\r.e≠8/\Want n nx F x r.e r.h r.n F' nP/\(if 1<=x.op/\x.op<=11 then(r.e=0->1<=r.t/\r.t<=(rs:Int)+1)/\(r.e≠0->r.t=0)else r.t=0))
def Full(rs nx:Nat)(F:FS)(x:fI)(r:Rp)(F':FS)(nP:Nat):Prop:=
 r.e=8/\r.h= -1/\F'=F/\nP=nx/\(∃g,65533<=ye (uu F) g)/\((x.op=12/\r.t=0)\/((1<=x.op/\x.op<=11)/\1<=r.t/\r.t<=(rs:Int)+1))
def jl(sp:Nat)(c:Cf)(nx:Nat)(F:FS)(ord tr:zL)(x:fI)(v:zV)(H:Hp):Prop:=
 ∃(r:Rp) (F':FS) (nP:Nat) (o cT:zL),v=r.v/\jZ sp c nP F' o cT H/\cT.length<=tr.length+66*BR c.n F ord+1/\(Small c.n c.rs nx F x r F' nP\/Full c.rs nx F x r F' nP)/\((F.length+3)*2^c.n+2<=c.cap->x.op≠22->r.e≠9)/\(r.e≠0\/x.op<=13->r.n=0)
end
section
variable {sp nx kp:Nat} {c:Cf} {F F':FS} {ord tr:zL} {H C:Hp} {x:fI}
theorem yW{n w:Nat}:iS n F w x=0\/iS n F w x=1\/iS n F w x=2\/iS n F w x=3:=by
 unfold iS
 repeat' split
 all_goals simp
theorem vR{op:Nat}{p:Nat×Nat}(hm:eo op=some p):1<=op/\op<=11:=by
 unfold eo at hm
 repeat' split at hm
 all_goals first|omega|cases hm
theorem Tn{op f:Nat}(hm:m6 op=some f):op=12\/op=13\/op=14\/op=15\/op=16\/op=17\/op=18\/op=19\/op=20\/op=21\/op=22\/op=23:=by
 refine xaK λhn=>?_;unfold m6 at hm;rw[xac zO,xac zO,xac zO,xac zO,xac zO,xac zO,xac zO,xac zO,xac zO,xac zO,xac zO,xac zO]at hm;cases hm
theorem jl.rp{v:zV}(h:jl sp c nx F ord tr x v H):Z8 v:=by
 obtain⟨r,_,_,_,_,e,_⟩:=h;exact⟨r.e,r.h,r.n,r.t,e⟩
theorem cM{n:Nat}{e:Int}{N:Nat}(hm:eo x.op=none)(h1:x.op≠12)(h2:x.op≠13)(hA:adF n F x e N):Want n nx F x e (-1) N F nx:=by
 unfold Want;rw[hm];dsimp only;rw[xac h1,xac h2];exact⟨rfl,rfl,rfl,hA⟩
theorem bD{v:zV}{H':Hp}{o cT:zL}(hop:12<=x.op\/x.op=0)(e:Int)(N:Nat)(hv:v=eV e (-1) N 0)(he:e≠9/\e≠8)(h':jZ sp c nx F o cT H')(hb:cT.length<=tr.length+66*BR c.n F ord+1)(hW:Want c.n nx F x e (-1) N F nx)(hN:e≠0\/x.op<=13->N=0):jl sp c nx F ord tr x v H':=
 ⟨⟨e, -1,N,0⟩,F,nx,o,cT,hv,h',hb,.inl (.inr ⟨he.1,he.2,hW,by rw[xac zO]⟩),λ_ _=>he.1,hN⟩
theorem Mz(h:jZ sp c nx F ord tr H)(hc:c.Ok)(BJ:nx+1<9223372036854775808)(hx:x.x<18446744073709551616)(eM:tr.length+66*BR c.n F ord<16000000000000):
  Fc zQ 16 #[ptr sp,x.v] H (jl sp c nx F ord tr x):=by
 have hlen:(uu F).length=F.length:=by unfold uu;rw[xav]
 refine qV (λv H h=>h.rp) (λw f hm=>?_) (λf hm ha fN=>?_) (λhm ha=>?_)
 ·obtain⟨hf,fN,hw⟩:=WB hm;have hop:=vR hm;by_cases hl:iS c.n F w x=0
  ·refine(Lf (R:=λ_ _=>True) h hc BJ hx hf fN hw hl (Qp hc zO)).mono ?_;rintro v H' ⟨t,o,cT,ht,hT,⟨rfl,h',h0⟩|⟨e,he,rfl,h',Si,h9,hb⟩⟩
   ·refine⟨⟨0,nx,0,t⟩,_,_,o,[],rfl,h',by simp,.inl (.inr ⟨by simp,by simp,?_,?_⟩),λ_ _=>by simp,λ_=>rfl⟩
    ·unfold Want;rw[hm];dsimp only;rw[xae hl];exact⟨rfl,rfl,rfl,rfl,rfl⟩
    rw[xae hop];have:=hT.pos;exact⟨λ_=>⟨by simp only;omega,by simp only;omega⟩,λh=>absurd rfl h⟩
   rcases he with rfl|rfl
   ·have:=hT.pos;exact⟨⟨8, -1,0,t⟩,F,nx,o,cT,rfl,h',by omega,.inr ⟨rfl,rfl,rfl,rfl,CI Si,.inr ⟨hop,by simp only;omega,by simp only;omega⟩⟩,λ_ _=>by simp,λ_=>rfl⟩
   have ht9:=h9 rfl;subst ht9;refine⟨⟨9, -1,0,((c.rs+1:Nat):Int)⟩,F,nx,o,cT,rfl,h',by omega,.inl (.inl ⟨rfl,rfl,rfl,rfl,.inr ⟨hop,by simp⟩⟩),λhr _=>absurd Si (CG (by rw[hlen];exact hr)),λ_=>rfl⟩
  refine Fc.mono (vS h hx hw hl) λv H' ⟨e1,e2⟩=>?_;have akr:=yW (n:=c.n) (F:=F) (w:=w) (x:=x);refine⟨⟨iS c.n F w x, -1,0,0⟩,F,nx,ord,tr,e2,by rw[e1];exact h,by omega,.inl (.inr ⟨by simp only;omega,by simp only;omega,?_,?_⟩),λ_ _=>by simp only;omega,λ_=>rfl⟩
  ·unfold Want;rw[hm];dsimp only;rw[xac hl];exact⟨rfl,rfl,rfl,rfl,rfl⟩
  rw[xae hop];exact⟨λh=>absurd h hl,λ_=>rfl⟩
 ·rcases Tn ha with e|e|e|e|e|e|e|e|e|e|e|e
  ·have hd:Fc zQ 86 #[ptr sp,x.v] H (jl sp c nx F ord tr x):=by
    refine(ZI h BJ).mono ?_;rintro v H' (⟨e1,rfl,rfl⟩|⟨_,hF,e8,e9⟩|⟨e1,_,rfl,h'⟩)
    ·refine bD zO 3 0 rfl zD h zO ?_ (λ_=>rfl);unfold Want;rw[hm];dsimp only;rw[xae e,xac (by rw[e1];decide)];exact⟨rfl,rfl,rfl,rfl,rfl⟩
    ·exact⟨⟨8, -1,0,0⟩,F,nx,ord,tr,e8,by rw[e9];exact h,by omega,.inr ⟨rfl,rfl,rfl,rfl,⟨_,xbw zD hF.2⟩,.inl ⟨e,rfl⟩⟩,λ_ _=>by simp,λ_=>rfl⟩
    refine⟨⟨0,nx,0,0⟩,_,_,ord,[],rfl,h',by simp,.inl (.inr ⟨by simp,by simp,?_,by rw[xac zO]⟩),λ_ _=>by simp,λ_=>rfl⟩;unfold Want;rw[hm];dsimp only;rw[xae e,xae e1];exact⟨rfl,rfl,rfl,rfl,rfl⟩
   rw[e]at ha;cases ha;exact hd
  ·have hd:Fc zQ 87 #[ptr sp,x.v] H (jl sp c nx F ord tr x):=by
    refine(Wp h).mono ?_;rintro v H' (⟨e1,rfl,rfl⟩|⟨e1,rfl,h'⟩)
    ·refine bD zO 3 0 rfl zD h zO ?_ (λ_=>rfl);unfold Want;rw[hm];dsimp only;rw[xac zO,xae e,xac (by rw[e1];decide)];exact⟨rfl,rfl,rfl,rfl,rfl⟩
    refine⟨⟨0, -1,0,0⟩,_,_,ord,[],rfl,h',by simp,.inl (.inr ⟨by simp,by simp,?_,by rw[xac zO]⟩),λ_ _=>by simp,λ_=>rfl⟩;unfold Want;rw[hm];dsimp only;rw[xac zO,xae e,xae e1];exact⟨rfl,rfl,rfl,rfl,rfl⟩
   rw[e]at ha;cases ha;exact hd
  ·have hd:Fc zQ 88 #[ptr sp,x.v] H (jl sp c nx F ord tr x):=by
    refine Fc.mono (Bf h hx) λv H' ⟨e1,e2⟩=>?_;subst e1;cases hb:eP F x.a with
    |true=>
     rw[hb,xae rfl]at e2;refine bD zO 0 _ e2 zD h zO (cM hm zO zO λ_=>?_) (λh=>by omega);rw[xae (by rw[hb,e];rfl)];exact⟨λ_=>⟨rfl,rfl⟩,by omega,by omega,by omega,by omega⟩
    |false=>
     rw[hb,xac zD]at e2;refine bD zO 3 0 e2 zD h zO (cM hm zO zO λ_=>?_) (λ_=>rfl);rw[xac (by rw[hb];simp)];exact⟨rfl,rfl⟩
   rw[e]at ha;cases ha;exact hd
  ·have hd:Fc zQ 89 #[ptr sp,x.v] H (jl sp c nx F ord tr x):=by
    refine Fc.mono (UK h) λv H' ⟨e1,e2⟩=>?_;subst e1;cases hb:eP F x.a&&eP F x.b with
    |true=>
     rw[hb,xae rfl]at e2;refine bD zO 0 _ e2 zD h zO (cM hm zO zO λ_=>?_) (λh=>by omega);rw[xae (by rw[e];simpa using hb)];exact⟨by omega,λ_=>⟨rfl,rfl⟩,by omega,by omega,by omega⟩
    |false=>
     rw[hb,xac zD]at e2;refine bD zO 3 0 e2 zD h zO (cM hm zO zO λ_=>?_) (λ_=>rfl);rw[xac (by rw[e];simp only[ne_eq,not_true_eq_false,xdp,xdy];rw[hb];decide)];exact⟨rfl,rfl⟩
   rw[e]at ha;cases ha;exact hd
  ·have hd:Fc zQ 90 #[ptr sp,x.v] H (jl sp c nx F ord tr x):=by
    refine Fc.mono (KO h) λv H' ⟨e1,e2⟩=>?_;subst e1;cases hb:eP F x.a with
    |true=>
     rw[hb,xae rfl]at e2;refine bD zO 0 _ e2 zD h zO (cM hm zO zO λ_=>?_) (λh=>by omega);rw[xae (by rw[hb,e];rfl)];exact⟨by omega,by omega,λ_=>⟨rfl,rfl⟩,by omega,by omega⟩
    |false=>
     rw[hb,xac zD]at e2;refine bD zO 3 0 e2 zD h zO (cM hm zO zO λ_=>?_) (λ_=>rfl);rw[xac (by rw[hb];simp)];exact⟨rfl,rfl⟩
   rw[e]at ha;cases ha;exact hd
  ·have hd:Fc zQ 91 #[ptr sp,x.v] H (jl sp c nx F ord tr x):=by
    refine Fc.mono (UC h) λv H' ⟨e1,e2⟩=>?_;subst e1;have w:∀e' N,Want c.n nx F x e' (-1) N F nx:=λe' N=>cM hm zO zO λ_=>by omega
    cases hb:eP F x.a with
    |true=>
     rw[hb,xae rfl]at e2;exact bD zO 0 _ e2 zD h zO (w _ _) (λh=>by omega)
    |false=>
     rw[hb,xac zD]at e2;exact bD zO 3 0 e2 zD h zO (w _ _) (λ_=>rfl)
   rw[e]at ha;cases ha;exact hd
  ·have hd:Fc zQ 92 #[ptr sp,x.v] H (jl sp c nx F ord tr x):=by
    refine Fc.mono (Vk h) λv H' ⟨e1,e2⟩=>?_;subst e1;exact bD zO 0 _ e2 zD h zO (cM hm zO zO λ_=>by omega) (λh=>by omega)
   rw[e]at ha;cases ha;exact hd
  ·have hd:Fc zQ 93 #[ptr sp,x.v] H (jl sp c nx F ord tr x):=by
    refine Fc.mono (Q5 h) λv H' ⟨e1,e2⟩=>?_;subst e1;rcases e2 with⟨hb,e2⟩|⟨hb,hf,e2⟩|⟨hb,hf,V,hV,hL,e2⟩
    ·refine bD zO 3 0 e2 zD h zO (cM hm zO zO λ_=>?_) (λ_=>rfl);rw[xac (by rw[hb];simp)];exact⟨rfl,rfl⟩
    ·refine bD zO 10 0 e2 zD h zO (cM hm zO zO λ_=>?_) (λ_=>rfl);rw[xae (by rw[hb,e];rfl)];exact⟨by omega,by omega,by omega,λ_=>.inl ⟨hf,rfl,rfl⟩,by omega⟩
    refine bD zO 0 V e2 zD h zO (cM hm zO zO λ_=>?_) (λh=>by omega);rw[xae (by rw[hb,e];rfl)];exact⟨by omega,by omega,by omega,λ_=>.inr ⟨hf,rfl,hL⟩,by omega⟩
   rw[e]at ha;cases ha;exact hd
  ·have hd:Fc zQ 94 #[ptr sp,x.v] H (jl sp c nx F ord tr x):=by
    refine Fc.mono (E6 h) λv H' ⟨e1,e2⟩=>?_;subst e1;rcases e2 with⟨hb,e2⟩|⟨hb,m,hm',e2⟩
    ·refine bD zO 3 0 e2 zD h zO (cM hm zO zO λ_=>?_) (λ_=>rfl);rw[xac (by rw[hb];simp)];exact⟨rfl,rfl⟩
    refine bD zO 0 m e2 zD h zO (cM hm zO zO λ_=>?_) (λh=>by omega);rw[xae (by rw[hb,e];rfl)];exact⟨by omega,by omega,by omega,by omega,λ_=>⟨rfl,hm'⟩⟩
   rw[e]at ha;cases ha;exact hd
  ·have hd:Fc zQ 95 #[ptr sp,x.v] H (jl sp c nx F ord tr x):=by
    refine Fc.mono (Q0 h) λv H' ⟨e1,e2⟩=>?_;subst e1;have w:∀e' N,Want c.n nx F x e' (-1) N F nx:=λe' N=>cM hm zO zO λ_=>by omega
    rcases e2 with⟨_,e2⟩|⟨_,p,_,_,e2⟩
    ·exact bD zO 2 0 e2 zD h zO (w _ _) (λ_=>rfl)
    exact bD zO 0 p e2 zD h zO (w _ _) (λh=>by omega)
   rw[e]at ha;cases ha;exact hd
  ·have hd:Fc zQ 96 #[ptr sp,x.v] H (jl sp c nx F ord tr x):=by
    refine(Wu h zO).mono ?_;have w:∀e' N,Want c.n nx F x e' (-1) N F nx:=λe' N=>cM hm zO zO λ_=>by omega
    rintro v H' (⟨_,e2,rfl⟩|⟨l,_,_,_,e2,rfl⟩|⟨l,_,_,_,e2,h'⟩)
    ·exact bD zO 1 0 e2 zD h zO (w _ _) (λ_=>rfl)
    ·exact⟨⟨9, -1,0,0⟩,F,nx,ord,tr,e2,h,by omega,.inl (.inl ⟨rfl,rfl,rfl,rfl,.inl ⟨e,rfl⟩⟩),λ_ hn=>absurd e hn,λ_=>rfl⟩
    exact bD zO 0 0 e2 zD h' (by rw[xaf,xcj];omega) (w _ _) (λ_=>rfl)
   rw[e]at ha;cases ha;exact hd
  have hd:Fc zQ 97 #[ptr sp,x.v] H (jl sp c nx F ord tr x):=by
   refine(Fl h zO).mono ?_;have w:∀e' N,Want c.n nx F x e' (-1) N F nx:=λe' N=>cM hm zO zO λ_=>by omega
   rintro v H' ⟨e',n,o,cT,e2,hne,VP,h',hb⟩;exact bD zO e' n e2 hne h' zO (w _ _) (λh=>VP zO)
  rw[e]at ha;cases ha;exact hd
 have hop:¬(1<=x.op/\x.op<=11):=λhop=>by
  have:x.op=1\/x.op=2\/x.op=3\/x.op=4\/x.op=5\/x.op=6\/x.op=7\/x.op=8\/x.op=9\/x.op=10\/x.op=11:=by omega
  rcases this with e|e|e|e|e|e|e|e|e|e|e<;>rw[e]at hm<;>cases hm
 have aj4:¬(12<=x.op/\x.op<=23):=λhop=>by
  have:x.op=12\/x.op=13\/x.op=14\/x.op=15\/x.op=16\/x.op=17\/x.op=18\/x.op=19\/x.op=20\/x.op=21\/x.op=22\/x.op=23:=by omega
  rcases this with e|e|e|e|e|e|e|e|e|e|e|e<;>rw[e]at ha<;>cases ha
 exact⟨⟨12, -1,0,0⟩,F,nx,ord,tr,rfl,h,by omega,.inl (.inr ⟨by simp,by simp,cM hm zO zO λ_=>by omega,by rw[xac hop]⟩),λ_ _=>by simp,λ_=>rfl⟩
end
end
section
def nI(x:Nat):zV:=iv (x:Int)
theorem Qc{v:zV}{C:Hp}{l:List Int}(h:aO 3 .i64 v l C)(cD:l.length<1152921504606846976):Fc zQ 99 #[v] C (λr C'=>r=.tuple #[]/\aO 3 .i64 v (Fa l) C'):=by
 refine aE λg=>Ox (h.bP ?_);refine aZ.q (aa.rq (Bo zO C) ?_);rintro w ⟨r,_,rfl⟩;have hd:Da 3 .i64 v l.toArray C:=h;refine aa.fn .here (KY aaR l.length hd (a:=0) (b:=l.length) zO zO zI (by simpa using cD) (.inl rfl) _) ?_;rintro w C' ⟨rfl,e,⟨h1,h2⟩,dN⟩;have he:=Qb (d:=l.toArray) (by simpa using h1) (by simpa using h2);exact aM.here ⟨rfl,by rw[show Fa l=e.toList from he.symm];exact dN⟩
open aA
section
noncomputable abbrev AFI:Func:=Tryz.f152
variable {f:FuncId} {cap:Array zV} {B:Hp} {N:Nat} {S:zL->Prop}
noncomputable def cJ:Code:=match AFI.body with|some (.seq _ (.seq (.seq _ (.block _ (.rangeFunc _ _ c _))) _))=>c|_=>.skip
noncomputable def dO:Code:=match AFI.body with|some (.seq _ (.seq (.seq _ (.block _ (.rangeFunc _ _ _ c))) _))=>c|_=>.skip
noncomputable def LV(i:Nat):Oper:=match dO with| .block _ (.region _ ops _)=>(match ops[i]? with|some o=>o|none=>default)|_=>default
def iG(fn:FuncId)(tmps:Array zV)(assign body:Code)(D:Nat):Loop:={state:=.ready,pending:=none,fn,tmps,params:=#[7],assign,body,defers:=D}
def aaf(l D bs:Nat)(fn:FuncId)(tmps:Array zV)(assign body:Code)(ss:zL)(A:Hp):Prop:=
 ∃v C',A=(l,.loop (iG fn tmps assign body D))::(D,.deferred (some []))::(bs,.cells #[v] 43 zZ)::C'/\aO 3 .i64 v (iw ss) C'
theorem Ol{g:Gh}{l D bs:Nat}{fn:FuncId}{tmps:Array zV}{fr:Fr}(hsz:tmps.size=13)(gP:∀s,tmps.getD s undef=fr s)(f2:fr 2=ptr bs){ss:zL}{x:Nat}{A X:Hp}{W:World}
 (hG:aaf l D bs fn tmps cJ dO ss A)(hl:ss.length<1099511627776)(hW:Own g (A++X) W):
  YieldAt Fence.wide 0 zQ l #[nI x] W (λe W'=>e=.returned (.bool true)/\∃A',aaf l D bs fn tmps cJ dO (ss++[x]) A'/\Own g (A'++X) W'):=by
 obtain⟨v,C',rfl,ho⟩:=hG;have hF:∀f,(Fence.wide.inRound l).fn f:=λ_=>trivial;have hL:W.heap[l]? =some (.loop (iG fn tmps cJ dO D)):=hW.has _ (.head _);refine⟨fn,_,cJ,dO,run_yield hL rfl,roundIn_of_wpIn trivial ?_⟩;have ha:xR [] 13 {tmps:=tmps.setIfInBounds 7 (nI x),defers:=[]} (br fr (some 7) (nI x)):=(xR.put (a:={tmps:=tmps,defers:=[]}) (d:=some 7) ⟨rfl,hsz,gP⟩ rfl (nI x));have ha:xR [] 13 {tmps:=(#[7].zip #[nI x]).foldl (λtmps (t,a)=>tmps.setIfInBounds t a) tmps,defers:=[]} (br fr (some 7) (nI x)):=by simpa using ha
 change Code.wpIn _ 0 zQ (.region _ #[_] false) _ _ _;refine wpIn_region_lit ?_;refine dA (g:=g) (n:=13) (v0:=nI x) hF rfl zC rfl ha hW rfl λa1 ur=>?_;refine wpListIn_nil ?_;have hbr:=run_beginRound (P:=zQ) hL rfl;refine⟨_,hbr,?_⟩;have DD:=hW.putObj (o':=.loop {iG fn tmps cJ dO D with state:=.busy}) (.head _);change Code.wpIn _ 0 zQ (.block _ (.region _ #[_,_,_,_,_] false)) _ _ _;refine wpIn_block ?_;refine wpIn_region_lit ?_;obtain⟨H1,ZC⟩:∃H1,H1=(l,Obj.loop {iG fn tmps cJ dO D with state:=.busy})::(((D,.deferred (some []))::(bs,.cells #[v] 43 zZ)::C')++X):=⟨_,rfl⟩
 replace DD:Own g H1 (W.putObj l (.loop {iG fn tmps cJ dO D with state:=.busy})):=by rw[ZC];exact DD
 have e0:AO zQ g (LV 0) (ev (br (br fr (some 7) (nI x)) (some 5) (nI x))) H1 (λz=>z=v)=Ld H1 (fr 2) (λz=>z=v):=by kernel_rfl
 refine dA (g:=g) (n:=13) (v0:=v) hF rfl zC rfl ur DD (e0.mpr (by rw[f2];exact Ld.mk (by rw[ZC];exact .tail _ (.tail _ (.head _))) rfl rfl)) λa2 qu=>?_;refine dA (g:=g) (n:=13) (v0:=nI x) hF rfl zC rfl qu DD rfl λa3 uH=>?_;have eb:∀K:zV->Hp->Prop,au zQ 43 1 [(0,iv (x:Int))] H1 K=M1 zQ g (LV 2) (ev (br (br (br (br fr (some 7) (nI x)) (some 5) (nI x)) (some 8) v) (some 9) (nI x))) H1 K (λ_ _=>False):=λK=>by kernel_rfl
 refine yE (g:=g) (n:=13) (s:=_) (K:=λv H=>∃b,v=.slice (some ⟨b,0,none⟩) 1 1/\H=(b,.cells (ax .i64 [(x:Int)]) 3 zZ)::H1) hF rfl zC rfl uH DD rfl
  ((eb _).mp (au.int zK zK zK λb=>⟨b,rfl,rfl⟩)) λv1 H2 w2 a4 hv Sg Gi=>?_
 obtain⟨b,rfl,rfl⟩:=hv;have hn:(iw ss).length=ss.length:=aq ss;obtain⟨H2,hH2⟩:∃H2,H2=(b,Obj.cells (ax .i64 [(x:Int)]) 3 zZ)::H1:=⟨_,rfl⟩;rw[<-hH2]at Sg;refine yE (g:=g) (n:=13) (s:=_) (K:=λv' H=>∃C2,aO 3 .i64 v' (iw (ss++[x])) C2/\H=(b,Obj.cells (ax .i64 [(x:Int)]) 3 zZ)::(l,Obj.loop {iG fn tmps cJ dO D with state:=.busy})::(D,.deferred (some []))::(bs,.cells #[v] 43 zZ)::(C2++X))
  hF rfl zC rfl Gi Sg (by simp only[execOp,resolve,invoke,builtin];simp[bind,Sem.bind];rfl) ?_ λv2 H3 w3 a5 hv Ba Gg=>?_
 ·have e1:∀K:zV->Hp->Prop,App zQ 3 1 8 (iv 0) H2 v (.slice (some ⟨b,0,none⟩) 1 1) K=
   M1 zQ g (LV 3) (ev (br (br (br (br (br fr (some 7) (nI x)) (some 5) (nI x)) (some 8) v) (some 9) (nI x)) (some 10) (.slice (some ⟨b,0,none⟩) 1 1))) H2 K (λ_ _=>False):=λK=>by kernel_rfl
  refine(e1 _).mp ?_;rw[hH2,ZC];refine ho.pC (.cons (.cons (.cons (.cons .left)))) (by exact .head _) zO zO λv' C2 tD=>⟨C2,?_,rfl⟩;rw[cg];exact tD
 obtain⟨C2,tD,rfl⟩:=hv;have es:∀(H:Hp) (K:zV->Hp->Prop),St 1 H (fr 2) v2 (λH'=>K undef H')=M1 zQ g (LV 4) (ev (br (br (br (br (br (br fr (some 7) (nI x)) (some 5) (nI x)) (some 8) v) (some 9) (nI x)) (some 10) (.slice (some ⟨b,0,none⟩) 1 1)) (some 11) v2)) H K (λ_ _=>False):=λH K=>by kernel_rfl
 refine Xb (g:=g) (n:=13) (s:=_) (K:=λ_ H=>H=(b,Obj.cells (ax .i64 [(x:Int)]) 3 zZ)::(l,Obj.loop {iG fn tmps cJ dO D with state:=.busy})::(D,.deferred (some []))::(bs,.cells #[v2] 43 zZ)::(C2++X))
  hF rfl zC rfl Gg Ba rfl ((es _ _).mp ?_) λH4 w4 a6 hv V7 Gf=>?_
 ·rw[f2];exact St.one (.tail (.tail (.tail (.head _)))) tD.one zI rfl rfl
 subst hv;refine wpListIn_nil ?_;simp only[Exit.inBlock,roundPost];refine⟨_,_,run_endRound none (V7.has _ (.tail _ (.head _))),rfl,_,⟨v2,C2,rfl,tD⟩,?_⟩;exact(V7.putObj (.tail (.head _))).tail
theorem GK(hg:tY zQ f cap B nI N S)(hc:aT zQ f=true)(hN:N<=1099511627776):
  Fc zQ 152 #[.slice none 0 0,.func (.func f) #[] cap] B (λv H=>∃ss C',S ss/\H=C'++B/\aO 3 .i64 v (iw ss) C'):=by
 intro g w hw;rw[<-callsIn_wide (n:=0)];have hF:∀f,Fence.wide.fn f:=λ_=>trivial;refine callsIn_of_wp_marks func152 rfl trivial ?_;have ha:=m9 (m:=13) (args:=[.slice none 0 0,.func (.func f) #[] cap]) zI;refine wpIn_seq ?_;refine wpIn_region_lit ?_;refine yE (g:=g) (n:=13) (s:=_) (K:=λv H=>∃bs,v=ptr bs/\H=(bs,.cells #[.slice none 0 0] 43 zZ)::B) hF rfl zC rfl ha hw rfl (λbs _=>⟨bs,rfl,rfl⟩) λv H1 w1 a1 hv jy ur=>?_;obtain⟨bs,rfl,rfl⟩:=hv;refine dA (g:=g) (n:=13) (v0:=.slice none 0 0) hF rfl zC rfl ur jy rfl λa2 qu=>?_;refine wpListIn_nil ?_;refine wpIn_seq ?_;refine wpIn_seq ?_;refine wpIn_region_lit ?_;refine dA (g:=g) (n:=13) (v0:=.func (.func f) #[] cap) hF rfl zC rfl qu jy rfl λa3 uH=>?_;refine wpListIn_nil ?_;refine wpIn_block ?_;refine wpIn_rangeFunc λfn hfn=>?_;have x6:=(jy.alloc (.deferred (some []))).alloc (.loop (iG fn a3.tmps cJ dO w1.heap.size));have f6:a3.tmps[6]?.getD undef=.func (.func f) #[] cap:=by have:=uH.get 6;rw[xas]at this;exact this
 obtain⟨W1,DD⟩:∃W1,W1=(w1.alloc (.deferred (some []))).alloc (.loop (iG fn a3.tmps cJ dO w1.heap.size)):=⟨_,rfl⟩;rw[<-DD]at x6;refine⟨w1.heap.size+1,[{target:=.collected w1.heap.size,args:=#[]}],W1,{target:=.fn (.func f) cap,args:=#[.func (.yield (w1.heap.size+1)) #[] #[]]},W1,f,#[.func (.yield (w1.heap.size+1)) #[] #[]]++cap,W1,?_,?_,λ_ _=>trivial,?_,λh=>(by cases h),?_⟩
 ·rw[DD];exact run_enterLoop_outer fn a3.tmps #[7] _ _
 ·simp[resolve,Deferred.ofValue,f6,go_sem]
 ·simp[invoke,go_sem];exact ew hc _ _
 have hsz:(w1.alloc (.deferred (some []))).heap.size=w1.heap.size+1:=by simp
 rw[hsz]at x6;refine CallsIn.mono (hg g (w1.heap.size+1) (aaf (w1.heap.size+1) w1.heap.size bs fn a3.tmps cJ dO) (λss x A X W hG hl hW=>Ol uH.size uH.get rfl hG zO hW) [_,_,_] W1 ⟨_,[],rfl,aO.nil⟩ x6) ?_;rintro e W2 ⟨⟨v0,rfl⟩,ss,A',hS,⟨v,C',rfl,ho⟩,Sg⟩;refine⟨none,_,run_endLoop (Sg.has _ (.head _)) (by simp[iG]),?_⟩;have Ba:=Sg.putObj (o':=.loop {iG fn a3.tmps cJ dO w1.heap.size with state:=.exhausted}) (.head _);simp only[Exit.then,Exit.inBlock];have Gi:xR [{target:=.collected w1.heap.size,args:=#[]}] 13 {a3 with defers:=[{target:=.collected w1.heap.size,args:=#[]}]++a3.defers} (br (br (br (gO [.slice none 0 0,.func (.func f) #[] cap] 0) (some 2) (ptr bs)) (some 4) (.slice none 0 0)) (some 6) (.func (.func f) #[] cap)):=
  ⟨by rw[uH.defers];rfl,uH.size,uH.get⟩
 refine wpIn_seq ?_;refine wpIn_region_lit ?_;obtain⟨H3,ZB⟩:∃H3,H3=(w1.heap.size+1,Obj.loop {iG fn a3.tmps cJ dO w1.heap.size with state:=.exhausted})::(((w1.heap.size,.deferred (some []))::(bs,.cells #[v] 43 zZ)::C')++B):=⟨_,rfl⟩
 replace Ba:Own g H3 (W2.putObj (w1.heap.size+1) (.loop {iG fn a3.tmps cJ dO w1.heap.size with state:=.exhausted})):=by rw[ZB];exact Ba
 have e0:AO zQ g (fh AFI 4 0) (ev (br (br (br (gO [.slice none 0 0,.func (.func f) #[] cap] 0) (some 2) (ptr bs)) (some 4) (.slice none 0 0)) (some 6) (.func (.func f) #[] cap))) H3 (λz=>z=v)=Ld H3 (ptr bs) (λz=>z=v):=by kernel_rfl
 refine dA (g:=g) (n:=13) (v0:=v) hF rfl zC rfl Gi Ba (e0.mpr (Ld.mk (by rw[ZB];exact .tail _ (.tail _ (.head _))) rfl rfl)) λa5 Gg=>?_;refine dA (g:=g) (n:=13) (v0:=v) hF rfl zC rfl Gg Ba rfl λa6 Gf=>?_;refine wpListIn_nil ?_;refine wpIn_ret ?_;simp only[Exit.then,bodyPostM];rw[Gf.defers];rw[ZB]at Ba;refine⟨by simp,.inl ⟨w1.heap.size,_,rfl,run_takeDeferred (Ba.has _ (.tail _ (.head _))),?_⟩⟩;have V7:=Ba.putObj (o':=.deferred none) (.tail (.head _));refine⟨_,results_tmp rfl _ _ _,C'++B,V7.tail.tail.tail,v,C'++B,?_,.refl _,ss,C',hS,rfl,ho⟩;have:=Gf.get 4;rw[this];rfl
end
section
variable {f:FuncId} {cap:Array zV} {B:Hp} {N:Nat} {S:zL->Prop}
theorem D3(hg:tY zQ f cap B nI N S)(hc:aT zQ f=true)(hN:N<=1099511627776):
  Fc zQ 98 #[.func (.func f) #[] cap] B (λv H=>∃ss C',S ss/\H=C'++B/\aO 3 .i64 v (iw ss) C'):=by
 refine aE λg=>Oy ?_;refine aa.fq (GK hg hc hN) ?_;rintro v H h;exact aM.here h
theorem Fb(hg:tY zQ f cap B nI N S)(hS:∀ss,S ss->ss.length<=N)(hc:aT zQ f=true)(hN:N<=1099511627776):
  Fc zQ 46 #[.func (.func f) #[] cap] B (λv H=>∃ss C',S ss/\H=C'++B/\aO 3 .i64 v (iw (Ce ss)) C'):=by
 refine aE λg=>OY ?_;refine aa.fq (D3 hg hc hN) ?_;rintro v H ⟨ss,C',hs,rfl,ho⟩;have hlen:=hS ss hs;refine aa.fn (.left (A:=B)) (Qc ho (by rw[aq];omega)) ?_;rintro w C2 ⟨rfl,cv⟩;rw[KH]at cv;exact aM.here ⟨ss,C2,hs,rfl,cv⟩
end
section
theorem EY{κ β:Type}{es:Array MapEntry}{m:List (κ×β)}{seen:Array Nat}{x:κ×β}(h:x∈bS es m seen):x∈m:=by
 obtain⟨p,hp,rfl⟩:=xam.1 h;exact(xdD (xbT.1 hp).1).2
theorem aeV{v:zV}{a:Int}(h:v=kI .i64 a)(ha:0<=a):v=nI a.toNat:=by
 rw[h];unfold nI kI;rw[Int.toNat_of_nonneg ha]
variable {es:Array MapEntry} {ck b:Nat} {m:List (Int×Nat)}
theorem ET(B:Hp):Fc zQ 47 #[.map (some b)] B
  (λv H=>∃bm,v=.func (.func 100) #[] #[ptr bm]/\H=(bm,.cells #[.map (some b)] 88 zZ)::B):=by
 refine aE λg=>OX ?_;intro b1 _;exact aM.here ⟨b1,rfl,rfl⟩
noncomputable abbrev VFI:Func:=Tryz.f100
def ag2(g:Gh)(bi b:Nat)(l:Nat)(es:Array MapEntry)(ck:Nat)(m:List (Int×Nat))(G:zL->Hp->Prop)(B:Hp)(k:Nat)(a:Act)(w:World):Prop:=
 ∃(fr:Fr) (ss:zL) (A:Hp) (seen:Array Nat),xR [] 14 a fr/\fr 0=.func (.yield l) #[] #[]/\fr 5=ptr bi/\G ss A/\Own g (A++((bi,.mapIter (some b) ck seen ck)::B)) w/\
  (ss++(bS es m seen).map (λp=>p.1.toNat)).Perm (m.map (λp=>p.1.toNat))/\k=(bS es m seen).length
theorem B3{bm:Nat}{fz:Nat×Nat}(h:aD (kI .i64) (λv (r:Nat)=>v=u32 r) es ck m)(hpos:∀p∈m,0<=p.1):tY zQ 100 #[ptr bm] [(bm,.cells #[.map (some b)] 88 fz),(b,.map es ck)] nI m.length
  (λss=>ss.Perm (m.map (λp=>p.1.toNat))):=by
 intro g l G hY A W h0 hW;have hF:∀f,Fence.wide.fn f:=λ_=>trivial;refine callsIn_of_wp func100 rfl trivial ?_;have ha:=m9 (m:=14) (args:=[.func (.yield l) #[] #[],ptr bm]) zI;refine wpIn_seq ?_;refine wpIn_region_lit ?_;obtain⟨B,hB⟩:∃B,B=[(bm,Obj.cells #[.map (some b)] 88 fz),(b,.map es ck)]:=⟨_,rfl⟩;rw[<-hB]at hW;have uj:(bm,Obj.cells #[.map (some b)] 88 fz)∈A++B:=by rw[hB];exact xab _ (.head _)
 have lZ:(b,Obj.map es ck)∈A++B:=by rw[hB];exact xab _ (.tail _ (.head _))
 have hmB:∀{X:Hp},(b,Obj.map es ck)∈X++B:=by intro X;rw[hB];exact xab _ (.tail _ (.head _))
 rw[<-hB];have e0:AO zQ g (fh VFI 0 0) (ev (gO [.func (.yield l) #[] #[],ptr bm] 0)) (A++B) (λx=>x=.map (some b))=Ld (A++B) (ptr bm) (λx=>x=.map (some b)):=by kernel_rfl
 refine dA (g:=g) (n:=14) (v0:=.map (some b)) hF rfl zC rfl ha hW (e0.mpr (Ld.mk uj rfl rfl)) λa1 ur=>?_;refine u4 (g:=g) (n:=14) (s:=Instr.range 88 (.map (some b))) (K:=λv H=>∃bi,v=ptr bi/\H=(bi,.mapIter (some b) ck #[] ck)::(A++B)) hF rfl zC rfl ur rfl
  (ZY.run (.inr ⟨b,es,ck,rfl,lZ,λbi _=>⟨bi,rfl,rfl⟩⟩) hW (t:=88) (kt:=3) (e:=110) zK) λv H' w1 a2 hv jy qu=>?_
 obtain⟨bi,rfl,rfl⟩:=hv;refine wpListIn_nil ?_;have pJ:Own g (A++((bi,.mapIter (some b) ck #[] ck)::B)) w1:=jy.perm (xaT).symm;clear jy ur ha hW uj lZ;refine wpIn_block ?_;refine uP (ag2 g bi b l es ck m G B) (k:=(bS es m #[]).length) ⟨_,[],A,#[],qu,rfl,rfl,h0,pJ,by rw[mz h];exact .refl _,rfl⟩ ?_;clear qu pJ h0 e0 A;rintro k a w ⟨fr,ss,A,seen,ha,f0,f6,hG,hw,c8,hk⟩;refine wpIn_seq ?_;refine wpIn_region_lit ?_;have e6:ev fr (.tmp 5)=ptr bi:=f6;refine u4 (g:=g) (n:=14) (s:=Instr.next (ptr bi) false 0)
  (K:=λv H=>(bS es m seen=[]/\v=.tuple #[.bool false]/\H=A++((bi,.mapIter (some b) ck seen ck)::B))\/
   ∃(e:MapEntry) (x:Int×Nat) (seen':Array Nat),v=.tuple #[.bool true,e.key,e.val]/\e.key=nI x.1.toNat/\(bS es m seen).Perm (x::bS es m seen')/\seen'.back?=some e.born/\es.find? (·.born==e.born)=some e/\
    H=A++((bi,.mapIter (some b) ck seen' ck)::B)) hF rfl zC rfl ha ?_
  (XV.run (h.next (bi:=bi) (bm:=b) (seen:=seen) (H:=A++((bi,.mapIter (some b) ck seen ck)::B)) (xab _ (.tail _ (by rw[hB];exact .tail _ (.head _)))) (xab _ (.head _))
   (λe x seen' he hk hv hp hb hf=>⟨_,(c6.head _).ca A,.inr ⟨e,x,seen',rfl,aeV hk (hpos x (EY (hp.mem_iff.2 (.head _)))),hp,hb,hf,rfl⟩⟩) (λhu=>.inl ⟨hu,rfl,rfl⟩)) hw) λv H' w1 a1 hv jy ur=>?_
 ·rw[e6.symm];rfl
 rcases hv with⟨hu,rfl,rfl⟩|⟨e,x,seen',rfl,Ga,hp,hbk,hfi,rfl⟩
 ·refine dA (g:=g) (n:=14) (v0:=.bool false) hF rfl zC rfl ur jy ⟨_,_,rfl,rfl,rfl⟩ λa2 qu=>?_;refine wpListIn_nil ?_;refine wpIn_seq ?_;refine wpIn_cond_false (by rw[qu.eval];rfl) ?_;refine wpIn_exit ?_;simp only[Exit.then,Exit.inBlock,xa6,bodyPost];refine⟨qu.defers,_,results_none rfl _ _ _,⟨_,rfl⟩,ss,A,?_,hG,(jy.perm xaT).tail⟩;rw[hu,xb6,xaL]at c8;exact c8
 refine dA (g:=g) (n:=14) (v0:=.bool true) hF rfl zC rfl ur jy ⟨_,_,rfl,rfl,rfl⟩ λa2 qu=>?_;refine wpListIn_nil ?_;refine wpIn_seq ?_;refine wpIn_cond_true (by rw[qu.eval];rfl) ?_;refine wpIn_skip ?_;refine wpIn_block ?_;refine wpIn_seq ?_;refine wpIn_region_lit ?_;refine u4 (g:=g) (n:=14) (s:=Instr.entry (ptr bi)) (K:=λv H=>v=.tuple #[e.key,e.val]/\H=A++((bi,.mapIter (some b) ck seen' ck)::B)) hF rfl zC rfl qu ?_ ?_ λv H' w2 a3 hv pJ uH=>?_
 ·rw[e6.symm];rfl
 ·obtain⟨v,hr,hv⟩:=Kr.run (P:=zQ) (k:=λv=>v=.tuple #[e.key,e.val]) ⟨bi,b,ck,seen',e.born,ck,es,e,rfl,xab _ (.head _),hbk,xab _ (.tail _ (by rw[hB];exact .tail _ (.head _))),hfi,rfl⟩ jy;exact⟨v,w1,_,hr,jy,hv,rfl⟩
 obtain⟨rfl,rfl⟩:=hv;refine dA (g:=g) (n:=14) (v0:=nI x.1.toNat) hF rfl zC rfl uH pJ ⟨_,_,rfl,rfl,Ga⟩ λa4 Gi=>?_;refine dA (g:=g) (n:=14) (v0:=nI x.1.toNat) hF rfl zC rfl Gi pJ (show nI x.1.toNat=nI x.1.toNat from rfl) λa5 Gg=>?_;refine wpListIn_nil ?_;refine wpIn_seq ?_;refine wpIn_region_lit ?_;refine dA (g:=g) (n:=14) (v0:=.func (.yield l) #[] #[]) hF rfl zC rfl Gg pJ f0 λa6 Gf=>?_;refine dA (g:=g) (n:=14) (v0:=nI x.1.toNat) hF rfl zC rfl Gf pJ (show nI x.1.toNat=nI x.1.toNat from rfl) λa7 V6=>?_;have hlen:(bS es m seen).length=(bS es m seen').length+1:=by rw[hp.length_eq];rfl
 have hlt:ss.length<m.length:=by
  have:=c8.length_eq;simp only[xaf,xav]at this⊢;omega
 obtain⟨fn,tmps,assign,body,hy,hR⟩:=hY _ x.1.toNat A _ w2 hG hlt pJ;refine wpListIn_plain rfl λK hK=>⟨λ_ _=>trivial,?_⟩;rw[Oper.semAt_eq _ _ _ zC,V6.eval];have hex:∀F7:Fr,F7=br (br (br (br (br (br (br fr (some 6) (.tuple #[.bool true,e.key,e.val])) (some 7) (.bool true)) (some 8) (.tuple #[e.key,e.val])) (some 9) (nI x.1.toNat)) (some 3) (nI x.1.toNat)) (some 10) (.func (.yield l) #[] #[])) (some 11) (nI x.1.toNat)->(execOp (ev F7) (fh VFI 3 2)).run zQ w2=.ok (.round l fn tmps assign body) w2:=λF7 hF7=>by
  have v11:ev F7 (.tmp 10)=.func (.yield l) #[] #[]:=by rw[hF7];rfl
  have v12:ev F7 (.tmp 11)=nI x.1.toNat:=by rw[hF7];rfl
  have ZH:execOp (ev F7) (fh VFI 3 2)=(do let d <-resolve (ev F7) {callee:=.value (.tmp 10),args:=#[.tmp 11],argTypes:=#[3]} 4;invoke d.target d.args):=rfl;rw[ZH];simp[resolve,Deferred.ofValue,v11,v12,invoke,go_sem,hy]
 refine(xcb (Oper.uponIn Fence.wide 0 zQ (fh VFI 3 2) a7 K _) (hex _ rfl)).mpr ⟨λh=>(by cases h),hR.mono ?_⟩;rintro e' w3 ⟨rfl,A',hG',Vz⟩;refine hK _ _ ?_;have ha8:=V6.put (d:=some 12) rfl (.bool true);refine dA (g:=g) (n:=14) (v0:=.bool false) hF rfl zC rfl ha8 Vz ⟨_,rfl,rfl⟩ λa9 ha9=>?_;refine wpListIn_nil ?_;refine wpIn_cond_false (by rw[ha9.eval];rfl) ?_;refine wpIn_skip ?_;refine⟨(bS es m seen').length,by omega,_,ss++[x.1.toNat],A',seen',ha9,f0,f6,hG',Vz,?_,rfl⟩;rw[xai];exact((hp.map (λp=>p.1.toNat)).append_left ss).symm.trans c8
end
section
variable {sp kp mb nx:Nat} {c:Cf} {K:Kd} {S:Nat->aA.Fn} {ord ah tr:zL} {hs:List (Int×Nat)} {es:Array MapEntry} {ck:Nat} {C:Hp}
theorem Ge(h:iq kp nx c K S ord ah tr hs es ck C)(hl:hs.length<=1099511627776):
  Fc zQ 20 #[ptr sp] (gS sp c kp mb nx es ck C) (λv H=>∃N,H=N++gS sp c kp mb nx es ck C/\aO 3 .i64 v (iw (Ce (hs.map λp=>p.1.toNat))) N):=by
 refine aE λg=>O3 (ae.aH (Br.no (Ld.n (v:=.map (some mb)) ?_)));refine aa.fq (ET _) ?_;rintro w H ⟨bm,rfl,rfl⟩;refine aa.pre (H':=[(bm,.cells #[.map (some mb)] 88 zZ),(mb,.map es ck)]++(jR sp c kp mb nx::C)) (.perm (List.Perm.cons _ (List.Perm.swap _ _ _))) ?_;refine aa.fn .left (Fb (S:=λss=>ss.Perm (hs.map λp=>p.1.toNat)) (N:=hs.length) (B3 (bm:=bm) (fz:=(0,0)) h.dD λp hp=>(h.lt p hp).1) (λss YM=>by have:=YM.length_eq;rw[xav]at this;omega) zK hl) ?_;rintro v H ⟨ss,N,YM,rfl,ho⟩;rw[Uy YM]at ho;refine aM.mk ?_ ⟨N,rfl,ho⟩;rw[xai];refine .cU ?_ N;exact .skip (.perm (List.Perm.swap _ _ _))
end
section
variable {sp nx:Nat} {c:Cf} {F:FS} {ord tr:zL} {H:Hp}
def Lm(F:FS):zL:=Ce (F.map λp=>p.1.toNat)
theorem DC(h:jZ sp c nx F ord tr H)(hl:F.length<=1099511627776):Fc zQ 20 #[ptr sp] H (λv H'=>∃N,H'=N++H/\aO 3 .i64 v (iw (Lm F)) N):=by
 obtain⟨kp,mb,K,S,ah,hs,es,ck,C,rfl,h,rfl⟩:=h;have e:(je S hs).map (λp=>p.1.toNat)=hs.map λp=>p.1.toNat:=by unfold je;rw[xbM];rfl
 unfold Lm;rw[e];exact Ge h (by unfold je at hl;rwa [xav]at hl)
end
section
variable {n rs nx nP:Nat} {F F':FS} {x:fI} {r:Rp}
structure TrF(rs nx:Nat)(F:FS)(x:fI)(r:Rp)(F':FS)(nP:Nat):Prop where
 a:r.e=0/\1<=x.op/\x.op<=12->r.h=nx/\nP=nx+1/\F'.length=F.length+1
 b:¬(r.e=0/\1<=x.op/\x.op<=12)->r.h= -1/\nP=nx
 f:x.op=13/\r.e=0->F'.length+1=F.length
 k:¬(r.e=0/\1<=x.op/\x.op<=12)->¬(x.op=13/\r.e=0)->F'.length=F.length
 t:1<=x.op/\x.op<=11->(r.e=0/\1<=r.t/\r.t<=(rs:Int)+1)\/(r.e=8/\1<=r.t/\r.t<=(rs:Int)+1)\/(r.e=9/\r.t=(rs:Int)+1)\/((r.e=1\/r.e=2\/r.e=3)/\r.t=0)
 u:¬(1<=x.op/\x.op<=11)->r.t=0
theorem Df{a:Int}:∀{F:FS},(F.map Prod.fst).Nodup->eP F a=true->(ia F a).length+1=F.length
 | [],_,h=>by cases h
 |p::F,fc,h=>by
  rw[xay,xaV]at fc;unfold ia at*;by_cases e:p.1=a
  ·have:F.filter (λy=>decide ¬y.1=a)=F:=xcd.2 λy hy=>by
    have:y.1≠a:=λe2=>fc.1 (by rw[e,<-e2];exact xaR hy);simpa using this
   rw[xbk,xac (by simpa using e),this];rfl
  have h2:eP F a=true:=by
   unfold eP aJ at*;rw[xbv]at h;simpa[e]using h
  have ih:=Df fc.2 h2;unfold ia at ih;rw[xbk,xae (by simpa using e),xaw,xaw];omega
theorem X7(fc:(F.map Prod.fst).Nodup)(h:Small n rs nx F x r F' nP\/Full rs nx F x r F' nP):TrF rs nx F x r F' nP:=by
 rcases h with(⟨e,hh,rfl,rfl,ht⟩|⟨e9,e8,hW,ht⟩)|⟨e,hh,rfl,rfl,_,ht⟩
 ·exact⟨by omega,λ_=>⟨hh,rfl⟩,by omega,λ_ _=>rfl,by omega,by omega⟩
 ·unfold Want at hW;cases hm:eo x.op with
  |some p=>
   have hop:=vR hm;rw[hm]at hW;dsimp only at hW;rw[xae hop]at ht;have hf:=yW (n:=n) (F:=F) (w:=p.1) (x:=x);split at hW
   ·obtain⟨e0,hh,hN,rfl,rfl⟩:=hW;have:=ht.1 e0;exact⟨λ_=>⟨hh,rfl,by simp⟩,by omega,by omega,by omega,by omega,by omega⟩
   rename_i hl;obtain⟨e0,hh,hN,rfl,rfl⟩:=hW;have:=ht.2 zO;exact⟨by omega,λ_=>⟨hh,rfl⟩,by omega,λ_ _=>rfl,by omega,by omega⟩
  |none=>
   have hop:¬(1<=x.op/\x.op<=11):=λhop=>by
    have:x.op=1\/x.op=2\/x.op=3\/x.op=4\/x.op=5\/x.op=6\/x.op=7\/x.op=8\/x.op=9\/x.op=10\/x.op=11:=by omega
    rcases this with e|e|e|e|e|e|e|e|e|e|e<;>rw[e]at hm<;>cases hm
   rw[hm]at hW;dsimp only at hW;rw[xac hop]at ht;split at hW
   ·rename_i NI;split at hW
    ·obtain⟨e0,hh,hN,rfl,rfl⟩:=hW;exact⟨λ_=>⟨hh,rfl,by simp⟩,by omega,by omega,by omega,by omega,by omega⟩
    obtain⟨e0,hh,hN,rfl,rfl⟩:=hW;exact⟨by omega,λ_=>⟨hh,rfl⟩,by omega,λ_ _=>rfl,by omega,by omega⟩
   split at hW
   ·rename_i NI h13;split at hW
    ·rename_i hF;obtain⟨e0,hh,hN,rfl,rfl⟩:=hW;exact⟨by omega,λ_=>⟨hh,rfl⟩,λ_=>Df fc hF,by omega,by omega,by omega⟩
    obtain⟨e0,hh,hN,rfl,rfl⟩:=hW;exact⟨by omega,λ_=>⟨hh,rfl⟩,by omega,λ_ _=>rfl,by omega,by omega⟩
   rename_i NI h13;obtain⟨hh,rfl,rfl,_⟩:=hW;exact⟨by omega,λ_=>⟨hh,rfl⟩,by omega,λ_ _=>rfl,by omega,by omega⟩
 exact⟨by omega,λ_=>⟨hh,rfl⟩,by omega,λ_ _=>rfl,by omega,by omega⟩
end
theorem jZ.ZG{sp nx:Nat}{c:Cf}{F:FS}{ord tr:zL}{H:Hp}(h:jZ sp c nx F ord tr H):BR c.n F ord<=1048574:=by
 obtain⟨kp,mb,K,S,ah,hs,es,ck,C,rfl,h,rfl⟩:=h;rw[<-h.BR];exact gu h.ks.bc
section
variable {sp bp nx k:Nat} {c d:Cf} {F:FS} {ord tr o2 BE:zL} {H B H1 H2:Hp} {x:fI} {r:Rp}
theorem NS{a:Int}{y:Nat}(h:jZ sp c nx F ord tr H)(ha:eP F a=true)(hy:y<18446744073709551616):Rd zQ 16 #[ptr sp,(⟨14,a,0,0,y⟩:fI).v] H (· =eV 0 (-1) (fF F a y).toNat 0):=by
 refine Fc.mono (wV (x:=⟨14,a,0,0,y⟩) (f:=88) rfl rfl (Q:=λv H'=>v=eV 0 (-1) (fF F a y).toNat 0/\H'=H) (λv H h=>⟨_,_,_,_,h.1⟩) (Fc.mono (Bf h hy) λv H' ⟨e1,e2⟩=>⟨?_,e1⟩)) λv H' h=>⟨h.2,h.1⟩;rw[e2];show(if eP F a=true then _ else _)=_;rw[xae ha]
end
section
variable {sp bp nx:Nat} {c d:Cf} {F:FS} {ord tr o2 BE:zL} {B H1 H2:Hp} {sv:zV}
theorem VZ{i:Nat}(hi:i∈F.map λp=>p.1.toNat)(h0:∀p∈F,0<=p.1):eP F (i:Int)=true:=by
 obtain⟨p,hp,e⟩:=xam.1 hi;have:=h0 p hp;unfold eP aJ;cases hf:F.find? (λq=>decide (q.1=(i:Int)))with
 |some q=>rfl
 |none=>
  have:=xcz.1 hf p hp;simp only[xaI]at this;exact absurd zO this
end
section
variable {sp nx b1 b2:Nat} {c:Cf} {F:FS} {ord tr:zL} {H B Z:Hp} {pv:zV} {ps:zL}
def toldOf(F:FS)(ps:zL)(h:Nat):List Int:=(h:Int)::ps.map λx=>((fF F h x).toNat:Int)
def k9(F:FS)(ps:zL)(l:zL):List Int:=(l.map (toldOf F ps)).flatten
theorem E0(l:zL)(h:Nat):k9 F ps (l++[h])=k9 F ps l++toldOf F ps h:=by
 unfold k9;simp
theorem sb:∀l:zL,(k9 F ps l).length=l.length*(ps.length+1)
 | []=>by simp[k9]
 |h::l=>by
  have ih:=sb l;unfold k9 at*;rw[xay,xcH,xaf,ih,xaw,xbq];simp[toldOf];omega
theorem jZ.key(h:jZ sp c nx F ord tr H){j:Nat}(hj:j<(Lm F).length):eP F ((Lm F)[j]:Int)=true/\(Lm F)[j]<nx:=by
 have hm:(Lm F)[j]∈F.map λp=>p.1.toNat:=(ir _).mem_iff.1 (xaB hj);refine⟨VZ hm λp hp=>(h.lt p hp).1,?_⟩;obtain⟨p,hp,e⟩:=xam.1 hm;have:=h.lt p hp;omega
theorem yw(h:jZ sp c nx F ord tr H)(BJ:nx<18446744073709551616)(hsz:(F.length+1)*(ps.length+2)<=1099511627776)(hp:dk .u64 B pv (iw ps))(hps:∀x∈ps,x<18446744073709551616)
 (m1:(b1,Obj.cells #[ptr sp] 26 zZ)∈Z)(m2:(b2,Obj.cells #[pv] 47 zZ)∈Z)(mB:∀y∈B,y∈Z):
  Fc zQ 22 #[ptr b1,ptr b2] (H++Z) (λv H'=>∃N,H'=N++(H++Z)/\aO 33 .u64 v (k9 F ps (Lm F)) N):=by
 refine aE λg=>O2 ?_;have hF:F.length<=1099511627776:=xbw (xbw (Nat.le_succ _) (Nat.le_mul_of_pos_right _ zO)) hsz;refine Ld.mk (xab _ m1) rfl ?_;refine aa.fn .left (DC h hF) ?_;rintro v H2 ⟨N0,rfl,ho⟩;have ni:(Lm F).length=F.length:=by unfold Lm;rw[(ir _).length_eq,xav]
 have key:=λj hj=>h.key (j:=j) hj;generalize Lm F=l at*;refine ho.bP ?_;rw[aq];have room:∀n,n<=F.length->∀k,k<=ps.length->n*(ps.length+1)+k+1+1<=1099511627776:=λn hn k hk=>by
  refine xbw ?_ hsz;have h1:n*(ps.length+1)<=F.length*(ps.length+1):=xaW _ hn;have h2:(F.length+1)*(ps.length+2)=F.length*(ps.length+1)+F.length+(ps.length+2):=by
   rw[xdQ,xc2,show ps.length+2=(ps.length+1)+1 by omega,xdm F.length,xbU]
  omega
 refine⟨λvs H'=>∃(j:Nat) (s:zV) (N:Hp),vs=[s,i64 (j:Int)]/\j<=l.length/\aO 33 .u64 s (k9 F ps (l.take j)) N/\H'=N++(N0++(H++Z)),λvs _=>l.length-bJ vs 1,
  JE.of aN.assoc ⟨0,_,[],rfl,xaM _,aO.nil,rfl⟩,?_⟩
 rintro w1 w2 H3 ⟨j,s,N,⟨⟩,hj,hs,rfl⟩ gs;refine ae.eZ (Br.dec (λhlt=>?_) (λhge=>?_));rotate_left
 ·obtain rfl:j=l.length:=by omega
  rw[xba]at hs;exact aM.mk (.cU .right _) ⟨N,rfl,hs⟩
 obtain⟨hh,_⟩:=key j hlt;refine ho.ints.ld (cP (xaa hlt)) (λ_ h=>xab _ (xad _ h)) ?_;refine aZ.of (m:=((l[j]:Nat):Int)) (eB (kd:=.u64) (by have:=key j hlt;simp[bF];omega)) (au.int (e:=33) (x:=((l[j]:Nat):Int)) zK zK zK λbx=>?_);have hlen:(k9 F ps (l.take j)).length=j*(ps.length+1):=by rw[sb,xbB,xcq zO]
 refine hs.pC (x:=((l[j]:Nat):Int)) (.cons .left) (by exact .head _) (by rw[hlen];have:=room j zO 0 zO;omega) (by rw[hlen];have:=room j zO 0 zO;omega) λv' N' cv=>?_;refine Ld.mk (.tail _ (xab _ (xab _ (xab _ m2)))) rfl ?_;refine hp.bP ?_;rw[aq];refine⟨λvs H'=>∃(k:Nat) (s:zV) (N:Hp),vs=[s,i64 (k:Int)]/\k<=ps.length/\aO 33 .u64 s (k9 F ps (l.take j)++toldOf F (ps.take k) l[j]) N/\H'=N++(N0++(H++Z)),λvs _=>ps.length-bJ vs 1,
  JE.of .tail ⟨0,_,N',rfl,xaM _,by rw[xdM];exact cv,rfl⟩,?_⟩
 clear hs cv;rintro w1 w2 H3 ⟨k,s,N,⟨⟩,hk,hs,rfl⟩ gs;refine ae.eZ (Br.dec (λfk=>?_) (λNx=>?_));rotate_left
 ·obtain rfl:k=ps.length:=by omega
  rw[xba,<-E0,<-xaZ hlt]at hs;have hjj:=room j zO 0 (xaM _);exact ae.inc (aC.mk ⟨j+1,_,N,rfl,hlt,hs,rfl⟩ (by simp only[bJ];omega))
 have get:=cP (xaa fk);have hkk:=room 0 (xaM _) k hk;refine hp.ld get (λy hy=>xab _ (xab _ (xab _ (mB y hy)))) (Ld.mk (xab _ (xab _ (xab _ m1))) rfl ?_);refine Build.mk (cs:=fI.cells ⟨14,((l[j]:Nat):Int),0,0,ps[k]⟩) zK (aa.eh (.app (.app .left)) (NS h hh (hps _ (xaB fk))) (An.mk rfl ?_));refine au.int (e:=33) (x:=(((fF F ((l[j]:Nat):Int) ps[k]).toNat:Nat):Int)) zK zK zK λbx=>?_;have zf:(k9 F ps (l.take j)++toldOf F (ps.take k) l[j]).length=j*(ps.length+1)+(k+1):=by
  rw[xaf,hlen];simp[toldOf];omega
 refine hs.pC (x:=(((fF F ((l[j]:Nat):Int) ps[k]).toNat:Nat):Int)) (.cons .left) (by exact .head _) (by rw[zf];have:=room j zO k hk;omega) (by rw[zf];have:=room j zO k hk;omega) λv' N' cv=>?_;refine ae.inc (aC.of .tail ⟨k+1,v',N',rfl,fk,?_,rfl⟩ (by simp only[bJ];omega));rw[xaZ fk];unfold toldOf at cv⊢;rw[xaE,<-xaO,<-xai];exact cv
end
end
end Go.Proofs
