import Derived.Test.YtgeffephefcdiaaGreatC4
import Derived.Test.YtgeffephefcdiaaGreatC3
import Derived.Test.YtgeffephefcdiaaGreatC2
import Derived.Test.YtgeffephefcdiaaGreatC1
set_option linter.unusedVariables false
set_option linter.unusedSimpArgs false
set_option linter.unusedSectionVars false
set_option maxRecDepth 100000
namespace Go.Proofs
open Go Go.Sx Tryz
section
open ax Ub
theorem MS{pt n v:Nat}{T:Nd->Option Nat}{C:Hp}(h:ov pt n T C)(hv:v<n):
  Rd zQ 331 #[ptr pt,iv (v:Int)] C (λr=>∃l:List (Nd×Nat),(l.map Prod.fst).Nodup/\(∀d r,(d,r)∈l↔T d=some r/\d.v=v)/\r=.tuple #[iv ((l.length:Nat):Int),iv 0]):=by
 have h0:=h;obtain⟨vs,Cs,ms,rfl,hs,ho⟩:=h;obtain⟨m,hm⟩:∃m,ms[v]? =some m:=⟨_,xaa (by rw[ho.len];exact hv)⟩;have he:=ho.dK v m hm;have hT:∀d:Nd,d.v=v->T d=aG m.l d:=λd hd=>by rw[ho.T,hd,hm];rfl
 have hmem:∀d r,(d,r)∈m.l↔T d=some r/\d.v=v:=λd r=>by
  constructor
  ·intro hx;have hd:=ho.var v m hm _ hx;exact⟨by rw[hT d hd];exact(dX he.nd).2 hx,hd⟩
  rintro⟨h1,h2⟩;rw[hT d h2]at h1;exact(dX he.nd).1 h1
 refine aE λg=>Iu (aa.eq (lB h0 hv) (ae.cO (Br.F (Nil.ptr ?_))));refine ai.mk (Ld.mk zM rfl ?_);refine hs.XK (x:=.map (some m.b)) (by rw[xat,hm];rfl) (λ_ h=>by exact .tail _ (xad _ h)) ?_;refine he.Rx (b:=m.b) (by exact .tail _ (xab _ (rB hm))) ?_;exact br.mk (.refl _) ⟨m.l,he.nd,hmem,rfl⟩
section
variable {kp v gr:Nat} {K:Kd} {S:Nat->ax.Fn} {ord tr:zL} {C:Hp}
theorem NO{ah:zL}(h:cW kp K ord ah tr C)(hv:v<K.n):Rd zQ 262 #[ptr kp,iv (v:Int)] C (λr=>∃l:List (Nd×Nat),(l.map Prod.fst).Nodup/\(∀d r,(d,r)∈l↔K.T d=some r/\d.v=v)/\r=.tuple #[iv ((l.length:Nat):Int),iv 0]):=by
 have h0:=h;obtain⟨b,rfl,hO⟩:=h;refine aE λg=>Ji (ae.aI (Br.no (aa.eq (rH h0 (v:Int)) ?_)));rw[xam zO];refine Un.not (Br.no (Nil.ptr (ai.mk (Ld.f ?_))));refine aa.rq (MS hO.ut hv) ?_;rintro r ⟨l,h1,h2,rfl⟩;exact Ext.mk rfl (Ext.mk rfl (br.mk (.refl _) ⟨l,h1,h2,rfl⟩))
theorem TP(h:At kp K S ord tr C)(hv:v<K.n):Rd zQ 262 #[ptr kp,iv (v:Int)] C (λr=>∃w:Nat,r=.tuple #[iv (w:Int),iv 0]):=by
 obtain⟨K',S',bW,h,hk⟩:=h;exact(NO h.rep (by rw[hk.n];exact hv)).mono λr H ⟨e,l,_,_,h3⟩=>⟨e,_,h3⟩
theorem Wl{h:zV}{l:List It}{C:Hp}(hi:Xp h l C):Rd zQ 264 #[h] C (· =iv ((l.length:Nat):Int)):=by
 obtain⟨f,⟨bh,sv,mv,Cs,Cm,rfl,rfl,hs,hm,hne⟩,_⟩:=hi;refine aE λg=>Jg (ae.aI (Br.no (Ld.n ?_)));refine hs.bP ?_;rw[cV];exact br.mk (.refl _) rfl
def sln:List zV->Nat
 | .slice _ n _::_=>n
 |_=>0
theorem Q0(h:At kp K S ord tr C):Fc zQ 187 #[ptr kp] C (λr H=>∃N l,H=N++C/\l.Perm (List.range K.n)/\aP 3 .i64 r (iw l) N):=by
 have hn:=h.lY;refine aE λg=>JZ (ae.aI (Br.no (aa.fq (Wg C) ?_)));rintro w H ⟨bh,C0,rfl,rfl,Gw⟩;refine aa.eq (m9 h) (⟨λvs H=>∃(i:Nat) (l:List It) (C':Hp),vs=[iv (i:Int)]/\i<=K.n/\H=C'++C/\Xp (.pointer (some ⟨bh,0,none⟩)) l C'/\(l.map Prod.fst).Perm (iw (List.range i)),λvs _=>K.n-bJ vs 0,JE.mk ⟨0,[],C0,rfl,xaO _,rfl,Gw,.refl _⟩,?_⟩);rintro w H ⟨i,l,C',⟨⟩,hi,rfl,hh,hp⟩ gs;have nD:l.length=i:=by have:=hp.length_eq;simpa[iw]using this
 refine ae.eZ (Br.dec (λhlt=>?_) (λhge=>?_))
 ·refine aa.rq (TP h hlt) ?_;rintro r ⟨w,rfl⟩;refine Ext.two (⟨_,rfl,?_⟩);refine aa.fq (R3 hh zO _ _) ?_;rintro r C2 ⟨l2,hh2,⟨hin,_⟩|⟨_,rfl,dh⟩⟩
  ·exfalso;have:=hp.mem_iff.1 hin;rw[Rs,xaM]at this;omega
  refine ae.inc (aC.mk ⟨i+1,l2,C2,rfl,hlt,rfl,hh2,?_⟩ (by simp only[bJ];omega));refine(dh.map _).trans ?_;rw[xaC,xcl,cg];exact(List.Perm.cons _ hp).trans (xbe (l₁:=[((i:Nat):Int)]))
 obtain rfl:i=K.n:=by omega
 refine⟨λvs H=>∃(s:zV) (done:zL) (l:List It) (CS C':Hp),vs=[s]/\H=CS++(C'++C)/\Xp (.pointer (some ⟨bh,0,none⟩)) l C'/\aP 3 .i64 s (iw done) CS/\(iw done++l.map Prod.fst).Perm (iw (List.range K.n)),λvs _=>K.n-sln vs,JE.mk ⟨_,[],l,[],C',rfl,rfl,hh,aP.nil,hp⟩,?_⟩;clear hp hh nD;rintro w H ⟨s,done,l,CS,C',⟨⟩,rfl,hh,hs,hp⟩ gs;have hlen:done.length+l.length=K.n:=by have:=hp.length_eq;simpa[iw]using this
 refine aa.eq (Wl hh) (ae.nq (b:=0) (Br.dec (λhlt=>?_) (λhge=>?_)))
 ·refine aa.fq (We hh zO) ?_;rintro r C2 ⟨l2,hh2,⟨rfl,_⟩|⟨a,dh,_,rfl⟩⟩
  ·simp at hlt
  have ha:a.1∈iw (List.range K.n):=hp.mem_iff.1 (xab _ (xaR (dh.mem_iff.2 (.head _))));obtain⟨x,hx,hxa⟩:=xao.1 ha;refine Ext.mk rfl (Ext.mk rfl (Ext.mk rfl ?_));rw[<-hxa];refine au.int (e:=3) zK zK zK λbx=>?_;refine hs.qJ (x:=(x:Int)) (.cons .left) (by exact .head _) (by rw[aq];omega) (by rw[aq];omega) λs2 CS2 sQ=>?_;have iX:(iw (done++[x])++l2.map Prod.fst).Perm (iw (List.range K.n)):=by
   refine .trans ?_ hp;rw[cg,xaj];refine xbZ _ ?_;refine .trans ?_ (dh.map _).symm;rw[xaC,<-hxa];exact .refl _
  have e1:∀{s:zV} {done:zL} {CS:Hp},aP 3 .i64 s (iw done) CS->sln [s]=done.length:=λ{s done CS} h=>by
   obtain⟨a,c,h⟩:=aV.len h;rw[h];simp[sln,iw]
  refine aC.of .tail ⟨s2,done++[x],l2,CS2,C2,rfl,rfl,hh2,by rw[cg];exact sQ,iX⟩ ?_;rw[e1 (done:=done++[x]) (by rw[cg];exact sQ),e1 hs,xaf,xb3];have:=dh.length_eq;rw[xaB]at this;omega
 have hl0:l=[]:=xcP.1 zO;subst hl0;rw[xb9,xaL]at hp;obtain⟨l',hl',e⟩:=Vo hp;rw[e]at hs;exact aF.mk (aN.c8 .right CS) ⟨CS,l',rfl,hl',hs⟩
theorem CG(h:At kp K S ord tr C)(hp:ord.Perm (List.range K.n))(mG:100<=gr/\gr<=1000)(eR:tr.length<17317308137472):
  Fc zQ 135 #[ptr kp,iv (gr:Int)] C (λv H=>∃l,l.Perm (List.range K.n)/\v=.tuple #[rep (cI K S ord) (cI K S (aA ord ((rm K S).ct gr ord l).1)) ((rm K S).ct gr ord l).2,iv 0]/\At kp K S (aA ord ((rm K S).ct gr ord l).1) (tr++((rm K S).ct gr ord l).1) H):=by
 have hn:=h.lY;have wo:(rm K S).n=K.n:=rfl;refine aE λg=>Kz λb1 _=>?_;refine aa.eq (qc kp (gr:=(gr:Int)) C) ?_;rw[xac zO];refine ae.cO (Br.F (aa.eq (cH h) (Build.mk (cs:=[iv ((cI K S ord:Nat):Int),iv 0,iv 0,.bool false]) zK λUw _=>?_)));refine St.q ?_;refine aa.fq (Q0 h) ?_;rintro s H ⟨NQ,l,rfl,hl,hQ⟩;have nD:l.length=K.n:=by rw[hl.length_eq,xaK]
 refine hQ.bP ?_;rw[aq,nD];refine⟨λvs H=>∃(i:Nat) (C':Hp),vs=[iv (i:Int)]/\i<=K.n/\H=(Uw,.cells (List.toArray [iv ((cI K S ord:Nat):Int),iv 0,iv ((((rm K S).ct gr ord (l.take i)).2:Nat):Int),.bool false]) 147 zZ)::(b1,.cells #[iv 0,iv 0,iv 0,.bool false] 147 zZ)::(NQ++C')/\At kp K S (aA ord ((rm K S).ct gr ord (l.take i)).1) (tr++((rm K S).ct gr ord (l.take i)).1) C',
  λvs _=>K.n-bJ vs 0,JE.mk ⟨0,C,rfl,xaO _,rfl,by simpa[Rm.ct,aA]using h⟩,?_⟩
 rintro w H ⟨i,C',⟨⟩,hi,rfl,hA⟩ gs;have hok:=mO (m:=rm K S) (g:=gr) (l:=l.take i) hp (λv hv=>xaM.1 (hl.mem_iff.1 (xcH hv)));have hlt:(l.take i).length<=64:=by rw[xbI];omega
 have h1:=hok.len;have h2:=hok.u5;have h3:(rm K S).n*(l.take i).length<=64*64:=xcb hn hlt;have h4:3*((rm K S).n-1)*(l.take i).length<=(3*64)*64:=xcb (xdb _ (by rw[wo];omega)) hlt;have Zw:=mM hp hok.mem;refine ae.eZ (Br.dec (λhlt=>?_) (λhge=>?_))
 ·have Se:i<l.length:=by omega
  have nA:l.take (i+1)=l.take i++[l[i]]:=xba Se;refine hQ.ld (x:=((l[i]:Nat):Int)) (cL (xaa Se)) (λ_ h=>.tail _ (.tail _ (xad _ h))) ?_;have PE:l[i]<K.n:=xaM.1 (hl.mem_iff.1 (xaF Se));refine aa.fq (U0 hA Zw PE mG (by rw[xaf];omega) rfl) ?_;rintro w C2 ⟨rfl,n7⟩;have uJ:=(rm K S).AQ gr (ord:=aA ord ((rm K S).ct gr ord (l.take i)).1) (Gl Zw PE);have BT:=uJ.u5;rw[wo]at BT;have Wb:=yQ (m:=rm K S) (g:=gr) (v:=l[i]) (l:=l.take i) (ord:=ord);rw[<-nA]at Wb;rw[xaj,<-cr]at n7;refine Ext.two λb30 _=>(St.q ?_);refine Ld.f ?_;refine Ld.f ?_;refine ae.fI (ai.mk (St.one (c':=List.toArray [iv ((cI K S ord:Nat):Int),iv 0,iv ((((rm K S).ct gr ord (l.take (i+1))).2:Nat):Int),.bool false]) (by exact .tail (.head _)) rfl zI (by rw[Wb];rfl) ?_));exact ae.inc (aC.of .tail ⟨i+1,C2,rfl,hlt,rfl,by rw[Wb];exact n7⟩ (by simp only[bJ];omega))
 obtain rfl:i=K.n:=by omega
 rw[show l.take K.n=l from by rw[<-nD];exact xbm]at hA⊢;refine aa.eq (cH hA) (ai.mk (St.one (c':=List.toArray [iv ((cI K S ord:Nat):Int),iv ((cI K S (aA ord ((rm K S).ct gr ord l).1):Nat):Int),iv ((((rm K S).ct gr ord l).2:Nat):Int),.bool false]) (by exact .head _) rfl zI rfl ?_));refine az.q ?_;refine St.q ?_;refine az.q ?_;exact aF.mk (.skip (.skip .right)) ⟨l,hl,rfl,hA⟩
end
end
section
open ax
section
variable {kp v gr:Nat} {K:Kd} {S:Nat->ax.Fn} {ord tr:zL} {C:Hp}
theorem Cr(h:At kp K S ord tr C)(hp:ord.Perm (List.range K.n))(mG:100<=gr/\gr<=1000)(eR:tr.length<17042430230528):
  Fc zQ 136 #[ptr kp,iv (gr:Int)] C (λv H=>∃ls,(∀l∈ls,l.Perm (List.range K.n))/\(rm K S).tR gr ord ls/\v=.tuple #[rep (cI K S ord) (cI K S (aA ord ((rm K S).dj gr ord ls).1)) ((rm K S).dj gr ord ls).2,iv ((ls.length:Nat):Int),iv 0]/\At kp K S (aA ord ((rm K S).dj gr ord ls).1) (tr++((rm K S).dj gr ord ls).1) H):=by
 have hn:=h.lY;have hsz:=gv h;have wo:(rm K S).n=K.n:=rfl;have DL:∀o,(rm K S).size o=cI K S o:=λ_=>rfl;refine aE λg=>Ky λb1 _=>?_;refine aa.eq (qc kp (gr:=(gr:Int)) C) ?_;rw[xac zO];refine ae.cO (Br.F (aa.eq (cH h) (Build.mk (cs:=[iv ((cI K S ord:Nat):Int),iv 0,iv 0,.bool false]) zK λUw _=>?_)));refine St.q ?_;refine⟨λvs H=>∃(ls:List (zL)) (af:Int) (C':Hp),vs=[iv ((ls.length+1:Nat):Int)]/\(∀l∈ls,l.Perm (List.range K.n))/\(rm K S).s7 gr ord ls/\H=(Uw,.cells (List.toArray [iv ((cI K S ord:Nat):Int),iv af,iv ((((rm K S).dj gr ord ls).2:Nat):Int),.bool false]) 147 zZ)::(b1,.cells #[iv 0,iv 0,iv 0,.bool false] 147 zZ)::C'/\At kp K S (aA ord ((rm K S).dj gr ord ls).1) (tr++((rm K S).dj gr ord ls).1) C',
  λvs _=>cI K S ord+1-bJ vs 0,JE.mk ⟨[],0,C,rfl,by simp,trivial,rfl,by simpa[Rm.dj,aA]using h⟩,?_⟩
 rintro w H ⟨ls,af,C',⟨⟩,hls,hgd,rfl,hA⟩ gs;obtain⟨g1,g2,g3,g4⟩:=zN hp hls hgd;rw[wo]at g1 g3 g4;rw[DL,DL]at g2;have nD:ls.length<=1048576:=by omega
 have h3:3*(K.n-1)*K.n*ls.length<=(3*64*64)*1048576:=xcb (xcb (xdb _ zO) hn) nD;have h4:K.n*K.n*ls.length<=(64*64)*1048576:=xcb (xcb hn hn) nD;have Zw:=mM hp g1;refine aa.fq (CG hA Zw mG (by rw[xaf];omega)) ?_;rintro w C2 ⟨l,hl,rfl,n7⟩;have hok:=mO (m:=rm K S) (g:=gr) (l:=l) Zw (λv hv=>xaM.1 (hl.mem_iff.1 hv));have BT:=hok.u5;have hlen:l.length=K.n:=by rw[hl.length_eq,xaK]
 have hle:=hok.le;rw[wo,hlen]at BT;rw[DL,DL]at hle;have h5:3*(K.n-1)*K.n<=3*64*64:=xcb (xdb _ zO) hn;have Wb:=yS (m:=rm K S) (g:=gr) (l:=l) (ls:=ls) (ord:=ord);have R5:∀x∈ls++[l],x.Perm (List.range K.n):=λx hx=>by
  rcases xan.1 hx with h|h
  ·exact hls x h
  rw[xaz.1 h];exact hl
 rw[xaj,<-cr]at n7;have LQ:=tS (m:=rm K S) (g:=gr) (l:=l) hgd;have hge:=D5 (m:=rm K S) (g:=gr) (l:=l) hgd;rw[DL,DL]at LQ hge;generalize hx:(rm K S).ct gr (aA ord ((rm K S).dj gr ord ls).1) l=x at*;have e1:aA (aA ord ((rm K S).dj gr ord ls).1) x.1=aA ord ((rm K S).dj gr ord (ls++[l])).1:=by rw[Wb,cr]
 rw[e1]at LQ hge hle;refine Ext.two λb24 _=>(St.q ?_);refine Ld.f ?_;refine Ld.f ?_;refine ae.fI (ai.mk (St.one (c':=List.toArray [iv ((cI K S ord:Nat):Int),iv af,iv ((((rm K S).dj gr ord (ls++[l])).2:Nat):Int),.bool false]) (by exact .tail (.head _)) rfl zI (by rw[Wb];rfl) ?_));refine Ld.f ?_;refine ai.mk (St.one (c':=List.toArray [iv ((cI K S ord:Nat):Int),iv ((cI K S (aA ord ((rm K S).dj gr ord (ls++[l])).1):Nat):Int),iv ((((rm K S).dj gr ord (ls++[l])).2:Nat):Int),.bool false]) (by exact .tail (.head _)) rfl zI (by rw[<-e1];rfl) ?_);refine Ld.f ?_;refine Ld.f ?_;rw[e1];refine ae.s6 (Br.dec (λalh=>?_) (λhlt=>?_))
 ·refine az.q ?_;refine St.q ?_;refine az.q ?_;exact aF.mk (.skip (.skip .tail)) ⟨ls++[l],R5,hge zO,by rw[xaf];rfl,by rw[Wb];exact n7⟩
 refine ae.inc (aC.of .tail ⟨ls++[l],_,C2,by rw[xaf];rfl,R5,LQ zO,rfl,by rw[Wb];exact n7⟩ ?_);simp only[bJ];omega
end
section
variable {kp mb B6 b1 b7 E9 bn:Nat} {K:Kd} {S:Nat->ax.Fn} {ord ah tr:zL} {C:Hp}
def kr(r:Nat):zV:=u32 r
theorem de(a b:Nat):Instr.sameNow (.int .u32) (kr a) (kr b)=some (decide (a=b)):=by
 simp only[Instr.sameNow,kr,u32,xa7,xaq];rw[xbU];simp;omega
theorem gQ(a:Nat):Instr.sameBits 10000 (kr a) (kr a)=true:=by simp[Instr.sameBits,kr,u32]
structure Kn(n:Nat)(S:Nat->ax.Fn)(es:Array MapEntry)(ck:Nat)(m:List (Nat×zV))(Y:Hp):Prop where
 dK:aD kr (λv x=>v=x) es ck m
 kA:∀r v,aG m r=some v->kF Y v n (S r)
 low:∀r,r<2->aG m r≠none
theorem Kn.mono{n:Nat}{S:Nat->ax.Fn}{es:Array MapEntry}{ck:Nat}{m:List (Nat×zV)}{Y Y':Hp}(h:Kn n S es ck m Y)(hs:∀x∈Y,x∈Y'):Kn n S es ck m Y':=⟨h.dK,λr v hm=>(h.kA r v hm).mono hs,h.low⟩
theorem kF.one{B:Hp}{v:zV}{n:Nat}{f:ax.Fn}(h:kF B v n f):∃s,v=.agg #[iv (n:Int),s]/\s.oneCell'=true:=by
 obtain⟨ws,⟨s,rfl,hw⟩,_,_⟩:=h;exact⟨s,rfl,bO hw⟩
theorem dc{n:Nat}{s:zV}(h:s.oneCell'=true):∀u∈[Value.int .i64 (n:Int),s],u.oneCell'=true:=λu hu=>by
 simp only[xal,xaQ,xbH]at hu;rcases hu with rfl|rfl
 ·rfl
 exact h
theorem fC(d:Nd):∀u∈bB d,u.oneCell'=true:=λu hu=>by
 simp only[bB,xal,xaQ,xbH]at hu;rcases hu with rfl|rfl|rfl<;>rfl
theorem wT{X:Hp}(h:cc kp K S ord ah tr C){r:Nat}{d:Nd}(hd:K.N r=some d):Px zQ 202 #[ptr kp,u32 r] (X++C) (λv _=>v=.agg (bB d).toArray):=by
 have hlt:=h.bL (.inr ⟨d,hd⟩);refine aE λg=>JK λb1 _=>?_;refine aa.eq (args:=#[ptr kp,u32 r]) (iU h.rep zO) ?_;rw[dZ hd (h.ok.mid.two hd).1];refine Ext.two λb7 _=>(St.p (fC d) ?_);refine az.q ?_;refine St.p (fC d) ?_;refine az.q ?_;exact Hs.mk (by repeat (first|exact bV.refl _|apply bV.cons|apply bV.app)) rfl
theorem wW{X:Hp}{v:zV}(h:cc kp K S ord ah tr C){rs:zL}(hv:dF .u32 (X++C) v (iw rs))(hr:∀r∈rs,live K.N r)(hl:rs.length<4611686018427387904):Px zQ 200 #[ptr kp,v] (X++C) (λw _=>w=iv 0):=by
 refine aE λg=>JM (ae.aI (Br.no (hv.bP ?_)));rw[aq];refine⟨λvs H=>∃(i:Nat) (N:Hp),vs=[iv (i:Int)]/\i<=rs.length/\H=N++(X++C),λvs _=>rs.length-bJ vs 0,JE.mk ⟨0,[],rfl,xaO _,rfl⟩,?_⟩;rintro w H ⟨i,N,hw,hi,rfl⟩ gs;simp only[xax,xa0]at hw;subst hw;refine ae.eZ (Br.dec (λhlt=>?_) (λhge=>?_))
 ·have EY:=hr _ (xaF hlt);have qy:=h.bL EY;refine hv.ld (n:=((rs[i]:Nat):Int)) (cL (xaa hlt)) (λ_ h=>xab _ h) ?_;refine aa.eq (args:=#[ptr kp,u32 rs[i]]) (iU h.rep zO) ?_;rw[xae (bX.2 EY)];refine Ext.two λb15 _=>(St.whole (r:=got K.N rs[i]) (by exact .head _) rfl (aQ _ _).1 (aQ _ _).2 ?_);exact ae.cO (Br.F (ae.inc (aC.mk ⟨i+1,_::N,rfl,hlt,rfl⟩ (by simp only[bJ];omega))))
 exact Hs.mk (by repeat (first|exact bV.refl _|apply bV.cons|apply bV.app)) rfl
theorem S9{X:Hp}{n:Nat}(hn:n<=16){d:Nd}(hd:d.v<n){v1 v2:zV}{f1 f2:ax.Fn}(h1:kF X v1 n f1)(h2:kF X v2 n f2)(hm:(bn,Obj.cells #[iv (n:Int)] 3 zZ)∈X):
  Px zQ 277 #[.agg (bB d).toArray,v1,v2,ptr bn] X (λw H=>kF H w n (λx=>if x.testBit d.v then f2 x else f1 x)):=by
 obtain⟨s1,rfl,o1⟩:=h1.one;obtain⟨s2,rfl,o2⟩:=h2.one;refine aE λg=>I5 λc1 _ c3 _ c5 _ c7 _=>?_;refine Ld.mk (v:=iv (n:Int)) (by exact .tail _ (.tail _ (.tail _ (.tail _ hm)))) rfl ?_;refine Ld.f ?_;refine aa.px (bH.left (C:=[]) (A:=_)) (UK hn hd []) ?_;rintro w N ⟨t,rfl,ht⟩;rw[xaL]at ht⊢;obtain⟨s3,rfl,o3⟩:=ht.one;refine Ext.two λYj _=>(St.p (dc o3) ?_);refine az.q ?_;refine az.q ?_;refine az.q ?_;refine aa.pre (.perm (.cons _ (xaT.trans (.cons _ (xaT.trans (.cons _ (xaT.trans (.cons _ xaT)))))))) ?_;refine aa.pq (UO (B:=N++X) (ht.mono λ_ h=>xad _ h) (h2.mono λ_ h=>xab _ h) (h1.mono λ_ h=>xab _ h)) ?_;rintro w N2 ⟨t4,rfl,ht4⟩;obtain⟨s4,rfl,o4⟩:=ht4.one;refine Ext.two λc26 _=>(St.p (dc o4) ?_);refine az.q ?_;refine St.p (dc o4) ?_;refine az.q ?_;refine Hs.mk (by repeat (first|exact bV.refl _|apply bV.cons|apply bV.app)) (ht4.mono ?_);intro x hx;repeat (first|exact hx|apply xbw)
theorem adY(h:cc kp K S ord ah tr C)(hn:K.n<=16){Z0:Hp}(h19:(B6,Obj.cells #[.map (some mb)] 403 zZ)∈Z0)(h1:(b1,Obj.cells #[ptr kp] 85 zZ)∈Z0)(h7:(b7,Obj.cells #[.func (.func 277) #[] #[ptr bn]] 336 zZ)∈Z0)
 (h22:(E9,Obj.cells #[.func (.func 342) #[] #[ptr B6,ptr b1,ptr b7,ptr E9]] 404 zZ)∈Z0)(hbn:(bn,Obj.cells #[iv (K.n:Int)] 3 zZ)∈Z0):
  ∀(k r:Nat) (es:Array MapEntry) (ck:Nat) (m:List (Nat×zV)) (Z:Hp),K.n-dep K.n (lv ah) K.N r<=k->live K.N r->(∀x∈Z0,x∈Z)->Kn K.n S es ck m Z->
  Fc zQ 342 #[u32 r,ptr B6,ptr b1,ptr b7,ptr E9] ((mb,.map es ck)::(Z++C)) (λv H=>∃es' bD m' N,H=(mb,.map es' bD)::(N++(Z++C))/\Kn K.n S es' bD m' (N++Z)/\kF (N++Z) v K.n (S r)):=by
 have hit:∀{r:Nat} {es:Array MapEntry} {ck:Nat} {m:List (Nat×zV)} {Z:Hp} {v:zV},(∀x∈Z0,x∈Z)->Kn K.n S es ck m Z->aG m r=some v->
   Fc zQ 342 #[u32 r,ptr B6,ptr b1,ptr b7,ptr E9] ((mb,.map es ck)::(Z++C)) (λv H=>∃es' bD m' N,H=(mb,.map es' bD)::(N++(Z++C))/\Kn K.n S es' bD m' (N++Z)/\kF (N++Z) v K.n (S r)):=by
  intro r es ck m Z v hZ hm hv g;obtain⟨s,rfl,hs⟩:=(hm.kA r v hv).one;refine xA (R:=aF _) ?_;unfold L342;intro c1 _;refine Ld.mk (v:=.map (some mb)) (by exact .tail _ (.tail _ (xad _ (hZ _ h19)))) rfl ?_;refine hm.dK.hit (k:=r) de (b:=mb) (by exact .tail _ (.head _)) hv λv' e=>?_;subst e;refine Ext.two λc7 _=>(St.p (dc hs) ?_);refine Br.yes (az.q ?_);refine St.p (dc hs) ?_;refine az.q ?_;exact aF.mk (.skip .tail) ⟨es,ck,m,[],rfl,hm,hm.kA r _ hv⟩
 intro k;induction k with
 |zero=>
  intro r es ck m Z hk hr hZ hm;have qx:r<2:=by
   cases hN:K.N r with
   |some d=>
    have:=h.ok.wf.iG h.ok.lv r;rw[an hN]at hk;have:=h.ok.lv.lt _ (h.ok.mid.var hN);omega
   |none=>
    rcases hr with hr|⟨d,e⟩
    ·exact hr
    rw[hN]at e;cases e
  cases hv:aG m r with
  |none=>exact absurd hv (hm.low r qx)
  |some v=>exact hit hZ hm hv
 |succ k ih=>
  intro r es ck m Z hk hr hZ hm;cases hv:aG m r with
  |some v=>exact hit hZ hm hv
  |none=>
  have qx:¬r<2:=λh2=>hm.low r h2 hv;obtain⟨d,hN⟩:∃d,K.N r=some d:=by
   rcases hr with hr|hr
   ·omega
   exact hr
  have lj:=h.ok.mid.var hN;have hlo:=h.ok.wf.lo hN;have hhi:=h.ok.wf.hi hN;have hdl:=h.ok.wf.iG h.ok.lv r;rw[an hN]at hk;have hvl:=h.ok.lv.lt _ lj;have GI:S r=λx=>if x.testBit d.v then S d.hi x else S d.lo x:=funext λx=>h.ok.mid.int.node hN x
  refine aE λg=>xA λc1 _=>?_;refine Ld.mk (v:=.map (some mb)) (by exact .tail _ (.tail _ (xad _ (hZ _ h19)))) rfl ?_;refine hm.dK.bM (k:=r) de (b:=mb) (by exact .tail _ (.head _)) hv ?_;refine Ext.two λc7 _=>(St.q ?_);refine Br.no (Ld.mk (v:=ptr kp) (by exact .tail _ (.tail _ (.tail _ (xad _ (hZ _ h1))))) rfl ?_);refine aa.pq (args:=#[ptr kp,u32 r]) (wT (X:=Z) h hN) ?_;rintro w N0 rfl;intro Yj _;refine St.p (fC d) ?_;obtain⟨Z1,hZ1⟩:∃Z1,Z1=(Yj,Obj.cells (bB d).toArray 226 zZ)::(N0++Z):=⟨_,rfl⟩;have SJ:∀x∈Z,x∈Z1:=λx hx=>by rw[hZ1];exact .tail _ (xab _ hx)
  have So:aN (Z1++C) ((Yj,Obj.cells (bB d).toArray 226 zZ)::Z):=by rw[hZ1];exact aN.left.trans (.cons .right)
  have uK:((Yj,Obj.cells (bB d).toArray 226 zZ)::(c7,.cells (List.toArray [iv 0,.slice none 0 0]) 116 zZ)::(c1,.cells #[iv 0,.slice none 0 0] 116 zZ)::(mb,Obj.map es ck)::(N0++(Z++C))).Perm
    ((c1,.cells #[iv 0,.slice none 0 0] 116 zZ)::(c7,.cells (List.toArray [iv 0,.slice none 0 0]) 116 zZ)::(mb,Obj.map es ck)::(Z1++C)):=by
   rw[hZ1,xaP,xaj];refine(List.Perm.swap _ _ _).trans ?_;refine(List.Perm.cons _ (List.Perm.swap _ _ _)).trans ?_;refine(List.Perm.swap _ _ _).trans (.cons _ (.cons _ (.swap _ _ _)))
  have hR0:aN ((Yj,Obj.cells (bB d).toArray 226 zZ)::(c7,.cells (List.toArray [iv 0,.slice none 0 0]) 116 zZ)::(c1,.cells #[iv 0,.slice none 0 0] 116 zZ)::(mb,Obj.map es ck)::(N0++(Z++C))) ((Yj,Obj.cells (bB d).toArray 226 zZ)::Z):=
   .cons (.skip (.skip (.skip (.gC .left))))
  refine DR.of hR0 (Ld.mk (v:=.func (.func 277) #[] #[ptr bn]) (by exact .tail _ (hZ _ h7)) rfl ?_);refine az.q ?_;refine Ld.mk (v:=.func (.func 342) #[] #[ptr B6,ptr b1,ptr b7,ptr E9]) (by exact .tail _ (hZ _ h22)) rfl ?_;refine Ld.f ?_;refine Ld.mk (v:=.func (.func 342) #[] #[ptr B6,ptr b1,ptr b7,ptr E9]) (by exact .tail _ (hZ _ h22)) rfl ?_;refine Ld.f ?_;intro F;refine aL.of rfl zK (aa.pre (.perm uK) ?_);refine aa.fq (args:=#[u32 d.lo,ptr B6,ptr b1,ptr b7,ptr E9]) (ih d.lo es ck m Z1 zO hlo.1 (λx hx=>SJ _ (hZ x hx)) (hm.mono SJ)) ?_;rintro v1 H ⟨kE,jT,m1,N1,rfl,uu,ht1⟩;refine⟨.skip (.skip (.skip (.gC So))),?_⟩;rw[<-xaj];intro F;refine aL.of rfl zK (aa.fq (args:=#[u32 d.hi,ptr B6,ptr b1,ptr b7,ptr E9]) (ih d.hi kE jT m1 (N1++Z1) zO hhi.1 (λx hx=>xab _ (SJ _ (hZ x hx))) uu) ?_);rintro v2 H ⟨gV,iH,m2,N2,rfl,me,XU⟩;refine⟨.skip (.skip (.skip (.gC (aN.assoc.trans (.gC So))))),?_⟩;rw[<-xaj];intro F;refine aL.of rfl zK (aa.pq (args:=#[.agg (bB d).toArray,v1,v2,ptr bn]) (S9 (bn:=bn) hn lj (ht1.mono λ_ h=>xab _ h) XU (xab _ (xab _ (SJ _ (hZ _ hbn))))) ?_);intro v3 N3 RX;rw[<-GI]at RX;refine⟨.skip (.skip (.skip (aN.assoc.trans (.gC (aN.assoc.trans (.gC (aN.assoc.trans (.gC So)))))))),?_⟩;obtain⟨s3,rfl,o3⟩:=RX.one;intro c37 _;intro F;refine St.p (dc o3) ?_;refine Ld.mk (v:=.map (some mb)) (by exact .tail _ (.tail _ (.tail _ (.tail _ (xad _ (xab _ (xab _ (xab _ (SJ _ (hZ _ h19)))))))))) rfl ?_;refine az.q ?_;refine me.dK.bt (k:=r) (b:=mb) (x:=.agg #[iv (K.n:Int),s3]) de gQ rfl λpg qU he=>⟨_,.tail (.tail (.tail (.head _))),?_⟩;refine az.q ?_;refine St.p (dc o3) ?_;refine az.q ?_;have hmem:∀x∈N3++(N2++(N1++Z1)),x∈(N3++(N2++(N1++((Yj,Obj.cells (bB d).toArray 226 zZ)::N0))))++Z:=λx hx=>by
   rw[hZ1]at hx;simpa only[xaj,xaP]using hx
  refine aF.mk (.skip (.skip .tail)) ⟨pg,qU,eo m2 r (.agg #[iv (K.n:Int),s3]),N3++(N2++(N1++((Yj,Obj.cells (bB d).toArray 226 zZ)::N0))),by rw[hZ1];simp only[xaj,xaP],⟨he,λr' v' nZ=>?_,λr' hr'=>?_⟩,RX.mono hmem⟩
  ·rw[bK]at nZ;split at nZ
   ·rename_i e;subst e;cases nZ;exact RX.mono hmem
   exact(me.kA r' v' nZ).mono λx hx=>hmem x (xab _ hx)
  rw[bK];split
  ·simp
  exact me.low r' hr'
end
section
variable {kp bn:Nat} {K:Kd} {S:Nat->ax.Fn} {ord ah tr:zL} {C:Hp}
theorem WS(h:cc kp K S ord ah tr C)(hn:K.n<=16){r:Nat}(hr:live K.N r){X:Hp}{v0 v1:zV}(hv0:kF X v0 K.n (λ_=>false))(hv1:kF X v1 K.n (λ_=>true))(hbn:(bn,Obj.cells #[iv (K.n:Int)] 3 zZ)∈X):
  Fc zQ 276 #[ptr kp,u32 r,v0,v1,.func (.func 277) #[] #[ptr bn]] (X++C) (λv H=>∃N,H=N++(X++C)/\kF (N++X) v K.n (S r)):=by
 obtain⟨s0,rfl,o0⟩:=hv0.one;obtain⟨s1,rfl,o1⟩:=hv1.one;have hi:=h.ok.mid.int;refine aE λg=>I6 λb1 _ b3 _ b5 _ b7 _ b9 _ mb _=>?_;refine az.q ?_;refine aD.bt (ke:=kr) (vr:=λv x=>v=x) (k:=0) (b:=mb) (x:=Value.agg #[iv (K.n:Int),s0]) de gQ aD.empty rfl λkE jT Gz=>⟨_,.head _,?_⟩;refine az.q ?_;refine aD.bt (ke:=kr) (vr:=λv x=>v=x) (k:=1) (b:=mb) (x:=Value.agg #[iv (K.n:Int),s1]) de gQ Gz rfl λgV iH Up=>⟨_,.head _,?_⟩;intro B6 _;refine St.one (c':=#[.map (some mb)]) (by exact .head _) rfl zI rfl ?_;intro E9 _;refine St.one (c':=#[.func (.func 342) #[] #[ptr B6,ptr b1,ptr b7,ptr E9]]) (by exact .head _) rfl zI rfl ?_;refine Ld.q ?_;refine aL.of rfl zK ?_;obtain⟨Z0,Ya⟩:∃Z0:Hp,Z0=(E9,Obj.cells #[.func (.func 342) #[] #[ptr B6,ptr b1,ptr b7,ptr E9]] 404 zZ)::(B6,.cells #[.map (some mb)] 403 zZ)::(b7,.cells #[.func (.func 277) #[] #[ptr bn]] 336 zZ)::(b5,.cells (Value.cells (.agg #[iv (K.n:Int),s1])) 116 zZ)::(b3,.cells (Value.cells (.agg #[iv (K.n:Int),s0])) 116 zZ)::(b1,.cells #[ptr kp] 85 zZ)::X:=⟨_,rfl⟩;have hXZ:∀x∈X,x∈Z0:=λx hx=>by rw[Ya];exact .tail _ (.tail _ (.tail _ (.tail _ (.tail _ (.tail _ hx)))))
 refine aa.pre (H':=(b9,Obj.cells #[iv 0,.slice none 0 0] 116 zZ)::(mb,Obj.map gV iH)::(Z0++C)) (.perm ?_) ?_
 ·rw[Ya];simp only[xaP];refine(List.Perm.cons _ (List.Perm.cons _ (List.Perm.swap _ _ _))).trans ?_;refine(List.Perm.cons _ (List.Perm.swap _ _ _)).trans ?_;refine(List.Perm.swap _ _ _).trans (.cons _ ?_);refine(List.Perm.cons _ (List.Perm.swap _ _ _)).trans ?_;exact List.Perm.swap _ _ _
 refine aa.fq (args:=#[u32 r,ptr B6,ptr b1,ptr b7,ptr E9]) (adY (Z0:=Z0) (bn:=bn) h hn (by rw[Ya];exact .tail _ (.head _)) (by rw[Ya];exact .tail _ (.tail _ (.tail _ (.tail _ (.tail _ (.head _)))))) (by rw[Ya];exact .tail _ (.tail _ (.head _))) (by rw[Ya];exact .head _) (hXZ _ hbn) K.n r gV iH _ Z0 (xdx _ _) hr (λ_ h=>h) ⟨Up,λr v hm=>?_,λr hr=>?_⟩) ?_
 ·rw[bK,bK]at hm;split at hm
  ·rename_i e;subst e;cases hm;have:=hv1.mono hXZ;rwa [show(λ_=>true)=S 1 from funext λx=>(hi.one x).symm]at this
  split at hm
  ·rename_i e;subst e;cases hm;have:=hv0.mono hXZ;rwa [show(λ_=>false)=S 0 from funext λx=>(hi.zero x).symm]at this
  simp[aG]at hm
 ·rw[bK,bK];have:r=0\/r=1:=by omega
  rcases this with rfl|rfl<;>simp
 rintro v H ⟨pg,qU,m3,N,rfl,_,ht⟩;obtain⟨s3,rfl,o3⟩:=ht.one;refine St.p (dc o3) ?_;refine az.q ?_;refine aF.mk (.skip .tail) ⟨N++[(E9,Obj.cells #[.func (.func 342) #[] #[ptr B6,ptr b1,ptr b7,ptr E9]] 404 zZ),(B6,.cells #[.map (some mb)] 403 zZ),(b7,.cells #[.func (.func 277) #[] #[ptr bn]] 336 zZ),(b5,.cells (Value.cells (.agg #[iv (K.n:Int),s1])) 116 zZ),(b3,.cells (Value.cells (.agg #[iv (K.n:Int),s0])) 116 zZ),(b1,.cells #[ptr kp] 85 zZ)],by rw[Ya];simp,ht.mono λx hx=>?_⟩;rw[Ya]at hx;simpa using hx
theorem Ov(h:cc kp K S ord ah tr C)(hn:K.n<=16){r:Nat}(hr:live K.N r):
  Fc zQ 193 #[ptr kp,u32 r] C (λv H=>∃N t,H=N++C/\v=.tuple #[t,iv 0]/\kF N t K.n (S r)):=by
 refine aE λg=>JT λb1 _=>?_;refine au.int (e:=110) zK zK zK λbx=>?_;refine aa.px .here (wW (X:=[(bx,_),(b1,_)]) (rs:=[r]) h (dF.block (by exact .head _) zI) (λx hx=>by rw[xaz.1 hx];exact hr) zI) ?_;rintro w N0 rfl;refine ae.cO (Br.F (aa.eq (gP h.rep) λji _=>?_));refine St.one (c':=#[iv (K.n:Int)]) (by exact .head _) rfl zI rfl ?_;refine Ld.q ?_;refine ae.nq (b:=16) (Br.F (Ld.q ?_));refine aa.px (bH.left (C:=[]) (A:=_)) (yK hn false []) ?_;rintro w N1 ⟨t0,rfl,Wa⟩;rw[xaL]at Wa⊢;obtain⟨s0,rfl,o0⟩:=Wa.one;refine Ext.two λb26 _=>(St.p (dc o0) ?_);refine Ld.q ?_;refine aa.px (bH.left (C:=[]) (A:=_)) (yK hn true []) ?_;rintro w N2 ⟨t1,rfl,ht1⟩;rw[xaL]at ht1⊢;obtain⟨s1,rfl,o1⟩:=ht1.one;refine Ext.two λb34 _=>(St.p (dc o1) ?_);refine az.q ?_;refine az.q ?_;obtain⟨X,hX⟩:∃X:Hp,X=(b34,Obj.cells (List.toArray [iv (K.n:Int),s1]) 116 zZ)::(N2++((b26,Obj.cells (List.toArray [iv (K.n:Int),s0]) 116 zZ)::(N1++((ji,Obj.cells #[iv (K.n:Int)] 3 zZ)::(N0++[(bx,Obj.cells (ay .u32 [(r:Int)]) 110 zZ)]))))):=⟨_,rfl⟩;refine aa.pre (H':=(b1,Obj.cells #[iv 0,.slice none 0 0] 116 zZ)::(X++C)) (.perm ?_) ?_
 ·rw[hX];have:=xaT (a:=(b1,Obj.cells #[Value.int .i64 0,.slice none 0 0] 116 zZ)) (l₂:=C) (l₁:=(b34,Obj.cells (List.toArray [Value.int .i64 (K.n:Int),s1]) 116 zZ)::(N2++((b26,Obj.cells (List.toArray [Value.int .i64 (K.n:Int),s0]) 116 zZ)::(N1++((ji,Obj.cells #[Value.int .i64 (K.n:Int)] 3 zZ)::(N0++[(bx,Obj.cells (ay .u32 [(r:Int)]) 110 zZ)]))))));simpa only[xaP,xaj,xb4]using this
 refine aa.fq (WS (X:=X) (bn:=ji) h hn hr (Wa.mono λx hx=>?_) (ht1.mono λx hx=>?_) ?_) ?_
 ·rw[hX];exact .tail _ (xab _ (.tail _ (xad _ hx)))
 ·rw[hX];exact .tail _ (xad _ hx)
 ·rw[hX];exact .tail _ (xab _ (.tail _ (xab _ (.head _))))
 rintro v H ⟨N,rfl,ht⟩;obtain⟨s3,rfl,o3⟩:=ht.one;refine St.p (dc o3) ?_;refine az.q ?_;exact aF.mk .tail ⟨N++X,_,by rw[xaj],rfl,ht⟩
def rts(K:Kd):zL:=(List.range K.ho.length).filter λr=>decide (0<K.hold r)
theorem Nm(h:cc kp K S ord ah tr C):Fc zQ 192 #[ptr kp] C (λr H=>∃N,H=N++C/\aP 110 .u32 r (iw (rts K)) N):=by
 obtain⟨b,hC,hO⟩:=h.rep;have hcap:=h.ok.mid.cap;have hle:=h.gf;have hfit:K.ho.length<=1048576:=by
  have:=hO.ul;omega
 refine aE λg=>JU (ae.aI (Br.no ?_));have acf:∀z∈b.CH,z∈C:=by rw[hC];exact bH.sub (.cons (.app (.app (.app .left))))
 refine Nil.ptr (ai.mk (Ld.u (by rw[hC];exact .head _) ?_));refine hO.ho.bP ?_;rw[aq]
 let rk:Nat->zL:=λk=>(List.range k).filter λr=>decide (0<K.hold r)
 refine⟨λvs H=>∃(k:Nat) (w:zV) (N:Hp),vs=[w,iv (k:Int)]/\k<=K.ho.length/\H=N++C/\aP 110 .u32 w (iw (rk k)) N,λvs _=>K.ho.length-bJ vs 1,JE.mk ⟨0,_,[],rfl,xaO _,rfl,aP.nil⟩,?_⟩;rintro w11 w12 H ⟨k,w,N,⟨⟩,hk,rfl,hN⟩ gs;refine ae.eZ (Br.dec (λhlt=>?_) (λhlt=>?_))
 ·intro J hJ;have fin:∀w' N',aP 110 .u32 w' (iw (rk (k+1))) N'->J [w'] (N'++C):=λw' N' h'=>hJ _ _ λgs=>by
   exact ae.inc (aC.of (.refl _) ⟨k+1,w',N',rfl,hlt,rfl,h'⟩ (by simp only[bJ];omega))
  have e:rk (k+1)=rk k++if 0<K.hold k then [k]else []:=by
   show(List.range (k+1)).filter _=_;rw[xcl,xb6];congr 1;by_cases hp:0<K.hold k<;>simp[hp]
  refine hO.ho.ld (x:=((K.hold k:Nat):Int)) (bI hlt) (λz hz=>xab _ (acf z hz)) (ae.nq (b:=0) (Br.dec (λhp=>?_) (λhp=>?_)))
  ·rw[e,xae hp]at fin;refine bc.q ?_;have DM:(rk k).length<=k:=by
    have:=xb2 (λr=>decide (0<K.hold r)) (List.range k);rwa [xaK]at this
   refine au.int (e:=110) zK zK zK λbx=>?_;refine hN.qJ (.cons .left) (by exact .head _) (by rw[aq];omega) (by rw[aq];omega) λv' N' cC=>?_;rw[cg]at fin;exact JE.of .tail (fin v' N' cC)
  rw[e,xac hp,xaL]at fin;exact JE.mk (fin w11 N hN)
 obtain rfl:k=K.ho.length:=by omega
 exact aF.here ⟨N,rfl,hN⟩
end
end
end Go.Proofs
namespace ak
open Go.Sx
def E7(c:Nat->Nat->Nat):Nat->zL->Nat
 |_,[]=>0
 |a,v::o=>c a v+E7 c (aB a v true) o
def qd(a:Nat)(o:zL):Nat:=o.foldl (λa v=>aB a v true) a
theorem CD(a:Nat)(o o':zL):qd a (o++o')=qd (qd a o) o':=xdp ..
theorem wP(c:Nat->Nat->Nat):∀(o o':zL) (a:Nat),E7 c a (o++o')=E7 c a o+E7 c (qd a o) o'
 | [],o',a=>by simp[E7,qd]
 |v::o,o',a=>by rw[xaP,E7,wP c o o',E7,xcN];rfl
theorem qX:∀(o:zL) (a u:Nat),(qd a o).testBit u=(a.testBit u||decide (u∈o))
 | [],a,u=>by simp[qd]
 |v::o,a,u=>by
  show(qd (aB a v true) o).testBit u=_;rw[qX o,aj];by_cases e:u=v
  ·simp[e]
  simp[e]
structure nt(n a:Nat)(o:zL):Prop where
 nd:o.Nodup
 mem:∀v,v∈o↔v∈bM n a
variable {n:Nat} {c:Nat->Nat->Nat}
theorem nt.nil{a:Nat}(h:nt n a []):bM n a=[]:=xcF.2 λv hv=>by simpa using(h.mem v).2 hv
theorem nt.tail{a v:Nat}{o:zL}(h:nt n a (v::o)):v∈bM n a/\nt n (aB a v true) o:=by
 have h1:=xaX.1 h.nd;refine⟨(h.mem v).1 zI,h1.2,λu=>?_⟩;rw[cT,aj];have hu:=h.mem u;rw[cT,xal]at hu;by_cases e:u=v
 ·subst e;simp[h1.1]
 simp only[e,false_or,xa1]at hu⊢;exact hu
theorem nt.cons{a v:Nat}{o:zL}(hv:v∈bM n a)(h:nt n (aB a v true) o):nt n a (v::o):=by
 have hm:=h.mem;refine⟨xaX.2 ⟨λhx=>?_,h.nd⟩,λu=>?_⟩
 ·have:=(hm v).1 hx;rw[cT,aj,xae rfl]at this;exact absurd this.2 zI
 rw[xal,hm,cT,cT,aj];rw[cT]at hv;by_cases e:u=v
 ·subst e;simp[hv]
 simp[e]
theorem ES:∀(o:zL) (a:Nat),nt n a o->B n c a<=E7 c a o
 | [],a,h=>by rw[MA h.nil];exact xaO _
 |v::o,a,h=>by
  obtain⟨h1,h2⟩:=h.tail;exact xbS (aef h1) (Nat.add_le_add_left (ES o _ h2) _)
theorem FR:∀(f a:Nat),(bM n a).length<=f->nt n a (ord n c f a)/\E7 c a (ord n c f a)=B n c a
 |0,a,h=>by
  have hm:bM n a=[]:=xbX zO;rw[ord,MA hm];exact⟨⟨by simp,λv=>by rw[hm]⟩,rfl⟩
 |f+1,a,h=>by
  by_cases hm:bM n a=[]
  ·have:ord n c (f+1) a=[]:=by rw[ord,hm];rfl
   rw[this,MA hm];exact⟨⟨by simp,λv=>by rw[hm]⟩,rfl⟩
  obtain⟨v,hv,he,_,ho⟩:=vM (c:=c) (f:=f) hm;have:=gN hv;obtain⟨h1,h2⟩:=FR f (aB a v true) zO;rw[ho];exact⟨h1.cons hv,by rw[E7,h2,he]⟩
theorem oX(n:Nat):bM n 0=List.range n:=by
 unfold bM;rw[xcg.2];simp
end ak
namespace ak
open Go.Sx
def UT(n:Nat)(l:Fs)(vs:zL):Fs:=vs.foldl (λl v=>given n l v) l
theorem SE(A k:Nat):has (k+1) A=has k A++(if A.testBit k then [k]else []):=by
 unfold has;rw[xcl,xb6];congr 1;rw[xbn];simp
theorem u7(n:Nat)(l:Fs)(a b:zL):UT n l (a++b)=UT n (UT n l a) b:=xdp ..
theorem vj(n:Nat)(L:Fs)(A:Nat):∀k,st n L A k=UT n (mK L) (has k A)
 |0=>rfl
 |k+1=>by
  rw[st,SE,u7,<-vj n L A k];split<;>rfl
def Sm(a b:Fs):Prop:=∀x,x∈a↔x∈b
theorem Sm.trans{a b c:Fs}(h:Sm a b)(h':Sm b c):Sm a c:=λx=>(h x).trans (h' x)
theorem Sm.symm{a b:Fs}(h:Sm a b):Sm b a:=λx=>(h x).symm
theorem Sm.refl(a:Fs):Sm a a:=λ_=>xcY
def AF(n:Nat)(l:Fs):Prop:=∀t∈l,eY n t
variable {n:Nat}
theorem tO{a b:Fs}(h:Sm a b)(v:Nat):Sm (given n a v) (given n b v):=λx=>by
 rw[cf,cf];constructor
 ·rintro⟨t,ht,h'⟩;exact⟨t,(h t).1 ht,h'⟩
 rintro⟨t,ht,h'⟩;exact⟨t,(h t).2 ht,h'⟩
theorem SW(hn:n<=16)(l:Fs)(v:Nat):AF n (given n l v):=λt ht=>by
 obtain⟨u,_,b,rfl⟩:=cf.1 ht;exact eB hn
theorem Eo{t:zL}{u v:Nat}{b c:Bool}(hf:eY n t)(hu:u<n)(hv:v<n)(h:u≠v):iN n (iN n t u b) v c=iN n (iN n t v c) u b:=
 (eB hf.ya).ext (eB hf.ya) λx hx=>by
  rw[eX (eB hf.ya) hv hx,eX hf hu (fX hx hv),eX (eB hf.ya) hu hx,eX hf hv (fX hx hu),cu (xbb h)]
theorem GK{l:Fs}{u v:Nat}(hl:AF n l)(hu:u<n)(hv:v<n)(h:u≠v):Sm (given n (given n l u) v) (given n (given n l v) u):=λx=>by
 rw[cf,cf];constructor
 ·rintro⟨t,ht,c,rfl⟩;obtain⟨s,hs,b,rfl⟩:=cf.1 ht;exact⟨iN n s v c,cf.2 ⟨s,hs,c,rfl⟩,b,Eo (hl s hs) hu hv h⟩
 rintro⟨t,ht,c,rfl⟩;obtain⟨s,hs,b,rfl⟩:=cf.1 ht;exact⟨iN n s u c,cf.2 ⟨s,hs,c,rfl⟩,b,Eo (hl s hs) hv hu (xbb h)⟩
theorem yN:∀(vs:zL) {a b:Fs},Sm a b->Sm (UT n a vs) (UT n b vs)
 | [],_,_,h=>h
 |v::vs,_,_,h=>yN vs (tO h v)
theorem Qs(hn:n<=16){vs vs':zL}(hp:vs.Perm vs'):(∀v∈vs,v<n)->∀l,AF n l->Sm (UT n l vs) (UT n l vs'):=by
 induction hp with
 |nil=>exact λ_ l _=>Sm.refl _
 |cons v _ ih=>exact λh l hl=>ih (λu hu=>h u (by simp[hu])) _ (SW hn l v)
 |swap x y r=>
  intro h l hl;by_cases e:x=y
  ·subst e;exact Sm.refl _
  exact yN r (GK hl (h y zI) (h x zI) (xbb e))
 |trans uK _ ih1 ih2=>exact λh l hl=>(ih1 h l hl).trans (ih2 (λv hv=>h v (uK.mem_iff.2 hv)) l hl)
theorem yM:∀(vs:zL) {l:Fs},l.Nodup->(UT n l vs).Nodup
 | [],_,h=>h
 |v::vs,_,_=>yM vs (n9 _ _ _)
theorem MR{L:Fs}(h:AF n L):AF n (mK L):=λt ht=>h t (gn.1 ht)
theorem FW{a b:Fs}(ha:a.Nodup)(hb:b.Nodup)(h:Sm a b)(v:Nat):(nodes n a v).length=(nodes n b v).length:=mT (jE ha hb h)
theorem zy(n a:Nat):(has n a).Nodup:=List.Pairwise.filter _ xbi
theorem ZU{a v:Nat}(h:v∈has n a):v<n:=(rA.1 h).1
theorem SF{a v:Nat}(hv:v<n)(ha:a.testBit v=false):(has n (aB a v true)).Perm (has n a++[v]):=by
 refine(xcx (zy _ _) ?_).2 λu=>?_
 ·rw[xa2];refine⟨zy _ _,by simp,λx hx y hy=>?_⟩;simp at hy;subst hy;rintro rfl;rw[(rA.1 hx).2]at ha;cases ha
 rw[rA,xan,xaz,rA,aj];by_cases e:u=v
 ·subst e;simp[hv]
 simp[e]
theorem UX(hn:n<=16){L:Fs}(hL:AF n L){a v:Nat}(hv:v<n)(ha:a.testBit v=false):Sm (st n L (aB a v true) n) (given n (st n L a n) v):=by
 rw[vj,vj];have h:=Qs hn (SF hv ha) (λu hu=>ZU hu) _ (MR hL);rw[u7]at h;exact h
variable {φ:zL->zL} {π:Nat->Nat}
def lay(n:Nat)(F:Nat->Nat):zL:=(List.range (wN n)).map λi=>F i&&&dP n
def neg(n:Nat)(ws:zL):zL:=lay n λi=>18446744073709551615-ws.getD i 0
end ak
namespace ax
open ak
section
variable {n:Nat} {ord:zL} {L:ak.Fs}
theorem FD(a:Nat)(o:zL)(v:Nat):qd a (o++[v])=aB (qd a o) v true:=by rw[CD];rfl
theorem Tp(hn:n<=16)(hL:∀t∈L,eY n t)(hp:ord.Perm (List.range n)):∀k,k<=n->Sm (cur n ord L k) (st n L (qd 0 (ord.take k)) n)
 |0,_=>by
  have e:st n L (qd 0 (ord.take 0)) n=mK L:=by
   rw[vj];have:has n (qd 0 (ord.take 0))=[]:=by
    show has n 0=[];rw[xcF];intro v hv;have:=(rA.1 hv).2;rw[xcA]at this;cases this
   rw[this];rfl
  rw[e];exact .refl _
 |k+1,hk=>by
  have EZ:ord.length=n:=by rw[hp.length_eq,xaK]
  have fc:ord.Nodup:=hp.nodup_iff.2 xbi;have hlt:k<ord.length:=by omega
  have hv:ord[k]<n:=xaM.1 (hp.mem_iff.1 (xaF hlt));have hg:ord.getD k 0=ord[k]:=by rw[xar,xaa hlt];rfl
  have ht:ord.take (k+1)=ord.take k++[ord[k]]:=xba hlt;have hno:ord[k]∉ord.take k:=λhm=>by
   have h2:(ord.take (k+1)).Nodup:=fc.sublist (xdS _ _);rw[ht]at h2;exact(xa2.1 h2).2.2 _ hm _ zI rfl
  have hb:(qd 0 (ord.take k)).testBit ord[k]=false:=by
   rw[qX,xcA,xak hno];rfl
  rw[ht,FD];refine Sm.trans ?_ (Sm.symm (UX hn hL hv hb));rw[cur,hg];exact tO (Tp hn hL hp k zO) _
theorem VM(hn:n<=16)(hL:∀t∈L,eY n t)(hp:ord.Perm (List.range n)){k:Nat}(hk:k<=n)(v:Nat):(nodes n (cur n ord L k) v).length=lvl n L (qd 0 (ord.take k)) v:=by
 unfold lvl;refine FW (Ab k) ?_ (Tp hn hL hp k hk) v;rw[vj];exact yM _ (mJ _)
theorem Ek(hn:n<=16)(hL:∀t∈L,eY n t)(hp:ord.Perm (List.range n)):∀k,k<=n->E7 (lvl n L) 0 (ord.take k)=kH n ord L k
 |0,_=>rfl
 |k+1,hk=>by
  have EZ:ord.length=n:=by rw[hp.length_eq,xaK]
  have hlt:k<ord.length:=by omega
  have hg:ord.getD k 0=ord[k]:=by rw[xar,xaa hlt];rfl
  rw[xba hlt,wP,Ek hn hL hp k zO,kH];congr 1;unfold F8;rw[VM hn hL hp zO,hg];simp[E7]
theorem Ac(hn:n<=16)(hL:∀t∈L,eY n t)(hp:ord.Perm (List.range n)):E7 (lvl n L) 0 ord=kH n ord L n:=by
 have EZ:ord.length=n:=by rw[hp.length_eq,xaK]
 rw[<-Ek hn hL hp n (xai n),<-EZ,xbm]
theorem Gj(hp:ord.Perm (List.range n)):nt n 0 ord:=⟨hp.nodup_iff.2 xbi,λv=>by rw[oX];exact hp.mem_iff⟩
theorem FO(h:nt n 0 ord):ord.Perm (List.range n):=by
 refine(xcx h.nd xbi).2 λv=>?_;rw[h.mem,oX]
theorem th(c:Nat->Nat->Nat):(ak.ord n c n 0).Perm (List.range n):=FO (FR n 0 (by rw[oX,xaK];exact xai n)).1
theorem tg(hn:n<=16)(hL:∀t∈L,eY n t):kH n (ak.ord n (lvl n L) n 0) L n=B n (lvl n L) 0:=by
 rw[<-Ac hn hL (th _)];exact(FR n 0 (by rw[oX,xaK];exact xai n)).2
theorem W8(hn:n<=16)(hL:∀t∈L,eY n t)(hp:ord.Perm (List.range n)):B n (lvl n L) 0<=kH n ord L n:=by
 rw[<-Ac hn hL hp];exact ES ord 0 (Gj hp)
end
end ax
set_option maxRecDepth 100000
namespace Go.Proofs
open Go Go.Sx Tryz
section
open ax
section
variable {kp:Nat} {K:Kd} {S:Nat->ax.Fn} {ord tr:zL} {C:Hp}
theorem vk{n:Nat}{o:zL}:∀k,kH n o [] k=0:=by
  have hc:∀k,cur n o [] k=[]:=λk=>by
    induction k with
    |zero=>rfl
    |succ k ih=>rw[cur,ih];rfl
  intro k;induction k with
  |zero=>rfl
  |succ k ih=>rw[kH,ih];unfold F8;rw[hc];rfl
theorem Ft{B:Hp}{v:zV}{n:Nat}{f:ax.Fn}(h:kF B v n f):∃s ws,v=.agg #[iv (n:Int),s]/\Words B s ws/\ak.eY n ws/\pE n ws=f:=by
  obtain⟨ws,⟨s,rfl,hw⟩,hf,he⟩:=h;exact⟨s,ws,rfl,hw,hf,he⟩
def ahP(kp:Nat)(K:Kd)(S:Nat->ax.Fn)(ord tr:zL)(v:zV)(H:Hp):Prop:=
  ∃L:ak.Fs,(∀t∈L,ak.eY K.n t)/\K.held S=FT K.n L/\L.length<=1048576/\
   ((cI K S ord=ak.B K.n (ak.lvl K.n L) 0/\v=.tuple #[.agg #[iv ((cI K S ord:Nat):Int),iv ((cI K S ord:Nat):Int),iv 0,.bool true],iv 0]/\At kp K S ord tr H)\/
    (cI K S ord≠ak.B K.n (ak.lvl K.n L) 0/\∃o ls,o=ak.ord K.n (ak.lvl K.n L) K.n 0/\ls=path ord o/\
     (((rm K S).can ord ls=true/\v=.tuple #[.agg #[iv ((cI K S ord:Nat):Int),iv ((cI K S o:Nat):Int),iv ((ls.length:Nat):Int),.bool true],iv 0]/\At kp K S o (tr++ls) H)\/
      ((rm K S).can ord ls=false/\v=.tuple #[.agg #[iv ((cI K S ord:Nat):Int),iv ((cI K S ord:Nat):Int),iv ((2*((rm K S).dO 0 ls ord).length:Nat):Int),.bool false],iv 0]/\At kp K S ord tr H))))
theorem UB(h:At kp K S ord tr C)(hp:ord.Perm (List.range K.n))(hn:K.n<=12)(eR:tr.length<17317308137472):
    Fc zQ 139 #[ptr kp] C (λv H=>ahP kp K S ord tr v H):=by
  have h0:=h;obtain⟨K',S',bW,hK,hk⟩:=h;have hKn:=hk.n;have fM:∀r,K'.hold r≠0->live K'.N r:=λr hr=>(.inr (hK.ok.mid.held r hr));have hcap:=hK.ok.mid.cap;have hle:=hK.gf;have DM:(rts K').length<=1048576:=by
    obtain⟨b,_,hO⟩:=hK.rep;have:=hO.ul;have h2:=xb2 (λr=>decide (0<K'.hold r)) (List.range K'.ho.length);rw[xaK]at h2;show(List.filter _ _).length<=_;omega
  have wo:∀r,r∈rts K'↔K'.hold r≠0:=λr=>by
    unfold rts;rw[xbD,xaM,decide_eq_true_iff];constructor
    · rintro⟨_,h⟩;omega
    · intro h
      refine⟨xaD λh2=>h ?_,by omega⟩;unfold Kd.hold;rw[xar,xaE zO];rfl
  refine aE λg=>Kv λb1 _=>?_;refine ae.aI (Br.no (aa.eq (m9 h0) (ae.nq (b:=12) (Br.F (aa.fq (Nm hK) ?_)))));rintro vr H ⟨NR,rfl,hR⟩;have PU:dF .u32 NR vr (iw (rts K')):=hR.ints;refine hR.bP ?_;rw[aq];refine⟨λvs H=>∃(i:Nat) (s:zV) (L:ak.Fs) (CS N:Hp),vs=[s,iv (i:Int)]/\i<=(rts K').length/\H=(b1,.cells #[iv 0,iv 0,iv 0,.bool false] 147 zZ)::(CS++(N++C))/\(∀x∈NR,x∈N)/\r8 116 s (MV K'.n L) CS N/\L.length=i/\(∀t∈L,ak.eY K'.n t)/\∀j t,L[j]? =some t->∃r,(rts K')[j]? =some r/\pE K'.n t=S' r,
    λvs _=>(rts K').length-bJ vs 1,JE.mk ⟨0,_,[],[],NR,rfl,xaO _,rfl,λ_ h=>h,r8.nil,rfl,λt ht=>absurd ht (xaQ),λj t (hj:([]:List (zL))[j]? =some t)=>absurd hj (by rw[List.getElem?_nil];exact nofun)⟩,?_⟩
  rintro w20 w21 H ⟨i,s,L,CS,N,⟨⟩,hi,rfl,hN,hT,hLl,E3,hLr⟩ gs;refine ae.eZ (Br.dec (λhlt=>?_) (λhge=>?_))
  · refine PU.ld (n:=(((rts K')[i]:Nat):Int)) (cL (xaa hlt)) (λx hx=>.tail _ (xab _ (xad _ (hN x hx)))) ?_
    refine aa.fq (args:=#[ptr kp,u32 (rts K')[i]]) (Ov hK zO (fM _ ((wo _).1 (xaF hlt)))) ?_;rintro w H ⟨Nt,t,rfl,rfl,ht⟩;obtain⟨sw,ws,rfl,hw,hf,he⟩:=Ft ht;refine Ext.two λb29 _=>(St.p (dc (bO hw)) ?_);refine az.q ?_;refine wY λYk=>?_;have hT':r8 116 w20 (MV K'.n L) CS (N++Nt):=hT.mono λ_ h=>xad _ h;refine r8.app hT' (A:=[(Yk,_),(b29,_),(b1,_)]) (B:=N++(Nt++C)) (t:=⟨(K'.n:Int),ws⟩) (by exact .head _) (hw.mono λ_ h=>xab _ h) (by rw[p5];omega) λv' CS' hT2=>?_;refine ae.inc (aC.of (.skip .tail) ⟨i+1,v',L++[ws],CS',N++Nt,rfl,hlt,by rw[xaj];rfl,λx hx=>xad _ (hN x hx),by unfold MV at hT2⊢;rw[xaH];exact hT2,by rw[xaf,hLl];rfl,λt ht=>?_,λj t hj=>?_⟩ (by simp only[bJ];omega))
    · rcases xan.1 ht with ht|ht
      · exact E3 t ht
      · rw[xaz.1 ht];exact hf
    · by_cases ZJ:j<L.length
      · rw[xaV ZJ]at hj
        exact hLr j t hj
      · rw[xbz zO]at hj
        have:j=i:=by
          have:=(xah.1 hj).1;rw[xb3]at this;omega
        subst this;rw[hLl,xcV]at hj;simp at hj;subst hj;exact⟨_,xaa hlt,he⟩
  have hi':i=(rts K').length:=by omega
  subst hi';rw[hKn]at hT E3 hLr;have tN:K.held S=FT K.n L:=by
    refine funext λg=>propext ?_;rw[<-hk.held g];constructor
    · rintro⟨r,hr,rfl⟩
      obtain⟨j,hj,e⟩:=xa9.1 ((wo r).2 hr);obtain⟨r2,qx,he⟩:=hLr j L[j] (xaa zO);rw[xaa hj,e]at qx;cases qx;exact⟨L[j],xaF _,he.symm⟩
    · rintro⟨t,ht,rfl⟩
      obtain⟨j,hj,e⟩:=xa9.1 ht;obtain⟨r2,qx,he⟩:=hLr j t (by rw[xaa hj,e]);exact⟨r2,(wo r2).1 (xaw qx),he⟩
  have hlt:=Ls hp;have hkz:cI K S ord=kH K.n ord L K.n:=by
    unfold cI;rw[tN];exact Xz E3 zO hlt
  have SQ:L.length<=1048576:=by omega
  refine aa.eq (cH h0) ?_;have hTb:jL (CS++N) w20 (MV K.n L):=hT.afk (λ_ h=>xad _ h) (λ_ h=>xab _ h);rw[<-xaj];refine aa.pq (W7 hTb (by rw[p5];omega)) ?_;intro w NB hB;obtain⟨so,Y,hY,rfl,hI⟩:∃so Y,NB++(CS++N)=Y/\w=.tuple #[iv ((ak.B K.n (ak.lvl K.n L) 0:Nat):Int),so,iv 0]/\(L≠[]->dF .i64 Y so (iw (ak.ord K.n (ak.lvl K.n L) K.n 0))):=by
    have hO:r9 (MV K.n L):=Df E3;rcases hB with⟨hno,_⟩|⟨_,n2,L2,e,hz,_,hf2,hB⟩
    · exact absurd hO hno
    by_cases jS:L=[]
    · subst jS
      have hL2:L2=[]:=by cases L2 with
        |nil=>rfl
        |cons a b=>simp[MV]at e
      subst hL2;obtain rfl:=hz rfl;have hB0:ak.B K.n (ak.lvl K.n []) 0=0:=by rw[<-tg zO zI];exact vk _
      rcases hB with⟨h,_⟩|⟨_,s2,C2,N2,rfl,_,_⟩
      · omega
      exact⟨s2,_,rfl,by rw[hB0];rfl,λh=>absurd rfl h⟩
    · have Wh:n2=K.n/\L2=L:=by
        cases L with
        |nil=>exact absurd rfl jS
        |cons a b=>
          cases L2 with
          |nil=>simp[MV]at e
          |cons a2 b2=>
            simp only[MV,xaC,xax,Tb.mk.injEq]at e;obtain⟨⟨e1,e2⟩,e3⟩:=e;have e1:n2=K.n:=by omega
            subst e1;refine⟨rfl,?_⟩;rw[e2];congr 1;refine((List.map_inj_right (f:=λws=>(⟨(K.n:Int),ws⟩:Tb)) ?_).1 e3).symm;intro x y hxy;simpa using hxy
      obtain⟨rfl,rfl⟩:=Wh;rcases hB with⟨h,_⟩|⟨_,s2,C2,N2,rfl,hown,hH⟩
      · omega
      exact⟨s2,_,rfl,rfl,λ_=>by rw[hH];exact hown.ints.mono λ_ h=>xad _ h⟩
  rw[hY];clear hB;refine Ext.mk rfl (Ext.mk rfl (Ext.mk rfl (ae.dJ (Br.dec (λheq=>?_) (λhne=>?_)))))
  · refine Build.mk (cs:=[iv ((cI K S ord:Nat):Int),iv ((cI K S ord:Nat):Int),iv 0,.bool true]) zK (St.q ?_)
    refine az.q ?_;exact aF.mk (.skip .right) ⟨L,E3,tN,SQ,.inl ⟨heq,rfl,h0⟩⟩
  · have jS:L≠[]:=λe=>by
      subst e;refine hne ?_;rw[hkz,<-tg zO zI,vk,vk]
    obtain⟨o,ho⟩:∃o,o=ak.ord K.n (ak.lvl K.n L) K.n 0:=⟨_,rfl⟩;have hop:o.Perm (List.range K.n):=by rw[ho];exact th _
    have hIo:=hI jS;rw[<-ho]at hIo;refine aa.fq (Rh h0 hIo hp hop zO) ?_;rintro w H ⟨C2,rfl,hM⟩;have Zv:=(AY (hop.nodup_iff.2 xbi) (hp.trans hop.symm)).1;rcases hM with⟨hc,rfl,hA⟩|⟨hc,rfl,hA⟩
    · rw[Zv]at hA
      refine Ext.two (aa.eq (cH hA) (ae.gX ?_));rw[xam rfl];refine Build.mk (cs:=[iv ((cI K S ord:Nat):Int),iv ((cI K S o:Nat):Int),iv (((path ord o).length:Nat):Int),.bool true]) zK (St.q ?_);refine az.q ?_;exact aF.mk (.skip .right) ⟨L,E3,tN,SQ,.inr ⟨hne,o,_,ho,rfl,.inl ⟨hc,rfl,hA⟩⟩⟩
    · refine Ext.two (aa.eq (cH hA) (ae.gX ?_))
      rw[xak zD];refine Build.mk (cs:=[iv ((cI K S ord:Nat):Int),iv ((cI K S ord:Nat):Int),iv ((2*((rm K S).dO 0 (path ord o) ord).length:Nat):Int),.bool false]) zK (St.q ?_);refine az.q ?_;exact aF.mk (.skip .right) ⟨L,E3,tN,SQ,.inr ⟨hne,o,_,ho,rfl,.inr ⟨hc,rfl,hA⟩⟩⟩
end
end
section
open ax
section
variable {kp:Nat} {K:Kd} {S:Nat->ax.Fn} {ord tr:zL} {C:Hp} {Q:zV->Hp->Prop}
theorem QN{w:Nat}(hw:3<=w/\w<=5):Rd zQ 138 #[.int .u8 (w:Int)] C (· =iv ((w-1:Nat):Int)):=by
 refine aE λg=>Kw ?_;refine ae.bY (b:=3) (bc.q (ae.fI (b:=2) (br.mk (.refl _) ?_)));rw[show w-3+2=w-1 by omega]
theorem iA(h:At kp K S ord tr C){s gr:Nat}:Rd zQ 134 #[ptr kp,.int .u8 (s:Int),iv (gr:Int)] C (· =iv (if 6<s\/gr<100\/1000<gr then 1 else if s=6/\12<K.n then 6 else 0)):=by
 refine aE λg=>xR ?_;refine ae.aI (Br.no (ae.nq (b:=6) (cm.or (a:=decide (6<s)) (decide (gr<100)) (λ_=>ae.eZ (b:=100) ⟨rfl,rfl⟩) rfl λ_=>?_)));refine cm.or (a:=decide (6<s)||decide (gr<100)) (decide (1000<gr)) (λ_=>ae.nq (b:=1000) ⟨rfl,rfl⟩) rfl λ_=>?_;rw[<-xa8,<-xa8];refine Br.dec (λhb=>?_) (λhb=>?_)
 ·rw[xae zO];exact br.mk (.refl _) rfl
 rw[xac zO];intro J9 h9;refine ae.dJ (b:=6) ?_;by_cases hs:s=6
 ·rw[xam hs];refine Split.go rfl (aa.eq (m9 h) (ae.nq (b:=12) (aM.mk (JE.mk (h9 _ _ λ_=>?_)))));show Br (.bool (decide (12<K.n))) _ _;refine Br.dec (λDZ=>?_) (λDZ=>?_)
  ·rw[xae ⟨hs,DZ⟩];exact br.mk (.refl _) rfl
  rw[xac zO];exact br.mk (.refl _) rfl
 rw[xak hs];refine Split.Vp rfl (aM.mk (JE.mk (h9 _ _ λ_=>Br.no ?_)));rw[xac zO];exact br.mk (.refl _) rfl
theorem oS(a b c:Int)(d:Bool):∀u∈[Value.int .i64 a,iv b,iv c,.bool d],u.oneCell'=true:=λu hu=>by
 simp only[xal,xaQ,xbH]at hu;rcases hu with rfl|rfl|rfl|rfl<;>rfl
abbrev uk(a b c:Int)(d:Bool):zV:=.agg #[iv a,iv b,iv c,.bool d]
theorem QR(h:At kp K S ord tr C){gr:Nat}(mG:100<=gr/\gr<=1000)(hn:12<K.n):Rd zQ 85 #[ptr kp,.int .u8 6,iv (gr:Int)] C (· =.tuple #[uk 0 0 0 false,iv 6]):=by
 refine aE λg=>iL ?_;intro b1 _;refine aa.eq (iA h (s:=6)) ?_;rw[xac zO,xae ⟨rfl,hn⟩];refine ae.cO (Br.T (Build.mk (cs:=[iv 0,iv 0,iv 0,.bool false]) zK ?_));refine St.q ?_;refine az.q ?_;exact br.mk .tail rfl
theorem QS(h:At kp K S ord tr C){gr:Nat}(mG:100<=gr/\gr<=1000)(hin:Fc zQ 135 #[ptr kp,iv (gr:Int)] C Q)(hQ:∀v H,Q v H->∃(a b c:Int) (d:Bool) (e:zV),v=.tuple #[uk a b c d,e]):
  Fc zQ 85 #[ptr kp,.int .u8 1,iv (gr:Int)] C Q:=by
 refine aE λg=>iL ?_;intro b1 _;refine aa.eq (iA h (s:=1)) ?_;rw[xac zO,xac zO];refine ae.cO (Br.F (ae.dJ (a:=1) (b:=1) (Br.yes (aa.fq hin ?_))));intro v H hv;obtain⟨a,b,c,d,e,rfl⟩:=hQ v H hv;refine Ext.two (St.p (oS a b c d) ?_);refine az.q ?_;exact aF.mk .tail hv
theorem FH(h:At kp K S ord tr C){gr:Nat}(mG:100<=gr/\gr<=1000)(hin:Fc zQ 136 #[ptr kp,iv (gr:Int)] C (λv H=>∃(a b c:Int) (d:Bool) (r:zV),v=.tuple #[uk a b c d,r,iv 0]/\Q (.tuple #[uk a b c d,iv 0]) H)):
  Fc zQ 85 #[ptr kp,.int .u8 2,iv (gr:Int)] C Q:=by
 refine aE λg=>iL ?_;intro b1 _;refine aa.eq (iA h (s:=2)) ?_;rw[xac zO,xac zO];refine ae.cO (Br.F (ae.dJ (a:=2) (b:=1) (Br.no (ae.dJ (a:=2) (b:=2) (Br.yes (aa.fq hin ?_))))));rintro v H ⟨a,b,c,d,r,rfl,hv⟩;refine Ext.mk rfl (Ext.mk rfl (Ext.mk rfl ?_));intro E9 _;refine St.p (oS a b c d) ?_;refine az.q ?_;refine St.p (oS a b c d) ?_;refine az.q ?_;exact aF.mk (.skip .tail) hv
theorem FG(h:At kp K S ord tr C){w gr:Nat}(hw:3<=w/\w<=5)(mG:100<=gr/\gr<=1000)(hin:Fc zQ 137 #[ptr kp,iv ((w-1:Nat):Int)] C Q)(hQ:∀v H,Q v H->∃(a b c:Int) (d:Bool) (e:zV),v=.tuple #[uk a b c d,e]):
  Fc zQ 85 #[ptr kp,.int .u8 (w:Int),iv (gr:Int)] C Q:=by
 refine aE λg=>iL ?_;intro b1 _;refine aa.eq (iA h (s:=w)) ?_;rw[xac zO,xac zO];refine ae.cO (Br.F (ae.dJ (b:=1) (Br.F (ae.dJ (b:=2) (Br.F ?_)))));intro J28 h28;have good:J28 [.bool true] ((b1,.cells #[iv 0,iv 0,iv 0,.bool false] 147 zZ)::C):=by
  refine h28 _ _ λ_=>Br.yes ?_;refine aa.eq (QN hw) (aa.fq hin ?_);intro v H hv;obtain⟨a,b,c,d,e,rfl⟩:=hQ v H hv;refine Ext.two (St.p (oS a b c d) ?_);refine az.q ?_;exact aF.mk .tail hv
 refine ae.dJ (b:=3) (Br.dec (λe=>?_) (λe=>?_))
 ·rw[xam e];exact JE.mk good
 refine ae.dJ (b:=4) (Br.dec (λe=>?_) (λe=>?_))
 ·rw[xam e];exact JE.mk good
 refine ae.dJ (b:=5) ?_;rw[xam zO];exact JE.mk good
theorem Ni(h:At kp K S ord tr C){gr:Nat}(hn:K.n<=12)(mG:100<=gr/\gr<=1000)(hin:Fc zQ 139 #[ptr kp] C Q)(hQ:∀v H,Q v H->∃(a b c:Int) (d:Bool) (e:zV),v=.tuple #[uk a b c d,e]):
  Fc zQ 85 #[ptr kp,.int .u8 6,iv (gr:Int)] C Q:=by
 refine aE λg=>iL ?_;intro b1 _;refine aa.eq (iA h (s:=6)) ?_;rw[xac zO,xac zO];refine ae.cO (Br.F (ae.dJ (a:=6) (b:=1) (Br.no (ae.dJ (a:=6) (b:=2) (Br.no ?_)))));intro J28 h28;refine ae.dJ (a:=6) (b:=3) (Br.no (ae.dJ (a:=6) (b:=4) (Br.no (ae.dJ (a:=6) (b:=5) (JE.mk (h28 _ _ λ_=>Br.no ?_))))));refine ae.dJ (a:=6) (b:=6) (Br.yes (aa.fq hin ?_));intro v H hv;obtain⟨a,b,c,d,e,rfl⟩:=hQ v H hv;refine Ext.two (St.p (oS a b c d) ?_);refine az.q ?_;exact aF.mk .tail hv
theorem QU(h:At kp K S ord tr C){gr:Nat}(mG:100<=gr/\gr<=1000):Rd zQ 85 #[ptr kp,.int .u8 0,iv (gr:Int)] C (· =.tuple #[uk (cI K S ord:Nat) (cI K S ord:Nat) 0 false,iv 0]):=by
 refine aE λg=>iL ?_;intro b1 _;refine aa.eq (iA h (s:=0)) ?_;rw[xac zO,xac zO];refine ae.cO (Br.F (ae.dJ (a:=0) (b:=1) (Br.no (ae.dJ (a:=0) (b:=2) (Br.no ?_)))));intro J28 h28;refine ae.dJ (a:=0) (b:=3) (Br.no (ae.dJ (a:=0) (b:=4) (Br.no (ae.dJ (a:=0) (b:=5) (JE.mk (h28 _ _ λ_=>Br.no ?_))))));refine ae.dJ (a:=0) (b:=6) (Br.no (aa.eq (cH h) (aa.eq (cH h) (Build.mk (cs:=[iv ((cI K S ord:Nat):Int),iv ((cI K S ord:Nat):Int),iv 0,.bool false]) zK ?_))));refine St.q ?_;refine az.q ?_;exact br.mk .tail rfl
end
section
variable {C:Hp}
def swB(n s:Nat):Nat->Nat
 |1=>3*n*(n-1)
 |2=>3*n*(n-1)*(s+1)
 |3=>(n-1)*2
 |4=>(n-2)*10
 |5=>(n-3)*46
 |6=>n*(n-1)
 |_=>0
end
end
end Go.Proofs
namespace ax
section
variable {m:Rm} {g:Nat}
theorem Rm.zn(m:Rm)(ord path:zL):∀i,m.size (aA ord (path.take (m.keep ord path i)))=m.size ord->m.keep ord path i=0
 |0,_=>rfl
 |i+1,h=>by
  rw[keep]at h⊢;have h0:=m.wg ord path i 0 (xaO _);have h0:m.size (aA ord (path.take (m.keep ord path i)))<=m.size ord:=h0;split at h
  ·omega
  rename_i hn;rw[xac hn];exact m.zn ord path i h
theorem Rm.Fg(m:Rm)(w p:Nat)(ord:zL)(h:m.size (aA ord (m.visit w p ord).1)=m.size ord):(m.visit w p ord).1=[]:=by
 have:=m.zn ord (m.dO p (mr w) ord) (m.dO p (mr w) ord).length h;show List.take _ _=[];rw[this];rfl
theorem Rm.Ca(m:Rm)(w p:Nat)(ord:zL):(m.visit w p ord).2<=2*(mr w).length:=by
 have h1:=m.mi p (mr w) ord;show _+(_-_)<=_;omega
theorem Rm.Aj(m:Rm)(w:Nat)(ord:zL):∀i,(m.all w ord i).2<=i*(2*(mr w).length)
 |0=>xaO _
 |i+1=>by
  have h1:=m.Aj w ord i;have h2:=m.Ca w i (aA ord (m.all w ord i).1);show(m.all w ord i).2+(m.visit w i (aA ord (m.all w ord i).1)).2<=_;rw[xbx];omega
theorem vI{p q:zL}(hq:q.Nodup)(hp:p.Perm q):∀i,i<=q.length->2*(ew p q i).length+i*i<=i*(2*p.length-1)
 |0,_=>by simp[ew]
 |i+1,hi=>by
  have:=vI hq hp i zO;obtain⟨_,_,h3⟩:=j3 hq hp i zO;have hl:=hp.length_eq;rw[ew,xaf,Bx];have h4:=(h3 zO).2;have e1:(i+1)*(i+1)=i*i+i+i+1:=by rw[xbx,Nat.mul_succ];omega
  have e2:(i+1)*(2*p.length-1)=i*(2*p.length-1)+(2*p.length-1):=xbx _ _;rw[e1,e2];omega
theorem FP{p q:zL}{n:Nat}(hq:q.Nodup)(hp:p.Perm q)(hn:q.length=n):2*(path p q).length<=n*(n-1):=by
 have:=vI hq hp q.length (xai _);have hl:=hp.length_eq;rw[hl,hn]at this;unfold path;rw[hn];cases n with
 |zero=>simpa using this
 |succ k=>
  rw[show 2*(k+1) -1=(k+1)+k by omega,xdn (k+1) (k+1) k]at this;show 2*(ew p q (k+1)).length<=(k+1)*k;omega
structure uc(m:Rm)(ord:zL)(ls:zL):Prop where
 mem:∀x∈ls,x+1<m.n
 le:m.size (aA ord ls)<=m.size ord
 len:ls.length+66*m.size (aA ord ls)<=66*m.size ord
theorem uc.nil{ord:zL}:uc m ord []:=⟨by simp,xai _,by simp[aA]⟩
theorem uc.of{ord ls:zL}(h1:∀x∈ls,x+1<m.n)(h2:m.size (aA ord ls)<=m.size ord)(h3:m.size (aA ord ls)=m.size ord->ls=[])(h4:ls.length<=66):uc m ord ls:=by
 refine⟨h1,h2,?_⟩;by_cases e:m.size (aA ord ls)=m.size ord
 ·rw[h3 e];simp[aA]
 omega
theorem CB(hn:m.n<=64):∀{l ord:zL},ord.Perm (List.range m.n)->(∀v∈l,v<m.n)->(m.ct g ord l).1.length+66*m.size (aA ord (m.ct g ord l).1)<=66*m.size ord
 | [],ord,hp,hl=>by simp[Rm.ct,aA]
 |v::l,ord,hp,hl=>by
  have hv:=Gl hp (hl v zI);obtain⟨a1,a2,a3,a4⟩:=m.AQ g (ord:=ord) hv;have hin:=Lo hv a1;have ih:=CB hn (l:=l) (ord:=aA ord (road (ord.idxOf v) (m.sB g ord (ord.idxOf v)).1)) (mM hp hin) (λx hx=>hl x (by simp[hx]));have DM:=vz (ord.idxOf v) (m.sB g ord (ord.idxOf v)).1;rw[Rm.ct];simp only;rw[cr,xaf];by_cases e:m.size (aA ord (road (ord.idxOf v) (m.sB g ord (ord.idxOf v)).1))=m.size ord
  ·have e2:=a3 e;rw[e2,gD]at ih DM⊢;simpa[aA]using ih
  omega
theorem p8{ord l:zL}(hp:ord.Perm (List.range m.n))(hl:l.Perm (List.range m.n))(hn:m.n<=64):uc m ord (m.ct g ord l).1/\(m.ct g ord l).2<=3*m.n*(m.n-1):=by
 have hlt:∀v∈l,v<m.n:=λv hv=>xaM.1 (hl.mem_iff.1 hv);have h:=mO (m:=m) (g:=g) (l:=l) hp hlt;have nD:l.length=m.n:=by rw[hl.length_eq,xaK]
 obtain⟨h1,h2,h3,h4,h5⟩:=h;rw[nD]at h4;exact⟨⟨h1,h2,CB hn hp hlt⟩,by rw[xcq,xcm m.n,<-xcq];exact h4⟩
theorem ve(hn:m.n<=64):∀{ls:List (zL)} {ord:zL},ord.Perm (List.range m.n)->(∀l∈ls,l.Perm (List.range m.n))->m.tR g ord ls->uc m ord (m.dj g ord ls).1
 | [],ord,hp,hl,hg=>hg.elim
 | [l],ord,hp,hl,hg=>by
  have e:(m.dj g ord [l]).1=(m.ct g ord l).1++[]:=rfl;rw[e,xaL];exact(p8 hp (hl l zI) hn).1
 |l::l2::r,ord,hp,hl,hg=>by
  obtain⟨g1,g2⟩:=(qG zI).1 hg;have a:=(p8 (g:=g) hp (hl l zI) hn).1;have ih:=ve hn (ls:=l2::r) (mM hp a.mem) (λx hx=>hl x (by simp[xal.1 hx])) g2;have e:(m.dj g ord (l::l2::r)).1=(m.ct g ord l).1++(m.dj g (aA ord (m.ct g ord l).1) (l2::r)).1:=rfl;rw[e];have a1:=a.le;have a2:=a.len;have b1:=ih.le;have b2:=ih.len;refine⟨λx hx=>(xan.1 hx).elim (a.mem x) (ih.mem x),by rw[cr];omega,by rw[cr,xaf];omega⟩
theorem Fu{ls:List (zL)}{ord:zL}(hp:ord.Perm (List.range m.n))(hl:∀l∈ls,l.Perm (List.range m.n))(hg:m.tR g ord ls):(m.dj g ord ls).2<=3*m.n*(m.n-1)*(m.size ord+1):=by
 have h:=Lh hp hl hg;have h1:=h.YO.2;have h2:=h.u5;have e:3*(m.n-1)*m.n=3*m.n*(m.n-1):=by rw[xcq,xcm (m.n-1),<-xcq]
 rw[e]at h2;exact xbS h2 (xdb _ zO)
theorem Rm.ED(m:Rm)(w:Nat)(ord:zL):∀i,(m.all w ord i).1.length+66*m.size (aA ord (m.all w ord i).1)<=66*m.size ord
 |0=>by simp[Rm.all,aA]
 |i+1=>by
  have e:(m.all w ord (i+1)).1=(m.all w ord i).1++(m.visit w i (aA ord (m.all w ord i).1)).1:=rfl;have ih:=m.ED w ord i;have h1:=m.Cb w i (aA ord (m.all w ord i).1);have h2:=m.Fg w i (aA ord (m.all w ord i).1);have h3:=(m.sk w i (aA ord (m.all w ord i).1)).1;rw[e,cr,xaf];by_cases e2:m.size (aA (aA ord (m.all w ord i).1) (m.visit w i (aA ord (m.all w ord i).1)).1)=m.size (aA ord (m.all w ord i).1)
  ·rw[h2 e2];simpa[aA]using ih
  omega
theorem Fw{w:Nat}{ord:zL}(hw:2<=w/\w<=4)(hn:m.n<=64):uc m ord (m.pass w ord).1/\(m.pass w ord).2<=(m.n+1-w)*(2*(mr w).length):=by
 refine⟨⟨λx hx=>?_,m.TW w ord _,m.ED w ord _⟩,m.Aj w ord _⟩;by_cases e:m.n+1-w=0
 ·have hx:x∈(m.all w ord (m.n+1-w)).1:=hx;rw[e]at hx;exact absurd hx xaQ
 have:=m.Mn hx;omega
end
end ax
set_option maxRecDepth 100000
namespace Go.Proofs
open Go Go.Sx Tryz
open ax
section
variable {kp:Nat} {K:Kd} {S:Nat->ax.Fn} {ord tr:zL} {C:Hp}
def Xj(kp:Nat)(K:Kd)(S:Nat->ax.Fn)(ord tr:zL)(s:Nat)(v:zV)(H:Hp):Prop:=
 ∃(ls:zL) (c:Nat) (d:Bool),v=.tuple #[uk (cI K S ord:Nat) (cI K S (aA ord ls):Nat) (c:Nat) d,iv 0]/\At kp K S (aA ord ls) (tr++ls) H/\uc (rm K S) ord ls/\c<=swB K.n (cI K S ord) s/\(d=true->s=6)
theorem Xj.shape{s:Nat}{v:zV}{H:Hp}(h:Xj kp K S ord tr s v H):∃(a b c:Int) (d:Bool) (e:zV),v=.tuple #[uk a b c d,e]:=by
 obtain⟨ls,c,d,rfl,_⟩:=h;exact⟨_,_,_,_,_,rfl⟩
theorem Ln(h:At kp K S ord tr C)(hp:ord.Perm (List.range K.n)){s gr:Nat}(hs:s<=6)(mG:100<=gr/\gr<=1000)(hx:s=6->K.n<=12)(eR:tr.length<16492674416640):
  Fc zQ 85 #[ptr kp,.int .u8 (s:Int),iv (gr:Int)] C (Xj kp K S ord tr s):=by
 have hn:=h.lY;have hrn:(rm K S).n=K.n:=rfl;have DL:∀o,(rm K S).size o=cI K S o:=λ_=>rfl;have win:∀w:Nat,3<=w/\w<=5->Fc zQ 85 #[ptr kp,.int .u8 (w:Int),iv (gr:Int)] C (Xj kp K S ord tr w):=λw hw=>by
  refine FG h hw mG ((Xe h (w:=w-1) zO zO).mono ?_) λv H h=>h.shape;rintro v H ⟨rfl,hA⟩;obtain⟨h1,h2⟩:=Fw (m:=rm K S) (w:=w-1) (ord:=ord) zO hn;refine⟨_,_,false,rfl,hA,h1,xbS h2 (Nat.le_of_eq ?_),nofun⟩;rw[hrn];obtain rfl|rfl|rfl:w=3\/w=4\/w=5:=by omega
  ·rfl
  ·show(K.n+1-3)*10=(K.n-2)*10;rw[show K.n+1-3=K.n-2 by omega]
  show(K.n+1-4)*46=(K.n-3)*46;rw[show K.n+1-4=K.n-3 by omega]
 obtain rfl|rfl|rfl|h3|rfl:s=0\/s=1\/s=2\/(3<=s/\s<=5)\/s=6:=by omega
 ·refine Fc.mono (QU h mG) ?_;rintro v H ⟨rfl,rfl⟩;exact⟨[],0,false,rfl,by rw[xaL];exact h,.nil,xaO _,nofun⟩
 ·refine QS h mG ((CG h hp mG zO).mono ?_) λv H h=>h.shape;rintro v H ⟨l,hl,rfl,hA⟩;obtain⟨h1,h2⟩:=p8 (m:=rm K S) (g:=gr) hp hl hn;exact⟨_,_,false,rfl,hA,h1,h2,nofun⟩
 ·refine FH h mG ((Cr h hp mG zO).mono ?_);rintro v H ⟨lss,hls,hg,rfl,hA⟩;exact⟨_,_,_,false,_,rfl,_,_,false,rfl,hA,ve hn hp hls hg,Fu hp hls hg,nofun⟩
 ·exact win s h3
 have ur:=hx rfl;refine Ni h ur mG ((UB h hp ur zO).mono ?_) λv H h=>h.shape;rintro v H ⟨L,E3,tN,SQ,hQ⟩;have hk:∀p:zL,p.Perm (List.range K.n)->cI K S p=kH K.n p L K.n:=λp hp=>by
  unfold cI;rw[tN];exact Xz E3 zO (Ls hp)
 rcases hQ with⟨e,rfl,hA⟩|⟨hne,o,ls,ho,hls,hQ⟩
 ·exact⟨[],0,true,rfl,by rw[xaL];exact hA,.nil,xaO _,λ_=>rfl⟩
 have hop:o.Perm (List.range K.n):=by rw[ho];exact th _
 have hoB:cI K S o=ak.B K.n (ak.lvl K.n L) 0:=by rw[hk o hop,ho];exact tg zO E3
 have hle:ak.B K.n (ak.lvl K.n L) 0<=cI K S ord:=by rw[hk ord hp];exact W8 zO E3 hp
 have acu:o.Nodup:=hop.nodup_iff.2 xbi;have EZ:o.length=K.n:=by rw[hop.length_eq,xaK]
 have hdl:ord.length=K.n:=by rw[hp.length_eq,xaK]
 obtain⟨PK,PJ⟩:=AY acu (hp.trans hop.symm);have BT:=FP acu (hp.trans hop.symm) EZ;rw[<-hls]at PK PJ BT;have E5:K.n*(K.n-1)<=12*11:=xcb ur zO;rcases hQ with⟨_,rfl,hA⟩|⟨hc,rfl,hA⟩
 ·refine⟨ls,_,true,by rw[PK],by rw[PK];exact hA,.of (λx hx=>by have:=PJ x hx;omega) ?_ ?_ zO,by show ls.length<=K.n*(K.n-1);omega,λ_=>rfl⟩
  ·rw[PK,DL,DL];omega
  rw[PK,DL,DL];omega
 have hgl:=(rm K S).mi 0 ls ord;exact⟨[],_,false,rfl,by rw[xaL];exact hA,.nil,by show 2*_<=K.n*(K.n-1);omega,nofun⟩
end
end Go.Proofs
namespace ax
open ak
variable {n:Nat}
def sat(n:Nat)(f:Fn):Nat:=(List.range (2^n)).countP f
def flip(v x:Nat):Nat:=aB x v (!x.testBit v)
theorem flip_flip(v x:Nat):flip v (flip v x)=x:=by
 unfold flip;rw[aj,xae rfl,jQ];simpa using iz x v
theorem L1{v x:Nat}(hv:v<n)(hx:x<2^n):flip v x<2^n:=fX hx hv
theorem Of{v:Nat}(hv:v<n):((List.range (2^n)).map (flip v)).Perm (List.range (2^n)):=by
 refine(xcx ?_ xbi).2 λx=>?_
 ·refine xcc.2 (xbi.imp λ{a b} h e=>h ?_);rw[<-flip_flip v a,e,flip_flip]
 rw[xao];constructor
 ·rintro⟨y,hy,rfl⟩;exact xaM.2 (L1 hv (xaM.1 hy))
 intro hx;exact⟨flip v x,xaM.2 (L1 hv (xaM.1 hx)),flip_flip v x⟩
theorem wR{f g p q:Nat->Bool}(h:∀x,(p x).toNat+(q x).toNat=(f x).toNat+(g x).toNat):∀l:zL,l.countP p+l.countP q=l.countP f+l.countP g
 | []=>rfl
 |x::l=>by
  have:=h x;have:=wR h l;simp only[List.countP_cons];cases hp:p x<;>cases hq:q x<;>cases hf:f x<;>cases hg:g x<;>simp_all<;>omega
theorem QM{v:Nat}(hv:v<n)(f:Fn):sat n (λx=>f (aB x v false))+sat n (λx=>f (aB x v true))=2*sat n f:=by
 unfold sat;rw[wR (f:=f) (g:=λx=>f (flip v x)) (λx=>?_)]
 ·have:List.countP (λx=>f (flip v x)) (List.range (2^n))=List.countP f (List.range (2^n)):=by
   have h:=(Of hv).countP_eq f;rw[xeC]at h;exact h
  omega
 unfold flip;have:=iz x v;cases hb:x.testBit v<;>rw[hb]at this<;>simp only[xcy,xcs]<;>rw[this]<;>omega
theorem oK:sat n (λ_=>false)=0:=by simp[sat]
theorem sat_true:sat n (λ_=>true)=2^n:=by simp[sat]
variable {N:eG} {S:Nat->Fn} {ah:Nat->Nat}
theorem QL(h:WF n ah N)(hl:jV n ah)(hi:Interp N S){r a b:Nat}{d:Nd}(hd:N r=some d)(hv:d.v<n)(ha:a*2^dep n ah N d.lo=sat n (S d.lo))(hb:b*2^dep n ah N d.hi=sat n (S d.hi)):
  (a*2^(dep n ah N d.lo-ah d.v-1)+b*2^(dep n ah N d.hi-ah d.v-1))*2^dep n ah N r=sat n (S r):=by
 have h1:=(h.lo hd).2;have h2:=(h.hi hd).2;rw[an hd];have e1:(λx=>S r (aB x d.v false))=S d.lo:=by
  have:=(gh h hl hi (r:=r) (.inr ⟨d,hd⟩) hv (by rw[an hd];exact xai _) false);rw[(kR hd).1]at this;exact(funext this.1).symm
 have e2:(λx=>S r (aB x d.v true))=S d.hi:=by
  have:=(gh h hl hi (r:=r) (.inr ⟨d,hd⟩) hv (by rw[an hd];exact xai _) true);rw[(kR hd).2]at this;exact(funext this.1).symm
 have hh:=QM hv (S r);rw[e1,e2,<-ha,<-hb]at hh;have p1:2^dep n ah N d.lo=2^(dep n ah N d.lo-ah d.v-1)*(2*2^ah d.v):=by
  rw[<-Nat.pow_succ',<-xdl];congr 1;omega
 have p2:2^dep n ah N d.hi=2^(dep n ah N d.hi-ah d.v-1)*(2*2^ah d.v):=by
  rw[<-Nat.pow_succ',<-xdl];congr 1;omega
 rw[p1,p2]at hh;rw[<-xcq a,<-xcq b,<-xef,Nat.mul_left_comm]at hh;omega
end ax
set_option maxRecDepth 100000
namespace Go.Proofs
open Go Go.Sx Tryz
section
open ax
theorem Vg{P:Program}{f:FuncId}{args:Array zV}{B:Hp}{Q:zV->Prop}(h:Px P f args B (λv _=>Q v)):Rd P f args B Q:=λg=>(h g).mono λe H h=>by
 obtain⟨v,H2,rfl,he,hg,hq⟩:=h;exact⟨v,B,rfl,he.trans hg.dK,rfl,hq⟩
theorem ae.ad1{a b:Nat}{k:zV->Prop}(h:k (.int .u64 (((a+b)%18446744073709551616:Nat):Int))):ae .num .add (.int .u64 (a:Int)) (.int .u64 (b:Int)) k:=by
 refine ae.add ?_;rw[wrap_u64];have:(((a:Int)+(b:Int))%18446744073709551616)=((((a+b)%18446744073709551616:Nat)):Int):=by omega
 rw[this];exact h
section
variable {kp:Nat} {K:Kd} {S:Nat->ax.Fn} {ord ah tr:zL} {C:Hp}
theorem pw(r:Nat)(B:Hp):Rd zQ 201 #[u32 r] B (· =.bool (decide (r<2))):=by
 refine aE λg=>JL (ae.dJ (b:=0) (cm.or (a:=decide (r=0)) (decide (r=1)) (λ_=>ae.dJ (b:=1) ⟨rfl,rfl⟩) rfl λ_=>?_));refine br.mk (.refl _) ?_;rw[<-xa8];congr 1;exact xb8.2 zO
theorem Tz(h:cc kp K S ord ah tr C){r v:Nat}(hr:live K.N r)(hv:v<18446744073709551616):
  Rd zQ 144 #[ptr kp,u32 r,.int .u64 (v:Int)] C (· =.tuple #[.bool (S r v),iv 0]):=by
 have sR:K.n<=64:=h.bg.lY;refine aE λg=>Ks (au.int (e:=110) zK zK zK λbx=>?_);refine aa.eh .here (Vg (wW (X:=[(bx,_)]) (rs:=[r]) h (dF.block (by exact .head _) zI) (λx hx=>by rw[xaz.1 hx];exact hr) zI)) (ae.cO (Br.F (⟨λvs H=>∃q:Nat,vs=[u32 q]/\H=C/\live K.N q/\S q v=S r v,λvs _=>K.n-dep K.n (lv ah) K.N (bJ vs 0),JE.of .tail ⟨r,rfl,rfl,hr,rfl⟩,?_⟩)));rintro w H ⟨q,⟨⟩,rfl,hq,he⟩ gs;refine aa.eq (pw q _) (Un.not (Br.mk (λhb=>?_) (λhb=>?_)))
 ·have h2:2<=q:=by simpa using hb
  obtain⟨d,hN⟩:∃d,K.N q=some d:=by
   rcases hq with hq|hq
   ·omega
   exact hq
  have lj:=h.ok.mid.var hN;have hlo:=h.ok.wf.lo hN;have hhi:=h.ok.wf.hi hN;have hvl:=h.ok.lv.lt _ lj;refine aa.eh .here (Vg (wT (X:=[]) h hN)) λnF _=>?_;refine St.p (fC d) ?_;refine Ld.f ?_;refine Ld.f ?_;refine ae.ic (by simpa[bA]using hv) (ae.jj (by simp[bA];exact xau (xbo _ _) hv) zD (ae.dJ (b:=1) ?_));rw[xbT];rw[Bs];have LN:=h.ok.mid.int.node hN v;refine Br.mk (λhb=>?_) (λhb=>?_)
  ·rw[hb,xae rfl]at LN;refine Ld.f ?_;refine aC.of .tail ⟨d.hi,rfl,rfl,hhi.1,LN.symm.trans he⟩ ?_;show K.n-dep K.n (lv ah) K.N d.hi<K.n-dep K.n (lv ah) K.N q;rw[an hN];omega
  rw[hb,xac zD]at LN;refine aC.of .tail ⟨d.lo,rfl,rfl,hlo.1,LN.symm.trans he⟩ ?_;show K.n-dep K.n (lv ah) K.N d.lo<K.n-dep K.n (lv ah) K.N q;rw[an hN];omega
 have h2:q<2:=by simpa using hb
 refine ae.dJ (b:=1) (br.mk (.refl _) ?_);rw[<-he];have hint:=h.ok.mid.int;have:q=0\/q=1:=by omega
 rcases this with rfl|rfl
 ·rw[hint.zero];rfl
 rw[hint.one];rfl
end
end
section
open ax
section
variable {kp mb b1 b9 c9 c1 c3 Oz:Nat} {K:Kd} {S:Nat->ax.Fn} {ord ah tr:zL} {C Z:Hp}
abbrev yC:Nat:=18446744073709551616
abbrev u64(x:Nat):zV:=.int .u64 (x:Int)
theorem wS(h:cc kp K S ord ah tr C){r:Nat}{d:Nd}(hd:K.N r=some d):Rd zQ 202 #[ptr kp,u32 r] C (· =.agg (bB d).toArray):=Vg (wT (X:=[]) h hd)
theorem wV(h:cc kp K S ord ah tr C){X:Hp}{r b:Nat}(hm:(b,Obj.cells (ay .u32 [(r:Int)]) 110 zZ)∈X)(hr:live K.N r):Rd zQ 200 #[ptr kp,.slice (some ⟨b,0,none⟩) 1 1] (X++C) (· =iv 0):=
 Vg (wW (X:=X) (rs:=[r]) h (dF.block (xad _ hm) zI) (λx hx=>by rw[xaz.1 hx];exact hr) zI)
def cw(K:Kd)(ah:zL)(S:Nat->ax.Fn)(r:Nat):Nat:=sat K.n (S r) /2^dep K.n (lv ah) K.N r
theorem rY(h:cc kp K S ord ah tr C){r:Nat}(hr:r<2):cw K ah S r=r:=by
 have hi:=h.ok.mid.int;have h0:K.N r=none:=by
  cases hN:K.N r with
  |none=>rfl
  |some d=>have:=h.ok.mid.two hN;omega
 unfold cw;rw[aU h0];have:r=0\/r=1:=by omega
 rcases this with rfl|rfl
 ·rw[show S 0=λ_=>false from funext hi.zero,oK,Nat.zero_div]
 rw[show S 1=λ_=>true from funext hi.one,sat_true,Nat.div_self (xa6 _)]
theorem To(h:cc kp K S ord ah tr C):∀(k r:Nat),K.n-dep K.n (lv ah) K.N r<=k->live K.N r->cw K ah S r*2^dep K.n (lv ah) K.N r=sat K.n (S r)/\
  (∀d,K.N r=some d->cw K ah S r=cw K ah S d.lo*2^(dep K.n (lv ah) K.N d.lo-lv ah d.v-1)+cw K ah S d.hi*2^(dep K.n (lv ah) K.N d.hi-lv ah d.v-1)):=by
 have hi:=h.ok.mid.int;intro k;induction k with
 |zero=>
  intro r hk hr;cases hN:K.N r with
  |some d=>
   rw[an hN]at hk;have:=h.ok.lv.lt _ (h.ok.mid.var hN);omega
  |none=>
   have h2:r<2:=by
    rcases hr with hr|⟨d,e⟩
    ·exact hr
    rw[hN]at e;cases e
   refine⟨?_,λd hd=>by cases hd⟩;rw[rY h h2,aU hN];have:r=0\/r=1:=by omega
   rcases this with rfl|rfl
   ·rw[show S 0=λ_=>false from funext hi.zero,oK,xd4]
   rw[show S 1=λ_=>true from funext hi.one,sat_true,xdm]
 |succ k ih=>
  intro r hk hr;cases hN:K.N r with
  |none=>
   rw[aU hN]at*;have h2:r<2:=by
    rcases hr with hr|⟨d,e⟩
    ·exact hr
    rw[hN]at e;cases e
   refine⟨?_,λd hd=>by cases hd⟩;rw[rY h h2];have:r=0\/r=1:=by omega
   rcases this with rfl|rfl
   ·rw[show S 0=λ_=>false from funext hi.zero,oK,xd4]
   rw[show S 1=λ_=>true from funext hi.one,sat_true,xdm]
  |some d=>
   have hlo:=h.ok.wf.lo hN;have hhi:=h.ok.wf.hi hN;have hvl:=h.ok.lv.lt _ (h.ok.mid.var hN);have e1:=an (n:=K.n) (ah:=lv ah) hN;have q:=QL h.ok.wf h.ok.lv hi hN (h.ok.mid.var hN) (ih d.lo zO hlo.1).1 (ih d.hi zO hhi.1).1;have e2:cw K ah S r=cw K ah S d.lo*2^(dep K.n (lv ah) K.N d.lo-lv ah d.v-1)+cw K ah S d.hi*2^(dep K.n (lv ah) K.N d.hi-lv ah d.v-1):=by
    show sat K.n (S r) /_=_;rw[<-q,Nat.mul_div_cancel _ (xa6 _)]
   exact⟨by rw[e2];exact q,λd' hd=>by cases hd;exact e2⟩
theorem sA(h:cc kp K S ord ah tr C){r:Nat}(hr:live K.N r)(h1:(b1,Obj.cells #[ptr kp] 85 zZ)∈Z):
  Rd zQ 203 #[u32 r,ptr b1] (Z++C) (· =iv ((dep K.n (lv ah) K.N r:Nat):Int)):=by
 have sX:=xad C h1;refine aE λg=>JJ (aa.eq (pw r _) (Br.mk (λhb=>?_) (λhb=>?_)))
 ·have h2:r<2:=xcd hb;refine Ld.mk sX rfl ?_;refine aa.eq (gP h.rep) (br.mk (.refl _) ?_);have h0:K.N r=none:=by
   cases hN:K.N r with
   |none=>rfl
   |some d=>have:=h.ok.mid.two hN;omega
  rw[aU h0]
 have h2:¬r<2:=xdh hb;obtain⟨d,hN⟩:∃d,K.N r=some d:=by
  rcases hr with hr|hr
  ·omega
  exact hr
 have lj:=h.ok.mid.var hN;refine DR.of (.refl _) (Ld.mk sX rfl ?_);refine Ld.mk sX rfl ?_;intro F;refine aa.eq (args:=#[ptr kp,u32 r]) (wS h hN) (⟨.refl _,?_⟩);refine B7.mk (off:=0) (cs:=(bB d).toArray) (v:=iv (d.v:Int)) rfl ?_;intro F;refine aa.eq (args:=#[ptr kp,iv (d.v:Int)]) (l9 h.rep _) (⟨.refl _,?_⟩);rw[xae ⟨by omega,by omega⟩];refine Ext.two (br.mk (.refl _) ?_);rw[an hN];rfl
theorem AP(a k:Nat):((a%yC)<<<k)%yC=(a*2^k)%yC:=by
 rw[xco,Nat.mod_mul_mod]
theorem U9(h:cc kp K S ord ah tr C){r:Nat}{d:Nd}(hN:K.N r=some d)(h1:(b1,Obj.cells #[ptr kp] 85 zZ)∈Z)(h9:(b9,Obj.cells #[.func (.func 203) #[] #[ptr b1]] 260 zZ)∈Z):
  Rd zQ 205 #[.agg (bB d).toArray,u64 (cw K ah S d.lo%yC),u64 (cw K ah S d.hi%yC),ptr b1,ptr b9] (Z++C) (· =u64 (cw K ah S r%yC)):=by
 have sX:=xad C h1;have h9':=xad C h9;have lj:=h.ok.mid.var hN;have hlo:=h.ok.wf.lo hN;have hhi:=h.ok.wf.hi hN;have hn:=h.bg.lY;have hdl:=h.ok.wf.iG h.ok.lv d.lo;have hdh:=h.ok.wf.iG h.ok.lv d.hi;refine aE λg=>JH λc1 _=>?_;refine Ld.mk (.tail _ sX) rfl ?_;refine Ld.f (v:=iv (d.v:Int)) (aa.eq (l9 h.rep _) ?_);rw[xae ⟨by omega,by omega⟩];refine Ext.two (DR.of (.refl _) (Ld.mk (.tail _ h9') rfl ?_));refine Ld.f (v:=u32 d.lo) (Ld.mk (.tail _ h9') rfl ?_);refine Ld.f (v:=u32 d.hi) λF=>?_;refine aL.of rfl zK (aa.eq (args:=#[u32 d.lo,ptr b1]) (sA (Z:=Z) h hlo.1 h1) (⟨.refl _,?_⟩));rw[xa3];show ae _ _ (iv ((dep K.n (lv ah) K.N d.lo:Nat):Int)) (iv ((lv ah d.v:Nat):Int)) _;refine ae.bY (ae.bY (b:=1) (ae.kW λF=>(aL.of rfl zK (aa.eq (args:=#[u32 d.hi,ptr b1]) (sA (Z:=Z) h hhi.1 h1) ?_))));show ae _ _ (iv ((dep K.n (lv ah) K.N d.hi:Nat):Int)) (iv ((lv ah d.v:Nat):Int)) _;refine ae.bY (ae.bY (b:=1) (ae.kW (ae.ad1 (br.mk .tail ?_))));rw[AP,AP,<-Nat.add_mod,(To h K.n r (xdx _ _) (.inr ⟨d,hN⟩)).2 d hN]
structure KnS(K:Kd)(ah:zL)(S:Nat->ax.Fn)(es:Array MapEntry)(ck:Nat)(m:List (Nat×Nat)):Prop where
 dK:aD kr (λv (x:Nat)=>v=u64 x) es ck m
 val:∀r x,aG m r=some x->x=cw K ah S r%yC
 low:∀r,r<2->aG m r≠none
theorem Nf(h:cc kp K S ord ah tr C)(h9:(c9,Obj.cells #[.map (some mb)] 349 zZ)∈Z)(h1:(c1,Obj.cells #[ptr kp] 85 zZ)∈Z)(h3:(c3,Obj.cells #[.func (.func 205) #[] #[ptr b1,ptr b9]] 265 zZ)∈Z)
 (DZ:(Oz,Obj.cells #[.func (.func 290) #[] #[ptr c9,ptr c1,ptr c3,ptr Oz]] 350 zZ)∈Z)(hb1:(b1,Obj.cells #[ptr kp] 85 zZ)∈Z)(hb9:(b9,Obj.cells #[.func (.func 203) #[] #[ptr b1]] 260 zZ)∈Z):
  ∀(k r:Nat) (es:Array MapEntry) (ck:Nat) (m:List (Nat×Nat)),K.n-dep K.n (lv ah) K.N r<=k->live K.N r->KnS K ah S es ck m->
  Fc zQ 290 #[u32 r,ptr c9,ptr c1,ptr c3,ptr Oz] ((mb,.map es ck)::(Z++C)) (λv H=>v=u64 (cw K ah S r%yC)/\∃es' bD m',H=(mb,.map es' bD)::(Z++C)/\KnS K ah S es' bD m'):=by
 have hit:∀{r:Nat} {es:Array MapEntry} {ck:Nat} {m:List (Nat×Nat)} {x:Nat},KnS K ah S es ck m->aG m r=some x->
   Fc zQ 290 #[u32 r,ptr c9,ptr c1,ptr c3,ptr Oz] ((mb,.map es ck)::(Z++C)) (λv H=>v=u64 (cw K ah S r%yC)/\∃es' bD m',H=(mb,.map es' bD)::(Z++C)/\KnS K ah S es' bD m'):=by
  intro r es ck m x hm hv;refine aE λg=>xG (Ld.mk (v:=.map (some mb)) (.tail _ (xad _ h9)) rfl ?_);refine hm.dK.hit (k:=r) de (b:=mb) (by exact .head _) hv λv' e=>?_;subst e;exact Ext.two (Br.yes (aF.mk (.refl _) ⟨by rw[hm.val r x hv],es,ck,m,rfl,hm⟩))
 intro k;induction k with
 |zero=>
  intro r es ck m hk hr hm;have qx:r<2:=by
   cases hN:K.N r with
   |some d=>
    rw[an hN]at hk;have:=h.ok.lv.lt _ (h.ok.mid.var hN);omega
   |none=>
    rcases hr with hr|⟨d,e⟩
    ·exact hr
    rw[hN]at e;cases e
  cases hv:aG m r with
  |none=>exact absurd hv (hm.low r qx)
  |some v=>exact hit hm hv
 |succ k ih=>
  intro r es ck m hk hr hm;cases hv:aG m r with
  |some v=>exact hit hm hv
  |none=>
  have qx:¬r<2:=λh2=>hm.low r h2 hv;obtain⟨d,hN⟩:∃d,K.N r=some d:=by
   rcases hr with hr|hr
   ·omega
   exact hr
  have hlo:=h.ok.wf.lo hN;have hhi:=h.ok.wf.hi hN;rw[an hN]at hk;have hvl:=h.ok.lv.lt _ (h.ok.mid.var hN);refine aE λg=>xG (Ld.mk (v:=.map (some mb)) (.tail _ (xad _ h9)) rfl ?_);refine hm.dK.bM (k:=r) de (b:=mb) (by exact .head _) hv ?_;refine Ext.two (Br.no (Ld.mk (v:=ptr kp) (.tail _ (xad _ h1)) rfl ?_));refine aa.eq (args:=#[ptr kp,u32 r]) (wS h hN) λb8 _=>?_;refine St.p (fC d) ?_;refine DR.of (R:=(b8,Obj.cells (bB d).toArray 226 zZ)::Z) (.cons (.skip .left)) (Ld.mk (v:=.func (.func 205) #[] #[ptr b1,ptr b9]) (.tail _ h3) rfl ?_);refine az.q ?_;refine Ld.mk (v:=.func (.func 290) #[] #[ptr c9,ptr c1,ptr c3,ptr Oz]) (.tail _ DZ) rfl ?_;refine Ld.f (v:=u32 d.lo) (Ld.mk (v:=.func (.func 290) #[] #[ptr c9,ptr c1,ptr c3,ptr Oz]) (.tail _ DZ) rfl ?_);refine Ld.f (v:=u32 d.hi) λF=>?_;refine aL.of rfl zK (aa.fq (args:=#[u32 d.lo,ptr c9,ptr c1,ptr c3,ptr Oz]) (ih d.lo es ck m zO hlo.1 hm) ?_);rintro v1 H ⟨rfl,kE,jT,m1,rfl,uu⟩;refine⟨.cons (.skip .left),?_⟩;intro F;refine aL.of rfl zK (aa.fq (args:=#[u32 d.hi,ptr c9,ptr c1,ptr c3,ptr Oz]) (ih d.hi kE jT m1 zO hhi.1 uu) ?_);rintro v2 H ⟨rfl,gV,iH,m2,rfl,me⟩;refine⟨.cons (.skip .left),?_⟩;intro F;refine aL.of rfl zK (aa.eq (args:=#[.agg (bB d).toArray,u64 (cw K ah S d.lo%yC),u64 (cw K ah S d.hi%yC),ptr b1,ptr b9]) (U9 (Z:=Z) h hN hb1 hb9) (Ld.mk (v:=.map (some mb)) (.tail _ (.tail _ (xad _ h9))) rfl ?_));refine me.dK.bt (k:=r) (b:=mb) (x:=cw K ah S r%yC) de gQ rfl λpg qU he=>⟨_,.tail (.head _),?_⟩;refine aF.mk .tail ⟨rfl,pg,qU,_,rfl,he,λr' x' nZ=>?_,λr' hr'=>?_⟩
  ·rw[bK]at nZ;split at nZ
   ·rename_i e;subst e;cases nZ;rfl
   exact me.val r' x' nZ
  rw[bK];split
  ·simp
  exact me.low r' hr'
theorem Tr(h:cc kp K S ord ah tr C){r:Nat}(hr:live K.N r):
  Rd zQ 146 #[ptr kp,u32 r] C (· =.tuple #[u64 (sat K.n (S r)%yC),iv 0]):=by
 have hi:=h.ok.mid.int;refine aE λg=>Kq λb1 _=>?_;refine Ld.q ?_;refine au.int (e:=110) zK zK zK λbx=>?_;refine aa.eh .here (wV (X:=[(bx,_),(b1,_)]) h (by exact .head _) hr) (ae.cO (Br.F λb9 _=>(St.one (c':=#[.func (.func 203) #[] #[ptr b1]]) (by exact .head _) rfl zI rfl ?_)));refine Ld.q ?_;refine aa.fq (args:=#[ptr kp,u32 r,u64 0,u64 1,.func (.func 205) #[] #[ptr b1,ptr b9]]) (C:=(b9,Obj.cells #[.func (.func 203) #[] #[ptr b1]] 260 zZ)::(bx,_)::(b1,Obj.cells #[ptr kp] 85 zZ)::C) (Q:=λv H=>v=u64 (cw K ah S r%yC)/\H=(b9,Obj.cells #[.func (.func 203) #[] #[ptr b1]] 260 zZ)::(bx,Obj.cells (ay .u32 [(r:Int)]) 110 zZ)::(b1,Obj.cells #[ptr kp] 85 zZ)::C) (aE λg=>JI ?_) ?_
 ·intro c1 _ c3 _ mb _;refine aD.bt (ke:=kr) (vr:=λv (x:Nat)=>v=u64 x) (k:=0) (b:=mb) (x:=0) de gQ aD.empty rfl λkE jT Gz=>⟨_,.head _,?_⟩;refine aD.bt (ke:=kr) (vr:=λv (x:Nat)=>v=u64 x) (k:=1) (b:=mb) (x:=1) de gQ Gz rfl λgV iH Up=>⟨_,.head _,?_⟩;intro c9 _;refine St.one (c':=#[.map (some mb)]) (by exact .head _) rfl zI rfl ?_;intro Oz _;refine St.one (c':=#[.func (.func 290) #[] #[ptr c9,ptr c1,ptr c3,ptr Oz]]) (by exact .head _) rfl zI rfl ?_;refine Ld.q ?_;refine aL.of rfl zK ?_;obtain⟨Z,hZ⟩:∃Z:Hp,Z=[(Oz,Obj.cells #[.func (.func 290) #[] #[ptr c9,ptr c1,ptr c3,ptr Oz]] 350 zZ),(c9,.cells #[.map (some mb)] 349 zZ),(c3,.cells #[.func (.func 205) #[] #[ptr b1,ptr b9]] 265 zZ),(c1,.cells #[ptr kp] 85 zZ),
   (b9,Obj.cells #[.func (.func 203) #[] #[ptr b1]] 260 zZ),(bx,Obj.cells (ay .u32 [(r:Int)]) 110 zZ),(b1,Obj.cells #[ptr kp] 85 zZ)]:=⟨_,rfl⟩
  refine aa.pre (H':=(mb,Obj.map gV iH)::(Z++C)) (.perm ?_) ?_
  ·rw[hZ];exact(List.Perm.cons _ (List.Perm.swap _ _ _)).trans (List.Perm.swap _ _ _)
  refine aa.fq (args:=#[u32 r,ptr c9,ptr c1,ptr c3,ptr Oz]) (Nf (Z:=Z) (b1:=b1) (b9:=b9) h (by rw[hZ];exact .tail _ (.head _)) (by rw[hZ];exact .tail _ (.tail _ (.tail _ (.head _)))) (by rw[hZ];exact .tail _ (.tail _ (.head _))) (by rw[hZ];exact .head _) (by rw[hZ];exact .tail _ (.tail _ (.tail _ (.tail _ (.tail _ (.tail _ (.head _))))))) (by rw[hZ];exact .tail _ (.tail _ (.tail _ (.tail _ (.head _))))) K.n r gV iH _ (xdx _ _) hr ⟨Up,λr' x hm=>?_,λr' hr'=>?_⟩) ?_
  ·rw[bK,bK]at hm;split at hm
   ·rename_i e;subst e;cases hm;rw[rY h zD];rfl
   split at hm
   ·rename_i e;subst e;cases hm;rw[rY h zD];rfl
   simp[aG]at hm
  ·rw[bK,bK];have:r'=0\/r'=1:=by omega
   rcases this with rfl|rfl<;>simp
  rintro v H ⟨rfl,pg,qU,m3,rfl,_⟩;refine aF.mk ?_ ⟨rfl,rfl⟩;rw[hZ];exact .skip (.skip (.skip (.skip (.skip (.refl _)))))
 rintro v H ⟨rfl,rfl⟩;refine Ld.q ?_;refine aL.of rfl zK (aa.eh (args:=#[u32 r,ptr b1]) .here (sA (Z:=[(b9,_),(bx,_),(b1,_)]) h hr (by exact .tail _ (.tail _ (.head _)))) (ae.kW (br.mk (.skip (.skip .tail)) ?_)));rw[AP,(To h K.n r (xdx _ _) hr).1]
end
end
end Go.Proofs
namespace Go.Sx
open Go
section
variable {P:Program} {g:Gh} {H:Hp}
def wZ:Nat->List (List zV)->List (Nat×zV)
 |_,[]=>[]
 |i,r::rs=>(i,.agg r.toArray)::wZ (i+1) rs
theorem wI{k:Nat}:∀(rs:List (List zV)) (i:Nat) (pre aK:List zV),(∀r∈rs,r.length=k)->pre.length=i*k->aK.length=rs.length*k->pT (λi=>some (i*k,k)) (pre++aK) (wZ i rs)=some (pre++rs.flatten)
 | [],i,pre,aK,_,_,hj=>by
  have:aK=[]:=xcP.1 (by simpa using hj);subst this;simp[wZ,pT]
 |r::rs,i,pre,aK,hr,hp,hj=>by
  have hrk:=hr r (xbK ..);have ZI:aK.length=k+rs.length*k:=by rw[hj,xaB,xbx,Nat.add_comm]
  simp only[wZ,pT,Value.cells];have hb:(Nat.beq r.toArray.toList.length k&&Nat.ble (i*k+r.toArray.toList.length) (pre++aK).length)=true:=by
   have e1:r.toArray.toList.length=k:=hrk;rw[e1,xaf];simp;omega
  rw[hb,xap];have h1:=oU r (pre++aK) (i*k) (by rw[xaf];omega);rw[mS]at h1;have h2:vL (pre++aK) (i*k) r=pre++r++aK.drop k:=by
   have:=xce Array.toList h1;simp only at this;rw[this,<-hp];simp[xet,hrk,xeu]
  show pT _ (vL (pre++aK) (i*k) r) _=_;rw[h2,wI rs (i+1) (pre++r) (aK.drop k) (λx hx=>hr x (xbw _ hx)) (by rw[xaf,hp,hrk,xbx]) (by rw[List.length_drop];omega)];simp
theorem au.many{t e k:Nat}{z:zV}(rs:List (List zV)){len:Nat}{parts:List (Nat×zV)}{K:zV->Hp->Prop}(h1:P.underlying t=some (.slice e))(h2:dL P e=some k)(h3:fK P e=some z)(hk:rs.length*k<=16777216)(hr:∀r∈rs,r.length=k)
 (hl:rs.length=len)(hp:wZ 0 rs=parts)(h:∀b,K (.slice (some ⟨b,0,Option.none⟩) len len) ((b,.cells (rows rs) e zZ)::H)):au P t len parts H K:=by
 subst hl hp;refine⟨rows rs,e,k,z,h1,h2,h3,by omega,?_,λb _=>h b⟩;have:((Array.range (rs.length*k)).map (z.cells[· %z.cells.size]!))=(((Array.range (rs.length*k)).map (z.cells[· %z.cells.size]!)).toList).toArray:=by rw[xdv]
 rw[this];generalize hc:((Array.range (rs.length*k)).map (z.cells[· %z.cells.size]!)).toList=c;have hlen:c.length=rs.length*k:=by rw[<-hc];simp
 refine m6 _ _ _ ?_;have:=wI rs 0 [] c hr zI hlen;simpa using this
def kI(kd:IntKind)(a:Int):zV:=.int kd a
theorem bZ(kd:IntKind)(a b:Int):Instr.sameNow (.int kd) (kI kd a) (kI kd b)=some (decide (a=b)):=by
 simp only[Instr.sameNow,kI,xa7,xaq];rw[xbU];simp
theorem A9(kd:IntKind)(a:Int):Instr.sameBits 10000 (kI kd a) (kI kd a)=true:=by simp[Instr.sameBits,kI]
theorem aD.look{κ β:Type}[DecidableEq κ]{ke:κ->zV}{vr:zV->β->Prop}{es:Array MapEntry}{ck b:Nat}{m:List (κ×β)}{kd:TypeDesc}{zero:zV}{ok:Bool}{k:κ}{K:zV->Prop}(hk:∀a b,Instr.sameNow kd (ke a) (ke b)=some (decide (a=b)))(h:aD ke vr es ck m)(hm:(b,Obj.map es ck)∈H)
 (h1:∀x v,aG m k=some x->vr v x->K (cond ok (.tuple #[v,.bool true]) v))(h2:aG m k=none->K (cond ok (.tuple #[zero,.bool false]) zero)):df kd zero ok H (.map (some b)) (ke k) K:=by
 cases hx:aG m k with
 |none=>exact h.bM hk hm hx (h2 hx)
 |some x=>exact h.hit hk hm hx λv hv=>h1 x v hx hv
end
end Go.Sx
set_option maxRecDepth 100000
namespace Go.Proofs
open Go Go.Sx Tryz
section
open ax
section
variable {B:Hp}
abbrev i64(a:Int):zV:=iv a
abbrev ej(e h:Int)(n:Nat)(t:Int):zV:=.agg #[i64 e,i64 h,u64 n,i64 t]
theorem bu(e h:Int)(n:Nat)(t:Int):∀u∈[i64 e,i64 h,u64 n,i64 t],u.oneCell'=true:=λu hu=>by
 simp only[xal,xaQ,xbH]at hu;rcases hu with rfl|rfl|rfl|rfl<;>rfl
theorem cA(e:Int)(B:Hp):Rd zQ 41 #[i64 e] B (· =ej e (-1) 0 0):=by
 refine aE λg=>Pp λb1 _=>?_;refine Build.mk (cs:=[i64 e,i64 (-1),u64 0,i64 0]) zK (St.p (bu _ _ _ _) ?_);refine az.q ?_;exact br.mk .tail rfl
theorem dU(n:Nat)(e:Int)(B:Hp):Rd zQ 143 #[u64 n,i64 e] B (· =if e=0 then ej 0 (-1) n 0 else ej e (-1) 0 0):=by
 refine aE λg=>Kt λb1 _=>?_;refine ae.neq ?_;by_cases he:e=0
 ·subst he;refine Br.XI rfl (Build.mk (cs:=[i64 0,i64 (-1),u64 n,i64 0]) zK (St.p (bu _ _ _ _) ?_));refine az.q ?_;exact br.mk .tail rfl
 refine Br.UA (by simpa using he) (aa.eq (cA e _) (St.p (r:=[i64 e,i64 (-1),u64 0,i64 0]) (bu _ _ _ _) ?_));refine az.q ?_;exact br.mk .tail (by rw[xac he])
theorem Lk(b:Bool)(B:Hp):Rd zQ 145 #[.bool b] B (· =u64 b.toNat):=by
 refine aE λg=>Kr ?_;cases b
 ·exact Br.no (br.mk (.refl _) rfl)
 exact Br.yes (br.mk (.refl _) rfl)
structure dB where
 op:Nat
 a:Int
 b:Int
 c:Int
 x:Nat
def dB.cells(s:dB):List zV:=[.int .u8 (s.op:Int),i64 s.a,i64 s.b,i64 s.c,u64 s.x]
abbrev dB.v(s:dB):zV:=.agg s.cells.toArray
theorem dB.one(s:dB):∀u∈s.cells,u.oneCell'=true:=λu hu=>by
 simp only[dB.cells,xal,xaQ,xbH]at hu;rcases hu with rfl|rfl|rfl|rfl|rfl<;>rfl
structure dB.Ok(s:dB):Prop where
 op:s.op<256
 a: -9223372036854775808<=s.a/\s.a<=9223372036854775807
 b: -9223372036854775808<=s.b/\s.b<=9223372036854775807
 c: -9223372036854775808<=s.c/\s.c<=9223372036854775807
 x:s.x<18446744073709551616
structure Cf where
 n:Nat
 cap:Nat
 str:Nat
 gr:Nat
 rs:Nat
def Cf.cells(c:Cf):List zV:=[i64 c.n,i64 c.cap,.int .u8 (c.str:Int),i64 c.gr,i64 c.rs]
abbrev jY(sp:Nat)(c:Cf)(kp mb nx:Nat):Nat×Obj:=(sp,.cells (c.cells++[ptr kp,.map (some mb),i64 (nx:Int)]).toArray 90 zZ)
structure iy(kp nx:Nat)(c:Cf)(K:Kd)(S:Nat->ax.Fn)(ord ah tr:zL)(hs:List (Int×Nat))(es:Array MapEntry)(ck:Nat)(C:Hp):Prop where
 ks:cc kp K S ord ah tr C
 n:K.n=c.n
 cap:K.cap=c.cap
 dK:aD (kI .i64) (λv (r:Nat)=>v=u32 r) es ck hs
 live:∀p∈hs,live K.N p.2
 hold:∀r,K.hold r=if 2<=r then(hs.map Prod.snd).count r else 0
 lt:∀p∈hs,0<=p.1/\p.1<nx
abbrev gS(sp:Nat)(c:Cf)(kp mb nx:Nat)(es:Array MapEntry)(ck:Nat)(C:Hp):Hp:=jY sp c kp mb nx::(mb,.map es ck)::C
end
section
variable {sp kp mb nx:Nat} {c:Cf} {K:Kd} {S:Nat->ax.Fn} {ord ah tr:zL} {hs:List (Int×Nat)} {es:Array MapEntry} {ck:Nat} {C:Hp}
theorem eO(h:iy kp nx c K S ord ah tr hs es ck C)(a:Int):Rd zQ 133 #[ptr sp,i64 a] (gS sp c kp mb nx es ck C) (· =.bool (aG hs a).isSome):=by
 refine aE λg=>KA (Ld.n (v:=.map (some mb)) ?_);refine h.dK.look (k:=a) (bZ _) (by exact .tail _ (.head _)) (λx v hx hv=>?_) (λhx=>?_)
 ·exact Ext.two (br.mk (.refl _) (by rw[hx];rfl))
 exact Ext.two (br.mk (.refl _) (by rw[hx];rfl))
theorem Cd(a:Int):Rd zQ 132 #[ptr sp,i64 a] (gS sp c kp mb nx es ck C) (· =.bool (decide (0<=a/\a<c.n))):=by
 refine aE λg=>KB (ae.geq (cm.and (a:=decide (0<=a)) (decide (a<c.n)) (λ_=>?_) rfl λ_=>?_))
 ·exact Nil.ptr (ai.mk (Ld.f (v:=i64 c.n) (ae.lss ⟨rfl,rfl⟩)))
 exact br.mk (.refl _) (by rw[<-xdG])
theorem LJ(a:Int)(B:Hp):Rd zQ 131 #[i64 a] B (· =.bool (decide (a=0\/a=1))):=by
 refine aE λg=>KC (ae.eql (cm.or (a:=a==0) (a==1) (λ_=>ae.eql ⟨rfl,rfl⟩) rfl λ_=>?_));refine br.mk (.refl _) ?_;rw[xa8];rfl
def Ex(w:Nat)(x:dB):Bool:=decide (w&&&32≠0) && !decide (x.a=0\/x.a=1)
def G9(w:Nat)(x:dB):Bool:=decide (w&&&64≠0) && !decide (x.c=0\/x.c=1)
def Dh(n w:Nat)(x:dB):Bool:=decide (w&&&8≠0) && !decide (0<=x.a/\x.a<n)
def Dg(n w:Nat)(x:dB):Bool:=decide (w&&&16≠0) && !decide (0<=x.b/\x.b<n)
def FV(n w:Nat)(x:dB):Bool:=decide (w&&&128≠0) &&decide (x.x>>>n≠0)
def wO(hs:List (Int×Nat))(w:Nat)(x:dB):Bool:=decide (w&&&1≠0) && !(aG hs x.a).isSome
def wM(hs:List (Int×Nat))(w:Nat)(x:dB):Bool:=decide (w&&&2≠0) && !(aG hs x.b).isSome
def Aa(hs:List (Int×Nat))(w:Nat)(x:dB):Bool:=decide (w&&&4≠0) && !(aG hs x.c).isSome
def kM(n:Nat)(hs:List (Int×Nat))(w:Nat)(x:dB):Int:=
 if(Ex w x||G9 w x)=true then 1 else if(Dh n w x||Dg n w x||FV n w x)=true then 2 else if(wO hs w x||wM hs w x||Aa hs w x)=true then 3 else 0
theorem ae.has{w m:Nat}{k:zV->Prop}(hw:w<256)(hm:m<256)(h:k (.bool (decide (w&&&m≠0)))):ae .num .and (.int .u8 (w:Int)) (.int .u8 (m:Int)) λv=>ae .num .neq v (.int .u8 0) k:=by
 refine ae.jj (by simpa[bA]using hw) (by simpa[bA]using hm) (ae.neq ?_);have:(((w&&&m:Nat):Int) !=0)=decide (w&&&m≠0):=by
  rw[xbU];simp
 rw[this];exact h
theorem look_ok(h:iy kp nx c K S ord ah tr hs es ck C){x:dB}{w:Nat}(hw:w<256)(hx:x.x<18446744073709551616):Rd zQ 83 #[ptr sp,x.v,.int .u8 (w:Int)] (gS sp c kp mb nx es ck C) (· =i64 (kM c.n hs w x)):=by
 refine aE λg=>O2 λb1 _ J3 h3=>?_;have Tk:∀b:Bool,(Ex w x||G9 w x)=b->J3 [.bool b] ((b1,.cells (Value.cells x.v) 35 zZ)::gS sp c kp mb nx es ck C):=λb hb=>by
  refine h3 _ _ λ_=>?_;cases b;rotate_left
  ·exact Br.yes (br.mk .tail (by unfold kM;rw[xae hb]))
  refine Br.no λJ7 h7=>?_;have Tj:∀b:Bool,(Dh c.n w x||Dg c.n w x||FV c.n w x)=b->J7 [.bool b] ((b1,.cells (Value.cells x.v) 35 zZ)::gS sp c kp mb nx es ck C):=λb' hb'=>by
   refine h7 _ _ λ_=>?_;cases b';rotate_left
   ·exact Br.yes (br.mk .tail (by unfold kM;rw[hb,xac zD,xae hb']))
   refine Br.no λJ11 h11=>?_;have L9:∀b:Bool,(wO hs w x||wM hs w x||Aa hs w x)=b->J11 [.bool b] ((b1,.cells (Value.cells x.v) 35 zZ)::gS sp c kp mb nx es ck C):=λb2 rP=>by
    refine h11 _ _ λ_=>?_;cases b2
    ·exact Br.no (br.mk .tail (by unfold kM;rw[hb,hb',rP];rfl))
    exact Br.yes (br.mk .tail (by unfold kM;rw[hb,hb',xac zD,xac zD,xae rP]))
   intro J15 h15;have k15:∀b:Bool,wO hs w x=b->J15 [.bool b] ((b1,.cells (Value.cells x.v) 35 zZ)::gS sp c kp mb nx es ck C):=λb2 rP=>by
    refine h15 _ _ λ_=>?_;cases b2;rotate_left
    ·exact Br.yes (JE.mk (L9 true (by rw[rP];rfl)))
    refine Br.no λJ19 h19=>?_;have k19:∀b:Bool,wM hs w x=b->J19 [.bool b] ((b1,.cells (Value.cells x.v) 35 zZ)::gS sp c kp mb nx es ck C):=λb3 SC=>by
     refine h19 _ _ λ_=>?_;cases b3;rotate_left
     ·exact Br.yes (JE.mk (L9 true (by rw[SC,xdM];rfl)))
     refine Br.no (ae.has (m:=4) hw zD (Split.mk (λe=>?_) (λe=>?_)))
     ·refine Ld.f (v:=i64 x.c) (aa.eq (eO h x.c) (Un.not (aM.mk (JE.mk (L9 _ ?_)))));rw[rP,SC];unfold Aa;rw[e];rfl
     refine aM.mk (JE.mk (L9 false ?_));rw[rP,SC];unfold Aa;rw[e];rfl
    refine ae.has (m:=2) hw zD (Split.mk (λe=>?_) (λe=>?_))
    ·refine Ld.f (v:=i64 x.b) (aa.eq (eO h x.b) (Un.not (aM.mk (JE.mk (k19 _ ?_)))));unfold wM;rw[e];rfl
    refine aM.mk (JE.mk (k19 false ?_));unfold wM;rw[e];rfl
   refine ae.has (m:=1) hw zD (Split.mk (λe=>?_) (λe=>?_))
   ·refine Ld.f (v:=i64 x.a) (aa.eq (eO h x.a) (Un.not (aM.mk (JE.mk (k15 _ ?_)))));unfold wO;rw[e];rfl
   refine aM.mk (JE.mk (k15 false ?_));unfold wO;rw[e];rfl
  intro J50 h50;have k50:∀b:Bool,Dh c.n w x=b->J50 [.bool b] ((b1,.cells (Value.cells x.v) 35 zZ)::gS sp c kp mb nx es ck C):=λb2 rP=>by
   refine h50 _ _ λ_=>?_;cases b2;rotate_left
   ·exact Br.yes (JE.mk (Tj true (by rw[rP];rfl)))
   refine Br.no λJ54 h54=>?_;have k54:∀b:Bool,Dg c.n w x=b->J54 [.bool b] ((b1,.cells (Value.cells x.v) 35 zZ)::gS sp c kp mb nx es ck C):=λb3 SC=>by
    refine h54 _ _ λ_=>?_;cases b3;rotate_left
    ·exact Br.yes (JE.mk (Tj true (by rw[SC,xdM];rfl)))
    refine Br.no (ae.has (m:=128) hw zD (cm.and (decide (x.x>>>c.n≠0)) (λ_=>?_) rfl λgs=>?_))
    ·refine Ld.f (v:=u64 x.x) (Nil.ptr (ai.mk (Ld.f (v:=i64 c.n) (ae.ic (by simpa[bA]using hx) (ae.neq ⟨rfl,?_⟩)))));congr 1;generalize x.x>>>c.n=y;rw[xbU];simp
    refine JE.mk (Tj _ ?_);rw[rP,SC];rfl
   refine ae.has (m:=16) hw zD (Split.mk (λe=>?_) (λe=>?_))
   ·refine Ld.f (v:=i64 x.b) (aa.eq (Cd x.b) (Un.not (aM.mk (JE.mk (k54 _ ?_)))));unfold Dg;rw[e];rfl
   refine aM.mk (JE.mk (k54 false ?_));unfold Dg;rw[e];rfl
  refine ae.has (m:=8) hw zD (Split.mk (λe=>?_) (λe=>?_))
  ·refine Ld.f (v:=i64 x.a) (aa.eq (Cd x.a) (Un.not (aM.mk (JE.mk (k50 _ ?_)))));unfold Dh;rw[e];rfl
  refine aM.mk (JE.mk (k50 false ?_));unfold Dh;rw[e];rfl
 intro J88 h88;have k88:∀b:Bool,Ex w x=b->J88 [.bool b] ((b1,.cells (Value.cells x.v) 35 zZ)::gS sp c kp mb nx es ck C):=λb hb=>by
  refine h88 _ _ λ_=>?_;cases b;rotate_left
  ·exact Br.yes (JE.mk (Tk true (by rw[hb];rfl)))
  refine Br.no (ae.has (m:=64) hw zD (Split.mk (λe=>?_) (λe=>?_)))
  ·refine Ld.f (v:=i64 x.c) (aL.of rfl zK (aa.eq (args:=#[i64 x.c]) (LJ x.c _) (Un.not (aM.mk (JE.mk (Tk _ ?_))))));rw[hb];unfold G9;rw[e];rfl
  refine aM.mk (JE.mk (Tk false ?_));rw[hb];unfold G9;rw[e];rfl
 refine ae.has (m:=32) hw zD (Split.mk (λe=>?_) (λe=>?_))
 ·refine Ld.f (v:=i64 x.a) (aL.of rfl zK (aa.eq (args:=#[i64 x.a]) (LJ x.a _) (Un.not (aM.mk (JE.mk (k88 _ ?_))))));unfold Ex;rw[e];rfl
 refine aM.mk (JE.mk (k88 false ?_));unfold Ex;rw[e];rfl
end
end
section
open ax
section
theorem DI{n:Int}(hn:n<0\/64<n)(B:Hp):Rd zQ 68 #[iv n] B (· =.tuple #[.slice none 0 0,iv 1]):=by
 refine aE λg=>Av (ae.lss (cm.or (a:=decide (n<0)) (decide (64<n)) (λ_=>ae.gtr ⟨rfl,rfl⟩) rfl λ_=>?_));rw[<-xa8,xam hn];exact Br.yes (br.mk (.refl _) rfl)
theorem YW{n cap:Int}(hb:n<1\/64<n\/cap<2\/1048576<cap):Rd zQ 40 #[i64 n,i64 cap] [] (· =.tuple #[.pointer none,i64 1]):=by
 refine aE λg=>Ax ?_;by_cases hn:n<0\/64<n
 ·refine aa.eq (DI hn _) (Ext.two (ae.cO (cm.or true (λh=>absurd h zD) rfl λgs=>?_)));refine cm.or true (λh=>absurd h zD) rfl λgs=>?_;refine cm.or true (λh=>absurd h zD) rfl λgs=>Br.yes ?_;exact br.mk (.refl _) rfl
 obtain⟨m,rfl⟩:∃m:Nat,n=m:=⟨n.toNat,by omega⟩;refine aa.fq (tL (n:=m) zO) ?_;rintro v CO ⟨s,rfl,hO⟩;refine Ext.two (ae.cO (cm.or (decide ((m:Int)<1)) (λ_=>ae.lss ⟨rfl,rfl⟩) rfl λgs=>?_));refine cm.or (decide (cap<2)) (λ_=>ae.lss ⟨rfl,rfl⟩) rfl λgs=>?_;refine cm.or (decide (1048576<cap)) (λ_=>ae.gtr ⟨rfl,rfl⟩) rfl λgs=>?_;exact Br.UA (by simp only[xbq,xaJ];omega) (br.mk (λ_ _ h=>h.aZ) rfl)
structure xZ where
 n:Int
 cap:Int
 str:Nat
 gr:Int
 rs:Int
def xZ.cells(c:xZ):List zV:=[i64 c.n,i64 c.cap,.int .u8 (c.str:Int),i64 c.gr,i64 c.rs]
theorem xZ.one(c:xZ):∀u∈c.cells,u.oneCell'=true:=λu hu=>by
 simp only[xZ.cells,xal,xaQ,xbH]at hu;rcases hu with rfl|rfl|rfl|rfl|rfl<;>rfl
def g8(c:xZ):Bool:=decide (6<c.str)||decide (c.gr<100)||decide (1000<c.gr)||decide (c.rs<0)||decide (16<c.rs)
def iS(c:xZ):Bool:=decide (c.n<1\/64<c.n\/c.cap<2\/1048576<c.cap)
def ie(c:xZ):Int:=if g8 c=true then 1 else if iS c=true then 1 else if c.str=6/\12<c.n then 6 else 0
structure Cf.Ok(c:Cf):Prop where
 n:1<=c.n/\c.n<=64
 cap:2<=c.cap/\c.cap<=1048576
 str:c.str<=6
 gr:100<=c.gr/\c.gr<=1000
 rs:c.rs<=16
 ex:c.str=6->c.n<=12
def Cf.i(c:Cf):xZ:=⟨c.n,c.cap,c.str,c.gr,c.rs⟩
theorem Vw{c:xZ}(h:ie c=0):∃d:Cf,c=d.i/\d.Ok:=by
 unfold ie at h;split at h
 ·cases h
 rename_i h1;split at h
 ·cases h
 rename_i h2;split at h
 ·cases h
 rename_i h3;simp only[g8,iS,xbq,xaJ]at h1 h2;obtain⟨n,cap,str,gr,rs⟩:=c;simp only at h1 h2 h3;exact⟨⟨n.toNat,cap.toNat,str,gr.toNat,rs.toNat⟩,by simp only[Cf.i,xZ.mk.injEq];exact⟨by omega,by omega,trivial,by omega,by omega⟩,⟨by simp only;omega,by simp only;omega,by simp only;omega,by simp only;omega,by simp only;omega,λe=>by simp only at e⊢;omega⟩⟩
theorem Cv(c:xZ){Q:zV->Hp->Prop}(hno:ie c≠0->Q (.tuple #[.pointer none,i64 (ie c)]) [])
 (hok:∀d:Cf,c=d.i->d.Ok->∀(sp kp mb:Nat) (C:Hp),cc kp (K0 d.n d.cap) S0 (List.range d.n) (List.range d.n) [] C->Q (.tuple #[ptr sp,i64 0]) (gS sp d kp mb 0 #[] 0 C)):
  Fc zQ 14 #[.agg c.cells.toArray] [] Q:=by
 refine aE λg=>Pw λb1 _ J3 h3=>?_;have jt:g8 c=true->J3 [.bool true] [(b1,.cells (Value.cells (.agg c.cells.toArray)) 23 zZ)]:=λhb=>by
  refine h3 _ _ λ_=>Br.yes ?_;have e:ie c=1:=by unfold ie;rw[xae hb]
  rw[e]at hno;exact aF.mk .tail (hno zD)
 have jf:g8 c=false->J3 [.bool false] [(b1,.cells (Value.cells (.agg c.cells.toArray)) 23 zZ)]:=λhb=>by
  refine h3 _ _ λ_=>Br.no ?_;refine Ld.f (v:=i64 c.n) (Ld.f (v:=i64 c.cap) ?_);cases rP:iS c;rotate_left
  ·refine aa.eh hnew (YW (by simpa[iS]using rP)) (Ext.two (ae.cO (Br.T ?_)));have e:ie c=1:=by unfold ie;rw[hb,xac zD,xae rP]
   rw[e]at hno;exact aF.mk .tail (hno zD)
  simp only[iS,xbl]at rP;simp only[g8,xaG,xbl]at hb;obtain⟨m,hm⟩:∃m:Nat,c.n=m:=⟨c.n.toNat,by omega⟩;obtain⟨q,hq⟩:∃q:Nat,c.cap=q:=⟨c.cap.toNat,by omega⟩;rw[hm,hq];refine aa.fn hnew (YV (n:=m) (cap:=q) zO zO) ?_;rintro w C ⟨kp,rfl,hK⟩;refine Ext.two (ae.cO (Br.F (Ld.u (v:=.int .u8 (c.str:Int)) (xab _ (.head _)) ?_)));refine ae.dJ (b:=6) (cm.and (decide (12<c.n)) (λ_=>?_) rfl λgs=>?_)
  ·exact Ld.u (v:=i64 c.n) (xab _ (.head _)) (ae.gtr ⟨rfl,rfl⟩)
  rw[<-xdG];refine Br.dec (λh6=>?_) (λh6=>?_)
  ·have e:ie c=6:=by
    unfold ie;rw[xac (by simp only[g8,xbq,xaJ];omega),xac (by simp only[iS,xaJ];omega),xae h6]
   rw[e]at hno;exact aF.mk (λ_ _ h=>h.aZ) (hno zD)
  have e:ie c=0:=by
   unfold ie;rw[xac (by simp only[g8,xbq,xaJ];omega),xac (by simp only[iS,xaJ];omega),xac h6]
  obtain⟨d,rfl,hd⟩:=Vw e;have em:m=d.n:=by simp only[Cf.i]at hm;omega
  have eq:q=d.cap:=by simp only[Cf.i]at hq;omega
  subst em eq;refine az.whole (r:=d.i.cells) (xab _ (.head _)) rfl ?_;intro mb _;refine Build.mk (cs:=d.cells++[ptr kp,.map (some mb),i64 ((0:Nat):Int)]) zK λsp _=>?_;refine aF.mk ?_ (hok d rfl hd sp kp mb C hK);exact .cons (.cons .left)
 refine Ld.f (v:=.int .u8 (c.str:Int)) (ae.nq (b:=6) (Br.dec (λh=>by rw[xam h];exact JE.mk (jt (by simp[g8,h]))) (λh1=>?_)));refine Ld.f (v:=i64 c.gr) (ae.lss (Br.dec (λh=>by rw[xam h];exact JE.mk (jt (by simp[g8,h]))) (λh2=>?_)));refine Ld.f (v:=i64 c.gr) (ae.gtr (Br.dec (λh=>by rw[xam h];exact JE.mk (jt (by simp[g8,h]))) (λzG=>?_)));refine Ld.f (v:=i64 c.rs) (ae.lss (Br.dec (λh=>by rw[xam h];exact JE.mk (jt (by simp[g8,h]))) (λh4=>?_)));refine Ld.f (v:=i64 c.rs) (ae.gtr ?_);cases hb:decide (16<c.rs)
 ·exact JE.mk (jf (by simp only[g8,hb,xak h1,xak h2,xak zG,xak h4];rfl))
 exact JE.mk (jt (by simp only[g8,hb,xdM]))
end
section
variable {sp kp mb nx:Nat} {c:Cf} {K:Kd} {S:Nat->ax.Fn} {ord ah tr:zL} {hs:List (Int×Nat)} {es:Array MapEntry} {ck:Nat} {C:Hp}
theorem Rq{κ β:Type}[DecidableEq κ]{m:List (κ×β)}{k:κ}{x:β}(h:k∉m.map Prod.fst):eo m k x=m++[(k,x)]:=by
 unfold eo;rw[xac h]
theorem zz(hE:aD (kI .i64) (λv (r:Nat)=>v=u32 r) es ck hs)(hk:(nx:Int)∉hs.map Prod.fst)(DO:nx+1<9223372036854775808)(r:Nat)(t:Int):
  Fc zQ 84 #[ptr sp,u32 r,i64 t] (gS sp c kp mb nx es ck C) (λv H=>v=ej 0 nx 0 t/\∃es' bD,H=gS sp c kp mb (nx+1) es' bD C/\aD (kI .i64) (λv (r:Nat)=>v=u32 r) es' bD (hs++[((nx:Int),r)])):=by
 refine aE λg=>O1 λb1 _=>?_;refine Ld.n (v:=i64 (nx:Int)) (Ld.n (v:=i64 (nx:Int)) (ae.inc (Nil.ptr (ai.mk (St.one (c':=(c.cells++[ptr kp,.map (some mb),i64 ((nx+1:Nat):Int)]).toArray) (by exact .tail (.head _)) rfl (by simp[Cf.cells]) rfl ?_)))));refine Ld.n (v:=.map (some mb)) (hE.bt (k:=(nx:Int)) (b:=mb) (x:=r) (bZ _) (A9 _) rfl λes' bD he=>⟨_,.tail (.tail (.head _)),?_⟩);rw[Rq hk]at he;refine Build.mk (cs:=[i64 0,i64 (nx:Int),u64 0,i64 t]) zK (St.p (bu _ _ _ _) ?_);refine az.q ?_;exact aF.mk .tail ⟨rfl,es',bD,rfl,he⟩
def cY(op:Nat):Option (Nat×Nat):=
 if op=11 then some (21,82)else if op=10 then some (129,81)else if op=9 then some (129,80)else if op=8 then some (81,79)else
 if op=7 then some (7,78)else if op=6 then some (3,77)else if op=5 then some (3,76)else if op=4 then some (3,75)else
 if op=3 then some (1,74)else if op=2 then some (32,73)else if op=1 then some (8,72)else none
def LD(p:Nat×Nat):List zV:=[.int .u8 (p.1:Int),.func (.func p.2) #[] #[]]
theorem NG:Fc zQ 42 #[] [] (λv H=>∃b es ck m,v=.map (some b)/\H=[(b,.map es ck)]/\aD (kI .u8) (λv (p:Nat×Nat)=>v=.agg (LD p).toArray) es ck m/\∀op:Nat,aG m (op:Int)=cY op):=by
 refine aE λg=>Po λb _=>?_;have bt:∀{k:Int} {p:Nat×Nat} {es:Array MapEntry} {ck:Nat} {m:List (Int×(Nat×Nat))} {Q:Hp->Prop},aD (kI .u8) (λv (p:Nat×Nat)=>v=.agg (LD p).toArray) es ck m->(∀es' bD,aD (kI .u8) (λv (p:Nat×Nat)=>v=.agg (LD p).toArray) es' bD (eo m k p)->Q [(b,.map es' bD)])->
   Build zQ 95 [(0,.int .u8 (p.1:Int)),(1,.func (.func p.2) #[] #[])] λv=>aW (.int .u8) [(b,.map es ck)] (.map (some b)) (kI .u8 k) v Q:=λ{k p es ck m Q} he hq=>by
  exact Build.mk (cs:=LD p) zK (aD.bt (bZ _) (A9 _) he rfl λes' bD he'=>⟨_,.head _,hq es' bD he'⟩)
 refine bt (k:=1) (p:=(8,72)) aD.empty λ_ _ h=>?_;refine bt (k:=2) (p:=(32,73)) h λ_ _ h=>?_;refine bt (k:=3) (p:=(1,74)) h λ_ _ h=>?_;refine bt (k:=4) (p:=(3,75)) h λ_ _ h=>?_;refine bt (k:=5) (p:=(3,76)) h λ_ _ h=>?_;refine bt (k:=6) (p:=(3,77)) h λ_ _ h=>?_;refine bt (k:=7) (p:=(7,78)) h λ_ _ h=>?_;refine bt (k:=8) (p:=(81,79)) h λ_ _ h=>?_;refine bt (k:=9) (p:=(129,80)) h λ_ _ h=>?_;refine bt (k:=10) (p:=(129,81)) h λ_ _ h=>?_;refine bt (k:=11) (p:=(21,82)) h λ_ _ h=>?_;refine aF.mk (.refl _) ⟨b,_,_,_,rfl,rfl,h,λop=>?_⟩;simp only[bK];have:∀j:Nat,((op:Int)=(j:Int))=(op=j):=λj=>propext zO;have e:=this 11;have e2:=this 10;have e3:=this 9;have e4:=this 8;have e5:=this 7;have e6:=this 6;have e7:=this 5;have e8:=this 4;have e9:=this 3;have e10:=this 2;have Yh:=this 1
 simp only[Int.cast_ofNat_Int]at*;simp only[e,e2,e3,e4,e5,e6,e7,e8,e9,e10,Yh];rfl
end
section
variable {sp kp mb nx:Nat} {c:Cf} {K K':Kd} {S S':Nat->ax.Fn} {ord ah bW tr cX o:zL} {hs:List (Int×Nat)} {es:Array MapEntry} {ck:Nat} {C C':Hp}
theorem Kept.const(hK:cc kp K S ord ah tr C)(dk:cc kp K' S' o bW cX C')(r:Nat)(hr:r<2):S' r=S r:=by
  have h1:=hK.ok.mid.int;have h2:=dk.ok.mid.int;have:r=0\/r=1:=by omega
  rcases this with rfl|rfl
  · exact funext λx=>by rw[h1.zero,h2.zero]
  · exact funext λx=>by rw[h1.one,h2.one]
theorem iy.kept(h:iy kp nx c K S ord ah tr hs es ck C)(dk:cc kp K' S' o bW cX C')(hk:Kept K S K' S'):iy kp nx c K' S' o bW cX hs es ck C'/\∀p∈hs,S' p.2=S p.2:=by
  have hh:∀p∈hs,2<=p.2->K.hold p.2≠0:=λp hp h2=>by
    rw[h.hold,xae h2];exact xdu (xbM.2 (xaR hp))
  refine⟨⟨dk,hk.n.trans h.n,hk.cap.trans h.cap,h.dK,λp hp=>?_,λr=>by rw[hk.hold,h.hold],h.lt⟩,λp hp=>?_⟩
  · by_cases h2:2<=p.2
    · exact .inr (dk.ok.mid.held p.2 (by rw[hk.hold];exact hh p hp h2))
    · exact .inl zO
  · by_cases h2:2<=p.2
    · exact hk.fn _ (hh p hp h2)
    · exact Kept.const h.ks dk _ zO
theorem iy.key(h:iy kp nx c K S ord ah tr hs es ck C):(nx:Int)∉hs.map Prod.fst:=λhm=>by
  obtain⟨p,hp,e⟩:=xao.1 hm;have:=h.lt p hp;omega
theorem iy.grow(h:iy kp nx c K S ord ah tr hs es ck C){f:ax.Fn}{r:Nat}{es':Array MapEntry}{bD:Nat}(dk:cc kp K' S' o bW cX C')(hg:kV K S K' S' f r)(he:aD (kI .i64) (λv (r:Nat)=>v=u32 r) es' bD (hs++[((nx:Int),r)])):
    iy kp (nx+1) c K' S' o bW cX (hs++[((nx:Int),r)]) es' bD C'/\∀p∈hs,S' p.2=S p.2:=by
  refine⟨⟨dk,hg.n.trans h.n,hg.cap.trans h.cap,he,λp hp=>?_,λs=>?_,λp hp=>?_⟩,λp hp=>hg.fn _ (h.live p hp)⟩
  · rcases xan.1 hp with hp|hp
    · exact cv hg.N (h.live p hp)
    · rw[xaz.1 hp];exact hg.live
  · rw[hg.hold,h.hold,xaH,xbh]
    by_cases e:s=r
    · subst e
      by_cases h2:2<=s
      · simp[h2]
      · simp[h2]
    · have:List.count s (List.map Prod.snd [((nx:Int),r)])=0:=by
        simp only[xaC,xb9,xdL,xaz];exact e
      have e2:(if s=r/\2<=r then 1 else 0)=0:=xac λh=>e h.1;rw[this,e2];split<;>rfl
  · rcases xan.1 hp with hp|hp
    · have:=h.lt p hp;omega
    · rw[xaz.1 hp];simp only;omega
def nG(kp:Nat)(K:Kd)(S:Nat->ax.Fn)(ord ah tr:zL)(f:ax.Fn)(T:Nat->Prop)(w:zV)(H:Hp):Prop:=
  (∃r K' S',w=.tuple #[u32 r,i64 0]/\cc kp K' S' ord ah [] H/\kV K S K' S' f r/\T 0)\/
  (∃(e:Nat) (K':Kd) (S':Nat->ax.Fn) (cX:zL),w=.tuple #[u32 0,i64 e]/\(e=8\/e=9)/\cc kp K' S' ord ah cX H/\(cX=[]\/cX=tr)/\Kept K S K' S'/\T e)
theorem nG.two{f:ax.Fn}{T:Nat->Prop}{w:zV}{H:Hp}(h:nG kp K S ord ah tr f T w H):∃x y,w=.tuple #[x,y]:=by
  rcases h with⟨r,_,_,rfl,_⟩|⟨e,_,_,_,rfl,_⟩
  · exact⟨_,_,rfl⟩
  · exact⟨_,_,rfl⟩
inductive ua(T:zL->Nat->Prop)(R:zL->zL->Prop)(o:zL):Nat->zL->Prop
  |one:ua T R o 1 o
  |more {t:Nat} {p ls:zL}:ua T R o t p->T p 9->R p ls->ua T R o (t+1) (aA p ls)
theorem ua.pos{T:zL->Nat->Prop}{R:zL->zL->Prop}{t:Nat}(h:ua T R ord t o):1<=t:=by
  cases h<;>omega
def Mu(sp kp mb nx:Nat)(c:Cf)(S:Nat->ax.Fn)(sz:zL->Nat)(ord tr:zL)(hs:List (Int×Nat))(f:ax.Fn)(T:zL->Nat->Prop)(R:zL->zL->Prop)(v:zV)(H:Hp):Prop:=
  ∃(t:Nat) (o bW cX:zL) (K':Kd) (S':Nat->ax.Fn) (es':Array MapEntry) (bD:Nat) (C':Hp),t<=c.rs+1/\ua T R ord t o/\(∀p∈hs,S' p.2=S p.2)/\
    ((∃r,v=ej 0 nx 0 t/\H=gS sp c kp mb (nx+1) es' bD C'/\iy kp (nx+1) c K' S' o bW cX (hs++[((nx:Int),r)]) es' bD C'/\S' r=f/\T o 0/\cX=[])\/
     (∃e:Nat,(e=8\/e=9)/\v=ej e (-1) 0 t/\H=gS sp c kp mb nx es' bD C'/\iy kp nx c K' S' o bW cX hs es' bD C'/\T o e/\(e=9->t=c.rs+1)/\cX.length+66*sz o<=tr.length+66*sz ord))
theorem VD{f w:Nat}{x:dB}{fn:ax.Fn}{T:zL->Nat->Prop}{R:zL->zL->Prop}(fN:aT zQ f=true)(h:iy kp nx c K S ord ah tr hs es ck C)(hc:c.Ok)(DO:nx+1<9223372036854775808)(hw:w<256)(hx:x.x<18446744073709551616)(hl:kM c.n hs w x=0)
   (LS:∀{K':Kd} {S':Nat->ax.Fn} {o bW cX:zL} {C':Hp},iy kp nx c K' S' o bW cX hs es ck C'->(∀p∈hs,S' p.2=S p.2)->Fc zQ f #[ptr sp,x.v] (gS sp c kp mb nx es ck C') (λv H=>∃C2,H=gS sp c kp mb nx es ck C2/\nG kp K' S' o bW cX fn (T o) v C2))
   (hrun:∀{K':Kd} {S':Nat->ax.Fn} {o bW cX:zL} {C':Hp},T o 9->iy kp nx c K' S' o bW cX hs es ck C'->(∀p∈hs,S' p.2=S p.2)->cX.length<=tr.length+66*cI K S ord->
      Fc zQ 85 #[ptr kp,.int .u8 (c.str:Int),i64 c.gr] C' (λv H=>∃ls a b,v=.tuple #[a,b]/\R o ls/\At kp K' S' (aA o ls) (cX++ls) H/\ls.length+66*cI K' S' (aA o ls)<=66*cI K' S' o)):
    Fc zQ 43 #[ptr sp,x.v,.agg (LD (w,f)).toArray] (gS sp c kp mb nx es ck C) (Mu sp kp mb nx c S (cI K S) ord tr hs fn T R):=by
  refine aE λg=>Aw λb1 _ b3 _ b5 _=>?_;refine az.q (r:=x.cells) (Ld.f (v:=.int .u8 (w:Int)) (aa.eq (look_ok h hw hx) ?_));rw[hl];refine ae.cO (Br.F ?_);refine⟨λvs H=>∃(t:Nat) (o bW cX:zL) (K':Kd) (S':Nat->ax.Fn) (C':Hp),vs=[i64 (t:Int)]/\t<=c.rs+1/\H=(b5,.cells #[i64 0,i64 0,u64 0,i64 0] 37 zZ)::(b3,.cells (LD (w,f)).toArray 95 zZ)::(b1,.cells x.cells.toArray 35 zZ)::gS sp c kp mb nx es ck C'/\
      iy kp nx c K' S' o bW cX hs es ck C'/\Kept K S K' S'/\ua T R ord t o/\cX.length+66*cI K S o<=tr.length+66*cI K S ord,λvs _=>20-bJ vs 0,JE.mk ⟨1,ord,ah,tr,K,S,C,rfl,by omega,rfl,h,.refl _ _,.one,xai _⟩,?_⟩
  rintro w0 H ⟨t,o,abS,Xy,K1,S1,C1,⟨⟩,ht,rfl,h1,ux,hT,hb⟩ gs;have DL:=hc.rs;have hsame:=(h.kept h1.ks ux).2;refine Ld.f (v:=.func (.func f) #[] #[]) (az.q (r:=x.cells) (aL.of rfl fN (aa.fq (args:=#[ptr sp,x.v]) (LS h1 hsame) ?_)));rintro w H ⟨C2,rfl,hQ⟩;rcases hQ with⟨r,K2,S2,rfl,dr,hg,h0⟩|⟨e,K2,S2,BP,rfl,he,dr,uo,rO,SM⟩
  · refine Ext.two (ae.gX (Br.T (aa.fq (zz h1.dK h.key DO r t) ?_)))
    rintro w H ⟨rfl,gV,iH,rfl,hE⟩;refine St.p (r:=[i64 0,i64 nx,u64 0,i64 t]) (bu _ _ _ _) ?_;refine az.q ?_;obtain⟨h3,h4⟩:=h1.grow dr hg hE;exact aF.mk (.skip (.skip .tail)) ⟨t,o,abS,[],K2,S2,gV,iH,C2,ht,hT,λp hp=>(h4 p hp).trans (hsame p hp),.inl ⟨r,rfl,rfl,h3,hg.is,h0,rfl⟩⟩
  · obtain⟨h3,h4⟩:=h1.kept dr rO
    have rP:BP.length+66*cI K S o<=tr.length+66*cI K S ord:=by
      rcases uo with rfl|rfl
      · rw[xch];omega
      · exact hb
    have fin:(e=9->t=c.rs+1)->Mu sp kp mb nx c S (cI K S) ord tr hs fn T R (ej e (-1) 0 t) (gS sp c kp mb nx es ck C2):=λhet=>
      ⟨t,o,abS,BP,K2,S2,es,ck,C2,ht,hT,λp hp=>(h4 p hp).trans (hsame p hp),.inr ⟨e,he,rfl,rfl,h3,SM,het,rP⟩⟩
    refine Ext.two (ae.gX (Br.F (ae.cO (cm.or (decide (c.rs<t)) (λ_=>?_) rfl λgs=>?_))))
    · exact Nil.ptr (ai.mk (Ld.f (v:=i64 c.rs) (ae.nq ⟨rfl,rfl⟩)))
    rw[<-xa8];refine Br.dec (λLQ=>?_) (λLQ=>?_)
    · refine aa.eq (cA e _) λb44 _=>?_
      refine St.p (r:=[i64 e,i64 (-1),u64 0,i64 0]) (bu _ _ _ _) ?_;refine ai.mk (St.one (c':=#[i64 e,i64 (-1),u64 0,i64 t]) (by exact .head _) rfl zI rfl ?_);refine az.q (r:=[i64 e,i64 (-1),u64 0,i64 t]) (St.p (bu _ _ _ _) ?_);refine az.q ?_;exact aF.mk (.skip (.skip (.skip .tail))) (fin λ_=>by omega)
    · have he9:e=9:=by omega
      subst he9;refine DR.of (R:=(b5,.cells #[i64 0,i64 0,u64 0,i64 0] 37 zZ)::(b3,.cells (LD (w,f)).toArray 95 zZ)::(b1,.cells x.cells.toArray 35 zZ)::gS sp c kp mb nx es ck C2) (.refl _) (Ld.n (v:=ptr kp) (Nil.ptr (ai.mk (Ld.f (v:=.int .u8 (c.str:Int)) (Nil.ptr (ai.mk (Ld.f (v:=i64 c.gr) λF=>?_)))))));refine aa.fq (hrun SM h3 (λp hp=>(h4 p hp).trans (hsame p hp)) zO) ?_;rintro w2 H2 ⟨ls,a,b,rfl,hR,hA,hlen⟩;refine ae.inc ?_;obtain⟨K3,S3,afB,kD,pM⟩:=hA;obtain⟨h5,h6⟩:=h3.kept kD pM;rw[rK (ux.trans rO),rK (ux.trans rO)]at hlen;refine aC.mk ⟨t+1,aA o ls,afB,BP++ls,K3,S3,H2,rfl,by omega,rfl,h5,(ux.trans rO).trans pM,.more hT SM hR,by rw[xaf];omega⟩ (by simp only[bJ];omega)
end
section
def HF(L:List ax.Fn)(g:ax.Fn):Prop:=g∈L/\∃v,cG g v
noncomputable def yp(L:List ax.Fn)(f:ax.Fn):Nat:=L.countP λg=> @decide (g=f) (Classical.propDecidable _)
def EO(L:List ax.Fn)(f:ax.Fn):Prop:=(∃v,cG f v)/\65535<=yp L f
def aaq(n cap:Nat)(L:List ax.Fn)(f:ax.Fn)(ord:zL)(e:Nat):Prop:=
 (e=0/\Fits (aH n ord (λg=>HF L g\/g=f)) cap/\¬EO L f)\/(e=9/\¬Fits (aH n ord (λg=>HF L g\/g=f)) cap)\/(e=8/\EO L f)
def Eg(n cap:Nat)(L:List ax.Fn)(q:Bool)(mask:Nat)(f:ax.Fn)(ord:zL)(e:Nat):Prop:=
 e=0\/(e=9/\∃i,i<n/\mask.testBit i=true/\¬Fits (aH n ord (λg=>(HF L g\/(bitsOf mask i≠[]/\g=qm q (bitsOf mask i) f))\/g=qf q i (qm q (bitsOf mask i) f))) cap)\/(e=8/\∃g,65534<=yp L g)
def Tt(n cap:Nat)(L:List ax.Fn)(lo hi f:ax.Fn)(ord:zL)(e:Nat):Prop:=
 e=0\/(e=9/\(¬Fits (aH n ord (λg=>HF L g\/g=lo)) cap\/¬Fits (aH n ord (λg=>(HF L g\/g=lo)\/g=hi)) cap\/¬Fits (aH n ord (λg=>((HF L g\/g=lo)\/g=hi)\/g=f)) cap))\/(e=8/\∃g,65533<=yp L g)
def cB(n:Nat)(F:Int->ax.Fn)(x:dB):ax.Fn:=match x.op with
 |1=>λy=>y.testBit x.a.toNat
 |2=>λ_=>decide (x.a=1)
 |3=>λy=> !F x.a y
 |4=>λy=>F x.a y&&F x.b y
 |5=>λy=>F x.a y||F x.b y
 |6=>λy=>F x.a y^^F x.b y
 |7=>λy=>if F x.a y then F x.b y else F x.c y
 |8=>λy=>F x.a (ak.aB y x.b.toNat (decide (x.c=1)))
 |9=>qm true (bitsOf x.x n) (F x.a)
 |10=>qm false (bitsOf x.x n) (F x.a)
 |_=>λy=>if F x.c y then F x.a (ak.aB y x.b.toNat true)else F x.a (ak.aB y x.b.toNat false)
def qu(n cap:Nat)(L:List ax.Fn)(F:Int->ax.Fn)(x:dB)(ord:zL)(e:Nat):Prop:=
 if x.op=9 then Eg n cap L true x.x (F x.a) ord e else if x.op=10 then Eg n cap L false x.x (F x.a) ord e else
 if x.op=11 then Tt n cap L (λy=>F x.a (ak.aB y x.b.toNat false)) (λy=>F x.a (ak.aB y x.b.toNat true)) (cB n F x) ord e else aaq n cap L (cB n F x) ord e
def fL(S:Nat->ax.Fn)(hs:List (Int×Nat)):List ax.Fn:=hs.map λp=>S p.2
def bS(S:Nat->ax.Fn)(hs:List (Int×Nat))(a:Int):ax.Fn:=match aG hs a with|some r=>S r|none=>λ_=>false
variable {sp kp mb nx:Nat} {c:Cf} {K K':Kd} {S S':Nat->ax.Fn} {ord ah bW tr cX o:zL} {hs:List (Int×Nat)} {es:Array MapEntry} {ck:Nat} {C C':Hp}
theorem qW{n:Nat}{ord:zL}{f:ax.Fn}(hf:∀v,¬cG f v)(g:ax.Fn):¬aH n ord (λg=>g=f) g:=by
 rintro⟨l,hl,hg,hh⟩;rw[uN (l:=n) (λj _=>hf _) l zO g hg]at hh;exact hf _ hh
theorem kV.adN{K':Kd}{S':Nat->ax.Fn}{f:ax.Fn}{x:Nat}{cX:zL}{C':Hp}(h:kV K S K' S' f x)(hK:cc kp K S ord ah tr C)(dk:cc kp K' S' ord ah cX C'):Fits (aH K.n ord (λg=>K.held S g\/g=f)) K.cap:=by
 have hc:=dk.ok.size dk.od;have hr:=dk.ok.mid.room;have h2:=dk.ok.mid.cap;rw[h.n]at hc;refine Fits.mono (λg hg=>?_) ⟨K'.used-2,hc,by rw[<-h.cap];omega⟩;have old:∀g,K.held S g->K'.held S' g:=λg ⟨s,hs,e⟩=>⟨s,by show K'.hold s≠0;have:K.hold s≠0:=hs;rw[h.hold];omega,by rw[h.fn s (.inr (hK.ok.mid.held s hs)),e]⟩;by_cases h2:2<=x
 ·refine cK (λg hg=>?_) hg;rcases hg with hg|rfl
  ·exact old g hg
  exact⟨x,by show K'.hold x≠0;rw[h.hold,xae ⟨rfl,h2⟩];omega,h.is.symm⟩
 rcases(Dl g).1 hg with hg|hg
 ·exact cK old hg
 refine absurd hg (qW (λv=>?_) g);rintro⟨y,hy⟩;rw[<-h.is]at hy;have hi:=dk.ok.mid.int;obtain rfl|rfl:x=0\/x=1:=by omega
 ·exact hy (by rw[hi.zero,hi.zero])
 exact hy (by rw[hi.one,hi.one])
theorem WU(h:∀p∈hs,S' p.2=S p.2):fL S' hs=fL S hs:=xbj h
theorem bC{a:Int}{r:Nat}(h:aG hs a=some r):bS S hs a=S r:=by unfold bS;rw[h]
theorem iy.find(h:iy kp nx c K S ord ah tr hs es ck C){a:Int}{r:Nat}(hm:aG hs a=some r):(a,r)∈hs:=(dX h.dK.nd).1 hm
theorem Oe(fc:(hs.map Prod.fst).Nodup)(h:∀p∈hs,S' p.2=S p.2):bS S' hs=bS S hs:=funext λa=>by
 unfold bS;cases hm:aG hs a with
 |none=>rfl
 |some r=>exact h _ ((dX fc).1 hm)
theorem iE(hK:cc kp K S ord ah tr C){r:Nat}(hl:live K.N r):2<=r↔∃v,cG (S r) v:=by
 constructor
 ·intro h2;obtain⟨d,hd⟩:∃d,K.N r=some d:=by
   rcases hl with hl|hl
   ·omega
   exact hl
  exact⟨d.v,gk hK.ok.wf hK.ok.lv hK.ok.mid.int hd⟩
 rintro⟨v,y,hy⟩;have hi:=hK.ok.mid.int;by_cases h2:2<=r
 ·exact h2
 exfalso;obtain rfl|rfl:r=0\/r=1:=by omega
 ·exact hy (by rw[hi.zero,hi.zero])
 exact hy (by rw[hi.one,hi.one])
theorem iy.same(h:iy kp nx c K S ord ah tr hs es ck C){a b:Nat}(ha:ax.live K.N a)(hb:ax.live K.N b):S a=S b↔a=b:=
 ⟨λe=>h.ks.ok.wf.same h.ks.ok.lv h.ks.ok.mid.int ha hb λx=>congrFun e x,λe=>by rw[e]⟩
theorem iy.held(h:iy kp nx c K S ord ah tr hs es ck C):K.held S=HF (fL S hs):=funext λg=>propext (by
 constructor
 ·rintro⟨s,hs0,rfl⟩;have h0:K.hold s≠0:=hs0;rw[h.hold]at h0;by_cases h2:2<=s
  ·rw[xae h2]at h0;obtain⟨p,hp,e⟩:=xao.1 (xbM.1 (xei h0));subst e;exact⟨xao.2 ⟨p,hp,rfl⟩,(iE h.ks (h.live p hp)).1 h2⟩
  rw[xac h2]at h0;exact absurd rfl h0
 rintro⟨hm,hv⟩;obtain⟨p,hp,rfl⟩:=xao.1 hm;have h2:=(iE h.ks (h.live p hp)).2 hv;refine⟨p.2,?_,rfl⟩;show K.hold p.2≠0;rw[h.hold,xae h2];exact xdu (xbM.2 (xaR hp)))
theorem iy.count(h:iy kp nx c K S ord ah tr hs es ck C){r:Nat}(hr:ax.live K.N r)(h2:2<=r):K.hold r=yp (fL S hs) (S r):=by
 rw[h.hold,xae h2];unfold yp fL;rw[xeC,List.count,xeC];refine List.countP_congr λp hp=>?_;have:=h.same (h.live p hp) hr;simp only[Function.comp_apply,xcR,xaJ];exact this.symm
theorem iy.full(h:iy kp nx c K S ord ah tr hs es ck C){r:Nat}(hr:K.hold r=65535)(h2:2<=r):EO (fL S hs) (S r):=by
 have hl:ax.live K.N r:=.inr (h.ks.ok.mid.held r zO);exact⟨(iE h.ks hl).1 h2,by rw[<-h.count hl h2,hr];exact xai _⟩
theorem iy.big(h:iy kp nx c K S ord ah tr hs es ck C){r k:Nat}(hr:k<=K.hold r)(hk:0<k)(h2:2<=r):k<=yp (fL S hs) (S r):=by
 rw[<-h.count (.inr (h.ks.ok.mid.held r zO)) h2];exact hr
theorem iy.done(h:iy kp nx c K S ord ah tr hs es ck C){f:ax.Fn}{w:zV}(hD:kj kp K S ord ah tr f w C'):nG kp K S ord ah tr f (aaq K.n K.cap (fL S hs) f ord) w C':=by
 rcases hD with(⟨x,K',S',rfl,dk,hg⟩|⟨rfl,⟨K',S',cX,dk,eR,hk⟩,hf⟩)|⟨rfl,⟨K',S',cX,dk,eR,hk⟩,r,h2,hr,rfl⟩
 ·refine .inl ⟨x,K',S',rfl,dk,hg,.inl ⟨rfl,by rw[<-h.held];exact hg.adN h.ks dk,?_⟩⟩;rintro⟨hv,hc⟩;have Gn:2<=x:=(iE dk hg.live).2 (by rw[hg.is];exact hv);have hle:=dk.gf x;rw[hg.hold,xae ⟨rfl,Gn⟩]at hle;obtain⟨p,hp,e⟩:∃p∈hs,S p.2=f:=by
   have:0<yp (fL S hs) f:=by omega
   obtain⟨g,hg1,Uo⟩:=List.countP_pos_iff.1 this;obtain⟨p,hp,rfl⟩:=xao.1 hg1;exact⟨p,hp,by simpa using Uo⟩
  have hpx:p.2=x:=dk.ok.wf.same dk.ok.lv dk.ok.mid.int (cv hg.N (h.live p hp)) hg.live λy=>by rw[hg.fn _ (h.live p hp),e,hg.is]
  subst hpx;have:=h.count (h.live p hp) Gn;rw[e]at this;omega
 ·exact .inr ⟨9,K',S',cX,rfl,.inr rfl,dk,eR,hk,.inr (.inl ⟨rfl,by rw[<-h.held];exact hf⟩)⟩
 exact .inr ⟨8,K',S',cX,rfl,.inl rfl,dk,eR,hk,.inr (.inr ⟨rfl,h.full hr h2⟩)⟩
theorem iy.each(h:iy kp nx c K S ord ah tr hs es ck C){q:Bool}{mask r:Nat}{w:zV}(hD:mB kp K S ord ah tr q mask r w C'):nG kp K S ord ah tr (qm q (bitsOf mask K.n) (S r)) (Eg K.n K.cap (fL S hs) q mask (S r) ord) w C':=by
 rcases hD with(⟨x,K',S',rfl,dk,hg⟩|⟨rfl,⟨K',S',cX,dk,eR,hk⟩,i,hi,hb,hf⟩)|⟨rfl,⟨K',S',cX,dk,eR,hk⟩,hF⟩
 ·exact .inl ⟨x,K',S',rfl,dk,hg,.inl rfl⟩
 ·exact .inr ⟨9,K',S',cX,rfl,.inr rfl,dk,eR,hk,.inr (.inl ⟨rfl,i,hi,hb,by rw[<-h.held];exact hf⟩)⟩
 refine .inr ⟨8,K',S',cX,rfl,.inl rfl,dk,eR,hk,.inr (.inr ⟨rfl,?_⟩)⟩;rcases hF with⟨_,h2,hr⟩|⟨i,x,_,_,h2,_,_,hx,_⟩
 ·exact⟨_,h.big (k:=65534) zO zO h2⟩
 exact⟨_,h.big hx zO h2⟩
theorem iy.comp(h:iy kp nx c K S ord ah tr hs es ck C){lo hi f:ax.Fn}{w:zV}(hD:EP kp K S ord ah tr lo hi f w C'):nG kp K S ord ah tr f (Tt K.n K.cap (fL S hs) lo hi f ord) w C':=by
 rcases hD with(⟨x,K',S',rfl,dk,hg⟩|⟨rfl,⟨K',S',cX,dk,eR,hk⟩,hf⟩)|⟨rfl,⟨K',S',cX,dk,eR,hk⟩,x,h2,_,hF⟩
 ·exact .inl ⟨x,K',S',rfl,dk,hg,.inl rfl⟩
 ·exact .inr ⟨9,K',S',cX,rfl,.inr rfl,dk,eR,hk,.inr (.inl ⟨rfl,by rw[<-h.held];exact hf⟩)⟩
 refine .inr ⟨8,K',S',cX,rfl,.inl rfl,dk,eR,hk,.inr (.inr ⟨rfl,_,h.big (k:=65533) ?_ zO h2⟩)⟩;have one:∀{p:Prop} {a:Nat},One p a->a<=1:=λho=>by rcases ho with⟨h,_⟩|⟨h,_⟩<;>omega
 rcases hF with⟨_,h⟩|⟨a,ha,_,h⟩|⟨a,b,ha,hb,_,h⟩
 ·omega
 ·have:=one ha;omega
 have:=one ha;have:=one hb;omega
end
section
variable {sp kp mb nx:Nat} {c:Cf} {K:Kd} {S:Nat->ax.Fn} {ord ah tr:zL} {hs:List (Int×Nat)} {es:Array MapEntry} {ck:Nat} {C:Hp} {x:dB}
theorem ON(hK:cc kp K S ord ah tr C){a b:Nat}(ha:live K.N a)(hb:live K.N b):Fc zQ 123 #[ptr kp,u32 a,u32 b] C (kj kp K S ord ah tr (λy=>S a y&&S b y)):=by
 refine aE λg=>KK (aa.fq (jK hK (op:=8) zD ha hb) ?_);intro w H hD;rw[show(λy=>XG 8 (S a y) (S b y))=λy=>S a y&&S b y from funext λy=>by cases S a y<;>cases S b y<;>rfl]at hD;obtain⟨x,e,rfl⟩:=hD.two;exact Ext.two (aF.here hD)
theorem TT(hK:cc kp K S ord ah tr C){a b:Nat}(ha:live K.N a)(hb:live K.N b):Fc zQ 124 #[ptr kp,u32 a,u32 b] C (kj kp K S ord ah tr (λy=>S a y||S b y)):=by
 refine aE λg=>KJ (aa.fq (jK hK (op:=14) zD ha hb) ?_);intro w H hD;rw[show(λy=>XG 14 (S a y) (S b y))=λy=>S a y||S b y from funext λy=>by cases S a y<;>cases S b y<;>rfl]at hD;obtain⟨x,e,rfl⟩:=hD.two;exact Ext.two (aF.here hD)
theorem OF(hK:cc kp K S ord ah tr C){a b:Nat}(ha:live K.N a)(hb:live K.N b):Fc zQ 125 #[ptr kp,u32 a,u32 b] C (kj kp K S ord ah tr (λy=>S a y^^S b y)):=by
 refine aE λg=>KI (aa.fq (jK hK (op:=6) zD ha hb) ?_);intro w H hD;rw[show(λy=>XG 6 (S a y) (S b y))=λy=>S a y^^S b y from funext λy=>by cases S a y<;>cases S b y<;>rfl]at hD;obtain⟨x,e,rfl⟩:=hD.two;exact Ext.two (aF.here hD)
theorem EI(hK:cc kp K S ord ah tr C)(b:Bool):Fc zQ 121 #[ptr kp,.bool b] C (kj kp K S ord ah tr (λ_=>b)):=by
 have hi:=hK.ok.mid.int;refine aE λg=>KM (ae.aI (Br.no ?_));intro J2 h2;have go:∀r:Nat,r<2->(S r=λ_=>b)->J2 [u32 r] C:=λr hr hf=>by
  refine h2 _ _ λ_=>?_;refine aa.fq (mY hK (r:=r) (.inl hr) (λh=>by omega)) ?_;rintro v H ⟨rfl,K',dk,hm⟩;exact aF.here (.inl (.inl ⟨r,K',S,rfl,dk,⟨hm.n,hm.cap,λs d h=>by rw[hm.N];exact h,λ_ _=>rfl,.inl hr,hf,λs=>by rw[hm.hold];split<;>rfl⟩⟩))
 cases b
 ·exact Br.no (JE.mk (go 0 zD (funext hi.zero)))
 exact Br.yes (JE.mk (go 1 zD (funext hi.one)))
theorem dw{n w:Nat}(h:kM n hs w x=0):(Ex w x=false/\G9 w x=false)/\(Dh n w x=false/\Dg n w x=false/\FV n w x=false)/\(wO hs w x=false/\wM hs w x=false/\Aa hs w x=false):=by
 unfold kM at h;split at h
 ·cases h
 split at h
 ·cases h
 split at h
 ·cases h
 rename_i h1 h2 h3;simp only[xeo,xaG]at h1 h2 h3;exact⟨h1,⟨h2.1.1,h2.1.2,h2.2⟩,⟨h3.1.1,h3.1.2,h3.2⟩⟩
theorem eA{m:List (Int×Nat)}{a:Int}{p:Bool}(h:(p&& !(aG m a).isSome)=false)(hp:p=true):∃r,aG m a=some r:=by
 subst hp;cases hm:aG m a with
 |none=>rw[hm]at h;cases h
 |some r=>exact⟨r,rfl⟩
theorem Fh{n:Nat}{a:Int}{p:Bool}(h:(p&& !decide (0<=a/\a<n))=false)(hp:p=true):∃v:Nat,a=v/\v<n:=by
 subst hp;have:0<=a/\a<n:=by simpa using h
 exact⟨a.toNat,by omega,by omega⟩
theorem kL{n cap:Nat}{L:List ax.Fn}{F:Int->ax.Fn}(h:x.op<9):qu n cap L F x ord=aaq n cap L (cB n F x) ord:=funext λe=>by
 unfold qu;rw[xac zO,xac zO,xac zO]
theorem abJ{n cap:Nat}{L:List ax.Fn}{F:Int->ax.Fn}(h:x.op=9):qu n cap L F x ord=Eg n cap L true x.x (F x.a) ord:=funext λe=>by
 unfold qu;rw[xae h]
theorem YT{n cap:Nat}{L:List ax.Fn}{F:Int->ax.Fn}(h:x.op=10):qu n cap L F x ord=Eg n cap L false x.x (F x.a) ord:=funext λe=>by
 unfold qu;rw[xac zO,xae h]
theorem YS{n cap:Nat}{L:List ax.Fn}{F:Int->ax.Fn}(h:x.op=11):qu n cap L F x ord=Tt n cap L (λy=>F x.a (ak.aB y x.b.toNat false)) (λy=>F x.a (ak.aB y x.b.toNat true)) (cB n F x) ord:=funext λe=>by
 unfold qu;rw[xac zO,xac zO,xae h]
def jx(f:Nat)(op w:Nat):Prop:=∀{sp kp mb nx:Nat} {c:Cf} {K:Kd} {S:Nat->ax.Fn} {ord ah tr:zL} {hs:List (Int×Nat)} {es:Array MapEntry} {ck:Nat} {C:Hp} {x:dB},iy kp nx c K S ord ah tr hs es ck C->x.op=op->x.x<18446744073709551616->kM c.n hs w x=0->
 Fc zQ f #[ptr sp,x.v] (gS sp c kp mb nx es ck C) (λv H=>∃C2,H=gS sp c kp mb nx es ck C2/\nG kp K S ord ah tr (cB c.n (bS S hs) x) (qu c.n c.cap (fL S hs) (bS S hs) x ord) v C2)
theorem q6:jx 72 1 8:=by
 intro sp kp mb nx c K S ord ah tr hs es ck C x h hop Ui hl;obtain⟨⟨Ur,Uq⟩,⟨RV,PG,PF⟩,Bg,LR,PO⟩:=dw hl;obtain⟨v,hv,PE⟩:=Fh RV zD;refine aE λg=>Pd λb1 _=>?_;refine DR.of (R:=[(b1,.cells (Value.cells x.v) 35 zZ),jY sp c kp mb nx,(mb,.map es ck)]) (.cons (.cons (.cons λ_ _ h=>h.aZ))) (Ld.n (v:=ptr kp) (Ld.f (v:=i64 x.a) ?_));rw[hv];intro F;refine aa.fq (OG h.ks (v:=v) (by rw[h.n];exact PE)) ?_;rintro w H hD;have hQ:nG kp K S ord ah tr (cB c.n (bS S hs) x) (qu c.n c.cap (fL S hs) (bS S hs) x ord) w H:=by
  have hq:=h.done hD;rw[h.n,h.cap]at hq;rw[kL zO];have e:cB c.n (bS S hs) x=λy=>y.testBit x.a.toNat:=by simp only[cB,hop]
  rw[e];simp only[hv,xa3];exact hq
 obtain⟨y,e,rfl⟩:=hQ.two;refine⟨.cons (.cons (.cons λ_ _ h=>h.aZ)),?_⟩;exact Ext.two (aF.mk .tail ⟨_,rfl,hQ⟩)
theorem AR:jx 73 2 32:=by
 intro sp kp mb nx c K S ord ah tr hs es ck C x h hop Ui hl;obtain⟨⟨Ur,Uq⟩,⟨RV,PG,PF⟩,Bg,LR,PO⟩:=dw hl;refine aE λg=>Pc λb1 _=>?_;refine DR.of (R:=[(b1,.cells (Value.cells x.v) 35 zZ),jY sp c kp mb nx,(mb,.map es ck)]) (.cons (.cons (.cons λ_ _ h=>h.aZ))) (Ld.n (v:=ptr kp) (Ld.f (v:=i64 x.a) (ae.gX λF=>(aa.fq (EI h.ks (decide (x.a=1))) ?_))));rintro w H hD;have hQ:nG kp K S ord ah tr (cB c.n (bS S hs) x) (qu c.n c.cap (fL S hs) (bS S hs) x ord) w H:=by
  have hq:=h.done hD;rw[h.n,h.cap]at hq;rw[kL zO];have e:cB c.n (bS S hs) x=λ_=>decide (x.a=1):=by simp only[cB,hop]
  rw[e];exact hq
 obtain⟨y,e,rfl⟩:=hQ.two;refine⟨.cons (.cons (.cons λ_ _ h=>h.aZ)),?_⟩;exact Ext.two (aF.mk .tail ⟨_,rfl,hQ⟩)
theorem U1:jx 74 3 1:=by
 intro sp kp mb nx c K S ord ah tr hs es ck C x h hop Ui hl;obtain⟨⟨Ur,Uq⟩,⟨RV,PG,PF⟩,Bg,LR,PO⟩:=dw hl;obtain⟨ra,ha⟩:=eA Bg zD;have la:=h.live _ (h.find ha);refine aE λg=>Pb λb1 _=>?_;refine DR.of (R:=[(b1,.cells (Value.cells x.v) 35 zZ),jY sp c kp mb nx,(mb,.map es ck)]) (.cons (.cons (.cons λ_ _ h=>h.aZ))) (Ld.n (v:=ptr kp) (Ld.n (v:=.map (some mb)) (Ld.f (v:=i64 x.a) (h.dK.hit (k:=x.a) (bZ _) (b:=mb) (by exact .tail _ (.tail _ (.head _))) ha λv e=>?_))));subst e;intro F;refine aa.fq (OK h.ks la) ?_;rintro w H hD;have hQ:nG kp K S ord ah tr (cB c.n (bS S hs) x) (qu c.n c.cap (fL S hs) (bS S hs) x ord) w H:=by
  have hq:=h.done hD;rw[h.n,h.cap]at hq;rw[kL zO];have e:cB c.n (bS S hs) x=λy=> !bS S hs x.a y:=by simp only[cB,hop]
  rw[e];simp only[bC ha];exact hq
 obtain⟨y,e,rfl⟩:=hQ.two;refine⟨.cons (.cons (.cons λ_ _ h=>h.aZ)),?_⟩;exact Ext.two (aF.mk .tail ⟨_,rfl,hQ⟩)
theorem Ll:jx 75 4 3:=by
 intro sp kp mb nx c K S ord ah tr hs es ck C x h hop Ui hl;obtain⟨⟨Ur,Uq⟩,⟨RV,PG,PF⟩,Bg,LR,PO⟩:=dw hl;obtain⟨ra,ha⟩:=eA Bg zD;have la:=h.live _ (h.find ha);obtain⟨rb,hb⟩:=eA LR zD;have lb:=h.live _ (h.find hb);refine aE λg=>Pa λb1 _=>?_;refine DR.of (R:=[(b1,.cells (Value.cells x.v) 35 zZ),jY sp c kp mb nx,(mb,.map es ck)]) (.cons (.cons (.cons λ_ _ h=>h.aZ))) (Ld.n (v:=ptr kp) (Ld.n (v:=.map (some mb)) (Ld.f (v:=i64 x.a) (h.dK.hit (k:=x.a) (bZ _) (b:=mb) (by exact .tail _ (.tail _ (.head _))) ha λv e=>?_))));subst e;refine Ld.n (v:=.map (some mb)) (Ld.f (v:=i64 x.b) (h.dK.hit (k:=x.b) (bZ _) (b:=mb) (by exact .tail _ (.tail _ (.head _))) hb λv e=>?_));subst e;intro F;refine aa.fq (ON h.ks la lb) ?_;rintro w H hD;have hQ:nG kp K S ord ah tr (cB c.n (bS S hs) x) (qu c.n c.cap (fL S hs) (bS S hs) x ord) w H:=by
  have hq:=h.done hD;rw[h.n,h.cap]at hq;rw[kL zO];have e:cB c.n (bS S hs) x=λy=>bS S hs x.a y&&bS S hs x.b y:=by simp only[cB,hop]
  rw[e];simp only[bC ha,bC hb];exact hq
 obtain⟨y,e,rfl⟩:=hQ.two;refine⟨.cons (.cons (.cons λ_ _ h=>h.aZ)),?_⟩;exact Ext.two (aF.mk .tail ⟨_,rfl,hQ⟩)
theorem YF:jx 76 5 3:=by
 intro sp kp mb nx c K S ord ah tr hs es ck C x h hop Ui hl;obtain⟨⟨Ur,Uq⟩,⟨RV,PG,PF⟩,Bg,LR,PO⟩:=dw hl;obtain⟨ra,ha⟩:=eA Bg zD;have la:=h.live _ (h.find ha);obtain⟨rb,hb⟩:=eA LR zD;have lb:=h.live _ (h.find hb);refine aE λg=>O9 λb1 _=>?_;refine DR.of (R:=[(b1,.cells (Value.cells x.v) 35 zZ),jY sp c kp mb nx,(mb,.map es ck)]) (.cons (.cons (.cons λ_ _ h=>h.aZ))) (Ld.n (v:=ptr kp) (Ld.n (v:=.map (some mb)) (Ld.f (v:=i64 x.a) (h.dK.hit (k:=x.a) (bZ _) (b:=mb) (by exact .tail _ (.tail _ (.head _))) ha λv e=>?_))));subst e;refine Ld.n (v:=.map (some mb)) (Ld.f (v:=i64 x.b) (h.dK.hit (k:=x.b) (bZ _) (b:=mb) (by exact .tail _ (.tail _ (.head _))) hb λv e=>?_));subst e;intro F;refine aa.fq (TT h.ks la lb) ?_;rintro w H hD;have hQ:nG kp K S ord ah tr (cB c.n (bS S hs) x) (qu c.n c.cap (fL S hs) (bS S hs) x ord) w H:=by
  have hq:=h.done hD;rw[h.n,h.cap]at hq;rw[kL zO];have e:cB c.n (bS S hs) x=λy=>bS S hs x.a y||bS S hs x.b y:=by simp only[cB,hop]
  rw[e];simp only[bC ha,bC hb];exact hq
 obtain⟨y,e,rfl⟩:=hQ.two;refine⟨.cons (.cons (.cons λ_ _ h=>h.aZ)),?_⟩;exact Ext.two (aF.mk .tail ⟨_,rfl,hQ⟩)
theorem UP:jx 77 6 3:=by
 intro sp kp mb nx c K S ord ah tr hs es ck C x h hop Ui hl;obtain⟨⟨Ur,Uq⟩,⟨RV,PG,PF⟩,Bg,LR,PO⟩:=dw hl;obtain⟨ra,ha⟩:=eA Bg zD;have la:=h.live _ (h.find ha);obtain⟨rb,hb⟩:=eA LR zD;have lb:=h.live _ (h.find hb);refine aE λg=>O8 λb1 _=>?_;refine DR.of (R:=[(b1,.cells (Value.cells x.v) 35 zZ),jY sp c kp mb nx,(mb,.map es ck)]) (.cons (.cons (.cons λ_ _ h=>h.aZ))) (Ld.n (v:=ptr kp) (Ld.n (v:=.map (some mb)) (Ld.f (v:=i64 x.a) (h.dK.hit (k:=x.a) (bZ _) (b:=mb) (by exact .tail _ (.tail _ (.head _))) ha λv e=>?_))));subst e;refine Ld.n (v:=.map (some mb)) (Ld.f (v:=i64 x.b) (h.dK.hit (k:=x.b) (bZ _) (b:=mb) (by exact .tail _ (.tail _ (.head _))) hb λv e=>?_));subst e;intro F;refine aa.fq (OF h.ks la lb) ?_;rintro w H hD;have hQ:nG kp K S ord ah tr (cB c.n (bS S hs) x) (qu c.n c.cap (fL S hs) (bS S hs) x ord) w H:=by
  have hq:=h.done hD;rw[h.n,h.cap]at hq;rw[kL zO];have e:cB c.n (bS S hs) x=λy=>bS S hs x.a y^^bS S hs x.b y:=by simp only[cB,hop]
  rw[e];simp only[bC ha,bC hb];exact hq
 obtain⟨y,e,rfl⟩:=hQ.two;refine⟨.cons (.cons (.cons λ_ _ h=>h.aZ)),?_⟩;exact Ext.two (aF.mk .tail ⟨_,rfl,hQ⟩)
theorem U3:jx 78 7 7:=by
 intro sp kp mb nx c K S ord ah tr hs es ck C x h hop Ui hl;obtain⟨⟨Ur,Uq⟩,⟨RV,PG,PF⟩,Bg,LR,PO⟩:=dw hl;obtain⟨ra,ha⟩:=eA Bg zD;have la:=h.live _ (h.find ha);obtain⟨rb,hb⟩:=eA LR zD;have lb:=h.live _ (h.find hb);obtain⟨rc,hc⟩:=eA PO zD;have lc:=h.live _ (h.find hc);refine aE λg=>O7 λb1 _=>?_;refine DR.of (R:=[(b1,.cells (Value.cells x.v) 35 zZ),jY sp c kp mb nx,(mb,.map es ck)]) (.cons (.cons (.cons λ_ _ h=>h.aZ))) (Ld.n (v:=ptr kp) (Ld.n (v:=.map (some mb)) (Ld.f (v:=i64 x.a) (h.dK.hit (k:=x.a) (bZ _) (b:=mb) (by exact .tail _ (.tail _ (.head _))) ha λv e=>?_))));subst e;refine Ld.n (v:=.map (some mb)) (Ld.f (v:=i64 x.b) (h.dK.hit (k:=x.b) (bZ _) (b:=mb) (by exact .tail _ (.tail _ (.head _))) hb λv e=>?_));subst e;refine Ld.n (v:=.map (some mb)) (Ld.f (v:=i64 x.c) (h.dK.hit (k:=x.c) (bZ _) (b:=mb) (by exact .tail _ (.tail _ (.head _))) hc λv e=>?_));subst e;intro F;refine aa.fq (Ak h.ks la lb lc) ?_;rintro w H hD;have hQ:nG kp K S ord ah tr (cB c.n (bS S hs) x) (qu c.n c.cap (fL S hs) (bS S hs) x ord) w H:=by
  have hq:=h.done hD;rw[h.n,h.cap]at hq;rw[kL zO];have e:cB c.n (bS S hs) x=λy=>if bS S hs x.a y then bS S hs x.b y else bS S hs x.c y:=by simp only[cB,hop]
  rw[e];simp only[bC ha,bC hb,bC hc];exact hq
 obtain⟨y,e,rfl⟩:=hQ.two;refine⟨.cons (.cons (.cons λ_ _ h=>h.aZ)),?_⟩;exact Ext.two (aF.mk .tail ⟨_,rfl,hQ⟩)
theorem AL:jx 79 8 81:=by
 intro sp kp mb nx c K S ord ah tr hs es ck C x h hop Ui hl;obtain⟨⟨Ur,Uq⟩,⟨RV,PG,PF⟩,Bg,LR,PO⟩:=dw hl;obtain⟨ra,ha⟩:=eA Bg zD;have la:=h.live _ (h.find ha);obtain⟨v,hv,PE⟩:=Fh PG zD;refine aE λg=>O6 λb1 _=>?_;refine DR.of (R:=[(b1,.cells (Value.cells x.v) 35 zZ),jY sp c kp mb nx,(mb,.map es ck)]) (.cons (.cons (.cons λ_ _ h=>h.aZ))) (Ld.n (v:=ptr kp) (Ld.n (v:=.map (some mb)) (Ld.f (v:=i64 x.a) (h.dK.hit (k:=x.a) (bZ _) (b:=mb) (by exact .tail _ (.tail _ (.head _))) ha λv e=>?_))));subst e;refine Ld.f (v:=i64 x.b) (Ld.f (v:=i64 x.c) (ae.gX ?_));rw[hv];intro F;refine aa.fq (vE h.ks la (v:=v) (by rw[h.n];exact PE)) ?_;rintro w H hD;have hQ:nG kp K S ord ah tr (cB c.n (bS S hs) x) (qu c.n c.cap (fL S hs) (bS S hs) x ord) w H:=by
  have hq:=h.done hD;rw[h.n,h.cap]at hq;rw[kL zO];have e:cB c.n (bS S hs) x=λy=>bS S hs x.a (ak.aB y x.b.toNat (decide (x.c=1))):=by simp only[cB,hop]
  rw[e];simp only[bC ha,hv,xa3];exact hq
 obtain⟨y,e,rfl⟩:=hQ.two;refine⟨.cons (.cons (.cons λ_ _ h=>h.aZ)),?_⟩;exact Ext.two (aF.mk .tail ⟨_,rfl,hQ⟩)
theorem FC:jx 80 9 129:=by
 intro sp kp mb nx c K S ord ah tr hs es ck C x h hop Ui hl;obtain⟨⟨Ur,Uq⟩,⟨RV,PG,PF⟩,Bg,LR,PO⟩:=dw hl;obtain⟨ra,ha⟩:=eA Bg zD;have la:=h.live _ (h.find ha);have hm:x.x<2^K.n:=by
  rw[h.n];have:x.x>>>c.n=0:=by simpa[FV]using PF
  rw[xaW]at this;exact(Nat.div_eq_zero_iff.1 this).resolve_left (xdu (xa6 _))
 refine aE λg=>O5 λb1 _=>?_;refine DR.of (R:=[(b1,.cells (Value.cells x.v) 35 zZ),jY sp c kp mb nx,(mb,.map es ck)]) (.cons (.cons (.cons λ_ _ h=>h.aZ))) (Ld.n (v:=ptr kp) (Ld.n (v:=.map (some mb)) (Ld.f (v:=i64 x.a) (h.dK.hit (k:=x.a) (bZ _) (b:=mb) (by exact .tail _ (.tail _ (.head _))) ha λv e=>?_))));subst e;refine Ld.f (v:=u64 x.x) λF=>?_;refine aa.fq (Ee h.ks la hm) ?_;rintro w H hD;have hQ:nG kp K S ord ah tr (cB c.n (bS S hs) x) (qu c.n c.cap (fL S hs) (bS S hs) x ord) w H:=by
  have hq:=h.each hD;rw[h.n,h.cap]at hq;rw[abJ hop];have e:cB c.n (bS S hs) x=qm true (bitsOf x.x c.n) (bS S hs x.a):=by simp only[cB,hop]
  rw[e,bC ha];exact hq
 obtain⟨y,e,rfl⟩:=hQ.two;refine⟨.cons (.cons (.cons λ_ _ h=>h.aZ)),?_⟩;exact Ext.two (aF.mk .tail ⟨_,rfl,hQ⟩)
theorem FB:jx 81 10 129:=by
 intro sp kp mb nx c K S ord ah tr hs es ck C x h hop Ui hl;obtain⟨⟨Ur,Uq⟩,⟨RV,PG,PF⟩,Bg,LR,PO⟩:=dw hl;obtain⟨ra,ha⟩:=eA Bg zD;have la:=h.live _ (h.find ha);have hm:x.x<2^K.n:=by
  rw[h.n];have:x.x>>>c.n=0:=by simpa[FV]using PF
  rw[xaW]at this;exact(Nat.div_eq_zero_iff.1 this).resolve_left (xdu (xa6 _))
 refine aE λg=>O4 λb1 _=>?_;refine DR.of (R:=[(b1,.cells (Value.cells x.v) 35 zZ),jY sp c kp mb nx,(mb,.map es ck)]) (.cons (.cons (.cons λ_ _ h=>h.aZ))) (Ld.n (v:=ptr kp) (Ld.n (v:=.map (some mb)) (Ld.f (v:=i64 x.a) (h.dK.hit (k:=x.a) (bZ _) (b:=mb) (by exact .tail _ (.tail _ (.head _))) ha λv e=>?_))));subst e;refine Ld.f (v:=u64 x.x) λF=>?_;refine aa.fq (D8 h.ks la hm) ?_;rintro w H hD;have hQ:nG kp K S ord ah tr (cB c.n (bS S hs) x) (qu c.n c.cap (fL S hs) (bS S hs) x ord) w H:=by
  have hq:=h.each hD;rw[h.n,h.cap]at hq;rw[YT hop];have e:cB c.n (bS S hs) x=qm false (bitsOf x.x c.n) (bS S hs x.a):=by simp only[cB,hop]
  rw[e,bC ha];exact hq
 obtain⟨y,e,rfl⟩:=hQ.two;refine⟨.cons (.cons (.cons λ_ _ h=>h.aZ)),?_⟩;exact Ext.two (aF.mk .tail ⟨_,rfl,hQ⟩)
theorem CE:jx 82 11 21:=by
 intro sp kp mb nx c K S ord ah tr hs es ck C x h hop Ui hl;obtain⟨⟨Ur,Uq⟩,⟨RV,PG,PF⟩,Bg,LR,PO⟩:=dw hl;obtain⟨ra,ha⟩:=eA Bg zD;have la:=h.live _ (h.find ha);obtain⟨rc,hc⟩:=eA PO zD;have lc:=h.live _ (h.find hc);obtain⟨v,hv,PE⟩:=Fh PG zD;refine aE λg=>O3 λb1 _=>?_;refine DR.of (R:=[(b1,.cells (Value.cells x.v) 35 zZ),jY sp c kp mb nx,(mb,.map es ck)]) (.cons (.cons (.cons λ_ _ h=>h.aZ))) (Ld.n (v:=ptr kp) (Ld.n (v:=.map (some mb)) (Ld.f (v:=i64 x.a) (h.dK.hit (k:=x.a) (bZ _) (b:=mb) (by exact .tail _ (.tail _ (.head _))) ha λv e=>?_))));subst e;refine Ld.f (v:=i64 x.b) ?_;rw[hv];refine Ld.n (v:=.map (some mb)) (Ld.f (v:=i64 x.c) (h.dK.hit (k:=x.c) (bZ _) (b:=mb) (by exact .tail _ (.tail _ (.head _))) hc λv e=>?_));subst e;intro F;refine aa.fq (Ow h.ks la (v:=v) (by rw[h.n];exact PE) lc) ?_;rintro w H hD;have hQ:nG kp K S ord ah tr (cB c.n (bS S hs) x) (qu c.n c.cap (fL S hs) (bS S hs) x ord) w H:=by
  have hq:=h.comp hD;rw[h.n,h.cap]at hq;rw[YS hop];have e:cB c.n (bS S hs) x=λy=>if bS S hs x.c y then bS S hs x.a (ak.aB y x.b.toNat true)else bS S hs x.a (ak.aB y x.b.toNat false):=by simp only[cB,hop]
  rw[e];simp only[bC ha,bC hc,hv,xa3];exact hq
 obtain⟨y,e,rfl⟩:=hQ.two;refine⟨.cons (.cons (.cons λ_ _ h=>h.aZ)),?_⟩;exact Ext.two (aF.mk .tail ⟨_,rfl,hQ⟩)
end
section
variable {sp kp mb nx:Nat} {c:Cf} {K:Kd} {S:Nat->ax.Fn} {ord ah tr:zL} {hs:List (Int×Nat)} {es:Array MapEntry} {ck:Nat} {C:Hp} {x:dB}
theorem VE{w f:Nat}(h:iy kp nx c K S ord ah tr hs es ck C)(hw:w<256)(hx:x.x<18446744073709551616)(hl:kM c.n hs w x≠0):
  Rd zQ 43 #[ptr sp,x.v,.agg (LD (w,f)).toArray] (gS sp c kp mb nx es ck C) (· =ej (kM c.n hs w x) (-1) 0 0):=by
 refine aE λg=>Aw λb1 _ b3 _ b5 _=>?_;refine az.q (r:=x.cells) (Ld.f (v:=.int .u8 (w:Int)) (aa.eq (look_ok h hw hx) (ae.cO (Br.T ?_ hl))));refine aa.eq (cA _ _) (St.p (r:=[i64 (kM c.n hs w x),i64 (-1),u64 0,i64 0]) (bu _ _ _ _) ?_);refine az.q ?_;exact br.mk (.skip (.skip .tail)) rfl
def ng(op:Nat):Option Nat:=
 if op=23 then some 97 else if op=22 then some 96 else if op=21 then some 95 else if op=20 then some 94 else
 if op=19 then some 93 else if op=18 then some 92 else if op=17 then some 91 else if op=16 then some 90 else
 if op=15 then some 89 else if op=14 then some 88 else if op=13 then some 87 else if op=12 then some 86 else none
theorem OH:Fc zQ 44 #[] [] (λv H=>∃b es ck m,v=.map (some b)/\H=[(b,.map es ck)]/\aD (kI .u8) (λv (p:Nat)=>v=.func (.func p) #[] #[]) es ck m/\∀op:Nat,aG m (op:Int)=ng op):=by
 refine aE λg=>Pn λb _=>?_;have bt:∀{k:Int} {p:Nat} {es:Array MapEntry} {ck:Nat} {m:List (Int×Nat)} {Q:Hp->Prop},aD (kI .u8) (λv (p:Nat)=>v=.func (.func p) #[] #[]) es ck m->(∀es' bD,aD (kI .u8) (λv (p:Nat)=>v=.func (.func p) #[] #[]) es' bD (eo m k p)->Q [(b,.map es' bD)])->
   aW (.int .u8) [(b,.map es ck)] (.map (some b)) (kI .u8 k) (.func (.func p) #[] #[]) Q:=λ{k p es ck m Q} he hq=>
  aD.bt (bZ _) (A9 _) he rfl λes' bD he'=>⟨_,.head _,hq es' bD he'⟩
 refine bt (k:=12) aD.empty λ_ _ h=>?_;refine bt (k:=13) h λ_ _ h=>?_;refine bt (k:=14) h λ_ _ h=>?_;refine bt (k:=15) h λ_ _ h=>?_;refine bt (k:=16) h λ_ _ h=>?_;refine bt (k:=17) h λ_ _ h=>?_;refine bt (k:=18) h λ_ _ h=>?_;refine bt (k:=19) h λ_ _ h=>?_;refine bt (k:=20) h λ_ _ h=>?_;refine bt (k:=21) h λ_ _ h=>?_;refine bt (k:=22) h λ_ _ h=>?_;refine bt (k:=23) h λ_ _ h=>?_;refine aF.mk (.refl _) ⟨b,_,_,_,rfl,rfl,h,λop=>?_⟩;simp only[bK];have:∀j:Nat,((op:Int)=(j:Int))=(op=j):=λj=>propext zO;have e:=this 12;have e2:=this 13;have e3:=this 14;have e4:=this 15;have e5:=this 16;have e6:=this 17;have e7:=this 18;have e8:=this 19;have e9:=this 20;have e10:=this 21;have Yh:=this 22;have e12:=this 23
 simp only[Int.cast_ofNat_Int]at*;simp only[e,e2,e3,e4,e5,e6,e7,e8,e9,e10,Yh,e12];rfl
def aaE(v:zV):Prop:=∃(e h:Int) (n:Nat) (t:Int),v=ej e h n t
set_option maxHeartbeats 1000000 in
theorem q7{C:Hp}{Q:zV->Hp->Prop}(hQ:∀v H,Q v H->aaE v)
 (h1:∀w f,cY x.op=some (w,f)->Fc zQ 43 #[ptr sp,x.v,.agg (LD (w,f)).toArray] C Q)
 (h2:∀f,cY x.op=none->ng x.op=some f->aT zQ f=true->Fc zQ f #[ptr sp,x.v] C Q)
 (h3:cY x.op=none->ng x.op=none->Q (ej 12 (-1) 0 0) C):Fc zQ 16 #[ptr sp,x.v] C Q:=by
 refine aE λg=>Pu λb1 _ b3 _=>?_;refine ae.aI (Br.no (DR.of (R:=(b1,.cells x.cells.toArray 35 zZ)::[]) (.skip (.cons λ_ _ h=>h.aZ)) (Ld.f (v:=.int .u8 (x.op:Int)) λF=>?_)));refine aa.fn hnew NG ?_;rintro w H ⟨bm,kE,jT,m1,rfl,rfl,Ut,uu⟩;refine⟨.skip (.skip (.cons λ_ _ h=>h.aZ)),?_⟩;refine⟨[(b1,.cells x.cells.toArray 35 zZ),(bm,.map kE jT)],(aN.perm (List.Perm.swap _ _ _)).trans (.skip ?_),.cons (λ_ _ h=>h.aZ),?_⟩
 ·exact(aN.perm (List.Perm.swap _ _ _)).trans (.cons (.cons λ_ _ h=>h.aZ))
 refine Ut.look (k:=(x.op:Int)) (bZ _) (by exact .tail _ (.head _)) (λp v hp hv=>?_) (λhp=>?_)
 ·subst hv;obtain⟨w,f⟩:=p;rw[uu]at hp;refine Ext.two λxf _=>λF=>?_;refine St.p (r:=LD (w,f)) (λu hu=>by simp only[LD,xal,xaQ,xbH]at hu;rcases hu with rfl|rfl<;>rfl) (⟨.skip ((aN.perm (List.Perm.swap _ _ _)).trans (.skip ((aN.perm (List.Perm.swap _ _ _)).trans (.cons (.cons λ_ _ h=>h.aZ))))),?_⟩);refine Br.yes (az.q (r:=x.cells) (az.q (r:=LD (w,f)) (aa.fq (h1 w f hp) ?_)));intro v H hv;obtain⟨e,h,n,t,rfl⟩:=hQ v H hv;refine St.p (r:=[i64 e,i64 h,u64 n,i64 t]) (bu _ _ _ _) ?_;refine az.q ?_;exact aF.mk (.skip (.skip (.skip .tail))) hv
 rw[uu]at hp;refine Ext.two λxf _=>λF=>?_;refine St.p (r:=[.int .u8 0,.nilFunc]) (by simp[Value.oneCell']) (⟨.skip ((aN.perm (List.Perm.swap _ _ _)).trans (.skip ((aN.perm (List.Perm.swap _ _ _)).trans (.cons (.cons λ_ _ h=>h.aZ))))),?_⟩);refine Br.no (DR.of (R:=(b1,.cells x.cells.toArray 35 zZ)::[]) (.skip (.skip (.skip (.cons λ_ _ h=>h.aZ)))) (Ld.f (v:=.int .u8 (x.op:Int)) λF=>?_));refine aa.fn hnew OH ?_;rintro w H ⟨ba,gV,iH,m2,rfl,rfl,sW,me⟩;refine⟨.skip (.skip (.skip (.skip (.cons λ_ _ h=>h.aZ)))),?_⟩;refine⟨[(b1,.cells x.cells.toArray 35 zZ),(ba,.map gV iH)],?_,.cons (λ_ _ h=>h.aZ),?_⟩
 ·refine(aN.perm ((List.Perm.cons _ (List.Perm.cons _ (List.Perm.cons _ (List.Perm.swap _ _ _)))).trans ((List.Perm.cons _ (List.Perm.cons _ (List.Perm.swap _ _ _))).trans ((List.Perm.cons _ (List.Perm.swap _ _ _)).trans (List.Perm.swap _ _ _))))).trans ?_;exact .cons ((aN.perm (List.Perm.swap _ _ _)).trans (.skip ((aN.perm (List.Perm.swap _ _ _)).trans (.skip ((aN.perm (List.Perm.swap _ _ _)).trans (.skip (.cons λ_ _ h=>h.aZ)))))))
 refine sW.look (k:=(x.op:Int)) (bZ _) (by exact .tail _ (.head _)) (λf v hf hv=>?_) (λhf=>?_)
 ·subst hv;rw[me]at hf;have fN:aT zQ f=true:=by
   unfold ng at hf
   repeat' split at hf
   all_goals first|(cases hf;kernel_rfl)|cases hf
  refine Ext.two (Br.yes (az.q (r:=x.cells) (aL.of rfl fN (aa.fq (args:=#[ptr sp,x.v]) (h2 f hp hf fN) ?_))));intro v H hv;obtain⟨e,h,n,t,rfl⟩:=hQ v H hv;refine St.p (r:=[i64 e,i64 h,u64 n,i64 t]) (bu _ _ _ _) ?_;refine az.q ?_;exact aF.mk (.skip (.skip (.skip (.skip .tail)))) hv
 rw[me]at hf;refine Ext.two (Br.no (aa.eq (cA _ _) (St.p (r:=[i64 12,i64 (-1),u64 0,i64 0]) (bu _ _ _ _) ?_)));refine az.q ?_;exact aF.mk (.skip (.skip (.skip (.skip .tail)))) (h3 hp hf)
end
section
variable {sp kp mb nx:Nat} {c:Cf} {K:Kd} {S:Nat->ax.Fn} {ord ah tr:zL} {hs:List (Int×Nat)} {es:Array MapEntry} {ck:Nat} {C:Hp} {x:dB}
theorem QI(h:iy kp nx c K S ord ah tr hs es ck C)(hx:x.x<18446744073709551616):
  Rd zQ 88 #[ptr sp,x.v] (gS sp c kp mb nx es ck C) (· =if(aG hs x.a).isSome then ej 0 (-1) (bS S hs x.a x.x).toNat 0 else ej 3 (-1) 0 0):=by
 refine aE λg=>O0 λb1 _ b3 _=>?_;refine Ld.f (v:=i64 x.a) (aa.eq (eO h x.a) (Un.not ?_));cases hm:aG hs x.a with
 |none=>
  refine Br.yes (aa.eq (cA _ _) (St.p (r:=[i64 3,i64 (-1),u64 0,i64 0]) (bu _ _ _ _) ?_));refine az.q ?_;exact br.mk (.skip .tail) rfl
 |some r=>
  apply Br.no;have hl:=h.live _ (h.find hm);refine DR.of (.refl _) (Ld.n (v:=ptr kp) (Ld.n (v:=.map (some mb)) (Ld.f (v:=i64 x.a) (h.dK.hit (k:=x.a) (bZ _) (b:=mb) (by exact .tail _ (.tail _ (.tail _ (.head _)))) hm λv e=>?_))));subst e;refine Ld.f (v:=u64 x.x) λF=>?_;refine aa.eq (args:=#[ptr kp,u32 r,u64 x.x]) (Tz h.ks hl hx) (⟨.refl _,?_⟩);refine Ext.two (aa.eq (Lk _ _) (aa.eq (dU _ 0 _) (St.p (r:=[i64 0,i64 (-1),u64 (S r x.x).toNat,i64 0]) (bu _ _ _ _) ?_)));refine az.q ?_;exact br.mk (.skip .tail) (by rw[bC hm];rfl)
theorem Qy(h:iy kp nx c K S ord ah tr hs es ck C):
  Rd zQ 89 #[ptr sp,x.v] (gS sp c kp mb nx es ck C) (λw=>w=if(aG hs x.a).isSome&& (aG hs x.b).isSome then ej 0 (-1) (@decide (bS S hs x.a=bS S hs x.b) (Classical.propDecidable _)).toNat 0 else ej 3 (-1) 0 0):=by
 refine aE λg=>OZ λb1 _ b3 _ J5 h5=>?_;have no:((aG hs x.a).isSome&& (aG hs x.b).isSome)=false->J5 [.bool true] ((b3,.cells #[i64 0,i64 0,u64 0,i64 0] 37 zZ)::(b1,.cells (Value.cells x.v) 35 zZ)::gS sp c kp mb nx es ck C):=λhb=>by
  refine h5 _ _ λ_=>Br.yes ?_;refine aa.eq (cA _ _) (St.p (r:=[i64 3,i64 (-1),u64 0,i64 0]) (bu _ _ _ _) ?_);refine az.q ?_;exact br.mk (.skip .tail) (by rw[hb];rfl)
 refine Ld.f (v:=i64 x.a) (aa.eq (eO h x.a) (Un.not ?_));cases hm:aG hs x.a with
 |none=>exact Split.Vp rfl (aM.mk (JE.mk (no (by rw[hm];rfl))))
 |some r=>
 refine Split.go rfl (Ld.f (v:=i64 x.b) (aa.eq (eO h x.b) (Un.not (aM.mk ?_))));cases me:aG hs x.b with
 |none=>exact JE.mk (no (by rw[me];exact xed _))
 |some q=>
 refine JE.mk (h5 _ _ λ_=>Br.no ?_);have hl:=h.live _ (h.find hm);have qR:=h.live _ (h.find me);refine DR.of (.refl _) (Ld.n (v:=.map (some mb)) (Ld.f (v:=i64 x.a) (h.dK.hit (k:=x.a) (bZ _) (b:=mb) (by exact .tail _ (.tail _ (.tail _ (.head _)))) hm λv e=>?_)));subst e;refine Ld.n (v:=.map (some mb)) (Ld.f (v:=i64 x.b) (h.dK.hit (k:=x.b) (bZ _) (b:=mb) (by exact .tail _ (.tail _ (.tail _ (.head _)))) me λv e=>?_));subst e;refine ae.dJ ?_;have e:decide (r=q)= @decide (bS S hs x.a=bS S hs x.b) (Classical.propDecidable _):=by
  by_cases hq:r=q
  ·rw[xam hq];exact(@decide_eq_true _ (Classical.propDecidable _) (by rw[bC hm,bC me];exact(h.same hl qR).2 hq)).symm
  rw[xak hq];exact(@decide_eq_false _ (Classical.propDecidable _) (by rw[bC hm,bC me];exact λe=>hq ((h.same hl qR).1 e))).symm
 rw[e];intro F;refine aa.eq (Lk _ _) λF=>?_;refine aa.eq (dU _ 0 _) λF=>?_;refine St.p (r:=[i64 0,i64 (-1),u64 _,i64 0]) (bu _ _ _ _) ?_;refine az.q ?_;exact br.mk (.skip .tail) (by rw[hm,me];rfl)
theorem QB(h:iy kp nx c K S ord ah tr hs es ck C):
  Rd zQ 92 #[ptr sp,x.v] (gS sp c kp mb nx es ck C) (· =ej 0 (-1) (cI K S ord) 0):=by
 have hle:=gv h.ks.bg;refine aE λg=>OW λb1 _ b3 _=>?_;refine Ld.n (v:=ptr kp) ?_;refine aa.eq (cH h.ks.bg) (bc.q (aa.eq (dU _ 0 _) (St.p (r:=[i64 0,i64 (-1),u64 (cI K S ord),i64 0]) (bu _ _ _ _) ?_)));refine az.q ?_;exact br.mk (.skip .tail) rfl
theorem MZ(h:iy kp nx c K S ord ah tr hs es ck C)(hv:x.a<0\/(c.n:Int)<=x.a):
  Rd zQ 95 #[ptr sp,x.v] (gS sp c kp mb nx es ck C) (· =ej 2 (-1) 0 0):=by
 refine aE λg=>Ar λb1 _ b3 _=>?_;refine DR.of (.refl _) (Ld.n (v:=ptr kp) (Ld.f (v:=i64 x.a) λF=>?_));refine aa.eq (args:=#[ptr kp,i64 x.a]) (EA h.ks.bg (by rw[h.n];exact hv)) (⟨.refl _,Ext.two ?_⟩);refine bc.q (a:=0) (aa.eq (dU 0 2 _) (St.p (r:=[i64 2,i64 (-1),u64 0,i64 0]) (bu _ _ _ _) ?_));refine az.q ?_;exact br.mk (.skip .tail) rfl
theorem M0(h:iy kp nx c K S ord ah tr hs es ck C){v:Nat}(hx:x.a=v)(hv:v<c.n):
  Rd zQ 95 #[ptr sp,x.v] (gS sp c kp mb nx es ck C) (λw=>∃p,p<c.n/\ord.getD p 0=v/\w=ej 0 (-1) p 0):=by
 have hn:=h.ks.bg.lY;refine aE λg=>Ar λb1 _ b3 _=>?_;refine DR.of (.refl _) (Ld.n (v:=ptr kp) (Ld.f (v:=i64 x.a) ?_));rw[hx];intro F;refine aa.rq (args:=#[ptr kp,i64 (v:Int)]) (EB h.ks.bg (by rw[h.n];exact hv)) ?_;rintro w ⟨p,hp,hop,rfl⟩;refine⟨.refl _,Ext.two ?_⟩;refine bc.q (aa.eq (dU p 0 _) (St.p (r:=[i64 0,i64 (-1),u64 p,i64 0]) (bu _ _ _ _) ?_));refine az.q ?_;exact br.mk (.skip .tail) ⟨p,by rw[<-h.n];exact hp,hop,rfl⟩
theorem Qx(h:iy kp nx c K S ord ah tr hs es ck C){P:Nat->Int->Prop}(SD:∀r,aG hs x.a=some r->Rd zQ 146 #[ptr kp,u32 r] C (λv=>∃n e,P n e/\v=.tuple #[u64 n,i64 e])):
  Rd zQ 90 #[ptr sp,x.v] (gS sp c kp mb nx es ck C) (λv=>((aG hs x.a).isSome=false/\v=ej 3 (-1) 0 0)\/((aG hs x.a).isSome=true/\∃n e,P n e/\v=if e=0 then ej 0 (-1) n 0 else ej e (-1) 0 0)):=by
 refine aE λg=>OY λb1 _ b3 _=>?_;refine Ld.f (v:=i64 x.a) (aa.eq (eO h x.a) (Un.not ?_));cases hm:aG hs x.a with
 |none=>
  refine Br.yes (aa.eq (cA _ _) (St.p (r:=[i64 3,i64 (-1),u64 0,i64 0]) (bu _ _ _ _) ?_));refine az.q ?_;exact br.mk (.skip .tail) (.inl ⟨rfl,rfl⟩)
 |some r=>
  refine Br.no (DR.of (.refl _) (Ld.n (v:=ptr kp) (Ld.n (v:=.map (some mb)) (Ld.f (v:=i64 x.a) (h.dK.hit (k:=x.a) (bZ _) (b:=mb) (by exact .tail _ (.tail _ (.tail _ (.head _)))) hm λv e=>?_)))));subst e;intro F;refine aa.rq (args:=#[ptr kp,u32 r]) (SD r hm) ?_;rintro w ⟨n,e,hP,rfl⟩;refine⟨.refl _,?_⟩;refine Ext.two λF=>(aa.eq (dU n e _) ?_);intro F;by_cases he:e=0
  ·rw[xae he];refine St.p (r:=[i64 0,i64 (-1),u64 n,i64 0]) (bu _ _ _ _) ?_;refine az.q ?_;exact br.mk (.skip .tail) (.inr ⟨rfl,n,e,hP,by rw[xae he]⟩)
  rw[xac he];refine St.p (r:=[i64 e,i64 (-1),u64 0,i64 0]) (bu _ _ _ _) ?_;refine az.q ?_;exact br.mk (.skip .tail) (.inr ⟨rfl,n,e,hP,by rw[xac he]⟩)
theorem M1(h:iy kp nx c K S ord ah tr hs es ck C){P:Nat->Int->Prop}(SD:∀r,aG hs x.a=some r->Rd zQ 148 #[ptr kp,u32 r] C (λv=>∃n e,P n e/\v=.tuple #[u64 n,i64 e])):
  Rd zQ 93 #[ptr sp,x.v] (gS sp c kp mb nx es ck C) (λv=>((aG hs x.a).isSome=false/\v=ej 3 (-1) 0 0)\/((aG hs x.a).isSome=true/\∃n e,P n e/\v=if e=0 then ej 0 (-1) n 0 else ej e (-1) 0 0)):=by
 refine aE λg=>OV λb1 _ b3 _=>?_;refine Ld.f (v:=i64 x.a) (aa.eq (eO h x.a) (Un.not ?_));cases hm:aG hs x.a with
 |none=>
  refine Br.yes (aa.eq (cA _ _) (St.p (r:=[i64 3,i64 (-1),u64 0,i64 0]) (bu _ _ _ _) ?_));refine az.q ?_;exact br.mk (.skip .tail) (.inl ⟨rfl,rfl⟩)
 |some r=>
  refine Br.no (DR.of (.refl _) (Ld.n (v:=ptr kp) (Ld.n (v:=.map (some mb)) (Ld.f (v:=i64 x.a) (h.dK.hit (k:=x.a) (bZ _) (b:=mb) (by exact .tail _ (.tail _ (.tail _ (.head _)))) hm λv e=>?_)))));subst e;intro F;refine aa.rq (args:=#[ptr kp,u32 r]) (SD r hm) ?_;rintro w ⟨n,e,hP,rfl⟩;refine⟨.refl _,?_⟩;refine Ext.two λF=>(aa.eq (dU n e _) ?_);intro F;by_cases he:e=0
  ·rw[xae he];refine St.p (r:=[i64 0,i64 (-1),u64 n,i64 0]) (bu _ _ _ _) ?_;refine az.q ?_;exact br.mk (.skip .tail) (.inr ⟨rfl,n,e,hP,by rw[xae he]⟩)
  rw[xac he];refine St.p (r:=[i64 e,i64 (-1),u64 0,i64 0]) (bu _ _ _ _) ?_;refine az.q ?_;exact br.mk (.skip .tail) (.inr ⟨rfl,n,e,hP,by rw[xac he]⟩)
theorem Cq(h:iy kp nx c K S ord ah tr hs es ck C){P:Nat->Int->Prop}(SD:∀r,aG hs x.a=some r->Rd zQ 149 #[ptr kp,u32 r] C (λv=>∃n e,P n e/\v=.tuple #[u64 n,i64 e])):
  Rd zQ 94 #[ptr sp,x.v] (gS sp c kp mb nx es ck C) (λv=>((aG hs x.a).isSome=false/\v=ej 3 (-1) 0 0)\/((aG hs x.a).isSome=true/\∃n e,P n e/\v=if e=0 then ej 0 (-1) n 0 else ej e (-1) 0 0)):=by
 refine aE λg=>OU ?_;intro b1 _ b3 _;refine Ld.f (v:=i64 x.a) ?_;refine aa.eq (eO h x.a) (Un.not ?_);cases hm:aG hs x.a with
 |none=>
  refine Br.yes (aa.eq (cA _ _) (St.p (r:=[i64 3,i64 (-1),u64 0,i64 0]) (bu _ _ _ _) ?_));refine az.q ?_;exact br.mk (.skip .tail) (.inl ⟨rfl,rfl⟩)
 |some r=>
  refine Br.no (DR.of (.refl _) (Ld.n (v:=ptr kp) ?_));refine Ld.n (v:=.map (some mb)) ?_;refine Ld.f (v:=i64 x.a) ?_;refine h.dK.hit (k:=x.a) (bZ _) (b:=mb) (by exact .tail _ (.tail _ (.tail _ (.head _)))) hm λv e=>?_;subst e;intro F;refine aa.rq (args:=#[ptr kp,u32 r]) (SD r hm) ?_;rintro w ⟨n,e,hP,rfl⟩;refine⟨.refl _,?_⟩;apply Ext.two;intro F;refine aa.eq (dU n e _) ?_;intro F;by_cases he:e=0
  ·rw[xae he];refine St.p (r:=[i64 0,i64 (-1),u64 n,i64 0]) (bu _ _ _ _) ?_;refine az.q ?_;exact br.mk (.skip .tail) (.inr ⟨rfl,n,e,hP,by rw[xae he]⟩)
  rw[xac he];refine St.p (r:=[i64 e,i64 (-1),u64 0,i64 0]) (bu _ _ _ _) ?_;refine az.q ?_;exact br.mk (.skip .tail) (.inr ⟨rfl,n,e,hP,by rw[xac he]⟩)
end
structure Rp where
 e:Int
 h:Int
 n:Nat
 t:Int
def Rp.cells(r:Rp):List zV:=[i64 r.e,i64 r.h,u64 r.n,i64 r.t]
abbrev Rp.v(r:Rp):zV:=.agg r.cells.toArray
def Rp.eq(a b:Rp):Bool:=decide (a.e=b.e) && (decide (a.h=b.h) && (decide (a.n=b.n) &&decide (a.t=b.t)))
theorem Rp.eq_iff{a b:Rp}:Rp.eq a b=true↔a=b:=by
 obtain⟨a1,a2,a3,a4⟩:=a;obtain⟨b1,b2,b3,b4⟩:=b;simp[Rp.eq]
theorem Rp.one(r:Rp):∀u∈r.cells,u.oneCell'=true:=bu _ _ _ _
theorem Tc:(Tryz.prog.fieldsOf 37).toList.map (λf=>(f.name,f.type,f.offset))=[("E",27,0),("H",3,1),("N",33,2),("Tries",3,3)]:=by kernel_rfl
theorem U4:Tryz.prog.underlying 3=some (.int .i64):=by kernel_rfl
theorem U6:Tryz.prog.underlying 27=some (.int .i64):=by kernel_rfl
theorem US:Tryz.prog.underlying 33=some (.int .u64):=by kernel_rfl
theorem afn{g:Gh}{H:Hp}{o:Oper}{ρ:Operand->zV}{k:zV->Prop}{neq:Bool}{x y:Operand}{a b:Rp}(ho:o.op=.binOp (cond neq .neq .eql) 37 x y 37)(hx:ρ x=a.v)(hy:ρ y=b.v)
 (hk:k (.bool (cond neq (!Rp.eq a b) (Rp.eq a b)))):jM zQ g o ρ H k:=by
 refine jM.struct (neq:=neq) ho hx hy zK zK zK (b:=Rp.eq a b) ?_ hk;intro w;have h:=Tc;generalize (Tryz.prog.fieldsOf 37).toList=fs at h;rcases fs with _|⟨f1,_|⟨f2,_|⟨f3,_|⟨f4,_|⟨f5,fs⟩⟩⟩⟩⟩<;>simp only[xaC,xb9,xax,xdz,xa0,reduceCtorEq,and_false]at h;obtain⟨⟨n1,t1,o1⟩,⟨n2,t2,o2⟩,⟨n3,t3,o3⟩,n4,t4,o4⟩:=h;have p1:∀(r:Rp) w,(part 27 r.cells.toArray 0).run zQ w=.ok (i64 r.e) w:=λr w=>run_part_plain (w:=w) zK rfl;have p2:∀(r:Rp) w,(part 3 r.cells.toArray 1).run zQ w=.ok (i64 r.h) w:=λr w=>run_part_plain (w:=w) zK rfl;have p3:∀(r:Rp) w,(part 33 r.cells.toArray 2).run zQ w=.ok (u64 r.n) w:=λr w=>run_part_plain (w:=w) zK rfl;have p4:∀(r:Rp) w,(part 3 r.cells.toArray 3).run zQ w=.ok (i64 r.t) w:=λr w=>run_part_plain (w:=w) zK rfl;have dq:∀x y:Int,(x==y)=decide (x=y):=λx y=>by rw[xbU];simp
 have q1:∀(x y:Int) w,(Op.equalIn 9999 27 (i64 x) (i64 y)).run zQ w=.ok (decide (x=y)) w:=λx y w=>by
  rw[run_equalIn_int w 9998 27 .i64 _ _ _ U6,dq]
 have q2:∀(x y:Int) w,(Op.equalIn 9999 3 (i64 x) (i64 y)).run zQ w=.ok (decide (x=y)) w:=λx y w=>by
  rw[run_equalIn_int w 9998 3 .i64 _ _ _ U4,dq]
 have q3:∀(x y:Nat) w,(Op.equalIn 9999 33 (u64 x) (u64 y)).run zQ w=.ok (decide (x=y)) w:=λx y w=>by
  rw[run_equalIn_int w 9998 33 .u64 _ _ _ US,dq];congr 1;exact xb8.2 Int.ofNat_inj
 show(Op.eqFields 9999 a.cells.toArray b.cells.toArray [f1,f2,f3,f4]).run zQ w=_;simp only[Op.eqFields,n1,n2,n3,n4,t1,t2,t3,t4,o1,o2,o3,o4,Sem.run_bind,p1,p2,p3,p4,q1,q2,q3,Result.andThen_ok,Sem.run_ite,Sem.run_pure];unfold Rp.eq;by_cases h1:a.e=b.e<;>by_cases h2:a.h=b.h<;>by_cases h3:a.n=b.n<;>by_cases h4:a.t=b.t<;>simp[h1,h2,h3,h4]
def q9:List Rp->List Rp->Bool
 | [],[]=>true
 |a::l,b::r=>Rp.eq a b&&q9 l r
 |_,_=>false
theorem lR:∀{l r:List Rp},q9 l r=true↔l=r
 | [],[]=>by simp[q9]
 | [],_::_=>by simp[q9]
 |_::_,[]=>by simp[q9]
 |a::l,b::r=>by simp[q9,Rp.eq_iff,lR]
theorem Nh{B:Hp}{va vb:zV}{l r:List Rp}(hl:Sl 4 B va (l.map Rp.cells))(hr:Sl 4 B vb (r.map Rp.cells))(cD:l.length<9223372036854775807):Rd zQ 17 #[va,vb] B (· =.bool (q9 l r)):=by
 refine aE λg=>Pt (hl.bP ?_);refine hr.bP ?_;rw[xav,xav];refine ae.xU (Br.dec (λhne=>?_) (λheq=>?_))
 ·refine br.mk (.refl _) ?_;cases he:q9 l r
  ·rfl
  rw[lR.1 he]at hne;exact absurd rfl hne
 have heq:l.length=r.length:=by simpa using heq
 refine⟨λvs H=>∃i:Nat,vs=[i64 (i:Int)]/\i<=l.length/\H=B/\l.take i=r.take i,λvs _=>l.length-bJ vs 0,JE.mk ⟨0,rfl,xaO _,rfl,rfl⟩,?_⟩;rintro w H ⟨i,⟨⟩,hi,rfl,he⟩ gs;refine hl.bP ?_;rw[xav];refine ae.eZ (Br.dec (λhlt=>?_) (λhge=>?_))
 ·have hlr:i<r.length:=by omega
  refine av.sl hl (i:=i) (r:=l[i].cells) (by rw[xat,xaa hlt];rfl) λp hp=>?_;refine az.at hp rfl zD (λ_ h=>h) ?_;refine av.sl hr (i:=i) (r:=r[i].cells) (by rw[xat,xaa hlr];rfl) λp hp=>?_;refine az.at hp rfl zD (λ_ h=>h) ?_;refine afn (neq:=true) (x:=.tmp 20) (y:=.tmp 24) (a:=l[i]) (b:=r[i]) zK rfl rfl ?_;simp only[xap];refine Br.mk (λhb=>?_) (λhb=>?_)
  ·refine br.mk (.refl _) ?_;cases Up:q9 l r
   ·rfl
   have h2:=lR.1 Up;have:Rp.eq l[i] r[i]=true:=Rp.eq_iff.2 (by subst h2;rfl);rw[this]at hb;cases hb
  have h2:l[i]=r[i]:=Rp.eq_iff.1 (by simpa using hb);refine ae.inc (aC.of (.refl _) ⟨i+1,rfl,hlt,rfl,?_⟩ (by simp only[bJ];omega));rw[xbs,xbs,he,xaa hlt,xaa hlr,h2]
 refine br.mk (.refl _) ?_;have h2:l=r:=by rwa [xcw zO,xcw zO]at he
 rw[lR.2 h2]
theorem Q7(n:Nat)(B:Hp):Rd zQ 18 #[i64 (n:Int)] B (· =.agg (xZ.cells ⟨n,1048576,0,100,0⟩).toArray):=by
 refine aE λg=>Ps λb1 _=>?_;refine Build.mk (cs:=xZ.cells ⟨n,1048576,0,100,0⟩) zK (St.p (xZ.one _) ?_);exact az.q (r:=xZ.cells ⟨n,1048576,0,100,0⟩) (br.mk .tail rfl)
theorem Cf.Ok.ie{d:Cf}(h:d.Ok):ie d.i=0:=by
 obtain⟨h1,h2,h3,h4,h5,h6⟩:=h;have a1:g8 d.i=false:=by
  show(decide (6<d.str)||decide ((d.gr:Int)<100)||decide (1000<(d.gr:Int))||decide ((d.rs:Int)<0)||decide (16<(d.rs:Int)))=false;simp only[xaG,xbl];omega
 have a2:iS d.i=false:=by
  show decide ((d.n:Int)<1\/64<(d.n:Int)\/(d.cap:Int)<2\/1048576<(d.cap:Int))=false;rw[xbl];omega
 have a3:¬(d.i.str=6/\12<d.i.n):=by
  show¬(d.str=6/\12<(d.n:Int));omega
 unfold Proofs.ie;rw[a1,a2,xac zD,xac zD,xac a3]
theorem Vj{c:xZ}{steps:List dB}{sv:zV}{Y:Hp}(hs:Sl 5 Y sv (steps.map dB.cells))(cD:steps.length<4398046511104)(I:Nat->Nat->List Rp->Hp->Prop)
 (h0:∀d:Cf,c=d.i->d.Ok->∀(sp kp mb:Nat) (C:Hp),cc kp (K0 d.n d.cap) S0 (List.range d.n) (List.range d.n) [] C->I 0 sp [] (gS sp d kp mb 0 #[] 0 C))
 (hstep:∀(i sp:Nat) (l:List Rp) (H:Hp) (x:dB),ie c=0->steps[i]? =some x->I i sp l H->l.length=i->Fc zQ 16 #[ptr sp,x.v] H (λv H'=>∃r:Rp,v=r.v/\I (i+1) sp (l++[r]) H')):
  Fc zQ 15 #[.agg c.cells.toArray,sv] Y (λw H=>(ie c≠0/\w=.tuple #[.slice none 0 0,i64 (ie c)]/\H=Y)\/
   (ie c=0/\∃(sp:Nat) (l:List Rp) (s:zV) (CR HS:Hp),w=.tuple #[s,i64 0]/\H=CR++Y/\aV 37 4 s (l.map Rp.cells) CR/\l.length=steps.length/\I steps.length sp l HS)):=by
 refine aE λg=>Pv λb1 _=>?_;refine az.q (r:=c.cells) (aa.fn hnew (Cv c (Q:=λv H=>(ie c≠0/\v=.tuple #[.pointer none,i64 (ie c)]/\H=[])\/(ie c=0/\∃sp,v=.tuple #[ptr sp,i64 0]/\I 0 sp [] H)) (λh=>.inl ⟨h,rfl,rfl⟩) (λd hd hok sp kp mb C hK=>.inr ⟨?_,sp,rfl,h0 d hd hok sp kp mb C hK⟩)) ?_)
 ·subst hd;exact hok.ie
 rintro w H (⟨hne,rfl,rfl⟩|⟨he,sp,rfl,hI⟩)
 ·refine Ext.two (ae.cO (Br.T ?_ hne));exact aF.mk (.tail) (.inl ⟨hne,rfl,rfl⟩)
 refine Ext.two (ae.cO (Br.F (hs.bP ?_)));rw[xav];refine⟨λvs H'=>∃(i:Nat) (s:zV) (l:List Rp) (CR HS:Hp),vs=[s,i64 (i:Int)]/\i<=steps.length/\l.length=i/\H'=CR++(HS++((b1,.cells (Value.cells (.agg c.cells.toArray)) 23 zZ)::Y))/\aV 37 4 s (l.map Rp.cells) CR/\I i sp l HS,
  λvs _=>steps.length-bJ vs 1,JE.mk ⟨0,_,[],[],H,rfl,xaO _,rfl,rfl,aV.nil _ _,hI⟩,?_⟩
 rintro w1 w2 H' ⟨i,s,l,CR,HS,⟨⟩,hi,hl,rfl,hR,hI⟩ gs;refine ae.eZ (Br.dec (λhlt=>?_) (λhge=>?_))
 ·refine av.sl hs (i:=i) (r:=steps[i].cells) (by rw[xat,xaa hlt];rfl) λp hp=>?_;refine az.at hp rfl zD (λ_ h=>xab _ (xab _ (.tail _ h))) ?_;intro B6 _;refine St.p (r:=steps[i].cells) (dB.one _) (az.q (r:=steps[i].cells) (aa.fn (.cons (.app .left)) (hstep i sp l HS steps[i] he (xaa hlt) hI hl) ?_));rintro v Xo ⟨r,rfl,hI'⟩;refine au.one (z:=.agg #[i64 0,i64 0,u64 0,i64 0]) (e:=37) (k:=4) (r:=r.cells) zK zK zK zD rfl λbx=>?_;refine aV.qJ (r:=r.cells) hR (.cons (.cons .left)) (by exact .head _) rfl (Rp.one r) ⟨[i64 0,i64 0,u64 0,i64 0],rfl,rfl⟩ (by rw[xav];omega) (by rw[xav];omega) λv' CR' PU=>?_;refine ae.inc (aC.of (.skip .tail) ⟨i+1,v',l++[r],CR',Xo,rfl,hlt,by rw[xaf,hl];rfl,rfl,by rw[xaH];exact PU,hI'⟩ (by simp only[bJ];omega))
 obtain rfl:i=steps.length:=by omega
 exact aF.mk (aN.c8 (aN.right.trans .tail) CR) (.inr ⟨he,sp,l,w1,CR,HS,rfl,rfl,hR,hl,hI⟩)
abbrev FS:=List (Int×ax.Fn)
def jk(S:Nat->ax.Fn)(hs:List (Int×Nat)):FS:=hs.map λp=>(p.1,S p.2)
def fF(F:FS)(a:Int):ax.Fn:=match aG F a with|some f=>f|none=>λ_=>false
def uz(F:FS):List ax.Fn:=F.map Prod.snd
def dx(F:FS)(a:Int):Bool:=(aG F a).isSome
theorem vW{S:Nat->ax.Fn}{a:Int}:∀hs:List (Int×Nat),aG (jk S hs) a=(aG hs a).map S
  | []=>rfl
  |p::hs=>by
    have ih:=vW (S:=S) (a:=a) hs;unfold aG jk at*;rw[xaC,xby,xby];by_cases e:p.1=a
    · simp[e]
    · simp only[e,xdq]
      exact ih
theorem k7{S:Nat->ax.Fn}{hs:List (Int×Nat)}:fF (jk S hs)=bS S hs:=funext λa=>by
  unfold fF bS;rw[vW];cases aG hs a<;>rfl
theorem rV{S:Nat->ax.Fn}{hs:List (Int×Nat)}:uz (jk S hs)=fL S hs:=by
  unfold uz jk fL;rw[xbO];rfl
theorem eJ{S:Nat->ax.Fn}{hs:List (Int×Nat)}(a:Int):dx (jk S hs) a=(aG hs a).isSome:=by
  unfold dx;rw[vW];cases aG hs a<;>rfl
theorem mz{S S':Nat->ax.Fn}{hs:List (Int×Nat)}(h:∀p∈hs,S' p.2=S p.2):jk S' hs=jk S hs:=xbj λp hp=>by rw[h p hp]
theorem OM{S:Nat->ax.Fn}{hs:List (Int×Nat)}:(jk S hs).map Prod.fst=hs.map Prod.fst:=by
  unfold jk;rw[xbO];rfl
def iu(n:Nat)(F:FS)(w:Nat)(x:dB):Int:=
  if(Ex w x||G9 w x)=true then 1 else if(Dh n w x||Dg n w x||FV n w x)=true then 2 else
  if((decide (w&&&1≠0) && !dx F x.a)||(decide (w&&&2≠0) && !dx F x.b)||(decide (w&&&4≠0) && !dx F x.c))=true then 3 else 0
theorem ze{S:Nat->ax.Fn}{hs:List (Int×Nat)}{n w:Nat}{x:dB}:iu n (jk S hs) w x=kM n hs w x:=by
  unfold iu kM wO wM Aa;rw[eJ,eJ,eJ]
noncomputable def B1(n:Nat)(F:FS)(ord:zL):Nat:=sz n ord (HF (uz F))
def jl(sp:Nat)(c:Cf)(nx:Nat)(F:FS)(ord tr:zL)(H:Hp):Prop:=
  ∃(kp mb:Nat) (K:Kd) (S:Nat->ax.Fn) (ah:zL) (hs:List (Int×Nat)) (es:Array MapEntry) (ck:Nat) (C:Hp),H=gS sp c kp mb nx es ck C/\iy kp nx c K S ord ah tr hs es ck C/\jk S hs=F
section
variable {sp nx:Nat} {c:Cf} {F:FS} {ord tr:zL} {H:Hp} {x:dB}
theorem iy.B1{kp:Nat}{K:Kd}{S:Nat->ax.Fn}{ah:zL}{hs:List (Int×Nat)}{es:Array MapEntry}{ck:Nat}{C:Hp}(h:iy kp nx c K S ord ah tr hs es ck C)(o:zL):cI K S o=Proofs.B1 c.n (jk S hs) o:=by
  unfold cI Proofs.B1;rw[h.held,rV,h.n]
theorem LL{d:Cf}{kp mb:Nat}{C:Hp}(hK:cc kp (K0 d.n d.cap) S0 (List.range d.n) (List.range d.n) [] C):jl sp d 0 [] (List.range d.n) [] (gS sp d kp mb 0 #[] 0 C):=
  ⟨kp,mb,_,_,_,[],_,_,C,rfl,⟨hK,rfl,rfl,aD.empty,by simp,λr=>by
    show([]:zL).getD r 0=_;simp,by simp⟩,rfl⟩
theorem jl.nodup(h:jl sp c nx F ord tr H):(F.map Prod.fst).Nodup:=by
  obtain⟨kp,mb,K,S,ah,hs,es,ck,C,rfl,h,rfl⟩:=h;rw[OM];exact h.dK.nd
theorem jl.lt(h:jl sp c nx F ord tr H):∀p∈F,0<=p.1/\p.1<nx:=by
  obtain⟨kp,mb,K,S,ah,hs,es,ck,C,rfl,h,rfl⟩:=h;intro p hp;obtain⟨q,hq,rfl⟩:=xao.1 hp;exact h.lt q hq
def Yq(sp:Nat)(c:Cf)(nx:Nat)(F:FS)(ord tr:zL)(x:dB)(R:zL->zL->Prop)(v:zV)(H:Hp):Prop:=
  ∃(t:Nat) (o cX:zL),t<=c.rs+1/\ua (qu c.n c.cap (uz F) (fF F) x) R ord t o/\
    ((v=ej 0 nx 0 t/\jl sp c (nx+1) (F++[((nx:Int),cB c.n (fF F) x)]) o [] H/\qu c.n c.cap (uz F) (fF F) x o 0)\/
     (∃e:Nat,(e=8\/e=9)/\v=ej e (-1) 0 t/\jl sp c nx F o cX H/\qu c.n c.cap (uz F) (fF F) x o e/\(e=9->t=c.rs+1)/\cX.length+66*B1 c.n F o<=tr.length+66*B1 c.n F ord))
theorem W4{w f:Nat}(hm:cY x.op=some (w,f)):jx f x.op w/\aT zQ f=true/\w<256:=by
  have nine:x.op=1\/x.op=2\/x.op=3\/x.op=4\/x.op=5\/x.op=6\/x.op=7\/x.op=8\/x.op=9\/x.op=10\/x.op=11:=by
    unfold cY at hm
    repeat' split at hm
    all_goals first|omega|cases hm
  rcases nine with e|e|e|e|e|e|e|e|e|e|e<;>rw[e]at hm⊢ <;>cases hm
  · exact⟨q6,by kernel_rfl,by decide⟩
  · exact⟨AR,by kernel_rfl,by decide⟩
  · exact⟨U1,by kernel_rfl,by decide⟩
  · exact⟨Ll,by kernel_rfl,by decide⟩
  · exact⟨YF,by kernel_rfl,by decide⟩
  · exact⟨UP,by kernel_rfl,by decide⟩
  · exact⟨U3,by kernel_rfl,by decide⟩
  · exact⟨AL,by kernel_rfl,by decide⟩
  · exact⟨FC,by kernel_rfl,by decide⟩
  · exact⟨FB,by kernel_rfl,by decide⟩
  · exact⟨CE,by kernel_rfl,by decide⟩
theorem r5(hx:x.op=1):jx 72 x.op 8/\aT zQ 72=true:=by
  rw[hx];exact⟨q6,by kernel_rfl⟩
theorem Es(hx:x.op=4):jx 75 x.op 3/\aT zQ 75=true:=by
  rw[hx];exact⟨Ll,by kernel_rfl⟩
def T6(c:Cf)(nx:Nat)(F:FS)(T:zL->Nat->Prop)(R:zL->zL->Prop)(b:Nat):Prop:=
  ∀{kp:Nat} {K:Kd} {S:Nat->ax.Fn} {o ah tr:zL} {hs:List (Int×Nat)} {es:Array MapEntry} {ck:Nat} {C:Hp},T o 9->iy kp nx c K S o ah tr hs es ck C->jk S hs=F->tr.length<=b->
    Fc zQ 85 #[ptr kp,.int .u8 (c.str:Int),i64 c.gr] C (λv H=>∃ls a b,v=.tuple #[a,b]/\R o ls/\At kp K S (aA o ls) (tr++ls) H/\ls.length+66*cI K S (aA o ls)<=66*cI K S o)
theorem LG{w f:Nat}{R:zL->zL->Prop}(h:jl sp c nx F ord tr H)(hc:c.Ok)(DO:nx+1<9223372036854775808)(hx:x.x<18446744073709551616)(hf:jx f x.op w)(fN:aT zQ f=true)(hw:w<256)(hl:iu c.n F w x=0)
   (hrun:T6 c nx F (qu c.n c.cap (uz F) (fF F) x) R (tr.length+66*B1 c.n F ord)):
    Fc zQ 43 #[ptr sp,x.v,.agg (LD (w,f)).toArray] H (Yq sp c nx F ord tr x R):=by
  obtain⟨kp,mb,K,S,ah,hs,es,ck,C,rfl,h,rfl⟩:=h;rw[ze]at hl;rw[k7,rV,<-h.B1]at hrun;refine(VD fN h hc DO hw hx hl (fn:=cB c.n (bS S hs) x) (T:=qu c.n c.cap (fL S hs) (bS S hs) x) (R:=R) (λ{K' S' o bW cX C'} h' hS=>?_) (λ{K' S' o bW cX C'} hT h' hS hb=>?_)).mono ?_
  · have:=hf (sp:=sp) (mb:=mb) h' rfl hx hl
    rwa [WU hS,Oe h.dK.nd hS]at this
  · exact hrun hT h' (mz hS) hb
  · rintro v H ⟨t,o,bW,cX,K',S',es',bD,C',ht,hT,hS,hq⟩
    unfold Yq;have ez:B1 c.n (jk S hs)=cI K S:=funext λo=>(h.B1 o).symm;rw[k7,rV,ez];refine⟨t,o,cX,ht,hT,?_⟩;rcases hq with⟨r,rfl,rfl,h',hr,h0,rfl⟩|⟨e,he,rfl,rfl,h',SM,h9,hb⟩
    · refine .inl ⟨rfl,⟨kp,mb,K',S',bW,_,es',bD,C',rfl,h',?_⟩,h0⟩
      rw[<-mz hS];unfold jk;rw[xaH,<-hr];rfl
    · exact .inr ⟨e,he,rfl,⟨kp,mb,K',S',bW,_,es',bD,C',rfl,h',mz hS⟩,SM,h9,hb⟩
theorem v5{w f:Nat}(h:jl sp c nx F ord tr H)(hx:x.x<18446744073709551616)(hw:w<256)(hl:iu c.n F w x≠0):
    Rd zQ 43 #[ptr sp,x.v,.agg (LD (w,f)).toArray] H (· =ej (iu c.n F w x) (-1) 0 0):=by
  obtain⟨kp,mb,K,S,ah,hs,es,ck,C,rfl,h,rfl⟩:=h;rw[ze]at hl⊢;exact VE h hw hx hl
theorem Bp(h:jl sp c nx F ord tr H)(hx:x.x<18446744073709551616):Rd zQ 88 #[ptr sp,x.v] H (· =if dx F x.a then ej 0 (-1) (fF F x.a x.x).toNat 0 else ej 3 (-1) 0 0):=by
  obtain⟨kp,mb,K,S,ah,hs,es,ck,C,rfl,h,rfl⟩:=h;rw[eJ,k7];exact QI h hx
theorem AS(h:jl sp c nx F ord tr H):Rd zQ 90 #[ptr sp,x.v] H (· =if dx F x.a then ej 0 (-1) (sat c.n (fF F x.a)%yC) 0 else ej 3 (-1) 0 0):=by
  obtain⟨kp,mb,K,S,ah,hs,es,ck,C,rfl,h,rfl⟩:=h;rw[eJ,k7];refine(Qx h (x:=x) (P:=λn e=>e=0/\n=sat c.n (bS S hs x.a)%yC) λr hr=>?_).mono λv H ⟨e,hv⟩=>⟨e,?_⟩
  · rw[bC hr,<-h.n]
    exact(Tr h.ks (h.live _ (h.find hr))).mono λv H ⟨e,hv⟩=>⟨e,_,_,⟨rfl,rfl⟩,hv⟩
  · rcases hv with⟨h1,h2⟩|⟨h1,n,e,⟨rfl,rfl⟩,h2⟩
    · rw[h1];exact h2
    · rw[h1];exact h2
end
end
end Go.Proofs
namespace ax
open ak
variable {n:Nat} {ah:Nat->Nat} {N:eG} {S:Nat->Fn} {ord:zL} {R:Nat->Prop} {V:zL}
inductive Rc(N:eG)(R:Nat->Prop):Nat->Prop
 |base {r:Nat}:R r->Rc N R r
 |lo {p:Nat} {d:Nd}:Rc N R p->N p=some d->Rc N R d.lo
 |hi {p:Nat} {d:Nd}:Rc N R p->N p=some d->Rc N R d.hi
def OO(N:eG)(V:zL):Prop:=∀u∈V,∃d,N u=some d/\(d.lo<2\/d.lo∈V)/\(d.hi<2\/d.hi∈V)
theorem KW(h0:∀r,r<2->N r=none)(hV:OO N V)(hR:∀r,R r->r<2\/r∈V):∀l r,A N ah n R l r->r<2\/r∈V
 |0,r,ha=>hR r ha
 |l+1,r,ha=>by
  rcases ha with⟨h1,_⟩|⟨p,d,h1,h2,_,h4⟩
  ·exact KW h0 hV hR l r h1
  rcases KW h0 hV hR l p h1 with hp|hp
  ·rw[h0 p hp]at h2;cases h2
  obtain⟨d',hd,a,b⟩:=hV p hp;rw[h2]at hd;cases hd;rcases h4 with rfl|rfl
  ·exact a
  exact b
theorem Rc.at(h:WF n ah N)(hR:∀r,R r->live N r){u:Nat}(hu:Rc N R u):∀d,N u=some d->A N ah n R (ah d.v) u:=by
 induction hu with
 |base hr=>
  intro d hd;have:=tu (N:=N) (ah:=ah) (n:=n) (ah d.v) 0 hr (by rw[an hd];omega);rwa [xa5]at this
 | @lo p e hp he ih=>
  intro d hd;have hlt:=(h.lo he).2;rw[an hd]at hlt;have hb:A N ah n R (ah e.v+1) e.lo:=.inr ⟨p,e,ih e he,he,rfl,.inl rfl⟩;have:=tu (ah d.v-(ah e.v+1)) _ hb (by rw[an hd];omega);rwa [show ah e.v+1+(ah d.v-(ah e.v+1))=ah d.v by omega]at this
 | @hi p e hp he ih=>
  intro d hd;have hlt:=(h.hi he).2;rw[an hd]at hlt;have hb:A N ah n R (ah e.v+1) e.hi:=.inr ⟨p,e,ih e he,he,rfl,.inr rfl⟩;have:=tu (ah d.v-(ah e.v+1)) _ hb (by rw[an hd];omega);rwa [show ah e.v+1+(ah d.v-(ah e.v+1))=ah d.v by omega]at this
theorem MJ(h:WF n ah N)(hl:jV n ah)(ho:Ord n ah ord)(hi:Interp N S)(hR:∀r,R r->live N r)(hV:OO N V)(hRV:∀r,R r->r<2\/r∈V)(hVR:∀u∈V,Rc N R u)(g:Fn):aH n ord (Fs S R) g↔∃u∈V,g=S u:=by
 constructor
 ·rintro⟨l,BU,hf,x,hx⟩;obtain⟨v1,v2⟩:=ho.bg l BU;obtain⟨r,ha,rfl⟩:=(Od h hl ho hi hR l zO g).1 hf;rcases KW (λr hr=>h.const hr) hV hRV l r ha with hc|hm
  ·exfalso;have:r=0\/r=1:=by omega
   rcases this with rfl|rfl
   ·exact hx (by rw[hi.zero,hi.zero])
   exact hx (by rw[hi.one,hi.one])
  exact⟨r,hm,rfl⟩
 rintro⟨u,hu,rfl⟩;obtain⟨d,hd,_⟩:=hV u hu;have hv:=h.var hd;refine⟨ah d.v,hl.lt _ hv,(Od h hl ho hi hR _ (xca (hl.lt _ hv)) _).2 ⟨u,(hVR u hu).at h hR d hd,rfl⟩,?_⟩;rw[ho.of hl hv];exact gk h hl hi hd
theorem UE(h:WF n ah N)(hl:jV n ah)(ho:Ord n ah ord)(hi:Interp N S)(hR:∀r,R r->live N r)(hV:OO N V)(hRV:∀r,R r->r<2\/r∈V)(hVR:∀u∈V,Rc N R u)(nd:V.Nodup):pH (aH n ord (Fs S R)) V.length:=by
 have live':∀u∈V,live N u:=λu hu=>let ⟨d,hd,_⟩:=hV u hu;.inr ⟨d,hd⟩
 refine⟨V.map S,?_,by simp,λg=>?_⟩
 ·refine xcc.2 (nd.imp_of_mem λ{a b} ha hb hne e=>hne ?_);exact h.same hl hi (live' a ha) (live' b hb) λx=>congrFun e x
 rw[MJ h hl ho hi hR hV hRV hVR,xao];exact⟨λ⟨u,hu,e⟩=>⟨u,hu,e.symm⟩,λ⟨u,hu,e⟩=>⟨u,hu,e.symm⟩⟩
theorem MK(h:WF n ah N)(hl:jV n ah)(hi:Interp N S)(hV:OO N V){v:Nat}(hno:∀u∈V,∀d,N u=some d->d.v≠v):∀(k u:Nat),n-dep n ah N u<=k->u<2\/u∈V->∀x,S u (aB x v false)=S u (aB x v true):=by
 intro k;have const:∀u,u<2->∀x,S u (aB x v false)=S u (aB x v true):=λu hu x=>by
  have:u=0\/u=1:=by omega
  rcases this with rfl|rfl
  ·rw[hi.zero,hi.zero]
  rw[hi.one,hi.one]
 induction k with
 |zero=>
  intro u hk hu x;rcases hu with hu|hu
  ·exact const u hu x
  obtain⟨d,hd,_⟩:=hV u hu;rw[an hd]at hk;have:=hl.lt _ (h.var hd);omega
 |succ k ih=>
  intro u hk hu x;rcases hu with hu|hu
  ·exact const u hu x
  obtain⟨d,hd,a,b⟩:=hV u hu;have h1:=(h.lo hd).2;have h2:=(h.hi hd).2;have h3:=hl.lt _ (h.var hd);rw[an hd]at hk;have hne:=hno u hu d hd;rw[hi.node hd,hi.node hd,aj,aj,xac hne,xac hne,ih d.lo zO a,ih d.hi zO b]
theorem Rc.cG(h:WF n ah N)(hl:jV n ah)(hi:Interp N S){r u v:Nat}(hu:Rc N (λq=>q=r) u):cG (S u) v->cG (S r) v:=by
 have step:∀(p q:Nat) (d:Nd) (b:Bool),N p=some d->q=(if b then d.hi else d.lo)->ax.cG (S q) v->ax.cG (S p) v:=λp q d b hp hq hv=>by
  have PI:live N q/\ah d.v+1<=dep n ah N q:=by
   cases b
   ·rw[hq];exact h.lo hp
   rw[hq];exact h.hi hp
  have ind:∀x c,S q (aB x d.v c)=S q x:=λx c=>h.bN hl hi PI.1 (h.var hp) zO x c;obtain⟨x,hx⟩:=hv;have hne:v≠d.v:=λe=>by
   subst e;exact hx (by rw[ind,ind])
  refine⟨aB x d.v b,?_⟩;have e:∀c,S p (aB (aB x d.v b) v c)=S q (aB x v c):=λc=>by
   have tb:(aB (aB x d.v b) v c).testBit d.v=b:=by rw[aj,xac (λe=>hne e.symm),aj,xae rfl]
   rw[hi.node hp,tb,cu (λe=>hne e.symm),<-ind (aB x v c) b,hq];cases b<;>rfl
  rw[e,e];exact hx
 induction hu with
 |base hr=>rw[hr];exact id
 |lo _ he ih=>exact λhv=>ih (step _ _ _ false he rfl hv)
 |hi _ he ih=>exact λhv=>ih (step _ _ _ true he rfl hv)
theorem ML(h:WF n ah N)(hl:jV n ah)(hi:Interp N S){r:Nat}(hV:OO N V)(hr:r<2\/r∈V)(hVR:∀u∈V,Rc N (λq=>q=r) u)(v:Nat):cG (S r) v↔∃u∈V,∃d,N u=some d/\d.v=v:=by
 constructor
 ·rintro⟨x,hx⟩;refine xaD λhno=>hx (MK h hl hi hV (λu hu d hd e=>hno ⟨u,hu,d,hd,e⟩) _ r (xai _) hr x)
 rintro⟨u,hu,d,hd,rfl⟩;exact(hVR u hu).cG h hl hi (gk h hl hi hd)
end ax
set_option maxRecDepth 100000
namespace Go.Proofs
open Go Go.Sx Tryz
section
open ax
section
variable {kp mb b7 b1 b3 BB Uv:Nat} {cap:Array zV} {K:Kd} {S:Nat->ax.Fn} {ord ah tr:zL} {C Z:Hp} {P:zL->Hp->Prop}
def yT(V:zL):List (Nat×Unit):=V.map λr=>(r,())
theorem vq{V:zL}{r:Nat}:aG (yT V) r=if r∈V then some ()else none:=by
 unfold yT;induction V with
 |nil=>rfl
 |cons a V ih=>
  unfold aG at*;rw[xaC,xby];by_cases e:a=r
  ·subst e;simp
  simp only[e,xdq];rw[ih];have:(r∈a::V)↔r∈V:=by simp[xbb e]
  by_cases hv:r∈V
  ·rw[xae hv,xae (this.2 hv)]
  rw[xac hv,xac λh=>hv (this.1 h)]
theorem QK{V:zL}{r:Nat}(h:r∉V):eo (yT V) r ()=yT (V++[r]):=by
 unfold eo yT;rw[xac (by rw[xbO];simpa using h),xaH];rfl
abbrev EK(es:Array MapEntry)(ck:Nat)(V:zL):Prop:=aD kr (λv (_:Unit)=>v=i64 1) es ck (yT V)
structure Walk(K:Kd)(V V':zL)(r:Nat):Prop where
 nd:V'.Nodup
 sub:∀u∈V,u∈V'
 has:r<2\/r∈V'
 shut:∀u∈V',u∉V->∃d,K.N u=some d/\(d.lo<2\/d.lo∈V')/\(d.hi<2\/d.hi∈V')
 rc:∀u∈V',u∉V->Rc K.N (λq=>q=r) u
def Xt(Uv:Nat)(cap:Array zV)(K:Kd)(P:zL->Hp->Prop):Prop:=aT zQ Uv=true/\∀(V:zL) (r:Nat) (d:Nd) (G:Hp),K.N r=some d->P V G->Fc zQ Uv (#[.agg (bB d).toArray]++cap) G (λv G'=>v=.tuple #[]/\P (V++[r]) G')
theorem yV{N:eG}{r q u:Nat}(h1:Rc N (λx=>x=r) q)(h2:Rc N (λx=>x=q) u):Rc N (λx=>x=r) u:=by
 induction h2 with
 |base e=>rw[e];exact h1
 |lo _ hd ih=>exact .lo ih hd
 |hi _ hd ih=>exact .hi ih hd
theorem UD(h:cc kp K S ord ah tr C)(hd:Xt Uv cap K P)(h7:(b7,Obj.cells #[.map (some mb)] 351 zZ)∈Z)(h1:(b1,Obj.cells #[ptr kp] 85 zZ)∈Z)(h3:(b3,Obj.cells #[.func (.func Uv) #[] cap] 267 zZ)∈Z)
 (h10:(BB,Obj.cells #[.func (.func 291) #[] #[ptr b7,ptr b1,ptr b3,ptr BB]] 261 zZ)∈Z):
  ∀(k r:Nat) (es:Array MapEntry) (ck:Nat) (V:zL) (G:Hp),K.n-dep K.n (lv ah) K.N r<=k->live K.N r->V.Nodup->EK es ck V->P V G->
  Fc zQ 291 #[u32 r,ptr b7,ptr b1,ptr b3,ptr BB] ((mb,.map es ck)::(G++(Z++C))) (λv H=>v=.tuple #[]/\∃es' bD V' G',H=(mb,.map es' bD)::(G'++(Z++C))/\EK es' bD V'/\P V' G'/\Walk K V V' r):=by
 have stop:∀{r:Nat} {es:Array MapEntry} {ck:Nat} {V:zL} {G:Hp},V.Nodup->EK es ck V->P V G->(r<2\/r∈V)->
   Fc zQ 291 #[u32 r,ptr b7,ptr b1,ptr b3,ptr BB] ((mb,.map es ck)::(G++(Z++C))) (λv H=>v=.tuple #[]/\∃es' bD V' G',H=(mb,.map es' bD)::(G'++(Z++C))/\EK es' bD V'/\P V' G'/\Walk K V V' r):=by
  intro r es ck V G fc hE hP hr;refine aE λg=>xF (aa.eq (pw r _) (cm.or (a:=decide (r<2)) (decide (r∈V)) (λ_=>?_) rfl λ_=>?_))
  ·refine Ld.mk (v:=.map (some mb)) (.tail _ (xab _ (xad _ h7))) rfl ?_;by_cases hm:r∈V
   ·refine hE.hit (k:=r) de (b:=mb) (by exact .head _) (by rw[vq,xae hm]) λv e=>?_;subst e;exact ae.gtr ⟨rfl,by rw[xam hm];rfl⟩
   refine hE.bM (k:=r) de (b:=mb) (by exact .head _) (by rw[vq,xac hm]) ?_;exact ae.gtr ⟨rfl,by rw[xak hm];rfl⟩
  rw[<-xa8,xam hr];refine Br.yes (aF.mk (.refl _) ⟨rfl,es,ck,V,G,rfl,hE,hP,⟨fc,λ_ h=>h,hr,λu h h'=>absurd h h',λu h h'=>absurd h h'⟩⟩)
 intro k;induction k with
 |zero=>
  intro r es ck V G hk hr fc hE hP;refine stop fc hE hP (.inl ?_);cases hN:K.N r with
  |some d=>
   rw[an hN]at hk;have:=h.ok.lv.lt _ (h.ok.mid.var hN);omega
  |none=>
   rcases hr with hr|⟨d,e⟩
   ·exact hr
   rw[hN]at e;cases e
 |succ k ih=>
  intro r es ck V G hk hr fc hE hP;by_cases hs:r<2\/r∈V
  ·exact stop fc hE hP hs
  have qx:¬r<2:=λh=>hs (.inl h);have Zr:r∉V:=λh=>hs (.inr h);obtain⟨d,hN⟩:∃d,K.N r=some d:=by
   rcases hr with hr|hr
   ·omega
   exact hr
  have hlo:=h.ok.wf.lo hN;have hhi:=h.ok.wf.hi hN;rw[an hN]at hk;have hvl:=h.ok.lv.lt _ (h.ok.mid.var hN);refine aE λg=>xF (aa.eq (pw r _) (cm.or (a:=decide (r<2)) false (λ_=>?_) rfl λ_=>?_))
  ·refine Ld.mk (v:=.map (some mb)) (.tail _ (xab _ (xad _ h7))) rfl ?_;refine hE.bM (k:=r) de (b:=mb) (by exact .head _) (by rw[vq,xac Zr]) ?_;exact ae.gtr ⟨rfl,rfl⟩
  rw[xak qx];refine Br.no (Ld.mk (v:=.map (some mb)) (.tail _ (xab _ (xad _ h7))) rfl ?_);refine hE.bt (k:=r) (b:=mb) (x:=()) de gQ rfl λkE jT Gz=>⟨_,.head _,?_⟩;rw[QK Zr]at Gz;refine Ld.mk (v:=ptr kp) (.tail _ (xab _ (xad _ h1))) rfl ?_;refine aa.eq (args:=#[ptr kp,u32 r]) (wS h hN) λji _=>?_;refine St.p (fC d) ?_;refine Ld.mk (v:=.func (.func Uv) #[] cap) (.tail _ (.tail _ (xab _ (xad _ h3)))) rfl ?_;refine az.q ?_;refine aL.of rfl hd.1 (aa.fn (.cons (.cons .left)) (by simpa using hd.2 V r d G hN hP) ?_);rintro v G1 ⟨rfl,hP1⟩;refine Ld.mk (v:=.func (.func 291) #[] #[ptr b7,ptr b1,ptr b3,ptr BB]) (.tail _ (.tail _ (xab _ (xad _ h10)))) rfl ?_;refine Ld.f (v:=u32 d.lo) (aL.of rfl zK ?_);have af8:(V++[r]).Nodup:=xa2.2 ⟨fc,by simp,λa ha b hb e=>Zr (by rw[xaz.1 hb]at e;rwa [<-e])⟩;refine aa.fq (args:=#[u32 d.lo,ptr b7,ptr b1,ptr b3,ptr BB]) (ih d.lo kE jT (V++[r]) G1 zO hlo.1 af8 Gz hP1) ?_;rintro v H ⟨rfl,gV,iH,V2,G2,rfl,sW,hP2,w2⟩;refine Ld.mk (v:=.func (.func 291) #[] #[ptr b7,ptr b1,ptr b3,ptr BB]) (.tail _ (.tail _ (xab _ (xad _ h10)))) rfl ?_;refine Ld.f (v:=u32 d.hi) (aL.of rfl zK (aa.fq (args:=#[u32 d.hi,ptr b7,ptr b1,ptr b3,ptr BB]) (ih d.hi gV iH V2 G2 zO hhi.1 w2.nd sW hP2) ?_));rintro v H ⟨rfl,pg,qU,V3,G3,rfl,PW,hP3,w3⟩;have r2:r∈V2:=w2.sub r zI;refine aF.mk .tail ⟨rfl,pg,qU,V3,G3,rfl,PW,hP3,⟨w3.nd,λu hu=>w3.sub u (w2.sub u (xad _ hu)),.inr (w3.sub r r2),λu hu hn=>?_,λu hu hn=>?_⟩⟩
  ·by_cases V6:u∈V2
   ·by_cases Gr:u∈V++[r]
    ·rcases xan.1 Gr with h'|h'
     ·exact absurd h' hn
     rw[xaz.1 h'];exact⟨d,hN,w2.has.imp id (w3.sub _),w3.has⟩
    obtain⟨e,he,a,b⟩:=w2.shut u V6 Gr;exact⟨e,he,a.imp id (w3.sub _),b.imp id (w3.sub _)⟩
   exact w3.shut u hu V6
  by_cases V6:u∈V2
  ·by_cases Gr:u∈V++[r]
   ·rcases xan.1 Gr with h'|h'
    ·exact absurd h' hn
    exact .base (xaz.1 h')
   exact yV (Rc.lo (.base rfl) hN) (w2.rc u V6 Gr)
  exact yV (Rc.hi (.base rfl) hN) (w3.rc u hu V6)
theorem Ev(h:cc kp K S ord ah tr C)(hd:Xt Uv cap K P){r b:Nat}{X G:Hp}(hr:live K.N r)(hP:P [] G)(hm:(b,Obj.cells (ay .u32 [(r:Int)]) 110 zZ)∈X):
  Fc zQ 206 #[ptr kp,.slice (some ⟨b,0,none⟩) 1 1,.func (.func Uv) #[] cap] (G++(X++C)) (λv H=>v=.tuple #[]/\∃V G',H=G'++(X++C)/\P V G'/\V.Nodup/\OO K.N V/\(r<2\/r∈V)/\∀u∈V,Rc K.N (λq=>q=r) u):=by
 refine aE λg=>JG λb1 _ b3 _ mb _ b7 _=>?_;refine St.one (c':=#[.map (some mb)]) (by exact .head _) rfl zI rfl ?_;intro BB _;refine St.one (c':=#[.func (.func 291) #[] #[ptr b7,ptr b1,ptr b3,ptr BB]]) (by exact .head _) rfl zI rfl ?_;refine aR.mk ?_;obtain⟨Z,hZ⟩:∃Z:Hp,Z=(BB,Obj.cells #[.func (.func 291) #[] #[ptr b7,ptr b1,ptr b3,ptr BB]] 261 zZ)::(b7,.cells #[.map (some mb)] 351 zZ)::(b3,.cells #[.func (.func Uv) #[] cap] 267 zZ)::(b1,.cells #[ptr kp] 85 zZ)::X:=⟨_,rfl⟩;have PM:∀(e:Obj),List.Perm ((BB,Obj.cells #[.func (.func 291) #[] #[ptr b7,ptr b1,ptr b3,ptr BB]] 261 zZ)::(b7,.cells #[.map (some mb)] 351 zZ)::(mb,e)::(b3,.cells #[.func (.func Uv) #[] cap] 267 zZ)::(b1,.cells #[ptr kp] 85 zZ)::(G++(X++C))) ((mb,e)::(G++(Z++C))):=λe=>by
  rw[hZ];refine((List.Perm.cons _ (List.Perm.swap _ _ _)).trans (List.Perm.swap _ _ _)).trans (.cons _ ?_);have:∀(a b c d:Nat×Obj),(a::b::c::d::(G++(X++C))).Perm (G++(a::b::c::d::(X++C))):=λa b c d=>by
   have:=(xbe (l₁:=[a,b,c,d]) (l₂:=G)).append_right (X++C);simpa[xaj]using this
  exact this _ _ _ _
 refine⟨λvs H=>∃(i:Nat) (es:Array MapEntry) (ck:Nat) (V:zL) (G':Hp),vs=[i64 (i:Int)]/\H=(mb,.map es ck)::(G'++(Z++C))/\EK es ck V/\P V G'/\((i=0/\V=[])\/(i=1/\Walk K [] V r)),λvs _=>1-bJ vs 0,JE.of (.perm (PM _)) ⟨0,#[],0,[],G,rfl,rfl,aD.empty,hP,.inl ⟨rfl,rfl⟩⟩,?_⟩;rintro w H ⟨i,es,ck,V,G',⟨⟩,rfl,hE,hPV,hi⟩ gs;have mZ:∀{x:Nat×Obj},x∈Z->x∈(mb,Obj.map es ck)::(G'++(Z++C)):=λhx=>.tail _ (xab _ (xad _ hx));rcases hi with⟨rfl,rfl⟩|⟨rfl,hw⟩
 ·refine ae.eZ (b:=1) (Br.T (av.nat zD ?_));refine Ld.mk (v:=u32 r) (mZ (by rw[hZ];exact .tail _ (.tail _ (.tail _ (.tail _ hm))))) rfl ?_;refine Ld.mk (v:=.func (.func 291) #[] #[ptr b7,ptr b1,ptr b3,ptr BB]) (mZ (by rw[hZ];exact .head _)) rfl ?_;refine aL.of rfl zK (aa.fq (args:=#[u32 r,ptr b7,ptr b1,ptr b3,ptr BB]) (UD (Z:=Z) h hd (by rw[hZ];exact .tail _ (.head _)) (by rw[hZ];exact .tail _ (.tail _ (.tail _ (.head _)))) (by rw[hZ];exact .tail _ (.tail _ (.head _))) (by rw[hZ];exact .head _) K.n r es ck [] G' (xdx _ _) hr List.nodup_nil hE hPV) ?_);rintro v H ⟨rfl,gV,iH,V2,G2,rfl,sW,hP2,w2⟩;exact ae.inc (a:=0) (aC.mk ⟨1,gV,iH,V2,G2,rfl,rfl,sW,hP2,.inr ⟨rfl,w2⟩⟩ (by simp only[bJ];decide))
 refine ae.eZ (b:=1) (Br.F (aF.mk ?_ ⟨rfl,V,G',rfl,hPV,hw.nd,λu hu=>hw.shut u hu zI,hw.has,λu hu=>hw.rc u hu zI⟩));rw[hZ];exact .skip (.c8 (.skip (.skip (.skip .tail))) _)
theorem Bq(h:cc kp K S ord ah tr C)(b6:Nat):Xt 209 #[ptr b6] K (λV G=>∃m:Nat,G=[(b6,.cells #[u64 m] 33 zZ)]/\m<18446744073709551616/\∀v,m.testBit v=true↔∃u∈V,∃d,K.N u=some d/\d.v=v):=by
 refine⟨by kernel_rfl,?_⟩;rintro V r d G hN ⟨m,rfl,hm,hv⟩;have hn:=h.bg.lY;have lj:=h.ok.mid.var hN;refine aE λg=>JD λb1 _=>?_;refine DR.of (.refl _) (Ld.mk (v:=u64 m) (.tail _ (.head _)) rfl ?_);refine Ld.f (v:=i64 (d.v:Int)) (ae.kW (a:=1) ?_);have e:(1<<<d.v)%18446744073709551616=2^d.v:=by
  rw[xco,xdm];exact xbc (xaN (xbk zD (show d.v<64 by omega)) zD)
 rw[e];have h2:2^d.v<18446744073709551616:=xaN (xbk zD (show d.v<64 by omega)) zD;refine ae.C9 (by simpa[bA]using hm) (by simpa[bA]using h2) λF=>?_;refine St.one (c':=#[u64 (m|||2^d.v)]) (by exact .tail (.head _)) rfl zI rfl ?_;refine aF.mk .tail ⟨rfl,_,rfl,xbF (n:=64) hm h2,λv=>?_⟩;rw[xb1,xbq,hv,xbB,xaJ];constructor
 ·rintro(⟨u,hu,e,he,Gy⟩|rfl)
  ·exact⟨u,xad _ hu,e,he,Gy⟩
  exact⟨r,by simp,d,hN,rfl⟩
 rintro⟨u,hu,e,he,Gy⟩;rcases xan.1 hu with hu|hu
 ·exact .inl ⟨u,hu,e,he,Gy⟩
 rw[xaz.1 hu,hN]at he;cases he;exact .inr Gy
def Xi(f:ax.Fn)(m:Nat):Prop:=m<18446744073709551616/\∀v,m.testBit v=true↔cG f v
theorem Ej(h:cc kp K S ord ah tr C){r:Nat}(hr:live K.N r):
  Rd zQ 149 #[ptr kp,u32 r] C (λv=>∃m,Xi (S r) m/\v=.tuple #[u64 m,i64 0]):=by
 refine aE λg=>Ko (au.int (e:=110) zK zK zK λbx=>?_);refine aa.eh .here (wV (X:=[(bx,_)]) h (by exact .head _) hr) (ae.cO (Br.F λb6 _=>(St.one (c':=#[u64 0]) (by exact .head _) rfl zI rfl ?_)));refine au.int (e:=110) zK zK zK λby'=>?_;refine aa.pre (H':=[(b6,Obj.cells #[u64 0] 33 zZ)]++([(by',Obj.cells (ay .u32 [(r:Int)]) 110 zZ),(bx,Obj.cells (ay .u32 [(r:Int)]) 110 zZ)]++C)) (.perm (.swap _ _ _)) ?_;refine aa.fn .here (Ev (P:=λV G=>∃m:Nat,G=[(b6,.cells #[u64 m] 33 zZ)]/\m<18446744073709551616/\∀v,m.testBit v=true↔∃u∈V,∃d,K.N u=some d/\d.v=v) h (Bq h b6) hr ⟨0,rfl,by decide,λv=>by simp⟩ (by exact .head _)) ?_;rintro v H ⟨rfl,V,G,rfl,⟨m,rfl,hm,hv⟩,fc,hsh,Zr,hrc⟩;refine Ld.q ?_;refine br.mk (.skip (.skip .tail)) ⟨m,⟨hm,λv=>?_⟩,rfl⟩;rw[hv,ML h.ok.wf h.ok.lv h.ok.mid.int hsh Zr hrc]
theorem Ot(b4:Nat):Xt 207 #[ptr b4] K (λV G=>∃x:Int,G=[(b4,.cells #[i64 x] 3 zZ)]/\(V.length<4611686018427387904->x=V.length)):=by
 refine⟨by kernel_rfl,?_⟩;rintro V r d G hN ⟨x,rfl,hx⟩;refine aE λg=>JF λb1 _=>?_;refine Ld.mk (v:=i64 x) (.tail _ (.head _)) rfl ?_;refine ae.add (St.one (c':=#[i64 (IntKind.i64.wrap (x+1))]) (by exact .tail (.head _)) rfl zI rfl ?_);refine aF.mk .tail ⟨rfl,_,rfl,λhl=>?_⟩;rw[xaf,xb3]at hl⊢;rw[hx zO,wrap_i64 zO];omega
theorem Tq(h:cc kp K S ord ah tr C){r b:Nat}{X:Hp}(hr:live K.N r)(hm:(b,Obj.cells (ay .u32 [(r:Int)]) 110 zZ)∈X):
  Rd zQ 147 #[ptr kp,.slice (some ⟨b,0,none⟩) 1 1] (X++C) (· =.tuple #[i64 ((sz K.n ord (λg=>g=S r):Nat):Int),i64 0]):=by
 refine aE λg=>Kp (aa.eq (wV (X:=X) h hm hr) (ae.cO (Br.F ?_)));intro b4 _;refine St.one (c':=#[i64 0]) (by exact .head _) rfl zI rfl ?_;refine aa.fn (C:=[(b4,Obj.cells #[i64 0] 3 zZ)]++(X++C)) .here (Ev (P:=λV G=>∃x:Int,G=[(b4,.cells #[i64 x] 3 zZ)]/\(V.length<4611686018427387904->x=V.length)) h (Ot b4) hr ⟨0,rfl,λ_=>rfl⟩ hm) ?_;rintro v H ⟨rfl,V,G,rfl,⟨x,rfl,hx⟩,fc,hsh,Zr,hrc⟩;refine Ld.q ?_;refine br.mk .tail ?_;have hc:=UE h.ok.wf h.ok.lv h.od h.ok.mid.int (R:=λq=>q=r) (λq hq=>by rw[hq];exact hr) hsh (λq hq=>by rw[hq];exact Zr) hrc fc;have hlen:V.length<=1048576:=by
  have:∀u∈V,u∈List.range 1048576:=λu hu=>by
   obtain⟨d,hd,_⟩:=hsh u hu;exact xaM.2 (h.bL (.inr ⟨d,hd⟩))
  have:=cy fc this;rwa [xaK]at this
 rw[hx zO,<-Lb hc];have e:Fs S (λq=>q=r)=λg=>g=S r:=funext λg=>propext ⟨λ⟨q,hq,e⟩=>by rw[e,hq],λe=>⟨r,rfl,e⟩⟩;rw[e];rfl
end
end
section
open ax
section
variable {C:Hp}
def Tl(p:Bool)(v:zV):Prop:=∃(n:Nat) (b:Bool),n<18446744073709551616/\v=.agg [u64 n,.bool b].toArray/\(b||decide (n≠0))=p
theorem pZ(n:Nat)(b:Bool):∀u∈[u64 n,Value.bool b],u.oneCell'=true:=λu hu=>by
 rcases xal.1 hu with rfl|hu
 ·rfl
 rw[xaz.1 hu];rfl
theorem Tl.no:Tl false (.agg #[u64 0,.bool false]):=⟨0,false,by decide,rfl,rfl⟩
theorem Tl.yes:Tl true (.agg #[u64 1,.bool false]):=⟨1,false,by decide,rfl,rfl⟩
theorem yL{p:Bool}{v:zV}(h:Tl p v):Rd zQ 295 #[v,u64 0] C (· =.bool p):=by
 obtain⟨n,b,hn,rfl,hp⟩:=h;refine aE λg=>IP λb1 _=>?_;refine Ld.f (v:=.bool b) (cm.or (a:=b) (decide (n≠0)) (λ_=>?_) rfl λ_=>?_)
 ·exact Ld.f (v:=u64 n) (ae.nq (b:=0) ⟨rfl,by rw[xb8.2 (show 0<n↔n≠0 by omega)]⟩)
 rw[hp];exact br.mk .tail rfl
theorem Cj{p q:Bool}{v w:zV}(h:Tl p v)(h':Tl q w):Rd zQ 365 #[v,w] C (Tl (p||q)):=by
 obtain⟨n,b,hn,rfl,hp⟩:=h;obtain⟨m,d,hm,rfl,hq⟩:=h';refine aE λg=>HV λb1 _ b3 _ b5 _=>?_;refine Ld.f (v:=u64 n) (Ld.f (v:=u64 m) (ae.ad1 (Ld.f (v:=.bool b) (cm.or (a:=b) d (λ_=>?_) rfl λ_=>?_))))
 ·exact Ld.f (v:=.bool d) (⟨rfl,rfl⟩)
 refine cm.or (a:=b||d) (decide ((n+m)%18446744073709551616<n)) (λ_=>?_) rfl λ_=>?_
 ·refine Ld.f (v:=u64 n) (ae.eZ ⟨rfl,rfl⟩)
 refine Build.mk (cs:=[u64 ((n+m)%18446744073709551616),.bool (b||d||decide ((n+m)%18446744073709551616<n))]) zK ?_;refine St.p (r:=[u64 ((n+m)%18446744073709551616),.bool (b||d||decide ((n+m)%18446744073709551616<n))]) (pZ _ _) ?_;refine az.q ?_;refine br.mk (.skip (.skip .tail)) ⟨_,_,xbG _ zD,rfl,?_⟩;rw[<-hp,<-hq];cases b<;>cases d<;>simp only[Bool.true_or,xdM,xdA];rw[<-xa8,<-xa8];exact xb8.2 zO
theorem MT{p:Bool}{v:zV}(h:Tl p v)(k:Nat):Rd zQ 363 #[v,i64 (k:Int)] C (Tl p):=by
 obtain⟨n,b,hn,rfl,hp⟩:=h;refine aE λg=>HW λb1 _ b3 _=>?_;refine ae.dJ (b:=0) (cm.or (a:=decide (k=0)) (decide (n=0)) (λ_=>?_) rfl λ_=>?_)
 ·exact Ld.f (v:=u64 n) (ae.dJ (b:=0) ⟨rfl,rfl⟩)
 refine Br.mk (λhb=>?_) (λhb=>?_)
 ·refine az.whole (r:=[u64 n,.bool b]) (T:=356) (fz:=(0,0)) (by exact .tail _ (.head _)) rfl ?_;refine St.p (r:=[u64 n,.bool b]) (pZ _ _) ?_;refine az.q ?_;exact br.mk (.skip .tail) ⟨n,b,hn,rfl,hp⟩
 rw[<-xa8]at hb;have hb:=xdh hb;refine Ld.f (v:=u64 n) (ae.kW λJ h17=>?_);have fin:∀x:Bool,(x||decide ((n<<<k)%18446744073709551616≠0))=true->J [] ((b3,.cells [u64 ((n<<<k)%18446744073709551616),.bool x].toArray 356 zZ)::(b1,.cells (Value.cells (.agg [u64 n,.bool b].toArray)) 356 zZ)::C):=λx hx=>h17 _ λ_=>by
  refine az.q ?_;refine br.mk (.skip .tail) ⟨_,x,xbG _ zD,rfl,?_⟩;rw[hx,<-hp];have:decide (n≠0)=true:=xam zO;rw[this,xdM]
 refine DR.of (.refl _) (ae.dJ (b:=0) (Br.mk (λhz=>?_) (λhz=>?_)))
 ·refine Build.mk (cs:=[u64 ((n<<<k)%18446744073709551616),.bool true]) zK λF=>?_;exact St.p (r:=[u64 ((n<<<k)%18446744073709551616),.bool true]) (pZ _ _) (JE.mk (fin true rfl))
 refine ae.ic (xbG _ zD) (Ld.f (v:=u64 n) (ae.xU (aM.mk (Build.mk (cs:=[u64 ((n<<<k)%18446744073709551616),.bool (decide (((n<<<k)%18446744073709551616)>>>k≠n))]) zK λF=>?_))));refine St.p (r:=[u64 ((n<<<k)%18446744073709551616),.bool (decide (((n<<<k)%18446744073709551616)>>>k≠n))]) (pZ _ _) (JE.mk (fin _ ?_));rw[xam (p:=(n<<<k)%18446744073709551616≠0) (xdh hz),xdM]
end
section
variable {kp d nm n f F V:Nat} {kC:zV} {K:Kd} {S:Nat->ax.Fn} {ord ah tr:zL} {C Z:Hp}
abbrev Ff(n f nm:Nat)(kC:zV)(F V:Nat):Array zV:=#[i64 (n:Int),u32 f,.map (some nm),kC,u64 F,u64 V]
theorem KZ{v b:Nat}(hl:kC.oneCell'=true)(hv:v<64)(hb:b<=1)(hF:F<18446744073709551616)(hV:V<18446744073709551616):
  Fc zQ 296 #[ptr d,i64 (v:Int),u64 b] ((d,.cells (Ff n f nm kC F V) 361 zZ)::C) (λw H=>w=.tuple #[]/\∃F' V',H=(d,.cells (Ff n f nm kC F' V') 361 zZ)::C/\F'<18446744073709551616/\V'<18446744073709551616/\
   (∀j,F'.testBit j=(F.testBit j||decide (j=v)))/\∀j,V'.testBit j=if j=v then decide (b=1)else V.testBit j):=by
 have e1:(1<<<v)%18446744073709551616=2^v:=by
  rw[xco,xdm];exact xbc (xaN (xbk zD hv) zD)
 have h2:2^v<18446744073709551616:=xaN (xbk zD hv) zD;have eb:(b<<<v)%18446744073709551616=b*2^v:=by
  rw[xco];refine xbc (xau (xaZ _ hb) zO)
 have rP:b*2^v<18446744073709551616:=xau (xaZ _ hb) zO;have hVa:iJ V (2^v)<18446744073709551616:=xau (fH _ _) hV;refine aE λg=>IN (DR.of (.refl _) (Ld.n (v:=u64 F) ?_));refine ae.kW (a:=1) ?_;rw[e1];refine ae.C9 (by simpa[bA]using hF) (by simpa[bA]using h2) (.ptr (.mk ?_));intro G;refine St.one (c':=Ff n f nm kC (F|||2^v) V) (.head _) rfl zI rfl ?_;refine DR.of (.refl _) (Ld.n (v:=u64 V) (ae.kW (a:=1) ?_));rw[e1];refine ae.pV (by simpa[bA]using hV) (by simpa[bA]using h2) (ae.kW ?_);rw[eb];refine ae.C9 (by simpa[bA]using hVa) (by simpa[bA]using rP) (.ptr (.mk ?_));intro G;refine St.one (c':=Ff n f nm kC (F|||2^v) (iJ V (2^v)|||b*2^v)) (.head _) rfl zI rfl ?_;refine aF.mk (.refl _) ⟨rfl,_,_,rfl,xbF (n:=64) hF h2,xbF (n:=64) hVa rP,λj=>?_,λj=>?_⟩
 ·rw[xb1,xbB];congr 1;exact xb8.2 eq_comm
 rw[xb1,cP,xbB];have:b=0\/b=1:=by omega
 by_cases e:j=v
 ·rw[xae e,e,xam rfl];rcases this with rfl|rfl
  ·simp
  simp[xbB]
 rw[xac e,xak (xbb e)];rcases this with rfl|rfl
 ·simp
 rw[xdm,xbB,xak (xbb e)];simp
structure Fal(n:Nat)(ns:zL):Prop where
 len:ns.length=n+1
 le:∀a,a<=n->ns.getD a 0<=n+1
 step:∀a,a<n->ns.getD (a+1) 0<=ns.getD a 0
theorem Fal.mono{ns:zL}(h:Fal n ns){a:Nat}:∀k,a+k<=n->ns.getD (a+k) 0<=ns.getD a 0
 |0,_=>xai _
 |k+1,hk=>xbS (h.step (a+k) zO) (Fal.mono h k zO)
theorem Qb{ls:zL}(hd:(d,Obj.cells (Ff n f nm kC F V) 361 zZ)∈Z)(hL:dF .i64 Z kC (iw ls))(hlen:ls.length=n)(hn:n<=64)(hlt:∀l∈ls,l<n)(hF:F<18446744073709551616):
  Fc zQ 360 #[ptr d] Z (λv H=>∃b ns,Fal n ns/\v=.slice (some ⟨b,0,none⟩) (n+1) (n+1)/\H=(b,.cells (ay .i64 (iw ns)) 3 zZ)::Z):=by
 refine aE λg=>HZ (Ld.v hd ?_);refine ae.inc (cZ.ints zO zO λb=>?_);refine Ld.v (.tail _ hd) ?_;refine hL.bP ?_;rw[aq,hlen];have z0:List.replicate (n+1) (0:Int)=iw (List.replicate (n+1) 0):=by simp[iw]
 rw[z0];refine⟨λvs H=>∃(j:Nat) (ns:zL),vs=[i64 (j:Int)]/\j<=n/\H=(b,.cells (ay .i64 (iw ns)) 3 zZ)::Z/\ns.length=n+1/\∀a,ns.getD a 0<=1,λvs _=>n-bJ vs 0,JE.mk ⟨0,_,rfl,by omega,rfl,by simp,λa=>?_⟩,?_⟩
 ·by_cases ha:a<n+1
  ·simp[List.getD,ha]
  simp[List.getD,ha]
 rintro w H ⟨j,ns,⟨⟩,hj,rfl,NX,h1⟩ gs;refine ae.eZ (Br.dec (λgp=>?_) (λhge=>?_))
 ·intro J hJ;have back:∀ns':zL,ns'.length=n+1->(∀a,ns'.getD a 0<=1)->J [] ((b,.cells (ay .i64 (iw ns')) 3 zZ)::Z):=λns' hl' sX=>hJ _ λ_=>by
   exact ae.inc (aC.mk ⟨j+1,ns',rfl,by omega,rfl,hl',sX⟩ (by simp only[bJ];omega))
  have hlj:j<ls.length:=by omega
  refine hL.ld (cL (xaa hlj)) (λ_ h=>.tail _ h) ?_;refine Ld.v (.tail _ hd) ?_;refine ae.ic (by simpa[bA]using hF) (ae.jj (by simp[bA];exact xau (xbo _ _) hF) zD (ae.dJ (b:=0) (Br.mk (λ_=>?_) (λ_=>JE.mk (back ns NX h1)))));have hlv:=hlt ls[j] (xaF hlj);refine av.nat zO ?_;refine St.ints (.head _) (by rw[aq];omega) ?_;rw[show((1:Int))=((1:Nat):Int)from rfl,fj];refine JE.mk (back _ (by simpa using NX) λa=>?_);rw[List.getD,xbr];split
  ·split
   ·exact xai _
   exact xaO _
  exact h1 a
 refine Ld.v (.tail _ hd) ?_;refine ae.lJ (c:=(n:Int) -1) rfl zO ?_;refine⟨λvs H=>∃(j:Nat) (ns:zL),vs=[i64 ((j:Int) -1)]/\j<=n/\H=(b,.cells (ay .i64 (iw ns)) 3 zZ)::Z/\ns.length=n+1/\(∀a,a<j->ns.getD a 0<=1)/\(∀a,j<=a->a<=n->ns.getD a 0<=n+1-a)/\∀a,j<=a->a<n->ns.getD (a+1) 0<=ns.getD a 0,
  λvs _=>match vs with| [.int _ q]=>(q+1).toNat|_=>0,JE.mk ⟨n,ns,rfl,xai _,rfl,NX,λa _=>h1 a,λa h h'=>xbS (h1 a) zO,λa h h'=>by omega⟩,?_⟩
 rintro w H ⟨j,ns,⟨⟩,hj,rfl,NX,g1,g2,g3⟩ gs;refine ae.geq (Br.dec (λhge=>?_) (λgp=>?_))
 ·obtain⟨i,rfl⟩:∃i,j=i+1:=⟨j-1,by omega⟩;have ei:(((i+1:Nat):Int) -1)=(i:Int):=by omega
  rw[ei];refine DR.of (.refl _) ?_;have hB:dF .i64 ((b,Obj.cells (ay .i64 (iw ns)) 3 zZ)::Z) (.slice (some ⟨b,0,none⟩) (iw ns).length (n+1)) (iw ns):=dF.block (.head _) (by rw[aq];omega);rw[aq,NX]at hB;have a1:=g1 i zO;have a2:=g2 (i+1) zO zO;refine hB.ld (bI zO) (λ_ h=>h) (ae.inc (hB.ld (bI zO) (λ_ h=>h) (ae.fI (av.nat zO ?_))));intro G;refine St.ints (.head _) (by rw[aq];omega) ?_;rw[fj];refine ae.lJ (c:=(i:Int) -1) rfl zO ?_;have get:∀a,(ns.set i (ns.getD i 0+ns.getD (i+1) 0)).getD a 0=if a=i then ns.getD i 0+ns.getD (i+1) 0 else ns.getD a 0:=λa=>by
   rw[List.getD,xbr];by_cases e:i=a
   ·rw[xae e,xae zO,xae e.symm];rfl
   rw[xac e,xac (xbb e)];rfl
  refine aC.mk ⟨i,_,rfl,by omega,rfl,by simpa using NX,λa ha=>?_,λa ha hn'=>?_,λa ha hn'=>?_⟩ ?_
  ·rw[get,xac zO];exact g1 a zO
  ·rw[get];split
   ·subst a;omega
   exact g2 a zO hn'
  ·rw[get,get];rw[xac (show a+1≠i by omega)];split
   ·subst a;omega
   exact g3 a zO hn'
  show((i:Int) -1+1).toNat<((i:Int)+1).toNat;omega
 obtain rfl:j=0:=by omega
 exact aF.mk (.refl _) ⟨b,ns,⟨NX,λa ha=>xbS (g2 a (xaO _) ha) zO,λa ha=>g3 a (xaO _) ha⟩,rfl,rfl⟩
end
section
variable {d0 b1 b8 lq xf uB E8 bf kb nm n f F V B5:Nat} {kC:zV} {K:Kd} {S:Nat->ax.Fn} {ah ls ns:zL} {B4:Array MapEntry} {m:List (Nat×Nd)} {Z:Hp}
def ag(n F V x:Nat):Prop:=∀j,j<n->F.testBit j=true->x.testBit j=V.testBit j
noncomputable def qT(n F V:Nat)(g:ax.Fn):Bool:= @decide (∃x,ag n F V x/\g x=true) (Classical.propDecidable _)
theorem qo{g:ax.Fn}:qT n F V g=true↔∃x,ag n F V x/\g x=true:= @decide_eq_true_iff _ (Classical.propDecidable _)
theorem Ve:qT n F V (λ_=>false)=false:=by
 cases h:qT n F V (λ_=>false)with
 |false=>rfl
 |true=>obtain⟨x,_,e⟩:=qo.1 h;cases e
theorem YL:qT n F V (λ_=>true)=true:=qo.2 ⟨V,λ_ _ _=>rfl,rfl⟩
theorem Af(h:Ok K S (lv ah)){r:Nat}{d:Nd}(hN:K.N r=some d)(x:Nat)(b:Bool):S d.lo (ak.aB x d.v b)=S d.lo x/\S d.hi (ak.aB x d.v b)=S d.hi x:=by
 have e (c:Bool):=(gh h.wf h.lv h.mid.int (r:=r) (.inr ⟨d,hN⟩) (h.mid.var hN) (by rw[an hN];exact xai _) c);have e1:=e false;have e2:=e true;rw[(kR hN).1]at e1;rw[(kR hN).2]at e2;constructor
 ·rw[e1.1,e1.1,ax.jQ]
 rw[e2.1,e2.1,ax.jQ]
theorem Vf(h:Ok K S (lv ah)){r:Nat}{d:Nd}(hN:K.N r=some d):
  qT K.n F V (S r)=((!F.testBit d.v|| !V.testBit d.v) &&qT K.n F V (S d.lo)||(!F.testBit d.v||V.testBit d.v) &&qT K.n F V (S d.hi)):=by
 have nd:=h.mid.int.node hN;have put:∀(x:Nat) (b:Bool),ag K.n F V x->(F.testBit d.v=true->V.testBit d.v=b)->ag K.n F V (ak.aB x d.v b):=λx b hx hb j hj hF=>by
  rw[ak.aj];split
  ·subst j;exact(hb hF).symm
  exact hx j hj hF
 have hv:=h.mid.var hN;rw[xbU,xbq,xay,xay,qo,qo,qo];constructor
 ·rintro⟨x,hx,hS⟩;have q:=nd x;have hxv:=hx d.v hv;cases hb:x.testBit d.v with
  |true=>
   rw[hb,xae rfl]at q;refine .inr ⟨?_,x,hx,by rw[<-q];exact hS⟩;cases hF:F.testBit d.v
   ·rfl
   rw[<-hxv hF,hb];rfl
  |false=>
   rw[hb,xac zD]at q;refine .inl ⟨?_,x,hx,by rw[<-q];exact hS⟩;cases hF:F.testBit d.v
   ·rfl
   rw[<-hxv hF,hb];rfl
 rintro(⟨hc,x,hx,hS⟩|⟨hc,x,hx,hS⟩)
 ·refine⟨ak.aB x d.v false,put x false hx λhF=>?_,?_⟩
  ·rw[hF]at hc;simpa using hc
  rw[nd,ak.aj,xae rfl,xac zD,(Af h hN x false).1];exact hS
 refine⟨ak.aB x d.v true,put x true hx λhF=>?_,?_⟩
 ·rw[hF]at hc;simpa using hc
 rw[nd,ak.aj,xae rfl,xae rfl,(Af h hN x true).2];exact hS
abbrev OP(es:Array MapEntry)(ck:Nat)(m:List (Nat×Nd)):Prop:=aD kr (λv (d:Nd)=>v=.agg (bB d).toArray) es ck m
structure Xh(K:Kd)(S:Nat->ax.Fn)(ah ls:zL)(m:List (Nat×Nd))(n f F V d0 b1 nm:Nat)(kC:zV)(B4:Array MapEntry)(B5:Nat)(Z:Hp):Prop where
 ok:Ok K S (lv ah)
 lY:K.n<=64
 hn:n=K.n
 d:(d0,Obj.cells (Ff n f nm kC F V) 361 zZ)∈Z
 hnm:(nm,Obj.map B4 B5)∈Z
 dK:OP B4 B5 m
 cov:∀u e,Rc K.N (λq=>q=f) u->K.N u=some e->aG m u=some e
 L:dF .i64 Z kC (iw ls)
 get:∀v,v<n->ls[v]? =some (lv ah v)
 F64:F<18446744073709551616
 V64:V<18446744073709551616
structure TcH(n d0 b1 b8 lq xf uB E8 bf kb:Nat)(ns:zL)(Z:Hp):Prop where
 h1:(b1,Obj.cells #[ptr d0] 353 zZ)∈Z
 h8:(b8,Obj.cells #[.slice (some ⟨bf,0,none⟩) (n+1) (n+1)] 43 zZ)∈Z
 hf:(bf,Obj.cells (ay .i64 (iw ns)) 3 zZ)∈Z
 h17:(lq,Obj.cells #[.map (some kb)] 419 zZ)∈Z
 h20:(xf,Obj.cells #[.func (.func 361) #[] #[ptr b1]] 260 zZ)∈Z
 h23:(uB,Obj.cells #[.func (.func 364) #[] #[ptr lq,ptr b1,ptr E8]] 420 zZ)∈Z
 h25:(E8,Obj.cells #[.func (.func 362) #[] #[ptr uB,ptr b8,ptr xf]] 422 zZ)∈Z
 fal:Fal n ns
theorem MM(h:Xh K S ah ls m n f F V d0 b1 nm kC B4 B5 Z)(h1:(b1,Obj.cells #[ptr d0] 353 zZ)∈Z){r:Nat}(hr:live K.N r)(hR:Rc K.N (λq=>q=f) r):
  Rd zQ 361 #[u32 r,ptr b1] Z (· =i64 ((dep K.n (lv ah) K.N r:Nat):Int)):=by
 refine aE λg=>HY (ae.BS (b:=1) (Br.dec (λh2=>?_) (λh2=>?_)))
 ·refine Ld.mk h1 rfl ?_;refine Ld.v (v:=i64 (n:Int)) h.d ?_;refine br.mk (.refl _) ?_;have h0:K.N r=none:=by
   cases hN:K.N r with
   |none=>rfl
   |some d=>have:=h.ok.mid.two hN;omega
  rw[aU h0,h.hn]
 obtain⟨d,hN⟩:∃d,K.N r=some d:=by
  rcases hr with hr|hr
  ·omega
  exact hr
 have lj:=h.ok.mid.var hN;refine Ld.mk h1 rfl ?_;refine Ld.v h.d ?_;refine Ld.mk h1 rfl ?_;refine Ld.v h.d ?_;refine h.dK.hit (k:=r) de (b:=nm) h.hnm (h.cov r d hR hN) λv e=>?_;subst e;refine B7.mk (off:=0) (cs:=(bB d).toArray) (v:=i64 (d.v:Int)) rfl ?_;refine h.L.ld (cL (h.get d.v (by rw[h.hn];exact lj))) (λ_ h=>h) ?_;refine br.mk (.refl _) ?_;rw[an hN]
structure KnT(q:Nat->Bool)(es:Array MapEntry)(ck:Nat)(mm:List (Nat×Bool)):Prop where
 dK:aD kr (λv (x:Bool)=>Tl x v) es ck mm
 val:∀r x,aG mm r=some x->x=q r
 low:∀r,r<2->aG mm r≠none
abbrev Xv(q:Nat->Bool)(kb:Nat)(Z:Hp)(r:Nat):zV->Hp->Prop:=λv H=>Tl (q r) v/\∃es' bD Vy,H=(kb,.map es' bD)::Z/\KnT q es' bD Vy
theorem oH{p:Bool}{v:zV}(h:Tl p v):∃r:List zV,v=.agg r.toArray/\r.length=2/\∀u∈r,u.oneCell'=true:=by
 obtain⟨n,b,_,rfl,_⟩:=h;exact⟨_,rfl,rfl,pZ _ _⟩
theorem sn(h:Xh K S ah ls m n f F V d0 b1 nm kC B4 B5 Z)(t:TcH n d0 b1 b8 lq xf uB E8 bf kb ns Z){q:Nat->Bool}{r l:Nat}(hr:live K.N r)(hR:Rc K.N (λq=>q=f) r)(hl:l<=dep K.n (lv ah) K.N r){es:Array MapEntry}{ck:Nat}
 (hc:Fc zQ 364 #[u32 r,ptr lq,ptr b1,ptr E8] ((kb,.map es ck)::Z) (Xv q kb Z r)):
  Fc zQ 362 #[u32 r,i64 (l:Int),ptr uB,ptr b8,ptr xf] ((kb,.map es ck)::Z) (Xv q kb Z r):=by
 have hdl:=h.ok.wf.iG h.ok.lv r;have BU:=t.fal.len;have hB:dF .i64 Z (.slice (some ⟨bf,0,none⟩) (iw ns).length (n+1)) (iw ns):=dF.block t.hf (by rw[aq];omega);rw[aq,BU]at hB;have hn':=h.hn;have acB:=t.fal.mono (a:=l) (dep K.n (lv ah) K.N r-l) zO;rw[show l+(dep K.n (lv ah) K.N r-l)=dep K.n (lv ah) K.N r by omega]at acB;have hle:=t.fal.le l zO;have sR:=h.lY;refine aE λg=>HX λc1 _=>?_;refine DR.of (R:=Z) (.skip .tail) (Ld.mk t.h23 rfl ?_);refine Ld.mk t.h8 rfl ?_;refine hB.ld (bI zO) (λ_ h=>h) (Ld.mk t.h8 rfl ?_);refine Ld.mk t.h20 rfl ?_;intro G;refine aL.of rfl zK (aa.fq (args:=#[u32 r,ptr lq,ptr b1,ptr E8]) hc ?_);rintro v1 H ⟨hv1,kE,jT,mm1,rfl,uu⟩;refine⟨.skip .tail,Z,.skip .tail,.refl _,?_⟩;intro G;refine aL.of rfl zK (aa.eq (args:=#[u32 r,ptr b1]) (MM (Z:=Z) h t.h1 hr hR) (⟨.skip .tail,Z,.skip .tail,.refl _,?_⟩));refine hB.ld (bI zO) (λ_ h=>h) (ae.bY λG=>(aa.rq (MT (C:=Z) hv1 _) ?_));intro v2 hv2;intro G;have afO:=hv2;obtain⟨rr,rfl,xY,P1⟩:=oH hv2;refine St.p (r:=rr) P1 ?_ (hr:=xY);refine az.q ?_ (hr:=xY);exact aF.mk .tail ⟨afO,kE,jT,mm1,rfl,uu⟩
end
section
variable {d0 b1 b8 lq xf uB E8 bf kb nm n f F V B5:Nat} {kC:zV} {K:Kd} {S:Nat->ax.Fn} {ah ls ns:zL} {B4:Array MapEntry} {m:List (Nat×Nd)} {Z:Hp}
theorem vH(a k:Nat):decide ((a>>>k)%2=0)= !a.testBit k:=by
 rw[<-Bs];have:=Nat.mod_two_eq_zero_or_one (a>>>k);rcases this with e|e<;>rw[e]<;>rfl
theorem MN(h:Xh K S ah ls m n f F V d0 b1 nm kC B4 B5 Z)(t:TcH n d0 b1 b8 lq xf uB E8 bf kb ns Z):
  ∀(k r:Nat) (es:Array MapEntry) (ck:Nat) (mm:List (Nat×Bool)),K.n-dep K.n (lv ah) K.N r<=k->live K.N r->Rc K.N (λq=>q=f) r->KnT (λr=>qT K.n F V (S r)) es ck mm->
  Fc zQ 364 #[u32 r,ptr lq,ptr b1,ptr E8] ((kb,.map es ck)::Z) (Xv (λr=>qT K.n F V (S r)) kb Z r):=by
 have hit:∀{r:Nat} {es:Array MapEntry} {ck:Nat} {mm:List (Nat×Bool)} {x:Bool},KnT (λr=>qT K.n F V (S r)) es ck mm->aG mm r=some x->
   Fc zQ 364 #[u32 r,ptr lq,ptr b1,ptr E8] ((kb,.map es ck)::Z) (Xv (λr=>qT K.n F V (S r)) kb Z r):=by
  intro r es ck mm x hm hv;refine aE λg=>xw λc1 _=>?_;refine Ld.mk (v:=.map (some kb)) (.tail _ (.tail _ t.h17)) rfl ?_;refine hm.dK.hit (k:=r) de (b:=kb) (by exact .tail _ (.head _)) hv λv' e=>?_;have ex:=hm.val r x hv;have e':=e;obtain⟨rr,rfl,xY,P1⟩:=oH e;refine Ext.two λc7 _=>(St.p (r:=rr) P1 ?_ (hr:=xY));refine Br.yes (az.q ?_ (hr:=xY));refine St.p (r:=rr) P1 ?_ (hr:=xY);refine az.q ?_ (hr:=xY);exact aF.mk (.skip .tail) ⟨by show Tl (qT K.n F V (S r)) _;rw[show qT K.n F V (S r)=x from ex.symm];exact e',es,ck,mm,rfl,hm⟩
 intro k;induction k with
 |zero=>
  intro r es ck mm hk hr hR hm;have qx:r<2:=by
   cases hN:K.N r with
   |some d=>
    rw[an hN]at hk;have:=h.ok.lv.lt _ (h.ok.mid.var hN);omega
   |none=>
    rcases hr with hr|⟨d,e⟩
    ·exact hr
    rw[hN]at e;cases e
  cases hv:aG mm r with
  |none=>exact absurd hv (hm.low r qx)
  |some v=>exact hit hm hv
 |succ k ih=>
  intro r es ck mm hk hr hR hm;cases hv:aG mm r with
  |some v=>exact hit hm hv
  |none=>
  have qx:¬r<2:=λh2=>hm.low r h2 hv;obtain⟨d,hN⟩:∃d,K.N r=some d:=by
   rcases hr with hr|hr
   ·omega
   exact hr
  have hlo:=h.ok.wf.lo hN;have hhi:=h.ok.wf.hi hN;rw[an hN]at hk;have lj:=h.ok.mid.var hN;have hvl:=h.ok.lv.lt _ lj;have sR:=h.lY;have WG:=h.F64;have Wz:=h.V64;have qn:=Vf (F:=F) (V:=V) h.ok hN;refine aE λg=>xw λc1 _=>?_;refine Ld.mk (v:=.map (some kb)) (.tail _ (.tail _ t.h17)) rfl ?_;refine hm.dK.bM (k:=r) de (b:=kb) (by exact .tail _ (.head _)) hv ?_;refine Ext.two λc7 _=>(St.p (r:=[u64 0,.bool false]) (pZ _ _) (Br.no ?_));have up:∀{x y z:Nat×Obj} {l:List (Nat×Obj)},l=Z->∀{w},w∈Z->w∈x::y::z::l:=λe w hw=>by subst e;exact .tail _ (.tail _ (.tail _ hw))
  refine Ld.mk (v:=ptr d0) (.tail _ (.tail _ (.tail _ t.h1))) rfl ?_;refine Ld.v (v:=.map (some nm)) (.tail _ (.tail _ (.tail _ h.d))) ?_;refine h.dK.hit (k:=r) de (b:=nm) (.tail _ (.tail _ (.tail _ h.hnm))) (h.cov r d hR hN) λv e=>?_;subst e;intro c18 _;refine St.p (fC d) ?_;refine Ld.mk (v:=ptr d0) (.tail _ (.tail _ (.tail _ (.tail _ t.h1)))) rfl ?_;refine Ld.v (v:=kC) (.tail _ (.tail _ (.tail _ (.tail _ h.d)))) ?_;refine Ld.f (v:=i64 (d.v:Int)) (h.L.ld (cL (h.get d.v (by rw[h.hn];exact lj))) (λ_ h=>.tail _ (.tail _ (.tail _ (.tail _ h)))) ?_);refine ae.inc λc30 _=>?_;intro J32 PX;have last:∀(p:Bool) (t30:List zV) (es':Array MapEntry) (bD:Nat) (Vy:List (Nat×Bool)),Tl p (.agg t30.toArray)->t30.length=2->(∀u∈t30,u.oneCell'=true)->KnT (λr=>qT K.n F V (S r)) es' bD Vy->p=((!F.testBit d.v|| !V.testBit d.v) &&qT K.n F V (S d.lo))->
    J32 [] ((c30,.cells t30.toArray 356 zZ)::(c18,.cells (bB d).toArray 226 zZ)::(c7,.cells [u64 0,.bool false].toArray 356 zZ)::(c1,.cells #[u64 0,.bool false] 356 zZ)::(kb,.map es' bD)::Z):=by
   intro p t30 es' bD Vy hp xY P1 hm' ep;refine PX _ λ_=>?_;intro J35 h35;have fin:∀(p:Bool) (t30:List zV) (es':Array MapEntry) (bD:Nat) (Vy:List (Nat×Bool)),Tl p (.agg t30.toArray)->t30.length=2->(∀u∈t30,u.oneCell'=true)->KnT (λr=>qT K.n F V (S r)) es' bD Vy->p=qT K.n F V (S r)->
     J35 [] ((c30,.cells t30.toArray 356 zZ)::(c18,.cells (bB d).toArray 226 zZ)::(c7,.cells [u64 0,.bool false].toArray 356 zZ)::(c1,.cells #[u64 0,.bool false] 356 zZ)::(kb,.map es' bD)::Z):=by
    intro p t30 es' bD Vy hp xY P1 hm' ep;refine h35 _ λ_=>?_;refine Ld.mk (v:=.map (some kb)) (.tail _ (.tail _ (.tail _ (.tail _ (.tail _ t.h17))))) rfl ?_;refine az.q ?_ (hr:=xY);refine hm'.dK.bt (k:=r) (b:=kb) (x:=p) de gQ hp λpg qU he=>⟨_,.tail (.tail (.tail (.tail (.head _)))),?_⟩;refine az.q ?_ (hr:=xY);refine St.p (r:=t30) P1 ?_ (hr:=xY);refine az.q ?_ (hr:=xY);refine aF.mk (.skip (.skip (.skip .tail))) ⟨by show Tl (qT K.n F V (S r)) _;rw[<-ep];exact hp,pg,qU,_,rfl,he,λr' x' nZ=>?_,λr' hr'=>?_⟩
    ·rw[bK]at nZ;split at nZ
     ·rename_i e;subst e;cases nZ;exact ep
     exact hm'.val r' x' nZ
    rw[bK];split
    ·simp
    exact hm'.low r' hr'
   refine Ld.mk (v:=ptr d0) (.tail _ (.tail _ (.tail _ (.tail _ (.tail _ t.h1))))) rfl ?_;refine Ld.v (v:=u64 F) (.tail _ (.tail _ (.tail _ (.tail _ (.tail _ h.d))))) ?_;refine Ld.f (v:=i64 (d.v:Int)) (ae.ic (by simpa[bA]using WG) (ae.jj (by simp[bA];exact xau (xbo _ _) WG) zD (ae.dJ (b:=0) ?_)));rw[xbT,vH];refine cm.or (a:= !F.testBit d.v) (V.testBit d.v) (λ_=>?_) rfl λ_=>?_
   ·refine Ld.mk (v:=ptr d0) (.tail _ (.tail _ (.tail _ (.tail _ (.tail _ t.h1))))) rfl ?_;refine Ld.v (v:=u64 V) (.tail _ (.tail _ (.tail _ (.tail _ (.tail _ h.d))))) ?_;refine Ld.f (v:=i64 (d.v:Int)) (ae.ic (by simpa[bA]using Wz) (ae.jj (by simp[bA];exact xau (xbo _ _) Wz) zD (ae.dJ (b:=1) ?_)));rw[xbT,Bs];exact⟨rfl,rfl⟩
   refine Br.mk (λhb=>?_) (λhb=>?_)
   ·refine DR.of (R:=(c30,.cells t30.toArray 356 zZ)::(c18,.cells (bB d).toArray 226 zZ)::Z) (.cons (.cons (.skip (.skip .tail)))) (az.q ?_ (hr:=xY));refine Ld.mk (v:=.func (.func 362) #[] #[ptr uB,ptr b8,ptr xf]) (.tail _ (.tail _ t.h25)) rfl ?_;refine Ld.f (v:=u32 d.hi) λG=>?_;refine aL.of rfl zK (aa.fq (args:=#[u32 d.hi,i64 ((lv ah d.v+1:Nat):Int),ptr uB,ptr b8,ptr xf]) (sn (Z:=Z) h t hhi.1 (.hi hR hN) zO (ih d.hi es' bD Vy zO hhi.1 (.hi hR hN) hm')) ?_);rintro v2 H ⟨hv2,gV,iH,mm2,rfl,me⟩;refine⟨.cons (.cons (.skip (.skip .tail))),?_⟩;intro G;refine aa.rq (Cj (C:=Z) hp hv2) ?_;intro v3 hv3;intro G;have Zk:=hv3;obtain⟨rr,rfl,h3l,h3o⟩:=oH hv3;refine St.p (r:=rr) h3o ?_ (hr:=h3l) (hs:=by simpa using xY);refine JE.mk (fin _ rr gV iH mm2 Zk h3l h3o me ?_);rw[ep,qn,hb,xcp]
   refine JE.mk (fin p t30 es' bD Vy hp xY P1 hm' ?_);rw[ep,qn,hb,xdN,xdy]
  refine Ld.mk (v:=ptr d0) (.tail _ (.tail _ (.tail _ (.tail _ (.tail _ t.h1))))) rfl ?_;refine Ld.v (v:=u64 F) (.tail _ (.tail _ (.tail _ (.tail _ (.tail _ h.d))))) ?_;refine Ld.f (v:=i64 (d.v:Int)) (ae.ic (by simpa[bA]using WG) (ae.jj (by simp[bA];exact xau (xbo _ _) WG) zD (ae.dJ (b:=0) ?_)));rw[xbT,vH];refine cm.or (a:= !F.testBit d.v) (!V.testBit d.v) (λ_=>?_) rfl λ_=>?_
  ·refine Ld.mk (v:=ptr d0) (.tail _ (.tail _ (.tail _ (.tail _ (.tail _ t.h1))))) rfl ?_;refine Ld.v (v:=u64 V) (.tail _ (.tail _ (.tail _ (.tail _ (.tail _ h.d))))) ?_;refine Ld.f (v:=i64 (d.v:Int)) (ae.ic (by simpa[bA]using Wz) (ae.jj (by simp[bA];exact xau (xbo _ _) Wz) zD (ae.dJ (b:=0) ?_)));rw[xbT,vH];exact⟨rfl,rfl⟩
  refine Br.mk (λhb=>?_) (λhb=>?_)
  ·refine DR.of (R:=(c30,.cells [u64 0,.bool false].toArray 356 zZ)::(c18,.cells (bB d).toArray 226 zZ)::Z) (.cons (.cons (.skip (.skip .tail)))) (az.q ?_);refine Ld.mk (v:=.func (.func 362) #[] #[ptr uB,ptr b8,ptr xf]) (.tail _ (.tail _ t.h25)) rfl ?_;refine Ld.f (v:=u32 d.lo) λG=>?_;refine aL.of rfl zK (aa.fq (args:=#[u32 d.lo,i64 ((lv ah d.v+1:Nat):Int),ptr uB,ptr b8,ptr xf]) (sn (Z:=Z) h t hlo.1 (.lo hR hN) zO (ih d.lo es ck mm zO hlo.1 (.lo hR hN) hm)) ?_);rintro v2 H ⟨hv2,gV,iH,mm2,rfl,me⟩;refine⟨.cons (.cons (.skip (.skip .tail))),?_⟩;intro G;refine aa.rq (Cj (C:=Z) Tl.no hv2) ?_;intro v3 hv3;intro G;have Zk:=hv3;obtain⟨rr,rfl,h3l,h3o⟩:=oH hv3;refine St.p (r:=rr) h3o ?_ (hr:=h3l);refine JE.mk (last _ rr gV iH mm2 Zk h3l h3o me ?_);rw[hb,xcp,xdA]
  refine JE.mk (last false [u64 0,.bool false] es ck mm Tl.no rfl (pZ _ _) hm ?_);rw[hb,xdN]
end
section
variable {d0 nm n f F V B5:Nat} {kC:zV} {K:Kd} {S:Nat->ax.Fn} {ah ls:zL} {B4:Array MapEntry} {m:List (Nat×Nd)} {Z Z':Hp}
theorem Xh.more{b b':Nat}(h:Xh K S ah ls m n f F V d0 b nm kC B4 B5 Z)(hs:∀x∈Z,x∈Z'):Xh K S ah ls m n f F V d0 b' nm kC B4 B5 Z':=
 ⟨h.ok,h.lY,h.hn,hs _ h.d,hs _ h.hnm,h.dK,h.cov,h.L.mono hs,h.get,h.F64,h.V64⟩
theorem yI{b:Nat}(h:Xh K S ah ls m n f F V d0 b nm kC B4 B5 Z)(hlen:ls.length=n)(hf:live K.N f):Rd zQ 294 #[ptr d0] Z (Tl (qT K.n F V (S f))):=by
 have sR:=h.lY;have hn:=h.hn;have hi:=h.ok.mid.int;have hlt:∀l∈ls,l<n:=λl hl=>by
  obtain⟨i,hi,e⟩:=xa9.1 hl;have q:=h.get i zO;rw[xaa hi,e]at q;cases q;rw[hn];exact h.ok.lv.lt _ zO
 refine aE λg=>IQ λb1 _ b3 _=>?_;refine Ld.q ?_;refine aa.fq (Qb (Z:=Z) h.d h.L hlen zO hlt h.F64) ?_;rintro v H ⟨bf,ns,agB,rfl,rfl⟩;intro b8 _;refine St.one (c':=#[.slice (some ⟨bf,0,none⟩) (n+1) (n+1)]) (by exact .head _) rfl zI rfl ?_;intro kb _;refine Build.mk (cs:=[u64 0,.bool false]) zK (aD.bt (ke:=kr) (vr:=λv (x:Bool)=>Tl x v) (k:=0) (b:=kb) (x:=false) de gQ aD.empty Tl.no λkE jT Gz=>⟨_,.head _,?_⟩);refine Build.mk (cs:=[u64 1,.bool false]) zK (aD.bt (ke:=kr) (vr:=λv (x:Bool)=>Tl x v) (k:=1) (b:=kb) (x:=true) de gQ Gz Tl.yes λgV iH Up=>⟨_,.head _,?_⟩);intro lq _;refine St.one (c':=#[.map (some kb)]) (by exact .head _) rfl zI rfl ?_;intro xf _;refine St.one (c':=#[.func (.func 361) #[] #[ptr b1]]) (by exact .head _) rfl zI rfl ?_;intro uB _ E8 _;refine St.one (c':=#[.func (.func 362) #[] #[ptr uB,ptr b8,ptr xf]]) (by exact .head _) rfl zI rfl ?_;refine St.one (c':=#[.func (.func 364) #[] #[ptr lq,ptr b1,ptr E8]]) (by exact .tail (.head _)) rfl zI rfl ?_;obtain⟨Y,hY⟩:∃Y:Hp,Y=(E8,Obj.cells #[.func (.func 362) #[] #[ptr uB,ptr b8,ptr xf]] 422 zZ)::(uB,.cells #[.func (.func 364) #[] #[ptr lq,ptr b1,ptr E8]] 420 zZ)::(xf,.cells #[.func (.func 361) #[] #[ptr b1]] 260 zZ)::(lq,.cells #[.map (some kb)] 419 zZ)::
  (b8,.cells #[.slice (some ⟨bf,0,none⟩) (n+1) (n+1)] 43 zZ)::(b3,.cells #[u64 0,.bool false] 356 zZ)::(b1,.cells #[ptr d0] 353 zZ)::(bf,.cells (ay .i64 (iw ns)) 3 zZ)::Z:=⟨_,rfl⟩
 have hYs:∀x∈Z,x∈Y:=λx hx=>by rw[hY];exact .tail _ (.tail _ (.tail _ (.tail _ (.tail _ (.tail _ (.tail _ (.tail _ hx)))))))
 have hvw:Xh K S ah ls m n f F V d0 b1 nm kC B4 B5 Y:=h.more hYs;have ht:TcH n d0 b1 b8 lq xf uB E8 bf kb ns Y:=by
  refine⟨?_,?_,?_,?_,?_,?_,?_,agB⟩<;>rw[hY]<;>simp
 have hk:KnT (λr=>qT K.n F V (S r)) gV iH [(0,false),(1,true)]:=by
  refine⟨Up,λr x hx=>?_,λr hr=>?_⟩
  ·unfold aG at hx;rw[xby,xby]at hx;by_cases e0:r=0
   ·subst e0;have:x=false:=by simpa using hx.symm
    rw[this,show S 0=λ_=>false from funext hi.zero];exact Ve.symm
   by_cases e1:r=1
   ·subst e1;have:x=true:=by simpa using hx.symm
    rw[this,show S 1=λ_=>true from funext hi.one];exact YL.symm
   simp[xbb e0,xbb e1]at hx
  have:r=0\/r=1:=by omega
  rcases this with rfl|rfl<;>simp[aG]
 refine DR.of (R:=(E8,Obj.cells #[.func (.func 362) #[] #[ptr uB,ptr b8,ptr xf]] 422 zZ)::(b1,.cells #[ptr d0] 353 zZ)::Z) (.cons (.skip (.skip (.skip (.skip (.skip (.skip (.cons .tail)))))))) (Ld.q ?_);refine Ld.q ?_;refine Ld.v (v:=u32 f) (.tail _ (.tail _ h.d)) ?_;intro G;refine aL.of rfl zK (aa.pre (H':=(kb,Obj.map gV iH)::Y) (by rw[hY];exact .perm (xaT (l₁:=[_,_,_,_]))) (aa.fn (args:=#[u32 f,i64 ((0:Nat):Int),ptr uB,ptr b8,ptr xf]) .here (sn hvw ht hf (.base rfl) (xaO _) (MN hvw ht K.n f gV iH _ (xdx _ _) hf (.base rfl) hk)) ?_));rintro v H ⟨hv,pg,qU,mm3,rfl,pM⟩;intro G;have nZ:=hv;obtain⟨rr,rfl,xY,P1⟩:=oH hv;rw[hY];refine St.p (r:=rr) P1 ?_ (hr:=xY);refine az.q ?_ (hr:=xY);exact br.mk (.skip (.skip (.skip (.skip (.skip (.skip (.skip (.skip .tail)))))))) nZ
end
section
variable {kp mb b1 b9 He OE n f:Nat} {kC:zV} {K:Kd} {S:Nat->ax.Fn} {ord ah tr:zL} {C Z:Hp}
theorem tJ(h:cc kp K S ord ah tr C){r:Nat}(hr:live K.N r):Rd zQ 292 #[ptr kp,u32 r] C (· =i64 (if r=0 then 10 else 0)):=by
 have hlt:=h.bL hr;refine aE λg=>IT (ae.aI (Br.no (aa.eq (args:=#[ptr kp,u32 r]) (iU h.rep zO) ?_)));rw[bX.2 hr];refine Ext.two λb6 _=>(St.p (aQ K.N r).2 ?_ (hr:=(aQ K.N r).1));refine ae.cO (Br.F (ae.dJ (b:=0) (Br.mk (λhb=>?_) (λhb=>?_))))
 ·rw[xae (xcd hb)];exact br.mk .tail rfl
 rw[xac (xdh hb)];exact br.mk .tail rfl
structure T5(K:Kd)(m m':List (Nat×Nd))(r:Nat):Prop where
 good:∀u d,aG m' u=some d->K.N u=some d
 sub:∀u,aG m u≠none->aG m' u≠none
 has:r<2\/aG m' r≠none
 shut:∀u,aG m' u≠none->aG m u=none->∃d,K.N u=some d/\(d.lo<2\/aG m' d.lo≠none)/\(d.hi<2\/aG m' d.hi≠none)
theorem T5.cov{m:List (Nat×Nd)}(h:T5 K [] m f)(h2:∀u d,K.N u=some d->2<=u):∀u e,Rc K.N (λq=>q=f) u->K.N u=some e->aG m u=some e:=by
 have step:∀u,Rc K.N (λq=>q=f) u->u<2\/aG m u≠none:=λu hu=>by
  induction hu with
  |base e=>subst e;exact h.has
  |lo hp hN ih=>
   rcases ih with ih|ih
   ·have:=h2 _ _ hN;omega
   obtain⟨d,hd,a,b⟩:=h.shut _ ih rfl;rw[hN]at hd;cases hd;exact a
  |hi hp hN ih=>
   rcases ih with ih|ih
   ·have:=h2 _ _ hN;omega
   obtain⟨d,hd,a,b⟩:=h.shut _ ih rfl;rw[hN]at hd;cases hd;exact b
 intro u e hu hN;rcases step u hu with h'|h'
 ·have:=h2 _ _ hN;omega
 cases hm:aG m u with
 |none=>exact absurd hm h'
 |some d=>have:=h.good u d hm;rw[hN]at this;cases this;rfl
theorem U7(h:cc kp K S ord ah tr C)(h9:(b9,Obj.cells (Ff n f mb kC 0 0) 361 zZ)∈Z)(h11:(He,Obj.cells #[ptr b9] 353 zZ)∈Z)(h1:(b1,Obj.cells #[ptr kp] 85 zZ)∈Z)
 (h48:(OE,Obj.cells #[.func (.func 359) #[] #[ptr He,ptr b1,ptr OE]] 261 zZ)∈Z):
  ∀(k r:Nat) (es:Array MapEntry) (ck:Nat) (m:List (Nat×Nd)),K.n-dep K.n (lv ah) K.N r<=k->live K.N r->OP es ck m->(∀u d,aG m u=some d->K.N u=some d)->
  Fc zQ 359 #[u32 r,ptr He,ptr b1,ptr OE] ((mb,.map es ck)::(Z++C)) (λv H=>v=.tuple #[]/\∃es' bD m',H=(mb,.map es' bD)::(Z++C)/\OP es' bD m'/\T5 K m m' r):=by
 have h9':=xad C h9;have aab:=xad C h11;have sX:=xad C h1;have WI:=xad C h48;have two:=λ(u:Nat) (d:Nd) (e:K.N u=some d)=>(h.ok.mid.two e).1;have stop:∀{r:Nat} {es:Array MapEntry} {ck:Nat} {m:List (Nat×Nd)},OP es ck m->(∀u d,aG m u=some d->K.N u=some d)->(r<2\/aG m r≠none)->
   Fc zQ 359 #[u32 r,ptr He,ptr b1,ptr OE] ((mb,.map es ck)::(Z++C)) (λv H=>v=.tuple #[]/\∃es' bD m',H=(mb,.map es' bD)::(Z++C)/\OP es' bD m'/\T5 K m m' r):=by
  intro r es ck m hE hg hr;refine aE λg=>xx (Ld.mk (v:=ptr b9) (.tail _ aab) rfl ?_);refine Ld.v (v:=.map (some mb)) (.tail _ h9') ?_;have fin:T5 K m m r:=⟨hg,λ_ h=>h,hr,λu h h'=>absurd h' h⟩;cases hv:aG m r with
  |some d=>
   refine hE.hit (k:=r) de (b:=mb) (by exact .head _) hv λv e=>?_;subst e;refine Ext.two λb8 _=>(St.p (fC d) ?_);refine cm.or (a:=true) true (λe=>by cases e) rfl λ_=>?_;exact Br.yes (aF.mk .tail ⟨rfl,es,ck,m,rfl,hE,fin⟩)
  |none=>
   have h2:r<2:=hr.resolve_right λh=>h hv;refine hE.bM (k:=r) de (b:=mb) (by exact .head _) hv ?_;refine Ext.two λb8 _=>(St.p (r:=[i64 0,u32 0,u32 0]) (by simp[u32,Value.oneCell']) (cm.or (a:=false) (decide (r<=1)) (λ_=>ae.BS (b:=1) ⟨rfl,rfl⟩) rfl λ_=>?_));rw[xam (show r<=1 by omega)];exact Br.yes (aF.mk .tail ⟨rfl,es,ck,m,rfl,hE,fin⟩)
 intro k;induction k with
 |zero=>
  intro r es ck m hk hr hE hg;refine stop hE hg (.inl ?_);cases hN:K.N r with
  |some d=>
   rw[an hN]at hk;have:=h.ok.lv.lt _ (h.ok.mid.var hN);omega
  |none=>
   rcases hr with hr|⟨d,e⟩
   ·exact hr
   rw[hN]at e;cases e
 |succ k ih=>
  intro r es ck m hk hr hE hg;by_cases hs:r<2\/aG m r≠none
  ·exact stop hE hg hs
  have qx:¬r<2:=λh=>hs (.inl h);have hv:aG m r=none:=xaD λh=>hs (.inr h);obtain⟨d,hN⟩:∃d,K.N r=some d:=by
   rcases hr with hr|hr
   ·omega
   exact hr
  have hlt:=h.bL (.inr ⟨d,hN⟩);have hlo:=h.ok.wf.lo hN;have hhi:=h.ok.wf.hi hN;rw[an hN]at hk;have hvl:=h.ok.lv.lt _ (h.ok.mid.var hN);refine aE λg=>xx (Ld.mk (v:=ptr b9) (.tail _ aab) rfl ?_);refine Ld.v (v:=.map (some mb)) (.tail _ h9') ?_;refine hE.bM (k:=r) de (b:=mb) (by exact .head _) hv ?_;refine Ext.two λb8 _=>(St.p (r:=[i64 0,u32 0,u32 0]) (by simp[u32,Value.oneCell']) (cm.or (a:=false) (decide (r<=1)) (λ_=>ae.BS (b:=1) ⟨rfl,rfl⟩) rfl λ_=>?_));rw[xak (show¬r<=1 by omega)];refine Br.no (Ld.mk (v:=ptr kp) (.tail _ (.tail _ sX)) rfl ?_);refine aa.eq (args:=#[ptr kp,u32 r]) (iU h.rep zO) ?_;rw[dZ hN (two r d hN)];refine Ext.two λB6 _=>(St.p (fC d) ?_);refine DR.of (.refl _) (Ld.mk (v:=ptr b9) (.tail _ (.tail _ (.tail _ aab))) rfl ?_);refine Ld.v (v:=.map (some mb)) (.tail _ (.tail _ (.tail _ h9'))) ?_;refine az.q ?_;intro G;refine hE.bt (k:=r) (b:=mb) (x:=d) de gQ rfl λkE jT Gz=>⟨_,.tail (.tail (.head _)),?_⟩;have g1:∀u e,aG (eo m r d) u=some e->K.N u=some e:=λu e hu=>by
   rw[bK]at hu;split at hu
   ·cases hu;subst u;exact hN
   exact hg u e hu
  refine Ld.mk (v:=.func (.func 359) #[] #[ptr He,ptr b1,ptr OE]) (.tail _ (.tail _ (.tail _ WI))) rfl ?_;refine Ld.f (v:=u32 d.lo) (aL.of rfl zK (aa.fq (args:=#[u32 d.lo,ptr He,ptr b1,ptr OE]) (ih d.lo kE jT _ zO hlo.1 Gz g1) ?_));rintro v H ⟨rfl,gV,iH,m2,rfl,sW,w2⟩;refine Ld.mk (v:=.func (.func 359) #[] #[ptr He,ptr b1,ptr OE]) (.tail _ (.tail _ (.tail _ WI))) rfl ?_;refine Ld.f (v:=u32 d.hi) (aL.of rfl zK (aa.fq (args:=#[u32 d.hi,ptr He,ptr b1,ptr OE]) (ih d.hi gV iH m2 zO hhi.1 sW w2.good) ?_));rintro v H ⟨rfl,pg,qU,m3,rfl,PW,w3⟩;have r1:aG (eo m r d) r≠none:=by rw[bK,xae rfl];simp
  refine aF.mk (.skip .tail) ⟨rfl,pg,qU,m3,rfl,PW,⟨w3.good,λu hu=>w3.sub u (w2.sub u ?_),.inr (w3.sub r (w2.sub r r1)),λu hu hn=>?_⟩⟩
  ·rw[bK];split
   ·simp
   exact hu
  by_cases V6:aG m2 u=none
  ·exact w3.shut u hu V6
  by_cases Gr:aG (eo m r d) u=none
  ·obtain⟨e,he,a,b⟩:=w2.shut u V6 Gr;exact⟨e,he,a.imp id (w3.sub _),b.imp id (w3.sub _)⟩
  rw[bK]at Gr;split at Gr
  ·subst u;exact⟨d,hN,w2.has.imp id (w3.sub _),w3.has⟩
  exact absurd hn Gr
end
section
variable {kp:Nat} {K:Kd} {S:Nat->ax.Fn} {ord ah tr:zL} {C:Hp}
theorem YH(h:cc kp K S ord ah tr C){f:Nat}(hf:live K.N f):Fc zQ 293 #[ptr kp,u32 f] C (λv H=>∃d0 nm kC B4 B5 m B,v=ptr d0/\kC.oneCell'=true/\H=(d0,.cells (Ff K.n f nm kC 0 0) 361 zZ)::((nm,.map B4 B5)::(B++C))/\OP B4 B5 m/\
  (∀u e,Rc K.N (λq=>q=f) u->K.N u=some e->aG m u=some e)/\dF .i64 B kC (iw ((List.range K.n).map (lv ah)))):=by
 have sR:=h.bg.lY;refine aE λg=>IS λb1 _=>?_;refine Ld.q ?_;refine aa.eq (gP h.rep) λnm _=>?_;refine Build.mk (cs:=[i64 (K.n:Int),u32 f,.map (some nm),.slice none 0 0,u64 0,u64 0]) zK λb9 _ He _=>?_;refine St.one (c':=#[ptr b9]) (by exact .head _) rfl zI rfl ?_;refine Ld.q ?_;refine Ld.n (v:=i64 (K.n:Int)) ?_;refine⟨λvs H=>∃(j:Nat) (kC:zV) (CL:Hp),vs=[i64 (j:Int)]/\j<=K.n/\kC.oneCell'=true/\aP 3 .i64 kC (iw ((List.range j).map (lv ah))) CL/\
   H=(He,.cells #[ptr b9] 353 zZ)::(b9,.cells (Ff K.n f nm kC 0 0) 361 zZ)::(nm,.map #[] 0)::(b1,.cells #[ptr kp] 85 zZ)::(CL++C),λvs _=>K.n-bJ vs 0,
  JE.mk ⟨0,.slice none 0 0,[],rfl,xaO _,rfl,aP.nil,rfl⟩,?_⟩
 rintro w H ⟨j,kC,CL,⟨⟩,hj,ho,hL,rfl⟩ gs;refine ae.eZ (Br.dec (λhlt=>?_) (λhge=>?_))
 ·refine Ld.q ?_;refine aa.eq (l9 h.rep _) ?_;rw[xae ⟨by omega,by omega⟩];refine Ext.two (DR.of (R:=(He,Obj.cells #[ptr b9] 353 zZ)::(b9,.cells (Ff K.n f nm kC 0 0) 361 zZ)::C) (.cons (.cons (.skip (.skip .right)))) (Ld.q ?_));refine Ld.q ?_;refine Ld.n (v:=kC) λG=>?_;refine au.int (e:=3) zK zK zK λbx=>?_;refine⟨.skip (.cons (.cons (.skip (.skip .right)))),?_⟩;intro G;refine hL.qJ (.cons (.cons (.cons (.cons (.cons .left))))) (by exact .head _) zP zP λv' N' cC=>?_;refine⟨.skip (.cons (.cons (.skip (.skip .right)))),?_⟩;refine .ptr (.mk ?_);intro G;have nZ:v'.oneCell'=true:=by
   obtain⟨x,y,z,rfl⟩:∃x y z,v'=.slice x y z:=by
    rcases cC with⟨rfl,_⟩|⟨b,c,rfl,_⟩
    ·exact⟨_,_,_,rfl⟩
    exact⟨_,_,_,rfl⟩
   rfl
  refine St.one (c':=Ff K.n f nm v' 0 0) (by exact .tail (.tail (.head _))) nZ zI rfl ?_;refine ae.inc (aC.of .tail ⟨j+1,v',N',rfl,hlt,nZ,?_,rfl⟩ (by simp only[bJ];omega));rw[xcl,xaH,cg];rw[xa3]at cC;exact cC
 obtain rfl:j=K.n:=by omega
 intro OE _;refine St.one (c':=#[.func (.func 359) #[] #[ptr He,ptr b1,ptr OE]]) (by exact .head _) rfl zI rfl ?_;refine Ld.q ?_;refine aL.of rfl zK ?_;obtain⟨Z,hZ⟩:∃Z:Hp,Z=(OE,Obj.cells #[.func (.func 359) #[] #[ptr He,ptr b1,ptr OE]] 261 zZ)::(He,.cells #[ptr b9] 353 zZ)::(b9,.cells (Ff K.n f nm kC 0 0) 361 zZ)::(b1,.cells #[ptr kp] 85 zZ)::CL:=⟨_,rfl⟩;refine aa.pre (H':=(nm,Obj.map #[] 0)::(Z++C)) (by rw[hZ];exact .perm (xaT (l₁:=[_,_,_]))) (aa.fn (args:=#[u32 f,ptr He,ptr b1,ptr OE]) .here (U7 (Z:=Z) (b9:=b9) (n:=K.n) (f:=f) (kC:=kC) h (by rw[hZ];simp) (by rw[hZ];simp) (by rw[hZ];simp) (by rw[hZ];simp) K.n f #[] 0 [] (xdx _ _) hf aD.empty (λu d e=>by cases e)) ?_);rintro v H ⟨rfl,es',bD,m',rfl,DY,w'⟩;refine Ld.mk (v:=ptr b9) (.tail _ (xad _ (by rw[hZ];exact .tail _ (.head _)))) rfl ?_;refine aF.mk ?_ ⟨b9,nm,kC,es',bD,m',CL,rfl,ho,rfl,DY,w'.cov (λu d e=>(h.ok.mid.two e).1),hL.ints⟩;rw[hZ];exact .trans (.cons (.skip (.skip (.cons .tail)))) .swap
def Lst(n:Nat)(f:ax.Fn)(V:Nat):Prop:=(∀j,n<=j->V.testBit j=false)/\∀v,v<n->(V.testBit v=true↔¬∃x:Nat,(∀j,v<j->j<n->x.testBit j=V.testBit j)/\x.testBit v=false/\f x=true)
theorem Nq(h:cc kp K S ord ah tr C){f:Nat}(hf:live K.N f)(h0:f≠0):Rd zQ 148 #[ptr kp,u32 f] C (λv=>∃V,V<18446744073709551616/\Lst K.n (S f) V/\v=.tuple #[u64 V,i64 0]):=by
 have sR:=h.bg.lY;have aby:∃x,S f x=true:=by
  refine xaD λhno=>h0 ?_;have:S f=S 0:=funext λx=>by
   rw[h.ok.mid.int.zero];cases e:S f x with
   |false=>rfl
   |true=>exact absurd ⟨x,e⟩ hno
  exact h.ok.wf.same h.ok.lv h.ok.mid.int hf (.inl zD) λx=>congrFun this x
 refine aE λg=>xO (aa.rq (Q:=λv=>∃V,V<18446744073709551616/\Lst K.n (S f) V/\v=.tuple #[u64 V,i64 0]) (aE λg=>xM ?_) ?_);rotate_left
 ·rintro v ⟨V,h1,h2,rfl⟩;exact Ext.two (br.mk (.refl _) ⟨V,h1,h2,rfl⟩)
 refine aa.eq (tJ h hf) ?_;rw[xac h0];refine ae.cO (Br.F (aa.fq (YH h hf) ?_));rintro v H ⟨d0,nm,kC,B4,B5,m,B,rfl,ho,rfl,hE,agH,hL⟩;obtain⟨X,hX⟩:∃X:Hp,X=(nm,Obj.map B4 B5)::(B++C):=⟨_,rfl⟩;rw[<-hX];have vw:∀F V,F<18446744073709551616->V<18446744073709551616->Xh K S ah ((List.range K.n).map (lv ah)) m K.n f F V d0 0 nm kC B4 B5 ((d0,.cells (Ff K.n f nm kC F V) 361 zZ)::X):=λF V hF hV=>
  ⟨h.ok,sR,rfl,.head _,by rw[hX];exact .tail _ (.head _),hE,agH,hL.mono λx hx=>by rw[hX];exact .tail _ (.tail _ (xad _ hx)),λv hv=>by simp[hv],hF,hV⟩
 refine aa.rq (yI (vw 0 0 zD zD) zI hf) ?_;intro t ht;refine aa.eq (yL (C:=X) ht) ?_;have e0:qT K.n 0 0 (S f)=true:=by
  obtain⟨x,hx⟩:=aby;exact qo.2 ⟨x,λj _ hj=>by simp at hj,hx⟩
 rw[e0];refine Un.not (Br.no (Ld.n (v:=i64 (K.n:Int)) (ae.lJ (c:=(K.n:Int) -1) rfl zO ?_)));refine⟨λvs H=>∃(j F V:Nat),vs=[u64 0,i64 ((j:Int) -1)]/\j<=K.n/\F<18446744073709551616/\V<18446744073709551616/\H=(d0,.cells (Ff K.n f nm kC F V) 361 zZ)::X/\(∀i,F.testBit i=(decide (j<=i) &&decide (i<K.n)))/\(∀i,i<j\/K.n<=i->V.testBit i=false)/\
   ∀v,j<=v->v<K.n->(V.testBit v=true↔¬∃x:Nat,(∀i,v<i->i<K.n->x.testBit i=V.testBit i)/\x.testBit v=false/\S f x=true),
  λvs _=>match vs with| [_,.int _ q]=>(q+1).toNat|_=>0,
  JE.mk ⟨K.n,0,0,rfl,xai _,by decide,by decide,rfl,λi=>?_,λi _=>by simp,λv a b=>by omega⟩,?_⟩
 ·rw[xcA];by_cases e:K.n<=i
  ·rw[xak (show¬i<K.n by omega),xed]
  rw[xak e,xdN]
 rintro w1 w2 H ⟨j,F,V,⟨⟩,hj,hF,hV,rfl,hFb,ZY,hVb⟩ gs;refine ae.geq (Br.dec (λhge=>?_) (λhlt=>?_))
 ·obtain⟨i,rfl⟩:∃i,j=i+1:=⟨j-1,by omega⟩;have ei:(((i+1:Nat):Int) -1)=(i:Int):=by omega
  rw[ei];intro J hJ;have back:∀F' V':Nat,F'<18446744073709551616->V'<18446744073709551616->(∀a,F'.testBit a=(decide (i<=a) &&decide (a<K.n)))->(∀a,a<i\/K.n<=a->V'.testBit a=false)->
    (∀v,i<=v->v<K.n->(V'.testBit v=true↔¬∃x:Nat,(∀a,v<a->a<K.n->x.testBit a=V'.testBit a)/\x.testBit v=false/\S f x=true))->J [u64 0] ((d0,.cells (Ff K.n f nm kC F' V') 361 zZ)::X):=λF' V' a b c d e=>hJ _ _ λ_=>by
   refine ae.lJ (c:=(i:Int) -1) rfl zO (aC.mk ⟨i,F',V',rfl,by omega,a,b,rfl,c,d,e⟩ ?_);show((i:Int) -1+1).toNat<((i:Int)+1).toNat;omega
  refine aa.fq (KZ (C:=X) (b:=0) ho zO zD hF hV) ?_;rintro w H ⟨rfl,F1,V1,rfl,hF1,hV1,ahj,agW⟩;have same:V1=V:=xaY λa=>by
   rw[agW];split
   ·subst a;rw[ZY i (.inl zO)];rfl
   rfl
  subst same;have fb:∀a,F1.testBit a=(decide (i<=a) &&decide (a<K.n)):=λa=>by
   rw[ahj,hFb];by_cases e:a=i
   ·subst e;rw[xam (show a<K.n by omega),xam rfl,xam (xai a)];simp
   rw[xak e,xdy];congr 1;exact xb8.2 zO
  refine aa.rq (yI (vw F1 V1 hF1 hV1) zI hf) ?_;intro t ht;intro Yl _;have ht':=ht;obtain⟨rr,rfl,xY,P1⟩:=oH ht;refine St.p (r:=rr) P1 ?_ (hr:=xY);refine az.q ?_ (hr:=xY);refine aa.eq (yL (C:=X) ht') (Un.not ?_);have qi:qT K.n F1 V1 (S f)=true↔∃x:Nat,(∀a,i<a->a<K.n->x.testBit a=V1.testBit a)/\x.testBit i=false/\S f x=true:=by
   rw[qo];constructor
   ·rintro⟨x,hx,hS⟩;refine⟨x,λa ha hn=>hx a hn (by rw[fb,xam (show i<=a by omega),xam hn];rfl),?_,hS⟩;rw[hx i zO (by rw[fb,xam (xai i),xam (show i<K.n by omega)];rfl)];exact ZY i (.inl zO)
   rintro⟨x,hx,Zj,hS⟩;refine⟨x,λa hn hF=>?_,hS⟩;rw[fb,xay,xaJ,xaJ]at hF;by_cases e:a=i
   ·subst e;rw[Zj];exact(ZY a (.inl zO)).symm
   exact hx a zO hn
  refine Br.mk (λhb=>?_) (λhb=>?_)
  ·have hno:qT K.n F1 V1 (S f)=false:=by simpa using hb
   have hz:∃q,rr=[u64 0,q]:=by
    obtain⟨n,b,hn,e,hp⟩:=ht';rw[hno]at hp;have:rr=[u64 n,.bool b]:=by
     have:=Value.agg.inj e;simpa using this
    rw[xaG,xbl]at hp;have e0:n=0:=xaD hp.2;exact⟨.bool b,by rw[this,e0]⟩
   obtain⟨q,rfl⟩:=hz;refine Ld.f (v:=u64 0) (ae.x5 (b:=0) zD (xai _) (aa.pre .tail ?_));refine aa.fq (KZ (C:=X) (b:=1) ho zO zD hF1 hV1) ?_;rintro w H ⟨rfl,F2,V2,rfl,hF2,hV2,ahi,adf⟩;have v2:∀a,a≠i->V2.testBit a=V1.testBit a:=λa ha=>by rw[adf,xac ha]
   refine JE.mk (back F2 V2 hF2 hV2 (λa=>?_) (λa ha=>?_) λv hv PE=>?_)
   ·rw[ahi,fb];by_cases e:a=i
    ·subst e;rw[xam (show a<K.n by omega),xam rfl,xam (xai a)];rfl
    rw[xak e,xdy]
   ·rw[v2 a zO];exact ZY a zO
   have ahE:∀x:Nat,(∀a,v<a->a<K.n->x.testBit a=V2.testBit a)↔(∀a,v<a->a<K.n->x.testBit a=V1.testBit a):=λx=>
    ⟨λq a h1 h2=>by rw[q a h1 h2,v2 a zO],λq a h1 h2=>by rw[q a h1 h2,v2 a zO]⟩
   simp only[ahE];by_cases e:v=i
   ·subst e;rw[adf,xae rfl];have:=mt qi.2 (by rw[hno];decide);simp only[this,not_false_eq_true];decide
   rw[v2 v e];exact hVb v zO PE
  have RT:qT K.n F1 V1 (S f)=true:=by simpa using hb
  refine JE.of .tail (back F1 V1 hF1 hV1 fb (λa ha=>ZY a zO) λv hv PE=>?_);by_cases e:v=i
  ·subst e;rw[ZY v (.inl zO)];simp only[qi.1 RT,not_true_eq_false];decide
  exact hVb v zO PE
 obtain rfl:j=0:=by omega
 refine Ld.n (v:=u64 V) (br.mk ?_ ⟨V,hV,⟨λi hi=>ZY i (.inr hi),λv hv=>hVb v (xaO _) hv⟩,rfl⟩);rw[hX];exact .skip (.skip .right)
theorem Ns(h:cc kp K S ord ah tr C):Rd zQ 148 #[ptr kp,u32 0] C (· =.tuple #[u64 0,i64 10]):=by
 refine aE λg=>xO (aa.rq (Q:=λv=>v=.tuple #[u64 0,i64 10]) (aE λg=>xM ?_) ?_);rotate_left
 ·rintro v rfl;exact Ext.two (br.mk (.refl _) rfl)
 refine aa.eq (tJ h (.inl zD)) ?_;rw[xae rfl];exact ae.cO (Br.T (br.mk (.refl _) rfl))
end
end
end Go.Proofs
namespace ax
open ak
variable {n:Nat} {ord:zL}
def Yf(ord:zL)(L:List Fn):Nat->List Fn
 |0=>L
 |l+1=>(Yf ord L l).flatMap λf=>[λx=>f (aB x (ord.getD l 0) false),λx=>f (aB x (ord.getD l 0) true)]
theorem wD(L:List Fn):∀l,(Yf ord L l).length=L.length*2^l
 |0=>by simp[Yf]
 |l+1=>by
  rw[Yf,List.length_flatMap];simp only[xaB,xch];rw[List.map_const',List.sum_replicate_nat,wD L l,xdt,xcq]
theorem SZ{F:Fn->Prop}{L:List Fn}(h:∀g,F g->g∈L):∀l g,fs ord F l g->g∈Yf ord L l
 |0,g,hg=>h g hg
 |l+1,g,⟨f,hf,b,e⟩=>by
  rw[Yf,List.mem_flatMap];refine⟨f,SZ h l f hf,?_⟩;subst e;cases b<;>simp
def EG(ord:zL)(L:List Fn):Nat->List Fn
 |0=>[]
 |k+1=>EG ord L k++Yf ord L k
theorem tX{ord:zL}(L:List Fn):∀k,(EG ord L k).length+L.length=L.length*2^k
 |0=>by simp[EG]
 |k+1=>by
  have:=tX (ord:=ord) L k;rw[EG,xaf,wD,xdt];have e:L.length*(2^k*2)=L.length*2^k+L.length*2^k:=by rw[<-xcq,Nat.mul_two]
  omega
theorem Du{L:List Fn}{g:Fn}{l:Nat}(h:g∈Yf ord L l):∀k,l<k->g∈EG ord L k
 |0,hk=>by omega
 |k+1,hk=>by
  rw[EG,xan];by_cases e:l=k
  ·subst e;exact .inr h
  exact .inl (Du h k zO)
theorem yZ{F:Fn->Prop}{L:List Fn}(h:∀g,F g->g∈L):∀g,aH n ord F g->g∈EG ord L n:=by
 rintro g ⟨l,hl,hg,_⟩;exact Du (SZ h l g hg) n hl
theorem Dk:∀l:List Fn,∃l':List Fn,l'.Nodup/\l'.length<=l.length/\∀g,g∈l↔g∈l'
 | []=>⟨[],List.nodup_nil,xai _,λ_=>xcY⟩
 |f::l=>by
  obtain⟨l',h1,h2,h3⟩:=Dk l;by_cases hm:f∈l'
  ·refine⟨l',h1,Nat.le_succ_of_le h2,λg=>?_⟩;rw[xal,h3];exact⟨λh=>h.elim (λe=>e▸hm) id,.inr⟩
  exact⟨f::l',xaX.2 ⟨hm,h1⟩,Nat.succ_le_succ h2,λg=>by rw[xal,xal,h3]⟩
theorem Ma{U:Fn->Prop}{l:List Fn}(h:∀g,U g->g∈l):∃k,k<=l.length/\pH U k:=by
 classical
 obtain⟨l',h1,h2,h3⟩:=Dk l;refine⟨(l'.filter λg=>decide (U g)).length,xbS (xb2 _ _) h2,_,h1.filter _,rfl,λg=>?_⟩;rw[xbD,xaJ,<-h3];exact⟨λx=>⟨h g x,x⟩,λx=>x.2⟩
theorem FX{F:Fn->Prop}{L:List Fn}{cap:Nat}(h:∀g,F g->g∈L)(hc:L.length*2^n+2<=cap):∃ku,pH (aH n ord F) ku/\ku+2<=cap:=by
 obtain⟨k,h1,h2⟩:=Ma (yZ (n:=n) (ord:=ord) h);have:=tX (ord:=ord) L n;exact⟨k,h2,by omega⟩
end ax
set_option maxRecDepth 100000
namespace Go.Proofs
open Go Go.Sx Tryz
section
open ax
section
variable {sp kp mb nx:Nat} {c:Cf} {K:Kd} {S:Nat->ax.Fn} {ord ah tr:zL} {hs:List (Int×Nat)} {es:Array MapEntry} {ck:Nat} {C:Hp} {x:dB}
theorem Qw(h:iy kp nx c K S ord ah tr hs es ck C):
  Rd zQ 91 #[ptr sp,x.v] (gS sp c kp mb nx es ck C) (· =if(aG hs x.a).isSome then ej 0 (-1) (sz c.n ord (λg=>g=bS S hs x.a)) 0 else ej 3 (-1) 0 0):=by
 refine aE λg=>OX λb1 _ b3 _=>?_;refine Ld.f (v:=i64 x.a) (aa.eq (eO h x.a) (Un.not ?_));cases hm:aG hs x.a with
 |none=>
  refine Br.yes (aa.eq (cA _ _) (St.p (r:=[i64 3,i64 (-1),u64 0,i64 0]) (bu _ _ _ _) ?_));refine az.q ?_;exact br.mk (.skip .tail) rfl
 |some r=>
  apply Br.no;have hl:=h.live _ (h.find hm);refine DR.of (.refl _) (Ld.n (v:=ptr kp) (Ld.n (v:=.map (some mb)) (Ld.f (v:=i64 x.a) (h.dK.hit (k:=x.a) (bZ _) (b:=mb) (by exact .tail _ (.tail _ (.tail _ (.head _)))) hm λv e=>?_))));subst e;intro F;refine au.int (e:=110) (x:=(r:Int)) zK zK zK λbx=>?_;refine⟨.tail,?_⟩;intro F;refine aa.pre (H':=[(bx,Obj.cells (ay .u32 [(r:Int)]) 110 zZ),(b3,.cells #[i64 0,i64 0,u64 0,i64 0] 37 zZ),(b1,.cells (Value.cells x.v) 35 zZ),jY sp c kp mb nx,(mb,.map es ck)]++C) (.refl _) (aa.eq (args:=#[ptr kp,.slice (some ⟨bx,0,none⟩) 1 1]) (Tq h.ks hl (.head _)) (⟨.tail,?_⟩));refine Ext.two (bc.of (m:=((sz K.n ord (λg=>g=S r):Nat):Int)) (fe (kd:=.u64) ?_) ?_)
  ·have hc:=h.ks.ok.size h.ks.od;have hroom:=h.ks.ok.mid.cap;have hcap:=h.ks.rep.cap;obtain⟨k,hk,mh⟩:=Ma (U:=aH K.n ord (λg=>g=S r)) (l:=EG ord [S r] K.n) (yZ zI);have hle:k<=1048576:=by
    by_cases h2:2<=r
    ·have tN:K.held S (S r):=⟨r,by show K.hold r≠0;rw[h.hold,xae h2];exact xdu (xbM.2 (xaR (f:=Prod.snd) (h.find hm))),rfl⟩;have ak0:=mh.le hc λg hg=>cK (λg e=>by rw[e];exact tN) hg;omega
    have:k=0:=mh.uniq (pH.none.congr λg=>⟨False.elim,λhg=>qW (λv=>λhv=>h2 ((iE h.ks hl).2 ⟨v,hv⟩)) g hg⟩);omega
   rw[Lb mh];exact xau hle zD
  refine aa.eq (dU _ 0 _) (St.p (r:=[i64 0,i64 (-1),u64 (sz K.n ord (λg=>g=S r)),i64 0]) (bu _ _ _ _) ?_);refine az.q ?_;exact br.mk (.skip (.skip .tail)) (by rw[bC hm,<-h.n];rfl)
theorem Lj(h:iy kp nx c K S ord ah tr hs es ck C)(hno:aG hs x.a=none\/∃r,aG hs x.a=some r/\2<=r/\K.hold r=65535):
  Rd zQ 86 #[ptr sp,x.v] (gS sp c kp mb nx es ck C) (· =if(aG hs x.a).isSome then ej 8 (-1) 0 0 else ej 3 (-1) 0 0):=by
 refine aE λg=>Au λb1 _ b3 _=>?_;refine Ld.n (v:=.map (some mb)) (Ld.f (v:=i64 x.a) (h.dK.look (k:=x.a) (bZ _) (b:=mb) (by exact .tail _ (.tail _ (.tail _ (.head _)))) (λr v hr hv=>?_) (λhr=>?_)))
 ·subst hv;refine Ext.two (Un.not (Br.no (Ld.n (v:=ptr kp) ?_)));rcases hno with e|⟨q,hq,h2,hf⟩
  ·rw[hr]at e;cases e
  rw[hr]at hq;cases hq;refine aa.eq (args:=#[ptr kp,u32 r]) (o5 h.ks (h.live _ (h.find hr)) h2 hf) (ae.cO (Br.T (aa.eq (cA _ _) (St.p (r:=[i64 8,i64 (-1),u64 0,i64 0]) (bu _ _ _ _) ?_))));refine az.q ?_;exact br.mk (.skip .tail) (by rw[hr];rfl)
 refine Ext.two (Un.not (Br.yes (aa.eq (cA _ _) (St.p (r:=[i64 3,i64 (-1),u64 0,i64 0]) (bu _ _ _ _) ?_))));refine az.q ?_;exact br.mk (.skip .tail) (by rw[hr];rfl)
theorem U8(h:iy kp nx c K S ord ah tr hs es ck C)(DO:nx+1<9223372036854775808){r:Nat}(hr:aG hs x.a=some r)(hf:2<=r->K.hold r<65535):
  Fc zQ 86 #[ptr sp,x.v] (gS sp c kp mb nx es ck C) (λv H=>v=ej 0 nx 0 0/\∃K' es' bD C',H=gS sp c kp mb (nx+1) es' bD C'/\iy kp (nx+1) c K' S ord ah [] (hs++[((nx:Int),r)]) es' bD C'):=by
 have hl:=h.live _ (h.find hr);refine aE λg=>Au λb1 _ b3 _=>?_;refine Ld.n (v:=.map (some mb)) (Ld.f (v:=i64 x.a) (h.dK.hit (k:=x.a) (bZ _) (b:=mb) (by exact .tail _ (.tail _ (.tail _ (.head _)))) hr λv hv=>?_));subst hv;refine Ext.two (Un.not (Br.no (Ld.n (v:=ptr kp) (aa.fq (args:=#[ptr kp,u32 r]) (mY h.ks hl hf) ?_))));rintro v H ⟨rfl,K',dk,hm⟩;refine ae.cO (Br.F (aa.fq (zz h.dK h.key DO r 0) ?_));rintro v H2 ⟨rfl,es',bD,rfl,he⟩;refine St.p (r:=[i64 0,i64 nx,u64 0,i64 0]) (bu _ _ _ _) ?_;refine az.q ?_;have hg:kV K S K' S (S r) r:=⟨hm.n,hm.cap,λs d hd=>by rw[hm.N];exact hd,λ_ _=>rfl,by rw[hm.N];exact hl,rfl,λs=>by rw[hm.hold];split<;>rfl⟩;exact aF.mk (.skip .tail) ⟨rfl,K',es',bD,H,rfl,(h.grow dk hg he).1⟩
theorem count_erase{l:List (Int×Nat)}{a:Int}{r:Nat}(fc:(l.map Prod.fst).Nodup)(hm:(a,r)∈l)(s:Nat):((ig l a).map Prod.snd).count s=(l.map Prod.snd).count s-if s=r then 1 else 0:=by
 induction l with
 |nil=>cases hm
 |cons p l ih=>
  obtain⟨k,q⟩:=p;rw[xaC,xaX]at fc;unfold ig at*;by_cases hk:k=a
  ·subst hk;have hq:q=r:=by
    rcases xal.1 hm with e|hm
    ·cases e;rfl
    exact absurd (xaR (f:=Prod.fst) hm) fc.1
   subst hq;have e:(l.filter λy=>decide ¬y.1=k)=l:=xcg.2 λy hy=>by
    have:y.1≠k:=λe=>fc.1 (by rw[<-e];exact xao.2 ⟨y,hy,rfl⟩);simpa using this
   rw[xbn,xac zI,e,xaC,xb5];by_cases hs:s=q
   ·subst hs;simp
   have:(q==s)=false:=by simpa using λe=>hs e.symm
   simp[hs,this]
  have hm':(a,r)∈l:=by
   rcases xal.1 hm with e|hm
   ·cases e;exact absurd rfl hk
   exact hm
  rw[xbn,xae (by simpa using hk),xaC,xaC,xb5,xb5,ih fc.2 hm'];by_cases hs:s=r
  ·subst hs;have:0<(l.map Prod.snd).count s:=xbM.2 (xaR (f:=Prod.snd) hm');rw[xae rfl];omega
  rw[xac hs];rfl
theorem QE(h:iy kp nx c K S ord ah tr hs es ck C){r:Nat}(hr:aG hs x.a=some r):
  Fc zQ 87 #[ptr sp,x.v] (gS sp c kp mb nx es ck C) (λv H=>v=ej 0 (-1) 0 0/\∃K' es' C',H=gS sp c kp mb nx es' ck C'/\iy kp nx c K' S ord ah [] (ig hs x.a) es' ck C'):=by
 have hmem:=h.find hr;have hl:=h.live _ hmem;have hlt:=h.ks.bL hl;have hh:2<=r->K.hold r≠0:=λh2=>by
  rw[h.hold,xae h2];exact xdu (xbM.2 (xaR (f:=Prod.snd) hmem))
 refine aE λg=>As λb1 _ b3 _=>?_;refine Ld.n (v:=.map (some mb)) (Ld.f (v:=i64 x.a) (h.dK.hit (k:=x.a) (bZ _) (b:=mb) (by exact .tail _ (.tail _ (.tail _ (.head _)))) hr λv hv=>?_));subst hv;refine Ext.two (Un.not (Br.no (Ld.n (v:=ptr kp) (aa.fq (args:=#[ptr kp,u32 r]) (m7 h.ks zO hh) ?_))));rintro v H ⟨rfl,K',dk,hm⟩;refine DR.of (.refl _) (Ld.n (v:=.map (some mb)) (Ld.f (v:=i64 x.a) λF=>?_));refine aD.del (k:=x.a) (bZ _) h.dK (.tail _ (.tail _ (.tail _ (.head _)))) λes' he=>⟨_,.tail (.tail (.tail (.head _))),?_⟩;refine aa.eq (dU 0 0 _) (St.p (r:=[i64 0,i64 (-1),u64 0,i64 0]) (bu _ _ _ _) ?_);refine az.q ?_;have hsub:∀p,p∈ig hs x.a->p∈hs:=λp hp=>(xbD.1 hp).1;have X2:∀s,K'.hold s=if 2<=s then((ig hs x.a).map Prod.snd).count s else 0:=λs=>by
  rw[hm.hold,h.hold,count_erase h.dK.nd hmem];by_cases h2:2<=s
  ·rw[xae h2,xae h2];by_cases e:s=r
   ·rw[xae ⟨e,by omega⟩,xae e]
   rw[xac (λh=>e h.1),xac e];rfl
  rw[xac h2,xac h2,xac (λh=>h2 zO)]
 refine aF.mk (.skip .tail) ⟨rfl,K',es',H,rfl,⟨dk,hm.n.trans h.n,hm.cap.trans h.cap,he,λp hp=>?_,X2,λp hp=>h.lt p (hsub p hp)⟩⟩;by_cases h2:2<=p.2
 ·refine .inr (dk.ok.mid.held p.2 ?_);rw[X2,xae h2];exact xdu (xbM.2 (xaR (f:=Prod.snd) hp))
 exact .inl zO
theorem QG(h:iy kp nx c K S ord ah tr hs es ck C)(hr:aG hs x.a=none):
  Rd zQ 87 #[ptr sp,x.v] (gS sp c kp mb nx es ck C) (· =ej 3 (-1) 0 0):=by
 refine aE λg=>As λb1 _ b3 _=>?_;refine Ld.n (v:=.map (some mb)) (Ld.f (v:=i64 x.a) (h.dK.bM (k:=x.a) (bZ _) (b:=mb) (by exact .tail _ (.tail _ (.tail _ (.head _)))) hr ?_));refine Ext.two (Un.not (Br.yes (aa.eq (cA _ _) (St.p (r:=[i64 3,i64 (-1),u64 0,i64 0]) (bu _ _ _ _) ?_))));refine az.q ?_;exact br.mk (.skip .tail) rfl
theorem CC{C0:Hp}{e:Int}(he:e≠0)(hex:Rd zQ 151 #[ptr kp,i64 x.a] C0 (· =i64 e)):
  Rd zQ 96 #[ptr sp,x.v] (gS sp c kp mb nx es ck C0) (· =ej e (-1) 0 0):=by
 refine aE λg=>Aq λb1 _ b3 _=>?_;refine DR.of (.refl _) (Ld.n (v:=ptr kp) (Ld.f (v:=i64 x.a) λF=>?_));refine aa.eq (args:=#[ptr kp,i64 x.a]) hex λF=>?_;refine aa.eq (dU 0 e _) λF=>?_;rw[xac he];refine St.p (r:=[i64 e,i64 (-1),u64 0,i64 0]) (bu _ _ _ _) ?_;refine az.q ?_;exact br.mk (.skip .tail) rfl
theorem QH{C0:Hp}{Q:Hp->Prop}(hex:Fc zQ 151 #[ptr kp,i64 x.a] C0 (λv H=>v=i64 0/\Q H)):
  Fc zQ 96 #[ptr sp,x.v] (gS sp c kp mb nx es ck C0) (λv H=>v=ej 0 (-1) 0 0/\∃C',H=gS sp c kp mb nx es ck C'/\Q C'):=by
 refine aE λg=>Aq λb1 _ b3 _=>?_;refine DR.of (R:=(b3,.cells #[i64 0,i64 0,u64 0,i64 0] 37 zZ)::(b1,.cells (Value.cells x.v) 35 zZ)::gS sp c kp mb nx es ck C0) (.refl _) (Ld.n (v:=ptr kp) (Ld.f (v:=i64 x.a) λF=>?_));refine aa.fq (args:=#[ptr kp,i64 x.a]) hex ?_;rintro v C' ⟨rfl,hQ⟩;intro F;refine aa.eq (dU 0 0 _) λF=>?_;refine St.p (r:=[i64 0,i64 (-1),u64 0,i64 0]) (bu _ _ _ _) ?_;refine az.q ?_;exact aF.mk (.skip .tail) ⟨rfl,C',rfl,hQ⟩
theorem AM{C0:Hp}(ha:x.a<0\/6<x.a):Rd zQ 97 #[ptr sp,x.v] (gS sp c kp mb nx es ck C0) (· =ej 1 (-1) 0 0):=by
 refine aE λg=>Ap λb1 _ b3 _=>?_;refine Ld.f (v:=i64 x.a) (ae.lss (cm.or (decide (6<x.a)) (λ_=>Ld.f (v:=i64 x.a) (ae.gtr ⟨rfl,rfl⟩)) rfl λ_=>?_));rw[<-xa8,xam ha];refine Br.yes (aa.eq (cA _ _) (St.p (r:=[i64 1,i64 (-1),u64 0,i64 0]) (bu _ _ _ _) ?_));refine az.q ?_;exact br.mk (.skip .tail) rfl
theorem nN{C0:Hp}{s:Nat}(hs:x.a=s)(Zp:s<=6){Q:Int->Nat->Hp->Prop}(hrun:Fc zQ 85 #[ptr kp,.int .u8 (s:Int),i64 x.b] C0 (λv H=>∃(a b d:Int) (t:Bool) (e:Int),v=.tuple #[uk a b d t,i64 e]/\∃n,Q e n H/\Rd zQ 140 #[ptr kp] H (· =i64 ((n:Nat):Int))/\n<18446744073709551616)):
  Fc zQ 97 #[ptr sp,x.v] (gS sp c kp mb nx es ck C0) (λv H=>∃e n C',v=(if e=0 then ej 0 (-1) n 0 else ej e (-1) 0 0)/\H=gS sp c kp mb nx es ck C'/\Q e n C'):=by
 refine aE λg=>Ap λb1 _ b3 _=>?_;refine Ld.f (v:=i64 x.a) ?_;rw[hs];refine ae.lss (cm.or (decide (6<(s:Int))) (λ_=>Ld.f (v:=i64 x.a) (by rw[hs];exact ae.gtr ⟨rfl,rfl⟩)) rfl λ_=>?_);rw[<-xa8,xak zO];refine Br.no (DR.of (R:=[(b3,.cells #[i64 0,i64 0,u64 0,i64 0] 37 zZ),(b1,.cells (Value.cells x.v) 35 zZ),jY sp c kp mb nx]) (.cons (.cons (.cons λ_ _ h=>h.aZ))) (Ld.n (v:=ptr kp) (Ld.f (v:=i64 x.a) ?_)));rw[hs];refine bc.q (Ld.f (v:=i64 x.b) λF=>?_);refine aa.fq (args:=#[ptr kp,.int .u8 (s:Int),i64 x.b]) hrun ?_;rintro v H ⟨a,b,d,t,e,rfl,n,hQ,fM,hn⟩;refine⟨.cons (.cons (.cons λ_ _ h=>h.aZ)),?_⟩;refine Ext.two λYl _=>λF=>?_;refine St.p (r:=[i64 a,i64 b,i64 d,.bool t]) (oS _ _ _ _) (⟨.skip (.cons (.cons (.cons λ_ _ h=>h.aZ))),?_⟩);refine Ld.n (v:=ptr kp) (aa.eq (args:=#[ptr kp]) fM (bc.q (a:=n) ?_ (xaN hn zD)));refine aa.eq (dU n e _) ?_;by_cases he:e=0
 ·rw[xae he];refine St.p (r:=[i64 0,i64 (-1),u64 n,i64 0]) (bu _ _ _ _) ?_;refine az.q ?_;exact aF.mk (.skip (.skip .tail)) ⟨e,n,H,by rw[xae he],rfl,hQ⟩
 rw[xac he];refine St.p (r:=[i64 e,i64 (-1),u64 0,i64 0]) (bu _ _ _ _) ?_;refine az.q ?_;exact aF.mk (.skip (.skip .tail)) ⟨e,n,H,by rw[xac he],rfl,hQ⟩
end
end
section
open ax
section
variable {sp nx kp:Nat} {c:Cf} {F:FS} {ord tr:zL} {H C:Hp} {x:dB} {K:Kd} {S:Nat->ax.Fn}
theorem T2{S:Nat->ax.Fn}{hs:List (Int×Nat)}(a:Int):jk S (ig hs a)=ig (jk S hs) a:=by
 unfold jk ig;rw[List.filter_map];rfl
theorem Lm(h:jl sp c nx F ord tr H):Rd zQ 89 #[ptr sp,x.v] H (λw=>w=if dx F x.a&&dx F x.b then ej 0 (-1) (@decide (fF F x.a=fF F x.b) (Classical.propDecidable _)).toNat 0 else ej 3 (-1) 0 0):=by
 obtain⟨kp,mb,K,S,ah,hs,es,ck,C,rfl,h,rfl⟩:=h;rw[eJ,eJ,k7];exact Qy h
theorem VL(h:jl sp c nx F ord tr H):Rd zQ 92 #[ptr sp,x.v] H (· =ej 0 (-1) (B1 c.n F ord) 0):=by
 obtain⟨kp,mb,K,S,ah,hs,es,ck,C,rfl,h,rfl⟩:=h;rw[<-h.B1];exact QB h
theorem U2(h:jl sp c nx F ord tr H):Rd zQ 91 #[ptr sp,x.v] H (· =if dx F x.a then ej 0 (-1) (sz c.n ord (λg=>g=fF F x.a)) 0 else ej 3 (-1) 0 0):=by
 obtain⟨kp,mb,K,S,ah,hs,es,ck,C,rfl,h,rfl⟩:=h;rw[eJ,k7];exact Qw h
theorem Rv(h:jl sp c nx F ord tr H):Rd zQ 95 #[ptr sp,x.v] H (λw=>((x.a<0\/(c.n:Int)<=x.a)/\w=ej 2 (-1) 0 0)\/((0<=x.a/\x.a<c.n)/\∃p,p<c.n/\ord.getD p 0=x.a.toNat/\w=ej 0 (-1) p 0)):=by
 obtain⟨kp,mb,K,S,ah,hs,es,ck,C,rfl,h,rfl⟩:=h;by_cases hv:x.a<0\/(c.n:Int)<=x.a
 ·exact(MZ h hv).mono λv H ⟨h1,h2⟩=>⟨h1,.inl ⟨hv,h2⟩⟩
 obtain⟨v,hxv⟩:∃v:Nat,x.a=v:=⟨x.a.toNat,by omega⟩;refine(M0 h hxv zO).mono λw H ⟨h1,p,hp,ho,h2⟩=>⟨h1,.inr ⟨by omega,p,hp,?_,h2⟩⟩;rw[hxv,xa3];exact ho
theorem Fv(h:jl sp c nx F ord tr H):Rd zQ 94 #[ptr sp,x.v] H (λw=>(dx F x.a=false/\w=ej 3 (-1) 0 0)\/(dx F x.a=true/\∃m,Xi (fF F x.a) m/\w=ej 0 (-1) m 0)):=by
 obtain⟨kp,mb,K,S,ah,hs,es,ck,C,rfl,h,rfl⟩:=h;rw[eJ,k7];refine(Cq h (x:=x) (P:=λn e=>e=0/\Xi (bS S hs x.a) n) λr hr=>?_).mono λv H ⟨e,hv⟩=>⟨e,?_⟩
 ·rw[bC hr];exact(Ej h.ks (h.live _ (h.find hr))).mono λv H ⟨e,m,hm,hv⟩=>⟨e,m,0,⟨rfl,hm⟩,hv⟩
 rcases hv with h1|⟨h1,n,e,⟨rfl,hn⟩,h2⟩
 ·exact .inl h1
 exact .inr ⟨h1,n,hn,h2⟩
theorem aae(h:jl sp c nx F ord tr H)(DO:nx+1<9223372036854775808):Fc zQ 86 #[ptr sp,x.v] H (λw H'=>
  (dx F x.a=false/\w=ej 3 (-1) 0 0/\H'=H)\/(dx F x.a=true/\EO (uz F) (fF F x.a)/\w=ej 8 (-1) 0 0/\H'=H)\/
  (dx F x.a=true/\¬EO (uz F) (fF F x.a)/\w=ej 0 nx 0 0/\jl sp c (nx+1) (F++[((nx:Int),fF F x.a)]) ord [] H')):=by
 obtain⟨kp,mb,K,S,ah,hs,es,ck,C,rfl,h,rfl⟩:=h;rw[eJ,k7,rV];cases hm:aG hs x.a with
 |none=>
  refine Fc.mono (Lj h (x:=x) (.inl hm)) λv H ⟨h1,h2⟩=>.inl ⟨rfl,?_,h1⟩;rw[hm]at h2;exact h2
 |some r=>
  have hl:live K.N r:=h.live _ (h.find hm);have hle:=h.ks.gf r;rw[bC hm];by_cases hf:2<=r/\K.hold r=65535
  ·refine Fc.mono (Lj h (x:=x) (.inr ⟨r,hm,hf.1,hf.2⟩)) λv H ⟨h1,h2⟩=>.inr (.inl ⟨rfl,h.full hf.2 hf.1,?_,h1⟩);rw[hm]at h2;exact h2
  refine(U8 h DO hm (λh2=>by omega)).mono ?_;rintro v H ⟨rfl,K',es',bD,C',rfl,h'⟩;refine .inr (.inr ⟨rfl,?_,rfl,kp,mb,K',S,ah,_,es',bD,C',rfl,h',by unfold jk;rw[xaH];rfl⟩);rintro⟨hv,hc⟩;have h2:=(iE h.ks hl).2 hv;rw[<-h.count hl h2]at hc;omega
theorem WQ(h:jl sp c nx F ord tr H):Fc zQ 87 #[ptr sp,x.v] H (λw H'=>(dx F x.a=false/\w=ej 3 (-1) 0 0/\H'=H)\/(dx F x.a=true/\w=ej 0 (-1) 0 0/\jl sp c nx (ig F x.a) ord [] H')):=by
 obtain⟨kp,mb,K,S,ah,hs,es,ck,C,rfl,h,rfl⟩:=h;rw[eJ];cases hm:aG hs x.a with
 |none=>exact Fc.mono (QG h (x:=x) hm) λv H ⟨h1,h2⟩=>.inl ⟨rfl,h2,h1⟩
 |some r=>
  refine(QE h hm).mono ?_;rintro v H ⟨rfl,K',es',C',rfl,h'⟩;exact .inr ⟨rfl,rfl,kp,mb,K',S,ah,_,es',ck,C',rfl,h',T2 _⟩
noncomputable def WN(n:Nat)(F:FS)(ord:zL)(l:Nat):Nat:=BO n ord l (HF (uz F))
theorem WV(h:jl sp c nx F ord tr H)(eR:tr.length<17592186044416):Fc zQ 96 #[ptr sp,x.v] H (λw H'=>
  ((x.a<0\/(c.n:Int)<=x.a+1)/\w=ej 1 (-1) 0 0/\H'=H)\/(∃l:Nat,x.a=l/\l+1<c.n/\¬WN c.n F ord l+2<=c.cap/\w=ej 9 (-1) 0 0/\H'=H)\/
  (∃l:Nat,x.a=l/\l+1<c.n/\WN c.n F ord l+2<=c.cap/\w=ej 0 (-1) 0 0/\jl sp c nx F (fR ord l) (tr++[l]) H')):=by
 obtain⟨kp,mb,K,S,ah,hs,es,ck,C,rfl,h,rfl⟩:=h;by_cases ha:x.a<0\/(c.n:Int)<=x.a+1
 ·exact Fc.mono (CC (x:=x) (e:=1) zD (Td h.ks (l:=x.a) (by rw[h.n];omega))) λv H ⟨h1,h2⟩=>.inl ⟨ha,h2,h1⟩
 obtain⟨l,hl⟩:∃l:Nat,x.a=l:=⟨x.a.toNat,by omega⟩;have BU:l+1<K.n:=by rw[h.n];omega
 have e:WN c.n (jk S hs) ord l=BO K.n ord l (K.held S):=by unfold WN;rw[h.held,rV,h.n]
 by_cases hf:je K S ord l
 ·refine(QH (x:=x) (Q:=λC'=>At kp K S (fR ord l) (tr++[l]) C') (by rw[hl];exact uT h.ks.bg BU eR hf)).mono ?_;rintro v H ⟨rfl,C',rfl,K',S',bW,dk,hk⟩;obtain⟨h',hS⟩:=h.kept dk hk;exact .inr (.inr ⟨l,hl,by omega,by rw[e,<-h.cap];exact hf,rfl,kp,mb,K',S',bW,hs,es,ck,C',rfl,h',mz hS⟩)
 refine Fc.mono (CC (x:=x) (e:=9) zD (by rw[hl];exact nf h.ks.bg BU eR hf)) λv H ⟨h1,h2⟩=>.inr (.inl ⟨l,hl,by omega,?_,h2,h1⟩);rw[e,<-h.cap];exact hf
theorem vC(h:jl sp c nx F ord tr H)(ha:x.a<0\/6<x.a):Rd zQ 97 #[ptr sp,x.v] H (· =ej 1 (-1) 0 0):=by
 obtain⟨kp,mb,K,S,ah,hs,es,ck,C,rfl,h,rfl⟩:=h;exact AM ha
theorem aam(h:At kp K S ord tr C){s:Nat}{gr:Int}(hb:6<s\/gr<100\/1000<gr):Rd zQ 134 #[ptr kp,.int .u8 (s:Int),i64 gr] C (· =i64 1):=by
 refine aE λg=>xR (ae.aI (Br.no (ae.nq (b:=6) (cm.or (a:=decide (6<s)) (decide (gr<100)) (λ_=>ae.lss ⟨rfl,rfl⟩) rfl λ_=>?_))));refine cm.or (a:=decide (6<s)||decide (gr<100)) (decide (1000<gr)) (λ_=>ae.gtr ⟨rfl,rfl⟩) rfl λ_=>?_;rw[<-xa8,<-xa8,xam zO];exact Br.yes (br.mk (.refl _) rfl)
theorem QV(h:At kp K S ord tr C){s:Nat}{gr:Int}(hb:6<s\/gr<100\/1000<gr):Rd zQ 85 #[ptr kp,.int .u8 (s:Int),i64 gr] C (· =.tuple #[uk 0 0 0 false,i64 1]):=by
 refine aE λg=>iL λb1 _=>?_;refine aa.eq (aam h hb) (ae.cO (Br.T (Build.mk (cs:=[iv 0,iv 0,iv 0,.bool false]) zK (St.q ?_))));refine az.q ?_;exact br.mk .tail rfl
theorem vB(h:jl sp c nx F ord tr H){s:Nat}(hs:x.a=s)(Zp:s<=6)(hb:x.b<100\/1000<x.b):Fc zQ 97 #[ptr sp,x.v] H (λw H'=>w=ej 1 (-1) 0 0/\H'=H):=by
 obtain⟨kp,mb,K,S,ah,hs',es,ck,C,rfl,h,rfl⟩:=h;have hle:=gv h.ks.bg;refine(nN (x:=x) hs Zp (Q:=λe _ H=>e=1/\H=C) (Fc.mono (QV h.ks.bg (s:=s) (.inr hb)) λv H ⟨h1,h2⟩=>?_)).mono ?_
 ·subst h1;exact⟨_,_,_,_,_,h2,_,⟨rfl,rfl⟩,cH h.ks.bg,by omega⟩
 rintro v H ⟨e,n,C',rfl,rfl,rfl,rfl⟩;exact⟨rfl,rfl⟩
end
theorem XE{b k len:Nat}{rs:List (List zV)}{T:TypeId}(hr:∀r∈rs,r.length=k)(hk:0<k)(hl:rs.length=len):Sl k [(b,.cells (rows rs) T zZ)] (.slice (some ⟨b,0,none⟩) len len) rs:=by
 have h:=aV.mk' (T:=T) (k:=k) (b:=b) (rs:=rs) (aK:=[]) (n:=len) (c:=len) (by simpa using hr) hl.symm (by simp[hl]);rw[xaL]at h;exact Sl.rj h hk
section
variable {sp nx n cap:Nat} {c:Cf} {F:FS} {ord tr o:zL} {H:Hp} {x:dB}
theorem Db(h:((uz F).length+3)*2^n+2<=cap):¬qu n cap (uz F) (fF F) x o 9:=by
 have room:∀(L2:List ax.Fn) (P:ax.Fn->Prop),L2.length<=3->(∀g,P g->HF (uz F) g\/g∈L2)->Fits (aH n o P) cap:=λL2 P hl hP=>by
  refine FX (L:=uz F++L2) (λg hg=>?_) ?_
  ·rcases hP g hg with h|h
   ·exact xad _ h.1
   exact xab _ h
  rw[xaf];exact xbS (Nat.add_le_add_right (xaZ _ zO) 2) h
 unfold qu;split
 ·rintro(h|⟨_,i,_,_,hf⟩|⟨h,_⟩)
  ·cases h
  ·refine hf (room [qm true (bitsOf x.x i) (fF F x.a),qf true i (qm true (bitsOf x.x i) (fF F x.a))] _ zI λg hg=>?_);rcases hg with(h|⟨_,h⟩)|h
   ·exact .inl h
   ·exact .inr (by simp[h])
   exact .inr (by simp[h])
  cases h
 split
 ·rintro(h|⟨_,i,_,_,hf⟩|⟨h,_⟩)
  ·cases h
  ·refine hf (room [qm false (bitsOf x.x i) (fF F x.a),qf false i (qm false (bitsOf x.x i) (fF F x.a))] _ zI λg hg=>?_);rcases hg with(h|⟨_,h⟩)|h
   ·exact .inl h
   ·exact .inr (by simp[h])
   exact .inr (by simp[h])
  cases h
 split
 ·rintro(h|⟨_,hf|hf|hf⟩|⟨h,_⟩)
  ·cases h
  ·exact hf (room [_] _ zI λg hg=>hg.imp id λh=>by simpa using h)
  ·refine hf (room [λy=>fF F x.a (ak.aB y x.b.toNat false),λy=>fF F x.a (ak.aB y x.b.toNat true)] _ zI λg hg=>?_);rcases hg with(h|h)|h
   ·exact .inl h
   ·exact .inr (by simp[h])
   exact .inr (by simp[h])
  ·refine hf (room [λy=>fF F x.a (ak.aB y x.b.toNat false),λy=>fF F x.a (ak.aB y x.b.toNat true),cB n (fF F) x] _ zI λg hg=>?_);rcases hg with((h|h)|h)|h
   ·exact .inl h
   ·exact .inr (by simp[h])
   ·exact .inr (by simp[h])
   exact .inr (by simp[h])
  cases h
 rintro(⟨h,_⟩|⟨_,hf⟩|⟨h,_⟩)
 ·cases h
 ·exact hf (room [_] _ zI λg hg=>hg.imp id λh=>by simpa using h)
 cases h
theorem aak(L:List ax.Fn)(g:ax.Fn):yp L g<=L.length:=List.countP_le_length
theorem Dc(h:qu n cap (uz F) (fF F) x o 8):∃g,65533<=yp (uz F) g:=by
 unfold qu at h;split at h
 ·rcases h with h|⟨h,_⟩|⟨_,g,hg⟩
  ·cases h
  ·cases h
  exact⟨g,by omega⟩
 split at h
 ·rcases h with h|⟨h,_⟩|⟨_,g,hg⟩
  ·cases h
  ·cases h
  exact⟨g,by omega⟩
 split at h
 ·rcases h with h|⟨h,_⟩|⟨_,g,hg⟩
  ·cases h
  ·cases h
  exact⟨g,by omega⟩
 rcases h with⟨h,_⟩|⟨h,_⟩|⟨_,h⟩
 ·cases h
 ·cases h
 exact⟨_,xbS zD h.2⟩
theorem Vr(h:(uz F).length<65533):¬qu n cap (uz F) (fF F) x o 8:=λht=>by
 obtain⟨g,hg⟩:=Dc ht;have:=aak (uz F) g;omega
theorem sK{w f:Nat}(h:jl sp c nx F ord tr H)(hc:c.Ok)(DO:nx+1<9223372036854775808)(hx:x.x<18446744073709551616)(hm:cY x.op=some (w,f))(hf:jx f x.op w)(fN:aT zQ f=true)(hw:w<256)(hl:iu c.n F w x=0)
 (hr:(F.length+3)*2^c.n+2<=c.cap)(h8:F.length<65533):
  Fc zQ 16 #[ptr sp,x.v] H (λv H'=>v=ej 0 nx 0 1/\jl sp c (nx+1) (F++[((nx:Int),cB c.n (fF F) x)]) ord [] H'):=by
 have hlen:(uz F).length=F.length:=by unfold uz;rw[xav]
 have no9:∀o,¬qu c.n c.cap (uz F) (fF F) x o 9:=λo=>Db (by rw[hlen];exact hr);refine q7 (λv H h=>?_) (λw' f' hm'=>?_) (λf hn=>by rw[hm]at hn;cases hn) (λhn=>by rw[hm]at hn;cases hn)
 ·obtain⟨rfl,_⟩:=h;exact⟨_,_,_,_,rfl⟩
 rw[hm]at hm';cases hm';refine(LG (R:=λ_ _=>False) h hc DO hx hf fN hw hl λhT _ _=>absurd hT (no9 _)).mono ?_;rintro v H' ⟨t,o,cX,ht,hT,hq⟩;have h1:t=1/\o=ord:=by
  cases hT with
  |one=>exact⟨rfl,rfl⟩
  |more h h9 _=>exact absurd h9 (no9 _)
 obtain⟨rfl,rfl⟩:=h1;rcases hq with⟨rfl,h',_⟩|⟨e,he,_,_,SM,_⟩
 ·exact⟨rfl,h'⟩
 rcases he with rfl|rfl
 ·exact absurd SM (Vr (by rw[hlen];exact h8))
 exact absurd SM (no9 _)
theorem VC{w f:Nat}(h:jl sp c nx F ord tr H)(hx:x.x<18446744073709551616)(hm:cY x.op=some (w,f))(hw:w<256)(hl:iu c.n F w x≠0):
  Fc zQ 16 #[ptr sp,x.v] H (λv H'=>v=ej (iu c.n F w x) (-1) 0 0/\H'=H):=by
 refine q7 (λv H h=>?_) (λw' f' hm'=>?_) (λf hn=>by rw[hm]at hn;cases hn) (λhn=>by rw[hm]at hn;cases hn)
 ·obtain⟨rfl,_⟩:=h;exact⟨_,_,_,_,rfl⟩
 rw[hm]at hm';cases hm';exact Fc.mono (v5 h hx hw hl) λv H ⟨e1,e2⟩=>⟨e2,e1⟩
theorem mw{f:Nat}{Q:zV->Hp->Prop}(hm:cY x.op=none)(ha:ng x.op=some f)(hQ:∀v H,Q v H->aaE v)(h:Fc zQ f #[ptr sp,x.v] H Q):Fc zQ 16 #[ptr sp,x.v] H Q:=
 q7 hQ (λw f hn=>by rw[hm]at hn;cases hn) (λf' _ er _=>by rw[ha]at er;cases er;exact h) (λ_ hn=>by rw[ha]at hn;cases hn)
end
def awS:List dB:=[⟨1,0,0,0,0⟩,⟨1,1,0,0,0⟩,⟨4,0,1,0,0⟩,⟨16,2,0,0,0⟩,⟨14,2,0,0,3⟩,⟨1,2,0,0,0⟩]
def awR:List Rp:=[⟨0,0,0,1⟩,⟨0,1,0,1⟩,⟨0,2,0,1⟩,⟨0, -1,1,0⟩,⟨0, -1,1,0⟩,⟨2, -1,0,0⟩]
def awF:FS:=[(0,λy=>y.testBit 0),(1,λy=>y.testBit 1),(2,λy=>y.testBit 0&&y.testBit 1)]
def Ym:Cf:=⟨2,1048576,0,100,0⟩
theorem BC:Ym.Ok:=⟨by decide,by decide,by decide,by decide,by decide,by decide⟩
theorem W9{i sp:Nat}{H:Hp}{x:dB}(hx:awS[i]? =some x)(h:jl sp Ym (min i 3) (awF.take i) [0,1] [] H):
  Fc zQ 16 #[ptr sp,x.v] H (λv H'=>∃r,awR[i]? =some r/\v=r.v/\jl sp Ym (min (i+1) 3) (awF.take (i+1)) [0,1] [] H'):=by
 have hi:i<6:=(xah.1 hx).1;obtain rfl|rfl|rfl|rfl|rfl|rfl:i=0\/i=1\/i=2\/i=3\/i=4\/i=5:=by omega
 ·cases hx;refine(sK h BC zD zD (w:=8) rfl (r5 rfl).1 (r5 (x:=⟨1,0,0,0,0⟩) rfl).2 zD rfl zD zD).mono ?_;rintro v H' ⟨rfl,h'⟩;exact⟨_,rfl,rfl,h'⟩
 ·cases hx;refine(sK h BC zD zD (w:=8) rfl (r5 rfl).1 (r5 (x:=⟨1,1,0,0,0⟩) rfl).2 zD rfl zD zD).mono ?_;rintro v H' ⟨rfl,h'⟩;exact⟨_,rfl,rfl,h'⟩
 ·cases hx;refine(sK h BC zD zD (w:=3) rfl (Es rfl).1 (Es (x:=⟨4,0,1,0,0⟩) rfl).2 zD rfl zD zD).mono ?_;rintro v H' ⟨rfl,h'⟩;exact⟨_,rfl,rfl,h'⟩
 ·cases hx;refine mw (f:=90) rfl rfl (λv H h=>?_) (Fc.mono (AS h) ?_)
  ·obtain⟨r,_,rfl,_⟩:=h;exact⟨_,_,_,_,rfl⟩
  rintro v H' ⟨rfl,rfl⟩;refine⟨_,rfl,?_,h⟩;have:sat 2 (λy=>y.testBit 0&&y.testBit 1)%yC=1:=by decide+kernel
  show ej 0 (-1) (sat 2 (λy=>y.testBit 0&&y.testBit 1)%yC) 0=_;rw[this];rfl
 ·cases hx;refine mw (f:=88) rfl rfl (λv H h=>?_) (Fc.mono (Bp h zD) ?_)
  ·obtain⟨r,_,rfl,_⟩:=h;exact⟨_,_,_,_,rfl⟩
  rintro v H' ⟨rfl,rfl⟩;exact⟨_,rfl,rfl,h⟩
 cases hx;refine(VC h zD (w:=8) rfl zD zD).mono ?_;rintro v H' ⟨rfl,rfl⟩;exact⟨_,rfl,rfl,h⟩
set_option maxHeartbeats 1000000 in
theorem Hf(B:Hp):Rd zQ 13 #[] B (· =.bool true):=by
 refine aE λg=>Py (aa.eq (Q7 2 _) (Build.mk (cs:=dB.cells ⟨1,0,0,0,0⟩) zK ?_));refine Build.mk (cs:=dB.cells ⟨1,1,0,0,0⟩) zK (Build.mk (cs:=dB.cells ⟨4,0,1,0,0⟩) zK (Build.mk (cs:=dB.cells ⟨16,2,0,0,0⟩) zK (Build.mk (cs:=dB.cells ⟨14,2,0,0,3⟩) zK (Build.mk (cs:=dB.cells ⟨1,2,0,0,0⟩) zK ?_))));refine au.many (e:=35) (k:=5) (z:=.agg #[.int .u8 0,i64 0,i64 0,i64 0,u64 0]) (awS.map dB.cells) zK zK zK zD zD rfl rfl λbx=>?_;refine aa.fn (bH.left (A:=B)) (Vj (c:=Ym.i) (steps:=awS) (Y:=[(bx,_)]) (XE zD zD rfl) zD (λi sp l H=>l=awR.take i/\jl sp Ym (min i 3) (awF.take i) [0,1] [] H) (λd hd hok sp kp mb C hK=>?_) (λi sp l H x he hx hI hl=>?_)) ?_
 ·have:d=Ym:=by
   obtain⟨a1,a2,a3,a4,a5⟩:=d;simp only[Ym,Cf.i,xZ.mk.injEq]at hd;simp only[Ym,Cf.mk.injEq];omega
  subst this;exact⟨rfl,LL hK⟩
 ·obtain⟨rfl,hI⟩:=hI;refine(W9 hx hI).mono ?_;rintro v H' ⟨r,hr,rfl,h'⟩;exact⟨r,rfl,by rw[xbs,hr];rfl,h'⟩
 rintro w H (⟨hne,_⟩|⟨_,sp,l,s,CR,HS,rfl,rfl,hR,hl,hI⟩)
 ·exact absurd BC.ie hne
 have hl6:l=awR:=hI.1;subst hl6;refine Ext.two (Build.mk (cs:=Rp.cells ⟨0,0,0,1⟩) zK (Build.mk (cs:=Rp.cells ⟨0,1,0,1⟩) zK (Build.mk (cs:=Rp.cells ⟨0,2,0,1⟩) zK (Build.mk (cs:=Rp.cells ⟨0, -1,1,0⟩) zK (Build.mk (cs:=Rp.cells ⟨0, -1,1,0⟩) zK (Build.mk (cs:=Rp.cells ⟨2, -1,0,0⟩) zK ?_))))));refine au.many (e:=37) (k:=4) (z:=.agg #[i64 0,i64 0,u64 0,i64 0]) (awR.map Rp.cells) zK zK zK zD zD rfl rfl λby'=>?_;intro J23 h23;refine ae.gX (Split.go zD ?_);refine aa.eh .here (Nh (l:=awR) (r:=awR) ((Sl.rj hR zD).mono λ_ h=>?_) ((XE (T:=37) zD zD rfl).mono λ_ h=>?_) zD) ?_
 ·exact .tail _ (xad _ (xad _ h))
 ·rw[xaz.1 h];exact .head _
 rw[lR.2 rfl];refine aM.mk (JE.mk (h23 _ _ λ_=>?_));exact br.mk (.skip aN.right) rfl
def g0:ax.Fn:=λy=>y.testBit 0
def g1:ax.Fn:=λy=>y.testBit 1
def g2:ax.Fn:=λy=>y.testBit 0&&y.testBit 1
def g3:ax.Fn:=λy=> !g2 y
def g4:ax.Fn:=λ_=>decide ((0:Int)=1)
section
variable {sp nx kp:Nat} {c:Cf} {F F':FS} {ord tr:zL} {H C:Hp} {x:dB} {K:Kd} {S:Nat->ax.Fn}
theorem Dy(h:jl sp c nx F ord tr H):Rd zQ 93 #[ptr sp,x.v] H (λw=>(dx F x.a=false/\w=ej 3 (-1) 0 0)\/(dx F x.a=true/\fF F x.a=(λ_=>false)/\w=ej 10 (-1) 0 0)\/
  (dx F x.a=true/\fF F x.a≠(λ_=>false)/\∃V,V<18446744073709551616/\Lst c.n (fF F x.a) V/\w=ej 0 (-1) V 0)):=by
 obtain⟨kp,mb,K,S,ah,hs,es,ck,C,rfl,h,rfl⟩:=h;rw[eJ,k7];refine(M1 h (x:=x) (P:=λn e=>(bS S hs x.a=(λ_=>false)/\n=0/\e=10)\/(bS S hs x.a≠(λ_=>false)/\e=0/\n<18446744073709551616/\Lst c.n (bS S hs x.a) n)) λr hr=>?_).mono λv H ⟨e,hv⟩=>⟨e,?_⟩
 ·rw[bC hr];have hl:=h.live _ (h.find hr);have ab1:S r=(λ_=>false)↔r=0:=by
   rw[<-show S 0=λ_=>false from funext h.ks.ok.mid.int.zero];exact h.same hl (.inl zD)
  by_cases h0:r=0
  ·subst h0;exact(Ns h.ks).mono λv H ⟨e,hv⟩=>⟨e,0,10,.inl ⟨ab1.2 rfl,rfl,rfl⟩,hv⟩
  refine(Nq h.ks hl h0).mono λv H ⟨e,V,hV,hL,hv⟩=>⟨e,V,0,.inr ⟨λe=>h0 (ab1.1 e),rfl,hV,by rw[<-h.n];exact hL⟩,hv⟩
 rcases hv with h1|⟨h1,n,e,⟨a,rfl,rfl⟩|⟨a,rfl,hV,hL⟩,h2⟩
 ·exact .inl h1
 ·exact .inr (.inl ⟨h1,a,h2⟩)
 exact .inr (.inr ⟨h1,a,n,hV,hL,h2⟩)
theorem QO{b:Nat}{T:zL->Nat->Prop}(hc:c.Ok)(hb:b<16000000000000):T6 c nx F T (λ_ _=>True) b:=by
 intro kp K S o ah tr hs' es ck C hT h hF eR;refine(Ln h.ks.bg h.ks.perm hc.str hc.gr (λe=>by rw[h.n];exact hc.ex e) zO).mono ?_;rintro v H ⟨ls,d,t,rfl,hA,hS,_⟩;exact⟨ls,_,_,rfl,trivial,hA,hS.len⟩
theorem FJ(h:jl sp c nx F ord tr H)(eR:tr.length<16000000000000):Fc zQ 97 #[ptr sp,x.v] H (λw H'=>∃(e:Int) (n:Nat) (o cX:zL),w=ej e (-1) n 0/\(e≠9/\e≠8)/\(e≠0->n=0)/\jl sp c nx F o cX H'/\cX.length<=tr.length+66*B1 c.n F ord):=by
 by_cases ha:x.a<0\/6<x.a
 ·exact Fc.mono (vC h ha) λv H ⟨h1,h2⟩=>⟨1,0,ord,tr,h2,by decide,λ_=>rfl,by rw[h1];exact h,by omega⟩
 obtain⟨s,hs⟩:∃s:Nat,x.a=s:=⟨x.a.toNat,by omega⟩;have Zp:s<=6:=by omega
 by_cases hb:x.b<100\/1000<x.b
 ·exact(vB h hs Zp hb).mono λv H ⟨h1,h2⟩=>⟨1,0,ord,tr,h1,by decide,λ_=>rfl,by rw[h2];exact h,by omega⟩
 obtain⟨g,hg⟩:∃g:Nat,x.b=g:=⟨x.b.toNat,by omega⟩;obtain⟨kp,mb,K,S,ah,hs',es,ck,C,rfl,h,rfl⟩:=h;have hle:=λ(o:zL) (tr:zL) (C:Hp) (h:At kp K S o tr C)=>gv h;rw[<-h.B1];have keep:∀(o cX:zL) (C':Hp),At kp K S o cX C'->jl sp c nx (jk S hs') o cX (gS sp c kp mb nx es ck C'):=λo cX C' hA=>by
  obtain⟨K',S',bW,dk,hk⟩:=hA;obtain⟨h',hS⟩:=h.kept dk hk;exact⟨kp,mb,K',S',bW,hs',es,ck,C',rfl,h',mz hS⟩
 by_cases hx:s=6/\12<c.n
 ·obtain⟨rfl,hn⟩:=hx;have hv:Rd zQ 85 #[ptr kp,.int .u8 6,i64 x.b] C (· =.tuple #[uk 0 0 0 false,iv 6]):=by rw[hg];exact QR h.ks.bg (gr:=g) zO (by rw[h.n];exact hn)
  refine(nN (x:=x) hs Zp (Q:=λe _ H=>e=6/\H=C) (Fc.mono hv λv H ⟨h1,h2⟩=>?_)).mono ?_
  ·subst h1;exact⟨_,_,_,_,_,h2,_,⟨rfl,rfl⟩,cH h.ks.bg,by have:=hle _ _ _ h.ks.bg;omega⟩
  rintro v H ⟨e,n,C',rfl,rfl,rfl,rfl⟩;exact⟨6,0,ord,tr,rfl,by decide,λ_=>rfl,keep _ _ _ h.ks.bg,by omega⟩
 refine(nN (x:=x) hs Zp (Q:=λe _ H=>e=0/\∃ls,At kp K S (aA ord ls) (tr++ls) H/\ls.length+66*cI K S (aA ord ls)<=66*cI K S ord) (Fc.mono (by rw[hg];exact Ln h.ks.bg h.ks.perm Zp (gr:=g) zO (λe=>by rw[h.n];omega) zO) ?_)).mono ?_
 ·rintro v H ⟨ls,d,t,rfl,hA,hS,_⟩;exact⟨_,_,_,_,_,rfl,_,⟨rfl,ls,hA,hS.len⟩,cH hA,by have:=hle _ _ _ hA;omega⟩
 rintro v H ⟨e,n,C',rfl,rfl,rfl,ls,hA,hlen⟩;exact⟨0,n,_,_,rfl,by decide,λh=>absurd rfl h,keep _ _ _ hA,by rw[xaf];omega⟩
def aeh(n:Nat)(F:FS)(x:dB)(e:Int)(N:Nat):Prop:=
 (x.op=14\/x.op=15\/x.op=16\/x.op=19\/x.op=20)->
 if(dx F x.a&& (decide (x.op≠15)||dx F x.b))=true then
  (x.op=14->e=0/\N=(fF F x.a x.x).toNat)/\(x.op=15->e=0/\N=(@decide (fF F x.a=fF F x.b) (Classical.propDecidable _)).toNat)/\(x.op=16->e=0/\N=sat n (fF F x.a)%yC)/\
  (x.op=19->(fF F x.a=(λ_=>false)/\e=10/\N=0)\/(fF F x.a≠(λ_=>false)/\e=0/\Lst n (fF F x.a) N))/\(x.op=20->e=0/\Xi (fF F x.a) N)
 else e=3/\N=0
def Want(n nx:Nat)(F:FS)(x:dB)(e h:Int)(N:Nat)(F':FS)(mF:Nat):Prop:=
 match cY x.op with
 |some (w,_)=>if iu n F w x=0 then e=0/\h=nx/\N=0/\F'=F++[((nx:Int),cB n (fF F) x)]/\mF=nx+1 else e=iu n F w x/\h= -1/\N=0/\F'=F/\mF=nx
 |none=>
  if x.op=12 then if dx F x.a=true then e=0/\h=nx/\N=0/\F'=F++[((nx:Int),fF F x.a)]/\mF=nx+1 else e=3/\h= -1/\N=0/\F'=F/\mF=nx
  else if x.op=13 then if dx F x.a=true then e=0/\h= -1/\N=0/\F'=ig F x.a/\mF=nx else e=3/\h= -1/\N=0/\F'=F/\mF=nx
  else h= -1/\F'=F/\mF=nx/\aeh n F x e N
def Small(n rs nx:Nat)(F:FS)(x:dB)(r:Rp)(F':FS)(mF:Nat):Prop:=
 (r.e=9/\r.h= -1/\F'=F/\mF=nx/\((x.op=22/\r.t=0)\/((1<=x.op/\x.op<=11)/\r.t=(rs:Int)+1)))\/
 (r.e≠9/\r.e≠8/\Want n nx F x r.e r.h r.n F' mF/\(if 1<=x.op/\x.op<=11 then(r.e=0->1<=r.t/\r.t<=(rs:Int)+1)/\(r.e≠0->r.t=0)else r.t=0))
def Full(rs nx:Nat)(F:FS)(x:dB)(r:Rp)(F':FS)(mF:Nat):Prop:=
 r.e=8/\r.h= -1/\F'=F/\mF=nx/\(∃g,65533<=yp (uz F) g)/\((x.op=12/\r.t=0)\/((1<=x.op/\x.op<=11)/\1<=r.t/\r.t<=(rs:Int)+1))
def jw(sp:Nat)(c:Cf)(nx:Nat)(F:FS)(ord tr:zL)(x:dB)(v:zV)(H:Hp):Prop:=
 ∃(r:Rp) (F':FS) (mF:Nat) (o cX:zL),v=r.v/\jl sp c mF F' o cX H/\cX.length<=tr.length+66*B1 c.n F ord+1/\(Small c.n c.rs nx F x r F' mF\/Full c.rs nx F x r F' mF)/\((F.length+3)*2^c.n+2<=c.cap->x.op≠22->r.e≠9)/\(r.e≠0\/x.op<=13->r.n=0)
end
section
variable {sp nx kp:Nat} {c:Cf} {F F':FS} {ord tr:zL} {H C:Hp} {x:dB}
theorem zc{n w:Nat}:iu n F w x=0\/iu n F w x=1\/iu n F w x=2\/iu n F w x=3:=by
 unfold iu
 repeat' split
 all_goals simp
theorem rD{op:Nat}{p:Nat×Nat}(hm:cY op=some p):1<=op/\op<=11:=by
 unfold cY at hm
 repeat' split at hm
 all_goals first|omega|cases hm
theorem TR{op f:Nat}(hm:ng op=some f):op=12\/op=13\/op=14\/op=15\/op=16\/op=17\/op=18\/op=19\/op=20\/op=21\/op=22\/op=23:=by
 refine xaD λhn=>?_;unfold ng at hm;rw[xac zO,xac zO,xac zO,xac zO,xac zO,xac zO,xac zO,xac zO,xac zO,xac zO,xac zO,xac zO]at hm;cases hm
theorem jw.rp{v:zV}(h:jw sp c nx F ord tr x v H):aaE v:=by
 obtain⟨r,_,_,_,_,e,_⟩:=h;exact⟨r.e,r.h,r.n,r.t,e⟩
theorem cR{n:Nat}{e:Int}{N:Nat}(hm:cY x.op=none)(h1:x.op≠12)(h2:x.op≠13)(hA:aeh n F x e N):Want n nx F x e (-1) N F nx:=by
 unfold Want;rw[hm];dsimp only;rw[xac h1,xac h2];exact⟨rfl,rfl,rfl,hA⟩
theorem bF{v:zV}{H':Hp}{o cX:zL}(hop:12<=x.op\/x.op=0)(e:Int)(N:Nat)(hv:v=ej e (-1) N 0)(he:e≠9/\e≠8)(h':jl sp c nx F o cX H')(hb:cX.length<=tr.length+66*B1 c.n F ord+1)(hW:Want c.n nx F x e (-1) N F nx)(hN:e≠0\/x.op<=13->N=0):jw sp c nx F ord tr x v H':=
 ⟨⟨e, -1,N,0⟩,F,nx,o,cX,hv,h',hb,.inl (.inr ⟨he.1,he.2,hW,by rw[xac zO]⟩),λ_ _=>he.1,hN⟩
theorem MX(h:jl sp c nx F ord tr H)(hc:c.Ok)(DO:nx+1<9223372036854775808)(hx:x.x<18446744073709551616)(eR:tr.length+66*B1 c.n F ord<16000000000000):
  Fc zQ 16 #[ptr sp,x.v] H (jw sp c nx F ord tr x):=by
 have hlen:(uz F).length=F.length:=by unfold uz;rw[xav]
 refine q7 (λv H h=>h.rp) (λw f hm=>?_) (λf hm ha fN=>?_) (λhm ha=>?_)
 ·obtain⟨hf,fN,hw⟩:=W4 hm;have hop:=rD hm;by_cases hl:iu c.n F w x=0
  ·refine(LG (R:=λ_ _=>True) h hc DO hx hf fN hw hl (QO hc zO)).mono ?_;rintro v H' ⟨t,o,cX,ht,hT,⟨rfl,h',h0⟩|⟨e,he,rfl,h',SM,h9,hb⟩⟩
   ·refine⟨⟨0,nx,0,t⟩,_,_,o,[],rfl,h',by simp,.inl (.inr ⟨by simp,by simp,?_,?_⟩),λ_ _=>by simp,λ_=>rfl⟩
    ·unfold Want;rw[hm];dsimp only;rw[xae hl];exact⟨rfl,rfl,rfl,rfl,rfl⟩
    rw[xae hop];have:=hT.pos;exact⟨λ_=>⟨by simp only;omega,by simp only;omega⟩,λh=>absurd rfl h⟩
   rcases he with rfl|rfl
   ·have:=hT.pos;exact⟨⟨8, -1,0,t⟩,F,nx,o,cX,rfl,h',by omega,.inr ⟨rfl,rfl,rfl,rfl,Dc SM,.inr ⟨hop,by simp only;omega,by simp only;omega⟩⟩,λ_ _=>by simp,λ_=>rfl⟩
   have ht9:=h9 rfl;subst ht9;refine⟨⟨9, -1,0,((c.rs+1:Nat):Int)⟩,F,nx,o,cX,rfl,h',by omega,.inl (.inl ⟨rfl,rfl,rfl,rfl,.inr ⟨hop,by simp⟩⟩),λhr _=>absurd SM (Db (by rw[hlen];exact hr)),λ_=>rfl⟩
  refine Fc.mono (v5 h hx hw hl) λv H' ⟨e1,e2⟩=>?_;have ali:=zc (n:=c.n) (F:=F) (w:=w) (x:=x);refine⟨⟨iu c.n F w x, -1,0,0⟩,F,nx,ord,tr,e2,by rw[e1];exact h,by omega,.inl (.inr ⟨by simp only;omega,by simp only;omega,?_,?_⟩),λ_ _=>by simp only;omega,λ_=>rfl⟩
  ·unfold Want;rw[hm];dsimp only;rw[xac hl];exact⟨rfl,rfl,rfl,rfl,rfl⟩
  rw[xae hop];exact⟨λh=>absurd h hl,λ_=>rfl⟩
 ·rcases TR ha with e|e|e|e|e|e|e|e|e|e|e|e
  ·have hd:Fc zQ 86 #[ptr sp,x.v] H (jw sp c nx F ord tr x):=by
    refine(aae h DO).mono ?_;rintro v H' (⟨e1,rfl,rfl⟩|⟨_,hF,e8,e9⟩|⟨e1,_,rfl,h'⟩)
    ·refine bF zO 3 0 rfl zD h zO ?_ (λ_=>rfl);unfold Want;rw[hm];dsimp only;rw[xae e,xac (by rw[e1];decide)];exact⟨rfl,rfl,rfl,rfl,rfl⟩
    ·exact⟨⟨8, -1,0,0⟩,F,nx,ord,tr,e8,by rw[e9];exact h,by omega,.inr ⟨rfl,rfl,rfl,rfl,⟨_,xbS zD hF.2⟩,.inl ⟨e,rfl⟩⟩,λ_ _=>by simp,λ_=>rfl⟩
    refine⟨⟨0,nx,0,0⟩,_,_,ord,[],rfl,h',by simp,.inl (.inr ⟨by simp,by simp,?_,by rw[xac zO]⟩),λ_ _=>by simp,λ_=>rfl⟩;unfold Want;rw[hm];dsimp only;rw[xae e,xae e1];exact⟨rfl,rfl,rfl,rfl,rfl⟩
   rw[e]at ha;cases ha;exact hd
  ·have hd:Fc zQ 87 #[ptr sp,x.v] H (jw sp c nx F ord tr x):=by
    refine(WQ h).mono ?_;rintro v H' (⟨e1,rfl,rfl⟩|⟨e1,rfl,h'⟩)
    ·refine bF zO 3 0 rfl zD h zO ?_ (λ_=>rfl);unfold Want;rw[hm];dsimp only;rw[xac zO,xae e,xac (by rw[e1];decide)];exact⟨rfl,rfl,rfl,rfl,rfl⟩
    refine⟨⟨0, -1,0,0⟩,_,_,ord,[],rfl,h',by simp,.inl (.inr ⟨by simp,by simp,?_,by rw[xac zO]⟩),λ_ _=>by simp,λ_=>rfl⟩;unfold Want;rw[hm];dsimp only;rw[xac zO,xae e,xae e1];exact⟨rfl,rfl,rfl,rfl,rfl⟩
   rw[e]at ha;cases ha;exact hd
  ·have hd:Fc zQ 88 #[ptr sp,x.v] H (jw sp c nx F ord tr x):=by
    refine Fc.mono (Bp h hx) λv H' ⟨e1,e2⟩=>?_;subst e1;cases hb:dx F x.a with
    |true=>
     rw[hb,xae rfl]at e2;refine bF zO 0 _ e2 zD h zO (cR hm zO zO λ_=>?_) (λh=>by omega);rw[xae (by rw[hb,e];rfl)];exact⟨λ_=>⟨rfl,rfl⟩,by omega,by omega,by omega,by omega⟩
    |false=>
     rw[hb,xac zD]at e2;refine bF zO 3 0 e2 zD h zO (cR hm zO zO λ_=>?_) (λ_=>rfl);rw[xac (by rw[hb];simp)];exact⟨rfl,rfl⟩
   rw[e]at ha;cases ha;exact hd
  ·have hd:Fc zQ 89 #[ptr sp,x.v] H (jw sp c nx F ord tr x):=by
    refine Fc.mono (Lm h) λv H' ⟨e1,e2⟩=>?_;subst e1;cases hb:dx F x.a&&dx F x.b with
    |true=>
     rw[hb,xae rfl]at e2;refine bF zO 0 _ e2 zD h zO (cR hm zO zO λ_=>?_) (λh=>by omega);rw[xae (by rw[e];simpa using hb)];exact⟨by omega,λ_=>⟨rfl,rfl⟩,by omega,by omega,by omega⟩
    |false=>
     rw[hb,xac zD]at e2;refine bF zO 3 0 e2 zD h zO (cR hm zO zO λ_=>?_) (λ_=>rfl);rw[xac (by rw[e];simp only[ne_eq,not_true_eq_false,xdq,xdA];rw[hb];decide)];exact⟨rfl,rfl⟩
   rw[e]at ha;cases ha;exact hd
  ·have hd:Fc zQ 90 #[ptr sp,x.v] H (jw sp c nx F ord tr x):=by
    refine Fc.mono (AS h) λv H' ⟨e1,e2⟩=>?_;subst e1;cases hb:dx F x.a with
    |true=>
     rw[hb,xae rfl]at e2;refine bF zO 0 _ e2 zD h zO (cR hm zO zO λ_=>?_) (λh=>by omega);rw[xae (by rw[hb,e];rfl)];exact⟨by omega,by omega,λ_=>⟨rfl,rfl⟩,by omega,by omega⟩
    |false=>
     rw[hb,xac zD]at e2;refine bF zO 3 0 e2 zD h zO (cR hm zO zO λ_=>?_) (λ_=>rfl);rw[xac (by rw[hb];simp)];exact⟨rfl,rfl⟩
   rw[e]at ha;cases ha;exact hd
  ·have hd:Fc zQ 91 #[ptr sp,x.v] H (jw sp c nx F ord tr x):=by
    refine Fc.mono (U2 h) λv H' ⟨e1,e2⟩=>?_;subst e1;have w:∀e' N,Want c.n nx F x e' (-1) N F nx:=λe' N=>cR hm zO zO λ_=>by omega
    cases hb:dx F x.a with
    |true=>
     rw[hb,xae rfl]at e2;exact bF zO 0 _ e2 zD h zO (w _ _) (λh=>by omega)
    |false=>
     rw[hb,xac zD]at e2;exact bF zO 3 0 e2 zD h zO (w _ _) (λ_=>rfl)
   rw[e]at ha;cases ha;exact hd
  ·have hd:Fc zQ 92 #[ptr sp,x.v] H (jw sp c nx F ord tr x):=by
    refine Fc.mono (VL h) λv H' ⟨e1,e2⟩=>?_;subst e1;exact bF zO 0 _ e2 zD h zO (cR hm zO zO λ_=>by omega) (λh=>by omega)
   rw[e]at ha;cases ha;exact hd
  ·have hd:Fc zQ 93 #[ptr sp,x.v] H (jw sp c nx F ord tr x):=by
    refine Fc.mono (Dy h) λv H' ⟨e1,e2⟩=>?_;subst e1;rcases e2 with⟨hb,e2⟩|⟨hb,hf,e2⟩|⟨hb,hf,V,hV,hL,e2⟩
    ·refine bF zO 3 0 e2 zD h zO (cR hm zO zO λ_=>?_) (λ_=>rfl);rw[xac (by rw[hb];simp)];exact⟨rfl,rfl⟩
    ·refine bF zO 10 0 e2 zD h zO (cR hm zO zO λ_=>?_) (λ_=>rfl);rw[xae (by rw[hb,e];rfl)];exact⟨by omega,by omega,by omega,λ_=>.inl ⟨hf,rfl,rfl⟩,by omega⟩
    refine bF zO 0 V e2 zD h zO (cR hm zO zO λ_=>?_) (λh=>by omega);rw[xae (by rw[hb,e];rfl)];exact⟨by omega,by omega,by omega,λ_=>.inr ⟨hf,rfl,hL⟩,by omega⟩
   rw[e]at ha;cases ha;exact hd
  ·have hd:Fc zQ 94 #[ptr sp,x.v] H (jw sp c nx F ord tr x):=by
    refine Fc.mono (Fv h) λv H' ⟨e1,e2⟩=>?_;subst e1;rcases e2 with⟨hb,e2⟩|⟨hb,m,hm',e2⟩
    ·refine bF zO 3 0 e2 zD h zO (cR hm zO zO λ_=>?_) (λ_=>rfl);rw[xac (by rw[hb];simp)];exact⟨rfl,rfl⟩
    refine bF zO 0 m e2 zD h zO (cR hm zO zO λ_=>?_) (λh=>by omega);rw[xae (by rw[hb,e];rfl)];exact⟨by omega,by omega,by omega,by omega,λ_=>⟨rfl,hm'⟩⟩
   rw[e]at ha;cases ha;exact hd
  ·have hd:Fc zQ 95 #[ptr sp,x.v] H (jw sp c nx F ord tr x):=by
    refine Fc.mono (Rv h) λv H' ⟨e1,e2⟩=>?_;subst e1;have w:∀e' N,Want c.n nx F x e' (-1) N F nx:=λe' N=>cR hm zO zO λ_=>by omega
    rcases e2 with⟨_,e2⟩|⟨_,p,_,_,e2⟩
    ·exact bF zO 2 0 e2 zD h zO (w _ _) (λ_=>rfl)
    exact bF zO 0 p e2 zD h zO (w _ _) (λh=>by omega)
   rw[e]at ha;cases ha;exact hd
  ·have hd:Fc zQ 96 #[ptr sp,x.v] H (jw sp c nx F ord tr x):=by
    refine(WV h zO).mono ?_;have w:∀e' N,Want c.n nx F x e' (-1) N F nx:=λe' N=>cR hm zO zO λ_=>by omega
    rintro v H' (⟨_,e2,rfl⟩|⟨l,_,_,_,e2,rfl⟩|⟨l,_,_,_,e2,h'⟩)
    ·exact bF zO 1 0 e2 zD h zO (w _ _) (λ_=>rfl)
    ·exact⟨⟨9, -1,0,0⟩,F,nx,ord,tr,e2,h,by omega,.inl (.inl ⟨rfl,rfl,rfl,rfl,.inl ⟨e,rfl⟩⟩),λ_ hn=>absurd e hn,λ_=>rfl⟩
    exact bF zO 0 0 e2 zD h' (by rw[xaf,xb3];omega) (w _ _) (λ_=>rfl)
   rw[e]at ha;cases ha;exact hd
  have hd:Fc zQ 97 #[ptr sp,x.v] H (jw sp c nx F ord tr x):=by
   refine(FJ h zO).mono ?_;have w:∀e' N,Want c.n nx F x e' (-1) N F nx:=λe' N=>cR hm zO zO λ_=>by omega
   rintro v H' ⟨e',n,o,cX,e2,hne,Wi,h',hb⟩;exact bF zO e' n e2 hne h' zO (w _ _) (λh=>Wi zO)
  rw[e]at ha;cases ha;exact hd
 have hop:¬(1<=x.op/\x.op<=11):=λhop=>by
  have:x.op=1\/x.op=2\/x.op=3\/x.op=4\/x.op=5\/x.op=6\/x.op=7\/x.op=8\/x.op=9\/x.op=10\/x.op=11:=by omega
  rcases this with e|e|e|e|e|e|e|e|e|e|e<;>rw[e]at hm<;>cases hm
 have akT:¬(12<=x.op/\x.op<=23):=λhop=>by
  have:x.op=12\/x.op=13\/x.op=14\/x.op=15\/x.op=16\/x.op=17\/x.op=18\/x.op=19\/x.op=20\/x.op=21\/x.op=22\/x.op=23:=by omega
  rcases this with e|e|e|e|e|e|e|e|e|e|e|e<;>rw[e]at ha<;>cases ha
 exact⟨⟨12, -1,0,0⟩,F,nx,ord,tr,rfl,h,by omega,.inl (.inr ⟨by simp,by simp,cR hm zO zO λ_=>by omega,by rw[xac hop]⟩),λ_ _=>by simp,λ_=>rfl⟩
end
end
section
def nI(x:Nat):zV:=iv (x:Int)
theorem QA{v:zV}{C:Hp}{l:List Int}(h:aP 3 .i64 v l C)(cD:l.length<1152921504606846976):Fc zQ 99 #[v] C (λr C'=>r=.tuple #[]/\aP 3 .i64 v (Fz l) C'):=by
 refine aE λg=>OS (h.bP ?_);refine bc.q (aa.rq (Bz zO C) ?_);rintro w ⟨r,_,rfl⟩;have hd:Da 3 .i64 v l.toArray C:=h;refine aa.fn .here (Lu abq l.length hd (a:=0) (b:=l.length) zO zO zI (by simpa using cD) (.inl rfl) _) ?_;rintro w C' ⟨rfl,e,⟨h1,h2⟩,dR⟩;have he:=Qz (d:=l.toArray) (by simpa using h1) (by simpa using h2);exact aF.here ⟨rfl,by rw[show Fz l=e.toList from he.symm];exact dR⟩
open ax
section
noncomputable abbrev AFI:Func:=Tryz.f152
variable {f:FuncId} {cap:Array zV} {B:Hp} {N:Nat} {S:zL->Prop}
noncomputable def cN:Code:=match AFI.body with|some (.seq _ (.seq (.seq _ (.block _ (.rangeFunc _ _ c _))) _))=>c|_=>.skip
noncomputable def dS:Code:=match AFI.body with|some (.seq _ (.seq (.seq _ (.block _ (.rangeFunc _ _ _ c))) _))=>c|_=>.skip
noncomputable def Mm(i:Nat):Oper:=match dS with| .block _ (.region _ ops _)=>(match ops[i]? with|some o=>o|none=>default)|_=>default
def iI(fn:FuncId)(tmps:Array zV)(assign body:Code)(D:Nat):Loop:={state:=.ready,pending:=none,fn,tmps,params:=#[7],assign,body,defers:=D}
def aaL(l D bs:Nat)(fn:FuncId)(tmps:Array zV)(assign body:Code)(ss:zL)(A:Hp):Prop:=
 ∃v C',A=(l,.loop (iI fn tmps assign body D))::(D,.deferred (some []))::(bs,.cells #[v] 43 zZ)::C'/\aP 3 .i64 v (iw ss) C'
theorem OJ{g:Gh}{l D bs:Nat}{fn:FuncId}{tmps:Array zV}{fr:Fr}(hsz:tmps.size=13)(gT:∀s,tmps.getD s undef=fr s)(f2:fr 2=ptr bs){ss:zL}{x:Nat}{A X:Hp}{W:World}
 (hG:aaL l D bs fn tmps cN dS ss A)(hl:ss.length<1099511627776)(hW:Own g (A++X) W):
  YieldAt Fence.wide 0 zQ l #[nI x] W (λe W'=>e=.returned (.bool true)/\∃A',aaL l D bs fn tmps cN dS (ss++[x]) A'/\Own g (A'++X) W'):=by
 obtain⟨v,C',rfl,ho⟩:=hG;have hF:∀f,(Fence.wide.inRound l).fn f:=λ_=>trivial;have hL:W.heap[l]? =some (.loop (iI fn tmps cN dS D)):=hW.has _ (.head _);refine⟨fn,_,cN,dS,run_yield hL rfl,roundIn_of_wpIn trivial ?_⟩;have ha:x4 [] 13 {tmps:=tmps.setIfInBounds 7 (nI x),defers:=[]} (bt fr (some 7) (nI x)):=(x4.put (a:={tmps:=tmps,defers:=[]}) (d:=some 7) ⟨rfl,hsz,gT⟩ rfl (nI x));have ha:x4 [] 13 {tmps:=(#[7].zip #[nI x]).foldl (λtmps (t,a)=>tmps.setIfInBounds t a) tmps,defers:=[]} (bt fr (some 7) (nI x)):=by simpa using ha
 change Code.wpIn _ 0 zQ (.region _ #[_] false) _ _ _;refine wpIn_region_lit ?_;refine dH (g:=g) (n:=13) (v0:=nI x) hF rfl zC rfl ha hW rfl λa1 uy=>?_;refine wpListIn_nil ?_;have hbr:=run_beginRound (P:=zQ) hL rfl;refine⟨_,hbr,?_⟩;have DW:=hW.putObj (o':=.loop {iI fn tmps cN dS D with state:=.busy}) (.head _);change Code.wpIn _ 0 zQ (.block _ (.region _ #[_,_,_,_,_] false)) _ _ _;refine wpIn_block ?_;refine wpIn_region_lit ?_;obtain⟨H1,Z9⟩:∃H1,H1=(l,Obj.loop {iI fn tmps cN dS D with state:=.busy})::(((D,.deferred (some []))::(bs,.cells #[v] 43 zZ)::C')++X):=⟨_,rfl⟩
 replace DW:Own g H1 (W.putObj l (.loop {iI fn tmps cN dS D with state:=.busy})):=by rw[Z9];exact DW
 have e0:AZ zQ g (Mm 0) (ev (bt (bt fr (some 7) (nI x)) (some 5) (nI x))) H1 (λz=>z=v)=Ld H1 (fr 2) (λz=>z=v):=by kernel_rfl
 refine dH (g:=g) (n:=13) (v0:=v) hF rfl zC rfl uy DW (e0.mpr (by rw[f2];exact Ld.mk (by rw[Z9];exact .tail _ (.tail _ (.head _))) rfl rfl)) λa2 qz=>?_;refine dH (g:=g) (n:=13) (v0:=nI x) hF rfl zC rfl qz DW rfl λa3 uM=>?_;have eb:∀K:zV->Hp->Prop,au zQ 43 1 [(0,iv (x:Int))] H1 K=Ny zQ g (Mm 2) (ev (bt (bt (bt (bt fr (some 7) (nI x)) (some 5) (nI x)) (some 8) v) (some 9) (nI x))) H1 K (λ_ _=>False):=λK=>by kernel_rfl
 refine yO (g:=g) (n:=13) (s:=_) (K:=λv H=>∃b,v=.slice (some ⟨b,0,none⟩) 1 1/\H=(b,.cells (ay .i64 [(x:Int)]) 3 zZ)::H1) hF rfl zC rfl uM DW rfl
  ((eb _).mp (au.int zK zK zK λb=>⟨b,rfl,rfl⟩)) λv1 H2 w2 a4 hv SK GH=>?_
 obtain⟨b,rfl,rfl⟩:=hv;have hn:(iw ss).length=ss.length:=aq ss;obtain⟨H2,hH2⟩:∃H2,H2=(b,Obj.cells (ay .i64 [(x:Int)]) 3 zZ)::H1:=⟨_,rfl⟩;rw[<-hH2]at SK;refine yO (g:=g) (n:=13) (s:=_) (K:=λv' H=>∃C2,aP 3 .i64 v' (iw (ss++[x])) C2/\H=(b,Obj.cells (ay .i64 [(x:Int)]) 3 zZ)::(l,Obj.loop {iI fn tmps cN dS D with state:=.busy})::(D,.deferred (some []))::(bs,.cells #[v] 43 zZ)::(C2++X))
  hF rfl zC rfl GH SK (by simp only[execOp,resolve,invoke,builtin];simp[bind,Sem.bind];rfl) ?_ λv2 H3 w3 a5 hv Bk GG=>?_
 ·have e1:∀K:zV->Hp->Prop,App zQ 3 1 8 (iv 0) H2 v (.slice (some ⟨b,0,none⟩) 1 1) K=
   Ny zQ g (Mm 3) (ev (bt (bt (bt (bt (bt fr (some 7) (nI x)) (some 5) (nI x)) (some 8) v) (some 9) (nI x)) (some 10) (.slice (some ⟨b,0,none⟩) 1 1))) H2 K (λ_ _=>False):=λK=>by kernel_rfl
  refine(e1 _).mp ?_;rw[hH2,Z9];refine ho.qJ (.cons (.cons (.cons (.cons .left)))) (by exact .head _) zO zO λv' C2 tM=>⟨C2,?_,rfl⟩;rw[cg];exact tM
 obtain⟨C2,tM,rfl⟩:=hv;have es:∀(H:Hp) (K:zV->Hp->Prop),St 1 H (fr 2) v2 (λH'=>K undef H')=Ny zQ g (Mm 4) (ev (bt (bt (bt (bt (bt (bt fr (some 7) (nI x)) (some 5) (nI x)) (some 8) v) (some 9) (nI x)) (some 10) (.slice (some ⟨b,0,none⟩) 1 1)) (some 11) v2)) H K (λ_ _=>False):=λH K=>by kernel_rfl
 refine XD (g:=g) (n:=13) (s:=_) (K:=λ_ H=>H=(b,Obj.cells (ay .i64 [(x:Int)]) 3 zZ)::(l,Obj.loop {iI fn tmps cN dS D with state:=.busy})::(D,.deferred (some []))::(bs,.cells #[v2] 43 zZ)::(C2++X))
  hF rfl zC rfl GG Bk rfl ((es _ _).mp ?_) λH4 w4 a6 hv Wy GF=>?_
 ·rw[f2];exact St.one (.tail (.tail (.tail (.head _)))) tM.one zI rfl rfl
 subst hv;refine wpListIn_nil ?_;simp only[Exit.inBlock,roundPost];refine⟨_,_,run_endRound none (Wy.has _ (.tail _ (.head _))),rfl,_,⟨v2,C2,rfl,tM⟩,?_⟩;exact(Wy.putObj (.tail (.head _))).tail
theorem Hh(hg:uf zQ f cap B nI N S)(hc:aT zQ f=true)(hN:N<=1099511627776):
  Fc zQ 152 #[.slice none 0 0,.func (.func f) #[] cap] B (λv H=>∃ss C',S ss/\H=C'++B/\aP 3 .i64 v (iw ss) C'):=by
 intro g w hw;rw[<-callsIn_wide (n:=0)];have hF:∀f,Fence.wide.fn f:=λ_=>trivial;refine callsIn_of_wp_marks func152 rfl trivial ?_;have ha:=nh (m:=13) (args:=[.slice none 0 0,.func (.func f) #[] cap]) zI;refine wpIn_seq ?_;refine wpIn_region_lit ?_;refine yO (g:=g) (n:=13) (s:=_) (K:=λv H=>∃bs,v=ptr bs/\H=(bs,.cells #[.slice none 0 0] 43 zZ)::B) hF rfl zC rfl ha hw rfl (λbs _=>⟨bs,rfl,rfl⟩) λv H1 w1 a1 hv jg uy=>?_;obtain⟨bs,rfl,rfl⟩:=hv;refine dH (g:=g) (n:=13) (v0:=.slice none 0 0) hF rfl zC rfl uy jg rfl λa2 qz=>?_;refine wpListIn_nil ?_;refine wpIn_seq ?_;refine wpIn_seq ?_;refine wpIn_region_lit ?_;refine dH (g:=g) (n:=13) (v0:=.func (.func f) #[] cap) hF rfl zC rfl qz jg rfl λa3 uM=>?_;refine wpListIn_nil ?_;refine wpIn_block ?_;refine wpIn_rangeFunc λfn hfn=>?_;have ye:=(jg.alloc (.deferred (some []))).alloc (.loop (iI fn a3.tmps cN dS w1.heap.size));have f6:a3.tmps[6]?.getD undef=.func (.func f) #[] cap:=by have:=uM.get 6;rw[xas]at this;exact this
 obtain⟨W1,DW⟩:∃W1,W1=(w1.alloc (.deferred (some []))).alloc (.loop (iI fn a3.tmps cN dS w1.heap.size)):=⟨_,rfl⟩;rw[<-DW]at ye;refine⟨w1.heap.size+1,[{target:=.collected w1.heap.size,args:=#[]}],W1,{target:=.fn (.func f) cap,args:=#[.func (.yield (w1.heap.size+1)) #[] #[]]},W1,f,#[.func (.yield (w1.heap.size+1)) #[] #[]]++cap,W1,?_,?_,λ_ _=>trivial,?_,λh=>(by cases h),?_⟩
 ·rw[DW];exact run_enterLoop_outer fn a3.tmps #[7] _ _
 ·simp[resolve,Deferred.ofValue,f6,go_sem]
 ·simp[invoke,go_sem];exact eE hc _ _
 have hsz:(w1.alloc (.deferred (some []))).heap.size=w1.heap.size+1:=by simp
 rw[hsz]at ye;refine CallsIn.mono (hg g (w1.heap.size+1) (aaL (w1.heap.size+1) w1.heap.size bs fn a3.tmps cN dS) (λss x A X W hG hl hW=>OJ uM.size uM.get rfl hG zO hW) [_,_,_] W1 ⟨_,[],rfl,aP.nil⟩ ye) ?_;rintro e W2 ⟨⟨v0,rfl⟩,ss,A',hS,⟨v,C',rfl,ho⟩,SK⟩;refine⟨none,_,run_endLoop (SK.has _ (.head _)) (by simp[iI]),?_⟩;have Bk:=SK.putObj (o':=.loop {iI fn a3.tmps cN dS w1.heap.size with state:=.exhausted}) (.head _);simp only[Exit.then,Exit.inBlock];have GH:x4 [{target:=.collected w1.heap.size,args:=#[]}] 13 {a3 with defers:=[{target:=.collected w1.heap.size,args:=#[]}]++a3.defers} (bt (bt (bt (gR [.slice none 0 0,.func (.func f) #[] cap] 0) (some 2) (ptr bs)) (some 4) (.slice none 0 0)) (some 6) (.func (.func f) #[] cap)):=
  ⟨by rw[uM.defers];rfl,uM.size,uM.get⟩
 refine wpIn_seq ?_;refine wpIn_region_lit ?_;obtain⟨H3,Z8⟩:∃H3,H3=(w1.heap.size+1,Obj.loop {iI fn a3.tmps cN dS w1.heap.size with state:=.exhausted})::(((w1.heap.size,.deferred (some []))::(bs,.cells #[v] 43 zZ)::C')++B):=⟨_,rfl⟩
 replace Bk:Own g H3 (W2.putObj (w1.heap.size+1) (.loop {iI fn a3.tmps cN dS w1.heap.size with state:=.exhausted})):=by rw[Z8];exact Bk
 have e0:AZ zQ g (fi AFI 4 0) (ev (bt (bt (bt (gR [.slice none 0 0,.func (.func f) #[] cap] 0) (some 2) (ptr bs)) (some 4) (.slice none 0 0)) (some 6) (.func (.func f) #[] cap))) H3 (λz=>z=v)=Ld H3 (ptr bs) (λz=>z=v):=by kernel_rfl
 refine dH (g:=g) (n:=13) (v0:=v) hF rfl zC rfl GH Bk (e0.mpr (Ld.mk (by rw[Z8];exact .tail _ (.tail _ (.head _))) rfl rfl)) λa5 GG=>?_;refine dH (g:=g) (n:=13) (v0:=v) hF rfl zC rfl GG Bk rfl λa6 GF=>?_;refine wpListIn_nil ?_;refine wpIn_ret ?_;simp only[Exit.then,bodyPostM];rw[GF.defers];rw[Z8]at Bk;refine⟨by simp,.inl ⟨w1.heap.size,_,rfl,run_takeDeferred (Bk.has _ (.tail _ (.head _))),?_⟩⟩;have Wy:=Bk.putObj (o':=.deferred none) (.tail (.head _));refine⟨_,results_tmp rfl _ _ _,C'++B,Wy.tail.tail.tail,v,C'++B,?_,.refl _,ss,C',hS,rfl,ho⟩;have:=GF.get 4;rw[this];rfl
end
section
variable {f:FuncId} {cap:Array zV} {B:Hp} {N:Nat} {S:zL->Prop}
theorem Em(hg:uf zQ f cap B nI N S)(hc:aT zQ f=true)(hN:N<=1099511627776):
  Fc zQ 98 #[.func (.func f) #[] cap] B (λv H=>∃ss C',S ss/\H=C'++B/\aP 3 .i64 v (iw ss) C'):=by
 refine aE λg=>OT ?_;refine aa.fq (Hh hg hc hN) ?_;rintro v H h;exact aF.here h
theorem FA(hg:uf zQ f cap B nI N S)(hS:∀ss,S ss->ss.length<=N)(hc:aT zQ f=true)(hN:N<=1099511627776):
  Fc zQ 46 #[.func (.func f) #[] cap] B (λv H=>∃ss C',S ss/\H=C'++B/\aP 3 .i64 v (iw (Cu ss)) C'):=by
 refine aE λg=>Pm ?_;refine aa.fq (Em hg hc hN) ?_;rintro v H ⟨ss,C',hs,rfl,ho⟩;have hlen:=hS ss hs;refine aa.fn (.left (A:=B)) (QA ho (by rw[aq];omega)) ?_;rintro w C2 ⟨rfl,cC⟩;rw[Le]at cC;exact aF.here ⟨ss,C2,hs,rfl,cC⟩
end
section
theorem Fo{κ β:Type}{es:Array MapEntry}{m:List (κ×β)}{seen:Array Nat}{x:κ×β}(h:x∈bT es m seen):x∈m:=by
 obtain⟨p,hp,rfl⟩:=xao.1 h;exact(xdE (xbD.1 hp).1).2
theorem afD{v:zV}{a:Int}(h:v=kI .i64 a)(ha:0<=a):v=nI a.toNat:=by
 rw[h];unfold nI kI;rw[Int.toNat_of_nonneg ha]
variable {es:Array MapEntry} {ck b:Nat} {m:List (Int×Nat)}
theorem Fi(B:Hp):Fc zQ 47 #[.map (some b)] B
  (λv H=>∃bm,v=.func (.func 100) #[] #[ptr bm]/\H=(bm,.cells #[.map (some b)] 88 zZ)::B):=by
 refine aE λg=>Pk ?_;intro b1 _;exact aF.here ⟨b1,rfl,rfl⟩
noncomputable abbrev VFI:Func:=Tryz.f100
def ahM(g:Gh)(bi b:Nat)(l:Nat)(es:Array MapEntry)(ck:Nat)(m:List (Int×Nat))(G:zL->Hp->Prop)(B:Hp)(k:Nat)(a:Act)(w:World):Prop:=
 ∃(fr:Fr) (ss:zL) (A:Hp) (seen:Array Nat),x4 [] 14 a fr/\fr 0=.func (.yield l) #[] #[]/\fr 5=ptr bi/\G ss A/\Own g (A++((bi,.mapIter (some b) ck seen ck)::B)) w/\
  (ss++(bT es m seen).map (λp=>p.1.toNat)).Perm (m.map (λp=>p.1.toNat))/\k=(bT es m seen).length
theorem Ce{bm:Nat}{fz:Nat×Nat}(h:aD (kI .i64) (λv (r:Nat)=>v=u32 r) es ck m)(hpos:∀p∈m,0<=p.1):uf zQ 100 #[ptr bm] [(bm,.cells #[.map (some b)] 88 fz),(b,.map es ck)] nI m.length
  (λss=>ss.Perm (m.map (λp=>p.1.toNat))):=by
 intro g l G hY A W h0 hW;have hF:∀f,Fence.wide.fn f:=λ_=>trivial;refine callsIn_of_wp func100 rfl trivial ?_;have ha:=nh (m:=14) (args:=[.func (.yield l) #[] #[],ptr bm]) zI;refine wpIn_seq ?_;refine wpIn_region_lit ?_;obtain⟨B,hB⟩:∃B,B=[(bm,Obj.cells #[.map (some b)] 88 fz),(b,.map es ck)]:=⟨_,rfl⟩;rw[<-hB]at hW;have uu:(bm,Obj.cells #[.map (some b)] 88 fz)∈A++B:=by rw[hB];exact xab _ (.head _)
 have me:(b,Obj.map es ck)∈A++B:=by rw[hB];exact xab _ (.tail _ (.head _))
 have hmB:∀{X:Hp},(b,Obj.map es ck)∈X++B:=by intro X;rw[hB];exact xab _ (.tail _ (.head _))
 rw[<-hB];have e0:AZ zQ g (fi VFI 0 0) (ev (gR [.func (.yield l) #[] #[],ptr bm] 0)) (A++B) (λx=>x=.map (some b))=Ld (A++B) (ptr bm) (λx=>x=.map (some b)):=by kernel_rfl
 refine dH (g:=g) (n:=14) (v0:=.map (some b)) hF rfl zC rfl ha hW (e0.mpr (Ld.mk uu rfl rfl)) λa1 uy=>?_;refine vi (g:=g) (n:=14) (s:=Instr.range 88 (.map (some b))) (K:=λv H=>∃bi,v=ptr bi/\H=(bi,.mapIter (some b) ck #[] ck)::(A++B)) hF rfl zC rfl uy rfl
  (Rng.run (.inr ⟨b,es,ck,rfl,me,λbi _=>⟨bi,rfl,rfl⟩⟩) hW (t:=88) (kt:=3) (e:=110) zK) λv H' w1 a2 hv jg qz=>?_
 obtain⟨bi,rfl,rfl⟩:=hv;refine wpListIn_nil ?_;have o6:Own g (A++((bi,.mapIter (some b) ck #[] ck)::B)) w1:=jg.perm (xaT).symm;clear jg uy ha hW uu me;refine wpIn_block ?_;refine uU (ahM g bi b l es ck m G B) (k:=(bT es m #[]).length) ⟨_,[],A,#[],qz,rfl,rfl,h0,o6,by rw[mI h];exact .refl _,rfl⟩ ?_;clear qz o6 h0 e0 A;rintro k a w ⟨fr,ss,A,seen,ha,f0,f6,hG,hw,dh,hk⟩;refine wpIn_seq ?_;refine wpIn_region_lit ?_;have e6:ev fr (.tmp 5)=ptr bi:=f6;refine vi (g:=g) (n:=14) (s:=Instr.next (ptr bi) false 0)
  (K:=λv H=>(bT es m seen=[]/\v=.tuple #[.bool false]/\H=A++((bi,.mapIter (some b) ck seen ck)::B))\/
   ∃(e:MapEntry) (x:Int×Nat) (seen':Array Nat),v=.tuple #[.bool true,e.key,e.val]/\e.key=nI x.1.toNat/\(bT es m seen).Perm (x::bT es m seen')/\seen'.back?=some e.born/\es.find? (·.born==e.born)=some e/\
    H=A++((bi,.mapIter (some b) ck seen' ck)::B)) hF rfl zC rfl ha ?_
  (Yp.run (h.next (bi:=bi) (bm:=b) (seen:=seen) (H:=A++((bi,.mapIter (some b) ck seen ck)::B)) (xab _ (.tail _ (by rw[hB];exact .tail _ (.head _)))) (xab _ (.head _))
   (λe x seen' he hk hv hp hb hf=>⟨_,(dg.head _).ca A,.inr ⟨e,x,seen',rfl,afD hk (hpos x (Fo (hp.mem_iff.2 (.head _)))),hp,hb,hf,rfl⟩⟩) (λhu=>.inl ⟨hu,rfl,rfl⟩)) hw) λv H' w1 a1 hv jg uy=>?_
 ·rw[e6.symm];rfl
 rcases hv with⟨hu,rfl,rfl⟩|⟨e,x,seen',rfl,Gy,hp,hbk,hfi,rfl⟩
 ·refine dH (g:=g) (n:=14) (v0:=.bool false) hF rfl zC rfl uy jg ⟨_,_,rfl,rfl,rfl⟩ λa2 qz=>?_;refine wpListIn_nil ?_;refine wpIn_seq ?_;refine wpIn_cond_false (by rw[qz.eval];rfl) ?_;refine wpIn_exit ?_;simp only[Exit.then,Exit.inBlock,xa7,bodyPost];refine⟨qz.defers,_,results_none rfl _ _ _,⟨_,rfl⟩,ss,A,?_,hG,(jg.perm xaT).tail⟩;rw[hu,xb9,xaL]at dh;exact dh
 refine dH (g:=g) (n:=14) (v0:=.bool true) hF rfl zC rfl uy jg ⟨_,_,rfl,rfl,rfl⟩ λa2 qz=>?_;refine wpListIn_nil ?_;refine wpIn_seq ?_;refine wpIn_cond_true (by rw[qz.eval];rfl) ?_;refine wpIn_skip ?_;refine wpIn_block ?_;refine wpIn_seq ?_;refine wpIn_region_lit ?_;refine vi (g:=g) (n:=14) (s:=Instr.entry (ptr bi)) (K:=λv H=>v=.tuple #[e.key,e.val]/\H=A++((bi,.mapIter (some b) ck seen' ck)::B)) hF rfl zC rfl qz ?_ ?_ λv H' w2 a3 hv o6 uM=>?_
 ·rw[e6.symm];rfl
 ·obtain⟨v,hr,hv⟩:=KR.run (P:=zQ) (k:=λv=>v=.tuple #[e.key,e.val]) ⟨bi,b,ck,seen',e.born,ck,es,e,rfl,xab _ (.head _),hbk,xab _ (.tail _ (by rw[hB];exact .tail _ (.head _))),hfi,rfl⟩ jg;exact⟨v,w1,_,hr,jg,hv,rfl⟩
 obtain⟨rfl,rfl⟩:=hv;refine dH (g:=g) (n:=14) (v0:=nI x.1.toNat) hF rfl zC rfl uM o6 ⟨_,_,rfl,rfl,Gy⟩ λa4 GH=>?_;refine dH (g:=g) (n:=14) (v0:=nI x.1.toNat) hF rfl zC rfl GH o6 (show nI x.1.toNat=nI x.1.toNat from rfl) λa5 GG=>?_;refine wpListIn_nil ?_;refine wpIn_seq ?_;refine wpIn_region_lit ?_;refine dH (g:=g) (n:=14) (v0:=.func (.yield l) #[] #[]) hF rfl zC rfl GG o6 f0 λa6 GF=>?_;refine dH (g:=g) (n:=14) (v0:=nI x.1.toNat) hF rfl zC rfl GF o6 (show nI x.1.toNat=nI x.1.toNat from rfl) λa7 Wx=>?_;have hlen:(bT es m seen).length=(bT es m seen').length+1:=by rw[hp.length_eq];rfl
 have hlt:ss.length<m.length:=by
  have:=dh.length_eq;simp only[xaf,xav]at this⊢;omega
 obtain⟨fn,tmps,assign,body,hy,hR⟩:=hY _ x.1.toNat A _ w2 hG hlt o6;refine wpListIn_plain rfl λK hK=>⟨λ_ _=>trivial,?_⟩;rw[Oper.semAt_eq _ _ _ zC,Wx.eval];have hex:∀F7:Fr,F7=bt (bt (bt (bt (bt (bt (bt fr (some 6) (.tuple #[.bool true,e.key,e.val])) (some 7) (.bool true)) (some 8) (.tuple #[e.key,e.val])) (some 9) (nI x.1.toNat)) (some 3) (nI x.1.toNat)) (some 10) (.func (.yield l) #[] #[])) (some 11) (nI x.1.toNat)->(execOp (ev F7) (fi VFI 3 2)).run zQ w2=.ok (.round l fn tmps assign body) w2:=λF7 hF7=>by
  have v11:ev F7 (.tmp 10)=.func (.yield l) #[] #[]:=by rw[hF7];rfl
  have v12:ev F7 (.tmp 11)=nI x.1.toNat:=by rw[hF7];rfl
  have Yh:execOp (ev F7) (fi VFI 3 2)=(do let d <-resolve (ev F7) {callee:=.value (.tmp 10),args:=#[.tmp 11],argTypes:=#[3]} 4;invoke d.target d.args):=rfl;rw[Yh];simp[resolve,Deferred.ofValue,v11,v12,invoke,go_sem,hy]
 refine(xce (Oper.uponIn Fence.wide 0 zQ (fi VFI 3 2) a7 K _) (hex _ rfl)).mpr ⟨λh=>(by cases h),hR.mono ?_⟩;rintro e' w3 ⟨rfl,A',hG',V4⟩;refine hK _ _ ?_;have ha8:=Wx.put (d:=some 12) rfl (.bool true);refine dH (g:=g) (n:=14) (v0:=.bool false) hF rfl zC rfl ha8 V4 ⟨_,rfl,rfl⟩ λa9 ha9=>?_;refine wpListIn_nil ?_;refine wpIn_cond_false (by rw[ha9.eval];rfl) ?_;refine wpIn_skip ?_;refine⟨(bT es m seen').length,by omega,_,ss++[x.1.toNat],A',seen',ha9,f0,f6,hG',V4,?_,rfl⟩;rw[xaj];exact((hp.map (λp=>p.1.toNat)).append_left ss).symm.trans dh
end
section
variable {sp kp mb nx:Nat} {c:Cf} {K:Kd} {S:Nat->ax.Fn} {ord ah tr:zL} {hs:List (Int×Nat)} {es:Array MapEntry} {ck:Nat} {C:Hp}
theorem GD(h:iy kp nx c K S ord ah tr hs es ck C)(hl:hs.length<=1099511627776):
  Fc zQ 20 #[ptr sp] (gS sp c kp mb nx es ck C) (λv H=>∃N,H=N++gS sp c kp mb nx es ck C/\aP 3 .i64 v (iw (Cu (hs.map λp=>p.1.toNat))) N):=by
 refine aE λg=>Pr (ae.aI (Br.no (Ld.n (v:=.map (some mb)) ?_)));refine aa.fq (Fi _) ?_;rintro w H ⟨bm,rfl,rfl⟩;refine aa.pre (H':=[(bm,.cells #[.map (some mb)] 88 zZ),(mb,.map es ck)]++(jY sp c kp mb nx::C)) (.perm (List.Perm.cons _ (List.Perm.swap _ _ _))) ?_;refine aa.fn .left (FA (S:=λss=>ss.Perm (hs.map λp=>p.1.toNat)) (N:=hs.length) (Ce (bm:=bm) (fz:=(0,0)) h.dK λp hp=>(h.lt p hp).1) (λss Zn=>by have:=Zn.length_eq;rw[xav]at this;omega) zK hl) ?_;rintro v H ⟨ss,N,Zn,rfl,ho⟩;rw[UY Zn]at ho;refine aF.mk ?_ ⟨N,rfl,ho⟩;rw[xaj];refine .c8 ?_ N;exact .skip (.perm (List.Perm.swap _ _ _))
end
section
variable {sp nx:Nat} {c:Cf} {F:FS} {ord tr:zL} {H:Hp}
def Wd(F:FS):zL:=Cu (F.map λp=>p.1.toNat)
theorem DV(h:jl sp c nx F ord tr H)(hl:F.length<=1099511627776):Fc zQ 20 #[ptr sp] H (λv H'=>∃N,H'=N++H/\aP 3 .i64 v (iw (Wd F)) N):=by
 obtain⟨kp,mb,K,S,ah,hs,es,ck,C,rfl,h,rfl⟩:=h;have e:(jk S hs).map (λp=>p.1.toNat)=hs.map λp=>p.1.toNat:=by unfold jk;rw[xbO];rfl
 unfold Wd;rw[e];exact GD h (by unfold jk at hl;rwa [xav]at hl)
end
section
variable {n rs nx mF:Nat} {F F':FS} {x:dB} {r:Rp}
structure TrF(rs nx:Nat)(F:FS)(x:dB)(r:Rp)(F':FS)(mF:Nat):Prop where
 a:r.e=0/\1<=x.op/\x.op<=12->r.h=nx/\mF=nx+1/\F'.length=F.length+1
 b:¬(r.e=0/\1<=x.op/\x.op<=12)->r.h= -1/\mF=nx
 f:x.op=13/\r.e=0->F'.length+1=F.length
 k:¬(r.e=0/\1<=x.op/\x.op<=12)->¬(x.op=13/\r.e=0)->F'.length=F.length
 t:1<=x.op/\x.op<=11->(r.e=0/\1<=r.t/\r.t<=(rs:Int)+1)\/(r.e=8/\1<=r.t/\r.t<=(rs:Int)+1)\/(r.e=9/\r.t=(rs:Int)+1)\/((r.e=1\/r.e=2\/r.e=3)/\r.t=0)
 u:¬(1<=x.op/\x.op<=11)->r.t=0
theorem Dv{a:Int}:∀{F:FS},(F.map Prod.fst).Nodup->dx F a=true->(ig F a).length+1=F.length
 | [],_,h=>by cases h
 |p::F,fc,h=>by
  rw[xaC,xaX]at fc;unfold ig at*;by_cases e:p.1=a
  ·have:F.filter (λy=>decide ¬y.1=a)=F:=xcg.2 λy hy=>by
    have:y.1≠a:=λe2=>fc.1 (by rw[e,<-e2];exact xaR hy);simpa using this
   rw[xbn,xac (by simpa using e),this];rfl
  have h2:dx F a=true:=by
   unfold dx aG at*;rw[xby]at h;simpa[e]using h
  have ih:=Dv fc.2 h2;unfold ig at ih;rw[xbn,xae (by simpa using e),xaB,xaB];omega
theorem YB(fc:(F.map Prod.fst).Nodup)(h:Small n rs nx F x r F' mF\/Full rs nx F x r F' mF):TrF rs nx F x r F' mF:=by
 rcases h with(⟨e,hh,rfl,rfl,ht⟩|⟨e9,e8,hW,ht⟩)|⟨e,hh,rfl,rfl,_,ht⟩
 ·exact⟨by omega,λ_=>⟨hh,rfl⟩,by omega,λ_ _=>rfl,by omega,by omega⟩
 ·unfold Want at hW;cases hm:cY x.op with
  |some p=>
   have hop:=rD hm;rw[hm]at hW;dsimp only at hW;rw[xae hop]at ht;have hf:=zc (n:=n) (F:=F) (w:=p.1) (x:=x);split at hW
   ·obtain⟨e0,hh,hN,rfl,rfl⟩:=hW;have:=ht.1 e0;exact⟨λ_=>⟨hh,rfl,by simp⟩,by omega,by omega,by omega,by omega,by omega⟩
   rename_i hl;obtain⟨e0,hh,hN,rfl,rfl⟩:=hW;have:=ht.2 zO;exact⟨by omega,λ_=>⟨hh,rfl⟩,by omega,λ_ _=>rfl,by omega,by omega⟩
  |none=>
   have hop:¬(1<=x.op/\x.op<=11):=λhop=>by
    have:x.op=1\/x.op=2\/x.op=3\/x.op=4\/x.op=5\/x.op=6\/x.op=7\/x.op=8\/x.op=9\/x.op=10\/x.op=11:=by omega
    rcases this with e|e|e|e|e|e|e|e|e|e|e<;>rw[e]at hm<;>cases hm
   rw[hm]at hW;dsimp only at hW;rw[xac hop]at ht;split at hW
   ·rename_i DZ;split at hW
    ·obtain⟨e0,hh,hN,rfl,rfl⟩:=hW;exact⟨λ_=>⟨hh,rfl,by simp⟩,by omega,by omega,by omega,by omega,by omega⟩
    obtain⟨e0,hh,hN,rfl,rfl⟩:=hW;exact⟨by omega,λ_=>⟨hh,rfl⟩,by omega,λ_ _=>rfl,by omega,by omega⟩
   split at hW
   ·rename_i DZ h13;split at hW
    ·rename_i hF;obtain⟨e0,hh,hN,rfl,rfl⟩:=hW;exact⟨by omega,λ_=>⟨hh,rfl⟩,λ_=>Dv fc hF,by omega,by omega,by omega⟩
    obtain⟨e0,hh,hN,rfl,rfl⟩:=hW;exact⟨by omega,λ_=>⟨hh,rfl⟩,by omega,λ_ _=>rfl,by omega,by omega⟩
   rename_i DZ h13;obtain⟨hh,rfl,rfl,_⟩:=hW;exact⟨by omega,λ_=>⟨hh,rfl⟩,by omega,λ_ _=>rfl,by omega,by omega⟩
 exact⟨by omega,λ_=>⟨hh,rfl⟩,by omega,λ_ _=>rfl,by omega,by omega⟩
end
theorem jl.aad{sp nx:Nat}{c:Cf}{F:FS}{ord tr:zL}{H:Hp}(h:jl sp c nx F ord tr H):B1 c.n F ord<=1048574:=by
 obtain⟨kp,mb,K,S,ah,hs,es,ck,C,rfl,h,rfl⟩:=h;rw[<-h.B1];exact gv h.ks.bg
end
end Go.Proofs
namespace ax
open Go.Sx ak
variable {n:Nat} {ah:Nat->Nat} {N:eG} {S:Nat->Fn}
theorem GP(h:WF n ah N)(hl:jV n ah)(hi:Interp N S){x y:Nat}(hxy:∀j,j<n->x.testBit j=y.testBit j):∀k r,n-dep n ah N r<=k->live N r->S r x=S r y
 |k,r,hk,hr=>by
  cases e:N r with
  |none=>
   rcases hr with hr|⟨d,hd⟩
   ·obtain rfl|rfl:r=0\/r=1:=by omega
    ·rw[hi.zero,hi.zero]
    rw[hi.one,hi.one]
   rw[e]at hd;cases hd
  |some d=>
   have hv:=h.var e;have hlv:=hl.lt _ hv;rw[an e]at hk;cases k with
   |zero=>omega
   |succ k=>
    have h1:=h.lo e;have h2:=h.hi e;rw[hi.node e,hi.node e,hxy _ hv,GP h hl hi hxy k d.lo zO h1.1,GP h hl hi hxy k d.hi zO h2.1]
theorem LH:∀a:Nat,a≠0->∃v q,a=2^v*(2*q+1)
 |a,h=>by
  by_cases e:a%2=1
  ·exact⟨0,a/2,by omega⟩
  obtain⟨v,q,hq⟩:=LH (a/2) zO;exact⟨v+1,q,by rw[xdt,Nat.mul_right_comm,<-hq];omega⟩
theorem VH{a v q:Nat}(ha:a<18446744073709551616)(e:a=2^v*(2*q+1)):a&&& ((18446744073709551616-a)%18446744073709551616)=2^v/\a.testBit v=true/\v<64:=by
 have h0:0<a:=by rw[e];exact Nat.mul_pos (xa6 v) zO
 have sV:a.testBit v=true:=by
  rw[xbP,e,xdR _ (xa6 v)];simp
 have hv:v<64:=by
  refine xaD λhn=>?_;have E5:(2:Nat)^64<=2^v:=xaA zD zO;have:=xbW (x:=a) (i:=v) (xaN (show a<2^64 from ha) E5);rw[sV]at this;cases this
 refine⟨xaY λi=>?_,sV,hv⟩;rw[xbc zO,xbd];have e2:18446744073709551616-a=2^64-((a-1)+1):=by omega
 rw[e2,xds zO,xbB];have e3:a-1=2^v*(2*q)+(2^v-1):=by
  have:=xa6 v;rw[e,xdn,xbV];omega
 by_cases hi:i<v
 ·have h1:a.testBit i=false:=by
   rw[xbP,e,show v=i+1+(v-i-1)by omega,xdl,xdt,xcq,xcq,xdR _ (xa6 i)];simp
  rw[h1,xdN];exact(xak zO).symm
 have h2:(a-1) /2^v=2*q:=by
  rw[e3,Nat.mul_add_div (xa6 v),xcQ (by have:=xa6 v;omega),xcn]
 have h3:a/2^v=2*q+1:=by rw[e,xdR _ (xa6 v)]
 have sh:∀y:Nat,y.testBit i=(y/2^v).testBit (i-v):=λy=>by
  rw[Nat.testBit_div_two_pow,show i-v+v=i by omega]
 by_cases e4:i=v
 ·subst e4;rw[sV,sh (a-1),h2,xcV,Nat.testBit_zero,xam rfl,xam hv];simp
 obtain⟨k,hk⟩:∃k,i-v=k+1:=⟨i-v-1,by omega⟩;rw[sh a,sh (a-1),h2,h3,hk,Nat.testBit_succ,Nat.testBit_succ,show(2*q+1) /2=q by omega,show 2*q/2=q by omega,show decide (v=i)=false from xak λe5=>e4 e5.symm];cases q.testBit k<;>simp
end ax
set_option maxRecDepth 100000
namespace Go.Proofs
open Go Go.Sx Tryz
open ax
section
variable {e:Bool} {f:ax.Fn} {u v a n:Nat} {vs ws:zL}
def oq(e:Bool)(x y:Bool):Bool:=if e then x||y else x&&y
theorem yX(y:Nat):qf e v f y=oq e (f (ak.aB y v false)) (f (ak.aB y v true)):=rfl
theorem oq4(a b c d:Bool):oq e (oq e a b) (oq e c d)=oq e (oq e a c) (oq e b d):=by
 cases e<;>cases a<;>cases b<;>cases c<;>cases d<;>rfl
theorem Vd:qf e u (qf e v f)=qf e v (qf e u f):=by
 by_cases h:u=v
 ·rw[h]
 funext y
 rw[yX,yX,yX,yX,yX,yX,oq4,ax.cu h,ax.cu h,ax.cu h,ax.cu h]
theorem Q1(h:vs.Perm ws):qm e vs f=qm e ws f:=
 h.foldl_eq' (λx _ y _ z=>Vd) f
theorem vX{m k j:Nat}:j∈bitsOf m k↔j<k/\m.testBit j=true:=by
 unfold bitsOf;rw[xbD,xaM]
theorem xe(hv:v<64)(ha:a.testBit v=true):(bitsOf a 64).Perm (bitsOf (iJ a (2^v)) 64++[v]):=by
 have nd:∀m,(bitsOf m 64).Nodup:=λm=>xbi.filter _;refine(xcx (nd a) (xa2.2 ⟨nd _,by simp,λx hx y hy=>?_⟩)).2 λj=>?_
 ·rw[xaz]at hy;subst hy;rintro rfl;have:=(vX.1 hx).2;rw[cP,xbB]at this;simp at this
 rw[vX,xan,vX,xaz,cP,xbB];by_cases hj:j=v
 ·subst hj;simp[hv,ha]
 simp[hj];exact λ_ _ h=>hj h.symm
theorem Vc(hv:v<64)(ha:a.testBit v=true)(y:Nat):qm e (bitsOf a 64) f y=oq e (qm e (bitsOf (iJ a (2^v)) 64) f (ak.aB y v false)) (qm e (bitsOf (iJ a (2^v)) 64) f (ak.aB y v true)):=by
 rw[Q1 (xe hv ha),CX];rfl
theorem OC(k:Nat):bitsOf 0 k=[]:=by
 unfold bitsOf;rw[xcS];intro a _;simp
theorem aao(hn:n<=64)(h:a>>>n=0):bitsOf a 64=bitsOf a n:=by
 have:∀k,bitsOf a (n+k)=bitsOf a n:=λk=>by
  induction k with
  |zero=>rfl
  |succ k ih=>
   have hb:a.testBit (n+k)=false:=by
    have:a.testBit (n+k)=(a>>>n).testBit k:=by rw[xbv]
    rw[this,h,xcA]
   rw[<-xcN,oo,hb,ih];simp
 have:=this (64-n);rwa [show n+(64-n)=64 by omega]at this
end
def gF(G:List ax.Fn)(a:Int):ax.Fn:=(G[a.toNat]?).getD λ_=>false
def Ug(n h w:Nat)(x:dB):Prop:=
 (w&&&1≠0->0<=x.a/\x.a<h)/\(w&&&2≠0->0<=x.b/\x.b<h)/\(w&&&4≠0->0<=x.c/\x.c<h)/\(w&&&8≠0->0<=x.a/\x.a<n)/\(w&&&16≠0->0<=x.b/\x.b<n)/\
 (w&&&32≠0->x.a=0\/x.a=1)/\(w&&&64≠0->x.c=0\/x.c=1)/\(w&&&128≠0->x.x>>>n=0)
def BG(n:Nat)(G:List ax.Fn)(h:Nat)(x:dB):Prop:=
 (∃w f,cY x.op=some (w,f)/\Ug n h w x/\gF G h=cB n (gF G) x)\/(x.op=12/\0<=x.a/\x.a<h/\gF G h=gF G x.a)
section
variable {n bw:Nat} {s:zV} {z:Int} {C:Hp} {steps:List dB} {G:List ax.Fn}
abbrev ET(bw:Nat)(s:zV)(n:Nat)(z:Int):Nat×Obj:=(bw,.cells #[s,i64 n,i64 z] 50 zZ)
def VR(bw:Nat)(s:zV)(n:Nat)(C:Hp)(b:Bool):zV->Hp->Prop:=λv H=>∃(b' ok:Bool) (z:Int),v=.tuple #[.bool b',.bool ok]/\H=ET bw s n z::C/\(ok=true->b'=b)
theorem uH{b:Nat}(hb:b<64):1<<<b%18446744073709551616=2^b:=by
 rw[xa4];exact xbc (xaN (xbk zD hb) zD)
theorem FM{b:Nat}(hb:b<64):2^b<18446744073709551616:=xaN (xbk zD hb) zD
theorem Rj{a b:Nat}(ha:a<18446744073709551616)(hb:b<18446744073709551616):a|||b<18446744073709551616:=xbF (n:=64) ha hb
theorem uW{C0:Hp}{x:dB}{f:ax.Fn}(hf:∀(y:Nat) (z:Int) (C:Hp),(∀c∈C0,c∈C)->y<18446744073709551616->Fc zQ 21 #[ptr bw,i64 x.a,u64 y] (ET bw s n z::C) (VR bw s n C (f y)))(hx:x.op=9\/x.op=10):
  ∀(k left:Nat),(bitsOf left 64).length<=k->left<18446744073709551616->∀(y:Nat) (z:Int) (C:Hp),(∀c∈C0,c∈C)->y<18446744073709551616->
   Fc zQ 48 #[ptr bw,x.v,u64 y,u64 left] (ET bw s n z::C) (VR bw s n C (qm (decide (x.op=9)) (bitsOf left 64) f y))
 |k,left,hk,hl,y,z,C,hC,hy=>by
  refine aE λg=>Pj λb1 _=>?_;refine ae.dJ (b:=0) (Br.dec (λh0=>?_) (λh0=>?_))
  ·subst h0;refine Ld.f (v:=i64 x.a) (aa.fn (.cons .here) (hf y z C hC hy) ?_);rintro w H ⟨b,ok,z',rfl,rfl,hb⟩;exact Ext.two (aF.mk .tail ⟨b,ok,z',rfl,rfl,λh=>by rw[OC];exact hb h⟩)
  obtain⟨v,q,hq⟩:=LH left h0;obtain⟨j7,sV,hv⟩:=VH hl hq;refine Un.abN hl ?_;refine ae.jj (by simpa[bA]using hl) (by simp[bA];omega) ?_;rw[j7];have iX:=FM hv;have hsp:=(xe hv sV).length_eq;rw[xaf,xb3]at hsp;obtain⟨k,rfl⟩:∃j,k=j+1:=⟨k-1,by omega⟩;have l1:iJ left (2^v)<18446744073709551616:=xau (fH _ _) hl;have l2:ak.aB y v false<18446744073709551616:=xau (fH _ _) hy;have l3:ak.aB y v true<18446744073709551616:=Rj hy iX;have R7:=Vc (e:=decide (x.op=9)) (f:=f) hv sV y;refine az.q (r:=x.cells) (ae.pV (by simpa[bA]using hy) (by simpa[bA]using iX) (ae.pV (by simpa[bA]using hl) (by simpa[bA]using iX) (aa.fn (.cons .here) (uW hf hx k (iJ left (2^v)) zO l1 (ak.aB y v false) z C hC l2) ?_)));rintro w H ⟨b,ok,z',rfl,rfl,hb⟩;refine Ext.two (Un.not ?_);cases ok
  ·exact Br.yes (aF.mk .tail ⟨false,false,z',rfl,rfl,nofun⟩)
  apply Br.no;have hb:=hb rfl;subst hb;refine az.q (r:=x.cells) (ae.C9 (by simpa[bA]using hy) (by simpa[bA]using iX) (ae.pV (by simpa[bA]using hl) (by simpa[bA]using iX) (aa.fn (.cons .here) (uW hf hx k (iJ left (2^v)) zO l1 (ak.aB y v true) z' C hC l3) ?_)));rintro w H ⟨b2,Lx,z2,rfl,rfl,rP⟩;refine Ext.two (Ld.f (v:=.int .u8 (x.op:Int)) (ae.dJ (b:=9) (Br.dec (λh9=>?_) (λh9=>?_))))
  ·refine cm.or b2 (λ_=>⟨rfl,rfl⟩) rfl λ_=>?_;refine cm.and (a:=true) Lx (λ_=>⟨rfl,rfl⟩) rfl λ_=>?_;refine aF.mk .tail ⟨_,_,z2,rfl,rfl,λh=>?_⟩;rw[R7,rP (by simpa using h),xam h9];rfl
  refine cm.and b2 (λ_=>⟨rfl,rfl⟩) rfl λ_=>?_;refine cm.and (a:=true) Lx (λ_=>⟨rfl,rfl⟩) rfl λ_=>?_;refine aF.mk .tail ⟨_,_,z2,rfl,rfl,λh=>?_⟩;rw[R7,rP (by simpa using h),xak h9];rfl
 termination_by k=>k
end
end Go.Proofs
