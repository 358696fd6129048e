import Derived.Test.YtgeffephefcdiaaGreatC5
import Derived.Test.YtgeffephefcdiaaGreatC1
import Derived.Test.YtgeffephefcdiaaGreatC4
import Derived.Test.YtgeffephefcdiaaGreatRows
set_option linter.unusedVariables false
set_option linter.unusedSimpArgs false
set_option linter.unusedSectionVars false
set_option maxRecDepth 100000
namespace Go.Proofs
open Go Go.Sx
section
open ax
section
variable {n bw:Nat} {s:zV} {z:Int} {C0:Hp} {steps:List dB} {G:List ax.Fn}
theorem BG.op{h:Nat}{x:dB}(hS:BG n G h x):1<=x.op/\x.op<=12:=by
 rcases hS with⟨w,f,hm,_⟩|⟨e,_⟩
 ·have:=rD hm;omega
 omega
theorem BG.mk{h w f:Nat}{x:dB}(hS:BG n G h x)(hm:cY x.op=some (w,f)):Ug n h w x/\gF G h=cB n (gF G) x:=by
 rcases hS with⟨w',f',hm',h1,h2⟩|⟨e,_⟩
 ·rw[hm]at hm';cases hm';exact⟨h1,h2⟩
 rw[e]at hm;cases hm
theorem BG.dup{h:Nat}{x:dB}(hS:BG n G h x)(e:x.op=12):0<=x.a/\x.a<h/\gF G h=gF G x.a:=by
 rcases hS with⟨w',f',hm',h1,h2⟩|⟨_,h1⟩
 ·rw[e]at hm';cases hm'
 exact h1
set_option maxHeartbeats 800000 in
theorem yG(hn:n<=64)(hR:aV 35 5 s (steps.map dB.cells) C0)(cD:steps.length<4611686018427387904)(hok:∀x∈steps,x.Ok)(hS:∀(h:Nat) (x:dB),steps[h]? =some x->BG n G h x):
  ∀(h:Nat),h<steps.length->∀(y:Nat) (z:Int) (C:Hp),(∀c∈C0,c∈C)->y<18446744073709551616->
   Fc zQ 21 #[ptr bw,i64 (h:Int),u64 y] (ET bw s n z::C) (VR bw s n C (gF G h y))
 |h,hh,y,z,C,hC,hy=>by
  have ih:∀(a:Int),0<=a/\a<h->∀(y:Nat) (z:Int) (C:Hp),(∀c∈C0,c∈C)->y<18446744073709551616->Fc zQ 21 #[ptr bw,i64 a,u64 y] (ET bw s n z::C) (VR bw s n C (gF G a y)):=λa ha=>by
   obtain⟨a,rfl⟩:∃k:Nat,a=k:=⟨a.toNat,by omega⟩;exact yG hn hR cD hok hS a zO
  obtain⟨x,hx⟩:∃x,steps[h]? =some x:=⟨_,xaa hh⟩;have hxO:=hok x (xaw hx);have Zj:(steps.map dB.cells)[h]? =some x.cells:=by rw[xat,hx];rfl
  have N9:=hS h x hx;have hop:=N9.op;have hmk:=λw f=>N9.mk (w:=w) (f:=f);refine aE λg=>Pq (Nil.ptr (Ld.f (v:=i64 z) (ae.add ?_)));generalize IntKind.i64.wrap (z+1)=z1;refine Nil.ptr (ai.mk (St.one (c':=#[s,i64 n,i64 z1]) (by exact .head _) rfl zI rfl ?_));have hm7:∀y∈C0,y∈(ET bw s n z1::C):=λy h=>.tail _ (hC y h);refine ae.lss ?_;rw[xak zO];refine cm.or false (λ_=>?_) rfl λ_=>?_
  ·refine Nil.ptr (Ld.f (v:=s) (hR.bP ?_));rw[xav];exact ae.s6 ⟨rfl,by rw[xak zO]⟩
  refine cm.or (decide (20000<z1)) (λ_=>Nil.ptr (Ld.f (v:=i64 z1) (ae.gtr ⟨rfl,rfl⟩))) rfl λ_=>?_;refine Br.mk (λ_=>aF.mk (.refl _) ⟨false,false,z1,rfl,rfl,nofun⟩) (λ_=>?_);refine Nil.ptr (Ld.f (v:=s) (hR.DA Zj hm7 ?_));intro b27 _;refine St.p (r:=x.cells) x.one ?_;refine Ld.f (v:=.int .u8 (x.op:Int)) ?_;refine ae.dJ (b:=1) (Br.dec (λe=>?_) (λe1=>?_))
  ·obtain⟨hA,hg⟩:=hmk 8 _ (by rw[e];rfl);obtain⟨a,ha⟩:∃a:Nat,x.a=a:=⟨x.a.toNat,by have:=(hA.2.2.2.1 zD).1;omega⟩;refine Ld.f (v:=i64 x.a) ?_;rw[ha];refine ae.ic (by simpa[bA]using hy) (ae.afx (b:=2) zD (ae.dJ (b:=1) (aF.mk .tail ⟨_,true,z1,rfl,rfl,λ_=>?_⟩)));rw[hg];unfold cB;rw[e];show decide (y>>>a%2=1)=y.testBit x.a.toNat;rw[ha,xa3,xbP,xaW]
  refine ae.dJ (b:=2) (Br.dec (λe=>?_) (λe2=>?_))
  ·obtain⟨hA,hg⟩:=hmk 32 _ (by rw[e];rfl);refine Ld.f (v:=i64 x.a) (ae.gX (aF.mk .tail ⟨_,true,z1,rfl,rfl,λ_=>?_⟩));rw[hg];unfold cB;rw[e];rfl
  refine ae.dJ (b:=3) (Br.dec (λe=>?_) (λe3=>?_))
  ·obtain⟨hA,hg⟩:=hmk 1 _ (by rw[e];rfl);refine Ld.f (v:=i64 x.a) (aa.fn (.cons .here) (ih x.a (hA.1 zD) y z1 C hC hy) ?_);rintro w H ⟨b,ok,z',rfl,rfl,hb⟩;refine Ext.two (Un.not (aF.mk .tail ⟨_,ok,z',rfl,rfl,λh=>?_⟩));rw[hg,hb h];unfold cB;rw[e];rfl
  refine ae.dJ (b:=12) (Br.dec (λe=>?_) (λe12=>?_))
  ·obtain⟨h0,h1,hg⟩:=N9.dup e;refine Ld.f (v:=i64 x.a) (aa.fn (.cons .here) (ih x.a ⟨h0,h1⟩ y z1 C hC hy) ?_);rintro w H ⟨b,ok,z',rfl,rfl,hb⟩;exact Ext.two (aF.mk .tail ⟨_,ok,z',rfl,rfl,λh=>by rw[hg,hb h]⟩)
  refine ae.dJ (b:=8) (Br.dec (λe=>?_) (λe8=>?_))
  ·obtain⟨hA,hg⟩:=hmk 81 _ (by rw[e];rfl);have agM:=hA.2.2.2.2.1 zD;obtain⟨b,hb⟩:∃b:Nat,x.b=b:=⟨x.b.toNat,by omega⟩;have GC:b<64:=by omega
   have iX:=FM GC;obtain⟨c,hc,hc2⟩:∃c:Nat,x.c=c/\(c=0\/c=1):=by
    rcases hA.2.2.2.2.2.2.1 zD with h|h
    ·exact⟨0,h,.inl rfl⟩
    exact⟨1,h,.inr rfl⟩
   refine DR.of (R:=[(b27,.cells x.cells.toArray 35 zZ)]) (.cons λ_ _ h=>h.aZ) (Ld.f (v:=i64 x.a) (Ld.f (v:=i64 x.b) ?_));rw[hb];refine ae.kW (a:=1) ?_;rw[uH GC];refine ae.pV (by simpa[bA]using hy) (by simpa[bA]using iX) (Ld.f (v:=i64 x.c) ?_);rw[hc];refine bc.q (Ld.f (v:=i64 x.b) ?_);rw[hb];refine ae.kW ?_;have e1:c<<<b%18446744073709551616=if c=1 then 2^b else 0:=by
    rcases hc2 with rfl|rfl
    ·simp
    rw[uH GC];rfl
   rw[e1];have hlt:(if c=1 then 2^b else 0)<18446744073709551616:=by split<;>omega
   refine ae.C9 (by simpa[bA]using xau (fH _ _) hy) (by simpa[bA]using hlt) ?_;have e2:iJ y (2^b)|||(if c=1 then 2^b else 0)=ak.aB y b (decide (x.c=1)):=by
    rw[hc];rcases hc2 with rfl|rfl
    ·simp;rfl
    exact ax.jQ (x:=y) (v:=b) (b:=false) (c:=true)
   have qy:iJ y (2^b)|||(if c=1 then 2^b else 0)<18446744073709551616:=Rj (xau (fH _ _) hy) hlt
   rw[e2]at qy⊢;intro F;refine aa.fn (.cons .here) (ih x.a (hA.1 zD) _ z1 C hC qy) ?_;rintro w H ⟨b',ok,z',rfl,rfl,hb'⟩;refine⟨.cons λ_ _ h=>h.aZ,?_⟩;refine Ext.two (aF.mk .tail ⟨_,ok,z',rfl,rfl,λh=>?_⟩);rw[hg,hb' h];unfold cB;rw[e];show _=gF G x.a (ak.aB y x.b.toNat _);rw[hb,xa3]
  intro J77 h77;have j77:∀t:Bool,t=decide (x.op=9\/x.op=10)->J77 [.bool t] ((b27,.cells x.cells.toArray 35 zZ)::ET bw s n z1::C):=λt ht=>by
   refine h77 _ _ λ_=>?_;rw[ht];refine Br.dec (λe=>?_) (λamA=>?_)
   ·obtain⟨f,hm⟩:∃f,cY x.op=some (129,f):=by
     rcases e with e|e<;>rw[e]<;>exact⟨_,rfl⟩
    obtain⟨hA,hg⟩:=hmk 129 f hm;refine az.q (r:=x.cells) (Ld.f (v:=u64 x.x) (aa.fn (.cons .here) (uW (C0:=C0) (f:=gF G x.a) (λy z C hC hy=>ih x.a (hA.1 zD) y z C hC hy) e _ x.x (xai _) hxO.x y z1 C hC hy) ?_));rintro w H ⟨b,ok,z',rfl,rfl,hb⟩;refine Ext.two (aF.mk .tail ⟨_,ok,z',rfl,rfl,λh=>?_⟩);rw[hg,hb h,aao hn (hA.2.2.2.2.2.2.2 zD)];unfold cB;rcases e with e|e<;>rw[e]<;>rfl
   refine Ld.f (v:=.int .u8 (x.op:Int)) (ae.dJ (b:=11) (Br.dec (λe=>?_) (λYh=>?_)))
   ·obtain⟨hA,hg⟩:=hmk 21 _ (by rw[e];rfl);have agM:=hA.2.2.2.2.1 zD;obtain⟨b,hb⟩:∃b:Nat,x.b=b:=⟨x.b.toNat,by omega⟩;have GC:b<64:=by omega
    have iX:=FM GC;have hgx:∀t:Bool,gF G x.c y=t->gF G x.a (ak.aB y b t)=gF G h y:=λt ht=>by
     rw[hg];unfold cB;rw[e];show _=if gF G x.c y=true then gF G x.a (ak.aB y x.b.toNat true)else gF G x.a (ak.aB y x.b.toNat false)
     rw[hb,xa3,ht];cases t<;>rfl
    refine Ld.f (v:=i64 x.c) (aa.fn (.cons .here) (ih x.c (hA.2.2.1 zD) y z1 C hC hy) ?_);rintro w H ⟨c,ok,z',rfl,rfl,hc⟩;refine Ext.two (Un.not ?_);cases ok
    ·exact Br.yes (aF.mk .tail ⟨false,false,z',rfl,rfl,nofun⟩)
    apply Br.no;have hc:=hc rfl;refine Ld.f (v:=i64 x.b) ?_;rw[hb];refine ae.kW (a:=1) ?_;rw[uH GC];refine ae.pV (by simpa[bA]using hy) (by simpa[bA]using iX) λahU ahp=>?_;have abW:∀y',y'=ak.aB y b c->ahU [u64 y'] ((b27,.cells x.cells.toArray 35 zZ)::ET bw s n z'::C):=λy' hy'=>by
     refine ahp _ _ λ_=>?_;have hlt:y'<18446744073709551616:=by
      rw[hy'];cases c
      ·exact xau (fH _ _) hy
      exact Rj hy iX
     refine Ld.f (v:=i64 x.a) (aa.fn (.cons .here) (ih x.a (hA.1 zD) y' z' C hC hlt) ?_);rintro w H ⟨b',ok,z2,rfl,rfl,hb'⟩;exact Ext.two (aF.mk .tail ⟨_,ok,z2,rfl,rfl,λh=>by rw[hb' h,hy'];exact hgx c hc.symm⟩)
    cases c
    ·exact Br.no (JE.mk (abW _ rfl))
    refine Br.yes (Ld.f (v:=i64 x.b) ?_);rw[hb];refine ae.kW (a:=1) ?_;rw[uH GC];exact ae.C9 (by simpa[bA]using xau (fH _ _) hy) (by simpa[bA]using iX) (JE.mk (abW _ (ax.jQ (x:=y) (v:=b) (b:=false) (c:=true))))
   have hw:∃w f,cY x.op=some (w,f)/\w&&&1≠0/\w&&&2≠0/\(x.op=7->w&&&4≠0):=by
    have:x.op=4\/x.op=5\/x.op=6\/x.op=7:=by omega
    rcases this with e|e|e|e<;>rw[e]<;>exact⟨_,_,rfl,by decide,by decide,by decide⟩
   obtain⟨w0,f0,hm,jg,o6,hw4⟩:=hw;obtain⟨hA,hg⟩:=hmk w0 f0 hm;have hgy:gF G h y=cB n (gF G) x y:=by rw[hg]
   refine Ld.f (v:=i64 x.a) (aa.fn (.cons .here) (ih x.a (hA.1 jg) y z1 C hC hy) ?_);rintro w H ⟨a,ok,z2,rfl,rfl,ha⟩;refine Ext.two (Ld.f (v:=i64 x.b) (aa.fn (.cons .here) (ih x.b (hA.2.1 o6) y z2 C hC hy) ?_));rintro w H ⟨b,Lx,z3,rfl,rfl,hb⟩;refine Ext.two (Ld.f (v:=.int .u8 (x.op:Int)) (ae.dJ (b:=4) (Br.dec (λe=>?_) (λe4=>?_))))
   ·refine cm.and b (λ_=>⟨rfl,rfl⟩) rfl λ_=>cm.and Lx (λ_=>⟨rfl,rfl⟩) rfl λ_=>?_;refine aF.mk .tail ⟨_,_,z3,rfl,rfl,λh=>?_⟩;rw[xay]at h;rw[hgy,ha h.1,hb h.2];unfold cB;rw[e];rfl
   refine ae.dJ (b:=5) (Br.dec (λe=>?_) (λe5=>?_))
   ·refine cm.or b (λ_=>⟨rfl,rfl⟩) rfl λ_=>cm.and Lx (λ_=>⟨rfl,rfl⟩) rfl λ_=>?_;refine aF.mk .tail ⟨_,_,z3,rfl,rfl,λh=>?_⟩;rw[xay]at h;rw[hgy,ha h.1,hb h.2];unfold cB;rw[e];rfl
   refine ae.dJ (b:=6) (Br.dec (λe=>?_) (λe6=>?_))
   ·refine ae.abM (cm.and Lx (λ_=>⟨rfl,rfl⟩) rfl λ_=>?_);refine aF.mk .tail ⟨_,_,z3,rfl,rfl,λh=>?_⟩;rw[xay]at h;rw[hgy,ha h.1,hb h.2];unfold cB;rw[e];show _=(gF G x.a y^^gF G x.b y);cases gF G x.a y<;>cases gF G x.b y<;>rfl
   have e7:x.op=7:=by omega
   refine Ld.f (v:=i64 x.c) (aa.fn (.cons .here) (ih x.c (hA.2.2.1 (hw4 e7)) y z3 C hC hy) ?_);rintro w H ⟨c,yY,z4,rfl,rfl,hc⟩;apply Ext.two;have fin:∀r:Bool,r=(if a=true then b else c)->aF (VR bw s n C (gF G h y)) (.returned (.tuple #[.bool r,.bool ((ok&&Lx) &&yY)])) ((b27,.cells x.cells.toArray 35 zZ)::ET bw s n z4::C):=λr hr=>by
    refine aF.mk .tail ⟨_,_,z4,rfl,rfl,λh=>?_⟩;rw[xay,xay]at h;rw[hr,hgy,ha h.1.1,hb h.1.2,hc h.2];unfold cB;rw[e7];rfl
   cases a
   ·refine Br.no (cm.and Lx (λ_=>⟨rfl,rfl⟩) rfl λ_=>cm.and yY (λ_=>⟨rfl,rfl⟩) rfl λ_=>fin c rfl)
   refine Br.yes (cm.and Lx (λ_=>⟨rfl,rfl⟩) rfl λ_=>cm.and yY (λ_=>⟨rfl,rfl⟩) rfl λ_=>fin b rfl)
  refine ae.dJ (b:=9) (Br.dec (λe=>?_) (λe9=>?_))
  ·rw[xam e];exact JE.mk (j77 true (xam (.inl e)).symm)
  refine ae.dJ (b:=10) (JE.mk (j77 _ ?_));rw[xb8];omega
 termination_by h=>h
end
section
variable {sp bp nx k:Nat} {c d:Cf} {F:FS} {ord tr o2 BP:zL} {H B H1 H2:Hp} {x:dB} {r:Rp}
theorem ta{a:Int}{y:Nat}(h:jl sp c nx F ord tr H)(ha:dx F a=true)(hy:y<18446744073709551616):Rd zQ 16 #[ptr sp,(⟨14,a,0,0,y⟩:dB).v] H (· =ej 0 (-1) (fF F a y).toNat 0):=by
 refine Fc.mono (mw (x:=⟨14,a,0,0,y⟩) (f:=88) rfl rfl (Q:=λv H'=>v=ej 0 (-1) (fF F a y).toNat 0/\H'=H) (λv H h=>⟨_,_,_,_,h.1⟩) (Fc.mono (Bp h hy) λv H' ⟨e1,e2⟩=>⟨?_,e1⟩)) λv H' h=>⟨h.2,h.1⟩;rw[e2];show(if dx F a=true then _ else _)=_;rw[xae ha]
end
section
variable {sp n nx mF rs:Nat} {c:Cf} {F F':FS} {ord tr:zL} {H:Hp} {x:dB} {r:Rp} {ws:List dB} {G:List ax.Fn}
structure yw(n nx:Nat)(F:FS)(ws:List dB)(G:List ax.Fn):Prop where
 wl:ws.length=nx
 gs:G.length=nx
 sem:∀(h:Nat) (x:dB),ws[h]? =some x->BG n G h x
 fn:∀p∈F,p.2=gF G p.1
 lt:∀p∈F,0<=p.1/\p.1<nx
theorem qH(f:ax.Fn){a:Int}(h:0<=a/\a<G.length):gF (G++[f]) a=gF G a:=by
 unfold gF;rw[xaV zO]
theorem GL(f:ax.Fn):gF (G++[f]) (G.length:Int)=f:=by
 unfold gF;rw[xa3,xbz (xai _)];simp
theorem vO{A B:Int->ax.Fn}{w f:Nat}(hm:cY x.op=some (w,f))(h1:w&&&1≠0->A x.a=B x.a)(h2:w&&&2≠0->A x.b=B x.b)(h4:w&&&4≠0->A x.c=B x.c):cB n A x=cB n B x:=by
 have hop:=rD hm;have:x.op=1\/x.op=2\/x.op=3\/x.op=4\/x.op=5\/x.op=6\/x.op=7\/x.op=8\/x.op=9\/x.op=10\/x.op=11:=by omega
 unfold cB;rcases this with e|e|e|e|e|e|e|e|e|e|e<;>rw[e]at hm⊢ <;>cases hm<;>simp only
 ·rw[h1 zD]
 ·rw[h1 zD,h2 zD]
 ·rw[h1 zD,h2 zD]
 ·rw[h1 zD,h2 zD]
 ·rw[h1 zD,h2 zD,h4 zD]
 ·rw[h1 zD]
 ·rw[h1 zD]
 ·rw[h1 zD]
 rw[h1 zD,h4 zD]
theorem yw.has(h:yw n nx F ws G){a:Int}(ha:dx F a=true):fF F a=gF G a/\0<=a/\a<nx:=by
 unfold dx fF aG at*;cases hf:F.find? λq=>decide (q.1=a)with
 |none=>rw[hf]at ha;cases ha
 |some p=>
  have hm:=xdH hf;have he:p.1=a:=by simpa using xeB hf
  refine⟨?_,by have:=h.lt p hm;omega⟩;show p.2=_;rw[h.fn p hm,he]
theorem yw.more(h:yw n nx F ws G){f:ax.Fn}(hs:BG n (G++[f]) nx x):yw n (nx+1) (F++[((nx:Int),f)]) (ws++[x]) (G++[f]):=by
 have hg:=h.gs;have hw:=h.wl;refine⟨by simp[hw],by simp[hg],λj y hy=>?_,λp hp=>?_,λp hp=>?_⟩
 ·by_cases hj:j<ws.length
  ·rw[xaV hj]at hy;have hold:∀a:Int,0<=a->a<j->gF (G++[f]) a=gF G a:=λa h1 h2=>qH f zO;have hjj:gF (G++[f]) j=gF G j:=qH f zO;rcases h.sem j y hy with⟨w,k,hm,hA,ZN⟩|⟨DZ,h0,h1,ZN⟩
   ·refine .inl ⟨w,k,hm,hA,?_⟩;rw[hjj,ZN];exact vO hm (λhw=>(hold _ (hA.1 hw).1 (hA.1 hw).2).symm) (λhw=>(hold _ (hA.2.1 hw).1 (hA.2.1 hw).2).symm) (λhw=>(hold _ (hA.2.2.1 hw).1 (hA.2.2.1 hw).2).symm)
   exact .inr ⟨DZ,h0,h1,by rw[hjj,ZN,hold _ h0 h1]⟩
  rw[xbz zO]at hy;have Wo:j-ws.length=0:=by
   refine xaD λhn=>?_;rw[xaE zP]at hy;cases hy
  rw[Wo]at hy;cases hy;obtain rfl:j=nx:=by omega
  exact hs
 ·rcases xan.1 hp with hp|hp
  ·rw[qH f (by have:=h.lt p hp;omega)];exact h.fn p hp
  rw[xaz.1 hp];show f=gF (G++[f]) (nx:Int);rw[<-hg,GL]
 rcases xan.1 hp with hp|hp
 ·have:=h.lt p hp;omega
 rw[xaz.1 hp];simp only;omega
theorem Fe(h:yw n nx F ws G)(hq:Small n rs nx F x r F' mF\/Full rs nx F x r F' mF):
  (r.e=0/\0<=r.h/\mF=nx+1/\∃f,yw n mF F' (ws++[x]) (G++[f]))\/(¬(r.e=0/\0<=r.h)/\mF=nx/\yw n mF F' ws G):=by
 rcases hq with(⟨e,hh,rfl,rfl,ht⟩|⟨e9,e8,hW,ht⟩)|⟨e,hh,rfl,rfl,_,ht⟩
 ·exact .inr ⟨by omega,rfl,h⟩
 ·unfold Want at hW;cases hm:cY x.op with
  |some p=>
   obtain⟨w,k⟩:=p;rw[hm]at hW;dsimp only at hW;split at hW
   ·rename_i hl;obtain⟨e0,hh,hN,rfl,rfl⟩:=hW;refine .inl ⟨e0,by rw[hh];omega,rfl,_,h.more (.inl ⟨w,k,hm,?_⟩)⟩;unfold iu at hl;split at hl
    ·cases hl
    split at hl
    ·cases hl
    split at hl
    ·cases hl
    rename_i c1 c2 c3;simp only[Ex,G9,Dh,Dg,FV,xbq,xay,xaJ,xbE,xbl,not_or,not_and,Bool.not_eq_false,xdT,ne_eq]at c1 c2 c3;have k1:w&&&1≠0->fF F x.a=gF G x.a/\0<=x.a/\x.a<nx:=λhw=>h.has (c3.1.1 hw);have k2:w&&&2≠0->fF F x.b=gF G x.b/\0<=x.b/\x.b<nx:=λhw=>h.has (c3.1.2 hw);have k4:w&&&4≠0->fF F x.c=gF G x.c/\0<=x.c/\x.c<nx:=λhw=>h.has (c3.2 hw);refine⟨⟨λhw=>(k1 hw).2,λhw=>(k2 hw).2,λhw=>(k4 hw).2,λhw=>by have:=c2.1.1 hw;omega,λhw=>by have:=c2.1.2 hw;omega,λhw=>by have:=c1.1 hw;omega,λhw=>by have:=c1.2 hw;omega,λhw=>c2.2 hw⟩,?_⟩;have hg:=h.gs;rw[<-hg,GL];exact vO hm (λhw=>by rw[qH _ (by have:=k1 hw;omega)];exact(k1 hw).1) (λhw=>by rw[qH _ (by have:=k2 hw;omega)];exact(k2 hw).1) (λhw=>by rw[qH _ (by have:=k4 hw;omega)];exact(k4 hw).1)
   rename_i hl;obtain⟨e0,hh,hN,rfl,rfl⟩:=hW;exact .inr ⟨by omega,rfl,h⟩
  |none=>
   rw[hm]at hW;dsimp only at hW;split at hW
   ·rename_i DZ;split at hW
    ·rename_i hF;obtain⟨e0,hh,hN,rfl,rfl⟩:=hW;obtain⟨h1,h2,h3⟩:=h.has hF;refine .inl ⟨e0,by rw[hh];omega,rfl,_,h.more (.inr ⟨DZ,h2,h3,?_⟩)⟩;have hg:=h.gs;rw[<-hg,GL,qH _ zO];exact h1
    obtain⟨e0,hh,hN,rfl,rfl⟩:=hW;exact .inr ⟨by omega,rfl,h⟩
   split at hW
   ·split at hW
    ·obtain⟨e0,hh,hN,rfl,rfl⟩:=hW;exact .inr ⟨by omega,rfl,⟨h.wl,h.gs,h.sem,λp hp=>h.fn p (xbD.1 hp).1,λp hp=>h.lt p (xbD.1 hp).1⟩⟩
    obtain⟨e0,hh,hN,rfl,rfl⟩:=hW;exact .inr ⟨by omega,rfl,h⟩
   obtain⟨hh,rfl,rfl,_⟩:=hW;exact .inr ⟨by omega,rfl,h⟩
 exact .inr ⟨by omega,rfl,h⟩
theorem jl.low(h:jl sp c nx F ord tr H)(a:Int){y z:Nat}(hyz:∀j,j<c.n->y.testBit j=z.testBit j):fF F a y=fF F a z:=by
 obtain⟨kp,mb,K,S,ah,hs,es,ck,C,rfl,h,rfl⟩:=h;rw[k7];unfold bS;cases hm:aG hs a with
 |none=>rfl
 |some q=>
  have hl:=h.live _ (h.find hm);exact GP h.ks.ok.wf h.ks.ok.lv h.ks.ok.mid.int (λj hj=>hyz j (by rw[<-h.n];exact hj)) _ q (xai _) hl
theorem Lst.holds{f:ax.Fn}{V:Nat}(h:Lst n f V)(hf:f≠λ_=>false)(j7:∀y z:Nat,(∀j,j<n->y.testBit j=z.testBit j)->f y=f z):f V=true/\V<2^n:=by
 have hex:∀k,k<=n->∃y:Nat,f y=true/\∀j,n-k<=j->j<n->y.testBit j=V.testBit j:=λk=>by
  induction k with
  |zero=>
   intro _;refine xaD λhn=>hf (funext λy=>?_);cases hy:f y with
   |false=>rfl
   |true=>exact absurd ⟨y,hy,λj h1 h2=>by omega⟩ hn
  |succ k ih=>
   intro hk;obtain⟨y,hy,hj⟩:=ih zO;have hv:=h.2 (n-(k+1)) zO;by_cases hex:∃x:Nat,(∀j,n-(k+1)<j->j<n->x.testBit j=V.testBit j)/\x.testBit (n-(k+1))=false/\f x=true
   ·obtain⟨x,h1,h2,h3⟩:=hex;have hV:V.testBit (n-(k+1))=false:=by
     cases hb:V.testBit (n-(k+1))with
     |false=>rfl
     |true=>exact absurd ⟨x,h1,h2,h3⟩ (hv.1 hb)
    refine⟨x,h3,λj a b=>?_⟩;by_cases e:j=n-(k+1)
    ·rw[e,h2,hV]
    exact h1 j zO b
   have hV:=hv.2 hex;refine⟨y,hy,λj a b=>?_⟩;by_cases e:j=n-(k+1)
   ·rw[e,hV];cases hb:y.testBit (n-(k+1))with
    |true=>rfl
    |false=>exact absurd ⟨y,λj a b=>hj j zO b,hb,hy⟩ hex
   ·exact hj j zO b
 obtain⟨y,hy,hj⟩:=hex n (xai _);refine⟨by rw[<-j7 y V λj LO=>hj j zO LO];exact hy,?_⟩;exact Nat.lt_pow_two_of_testBit _ λj LO=>h.1 j LO
theorem Ng{a b:Int}(h:jl sp c nx F ord tr H)(ha:dx F a=true)(hb:dx F b=true):Rd zQ 16 #[ptr sp,(⟨15,a,b,0,0⟩:dB).v] H (· =ej 0 (-1) (@decide (fF F a=fF F b) (Classical.propDecidable _)).toNat 0):=by
 refine Fc.mono (mw (x:=⟨15,a,b,0,0⟩) (f:=89) rfl rfl (Q:=λv H'=>v=ej 0 (-1) (@decide (fF F a=fF F b) (Classical.propDecidable _)).toNat 0/\H'=H) (λv H h=>⟨_,_,_,_,h.1⟩) (Fc.mono (Lm h) λv H' ⟨e1,e2⟩=>⟨?_,e1⟩)) λv H' h=>⟨h.2,h.1⟩;rw[e2];show(if(dx F a&&dx F b)=true then _ else _)=_;rw[xae (by rw[ha,hb];rfl)]
theorem Nc{a:Int}(h:jl sp c nx F ord tr H)(ha:dx F a=true):Rd zQ 16 #[ptr sp,(⟨16,a,0,0,0⟩:dB).v] H (· =ej 0 (-1) (sat c.n (fF F a)%yC) 0):=by
 refine Fc.mono (mw (x:=⟨16,a,0,0,0⟩) (f:=90) rfl rfl (Q:=λv H'=>v=ej 0 (-1) (sat c.n (fF F a)%yC) 0/\H'=H) (λv H h=>⟨_,_,_,_,h.1⟩) (Fc.mono (AS h) λv H' ⟨e1,e2⟩=>⟨?_,e1⟩)) λv H' h=>⟨h.2,h.1⟩;rw[e2];show(if dx F a=true then _ else _)=_;rw[xae ha]
theorem F9{a:Int}(h:jl sp c nx F ord tr H)(ha:dx F a=true):Rd zQ 16 #[ptr sp,(⟨19,a,0,0,0⟩:dB).v] H (λw=>(fF F a=(λ_=>false)/\w=ej 10 (-1) 0 0)\/(∃V,V<18446744073709551616/\fF F a V=true/\V<2^c.n/\w=ej 0 (-1) V 0)):=by
 refine Fc.mono (mw (x:=⟨19,a,0,0,0⟩) (f:=93) rfl rfl (Q:=λv H'=>((fF F a=(λ_=>false)/\v=ej 10 (-1) 0 0)\/(∃V,V<18446744073709551616/\fF F a V=true/\V<2^c.n/\v=ej 0 (-1) V 0))/\H'=H) (λv H h=>?_) (Fc.mono (Dy h) λv H' ⟨e1,e2⟩=>⟨?_,e1⟩)) λv H' h=>⟨h.2,h.1⟩
 ·rcases h.1 with⟨_,e⟩|⟨V,_,_,_,e⟩
  ·exact⟨_,_,_,_,e⟩
  exact⟨_,_,_,_,e⟩
 rcases e2 with⟨e,_⟩|⟨_,e3,e4⟩|⟨_,e3,V,hV,hL,e4⟩
 ·exact absurd ha (by rw[show dx F a=false from e];decide)
 ·exact .inl ⟨e3,e4⟩
 obtain⟨h1,h2⟩:=hL.holds e3 (λy z hyz=>h.low a hyz);exact .inr ⟨V,hV,h1,h2,e4⟩
end
section
variable {sp bp nx:Nat} {c d:Cf} {F:FS} {ord tr o2 BP:zL} {B H1 H2:Hp} {sv:zV}
theorem Wt{i:Nat}(hi:i∈F.map λp=>p.1.toNat)(h0:∀p∈F,0<=p.1):dx F (i:Int)=true:=by
 obtain⟨p,hp,e⟩:=xao.1 hi;have:=h0 p hp;unfold dx aG;cases hf:F.find? (λq=>decide (q.1=(i:Int)))with
 |some q=>rfl
 |none=>
  have:=xcC.1 hf p hp;simp only[xaJ]at this;exact absurd zO this
end
section
variable {sp nx b1 b2:Nat} {c:Cf} {F:FS} {ord tr:zL} {H B Z:Hp} {pv:zV} {ps:zL}
theorem jl.key(h:jl sp c nx F ord tr H){j:Nat}(hj:j<(Wd F).length):dx F ((Wd F)[j]:Int)=true/\(Wd F)[j]<nx:=by
 have hm:(Wd F)[j]∈F.map λp=>p.1.toNat:=(jP _).mem_iff.1 (xaF hj);refine⟨Wt hm λp hp=>(h.lt p hp).1,?_⟩;obtain⟨p,hp,e⟩:=xao.1 hm;have:=h.lt p hp;omega
end
set_option maxHeartbeats 800000 in
theorem sC{ci:xZ}{steps:List dB}{sv pv:zV}{ps:zL}{Y:Hp}(hs:Sl 5 Y sv (steps.map dB.cells))(hok:∀s∈steps,s.Ok)(cD:steps.length<=174762)(hp:dF .u64 Y pv (iw ps))(hps:∀x∈ps,x<18446744073709551616)(PJ:ps.length<=1048576):
  Rd zQ 6 #[.agg ci.cells.toArray,sv,pv] Y (· =.bool true):=by
 refine aE λg=>Ua ?_;intro b1 _;refine aa.eq (Hf _) ?_;refine Un.not (Br.no ?_);refine az.q (r:=ci.cells) ?_;refine aa.fn hnew (Cv ci (Q:=λv H=>(ie ci≠0/\v=.tuple #[.pointer none,i64 (ie ci)]/\H=[])\/(ie ci=0/\∃(d:Cf) (sp:Nat),ci=d.i/\d.Ok/\v=.tuple #[ptr sp,i64 0]/\jl sp d 0 [] (List.range d.n) [] H)) (λh=>.inl ⟨h,rfl,rfl⟩) (λd hd hok sp kp mb C hK=>.inr ⟨by rw[hd];exact hok.ie,d,sp,hd,hok,rfl,LL hK⟩)) ?_;rintro w HS0 (⟨hne,rfl,rfl⟩|⟨h0,c,sp,rfl,hcO,rfl,SO⟩)
 ·apply Ext.two;refine ae.cO (Br.T ?_ hne);exact ae.j5 (br.mk .tail rfl)
 apply Ext.two;refine ae.cO (Br.F ?_);have hcn:=hcO.n;obtain⟨Z,hZ⟩:∃Z:Hp,Z=(b1,Obj.cells c.i.cells.toArray 23 zZ)::Y:=⟨_,rfl⟩;have m1:(b1,Obj.cells c.i.cells.toArray 23 zZ)∈Z:=by rw[hZ];exact .head _
 have inY:∀y∈Y,y∈Z:=λy hy=>by rw[hZ];exact .tail _ hy
 have hZY:aN Z Y:=by rw[hZ];exact .tail
 refine ai.mk (Ld.mk (c:=c.i.cells.toArray) (v:=i64 c.n) (xab _ (.head _)) rfl ?_);refine Build.mk (cs:=[.slice none 0 0,i64 c.n,i64 0]) zK ?_;intro nF _;refine hs.bP ?_;rw[xav];refine⟨λvs H=>∃(i nx:Nat) (F:FS) (o tr:zL) (s:zV) (wl:List dB) (G:List ax.Fn) (CW HS:Hp),vs=[i64 (i:Int)]/\i<=steps.length/\nx<=i/\F.length<=nx/\jl sp c nx F o tr HS/\tr.length<=i*69205885/\aV 35 5 s (wl.map dB.cells) CW/\(∀x∈wl,x.Ok)/\yw c.n nx F wl G/\H=ET nF s c.n 0::(CW++(HS++Z)),λvs _=>steps.length-bJ vs 0,
  JE.mk ⟨0,0,[],_,[],_,[],[],[],HS0,rfl,xaO _,xai _,xai _,SO,xaO _,aV.nil _ _,by simp,⟨rfl,rfl,by simp,by simp,by simp⟩,by rw[hZ];rfl⟩,?_⟩
 clear SO;rintro v3 H ⟨i,nx,F,o,tr,s,wl,G,CW,HS,⟨⟩,hi,DO,hFl,hS,eR,hR,hwO,hI,rfl⟩ gs;refine ae.eZ (Br.dec (λhlt=>?_) (λhge=>?_))
 ·intro J25 h25;have on:∀(mF:Nat) (F':FS) (o' cX:zL) (s:zV) (wl:List dB) (G:List ax.Fn) (CW Xo:Hp),mF<=i+1->F'.length<=mF->jl sp c mF F' o' cX Xo->cX.length<=(i+1)*69205885->aV 35 5 s (wl.map dB.cells) CW->(∀x∈wl,x.Ok)->yw c.n mF F' wl G->∀X,aN X (ET nF s c.n 0::(CW++(Xo++Z)))->J25 [] X:=
   λmF F' o' cX s wl G CW Xo h1 h2 h3 h4 h5 h6 h7 X hX=>by
    refine h25 _ λ_=>?_;refine ae.inc ?_;exact aC.of hX ⟨i+1,mF,F',o',cX,s,wl,G,CW,Xo,rfl,hlt,h1,h2,h3,h4,h5,h6,h7,rfl⟩ (by simp only[bJ];omega)
  obtain⟨x,hx⟩:∃x,steps[i]? =some x:=⟨_,xaa hlt⟩;have hxO:=hok x (xaw hx);have Zj:(steps.map dB.cells)[i]? =some x.cells:=by rw[xat,hx];rfl
  refine av.sl hs Zj λp hq=>az.at hq rfl zD (λy hy=>.tail _ (xab _ (xab _ (inY y hy)))) ?_;intro Yl _;refine St.p (r:=x.cells) x.one ?_;refine az.q (r:=x.cells) ?_;have hf:=hS.aad;refine aa.fn (.cons (.cons (.app .left))) (MX hS hcO zO hxO.x zO) ?_;rintro v Xo ⟨r,F',mF,o',cX,rfl,PT,hb',hSm,_,Wi⟩;have hT:=YB hS.nodup hSm;have ha:=hT.a;have hb:=hT.b;have hk:=hT.k;have Sn:=hT.f
  have DJ:cX.length<=(i+1)*69205885:=by rw[xef];omega
  intro b37 _;refine St.p (r:=r.cells) r.one ?_;refine Ld.f (v:=i64 r.e) ?_;refine ae.gX ?_;refine cm.and (decide (0<=r.h)) (λ_=>Ld.f (v:=i64 r.h) (ae.geq ⟨rfl,rfl⟩)) rfl λ_=>?_;rw[<-xdG];rcases Fe hI hSm with⟨h1,h2,h3,f,hI'⟩|⟨h1,h3,hI'⟩;rotate_left
  ·refine Br.F ?_ h1;exact JE.mk (on mF F' o' cX s wl G CW Xo zO zO PT DJ hR hwO hI' _ (.skip (.skip (.refl _))))
  refine Br.T ?_ ⟨h1,h2⟩;refine DR.of (R:=[(Yl,.cells x.cells.toArray 35 zZ),ET nF s c.n 0]) (.skip (.cons (.cons λ_ _ h=>h.aZ))) ?_;refine Nil.ptr (Ld.f (v:=s) ?_);refine az.q (r:=x.cells) ?_;intro F1;have hwl:=hI.wl;refine au.one (z:=.agg #[.int .u8 0,i64 0,i64 0,i64 0,u64 0]) (e:=35) (k:=5) (r:=x.cells) zK zK zK zD rfl λbx=>?_;refine⟨.skip (.skip (.cons (.cons λ_ _ h=>h.aZ))),?_⟩;intro F2;refine aV.qJ (r:=x.cells) hR (.cons (.cons (.cons (.cons .left)))) (by exact .head _) rfl x.one ⟨[.int .u8 0,i64 0,i64 0,i64 0,u64 0],rfl,rfl⟩ (by rw[xav];omega) (by rw[xav];omega) λs' CW' PU=>?_;refine Nil.ptr (ai.mk ?_);intro F3;obtain⟨sa,sc,hsv⟩:=PU.len;refine St.one (c':=#[s',i64 c.n,i64 0]) (by exact .tail (.tail (.tail (.head _)))) (by rw[hsv];rfl) zI rfl ?_;refine JE.mk (on mF F' o' cX s' (wl++[x]) _ CW' Xo zO zO PT DJ (by rw[xaH];exact PU) (λy hy=>?_) hI' _ (.skip (.skip (.skip (.refl _)))));rcases xan.1 hy with hy|hy
  ·exact hwO y hy
  rw[xaz.1 hy];exact hxO
 refine aa.fn (.cons (.app .left)) (DV hS zO) ?_;rintro lv H ⟨N,rfl,ho⟩;have nD:(Wd F).length=F.length:=by unfold Wd;rw[(jP _).length_eq,xav]
 have key:=λj hj=>hS.key (j:=j) hj;generalize Wd F=l at*;refine ho.bP ?_;rw[aq];obtain⟨B,hB⟩:∃B:Hp,B=CW++(N++(HS++Z)):=⟨_,rfl⟩;have inN:∀y∈N,y∈B:=λy hy=>by rw[hB];exact xab _ (xad _ hy)
 have inP:∀y∈Y,y∈B:=λy hy=>by rw[hB];exact xab _ (xab _ (xab _ (inY y hy)))
 have inW:∀y∈CW,y∈B:=λy hy=>by rw[hB];exact xad _ hy
 have in1:(b1,Obj.cells c.i.cells.toArray 23 zZ)∈B:=by rw[hB];exact xab _ (xab _ (xab _ m1))
 have hBH:bH HS B (λX=>CW++(N++(X++Z))):=by rw[hB];exact .app (.app .left)
 have hBY:aN B Y:=by rw[hB];exact .gC (.gC (.gC hZY))
 have hwl:=hI.wl;have val:=yG (bw:=nF) zO hR zO hwO hI.sem;refine⟨λvs H=>∃(j:Nat) (z:Int),vs=[i64 (j:Int)]/\j<=l.length/\H=ET nF s c.n z::B,λvs _=>l.length-bJ vs 0,JE.of (.cons ?_) ⟨0,0,rfl,xaO _,rfl⟩,?_⟩
 ·rw[hB];exact .c8 .assoc _
 rintro w1 H ⟨j,z,⟨⟩,hj,rfl⟩ gs;refine ae.eZ (Br.dec (λhlt=>?_) (λhge=>?_));rotate_left
 ·exact br.mk (.skip hBY) rfl
 obtain⟨hh,hn⟩:=key j hlt;have abr:=val l[j] zO;have hfg:fF F ((l[j]:Nat):Int)=gF G ((l[j]:Nat):Int):=(hI.has hh).1;rw[<-hfg]at abr;intro J74 h74;have on:∀(z:Int) X,aN X (ET nF s c.n z::B)->J74 [] X:=λz X hX=>by
  refine h74 _ λ_=>?_;refine ae.inc ?_;exact aC.of hX ⟨j+1,z,rfl,hlt,rfl⟩ (by simp only[bJ];omega)
 refine ho.ints.ld (cL (xaa hlt)) (λ_ h=>.tail _ (inN _ h)) ?_;refine hp.bP ?_;rw[aq];refine⟨λvs H=>∃(k:Nat) (z:Int),vs=[i64 (k:Int)]/\k<=ps.length/\H=ET nF s c.n z::B,λvs _=>ps.length-bJ vs 0,JE.mk ⟨0,z,rfl,xaO _,rfl⟩,?_⟩;rintro w1 H ⟨k,z,⟨⟩,hk,rfl⟩ gs;refine ae.eZ (Br.dec (λgp=>?_) (λSi=>?_))
 ·have hy:=hps _ (xaF gp);refine hp.ld (cL (xaa gp)) (λ_ h=>.tail _ (inP _ h)) ?_;generalize ps[k]=y at hy;have h2:(fF F ((l[j]:Nat):Int) y).toNat<2:=by cases fF F ((l[j]:Nat):Int) y<;>decide
  refine Build.mk (cs:=dB.cells ⟨14,((l[j]:Nat):Int),0,0,y⟩) zK ?_;refine aa.eh (.cons hBH) (ta hS hh hy) ?_;intro b92 _;refine St.p (r:=[i64 0,i64 (-1),u64 (fF F ((l[j]:Nat):Int) y).toNat,i64 0]) (bu _ _ _ _) ?_;refine Nil.ptr (ai.mk (St.one (c':=#[s,i64 c.n,i64 0]) (by exact .tail (.head _)) rfl zI rfl ?_));refine aa.fn (.cons .here) (abr y 0 B inW hy) ?_;rintro w H ⟨b,ok,z',rfl,rfl,hb⟩;apply Ext.two;have hbv:ok=true->b=decide ((fF F ((l[j]:Nat):Int) y).toNat=1):=λh=>by
   rw[hb h];cases fF F ((l[j]:Nat):Int) y<;>rfl
  refine Ld.f (v:=i64 0) (ae.cO ?_);refine cm.or (a:=decide ((0:Int)≠0)) false (λ_=>?_) rfl λ_=>?_
  ·refine cm.and (a:=ok) (!(b==decide ((fF F ((l[j]:Nat):Int) y).toNat=1))) (λ_=>Ld.f (v:=u64 (fF F ((l[j]:Nat):Int) y).toNat) (ae.dJ (b:=1) (ae.abM ⟨rfl,rfl⟩))) rfl λ_=>⟨rfl,?_⟩;cases ok
   ·rfl
   rw[hbv rfl];simp
  refine cm.or (a:=decide ((0:Int)≠0)||false) false (λ_=>Ld.f (v:=u64 (fF F ((l[j]:Nat):Int) y).toNat) (ae.nq (b:=1) ⟨rfl,by rw[xak zO]⟩)) rfl λ_=>?_;refine Br.XI zD ?_;refine ho.bP ?_;rw[aq];refine⟨λvs H=>∃q:Nat,vs=[i64 (q:Int)]/\q<=l.length/\H=(b92,.cells [i64 0,i64 (-1),u64 (fF F ((l[j]:Nat):Int) y).toNat,i64 0].toArray 37 zZ)::ET nF s c.n z'::B,λvs _=>l.length-bJ vs 0,JE.mk ⟨0,rfl,xaO _,rfl⟩,?_⟩;rintro w2 H ⟨q,⟨⟩,hq,rfl⟩ gs;refine ae.eZ (Br.dec (λhlq=>?_) (λhgq=>?_));rotate_left
  ·refine ae.inc ?_;exact aC.of .tail ⟨k+1,z',rfl,gp,rfl⟩ (by simp only[bJ];omega)
  obtain⟨PI,hq2⟩:=key q hlq;refine ho.ints.ld (cL (xaa hlq)) (λ_ h=>.tail _ (.tail _ (inN _ h))) ?_;obtain⟨D,hD⟩:∃D:Bool,D= @decide (fF F ((l[q]:Nat):Int)=fF F ((l[j]:Nat):Int)) (Classical.propDecidable _):=⟨_,rfl⟩;have hD1:D=true->(fF F ((l[q]:Nat):Int) y).toNat=(fF F ((l[j]:Nat):Int) y).toNat:=λh=>by
   rw[hD]at h;rw[@of_decide_eq_true _ (Classical.propDecidable _) h]
  have hD2:l[q]=l[j]->D=true:=λh=>by rw[hD,h];exact @decide_eq_true _ (Classical.propDecidable _) rfl
  refine Build.mk (cs:=dB.cells ⟨15,((l[q]:Nat):Int),((l[j]:Nat):Int),0,0⟩) zK ?_;refine aa.eh (.cons (.cons hBH)) (Ng hS PI hh) ?_;rw[<-hD];intro amP _;refine St.p (r:=[i64 0,i64 (-1),u64 D.toNat,i64 0]) (bu _ _ _ _) ?_;refine Build.mk (cs:=dB.cells ⟨14,((l[q]:Nat):Int),0,0,y⟩) zK ?_;refine aa.eh (.cons (.cons (.cons hBH))) (ta hS PI hy) ?_;intro amO _;refine St.p (r:=[i64 0,i64 (-1),u64 (fF F ((l[q]:Nat):Int) y).toNat,i64 0]) (bu _ _ _ _) ?_;refine Ld.f (v:=i64 0) (ae.cO ?_);refine cm.or (a:=decide ((0:Int)≠0)) false (λ_=>Ld.f (v:=i64 0) (ae.cO ⟨rfl,by simp⟩)) rfl λ_=>?_;refine cm.or (a:=decide ((0:Int)≠0)||false) false (λ_=>?_) rfl λ_=>?_
  ·refine Ld.f (v:=u64 D.toNat) (ae.dJ (b:=1) ?_);refine cm.and (decide ((fF F ((l[q]:Nat):Int) y).toNat≠(fF F ((l[j]:Nat):Int) y).toNat)) (λ_=>Ld.f (v:=u64 (fF F ((l[q]:Nat):Int) y).toNat) (Ld.f (v:=u64 (fF F ((l[j]:Nat):Int) y).toNat) (ae.xU ⟨rfl,rfl⟩))) rfl λ_=>⟨rfl,?_⟩;cases hd:D
   ·rfl
   rw[show decide ((fF F ((l[q]:Nat):Int) y).toNat≠(fF F ((l[j]:Nat):Int) y).toNat)=false from xak λh=>h (hD1 hd)];rfl
  refine cm.or (a:=(decide ((0:Int)≠0)||false)||false) false (λ_=>?_) rfl λ_=>?_
  ·refine ae.dJ ?_;refine cm.and (decide (D.toNat≠1)) (λ_=>Ld.f (v:=u64 D.toNat) (ae.xU (b:=1) ⟨rfl,rfl⟩)) rfl λ_=>⟨rfl,?_⟩;by_cases e:l[q]=l[j]
   ·rw[hD2 e,xam e];rfl
   rw[xak e];rfl
  refine Br.XI zD ?_;refine ae.inc ?_;exact aC.of (.skip .tail) ⟨q+1,rfl,hlq,rfl⟩ (by simp only[bJ];omega)
 refine Build.mk (cs:=dB.cells ⟨19,((l[j]:Nat):Int),0,0,0⟩) zK ?_;refine aa.rd (.cons hBH) (F9 hS hh) ?_;rintro v (⟨h0,rfl⟩|⟨V,hV,hfV,hVn,rfl⟩)
 ·intro ahI _;refine St.p (r:=[i64 10,i64 (-1),u64 0,i64 0]) (bu _ _ _ _) ?_;refine Ld.f (v:=i64 10) (ae.gX (Br.F ?_));refine Build.mk (cs:=dB.cells ⟨16,((l[j]:Nat):Int),0,0,0⟩) zK ?_;refine aa.eh (.cons (.cons hBH)) (Nc hS hh) ?_;rw[h0,oK];intro amM _;refine St.p (r:=[i64 0,i64 (-1),u64 0,i64 0]) (bu _ _ _ _) ?_;refine Ld.f (v:=i64 10) (ae.cO ?_);refine cm.or (a:=decide ((10:Int)≠10)) false (λ_=>Ld.f (v:=u64 0) (ae.xU (a:=0) (b:=0) ⟨rfl,by simp⟩)) rfl λ_=>?_;refine Br.XI zD (JE.mk (on z _ (.skip .tail)))
 intro ahI _;refine St.p (r:=[i64 0,i64 (-1),u64 V,i64 0]) (bu _ _ _ _) ?_;refine Ld.f (v:=i64 0) (ae.gX (Br.T ?_));refine Ld.f (v:=u64 V) ?_;refine Build.mk (cs:=dB.cells ⟨14,((l[j]:Nat):Int),0,0,V⟩) zK ?_;refine aa.eh (.cons (.cons hBH)) (ta hS hh hV) ?_;rw[hfV];intro amN _;refine St.p (r:=[i64 0,i64 (-1),u64 1,i64 0]) (bu _ _ _ _) ?_;refine Ld.f (v:=u64 1) (ae.xU (a:=1) (b:=1) ?_);refine cm.or (a:=decide (1≠1)) false (λ_=>?_) rfl λ_=>?_
 ·refine ai.mk (Ld.mk (c:=c.i.cells.toArray) (v:=i64 c.n) (.tail _ (.tail _ (.tail _ in1))) rfl ?_);refine ae.eZ (b:=64) ?_;refine cm.and (a:=decide (c.n<64)) false (λ_=>?_) rfl λ_=>⟨rfl,by simp⟩;refine Ld.f (v:=u64 V) ?_;refine ai.mk (Ld.mk (c:=c.i.cells.toArray) (v:=i64 c.n) (.tail _ (.tail _ (.tail _ in1))) rfl ?_);refine ae.ic (by simpa[bA]using hV) ?_;rw[xaW,xcQ hVn];exact ae.xU (a:=0) (b:=0) ⟨rfl,by simp⟩
 exact Br.XI zD (JE.mk (on z _ (.skip .tail)))
section
open Go.ChangeShapes Go.WideShapes Go.Deep
variable {H:Type} {enc:TypeId×zV->H} {W:World} {base:Nat} {spare:Nat->Bool} {held:Bool}
theorem Oy{fuel:Nat}{cs:List zV}{x:DataW H×List MemPlace}(hl:cs.length=5)(h:DataW.trod enc zQ W base spare held fuel 23 cs=some x):∃c:xZ,cs=c.cells/\c.str<256:=by
 obtain⟨xs,n,_,_,_,hx,hf⟩:=DataW.trod_struct Tryz.underlying23 h
 match cs,hl with
 | [c0,c1,c2,c3,c4],_=>
  have hx5:xs.length=5:=hx;have tK:Tryz.prog.cellsOf 3=1:=by kernel_rfl
  have A8:Tryz.prog.cellsOf 5=1:=by kernel_rfl
  have g0:DataW.trod enc zQ W base spare held n 3 (List.take (Tryz.prog.cellsOf 3) [c0,c1,c2,c3,c4])=xs[0]? :=hf 0 _ rfl;have g1:DataW.trod enc zQ W base spare held n 3 (List.take (Tryz.prog.cellsOf 3) [c1,c2,c3,c4])=xs[1]? :=hf 1 _ rfl;have g2:DataW.trod enc zQ W base spare held n 5 (List.take (Tryz.prog.cellsOf 5) [c2,c3,c4])=xs[2]? :=hf 2 _ rfl;have g3:DataW.trod enc zQ W base spare held n 3 (List.take (Tryz.prog.cellsOf 3) [c3,c4])=xs[3]? :=hf 3 _ rfl;have g4:DataW.trod enc zQ W base spare held n 3 (List.take (Tryz.prog.cellsOf 3) [c4])=xs[4]? :=hf 4 _ rfl;rw[tK,xaa zO]at g0;rw[tK,xaa zO]at g1;rw[A8,xaa zO]at g2;rw[tK,xaa zO]at g3;rw[tK,xaa zO]at g4;simp only[xd8,xee]at g0 g1 g2 g3 g4;obtain⟨n0,e0,_,w0⟩:=DataW.trod_int Tryz.underlying3 g0;obtain⟨n1,e1,_,w1⟩:=DataW.trod_int Tryz.underlying3 g1;obtain⟨n2,e2,_,w2⟩:=DataW.trod_int Tryz.underlying5 g2;obtain⟨n3,e3,_,w3⟩:=DataW.trod_int Tryz.underlying3 g3;obtain⟨n4,e4,_,w4⟩:=DataW.trod_int Tryz.underlying3 g4;have b0:=bounds_i64 w0;have b1:=bounds_i64 w1;have b2:=bounds_u8 w2;have b3:=bounds_i64 w3;have b4:=bounds_i64 w4;simp only[xax,xa0]at e0 e1 e2 e3 e4;have z2:((n2.toNat:Nat):Int)=n2:=by omega
  exact⟨⟨n0,n1,n2.toNat,n3,n4⟩,by unfold xZ.cells;simp only;rw[e0,e1,e2,e3,e4,z2],by simp only;omega⟩
theorem Fx{fuel:Nat}{cs:List zV}{x:DataW H×List MemPlace}(hl:cs.length=5)(h:DataW.trod enc zQ W base spare held fuel 35 cs=some x):∃s:dB,cs=s.cells/\s.Ok:=by
 obtain⟨xs,n,_,_,_,hx,hf⟩:=DataW.trod_struct Tryz.underlying35 h
 match cs,hl with
 | [c0,c1,c2,c3,c4],_=>
  have hx5:xs.length=5:=hx;have tK:Tryz.prog.cellsOf 3=1:=by kernel_rfl
  have RC:Tryz.prog.cellsOf 33=1:=by kernel_rfl
  have A8:Tryz.prog.cellsOf 5=1:=by kernel_rfl
  have g0:DataW.trod enc zQ W base spare held n 5 (List.take (Tryz.prog.cellsOf 5) [c0,c1,c2,c3,c4])=xs[0]? :=hf 0 _ rfl;have g1:DataW.trod enc zQ W base spare held n 3 (List.take (Tryz.prog.cellsOf 3) [c1,c2,c3,c4])=xs[1]? :=hf 1 _ rfl;have g2:DataW.trod enc zQ W base spare held n 3 (List.take (Tryz.prog.cellsOf 3) [c2,c3,c4])=xs[2]? :=hf 2 _ rfl;have g3:DataW.trod enc zQ W base spare held n 3 (List.take (Tryz.prog.cellsOf 3) [c3,c4])=xs[3]? :=hf 3 _ rfl;have g4:DataW.trod enc zQ W base spare held n 33 (List.take (Tryz.prog.cellsOf 33) [c4])=xs[4]? :=hf 4 _ rfl;rw[A8,xaa zO]at g0;rw[tK,xaa zO]at g1;rw[tK,xaa zO]at g2;rw[tK,xaa zO]at g3;rw[RC,xaa zO]at g4;simp only[xd8,xee]at g0 g1 g2 g3 g4;obtain⟨n0,e0,_,w0⟩:=DataW.trod_int Tryz.underlying5 g0;obtain⟨n1,e1,_,w1⟩:=DataW.trod_int Tryz.underlying3 g1;obtain⟨n2,e2,_,w2⟩:=DataW.trod_int Tryz.underlying3 g2;obtain⟨n3,e3,_,w3⟩:=DataW.trod_int Tryz.underlying3 g3;obtain⟨n4,e4,_,w4⟩:=DataW.trod_int Tryz.underlying33 g4;have b0:=bounds_u8 w0;have b1:=bounds_i64 w1;have b2:=bounds_i64 w2;have b3:=bounds_i64 w3;have b4:=bounds_u64 w4;simp only[xax,xa0]at e0 e1 e2 e3 e4;have z0:((n0.toNat:Nat):Int)=n0:=by omega
  have z4:((n4.toNat:Nat):Int)=n4:=by omega
  exact⟨⟨n0.toNat,n1,n2,n3,n4.toNat⟩,by simp only[dB.cells,u64];rw[e0,e1,e2,e3,e4,z0,z4],⟨by simp only;omega,by simp only;omega,by simp only;omega,by simp only;omega,by simp only;omega⟩⟩
theorem Qu{fuel:Nat}{cs:List zV}{x:DataW H×List MemPlace}(h:DataW.trod enc zQ W base spare held fuel 35 cs=some x):∃ps,x.1=.agg ps/\ps.length=5:=by
 obtain⟨xs,n,_,rfl,_,hx,_⟩:=DataW.trod_struct Tryz.underlying35 h;exact⟨_,rfl,by rw[xav];exact hx⟩
theorem aan{v:zV}{d:DataW H}{ps:List MemPlace}(h:DataW.Trod enc zQ W base spare held 23 v d ps)(hv:∃cs,v=.agg cs/\cs.size=Tryz.prog.cellsOf 23):∃c:xZ,v=.agg c.cells.toArray/\c.str<256:=by
 obtain⟨fuel,hf⟩:=h;obtain⟨cs,rfl,hsz⟩:=hv;rw[show Tryz.prog.cellsOf 23=5 by kernel_rfl]at hsz;obtain⟨l⟩:=cs;obtain⟨s,hs,hok⟩:=Oy (cs:=l) hsz hf;subst hs;exact⟨s,rfl,hok⟩
theorem M8{v:zV}{d:DataW H}{ps:List MemPlace}(h:DataW.Trod enc zQ W base spare held 24 v d ps)(hv:∃a n c,v=.slice a n c):
  ∃steps:List dB,Sl 5 (whole W) v (steps.map dB.cells)/\(∀s∈steps,s.Ok)/\((∀n∈d.weights zQ 24,n<=reachBytes)->steps.length<4398046511104)/\(steps.length=0\/∃es sp,d=.slice es sp/\steps.length=es.length/\∀e∈es,∃ps,e=.agg ps/\ps.length=5):=by
 obtain⟨fuel,hf⟩:=h;have k5:Tryz.prog.cellsOf 35=5:=by kernel_rfl
 obtain⟨v',rs,hcs,RZ,hw,hr⟩:=yJ Tryz.underlying24 k5 zD hf;have Gq:v'=v:=by
  obtain⟨a,n,c,rfl⟩:=hv;simpa[Value.cells]using hcs.symm
 subst Gq;have hone:∀r∈rs,∃s:dB,r=s.cells/\s.Ok:=λr hm=>by
  obtain⟨i,hi,e⟩:=xa9.1 hm;obtain⟨f,y,_,_,hy,_⟩:=hr i r (by rw[xaa hi,e]);exact Fx (RZ.1 r hm) hy
 have hex:∃steps:List dB,rs=steps.map dB.cells/\∀s∈steps,s.Ok:=by
  clear RZ hw hr hcs;induction rs with
  |nil=>exact⟨[],rfl,by simp⟩
  |cons r rest ih=>
   obtain⟨l,h1,h2⟩:=ih λr hm=>hone r (by simp[hm]);obtain⟨s,h3,h4⟩:=hone r zI;exact⟨s::l,by simp[h1,h3],λm hm=>by rcases xal.1 hm with rfl|hm;exact h4;exact h2 m hm⟩
 obtain⟨steps,rfl,hok⟩:=hex;refine⟨steps,RZ,hok,λaJ=>?_,?_⟩;rotate_left
 ·rcases hw with⟨h1,_⟩|⟨es,sp,h1,h2⟩
  ·exact .inl (by simpa using xce List.length h1)
  rw[xav]at h2;refine .inr ⟨es,sp,h1,h2.symm,λe he=>?_⟩;obtain⟨i,hi,rfl⟩:=xa9.1 he;obtain⟨f,y,gV,sp2,hy,Gn,hy2⟩:=hr i _ (xaa (by rw[xav];omega));have:es=gV:=by
   have e:=h1.symm.trans Gn;simp only[DataW.slice.injEq]at e;exact e.1
  subst this;rw[xaa hi]at hy2;obtain⟨ps,h5,h6⟩:=Qu hy;exact⟨ps,(xbp hy2).trans h5,h6⟩
 rcases hw with⟨h1,_⟩|⟨es,sp,h1,h2⟩
 ·have:steps=[]:=by simpa using h1
  subst this;simp
 simp only at h1;have:=aJ ((es.length+sp.length)*Tryz.prog.bytesOf 35) (by rw[h1,DataW.weights,Tryz.underlying24];exact xbK ..);rw[show Tryz.prog.bytesOf 35=40 by kernel_rfl]at this;have h3:reachBytes=140737488351232:=rfl;rw[xav]at h2;omega
end
end
section
open ax
section
open Go.ChangeShapes Go.WideShapes Go.Deep
variable {H:Type} {enc:TypeId×zV->H} {W:World} {base:Nat} {spare:Nat->Bool} {held:Bool}
theorem P8{v:zV}{d:DataW H}{ps:List MemPlace}(h:DataW.Trod enc zQ W base spare held 47 v d ps)(hv:∃a n c,v=.slice a n c):
  ∃l:zL,dF .u64 (whole W) v (iw l)/\(∀x∈l,x<18446744073709551616)/\(l.length=0\/∃es sp,d=.slice es sp/\l.length=es.length):=by
 obtain⟨fuel,hf⟩:=h;have k3:Tryz.prog.cellsOf 33=1:=by kernel_rfl
 obtain⟨v',l,hcs,hi,hwf,hw⟩:=MU Tryz.underlying47 Tryz.underlying33 k3 hf;have Gq:v'=v:=by
  obtain⟨a,n,c,rfl⟩:=hv;simpa[Value.cells]using hcs.symm
 subst Gq;have hb:∀x∈l,0<=x/\x<=18446744073709551615:=λx hx=>bounds_u64 (hwf x hx);have e:iw (l.map Int.toNat)=l:=by
  unfold iw;rw[xbO]
  conv=>rhs;rw[<-xeg l]
  apply xbj;intro x hx;have:=hb x hx;show((x.toNat:Nat):Int)=x;omega
 refine⟨l.map Int.toNat,by rw[e];exact hi,λx hx=>?_,?_⟩
 ·obtain⟨y,hy,rfl⟩:=xao.1 hx;have:=hb y hy;omega
 rw[xav];rcases hw with⟨h1,_⟩|⟨es,sp,h1,h2⟩
 ·exact .inl (by subst h1;rfl)
 exact .inr ⟨es,sp,h1,by omega⟩
end
end
end Go.Proofs
namespace Go.Proofs.YtgeffephefcdiaaGreat.TC
theorem one_le{H:Type}(d:DataW H):1<=Rows.uptoBulk d:=by
 cases d with
 |lit l=>cases l<;>simp[Rows.uptoBulk]
 |nil=>simp[Rows.uptoBulk]
 |ptr d=>simp[Rows.uptoBulk]
 |slice elems spare=>simp[Rows.uptoBulk]
 |agg parts=>simp[Rows.uptoBulk]
 |iface t d=>simp[Rows.uptoBulk]
 |map entries=>simp[Rows.uptoBulk]
 |held h=>simp[Rows.uptoBulk]
theorem Lv{H:Type}{d:DataW H}{l:List (DataW H)}(h:d∈l):Rows.uptoBulk d<=Rows.uptoBulkAll l:=by
 induction l with
 |nil=>cases h
 |cons x r ih=>
  simp only[Rows.uptoBulkAll];cases xal.1 h with
  |inl e=>subst e;omega
  |inr e=>have:=ih e;omega
theorem append{H:Type}(l r:List (DataW H)):Rows.uptoBulkAll (l++r)=Rows.uptoBulkAll l+Rows.uptoBulkAll r:=by
 induction l with
 |nil=>simp[Rows.uptoBulkAll]
 |cons x l ih=>simp only[xaP,Rows.uptoBulkAll,ih];omega
theorem length_le{H:Type}(l:List (DataW H)):l.length<=Rows.uptoBulkAll l:=by
 induction l with
 |nil=>simp[Rows.uptoBulkAll]
 |cons x r ih=>have:=one_le x;simp only[Rows.uptoBulkAll,xaB];omega
theorem QC{H:Type}(elems spare:List (DataW H)):elems.length+spare.length+1<=Rows.uptoBulk (.slice elems spare):=by
 have h1:=length_le elems;have h2:=length_le spare;simp only[Rows.uptoBulk];omega
theorem Cw{H:Type}(elems spare:List (DataW H)):Rows.uptoBulkAll elems+1<=Rows.uptoBulk (.slice elems spare):=by
 simp only[Rows.uptoBulk];omega
theorem bound{H:Type}{l:List (DataW H)}(hk:Rows.uptoSmall H l=true):Rows.uptoBulkAll l<=1048576:=by
 simpa[Rows.uptoSmall]using hk
theorem ahL{H:Type}{es:List (DataW H)}(h:∀e∈es,∃ps,e=.agg ps/\ps.length=5):6*es.length<=Rows.uptoBulkAll es:=by
 induction es with
 |nil=>simp[Rows.uptoBulkAll]
 |cons x r ih=>
  obtain⟨ps,rfl,h5⟩:=h x zI;have h1:=ih λe he=>h e (by simp[he]);have h2:=length_le ps;simp only[Rows.uptoBulkAll,Rows.uptoBulk,xaB];omega
theorem YI{H:Type}{ds:List (DataW H)}(hk:Rows.uptoSmall H ds=true){d:DataW H}(hd:d∈ds){n:Nat}(h:n=0\/∃es sp,d=.slice es sp/\n=es.length/\∀e∈es,∃ps,e=.agg ps/\ps.length=5):n<=174762:=by
 rcases h with rfl|⟨es,sp,rfl,rfl,h⟩
 ·omega
 have h1:=bound hk;have h2:=Lv hd;have h3:=Cw es sp;have h4:=ahL h;omega
theorem afs{H:Type}{ds:List (DataW H)}(hk:Rows.uptoSmall H ds=true){d:DataW H}(hd:d∈ds){n:Nat}(h:n=0\/∃es sp,d=.slice es sp/\n=es.length):n<=1048576:=by
 rcases h with rfl|⟨es,sp,rfl,he⟩
 ·omega
 have h1:=bound hk;have h2:=Lv hd;have h3:=QC es sp;omega
end Go.Proofs.YtgeffephefcdiaaGreat.TC
