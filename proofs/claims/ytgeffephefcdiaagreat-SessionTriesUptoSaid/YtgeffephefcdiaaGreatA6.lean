import Derived.Test.YtgeffephefcdiaaGreatA5
import Derived.Test.YtgeffephefcdiaaGreatA3
import Derived.Test.YtgeffephefcdiaaGreatA1
import Derived.Test.YtgeffephefcdiaaGreatA4
import Derived.Test.YtgeffephefcdiaaGreatRows
set_option linter.unusedVariables false
set_option linter.unusedSimpArgs false
set_option linter.unusedSectionVars false
set_option maxRecDepth 100000
namespace Go.Proofs
open Go Go.Sx
section
open aA
section
variable {sp nx kp:Nat} {c:Cf} {F F':FS} {ord tr:zL} {H C:Hp} {x:fM} {K:Kd} {S:Nat->aA.Fn}
theorem Qy(h:kg sp c nx F ord tr H):Rd zQ 93 #[ptr sp,x.v] H (λw=>(fU F x.a=false/\w=eZ 3 (-1) 0 0)\/(fU F x.a=true/\fF F x.a=(λ_=>false)/\w=eZ 10 (-1) 0 0)\/
  (fU F x.a=true/\fF F x.a≠(λ_=>false)/\∃V,V<18446744073709551616/\Lst c.n (fF F x.a) V/\w=eZ 0 (-1) V 0)):=by
 obtain⟨kp,mb,K,S,ah,hs,es,ck,C,rfl,h,rfl⟩:=h;rw[eE,mT];refine(L8 h (x:=x) (P:=λn e=>(bU S hs x.a=(λ_=>false)/\n=0/\e=10)\/(bU S hs x.a≠(λ_=>false)/\e=0/\n<18446744073709551616/\Lst c.n (bU S hs x.a) n)) λr hr=>?_).mono λv H ⟨e,hv⟩=>⟨e,?_⟩
 ·rw[bA hr];have hl:=h.live _ (h.find hr);have aaZ:S r=(λ_=>false)↔r=0:=by
   rw[<-show S 0=λ_=>false from funext h.ks.ok.mid.int.zero];exact h.same hl (.inl zD)
  by_cases h0:r=0
  ·subst h0;exact(Ms h.ks).mono λv H ⟨e,hv⟩=>⟨e,0,10,.inl ⟨aaZ.2 rfl,rfl,rfl⟩,hv⟩
  refine(Mr h.ks hl h0).mono λv H ⟨e,V,hV,hL,hv⟩=>⟨e,V,0,.inr ⟨λe=>h0 (aaZ.1 e),rfl,hV,by rw[<-h.n];exact hL⟩,hv⟩
 rcases hv with h1|⟨h1,n,e,⟨a,rfl,rfl⟩|⟨a,rfl,hV,hL⟩,h2⟩
 ·exact .inl h1
 ·exact .inr (.inl ⟨h1,a,h2⟩)
 exact .inr (.inr ⟨h1,a,n,hV,hL,h2⟩)
theorem PU{b:Nat}{T:zL->Nat->Prop}(hc:c.Ok)(hb:b<16000000000000):SZ c nx F T (λ_ _=>True) b:=by
 intro kp K S o ah tr hs' es ck C hT h hF eM;refine(Ko h.ks.aZ h.ks.perm hc.str hc.gr (λe=>by rw[h.n];exact hc.ex e) zO).mono ?_;rintro v H ⟨ls,d,t,rfl,hA,hS,_⟩;exact⟨ls,_,_,rfl,trivial,hA,hS.len⟩
theorem EM(h:kg sp c nx F ord tr H)(eM:tr.length<16000000000000):Fc zQ 97 #[ptr sp,x.v] H (λw H'=>∃(e:Int) (n:Nat) (o de:zL),w=eZ e (-1) n 0/\(e≠9/\e≠8)/\(e≠0->n=0)/\kg sp c nx F o de H'/\de.length<=tr.length+66*Bh c.n F ord):=by
 by_cases ha:x.a<0\/6<x.a
 ·exact Fc.mono (uR h ha) λv H ⟨h1,h2⟩=>⟨1,0,ord,tr,h2,by decide,λ_=>rfl,by rw[h1];exact h,by omega⟩
 obtain⟨s,hs⟩:∃s:Nat,x.a=s:=⟨x.a.toNat,by omega⟩;have Yn:s<=6:=by omega
 by_cases hb:x.b<100\/1000<x.b
 ·exact(uQ h hs Yn hb).mono λv H ⟨h1,h2⟩=>⟨1,0,ord,tr,h1,by decide,λ_=>rfl,by rw[h2];exact h,by omega⟩
 obtain⟨g,hg⟩:∃g:Nat,x.b=g:=⟨x.b.toNat,by omega⟩;obtain⟨kp,mb,K,S,ah,hs',es,ck,C,rfl,h,rfl⟩:=h;have hle:=λ(o:zL) (tr:zL) (C:Hp) (h:At kp K S o tr C)=>gu h;rw[<-h.Bh];have keep:∀(o de:zL) (C':Hp),At kp K S o de C'->kg sp c nx (je S hs') o de (gS sp c kp mb nx es ck C'):=λo de C' hA=>by
  obtain⟨K',S',bW,dh,hk⟩:=hA;obtain⟨h',hS⟩:=h.kept dh hk;exact⟨kp,mb,K',S',bW,hs',es,ck,C',rfl,h',mc hS⟩
 by_cases hx:s=6/\12<c.n
 ·obtain⟨rfl,hn⟩:=hx;have hv:Rd zQ 85 #[ptr kp,.int .u8 6,i64 x.b] C (· =.tuple #[tF 0 0 0 false,iv 6]):=by rw[hg];exact PV h.ks.aZ (gr:=g) zO (by rw[h.n];exact hn)
  refine(nC (x:=x) hs Yn (Q:=λe _ H=>e=6/\H=C) (Fc.mono hv λv H ⟨h1,h2⟩=>?_)).mono ?_
  ·subst h1;exact⟨_,_,_,_,_,h2,_,⟨rfl,rfl⟩,cH h.ks.aZ,by have:=hle _ _ _ h.ks.aZ;omega⟩
  rintro v H ⟨e,n,C',rfl,rfl,rfl,rfl⟩;exact⟨6,0,ord,tr,rfl,by decide,λ_=>rfl,keep _ _ _ h.ks.aZ,by omega⟩
 refine(nC (x:=x) hs Yn (Q:=λe _ H=>e=0/\∃ls,At kp K S (az ord ls) (tr++ls) H/\ls.length+66*cI K S (az ord ls)<=66*cI K S ord) (Fc.mono (by rw[hg];exact Ko h.ks.aZ h.ks.perm Yn (gr:=g) zO (λe=>by rw[h.n];omega) zO) ?_)).mono ?_
 ·rintro v H ⟨ls,d,t,rfl,hA,hS,_⟩;exact⟨_,_,_,_,_,rfl,_,⟨rfl,ls,hA,hS.len⟩,cH hA,by have:=hle _ _ _ hA;omega⟩
 rintro v H ⟨e,n,C',rfl,rfl,rfl,ls,hA,hlen⟩;exact⟨0,n,_,_,rfl,by decide,λh=>absurd rfl h,keep _ _ _ hA,by rw[xaf];omega⟩
def adf(n:Nat)(F:FS)(x:fM)(e:Int)(N:Nat):Prop:=
 (x.op=14\/x.op=15\/x.op=16\/x.op=19\/x.op=20)->
 if(fU F x.a&& (decide (x.op≠15)||fU F x.b))=true then
  (x.op=14->e=0/\N=(fF F x.a x.x).toNat)/\(x.op=15->e=0/\N=(@decide (fF F x.a=fF F x.b) (Classical.propDecidable _)).toNat)/\(x.op=16->e=0/\N=sat n (fF F x.a)%AY)/\
  (x.op=19->(fF F x.a=(λ_=>false)/\e=10/\N=0)\/(fF F x.a≠(λ_=>false)/\e=0/\Lst n (fF F x.a) N))/\(x.op=20->e=0/\Wk (fF F x.a) N)
 else e=3/\N=0
def Want(n nx:Nat)(F:FS)(x:fM)(e h:Int)(N:Nat)(F':FS)(qG:Nat):Prop:=
 match eU x.op with
 |some (w,_)=>if iR n F w x=0 then e=0/\h=nx/\N=0/\F'=F++[((nx:Int),dO n (fF F) x)]/\qG=nx+1 else e=iR n F w x/\h= -1/\N=0/\F'=F/\qG=nx
 |none=>
  if x.op=12 then if fU F x.a=true then e=0/\h=nx/\N=0/\F'=F++[((nx:Int),fF F x.a)]/\qG=nx+1 else e=3/\h= -1/\N=0/\F'=F/\qG=nx
  else if x.op=13 then if fU F x.a=true then e=0/\h= -1/\N=0/\F'=ia F x.a/\qG=nx else e=3/\h= -1/\N=0/\F'=F/\qG=nx
  else h= -1/\F'=F/\qG=nx/\adf n F x e N
def Small(n rs nx:Nat)(F:FS)(x:fM)(r:Rp)(F':FS)(qG:Nat):Prop:=
 (r.e=9/\r.h= -1/\F'=F/\qG=nx/\((x.op=22/\r.t=0)\/((1<=x.op/\x.op<=11)/\r.t=(rs:Int)+1)))\/
 (r.e≠9/\r.e≠8/\Want n nx F x r.e r.h r.n F' qG/\(if 1<=x.op/\x.op<=11 then(r.e=0->1<=r.t/\r.t<=(rs:Int)+1)/\(r.e≠0->r.t=0)else r.t=0))
def Full(rs nx:Nat)(F:FS)(x:fM)(r:Rp)(F':FS)(qG:Nat):Prop:=
 r.e=8/\r.h= -1/\F'=F/\qG=nx/\(∃g,65533<=xP (tR F) g)/\((x.op=12/\r.t=0)\/((1<=x.op/\x.op<=11)/\1<=r.t/\r.t<=(rs:Int)+1))
def jm(sp:Nat)(c:Cf)(nx:Nat)(F:FS)(ord tr:zL)(x:fM)(v:zV)(H:Hp):Prop:=
 ∃(r:Rp) (F':FS) (qG:Nat) (o de:zL),v=r.v/\kg sp c qG F' o de H/\de.length<=tr.length+66*Bh c.n F ord+1/\(Small c.n c.rs nx F x r F' qG\/Full c.rs nx F x r F' qG)/\((F.length+3)*2^c.n+2<=c.cap->x.op≠22->r.e≠9)/\(r.e≠0\/x.op<=13->r.n=0)
end
section
variable {sp nx kp:Nat} {c:Cf} {F F':FS} {ord tr:zL} {H C:Hp} {x:fM}
theorem yw{n w:Nat}:iR n F w x=0\/iR n F w x=1\/iR n F w x=2\/iR n F w x=3:=by
 unfold iR
 repeat' split
 all_goals simp
theorem Co{op:Nat}{p:Nat×Nat}(hm:eU op=some p):1<=op/\op<=11:=by
 unfold eU at hm
 repeat' split at hm
 all_goals first|omega|cases hm
theorem SJ{op f:Nat}(hm:mY op=some f):op=12\/op=13\/op=14\/op=15\/op=16\/op=17\/op=18\/op=19\/op=20\/op=21\/op=22\/op=23:=by
 refine xaK λhn=>?_;unfold mY at hm;rw[xab zO,xab zO,xab zO,xab zO,xab zO,xab zO,xab zO,xab zO,xab zO,xab zO,xab zO,xab zO]at hm;cases hm
theorem jm.rp{v:zV}(h:jm sp c nx F ord tr x v H):ZG v:=by
 obtain⟨r,_,_,_,_,e,_⟩:=h;exact⟨r.e,r.h,r.n,r.t,e⟩
theorem cO{n:Nat}{e:Int}{N:Nat}(hm:eU x.op=none)(h1:x.op≠12)(h2:x.op≠13)(hA:adf n F x e N):Want n nx F x e (-1) N F nx:=by
 unfold Want;rw[hm];dsimp only;rw[xab h1,xab h2];exact⟨rfl,rfl,rfl,hA⟩
theorem bD{v:zV}{H':Hp}{o de:zL}(hop:12<=x.op\/x.op=0)(e:Int)(N:Nat)(hv:v=eZ e (-1) N 0)(he:e≠9/\e≠8)(h':kg sp c nx F o de H')(hb:de.length<=tr.length+66*Bh c.n F ord+1)(hW:Want c.n nx F x e (-1) N F nx)(hN:e≠0\/x.op<=13->N=0):jm sp c nx F ord tr x v H':=
 ⟨⟨e, -1,N,0⟩,F,nx,o,de,hv,h',hb,.inl (.inr ⟨he.1,he.2,hW,by rw[xab zO]⟩),λ_ _=>he.1,hN⟩
theorem L3(h:kg sp c nx F ord tr H)(hc:c.Ok)(CJ:nx+1<9223372036854775808)(hx:x.x<18446744073709551616)(eM:tr.length+66*Bh c.n F ord<16000000000000):
  Fc zQ 16 #[ptr sp,x.v] H (jm sp c nx F ord tr x):=by
 have hlen:(tR F).length=F.length:=by unfold tR;rw[xax]
 refine qz (λv H h=>h.rp) (λw f hm=>?_) (λf hm ha fN=>?_) (λhm ha=>?_)
 ·obtain⟨hf,fN,hw⟩:=V6 hm;have hop:=Co hm;by_cases hl:iR c.n F w x=0
  ·refine(KE (R:=λ_ _=>True) h hc CJ hx hf fN hw hl (PU hc zO)).mono ?_;rintro v H' ⟨t,o,de,ht,hT,⟨rfl,h',h0⟩|⟨e,he,rfl,h',RO,h9,hb⟩⟩
   ·refine⟨⟨0,nx,0,t⟩,_,_,o,[],rfl,h',by simp,.inl (.inr ⟨by simp,by simp,?_,?_⟩),λ_ _=>by simp,λ_=>rfl⟩
    ·unfold Want;rw[hm];dsimp only;rw[xae hl];exact⟨rfl,rfl,rfl,rfl,rfl⟩
    rw[xae hop];have:=hT.pos;exact⟨λ_=>⟨by simp only;omega,by simp only;omega⟩,λh=>absurd rfl h⟩
   rcases he with rfl|rfl
   ·have:=hT.pos;exact⟨⟨8, -1,0,t⟩,F,nx,o,de,rfl,h',by omega,.inr ⟨rfl,rfl,rfl,rfl,B1 RO,.inr ⟨hop,by simp only;omega,by simp only;omega⟩⟩,λ_ _=>by simp,λ_=>rfl⟩
   have ht9:=h9 rfl;subst ht9;refine⟨⟨9, -1,0,((c.rs+1:Nat):Int)⟩,F,nx,o,de,rfl,h',by omega,.inl (.inl ⟨rfl,rfl,rfl,rfl,.inr ⟨hop,by simp⟩⟩),λhr _=>absurd RO (BZ (by rw[hlen];exact hr)),λ_=>rfl⟩
  refine Fc.mono (vq h hx hw hl) λv H' ⟨e1,e2⟩=>?_;have aj7:=yw (n:=c.n) (F:=F) (w:=w) (x:=x);refine⟨⟨iR c.n F w x, -1,0,0⟩,F,nx,ord,tr,e2,by rw[e1];exact h,by omega,.inl (.inr ⟨by simp only;omega,by simp only;omega,?_,?_⟩),λ_ _=>by simp only;omega,λ_=>rfl⟩
  ·unfold Want;rw[hm];dsimp only;rw[xab hl];exact⟨rfl,rfl,rfl,rfl,rfl⟩
  rw[xae hop];exact⟨λh=>absurd h hl,λ_=>rfl⟩
 ·rcases SJ ha with e|e|e|e|e|e|e|e|e|e|e|e
  ·have hd:Fc zQ 86 #[ptr sp,x.v] H (jm sp c nx F ord tr x):=by
    refine(Zi h CJ).mono ?_;rintro v H' (⟨e1,rfl,rfl⟩|⟨_,hF,e8,e9⟩|⟨e1,_,rfl,h'⟩)
    ·refine bD zO 3 0 rfl zD h zO ?_ (λ_=>rfl);unfold Want;rw[hm];dsimp only;rw[xae e,xab (by rw[e1];decide)];exact⟨rfl,rfl,rfl,rfl,rfl⟩
    ·exact⟨⟨8, -1,0,0⟩,F,nx,ord,tr,e8,by rw[e9];exact h,by omega,.inr ⟨rfl,rfl,rfl,rfl,⟨_,xbO zD hF.2⟩,.inl ⟨e,rfl⟩⟩,λ_ _=>by simp,λ_=>rfl⟩
    refine⟨⟨0,nx,0,0⟩,_,_,ord,[],rfl,h',by simp,.inl (.inr ⟨by simp,by simp,?_,by rw[xab zO]⟩),λ_ _=>by simp,λ_=>rfl⟩;unfold Want;rw[hm];dsimp only;rw[xae e,xae e1];exact⟨rfl,rfl,rfl,rfl,rfl⟩
   rw[e]at ha;cases ha;exact hd
  ·have hd:Fc zQ 87 #[ptr sp,x.v] H (jm sp c nx F ord tr x):=by
    refine(VR h).mono ?_;rintro v H' (⟨e1,rfl,rfl⟩|⟨e1,rfl,h'⟩)
    ·refine bD zO 3 0 rfl zD h zO ?_ (λ_=>rfl);unfold Want;rw[hm];dsimp only;rw[xab zO,xae e,xab (by rw[e1];decide)];exact⟨rfl,rfl,rfl,rfl,rfl⟩
    refine⟨⟨0, -1,0,0⟩,_,_,ord,[],rfl,h',by simp,.inl (.inr ⟨by simp,by simp,?_,by rw[xab zO]⟩),λ_ _=>by simp,λ_=>rfl⟩;unfold Want;rw[hm];dsimp only;rw[xab zO,xae e,xae e1];exact⟨rfl,rfl,rfl,rfl,rfl⟩
   rw[e]at ha;cases ha;exact hd
  ·have hd:Fc zQ 88 #[ptr sp,x.v] H (jm sp c nx F ord tr x):=by
    refine Fc.mono (La h hx) λv H' ⟨e1,e2⟩=>?_;subst e1;cases hb:fU F x.a with
    |true=>
     rw[hb,xae rfl]at e2;refine bD zO 0 _ e2 zD h zO (cO hm zO zO λ_=>?_) (λh=>by omega);rw[xae (by rw[hb,e];rfl)];exact⟨λ_=>⟨rfl,rfl⟩,by omega,by omega,by omega,by omega⟩
    |false=>
     rw[hb,xab zD]at e2;refine bD zO 3 0 e2 zD h zO (cO hm zO zO λ_=>?_) (λ_=>rfl);rw[xab (by rw[hb];simp)];exact⟨rfl,rfl⟩
   rw[e]at ha;cases ha;exact hd
  ·have hd:Fc zQ 89 #[ptr sp,x.v] H (jm sp c nx F ord tr x):=by
    refine Fc.mono (Ue h) λv H' ⟨e1,e2⟩=>?_;subst e1;cases hb:fU F x.a&&fU F x.b with
    |true=>
     rw[hb,xae rfl]at e2;refine bD zO 0 _ e2 zD h zO (cO hm zO zO λ_=>?_) (λh=>by omega);rw[xae (by rw[e];simpa using hb)];exact⟨by omega,λ_=>⟨rfl,rfl⟩,by omega,by omega,by omega⟩
    |false=>
     rw[hb,xab zD]at e2;refine bD zO 3 0 e2 zD h zO (cO hm zO zO λ_=>?_) (λ_=>rfl);rw[xab (by rw[e];simp only[ne_eq,not_true_eq_false,xdn,xdw];rw[hb];decide)];exact⟨rfl,rfl⟩
   rw[e]at ha;cases ha;exact hd
  ·have hd:Fc zQ 90 #[ptr sp,x.v] H (jm sp c nx F ord tr x):=by
    refine Fc.mono (Kl h) λv H' ⟨e1,e2⟩=>?_;subst e1;cases hb:fU F x.a with
    |true=>
     rw[hb,xae rfl]at e2;refine bD zO 0 _ e2 zD h zO (cO hm zO zO λ_=>?_) (λh=>by omega);rw[xae (by rw[hb,e];rfl)];exact⟨by omega,by omega,λ_=>⟨rfl,rfl⟩,by omega,by omega⟩
    |false=>
     rw[hb,xab zD]at e2;refine bD zO 3 0 e2 zD h zO (cO hm zO zO λ_=>?_) (λ_=>rfl);rw[xab (by rw[hb];simp)];exact⟨rfl,rfl⟩
   rw[e]at ha;cases ha;exact hd
  ·have hd:Fc zQ 91 #[ptr sp,x.v] H (jm sp c nx F ord tr x):=by
    refine Fc.mono (T6 h) λv H' ⟨e1,e2⟩=>?_;subst e1;have w:∀e' N,Want c.n nx F x e' (-1) N F nx:=λe' N=>cO hm zO zO λ_=>by omega
    cases hb:fU F x.a with
    |true=>
     rw[hb,xae rfl]at e2;exact bD zO 0 _ e2 zD h zO (w _ _) (λh=>by omega)
    |false=>
     rw[hb,xab zD]at e2;exact bD zO 3 0 e2 zD h zO (w _ _) (λ_=>rfl)
   rw[e]at ha;cases ha;exact hd
  ·have hd:Fc zQ 92 #[ptr sp,x.v] H (jm sp c nx F ord tr x):=by
    refine Fc.mono (UP h) λv H' ⟨e1,e2⟩=>?_;subst e1;exact bD zO 0 _ e2 zD h zO (cO hm zO zO λ_=>by omega) (λh=>by omega)
   rw[e]at ha;cases ha;exact hd
  ·have hd:Fc zQ 93 #[ptr sp,x.v] H (jm sp c nx F ord tr x):=by
    refine Fc.mono (Qy h) λv H' ⟨e1,e2⟩=>?_;subst e1;rcases e2 with⟨hb,e2⟩|⟨hb,hf,e2⟩|⟨hb,hf,V,hV,hL,e2⟩
    ·refine bD zO 3 0 e2 zD h zO (cO hm zO zO λ_=>?_) (λ_=>rfl);rw[xab (by rw[hb];simp)];exact⟨rfl,rfl⟩
    ·refine bD zO 10 0 e2 zD h zO (cO hm zO zO λ_=>?_) (λ_=>rfl);rw[xae (by rw[hb,e];rfl)];exact⟨by omega,by omega,by omega,λ_=>.inl ⟨hf,rfl,rfl⟩,by omega⟩
    refine bD zO 0 V e2 zD h zO (cO hm zO zO λ_=>?_) (λh=>by omega);rw[xae (by rw[hb,e];rfl)];exact⟨by omega,by omega,by omega,λ_=>.inr ⟨hf,rfl,hL⟩,by omega⟩
   rw[e]at ha;cases ha;exact hd
  ·have hd:Fc zQ 94 #[ptr sp,x.v] H (jm sp c nx F ord tr x):=by
    refine Fc.mono (Ez h) λv H' ⟨e1,e2⟩=>?_;subst e1;rcases e2 with⟨hb,e2⟩|⟨hb,m,hm',e2⟩
    ·refine bD zO 3 0 e2 zD h zO (cO hm zO zO λ_=>?_) (λ_=>rfl);rw[xab (by rw[hb];simp)];exact⟨rfl,rfl⟩
    refine bD zO 0 m e2 zD h zO (cO hm zO zO λ_=>?_) (λh=>by omega);rw[xae (by rw[hb,e];rfl)];exact⟨by omega,by omega,by omega,by omega,λ_=>⟨rfl,hm'⟩⟩
   rw[e]at ha;cases ha;exact hd
  ·have hd:Fc zQ 95 #[ptr sp,x.v] H (jm sp c nx F ord tr x):=by
    refine Fc.mono (Qu h) λv H' ⟨e1,e2⟩=>?_;subst e1;have w:∀e' N,Want c.n nx F x e' (-1) N F nx:=λe' N=>cO hm zO zO λ_=>by omega
    rcases e2 with⟨_,e2⟩|⟨_,p,_,_,e2⟩
    ·exact bD zO 2 0 e2 zD h zO (w _ _) (λ_=>rfl)
    exact bD zO 0 p e2 zD h zO (w _ _) (λh=>by omega)
   rw[e]at ha;cases ha;exact hd
  ·have hd:Fc zQ 96 #[ptr sp,x.v] H (jm sp c nx F ord tr x):=by
    refine(VW h zO).mono ?_;have w:∀e' N,Want c.n nx F x e' (-1) N F nx:=λe' N=>cO hm zO zO λ_=>by omega
    rintro v H' (⟨_,e2,rfl⟩|⟨l,_,_,_,e2,rfl⟩|⟨l,_,_,_,e2,h'⟩)
    ·exact bD zO 1 0 e2 zD h zO (w _ _) (λ_=>rfl)
    ·exact⟨⟨9, -1,0,0⟩,F,nx,ord,tr,e2,h,by omega,.inl (.inl ⟨rfl,rfl,rfl,rfl,.inl ⟨e,rfl⟩⟩),λ_ hn=>absurd e hn,λ_=>rfl⟩
    exact bD zO 0 0 e2 zD h' (by rw[xaf,xcm];omega) (w _ _) (λ_=>rfl)
   rw[e]at ha;cases ha;exact hd
  have hd:Fc zQ 97 #[ptr sp,x.v] H (jm sp c nx F ord tr x):=by
   refine(EM h zO).mono ?_;have w:∀e' N,Want c.n nx F x e' (-1) N F nx:=λe' N=>cO hm zO zO λ_=>by omega
   rintro v H' ⟨e',n,o,de,e2,hne,Tm,h',hb⟩;exact bD zO e' n e2 hne h' zO (w _ _) (λh=>Tm zO)
  rw[e]at ha;cases ha;exact hd
 have hop:¬(1<=x.op/\x.op<=11):=λhop=>by
  have:x.op=1\/x.op=2\/x.op=3\/x.op=4\/x.op=5\/x.op=6\/x.op=7\/x.op=8\/x.op=9\/x.op=10\/x.op=11:=by omega
  rcases this with e|e|e|e|e|e|e|e|e|e|e<;>rw[e]at hm<;>cases hm
 have ajI:¬(12<=x.op/\x.op<=23):=λhop=>by
  have:x.op=12\/x.op=13\/x.op=14\/x.op=15\/x.op=16\/x.op=17\/x.op=18\/x.op=19\/x.op=20\/x.op=21\/x.op=22\/x.op=23:=by omega
  rcases this with e|e|e|e|e|e|e|e|e|e|e|e<;>rw[e]at ha<;>cases ha
 exact⟨⟨12, -1,0,0⟩,F,nx,ord,tr,rfl,h,by omega,.inl (.inr ⟨by simp,by simp,cO hm zO zO λ_=>by omega,by rw[xab hop]⟩),λ_ _=>by simp,λ_=>rfl⟩
end
end
section
def nI(x:Nat):zV:=iv (x:Int)
theorem PE{v:zV}{C:Hp}{l:List Int}(h:aQ 3 .i64 v l C)(cA:l.length<1152921504606846976):Fc zQ 99 #[v] C (λr C'=>r=.tuple #[]/\aQ 3 .i64 v (ED l) C'):=by
 refine aF λg=>NT ?_;refine h.bP ?_;refine br.q (aa.rq (AR zO C) ?_);rintro w ⟨r,_,rfl⟩;have hd:Da 3 .i64 v l.toArray C:=h;refine aa.fn .here (Kv aat l.length hd (a:=0) (b:=l.length) zO zO zI (by simpa using cA) (.inl rfl) _) ?_;rintro w C' ⟨rfl,e,⟨h1,h2⟩,dP⟩;have he:=PD (d:=l.toArray) (by simpa using h1) (by simpa using h2);exact aN.here ⟨rfl,by rw[show ED l=e.toList from he.symm];exact dP⟩
open aA
section
noncomputable abbrev AFI:Func:=Tryz.f152
variable {f:FuncId} {cap:Array zV} {B:Hp} {N:Nat} {S:zL->Prop}
noncomputable def cM:Code:=match AFI.body with|some (.seq _ (.seq (.seq _ (.block _ (.rangeFunc _ _ c _))) _))=>c|_=>.skip
noncomputable def dQ:Code:=match AFI.body with|some (.seq _ (.seq (.seq _ (.block _ (.rangeFunc _ _ _ c))) _))=>c|_=>.skip
noncomputable def Lp(i:Nat):Oper:=match dQ with| .block _ (.region _ ops _)=>(match ops[i]? with|some o=>o|none=>default)|_=>default
def iF(fn:FuncId)(tmps:Array zV)(assign body:Code)(D:Nat):Loop:={state:=.ready,pending:=none,fn,tmps,params:=#[7],assign,body,defers:=D}
def ZN(l D bs:Nat)(fn:FuncId)(tmps:Array zV)(assign body:Code)(ss:zL)(A:Hp):Prop:=
 ∃v C',A=(l,.loop (iF fn tmps assign body D))::(D,.deferred (some []))::(bs,.cells #[v] 43 (0,0))::C'/\aQ 3 .i64 v (iw ss) C'
theorem NJ{g:Gh}{l D bs:Nat}{fn:FuncId}{tmps:Array zV}{fr:Fr}(hsz:tmps.size=13)(gP:∀s,tmps.getD s undef=fr s)(f2:fr 2=ptr bs){ss:zL}{x:Nat}{A X:Hp}{W:World}
 (hG:ZN l D bs fn tmps cM dQ ss A)(hl:ss.length<1099511627776)(hW:Own g (A++X) W):
  YieldAt Fence.wide 0 zQ l #[nI x] W (λe W'=>e=.returned (.bool true)/\∃A',ZN l D bs fn tmps cM dQ (ss++[x]) A'/\Own g (A'++X) W'):=by
 obtain⟨v,C',rfl,ho⟩:=hG;have hF:∀f,(Fence.wide.inRound l).fn f:=λ_=>trivial;have hL:W.heap[l]? =some (.loop (iF fn tmps cM dQ D)):=hW.has _ (.head _);refine⟨fn,_,cM,dQ,run_yield hL rfl,roundIn_of_wpIn trivial ?_⟩;have ha:xw [] 13 {tmps:=tmps.setIfInBounds 7 (nI x),defers:=[]} (bg fr (some 7) (nI x)):=(xw.put (a:={tmps:=tmps,defers:=[]}) (d:=some 7) ⟨rfl,hsz,gP⟩ rfl (nI x));have ha:xw [] 13 {tmps:=(#[7].zip #[nI x]).foldl (λtmps (t,a)=>tmps.setIfInBounds t a) tmps,defers:=[]} (bg fr (some 7) (nI x)):=by simpa using ha
 change Code.wpIn _ 0 zQ (.region _ #[_] false) _ _ _;refine wpIn_region_lit ?_;refine dD (g:=g) (n:=13) (v0:=nI x) hF rfl zC rfl ha hW rfl λa1 tQ=>?_;refine wpListIn_nil ?_;have hbr:=run_beginRound (P:=zQ) hL rfl;refine⟨_,hbr,?_⟩;have CZ:=hW.putObj (o':=.loop {iF fn tmps cM dQ D with state:=.busy}) (.head _);change Code.wpIn _ 0 zQ (.block _ (.region _ #[_,_,_,_,_] false)) _ _ _;refine wpIn_block ?_;refine wpIn_region_lit ?_;obtain⟨H1,Zc⟩:∃H1,H1=(l,Obj.loop {iF fn tmps cM dQ D with state:=.busy})::(((D,.deferred (some []))::(bs,.cells #[v] 43 (0,0))::C')++X):=⟨_,rfl⟩
 replace CZ:Own g H1 (W.putObj l (.loop {iF fn tmps cM dQ D with state:=.busy})):=by rw[Zc];exact CZ
 have e0:Af zQ g (Lp 0) (ev (bg (bg fr (some 7) (nI x)) (some 5) (nI x))) H1 (λz=>z=v)=Ld H1 (fr 2) (λz=>z=v):=by kernel_rfl
 refine dD (g:=g) (n:=13) (v0:=v) hF rfl zC rfl tQ CZ (e0.mpr (by rw[f2];exact Ld.mk (by rw[Zc];exact .tail _ (.tail _ (.head _))) rfl rfl)) λa2 p8=>?_;refine dD (g:=g) (n:=13) (v0:=nI x) hF rfl zC rfl p8 CZ rfl λa3 uf=>?_;have eb:∀K:zV->Hp->Prop,av zQ 43 1 [(0,iv (x:Int))] H1 K=My zQ g (Lp 2) (ev (bg (bg (bg (bg fr (some 7) (nI x)) (some 5) (nI x)) (some 8) v) (some 9) (nI x))) H1 K (λ_ _=>False):=λK=>by kernel_rfl
 refine x8 (g:=g) (n:=13) (s:=_) (K:=λv H=>∃b,v=.slice (some ⟨b,0,none⟩) 1 1/\H=(b,.cells (ax .i64 [(x:Int)]) 3 (0,0))::H1) hF rfl zC rfl uf CZ rfl
  ((eb _).mp (av.int zK zK zK λb=>⟨b,rfl,rfl⟩)) λv1 H2 w2 a4 hv RM FH=>?_
 obtain⟨b,rfl,rfl⟩:=hv;have hn:(iw ss).length=ss.length:=ak ss;obtain⟨H2,hH2⟩:∃H2,H2=(b,Obj.cells (ax .i64 [(x:Int)]) 3 (0,0))::H1:=⟨_,rfl⟩;rw[<-hH2]at RM;refine x8 (g:=g) (n:=13) (s:=_) (K:=λv' H=>∃C2,aQ 3 .i64 v' (iw (ss++[x])) C2/\H=(b,Obj.cells (ax .i64 [(x:Int)]) 3 (0,0))::(l,Obj.loop {iF fn tmps cM dQ D with state:=.busy})::(D,.deferred (some []))::(bs,.cells #[v] 43 (0,0))::(C2++X))
  hF rfl zC rfl FH RM (by simp only[execOp,resolve,invoke,builtin];simp[bind,Sem.bind];rfl) ?_ λv2 H3 w3 a5 hv AD FG=>?_
 ·have e1:∀K:zV->Hp->Prop,App zQ 3 1 8 (iv 0) H2 v (.slice (some ⟨b,0,none⟩) 1 1) K=
   My zQ g (Lp 3) (ev (bg (bg (bg (bg (bg fr (some 7) (nI x)) (some 5) (nI x)) (some 8) v) (some 9) (nI x)) (some 10) (.slice (some ⟨b,0,none⟩) 1 1))) H2 K (λ_ _=>False):=λK=>by kernel_rfl
  refine(e1 _).mp ?_;rw[hH2,Zc];refine ho.rB (.cons (.cons (.cons (.cons .left)))) (by exact .head _) zO zO λv' C2 rH=>⟨C2,?_,rfl⟩;rw[cj];exact rH
 obtain⟨C2,rH,rfl⟩:=hv;have es:∀(H:Hp) (K:zV->Hp->Prop),St 1 H (fr 2) v2 (λH'=>K undef H')=My zQ g (Lp 4) (ev (bg (bg (bg (bg (bg (bg fr (some 7) (nI x)) (some 5) (nI x)) (some 8) v) (some 9) (nI x)) (some 10) (.slice (some ⟨b,0,none⟩) 1 1)) (some 11) v2)) H K (λ_ _=>False):=λH K=>by kernel_rfl
 refine WC (g:=g) (n:=13) (s:=_) (K:=λ_ H=>H=(b,Obj.cells (ax .i64 [(x:Int)]) 3 (0,0))::(l,Obj.loop {iF fn tmps cM dQ D with state:=.busy})::(D,.deferred (some []))::(bs,.cells #[v2] 43 (0,0))::(C2++X))
  hF rfl zC rfl FG AD rfl ((es _ _).mp ?_) λH4 w4 a6 hv Vy FE=>?_
 ·rw[f2];exact St.one (.tail (.tail (.tail (.head _)))) rH.one zI rfl rfl
 subst hv;refine wpListIn_nil ?_;simp only[Exit.inBlock,roundPost];refine⟨_,_,run_endRound none (Vy.has _ (.tail _ (.head _))),rfl,_,⟨v2,C2,rfl,rH⟩,?_⟩;exact(Vy.putObj (.tail (.head _))).tail
theorem Gf(hg:tB zQ f cap B nI N S)(hc:aT zQ f=true)(hN:N<=1099511627776):
  Fc zQ 152 #[.slice none 0 0,.func (.func f) #[] cap] B (λv H=>∃ss C',S ss/\H=C'++B/\aQ 3 .i64 v (iw ss) C'):=by
 intro g w hw;rw[<-callsIn_wide (n:=0)];have hF:∀f,Fence.wide.fn f:=λ_=>trivial;refine callsIn_of_wp_marks Tryz.func152 rfl trivial ?_;have ha:=m5 (m:=13) (args:=[.slice none 0 0,.func (.func f) #[] cap]) zI;refine wpIn_seq ?_;refine wpIn_region_lit ?_;refine x8 (g:=g) (n:=13) (s:=_) (K:=λv H=>∃bs,v=ptr bs/\H=(bs,.cells #[.slice none 0 0] 43 (0,0))::B) hF rfl zC rfl ha hw rfl (λbs _=>⟨bs,rfl,rfl⟩) λv H1 w1 a1 hv jz tQ=>?_;obtain⟨bs,rfl,rfl⟩:=hv;refine dD (g:=g) (n:=13) (v0:=.slice none 0 0) hF rfl zC rfl tQ jz rfl λa2 p8=>?_;refine wpListIn_nil ?_;refine wpIn_seq ?_;refine wpIn_seq ?_;refine wpIn_region_lit ?_;refine dD (g:=g) (n:=13) (v0:=.func (.func f) #[] cap) hF rfl zC rfl p8 jz rfl λa3 uf=>?_;refine wpListIn_nil ?_;refine wpIn_block ?_;refine wpIn_rangeFunc λfn hfn=>?_;have xH:=(jz.alloc (.deferred (some []))).alloc (.loop (iF fn a3.tmps cM dQ w1.heap.size));have f6:a3.tmps[6]?.getD undef=.func (.func f) #[] cap:=by have:=uf.get 6;rw[xas]at this;exact this
 obtain⟨W1,CZ⟩:∃W1,W1=(w1.alloc (.deferred (some []))).alloc (.loop (iF fn a3.tmps cM dQ w1.heap.size)):=⟨_,rfl⟩;rw[<-CZ]at xH;refine⟨w1.heap.size+1,[{target:=.collected w1.heap.size,args:=#[]}],W1,{target:=.fn (.func f) cap,args:=#[.func (.yield (w1.heap.size+1)) #[] #[]]},W1,f,#[.func (.yield (w1.heap.size+1)) #[] #[]]++cap,W1,?_,?_,λ_ _=>trivial,?_,λh=>(by cases h),?_⟩
 ·rw[CZ];exact run_enterLoop_outer fn a3.tmps #[7] _ _
 ·simp[resolve,Deferred.ofValue,f6,go_sem]
 ·simp[invoke,go_sem];exact eA hc _ _
 have hsz:(w1.alloc (.deferred (some []))).heap.size=w1.heap.size+1:=by simp
 rw[hsz]at xH;refine CallsIn.mono (hg g (w1.heap.size+1) (ZN (w1.heap.size+1) w1.heap.size bs fn a3.tmps cM dQ) (λss x A X W hG hl hW=>NJ uf.size uf.get rfl hG zO hW) [_,_,_] W1 ⟨_,[],rfl,aQ.nil⟩ xH) ?_;rintro e W2 ⟨⟨v0,rfl⟩,ss,A',hS,⟨v,C',rfl,ho⟩,RM⟩;refine⟨none,_,run_endLoop (RM.has _ (.head _)) (by simp[iF]),?_⟩;have AD:=RM.putObj (o':=.loop {iF fn a3.tmps cM dQ w1.heap.size with state:=.exhausted}) (.head _);simp only[Exit.then,Exit.inBlock];have FH:xw [{target:=.collected w1.heap.size,args:=#[]}] 13 {a3 with defers:=[{target:=.collected w1.heap.size,args:=#[]}]++a3.defers} (bg (bg (bg (gO [.slice none 0 0,.func (.func f) #[] cap] 0) (some 2) (ptr bs)) (some 4) (.slice none 0 0)) (some 6) (.func (.func f) #[] cap)):=
  ⟨by rw[uf.defers];rfl,uf.size,uf.get⟩
 refine wpIn_seq ?_;refine wpIn_region_lit ?_;obtain⟨H3,Zb⟩:∃H3,H3=(w1.heap.size+1,Obj.loop {iF fn a3.tmps cM dQ w1.heap.size with state:=.exhausted})::(((w1.heap.size,.deferred (some []))::(bs,.cells #[v] 43 (0,0))::C')++B):=⟨_,rfl⟩
 replace AD:Own g H3 (W2.putObj (w1.heap.size+1) (.loop {iF fn a3.tmps cM dQ w1.heap.size with state:=.exhausted})):=by rw[Zb];exact AD
 have e0:Af zQ g (fh AFI 4 0) (ev (bg (bg (bg (gO [.slice none 0 0,.func (.func f) #[] cap] 0) (some 2) (ptr bs)) (some 4) (.slice none 0 0)) (some 6) (.func (.func f) #[] cap))) H3 (λz=>z=v)=Ld H3 (ptr bs) (λz=>z=v):=by kernel_rfl
 refine dD (g:=g) (n:=13) (v0:=v) hF rfl zC rfl FH AD (e0.mpr (Ld.mk (by rw[Zb];exact .tail _ (.tail _ (.head _))) rfl rfl)) λa5 FG=>?_;refine dD (g:=g) (n:=13) (v0:=v) hF rfl zC rfl FG AD rfl λa6 FE=>?_;refine wpListIn_nil ?_;refine wpIn_ret ?_;simp only[Exit.then,bodyPostM];rw[FE.defers];rw[Zb]at AD;refine⟨by simp,.inl ⟨w1.heap.size,_,rfl,run_takeDeferred (AD.has _ (.tail _ (.head _))),?_⟩⟩;have Vy:=AD.putObj (o':=.deferred none) (.tail (.head _));refine⟨_,results_tmp rfl _ _ _,C'++B,Vy.tail.tail.tail,v,C'++B,?_,.refl _,ss,C',hS,rfl,ho⟩;have:=FE.get 4;rw[this];rfl
end
section
variable {f:FuncId} {cap:Array zV} {B:Hp} {N:Nat} {S:zL->Prop}
theorem Dy(hg:tB zQ f cap B nI N S)(hc:aT zQ f=true)(hN:N<=1099511627776):
  Fc zQ 98 #[.func (.func f) #[] cap] B (λv H=>∃ss C',S ss/\H=C'++B/\aQ 3 .i64 v (iw ss) C'):=by
 refine aF λg=>NU ?_;refine aa.fq (Gf hg hc hN) ?_;rintro v H h;exact aN.here h
theorem EE(hg:tB zQ f cap B nI N S)(hS:∀ss,S ss->ss.length<=N)(hc:aT zQ f=true)(hN:N<=1099511627776):
  Fc zQ 46 #[.func (.func f) #[] cap] B (λv H=>∃ss C',S ss/\H=C'++B/\aQ 3 .i64 v (iw (BE ss)) C'):=by
 refine aF λg=>Ou ?_;refine aa.fq (Dy hg hc hN) ?_;rintro v H ⟨ss,C',hs,rfl,ho⟩;have hlen:=hS ss hs;refine aa.fn (.left (A:=B)) (PE ho (by rw[ak];omega)) ?_;rintro w C2 ⟨rfl,cC⟩;rw[Kb]at cC;exact aN.here ⟨ss,C2,hs,rfl,cC⟩
end
section
theorem Eu{κ β:Type}{es:Array MapEntry}{m:List (κ×β)}{seen:Array Nat}{x:κ×β}(h:x∈bS es m seen):x∈m:=by
 obtain⟨p,hp,rfl⟩:=xao.1 h;exact(xdC (xbS.1 hp).1).2
theorem aev{v:zV}{a:Int}(h:v=kI .i64 a)(ha:0<=a):v=nI a.toNat:=by
 rw[h];unfold nI kI;rw[Int.toNat_of_nonneg ha]
variable {es:Array MapEntry} {ck b:Nat} {m:List (Int×Nat)}
theorem Eo(B:Hp):Fc zQ 47 #[.map (some b)] B
  (λv H=>∃bm,v=.func (.func 100) #[] #[ptr bm]/\H=(bm,.cells #[.map (some b)] 88 (0,0))::B):=by
 refine aF λg=>Ot ?_;intro b1 _;exact aN.here ⟨b1,rfl,rfl⟩
noncomputable abbrev VFI:Func:=Tryz.f100
def agF(g:Gh)(bi b:Nat)(l:Nat)(es:Array MapEntry)(ck:Nat)(m:List (Int×Nat))(G:zL->Hp->Prop)(B:Hp)(k:Nat)(a:Act)(w:World):Prop:=
 ∃(fr:Fr) (ss:zL) (A:Hp) (seen:Array Nat),xw [] 14 a fr/\fr 0=.func (.yield l) #[] #[]/\fr 5=ptr bi/\G ss A/\Own g (A++((bi,.mapIter (some b) ck seen ck)::B)) w/\
  (ss++(bS es m seen).map (λp=>p.1.toNat)).Perm (m.map (λp=>p.1.toNat))/\k=(bS es m seen).length
theorem Bt{bm:Nat}{fz:Nat×Nat}(h:aE (kI .i64) (λv (r:Nat)=>v=u32 r) es ck m)(hpos:∀p∈m,0<=p.1):tB zQ 100 #[ptr bm] [(bm,.cells #[.map (some b)] 88 fz),(b,.map es ck)] nI m.length
  (λss=>ss.Perm (m.map (λp=>p.1.toNat))):=by
 intro g l G hY A W h0 hW;have hF:∀f,Fence.wide.fn f:=λ_=>trivial;refine callsIn_of_wp Tryz.func100 rfl trivial ?_;have ha:=m5 (m:=14) (args:=[.func (.yield l) #[] #[],ptr bm]) zI;refine wpIn_seq ?_;refine wpIn_region_lit ?_;obtain⟨B,hB⟩:∃B,B=[(bm,Obj.cells #[.map (some b)] 88 fz),(b,.map es ck)]:=⟨_,rfl⟩;rw[<-hB]at hW;have tL:(bm,Obj.cells #[.map (some b)] 88 fz)∈A++B:=by rw[hB];exact xac _ (.head _)
 have lR:(b,Obj.map es ck)∈A++B:=by rw[hB];exact xac _ (.tail _ (.head _))
 have hmB:∀{X:Hp},(b,Obj.map es ck)∈X++B:=by intro X;rw[hB];exact xac _ (.tail _ (.head _))
 rw[<-hB];have e0:Af zQ g (fh VFI 0 0) (ev (gO [.func (.yield l) #[] #[],ptr bm] 0)) (A++B) (λx=>x=.map (some b))=Ld (A++B) (ptr bm) (λx=>x=.map (some b)):=by kernel_rfl
 refine dD (g:=g) (n:=14) (v0:=.map (some b)) hF rfl zC rfl ha hW (e0.mpr (Ld.mk tL rfl rfl)) λa1 tQ=>?_;refine uH (g:=g) (n:=14) (s:=Instr.range 88 (.map (some b))) (K:=λv H=>∃bi,v=ptr bi/\H=(bi,.mapIter (some b) ck #[] ck)::(A++B)) hF rfl zC rfl tQ rfl
  (Zy.run (.inr ⟨b,es,ck,rfl,lR,λbi _=>⟨bi,rfl,rfl⟩⟩) hW (t:=88) (kt:=3) (e:=110) zK) λv H' w1 a2 hv jz p8=>?_
 obtain⟨bi,rfl,rfl⟩:=hv;refine wpListIn_nil ?_;have pg:Own g (A++((bi,.mapIter (some b) ck #[] ck)::B)) w1:=jz.perm (xaT).symm;clear jz tQ ha hW tL lR;refine wpIn_block ?_;refine uu (agF g bi b l es ck m G B) (k:=(bS es m #[]).length) ⟨_,[],A,#[],p8,rfl,rfl,h0,pg,by rw[mu h];exact .refl _,rfl⟩ ?_;clear p8 pg h0 e0 A;rintro k a w ⟨fr,ss,A,seen,ha,f0,f6,hG,hw,c8,hk⟩;refine wpIn_seq ?_;refine wpIn_region_lit ?_;have e6:ev fr (.tmp 5)=ptr bi:=f6;refine uH (g:=g) (n:=14) (s:=Instr.next (ptr bi) false 0)
  (K:=λv H=>(bS es m seen=[]/\v=.tuple #[.bool false]/\H=A++((bi,.mapIter (some b) ck seen ck)::B))\/
   ∃(e:MapEntry) (x:Int×Nat) (seen':Array Nat),v=.tuple #[.bool true,e.key,e.val]/\e.key=nI x.1.toNat/\(bS es m seen).Perm (x::bS es m seen')/\seen'.back?=some e.born/\es.find? (·.born==e.born)=some e/\
    H=A++((bi,.mapIter (some b) ck seen' ck)::B)) hF rfl zC rfl ha ?_
  (Xu.run (h.next (bi:=bi) (bm:=b) (seen:=seen) (H:=A++((bi,.mapIter (some b) ck seen ck)::B)) (xac _ (.tail _ (by rw[hB];exact .tail _ (.head _)))) (xac _ (.head _))
   (λe x seen' he hk hv hp hb hf=>⟨_,(c6.head _).ca A,.inr ⟨e,x,seen',rfl,aev hk (hpos x (Eu (hp.mem_iff.2 (.head _)))),hp,hb,hf,rfl⟩⟩) (λhu=>.inl ⟨hu,rfl,rfl⟩)) hw) λv H' w1 a1 hv jz tQ=>?_
 ·rw[e6.symm];rfl
 rcases hv with⟨hu,rfl,rfl⟩|⟨e,x,seen',rfl,Fz,hp,Z9,hfi,rfl⟩
 ·refine dD (g:=g) (n:=14) (v0:=.bool false) hF rfl zC rfl tQ jz ⟨_,_,rfl,rfl,rfl⟩ λa2 p8=>?_;refine wpListIn_nil ?_;refine wpIn_seq ?_;refine wpIn_cond_false (by rw[p8.eval];rfl) ?_;refine wpIn_exit ?_;simp only[Exit.then,Exit.inBlock,xa6,bodyPost];refine⟨p8.defers,_,results_none rfl _ _ _,⟨_,rfl⟩,ss,A,?_,hG,(jz.perm xaT).tail⟩;rw[hu,xb6,xaL]at c8;exact c8
 refine dD (g:=g) (n:=14) (v0:=.bool true) hF rfl zC rfl tQ jz ⟨_,_,rfl,rfl,rfl⟩ λa2 p8=>?_;refine wpListIn_nil ?_;refine wpIn_seq ?_;refine wpIn_cond_true (by rw[p8.eval];rfl) ?_;refine wpIn_skip ?_;refine wpIn_block ?_;refine wpIn_seq ?_;refine wpIn_region_lit ?_;refine uH (g:=g) (n:=14) (s:=Instr.entry (ptr bi)) (K:=λv H=>v=.tuple #[e.key,e.val]/\H=A++((bi,.mapIter (some b) ck seen' ck)::B)) hF rfl zC rfl p8 ?_ ?_ λv H' w2 a3 hv pg uf=>?_
 ·rw[e6.symm];rfl
 ·obtain⟨v,hr,hv⟩:=JN.run (P:=zQ) (k:=λv=>v=.tuple #[e.key,e.val]) ⟨bi,b,ck,seen',e.born,ck,es,e,rfl,xac _ (.head _),Z9,xac _ (.tail _ (by rw[hB];exact .tail _ (.head _))),hfi,rfl⟩ jz;exact⟨v,w1,_,hr,jz,hv,rfl⟩
 obtain⟨rfl,rfl⟩:=hv;refine dD (g:=g) (n:=14) (v0:=nI x.1.toNat) hF rfl zC rfl uf pg ⟨_,_,rfl,rfl,Fz⟩ λa4 FH=>?_;refine dD (g:=g) (n:=14) (v0:=nI x.1.toNat) hF rfl zC rfl FH pg (show nI x.1.toNat=nI x.1.toNat from rfl) λa5 FG=>?_;refine wpListIn_nil ?_;refine wpIn_seq ?_;refine wpIn_region_lit ?_;refine dD (g:=g) (n:=14) (v0:=.func (.yield l) #[] #[]) hF rfl zC rfl FG pg f0 λa6 FE=>?_;refine dD (g:=g) (n:=14) (v0:=nI x.1.toNat) hF rfl zC rfl FE pg (show nI x.1.toNat=nI x.1.toNat from rfl) λa7 Vx=>?_;have hlen:(bS es m seen).length=(bS es m seen').length+1:=by rw[hp.length_eq];rfl
 have hlt:ss.length<m.length:=by
  have:=c8.length_eq;simp only[xaf,xax]at this⊢;omega
 obtain⟨fn,tmps,assign,body,hy,hR⟩:=hY _ x.1.toNat A _ w2 hG hlt pg;refine wpListIn_plain rfl λK hK=>⟨λ_ _=>trivial,?_⟩;rw[Oper.semAt_eq _ _ _ zC,Vx.eval];have hex:∀F7:Fr,F7=bg (bg (bg (bg (bg (bg (bg fr (some 6) (.tuple #[.bool true,e.key,e.val])) (some 7) (.bool true)) (some 8) (.tuple #[e.key,e.val])) (some 9) (nI x.1.toNat)) (some 3) (nI x.1.toNat)) (some 10) (.func (.yield l) #[] #[])) (some 11) (nI x.1.toNat)->(execOp (ev F7) (fh VFI 3 2)).run zQ w2=.ok (.round l fn tmps assign body) w2:=λF7 hF7=>by
  have v11:ev F7 (.tmp 10)=.func (.yield l) #[] #[]:=by rw[hF7];rfl
  have v12:ev F7 (.tmp 11)=nI x.1.toNat:=by rw[hF7];rfl
  have Zh:execOp (ev F7) (fh VFI 3 2)=(do let d <-resolve (ev F7) {callee:=.value (.tmp 10),args:=#[.tmp 11],argTypes:=#[3]} 4;invoke d.target d.args):=rfl;rw[Zh];simp[resolve,Deferred.ofValue,v11,v12,invoke,go_sem,hy]
 refine(xce (Oper.uponIn Fence.wide 0 zQ (fh VFI 3 2) a7 K _) (hex _ rfl)).mpr ⟨λh=>(by cases h),hR.mono ?_⟩;rintro e' w3 ⟨rfl,A',hG',U5⟩;refine hK _ _ ?_;have ha8:=Vx.put (d:=some 12) rfl (.bool true);refine dD (g:=g) (n:=14) (v0:=.bool false) hF rfl zC rfl ha8 U5 ⟨_,rfl,rfl⟩ λa9 ha9=>?_;refine wpListIn_nil ?_;refine wpIn_cond_false (by rw[ha9.eval];rfl) ?_;refine wpIn_skip ?_;refine⟨(bS es m seen').length,by omega,_,ss++[x.1.toNat],A',seen',ha9,f0,f6,hG',U5,?_,rfl⟩;rw[xai];exact((hp.map (λp=>p.1.toNat)).append_left ss).symm.trans c8
end
section
variable {sp kp mb nx:Nat} {c:Cf} {K:Kd} {S:Nat->aA.Fn} {ord ah tr:zL} {hs:List (Int×Nat)} {es:Array MapEntry} {ck:Nat} {C:Hp}
theorem FD(h:ij kp nx c K S ord ah tr hs es ck C)(hl:hs.length<=1099511627776):
  Fc zQ 20 #[ptr sp] (gS sp c kp mb nx es ck C) (λv H=>∃N,H=N++gS sp c kp mb nx es ck C/\aQ 3 .i64 v (iw (BE (hs.map λp=>p.1.toNat))) N):=by
 refine aF λg=>OA ?_;refine ae.aD (Br.no (Ld.n (v:=.map (some mb)) ?_));refine aa.fq (Eo _) ?_;rintro w H ⟨bm,rfl,rfl⟩;refine aa.pre (H':=[(bm,.cells #[.map (some mb)] 88 (0,0)),(mb,.map es ck)]++(jh sp c kp mb nx::C)) (.perm (List.Perm.cons _ (List.Perm.swap _ _ _))) ?_;refine aa.fn .left (EE (S:=λss=>ss.Perm (hs.map λp=>p.1.toNat)) (N:=hs.length) (Bt (bm:=bm) (fz:=(0,0)) h.dG λp hp=>(h.lt p hp).1) (λss Yl=>by have:=Yl.length_eq;rw[xax]at this;omega) zK hl) ?_;rintro v H ⟨ss,N,Yl,rfl,ho⟩;rw[T2 Yl]at ho;refine aN.mk ?_ ⟨N,rfl,ho⟩;rw[xai];refine .cW ?_ N;exact .skip (.perm (List.Perm.swap _ _ _))
theorem L5(h:ij kp nx c K S ord ah tr hs es ck C):
  Fc zQ 27 #[ptr sp] (gS sp c kp mb nx es ck C) (λv H=>∃N,H=N++gS sp c kp mb nx es ck C/\aQ 3 .i64 v (iw ord) N):=by
 refine aF λg=>Oz ?_;refine ae.aD (Br.no (Ld.n (v:=ptr kp) ?_));refine aa.fq (DK h.ks.aZ) ?_;rintro v H ⟨N,rfl,ho⟩;exact aN.mk (aM.Ps [jh sp c kp mb nx,(mb,.map es ck)] N C) ⟨N,rfl,ho⟩
end
section
variable {sp nx:Nat} {c:Cf} {F:FS} {ord tr:zL} {H:Hp}
def hsN(F:FS):zL:=BE (F.map λp=>p.1.toNat)
theorem CY(h:kg sp c nx F ord tr H)(hl:F.length<=1099511627776):Fc zQ 20 #[ptr sp] H (λv H'=>∃N,H'=N++H/\aQ 3 .i64 v (iw (hsN F)) N):=by
 obtain⟨kp,mb,K,S,ah,hs,es,ck,C,rfl,h,rfl⟩:=h;have e:(je S hs).map (λp=>p.1.toNat)=hs.map λp=>p.1.toNat:=by unfold je;rw[xbQ];rfl
 unfold hsN;rw[e];exact FD h (by unfold je at hl;rwa [xax]at hl)
theorem BY(h:kg sp c nx F ord tr H):Fc zQ 27 #[ptr sp] H (λv H'=>∃N,H'=N++H/\aQ 3 .i64 v (iw ord) N):=by
 obtain⟨kp,mb,K,S,ah,hs,es,ck,C,rfl,h,rfl⟩:=h;exact L5 h
end
section
variable {n rs nx qG:Nat} {F F':FS} {x:fM} {r:Rp}
structure TrF(rs nx:Nat)(F:FS)(x:fM)(r:Rp)(F':FS)(qG:Nat):Prop where
 a:r.e=0/\1<=x.op/\x.op<=12->r.h=nx/\qG=nx+1/\F'.length=F.length+1
 b:¬(r.e=0/\1<=x.op/\x.op<=12)->r.h= -1/\qG=nx
 f:x.op=13/\r.e=0->F'.length+1=F.length
 k:¬(r.e=0/\1<=x.op/\x.op<=12)->¬(x.op=13/\r.e=0)->F'.length=F.length
 t:1<=x.op/\x.op<=11->(r.e=0/\1<=r.t/\r.t<=(rs:Int)+1)\/(r.e=8/\1<=r.t/\r.t<=(rs:Int)+1)\/(r.e=9/\r.t=(rs:Int)+1)\/((r.e=1\/r.e=2\/r.e=3)/\r.t=0)
 u:¬(1<=x.op/\x.op<=11)->r.t=0
theorem Cn{a:Int}:∀{F:FS},(F.map Prod.fst).Nodup->fU F a=true->(ia F a).length+1=F.length
 | [],_,h=>by cases h
 |p::F,eY,h=>by
  rw[xaB,xaV]at eY;unfold ia at*;by_cases e:p.1=a
  ·have:F.filter (λy=>decide ¬y.1=a)=F:=xcg.2 λy hy=>by
    have:y.1≠a:=λe2=>eY.1 (by rw[e,<-e2];exact xaP hy);simpa using this
   rw[xbk,xab (by simpa using e),this];rfl
  have h2:fU F a=true:=by
   unfold fU aK at*;rw[xbv]at h;simpa[e]using h
  have ih:=Cn eY.2 h2;unfold ia at ih;rw[xbk,xae (by simpa using e),xay,xay];omega
theorem XG(eY:(F.map Prod.fst).Nodup)(h:Small n rs nx F x r F' qG\/Full rs nx F x r F' qG):TrF rs nx F x r F' qG:=by
 rcases h with(⟨e,hh,rfl,rfl,ht⟩|⟨e9,e8,hW,ht⟩)|⟨e,hh,rfl,rfl,_,ht⟩
 ·exact⟨by omega,λ_=>⟨hh,rfl⟩,by omega,λ_ _=>rfl,by omega,by omega⟩
 ·unfold Want at hW;cases hm:eU x.op with
  |some p=>
   have hop:=Co hm;rw[hm]at hW;dsimp only at hW;rw[xae hop]at ht;have hf:=yw (n:=n) (F:=F) (w:=p.1) (x:=x);split at hW
   ·obtain⟨e0,hh,hN,rfl,rfl⟩:=hW;have:=ht.1 e0;exact⟨λ_=>⟨hh,rfl,by simp⟩,by omega,by omega,by omega,by omega,by omega⟩
   rename_i hl;obtain⟨e0,hh,hN,rfl,rfl⟩:=hW;have:=ht.2 zO;exact⟨by omega,λ_=>⟨hh,rfl⟩,by omega,λ_ _=>rfl,by omega,by omega⟩
  |none=>
   have hop:¬(1<=x.op/\x.op<=11):=λhop=>by
    have:x.op=1\/x.op=2\/x.op=3\/x.op=4\/x.op=5\/x.op=6\/x.op=7\/x.op=8\/x.op=9\/x.op=10\/x.op=11:=by omega
    rcases this with e|e|e|e|e|e|e|e|e|e|e<;>rw[e]at hm<;>cases hm
   rw[hm]at hW;dsimp only at hW;rw[xab hop]at ht;split at hW
   ·rename_i M7;split at hW
    ·obtain⟨e0,hh,hN,rfl,rfl⟩:=hW;exact⟨λ_=>⟨hh,rfl,by simp⟩,by omega,by omega,by omega,by omega,by omega⟩
    obtain⟨e0,hh,hN,rfl,rfl⟩:=hW;exact⟨by omega,λ_=>⟨hh,rfl⟩,by omega,λ_ _=>rfl,by omega,by omega⟩
   split at hW
   ·rename_i M7 Tt;split at hW
    ·rename_i hF;obtain⟨e0,hh,hN,rfl,rfl⟩:=hW;exact⟨by omega,λ_=>⟨hh,rfl⟩,λ_=>Cn eY hF,by omega,by omega,by omega⟩
    obtain⟨e0,hh,hN,rfl,rfl⟩:=hW;exact⟨by omega,λ_=>⟨hh,rfl⟩,by omega,λ_ _=>rfl,by omega,by omega⟩
   rename_i M7 Tt;obtain⟨hh,rfl,rfl,_⟩:=hW;exact⟨by omega,λ_=>⟨hh,rfl⟩,by omega,λ_ _=>rfl,by omega,by omega⟩
 exact⟨by omega,λ_=>⟨hh,rfl⟩,by omega,λ_ _=>rfl,by omega,by omega⟩
end
theorem kg.Zg{sp nx:Nat}{c:Cf}{F:FS}{ord tr:zL}{H:Hp}(h:kg sp c nx F ord tr H):Bh c.n F ord<=1048574:=by
 obtain⟨kp,mb,K,S,ah,hs,es,ck,C,rfl,h,rfl⟩:=h;rw[<-h.Bh];exact gu h.ks.aZ
theorem kg.kK{sp nx:Nat}{c:Cf}{F:FS}{ord tr:zL}{H:Hp}(h:kg sp c nx F ord tr H):Proofs.kK (iw ord)/\ord.length=c.n:=by
 have hp:=h.perm;have hl:ord.length=c.n:=by rw[hp.length_eq,xaI]
 refine⟨λv hv=>?_,hl⟩;rw[ak,hl]at hv;exact xaP (f:=λn:Nat=>(n:Int)) (hp.mem_iff.2 (xaM.2 hv))
def WJ(x:fM)(r:Rp):Bool:=(decide (r.e=0) &&decide (1<=x.op)) &&decide (x.op<=12)
def zE(x:fM)(r:Rp):Bool:=(((decide (1<=x.op) &&decide (x.op<=11)) &&decide (r.e≠1)) &&decide (r.e≠2)) &&decide (r.e≠3)
section
variable {rs nx qG:Nat} {F F':FS} {x:fM} {r:Rp}
theorem tZ:WJ x r=true↔r.e=0/\1<=x.op/\x.op<=12:=by
 unfold WJ;simp only[xav,xaA];omega
theorem Bw:zE x r=true↔(1<=x.op/\x.op<=11)/\r.e≠1/\r.e≠2/\r.e≠3:=by
 unfold zE;simp only[xav,xaA];omega
theorem TR(h:TrF rs nx F x r F' qG)(hn:r.e≠0\/x.op<=13->r.n=0):
  ((((WJ x r&&decide (r.h≠nx))||(!WJ x r&&decide (r.h≠ -1)))||(decide (r.e≠0) &&decide (r.n≠0)))||(((((decide (x.op<=17) &&decide (x.op≠14)) &&decide (x.op≠15)) &&decide (x.op≠16)) &&decide (x.op≠17)) &&decide (r.n≠0)))=false:=by
 have ha:=h.a;have hb:=h.b;rw[Bool.eq_false_iff];cases hm:WJ x r
 ·have:¬_:=λh=>xeh (hm.symm.trans (tZ.2 h));simp only[ne_eq,xa9,xav,xaA,xb0,xcs,xaN,xey,false_or];omega
 have:=tZ.1 hm;simp only[ne_eq,xa9,xav,xaA,xb8,xcs,xaN,xey,xby];omega
theorem TQ(h:TrF rs nx F x r F' qG):
  (((zE x r&& (decide (r.t<1)||decide ((rs:Int)+1<r.t)))||(!zE x r&&decide (r.t≠0)))||((zE x r&&decide (r.e=9)) &&decide (r.t≠(rs:Int)+1)))=false:=by
 have ht:=h.t;have hu:=h.u;rw[Bool.eq_false_iff];cases hm:zE x r
 ·have:¬_:=λh=>xeh (hm.symm.trans (Bw.2 h));simp only[ne_eq,xa9,xav,xaA,xb0,xcs,xaN,xey,false_or,xby];omega
 have:=Bw.1 hm;simp only[ne_eq,xa9,xav,xaA,xb8,xcs,xaN,xey,xby];omega
end
set_option maxHeartbeats 400000 in
theorem rS{ci:xu}{steps:List fM}{sv:zV}{Y:Hp}(hs:Sl 5 Y sv (steps.map fM.cells))(hok:∀s∈steps,s.Ok)(cA:steps.length<=174762):
  Rd zQ 10 #[.agg ci.cells.toArray,sv] Y (· =.bool true):=by
 refine aF λg=>OH ?_;intro b1 _;refine aa.eq (Gd _) (Un.not (Br.no (ay.q (r:=ci.cells) ?_)));refine aa.fn hnew (BF ci (Q:=λv H=>(g9 ci≠0/\v=.tuple #[.pointer none,i64 (g9 ci)]/\H=[])\/(g9 ci=0/\∃(d:Cf) (sp:Nat),ci=d.i/\d.Ok/\v=.tuple #[ptr sp,i64 0]/\kg sp d 0 [] (List.range d.n) [] H)) (λh=>.inl ⟨h,rfl,rfl⟩) (λd hd hok sp kp mb C hK=>.inr ⟨by rw[hd];exact hok.g9,d,sp,hd,hok,rfl,KJ hK⟩)) ?_;rintro w HS0 (⟨hne,rfl,rfl⟩|⟨h0,c,sp,rfl,hcO,rfl,RQ⟩)
 ·refine Ext.two (ae.cG (Br.T ?_ hne));exact ae.jS (bc.mk .tail rfl)
 refine Ext.two (ae.cG (Br.F (hs.bP ?_)));rw[xax];obtain⟨Z,hZ⟩:∃Z:Hp,Z=(b1,Obj.cells c.i.cells.toArray 23 (0,0))::Y:=⟨_,rfl⟩;have Vt:(b1,Obj.cells c.i.cells.toArray 23 (0,0))∈Z:=by rw[hZ];exact .head _
 have inY:∀y∈Y,y∈Z:=λy hy=>by rw[hZ];exact .tail _ hy
 have hZY:aM Z Y:=by rw[hZ];exact .tail
 have M3:aM Z [(b1,Obj.cells c.i.cells.toArray 23 (0,0))]:=by rw[hZ];exact .cons λ_ _ h=>h.bt
 refine⟨λvs H=>∃(i nx:Nat) (F:FS) (o tr:zL) (HS:Hp),vs=[i64 (nx:Int),i64 (F.length:Int),i64 (i:Int)]/\i<=steps.length/\nx<=i/\F.length<=nx/\kg sp c nx F o tr HS/\tr.length<=i*69205885/\H=HS++Z,λvs _=>steps.length-bL vs 2,
  JE.mk ⟨0,0,[],_,[],HS0,rfl,xaO _,xaj _,xaj _,RQ,xaO _,by rw[hZ];rfl⟩,?_⟩
 clear RQ;rintro v1 v2 v3 H ⟨i,nx,F,o,tr,HS,⟨⟩,hi,CJ,hFl,hS,eM,rfl⟩ gs;refine ae.fi (Br.dec (λhlt=>?_) (λhge=>?_));rotate_left
 ·exact bc.mk (.dm hZY) rfl
 obtain⟨x,hx⟩:∃x,steps[i]? =some x:=⟨_,xaa hlt⟩;have hxO:=hok x (xaw hx);have hxi:(steps.map fM.cells)[i]? =some x.cells:=by rw[xat,hx];rfl
 refine au.sl hs hxi λp hp=>ay.at hp rfl zD (λy hy=>xac _ (inY y hy)) ?_;intro b24 _;refine St.p (r:=x.cells) x.one ?_;refine ay.q (r:=x.cells) ?_;have hf:=hS.Zg;refine aa.fn (.cons .left) (L3 hS hcO zO hxO.x zO) ?_;rintro v HS' ⟨r,F',qG,o',de,rfl,FJ,hb',hSm,_,Tm⟩;have hT:=XG hS.nodup hSm;have hA:=TR hT Tm;have hB:=TQ hT;intro b30 _;refine St.p (r:=r.cells) r.one ?_;refine Ld.f (v:=i64 r.e) ?_;refine ae.gU (cf.and (decide (1<=x.op)) (λ_=>Ld.f (v:=.int .u8 (x.op:Int)) (ae.rI (b:=1) ⟨rfl,rfl⟩)) rfl λ_=>?_);refine cf.and (decide (x.op<=12)) (λ_=>Ld.f (v:=.int .u8 (x.op:Int)) (ae.xE (b:=12) ⟨rfl,rfl⟩)) rfl λ_=>?_;rw[show((decide (r.e=0) &&decide (1<=x.op)) &&decide (x.op<=12))=WJ x r from rfl];refine cf.and (decide (r.h≠nx)) (λ_=>Ld.f (v:=i64 r.h) (ae.cG ⟨rfl,rfl⟩)) rfl λ_=>?_;refine cf.or (!WJ x r&&decide (r.h≠ -1)) (λ_=>Un.not (cf.and (decide (r.h≠ -1)) (λ_=>Ld.f (v:=i64 r.h) (ae.cG ⟨rfl,rfl⟩)) rfl λ_=>⟨rfl,rfl⟩)) rfl λ_=>?_;refine cf.or (decide (r.e≠0) &&decide (r.n≠0)) (λ_=>Ld.f (v:=i64 r.e) (ae.cG (cf.and (decide (r.n≠0)) (λ_=>Ld.f (v:=u64 r.n) (ae.tH (b:=0) ⟨rfl,rfl⟩)) rfl λ_=>⟨rfl,rfl⟩))) rfl λ_=>?_;refine cf.or (((((decide (x.op<=17) &&decide (x.op≠14)) &&decide (x.op≠15)) &&decide (x.op≠16)) &&decide (x.op≠17)) &&decide (r.n≠0)) (λ_=>?_) rfl λ_=>?_
 ·refine Ld.f (v:=.int .u8 (x.op:Int)) (ae.xE (b:=17) ?_);refine cf.and (decide (x.op≠14)) (λ_=>Ld.f (v:=.int .u8 (x.op:Int)) (ae.tH (b:=14) ⟨rfl,rfl⟩)) rfl λ_=>?_;refine cf.and (decide (x.op≠15)) (λ_=>Ld.f (v:=.int .u8 (x.op:Int)) (ae.tH (b:=15) ⟨rfl,rfl⟩)) rfl λ_=>?_;refine cf.and (decide (x.op≠16)) (λ_=>Ld.f (v:=.int .u8 (x.op:Int)) (ae.tH (b:=16) ⟨rfl,rfl⟩)) rfl λ_=>?_;refine cf.and (decide (x.op≠17)) (λ_=>Ld.f (v:=.int .u8 (x.op:Int)) (ae.tH (b:=17) ⟨rfl,rfl⟩)) rfl λ_=>?_;exact cf.and (decide (r.n≠0)) (λ_=>Ld.f (v:=u64 r.n) (ae.tH (b:=0) ⟨rfl,rfl⟩)) rfl λ_=>⟨rfl,rfl⟩
 rw[hA];apply Br.no;intro J99 h99;have on:∀lv:Int,lv=(if x.op=13/\r.e=0 then(F'.length:Int)+1 else F'.length)->J99 [i64 (qG:Int),i64 lv] ((b30,Obj.cells r.cells.toArray 37 (0,0))::(b24,Obj.cells x.cells.toArray 35 (0,0))::(HS'++Z)):=λlv hlv=>by
  refine h99 _ _ _ λ_=>?_;intro agN agi;have on2:agN [i64 (F'.length:Int)] ((b30,Obj.cells r.cells.toArray 37 (0,0))::(b24,Obj.cells x.cells.toArray 35 (0,0))::(HS'++Z)):=by
   refine agi _ _ λ_=>?_;refine Ld.f (v:=.int .u8 (x.op:Int)) ?_;refine ae.rI (b:=1) (cf.and (decide (x.op<=11)) (λ_=>Ld.f (v:=.int .u8 (x.op:Int)) (ae.xE (b:=11) ⟨rfl,rfl⟩)) rfl λ_=>?_);refine cf.and (decide (r.e≠1)) (λ_=>Ld.f (v:=i64 r.e) (ae.cG ⟨rfl,rfl⟩)) rfl λ_=>?_;refine cf.and (decide (r.e≠2)) (λ_=>Ld.f (v:=i64 r.e) (ae.cG ⟨rfl,rfl⟩)) rfl λ_=>?_;refine cf.and (decide (r.e≠3)) (λ_=>Ld.f (v:=i64 r.e) (ae.cG ⟨rfl,rfl⟩)) rfl λ_=>?_;rw[show((((decide (1<=x.op) &&decide (x.op<=11)) &&decide (r.e≠1)) &&decide (r.e≠2)) &&decide (r.e≠3))=zE x r from rfl];have A9:=hcO.rs;refine cf.and (decide (r.t<1)||decide ((c.rs:Int)+1<r.t)) (λ_=>?_) rfl λ_=>?_
   ·refine Ld.f (v:=i64 r.t) (ae.lss ?_);refine cf.or (decide ((c.rs:Int)+1<r.t)) (λ_=>?_) rfl λ_=>⟨rfl,rfl⟩;refine Ld.f (v:=i64 r.t) ?_;refine ai.mk (Ld.mk (c:=c.i.cells.toArray) (.tail _ (.tail _ (xac _ Vt))) rfl ?_);exact ae.wE (c:=(c.rs:Int)+1) rfl zO (ae.gtr ⟨rfl,rfl⟩)
   refine cf.or (!zE x r&&decide (r.t≠0)) (λ_=>Un.not (cf.and (decide (r.t≠0)) (λ_=>Ld.f (v:=i64 r.t) (ae.cG ⟨rfl,rfl⟩)) rfl λ_=>⟨rfl,rfl⟩)) rfl λ_=>?_;refine cf.or ((zE x r&&decide (r.e=9)) &&decide (r.t≠(c.rs:Int)+1)) (λ_=>?_) rfl λ_=>?_
   ·refine cf.and (decide (r.e=9)) (λ_=>Ld.f (v:=i64 r.e) (ae.gU ⟨rfl,rfl⟩)) rfl λ_=>?_;refine cf.and (decide (r.t≠(c.rs:Int)+1)) (λ_=>?_) rfl λ_=>⟨rfl,rfl⟩;refine Ld.f (v:=i64 r.t) ?_;refine ai.mk (Ld.mk (c:=c.i.cells.toArray) (.tail _ (.tail _ (xac _ Vt))) rfl ?_);exact ae.wE (c:=(c.rs:Int)+1) rfl zO (ae.cG ⟨rfl,rfl⟩)
   rw[hB];apply Br.no;intro alQ agh;have Z7:=hcO.n;obtain⟨OV,Ba⟩:=FJ.kK;refine DR.of (R:=[(b1,Obj.cells c.i.cells.toArray 23 (0,0))]) (.skip (.skip (.dm M3))) ?_;intro F1;refine aa.fn (.cons (.cons .left)) (BY FJ) ?_;rintro ov H2 ⟨N2,rfl,rH⟩;refine⟨.skip (.skip (.dm M3)),_,.skip (.skip (.dm M3)),.refl _,?_⟩;intro F2;refine aa.rq (Ds (p:=iw o') (rH.ints.mono λy hy=>.tail _ (.tail _ (xad _ (xad _ hy)))) (by rw[ak];omega)) ?_;rintro w hw;have:w=i64 0:=by
    rcases hw with⟨h,_⟩|⟨_,_,h⟩|⟨_,h⟩
    ·exact h
    ·rw[ak]at h;omega
    exact absurd OV h
   subst this;refine⟨.skip (.skip (.dm M3)),_,.skip (.skip (.dm M3)),.refl _,?_⟩;refine ae.cG (Br.F (ai.mk (Ld.mk (c:=c.i.cells.toArray) (.head _) rfl ?_)));intro F3;refine aa.pre (.cons (.cons .assoc)) ?_;refine aa.fn (.cons (.cons (.app .left))) (BY FJ) ?_;rintro ov3 H3 ⟨N3,rfl,Av⟩;refine⟨.skip (.skip (.dm (.dm M3))),?_⟩;refine Av.bP ?_;rw[ak,Ba];refine ae.tH (aI.mk ?_);rw[xal zO];apply Br.no;intro F4;refine aa.pre (.cons (.cons (.cW .assoc _))) ?_;refine aa.fn (.cons (.cons (.app (.app .left)))) (CY FJ (by have:=hT.a;have:=hT.k;have:=hT.f;omega)) ?_;rintro hv H4 ⟨N4,rfl,ho4⟩;refine⟨.skip (.skip (.dm (.dm (.dm M3)))),?_⟩;refine ho4.bP ?_;have hl4:(iw (hsN F')).length=F'.length:=by
    rw[ak];unfold hsN;rw[(lf _).length_eq,xax]
   rw[hl4];refine ae.tH (aI.mk (JE.mk (agh _ _ λ_=>?_)));rw[xal zO];refine Br.no (ae.inc ?_);have ha:=hT.a;have hb:=hT.b;have hk:=hT.k;have Rq:=hT.f
   refine aC.of (.skip (.skip ?_)) ⟨i+1,qG,F',o',de,HS',rfl,hlt,by omega,by omega,FJ,by rw[xec];omega,rfl⟩ (by simp only[bL];omega);exact .dm (.dm (aM.assoc.trans (.dm (.refl _))))
  refine Ld.f (v:=.int .u8 (x.op:Int)) ?_;refine ae.eO (b:=13) (cf.and (decide (r.e=0)) (λ_=>Ld.f (v:=i64 r.e) (ae.gU ⟨rfl,rfl⟩)) rfl λ_=>?_);rw[<-xdE];refine Br.dec (λTt=>?_) (λTt=>?_)
  ·rw[xae Tt]at hlv;have:=hT.f Tt;exact ae.kx (c:=(F'.length:Int)) zO zO (JE.mk on2)
  rw[xab Tt]at hlv;rw[hlv];exact JE.mk on2
 cases hm:WJ x r
 ·have hm':¬_:=λh=>xeh (hm.symm.trans (tZ.2 h));refine Br.no (JE.mk ?_);obtain⟨_,e⟩:=hT.b hm';rw[<-e];refine on _ ?_;split
  ·rename_i Tt;have:=hT.f Tt;omega
  rename_i Tt;have:=hT.k hm' Tt;omega
 have hm':=tZ.1 hm;apply Br.yes;obtain⟨_,e,hl⟩:=hT.a hm';refine ae.inc (ae.inc (JE.mk ?_));rw[<-e,<-hl];refine on _ ?_;rw[xab zO]
section
open Go.ChangeShapes Go.WideShapes Go.Deep
variable {H:Type} {enc:TypeId×zV->H} {W:World} {base:Nat} {spare:Nat->Bool} {held:Bool}
theorem Nw{fuel:Nat}{cs:List zV}{x:DataW H×List MemPlace}(hl:cs.length=5)(h:DataW.trod enc zQ W base spare held fuel 23 cs=some x):∃c:xu,cs=c.cells/\c.str<256:=by
 obtain⟨xs,n,_,_,_,hx,hf⟩:=DataW.trod_struct Tryz.underlying23 h
 match cs,hl with
 | [c0,c1,c2,c3,c4],_=>
  have hx5:xs.length=5:=hx;have s7:Tryz.prog.cellsOf 3=1:=by kernel_rfl
  have Ao:Tryz.prog.cellsOf 5=1:=by kernel_rfl
  have g0:DataW.trod enc zQ W base spare held n 3 (List.take (Tryz.prog.cellsOf 3) [c0,c1,c2,c3,c4])=xs[0]? :=hf 0 _ rfl;have g1:DataW.trod enc zQ W base spare held n 3 (List.take (Tryz.prog.cellsOf 3) [c1,c2,c3,c4])=xs[1]? :=hf 1 _ rfl;have g2:DataW.trod enc zQ W base spare held n 5 (List.take (Tryz.prog.cellsOf 5) [c2,c3,c4])=xs[2]? :=hf 2 _ rfl;have g3:DataW.trod enc zQ W base spare held n 3 (List.take (Tryz.prog.cellsOf 3) [c3,c4])=xs[3]? :=hf 3 _ rfl;have g4:DataW.trod enc zQ W base spare held n 3 (List.take (Tryz.prog.cellsOf 3) [c4])=xs[4]? :=hf 4 _ rfl;rw[s7,xaa zO]at g0;rw[s7,xaa zO]at g1;rw[Ao,xaa zO]at g2;rw[s7,xaa zO]at g3;rw[s7,xaa zO]at g4;simp only[xd3,xeb]at g0 g1 g2 g3 g4;obtain⟨n0,e0,_,w0⟩:=DataW.trod_int Tryz.underlying3 g0;obtain⟨n1,e1,_,w1⟩:=DataW.trod_int Tryz.underlying3 g1;obtain⟨n2,e2,_,w2⟩:=DataW.trod_int Tryz.underlying5 g2;obtain⟨n3,e3,_,w3⟩:=DataW.trod_int Tryz.underlying3 g3;obtain⟨n4,e4,_,w4⟩:=DataW.trod_int Tryz.underlying3 g4;have b0:=bounds_i64 w0;have b1:=bounds_i64 w1;have b2:=bounds_u8 w2;have b3:=bounds_i64 w3;have b4:=bounds_i64 w4;simp only[xau,xa0]at e0 e1 e2 e3 e4;have z2:((n2.toNat:Nat):Int)=n2:=by omega
  exact⟨⟨n0,n1,n2.toNat,n3,n4⟩,by unfold xu.cells;simp only;rw[e0,e1,e2,e3,e4,z2],by simp only;omega⟩
theorem EB{fuel:Nat}{cs:List zV}{x:DataW H×List MemPlace}(hl:cs.length=5)(h:DataW.trod enc zQ W base spare held fuel 35 cs=some x):∃s:fM,cs=s.cells/\s.Ok:=by
 obtain⟨xs,n,_,_,_,hx,hf⟩:=DataW.trod_struct Tryz.underlying35 h
 match cs,hl with
 | [c0,c1,c2,c3,c4],_=>
  have hx5:xs.length=5:=hx;have s7:Tryz.prog.cellsOf 3=1:=by kernel_rfl
  have QC:Tryz.prog.cellsOf 33=1:=by kernel_rfl
  have Ao:Tryz.prog.cellsOf 5=1:=by kernel_rfl
  have g0:DataW.trod enc zQ W base spare held n 5 (List.take (Tryz.prog.cellsOf 5) [c0,c1,c2,c3,c4])=xs[0]? :=hf 0 _ rfl;have g1:DataW.trod enc zQ W base spare held n 3 (List.take (Tryz.prog.cellsOf 3) [c1,c2,c3,c4])=xs[1]? :=hf 1 _ rfl;have g2:DataW.trod enc zQ W base spare held n 3 (List.take (Tryz.prog.cellsOf 3) [c2,c3,c4])=xs[2]? :=hf 2 _ rfl;have g3:DataW.trod enc zQ W base spare held n 3 (List.take (Tryz.prog.cellsOf 3) [c3,c4])=xs[3]? :=hf 3 _ rfl;have g4:DataW.trod enc zQ W base spare held n 33 (List.take (Tryz.prog.cellsOf 33) [c4])=xs[4]? :=hf 4 _ rfl;rw[Ao,xaa zO]at g0;rw[s7,xaa zO]at g1;rw[s7,xaa zO]at g2;rw[s7,xaa zO]at g3;rw[QC,xaa zO]at g4;simp only[xd3,xeb]at g0 g1 g2 g3 g4;obtain⟨n0,e0,_,w0⟩:=DataW.trod_int Tryz.underlying5 g0;obtain⟨n1,e1,_,w1⟩:=DataW.trod_int Tryz.underlying3 g1;obtain⟨n2,e2,_,w2⟩:=DataW.trod_int Tryz.underlying3 g2;obtain⟨n3,e3,_,w3⟩:=DataW.trod_int Tryz.underlying3 g3;obtain⟨n4,e4,_,w4⟩:=DataW.trod_int Tryz.underlying33 g4;have b0:=bounds_u8 w0;have b1:=bounds_i64 w1;have b2:=bounds_i64 w2;have b3:=bounds_i64 w3;have b4:=bounds_u64 w4;simp only[xau,xa0]at e0 e1 e2 e3 e4;have z0:((n0.toNat:Nat):Int)=n0:=by omega
  have z4:((n4.toNat:Nat):Int)=n4:=by omega
  exact⟨⟨n0.toNat,n1,n2,n3,n4.toNat⟩,by simp only[fM.cells,u64];rw[e0,e1,e2,e3,e4,z0,z4],⟨by simp only;omega,by simp only;omega,by simp only;omega,by simp only;omega,by simp only;omega⟩⟩
theorem Py{fuel:Nat}{cs:List zV}{x:DataW H×List MemPlace}(h:DataW.trod enc zQ W base spare held fuel 35 cs=some x):∃ps,x.1=.agg ps/\ps.length=5:=by
 obtain⟨xs,n,_,rfl,_,hx,_⟩:=DataW.trod_struct Tryz.underlying35 h;exact⟨_,rfl,by rw[xax];exact hx⟩
theorem Zr{v:zV}{d:DataW H}{ps:List MemPlace}(h:DataW.Trod enc zQ W base spare held 23 v d ps)(hv:∃cs,v=.agg cs/\cs.size=Tryz.prog.cellsOf 23):∃c:xu,v=.agg c.cells.toArray/\c.str<256:=by
 obtain⟨fuel,hf⟩:=h;obtain⟨cs,rfl,hsz⟩:=hv;rw[show Tryz.prog.cellsOf 23=5 by kernel_rfl]at hsz;obtain⟨l⟩:=cs;obtain⟨s,hs,hok⟩:=Nw (cs:=l) hsz hf;subst hs;exact⟨s,rfl,hok⟩
theorem Me{v:zV}{d:DataW H}{ps:List MemPlace}(h:DataW.Trod enc zQ W base spare held 24 v d ps)(hv:∃a n c,v=.slice a n c):
  ∃steps:List fM,Sl 5 (whole W) v (steps.map fM.cells)/\(∀s∈steps,s.Ok)/\((∀n∈d.weights zQ 24,n<=reachBytes)->steps.length<4398046511104)/\(steps.length=0\/∃es sp,d=.slice es sp/\steps.length=es.length/\∀e∈es,∃ps,e=.agg ps/\ps.length=5):=by
 obtain⟨fuel,hf⟩:=h;have k5:Tryz.prog.cellsOf 35=5:=by kernel_rfl
 obtain⟨v',rs,hcs,WX,hw,hr⟩:=LZ Tryz.underlying24 k5 zD hf;have MR:v'=v:=by
  obtain⟨a,n,c,rfl⟩:=hv;simpa[Value.cells]using hcs.symm
 subst MR;have hone:∀r∈rs,∃s:fM,r=s.cells/\s.Ok:=λr hm=>by
  obtain⟨i,hi,e⟩:=xba.1 hm;obtain⟨f,y,_,_,hy,_⟩:=hr i r (by rw[xaa hi,e]);exact EB (WX.1 r hm) hy
 have hex:∃steps:List fM,rs=steps.map fM.cells/\∀s∈steps,s.Ok:=by
  clear WX hw hr hcs;induction rs with
  |nil=>exact⟨[],rfl,by simp⟩
  |cons r rest ih=>
   obtain⟨l,h1,h2⟩:=ih λr hm=>hone r (by simp[hm]);obtain⟨s,h3,h4⟩:=hone r zI;exact⟨s::l,by simp[h1,h3],λm hm=>by rcases xak.1 hm with rfl|hm;exact h4;exact h2 m hm⟩
 obtain⟨steps,rfl,hok⟩:=hex;refine⟨steps,WX,hok,λaH=>?_,?_⟩;rotate_left
 ·rcases hw with⟨h1,_⟩|⟨es,sp,h1,h2⟩
  ·exact .inl (by simpa using xce List.length h1)
  rw[xax]at h2;refine .inr ⟨es,sp,h1,h2.symm,λe he=>?_⟩;obtain⟨i,hi,rfl⟩:=xba.1 he;obtain⟨f,y,gR,sp2,hy,Fo,hy2⟩:=hr i _ (xaa (by rw[xax];omega));have:es=gR:=by
   have e:=h1.symm.trans Fo;simp only[DataW.slice.injEq]at e;exact e.1
  subst this;rw[xaa hi]at hy2;obtain⟨ps,h5,h6⟩:=Py hy;exact⟨ps,(xbm hy2).trans h5,h6⟩
 rcases hw with⟨h1,_⟩|⟨es,sp,h1,h2⟩
 ·have:steps=[]:=by simpa using h1
  subst this;simp
 simp only at h1;have:=aH ((es.length+sp.length)*Tryz.prog.bytesOf 35) (by rw[h1,DataW.weights,Tryz.underlying24];exact xbH ..);rw[show Tryz.prog.bytesOf 35=40 by kernel_rfl]at this;have h3:reachBytes=140737488351232:=rfl;rw[xax]at h2;omega
end
end
end Go.Proofs
namespace Go.Proofs.YtgeffephefcdiaaGreat.Xo
theorem one_le{H:Type}(d:DataW H):1<=Rows.uptoBulk d:=by
 cases d with
 |lit l=>cases l<;>simp[Rows.uptoBulk]
 |nil=>simp[Rows.uptoBulk]
 |ptr d=>simp[Rows.uptoBulk]
 |slice elems spare=>simp[Rows.uptoBulk]
 |agg parts=>simp[Rows.uptoBulk]
 |iface t d=>simp[Rows.uptoBulk]
 |map entries=>simp[Rows.uptoBulk]
 |held h=>simp[Rows.uptoBulk]
theorem Uu{H:Type}{d:DataW H}{l:List (DataW H)}(h:d∈l):Rows.uptoBulk d<=Rows.uptoBulkAll l:=by
 induction l with
 |nil=>cases h
 |cons x r ih=>
  simp only[Rows.uptoBulkAll];cases xak.1 h with
  |inl e=>subst e;omega
  |inr e=>have:=ih e;omega
theorem append{H:Type}(l r:List (DataW H)):Rows.uptoBulkAll (l++r)=Rows.uptoBulkAll l+Rows.uptoBulkAll r:=by
 induction l with
 |nil=>simp[Rows.uptoBulkAll]
 |cons x l ih=>simp only[xaR,Rows.uptoBulkAll,ih];omega
theorem length_le{H:Type}(l:List (DataW H)):l.length<=Rows.uptoBulkAll l:=by
 induction l with
 |nil=>simp[Rows.uptoBulkAll]
 |cons x r ih=>have:=one_le x;simp only[Rows.uptoBulkAll,xay];omega
theorem BG{H:Type}(elems spare:List (DataW H)):Rows.uptoBulkAll elems+1<=Rows.uptoBulk (.slice elems spare):=by
 simp only[Rows.uptoBulk];omega
theorem bound{H:Type}{l:List (DataW H)}(hk:Rows.uptoSmall H l=true):Rows.uptoBulkAll l<=1048576:=by
 simpa[Rows.uptoSmall]using hk
theorem agE{H:Type}{es:List (DataW H)}(h:∀e∈es,∃ps,e=.agg ps/\ps.length=5):6*es.length<=Rows.uptoBulkAll es:=by
 induction es with
 |nil=>simp[Rows.uptoBulkAll]
 |cons x r ih=>
  obtain⟨ps,rfl,h5⟩:=h x zI;have h1:=ih λe he=>h e (by simp[he]);have h2:=length_le ps;simp only[Rows.uptoBulkAll,Rows.uptoBulk,xay];omega
theorem XN{H:Type}{ds:List (DataW H)}(hk:Rows.uptoSmall H ds=true){d:DataW H}(hd:d∈ds){n:Nat}(h:n=0\/∃es sp,d=.slice es sp/\n=es.length/\∀e∈es,∃ps,e=.agg ps/\ps.length=5):n<=174762:=by
 rcases h with rfl|⟨es,sp,rfl,rfl,h⟩
 ·omega
 have h1:=bound hk;have h2:=Uu hd;have h3:=BG es sp;have h4:=agE h;omega
end Go.Proofs.YtgeffephefcdiaaGreat.Xo
