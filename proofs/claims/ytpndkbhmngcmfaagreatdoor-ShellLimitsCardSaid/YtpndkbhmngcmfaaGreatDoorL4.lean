import Derived.Test.YtpndkbhmngcmfaaGreatDoorL3
import Derived.Test.YtpndkbhmngcmfaaGreatDoorL2
import Derived.Test.YtpndkbhmngcmfaaGreatDoorL1
import Derived.Test.YtpndkbhmngcmfaaGreatDoorProg
import Derived.Laws.StructEq
import Derived.ChangeKeysEq
import Derived.Lib.LaidTab
import GoSem.ClaimJoined
set_option linter.unusedVariables false
set_option linter.unusedSimpArgs false
set_option linter.unusedSectionVars false
set_option maxRecDepth 100000
namespace Go.Proofs
open Go Go.Sx
open ay
section
variable {kp mb b7 b1 b3 nO BV:Nat} {cap:Array zV} {K:Kd} {S:Nat->ay.Fn} {ord af tr:zL} {C Z:Hp} {P:zL->Hp->Prop}
def n4(V:zL):List (Nat×Unit):=V.map λr=>(r,())
theorem mm{V:zL}{r:Nat}:bR (n4 V) r=if r∈V then some ()else none:=by
 unfold n4;induction V with
 |nil=>rfl
 |cons a V ih=>
  unfold bR at*;rw[xay,xbB];by_cases e:a=r
  ·subst e;simp
  simp only[e,xc8];rw[ih];have:(r∈a::V)↔r∈V:=by simp[xbJ e]
  by_cases hv:r∈V
  ·rw[xaf hv,xaf (this.2 hv)]
  rw[xac hv,xac λh=>hv (this.1 h)]
theorem zi{V:zL}{r:Nat}(h:r∉V):cE (n4 V) r ()=n4 (V++[r]):=by
 unfold cE n4;rw[xac (by rw[xbP];simpa using h),xau];rfl
abbrev rM(es:Array MapEntry)(ck:Nat)(V:zL):Prop:=br kr (λv (_:Unit)=>v=i64 1) es ck (n4 V)
structure Walk(K:Kd)(V V':zL)(r:Nat):Prop where
 nd:V'.Nodup
 sub:∀u∈V,u∈V'
 has:r<2\/r∈V'
 shut:∀u∈V',u∉V->∃d,K.N u=some d/\(d.lo<2\/d.lo∈V')/\(d.hi<2\/d.hi∈V')
 rc:∀u∈V',u∉V->Rc K.N (λq=>q=r) u
def F5(BV:Nat)(cap:Array zV)(K:Kd)(P:zL->Hp->Prop):Prop:=bA zQ BV=true/\∀(V:zL) (r:Nat) (d:Nd) (G:Hp),K.N r=some d->P V G->Fc zQ BV (#[.agg (e9 d).toArray]++cap) G (λv G'=>v=.tuple #[]/\P (V++[r]) G')
theorem n5{N:dh}{r q u:Nat}(h1:Rc N (λx=>x=r) q)(h2:Rc N (λx=>x=q) u):Rc N (λx=>x=r) u:=by
 induction h2 with
 |base e=>rw[e];exact h1
 |lo _ hd ih=>exact .lo ih hd
 |hi _ hd ih=>exact .hi ih hd
theorem B2(h:cj kp K S ord af tr C)(hd:F5 BV cap K P)(h7:(b7,Obj.cells #[.map (some mb)] 296 zZ)∈Z)(h1:(b1,Obj.cells #[ptr kp] 45 zZ)∈Z)(h3:(b3,Obj.cells #[.func (.func BV) #[] cap] 241 zZ)∈Z)
 (h10:(nO,Obj.cells #[.func (.func 211) #[] #[ptr b7,ptr b1,ptr b3,ptr nO]] 205 zZ)∈Z):
  ∀(k r:Nat) (es:Array MapEntry) (ck:Nat) (V:zL) (G:Hp),K.n-dep K.n (lv af) K.N r<=k->live K.N r->V.Nodup->rM es ck V->P V G->
  Fc zQ 211 #[u32 r,ptr b7,ptr b1,ptr b3,ptr nO] ((mb,.map es ck)::(G++(Z++C))) (λv H=>v=.tuple #[]/\∃es' eU V' G',H=(mb,.map es' eU)::(G'++(Z++C))/\rM es' eU V'/\P V' G'/\Walk K V V' r):=by
 have stop:∀{r:Nat} {es:Array MapEntry} {ck:Nat} {V:zL} {G:Hp},V.Nodup->rM es ck V->P V G->(r<2\/r∈V)->
   Fc zQ 211 #[u32 r,ptr b7,ptr b1,ptr b3,ptr nO] ((mb,.map es ck)::(G++(Z++C))) (λv H=>v=.tuple #[]/\∃es' eU V' G',H=(mb,.map es' eU)::(G'++(Z++C))/\rM es' eU V'/\P V' G'/\Walk K V V' r):=by
  intro r es ck V G iT hE hP hr;refine aU λg=>m9 (aa.eq (oE r _) (bO.or (a:=decide (r<2)) (decide (r∈V)) (λ_=>?_) rfl λ_=>?_))
  ·refine Ld.mk (v:=.map (some mb)) (.tail _ (xaa _ (xad _ h7))) rfl ?_;by_cases hm:r∈V
   ·refine hE.hit (k:=r) py (b:=mb) (by exact .head _) (by rw[mm,xaf hm]) λv e=>?_;subst e;exact ae.gtr ⟨rfl,by rw[xaN hm];rfl⟩
   refine hE.wx (k:=r) py (b:=mb) (by exact .head _) (by rw[mm,xac hm]) ?_;exact ae.gtr ⟨rfl,by rw[xaA hm];rfl⟩
  rw[<-xaR,xaN hr];refine Br.yes (bc.mk (.refl _) ⟨rfl,es,ck,V,G,rfl,hE,hP,⟨iT,λ_ h=>h,hr,λu h h'=>absurd h h',λu h h'=>absurd h h'⟩⟩)
 intro k;induction k with
 |zero=>
  intro r es ck V G hk hr iT hE hP;refine stop iT hE hP (.inl ?_);cases hN:K.N r with
  |some d=>
   rw[aq hN]at hk;have:=h.ok.lv.lt _ (h.ok.mid.var hN);omega
  |none=>
   rcases hr with hr|⟨d,e⟩
   ·exact hr
   rw[hN]at e;cases e
 |succ k ih=>
  intro r es ck V G hk hr iT hE hP;by_cases hs:r<2\/r∈V
  ·exact stop iT hE hP hs
  have rR:¬r<2:=λh=>hs (.inl h);have Hv:r∉V:=λh=>hs (.inr h);obtain⟨d,hN⟩:∃d,K.N r=some d:=by
   rcases hr with hr|hr
   ·omega
   exact hr
  have hlo:=h.ok.wf.lo hN;have hhi:=h.ok.wf.hi hN;rw[aq hN]at hk;have hvl:=h.ok.lv.lt _ (h.ok.mid.var hN);refine aU λg=>m9 (aa.eq (oE r _) (bO.or (a:=decide (r<2)) false (λ_=>?_) rfl λ_=>?_))
  ·refine Ld.mk (v:=.map (some mb)) (.tail _ (xaa _ (xad _ h7))) rfl ?_;refine hE.wx (k:=r) py (b:=mb) (by exact .head _) (by rw[mm,xac Hv]) ?_;exact ae.gtr ⟨rfl,rfl⟩
  rw[xaA rR];refine Br.no (Ld.mk (v:=.map (some mb)) (.tail _ (xaa _ (xad _ h7))) rfl ?_);refine hE.bX (k:=r) (b:=mb) (x:=()) py CK rfl λJu Jw Jd=>⟨_,.head _,?_⟩;rw[zi Hv]at Jd;refine Ld.mk (v:=ptr kp) (.tail _ (xaa _ (xad _ h1))) rfl ?_;refine aa.eq (args:=#[ptr kp,u32 r]) (Bl h hN) λkF _=>?_;refine St.p (j3 d) ?_;refine Ld.mk (v:=.func (.func BV) #[] cap) (.tail _ (.tail _ (xaa _ (xad _ h3)))) rfl ?_;refine aA.q ?_;refine cr.of rfl hd.1 (aa.fn (.cons (.cons .left)) (by simpa using hd.2 V r d G hN hP) ?_);rintro v G1 ⟨rfl,OZ⟩;refine Ld.mk (v:=.func (.func 211) #[] #[ptr b7,ptr b1,ptr b3,ptr nO]) (.tail _ (.tail _ (xaa _ (xad _ h10)))) rfl ?_;refine Ld.f (v:=u32 d.lo) (cr.of rfl zK ?_);have Ks:(V++[r]).Nodup:=xbR.2 ⟨iT,by simp,λa ha b hb e=>Hv (by rw[xaG.1 hb]at e;rwa [<-e])⟩;refine aa.fq (args:=#[u32 d.lo,ptr b7,ptr b1,ptr b3,ptr nO]) (ih d.lo Ju Jw (V++[r]) G1 zO hlo.1 Ks Jd OZ) ?_;rintro v H ⟨rfl,GB,GD,V2,G2,rfl,FG,Lq,w2⟩;refine Ld.mk (v:=.func (.func 211) #[] #[ptr b7,ptr b1,ptr b3,ptr nO]) (.tail _ (.tail _ (xaa _ (xad _ h10)))) rfl ?_;refine Ld.f (v:=u32 d.hi) (cr.of rfl zK (aa.fq (args:=#[u32 d.hi,ptr b7,ptr b1,ptr b3,ptr nO]) (ih d.hi GB GD V2 G2 zO hhi.1 w2.nd FG Lq) ?_));rintro v H ⟨rfl,Pr,Py,V3,G3,rfl,O7,OY,w3⟩;have r2:r∈V2:=w2.sub r zI;refine bc.mk .tail ⟨rfl,Pr,Py,V3,G3,rfl,O7,OY,⟨w3.nd,λu hu=>w3.sub u (w2.sub u (xad _ hu)),.inr (w3.sub r r2),λu hu hn=>?_,λu hu hn=>?_⟩⟩
  ·by_cases Ge:u∈V2
   ·by_cases CY:u∈V++[r]
    ·rcases xav.1 CY with h'|h'
     ·exact absurd h' hn
     rw[xaG.1 h'];exact⟨d,hN,w2.has.imp id (w3.sub _),w3.has⟩
    obtain⟨e,he,a,b⟩:=w2.shut u Ge CY;exact⟨e,he,a.imp id (w3.sub _),b.imp id (w3.sub _)⟩
   exact w3.shut u hu Ge
  by_cases Ge:u∈V2
  ·by_cases CY:u∈V++[r]
   ·rcases xav.1 CY with h'|h'
    ·exact absurd h' hn
    exact .base (xaG.1 h')
   exact n5 (Rc.lo (.base rfl) hN) (w2.rc u Ge CY)
  exact n5 (Rc.hi (.base rfl) hN) (w3.rc u hu Ge)
theorem Bz(h:cj kp K S ord af tr C)(hd:F5 BV cap K P){r b:Nat}{X G:Hp}(hr:live K.N r)(hP:P [] G)(hm:(b,Obj.cells (an .u32 [(r:Int)]) 82 zZ)∈X):
  Fc zQ 164 #[ptr kp,.slice (some ⟨b,0,none⟩) 1 1,.func (.func BV) #[] cap] (G++(X++C)) (λv H=>v=.tuple #[]/\∃V G',H=G'++(X++C)/\P V G'/\V.Nodup/\DN K.N V/\(r<2\/r∈V)/\∀u∈V,Rc K.N (λq=>q=r) u):=by
 refine aU λg=>tL λb1 _ b3 _ mb _ b7 _=>?_;refine St.one (c':=#[.map (some mb)]) (by exact .head _) rfl zI rfl ?_;intro nO _;refine St.one (c':=#[.func (.func 211) #[] #[ptr b7,ptr b1,ptr b3,ptr nO]]) (by exact .head _) rfl zI rfl ?_;refine bp.mk ?_;obtain⟨Z,hZ⟩:∃Z:Hp,Z=(nO,Obj.cells #[.func (.func 211) #[] #[ptr b7,ptr b1,ptr b3,ptr nO]] 205 zZ)::(b7,.cells #[.map (some mb)] 296 zZ)::(b3,.cells #[.func (.func BV) #[] cap] 241 zZ)::(b1,.cells #[ptr kp] 45 zZ)::X:=⟨_,rfl⟩;have Oe:∀(e:Obj),List.Perm ((nO,Obj.cells #[.func (.func 211) #[] #[ptr b7,ptr b1,ptr b3,ptr nO]] 205 zZ)::(b7,.cells #[.map (some mb)] 296 zZ)::(mb,e)::(b3,.cells #[.func (.func BV) #[] cap] 241 zZ)::(b1,.cells #[ptr kp] 45 zZ)::(G++(X++C))) ((mb,e)::(G++(Z++C))):=λe=>by
  rw[hZ];refine((List.Perm.cons _ (List.Perm.swap _ _ _)).trans (List.Perm.swap _ _ _)).trans (.cons _ ?_);have:∀(a b c d:Nat×Obj),(a::b::c::d::(G++(X++C))).Perm (G++(a::b::c::d::(X++C))):=λa b c d=>by
   have:=(xaK (l₁:=[a,b,c,d]) (l₂:=G)).append_right (X++C);simpa[xat]using this
  exact this _ _ _ _
 refine⟨λvs H=>∃(i:Nat) (es:Array MapEntry) (ck:Nat) (V:zL) (G':Hp),vs=[i64 (i:Int)]/\H=(mb,.map es ck)::(G'++(Z++C))/\rM es ck V/\P V G'/\((i=0/\V=[])\/(i=1/\Walk K [] V r)),λvs _=>1-dx vs 0,JE.of (.perm (Oe _)) ⟨0,#[],0,[],G,rfl,rfl,br.empty,hP,.inl ⟨rfl,rfl⟩⟩,?_⟩;rintro w H ⟨i,es,ck,V,G',⟨⟩,rfl,hE,MP,hi⟩ gs;have mZ:∀{x:Nat×Obj},x∈Z->x∈(mb,Obj.map es ck)::(G'++(Z++C)):=λhx=>.tail _ (xaa _ (xad _ hx));rcases hi with⟨rfl,rfl⟩|⟨rfl,hw⟩
 ·refine ae.dX (b:=1) (Br.T (ai.nat zD ?_));refine Ld.mk (v:=u32 r) (mZ (by rw[hZ];exact .tail _ (.tail _ (.tail _ (.tail _ hm))))) rfl ?_;refine Ld.mk (v:=.func (.func 211) #[] #[ptr b7,ptr b1,ptr b3,ptr nO]) (mZ (by rw[hZ];exact .head _)) rfl ?_;refine cr.of rfl zK (aa.fq (args:=#[u32 r,ptr b7,ptr b1,ptr b3,ptr nO]) (B2 (Z:=Z) h hd (by rw[hZ];exact .tail _ (.head _)) (by rw[hZ];exact .tail _ (.tail _ (.tail _ (.head _)))) (by rw[hZ];exact .tail _ (.tail _ (.head _))) (by rw[hZ];exact .head _) K.n r es ck [] G' (Nat.sub_le _ _) hr List.nodup_nil hE MP) ?_);rintro v H ⟨rfl,GB,GD,V2,G2,rfl,FG,Lq,w2⟩;exact ae.inc (a:=0) (aI.mk ⟨1,GB,GD,V2,G2,rfl,rfl,FG,Lq,.inr ⟨rfl,w2⟩⟩ (by simp only[dx];decide))
 refine ae.dX (b:=1) (Br.F (bc.mk ?_ ⟨rfl,V,G',rfl,MP,hw.nd,λu hu=>hw.shut u hu zI,hw.has,λu hu=>hw.rc u hu zI⟩));rw[hZ];exact .skip (.cL (.skip (.skip (.skip .tail))) _)
theorem xl(b4:Nat):F5 165 #[ptr b4] K (λV G=>∃x:Int,G=[(b4,.cells #[i64 x] 3 zZ)]/\(V.length<4611686018427387904->x=V.length)):=by
 refine⟨by kernel_rfl,?_⟩;rintro V r d G hN ⟨x,rfl,hx⟩;refine aU λg=>tK λb1 _=>?_;refine Ld.mk (v:=i64 x) (.tail _ (.head _)) rfl ?_;refine ae.add (St.one (c':=#[i64 (IntKind.i64.wrap (x+1))]) (by exact .tail (.head _)) rfl zI rfl ?_);refine bc.mk .tail ⟨rfl,_,rfl,λhl=>?_⟩;rw[xan,xbf]at hl⊢;rw[hx zO,wrap_i64 zO];omega
theorem Be(h:cj kp K S ord af tr C){r b:Nat}{X:Hp}(hr:live K.N r)(hm:(b,Obj.cells (an .u32 [(r:Int)]) 82 zZ)∈X):
  Rd zQ 129 #[ptr kp,.slice (some ⟨b,0,none⟩) 1 1] (X++C) (· =.tuple #[i64 ((sz K.n ord (λg=>g=S r):Nat):Int),i64 0]):=by
 refine aU λg=>uh (aa.eq (Bp (X:=X) h hm hr) (ae.j4 (Br.F ?_)));intro b4 _;refine St.one (c':=#[i64 0]) (by exact .head _) rfl zI rfl ?_;refine aa.fn (C:=[(b4,Obj.cells #[i64 0] 3 zZ)]++(X++C)) .here (Bz (P:=λV G=>∃x:Int,G=[(b4,.cells #[i64 x] 3 zZ)]/\(V.length<4611686018427387904->x=V.length)) h (xl b4) hr ⟨0,rfl,λ_=>rfl⟩ hm) ?_;rintro v H ⟨rfl,V,G,rfl,⟨x,rfl,hx⟩,iT,hsh,Hv,hrc⟩;refine Ld.q ?_;refine bH.mk .tail ?_;have hc:=B3 h.ok.wf h.ok.lv h.od h.ok.mid.int (R:=λq=>q=r) (λq hq=>by rw[hq];exact hr) hsh (λq hq=>by rw[hq];exact Hv) hrc iT;have hlen:V.length<=1048576:=by
  have:∀u∈V,u∈List.range 1048576:=λu hu=>by
   obtain⟨d,hd,_⟩:=hsh u hu;exact xa8.2 (h.cD (.inr ⟨d,hd⟩))
  have:=bN iT this;rwa [xb4]at this
 rw[hx zO,<-qh hc];have e:Fs S (λq=>q=r)=λg=>g=S r:=funext λg=>propext ⟨λ⟨q,hq,e⟩=>by rw[e,hq],λe=>⟨r,rfl,e⟩⟩;rw[e];rfl
end
end Go.Proofs
namespace ay
open cF
variable {n:Nat} {ord:zL}
def Ez(ord:zL)(L:List Fn):Nat->List Fn
 |0=>L
 |l+1=>(Ez ord L l).flatMap λf=>[λx=>f (aW x (ord.getD l 0) false),λx=>f (aW x (ord.getD l 0) true)]
theorem mM(L:List Fn):∀l,(Ez ord L l).length=L.length*2^l
 |0=>by simp[Ez]
 |l+1=>by
  rw[Ez,List.length_flatMap];simp only[xak,xbq];rw[List.map_const',List.sum_replicate_nat,mM L l,xcv,xds]
theorem AQ{F:Fn->Prop}{L:List Fn}(h:∀g,F g->g∈L):∀l g,fs ord F l g->g∈Ez ord L l
 |0,g,hg=>h g hg
 |l+1,g,⟨f,hf,b,e⟩=>by
  rw[Ez,List.mem_flatMap];refine⟨f,AQ h l f hf,?_⟩;subst e;cases b<;>simp
def sQ(ord:zL)(L:List Fn):Nat->List Fn
 |0=>[]
 |k+1=>sQ ord L k++Ez ord L k
theorem k8{ord:zL}(L:List Fn):∀k,(sQ ord L k).length+L.length=L.length*2^k
 |0=>by simp[sQ]
 |k+1=>by
  have:=k8 (ord:=ord) L k;rw[sQ,xan,mM,xcv];have e:L.length*(2^k*2)=L.length*2^k+L.length*2^k:=by rw[<-xds,Nat.mul_two]
  omega
theorem qG{L:List Fn}{g:Fn}{l:Nat}(h:g∈Ez ord L l):∀k,l<k->g∈sQ ord L k
 |0,hk=>by omega
 |k+1,hk=>by
  rw[sQ,xav];by_cases e:l=k
  ·subst e;exact .inr h
  exact .inl (qG h k zO)
theorem wq{F:Fn->Prop}{L:List Fn}(h:∀g,F g->g∈L):∀g,aJ n ord F g->g∈sQ ord L n:=by
 rintro g ⟨l,hl,hg,_⟩;exact qG (AQ h l g hg) n hl
theorem qx:∀l:List Fn,∃l':List Fn,l'.Nodup/\l'.length<=l.length/\∀g,g∈l↔g∈l'
 | []=>⟨[],List.nodup_nil,xal _,λ_=>xdi⟩
 |f::l=>by
  obtain⟨l',h1,h2,h3⟩:=qx l;by_cases hm:f∈l'
  ·refine⟨l',h1,Nat.le_succ_of_le h2,λg=>?_⟩;rw[xag,h3];exact⟨λh=>h.elim (λe=>e▸hm) id,.inr⟩
  exact⟨f::l',xa1.2 ⟨hm,h1⟩,Nat.succ_le_succ h2,λg=>by rw[xag,xag,h3]⟩
theorem Dy{U:Fn->Prop}{l:List Fn}(h:∀g,U g->g∈l):∃k,k<=l.length/\lY U k:=by
 classical
 obtain⟨l',h1,h2,h3⟩:=qx l;refine⟨(l'.filter λg=>decide (U g)).length,xbF (xc7 _ _) h2,_,h1.filter _,rfl,λg=>?_⟩;rw[xcl,xaH,<-h3];exact⟨λx=>⟨h g x,x⟩,λx=>x.2⟩
theorem r8{F:Fn->Prop}{L:List Fn}{cap:Nat}(h:∀g,F g->g∈L)(hc:L.length*2^n+2<=cap):∃ku,lY (aJ n ord F) ku/\ku+2<=cap:=by
 obtain⟨k,h1,h2⟩:=Dy (wq (n:=n) (ord:=ord) h);have:=k8 (ord:=ord) L n;exact⟨k,h2,by omega⟩
end ay
namespace Go.Proofs.Fm
theorem Ev.up{n dp:Nat}{l:List Tok}{r:Rs}:∀(j lv:Nat),lv+j<=5->(∀t x l',r=.ok t (x::l')->∀m,lv<=m->m<lv+j->x.k≠dL m)->(∀t,r≠.ok t [])->Ev n (fi n (.jT (lv+j) dp l)) r->Ev n (fi n (.jT lv dp l)) r
 |0,lv,_,_,_,h=>h
 |j+1,lv,hj,hx,hn,h=>by
  have h1:=Ev.up (r:=r) (dp:=dp) (l:=l) (n:=n) j (lv+1) zO (λt x l' e m h1 h2=>hx t x l' e m zO zO) hn (by rw[show lv+1+j=lv+(j+1)by omega];exact h);show Ev n (if lv=5 then _ else _) r;rw[xac zO];refine .call h1 ?_;cases r with
  |bad p e=>exact .done
  |ok t l'=>
   cases l' with
   |nil=>exact absurd rfl (hn t)
   |cons x l'=>
    refine .call ?_ .done;show Ev n (if x.k=dL lv then _ else _) _;rw[xac (hx t x l' rfl lv (xal _) zO)];exact .done
theorem Ev.t5{n dp:Nat}{l:List Tok}{r:Rs}(h:Ev n (fi n (.tight dp l)) r):Ev n (fi n (.jT 5 dp l)) r:=.call h .done
def Rs.nr(c:Nat):Rs->Prop
 | .ok _ l=>∀x∈l,x.p<=c
 | .bad p _=>p<=c
def Gl.nr(c:Nat):Gl->Prop
 | .jT _ _ l=>∀x∈l,x.p<=c
 | .more _ _ _ l=>∀x∈l,x.p<=c
 | .tight _ l=>∀x∈l,x.p<=c
inductive Pl.Nr(c:Nat):Pl->Prop
 |done {r:Rs}:r.nr c->Nr c (.done r)
 |call {g:Gl} {k:Rs->Pl}:g.nr c->(∀r,r.nr c->Nr c (k r))->Nr c (.call g k)
theorem Pl.Nr.thn{c:Nat}{r:Rs}{f:Tr->List Tok->Pl}(hr:r.nr c)(h:∀t l,(∀x∈l,x.p<=c)->Nr c (f t l)):Nr c (r.thn f):=by
 cases r with
 |ok t l=>exact h t l hr
 |bad p e=>exact .done hr
theorem Pl.Nr.cI{c k:Nat}{r:Rs}{f:Tr->List Tok->Pl}(hr:r.nr c)(h:∀t l,(∀x∈l,x.p<=c)->Nr c (f t l)):Nr c (r.cI k f):=by
 refine .thn hr λt l h1=>?_;cases l with
 |nil=>exact .done (xaB _)
 |cons x l=>
  show Nr c (if x.k=k then _ else _);split
  ·exact h t l λy hy=>h1 y (.tail _ hy)
  exact .done (h1 x (.head _))
theorem Cm(n:Nat){c:Nat}(g:Gl)(hg:g.nr c):(fi n g).Nr c:=by
 cases g with
 |jT lv dp l=>
  show Pl.Nr c (if lv=5 then _ else _);split
  ·exact .call (by exact hg) λr h=>.done h
  exact .call (by exact hg) λr h=>.thn h λt l h=>.call (by exact h) λr h=>.done h
 |more lv dp a l=>
  cases l with
  |nil=>exact .done (xaB _)
  |cons x l=>
   have hl:∀y∈l,y.p<=c:=λy hy=>hg y (.tail _ hy);show Pl.Nr c (if x.k=dL lv then(if dL lv=8 then _ else _)else _);split
   ·split
    ·exact .call (by exact hl) λr h=>.thn h λt l h=>.done h
    exact .call (by exact hl) λr h=>.thn h λt l h=>.call (by exact h) λr h=>.done h
   exact .done hg
 |tight dp l=>
  cases l with
  |nil=>exact .done (xaB _)
  |cons x l=>
   have hx:x.p<=c:=hg x (.head _);have hl:∀y∈l,y.p<=c:=λy hy=>hg y (.tail _ hy);show Pl.Nr c (if x.k=1\/x.k=2 then _ else if x.k=3 then(if n<=x.v then _ else _)else if x.k=4 then(if 1000<=dp then _ else _)else if x.k=10 then(if 1000<=dp then _ else _)else if x.k=12 then(if 1000<=dp then _ else _)else _);split
   ·exact .done hl
   split
   ·split
    ·exact .done hx
    exact .done hl
   split
   ·split
    ·exact .done hx
    exact .call (by exact hl) λr h=>.thn h λt l h=>.done h
   split
   ·split
    ·exact .done hx
    exact .call (by exact hl) λr h=>.cI h λt l h=>.done h
   split
   ·split
    ·exact .done hx
    exact .call (by exact hl) λr h=>.cI h λt l h=>.call (by exact h) λr h=>.cI h λt l h=>.call (by exact h) λr h=>.cI h λt l h=>.done h
   exact .done hx
theorem Ev.nr{n c:Nat}{p:Pl}{r:Rs}(h:Ev n p r)(hp:p.Nr c):r.nr c:=by
 induction h with
 |done=>cases hp with|done h=>exact h
 |call _ _ i1 i2=>cases hp with|call h0 h=>exact i2 (h _ (i1 (Cm n _ h0)))
theorem dA.place{p:Nat}{l:List UInt8}{o:List Tok}(h:dA p l o):∀x∈o,x.p<=p+l.length:=by
 induction h with
 |fin=>intro x hx;rw[xaG.1 hx];exact xdz _ _
 |blank _ ih=>intro x hx;have:=ih x hx;rw[xak];omega
 |wrong _ _=>intro x hx;rw[xaG.1 hx];exact xdz _ _
 |tok _ h _ ih=>
  intro x hx;rcases xag.1 hx with rfl|hx
  ·exact xdz _ _
  have:=ih x hx;have:=lZ h;rw[xbw]at*;omega
theorem Reads.place{n:Nat}{l:List UInt8}{a e:Nat}(h:Reads n l (.bad a e)):a<=l.length:=by
 cases h with
 |wA _=>exact xaB _
 |mk _ ht h=>
  have:=h.nr (c:=l.length) (.call (λx hx=>by have:=ht.place x hx;omega) λr hr=>.cI hr λt l h=>.done h);exact this
def Tr.all:Tr->List (Nat->Bool)
 | .c k=>[(Tr.c k).fn]
 | .v n=>[(Tr.v n).fn]
 | .no a=>(Tr.no a).fn::a.all
 | .bin k a b=>(Tr.bin k a b).fn::(a.all++b.all)
 | .ite a b d=>(Tr.ite a b d).fn::(a.all++(b.all++d.all))
theorem Tr.dH{g:Nat->Bool}:∀{t:Tr},t.dS g↔g∈t.all
 | .c k=>by simp[Tr.dS,Tr.all]
 | .v n=>by simp[Tr.dS,Tr.all]
 | .no a=>by simp[Tr.dS,Tr.all,Tr.dH (t:=a)]
 | .bin k a b=>by simp[Tr.dS,Tr.all,Tr.dH (t:=a),Tr.dH (t:=b)]
 | .ite a b d=>by simp[Tr.dS,Tr.all,Tr.dH (t:=a),Tr.dH (t:=b),Tr.dH (t:=d)]
end Go.Proofs.Fm
set_option maxRecDepth 100000
namespace Go.Proofs
open Go Go.Sx
section
open Fm Sw ay
abbrev NS:=List (List UInt8×Nat)
abbrev FN:=List (List UInt8×ay.Fn)
theorem wv{k:List UInt8}{old x:Nat}:∀{ns:NS},(ns.map Prod.fst).Nodup->bR ns k=some old->(ns.map Prod.snd++[x]).Perm (old::(cE ns k x).map Prod.snd):=by
 have key:∀{ns:NS},(ns.map Prod.fst).Nodup->bR ns k=some old->(x::ns.map Prod.snd).Perm (old::(ns.map λy=>if y.1=k then(k,x)else y).map Prod.snd):=by
  intro ns;induction ns with
  |nil=>intro _ h;simp[bR]at h
  |cons p ns ih=>
   intro nd h;obtain⟨h1,h2⟩:=xa1.1 nd;by_cases e:p.1=k
   ·have:old=p.2:=by
     unfold bR at h;rw[xbB,xaN e]at h;simpa using h.symm
    subst this;have Ao:(ns.map λy=>if y.1=k then(k,x)else y)=ns:=by
     refine(xbC λy hy=>?_).trans (List.map_id ns);rw[xac λe'=>h1 (by rw[e,<-e'];exact xaq.2 ⟨y,hy,rfl⟩)];rfl
    simp only[xay,xaf e,Ao];exact .swap _ _ _
   have hg:bR ns k=some old:=by
    unfold bR at h⊢;rw[xbB,xaA e]at h;exact h
   simp only[xay,xac e];exact(List.Perm.swap _ _ _).trans (((ih h2 hg).cons _).trans (.swap _ _ _))
 intro ns nd h;have hk:k∈ns.map Prod.fst:=by
  rcases Classical.em (k∈ns.map Prod.fst)with h'|h'
  ·exact h'
  rw[ep.2 h']at h;cases h
 unfold cE;rw[xaf hk];exact(xaK (l₁:=ns.map Prod.snd) (l₂:=[x])).trans (key nd h)
theorem G9{k:List UInt8}{x:Nat}{ns:NS}(h:bR ns k=none):cE ns k x=ns++[(k,x)]:=by
 unfold cE;rw[xac (ep.1 h)]
def eM(S:Nat->ay.Fn)(ns:NS):FN:=ns.map λp=>(p.1,S p.2)
theorem zG{S:Nat->ay.Fn}{ns:NS}{k:List UInt8}{x:Nat}:eM S (cE ns k x)=cE (eM S ns) k (S x):=by
 unfold cE eM;have e:(ns.map λp=>(p.1,S p.2)).map Prod.fst=ns.map Prod.fst:=by rw[xbP];rfl
 rw[e];split
 ·rw[xbP,xbP];refine xbC λy _=>?_;show(λp:List UInt8×Nat=>(p.1,S p.2)) (if y.1=k then(k,x)else y)=if y.1=k then(k,S x)else(y.1,S y.2)
  split<;>rfl
 rw[xau];rfl
theorem j7{S:Nat->ay.Fn}{a:List UInt8}:∀ns:NS,bR (eM S ns) a=(bR ns a).map S
 | []=>rfl
 |p::ns=>by
  have ih:=j7 (S:=S) (a:=a) ns;unfold bR eM at*;rw[xay,xbB,xbB];by_cases e:p.1=a
  ·simp[e]
  simp only[e,xc8];exact ih
theorem oJ{S S':Nat->ay.Fn}{ns:NS}(h:∀p∈ns,S' p.2=S p.2):eM S' ns=eM S ns:=xbC λp hp=>by rw[h p hp]
theorem EM{n:Nat}{ord:zL}{f:ay.Fn}(hn:n<=8):sz n ord (λg=>g=f)<=256:=by
 obtain⟨k,hk,hc⟩:=r8 (n:=n) (ord:=ord) (F:=λg=>g=f) (L:=[f]) (cap:=1*2^n+2) (λg hg=>by rw[hg];exact .head _) (xal _);rw[qh hk];have:2^n<=2^8:=xaL zD hn;omega
abbrev eF(T:TypeId)(fz:Nat×Nat):Nat×Obj:=(1,.cells powC T fz)
abbrev gX(sp kp mb:Nat)(es:Array MapEntry)(ck:Nat)(C:Hp):Hp:=(sp,.cells #[ptr kp,.map (some mb)] 48 zZ)::(mb,.map es ck)::C
structure oN(kp n cap:Nat)(K:Kd)(S:Nat->ay.Fn)(ord af tr:zL)(C:Hp)(es:Array MapEntry)(ck:Nat)(ns:NS):Prop where
 ks:cj kp K S ord af tr C
 eS:II es ck ns
 hb:aQ (K0 n cap) S0 K S (ns.map Prod.snd)
section
variable {sp kp mb n cap:Nat} {K:Kd} {S:Nat->ay.Fn} {ord af tr:zL} {C:Hp} {es:Array MapEntry} {ck:Nat} {ns:NS} {T:TypeId} {fz:Nat×Nat}
theorem jG{xs:zL}(h:aQ (K0 n cap) S0 K S xs){x:Nat}(hx:x∈xs)(h2:2<=x):K.hold x≠0:=by
 rw[h.hold,xaf h2];have:=xcn.2 hx;omega
theorem HV{xs:zL}(h:aQ (K0 n cap) S0 K S xs)(s:Nat):K.hold s<=xs.length:=by
 have:=h.le s;have e:(K0 n cap).hold s=0:=by
  show([]:zL).getD s 0=0;simp
 omega
theorem pF{xs:zL}(h:aQ (K0 n cap) S0 K S xs)(hK:cj kp K S ord af tr C){x:Nat}(hx:x∈xs):ay.live K.N x:=by
 by_cases h2:2<=x
 ·exact hK.qV x (jG h hx h2)
 exact .inl zO
theorem AD{xs:zL}(h:aQ (K0 n cap) S0 K S xs)(g:ay.Fn)(hg:K.held S g):∃x∈xs,S x=g:=by
 have:=h.held (P:=λg=>∃x∈xs,S x=g) (λx hx=>⟨x,hx,rfl⟩) g hg;rcases this with h'|h'
 ·obtain⟨s,hs,_⟩:=h';exfalso;have e:(K0 n cap).hold s=0:=by
   show([]:zL).getD s 0=0;simp
  exact hs e
 exact h'
theorem ES{x:Nat}{nm:List UInt8}(hK:cj kp K S ord af tr C)(hE:II es ck ns)(hH:aQ (K0 n cap) S0 K S (ns.map Prod.snd++[x]))(hx:ay.live K.N x)(hn:n<=8):
  Fc zQ 77 #[ptr sp,ag nm,u32 x] (eF T fz::gX sp kp mb es ck C) (λr H=>r=dM (dec (sz n ord (λg=>g=S x))) 0 0/\∃K' es' eU C' e5,H=eF T fz::gX sp kp mb es' eU C'/\oN kp n cap K' S ord af e5 C' es' eU (cE ns nm x)/\(e5=tr\/e5=[])):=by
 refine aU λg=>xR λb1 _ J3 h3=>?_;have Jm:K.n=n:=hH.n;have go:∀(K':Kd) (C':Hp) (e5:zL),cj kp K' S ord af e5 C'->aQ (K0 n cap) S0 K' S ((cE ns nm x).map Prod.snd)->(e5=tr\/e5=[])->J3 [] ((b1,Obj.cells #[ag [],nI 0,nI 0] 27 zZ)::eF T fz::gX sp kp mb es ck C'):=λK' C' e5 jX Lv Ke=>by
  refine h3 _ λ_=>?_;have J4:x∈(cE ns nm x).map Prod.snd:=by
   have:(nm,x)∈cE ns nm x:=by
    unfold cE;split
    ·rename_i h;obtain⟨y,hy,e⟩:=xaq.1 h;exact xaq.2 ⟨y,hy,by rw[xaf e]⟩
    exact xaa _ (.head _)
   exact xaq.2 ⟨_,this,rfl⟩
  have Gp:ay.live K'.N x:=pF Lv jX J4;have hn':K'.n=n:=Lv.n;refine Ld.v (v:=.map (some mb)) (.tail _ (.tail _ (.head _))) ?_;refine hE.bX (k:=nm) (b:=mb) (x:=x) mh vW rfl λes' eU Lw=>⟨_,.tail (.tail (.tail (.head _))),?_⟩;refine Ld.v (v:=ptr kp) (.tail _ (.tail _ (.head _))) (aj.int (e:=82) zK zK zK λbx=>?_);refine aa.eq (Be (X:=[(bx,_),(b1,_),eF T fz,(sp,_),(mb,_)]) jX Gp (.head _)) (Ext.two ?_);rw[hn'];have hsz:=EM (n:=n) (ord:=ord) (f:=S x) hn;generalize sz n ord (λg=>g=S x)=m at hsz⊢;refine aa.eq (gM (n:=m) zO (.tail _ (.tail _ (.head _)))) (aa.eq (jo (dec m) 0 _) ?_);refine St.whole (r:=cu (dec m) 0 0) (.tail (.head _)) rfl rfl (aE _ _ _) (aA.whole (r:=cu (dec m) 0 0) (.tail _ (.head _)) rfl ?_);exact bc.mk (.skip .tail) ⟨rfl,K',es',eU,C',e5,rfl,⟨jX,Lw,Lv⟩,Ke⟩
 refine Ld.v (v:=.map (some mb)) (.tail _ (.tail _ (.head _))) ?_;refine hE.look (k:=nm) mh (b:=mb) (.tail _ (.tail _ (.tail _ (.head _)))) (λold v ho hv=>?_) (λho=>?_)
 ·subst hv;have hp:=(wv (x:=x) hE.nd ho);have Lu:=hH.perm hp;have I2:old∈old::(cE ns nm x).map Prod.snd:=.head _;refine Ext.mk rfl (Ext.mk rfl (Br.yes (Ld.v (v:=ptr kp) (.tail _ (.tail _ (.head _))) ?_)));refine aa.fn (args:=#[ptr kp,u32 old]) (.cons (.cons (.cons (.cons .here)))) (pO hK (by have:=hK.cD (pF Lu hK I2);omega) (λh2=>jG Lu I2 h2)) ?_;rintro _ C' ⟨rfl,K',jX,hf⟩;exact JE.mk (go K' C' [] jX (Lu.EB hf) (.inr rfl))
 refine Ext.mk rfl (Ext.mk rfl (Br.no (JE.mk (go K C tr hK ?_ (.inl rfl)))));rw[G9 ho,xau];exact hH
theorem ze{x:Nat}{nm:List UInt8}(hK:cj kp K S ord af tr C)(hE:II es ck ns)(hH:aQ (K0 n cap) S0 K S (ns.map Prod.snd++[x]))(hx:ay.live K.N x)(hn:n<=8):
  Fc zQ 35 #[ptr sp,ag nm,u32 x,nI 0] (eF T fz::gX sp kp mb es ck C) (λr H=>r=dM (dec (sz n ord (λg=>g=S x))) 0 0/\∃K' es' eU C' e5,H=eF T fz::gX sp kp mb es' eU C'/\oN kp n cap K' S ord af e5 C' es' eU (cE ns nm x)/\(e5=tr\/e5=[])):=by
 refine aU λg=>oW λb1 _=>ae.pn (a:=0) (b:=0) (Br.F ?_);refine aa.fn (.cons .here) (ES hK hE hH hx hn) ?_;rintro _ H ⟨rfl,h⟩;refine St.whole (r:=cu (dec (sz n ord (λg=>g=S x))) 0 0) (.head _) rfl rfl (aE _ _ _) (aA.whole (r:=cu (dec (sz n ord (λg=>g=S x))) 0 0) (.head _) rfl ?_);exact bc.mk .tail ⟨rfl,h⟩
theorem qm{x e:Nat}{nm:List UInt8}(he:e≠0)(B:Hp):Rd zQ 35 #[ptr sp,ag nm,u32 x,nI e] B (· =dM [] 0 e):=by
 refine aU λg=>oW λb1 _=>ae.pn (b:=0) (Br.T (aa.eq (cU 0 e _) ?_) he);refine St.whole (r:=cu [] 0 e) (.head _) rfl rfl (aE _ _ _) (aA.whole (r:=cu [] 0 e) (.head _) rfl ?_);exact bH.mk .tail rfl
def IC(sp kp mb n cap:Nat)(S:Nat->ay.Fn)(ord af tr:zL)(es:Array MapEntry)(ck:Nat)(ns:NS)(T:TypeId)(fz:Nat×Nat)(C:Hp)(nm l:List UInt8)(iC:Nat)(r:zV)(H:Hp):Prop:=
 (∃a e,Reads n l (.bad a e)/\e≠0/\(r=if e=14\/e=2\/e=7 then dM [] (iC+a) e else dM [] 0 e)/\H=eF T fz::gX sp kp mb es ck C)\/
 ∃t l',Reads n l (.ok t l')/\((∃x K' S' es' eU C',r=dM (dec (sz n ord (λg=>g=t.fn))) 0 0/\H=eF T fz::gX sp kp mb es' eU C'/\oN kp n cap K' S' ord af [] C' es' eU (cE ns nm x)/\S' x=t.fn/\∀p∈ns,S' p.2=S p.2)\/
  (∃K' S' C' e5,r=dM [] 0 9/\H=eF T fz::gX sp kp mb es ck C'/\oN kp n cap K' S' ord af e5 C' es ck ns/\(∀p∈ns,S' p.2=S p.2)/\¬Fits (aJ n ord (λg=>(∃x∈ns.map Prod.snd,S x=g)\/t.dS g)) cap))
theorem GO{a b:Nat}{x y:Nat}(h:(Value.tuple #[u32 a,nI x])=.tuple #[u32 b,nI y]):a=b/\x=y:=by
 simp only[Value.tuple.injEq,Array.mk.injEq,xbb,u32,nI,Value.int.injEq,xdw,xc2]at h;omega
set_option maxHeartbeats 1000000 in
theorem ER(hI:oN kp n cap K S ord af tr C es ck ns)(hn:n<=8)(hm:ns.length<=1000){nm text:List UInt8}{iC:Nat}(hf:iC<=text.length)(hl:text.length<=400):
  Fc zQ 21 #[ptr sp,ag nm,ag text,nI iC] (eF T fz::gX sp kp mb es ck C) (IC sp kp mb n cap S ord af tr es ck ns T fz C nm (text.drop iC) iC):=by
 have hK:=hI.ks;have Jm:K.n=n:=hI.hb.n;have O1:K.cap=cap:=hI.hb.cap;have hlen:(ns.map Prod.snd).length=ns.length:=xaw _;have Pg:2^n<=2^8:=xaL zD hn;refine aU λg=>yz λb1 _=>?_;refine DR.of (R:=[(sp,.cells #[ptr kp,.map (some mb)] 48 zZ)]) (.fm (.tail _ (.tail _ (.head _)))) (Ld.v (v:=ptr kp) (.head _) ?_);refine aG.gx (l:=text) (i:=iC) (j:=text.length) rfl zK rfl (.inr ⟨_,.i64,rfl,rfl⟩) (.inl ⟨rfl,rfl⟩) hf (xal _) ?_;rw[xcb];refine aa.fn (args:=#[ptr kp,ag (text.drop iC)]) (.cons (.cons (.cons (.cons .here)))) (AV hK (text.drop iC) (λs=>by have:=HV hI.hb s;rw[Jm];omega)) ?_;rw[Jm];rintro r C2 (⟨rfl,a,e,hb,rfl⟩|⟨t,l',x,e,hr,rfl,hb⟩)
 ·have he:=hb.fit;refine⟨.fm (.tail _ (.tail _ (.head _))),Ext.mk rfl (Ext.mk rfl (Ext.mk rfl (ae.bI (b:=14) (bO.or (decide (e=2)) (λ_=>ae.bI (b:=2) ⟨rfl,rfl⟩) rfl λ_=>?_))))⟩;rw[<-xaR];refine bO.or (decide (e=7)) (λ_=>ae.bI (b:=7) ⟨rfl,rfl⟩) rfl λ_=>?_;rw[<-xaR];have ha:iC+a<9223372036854775808:=by
   have:=hb.place;rw[xbw]at this;omega
  refine Br.dec (λh=>?_) (λh=>?_)
  ·refine ae.eo (by simpa only[bY]using ha) (aa.eq (cU (iC+a) e _) ?_);refine St.whole (r:=cu [] (iC+a) e) (.head _) rfl rfl (aE _ _ _) (aA.whole (r:=cu [] (iC+a) e) (.head _) rfl ?_);exact bc.mk .tail (.inl ⟨a,e,hb,he,by rw[xaf zO],rfl⟩)
  refine aa.eq (qm (x:=0) he _) ?_;refine St.whole (r:=cu [] 0 e) (.head _) rfl rfl (aE _ _ _) (aA.whole (r:=cu [] 0 e) (.head _) rfl ?_);exact bc.mk .tail (.inl ⟨a,e,hb,he,by rw[xac zO],rfl⟩)
 rcases hb with⟨x',K',S',e5,ee,jX,hh,Gp,MN,rfl⟩|⟨ee,⟨K',S',e5,jX,hh⟩,hno⟩
 ·obtain⟨rfl,rfl⟩:=GO ee;refine⟨.fm (.tail _ (.tail _ (.head _))),Ext.mk rfl (Ext.mk rfl (Ext.mk rfl (ae.bI (a:=0) (b:=14) (bO.or false (λ_=>ae.bI (a:=0) (b:=2) ⟨rfl,rfl⟩) rfl λ_=>bO.or false (λ_=>ae.bI (a:=0) (b:=7) ⟨rfl,rfl⟩) rfl λ_=>Br.no ?_))))⟩;refine aa.fn (args:=#[ptr sp,ag nm,u32 x,nI 0]) (.cons .here) (ze jX hI.eS (hI.hb.more hh) Gp hn) ?_;rintro _ H ⟨rfl,K2,es',eU,C',gv,rfl,O6,BP⟩;rw[MN];refine St.whole (r:=cu (dec (sz n ord (λg=>g=t.fn))) 0 0) (.head _) rfl rfl (aE _ _ _) (aA.whole (r:=cu (dec (sz n ord (λg=>g=t.fn))) 0 0) (.head _) rfl ?_);have ht:gv=[]:=BP.elim id id;subst ht;refine bc.mk .tail (.inr ⟨t,l',hr,.inl ⟨x,K2,S',es',eU,C',rfl,rfl,O6,MN,λp hp=>?_⟩⟩);exact(j9 hK jX hh λh2=>jG hI.hb (xaq.2 ⟨p,hp,rfl⟩) h2).2
 obtain⟨rfl,rfl⟩:=GO ee;refine⟨.fm (.tail _ (.tail _ (.head _))),Ext.mk rfl (Ext.mk rfl (Ext.mk rfl (ae.bI (a:=9) (b:=14) (bO.or false (λ_=>ae.bI (a:=9) (b:=2) ⟨rfl,rfl⟩) rfl λ_=>bO.or false (λ_=>ae.bI (a:=9) (b:=7) ⟨rfl,rfl⟩) rfl λ_=>Br.no ?_))))⟩;refine aa.eq (qm (x:=0) zD _) ?_;refine St.whole (r:=cu [] 0 9) (.head _) rfl rfl (aE _ _ _) (aA.whole (r:=cu [] 0 9) (.head _) rfl ?_);refine bc.mk .tail (.inr ⟨t,l',hr,.inr ⟨K',S',C2,e5,rfl,rfl,⟨jX,hI.eS,by have:=hI.hb.more hh;rwa [xaT]at this⟩,λp hp=>(j9 hK jX hh λh2=>jG hI.hb (xaq.2 ⟨p,hp,rfl⟩) h2).2,λhF=>hno ?_⟩⟩);rw[Jm,O1];exact Fits.mono (λg hg=>cB (λg h=>h.imp (AD hI.hb g) id) hg) hF
end
def gi(T:TypeId)(fz:Nat×Nat)(sp n cap:Nat)(ord:zL)(F:FN)(tr:zL)(H:Hp):Prop:=
 ∃kp mb K S af ns es ck C,H=eF T fz::gX sp kp mb es ck C/\oN kp n cap K S ord af tr C es ck ns/\eM S ns=F
def kV(F:FN)(t:List UInt8):Bool:=(bR F t).isSome
theorem AE{S:Nat->ay.Fn}{ns:NS}:gm ns=kV (eM S ns):=funext λt=>by
 unfold gm kV;rw[j7];cases bR ns t<;>rfl
def Bg(T:TypeId)(fz:Nat×Nat)(sp n cap:Nat)(ord:zL)(F:FN)(tr:zL)(H:Hp):Prop:=
 Fc zQ 15 #[ptr sp] H (λv H'=>v=.tuple #[]/\gi T fz sp n cap ord F tr H')
section
variable {T:TypeId} {fz:Nat×Nat} {sp n cap:Nat} {ord:zL} {F:FN} {tr:zL} {H0:Hp}
theorem gi.bg(h:gi T fz sp n cap ord F tr H0):Bg T fz sp n cap ord F tr H0:=by
 obtain⟨kp,mb,K,S,af,ns,es,ck,C,rfl,h1,h2⟩:=h;refine aU λg=>oY (Ld.v (v:=ptr kp) (.tail _ (.head _)) (ae.bh (Br.no ?_)));exact bc.mk (.refl _) ⟨rfl,kp,mb,K,S,af,ns,es,ck,C,rfl,h1,h2⟩
abbrev Jr(sp:Nat):Nat×Obj:=(sp,.cells #[.pointer none,.map none] 48 zZ)
theorem Ce(B:Hp):Fc zQ 7 #[] B (λv H=>∃sp,v=ptr sp/\H=Jr sp::B):=by
 refine aU λg=>BI (Build.mk (cs:=[.pointer none,.map none]) zK λsp _=>?_);exact bc.mk (.refl _) ⟨sp,rfl,rfl⟩
theorem AT:Bg T fz sp 8 1000 (List.range 8) [] [] [eF T fz,Jr sp]:=by
 refine aU λg=>oY (Ld.v (v:=.pointer none) (.tail _ (.head _)) (ae.EY (Br.yes ?_)));refine aa.fn hnew (zw (n:=8) (cap:=1000) zD zD) ?_;rintro _ C ⟨kp,rfl,hK⟩;refine Ext.two (Nil.ptr (.mk (St.one (c':=#[ptr kp,.map none]) ((bW.head _).tail.aB C) rfl (show 0<2 by decide) rfl ?_)));intro mb _;refine Nil.ptr (.mk (St.one (c':=#[ptr kp,.map (some mb)]) (((bW.head _).tail.aB C).tail) rfl (show 1<2 by decide) rfl ?_));refine bc.mk (dP:=eF T fz::gX sp kp mb #[] 0 C) (.perm ?_) ⟨rfl,kp,mb,_,_,_,[],_,_,C,rfl,⟨hK,br.empty,.refl⟩,rfl⟩;refine(xaK (l₁:=(mb,Obj.map #[] 0)::C) (l₂:=[eF T fz,(sp,.cells #[ptr kp,.map (some mb)] 48 zZ)])).trans ?_;exact .refl _
theorem wC(hB:Bg T fz sp n cap ord F tr H0){text:List UInt8}(hl:400<text.length):
  Fc zQ 8 #[ptr sp,ag text] H0 (λr H=>r=dM [] 0 13/\gi T fz sp n cap ord F tr H):=by
 refine aU λg=>m6 λb1 _=>ae.bh (Br.no (aa.fn (.cons .here) hB ?_));rintro _ H ⟨rfl,hS⟩;refine au.of (ae.iU (b:=400) (Br.T (aa.eq (cU 0 13 _) ?_)));refine St.whole (r:=cu [] 0 13) (.head _) rfl rfl (aE _ _ _) (aA.whole (r:=cu [] 0 13) (.head _) rfl ?_);exact bc.mk .tail ⟨rfl,hS⟩
structure Md(T:TypeId)(fz:Nat×Nat)(sp n cap:Nat)(ord:zL)(F:FN)(tr:zL)(i:Nat)(ws:List Wd)(m:Nat)(Q:zV->Hp->Prop):Prop where
 h1:∀p,r6 m (vY (iZ.getD i ([],[])).2 ws) ws=some p->∀H,gi T fz sp n cap ord F tr H->Q (dM [] p 14) H
 h2:r6 m (vY (iZ.getD i ([],[])).2 ws) ws=none->∀p,uT (kV F) (vY (iZ.getD i ([],[])).2 ws) ws=some p->∀H,gi T fz sp n cap ord F tr H->Q (dM [] p 15) H
 h3:r6 m (vY (iZ.getD i ([],[])).2 ws) ws=none->uT (kV F) (vY (iZ.getD i ([],[])).2 ws) ws=none->∀kp mb K S af ns es ck C N av,oN kp n cap K S ord af tr C es ck ns->eM S ns=F->aC 78 4 av ((rdv (vY (iZ.getD i ([],[])).2 ws) ws).map gR) N->
  Fc zQ (xq.getD i 0) #[ptr sp,av] (N++(eF T fz::gX sp kp mb es ck C)) (λr H=>(∃t a e,r=dM t a e)/\∃N' H',H=N'++H'/\Q r H')
theorem DA:(iZ.all λc=>decide (c.2.length<=3))=true:=by decide
theorem Bo:((List.range 19).all λi=>bA zQ (xq.getD i 0))=true:=by kernel_rfl
set_option maxHeartbeats 1000000 in
theorem jv(hB:Bg T fz sp n cap ord F tr H0){text:List UInt8}(hl:text.length<=400){w:Wd}{ws:List Wd}(hw:jj 0 none text=w::ws){i:Nat}(hc:cmd w.t=some i){Q:zV->Hp->Prop}
 (Fg:(iZ.getD i ([],[])).2=[43]->∀B:Hp,Fc zQ 31 #[ag [110],nI ws.length] B (λv H=>v=ag (List.replicate ws.length 110)/\H=B))
 (hQ:Md T fz sp n cap ord F tr i ws text.length Q):Fc zQ 8 #[ptr sp,ag text] H0 Q:=by
 have hi:=Bn hc;have vi:bA zQ (xq.getD i 0)=true:=xb9.1 Bo i (xa8.2 hi);have Gf:(iZ.getD i ([],[])).2.length<=3:=by
  have hi':i<iZ.length:=hi;rw[xaJ,xab hi'];exact xcp (xb9.1 DA _ (xaP hi'))
 obtain⟨yK,Ef⟩:=fJ text 0 none;rw[hw]at yK Ef;rw[xak]at yK;refine aU λg=>m6 λb1 _=>ae.bh (Br.no (aa.fn (.cons .here) hB ?_));rintro _ _ ⟨rfl,kp,mb,K,S,af,ns,es,ck,C,rfl,hI,hF⟩;refine au.of (ae.iU (b:=400) (Br.F (aa.fq (nU text hl _) ?_)));rintro v H ⟨N,rfl,hs⟩;rw[hw]at hs;refine hs.cx ?_;rw[xaw,xak];refine ae.bI (b:=0) (Br.F ?_);have hv:=(Sl.eD hs zD).mono (B':=N++((b1,Obj.cells #[ag [],nI 0,nI 0] 27 zZ)::(eF T fz::gX sp kp mb es ck C))) λy hy=>xad _ hy;refine ai.sl hv (i:=0) (r:=w.cells) rfl λp hp=>ah.at hp λq hq=>Ld.at (v:=ag w.t) (r:=[nI w.a,nI w.e]) hq (λy hy=>hy) ?_;refine aa.eq (mj sp w.t _) ?_;rw[hc];refine Ext.mk rfl (Ext.mk rfl λIy _=>St.whole (r:=jg sp i) (.head _) rfl rfl (pS sp i) (Br.yes ?_));refine DR.of (R:=[(Iy,.cells (jg sp i).toArray 54 zZ)]) (.fm (.head _)) (Ld.u (v:=ag (iZ.getD i ([],[])).2) (.head _) ?_);refine bT.tail hv λv' wL=>au.of λ_=>?_;refine aa.fq (Cj hI.eS (T:=48) (fz:=(0,0)) (kv:=ptr kp) (mb:=mb) (sp:=sp) (.tail _ (xaa _ (.tail _ (.tail _ (.head _))))) (.tail _ (xaa _ (.tail _ (.tail _ (.tail _ (.head _)))))) (iZ.getD i ([],[])).2 Gf ws zO (λx hx=>by have:=(Ef x (.tail _ hx)).1;simp only[xcy,xbq]at this;omega) (wL.mono λy hy=>.tail _ hy) text.length Fg) ?_;have OB:gm ns=kV F:=by rw[AE,hF]
 rw[OB];have hS:gi T fz sp n cap ord F tr (eF T fz::gX sp kp mb es ck C):=⟨kp,mb,K,S,af,ns,es,ck,C,rfl,hI,hF⟩;have bad:∀(p e:Nat) (N2:Hp),e≠0->Q (dM [] p e) (eF T fz::gX sp kp mb es ck C)->∀BW:Nat,
   St 3 ((BW,.cells #[ag [],nI 0,nI 0] 27 zZ)::(N2++((Iy,.cells (jg sp i).toArray 54 zZ)::(N++((b1,Obj.cells #[ag [],nI 0,nI 0] 27 zZ)::(eF T fz::gX sp kp mb es ck C)))))) (.pointer (some ⟨BW,0,none⟩)) (dM [] p e) λL3=>
   ah 2 (.pointer (some ⟨BW,0,none⟩)) λNx=>Ld L3 Nx λNw=>ae .num .neq Nw (iv 0) λJH=>
   Br JH (aA 3 L3 (.pointer (some ⟨BW,0,none⟩)) λNv=>St 3 L3 (.pointer (some ⟨b1,0,none⟩)) Nv λM9=>aA 3 M9 (.pointer (some ⟨b1,0,none⟩)) λNu=>bc Q (.returned Nu) M9) False:=λp e N2 he hq BW=>by
  refine St.whole (r:=cu [] p e) (.head _) rfl rfl (aE _ _ _) (Ld.u (v:=nI e) (.head _) (ae.pn (b:=0) (Br.T ?_ he)));refine aA.whole (r:=cu [] p e) (.head _) rfl (St.whole (r:=cu [] p e) (.tail ((bW.tail ((bW.head _).aB N)).aB N2)) rfl rfl (aE _ _ _) (aA.whole (r:=cu [] p e) (.tail _ (xaa _ (.tail _ (xaa _ (.head _))))) rfl ?_));exact bc.mk (.skip (.cw (.skip (.cw .tail)))) hq
 have uN:∀{H:Hp} {p v:zV} {K1 K2:Hp->Prop},St 3 H p v K1->(∀X,K1 X->K2 X)->St 3 H p v K2:=λh hk=>by
  obtain⟨b,o,c,T,H',h1,h2,h3,h4,h5,h6⟩:=h;exact⟨b,o,c,T,H',h1,h2,h3,h4,h5,hk _ h6⟩
 have vE:∀{v:zV} {A B:Prop},Br v A False->Br v A B:=λh=>by
  obtain⟨b,rfl,h1,h2⟩:=h;exact⟨b,rfl,h1,λe=>(h2 e).elim⟩
 have u5:∀{H:Hp} {p:zV} {K1 K2:zV->Prop},Ld H p K1->(∀X,K1 X->K2 X)->Ld H p K2:=λh hk=>by
  obtain⟨b,o,c,T,fz,v,h1,h2,h3,h4⟩:=h;exact⟨b,o,c,T,fz,v,h1,h2,h3,hk _ h4⟩
 have vA:∀{j:Nat} {p:zV} {K1 K2:zV->Prop},ah j p K1->(∀X,K1 X->K2 X)->ah j p K2:=λh hk=>by
  obtain⟨b,o,h1,h2⟩:=h;exact⟨b,o,h1,hk _ h2⟩
 have rE:∀{v w:zV} {K1 K2:zV->Prop},ae .num .neq v w K1->(∀X,K1 X->K2 X)->ae .num .neq v w K2:=λh hk=>by
  obtain⟨b,h1,h2⟩:=h;exact⟨b,h1,hk _ h2⟩
 rintro _ H ⟨N2,rfl,hR⟩;rcases hR with⟨p,hp,rfl⟩|⟨hn,p,hp,rfl⟩|⟨hn,Gk,av,rfl,iz⟩
 ·refine⟨.cw (.fm (.head _)),Ext.mk rfl (Ext.mk rfl λBW _ _=>?_)⟩;exact uN (bad p 14 N2 zD (hQ.h1 p hp _ hS) BW) λX h=>vA h λa h=>u5 h λb h=>rE h λc h=>vE h
 ·refine⟨.cw (.fm (.head _)),Ext.mk rfl (Ext.mk rfl λBW _ _=>?_)⟩;exact uN (bad p 15 N2 zD (hQ.h2 hn p hp _ hS) BW) λX h=>vA h λa h=>u5 h λb h=>rE h λc h=>vE h
 refine⟨.cw (.fm (.head _)),Ext.mk rfl (Ext.mk rfl λBW _ _=>?_)⟩;refine St.whole (r:=cu [] 0 0) (.head _) rfl rfl (aE _ _ _) (Ld.u (v:=nI 0) (.head _) (ae.pn (a:=0) (b:=0) (Br.F ?_)));refine Ld.u (v:=.func (.func (xq.getD i 0)) #[ptr sp] #[]) (.tail _ (xaa _ (.head _))) (cr.of rfl vi ?_);refine aa.pre (H':=(b1,Obj.cells #[ag [],nI 0,nI 0] 27 zZ)::(N2++(eF T fz::gX sp kp mb es ck C))) ((aN.skip (.cL (.skip (.cw (.refl _))) N2)).trans (.perm xa5)) ?_;refine aa.fn (args:=#[ptr sp,av]) (.cons .here) (hQ.h3 hn Gk kp mb K S af ns es ck C N2 av hI hF iz) ?_;rintro _ _ ⟨⟨t,a,e,rfl⟩,N',H',rfl,hq⟩;refine St.whole (r:=cu t a e) (.head _) rfl rfl (aE _ _ _) (aA.whole (r:=cu t a e) (.head _) rfl ?_);exact bc.mk (.skip (.cw (.refl _))) hq
end
section
variable {T:TypeId} {fz:Nat×Nat} {sp n cap:Nat} {ord:zL} {F:FN} {tr:zL} {H0:Hp}
def xD(T:TypeId)(fz:Nat×Nat)(sp n cap:Nat)(ord:zL)(F:FN)(tr:zL)(nm l:List UInt8)(iC:Nat)(r:zV)(H:Hp):Prop:=
 (∃a e,Reads n l (.bad a e)/\e≠0/\(r=if e=14\/e=2\/e=7 then dM [] (iC+a) e else dM [] 0 e)/\gi T fz sp n cap ord F tr H)\/
 ∃t l',Reads n l (.ok t l')/\((r=dM (dec (sz n ord (λg=>g=t.fn))) 0 0/\gi T fz sp n cap ord (cE F nm t.fn) [] H)\/
  (r=dM [] 0 9/\(∃e5,gi T fz sp n cap ord F e5 H)/\¬Fits (aJ n ord (λg=>(∃p∈F,p.2=g)\/t.dS g)) cap))
theorem r3{nm l:List UInt8}{iC:Nat}{r:zV}{H:Hp}(h:xD T fz sp n cap ord F tr nm l iC r H):∃t a e,r=dM t a e:=by
 rcases h with⟨a,e,_,_,rfl,_⟩|⟨t,l',_,⟨rfl,_⟩|⟨rfl,_⟩⟩
 ·split
  ·exact⟨_,_,_,rfl⟩
  exact⟨_,_,_,rfl⟩
 ·exact⟨_,_,_,rfl⟩
 exact⟨_,_,_,rfl⟩
theorem zh{kp mb:Nat}{K:Kd}{S:Nat->ay.Fn}{af:zL}{es:Array MapEntry}{ck:Nat}{ns:NS}{C:Hp}(hI:oN kp n cap K S ord af tr C es ck ns)(hF:eM S ns=F){nm l:List UInt8}{iC:Nat}{r:zV}{H:Hp}
 (h:IC sp kp mb n cap S ord af tr es ck ns T fz C nm l iC r H):xD T fz sp n cap ord F tr nm l iC r H:=by
 rcases h with⟨a,e,h1,h2,h3,rfl⟩|⟨t,l',h1,⟨x,K',S',es',eU,C',rfl,rfl,Ls,hx,hs⟩|⟨K',S',C',e5,rfl,rfl,Ls,hs,hno⟩⟩
 ·exact .inl ⟨a,e,h1,h2,h3,kp,mb,K,S,af,ns,es,ck,C,rfl,hI,hF⟩
 ·exact .inr ⟨t,l',h1,.inl ⟨rfl,kp,mb,K',S',af,_,es',eU,C',rfl,Ls,by rw[zG,oJ hs,hF,hx]⟩⟩
 refine .inr ⟨t,l',h1,.inr ⟨rfl,⟨e5,kp,mb,K',S',af,ns,es,ck,C',rfl,Ls,by rw[oJ hs,hF]⟩,λhf=>hno ?_⟩⟩;refine Fits.mono (λg hg=>cB (λg h=>?_) hg) hf;refine h.imp ?_ id;rintro⟨x,hx,rfl⟩;obtain⟨p,hp,rfl⟩:=xaq.1 hx;exact⟨(p.1,S p.2),by rw[<-hF];exact xaq.2 ⟨p,hp,rfl⟩,rfl⟩
theorem eE(hB:Bg T fz sp n cap ord F tr H0){text:List UInt8}(hl:text.length<=400){w:Wd}{ws:List Wd}(hw:jj 0 none text=w::ws)(hc:cmd w.t=none){Q:zV->Hp->Prop}
 (su:(nJ w.t=false\/∀w2 yJ,ws=w2::yJ->w2.t≠[61])->∀H,gi T fz sp n cap ord F tr H->Q (dM [] w.a 15) H)
 (Ff:∀w2 yJ,nJ w.t=true->ws=w2::yJ->w2.t=[61]->n<=8/\F.length<=1000/\∀r H,xD T fz sp n cap ord F tr w.t (text.drop (w2.e+p8 (text.drop w2.e))) (w2.e+p8 (text.drop w2.e)) r H->Q r H):
  Fc zQ 8 #[ptr sp,ag text] H0 Q:=by
 obtain⟨yK,Ef⟩:=fJ text 0 none;rw[hw]at yK Ef;rw[xak]at yK;have Hr:w.t.length<=400:=by
  have:=(Ef w (.head _)).1;simp only[xcy,xbq]at this;omega
 refine aU λg=>m6 λb1 _=>ae.bh (Br.no (aa.fn (.cons .here) hB ?_));rintro _ _ ⟨rfl,kp,mb,K,S,af,ns,es,ck,C,rfl,hI,hF⟩;have hS:gi T fz sp n cap ord F tr (eF T fz::gX sp kp mb es ck C):=⟨kp,mb,K,S,af,ns,es,ck,C,rfl,hI,hF⟩;refine au.of (ae.iU (b:=400) (Br.F (aa.fq (nU text hl _) ?_)));rintro v H ⟨N,rfl,hs⟩;rw[hw]at hs;refine hs.cx ?_;rw[xaw,xak];refine ae.bI (b:=0) (Br.F ?_);have Gd:=Sl.eD hs zD;refine ai.sl Gd (i:=0) (r:=w.cells) rfl λp hp=>ah.at hp λq hq=>Ld.at (v:=ag w.t) (r:=[nI w.a,nI w.e]) hq (λy hy=>xad _ hy) ?_;refine aa.eq (mj sp w.t _) ?_;rw[hc];refine Ext.mk rfl (Ext.mk rfl λIy _=>St.whole (r:=[ag [],ag [],.nilFunc]) (.head _) rfl rfl pg (Br.no ?_));refine ai.sl Gd (i:=0) (r:=w.cells) rfl λp hp=>ah.at hp λq hq=>Ld.at (v:=ag w.t) (r:=[nI w.a,nI w.e]) hq (λy hy=>.tail _ (xad _ hy)) ?_;refine aa.eq (qk sp w.t Hr _) (Un.not ?_)
 /- a fault -/
 have bad:(nJ w.t=false\/∀w2 yJ,ws=w2::yJ->w2.t≠[61])->ai 3 v (nI 0) λNs=>ah 1 Ns λNq=>Ld ((Iy,.cells #[ag [],ag [],.nilFunc] 54 zZ)::(N++((b1,Obj.cells #[ag [],nI 0,nI 0] 27 zZ)::(eF T fz::gX sp kp mb es ck C)))) Nq λNp=>
   aa zQ g 16 #[Np,nI 15] ((Iy,.cells #[ag [],ag [],.nilFunc] 54 zZ)::(N++((b1,Obj.cells #[ag [],nI 0,nI 0] 27 zZ)::(eF T fz::gX sp kp mb es ck C)))) (λNo PW=>
   St 3 PW (.pointer (some ⟨b1,0,none⟩)) No λM8=>aA 3 M8 (.pointer (some ⟨b1,0,none⟩)) λNn=>bc Q (.returned Nn) M8) (cP (bc Q)):=λhb=>by
  refine ai.sl Gd (i:=0) (r:=w.cells) rfl λp hp=>ah.at hp λq hq=>Ld.at (v:=nI w.a) (r:=[nI w.e]) hq (λy hy=>.tail _ (xad _ hy)) ?_;refine aa.eq (cU w.a 15 _) (St.whole (r:=cu [] w.a 15) (.tail ((bW.head _).aB N)) rfl rfl (aE _ _ _) (aA.whole (r:=cu [] w.a 15) (.tail _ (xaa _ (.head _))) rfl ?_));exact bc.mk (.skip (.cw .tail)) (su hb _ hS)
 cases hnm:nJ w.t with
 |false=>
  refine bO.or true (λh=>absurd h zD) rfl λ_=>bO.or true (λh=>absurd h zD) rfl λ_=>Br.yes ?_;exact bad (.inl hnm)
 |true=>
  refine bO.or (decide (ws.length+1<2)) (λ_=>hs.cx ?_) rfl λ_=>?_
  ·rw[xaw,xak];exact ae.dX (b:=2) ⟨rfl,rfl⟩
  rw[show(!true)=false from rfl,xdr];cases ws with
  |nil=>
   refine bO.or true (λh=>absurd h zD) rfl λ_=>Br.yes ?_;exact bad (.inr λ_ _ e=>by cases e)
  |cons w2 yJ=>
   rw[xaA (by rw[xak];omega)];refine bO.or (decide (w2.t≠[61])) (λ_=>?_) rfl λ_=>?_
   ·refine ai.sl Gd (i:=1) (r:=w2.cells) rfl λp hp=>ah.at hp λq hq=>Ld.at (v:=ag w2.t) (r:=[nI w2.a,nI w2.e]) hq (λy hy=>.tail _ (xad _ hy)) ?_;exact ae.uM (b:=[61]) ⟨rfl,rfl⟩
   rw[xdr];refine Br.dec (λhne=>bad (.inr λ_ _ e=>by cases e;exact hne)) (λheq=>?_);have heq:w2.t=[61]:=xdu.1 heq;obtain⟨Oh,pH,Ff⟩:=Ff w2 yJ hnm rfl heq;have KT:w2.e<=text.length:=by have:=(Ef w2 (.tail _ (.head _))).2;omega
   have yP:=Bx (text.drop w2.e);rw[xbw]at yP;refine DR.of (R:=(b1,Obj.cells #[ag [],nI 0,nI 0] 27 zZ)::N) (.skip ((aN.perm xaK).trans (.cons ?_))) ?_
   ·exact .right
   refine ai.sl Gd (i:=0) (r:=w.cells) rfl λp hp=>ah.at hp λq hq=>Ld.at (v:=ag w.t) (r:=[nI w.a,nI w.e]) hq (λy hy=>.tail _ hy) ?_;refine ai.sl Gd (i:=1) (r:=w2.cells) rfl λp hp=>aA.at hp rfl zD (λy hy=>.tail _ hy) ?_;refine aa.eq (y8 text hl w2 KT _) ⟨.skip ((aN.perm xaK).trans (.cons .right)),?_⟩;refine aa.fn (args:=#[ptr sp,ag w.t,ag text,nI (w2.e+p8 (text.drop w2.e))]) (.cons (.app (.cons .here))) (ER hI Oh (by rw[<-hF]at pH;unfold eM at pH;rw[xaw]at pH;exact pH) zO hl) ?_;rintro r H hr;have hq:=Ff r H (zh hI hF hr);obtain⟨t,a,e,rfl⟩:=r3 (zh hI hF hr);refine⟨.skip ((aN.perm xaK).trans (.cons .right)),?_⟩;refine St.whole (r:=cu t a e) (.tail ((bW.head _).aB N)) rfl rfl (aE _ _ _) (aA.whole (r:=cu t a e) (.tail _ (xaa _ (.head _))) rfl ?_);exact bc.mk (.skip (.cw .tail)) hq
end
section
variable {T:TypeId} {fz:Nat×Nat} {sp kp mb n cap:Nat} {ord af tr:zL} {F:FN} {K:Kd} {S:Nat->ay.Fn} {es:Array MapEntry} {ck:Nat} {ns:NS} {C N:Hp} {av:zV}
theorem oN.get(hI:oN kp n cap K S ord af tr C es ck ns)(hF:eM S ns=F){t:List UInt8}{f:ay.Fn}(h:bR F t=some f):∃r,bR ns t=some r/\S r=f/\ay.live K.N r:=by
 rw[<-hF,j7]at h;cases hr:bR ns t with
 |none=>rw[hr]at h;cases h
 |some r=>
  rw[hr]at h;cases h;exact⟨r,rfl,rfl,pF hI.hb hI.ks (xaq.2 ⟨(t,r),(fk hI.eS.nd).1 hr,rfl⟩)⟩
abbrev EH(Q:zV->Hp->Prop):zV->Hp->Prop:=λr H=>(∃t a e,r=dM t a e)/\∃N' H',H=N'++H'/\Q r H'
end
section
variable {T:TypeId} {fz:Nat×Nat} {sp kp mb n cap:Nat} {ord af tr:zL} {F:FN} {K:Kd} {S:Nat->ay.Fn} {es:Array MapEntry} {ck:Nat} {ns:NS} {C N H0:Hp} {av:zV}
theorem y2(b:Bool)(B:Hp):Rd zQ 106 #[.bool b] B (· =ag [if b then 49 else 48]):=by
 refine aU λg=>uF ?_;cases b
 ·exact Br.no (bH.mk (.refl _) rfl)
 exact Br.yes (bH.mk (.refl _) rfl)
theorem ph{s:List UInt8}{ws:List Wd}(h:s≠[43]):vY s ws=s:=by unfold vY;rw[xac h]
end
end
section
open Fm ay
def Gb(f:Nat->Bool):Nat->Nat
 |0=>0
 |m+1=>Gb f m+if f m then 2^m else 0
theorem zJ(f:Nat->Bool):∀m,Gb f m<2^m
 |0=>by show 0<1;decide
 |m+1=>by
  have:=zJ f m;unfold Gb;rw[xcv];split<;>omega
theorem uX(f:Nat->Bool):∀m j,j<m->(Gb f m).testBit j=f j
 |m+1,j,h=>by
  have hl:=zJ f m;unfold Gb;by_cases hj:j=m
  ·subst hj;cases hf:f j with
   |true=>simp only[xaS];rw[xcs,Nat.testBit_two_pow_add_eq,xco hl];rfl
   |false=>simp only[xas,xaD,xcr];exact xco hl
  ·have ih:=uX f m j zO;cases hf:f m with
   |true=>simp only[xaS];rw[xcs,Nat.testBit_two_pow_add_gt zO];exact ih
   |false=>simp only[xas,xaD,xcr];exact ih
theorem Fm.Tr.dO{n:Nat}:∀{t:Tr},t.Fit n->∀x,t.fn (x%2^n)=t.fn x
 | .c k,_,x=>rfl
 | .v m,h,x=>by
  have hm:m<n:=h;show(x%2^n).testBit m=x.testBit m;rw[xa4];simp[hm]
 | .no a,h,x=>by show(!a.fn (x%2^n))= !a.fn x;rw[dO (t:=a) h]
 | .bin k a b,h,x=>by
  show(EW k).testBit (2*(a.fn (x%2^n)).toNat+(b.fn (x%2^n)).toNat)=(EW k).testBit (2*(a.fn x).toNat+(b.fn x).toNat);rw[dO (t:=a) h.2.1,dO (t:=b) h.2.2]
 | .ite a b d,h,x=>by
  show(if a.fn (x%2^n)then b.fn (x%2^n)else d.fn (x%2^n))=if a.fn x then b.fn x else d.fn x
  rw[dO (t:=a) h.1,dO (t:=b) h.2.1,dO (t:=d) h.2.2]
theorem Fm.Tr.eA{n:Nat}{g:Nat->Bool}:∀{t:Tr},t.Fit n->t.dS g->∀x,g (x%2^n)=g x
 | .c k,h,hg,x=>by subst hg;exact Tr.dO (t:=.c k) h x
 | .v m,h,hg,x=>by subst hg;exact Tr.dO (t:=.v m) h x
 | .no a,h,hg,x=>by
  rcases hg with rfl|hg
  ·exact Tr.dO (t:=.no a) h x
  exact eA (t:=a) h hg x
 | .bin k a b,h,hg,x=>by
  rcases hg with rfl|hg|hg
  ·exact Tr.dO (t:=.bin k a b) h x
  ·exact eA (t:=a) h.2.1 hg x
  exact eA (t:=b) h.2.2 hg x
 | .ite a b d,h,hg,x=>by
  rcases hg with rfl|hg|hg|hg
  ·exact Tr.dO (t:=.ite a b d) h x
  ·exact eA (t:=a) h.1 hg x
  ·exact eA (t:=b) h.2.1 hg x
  exact eA (t:=d) h.2.2 hg x
section
variable {n:Nat} {ord:zL}
theorem Cc(hn:n<=16){f:ay.Fn}(hf:∀x,f (x%2^n)=f x):∃ws,cF.iG n ws/\ff n ws=f:=
 ⟨gG n λi=>Gb (λj=>f (64*i+j)) 64,oo hn,q4 (λx _=>by rw[uX _ _ _ (xbL _ zD),xdb]) hf⟩
theorem zf{L:List (zL)}(hn:n<=8)(Gm:1<=n)(hf:∀t∈L,cF.iG n t)(hp:ord.Perm (List.range n)):gz n ord L n<=127*L.length+2:=by
 have h1:=nY n ord L (n-1);have h2:=z2 (L:=L) hf zO Gm hp;have h4:2^(n-1)*L.length<=128*L.length:=xba _ (xbF (xaL zD (show n-1<=7 by omega)) zD);have e:gz n ord L n=gz n ord L (n-1)+(lu n ord L (n-1)).length:=by
  obtain⟨m,rfl⟩:∃m,n=m+1:=⟨n-1,by omega⟩;rfl
 rw[e];omega
theorem Dz(hn:n<=8)(Gm:1<=n)(L:List ay.Fn)(hL:∀f∈L,∀x,f (x%2^n)=f x){P:ay.Fn->Prop}(hP:∀g,P g->g∈L):∃Ts:List (zL),Ts.length=L.length/\(∀t∈Ts,cF.iG n t)/\∀g,P g->FT n Ts g:=by
 have key:∀L:List ay.Fn,(∀f∈L,∀x,f (x%2^n)=f x)->∃Ts:List (zL),Ts.length=L.length/\(∀t∈Ts,cF.iG n t)/\∀g∈L,FT n Ts g:=by
  intro L;induction L with
  |nil=>exact λ_=>⟨[],rfl,nofun,nofun⟩
  |cons f L ih=>
   intro h;obtain⟨Ts,h1,h2,h3⟩:=ih λg hg=>h g (.tail _ hg);obtain⟨ws,hw,e⟩:=Cc zO (h f (.head _));refine⟨ws::Ts,by simp[h1],λt ht=>?_,λg hg=>?_⟩
   ·rcases xag.1 ht with rfl|ht
    ·exact hw
    exact h2 t ht
   rcases xag.1 hg with rfl|hg
   ·exact⟨ws,.head _,e.symm⟩
   obtain⟨t,ht,e'⟩:=h3 g hg;exact⟨t,.tail _ ht,e'⟩
 obtain⟨Ts,h1,h2,h3⟩:=key L hL;exact⟨Ts,h1,h2,λg hg=>h3 g (hP g hg)⟩
theorem A3(hn:n<=8)(Gm:1<=n)(hp:ord.Perm (List.range n))(L:List ay.Fn)(hL:∀f∈L,∀x,f (x%2^n)=f x){c:Nat}(hc:127*L.length+4<=c){P:ay.Fn->Prop}(hP:∀g,P g->g∈L):Fits (aJ n ord P) c:=by
 obtain⟨Ts,h1,h2,h3⟩:=Dz hn Gm L hL hP;have hs:=zf (ord:=ord) hn Gm h2 hp;exact Fits.mono (λg hg=>cB (G:=FT n Ts) h3 hg) ⟨_,Bk h2 zO (uU hp),by omega⟩
end
end
section
open Fm Sw ay
section
variable {T:TypeId} {fz:Nat×Nat} {sp kp mb n cap:Nat} {ord af tr:zL} {F:FN} {K:Kd} {S:Nat->ay.Fn} {es:Array MapEntry} {ck:Nat} {ns:NS} {C N H0:Hp} {av:zV}
def IG(T:TypeId)(fz:Nat×Nat)(sp n cap:Nat)(ord:zL)(F:FN)(tr:zL)(a b:Wd×Nat)(r:zV)(H:Hp):Prop:=
 if a.2<1\/64<a.2 then r=dM [] a.1.a 1/\gi T fz sp n cap ord F tr H else
 if b.2<2\/1048576<b.2 then r=dM [] b.1.a 1/\gi T fz sp n cap ord F tr H else r=dM [] 0 0/\gi T fz sp a.2 b.2 (List.range a.2) [] [] H
theorem Ba{a b:Wd×Nat}(hI:oN kp n cap K S ord af tr C es ck ns)(hF:eM S ns=F)(iz:aC 78 4 av ([a,b].map gR) N):
  Fc zQ (xq.getD 0 0) #[ptr sp,av] (N++(eF T fz::gX sp kp mb es ck C)) (EH (IG T fz sp n cap ord F tr a b)):=by
 have hv:=(Sl.eD iz zD);have hS:gi T fz sp n cap ord F tr (eF T fz::gX sp kp mb es ck C):=⟨kp,mb,K,S,af,ns,es,ck,C,rfl,hI,hF⟩;refine aU λg=>yd λb1 _=>?_;have sub:∀y∈N,y∈(b1,Obj.cells #[ag [],nI 0,nI 0] 27 zZ)::(N++(eF T fz::gX sp kp mb es ck C)):=λy hy=>.tail _ (xad _ hy);refine ai.sl hv (i:=0) (r:=gR a) rfl λp hp=>ah.at hp λq hq=>Ld.at (v:=nI a.2) (r:=[]) hq sub (ae.dX (b:=1) ?_);refine bO.or (decide (64<a.2)) (λ_=>ai.sl hv (i:=0) (r:=gR a) rfl λp hp=>ah.at hp λq hq=>Ld.at (v:=nI a.2) (r:=[]) hq sub (ae.iU (b:=64) ⟨rfl,rfl⟩)) rfl λ_=>?_;rw[<-xaR];refine Br.dec (λh=>?_) (λh=>?_)
 ·refine ai.sl hv (i:=0) (r:=gR a) rfl λp hp=>ah.at hp λq hq=>ah.at hq λq2 wO=>Ld.at (v:=nI a.1.a) (r:=[nI a.1.e,nI a.2]) wO sub ?_;refine aa.eq (cU a.1.a 1 _) (St.whole (r:=cu [] a.1.a 1) (.head _) rfl rfl (aE _ _ _) (aA.whole (r:=cu [] a.1.a 1) (.head _) rfl ?_));exact bc.mk .tail ⟨⟨_,_,_,rfl⟩,N,_,rfl,by unfold IG;rw[xaf h];exact⟨rfl,hS⟩⟩
 refine DR.of (R:=N) (.skip .left) ?_;refine ai.sl hv (i:=0) (r:=gR a) rfl λp hp=>ah.at hp λq hq=>Ld.at (v:=nI a.2) (r:=[]) hq (λy hy=>hy) ?_;refine ai.sl hv (i:=1) (r:=gR b) rfl λp hp=>ah.at hp λq hq=>Ld.at (v:=nI b.2) (r:=[]) hq (λy hy=>hy) ?_;by_cases hb:b.2<2\/1048576<b.2
 ·refine aa.eh hnew (EZ (n:=a.2) (cap:=b.2) zO) ⟨.skip .left,Ext.two (ae.pn (a:=1) (b:=0) (Br.T ?_))⟩;refine ai.sl hv (i:=1) (r:=gR b) rfl λp hp=>ah.at hp λq hq=>ah.at hq λq2 wO=>Ld.at (v:=nI b.1.a) (r:=[nI b.1.e,nI b.2]) wO sub ?_;refine aa.eq (cU b.1.a 1 _) (St.whole (r:=cu [] b.1.a 1) (.head _) rfl rfl (aE _ _ _) (aA.whole (r:=cu [] b.1.a 1) (.head _) rfl ?_));exact bc.mk .tail ⟨⟨_,_,_,rfl⟩,N,_,rfl,by unfold IG;rw[xac h,xaf hb];exact⟨rfl,hS⟩⟩
 refine aa.fn hnew (zw (n:=a.2) (cap:=b.2) zO zO) ?_;rintro _ C2 ⟨Hg,rfl,hK⟩;refine⟨.cw (.skip .left),Ext.two (ae.pn (a:=0) (b:=0) (Br.F ?_))⟩;refine Nil.ptr (.mk (St.one (c':=#[ptr Hg,.map (some mb)]) (((((bW.head _).tail).aB N).tail).aB C2) rfl (show 0<2 by decide) rfl ?_));intro He _;refine Nil.ptr (.mk (St.one (c':=#[ptr Hg,.map (some He)]) ((((((bW.head _).tail).aB N).tail).aB C2).tail) rfl (show 1<2 by decide) rfl ?_));refine Build.mk (cs:=cu [] 0 0) zK (St.whole (r:=cu [] 0 0) (((bW.head _).aB C2).tail) rfl rfl (aE _ _ _) (aA.whole (r:=cu [] 0 0) (.tail _ (xaa _ (.head _))) rfl ?_));refine bc.mk (dP:=eF T fz::gX sp Hg He #[] 0 C2) ((aN.cons (.cL (.skip (.cw (.cons (.cons .nil)))) C2)).trans (.perm (xaK (l₁:=(He,Obj.map #[] 0)::C2) (l₂:=[eF T fz,(sp,.cells #[ptr Hg,.map (some He)] 48 zZ)])))) ⟨⟨_,_,_,rfl⟩,[],_,rfl,?_⟩;unfold IG;rw[xac h,xac hb];exact⟨rfl,Hg,He,_,_,_,[],_,_,C2,rfl,⟨hK,br.empty,.refl⟩,rfl⟩
theorem gE(hB:Bg T fz sp n cap ord F tr H0){text:List UInt8}{w a b:Wd}{x y:Nat}(hl:text.length<=400)(hw:jj 0 none text=[w,a,b])(hc:cmd w.t=some 0)(hr:r6 text.length [110,110] [a,b]=none)(hx:EX a.t=some x)(hy:EX b.t=some y):
  Fc zQ 8 #[ptr sp,ag text] H0 (IG T fz sp n cap ord F tr (a,x) (b,y)):=by
 refine jv hB hl hw hc (λh=>absurd h zD) ⟨λp hp=>?_,λ_ p hp H hS=>?_,λ_ hn kp mb K S af ns es ck C N av hI hF iz=>?_⟩
 ·rw[ph zD]at hp;have:r6 text.length [110,110] [a,b]=some p:=hp;rw[hr]at this;cases this
 ·rw[ph zD]at hp;have hp:uT (kV F) [110,110] [a,b]=some p:=hp;simp[uT]at hp
 rw[ph zD]at iz;have e:rdv (iZ.getD 0 ([],[])).2 [a,b]=[(a,x),(b,y)]:=by
  show [(a,(vI 110 a.t).getD 0),(b,(vI 110 b.t).getD 0)]=_;have ea:vI 110 a.t=some x:=hx;have eb:vI 110 b.t=some y:=hy;rw[ea,eb];rfl
 rw[e]at iz;exact Ba hI hF iz
end
theorem Fm.Tr.y6{t:Tr}{n:Nat}(hf:t.Fit n):∀g∈t.all,∀x,g (x%2^n)=g x:=λg hg=>Tr.eA hf (Tr.dH.2 hg)
section
variable {T:TypeId} {fz:Nat×Nat} {sp kp mb n cap:Nat} {ord af tr:zL} {F:FN} {K:Kd} {S:Nat->ay.Fn} {es:Array MapEntry} {ck:Nat} {ns:NS} {C N H0:Hp} {av:zV}
theorem ju(hB:Bg T fz sp n cap ord F tr H0){text:List UInt8}{w:Wd}{ws:List Wd}{i p:Nat}(hl:text.length<=400)(hw:jj 0 none text=w::ws)(hc:cmd w.t=some i)(Dk:(iZ.getD i ([],[])).2≠[43])(hr:r6 text.length (iZ.getD i ([],[])).2 ws=some p):
  Fc zQ 8 #[ptr sp,ag text] H0 (λr H=>r=dM [] p 14/\gi T fz sp n cap ord F tr H):=by
 refine jv hB hl hw hc (λh=>absurd h Dk) ⟨λq hq H hS=>?_,λh=>?_,λh=>?_⟩
 ·rw[ph Dk,hr]at hq;cases hq;exact⟨rfl,hS⟩
 ·rw[ph Dk,hr]at h;cases h
 rw[ph Dk,hr]at h;cases h
theorem zY(hB:Bg T fz sp n cap ord F tr H0){text:List UInt8}{w:Wd}{ws:List Wd}{i p:Nat}(hl:text.length<=400)(hw:jj 0 none text=w::ws)(hc:cmd w.t=some i)(Dk:(iZ.getD i ([],[])).2≠[43])(hr:r6 text.length (iZ.getD i ([],[])).2 ws=none)(hn:uT (kV F) (iZ.getD i ([],[])).2 ws=some p):
  Fc zQ 8 #[ptr sp,ag text] H0 (λr H=>r=dM [] p 15/\gi T fz sp n cap ord F tr H):=by
 refine jv hB hl hw hc (λh=>absurd h Dk) ⟨λq hq=>?_,λ_ q hq H hS=>?_,λ_ h=>?_⟩
 ·rw[ph Dk,hr]at hq;cases hq
 ·rw[ph Dk,hn]at hq;cases hq;exact⟨rfl,hS⟩
 rw[ph Dk,hn]at h;cases h
theorem fR(hB:Bg T fz sp n cap ord F tr H0){text:List UInt8}{w:Wd}{ws:List Wd}{i:Nat}{sh:List UInt8}(hl:text.length<=400)(hw:jj 0 none text=w::ws)(hc:cmd w.t=some i)(hsh:vY (iZ.getD i ([],[])).2 ws=sh)(hr:r6 text.length sh ws=none)(hn:uT (kV F) sh ws=none){Q:zV->Hp->Prop}
 (h:∀kp mb K S af ns es ck C N av,oN kp n cap K S ord af tr C es ck ns->eM S ns=F->aC 78 4 av ((rdv sh ws).map gR) N->Fc zQ (xq.getD i 0) #[ptr sp,av] (N++(eF T fz::gX sp kp mb es ck C)) (EH Q)):
  Fc zQ 8 #[ptr sp,ag text] H0 Q:=by
 obtain⟨yK,_⟩:=fJ text 0 none;rw[hw,xak]at yK;refine jv hB hl hw hc (λ_ B=>wh zO B) ⟨λq hq=>?_,λ_ q hq=>?_,λ_ _=>by rw[hsh];exact h⟩
 ·rw[hsh,hr]at hq;cases hq
 rw[hsh,hn]at hq;cases hq
theorem wU(hI:oN kp n cap K S ord af tr C es ck []):D9 K S ord=0:=by
 unfold D9;refine qh (lY.none.congr λg=>⟨False.elim,?_⟩);rintro⟨l,hl,hg,hh⟩;have no:∀l g,¬fs ord (K.held S) l g:=λl=>by
  induction l with
  |zero=>
   rintro g hm;obtain⟨x,hx,_⟩:=AD hI.hb g hm;cases hx
  |succ l ih=>rintro g ⟨f,hf,_⟩;exact ih f hf
 exact no l g hg
theorem zq(h:eM S ns=[]):ns=[]:=by
 unfold eM at h;exact List.map_eq_nil_iff.1 h
theorem xk(hI:oN kp n cap K S ord af tr C es ck ns)(hF:eM S ns=[]):
  Fc zQ (xq.getD 11 0) #[ptr sp,av] (N++(eF T fz::gX sp kp mb es ck C)) (EH (λr H=>r=dM [48] 0 0/\gi T fz sp n cap ord [] tr H)):=by
 have Kr:=zq hF;subst Kr;refine aU λg=>yc λb1 _=>Ld.v (v:=ptr kp) (.tail _ (xaa _ (.tail _ (.head _)))) ?_;refine aa.eh (args:=#[ptr kp]) (.cons (.app (.cons (.cons (.cons .here))))) (DD hI.ks.at') ?_;rw[wU hI];refine aa.eq (gM (n:=0) zD (.tail _ (xaa _ (.head _)))) (aa.eq (jo (dec 0) 0 _) ?_);refine St.whole (r:=cu (dec 0) 0 0) (.head _) rfl rfl (aE _ _ _) (aA.whole (r:=cu (dec 0) 0 0) (.head _) rfl ?_);exact bc.mk .tail ⟨⟨_,_,_,rfl⟩,N,_,rfl,rfl,kp,mb,K,S,af,[],es,ck,C,rfl,hI,rfl⟩
theorem zb(B:Hp):Rd zQ 153 #[.slice none 0 0] B (λv=>v=.tuple #[]):=by
 refine aU λg=>tT (bp.mk (n:=0) (aM.nat (a:=0) zD (aa.rq (Q:=λv=>∃r:Nat,v=nI r) (B:=B) (aU λg=>tu (Br.no (aa.rq (qK (x:=0) zD B) ?_))) ?_)))
 ·rintro _ ⟨r,_,rfl⟩;exact bH.mk (.refl _) ⟨r,rfl⟩
 rintro _ ⟨r,rfl⟩;refine aa.eq (v:=.tuple #[]) (B:=B) (aU λg=>tw ?_) (bH.mk (.refl _) rfl);refine⟨λvs H=>vs=[nI 0,nI 0,nI r,.bool true,.bool true]/\H=B,λ_ _=>0,JE.mk ⟨rfl,rfl⟩,?_⟩;rintro w5 w6 w7 w8 w9 H ⟨⟨⟩,rfl⟩ gs;refine ae.e7 (a:=0) (b:=0) zD zD (ae.E4 (a:=0) (b:=12) (Br.T (aa.eq (v:=.tuple #[]) (B:=H) (aU λg=>s5 (ae.eo (a:=0) (b:=1) zD ?_)) (bH.mk (.refl _) rfl))));refine⟨λvs H'=>vs=[nI 1]/\H'=H,λ_ _=>0,JE.mk ⟨rfl,rfl⟩,?_⟩;rintro w6 H' ⟨⟨⟩,rfl⟩ gs;exact ae.dX (a:=1) (b:=0) (Br.F (bH.mk (.refl _) rfl))
theorem rY{bm mb:Nat}{es:Array MapEntry}{ck:Nat}(hE:II es ck []):Rd zQ 117 #[.func (.func 154) #[] #[ptr bm]] [(bm,Obj.cells #[.map (some mb)] 46 zZ),(mb,.map es ck)] (· =.slice none 0 0):=by
 refine aU λg=>uy (aa.eq (v:=.slice none 0 0) (B:=[(bm,Obj.cells #[.map (some mb)] 46 zZ),(mb,.map es ck)]) (aU λg=>tU ?_) ?_)
 ·refine aa.fq (sK (qO (fz:=(0,0)) hE) zK) ?_;rintro _ _ ⟨rfl,rfl⟩;exact bH.mk (.refl _) rfl
 exact aa.rq (zb _) λ_ _=>bH.mk (.refl _) rfl
theorem mR(hI:oN kp n cap K S ord af tr C es ck ns)(hF:eM S ns=[]):
  Fc zQ (xq.getD 18 0) #[ptr sp,av] (N++(eF T fz::gX sp kp mb es ck C)) (EH (λr H=>r=dM [] 0 0/\gi T fz sp n cap ord [] tr H)):=by
 have Kr:=zq hF;subst Kr;refine aU λg=>x5 λb1 _=>Ld.v (v:=.map (some mb)) (.tail _ (xaa _ (.tail _ (.head _)))) ?_;refine aa.fq (Aa (b:=mb) _) ?_;rintro _ _ ⟨bm,rfl,rfl⟩;refine aa.pre (H':=(b1,Obj.cells #[ag [],nI 0,nI 0] 27 zZ)::(N++(eF T fz::(sp,.cells #[ptr kp,.map (some mb)] 48 zZ)::([(bm,Obj.cells #[.map (some mb)] 46 zZ),(mb,.map es ck)]++C)))) (.perm ?_) ?_
 ·refine(List.Perm.swap _ _ _).trans (.cons _ ?_);refine(xa5 (l₁:=N) (a:=(bm,Obj.cells #[.map (some mb)] 46 zZ))).symm.trans (.append_left _ ?_);exact(List.Perm.swap _ _ _).trans (.cons _ (.swap _ _ _))
 refine aa.eh (args:=#[.func (.func 154) #[] #[ptr bm]]) (.cons (.app (.cons (.cons .left)))) (rY hI.eS) ?_;refine aa.eq (v:=ag []) (B:=_) (aU λg=>nh (bp.mk (n:=0) (ae.bI (a:=0) (b:=0) (Br.T (bH.mk (.refl _) rfl))))) (aa.eq (jo [] 0 _) ?_);refine St.whole (r:=cu [] 0 0) (.head _) rfl rfl (aE _ _ _) (aA.whole (r:=cu [] 0 0) (.head _) rfl ?_);refine bc.mk (dP:=N++(eF T fz::gX sp kp mb es ck C)) (.skip (.cL (.cons (.cons .tail)) N)) ⟨⟨_,_,_,rfl⟩,N,_,rfl,rfl,kp,mb,K,S,af,[],es,ck,C,rfl,hI,rfl⟩
theorem o6(hI:oN kp n cap K S ord af tr C es ck ns){s gr:Nat}(hb:6<s\/gr<100\/1000<gr):Rd zQ 116 #[ptr sp,.int .u8 (s:Int),nI gr] (eF T fz::gX sp kp mb es ck C) (· =dM [] 0 1):=by
 refine aU λg=>uz λb1 _=>Ld.v (v:=ptr kp) (.tail _ (.tail _ (.head _))) ?_;refine aa.eh (args:=#[ptr kp,.int .u8 (s:Int),nI gr]) (.cons (.cons (.cons (.cons .here)))) (Cg hI.ks.at' hb) (Ext.two λnO _=>St.whole (r:=[nI 0,nI 0,nI 0,.bool false]) (.head _) rfl rfl (by intro v hv;simp only[xag,xax,xa3]at hv;rcases hv with rfl|rfl|rfl|rfl<;>rfl) ?_);obtain⟨R,hR⟩:∃R:Hp,R=[(nO,Obj.cells [nI 0,nI 0,nI 0,Value.bool false].toArray 224 zZ),(b1,Obj.cells #[ag [],nI 0,nI 0] 27 zZ),eF T fz]:=⟨_,rfl⟩;have hent:∀X:Hp,aN ((nO,Obj.cells [nI 0,nI 0,nI 0,Value.bool false].toArray 224 zZ)::(b1,Obj.cells #[ag [],nI 0,nI 0] 27 zZ)::eF T fz::X) [(nO,Obj.cells [nI 0,nI 0,nI 0,Value.bool false].toArray 224 zZ)]:=λX=>.fm (.head _);refine DR.of (hent _) (Ld.u (v:=nI 0) (.head _) (Ld.u (v:=nI 0) (.head _) (Ld.u (v:=nI 0) (.head _) (Ld.u (v:=.bool false) (.head _) ?_))));refine aa.eq (gM (n:=0) zD (.tail _ (.tail _ (.head _)))) ⟨hent _,aa.eq (gM (n:=0) zD (.tail _ (.tail _ (.head _)))) ⟨hent _,aa.eq (gM (n:=0) zD (.tail _ (.tail _ (.head _)))) ⟨hent _,aa.eq (y2 false _) ⟨hent _,?_⟩⟩⟩⟩;refine aj.kC (e:=9) (z:=ag []) [ag (dec 0),ag (dec 0),ag (dec 0),ag [48]] zK zK zK zD (by intro r hr;simp only[xag,xax,xa3]at hr;rcases hr with rfl|rfl|rfl|rfl<;>rfl) rfl rfl λbw=>⟨.fm (.tail _ (.head _)),?_⟩;have hv:Sl 1 [(bw,Obj.cells (rows [[ag (dec 0)],[ag (dec 0)],[ag (dec 0)],[ag [48]]]) 9 zZ)] (.slice (some ⟨bw,0,none⟩) 4 4) [[ag (dec 0)],[ag (dec 0)],[ag (dec 0)],[ag [48]]]:=Sl.eD (aC.made (T:=9) (k:=1) (b:=bw) [[ag (dec 0)],[ag (dec 0)],[ag (dec 0)],[ag [48]]] (λr hr=>by simp only[xag,xax,xa3]at hr;rcases hr with rfl|rfl|rfl|rfl<;>rfl)) zD;refine aa.rq (Ad (hv.mono λy hy=>?_) zD zD) ?_
 ·rw[xaG.1 hy];exact .head _
 rintro _ ⟨t,rfl⟩;refine⟨.fm (.tail _ (.head _)),aa.eq (jo t 1 _) ⟨.fm (.tail _ (.head _)),?_⟩⟩;refine St.whole (r:=cu [] 0 1) (.tail (.tail (.head _))) rfl rfl (aE _ _ _) (aA.whole (r:=cu [] 0 1) (.tail _ (.tail _ (.head _))) rfl ?_);exact bH.mk (.skip (.skip .tail)) rfl
theorem sB{a:Wd×Nat}(hI:oN kp n cap K S ord af tr C es ck ns)(hF:eM S ns=F)(iz:aC 78 4 av ([a].map gR) N)(ha:a.2<100):
  Fc zQ (xq.getD 14 0) #[ptr sp,av] (N++(eF T fz::gX sp kp mb es ck C)) (EH (λr H=>r=dM [] 0 1/\gi T fz sp n cap ord F tr H)):=by
 have hv:=(Sl.eD iz zD);refine aU λg=>x9 λb1 _=>?_;refine ai.sl hv (i:=0) (r:=gR a) rfl λp hp=>ah.at hp λq hq=>Ld.at (v:=nI a.2) (r:=[]) hq (λy hy=>.tail _ (xad _ hy)) ?_;refine aa.eh (args:=#[ptr sp,.int .u8 ((1:Nat):Int),nI a.2]) (.cons (.app .here)) (o6 hI (s:=1) (gr:=a.2) (.inr (.inl ha))) ?_;refine St.whole (r:=cu [] 0 1) (.head _) rfl rfl (aE _ _ _) (aA.whole (r:=cu [] 0 1) (.head _) rfl ?_);exact bc.mk .tail ⟨⟨_,_,_,rfl⟩,N,_,rfl,rfl,kp,mb,K,S,af,ns,es,ck,C,rfl,hI,hF⟩
theorem pP{a:Wd×Nat}(hI:oN kp n cap K S ord af tr C es ck ns)(hF:eM S ns=F)(iz:aC 78 4 av ([a].map gR) N)(ha:a.2<2\/4<a.2):
  Fc zQ (xq.getD 16 0) #[ptr sp,av] (N++(eF T fz::gX sp kp mb es ck C)) (EH (λr H=>r=dM [] a.1.a 1/\gi T fz sp n cap ord F tr H)):=by
 have hv:=(Sl.eD iz zD);refine aU λg=>x7 λb1 _=>?_;have sub:∀y∈N,y∈(b1,Obj.cells #[ag [],nI 0,nI 0] 27 zZ)::(N++(eF T fz::gX sp kp mb es ck C)):=λy hy=>.tail _ (xad _ hy);refine ai.sl hv (i:=0) (r:=gR a) rfl λp hp=>ah.at hp λq hq=>Ld.at (v:=nI a.2) (r:=[]) hq sub (ae.dX (b:=2) ?_);refine bO.or (decide (4<a.2)) (λ_=>ai.sl hv (i:=0) (r:=gR a) rfl λp hp=>ah.at hp λq hq=>Ld.at (v:=nI a.2) (r:=[]) hq sub (ae.iU (b:=4) ⟨rfl,rfl⟩)) rfl λ_=>?_;rw[<-xaR];refine Br.T ?_ ha;refine ai.sl hv (i:=0) (r:=gR a) rfl λp hp=>ah.at hp λq hq=>ah.at hq λq2 wO=>Ld.at (v:=nI a.1.a) (r:=[nI a.1.e,nI a.2]) wO sub ?_;refine aa.eq (cU a.1.a 1 _) (St.whole (r:=cu [] a.1.a 1) (.head _) rfl rfl (aE _ _ _) (aA.whole (r:=cu [] a.1.a 1) (.head _) rfl ?_));exact bc.mk .tail ⟨⟨_,_,_,rfl⟩,N,_,rfl,rfl,kp,mb,K,S,af,ns,es,ck,C,rfl,hI,hF⟩
theorem rh{l:List (Wd×Nat)}(hI:oN kp n cap K S ord af tr C es ck ns)(hF:eM S ns=F)(iz:aC 78 4 av (l.map gR) N)(h0:l.length≠0)(hl:l.length≠n):
  Fc zQ (xq.getD 12 0) #[ptr sp,av] (N++(eF T fz::gX sp kp mb es ck C)) (EH (λr H=>r=dM [] 0 1/\gi T fz sp n cap ord F tr H)):=by
 refine aU λg=>yb λb1 _=>iz.cx ?_;rw[xaw];refine ae.bI (b:=0) (Br.F (iz.cx ?_) h0);rw[xaw];refine Ld.v (v:=ptr kp) (.tail _ (xaa _ (.tail _ (.head _)))) (aa.eh (args:=#[ptr kp]) (.cons (.app (.cons (.cons (.cons .here))))) (jx hI.ks.rep) ?_);rw[show K.n=n from hI.hb.n];refine ae.pn (Br.T (aa.eq (cU 0 1 _) ?_) hl);refine St.whole (r:=cu [] 0 1) (.head _) rfl rfl (aE _ _ _) (aA.whole (r:=cu [] 0 1) (.head _) rfl ?_);exact bc.mk .tail ⟨⟨_,_,_,rfl⟩,N,_,rfl,rfl,kp,mb,K,S,af,ns,es,ck,C,rfl,hI,hF⟩
theorem sA{a:Wd×Nat}(hI:oN kp n cap K S ord af tr C es ck ns)(hF:eM S ns=F)(iz:aC 78 4 av ([a].map gR) N)(ha:n<=a.2+1):
  Fc zQ (xq.getD 13 0) #[ptr sp,av] (N++(eF T fz::gX sp kp mb es ck C)) (EH (λr H=>r=dM [] 0 1/\gi T fz sp n cap ord F tr H)):=by
 have hv:=(Sl.eD iz zD);refine aU λg=>ya λb1 _=>DR.of (R:=N++[(sp,.cells #[ptr kp,.map (some mb)] 48 zZ)]) (.skip (.cL (.skip (.cons .nil)) N)) ?_;refine Ld.v (v:=ptr kp) (xaa _ (.head _)) ?_;refine ai.sl hv (i:=0) (r:=gR a) rfl λp hp=>ah.at hp λq hq=>Ld.at (v:=nI a.2) (r:=[]) hq (λy hy=>xad _ hy) ?_;refine aa.eh (args:=#[ptr kp,nI a.2]) (.cons (.app (.cons (.cons (.cons .here))))) (A6 hI.ks (l:=(a.2:Int)) (by rw[show K.n=n from hI.hb.n];omega)) ?_;refine aa.eq (jo [] 1 _) ⟨.skip (.cL (.skip (.cons .nil)) N),?_⟩;refine St.whole (r:=cu [] 0 1) (.head _) rfl rfl (aE _ _ _) (aA.whole (r:=cu [] 0 1) (.head _) rfl ?_);exact bc.mk .tail ⟨⟨_,_,_,rfl⟩,N,_,rfl,rfl,kp,mb,K,S,af,ns,es,ck,C,rfl,hI,hF⟩
end
section
variable {T:TypeId} {fz:Nat×Nat} {sp n cap:Nat} {ord tr:zL} {F:FN} {H0 Y:Hp}
theorem wB(hB:Bg T fz sp n cap ord F tr H0){c b:UInt8}{l:List UInt8}(hc:c≠32)(hb:b≠32)(OJ:cmd [c]=none)(hnm:nJ [c]=true)(hl:l.length+5<=400)(hn:n<=8)(hF:F.length<=1000):
  Fc zQ 8 #[ptr sp,ag (c::32::61::32::b::l)] H0 (xD T fz sp n cap ord F tr [c] (b::l) 4):=by
 have hw:jj 0 none (c::32::61::32::b::l)=⟨[c],0,1⟩::⟨[61],2,3⟩::jj 4 none (b::l):=by
  show(if c=32 then _ else jj 1 (some [c]) (32::61::32::b::l))=_;rw[xac hc];rfl
 refine eE hB (by simp only[xak];omega) hw OJ (λh=>?_) (λw2 yJ _ e Jv=>?_)
 ·exfalso;rcases h with h|h
  ·rw[hnm]at h;cases h
  exact h _ _ rfl rfl
 cases e;refine⟨hn,hF,λr H hq=>?_⟩;have e4:3+p8 (List.drop 3 (c::32::61::32::b::l))=4:=by
  show 3+((if b=32 then _ else 0)+1)=4;rw[xac hb]
 have hq:xD T fz sp n cap ord F tr [c] (List.drop (3+p8 (List.drop 3 (c::32::61::32::b::l))) (c::32::61::32::b::l)) (3+p8 (List.drop 3 (c::32::61::32::b::l))) r H:=hq;rw[e4]at hq;exact hq
theorem gi.out{X:Hp}(h:gi T fz sp n cap ord F tr H0):aN (X++(H0++Y)) (eF T fz::Y):=by
 obtain⟨kp,mb,K,S,af,ns,es,ck,C,rfl,_⟩:=h;exact .cw (.cons (.cw (.refl _)))
end
theorem nS:∀(k i:Nat),jj i none (List.replicate k 32)=[]
 |0,_=>rfl
 |k+1,i=>by
  show(if(32:UInt8)=32 then jj (i+1) none (List.replicate k 32)else _)=_;rw[xaf rfl];exact nS k (i+1)
theorem oH{n:Nat}(hn:n<1000)(B:Hp):Rd zQ 10 #[nI n] B (· =ag (List.replicate n 32)):=by
 refine aU λg=>yI ?_;refine⟨λvs H=>∃i,vs=[ag (List.replicate i 32),nI i]/\i<=n/\H=B,λvs _=>n-dx vs 1,JE.mk ⟨0,rfl,xaB _,rfl⟩,?_⟩;rintro w5 w6 H ⟨i,⟨⟩,hi,rfl⟩ gs;refine ae.dX (Br.dec (λh=>?_) (λh=>?_))
 ·refine ae.rX (b:=[32]) (by rw[xaO,xbf];omega) (ae.inc (aI.of (.refl _) ⟨i+1,?_,h,rfl⟩ (by simp only[dx];omega)));have:List.replicate i (32:UInt8)++[32]=List.replicate (i+1) 32:=(List.replicate_succ' ..).symm;rw[this]
 have:i=n:=by omega
 subst this;exact bH.mk (.refl _) rfl
theorem bG(t:List UInt8)(a e a' e':Nat)(B:Hp):Rd zQ 11 #[dM t a e,nI e',nI a'] B (· =.bool (decide (t=[]) &&decide (a=a') &&decide (e=e'))):=by
 refine aU λg=>yH λb1 _=>Ld.u (v:=ag t) (.head _) (ae.qj (b:=[]) ?_);refine bO.and (decide (a=a')) (λ_=>Ld.u (v:=nI a) (.head _) (ae.bI ⟨rfl,rfl⟩)) rfl λ_=>?_;refine bO.and (decide (e=e')) (λ_=>Ld.u (v:=nI e) (.head _) (ae.bI ⟨rfl,rfl⟩)) rfl λ_=>?_;exact bH.mk .tail rfl
theorem p9{n:Nat}(hn:1<=n):Reads n [120,48] (.ok (.v 0) []):=by
 have e0:cG [120,48]=(3,0,2):=rfl;refine .mk zD (dA.step e0 zD zD .fin) (.call (r:=.ok (.v 0) [⟨0,2,0⟩]) (Ev.up 5 0 zD (λt x l' e m _ h=>?_) (λ_ e=>by cases e) (Ev.t5 ?_)) (Ev.cI rfl .done))
 ·cases e;have:=uP m;show(0:Nat)≠_;omega
 show Ev n (if n<=0 then _ else _) _;rw[xac zO];exact .done
theorem zv(n:Nat):Reads n [] (.bad 0 14):=
 .mk zD .fin (.call (r:=.bad 0 14) (Ev.up 5 0 zD (λ_ _ _ e=>by cases e) (λ_ e=>by cases e) (Ev.t5 .done)) .done)
theorem DT:ff 8 (gG 8 λ_=>12297829382473034410)=(Tr.v 0).fn:=by
 refine q4 (λx hx=>?_) (Tr.dO (t:=.v 0) (by show 0<8;decide));have h:∀x:Fin 256,((λ_=>12297829382473034410:Nat->Nat) (x.1/64)).testBit (x.1%64)=(Tr.v 0).fn x.1:=by decide+kernel
 exact h ⟨x,hx⟩
theorem B0:gz 8 (List.range 8) [gG 8 λ_=>12297829382473034410] 8=1:=by decide+kernel
theorem GK:sz 8 (List.range 8) (λg=>g=(Tr.v 0).fn)=1:=by
 have h:=GR (n:=8) (ord:=List.range 8) (L:=[gG 8 λ_=>12297829382473034410]) (λt ht=>by rw[xaG.1 ht];exact oo zD) zD (uU (.refl _));rw[B0]at h;have e:FT 8 [gG 8 λ_=>12297829382473034410]=λg=>g=(Tr.v 0).fn:=funext λg=>propext ⟨λ⟨t,ht,e⟩=>by rw[e,xaG.1 ht,DT],λe=>⟨_,.head _,by rw[e,DT]⟩⟩;rw[<-e];exact h
section
variable {T:TypeId} {fz:Nat×Nat} {Y:Hp}
theorem B1{sp:Nat}{nm:List UInt8}{tr:zL}{H:Hp}(h:gi T fz sp 1 2 (List.range 1) [(nm,(Tr.v 0).fn)] tr H):False:=by
 obtain⟨kp,mb,K,S,af,ns,es,ck,C,rfl,hI,hF⟩:=h;have hn:K.n=1:=hI.hb.n;have hc:K.cap=2:=hI.hb.cap;obtain⟨r,hr,hS,hl⟩:=hI.get hF (t:=nm) (f:=(Tr.v 0).fn) (by unfold bR;simp);have hm:r∈ns.map Prod.snd:=xaq.2 ⟨(nm,r),(fk hI.eS.nd).1 hr,rfl⟩;have h2:2<=r:=by
  by_cases h:2<=r
  ·exact h
  exfalso;have hi:=hI.ks.ok.mid.int;have:r=0\/r=1:=by omega
  rcases this with rfl|rfl
  ·have e:S 0 1=(Tr.v 0).fn 1:=by rw[hS]
   rw[hi.zero]at e;exact absurd e zD
  have e:S 1 0=(Tr.v 0).fn 0:=by rw[hS]
  rw[hi.one]at e;exact absurd e zD
 have HN:K.held S (Tr.v 0).fn:=⟨r,jG hI.hb hm h2,hS.symm⟩;have hs:=qM hI.ks;have hcap:=hI.ks.ok.mid.cap;obtain⟨l,_,hlen,hmem⟩:=hI.ks.ok.size hI.ks.od;have hu:K.used-2=0:=by omega
 rw[hu]at hlen;have:(Tr.v 0).fn∈l:=(hmem _).1 ⟨0,by omega,HN,0,by decide⟩;rw[xcf.1 hlen]at this;cases this
theorem Il{sp:Nat}{tr:zL}{r:zV}{H:Hp}(h:xD T fz sp 1 2 (List.range 1) [] tr [102] (List.drop (3+p8 (List.drop 3 [102,32,61,32])) [102,32,61,32]) (3+p8 (List.drop 3 [102,32,61,32])) r H):r=dM [] 4 14/\gi T fz sp 1 2 (List.range 1) [] tr H:=by
 have hr:Reads 1 (List.drop (3+p8 (List.drop 3 [102,32,61,32])) [102,32,61,32]) (.bad 0 14):=zv 1;rcases h with⟨a,e,hb,he,hr',hS⟩|⟨t,l',hr',_⟩
 ·have:=hr.uniq hb;cases this;exact⟨hr'.trans (xaf (.inl rfl)),hS⟩
 exact absurd (hr.uniq hr') nofun
set_option maxHeartbeats 8000000 in
theorem lj:Rd zQ 4 #[] (eF T fz::Y) (· =.bool true):=by
 refine aU λgh=>BJ (aa.fq (Ce _) ?_);rintro _ _ ⟨sp,rfl,rfl⟩;refine ae.bh (Br.no (aa.pre (H':=[eF T fz,Jr sp]++Y) .swap ?_));refine aa.eq (oH (n:=396) zD _) (ae.rX (a:=[108,105,118,101]) (by rw[xaO];decide) ?_);refine aa.fn (args:=#[ptr sp,ag ([108,105,118,101]++List.replicate 396 32)]) (.left (C:=[eF T fz,Jr sp])) (fR AT (w:=⟨[108,105,118,101],0,4⟩) (ws:=[]) (i:=11) (sh:=[]) (by rw[xan,xaO];decide) ?_ zK zK rfl rfl λkp mb K S af ns es ck C N av hI hF _=>xk hI hF) ?_
 ·show _::jj 5 none (List.replicate 395 32)=_;rw[nS];rfl
 rintro _ H1 ⟨rfl,yS⟩;intro b9 _;refine St.whole (r:=cu [48] 0 0) (.head _) rfl rfl (aE _ _ _) ?_;refine aa.eq (oH (n:=397) zD _) (ae.rX (a:=[108,105,118,101]) (by rw[xaO];decide) ?_);refine aa.fn (args:=#[ptr sp,ag ([108,105,118,101]++List.replicate 397 32)]) (.cons .left) (wC yS.bg (by rw[xan,xaO];decide)) ?_;rintro _ H2 ⟨rfl,lH⟩;intro M5 _;refine St.whole (r:=cu [] 0 13) (.head _) rfl rfl (aE _ _ _) ?_;intro PS LL;refine Ld.u (v:=nI 0) (.tail _ (.head _)) (ae.pn (a:=0) (b:=0) (Split.go rfl ?_));refine Ld.u (v:=ag [48]) (.tail _ (.head _)) (ae.uM (b:=[48]) (az.mk (Split.go rfl ?_)));refine aA.whole (r:=cu [] 0 13) (.head _) rfl (aa.eq (bG [] 0 13 0 13 _) (Un.not (az.mk (JE.mk (LL _ _ λ_=>Br.no ?_)))))
 /- names -/
 refine aa.fn (args:=#[ptr sp,ag [97,98,99,100,101,102,103,104,105,106,107,108,109,110,111,112,32,61,32,120,48]]) (.cons (.cons .left)) (eE (Q:=λr H=>r=dM [49] 0 0/\gi T fz sp 8 1000 (List.range 8) [([97,98,99,100,101,102,103,104,105,106,107,108,109,110,111,112],(Tr.v 0).fn)] [] H) lH.bg zD (w:=⟨[97,98,99,100,101,102,103,104,105,106,107,108,109,110,111,112],0,16⟩) (ws:=[⟨[61],17,18⟩,⟨[120,48],19,21⟩]) zK zK (λh=>?_) (λw2 yJ _ e Jv=>?_)) ?_
 ·exfalso;rcases h with h|h
  ·exact absurd h zD
  exact h _ _ rfl rfl
 ·cases e;refine⟨by decide,by decide,λr H hq=>?_⟩;have hr:Reads 8 (List.drop (18+p8 (List.drop 18 [97,98,99,100,101,102,103,104,105,106,107,108,109,110,111,112,32,61,32,120,48])) [97,98,99,100,101,102,103,104,105,106,107,108,109,110,111,112,32,61,32,120,48]) (.ok (.v 0) []):=p9 zD;rcases hq with⟨a,e,hb,_⟩|⟨t,l',hr',hq⟩
  ·exact absurd (hr.uniq hb) nofun
  have:=hr.uniq hr';cases this;rcases hq with⟨rfl,hS⟩|⟨_,_,hno⟩
  ·rw[GK];exact⟨rfl,hS⟩
  refine absurd (A3 zD zD (.refl _) (Tr.v 0).all (Tr.y6 (by show 0<8;decide)) (c:=1000) zD (λg hg=>?_)) hno;rcases hg with⟨p,hp,_⟩|hg
  ·cases hp
  exact Tr.dH.1 hg
 rintro _ H3 ⟨rfl,OX⟩;intro EE _;refine St.whole (r:=cu [49] 0 0) (.head _) rfl rfl (aE _ _ _) ?_;refine aa.fn (args:=#[ptr sp,ag [97,98,99,100,101,102,103,104,105,106,107,108,109,110,111,112,113,32,61,32,120,48]]) (.cons (.cons (.cons .left))) (eE (Q:=λr H=>r=dM [] 0 15/\gi T fz sp 8 1000 (List.range 8) [([97,98,99,100,101,102,103,104,105,106,107,108,109,110,111,112],(Tr.v 0).fn)] [] H) OX.bg zD (w:=⟨[97,98,99,100,101,102,103,104,105,106,107,108,109,110,111,112,113],0,17⟩) (ws:=[⟨[61],18,19⟩,⟨[120,48],20,22⟩]) zK zK (λh H hS=>⟨rfl,hS⟩) (λw2 yJ h _ _=>absurd h zD)) ?_;rintro _ H4 ⟨rfl,OW⟩;intro FV _;refine St.whole (r:=cu [] 0 15) (.head _) rfl rfl (aE _ _ _) ?_;intro QS Pe;refine Ld.u (v:=ag [49]) (.tail _ (.head _)) (ae.uM (b:=[49]) (Split.go rfl ?_));refine Ld.u (v:=nI 0) (.tail _ (.head _)) (ae.pn (a:=0) (b:=0) (az.mk (Split.go rfl ?_)));refine aA.whole (r:=cu [] 0 15) (.head _) rfl (aa.eq (bG [] 0 15 0 15 _) (Un.not (az.mk (JE.mk (Pe _ _ λ_=>Br.no ?_)))))
 /- kernels -/
 refine aa.fn (args:=#[ptr sp,ag [110,101,119,32,54,52,32,49,48,52,56,53,55,54]]) (.cons (.cons (.cons (.cons .left)))) (gE OW.bg (w:=⟨[110,101,119],0,3⟩) (a:=⟨[54,52],4,6⟩) (b:=⟨[49,48,52,56,53,55,54],7,14⟩) (x:=64) (y:=1048576) zD zK zK zK zK zK) ?_;rintro Ny H5 Oa;obtain⟨rfl,OV⟩:Ny=dM [] 0 0/\gi T fz sp 64 1048576 (List.range 64) [] [] H5:=Oa;intro QF _;refine St.whole (r:=cu [] 0 0) (.head _) rfl rfl (aE _ _ _) ?_;refine aa.fn (args:=#[ptr sp,ag [110,97,109,101,115]]) (.cons (.cons (.cons (.cons (.cons .left))))) (fR OV.bg (w:=⟨[110,97,109,101,115],0,5⟩) (ws:=[]) (i:=18) (sh:=[]) zD zK zK zK rfl rfl λkp mb K S af ns es ck C N av hI hF _=>mR hI hF) ?_;rintro _ H6 ⟨rfl,OU⟩;intro QE _;refine St.whole (r:=cu [] 0 0) (.head _) rfl rfl (aE _ _ _) ?_;refine aa.fn (args:=#[ptr sp,ag [110,101,119,32,49,32,50]]) (.cons (.cons (.cons (.cons (.cons (.cons .left)))))) (gE OU.bg (w:=⟨[110,101,119],0,3⟩) (a:=⟨[49],4,5⟩) (b:=⟨[50],6,7⟩) (x:=1) (y:=2) zD zK zK zK zK zK) ?_;rintro JH H7 N9;obtain⟨rfl,OT⟩:JH=dM [] 0 0/\gi T fz sp 1 2 (List.range 1) [] [] H7:=N9;intro QD _;refine St.whole (r:=cu [] 0 0) (.head _) rfl rfl (aE _ _ _) ?_;refine aa.fn (args:=#[ptr sp,ag [102,32,61,32,120,48]]) (.cons (.cons (.cons (.cons (.cons (.cons (.cons .left))))))) (wB (l:=[48]) OT.bg zD zD zK zK zD zD zD) ?_;rintro Nt H8 N8;obtain⟨rfl,GQ,OS⟩:Nt=dM [] 0 9/\∃tr,gi T fz sp 1 2 (List.range 1) [] tr H8:=by
  have hr:=p9 (n:=1) zD;rcases N8 with⟨a,e,hb,_⟩|⟨t,l',hr',hq⟩
  ·exact absurd (hr.uniq hb) nofun
  have:=hr.uniq hr';cases this;rcases hq with⟨rfl,hS⟩|⟨rfl,hS,_⟩
  ·exact(B1 hS).elim
  exact⟨rfl,hS⟩
 intro QC _;refine St.whole (r:=cu [] 0 9) (.head _) rfl rfl (aE _ _ _) ?_;intro PN LG;refine Ld.u (v:=nI 0) (.tail _ (.tail _ (.tail _ (.head _)))) (ae.pn (a:=0) (b:=0) (Split.go rfl ?_));refine Ld.u (v:=nI 0) (.tail _ (.tail _ (.head _))) (ae.pn (a:=0) (b:=0) (az.mk (Split.go rfl ?_)));refine Ld.u (v:=ag []) (.tail _ (.tail _ (.head _))) (ae.uM (b:=[]) (az.mk (Split.go rfl ?_)));refine Ld.u (v:=nI 0) (.tail _ (.head _)) (ae.pn (a:=0) (b:=0) (az.mk (Split.go rfl ?_)));refine aA.whole (r:=cu [] 0 9) (.head _) rfl (aa.eq (bG [] 0 9 0 9 _) (Un.not (az.mk (JE.mk (LG _ _ λ_=>Br.no ?_)))));intro QO Pc;refine aa.fn (args:=#[ptr sp,ag [110,101,119,32,54,53,32,53]]) (.cons (.cons (.cons (.cons (.cons (.cons (.cons (.cons .left)))))))) (gE OS.bg (w:=⟨[110,101,119],0,3⟩) (a:=⟨[54,53],4,6⟩) (b:=⟨[53],7,8⟩) (x:=65) (y:=5) zD zK zK zK zK zK) ?_;rintro v9 H9 N7;obtain⟨rfl,OR⟩:v9=dM [] 4 1/\gi T fz sp 1 2 (List.range 1) [] GQ H9:=N7;refine aa.eq (bG [] 4 1 4 1 _) (Un.not (Split.go rfl ?_));refine aa.fn (args:=#[ptr sp,ag [110,101,119,32,53,32,49]]) (.cons (.cons (.cons (.cons (.cons (.cons (.cons (.cons .left)))))))) (gE OR.bg (w:=⟨[110,101,119],0,3⟩) (a:=⟨[53],4,5⟩) (b:=⟨[49],6,7⟩) (x:=5) (y:=1) zD zK zK zK zK zK) ?_;rintro v10 Mb Kp;obtain⟨rfl,Ln⟩:v10=dM [] 6 1/\gi T fz sp 1 2 (List.range 1) [] GQ Mb:=Kp;refine aa.eq (bG [] 6 1 6 1 _) (Un.not (az.mk (Split.go rfl ?_)));refine aa.fn (args:=#[ptr sp,ag [110,101,119,32,53,32,49,48,52,56,53,55,55]]) (.cons (.cons (.cons (.cons (.cons (.cons (.cons (.cons .left)))))))) (gE Ln.bg (w:=⟨[110,101,119],0,3⟩) (a:=⟨[53],4,5⟩) (b:=⟨[49,48,52,56,53,55,55],6,13⟩) (x:=5) (y:=1048577) zD zK zK zK zK zK) ?_;rintro v11 F1 Ko;obtain⟨rfl,Lm⟩:v11=dM [] 6 1/\gi T fz sp 1 2 (List.range 1) [] GQ F1:=Ko;refine aa.eq (bG [] 6 1 6 1 _) (Un.not (az.mk (Split.go rfl ?_)));refine aa.fn (args:=#[ptr sp,ag [110,101,119,32,53]]) (.cons (.cons (.cons (.cons (.cons (.cons (.cons (.cons .left)))))))) (ju Lm.bg (i:=0) (p:=5) (w:=⟨[110,101,119],0,3⟩) (ws:=[⟨[53],4,5⟩]) zD zK zK zD zK) ?_;rintro _ Q2 ⟨rfl,Ll⟩;refine aa.eq (bG [] 5 14 5 14 _) (Un.not (az.mk (JE.mk (Pc _ _ λ_=>Br.no ?_))));intro QN Pb;refine aa.fn (args:=#[ptr sp,ag [119,105,110,100,111,119,32,53]]) (.cons (.cons (.cons (.cons (.cons (.cons (.cons (.cons .left)))))))) (fR Ll.bg (w:=⟨[119,105,110,100,111,119],0,6⟩) (ws:=[⟨[53],7,8⟩]) (i:=16) (sh:=[110]) zD zK zK zK zK zK λkp mb K S af ns es ck C N av hI hF iz=>pP (a:=(⟨[53],7,8⟩,5)) hI hF iz (.inr zD)) ?_;rintro _ Q1 ⟨rfl,Lj⟩;refine aa.eq (bG [] 7 1 7 1 _) (Un.not (Split.go rfl ?_));refine aa.fn (args:=#[ptr sp,ag [115,105,102,116,32,57,57]]) (.cons (.cons (.cons (.cons (.cons (.cons (.cons (.cons .left)))))))) (fR Lj.bg (w:=⟨[115,105,102,116],0,4⟩) (ws:=[⟨[57,57],5,7⟩]) (i:=14) (sh:=[110]) zD zK zK zK zK zK λkp mb K S af ns es ck C N av hI hF iz=>sB (a:=(⟨[57,57],5,7⟩,99)) hI hF iz zD) ?_;rintro _ F0 ⟨rfl,Li⟩;refine aa.eq (bG [] 0 1 0 1 _) (Un.not (az.mk (Split.go rfl ?_)));refine aa.fn (args:=#[ptr sp,ag [115,104,111,119,32,102]]) (.cons (.cons (.cons (.cons (.cons (.cons (.cons (.cons .left)))))))) (zY Li.bg (i:=6) (p:=5) (w:=⟨[115,104,111,119],0,4⟩) (ws:=[⟨[102],5,6⟩]) zD zK zK zD zK zK) ?_;rintro _ Q0 ⟨rfl,Lh⟩;refine aa.eq (bG [] 5 15 5 15 _) (Un.not (az.mk (Split.go rfl ?_)));refine aa.fn (args:=#[ptr sp,ag [108,105,118,101,32,110,111,119]]) (.cons (.cons (.cons (.cons (.cons (.cons (.cons (.cons .left)))))))) (ju Lh.bg (i:=11) (p:=5) (w:=⟨[108,105,118,101],0,4⟩) (ws:=[⟨[110,111,119],5,8⟩]) zD zK zK zD zK) ?_;rintro _ QZ ⟨rfl,Lg⟩;refine aa.eq (bG [] 5 14 5 14 _) (Un.not (az.mk (JE.mk (Pb _ _ λ_=>Br.no ?_))));intro QM Pa;refine aa.fn (args:=#[ptr sp,ag [32,102,32,120]]) (.cons (.cons (.cons (.cons (.cons (.cons (.cons (.cons .left)))))))) (eE (Q:=λr H=>r=dM [] 1 15/\gi T fz sp 1 2 (List.range 1) [] GQ H) Lg.bg zD (w:=⟨[102],1,2⟩) (ws:=[⟨[120],3,4⟩]) zK zK (λ_ H hS=>⟨rfl,hS⟩) (λw2 yJ _ e Jv=>by cases e;exact absurd Jv zD)) ?_;rintro _ QY ⟨rfl,Lf⟩;refine aa.eq (bG [] 1 15 1 15 _) (Un.not (Split.go rfl ?_));refine aa.fn (args:=#[ptr sp,ag [100,114,111,112]]) (.cons (.cons (.cons (.cons (.cons (.cons (.cons (.cons .left)))))))) (ju Lf.bg (i:=5) (p:=4) (w:=⟨[100,114,111,112],0,4⟩) (ws:=[]) zD zK zK zD zK) ?_;rintro _ QX ⟨rfl,Le⟩;refine aa.eq (bG [] 4 14 4 14 _) (Un.not (az.mk (Split.go rfl ?_)));refine aa.fn (args:=#[ptr sp,ag [102,32,61,32]]) (.cons (.cons (.cons (.cons (.cons (.cons (.cons (.cons .left)))))))) (eE (Q:=λr H=>r=dM [] 4 14/\gi T fz sp 1 2 (List.range 1) [] GQ H) Le.bg zD (w:=⟨[102],0,1⟩) (ws:=[⟨[61],2,3⟩]) zK zK (λh=>absurd h (by rintro(h|h);exact absurd h zD;exact h _ _ rfl rfl)) (λw2 yJ _ e Jv=>by cases e;exact⟨by decide,by decide,λr H hq=>Il hq⟩)) ?_;rintro _ QW ⟨rfl,Lc⟩;refine aa.eq (bG [] 4 14 4 14 _) (Un.not (az.mk (Split.go rfl ?_)));refine aa.fn (args:=#[ptr sp,ag [111,114,100,101,114,32,48,32,48]]) (.cons (.cons (.cons (.cons (.cons (.cons (.cons (.cons .left)))))))) (fR Lc.bg (w:=⟨[111,114,100,101,114],0,5⟩) (ws:=[⟨[48],6,7⟩,⟨[48],8,9⟩]) (i:=12) (sh:=[110,110]) zD zK zK zK zK zK λkp mb K S af ns es ck C N av hI hF iz=>rh hI hF iz zD zD) ?_;rintro _ Ma ⟨rfl,Lb⟩;refine aa.eq (bG [] 0 1 0 1 _) (Un.not (az.mk (JE.mk (Pa _ _ λ_=>Br.no ?_))));intro QL O9;refine aa.fn (args:=#[ptr sp,ag [101,118,97,108,32,102,32,120]]) (.cons (.cons (.cons (.cons (.cons (.cons (.cons (.cons .left)))))))) (ju Lb.bg (i:=7) (p:=7) (w:=⟨[101,118,97,108],0,4⟩) (ws:=[⟨[102],5,6⟩,⟨[120],7,8⟩]) zD zK zK zD zK) ?_;rintro _ L9 ⟨rfl,La⟩;refine aa.eq (bG [] 7 14 7 14 _) (Split.go rfl ?_);refine aa.fn (args:=#[ptr sp,ag [115,119,97,112,32,48]]) (.cons (.cons (.cons (.cons (.cons (.cons (.cons (.cons .left)))))))) (fR La.bg (w:=⟨[115,119,97,112],0,4⟩) (ws:=[⟨[48],5,6⟩]) (i:=13) (sh:=[110]) zD zK zK zK zK zK λkp mb K S af ns es ck C N av hI hF iz=>sA (a:=(⟨[48],5,6⟩,0)) hI hF iz zD) ?_;rintro _ Na ⟨rfl,K9⟩;refine aa.eq (bG [] 0 1 0 1 _) (az.mk (Split.go rfl ?_));refine aa.fn (args:=#[ptr sp,ag [110,97,109,101,115]]) (.cons (.cons (.cons (.cons (.cons (.cons (.cons (.cons .left)))))))) (fR K9.bg (w:=⟨[110,97,109,101,115],0,5⟩) (ws:=[]) (i:=18) (sh:=[]) zD zK zK zK zK zK λkp mb K S af ns es ck C N av hI hF iz=>mR hI hF) ?_;rintro _ QV ⟨rfl,K8⟩;refine BY.mk (v:=ag []) rfl (ae.qj (b:=[]) (az.mk (JE.mk (O9 _ _ λ_=>?_))));exact bH.mk (K8.out (X:=[_,_,_,_,_,_,_,_])) rfl
end
section
open Go.ChangeShapes Go.WideShapes Go.Deep
theorem GY{f:FuncId}{args:Array zV}{B Y:Hp}{x:Nat×Obj}{Q:zV->Prop}(hp:B.Perm (x::Y))(h:Rd zQ f args (x::Y) Q):Rd zQ f args B Q:=
 λg=>((h g).pre (.perm hp)).mono λe H' ⟨v,dP,h1,h2,h3,h4⟩=>⟨v,B,h1,h2.trans (by rw[h3];exact .perm hp.symm),rfl,h4⟩
theorem zl{a b:String×DataW Unit}{W:World}(h:laidMet zQ [a,b,("internal/strconv.uint64pow10",Lib.tabData .u64 (JQ.map λ(x:Nat)=>(x:Int)))] W):∃T fz,W.heap[1]? =some (.cells powC T fz):=by
 obtain⟨_,⟨_,_,_,_,_,_,_,_,_,_,⟨_,_,_,_,_,_,_,_,_,_,⟨g,t,cs,fuel,p,q,h1,h2,h3,h4,_⟩,_⟩,_⟩,_⟩:=h;obtain rfl:g=1:=(xbh ((show Tryz.prog.globalNamed "internal/strconv.uint64pow10" =some 1 by kernel_rfl).symm.trans h1)).symm;obtain rfl:t=335:=(xbh ((show(Tryz.prog.globals[1]?).map (·.type)=some 335 by kernel_rfl).symm.trans h2)).symm;have hc:=Lib.cells_of_tab (n:=20) (e:=40) (k:=.u64) zK zK zK zK h4;unfold World.var? at h3;rw[h1,xc1]at h3;split at h3
 ·rename_i cs' T fz hh;cases h3;refine⟨T,fz,?_⟩;rw[hh];have:cs=powC:=xch (by rw[hc];unfold powC;rw[xbP];rfl);rw[this]
 cases h3
theorem z5{a b:String×DataW Unit}{W:World}{f:FuncId}{args:Array zV}(hl:laidMet zQ [a,b,("internal/strconv.uint64pow10",Lib.tabData .u64 (JQ.map λ(x:Nat)=>(x:Int)))] W)(h:∀T fz Y,Rd zQ f args (eF T fz::Y) (· =.bool true)):Rd zQ f args (whole W) (· =.bool true):=by
 obtain⟨T,fz,hg⟩:=zl hl;have hm:eF T fz∈whole W:=by
  unfold whole;have hs:1<W.heap.size:=(xaz.1 hg).1;refine xaq.2 ⟨1,xa8.2 hs,?_⟩;rw[xai,hg];rfl
 obtain⟨s,t,e⟩:=xcM hm;exact GY (Y:=s++t) (by rw[e];exact xa5) (h T fz _)
end
end
end Go.Proofs
