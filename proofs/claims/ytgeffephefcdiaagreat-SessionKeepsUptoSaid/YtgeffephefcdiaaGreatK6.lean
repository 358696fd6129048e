import Derived.Test.YtgeffephefcdiaaGreatK5
import Derived.Test.YtgeffephefcdiaaGreatK1
import Derived.Test.YtgeffephefcdiaaGreatK4
import Derived.Test.YtgeffephefcdiaaGreatRows
set_option linter.unusedVariables false
set_option linter.unusedSimpArgs false
set_option linter.unusedSectionVars false
set_option maxRecDepth 100000
namespace Go.Proofs
open Go Go.Sx
section
open aA
theorem abj{n rs nx nP:Nat}{F F':FS}{x:fI}{r:Rp}(h:Small n rs nx F x r F' nP\/Full rs nx F x r F' nP)(hk:¬(r.e=0/\x.op≠22/\x.op≠23/\x.op<14)):F'=F/\nP=nx:=by
 rcases h with(⟨e,hh,rfl,rfl,ht⟩|⟨e9,e8,hW,ht⟩)|⟨e,hh,rfl,rfl,_,ht⟩
 ·exact⟨rfl,rfl⟩
 ·unfold Want at hW;cases hm:eo x.op with
  |some p=>
   have hop:=vR hm;rw[hm]at hW;dsimp only at hW;split at hW
   ·omega
   exact⟨hW.2.2.2.1,hW.2.2.2.2⟩
  |none=>
   rw[hm]at hW;dsimp only at hW;split at hW
   ·split at hW
    ·omega
    exact⟨hW.2.2.2.1,hW.2.2.2.2⟩
   split at hW
   ·split at hW
    ·omega
    exact⟨hW.2.2.2.1,hW.2.2.2.2⟩
   exact⟨hW.2.1,hW.2.2.1⟩
 exact⟨rfl,rfl⟩
set_option maxHeartbeats 400000 in
theorem sk{ci:xQ}{steps:List fI}{sv pv:zV}{ps:zL}{Y:Hp}(hs:Sl 5 Y sv (steps.map fI.cells))(hok:∀s∈steps,s.Ok)(cD:steps.length<=174762)(hp:dk .u64 Y pv (iw ps))(hps:∀x∈ps,x<18446744073709551616)(Pj:ps.length<=1048576):
  Rd zQ 7 #[.agg ci.cells.toArray,sv,pv] Y (· =.bool true):=by
 have hpc:Value.cells pv=#[pv]:=by
  obtain⟨pa,pc,VK,_⟩:=Sl.cells hp;rw[VK];rfl
 refine aE λg=>TK λb1 _ b3 _=>?_;rw[hpc];refine aa.eq (GI _) (Un.not (Br.no (ay.q (r:=ci.cells) ?_)));refine aa.fn hnew (Cg ci (Q:=λv H=>(g9 ci≠0/\v=.tuple #[.pointer none,i64 (g9 ci)]/\H=[])\/(g9 ci=0/\∃(d:Cf) (sp:Nat),ci=d.i/\d.Ok/\v=.tuple #[ptr sp,i64 0]/\jZ sp d 0 [] (List.range d.n) [] H)) (λh=>.inl ⟨h,rfl,rfl⟩) (λd hd hok sp kp mb C hK=>.inr ⟨by rw[hd];exact hok.g9,d,sp,hd,hok,rfl,Lk hK⟩)) ?_;rintro w HS0 (⟨hne,rfl,rfl⟩|⟨h0,c,sp,rfl,hcO,rfl,Sk⟩)
 ·refine Ext.two λg8 _=>(St.q ?_);refine ae.cL (Br.T ?_ hne);refine Ld.q ?_;exact ae.jV (bg.mk (.skip (.skip .tail)) rfl)
 refine Ext.two λg8 _=>(St.q ?_);refine ae.cL (Br.F (hs.bP ?_));rw[xav];obtain⟨Z,hZ⟩:∃Z:Hp,Z=(g8,Obj.cells #[ptr sp] 26 zZ)::(b3,Obj.cells #[pv] 47 zZ)::Y:=⟨_,rfl⟩;have m1:(g8,Obj.cells #[ptr sp] 26 zZ)∈Z:=by rw[hZ];exact .head _
 have m2:(b3,Obj.cells #[pv] 47 zZ)∈Z:=by rw[hZ];exact .tail _ (.head _)
 have inY:∀y∈Y,y∈Z:=λy hy=>by rw[hZ];exact .tail _ (.tail _ hy)
 have hZY:aN Z Y:=by rw[hZ];exact .skip .tail
 refine⟨λvs H=>∃(i nx:Nat) (F:FS) (o tr:zL) (HS:Hp),vs=[i64 (i:Int)]/\i<=steps.length/\nx<=i/\F.length<=nx/\jZ sp c nx F o tr HS/\tr.length<=i*69205885/\H=HS++Z,λvs _=>steps.length-bJ vs 0,
  JE.of ?_ ⟨0,0,[],_,[],HS0,rfl,xaM _,xaj _,xaj _,Sk,xaM _,rfl⟩,?_⟩
 ·rw[hZ];exact(show aN _ (HS0++((g8,Obj.cells #[ptr sp] 26 zZ)::_::_::Y))from aN.P1 [_] HS0 _).trans (.cU (.cons (.cons .tail)) _)
 clear Sk;rintro v3 H ⟨i,nx,F,o,tr,HS,⟨⟩,hi,BJ,hFl,hS,eM,rfl⟩ gs;refine ae.eZ (Br.dec (λhlt=>?_) (λhge=>?_));rotate_left
 ·exact bg.mk (.fS hZY) rfl
 intro J26 h26;have on:∀(nP:Nat) (F':FS) (o' cT:zL) (T8:Hp),nP<=i+1->F'.length<=nP->jZ sp c nP F' o' cT T8->cT.length<=(i+1)*69205885->∀X,aN X (T8++Z)->J26 [] X:=λnP F' o' cT T8 h1 h2 h3 h4 X hX=>by
  refine h26 _ λ_=>?_;exact ae.inc (aC.of hX ⟨i+1,nP,F',o',cT,T8,rfl,hlt,h1,h2,h3,h4,rfl⟩ (by simp only[bJ];omega))
 obtain⟨x,hx⟩:∃x,steps[i]? =some x:=⟨_,xaa hlt⟩;have hxO:=hok x (xax hx);have hxi:(steps.map fI.cells)[i]? =some x.cells:=by rw[xat,hx];rfl
 refine av.sl hs hxi λp hq=>ay.at hq rfl zD (λy hy=>xab _ (inY y hy)) ?_;intro b32 _;refine St.p (r:=x.cells) x.one ?_;have hsz:∀k,k<=174762->(k+1)*(ps.length+2)<=1099511627776:=λk hk=>xbw (xbP (show k+1<=174763 by omega) (show ps.length+2<=1048578 by omega)) zD;refine aF.of rfl zK (aa.fn (args:=#[ptr g8,ptr b3]) (.cons .here) (yw hS zO (hsz _ zO) hp hps m1 m2 inY) ?_);rintro t1 H1 ⟨N1,rfl,TT⟩;refine Ld.mk (.tail _ (xab _ (xab _ m1))) rfl ?_;refine ay.q (r:=x.cells) ?_;have hf:=hS.ZG;refine aa.fn (.cons (.app .left)) (Mz hS hcO zO hxO.x zO) ?_;rintro v T8 ⟨r,F',nP,o',cT,rfl,NF,hb',hSm,_,VP⟩;have hT:=X7 hS.nodup hSm;have ha:=hT.a;have hb:=hT.b;have hk:=hT.k;have RU:=hT.f
 have Ds:cT.length<=(i+1)*69205885:=by rw[xdQ];omega
 intro b41 _;refine St.p (r:=r.cells) r.one ?_;refine Ld.f (v:=i64 r.e) ?_;refine ae.ik ?_;refine dc.and (decide (x.op≠22)) (λ_=>Ld.f (v:=.int .u8 (x.op:Int)) (ae.AQ (b:=22) ⟨rfl,rfl⟩)) rfl λ_=>?_;refine dc.and (decide (x.op≠23)) (λ_=>Ld.f (v:=.int .u8 (x.op:Int)) (ae.AQ (b:=23) ⟨rfl,rfl⟩)) rfl λ_=>?_;refine dc.and (decide (x.op<14)) (λ_=>Ld.f (v:=.int .u8 (x.op:Int)) (ae.eZ (b:=14) ⟨rfl,rfl⟩)) rfl λ_=>?_;rw[<-xcU,<-xcU,<-xcU];refine Br.dec (λhc=>?_) (λhc=>?_)
 ·exact JE.mk (on nP F' o' cT T8 zO zO NF Ds _ (.skip (.skip (.fS (.refl _)))))
 obtain⟨rfl,rfl⟩:=abj hSm zO;refine aF.of rfl zK (aa.fn (args:=#[ptr g8,ptr b3]) (.cons (.cons (.app .here))) (yw NF zO (hsz _ zO) hp hps m1 m2 inY) ?_);rintro t2 H2 ⟨N2,rfl,RA⟩;have ni:(k9 F' ps (Lm F')).length<=1099511627776:=by
  rw[sb];have:(Lm F').length=F'.length:=by unfold Lm;rw[(ir _).length_eq,xav]
  rw[this];exact xbw (xbP (Nat.le_succ _) (Nat.le_succ _)) (hsz F'.length zO)
 generalize k9 F' ps (Lm F')=L at*;refine TT.bP (RA.bP (ae.cL (Br.F (TT.bP (⟨λvs H=>∃j:Nat,vs=[i64 (j:Int)]/\j<=L.length/\H=N1++(N2++(T8++Z)),λvs _=>L.length-bJ vs 0,JE.of (.skip .tail) ⟨0,rfl,xaM _,rfl⟩,?_⟩)))));rintro w H ⟨j,⟨⟩,hj,rfl⟩ gs;refine ae.eZ (Br.dec (λfk=>?_) (λNx=>?_))
 ·have get:=xaa fk;exact TT.ints.ld get (λ_ h=>xad _ h) (RA.ints.ld get (λ_ h=>xab _ (xad _ h)) (ae.cL (Br.F (ae.inc (aC.mk ⟨j+1,rfl,fk,rfl⟩ (by simp only[bJ];omega))))))
 exact JE.mk (on _ _ o' cT T8 zO zO NF Ds _ (.fS (.fS (.refl _))))
section
open Go.ChangeShapes Go.WideShapes Go.Deep
variable {H:Type} {enc:TypeId×zV->H} {W:World} {base:Nat} {spare:Nat->Bool} {held:Bool}
theorem N9{fuel:Nat}{cs:List zV}{x:DataW H×List MemPlace}(hl:cs.length=5)(h:DataW.trod enc zQ W base spare held fuel 23 cs=some x):∃c:xQ,cs=c.cells/\c.str<256:=by
 obtain⟨xs,n,_,_,_,hx,hf⟩:=DataW.trod_struct Tryz.underlying23 h
 match cs,hl with
 | [c0,c1,c2,c3,c4],_=>
  have hx5:xs.length=5:=hx;have tB:Tryz.prog.cellsOf 3=1:=by kernel_rfl
  have AY:Tryz.prog.cellsOf 5=1:=by kernel_rfl
  have g0:DataW.trod enc zQ W base spare held n 3 (List.take (Tryz.prog.cellsOf 3) [c0,c1,c2,c3,c4])=xs[0]? :=hf 0 _ rfl;have g1:DataW.trod enc zQ W base spare held n 3 (List.take (Tryz.prog.cellsOf 3) [c1,c2,c3,c4])=xs[1]? :=hf 1 _ rfl;have g2:DataW.trod enc zQ W base spare held n 5 (List.take (Tryz.prog.cellsOf 5) [c2,c3,c4])=xs[2]? :=hf 2 _ rfl;have g3:DataW.trod enc zQ W base spare held n 3 (List.take (Tryz.prog.cellsOf 3) [c3,c4])=xs[3]? :=hf 3 _ rfl;have g4:DataW.trod enc zQ W base spare held n 3 (List.take (Tryz.prog.cellsOf 3) [c4])=xs[4]? :=hf 4 _ rfl;rw[tB,xaa zO]at g0;rw[tB,xaa zO]at g1;rw[AY,xaa zO]at g2;rw[tB,xaa zO]at g3;rw[tB,xaa zO]at g4;simp only[xd5,xdM]at g0 g1 g2 g3 g4;obtain⟨n0,e0,_,w0⟩:=DataW.trod_int Tryz.underlying3 g0;obtain⟨n1,e1,_,w1⟩:=DataW.trod_int Tryz.underlying3 g1;obtain⟨n2,e2,_,w2⟩:=DataW.trod_int Tryz.underlying5 g2;obtain⟨n3,e3,_,w3⟩:=DataW.trod_int Tryz.underlying3 g3;obtain⟨n4,e4,_,w4⟩:=DataW.trod_int Tryz.underlying3 g4;have b0:=bounds_i64 w0;have b1:=bounds_i64 w1;have b2:=bounds_u8 w2;have b3:=bounds_i64 w3;have b4:=bounds_i64 w4;simp only[xau,xa1]at e0 e1 e2 e3 e4;have z2:((n2.toNat:Nat):Int)=n2:=by omega
  exact⟨⟨n0,n1,n2.toNat,n3,n4⟩,by unfold xQ.cells;simp only;rw[e0,e1,e2,e3,e4,z2],by simp only;omega⟩
theorem E8{fuel:Nat}{cs:List zV}{x:DataW H×List MemPlace}(hl:cs.length=5)(h:DataW.trod enc zQ W base spare held fuel 35 cs=some x):∃s:fI,cs=s.cells/\s.Ok:=by
 obtain⟨xs,n,_,_,_,hx,hf⟩:=DataW.trod_struct Tryz.underlying35 h
 match cs,hl with
 | [c0,c1,c2,c3,c4],_=>
  have hx5:xs.length=5:=hx;have tB:Tryz.prog.cellsOf 3=1:=by kernel_rfl
  have Q9:Tryz.prog.cellsOf 33=1:=by kernel_rfl
  have AY:Tryz.prog.cellsOf 5=1:=by kernel_rfl
  have g0:DataW.trod enc zQ W base spare held n 5 (List.take (Tryz.prog.cellsOf 5) [c0,c1,c2,c3,c4])=xs[0]? :=hf 0 _ rfl;have g1:DataW.trod enc zQ W base spare held n 3 (List.take (Tryz.prog.cellsOf 3) [c1,c2,c3,c4])=xs[1]? :=hf 1 _ rfl;have g2:DataW.trod enc zQ W base spare held n 3 (List.take (Tryz.prog.cellsOf 3) [c2,c3,c4])=xs[2]? :=hf 2 _ rfl;have g3:DataW.trod enc zQ W base spare held n 3 (List.take (Tryz.prog.cellsOf 3) [c3,c4])=xs[3]? :=hf 3 _ rfl;have g4:DataW.trod enc zQ W base spare held n 33 (List.take (Tryz.prog.cellsOf 33) [c4])=xs[4]? :=hf 4 _ rfl;rw[AY,xaa zO]at g0;rw[tB,xaa zO]at g1;rw[tB,xaa zO]at g2;rw[tB,xaa zO]at g3;rw[Q9,xaa zO]at g4;simp only[xd5,xdM]at g0 g1 g2 g3 g4;obtain⟨n0,e0,_,w0⟩:=DataW.trod_int Tryz.underlying5 g0;obtain⟨n1,e1,_,w1⟩:=DataW.trod_int Tryz.underlying3 g1;obtain⟨n2,e2,_,w2⟩:=DataW.trod_int Tryz.underlying3 g2;obtain⟨n3,e3,_,w3⟩:=DataW.trod_int Tryz.underlying3 g3;obtain⟨n4,e4,_,w4⟩:=DataW.trod_int Tryz.underlying33 g4;have b0:=bounds_u8 w0;have b1:=bounds_i64 w1;have b2:=bounds_i64 w2;have b3:=bounds_i64 w3;have b4:=bounds_u64 w4;simp only[xau,xa1]at e0 e1 e2 e3 e4;have z0:((n0.toNat:Nat):Int)=n0:=by omega
  have z4:((n4.toNat:Nat):Int)=n4:=by omega
  exact⟨⟨n0.toNat,n1,n2,n3,n4.toNat⟩,by simp only[fI.cells,u64];rw[e0,e1,e2,e3,e4,z0,z4],⟨by simp only;omega,by simp only;omega,by simp only;omega,by simp only;omega,by simp only;omega⟩⟩
theorem P6{fuel:Nat}{cs:List zV}{x:DataW H×List MemPlace}(h:DataW.trod enc zQ W base spare held fuel 35 cs=some x):∃ps,x.1=.agg ps/\ps.length=5:=by
 obtain⟨xs,n,_,rfl,_,hx,_⟩:=DataW.trod_struct Tryz.underlying35 h;exact⟨_,rfl,by rw[xav];exact hx⟩
theorem ZR{v:zV}{d:DataW H}{ps:List MemPlace}(h:DataW.Trod enc zQ W base spare held 23 v d ps)(hv:∃cs,v=.agg cs/\cs.size=Tryz.prog.cellsOf 23):∃c:xQ,v=.agg c.cells.toArray/\c.str<256:=by
 obtain⟨fuel,hf⟩:=h;obtain⟨cs,rfl,hsz⟩:=hv;rw[show Tryz.prog.cellsOf 23=5 by kernel_rfl]at hsz;obtain⟨l⟩:=cs;obtain⟨s,hs,hok⟩:=N9 (cs:=l) hsz hf;subst hs;exact⟨s,rfl,hok⟩
theorem MJ{v:zV}{d:DataW H}{ps:List MemPlace}(h:DataW.Trod enc zQ W base spare held 24 v d ps)(hv:∃a n c,v=.slice a n c):
  ∃steps:List fI,Sl 5 (whole W) v (steps.map fI.cells)/\(∀s∈steps,s.Ok)/\((∀n∈d.weights zQ 24,n<=reachBytes)->steps.length<4398046511104)/\(steps.length=0\/∃es sp,d=.slice es sp/\steps.length=es.length/\∀e∈es,∃ps,e=.agg ps/\ps.length=5):=by
 obtain⟨fuel,hf⟩:=h;have k5:Tryz.prog.cellsOf 35=5:=by kernel_rfl
 obtain⟨v',rs,hcs,RC,hw,hr⟩:=yu Tryz.underlying24 k5 zD hf;have FZ:v'=v:=by
  obtain⟨a,n,c,rfl⟩:=hv;simpa[Value.cells]using hcs.symm
 subst FZ;have hone:∀r∈rs,∃s:fI,r=s.cells/\s.Ok:=λr hm=>by
  obtain⟨i,hi,e⟩:=xa8.1 hm;obtain⟨f,y,_,_,hy,_⟩:=hr i r (by rw[xaa hi,e]);exact E8 (RC.1 r hm) hy
 have hex:∃steps:List fI,rs=steps.map fI.cells/\∀s∈steps,s.Ok:=by
  clear RC hw hr hcs;induction rs with
  |nil=>exact⟨[],rfl,by simp⟩
  |cons r rest ih=>
   obtain⟨l,h1,h2⟩:=ih λr hm=>hone r (by simp[hm]);obtain⟨s,h3,h4⟩:=hone r zI;exact⟨s::l,by simp[h1,h3],λm hm=>by rcases xak.1 hm with rfl|hm;exact h4;exact h2 m hm⟩
 obtain⟨steps,rfl,hok⟩:=hex;refine⟨steps,RC,hok,λaI=>?_,?_⟩;rotate_left
 ·rcases hw with⟨h1,_⟩|⟨es,sp,h1,h2⟩
  ·exact .inl (by simpa using xcb List.length h1)
  rw[xav]at h2;refine .inr ⟨es,sp,h1,h2.symm,λe he=>?_⟩;obtain⟨i,hi,rfl⟩:=xa8.1 he;obtain⟨f,y,gR,sp2,hy,FX,hy2⟩:=hr i _ (xaa (by rw[xav];omega));have:es=gR:=by
   have e:=h1.symm.trans FX;simp only[DataW.slice.injEq]at e;exact e.1
  subst this;rw[xaa hi]at hy2;obtain⟨ps,h5,h6⟩:=P6 hy;exact⟨ps,(xbm hy2).trans h5,h6⟩
 rcases hw with⟨h1,_⟩|⟨es,sp,h1,h2⟩
 ·have:steps=[]:=by simpa using h1
  subst this;simp
 simp only at h1;have:=aI ((es.length+sp.length)*Tryz.prog.bytesOf 35) (by rw[h1,DataW.weights,Tryz.underlying24];exact xbI ..);rw[show Tryz.prog.bytesOf 35=40 by kernel_rfl]at this;have h3:reachBytes=140737488351232:=rfl;rw[xav]at h2;omega
end
end
section
open aA
section
open Go.ChangeShapes Go.WideShapes Go.Deep
variable {H:Type} {enc:TypeId×zV->H} {W:World} {base:Nat} {spare:Nat->Bool} {held:Bool}
theorem PE{v:zV}{d:DataW H}{ps:List MemPlace}(h:DataW.Trod enc zQ W base spare held 47 v d ps)(hv:∃a n c,v=.slice a n c):
  ∃l:zL,dk .u64 (whole W) v (iw l)/\(∀x∈l,x<18446744073709551616)/\(l.length=0\/∃es sp,d=.slice es sp/\l.length=es.length):=by
 obtain⟨fuel,hf⟩:=h;have k3:Tryz.prog.cellsOf 33=1:=by kernel_rfl
 obtain⟨v',l,hcs,hi,hwf,hw⟩:=Mw Tryz.underlying47 Tryz.underlying33 k3 hf;have FZ:v'=v:=by
  obtain⟨a,n,c,rfl⟩:=hv;simpa[Value.cells]using hcs.symm
 subst FZ;have hb:∀x∈l,0<=x/\x<=18446744073709551615:=λx hx=>bounds_u64 (hwf x hx);have e:iw (l.map Int.toNat)=l:=by
  unfold iw;rw[xbM]
  conv=>rhs;rw[<-xed l]
  apply xbg;intro x hx;have:=hb x hx;show((x.toNat:Nat):Int)=x;omega
 refine⟨l.map Int.toNat,by rw[e];exact hi,λx hx=>?_,?_⟩
 ·obtain⟨y,hy,rfl⟩:=xam.1 hx;have:=hb y hy;omega
 rw[xav];rcases hw with⟨h1,_⟩|⟨es,sp,h1,h2⟩
 ·exact .inl (by subst h1;rfl)
 exact .inr ⟨es,sp,h1,by omega⟩
end
end
end Go.Proofs
namespace Go.Proofs.YtgeffephefcdiaaGreat.S9
theorem one_le{H:Type}(d:DataW H):1<=Rows.uptoBulk d:=by
 cases d with
 |lit l=>cases l<;>simp[Rows.uptoBulk]
 |nil=>simp[Rows.uptoBulk]
 |ptr d=>simp[Rows.uptoBulk]
 |slice elems spare=>simp[Rows.uptoBulk]
 |agg parts=>simp[Rows.uptoBulk]
 |iface t d=>simp[Rows.uptoBulk]
 |map entries=>simp[Rows.uptoBulk]
 |held h=>simp[Rows.uptoBulk]
theorem KZ{H:Type}{d:DataW H}{l:List (DataW H)}(h:d∈l):Rows.uptoBulk d<=Rows.uptoBulkAll l:=by
 induction l with
 |nil=>cases h
 |cons x r ih=>
  simp only[Rows.uptoBulkAll];cases xak.1 h with
  |inl e=>subst e;omega
  |inr e=>have:=ih e;omega
theorem append{H:Type}(l r:List (DataW H)):Rows.uptoBulkAll (l++r)=Rows.uptoBulkAll l+Rows.uptoBulkAll r:=by
 induction l with
 |nil=>simp[Rows.uptoBulkAll]
 |cons x l ih=>simp only[xaO,Rows.uptoBulkAll,ih];omega
theorem length_le{H:Type}(l:List (DataW H)):l.length<=Rows.uptoBulkAll l:=by
 induction l with
 |nil=>simp[Rows.uptoBulkAll]
 |cons x r ih=>have:=one_le x;simp only[Rows.uptoBulkAll,xaw];omega
theorem Qe{H:Type}(elems spare:List (DataW H)):elems.length+spare.length+1<=Rows.uptoBulk (.slice elems spare):=by
 have h1:=length_le elems;have h2:=length_le spare;simp only[Rows.uptoBulk];omega
theorem Ch{H:Type}(elems spare:List (DataW H)):Rows.uptoBulkAll elems+1<=Rows.uptoBulk (.slice elems spare):=by
 simp only[Rows.uptoBulk];omega
theorem bound{H:Type}{l:List (DataW H)}(hk:Rows.uptoSmall H l=true):Rows.uptoBulkAll l<=1048576:=by
 simpa[Rows.uptoSmall]using hk
theorem ag1{H:Type}{es:List (DataW H)}(h:∀e∈es,∃ps,e=.agg ps/\ps.length=5):6*es.length<=Rows.uptoBulkAll es:=by
 induction es with
 |nil=>simp[Rows.uptoBulkAll]
 |cons x r ih=>
  obtain⟨ps,rfl,h5⟩:=h x zI;have h1:=ih λe he=>h e (by simp[he]);have h2:=length_le ps;simp only[Rows.uptoBulkAll,Rows.uptoBulk,xaw];omega
theorem Ye{H:Type}{ds:List (DataW H)}(hk:Rows.uptoSmall H ds=true){d:DataW H}(hd:d∈ds){n:Nat}(h:n=0\/∃es sp,d=.slice es sp/\n=es.length/\∀e∈es,∃ps,e=.agg ps/\ps.length=5):n<=174762:=by
 rcases h with rfl|⟨es,sp,rfl,rfl,h⟩
 ·omega
 have h1:=bound hk;have h2:=KZ hd;have h3:=Ch es sp;have h4:=ag1 h;omega
theorem aeK{H:Type}{ds:List (DataW H)}(hk:Rows.uptoSmall H ds=true){d:DataW H}(hd:d∈ds){n:Nat}(h:n=0\/∃es sp,d=.slice es sp/\n=es.length):n<=1048576:=by
 rcases h with rfl|⟨es,sp,rfl,he⟩
 ·omega
 have h1:=bound hk;have h2:=KZ hd;have h3:=Qe es sp;omega
end Go.Proofs.YtgeffephefcdiaaGreat.S9
