import Derived.Test.YtgeffephefcdiaaGreatW5
import Derived.Test.YtgeffephefcdiaaGreatW1
import Derived.Test.YtgeffephefcdiaaGreatW4
set_option linter.unusedVariables false
set_option linter.unusedSimpArgs false
set_option linter.unusedSectionVars false
set_option maxRecDepth 100000
namespace Go.Proofs
open Go Go.Sx
open aA
section
theorem Ub:∀m:Nat,m<6->sat (1+m) (λy=>y.testBit 0)%Bx=(1<<<(1+m-1))%18446744073709551616:=by decide+kernel
theorem Ud:∀m:Nat,m<6->gD (1+m) [] 8 ⟨1,0,0,0,0⟩=0:=by decide
theorem Uc:∀m:Nat,m<6->(40+3)*2^(1+m)+2<=100000/\40*2^(1+m)<=2560:=by decide
theorem Ur{n nx nx1 nx2 rs1 rs2:Nat}{F F1 F2:FS}{x:fZ}{r q:Rp}(h1:Small n rs1 nx F x r F1 nx1)(h2:Small n rs2 nx F x q F2 nx2)(hr:r.e≠9)(hq:q.e≠9)(ho:(1<=x.op/\x.op<=16)\/x.op=19\/x.op=20):r.e=q.e/\r.h=q.h/\r.n=q.n/\F1=F2/\nx1=nx2:=by
 rcases h1 with⟨h,_⟩|⟨_,_,w1,_⟩
 ·exact absurd h hr
 rcases h2 with⟨h,_⟩|⟨_,_,w2,_⟩
 ·exact absurd h hq
 exact w1.uniq ho w2
set_option maxHeartbeats 400000 in
theorem uN{a room P3 gr rs:Nat}(aks:P3<256)(lZ:gr<256){steps:List fZ}{sv:zV}{Y:Hp}(hs:Sl 5 Y sv (steps.map fZ.cells))(hok:∀s∈steps,s.Ok)(cJ:steps.length<9223372036854775807)(ha:a<256)(hroom:room<256)(BI:rs<256):
  Rd zQ 12 #[.int .u8 (a:Int),.int .u8 (room:Int),.int .u8 (P3:Int),.int .u8 (gr:Int),.int .u8 (rs:Int),sv] Y (· =.bool true):=by
 have hm6:a%6<6:=xbv _ zD;obtain⟨n,hn⟩:∃n,n=1+a%6:=⟨_,rfl⟩;obtain⟨c,hc⟩:∃c:Cf,c=⟨1+a%6,2+room%100,P3%7,100+gr,rs%5⟩:=⟨_,rfl⟩;obtain⟨w,hw⟩:∃w:Cf,w=⟨1+a%6,100000,0,100,0⟩:=⟨_,rfl⟩;have hcO:c.Ok:=by
  rw[hc];exact⟨by simp only;omega,by simp only;omega,by simp only;omega,by simp only;omega,by simp only;omega,λ_=>by simp only;omega⟩
 have hwO:w.Ok:=by
  rw[hw];exact⟨by simp only;omega,by simp only;omega,by simp only;omega,by simp only;omega,by simp only;omega,λ_=>by simp only;omega⟩
 have XH:c.n=1+a%6:=by rw[hc]
 have hwn:w.n=1+a%6:=by rw[hw]
 refine aF λg=>Pa (aV.q (ae.U7 (b:=6) zD (ae.eZ (a:=1) (aV.q (ae.U7 (b:=100) zD (ae.eZ (a:=2) (ae.U7 (b:=7) zD (aV.q (ae.eZ (a:=100) (aV.q (ae.U7 (b:=5) zD (Build.mk (cs:=c.cells) (by rw[hc];kernel_rfl) ?_))))))))))));intro ij _;refine St.p (r:=c.cells) (Ap.one c.i) ?_;refine ax.q (r:=c.cells) ?_;refine aa.fn hnew (AG hcO) ?_;rintro v HS ⟨sp,rfl,Sj⟩;apply Ext.two;have ew:Ap.cells ⟨((1+a%6:Nat):Int),100000,0,100,0⟩=w.cells:=by rw[hw];rfl
 refine aa.eh (v:=.agg w.cells.toArray) .here (by rw[<-ew];exact KA _ _) (aa.fn hnew (AG hwO) ?_);rintro v HB ⟨bp,rfl,hB0⟩;refine Ext.two (ae.cD (cm.or (a:=decide ((0:Int)≠0)) (decide ((0:Int)≠0)) (λ_=>ae.cD ⟨rfl,rfl⟩) rfl λ_=>?_));refine Br.TQ zD ?_;obtain⟨hr6,hf6⟩:=Uc _ hm6;obtain⟨Y0,hY0⟩:∃Y0:Hp,Y0=HS++((ij,Obj.cells c.cells.toArray 23 zZ)::Y):=⟨_,rfl⟩;refine Build.mk (cs:=fZ.cells ⟨1,0,0,0,0⟩) zK ?_;have hlk:gD w.n [] 8 ⟨1,0,0,0,0⟩=0:=by rw[hwn];exact Ud _ hm6
 have hcap:w.cap=100000:=by rw[hw]
 have abO:∀k,k<=40->(k+3)*2^w.n+2<=w.cap:=λk hk=>by
  rw[hwn,hcap];exact xbG (Nat.add_le_add_right (xaV _ zO) 2) hr6
 refine aa.fn .left (Nc (x:=⟨1,0,0,0,0⟩) hB0 hwO zD zD (w:=8) rfl (D7 rfl).1 (D7 (x:=⟨1,0,0,0,0⟩) rfl).2 zD hlk (abO 0 zD) zD) ?_;rintro v HB1 ⟨rfl,hB1⟩;refine Build.mk (cs:=fZ.cells ⟨16,0,0,0,0⟩) zK (aa.fn .left (wS (x:=⟨16,0,0,0,0⟩) (f:=90) rfl rfl (Q:=λv H'=>v=eW 0 (-1) ((1<<<(1+a%6-1))%18446744073709551616) 0/\H'=HB1) (λv H h=>⟨_,_,_,_,h.1⟩) (Fc.mono (KS hB1) λv H' ⟨e1,e2⟩=>⟨?_,e1⟩)) ?_)
 ·rw[e2];show(if true=true then eW 0 (-1) (sat w.n (λy=>y.testBit 0)%Bx) 0 else _)=_;rw[xad rfl,hwn,Ub _ hm6]
 rintro v HB2 ⟨rfl,rfl⟩;intro b37 _ b39 _;refine St.p (r:=[i64 0,i64 ((0:Nat):Int),u64 0,i64 ((1:Nat):Int)]) (bC _ _ _ _) ?_;refine St.p (r:=[i64 0,i64 (-1),u64 ((1<<<(1+a%6-1))%18446744073709551616),i64 0]) (bC _ _ _ _) ?_;intro J43 h43;have go:∀HB',J43 [.bool false] ((b39,.cells [i64 0,i64 (-1),u64 ((1<<<(1+a%6-1))%18446744073709551616),i64 0].toArray 37 zZ)::(b37,.cells [i64 0,i64 ((0:Nat):Int),u64 0,i64 ((1:Nat):Int)].toArray 37 zZ)::(HB'++(HS++((ij,Obj.cells c.cells.toArray 23 zZ)::Y)))):=λHB'=>by
  refine h43 _ _ λ_=>Br.no ?_;have ew2:Ap.cells ⟨((1+a%6:Nat):Int),100000,0,100,0⟩=w.cells:=by rw[hw];rfl
  refine aa.eh (v:=.agg w.cells.toArray) .here (by rw[<-ew2];exact KA _ _) (aa.fn hnew (AG hwO) ?_);rintro v HW ⟨wp,rfl,j8⟩;apply Ext.two;obtain⟨Z,hZ⟩:∃Z:Hp,Z=(ij,Obj.cells c.cells.toArray 23 zZ)::Y:=⟨_,rfl⟩;have agw:(ij,Obj.cells c.cells.toArray 23 zZ)∈Z:=by rw[hZ];exact .head _
  have inY:∀y∈Y,y∈Z:=λy hy=>by rw[hZ];exact .tail _ hy
  have hZY:aL Z Y:=by rw[hZ];exact .tail
  rw[<-hZ];have hsz:∀(F:FS) (o:zL),F.length<=40->66*yb (1+a%6) F o+1<=33554432:=λF o hl=>by
   have h1:=Wl (n:=1+a%6) (F:=F) (o:=o);have h2:F.length*2^(1+a%6)<=40*2^(1+a%6):=xaV _ hl;omega
  refine⟨λvs H=>∃(i nx:Nat) (F:FS) (o tr o2 qQ:zL) (s:zV) (CL HB HS:Hp),vs=[s,i64 (i:Int)]/\i<=steps.length/\i<=40/\nx<=i/\F.length<=nx/\aN 3 .i64 s (iw (List.range nx)) CL/\kj sp c nx F o tr HS/\kj wp w nx F o2 qQ HB/\
    tr.length<=i*33554432/\qQ.length<=i*33554432/\H=CL++(HB++(HS++Z)),λvs _=>steps.length-bL vs 1,
   JE.of (.cU (.skip (.skip .right)) _) ⟨0,0,[],_,[],_,[],_,[],HW,HS,rfl,xaN _,xaN _,xag _,xag _,aN.nil,Sj,j8,xaN _,xaN _,rfl⟩,?_⟩
  clear hB0 hB1 Sj j8;rintro v1 v2 H ⟨i,nx,F,o,tr,o2,qQ,s,CL,HB,HS,⟨⟩,hi,af6,A6,hFl,hL,hS,hB,eG,rE,rfl⟩ gs;refine hs.bP ?_;rw[xaC];refine ae.fk (cm.and (decide (i<40)) (λ_=>ae.fk (b:=40) ⟨rfl,rfl⟩) rfl λgs=>?_);rw[<-xdC];refine Br.dec (λhlt=>?_) (λhge=>?_);rotate_left
  ·exact aa.pre (H':=HS++(HB++(CL++Z))) ((aL.B8 _ _ _).trans ((aL.cU (aL.B8 _ _ _) _).trans (aL.B8 _ _ _))) (aa.eh .here (Tv hS hB zO (hL.ints.mono λx hx=>xae _ hx)) (aZ.mk (.fT (.fT (.fT hZY))) rfl))
  obtain⟨ab7,rH⟩:=hlt;intro J64 EJ;have back:∀(kD:Nat) (F':FS) (o tr o2 qQ:zL) (s:zV) (CL HB HS:Hp),kD<=i+1->F'.length<=kD->aN 3 .i64 s (iw (List.range kD)) CL->kj sp c kD F' o tr HS->kj wp w kD F' o2 qQ HB->tr.length<=(i+1)*33554432->qQ.length<=(i+1)*33554432->J64 [s] (CL++(HB++(HS++Z))):=
   λkD F' o tr o2 qQ s CL HB HS h1 h2 h3 h4 h5 h6 h7=>EJ _ _ λ_=>by
    exact ae.inc (aC.mk ⟨i+1,kD,F',o,tr,o2,qQ,s,CL,HB,HS,rfl,ab7,rH,h1,h2,h3,h4,h5,h6,h7,rfl⟩ (by simp only[bL];omega))
  obtain⟨x,hx⟩:∃x,steps[i]? =some x:=⟨_,xaa ab7⟩;have hxO:=hok x (xav hx);have hxi:(steps.map fZ.cells)[i]? =some x.cells:=by rw[xau,hx];rfl
  have hkeys:∀i,dg F i=true->0<=i/\i<nx:=λi hi=>hS.has hi;refine au.sl hs hxi λp hp=>ax.at hp rfl zD (λy hy=>xab _ (xab _ (xab _ (inY y hy)))) ?_;intro b71 _;refine St.p (r:=x.cells) x.one (ax.q (r:=x.cells) (aa.eh (.cons .left) (C8 (x:=x) hL.ints) (Ext.two λb79 _=>(St.p (r:=x.cells) x.one ?_))));refine ax.q (r:=x.cells) ?_;have Xn:qQ.length<=(i+1)*33554432:=xbG rE (xaV _ (Nat.le_succ i));have hf1:=hsz F o zO;have Zo:=hsz F o2 zO;have F8:i*33554432<=40*33554432:=xaV _ af6;refine aa.fn (.cons (.cons (.app (.app .left)))) (uY hS hcO zO hxO.x zO (by rw[XH];omega)) ?_;rintro v HS' ⟨r,F',kD,o',cV,rfl,Ls,hb',hSm,_⟩;rw[XH]at hb' hSm;have x4:cV.length<=(i+1)*33554432:=by rw[xdQ];omega
  intro b85 _;refine St.p (r:=r.cells) r.one (ax.mk (vs:=c.cells.toArray) (.tail _ (.tail _ (.tail _ (xab _ (xab _ (xab _ agw)))))) (by simp[Cf.cells]) (by simp[Cf.cells]) ?_);refine Ld.f (v:=.int .u8 (x.op:Int)) (ax.q (r:=r.cells) (aa.eq (PO (r:=r) hcO.rs x.op _) ?_));rw[hSm.aa4];apply Un.not;have hneg:r.h<0\/xV nx x=true:=by
   cases hm:xV nx x with
   |true=>exact .inr rfl
   |false=>
    refine .inl ?_;rcases hSm with⟨_,h,_⟩|⟨_,_,hW,_⟩
    ·rw[h];decide
    rw[(hW.none hkeys hm).1];decide
  refine cm.or (a:= !true) false (λ_=>?_) rfl λgs=>?_
  ·refine Ld.f (v:=i64 r.h) (ae.geq (cm.and (!xV nx x) (λ_=>Un.not ⟨rfl,rfl⟩) rfl λ_=>⟨rfl,?_⟩));rcases hneg with h|h
   ·rw[xai zO];rfl
   rw[h,xco,xdL]
  refine Br.no (Ld.f (v:=i64 r.e) (ae.gI (Br.dec (λh9=>?_) (λh9=>?_))))
  ·rcases hSm with⟨_,hh,rfl,rfl,hop⟩|⟨hne,_⟩;rotate_left
   ·exact absurd h9 hne
   intro ahC aha;have go:ahC [.bool false] ((b85,.cells r.cells.toArray 37 zZ)::(b79,.cells x.cells.toArray 35 zZ)::(b71,.cells x.cells.toArray 35 zZ)::(CL++(HB++(HS'++Z)))):=by
    refine aha _ _ λ_=>Br.no ?_;exact JE.of (.skip (.skip .tail)) (back _ _ _ _ _ _ _ _ _ _ zO hFl hL Ls hB x4 Xn)
   refine Ld.f (v:=i64 r.h) (ae.cD ?_);rw[xai (by rw[hh];decide)];refine Split.go rfl (Ld.f (v:=.int .u8 (x.op:Int)) (ae.yL (b:=22) ?_));rcases hop with⟨h22,_⟩|⟨hop,_⟩
   ·rw[xai zO];exact Split.AQ rfl (aD.mk (aD.mk (JE.mk go)))
   rw[xal zO];refine Split.go rfl (Ld.f (v:=.int .u8 (x.op:Int)) (aa.eq (Df x.op _) ?_));have hmk:mkB x.op=true:=by unfold mkB;rw[xal hop.1,xal zO];rfl
   rw[hmk];exact Un.not (aD.mk (aD.mk (JE.mk go)))
  have hW:Want (1+a%6) nx F x r.e r.h r.n F' kD:=by
   rcases hSm with⟨h,_⟩|⟨_,_,hW,_⟩
   ·exact absurd h h9
   exact hW
  intro WT ado;have skip:F'=F->kD=nx->WT [.bool true] ((b85,.cells r.cells.toArray 37 zZ)::(b79,.cells x.cells.toArray 35 zZ)::(b71,.cells x.cells.toArray 35 zZ)::(CL++(HB++(HS'++Z)))):=λe1 e2=>by
   refine ado _ _ λ_=>Br.yes ?_;subst e1 e2;exact JE.of (.skip (.skip .tail)) (back _ _ _ _ _ _ _ _ _ _ zO hFl hL Ls hB x4 Xn)
  have Yn:xV nx x=true->((1<=x.op/\x.op<=16)\/x.op=19\/x.op=20)->WT [.bool false] ((b85,.cells r.cells.toArray 37 zZ)::(b79,.cells x.cells.toArray 35 zZ)::(b71,.cells x.cells.toArray 35 zZ)::(CL++(HB++(HS'++Z)))):=λhmv hop=>by
   refine ado _ _ λ_=>Br.no ?_;refine ax.q (r:=x.cells) (aa.fn (.cons (.cons (.cons (.app .left)))) (uY hB hwO zO hxO.x zO (by rw[hwn];omega)) ?_);rintro v HB' ⟨q,F2,nx2,o2',aeX,rfl,hB',sb,acQ,YU⟩;rw[hwn]at sb acQ;have hq9:q.e≠9:=YU (abO _ zO) zO;obtain⟨ee,eh,en,rfl,rfl⟩:=Ur hSm acQ h9 hq9 hop;intro aht _;refine St.p (r:=q.cells) q.one λahB ag9=>?_;have fin:ahB [.bool false] ((aht,.cells q.cells.toArray 37 zZ)::(b85,.cells r.cells.toArray 37 zZ)::(b79,.cells x.cells.toArray 35 zZ)::(b71,.cells x.cells.toArray 35 zZ)::(CL++(HB'++(HS'++Z)))):=by
    refine ag9 _ _ λ_=>Br.no ?_;refine Ld.f (v:=i64 r.h) (ae.geq ?_);have h2:aeX.length<=(i+1)*33554432:=by rw[xdQ];omega
    rcases hW.hh with⟨a1,a2,a3⟩|⟨a1,a2,a3⟩
    ·rw[xal zO];refine Br.yes (Ld.f (v:=i64 r.h) (hL.bP ?_));rw[ak,xaz];refine ae.cD (Br.F (Ld.f (v:=i64 q.h) (az.int (e:=3) (x:=q.h) zK zK zK λbx=>?_)));refine hL.rX (x:=q.h) (.cons (.cons (.cons (.cons (.cons .left))))) (by exact .head _) (by rw[ak,xaz];omega) (by rw[ak,xaz];omega) λs' CL' hL'=>?_;have e:iw (List.range nx)++[q.h]=iw (List.range kD):=by
      rw[<-eh,a1,a2,xb6,bY];rfl
     rw[e]at hL';exact JE.of (.skip (.skip (.skip (.skip .tail)))) (back _ _ _ _ _ _ _ _ _ _ zO zO hL' Ls hB' x4 h2)
    rw[xai zO];apply Br.no;subst a2;refine JE.of (.skip (.skip (.skip .tail))) (back _ _ _ _ _ _ _ _ _ _ zO zO hL Ls hB' x4 h2)
   refine Ld.f (v:=i64 q.e) (Ld.f (v:=i64 r.e) (ae.cD ?_));rw[xai (by rw[ee];exact λh=>h rfl)];refine Split.go rfl (Ld.f (v:=.int .u8 (x.op:Int)) (aa.eq (LU x.op _) ?_));have hlt:∀(b:Bool),(!(decide (q.h<0)==decide (r.h<0)))=false:=λ_=>by rw[eh];cases decide (q.h<0)<;>rfl
   cases hab:WE x.op with
   |true=>
    refine Split.go rfl (Ld.f (v:=u64 q.n) (Ld.f (v:=u64 r.n) (ae.yL (aD.mk (aD.mk ?_)))));show Split (.bool (decide (q.n≠r.n))) _ _ _;rw[xai (by rw[en];exact λh=>h rfl)];refine Split.go rfl (Ld.f (v:=i64 q.h) (ae.lss (Ld.f (v:=i64 r.h) (ae.lss (ae.abm ?_)))));rw[hlt true];exact aD.mk (JE.mk fin)
   |false=>
    refine Split.AQ rfl (aD.mk (aD.mk (Ld.f (v:=i64 q.h) (ae.lss (Ld.f (v:=i64 r.h) (ae.lss (ae.abm ?_)))))));rw[hlt true];exact aD.mk (JE.mk fin)
  apply Un.not;cases hmv:xV nx x with
  |false=>
   refine Split.AQ rfl (aD.mk ?_);obtain⟨_,e1,e2⟩:=hW.none hkeys hmv;exact JE.mk (skip e1 e2)
  |true=>
   refine Split.go rfl (Ld.f (v:=.int .u8 (x.op:Int)) (aa.eq (Df x.op _) (Un.not ?_)));cases hmk:mkB x.op with
   |true=>
    refine Split.AQ rfl (aD.mk (aD.mk (aD.mk ?_)));unfold mkB at hmk;rw[xaD,xar,xar]at hmk;exact JE.mk (Yn hmv zO)
   |false=>
    refine Split.go rfl (Ld.f (v:=.int .u8 (x.op:Int)) (aa.eq (LU x.op _) (Un.not (aD.mk ?_))));cases hab:WE x.op with
    |true=>
     refine Split.AQ rfl (aD.mk (aD.mk ?_));unfold WE at hab;rw[xa1,xa1,xa1,xa1,xar,xar,xar,xar,xar]at hab;exact JE.mk (Yn hmv zO)
    |false=>
     refine Split.go rfl (Ld.f (v:=.int .u8 (x.op:Int)) (ae.yL (b:=13) (aD.mk (aD.mk ?_))));by_cases h13:x.op=13
     ·show JE WT [.bool (decide (x.op≠13))] _;rw[xai zO];exact JE.mk (Yn hmv zO)
     show JE WT [.bool (decide (x.op≠13))] _;rw[xal h13];unfold mkB at hmk;rw[Bool.and_eq_false_iff,xa4,xa4]at hmk;obtain⟨_,e1,e2⟩:=hW.rest zO;exact JE.mk (skip e1 e2)
 refine DR.of (R:=(b39,.cells [i64 0,i64 (-1),u64 ((1<<<(1+a%6-1))%18446744073709551616),i64 0].toArray 37 zZ)::(b37,.cells [i64 0,i64 ((0:Nat):Int),u64 0,i64 ((1:Nat):Int)].toArray 37 zZ)::[]) (.cons (.cons aL.nil)) (Ld.f (v:=i64 0) (ae.cD (Br.F (Ld.f (v:=i64 ((0:Nat):Int)) ?_))));refine ae.cD (aD.mk (Br.TQ zD (Ld.f (v:=i64 ((1:Nat):Int)) (ae.cD (aD.mk (Br.TQ zD (Ld.f (v:=i64 0) (ae.cD (aD.mk (Br.TQ zD (Ld.f (v:=u64 ((1<<<(1+a%6-1))%18446744073709551616)) ?_)))))))))));refine ae.bZ (b:=1) (ae.nr (a:=1) (ae.cD (aD.mk (Br.TQ (xai (λh=>h rfl)) (Build.mk (cs:=fZ.cells ⟨13,0,0,0,0⟩) zK λG=>?_)))));refine aa.fn (.cons (.cons .left)) (wS (x:=⟨13,0,0,0,0⟩) (f:=87) rfl rfl (Q:=λv H'=>v=eW 0 (-1) 0 0) (λv H h=>⟨_,_,_,_,h⟩) (Fc.mono (Lx hB1) λv H' hq=>?_)) ?_
 ·rcases hq with⟨e1,_⟩|⟨_,e2,_⟩
  ·cases e1
  exact e2
 rintro v HB3 rfl;refine⟨.cons (.cons aL.nil),?_⟩;refine An.mk (off:=0) (cs:=[i64 0,i64 (-1),u64 0,i64 0].toArray) (v:=i64 0) rfl ?_;exact ae.cD (aD.mk (JE.mk (go HB3)))
end
section
open Go.ChangeShapes Go.WideShapes Go.Deep
variable {H:Type} {enc:TypeId×zV->H} {W:World} {base:Nat} {spare:Nat->Bool} {held:Bool}
theorem E8{fuel:Nat}{cs:List zV}{x:DataW H×List MemPlace}(hl:cs.length=5)(h:DataW.trod enc zQ W base spare held fuel 35 cs=some x):∃s:fZ,cs=s.cells/\s.Ok:=by
 obtain⟨xs,n,_,_,_,hx,hf⟩:=DataW.trod_struct Tryz.underlying35 h
 match cs,hl with
 | [c0,c1,c2,c3,c4],_=>
  have hx5:xs.length=5:=hx;have Q8:Tryz.prog.cellsOf 3=1:=by kernel_rfl
  have Q7:Tryz.prog.cellsOf 33=1:=by kernel_rfl
  have Vr:Tryz.prog.cellsOf 5=1:=by kernel_rfl
  have g0:DataW.trod enc zQ W base spare held n 5 (List.take (Tryz.prog.cellsOf 5) [c0,c1,c2,c3,c4])=xs[0]? :=hf 0 _ rfl;have g1:DataW.trod enc zQ W base spare held n 3 (List.take (Tryz.prog.cellsOf 3) [c1,c2,c3,c4])=xs[1]? :=hf 1 _ rfl;have g2:DataW.trod enc zQ W base spare held n 3 (List.take (Tryz.prog.cellsOf 3) [c2,c3,c4])=xs[2]? :=hf 2 _ rfl;have g3:DataW.trod enc zQ W base spare held n 3 (List.take (Tryz.prog.cellsOf 3) [c3,c4])=xs[3]? :=hf 3 _ rfl;have g4:DataW.trod enc zQ W base spare held n 33 (List.take (Tryz.prog.cellsOf 33) [c4])=xs[4]? :=hf 4 _ rfl;rw[Vr,xaa zO]at g0;rw[Q8,xaa zO]at g1;rw[Q8,xaa zO]at g2;rw[Q8,xaa zO]at g3;rw[Q7,xaa zO]at g4;simp only[List.take_succ_cons,List.take_zero]at g0 g1 g2 g3 g4;obtain⟨n0,e0,_,w0⟩:=DataW.trod_int Tryz.underlying5 g0;obtain⟨n1,e1,_,w1⟩:=DataW.trod_int Tryz.underlying3 g1;obtain⟨n2,e2,_,w2⟩:=DataW.trod_int Tryz.underlying3 g2;obtain⟨n3,e3,_,w3⟩:=DataW.trod_int Tryz.underlying3 g3;obtain⟨n4,e4,_,w4⟩:=DataW.trod_int Tryz.underlying33 g4;have b0:=bounds_u8 w0;have b1:=bounds_i64 w1;have b2:=bounds_i64 w2;have b3:=bounds_i64 w3;have b4:=bounds_u64 w4;simp only[xaw,xa2]at e0 e1 e2 e3 e4;have z0:((n0.toNat:Nat):Int)=n0:=by omega
  have z4:((n4.toNat:Nat):Int)=n4:=by omega
  exact⟨⟨n0.toNat,n1,n2,n3,n4.toNat⟩,by simp only[fZ.cells,u64];rw[e0,e1,e2,e3,e4,z0,z4],⟨by simp only;omega,by simp only;omega,by simp only;omega,by simp only;omega,by simp only;omega⟩⟩
theorem P5{fuel:Nat}{cs:List zV}{x:DataW H×List MemPlace}(h:DataW.trod enc zQ W base spare held fuel 35 cs=some x):∃ps,x.1=.agg ps/\ps.length=5:=by
 obtain⟨xs,n,_,rfl,_,hx,_⟩:=DataW.trod_struct Tryz.underlying35 h;exact⟨_,rfl,by rw[xaC];exact hx⟩
theorem MK{v:zV}{d:DataW H}{ps:List MemPlace}(h:DataW.Trod enc zQ W base spare held 24 v d ps)(hv:∃a n c,v=.slice a n c):
  ∃steps:List fZ,Sl 5 (whole W) v (steps.map fZ.cells)/\(∀s∈steps,s.Ok)/\((∀n∈d.weights zQ 24,n<=reachBytes)->steps.length<4398046511104)/\(steps.length=0\/∃es sp,d=.slice es sp/\steps.length=es.length/\∀e∈es,∃ps,e=.agg ps/\ps.length=5):=by
 obtain⟨fuel,hf⟩:=h;have k5:Tryz.prog.cellsOf 35=5:=by kernel_rfl
 obtain⟨v',rs,hcs,Xq,hw,hr⟩:=Mw Tryz.underlying24 k5 zD hf;have Nu:v'=v:=by
  obtain⟨a,n,c,rfl⟩:=hv;simpa[Value.cells]using hcs.symm
 subst Nu;have hone:∀r∈rs,∃s:fZ,r=s.cells/\s.Ok:=λr hm=>by
  obtain⟨i,hi,e⟩:=xbd.1 hm;obtain⟨f,y,_,_,hy,_⟩:=hr i r (by rw[xaa hi,e]);exact E8 (Xq.1 r hm) hy
 have hex:∃steps:List fZ,rs=steps.map fZ.cells/\∀s∈steps,s.Ok:=by
  clear Xq hw hr hcs;induction rs with
  |nil=>exact⟨[],rfl,by simp⟩
  |cons r rest ih=>
   obtain⟨l,h1,h2⟩:=ih λr hm=>hone r (by simp[hm]);obtain⟨s,h3,h4⟩:=hone r zI;exact⟨s::l,by simp[h1,h3],λm hm=>by rcases xam.1 hm with rfl|hm;exact h4;exact h2 m hm⟩
 obtain⟨steps,rfl,hok⟩:=hex;refine⟨steps,Xq,hok,λaI=>?_,?_⟩;rotate_left
 ·rcases hw with⟨h1,_⟩|⟨es,sp,h1,h2⟩
  ·exact .inl (by simpa using xcj List.length h1)
  rw[xaC]at h2;refine .inr ⟨es,sp,h1,h2.symm,λe he=>?_⟩;obtain⟨i,hi,rfl⟩:=xbd.1 he;obtain⟨f,y,gV,sp2,hy,FX,hy2⟩:=hr i _ (xaa (by rw[xaC];omega));have:es=gV:=by
   have e:=h1.symm.trans FX;simp only[DataW.slice.injEq]at e;exact e.1
  subst this;rw[xaa hi]at hy2;obtain⟨ps,h5,h6⟩:=P5 hy;exact⟨ps,(xbp hy2).trans h5,h6⟩
 rcases hw with⟨h1,_⟩|⟨es,sp,h1,h2⟩
 ·have:steps=[]:=by simpa using h1
  subst this;simp
 simp only at h1;have:=aI ((es.length+sp.length)*Tryz.prog.bytesOf 35) (by rw[h1,DataW.weights,Tryz.underlying24];exact xbS ..);rw[show Tryz.prog.bytesOf 35=40 by kernel_rfl]at this;have h3:reachBytes=140737488351232:=rfl;rw[xaC]at h2;omega
end
end Go.Proofs
