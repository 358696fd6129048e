import Derived.Test.YtflhdclplgjbbaaGreatR5
import Derived.Test.YtflhdclplgjbbaaGreatR1
import Derived.Test.YtflhdclplgjbbaaGreatR4
import Derived.Test.YtflhdclplgjbbaaGreatRows
set_option linter.unusedVariables false
set_option linter.unusedSimpArgs false
set_option linter.unusedSectionVars false
set_option maxRecDepth 100000
namespace Go.Proofs
open Go Go.Sx
open au
theorem abT(n:Nat):(uS.cells ⟨(n:Int),1048576,0,100,0⟩)=(Cf.mk n 1048576 0 100 0).cells:=rfl
set_option maxHeartbeats 800000 in
theorem uk{ci:uS}{steps:List dD}{sv:zV}{Y:Hp}(hs:Sl 5 Y sv (steps.map dD.cells))(hok:∀s∈steps,s.Ok)(cI:steps.length<=174762):
  Rd zQ 4 #[.agg ci.cells.toArray,sv] Y (· =.bool true):=by
 refine aI λg=>T4 λb1 _=>?_;refine aa.eq (GF _) (Un.not (Br.no (az.q (r:=ci.cells) ?_)));refine aa.fn hnew (ve ci (Q:=λv H=>(gO ci≠0/\v=.tuple #[.pointer none,i64 (gO ci)]/\H=[])\/(gO ci=0/\∃(d:Cf) (sp:Nat),ci=d.i/\d.Ok/\v=.tuple #[ptr sp,i64 0]/\k9 sp d 0 [] (List.range d.n) [] H)) (λh=>.inl ⟨h,rfl,rfl⟩) (λd hd hok sp kp mb C hK=>.inr ⟨by rw[hd];exact hok.gO,d,sp,hd,hok,rfl,Bc hK⟩)) ?_;rintro w HS0 (⟨hne,rfl,rfl⟩|⟨h0,c,sp,rfl,hcO,rfl,Sv⟩)
 ·refine Ext.two (ae.cD (Br.T ?_ hne));exact ae.jW (bc.mk .tail rfl)
 refine Ext.two (ae.cD (Br.F ?_));obtain⟨d,hd⟩:∃d:Cf,d=⟨c.n,1048576,0,100,0⟩:=⟨_,rfl⟩;have hdO:d.Ok:=by
  obtain⟨h1,h2,h3,h4,h5,h6⟩:=hcO;rw[hd];exact⟨h1,by dsimp only;decide,by dsimp only;decide,by dsimp only;decide,by dsimp only;decide,by intro h;cases h⟩
 have hdn:d.n=c.n:=by rw[hd]
 refine Ld.f (v:=i64 c.n) (aa.eh .here (CE c.n _) ?_);rw[abT,<-hd];refine aa.fn hnew (ve d.i (Q:=λv H=>∃sq,v=.tuple #[ptr sq,i64 0]/\k9 sq d 0 [] (List.range d.n) [] H) (λh=>absurd hdO.gO h) λd' dP ya sq kp mb C hK=>?_) ?_
 ·obtain rfl:d'=d:=Cf.acm dP.symm;exact⟨sq,rfl,Bc hK⟩
 rintro w HT0 ⟨sq,rfl,hT0⟩;refine Ext.two (ae.cD (Br.F ?_));refine Build.mk (cs:=[ptr sp,ptr sq,.slice none 0 0]) zK ?_;intro qS _;refine hs.bV ?_;rw[xaE];obtain⟨Z,hZ⟩:∃Z:Hp,Z=(b1,Obj.cells c.i.cells.toArray 23 zZ)::Y:=⟨_,rfl⟩;have inY:∀y∈Y,y∈Z:=λy hy=>by rw[hZ];exact .tail _ hy
 have hZY:aM Z Y:=by rw[hZ];exact .tail
 let Inv:Nat->Hp->Prop:=λi H=>∃(to:zL) (nb:Nat) (Fa Fb:FS) (oa ob ta tb:zL) (HA HB CT:Hp) (tv:zV),i<=steps.length/\k9 sp c to.length Fa oa ta HA/\k9 sq d nb Fb ob tb HB/\Sync to nb Fa Fb/\to.length<=i/\nb<=i/\ta.length<=i*69206017/\tb.length<=i*69206017/\
  aS 3 .i64 tv (iw to) CT/\H=(qS,.cells #[ptr sp,ptr sq,tv] 45 zZ)::(CT++(HA++(HB++Z)))
 refine⟨λvs H=>∃i:Nat,vs=[i64 (i:Int)]/\Inv i H,λvs _=>steps.length-bN vs 0,
  JE.of (H':=(qS,.cells #[ptr sp,ptr sq,.slice none 0 0] 45 zZ)::([]++(HS0++(HT0++Z)))) ?_ ⟨0,rfl,[],0,[],[],_,_,[],[],HS0,HT0,[],_,xaN _,Sv,hT0,⟨rfl,.nil,nofun,nofun⟩,xaj _,xaj _,xaN _,xaN _,aS.nil,rfl⟩,?_⟩
 ·rw[hZ];exact .cons (.perm (by rw[xbS,<-xai,<-xai];exact List.Perm.append_right _ xbb))
 clear Sv hT0;rintro w H ⟨i,⟨⟩,to,nb,Fa,Fb,oa,ob,ta,tb,HA,HB,CT,tv,hi,hSA,hSB,hY,hto,hnb,hta,htb,hT,rfl⟩ gs;refine ae.fC (Br.dec (λhlt=>?_) (λhge=>?_));rotate_left
 ·exact bc.mk (.skip (.eY (.eY (.eY hZY)))) rfl
 obtain⟨x,hx⟩:∃x,steps[i]? =some x:=⟨_,xaa hlt⟩;have hxO:=hok x (xav hx);have hxi:(steps.map dD.cells)[i]? =some x.cells:=by rw[xat,hx];rfl
 have hfa:=hSA.SG;have hfb:=hSB.SG;intro J32 KQ;have mL:∀{H H':Hp},aM H H'->Inv (i+1) H'->J32 [] H:=λhe hI=>KQ _ λ_=>ae.inc (aC.of he ⟨i+1,rfl,hI⟩ (by simp only[bN];omega));refine av.sl hs hxi λp hp=>az.at hp rfl zD (λy hy=>.tail _ (xac _ (xac _ (xac _ (inY y hy))))) ?_;intro b38 _;refine St.p (r:=x.cells) x.one ?_;refine Ld.f (v:=.int .u8 (x.op:Int)) (ae.dx (b:=23) (cS.or (decide (x.op=22)) (λ_=>Ld.f (v:=.int .u8 (x.op:Int)) (ae.dx (b:=22) ⟨rfl,rfl⟩)) rfl λ_=>?_));rw[<-xa4];refine Br.dec (λzl=>?_) (λzl=>?_)
 ·refine az.q (r:=x.cells) (aa.fn (.cons (.cons (.app .left))) (E7 hSA hcO zO hxO.x zO) ?_);rintro v HA' ⟨r,T8,XP,XN,ta',rfl,Ni,hba,hDa⟩;intro b52 _;refine St.p (r:=r.cells) r.one ?_;refine Ld.f (v:=i64 r.h) ?_;refine ae.cD (Br.F (JE.mk ?_) ?_)
  ·obtain⟨_,rfl,rfl⟩:=hDa.pL zO;exact mL (.skip .tail) ⟨to,nb,_,Fb,XN,ob,ta',tb,HA',HB,CT,tv,hlt,Ni,hSB,hY,by omega,by omega,by omega,xbI htb (xaX _ (Nat.le_succ i)),hT,rfl⟩
  rw[(hDa.pL zO).1];decide
 refine DR.of (R:=[(b38,.cells x.cells.toArray 35 zZ)]) (.cons λ_ _ h=>h.bg) ?_;refine az.q (r:=x.cells) (az.q (r:=x.cells) λF=>aa.fn (.cons (.cons (.app .left))) (E7 hSA hcO zO hxO.x zO) ?_);rintro v HA' ⟨r,T8,XP,XN,ta',rfl,Ni,hba,hDa⟩;refine⟨.cons λ_ _ h=>h.bg,λF=>aa.eh .here (L1 (.tail _ (.head _)) (hT.ints.mono λy hy=>.tail _ (.tail _ (xae _ hy))) x) ?_⟩;intro F;refine aa.fn (.cons (.cons (.app (.app .left)))) (E7 hSB hdO zO (show(ew to x).x<_ from hxO.x) zO) ?_;rintro v HB' ⟨q,YC,Uf,ob',tb',rfl,WI,hbb,hDb⟩;have hR:=Qx hY hdn zO hDa hDb;have hna:=hDa.nx;have als:=hDb.nx;intro b70 _ b72 _ F;refine St.p (r:=r.cells) r.one ?_;intro F;refine St.p (r:=q.cells) q.one ?_;refine Ld.f (v:=i64 r.e) ?_;refine ae.gJ ?_;rcases hR with⟨h9,hh,rfl,rfl,hq⟩|⟨h9,tO⟩|⟨h9,tO,he,hn,hq⟩
 ·refine Br.T ?_ h9;intro J81 h81;rcases hq with⟨e0,eh,rfl,gg,rfl⟩|⟨e89,rfl,rfl⟩
  ·obtain⟨u1,u2⟩:=hY.afx gg;refine Ld.f (v:=i64 q.e) (ae.gJ (Split.go (xam e0) ?_));refine Ld.f (v:=i64 q.h) (ae.geq (aH.mk (Split.go (xam zO) ?_)));refine Ld.f (v:=i64 q.h) (Build.mk (cs:=(dD.mk 13 q.h 0 0 0).cells) zK ?_);refine aa.fn (.cons (.cons (.cons (.cons (.app (.app .left)))))) (aap WI (a:=q.h) (by rw[eh];exact u1)) ?_;rintro v HB2 ⟨rfl,iY⟩;rw[eh,u2]at iY;refine Az.mk (v:=i64 0) rfl (ae.cD (aH.mk (JE.mk (h81 _ _ λ_=>?_))));refine Br.no (Ld.f (v:=i64 q.e) (ae.cD (cS.and (decide (q.e≠9)) (λ_=>Ld.f (v:=i64 q.e) (ae.cD ⟨rfl,rfl⟩)) rfl λ_=>?_)));refine cS.and (decide (q.e≠8)) (λ_=>Ld.f (v:=i64 q.e) (ae.cD ⟨rfl,rfl⟩)) rfl λ_=>?_;rw[e0];refine Br.no (JE.mk (mL (.skip (.skip .tail)) ⟨to,nb+1,_,_,XN,ob',ta',[],HA',HB2,CT,tv,hlt,Ni,iY,⟨hY.e,hY.nd,λh hh=>Nat.lt_succ_of_lt (hY.lt h hh),hY.rg⟩,by omega,by omega,by omega,xaN _,hT,rfl⟩))
  refine Ld.f (v:=i64 q.e) (ae.gJ (Split.QL (xal zO) ?_));refine aH.mk (aH.mk (JE.mk (h81 _ _ λ_=>?_)));refine Br.no (Ld.f (v:=i64 q.e) (ae.cD (cS.and (decide (q.e≠9)) (λ_=>Ld.f (v:=i64 q.e) (ae.cD ⟨rfl,rfl⟩)) rfl λ_=>?_)));refine cS.and (decide (q.e≠8)) (λ_=>Ld.f (v:=i64 q.e) (ae.cD ⟨rfl,rfl⟩)) rfl λ_=>?_;refine Br.no' (by rcases e89 with e|e<;>rw[e]<;>rfl) (JE.mk (mL (.skip (.skip .tail)) ⟨to,Uf,_,_,XN,ob',ta',tb',HA',HB',CT,tv,hlt,Ni,WI,hY,by omega,by omega,by omega,by omega,hT,rfl⟩))
 ·refine Br.F ?_ h9;refine Ld.f (v:=i64 q.e) (ae.gJ (Br.T ?_ tO));exact bc.mk (.skip (.skip (.skip (.skip (.eY (.eY (.eY hZY))))))) rfl
 refine Br.F ?_ h9;refine Ld.f (v:=i64 q.e) (ae.gJ (Br.F ?_ tO));refine Ld.f (v:=i64 r.e) (Ld.f (v:=i64 q.e) (ae.cD (Br.F ?_ (λh=>h he))));intro aik ahM;have acf:∀(v:zV) (X:Hp),Inv (i+1) ((qS,.cells #[ptr sp,ptr sq,v] 45 zZ)::X)->
   aik [] ((b72,.cells q.cells.toArray 37 zZ)::(b70,.cells r.cells.toArray 37 zZ)::(b38,.cells x.cells.toArray 35 zZ)::(qS,.cells #[ptr sp,ptr sq,v] 45 zZ)::X):=λv X hI=>by
  refine ahM _ λ_=>?_;refine Ld.f (v:=u64 r.n) (Ld.f (v:=u64 q.n) (ae.x5 (cS.and (decide (x.op≠17)) (λ_=>Ld.f (v:=.int .u8 (x.op:Int)) (ae.x5 (b:=17) ⟨rfl,rfl⟩)) rfl λ_=>?_)));refine cS.and (decide (x.op≠18)) (λ_=>Ld.f (v:=.int .u8 (x.op:Int)) (ae.x5 (b:=18) ⟨rfl,rfl⟩)) rfl λ_=>?_;refine cS.and (decide (x.op≠21)) (λ_=>Ld.f (v:=.int .u8 (x.op:Int)) (ae.x5 (b:=21) ⟨rfl,rfl⟩)) rfl λ_=>?_;refine Br.no' ?_ (JE.mk (mL (.skip (.skip .tail)) hI));rw[Bool.eq_false_iff];simp only[ne_eq,xaF,xaJ];rintro⟨⟨⟨h1,h2⟩,h3⟩,h4⟩;exact h1 (hn h2 h3 h4)
 refine Ld.f (v:=i64 r.h) (ae.geq ?_);rcases hq with⟨e1,e2,rfl,rfl,hY'⟩|⟨e1,rfl,rfl,hY'⟩
 ·refine Br.T ?_ zO;refine Ld.f (v:=i64 r.h) (Ld.n (v:=tv) (hT.bV ?_));rw[aq];refine ae.cD (Br.F ?_ (λh=>h e1));refine DR.self (Ld.n (v:=tv) (Ld.f (v:=i64 q.h) λF=>?_));rw[e2];refine ax.int (e:=3) (x:=(nb:Int)) zK zK zK λbx=>⟨.tail,λF=>?_⟩;refine hT.rZ (x:=(nb:Int)) (.cons (.cons (.cons (.cons (.cons .left))))) (by exact .head _) (by rw[aq];omega) (by rw[aq];omega) λv' N' cz=>?_;refine Nil.ptr (ai.mk λF=>St.one (c':=#[ptr sp,ptr sq,v']) (by exact .tail (.tail (.tail (.tail (.head _))))) cz.one zI rfl (JE.of .tail (acf v' _ ?_)));exact⟨to++[nb],nb+1,_,_,XN,ob',ta',tb',HA',HB',N',v',hlt,by rw[xaf];exact Ni,WI,hY',by rw[xaf,xb3];omega,by omega,by omega,by omega,by rw[cC];exact cz,rfl⟩
 refine Br.F ?_ zO;exact JE.mk (acf tv _ ⟨to,Uf,_,_,XN,ob',ta',tb',HA',HB',CT,tv,hlt,Ni,WI,hY',by omega,by omega,by omega,by omega,hT,rfl⟩)
section
open Go.ChangeShapes Go.WideShapes Go.Deep
variable {H:Type} {enc:TypeId×zV->H} {W:World} {base:Nat} {spare:Nat->Bool} {held:Bool}
theorem NJ{fuel:Nat}{cs:List zV}{x:DataW H×List MemPlace}(hl:cs.length=5)(h:DataW.trod enc zQ W base spare held fuel 23 cs=some x):∃c:uS,cs=c.cells/\c.str<256:=by
 obtain⟨xs,n,_,_,_,hx,hf⟩:=DataW.trod_struct Tryz.underlying23 h
 match cs,hl with
 | [c0,c1,c2,c3,c4],_=>
  have hx5:xs.length=5:=hx;have tL:Tryz.prog.cellsOf 3=1:=by kernel_rfl
  have A9:Tryz.prog.cellsOf 5=1:=by kernel_rfl
  have g0:DataW.trod enc zQ W base spare held n 3 (List.take (Tryz.prog.cellsOf 3) [c0,c1,c2,c3,c4])=xs[0]? :=hf 0 _ rfl;have g1:DataW.trod enc zQ W base spare held n 3 (List.take (Tryz.prog.cellsOf 3) [c1,c2,c3,c4])=xs[1]? :=hf 1 _ rfl;have g2:DataW.trod enc zQ W base spare held n 5 (List.take (Tryz.prog.cellsOf 5) [c2,c3,c4])=xs[2]? :=hf 2 _ rfl;have g3:DataW.trod enc zQ W base spare held n 3 (List.take (Tryz.prog.cellsOf 3) [c3,c4])=xs[3]? :=hf 3 _ rfl;have g4:DataW.trod enc zQ W base spare held n 3 (List.take (Tryz.prog.cellsOf 3) [c4])=xs[4]? :=hf 4 _ rfl;rw[tL,xaa zO]at g0;rw[tL,xaa zO]at g1;rw[A9,xaa zO]at g2;rw[tL,xaa zO]at g3;rw[tL,xaa zO]at g4;simp only[xd5,xec]at g0 g1 g2 g3 g4;obtain⟨n0,e0,_,w0⟩:=DataW.trod_int Tryz.underlying3 g0;obtain⟨n1,e1,_,w1⟩:=DataW.trod_int Tryz.underlying3 g1;obtain⟨n2,e2,_,w2⟩:=DataW.trod_int Tryz.underlying5 g2;obtain⟨n3,e3,_,w3⟩:=DataW.trod_int Tryz.underlying3 g3;obtain⟨n4,e4,_,w4⟩:=DataW.trod_int Tryz.underlying3 g4;have b0:=bounds_i64 w0;have b1:=bounds_i64 w1;have b2:=bounds_u8 w2;have b3:=bounds_i64 w3;have b4:=bounds_i64 w4;simp only[xau,xa1]at e0 e1 e2 e3 e4;have z2:((n2.toNat:Nat):Int)=n2:=by omega
  exact⟨⟨n0,n1,n2.toNat,n3,n4⟩,by unfold uS.cells;simp only;rw[e0,e1,e2,e3,e4,z2],by simp only;omega⟩
theorem E8{fuel:Nat}{cs:List zV}{x:DataW H×List MemPlace}(hl:cs.length=5)(h:DataW.trod enc zQ W base spare held fuel 35 cs=some x):∃s:dD,cs=s.cells/\s.Ok:=by
 obtain⟨xs,n,_,_,_,hx,hf⟩:=DataW.trod_struct Tryz.underlying35 h
 match cs,hl with
 | [c0,c1,c2,c3,c4],_=>
  have hx5:xs.length=5:=hx;have tL:Tryz.prog.cellsOf 3=1:=by kernel_rfl
  have Rh:Tryz.prog.cellsOf 33=1:=by kernel_rfl
  have A9:Tryz.prog.cellsOf 5=1:=by kernel_rfl
  have g0:DataW.trod enc zQ W base spare held n 5 (List.take (Tryz.prog.cellsOf 5) [c0,c1,c2,c3,c4])=xs[0]? :=hf 0 _ rfl;have g1:DataW.trod enc zQ W base spare held n 3 (List.take (Tryz.prog.cellsOf 3) [c1,c2,c3,c4])=xs[1]? :=hf 1 _ rfl;have g2:DataW.trod enc zQ W base spare held n 3 (List.take (Tryz.prog.cellsOf 3) [c2,c3,c4])=xs[2]? :=hf 2 _ rfl;have g3:DataW.trod enc zQ W base spare held n 3 (List.take (Tryz.prog.cellsOf 3) [c3,c4])=xs[3]? :=hf 3 _ rfl;have g4:DataW.trod enc zQ W base spare held n 33 (List.take (Tryz.prog.cellsOf 33) [c4])=xs[4]? :=hf 4 _ rfl;rw[A9,xaa zO]at g0;rw[tL,xaa zO]at g1;rw[tL,xaa zO]at g2;rw[tL,xaa zO]at g3;rw[Rh,xaa zO]at g4;simp only[xd5,xec]at g0 g1 g2 g3 g4;obtain⟨n0,e0,_,w0⟩:=DataW.trod_int Tryz.underlying5 g0;obtain⟨n1,e1,_,w1⟩:=DataW.trod_int Tryz.underlying3 g1;obtain⟨n2,e2,_,w2⟩:=DataW.trod_int Tryz.underlying3 g2;obtain⟨n3,e3,_,w3⟩:=DataW.trod_int Tryz.underlying3 g3;obtain⟨n4,e4,_,w4⟩:=DataW.trod_int Tryz.underlying33 g4;have b0:=bounds_u8 w0;have b1:=bounds_i64 w1;have b2:=bounds_i64 w2;have b3:=bounds_i64 w3;have b4:=bounds_u64 w4;simp only[xau,xa1]at e0 e1 e2 e3 e4;have z0:((n0.toNat:Nat):Int)=n0:=by omega
  have z4:((n4.toNat:Nat):Int)=n4:=by omega
  exact⟨⟨n0.toNat,n1,n2,n3,n4.toNat⟩,by simp only[dD.cells,u64];rw[e0,e1,e2,e3,e4,z0,z4],⟨by simp only;omega,by simp only;omega,by simp only;omega,by simp only;omega,by simp only;omega⟩⟩
theorem P8{fuel:Nat}{cs:List zV}{x:DataW H×List MemPlace}(h:DataW.trod enc zQ W base spare held fuel 35 cs=some x):∃ps,x.1=.agg ps/\ps.length=5:=by
 obtain⟨xs,n,_,rfl,_,hx,_⟩:=DataW.trod_struct Tryz.underlying35 h;exact⟨_,rfl,by rw[xaE];exact hx⟩
theorem aaA{v:zV}{d:DataW H}{ps:List MemPlace}(h:DataW.Trod enc zQ W base spare held 23 v d ps)(hv:∃cs,v=.agg cs/\cs.size=Tryz.prog.cellsOf 23):∃c:uS,v=.agg c.cells.toArray/\c.str<256:=by
 obtain⟨fuel,hf⟩:=h;obtain⟨cs,rfl,hsz⟩:=hv;rw[show Tryz.prog.cellsOf 23=5 by kernel_rfl]at hsz;obtain⟨l⟩:=cs;obtain⟨s,hs,hok⟩:=NJ (cs:=l) hsz hf;subst hs;exact⟨s,rfl,hok⟩
theorem Mm{v:zV}{d:DataW H}{ps:List MemPlace}(h:DataW.Trod enc zQ W base spare held 24 v d ps)(hv:∃a n c,v=.slice a n c):
  ∃steps:List dD,Sl 5 (whole W) v (steps.map dD.cells)/\(∀s∈steps,s.Ok)/\((∀n∈d.weights zQ 24,n<=reachBytes)->steps.length<4398046511104)/\(steps.length=0\/∃es sp,d=.slice es sp/\steps.length=es.length/\∀e∈es,∃ps,e=.agg ps/\ps.length=5):=by
 obtain⟨fuel,hf⟩:=h;have k5:Tryz.prog.cellsOf 35=5:=by kernel_rfl
 obtain⟨v',rs,hcs,X3,hw,hr⟩:=L5 Tryz.underlying24 k5 zD hf;have M0:v'=v:=by
  obtain⟨a,n,c,rfl⟩:=hv;simpa[Value.cells]using hcs.symm
 subst M0;have hone:∀r∈rs,∃s:dD,r=s.cells/\s.Ok:=λr hm=>by
  obtain⟨i,hi,e⟩:=xba.1 hm;obtain⟨f,y,_,_,hy,_⟩:=hr i r (by rw[xaa hi,e]);exact E8 (X3.1 r hm) hy
 have hex:∃steps:List dD,rs=steps.map dD.cells/\∀s∈steps,s.Ok:=by
  clear X3 hw hr hcs;induction rs with
  |nil=>exact⟨[],rfl,by simp⟩
  |cons r rest ih=>
   obtain⟨l,h1,h2⟩:=ih λr hm=>hone r (by simp[hm]);obtain⟨s,h3,h4⟩:=hone r zI;exact⟨s::l,by simp[h1,h3],λm hm=>by rcases xak.1 hm with rfl|hm;exact h4;exact h2 m hm⟩
 obtain⟨steps,rfl,hok⟩:=hex;refine⟨steps,X3,hok,λaJ=>?_,?_⟩;rotate_left
 ·rcases hw with⟨h1,_⟩|⟨es,sp,h1,h2⟩
  ·exact .inl (by simpa using xck List.length h1)
  rw[xaE]at h2;refine .inr ⟨es,sp,h1,h2.symm,λe he=>?_⟩;obtain⟨i,hi,rfl⟩:=xba.1 he;obtain⟨f,y,gV,sp2,hy,FX,hy2⟩:=hr i _ (xaa (by rw[xaE];omega));have:es=gV:=by
   have e:=h1.symm.trans FX;simp only[DataW.slice.injEq]at e;exact e.1
  subst this;rw[xaa hi]at hy2;obtain⟨ps,h5,h6⟩:=P8 hy;exact⟨ps,(xbg hy2).trans h5,h6⟩
 rcases hw with⟨h1,_⟩|⟨es,sp,h1,h2⟩
 ·have:steps=[]:=by simpa using h1
  subst this;simp
 simp only at h1;have:=aJ ((es.length+sp.length)*Tryz.prog.bytesOf 35) (by rw[h1,DataW.weights,Tryz.underlying24];exact xbL ..);rw[show Tryz.prog.bytesOf 35=40 by kernel_rfl]at this;have h3:reachBytes=140737488351232:=rfl;rw[xaE]at h2;omega
end
end Go.Proofs
namespace Go.Proofs.YtflhdclplgjbbaaGreat.Yv
theorem one_le{H:Type}(d:DataW H):1<=Rows.uptoBulk d:=by
 cases d with
 |lit l=>cases l<;>simp[Rows.uptoBulk]
 |nil=>simp[Rows.uptoBulk]
 |ptr d=>simp[Rows.uptoBulk]
 |slice elems spare=>simp[Rows.uptoBulk]
 |agg parts=>simp[Rows.uptoBulk]
 |iface t d=>simp[Rows.uptoBulk]
 |map entries=>simp[Rows.uptoBulk]
 |held h=>simp[Rows.uptoBulk]
theorem Vx{H:Type}{d:DataW H}{l:List (DataW H)}(h:d∈l):Rows.uptoBulk d<=Rows.uptoBulkAll l:=by
 induction l with
 |nil=>cases h
 |cons x r ih=>
  simp only[Rows.uptoBulkAll];cases xak.1 h with
  |inl e=>subst e;omega
  |inr e=>have:=ih e;omega
theorem append{H:Type}(l r:List (DataW H)):Rows.uptoBulkAll (l++r)=Rows.uptoBulkAll l+Rows.uptoBulkAll r:=by
 induction l with
 |nil=>simp[Rows.uptoBulkAll]
 |cons x l ih=>simp only[xaQ,Rows.uptoBulkAll,ih];omega
theorem length_le{H:Type}(l:List (DataW H)):l.length<=Rows.uptoBulkAll l:=by
 induction l with
 |nil=>simp[Rows.uptoBulkAll]
 |cons x r ih=>have:=one_le x;simp only[Rows.uptoBulkAll,xaz];omega
theorem Cj{H:Type}(elems spare:List (DataW H)):Rows.uptoBulkAll elems+1<=Rows.uptoBulk (.slice elems spare):=by
 simp only[Rows.uptoBulk];omega
theorem bound{H:Type}{l:List (DataW H)}(hk:Rows.uptoSmall H l=true):Rows.uptoBulkAll l<=1048576:=by
 simpa[Rows.uptoSmall]using hk
theorem ah8{H:Type}{es:List (DataW H)}(h:∀e∈es,∃ps,e=.agg ps/\ps.length=5):6*es.length<=Rows.uptoBulkAll es:=by
 induction es with
 |nil=>simp[Rows.uptoBulkAll]
 |cons x r ih=>
  obtain⟨ps,rfl,h5⟩:=h x zI;have h1:=ih λe he=>h e (by simp[he]);have h2:=length_le ps;simp only[Rows.uptoBulkAll,Rows.uptoBulk,xaz];omega
theorem YW{H:Type}{ds:List (DataW H)}(hk:Rows.uptoSmall H ds=true){d:DataW H}(hd:d∈ds){n:Nat}(h:n=0\/∃es sp,d=.slice es sp/\n=es.length/\∀e∈es,∃ps,e=.agg ps/\ps.length=5):n<=174762:=by
 rcases h with rfl|⟨es,sp,rfl,rfl,h⟩
 ·omega
 have h1:=bound hk;have h2:=Vx hd;have h3:=Cj es sp;have h4:=ah8 h;omega
end Go.Proofs.YtflhdclplgjbbaaGreat.Yv
