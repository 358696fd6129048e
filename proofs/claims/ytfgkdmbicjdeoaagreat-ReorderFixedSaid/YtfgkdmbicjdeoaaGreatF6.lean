import Derived.Test.YtfgkdmbicjdeoaaGreatF5
set_option linter.unusedVariables false
set_option linter.unusedSimpArgs false
set_option linter.unusedSectionVars false
set_option maxRecDepth 100000
namespace Go.Proofs
open Go Go.Sx
open aZ
section
variable {kp:Nat} {K:Kd} {S:Nat→aZ.Fn} {C:Hp}
theorem BH(hA:At kp K S [0,2,1,3] [] C)(hn:K.n=4)(ql:aZ.Alike (rm K S) (vX 4 100 [[63624]]) (fun ord=>ord.Perm (List.range 4))):
  Fc Tryz.prog 49 #[ptr kp,.int .u8 6,.int .i64 ((100:Nat):Int)] C (fun v H=>∃o O0 c,v=.tuple #[oE 6 4 (c:Nat) true,.int .i64 0]∧At kp K S o O0 H∧bC K S o=4∧c≤12):=by
 have hsz:∀o:List Nat,o.Perm (List.range 4)→bC K S o=(vX 4 100 [[63624]]).size o:=fun o ho=>ql.size o ho
 have h6:bC K S [0,2,1,3]=6:=by rw[hsz _ ez];decide+kernel
 have wx:[0,2,1,3].Perm (List.range K.n):=by rw[hn];exact ez
 have hcan:∀ls:List Nat,(∀x∈ls,x+1<K.n)→(rm K S).can [0,2,1,3] ls=true:=fun ls hls=>by
  rw[(ql.can (ls:=ls) (ord:=[0,2,1,3]) hls ez).1]
  refine yl (vX 4 100 [[63624]]) (Q:=fun o=>o.Perm (List.range 4)) (fun o l ho hl=>nt (path:=[l]) ho (fun x hx=>by rw[List.mem_singleton.1 hx];exact hl)) (fun o l ho hl=>(jh ho).2.2 l ?_) ez (fun x hx=>by have:=hls x hx;rw[hn]at this;exact this)
  have:l+1<4:=hl
  omega
 refine vV hA (by omega) (by decide) ((FX hA wx (by omega) (by simp)).mono ?_) ?_
 ·intro v H hQ
  obtain⟨o,ls,hop,rfl,nV,hmin,hls,_⟩:=W3 hQ (by omega) wx hcan
  rw[hn]at hop hls
  have h4:bC K S o=4:=by
   have h1:=hmin [0,1,2,3] (by rw[hn];exact mB)
   have h2:bC K S [0,1,2,3]=4:=by rw[hsz _ mB];decide+kernel
   have h3:=(jh hop).2.1
   rw[←hsz _ hop]at h3
   omega
  exact⟨_,_,ls.length,by rw[h6,h4];rfl,nV,h4,hls⟩
 ·rintro v H ⟨o,O0,c,rfl,_⟩
  exact⟨_,_,_,_,_,rfl⟩
theorem Rx(hA:At kp K S [0,2,1,3] [] C)(hn:K.n=4)(ql:aZ.Alike (rm K S) (vX 4 100 [[63624]]) (fun ord=>ord.Perm (List.range 4))){B:Hp}{c:Hp→Hp}(hc:cy C B c){v:Value}(hl:∀Z,bW .u8 (c Z) v (iw [6,0])):
  Fc Tryz.prog 50 #[ptr kp,v,.int .i64 ((100:Nat):Int)] B (fun w H=>∃(x:Nat) (C':Hp),w=.tuple #[oE 6 4 (x:Nat) false,.int .i64 0]∧H=c C'):=by
 have h6:bC K S [0,2,1,3]=6:=(ql.size _ ez).trans (by decide+kernel)
 have he:lZ K.n 100 [6,0] (yh K.n 100 0)=0:=by rw[hn];decide
 refine(uk hA hc (l:=[6,0]) (gr:=100) hl (by decide) (fun i a w d H=>(i=0∧a=6∧w=0∧d=false∧At kp K S [0,2,1,3] [] H)∨(0<i∧a=4∧w≤12∧d=decide (i=1)∧∃o tr,At kp K S o tr H∧bC K S o=4)) (.inl ⟨rfl,h6,rfl,rfl,hA⟩) (fun _ i s a w d H hi hD=>?_)).mono ?_
 ·rcases hD with⟨rfl,rfl,rfl,rfl,hA⟩|⟨h0,rfl,hw,rfl,o,tr,hA,h4⟩
  ·obtain rfl:6=s:=by simpa using hi
   refine(BH hA hn ql).mono ?_
   rintro v H ⟨o,O0,c,rfl,nV,h4,hc⟩
   exact⟨6,4,c,true,rfl,.inr ⟨by omega,rfl,by omega,rfl,o,O0,nV,h4⟩,by omega⟩
  ·obtain rfl:i=1:=by
    have:=(List.getElem?_eq_some_iff.1 hi).1
    simp at this;omega
   obtain rfl:0=s:=by simpa using hi
   refine Fc.mono (LN hA (gr:=100) (by decide)) ?_
   rintro v H ⟨rfl,rfl⟩
   rw[h4]
   exact⟨4,4,0,false,rfl,.inr ⟨by omega,rfl,hw,rfl,o,tr,hA,h4⟩,by omega⟩
 ·rintro w H (⟨h,_⟩|⟨_,a,x,d,C',rfl,hD,rfl⟩)
  ·exact absurd he h
  rcases hD with⟨h,_⟩|⟨_,rfl,_,rfl,_⟩
  ·cases h
  ·exact⟨x,C',by rw[h6];rfl,rfl⟩
end
theorem HV(B:Hp):Rd Tryz.prog 9 #[] B (· =.bool true):=by
 intro g
 refine OE (R:=aF _) ?_
 unfold L9
 refine ag.rd .here (HX B) ?_
 rintro v rfl
 refine Un.not (aA.mk (aA.mk (Br.no ?_)))
 refine ag.rd .here (HR _ _ B) ?_
 rintro v rfl
 refine Ext.mk rfl (Ext.mk rfl ?_)
 intro qZ _
 refine St.whole (r:=[.int .i64 0,.int .i64 0,.int .i64 0,.bool false]) (by exact .head _) rfl rfl (by simp[Value.oneCell']) ?_
 refine ag.rd .here (Ji (.slice none 0 0) (.int .i64 0) _ ⟨0,rfl⟩) ?_
 rintro v rfl
 refine Ext.mk rfl (Ext.mk rfl ?_)
 intro Wr _
 refine St.whole (r:=[.int .i64 0,.int .i64 0,.int .i64 0,.bool false]) (by exact .head _) rfl rfl (by simp[Value.oneCell']) ?_
 refine ae.dX ?_
 refine bM.or false (fun _=>ae.dX ⟨rfl,rfl⟩) rfl fun gs=>?_
 refine bM.or false (fun _=>?_) rfl fun gs=>?_
 ·refine az.whole (r:=[.int .i64 ((0:Nat):Int),.int .i64 ((0:Nat):Int),.int .i64 ((0:Nat):Int),.bool false]) (by exact .tail _ (.head _)) rfl ?_
  refine Build.mk (cs:=[.int .i64 ((0:Nat):Int),.int .i64 ((0:Nat):Int),.int .i64 ((0:Nat):Int),.bool false]) (by kernel_rfl) ?_
  exact LU (neq:=true) (x:=.tmp 44) (y:=.tmp 45) (by kernel_rfl) (a1:=0) (a2:=0) (a3:=0) (b1:=0) (b2:=0) (b3:=0) rfl rfl ⟨rfl,rfl⟩
 refine bM.or false (fun _=>?_) rfl fun gs=>Br.no ?_
 ·refine az.whole (r:=[.int .i64 ((0:Nat):Int),.int .i64 ((0:Nat):Int),.int .i64 ((0:Nat):Int),.bool false]) (by exact .head _) rfl ?_
  refine Build.mk (cs:=[.int .i64 ((0:Nat):Int),.int .i64 ((0:Nat):Int),.int .i64 ((0:Nat):Int),.bool false]) (by kernel_rfl) ?_
  exact LU (neq:=true) (x:=.tmp 49) (y:=.tmp 50) (by kernel_rfl) (a1:=0) (a2:=0) (a3:=0) (b1:=0) (b2:=0) (b3:=0) rfl rfl ⟨rfl,rfl⟩
 refine ag.fn (args:=#[.int .i64 ((13:Nat):Int),.int .i64 ((50:Nat):Int)]) hnew (Mc (n:=13) (cap:=50) (by decide) (by decide)) ?_
 rintro v Ck ⟨kk,rfl,hKk⟩
 have hA:=hKk.bB
 have hkn:(K0 13 50).n=13:=rfl
 refine Ext.mk rfl (Ext.mk rfl ?_)
 refine ag.rd .left (sn hA (s:=7) (gr:=100) (by omega)) ?_
 rintro v rfl
 refine Ext.mk rfl (Ext.mk rfl ?_)
 refine ag.rd .left (sn hA (s:=0) (gr:=99) (by omega)) ?_
 rintro v rfl
 refine Ext.mk rfl (Ext.mk rfl ?_)
 refine ag.rd .left (sn hA (s:=1) (gr:=1001) (by omega)) ?_
 rintro v rfl
 refine Ext.mk rfl (Ext.mk rfl ?_)
 intro Wq _
 refine St.whole (r:=[.int .i64 0,.int .i64 0,.int .i64 0,.bool false]) (by exact .head _) rfl rfl (by simp[Value.oneCell']) ?_
 refine ag.rd (.cons .left) (LJ hA (gr:=100) (by omega) (by rw[hkn];omega)) ?_
 rintro v rfl
 refine Ext.mk rfl (Ext.mk rfl ?_)
 intro Wp _
 refine St.whole (r:=[.int .i64 0,.int .i64 0,.int .i64 0,.bool false]) (by exact .head _) rfl rfl (by simp[Value.oneCell']) ?_
 refine ag.rd (.cons (.cons .left)) (sn hA (s:=6) (gr:=99) (by omega)) ?_
 rintro v rfl
 refine Ext.mk rfl (Ext.mk rfl ?_)
 intro Wo _
 refine St.whole (r:=[.int .i64 0,.int .i64 0,.int .i64 0,.bool false]) (by exact .head _) rfl rfl (by simp[Value.oneCell']) ?_
 refine ae.dX ?_
 refine bM.or false (fun _=>ae.dX ⟨rfl,rfl⟩) rfl fun gs=>?_
 refine bM.or false (fun _=>ae.dX ⟨rfl,rfl⟩) rfl fun gs=>?_
 refine bM.or false (fun _=>ae.dX ⟨rfl,rfl⟩) rfl fun gs=>?_
 refine bM.or false (fun _=>ae.dX ⟨rfl,rfl⟩) rfl fun gs=>Br.no ?_
 have hi8:∀(b:Nat) (x y:Nat) (Z:Hp),bW .u8 ((b,Obj.cells (aC .u8 (iw [x,y])) 5 (0,0))::Z) (.slice (some ⟨b,0,none⟩) 2 2) (iw [x,y]):=fun b x y Z=>bW.block (l:=iw [x,y]) (cap:=2) (.head _) (by simp[iw])
 have Cw:∀{l:List Nat} {e:Nat} {v:Value} {B:Hp} {c:Hp→Hp},cy Ck B c→(∀Z,bW .u8 (c Z) v (iw l))→l.length≤2→lZ 13 100 l (yh 13 100 0)=e→e≠0→Fc Tryz.prog 50 #[ptr kk,v,.int .i64 ((100:Nat):Int)] B (fun w H=>H=B∧w=.tuple #[oE 0 0 0 false,.int .i64 (e:Int)]):=fun{l e v B c} hc hl A0 he hne=>by
  subst he
  refine(uk hA hc (l:=l) (gr:=100) hl (by omega) (fun _ _ _ _ _=>True) trivial (fun h=>absurd h hne)).mono ?_
  rintro w H (⟨_,rfl,rfl⟩|⟨h,_⟩)
  ·exact⟨rfl,rfl⟩
  ·exact absurd h hne
 refine⟨aC .u8 (iw [1,9]),5,1,.int .u8 0,by kernel_rfl,by kernel_rfl,by kernel_rfl,by decide,by kernel_rfl,fun Wn _=>?_⟩
 refine ag.rd (args:=#[ptr kk,.slice (some ⟨Wn,0,none⟩) 2 2,.int .i64 ((100:Nat):Int)]) .here (Cw (e:=1) (c:=fun Z=>(Wn,_)::(Wo,_)::(Wp,_)::(Wq,_)::(Z++_)) (.cons (.cons (.cons (.cons .left)))) (fun Z=>hi8 Wn 1 9 _) (by decide) (by decide) (by decide)) ?_
 rintro v rfl
 refine Ext.mk rfl (Ext.mk rfl ?_)
 refine⟨aC .u8 (iw [6,9]),5,1,.int .u8 0,by kernel_rfl,by kernel_rfl,by kernel_rfl,by decide,by kernel_rfl,fun Y1 _=>?_⟩
 refine ag.rd (args:=#[ptr kk,.slice (some ⟨Y1,0,none⟩) 2 2,.int .i64 ((100:Nat):Int)]) .here (Cw (e:=1) (c:=fun Z=>(Y1,_)::(Wn,_)::(Wo,_)::(Wp,_)::(Wq,_)::(Z++_)) (.cons (.cons (.cons (.cons (.cons .left))))) (fun Z=>hi8 Y1 6 9 _) (by decide) (by decide) (by decide)) ?_
 rintro v rfl
 refine Ext.mk rfl (Ext.mk rfl ?_)
 refine⟨aC .u8 (iw [3,6]),5,1,.int .u8 0,by kernel_rfl,by kernel_rfl,by kernel_rfl,by decide,by kernel_rfl,fun bs3 _=>?_⟩
 refine ag.rd (args:=#[ptr kk,.slice (some ⟨bs3,0,none⟩) 2 2,.int .i64 ((100:Nat):Int)]) .here (Cw (e:=6) (c:=fun Z=>(bs3,_)::(Y1,_)::(Wn,_)::(Wo,_)::(Wp,_)::(Wq,_)::(Z++_)) (.cons (.cons (.cons (.cons (.cons (.cons .left)))))) (fun Z=>hi8 bs3 3 6 _) (by decide) (by decide) (by decide)) ?_
 rintro v rfl
 refine Ext.mk rfl (Ext.mk rfl ?_)
 have hz:bC (K0 13 50) S0 (List.range 13)=0:=by have:=(NX (n:=13) (c:=50) (by decide)).size (List.range 13) (.refl _);exact this.trans (by decide+kernel)
 refine ag.fn (args:=#[ptr kk,.slice none 0 0,.int .i64 ((100:Nat):Int)]) .here (uk hA (c:=fun Z=>(bs3,_)::(Y1,_)::(Wn,_)::(Wo,_)::(Wp,_)::(Wq,_)::(Z++_)) (.cons (.cons (.cons (.cons (.cons (.cons .left)))))) (l:=[]) (gr:=100) (fun Z=>bW.nil) (by decide) (fun i a w d H=>a=0∧w=0∧d=false∧At kk (K0 13 50) S0 (List.range 13) [] H) ⟨hz,rfl,rfl,hA⟩ (fun _ i s a w d H h=>absurd h (by simp))) ?_
 rintro v H (⟨h,_⟩|⟨_,a,x,d,C',rfl,⟨rfl,rfl,rfl,nV⟩,rfl⟩)
 ·exact absurd (show lZ 13 100 [] (yh 13 100 0)=0 by decide) h
 rw[hz]
 refine Ext.mk rfl (Ext.mk rfl ?_)
 refine St.whole (r:=[.int .i64 ((0:Nat):Int),.int .i64 ((0:Nat):Int),.int .i64 ((0:Nat):Int),.bool false]) (.tail (.tail (.tail (.tail (.tail (.tail (cJ.bI (.tail (.head _)) _))))))) rfl rfl (by simp[Value.oneCell']) ?_
 intro yx YM
 have fin:yx [.bool false] ((qZ,Obj.cells (List.toArray [.int .i64 ((0:Nat):Int),.int .i64 ((0:Nat):Int),.int .i64 ((0:Nat):Int),.bool false]) 42 (0,0))::B):=by
  refine YM _ _ fun gs=>Br.no ?_
  clear YM
  generalize eB:(qZ,Obj.cells (List.toArray [.int .i64 ((0:Nat):Int),.int .i64 ((0:Nat):Int),.int .i64 ((0:Nat):Int),.bool false]) 42 (0,0))::B=B2
  refine⟨aC .i64 (iw [0,2,1,3]),3,1,.int .i64 0,by kernel_rfl,by kernel_rfl,by kernel_rfl,by decide,by kernel_rfl,fun bo _=>?_⟩
  refine ag.px (B:=[]) hnew (vW []) ?_
  rintro v N ⟨s,rfl,hw⟩
  rw[List.append_nil]at hw⊢
  refine eC (n:=4) fun bt=>?_
  have eH:(bt,Obj.cells #[.int .i64 (4:Int),s] 57 (0,0))::(N++(bo,Obj.cells (aC .i64 (iw [0,2,1,3])) 3 (0,0))::B2)=((bt,Obj.cells #[.int .i64 (4:Int),s] 57 (0,0))::(N++[(bo,Obj.cells (aC .i64 (iw [0,2,1,3])) 3 (0,0))]))++B2:=by simp
  rw[eH]
  have hoI:bW .i64 ((bt,Obj.cells #[.int .i64 (4:Int),s] 57 (0,0))::(N++[(bo,Obj.cells (aC .i64 (iw [0,2,1,3])) 3 (0,0))])) (.slice (some ⟨bo,0,none⟩) 4 4) (iw [0,2,1,3]):=bW.block (l:=iw [0,2,1,3]) (cap:=4) (.tail _ (List.mem_append_right _ (.head _))) (by simp[iw])
  have Yp:cT ((bt,Obj.cells #[.int .i64 (4:Int),s] 57 (0,0))::(N++[(bo,Obj.cells (aC .i64 (iw [0,2,1,3])) 3 (0,0))])) (.slice (some ⟨bt,0,none⟩) 1 1) (gy 4 [[63624]]):=cT.one (cap:=0) (t:=⟨4,[63624]⟩) (.head _) (hw.mono fun _ h=>.tail _ (List.mem_append_left _ h))
  refine ag.fn .left (vS hoI Yp) ?_
  rintro v H2 ⟨kp,mp,vr,vt,K,S,M,refs,ts,C,Y',rfl,rfl,hA,hP,hn,ql⟩
  rw[List.append_assoc]
  have ⟨o1,o2⟩:=hP.W7
  refine Ext.mk rfl (Ext.mk rfl (Ext.mk rfl ?_))
  intro Dd _
  refine St.whole (r:=[ptr kp,ptr mp,vr,vt]) (by exact .head _) rfl rfl (tq o1 o2) ?_
  refine aa.mk (Ld.mk (v:=ptr kp) (by exact .head _) rfl ?_)
  refine⟨aC .u8 (iw [6,0]),5,1,.int .u8 0,by kernel_rfl,by kernel_rfl,by kernel_rfl,by decide,by kernel_rfl,fun bs _=>?_⟩
  refine ag.fn (args:=#[ptr kp,.slice (some ⟨bs,0,none⟩) 2 2,.int .i64 ((100:Nat):Int)]) .here (Rx hA hn ql (c:=fun Z=>(bs,_)::(Dd,_)::(Y'++(Z++B2))) (.cons (.cons (.app .left))) (fun Z=>hi8 bs 6 0 _)) ?_
  rintro v H ⟨x,C',rfl,rfl⟩
  subst eB
  refine Ext.mk rfl (Ext.mk rfl ?_)
  refine St.whole (r:=[.int .i64 6,.int .i64 4,.int .i64 (x:Int),.bool false]) (.tail (.tail (cJ.bI (cJ.bI (.head _) _) _))) rfl rfl (kX 6 4 x _) ?_
  have hm:(qZ,Obj.cells (List.toArray [.int .i64 6,.int .i64 4,.int .i64 (x:Int),.bool false]) 42 (0,0))∈(bs,Obj.cells (aC .u8 (iw [6,0])) 5 (0,0))::(Dd,Obj.cells (List.toArray [ptr kp,ptr mp,vr,vt]) 98 (0,0))::(Y'++(C'++(qZ,Obj.cells (List.toArray [.int .i64 6,.int .i64 4,.int .i64 (x:Int),.bool false]) 42 (0,0))::B)):=.tail _ (.tail _ (List.mem_append_right _ (List.mem_append_right _ (.head _))))
  refine Un.not ?_
  refine bM.or false (fun _=>ae.dX ⟨rfl,rfl⟩) rfl fun gs=>?_
  refine bM.or false (fun _=>aa.mk (Ld.mk hm rfl ⟨rfl,rfl⟩)) rfl fun gs=>?_
  refine bM.or false (fun _=>aa.mk (Ld.mk hm rfl (ae.dX ⟨rfl,rfl⟩))) rfl fun gs=>?_
  refine bM.or false (fun _=>aa.mk (Ld.mk hm rfl (ae.dX ⟨rfl,rfl⟩))) rfl fun gs=>Br.no ?_
  clear hm
  have hE:aO ((bs,Obj.cells (aC .u8 (iw [6,0])) 5 (0,0))::(Dd,Obj.cells (List.toArray [ptr kp,ptr mp,vr,vt]) 98 (0,0))::(Y'++(C'++(qZ,Obj.cells (List.toArray [.int .i64 6,.int .i64 4,.int .i64 (x:Int),.bool false]) 42 (0,0))::B))) B:=.skip (.skip (.bN (.bN .tail)))
  generalize (bs,Obj.cells (aC .u8 (iw [6,0])) 5 (0,0))::(Dd,Obj.cells (List.toArray [ptr kp,ptr mp,vr,vt]) 98 (0,0))::(Y'++(C'++(qZ,Obj.cells (List.toArray [.int .i64 6,.int .i64 4,.int .i64 (x:Int),.bool false]) 42 (0,0))::B))=HH at hE⊢
  refine⟨aC .i64 (iw [0,36,396,6,20,46,12]),3,1,.int .i64 0,by kernel_rfl,by kernel_rfl,by kernel_rfl,by decide,by kernel_rfl,fun br _=>?_⟩
  have hR:bW .i64 ((br,Obj.cells (aC .i64 (iw [0,36,396,6,20,46,12])) 3 (0,0))::HH) (.slice (some ⟨br,0,none⟩) 7 7) (iw [0,36,396,6,20,46,12]):=bW.block (l:=iw [0,36,396,6,20,46,12]) (cap:=7) (.head _) (by simp[iw])
  show aG _ _
  refine hR.aR ?_
  obtain⟨H3,Va⟩:∃H3:Hp,H3=(br,Obj.cells (aC .i64 (iw [0,36,396,6,20,46,12])) 3 (0,0))::HH:=⟨_,rfl⟩
  have hE3:aO H3 B:=by rw[Va];exact .skip hE
  rw[←Va]at hR
  refine⟨fun vs H=>∃i:Nat,i≤7∧vs=[.int .i64 (i:Int)]∧H=H3,fun vs _=>7-bg vs 0,JE.mk ⟨0,by omega,rfl,Va.symm⟩,?_⟩
  rintro Bg H ⟨i,hi,hv,rfl⟩ gs
  simp only[List.cons.injEq,and_true]at hv
  subst hv
  refine ae.dz (b:=7) (Br.dec (fun hlt=>?_) (fun hge=>?_))
  ·obtain⟨z,hz,hs⟩:∃z:Nat,[0,36,396,6,20,46,12][i]? =some z∧PT 4 10 i=.tuple #[.int .i64 (z:Int),.int .i64 0]:=by
    obtain rfl|rfl|rfl|rfl|rfl|rfl|rfl:i=0∨i=1∨i=2∨i=3∨i=4∨i=5∨i=6:=by omega
    all_goals exact⟨_,rfl,rfl⟩
   refine hR.ld (n:=(z:Int)) (cj hz) (fun _ h=>h) ?_
   refine bL.nat (by simp[aB];omega) ?_
   refine ag.rd .here (jd (a:=4) (b:=10) (k:=i)) ?_
   rintro w rfl
   rw[hs]
   refine Ext.mk rfl (Ext.mk rfl ?_)
   refine ae.dX ?_
   refine bM.or false (fun _=>ae.dX ⟨rfl,by simp⟩) rfl fun gs=>Br.no ?_
   refine ae.aH (b:=1) (by simp[aB];omega) ?_
   exact ay.mk ⟨i+1,hlt,rfl,rfl⟩ (by simp only[bg];omega)
  refine ag.rd .here (jd (a:=64) (b:=1048576) (k:=2)) ?_
  rintro w rfl
  rw[show PT 64 1048576 2=.tuple #[.int .i64 12683587392,.int .i64 0]from rfl]
  refine Ext.mk rfl (Ext.mk rfl ?_)
  refine ag.rd .here (jd (a:=3) (b:=10) (k:=5)) ?_
  rintro w rfl
  rw[show PT 3 10 5=.tuple #[.int .i64 0,.int .i64 0]from rfl]
  refine Ext.mk rfl (Ext.mk rfl ?_)
  refine ag.rd .here (jd (a:=0) (b:=1) (k:=0)) ?_
  rintro w rfl
  rw[show PT 0 1 0=.tuple #[.int .i64 0,.int .i64 1]from rfl]
  refine Ext.mk rfl (Ext.mk rfl ?_)
  refine ag.rd .here (jd (a:=1) (b:= -1) (k:=0)) ?_
  rintro w rfl
  rw[show PT 1 (-1) 0=.tuple #[.int .i64 0,.int .i64 1]from rfl]
  refine Ext.mk rfl (Ext.mk rfl ?_)
  refine ag.rd .here (jd (a:=1) (b:=1) (k:=7)) ?_
  rintro w rfl
  rw[show PT 1 1 7=.tuple #[.int .i64 0,.int .i64 1]from rfl]
  refine Ext.mk rfl (Ext.mk rfl ?_)
  refine ae.jG ?_
  rw[decide_eq_true rfl]
  refine bM.and (a:=true) true (fun _=>ae.jG ⟨rfl,rfl⟩) rfl fun _=>?_
  refine bM.and (a:=true) true (fun _=>ae.jG ⟨rfl,rfl⟩) rfl fun _=>?_
  refine bM.and (a:=true) true (fun _=>ae.jG ⟨rfl,rfl⟩) rfl fun _=>?_
  refine bM.and (a:=true) true (fun _=>ae.jG ⟨rfl,rfl⟩) rfl fun _=>?_
  refine bM.and (a:=true) true (fun _=>ae.jG ⟨rfl,rfl⟩) rfl fun _=>?_
  refine bM.and (a:=true) true (fun _=>ae.jG ⟨rfl,rfl⟩) rfl fun _=>?_
  exact bO.mk hE3 rfl
 refine ae.dX (Split.go rfl ?_)
 refine ae.dX (aA.mk (Split.go rfl ?_))
 refine ae.dX (aA.mk (Split.go rfl ?_))
 refine ae.dX (aA.mk (Split.go rfl ?_))
 refine az.whole (r:=[.int .i64 ((0:Nat):Int),.int .i64 ((0:Nat):Int),.int .i64 ((0:Nat):Int),.bool false]) (by exact .tail _ (.tail _ (.tail _ (.tail _ (.tail _ (.tail _ (List.mem_append_right _ (.tail _ (.head _))))))))) rfl ?_
 refine Build.mk (cs:=[.int .i64 ((0:Nat):Int),.int .i64 ((0:Nat):Int),.int .i64 ((0:Nat):Int),.bool false]) (by kernel_rfl) ?_
 refine LU (neq:=true) (x:=.tmp 138) (y:=.tmp 139) (by kernel_rfl) (a1:=0) (a2:=0) (a3:=0) (b1:=0) (b2:=0) (b3:=0) rfl rfl ?_
 refine aA.mk (Split.go rfl ?_)
 refine ag.rd (.cons (.cons (.cons (.cons (.cons (.cons .left)))))) (kI nV) ?_
 rintro v rfl
 exact ae.dX (aA.mk (JE.of (.skip (.skip (.skip (.skip (.skip (.skip (.bN .tail))))))) fin))
end Go.Proofs
