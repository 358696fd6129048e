import Derived.Test.YtfgkdmbicjdeoaaGreatO2
import Derived.Test.YtfgkdmbicjdeoaaGreatO1
set_option linter.unusedVariables false
set_option linter.unusedSimpArgs false
set_option linter.unusedSectionVars false
set_option maxRecDepth 100000
namespace Go.Proofs
open Go Go.Sx
theorem rW{B:Hp}{v:Value}{ts:List Tb}(ht:bN B v ts)(bR:ts.length<4398046511104)(nH:∀n L,ts=gU n L→(L=[]→n=0)→cL ts→12<n):Px Tryz.prog 26 #[v] B (fun r _=>∃e:Nat,r=.tuple #[.int .i64 0,.slice none 0 0,.int .i64 (e:Int)]∧e=if cL ts then 6 else 5):=by
 intro g
 refine kV (R:=cx _) ?_
 unfold L26
 refine ai.px .here (fk ht (by omega)) ?_
 rintro r N0 (⟨hO,bp,bl,bd,n,L,N,rfl,iV,eT,hf,rfl,hp⟩|⟨hO,rfl⟩)
 case inr=>exact Ext.mk rfl (Ext.mk rfl (aa.lS (a:=5) (b:=0) (Br.dec (fun _=>iy.mk (by repeat (first|exact ay.refl _|apply ay.cons|apply ay.app)) ⟨5,rfl,by rw[if_neg hO]⟩) (fun h=>absurd (by decide) h))))
 have qx:=nH n L rfl iV hO
 generalize N0++B=H2 at hp⊢
 clear N0
 obtain⟨jN,jQ,ig,ij,rfl,hM⟩:=hp
 refine Ext.mk rfl (Ext.mk rfl (aa.lS (a:=0) (b:=0) (Br.dec (fun h=>absurd rfl h) (fun _=>?_))))
 refine Nil.ptr ?_
 refine ae.mk (Ld.mk zM rfl ?_)
 exact aa.qy (b:=12) (Br.rR qx (iy.mk (by repeat (first|exact ay.refl _|apply ay.cons|apply ay.app)) ⟨6,rfl,by rw[if_pos hO]⟩))
theorem ni{B:Hp}{v:Value}{ts:List Tb}(ht:bN B v ts)(bR:ts.length<4398046511104){A:Nat}(hA:A<18446744073709551616)(nH:∀n L,ts=gU n L→(L=[]→n=0)→cL ts→12<n):Px Tryz.prog 27 #[v,.int .u64 (A:Int)] B (fun r _=>∃e:Nat,r=.tuple #[.int .i64 0,.int .i64 (e:Int)]∧((¬cL ts∧e=5)∨(cL ts∧∃n L,ts=gU n L∧(L=[]→n=0)∧e=if 2^n≤A then 2 else 6))):=by
 intro g
 refine kU (R:=cx _) ?_
 unfold L27
 refine ai.px .here (fk ht (by omega)) ?_
 rintro r N0 (⟨hO,bp,bl,bd,n,L,N,rfl,iV,eT,hf,rfl,hp⟩|⟨hO,rfl⟩)
 case inr=>exact Ext.mk rfl (Ext.mk rfl (aa.lS (a:=5) (b:=0) (Br.dec (fun _=>iy.mk (by repeat (first|exact ay.refl _|apply ay.cons|apply ay.app)) ⟨5,rfl,.inl ⟨hO,rfl⟩⟩) (fun h=>absurd (by decide) h))))
 have qx:=nH n L rfl iV hO
 generalize N0++B=H2 at hp⊢
 clear N0
 obtain⟨jN,jQ,ig,ij,rfl,hM⟩:=hp
 refine Ext.mk rfl (Ext.mk rfl (aa.lS (a:=0) (b:=0) (Br.dec (fun h=>absurd rfl h) (fun _=>?_))))
 refine DR.self (Nil.ptr ?_)
 refine ae.mk (Ld.mk zM rfl ?_)
 refine ai.rd .here (mC hA _) ?_
 rintro v ⟨r,hr,rfl⟩
 refine⟨.refl _,?_⟩
 refine aa.qy (Br.dec (fun hgt=>iy.mk (by repeat (first|exact ay.refl _|apply ay.cons|apply ay.app)) ⟨2,rfl,.inr ⟨hO,n,L,rfl,iV,by rw[if_pos (hr.gt.1 hgt)]⟩⟩) (fun hgt=>?_))
 have x7:¬(2^n≤A):=fun h=>hgt (hr.gt.2 h)
 refine Nil.ptr ?_
 refine ae.mk (Ld.mk zM rfl ?_)
 exact aa.qy (b:=12) (Br.rR qx (iy.mk (by repeat (first|exact ay.refl _|apply ay.cons|apply ay.app)) ⟨6,rfl,.inr ⟨hO,n,L,rfl,iV,by rw[if_neg x7]⟩⟩))
theorem sN(B:Hp):Px Tryz.prog 25 #[.pointer none] B (fun r _=>r=.tuple #[.agg #[.int .i64 0,.int .i64 0,.int .i64 0,.bool false],.int .i64 10]):=by
 intro g
 refine qk (R:=cx _) ?_
 unfold L25
 intro b1 _
 refine aa.au (Br.yes ?_)
 refine Build.mk (cs:=[.int .i64 0,.int .i64 0,.int .i64 0,.bool false]) (by kernel_rfl) ?_
 refine St.whole (r:=[.int .i64 0,.int .i64 0,.int .i64 0,.bool false]) (by exact .head _) rfl rfl (by simp[Value.oneCell']) ?_
 refine aO.whole (r:=[.int .i64 0,.int .i64 0,.int .i64 0,.bool false]) (by exact .head _) rfl ?_
 exact iy.mk (by repeat (first|exact ay.refl _|apply ay.cons|apply ay.app)) rfl
def kf(ts:List Tb)(i:Nat):Nat:=if∀t∈ts.take i,TF t∧some t.n=ts.head?.map Tb.n then(if∃t∈ts.take i,12<t.n then 6 else 0)else 5
theorem qV(ts:List Tb):kf ts ts.length=if cL ts then(if∃t∈ts,12<t.n then 6 else 0)else 5:=by
 unfold kf cL;rw[List.take_length]
theorem pB{ts:List Tb}{i:Nat}{t:Tb}(h:ts[i]? =some t):kf ts (i+1)=if¬(TF t∧some t.n=ts.head?.map Tb.n)then 5 else if 12<t.n∧kf ts i=0 then 6 else kf ts i:=by
 obtain⟨hi,e⟩:=List.getElem?_eq_some_iff.1 h
 have ht:ts.take (i+1)=ts.take i++[t]:=by rw[List.take_succ_eq_append_getElem hi,e]
 unfold kf
 rw[ht]
 by_cases h1:∀u∈ts.take i,TF u∧some u.n=ts.head?.map Tb.n
 ·by_cases h2:TF t∧some t.n=ts.head?.map Tb.n
  ·rw[if_pos h1,if_neg (show¬¬(TF t∧some t.n=ts.head?.map Tb.n)from fun h=>h h2),if_pos (show∀u∈ts.take i++[t],TF u∧some u.n=ts.head?.map Tb.n from fun u hu=>by rcases List.mem_append.1 hu with hu|hu;exact h1 u hu;rw[List.mem_singleton.1 hu];exact h2)]
   by_cases h3:∃u∈ts.take i,12<u.n
   ·have h4:∃u∈ts.take i++[t],12<u.n:=by obtain⟨u,hu,wW⟩:=h3;exact⟨u,List.mem_append_left _ hu,wW⟩
    rw[if_pos h4,if_pos h3];simp
   ·rw[if_neg h3]
    by_cases h4:12<t.n
    ·have h5:∃u∈ts.take i++[t],12<u.n:=⟨t,by simp,h4⟩
     have h6:12<t.n∧0=0:=⟨h4,rfl⟩
     rw[if_pos h5,if_pos h6]
    ·have h5:¬∃u∈ts.take i++[t],12<u.n:=by
      rintro⟨u,hu,wW⟩
      rcases List.mem_append.1 hu with hu|hu
      ·exact h3 ⟨u,hu,wW⟩
      ·rw[List.mem_singleton.1 hu]at wW;exact h4 wW
     have h6:¬(12<t.n∧0=0):=fun h=>h4 h.1
     rw[if_neg h5,if_neg h6]
  ·rw[if_neg (show¬∀u∈ts.take i++[t],TF u∧some u.n=ts.head?.map Tb.n from fun h=>h2 (h t (by simp))),if_pos h2]
 ·rw[if_neg h1,if_neg (show¬∀u∈ts.take i++[t],TF u∧some u.n=ts.head?.map Tb.n from fun h=>h1 fun u hu=>h u (List.mem_append_left _ hu))]
  split
  ·rfl
  ·rw[if_neg (by omega)]
theorem sR{B:Hp}{v:Value}{ts:List Tb}(ht:bN B v ts)(hfit:vy ts){A:Nat}(hA:A<18446744073709551616):Px Tryz.prog 4 #[v,.int .u64 (A:Int)] B (fun r _=>r=.bool true):=by
 intro g
 refine r7 (R:=cx _) ?_
 unfold L4
 refine ai.px .here (rZ B) ?_
 rintro w N rfl
 refine Un.not (Br.no ?_)
 refine ai.px .here (sN _) ?_
 rintro w N1 rfl
 refine Ext.mk rfl (Ext.mk rfl ?_)
 intro b8 _
 refine St.whole (r:=[.int .i64 0,.int .i64 0,.int .i64 0,.bool false]) (by exact .head _) rfl rfl (by simp[Value.oneCell']) ?_
 have jG:∀{H':Hp},bN H' (.slice none 0 0) []:=⟨[],Sl.nil _ _,gR.nil⟩
 have C8:cL []:=fun t h=>by simp at h
 refine ai.px .here (oT (ts:=[]) jG (by decide)) ?_
 intro w N2 hq
 obtain⟨s,hs,rfl⟩:∃s:Value,(∀{k:Value→Prop},k (.int .i64 0)→aB s k)∧w=.tuple #[.int .i64 0,s,.int .i64 0]:=by
  rcases hq with⟨h,_⟩|⟨_,n,L,e,iV,_,_,hq⟩
  ·exact absurd C8 h
  have hL:L=[]:=by cases L with
   |nil=>rfl
   |cons a b=>simp[gU]at e
  subst hL
  obtain rfl:=iV rfl
  rcases hq with⟨h,_⟩|⟨_,s,C,N,rfl,hown,_⟩
  ·omega
  exact⟨s,fun hk=>hown.bQ hk,rfl⟩
 refine Ext.mk rfl (Ext.mk rfl (Ext.mk rfl ?_))
 have tS:∀{A:Nat} {r:Value},je [] A r→(1≤A∧r=.tuple #[.int .i64 0,.int .i64 2])∨(A=0∧r=.tuple #[.int .i64 0,.int .i64 0]):=fun{A r} hq=>by
  rcases hq with⟨h,_⟩|⟨_,n,L,e,iV,_,_,hq⟩
  ·exact absurd C8 h
  have hL:L=[]:=by cases L with
   |nil=>rfl
   |cons a b=>simp[gU]at e
  subst hL
  obtain rfl:=iV rfl
  rcases hq with⟨h,rfl⟩|⟨_,h,_⟩|⟨h,_,rfl⟩
  ·exact .inl ⟨by simpa using h,rfl⟩
  ·omega
  ·have:A=0:=by simpa using h
   subst this
   exact .inr ⟨rfl,rfl⟩
 refine ai.px .here (gW (ts:=[]) (A:=0) jG (by decide) (by decide)) ?_
 intro w N3 Er
 rcases tS Er with⟨h,_⟩|⟨_,rfl⟩
 ·omega
 refine Ext.mk rfl (Ext.mk rfl ?_)
 refine ai.px .here (gW (ts:=[]) (A:=1) jG (by decide) (by decide)) ?_
 intro w N4 Ep
 rcases tS Ep with⟨_,rfl⟩|⟨h,_⟩
 rotate_left
 ·omega
 refine Ext.mk rfl (Ext.mk rfl ?_)
 refine aa.qu ?_
 rw[decide_eq_false (by simp)]
 refine cw.or (a:=false) false (fun _=>aa.qu ⟨rfl,by simp⟩) rfl fun gs=>?_
 refine cw.or (a:=false) false (fun _=>hs (aa.qu ⟨rfl,by simp⟩)) rfl fun gs=>?_
 refine cw.or (a:=false) false (fun _=>aa.qu ⟨rfl,by simp⟩) rfl fun gs=>?_
 refine cw.or (a:=false) false (fun _=>aa.qu ⟨rfl,by simp⟩) rfl fun gs=>?_
 refine cw.or (a:=false) false (fun _=>aa.qu ⟨rfl,by simp⟩) rfl fun gs=>?_
 refine cw.or (a:=false) false (fun _=>aa.qu ⟨rfl,by simp⟩) rfl fun gs=>Br.no ?_
 generalize Da:(N4++(N3++(N2++_)))=H0
 have CS:ay B H0:=by rw[←Da];exact(by repeat (first|exact ay.refl _|apply ay.cons|apply ay.app))
 have uO:bN H0 v ts:=ht.mono CS.sub
 clear Da
 have hlen:=hfit.1
 refine uO.bQ ?_
 refine⟨fun vs H=>∃(i:Nat),vs=[.int .i64 ((kf ts i:Nat):Int),.int .i64 (i:Int)]∧i≤ts.length∧ay B H,fun vs _=>ts.length-dD vs 1,JE.mk ⟨0,by simp[kf],Nat.zero_le _,CS⟩,?_⟩
 rintro si oA H ⟨i,yR,hi,y6⟩ gs
 simp only[List.cons.injEq,and_true]at yR
 obtain⟨rfl,rfl⟩:=yR
 have yS:bN H v ts:=ht.mono y6.sub
 refine aa.jA (Br.dec (fun hlt=>?_) (fun hge=>?_))
 ·have CD:ts[i]? =some ts[i]:=List.getElem?_eq_getElem hlt
  obtain⟨t0,wY⟩:∃t0,ts[0]? =some t0:=⟨_,List.getElem?_eq_getElem (by omega)⟩
  have xG:ts.head?.map Tb.n=some t0.n:=by rw[List.head?_eq_getElem?,wY];rfl
  have hos:=pB CD
  rw[xG]at hos
  generalize ts[i]=t at*
  intro qz E6
  refine yS.ld CD (fun _ h=>h) fun s hs=>?_
  intro vk _
  refine St.whole (r:=[.int .i64 t.n,s]) (by exact .head _) rfl rfl (fun u hu=>?_) ?_
  ·simp only[List.mem_cons,List.not_mem_nil,or_false]at hu
   rcases hu with rfl|rfl
   ·rfl
   ·have:=aN hs;simpa[Value.oneCell']using this
  intro yC E5
  have back:∀c:Nat,kf ts (i+1)=c→qz [.int .i64 (c:Int)] ((vk,Obj.cells (List.toArray [.int .i64 t.n,s]) 57 (0,0))::H):=fun c hc=>by
   refine E6 _ _ fun gs=>?_
   refine aa.cE (b:=1) (by simp only[aK];omega) ?_
   exact aS.mk ⟨i+1,by rw[hc],hlt,.cons y6⟩ (by simp only[dD];omega)
  have x8:∀bb:Bool,(bb=true↔¬(TF t∧some t.n=some t0.n))→yC [.bool bb] ((vk,Obj.cells (List.toArray [.int .i64 t.n,s]) 57 (0,0))::H):=by
   intro bb CY
   refine E5 _ _ fun gs=>Br.mk (fun h=>?_) (fun h=>?_)
   ·rw[if_pos (CY.1 h)]at hos
    exact JE.mk (back 5 hos)
   ·have hn:¬¬(TF t∧some t.n=some t0.n):=fun h2=>by rw[CY.2 h2]at h;cases h
    rw[if_neg hn]at hos
    refine ae.mk (Ld.mk (v:=.int .i64 t.n) (by exact .head _) rfl ?_)
    refine aa.gtr ?_
    refine cw.and (a:=decide (12<t.n)) (decide (kf ts i=0)) (fun _=>aa.fy (b:=0) ⟨rfl,rfl⟩) rfl fun gs=>?_
    refine Br.mk (fun h=>?_) (fun h=>?_)
    ·simp only[Bool.and_eq_true,decide_eq_true_eq]at h
     rw[if_pos h]at hos
     exact JE.mk (back 6 hos)
    ·rw[←Bool.not_eq_true,Bool.and_eq_true,decide_eq_true_eq,decide_eq_true_eq]at h
     rw[if_neg h]at hos
     exact JE.mk (back _ hos)
  refine DR.self ?_
  refine aO.whole (r:=[.int .i64 t.n,s]) (by exact .head _) rfl ?_
  intro F
  refine ai.rd .here (qM (t:=t) (v:=.agg (List.toArray [.int .i64 t.n,s])) ⟨s,rfl,hs.mono fun _ h=>.tail _ h⟩) ?_
  rintro w rfl
  refine⟨.refl _,?_⟩
  refine Un.not ?_
  by_cases qw:TF t
  ·rw[decide_eq_true qw]
   refine Br.no ?_
   refine ae.mk (Ld.mk (v:=.int .i64 t.n) (by exact .head _) rfl ?_)
   refine yS.uH (i:=0) wY (fun _ h=>.tail _ h) ?_
   refine aa.qu (aA.mk ?_)
   refine JE.mk (x8 _ ?_)
   rw[decide_eq_true_iff]
   simp[qw]
  ·rw[decide_eq_false qw]
   exact Br.yes (JE.mk (x8 true (by simp[qw])))
 obtain rfl:i=ts.length:=by omega
 rw[qV]
 refine aa.fy (b:=0) (Br.dec (fun h0=>iy.mk y6 rfl) (fun h0=>?_))
 have nH:∀n L,ts=gU n L→(L=[]→n=0)→cL ts→12<n:=fun n L e hn hO=>by
  rw[if_pos hO]at h0
  have h1:∃t∈ts,12<t.n:=by
   refine Classical.byContradiction fun h=>h0 ?_
   rw[if_neg h]
  obtain⟨t,ht,qx⟩:=h1
  rw[e]at ht
  obtain⟨ws,_,rfl⟩:=List.mem_map.1 ht
  have:(12:Int)<(n:Int):=qx
  omega
 refine ai.px .here (l6 yS hfit) ?_
 intro w5 N5 Ek
 refine ai.px .here (rW Ek hlen nH) ?_
 rintro w6 N6 ⟨e6,rfl,y8⟩
 refine Ext.mk rfl (Ext.mk rfl (Ext.mk rfl ?_))
 refine ai.px .here (l6 (yS.mono fun _ h=>List.mem_append_right _ (List.mem_append_right _ h)) hfit) ?_
 intro w7 N7 Ej
 refine ai.px .here (ni Ej hlen hA nH) ?_
 rintro w8 N8 ⟨e8,rfl,vW⟩
 have y7:ay B (N8++(N7++(N6++(N5++H)))):=.app (.app (.app (.app y6)))
 have Ei:=ht.mono y7.sub
 generalize N8++(N7++(N6++(N5++H)))=HE at*
 refine Ext.mk rfl (Ext.mk rfl ?_)
 rcases vW with⟨hO,rfl⟩|⟨hO,n,L,hts,iV,vW⟩
 ·rw[if_neg hO]at y8⊢
  subst y8
  refine aa.fy (a:=5) (b:=6) ?_
  refine cw.and (a:=false) false (fun h=>by cases h) rfl fun gs=>Br.no ?_
  refine aa.fy (a:=5) (b:=5) ?_
  refine cw.and (a:=true) true (fun _=>aa.fy (a:=5) (b:=5) ⟨rfl,rfl⟩) rfl fun gs=>?_
  refine cw.and (a:=true) true (fun _=>da.nil.bQ (kd:=.i64) (B:=[]) (aa.fy (a:=0) (b:=0) ⟨rfl,rfl⟩)) rfl fun gs=>?_
  refine cw.and (a:=true) true (fun _=>aa.fy (a:=0) (b:=0) ⟨rfl,rfl⟩) rfl fun gs=>?_
  exact iy.mk y7 rfl
 ·have qx:=nH n L hts iV hO
  have A8:L≠[]:=fun e=>by have:=iV e;omega
  have hex:∃t∈ts,12<t.n:=by
   rw[if_pos hO]at h0
   refine Classical.byContradiction fun h=>h0 ?_
   rw[if_neg h]
  rw[if_pos hO]at y8⊢
  rw[if_pos hex]
  subst y8
  obtain⟨zD,An⟩:∃zD,L[0]? =some zD:=⟨_,List.getElem?_eq_getElem (List.length_pos_iff.2 A8)⟩
  have hz:ts[0]? =some ⟨n,zD⟩:=by rw[hts];unfold gU;rw[List.getElem?_map,An];rfl
  refine aa.fy (a:=6) (b:=6) ?_
  refine cw.and (a:=true) (decide (0<A>>>n)) (fun _=>?_) rfl fun gs=>?_
  ·refine Ei.uH (i:=0) hz (fun _ h=>h) ?_
   refine aa.eL (by simp only[aK];omega) ?_
   exact aa.qy (b:=0) ⟨rfl,rfl⟩
  have hsh:0<A>>>n↔2^n≤A:=by
   rw[Nat.shiftRight_eq_div_pow]
   exact⟨fun h=>Classical.byContradiction fun h2=>by rw[Nat.div_eq_of_lt (by omega)]at h;omega,fun h=>Nat.div_pos h (Nat.two_pow_pos n)⟩
  by_cases zk:2^n≤A
  ·rw[decide_eq_true (hsh.2 zk)]
   rw[if_pos zk]at vW
   subst vW
   refine Br.yes ?_
   refine aa.fy (a:=6) (b:=6) ?_
   refine cw.and (a:=true) true (fun _=>aa.fy (a:=2) (b:=2) ⟨rfl,rfl⟩) rfl fun gs=>?_
   exact iy.mk y7 rfl
  ·rw[decide_eq_false (fun h=>zk (hsh.1 h))]
   rw[if_neg zk]at vW
   subst vW
   refine Br.no ?_
   refine aa.fy (a:=6) (b:=6) ?_
   refine cw.and (a:=true) true (fun _=>aa.fy (a:=6) (b:=6) ⟨rfl,rfl⟩) rfl fun gs=>?_
   refine cw.and (a:=true) true (fun _=>da.nil.bQ (kd:=.i64) (B:=[]) (aa.fy (a:=0) (b:=0) ⟨rfl,rfl⟩)) rfl fun gs=>?_
   refine cw.and (a:=true) true (fun _=>aa.fy (a:=0) (b:=0) ⟨rfl,rfl⟩) rfl fun gs=>?_
   exact iy.mk y7 rfl
section
open Go.ChangeShapes Go.WideShapes Go.Deep
variable {H:Type} {enc:TypeId×Value→H} {W:World} {base:Nat} {spare:Nat→Bool} {held:Bool}
theorem wP{l:List Int}(h:∀n∈l,(Lit.int .u64 n).wf=true):∃ws:List Nat,iw ws=l∧∀w∈ws,w<18446744073709551616:=by
 induction l with
 |nil=>exact⟨[],rfl,by simp⟩
 |cons n r ih=>
  obtain⟨ws,h1,h2⟩:=ih fun m hm=>h m (by simp[hm])
  have:=bounds_u64 (h n (by simp))
  refine⟨n.toNat::ws,?_,fun w hw=>?_⟩
  ·simp only[iw,List.map_cons]at h1⊢
   rw[h1];congr 1;omega
  ·rcases List.mem_cons.1 hw with rfl|hw
   ·omega
   ·exact h2 w hw
theorem uD{fuel:Nat}{cs:List Value}{y:DataW H×List MemPlace}(hl:cs.length=2)(h:DataW.trod enc Tryz.prog W base spare held fuel 57 cs=some y):
  ∃t:Tb,nS (whole W) cs t∧((∀n∈y.1.weights Tryz.prog 57,n≤reachBytes)→t.ws.length*8≤140737488351232):=by
 obtain⟨xs,n,_,hy,_,hx,hf⟩:=DataW.trod_struct Tryz.underlying57 h
 match cs,hl with
 | [c0,c1],_=>
  have Am:xs.length=2:=hx
  have k3:Tryz.prog.cellsOf 3=1:=by kernel_rfl
  have D8:Tryz.prog.cellsOf 55=1:=by kernel_rfl
  have D9:Tryz.prog.cellsOf 50=1:=by kernel_rfl
  have g0:DataW.trod enc Tryz.prog W base spare held n 3 (List.take (Tryz.prog.cellsOf 3) [c0,c1])=xs[0]? :=hf 0 _ rfl
  have g1:DataW.trod enc Tryz.prog W base spare held n 55 (List.take (Tryz.prog.cellsOf 55) [c1])=xs[1]? :=hf 1 _ rfl
  rw[k3,List.getElem?_eq_getElem (by omega)]at g0
  rw[D8,List.getElem?_eq_getElem (by omega)]at g1
  simp only[List.take_succ_cons,List.take_zero]at g0 g1
  obtain⟨n0,e0,_,_⟩:=DataW.trod_int Tryz.underlying3 g0
  obtain⟨v,l,e1,hi,hwf,hw⟩:=o9 Tryz.underlying55 Tryz.underlying50 D9 g1
  simp only[List.cons.injEq,and_true]at e0 e1
  subst e0;subst e1
  obtain⟨ws,rfl,hlt⟩:=wP hwf
  refine⟨⟨n0,ws⟩,⟨c1,rfl,hi,hlt⟩,fun an=>?_⟩
  rcases hw with⟨h1,_⟩|⟨es,sp,h1,h2⟩
  ·have:ws=[]:=by simpa[iw]using h1
   subst this;simp
  ·have hm:(es.length+sp.length)*Tryz.prog.bytesOf 50∈y.1.weights Tryz.prog 57:=by
    rw[hy]
    match xs,Am with
    | [x0,x1],_=>
     simp only[List.getElem_cons_succ,List.getElem_cons_zero]at h1
     simp only[List.map_cons,List.map_nil,h1,DataW.weights,Tryz.underlying57]
     refine List.mem_append_right _ ?_
     exact List.mem_append_left _ (by rw[DataW.weights,Tryz.underlying55];exact List.mem_cons_self ..)
   have:=an _ hm
   rw[show Tryz.prog.bytesOf 50=8 by kernel_rfl]at this
   have h3:reachBytes=140737488351232:=rfl
   rw[bP]at h2
   simp only at this⊢
   omega
theorem eF{P:Program}{e:TypeId}:∀{ds:List (DataW H)} {i:Nat} {d:DataW H},ds[i]? =some d→∀n∈d.weights P e,n∈DataW.weightsAll P e ds
 |d0::r,0,d,h,n,hn=>by
  simp only[List.getElem?_cons_zero,Option.some.injEq]at h;subst h
  rw[DataW.weightsAll];exact List.mem_append_left _ hn
 |d0::r,i+1,d,h,n,hn=>by
  rw[DataW.weightsAll];exact List.mem_append_right _ (eF (by simpa using h) n hn)
 | [],i,d,h,n,hn=>by simp at h
theorem sL{v:Value}{d:DataW H}{ps:List MemPlace}(h:DataW.Trod enc Tryz.prog W base spare held 28 v d ps)(hv:∃a n c,v=.slice a n c):
  ∃ts,bN (whole W) v ts∧((∀n∈d.weights Tryz.prog 28,n≤reachBytes)→vy ts):=by
 obtain⟨fuel,hf⟩:=h
 obtain⟨v',rs,hcs,uP,hx,hr⟩:=kC Tryz.underlying28 (k:=2) (by kernel_rfl) (by decide) hf
 have yR:v'=v:=by
  obtain⟨a,n,c,rfl⟩:=hv
  simpa[Value.cells]using hcs.symm
 subst yR
 have hex:∀(rs:List (List Value)) (j:Nat),(∀r∈rs,r.length=2)→(∀(i:Nat) (r:List Value),rs[i]? =some r→∃(fuel:Nat) (y:DataW H×List MemPlace) (es sp:List (DataW H)),DataW.trod enc Tryz.prog W base spare held fuel 57 r=some y∧d=.slice es sp∧es[i+j]? =some y.1)→
   ∃ts:List Tb,ts.length=rs.length∧∀(i:Nat) (r:List Value) (t:Tb),rs[i]? =some r→ts[i]? =some t→nS (whole W) r t∧((∀n∈d.weights Tryz.prog 28,n≤reachBytes)→t.ws.length*8≤140737488351232):=by
  intro rs
  induction rs with
  |nil=>intro j _ _;exact⟨[],rfl,by simp⟩
  |cons r rest ih=>
   intro j an hr
   obtain⟨ts,h1,h2⟩:=ih (j+1) (fun r h=>an r (by simp[h])) fun i r' hi=>by
    have:=hr (i+1) r' (by simpa using hi)
    rwa [show i+1+j=i+(j+1)by omega]at this
   obtain⟨f,y,es,sp,h3,h4,h5⟩:=hr 0 r rfl
   obtain⟨t,h6,h7⟩:=uD (an r (by simp)) h3
   refine⟨t::ts,by simp[h1],fun i r' t' g1 g2=>?_⟩
   cases i with
   |zero=>
    simp only[List.getElem?_cons_zero,Option.some.injEq]at g1 g2
    subst g1;subst g2
    refine⟨h6,fun an=>h7 fun n hn=>an n ?_⟩
    rw[h4,DataW.weights,Tryz.underlying28]
    exact .tail _ (List.mem_append_left _ (eF h5 n hn))
   |succ i=>exact h2 i r' t' (by simpa using g1) (by simpa using g2)
 obtain⟨ts,h1,h2⟩:=hex rs 0 uP.1 hr
 refine⟨ts,⟨rs,uP,h1.symm,fun i r x g1 g2=>(h2 i r x g1 g2).1⟩,fun an=>⟨?_,fun t ht=>?_⟩⟩
 ·rcases hx with⟨h3,_⟩|⟨es,sp,h3,h4⟩
  ·subst h3;have:=h1;simp at this;subst this;simp
  ·simp only at h3
   have:=an ((es.length+sp.length)*Tryz.prog.bytesOf 57) (by rw[h3,DataW.weights,Tryz.underlying28];exact List.mem_cons_self ..)
   rw[show Tryz.prog.bytesOf 57=32 by kernel_rfl]at this
   have h5:=reachBytes_lt
   omega
 ·obtain⟨i,hi,e⟩:=List.mem_iff_getElem.1 ht
  have EE:i<rs.length:=by omega
  exact(h2 i _ t (List.getElem?_eq_getElem EE) (by rw[List.getElem?_eq_getElem hi,e])).2 an
end
end Go.Proofs
