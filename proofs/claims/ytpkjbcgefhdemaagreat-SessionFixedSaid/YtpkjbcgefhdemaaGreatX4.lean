import Derived.Test.YtpkjbcgefhdemaaGreatX3
import Derived.Test.YtpkjbcgefhdemaaGreatX1
import Derived.Test.YtpkjbcgefhdemaaGreatX2
set_option linter.unusedVariables false
set_option linter.unusedSimpArgs false
set_option linter.unusedSectionVars false
set_option maxRecDepth 100000
namespace Go.Proofs
open Go Go.Sx
open av
section
variable {kp v gr:Nat} {K:Kd} {S:Nat→av.Fn} {ord tr:List Nat} {C:Hp}
theorem nR(kp:Nat){gr:Int}(C:Hp):Rd Tryz.prog 186 #[ptr kp,.int .i64 gr] C (· =.int .i64 (if gr<100∨1000<gr then 1 else 0)):=by
 refine aP fun g=>xm ?_
 refine aa.an (Br.no ?_)
 refine aa.lss ?_
 refine c7.or (decide (1000<gr)) (fun _=>aa.gtr ⟨rfl,rfl⟩) rfl fun gs=>?_
 by_cases h:gr<100∨1000<gr
 ·rw[if_pos h]
  refine Br.En ?_ (bC.mk (.refl _) rfl)
  simpa using h
 ·rw[if_neg h]
  refine Br.L4 ?_ (bC.mk (.refl _) rfl)
  simpa using h
theorem HP(hp:ord.Perm (List.range K.n)){p:Nat}(D7:p<K.n)(hv:ord.getD p 0=v):ord.idxOf v=p:=by
 have GY:ord.length=K.n:=by rw[hp.length_eq,List.length_range]
 have fI:ord.Nodup:=hp.nodup_iff.2 List.nodup_range
 have hm:v∈ord:=by
  rw[←hv,List.getD_eq_getElem?_getD,List.getElem?_eq_getElem (by omega)];exact List.getElem_mem _
 have h1:=List.idxOf_lt_length_of_mem hm
 refine getD_inj fI h1 (by omega) ?_
 rw[hv,List.getD_eq_getElem?_getD,List.getElem?_eq_getElem h1]
 exact List.getElem_idxOf h1
theorem EE(h:At kp K S ord tr C)(hp:ord.Perm (List.range K.n))(hv:v<K.n)(nw:100≤gr∧gr≤1000)(iD:tr.length<17454747090944){r:Nat×Nat}(hr:(rm K S).qX gr ord (ord.idxOf v)=r):
  Fc Tryz.prog 188 #[ptr kp,.int .i64 (v:Int),.int .i64 (gr:Int)] C (fun w H=>w=.tuple #[rep (fy K S ord) (fy K S (aK ord (road (ord.idxOf v) r.1))) r.2,.int .i64 0]∧At kp K S (aK ord (road (ord.idxOf v) r.1)) (tr++road (ord.idxOf v) r.1) H):=by
 have hn:=h.mV
 have GY:ord.length=K.n:=by rw[hp.length_eq,List.length_range]
 have hsz:=ia h
 have tW:(rm K S).n=K.n:=rfl
 refine aP fun g=>xk ?_
 intro b1 _
 refine ae.eq (nR kp (gr:=(gr:Int)) C) ?_
 rw[if_neg (by omega)]
 refine aa.eP (Br.F ?_)
 refine ae.rq (tF h hv) ?_
 rintro w ⟨p,D7,Im,rfl⟩
 have Mh:=HP hp D7 Im
 rw[Mh]at hr⊢
 have RJ:p<(rm K S).n:=D7
 refine Ext.two ?_
 refine aa.eP (Br.F ?_)
 refine ae.eq (ic h) ?_
 refine Build.mk (cs:=[.int .i64 ((fy K S ord:Nat):Int),.int .i64 0,.int .i64 0,.bool false]) (by kernel_rfl) ?_
 intro ML _
 refine St.q ?_
 refine Ld.f ?_
 refine Build.mk (cs:=[ptr kp,.int .i64 (p:Int),.int .i64 ((fy K S ord:Nat):Int),.int .i64 (p:Int),.int .i64 (gr:Int),.int .i64 0,.int .i64 0,.nilFunc]) (by kernel_rfl) ?_
 intro wp _
 refine ae.eq (nM h) ?_
 refine aa.bF (b:=1) ?_
 refine aa.bF ?_
 refine aa.zF ?_
 obtain⟨X,hX⟩:∃X:Hp,X=[(ML,Obj.cells (List.toArray [.int .i64 ((fy K S ord:Nat):Int),.int .i64 0,.int .i64 0,.bool false]) 147 (0,0)),(b1,Obj.cells #[.int .i64 0,.int .i64 0,.int .i64 0,.bool false] 147 (0,0))]:=⟨_,rfl⟩
 unfold Rm.qX at hr
 simp only[tW]at hr
 rw[show(rm K S).size ord=fy K S ord from rfl]at hr
 generalize hdn:decide (K.n-1-p≤p)=dn at*
 have OV:∀x:Nat×Obj,aR (x::(ML,Obj.cells (List.toArray [.int .i64 ((fy K S ord:Nat):Int),.int .i64 0,.int .i64 0,.bool false]) 147 (0,0))::(b1,Obj.cells #[.int .i64 0,.int .i64 0,.int .i64 0,.bool false] 147 (0,0))::C) (X++(x::C)):=fun x=>.perm (by rw[hX];exact(List.perm_middle (l₁:=[_,_])).symm)
 refine ae.pre (OV _) ?_
 refine ae.fq (mi (wp:=wp) (a:=p) (b:=fy K S ord) (q:=p) (gr:=gr) (sw:=0) (la:=0) (st:=.nilFunc) (dn:=dn) h (by omega)) ?_
 rintro w H ⟨rfl,bx,rfl⟩
 refine ae.fn (.app .here) (BC h D7 nw (by omega) (by omega) iD rfl rfl) ?_
 rintro w H ⟨rfl,C1,rfl,Lt⟩
 have yw:=(rm K S).ob gr ord p dn ((rm K S).rest dn p) p (fy K S ord) p (fun h=>by unfold Rm.rest;rw[h];exact Nat.le_refl _) (by rw[eu];rfl)
 generalize (rm K S).tU gr ord p dn ((rm K S).rest dn p) p (fy K S ord) p=a at*
 have jC:=(rm K S).ob gr ord p (!dn) ((rm K S).rest (!dn) p) p a.2.1 a.2.2 (fun h=>by unfold Rm.rest;rw[h];exact Nat.le_refl _) yw.size
 obtain⟨a1,a2,a3,a4⟩:=yw
 unfold Rm.rest at a1
 rw[tW]at a1
 have s6:a.1<K.n∧((p≤a.1)∨(a.1≤p)):=by cases dn<;>simp only[cond_false,cond_true]at a1<;>omega
 have hab:a.2.1≤1048576:=by
  have:a.2.1≤fy K S ord:=by omega
  omega
 have CP:dst a.1 p≤64:=by unfold dst;omega
 refine ae.pre (aR.dx (.cons .tail) X) ?_
 refine ae.fn (.app .here) (qR (t:=p) Lt GY D7 (by omega) (by omega) iD) ?_
 rintro w H ⟨rfl,C2,rfl,oC⟩
 rw[eu,List.append_nil]at oC
 have oC:At kp K S ord tr C2:=oC
 refine Ld.n ?_
 refine Un.not ?_
 refine ae.fq (mi (dn:= !dn) oC (by omega)) ?_
 rintro w H ⟨rfl,TX,rfl⟩
 refine ae.fn (.app .here) (BC oC D7 nw hab (by omega) iD rfl rfl) ?_
 rintro w H ⟨rfl,C3,rfl,JL⟩
 generalize (rm K S).tU gr ord p (!dn) ((rm K S).rest (!dn) p) p a.2.1 a.2.2=b at*
 obtain⟨e1,e2,e3,e4⟩:=jC
 unfold Rm.rest at e1
 rw[tW]at e1
 have D8:bif dn then p≤a.2.2∧a.2.2≤a.1 else a.1≤a.2.2∧a.2.2≤p:=by
  cases dn<;>simp only[cond_false,cond_true]at a3 a1⊢ <;>omega
 have Ms:b.1<K.n∧((p≤b.1)∨(b.1≤p)):=by cases dn<;>simp only[cond_false,cond_true,Bool.not_false,Bool.not_true]at e1<;>omega
 have qq:dst b.1 p≤64:=by unfold dst;omega
 intro SW Sm
 have fin:∀(bb:Nat) (uD:Int) (M1:Value) (Cf:Hp),At kp K S (aK ord (road p r.1)) (tr++road p r.1) Cf→SW [] (X++(cV wp (dX kp r.1 bb r.1 gr r.2 uD M1)::Cf)):=by
  intro bb uD M1 Cf Qd
  rw[hX]
  refine Sm _ fun gs=>?_
  refine DR.of (R:=[cV wp (dX kp r.1 bb r.1 gr r.2 uD M1)]) (aR.HY (.tail _ (.tail _ (.head _)))) ?_
  refine Ld.n ?_
  intro F
  refine ae.eq (ic Qd) ?_
  refine⟨aR.HY (.tail _ (.tail _ (.head _))),?_⟩
  refine ag.mk fun F=>?_
  refine St.one (c':=#[.int .i64 ((fy K S ord:Nat):Int),.int .i64 ((fy K S (aK ord (road p r.1)):Nat):Int),.int .i64 0,.bool false]) (by exact .head _) rfl (by simp) rfl ?_
  refine⟨aR.HY (.tail _ (.tail _ (.head _))),?_⟩
  refine ag.mk fun F=>?_
  refine St.one (c':=#[.int .i64 ((fy K S ord:Nat):Int),.int .i64 ((fy K S (aK ord (road p r.1)):Nat):Int),.int .i64 ((r.2:Nat):Int),.bool false]) (by exact .head _) rfl (by simp) rfl ?_
  refine ay.q ?_
  refine St.q ?_
  refine ay.q ?_
  exact aZ.mk (.skip (.skip .tail)) ⟨rfl,Qd⟩
 refine Ld.n ?_
 refine aa.Jm (Br.dec (fun hne=>?_) (fun heq=>?_))
 ·-- the other way is better
  rw[if_pos hne]at hr
  refine Ld.n ?_
  refine ae.pre (aR.dx (.cons .tail) X) ?_
  have RS:(p≤b.2.2∧b.2.2≤b.1∧b.1<K.n)∨(b.1≤b.2.2∧b.2.2≤p):=by
   cases dn<;>simp only[cond_false,cond_true,Bool.not_false,Bool.not_true]at e3 e1<;>omega
  refine ae.fn (.app .here) (qR (t:=b.2.2) JL GY D7 RS (by omega) iD) ?_
  rintro w H ⟨rfl,C4,rfl,IX⟩
  subst hr
  refine JE.mk ?_
  rw[Nat.zero_add]
  exact fin b.2.1 _ _ C4 IX
 ·-- back again
  have heq:b.2.2=a.2.2:=Classical.not_not.1 heq
  rw[if_neg (fun h=>h heq)]at hr
  refine ae.pre (aR.dx (.cons .tail) X) ?_
  refine ae.fn (.app .here) (qR (t:=p) JL GY D7 (by omega) (by omega) iD) ?_
  rintro w H ⟨rfl,C4,rfl,IX⟩
  rw[eu,List.append_nil]at IX
  have IX:At kp K S ord tr C4:=IX
  refine ae.fq (mi (dn:=dn) IX (by omega)) ?_
  rintro w H ⟨rfl,DF,rfl⟩
  obtain⟨s3,Rh⟩:∃s3,s3=0+dst a.1 p+dst a.1 p+dst b.1 p+dst b.1 p:=⟨_,rfl⟩
  rw[←Rh]
  obtain⟨GL,NU⟩:∃GL,GL=(bif dn then((K.n-1:Nat):Int)else 0):=⟨_,rfl⟩
  rw[←NU]
  refine⟨fun vs H=>∃(i:Nat) (C':Hp),vs=[]∧H=cV wp (dX kp i b.2.1 b.2.2 gr (s3+dst p i) GL (rW dn DF))::j7 DF wp::(X++C')∧At kp K S (aK ord (road p i)) (tr++road p i) C'∧(bif dn then p≤i∧i≤b.2.2 else b.2.2≤i∧i≤p),
   fun _ H=>dst (tQ H) b.2.2,JE.of (H':=cV wp (dX kp p b.2.1 b.2.2 gr s3 GL (rW dn DF))::j7 DF wp::(X++C4)) (.perm ?_) ⟨p,C4,rfl,by simp[dst],by rw[eu,List.append_nil];exact IX,?_⟩,?_⟩
  ·exact(List.perm_middle (l₁:=X)).trans (List.Perm.cons _ List.perm_middle)
  ·rw[heq]
   cases dn<;>simp only[cond_false,cond_true]at D8⊢ <;>omega
  rintro H ⟨i,C5,_,rfl,Qf,hi⟩ gs
  rw[heq]at hi
  have hin:i<K.n:=by cases dn<;>simp only[cond_false,cond_true]at hi D8<;>omega
  have RK:dst p i≤64:=by unfold dst;omega
  have Ij:=kf hn D7 hin
  intro T8 Qi
  refine DR.self ?_
  refine Ld.n ?_
  refine Ld.n ?_
  refine aa.Jm (Br.dec (fun hne=>?_) (fun NY=>?_))
  ·refine Ld.n ?_
   intro F
   refine bg.of (f:=Jj dn) rfl (sg dn) ?_
   have Rl:aR (cV wp (dX kp i b.2.1 b.2.2 gr (s3+dst p i) GL (rW dn DF))::j7 DF wp::(X++C5)) (X++(cV wp (dX kp i b.2.1 b.2.2 gr (s3+dst p i) GL (rW dn DF))::j7 DF wp::C5)):=
    .perm ((List.perm_middle (l₁:=X)).trans (List.Perm.cons _ List.perm_middle)).symm
   refine ae.pre Rl ?_
   have hstep:bif dn then p≤i∧i+1<K.n else 0<i∧i≤p:=by
    rw[heq]at hne
    cases dn<;>simp only[cond_false,cond_true]at hi D8⊢ <;>omega
   have hfit:iQ K S (aK ord (road p i)) (HH dn i):=by
    refine uv.1 (a4 i ?_)
    rw[heq]at hne
    cases dn<;>simp only[cond_false,cond_true]at hi D8⊢ <;>omega
   refine ae.fn (args:=#[ptr DF]) (.app .here) (si Qf D7 hstep (by rw[List.length_append];omega) hfit (by omega)) ?_
   rintro w H ⟨rfl,C6,rfl,Sg⟩
   refine aa.iq (aq.mk ?_)
   have zO:s3+dst p i+1=s3+dst p (jy dn i):=by unfold dst jy;cases dn<;>simp only[cond_false,cond_true]at hstep⊢ <;>omega
   rw[zO]
   refine JE.of (.perm ((List.perm_middle (l₁:=X)).trans (List.Perm.cons _ List.perm_middle))) (Qi _ _ fun gs=>Br.yes ?_)
   refine aB.mk ⟨jy dn i,C6,rfl,rfl,Sg,?_⟩ ?_
   ·rw[heq]at hne⊢
    unfold jy
    cases dn<;>simp only[cond_false,cond_true]at hi hstep⊢ <;>omega
   ·have uJ:∀i sw C',tQ (cV wp (dX kp i b.2.1 b.2.2 gr sw GL (rW dn DF))::C')=i:=fun i sw C'=>by simp[tQ,cV,dX,ca]
    rw[uJ,uJ,heq]
    rw[heq]at hne
    unfold jy dst
    cases dn<;>simp only[cond_false,cond_true]at hi hstep⊢ <;>omega
  ·have NY:i=b.2.2:=Classical.not_not.1 NY
   subst NY
   subst hr
   refine JE.mk (Qi _ _ fun gs=>Br.no ?_)
   refine JE.of ?_ (fin b.2.1 GL (rW dn DF) C5 Qf)
   refine(aR.cons .tail).trans ?_
   refine(aR.perm (List.perm_middle (l₁:=X)).symm).trans ?_
   have e:s3+dst p b.2.2=dst a.1 p+dst a.1 p+dst b.1 p+(dst b.1 p+dst p b.2.2):=by omega
   rw[e]
   exact .refl _
end
end Go.Proofs
namespace eH
open Go.Sx
def GI:List Nat→Nat
 | []=>0
 |x::r=>r.foldl min x
def sN(n a:Nat):List Nat:=(List.range n).filter fun v=> !a.testBit v
def has(n a:Nat):List Nat:=(List.range n).filter fun v=>a.testBit v
def Qq(n:Nat)(c:Nat→Nat→Nat):Nat→Nat→Nat
 |0,_=>0
 |f+1,a=>GI ((sN n a).map fun v=>c a v+Qq n c f (aO a v true))
def par(n:Nat)(c:Nat→Nat→Nat):Nat→Nat→Nat
 |0,_=>0
 |f+1,s=>GI ((has n s).map fun v=>c (aO s v false) v+par n c f (aO s v false))
def B(n:Nat)(c:Nat→Nat→Nat)(a:Nat):Nat:=Qq n c n a
def W(n:Nat)(c:Nat→Nat→Nat)(s:Nat):Nat:=par n c n s
structure Used(n:Nat)(c:Nat→Nat→Nat)(U:Nat):Prop where
 zero:∀a v,v<n→a.testBit v=false→U.testBit v=false→c a v=0
 mask:∀a v,v<n→a.testBit v=false→c a v=c (a&&&U) v
def ord(n:Nat)(c:Nat→Nat→Nat):Nat→Nat→List Nat
 |0,_=>[]
 |f+1,a=>match(sN n a).find? fun v=>c a v+B n c (aO a v true)==B n c a with
  |some v=>v::ord n c f (aO a v true)
  |none=>[]
end eH
namespace eH
open Go.Sx
theorem dF{x u v:Nat}{b c:Bool}(h:u≠v):aO (aO x u b) v c=aO (aO x v c) u b:=by
 apply Nat.eq_of_testBit_eq;intro k
 rw[ah,ah,ah,ah]
 by_cases e1:k=u<;>by_cases e2:k=v
 ·exact absurd (e1.symm.trans e2) h
 ·simp[e1,h]
 ·simp[e2,Ne.symm h]
 ·simp[e1,e2]
end eH
set_option maxRecDepth 100000
namespace Go.Proofs
open Go Go.Sx
def kp(x:Nat×Nat):Value:=.agg (au .i64 [(x.1:Int),(x.2:Int)])
end Go.Proofs
namespace D1
abbrev It:=Int×Int
def prec(a b:It):Bool:=decide (a.2<b.2)||(a.2==b.2&&decide (a.1<b.1))
theorem nX{a b:It}:prec a b=true↔a.2<b.2∨a.2=b.2∧a.1<b.1:=by simp[prec]
theorem gO{a b:It}:prec a b=false↔¬(a.2<b.2∨a.2=b.2∧a.1<b.1):=by rw[←nX];simp
theorem iJ(a:It):prec a a=false:=by rw[gO];omega
theorem kj{a b:It}(h:prec a b=true):prec b a=false:=by rw[nX]at h;rw[gO];omega
theorem le_trans{a b c:It}(h1:prec b a=false)(h2:prec c b=false):prec c a=false:=by rw[gO]at*;omega
theorem uC{a b c:It}(h1:prec a b=true)(h2:prec c b=false):prec c a=false:=by rw[nX]at h1;rw[gO]at*;omega
def dZ(V:Nat→It)(i:Nat)(b:It):Nat→It:=fun j=>if j=i then b else V j
def E(V:Nat→It)(j:Nat):Prop:=prec (V j) (V ((j-1) /2))=false
def qC(n:Nat)(V:Nat→It)(i:Nat):Prop:=
 (∀j,0<j→j<n→j≠i→(j-1) /2≠i→E V j)∧(∀j,0<j→j<n→(j-1) /2=i→0<i→prec (V j) (V ((i-1) /2))=false)
def jK(n:Nat)(V:Nat→It)(i:Nat):Prop:=∀j,0<j→j<n→(j-1) /2=i→E V j
def Gx(n:Nat)(V:Nat→It)(i:Nat):Prop:=
 (∀j,0<j→j<n→(j-1) /2≠i→E V j)∧(∀j,0<j→j<n→(j-1) /2=i→0<i→prec (V j) (V ((i-1) /2))=false)
def Ord(n:Nat)(V:Nat→It):Prop:=∀j,0<j→j<n→E V j
theorem Et{n i:Nat}{V:Nat→It}(hi:0<i)(hn:i<n)(h:qC n V i)(ha:prec (V i) (V ((i-1) /2))=true):
  qC n (dZ (dZ V i (V ((i-1) /2))) ((i-1) /2) (V i)) ((i-1) /2)∧jK n (dZ (dZ V i (V ((i-1) /2))) ((i-1) /2) (V i)) ((i-1) /2):=by
 obtain⟨h1,h2⟩:=h
 have hq:(i-1) /2≠i:=by omega
 generalize Rj:(i-1) /2=q at*
 have TC:q<i:=by omega
 refine⟨⟨?_,?_⟩,?_⟩
 ·intro j j0 jn jq jp
  unfold E dZ
  rw[if_neg jq,if_neg jp]
  by_cases e1:j=i
  ·exact absurd (by rw[e1,Rj]) jp
  ·rw[if_neg e1]
   by_cases e2:(j-1) /2=i
   ·rw[if_pos e2];exact h2 j j0 jn e2 hi
   ·rw[if_neg e2];exact h1 j j0 jn e1 e2
 ·intro j j0 jn jp q0
  unfold dZ
  have NH:(q-1) /2≠q:=by omega
  have NG:(q-1) /2≠i:=by omega
  rw[if_neg NH,if_neg NG]
  have Jw:j≠q:=by omega
  rw[if_neg Jw]
  have Fy:E V q:=h1 q q0 (by omega) hq (by omega)
  by_cases e1:j=i
  ·rw[if_pos e1];exact Fy
  ·rw[if_neg e1]
   have:=h1 j j0 jn e1 (by omega)
   unfold E at this Fy
   rw[jp]at this
   exact le_trans Fy this
 ·intro j j0 jn jp
  unfold E dZ
  rw[jp,if_pos rfl]
  have Jw:j≠q:=by omega
  rw[if_neg Jw]
  by_cases e1:j=i
  ·rw[if_pos e1];exact kj ha
  ·rw[if_neg e1]
   have:=h1 j j0 jn e1 (by omega)
   unfold E at this
   rw[jp]at this
   exact uC ha this
theorem Eu{n i:Nat}{V:Nat→It}(h:qC n V i)(ha:i=0∨prec (V i) (V ((i-1) /2))=false):Gx n V i:=by
 refine⟨fun j j0 jn jp=>?_,h.2⟩
 by_cases e:j=i
 ·subst e;rcases ha with ha|ha
  ·omega
  ·exact ha
 ·exact h.1 j j0 jn e jp
theorem qv{n i:Nat}{V:Nat→It}(h:Gx n V i)(hc:jK n V i):Ord n V:=fun j j0 jn=>by
 by_cases e:(j-1) /2=i
 ·exact hc j j0 jn e
 ·exact h.1 j j0 jn e
def qk(n:Nat)(V:Nat→It)(i:Nat):Nat:=if(decide (2*i+1+1<n) &&prec (V (2*i+1+1)) (V (2*i+1)))=true then 2*i+1+1 else 2*i+1
theorem mB(n:Nat)(V:Nat→It)(i:Nat):qk n V i=2*i+1∨qk n V i=2*i+2∧2*i+2<n:=by
 unfold qk;split
 ·rename_i h;simp only[Bool.and_eq_true,decide_eq_true_eq]at h;right;omega
 ·left;rfl
theorem qj{n i j:Nat}{V:Nat→It}(j0:0<j)(jn:j<n)(jp:(j-1) /2=i):prec (V j) (V (qk n V i))=false:=by
 unfold qk
 split
 ·rename_i h
  simp only[Bool.and_eq_true,decide_eq_true_eq]at h
  rcases(show j=2*i+1∨j=2*i+1+1 by omega)with rfl|rfl
  ·exact kj h.2
  ·exact iJ _
 ·rename_i h
  rcases(show j=2*i+1∨j=2*i+1+1 by omega)with rfl|rfl
  ·exact iJ _
  ·cases hh:prec (V (2*i+1+1)) (V (2*i+1))
   ·rfl
   ·exact absurd (by simp[hh,jn]) h
theorem Al{n i:Nat}{V:Nat→It}(h:Gx n V i)(hk:qk n V i<n)(ha:prec (V (qk n V i)) (V i)=true):
  Gx n (dZ (dZ V i (V (qk n V i))) (qk n V i) (V i)) (qk n V i):=by
 have hl:∀j,0<j→j<n→(j-1) /2=i→prec (V j) (V (qk n V i))=false:=fun j=>qj
 have hkc:=mB n V i
 generalize qk n V i=c at*
 obtain⟨h1,h2⟩:=h
 have Og:(c-1) /2=i:=by omega
 have hc0:0<c:=by omega
 have mg:c≠i:=by omega
 refine⟨?_,?_⟩
 ·intro j j0 jn jp
  unfold E dZ
  rw[if_neg jp]
  by_cases e1:j=c
  ·rw[if_pos e1,if_pos (by rw[e1];exact Og)];exact kj ha
  ·rw[if_neg e1]
   by_cases e2:j=i
   ·rw[if_pos e2]
    have:(j-1) /2≠i:=by omega
    rw[if_neg this,e2];exact h2 c hc0 hk Og (by omega)
   ·rw[if_neg e2]
    by_cases e3:(j-1) /2=i
    ·rw[if_pos e3];exact hl j j0 jn e3
    ·rw[if_neg e3];exact h1 j j0 jn e3
 ·intro j j0 jn jp _
  unfold dZ
  rw[Og]
  have:j≠c:=by omega
  have e2:j≠i:=by omega
  rw[if_neg this,if_neg e2,if_neg (fun e=>mg e.symm),if_pos rfl]
  have:=h1 j j0 jn (by omega)
  unfold E at this
  rwa [jp]at this
theorem Am{n i:Nat}{V:Nat→It}(h:Gx n V i)(ha:n≤qk n V i∨prec (V (qk n V i)) (V i)=false):Ord n V:=by
 refine qv h fun j j0 jn jp=>?_
 have hl:=qj (V:=V) j0 jn jp
 rcases ha with ha|ha
 ·rcases mB n V i with h|h<;>omega
 ·unfold E;rw[jp];exact le_trans ha hl
theorem EZ{n:Nat}{V:Nat→It}(h:Ord n V):∀j,j<n→prec (V j) (V 0)=false:=by
 intro j
 induction j using Nat.strongRecOn with
 |_ j ih=>
  intro jn
  by_cases j0:j=0
  ·subst j0;exact iJ _
  ·exact le_trans (ih ((j-1) /2) (by omega) (by omega)) (h j (by omega) jn)
def aH(l:List It)(j:Nat):It:=l.getD j (0,0)
theorem Gk{l:List It}{j:Nat}(h:j<l.length):l[j]? =some (aH l j):=by simp[aH,List.getD,h]
theorem dV{l:List It}{i:Nat}(b:It)(h:i<l.length):aH (l.set i b)=dZ (aH l) i b:=by
 funext j
 unfold aH dZ
 simp only[List.getD,List.getElem?_set]
 by_cases e:i=j
 ·subst e;simp[h]
 ·rw[if_neg e,if_neg (fun x=>e x.symm)]
theorem j9{l:List It}{i:Nat}(h:i<l.length):l.set i (aH l i)=l:=by
 apply List.ext_getElem?;intro j;rw[List.getElem?_set];by_cases e:i=j
 ·subst e;simp[h,aH,List.getD]
 ·simp[e]
theorem swap_perm{l:List It}{i q:Nat}(hi:i<l.length)(hq:q<l.length)(hne:q≠i):((l.set i (aH l q)).set q (aH l i)).Perm l:=by
 rw[List.perm_iff_count]
 intro x
 have g1:l[i]=aH l i:=by simp[aH,List.getD,hi]
 have g2:l[q]=aH l q:=by simp[aH,List.getD,hq]
 have g3:(l.set i (aH l q))[q]'(by simp[hq])=aH l q:=by rw[List.getElem_set_ne (fun e=>hne e.symm)];exact g2
 rw[List.count_set (by simp[hq]),List.count_set hi,g1,g3]
 have hc:aH l i=x→0<l.count x:=fun e=>by rw[List.count_pos_iff,←e,←g1];exact List.getElem_mem hi
 by_cases e1:aH l i=x
 ·have:=hc e1
  by_cases e2:aH l q=x<;>simp[e1,e2]<;>omega
 ·by_cases e2:aH l q=x<;>simp[e1,e2]
def fP(l:List It):Prop:=(l.map Prod.fst).Nodup
theorem fP.perm{l l':List It}(h:fP l)(p:l'.Perm l):fP l':=(p.map _).nodup_iff.2 h
theorem fP.inj{l:List It}(h:fP l){i j:Nat}(hi:i<l.length)(hj:j<l.length)(e:(aH l i).1=(aH l j).1):i=j:=by
 unfold fP at h
 have hp:=List.pairwise_iff_getElem.1 h
 have g:∀k (hk:k<l.length),(l.map Prod.fst)[k]'(by simpa using hk)=(aH l k).1:=fun k hk=>by simp[aH,List.getD,hk]
 rcases Nat.lt_trichotomy i j with hlt|rfl|hlt
 ·have:=hp i j (by simpa using hi) (by simpa using hj) hlt
  rw[g i hi,g j hj]at this;exact absurd e this
 ·rfl
 ·have:=hp j i (by simpa using hj) (by simpa using hi) hlt
  rw[g i hi,g j hj]at this;exact absurd e.symm this
theorem eB{l:List It}{x:Int}:x∈l.map Prod.fst↔∃j,j<l.length∧(aH l j).1=x:=by
 rw[List.mem_iff_getElem]
 constructor
 ·rintro⟨j,hj,e⟩
  have hj':j<l.length:=by simpa using hj
  exact⟨j,hj',by simpa[aH,List.getD,hj']using e⟩
 ·rintro⟨j,hj,e⟩
  exact⟨j,by simpa using hj,by simpa[aH,List.getD,hj]using e⟩
def tR(f:Int→Option Nat)(x:Int)(p:Option Nat):Int→Option Nat:=fun y=>if y=x then p else f y
def iu(l:List It)(f:Int→Option Nat)(i:Nat):Prop:=(∀j,j<l.length→j≠i→f (aH l j).1=some j)∧∀x,x∉l.map Prod.fst→f x=none
def Cons(l:List It)(f:Int→Option Nat):Prop:=(∀j,j<l.length→f (aH l j).1=some j)∧∀x,x∉l.map Prod.fst→f x=none
theorem iu.done{l:List It}{f:Int→Option Nat}{i:Nat}(h:iu l f i)(ho:fP l)(hi:i<l.length):Cons l (tR f (aH l i).1 (some i)):=by
 refine⟨fun j hj=>?_,fun x hx=>?_⟩
 ·unfold tR
  by_cases e:(aH l j).1=(aH l i).1
  ·rw[if_pos e,ho.inj hj hi e]
  ·rw[if_neg e];exact h.1 j hj (fun e2=>e (by rw[e2]))
 ·unfold tR
  rw[if_neg (fun e=>hx (eB.2 ⟨i,hi,e.symm⟩))]
  exact h.2 x hx
theorem iu.step{l:List It}{f:Int→Option Nat}{i q:Nat}(h:iu l f i)(ho:fP l)(hi:i<l.length)(hq:q<l.length)(hne:q≠i):
  iu ((l.set i (aH l q)).set q (aH l i)) (tR f (aH l q).1 (some i)) q:=by
 have z5:∀j,aH ((l.set i (aH l q)).set q (aH l i)) j=dZ (dZ (aH l) i (aH l q)) q (aH l i) j:=fun j=>by rw[dV _ (by simpa using hq),dV _ hi]
 refine⟨fun j hj Jw=>?_,fun x hx=>?_⟩
 ·rw[z5]
  simp only[List.length_set]at hj
  unfold dZ tR
  rw[if_neg Jw]
  by_cases e:j=i
  ·rw[if_pos e,if_pos rfl,e]
  ·rw[if_neg e]
   rw[if_neg (fun e2=>Jw (ho.inj hj hq e2))]
   exact h.1 j hj e
 ·have hx':x∉l.map Prod.fst:=fun hm=>hx (by
   have:=(swap_perm hi hq hne).map Prod.fst
   exact this.mem_iff.2 hm)
  unfold tR
  rw[if_neg (fun e=>hx' (eB.2 ⟨q,hq,e.symm⟩))]
  exact h.2 x hx'
end D1
namespace D1
open Go Go.Sx
def enc(kd:IntKind)(a:It):List Value:=[.int kd a.1,.int .i64 a.2]
def cL(kd:IntKind)(l:List It):List (List Value):=l.map (enc kd)
theorem bN(kd:IntKind)(l:List It):(cL kd l).length=l.length:=by simp[cL]
theorem Ak(kd:IntKind)(l:List It):∀r∈cL kd l,r.length=2:=fun r hr=>by
 obtain⟨a,_,rfl⟩:=List.mem_map.1 hr;rfl
theorem df{kd:IntKind}{l:List It}{i:Nat}(h:i<l.length)(ax:List (List Value)):(cL kd l++ax)[i]? =some (enc kd (aH l i)):=by
 rw[List.getElem?_append_left (by rw[bN];exact h),cL,List.getElem?_map,Gk h];rfl
theorem Du{kd:IntKind}{l:List It}{i:Nat}(h:i<l.length)(a:It)(ax:List (List Value)):(cL kd l++ax).set i (enc kd a)=cL kd (l.set i a)++ax:=by
 rw[List.set_append_left _ _ (by rw[bN];exact h),cL,cL,List.map_set]
def idx(i:Nat):Value:=.int .i64 (i:Int)
def HO(kd:IntKind)(TI TH:TypeId)(h:Value)(l:List It)(f:Int→Option Nat)(C:Hp):Prop:=
 ∃bh sv mv Cs Cm,h=.pointer (some ⟨bh,0,none⟩)∧C=(bh,Obj.cells #[sv,mv] TH (0,0))::(Cs++Cm)∧aI TI 2 sv (cL kd l) Cs∧gj kd idx mv f Cm∧(mv=.map none→l=[])
theorem HO.open{kd:IntKind}{TI TH:TypeId}{h:Value}{l:List It}{f:Int→Option Nat}{C:Hp}(H:HO kd TI TH h l f C)(hp:0<l.length):
  ∃bh la mb ax Cm,h=.pointer (some ⟨bh,0,none⟩)∧
   C=(bh,Obj.cells #[.slice (some ⟨la,0,none⟩) l.length (l.length+ax.length),.map (some mb)] TH (0,0))::(la,.cells (rows (cL kd l++ax)) TI (0,0))::Cm∧
   (∀r∈cL kd l++ax,r.length=2)∧gj kd idx (.map (some mb)) f Cm:=by
 obtain⟨bh,sv,mv,Cs,Cm,rfl,rfl,hs,hm,hne⟩:=H
 obtain⟨la,ax,rfl,rfl,aD⟩:=hs.pos (by rw[bN];exact hp)
 rw[bN]
 rcases hm with⟨rfl,_⟩|⟨mb,m,ck,rfl,h2⟩
 ·rw[hne rfl]at hp;simp at hp
 ·exact⟨bh,la,mb,ax,Cm,rfl,rfl,aD,.inr ⟨mb,m,ck,rfl,h2⟩⟩
theorem HO.shut{kd:IntKind}{TI TH:TypeId}{bh la mb n c:Nat}{ax:List (List Value)}{Cm:Hp}{l:List It}{f:Int→Option Nat}(aD:∀r∈cL kd l++ax,r.length=2)(hn:n=l.length)(hc:c=l.length+ax.length)
 (hm:gj kd idx (.map (some mb)) f Cm):
  HO kd TI TH (.pointer (some ⟨bh,0,none⟩)) l f ((bh,Obj.cells #[.slice (some ⟨la,0,none⟩) n c,.map (some mb)] TH (0,0))::(la,.cells (rows (cL kd l++ax)) TI (0,0))::Cm):=
 ⟨bh,_,_,[_],Cm,rfl,rfl,aI.mk' aD (by rw[bN];exact hn) (by rw[bN];exact hc),hm,fun h=>by simp at h⟩
theorem BE{l ax:List (List Value)}(h:∀r∈l++ax,r.length=2)(kd:IntKind)(l':List It):∀r∈cL kd l'++ax,r.length=2:=fun r hr=>by
 rcases List.mem_append.1 hr with hr|hr
 ·exact Ak kd l' r hr
 ·exact h r (by simp[hr])
theorem jF(kd:IntKind)(a:It):∀v∈enc kd a,v.oneCell'=true:=by simp[enc,Value.oneCell']
end D1
namespace D1
open Go Go.Sx
theorem HN(j:Nat)(h:0<j):((j-1:Nat):Int).tdiv 2=(((j-1) /2:Nat):Int):=by
 rw[Int.tdiv_eq_ediv_of_nonneg (by omega)];omega
theorem nS{l:List It}{i q:Nat}(a:It)(hi:i<l.length)(hq:q<l.length)(hne:q≠i):((l.set i a).set i (aH (l.set i a) q)).set q (aH (l.set i a) i)=(l.set i (aH l q)).set q a:=by
 rw[dV a hi,List.set_set]
 simp[dZ,hne]
def HI(kd:IntKind)(TI TH:TypeId)(h:Value)(l:List It)(C:Hp):Prop:=∃f,HO kd TI TH h l f C∧Cons l f∧Ord l.length (aH l)∧fP l
theorem u9{l:List It}{a:It}{j:Nat}(h:j<l.length):aH (l++[a]) j=aH l j:=by simp[aH,List.getD,List.getElem?_append_left h]
theorem BL{l:List It}{f:Int→Option Nat}{a:It}(hc:Cons l f)(ho:Ord l.length (aH l))(h1:fP l)(hx:a.1∉l.map Prod.fst):
  qC (l++[a]).length (aH (l++[a])) l.length∧iu (l++[a]) f l.length∧fP (l++[a])∧jK (l++[a]).length (aH (l++[a])) l.length:=by
 simp only[List.length_append,List.length_cons,List.length_nil,Nat.zero_add]
 refine⟨⟨fun j j0 jn Q0 jp=>?_,fun j j0 jn jp=>by omega⟩,⟨fun j jn Q0=>?_,fun x hx'=>?_⟩,?_,fun j j0 jn jp=>by omega⟩
 ·unfold E;rw[u9 (by omega),u9 (by omega)];exact ho j j0 (by omega)
 ·simp only[List.length_append,List.length_cons,List.length_nil]at jn
  rw[u9 (by omega)];exact hc.1 j (by omega)
 ·exact hc.2 x (fun h=>hx' (by rw[List.map_append,List.mem_append];exact .inl h))
 ·unfold fP at*;rw[List.map_append,List.nodup_append];exact⟨h1,by simp,fun a' cI b hb=>by simp at hb;subst hb;intro e;subst e;exact hx cI⟩
theorem DA{l:List It}{f:Int→Option Nat}(hc:Cons l f){x:Int}:(x∉l.map Prod.fst∧f x=none)∨∃i,i<l.length∧(aH l i).1=x∧f x=some i:=by
 by_cases h:x∈l.map Prod.fst
 ·obtain⟨j,hj,e⟩:=eB.1 h
  exact .inr ⟨j,hj,e,by rw[←e];exact hc.1 j hj⟩
 ·exact .inl ⟨h,hc.2 x h⟩
theorem ET{l:List It}{f:Int→Option Nat}(hc:Cons l f)(ho:Ord l.length (aH l))(h1:fP l){n:Nat}(hn:l.length=n+1):
  let l':=l.take n
  ((0<n→(aH l n)::(l'.set 0 (aH l n)).tail=l'.set 0 (aH l n)∧(aH l 0::l'.set 0 (aH l n)).Perm l∧Gx n (aH (l'.set 0 (aH l n))) 0∧fP (l'.set 0 (aH l n))∧
   iu (l'.set 0 (aH l n)) (tR f (aH l 0).1 none) 0)):=by
 intro l' TG
 have hl':l'.length=n:=by simp[l',hn]
 have dI:(aH l 0::l'.set 0 (aH l n)).Perm l:=by
  rw[List.perm_iff_count]
  intro x
  have e:l=l'++[aH l n]:=by
   have:l=l.take n++l.drop n:=(List.take_append_drop n l).symm
   have h2:l.drop n=[aH l n]:=by
    rw[List.drop_eq_getElem_cons (by omega),List.drop_eq_nil_of_le (by omega)]
    simp[hn,aH,List.getD]
   rw[h2]at this;exact this
  have g0:l'[0]'(by omega)=aH l 0:=by simp[l',aH,List.getD,hn]
  conv=>rhs;rw[e]
  rw[List.count_cons,List.count_set (by omega),g0,List.count_append]
  have hc0:aH l 0=x→0<l'.count x:=fun e=>by rw[List.count_pos_iff,←e,←g0];exact List.getElem_mem _
  by_cases e1:aH l 0=x
  ·have:=hc0 e1
   by_cases e2:aH l n=x<;>simp[e1,e2]<;>omega
  ·by_cases e2:aH l n=x<;>simp[e1,e2]
 have z5:∀j,j<n→j≠0→aH (l'.set 0 (aH l n)) j=aH l j:=fun j hj h0=>by
  rw[dV _ (by omega)];simp[dZ,h0,l',aH,List.getD,hj]
 have hO:fP (l'.set 0 (aH l n)):=by
  have:=(h1.perm dI:fP _)
  unfold fP at this⊢
  simp only[List.map_cons,List.nodup_cons]at this
  exact this.2
 refine⟨?_,dI,⟨fun j j0 jn jp=>?_,fun j j0 jn jp h=>by omega⟩,hO,fun j hj IC=>?_,fun x hx=>?_⟩
 ·cases hh:l' with
  |nil=>rw[hh]at hl';simp at hl';omega
  |cons a r=>simp
 ·unfold E;rw[z5 j jn (by omega),z5 _ (by omega) jp];exact ho j j0 (by omega)
 ·simp only[List.length_set,hl']at hj
  rw[z5 j hj IC]
  unfold tR
  rw[if_neg (fun e=>IC (h1.inj (by omega) (by omega) e))]
  exact hc.1 j (by omega)
 ·unfold tR
  by_cases e:x=(aH l 0).1
  ·rw[if_pos e]
  ·rw[if_neg e]
   refine hc.2 x fun hm=>hx ?_
   have:=(dI.map Prod.fst).mem_iff.2 hm
   simp only[List.map_cons,List.mem_cons]at this
   rcases this with h|h
   ·exact absurd h e
   ·exact h
end D1
set_option maxRecDepth 100000
namespace Go.Proofs
open Go Go.Sx
open D1
abbrev El:=HO .i64 397 395
abbrev Gt:=HI .i64 397 395
theorem oU(a b:It)(B:Hp):Rd Tryz.prog 381 #[.agg #[.int .i64 a.1,.int .i64 a.2],.agg #[.int .i64 b.1,.int .i64 b.2]] B (· =.bool (prec a b)):=by
 refine aP fun g=>vM ?_
 intro b1 _ b2 _
 (repeat (first|refine Nil.ptr ?_|refine ag.mk ?_|refine Ld.mk zM rfl ?_|refine aM.mk ?_|refine aa.eql ?_|refine aa.neq ?_|refine aa.lss ?_|refine aa.leq ?_|refine aa.gtr ?_|refine aa.geq ?_|refine Un.not ?_|refine Ext.mk rfl ?_|refine aq.mk ?_|refine aa.an ?_|refine aa.aU ?_|refine aa.aT ?_|refine Br.yes ?_|refine Br.no ?_))
 refine c7.or (a.2==b.2&&decide (a.1<b.1)) (fun _=>?_) rfl fun _=>bC.mk (.skip .tail) rfl
 (repeat (first|refine Nil.ptr ?_|refine ag.mk ?_|refine Ld.mk zM rfl ?_|refine aM.mk ?_|refine aa.eql ?_|refine aa.neq ?_|refine aa.lss ?_|refine aa.leq ?_|refine aa.gtr ?_|refine aa.geq ?_|refine Un.not ?_|refine Ext.mk rfl ?_|refine aq.mk ?_|refine aa.an ?_|refine aa.aU ?_|refine aa.aT ?_|refine Br.yes ?_|refine Br.no ?_))
 refine c7.and (decide (a.1<b.1)) (fun _=>?_) rfl fun _=>⟨rfl,rfl⟩
 (repeat (first|refine Nil.ptr ?_|refine ag.mk ?_|refine Ld.mk zM rfl ?_|refine aM.mk ?_|refine aa.eql ?_|refine aa.neq ?_|refine aa.lss ?_|refine aa.leq ?_|refine aa.gtr ?_|refine aa.geq ?_|refine Un.not ?_|refine Ext.mk rfl ?_|refine aq.mk ?_|refine aa.an ?_|refine aa.aU ?_|refine aa.aT ?_|refine Br.yes ?_|refine Br.no ?_))
 exact⟨rfl,rfl⟩
theorem lF{h:Value}{l:List It}{f:Int→Option Nat}{C:Hp}(ho:El h l f C){i:Nat}(hi:i<l.length)(a:It):
  Fc Tryz.prog 333 #[h,.int .i64 (i:Int),.agg #[.int .i64 a.1,.int .i64 a.2]] C (fun v C'=>v=.tuple #[]∧El h (l.set i a) (tR f a.1 (some i)) C'):=by
 obtain⟨bh,la,mb,ax,Cm,rfl,rfl,aD,hm⟩:=ho.open (by omega)
 refine aP fun g=>vW ?_
 intro b1 _
 refine DR.self ?_
 (repeat (first|refine Nil.ptr ?_|refine ag.mk ?_|refine Ld.mk zM rfl ?_|refine aM.mk ?_|refine aa.eql ?_|refine aa.neq ?_|refine aa.lss ?_|refine aa.leq ?_|refine aa.gtr ?_|refine aa.geq ?_|refine Un.not ?_|refine Ext.mk rfl ?_|refine aq.mk ?_|refine aa.an ?_|refine aa.aU ?_|refine aa.aT ?_|refine Br.yes ?_|refine Br.no ?_))
 refine ay.whole (r:=enc .i64 a) zM rfl ?_
 refine ai.nat hi ?_
 refine St.row (l:=cL .i64 l++ax) (by repeat (first|exact ct.head _|apply ct.tail|apply ct.bL)) aD (by rw[List.length_append,bN];omega) rfl (jF _ _) ?_
 refine DR.self ?_
 (repeat (first|refine Nil.ptr ?_|refine ag.mk ?_|refine Ld.mk zM rfl ?_|refine aM.mk ?_|refine aa.eql ?_|refine aa.neq ?_|refine aa.lss ?_|refine aa.leq ?_|refine aa.gtr ?_|refine aa.geq ?_|refine Un.not ?_|refine Ext.mk rfl ?_|refine aq.mk ?_|refine aa.an ?_|refine aa.aU ?_|refine aa.aT ?_|refine Br.yes ?_|refine Br.no ?_))
 rw[←List.append_nil Cm]
 refine gj.bc (p:=i) (A:=[_,_,_]) (B:=[]) hm fun C' hm'=>?_
 refine⟨_,_,rfl,.tail,rfl,?_⟩
 rw[Du hi,List.append_nil]
 exact .shut (BE aD _ _) (by simp) (by simp) hm'
theorem Ii{h:Value}{l:List It}{f:Int→Option Nat}{C:Hp}(ho:El h l f C){i:Nat}(hi:i<l.length)(cc:l.length<4611686018427387904)(hu:qC l.length (aH l) i)(hc:iu l f i)(hO:fP l):
  Fc Tryz.prog 332 #[h,.int .i64 (i:Int)] C (fun v C'=>v=.tuple #[]∧∃l' f' p,El h l' f' C'∧l'.Perm l∧Cons l' f'∧Gx l'.length (aH l') p∧p<l'.length∧aH l' p=aH l i∧
   (jK l.length (aH l) i→Ord l'.length (aH l'))):=by
 obtain⟨bh,la,mb,ax,Cm,rfl,rfl,aD,hm⟩:=ho.open (by omega)
 obtain⟨n,hn⟩:∃n,n=l.length:=⟨_,rfl⟩
 obtain⟨a,ha⟩:∃a,a=aH l i:=⟨_,rfl⟩
 refine aP fun g=>vX ?_
 (repeat (first|refine Nil.ptr ?_|refine ag.mk ?_|refine Ld.mk zM rfl ?_|refine aM.mk ?_|refine aa.eql ?_|refine aa.neq ?_|refine aa.lss ?_|refine aa.leq ?_|refine aa.gtr ?_|refine aa.geq ?_|refine Un.not ?_|refine Ext.mk rfl ?_|refine aq.mk ?_|refine aa.an ?_|refine aa.aU ?_|refine aa.aT ?_|refine Br.yes ?_|refine Br.no ?_))
 refine ai.nat hi ?_
 refine ay.row (l:=cL .i64 l++ax) zM aD (df hi ax) ?_
 intro b6 _
 refine St.p (jF _ _) ?_
 rw[←ha]
 refine⟨fun vs H=>∃(j:Nat) (L:List It) (f:Int→Option Nat) (C:Hp),vs=[.int .i64 (j:Int)]∧H=(b6,Obj.cells (enc .i64 a).toArray 397 (0,0))::C∧El (.pointer (some ⟨bh,0,none⟩)) L f C∧L.length=n∧j<n∧
   (L.set j a).Perm l∧qC n (aH (L.set j a)) j∧iu (L.set j a) f j∧(jK n (aH l) i→jK n (aH (L.set j a)) j),
  fun vs _=>ca vs 0,.mk ⟨i,l,f,_,rfl,rfl,ho,hn.symm,by omega,?_,?_,?_,?_⟩,?_⟩
 ·exact(by rw[ha,j9 hi])
 ·rw[ha,j9 hi,hn];exact hu
 ·rw[ha,j9 hi];exact hc
 ·rw[ha,j9 hi];exact id
 rintro w H ⟨j,L,f,C,hw,rfl,ho,Lk,hj,hp,hu,hc,g7⟩ gs
 simp only[List.cons.injEq,and_true]at hw
 subst hw
 have Js:=ho
 obtain⟨SG,la,mb,ax,Cm,KV,rfl,aD,hm⟩:=ho.open (by omega)
 simp only[Value.pointer.injEq,Option.some.injEq,Addr.mk.injEq,and_true]at KV
 subst KV
 have Lg:fP (L.set j a):=hO.perm hp
 have Ju:(L.set j a).length=n:=by simp[Lk]
 have Hg:aH (L.set j a) j=a:=by rw[dV a (by omega)];simp[dZ]
 have Oq:0<j→aH (L.set j a) ((j-1) /2)=aH L ((j-1) /2):=fun h0=>by rw[dV a (by omega)];simp[dZ,show¬((j-1) /2=j)from by omega]
 intro J hJ
 have hend:¬(0<j∧prec a (aH L ((j-1) /2))=true)→J [.bool false] ((b6,Obj.cells (enc .i64 a).toArray 397 (0,0))::(bh,Obj.cells #[.slice (some ⟨la,0,none⟩) L.length (L.length+ax.length),.map (some mb)] 395 (0,0))::(la,.cells (rows (cL .i64 L++ax)) 397 (0,0))::Cm):=fun hno=>hJ _ _ fun gs=>by
  refine Br.no ?_
  refine ay.q ?_
  refine ae.fq (lF Js (i:=j) (by omega) a) ?_
  rintro v C' ⟨rfl,bO⟩
  have hd:=hc.done Lg (by omega)
  rw[Hg]at hd
  have hex:=Eu hu (by
   by_cases h0:j=0
   ·exact .inl h0
   ·right
    rw[Hg,Oq (by omega)]
    cases h:prec a (aH L ((j-1) /2))
    ·rfl
    ·exact absurd ⟨by omega,h⟩ hno)
  rw[←Ju]at hex
  exact⟨_,_,rfl,.tail,rfl,_,_,j,bO,hp,hd,hex,by omega,by rw[Hg,ha],fun hk=>qv hex (by rw[Ju];exact g7 (by rw[hn];exact hk))⟩
 refine DR.self ?_
 refine aa.gtr (Br.dec (fun h0=>?_) (fun h0=>JE.mk (hend (fun h=>h0 (by omega)))))
 have h0:0<j:=by omega
 refine ay.q ?_
 (repeat (first|refine Nil.ptr ?_|refine ag.mk ?_|refine Ld.mk zM rfl ?_|refine aM.mk ?_|refine aa.eql ?_|refine aa.neq ?_|refine aa.lss ?_|refine aa.leq ?_|refine aa.gtr ?_|refine aa.geq ?_|refine Un.not ?_|refine Ext.mk rfl ?_|refine aq.mk ?_|refine aa.an ?_|refine aa.aU ?_|refine aa.aT ?_|refine Br.yes ?_|refine Br.no ?_))
 refine aa.kW (c:=((j-1:Nat):Int)) (by omega) (by omega) ?_
 refine aa.BH (by decide) (HN j h0) (by omega) ?_
 refine ai.nat (by omega) ?_
 refine ay.row (l:=cL .i64 L++ax) zM aD (df (by omega) ax) ?_
 intro F
 refine ae.eq (oU a _ _) ?_
 refine⟨.refl _,?_⟩
 cases GX:prec a (aH L ((j-1) /2))with
 |false=>exact aq.mk (JE.mk (hend (fun h=>by rw[GX]at h;exact absurd h.2 (by decide))))
 |true=>
 refine aq.mk (JE.mk (hJ _ _ fun gs=>Br.yes ?_))
 (repeat (first|refine Nil.ptr ?_|refine ag.mk ?_|refine Ld.mk zM rfl ?_|refine aM.mk ?_|refine aa.eql ?_|refine aa.neq ?_|refine aa.lss ?_|refine aa.leq ?_|refine aa.gtr ?_|refine aa.geq ?_|refine Un.not ?_|refine Ext.mk rfl ?_|refine aq.mk ?_|refine aa.an ?_|refine aa.aU ?_|refine aa.aT ?_|refine Br.yes ?_|refine Br.no ?_))
 refine aa.kW (c:=((j-1:Nat):Int)) (by omega) (by omega) ?_
 refine aa.BH (by decide) (HN j h0) (by omega) ?_
 refine ai.nat (by omega) ?_
 refine ay.row (l:=cL .i64 L++ax) zM aD (df (by omega) ax) ?_
 refine ae.fq (lF Js (i:=j) (by omega) (aH L ((j-1) /2))) ?_
 rintro v C' ⟨rfl,bO⟩
 refine aa.kW (c:=((j-1:Nat):Int)) (by omega) (by omega) ?_
 refine aa.BH (by decide) (HN j h0) (by omega) ?_
 have hst:=Et h0 (by rw[←Ju]at hj;rw[Ju]at hj;exact hj) hu (by rw[Hg,Oq h0];exact GX)
 have hcs:=hc.step Lg (i:=j) (q:=(j-1) /2) (by omega) (by omega) (by omega)
 have NJ:=(swap_perm (l:=L.set j a) (i:=j) (q:=(j-1) /2) (by omega) (by omega) (by omega)).trans hp
 have IP:(L.set j (aH L ((j-1) /2))).set ((j-1) /2) a=((L.set j a).set j (aH (L.set j a) ((j-1) /2))).set ((j-1) /2) (aH (L.set j a) j):=(nS a (by omega) (by omega) (by omega)).symm
 have z5:aH ((L.set j (aH L ((j-1) /2))).set ((j-1) /2) a)=dZ (dZ (aH (L.set j a)) j (aH (L.set j a) ((j-1) /2))) ((j-1) /2) (aH (L.set j a) j):=by
  rw[IP,dV _ (by simp;omega),dV _ (by omega)]
 refine aB.mk ⟨(j-1) /2,_,_,C',rfl,rfl,bO,by simp[Lk],by omega,?_,?_,?_,fun _=>?_⟩ ?_
 ·rw[IP];exact NJ
 ·rw[z5];exact hst.1
 ·rw[IP];rw[Oq h0]at hcs⊢;exact hcs
 ·rw[z5];exact hst.2
 ·simp only[ca,Int.toNat_natCast];omega
theorem CK{h:Value}{l:List It}{f:Int→Option Nat}{C:Hp}(ho:El h l f C){i:Nat}(hi:i<l.length)(cc:l.length<4611686018427387904)(hu:Gx l.length (aH l) i)(hc:iu l f i)(hO:fP l):
  Fc Tryz.prog 334 #[h,.int .i64 (i:Int)] C (fun v C'=>v=.tuple #[]∧∃l' f',El h l' f' C'∧l'.Perm l∧Cons l' f'∧Ord l'.length (aH l')):=by
 obtain⟨bh,la,mb,ax,Cm,rfl,rfl,aD,hm⟩:=ho.open (by omega)
 obtain⟨n,hn⟩:∃n,n=l.length:=⟨_,rfl⟩
 obtain⟨a,ha⟩:∃a,a=aH l i:=⟨_,rfl⟩
 refine aP fun g=>vV ?_
 (repeat (first|refine Nil.ptr ?_|refine ag.mk ?_|refine Ld.mk zM rfl ?_|refine aM.mk ?_|refine aa.eql ?_|refine aa.neq ?_|refine aa.lss ?_|refine aa.leq ?_|refine aa.gtr ?_|refine aa.geq ?_|refine Un.not ?_|refine Ext.mk rfl ?_|refine aq.mk ?_|refine aa.an ?_|refine aa.aU ?_|refine aa.aT ?_|refine Br.yes ?_|refine Br.no ?_))
 refine ai.nat hi ?_
 refine ay.row (l:=cL .i64 l++ax) zM aD (df hi ax) ?_
 intro b6 _
 refine St.p (jF _ _) ?_
 rw[←ha]
 refine⟨fun vs H=>∃(j:Nat) (L:List It) (f:Int→Option Nat) (C:Hp),vs=[.int .i64 (j:Int)]∧H=(b6,Obj.cells (enc .i64 a).toArray 397 (0,0))::C∧El (.pointer (some ⟨bh,0,none⟩)) L f C∧L.length=n∧j<n∧
   (L.set j a).Perm l∧Gx n (aH (L.set j a)) j∧iu (L.set j a) f j,
  fun vs _=>n-ca vs 0,.mk ⟨i,l,f,_,rfl,rfl,ho,hn.symm,by omega,?_,?_,?_⟩,?_⟩
 ·exact(by rw[ha,j9 hi])
 ·rw[ha,j9 hi,hn];exact hu
 ·rw[ha,j9 hi];exact hc
 rintro w H ⟨j,L,f,C,hw,rfl,ho,Lk,hj,hp,hu,hc⟩ gs
 simp only[List.cons.injEq,and_true]at hw
 subst hw
 have Js:=ho
 obtain⟨SG,la,mb,ax,Cm,KV,rfl,aD,hm⟩:=ho.open (by omega)
 simp only[Value.pointer.injEq,Option.some.injEq,Addr.mk.injEq,and_true]at KV
 subst KV
 have Lg:fP (L.set j a):=hO.perm hp
 have Ju:(L.set j a).length=n:=by simp[Lk]
 have Hg:aH (L.set j a) j=a:=by rw[dV a (by omega)];simp[dZ]
 have K9:∀c,c≠j→aH (L.set j a) c=aH L c:=fun c h0=>by rw[dV a (by omega)];simp[dZ,h0]
 refine aa.J0 (c:=((2*j:Nat):Int)) (by omega) (by omega) ?_
 refine aa.tH (c:=((2*j+1:Nat):Int)) (by omega) (by omega) ?_
 intro J hJ
 obtain⟨c,hcd⟩:∃c,c=qk n (aH (L.set j a)) j:=⟨_,rfl⟩
 have hkc:=mB n (aH (L.set j a)) j
 rw[←hcd]at hkc
 have fb:J [.int .i64 (c:Int)] ((b6,Obj.cells (enc .i64 a).toArray 397 (0,0))::(bh,Obj.cells #[.slice (some ⟨la,0,none⟩) L.length (L.length+ax.length),.map (some mb)] 395 (0,0))::(la,.cells (rows (cL .i64 L++ax)) 397 (0,0))::Cm):=by
  refine hJ _ _ fun TU=>?_
  intro J2 Ef
  have hstop:n≤c∨prec (aH L c) a=false→J2 [.bool true] ((b6,Obj.cells (enc .i64 a).toArray 397 (0,0))::(bh,Obj.cells #[.slice (some ⟨la,0,none⟩) L.length (L.length+ax.length),.map (some mb)] 395 (0,0))::(la,.cells (rows (cL .i64 L++ax)) 397 (0,0))::Cm):=fun hst=>Ef _ _ fun gs=>by
   refine Br.yes ?_
   refine ay.q ?_
   refine ae.fq (lF Js (i:=j) (by omega) a) ?_
   rintro v C' ⟨rfl,bO⟩
   have hd:=hc.done Lg (by omega)
   rw[Hg]at hd
   have hex:=Am hu (by
    rw[←hcd]
    by_cases h0:n≤c
    ·exact .inl h0
    ·right
     rw[Hg,K9 c (by omega)]
     rcases hst with h|h
     ·omega
     ·exact h)
   rw[←Ju]at hex
   exact⟨_,_,rfl,.tail,rfl,_,_,bO,hp,hd,hex⟩
  refine DR.self ?_
  (repeat (first|refine Nil.ptr ?_|refine ag.mk ?_|refine Ld.mk zM rfl ?_|refine aM.mk ?_|refine aa.eql ?_|refine aa.neq ?_|refine aa.lss ?_|refine aa.leq ?_|refine aa.gtr ?_|refine aa.geq ?_|refine Un.not ?_|refine Ext.mk rfl ?_|refine aq.mk ?_|refine aa.an ?_|refine aa.aU ?_|refine aa.aT ?_|refine Br.yes ?_|refine Br.no ?_))
  refine Br.dec (fun h0=>JE.mk (hstop (.inl (by omega)))) (fun h0=>?_)
  have h0:c<n:=by omega
  (repeat (first|refine Nil.ptr ?_|refine ag.mk ?_|refine Ld.mk zM rfl ?_|refine aM.mk ?_|refine aa.eql ?_|refine aa.neq ?_|refine aa.lss ?_|refine aa.leq ?_|refine aa.gtr ?_|refine aa.geq ?_|refine Un.not ?_|refine Ext.mk rfl ?_|refine aq.mk ?_|refine aa.an ?_|refine aa.aU ?_|refine aa.aT ?_|refine Br.yes ?_|refine Br.no ?_))
  refine ai.nat (by omega) ?_
  refine ay.row (l:=cL .i64 L++ax) zM aD (df (by omega) ax) ?_
  refine ay.q ?_
  intro F
  refine ae.eq (oU _ a _) ?_
  refine⟨.refl _,Un.not ?_⟩
  cases GX:prec (aH L c) a with
  |false=>exact aq.mk (JE.mk (hstop (.inr GX)))
  |true=>
  refine aq.mk (JE.mk (Ef _ _ fun gs=>Br.no ?_))
  (repeat (first|refine Nil.ptr ?_|refine ag.mk ?_|refine Ld.mk zM rfl ?_|refine aM.mk ?_|refine aa.eql ?_|refine aa.neq ?_|refine aa.lss ?_|refine aa.leq ?_|refine aa.gtr ?_|refine aa.geq ?_|refine Un.not ?_|refine Ext.mk rfl ?_|refine aq.mk ?_|refine aa.an ?_|refine aa.aU ?_|refine aa.aT ?_|refine Br.yes ?_|refine Br.no ?_))
  refine ai.nat (by omega) ?_
  refine ay.row (l:=cL .i64 L++ax) zM aD (df (by omega) ax) ?_
  refine ae.fq (lF Js (i:=j) (by omega) (aH L c)) ?_
  rintro v C' ⟨rfl,bO⟩
  have KS:c≠j:=by omega
  have hst:=Al hu (by rw[←hcd];exact h0) (by rw[←hcd,Hg,K9 c KS];exact GX)
  rw[←hcd]at hst
  have hcs:=hc.step Lg (i:=j) (q:=c) (by omega) (by omega) KS
  have NJ:=(swap_perm (l:=L.set j a) (i:=j) (q:=c) (by omega) (by omega) KS).trans hp
  have IP:(L.set j (aH L c)).set c a=((L.set j a).set j (aH (L.set j a) c)).set c (aH (L.set j a) j):=(nS a (by omega) (by omega) KS).symm
  have z5:aH ((L.set j (aH L c)).set c a)=dZ (dZ (aH (L.set j a)) j (aH (L.set j a) c)) c (aH (L.set j a) j):=by
   rw[IP,dV _ (by simp;omega),dV _ (by omega)]
  refine aB.mk ⟨c,_,_,C',rfl,rfl,bO,by simp[Lk],by omega,?_,?_,?_⟩ ?_
  ·rw[IP];exact NJ
  ·rw[z5];exact hst
  ·rw[IP];rw[K9 c KS]at hcs⊢;exact hcs
  ·simp only[ca,Int.toNat_natCast];omega
 intro J3 MB
 have Rx:qk n (aH (L.set j a)) j=if(decide (2*j+1+1<n) &&prec (aH L (2*j+1+1)) (aH L (2*j+1)))=true then 2*j+1+1 else 2*j+1:=by
  unfold qk;rw[K9 _ (by omega),K9 _ (by omega)]
 rw[Rx]at hcd
 have hno:¬(2*j+1+1<n∧prec (aH L (2*j+1+1)) (aH L (2*j+1))=true)→J3 [.bool false] ((b6,Obj.cells (enc .i64 a).toArray 397 (0,0))::(bh,Obj.cells #[.slice (some ⟨la,0,none⟩) L.length (L.length+ax.length),.map (some mb)] 395 (0,0))::(la,.cells (rows (cL .i64 L++ax)) 397 (0,0))::Cm):=fun hx=>MB _ _ fun gs=>by
  rw[if_neg (by simpa using hx)]at hcd
  rw[hcd]at fb
  exact Br.no (.mk fb)
 refine DR.self ?_
 refine aa.tH (c:=((2*j+1+1:Nat):Int)) (by omega) (by omega) ?_
 (repeat (first|refine Nil.ptr ?_|refine ag.mk ?_|refine Ld.mk zM rfl ?_|refine aM.mk ?_|refine aa.eql ?_|refine aa.neq ?_|refine aa.lss ?_|refine aa.leq ?_|refine aa.gtr ?_|refine aa.geq ?_|refine Un.not ?_|refine Ext.mk rfl ?_|refine aq.mk ?_|refine aa.an ?_|refine aa.aU ?_|refine aa.aT ?_|refine Br.yes ?_|refine Br.no ?_))
 refine Br.dec (fun h0=>?_) (fun h0=>JE.mk (hno (fun h=>h0 (by omega))))
 have h0:2*j+1+1<n:=by omega
 (repeat (first|refine Nil.ptr ?_|refine ag.mk ?_|refine Ld.mk zM rfl ?_|refine aM.mk ?_|refine aa.eql ?_|refine aa.neq ?_|refine aa.lss ?_|refine aa.leq ?_|refine aa.gtr ?_|refine aa.geq ?_|refine Un.not ?_|refine Ext.mk rfl ?_|refine aq.mk ?_|refine aa.an ?_|refine aa.aU ?_|refine aa.aT ?_|refine Br.yes ?_|refine Br.no ?_))
 refine aa.tH (c:=((2*j+1+1:Nat):Int)) (by omega) (by omega) ?_
 refine ai.nat (by omega) ?_
 refine ay.row (l:=cL .i64 L++ax) zM aD (df (by omega) ax) ?_
 (repeat (first|refine Nil.ptr ?_|refine ag.mk ?_|refine Ld.mk zM rfl ?_|refine aM.mk ?_|refine aa.eql ?_|refine aa.neq ?_|refine aa.lss ?_|refine aa.leq ?_|refine aa.gtr ?_|refine aa.geq ?_|refine Un.not ?_|refine Ext.mk rfl ?_|refine aq.mk ?_|refine aa.an ?_|refine aa.aU ?_|refine aa.aT ?_|refine Br.yes ?_|refine Br.no ?_))
 refine ai.nat (by omega) ?_
 refine ay.row (l:=cL .i64 L++ax) zM aD (df (by omega) ax) ?_
 intro F
 refine ae.eq (oU _ _ _) ?_
 refine⟨.refl _,?_⟩
 cases GX:prec (aH L (2*j+1+1)) (aH L (2*j+1))with
 |false=>exact aq.mk (JE.mk (hno (fun h=>by rw[GX]at h;exact absurd h.2 (by decide))))
 |true=>
 refine aq.mk (JE.mk (MB _ _ fun gs=>Br.yes ?_))
 refine aa.tH (c:=((2*j+1+1:Nat):Int)) (by omega) (by omega) ?_
 rw[if_pos (by simp[h0,GX])]at hcd
 rw[hcd]at fb
 exact .mk fb
theorem FA(B:Hp):Fc Tryz.prog 261 #[] B (fun v H=>∃b C,v=.pointer (some ⟨b,0,none⟩)∧H=C++B∧Gt (.pointer (some ⟨b,0,none⟩)) [] C):=by
 refine aP fun g=>wE ?_
 refine Build.mk (cs:=[.slice none 0 0,.map none]) (by kernel_rfl) ?_
 intro b _
 exact⟨_,_,rfl,.refl _,b,[_],rfl,rfl,fun _=>none,⟨b,_,_,[],[],rfl,rfl,aI.nil _ _,.inl ⟨rfl,rfl,rfl⟩,fun _=>rfl⟩,⟨fun j hj=>by simp at hj,fun _ _=>rfl⟩,fun j _ hj=>by simp at hj,by simp[fP]⟩
theorem Co{h:Value}{l:List It}{C:Hp}(hi:Gt h l C)(cc:l.length<4398046511104)(x k:Int):
  Fc Tryz.prog 263 #[h,.int .i64 x,.int .i64 k] C (fun v C'=>∃l',Gt h l' C'∧
   ((x∈l.map Prod.fst∧v=.int .i64 11∧l'=l)∨(x∉l.map Prod.fst∧v=.int .i64 0∧l'.Perm ((x,k)::l)))):=by
 have FJ:=hi
 obtain⟨f,ho,hc,hO,h1⟩:=hi
 have Js:=ho
 obtain⟨bh,sv,mv,Cs,Cm,rfl,rfl,hs,hm,hne⟩:=ho
 refine aP fun g=>wC ?_
 (repeat (first|refine Nil.ptr ?_|refine ag.mk ?_|refine Ld.mk zM rfl ?_|refine aM.mk ?_|refine aa.eql ?_|refine aa.neq ?_|refine aa.lss ?_|refine aa.leq ?_|refine aa.gtr ?_|refine aa.geq ?_|refine Un.not ?_|refine Ext.mk rfl ?_|refine aq.mk ?_|refine aa.an ?_|refine aa.aU ?_|refine aa.aT ?_|refine Br.yes ?_|refine Br.no ?_))
 rcases DA hc (x:=x)with⟨hx,hf⟩|⟨i,hi,hx,hf⟩
 ·refine hm.zD zS hf ?_
  (repeat (first|refine Nil.ptr ?_|refine ag.mk ?_|refine Ld.mk zM rfl ?_|refine aM.mk ?_|refine aa.eql ?_|refine aa.neq ?_|refine aa.lss ?_|refine aa.leq ?_|refine aa.gtr ?_|refine aa.geq ?_|refine Un.not ?_|refine Ext.mk rfl ?_|refine aq.mk ?_|refine aa.an ?_|refine aa.aU ?_|refine aa.aT ?_|refine Br.yes ?_|refine Br.no ?_))
  intro J hJ
  obtain⟨uK,me,Jq,NL⟩:=BL (a:=(x,k)) hc hO h1 hx
  have fb:∀mb Hx,gj .i64 idx (.map (some mb)) f Hx→J [] ((bh,Obj.cells #[sv,.map (some mb)] 395 (0,0))::(Cs++Hx)):=by
   intro mb Hx hm'
   refine hJ _ fun gs=>?_
   (repeat (first|refine Nil.ptr ?_|refine ag.mk ?_|refine Ld.mk zM rfl ?_|refine aM.mk ?_|refine aa.eql ?_|refine aa.neq ?_|refine aa.lss ?_|refine aa.leq ?_|refine aa.gtr ?_|refine aa.geq ?_|refine Un.not ?_|refine Ext.mk rfl ?_|refine aq.mk ?_|refine aa.an ?_|refine aa.aU ?_|refine aa.aT ?_|refine Br.yes ?_|refine Br.no ?_))
   refine Build.mk (cs:=enc .i64 (x,k)) (by kernel_rfl) ?_
   refine ak.one (k:=2) (e:=397) (z:=.agg #[.int .i64 0,.int .i64 0]) (by kernel_rfl) (by kernel_rfl) (by kernel_rfl) (by decide) rfl fun xb=>?_
   refine hs.DN (A:=[_,_]) (B:=Hx) (r:=enc .i64 (x,k)) zM rfl (jF _ _) ⟨[.int .i64 0,.int .i64 0],rfl,rfl⟩ (by rw[bN];omega) (by rw[bN];omega) fun v' C' hs'=>?_
   (repeat (first|refine Nil.ptr ?_|refine ag.mk ?_|refine Ld.mk zM rfl ?_|refine aM.mk ?_|refine aa.eql ?_|refine aa.neq ?_|refine aa.lss ?_|refine aa.leq ?_|refine aa.gtr ?_|refine aa.geq ?_|refine Un.not ?_|refine Ext.mk rfl ?_|refine aq.mk ?_|refine aa.an ?_|refine aa.aU ?_|refine aa.aT ?_|refine Br.yes ?_|refine Br.no ?_))
   refine St.one (by repeat (first|exact ct.head _|apply ct.tail|apply ct.bL)) (by obtain⟨a,c,rfl⟩:=hs'.len;rfl) (by simp) rfl ?_
   (repeat (first|refine Nil.ptr ?_|refine ag.mk ?_|refine Ld.mk zM rfl ?_|refine aM.mk ?_|refine aa.eql ?_|refine aa.neq ?_|refine aa.lss ?_|refine aa.leq ?_|refine aa.gtr ?_|refine aa.geq ?_|refine Un.not ?_|refine Ext.mk rfl ?_|refine aq.mk ?_|refine aa.an ?_|refine aa.aU ?_|refine aa.aT ?_|refine Br.yes ?_|refine Br.no ?_))
   refine hs'.cP ?_
   refine aa.kW (c:=((l.length:Nat):Int)) (by rw[List.length_append,bN];simp) (by omega) ?_
   have pz:aI 397 2 v' (cL .i64 (l++[(x,k)])) C':=by simpa[cL]using hs'
   have bO:El (.pointer (some ⟨bh,0,none⟩)) (l++[(x,k)]) f ((bh,Obj.cells #[v',.map (some mb)] 395 (0,0))::(C'++Hx)):=
    ⟨bh,_,_,C',Hx,rfl,rfl,pz,hm',fun h=>by simp at h⟩
   refine ae.pre (.tail) ?_
   refine ae.fq (Ii bO (i:=l.length) (by simp) (by simp;omega) uK me Jq) ?_
   rintro v QC ⟨rfl,l',f',p,yq,dI,RQ,hex,hp,z5,NM⟩
   refine⟨_,_,rfl,.refl _,l',⟨f',yq,RQ,NM NL,Jq.perm dI⟩,.inr ⟨hx,rfl,dI.trans ?_⟩⟩
   exact List.perm_append_comm (l₁:=l) (l₂:=[(x,k)])
  (repeat (first|refine Nil.ptr ?_|refine ag.mk ?_|refine Ld.mk zM rfl ?_|refine aM.mk ?_|refine aa.eql ?_|refine aa.neq ?_|refine aa.lss ?_|refine aa.leq ?_|refine aa.gtr ?_|refine aa.geq ?_|refine Un.not ?_|refine Ext.mk rfl ?_|refine aq.mk ?_|refine aa.an ?_|refine aa.aU ?_|refine aa.aT ?_|refine Br.yes ?_|refine Br.no ?_))
  rcases hm with⟨rfl,rfl,hfn⟩|⟨mb,m,ck,rfl,h2⟩
  ·(repeat (first|refine Nil.ptr ?_|refine ag.mk ?_|refine Ld.mk zM rfl ?_|refine aM.mk ?_|refine aa.eql ?_|refine aa.neq ?_|refine aa.lss ?_|refine aa.leq ?_|refine aa.gtr ?_|refine aa.geq ?_|refine Un.not ?_|refine Ext.mk rfl ?_|refine aq.mk ?_|refine aa.an ?_|refine aa.aU ?_|refine aa.aT ?_|refine Br.yes ?_|refine Br.no ?_))
   intro mb _
   (repeat (first|refine Nil.ptr ?_|refine ag.mk ?_|refine Ld.mk zM rfl ?_|refine aM.mk ?_|refine aa.eql ?_|refine aa.neq ?_|refine aa.lss ?_|refine aa.leq ?_|refine aa.gtr ?_|refine aa.geq ?_|refine Un.not ?_|refine Ext.mk rfl ?_|refine aq.mk ?_|refine aa.an ?_|refine aa.aU ?_|refine aa.aT ?_|refine Br.yes ?_|refine Br.no ?_))
   refine St.one (by repeat (first|exact ct.head _|apply ct.tail|apply ct.bL)) rfl (by simp) rfl ?_
   refine JE.of ?_ (fb mb _ (by rw[hfn];exact gj.made mb))
   simp only[List.append_nil]
   refine .perm ?_
   refine(List.Perm.swap _ _ _).trans (.cons _ ?_)
   exact List.perm_append_comm (l₁:=[_])
  ·(repeat (first|refine Nil.ptr ?_|refine ag.mk ?_|refine Ld.mk zM rfl ?_|refine aM.mk ?_|refine aa.eql ?_|refine aa.neq ?_|refine aa.lss ?_|refine aa.leq ?_|refine aa.gtr ?_|refine aa.geq ?_|refine Un.not ?_|refine Ext.mk rfl ?_|refine aq.mk ?_|refine aa.an ?_|refine aa.aU ?_|refine aa.aT ?_|refine Br.yes ?_|refine Br.no ?_))
   refine JE.mk ?_
   exact fb mb Cm (.inr ⟨mb,m,ck,rfl,h2⟩)
 ·refine hm.zC zS hf ?_
  (repeat (first|refine Nil.ptr ?_|refine ag.mk ?_|refine Ld.mk zM rfl ?_|refine aM.mk ?_|refine aa.eql ?_|refine aa.neq ?_|refine aa.lss ?_|refine aa.leq ?_|refine aa.gtr ?_|refine aa.geq ?_|refine Un.not ?_|refine Ext.mk rfl ?_|refine aq.mk ?_|refine aa.an ?_|refine aa.aU ?_|refine aa.aT ?_|refine Br.yes ?_|refine Br.no ?_))
  refine⟨_,_,rfl,.refl _,l,FJ,.inl ⟨?_,rfl,rfl⟩⟩
  rw[eB];exact⟨i,hi,hx⟩
theorem Fz{h:Value}{l:List It}{C:Hp}(hi:Gt h l C)(cc:l.length<4398046511104):
  Fc Tryz.prog 265 #[h] C (fun v C'=>∃l',Gt h l' C'∧
   ((l=[]∧v=.tuple #[.int .i64 0,.int .i64 0,.int .i64 10]∧l'=l)∨(∃a,l.Perm (a::l')∧(∀b∈l,prec b a=false)∧v=.tuple #[.int .i64 a.1,.int .i64 a.2,.int .i64 0]))):=by
 have FJ:=hi
 obtain⟨f,ho,hc,hO,h1⟩:=hi
 by_cases hl:l=[]
 ·subst hl
  refine aP fun g=>pc ?_
  obtain⟨bh,sv,mv,Cs,Cm,rfl,rfl,hs,hm,hne⟩:=ho
  (repeat (first|refine Nil.ptr ?_|refine ag.mk ?_|refine Ld.mk zM rfl ?_|refine aM.mk ?_|refine aa.eql ?_|refine aa.neq ?_|refine aa.lss ?_|refine aa.leq ?_|refine aa.gtr ?_|refine aa.geq ?_|refine Un.not ?_|refine Ext.mk rfl ?_|refine aq.mk ?_|refine aa.an ?_|refine aa.aU ?_|refine aa.aT ?_|refine Br.yes ?_|refine Br.no ?_))
  refine c7.or true (fun _=>?_) rfl fun _=>?_
  ·(repeat (first|refine Nil.ptr ?_|refine ag.mk ?_|refine Ld.mk zM rfl ?_|refine aM.mk ?_|refine aa.eql ?_|refine aa.neq ?_|refine aa.lss ?_|refine aa.leq ?_|refine aa.gtr ?_|refine aa.geq ?_|refine Un.not ?_|refine Ext.mk rfl ?_|refine aq.mk ?_|refine aa.an ?_|refine aa.aU ?_|refine aa.aT ?_|refine Br.yes ?_|refine Br.no ?_))
   refine hs.cP ?_
   (repeat (first|refine Nil.ptr ?_|refine ag.mk ?_|refine Ld.mk zM rfl ?_|refine aM.mk ?_|refine aa.eql ?_|refine aa.neq ?_|refine aa.lss ?_|refine aa.leq ?_|refine aa.gtr ?_|refine aa.geq ?_|refine Un.not ?_|refine Ext.mk rfl ?_|refine aq.mk ?_|refine aa.an ?_|refine aa.aU ?_|refine aa.aT ?_|refine Br.yes ?_|refine Br.no ?_))
   exact⟨rfl,rfl⟩
  ·(repeat (first|refine Nil.ptr ?_|refine ag.mk ?_|refine Ld.mk zM rfl ?_|refine aM.mk ?_|refine aa.eql ?_|refine aa.neq ?_|refine aa.lss ?_|refine aa.leq ?_|refine aa.gtr ?_|refine aa.geq ?_|refine Un.not ?_|refine Ext.mk rfl ?_|refine aq.mk ?_|refine aa.an ?_|refine aa.aU ?_|refine aa.aT ?_|refine Br.yes ?_|refine Br.no ?_))
   exact⟨_,_,rfl,.refl _,[],FJ,.inl ⟨rfl,rfl,rfl⟩⟩
 ·obtain⟨n,hn⟩:∃n,l.length=n+1:=⟨l.length-1,by have:=List.length_pos_iff.2 hl;omega⟩
  have hmin:∀b∈l,prec b (aH l 0)=false:=fun b hb=>by
   obtain⟨j,hj,e⟩:=List.mem_iff_getElem.1 hb
   have:=EZ hO j hj
   rwa [show aH l j=b by simp[aH,List.getD,hj,e]]at this
  intro g
  refine pc (R:=aZ _) ?_
  obtain⟨bh,la,mb,ax,Cm,rfl,rfl,aD,hm⟩:=ho.open (by omega)
  unfold L265
  (repeat (first|refine Nil.ptr ?_|refine ag.mk ?_|refine Ld.mk zM rfl ?_|refine aM.mk ?_|refine aa.eql ?_|refine aa.neq ?_|refine aa.lss ?_|refine aa.leq ?_|refine aa.gtr ?_|refine aa.geq ?_|refine Un.not ?_|refine Ext.mk rfl ?_|refine aq.mk ?_|refine aa.an ?_|refine aa.aU ?_|refine aa.aT ?_|refine Br.yes ?_|refine Br.no ?_))
  refine c7.or false (fun _=>?_) rfl fun _=>?_
  ·(repeat (first|refine Nil.ptr ?_|refine ag.mk ?_|refine Ld.mk zM rfl ?_|refine aM.mk ?_|refine aa.eql ?_|refine aa.neq ?_|refine aa.lss ?_|refine aa.leq ?_|refine aa.gtr ?_|refine aa.geq ?_|refine Un.not ?_|refine Ext.mk rfl ?_|refine aq.mk ?_|refine aa.an ?_|refine aa.aU ?_|refine aa.aT ?_|refine Br.yes ?_|refine Br.no ?_))
   exact⟨rfl,by rw[hn];simp;omega⟩
  (repeat (first|refine Nil.ptr ?_|refine ag.mk ?_|refine Ld.mk zM rfl ?_|refine aM.mk ?_|refine aa.eql ?_|refine aa.neq ?_|refine aa.lss ?_|refine aa.leq ?_|refine aa.gtr ?_|refine aa.geq ?_|refine Un.not ?_|refine Ext.mk rfl ?_|refine aq.mk ?_|refine aa.an ?_|refine aa.aU ?_|refine aa.aT ?_|refine Br.yes ?_|refine Br.no ?_))
  refine ai.of 0 rfl (by omega) ?_
  refine ay.row (l:=cL .i64 l++ax) zM aD (df (by omega) ax) ?_
  intro SL _
  refine St.p (jF _ _) ?_
  (repeat (first|refine Nil.ptr ?_|refine ag.mk ?_|refine Ld.mk zM rfl ?_|refine aM.mk ?_|refine aa.eql ?_|refine aa.neq ?_|refine aa.lss ?_|refine aa.leq ?_|refine aa.gtr ?_|refine aa.geq ?_|refine Un.not ?_|refine Ext.mk rfl ?_|refine aq.mk ?_|refine aa.an ?_|refine aa.aU ?_|refine aa.aT ?_|refine Br.yes ?_|refine Br.no ?_))
  refine aa.kW (c:=(n:Int)) (by rw[hn];simp) (by omega) ?_
  (repeat (first|refine Nil.ptr ?_|refine ag.mk ?_|refine Ld.mk zM rfl ?_|refine aM.mk ?_|refine aa.eql ?_|refine aa.neq ?_|refine aa.lss ?_|refine aa.leq ?_|refine aa.gtr ?_|refine aa.geq ?_|refine Un.not ?_|refine Ext.mk rfl ?_|refine aq.mk ?_|refine aa.an ?_|refine aa.aU ?_|refine aa.aT ?_|refine Br.yes ?_|refine Br.no ?_))
  refine ai.nat (by omega) ?_
  refine ay.row (l:=cL .i64 l++ax) zM aD (df (by omega) ax) ?_
  intro SJ _
  refine St.p (jF _ _) ?_
  (repeat (first|refine Nil.ptr ?_|refine ag.mk ?_|refine Ld.mk zM rfl ?_|refine aM.mk ?_|refine aa.eql ?_|refine aa.neq ?_|refine aa.lss ?_|refine aa.leq ?_|refine aa.gtr ?_|refine aa.geq ?_|refine Un.not ?_|refine Ext.mk rfl ?_|refine aq.mk ?_|refine aa.an ?_|refine aa.aU ?_|refine aa.aT ?_|refine Br.yes ?_|refine Br.no ?_))
  refine dA.upto (h:=n) (by omega) ?_
  (repeat (first|refine Nil.ptr ?_|refine ag.mk ?_|refine Ld.mk zM rfl ?_|refine aM.mk ?_|refine aa.eql ?_|refine aa.neq ?_|refine aa.lss ?_|refine aa.leq ?_|refine aa.gtr ?_|refine aa.geq ?_|refine Un.not ?_|refine Ext.mk rfl ?_|refine aq.mk ?_|refine aa.an ?_|refine aa.aU ?_|refine aa.aT ?_|refine Br.yes ?_|refine Br.no ?_))
  refine St.one (by repeat (first|exact ct.head _|apply ct.tail|apply ct.bL)) rfl (by simp) rfl ?_
  refine DR.self ?_
  (repeat (first|refine Nil.ptr ?_|refine ag.mk ?_|refine Ld.mk zM rfl ?_|refine aM.mk ?_|refine aa.eql ?_|refine aa.neq ?_|refine aa.lss ?_|refine aa.leq ?_|refine aa.gtr ?_|refine aa.geq ?_|refine Un.not ?_|refine Ext.mk rfl ?_|refine aq.mk ?_|refine aa.an ?_|refine aa.aU ?_|refine aa.aT ?_|refine Br.yes ?_|refine Br.no ?_))
  rw[←List.append_nil Cm]
  refine gj.del (A:=[_,_,_,_]) (B:=[]) hm fun Hx hm'=>?_
  rw[List.append_nil]
  have GW:cL .i64 l++ax=cL .i64 (l.take n)++(enc .i64 (aH l n)::ax):=by
   have e:l=l.take n++[aH l n]:=by
    have h2:l.drop n=[aH l n]:=by
     rw[List.drop_eq_getElem_cons (by omega),List.drop_eq_nil_of_le (by omega)]
     simp[hn,aH,List.getD]
    have:=(List.take_append_drop n l).symm
    rw[h2]at this;exact this
   conv=>lhs;rw[e]
   simp[cL]
  have C9:∀r∈cL .i64 (l.take n)++(enc .i64 (aH l n)::ax),r.length=2:=by rw[←GW];exact aD
  intro J hJ
  have hlt:(l.take n).length=n:=by simp[hn]
  have fb:∀l' C',Gt (.pointer (some ⟨bh,0,none⟩)) l' C'→l.Perm (aH l 0::l')→J [] ((SJ,Obj.cells (enc .i64 (aH l n)).toArray 397 (0,0))::(SL,Obj.cells (enc .i64 (aH l 0)).toArray 397 (0,0))::C'):=by
   intro l' C' hi' Io
   refine hJ _ fun gs=>?_
   (repeat (first|refine Nil.ptr ?_|refine ag.mk ?_|refine Ld.mk zM rfl ?_|refine aM.mk ?_|refine aa.eql ?_|refine aa.neq ?_|refine aa.lss ?_|refine aa.leq ?_|refine aa.gtr ?_|refine aa.geq ?_|refine Un.not ?_|refine Ext.mk rfl ?_|refine aq.mk ?_|refine aa.an ?_|refine aa.aU ?_|refine aa.aT ?_|refine Br.yes ?_|refine Br.no ?_))
   exact⟨_,_,rfl,.skip .tail,l',hi',.inr ⟨_,Io,hmin,rfl⟩⟩
  (repeat (first|refine Nil.ptr ?_|refine ag.mk ?_|refine Ld.mk zM rfl ?_|refine aM.mk ?_|refine aa.eql ?_|refine aa.neq ?_|refine aa.lss ?_|refine aa.leq ?_|refine aa.gtr ?_|refine aa.geq ?_|refine Un.not ?_|refine Ext.mk rfl ?_|refine aq.mk ?_|refine aa.an ?_|refine aa.aU ?_|refine aa.aT ?_|refine Br.yes ?_|refine Br.no ?_))
  have zN:El (.pointer (some ⟨bh,0,none⟩)) (l.take n) (tR f (aH l 0).1 none) ((bh,Obj.cells #[.slice (some ⟨la,0,none⟩) n (l.length+ax.length),.map (some mb)] 395 (0,0))::(la,.cells (rows (cL .i64 l++ax)) 397 (0,0))::Hx):=by
   rw[GW]
   exact .shut C9 hlt.symm (by simp[hn];omega) hm'
  refine Br.mk (fun h0=>?_) (fun h0=>?_)
  ·have h0:0<n:=by simpa using h0
   obtain⟨_,q1,q2,q3,q4⟩:=ET hc hO h1 hn h0
   refine ay.q ?_
   refine ae.fq (lF zN (i:=0) (by omega) (aH l n)) ?_
   rintro v C2 ⟨rfl,yq⟩
   have zY:iu ((l.take n).set 0 (aH l n)) (tR (tR f (aH l 0).1 none) (aH l n).1 (some 0)) 0:=by
    refine⟨fun j hj IC=>?_,fun x hx=>?_⟩
    ·unfold tR
     rw[if_neg]
     ·exact q4.1 j hj IC
     ·intro e
      have Sr:aH ((l.take n).set 0 (aH l n)) 0=aH l n:=by rw[dV _ (by omega)];simp[dZ]
      exact IC (q3.inj hj (by simp;omega) (by rw[e,Sr]))
    ·unfold tR
     rw[if_neg]
     ·exact q4.2 x hx
     ·intro e
      refine hx (eB.2 ⟨0,by simp;omega,?_⟩)
      rw[dV _ (by omega)];simp[dZ,e]
   refine ae.fq (CK yq (i:=0) (by simp;omega) (by simp;omega) (by simpa[hn]using q2) zY q3) ?_
   rintro v C3 ⟨rfl,l3,f3,Ro,Cp,RP,Kt⟩
   exact JE.mk (fb l3 C3 ⟨f3,Ro,RP,Kt,q3.perm Cp⟩ ((Cp.cons (aH l 0)).trans q1).symm)
  ·have h0:n=0:=by simp at h0;omega
   subst h0
   refine JE.mk (fb (l.take 0) _ ⟨_,zN,⟨fun j hj=>by simp at hj,fun x _=>?_⟩,fun j _ hj=>by simp at hj,by simp[fP]⟩ ?_)
   ·unfold tR
    split
    ·rfl
    ·rename_i hne
     refine hc.2 x fun hm=>hne ?_
     obtain⟨j,hj,e⟩:=eB.1 hm
     rw[show j=0 by omega]at e;exact e.symm
   ·match l,hn with
    | [a],_=>exact .refl _
end Go.Proofs
namespace eH
open Go.Sx D1
def nn(s k:Nat):It:=((s:Int),(k:Int))
variable {n:Nat} {c:Nat→Nat→Nat} {T:Nat} {D:List Nat} {l l':List It} {s i:Nat}
end eH
set_option maxRecDepth 100000
namespace Go.Proofs
open Go Go.Sx
open av D1
theorem ze{pt n v:Nat}{T:Nd→Option Nat}{C:Hp}(h:jd pt n T C)(hv:v<n):
  Rd Tryz.prog 331 #[ptr pt,.int .i64 (v:Int)] C (fun r=>∃l:List (Nd×Nat),(l.map Prod.fst).Nodup∧(∀d r,(d,r)∈l↔T d=some r∧d.v=v)∧r=.tuple #[.int .i64 ((l.length:Nat):Int),.int .i64 0]):=by
 have h0:=h
 obtain⟨vs,Cs,ms,rfl,hs,ho⟩:=h
 obtain⟨m,hm⟩:∃m,ms[v]? =some m:=⟨_,List.getElem?_eq_getElem (by rw[ho.len];exact hv)⟩
 have he:=ho.gg v m hm
 have hT:∀d:Nd,d.v=v→T d=aJ m.l d:=fun d hd=>by rw[ho.T,hd,hm];rfl
 have hmem:∀d r,(d,r)∈m.l↔T d=some r∧d.v=v:=fun d r=>by
  constructor
  ·intro hx
   have hd:=ho.var v m hm _ hx
   exact⟨by rw[hT d hd];exact(cR he.nd).2 hx,hd⟩
  ·rintro⟨h1,h2⟩
   rw[hT d h2]at h1
   exact(cR he.nd).1 h1
 refine aP fun g=>vY ?_
 refine ae.eq (gn h0 hv) ?_
 refine aa.eP (Br.F ?_)
 refine Nil.ptr ?_
 refine ag.mk (Ld.mk zM rfl ?_)
 refine hs.GK (x:=.map (some m.b)) (by rw[List.getElem?_map,hm];rfl) (fun _ h=>by exact .tail _ (List.mem_append_left _ h)) ?_
 refine he.BZ (b:=m.b) (by exact .tail _ (List.mem_append_right _ (k9 hm))) ?_
 exact bC.mk (.refl _) ⟨m.l,he.nd,hmem,rfl⟩
section
variable {kp v gr:Nat} {K:Kd} {S:Nat→av.Fn} {ord tr:List Nat} {C:Hp}
theorem zI{af:List Nat}(h:bS kp K ord af tr C)(hv:v<K.n):Rd Tryz.prog 262 #[ptr kp,.int .i64 (v:Int)] C (fun r=>∃l:List (Nd×Nat),(l.map Prod.fst).Nodup∧(∀d r,(d,r)∈l↔K.T d=some r∧d.v=v)∧r=.tuple #[.int .i64 ((l.length:Nat):Int),.int .i64 0]):=by
 have h0:=h
 obtain⟨b,rfl,hO⟩:=h
 refine aP fun g=>wD ?_
 refine aa.an (Br.no ?_)
 refine ae.eq (lq h0 (v:Int)) ?_
 rw[decide_eq_true (by omega)]
 refine Un.not (Br.no ?_)
 refine Nil.ptr (ag.mk (Ld.f ?_))
 refine ae.rq (ze hO.ut hv) ?_
 rintro r ⟨l,h1,h2,rfl⟩
 exact Ext.mk rfl (Ext.mk rfl (bC.mk (.refl _) ⟨l,h1,h2,rfl⟩))
theorem DM(h:At kp K S ord tr C)(hv:v<K.n):Rd Tryz.prog 262 #[ptr kp,.int .i64 (v:Int)] C (fun r=>∃w:Nat,r=.tuple #[.int .i64 (w:Int),.int .i64 0]):=by
 obtain⟨K',S',bR,h,hk⟩:=h
 exact(zI h.rep (by rw[hk.n];exact hv)).mono fun r H ⟨e,l,_,_,h3⟩=>⟨e,_,h3⟩
theorem FD{h:Value}{l:List It}{C:Hp}(hi:Gt h l C):Rd Tryz.prog 264 #[h] C (· =.int .i64 ((l.length:Nat):Int)):=by
 obtain⟨f,⟨bh,sv,mv,Cs,Cm,rfl,rfl,hs,hm,hne⟩,_⟩:=hi
 refine aP fun g=>wB ?_
 refine aa.an (Br.no ?_)
 refine Ld.n ?_
 refine hs.cP ?_
 rw[bN]
 exact bC.mk (.refl _) rfl
def M3:List Value→Nat
 | .slice _ n _::_=>n
 |_=>0
theorem BI(h:At kp K S ord tr C):Fc Tryz.prog 187 #[ptr kp] C (fun r H=>∃N l,H=N++C∧l.Perm (List.range K.n)∧aN 3 .i64 r (iw l) N):=by
 have hn:=h.mV
 refine aP fun g=>xl ?_
 refine aa.an (Br.no ?_)
 refine ae.fq (FA C) ?_
 rintro w H ⟨bh,C0,rfl,rfl,FJ⟩
 refine ae.eq (nM h) ?_
 refine⟨fun vs H=>∃(i:Nat) (l:List It) (C':Hp),vs=[.int .i64 (i:Int)]∧i≤K.n∧H=C'++C∧Gt (.pointer (some ⟨bh,0,none⟩)) l C'∧(l.map Prod.fst).Perm (iw (List.range i)),fun vs _=>K.n-ca vs 0,JE.mk ⟨0,[],C0,rfl,Nat.zero_le _,rfl,FJ,.refl _⟩,?_⟩
 rintro w H ⟨i,l,C',⟨⟩,hi,rfl,hh,hp⟩ gs
 have pF:l.length=i:=by have:=hp.length_eq;simpa[iw]using this
 refine aa.iC (Br.dec (fun hlt=>?_) (fun hge=>?_))
 ·refine ae.rq (DM h hlt) ?_
  rintro r ⟨w,rfl⟩
  refine Ext.two ?_
  refine⟨_,rfl,?_⟩
  refine ae.fq (Co hh (by omega) _ _) ?_
  rintro r C2 ⟨l2,N5,⟨hin,_⟩|⟨_,rfl,dI⟩⟩
  ·exfalso
   have:=hp.mem_iff.1 hin
   rw[HX,List.mem_range]at this
   omega
  refine aa.inc ?_
  refine aB.mk ⟨i+1,l2,C2,rfl,hlt,rfl,N5,?_⟩ (by simp only[ca];omega)
  refine(dI.map _).trans ?_
  rw[List.map_cons,List.range_succ,bQ]
  exact(List.Perm.cons _ hp).trans (List.perm_append_comm (l₁:=[((i:Nat):Int)]))
 obtain rfl:i=K.n:=by omega
 refine⟨fun vs H=>∃(s:Value) (done:List Nat) (l:List It) (CS C':Hp),vs=[s]∧H=CS++(C'++C)∧Gt (.pointer (some ⟨bh,0,none⟩)) l C'∧aN 3 .i64 s (iw done) CS∧(iw done++l.map Prod.fst).Perm (iw (List.range K.n)),fun vs _=>K.n-M3 vs,JE.mk ⟨_,[],l,[],C',rfl,rfl,hh,aN.nil,hp⟩,?_⟩
 clear hp hh pF
 rintro w H ⟨s,done,l,CS,C',⟨⟩,rfl,hh,hs,hp⟩ gs
 have hlen:done.length+l.length=K.n:=by have:=hp.length_eq;simpa[iw]using this
 refine ae.eq (FD hh) ?_
 refine aa.pA (b:=0) (Br.dec (fun hlt=>?_) (fun hge=>?_))
 ·refine ae.fq (Fz hh (by omega)) ?_
  rintro r C2 ⟨l2,N5,⟨rfl,_⟩|⟨a,dI,_,rfl⟩⟩
  ·simp at hlt
  have ha:a.1∈iw (List.range K.n):=hp.mem_iff.1 (List.mem_append_right _ (List.mem_map_of_mem (dI.mem_iff.2 (.head _))))
  obtain⟨x,hx,PC⟩:=List.mem_map.1 ha
  refine Ext.mk rfl (Ext.mk rfl (Ext.mk rfl ?_))
  rw[←PC]
  refine ak.int (e:=3) (by kernel_rfl) (by kernel_rfl) (by kernel_rfl) fun bx=>?_
  refine hs.pK (x:=(x:Int)) (.cons .left) (by exact .head _) (by rw[aC];omega) (by rw[aC];omega) fun s2 Tj pz=>?_
  have me:(iw (done++[x])++l2.map Prod.fst).Perm (iw (List.range K.n)):=by
   refine .trans ?_ hp
   rw[bQ,List.append_assoc]
   refine List.Perm.append_left _ ?_
   refine .trans ?_ (dI.map _).symm
   rw[List.map_cons,←PC]
   exact .refl _
  have e1:∀{s:Value} {done:List Nat} {CS:Hp},aN 3 .i64 s (iw done) CS→M3 [s]=done.length:=fun{s done CS} h=>by
   obtain⟨a,c,h⟩:=aI.len h
   rw[h];simp[M3,iw]
  refine aB.of .tail ⟨s2,done++[x],l2,Tj,C2,rfl,rfl,N5,by rw[bQ];exact pz,me⟩ ?_
  rw[e1 (done:=done++[x]) (by rw[bQ];exact pz),e1 hs,List.length_append,List.length_singleton]
  have:=dI.length_eq
  rw[List.length_cons]at this
  omega
 ·have Ru:l=[]:=List.length_eq_zero_iff.1 (by omega)
  subst Ru
  rw[List.map_nil,List.append_nil]at hp
  obtain⟨l',hl',e⟩:=yb hp
  rw[e]at hs
  exact aZ.mk (aR.dx .right CS) ⟨CS,l',rfl,hl',hs⟩
theorem BA(h:At kp K S ord tr C)(hp:ord.Perm (List.range K.n))(nw:100≤gr∧gr≤1000)(iD:tr.length<17317308137472):
  Fc Tryz.prog 135 #[ptr kp,.int .i64 (gr:Int)] C (fun v H=>∃l,l.Perm (List.range K.n)∧v=.tuple #[rep (fy K S ord) (fy K S (aK ord ((rm K S).c8 gr ord l).1)) ((rm K S).c8 gr ord l).2,.int .i64 0]∧At kp K S (aK ord ((rm K S).c8 gr ord l).1) (tr++((rm K S).c8 gr ord l).1) H):=by
 have hn:=h.mV
 have tW:(rm K S).n=K.n:=rfl
 refine aP fun g=>xG ?_
 intro b1 _
 refine ae.eq (nR kp (gr:=(gr:Int)) C) ?_
 rw[if_neg (by omega)]
 refine aa.eP (Br.F ?_)
 refine ae.eq (ic h) ?_
 refine Build.mk (cs:=[.int .i64 ((fy K S ord:Nat):Int),.int .i64 0,.int .i64 0,.bool false]) (by kernel_rfl) ?_
 intro Qs _
 refine St.q ?_
 refine ae.fq (BI h) ?_
 rintro s H ⟨NQ,l,rfl,hl,hQ⟩
 have pF:l.length=K.n:=by rw[hl.length_eq,List.length_range]
 refine hQ.cP ?_
 rw[aC,pF]
 refine⟨fun vs H=>∃(i:Nat) (C':Hp),vs=[.int .i64 (i:Int)]∧i≤K.n∧H=(Qs,.cells (List.toArray [.int .i64 ((fy K S ord:Nat):Int),.int .i64 0,.int .i64 ((((rm K S).c8 gr ord (l.take i)).2:Nat):Int),.bool false]) 147 (0,0))::(b1,.cells #[.int .i64 0,.int .i64 0,.int .i64 0,.bool false] 147 (0,0))::(NQ++C')∧At kp K S (aK ord ((rm K S).c8 gr ord (l.take i)).1) (tr++((rm K S).c8 gr ord (l.take i)).1) C',
  fun vs _=>K.n-ca vs 0,JE.mk ⟨0,C,rfl,Nat.zero_le _,rfl,by simpa[Rm.c8,aK]using h⟩,?_⟩
 rintro w H ⟨i,C',⟨⟩,hi,rfl,hA⟩ gs
 have hok:=qW (m:=rm K S) (g:=gr) (l:=l.take i) hp (fun v hv=>List.mem_range.1 (hl.mem_iff.1 (List.mem_of_mem_take hv)))
 have hlt:(l.take i).length≤64:=by rw[List.length_take];omega
 have h1:=hok.len
 have h2:=hok.Bm
 have h3:(rm K S).n*(l.take i).length≤64*64:=Nat.mul_le_mul hn hlt
 have h4:3*((rm K S).n-1)*(l.take i).length≤(3*64)*64:=Nat.mul_le_mul (Nat.mul_le_mul_left _ (by rw[tW];omega)) hlt
 have Mh:=xY hp hok.mem
 refine aa.iC (Br.dec (fun hlt=>?_) (fun hge=>?_))
 ·have NX:i<l.length:=by omega
  have m4:l.take (i+1)=l.take i++[l[i]]:=List.take_succ_eq_append_getElem NX
  refine hQ.ld (x:=((l[i]:Nat):Int)) (iS (List.getElem?_eq_getElem NX)) (fun _ h=>.tail _ (.tail _ (List.mem_append_left _ h))) ?_
  have Mc:l[i]<K.n:=List.mem_range.1 (hl.mem_iff.1 (List.getElem_mem NX))
  refine ae.fq (EE hA Mh Mc nw (by rw[List.length_append];omega) rfl) ?_
  rintro w C2 ⟨rfl,oC⟩
  have sY:=(rm K S).x5 gr (ord:=aK ord ((rm K S).c8 gr ord (l.take i)).1) (Ca Mh Mc)
  have yp:=sY.Bm
  rw[tW]at yp
  have Me:=pW (m:=rm K S) (g:=gr) (v:=l[i]) (l:=l.take i) (ord:=ord)
  rw[←m4]at Me
  rw[List.append_assoc,←kV]at oC
  refine Ext.two ?_
  intro T3 _
  refine St.q ?_
  refine Ld.f ?_
  refine Ld.f ?_
  refine aa.fO ?_
  refine ag.mk (St.one (c':=List.toArray [.int .i64 ((fy K S ord:Nat):Int),.int .i64 0,.int .i64 ((((rm K S).c8 gr ord (l.take (i+1))).2:Nat):Int),.bool false]) (by exact .tail (.head _)) rfl (by simp) (by rw[Me];rfl) ?_)
  refine aa.inc ?_
  exact aB.of .tail ⟨i+1,C2,rfl,hlt,rfl,by rw[Me];exact oC⟩ (by simp only[ca];omega)
 obtain rfl:i=K.n:=by omega
 rw[show l.take K.n=l from by rw[←pF];exact List.take_length]at hA⊢
 refine ae.eq (ic hA) ?_
 refine ag.mk (St.one (c':=List.toArray [.int .i64 ((fy K S ord:Nat):Int),.int .i64 ((fy K S (aK ord ((rm K S).c8 gr ord l).1):Nat):Int),.int .i64 ((((rm K S).c8 gr ord l).2:Nat):Int),.bool false]) (by exact .head _) rfl (by simp) rfl ?_)
 refine ay.q ?_
 refine St.q ?_
 refine ay.q ?_
 exact aZ.mk (.skip (.skip .right)) ⟨l,hl,rfl,hA⟩
end
end Go.Proofs
set_option maxRecDepth 100000
namespace Go.Proofs
open Go Go.Sx
open av
section
variable {kp mb Qr b1 b7 T5 bn:Nat} {K:Kd} {S:Nat→av.Fn} {ord af tr:List Nat} {C:Hp}
def kr(r:Nat):Value:=u32 r
theorem gV(a b:Nat):Instr.sameNow (.int .u32) (kr a) (kr b)=some (decide (a=b)):=by
 simp only[Instr.sameNow,kr,u32,if_true,Option.some.injEq]
 rw[Bool.eq_iff_iff];simp;omega
theorem nE(a:Nat):Instr.sameBits 10000 (kr a) (kr a)=true:=by simp[Instr.sameBits,kr,u32]
theorem HT{n:Nat}{s:Value}(h:s.oneCell'=true):∀u∈[Value.int .i64 (n:Int),s],u.oneCell'=true:=fun u hu=>by
 simp only[List.mem_cons,List.not_mem_nil,or_false]at hu
 rcases hu with rfl|rfl
 ·rfl
 ·exact h
theorem gv(d:Nd):∀u∈bp d,u.oneCell'=true:=fun u hu=>by
 simp only[bp,List.mem_cons,List.not_mem_nil,or_false]at hu
 rcases hu with rfl|rfl|rfl<;>rfl
theorem tq{X:Hp}(h:cv kp K S ord af tr C){r:Nat}{d:Nd}(hd:K.N r=some d):Px Tryz.prog 202 #[ptr kp,u32 r] (X++C) (fun v _=>v=.agg (bp d).toArray):=by
 have hlt:=h.dk (.inr ⟨d,hd⟩)
 refine aP fun g=>wZ ?_
 intro b1 _
 refine ae.eq (args:=#[ptr kp,u32 r]) (iR h.rep (by omega)) ?_
 rw[dQ hd (h.ok.mid.two hd).1]
 refine Ext.two ?_
 intro b7 _
 refine St.p (gv d) ?_
 refine ay.q ?_
 refine St.p (gv d) ?_
 refine ay.q ?_
 exact Qt.mk (by repeat (first|exact iB.refl _|apply iB.cons|apply iB.app)) rfl
theorem tv{X:Hp}{v:Value}(h:cv kp K S ord af tr C){rs:List Nat}(hv:fR .u32 (X++C) v (iw rs))(hr:∀r∈rs,live K.N r)(hl:rs.length<4611686018427387904):Px Tryz.prog 200 #[ptr kp,v] (X++C) (fun w _=>w=.int .i64 0):=by
 refine aP fun g=>xe ?_
 refine aa.an (Br.no ?_)
 refine hv.cP ?_
 rw[aC]
 refine⟨fun vs H=>∃(i:Nat) (N:Hp),vs=[.int .i64 (i:Int)]∧i≤rs.length∧H=N++(X++C),fun vs _=>rs.length-ca vs 0,JE.mk ⟨0,[],rfl,Nat.zero_le _,rfl⟩,?_⟩
 rintro w H ⟨i,N,hw,hi,rfl⟩ gs
 simp only[List.cons.injEq,and_true]at hw
 subst hw
 refine aa.iC (Br.dec (fun hlt=>?_) (fun hge=>?_))
 ·have tX:=hr _ (List.getElem_mem hlt)
  have FC:=h.dk tX
  refine hv.ld (n:=((rs[i]:Nat):Int)) (iS (List.getElem?_eq_getElem hlt)) (fun _ h=>List.mem_append_right _ h) ?_
  refine ae.eq (args:=#[ptr kp,u32 rs[i]]) (iR h.rep (by omega)) ?_
  rw[if_pos (bD.2 tX)]
  refine Ext.two ?_
  intro SK _
  refine St.whole (r:=got K.N rs[i]) (by exact .head _) rfl (aQ _ _).1 (aQ _ _).2 ?_
  refine aa.eP (Br.F ?_)
  refine aa.inc ?_
  exact aB.mk ⟨i+1,_::N,rfl,hlt,rfl⟩ (by simp only[ca];omega)
 ·exact Qt.mk (by repeat (first|exact iB.refl _|apply iB.cons|apply iB.app)) rfl
end
end Go.Proofs
namespace eH
open Go.Sx
def AF(n:Nat)(l:Fs):Prop:=∀t∈l,O9 n t
variable {n:Nat}
variable {φ:List Nat→List Nat} {π:Nat→Nat}
def lay(n:Nat)(F:Nat→Nat):List Nat:=(List.range (wN n)).map fun i=>F i&&&yB n
def neg(n:Nat)(ws:List Nat):List Nat:=lay n fun i=>18446744073709551615-ws.getD i 0
end eH
set_option maxRecDepth 100000
namespace Go.Proofs
open Go Go.Sx
open av
section
variable {kp:Nat} {K:Kd} {S:Nat→av.Fn} {ord tr:List Nat} {C:Hp} {Q:Value→Hp→Prop}
theorem uu(h:At kp K S ord tr C){s gr:Nat}:Rd Tryz.prog 134 #[ptr kp,.int .u8 (s:Int),.int .i64 (gr:Int)] C (· =.int .i64 (if 6<s∨gr<100∨1000<gr then 1 else if s=6∧12<K.n then 6 else 0)):=by
 refine aP fun g=>pw ?_
 refine aa.an (Br.no ?_)
 refine aa.pA (b:=6) ?_
 refine c7.or (a:=decide (6<s)) (decide (gr<100)) (fun _=>aa.iC (b:=100) ⟨rfl,rfl⟩) rfl fun _=>?_
 refine c7.or (a:=decide (6<s)||decide (gr<100)) (decide (1000<gr)) (fun _=>aa.pA (b:=1000) ⟨rfl,rfl⟩) rfl fun _=>?_
 rw[←Bool.decide_or,←Bool.decide_or]
 refine Br.dec (fun hb=>?_) (fun hb=>?_)
 ·rw[if_pos (by omega)]
  exact bC.mk (.refl _) rfl
 rw[if_neg (by omega)]
 intro J9 h9
 refine aa.mI (b:=6) ?_
 by_cases hs:s=6
 ·rw[decide_eq_true hs]
  refine Split.go rfl ?_
  refine ae.eq (nM h) ?_
  refine aa.pA (b:=12) (aq.mk (JE.mk (h9 _ _ fun _=>?_)))
  show Br (.bool (decide (12<K.n))) _ _
  refine Br.dec (fun IY=>?_) (fun IY=>?_)
  ·rw[if_pos ⟨hs,IY⟩];exact bC.mk (.refl _) rfl
  ·rw[if_neg (by omega)];exact bC.mk (.refl _) rfl
 ·rw[decide_eq_false hs]
  refine Split.EX rfl ?_
  refine aq.mk (JE.mk (h9 _ _ fun _=>Br.no ?_))
  rw[if_neg (by omega)];exact bC.mk (.refl _) rfl
theorem ya(a b c:Int)(d:Bool):∀u∈[Value.int .i64 a,.int .i64 b,.int .i64 c,.bool d],u.oneCell'=true:=fun u hu=>by
 simp only[List.mem_cons,List.not_mem_nil,or_false]at hu
 rcases hu with rfl|rfl|rfl|rfl<;>rfl
abbrev EO(a b c:Int)(d:Bool):Value:=.agg #[.int .i64 a,.int .i64 b,.int .i64 c,.bool d]
theorem BB(h:At kp K S ord tr C){gr:Nat}(nw:100≤gr∧gr≤1000)(hin:Fc Tryz.prog 135 #[ptr kp,.int .i64 (gr:Int)] C Q)(hQ:∀v H,Q v H→∃(a b c:Int) (d:Bool) (e:Value),v=.tuple #[EO a b c d,e]):
  Fc Tryz.prog 85 #[ptr kp,.int .u8 1,.int .i64 (gr:Int)] C Q:=by
 refine aP fun g=>qK ?_
 intro b1 _
 refine ae.eq (uu h (s:=1)) ?_
 rw[if_neg (by omega),if_neg (by omega)]
 refine aa.eP (Br.F ?_)
 refine aa.mI (a:=1) (b:=1) (Br.yes ?_)
 refine ae.fq hin ?_
 intro v H hv
 obtain⟨a,b,c,d,e,rfl⟩:=hQ v H hv
 refine Ext.two ?_
 refine St.p (ya a b c d) ?_
 refine ay.q ?_
 exact aZ.mk .tail hv
end
end Go.Proofs
namespace av
section
variable {m:Rm} {g:Nat}
structure yX(m:Rm)(ord:List Nat)(ls:List Nat):Prop where
 mem:∀x∈ls,x+1<m.n
 le:m.size (aK ord ls)≤m.size ord
 len:ls.length+8192*m.size (aK ord ls)≤8192*m.size ord
theorem yX.of{ord ls:List Nat}(h1:∀x∈ls,x+1<m.n)(h2:m.size (aK ord ls)≤m.size ord)(h3:m.size (aK ord ls)=m.size ord→ls=[])(h4:ls.length≤8192):yX m ord ls:=by
 refine⟨h1,h2,?_⟩
 by_cases e:m.size (aK ord ls)=m.size ord
 ·rw[h3 e];simp[aK]
 ·omega
theorem um{ord l:List Nat}(hp:ord.Perm (List.range m.n))(hl:l.Perm (List.range m.n))(hn:m.n≤64):yX m ord (m.c8 g ord l).1∧(m.c8 g ord l).2≤3*m.n*(m.n-1):=by
 have h:=qW (m:=m) (g:=g) (l:=l) hp (fun v hv=>List.mem_range.1 (hl.mem_iff.1 hv))
 have pF:l.length=m.n:=by rw[hl.length_eq,List.length_range]
 obtain⟨h1,h2,h3,h4,h5⟩:=h
 rw[pF]at h4 h5
 have:m.n*m.n≤64*64:=Nat.mul_le_mul hn hn
 exact⟨.of h1 h2 (fun e=>(h3 e).1) (by omega),by rw[Nat.mul_assoc,Nat.mul_comm m.n,←Nat.mul_assoc];exact h4⟩
end
end av
namespace av
open eH
variable {n:Nat}
def sat(n:Nat)(f:Fn):Nat:=(List.range (2^n)).countP f
def flip(v x:Nat):Nat:=aO x v (!x.testBit v)
theorem flip_flip(v x:Nat):flip v (flip v x)=x:=by
 unfold flip
 rw[ah,if_pos rfl,zj]
 simpa using jo x v
theorem yF{v x:Nat}(hv:v<n)(hx:x<2^n):flip v x<2^n:=EH hx hv
theorem Ad{v:Nat}(hv:v<n):((List.range (2^n)).map (flip v)).Perm (List.range (2^n)):=by
 refine(List.perm_ext_iff_of_nodup ?_ List.nodup_range).2 fun x=>?_
 ·refine List.pairwise_map.2 (List.nodup_range.imp fun{a b} h e=>h ?_)
  rw[←flip_flip v a,e,flip_flip]
 ·rw[List.mem_map]
  constructor
  ·rintro⟨y,hy,rfl⟩
   exact List.mem_range.2 (yF hv (List.mem_range.1 hy))
  ·intro hx
   exact⟨flip v x,List.mem_range.2 (yF hv (List.mem_range.1 hx)),flip_flip v x⟩
theorem oO{f g p q:Nat→Bool}(h:∀x,(p x).toNat+(q x).toNat=(f x).toNat+(g x).toNat):∀l:List Nat,l.countP p+l.countP q=l.countP f+l.countP g
 | []=>rfl
 |x::l=>by
  have:=h x
  have:=oO h l
  simp only[List.countP_cons]
  cases hp:p x<;>cases hq:q x<;>cases hf:f x<;>cases hg:g x<;>simp_all<;>omega
theorem Bz{v:Nat}(hv:v<n)(f:Fn):sat n (fun x=>f (aO x v false))+sat n (fun x=>f (aO x v true))=2*sat n f:=by
 unfold sat
 rw[oO (f:=f) (g:=fun x=>f (flip v x)) (fun x=>?_)]
 ·have:List.countP (fun x=>f (flip v x)) (List.range (2^n))=List.countP f (List.range (2^n)):=by
   have h:=(Ad hv).countP_eq f
   rw[List.countP_map]at h
   exact h
  omega
 ·unfold flip
  have:=jo x v
  cases hb:x.testBit v<;>rw[hb]at this<;>simp only[Bool.not_true,Bool.not_false]<;>rw[this]<;>omega
theorem mr:sat n (fun _=>false)=0:=by simp[sat]
theorem sat_true:sat n (fun _=>true)=2^n:=by simp[sat]
variable {N:cN} {S:Nat→Fn} {af:Nat→Nat}
theorem By(h:WF n af N)(hl:jh n af)(hi:Interp N S){r a b:Nat}{d:Nd}(hd:N r=some d)(hv:d.v<n)(ha:a*2^dep n af N d.lo=sat n (S d.lo))(hb:b*2^dep n af N d.hi=sat n (S d.hi)):
  (a*2^(dep n af N d.lo-af d.v-1)+b*2^(dep n af N d.hi-af d.v-1))*2^dep n af N r=sat n (S r):=by
 have h1:=(h.lo hd).2
 have h2:=(h.hi hd).2
 rw[aj hd]
 have e1:(fun x=>S r (aO x d.v false))=S d.lo:=by
  have:=(lY h hl hi (r:=r) (.inr ⟨d,hd⟩) hv (by rw[aj hd];exact Nat.le_refl _) false)
  rw[(yM hd).1]at this
  exact(funext this.1).symm
 have e2:(fun x=>S r (aO x d.v true))=S d.hi:=by
  have:=(lY h hl hi (r:=r) (.inr ⟨d,hd⟩) hv (by rw[aj hd];exact Nat.le_refl _) true)
  rw[(yM hd).2]at this
  exact(funext this.1).symm
 have hh:=Bz hv (S r)
 rw[e1,e2,←ha,←hb]at hh
 have p1:2^dep n af N d.lo=2^(dep n af N d.lo-af d.v-1)*(2*2^af d.v):=by
  rw[←Nat.pow_succ',←Nat.pow_add];congr 1;omega
 have p2:2^dep n af N d.hi=2^(dep n af N d.hi-af d.v-1)*(2*2^af d.v):=by
  rw[←Nat.pow_succ',←Nat.pow_add];congr 1;omega
 rw[p1,p2]at hh
 rw[←Nat.mul_assoc a,←Nat.mul_assoc b,←Nat.add_mul,Nat.mul_left_comm]at hh
 omega
end av
set_option maxRecDepth 100000
namespace Go.Proofs
open Go Go.Sx
open av
theorem ER{P:Program}{f:FuncId}{args:Array Value}{B:Hp}{Q:Value→Prop}(h:Px P f args B (fun v _=>Q v)):Rd P f args B Q:=fun g=>(h g).mono fun e H h=>by
 obtain⟨v,H2,rfl,he,hg,hq⟩:=h
 exact⟨v,B,rfl,he.trans hg.gg,rfl,hq⟩
theorem aa.O3{a b:Nat}{k:Value→Prop}(h:k (.int .u64 (((a+b)%18446744073709551616:Nat):Int))):aa .num .add (.int .u64 (a:Int)) (.int .u64 (b:Int)) k:=by
 refine aa.add ?_
 rw[wrap_u64]
 have:(((a:Int)+(b:Int))%18446744073709551616)=((((a+b)%18446744073709551616:Nat)):Int):=by omega
 rw[this];exact h
section
variable {kp:Nat} {K:Kd} {S:Nat→av.Fn} {ord af tr:List Nat} {C:Hp}
theorem jG(r:Nat)(B:Hp):Rd Tryz.prog 201 #[u32 r] B (· =.bool (decide (r<2))):=by
 refine aP fun g=>xd ?_
 refine aa.mI (b:=0) ?_
 refine c7.or (a:=decide (r=0)) (decide (r=1)) (fun _=>aa.mI (b:=1) ⟨rfl,rfl⟩) rfl fun _=>?_
 refine bC.mk (.refl _) ?_
 rw[←Bool.decide_or]
 congr 1
 exact decide_eq_decide.2 (by omega)
theorem DE(h:cv kp K S ord af tr C){r v:Nat}(hr:live K.N r)(hv:v<18446744073709551616):
  Rd Tryz.prog 144 #[ptr kp,u32 r,.int .u64 (v:Int)] C (· =.tuple #[.bool (S r v),.int .i64 0]):=by
 have uM:K.n≤64:=h.aH.mV
 refine aP fun g=>xD ?_
 refine ak.int (e:=110) (by kernel_rfl) (by kernel_rfl) (by kernel_rfl) fun bx=>?_
 refine ae.eh .here (ER (tv (X:=[(bx,_)]) (rs:=[r]) h (fR.block (by exact .head _) (by simp)) (fun x hx=>by rw[List.mem_singleton.1 hx];exact hr) (by simp))) ?_
 refine aa.eP (Br.F ?_)
 refine⟨fun vs H=>∃q:Nat,vs=[u32 q]∧H=C∧live K.N q∧S q v=S r v,fun vs _=>K.n-dep K.n (lv af) K.N (ca vs 0),JE.of .tail ⟨r,rfl,rfl,hr,rfl⟩,?_⟩
 rintro w H ⟨q,⟨⟩,rfl,hq,he⟩ gs
 refine ae.eq (jG q _) ?_
 refine Un.not (Br.mk (fun hb=>?_) (fun hb=>?_))
 ·have h2:2≤q:=by simpa using hb
  obtain⟨d,hN⟩:∃d,K.N q=some d:=by
   rcases hq with hq|hq
   ·omega
   ·exact hq
  have oz:=h.ok.mid.var hN
  have hlo:=h.ok.wf.lo hN
  have hhi:=h.ok.wf.hi hN
  have hvl:=h.ok.lv.lt _ oz
  refine ae.eh .here (ER (tq (X:=[]) h hN)) ?_
  intro mh _
  refine St.p (gv d) ?_
  refine Ld.f ?_
  refine Ld.f ?_
  refine aa.uo (by simpa[dc]using hv) (aa.Gq (by simp[dc];exact Nat.lt_of_le_of_lt (Nat.shiftRight_le _ _) hv) (by decide) (aa.mI (b:=1) ?_))
  rw[Nat.and_one_is_mod]
  rw[Ge]
  have yu:=h.ok.mid.int.node hN v
  refine Br.mk (fun hb=>?_) (fun hb=>?_)
  ·rw[hb,if_pos rfl]at yu
   refine Ld.f ?_
   refine aB.of .tail ⟨d.hi,rfl,rfl,hhi.1,yu.symm.trans he⟩ ?_
   show K.n-dep K.n (lv af) K.N d.hi<K.n-dep K.n (lv af) K.N q
   rw[aj hN];omega
  ·rw[hb,if_neg (by decide)]at yu
   refine aB.of .tail ⟨d.lo,rfl,rfl,hlo.1,yu.symm.trans he⟩ ?_
   show K.n-dep K.n (lv af) K.N d.lo<K.n-dep K.n (lv af) K.N q
   rw[aj hN];omega
 ·have h2:q<2:=by simpa using hb
  refine aa.mI (b:=1) (bC.mk (.refl _) ?_)
  rw[←he]
  have hint:=h.ok.mid.int
  have:q=0∨q=1:=by omega
  rcases this with rfl|rfl
  ·rw[hint.zero];rfl
  ·rw[hint.one];rfl
end
end Go.Proofs
set_option maxRecDepth 100000
namespace Go.Proofs
open Go Go.Sx
open av
section
variable {kp mb b1 b9 c9 c1 c3 Ap:Nat} {K:Kd} {S:Nat→av.Fn} {ord af tr:List Nat} {C Z:Hp}
abbrev r3:Nat:=18446744073709551616
abbrev u64(x:Nat):Value:=.int .u64 (x:Int)
theorem oQ(h:cv kp K S ord af tr C){r:Nat}{d:Nd}(hd:K.N r=some d):Rd Tryz.prog 202 #[ptr kp,u32 r] C (· =.agg (bp d).toArray):=ER (tq (X:=[]) h hd)
theorem tu(h:cv kp K S ord af tr C){X:Hp}{r b:Nat}(hm:(b,Obj.cells (au .u32 [(r:Int)]) 110 (0,0))∈X)(hr:live K.N r):Rd Tryz.prog 200 #[ptr kp,.slice (some ⟨b,0,none⟩) 1 1] (X++C) (· =.int .i64 0):=
 ER (tv (X:=X) (rs:=[r]) h (fR.block (List.mem_append_left _ hm) (by simp)) (fun x hx=>by rw[List.mem_singleton.1 hx];exact hr) (by simp))
def cw(K:Kd)(af:List Nat)(S:Nat→av.Fn)(r:Nat):Nat:=sat K.n (S r) /2^dep K.n (lv af) K.N r
theorem lT(h:cv kp K S ord af tr C){r:Nat}(hr:r<2):cw K af S r=r:=by
 have hi:=h.ok.mid.int
 have h0:K.N r=none:=by
  cases hN:K.N r with
  |none=>rfl
  |some d=>have:=h.ok.mid.two hN;omega
 unfold cw
 rw[aL h0]
 have:r=0∨r=1:=by omega
 rcases this with rfl|rfl
 ·rw[show S 0=fun _=>false from funext hi.zero,mr,Nat.zero_div]
 ·rw[show S 1=fun _=>true from funext hi.one,sat_true,Nat.div_self (Nat.two_pow_pos _)]
theorem Dy(h:cv kp K S ord af tr C):∀(k r:Nat),K.n-dep K.n (lv af) K.N r≤k→live K.N r→cw K af S r*2^dep K.n (lv af) K.N r=sat K.n (S r)∧
  (∀d,K.N r=some d→cw K af S r=cw K af S d.lo*2^(dep K.n (lv af) K.N d.lo-lv af d.v-1)+cw K af S d.hi*2^(dep K.n (lv af) K.N d.hi-lv af d.v-1)):=by
 have hi:=h.ok.mid.int
 intro k
 induction k with
 |zero=>
  intro r hk hr
  cases hN:K.N r with
  |some d=>
   rw[aj hN]at hk
   have:=h.ok.lv.lt _ (h.ok.mid.var hN);omega
  |none=>
   have h2:r<2:=by
    rcases hr with hr|⟨d,e⟩
    ·exact hr
    ·rw[hN]at e;cases e
   refine⟨?_,fun d hd=>by cases hd⟩
   rw[lT h h2,aL hN]
   have:r=0∨r=1:=by omega
   rcases this with rfl|rfl
   ·rw[show S 0=fun _=>false from funext hi.zero,mr,Nat.zero_mul]
   ·rw[show S 1=fun _=>true from funext hi.one,sat_true,Nat.one_mul]
 |succ k ih=>
  intro r hk hr
  cases hN:K.N r with
  |none=>
   rw[aL hN]at*
   have h2:r<2:=by
    rcases hr with hr|⟨d,e⟩
    ·exact hr
    ·rw[hN]at e;cases e
   refine⟨?_,fun d hd=>by cases hd⟩
   rw[lT h h2]
   have:r=0∨r=1:=by omega
   rcases this with rfl|rfl
   ·rw[show S 0=fun _=>false from funext hi.zero,mr,Nat.zero_mul]
   ·rw[show S 1=fun _=>true from funext hi.one,sat_true,Nat.one_mul]
  |some d=>
   have hlo:=h.ok.wf.lo hN
   have hhi:=h.ok.wf.hi hN
   have hvl:=h.ok.lv.lt _ (h.ok.mid.var hN)
   have e1:=aj (n:=K.n) (af:=lv af) hN
   have q:=By h.ok.wf h.ok.lv hi hN (h.ok.mid.var hN) (ih d.lo (by omega) hlo.1).1 (ih d.hi (by omega) hhi.1).1
   have e2:cw K af S r=cw K af S d.lo*2^(dep K.n (lv af) K.N d.lo-lv af d.v-1)+cw K af S d.hi*2^(dep K.n (lv af) K.N d.hi-lv af d.v-1):=by
    show sat K.n (S r) /_=_
    rw[←q,Nat.mul_div_cancel _ (Nat.two_pow_pos _)]
   exact⟨by rw[e2];exact q,fun d' hd=>by cases hd;exact e2⟩
theorem mm(h:cv kp K S ord af tr C){r:Nat}(hr:live K.N r)(h1:(b1,Obj.cells #[ptr kp] 85 (0,0))∈Z):
  Rd Tryz.prog 203 #[u32 r,ptr b1] (Z++C) (· =.int .i64 ((dep K.n (lv af) K.N r:Nat):Int)):=by
 have oD:=List.mem_append_left C h1
 refine aP fun g=>wY ?_
 refine ae.eq (jG r _) ?_
 refine Br.mk (fun hb=>?_) (fun hb=>?_)
 ·have h2:r<2:=of_decide_eq_true hb
  refine Ld.mk oD rfl ?_
  refine ae.eq (oe h.rep) ?_
  refine bC.mk (.refl _) ?_
  have h0:K.N r=none:=by
   cases hN:K.N r with
   |none=>rfl
   |some d=>have:=h.ok.mid.two hN;omega
  rw[aL h0]
 ·have h2:¬r<2:=of_decide_eq_false hb
  obtain⟨d,hN⟩:∃d,K.N r=some d:=by
   rcases hr with hr|hr
   ·omega
   ·exact hr
  have oz:=h.ok.mid.var hN
  refine DR.of (.refl _) ?_
  refine Ld.mk oD rfl ?_
  refine Ld.mk oD rfl ?_
  intro F
  refine ae.eq (args:=#[ptr kp,u32 r]) (oQ h hN) ?_
  refine⟨.refl _,?_⟩
  refine A7.mk (off:=0) (cs:=(bp d).toArray) (v:=.int .i64 (d.v:Int)) rfl ?_
  intro F
  refine ae.eq (args:=#[ptr kp,.int .i64 (d.v:Int)]) (qp h.rep _) ?_
  refine⟨.refl _,?_⟩
  rw[if_pos ⟨by omega,by omega⟩]
  refine Ext.two ?_
  refine bC.mk (.refl _) ?_
  rw[aj hN];rfl
theorem qV(a k:Nat):((a%r3)<<<k)%r3=(a*2^k)%r3:=by
 rw[Nat.shiftLeft_eq,Nat.mod_mul_mod]
theorem EL(h:cv kp K S ord af tr C){r:Nat}{d:Nd}(hN:K.N r=some d)(h1:(b1,Obj.cells #[ptr kp] 85 (0,0))∈Z)(h9:(b9,Obj.cells #[.func (.func 203) #[] #[ptr b1]] 260 (0,0))∈Z):
  Rd Tryz.prog 205 #[.agg (bp d).toArray,u64 (cw K af S d.lo%r3),u64 (cw K af S d.hi%r3),ptr b1,ptr b9] (Z++C) (· =u64 (cw K af S r%r3)):=by
 have oD:=List.mem_append_left C h1
 have Qh:=List.mem_append_left C h9
 have oz:=h.ok.mid.var hN
 have hlo:=h.ok.wf.lo hN
 have hhi:=h.ok.wf.hi hN
 have hn:=h.aH.mV
 have TQ:=h.ok.wf.gi h.ok.lv d.lo
 have TR:=h.ok.wf.gi h.ok.lv d.hi
 refine aP fun g=>wW ?_
 intro c1 _
 refine Ld.mk (.tail _ oD) rfl ?_
 refine Ld.f (v:=.int .i64 (d.v:Int)) ?_
 refine ae.eq (qp h.rep _) ?_
 rw[if_pos ⟨by omega,by omega⟩]
 refine Ext.two ?_
 refine DR.of (.refl _) ?_
 refine Ld.mk (.tail _ Qh) rfl ?_
 refine Ld.f (v:=u32 d.lo) ?_
 refine Ld.mk (.tail _ Qh) rfl ?_
 refine Ld.f (v:=u32 d.hi) ?_
 intro F
 refine bg.of rfl (by kernel_rfl) ?_
 refine ae.eq (args:=#[u32 d.lo,ptr b1]) (mm (Z:=Z) h hlo.1 h1) ?_
 refine⟨.refl _,?_⟩
 rw[Int.toNat_natCast]
 show aa _ _ (.int .i64 ((dep K.n (lv af) K.N d.lo:Nat):Int)) (.int .i64 ((lv af d.v:Nat):Int)) _
 refine aa.bF ?_
 refine aa.bF (b:=1) ?_
 refine aa.ur ?_
 intro F
 refine bg.of rfl (by kernel_rfl) ?_
 refine ae.eq (args:=#[u32 d.hi,ptr b1]) (mm (Z:=Z) h hhi.1 h1) ?_
 show aa _ _ (.int .i64 ((dep K.n (lv af) K.N d.hi:Nat):Int)) (.int .i64 ((lv af d.v:Nat):Int)) _
 refine aa.bF ?_
 refine aa.bF (b:=1) ?_
 refine aa.ur ?_
 refine aa.O3 ?_
 refine bC.mk .tail ?_
 rw[qV,qV,←Nat.add_mod,(Dy h K.n r (Nat.sub_le _ _) (.inr ⟨d,hN⟩)).2 d hN]
structure MN(K:Kd)(af:List Nat)(S:Nat→av.Fn)(es:Array MapEntry)(ck:Nat)(m:List (Nat×Nat)):Prop where
 gg:aE kr (fun v (x:Nat)=>v=u64 x) es ck m
 val:∀r x,aJ m r=some x→x=cw K af S r%r3
 low:∀r,r<2→aJ m r≠none
theorem zk(h:cv kp K S ord af tr C)(h9:(c9,Obj.cells #[.map (some mb)] 349 (0,0))∈Z)(h1:(c1,Obj.cells #[ptr kp] 85 (0,0))∈Z)(h3:(c3,Obj.cells #[.func (.func 205) #[] #[ptr b1,ptr b9]] 265 (0,0))∈Z)
 (IY:(Ap,Obj.cells #[.func (.func 290) #[] #[ptr c9,ptr c1,ptr c3,ptr Ap]] 350 (0,0))∈Z)(Ms:(b1,Obj.cells #[ptr kp] 85 (0,0))∈Z)(RU:(b9,Obj.cells #[.func (.func 203) #[] #[ptr b1]] 260 (0,0))∈Z):
  ∀(k r:Nat) (es:Array MapEntry) (ck:Nat) (m:List (Nat×Nat)),K.n-dep K.n (lv af) K.N r≤k→live K.N r→MN K af S es ck m→
  Fc Tryz.prog 290 #[u32 r,ptr c9,ptr c1,ptr c3,ptr Ap] ((mb,.map es ck)::(Z++C)) (fun v H=>v=u64 (cw K af S r%r3)∧∃es' cg m',H=(mb,.map es' cg)::(Z++C)∧MN K af S es' cg m'):=by
 have hit:∀{r:Nat} {es:Array MapEntry} {ck:Nat} {m:List (Nat×Nat)} {x:Nat},MN K af S es ck m→aJ m r=some x→
   Fc Tryz.prog 290 #[u32 r,ptr c9,ptr c1,ptr c3,ptr Ap] ((mb,.map es ck)::(Z++C)) (fun v H=>v=u64 (cw K af S r%r3)∧∃es' cg m',H=(mb,.map es' cg)::(Z++C)∧MN K af S es' cg m'):=by
  intro r es ck m x hm hv
  refine aP fun g=>o9 ?_
  refine Ld.mk (v:=.map (some mb)) (.tail _ (List.mem_append_left _ h9)) rfl ?_
  refine hm.gg.hit (k:=r) gV (b:=mb) (by exact .head _) hv fun v' e=>?_
  subst e
  refine Ext.two ?_
  refine Br.yes ?_
  exact aZ.mk (.refl _) ⟨by rw[hm.val r x hv],es,ck,m,rfl,hm⟩
 intro k
 induction k with
 |zero=>
  intro r es ck m hk hr hm
  have rD:r<2:=by
   cases hN:K.N r with
   |some d=>
    rw[aj hN]at hk
    have:=h.ok.lv.lt _ (h.ok.mid.var hN);omega
   |none=>
    rcases hr with hr|⟨d,e⟩
    ·exact hr
    ·rw[hN]at e;cases e
  cases hv:aJ m r with
  |none=>exact absurd hv (hm.low r rD)
  |some v=>exact hit hm hv
 |succ k ih=>
  intro r es ck m hk hr hm
  cases hv:aJ m r with
  |some v=>exact hit hm hv
  |none=>
  have rD:¬r<2:=fun h2=>hm.low r h2 hv
  obtain⟨d,hN⟩:∃d,K.N r=some d:=by
   rcases hr with hr|hr
   ·omega
   ·exact hr
  have hlo:=h.ok.wf.lo hN
  have hhi:=h.ok.wf.hi hN
  rw[aj hN]at hk
  have hvl:=h.ok.lv.lt _ (h.ok.mid.var hN)
  refine aP fun g=>o9 ?_
  refine Ld.mk (v:=.map (some mb)) (.tail _ (List.mem_append_left _ h9)) rfl ?_
  refine hm.gg.sN (k:=r) gV (b:=mb) (by exact .head _) hv ?_
  refine Ext.two ?_
  refine Br.no ?_
  refine Ld.mk (v:=ptr kp) (.tail _ (List.mem_append_left _ h1)) rfl ?_
  refine ae.eq (args:=#[ptr kp,u32 r]) (oQ h hN) ?_
  intro b8 _
  refine St.p (gv d) ?_
  refine DR.of (R:=(b8,Obj.cells (bp d).toArray 226 (0,0))::Z) (.cons (.skip .left)) ?_
  refine Ld.mk (v:=.func (.func 205) #[] #[ptr b1,ptr b9]) (.tail _ h3) rfl ?_
  refine ay.q ?_
  refine Ld.mk (v:=.func (.func 290) #[] #[ptr c9,ptr c1,ptr c3,ptr Ap]) (.tail _ IY) rfl ?_
  refine Ld.f (v:=u32 d.lo) ?_
  refine Ld.mk (v:=.func (.func 290) #[] #[ptr c9,ptr c1,ptr c3,ptr Ap]) (.tail _ IY) rfl ?_
  refine Ld.f (v:=u32 d.hi) ?_
  intro F
  refine bg.of rfl (by kernel_rfl) ?_
  refine ae.fq (args:=#[u32 d.lo,ptr c9,ptr c1,ptr c3,ptr Ap]) (ih d.lo es ck m (by omega) hlo.1 hm) ?_
  rintro v1 H ⟨rfl,yJ,tw,m1,rfl,tY⟩
  refine⟨.cons (.skip .left),?_⟩
  intro F
  refine bg.of rfl (by kernel_rfl) ?_
  refine ae.fq (args:=#[u32 d.hi,ptr c9,ptr c1,ptr c3,ptr Ap]) (ih d.hi yJ tw m1 (by omega) hhi.1 tY) ?_
  rintro v2 H ⟨rfl,ud,yP,m2,rfl,nu⟩
  refine⟨.cons (.skip .left),?_⟩
  intro F
  refine bg.of rfl (by kernel_rfl) ?_
  refine ae.eq (args:=#[.agg (bp d).toArray,u64 (cw K af S d.lo%r3),u64 (cw K af S d.hi%r3),ptr b1,ptr b9]) (EL (Z:=Z) h hN Ms RU) ?_
  refine Ld.mk (v:=.map (some mb)) (.tail _ (.tail _ (List.mem_append_left _ h9))) rfl ?_
  refine nu.gg.bc (k:=r) (b:=mb) (x:=cw K af S r%r3) gV nE rfl fun MH MJ he=>⟨_,.tail (.head _),?_⟩
  refine aZ.mk .tail ⟨rfl,MH,MJ,_,rfl,he,fun r' x' rY=>?_,fun r' hr'=>?_⟩
  ·rw[cH]at rY
   split at rY
   ·rename_i e
    subst e
    cases rY;rfl
   ·exact nu.val r' x' rY
  ·rw[cH]
   split
   ·simp
   ·exact nu.low r' hr'
theorem Dz(h:cv kp K S ord af tr C){r:Nat}(hr:live K.N r):
  Rd Tryz.prog 146 #[ptr kp,u32 r] C (· =.tuple #[u64 (sat K.n (S r)%r3),.int .i64 0]):=by
 have hi:=h.ok.mid.int
 refine aP fun g=>xB ?_
 intro b1 _
 refine Ld.q ?_
 refine ak.int (e:=110) (by kernel_rfl) (by kernel_rfl) (by kernel_rfl) fun bx=>?_
 refine ae.eh .here (tu (X:=[(bx,_),(b1,_)]) h (by exact .head _) hr) ?_
 refine aa.eP (Br.F ?_)
 intro b9 _
 refine St.one (c':=#[.func (.func 203) #[] #[ptr b1]]) (by exact .head _) rfl (by simp) rfl ?_
 refine Ld.q ?_
 refine ae.fq (args:=#[ptr kp,u32 r,u64 0,u64 1,.func (.func 205) #[] #[ptr b1,ptr b9]]) (C:=(b9,Obj.cells #[.func (.func 203) #[] #[ptr b1]] 260 (0,0))::(bx,_)::(b1,Obj.cells #[ptr kp] 85 (0,0))::C) (Q:=fun v H=>v=u64 (cw K af S r%r3)∧H=(b9,Obj.cells #[.func (.func 203) #[] #[ptr b1]] 260 (0,0))::(bx,Obj.cells (au .u32 [(r:Int)]) 110 (0,0))::(b1,Obj.cells #[ptr kp] 85 (0,0))::C) (aP fun g=>wX ?_) ?_
 ·intro c1 _ c3 _ mb _
  refine aE.bc (ke:=kr) (vr:=fun v (x:Nat)=>v=u64 x) (k:=0) (b:=mb) (x:=0) gV nE aE.empty rfl fun yJ tw II=>⟨_,.head _,?_⟩
  refine aE.bc (ke:=kr) (vr:=fun v (x:Nat)=>v=u64 x) (k:=1) (b:=mb) (x:=1) gV nE II rfl fun ud yP Jy=>⟨_,.head _,?_⟩
  intro c9 _
  refine St.one (c':=#[.map (some mb)]) (by exact .head _) rfl (by simp) rfl ?_
  intro Ap _
  refine St.one (c':=#[.func (.func 290) #[] #[ptr c9,ptr c1,ptr c3,ptr Ap]]) (by exact .head _) rfl (by simp) rfl ?_
  refine Ld.q ?_
  refine bg.of rfl (by kernel_rfl) ?_
  obtain⟨Z,hZ⟩:∃Z:Hp,Z=[(Ap,Obj.cells #[.func (.func 290) #[] #[ptr c9,ptr c1,ptr c3,ptr Ap]] 350 (0,0)),(c9,.cells #[.map (some mb)] 349 (0,0)),(c3,.cells #[.func (.func 205) #[] #[ptr b1,ptr b9]] 265 (0,0)),(c1,.cells #[ptr kp] 85 (0,0)),
   (b9,Obj.cells #[.func (.func 203) #[] #[ptr b1]] 260 (0,0)),(bx,Obj.cells (au .u32 [(r:Int)]) 110 (0,0)),(b1,Obj.cells #[ptr kp] 85 (0,0))]:=⟨_,rfl⟩
  refine ae.pre (H':=(mb,Obj.map ud yP)::(Z++C)) (.perm ?_) ?_
  ·rw[hZ]
   exact(List.Perm.cons _ (List.Perm.swap _ _ _)).trans (List.Perm.swap _ _ _)
  refine ae.fq (args:=#[u32 r,ptr c9,ptr c1,ptr c3,ptr Ap]) (zk (Z:=Z) (b1:=b1) (b9:=b9) h (by rw[hZ];exact .tail _ (.head _)) (by rw[hZ];exact .tail _ (.tail _ (.tail _ (.head _)))) (by rw[hZ];exact .tail _ (.tail _ (.head _))) (by rw[hZ];exact .head _) (by rw[hZ];exact .tail _ (.tail _ (.tail _ (.tail _ (.tail _ (.tail _ (.head _))))))) (by rw[hZ];exact .tail _ (.tail _ (.tail _ (.tail _ (.head _))))) K.n r ud yP _ (Nat.sub_le _ _) hr ⟨Jy,fun r' x hm=>?_,fun r' hr'=>?_⟩) ?_
  ·rw[cH,cH]at hm
   split at hm
   ·rename_i e;subst e;cases hm;rw[lT h (by decide)];rfl
   split at hm
   ·rename_i e;subst e;cases hm;rw[lT h (by decide)];rfl
   ·simp[aJ]at hm
  ·rw[cH,cH]
   have:r'=0∨r'=1:=by omega
   rcases this with rfl|rfl<;>simp
  rintro v H ⟨rfl,MH,MJ,m3,rfl,_⟩
  refine aZ.mk ?_ ⟨rfl,rfl⟩
  rw[hZ]
  exact .skip (.skip (.skip (.skip (.skip (.refl _)))))
 rintro v H ⟨rfl,rfl⟩
 refine Ld.q ?_
 refine bg.of rfl (by kernel_rfl) ?_
 refine ae.eh (args:=#[u32 r,ptr b1]) .here (mm (Z:=[(b9,_),(bx,_),(b1,_)]) h hr (by exact .tail _ (.tail _ (.head _)))) ?_
 refine aa.ur ?_
 refine bC.mk (.skip (.skip .tail)) ?_
 rw[qV,(Dy h K.n r (Nat.sub_le _ _) hr).1]
end
end Go.Proofs
namespace Go.Sx
open Go
section
variable {P:Program} {g:Gh} {H:Hp}
def oS:Nat→List (List Value)→List (Nat×Value)
 |_,[]=>[]
 |i,r::rs=>(i,.agg r.toArray)::oS (i+1) rs
theorem oI{k:Nat}:∀(rs:List (List Value)) (i:Nat) (pre ax:List Value),(∀r∈rs,r.length=k)→pre.length=i*k→ax.length=rs.length*k→jZ (fun i=>some (i*k,k)) (pre++ax) (oS i rs)=some (pre++rs.flatten)
 | [],i,pre,ax,_,_,hj=>by
  have:ax=[]:=List.length_eq_zero_iff.1 (by simpa using hj)
  subst this;simp[oS,jZ]
 |r::rs,i,pre,ax,hr,hp,hj=>by
  have NC:=hr r (List.mem_cons_self ..)
  have IB:ax.length=k+rs.length*k:=by rw[hj,List.length_cons,Nat.succ_mul,Nat.add_comm]
  simp only[oS,jZ,Value.cells]
  have hb:(Nat.beq r.toArray.toList.length k&&Nat.ble (i*k+r.toArray.toList.length) (pre++ax).length)=true:=by
   have e1:r.toArray.toList.length=k:=NC
   rw[e1,List.length_append]
   simp;omega
  rw[hb,cond_true]
  have h1:=ju r (pre++ax) (i*k) (by rw[List.length_append];omega)
  rw[gP]at h1
  have h2:nY (pre++ax) (i*k) r=pre++r++ax.drop k:=by
   have:=congrArg Array.toList h1
   simp only at this
   rw[this,←hp]
   simp[List.take_append,NC,List.drop_append]
  show jZ _ (nY (pre++ax) (i*k) r) _=_
  rw[h2,oI rs (i+1) (pre++r) (ax.drop k) (fun x hx=>hr x (List.mem_cons_of_mem _ hx)) (by rw[List.length_append,hp,NC,Nat.succ_mul]) (by rw[List.length_drop];omega)]
  simp
theorem ak.many{t e k:Nat}{z:Value}(rs:List (List Value)){len:Nat}{parts:List (Nat×Value)}{K:Value→Hp→Prop}(h1:P.underlying t=some (.slice e))(h2:cC P e=some k)(h3:ed P e=some z)(hk:rs.length*k≤16777216)(hr:∀r∈rs,r.length=k)
 (hl:rs.length=len)(hp:oS 0 rs=parts)(h:∀b,K (.slice (some ⟨b,0,Option.none⟩) len len) ((b,.cells (rows rs) e (0,0))::H)):ak P t len parts H K:=by
 subst hl hp
 refine⟨rows rs,e,k,z,h1,h2,h3,by omega,?_,fun b _=>h b⟩
 have:((Array.range (rs.length*k)).map (z.cells[· %z.cells.size]!))=(((Array.range (rs.length*k)).map (z.cells[· %z.cells.size]!)).toList).toArray:=by rw[Array.toArray_toList]
 rw[this]
 generalize hc:((Array.range (rs.length*k)).map (z.cells[· %z.cells.size]!)).toList=c
 have hlen:c.length=rs.length*k:=by rw[←hc];simp
 refine g8 _ _ _ ?_
 have:=oI rs 0 [] c hr (by simp) hlen
 simpa using this
def kI(kd:IntKind)(a:Int):Value:=.int kd a
theorem cu(kd:IntKind)(a b:Int):Instr.sameNow (.int kd) (kI kd a) (kI kd b)=some (decide (a=b)):=by
 simp only[Instr.sameNow,kI,if_true,Option.some.injEq]
 rw[Bool.eq_iff_iff];simp
theorem rB(kd:IntKind)(a:Int):Instr.sameBits 10000 (kI kd a) (kI kd a)=true:=by simp[Instr.sameBits,kI]
theorem aE.look{κ β:Type}[DecidableEq κ]{ke:κ→Value}{vr:Value→β→Prop}{es:Array MapEntry}{ck b:Nat}{m:List (κ×β)}{kd:TypeDesc}{zero:Value}{ok:Bool}{k:κ}{K:Value→Prop}(hk:∀a b,Instr.sameNow kd (ke a) (ke b)=some (decide (a=b)))(h:aE ke vr es ck m)(hm:(b,Obj.map es ck)∈H)
 (h1:∀x v,aJ m k=some x→vr v x→K (cond ok (.tuple #[v,.bool true]) v))(h2:aJ m k=none→K (cond ok (.tuple #[zero,.bool false]) zero)):dW kd zero ok H (.map (some b)) (ke k) K:=by
 cases hx:aJ m k with
 |none=>exact h.sN hk hm hx (h2 hx)
 |some x=>exact h.hit hk hm hx fun v hv=>h1 x v hx hv
end
end Go.Sx
set_option maxRecDepth 100000
namespace Go.Proofs
open Go Go.Sx
open av
section
variable {B:Hp}
abbrev i64(a:Int):Value:=.int .i64 a
abbrev c6(e h:Int)(n:Nat)(t:Int):Value:=.agg #[i64 e,i64 h,u64 n,i64 t]
theorem aV(e h:Int)(n:Nat)(t:Int):∀u∈[i64 e,i64 h,u64 n,i64 t],u.oneCell'=true:=fun u hu=>by
 simp only[List.mem_cons,List.not_mem_nil,or_false]at hu
 rcases hu with rfl|rfl|rfl|rfl<;>rfl
theorem bJ(e:Int)(B:Hp):Rd Tryz.prog 41 #[i64 e] B (· =c6 e (-1) 0 0):=by
 refine aP fun g=>AU ?_
 intro b1 _
 refine Build.mk (cs:=[i64 e,i64 (-1),u64 0,i64 0]) (by kernel_rfl) ?_
 refine St.p (aV _ _ _ _) ?_
 refine ay.q ?_
 exact bC.mk .tail rfl
theorem cB(n:Nat)(e:Int)(B:Hp):Rd Tryz.prog 143 #[u64 n,i64 e] B (· =if e=0 then c6 0 (-1) n 0 else c6 e (-1) 0 0):=by
 refine aP fun g=>xE ?_
 intro b1 _
 refine aa.neq ?_
 by_cases he:e=0
 ·subst he
  refine Br.L4 rfl ?_
  refine Build.mk (cs:=[i64 0,i64 (-1),u64 n,i64 0]) (by kernel_rfl) ?_
  refine St.p (aV _ _ _ _) ?_
  refine ay.q ?_
  exact bC.mk .tail rfl
 ·refine Br.En (by simpa using he) ?_
  refine ae.eq (bJ e _) ?_
  refine St.p (r:=[i64 e,i64 (-1),u64 0,i64 0]) (aV _ _ _ _) ?_
  refine ay.q ?_
  exact bC.mk .tail (by rw[if_neg he])
theorem x8(b:Bool)(B:Hp):Rd Tryz.prog 145 #[.bool b] B (· =u64 b.toNat):=by
 refine aP fun g=>xC ?_
 cases b
 ·exact Br.no (bC.mk (.refl _) rfl)
 ·exact Br.yes (bC.mk (.refl _) rfl)
structure cA where
 op:Nat
 a:Int
 b:Int
 c:Int
 x:Nat
def cA.cells(s:cA):List Value:=[.int .u8 (s.op:Int),i64 s.a,i64 s.b,i64 s.c,u64 s.x]
abbrev cA.v(s:cA):Value:=.agg s.cells.toArray
theorem cA.one(s:cA):∀u∈s.cells,u.oneCell'=true:=fun u hu=>by
 simp only[cA.cells,List.mem_cons,List.not_mem_nil,or_false]at hu
 rcases hu with rfl|rfl|rfl|rfl|rfl<;>rfl
structure Cf where
 n:Nat
 cap:Nat
 str:Nat
 gr:Nat
 rs:Nat
def Cf.cells(c:Cf):List Value:=[i64 c.n,i64 c.cap,.int .u8 (c.str:Int),i64 c.gr,i64 c.rs]
abbrev pZ(sp:Nat)(c:Cf)(kp mb nx:Nat):Nat×Obj:=(sp,.cells (c.cells++[ptr kp,.map (some mb),i64 (nx:Int)]).toArray 90 (0,0))
structure fB(kp nx:Nat)(c:Cf)(K:Kd)(S:Nat→av.Fn)(ord af tr:List Nat)(hs:List (Int×Nat))(es:Array MapEntry)(ck:Nat)(C:Hp):Prop where
 ks:cv kp K S ord af tr C
 n:K.n=c.n
 cap:K.cap=c.cap
 gg:aE (kI .i64) (fun v (r:Nat)=>v=u32 r) es ck hs
 live:∀p∈hs,live K.N p.2
 hold:∀r,K.hold r=if 2≤r then(hs.map Prod.snd).count r else 0
 lt:∀p∈hs,0≤p.1∧p.1<nx
abbrev gS(sp:Nat)(c:Cf)(kp mb nx:Nat)(es:Array MapEntry)(ck:Nat)(C:Hp):Hp:=pZ sp c kp mb nx::(mb,.map es ck)::C
end
section
variable {sp kp mb nx:Nat} {c:Cf} {K:Kd} {S:Nat→av.Fn} {ord af tr:List Nat} {hs:List (Int×Nat)} {es:Array MapEntry} {ck:Nat} {C:Hp}
theorem cW(h:fB kp nx c K S ord af tr hs es ck C)(a:Int):Rd Tryz.prog 133 #[ptr sp,i64 a] (gS sp c kp mb nx es ck C) (· =.bool (aJ hs a).isSome):=by
 refine aP fun g=>xH ?_
 refine Ld.n (v:=.map (some mb)) ?_
 refine h.gg.look (k:=a) (cu _) (by exact .tail _ (.head _)) (fun x v hx hv=>?_) (fun hx=>?_)
 ·exact Ext.two (bC.mk (.refl _) (by rw[hx];rfl))
 ·exact Ext.two (bC.mk (.refl _) (by rw[hx];rfl))
theorem r5(a:Int):Rd Tryz.prog 132 #[ptr sp,i64 a] (gS sp c kp mb nx es ck C) (· =.bool (decide (0≤a∧a<c.n))):=by
 refine aP fun g=>xI ?_
 refine aa.geq ?_
 refine c7.and (a:=decide (0≤a)) (decide (a<c.n)) (fun _=>?_) rfl fun _=>?_
 ·refine Nil.ptr (ag.mk (Ld.f (v:=i64 c.n) ?_))
  exact aa.lss ⟨rfl,rfl⟩
 ·exact bC.mk (.refl _) (by rw[←Bool.decide_and])
theorem ym(a:Int)(B:Hp):Rd Tryz.prog 131 #[i64 a] B (· =.bool (decide (a=0∨a=1))):=by
 refine aP fun g=>xJ ?_
 refine aa.eql ?_
 refine c7.or (a:=a==0) (a==1) (fun _=>aa.eql ⟨rfl,rfl⟩) rfl fun _=>?_
 refine bC.mk (.refl _) ?_
 rw[Bool.decide_or];rfl
def u6(w:Nat)(x:cA):Bool:=decide (w&&&32≠0) && !decide (x.a=0∨x.a=1)
def Ar(w:Nat)(x:cA):Bool:=decide (w&&&64≠0) && !decide (x.c=0∨x.c=1)
def ux(n w:Nat)(x:cA):Bool:=decide (w&&&8≠0) && !decide (0≤x.a∧x.a<n)
def uw(n w:Nat)(x:cA):Bool:=decide (w&&&16≠0) && !decide (0≤x.b∧x.b<n)
def E3(n w:Nat)(x:cA):Bool:=decide (w&&&128≠0) &&decide (x.x>>>n≠0)
def oM(hs:List (Int×Nat))(w:Nat)(x:cA):Bool:=decide (w&&&1≠0) && !(aJ hs x.a).isSome
def oL(hs:List (Int×Nat))(w:Nat)(x:cA):Bool:=decide (w&&&2≠0) && !(aJ hs x.b).isSome
def qy(hs:List (Int×Nat))(w:Nat)(x:cA):Bool:=decide (w&&&4≠0) && !(aJ hs x.c).isSome
def fZ(n:Nat)(hs:List (Int×Nat))(w:Nat)(x:cA):Int:=
 if(u6 w x||Ar w x)=true then 1 else if(ux n w x||uw n w x||E3 n w x)=true then 2 else if(oM hs w x||oL hs w x||qy hs w x)=true then 3 else 0
theorem aa.has{w m:Nat}{k:Value→Prop}(hw:w<256)(hm:m<256)(h:k (.bool (decide (w&&&m≠0)))):aa .num .and (.int .u8 (w:Int)) (.int .u8 (m:Int)) fun v=>aa .num .neq v (.int .u8 0) k:=by
 refine aa.Gq (by simpa[dc]using hw) (by simpa[dc]using hm) (aa.neq ?_)
 have:(((w&&&m:Nat):Int) !=0)=decide (w&&&m≠0):=by
  rw[Bool.eq_iff_iff];simp
 rw[this];exact h
theorem look_ok(h:fB kp nx c K S ord af tr hs es ck C){x:cA}{w:Nat}(hw:w<256)(hx:x.x<18446744073709551616):Rd Tryz.prog 83 #[ptr sp,x.v,.int .u8 (w:Int)] (gS sp c kp mb nx es ck C) (· =i64 (fZ c.n hs w x)):=by
 refine aP fun g=>AJ ?_
 intro b1 _ J3 h3
 have Dw:∀b:Bool,(u6 w x||Ar w x)=b→J3 [.bool b] ((b1,.cells (Value.cells x.v) 35 (0,0))::gS sp c kp mb nx es ck C):=fun b hb=>by
  refine h3 _ _ fun _=>?_
  cases b
  rotate_left
  ·exact Br.yes (bC.mk .tail (by unfold fZ;rw[if_pos hb]))
  refine Br.no ?_
  intro J7 h7
  have Dv:∀b:Bool,(ux c.n w x||uw c.n w x||E3 c.n w x)=b→J7 [.bool b] ((b1,.cells (Value.cells x.v) 35 (0,0))::gS sp c kp mb nx es ck C):=fun b' hb'=>by
   refine h7 _ _ fun _=>?_
   cases b'
   rotate_left
   ·exact Br.yes (bC.mk .tail (by unfold fZ;rw[hb,if_neg (by decide),if_pos hb']))
   refine Br.no ?_
   intro Te OP
   have yL:∀b:Bool,(oM hs w x||oL hs w x||qy hs w x)=b→Te [.bool b] ((b1,.cells (Value.cells x.v) 35 (0,0))::gS sp c kp mb nx es ck C):=fun b2 pH=>by
    refine OP _ _ fun _=>?_
    cases b2
    ·exact Br.no (bC.mk .tail (by unfold fZ;rw[hb,hb',pH];rfl))
    ·exact Br.yes (bC.mk .tail (by unfold fZ;rw[hb,hb',if_neg (by decide),if_neg (by decide),if_pos pH]))
   intro Ta Sp
   have PA:∀b:Bool,oM hs w x=b→Ta [.bool b] ((b1,.cells (Value.cells x.v) 35 (0,0))::gS sp c kp mb nx es ck C):=fun b2 pH=>by
    refine Sp _ _ fun _=>?_
    cases b2
    rotate_left
    ·exact Br.yes (JE.mk (yL true (by rw[pH];rfl)))
    refine Br.no ?_
    intro MR So
    have Py:∀b:Bool,oL hs w x=b→MR [.bool b] ((b1,.cells (Value.cells x.v) 35 (0,0))::gS sp c kp mb nx es ck C):=fun b3 JB=>by
     refine So _ _ fun _=>?_
     cases b3
     rotate_left
     ·exact Br.yes (JE.mk (yL true (by rw[JB,Bool.or_true];rfl)))
     refine Br.no ?_
     refine aa.has (m:=4) hw (by decide) ?_
     refine Split.mk (fun e=>?_) (fun e=>?_)
     ·refine Ld.f (v:=i64 x.c) ?_
      refine ae.eq (cW h x.c) ?_
      refine Un.not (aq.mk (JE.mk (yL _ ?_)))
      rw[pH,JB];unfold qy;rw[e];rfl
     ·refine aq.mk (JE.mk (yL false ?_))
      rw[pH,JB];unfold qy;rw[e];rfl
    refine aa.has (m:=2) hw (by decide) ?_
    refine Split.mk (fun e=>?_) (fun e=>?_)
    ·refine Ld.f (v:=i64 x.b) ?_
     refine ae.eq (cW h x.b) ?_
     refine Un.not (aq.mk (JE.mk (Py _ ?_)))
     unfold oL;rw[e];rfl
    ·refine aq.mk (JE.mk (Py false ?_))
     unfold oL;rw[e];rfl
   refine aa.has (m:=1) hw (by decide) ?_
   refine Split.mk (fun e=>?_) (fun e=>?_)
   ·refine Ld.f (v:=i64 x.a) ?_
    refine ae.eq (cW h x.a) ?_
    refine Un.not (aq.mk (JE.mk (PA _ ?_)))
    unfold oM;rw[e];rfl
   ·refine aq.mk (JE.mk (PA false ?_))
    unfold oM;rw[e];rfl
  intro SV Qj
  have Pt:∀b:Bool,ux c.n w x=b→SV [.bool b] ((b1,.cells (Value.cells x.v) 35 (0,0))::gS sp c kp mb nx es ck C):=fun b2 pH=>by
   refine Qj _ _ fun _=>?_
   cases b2
   rotate_left
   ·exact Br.yes (JE.mk (Dv true (by rw[pH];rfl)))
   refine Br.no ?_
   intro SU Sk
   have Ps:∀b:Bool,uw c.n w x=b→SU [.bool b] ((b1,.cells (Value.cells x.v) 35 (0,0))::gS sp c kp mb nx es ck C):=fun b3 JB=>by
    refine Sk _ _ fun _=>?_
    cases b3
    rotate_left
    ·exact Br.yes (JE.mk (Dv true (by rw[JB,Bool.or_true];rfl)))
    refine Br.no ?_
    refine aa.has (m:=128) hw (by decide) ?_
    refine c7.and (decide (x.x>>>c.n≠0)) (fun _=>?_) rfl fun gs=>?_
    ·refine Ld.f (v:=u64 x.x) ?_
     refine Nil.ptr (ag.mk (Ld.f (v:=i64 c.n) ?_))
     refine aa.uo (by simpa[dc]using hx) (aa.neq ⟨rfl,?_⟩)
     congr 1
     generalize x.x>>>c.n=y
     rw[Bool.eq_iff_iff];simp
    ·refine JE.mk (Dv _ ?_)
     rw[pH,JB];rfl
   refine aa.has (m:=16) hw (by decide) ?_
   refine Split.mk (fun e=>?_) (fun e=>?_)
   ·refine Ld.f (v:=i64 x.b) ?_
    refine ae.eq (r5 x.b) ?_
    refine Un.not (aq.mk (JE.mk (Ps _ ?_)))
    unfold uw;rw[e];rfl
   ·refine aq.mk (JE.mk (Ps false ?_))
    unfold uw;rw[e];rfl
  refine aa.has (m:=8) hw (by decide) ?_
  refine Split.mk (fun e=>?_) (fun e=>?_)
  ·refine Ld.f (v:=i64 x.a) ?_
   refine ae.eq (r5 x.a) ?_
   refine Un.not (aq.mk (JE.mk (Pt _ ?_)))
   unfold ux;rw[e];rfl
  ·refine aq.mk (JE.mk (Pt false ?_))
   unfold ux;rw[e];rfl
 intro SR Sh
 have Pr:∀b:Bool,u6 w x=b→SR [.bool b] ((b1,.cells (Value.cells x.v) 35 (0,0))::gS sp c kp mb nx es ck C):=fun b hb=>by
  refine Sh _ _ fun _=>?_
  cases b
  rotate_left
  ·exact Br.yes (JE.mk (Dw true (by rw[hb];rfl)))
  refine Br.no ?_
  refine aa.has (m:=64) hw (by decide) ?_
  refine Split.mk (fun e=>?_) (fun e=>?_)
  ·refine Ld.f (v:=i64 x.c) ?_
   refine bg.of rfl (by kernel_rfl) ?_
   refine ae.eq (args:=#[i64 x.c]) (ym x.c _) ?_
   refine Un.not (aq.mk (JE.mk (Dw _ ?_)))
   rw[hb];unfold Ar;rw[e];rfl
  ·refine aq.mk (JE.mk (Dw false ?_))
   rw[hb];unfold Ar;rw[e];rfl
 refine aa.has (m:=32) hw (by decide) ?_
 refine Split.mk (fun e=>?_) (fun e=>?_)
 ·refine Ld.f (v:=i64 x.a) ?_
  refine bg.of rfl (by kernel_rfl) ?_
  refine ae.eq (args:=#[i64 x.a]) (ym x.a _) ?_
  refine Un.not (aq.mk (JE.mk (Pr _ ?_)))
  unfold u6;rw[e];rfl
 ·refine aq.mk (JE.mk (Pr false ?_))
  unfold u6;rw[e];rfl
end
end Go.Proofs
set_option maxRecDepth 100000
namespace Go.Proofs
open Go Go.Sx
open av
section
theorem sX{n:Int}(hn:n<0∨64<n)(B:Hp):Rd Tryz.prog 68 #[.int .i64 n] B (· =.tuple #[.slice none 0 0,.int .i64 1]):=by
 refine aP fun g=>qL ?_
 refine aa.lss ?_
 refine c7.or (a:=decide (n<0)) (decide (64<n)) (fun _=>aa.gtr ⟨rfl,rfl⟩) rfl fun _=>?_
 rw[←Bool.decide_or,decide_eq_true hn]
 exact Br.yes (bC.mk (.refl _) rfl)
theorem HV{n cap:Int}(hb:n<1∨64<n∨cap<2∨1048576<cap):Rd Tryz.prog 40 #[i64 n,i64 cap] [] (· =.tuple #[.pointer none,i64 1]):=by
 refine aP fun g=>qN ?_
 by_cases hn:n<0∨64<n
 ·refine ae.eq (sX hn _) ?_
  refine Ext.two ?_
  refine aa.eP ?_
  refine c7.or true (fun h=>absurd h (by decide)) rfl fun gs=>?_
  refine c7.or true (fun h=>absurd h (by decide)) rfl fun gs=>?_
  refine c7.or true (fun h=>absurd h (by decide)) rfl fun gs=>Br.yes ?_
  exact bC.mk (.refl _) rfl
 ·obtain⟨m,rfl⟩:∃m:Nat,n=m:=⟨n.toNat,by omega⟩
  refine ae.fq (m0 (n:=m) (by omega)) ?_
  rintro v CO ⟨s,rfl,hO⟩
  refine Ext.two ?_
  refine aa.eP ?_
  refine c7.or (decide ((m:Int)<1)) (fun _=>aa.lss ⟨rfl,rfl⟩) rfl fun gs=>?_
  refine c7.or (decide (cap<2)) (fun _=>aa.lss ⟨rfl,rfl⟩) rfl fun gs=>?_
  refine c7.or (decide (1048576<cap)) (fun _=>aa.gtr ⟨rfl,rfl⟩) rfl fun gs=>?_
  refine Br.En (by simp only[Bool.or_eq_true,decide_eq_true_eq];omega) ?_
  exact bC.mk (fun _ _ h=>h.bu) rfl
structure nh where
 n:Int
 cap:Int
 str:Nat
 gr:Int
 rs:Int
def nh.cells(c:nh):List Value:=[i64 c.n,i64 c.cap,.int .u8 (c.str:Int),i64 c.gr,i64 c.rs]
theorem nh.one(c:nh):∀u∈c.cells,u.oneCell'=true:=fun u hu=>by
 simp only[nh.cells,List.mem_cons,List.not_mem_nil,or_false]at hu
 rcases hu with rfl|rfl|rfl|rfl|rfl<;>rfl
def dU(c:nh):Bool:=decide (6<c.str)||decide (c.gr<100)||decide (1000<c.gr)||decide (c.rs<0)||decide (16<c.rs)
def eO(c:nh):Bool:=decide (c.n<1∨64<c.n∨c.cap<2∨1048576<c.cap)
def dY(c:nh):Int:=if dU c=true then 1 else if eO c=true then 1 else if c.str=6∧12<c.n then 6 else 0
structure Cf.Ok(c:Cf):Prop where
 n:1≤c.n∧c.n≤64
 cap:2≤c.cap∧c.cap≤1048576
 str:c.str≤6
 gr:100≤c.gr∧c.gr≤1000
 rs:c.rs≤16
 ex:c.str=6→c.n≤12
def Cf.i(c:Cf):nh:=⟨c.n,c.cap,c.str,c.gr,c.rs⟩
theorem E6{c:nh}(h:dY c=0):∃d:Cf,c=d.i∧d.Ok:=by
 unfold dY at h
 split at h
 ·cases h
 rename_i h1
 split at h
 ·cases h
 rename_i h2
 split at h
 ·cases h
 rename_i h3
 simp only[dU,eO,Bool.or_eq_true,decide_eq_true_eq]at h1 h2
 obtain⟨n,cap,str,gr,rs⟩:=c
 simp only at h1 h2 h3
 exact⟨⟨n.toNat,cap.toNat,str,gr.toNat,rs.toNat⟩,by simp only[Cf.i,nh.mk.injEq];exact⟨by omega,by omega,trivial,by omega,by omega⟩,⟨by simp only;omega,by simp only;omega,by simp only;omega,by simp only;omega,by simp only;omega,fun e=>by simp only at e⊢;omega⟩⟩
theorem sn(c:nh){Q:Value→Hp→Prop}(hno:dY c≠0→Q (.tuple #[.pointer none,i64 (dY c)]) [])
 (hok:∀d:Cf,c=d.i→d.Ok→∀(sp kp mb:Nat) (C:Hp),cv kp (K0 d.n d.cap) S0 (List.range d.n) (List.range d.n) [] C→Q (.tuple #[ptr sp,i64 0]) (gS sp d kp mb 0 #[] 0 C)):
  Fc Tryz.prog 14 #[.agg c.cells.toArray] [] Q:=by
 refine aP fun g=>AZ ?_
 intro b1 _ J3 h3
 have jt:dU c=true→J3 [.bool true] [(b1,.cells (Value.cells (.agg c.cells.toArray)) 23 (0,0))]:=fun hb=>by
  refine h3 _ _ fun _=>Br.yes ?_
  have e:dY c=1:=by unfold dY;rw[if_pos hb]
  rw[e]at hno
  exact aZ.mk .tail (hno (by decide))
 have jf:dU c=false→J3 [.bool false] [(b1,.cells (Value.cells (.agg c.cells.toArray)) 23 (0,0))]:=fun hb=>by
  refine h3 _ _ fun _=>Br.no ?_
  refine Ld.f (v:=i64 c.n) ?_
  refine Ld.f (v:=i64 c.cap) ?_
  cases pH:eO c
  rotate_left
  ·refine ae.eh hnew (HV (by simpa[eO]using pH)) ?_
   refine Ext.two ?_
   refine aa.eP (Br.T ?_)
   have e:dY c=1:=by unfold dY;rw[hb,if_neg (by decide),if_pos pH]
   rw[e]at hno
   exact aZ.mk .tail (hno (by decide))
  ·simp only[eO,decide_eq_false_iff_not]at pH
   simp only[dU,Bool.or_eq_false_iff,decide_eq_false_iff_not]at hb
   obtain⟨m,hm⟩:∃m:Nat,c.n=m:=⟨c.n.toNat,by omega⟩
   obtain⟨q,hq⟩:∃q:Nat,c.cap=q:=⟨c.cap.toNat,by omega⟩
   rw[hm,hq]
   refine ae.fn hnew (HU (n:=m) (cap:=q) (by omega) (by omega)) ?_
   rintro w C ⟨kp,rfl,hK⟩
   refine Ext.two ?_
   refine aa.eP (Br.F ?_)
   refine Ld.u (v:=.int .u8 (c.str:Int)) (List.mem_append_right _ (.head _)) ?_
   refine aa.mI (b:=6) ?_
   refine c7.and (decide (12<c.n)) (fun _=>?_) rfl fun gs=>?_
   ·exact Ld.u (v:=i64 c.n) (List.mem_append_right _ (.head _)) (aa.gtr ⟨rfl,rfl⟩)
   rw[←Bool.decide_and]
   refine Br.dec (fun h6=>?_) (fun h6=>?_)
   ·have e:dY c=6:=by
     unfold dY
     rw[if_neg (by simp only[dU,Bool.or_eq_true,decide_eq_true_eq];omega),if_neg (by simp only[eO,decide_eq_true_eq];omega),if_pos h6]
    rw[e]at hno
    exact aZ.mk (fun _ _ h=>h.bu) (hno (by decide))
   ·have e:dY c=0:=by
     unfold dY
     rw[if_neg (by simp only[dU,Bool.or_eq_true,decide_eq_true_eq];omega),if_neg (by simp only[eO,decide_eq_true_eq];omega),if_neg h6]
    obtain⟨d,rfl,hd⟩:=E6 e
    have em:m=d.n:=by simp only[Cf.i]at hm;omega
    have eq:q=d.cap:=by simp only[Cf.i]at hq;omega
    subst em eq
    refine ay.whole (r:=d.i.cells) (List.mem_append_right _ (.head _)) rfl ?_
    intro mb _
    refine Build.mk (cs:=d.cells++[ptr kp,.map (some mb),i64 ((0:Nat):Int)]) (by kernel_rfl) ?_
    intro sp _
    refine aZ.mk ?_ (hok d rfl hd sp kp mb C hK)
    exact .cons (.cons .left)
 refine Ld.f (v:=.int .u8 (c.str:Int)) ?_
 refine aa.pA (b:=6) (Br.dec (fun h=>by rw[decide_eq_true h];exact JE.mk (jt (by simp[dU,h]))) (fun h1=>?_))
 refine Ld.f (v:=i64 c.gr) ?_
 refine aa.lss (Br.dec (fun h=>by rw[decide_eq_true h];exact JE.mk (jt (by simp[dU,h]))) (fun h2=>?_))
 refine Ld.f (v:=i64 c.gr) ?_
 refine aa.gtr (Br.dec (fun h=>by rw[decide_eq_true h];exact JE.mk (jt (by simp[dU,h]))) (fun qt=>?_))
 refine Ld.f (v:=i64 c.rs) ?_
 refine aa.lss (Br.dec (fun h=>by rw[decide_eq_true h];exact JE.mk (jt (by simp[dU,h]))) (fun h4=>?_))
 refine Ld.f (v:=i64 c.rs) ?_
 refine aa.gtr ?_
 cases hb:decide (16<c.rs)
 ·exact JE.mk (jf (by simp only[dU,hb,decide_eq_false h1,decide_eq_false h2,decide_eq_false qt,decide_eq_false h4];rfl))
 ·exact JE.mk (jt (by simp only[dU,hb,Bool.or_true]))
end
section
variable {sp kp mb nx:Nat} {c:Cf} {K:Kd} {S:Nat→av.Fn} {ord af tr:List Nat} {hs:List (Int×Nat)} {es:Array MapEntry} {ck:Nat} {C:Hp}
theorem BU{κ β:Type}[DecidableEq κ]{m:List (κ×β)}{k:κ}{x:β}(h:k∉m.map Prod.fst):eR m k x=m++[(k,x)]:=by
 unfold eR;rw[if_neg h]
theorem qs(hE:aE (kI .i64) (fun v (r:Nat)=>v=u32 r) es ck hs)(hk:(nx:Int)∉hs.map Prod.fst)(zO:nx+1<9223372036854775808)(r:Nat)(t:Int):
  Fc Tryz.prog 84 #[ptr sp,u32 r,i64 t] (gS sp c kp mb nx es ck C) (fun v H=>v=c6 0 nx 0 t∧∃es' cg,H=gS sp c kp mb (nx+1) es' cg C∧aE (kI .i64) (fun v (r:Nat)=>v=u32 r) es' cg (hs++[((nx:Int),r)])):=by
 refine aP fun g=>AI ?_
 intro b1 _
 refine Ld.n (v:=i64 (nx:Int)) ?_
 refine Ld.n (v:=i64 (nx:Int)) ?_
 refine aa.inc ?_
 refine Nil.ptr (ag.mk (St.one (c':=(c.cells++[ptr kp,.map (some mb),i64 ((nx+1:Nat):Int)]).toArray) (by exact .tail (.head _)) rfl (by simp[Cf.cells]) rfl ?_))
 refine Ld.n (v:=.map (some mb)) ?_
 refine hE.bc (k:=(nx:Int)) (b:=mb) (x:=r) (cu _) (rB _) rfl fun es' cg he=>⟨_,.tail (.tail (.head _)),?_⟩
 rw[BU hk]at he
 refine Build.mk (cs:=[i64 0,i64 (nx:Int),u64 0,i64 t]) (by kernel_rfl) ?_
 refine St.p (aV _ _ _ _) ?_
 refine ay.q ?_
 exact aZ.mk .tail ⟨rfl,es',cg,rfl,he⟩
def fY(op:Nat):Option (Nat×Nat):=
 if op=11 then some (21,82)else if op=10 then some (129,81)else if op=9 then some (129,80)else if op=8 then some (81,79)else
 if op=7 then some (7,78)else if op=6 then some (3,77)else if op=5 then some (3,76)else if op=4 then some (3,75)else
 if op=3 then some (1,74)else if op=2 then some (32,73)else if op=1 then some (8,72)else none
def yh(p:Nat×Nat):List Value:=[.int .u8 (p.1:Int),.func (.func p.2) #[] #[]]
theorem zA:Fc Tryz.prog 42 #[] [] (fun v H=>∃b es ck m,v=.map (some b)∧H=[(b,.map es ck)]∧aE (kI .u8) (fun v (p:Nat×Nat)=>v=.agg (yh p).toArray) es ck m∧∀op:Nat,aJ m (op:Int)=fY op):=by
 refine aP fun g=>AT ?_
 intro b _
 have bc:∀{k:Int} {p:Nat×Nat} {es:Array MapEntry} {ck:Nat} {m:List (Int×(Nat×Nat))} {Q:Hp→Prop},aE (kI .u8) (fun v (p:Nat×Nat)=>v=.agg (yh p).toArray) es ck m→(∀es' cg,aE (kI .u8) (fun v (p:Nat×Nat)=>v=.agg (yh p).toArray) es' cg (eR m k p)→Q [(b,.map es' cg)])→
   Build Tryz.prog 95 [(0,.int .u8 (p.1:Int)),(1,.func (.func p.2) #[] #[])] fun v=>aY (.int .u8) [(b,.map es ck)] (.map (some b)) (kI .u8 k) v Q:=fun{k p es ck m Q} he hq=>by
  refine Build.mk (cs:=yh p) (by kernel_rfl) ?_
  exact aE.bc (cu _) (rB _) he rfl fun es' cg he'=>⟨_,.head _,hq es' cg he'⟩
 refine bc (k:=1) (p:=(8,72)) aE.empty fun _ _ h=>?_
 refine bc (k:=2) (p:=(32,73)) h fun _ _ h=>?_
 refine bc (k:=3) (p:=(1,74)) h fun _ _ h=>?_
 refine bc (k:=4) (p:=(3,75)) h fun _ _ h=>?_
 refine bc (k:=5) (p:=(3,76)) h fun _ _ h=>?_
 refine bc (k:=6) (p:=(3,77)) h fun _ _ h=>?_
 refine bc (k:=7) (p:=(7,78)) h fun _ _ h=>?_
 refine bc (k:=8) (p:=(81,79)) h fun _ _ h=>?_
 refine bc (k:=9) (p:=(129,80)) h fun _ _ h=>?_
 refine bc (k:=10) (p:=(129,81)) h fun _ _ h=>?_
 refine bc (k:=11) (p:=(21,82)) h fun _ _ h=>?_
 refine aZ.mk (.refl _) ⟨b,_,_,_,rfl,rfl,h,fun op=>?_⟩
 simp only[cH]
 have:∀j:Nat,((op:Int)=(j:Int))=(op=j):=fun j=>propext (by omega)
 have e:=this 11;have e2:=this 10;have e3:=this 9;have e4:=this 8;have e5:=this 7;have e6:=this 6;have e7:=this 5;have e8:=this 4;have e9:=this 3;have OX:=this 2;have Ly:=this 1
 simp only[Int.cast_ofNat_Int]at*
 simp only[e,e2,e3,e4,e5,e6,e7,e8,e9,OX,Ly]
 rfl
end
section
variable {sp kp mb nx:Nat} {c:Cf} {K K':Kd} {S S':Nat→av.Fn} {ord af bR tr ef o:List Nat} {hs:List (Int×Nat)} {es:Array MapEntry} {ck:Nat} {C C':Hp}
theorem Kept.const(hK:cv kp K S ord af tr C)(dP:cv kp K' S' o bR ef C')(r:Nat)(hr:r<2):S' r=S r:=by
  have h1:=hK.ok.mid.int
  have h2:=dP.ok.mid.int
  have:r=0∨r=1:=by omega
  rcases this with rfl|rfl
  · exact funext fun x=>by rw[h1.zero,h2.zero]
  · exact funext fun x=>by rw[h1.one,h2.one]
theorem fB.kept(h:fB kp nx c K S ord af tr hs es ck C)(dP:cv kp K' S' o bR ef C')(hk:Kept K S K' S'):fB kp nx c K' S' o bR ef hs es ck C'∧∀p∈hs,S' p.2=S p.2:=by
  have hh:∀p∈hs,2≤p.2→K.hold p.2≠0:=fun p hp h2=>by
    rw[h.hold,if_pos h2]
    exact Nat.ne_of_gt (List.count_pos_iff.2 (List.mem_map_of_mem hp))
  refine⟨⟨dP,hk.n.trans h.n,hk.cap.trans h.cap,h.gg,fun p hp=>?_,fun r=>by rw[hk.hold,h.hold],h.lt⟩,fun p hp=>?_⟩
  · by_cases h2:2≤p.2
    · exact .inr (dP.ok.mid.held p.2 (by rw[hk.hold];exact hh p hp h2))
    · exact .inl (by omega)
  · by_cases h2:2≤p.2
    · exact hk.fn _ (hh p hp h2)
    · exact Kept.const h.ks dP _ (by omega)
theorem fB.key(h:fB kp nx c K S ord af tr hs es ck C):(nx:Int)∉hs.map Prod.fst:=fun hm=>by
  obtain⟨p,hp,e⟩:=List.mem_map.1 hm
  have:=h.lt p hp
  omega
theorem fB.grow(h:fB kp nx c K S ord af tr hs es ck C){f:av.Fn}{r:Nat}{es':Array MapEntry}{cg:Nat}(dP:cv kp K' S' o bR ef C')(hg:px K S K' S' f r)(he:aE (kI .i64) (fun v (r:Nat)=>v=u32 r) es' cg (hs++[((nx:Int),r)])):
    fB kp (nx+1) c K' S' o bR ef (hs++[((nx:Int),r)]) es' cg C'∧∀p∈hs,S' p.2=S p.2:=by
  refine⟨⟨dP,hg.n.trans h.n,hg.cap.trans h.cap,he,fun p hp=>?_,fun s=>?_,fun p hp=>?_⟩,fun p hp=>hg.fn _ (h.live p hp)⟩
  · rcases List.mem_append.1 hp with hp|hp
    · exact jz hg.N (h.live p hp)
    · rw[List.mem_singleton.1 hp];exact hg.live
  · rw[hg.hold,h.hold,List.map_append,List.count_append]
    by_cases e:s=r
    · subst e
      by_cases h2:2≤s
      · simp[h2]
      · simp[h2]
    · have:List.count s (List.map Prod.snd [((nx:Int),r)])=0:=by
        simp only[List.map_cons,List.map_nil,List.count_eq_zero,List.mem_singleton]
        exact e
      have e2:(if s=r∧2≤r then 1 else 0)=0:=if_neg fun h=>e h.1
      rw[this,e2]
      split<;>rfl
  · rcases List.mem_append.1 hp with hp|hp
    · have:=h.lt p hp;omega
    · rw[List.mem_singleton.1 hp];simp only;omega
def rS(kp:Nat)(K:Kd)(S:Nat→av.Fn)(ord af tr:List Nat)(f:av.Fn)(T:Nat→Prop)(w:Value)(H:Hp):Prop:=
  (∃r K' S',w=.tuple #[u32 r,i64 0]∧cv kp K' S' ord af [] H∧px K S K' S' f r∧T 0)∨
  (∃(e:Nat) (K':Kd) (S':Nat→av.Fn) (ef:List Nat),w=.tuple #[u32 0,i64 e]∧(e=8∨e=9)∧cv kp K' S' ord af ef H∧(ef=[]∨ef=tr)∧Kept K S K' S'∧T e)
theorem rS.two{f:av.Fn}{T:Nat→Prop}{w:Value}{H:Hp}(h:rS kp K S ord af tr f T w H):∃x y,w=.tuple #[x,y]:=by
  rcases h with⟨r,_,_,rfl,_⟩|⟨e,_,_,_,rfl,_⟩
  · exact⟨_,_,rfl⟩
  · exact⟨_,_,rfl⟩
inductive qD(T:List Nat→Nat→Prop)(R:List Nat→List Nat→Prop)(o:List Nat):Nat→List Nat→Prop
  |one:qD T R o 1 o
  |more {t:Nat} {p ls:List Nat}:qD T R o t p→T p 9→R p ls→qD T R o (t+1) (aK p ls)
def yZ(sp kp mb nx:Nat)(c:Cf)(S:Nat→av.Fn)(sz:List Nat→Nat)(ord tr:List Nat)(hs:List (Int×Nat))(f:av.Fn)(T:List Nat→Nat→Prop)(R:List Nat→List Nat→Prop)(v:Value)(H:Hp):Prop:=
  ∃(t:Nat) (o bR ef:List Nat) (K':Kd) (S':Nat→av.Fn) (es':Array MapEntry) (cg:Nat) (C':Hp),t≤c.rs+1∧qD T R ord t o∧(∀p∈hs,S' p.2=S p.2)∧
    ((∃r,v=c6 0 nx 0 t∧H=gS sp c kp mb (nx+1) es' cg C'∧fB kp (nx+1) c K' S' o bR ef (hs++[((nx:Int),r)]) es' cg C'∧S' r=f∧T o 0∧ef=[])∨
     (∃e:Nat,(e=8∨e=9)∧v=c6 e (-1) 0 t∧H=gS sp c kp mb nx es' cg C'∧fB kp nx c K' S' o bR ef hs es' cg C'∧T o e∧(e=9→t=c.rs+1)∧ef.length+8192*sz o≤tr.length+8192*sz ord))
theorem E8{f w:Nat}{x:cA}{fn:av.Fn}{T:List Nat→Nat→Prop}{R:List Nat→List Nat→Prop}(fo:aS Tryz.prog f=true)(h:fB kp nx c K S ord af tr hs es ck C)(hc:c.Ok)(zO:nx+1<9223372036854775808)(hw:w<256)(hx:x.x<18446744073709551616)(hl:fZ c.n hs w x=0)
   (yx:∀{K':Kd} {S':Nat→av.Fn} {o bR ef:List Nat} {C':Hp},fB kp nx c K' S' o bR ef hs es ck C'→(∀p∈hs,S' p.2=S p.2)→Fc Tryz.prog f #[ptr sp,x.v] (gS sp c kp mb nx es ck C') (fun v H=>∃C2,H=gS sp c kp mb nx es ck C2∧rS kp K' S' o bR ef fn (T o) v C2))
   (hrun:∀{K':Kd} {S':Nat→av.Fn} {o bR ef:List Nat} {C':Hp},T o 9→fB kp nx c K' S' o bR ef hs es ck C'→(∀p∈hs,S' p.2=S p.2)→ef.length≤tr.length+8192*fy K S ord→
      Fc Tryz.prog 85 #[ptr kp,.int .u8 (c.str:Int),i64 c.gr] C' (fun v H=>∃ls a b,v=.tuple #[a,b]∧R o ls∧At kp K' S' (aK o ls) (ef++ls) H∧ls.length+8192*fy K' S' (aK o ls)≤8192*fy K' S' o)):
    Fc Tryz.prog 43 #[ptr sp,x.v,.agg (yh (w,f)).toArray] (gS sp c kp mb nx es ck C) (yZ sp kp mb nx c S (fy K S) ord tr hs fn T R):=by
  refine aP fun g=>qM ?_
  intro b1 _ b3 _ b5 _
  refine ay.q (r:=x.cells) ?_
  refine Ld.f (v:=.int .u8 (w:Int)) ?_
  refine ae.eq (look_ok h hw hx) ?_
  rw[hl]
  refine aa.eP (Br.F ?_)
  refine⟨fun vs H=>∃(t:Nat) (o bR ef:List Nat) (K':Kd) (S':Nat→av.Fn) (C':Hp),vs=[i64 (t:Int)]∧t≤c.rs+1∧H=(b5,.cells #[i64 0,i64 0,u64 0,i64 0] 37 (0,0))::(b3,.cells (yh (w,f)).toArray 95 (0,0))::(b1,.cells x.cells.toArray 35 (0,0))::gS sp c kp mb nx es ck C'∧
      fB kp nx c K' S' o bR ef hs es ck C'∧Kept K S K' S'∧qD T R ord t o∧ef.length+8192*fy K S o≤tr.length+8192*fy K S ord,fun vs _=>20-ca vs 0,JE.mk ⟨1,ord,af,tr,K,S,C,rfl,by omega,rfl,h,.refl _ _,.one,Nat.le_refl _⟩,?_⟩
  rintro w0 H ⟨t,o,Ka,MY,K1,S1,C1,⟨⟩,ht,rfl,h1,ou,hT,hb⟩ gs
  have TA:=hc.rs
  have hsame:=(h.kept h1.ks ou).2
  refine Ld.f (v:=.func (.func f) #[] #[]) ?_
  refine ay.q (r:=x.cells) ?_
  refine bg.of rfl fo ?_
  refine ae.fq (args:=#[ptr sp,x.v]) (yx h1 hsame) ?_
  rintro w H ⟨C2,rfl,hQ⟩
  rcases hQ with⟨r,K2,S2,rfl,gh,hg,h0⟩|⟨e,K2,S2,tS,rfl,he,gh,nr,lJ,z7⟩
  · refine Ext.two ?_
    refine aa.iq (Br.T ?_)
    refine ae.fq (qs h1.gg h.key zO r t) ?_
    rintro w H ⟨rfl,ud,yP,rfl,hE⟩
    refine St.p (r:=[i64 0,i64 nx,u64 0,i64 t]) (aV _ _ _ _) ?_
    refine ay.q ?_
    obtain⟨h3,h4⟩:=h1.grow gh hg hE
    exact aZ.mk (.skip (.skip .tail)) ⟨t,o,Ka,[],K2,S2,ud,yP,C2,ht,hT,fun p hp=>(h4 p hp).trans (hsame p hp),.inl ⟨r,rfl,rfl,h3,hg.is,h0,rfl⟩⟩
  · obtain⟨h3,h4⟩:=h1.kept gh lJ
    have pH:tS.length+8192*fy K S o≤tr.length+8192*fy K S ord:=by
      rcases nr with rfl|rfl
      · rw[List.length_nil];omega
      · exact hb
    have fin:(e=9→t=c.rs+1)→yZ sp kp mb nx c S (fy K S) ord tr hs fn T R (c6 e (-1) 0 t) (gS sp c kp mb nx es ck C2):=fun het=>
      ⟨t,o,Ka,tS,K2,S2,es,ck,C2,ht,hT,fun p hp=>(h4 p hp).trans (hsame p hp),.inr ⟨e,he,rfl,rfl,h3,z7,het,pH⟩⟩
    refine Ext.two ?_
    refine aa.iq (Br.F ?_)
    refine aa.eP ?_
    refine c7.or (decide (c.rs<t)) (fun _=>?_) rfl fun gs=>?_
    · refine Nil.ptr (ag.mk (Ld.f (v:=i64 c.rs) ?_))
      exact aa.pA ⟨rfl,rfl⟩
    rw[←Bool.decide_or]
    refine Br.dec (fun RC=>?_) (fun RC=>?_)
    · refine ae.eq (bJ e _) ?_
      intro T0 _
      refine St.p (r:=[i64 e,i64 (-1),u64 0,i64 0]) (aV _ _ _ _) ?_
      refine ag.mk (St.one (c':=#[i64 e,i64 (-1),u64 0,i64 t]) (by exact .head _) rfl (by simp) rfl ?_)
      refine ay.q (r:=[i64 e,i64 (-1),u64 0,i64 t]) ?_
      refine St.p (aV _ _ _ _) ?_
      refine ay.q ?_
      exact aZ.mk (.skip (.skip (.skip .tail))) (fin fun _=>by omega)
    · have RI:e=9:=by omega
      subst RI
      refine DR.of (R:=(b5,.cells #[i64 0,i64 0,u64 0,i64 0] 37 (0,0))::(b3,.cells (yh (w,f)).toArray 95 (0,0))::(b1,.cells x.cells.toArray 35 (0,0))::gS sp c kp mb nx es ck C2) (.refl _) ?_
      refine Ld.n (v:=ptr kp) ?_
      refine Nil.ptr (ag.mk (Ld.f (v:=.int .u8 (c.str:Int)) ?_))
      refine Nil.ptr (ag.mk (Ld.f (v:=i64 c.gr) ?_))
      intro F
      refine ae.fq (hrun z7 h3 (fun p hp=>(h4 p hp).trans (hsame p hp)) (by omega)) ?_
      rintro w2 H2 ⟨ls,a,b,rfl,hR,hA,hlen⟩
      refine aa.inc ?_
      obtain⟨K3,S3,Nh,Aa,kD⟩:=hA
      obtain⟨h5,h6⟩:=h3.kept Aa kD
      rw[lB (ou.trans lJ),lB (ou.trans lJ)]at hlen
      refine aB.mk ⟨t+1,aK o ls,Nh,tS++ls,K3,S3,H2,rfl,by omega,rfl,h5,(ou.trans lJ).trans kD,.more hT z7 hR,by rw[List.length_append];omega⟩ (by simp only[ca];omega)
end
section
def HF(L:List av.Fn)(g:av.Fn):Prop:=g∈L∧∃v,cq g v
noncomputable def tn(L:List av.Fn)(f:av.Fn):Nat:=L.countP fun g=> @decide (g=f) (Classical.propDecidable _)
def tN(L:List av.Fn)(f:av.Fn):Prop:=(∃v,cq f v)∧65535≤tn L f
def I4(n cap:Nat)(L:List av.Fn)(f:av.Fn)(ord:List Nat)(e:Nat):Prop:=
 (e=0∧Fits (aF n ord (fun g=>HF L g∨g=f)) cap∧¬tN L f)∨(e=9∧¬Fits (aF n ord (fun g=>HF L g∨g=f)) cap)∨(e=8∧tN L f)
def Hr(n cap:Nat)(L:List av.Fn)(q:Bool)(mask:Nat)(f:av.Fn)(ord:List Nat)(e:Nat):Prop:=
 e=0∨(e=9∧∃i,i<n∧mask.testBit i=true∧¬Fits (aF n ord (fun g=>(HF L g∨(bitsOf mask i≠[]∧g=GF q (bitsOf mask i) f))∨g=qf q i (GF q (bitsOf mask i) f))) cap)∨(e=8∧∃g,65534≤tn L g)
def LC(n cap:Nat)(L:List av.Fn)(lo hi f:av.Fn)(ord:List Nat)(e:Nat):Prop:=
 e=0∨(e=9∧(¬Fits (aF n ord (fun g=>HF L g∨g=lo)) cap∨¬Fits (aF n ord (fun g=>(HF L g∨g=lo)∨g=hi)) cap∨¬Fits (aF n ord (fun g=>((HF L g∨g=lo)∨g=hi)∨g=f)) cap))∨(e=8∧∃g,65533≤tn L g)
def fU(n:Nat)(F:Int→av.Fn)(x:cA):av.Fn:=match x.op with
 |1=>fun y=>y.testBit x.a.toNat
 |2=>fun _=>decide (x.a=1)
 |3=>fun y=> !F x.a y
 |4=>fun y=>F x.a y&&F x.b y
 |5=>fun y=>F x.a y||F x.b y
 |6=>fun y=>F x.a y^^F x.b y
 |7=>fun y=>if F x.a y then F x.b y else F x.c y
 |8=>fun y=>F x.a (eH.aO y x.b.toNat (decide (x.c=1)))
 |9=>GF true (bitsOf x.x n) (F x.a)
 |10=>GF false (bitsOf x.x n) (F x.a)
 |_=>fun y=>if F x.c y then F x.a (eH.aO y x.b.toNat true)else F x.a (eH.aO y x.b.toNat false)
def rX(n cap:Nat)(L:List av.Fn)(F:Int→av.Fn)(x:cA)(ord:List Nat)(e:Nat):Prop:=
 if x.op=9 then Hr n cap L true x.x (F x.a) ord e else if x.op=10 then Hr n cap L false x.x (F x.a) ord e else
 if x.op=11 then LC n cap L (fun y=>F x.a (eH.aO y x.b.toNat false)) (fun y=>F x.a (eH.aO y x.b.toNat true)) (fU n F x) ord e else I4 n cap L (fU n F x) ord e
def fL(S:Nat→av.Fn)(hs:List (Int×Nat)):List av.Fn:=hs.map fun p=>S p.2
def cZ(S:Nat→av.Fn)(hs:List (Int×Nat))(a:Int):av.Fn:=match aJ hs a with|some r=>S r|none=>fun _=>false
variable {sp kp mb nx:Nat} {c:Cf} {K K':Kd} {S S':Nat→av.Fn} {ord af bR tr ef o:List Nat} {hs:List (Int×Nat)} {es:Array MapEntry} {ck:Nat} {C C':Hp}
theorem kT{n:Nat}{ord:List Nat}{f:av.Fn}(hf:∀v,¬cq f v)(g:av.Fn):¬aF n ord (fun g=>g=f) g:=by
 rintro⟨l,hl,hg,hh⟩
 rw[nI (l:=n) (fun j _=>hf _) l (by omega) g hg]at hh
 exact hf _ hh
theorem px.Lw{K':Kd}{S':Nat→av.Fn}{f:av.Fn}{x:Nat}{ef:List Nat}{C':Hp}(h:px K S K' S' f x)(hK:cv kp K S ord af tr C)(dP:cv kp K' S' ord af ef C'):Fits (aF K.n ord (fun g=>K.held S g∨g=f)) K.cap:=by
 have hc:=dP.ok.size dP.od
 have hr:=dP.ok.mid.room
 have h2:=dP.ok.mid.cap
 rw[h.n]at hc
 refine Fits.mono (fun g hg=>?_) ⟨K'.used-2,hc,by rw[←h.cap];omega⟩
 have old:∀g,K.held S g→K'.held S' g:=fun g ⟨s,hs,e⟩=>⟨s,by show K'.hold s≠0;have:K.hold s≠0:=hs;rw[h.hold];omega,by rw[h.fn s (.inr (hK.ok.mid.held s hs)),e]⟩
 by_cases h2:2≤x
 ·refine ew (fun g hg=>?_) hg
  rcases hg with hg|rfl
  ·exact old g hg
  ·exact⟨x,by show K'.hold x≠0;rw[h.hold,if_pos ⟨rfl,h2⟩];omega,h.is.symm⟩
 ·rcases(sJ g).1 hg with hg|hg
  ·exact ew old hg
  ·refine absurd hg (kT (fun v=>?_) g)
   rintro⟨y,hy⟩
   rw[←h.is]at hy
   have hi:=dP.ok.mid.int
   obtain rfl|rfl:x=0∨x=1:=by omega
   ·exact hy (by rw[hi.zero,hi.zero])
   ·exact hy (by rw[hi.one,hi.one])
theorem Ga(h:∀p∈hs,S' p.2=S p.2):fL S' hs=fL S hs:=List.map_congr_left h
theorem cj{a:Int}{r:Nat}(h:aJ hs a=some r):cZ S hs a=S r:=by unfold cZ;rw[h]
theorem fB.find(h:fB kp nx c K S ord af tr hs es ck C){a:Int}{r:Nat}(hm:aJ hs a=some r):(a,r)∈hs:=(cR h.gg.nd).1 hm
theorem Ac(fI:(hs.map Prod.fst).Nodup)(h:∀p∈hs,S' p.2=S p.2):cZ S' hs=cZ S hs:=funext fun a=>by
 unfold cZ
 cases hm:aJ hs a with
 |none=>rfl
 |some r=>exact h _ ((cR fI).1 hm)
theorem fG(hK:cv kp K S ord af tr C){r:Nat}(hl:live K.N r):2≤r↔∃v,cq (S r) v:=by
 constructor
 ·intro h2
  obtain⟨d,hd⟩:∃d,K.N r=some d:=by
   rcases hl with hl|hl
   ·omega
   ·exact hl
  exact⟨d.v,eA hK.ok.wf hK.ok.lv hK.ok.mid.int hd⟩
 ·rintro⟨v,y,hy⟩
  have hi:=hK.ok.mid.int
  by_cases h2:2≤r
  ·exact h2
  ·exfalso
   obtain rfl|rfl:r=0∨r=1:=by omega
   ·exact hy (by rw[hi.zero,hi.zero])
   ·exact hy (by rw[hi.one,hi.one])
theorem fB.same(h:fB kp nx c K S ord af tr hs es ck C){a b:Nat}(ha:av.live K.N a)(hb:av.live K.N b):S a=S b↔a=b:=
 ⟨fun e=>h.ks.ok.wf.same h.ks.ok.lv h.ks.ok.mid.int ha hb fun x=>congrFun e x,fun e=>by rw[e]⟩
theorem fB.held(h:fB kp nx c K S ord af tr hs es ck C):K.held S=HF (fL S hs):=funext fun g=>propext (by
 constructor
 ·rintro⟨s,hs0,rfl⟩
  have h0:K.hold s≠0:=hs0
  rw[h.hold]at h0
  by_cases h2:2≤s
  ·rw[if_pos h2]at h0
   obtain⟨p,hp,e⟩:=List.mem_map.1 (List.count_pos_iff.1 (Nat.pos_of_ne_zero h0))
   subst e
   exact⟨List.mem_map.2 ⟨p,hp,rfl⟩,(fG h.ks (h.live p hp)).1 h2⟩
  ·rw[if_neg h2]at h0;exact absurd rfl h0
 ·rintro⟨hm,hv⟩
  obtain⟨p,hp,rfl⟩:=List.mem_map.1 hm
  have h2:=(fG h.ks (h.live p hp)).2 hv
  refine⟨p.2,?_,rfl⟩
  show K.hold p.2≠0
  rw[h.hold,if_pos h2]
  exact Nat.ne_of_gt (List.count_pos_iff.2 (List.mem_map_of_mem hp)))
theorem fB.count(h:fB kp nx c K S ord af tr hs es ck C){r:Nat}(hr:av.live K.N r)(h2:2≤r):K.hold r=tn (fL S hs) (S r):=by
 rw[h.hold,if_pos h2]
 unfold tn fL
 rw[List.countP_map,List.count,List.countP_map]
 refine List.countP_congr fun p hp=>?_
 have:=h.same (h.live p hp) hr
 simp only[Function.comp_apply,beq_iff_eq,decide_eq_true_eq]
 exact this.symm
theorem fB.full(h:fB kp nx c K S ord af tr hs es ck C){r:Nat}(hr:K.hold r=65535)(h2:2≤r):tN (fL S hs) (S r):=by
 have hl:av.live K.N r:=.inr (h.ks.ok.mid.held r (by omega))
 exact⟨(fG h.ks hl).1 h2,by rw[←h.count hl h2,hr];exact Nat.le_refl _⟩
theorem fB.done(h:fB kp nx c K S ord af tr hs es ck C){f:av.Fn}{w:Value}(hD:ji kp K S ord af tr f w C'):rS kp K S ord af tr f (I4 K.n K.cap (fL S hs) f ord) w C':=by
 rcases hD with(⟨x,K',S',rfl,dP,hg⟩|⟨rfl,⟨K',S',ef,dP,iD,hk⟩,hf⟩)|⟨rfl,⟨K',S',ef,dP,iD,hk⟩,r,h2,hr,rfl⟩
 ·refine .inl ⟨x,K',S',rfl,dP,hg,.inl ⟨rfl,by rw[←h.held];exact hg.Lw h.ks dP,?_⟩⟩
  rintro⟨hv,hc⟩
  have GR:2≤x:=(fG dP hg.live).2 (by rw[hg.is];exact hv)
  have hle:=dP.jA x
  rw[hg.hold,if_pos ⟨rfl,GR⟩]at hle
  obtain⟨p,hp,e⟩:∃p∈hs,S p.2=f:=by
   have:0<tn (fL S hs) f:=by omega
   obtain⟨g,PU,PT⟩:=List.countP_pos_iff.1 this
   obtain⟨p,hp,rfl⟩:=List.mem_map.1 PU
   exact⟨p,hp,by simpa using PT⟩
  have Rk:p.2=x:=dP.ok.wf.same dP.ok.lv dP.ok.mid.int (jz hg.N (h.live p hp)) hg.live fun y=>by rw[hg.fn _ (h.live p hp),e,hg.is]
  subst Rk
  have:=h.count (h.live p hp) GR
  rw[e]at this
  omega
 ·exact .inr ⟨9,K',S',ef,rfl,.inr rfl,dP,iD,hk,.inr (.inl ⟨rfl,by rw[←h.held];exact hf⟩)⟩
 ·exact .inr ⟨8,K',S',ef,rfl,.inl rfl,dP,iD,hk,.inr (.inr ⟨rfl,h.full hr h2⟩)⟩
end
section
variable {sp kp mb nx:Nat} {c:Cf} {K:Kd} {S:Nat→av.Fn} {ord af tr:List Nat} {hs:List (Int×Nat)} {es:Array MapEntry} {ck:Nat} {C:Hp} {x:cA}
theorem Az(hK:cv kp K S ord af tr C){a b:Nat}(ha:live K.N a)(hb:live K.N b):Fc Tryz.prog 123 #[ptr kp,u32 a,u32 b] C (ji kp K S ord af tr (fun y=>S a y&&S b y)):=by
 refine aP fun g=>xK ?_
 refine ae.fq (l6 hK (op:=8) (by decide) ha hb) ?_
 intro w H hD
 rw[show(fun y=>Jk 8 (S a y) (S b y))=fun y=>S a y&&S b y from funext fun y=>by cases S a y<;>cases S b y<;>rfl]at hD
 obtain⟨x,e,rfl⟩:=hD.two
 exact Ext.two (aZ.here hD)
theorem tI(hK:cv kp K S ord af tr C)(b:Bool):Fc Tryz.prog 121 #[ptr kp,.bool b] C (ji kp K S ord af tr (fun _=>b)):=by
 have hi:=hK.ok.mid.int
 refine aP fun g=>xM ?_
 refine aa.an (Br.no ?_)
 intro J2 h2
 have go:∀r:Nat,r<2→(S r=fun _=>b)→J2 [u32 r] C:=fun r hr hf=>by
  refine h2 _ _ fun _=>?_
  refine ae.fq (nF hK (r:=r) (.inl hr) (fun h=>by omega)) ?_
  rintro v H ⟨rfl,K',dP,hm⟩
  exact aZ.here (.inl (.inl ⟨r,K',S,rfl,dP,⟨hm.n,hm.cap,fun s d h=>by rw[hm.N];exact h,fun _ _=>rfl,.inl hr,hf,fun s=>by rw[hm.hold];split<;>rfl⟩⟩))
 cases b
 ·exact Br.no (JE.mk (go 0 (by decide) (funext hi.zero)))
 ·exact Br.yes (JE.mk (go 1 (by decide) (funext hi.one)))
theorem gU{n w:Nat}(h:fZ n hs w x=0):(u6 w x=false∧Ar w x=false)∧(ux n w x=false∧uw n w x=false∧E3 n w x=false)∧(oM hs w x=false∧oL hs w x=false∧qy hs w x=false):=by
 unfold fZ at h
 split at h
 ·cases h
 split at h
 ·cases h
 split at h
 ·cases h
 rename_i h1 h2 h3
 simp only[Bool.not_eq_true,Bool.or_eq_false_iff]at h1 h2 h3
 exact⟨h1,⟨h2.1.1,h2.1.2,h2.2⟩,⟨h3.1.1,h3.1.2,h3.2⟩⟩
theorem qU{m:List (Int×Nat)}{a:Int}{p:Bool}(h:(p&& !(aJ m a).isSome)=false)(hp:p=true):∃r,aJ m a=some r:=by
 subst hp
 cases hm:aJ m a with
 |none=>rw[hm]at h;cases h
 |some r=>exact⟨r,rfl⟩
theorem HC{n:Nat}{a:Int}{p:Bool}(h:(p&& !decide (0≤a∧a<n))=false)(hp:p=true):∃v:Nat,a=v∧v<n:=by
 subst hp
 have:0≤a∧a<n:=by simpa using h
 exact⟨a.toNat,by omega,by omega⟩
theorem jw{n cap:Nat}{L:List av.Fn}{F:Int→av.Fn}(h:x.op<9):rX n cap L F x ord=I4 n cap L (fU n F x) ord:=funext fun e=>by
 unfold rX;rw[if_neg (by omega),if_neg (by omega),if_neg (by omega)]
def ni(f:Nat)(op w:Nat):Prop:=∀{sp kp mb nx:Nat} {c:Cf} {K:Kd} {S:Nat→av.Fn} {ord af tr:List Nat} {hs:List (Int×Nat)} {es:Array MapEntry} {ck:Nat} {C:Hp} {x:cA},fB kp nx c K S ord af tr hs es ck C→x.op=op→x.x<18446744073709551616→fZ c.n hs w x=0→
 Fc Tryz.prog f #[ptr sp,x.v] (gS sp c kp mb nx es ck C) (fun v H=>∃C2,H=gS sp c kp mb nx es ck C2∧rS kp K S ord af tr (fU c.n (cZ S hs) x) (rX c.n c.cap (fL S hs) (cZ S hs) x ord) v C2)
theorem fh:ni 72 1 8:=by
 intro sp kp mb nx c K S ord af tr hs es ck C x h hop Nk hl
 obtain⟨⟨Ol,Oj⟩,⟨Md,Ns,Nq⟩,KN,Mr,Of⟩:=gU hl
 obtain⟨v,hv,Mc⟩:=HC Md (by decide)
 refine aP fun g=>AN ?_
 intro b1 _
 refine DR.of (R:=[(b1,.cells (Value.cells x.v) 35 (0,0)),pZ sp c kp mb nx,(mb,.map es ck)]) (.cons (.cons (.cons fun _ _ h=>h.bu))) ?_
 refine Ld.n (v:=ptr kp) ?_
 refine Ld.f (v:=i64 x.a) ?_
 rw[hv]
 intro F
 refine ae.fq (As h.ks (v:=v) (by rw[h.n];exact Mc)) ?_
 rintro w H hD
 have hQ:rS kp K S ord af tr (fU c.n (cZ S hs) x) (rX c.n c.cap (fL S hs) (cZ S hs) x ord) w H:=by
  have hq:=h.done hD
  rw[h.n,h.cap]at hq
  rw[jw (by omega)]
  have e:fU c.n (cZ S hs) x=fun y=>y.testBit x.a.toNat:=by simp only[fU,hop]
  rw[e]
  simp only[hv,Int.toNat_natCast]
  exact hq
 obtain⟨y,e,rfl⟩:=hQ.two
 refine⟨.cons (.cons (.cons fun _ _ h=>h.bu)),?_⟩
 exact Ext.two (aZ.mk .tail ⟨_,rfl,hQ⟩)
theorem kX:ni 73 2 32:=by
 intro sp kp mb nx c K S ord af tr hs es ck C x h hop Nk hl
 obtain⟨⟨Ol,Oj⟩,⟨Md,Ns,Nq⟩,KN,Mr,Of⟩:=gU hl
 refine aP fun g=>AM ?_
 intro b1 _
 refine DR.of (R:=[(b1,.cells (Value.cells x.v) 35 (0,0)),pZ sp c kp mb nx,(mb,.map es ck)]) (.cons (.cons (.cons fun _ _ h=>h.bu))) ?_
 refine Ld.n (v:=ptr kp) ?_
 refine Ld.f (v:=i64 x.a) ?_
 refine aa.iq ?_
 intro F
 refine ae.fq (tI h.ks (decide (x.a=1))) ?_
 rintro w H hD
 have hQ:rS kp K S ord af tr (fU c.n (cZ S hs) x) (rX c.n c.cap (fL S hs) (cZ S hs) x ord) w H:=by
  have hq:=h.done hD
  rw[h.n,h.cap]at hq
  rw[jw (by omega)]
  have e:fU c.n (cZ S hs) x=fun _=>decide (x.a=1):=by simp only[fU,hop]
  rw[e]
  exact hq
 obtain⟨y,e,rfl⟩:=hQ.two
 refine⟨.cons (.cons (.cons fun _ _ h=>h.bu)),?_⟩
 exact Ext.two (aZ.mk .tail ⟨_,rfl,hQ⟩)
theorem EF:ni 74 3 1:=by
 intro sp kp mb nx c K S ord af tr hs es ck C x h hop Nk hl
 obtain⟨⟨Ol,Oj⟩,⟨Md,Ns,Nq⟩,KN,Mr,Of⟩:=gU hl
 obtain⟨ra,ha⟩:=qU KN (by decide)
 have la:=h.live _ (h.find ha)
 refine aP fun g=>AL ?_
 intro b1 _
 refine DR.of (R:=[(b1,.cells (Value.cells x.v) 35 (0,0)),pZ sp c kp mb nx,(mb,.map es ck)]) (.cons (.cons (.cons fun _ _ h=>h.bu))) ?_
 refine Ld.n (v:=ptr kp) ?_
 refine Ld.n (v:=.map (some mb)) ?_
 refine Ld.f (v:=i64 x.a) ?_
 refine h.gg.hit (k:=x.a) (cu _) (b:=mb) (by exact .tail _ (.tail _ (.head _))) ha fun v e=>?_
 subst e
 intro F
 refine ae.fq (Aw h.ks la) ?_
 rintro w H hD
 have hQ:rS kp K S ord af tr (fU c.n (cZ S hs) x) (rX c.n c.cap (fL S hs) (cZ S hs) x ord) w H:=by
  have hq:=h.done hD
  rw[h.n,h.cap]at hq
  rw[jw (by omega)]
  have e:fU c.n (cZ S hs) x=fun y=> !cZ S hs x.a y:=by simp only[fU,hop]
  rw[e]
  simp only[cj ha]
  exact hq
 obtain⟨y,e,rfl⟩:=hQ.two
 refine⟨.cons (.cons (.cons fun _ _ h=>h.bu)),?_⟩
 exact Ext.two (aZ.mk .tail ⟨_,rfl,hQ⟩)
theorem x9:ni 75 4 3:=by
 intro sp kp mb nx c K S ord af tr hs es ck C x h hop Nk hl
 obtain⟨⟨Ol,Oj⟩,⟨Md,Ns,Nq⟩,KN,Mr,Of⟩:=gU hl
 obtain⟨ra,ha⟩:=qU KN (by decide)
 have la:=h.live _ (h.find ha)
 obtain⟨rb,hb⟩:=qU Mr (by decide)
 have lb:=h.live _ (h.find hb)
 refine aP fun g=>AK ?_
 intro b1 _
 refine DR.of (R:=[(b1,.cells (Value.cells x.v) 35 (0,0)),pZ sp c kp mb nx,(mb,.map es ck)]) (.cons (.cons (.cons fun _ _ h=>h.bu))) ?_
 refine Ld.n (v:=ptr kp) ?_
 refine Ld.n (v:=.map (some mb)) ?_
 refine Ld.f (v:=i64 x.a) ?_
 refine h.gg.hit (k:=x.a) (cu _) (b:=mb) (by exact .tail _ (.tail _ (.head _))) ha fun v e=>?_
 subst e
 refine Ld.n (v:=.map (some mb)) ?_
 refine Ld.f (v:=i64 x.b) ?_
 refine h.gg.hit (k:=x.b) (cu _) (b:=mb) (by exact .tail _ (.tail _ (.head _))) hb fun v e=>?_
 subst e
 intro F
 refine ae.fq (Az h.ks la lb) ?_
 rintro w H hD
 have hQ:rS kp K S ord af tr (fU c.n (cZ S hs) x) (rX c.n c.cap (fL S hs) (cZ S hs) x ord) w H:=by
  have hq:=h.done hD
  rw[h.n,h.cap]at hq
  rw[jw (by omega)]
  have e:fU c.n (cZ S hs) x=fun y=>cZ S hs x.a y&&cZ S hs x.b y:=by simp only[fU,hop]
  rw[e]
  simp only[cj ha,cj hb]
  exact hq
 obtain⟨y,e,rfl⟩:=hQ.two
 refine⟨.cons (.cons (.cons fun _ _ h=>h.bu)),?_⟩
 exact Ext.two (aZ.mk .tail ⟨_,rfl,hQ⟩)
end
section
variable {sp kp mb nx:Nat} {c:Cf} {K:Kd} {S:Nat→av.Fn} {ord af tr:List Nat} {hs:List (Int×Nat)} {es:Array MapEntry} {ck:Nat} {C:Hp} {x:cA}
theorem E9{w f:Nat}(h:fB kp nx c K S ord af tr hs es ck C)(hw:w<256)(hx:x.x<18446744073709551616)(hl:fZ c.n hs w x≠0):
  Rd Tryz.prog 43 #[ptr sp,x.v,.agg (yh (w,f)).toArray] (gS sp c kp mb nx es ck C) (· =c6 (fZ c.n hs w x) (-1) 0 0):=by
 refine aP fun g=>qM ?_
 intro b1 _ b3 _ b5 _
 refine ay.q (r:=x.cells) ?_
 refine Ld.f (v:=.int .u8 (w:Int)) ?_
 refine ae.eq (look_ok h hw hx) ?_
 refine aa.eP (Br.T ?_ hl)
 refine ae.eq (bJ _ _) ?_
 refine St.p (r:=[i64 (fZ c.n hs w x),i64 (-1),u64 0,i64 0]) (aV _ _ _ _) ?_
 refine ay.q ?_
 exact bC.mk (.skip (.skip .tail)) rfl
def jH(op:Nat):Option Nat:=
 if op=23 then some 97 else if op=22 then some 96 else if op=21 then some 95 else if op=20 then some 94 else
 if op=19 then some 93 else if op=18 then some 92 else if op=17 then some 91 else if op=16 then some 90 else
 if op=15 then some 89 else if op=14 then some 88 else if op=13 then some 87 else if op=12 then some 86 else none
theorem Au:Fc Tryz.prog 44 #[] [] (fun v H=>∃b es ck m,v=.map (some b)∧H=[(b,.map es ck)]∧aE (kI .u8) (fun v (p:Nat)=>v=.func (.func p) #[] #[]) es ck m∧∀op:Nat,aJ m (op:Int)=jH op):=by
 refine aP fun g=>AS ?_
 intro b _
 have bc:∀{k:Int} {p:Nat} {es:Array MapEntry} {ck:Nat} {m:List (Int×Nat)} {Q:Hp→Prop},aE (kI .u8) (fun v (p:Nat)=>v=.func (.func p) #[] #[]) es ck m→(∀es' cg,aE (kI .u8) (fun v (p:Nat)=>v=.func (.func p) #[] #[]) es' cg (eR m k p)→Q [(b,.map es' cg)])→
   aY (.int .u8) [(b,.map es ck)] (.map (some b)) (kI .u8 k) (.func (.func p) #[] #[]) Q:=fun{k p es ck m Q} he hq=>
  aE.bc (cu _) (rB _) he rfl fun es' cg he'=>⟨_,.head _,hq es' cg he'⟩
 refine bc (k:=12) aE.empty fun _ _ h=>?_
 refine bc (k:=13) h fun _ _ h=>?_
 refine bc (k:=14) h fun _ _ h=>?_
 refine bc (k:=15) h fun _ _ h=>?_
 refine bc (k:=16) h fun _ _ h=>?_
 refine bc (k:=17) h fun _ _ h=>?_
 refine bc (k:=18) h fun _ _ h=>?_
 refine bc (k:=19) h fun _ _ h=>?_
 refine bc (k:=20) h fun _ _ h=>?_
 refine bc (k:=21) h fun _ _ h=>?_
 refine bc (k:=22) h fun _ _ h=>?_
 refine bc (k:=23) h fun _ _ h=>?_
 refine aZ.mk (.refl _) ⟨b,_,_,_,rfl,rfl,h,fun op=>?_⟩
 simp only[cH]
 have:∀j:Nat,((op:Int)=(j:Int))=(op=j):=fun j=>propext (by omega)
 have e:=this 12;have e2:=this 13;have e3:=this 14;have e4:=this 15;have e5:=this 16;have e6:=this 17;have e7:=this 18;have e8:=this 19;have e9:=this 20;have OX:=this 21;have Ly:=this 22;have SD:=this 23
 simp only[Int.cast_ofNat_Int]at*
 simp only[e,e2,e3,e4,e5,e6,e7,e8,e9,OX,Ly,SD]
 rfl
def Gs(v:Value):Prop:=∃(e h:Int) (n:Nat) (t:Int),v=c6 e h n t
set_option maxHeartbeats 1000000 in
theorem gp{C:Hp}{Q:Value→Hp→Prop}(hQ:∀v H,Q v H→Gs v)
 (h1:∀w f,fY x.op=some (w,f)→Fc Tryz.prog 43 #[ptr sp,x.v,.agg (yh (w,f)).toArray] C Q)
 (h2:∀f,fY x.op=none→jH x.op=some f→aS Tryz.prog f=true→Fc Tryz.prog f #[ptr sp,x.v] C Q)
 (h3:fY x.op=none→jH x.op=none→Q (c6 12 (-1) 0 0) C):Fc Tryz.prog 16 #[ptr sp,x.v] C Q:=by
 refine aP fun g=>AX ?_
 intro b1 _ b3 _
 refine aa.an (Br.no ?_)
 refine DR.of (R:=(b1,.cells x.cells.toArray 35 (0,0))::[]) (.skip (.cons fun _ _ h=>h.bu)) ?_
 refine Ld.f (v:=.int .u8 (x.op:Int)) ?_
 intro F
 refine ae.fn hnew zA ?_
 rintro w H ⟨bm,yJ,tw,m1,rfl,rfl,Ls,tY⟩
 refine⟨.skip (.skip (.cons fun _ _ h=>h.bu)),?_⟩
 refine⟨[(b1,.cells x.cells.toArray 35 (0,0)),(bm,.map yJ tw)],(aR.perm (List.Perm.swap _ _ _)).trans (.skip ?_),.cons (fun _ _ h=>h.bu),?_⟩
 ·exact(aR.perm (List.Perm.swap _ _ _)).trans (.cons (.cons fun _ _ h=>h.bu))
 refine Ls.look (k:=(x.op:Int)) (cu _) (by exact .tail _ (.head _)) (fun p v hp hv=>?_) (fun hp=>?_)
 ·subst hv
  obtain⟨w,f⟩:=p
  rw[tY]at hp
  refine Ext.two ?_
  intro ML _
  intro F
  refine St.p (r:=yh (w,f)) (fun u hu=>by simp only[yh,List.mem_cons,List.not_mem_nil,or_false]at hu;rcases hu with rfl|rfl<;>rfl) ?_
  refine⟨.skip ((aR.perm (List.Perm.swap _ _ _)).trans (.skip ((aR.perm (List.Perm.swap _ _ _)).trans (.cons (.cons fun _ _ h=>h.bu))))),?_⟩
  refine Br.yes ?_
  refine ay.q (r:=x.cells) ?_
  refine ay.q (r:=yh (w,f)) ?_
  refine ae.fq (h1 w f hp) ?_
  intro v H hv
  obtain⟨e,h,n,t,rfl⟩:=hQ v H hv
  refine St.p (r:=[i64 e,i64 h,u64 n,i64 t]) (aV _ _ _ _) ?_
  refine ay.q ?_
  exact aZ.mk (.skip (.skip (.skip .tail))) hv
 ·rw[tY]at hp
  refine Ext.two ?_
  intro ML _
  intro F
  refine St.p (r:=[.int .u8 0,.nilFunc]) (by simp[Value.oneCell']) ?_
  refine⟨.skip ((aR.perm (List.Perm.swap _ _ _)).trans (.skip ((aR.perm (List.Perm.swap _ _ _)).trans (.cons (.cons fun _ _ h=>h.bu))))),?_⟩
  refine Br.no ?_
  refine DR.of (R:=(b1,.cells x.cells.toArray 35 (0,0))::[]) (.skip (.skip (.skip (.cons fun _ _ h=>h.bu)))) ?_
  refine Ld.f (v:=.int .u8 (x.op:Int)) ?_
  intro F
  refine ae.fn hnew Au ?_
  rintro w H ⟨ba,ud,yP,m2,rfl,rfl,De,nu⟩
  refine⟨.skip (.skip (.skip (.skip (.cons fun _ _ h=>h.bu)))),?_⟩
  refine⟨[(b1,.cells x.cells.toArray 35 (0,0)),(ba,.map ud yP)],?_,.cons (fun _ _ h=>h.bu),?_⟩
  ·refine(aR.perm ((List.Perm.cons _ (List.Perm.cons _ (List.Perm.cons _ (List.Perm.swap _ _ _)))).trans ((List.Perm.cons _ (List.Perm.cons _ (List.Perm.swap _ _ _))).trans ((List.Perm.cons _ (List.Perm.swap _ _ _)).trans (List.Perm.swap _ _ _))))).trans ?_
   exact .cons ((aR.perm (List.Perm.swap _ _ _)).trans (.skip ((aR.perm (List.Perm.swap _ _ _)).trans (.skip ((aR.perm (List.Perm.swap _ _ _)).trans (.skip (.cons fun _ _ h=>h.bu)))))))
  refine De.look (k:=(x.op:Int)) (cu _) (by exact .tail _ (.head _)) (fun f v hf hv=>?_) (fun hf=>?_)
  ·subst hv
   rw[nu]at hf
   have fo:aS Tryz.prog f=true:=by
    unfold jH at hf
    repeat' split at hf
    all_goals first|(cases hf;kernel_rfl)|cases hf
   refine Ext.two (Br.yes ?_)
   refine ay.q (r:=x.cells) ?_
   refine bg.of rfl fo ?_
   refine ae.fq (args:=#[ptr sp,x.v]) (h2 f hp hf fo) ?_
   intro v H hv
   obtain⟨e,h,n,t,rfl⟩:=hQ v H hv
   refine St.p (r:=[i64 e,i64 h,u64 n,i64 t]) (aV _ _ _ _) ?_
   refine ay.q ?_
   exact aZ.mk (.skip (.skip (.skip (.skip .tail)))) hv
  ·rw[nu]at hf
   refine Ext.two (Br.no ?_)
   refine ae.eq (bJ _ _) ?_
   refine St.p (r:=[i64 12,i64 (-1),u64 0,i64 0]) (aV _ _ _ _) ?_
   refine ay.q ?_
   exact aZ.mk (.skip (.skip (.skip (.skip .tail)))) (h3 hp hf)
end
section
variable {sp kp mb nx:Nat} {c:Cf} {K:Kd} {S:Nat→av.Fn} {ord af tr:List Nat} {hs:List (Int×Nat)} {es:Array MapEntry} {ck:Nat} {C:Hp} {x:cA}
theorem Bw(h:fB kp nx c K S ord af tr hs es ck C)(hx:x.x<18446744073709551616):
  Rd Tryz.prog 88 #[ptr sp,x.v] (gS sp c kp mb nx es ck C) (· =if(aJ hs x.a).isSome then c6 0 (-1) (cZ S hs x.a x.x).toNat 0 else c6 3 (-1) 0 0):=by
 refine aP fun g=>AH ?_
 intro b1 _ b3 _
 refine Ld.f (v:=i64 x.a) ?_
 refine ae.eq (cW h x.a) ?_
 refine Un.not ?_
 cases hm:aJ hs x.a with
 |none=>
  refine Br.yes ?_
  refine ae.eq (bJ _ _) ?_
  refine St.p (r:=[i64 3,i64 (-1),u64 0,i64 0]) (aV _ _ _ _) ?_
  refine ay.q ?_
  exact bC.mk (.skip .tail) rfl
 |some r=>
  refine Br.no ?_
  have hl:=h.live _ (h.find hm)
  refine DR.of (.refl _) ?_
  refine Ld.n (v:=ptr kp) ?_
  refine Ld.n (v:=.map (some mb)) ?_
  refine Ld.f (v:=i64 x.a) ?_
  refine h.gg.hit (k:=x.a) (cu _) (b:=mb) (by exact .tail _ (.tail _ (.tail _ (.head _)))) hm fun v e=>?_
  subst e
  refine Ld.f (v:=u64 x.x) ?_
  intro F
  refine ae.eq (args:=#[ptr kp,u32 r,u64 x.x]) (DE h.ks hl hx) ?_
  refine⟨.refl _,?_⟩
  refine Ext.two ?_
  refine ae.eq (x8 _ _) ?_
  refine ae.eq (cB _ 0 _) ?_
  refine St.p (r:=[i64 0,i64 (-1),u64 (S r x.x).toNat,i64 0]) (aV _ _ _ _) ?_
  refine ay.q ?_
  exact bC.mk (.skip .tail) (by rw[cj hm];rfl)
theorem Bq(h:fB kp nx c K S ord af tr hs es ck C):
  Rd Tryz.prog 89 #[ptr sp,x.v] (gS sp c kp mb nx es ck C) (fun w=>w=if(aJ hs x.a).isSome&& (aJ hs x.b).isSome then c6 0 (-1) (@decide (cZ S hs x.a=cZ S hs x.b) (Classical.propDecidable _)).toNat 0 else c6 3 (-1) 0 0):=by
 refine aP fun g=>AG ?_
 intro b1 _ b3 _ J5 h5
 have no:((aJ hs x.a).isSome&& (aJ hs x.b).isSome)=false→J5 [.bool true] ((b3,.cells #[i64 0,i64 0,u64 0,i64 0] 37 (0,0))::(b1,.cells (Value.cells x.v) 35 (0,0))::gS sp c kp mb nx es ck C):=fun hb=>by
  refine h5 _ _ fun _=>Br.yes ?_
  refine ae.eq (bJ _ _) ?_
  refine St.p (r:=[i64 3,i64 (-1),u64 0,i64 0]) (aV _ _ _ _) ?_
  refine ay.q ?_
  exact bC.mk (.skip .tail) (by rw[hb];rfl)
 refine Ld.f (v:=i64 x.a) ?_
 refine ae.eq (cW h x.a) ?_
 refine Un.not ?_
 cases hm:aJ hs x.a with
 |none=>exact Split.EX rfl (aq.mk (JE.mk (no (by rw[hm];rfl))))
 |some r=>
 refine Split.go rfl ?_
 refine Ld.f (v:=i64 x.b) ?_
 refine ae.eq (cW h x.b) ?_
 refine Un.not (aq.mk ?_)
 cases nu:aJ hs x.b with
 |none=>exact JE.mk (no (by rw[nu];exact Bool.and_false _))
 |some q=>
 refine JE.mk (h5 _ _ fun _=>Br.no ?_)
 have hl:=h.live _ (h.find hm)
 have jC:=h.live _ (h.find nu)
 refine DR.of (.refl _) ?_
 refine Ld.n (v:=.map (some mb)) ?_
 refine Ld.f (v:=i64 x.a) ?_
 refine h.gg.hit (k:=x.a) (cu _) (b:=mb) (by exact .tail _ (.tail _ (.tail _ (.head _)))) hm fun v e=>?_
 subst e
 refine Ld.n (v:=.map (some mb)) ?_
 refine Ld.f (v:=i64 x.b) ?_
 refine h.gg.hit (k:=x.b) (cu _) (b:=mb) (by exact .tail _ (.tail _ (.tail _ (.head _)))) nu fun v e=>?_
 subst e
 refine aa.mI ?_
 have e:decide (r=q)= @decide (cZ S hs x.a=cZ S hs x.b) (Classical.propDecidable _):=by
  by_cases hq:r=q
  ·rw[decide_eq_true hq]
   exact(@decide_eq_true _ (Classical.propDecidable _) (by rw[cj hm,cj nu];exact(h.same hl jC).2 hq)).symm
  ·rw[decide_eq_false hq]
   exact(@decide_eq_false _ (Classical.propDecidable _) (by rw[cj hm,cj nu];exact fun e=>hq ((h.same hl jC).1 e))).symm
 rw[e]
 intro F
 refine ae.eq (x8 _ _) ?_
 intro F
 refine ae.eq (cB _ 0 _) ?_
 intro F
 refine St.p (r:=[i64 0,i64 (-1),u64 _,i64 0]) (aV _ _ _ _) ?_
 refine ay.q ?_
 exact bC.mk (.skip .tail) (by rw[hm,nu];rfl)
theorem Bs(h:fB kp nx c K S ord af tr hs es ck C):
  Rd Tryz.prog 92 #[ptr sp,x.v] (gS sp c kp mb nx es ck C) (· =c6 0 (-1) (fy K S ord) 0):=by
 have hle:=ia h.ks.aH
 refine aP fun g=>AD ?_
 intro b1 _ b3 _
 refine Ld.n (v:=ptr kp) ?_
 refine ae.eq (ic h.ks.aH) ?_
 refine bB.q ?_
 refine ae.eq (cB _ 0 _) ?_
 refine St.p (r:=[i64 0,i64 (-1),u64 (fy K S ord),i64 0]) (aV _ _ _ _) ?_
 refine ay.q ?_
 exact bC.mk (.skip .tail) rfl
theorem zg(h:fB kp nx c K S ord af tr hs es ck C)(hv:x.a<0∨(c.n:Int)≤x.a):
  Rd Tryz.prog 95 #[ptr sp,x.v] (gS sp c kp mb nx es ck C) (· =c6 2 (-1) 0 0):=by
 refine aP fun g=>qH ?_
 intro b1 _ b3 _
 refine DR.of (.refl _) ?_
 refine Ld.n (v:=ptr kp) ?_
 refine Ld.f (v:=i64 x.a) ?_
 intro F
 refine ae.eq (args:=#[ptr kp,i64 x.a]) (tE h.ks.aH (by rw[h.n];exact hv)) ?_
 refine⟨.refl _,Ext.two ?_⟩
 refine bB.q (a:=0) ?_
 refine ae.eq (cB 0 2 _) ?_
 refine St.p (r:=[i64 2,i64 (-1),u64 0,i64 0]) (aV _ _ _ _) ?_
 refine ay.q ?_
 exact bC.mk (.skip .tail) rfl
theorem zh(h:fB kp nx c K S ord af tr hs es ck C){v:Nat}(hx:x.a=v)(hv:v<c.n):
  Rd Tryz.prog 95 #[ptr sp,x.v] (gS sp c kp mb nx es ck C) (fun w=>∃p,p<c.n∧ord.getD p 0=v∧w=c6 0 (-1) p 0):=by
 have hn:=h.ks.aH.mV
 refine aP fun g=>qH ?_
 intro b1 _ b3 _
 refine DR.of (.refl _) ?_
 refine Ld.n (v:=ptr kp) ?_
 refine Ld.f (v:=i64 x.a) ?_
 rw[hx]
 intro F
 refine ae.rq (args:=#[ptr kp,i64 (v:Int)]) (tF h.ks.aH (by rw[h.n];exact hv)) ?_
 rintro w ⟨p,hp,hop,rfl⟩
 refine⟨.refl _,Ext.two ?_⟩
 refine bB.q ?_
 refine ae.eq (cB p 0 _) ?_
 refine St.p (r:=[i64 0,i64 (-1),u64 p,i64 0]) (aV _ _ _ _) ?_
 refine ay.q ?_
 exact bC.mk (.skip .tail) ⟨p,by rw[←h.n];exact hp,hop,rfl⟩
theorem Bp(h:fB kp nx c K S ord af tr hs es ck C){P:Nat→Int→Prop}(C7:∀r,aJ hs x.a=some r→Rd Tryz.prog 146 #[ptr kp,u32 r] C (fun v=>∃n e,P n e∧v=.tuple #[u64 n,i64 e])):
  Rd Tryz.prog 90 #[ptr sp,x.v] (gS sp c kp mb nx es ck C) (fun v=>((aJ hs x.a).isSome=false∧v=c6 3 (-1) 0 0)∨((aJ hs x.a).isSome=true∧∃n e,P n e∧v=if e=0 then c6 0 (-1) n 0 else c6 e (-1) 0 0)):=by
 refine aP fun g=>AE ?_
 intro b1 _ b3 _
 refine Ld.f (v:=i64 x.a) ?_
 refine ae.eq (cW h x.a) ?_
 refine Un.not ?_
 cases hm:aJ hs x.a with
 |none=>
  refine Br.yes ?_
  refine ae.eq (bJ _ _) ?_
  refine St.p (r:=[i64 3,i64 (-1),u64 0,i64 0]) (aV _ _ _ _) ?_
  refine ay.q ?_
  exact bC.mk (.skip .tail) (.inl ⟨rfl,rfl⟩)
 |some r=>
  refine Br.no ?_
  refine DR.of (.refl _) ?_
  refine Ld.n (v:=ptr kp) ?_
  refine Ld.n (v:=.map (some mb)) ?_
  refine Ld.f (v:=i64 x.a) ?_
  refine h.gg.hit (k:=x.a) (cu _) (b:=mb) (by exact .tail _ (.tail _ (.tail _ (.head _)))) hm fun v e=>?_
  subst e
  intro F
  refine ae.rq (args:=#[ptr kp,u32 r]) (C7 r hm) ?_
  rintro w ⟨n,e,hP,rfl⟩
  refine⟨.refl _,?_⟩
  refine Ext.two ?_
  intro F
  refine ae.eq (cB n e _) ?_
  intro F
  by_cases he:e=0
  ·rw[if_pos he]
   refine St.p (r:=[i64 0,i64 (-1),u64 n,i64 0]) (aV _ _ _ _) ?_
   refine ay.q ?_
   exact bC.mk (.skip .tail) (.inr ⟨rfl,n,e,hP,by rw[if_pos he]⟩)
  ·rw[if_neg he]
   refine St.p (r:=[i64 e,i64 (-1),u64 0,i64 0]) (aV _ _ _ _) ?_
   refine ay.q ?_
   exact bC.mk (.skip .tail) (.inr ⟨rfl,n,e,hP,by rw[if_neg he]⟩)
theorem zi(h:fB kp nx c K S ord af tr hs es ck C){P:Nat→Int→Prop}(C7:∀r,aJ hs x.a=some r→Rd Tryz.prog 148 #[ptr kp,u32 r] C (fun v=>∃n e,P n e∧v=.tuple #[u64 n,i64 e])):
  Rd Tryz.prog 93 #[ptr sp,x.v] (gS sp c kp mb nx es ck C) (fun v=>((aJ hs x.a).isSome=false∧v=c6 3 (-1) 0 0)∨((aJ hs x.a).isSome=true∧∃n e,P n e∧v=if e=0 then c6 0 (-1) n 0 else c6 e (-1) 0 0)):=by
 refine aP fun g=>AB ?_
 intro b1 _ b3 _
 refine Ld.f (v:=i64 x.a) ?_
 refine ae.eq (cW h x.a) ?_
 refine Un.not ?_
 cases hm:aJ hs x.a with
 |none=>
  refine Br.yes ?_
  refine ae.eq (bJ _ _) ?_
  refine St.p (r:=[i64 3,i64 (-1),u64 0,i64 0]) (aV _ _ _ _) ?_
  refine ay.q ?_
  exact bC.mk (.skip .tail) (.inl ⟨rfl,rfl⟩)
 |some r=>
  refine Br.no ?_
  refine DR.of (.refl _) ?_
  refine Ld.n (v:=ptr kp) ?_
  refine Ld.n (v:=.map (some mb)) ?_
  refine Ld.f (v:=i64 x.a) ?_
  refine h.gg.hit (k:=x.a) (cu _) (b:=mb) (by exact .tail _ (.tail _ (.tail _ (.head _)))) hm fun v e=>?_
  subst e
  intro F
  refine ae.rq (args:=#[ptr kp,u32 r]) (C7 r hm) ?_
  rintro w ⟨n,e,hP,rfl⟩
  refine⟨.refl _,?_⟩
  refine Ext.two ?_
  intro F
  refine ae.eq (cB n e _) ?_
  intro F
  by_cases he:e=0
  ·rw[if_pos he]
   refine St.p (r:=[i64 0,i64 (-1),u64 n,i64 0]) (aV _ _ _ _) ?_
   refine ay.q ?_
   exact bC.mk (.skip .tail) (.inr ⟨rfl,n,e,hP,by rw[if_pos he]⟩)
  ·rw[if_neg he]
   refine St.p (r:=[i64 e,i64 (-1),u64 0,i64 0]) (aV _ _ _ _) ?_
   refine ay.q ?_
   exact bC.mk (.skip .tail) (.inr ⟨rfl,n,e,hP,by rw[if_neg he]⟩)
theorem sj(h:fB kp nx c K S ord af tr hs es ck C){P:Nat→Int→Prop}(C7:∀r,aJ hs x.a=some r→Rd Tryz.prog 149 #[ptr kp,u32 r] C (fun v=>∃n e,P n e∧v=.tuple #[u64 n,i64 e])):
  Rd Tryz.prog 94 #[ptr sp,x.v] (gS sp c kp mb nx es ck C) (fun v=>((aJ hs x.a).isSome=false∧v=c6 3 (-1) 0 0)∨((aJ hs x.a).isSome=true∧∃n e,P n e∧v=if e=0 then c6 0 (-1) n 0 else c6 e (-1) 0 0)):=by
 refine aP fun g=>AA ?_
 intro b1 _ b3 _
 refine Ld.f (v:=i64 x.a) ?_
 refine ae.eq (cW h x.a) ?_
 refine Un.not ?_
 cases hm:aJ hs x.a with
 |none=>
  refine Br.yes ?_
  refine ae.eq (bJ _ _) ?_
  refine St.p (r:=[i64 3,i64 (-1),u64 0,i64 0]) (aV _ _ _ _) ?_
  refine ay.q ?_
  exact bC.mk (.skip .tail) (.inl ⟨rfl,rfl⟩)
 |some r=>
  refine Br.no ?_
  refine DR.of (.refl _) ?_
  refine Ld.n (v:=ptr kp) ?_
  refine Ld.n (v:=.map (some mb)) ?_
  refine Ld.f (v:=i64 x.a) ?_
  refine h.gg.hit (k:=x.a) (cu _) (b:=mb) (by exact .tail _ (.tail _ (.tail _ (.head _)))) hm fun v e=>?_
  subst e
  intro F
  refine ae.rq (args:=#[ptr kp,u32 r]) (C7 r hm) ?_
  rintro w ⟨n,e,hP,rfl⟩
  refine⟨.refl _,?_⟩
  refine Ext.two ?_
  intro F
  refine ae.eq (cB n e _) ?_
  intro F
  by_cases he:e=0
  ·rw[if_pos he]
   refine St.p (r:=[i64 0,i64 (-1),u64 n,i64 0]) (aV _ _ _ _) ?_
   refine ay.q ?_
   exact bC.mk (.skip .tail) (.inr ⟨rfl,n,e,hP,by rw[if_pos he]⟩)
  ·rw[if_neg he]
   refine St.p (r:=[i64 e,i64 (-1),u64 0,i64 0]) (aV _ _ _ _) ?_
   refine ay.q ?_
   exact bC.mk (.skip .tail) (.inr ⟨rfl,n,e,hP,by rw[if_neg he]⟩)
end
structure Rp where
 e:Int
 h:Int
 n:Nat
 t:Int
def Rp.cells(r:Rp):List Value:=[i64 r.e,i64 r.h,u64 r.n,i64 r.t]
abbrev Rp.v(r:Rp):Value:=.agg r.cells.toArray
def Rp.eq(a b:Rp):Bool:=decide (a.e=b.e) && (decide (a.h=b.h) && (decide (a.n=b.n) &&decide (a.t=b.t)))
theorem Rp.eq_iff{a b:Rp}:Rp.eq a b=true↔a=b:=by
 obtain⟨a1,a2,a3,a4⟩:=a
 obtain⟨b1,b2,b3,b4⟩:=b
 simp[Rp.eq]
theorem Rp.one(r:Rp):∀u∈r.cells,u.oneCell'=true:=aV _ _ _ _
theorem Dn:(Tryz.prog.fieldsOf 37).toList.map (fun f=>(f.name,f.type,f.offset))=[("E",27,0),("H",3,1),("N",33,2),("Tries",3,3)]:=by kernel_rfl
theorem EG:Tryz.prog.underlying 3=some (.int .i64):=by kernel_rfl
theorem EI:Tryz.prog.underlying 27=some (.int .i64):=by kernel_rfl
theorem EA:Tryz.prog.underlying 33=some (.int .u64):=by kernel_rfl
theorem M4{g:Gh}{H:Hp}{o:Oper}{ρ:Operand→Value}{k:Value→Prop}{neq:Bool}{x y:Operand}{a b:Rp}(ho:o.op=.binOp (cond neq .neq .eql) 37 x y 37)(hx:ρ x=a.v)(hy:ρ y=b.v)
 (hk:k (.bool (cond neq (!Rp.eq a b) (Rp.eq a b)))):fx Tryz.prog g o ρ H k:=by
 refine fx.struct (neq:=neq) ho hx hy (by kernel_rfl) (by kernel_rfl) (by kernel_rfl) (b:=Rp.eq a b) ?_ hk
 intro w
 have h:=Dn
 generalize (Tryz.prog.fieldsOf 37).toList=fs at h
 rcases fs with _|⟨f1,_|⟨f2,_|⟨f3,_|⟨f4,_|⟨f5,fs⟩⟩⟩⟩⟩<;>simp only[List.map_cons,List.map_nil,List.cons.injEq,Prod.mk.injEq,and_true,reduceCtorEq,and_false]at h
 obtain⟨⟨n1,t1,o1⟩,⟨n2,t2,o2⟩,⟨n3,t3,o3⟩,n4,t4,o4⟩:=h
 have p1:∀(r:Rp) w,(part 27 r.cells.toArray 0).run Tryz.prog w=.ok (i64 r.e) w:=fun r w=>run_part_plain (w:=w) (by kernel_rfl) rfl
 have p2:∀(r:Rp) w,(part 3 r.cells.toArray 1).run Tryz.prog w=.ok (i64 r.h) w:=fun r w=>run_part_plain (w:=w) (by kernel_rfl) rfl
 have p3:∀(r:Rp) w,(part 33 r.cells.toArray 2).run Tryz.prog w=.ok (u64 r.n) w:=fun r w=>run_part_plain (w:=w) (by kernel_rfl) rfl
 have p4:∀(r:Rp) w,(part 3 r.cells.toArray 3).run Tryz.prog w=.ok (i64 r.t) w:=fun r w=>run_part_plain (w:=w) (by kernel_rfl) rfl
 have dq:∀x y:Int,(x==y)=decide (x=y):=fun x y=>by rw[Bool.eq_iff_iff];simp
 have q1:∀(x y:Int) w,(Op.equalIn 9999 27 (i64 x) (i64 y)).run Tryz.prog w=.ok (decide (x=y)) w:=fun x y w=>by
  rw[run_equalIn_int w 9998 27 .i64 _ _ _ EI,dq]
 have q2:∀(x y:Int) w,(Op.equalIn 9999 3 (i64 x) (i64 y)).run Tryz.prog w=.ok (decide (x=y)) w:=fun x y w=>by
  rw[run_equalIn_int w 9998 3 .i64 _ _ _ EG,dq]
 have q3:∀(x y:Nat) w,(Op.equalIn 9999 33 (u64 x) (u64 y)).run Tryz.prog w=.ok (decide (x=y)) w:=fun x y w=>by
  rw[run_equalIn_int w 9998 33 .u64 _ _ _ EA,dq]
  congr 1
  exact decide_eq_decide.2 Int.ofNat_inj
 show(Op.eqFields 9999 a.cells.toArray b.cells.toArray [f1,f2,f3,f4]).run Tryz.prog w=_
 simp only[Op.eqFields,n1,n2,n3,n4,t1,t2,t3,t4,o1,o2,o3,o4,Sem.run_bind,p1,p2,p3,p4,q1,q2,q3,Result.andThen_ok,Sem.run_ite,Sem.run_pure]
 unfold Rp.eq
 by_cases h1:a.e=b.e<;>by_cases h2:a.h=b.h<;>by_cases h3:a.n=b.n<;>by_cases h4:a.t=b.t<;>simp[h1,h2,h3,h4]
def kY:List Rp→List Rp→Bool
 | [],[]=>true
 |a::l,b::r=>Rp.eq a b&&kY l r
 |_,_=>false
theorem er:∀{l r:List Rp},kY l r=true↔l=r
 | [],[]=>by simp[kY]
 | [],_::_=>by simp[kY]
 |_::_,[]=>by simp[kY]
 |a::l,b::r=>by simp[kY,Rp.eq_iff,er]
theorem mu{B:Hp}{va vb:Value}{l r:List Rp}(hl:Sl 4 B va (l.map Rp.cells))(hr:Sl 4 B vb (r.map Rp.cells))(cc:l.length<9223372036854775807):Rd Tryz.prog 17 #[va,vb] B (· =.bool (kY l r)):=by
 refine aP fun g=>AW ?_
 refine hl.cP ?_
 refine hr.cP ?_
 rw[List.length_map,List.length_map]
 refine aa.Jm ?_
 refine Br.dec (fun hne=>?_) (fun heq=>?_)
 ·refine bC.mk (.refl _) ?_
  cases he:kY l r
  ·rfl
  ·rw[er.1 he]at hne;exact absurd rfl hne
 have heq:l.length=r.length:=by simpa using heq
 refine⟨fun vs H=>∃i:Nat,vs=[i64 (i:Int)]∧i≤l.length∧H=B∧l.take i=r.take i,fun vs _=>l.length-ca vs 0,JE.mk ⟨0,rfl,Nat.zero_le _,rfl,rfl⟩,?_⟩
 rintro w H ⟨i,⟨⟩,hi,rfl,he⟩ gs
 refine hl.cP ?_
 rw[List.length_map]
 refine aa.iC (Br.dec (fun hlt=>?_) (fun hge=>?_))
 ·have hlr:i<r.length:=by omega
  refine ai.sl hl (i:=i) (r:=l[i].cells) (by rw[List.getElem?_map,List.getElem?_eq_getElem hlt];rfl) fun p hp=>?_
  refine ay.at hp rfl (by decide) (fun _ h=>h) ?_
  refine ai.sl hr (i:=i) (r:=r[i].cells) (by rw[List.getElem?_map,List.getElem?_eq_getElem hlr];rfl) fun p hp=>?_
  refine ay.at hp rfl (by decide) (fun _ h=>h) ?_
  refine M4 (neq:=true) (x:=.tmp 20) (y:=.tmp 24) (a:=l[i]) (b:=r[i]) (by kernel_rfl) rfl rfl ?_
  simp only[cond_true]
  refine Br.mk (fun hb=>?_) (fun hb=>?_)
  ·refine bC.mk (.refl _) ?_
   cases Jy:kY l r
   ·rfl
   ·have h2:=er.1 Jy
    have:Rp.eq l[i] r[i]=true:=Rp.eq_iff.2 (by subst h2;rfl)
    rw[this]at hb;cases hb
  ·have h2:l[i]=r[i]:=Rp.eq_iff.1 (by simpa using hb)
   refine aa.inc ?_
   refine aB.of (.refl _) ⟨i+1,rfl,hlt,rfl,?_⟩ (by simp only[ca];omega)
   rw[List.take_add_one,List.take_add_one,he,List.getElem?_eq_getElem hlt,List.getElem?_eq_getElem hlr,h2]
 ·refine bC.mk (.refl _) ?_
  have h2:l=r:=by rwa [List.take_of_length_le (by omega),List.take_of_length_le (by omega)]at he
  rw[er.2 h2]
theorem BM(n:Nat)(B:Hp):Rd Tryz.prog 18 #[i64 (n:Int)] B (· =.agg (nh.cells ⟨n,1048576,0,100,0⟩).toArray):=by
 refine aP fun g=>AV ?_
 intro b1 _
 refine Build.mk (cs:=nh.cells ⟨n,1048576,0,100,0⟩) (by kernel_rfl) ?_
 refine St.p (nh.one _) ?_
 refine ay.q (r:=nh.cells ⟨n,1048576,0,100,0⟩) ?_
 exact bC.mk .tail rfl
theorem Cf.Ok.dY{d:Cf}(h:d.Ok):dY d.i=0:=by
 obtain⟨h1,h2,h3,h4,h5,h6⟩:=h
 have a1:dU d.i=false:=by
  show(decide (6<d.str)||decide ((d.gr:Int)<100)||decide (1000<(d.gr:Int))||decide ((d.rs:Int)<0)||decide (16<(d.rs:Int)))=false
  simp only[Bool.or_eq_false_iff,decide_eq_false_iff_not];omega
 have a2:eO d.i=false:=by
  show decide ((d.n:Int)<1∨64<(d.n:Int)∨(d.cap:Int)<2∨1048576<(d.cap:Int))=false
  rw[decide_eq_false_iff_not];omega
 have a3:¬(d.i.str=6∧12<d.i.n):=by
  show¬(d.str=6∧12<(d.n:Int))
  omega
 unfold Proofs.dY
 rw[a1,a2,if_neg (by decide),if_neg (by decide),if_neg a3]
theorem q5{c:nh}{steps:List cA}{sv:Value}{Y:Hp}(hs:Sl 5 Y sv (steps.map cA.cells))(cc:steps.length<4398046511104)(I:Nat→Nat→List Rp→Hp→Prop)
 (h0:∀d:Cf,c=d.i→d.Ok→∀(sp kp mb:Nat) (C:Hp),cv kp (K0 d.n d.cap) S0 (List.range d.n) (List.range d.n) [] C→I 0 sp [] (gS sp d kp mb 0 #[] 0 C))
 (hstep:∀(i sp:Nat) (l:List Rp) (H:Hp) (x:cA),dY c=0→steps[i]? =some x→I i sp l H→l.length=i→Fc Tryz.prog 16 #[ptr sp,x.v] H (fun v H'=>∃r:Rp,v=r.v∧I (i+1) sp (l++[r]) H')):
  Fc Tryz.prog 15 #[.agg c.cells.toArray,sv] Y (fun w H=>(dY c≠0∧w=.tuple #[.slice none 0 0,i64 (dY c)]∧H=Y)∨
   (dY c=0∧∃(sp:Nat) (l:List Rp) (s:Value) (CR HS:Hp),w=.tuple #[s,i64 0]∧H=CR++Y∧aI 37 4 s (l.map Rp.cells) CR∧l.length=steps.length∧I steps.length sp l HS)):=by
 refine aP fun g=>AY ?_
 intro b1 _
 refine ay.q (r:=c.cells) ?_
 refine ae.fn hnew (sn c (Q:=fun v H=>(dY c≠0∧v=.tuple #[.pointer none,i64 (dY c)]∧H=[])∨(dY c=0∧∃sp,v=.tuple #[ptr sp,i64 0]∧I 0 sp [] H)) (fun h=>.inl ⟨h,rfl,rfl⟩) (fun d hd hok sp kp mb C hK=>.inr ⟨?_,sp,rfl,h0 d hd hok sp kp mb C hK⟩)) ?_
 ·subst hd
  exact hok.dY
 rintro w H (⟨hne,rfl,rfl⟩|⟨he,sp,rfl,hI⟩)
 ·refine Ext.two ?_
  refine aa.eP (Br.T ?_ hne)
  exact aZ.mk (.tail) (.inl ⟨hne,rfl,rfl⟩)
 refine Ext.two ?_
 refine aa.eP (Br.F ?_)
 refine hs.cP ?_
 rw[List.length_map]
 refine⟨fun vs H'=>∃(i:Nat) (s:Value) (l:List Rp) (CR HS:Hp),vs=[s,i64 (i:Int)]∧i≤steps.length∧l.length=i∧H'=CR++(HS++((b1,.cells (Value.cells (.agg c.cells.toArray)) 23 (0,0))::Y))∧aI 37 4 s (l.map Rp.cells) CR∧I i sp l HS,
  fun vs _=>steps.length-ca vs 1,JE.mk ⟨0,_,[],[],H,rfl,Nat.zero_le _,rfl,rfl,aI.nil _ _,hI⟩,?_⟩
 rintro w1 w2 H' ⟨i,s,l,CR,HS,⟨⟩,hi,hl,rfl,hR,hI⟩ gs
 refine aa.iC (Br.dec (fun hlt=>?_) (fun hge=>?_))
 ·refine ai.sl hs (i:=i) (r:=steps[i].cells) (by rw[List.getElem?_map,List.getElem?_eq_getElem hlt];rfl) fun p hp=>?_
  refine ay.at hp rfl (by decide) (fun _ h=>List.mem_append_right _ (List.mem_append_right _ (.tail _ h))) ?_
  intro Qr _
  refine St.p (r:=steps[i].cells) (cA.one _) ?_
  refine ay.q (r:=steps[i].cells) ?_
  refine ae.fn (.cons (.app .left)) (hstep i sp l HS steps[i] he (List.getElem?_eq_getElem hlt) hI hl) ?_
  rintro v Tf ⟨r,rfl,Sa⟩
  refine ak.one (z:=.agg #[i64 0,i64 0,u64 0,i64 0]) (e:=37) (k:=4) (r:=r.cells) (by kernel_rfl) (by kernel_rfl) (by kernel_rfl) (by decide) rfl fun bx=>?_
  refine aI.pK (r:=r.cells) hR (.cons (.cons .left)) (by exact .head _) rfl (Rp.one r) ⟨[i64 0,i64 0,u64 0,i64 0],rfl,rfl⟩ (by rw[List.length_map];omega) (by rw[List.length_map];omega) fun v' Pb IQ=>?_
  refine aa.inc ?_
  refine aB.of (.skip .tail) ⟨i+1,v',l++[r],Pb,Tf,rfl,hlt,by rw[List.length_append,hl];rfl,rfl,by rw[List.map_append];exact IQ,Sa⟩ (by simp only[ca];omega)
 ·obtain rfl:i=steps.length:=by omega
  exact aZ.mk (aR.dx (aR.right.trans .tail) CR) (.inr ⟨he,sp,l,w1,CR,HS,rfl,rfl,hR,hl,hI⟩)
abbrev FS:=List (Int×av.Fn)
def ie(S:Nat→av.Fn)(hs:List (Int×Nat)):FS:=hs.map fun p=>(p.1,S p.2)
def fF(F:FS)(a:Int):av.Fn:=match aJ F a with|some f=>f|none=>fun _=>false
def gk(F:FS):List av.Fn:=F.map Prod.snd
def iV(F:FS)(a:Int):Bool:=(aJ F a).isSome
theorem n9{S:Nat→av.Fn}{a:Int}:∀hs:List (Int×Nat),aJ (ie S hs) a=(aJ hs a).map S
  | []=>rfl
  |p::hs=>by
    have ih:=n9 (S:=S) (a:=a) hs
    unfold aJ ie at*
    rw[List.map_cons,List.find?_cons,List.find?_cons]
    by_cases e:p.1=a
    · simp[e]
    · simp only[e,decide_false]
      exact ih
theorem iX{S:Nat→av.Fn}{hs:List (Int×Nat)}:fF (ie S hs)=cZ S hs:=funext fun a=>by
  unfold fF cZ
  rw[n9]
  cases aJ hs a<;>rfl
theorem lK{S:Nat→av.Fn}{hs:List (Int×Nat)}:gk (ie S hs)=fL S hs:=by
  unfold gk ie fL
  rw[List.map_map];rfl
theorem cS{S:Nat→av.Fn}{hs:List (Int×Nat)}(a:Int):iV (ie S hs) a=(aJ hs a).isSome:=by
  unfold iV
  rw[n9]
  cases aJ hs a<;>rfl
theorem jI{S S':Nat→av.Fn}{hs:List (Int×Nat)}(h:∀p∈hs,S' p.2=S p.2):ie S' hs=ie S hs:=List.map_congr_left fun p hp=>by rw[h p hp]
def mX(n:Nat)(F:FS)(w:Nat)(x:cA):Int:=
  if(u6 w x||Ar w x)=true then 1 else if(ux n w x||uw n w x||E3 n w x)=true then 2 else
  if((decide (w&&&1≠0) && !iV F x.a)||(decide (w&&&2≠0) && !iV F x.b)||(decide (w&&&4≠0) && !iV F x.c))=true then 3 else 0
theorem qe{S:Nat→av.Fn}{hs:List (Int×Nat)}{n w:Nat}{x:cA}:mX n (ie S hs) w x=fZ n hs w x:=by
  unfold mX fZ oM oL qy
  rw[cS,cS,cS]
noncomputable def r0(n:Nat)(F:FS)(ord:List Nat):Nat:=sz n ord (HF (gk F))
def eo(sp:Nat)(c:Cf)(nx:Nat)(F:FS)(ord tr:List Nat)(H:Hp):Prop:=
  ∃(kp mb:Nat) (K:Kd) (S:Nat→av.Fn) (af:List Nat) (hs:List (Int×Nat)) (es:Array MapEntry) (ck:Nat) (C:Hp),H=gS sp c kp mb nx es ck C∧fB kp nx c K S ord af tr hs es ck C∧ie S hs=F
section
variable {sp nx:Nat} {c:Cf} {F:FS} {ord tr:List Nat} {H:Hp} {x:cA}
theorem fB.r0{kp:Nat}{K:Kd}{S:Nat→av.Fn}{af:List Nat}{hs:List (Int×Nat)}{es:Array MapEntry}{ck:Nat}{C:Hp}(h:fB kp nx c K S ord af tr hs es ck C)(o:List Nat):fy K S o=Proofs.r0 c.n (ie S hs) o:=by
  unfold fy Proofs.r0
  rw[h.held,lK,h.n]
theorem rC{d:Cf}{kp mb:Nat}{C:Hp}(hK:cv kp (K0 d.n d.cap) S0 (List.range d.n) (List.range d.n) [] C):eo sp d 0 [] (List.range d.n) [] (gS sp d kp mb 0 #[] 0 C):=
  ⟨kp,mb,_,_,_,[],_,_,C,rfl,⟨hK,rfl,rfl,aE.empty,by simp,fun r=>by
    show([]:List Nat).getD r 0=_
    simp,by simp⟩,rfl⟩
theorem eo.perm(h:eo sp c nx F ord tr H):ord.Perm (List.range c.n):=by
  obtain⟨kp,mb,K,S,af,hs,es,ck,C,rfl,h,rfl⟩:=h
  rw[←h.n];exact h.ks.perm
def Hv(sp:Nat)(c:Cf)(nx:Nat)(F:FS)(ord tr:List Nat)(x:cA)(R:List Nat→List Nat→Prop)(v:Value)(H:Hp):Prop:=
  ∃(t:Nat) (o ef:List Nat),t≤c.rs+1∧qD (rX c.n c.cap (gk F) (fF F) x) R ord t o∧
    ((v=c6 0 nx 0 t∧eo sp c (nx+1) (F++[((nx:Int),fU c.n (fF F) x)]) o [] H∧rX c.n c.cap (gk F) (fF F) x o 0)∨
     (∃e:Nat,(e=8∨e=9)∧v=c6 e (-1) 0 t∧eo sp c nx F o ef H∧rX c.n c.cap (gk F) (fF F) x o e∧(e=9→t=c.rs+1)∧ef.length+8192*r0 c.n F o≤tr.length+8192*r0 c.n F ord))
theorem l5(hx:x.op=1):ni 72 x.op 8∧aS Tryz.prog 72=true:=by
  rw[hx];exact⟨fh,by kernel_rfl⟩
theorem tB(hx:x.op=4):ni 75 x.op 3∧aS Tryz.prog 75=true:=by
  rw[hx];exact⟨x9,by kernel_rfl⟩
def DY(c:Cf)(nx:Nat)(F:FS)(T:List Nat→Nat→Prop)(R:List Nat→List Nat→Prop)(b:Nat):Prop:=
  ∀{kp:Nat} {K:Kd} {S:Nat→av.Fn} {o af tr:List Nat} {hs:List (Int×Nat)} {es:Array MapEntry} {ck:Nat} {C:Hp},T o 9→fB kp nx c K S o af tr hs es ck C→ie S hs=F→tr.length≤b→
    Fc Tryz.prog 85 #[ptr kp,.int .u8 (c.str:Int),i64 c.gr] C (fun v H=>∃ls a b,v=.tuple #[a,b]∧R o ls∧At kp K S (aK o ls) (tr++ls) H∧ls.length+8192*fy K S (aK o ls)≤8192*fy K S o)
theorem rj{w f:Nat}{R:List Nat→List Nat→Prop}(h:eo sp c nx F ord tr H)(hc:c.Ok)(zO:nx+1<9223372036854775808)(hx:x.x<18446744073709551616)(hf:ni f x.op w)(fo:aS Tryz.prog f=true)(hw:w<256)(hl:mX c.n F w x=0)
   (hrun:DY c nx F (rX c.n c.cap (gk F) (fF F) x) R (tr.length+8192*r0 c.n F ord)):
    Fc Tryz.prog 43 #[ptr sp,x.v,.agg (yh (w,f)).toArray] H (Hv sp c nx F ord tr x R):=by
  obtain⟨kp,mb,K,S,af,hs,es,ck,C,rfl,h,rfl⟩:=h
  rw[qe]at hl
  rw[iX,lK,←h.r0]at hrun
  refine(E8 fo h hc zO hw hx hl (fn:=fU c.n (cZ S hs) x) (T:=rX c.n c.cap (fL S hs) (cZ S hs) x) (R:=R) (fun{K' S' o bR ef C'} h' hS=>?_) (fun{K' S' o bR ef C'} hT h' hS hb=>?_)).mono ?_
  · have:=hf (sp:=sp) (mb:=mb) h' rfl hx hl
    rwa [Ga hS,Ac h.gg.nd hS]at this
  · exact hrun hT h' (jI hS) hb
  · rintro v H ⟨t,o,bR,ef,K',S',es',cg,C',ht,hT,hS,hq⟩
    unfold Hv
    have ez:r0 c.n (ie S hs)=fy K S:=funext fun o=>(h.r0 o).symm
    rw[iX,lK,ez]
    refine⟨t,o,ef,ht,hT,?_⟩
    rcases hq with⟨r,rfl,rfl,h',hr,h0,rfl⟩|⟨e,he,rfl,rfl,h',z7,h9,hb⟩
    · refine .inl ⟨rfl,⟨kp,mb,K',S',bR,_,es',cg,C',rfl,h',?_⟩,h0⟩
      rw[←jI hS]
      unfold ie
      rw[List.map_append,←hr];rfl
    · exact .inr ⟨e,he,rfl,⟨kp,mb,K',S',bR,_,es',cg,C',rfl,h',jI hS⟩,z7,h9,hb⟩
theorem uA{w f:Nat}(h:eo sp c nx F ord tr H)(hx:x.x<18446744073709551616)(hw:w<256)(hl:mX c.n F w x≠0):
    Rd Tryz.prog 43 #[ptr sp,x.v,.agg (yh (w,f)).toArray] H (· =c6 (mX c.n F w x) (-1) 0 0):=by
  obtain⟨kp,mb,K,S,af,hs,es,ck,C,rfl,h,rfl⟩:=h
  rw[qe]at hl⊢
  exact E9 h hw hx hl
theorem Gc(h:eo sp c nx F ord tr H)(hx:x.x<18446744073709551616):Rd Tryz.prog 88 #[ptr sp,x.v] H (· =if iV F x.a then c6 0 (-1) (fF F x.a x.x).toNat 0 else c6 3 (-1) 0 0):=by
  obtain⟨kp,mb,K,S,af,hs,es,ck,C,rfl,h,rfl⟩:=h
  rw[cS,iX]
  exact Bw h hx
theorem EK(h:eo sp c nx F ord tr H):Rd Tryz.prog 90 #[ptr sp,x.v] H (· =if iV F x.a then c6 0 (-1) (sat c.n (fF F x.a)%r3) 0 else c6 3 (-1) 0 0):=by
  obtain⟨kp,mb,K,S,af,hs,es,ck,C,rfl,h,rfl⟩:=h
  rw[cS,iX]
  refine(Bp h (x:=x) (P:=fun n e=>e=0∧n=sat c.n (cZ S hs x.a)%r3) fun r hr=>?_).mono fun v H ⟨e,hv⟩=>⟨e,?_⟩
  · rw[cj hr,←h.n]
    exact(Dz h.ks (h.live _ (h.find hr))).mono fun v H ⟨e,hv⟩=>⟨e,_,_,⟨rfl,rfl⟩,hv⟩
  · rcases hv with⟨h1,h2⟩|⟨h1,n,e,⟨rfl,rfl⟩,h2⟩
    · rw[h1];exact h2
    · rw[h1];exact h2
end
end Go.Proofs
namespace av
open eH
variable {n:Nat} {af:Nat→Nat} {N:cN} {S:Nat→Fn} {ord:List Nat} {R:Nat→Prop} {V:List Nat}
inductive Rc(N:cN)(R:Nat→Prop):Nat→Prop
 |base {r:Nat}:R r→Rc N R r
 |lo {p:Nat} {d:Nd}:Rc N R p→N p=some d→Rc N R d.lo
 |hi {p:Nat} {d:Nd}:Rc N R p→N p=some d→Rc N R d.hi
def I5(N:cN)(V:List Nat):Prop:=∀u∈V,∃d,N u=some d∧(d.lo<2∨d.lo∈V)∧(d.hi<2∨d.hi∈V)
theorem y9(h:WF n af N)(hl:jh n af)(hi:Interp N S)(hV:I5 N V){v:Nat}(hno:∀u∈V,∀d,N u=some d→d.v≠v):∀(k u:Nat),n-dep n af N u≤k→u<2∨u∈V→∀x,S u (aO x v false)=S u (aO x v true):=by
 intro k
 have const:∀u,u<2→∀x,S u (aO x v false)=S u (aO x v true):=fun u hu x=>by
  have:u=0∨u=1:=by omega
  rcases this with rfl|rfl
  ·rw[hi.zero,hi.zero]
  ·rw[hi.one,hi.one]
 induction k with
 |zero=>
  intro u hk hu x
  rcases hu with hu|hu
  ·exact const u hu x
  ·obtain⟨d,hd,_⟩:=hV u hu
   rw[aj hd]at hk
   have:=hl.lt _ (h.var hd);omega
 |succ k ih=>
  intro u hk hu x
  rcases hu with hu|hu
  ·exact const u hu x
  ·obtain⟨d,hd,a,b⟩:=hV u hu
   have h1:=(h.lo hd).2
   have h2:=(h.hi hd).2
   have h3:=hl.lt _ (h.var hd)
   rw[aj hd]at hk
   have hne:=hno u hu d hd
   rw[hi.node hd,hi.node hd,ah,ah,if_neg hne,if_neg hne,ih d.lo (by omega) a,ih d.hi (by omega) b]
theorem Rc.cq(h:WF n af N)(hl:jh n af)(hi:Interp N S){r u v:Nat}(hu:Rc N (fun q=>q=r) u):cq (S u) v→cq (S r) v:=by
 have step:∀(p q:Nat) (d:Nd) (b:Bool),N p=some d→q=(if b then d.hi else d.lo)→av.cq (S q) v→av.cq (S p) v:=fun p q d b hp hq hv=>by
  have Fy:live N q∧af d.v+1≤dep n af N q:=by
   cases b
   ·rw[hq];exact h.lo hp
   ·rw[hq];exact h.hi hp
  have ind:∀x c,S q (aO x d.v c)=S q x:=fun x c=>h.bt hl hi Fy.1 (h.var hp) (by omega) x c
  obtain⟨x,hx⟩:=hv
  have hne:v≠d.v:=fun e=>by
   subst e
   exact hx (by rw[ind,ind])
  refine⟨aO x d.v b,?_⟩
  have e:∀c,S p (aO (aO x d.v b) v c)=S q (aO x v c):=fun c=>by
   have tb:(aO (aO x d.v b) v c).testBit d.v=b:=by rw[ah,if_neg (fun e=>hne e.symm),ah,if_pos rfl]
   rw[hi.node hp,tb,dF (fun e=>hne e.symm),←ind (aO x v c) b,hq]
   cases b<;>rfl
  rw[e,e];exact hx
 induction hu with
 |base hr=>rw[hr];exact id
 |lo _ he ih=>exact fun hv=>ih (step _ _ _ false he rfl hv)
 |hi _ he ih=>exact fun hv=>ih (step _ _ _ true he rfl hv)
theorem za(h:WF n af N)(hl:jh n af)(hi:Interp N S){r:Nat}(hV:I5 N V)(hr:r<2∨r∈V)(RX:∀u∈V,Rc N (fun q=>q=r) u)(v:Nat):cq (S r) v↔∃u∈V,∃d,N u=some d∧d.v=v:=by
 constructor
 ·rintro⟨x,hx⟩
  refine Classical.byContradiction fun hno=>hx (y9 h hl hi hV (fun u hu d hd e=>hno ⟨u,hu,d,hd,e⟩) _ r (Nat.le_refl _) hr x)
 ·rintro⟨u,hu,d,hd,rfl⟩
  exact(RX u hu).cq h hl hi (eA h hl hi hd)
end av
set_option maxRecDepth 100000
namespace Go.Proofs
open Go Go.Sx
open av
section
variable {kp mb b7 b1 b3 tC Ej:Nat} {cap:Array Value} {K:Kd} {S:Nat→av.Fn} {ord af tr:List Nat} {C Z:Hp} {P:List Nat→Hp→Prop}
def pY(V:List Nat):List (Nat×Unit):=V.map fun r=>(r,())
theorem nT{V:List Nat}{r:Nat}:aJ (pY V) r=if r∈V then some ()else none:=by
 unfold pY
 induction V with
 |nil=>rfl
 |cons a V ih=>
  unfold aJ at*
  rw[List.map_cons,List.find?_cons]
  by_cases e:a=r
  ·subst e;simp
  ·simp only[e,decide_false]
   rw[ih]
   have:(r∈a::V)↔r∈V:=by simp[Ne.symm e]
   by_cases hv:r∈V
   ·rw[if_pos hv,if_pos (this.2 hv)]
   ·rw[if_neg hv,if_neg fun h=>hv (this.1 h)]
theorem Bx{V:List Nat}{r:Nat}(h:r∉V):eR (pY V) r ()=pY (V++[r]):=by
 unfold eR pY
 rw[if_neg (by rw[List.map_map];simpa using h),List.map_append];rfl
abbrev tK(es:Array MapEntry)(ck:Nat)(V:List Nat):Prop:=aE kr (fun v (_:Unit)=>v=i64 1) es ck (pY V)
structure Walk(K:Kd)(V V':List Nat)(r:Nat):Prop where
 nd:V'.Nodup
 sub:∀u∈V,u∈V'
 has:r<2∨r∈V'
 shut:∀u∈V',u∉V→∃d,K.N u=some d∧(d.lo<2∨d.lo∈V')∧(d.hi<2∨d.hi∈V')
 rc:∀u∈V',u∉V→Rc K.N (fun q=>q=r) u
def Jc(Ej:Nat)(cap:Array Value)(K:Kd)(P:List Nat→Hp→Prop):Prop:=aS Tryz.prog Ej=true∧∀(V:List Nat) (r:Nat) (d:Nd) (G:Hp),K.N r=some d→P V G→Fc Tryz.prog Ej (#[.agg (bp d).toArray]++cap) G (fun v G'=>v=.tuple #[]∧P (V++[r]) G')
theorem p6{N:cN}{r q u:Nat}(h1:Rc N (fun x=>x=r) q)(h2:Rc N (fun x=>x=q) u):Rc N (fun x=>x=r) u:=by
 induction h2 with
 |base e=>rw[e];exact h1
 |lo _ hd ih=>exact .lo ih hd
 |hi _ hd ih=>exact .hi ih hd
theorem Eo(h:cv kp K S ord af tr C)(hd:Jc Ej cap K P)(h7:(b7,Obj.cells #[.map (some mb)] 351 (0,0))∈Z)(h1:(b1,Obj.cells #[ptr kp] 85 (0,0))∈Z)(h3:(b3,Obj.cells #[.func (.func Ej) #[] cap] 267 (0,0))∈Z)
 (Qk:(tC,Obj.cells #[.func (.func 291) #[] #[ptr b7,ptr b1,ptr b3,ptr tC]] 261 (0,0))∈Z):
  ∀(k r:Nat) (es:Array MapEntry) (ck:Nat) (V:List Nat) (G:Hp),K.n-dep K.n (lv af) K.N r≤k→live K.N r→V.Nodup→tK es ck V→P V G→
  Fc Tryz.prog 291 #[u32 r,ptr b7,ptr b1,ptr b3,ptr tC] ((mb,.map es ck)::(G++(Z++C))) (fun v H=>v=.tuple #[]∧∃es' cg V' G',H=(mb,.map es' cg)::(G'++(Z++C))∧tK es' cg V'∧P V' G'∧Walk K V V' r):=by
 have stop:∀{r:Nat} {es:Array MapEntry} {ck:Nat} {V:List Nat} {G:Hp},V.Nodup→tK es ck V→P V G→(r<2∨r∈V)→
   Fc Tryz.prog 291 #[u32 r,ptr b7,ptr b1,ptr b3,ptr tC] ((mb,.map es ck)::(G++(Z++C))) (fun v H=>v=.tuple #[]∧∃es' cg V' G',H=(mb,.map es' cg)::(G'++(Z++C))∧tK es' cg V'∧P V' G'∧Walk K V V' r):=by
  intro r es ck V G fI hE hP hr
  refine aP fun g=>o8 ?_
  refine ae.eq (jG r _) ?_
  refine c7.or (a:=decide (r<2)) (decide (r∈V)) (fun _=>?_) rfl fun _=>?_
  ·refine Ld.mk (v:=.map (some mb)) (.tail _ (List.mem_append_right _ (List.mem_append_left _ h7))) rfl ?_
   by_cases hm:r∈V
   ·refine hE.hit (k:=r) gV (b:=mb) (by exact .head _) (by rw[nT,if_pos hm]) fun v e=>?_
    subst e
    exact aa.gtr ⟨rfl,by rw[decide_eq_true hm];rfl⟩
   ·refine hE.sN (k:=r) gV (b:=mb) (by exact .head _) (by rw[nT,if_neg hm]) ?_
    exact aa.gtr ⟨rfl,by rw[decide_eq_false hm];rfl⟩
  rw[←Bool.decide_or,decide_eq_true hr]
  refine Br.yes (aZ.mk (.refl _) ⟨rfl,es,ck,V,G,rfl,hE,hP,⟨fI,fun _ h=>h,hr,fun u h h'=>absurd h h',fun u h h'=>absurd h h'⟩⟩)
 intro k
 induction k with
 |zero=>
  intro r es ck V G hk hr fI hE hP
  refine stop fI hE hP (.inl ?_)
  cases hN:K.N r with
  |some d=>
   rw[aj hN]at hk
   have:=h.ok.lv.lt _ (h.ok.mid.var hN);omega
  |none=>
   rcases hr with hr|⟨d,e⟩
   ·exact hr
   ·rw[hN]at e;cases e
 |succ k ih=>
  intro r es ck V G hk hr fI hE hP
  by_cases hs:r<2∨r∈V
  ·exact stop fI hE hP hs
  have rD:¬r<2:=fun h=>hs (.inl h)
  have Km:r∉V:=fun h=>hs (.inr h)
  obtain⟨d,hN⟩:∃d,K.N r=some d:=by
   rcases hr with hr|hr
   ·omega
   ·exact hr
  have hlo:=h.ok.wf.lo hN
  have hhi:=h.ok.wf.hi hN
  rw[aj hN]at hk
  have hvl:=h.ok.lv.lt _ (h.ok.mid.var hN)
  refine aP fun g=>o8 ?_
  refine ae.eq (jG r _) ?_
  refine c7.or (a:=decide (r<2)) false (fun _=>?_) rfl fun _=>?_
  ·refine Ld.mk (v:=.map (some mb)) (.tail _ (List.mem_append_right _ (List.mem_append_left _ h7))) rfl ?_
   refine hE.sN (k:=r) gV (b:=mb) (by exact .head _) (by rw[nT,if_neg Km]) ?_
   exact aa.gtr ⟨rfl,rfl⟩
  rw[decide_eq_false rD]
  refine Br.no ?_
  refine Ld.mk (v:=.map (some mb)) (.tail _ (List.mem_append_right _ (List.mem_append_left _ h7))) rfl ?_
  refine hE.bc (k:=r) (b:=mb) (x:=()) gV nE rfl fun yJ tw II=>⟨_,.head _,?_⟩
  rw[Bx Km]at II
  refine Ld.mk (v:=ptr kp) (.tail _ (List.mem_append_right _ (List.mem_append_left _ h1))) rfl ?_
  refine ae.eq (args:=#[ptr kp,u32 r]) (oQ h hN) ?_
  intro mK _
  refine St.p (gv d) ?_
  refine Ld.mk (v:=.func (.func Ej) #[] cap) (.tail _ (.tail _ (List.mem_append_right _ (List.mem_append_left _ h3)))) rfl ?_
  refine ay.q ?_
  refine bg.of rfl hd.1 ?_
  refine ae.fn (.cons (.cons .left)) (by simpa using hd.2 V r d G hN hP) ?_
  rintro v G1 ⟨rfl,R6⟩
  refine Ld.mk (v:=.func (.func 291) #[] #[ptr b7,ptr b1,ptr b3,ptr tC]) (.tail _ (.tail _ (List.mem_append_right _ (List.mem_append_left _ Qk)))) rfl ?_
  refine Ld.f (v:=u32 d.lo) ?_
  refine bg.of rfl (by kernel_rfl) ?_
  have NP:(V++[r]).Nodup:=List.nodup_append.2 ⟨fI,by simp,fun a ha b hb e=>Km (by rw[List.mem_singleton.1 hb]at e;rwa [←e])⟩
  refine ae.fq (args:=#[u32 d.lo,ptr b7,ptr b1,ptr b3,ptr tC]) (ih d.lo yJ tw (V++[r]) G1 (by omega) hlo.1 NP II R6) ?_
  rintro v H ⟨rfl,ud,yP,V2,G2,rfl,De,Oz,w2⟩
  refine Ld.mk (v:=.func (.func 291) #[] #[ptr b7,ptr b1,ptr b3,ptr tC]) (.tail _ (.tail _ (List.mem_append_right _ (List.mem_append_left _ Qk)))) rfl ?_
  refine Ld.f (v:=u32 d.hi) ?_
  refine bg.of rfl (by kernel_rfl) ?_
  refine ae.fq (args:=#[u32 d.hi,ptr b7,ptr b1,ptr b3,ptr tC]) (ih d.hi ud yP V2 G2 (by omega) hhi.1 w2.nd De Oz) ?_
  rintro v H ⟨rfl,MH,MJ,V3,G3,rfl,Sd,R5,w3⟩
  have r2:r∈V2:=w2.sub r (by simp)
  refine aZ.mk .tail ⟨rfl,MH,MJ,V3,G3,rfl,Sd,R5,⟨w3.nd,fun u hu=>w3.sub u (w2.sub u (List.mem_append_left _ hu)),.inr (w3.sub r r2),fun u hu hn=>?_,fun u hu hn=>?_⟩⟩
  ·by_cases Jn:u∈V2
   ·by_cases D6:u∈V++[r]
    ·rcases List.mem_append.1 D6 with h'|h'
     ·exact absurd h' hn
     ·rw[List.mem_singleton.1 h']
      exact⟨d,hN,w2.has.imp id (w3.sub _),w3.has⟩
    ·obtain⟨e,he,a,b⟩:=w2.shut u Jn D6
     exact⟨e,he,a.imp id (w3.sub _),b.imp id (w3.sub _)⟩
   ·exact w3.shut u hu Jn
  ·by_cases Jn:u∈V2
   ·by_cases D6:u∈V++[r]
    ·rcases List.mem_append.1 D6 with h'|h'
     ·exact absurd h' hn
     ·exact .base (List.mem_singleton.1 h')
    ·exact p6 (Rc.lo (.base rfl) hN) (w2.rc u Jn D6)
   ·exact p6 (Rc.hi (.base rfl) hN) (w3.rc u hu Jn)
theorem DK(h:cv kp K S ord af tr C)(hd:Jc Ej cap K P){r b:Nat}{X G:Hp}(hr:live K.N r)(hP:P [] G)(hm:(b,Obj.cells (au .u32 [(r:Int)]) 110 (0,0))∈X):
  Fc Tryz.prog 206 #[ptr kp,.slice (some ⟨b,0,none⟩) 1 1,.func (.func Ej) #[] cap] (G++(X++C)) (fun v H=>v=.tuple #[]∧∃V G',H=G'++(X++C)∧P V G'∧V.Nodup∧I5 K.N V∧(r<2∨r∈V)∧∀u∈V,Rc K.N (fun q=>q=r) u):=by
 refine aP fun g=>wV ?_
 intro b1 _ b3 _ mb _ b7 _
 refine St.one (c':=#[.map (some mb)]) (by exact .head _) rfl (by simp) rfl ?_
 intro tC _
 refine St.one (c':=#[.func (.func 291) #[] #[ptr b7,ptr b1,ptr b3,ptr tC]]) (by exact .head _) rfl (by simp) rfl ?_
 refine aM.mk ?_
 obtain⟨Z,hZ⟩:∃Z:Hp,Z=(tC,Obj.cells #[.func (.func 291) #[] #[ptr b7,ptr b1,ptr b3,ptr tC]] 261 (0,0))::(b7,.cells #[.map (some mb)] 351 (0,0))::(b3,.cells #[.func (.func Ej) #[] cap] 267 (0,0))::(b1,.cells #[ptr kp] 85 (0,0))::X:=⟨_,rfl⟩
 have Rn:∀(e:Obj),List.Perm ((tC,Obj.cells #[.func (.func 291) #[] #[ptr b7,ptr b1,ptr b3,ptr tC]] 261 (0,0))::(b7,.cells #[.map (some mb)] 351 (0,0))::(mb,e)::(b3,.cells #[.func (.func Ej) #[] cap] 267 (0,0))::(b1,.cells #[ptr kp] 85 (0,0))::(G++(X++C))) ((mb,e)::(G++(Z++C))):=fun e=>by
  rw[hZ]
  refine((List.Perm.cons _ (List.Perm.swap _ _ _)).trans (List.Perm.swap _ _ _)).trans (.cons _ ?_)
  have:∀(a b c d:Nat×Obj),(a::b::c::d::(G++(X++C))).Perm (G++(a::b::c::d::(X++C))):=fun a b c d=>by
   have:=(List.perm_append_comm (l₁:=[a,b,c,d]) (l₂:=G)).append_right (X++C)
   simpa[List.append_assoc]using this
  exact this _ _ _ _
 refine⟨fun vs H=>∃(i:Nat) (es:Array MapEntry) (ck:Nat) (V:List Nat) (G':Hp),vs=[i64 (i:Int)]∧H=(mb,.map es ck)::(G'++(Z++C))∧tK es ck V∧P V G'∧((i=0∧V=[])∨(i=1∧Walk K [] V r)),fun vs _=>1-ca vs 0,JE.of (.perm (Rn _)) ⟨0,#[],0,[],G,rfl,rfl,aE.empty,hP,.inl ⟨rfl,rfl⟩⟩,?_⟩
 rintro w H ⟨i,es,ck,V,G',⟨⟩,rfl,hE,P5,hi⟩ gs
 have mZ:∀{x:Nat×Obj},x∈Z→x∈(mb,Obj.map es ck)::(G'++(Z++C)):=fun hx=>.tail _ (List.mem_append_right _ (List.mem_append_left _ hx))
 rcases hi with⟨rfl,rfl⟩|⟨rfl,hw⟩
 ·refine aa.iC (b:=1) (Br.T ?_)
  refine ai.nat (by decide) ?_
  refine Ld.mk (v:=u32 r) (mZ (by rw[hZ];exact .tail _ (.tail _ (.tail _ (.tail _ hm))))) rfl ?_
  refine Ld.mk (v:=.func (.func 291) #[] #[ptr b7,ptr b1,ptr b3,ptr tC]) (mZ (by rw[hZ];exact .head _)) rfl ?_
  refine bg.of rfl (by kernel_rfl) ?_
  refine ae.fq (args:=#[u32 r,ptr b7,ptr b1,ptr b3,ptr tC]) (Eo (Z:=Z) h hd (by rw[hZ];exact .tail _ (.head _)) (by rw[hZ];exact .tail _ (.tail _ (.tail _ (.head _)))) (by rw[hZ];exact .tail _ (.tail _ (.head _))) (by rw[hZ];exact .head _) K.n r es ck [] G' (Nat.sub_le _ _) hr List.nodup_nil hE P5) ?_
  rintro v H ⟨rfl,ud,yP,V2,G2,rfl,De,Oz,w2⟩
  refine aa.inc (a:=0) ?_
  exact aB.mk ⟨1,ud,yP,V2,G2,rfl,rfl,De,Oz,.inr ⟨rfl,w2⟩⟩ (by simp only[ca];decide)
 ·refine aa.iC (b:=1) (Br.F ?_)
  refine aZ.mk ?_ ⟨rfl,V,G',rfl,P5,hw.nd,fun u hu=>hw.shut u hu (by simp),hw.has,fun u hu=>hw.rc u hu (by simp)⟩
  rw[hZ]
  exact .skip (.dx (.skip (.skip (.skip .tail))) _)
theorem rN(h:cv kp K S ord af tr C)(b6:Nat):Jc 209 #[ptr b6] K (fun V G=>∃m:Nat,G=[(b6,.cells #[u64 m] 33 (0,0))]∧m<18446744073709551616∧∀v,m.testBit v=true↔∃u∈V,∃d,K.N u=some d∧d.v=v):=by
 refine⟨by kernel_rfl,?_⟩
 rintro V r d G hN ⟨m,rfl,hm,hv⟩
 have hn:=h.aH.mV
 have oz:=h.ok.mid.var hN
 refine aP fun g=>wT ?_
 intro b1 _
 refine DR.of (.refl _) ?_
 refine Ld.mk (v:=u64 m) (.tail _ (.head _)) rfl ?_
 refine Ld.f (v:=i64 (d.v:Int)) ?_
 refine aa.ur (a:=1) ?_
 have e:(1<<<d.v)%18446744073709551616=2^d.v:=by
  rw[Nat.shiftLeft_eq,Nat.one_mul]
  exact Nat.mod_eq_of_lt (Nat.lt_of_lt_of_le (Nat.pow_lt_pow_right (by decide) (show d.v<64 by omega)) (by decide))
 rw[e]
 have h2:2^d.v<18446744073709551616:=Nat.lt_of_lt_of_le (Nat.pow_lt_pow_right (by decide) (show d.v<64 by omega)) (by decide)
 refine aa.QN (by simpa[dc]using hm) (by simpa[dc]using h2) ?_
 intro F
 refine St.one (c':=#[u64 (m|||2^d.v)]) (by exact .tail (.head _)) rfl (by simp) rfl ?_
 refine aZ.mk .tail ⟨rfl,_,rfl,Nat.or_lt_two_pow (n:=64) hm h2,fun v=>?_⟩
 rw[Nat.testBit_or,Bool.or_eq_true,hv,Nat.testBit_two_pow,decide_eq_true_eq]
 constructor
 ·rintro(⟨u,hu,e,he,zX⟩|rfl)
  ·exact⟨u,List.mem_append_left _ hu,e,he,zX⟩
  ·exact⟨r,by simp,d,hN,rfl⟩
 ·rintro⟨u,hu,e,he,zX⟩
  rcases List.mem_append.1 hu with hu|hu
  ·exact .inl ⟨u,hu,e,he,zX⟩
  ·rw[List.mem_singleton.1 hu,hN]at he
   cases he
   exact .inr zX
def tJ(f:av.Fn)(m:Nat):Prop:=m<18446744073709551616∧∀v,m.testBit v=true↔cq f v
theorem tJ.uniq{f:av.Fn}{m m':Nat}(h:tJ f m)(h':tJ f m'):m=m':=Nat.eq_of_testBit_eq fun v=>by
 rw[Bool.eq_iff_iff,h.2,h'.2]
theorem tj(h:cv kp K S ord af tr C){r:Nat}(hr:live K.N r):
  Rd Tryz.prog 149 #[ptr kp,u32 r] C (fun v=>∃m,tJ (S r) m∧v=.tuple #[u64 m,i64 0]):=by
 refine aP fun g=>xz ?_
 refine ak.int (e:=110) (by kernel_rfl) (by kernel_rfl) (by kernel_rfl) fun bx=>?_
 refine ae.eh .here (tu (X:=[(bx,_)]) h (by exact .head _) hr) ?_
 refine aa.eP (Br.F ?_)
 intro b6 _
 refine St.one (c':=#[u64 0]) (by exact .head _) rfl (by simp) rfl ?_
 refine ak.int (e:=110) (by kernel_rfl) (by kernel_rfl) (by kernel_rfl) fun LG=>?_
 refine ae.pre (H':=[(b6,Obj.cells #[u64 0] 33 (0,0))]++([(LG,Obj.cells (au .u32 [(r:Int)]) 110 (0,0)),(bx,Obj.cells (au .u32 [(r:Int)]) 110 (0,0))]++C)) (.perm (.swap _ _ _)) ?_
 refine ae.fn .here (DK (P:=fun V G=>∃m:Nat,G=[(b6,.cells #[u64 m] 33 (0,0))]∧m<18446744073709551616∧∀v,m.testBit v=true↔∃u∈V,∃d,K.N u=some d∧d.v=v) h (rN h b6) hr ⟨0,rfl,by decide,fun v=>by simp⟩ (by exact .head _)) ?_
 rintro v H ⟨rfl,V,G,rfl,⟨m,rfl,hm,hv⟩,fI,hsh,Km,hrc⟩
 refine Ld.q ?_
 refine bC.mk (.skip (.skip .tail)) ⟨m,⟨hm,fun v=>?_⟩,rfl⟩
 rw[hv,za h.ok.wf h.ok.lv h.ok.mid.int hsh Km hrc]
end
end Go.Proofs
namespace av
open eH
variable {n:Nat} {ord:List Nat}
def Ho(ord:List Nat)(L:List Fn):Nat→List Fn
 |0=>L
 |l+1=>(Ho ord L l).flatMap fun f=>[fun x=>f (aO x (ord.getD l 0) false),fun x=>f (aO x (ord.getD l 0) true)]
theorem oG(L:List Fn):∀l,(Ho ord L l).length=L.length*2^l
 |0=>by simp[Ho]
 |l+1=>by
  rw[Ho,List.length_flatMap]
  simp only[List.length_cons,List.length_nil]
  rw[List.map_const',List.sum_replicate_nat,oG L l,Nat.pow_succ,Nat.mul_assoc]
theorem Dj{F:Fn→Prop}{L:List Fn}(h:∀g,F g→g∈L):∀l g,fs ord F l g→g∈Ho ord L l
 |0,g,hg=>h g hg
 |l+1,g,⟨f,hf,b,e⟩=>by
  rw[Ho,List.mem_flatMap]
  refine⟨f,Dj h l f hf,?_⟩
  subst e
  cases b<;>simp
def vj(ord:List Nat)(L:List Fn):Nat→List Fn
 |0=>[]
 |k+1=>vj ord L k++Ho ord L k
theorem m9{ord:List Nat}(L:List Fn):∀k,(vj ord L k).length+L.length=L.length*2^k
 |0=>by simp[vj]
 |k+1=>by
  have:=m9 (ord:=ord) L k
  rw[vj,List.length_append,oG,Nat.pow_succ]
  have e:L.length*(2^k*2)=L.length*2^k+L.length*2^k:=by rw[←Nat.mul_assoc,Nat.mul_two]
  omega
theorem sO{L:List Fn}{g:Fn}{l:Nat}(h:g∈Ho ord L l):∀k,l<k→g∈vj ord L k
 |0,hk=>by omega
 |k+1,hk=>by
  rw[vj,List.mem_append]
  by_cases e:l=k
  ·subst e;exact .inr h
  ·exact .inl (sO h k (by omega))
theorem zw{F:Fn→Prop}{L:List Fn}(h:∀g,F g→g∈L):∀g,aF n ord F g→g∈vj ord L n:=by
 rintro g ⟨l,hl,hg,_⟩
 exact sO (Dj h l g hg) n hl
theorem sI:∀l:List Fn,∃l':List Fn,l'.Nodup∧l'.length≤l.length∧∀g,g∈l↔g∈l'
 | []=>⟨[],List.nodup_nil,Nat.le_refl _,fun _=>Iff.rfl⟩
 |f::l=>by
  obtain⟨l',h1,h2,h3⟩:=sI l
  by_cases hm:f∈l'
  ·refine⟨l',h1,Nat.le_succ_of_le h2,fun g=>?_⟩
   rw[List.mem_cons,h3]
   exact⟨fun h=>h.elim (fun e=>e▸hm) id,.inr⟩
  ·exact⟨f::l',List.nodup_cons.2 ⟨hm,h1⟩,Nat.succ_le_succ h2,fun g=>by rw[List.mem_cons,List.mem_cons,h3]⟩
theorem Gg{U:Fn→Prop}{l:List Fn}(h:∀g,U g→g∈l):∃k,k≤l.length∧jJ U k:=by
 classical
 obtain⟨l',h1,h2,h3⟩:=sI l
 refine⟨(l'.filter fun g=>decide (U g)).length,Nat.le_trans (List.length_filter_le _ _) h2,_,h1.filter _,rfl,fun g=>?_⟩
 rw[List.mem_filter,decide_eq_true_eq,←h3]
 exact⟨fun x=>⟨h g x,x⟩,fun x=>x.2⟩
theorem kB{F:Fn→Prop}{L:List Fn}{cap:Nat}(h:∀g,F g→g∈L)(hc:L.length*2^n+2≤cap):∃ku,jJ (aF n ord F) ku∧ku+2≤cap:=by
 obtain⟨k,h1,h2⟩:=Gg (zw (n:=n) (ord:=ord) h)
 have:=m9 (ord:=ord) L n
 exact⟨k,h2,by omega⟩
end av
set_option maxRecDepth 100000
namespace Go.Proofs
open Go Go.Sx
open av
section
variable {sp kp mb nx:Nat} {c:Cf} {K:Kd} {S:Nat→av.Fn} {ord af tr:List Nat} {hs:List (Int×Nat)} {es:Array MapEntry} {ck:Nat} {C:Hp} {x:cA}
theorem x7(h:fB kp nx c K S ord af tr hs es ck C)(hno:aJ hs x.a=none∨∃r,aJ hs x.a=some r∧2≤r∧K.hold r=65535):
  Rd Tryz.prog 86 #[ptr sp,x.v] (gS sp c kp mb nx es ck C) (· =if(aJ hs x.a).isSome then c6 8 (-1) 0 0 else c6 3 (-1) 0 0):=by
 refine aP fun g=>qJ ?_
 intro b1 _ b3 _
 refine Ld.n (v:=.map (some mb)) ?_
 refine Ld.f (v:=i64 x.a) ?_
 refine h.gg.look (k:=x.a) (cu _) (b:=mb) (by exact .tail _ (.tail _ (.tail _ (.head _)))) (fun r v hr hv=>?_) (fun hr=>?_)
 ·subst hv
  refine Ext.two (Un.not (Br.no ?_))
  refine Ld.n (v:=ptr kp) ?_
  rcases hno with e|⟨q,hq,h2,hf⟩
  ·rw[hr]at e;cases e
  ·rw[hr]at hq;cases hq
   refine ae.eq (args:=#[ptr kp,u32 r]) (qn h.ks (h.live _ (h.find hr)) h2 hf) ?_
   refine aa.eP (Br.T ?_)
   refine ae.eq (bJ _ _) ?_
   refine St.p (r:=[i64 8,i64 (-1),u64 0,i64 0]) (aV _ _ _ _) ?_
   refine ay.q ?_
   exact bC.mk (.skip .tail) (by rw[hr];rfl)
 ·refine Ext.two (Un.not (Br.yes ?_))
  refine ae.eq (bJ _ _) ?_
  refine St.p (r:=[i64 3,i64 (-1),u64 0,i64 0]) (aV _ _ _ _) ?_
  refine ay.q ?_
  exact bC.mk (.skip .tail) (by rw[hr];rfl)
theorem EJ(h:fB kp nx c K S ord af tr hs es ck C)(zO:nx+1<9223372036854775808){r:Nat}(hr:aJ hs x.a=some r)(hf:2≤r→K.hold r<65535):
  Fc Tryz.prog 86 #[ptr sp,x.v] (gS sp c kp mb nx es ck C) (fun v H=>v=c6 0 nx 0 0∧∃K' es' cg C',H=gS sp c kp mb (nx+1) es' cg C'∧fB kp (nx+1) c K' S ord af [] (hs++[((nx:Int),r)]) es' cg C'):=by
 have hl:=h.live _ (h.find hr)
 refine aP fun g=>qJ ?_
 intro b1 _ b3 _
 refine Ld.n (v:=.map (some mb)) ?_
 refine Ld.f (v:=i64 x.a) ?_
 refine h.gg.hit (k:=x.a) (cu _) (b:=mb) (by exact .tail _ (.tail _ (.tail _ (.head _)))) hr fun v hv=>?_
 subst hv
 refine Ext.two (Un.not (Br.no ?_))
 refine Ld.n (v:=ptr kp) ?_
 refine ae.fq (args:=#[ptr kp,u32 r]) (nF h.ks hl hf) ?_
 rintro v H ⟨rfl,K',dP,hm⟩
 refine aa.eP (Br.F ?_)
 refine ae.fq (qs h.gg h.key zO r 0) ?_
 rintro v H2 ⟨rfl,es',cg,rfl,he⟩
 refine St.p (r:=[i64 0,i64 nx,u64 0,i64 0]) (aV _ _ _ _) ?_
 refine ay.q ?_
 have hg:px K S K' S (S r) r:=⟨hm.n,hm.cap,fun s d hd=>by rw[hm.N];exact hd,fun _ _=>rfl,by rw[hm.N];exact hl,rfl,fun s=>by rw[hm.hold];split<;>rfl⟩
 exact aZ.mk (.skip .tail) ⟨rfl,K',es',cg,H,rfl,(h.grow dP hg he).1⟩
theorem count_erase{l:List (Int×Nat)}{a:Int}{r:Nat}(fI:(l.map Prod.fst).Nodup)(hm:(a,r)∈l)(s:Nat):((fV l a).map Prod.snd).count s=(l.map Prod.snd).count s-if s=r then 1 else 0:=by
 induction l with
 |nil=>cases hm
 |cons p l ih=>
  obtain⟨k,q⟩:=p
  rw[List.map_cons,List.nodup_cons]at fI
  unfold fV at*
  by_cases hk:k=a
  ·subst hk
   have hq:q=r:=by
    rcases List.mem_cons.1 hm with e|hm
    ·cases e;rfl
    ·exact absurd (List.mem_map_of_mem (f:=Prod.fst) hm) fI.1
   subst hq
   have e:(l.filter fun y=>decide ¬y.1=k)=l:=List.filter_eq_self.2 fun y hy=>by
    have:y.1≠k:=fun e=>fI.1 (by rw[←e];exact List.mem_map.2 ⟨y,hy,rfl⟩)
    simpa using this
   rw[List.filter_cons,if_neg (by simp),e,List.map_cons,List.count_cons]
   by_cases hs:s=q
   ·subst hs;simp
   ·have:(q==s)=false:=by simpa using fun e=>hs e.symm
    simp[hs,this]
  ·have hm':(a,r)∈l:=by
    rcases List.mem_cons.1 hm with e|hm
    ·cases e;exact absurd rfl hk
    ·exact hm
   rw[List.filter_cons,if_pos (by simpa using hk),List.map_cons,List.map_cons,List.count_cons,List.count_cons,ih fI.2 hm']
   by_cases hs:s=r
   ·subst hs
    have:0<(l.map Prod.snd).count s:=List.count_pos_iff.2 (List.mem_map_of_mem (f:=Prod.snd) hm')
    rw[if_pos rfl];omega
   ·rw[if_neg hs];rfl
theorem Bt(h:fB kp nx c K S ord af tr hs es ck C){r:Nat}(hr:aJ hs x.a=some r):
  Fc Tryz.prog 87 #[ptr sp,x.v] (gS sp c kp mb nx es ck C) (fun v H=>v=c6 0 (-1) 0 0∧∃K' es' C',H=gS sp c kp mb nx es' ck C'∧fB kp nx c K' S ord af [] (fV hs x.a) es' ck C'):=by
 have hmem:=h.find hr
 have hl:=h.live _ hmem
 have hlt:=h.ks.dk hl
 have hh:2≤r→K.hold r≠0:=fun h2=>by
  rw[h.hold,if_pos h2]
  exact Nat.ne_of_gt (List.count_pos_iff.2 (List.mem_map_of_mem (f:=Prod.snd) hmem))
 refine aP fun g=>qI ?_
 intro b1 _ b3 _
 refine Ld.n (v:=.map (some mb)) ?_
 refine Ld.f (v:=i64 x.a) ?_
 refine h.gg.hit (k:=x.a) (cu _) (b:=mb) (by exact .tail _ (.tail _ (.tail _ (.head _)))) hr fun v hv=>?_
 subst hv
 refine Ext.two (Un.not (Br.no ?_))
 refine Ld.n (v:=ptr kp) ?_
 refine ae.fq (args:=#[ptr kp,u32 r]) (yK h.ks (by omega) hh) ?_
 rintro v H ⟨rfl,K',dP,hm⟩
 refine DR.of (.refl _) ?_
 refine Ld.n (v:=.map (some mb)) ?_
 refine Ld.f (v:=i64 x.a) ?_
 intro F
 refine aE.del (k:=x.a) (cu _) h.gg (.tail _ (.tail _ (.tail _ (.head _)))) fun es' he=>⟨_,.tail (.tail (.tail (.head _))),?_⟩
 refine ae.eq (cB 0 0 _) ?_
 refine St.p (r:=[i64 0,i64 (-1),u64 0,i64 0]) (aV _ _ _ _) ?_
 refine ay.q ?_
 have hsub:∀p,p∈fV hs x.a→p∈hs:=fun p hp=>(List.mem_filter.1 hp).1
 have G4:∀s,K'.hold s=if 2≤s then((fV hs x.a).map Prod.snd).count s else 0:=fun s=>by
  rw[hm.hold,h.hold,count_erase h.gg.nd hmem]
  by_cases h2:2≤s
  ·rw[if_pos h2,if_pos h2]
   by_cases e:s=r
   ·rw[if_pos ⟨e,by omega⟩,if_pos e]
   ·rw[if_neg (fun h=>e h.1),if_neg e];rfl
  ·rw[if_neg h2,if_neg h2,if_neg (fun h=>h2 (by omega))]
 refine aZ.mk (.skip .tail) ⟨rfl,K',es',H,rfl,⟨dP,hm.n.trans h.n,hm.cap.trans h.cap,he,fun p hp=>?_,G4,fun p hp=>h.lt p (hsub p hp)⟩⟩
 by_cases h2:2≤p.2
 ·refine .inr (dP.ok.mid.held p.2 ?_)
  rw[G4,if_pos h2]
  exact Nat.ne_of_gt (List.count_pos_iff.2 (List.mem_map_of_mem (f:=Prod.snd) hp))
 ·exact .inl (by omega)
theorem Bu(h:fB kp nx c K S ord af tr hs es ck C)(hr:aJ hs x.a=none):
  Rd Tryz.prog 87 #[ptr sp,x.v] (gS sp c kp mb nx es ck C) (· =c6 3 (-1) 0 0):=by
 refine aP fun g=>qI ?_
 intro b1 _ b3 _
 refine Ld.n (v:=.map (some mb)) ?_
 refine Ld.f (v:=i64 x.a) ?_
 refine h.gg.sN (k:=x.a) (cu _) (b:=mb) (by exact .tail _ (.tail _ (.tail _ (.head _)))) hr ?_
 refine Ext.two (Un.not (Br.yes ?_))
 refine ae.eq (bJ _ _) ?_
 refine St.p (r:=[i64 3,i64 (-1),u64 0,i64 0]) (aV _ _ _ _) ?_
 refine ay.q ?_
 exact bC.mk (.skip .tail) rfl
theorem sq{C0:Hp}{e:Int}(he:e≠0)(hex:Rd Tryz.prog 151 #[ptr kp,i64 x.a] C0 (· =i64 e)):
  Rd Tryz.prog 96 #[ptr sp,x.v] (gS sp c kp mb nx es ck C0) (· =c6 e (-1) 0 0):=by
 refine aP fun g=>qG ?_
 intro b1 _ b3 _
 refine DR.of (.refl _) ?_
 refine Ld.n (v:=ptr kp) ?_
 refine Ld.f (v:=i64 x.a) ?_
 intro F
 refine ae.eq (args:=#[ptr kp,i64 x.a]) hex ?_
 intro F
 refine ae.eq (cB 0 e _) ?_
 intro F
 rw[if_neg he]
 refine St.p (r:=[i64 e,i64 (-1),u64 0,i64 0]) (aV _ _ _ _) ?_
 refine ay.q ?_
 exact bC.mk (.skip .tail) rfl
theorem Bv{C0:Hp}{Q:Hp→Prop}(hex:Fc Tryz.prog 151 #[ptr kp,i64 x.a] C0 (fun v H=>v=i64 0∧Q H)):
  Fc Tryz.prog 96 #[ptr sp,x.v] (gS sp c kp mb nx es ck C0) (fun v H=>v=c6 0 (-1) 0 0∧∃C',H=gS sp c kp mb nx es ck C'∧Q C'):=by
 refine aP fun g=>qG ?_
 intro b1 _ b3 _
 refine DR.of (R:=(b3,.cells #[i64 0,i64 0,u64 0,i64 0] 37 (0,0))::(b1,.cells (Value.cells x.v) 35 (0,0))::gS sp c kp mb nx es ck C0) (.refl _) ?_
 refine Ld.n (v:=ptr kp) ?_
 refine Ld.f (v:=i64 x.a) ?_
 intro F
 refine ae.fq (args:=#[ptr kp,i64 x.a]) hex ?_
 rintro v C' ⟨rfl,hQ⟩
 intro F
 refine ae.eq (cB 0 0 _) ?_
 intro F
 refine St.p (r:=[i64 0,i64 (-1),u64 0,i64 0]) (aV _ _ _ _) ?_
 refine ay.q ?_
 exact aZ.mk (.skip .tail) ⟨rfl,C',rfl,hQ⟩
theorem qT{C0:Hp}(ha:x.a<0∨6<x.a):Rd Tryz.prog 97 #[ptr sp,x.v] (gS sp c kp mb nx es ck C0) (· =c6 1 (-1) 0 0):=by
 refine aP fun g=>qF ?_
 intro b1 _ b3 _
 refine Ld.f (v:=i64 x.a) ?_
 refine aa.lss ?_
 refine c7.or (decide (6<x.a)) (fun _=>Ld.f (v:=i64 x.a) (aa.gtr ⟨rfl,rfl⟩)) rfl fun _=>?_
 rw[←Bool.decide_or,decide_eq_true ha]
 refine Br.yes ?_
 refine ae.eq (bJ _ _) ?_
 refine St.p (r:=[i64 1,i64 (-1),u64 0,i64 0]) (aV _ _ _ _) ?_
 refine ay.q ?_
 exact bC.mk (.skip .tail) rfl
theorem sk{C0:Hp}{s:Nat}(hs:x.a=s)(PJ:s≤6){Q:Int→Nat→Hp→Prop}(hrun:Fc Tryz.prog 85 #[ptr kp,.int .u8 (s:Int),i64 x.b] C0 (fun v H=>∃(a b d:Int) (t:Bool) (e:Int),v=.tuple #[EO a b d t,i64 e]∧∃n,Q e n H∧Rd Tryz.prog 140 #[ptr kp] H (· =i64 ((n:Nat):Int))∧n<18446744073709551616)):
  Fc Tryz.prog 97 #[ptr sp,x.v] (gS sp c kp mb nx es ck C0) (fun v H=>∃e n C',v=(if e=0 then c6 0 (-1) n 0 else c6 e (-1) 0 0)∧H=gS sp c kp mb nx es ck C'∧Q e n C'):=by
 refine aP fun g=>qF ?_
 intro b1 _ b3 _
 refine Ld.f (v:=i64 x.a) ?_
 rw[hs]
 refine aa.lss ?_
 refine c7.or (decide (6<(s:Int))) (fun _=>Ld.f (v:=i64 x.a) (by rw[hs];exact aa.gtr ⟨rfl,rfl⟩)) rfl fun _=>?_
 rw[←Bool.decide_or,decide_eq_false (by omega)]
 refine Br.no ?_
 refine DR.of (R:=[(b3,.cells #[i64 0,i64 0,u64 0,i64 0] 37 (0,0)),(b1,.cells (Value.cells x.v) 35 (0,0)),pZ sp c kp mb nx]) (.cons (.cons (.cons fun _ _ h=>h.bu))) ?_
 refine Ld.n (v:=ptr kp) ?_
 refine Ld.f (v:=i64 x.a) ?_
 rw[hs]
 refine bB.q ?_
 refine Ld.f (v:=i64 x.b) ?_
 intro F
 refine ae.fq (args:=#[ptr kp,.int .u8 (s:Int),i64 x.b]) hrun ?_
 rintro v H ⟨a,b,d,t,e,rfl,n,hQ,fJ,hn⟩
 refine⟨.cons (.cons (.cons fun _ _ h=>h.bu)),?_⟩
 refine Ext.two ?_
 intro LH _
 intro F
 refine St.p (r:=[i64 a,i64 b,i64 d,.bool t]) (ya _ _ _ _) ?_
 refine⟨.skip (.cons (.cons (.cons fun _ _ h=>h.bu))),?_⟩
 refine Ld.n (v:=ptr kp) ?_
 refine ae.eq (args:=#[ptr kp]) fJ ?_
 refine bB.q (a:=n) ?_ (Nat.lt_of_lt_of_le hn (by decide))
 refine ae.eq (cB n e _) ?_
 by_cases he:e=0
 ·rw[if_pos he]
  refine St.p (r:=[i64 0,i64 (-1),u64 n,i64 0]) (aV _ _ _ _) ?_
  refine ay.q ?_
  exact aZ.mk (.skip (.skip .tail)) ⟨e,n,H,by rw[if_pos he],rfl,hQ⟩
 ·rw[if_neg he]
  refine St.p (r:=[i64 e,i64 (-1),u64 0,i64 0]) (aV _ _ _ _) ?_
  refine ay.q ?_
  exact aZ.mk (.skip (.skip .tail)) ⟨e,n,H,by rw[if_neg he],rfl,hQ⟩
end
end Go.Proofs
set_option maxRecDepth 100000
namespace Go.Proofs
open Go Go.Sx
open av
section
variable {sp nx kp:Nat} {c:Cf} {F:FS} {ord tr:List Nat} {H C:Hp} {x:cA} {K:Kd} {S:Nat→av.Fn}
theorem DW{S:Nat→av.Fn}{hs:List (Int×Nat)}(a:Int):ie S (fV hs a)=fV (ie S hs) a:=by
 unfold ie fV
 rw[List.filter_map];rfl
theorem EM(h:eo sp c nx F ord tr H):Rd Tryz.prog 89 #[ptr sp,x.v] H (fun w=>w=if iV F x.a&&iV F x.b then c6 0 (-1) (@decide (fF F x.a=fF F x.b) (Classical.propDecidable _)).toNat 0 else c6 3 (-1) 0 0):=by
 obtain⟨kp,mb,K,S,af,hs,es,ck,C,rfl,h,rfl⟩:=h
 rw[cS,cS,iX]
 exact Bq h
theorem Fg(h:eo sp c nx F ord tr H):Rd Tryz.prog 92 #[ptr sp,x.v] H (· =c6 0 (-1) (r0 c.n F ord) 0):=by
 obtain⟨kp,mb,K,S,af,hs,es,ck,C,rfl,h,rfl⟩:=h
 rw[←h.r0]
 exact Bs h
theorem BY(h:eo sp c nx F ord tr H):Rd Tryz.prog 95 #[ptr sp,x.v] H (fun w=>((x.a<0∨(c.n:Int)≤x.a)∧w=c6 2 (-1) 0 0)∨((0≤x.a∧x.a<c.n)∧∃p,p<c.n∧ord.getD p 0=x.a.toNat∧w=c6 0 (-1) p 0)):=by
 obtain⟨kp,mb,K,S,af,hs,es,ck,C,rfl,h,rfl⟩:=h
 by_cases hv:x.a<0∨(c.n:Int)≤x.a
 ·exact(zg h hv).mono fun v H ⟨h1,h2⟩=>⟨h1,.inl ⟨hv,h2⟩⟩
 ·obtain⟨v,PB⟩:∃v:Nat,x.a=v:=⟨x.a.toNat,by omega⟩
  refine(zh h PB (by omega)).mono fun w H ⟨h1,p,hp,ho,h2⟩=>⟨h1,.inr ⟨by omega,p,hp,?_,h2⟩⟩
  rw[PB,Int.toNat_natCast];exact ho
theorem uk(h:eo sp c nx F ord tr H):Rd Tryz.prog 94 #[ptr sp,x.v] H (fun w=>(iV F x.a=false∧w=c6 3 (-1) 0 0)∨(iV F x.a=true∧∃m,tJ (fF F x.a) m∧w=c6 0 (-1) m 0)):=by
 obtain⟨kp,mb,K,S,af,hs,es,ck,C,rfl,h,rfl⟩:=h
 rw[cS,iX]
 refine(sj h (x:=x) (P:=fun n e=>e=0∧tJ (cZ S hs x.a) n) fun r hr=>?_).mono fun v H ⟨e,hv⟩=>⟨e,?_⟩
 ·rw[cj hr]
  exact(tj h.ks (h.live _ (h.find hr))).mono fun v H ⟨e,m,hm,hv⟩=>⟨e,m,0,⟨rfl,hm⟩,hv⟩
 ·rcases hv with h1|⟨h1,n,e,⟨rfl,hn⟩,h2⟩
  ·exact .inl h1
  ·exact .inr ⟨h1,n,hn,h2⟩
theorem I1(h:eo sp c nx F ord tr H)(zO:nx+1<9223372036854775808):Fc Tryz.prog 86 #[ptr sp,x.v] H (fun w H'=>
  (iV F x.a=false∧w=c6 3 (-1) 0 0∧H'=H)∨(iV F x.a=true∧tN (gk F) (fF F x.a)∧w=c6 8 (-1) 0 0∧H'=H)∨
  (iV F x.a=true∧¬tN (gk F) (fF F x.a)∧w=c6 0 nx 0 0∧eo sp c (nx+1) (F++[((nx:Int),fF F x.a)]) ord [] H')):=by
 obtain⟨kp,mb,K,S,af,hs,es,ck,C,rfl,h,rfl⟩:=h
 rw[cS,iX,lK]
 cases hm:aJ hs x.a with
 |none=>
  refine Fc.mono (x7 h (x:=x) (.inl hm)) fun v H ⟨h1,h2⟩=>.inl ⟨rfl,?_,h1⟩
  rw[hm]at h2;exact h2
 |some r=>
  have hl:live K.N r:=h.live _ (h.find hm)
  have hle:=h.ks.jA r
  rw[cj hm]
  by_cases hf:2≤r∧K.hold r=65535
  ·refine Fc.mono (x7 h (x:=x) (.inr ⟨r,hm,hf.1,hf.2⟩)) fun v H ⟨h1,h2⟩=>.inr (.inl ⟨rfl,h.full hf.2 hf.1,?_,h1⟩)
   rw[hm]at h2;exact h2
  ·refine(EJ h zO hm (fun h2=>by omega)).mono ?_
   rintro v H ⟨rfl,K',es',cg,C',rfl,h'⟩
   refine .inr (.inr ⟨rfl,?_,rfl,kp,mb,K',S,af,_,es',cg,C',rfl,h',by unfold ie;rw[List.map_append];rfl⟩)
   rintro⟨hv,hc⟩
   have h2:=(fG h.ks hl).2 hv
   rw[←h.count hl h2]at hc
   omega
theorem yE(h:eo sp c nx F ord tr H):Fc Tryz.prog 87 #[ptr sp,x.v] H (fun w H'=>(iV F x.a=false∧w=c6 3 (-1) 0 0∧H'=H)∨(iV F x.a=true∧w=c6 0 (-1) 0 0∧eo sp c nx (fV F x.a) ord [] H')):=by
 obtain⟨kp,mb,K,S,af,hs,es,ck,C,rfl,h,rfl⟩:=h
 rw[cS]
 cases hm:aJ hs x.a with
 |none=>exact Fc.mono (Bu h (x:=x) hm) fun v H ⟨h1,h2⟩=>.inl ⟨rfl,h2,h1⟩
 |some r=>
  refine(Bt h hm).mono ?_
  rintro v H ⟨rfl,K',es',C',rfl,h'⟩
  exact .inr ⟨rfl,rfl,kp,mb,K',S,af,_,es',ck,C',rfl,h',DW _⟩
noncomputable def Ab(n:Nat)(F:FS)(ord:List Nat)(l:Nat):Nat:=pS n ord l (HF (gk F))
theorem yH(h:eo sp c nx F ord tr H)(iD:tr.length<17592186044416):Fc Tryz.prog 96 #[ptr sp,x.v] H (fun w H'=>
  ((x.a<0∨(c.n:Int)≤x.a+1)∧w=c6 1 (-1) 0 0∧H'=H)∨(∃l:Nat,x.a=l∧l+1<c.n∧¬Ab c.n F ord l+2≤c.cap∧w=c6 9 (-1) 0 0∧H'=H)∨
  (∃l:Nat,x.a=l∧l+1<c.n∧Ab c.n F ord l+2≤c.cap∧w=c6 0 (-1) 0 0∧eo sp c nx F (gL ord l) (tr++[l]) H')):=by
 obtain⟨kp,mb,K,S,af,hs,es,ck,C,rfl,h,rfl⟩:=h
 by_cases ha:x.a<0∨(c.n:Int)≤x.a+1
 ·exact Fc.mono (sq (x:=x) (e:=1) (by decide) (Dq h.ks (l:=x.a) (by rw[h.n];omega))) fun v H ⟨h1,h2⟩=>.inl ⟨ha,h2,h1⟩
 ·obtain⟨l,hl⟩:∃l:Nat,x.a=l:=⟨x.a.toNat,by omega⟩
  have zP:l+1<K.n:=by rw[h.n];omega
  have e:Ab c.n (ie S hs) ord l=pS K.n ord l (K.held S):=by unfold Ab;rw[h.held,lK,h.n]
  by_cases hf:iQ K S ord l
  ·refine(Bv (x:=x) (Q:=fun C'=>At kp K S (gL ord l) (tr++[l]) C') (by rw[hl];exact yU h.ks.aH zP iD hf)).mono ?_
   rintro v H ⟨rfl,C',rfl,K',S',bR,dP,hk⟩
   obtain⟨h',hS⟩:=h.kept dP hk
   exact .inr (.inr ⟨l,hl,by omega,by rw[e,←h.cap];exact hf,rfl,kp,mb,K',S',bR,hs,es,ck,C',rfl,h',jI hS⟩)
  ·refine Fc.mono (sq (x:=x) (e:=9) (by decide) (by rw[hl];exact oT h.ks.aH zP iD hf)) fun v H ⟨h1,h2⟩=>.inr (.inl ⟨l,hl,by omega,?_,h2,h1⟩)
   rw[e,←h.cap];exact hf
theorem iH(h:eo sp c nx F ord tr H)(ha:x.a<0∨6<x.a):Rd Tryz.prog 97 #[ptr sp,x.v] H (· =c6 1 (-1) 0 0):=by
 obtain⟨kp,mb,K,S,af,hs,es,ck,C,rfl,h,rfl⟩:=h
 exact qT ha
theorem I2(h:At kp K S ord tr C){s:Nat}{gr:Int}(hb:6<s∨gr<100∨1000<gr):Rd Tryz.prog 134 #[ptr kp,.int .u8 (s:Int),i64 gr] C (· =i64 1):=by
 refine aP fun g=>pw ?_
 refine aa.an (Br.no ?_)
 refine aa.pA (b:=6) ?_
 refine c7.or (a:=decide (6<s)) (decide (gr<100)) (fun _=>aa.lss ⟨rfl,rfl⟩) rfl fun _=>?_
 refine c7.or (a:=decide (6<s)||decide (gr<100)) (decide (1000<gr)) (fun _=>aa.gtr ⟨rfl,rfl⟩) rfl fun _=>?_
 rw[←Bool.decide_or,←Bool.decide_or,decide_eq_true (by omega)]
 exact Br.yes (bC.mk (.refl _) rfl)
theorem BD(h:At kp K S ord tr C){s:Nat}{gr:Int}(hb:6<s∨gr<100∨1000<gr):Rd Tryz.prog 85 #[ptr kp,.int .u8 (s:Int),i64 gr] C (· =.tuple #[EO 0 0 0 false,i64 1]):=by
 refine aP fun g=>qK ?_
 intro b1 _
 refine ae.eq (I2 h hb) ?_
 refine aa.eP (Br.T ?_)
 refine Build.mk (cs:=[.int .i64 0,.int .i64 0,.int .i64 0,.bool false]) (by kernel_rfl) ?_
 refine St.q ?_
 refine ay.q ?_
 exact bC.mk .tail rfl
theorem nV(h:eo sp c nx F ord tr H){s:Nat}(hs:x.a=s)(PJ:s≤6)(hb:x.b<100∨1000<x.b):Fc Tryz.prog 97 #[ptr sp,x.v] H (fun w H'=>w=c6 1 (-1) 0 0∧H'=H):=by
 obtain⟨kp,mb,K,S,af,hs',es,ck,C,rfl,h,rfl⟩:=h
 have hle:=ia h.ks.aH
 refine(sk (x:=x) hs PJ (Q:=fun e _ H=>e=1∧H=C) (Fc.mono (BD h.ks.aH (s:=s) (.inr hb)) fun v H ⟨h1,h2⟩=>?_)).mono ?_
 ·subst h1
  exact⟨_,_,_,_,_,h2,_,⟨rfl,rfl⟩,ic h.ks.aH,by omega⟩
 ·rintro v H ⟨e,n,C',rfl,rfl,rfl,rfl⟩
  exact⟨rfl,rfl⟩
end
theorem pV{b k len:Nat}{rs:List (List Value)}{T:TypeId}(hr:∀r∈rs,r.length=k)(hk:0<k)(hl:rs.length=len):Sl k [(b,.cells (rows rs) T (0,0))] (.slice (some ⟨b,0,none⟩) len len) rs:=by
 have h:=aI.mk' (T:=T) (k:=k) (b:=b) (rs:=rs) (ax:=[]) (n:=len) (c:=len) (by simpa using hr) hl.symm (by simp[hl])
 rw[List.append_nil]at h
 exact Sl.mT h hk
section
variable {sp nx n cap:Nat} {c:Cf} {F:FS} {ord tr o:List Nat} {H:Hp} {x:cA}
theorem BQ(h:((gk F).length+3)*2^n+2≤cap):¬rX n cap (gk F) (fF F) x o 9:=by
 have room:∀(L2:List av.Fn) (P:av.Fn→Prop),L2.length≤3→(∀g,P g→HF (gk F) g∨g∈L2)→Fits (aF n o P) cap:=fun L2 P hl hP=>by
  refine kB (L:=gk F++L2) (fun g hg=>?_) ?_
  ·rcases hP g hg with h|h
   ·exact List.mem_append_left _ h.1
   ·exact List.mem_append_right _ h
  ·rw[List.length_append]
   exact Nat.le_trans (Nat.add_le_add_right (Nat.mul_le_mul_right _ (by omega)) 2) h
 unfold rX
 split
 ·rintro(h|⟨_,i,_,_,hf⟩|⟨h,_⟩)
  ·cases h
  ·refine hf (room [GF true (bitsOf x.x i) (fF F x.a),qf true i (GF true (bitsOf x.x i) (fF F x.a))] _ (by simp) fun g hg=>?_)
   rcases hg with(h|⟨_,h⟩)|h
   ·exact .inl h
   ·exact .inr (by simp[h])
   ·exact .inr (by simp[h])
  ·cases h
 split
 ·rintro(h|⟨_,i,_,_,hf⟩|⟨h,_⟩)
  ·cases h
  ·refine hf (room [GF false (bitsOf x.x i) (fF F x.a),qf false i (GF false (bitsOf x.x i) (fF F x.a))] _ (by simp) fun g hg=>?_)
   rcases hg with(h|⟨_,h⟩)|h
   ·exact .inl h
   ·exact .inr (by simp[h])
   ·exact .inr (by simp[h])
  ·cases h
 split
 ·rintro(h|⟨_,hf|hf|hf⟩|⟨h,_⟩)
  ·cases h
  ·exact hf (room [_] _ (by simp) fun g hg=>hg.imp id fun h=>by simpa using h)
  ·refine hf (room [fun y=>fF F x.a (eH.aO y x.b.toNat false),fun y=>fF F x.a (eH.aO y x.b.toNat true)] _ (by simp) fun g hg=>?_)
   rcases hg with(h|h)|h
   ·exact .inl h
   ·exact .inr (by simp[h])
   ·exact .inr (by simp[h])
  ·refine hf (room [fun y=>fF F x.a (eH.aO y x.b.toNat false),fun y=>fF F x.a (eH.aO y x.b.toNat true),fU n (fF F) x] _ (by simp) fun g hg=>?_)
   rcases hg with((h|h)|h)|h
   ·exact .inl h
   ·exact .inr (by simp[h])
   ·exact .inr (by simp[h])
   ·exact .inr (by simp[h])
  ·cases h
 ·rintro(⟨h,_⟩|⟨_,hf⟩|⟨h,_⟩)
  ·cases h
  ·exact hf (room [_] _ (by simp) fun g hg=>hg.imp id fun h=>by simpa using h)
  ·cases h
theorem oP(L:List av.Fn)(g:av.Fn):tn L g≤L.length:=List.countP_le_length
theorem q8(h:(gk F).length<65533):¬rX n cap (gk F) (fF F) x o 8:=by
 unfold rX
 split
 ·rintro(h|⟨h,_⟩|⟨_,g,hg⟩)
  ·cases h
  ·cases h
  ·have:=oP (gk F) g;omega
 split
 ·rintro(h|⟨h,_⟩|⟨_,g,hg⟩)
  ·cases h
  ·cases h
  ·have:=oP (gk F) g;omega
 split
 ·rintro(h|⟨h,_⟩|⟨_,g,hg⟩)
  ·cases h
  ·cases h
  ·have:=oP (gk F) g;omega
 ·rintro(⟨h,_⟩|⟨h,_⟩|⟨_,h⟩)
  ·cases h
  ·cases h
  ·have:=oP (gk F) (fU n (fF F) x)
   have:=h.2
   omega
theorem dG{w f:Nat}(h:eo sp c nx F ord tr H)(hc:c.Ok)(zO:nx+1<9223372036854775808)(hx:x.x<18446744073709551616)(hm:fY x.op=some (w,f))(hf:ni f x.op w)(fo:aS Tryz.prog f=true)(hw:w<256)(hl:mX c.n F w x=0)
 (hr:(F.length+3)*2^c.n+2≤c.cap)(h8:F.length<65533):
  Fc Tryz.prog 16 #[ptr sp,x.v] H (fun v H'=>v=c6 0 nx 0 1∧eo sp c (nx+1) (F++[((nx:Int),fU c.n (fF F) x)]) ord [] H'):=by
 have hlen:(gk F).length=F.length:=by unfold gk;rw[List.length_map]
 have Jl:∀o,¬rX c.n c.cap (gk F) (fF F) x o 9:=fun o=>BQ (by rw[hlen];exact hr)
 refine gp (fun v H h=>?_) (fun w' f' hm'=>?_) (fun f hn=>by rw[hm]at hn;cases hn) (fun hn=>by rw[hm]at hn;cases hn)
 ·obtain⟨rfl,_⟩:=h;exact⟨_,_,_,_,rfl⟩
 ·rw[hm]at hm'
  cases hm'
  refine(rj (R:=fun _ _=>False) h hc zO hx hf fo hw hl fun hT _ _=>absurd hT (Jl _)).mono ?_
  rintro v H' ⟨t,o,ef,ht,hT,hq⟩
  have h1:t=1∧o=ord:=by
   cases hT with
   |one=>exact⟨rfl,rfl⟩
   |more h h9 _=>exact absurd h9 (Jl _)
  obtain⟨rfl,rfl⟩:=h1
  rcases hq with⟨rfl,h',_⟩|⟨e,he,_,_,z7,_⟩
  ·exact⟨rfl,h'⟩
  ·rcases he with rfl|rfl
   ·exact absurd z7 (q8 (by rw[hlen];exact h8))
   ·exact absurd z7 (Jl _)
theorem lf{w f:Nat}(h:eo sp c nx F ord tr H)(hx:x.x<18446744073709551616)(hm:fY x.op=some (w,f))(hw:w<256)(hl:mX c.n F w x≠0):
  Fc Tryz.prog 16 #[ptr sp,x.v] H (fun v H'=>v=c6 (mX c.n F w x) (-1) 0 0∧H'=H):=by
 refine gp (fun v H h=>?_) (fun w' f' hm'=>?_) (fun f hn=>by rw[hm]at hn;cases hn) (fun hn=>by rw[hm]at hn;cases hn)
 ·obtain⟨rfl,_⟩:=h;exact⟨_,_,_,_,rfl⟩
 ·rw[hm]at hm'
  cases hm'
  exact Fc.mono (uA h hx hw hl) fun v H ⟨e1,e2⟩=>⟨e2,e1⟩
theorem bY{f:Nat}{Q:Value→Hp→Prop}(hm:fY x.op=none)(ha:jH x.op=some f)(hQ:∀v H,Q v H→Gs v)(h:Fc Tryz.prog f #[ptr sp,x.v] H Q):Fc Tryz.prog 16 #[ptr sp,x.v] H Q:=
 gp hQ (fun w f hn=>by rw[hm]at hn;cases hn) (fun f' _ cI _=>by rw[ha]at cI;cases cI;exact h) (fun _ hn=>by rw[ha]at hn;cases hn)
end
def O1:List cA:=[⟨1,0,0,0,0⟩,⟨1,1,0,0,0⟩,⟨4,0,1,0,0⟩,⟨16,2,0,0,0⟩,⟨14,2,0,0,3⟩,⟨1,2,0,0,0⟩]
def JO:List Rp:=[⟨0,0,0,1⟩,⟨0,1,0,1⟩,⟨0,2,0,1⟩,⟨0, -1,1,0⟩,⟨0, -1,1,0⟩,⟨2, -1,0,0⟩]
def O2:FS:=[(0,fun y=>y.testBit 0),(1,fun y=>y.testBit 1),(2,fun y=>y.testBit 0&&y.testBit 1)]
def Hs:Cf:=⟨2,1048576,0,100,0⟩
theorem rR:Hs.Ok:=⟨by decide,by decide,by decide,by decide,by decide,by decide⟩
theorem Gj{i sp:Nat}{H:Hp}{x:cA}(hx:O1[i]? =some x)(h:eo sp Hs (min i 3) (O2.take i) [0,1] [] H):
  Fc Tryz.prog 16 #[ptr sp,x.v] H (fun v H'=>∃r,JO[i]? =some r∧v=r.v∧eo sp Hs (min (i+1) 3) (O2.take (i+1)) [0,1] [] H'):=by
 have hi:i<6:=(List.getElem?_eq_some_iff.1 hx).1
 obtain rfl|rfl|rfl|rfl|rfl|rfl:i=0∨i=1∨i=2∨i=3∨i=4∨i=5:=by omega
 ·cases hx
  refine(dG h rR (by decide) (by decide) (w:=8) rfl (l5 rfl).1 (l5 (x:=⟨1,0,0,0,0⟩) rfl).2 (by decide) rfl (by decide) (by decide)).mono ?_
  rintro v H' ⟨rfl,h'⟩
  exact⟨_,rfl,rfl,h'⟩
 ·cases hx
  refine(dG h rR (by decide) (by decide) (w:=8) rfl (l5 rfl).1 (l5 (x:=⟨1,1,0,0,0⟩) rfl).2 (by decide) rfl (by decide) (by decide)).mono ?_
  rintro v H' ⟨rfl,h'⟩
  exact⟨_,rfl,rfl,h'⟩
 ·cases hx
  refine(dG h rR (by decide) (by decide) (w:=3) rfl (tB rfl).1 (tB (x:=⟨4,0,1,0,0⟩) rfl).2 (by decide) rfl (by decide) (by decide)).mono ?_
  rintro v H' ⟨rfl,h'⟩
  exact⟨_,rfl,rfl,h'⟩
 ·cases hx
  refine bY (f:=90) rfl rfl (fun v H h=>?_) (Fc.mono (EK h) ?_)
  ·obtain⟨r,_,rfl,_⟩:=h;exact⟨_,_,_,_,rfl⟩
  rintro v H' ⟨rfl,rfl⟩
  refine⟨_,rfl,?_,h⟩
  have:sat 2 (fun y=>y.testBit 0&&y.testBit 1)%r3=1:=by decide+kernel
  show c6 0 (-1) (sat 2 (fun y=>y.testBit 0&&y.testBit 1)%r3) 0=_
  rw[this];rfl
 ·cases hx
  refine bY (f:=88) rfl rfl (fun v H h=>?_) (Fc.mono (Gc h (by decide)) ?_)
  ·obtain⟨r,_,rfl,_⟩:=h;exact⟨_,_,_,_,rfl⟩
  rintro v H' ⟨rfl,rfl⟩
  exact⟨_,rfl,rfl,h⟩
 ·cases hx
  refine(lf h (by decide) (w:=8) rfl (by decide) (by decide)).mono ?_
  rintro v H' ⟨rfl,rfl⟩
  exact⟨_,rfl,rfl,h⟩
set_option maxHeartbeats 1000000 in
theorem u7(B:Hp):Rd Tryz.prog 13 #[] B (· =.bool true):=by
 refine aP fun g=>A0 ?_
 refine ae.eq (BM 2 _) ?_
 refine Build.mk (cs:=cA.cells ⟨1,0,0,0,0⟩) (by kernel_rfl) ?_
 refine Build.mk (cs:=cA.cells ⟨1,1,0,0,0⟩) (by kernel_rfl) ?_
 refine Build.mk (cs:=cA.cells ⟨4,0,1,0,0⟩) (by kernel_rfl) ?_
 refine Build.mk (cs:=cA.cells ⟨16,2,0,0,0⟩) (by kernel_rfl) ?_
 refine Build.mk (cs:=cA.cells ⟨14,2,0,0,3⟩) (by kernel_rfl) ?_
 refine Build.mk (cs:=cA.cells ⟨1,2,0,0,0⟩) (by kernel_rfl) ?_
 refine ak.many (e:=35) (k:=5) (z:=.agg #[.int .u8 0,i64 0,i64 0,i64 0,u64 0]) (O1.map cA.cells) (by kernel_rfl) (by kernel_rfl) (by kernel_rfl) (by decide) (by decide) rfl rfl fun bx=>?_
 refine ae.fn (br.left (A:=B)) (q5 (c:=Hs.i) (steps:=O1) (Y:=[(bx,_)]) (pV (by decide) (by decide) rfl) (by decide) (fun i sp l H=>l=JO.take i∧eo sp Hs (min i 3) (O2.take i) [0,1] [] H) (fun d hd hok sp kp mb C hK=>?_) (fun i sp l H x he hx hI hl=>?_)) ?_
 ·have:d=Hs:=by
   obtain⟨a1,a2,a3,a4,a5⟩:=d
   simp only[Hs,Cf.i,nh.mk.injEq]at hd
   simp only[Hs,Cf.mk.injEq]
   omega
  subst this
  exact⟨rfl,rC hK⟩
 ·obtain⟨rfl,hI⟩:=hI
  refine(Gj hx hI).mono ?_
  rintro v H' ⟨r,hr,rfl,h'⟩
  exact⟨r,rfl,by rw[List.take_add_one,hr];rfl,h'⟩
 ·rintro w H (⟨hne,_⟩|⟨_,sp,l,s,CR,HS,rfl,rfl,hR,hl,hI⟩)
  ·exact absurd rR.dY hne
  have KC:l=JO:=hI.1
  subst KC
  refine Ext.two ?_
  refine Build.mk (cs:=Rp.cells ⟨0,0,0,1⟩) (by kernel_rfl) ?_
  refine Build.mk (cs:=Rp.cells ⟨0,1,0,1⟩) (by kernel_rfl) ?_
  refine Build.mk (cs:=Rp.cells ⟨0,2,0,1⟩) (by kernel_rfl) ?_
  refine Build.mk (cs:=Rp.cells ⟨0, -1,1,0⟩) (by kernel_rfl) ?_
  refine Build.mk (cs:=Rp.cells ⟨0, -1,1,0⟩) (by kernel_rfl) ?_
  refine Build.mk (cs:=Rp.cells ⟨2, -1,0,0⟩) (by kernel_rfl) ?_
  refine ak.many (e:=37) (k:=4) (z:=.agg #[i64 0,i64 0,u64 0,i64 0]) (JO.map Rp.cells) (by kernel_rfl) (by kernel_rfl) (by kernel_rfl) (by decide) (by decide) rfl rfl fun LG=>?_
  intro O7 Sn
  refine aa.iq ?_
  refine Split.go (by decide) ?_
  refine ae.eh .here (mu (l:=JO) (r:=JO) ((Sl.mT hR (by decide)).mono fun _ h=>?_) ((pV (T:=37) (by decide) (by decide) rfl).mono fun _ h=>?_) (by decide)) ?_
  ·exact .tail _ (List.mem_append_left _ (List.mem_append_left _ h))
  ·rw[List.mem_singleton.1 h];exact .head _
  rw[er.2 rfl]
  refine aq.mk (JE.mk (Sn _ _ fun _=>?_))
  exact bC.mk (.skip aR.right) rfl
def g0:av.Fn:=fun y=>y.testBit 0
def g1:av.Fn:=fun y=>y.testBit 1
def g2:av.Fn:=fun y=>y.testBit 0&&y.testBit 1
def g3:av.Fn:=fun y=> !g2 y
def g4:av.Fn:=fun _=>decide ((0:Int)=1)
def MF:List cA:=[⟨1,0,0,0,0⟩,⟨1,1,0,0,0⟩,⟨4,0,1,0,0⟩,⟨12,2,0,0,0⟩,⟨15,2,3,0,0⟩,⟨13,2,0,0,0⟩,⟨3,2,0,0,0⟩,⟨13,2,0,0,0⟩,⟨3,3,0,0,0⟩,⟨2,2,0,0,0⟩,⟨8,9,9,9,0⟩,⟨9,0,0,0,4⟩,⟨0,0,0,0,0⟩,⟨24,0,0,0,0⟩,⟨2,0,0,0,0⟩,⟨19,5,0,0,0⟩,⟨23,256,100,0,0⟩,⟨22,0,0,0,0⟩,⟨22,1,0,0,0⟩,⟨21,0,0,0,0⟩,⟨20,3,0,0,0⟩,⟨23,0,99,0,0⟩,⟨23, -1,100,0,0⟩]
def Hl:List Rp:=[⟨0,0,0,1⟩,⟨0,1,0,1⟩,⟨0,2,0,1⟩,⟨0,3,0,0⟩,⟨0, -1,1,0⟩,⟨0, -1,0,0⟩,⟨3, -1,0,0⟩,⟨3, -1,0,0⟩,⟨0,4,0,1⟩,⟨1, -1,0,0⟩,⟨1, -1,0,0⟩,⟨2, -1,0,0⟩,⟨12, -1,0,0⟩,⟨12, -1,0,0⟩,⟨0,5,0,1⟩,⟨10, -1,0,0⟩,⟨1, -1,0,0⟩,⟨0, -1,0,0⟩,⟨1, -1,0,0⟩,⟨0, -1,1,0⟩,⟨0, -1,3,0⟩,⟨1, -1,0,0⟩,⟨1, -1,0,0⟩]
def kR:Cf:=⟨2,100,0,100,0⟩
theorem mF:kR.Ok:=⟨by decide,by decide,by decide,by decide,by decide,by decide⟩
def Gv(sp i:Nat)(H:Hp):Prop:=match i with
 |0=>eo sp kR 0 [] [0,1] [] H
 |1=>eo sp kR 1 [(0,g0)] [0,1] [] H
 |2=>eo sp kR 2 [(0,g0),(1,g1)] [0,1] [] H
 |3=>eo sp kR 3 [(0,g0),(1,g1),(2,g2)] [0,1] [] H
 |4=>eo sp kR 4 [(0,g0),(1,g1),(2,g2),(3,g2)] [0,1] [] H
 |5=>eo sp kR 4 [(0,g0),(1,g1),(2,g2),(3,g2)] [0,1] [] H
 |6=>eo sp kR 4 [(0,g0),(1,g1),(3,g2)] [0,1] [] H
 |7=>eo sp kR 4 [(0,g0),(1,g1),(3,g2)] [0,1] [] H
 |8=>eo sp kR 4 [(0,g0),(1,g1),(3,g2)] [0,1] [] H
 |9=>eo sp kR 5 [(0,g0),(1,g1),(3,g2),(4,g3)] [0,1] [] H
 |10=>eo sp kR 5 [(0,g0),(1,g1),(3,g2),(4,g3)] [0,1] [] H
 |11=>eo sp kR 5 [(0,g0),(1,g1),(3,g2),(4,g3)] [0,1] [] H
 |12=>eo sp kR 5 [(0,g0),(1,g1),(3,g2),(4,g3)] [0,1] [] H
 |13=>eo sp kR 5 [(0,g0),(1,g1),(3,g2),(4,g3)] [0,1] [] H
 |14=>eo sp kR 5 [(0,g0),(1,g1),(3,g2),(4,g3)] [0,1] [] H
 |15=>eo sp kR 6 [(0,g0),(1,g1),(3,g2),(4,g3),(5,g4)] [0,1] [] H
 |16=>eo sp kR 6 [(0,g0),(1,g1),(3,g2),(4,g3),(5,g4)] [0,1] [] H
 |17=>eo sp kR 6 [(0,g0),(1,g1),(3,g2),(4,g3),(5,g4)] [0,1] [] H
 |18=>eo sp kR 6 [(0,g0),(1,g1),(3,g2),(4,g3),(5,g4)] [1,0] [0] H
 |19=>eo sp kR 6 [(0,g0),(1,g1),(3,g2),(4,g3),(5,g4)] [1,0] [0] H
 |20=>eo sp kR 6 [(0,g0),(1,g1),(3,g2),(4,g3),(5,g4)] [1,0] [0] H
 |21=>eo sp kR 6 [(0,g0),(1,g1),(3,g2),(4,g3),(5,g4)] [1,0] [0] H
 |22=>eo sp kR 6 [(0,g0),(1,g1),(3,g2),(4,g3),(5,g4)] [1,0] [0] H
 |23=>eo sp kR 6 [(0,g0),(1,g1),(3,g2),(4,g3),(5,g4)] [1,0] [0] H
 |_=>False
theorem F3:tJ g2 3:=by
 refine⟨by decide,fun v=>?_⟩
 constructor
 ·intro hv
  have:v=0∨v=1:=by
   rcases v with _|_|v
   ·exact .inl rfl
   ·exact .inr rfl
   ·rw[show v+1+1=v+2 from rfl,Nat.testBit_eq_decide_div_mod_eq]at hv
    have h2:3/2^(v+2)=0:=Nat.div_eq_of_lt (Nat.lt_of_lt_of_le (show 3<2^2 by decide) (Nat.pow_le_pow_right (by decide) (by omega)))
    rw[h2]at hv;simp at hv
  rcases this with rfl|rfl
  ·exact⟨2,by decide⟩
  ·exact⟨1,by decide⟩
 ·rintro⟨y,hy⟩
  rcases v with _|_|v
  ·rfl
  ·rfl
  ·exfalso
   refine hy ?_
   unfold g2
   rw[eH.ah,eH.ah,eH.ah,eH.ah,if_neg (by omega),if_neg (by omega),if_neg (by omega),if_neg (by omega)]
section
variable {kp sp nx:Nat} {K:Kd} {S:Nat→av.Fn} {ord af tr:List Nat} {C H:Hp} {c:Cf} {F:FS} {x:cA}
theorem qZ(h:cv kp K S ord af tr C):Rd Tryz.prog 148 #[ptr kp,u32 0] C (· =.tuple #[u64 0,i64 10]):=by
 refine aP fun g=>xA ?_
 refine ae.eq (v:=.tuple #[u64 0,i64 10]) (B:=C) (aP fun g=>wU ?_) ?_
 ·refine ae.eq (v:=i64 10) (B:=C) (aP fun g=>wo ?_) ?_
  ·refine aa.an (Br.no ?_)
   refine ae.eq (iR h.rep (r:=0) (by decide)) ?_
   rw[if_pos (bD.2 (.inl (by decide)))]
   refine Ext.two ?_
   intro b6 _
   refine St.whole (r:=got K.N 0) (by exact .head _) rfl (aQ _ _).1 (aQ _ _).2 ?_
   refine aa.eP (Br.F ?_)
   refine aa.mI (b:=0) (Br.T ?_)
   exact bC.mk .tail rfl
  refine aa.eP (Br.T ?_)
  exact bC.mk (.refl _) rfl
 refine Ext.two ?_
 exact bC.mk (.refl _) rfl
theorem oc(h:eo sp c nx F ord tr H)(hx:iV F x.a=true)(hf:fF F x.a=fun _=>false):Rd Tryz.prog 93 #[ptr sp,x.v] H (· =c6 10 (-1) 0 0):=by
 obtain⟨kp,mb,K,S,af,hs,es,ck,C,rfl,h,rfl⟩:=h
 rw[cS]at hx
 rw[iX]at hf
 refine(zi h (x:=x) (P:=fun n e=>n=0∧e=10) fun r hr=>?_).mono fun v H ⟨e,hv⟩=>⟨e,?_⟩
 ·rw[cj hr]at hf
  have:r=0:=(h.same (h.live _ (h.find hr)) (.inl (by decide))).1 (by rw[hf];exact(funext h.ks.ok.mid.int.zero).symm)
  subst this
  exact(qZ h.ks).mono fun v H ⟨e,hv⟩=>⟨e,0,10,⟨rfl,rfl⟩,hv⟩
 ·rcases hv with⟨h1,_⟩|⟨_,n,e,⟨rfl,rfl⟩,h2⟩
  ·rw[h1]at hx;cases hx
  ·exact h2
theorem Af(hl:F.length*2^c.n*2+2≤c.cap)(l:Nat):Ab c.n F ord l+2≤c.cap:=by
 have hlen:(gk F).length=F.length:=by unfold gk;rw[List.length_map]
 have one:∀o:List Nat,∃k,k≤F.length*2^c.n∧jJ (aF c.n o (HF (gk F))) k:=fun o=>by
  obtain⟨k,hk,hc⟩:=kB (n:=c.n) (ord:=o) (F:=HF (gk F)) (L:=gk F) (cap:=(gk F).length*2^c.n+2) (fun g hg=>hg.1) (Nat.le_refl _)
  exact⟨k,by rw[hlen]at hc;omega,hk⟩
 obtain⟨k1,h1,c1⟩:=one ord
 obtain⟨k2,h2,c2⟩:=one (gL ord l)
 have:=HD (l:=l) c1 c2
 unfold Ab
 omega
theorem p7(hm:fY x.op=none)(ha:jH x.op=none):Fc Tryz.prog 16 #[ptr sp,x.v] H (fun v H'=>v=c6 12 (-1) 0 0∧H'=H):=
 gp (fun v H h=>⟨_,_,_,_,h.1⟩) (fun w f hn=>by rw[hm]at hn;cases hn) (fun f _ hn=>by rw[ha]at hn;cases hn) (fun _ _=>⟨rfl,rfl⟩)
end
theorem p0{c:Cf}{nx b:Nat}{F:FS}{T:List Nat→Nat→Prop}(hc:c.Ok)(hs:c.str=1)(hb:b<17000000000000):DY c nx F T (fun _ _=>True) b:=by
 intro kp K S o af tr hs' es ck C hT h hF iD
 have hp:=h.ks.perm
 have hn:=h.ks.aH.mV
 rw[hs]
 refine(BB (Q:=fun v H=>∃(ls:List Nat) (a b d:Int) (t:Bool),v=.tuple #[EO a b d t,.int .i64 0]∧At kp K S (aK o ls) (tr++ls) H∧yX (rm K S) o ls) h.ks.aH hc.gr ((BA h.ks.aH hp hc.gr (by omega)).mono ?_) ?_).mono ?_
 ·rintro v H ⟨l,hl,rfl,hA⟩
  exact⟨_,_,_,_,_,rfl,hA,(um (m:=rm K S) (g:=c.gr) hp hl hn).1⟩
 ·rintro v H ⟨ls,a,b,d,t,rfl,_⟩
  exact⟨_,_,_,_,_,rfl⟩
 ·rintro v H ⟨ls,a,b,d,t,rfl,hA,hS⟩
  exact⟨ls,_,_,rfl,trivial,hA,hS.len⟩
theorem F5{i sp:Nat}{H:Hp}{x:cA}(hx:MF[i]? =some x)(h:Gv sp i H):Fc Tryz.prog 16 #[ptr sp,x.v] H (fun v H'=>∃r,Hl[i]? =some r∧v=r.v∧Gv sp (i+1) H'):=by
 have hi:i<23:=(List.getElem?_eq_some_iff.1 hx).1
 have rp:∀{j:Nat} (v:Value) (H':Hp),(∃r,Hl[j]? =some r∧v=r.v∧Gv sp (j+1) H')→Gs v:=fun v H' ⟨r,_,e,_⟩=>⟨_,_,_,_,e⟩
 obtain rfl|rfl|rfl|rfl|rfl|rfl|rfl|rfl|rfl|rfl|rfl|rfl|rfl|rfl|rfl|rfl|rfl|rfl|rfl|rfl|rfl|rfl|rfl:i=0∨i=1∨i=2∨i=3∨i=4∨i=5∨i=6∨i=7∨i=8∨i=9∨i=10∨i=11∨i=12∨i=13∨i=14∨i=15∨i=16∨i=17∨i=18∨i=19∨i=20∨i=21∨i=22:=by omega
 ·cases hx
  refine(dG (x:=⟨1,0,0,0,0⟩) h mF (by decide) (by decide) (w:=8) (f:=72) rfl fh (by kernel_rfl) (by decide) rfl (by decide) (by decide)).mono ?_
  rintro v H' ⟨rfl,h'⟩
  exact⟨_,rfl,rfl,h'⟩
 ·cases hx
  refine(dG (x:=⟨1,1,0,0,0⟩) h mF (by decide) (by decide) (w:=8) (f:=72) rfl fh (by kernel_rfl) (by decide) rfl (by decide) (by decide)).mono ?_
  rintro v H' ⟨rfl,h'⟩
  exact⟨_,rfl,rfl,h'⟩
 ·cases hx
  refine(dG (x:=⟨4,0,1,0,0⟩) h mF (by decide) (by decide) (w:=3) (f:=75) rfl x9 (by kernel_rfl) (by decide) rfl (by decide) (by decide)).mono ?_
  rintro v H' ⟨rfl,h'⟩
  exact⟨_,rfl,rfl,h'⟩
 ·cases hx
  refine bY (x:=⟨12,2,0,0,0⟩) (f:=86) rfl rfl rp ((I1 h (by decide)).mono ?_)
  rintro v H' (⟨e,_⟩|⟨_,hF,_⟩|⟨_,_,rfl,h'⟩)
  ·cases e
  ·have h1:=hF.2
   have h2:=oP (gk [(0,g0),(1,g1),(2,g2)]) (fF [(0,g0),(1,g1),(2,g2)] 2)
   have h3:(gk [(0,g0),(1,g1),(2,g2)]).length=3:=rfl
   have h4:65535≤tn (gk [(0,g0),(1,g1),(2,g2)]) (fF [(0,g0),(1,g1),(2,g2)] 2):=h1
   omega
  ·exact⟨_,rfl,rfl,h'⟩
 ·cases hx
  refine bY (x:=⟨15,2,3,0,0⟩) (f:=89) rfl rfl rp (Fc.mono (EM h) ?_)
  rintro v H' ⟨rfl,rfl⟩
  refine⟨_,rfl,?_,h⟩
  have e:(@decide (fF [(0,g0),(1,g1),(2,g2),(3,g2)] 2=fF [(0,g0),(1,g1),(2,g2),(3,g2)] 3) (Classical.propDecidable _))=true:= @decide_eq_true _ (Classical.propDecidable _) rfl
  show c6 0 (-1) (@decide (fF [(0,g0),(1,g1),(2,g2),(3,g2)] 2=fF [(0,g0),(1,g1),(2,g2),(3,g2)] 3) (Classical.propDecidable _)).toNat 0=_
  rw[e];rfl
 ·cases hx
  refine bY (x:=⟨13,2,0,0,0⟩) (f:=87) rfl rfl rp ((yE h).mono ?_)
  rintro v H' (⟨e,_⟩|⟨_,rfl,h'⟩)
  ·cases e
  ·exact⟨_,rfl,rfl,h'⟩
 ·cases hx
  refine(lf (x:=⟨3,2,0,0,0⟩) h (by decide) (w:=1) (f:=74) rfl (by decide) (by decide)).mono ?_
  rintro v H' ⟨rfl,rfl⟩
  exact⟨_,rfl,rfl,h⟩
 ·cases hx
  refine bY (x:=⟨13,2,0,0,0⟩) (f:=87) rfl rfl rp ((yE h).mono ?_)
  rintro v H' (⟨_,rfl,rfl⟩|⟨e,_⟩)
  ·exact⟨_,rfl,rfl,h⟩
  ·cases e
 ·cases hx
  refine(dG (x:=⟨3,3,0,0,0⟩) h mF (by decide) (by decide) (w:=1) (f:=74) rfl EF (by kernel_rfl) (by decide) rfl (by decide) (by decide)).mono ?_
  rintro v H' ⟨rfl,h'⟩
  exact⟨_,rfl,rfl,h'⟩
 ·cases hx
  refine(lf (x:=⟨2,2,0,0,0⟩) h (by decide) (w:=32) (f:=73) rfl (by decide) (by decide)).mono ?_
  rintro v H' ⟨rfl,rfl⟩
  exact⟨_,rfl,rfl,h⟩
 ·cases hx
  refine(lf (x:=⟨8,9,9,9,0⟩) h (by decide) (w:=81) (f:=79) rfl (by decide) (by decide)).mono ?_
  rintro v H' ⟨rfl,rfl⟩
  exact⟨_,rfl,rfl,h⟩
 ·cases hx
  refine(lf (x:=⟨9,0,0,0,4⟩) h (by decide) (w:=129) (f:=80) rfl (by decide) (by decide)).mono ?_
  rintro v H' ⟨rfl,rfl⟩
  exact⟨_,rfl,rfl,h⟩
 ·cases hx
  refine(p7 (x:=⟨0,0,0,0,0⟩) rfl rfl).mono ?_
  rintro v H' ⟨rfl,rfl⟩
  exact⟨_,rfl,rfl,h⟩
 ·cases hx
  refine(p7 (x:=⟨24,0,0,0,0⟩) rfl rfl).mono ?_
  rintro v H' ⟨rfl,rfl⟩
  exact⟨_,rfl,rfl,h⟩
 ·cases hx
  refine(dG (x:=⟨2,0,0,0,0⟩) h mF (by decide) (by decide) (w:=32) (f:=73) rfl kX (by kernel_rfl) (by decide) rfl (by decide) (by decide)).mono ?_
  rintro v H' ⟨rfl,h'⟩
  exact⟨_,rfl,rfl,h'⟩
 ·cases hx
  refine bY (x:=⟨19,5,0,0,0⟩) (f:=93) rfl rfl rp (Fc.mono (oc h rfl (funext fun _=>rfl)) ?_)
  rintro v H' ⟨rfl,rfl⟩
  exact⟨_,rfl,rfl,h⟩
 ·cases hx
  refine bY (x:=⟨23,256,100,0,0⟩) (f:=97) rfl rfl rp (Fc.mono (iH (x:=⟨23,256,100,0,0⟩) h (by decide)) ?_)
  rintro v H' ⟨rfl,rfl⟩
  exact⟨_,rfl,rfl,h⟩
 ·cases hx
  refine bY (x:=⟨22,0,0,0,0⟩) (f:=96) rfl rfl rp ((yH (x:=⟨22,0,0,0,0⟩) h (by decide)).mono ?_)
  rintro v H' (⟨e,_⟩|⟨l,_,_,hno,_⟩|⟨l,hl,_,_,rfl,h'⟩)
  ·exact absurd e (by decide)
  ·exact absurd (Af (c:=kR) (by decide) l) hno
  ·have:l=0:=by simp only at hl;omega
   subst this
   exact⟨_,rfl,rfl,h'⟩
 ·cases hx
  refine bY (x:=⟨22,1,0,0,0⟩) (f:=96) rfl rfl rp ((yH (x:=⟨22,1,0,0,0⟩) h (by decide)).mono ?_)
  rintro v H' (⟨_,rfl,rfl⟩|⟨l,hl,jC,_⟩|⟨l,hl,jC,_⟩)
  ·exact⟨_,rfl,rfl,h⟩
  ·have h1:(1:Int)=l:=hl
   have h2:l+1<2:=jC
   omega
  ·have h1:(1:Int)=l:=hl
   have h2:l+1<2:=jC
   omega
 ·cases hx
  refine bY (x:=⟨21,0,0,0,0⟩) (f:=95) rfl rfl rp (Fc.mono (BY (x:=⟨21,0,0,0,0⟩) h) ?_)
  rintro v H' ⟨rfl,(⟨e,_⟩|⟨_,p,hp,ho,rfl⟩)⟩
  ·exact absurd e (by decide)
  ·have me:p<2:=hp
   have:p=1:=by
    obtain rfl|rfl:p=0∨p=1:=by omega
    ·exact absurd ho (by decide)
    ·rfl
   subst this
   exact⟨_,rfl,rfl,h⟩
 ·cases hx
  refine bY (x:=⟨20,3,0,0,0⟩) (f:=94) rfl rfl rp (Fc.mono (uk (x:=⟨20,3,0,0,0⟩) h) ?_)
  rintro v H' ⟨rfl,(⟨e,_⟩|⟨_,m,hm,rfl⟩)⟩
  ·cases e
  ·have:m=3:=tJ.uniq (f:=g2) hm F3
   subst this
   exact⟨_,rfl,rfl,h⟩
 ·cases hx
  refine bY (x:=⟨23,0,99,0,0⟩) (f:=97) rfl rfl rp ((nV (x:=⟨23,0,99,0,0⟩) (s:=0) h rfl (by decide) (by decide)).mono ?_)
  rintro v H' ⟨rfl,rfl⟩
  exact⟨_,rfl,rfl,h⟩
 ·cases hx
  refine bY (x:=⟨23, -1,100,0,0⟩) (f:=97) rfl rfl rp (Fc.mono (iH (x:=⟨23, -1,100,0,0⟩) h (by decide)) ?_)
  rintro v H' ⟨rfl,rfl⟩
  exact⟨_,rfl,rfl,h⟩
def OS:List cA:=[⟨1,0,0,0,0⟩,⟨2,1,0,0,0⟩,⟨18,0,0,0,0⟩]
def I0:List Rp:=[⟨9, -1,0,4⟩,⟨0,0,0,1⟩,⟨0, -1,0,0⟩]
def ua:Cf:=⟨2,2,1,100,3⟩
theorem oF:ua.Ok:=⟨by decide,by decide,by decide,by decide,by decide,by decide⟩
def Lv:av.Fn:=fun _=>decide ((1:Int)=1)
def Gu(sp i:Nat)(H:Hp):Prop:=∃o,match i with
 |0=>eo sp ua 0 [] o [] H
 |1=>eo sp ua 0 [] o [] H
 |2=>eo sp ua 1 [(0,Lv)] o [] H
 |3=>eo sp ua 1 [(0,Lv)] o [] H
 |_=>False
theorem yC{n:Nat}{F:FS}{o:List Nat}:r0 n F o≤F.length*2^n:=by
 have hlen:(gk F).length=F.length:=by unfold gk;rw[List.length_map]
 obtain⟨k,hk,hc⟩:=kB (n:=n) (ord:=o) (F:=HF (gk F)) (L:=gk F) (cap:=(gk F).length*2^n+2) (fun g hg=>hg.1) (Nat.le_refl _)
 unfold r0
 rw[Bi hk]
 rw[hlen]at hc;omega
theorem Di{n:Nat}{F:FS}{o:List Nat}(h:∀f∈gk F,∀v,¬cq f v):r0 n F o=0:=by
 unfold r0
 refine Bi (jJ.none.congr fun g=>⟨False.elim,?_⟩)
 rintro⟨l,hl,hg,hh⟩
 have no:∀l g,¬fs o (HF (gk F)) l g:=fun l=>by
  induction l with
  |zero=>rintro g ⟨hm,v,hv⟩;exact h g hm v hv
  |succ l ih=>rintro g ⟨f,hf,_⟩;exact ih f hf
 exact no l g hg
theorem Lu{o:List Nat}(hp:o.Perm (List.range 2)){L:List av.Fn}:¬Fits (aF 2 o (fun g=>HF L g∨g=fun y=>y.testBit (Int.toNat 0))) 2:=by
 have h2:o.length=2:=by rw[hp.length_eq];rfl
 have KX:cq (fun y=>y.testBit 0) 0:=⟨0,by decide⟩
 rcases o with _|⟨a,_|⟨b,_|⟨c,o⟩⟩⟩
 ·cases h2
 ·cases h2
 ·have ha:a<2:=List.mem_range.1 ((hp.mem_iff (a:=a)).1 (by simp))
  have hb:b<2:=List.mem_range.1 ((hp.mem_iff (a:=b)).1 (by simp))
  have hab:a≠b:=by
   have:=hp.nodup_iff.2 List.nodup_range
   simpa using this
  rintro⟨k,⟨l,_,hl,hm⟩,hk⟩
  have h0:l=[]:=List.length_eq_zero_iff.1 (by omega)
  subst h0
  have no:∀g,¬aF 2 [a,b] (fun g=>HF L g∨g=fun y=>y.testBit (Int.toNat 0)) g:=fun g hg=>by have:=(hm g).1 hg;cases this
  by_cases h:a=0
  ·subst h
   exact no (fun y=>y.testBit 0) ⟨0,by decide,.inr rfl,KX⟩
  ·have hb0:b=0:=by omega
   have s6:a=1:=by omega
   subst hb0 s6
   refine no (fun y=>y.testBit 0) ⟨1,by decide,⟨_,.inr rfl,false,funext fun y=>?_⟩,KX⟩
   show y.testBit 0=(eH.aO y 1 false).testBit 0
   rw[eH.ah,if_neg (by decide)]
 ·simp at h2
theorem F4{i sp:Nat}{H:Hp}{x:cA}(hx:OS[i]? =some x)(h:Gu sp i H):Fc Tryz.prog 16 #[ptr sp,x.v] H (fun v H'=>∃r,I0[i]? =some r∧v=r.v∧Gu sp (i+1) H'):=by
 have hi:i<3:=(List.getElem?_eq_some_iff.1 hx).1
 have rp:∀{j:Nat} (v:Value) (H':Hp),(∃r,I0[j]? =some r∧v=r.v∧Gu sp (j+1) H')→Gs v:=fun v H' ⟨r,_,e,_⟩=>⟨_,_,_,_,e⟩
 obtain⟨o,h⟩:=h
 obtain rfl|rfl|rfl:i=0∨i=1∨i=2:=by omega
 ·cases hx
  have hz:r0 ua.n [] o=0:=Nat.le_zero.1 (by have:=yC (n:=ua.n) (F:=[]) (o:=o);simpa using this)
  refine gp rp (fun w f hm=>?_) (fun f hn=>by cases hn) (fun hn=>by cases hn)
  cases hm
  refine(rj (R:=fun _ _=>True) h oF (by decide) (by decide) fh (by kernel_rfl) (by decide) rfl (p0 oF rfl (by rw[hz];decide))).mono ?_
  rintro v H' ⟨t,p,ef,ht,hT,⟨_,h',h0⟩|⟨e,he,rfl,h',z7,h9,hb⟩⟩
  ·exfalso
   rw[jw (by decide)]at h0
   rcases h0 with⟨_,hf,_⟩|⟨h0,_⟩|⟨h0,_⟩
   ·exact Lu h'.perm hf
   ·cases h0
   ·cases h0
  ·rcases he with rfl|rfl
   ·exact absurd z7 (q8 (by decide))
   ·have Rf:t=4:=h9 rfl
    subst Rf
    rw[hz]at hb
    have:ef=[]:=List.length_eq_zero_iff.1 (by simp only[List.length_nil]at hb;omega)
    subst this
    exact⟨_,rfl,rfl,p,h'⟩
 ·cases hx
  have hz:r0 ua.n [] o=0:=Nat.le_zero.1 (by have:=yC (n:=ua.n) (F:=[]) (o:=o);simpa using this)
  have Jl:∀p,¬rX ua.n ua.cap (gk []) (fF []) ⟨2,1,0,0,0⟩ p 9:=fun p hp=>by
   rw[jw (by decide)]at hp
   rcases hp with⟨hp,_⟩|⟨_,hp⟩|⟨hp,_⟩
   ·cases hp
   ·refine hp ⟨0,jJ.none.congr fun g=>⟨False.elim,fun hg=>?_⟩,by decide⟩
    have e:(fun g=>HF (gk []) g∨g=fU ua.n (fF []) ⟨2,1,0,0,0⟩)=fun g=>g=Lv:=funext fun g=>propext ⟨fun h=>h.elim (fun h=>by have:=h.1;cases this) id,.inr⟩
    rw[e]at hg
    exact kT (fun v ⟨y,hy⟩=>hy rfl) g hg
   ·cases hp
  refine gp rp (fun w f hm=>?_) (fun f hn=>by cases hn) (fun hn=>by cases hn)
  cases hm
  refine(rj (R:=fun _ _=>True) h oF (by decide) (by decide) kX (by kernel_rfl) (by decide) rfl (p0 oF rfl (by rw[hz];decide))).mono ?_
  rintro v H' ⟨t,p,ef,ht,hT,hq⟩
  have h1:t=1∧p=o:=by
   cases hT with
   |one=>exact⟨rfl,rfl⟩
   |more h h9 _=>exact absurd h9 (Jl _)
  obtain⟨rfl,rfl⟩:=h1
  rcases hq with⟨rfl,h',_⟩|⟨e,he,_,_,z7,_⟩
  ·exact⟨_,rfl,rfl,p,h'⟩
  ·rcases he with rfl|rfl
   ·exact absurd z7 (q8 (by decide))
   ·exact absurd z7 (Jl _)
 ·cases hx
  have hz:r0 ua.n [(0,Lv)] o=0:=Di fun f hf v hv=>by
   have:f=Lv:=by simpa[gk]using hf
   subst this
   obtain⟨y,hy⟩:=hv
   exact hy rfl
  refine bY (x:=⟨18,0,0,0,0⟩) (f:=92) rfl rfl rp (Fc.mono (Fg h) ?_)
  rintro v H' ⟨rfl,rfl⟩
  rw[hz]
  exact⟨_,rfl,rfl,o,h⟩
theorem jl(c:nh):Fc Tryz.prog 14 #[.agg c.cells.toArray] [] (fun v _=>∃p,v=.tuple #[p,i64 (dY c)]):=
 sn c (fun _=>⟨_,rfl⟩) (fun d hd hok sp kp mb C hK=>⟨_,by rw[hd,hok.dY]⟩)
theorem tx{d e:Cf}(h:d.i=e.i):d=e:=by
 obtain⟨a1,a2,a3,a4,a5⟩:=d
 obtain⟨b1,b2,b3,b4,b5⟩:=e
 simp only[Cf.i,nh.mk.injEq]at h
 simp only[Cf.mk.injEq]
 omega
set_option maxHeartbeats 2000000 in
theorem mq(B:Hp):Rd Tryz.prog 5 #[] B (· =.bool true):=by
 refine aP fun g=>D0 ?_
 refine ae.eq (u7 _) ?_
 refine Un.not (aq.mk (Br.no ?_))
 refine Build.mk (cs:=kR.i.cells) (by kernel_rfl) ?_
 intro b6 _
 refine St.p (nh.one _) ?_
 refine ay.q (r:=kR.i.cells) ?_
 refine Build.mk (cs:=cA.cells ⟨1,0,0,0,0⟩) (by kernel_rfl) ?_
 refine Build.mk (cs:=cA.cells ⟨1,1,0,0,0⟩) (by kernel_rfl) ?_
 refine Build.mk (cs:=cA.cells ⟨4,0,1,0,0⟩) (by kernel_rfl) ?_
 refine Build.mk (cs:=cA.cells ⟨12,2,0,0,0⟩) (by kernel_rfl) ?_
 refine Build.mk (cs:=cA.cells ⟨15,2,3,0,0⟩) (by kernel_rfl) ?_
 refine Build.mk (cs:=cA.cells ⟨13,2,0,0,0⟩) (by kernel_rfl) ?_
 refine Build.mk (cs:=cA.cells ⟨3,2,0,0,0⟩) (by kernel_rfl) ?_
 refine Build.mk (cs:=cA.cells ⟨13,2,0,0,0⟩) (by kernel_rfl) ?_
 refine Build.mk (cs:=cA.cells ⟨3,3,0,0,0⟩) (by kernel_rfl) ?_
 refine Build.mk (cs:=cA.cells ⟨2,2,0,0,0⟩) (by kernel_rfl) ?_
 refine Build.mk (cs:=cA.cells ⟨8,9,9,9,0⟩) (by kernel_rfl) ?_
 refine Build.mk (cs:=cA.cells ⟨9,0,0,0,4⟩) (by kernel_rfl) ?_
 refine Build.mk (cs:=cA.cells ⟨0,0,0,0,0⟩) (by kernel_rfl) ?_
 refine Build.mk (cs:=cA.cells ⟨24,0,0,0,0⟩) (by kernel_rfl) ?_
 refine Build.mk (cs:=cA.cells ⟨2,0,0,0,0⟩) (by kernel_rfl) ?_
 refine Build.mk (cs:=cA.cells ⟨19,5,0,0,0⟩) (by kernel_rfl) ?_
 refine Build.mk (cs:=cA.cells ⟨23,256,100,0,0⟩) (by kernel_rfl) ?_
 refine Build.mk (cs:=cA.cells ⟨22,0,0,0,0⟩) (by kernel_rfl) ?_
 refine Build.mk (cs:=cA.cells ⟨22,1,0,0,0⟩) (by kernel_rfl) ?_
 refine Build.mk (cs:=cA.cells ⟨21,0,0,0,0⟩) (by kernel_rfl) ?_
 refine Build.mk (cs:=cA.cells ⟨20,3,0,0,0⟩) (by kernel_rfl) ?_
 refine Build.mk (cs:=cA.cells ⟨23,0,99,0,0⟩) (by kernel_rfl) ?_
 refine Build.mk (cs:=cA.cells ⟨23, -1,100,0,0⟩) (by kernel_rfl) ?_
 refine ak.many (e:=35) (k:=5) (z:=.agg #[.int .u8 0,i64 0,i64 0,i64 0,u64 0]) (MF.map cA.cells) (by kernel_rfl) (by kernel_rfl) (by kernel_rfl) (by decide) (by decide) rfl rfl fun bx=>?_
 refine ae.fn (br.left (A:=_)) (q5 (c:=kR.i) (steps:=MF) (Y:=[(bx,_)]) (pV (by decide) (by decide) rfl) (by decide) (fun i sp l H=>l=Hl.take i∧Gv sp i H) (fun d hd hok sp kp mb C hK=>?_) (fun i sp l H x he hx hI hl=>?_)) ?_
 ·have:=tx hd
  subst this
  exact⟨rfl,rC hK⟩
 ·obtain⟨rfl,hI⟩:=hI
  refine(F5 hx hI).mono ?_
  rintro v H' ⟨r,hr,rfl,h'⟩
  exact⟨r,rfl,by rw[List.take_add_one,hr];rfl,h'⟩
 rintro w H (⟨hne,_⟩|⟨_,sp,l,s,CR,HS,rfl,rfl,hR,hl,hI⟩)
 ·exact absurd mF.dY hne
 have KC:l=Hl:=hI.1
 subst KC
 clear hI
 refine Ext.two ?_
 refine Build.mk (cs:=Rp.cells ⟨0,0,0,1⟩) (by kernel_rfl) ?_
 refine Build.mk (cs:=Rp.cells ⟨0,1,0,1⟩) (by kernel_rfl) ?_
 refine Build.mk (cs:=Rp.cells ⟨0,2,0,1⟩) (by kernel_rfl) ?_
 refine Build.mk (cs:=Rp.cells ⟨0,3,0,0⟩) (by kernel_rfl) ?_
 refine Build.mk (cs:=Rp.cells ⟨0, -1,1,0⟩) (by kernel_rfl) ?_
 refine Build.mk (cs:=Rp.cells ⟨0, -1,0,0⟩) (by kernel_rfl) ?_
 refine Build.mk (cs:=Rp.cells ⟨3, -1,0,0⟩) (by kernel_rfl) ?_
 refine Build.mk (cs:=Rp.cells ⟨3, -1,0,0⟩) (by kernel_rfl) ?_
 refine Build.mk (cs:=Rp.cells ⟨0,4,0,1⟩) (by kernel_rfl) ?_
 refine Build.mk (cs:=Rp.cells ⟨1, -1,0,0⟩) (by kernel_rfl) ?_
 refine Build.mk (cs:=Rp.cells ⟨1, -1,0,0⟩) (by kernel_rfl) ?_
 refine Build.mk (cs:=Rp.cells ⟨2, -1,0,0⟩) (by kernel_rfl) ?_
 refine Build.mk (cs:=Rp.cells ⟨12, -1,0,0⟩) (by kernel_rfl) ?_
 refine Build.mk (cs:=Rp.cells ⟨12, -1,0,0⟩) (by kernel_rfl) ?_
 refine Build.mk (cs:=Rp.cells ⟨0,5,0,1⟩) (by kernel_rfl) ?_
 refine Build.mk (cs:=Rp.cells ⟨10, -1,0,0⟩) (by kernel_rfl) ?_
 refine Build.mk (cs:=Rp.cells ⟨1, -1,0,0⟩) (by kernel_rfl) ?_
 refine Build.mk (cs:=Rp.cells ⟨0, -1,0,0⟩) (by kernel_rfl) ?_
 refine Build.mk (cs:=Rp.cells ⟨1, -1,0,0⟩) (by kernel_rfl) ?_
 refine Build.mk (cs:=Rp.cells ⟨0, -1,1,0⟩) (by kernel_rfl) ?_
 refine Build.mk (cs:=Rp.cells ⟨0, -1,3,0⟩) (by kernel_rfl) ?_
 refine Build.mk (cs:=Rp.cells ⟨1, -1,0,0⟩) (by kernel_rfl) ?_
 refine Build.mk (cs:=Rp.cells ⟨1, -1,0,0⟩) (by kernel_rfl) ?_
 refine ak.many (e:=37) (k:=4) (z:=.agg #[i64 0,i64 0,u64 0,i64 0]) (Hl.map Rp.cells) (by kernel_rfl) (by kernel_rfl) (by kernel_rfl) (by decide) (by decide) rfl rfl fun LG=>?_
 intro MO Sj
 have cont:MO [.bool false] ((LG,.cells (rows (Hl.map Rp.cells)) 37 (0,0))::((CR++[(bx,.cells (rows (MF.map cA.cells)) 35 (0,0))])++((b6,.cells kR.i.cells.toArray 23 (0,0))::B))):=by
  refine Sj _ _ fun _=>Br.no ?_
  refine Build.mk (cs:=ua.i.cells) (by kernel_rfl) ?_
  refine St.p (nh.one _) ?_
  refine ay.q (r:=ua.i.cells) ?_
  refine Build.mk (cs:=cA.cells ⟨1,0,0,0,0⟩) (by kernel_rfl) ?_
  refine Build.mk (cs:=cA.cells ⟨2,1,0,0,0⟩) (by kernel_rfl) ?_
  refine Build.mk (cs:=cA.cells ⟨18,0,0,0,0⟩) (by kernel_rfl) ?_
  refine ak.many (e:=35) (k:=5) (z:=.agg #[.int .u8 0,i64 0,i64 0,i64 0,u64 0]) (OS.map cA.cells) (by kernel_rfl) (by kernel_rfl) (by kernel_rfl) (by decide) (by decide) rfl rfl fun bz=>?_
  refine ae.fn (br.left (A:=_)) (q5 (c:=ua.i) (steps:=OS) (Y:=[(bz,_)]) (pV (by decide) (by decide) rfl) (by decide) (fun i sp l H=>l=I0.take i∧Gu sp i H) (fun d hd hok sp kp mb C hK=>?_) (fun i sp l H x he hx hI hl=>?_)) ?_
  ·have:=tx hd
   subst this
   exact⟨rfl,_,rC hK⟩
  ·obtain⟨rfl,hI⟩:=hI
   refine(F4 hx hI).mono ?_
   rintro v H' ⟨r,hr,rfl,h'⟩
   exact⟨r,rfl,by rw[List.take_add_one,hr];rfl,h'⟩
  rintro w H (⟨hne,_⟩|⟨_,sp,l,s2,Uc,T9,rfl,rfl,R2,jC,hI⟩)
  ·exact absurd oF.dY hne
  have KC:l=I0:=hI.1
  subst KC
  clear hI
  refine Ext.two ?_
  intro SS Si
  have last:∀H0:Hp,aR H0 B→SS [.bool false] H0:=fun H0 mE=>by
   refine Si _ _ fun _=>Br.no ?_
   refine Build.mk (cs:=nh.cells ⟨13,9,6,100,0⟩) (by kernel_rfl) ?_
   refine ae.fn hnew (jl ⟨13,9,6,100,0⟩) ?_
   rintro w H1 ⟨p1,rfl⟩
   refine Ext.two ?_
   refine Build.mk (cs:=nh.cells ⟨13,9,6,99,0⟩) (by kernel_rfl) ?_
   refine ae.fn hnew (jl ⟨13,9,6,99,0⟩) ?_
   rintro w H2 ⟨p2,rfl⟩
   refine Ext.two ?_
   refine Build.mk (cs:=nh.cells ⟨12,2,6,1000,16⟩) (by kernel_rfl) ?_
   refine ae.fn hnew (jl ⟨12,2,6,1000,16⟩) ?_
   rintro w H3 ⟨p3,rfl⟩
   refine Ext.two ?_
   refine Build.mk (cs:=nh.cells ⟨12,2,6,1000,17⟩) (by kernel_rfl) ?_
   refine ae.fn hnew (jl ⟨12,2,6,1000,17⟩) ?_
   rintro w H4 ⟨p4,rfl⟩
   refine Ext.two ?_
   refine aa.iq ?_
   refine c7.and true (fun _=>aa.iq ⟨rfl,rfl⟩) rfl fun _=>?_
   refine c7.and true (fun _=>aa.iq ⟨rfl,rfl⟩) rfl fun _=>?_
   refine c7.and true (fun _=>aa.iq ⟨rfl,rfl⟩) rfl fun _=>?_
   exact bC.mk (aR.right.trans (aR.right.trans (aR.right.trans (aR.right.trans mE)))) rfl
  refine aa.eP ?_
  refine Split.go rfl ?_
  refine Build.mk (cs:=Rp.cells ⟨9, -1,0,4⟩) (by kernel_rfl) ?_
  refine Build.mk (cs:=Rp.cells ⟨0,0,0,1⟩) (by kernel_rfl) ?_
  refine Build.mk (cs:=Rp.cells ⟨0, -1,0,0⟩) (by kernel_rfl) ?_
  refine ak.many (e:=37) (k:=4) (z:=.agg #[i64 0,i64 0,u64 0,i64 0]) (I0.map Rp.cells) (by kernel_rfl) (by kernel_rfl) (by kernel_rfl) (by decide) (by decide) rfl rfl fun bw=>?_
  refine ae.eh .here (mu (l:=I0) (r:=I0) ((Sl.mT R2 (by decide)).mono fun _ h=>?_) ((pV (T:=37) (by decide) (by decide) rfl).mono fun _ h=>?_) (by decide)) ?_
  ·exact .tail _ (List.mem_append_left _ (List.mem_append_left _ h))
  ·rw[List.mem_singleton.1 h];exact .head _
  rw[er.2 rfl]
  refine Un.not (aq.mk (JE.mk (last _ ?_)))
  exact .skip (aR.right.trans (.skip (aR.right.trans .tail)))
 refine aa.eP ?_
 refine Split.go rfl ?_
 refine ae.eh .here (mu (l:=Hl) (r:=Hl) ((Sl.mT hR (by decide)).mono fun _ h=>?_) ((pV (T:=37) (by decide) (by decide) rfl).mono fun _ h=>?_) (by decide)) ?_
 ·exact .tail _ (List.mem_append_left _ (List.mem_append_left _ h))
 ·rw[List.mem_singleton.1 h];exact .head _
 rw[er.2 rfl]
 exact Un.not (aq.mk (JE.mk cont))
end Go.Proofs
