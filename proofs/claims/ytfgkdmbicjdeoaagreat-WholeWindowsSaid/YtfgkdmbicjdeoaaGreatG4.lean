import Derived.Test.YtfgkdmbicjdeoaaGreatG3
import Derived.Test.YtfgkdmbicjdeoaaGreatG2
import Derived.Test.YtfgkdmbicjdeoaaGreatG1
set_option linter.unusedVariables false
set_option linter.unusedSimpArgs false
set_option linter.unusedSectionVars false
namespace aE
open aD
def cZ(N:dJ)(v:Nat)(b:Bool)(r:Nat):Nat:=match N r with
 |some d=>if d.v=v then(if b then d.hi else d.lo)else r
 |none=>r
def fP(N:dJ)(v:Nat)(b:Bool)(q:List Nat):List Nat:=q.map (cZ N v b)
structure pJ(n:Nat)(ah:Nat→Nat)(N:dJ)(q:List Nat)(v:Nat):Prop where
 lt:v<n
 ex:∃r∈q,∃d,N r=some d∧d.v=v
 le:∀r∈q,ah v≤dep n ah N r
inductive Tree(n:Nat)(ah:Nat→Nat)(N:dJ):List Nat→Nat→Prop
 |leaf {q:List Nat} (h:∀r∈q,N r=none):Tree n ah N q 0
 |node {q:List Nat} {v a b:Nat} (h:pJ n ah N q v) (ha:Tree n ah N (fP N v false q) a) (hb:Tree n ah N (fP N v true q) b):Tree n ah N q (a+b+1)
def pZ(t:Bool→Bool→Bool→Bool)(S:Nat→Fn)(q:List Nat):Fn:=fun x=>t (S (q.getD 0 0) x) (S (q.getD 1 0) x) (S (q.getD 2 0) x)
section
variable {n:Nat} {ah:Nat→Nat} {N:dJ} {S:Nat→Fn} {q:List Nat} {v:Nat}
theorem pJ.uniq(hl:jn n ah){u:Nat}(h:pJ n ah N q v)(h':pJ n ah N q u):v=u:=by
 obtain⟨r,hr,d,hd,rfl⟩:=h.ex
 obtain⟨s,hs,e,he,rfl⟩:=h'.ex
 have a:=h.le s hs
 have b:=h'.le r hr
 rw[av he]at a
 rw[av hd]at b
 exact hl.inj _ _ h.lt h'.lt (by omega)
theorem gw(h:WF n ah N)(hl:jn n ah)(hi:Interp N S){r:Nat}(hr:live N r)(hv:v<n)(hle:ah v≤dep n ah N r)(b:Bool):
  (∀x,S (cZ N v b r) x=S r (aI x v b))∧live N (cZ N v b r)∧ah v+1≤dep n ah N (cZ N v b r):=by
 have hlt:=hl.lt v hv
 unfold cZ
 cases e:N r with
 |none=>
  simp only
  refine⟨fun x=>?_,hr,by rw[aT e];omega⟩
  exact(h.bO hl hi hr hv (by rw[aT e];exact hlt) x b).symm
 |some d=>
  simp only
  rw[av e]at hle
  by_cases ev:d.v=v
  ·rw[if_pos ev]
   subst ev
   refine⟨fun x=>(h.child hl hi e x b).symm,?_,?_⟩
   ·cases b
    ·exact(h.lo e).1
    ·exact(h.hi e).1
   ·cases b
    ·exact(h.lo e).2
    ·exact(h.hi e).2
  ·rw[if_neg ev]
   have hne:ah v≠ah d.v:=fun e2=>ev (hl.inj _ _ (h.var e) hv e2.symm)
   refine⟨fun x=>(h.bO hl hi hr hv (by rw[av e];omega) x b).symm,hr,by rw[av e];omega⟩
theorem IC(b:Bool):(fP N v b q).length=q.length:=by simp[fP]
theorem ID{b:Bool}{i:Nat}(hi:i<q.length):(fP N v b q).getD i 0=cZ N v b (q.getD i 0):=by
 simp[fP,List.getD,List.getElem?_eq_getElem hi]
theorem lU(h:WF n ah N)(hl:jn n ah)(hi:Interp N S)(hq:∀r∈q,live N r)(ht:pJ n ah N q v)(b:Bool):
  (∀r∈fP N v b q,live N r)∧(∀r∈fP N v b q,ah v+1≤dep n ah N r):=by
 constructor
 ·intro r hr
  obtain⟨s,hs,rfl⟩:=List.mem_map.1 hr
  exact(gw h hl hi (hq s hs) ht.lt (ht.le s hs) b).2.1
 ·intro r hr
  obtain⟨s,hs,rfl⟩:=List.mem_map.1 hr
  exact(gw h hl hi (hq s hs) ht.lt (ht.le s hs) b).2.2
theorem Da(h:WF n ah N)(hl:jn n ah)(hi:Interp N S)(h3:q.length=3)(hq:∀r∈q,live N r)(ht:pJ n ah N q v)(t:Bool→Bool→Bool→Bool)(b:Bool):pZ t S (fP N v b q)=fun x=>pZ t S q (aI x v b):=by
 funext x
 have key:∀i,i<3→S ((fP N v b q).getD i 0) x=S (q.getD i 0) (aI x v b):=fun i OZ=>by
  have hi':i<q.length:=by omega
  rw[ID hi']
  have hm:q.getD i 0∈q:=by rw[List.getD_eq_getElem?_getD,List.getElem?_eq_getElem hi'];exact List.getElem_mem _
  exact(gw h hl hi (hq _ hm) ht.lt (ht.le _ hm) b).1 x
 unfold pZ
 rw[key 0 (by omega),key 1 (by omega),key 2 (by omega)]
theorem tH(h:WF n ah N)(hl:jn n ah)(hi:Interp N S){ord:List Nat}(ho:Ord n ah ord)(h3:q.length=3)(hq:∀r∈q,live N r){l:Nat}(HD:l≤n)(hle:∀r∈q,l≤dep n ah N r)(t:Bool→Bool→Bool→Bool):∀j,j<l→¬cR (pZ t S q) (ord.getD j 0):=by
 rintro j hj ⟨x,hx⟩
 apply hx
 obtain⟨o1,o2⟩:=ho.oS j (by omega)
 have key:∀i,i<3→∀b,S (q.getD i 0) (aI x (ord.getD j 0) b)=S (q.getD i 0) x:=fun i OZ b=>by
  have hi':i<q.length:=by omega
  have hm:q.getD i 0∈q:=by rw[List.getD_eq_getElem?_getD,List.getElem?_eq_getElem hi'];exact List.getElem_mem _
  exact h.bO hl hi (hq _ hm) o1 (by rw[o2];exact Nat.lt_of_lt_of_le hj (hle _ hm)) x b
 unfold pZ
 simp only[key 0 (by omega),key 1 (by omega),key 2 (by omega)]
theorem EE(hi:Interp N S)(h3:q.length=3)(hq:∀r∈q,r<2)(t:Bool→Bool→Bool→Bool)(x:Nat):pZ t S q x=t (decide (q.getD 0 0=1)) (decide (q.getD 1 0=1)) (decide (q.getD 2 0=1)):=by
 have key:∀i,i<3→S (q.getD i 0) x=decide (q.getD i 0=1):=fun i OZ=>by
  have hi':i<q.length:=by omega
  have hm:q.getD i 0∈q:=by rw[List.getD_eq_getElem?_getD,List.getElem?_eq_getElem hi'];exact List.getElem_mem _
  have:=hq _ hm
  have h2:q.getD i 0=0∨q.getD i 0=1:=by omega
  rcases h2 with e|e<;>rw[e]
  ·rw[hi.zero];rfl
  ·rw[hi.one];rfl
 unfold pZ
 rw[key 0 (by omega),key 1 (by omega),key 2 (by omega)]
theorem Gw(h:WF n ah N):∀{q:List Nat},(∃r∈q,∃d,N r=some d)→(hl:jn n ah)→∃v,pJ n ah N q v
 | [],he,_=>by obtain⟨r,hr,_⟩:=he;cases hr
 |s::q,he,hl=>by
  by_cases hq:∃r∈q,∃d,N r=some d
  ·obtain⟨v,hv⟩:=Gw h hq hl
   cases es:N s with
   |none=>
    refine⟨v,hv.lt,?_,fun r hr=>?_⟩
    ·obtain⟨r,hr,x⟩:=hv.ex;exact⟨r,by simp[hr],x⟩
    ·rcases List.mem_cons.1 hr with rfl|hr
     ·rw[aT es];exact Nat.le_of_lt (hl.lt v hv.lt)
     ·exact hv.le r hr
   |some d=>
    by_cases hlt:ah d.v≤ah v
    ·refine⟨d.v,h.var es,⟨s,by simp,d,es,rfl⟩,fun r hr=>?_⟩
     rcases List.mem_cons.1 hr with rfl|hr
     ·rw[av es];exact Nat.le_refl _
     ·exact Nat.le_trans hlt (hv.le r hr)
    ·refine⟨v,hv.lt,?_,fun r hr=>?_⟩
     ·obtain⟨r,hr,x⟩:=hv.ex;exact⟨r,by simp[hr],x⟩
     ·rcases List.mem_cons.1 hr with rfl|hr
      ·rw[av es];omega
      ·exact hv.le r hr
  ·obtain⟨r,hr,d,hd⟩:=he
   rcases List.mem_cons.1 hr with rfl|hr
   ·refine⟨d.v,h.var hd,⟨r,by simp,d,hd,rfl⟩,fun s hs=>?_⟩
    rcases List.mem_cons.1 hs with rfl|hs
    ·rw[av hd];exact Nat.le_refl _
    ·have:N s=none:=by
      cases e:N s with
      |none=>rfl
      |some d'=>exact absurd ⟨s,hs,d',e⟩ hq
     rw[aT this];exact Nat.le_of_lt (hl.lt _ (h.var hd))
   ·exact absurd ⟨r,hr,d,hd⟩ hq
theorem Kk(h:WF n ah N)(hl:jn n ah)(hi:Interp N S):∀(k l:Nat) (q:List Nat),n-l≤k→l≤n→(∀r∈q,live N r)→(∀r∈q,l≤dep n ah N r)→∃c,Tree n ah N q c∧c+1≤2^(n-l):=by
 intro k
 induction k with
 |zero=>
  intro l q hk HD hq hd
  refine⟨0,.leaf fun r hr=>?_,Nat.one_le_two_pow⟩
  cases e:N r with
  |none=>rfl
  |some d=>have:=hd r hr;rw[av e]at this;have:=hl.lt _ (h.var e);omega
 |succ k ih=>
  intro l q hk HD hq hd
  by_cases he:∃r∈q,∃d,N r=some d
  ·obtain⟨v,hv⟩:=Gw h he hl
   have hlv:=hl.lt v hv.lt
   have uS:l≤ah v:=by
    obtain⟨r,hr,d,cI,rfl⟩:=hv.ex
    have:=hd r hr
    rwa [av cI]at this
   obtain⟨f1,f2⟩:=lU (S:=S) h hl hi hq hv false
   obtain⟨t1,t2⟩:=lU (S:=S) h hl hi hq hv true
   obtain⟨a,ha,pX⟩:=ih (ah v+1) _ (by omega) hlv f1 f2
   obtain⟨b,hb,MN⟩:=ih (ah v+1) _ (by omega) hlv t1 t2
   refine⟨a+b+1,.node hv ha hb,?_⟩
   have e1:2^(n-ah v)=2*2^(n-(ah v+1)):=by
    rw[show n-ah v=(n-(ah v+1))+1 by omega,Nat.pow_succ,Nat.mul_comm]
   have e2:2^(n-ah v)≤2^(n-l):=Nat.pow_le_pow_right (by decide) (by omega)
   omega
  ·refine⟨0,.leaf fun r hr=>?_,Nat.one_le_two_pow⟩
   cases e:N r with
   |none=>rfl
   |some d=>exact absurd ⟨r,hr,d,e⟩ he
def jF(N:dJ)(v:Nat)(b:Bool)(q:List Nat)(i:Nat):List Nat:=(fP N v b q).take i++q.drop i
theorem wy{b:Bool}{i:Nat}(hi:i≤q.length):(jF N v b q i).length=q.length:=by simp[jF,fP];omega
theorem tc(b:Bool):jF N v b q 0=q:=by simp[jF]
theorem G0(b:Bool):jF N v b q q.length=fP N v b q:=by
 unfold jF
 rw[List.take_of_length_le (by rw[IC];exact Nat.le_refl _),List.drop_length,List.append_nil]
theorem ow{b:Bool}{i r:Nat}(hr:q[i]? =some r):(jF N v b q i).set i (cZ N v b r)=jF N v b q (i+1):=by
 have hi:=(List.getElem?_eq_some_iff.1 hr).1
 have he:=(List.getElem?_eq_some_iff.1 hr).2
 have hl:((fP N v b q).take i).length=i:=by simp[fP];omega
 have hc:(fP N v b q)[i]? =some (cZ N v b r):=by simp[fP,hr]
 unfold jF
 rw[List.set_append_right _ _ (by omega),hl,Nat.sub_self,List.drop_eq_getElem_cons hi,List.set_cons_zero,List.take_add_one,hc,List.append_assoc]
 rfl
theorem td{b:Bool}{i r:Nat}(hr:q[i]? =some r)(h:cZ N v b r=r):jF N v b q (i+1)=jF N v b q i:=by
 rw[←ow hr,h]
 have hi:=(List.getElem?_eq_some_iff.1 hr).1
 have he:=(List.getElem?_eq_some_iff.1 hr).2
 have hl:((fP N v b q).take i).length=i:=by simp[fP];omega
 unfold jF
 rw[List.set_append_right _ _ (by omega),hl,Nat.sub_self,List.drop_eq_getElem_cons hi,List.set_cons_zero,he]
end
end aE
set_option maxRecDepth 100000
namespace Go.Proofs
open Go Go.Sx
open aE
noncomputable instance {K:Kd}{S:Nat→aE.Fn}{ord:List Nat}{l:Nat}:Decidable (kO K S ord l):=Nat.decLe _ _
noncomputable def rm(K:Kd)(S:Nat→aE.Fn):Rm:=⟨K.n,cQ K S,fun ord l=>decide (kO K S ord l)⟩
theorem yK{K:Kd}{S:Nat→aE.Fn}{ord:List Nat}{l:Nat}:(rm K S).fit ord l=true↔kO K S ord l:=by
 show decide (kO K S ord l)=true↔_
 exact decide_eq_true_iff
def Box(kp b1 fm:Nat)(cs:List Nat)(B:Hp):Prop:=∃vc Cc,B=(b1,.cells #[ptr kp] 26 (0,0))::(fm,.cells #[vc] 25 (0,0))::Cc∧aN 3 .i64 vc (iw cs) Cc
section
variable {kp b1 fm w p:Nat} {K:Kd} {S:Nat→aE.Fn} {ord tr:List Nat} {B C:Hp}
theorem F9(hB:Box kp b1 fm (gY w) B)(h:At kp K S ord tr C)(hp:p+w≤K.n)(oF:tr.length<549755813888):
  Fc Tryz.prog 143 #[.int .i64 (p:Int),ptr b1,ptr fm] (B++C) (fun v H=>v=.int .i64 ((((rm K S).visit w p ord).2:Nat):Int)∧∃C',H=B++C'∧At kp K S (aG ord ((rm K S).visit w p ord).1) (tr++((rm K S).visit w p ord).1) C'):=by
 obtain⟨vc,Cc,rfl,hc⟩:=hB
 have hn:=h.ta
 have hlen:=h.len
 have fx:=vi w
 let m:=rm K S
 let path:=m.dY p (gY w) ord
 have Em:path.length≤(gY w).length:=m.qT p _ _
 have FH:∀l∈path,l+1<K.n:=fun l hl=>by
  obtain⟨c,hc,rfl⟩:=m.Ij p hl
  have:=vj hc;omega
 let P0:Hp→Hp:=fun X=>(b1,.cells #[ptr kp] 26 (0,0))::(fm,.cells #[vc] 25 (0,0))::(Cc++X)
 intro g
 refine Bs (R:=az _) ?_
 unfold L143
 rw[List.cons_append,List.cons_append]
 refine DR.self ?_
 refine Ld.mk (v:=ptr kp) (by exact .head _) rfl ?_
 refine Ld.mk (v:=ptr kp) (by exact .head _) rfl ?_
 refine ag.rd (.cons (.cons (.app .here))) (ru h) ?_
 rintro v rfl
 refine⟨.refl _,?_⟩
 refine ag.rd (.cons (.cons (.app .here))) (dV h) ?_
 rintro v rfl
 refine⟨.refl _,?_⟩
 intro J8 hJ8
 have fin:∀C2,At kp K S (aG ord path) (tr++path) C2→J8 [.int .i64 ((m.keep ord path path.length:Nat):Int),.int .i64 ((path.length:Nat):Int)] (P0 C2):=fun C2 h2=>by
  refine hJ8 _ _ _ fun gs=>?_
  refine Ld.mk (v:=ptr kp) (by exact .head _) rfl ?_
  have hk:=m.pV ord path path.length
  refine ae.aK (by simp[aB];omega) ?_
  refine ag.fn (.cons (.cons (.app .here))) (LM h2 FH hk (by rw[List.length_append];omega)) ?_
  rintro v C' ⟨rfl,h3⟩
  refine Ext.mk rfl (Ext.mk rfl ?_)
  refine ae.aK (by simp[aB];omega) ?_
  exact az.here ⟨rfl,C',by simp only[List.cons_append],h3⟩
 refine Ld.mk (v:=vc) (by exact .tail _ (.head _)) rfl ?_
 refine hc.bS ?_
 rw[aq]
 refine⟨fun vs H=>∃i C2,i≤path.length∧vs=[.int .i64 ((cQ K S (aG ord (path.take (m.keep ord path i))):Nat):Int),.int .i64 ((m.keep ord path i:Nat):Int),.int .i64 (i:Int),.int .i64 (i:Int)]∧H=P0 C2∧At kp K S (aG ord (path.take i)) (tr++path.take i) C2,
  fun vs _=>(gY w).length-bR vs 3,JE.mk ⟨0,C,Nat.zero_le _,rfl,rfl,by simpa[aG]using h⟩,?_⟩
 rintro pM FC F5 JX H ⟨i,C2,hi,hw,rfl,h2⟩ gs
 simp only[List.cons.injEq,and_true]at hw
 obtain⟨rfl,rfl,rfl,rfl⟩:=hw
 refine ae.fq (Br.dec (fun hlt=>?_) (fun hlt=>?_))
 rotate_left
 ·obtain rfl:i=path.length:=by omega
  rw[List.take_length]at h2
  exact JE.mk (fin C2 h2)
 intro Jh Ig
 have kg:(gY w)[i]? =some (gY w)[i]:=List.getElem?_eq_getElem hlt
 have CQ:(gY w)[i]+2≤w:=vj (List.getElem_mem _)
 refine hc.ld (x:=(((gY w)[i]:Nat):Int)) (by rw[bc hlt,List.getD,kg];rfl) (bP.sub (.cons (.cons .left))) ?_
 refine Ld.mk (v:=ptr kp) (by exact .head _) rfl ?_
 refine ae.aK (by simp[aB];omega) ?_
 by_cases uT:i=path.length
 ·-- no room
  subst uT
  rw[List.take_length]at h2
  have hno:¬kO K S (aG ord path) (p+(gY w)[path.length]):=fun hf=>by
   have:=m.xg p (gY w) ord _ kg
   have h9:=yK.2 hf
   rw[show(rm K S).fit (aG ord path) (p+(gY w)[path.length])=false from this]at h9
   cases h9
  refine ag.rd (.cons (.cons (.app .here))) (NJ h2 (by omega) (by rw[List.length_append];omega) hno) ?_
  rintro v rfl
  refine Ext.mk rfl (Ext.mk rfl ?_)
  intro TH _
  refine St.whole (r:=[.int .i64 0,.int .i64 0,.int .i64 0]) (by exact .head _) rfl rfl (by simp[Value.oneCell']) ?_
  refine ae.c7 (Br.dS (by simp) ?_)
  exact JE.of .tail (fin C2 h2)
 ·have HJ:i<path.length:=by omega
  obtain⟨e1,c',e2,hf⟩:=m.qU p (gY w) ord i HJ
  rw[kg]at e1 e2
  cases e2
  have OA:kO K S (aG ord (path.take i)) (p+(gY w)[i]):=yK.1 hf
  have gD:path.take (i+1)=path.take i++[p+(gY w)[i]]:=by
   rw[List.take_add_one,show path[i]? =some (p+(gY w)[i])from e1];rfl
  refine ag.fn (.cons (.cons (.app .here))) (NI h2 (by omega) (by rw[List.length_append,List.length_take];omega) OA) ?_
  rintro v C3 ⟨rfl,h3⟩
  rw[←gA,List.append_assoc,←gD]at h3
  refine Ext.mk rfl (Ext.mk rfl ?_)
  intro TH _
  refine St.whole (r:=[.int .i64 ((p+(gY w)[i]:Nat):Int),.int .i64 ((cQ K S (aG ord (path.take i)):Nat):Int),.int .i64 ((cQ K S (fy (aG ord (path.take i)) (p+(gY w)[i])):Nat):Int)]) (by exact .head _) rfl rfl (by simp[Value.oneCell']) ?_
  refine ae.c7 (Br.aX (by simp) ?_)
  refine ae.aK (b:=1) (by simp[aB];omega) ?_
  refine aa.mk (Ld.mk (v:=.int .i64 ((cQ K S (fy (aG ord (path.take i)) (p+(gY w)[i])):Nat):Int)) (by exact .head _) rfl ?_)
  rw[←gA,←gD]
  refine ae.fq (Br.dec (fun iG=>?_) (fun iG=>?_))
  ·have hk:m.keep ord path (i+1)=i+1:=by rw[Rm.keep];exact if_pos iG
   refine aa.mk (Ld.mk (v:=.int .i64 ((cQ K S (aG ord (path.take (i+1))):Nat):Int)) (by exact .head _) rfl ?_)
   refine JE.mk (Ig _ _ _ _ fun gs=>?_)
   refine ae.aK (b:=1) (by simp[aB];omega) ?_
   refine aF.of .tail ⟨i+1,C3,HJ,by rw[hk],rfl,h3⟩ ?_
   show(gY w).length-(((i+1:Nat):Int).toNat)<(gY w).length-(((i:Nat):Int).toNat)
   omega
  ·have hk:m.keep ord path (i+1)=m.keep ord path i:=by rw[Rm.keep];exact if_neg iG
   refine JE.mk (Ig _ _ _ _ fun gs=>?_)
   refine ae.aK (b:=1) (by simp[aB];omega) ?_
   refine aF.of .tail ⟨i+1,C3,HJ,by rw[hk],rfl,h3⟩ ?_
   show(gY w).length-(((i+1:Nat):Int).toNat)<(gY w).length-(((i:Nat):Int).toNat)
   omega
end
end Go.Proofs
set_option maxRecDepth 100000
namespace Go.Proofs
open Go Go.Sx
open aE
def rep(b a s:Nat):Value:=.agg #[.int .i64 (b:Int),.int .i64 (a:Int),.int .i64 (s:Int),.bool false]
def gL(b1 fm b a s:Nat):Array Value:=#[.func (.func 143) #[] #[ptr b1,ptr fm],.int .i64 (b:Int),.int .i64 (a:Int),.int .i64 (s:Int),.bool false]
def Pass(pp kp w b a s:Nat)(B:Hp):Prop:=∃b1 fm B',B=(pp,.cells (gL b1 fm b a s) 125 (0,0))::B'∧Box kp b1 fm (gY w) B'
section
variable {pp kp w p bf af sw:Nat} {K:Kd} {S:Nat→aE.Fn} {ord tr:List Nat} {B C:Hp}
theorem oh(kp:Nat)(w:Int)(C:Hp):Rd Tryz.prog 60 #[ptr kp,.int .i64 w] C (· =.int .i64 (if w<2∨4<w then 1 else 0)):=by
 intro g
 refine E5 (R:=az _) ?_
 unfold L60
 refine ae.bK (Br.no (ae.lss ?_))
 refine cw.or (decide (4<w)) (fun _=>ae.gtr ⟨rfl,rfl⟩) (by simp) fun gs=>?_
 rw[←Bool.decide_or]
 exact Br.dec (fun h=>cr.mk (.refl _) (by rw[if_pos h])) (fun h=>cr.mk (.refl _) (by rw[if_neg h]))
theorem rq(h:At kp K S ord tr C)(hw:2≤w∧w≤4):Fc Tryz.prog 62 #[ptr kp,.int .i64 (w:Int)] C (fun v H=>∃pp B,v=ptr pp∧H=B++C∧Pass pp kp w (cQ K S ord) (cQ K S ord) 0 B):=by
 intro g
 refine E3 (R:=az _) ?_
 unfold L62
 intro b1 _
 refine DR.self ?_
 refine Ld.mk (v:=ptr kp) (by exact .head _) rfl ?_
 refine Ld.mk (v:=ptr kp) (by exact .head _) rfl ?_
 refine ag.rd (.cons .here) (dV h) ?_
 rintro v rfl
 refine⟨.refl _,?_⟩
 refine ag.rd (.cons .here) (dV h) ?_
 rintro v rfl
 refine⟨.refl _,?_⟩
 refine Build.mk (cs:=[.int .i64 ((cQ K S ord:Nat):Int),.int .i64 ((cQ K S ord:Nat):Int),.int .i64 0,.bool false]) (by kernel_rfl) ?_
 refine Build.mk (cs:=[.nilFunc,.int .i64 ((cQ K S ord:Nat):Int),.int .i64 ((cQ K S ord:Nat):Int),.int .i64 0,.bool false]) (by kernel_rfl) ?_
 intro zv _
 refine⟨.tail,?_⟩
 refine ag.fn hnew (ri hw) ?_
 rintro v Cc ⟨s,rfl,hc⟩
 obtain⟨sa,sl,sc,rfl⟩:∃a l c,s=Value.slice a l c:=by obtain⟨a,c,h⟩:=aQ.len hc;exact⟨a,_,c,h⟩
 refine Ext.mk rfl (Ext.mk rfl ?_)
 intro fm _
 refine St.one (c':=#[.slice sa sl sc]) (by exact .head _) rfl (by simp) rfl ?_
 refine Nil.ptr (aa.mk (St.one (c':=gL b1 fm (cQ K S ord) (cQ K S ord) 0) (by repeat (first|exact dH.head _|apply dH.tail|apply dH.dD)) rfl (by simp[Value.cells]) rfl ?_))
 refine az.mk (j5:=((zv,.cells (gL b1 fm (cQ K S ord) (cQ K S ord) 0) 125 (0,0))::(b1,.cells #[ptr kp] 26 (0,0))::(fm,.cells #[.slice sa sl sc] 25 (0,0))::Cc)++C) (.perm ?_) ⟨zv,_,rfl,rfl,b1,fm,_,rfl,_,Cc,rfl,hc⟩
 refine(List.Perm.cons _ (List.perm_middle.trans (List.Perm.cons _ List.perm_middle))).trans ?_
 refine(List.Perm.swap _ _ _).trans (List.Perm.cons _ (List.Perm.swap _ _ _))
theorem M8(hB:Pass pp kp w bf af sw B)(h:At kp K S ord tr C)(hp:p+w≤K.n)(oF:tr.length<549755813888)(hs:sw<4611686018427387904):
  Fc Tryz.prog 63 #[ptr pp,ptr kp,.int .i64 (p:Int)] (B++C) (fun v H=>v=.tuple #[]∧∃B' C',H=B'++C'∧Pass pp kp w bf (cQ K S (aG ord ((rm K S).visit w p ord).1)) (sw+((rm K S).visit w p ord).2) B'∧At kp K S (aG ord ((rm K S).visit w p ord).1) (tr++((rm K S).visit w p ord).1) C'):=by
 obtain⟨b1,fm,B',rfl,hb⟩:=hB
 have hv:=((rm K S).om w p ord).2
 intro g
 refine E0 (R:=az _) ?_
 unfold L63
 refine DR.of (R:=[(pp,.cells (gL b1 fm bf af sw) 125 (0,0))]) (.cons .nil) ?_
 refine Nil.ptr (aa.mk (aa.mk (Ld.mk (v:=.int .i64 (sw:Int)) (by exact .head _) rfl ?_)))
 refine Nil.ptr (aa.mk (Ld.mk (v:=.func (.func 143) #[] #[ptr b1,ptr fm]) (by exact .head _) rfl ?_))
 refine cg.of rfl (by kernel_rfl) ?_
 refine ag.fn (args:=#[.int .i64 (p:Int),ptr b1,ptr fm]) (.cons .here) (F9 hb h hp oF) ?_
 rintro v H ⟨rfl,C',rfl,h'⟩
 refine⟨.cons .nil,?_⟩
 refine ae.aK (by simp[aB];omega) ?_
 refine Nil.ptr (aa.mk (aa.mk (St.one (c':=gL b1 fm bf af (sw+((rm K S).visit w p ord).2)) (by exact .head _) rfl (by simp[gL]) rfl ?_)))
 refine ag.rd (.cons (.app .here)) (dV h') ?_
 rintro v rfl
 refine Nil.ptr (aa.mk (aa.mk (St.one (c':=gL b1 fm bf (cQ K S (aG ord ((rm K S).visit w p ord).1)) (sw+((rm K S).visit w p ord).2)) (by exact .head _) rfl (by simp[gL]) rfl ?_)))
 exact az.here ⟨rfl,_::B',C',rfl,⟨b1,fm,B',rfl,hb⟩,h'⟩
theorem BU(hB:Pass pp kp w bf (cQ K S ord) sw B)(h:At kp K S ord tr C)(hw:2≤w∧w≤4)(oF:tr.length<274877906944)(hs:sw<2305843009213693952):
  Fc Tryz.prog 68 #[ptr pp,ptr kp,.int .i64 (w:Int)] (B++C) (fun v H=>v=.tuple #[]∧∃B' C',H=B'++C'∧Pass pp kp w bf (cQ K S (aG ord ((rm K S).pass w ord).1)) (sw+((rm K S).pass w ord).2) B'∧At kp K S (aG ord ((rm K S).pass w ord).1) (tr++((rm K S).pass w ord).1) C'):=by
 have hn:=h.ta
 intro g
 refine EW (R:=az _) ?_
 unfold L68
 refine⟨fun vs H=>∃i B' C',i≤K.n+1-w∧vs=[.int .i64 ((i:Nat):Int)]∧H=B'++C'∧Pass pp kp w bf (cQ K S (aG ord ((rm K S).all w ord i).1)) (sw+((rm K S).all w ord i).2) B'∧At kp K S (aG ord ((rm K S).all w ord i).1) (tr++((rm K S).all w ord i).1) C',
  fun vs _=>K.n+1-bR vs 0,JE.mk ⟨0,B,C,Nat.zero_le _,rfl,rfl,by simpa[Rm.all,aG]using hB,by simpa[Rm.all,aG]using h⟩,?_⟩
 rintro w5 H ⟨i,B',C',hi,hv,rfl,hp,ha⟩ gs
 simp only[List.cons.injEq,and_true]at hv
 subst hv
 have HZ:=(rm K S).p8 w ord i
 refine ae.aK (by simp[aB];omega) ?_
 refine ag.rd (.app .here) (Dm ha) ?_
 rintro v rfl
 refine ae.wD (Br.dec (fun hle=>?_) (fun hle=>?_))
 ·refine ag.fn .here (M8 hp ha (by omega) (by rw[List.length_append];omega) (by omega)) ?_
  rintro v H ⟨rfl,B2,C2,rfl,nh,pX⟩
  rw[←kz,List.append_assoc,Nat.add_assoc]at*
  refine ae.aK (b:=1) (by simp[aB];omega) ?_
  refine aF.of (.refl _) ⟨i+1,B2,C2,by omega,rfl,rfl,by rw[Rm.all_succ];exact nh,by rw[Rm.all_succ];exact pX⟩ ?_
  show K.n+1-(((i+1:Nat):Int).toNat)<K.n+1-(((i:Nat):Int).toNat)
  omega
 ·obtain rfl:i=K.n+1-w:=by omega
  exact az.here ⟨rfl,B',C',rfl,hp,ha⟩
theorem NY(h:At kp K S ord tr C)(hw:2≤w∧w≤4)(hp:p+w≤K.n)(oF:tr.length<549755813888):
  Fc Tryz.prog 20 #[ptr kp,.int .i64 (w:Int),.int .i64 (p:Int)] C (fun v H=>v=.tuple #[rep (cQ K S ord) (cQ K S (aG ord ((rm K S).visit w p ord).1)) ((rm K S).visit w p ord).2,.int .i64 0]∧At kp K S (aG ord ((rm K S).visit w p ord).1) (tr++((rm K S).visit w p ord).1) H):=by
 have hn:=h.ta
 intro g
 refine Fk (R:=az _) ?_
 unfold L20
 intro b1 _
 refine ag.rd (.cons .here) (oh kp w C) ?_
 rintro v rfl
 rw[if_neg (by omega)]
 refine ae.c7 (Br.aX (by decide) ?_)
 intro J hJ
 refine ae.lss ?_
 rw[decide_eq_false (by omega)]
 refine Split.go rfl ?_
 refine ag.rd (.cons .here) (Dm h) ?_
 rintro v rfl
 refine ae.B8 (c:=(K.n:Int) -w) rfl (by omega) ?_
 refine ae.gtr ?_
 rw[decide_eq_false (by omega)]
 refine aA.mk (JE.mk (hJ _ _ fun gs=>Br.no ?_))
 refine ag.fn (.cons .here) (rq h hw) ?_
 rintro v H ⟨pp,B,rfl,rfl,hB⟩
 refine ag.fn (.cons .here) (M8 hB h hp oF (by omega)) ?_
 rintro v H ⟨rfl,B',C',rfl,Lq,h'⟩
 rw[Nat.zero_add]at Lq
 obtain⟨x1,x18,B2,rfl,hb⟩:=Lq
 refine Nil.ptr (aa.mk ?_)
 refine aC.mk (vs:=#[.int .i64 ((cQ K S ord:Nat):Int),.int .i64 ((cQ K S (aG ord ((rm K S).visit w p ord).1):Nat):Int),.int .i64 ((((rm K S).visit w p ord).2:Nat):Int),.bool false]) (by exact .tail _ (.head _)) (by simp[gL]) rfl ?_
 refine St.whole (r:=[.int .i64 ((cQ K S ord:Nat):Int),.int .i64 ((cQ K S (aG ord ((rm K S).visit w p ord).1):Nat):Int),.int .i64 ((((rm K S).visit w p ord).2:Nat):Int),.bool false]) (by exact .head _) rfl rfl (by simp[Value.oneCell']) ?_
 refine aC.whole (r:=[.int .i64 ((cQ K S ord:Nat):Int),.int .i64 ((cQ K S (aG ord ((rm K S).visit w p ord).1):Nat):Int),.int .i64 ((((rm K S).visit w p ord).2:Nat):Int),.bool false]) (by exact .head _) rfl ?_
 exact az.mk (.skip .right) ⟨rfl,h'⟩
end
end Go.Proofs
set_option maxRecDepth 100000
namespace Go.Proofs
open Go Go.Sx
open aE
section
variable {pp kp w p bf af sw:Nat} {K:Kd} {S:Nat→aE.Fn} {ord tr:List Nat} {B C:Hp}
theorem LW(h:At kp K S ord tr C)(hw:2≤w∧w≤4)(oF:tr.length<274877906944):
  Fc Tryz.prog 22 #[ptr kp,.int .i64 (w:Int)] C (fun v H=>v=.tuple #[rep (cQ K S ord) (cQ K S (aG ord ((rm K S).pass w ord).1)) ((rm K S).pass w ord).2,.int .i64 0]∧At kp K S (aG ord ((rm K S).pass w ord).1) (tr++((rm K S).pass w ord).1) H):=by
 have hn:=h.ta
 intro g
 refine Fi (R:=az _) ?_
 unfold L22
 intro b1 _
 refine ag.rd (.cons .here) (oh kp w C) ?_
 rintro v rfl
 rw[if_neg (by omega)]
 refine ae.c7 (Br.aX (by decide) ?_)
 refine ag.fn (.cons .here) (rq h hw) ?_
 rintro v H ⟨pp,B,rfl,rfl,hB⟩
 refine ag.fn (.cons .here) (BU hB h hw oF (by omega)) ?_
 rintro v H ⟨rfl,B',C',rfl,Lq,h'⟩
 rw[Nat.zero_add]at Lq
 obtain⟨x1,x18,B2,rfl,hb⟩:=Lq
 refine Nil.ptr (aa.mk ?_)
 refine aC.mk (vs:=#[.int .i64 ((cQ K S ord:Nat):Int),.int .i64 ((cQ K S (aG ord ((rm K S).pass w ord).1):Nat):Int),.int .i64 ((((rm K S).pass w ord).2:Nat):Int),.bool false]) (by exact .tail _ (.head _)) (by simp[gL]) rfl ?_
 refine St.whole (r:=[.int .i64 ((cQ K S ord:Nat):Int),.int .i64 ((cQ K S (aG ord ((rm K S).pass w ord).1):Nat):Int),.int .i64 ((((rm K S).pass w ord).2:Nat):Int),.bool false]) (by exact .head _) rfl rfl (by simp[Value.oneCell']) ?_
 refine aC.whole (r:=[.int .i64 ((cQ K S ord:Nat):Int),.int .i64 ((cQ K S (aG ord ((rm K S).pass w ord).1):Nat):Int),.int .i64 ((((rm K S).pass w ord).2:Nat):Int),.bool false]) (by exact .head _) rfl ?_
 exact az.mk (.skip .right) ⟨rfl,h'⟩
structure PM(m:Rm)(w:Nat)(ord:List Nat)(r:Nat):Prop where
 aeG:∀j,j<r→m.size (aG ord (m.rounds w ord (j+1)).1)<m.size (aG ord (m.rounds w ord j).1)
 stop:m.size (aG ord (m.rounds w ord r).1)≤m.size (aG ord (m.rounds w ord (r+1)).1)
theorem yH(h:At kp K S ord tr C)(hw:2≤w∧w≤4)(oF:tr.length<137438953472):
  Fc Tryz.prog 23 #[ptr kp,.int .i64 (w:Int)] C (fun v H=>∃r,PM (rm K S) w ord r∧v=.tuple #[rep (cQ K S ord) (cQ K S (aG ord ((rm K S).rounds w ord (r+1)).1)) ((rm K S).rounds w ord (r+1)).2,.int .i64 ((r+1:Nat):Int),.int .i64 0]∧At kp K S (aG ord ((rm K S).rounds w ord (r+1)).1) (tr++((rm K S).rounds w ord (r+1)).1) H):=by
 have hn:=h.ta
 have hsz:=zx h
 intro g
 refine Fh (R:=az _) ?_
 unfold L23
 intro b1 _
 refine ag.rd (.cons .here) (oh kp w C) ?_
 rintro v rfl
 rw[if_neg (by omega)]
 refine ae.c7 (Br.aX (by decide) ?_)
 refine ag.fn (.cons .here) (rq h hw) ?_
 rintro v H ⟨pp,B,rfl,rfl,hB⟩
 refine⟨fun vs H=>∃r B' C',vs=[.int .i64 ((r+1:Nat):Int)]∧H=(b1,.cells #[.int .i64 0,.int .i64 0,.int .i64 0,.bool false] 42 (0,0))::(B'++C')∧r+cQ K S (aG ord ((rm K S).rounds w ord r).1)≤cQ K S ord∧
   (∀j,j<r→(rm K S).size (aG ord ((rm K S).rounds w ord (j+1)).1)<(rm K S).size (aG ord ((rm K S).rounds w ord j).1))∧
   Pass pp kp w (cQ K S ord) (cQ K S (aG ord ((rm K S).rounds w ord r).1)) ((rm K S).rounds w ord r).2 B'∧At kp K S (aG ord ((rm K S).rounds w ord r).1) (tr++((rm K S).rounds w ord r).1) C',
  fun vs _=>cQ K S ord+2-bR vs 0,JE.mk ⟨0,B,C,rfl,rfl,by simp[Rm.rounds,aG],fun j hj=>absurd hj (Nat.not_lt_zero _),by simpa[Rm.rounds,aG]using hB,by simpa[Rm.rounds,aG]using h⟩,?_⟩
 rintro w5 H ⟨r,B',C',hv,rfl,hr,MH,hp,ha⟩ gs
 simp only[List.cons.injEq,and_true]at hv
 subst hv
 have Hy:=(rm K S).qv w ord r
 have hmn:(rm K S).n=K.n:=rfl
 have SK:23*((rm K S).n+1)*r≤1495*r:=Nat.mul_le_mul_right _ (by rw[hmn];omega)
 have MN:46*((rm K S).n+1)*r≤2990*r:=Nat.mul_le_mul_right _ (by rw[hmn];omega)
 refine ag.rd (.cons (.app .here)) (dV ha) ?_
 rintro v rfl
 refine ag.fn (.cons .here) (BU hp ha hw (by rw[List.length_append];omega) (by omega)) ?_
 rintro v H ⟨rfl,B2,C2,rfl,nh,pX⟩
 have RS:=(rm K S).rounds_succ w ord r
 rw[←kz,List.append_assoc]at pX
 rw[←kz]at nh
 have e1:((rm K S).rounds w ord r).1++((rm K S).pass w (aG ord ((rm K S).rounds w ord r).1)).1=((rm K S).rounds w ord (r+1)).1:=by rw[RS]
 have e2:((rm K S).rounds w ord r).2+((rm K S).pass w (aG ord ((rm K S).rounds w ord r).1)).2=((rm K S).rounds w ord (r+1)).2:=by rw[RS]
 rw[e1]at pX nh
 rw[e2]at nh
 refine ag.rd (.cons (.app .here)) (dV pX) ?_
 rintro v rfl
 refine ae.pe (Br.dec (fun hge=>?_) (fun hge=>?_))
 ·obtain⟨x1,x18,B3,rfl,hb⟩:=nh
  refine Nil.ptr (aa.mk ?_)
  refine aC.mk (vs:=#[.int .i64 ((cQ K S ord:Nat):Int),.int .i64 ((cQ K S (aG ord ((rm K S).rounds w ord (r+1)).1):Nat):Int),.int .i64 ((((rm K S).rounds w ord (r+1)).2:Nat):Int),.bool false]) (by exact .tail _ (.head _)) (by simp[gL]) rfl ?_
  refine St.whole (r:=[.int .i64 ((cQ K S ord:Nat):Int),.int .i64 ((cQ K S (aG ord ((rm K S).rounds w ord (r+1)).1):Nat):Int),.int .i64 ((((rm K S).rounds w ord (r+1)).2:Nat):Int),.bool false]) (by exact .head _) rfl rfl (by simp[Value.oneCell']) ?_
  refine aC.whole (r:=[.int .i64 ((cQ K S ord:Nat):Int),.int .i64 ((cQ K S (aG ord ((rm K S).rounds w ord (r+1)).1):Nat):Int),.int .i64 ((((rm K S).rounds w ord (r+1)).2:Nat):Int),.bool false]) (by exact .head _) rfl ?_
  exact az.mk (.skip .right) ⟨r,⟨MH,hge⟩,rfl,pX⟩
 ·refine ae.aK (b:=1) (by simp[aB];omega) ?_
  refine aF.of (.refl _) ⟨r+1,B2,C2,rfl,rfl,by omega,fun j hj=>?_,nh,pX⟩ ?_
  ·by_cases e:j=r
   ·subst e;exact Nat.lt_of_not_le hge
   ·exact MH j (by omega)
  ·show cQ K S ord+2-(((r+1+1:Nat):Int).toNat)<cQ K S ord+2-(((r+1:Nat):Int).toNat)
   omega
end
end Go.Proofs
namespace aE
open aD
section
variable {n v:Nat} {bs:List Bool} {lo hi ws:List Nat}
theorem Iu(h:∀v,v<n→¬cR (eo n ws) v)(x:Nat):eo n ws x=eo n ws 0:=by
 have key:∀k,k≤n→eo n ws (x%2^k)=eo n ws 0:=fun k=>by
  induction k with
  |zero=>intro _;rw[show x%2^0=0 from Nat.mod_one x]
  |succ k ih=>
   intro hk
   rw[←ih (by omega)]
   have e:x%2^(k+1)=aI (x%2^k) k (x.testBit k):=by
    apply Nat.eq_of_testBit_eq;intro i
    rw[ay,Nat.testBit_mod_two_pow,Nat.testBit_mod_two_pow]
    by_cases e:i=k
    ·subst e;simp
    ·rw[if_neg e]
     congr 1
     exact decide_eq_decide.2 (by omega)
   rw[e,bU (h k (by omega))]
 have:=key n (Nat.le_refl _)
 rw[←this]
 unfold eo
 rw[Nat.mod_mod]
end
end aE
set_option maxRecDepth 100000
namespace Go.Proofs
open Go Go.Sx
open aE
theorem bc{ws:List Nat}{i:Nat}(h:i<ws.length):(iw ws)[i]? =some ((ws.getD i 0:Nat):Int):=by
 rw[cB (w:=ws.getD i 0)]
 rw[List.getD_eq_getElem?_getD,List.getElem?_eq_getElem h];rfl
def RE(n:Nat)(p:List Int):Prop:=p.length=n∧∀v:Nat,v<n→p.count (v:Int)=1
instance (n:Nat)(p:List Int):Decidable (RE n p):=by unfold RE;infer_instance
def my(p:List Int):Prop:=∀v:Nat,v<p.length→(v:Int)∈p
end Go.Proofs
set_option maxRecDepth 100000
namespace Go.Proofs
open Go Go.Sx
open aE
section
variable {n:Nat} {ord:List Nat} {L:aD.Fs}
theorem u9:∀k,(cur n ord L k).length≤2^k*L.length
 |0=>by rw[cur,Nat.pow_zero,Nat.one_mul];exact DM L
 |k+1=>by
  have h1:=Il n (ord.getD k 0) (cur n ord L k)
  have h2:=u9 k
  rw[cur,Nat.pow_succ,Nat.mul_comm (2^k) 2,Nat.mul_assoc]
  omega
end
end Go.Proofs
set_option maxRecDepth 100000
namespace Go.Proofs
open Go Go.Sx
open aE
theorem Iq{ord:List Nat}{F G:aE.Fn→Prop}(h:∀g,F g→G g):∀l g,fs ord F l g→fs ord G l g
 |0,g,hg=>h g hg
 |l+1,g,⟨f,hf,b,e⟩=>⟨f,Iq h l f hf,b,e⟩
theorem bM{n:Nat}{ord:List Nat}{F G:aE.Fn→Prop}(h:∀g,F g→G g){g:aE.Fn}(hg:aM n ord F g):aM n ord G g:=let ⟨l,a,b,c⟩:=hg;⟨l,a,Iq h l g b,c⟩
structure oa(K:Kd)(S:Nat→aE.Fn)(K':Kd)(S':Nat→aE.Fn)(f:aE.Fn)(r:Nat):Prop where
 n:K'.n=K.n
 cap:K'.cap=K.cap
 N:∀s d,K.N s=some d→K'.N s=some d
 fn:∀s,live K.N s→S' s=S s
 live:live K'.N r
 is:S' r=f
 hold:∀s,K'.hold s=K.hold s+if s=r∧2≤r then 1 else 0
theorem cA{N N':dJ}(h:∀s d,N s=some d→N' s=some d){s:Nat}(hs:live N s):live N' s:=by
 rcases hs with hs|⟨d,hd⟩
 ·exact .inl hs
 ·exact .inr ⟨d,h s d hd⟩
theorem gP{K K5:Kd}{S S5:Nat→aE.Fn}{ah:Nat→Nat}(hK:Ok K S ah)(FN:Ok K5 S5 ah)(hold:∀s,K.hold s≠0→K5.hold s≠0)(h3:∀s d d',K.N s=some d→K5.N s=some d'→d'=d):
  ∀(k s:Nat) (d:Nd),K.N s=some d→ah d.v≤k→K5.N s=some d:=by
 intro k
 induction k with
 |zero=>
  intro s d hd hl
  have fin:live K5.N s→K5.N s=some d:=fun hs=>by
   rcases hs with hs|⟨d',cI⟩
   ·have:=(hK.mid.two hd).1;omega
   ·rw[cI,h3 s d d' hd cI]
  rcases hK.reach s d hd with h|⟨p,e,hp,he⟩
  ·exact fin (.inr (FN.mid.held s (hold s h)))
  ·have h1:=hK.wf.lo hp
   have h2:=hK.wf.hi hp
   rcases he with rfl|rfl
   ·have:=h1.2;rw[av hd]at this;omega
   ·have:=h2.2;rw[av hd]at this;omega
 |succ k ih=>
  intro s d hd hl
  have fin:live K5.N s→K5.N s=some d:=fun hs=>by
   rcases hs with hs|⟨d',cI⟩
   ·have:=(hK.mid.two hd).1;omega
   ·rw[cI,h3 s d d' hd cI]
  rcases hK.reach s d hd with h|⟨p,e,hp,he⟩
  ·exact fin (.inr (FN.mid.held s (hold s h)))
  ·have h1:=hK.wf.lo hp
   have h2:=hK.wf.hi hp
   rcases he with rfl|rfl
   ·have:=h1.2;rw[av hd]at this
    exact fin (FN.mid.lo (ih p e hp (by omega)))
   ·have:=h2.2;rw[av hd]at this
    exact fin (FN.mid.hi (ih p e hp (by omega)))
theorem oa.held{K K':Kd}{S S':Nat→aE.Fn}{f:aE.Fn}{r:Nat}(h:oa K S K' S' f r)(hm:∀s,K.hold s≠0→aE.live K.N s)(g:aE.Fn)(hg:K'.held S' g):K.held S g∨g=f:=by
 obtain⟨s,hs,rfl⟩:=hg
 by_cases h0:K.hold s=0
 ·right
  have:=h.hold s
  have hs':K'.hold s≠0:=hs
  rw[h0]at this
  by_cases e:s=r∧2≤r
  ·rw[e.1];exact h.is
  ·rw[if_neg e]at this;omega
 ·exact .inl ⟨s,h0,h.fn s (hm s h0)⟩
end Go.Proofs
set_option maxRecDepth 100000
namespace Go.Proofs
open Go Go.Sx
open aE
def eY(bw kp:Nat)(vl vm:Value):Nat×Obj:=(bw,.cells #[ptr kp,vl,vm] 337 (0,0))
abbrev Q3:=Nat×Nat×Nat
def l3(q:Q3):List Nat:=[q.1,q.2.1,q.2.2]
def kq(q:Q3):Value:=.agg (ax .u32 (iw (l3 q)))
theorem KS{a b:List Nat}(h:iw a=iw b):a=b:=by
 induction a generalizing b with
 |nil=>cases b with
  |nil=>rfl
  |cons y b=>simp[iw]at h
 |cons x a ih=>cases b with
  |nil=>simp[iw]at h
  |cons y b=>
   simp only[iw,List.map_cons,List.cons.injEq]at h
   rw[Int.ofNat.inj h.1,ih h.2]
theorem Oq{a b:Q3}(h:l3 a=l3 b):a=b:=by
 obtain⟨a1,a2,a3⟩:=a
 obtain⟨b1,b2,b3⟩:=b
 simp[l3]at h
 rw[h.1,h.2.1,h.2.2]
theorem tv(a b:Q3):xS Tryz.prog 318 (kq a) (kq b) (decide (a=b)):=by
 have:=xS.array (P:=Tryz.prog) (t:=318) (e:=77) (q:=.u32) (n:=3) (by kernel_rfl) (by kernel_rfl) (by kernel_rfl) (iw (l3 a)) (iw (l3 b)) rfl rfl
 have e:decide (iw (l3 a)=iw (l3 b))=decide (a=b):=decide_eq_decide.2 ⟨fun h=>Oq (KS h),fun h=>by rw[h]⟩
 rw[e]at this;exact this
theorem oz(a:Q3):j7 Tryz.prog 318 (kq a):=j7.array (P:=Tryz.prog) (t:=318) (e:=77) (q:=.u32) (n:=3) (by kernel_rfl) (by kernel_rfl) (by kernel_rfl) _ rfl
theorem Cr(a:Q3):Instr.sameBits 10000 (kq a) (kq a)=true:=iE 9998 fun x hx=>.inl (by simp[ax]at hx;obtain⟨n,_,rfl⟩:=hx;exact⟨_,_,rfl⟩)
section
variable {kp bw:Nat} {vl vm:Value} {K:Kd} {S:Nat→aE.Fn} {ord ah tr:List Nat} {C:Hp}
theorem EK{H:Hp}{r:List Value}{K:Value→Hp→Prop}(hl:r.length=3)(h:∀b,K (.slice (some ⟨b,0,none⟩) 1 1) ((b,.cells r.toArray 161 (0,0))::H)):au Tryz.prog 286 1 [(0,.agg r.toArray)] H K:=
 au.one (r:=r) (e:=161) (k:=3) (z:=.agg #[.int .i64 0,.int .u32 0,.int .u32 0]) (by kernel_rfl) (by kernel_rfl) (by kernel_rfl) (by decide) hl h
theorem tN{X Y:Hp}(h:cc kp K ord ah tr C)(q:Q3)(hq:∀r∈l3 q,r<4294967296):
  Fc Tryz.prog 265 #[ptr bw,kq q] (eY bw kp vl vm::(X++(Y++C))) (fun v H=>∃CN,H=CN++(eY bw kp vl vm::(X++(Y++C)))∧aQ 161 3 v ((l3 q).map (got K.N)) CN):=by
 have hlen:(l3 q).length=3:=rfl
 intro g
 refine Ah (R:=az _) ?_
 unfold L265
 intro b1 _
 refine aC.whole (r:=(iw (l3 q)).map fun n=>.int .u32 n) (by exact .head _) rfl ?_
 refine⟨fun vs H=>∃(i:Nat) (u:Value) (CN:Hp),vs=[u,.int .i64 (i:Int)]∧i≤3∧H=CN++((b1,.cells (ax .u32 (iw (l3 q))) 318 (0,0))::(eY bw kp vl vm::(X++(Y++C))))∧aQ 161 3 u (((l3 q).take i).map (got K.N)) CN,fun vs _=>3-bR vs 1,
  JE.mk ⟨0,_,[],rfl,by omega,rfl,aQ.nil _ _⟩,?_⟩
 rintro w8 w9 H ⟨i,u,CN,hv,hi,rfl,hN⟩ gs
 simp only[List.cons.injEq,and_true]at hv
 obtain⟨rfl,rfl⟩:=hv
 refine ae.fq (b:=3) (Br.dec (fun hlt=>?_) (fun hlt=>?_))
 ·have fV:i<(l3 q).length:=hlt
  obtain⟨r,hr⟩:∃r,(l3 q)[i]? =some r:=⟨_,List.getElem?_eq_getElem fV⟩
  have OJ:=hq r (List.mem_of_getElem? hr)
  refine jP.TL (t:=318) (e:=77) (q:=.u32) (x:=.tmp 10) (i:=.tmp 11) (l:=iw (l3 q)) (z:=(r:Int)) (kd:=.i64) (n:=3) (j:=i) (by kernel_rfl) rfl rfl (by kernel_rfl) (by kernel_rfl) (by kernel_rfl) hlt (cB hr) ?_
  refine Nil.ptr (aa.mk (Ld.mk (v:=ptr kp) (List.mem_append_right _ (.tail _ (.head _))) rfl ?_))
  refine ag.rd (args:=#[ptr kp,u32 r]) (.app (.cons (.cons (.app (.app .here))))) (gR h OJ) ?_
  rintro w rfl
  refine Ext.mk rfl (Ext.mk rfl ?_)
  intro LN _
  refine St.whole (r:=got K.N r) (by exact .head _) rfl (aJ _ _).1 (aJ _ _).2 ?_
  refine aC.whole (r:=got K.N r) (by exact .head _) (aJ _ _).1 ?_
  refine EK (aJ _ _).1 fun bx=>?_
  refine hN.pG (r:=got K.N r) (.cons (.cons .left)) (by exact .head _) (aJ _ _).1 (aJ _ _).2 ⟨[.int .i64 0,.int .u32 0,.int .u32 0],rfl,rfl⟩ (by simp;omega) (by simp;omega) fun v' C' ho=>?_
  refine ae.aK (b:=1) (by simp[aB];omega) ?_
  refine aF.of (.skip .tail) ⟨i+1,v',C',rfl,by omega,rfl,?_⟩ (by simp only[bR];omega)
  rw[List.take_add_one,hr,List.map_append];exact ho
 ·obtain rfl:i=3:=by omega
  rw[List.take_of_length_le (by rw[hlen];exact Nat.le_refl _)]at hN
  exact az.mk (.dj .tail _) ⟨CN,rfl,hN⟩
theorem Dl{n:Nat}{oc:Nat→Nat}{N:dJ}{B:Hp}{vn:Value}{lvl:List Nat}(hw:eY bw kp vl vm∈B)(hl:c6 .i64 B vl (iw lvl))(uS:lvl.length=n)(hlv:∀v,v<n→lvl.getD v 0=oc v)(q:Q3)(hn:Sl 3 B vn ((l3 q).map (got N)))
 (h:WF n oc N)(hL:jn n oc)(hq:∀r∈l3 q,live N r)(wV:n≤64):
  Rd Tryz.prog 266 #[ptr bw,vn] B (fun r=>((∀s∈l3 q,N s=none)∧r=.int .i64 (-1))∨∃v,pJ n oc N (l3 q) v∧r=.int .i64 (v:Int)):=by
 have hlen:(l3 q).length=3:=rfl
 intro g
 refine Ag (R:=az _) ?_
 unfold L266
 refine hn.bS ?_
 rw[List.length_map,hlen]
 refine⟨fun vs H=>∃(i:Nat) (w:Int),vs=[.int .i64 w,.int .i64 (i:Int)]∧i≤3∧H=B∧(((∀s∈(l3 q).take i,N s=none)∧w= -1)∨∃v:Nat,pJ n oc N ((l3 q).take i) v∧w=(v:Int)),fun vs _=>3-bR vs 1,
  JE.mk ⟨0, -1,rfl,by omega,rfl,.inl ⟨by simp,rfl⟩⟩,?_⟩
 rintro w6 w7 H ⟨i,w,hv,hi,rfl,Mw⟩ gs
 simp only[List.cons.injEq,and_true]at hv
 obtain⟨rfl,rfl⟩:=hv
 refine ae.fq (b:=3) (Br.dec (fun hlt=>?_) (fun hlt=>?_))
 ·intro J hJ
  have fV:i<(l3 q).length:=hlt
  obtain⟨r,hr⟩:∃r,(l3 q)[i]? =some r:=⟨_,List.getElem?_eq_getElem fV⟩
  have gD:(l3 q).take (i+1)=(l3 q).take i++[r]:=by rw[List.take_add_one,hr];rfl
  have fin:∀(w':Int) (Z:Hp),((∀s∈(l3 q).take (i+1),N s=none)∧w'= -1)∨(∃v:Nat,pJ n oc N ((l3 q).take (i+1)) v∧w'=(v:Int))→J [.int .i64 w'] (Z++H):=fun w' Z h'=>hJ _ _ fun gs=>by
   refine ae.aK (b:=1) (by simp[aB];omega) ?_
   exact aF.of .right ⟨i+1,w',rfl,by omega,rfl,h'⟩ (by simp only[bR];omega)
  have hrow:((l3 q).map (got N))[i]? =some (got N r):=by rw[List.getElem?_map,hr];rfl
  refine ai.sl hn hrow fun p hp=>?_
  refine aC.at hp (aJ _ _).1 (by decide) (fun _ h=>h) ?_
  intro jN _
  refine St.whole (r:=got N r) (by exact .head _) rfl (aJ _ _).1 (aJ _ _).2 ?_
  have hlr:=hq r (List.mem_of_getElem? hr)
  cases hN:N r with
  |none=>
   have Cz:r<2:=by rcases hlr with h2|⟨d,hd⟩;exact h2;rw[hN]at hd;cases hd
   have eg:got N r=[.int .i64 (-1),u32 r,u32 r]:=dx Cz
   rw[eg]
   refine aa.mk (Ld.mk (v:=.int .i64 (-1)) (by exact .head _) rfl ?_)
   refine ae.geq ?_
   refine cw.mk false (fun h=>by simp at h) (fun _=>rfl) fun gs=>Br.no ?_
   refine JE.mk (fin w [_] ?_)
   rcases Mw with⟨h1,h2⟩|⟨v,h1,h2⟩
   ·refine .inl ⟨fun s hs=>?_,h2⟩
    rw[gD,List.mem_append,List.mem_singleton]at hs
    rcases hs with hs|rfl
    ·exact h1 s hs
    ·exact hN
   ·refine .inr ⟨v,⟨h1.lt,?_,fun s hs=>?_⟩,h2⟩
    ·obtain⟨s,hs,x⟩:=h1.ex;exact⟨s,by rw[gD];exact List.mem_append_left _ hs,x⟩
    ·rw[gD,List.mem_append,List.mem_singleton]at hs
     rcases hs with hs|rfl
     ·exact h1.le s hs
     ·rw[aT hN];exact Nat.le_of_lt (hL.lt v h1.lt)
  |some d=>
   have h2:=h.two hN
   have nN:=h.var hN
   have eg:got N r=aV d:=cY hN h2
   rw[eg]
   refine aa.mk (Ld.mk (v:=.int .i64 (d.v:Int)) (by exact .head _) rfl ?_)
   refine ae.geq ?_
   rw[decide_eq_true (by omega)]
   have vX:(∀s∈(l3 q).take i,oc d.v≤dep n oc N s)→∃v:Nat,pJ n oc N ((l3 q).take (i+1)) v∧(d.v:Int)=(v:Int):=fun hle=>by
    refine⟨d.v,⟨nN,⟨r,by rw[gD];simp,d,hN,rfl⟩,fun s hs=>?_⟩,rfl⟩
    rw[gD,List.mem_append,List.mem_singleton]at hs
    rcases hs with hs|rfl
    ·exact hle s hs
    ·rw[av hN];exact Nat.le_refl _
   rcases Mw with⟨h1,rfl⟩|⟨v,h1,rfl⟩
   ·refine cw.and true (fun _=>?_) rfl fun gs=>Br.yes ?_
    ·refine ae.lss ?_
     exact cw.mk true (fun h=>by simp at h) (fun _=>rfl) fun gs=>⟨rfl,rfl⟩
    ·refine aa.mk (Ld.mk (v:=.int .i64 (d.v:Int)) (by exact .head _) rfl ?_)
     refine JE.mk (fin (d.v:Int) [_] (.inr (vX fun s hs=>?_)))
     rw[aT (h1 s hs)];exact Nat.le_of_lt (hL.lt _ nN)
   ·have g1:(iw lvl)[d.v]? =some ((oc d.v:Nat):Int):=by rw[←hlv d.v nN];exact bc (by omega)
    have g2:(iw lvl)[v]? =some ((oc v:Nat):Int):=by rw[←hlv v h1.lt];exact bc (by have:=h1.lt;omega)
    refine cw.and (decide (oc d.v<oc v)) (fun _=>?_) rfl fun gs=>?_
    ·refine ae.lss ?_
     rw[decide_eq_false (by omega)]
     refine cw.or (decide (oc d.v<oc v)) (fun _=>?_) rfl fun gs=>⟨rfl,by simp⟩
     refine Nil.ptr (aa.mk (Ld.mk (v:=vl) (.tail _ hw) rfl ?_))
     refine aa.mk (Ld.mk (v:=.int .i64 (d.v:Int)) (by exact .head _) rfl ?_)
     refine hl.ld g1 (fun _ h=>.tail _ h) ?_
     refine Nil.ptr (aa.mk (Ld.mk (v:=vl) (.tail _ hw) rfl ?_))
     refine hl.ld g2 (fun _ h=>.tail _ h) ?_
     exact ae.fq ⟨rfl,rfl⟩
    ·rw[Bool.true_and]
     refine Br.dec (fun iG=>?_) (fun iG=>?_)
     ·refine aa.mk (Ld.mk (v:=.int .i64 (d.v:Int)) (by exact .head _) rfl ?_)
      refine JE.mk (fin (d.v:Int) [_] (.inr (vX fun s hs=>?_)))
      have:=h1.le s hs;omega
     ·refine JE.mk (fin (v:Int) [_] (.inr ⟨v,⟨h1.lt,?_,fun s hs=>?_⟩,rfl⟩))
      ·obtain⟨s,hs,x⟩:=h1.ex;exact⟨s,by rw[gD];exact List.mem_append_left _ hs,x⟩
      ·rw[gD,List.mem_append,List.mem_singleton]at hs
       rcases hs with hs|rfl
       ·exact h1.le s hs
       ·rw[av hN];omega
 ·obtain rfl:i=3:=by omega
  rw[List.take_of_length_le (by rw[hlen];exact Nat.le_refl _)]at Mw
  refine cr.mk (.refl _) ?_
  rcases Mw with⟨h1,rfl⟩|⟨v,h1,rfl⟩
  ·exact .inl ⟨h1,rfl⟩
  ·exact .inr ⟨v,h1,rfl⟩
theorem zA(r v:Nat)(B:Hp):Rd Tryz.prog 267 #[ptr bw,.int .i64 (v:Int),u32 r,u32 r] B (· =.tuple #[u32 r,.int .i64 0]):=by
 intro g
 refine rL (R:=az _) ?_
 unfold L267
 exact ae.jt (Br.dS rfl (cr.mk (.refl _) rfl))
theorem IV{CM X:Hp}{made:List Nat}(h:cF kp K S ord ah tr C){v lo hi:Nat}(hv:v<K.n)(hlo:live K.N lo)(hhi:live K.N hi)(hne:lo≠hi)(hlt:lv ah v<dep K.n (lv ah) K.N lo∧lv ah v<dep K.n (lv ah) K.N hi)
 (hM:aN 77 .u32 vm (iw made) CM)(hf:∀s,K.hold s<65535)(hlen:made.length≤1099511627776):
  Fc Tryz.prog 267 #[ptr bw,.int .i64 (v:Int),u32 lo,u32 hi] (eY bw kp vl vm::(X++(CM++C))) (fun w H=>
   (∃r K' S' C' No Qj,w=.tuple #[u32 r,.int .i64 0]∧H=eY bw kp vl No::(X++(Qj++C'))∧cF kp K' S' ord ah [] C'∧mB K S K' S' (ite S ⟨v,lo,hi⟩) r∧aN 77 .u32 No (iw (made++[r])) Qj)∨
   (w=.tuple #[u32 0,.int .i64 9]∧H=eY bw kp vl vm::(X++(CM++C))∧K.cap≤K.used∧K.T ⟨v,lo,hi⟩=none)):=by
 intro g
 refine rL (R:=az _) ?_
 unfold L267
 refine ae.fO (Br.aX hne ?_)
 refine Nil.ptr (aa.mk (Ld.mk (v:=ptr kp) (by exact .head _) rfl ?_))
 refine ag.fn (.cons (.app (.app .here))) (uL h hv hlo hhi (.inr hlt)) ?_
 rintro w C' (⟨r,K',S',rfl,gE,mk⟩|⟨r,rfl,_,_,_,hfull,_⟩|⟨rfl,rfl,hcap,_,hT⟩)
 ·refine Ext.mk rfl (Ext.mk rfl ?_)
  intro J hJ
  refine ae.jt (Br.dS rfl ?_)
  refine Nil.ptr (aa.mk (Ld.mk (v:=vm) (by exact .head _) rfl ?_))
  refine au.int (e:=77) (by kernel_rfl) (by kernel_rfl) (by kernel_rfl) fun bx=>?_
  refine hM.pG (x:=(r:Int)) (.cons (.cons (.app .left))) (by exact .head _) (by rw[aq];omega) (by rw[aq];omega) fun No Qj U0=>?_
  have h1:=U0.one
  refine Nil.ptr (aa.mk (St.one (by exact .tail (.head _)) h1 (by simp) rfl ?_))
  refine az.mk .tail (.inl ⟨r,K',S',C',No,Qj,rfl,rfl,gE,mk,?_⟩)
  rw[cL];exact U0
 ·have:=hf r;omega
 ·refine Ext.mk rfl (Ext.mk rfl ?_)
  intro J hJ
  refine ae.jt (Br.aX (by decide) ?_)
  refine ae.jt (Br.aX (by decide) ?_)
  exact JE.mk (hJ _ fun gs=>az.here (.inr ⟨rfl,rfl,hcap,hT⟩))
end
end Go.Proofs
set_option maxRecDepth 100000
namespace Go.Proofs
open Go Go.Sx
open aE
structure k9(K0:Kd)(S0:Nat→aE.Fn)(U:aE.Fn→Prop)(ord:List Nat)(K:Kd)(S:Nat→aE.Fn)(made:List Nat):Prop where
 n:K.n=K0.n
 cap:K.cap=K0.cap
 N:∀s d,K0.N s=some d→K.N s=some d
 fn:∀s,live K0.N s→S s=S0 s
 hold:∀s,K.hold s=K0.hold s+made.count s
 two:∀s∈made,2≤s
 U:∀g,aM K0.n ord (K.held S) g→U g
theorem k9.refl{K0:Kd}{S0:Nat→aE.Fn}{U:aE.Fn→Prop}{ord:List Nat}(h:∀g,aM K0.n ord (K0.held S0) g→U g):k9 K0 S0 U ord K0 S0 []:=⟨rfl,rfl,fun _ _ h=>h,fun _ _=>rfl,fun s=>by simp,by simp,h⟩
def Fits(U:aE.Fn→Prop)(cap:Nat):Prop:=∃ku,oV U ku∧ku+2≤cap
section
variable {kp:Nat} {K0 K:Kd} {S0 S:Nat→aE.Fn} {U:aE.Fn→Prop} {ord ah tr:List Nat} {made:List Nat} {C:Hp}
theorem k9.fB(h:k9 K0 S0 U ord K S made)(hK:cF kp K S ord ah tr C){s:Nat}(hs:s∈made):live K.N s:=by
 refine .inr (hK.ok.mid.held s ?_)
 rw[h.hold]
 have:=List.count_pos_iff.2 hs
 omega
theorem k9.live(h:k9 K0 S0 U ord K S made){s:Nat}(hs:live K0.N s):live K.N s:=cA h.N hs
theorem k9.step(h:k9 K0 S0 U ord K S made)(hK:cF kp K S ord ah tr C){K':Kd}{S':Nat→aE.Fn}{f:aE.Fn}{r:Nat}(m:mB K S K' S' f r)(h2:2≤r)(hU:∀g,aM K0.n ord (fun g=>g=f) g→U g):k9 K0 S0 U ord K' S' (made++[r]):=by
 refine⟨m.n.trans h.n,m.cap.trans h.cap,fun s d hd=>m.N s d (h.N s d hd),fun s hs=>(m.fn s (h.live hs)).trans (h.fn s hs),fun s=>?_,fun s hs=>?_,fun g hg=>?_⟩
 ·rw[m.hold,List.count_append,List.count_singleton,h.hold]
  by_cases e:s=r
  ·subst e;simp[h2];omega
  ·have:(r==s)=false:=by simpa using fun e'=>e e'.symm
   simp[e,this]
 ·rcases List.mem_append.1 hs with hs|hs
  ·exact h.two s hs
  ·simp at hs;subst hs;exact h2
 ·have g6:∀g,K'.held S' g→K.held S g∨g=f:=by
   rintro g ⟨s,hs,rfl⟩
   have hs':K'.hold s≠0:=hs
   rw[m.hold]at hs'
   by_cases e:s=r∧2≤r
   ·right;rw[e.1];exact m.is
   ·rw[if_neg e]at hs'
    exact .inl ⟨s,hs',m.fn s (.inr (hK.ok.mid.held s hs'))⟩
  rcases(GU g).1 (bM g6 hg)with h1|h1
  ·exact h.U g h1
  ·exact hU g h1
end
def mT(fi b1 b5 jN:Nat):Value:=.func (.func 264) #[] #[ptr fi,ptr b1,ptr b5,ptr jN]
structure vv(fv:Value)(LB:Hp)(t:Bool→Bool→Bool→Bool):Prop where
 is:∃f first cap,fv=.func (.func f) first cap∧bh Tryz.prog f=true∧∀x y z:Bool,Rd Tryz.prog f (first++ #[.bool x,.bool y,.bool z]++cap) LB (· =.bool (t x y z))
def T4(K0:Kd)(S0 S:Nat→aE.Fn)(t:Bool→Bool→Bool→Bool)(made:List Nat)(m:List (Q3×Nat)):Prop:=∀y∈m,S y.2=pZ t S0 (l3 y.1)∧(y.2<2∨y.2∈made)
section
variable {kp fi b1 b5 jN bm bw:Nat} {vl fv:Value} {LB CL:Hp} {lvl:List Nat} {K0:Kd} {S0:Nat→aE.Fn} {U:aE.Fn→Prop} {ord ah:List Nat} {t:Bool→Bool→Bool→Bool}
abbrev M6(fi b1 b5 jN bm bw kp:Nat)(fv vl vm:Value)(LB CL CM C:Hp)(es:Array MapEntry)(ck:Nat):Hp:=
 (fi,.cells #[.map (some bm)] 339 (0,0))::(b1,.cells #[ptr bw] 313 (0,0))::(b5,.cells #[fv] 320 (0,0))::(jN,.cells #[mT fi b1 b5 jN] 340 (0,0))::
 (LB++((bm,.map es ck)::(eY bw kp vl vm::(CL++(CM++C)))))
structure YY(kp:Nat)(K0:Kd)(S0:Nat→aE.Fn)(U:aE.Fn→Prop)(ord ah NM:List Nat)(t:Bool→Bool→Bool→Bool)(K:Kd)(S:Nat→aE.Fn)(made:List Nat)(es:Array MapEntry)(ck:Nat)(vm:Value)(CM C:Hp):Prop where
 ks:∃tr,cF kp K S ord ah tr C∧(tr=[]∨(tr=NM∧made=[]))
 cH:k9 K0 S0 U ord K S made
 WJ:aN 77 .u32 vm (iw made) CM
 kn:∃m,aR kq F8 es ck m∧T4 K0 S0 S t made m
structure eO(K:Kd)(S:Nat→aE.Fn)(made:List Nat)(K':Kd)(S':Nat→aE.Fn)(made':List Nat)(c:Nat):Prop where
 N:∀s d,K.N s=some d→K'.N s=some d
 fn:∀s,live K.N s→S' s=S s
 ext:∃ext,made'=made++ext∧ext.length≤c
theorem eO.refl{K:Kd}{S:Nat→aE.Fn}{made:List Nat}{c:Nat}:eO K S made K S made c:=⟨fun _ _ h=>h,fun _ _=>rfl,[],by simp,Nat.zero_le _⟩
section
variable {K K' K2:Kd} {S S' S2:Nat→aE.Fn} {made made' fc:List Nat} {c c':Nat}
theorem eO.F3(h:eO K S made K' S' made' c)(hc:c≤c'):eO K S made K' S' made' c':=⟨h.N,h.fn,let ⟨e,h1,h2⟩:=h.ext;⟨e,h1,by omega⟩⟩
theorem eO.mem{s:Nat}(h:eO K S made K' S' made' c)(hs:s∈made):s∈made':=by
 obtain⟨e,rfl,_⟩:=h.ext;exact List.mem_append_left _ hs
theorem eO.count(h:eO K S made K' S' made' c)(s:Nat):made'.count s≤made.count s+c∧made'.length≤made.length+c:=by
 obtain⟨e,rfl,he⟩:=h.ext
 have:=List.count_le_length (a:=s) (l:=e)
 rw[List.count_append,List.length_append];omega
theorem eO.trans(h:eO K S made K' S' made' c)(h':eO K' S' made' K2 S2 fc c'):eO K S made K2 S2 fc (c+c'):=by
 obtain⟨e,rfl,he⟩:=h.ext
 obtain⟨e',rfl,he'⟩:=h'.ext
 exact⟨fun s d hd=>h'.N s d (h.N s d hd),fun s hs=>(h'.fn s (cA h.N hs)).trans (h.fn s hs),e++e',by rw[List.append_assoc],by rw[List.length_append];omega⟩
end
theorem nC{κ β:Type}[DecidableEq κ]{m:List (κ×β)}{k:κ}{x:β}{y:κ×β}(h:y∈fU m k x):y=(k,x)∨y∈m:=by
 unfold fU at h
 split at h
 ·obtain⟨z,hz,rfl⟩:=List.mem_map.1 h
  split
  ·exact .inl rfl
  ·exact .inr hz
 ·rcases List.mem_append.1 h with h|h
  ·exact .inr h
  ·simp at h;exact .inl h
def sq(N:dJ)(v:Nat)(b:Bool)(q:Q3):Q3:=(cZ N v b q.1,cZ N v b q.2.1,cZ N v b q.2.2)
theorem KN(N:dJ)(v:Nat)(b:Bool)(q:Q3):l3 (sq N v b q)=fP N v b (l3 q):=rfl
theorem kR{N N':dJ}(hN:∀s d,N s=some d→N' s=some d)(h2:∀r,r<2→N r=none)(kQ:∀r,r<2→N' r=none){r:Nat}(hr:live N r):got N' r=got N r:=by
 rcases hr with hr|⟨d,hd⟩
 ·rw[dx hr,dx hr]
 ·by_cases h:r<2
  ·rw[h2 r h]at hd;cases hd
  ·rw[cY hd (by omega),cY (hN r d hd) (by omega)]
def Ans(kp fi b1 b5 jN bm bw:Nat)(fv vl:Value)(LB CL:Hp)(K0:Kd)(S0:Nat→aE.Fn)(U:aE.Fn→Prop)(ord ah NM:List Nat)(t:Bool→Bool→Bool→Bool)(ql:List Nat)(c:Nat)(K:Kd)(S:Nat→aE.Fn)(made:List Nat)(r:Value)(H:Hp):Prop:=
 ∃K' S' made' es' cu No Qj C',H=M6 fi b1 b5 jN bm bw kp fv vl No LB CL Qj C' es' cu∧YY kp K0 S0 U ord ah NM t K' S' made' es' cu No Qj C'∧eO K S made K' S' made' c∧
   ((∃x:Nat,r=.tuple #[u32 x,.int .i64 0]∧S' x=pZ t S0 ql∧(x<2∨x∈made'))∨(r=.tuple #[u32 0,.int .i64 9]∧¬Fits U K0.cap))
theorem Pv(fx:bh Tryz.prog 264=true)(U2:vv fv LB t)(MV:aN 3 .i64 vl (iw lvl) CL)(uS:lvl.length=K0.n)(hlv:∀v,v<K0.n→lvl.getD v 0=lv ah v)(wV:K0.n≤64)(iP:WF K0.n (lv ah) K0.N)(l6:Interp K0.N S0)(iH:jn K0.n (lv ah))(Lr:∀r,live K0.N r→r<4294967296){NM:List Nat}:
  ∀(ql:List Nat) (c:Nat),Tree K0.n (lv ah) K0.N ql c→∀(q:Q3),l3 q=ql→∀(K:Kd) (S:Nat→aE.Fn) (made:List Nat) (es:Array MapEntry) (ck:Nat) (vm:Value) (CM C:Hp),YY kp K0 S0 U ord ah NM t K S made es ck vm CM C→
  (∀r∈ql,live K0.N r)→(∀g,aM K0.n ord (fun g=>g=pZ t S0 ql) g→U g)→(∀s,K.hold s+c<65535)→made.length+c≤1048576→
  Fc Tryz.prog 264 #[kq q,ptr fi,ptr b1,ptr b5,ptr jN] (M6 fi b1 b5 jN bm bw kp fv vl vm LB CL CM C es ck) (fun r H=>Ans kp fi b1 b5 jN bm bw fv vl LB CL K0 S0 U ord ah NM t ql c K S made r H):=by
 have hc0:∀r,r<2→K0.N r=none:=fun r hr=>iP.const hr
 intro ql c hT
 induction hT with
 | @leaf ql hnone=>
  intro q hq K S made es ck vm CM C hS fw hU hB hM g
  subst hq
  obtain⟨tr,hK,oF⟩:=hS.ks
  obtain⟨m,hE,hkn⟩:=hS.kn
  have CV:∀r,r<2→K.N r=none:=fun r hr=>hK.ok.wf.const hr
  refine rM (R:=az _) ?_
  unfold L264
  intro bq _
  refine Ld.mk (v:=.map (some bm)) (by exact .tail _ (.head _)) rfl ?_
  refine aC.whole (r:=(iw (l3 q)).map fun n=>.int .u32 n) (by exact .head _) rfl ?_
  have sA:(bm,Obj.map es ck)∈(bq,Obj.cells (ax .u32 (iw (l3 q))) 318 (0,0))::M6 fi b1 b5 jN bm bw kp fv vl vm LB CL CM C es ck:=.tail _ (.tail _ (.tail _ (.tail _ (.tail _ (List.mem_append_right _ (.head _))))))
  cases hg:dK m q with
  |some x=>
   refine aR.Er (ke:=kq) (k:=q) tv oz hE sA hg ?_
   rintro v rfl
   obtain⟨h1,h2⟩:=hkn _ ((e9 hE.nd).1 hg)
   refine Ext.mk rfl (Ext.mk rfl (Br.yes ?_))
   exact az.mk .tail ⟨K,S,made,es,ck,vm,CM,C,rfl,hS,.refl,.inl ⟨x,rfl,h1,h2⟩⟩
  |none=>
   refine aR.tf (ke:=kq) (k:=q) tv oz hE sA hg ?_
   refine Ext.mk rfl (Ext.mk rfl (Br.no ?_))
   refine Ld.mk (v:=ptr bw) (by exact .tail _ (.tail _ (.head _))) rfl ?_
   refine aC.whole (r:=(iw (l3 q)).map fun n=>.int .u32 n) (by exact .head _) rfl ?_
   refine ag.fn (args:=#[ptr bw,kq q]) (.cons (.cons (.cons (.cons (.cons (.app (.cons .here))))))) (tN hK.rep q (fun r hr=>Lr r (fw r hr))) ?_
   rintro vn H ⟨CN,rfl,hN⟩
   have eN:(l3 q).map (got K.N)=(l3 q).map (got K0.N):=List.map_congr_left fun r hr=>kR hS.cH.N hc0 CV (fw r hr)
   rw[eN]at hN
   refine Ld.mk (v:=ptr bw) (by exact .tail _ (.tail _ (.head _))) rfl ?_
   refine ag.rd .here (Dl (bw:=bw) (kp:=kp) (vl:=vl) (vm:=vm) (lvl:=lvl) (n:=K0.n) (oc:=lv ah) (N:=K0.N) (.tail _ (.tail _ (.tail _ (.tail _ (.tail _ (List.mem_append_right _ (.tail _ (List.mem_append_right _ (.head _))))))))) (MV.ints.mono fun _ h=>.tail _ (.tail _ (.tail _ (.tail _ (.tail _ (List.mem_append_right _ (.tail _ (List.mem_append_right _ (.tail _ (List.mem_append_left _ h)))))))))) uS hlv q ((Sl.kF hN (by decide)).mono fun _ h=>.tail _ (.tail _ (.tail _ (.tail _ (.tail _ (List.mem_append_right _ (.tail _ (List.mem_append_left _ h)))))))) iP iH fw wV) ?_
   rintro w (⟨_,rfl⟩|⟨v,hv,rfl⟩)
   rotate_left
   ·obtain⟨s,hs,d,hd,_⟩:=hv.ex
    rw[hnone s hs]at hd;cases hd
   refine ae.lss (Br.dS (by decide) ?_)
   have Eu:∀r∈l3 q,r<2:=fun r hr=>by
    rcases fw r hr with h|⟨d,hd⟩
    ·exact h
    ·rw[hnone r hr]at hd;cases hd
   obtain⟨f,first,cap,HO,hfc,hL⟩:=U2.is
   refine Ld.mk (v:=fv) (by exact .tail _ (.tail _ (.tail _ (.head _)))) rfl ?_
   refine gm.nat (j:=0) (by decide) (Ld.mk (v:=.int .u32 ((q.1:Nat):Int)) (by exact .head _) rfl ?_)
   refine ae.fO (b:=1) ?_
   refine gm.nat (j:=1) (by decide) (Ld.mk (v:=.int .u32 ((q.2.1:Nat):Int)) (by exact .head _) rfl ?_)
   refine ae.fO (b:=1) ?_
   refine gm.nat (j:=2) (by decide) (Ld.mk (v:=.int .u32 ((q.2.2:Nat):Int)) (by exact .head _) rfl ?_)
   refine ae.fO (b:=1) ?_
   refine cg.of HO hfc ?_
   refine ag.rd (.cons (.cons (.cons (.cons (.cons .left))))) (hL _ _ _) ?_
   rintro w rfl
   have Qy:=fun x=>EE l6 (q:=l3 q) rfl Eu t x
   have hint:=hK.ok.mid.int
   have MJ:aU ((bq,Obj.cells (ax .u32 (iw (l3 q))) 318 (0,0))::(fi,.cells #[.map (some bm)] 339 (0,0))::(b1,.cells #[ptr bw] 313 (0,0))::(b5,.cells #[fv] 320 (0,0))::(jN,.cells #[mT fi b1 b5 jN] 340 (0,0))::(LB++((bm,.map es ck)::(CN++(eY bw kp vl vm::(CL++(CM++C))))))) (M6 fi b1 b5 jN bm bw kp fv vl vm LB CL CM C es ck):=
    .skip (.cons (.cons (.cons (.cons (.dj (.cons .right) _)))))
   refine Br.mk (fun hb=>?_) (fun hb=>?_)
   ·refine az.mk MJ ⟨K,S,made,es,ck,vm,CM,C,rfl,hS,.refl,.inl ⟨1,rfl,funext fun x=>?_,.inl (by omega)⟩⟩
    rw[hint.one,Qy x];exact hb.symm
   ·refine az.mk MJ ⟨K,S,made,es,ck,vm,CM,C,rfl,hS,.refl,.inl ⟨0,rfl,funext fun x=>?_,.inl (by omega)⟩⟩
    rw[hint.zero,Qy x];exact hb.symm
 | @node ql v a b hv ha hb iha ihb=>
  intro q hq K S made es ck vm CM C hS fw hU hB hM g
  subst hq
  obtain⟨tr,hK,oF⟩:=hS.ks
  obtain⟨m,hE,hkn⟩:=hS.kn
  have CV:∀r,r<2→K.N r=none:=fun r hr=>hK.ok.wf.const hr
  refine rM (R:=az _) ?_
  unfold L264
  intro bq _
  refine Ld.mk (v:=.map (some bm)) (by exact .tail _ (.head _)) rfl ?_
  refine aC.whole (r:=(iw (l3 q)).map fun n=>.int .u32 n) (by exact .head _) rfl ?_
  have sA:(bm,Obj.map es ck)∈(bq,Obj.cells (ax .u32 (iw (l3 q))) 318 (0,0))::M6 fi b1 b5 jN bm bw kp fv vl vm LB CL CM C es ck:=.tail _ (.tail _ (.tail _ (.tail _ (.tail _ (List.mem_append_right _ (.head _))))))
  cases hg:dK m q with
  |some x=>
   refine aR.Er (ke:=kq) (k:=q) tv oz hE sA hg ?_
   rintro v rfl
   obtain⟨h1,h2⟩:=hkn _ ((e9 hE.nd).1 hg)
   refine Ext.mk rfl (Ext.mk rfl (Br.yes ?_))
   exact az.mk .tail ⟨K,S,made,es,ck,vm,CM,C,rfl,hS,.refl,.inl ⟨x,rfl,h1,h2⟩⟩
  |none=>
  refine aR.tf (ke:=kq) (k:=q) tv oz hE sA hg ?_
  refine Ext.mk rfl (Ext.mk rfl (Br.no ?_))
  refine Ld.mk (v:=ptr bw) (by exact .tail _ (.tail _ (.head _))) rfl ?_
  refine aC.whole (r:=(iw (l3 q)).map fun n=>.int .u32 n) (by exact .head _) rfl ?_
  refine ag.fn (args:=#[ptr bw,kq q]) (.cons (.cons (.cons (.cons (.cons (.app (.cons .here))))))) (tN hK.rep q (fun r hr=>Lr r (fw r hr))) ?_
  rintro vn H ⟨CN,rfl,hN⟩
  have eN:(l3 q).map (got K.N)=(l3 q).map (got K0.N):=List.map_congr_left fun r hr=>kR hS.cH.N hc0 CV (fw r hr)
  rw[eN]at hN
  refine Ld.mk (v:=ptr bw) (by exact .tail _ (.tail _ (.head _))) rfl ?_
  refine ag.rd .here (Dl (bw:=bw) (kp:=kp) (vl:=vl) (vm:=vm) (lvl:=lvl) (n:=K0.n) (oc:=lv ah) (N:=K0.N) (.tail _ (.tail _ (.tail _ (.tail _ (.tail _ (List.mem_append_right _ (.tail _ (List.mem_append_right _ (.head _))))))))) (MV.ints.mono fun _ h=>.tail _ (.tail _ (.tail _ (.tail _ (.tail _ (List.mem_append_right _ (.tail _ (List.mem_append_right _ (.tail _ (List.mem_append_left _ h)))))))))) uS hlv q ((Sl.kF hN (by decide)).mono fun _ h=>.tail _ (.tail _ (.tail _ (.tail _ (.tail _ (List.mem_append_right _ (.tail _ (List.mem_append_left _ h)))))))) iP iH fw wV) ?_
  rintro w (⟨aP,_⟩|⟨v',Hv,rfl⟩)
  ·obtain⟨s,hs,d,hd,_⟩:=hv.ex
   rw[aP s hs]at hd;cases hd
  obtain rfl:v'=v:=Hv.uniq iH hv
  refine ae.lss (Br.aX (by omega) ?_)
  refine DR.of (R:=[(bq,Obj.cells (ax .u32 (iw (l3 q))) 318 (0,0))]) (aU.left (A:=[_])) ?_
  refine aC.whole (r:=(iw (l3 q)).map fun n=>.int .u32 n) (by exact .head _) rfl ?_
  refine aC.whole (r:=(iw (l3 q)).map fun n=>.int .u32 n) (by exact .head _) rfl ?_
  intro zu _ oQ _ ZV
  have hone:∀x∈(iw (l3 q)).map fun n=>Value.int .u32 n,x.oneCell'=true:=fun x hx=>by obtain⟨n,_,rfl⟩:=List.mem_map.1 hx;rfl
  refine St.whole (r:=(iw (l3 q)).map fun n=>.int .u32 n) (by exact .tail (.head _)) rfl rfl hone ?_
  refine⟨.skip (.skip (aU.left (A:=[_]))),?_⟩
  intro ZU
  refine St.whole (r:=(iw (l3 q)).map fun n=>.int .u32 n) (by exact .head _) rfl rfl hone ?_
  refine hN.bS ?_
  rw[List.length_map]
  refine⟨fun vs H=>∃i:Nat,vs=[.int .i64 (i:Int)]∧i≤3∧H=(oQ,.cells (ax .u32 (iw (jF K0.N v' true (l3 q) i))) 318 (0,0))::(zu,.cells (ax .u32 (iw (jF K0.N v' false (l3 q) i))) 318 (0,0))::
    (bq,Obj.cells (ax .u32 (iw (l3 q))) 318 (0,0))::(fi,.cells #[.map (some bm)] 339 (0,0))::(b1,.cells #[ptr bw] 313 (0,0))::(b5,.cells #[fv] 320 (0,0))::(jN,.cells #[mT fi b1 b5 jN] 340 (0,0))::(LB++((bm,.map es ck)::(CN++(eY bw kp vl vm::(CL++(CM++C)))))),
   fun vs _=>3-bR vs 0,JE.mk ⟨0,rfl,by omega,by rw[tc,tc];rfl⟩,?_⟩
  rintro F4 H ⟨i,hvs,hi,rfl⟩ gs
  simp only[List.cons.injEq,and_true]at hvs
  subst hvs
  have hl3:(l3 q).length=3:=rfl
  refine ae.fq (b:=3) (Br.dec (fun hlt=>?_) (fun hlt=>?_))
  ·-- a part of the question
   intro J hJ
   obtain⟨r,hr⟩:∃r,(l3 q)[i]? =some r:=⟨_,List.getElem?_eq_getElem (show i<(l3 q).length from hlt)⟩
   have hlr:=fw r (List.mem_of_getElem? hr)
   have hrow:((l3 q).map (got K0.N))[i]? =some (got K0.N r):=by rw[List.getElem?_map,hr];rfl
   refine ai.sl (Sl.kF hN (by decide)) hrow fun p hp=>?_
   refine aC.at hp (aJ _ _).1 (by decide) (fun _ h=>.tail _ (.tail _ (.tail _ (.tail _ (.tail _ (.tail _ (.tail _ (List.mem_append_right _ (.tail _ (List.mem_append_left _ h)))))))))) ?_
   intro QL _
   refine St.whole (r:=got K0.N r) (by exact .head _) rfl (aJ _ _).1 (aJ _ _).2 ?_
   have stay:cZ K0.N v' false r=r→cZ K0.N v' true r=r→∀Z:Hp,JE J [] (Z++((oQ,.cells (ax .u32 (iw (jF K0.N v' true (l3 q) i))) 318 (0,0))::(zu,.cells (ax .u32 (iw (jF K0.N v' false (l3 q) i))) 318 (0,0))::
    (bq,Obj.cells (ax .u32 (iw (l3 q))) 318 (0,0))::(fi,.cells #[.map (some bm)] 339 (0,0))::(b1,.cells #[ptr bw] 313 (0,0))::(b5,.cells #[fv] 320 (0,0))::(jN,.cells #[mT fi b1 b5 jN] 340 (0,0))::(LB++((bm,.map es ck)::(CN++(eY bw kp vl vm::(CL++(CM++C)))))))):=fun e1 e2 Z=>by
    refine JE.of .right (hJ _ fun gs=>?_)
    refine ae.aK (b:=1) (by simp[aB];omega) ?_
    exact aF.of (.refl _) ⟨i+1,rfl,by omega,by rw[td hr e1,td hr e2]⟩ (by simp only[bR];omega)
   cases Pj:K0.N r with
   |none=>
    have Cz:r<2:=by rcases hlr with h2|⟨d,hd⟩;exact h2;rw[Pj]at hd;cases hd
    rw[dx Cz]
    refine aa.mk (Ld.mk (v:=.int .i64 (-1)) (by exact .head _) rfl ?_)
    refine ae.jt (Br.aX (by omega) ?_)
    have ec:∀b,cZ K0.N v' b r=r:=fun b=>by unfold cZ;rw[Pj]
    exact stay (ec false) (ec true) [_]
   |some d=>
    have h2:=iP.two Pj
    rw[cY Pj h2]
    refine aa.mk (Ld.mk (v:=.int .i64 (d.v:Int)) (by exact .head _) rfl ?_)
    refine ae.fO (Br.dec (fun nN=>?_) (fun nN=>?_))
    ·refine DR.of (R:=[(QL,Obj.cells (aV d).toArray 161 (0,0))]) (aU.left (A:=[_])) ?_
     refine aa.mk (Ld.mk (v:=u32 d.lo) (by exact .head _) rfl ?_)
     refine aa.mk (Ld.mk (v:=u32 d.hi) (by exact .head _) rfl ?_)
     have elo:cZ K0.N v' false r=d.lo:=by unfold cZ;rw[Pj];simp[nN]
     have ehi:cZ K0.N v' true r=d.hi:=by unfold cZ;rw[Pj];simp[nN]
     refine gm.nat hlt ?_
     refine St.ints (l:=iw (jF K0.N v' false (l3 q) i)) (x:=(d.lo:Int)) (by exact .tail (.tail (.head _))) (by rw[aq,wy (by omega)];omega) ?_
     refine⟨aU.left (A:=[_]),?_⟩
     refine gm.nat hlt ?_
     refine St.ints (l:=iw (jF K0.N v' true (l3 q) i)) (x:=(d.hi:Int)) (by exact .tail (.head _)) (by rw[aq,wy (by omega)];omega) ?_
     rw[eM,eM,←elo,←ehi,ow hr,ow hr]
     refine JE.of .tail (hJ _ fun gs=>?_)
     refine ae.aK (b:=1) (by simp[aB];omega) ?_
     exact aF.of (.refl _) ⟨i+1,rfl,by omega,rfl⟩ (by simp only[bR];omega)
    ·have ec:∀b,cZ K0.N v' b r=r:=fun b=>by unfold cZ;rw[Pj];simp[nN]
     exact stay (ec false) (ec true) [_]
  obtain rfl:i=3:=by omega
  have em:∀b,jF K0.N v' b (l3 q) 3=l3 (sq K0.N v' b q):=fun b=>by rw[KN,←G0];rfl
  rw[em,em]
  obtain⟨f1,f2⟩:=lU (S:=S0) iP iH l6 fw hv false
  obtain⟨t1,t2⟩:=lU (S:=S0) iP iH l6 fw hv true
  have ec:∀b,pZ t S0 (fP K0.N v' b (l3 q))=fun x=>pZ t S0 (l3 q) (aD.aI x v' b):=fun b=>Da iP iH l6 rfl fw hv t b
  have iF:Ord K0.n (lv ah) ord:=by rw[←hS.cH.n];exact hK.od
  have fV:=iH.lt v' hv.lt
  have En:=iF.of iH hv.lt
  have oG:=tH iP iH l6 iF (q:=l3 q) rfl fw (Nat.le_of_lt fV) hv.le t
  obtain⟨i1,GF⟩:=gB (n:=K0.n) (ord:=ord) (c:=pZ t S0 (fP K0.N v' false (l3 q))) oG (b:=false) (by rw[En];exact ec false)
  obtain⟨i2,GD⟩:=gB (n:=K0.n) (ord:=ord) (c:=pZ t S0 (fP K0.N v' true (l3 q))) oG (b:=true) (by rw[En];exact ec true)
  refine Ld.mk (v:=mT fi b1 b5 jN) (by exact .tail _ (.tail _ (.tail _ (.tail _ (.tail _ (.tail _ (.head _))))))) rfl ?_
  refine aC.whole (r:=(iw (l3 (sq K0.N v' false q))).map fun n=>.int .u32 n) (by exact .tail _ (.head _)) rfl ?_
  refine cg.of rfl fx ?_
  refine ag.pre (H':=(oQ,.cells (ax .u32 (iw (l3 (sq K0.N v' true q)))) 318 (0,0))::(zu,.cells (ax .u32 (iw (l3 (sq K0.N v' false q)))) 318 (0,0))::(bq,Obj.cells (ax .u32 (iw (l3 q))) 318 (0,0))::M6 fi b1 b5 jN bm bw kp fv vl vm LB CL CM C es ck) (.cons (.cons (.cons (.cons (.cons (.cons (.cons (.dj (.cons .right) _)))))))) ?_
  refine ag.fn (args:=#[kq (sq K0.N v' false q),ptr fi,ptr b1,ptr b5,ptr jN]) (.cons (.cons (.cons .here))) (iha (sq K0.N v' false q) rfl K S made es ck vm CM C hS f1 (fun g hg=>hU g (GF g hg)) (fun s=>by have:=hB s;omega) (by omega)) ?_
  rintro w H ⟨K1,S1,tq,Iy,Df,vm1,CM1,C1,rfl,x7,MX,HX⟩
  rcases HX with⟨x1,rfl,hx1,FI⟩|⟨rfl,hno⟩
  rotate_left
  ·refine Ext.mk rfl (Ext.mk rfl (ae.c7 (Br.dS (by decide) ?_)))
   exact az.mk (.skip (.skip .tail)) ⟨K1,S1,tq,Iy,Df,vm1,CM1,C1,rfl,x7,MX.F3 (by omega),.inr ⟨rfl,hno⟩⟩
  refine Ext.mk rfl (Ext.mk rfl (ae.c7 (Br.aX (by decide) ?_)))
  refine Ld.mk (v:=mT fi b1 b5 jN) (by exact .tail _ (.tail _ (.tail _ (.tail _ (.tail _ (.tail _ (.head _))))))) rfl ?_
  refine aC.whole (r:=(iw (l3 (sq K0.N v' true q))).map fun n=>.int .u32 n) (by exact .head _) rfl ?_
  refine cg.of rfl fx ?_
  have XT:=fun s=>MX.count s
  have Qx:∀s,K1.hold s≤K.hold s+a:=fun s=>by rw[x7.cH.hold,hS.cH.hold];have:=(XT s).1;omega
  refine ag.fn (args:=#[kq (sq K0.N v' true q),ptr fi,ptr b1,ptr b5,ptr jN]) (.cons (.cons (.cons .here))) (ihb (sq K0.N v' true q) rfl K1 S1 tq Iy Df vm1 CM1 C1 x7 t1 (fun g hg=>hU g (GD g hg)) (fun s=>by have:=hB s;have:=Qx s;omega) (by have:=(XT 0).2;omega)) ?_
  rintro w H ⟨K2,S2,fc,LG,PB,Vl,CM2,C2,rfl,ji,oI,HX⟩
  have uX:=MX.trans oI
  rcases HX with⟨x2,rfl,Ei,HC⟩|⟨rfl,hno⟩
  rotate_left
  ·refine Ext.mk rfl (Ext.mk rfl (ae.c7 (Br.dS (by decide) ?_)))
   exact az.mk (.skip (.skip .tail)) ⟨K2,S2,fc,LG,PB,Vl,CM2,C2,rfl,ji,uX.F3 (by omega),.inr ⟨rfl,hno⟩⟩
  refine Ext.mk rfl (Ext.mk rfl (ae.c7 (Br.aX (by decide) ?_)))
  refine Ld.mk (v:=ptr bw) (by exact .tail _ (.tail _ (.tail _ (.tail _ (.head _))))) rfl ?_
  obtain⟨NL,eB,OF⟩:=x7.ks
  obtain⟨Jv,de,wP⟩:=ji.ks
  have So:=de.ok.mid.int
  have WT:live K1.N x1:=by rcases FI with h|h;exact .inl h;exact x7.cH.fB eB h
  have e1:S2 x1=pZ t S0 (fP K0.N v' false (l3 q)):=(oI.fn x1 WT).trans hx1
  have l1:live K2.N x1:=by rcases FI with h|h;exact .inl h;exact ji.cH.fB de (oI.mem h)
  have l2:live K2.N x2:=by rcases HC with h|h;exact .inl h;exact ji.cH.fB de h
  have n2:=ji.cH.n
  have pF:ite S2 ⟨v',x1,x2⟩=pZ t S0 (l3 q):=by
   funext x
   unfold aE.ite
   rw[e1,Ei,ec,ec]
   conv=>rhs;rw[←aD.iW x v']
   simp only
   cases x.testBit v'<;>rfl
  obtain⟨m2,Lp,OW⟩:=ji.kn
  have hkl:∀y∈m2,live K2.N y.2:=fun y hy=>by
   rcases(OW y hy).2 with h|h
   ·exact .inl h
   ·exact ji.cH.fB de h
  by_cases hx:x1=x2
  ·subst hx
   refine ag.rd .here (zA x1 v' _) ?_
   rintro w rfl
   refine Ext.mk rfl (Ext.mk rfl ?_)
   intro J hJ
   refine ae.jt (Br.dS rfl ?_)
   refine Ld.mk (v:=.map (some bm)) (by exact .tail _ (.tail _ (.tail _ (.head _)))) rfl ?_
   refine aC.whole (r:=(iw (l3 q)).map fun n=>.int .u32 n) (by exact .tail _ (.tail _ (.head _))) rfl ?_
   refine aR.Ke (ke:=kq) (k:=q) (vr:=F8) (x:=x1) tv oz Cr Lp rfl fun es' cu he=>⟨_,.tail (.tail (.tail (.tail (.tail (.tail (.tail ((dH.head _).dD LB))))))),?_⟩
   refine JE.mk (hJ _ fun gs=>?_)
   have hr:S2 x1=pZ t S0 (l3 q):=by
    rw[←pF]
    funext x
    unfold aE.ite
    split<;>rfl
   have RV:x1<2∨x1∈fc:=HC
   exact az.mk (.skip (.skip .tail)) ⟨K2,S2,fc,es',cu,Vl,CM2,C2,rfl,⟨ji.ks,ji.cH,ji.WJ,_,he,fun y hy=>(nC hy).elim (fun e=>by rw[e];exact⟨hr,RV⟩) (fun hy=>OW y hy)⟩,uX.F3 (by omega),.inl ⟨x1,rfl,hr,RV⟩⟩
  ·have tC:cR (pZ t S0 (l3 q)) (ord.getD (lv ah v') 0):=by
    rw[En]
    refine Classical.byContradiction fun hno=>hx ?_
    refine de.ok.wf.same de.ok.lv So l1 l2 fun x=>?_
    rw[e1,Ei,ec,ec]
    exact(bU hno x false).trans (bU hno x true).symm
   have b1':=de.ok.below de.od (l:=lv ah v'+1) l1 (by omega) (by rw[e1];exact i1)
   have b2':=de.ok.below de.od (l:=lv ah v'+1) l2 (by omega) (by rw[Ei];exact i2)
   have Ia:∀g,aM K0.n ord (fun g=>g=ite S2 ⟨v',x1,x2⟩) g→U g:=by rw[pF];exact hU
   have XF:∀s,K2.hold s<65535:=fun s=>by
    have q1:=hB s
    have q2:=Qx s
    have q3:=(oI.count s).1
    have q4:=ji.cH.hold s
    have q5:=x7.cH.hold s
    omega
   refine ag.fn (args:=#[ptr bw,.int .i64 (v':Int),u32 x1,u32 x2]) (.cons (.cons (.cons (.cons (.cons (.cons (.cons (.app (.cons .here))))))))) (IV de (v:=v') (by rw[n2];exact hv.lt) l1 l2 hx ⟨by omega,by omega⟩ ji.WJ XF (by have:=(oI.count 0).2;have:=(MX.count 0).2;omega)) ?_
   rintro w H (⟨r,K3,S3,C3,vm3,CM3,rfl,rfl,l5,mk,Ll⟩|⟨rfl,rfl,O9,hT⟩)
   ·refine Ext.mk rfl (Ext.mk rfl ?_)
    intro J hJ
    refine ae.jt (Br.dS rfl ?_)
    refine Ld.mk (v:=.map (some bm)) (by exact .tail _ (.tail _ (.tail _ (.head _)))) rfl ?_
    refine aC.whole (r:=(iw (l3 q)).map fun n=>.int .u32 n) (by exact .tail _ (.tail _ (.head _))) rfl ?_
    refine aR.Ke (ke:=kq) (k:=q) (vr:=F8) (x:=r) tv oz Cr Lp rfl fun es' cu he=>⟨_,.tail (.tail (.tail (.tail (.tail (.tail (.tail ((dH.head _).dD LB))))))),?_⟩
    refine JE.mk (hJ _ fun gs=>?_)
    have hr:S3 r=pZ t S0 (l3 q):=mk.is.trans pF
    have Cz:2≤r:=Nat.le_of_not_lt fun h=>by
     obtain⟨x,hx⟩:=tC
     apply hx
     rw[←hr]
     have OZ:=l5.ok.mid.int
     have:r=0∨r=1:=by omega
     rcases this with rfl|rfl
     ·rw[OZ.zero,OZ.zero]
     ·rw[OZ.one,OZ.one]
    have mm:=ji.cH.step de mk Cz Ia
    have r5:eO K2 S2 fc K3 S3 (fc++[r]) 1:=⟨mk.N,mk.fn,[r],rfl,Nat.le_refl _⟩
    have RV:r<2∨r∈fc++[r]:=.inr (by simp)
    refine az.mk (.skip (.skip .tail)) ⟨K3,S3,fc++[r],es',cu,vm3,CM3,C3,rfl,⟨⟨[],l5,.inl rfl⟩,mm,Ll,_,he,fun y hy=>(nC hy).elim (fun e=>by rw[e];exact⟨hr,RV⟩) (fun hy=>?_)⟩,(uX.trans r5).F3 (by omega),.inl ⟨r,rfl,hr,RV⟩⟩
    obtain⟨k1,k2⟩:=OW y hy
    exact⟨by rw[r5.fn y.2 (hkl y hy),k1],k2.imp id r5.mem⟩
   ·refine Ext.mk rfl (Ext.mk rfl ?_)
    intro J hJ
    refine ae.jt (Br.aX (by decide) (JE.mk (hJ _ fun gs=>?_)))
    refine az.mk (.skip (.skip .tail)) ⟨K2,S2,fc,LG,PB,Vl,CM2,C2,rfl,ji,uX.F3 (by omega),.inr ⟨rfl,?_⟩⟩
    rintro⟨ku,HG,hfit⟩
    have:=de.ok.roomFor de.od HG (by rw[ji.cH.cap];exact hfit) (by rw[n2];exact ji.cH.U) (d:=⟨v',x1,x2⟩) l1 l2 hx (by rw[n2];exact hv.lt) ⟨by show lv ah v'<dep K2.n (lv ah) K2.N x1;omega,by show lv ah v'<dep K2.n (lv ah) K2.N x2;omega⟩ (Ia _ (by rw[pF];exact lE oG fV tC)) hT
    omega
end
end Go.Proofs
set_option maxRecDepth 100000
namespace Go.Proofs
open Go Go.Sx
open aE
section
variable {kp bw:Nat} {vl vm:Value} {K:Kd} {S:Nat→aE.Fn} {ord ah tr:List Nat} {C:Hp}
theorem tP{Y:Hp}{vr:Value}{refs:List Nat}(hK:cF kp K S ord ah tr C)(hr:c6 .u32 Y vr (iw refs))(hl:∀r∈refs,live K.N r)(bX:refs.length≤1048576):
  Fc Tryz.prog 240 #[ptr kp,vr] (Y++C) (fun w H=>∃bw vl CL lvl,w=.tuple #[ptr bw,.int .i64 0]∧H=eY bw kp vl (.slice none 0 0)::(CL++(Y++C))∧aN 3 .i64 vl (iw lvl) CL∧lvl.length=K.n∧∀v,v<K.n→lvl.getD v 0=lv ah v):=by
 have hn:K.n≤64:=hK.oS.ta
 have iF:=hK.od
 intro g
 refine AA (R:=az _) ?_
 unfold L240
 refine ae.bK (Br.no (hr.bS ?_))
 rw[aq]
 refine⟨fun vs H=>∃i:Nat,vs=[.int .i64 (i:Int)]∧i≤refs.length∧H=Y++C,fun vs _=>refs.length-bR vs 0,JE.mk ⟨0,rfl,Nat.zero_le _,rfl⟩,?_⟩
 rintro w7 H ⟨i,hv,hi,rfl⟩ gs
 simp only[List.cons.injEq,and_true]at hv
 subst hv
 refine ae.fq (Br.dec (fun hlt=>?_) (fun hlt=>?_))
 ·have hlr:=hl _ (List.getElem_mem hlt)
  refine hr.ld (n:=((refs[i]:Nat):Int)) (cB (List.getElem?_eq_getElem hlt)) (fun _ h=>List.mem_append_left _ h) ?_
  refine ag.rd (args:=#[ptr kp,u32 refs[i]]) (.app .here) (gR hK.rep (by have:=hK.bY hlr;omega)) ?_
  rintro w rfl
  rw[bI.2 hlr]
  refine Ext.mk rfl (Ext.mk rfl ?_)
  intro PI _
  refine St.whole (r:=got K.N refs[i]) (by exact .head _) rfl (aJ _ _).1 (aJ _ _).2 ?_
  refine ae.c7 (Br.aX (by simp) ?_)
  refine ae.aK (b:=1) (by simp[aB];omega) ?_
  exact aF.of .tail ⟨i+1,rfl,hlt,rfl⟩ (by simp only[bR];omega)
 ·refine ag.rd (.app .here) (gO hK.rep) ?_
  rintro w rfl
  refine cW.ints (by omega) (by omega) fun bl=>?_
  refine Build.mk (cs:=[ptr kp,.slice (some ⟨bl,0,none⟩) K.n K.n,.slice none 0 0]) (by kernel_rfl) ?_
  intro bw _
  refine ag.fn (.cons (.cons (.app .here))) (oA hK.rep) ?_
  rintro vo H ⟨N,rfl,ho⟩
  refine ho.bS ?_
  rw[aq,iF.len]
  have hz:List.replicate K.n (0:Int)=iw (List.replicate K.n 0):=by simp[iw]
  have hm:=aN.made (T:=3) (kd:=.i64) (b:=bl) (iw (List.replicate K.n 0))
  rw[aq,List.length_replicate]at hm
  rw[hz]
  generalize hvl:Value.slice (some ⟨bl,0,none⟩) K.n K.n=vl at*
  refine⟨fun vs H=>∃(i:Nat) (L:List Nat) (CL:Hp),vs=[.int .i64 (i:Int)]∧i≤K.n∧H=eY bw kp vl (.slice none 0 0)::(CL++(Y++(N++C)))∧aN 3 .i64 vl (iw L) CL∧L.length=K.n∧∀j,j<i→L.getD (ord.getD j 0) 0=j,fun vs _=>K.n-bR vs 0,
   JE.mk ⟨0,_,_,rfl,Nat.zero_le _,rfl,hm,by simp,fun j hj=>absurd hj (Nat.not_lt_zero _)⟩,?_⟩
  rintro DG H ⟨i,L,CL,hv,hi,rfl,hL,hLl,hLo⟩ gs
  simp only[List.cons.injEq,and_true]at hv
  subst hv
  refine ae.fq (Br.dec (fun hlt=>?_) (fun hlt=>?_))
  ·have lO:=(iF.oS i hlt).1
   refine ho.ld (x:=((ord.getD i 0:Nat):Int)) (bc (by rw[iF.len];exact hlt)) (fun _ h=>.tail _ (List.mem_append_right _ (List.mem_append_right _ (List.mem_append_left _ h)))) ?_
   refine Nil.ptr (aa.mk (Ld.mk (v:=vl) (by exact .head _) rfl ?_))
   refine hL.iX (x:=(i:Int)) (.cons .left) (by rw[aq];omega) fun CL' U3=>?_
   rw[eM]at U3
   refine ae.aK (b:=1) (by simp[aB];omega) ?_
   refine aF.mk ⟨i+1,L.set (ord.getD i 0) i,CL',rfl,hlt,rfl,U3,by simp[hLl],fun j hj=>?_⟩ (by simp only[bR];omega)
   by_cases e:j=i
   ·subst e
    rw[List.getD_eq_getElem?_getD,List.getElem?_set_self (by omega)];rfl
   ·have hj':j<i:=by omega
    have hne:ord.getD i 0≠ord.getD j 0:=fun h=>by
     have a:=(iF.oS i hlt).2
     have b:=(iF.oS j (by omega)).2
     rw[h,b]at a;exact e a
    rw[List.getD_eq_getElem?_getD,List.getElem?_set_ne hne,←List.getD_eq_getElem?_getD,hLo j hj']
  ·obtain rfl:i=K.n:=by omega
   refine az.mk (.cons (.dj (.dj .right _) _)) ⟨bw,vl,CL,L,rfl,rfl,hL,hLl,fun v hv=>?_⟩
   have h1:=hLo (lv ah v) (hK.ok.lv.lt v hv)
   rwa [iF.of hK.ok.lv hv]at h1
structure DA(K K':Kd)(made:List Nat)(x:Nat)(ok:Bool):Prop where
 n:K'.n=K.n
 cap:K'.cap=K.cap
 N:∀s d,K'.N s=some d→K.N s=some d
 hold:∀s,K'.hold s+made.count s=K.hold s+if ok=true∧s=x∧2≤x then 1 else 0
theorem LX{X CM:Hp}{made:List Nat}{x:Nat}{ok:Bool}(hK:cF kp K S ord ah tr C)(hM:aN 77 .u32 vm (iw made) CM)(hc:∀s,made.count s≤K.hold s)(h2:∀s∈made,2≤s)(Lr:∀s∈made,s<4294967296)(hx:ok=true→x<2∨x∈made)(bX:made.length≤1099511627776):
  Fc Tryz.prog 263 #[ptr bw,u32 x,.int .i64 (if ok then 0 else 9)] (eY bw kp vl vm::(X++(CM++C))) (fun w H=>∃K' C' sk,w=.tuple #[u32 (if ok then x else 0),.int .i64 (if ok then 0 else 9)]∧H=eY bw kp vl (.slice none 0 0)::(X++(CM++C'))∧cF kp K' S ord ah sk C'∧(sk=[]∨(sk=tr∧(ok=true→made≠[])))∧DA K K' made x ok):=by
 intro g
 refine Ai (R:=az _) ?_
 unfold L263
 refine ae.fO (b:=0) ?_
 refine cw.or (decide (x=1)) (fun _=>ae.fO (b:=1) ⟨rfl,rfl⟩) (by simp) fun gs=>?_
 rw[←Bool.decide_or]
 refine Nil.ptr (aa.mk (Ld.mk (v:=vm) (by exact .head _) rfl (hM.bS ?_)))
 rw[aq]
 refine⟨fun vs H=>∃(i:Nat) (Ki:Kd) (Ci:Hp) (NK:List Nat) (kept:Bool),vs=[.bool kept,.int .i64 (i:Int)]∧i≤made.length∧H=eY bw kp vl vm::(X++(CM++Ci))∧cF kp Ki S ord ah NK Ci∧(NK=[]∨NK=tr)∧Ki.n=K.n∧Ki.cap=K.cap∧(∀s d,Ki.N s=some d→K.N s=some d)∧
   (∀s,Ki.hold s+(made.take i).count s=K.hold s+if kept=true∧s=x∧2≤x then 1 else 0)∧(x<2→kept=true)∧(kept=true→x<2∨(ok=true∧x∈made.take i))∧(ok=true→x∈made.take i→kept=true),fun vs _=>made.length-bR vs 1,
  JE.mk ⟨0,K,C,tr,_,rfl,Nat.zero_le _,rfl,hK,.inr rfl,rfl,rfl,fun _ _ h=>h,fun s=>?_,fun h=>decide_eq_true (by omega),fun h=>.inl (by have:=of_decide_eq_true h;omega),fun _ h=>by simp at h⟩,?_⟩
 ·rw[List.take_zero,List.count_nil,if_neg (fun h=>by have:=of_decide_eq_true h.1;omega)]
 rintro Ql pN H ⟨i,Ki,Ci,NK,kept,hv,hi,rfl,Tc,OE,hn,hcap,hN,hh,tB,qK,oe⟩ gs
 simp only[List.cons.injEq,and_true]at hv
 obtain⟨rfl,rfl⟩:=hv
 refine ae.fq (Br.dec (fun hlt=>?_) (fun hlt=>?_))
 ·intro J hJ
  have gD:made.take (i+1)=made.take i++[made[i]]:=List.take_succ_eq_append_getElem hlt
  have XL:made[i]∈made:=List.getElem_mem hlt
  have j3:(made.take i).count made[i]+1≤made.count made[i]:=by
   have h1:=(List.take_sublist (i+1) made).count_le made[i]
   rw[gD,List.count_append,List.count_singleton_self]at h1;exact h1
  refine hM.ld (x:=((made[i]:Nat):Int)) (cB (List.getElem?_eq_getElem hlt)) (fun _ h=>.tail _ (List.mem_append_right _ (List.mem_append_left _ h))) ?_
  generalize hf:made[i]=f at*
  refine ae.fO ?_
  refine cw.and (!kept) (fun _=>Un.not ⟨rfl,rfl⟩) (by simp) fun gs=>?_
  refine cw.and ok (fun _=>ae.jt ⟨rfl,by cases ok<;>rfl⟩) (by simp) fun gs=>?_
  refine Br.mk (fun hb=>?_) (fun hb=>?_)
  ·simp only[Bool.and_eq_true,decide_eq_true_eq,Bool.not_eq_true']at hb
   obtain⟨⟨rfl,hkf⟩,hok⟩:=hb
   refine JE.mk (hJ _ _ fun gs=>?_)
   refine ae.aK (b:=1) (by simp[aB];omega) ?_
   refine aF.mk ⟨i+1,Ki,Ci,NK,true,rfl,hlt,rfl,Tc,OE,hn,hcap,hN,fun s=>?_,fun _=>rfl,fun _=>.inr ⟨hok,by rw[gD];simp⟩,fun _ _=>rfl⟩ (by simp only[bR];omega)
   have h0:=hh s
   rw[gD,List.count_append,List.count_singleton]
   rw[if_neg (fun h=>by rw[hkf]at h;cases h.1)]at h0
   by_cases e:s=f
   ·subst e
    have:=h2 s XL
    simp[this];omega
   ·have:(f==s)=false:=by simpa using fun e'=>e e'.symm
    simp[e,this];omega
  ·refine Nil.ptr (aa.mk (Ld.mk (v:=ptr kp) (by exact .head _) rfl ?_))
   have hhf:Ki.hold f≠0:=by
    have h0:=hh f
    have:=hc f
    split at h0<;>omega
   refine ag.fn (args:=#[ptr kp,u32 f]) (.cons (.app (.app .here))) (nT Tc (r:=f) (Lr f XL) (fun _=>hhf)) ?_
   rintro w C2 ⟨rfl,K2,de,f2⟩
   refine JE.mk (hJ _ _ fun gs=>?_)
   refine ae.aK (b:=1) (by simp[aB];omega) ?_
   refine aF.mk ⟨i+1,K2,C2,[],kept,rfl,hlt,rfl,de,.inl rfl,f2.n.trans hn,f2.cap.trans hcap,fun s d hd=>hN s d (f2.N s d hd),fun s=>?_,tB,fun h=>(qK h).imp id (fun h=>⟨h.1,by rw[gD];exact List.mem_append_left _ h.2⟩),fun h1 h3=>?_⟩ (by simp only[bR];omega)
   ·have h0:=hh s
    rw[f2.hold,gD,List.count_append,List.count_singleton]
    by_cases e:s=f
    ·subst e
     have:=h2 s XL
     simp[this];omega
    ·have:(f==s)=false:=by simpa using fun e'=>e e'.symm
     simp[e,this];omega
   ·rw[gD,List.mem_append,List.mem_singleton]at h3
    rcases h3 with h3|h3
    ·exact oe h1 h3
    ·subst h3
     cases hkk:kept
     ·rw[hkk,h1]at hb;simp at hb
     ·rfl
 ·obtain rfl:i=made.length:=by omega
  rw[List.take_length]at hh qK oe
  refine Nil.ptr (aa.mk (St.one (by exact .head _) rfl (by simp) rfl ?_))
  intro J hJ
  refine ae.c7 ?_
  cases ok with
  |false=>
   refine Br.dS (by simp) ?_
   have hE:DA K Ki made x false:=⟨hn,hcap,hN,fun s=>by
    have h0:=hh s
    rw[if_neg (fun h=>by cases h.1)]
    rw[if_neg (fun h=>by
     rcases qK h.1 with h3|h3
     ·omega
     ·cases h3.1)]at h0
    exact h0⟩
   refine az.here ⟨Ki,Ci,NK,?_,rfl,Tc,OE.imp id fun h=>⟨h,fun h=>by cases h⟩,hE⟩
   rfl
  |true=>
   have CG:kept=true:=by
    rcases hx rfl with h|h
    ·exact tB h
    ·exact oe rfl h
   refine Br.aX (by simp) ?_
   rw[CG]
   refine Un.not (Br.no ?_)
   have hE:∀K3:Kd,K3.n=Ki.n→K3.cap=Ki.cap→K3.N=Ki.N→(∀s,K3.hold s=Ki.hold s)→DA K K3 made x true:=fun K3 a1 a2 a3 a4=>⟨a1.trans hn,a2.trans hcap,by rw[a3];exact hN,fun s=>by rw[a4,hh s,CG]⟩
   refine ae.fO (b:=0) ?_
   refine cw.or (decide (x=1)) (fun _=>ae.fO (b:=1) ⟨rfl,rfl⟩) (by simp) fun gs=>?_
   rw[←Bool.decide_or]
   refine Br.dec (fun Eu=>?_) (fun Eu=>?_)
   ·refine Nil.ptr (aa.mk (Ld.mk (v:=ptr kp) (by exact .head _) rfl ?_))
    refine ag.fn (.cons (.app (.app .here))) (nI Tc (r:=x) (.inl (by omega)) (fun h=>by omega)) ?_
    rintro w C3 ⟨rfl,K3,l5,mo⟩
    refine JE.mk (hJ _ fun gs=>az.here ⟨K3,C3,[],by simp,rfl,l5,.inl rfl,hE K3 mo.n mo.cap mo.N fun s=>?_⟩)
    rw[mo.hold,if_neg (by omega)]
   ·refine JE.mk (hJ _ fun gs=>az.here ⟨Ki,Ci,NK,by simp,rfl,Tc,OE.imp id fun h=>⟨h,fun _ hm=>?_⟩,hE Ki rfl rfl rfl fun _=>rfl⟩)
    rcases hx rfl with h|h
    ·omega
    ·rw[hm]at h;cases h
end
end Go.Proofs
set_option maxRecDepth 100000
namespace Go.Proofs
open Go Go.Sx
open aE
theorem Rq{α:Type}(a b c d e f g h:α)(L R:List α):(a::b::c::d::e::f::g::h::(L++R)).Perm (g::d::e::b::h::f::a::(L++c::R)):=by
 classical
 rw[List.perm_iff_count];intro x
 simp only[List.count_append,List.count_cons]
 omega
def mZ(kp:Nat)(K:Kd)(S:Nat→aE.Fn)(ord ah tr:List Nat)(f:aE.Fn)(w:Value)(H:Hp):Prop:=
 (∃x K' S',w=.tuple #[u32 x,.int .i64 0]∧cF kp K' S' ord ah [] H∧oa K S K' S' f x)∨
 (w=.tuple #[u32 0,.int .i64 9]∧(∃K' S' sk,cF kp K' S' ord ah sk H∧(sk=[]∨sk=tr)∧Kept K S K' S')∧¬Fits (aM K.n ord (fun g=>K.held S g∨g=f)) K.cap)
section
variable {kp bw:Nat} {vl fv:Value} {K:Kd} {S:Nat→aE.Fn} {ord ah tr lvl:List Nat} {LB CL C:Hp} {t:Bool→Bool→Bool→Bool}
theorem Dq(hK:cF kp K S ord ah tr C)(U2:vv fv LB t)(MV:aN 3 .i64 vl (iw lvl) CL)(uS:lvl.length=K.n)(hlv:∀v,v<K.n→lvl.getD v 0=lv ah v)(q:Q3)(hq:∀r∈l3 q,live K.N r){c:Nat}(hT:Tree K.n (lv ah) K.N (l3 q) c)(hB:∀s,K.hold s+c<65535)(hc:c≤1048576):
  Fc Tryz.prog 241 #[ptr bw,kq q,fv] (LB++(eY bw kp vl (.slice none 0 0)::(CL++C))) (mZ kp K S ord ah tr (pZ t S (l3 q))):=by
 have hrb:bh Tryz.prog 264=true:=by kernel_rfl
 obtain⟨fl,YO,aeL,HO,hfr⟩:=U2.is
 intro g
 refine Az (R:=az _) ?_
 unfold L241
 intro b1 _ b3 _ b5 _ b7 _ b9 _ bm _ fi _
 refine St.one (by exact .head _) rfl (by simp) rfl ?_
 intro jN _
 refine St.one (by exact .head _) rfl (by simp) rfl ?_
 refine Ld.mk (v:=mT fi b1 b5 jN) (by exact .head _) rfl ?_
 refine aC.whole (r:=(iw (l3 q)).map fun n=>.int .u32 n) (by exact .tail _ (.tail _ (.tail _ (.tail _ (.tail _ (.tail _ (.head _))))))) rfl ?_
 refine cg.of rfl hrb ?_
 refine ag.pre (H':=(b9,.cells #[.int .i64 0] 32 (0,0))::(b7,.cells #[.int .u32 0] 77 (0,0))::M6 fi b1 b5 jN bm bw kp fv vl (.slice none 0 0) LB CL [] C #[] 0) ?_ ?_
 ·rw[HO]
  exact(aU.perm (Rq _ _ _ _ _ _ _ _ _ _)).trans .tail
 have iF:=hK.od
 have iP:=hK.ok.wf
 have iH:=hK.ok.lv
 have l6:=hK.ok.mid.int
 have hS:YY kp K S (aM K.n ord (fun g=>K.held S g∨g=pZ t S (l3 q))) ord ah tr t K S [] #[] 0 (.slice none 0 0) [] C:=
  ⟨⟨tr,hK,.inr ⟨rfl,rfl⟩⟩,.refl fun g hg=>bM (fun g h=>.inl h) hg,aN.nil,[],aR.empty,fun y hy=>by cases hy⟩
 refine ag.fn (args:=#[kq q,ptr fi,ptr b1,ptr b5,ptr jN]) (.cons (.cons .here)) (Pv hrb U2 MV uS hlv hK.oS.ta iP l6 iH (fun r hr=>by have:=hK.bY hr;omega) (NM:=tr) (l3 q) c hT q rfl K S [] #[] 0 (.slice none 0 0) [] C hS hq (fun g hg=>bM (fun g h=>.inr h) hg) hB (by simpa using hc)) ?_
 rintro w H ⟨K1,S1,made,es,ck,vm,CM,C1,rfl,x7,hA,HX⟩
 obtain⟨NL,eB,OF⟩:=x7.ks
 have mm:=x7.cH
 have hmx:made.length≤1048576:=by have:=(hA.count 0).2;simp at this;omega
 have Xt:∀s∈made,s<4294967296:=fun s hs=>by have:=eB.bY (mm.fB eB hs);omega
 have hmc:∀s,made.count s≤K1.hold s:=fun s=>by rw[mm.hold];omega
 have fin:∀(x:Nat) (ok:Bool),w=.tuple #[u32 (if ok then x else 0),.int .i64 (if ok then 0 else 9)]→(ok=true→x<2∨x∈made)→(∀K2 C2 Jv,cF kp K2 S1 ord ah Jv C2→(Jv=[]∨(Jv=NL∧(ok=true→made≠[])))→DA K1 K2 made (if ok then x else 0) ok→mZ kp K S ord ah tr (pZ t S (l3 q)) w C2)→(ok=false→x=0)→
   Ext 0 w fun ca=>Ext 1 w fun cK=>St 1 ((b9,.cells #[.int .i64 0] 32 (0,0))::(b7,.cells #[.int .u32 0] 77 (0,0))::M6 fi b1 b5 jN bm bw kp fv vl vm LB CL CM C1 es ck) (ptr b7) ca fun gj=>St 1 gj (ptr b9) cK fun gH=>
   j6 Tryz.prog g 262 #[ptr b1,ptr b7,ptr b9] gH fun iR=>Ld iR (ptr b7) fun dg=>Ld iR (ptr b9) fun cV=>az (mZ kp K S ord ah tr (pZ t S (l3 q))) (.returned (.tuple #[dg,cV])) iR:=by
  intro x ok hw hx hd h0
  subst hw
  refine Ext.mk rfl (Ext.mk rfl ?_)
  refine St.one (by exact .tail (.head _)) rfl (by simp) rfl ?_
  refine St.one (by exact .head _) rfl (by simp) rfl ?_
  refine xO (R:=_) ?_
  unfold L262
  refine Ld.mk (v:=ptr bw) (by exact .tail _ (.tail _ (.tail _ (.head _)))) rfl ?_
  refine Ld.mk (v:=u32 (if ok then x else 0)) (by exact .tail _ (.head _)) rfl ?_
  refine Ld.mk (v:=.int .i64 (if ok then 0 else 9)) (by exact .head _) rfl ?_
  refine ag.fn (.cons (.cons (.cons (.cons (.cons (.cons (.app (.cons .here)))))))) (LX (X:=CL) (x:=if ok then x else 0) (ok:=ok) eB x7.WJ hmc mm.two Xt (fun h=>by rw[if_pos h];exact hx h) (by omega)) ?_
  rintro w H ⟨K2,C2,Jv,rfl,rfl,de,wP,hE⟩
  refine Ext.mk rfl (Ext.mk rfl ?_)
  have e1:(if ok=true then(if ok=true then x else 0)else 0)=if ok=true then x else 0:=by cases ok<;>rfl
  rw[e1]
  refine St.one (by exact .tail (.head _)) rfl (by simp) rfl ?_
  refine St.one (by exact .head _) rfl (by simp) rfl ?_
  refine⟨⟨_,rfl⟩,?_⟩
  refine Ld.mk (v:=u32 (if ok then x else 0)) (by exact .tail _ (.head _)) rfl ?_
  refine Ld.mk (v:=.int .i64 (if ok then 0 else 9)) (by exact .head _) rfl ?_
  exact az.mk (.skip (.skip (.skip (.skip (.skip (.skip (aU.right.trans (.skip (.skip (aU.right.trans .right)))))))))) (hd K2 C2 Jv de wP hE)
 have CE:∀s,K.hold s≠0→live K.N s:=fun s hs=>.inr (hK.ok.mid.held s hs)
 rcases HX with⟨x,rfl,hx,RK⟩|⟨rfl,hno⟩
 ·refine fin x true rfl (fun _=>RK) (fun K2 C2 Jv de wP hE=>.inl ⟨x,K2,S1,rfl,?_,?_⟩) (fun h=>by cases h)
  ·have:Jv=[]:=by
    rcases wP with h|⟨h,h'⟩
    ·exact h
    ·rcases OF with h2|⟨_,h2⟩
     ·rw[h,h2]
     ·exact absurd h2 (h' rfl)
   rw[this]at de;exact de
  ·have iq:∀s,K2.hold s=K.hold s+if s=x∧2≤x then 1 else 0:=fun s=>by
    have a:=hE.hold s
    have b:=mm.hold s
    simp only[if_true,true_and]at a
    omega
   have hl:live K2.N x:=by
    by_cases h2:x<2
    ·exact .inl h2
    ·refine .inr (de.ok.mid.held x ?_)
     rw[iq,if_pos ⟨rfl,by omega⟩];omega
   exact⟨hE.n.trans mm.n,hE.cap.trans mm.cap,fun s d hs=>gP hK.ok de.ok (fun s h=>by rw[iq];omega) (fun s d d' h h'=>by
    have a:=hE.N s d' h'
    rw[mm.N s d h]at a;exact(Option.some.inj a).symm) _ s d hs (Nat.le_refl _),fun s hs=>mm.fn s hs,hl,hx,iq⟩
 ·refine fin 0 false rfl (fun h=>by cases h) (fun K2 C2 Jv de wP hE=>.inr ⟨rfl,⟨K2,S1,Jv,de,?_,?_⟩,hno⟩) (fun _=>rfl)
  ·rcases wP with h|⟨h,_⟩
   ·exact .inl h
   ·rcases OF with h2|⟨h2,_⟩
    ·exact .inl (h.trans h2)
    ·exact .inr (h.trans h2)
  ·have iq:∀s,K2.hold s=K.hold s:=fun s=>by
    have a:=hE.hold s
    have b:=mm.hold s
    rw[if_neg (fun h=>by cases h.1)]at a
    omega
   refine⟨hE.n.trans mm.n,hE.cap.trans mm.cap,iq,fun g=>?_,fun r hr=>mm.fn r (CE r hr)⟩
   constructor
   ·rintro⟨s,hs,rfl⟩
    have hs':K.hold s≠0:=by rw[←iq];exact hs
    exact⟨s,hs',mm.fn s (CE s hs')⟩
   ·rintro⟨s,hs,rfl⟩
    exact⟨s,by show K2.hold s≠0;rw[iq];exact hs,(mm.fn s (CE s hs)).symm⟩
end
end Go.Proofs
namespace Go.Sx
open Go
section
variable {P:Program} {g:Gh}
theorem Build.three{t e:TypeId}{q:IntKind}{x y z:Int}{K:Value→Prop}(ht:P.underlying t=some (.array 3 e))(hz:cN P e=some 1)(h0:dX P t=some (.agg (ax q [0,0,0])))(h:K (.agg (ax q [x,y,z]))):
  Build P t [(0,.int q x),(1,.int q y),(2,.int q z)] K:=by
 refine⟨_,fun w=>?_,h⟩
 obtain⟨i,hi,hs⟩:=aZ hz
 obtain⟨i0,O0,Jz⟩:=cj h0
 simp only[Instr.build,Sem.run_bind,di O0 Jz,Result.andThen_ok,run_underlying ht,run_sizeOf hi,hs]
 simp[Instr.fill,Value.cells,ax]
theorem Build.Rb{t e:TypeId}{q:IntKind}{x y:Int}{K:Value→Prop}(ht:P.underlying t=some (.array 3 e))(hz:cN P e=some 1)(h0:dX P t=some (.agg (ax q [0,0,0])))(h:K (.agg (ax q [x,y,0]))):
  Build P t [(0,.int q x),(1,.int q y)] K:=by
 refine⟨_,fun w=>?_,h⟩
 obtain⟨i,hi,hs⟩:=aZ hz
 obtain⟨i0,O0,Jz⟩:=cj h0
 simp only[Instr.build,Sem.run_bind,di O0 Jz,Result.andThen_ok,run_underlying ht,run_sizeOf hi,hs]
 simp[Instr.fill,Value.cells,ax]
end
end Go.Sx
set_option maxRecDepth 100000
namespace Go.Proofs
open Go Go.Sx
open aE
theorem Ds(x:Bool)(B:Hp):Rd Tryz.prog 243 #[.bool x] B (· =.int .u8 ((x.toNat:Nat):Int)):=by
 intro g
 refine Ax (R:=az _) ?_
 unfold L243
 cases x
 ·exact Br.no (cr.mk (.refl _) rfl)
 ·exact Br.yes (cr.mk (.refl _) rfl)
def D4(op:Nat)(a b:Bool):Bool:=op.testBit (2*a.toNat+b.toNat)
abbrev D3(b op:Nat):Hp:=[(b,.cells #[.int .u8 (op:Int)] 5 (0,0))]
theorem zo{b op:Nat}(hop:op<16):vv (.func (.func 242) #[] #[ptr b]) (D3 b op) (fun x y _=>D4 op x y):=by
 refine⟨_,_,_,rfl,by kernel_rfl,fun x y z=>?_⟩
 intro g
 refine Ay (R:=az _) ?_
 unfold L242
 refine DR.of (R:=D3 b op) (.refl _) ?_
 refine Ld.mk (v:=.int .u8 (op:Int)) (by exact .head _) rfl ?_
 refine ag.rd .here (Ds x _) ?_
 rintro w rfl
 refine⟨.refl _,?_⟩
 have hx:x.toNat≤1:=by cases x<;>decide
 have hy:y.toNat≤1:=by cases y<;>decide
 refine ae.uH (a:=2) (by simp[aB];omega) ?_
 refine ag.rd .here (Ds y _) ?_
 rintro w rfl
 refine⟨.refl _,?_⟩
 refine ae.aK (by simp[aB];omega) ?_
 refine ae.ot (by simp[aB];omega) ?_
 refine ae.nZ (b:=1) (by simp[aB];exact Nat.lt_of_le_of_lt (Nat.shiftRight_le _ _) (by omega)) (by simp[aB]) ?_
 refine ae.fO (b:=1) ?_
 refine cr.mk (.refl _) ?_
 congr 1
 unfold D4
 rw[Nat.and_one_is_mod]
 rw[Nat.testBit_eq_decide_div_mod_eq,Nat.shiftRight_eq_div_pow]
theorem yW:vv (.func (.func 244) #[] #[]) [] (fun x y z=>if x then y else z):=by
 refine⟨_,_,_,rfl,by kernel_rfl,fun x y z=>?_⟩
 intro g
 refine Aw (R:=az _) ?_
 unfold L244
 cases x
 ·refine cw.mk false (fun h=>by simp at h) (fun _=>rfl) fun gs=>?_
  refine cw.mk (by exact z) (fun _=>Un.not (cw.and z (fun _=>⟨rfl,rfl⟩) (by simp) fun gs=>⟨rfl,by simp⟩)) (fun h=>by simp at h) fun gs=>?_
  exact cr.mk (.refl _) rfl
 ·refine cw.and y (fun _=>⟨rfl,rfl⟩) (by simp) fun gs=>?_
  refine cw.or false (fun _=>Un.not (cw.and z (fun _=>⟨rfl,rfl⟩) (by simp) fun gs=>⟨rfl,by simp⟩)) (by simp) fun gs=>?_
  refine cr.mk (.refl _) ?_
  cases y<;>rfl
section
variable {kp:Nat} {K:Kd} {S:Nat→aE.Fn} {ord ah tr:List Nat} {C:Hp}
theorem Rs{α:Type}(w a b:α)(L R:List α):(w::(L++(a::b::R))).Perm (a::([b]++w::(L++R))):=by
 classical
 rw[List.perm_iff_count];intro x
 simp only[List.count_append,List.count_cons,List.count_nil]
 omega
theorem xG(hK:cF kp K S ord ah tr C){q:List Nat}(hq:∀r∈q,live K.N r)(hB:∀s,K.hold s+2^K.n≤65535):∃c,Tree K.n (lv ah) K.N q c∧(∀s,K.hold s+c<65535)∧c≤1048576:=by
 obtain⟨c,h1,h2⟩:=Kk (S:=S) hK.ok.wf hK.ok.lv hK.ok.mid.int K.n 0 q (by omega) (by omega) hq (fun r _=>Nat.zero_le _)
 rw[Nat.sub_zero]at h2
 have h0:=hB 0
 exact⟨c,h1,fun s=>by have:=hB s;omega,by omega⟩
theorem rE(hK:cF kp K S ord ah tr C){op a b:Nat}(hop:op<16)(ha:live K.N a)(hb:live K.N b)(hB:∀s,K.hold s+2^K.n≤65535):
  Fc Tryz.prog 197 #[ptr kp,.int .u8 (op:Int),u32 a,u32 b] C (mZ kp K S ord ah tr (fun x=>D4 op (S a x) (S b x))):=by
 intro g
 refine A7 (R:=az _) ?_
 unfold L197
 intro b1 _
 refine ae.bK (Br.no ?_)
 refine Ld.mk (v:=.int .u8 (op:Int)) (by exact .head _) rfl ?_
 refine ae.nP (b:=15) (Br.aX (by omega) ?_)
 refine au.Ho (e:=77) (x:=(a:Int)) (y:=(b:Int)) (by kernel_rfl) (by kernel_rfl) (by kernel_rfl) fun bs=>?_
 have hq:∀r∈l3 (a,b,0),live K.N r:=fun r hr=>by
  simp only[l3,List.mem_cons,List.not_mem_nil,or_false]at hr
  rcases hr with rfl|rfl|rfl
  ·exact ha
  ·exact hb
  ·exact .inl (by omega)
 have hI:c6 .u32 ((bs,Obj.cells (ax .u32 [(a:Int),(b:Int)]) 77 (0,0))::D3 b1 op) (.slice (some ⟨bs,0,none⟩) 2 2) (iw [a,b]):=(aN.made (T:=77) (kd:=.u32) (b:=bs) (iw [a,b])).ints.mono fun _ h=>List.mem_append_left (D3 b1 op) h
 refine ag.fn (args:=#[ptr kp,.slice (some ⟨bs,0,none⟩) 2 2]) (C:=((bs,Obj.cells (ax .u32 [(a:Int),(b:Int)]) 77 (0,0))::D3 b1 op)++C) .here (tP hK hI (fun r hr=>?_) (by show 2≤1048576;omega)) ?_
 ·simp only[List.mem_cons,List.not_mem_nil,or_false]at hr
  rcases hr with rfl|rfl
  ·exact ha
  ·exact hb
 rintro w H ⟨bw,vl,CL,lvl,rfl,rfl,MV,uS,hlv⟩
 refine Ext.mk rfl (Ext.mk rfl (ae.c7 (Br.aX (by decide) ?_)))
 refine Build.Rb (e:=77) (q:=.u32) (x:=(a:Int)) (y:=(b:Int)) (by kernel_rfl) (by kernel_rfl) (by kernel_rfl) ?_
 obtain⟨c,hT,Lq,hc⟩:=xG hK hq hB
 refine ag.pre (H':=(bs,Obj.cells (ax .u32 [(a:Int),(b:Int)]) 77 (0,0))::(D3 b1 op++eY bw kp vl (.slice none 0 0)::(CL++C))) (.perm (Rs _ _ _ _ _)) ?_
 refine ag.fn (args:=#[ptr bw,kq (a,b,0),.func (.func 242) #[] #[ptr b1]]) (.cons .here) (Dq (t:=fun x y _=>D4 op x y) hK (zo hop) MV uS hlv (a,b,0) hq hT Lq hc) ?_
 intro w H hD
 have:∃x e,w=.tuple #[x,e]:=by
  rcases hD with⟨x,K',S',rfl,_⟩|⟨rfl,_⟩
  ·exact⟨_,_,rfl⟩
  ·exact⟨_,_,rfl⟩
 obtain⟨x,e,rfl⟩:=this
 exact Ext.mk rfl (Ext.mk rfl (az.mk .tail hD))
theorem mZ.two{f:aE.Fn}{w:Value}{H:Hp}(h:mZ kp K S ord ah tr f w H):∃x e,w=.tuple #[x,e]:=by
 rcases h with⟨x,K',S',rfl,_⟩|⟨rfl,_⟩
 ·exact⟨_,_,rfl⟩
 ·exact⟨_,_,rfl⟩
theorem LU(hK:cF kp K S ord ah tr C){a:Nat}(ha:live K.N a)(hB:∀s,K.hold s+2^K.n≤65535):
  Fc Tryz.prog 196 #[ptr kp,u32 a] C (mZ kp K S ord ah tr (fun x=> !S a x)):=by
 intro g
 refine A8 (R:=az _) ?_
 unfold L196
 refine ag.fn (args:=#[ptr kp,.int .u8 ((3:Nat):Int),u32 a,u32 0]) .here (rE hK (op:=3) (by decide) ha (.inl (by omega)) hB) ?_
 intro w H hD
 have e:(fun x=>D4 3 (S a x) (S 0 x))=fun x=> !S a x:=by
  funext x
  rw[hK.ok.mid.int.zero]
  cases S a x<;>rfl
 rw[e]at hD
 obtain⟨x,e,rfl⟩:=hD.two
 exact Ext.mk rfl (Ext.mk rfl (az.mk (.refl _) hD))
theorem Rp{α:Type}(w a:α)(L R:List α):(w::(L++(a::R))).Perm (a::([]++w::(L++R))):=by
 classical
 rw[List.perm_iff_count];intro x
 simp only[List.count_append,List.count_cons,List.count_nil]
 omega
theorem Dr(hK:cF kp K S ord ah tr C){a b c:Nat}(ha:live K.N a)(hb:live K.N b)(hc:live K.N c)(hB:∀s,K.hold s+2^K.n≤65535):
  Fc Tryz.prog 198 #[ptr kp,u32 a,u32 b,u32 c] C (mZ kp K S ord ah tr (fun x=>if S a x then S b x else S c x)):=by
 intro g
 refine A6 (R:=az _) ?_
 unfold L198
 refine au.RH (e:=77) (x:=(a:Int)) (y:=(b:Int)) (z:=(c:Int)) (by kernel_rfl) (by kernel_rfl) (by kernel_rfl) fun bs=>?_
 have hq:∀r∈l3 (a,b,c),live K.N r:=fun r hr=>by
  simp only[l3,List.mem_cons,List.not_mem_nil,or_false]at hr
  rcases hr with rfl|rfl|rfl
  ·exact ha
  ·exact hb
  ·exact hc
 refine ag.fn (args:=#[ptr kp,.slice (some ⟨bs,0,none⟩) 3 3]) (C:=[(bs,Obj.cells (ax .u32 [(a:Int),(b:Int),(c:Int)]) 77 (0,0))]++C) .here (tP hK (refs:=l3 (a,b,c)) ((aN.made (T:=77) (kd:=.u32) (b:=bs) (iw (l3 (a,b,c)))).ints) hq (by show 3≤1048576;omega)) ?_
 rintro w H ⟨bw,vl,CL,lvl,rfl,rfl,MV,uS,hlv⟩
 refine Ext.mk rfl (Ext.mk rfl (ae.c7 (Br.aX (by decide) ?_)))
 refine Build.three (e:=77) (q:=.u32) (x:=(a:Int)) (y:=(b:Int)) (z:=(c:Int)) (by kernel_rfl) (by kernel_rfl) (by kernel_rfl) ?_
 obtain⟨k,hT,Lq,hk⟩:=xG hK hq hB
 refine ag.pre (H':=(bs,Obj.cells (ax .u32 [(a:Int),(b:Int),(c:Int)]) 77 (0,0))::([]++eY bw kp vl (.slice none 0 0)::(CL++C))) (.perm (Rp _ _ _ _)) ?_
 refine ag.fn (args:=#[ptr bw,kq (a,b,c),.func (.func 244) #[] #[]]) (.cons .here) (Dq (t:=fun x y z=>if x then y else z) hK yW MV uS hlv (a,b,c) hq hT Lq hk) ?_
 intro w H hD
 obtain⟨x,e,rfl⟩:=hD.two
 exact Ext.mk rfl (Ext.mk rfl (az.mk .tail hD))
theorem mB.grow(hK:cF kp K S ord ah tr C){K':Kd}{S':Nat→aE.Fn}{f:aE.Fn}{r:Nat}{C':Hp}{sk:List Nat}(h:mB K S K' S' f r)(gE:cF kp K' S' ord ah sk C')(hl:r<2∨2≤r):oa K S K' S' f r:=
 ⟨h.n,h.cap,h.N,h.fn,by
  by_cases h2:r<2
  ·exact .inl h2
  ·refine .inr (gE.ok.mid.held r ?_)
   rw[h.hold,if_pos ⟨rfl,by omega⟩];omega,h.is,fun s=>by rw[h.hold];split<;>omega⟩
theorem LQ(hK:cF kp K S ord ah tr C){v:Nat}(hv:v<K.n)(hB:∀s,K.hold s<65535):
  Fc Tryz.prog 195 #[ptr kp,.int .i64 (v:Int)] C (mZ kp K S ord ah tr (fun x=>x.testBit v)):=by
 intro g
 refine A9 (R:=az _) ?_
 unfold L195
 refine ae.bK (Br.no ?_)
 have hint:=hK.ok.mid.int
 have hL:=hK.ok.lv
 have iF:=hK.od
 have h0:live K.N 0:=.inl (by omega)
 have h1:live K.N 1:=.inl (by omega)
 have d0:dep K.n (lv ah) K.N 0=K.n:=aT (hK.ok.wf.const (by omega))
 have d1:dep K.n (lv ah) K.N 1=K.n:=aT (hK.ok.wf.const (by omega))
 have hl:=hL.lt v hv
 have eI:ite S ⟨v,0,1⟩=fun x=>x.testBit v:=by
  funext x
  unfold aE.ite
  simp only[hint.zero,hint.one]
  cases x.testBit v<;>rfl
 refine ag.fn (args:=#[ptr kp,.int .i64 (v:Int),u32 0,u32 1]) .here (uL hK hv h0 h1 (.inr ⟨by rw[d0];exact hl,by rw[d1];exact hl⟩)) ?_
 rintro w C' (⟨r,K',S',rfl,gE,mk⟩|⟨r,rfl,_,_,_,hfull,_⟩|⟨rfl,rfl,hcap,hne,hT⟩)
 ·rw[eI]at mk
  exact Ext.mk rfl (Ext.mk rfl (az.mk (.refl _) (.inl ⟨r,K',S',rfl,gE,mk.grow hK gE (by omega)⟩)))
 ·have:=hB r;omega
 ·refine Ext.mk rfl (Ext.mk rfl (az.mk (.refl _) (.inr ⟨rfl,⟨K,S,tr,hK,.inr rfl,.refl K S⟩,?_⟩)))
  rintro⟨ku,HG,hfit⟩
  have En:=iF.of hL hv
  have oG:∀j,j<lv ah v→¬cR (fun x:Nat=>x.testBit v) (ord.getD j 0):=by
   rintro j hj ⟨x,hx⟩
   apply hx
   have OY:j<K.n:=by omega
   obtain⟨o1,o2⟩:=iF.oS j OY
   show Nat.testBit _ v=Nat.testBit _ v
   rw[aD.ay,aD.ay,if_neg (fun h=>by rw[h]at hj;omega),if_neg (fun h=>by rw[h]at hj;omega)]
  have hh:cR (fun x:Nat=>x.testBit v) (ord.getD (lv ah v) 0):=by
   rw[En]
   exact⟨0,by show Nat.testBit _ v≠Nat.testBit _ v;rw[aD.ay,aD.ay,if_pos rfl,if_pos rfl];decide⟩
  have:=hK.ok.roomFor iF HG hfit (fun g hg=>bM (fun g h=>.inl h) hg) (d:=⟨v,0,1⟩) h0 h1 (show(0:Nat)≠1 by omega) hv ⟨by rw[d0];exact hl,by rw[d1];exact hl⟩ (bM (fun g h=>.inr h) (by rw[eI];exact lE oG hl hh)) hT
  omega
end
end Go.Proofs
namespace Go.Sx
open Go
section
variable {κ β:Type} [DecidableEq κ] {ke:κ→Value} {vr:Value→β→Prop} {es:Array MapEntry} {ck:Nat} {m:List (κ×β)} {H:Hp} {b:Nat}
theorem aR.del{kd:TypeDesc}{k:κ}{K:Hp→Prop}(hk:∀a b,Instr.sameNow kd (ke a) (ke b)=some (decide (a=b)))(h:aR ke vr es ck m)(hm:(b,Obj.map es ck)∈H)
 (h1:∀es',aR ke vr es' ck (mP m k)→∃H',dH b (.map es ck) (.map es' ck) H H'∧K H'):rH kd H (.map (some b)) (ke k) K:=by
 refine .inr ?_
 rcases h.findNow hk k with⟨i,y,e,g1,g2,g3,g4⟩|⟨g1,g2⟩
 ·refine⟨b,es,ck,_,rfl,g4,?_⟩
  have:=h.less i
  rw[←qD h.nd g2]at this
  exact h1 _ this
 ·refine⟨b,es,ck,_,rfl,g2,hm,?_⟩
  have e:mP m k=m:=by
   unfold mP
   rw[List.filter_eq_self]
   intro w hw
   simp only[decide_not,Bool.not_eq_true',decide_eq_false_iff_not]
   intro e
   exact g1 (List.mem_map.2 ⟨w,hw,e⟩)
  obtain⟨H',hu,hK⟩:=h1 es (by rw[e];exact h)
  have:∀{H H':Hp},dH b (.map es ck) (.map es ck) H H'→H'=H:=by
   intro H H' hu
   generalize ho:Obj.map es ck=o at hu
   induction hu with
   |head R=>rfl
   |tail _ ih=>rw[ih]
  rw[this hu]at hK;exact hK
end
def kN(kd:IntKind)(r:Nat):Value:=.int kd (r:Int)
theorem gu{kd:IntKind}(a b:Nat):Instr.sameNow (.int kd) (kN kd a) (kN kd b)=some (decide (a=b)):=by
 simp only[kN,Instr.sameNow,if_true,Option.some.injEq]
 by_cases e:a=b
 ·subst e;simp
 ·have:¬(a:Int)=(b:Int):=by omega
  simp[e,this]
theorem Cu{kd:IntKind}(a:Nat):Instr.sameBits 10000 (kN kd a) (kN kd a)=true:=by
 simp[kN,Instr.sameBits]
end Go.Sx
namespace aE
open aD
def QF(t:Bool→Bool→Bool)(v:Nat)(f:Fn):Fn:=fun x=>t (f (aI x v false)) (f (aI x v true))
section
variable {t:Bool→Bool→Bool} {v u:Nat} {f:Fn}
theorem ou{x v:Nat}{b c:Bool}:aI (aI x v b) v c=aI x v c:=by
 apply Nat.eq_of_testBit_eq;intro k
 rw[ay,ay,ay]
 split<;>rfl
theorem Jd(h:u≠v)(b:Bool):QF t v (fun x=>f (aI x u b))=fun x=>QF t v f (aI x u b):=by
 funext x
 unfold QF
 simp only[dw h]
theorem Jc(h:¬cR f u):¬cR (QF t v f) u:=by
 rintro⟨x,hx⟩
 by_cases e:u=v
 ·subst e
  apply hx
  unfold QF
  simp only[ou]
 ·apply hx
  unfold QF
  simp only[dw e]
  have key:∀y,f (aI y u false)=f (aI y u true):=fun y=>Classical.byContradiction fun hn=>h ⟨y,hn⟩
  rw[key,key]
theorem L4(ht:∀a,t a a=a)(h:¬cR f v):QF t v f=f:=by
 funext x
 unfold QF
 have key:∀b,f (aI x v b)=f x:=fun b=>bU h x b
 rw[key,key,ht]
end
def WU(e:Bool):Bool→Bool→Bool→Bool:=fun x y _=>if e then x||y else x&&y
def jf(e:Bool)(S:Nat→Fn)(a b:Nat):Fn:=pZ (WU e) S [a,b,0]
theorem oC(e:Bool)(S:Nat→Fn)(a b x:Nat):jf e S a b x=if e then S a x||S b x else S a x&&S b x:=rfl
theorem uP(e:Bool)(S:Nat→Fn)(a b:Nat):jf e S a b=jf e S b a:=by
 funext x;rw[oC,oC];cases e<;>cases S a x<;>cases S b x<;>rfl
theorem Ms(e:Bool)(S:Nat→Fn)(a b:Nat):jf e S (min a b) (max a b)=jf e S a b:=by
 by_cases h:a≤b
 ·rw[Nat.min_eq_left h,Nat.max_eq_right h]
 ·rw[Nat.min_eq_right (by omega),Nat.max_eq_left (by omega),uP]
theorem KR(e:Bool)(S:Nat→Fn)(a:Nat):jf e S a a=S a:=by
 funext x;rw[oC];cases e<;>cases S a x<;>rfl
section
variable {N:dJ} {S:Nat→Fn} {n:Nat} {ah:Nat→Nat}
theorem Hg(hi:Interp N S)(e:Bool)(a:Nat):jf e S e.toNat a=S e.toNat:=by
 funext x;rw[oC];cases e
 ·show(S 0 x&&S a x)=S 0 x;rw[hi.zero];rfl
 ·show(S 1 x||S a x)=S 1 x;rw[hi.one];rfl
theorem Hf(hi:Interp N S)(e:Bool)(a:Nat):jf e S (!e).toNat a=S a:=by
 funext x;rw[oC];cases e
 ·show(S 1 x&&S a x)=S a x;rw[hi.one];cases S a x<;>rfl
 ·show(S 0 x||S a x)=S a x;rw[hi.zero];cases S a x<;>rfl
theorem p5(h:WF n ah N)(hl:jn n ah){r v:Nat}(hd:ah v<dep n ah N r)(b:Bool):cZ N v b r=r:=by
 unfold cZ
 cases e:N r with
 |none=>rfl
 |some d=>
  rw[av e]at hd
  simp only
  rw[if_neg (fun e2=>by rw[e2]at hd;omega)]
theorem p6{r:Nat}{d:Nd}(e:N r=some d):cZ N d.v false r=d.lo∧cZ N d.v true r=d.hi:=by
 unfold cZ
 rw[e]
 simp
theorem q8{N':dJ}(hN:∀s d,N s=some d→N' s=some d)(hc:∀r,r<2→N' r=none)(h0:∀r,r<2→N r=none){r:Nat}(hr:live N r):dep n ah N' r=dep n ah N r:=by
 rcases hr with hr|⟨d,hd⟩
 ·rw[aT (hc r hr),aT (h0 r hr)]
 ·rw[av hd,av (hN r d hd)]
theorem xx(v:Nat)(bb:Bool)(a b:Nat)(h0:N 0=none):fP N v bb [a,b,0]=[cZ N v bb a,cZ N v bb b,0]:=by
 have:cZ N v bb 0=0:=by unfold cZ;rw[h0]
 simp[fP,this]
theorem Ww(h:WF n ah N)(hl:jn n ah){a b:Nat}(h0:N 0=none)(hlt:min (dep n ah N a) (dep n ah N b)<n):
  ∃v,pJ n ah N [a,b,0] v∧ah v=min (dep n ah N a) (dep n ah N b):=by
 have hd0:dep n ah N 0=n:=aT h0
 have node:∀r,dep n ah N r<n→∃d,N r=some d:=fun r hr=>by
  cases e:N r with
  |none=>rw[aT e]at hr;omega
  |some d=>exact⟨d,rfl⟩
 by_cases hab:dep n ah N b<dep n ah N a
 ·obtain⟨d,hd⟩:=node b (by omega)
  have e:=av (n:=n) (ah:=ah) hd
  refine⟨d.v,⟨h.var hd,⟨b,by simp,d,hd,rfl⟩,fun r hr=>?_⟩,by omega⟩
  simp only[List.mem_cons,List.not_mem_nil,or_false]at hr
  rcases hr with rfl|rfl|rfl<;>omega
 ·obtain⟨d,hd⟩:=node a (by omega)
  have e:=av (n:=n) (ah:=ah) hd
  refine⟨d.v,⟨h.var hd,⟨a,by simp,d,hd,rfl⟩,fun r hr=>?_⟩,by omega⟩
  simp only[List.mem_cons,List.not_mem_nil,or_false]at hr
  rcases hr with rfl|rfl|rfl<;>omega
end
end aE
set_option maxRecDepth 100000
namespace Go.Proofs
open Go Go.Sx
open aE
section
variable {kp:Nat} {K:Kd} {ord ah tr:List Nat} {C:Hp} {S:Nat→aE.Fn}
theorem oB(h:cc kp K ord ah tr C):Rd Tryz.prog 65 #[ptr kp] C (· =.int .i64 ((K.cap:Nat):Int)):=by
 obtain⟨b,rfl,hO⟩:=h
 intro g
 refine EY (R:=az _) ?_
 unfold L65
 refine ae.bK (Br.no (Nil.ptr (aa.mk ?_)))
 refine aa.mk (Ld.mk (v:=ptr b.pa) (by exact .head _) rfl ?_)
 refine ag.rd (.cons .left) (rz hO.ar) ?_
 rintro v rfl
 exact cr.mk (.refl _) rfl
theorem lM(h:cc kp K ord ah tr C)(v:Int):Rd Tryz.prog 46 #[ptr kp,.int .i64 v] C (· =if 0≤v∧v<K.n then .tuple #[.int .i64 ((ah.getD v.toNat 0:Nat):Int),.int .i64 0]else .tuple #[.int .i64 0,.int .i64 2]):=by
 have h0:=h
 obtain⟨b,rfl,hO⟩:=h
 intro g
 refine Fe (R:=az _) ?_
 unfold L46
 refine ae.bK (Br.no ?_)
 refine ag.rd .here (Cq h0 v) ?_
 rintro x rfl
 refine Un.not ?_
 by_cases Ej:0≤v∧v<K.n
 ·rw[decide_eq_true Ej,if_pos Ej]
  refine Br.no (Nil.ptr ?_)
  refine aa.mk (Ld.mk (v:=b.vl) (by exact .head _) rfl ?_)
  have hlen:=hO.ol.2
  obtain⟨n,rfl⟩:∃n:Nat,v=n:=⟨v.toNat,by omega⟩
  refine hO.lv.ld (x:=((ah.getD n 0:Nat):Int)) (bc (by omega)) (bP.sub (.cons (.app (.app (.app (.app (.app .left))))))) ?_
  exact cr.mk (.refl _) rfl
 ·rw[decide_eq_false Ej,if_neg Ej]
  exact Br.yes (cr.mk (.refl _) rfl)
end
end Go.Proofs
set_option maxRecDepth 100000
namespace Go.Proofs
open Go Go.Sx
open aE
def Ce(bq kp bm:Nat)(ok:Bool):Nat×Obj:=(bq,.cells #[ptr kp,.map (some bm),.int .i64 (if ok then 0 else 9)] 350 (0,0))
abbrev pR(bq kp bm:Nat)(ok:Bool)(es:Array MapEntry)(ck:Nat)(C:Hp):Hp:=Ce bq kp bm ok::(bm,.map es ck)::C
abbrev Vk(v:Value)(_:Unit):Prop:=v=.int .i64 1
abbrev vG(made:List Nat):List (Nat×Unit):=made.map fun r=>(r,())
theorem nD(made:List Nat):(vG made).map Prod.fst=made:=by
 induction made with
 |nil=>rfl
 |cons a l ih=>simp only[vG,List.map_cons,List.cons.injEq,true_and]at ih⊢;exact ih
structure sI(kp:Nat)(K0:Kd)(S0:Nat→aE.Fn)(U:aE.Fn→Prop)(ord ah:List Nat)(K:Kd)(S:Nat→aE.Fn)(made:List Nat)(es:Array MapEntry)(ck:Nat)(C:Hp)(ok:Bool):Prop where
 ks:cF kp K S ord ah [] C
 cH:k9 K0 S0 U ord K S made
 iQ:aR (kN .u32) Vk es ck (vG made)
 bad:ok=false→¬Fits U K0.cap
theorem sI.nd{kp:Nat}{K0:Kd}{S0:Nat→aE.Fn}{U:aE.Fn→Prop}{ord ah:List Nat}{K:Kd}{S:Nat→aE.Fn}{made:List Nat}{es:Array MapEntry}{ck:Nat}{C:Hp}{ok:Bool}(h:sI kp K0 S0 U ord ah K S made es ck C ok):made.Nodup:=by
 have:=h.iQ.nd
 rwa [nD]at this
structure ye(K:Kd)(S:Nat→aE.Fn)(made:List Nat)(K':Kd)(S':Nat→aE.Fn)(made':List Nat):Prop where
 N:∀s d,K.N s=some d→K'.N s=some d
 fn:∀s,live K.N s→S' s=S s
 mem:∀s∈made,s∈made'
theorem ye.refl{K:Kd}{S:Nat→aE.Fn}{made:List Nat}:ye K S made K S made:=⟨fun _ _ h=>h,fun _ _=>rfl,fun _ h=>h⟩
theorem ye.trans{K K' K2:Kd}{S S' S2:Nat→aE.Fn}{made made' fc:List Nat}(h:ye K S made K' S' made')(h':ye K' S' made' K2 S2 fc):ye K S made K2 S2 fc:=
 ⟨fun s d hd=>h'.N s d (h.N s d hd),fun s hs=>(h'.fn s (cA h.N hs)).trans (h.fn s hs),fun s hs=>h'.mem s (h.mem s hs)⟩
section
variable {kp bq bm:Nat} {K K0:Kd} {S S0:Nat→aE.Fn} {U:aE.Fn→Prop} {ord ah made:List Nat} {es:Array MapEntry} {ck:Nat} {C:Hp} {ok:Bool}
theorem DZ{tr:List Nat}{r:Nat}(h:cF kp K S ord ah tr C)(hr:live K.N r):Rd Tryz.prog 287 #[ptr bq,.agg (got K.N r).toArray] (pR bq kp bm ok es ck C) (· =.int .i64 ((dep K.n (lv ah) K.N r:Nat):Int)):=by
 have hlen:=(aJ K.N r).1
 intro g
 refine zW (R:=az _) ?_
 unfold L287
 intro b1 _
 cases hN:K.N r with
 |none=>
  have h2:r<2:=by rcases hr with h|⟨d,hd⟩;exact h;rw[hN]at hd;cases hd
  have eg:got K.N r=[.int .i64 (-1),u32 r,u32 r]:=dx h2
  rw[eg]
  refine aa.mk (Ld.mk (v:=.int .i64 (-1)) (by exact .head _) rfl ?_)
  refine ae.lss (Br.dS (by decide) ?_)
  refine Nil.ptr (aa.mk (Ld.mk (v:=ptr kp) (by exact .tail _ (.head _)) rfl ?_))
  refine ag.rd (.cons (.cons (.cons .here))) (gO h.rep) ?_
  rintro w rfl
  rw[aT hN]
  exact cr.mk .tail rfl
 |some d=>
  have h2:=h.ok.wf.two hN
  have hv:=h.ok.wf.var hN
  rw[cY hN h2]
  refine aa.mk (Ld.mk (v:=.int .i64 (d.v:Int)) (by exact .head _) rfl ?_)
  refine ae.lss (Br.aX (by omega) ?_)
  refine DR.of (R:=(b1,Obj.cells (aV d).toArray 161 (0,0))::pR bq kp bm ok es ck C) (.refl _) ?_
  refine Nil.ptr (aa.mk (Ld.mk (v:=ptr kp) (by exact .tail _ (.head _)) rfl ?_))
  refine aa.mk (Ld.mk (v:=.int .i64 (d.v:Int)) (by exact .head _) rfl ?_)
  refine ag.rd (.cons (.cons (.cons .here))) (lM h.rep (d.v:Int)) ?_
  rw[if_pos (by omega)]
  rintro w rfl
  refine⟨.refl _,?_⟩
  refine Ext.mk rfl (Ext.mk rfl ?_)
  rw[av hN]
  exact cr.mk .tail rfl
theorem yM{tr:List Nat}{r:Nat}(h:cF kp K S ord ah tr C)(hr:live K.N r):Rd Tryz.prog 279 #[ptr bq,u32 r] (pR bq kp bm ok es ck C) (· =.tuple #[.agg (got K.N r).toArray,.int .i64 ((dep K.n (lv ah) K.N r:Nat):Int)]):=by
 intro g
 refine z7 (R:=az _) ?_
 unfold L279
 intro b1 _
 refine Nil.ptr (aa.mk (Ld.mk (v:=ptr kp) (by exact .tail _ (.head _)) rfl ?_))
 refine ag.rd (.cons (.cons (.cons .here))) (gR h.rep (by have:=h.bY hr;omega)) ?_
 rw[bI.2 hr]
 rintro w rfl
 refine Ext.mk rfl (Ext.mk rfl ?_)
 intro vp _
 refine St.whole (r:=got K.N r) (by exact .head _) rfl (aJ _ _).1 (aJ _ _).2 ?_
 refine DR.of (R:=[(vp,Obj.cells (got K.N r).toArray 161 (0,0))]) (aU.left (A:=[_])) ?_
 refine aC.whole (r:=got K.N r) (by exact .head _) (aJ _ _).1 ?_
 refine aC.whole (r:=got K.N r) (by exact .head _) (aJ _ _).1 ?_
 refine ag.rd (.cons (.cons .here)) (DZ h hr) ?_
 rintro w rfl
 refine⟨aU.left (A:=[_]),?_⟩
 refine St.whole (r:=got K.N r) (by exact .tail (.head _)) rfl (aJ _ _).1 (aJ _ _).2 ?_
 refine⟨aU.left (A:=[_]),?_⟩
 refine aC.whole (r:=got K.N r) (by exact .tail _ (.head _)) (aJ _ _).1 ?_
 exact cr.mk (.skip .tail) rfl
theorem s8(v:Value)(a b:Value)(B:Hp):Rd Tryz.prog 280 #[ptr bq,v,a,b] (Ce bq kp bm false::B) (· =u32 0):=by
 intro g
 refine rK (R:=az _) ?_
 unfold L280
 refine Nil.ptr (aa.mk (Ld.mk (v:=.int .i64 9) (by exact .head _) rfl ?_))
 exact ae.c7 (Br.dS (by decide) (cr.mk (.refl _) rfl))
theorem k9.Rk(h:k9 K0 S0 U ord K S made)(hK:cF kp K S ord ah [] C){K':Kd}{S':Nat→aE.Fn}{f:aE.Fn}{r:Nat}(m:mB K S K' S' f r)(h2:2≤r)(hU:∀g,aM K0.n ord (fun g=>g=f) g→U g):k9 K0 S0 U ord K' S' (made++[r]):=h.step hK m h2 hU
theorem k9.again(h:k9 K0 S0 U ord K S made)(hK:cF kp K S ord ah [] C){K' K2:Kd}{S':Nat→aE.Fn}{f:aE.Fn}{r:Nat}{C2:Hp}(m:mB K S K' S' f r)(hf:tV K' K2 r)(de:cF kp K2 S' ord ah [] C2):k9 K0 S0 U ord K2 S' made∧(∀s d,K.N s=some d→K2.N s=some d):=by
 have hold:∀s,K2.hold s=K.hold s:=fun s=>by
  rw[hf.hold,m.hold]
  by_cases e:s=r∧2≤r
  ·rw[if_pos e,if_pos e];omega
  ·rw[if_neg e,if_neg e]
 have hN:∀s d,K.N s=some d→K2.N s=some d:=fun s d hs=>gP hK.ok de.ok (fun s h=>by rw[hold];exact h) (fun s d d' h1 h2=>by
  have a:=hf.N s d' h2
  rw[m.N s d h1]at a;exact(Option.some.inj a).symm) _ s d hs (Nat.le_refl _)
 refine⟨⟨hf.n.trans (m.n.trans h.n),hf.cap.trans (m.cap.trans h.cap),fun s d hd=>hN s d (h.N s d hd),fun s hs=>(m.fn s (h.live hs)).trans (h.fn s hs),fun s=>by rw[hold,h.hold],h.two,fun g hg=>h.U g (bM (fun g=>?_) hg)⟩,hN⟩
 rintro⟨s,hs,rfl⟩
 have hs':K.hold s≠0:=by rw[←hold];exact hs
 exact⟨s,hs',m.fn s (.inr (hK.ok.mid.held s hs'))⟩
theorem GY{made:List Nat}{r:Nat}(h:r∉made):fU (vG made) r ()=vG (made++[r]):=by
 unfold fU
 rw[if_neg (by rw[nD];exact h)]
 simp[vG]
theorem lI{made:List Nat}{r:Nat}:(r∈made→dK (vG made) r=some ())∧(r∉made→dK (vG made) r=none):=by
 refine⟨fun h=>?_,fun h=>fA.2 (by rw[nD];exact h)⟩
 cases e:dK (vG made) r with
 |none=>have:=fA.1 e;rw[nD]at this;exact absurd h this
 |some u=>rfl
theorem wh(hq:sI kp K0 S0 U ord ah K S made es ck C true){v lo hi:Nat}(hv:v<K.n)(hlo:live K.N lo)(hhi:live K.N hi)(hlt:lv ah v<dep K.n (lv ah) K.N lo∧lv ah v<dep K.n (lv ah) K.N hi)
 (hU:∀g,aM K0.n ord (fun g=>g=ite S ⟨v,lo,hi⟩) g→U g)(jg:lo≠hi→U (ite S ⟨v,lo,hi⟩))(hf:∀s,K0.hold s+1<65535):
  Fc Tryz.prog 280 #[ptr bq,.int .i64 (v:Int),u32 lo,u32 hi] (pR bq kp bm true es ck C) (fun w H=>∃r K' S' made' es' cu C' jX,w=u32 r∧H=pR bq kp bm jX es' cu C'∧sI kp K0 S0 U ord ah K' S' made' es' cu C' jX∧ye K S made K' S' made'∧
   (jX=true→S' r=ite S ⟨v,lo,hi⟩∧(r<2∨r∈made'))):=by
 have hK:=hq.ks
 have iO:=hq.nd
 have hh:∀s,K.hold s<65535:=fun s=>by
  rw[hq.cH.hold]
  have:made.count s≤1:=List.nodup_iff_count.1 iO s
  have:=hf s
  omega
 intro g
 refine rK (R:=az _) ?_
 unfold L280
 refine Nil.ptr (aa.mk (Ld.mk (v:=.int .i64 0) (by exact .head _) rfl ?_))
 refine ae.c7 (Br.aX (by decide) ?_)
 refine Nil.ptr (aa.mk (Ld.mk (v:=ptr kp) (by exact .head _) rfl ?_))
 refine ag.fn (.cons (.cons .here)) (uL hK hv hlo hhi (.inr hlt)) ?_
 rintro w C' (⟨r,K',S',rfl,gE,mk⟩|⟨r,rfl,_,_,_,hfull,_⟩|⟨rfl,rfl,hcap,hne,hT⟩)
 ·refine Ext.mk rfl (Ext.mk rfl ?_)
  intro J hJ
  refine ae.jt (Br.aX (by decide) ?_)
  refine ae.c7 (Br.aX (by decide) ?_)
  refine ae.wD (b:=1) ?_
  have OJ:r<4294967296:=by have:=gE.bY mk.live;omega
  have hA:ye K S made K' S' made:=⟨mk.N,mk.fn,fun _ h=>h⟩
  have drop:(r<2∨r∈made)→Nil (ptr bq) fun eW=>aa 0 eW fun eP=>Ld (Ce bq kp bm true::(bm,Obj.map es ck)::C') eP fun ia=>ag Tryz.prog g 131 #[ia,u32 r] (Ce bq kp bm true::(bm,Obj.map es ck)::C') (fun iC l9=>JE J [u32 r] l9) (an (az fun w H=>∃r K' S' made' es' cu C' jX,w=u32 r∧H=pR bq kp bm jX es' cu C'∧sI kp K0 S0 U ord ah K' S' made' es' cu C' jX∧ye K S made K' S' made'∧
   (jX=true→S' r=ite S ⟨v,lo,hi⟩∧(r<2∨r∈made')))):=fun hr=>by
   refine Nil.ptr (aa.mk (Ld.mk (v:=ptr kp) (by exact .head _) rfl ?_))
   refine ag.fn (.cons (.cons .here)) (nT gE (r:=r) OJ (fun h2=>by rw[mk.hold,if_pos ⟨rfl,h2⟩];omega)) ?_
   rintro w C2 ⟨rfl,K2,de,f2⟩
   obtain⟨pW,Pk⟩:=hq.cH.again hK mk f2 de
   refine JE.mk (hJ _ _ fun gs=>?_)
   exact az.here ⟨r,K2,S',made,es,ck,C2,true,rfl,rfl,⟨de,pW,hq.iQ,fun h=>by cases h⟩,⟨Pk,mk.fn,fun _ h=>h⟩,fun _=>⟨mk.is,hr⟩⟩
  by_cases h2:r<2
  ·rw[decide_eq_true (by omega)]
   refine cw.or (a:=true) true (fun h=>by cases h) (by simp) fun gs=>Br.yes ?_
   exact drop (.inl h2)
  ·rw[decide_eq_false (by omega)]
   refine cw.or (a:=false) (decide (r∈made)) (fun _=>?_) (by simp) fun gs=>?_
   ·refine Nil.ptr (aa.mk (Ld.mk (v:=.map (some bm)) (by exact .head _) rfl ?_))
    by_cases hm:r∈made
    ·refine aR.hit (k:=r) (x:=()) gu hq.iQ (.tail _ (.head _)) (lI.1 hm) ?_
     rintro v rfl
     exact ae.gtr ⟨rfl,by rw[decide_eq_true hm];rfl⟩
    ·refine aR.Ob (k:=r) gu hq.iQ (.tail _ (.head _)) (lI.2 hm) ?_
     exact ae.gtr ⟨rfl,by rw[decide_eq_false hm];rfl⟩
   ·rw[Bool.false_or]
    refine Br.dec (fun hm=>drop (.inr hm)) (fun hm=>?_)
    refine Nil.ptr (aa.mk (Ld.mk (v:=.map (some bm)) (by exact .head _) rfl ?_))
    refine aR.bT (k:=r) (x:=()) gu Cu hq.iQ rfl fun es' cu he=>⟨_,.tail (.head _),?_⟩
    rw[GY hm]at he
    refine JE.mk (hJ _ _ fun gs=>?_)
    exact az.here ⟨r,K',S',made++[r],es',cu,C',true,rfl,rfl,⟨gE,hq.cH.Rk hK mk (by omega) hU,he,fun h=>by cases h⟩,⟨mk.N,mk.fn,fun _ h=>List.mem_append_left _ h⟩,fun _=>⟨mk.is,.inr (by simp)⟩⟩
 ·have:=hh r;omega
 ·refine Ext.mk rfl (Ext.mk rfl ?_)
  intro J hJ
  refine ae.jt (Br.aX (by decide) ?_)
  refine ae.c7 (Br.dS (by decide) ?_)
  refine Nil.ptr (aa.mk (St.one (by exact .head _) rfl (by simp) rfl ?_))
  refine JE.mk (hJ _ _ fun gs=>?_)
  refine az.here ⟨0,K,S,made,es,ck,C',false,rfl,rfl,⟨hK,hq.cH,hq.iQ,fun _=>?_⟩,.refl,fun h=>by cases h⟩
  rintro⟨ku,HG,hfit⟩
  have:=hK.ok.roomFor hK.od HG (by rw[hq.cH.cap];exact hfit) (by rw[hq.cH.n];exact hq.cH.U) (d:=⟨v,lo,hi⟩) hlo hhi hne hv hlt (jg hne) hT
  omega
end
end Go.Proofs
set_option maxRecDepth 100000
namespace Go.Proofs
open Go Go.Sx
open aE
def pk(p:Nat×Nat):Value:=.agg #[u32 p.1,u32 p.2]
theorem GL(a b:Nat×Nat):xS Tryz.prog 363 (pk a) (pk b) (decide (a=b)):=by
 refine xS.flat (fs:=#[⟨"f",77,0,false, "", "thicket/quant",0⟩,⟨"g",77,1,false, "", "thicket/quant",4⟩]) (by kernel_rfl) (by kernel_rfl) ?_ ?_
 ·intro f hf
  simp only[List.mem_cons,List.not_mem_nil,or_false]at hf
  rcases hf with rfl|rfl
  ·exact⟨by decide,_,_,rfl,rfl,.inl ⟨.u32,_,_,by kernel_rfl,rfl,rfl⟩⟩
  ·exact⟨by decide,_,_,rfl,rfl,.inl ⟨.u32,_,_,by kernel_rfl,rfl,rfl⟩⟩
 ·obtain⟨a1,a2⟩:=a
  obtain⟨b1,b2⟩:=b
  simp[u32]
  omega
theorem yQ(a:Nat×Nat):j7 Tryz.prog 363 (pk a):=by
 refine j7.flat (fs:=#[⟨"f",77,0,false, "", "thicket/quant",0⟩,⟨"g",77,1,false, "", "thicket/quant",4⟩]) (by kernel_rfl) ?_
 intro f hf
 simp only[List.mem_cons,List.not_mem_nil,or_false]at hf
 rcases hf with rfl|rfl
 ·exact⟨by decide,_,rfl,.inl ⟨.u32,_,_,by kernel_rfl,rfl,rfl⟩⟩
 ·exact⟨by decide,_,rfl,.inl ⟨.u32,_,_,by kernel_rfl,rfl,rfl⟩⟩
theorem Kz(a:Nat×Nat):Instr.sameBits 10000 (pk a) (pk a)=true:=iE 9998 (by intro x hx;simp[u32]at hx;rcases hx with rfl|rfl<;>exact .inl ⟨_,_,rfl⟩)
def oO(b3 b5 b1 mU l7:Nat):Value:=.func (.func 288) #[] #[ptr b3,ptr b5,ptr b1,ptr mU,ptr l7]
def QU(K0:Kd)(F:Nat×Nat→aE.Fn)(S:Nat→aE.Fn)(made:List Nat)(ok:Bool)(es:Array MapEntry)(ck:Nat):Prop:=
 ∃m:List ((Nat×Nat)×Nat),aR pk F8 es ck m∧(ok=true→∀y∈m,S y.2=F y.1∧(live K0.N y.2∨y.2∈made))
abbrev Mu(e:Bool)(b3 b5 b1 mU l7 bj bq kp bm:Nat)(ok:Bool)(rZ:Array MapEntry)(r4:Nat)(es:Array MapEntry)(ck:Nat)(C:Hp):Hp:=
 (l7,.cells #[oO b3 b5 b1 mU l7] 361 (0,0))::(mU,.cells #[.map (some bj)] 360 (0,0))::(bj,.map rZ r4)::(b5,.cells #[u32 (!e).toNat] 77 (0,0))::(b3,.cells #[u32 e.toNat] 77 (0,0))::(b1,.cells #[ptr bq] 344 (0,0))::pR bq kp bm ok es ck C
section
variable {kp bq bm b3 b5 b1 mU l7 bj:Nat} {K0:Kd} {S0:Nat→aE.Fn} {U:aE.Fn→Prop} {ord ah:List Nat} {e:Bool}
theorem sI.qE{K:Kd}{S:Nat→aE.Fn}{made:List Nat}{es:Array MapEntry}{ck:Nat}{C:Hp}{ok:Bool}(h:sI kp K0 S0 U ord ah K S made es ck C ok){r:Nat}(hr:live K0.N r∨r∈made):live K.N r:=by
 rcases hr with hr|hr
 ·exact h.cH.live hr
 ·exact h.cH.fB h.ks hr
theorem QU.more{F:Nat×Nat→aE.Fn}{K K':Kd}{S S':Nat→aE.Fn}{made made':List Nat}{es rZ:Array MapEntry}{ck r4:Nat}{C:Hp}{ok jX:Bool}(hq:sI kp K0 S0 U ord ah K S made es ck C ok)(h:QU K0 F S made ok rZ r4)(ha:ye K S made K' S' made')(hok:jX=true→ok=true):QU K0 F S' made' jX rZ r4:=by
 obtain⟨m,h1,h2⟩:=h
 refine⟨m,h1,fun h y hy=>?_⟩
 obtain⟨a,b⟩:=h2 (hok h) y hy
 exact⟨by rw[ha.fn _ (hq.qE b),a],b.imp id (ha.mem _)⟩
def P1(kp:Nat)(K0:Kd)(S0:Nat→aE.Fn)(U:aE.Fn→Prop)(ord ah:List Nat)(e:Bool)(b3 b5 b1 mU l7 bj bq bm:Nat)(K:Kd)(S:Nat→aE.Fn)(made:List Nat)(ok:Bool)(f:aE.Fn)(w:Value)(H:Hp):Prop:=
 ∃x K' S' made' es' cu C' jX Ox Oy,w=u32 x∧H=Mu e b3 b5 b1 mU l7 bj bq kp bm jX Ox Oy es' cu C'∧sI kp K0 S0 U ord ah K' S' made' es' cu C' jX∧QU K0 (fun p=>jf e S0 p.1 p.2) S' made' jX Ox Oy∧ye K S made K' S' made'∧
  (jX=true→ok=true∧S' x=f∧(live K0.N x∨x∈made'))
theorem xf{N:dJ}{n:Nat}{dm:Nat→Nat}(h:WF n dm N)(hl:jn n dm){r v:Nat}(hr:live N r)(hv:v<n)(hle:dm v≤dep n dm N r):
  ∃z p q,got N r=[.int .i64 z,u32 p,u32 q]∧(dm v=dep n dm N r→z=(v:Int)∧p=cZ N v false r∧q=cZ N v true r)∧(dm v<dep n dm N r→cZ N v false r=r∧cZ N v true r=r):=by
 have hlv:=hl.lt v hv
 cases e:N r with
 |none=>
  have h2:r<2:=by rcases hr with h|⟨d,hd⟩;exact h;rw[e]at hd;cases hd
  refine⟨_,_,_,dx h2,fun h3=>?_,fun h3=>⟨p5 h hl h3 _,p5 h hl h3 _⟩⟩
  rw[aT e]at h3;omega
 |some d=>
  refine⟨_,_,_,cY e (h.two e),fun h3=>?_,fun h3=>⟨p5 h hl h3 _,p5 h hl h3 _⟩⟩
  rw[av e]at h3
  have:v=d.v:=hl.inj _ _ hv (h.var e) h3
  subst this
  obtain⟨c1,c2⟩:=p6 (N:=N) e
  exact⟨rfl,c1.symm,c2.symm⟩
set_option maxHeartbeats 2000000 in
theorem He(fx:bh Tryz.prog 288=true)(iP:WF K0.n (lv ah) K0.N)(l6:Interp K0.N S0)(iH:jn K0.n (lv ah))(iF:aE.Ord K0.n (lv ah) ord)(hf:∀s,K0.hold s+1<65535):
  ∀(k a b:Nat),K0.n-min (dep K0.n (lv ah) K0.N a) (dep K0.n (lv ah) K0.N b)=k→∀(K:Kd) (S:Nat→aE.Fn) (made:List Nat) (es:Array MapEntry) (ck:Nat) (C:Hp) (ok:Bool) (rZ:Array MapEntry) (r4:Nat),
  live K0.N a→live K0.N b→sI kp K0 S0 U ord ah K S made es ck C ok→QU K0 (fun p=>jf e S0 p.1 p.2) S made ok rZ r4→(∀g,aM K0.n ord (fun g=>g=jf e S0 a b) g→U g)→
  Fc Tryz.prog 288 #[u32 a,u32 b,ptr b3,ptr b5,ptr b1,ptr mU,ptr l7] (Mu e b3 b5 b1 mU l7 bj bq kp bm ok rZ r4 es ck C) (P1 kp K0 S0 U ord ah e b3 b5 b1 mU l7 bj bq bm K S made ok (jf e S0 a b)):=by
 have hc0:∀r,r<2→K0.N r=none:=fun r hr=>iP.const hr
 intro k
 induction k using Nat.strongRecOn with
 |ind k ih=>
 intro a b hk K S made es ck C ok rZ r4 ha hb hS hJ hU g
 have hK:=hS.ks
 have CV:∀r,r<2→K.N r=none:=fun r hr=>hK.ok.wf.const hr
 have eN:=hS.cH.n
 have la:=hS.cH.live ha
 have lb:=hS.cH.live hb
 have now:∀x,live K0.N x→(S0 x=jf e S0 a b)→∀Z:Hp,az (P1 kp K0 S0 U ord ah e b3 b5 b1 mU l7 bj bq bm K S made ok (jf e S0 a b)) (.returned (u32 x)) (Z++Mu e b3 b5 b1 mU l7 bj bq kp bm ok rZ r4 es ck C):=fun x hx hf Z=>
  az.mk .right ⟨x,K,S,made,es,ck,C,ok,rZ,r4,rfl,rfl,hS,hJ,.refl,fun h=>⟨h,by rw[hS.cH.fn x hx];exact hf,.inl hx⟩⟩
 have JD:e.toNat<2:=by cases e<;>decide
 have y4:(!e).toNat<2:=by cases e<;>decide
 refine zV (R:=az _) ?_
 unfold L288
 refine Ld.mk (v:=u32 e.toNat) (by exact .tail _ (.tail _ (.tail _ (.tail _ (.head _))))) rfl ?_
 refine ae.fO ?_
 refine cw.or (decide (b=e.toNat)) (fun _=>?_) (by simp) fun gs=>?_
 ·refine Ld.mk (v:=u32 e.toNat) (by exact .tail _ (.tail _ (.tail _ (.tail _ (.head _))))) rfl ?_
  exact ae.fO ⟨rfl,rfl⟩
 rw[←Bool.decide_or]
 refine Br.dec (fun h1=>?_) (fun h1=>?_)
 ·refine Ld.mk (v:=u32 e.toNat) (by exact .tail _ (.tail _ (.tail _ (.tail _ (.head _))))) rfl ?_
  refine now _ (.inl JD) ?_ []
  rcases h1 with rfl|rfl
  ·exact(Hg l6 e b).symm
  ·rw[uP];exact(Hg l6 e a).symm
 refine Ld.mk (v:=u32 (!e).toNat) (by exact .tail _ (.tail _ (.tail _ (.head _)))) rfl ?_
 refine ae.fO ?_
 refine cw.or (decide (a=b)) (fun _=>ae.fO ⟨rfl,rfl⟩) (by simp) fun gs=>?_
 rw[←Bool.decide_or]
 refine Br.dec (fun h2=>?_) (fun h2=>?_)
 ·refine now b hb ?_ []
  rcases h2 with rfl|rfl
  ·exact(Hf l6 e b).symm
  ·exact(KR e S0 a).symm
 refine Ld.mk (v:=u32 (!e).toNat) (by exact .tail _ (.tail _ (.tail _ (.head _)))) rfl ?_
 refine ae.fO (Br.dec (fun h3=>?_) (fun h3=>?_))
 ·refine now a ha ?_ []
  rw[h3,uP];exact(Hf l6 e a).symm
 refine Ld.mk (v:=ptr bq) (by exact .tail _ (.tail _ (.tail _ (.tail _ (.tail _ (.head _)))))) rfl ?_
 refine Nil.ptr (aa.mk (Ld.mk (v:=.int .i64 (if ok then 0 else 9)) (by exact .tail _ (.tail _ (.tail _ (.tail _ (.tail _ (.tail _ (.head _))))))) rfl ?_))
 cases ok with
 |false=>
  refine ae.c7 (Br.dS (by decide) ?_)
  exact az.here ⟨0,K,S,made,es,ck,C,false,rZ,r4,rfl,rfl,hS,hJ,.refl,fun h=>by cases h⟩
 |true=>
 refine ae.c7 (Br.aX (by decide) ?_)
 refine⟨.u32,(a:Int),(b:Int),rfl,rfl,⟨.u32,(a:Int),(b:Int),rfl,rfl,?_⟩⟩
 have YR:(if(b:Int)<(a:Int)then(b:Int)else(a:Int))=((min a b:Nat):Int):=by split<;>omega
 have YS:(if(b:Int)>(a:Int)then(b:Int)else(a:Int))=((max a b:Nat):Int):=by split<;>omega
 rw[YR,YS]
 refine Build.mk (cs:=[u32 (min a b),u32 (max a b)]) (by kernel_rfl) ?_
 intro Dk _
 refine St.whole (r:=[u32 (min a b),u32 (max a b)]) (by exact .head _) rfl rfl (by intro x hx;simp[u32]at hx;rcases hx with rfl|rfl<;>rfl) ?_
 refine Ld.mk (v:=.map (some bj)) (by exact .tail _ (.tail _ (.head _))) rfl ?_
 refine aC.whole (r:=[u32 (min a b),u32 (max a b)]) (by exact .head _) rfl ?_
 obtain⟨m,hE,hkn⟩:=hJ
 have sA:(bj,Obj.map rZ r4)∈(Dk,Obj.cells #[u32 (min a b),u32 (max a b)] 363 (0,0))::Mu e b3 b5 b1 mU l7 bj bq kp bm true rZ r4 es ck C:=.tail _ (.tail _ (.tail _ (.head _)))
 cases hg:dK m (min a b,max a b)with
 |some x=>
  refine aR.Er (ke:=pk) (k:=(min a b,max a b)) GL yQ hE sA hg ?_
  rintro v rfl
  obtain⟨g1,g2⟩:=hkn rfl _ ((e9 hE.nd).1 hg)
  refine Ext.mk rfl (Ext.mk rfl (Br.yes ?_))
  refine az.mk .tail ⟨x,K,S,made,es,ck,C,true,rZ,r4,rfl,rfl,hS,⟨m,hE,hkn⟩,.refl,fun h=>⟨h,?_,g2⟩⟩
  rw[g1];exact Ms e S0 a b
 |none=>
 refine aR.tf (ke:=pk) (k:=(min a b,max a b)) GL yQ hE sA hg ?_
 refine Ext.mk rfl (Ext.mk rfl (Br.no ?_))
 refine Ld.mk (v:=ptr bq) (by exact .tail _ (.tail _ (.tail _ (.tail _ (.tail _ (.tail _ (.head _))))))) rfl ?_
 refine ag.rd (.cons (.cons (.cons (.cons (.cons (.cons (.cons .here))))))) (yM (bm:=bm) (ok:=true) (es:=es) (ck:=ck) hK la) ?_
 rintro w rfl
 refine Ext.mk rfl (Ext.mk rfl ?_)
 intro EN _
 refine St.whole (r:=got K.N a) (by exact .head _) rfl (aJ _ _).1 (aJ _ _).2 ?_
 refine Ld.mk (v:=ptr bq) (by exact .tail _ (.tail _ (.tail _ (.tail _ (.tail _ (.tail _ (.tail _ (.head _)))))))) rfl ?_
 refine ag.rd (.cons (.cons (.cons (.cons (.cons (.cons (.cons (.cons .here)))))))) (yM (bm:=bm) (ok:=true) (es:=es) (ck:=ck) hK lb) ?_
 rintro w rfl
 refine Ext.mk rfl (Ext.mk rfl ?_)
 intro EM _
 refine St.whole (r:=got K.N b) (by exact .head _) rfl (aJ _ _).1 (aJ _ _).2 ?_
 rw[kR hS.cH.N hc0 CV ha,kR hS.cH.N hc0 CV hb,eN,q8 hS.cH.N CV hc0 ha,q8 hS.cH.N CV hc0 hb]
 have hmin:min (dep K0.n (lv ah) K0.N a) (dep K0.n (lv ah) K0.N b)<K0.n:=by
  refine Classical.byContradiction fun hn=>h2 (.inr ?_)
  have cst:∀r,live K0.N r→K0.n≤dep K0.n (lv ah) K0.N r→r<2:=fun r hr hd=>by
   rcases hr with h|⟨d,cI⟩
   ·exact h
   ·rw[av cI]at hd
    have:=iH.lt _ (iP.var cI);omega
  have a2:=cst a ha (by omega)
  have b2:=cst b hb (by omega)
  cases e<;>simp only[Bool.toNat_true,Bool.toNat_false,Bool.not_true,Bool.not_false]at h1 h2<;>omega
 obtain⟨v,hv,hvl⟩:=Ww iP iH (hc0 0 (by omega)) hmin
 have hva:=hv.le a (by simp)
 have hvb:=hv.le b (by simp)
 obtain⟨za,pa,qa,ega,ga1,ga2⟩:=xf iP iH ha hv.lt hva
 obtain⟨zb,pb,qb,egb,gb1,gb2⟩:=xf iP iH hb hv.lt hvb
 rw[ega,egb]
 have fw:∀r∈[a,b,0],live K0.N r:=fun r hr=>by
  simp only[List.mem_cons,List.not_mem_nil,or_false]at hr
  rcases hr with rfl|rfl|rfl
  ·exact ha
  ·exact hb
  ·exact .inl (by omega)
 obtain⟨f1,f2⟩:=lU (S:=S0) iP iH l6 fw hv false
 obtain⟨t1,t2⟩:=lU (S:=S0) iP iH l6 fw hv true
 rw[xx v _ a b (hc0 0 (by omega))]at f1 f2 t1 t2
 have ec:∀bb,jf e S0 (cZ K0.N v bb a) (cZ K0.N v bb b)=fun x=>jf e S0 a b (aD.aI x v bb):=fun bb=>by
  have:=Da (S:=S0) iP iH l6 rfl fw hv (WU e) bb
  rw[xx v _ a b (hc0 0 (by omega))]at this
  exact this
 generalize ea1:cZ K0.N v false a=a1 at*
 generalize ea2:cZ K0.N v true a=a2 at*
 generalize ec1:cZ K0.N v false b=c1 at*
 generalize ec2:cZ K0.N v true b=c2 at*
 have fV:=iH.lt v hv.lt
 have En:=iF.of iH hv.lt
 have oG:∀j,j<lv ah v→¬cR (jf e S0 a b) (ord.getD j 0):=tH iP iH l6 iF (q:=[a,b,0]) rfl fw (Nat.le_of_lt fV) hv.le (WU e)
 obtain⟨i1,GF⟩:=gB (n:=K0.n) (ord:=ord) (c:=jf e S0 a1 c1) oG (b:=false) (by rw[En,←ea1,←ec1];exact ec false)
 obtain⟨i2,GD⟩:=gB (n:=K0.n) (ord:=ord) (c:=jf e S0 a2 c2) oG (b:=true) (by rw[En,←ea2,←ec2];exact ec true)
 have eF:jf e S0 a1 c1=fun x=>jf e S0 a b (aD.aI x v false):=by rw[←ea1,←ec1];exact ec false
 have eT:jf e S0 a2 c2=fun x=>jf e S0 a b (aD.aI x v true):=by rw[←ea2,←ec2];exact ec true
 have la1:=f1 a1 (by simp)
 have lc1:=f1 c1 (by simp)
 have la2:=t1 a2 (by simp)
 have lc2:=t1 c2 (by simp)
 have da1:=f2 a1 (by simp)
 have dc1:=f2 c1 (by simp)
 have da2:=t2 a2 (by simp)
 have dc2:=t2 c2 (by simp)
 refine aa.mk (Ld.mk (v:=.int .i64 za) (by exact .tail _ (.head _)) rfl ?_)
 intro Ua h49
 have Tl:Ua [.int .i64 (v:Int)] ((EM,.cells #[.int .i64 zb,u32 pb,u32 qb] 161 (0,0))::(EN,.cells #[.int .i64 za,u32 pa,u32 qa] 161 (0,0))::(Dk,.cells #[u32 (min a b),u32 (max a b)] 363 (0,0))::Mu e b3 b5 b1 mU l7 bj bq kp bm true rZ r4 es ck C):=by
  refine h49 _ _ fun gs T9 h53=>?_
  have Tk:T9 [] ((EM,.cells #[.int .i64 zb,u32 pb,u32 qb] 161 (0,0))::(EN,.cells #[.int .i64 za,u32 a1,u32 a2] 161 (0,0))::(Dk,.cells #[u32 (min a b),u32 (max a b)] 363 (0,0))::Mu e b3 b5 b1 mU l7 bj bq kp bm true rZ r4 es ck C):=by
   refine h53 _ fun gs T8 h56=>?_
   have Tj:T8 [] ((EM,.cells #[.int .i64 zb,u32 c1,u32 c2] 161 (0,0))::(EN,.cells #[.int .i64 za,u32 a1,u32 a2] 161 (0,0))::(Dk,.cells #[u32 (min a b),u32 (max a b)] 363 (0,0))::Mu e b3 b5 b1 mU l7 bj bq kp bm true rZ r4 es ck C):=by
    refine h56 _ fun gs=>?_
    refine Ld.mk (v:=oO b3 b5 b1 mU l7) (by exact .tail _ (.tail _ (.tail _ (.head _)))) rfl ?_
    refine aa.mk (Ld.mk (v:=u32 a1) (by exact .tail _ (.head _)) rfl ?_)
    refine aa.mk (Ld.mk (v:=u32 c1) (by exact .head _) rfl ?_)
    refine cg.of rfl fx ?_
    have hJ0:QU K0 (fun p=>jf e S0 p.1 p.2) S made true rZ r4:=⟨m,hE,hkn⟩
    refine ag.fn (args:=#[u32 a1,u32 c1,ptr b3,ptr b5,ptr b1,ptr mU,ptr l7]) (.cons (.cons (.cons .here))) (ih _ (by omega) a1 c1 rfl K S made es ck C true rZ r4 la1 lc1 hS hJ0 (fun g hg=>hU g (GF g hg))) ?_
    rintro w H ⟨x1,K1,S1,tq,Iy,Df,C1,WB,WW,WY,rfl,rfl,x7,Pn,MX,CD⟩
    refine DR.of (R:=[(EM,.cells #[.int .i64 zb,u32 c1,u32 c2] 161 (0,0)),(EN,.cells #[.int .i64 za,u32 a1,u32 a2] 161 (0,0)),(l7,.cells #[oO b3 b5 b1 mU l7] 361 (0,0)),(b1,.cells #[ptr bq] 344 (0,0))]) (.cons (.cons (.skip (.cons (.skip (.skip (.skip (.skip (aU.left (A:=[_])))))))))) ?_
    refine Ld.mk (v:=ptr bq) (by exact .tail _ (.tail _ (.tail _ (.head _)))) rfl ?_
    refine Ld.mk (v:=oO b3 b5 b1 mU l7) (by exact .tail _ (.tail _ (.head _))) rfl ?_
    refine aa.mk (Ld.mk (v:=u32 a2) (by exact .tail _ (.head _)) rfl ?_)
    refine aa.mk (Ld.mk (v:=u32 c2) (by exact .head _) rfl ?_)
    refine cg.of rfl fx ?_
    refine ag.fn (args:=#[u32 a2,u32 c2,ptr b3,ptr b5,ptr b1,ptr mU,ptr l7]) (.cons (.cons (.cons .here))) (ih _ (by omega) a2 c2 rfl K1 S1 tq Iy Df C1 WB WW WY la2 lc2 x7 Pn (fun g hg=>hU g (GD g hg))) ?_
    rintro w H ⟨x2,K2,S2,fc,LG,PB,C2,Uy,WV,WX,rfl,rfl,ji,y8,oI,CC⟩
    refine⟨.cons (.cons (.skip (.cons (.skip (.skip (.skip (.skip (aU.left (A:=[_]))))))))),?_⟩
    have uX:=MX.trans oI
    have fin:∀(x3:Nat) K3 S3 gg tI x9 C3 x5,sI kp K0 S0 U ord ah K3 S3 gg tI x9 C3 x5→ye K2 S2 fc K3 S3 gg→(x5=true→Uy=true∧S3 x3=jf e S0 a b∧(live K0.N x3∨x3∈gg))→
      ∀sL,sL=(EM,.cells #[.int .i64 zb,u32 c1,u32 c2] 161 (0,0))::(EN,.cells #[.int .i64 za,u32 a1,u32 a2] 161 (0,0))::(Dk,.cells #[u32 (min a b),u32 (max a b)] 363 (0,0))::Mu e b3 b5 b1 mU l7 bj bq kp bm x5 WV WX tI x9 C3→
      aU sL [(EM,.cells #[.int .i64 zb,u32 c1,u32 c2] 161 (0,0)),(EN,.cells #[.int .i64 za,u32 a1,u32 a2] 161 (0,0)),(l7,.cells #[oO b3 b5 b1 mU l7] 361 (0,0)),(b1,.cells #[ptr bq] 344 (0,0))]∧
      Ld sL (ptr mU) fun ym=>aC 2 sL (ptr Dk) fun r9=>iz Tryz.prog 363 sL ym r9 (u32 x3) fun ZE=>az (P1 kp K0 S0 U ord ah e b3 b5 b1 mU l7 bj bq bm K S made true (jf e S0 a b)) (.returned (u32 x3)) ZE:=by
     rintro x3 K3 S3 gg tI x9 C3 x5 Pf r5 Eo sL rfl
     refine⟨.cons (.cons (.skip (.cons (.skip (.skip (.skip (.skip (aU.left (A:=[_]))))))))),?_⟩
     refine Ld.mk (v:=.map (some bj)) (by exact .tail _ (.tail _ (.tail _ (.tail _ (.head _))))) rfl ?_
     refine aC.whole (r:=[u32 (min a b),u32 (max a b)]) (by exact .tail _ (.tail _ (.head _))) rfl ?_
     obtain⟨m3,MU,OV⟩:=y8.more ji r5 (fun h=>(Eo h).1)
     refine aR.Ke (ke:=pk) (k:=(min a b,max a b)) (vr:=F8) (x:=x3) GL yQ Kz MU rfl fun es' cu he=>⟨_,.tail (.tail (.tail (.tail (.tail (.head _))))),?_⟩
     refine az.mk (.skip (.skip .tail)) ⟨x3,K3,S3,gg,tI,x9,C3,x5,es',cu,rfl,rfl,Pf,⟨_,he,fun h y hy=>(nC hy).elim (fun e1=>?_) (fun hy=>OV h y hy)⟩,uX.trans r5,fun h=>⟨rfl,(Eo h).2⟩⟩
     rw[e1]
     exact⟨(Eo h).2.1.trans (Ms e S0 a b).symm,(Eo h).2.2⟩
    cases Uy with
    |false=>
     refine ag.rd (args:=#[ptr bq,.int .i64 (v:Int),u32 x1,u32 x2]) (.cons (.cons (.cons (.cons (.cons (.cons (.cons (.cons (.cons .here))))))))) (s8 (kp:=kp) (bm:=bm) _ _ _ _) ?_
     rintro w rfl
     exact fin 0 K2 S2 fc LG PB C2 false ji .refl (fun h=>by cases h) _ rfl
    |true=>
     obtain⟨NZ,e2,m2⟩:=CC rfl
     obtain⟨_,e1,m1⟩:=CD NZ
     have Ot:=x7.qE m1
     have l1:live K2.N x1:=cA oI.N Ot
     have l2:=ji.qE m2
     have LI:S2 x1=jf e S0 a1 c1:=(oI.fn x1 Ot).trans e1
     have de:=ji.ks
     have n2:=ji.cH.n
     have b1':=de.ok.below de.od (l:=lv ah v+1) l1 (by omega) (by rw[LI];exact i1)
     have b2':=de.ok.below de.od (l:=lv ah v+1) l2 (by omega) (by rw[e2];exact i2)
     have pF:ite S2 ⟨v,x1,x2⟩=jf e S0 a b:=by
      funext x
      unfold aE.ite
      rw[LI,e2,eF,eT]
      conv=>rhs;rw[←aD.iW x v]
      simp only
      cases x.testBit v<;>rfl
     have jg:x1≠x2→U (ite S2 ⟨v,x1,x2⟩):=fun hx=>by
      have tC:cR (jf e S0 a b) (ord.getD (lv ah v) 0):=by
       rw[En]
       refine Classical.byContradiction fun hno=>hx ?_
       refine de.ok.wf.same de.ok.lv de.ok.mid.int l1 l2 fun x=>?_
       rw[LI,e2,eF,eT]
       exact(bU hno x false).trans (bU hno x true).symm
      rw[pF]
      exact hU _ (lE oG fV tC)
     refine ag.fn (args:=#[ptr bq,.int .i64 (v:Int),u32 x1,u32 x2]) (.cons (.cons (.cons (.cons (.cons (.cons (.cons (.cons (.cons .here))))))))) (wh ji (by rw[n2];exact hv.lt) l1 l2 ⟨by omega,by omega⟩ (by rw[pF];exact hU) jg hf) ?_
     rintro w H ⟨r,K3,S3,gg,tI,x9,C3,x5,rfl,rfl,Pf,r5,Eo⟩
     exact fin r K3 S3 gg tI x9 C3 x5 Pf r5 (fun h=>⟨rfl,by rw[(Eo h).1,pF],(Eo h).2.imp .inl id⟩) _ rfl
   refine ae.nP (Br.dec (fun hh=>?_) (fun hh=>?_))
   ·obtain⟨x1,x2⟩:=gb2 (by omega)
    subst x1;subst x2
    refine aa.mk (St.one (by exact .head _) rfl (by simp) rfl ?_)
    refine aa.mk (St.one (by exact .head _) rfl (by simp) rfl ?_)
    exact JE.mk Tj
   ·obtain⟨x1,x2,x3⟩:=gb1 (by omega)
    rw[x2,x3]
    exact JE.mk Tj
  refine ae.nP (Br.dec (fun hh=>?_) (fun hh=>?_))
  ·obtain⟨x1,x2⟩:=ga2 (by omega)
   subst x1;subst x2
   refine aa.mk (St.one (by exact .tail (.head _)) rfl (by simp) rfl ?_)
   refine aa.mk (St.one (by exact .tail (.head _)) rfl (by simp) rfl ?_)
   exact JE.mk Tk
  ·obtain⟨x1,x2,x3⟩:=ga1 (by omega)
   rw[x2,x3]
   exact JE.mk Tk
 refine ae.fq (Br.dec (fun hh=>?_) (fun hh=>?_))
 ·obtain⟨x1,x2,x3⟩:=gb1 (by omega)
  refine aa.mk (Ld.mk (v:=.int .i64 zb) (by exact .head _) rfl ?_)
  subst x1
  exact JE.mk Tl
 ·obtain⟨x1,x2,x3⟩:=ga1 (by omega)
  subst x1
  exact JE.mk Tl
end
end Go.Proofs
set_option maxRecDepth 100000
namespace Go.Proofs
open Go Go.Sx
open aE
theorem Hs{N:dJ}{S:Nat→aE.Fn}{n:Nat}{dm:Nat→Nat}{ord:List Nat}(h:WF n dm N)(hl:jn n dm)(hi:Interp N S)(ho:aE.Ord n dm ord){r:Nat}(hr:live N r){l:Nat}(HD:l≤n)(hle:l≤dep n dm N r):∀j,j<l→¬cR (S r) (ord.getD j 0):=by
 rintro j hj ⟨x,hx⟩
 apply hx
 obtain⟨o1,o2⟩:=ho.oS j (by omega)
 rw[h.bO hl hi hr o1 (by omega) x false,h.bO hl hi hr o1 (by omega) x true]
section
variable {kp bq bm:Nat} {K0:Kd} {S0:Nat→aE.Fn} {U:aE.Fn→Prop} {ord ah:List Nat}
def L2(kp:Nat)(K0:Kd)(S0:Nat→aE.Fn)(U:aE.Fn→Prop)(ord ah:List Nat)(bq bm:Nat)(LB:Hp)(K:Kd)(S:Nat→aE.Fn)(made:List Nat)(f:aE.Fn)(w:Value)(H:Hp):Prop:=
 ∃x K' S' made' es' cu C' jX,w=u32 x∧H=LB++pR bq kp bm jX es' cu C'∧sI kp K0 S0 U ord ah K' S' made' es' cu C' jX∧ye K S made K' S' made'∧(jX=true→S' x=f∧(live K0.N x∨x∈made'))
theorem KQ{e:Bool}(iP:WF K0.n (lv ah) K0.N)(l6:Interp K0.N S0)(iH:jn K0.n (lv ah))(iF:aE.Ord K0.n (lv ah) ord)(hf:∀s,K0.hold s+1<65535){a b:Nat}{K:Kd}{S:Nat→aE.Fn}{made:List Nat}{es:Array MapEntry}{ck:Nat}{C:Hp}
 (ha:live K0.N a)(hb:live K0.N b)(hS:sI kp K0 S0 U ord ah K S made es ck C true)(hU:∀g,aM K0.n ord (fun g=>g=jf e S0 a b) g→U g):
  Fc Tryz.prog 283 #[ptr bq,u32 a,u32 b,.bool e] (pR bq kp bm true es ck C) (L2 kp K0 S0 U ord ah bq bm [] K S made (jf e S0 a b)):=by
 intro g
 refine zY (R:=az _) ?_
 unfold L283
 intro b1 _ b3 _ b5 _
 refine St.one (by exact .tail (.head _)) rfl (by simp) rfl ?_
 refine St.one (by exact .head _) rfl (by simp) rfl ?_
 have fx:bh Tryz.prog 288=true:=by kernel_rfl
 intro J hJ
 have FO:J [] ((b5,.cells #[u32 (!e).toNat] 77 (0,0))::(b3,.cells #[u32 e.toNat] 77 (0,0))::(b1,.cells #[ptr bq] 344 (0,0))::pR bq kp bm true es ck C):=by
  refine hJ _ fun gs=>?_
  intro bj _ mU _
  refine St.one (by exact .head _) rfl (by simp) rfl ?_
  intro l7 _
  refine St.one (by exact .head _) rfl (by simp) rfl ?_
  refine Ld.mk (v:=oO b3 b5 b1 mU l7) (by exact .head _) rfl ?_
  refine cg.of rfl fx ?_
  refine ag.fn (args:=#[u32 a,u32 b,ptr b3,ptr b5,ptr b1,ptr mU,ptr l7]) .here (He (e:=e) fx iP l6 iH iF hf _ a b rfl K S made es ck C true #[] 0 ha hb hS ⟨[],aR.empty,fun _ y hy=>by cases hy⟩ hU) ?_
  rintro w H ⟨x,K',S',made',es',cu,C',jX,Ox,Oy,rfl,rfl,Li,_,hA,ho⟩
  exact az.mk (.skip (.skip (.skip (.skip (.skip .tail))))) ⟨x,K',S',made',es',cu,C',jX,rfl,rfl,Li,hA,fun h=>(ho h).2⟩
 cases e with
 |true=>
  refine Br.yes ?_
  refine St.one (by exact .tail (.head _)) rfl (by simp) rfl ?_
  refine St.one (by exact .head _) rfl (by simp) rfl ?_
  exact JE.mk FO
 |false=>exact Br.no (JE.mk FO)
def Dw(kp:Nat)(K0:Kd)(S0:Nat→aE.Fn)(U:aE.Fn→Prop)(ord ah:List Nat)(bq bm:Nat)(t:Bool→Bool→Bool)(v:Nat)(fv:Value)(LB:Hp):Prop:=
 ∃f first cap,fv=.func (.func f) first cap∧bh Tryz.prog f=true∧∀(r:Nat) (d:Nd),K0.N r=some d→d.v=v→∀K S made es ck C,sI kp K0 S0 U ord ah K S made es ck C true→(∀g,aM K0.n ord (fun g=>g=QF t v (S0 r)) g→U g)→
  Fc Tryz.prog f (first++ #[.agg (aV d).toArray]++cap) (LB++pR bq kp bm true es ck C) (L2 kp K0 S0 U ord ah bq bm LB K S made (QF t v (S0 r)))
def rh(b1 fi fm b3 oR:Nat):Value:=.func (.func 278) #[] #[ptr b1,ptr fi,ptr fm,ptr b3,ptr oR]
def Qg(K0:Kd)(F:Nat→aE.Fn)(S:Nat→aE.Fn)(made:List Nat)(ok:Bool)(es:Array MapEntry)(ck:Nat):Prop:=
 ∃m:List (Nat×Nat),aR (kN .u32) F8 es ck m∧(ok=true→∀y∈m,S y.2=F y.1∧(live K0.N y.2∨y.2∈made))
theorem Qg.more{F:Nat→aE.Fn}{K K':Kd}{S S':Nat→aE.Fn}{made made':List Nat}{es rZ:Array MapEntry}{ck r4:Nat}{C:Hp}{ok jX:Bool}(hq:sI kp K0 S0 U ord ah K S made es ck C ok)(h:Qg K0 F S made ok rZ r4)(ha:ye K S made K' S' made')(hok:jX=true→ok=true):Qg K0 F S' made' jX rZ r4:=by
 obtain⟨m,h1,h2⟩:=h
 refine⟨m,h1,fun h y hy=>?_⟩
 obtain⟨a,b⟩:=h2 (hok h) y hy
 exact⟨by rw[ha.fn _ (hq.qE b),a],b.imp id (ha.mem _)⟩
abbrev U7(b1 b3 fi fm oR bd lvl:Nat)(fv:Value)(LB:Hp)(bq kp bm:Nat)(ok:Bool)(FQ:Array MapEntry)(FR:Nat)(es:Array MapEntry)(ck:Nat)(C:Hp):Hp:=
 (oR,.cells #[rh b1 fi fm b3 oR] 352 (0,0))::(fm,.cells #[.map (some bd)] 351 (0,0))::(bd,.map FQ FR)::(fi,.cells #[.int .i64 (lvl:Int)] 3 (0,0))::(b3,.cells #[fv] 289 (0,0))::(b1,.cells #[ptr bq] 344 (0,0))::(LB++pR bq kp bm ok es ck C)
def aab(kp:Nat)(K0:Kd)(S0:Nat→aE.Fn)(U:aE.Fn→Prop)(ord ah:List Nat)(t:Bool→Bool→Bool)(v b1 b3 fi fm oR bd:Nat)(fv:Value)(LB:Hp)(bq bm:Nat)(K:Kd)(S:Nat→aE.Fn)(made:List Nat)(ok:Bool)(f:aE.Fn)(w:Value)(H:Hp):Prop:=
 ∃x K' S' made' es' cu C' jX Py PA,w=u32 x∧H=U7 b1 b3 fi fm oR bd (lv ah v) fv LB bq kp bm jX Py PA es' cu C'∧sI kp K0 S0 U ord ah K' S' made' es' cu C' jX∧Qg K0 (fun r=>QF t v (S0 r)) S' made' jX Py PA∧ye K S made K' S' made'∧
  (jX=true→ok=true∧S' x=f∧(live K0.N x∨x∈made'))
variable {b1 b3 fi fm oR bd:Nat} {fv:Value} {LB:Hp} {t:Bool→Bool→Bool} {v:Nat}
set_option maxHeartbeats 2000000 in
theorem IA(fx:bh Tryz.prog 278=true)(U1:Dw kp K0 S0 U ord ah bq bm t v fv LB)(ht:∀a,t a a=a)(hv:v<K0.n)(iP:WF K0.n (lv ah) K0.N)(l6:Interp K0.N S0)(iH:jn K0.n (lv ah))(iF:aE.Ord K0.n (lv ah) ord)(hf:∀s,K0.hold s+1<65535):
  ∀(k r:Nat),K0.n-dep K0.n (lv ah) K0.N r=k→∀(K:Kd) (S:Nat→aE.Fn) (made:List Nat) (es:Array MapEntry) (ck:Nat) (C:Hp) (ok:Bool) (FQ:Array MapEntry) (FR:Nat),
  live K0.N r→sI kp K0 S0 U ord ah K S made es ck C ok→Qg K0 (fun r=>QF t v (S0 r)) S made ok FQ FR→(∀g,aM K0.n ord (fun g=>g=QF t v (S0 r)) g→U g)→
  Fc Tryz.prog 278 #[u32 r,ptr b1,ptr fi,ptr fm,ptr b3,ptr oR] (U7 b1 b3 fi fm oR bd (lv ah v) fv LB bq kp bm ok FQ FR es ck C) (aab kp K0 S0 U ord ah t v b1 b3 fi fm oR bd fv LB bq bm K S made ok (QF t v (S0 r))):=by
 have hc0:∀r,r<2→K0.N r=none:=fun r hr=>iP.const hr
 intro k
 induction k using Nat.strongRecOn with
 |ind k ih=>
 intro r hk K S made es ck C ok FQ FR hr hS hD hU g
 have hK:=hS.ks
 have CV:∀r,r<2→K.N r=none:=fun r hr=>hK.ok.wf.const hr
 have eN:=hS.cH.n
 have lr:=hS.cH.live hr
 refine z8 (R:=az _) ?_
 unfold L278
 refine Ld.mk (v:=ptr bq) (by exact .tail _ (.tail _ (.tail _ (.tail _ (.tail _ (.head _)))))) rfl ?_
 refine ag.rd (.cons (.cons (.cons (.cons (.cons (.cons (.app .here))))))) (yM (bm:=bm) (ok:=ok) (es:=es) (ck:=ck) hK lr) ?_
 rintro w rfl
 refine Ext.mk rfl (Ext.mk rfl ?_)
 intro b6 _
 refine St.whole (r:=got K.N r) (by exact .head _) rfl (aJ _ _).1 (aJ _ _).2 ?_
 rw[kR hS.cH.N hc0 CV hr,eN,q8 hS.cH.N CV hc0 hr]
 refine Ld.mk (v:=.int .i64 ((lv ah v:Nat):Int)) (by exact .tail _ (.tail _ (.tail _ (.tail _ (.head _))))) rfl ?_
 refine ae.nP ?_
 refine cw.or (!ok) (fun _=>?_) (by simp) fun gs=>?_
 ·refine Ld.mk (v:=ptr bq) (by exact .tail _ (.tail _ (.tail _ (.tail _ (.tail _ (.tail _ (.head _))))))) rfl ?_
  refine Nil.ptr (aa.mk (Ld.mk (v:=.int .i64 (if ok then 0 else 9)) (by exact .tail _ (.tail _ (.tail _ (.tail _ (.tail _ (.tail _ (.tail _ (List.mem_append_right _ (.head _))))))))) rfl ?_))
  exact ae.c7 ⟨rfl,by cases ok<;>rfl⟩
 refine Br.mk (fun hb=>?_) (fun hb=>?_)
 ·-- deeper, or an error before
  refine az.mk .tail ⟨r,K,S,made,es,ck,C,ok,FQ,FR,rfl,rfl,hS,hD,.refl,fun h=>⟨h,?_,.inl hr⟩⟩
  rw[h]at hb
  simp only[Bool.not_true,Bool.or_false,decide_eq_true_eq]at hb
  rw[hS.cH.fn r hr]
  refine(L4 ht ?_).symm
  rintro⟨x,hx⟩
  apply hx
  rw[iP.bO iH l6 hr hv hb x false,iP.bO iH l6 hr hv hb x true]
 simp only[Bool.or_eq_false_iff,decide_eq_false_iff_not,Bool.not_eq_false',Nat.not_lt]at hb
 obtain⟨uU,rfl⟩:=hb
 obtain⟨m,hE,hkn⟩:=hD
 refine Ld.mk (v:=.map (some bd)) (by exact .tail _ (.tail _ (.head _))) rfl ?_
 have sA:(bd,Obj.map FQ FR)∈(b6,Obj.cells (got K0.N r).toArray 161 (0,0))::U7 b1 b3 fi fm oR bd (lv ah v) fv LB bq kp bm true FQ FR es ck C:=.tail _ (.tail _ (.tail _ (.head _)))
 have hlv:=iH.lt v hv
 obtain⟨d,hd⟩:∃d,K0.N r=some d:=by
  cases e:K0.N r with
  |none=>rw[aT e]at uU;omega
  |some d=>exact⟨d,rfl⟩
 have ed:=av (n:=K0.n) (ah:=lv ah) hd
 have h2:=iP.two hd
 have nN:=iP.var hd
 cases hg:dK m r with
 |some x=>
  refine aR.hit (k:=r) gu hE sA hg ?_
  rintro w rfl
  obtain⟨g1,g2⟩:=hkn rfl _ ((e9 hE.nd).1 hg)
  refine Ext.mk rfl (Ext.mk rfl (Br.yes ?_))
  exact az.mk .tail ⟨x,K,S,made,es,ck,C,true,FQ,FR,rfl,rfl,hS,⟨m,hE,hkn⟩,.refl,fun h=>⟨h,g1,g2⟩⟩
 |none=>
 refine aR.Ob (k:=r) gu hE sA hg ?_
 refine Ext.mk rfl (Ext.mk rfl (Br.no ?_))
 rw[cY hd h2]
 intro J hJ
 have fin:∀(x3:Nat) K3 S3 gg tI x9 C3 x5 Pw Pz,sI kp K0 S0 U ord ah K3 S3 gg tI x9 C3 x5→Qg K0 (fun r=>QF t v (S0 r)) S3 gg x5 Pw Pz→ye K S made K3 S3 gg→(x5=true→S3 x3=QF t v (S0 r)∧(live K0.N x3∨x3∈gg))→
   J [u32 x3] ((b6,.cells (aV d).toArray 161 (0,0))::U7 b1 b3 fi fm oR bd (lv ah v) fv LB bq kp bm x5 Pw Pz tI x9 C3):=by
  intro x3 K3 S3 gg tI x9 C3 x5 Pw Pz Pf hD3 r5 Eo
  refine hJ _ _ fun gs=>?_
  refine Ld.mk (v:=.map (some bd)) (by exact .tail _ (.tail _ (.head _))) rfl ?_
  obtain⟨m3,MU,OV⟩:=hD3
  refine aR.bT (k:=r) (x:=x3) gu Cu MU rfl fun es' cu he=>⟨_,.tail (.tail (.tail (.head _))),?_⟩
  refine az.mk .tail ⟨x3,K3,S3,gg,tI,x9,C3,x5,es',cu,rfl,rfl,Pf,⟨_,he,fun h y hy=>(nC hy).elim (fun e1=>?_) (fun hy=>OV h y hy)⟩,r5,fun h=>⟨rfl,Eo h⟩⟩
  rw[e1];exact Eo h
 have hD0:Qg K0 (fun r=>QF t v (S0 r)) S made true FQ FR:=⟨m,hE,hkn⟩
 refine Ld.mk (v:=.int .i64 ((lv ah v:Nat):Int)) (by exact .tail _ (.tail _ (.tail _ (.tail _ (.head _))))) rfl ?_
 refine ae.fO (Br.dec (fun hl=>?_) (fun hl=>?_))
 ·-- at the variable
  have ev:d.v=v:=iH.inj _ _ nN hv (by omega)
  obtain⟨f,first,cap,rfl,K8,Sh⟩:=U1
  refine Ld.mk (v:=.func (.func f) first cap) (by exact .tail _ (.tail _ (.tail _ (.tail _ (.tail _ (.head _)))))) rfl ?_
  refine aC.whole (r:=aV d) (by exact .head _) rfl ?_
  refine cg.of rfl K8 ?_
  refine ag.fn (C:=LB++pR bq kp bm true es ck C) (.cons (.cons (.cons (.cons (.cons (.cons (.cons .here))))))) (Sh r d hd ev K S made es ck C hS hU) ?_
  rintro w H ⟨x,K',S',made',es',cu,C',jX,rfl,rfl,Li,hA,ho⟩
  exact JE.mk (fin x K' S' made' es' cu C' jX FQ FR Li (hD0.more hS hA (fun _=>rfl)) hA ho)
 ·-- above it
  have Xu:lv ah d.v<lv ah v:=by omega
  have hne:d.v≠v:=fun e=>by rw[e]at Xu;omega
  obtain⟨g1,g2,g3⟩:=gw (S:=S0) iP iH l6 hr nN (by omega) false
  obtain⟨t1,t2,t3⟩:=gw (S:=S0) iP iH l6 hr nN (by omega) true
  obtain⟨q1,q2⟩:=p6 (N:=K0.N) hd
  rw[q1]at g1 g2 g3
  rw[q2]at t1 t2 t3
  have fV:=iH.lt d.v nN
  have En:=iF.of iH nN
  have oG:∀j,j<lv ah d.v→¬cR (QF t v (S0 r)) (ord.getD j 0):=fun j hj=>Jc (Hs iP iH l6 iF hr (Nat.le_of_lt fV) (by omega) j hj)
  have eF:QF t v (S0 d.lo)=fun x=>QF t v (S0 r) (aD.aI x d.v false):=by rw[←Jd hne];congr 1;exact funext g1
  have eT:QF t v (S0 d.hi)=fun x=>QF t v (S0 r) (aD.aI x d.v true):=by rw[←Jd hne];congr 1;exact funext t1
  obtain⟨i1,GF⟩:=gB (n:=K0.n) (ord:=ord) (c:=QF t v (S0 d.lo)) oG (b:=false) (by rw[En];exact eF)
  obtain⟨i2,GD⟩:=gB (n:=K0.n) (ord:=ord) (c:=QF t v (S0 d.hi)) oG (b:=true) (by rw[En];exact eT)
  refine Ld.mk (v:=rh b1 fi fm b3 oR) (by exact .tail _ (.head _)) rfl ?_
  refine aa.mk (Ld.mk (v:=u32 d.lo) (by exact .head _) rfl ?_)
  refine cg.of rfl fx ?_
  refine ag.fn (args:=#[u32 d.lo,ptr b1,ptr fi,ptr fm,ptr b3,ptr oR]) (.cons .here) (ih _ (by omega) d.lo rfl K S made es ck C true FQ FR g2 hS hD0 (fun g hg=>hU g (GF g hg))) ?_
  rintro w H ⟨x1,K1,S1,tq,Iy,Df,C1,WB,YT,YV,rfl,rfl,x7,hD1,MX,CD⟩
  refine DR.of (R:=[(b6,.cells (aV d).toArray 161 (0,0)),(oR,.cells #[rh b1 fi fm b3 oR] 352 (0,0)),(b1,.cells #[ptr bq] 344 (0,0))]) (.cons (.cons (.skip (.skip (.skip (.skip (aU.left (A:=[_])))))))) ?_
  refine Ld.mk (v:=ptr bq) (by exact .tail _ (.tail _ (.head _))) rfl ?_
  refine aa.mk (Ld.mk (v:=.int .i64 (d.v:Int)) (by exact .head _) rfl ?_)
  refine Ld.mk (v:=rh b1 fi fm b3 oR) (by exact .tail _ (.head _)) rfl ?_
  refine aa.mk (Ld.mk (v:=u32 d.hi) (by exact .head _) rfl ?_)
  refine cg.of rfl fx ?_
  refine ag.fn (args:=#[u32 d.hi,ptr b1,ptr fi,ptr fm,ptr b3,ptr oR]) (.cons .here) (ih _ (by omega) d.hi rfl K1 S1 tq Iy Df C1 WB YT YV t2 x7 hD1 (fun g hg=>hU g (GD g hg))) ?_
  rintro w H ⟨x2,K2,S2,fc,LG,PB,C2,Uy,Tz,TC,rfl,rfl,ji,hD2,oI,CC⟩
  refine⟨.cons (.cons (.skip (.skip (.skip (.skip (aU.left (A:=[_]))))))),?_⟩
  have uX:=MX.trans oI
  cases Uy with
  |false=>
   refine ag.rd (args:=#[ptr bq,.int .i64 (d.v:Int),u32 x1,u32 x2]) (.cons (.cons (.cons (.cons (.cons (.cons (.cons (.app .here)))))))) (s8 (kp:=kp) (bm:=bm) _ _ _ _) ?_
   rintro w rfl
   refine⟨.cons (.cons (.skip (.skip (.skip (.skip (aU.left (A:=[_]))))))),?_⟩
   exact JE.mk (fin 0 K2 S2 fc LG PB C2 false Tz TC ji hD2 uX (fun h=>by cases h))
  |true=>
   obtain⟨NZ,e2,m2⟩:=CC rfl
   obtain⟨_,e1,m1⟩:=CD NZ
   have Ot:=x7.qE m1
   have l1:live K2.N x1:=cA oI.N Ot
   have l2:=ji.qE m2
   have LI:S2 x1=QF t v (S0 d.lo):=(oI.fn x1 Ot).trans e1
   have de:=ji.ks
   have n2:=ji.cH.n
   have b1':=de.ok.below de.od (l:=lv ah d.v+1) l1 (by omega) (by rw[LI];exact i1)
   have b2':=de.ok.below de.od (l:=lv ah d.v+1) l2 (by omega) (by rw[e2];exact i2)
   have pF:ite S2 ⟨d.v,x1,x2⟩=QF t v (S0 r):=by
    funext x
    unfold aE.ite
    rw[LI,e2,eF,eT]
    conv=>rhs;rw[←aD.iW x d.v]
    simp only
    cases x.testBit d.v<;>rfl
   have jg:x1≠x2→U (ite S2 ⟨d.v,x1,x2⟩):=fun hx=>by
    have tC:cR (QF t v (S0 r)) (ord.getD (lv ah d.v) 0):=by
     rw[En]
     refine Classical.byContradiction fun hno=>hx ?_
     refine de.ok.wf.same de.ok.lv de.ok.mid.int l1 l2 fun x=>?_
     rw[LI,e2,eF,eT]
     exact(bU hno x false).trans (bU hno x true).symm
    rw[pF]
    exact hU _ (lE oG fV tC)
   refine ag.fn (args:=#[ptr bq,.int .i64 (d.v:Int),u32 x1,u32 x2]) (.cons (.cons (.cons (.cons (.cons (.cons (.cons (.app .here)))))))) (wh ji (by rw[n2];exact nN) l1 l2 ⟨by omega,by omega⟩ (by rw[pF];exact hU) jg hf) ?_
   rintro w H ⟨r3,K3,S3,gg,tI,x9,C3,x5,rfl,rfl,Pf,r5,Eo⟩
   refine⟨.cons (.cons (.skip (.skip (.skip (.skip (aU.left (A:=[_]))))))),?_⟩
   exact JE.mk (fin r3 K3 S3 gg tI x9 C3 x5 Tz TC Pf (hD2.more ji r5 (fun _=>rfl)) (uX.trans r5) (fun h=>⟨by rw[(Eo h).1,pF],(Eo h).2.imp .inl id⟩))
end
end Go.Proofs
set_option maxRecDepth 100000
namespace Go.Proofs
open Go Go.Sx
open aE
def Og(es:Array MapEntry)(l:List Nat):List Value→Hp→Nat:=fun _ H=>match H with
 |(_,.mapIter _ _ seen _)::_=>(cq es (vG l) seen).length
 |_=>0
structure Let(K K':Kd)(l:List Nat):Prop where
 n:K'.n=K.n
 cap:K'.cap=K.cap
 N:∀s d,K'.N s=some d→K.N s=some d
 hold:∀s,K'.hold s+l.count s=K.hold s
section
variable {kp bq bm:Nat} {K0:Kd} {S0:Nat→aE.Fn} {U:aE.Fn→Prop} {ord ah:List Nat}
theorem Cd{g:Gh}{K:Kd}{S:Nat→aE.Fn}{l:List Nat}{es:Array MapEntry}{ck b9 b1:Nat}{ok:Bool}{C LB:Hp}(hK:cF kp K S ord ah [] C)(hE:aR (kN .u32) Vk es ck (vG l))(hc:∀s,l.count s≤K.hold s)(h2:∀s∈l,2≤s)(Lr:∀s∈l,s<4294967296){Kc:Hp→Prop}
 (hk:∀K' C' bi it,cF kp K' S ord ah [] C'→Let K K' l→Kc ((bi,it)::(b9,.cells #[ptr bq] 344 (0,0))::(b1,.cells #[ptr kp] 26 (0,0))::(LB++pR bq kp bm ok es ck C'))):
  j6 Tryz.prog g 277 #[ptr b9,ptr b1] ((b9,.cells #[ptr bq] 344 (0,0))::(b1,.cells #[ptr kp] 26 (0,0))::(LB++pR bq kp bm ok es ck C)) Kc:=by
 refine xN (R:=_) ?_
 unfold L277
 refine Ld.mk (v:=ptr bq) (by exact .head _) rfl ?_
 refine Nil.ptr (aa.mk (Ld.mk (v:=.map (some bm)) (by exact .tail _ (.tail _ (List.mem_append_right _ (.head _)))) rfl ?_))
 refine .inr ⟨bm,es,ck,rfl,.tail _ (.tail _ (List.mem_append_right _ (.tail _ (.head _)))),fun bi _=>?_⟩
 refine⟨fun _ H=>∃(done:List Nat) (K':Kd) (C':Hp) (seen:Array Nat),H=(bi,.mapIter (some bm) ck seen ck)::(b9,.cells #[ptr bq] 344 (0,0))::(b1,.cells #[ptr kp] 26 (0,0))::(LB++pR bq kp bm ok es ck C')∧
   cF kp K' S ord ah [] C'∧Let K K' done∧(done++(cq es (vG l) seen).map Prod.fst).Perm l,Og es l,JE.mk ⟨[],K,C,#[],rfl,hK,⟨rfl,rfl,fun _ _ h=>h,fun s=>by simp⟩,by rw[mG hE,nD];exact .refl _⟩,?_⟩
 rintro H ⟨done,K',C',seen,rfl,gE,hl,hp⟩ gs
 refine aR.next (bi:=bi) (bm:=bm) (seen:=seen) hE (.tail _ (.tail _ (.tail _ (List.mem_append_right _ (.tail _ (.head _)))))) (.head _) (fun e x seen' he hkey hv FH UT XN=>⟨_,.head _,?_⟩) (fun hu=>?_)
 ·refine Ext.mk rfl (Br.yes ?_)
  refine⟨bi,bm,ck,seen',e.born,ck,es,e,rfl,.head _,UT,.tail _ (.tail _ (.tail _ (List.mem_append_right _ (.tail _ (.head _))))),XN,?_⟩
  refine Ext.mk rfl ?_
  refine Ld.mk (v:=ptr kp) (by exact .tail _ (.tail _ (.head _))) rfl ?_
  have hxl:x.1∈l:=by
   refine hp.mem_iff.1 (List.mem_append_right _ ?_)
   exact List.mem_map_of_mem (FH.mem_iff.2 (.head _))
  have CP:done.count x.1+1≤l.count x.1:=by
   rw[←hp.count_eq,List.count_append,(FH.map Prod.fst).count_eq,List.map_cons,List.count_cons_self];omega
  have hhx:K'.hold x.1≠0:=by
   have a:=hl.hold x.1
   have b:=hc x.1
   omega
  show ag Tryz.prog g 131 #[ptr kp,e.key] _ _ _
  rw[hkey]
  refine ag.fn (args:=#[ptr kp,u32 x.1]) (.cons (.cons (.cons (.app (.cons (.cons .here)))))) (nT gE (r:=x.1) (Lr _ hxl) (fun _=>hhx)) ?_
  rintro w C2 ⟨rfl,K2,de,f2⟩
  refine aF.mk ⟨done++[x.1],K2,C2,seen',rfl,de,⟨f2.n.trans hl.n,f2.cap.trans hl.cap,fun s d hd=>hl.N s d (f2.N s d hd),fun s=>?_⟩,?_⟩ ?_
  ·have a:=hl.hold s
   rw[f2.hold,List.count_append,List.count_singleton]
   by_cases e1:s=x.1
   ·subst e1
    have:=h2 _ hxl
    simp[this];omega
   ·have:(x.1==s)=false:=by simpa using fun e'=>e1 e'.symm
    simp[e1,this];exact a
  ·refine .trans ?_ hp
   rw[List.append_assoc]
   refine List.Perm.append_left _ ?_
   exact(FH.map Prod.fst).symm
  ·show(cq es (vG l) seen').length<(cq es (vG l) seen).length
   rw[FH.length_eq,List.length_cons];omega
 ·refine Ext.mk rfl (Br.no ?_)
  rw[hu,List.map_nil,List.append_nil]at hp
  refine⟨⟨_,rfl⟩,hk K' C' bi _ gE ⟨hl.n,hl.cap,hl.N,fun s=>?_⟩⟩
  rw[←hp.count_eq];exact hl.hold s
end
section
variable {kp:Nat} {K:Kd} {S:Nat→aE.Fn} {ord ah tr:List Nat} {C:Hp}
theorem Rr{α:Type}(a x y b:α)(L R:List α):(a::x::y::b::(L++R)).Perm (a::b::(L++x::y::R)):=by
 classical
 rw[List.perm_iff_count];intro z
 simp only[List.count_append,List.count_cons]
 omega
theorem D8{made:List Nat}{x:Nat}:mP (vG made) x=vG (made.filter fun r=>decide (¬r=x)):=by
 unfold mP vG
 induction made with
 |nil=>rfl
 |cons a l ih=>
  simp only[List.map_cons,List.filter_cons]
  by_cases h:a=x
  ·simp[h]at ih⊢;exact ih
  ·simp[h]at ih⊢;exact ih
def fH(kp:Nat)(K:Kd)(S:Nat→aE.Fn)(ord ah:List Nat)(LB:Hp)(f:aE.Fn)(w:Value)(H:Hp):Prop:=
 (∃x K' S' C',w=.tuple #[u32 x,.bool true,.int .i64 0]∧H=LB++C'∧cF kp K' S' ord ah [] C'∧oa K S K' S' f x)∨
 (w=.tuple #[u32 0,.bool false,.int .i64 9]∧(∃K' S' C',H=LB++C'∧cF kp K' S' ord ah [] C'∧Kept K S K' S')∧¬Fits (aM K.n ord (fun g=>K.held S g∨g=f)) K.cap)
theorem Cb(hK:cF kp K S ord ah tr C){f:aE.Fn}{LB:Hp}{fb:Value}(hf:∀s,K.hold s+1<65535)
 (hb:∀K1 C1,cF kp K1 S ord ah [] C1→L6 K K1 1→∃ff first cap,fb=.func (.func ff) first cap∧bh Tryz.prog ff=true∧∀bq bm,sI kp K1 S (aM K.n ord (fun g=>K.held S g∨g=f)) ord ah K1 S [] #[] 0 C1 true→
   Fc Tryz.prog ff (first++ #[ptr bq]++cap) (LB++pR bq kp bm true #[] 0 C1) (L2 kp K1 S (aM K.n ord (fun g=>K.held S g∨g=f)) ord ah bq bm LB K1 S [] f)):
  Fc Tryz.prog 268 #[ptr kp,fb] (LB++C) (fH kp K S ord ah LB f):=by
 intro g
 refine Af (R:=az _) ?_
 unfold L268
 intro b1 _
 refine Ld.mk (v:=ptr kp) (by exact .head _) rfl ?_
 intro bm _
 refine Build.mk (cs:=[ptr kp,.map (some bm),.int .i64 0]) (by kernel_rfl) ?_
 intro bq _ b9 _
 refine St.one (by exact .head _) rfl (by simp) rfl ?_
 refine Ld.mk (v:=ptr kp) (by exact .tail _ (.tail _ (.tail _ (.head _)))) rfl ?_
 refine ag.fn (args:=#[ptr kp,u32 1]) (.cons (.cons (.cons (.cons (.app .here))))) (nI hK (r:=1) (.inl (by omega)) (fun h=>by omega)) ?_
 rintro w C1 ⟨rfl,K1,eB,mo⟩
 have eU:∀s,K1.hold s=K.hold s:=fun s=>by rw[mo.hold,if_neg (by omega)]
 have SD:∀g,K1.held S g→K.held S g:=by
  rintro g ⟨s,hs,rfl⟩
  exact⟨s,by have:K1.hold s≠0:=hs;rwa [eU]at this,rfl⟩
 obtain⟨ff,first,cap,rfl,K8,hbody⟩:=hb K1 C1 eB mo
 refine Ld.mk (v:=ptr bq) (by exact .head _) rfl ?_
 refine cg.of rfl K8 ?_
 refine ag.pre (H':=(b9,.cells #[ptr bq] 344 (0,0))::(b1,.cells #[ptr kp] 26 (0,0))::(LB++pR bq kp bm true #[] 0 C1)) (.perm (Rr _ _ _ _ _ _)) ?_
 have JI:sI kp K1 S (aM K.n ord (fun g=>K.held S g∨g=f)) ord ah K1 S [] #[] 0 C1 true:=⟨eB,.refl fun g hg=>by rw[mo.n]at hg;exact bM (fun g h=>.inl (SD g h)) hg,aR.empty,fun h=>by cases h⟩
 refine ag.fn (C:=LB++pR bq kp bm true #[] 0 C1) (.cons (.cons .here)) (hbody bq bm JI) ?_
 rintro w H ⟨x,K2,S2,made,es,ck,C2,ok,rfl,rfl,ji,hA,ho⟩
 have de:=ji.ks
 have mm:=ji.cH
 have iO:=ji.nd
 have CQ:∀s,made.count s≤K2.hold s:=fun s=>by rw[mm.hold];omega
 have Lr:∀s∈made,s<4294967296:=fun s hs=>by have:=de.bY (mm.fB de hs);omega
 have CE:∀s,K.hold s≠0→live K.N s:=fun s hs=>.inr (hK.ok.mid.held s hs)
 have Yb:∀s d,K.N s=some d→K2.N s=some d:=fun s d hd=>mm.N s d (by rw[mo.N];exact hd)
 have hfn:∀s,live K.N s→S2 s=S s:=fun s hs=>mm.fn s (by rw[mo.N];exact hs)
 refine Ld.mk (v:=ptr bq) (by exact .head _) rfl ?_
 refine Nil.ptr (aa.mk (Ld.mk (v:=.int .i64 (if ok then 0 else 9)) (by exact .tail _ (.tail _ (List.mem_append_right _ (.head _)))) rfl ?_))
 cases ok with
 |false=>
  refine ae.c7 (Br.dS (by decide) ?_)
  refine Ld.mk (v:=ptr bq) (by exact .head _) rfl ?_
  refine Nil.ptr (aa.mk (Ld.mk (v:=.int .i64 9) (by exact .tail _ (.tail _ (List.mem_append_right _ (.head _)))) rfl ?_))
  refine Cd de ji.iQ CQ mm.two Lr fun K3 C3 bi it l5 hl=>?_
  have jh:∀s,K3.hold s=K.hold s:=fun s=>by
   have a:=hl.hold s
   have b:=mm.hold s
   rw[eU]at b
   omega
  refine az.mk (.skip (.skip (.skip (.dj (.skip .tail) _)))) (.inr ⟨rfl,⟨K3,S2,C3,rfl,l5,⟨by rw[hl.n,mm.n,mo.n],by rw[hl.cap,mm.cap,mo.cap],jh,fun g=>?_,fun r hr=>hfn r (CE r hr)⟩⟩,?_⟩)
  ·constructor
   ·rintro⟨s,hs,rfl⟩
    have hs':K.hold s≠0:=by rw[←jh];exact hs
    exact⟨s,hs',hfn s (CE s hs')⟩
   ·rintro⟨s,hs,rfl⟩
    exact⟨s,by show K3.hold s≠0;rw[jh];exact hs,(hfn s (CE s hs)).symm⟩
  ·have:=ji.bad rfl
   rw[mo.cap]at this;exact this
 |true=>
  obtain⟨hx,RK⟩:=ho rfl
  refine ae.c7 (Br.aX (by decide) ?_)
  refine Ld.mk (v:=ptr bq) (by exact .head _) rfl ?_
  refine Nil.ptr (aa.mk (Ld.mk (v:=.map (some bm)) (by exact .tail _ (.tail _ (List.mem_append_right _ (.head _)))) rfl ?_))
  have fin:∀(K3:Kd) (l:List Nat) (tI:Array MapEntry) (C3:Hp),cF kp K3 S2 ord ah [] C3→(∀s d,K3.N s=some d→K2.N s=some d)→K3.n=K2.n→K3.cap=K2.cap→aR (kN .u32) Vk tI ck (vG l)→(∀s∈l,s∈made)→(∀s,K3.hold s=K.hold s+l.count s+if s=x∧2≤x then 1 else 0)→
    j6 Tryz.prog g 277 #[ptr b9,ptr b1] ((b9,.cells #[ptr bq] 344 (0,0))::(b1,.cells #[ptr kp] 26 (0,0))::(LB++pR bq kp bm true tI ck C3)) fun H=>az (fH kp K S ord ah LB f) (.returned (.tuple #[u32 x,.bool true,.int .i64 0])) H:=by
   intro K3 l tI C3 l5 S9 UK QB MU UL JC
   refine Cd l5 MU (fun s=>by rw[JC];omega) (fun s hs=>mm.two s (UL s hs)) (fun s hs=>Lr s (UL s hs)) fun K4 C4 bi it Ic hl=>?_
   have nJ:∀s,K4.hold s=K.hold s+if s=x∧2≤x then 1 else 0:=fun s=>by
    have a:=hl.hold s
    rw[JC]at a
    omega
   have JA:live K4.N x:=by
    by_cases h2:x<2
    ·exact .inl h2
    ·refine .inr (Ic.ok.mid.held x ?_)
     rw[nJ,if_pos ⟨rfl,by omega⟩];omega
   refine az.mk (.skip (.skip (.skip (.dj (.skip .tail) _)))) (.inl ⟨x,K4,S2,C4,rfl,rfl,Ic,⟨by rw[hl.n,UK,mm.n,mo.n],by rw[hl.cap,QB,mm.cap,mo.cap],fun s d hs=>gP hK.ok Ic.ok (fun s h=>by rw[nJ];omega) (fun s d d' h h'=>?_) _ s d hs (Nat.le_refl _),hfn,JA,hx,nJ⟩⟩)
   have a:=S9 s d' (hl.N s d' h')
   rw[Yb s d h]at a;exact(Option.some.inj a).symm
  by_cases hm:x∈made
  ·refine aR.hit (k:=x) (x:=()) gu ji.iQ (.tail _ (.tail _ (List.mem_append_right _ (.tail _ (.head _))))) (lI.1 hm) ?_
   rintro v rfl
   refine ae.gtr (Br.dS (by decide) ?_)
   refine Ld.mk (v:=ptr bq) (by exact .head _) rfl ?_
   refine Nil.ptr (aa.mk (Ld.mk (v:=.map (some bm)) (by exact .tail _ (.tail _ (List.mem_append_right _ (.head _)))) rfl ?_))
   refine aR.del (k:=x) gu ji.iQ (.tail _ (.tail _ (List.mem_append_right _ (.tail _ (.head _))))) fun es' he=>⟨_,.tail (.tail ((dH.tail (.head _)).dD LB)),?_⟩
   rw[D8]at he
   refine fin K2 _ es' C2 de (fun _ _ h=>h) rfl rfl he (fun s hs=>(List.mem_filter.1 hs).1) fun s=>?_
   rw[mm.hold,eU]
   have h2x:=mm.two x hm
   by_cases e1:s=x
   ·subst e1
    have c1:made.count s=1:=by rw[iO.count,if_pos hm]
    have c2:(made.filter fun r=>decide (¬r=s)).count s=0:=List.count_eq_zero.2 (by simp)
    rw[c1,c2,if_pos ⟨rfl,h2x⟩]
   ·have:(made.filter fun r=>decide (¬r=x)).count s=made.count s:=List.count_filter (by simpa using e1)
    rw[this,if_neg (fun h=>e1 h.1)];rfl
  ·refine aR.Ob (k:=x) gu ji.iQ (.tail _ (.tail _ (List.mem_append_right _ (.tail _ (.head _))))) (lI.2 hm) ?_
   refine ae.gtr (Br.aX (by decide) ?_)
   refine Ld.mk (v:=ptr kp) (by exact .tail _ (.head _)) rfl ?_
   have JA:live K2.N x:=ji.qE RK
   have CP:K2.hold x<65535:=by
    rw[mm.hold,eU,List.count_eq_zero.2 hm]
    have:=hf x;omega
   refine ag.fn (args:=#[ptr kp,u32 x]) (.cons (.cons (.app (.cons (.cons .here))))) (nI de (r:=x) JA (fun _=>CP)) ?_
   rintro w C3 ⟨rfl,K3,l5,m3⟩
   refine ae.jt ?_
   rw[show decide ((0:Int)=0)=true from rfl]
   refine fin K3 made es C3 l5 (fun s d h=>by rw[←m3.N];exact h) m3.n m3.cap ji.iQ (fun _ h=>h) fun s=>?_
   rw[m3.hold,mm.hold,eU]
   split<;>omega
end
end Go.Proofs
set_option maxRecDepth 100000
namespace Go.Proofs
open Go Go.Sx
open aE
section
variable {kp bq bm:Nat} {K0:Kd} {S0:Nat→aE.Fn} {U:aE.Fn→Prop} {ord ah:List Nat}
theorem Dc{t:Bool→Bool→Bool}{v r:Nat}{fv:Value}{LB:Hp}(U1:Dw kp K0 S0 U ord ah bq bm t v fv LB)(ht:∀a,t a a=a)(hv:v<K0.n)(iP:WF K0.n (lv ah) K0.N)(l6:Interp K0.N S0)(iH:jn K0.n (lv ah))(iF:aE.Ord K0.n (lv ah) ord)(hf:∀s,K0.hold s+1<65535)
 {K:Kd}{S:Nat→aE.Fn}{made:List Nat}{es:Array MapEntry}{ck:Nat}{C:Hp}(hr:live K0.N r)(hS:sI kp K0 S0 U ord ah K S made es ck C true)(hU:∀g,aM K0.n ord (fun g=>g=QF t v (S0 r)) g→U g):
  Fc Tryz.prog 270 #[ptr bq,u32 r,.int .i64 (v:Int),fv] (LB++pR bq kp bm true es ck C) (L2 kp K0 S0 U ord ah bq bm LB K S made (QF t v (S0 r))):=by
 have fx:bh Tryz.prog 278=true:=by kernel_rfl
 have Yc:=U1
 obtain⟨f0,YN,aeV,HO,_⟩:=Yc
 have hn:=hS.cH.n
 intro g
 refine Ad (R:=az _) ?_
 unfold L270
 intro b1 _ b3 _
 refine Ld.mk (v:=ptr bq) (by exact .tail _ (.head _)) rfl ?_
 refine Nil.ptr (aa.mk (Ld.mk (v:=ptr kp) (by exact .tail _ (.tail _ (List.mem_append_right _ (.head _)))) rfl ?_))
 refine ag.rd (.cons (.cons (.app (.cons (.cons .here))))) (lM hS.ks.rep (v:Int)) ?_
 rw[if_pos (by omega)]
 rintro w rfl
 refine Ext.mk rfl (Ext.mk rfl ?_)
 intro fi _
 refine St.one (by exact .head _) rfl (by simp) rfl ?_
 intro bd _ fm _
 refine St.one (by exact .head _) rfl (by simp) rfl ?_
 intro oR _
 refine St.one (by exact .head _) rfl (by simp) rfl ?_
 refine Ld.mk (v:=rh b1 fi fm b3 oR) (by exact .head _) rfl ?_
 refine cg.of rfl fx ?_
 subst HO
 refine ag.fn (args:=#[u32 r,ptr b1,ptr fi,ptr fm,ptr b3,ptr oR]) .here (IA (b1:=b1) (b3:=b3) (fi:=fi) (fm:=fm) (oR:=oR) (bd:=bd) fx U1 ht hv iP l6 iH iF hf _ r rfl K S made es ck C true #[] 0 hr hS ⟨[],aR.empty,fun _ y hy=>by cases hy⟩ hU) ?_
 rintro w H ⟨x,K',S',made',es',cu,C',jX,Py,PA,rfl,rfl,Li,_,hA,ho⟩
 exact az.mk (.skip (.skip (.skip (.skip (.skip .tail))))) ⟨x,K',S',made',es',cu,C',jX,rfl,rfl,Li,hA,fun h=>(ho h).2⟩
abbrev IP(b5:Nat)(b:Bool):Nat×Obj:=(b5,.cells #[.bool b] 4 (0,0))
theorem yI{v b5:Nat}{b:Bool}{LB:Hp}(iP:WF K0.n (lv ah) K0.N)(l6:Interp K0.N S0)(iH:jn K0.n (lv ah))(hm:IP b5 b∈LB):Dw kp K0 S0 U ord ah bq bm (fun x y=>if b then y else x) v (.func (.func 271) #[] #[ptr b5]) LB:=by
 refine⟨_,_,_,rfl,by kernel_rfl,fun r d hd nN K S made es ck C hS hU=>?_⟩
 have hr:live K0.N r:=.inr ⟨d,hd⟩
 have HQ:=iP.var hd
 obtain⟨g1,g2,g3⟩:=gw (S:=S0) iP iH l6 hr HQ (by rw[av hd];exact Nat.le_refl _) false
 obtain⟨t1,t2,t3⟩:=gw (S:=S0) iP iH l6 hr HQ (by rw[av hd];exact Nat.le_refl _) true
 obtain⟨q1,q2⟩:=p6 (N:=K0.N) hd
 rw[q1]at g1 g2 g3
 rw[q2]at t1 t2 t3
 subst nN
 intro g
 refine Ac (R:=az _) ?_
 unfold L271
 intro b1 _
 refine Ld.mk (v:=.bool b) (by exact .tail _ (List.mem_append_left _ hm)) rfl ?_
 refine Br.mk (fun hb=>?_) (fun hb=>?_)
 ·subst hb
  refine aa.mk (Ld.mk (v:=u32 d.hi) (by exact .head _) rfl ?_)
  refine az.mk .tail ⟨d.hi,K,S,made,es,ck,C,true,rfl,rfl,hS,.refl,fun _=>⟨?_,.inl t2⟩⟩
  rw[hS.cH.fn _ t2]
  exact funext t1
 ·subst hb
  refine aa.mk (Ld.mk (v:=u32 d.lo) (by exact .head _) rfl ?_)
  refine az.mk .tail ⟨d.lo,K,S,made,es,ck,C,true,rfl,rfl,hS,.refl,fun _=>⟨?_,.inl g2⟩⟩
  rw[hS.cH.fn _ g2]
  exact funext g1
theorem xD{v b1 b5:Nat}{e:Bool}{LB:Hp}(iP:WF K0.n (lv ah) K0.N)(l6:Interp K0.N S0)(iH:jn K0.n (lv ah))(iF:aE.Ord K0.n (lv ah) ord)(hf:∀s,K0.hold s+1<65535)(hm:IP b5 e∈LB)(h1:(b1,Obj.cells #[ptr bq] 344 (0,0))∈LB):
  Dw kp K0 S0 U ord ah bq bm (fun x y=>if e then x||y else x&&y) v (.func (.func 282) #[] #[ptr b1,ptr b5]) LB:=by
 refine⟨_,_,_,rfl,by kernel_rfl,fun r d hd nN K S made es ck C hS hU=>?_⟩
 have hr:live K0.N r:=.inr ⟨d,hd⟩
 have HQ:=iP.var hd
 obtain⟨g1,g2,g3⟩:=gw (S:=S0) iP iH l6 hr HQ (by rw[av hd];exact Nat.le_refl _) false
 obtain⟨t1,t2,t3⟩:=gw (S:=S0) iP iH l6 hr HQ (by rw[av hd];exact Nat.le_refl _) true
 obtain⟨q1,q2⟩:=p6 (N:=K0.N) hd
 rw[q1]at g1 g2 g3
 rw[q2]at t1 t2 t3
 subst nN
 have eq:QF (fun x y=>if e then x||y else x&&y) d.v (S0 r)=jf e S0 d.lo d.hi:=by
  funext x
  rw[oC,g1,t1];rfl
 rw[eq]at hU⊢
 intro g
 refine zZ (R:=az _) ?_
 unfold L282
 intro b _
 refine Ld.mk (v:=ptr bq) (by exact .tail _ (List.mem_append_left _ h1)) rfl ?_
 refine aa.mk (Ld.mk (v:=u32 d.lo) (by exact .head _) rfl ?_)
 refine aa.mk (Ld.mk (v:=u32 d.hi) (by exact .head _) rfl ?_)
 refine Ld.mk (v:=.bool e) (by exact .tail _ (List.mem_append_left _ hm)) rfl ?_
 refine ag.fn (args:=#[ptr bq,u32 d.lo,u32 d.hi,.bool e]) (C:=pR bq kp bm true es ck C) (.cons (.app .here)) (KQ iP l6 iH iF hf g2 t2 hS hU) ?_
 rintro w H ⟨x,K',S',made',es',cu,C',jX,rfl,rfl,Li,hA,ho⟩
 exact az.mk .tail ⟨x,K',S',made',es',cu,C',jX,rfl,rfl,Li,hA,ho⟩
end
section
variable {kp:Nat} {K:Kd} {S:Nat→aE.Fn} {ord ah tr:List Nat} {C:Hp}
abbrev Ux(b5 b3 b1:Nat)(b:Bool)(v r:Nat):Hp:=[IP b5 b,(b3,.cells #[.int .i64 (v:Int)] 3 (0,0)),(b1,.cells #[u32 r] 77 (0,0))]
theorem fH.three{LB:Hp}{f:aE.Fn}{w:Value}{H:Hp}(h:fH kp K S ord ah LB f w H):∃x b e,w=.tuple #[x,b,e]:=by
 rcases h with⟨x,K',S',C',rfl,_⟩|⟨rfl,_⟩
 ·exact⟨_,_,_,rfl⟩
 ·exact⟨_,_,_,rfl⟩
theorem fH.drop{LB:Hp}{f:aE.Fn}{w:Value}{H:Hp}(h:fH kp K S ord ah LB f w H):∃C',aU H C'∧fH kp K S ord ah [] f w C':=by
 rcases h with⟨x,K',S',C',rfl,rfl,gE,hg⟩|⟨rfl,⟨K',S',C',rfl,gE,hk⟩,hn⟩
 ·exact⟨C',.right,.inl ⟨x,K',S',C',rfl,rfl,gE,hg⟩⟩
 ·exact⟨C',.right,.inr ⟨rfl,⟨K',S',C',rfl,gE,hk⟩,hn⟩⟩
theorem az.drop{LB:Hp}{f:aE.Fn}{w:Value}{H:Hp}(h:fH kp K S ord ah LB f w H):az (fH kp K S ord ah [] f) (.returned w) H:=by
 obtain⟨C',h1,h2⟩:=h.drop
 exact az.mk h1 h2
theorem kD(hK:cF kp K S ord ah tr C){r v:Nat}{b:Bool}(hr:live K.N r)(hv:v<K.n)(hf:∀s,K.hold s+1<65535):
  Fc Tryz.prog 248 #[ptr kp,u32 r,.int .i64 (v:Int),.bool b] C (fH kp K S ord ah [] (fun x=>S r (aD.aI x v b))):=by
 have eq:QF (fun x y=>if b then y else x) v (S r)=fun x=>S r (aD.aI x v b):=by
  funext x;unfold QF;cases b<;>rfl
 rw[←eq]
 intro g
 refine As (R:=az _) ?_
 unfold L248
 intro b1 _ b3 _ b5 _
 refine ag.fn (args:=#[ptr kp,.func (.func 269) #[] #[ptr b1,ptr b3,ptr b5]]) (C:=Ux b5 b3 b1 b v r++C) .here (Cb (f:=QF (fun x y=>if b then y else x) v (S r)) hK hf fun K1 C1 eB mo=>⟨_,_,_,rfl,by kernel_rfl,fun bq bm hQ=>?_⟩) ?_
 ·intro g
  refine Ae (R:=az _) ?_
  unfold L269
  refine Ld.mk (v:=u32 r) (by exact .tail _ (.tail _ (.head _))) rfl ?_
  refine Ld.mk (v:=.int .i64 (v:Int)) (by exact .tail _ (.head _)) rfl ?_
  have CB:live K1.N r:=by rw[mo.N];exact hr
  have eU:∀s,K1.hold s=K.hold s:=fun s=>by rw[mo.hold,if_neg (by omega)]
  refine ag.fn (args:=#[ptr bq,u32 r,.int .i64 (v:Int),.func (.func 271) #[] #[ptr b5]]) (C:=Ux b5 b3 b1 b v r++pR bq kp bm true #[] 0 C1) .here
   (Dc (yI eB.ok.wf eB.ok.mid.int eB.ok.lv (b:=b) (.head _)) (fun a=>by cases b<;>rfl) (by rw[mo.n];exact hv) eB.ok.wf eB.ok.mid.int eB.ok.lv eB.od (fun s=>by rw[eU];exact hf s) CB hQ (fun g hg=>by rw[mo.n]at hg;exact bM (fun g h=>.inr h) hg)) ?_
  intro w H hO
  exact az.here hO
 ·intro w H hO
  obtain⟨x,bb,e,rfl⟩:=hO.three
  exact Ext.mk rfl (Ext.mk rfl (Ext.mk rfl (az.drop hO)))
def qf(e:Bool)(v:Nat)(f:aE.Fn):aE.Fn:=QF (fun x y=>if e then x||y else x&&y) v f
theorem wg(hK:cF kp K S ord ah tr C){r v:Nat}{e:Bool}(hr:live K.N r)(hv:v<K.n)(hf:∀s,K.hold s+1<65535):
  Fc Tryz.prog 272 #[ptr kp,u32 r,.int .i64 (v:Int),.bool e] C (fH kp K S ord ah [] (qf e v (S r))):=by
 intro g
 refine Ab (R:=az _) ?_
 unfold L272
 intro b1 _ b3 _ b5 _
 refine ag.fn (args:=#[ptr kp,.func (.func 281) #[] #[ptr b1,ptr b3,ptr b5]]) (C:=Ux b5 b3 b1 e v r++C) .here (Cb (f:=qf e v (S r)) hK hf fun K1 C1 eB mo=>⟨_,_,_,rfl,by kernel_rfl,fun bq bm hQ=>?_⟩) ?_
 ·intro g
  refine z6 (R:=az _) ?_
  unfold L281
  intro b2 _
  refine Ld.mk (v:=ptr bq) (by exact .head _) rfl ?_
  refine Ld.mk (v:=u32 r) (by exact .tail _ (.tail _ (.tail _ (.head _)))) rfl ?_
  refine Ld.mk (v:=.int .i64 (v:Int)) (by exact .tail _ (.tail _ (.head _))) rfl ?_
  have CB:live K1.N r:=by rw[mo.N];exact hr
  have eU:∀s,K1.hold s=K.hold s:=fun s=>by rw[mo.hold,if_neg (by omega)]
  have FL:∀s,K1.hold s+1<65535:=fun s=>by rw[eU];exact hf s
  refine ag.fn (args:=#[ptr bq,u32 r,.int .i64 (v:Int),.func (.func 282) #[] #[ptr b2,ptr b5]]) (C:=((b2,Obj.cells #[ptr bq] 344 (0,0))::Ux b5 b3 b1 e v r)++pR bq kp bm true #[] 0 C1) .here
   (Dc (xD eB.ok.wf eB.ok.mid.int eB.ok.lv eB.od FL (e:=e) (.tail _ (.head _)) (.head _)) (fun a=>by cases e<;>cases a<;>rfl) (by rw[mo.n];exact hv) eB.ok.wf eB.ok.mid.int eB.ok.lv eB.od FL CB hQ (fun g hg=>by rw[mo.n]at hg;exact bM (fun g h=>.inr h) hg)) ?_
  rintro w H ⟨x,K',S',made',es',cu,C',jX,rfl,rfl,Li,hA,ho⟩
  exact az.mk .tail ⟨x,K',S',made',es',cu,C',jX,rfl,rfl,Li,hA,ho⟩
 ·intro w H hO
  obtain⟨x,bb,e,rfl⟩:=hO.three
  exact Ext.mk rfl (Ext.mk rfl (Ext.mk rfl (az.drop hO)))
end
end Go.Proofs
namespace Go.Sx
open Go
section
variable {P:Program} {g:Gh} {H:Hp}
def FcD(P:Program)(f:FuncId)(args:Array Value)(C:Hp)(Q:Value→Hp→Prop):Prop:=∀g,jO P g f args C (az Q)
theorem j6.fn{f:FuncId}{args:Array Value}{C H:Hp}{c:Hp→Hp}{Q:Value→Hp→Prop}{K:Hp→Prop}(hh:bP C H c)(hc:FcD P f args C Q)(hk:∀v C',Q v C'→K (c C')):j6 P g f args H K:=by
 intro w hw u
 obtain⟨rfl,F,hp⟩:=hh.spec
 have cU:Own g (C++F) w:=aU.perm (hp C) g w hw
 refine((hc (g.add F)) w (Own.dZ.1 cU) u).mono ?_
 rintro e u' w' ⟨rfl,H',ho,v,C',rfl,he,hq⟩
 have h1:Own g (H'++F) w':=Own.dZ.2 ho
 have h2:Own g (c H') w':=aU.perm (hp H').symm g w' h1
 exact⟨rfl,c C',hh.iQ he g w' h2,⟨v,rfl⟩,hk _ _ hq⟩
end
end Go.Sx
set_option maxRecDepth 100000
namespace Go.Proofs
open Go Go.Sx
open aE
section
variable {kp:Nat} {K:Kd} {ord ah tr:List Nat} {C:Hp} {S:Nat→aE.Fn}
theorem EG(h:cF kp K S ord ah tr C){r:Nat}(hr:r<4294967296)(hh:2≤r→K.hold r≠0):∀g,L131 g (ptr kp) (u32 r) C (az fun v C'=>v=.int .i64 0∧∃K',cF kp K' S ord ah [] C'∧tV K K' r):=by
 have h0:=h
 obtain⟨b,hC,hO⟩:=h.rep
 intro g
 unfold L131
 refine ae.bK (Br.no ?_)
 intro J2 y8
 have fin:∀(K':Kd) C1,cc kp K' ord ah tr C1→Ok K' S (lv ah)→Idle K'→tV K K' r→J2 [] C1:=fun K' C1 gE uR qL hm=>by
  refine y8 _ fun gs=>?_
  obtain⟨b',rfl,sD⟩:=gE
  refine Nil.ptr (aa.mk (St.one (by exact .head _) rfl (by simp[pK.cells]) rfl ?_))
  have iF:Ord K'.n (lv ah) ord:=by rw[hm.n];exact h.od
  refine az.mk (j5:=({b' with vt:=.slice none 0 0,CR:=[]}:pK).hp kp K'.n) ?_ ⟨rfl,K',⟨⟨{b' with vt:=.slice none 0 0,CR:=[]},rfl,{sD with tr:=aN.nil}⟩,uR,iF,qL,trivial⟩,hm⟩
  refine .cons (.dj (.dj (.dj (.dj (.dj (.dj .nil _) _) _) _) _) _)
 refine ae.nP (b:=1) (Br.dec (fun h2=>?_) (fun h2=>?_))
 rotate_left
 ·exact JE.mk (fin K C h.rep h.ok h.idle ⟨rfl,rfl,fun _ _ h=>h,fun s=>by rw[if_neg (by omega)]⟩)
 have kQ:2≤r:=by omega
 have ni:=hh kQ
 obtain⟨d,hd⟩:=h.ok.mid.held r ni
 have Sv:=h.ok.mid.fit hd
 have Ek:=hO.ul
 have hfit:r<K.ho.length:=by omega
 have hle:=h.lN r
 refine ag.rd .here (qF h.rep hr (fun s=>by have:=h.lN s;omega)) ?_
 rintro w rfl
 refine ae.jt (Br.aX (by omega) ?_)
 subst hC
 refine Nil.ptr (aa.mk (aa.mk (Ld.mk (v:=b.vh) (by exact .head _) rfl ?_)))
 refine hO.ho.ld (x:=((K.hold r:Nat):Int)) (bc hfit) (bP.sub (.cons (.app (.app (.app .left))))) ?_
 refine ae.bJ (b:=1) (by simp[aB];omega) (by omega) ?_
 refine hO.ho.iX (x:=((K.hold r-1:Nat):Int)) (.cons (.app (.app (.app .left)))) (by rw[aq];exact hfit) fun Jm O1=>?_
 rw[eM]at O1
 have g1:∀s,(K.ho.set r (K.hold r-1)).getD s 0=if s=r then K.hold r-1 else K.hold s:=fun s=>fe hfit
 have hM:=h.ok.mid.drop (r:=r) (ct:=K.ho.set r (K.hold r-1)) (by omega) (by simp) (by rw[g1,if_pos rfl];omega) (fun s hs=>by rw[g1,if_neg hs])
 have eB:cc kp {K with ho:=K.ho.set r (K.hold r-1)} ord ah tr (({b with CH:=Jm}:pK).hp kp K.n):=⟨_,rfl,{hO with ho:=O1,ul:=by simp;exact Ek}⟩
 have Sq:∀s,(K.ho.set r (K.hold r-1)).getD s 0=if s=r∧2≤r then K.hold s-1 else K.hold s:=fun s=>by
  rw[g1]
  by_cases e:s=r
  ·subst e;rw[if_pos rfl,if_pos ⟨rfl,kQ⟩]
  ·rw[if_neg e,if_neg (fun h=>e h.1)]
 refine Nil.ptr (aa.mk (aa.mk (Ld.mk (v:=b.vh) (by exact .head _) rfl ?_)))
 refine O1.ld (x:=((K.hold r-1:Nat):Int)) (by rw[bc (by simpa using hfit),g1,if_pos rfl]) (bP.sub (.cons (.app (.app (.app .left))))) ?_
 refine ae.fO (b:=0) (Br.dec (fun h3=>?_) (fun h3=>?_))
 rotate_left
 ·rw[if_neg (by omega)]at hM
  exact JE.mk (fin {K with ho:=K.ho.set r (K.hold r-1)} _ eB ⟨hM,h.ok.pos,h.ok.lv,h.ok.wf⟩ h.idle ⟨rfl,rfl,fun _ _ h=>h,Sq⟩)
 rw[if_pos (by omega)]at hM
 refine Nil.ptr (aa.mk ?_)
 have CY:gF {K with ho:=K.ho.set r (K.hold r-1)} S fM (fg zero' [r]):=hM.congr (fun _=>Iff.rfl) fun s _=>by
  unfold up fg zero'
  by_cases e:s=r
  ·subst e;simp
  ·simp[e,Ne.symm e]
 refine ag.fn .here (jC (P0:=zero') eB CY h.ok.pos (fun t Ih h0=>?_) (h.bY (.inr ⟨d,hd⟩)) (fun s=>by have:=h.yz s;show K.use s<_;omega)) ?_
 ·by_cases e:t=r
  ·subst e;exact⟨d,hd⟩
  ·have QJ:0<zero' t+[r].count t:=h0
   simp[zero',Ne.symm e]at QJ
 rintro w C2 ⟨rfl,K2,de,Ll,R2,_,cX⟩
 refine JE.mk (fin K2 _ de ⟨Ll,R2,by rw[cX.n];exact h.ok.lv,Co h.ok.wf Ll (fun h=>cX.N h) cX.n⟩ (cX.idle h.idle) ⟨cX.n,cX.cap,fun s e hs=>cX.N hs,fun s=>?_⟩)
 show K2.ho.getD s 0=_
 rw[cX.ho]
 exact Sq s
theorem kU(h:cF kp K S ord ah tr C){r:Nat}(hr:r<4294967296)(hh:2≤r→K.hold r≠0):FcD Tryz.prog 131 #[ptr kp,u32 r] C (fun v C'=>v=.int .i64 0∧∃K',cF kp K' S ord ah [] C'∧tV K K' r):=
 fun g=>xP (EG h hr hh g)
end
end Go.Proofs
set_option maxRecDepth 100000
namespace Go.Proofs
open Go Go.Sx
open aE
section
variable {kp:Nat} {K:Kd} {S:Nat→aE.Fn} {ord ah tr:List Nat} {C:Hp}
theorem pO(B:Hp)(x:Nat):Rd Tryz.prog 247 #[u32 x,.bool true,.int .i64 0] B (· =.tuple #[u32 x,.int .i64 0]):=by
 intro g
 refine rN (R:=az _) ?_
 unfold L247
 exact ae.c7 (Br.aX (by decide) (Un.not (Br.no (cr.mk (.refl _) rfl))))
theorem pP(B:Hp)(x:Value)(b:Value):Rd Tryz.prog 247 #[x,b,.int .i64 9] B (· =.tuple #[u32 0,.int .i64 9]):=by
 intro g
 refine rN (R:=az _) ?_
 unfold L247
 exact ae.c7 (Br.dS (by decide) (cr.mk (.refl _) rfl))
theorem sX(hK:cF kp K S ord ah tr C){v:Nat}(hv:v<K.n):Rd Tryz.prog 245 #[ptr kp,.int .i64 (v:Int)] C (· =.tuple #[.int .u64 ((2^v:Nat):Int),.bool true]):=by
 have hn:=hK.oS.ta
 intro g
 refine Av (R:=az _) ?_
 unfold L245
 intro J hJ
 refine ae.lss ?_
 rw[decide_eq_false (by omega)]
 refine Split.go rfl ?_
 refine ae.uB ?_
 refine Split.go rfl ?_
 refine ag.rd .here (gO hK.rep) ?_
 rintro w rfl
 refine ae.pe ?_
 rw[decide_eq_false (by omega)]
 refine aA.mk (aA.mk (JE.mk (hJ _ _ fun gs=>Br.no ?_)))
 have h2:2^v<18446744073709551616:=Nat.lt_of_lt_of_le (Nat.pow_lt_pow_right (by decide) (show v<64 by omega)) (by decide)
 refine ae.yG (a:=1) (by simp[IntKind.bits];omega) (by rw[Nat.one_shiftLeft];simpa[aB]using h2) ?_
 rw[Nat.one_shiftLeft]
 exact cr.mk (.refl _) rfl
theorem ov(hK:cF kp K S ord ah tr C){Y:Hp}{mask:Nat}{vr:Value}{refs:List Nat}(hm:mask<2^K.n)(hr:c6 .u32 Y vr (iw refs))(hl:∀r∈refs,live K.N r)(bX:refs.length≤1048576):Rd Tryz.prog 246 #[ptr kp,.int .u64 (mask:Int),vr] (Y++C) (· =.int .i64 0):=by
 have hn:=hK.oS.ta
 intro g
 refine Au (R:=az _) ?_
 unfold L246
 refine ae.bK (Br.no ?_)
 refine ag.rd (.app .here) (gO hK.rep) ?_
 rintro w rfl
 have vI:mask<18446744073709551616:=Nat.lt_of_lt_of_le hm (Nat.pow_le_pow_right (n:=2) (by decide) hn)
 refine ae.ot (by simpa[aB]using vI) ?_
 rw[Nat.shiftRight_eq_div_pow,Nat.div_eq_of_lt hm]
 refine ae.c7 (Br.aX (by decide) ?_)
 refine hr.bS ?_
 rw[aq]
 refine⟨fun vs H=>∃i:Nat,vs=[.int .i64 (i:Int)]∧i≤refs.length∧H=Y++C,fun vs _=>refs.length-bR vs 0,JE.mk ⟨0,rfl,Nat.zero_le _,rfl⟩,?_⟩
 rintro w7 H ⟨i,hv,hi,rfl⟩ gs
 simp only[List.cons.injEq,and_true]at hv
 subst hv
 refine ae.fq (Br.dec (fun hlt=>?_) (fun hlt=>?_))
 ·have hlr:=hl _ (List.getElem_mem hlt)
  refine hr.ld (n:=((refs[i]:Nat):Int)) (cB (List.getElem?_eq_getElem hlt)) (fun _ h=>List.mem_append_left _ h) ?_
  refine ag.rd (args:=#[ptr kp,u32 refs[i]]) (.app .here) (gR hK.rep (by have:=hK.bY hlr;omega)) ?_
  rintro w rfl
  rw[bI.2 hlr]
  refine Ext.mk rfl (Ext.mk rfl ?_)
  intro PI _
  refine St.whole (r:=got K.N refs[i]) (by exact .head _) rfl (aJ _ _).1 (aJ _ _).2 ?_
  refine ae.c7 (Br.aX (by simp) ?_)
  refine ae.aK (b:=1) (by simp[aB];omega) ?_
  exact aF.of .tail ⟨i+1,rfl,hlt,rfl⟩ (by simp only[bR];omega)
 ·exact cr.mk (.refl _) rfl
theorem fH.done{f:aE.Fn}{w:Value}{H:Hp}(h:fH kp K S ord ah [] f w H):(∃x,w=.tuple #[u32 x,.bool true,.int .i64 0]∧mZ kp K S ord ah tr f (.tuple #[u32 x,.int .i64 0]) H)∨(w=.tuple #[u32 0,.bool false,.int .i64 9]∧mZ kp K S ord ah tr f (.tuple #[u32 0,.int .i64 9]) H):=by
 rcases h with⟨x,K',S',C',rfl,rfl,gE,hg⟩|⟨rfl,⟨K',S',C',rfl,gE,hk⟩,hn⟩
 ·exact .inl ⟨x,rfl,.inl ⟨x,K',S',rfl,gE,hg⟩⟩
 ·exact .inr ⟨rfl,.inr ⟨rfl,⟨K',S',[],gE,.inl rfl,hk⟩,hn⟩⟩
theorem ig{n v:Nat}(hv:v<n):2^v<2^n:=Nat.pow_lt_pow_right (by decide) hv
theorem uA(hK:cF kp K S ord ah tr C){r v:Nat}{b:Bool}(hr:live K.N r)(hv:v<K.n)(hf:∀s,K.hold s+1<65535):
  Fc Tryz.prog 199 #[ptr kp,u32 r,.int .i64 (v:Int),.bool b] C (mZ kp K S ord ah tr (fun x=>S r (aD.aI x v b))):=by
 intro g
 refine A5 (R:=az _) ?_
 unfold L199
 refine ag.rd .here (sX hK hv) ?_
 rintro w rfl
 refine Ext.mk rfl (Ext.mk rfl ?_)
 refine ae.uB ?_
 refine cw.and (a:=true) false (fun _=>Un.not ⟨rfl,rfl⟩) rfl fun gs=>Br.no ?_
 refine au.int (e:=77) (by kernel_rfl) (by kernel_rfl) (by kernel_rfl) fun bs=>?_
 refine ag.rd (args:=#[ptr kp,.int .u64 ((2^v:Nat):Int),.slice (some ⟨bs,0,none⟩) 1 1]) .here (ov (Y:=[(bs,Obj.cells (ax .u32 [(r:Int)]) 77 (0,0))]) (refs:=[r]) hK (ig hv) ((aN.made (T:=77) (kd:=.u32) (b:=bs) (iw [r])).ints) (fun s hs=>by simp at hs;subst hs;exact hr) (by show 1≤1048576;omega)) ?_
 rintro w rfl
 refine ae.c7 (Br.aX (by decide) ?_)
 refine ag.fn (args:=#[ptr kp,u32 r,.int .i64 (v:Int),.bool b]) (.cons .here) (kD hK hr hv hf) ?_
 intro w H hO
 rcases hO.done (tr:=tr)with⟨x,rfl,hD⟩|⟨rfl,hD⟩
 ·refine Ext.mk rfl (Ext.mk rfl (Ext.mk rfl ?_))
  refine ag.rd .here (pO _ x) ?_
  rintro w rfl
  exact Ext.mk rfl (Ext.mk rfl (az.mk .tail hD))
 ·refine Ext.mk rfl (Ext.mk rfl (Ext.mk rfl ?_))
  refine ag.rd .here (pP _ _ _) ?_
  rintro w rfl
  exact Ext.mk rfl (Ext.mk rfl (az.mk .tail hD))
end
theorem Fits.mono{A B:aE.Fn→Prop}{cap:Nat}(h:∀g,A g→B g)(hB:Fits B cap):Fits A cap:=by
 classical
 obtain⟨ku,⟨l,h1,h2,h3⟩,hc⟩:=hB
 refine⟨(l.filter fun g=>decide (A g)).length,⟨l.filter fun g=>decide (A g),h1.filter _,rfl,fun g=>?_⟩,?_⟩
 ·rw[List.mem_filter,decide_eq_true_eq,←h3]
  exact⟨fun x=>⟨h g x,x⟩,fun x=>x.2⟩
 ·have:=List.length_filter_le (fun g=>decide (A g)) l
  omega
def bitsOf(mask n:Nat):List Nat:=(List.range n).filter fun i=>mask.testBit i
theorem iv(mask n:Nat):bitsOf mask (n+1)=bitsOf mask n++if mask.testBit n then [n]else []:=by
 unfold bitsOf
 rw[List.range_succ,List.filter_append,List.filter_cons,List.filter_nil]
def Jw(e:Bool)(vs:List Nat)(f:aE.Fn):aE.Fn:=vs.foldl (fun g v=>qf e v g) f
theorem GJ(e:Bool)(vs:List Nat)(v:Nat)(f:aE.Fn):Jw e (vs++[v]) f=qf e v (Jw e vs f):=by
 unfold Jw;rw[List.foldl_append];rfl
section
variable {kp:Nat} {K:Kd} {S:Nat→aE.Fn} {ord ah tr:List Nat} {C:Hp}
def gx(kp:Nat)(K:Kd)(S:Nat→aE.Fn)(ord ah tr:List Nat)(e:Bool)(mask r:Nat)(w:Value)(H:Hp):Prop:=
 (∃x K' S',w=.tuple #[u32 x,.int .i64 0]∧cF kp K' S' ord ah [] H∧oa K S K' S' (Jw e (bitsOf mask K.n) (S r)) x)∨
 (w=.tuple #[u32 0,.int .i64 9]∧(∃K' S' sk,cF kp K' S' ord ah sk H∧(sk=[]∨sk=tr)∧Kept K S K' S')∧∃i,i<K.n∧mask.testBit i=true∧¬Fits (aM K.n ord (fun g=>(K.held S g∨(bitsOf mask i≠[]∧g=Jw e (bitsOf mask i) (S r)))∨g=qf e i (Jw e (bitsOf mask i) (S r)))) K.cap)
structure Way(K:Kd)(S:Nat→aE.Fn)(K1:Kd)(S1:Nat→aE.Fn)(ch:Bool)(cur:Nat):Prop where
 n:K1.n=K.n
 cap:K1.cap=K.cap
 N:∀s d,K.N s=some d→K1.N s=some d
 fn:∀s,live K.N s→S1 s=S s
 live:live K1.N cur
 hold:∀s,K1.hold s=K.hold s+if ch=true∧s=cur∧2≤cur then 1 else 0
theorem Db(hK:cF kp K S ord ah tr C){r mask:Nat}{e:Bool}(hr:live K.N r)(hm:mask<2^K.n)(hf:∀s,K.hold s+2<65535):
  Fc Tryz.prog 249 #[ptr kp,u32 r,.int .u64 (mask:Int),.bool e] C (gx kp K S ord ah tr e mask r):=by
 have hn:=hK.oS.ta
 have vI:mask<18446744073709551616:=Nat.lt_of_lt_of_le hm (Nat.pow_le_pow_right (n:=2) (by decide) hn)
 have CE:∀s,K.hold s≠0→live K.N s:=fun s hs=>.inr (hK.ok.mid.held s hs)
 intro g
 refine Ar (R:=az _) ?_
 unfold L249
 refine au.int (e:=77) (by kernel_rfl) (by kernel_rfl) (by kernel_rfl) fun bs=>?_
 refine ag.rd (args:=#[ptr kp,.int .u64 (mask:Int),.slice (some ⟨bs,0,none⟩) 1 1]) .here (ov (Y:=[(bs,Obj.cells (ax .u32 [(r:Int)]) 77 (0,0))]) (refs:=[r]) hK hm ((aN.made (T:=77) (kd:=.u32) (b:=bs) (iw [r])).ints) (fun s hs=>by simp at hs;subst hs;exact hr) (by show 1≤1048576;omega)) ?_
 rintro w rfl
 refine ae.c7 (Br.aX (by decide) ?_)
 refine ae.fO (b:=0) (Br.dec (fun h0=>?_) (fun h0=>?_))
 ·subst h0
  refine ag.fn (args:=#[ptr kp,u32 r]) (.cons .here) (nI hK (r:=r) hr (fun _=>by have:=hf r;omega)) ?_
  rintro w C1 ⟨rfl,K1,eB,mo⟩
  refine ae.c7 (Br.aX (by decide) ?_)
  refine az.mk .tail (.inl ⟨r,K1,S,rfl,eB,mo.n,mo.cap,fun s d hd=>by rw[mo.N];exact hd,fun _ _=>rfl,by rw[mo.N];exact hr,?_,fun s=>by rw[mo.hold];split<;>omega⟩)
  have:bitsOf 0 K.n=[]:=by unfold bitsOf;rw[List.filter_eq_nil_iff];intro a _;simp
  rw[this];rfl
 refine ag.rd (.cons .here) (gO hK.rep) ?_
 rintro w rfl
 refine⟨fun vs H=>∃(i cur:Nat) (ch:Bool) (K1:Kd) (S1:Nat→aE.Fn) (C1:Hp) (NL:List Nat),vs=[u32 cur,.bool ch,.int .i64 (i:Int)]∧i≤K.n∧H=(bs,Obj.cells (ax .u32 [(r:Int)]) 77 (0,0))::C1∧cF kp K1 S1 ord ah NL C1∧
   (ch=decide (bitsOf mask i≠[]))∧S1 cur=Jw e (bitsOf mask i) (S r)∧Way K S K1 S1 ch cur∧(ch=true→NL=[]),fun vs _=>K.n-bR vs 2,
  JE.mk ⟨0,r,false,K,S,C,tr,rfl,Nat.zero_le _,rfl,hK,rfl,rfl,⟨rfl,rfl,fun _ _ h=>h,fun _ _=>rfl,hr,fun s=>by rw[if_neg (fun h=>by cases h.1)];rfl⟩,fun h=>by cases h⟩,?_⟩
 rintro j8 qd gZ H ⟨i,cur,ch,K1,S1,C1,NL,hvs,hi,rfl,eB,jU,jZ,hw,oF⟩ gs
 simp only[List.cons.injEq,and_true]at hvs
 obtain⟨rfl,rfl,rfl⟩:=hvs
 refine ae.fq (Br.dec (fun hlt=>?_) (fun hlt=>?_))
 rotate_left
 ·obtain rfl:i=K.n:=by omega
  have hne:bitsOf mask K.n≠[]:=fun hb=>h0 (by
   apply Nat.eq_of_testBit_eq
   intro j
   rw[Nat.zero_testBit]
   by_cases hj:j<K.n
   ·cases ht:mask.testBit j with
    |false=>rfl
    |true=>
     have:j∈bitsOf mask K.n:=List.mem_filter.2 ⟨List.mem_range.2 hj,ht⟩
     rw[hb]at this;cases this
   ·exact Nat.testBit_lt_two_pow (Nat.lt_of_lt_of_le hm (Nat.pow_le_pow_right (by decide) (by omega))))
  have hct:ch=true:=by rw[jU];exact decide_eq_true hne
  rw[oF hct]at eB
  exact az.mk .tail (.inl ⟨cur,K1,S1,rfl,eB,hw.n,hw.cap,hw.N,hw.fn,hw.live,jZ,fun s=>by rw[hw.hold];simp[hct]⟩)
 intro J hJ
 refine ae.ot (by simpa[aB]using vI) ?_
 refine ae.nZ (b:=1) (by have:mask>>>i≤mask:=Nat.shiftRight_le _ _;simp[aB];omega) (by simp[aB]) ?_
 have Pb:(mask>>>i) &&&1=(mask.testBit i).toNat:=by
  rw[Nat.and_one_is_mod,Nat.testBit_eq_decide_div_mod_eq,Nat.shiftRight_eq_div_pow]
  have:mask/2^i%2<2:=Nat.mod_lt _ (by decide)
  by_cases h:mask/2^i%2=1
  ·simp[h]
  ·have:mask/2^i%2=0:=by omega
   simp[this]
 rw[Pb]
 refine ae.fO (b:=0) ?_
 cases ht:mask.testBit i with
 |false=>
  refine Br.dS rfl ?_
  refine JE.mk (hJ _ _ _ fun gs=>?_)
  refine ae.aK (b:=1) (by simp[aB];omega) ?_
  have eb:bitsOf mask (i+1)=bitsOf mask i:=by rw[iv,ht];simp
  exact aF.mk ⟨i+1,cur,ch,K1,S1,C1,NL,rfl,hlt,rfl,eB,by rw[eb];exact jU,by rw[eb];exact jZ,hw,oF⟩ (by simp only[bR];omega)
 |true=>
  refine Br.aX (by decide) ?_
  have eb:bitsOf mask (i+1)=bitsOf mask i++[i]:=by rw[iv,ht];simp
  have FL:∀s,K1.hold s+1<65535:=fun s=>by rw[hw.hold];have:=hf s;split<;>omega
  have Qx:∀s,K1.hold s≠0→live K1.N s:=fun s hs=>.inr (eB.ok.mid.held s hs)
  refine ag.fn (args:=#[ptr kp,u32 cur,.int .i64 (i:Int),.bool e]) (.cons .here) (wg eB hw.live (by rw[hw.n];exact hlt) FL) ?_
  rintro w H (⟨x,K2,S2,C2,rfl,rfl,de,hg⟩|⟨rfl,⟨K2,S2,C2,rfl,de,hk⟩,hno⟩)
  ·refine Ext.mk rfl (Ext.mk rfl (Ext.mk rfl ?_))
   refine ag.rd .here (pO _ x) ?_
   rintro w rfl
   refine Ext.mk rfl (Ext.mk rfl ?_)
   intro vK Yr
   have go:∀K3 C3,cF kp K3 S2 ord ah [] C3→Way K S K3 S2 true x→vK [] ((bs,Obj.cells (ax .u32 [(r:Int)]) 77 (0,0))::C3):=fun K3 C3 l5 Mx=>by
    refine Yr _ fun gs=>?_
    refine ae.c7 (Br.aX (by decide) ?_)
    refine JE.mk (hJ _ _ _ fun gs=>?_)
    refine ae.aK (b:=1) (by simp[aB];omega) ?_
    exact aF.mk ⟨i+1,x,true,K3,S2,C3,[],rfl,hlt,rfl,l5,by rw[eb];exact(decide_eq_true (by simp)).symm,by rw[hg.is,eb,GJ,jZ],Mx,fun _=>rfl⟩ (by simp only[bR];omega)
   have fn2:∀s,live K.N s→S2 s=S s:=fun s hs=>(hg.fn s (cA hw.N hs)).trans (hw.fn s hs)
   cases ch with
   |false=>
    refine Br.no (JE.mk (go K2 H de ⟨hg.n.trans hw.n,hg.cap.trans hw.cap,fun s d hd=>hg.N s d (hw.N s d hd),fn2,hg.live,fun s=>?_⟩))
    have a:=hw.hold s
    rw[if_neg (fun h=>by cases h.1)]at a
    rw[hg.hold,a];simp
   |true=>
    have hlc:=hw.live
    have XS:2≤cur→K2.hold cur≠0:=fun h2=>by rw[hg.hold,hw.hold,if_pos ⟨rfl,rfl,h2⟩];omega
    refine Br.yes ?_
    refine ag.fn (args:=#[ptr kp,u32 cur]) (.cons .here) (nT de (r:=cur) (by have:=eB.bY hlc;omega) XS) ?_
    rintro w C3 ⟨rfl,K3,l5,f3⟩
    have jh:∀s,K3.hold s=K.hold s+if s=x∧2≤x then 1 else 0:=fun s=>by
     have a:=hw.hold s
     simp only[true_and]at a
     rw[f3.hold,hg.hold,a]
     split<;>split<;>omega
    refine JE.mk (go K3 C3 l5 ⟨by rw[f3.n,hg.n,hw.n],by rw[f3.cap,hg.cap,hw.cap],fun s d hs=>gP hK.ok l5.ok (fun s h=>by rw[jh];omega) (fun s d d' h h'=>?_) _ s d hs (Nat.le_refl _),fn2,?_,fun s=>by rw[jh];simp⟩)
    ·have a:=f3.N s d' h'
     rw[hg.N s d (hw.N s d h)]at a;exact(Option.some.inj a).symm
    ·by_cases h2:x<2
     ·exact .inl h2
     ·refine .inr (l5.ok.mid.held x ?_)
      rw[jh,if_pos ⟨rfl,by omega⟩];omega
  ·refine Ext.mk rfl (Ext.mk rfl (Ext.mk rfl ?_))
   refine ag.rd .here (pP _ _ _) ?_
   rintro w rfl
   refine Ext.mk rfl (Ext.mk rfl ?_)
   intro vK Yr
   have tB:∀g,K1.held S1 g→K.held S g∨(bitsOf mask i≠[]∧g=Jw e (bitsOf mask i) (S r)):=by
    rintro g ⟨s,hs,rfl⟩
    have hs':K1.hold s≠0:=hs
    by_cases hz:K.hold s=0
    ·right
     rw[hw.hold,hz]at hs'
     by_cases hx:ch=true∧s=cur∧2≤cur
     ·refine⟨?_,by rw[hx.2.1];exact jZ⟩
      have:=hx.1
      rw[jU]at this
      exact of_decide_eq_true this
     ·rw[if_neg hx]at hs';omega
    ·exact .inl ⟨s,hz,hw.fn s (CE s hz)⟩
   have wU:¬Fits (aM K.n ord (fun g=>(K.held S g∨(bitsOf mask i≠[]∧g=Jw e (bitsOf mask i) (S r)))∨g=qf e i (Jw e (bitsOf mask i) (S r)))) K.cap:=fun hfit=>hno (by
    rw[hw.n,hw.cap,jZ]
    exact Fits.mono (fun g hg=>bM (fun g h=>h.imp (tB g) id) hg) hfit)
   have go:∀K3 C3 Rc,cF kp K3 S2 ord ah Rc C3→Rc=[]→(∀s,K3.hold s=K.hold s)→K3.n=K2.n→K3.cap=K2.cap→vK [] ((bs,Obj.cells (ax .u32 [(r:Int)]) 77 (0,0))::C3):=fun K3 C3 Rc l5 UF JC UK QB=>by
    refine Yr _ fun gs=>?_
    refine ae.c7 (Br.dS (by decide) ?_)
    have hfn:∀s,K.hold s≠0→S2 s=S s:=fun s hs=>(hk.fn s (by rw[hw.hold];omega)).trans (hw.fn s (CE s hs))
    refine az.mk .tail (.inr ⟨rfl,⟨K3,S2,Rc,l5,.inl UF,⟨by rw[UK,hk.n,hw.n],by rw[QB,hk.cap,hw.cap],JC,fun g=>?_,hfn⟩⟩,i,hlt,ht,wU⟩)
    constructor
    ·rintro⟨s,hs,rfl⟩
     have hs':K.hold s≠0:=by rw[←JC];exact hs
     exact⟨s,hs',hfn s hs'⟩
    ·rintro⟨s,hs,rfl⟩
     exact⟨s,by show K3.hold s≠0;rw[JC];exact hs,(hfn s hs).symm⟩
   cases ch with
   |false=>
    refine Br.no (JE.mk (go K2 H [] de rfl (fun s=>?_) rfl rfl))
    rw[hk.hold,hw.hold,if_neg (fun h=>by cases h.1)];rfl
   |true=>
    have XS:2≤cur→K2.hold cur≠0:=fun h2=>by rw[hk.hold,hw.hold,if_pos ⟨rfl,rfl,h2⟩];omega
    refine Br.yes ?_
    refine ag.fn (args:=#[ptr kp,u32 cur]) (.cons .here) (nT de (r:=cur) (by have:=eB.bY hw.live;omega) XS) ?_
    rintro w C3 ⟨rfl,K3,l5,f3⟩
    refine JE.mk (go K3 C3 [] l5 rfl (fun s=>?_) f3.n f3.cap)
    have a:=hw.hold s
    simp only[true_and]at a
    rw[f3.hold,hk.hold,a]
    split<;>omega
end
end Go.Proofs
set_option maxRecDepth 100000
namespace Go.Proofs
open Go Go.Sx
open aE
section
variable {kp:Nat} {K:Kd} {S:Nat→aE.Fn} {ord ah tr:List Nat} {C:Hp}
theorem gx.two{e:Bool}{mask r:Nat}{w:Value}{H:Hp}(h:gx kp K S ord ah tr e mask r w H):∃x y,w=.tuple #[x,y]:=by
 rcases h with⟨x,K',S',rfl,_⟩|⟨rfl,_⟩
 ·exact⟨_,_,rfl⟩
 ·exact⟨_,_,rfl⟩
theorem EC(hK:cF kp K S ord ah tr C){r mask:Nat}(hr:live K.N r)(hm:mask<2^K.n)(hf:∀s,K.hold s+2<65535):
  Fc Tryz.prog 200 #[ptr kp,u32 r,.int .u64 (mask:Int)] C (gx kp K S ord ah tr true mask r):=by
 intro g
 refine A4 (R:=az _) ?_
 unfold L200
 refine ag.fn .here (Db hK hr hm hf) ?_
 intro w H hO
 obtain⟨x,y,rfl⟩:=hO.two
 exact Ext.mk rfl (Ext.mk rfl (az.here hO))
theorem EA(hK:cF kp K S ord ah tr C){r mask:Nat}(hr:live K.N r)(hm:mask<2^K.n)(hf:∀s,K.hold s+2<65535):
  Fc Tryz.prog 201 #[ptr kp,u32 r,.int .u64 (mask:Int)] C (gx kp K S ord ah tr false mask r):=by
 intro g
 refine A3 (R:=az _) ?_
 unfold L201
 refine ag.fn .here (Db hK hr hm hf) ?_
 intro w H hO
 obtain⟨x,y,rfl⟩:=hO.two
 exact Ext.mk rfl (Ext.mk rfl (az.here hO))
theorem zm{n v:Nat}(hv:v<n):bitsOf (2^v) n=[v]∧bitsOf (2^v) v=[]:=by
 have h0:bitsOf (2^v) v=[]:=by
  unfold bitsOf
  rw[List.filter_eq_nil_iff]
  intro a ha
  have:=List.mem_range.1 ha
  simp[Nat.testBit_two_pow];omega
 refine⟨?_,h0⟩
 have key:∀k,v+1+k≤n→bitsOf (2^v) (v+1+k)=[v]:=by
  intro k
  induction k with
  |zero=>intro _;rw[Nat.add_zero,iv,h0];simp[Nat.testBit_two_pow]
  |succ k ih=>
   intro hk
   rw[←Nat.add_assoc,iv,ih (by omega)]
   have:¬v=v+1+k:=by omega
   simp[Nat.testBit_two_pow,this]
 have:=key (n-(v+1)) (by omega)
 rwa [show v+1+(n-(v+1))=n by omega]at this
theorem gx.one{e:Bool}{v r:Nat}{w:Value}{H:Hp}(hv:v<K.n)(h:gx kp K S ord ah tr e (2^v) r w H):mZ kp K S ord ah tr (qf e v (S r)) w H:=by
 obtain⟨e1,e2⟩:=zm hv
 rcases h with⟨x,K',S',rfl,gE,hg⟩|⟨rfl,hk,i,hi,ht,hno⟩
 ·rw[e1]at hg
  exact .inl ⟨x,K',S',rfl,gE,hg⟩
 ·have:i=v:=by
   rw[Nat.testBit_two_pow]at ht
   exact(of_decide_eq_true ht).symm
  subst this
  rw[e2]at hno
  exact .inr ⟨rfl,hk,fun hfit=>hno (Fits.mono (fun g hg=>bM (fun g h=>h.elim (fun h=>h.elim .inl fun h=>absurd rfl h.1) .inr) hg) hfit)⟩
def vA(kp:Nat)(K:Kd)(S:Nat→aE.Fn)(ord ah tr:List Nat)(lo hi f:aE.Fn)(w:Value)(H:Hp):Prop:=
 (∃x K' S',w=.tuple #[u32 x,.int .i64 0]∧cF kp K' S' ord ah [] H∧oa K S K' S' f x)∨
 (w=.tuple #[u32 0,.int .i64 9]∧(∃K' S' sk,cF kp K' S' ord ah sk H∧(sk=[]∨sk=tr)∧Kept K S K' S')∧
  (¬Fits (aM K.n ord (fun g=>K.held S g∨g=lo)) K.cap∨¬Fits (aM K.n ord (fun g=>(K.held S g∨g=lo)∨g=hi)) K.cap∨¬Fits (aM K.n ord (fun g=>((K.held S g∨g=lo)∨g=hi)∨g=f)) K.cap))
theorem LK(hK:cF kp K S ord ah tr C){r v h:Nat}(hr:live K.N r)(hv:v<K.n)(hh:live K.N h)(hB:∀s,K.hold s+2+2^K.n≤65535):
  Fc Tryz.prog 202 #[ptr kp,u32 r,.int .i64 (v:Int),u32 h] C (vA kp K S ord ah tr (fun x=>S r (aD.aI x v false)) (fun x=>S r (aD.aI x v true)) (fun x=>if S h x then S r (aD.aI x v true)else S r (aD.aI x v false))):=by
 have y2:1≤2^K.n:=Nat.one_le_two_pow
 have CE:∀s,K.hold s≠0→live K.N s:=fun s hs=>.inr (hK.ok.mid.held s hs)
 intro g
 refine A2 (R:=az _) ?_
 unfold L202
 refine ag.rd .here (sX hK hv) ?_
 rintro w rfl
 refine Ext.mk rfl (Ext.mk rfl ?_)
 refine ae.uB ?_
 refine cw.and (a:=true) false (fun _=>Un.not ⟨rfl,rfl⟩) rfl fun gs=>Br.no ?_
 refine au.Ho (e:=77) (by kernel_rfl) (by kernel_rfl) (by kernel_rfl) fun bs=>?_
 refine ag.rd (args:=#[ptr kp,.int .u64 ((2^v:Nat):Int),.slice (some ⟨bs,0,none⟩) 2 2]) .here (ov (Y:=[(bs,Obj.cells (ax .u32 [(r:Int),(h:Int)]) 77 (0,0))]) (refs:=[r,h]) hK (ig hv) ((aN.made (T:=77) (kd:=.u32) (b:=bs) (iw [r,h])).ints) (fun s hs=>by
  simp only[List.mem_cons,List.not_mem_nil,or_false]at hs
  rcases hs with rfl|rfl
  ·exact hr
  ·exact hh) (by show 2≤1048576;omega)) ?_
 rintro w rfl
 refine ae.c7 (Br.aX (by decide) ?_)
 refine ag.fn (args:=#[ptr kp,u32 r,.int .i64 (v:Int),.bool false]) (.cons .here) (kD hK hr hv (fun s=>by have:=hB s;omega)) ?_
 intro w H hO
 rcases hO with⟨x1,K1,S1,C1,rfl,rfl,eB,g1⟩|⟨rfl,⟨K1,S1,C1,rfl,eB,hk⟩,hno⟩
 rotate_left
 ·refine Ext.mk rfl (Ext.mk rfl (Ext.mk rfl ?_))
  refine ag.rd .here (pP _ _ _) ?_
  rintro w rfl
  refine Ext.mk rfl (Ext.mk rfl ?_)
  refine ae.c7 (Br.dS (by decide) ?_)
  exact az.mk .tail (.inr ⟨rfl,⟨K1,S1,[],eB,.inl rfl,hk⟩,.inl hno⟩)
 refine Ext.mk rfl (Ext.mk rfl (Ext.mk rfl ?_))
 refine ag.rd .here (pO _ x1) ?_
 rintro w rfl
 refine Ext.mk rfl (Ext.mk rfl ?_)
 refine ae.c7 (Br.aX (by decide) ?_)
 have CB:=cA g1.N hr
 have e1:S1 r=S r:=g1.fn r hr
 have Qx:=cA g1.N hh
 have l1:=g1.live
 have eU:=g1.hold
 have HM:∀g,K1.held S1 g→K.held S g∨g=fun x=>S r (aD.aI x v false):=g1.held CE
 refine ag.fn (args:=#[ptr kp,u32 r,.int .i64 (v:Int),.bool true]) (.cons .here) (kD eB CB (by rw[g1.n];exact hv) (fun s=>by rw[eU];have:=hB s;split<;>omega)) ?_
 intro w H hO
 rw[e1]at hO
 rcases hO with⟨x2,K2,S2,C2,rfl,rfl,de,g2⟩|⟨rfl,⟨K2,S2,C2,rfl,de,hk⟩,hno⟩
 rotate_left
 ·refine Ext.mk rfl (Ext.mk rfl (Ext.mk rfl ?_))
  refine ag.rd .here (pP _ _ _) ?_
  rintro w rfl
  refine Ext.mk rfl (Ext.mk rfl ?_)
  refine ae.c7 (Br.dS (by decide) ?_)
  refine j6.fn (args:=#[ptr kp,u32 x1]) (.cons .here) (kU de (r:=x1) (by have:=eB.bY l1;omega) (fun h2=>by rw[hk.hold,eU,if_pos ⟨rfl,h2⟩];omega)) ?_
  rintro w C3 ⟨rfl,K3,l5,f3⟩
  have JC:∀s,K3.hold s=K.hold s:=fun s=>by
   rw[f3.hold,hk.hold,eU]
   split<;>omega
  have hfn:∀s,K.hold s≠0→S2 s=S s:=fun s hs=>(hk.fn s (by rw[eU];omega)).trans (g1.fn s (CE s hs))
  refine az.mk .tail (.inr ⟨rfl,⟨K3,S2,[],l5,.inl rfl,⟨by rw[f3.n,hk.n,g1.n],by rw[f3.cap,hk.cap,g1.cap],JC,fun g=>?_,hfn⟩⟩,.inr (.inl fun hfit=>hno ?_)⟩)
  ·constructor
   ·rintro⟨s,hs,rfl⟩
    have hs':K.hold s≠0:=by rw[←JC];exact hs
    exact⟨s,hs',hfn s hs'⟩
   ·rintro⟨s,hs,rfl⟩
    exact⟨s,by show K3.hold s≠0;rw[JC];exact hs,(hfn s hs).symm⟩
  ·rw[g1.n,g1.cap]
   exact Fits.mono (fun g hg=>bM (fun g h=>h.imp (HM g) id) hg) hfit
 refine Ext.mk rfl (Ext.mk rfl (Ext.mk rfl ?_))
 refine ag.rd .here (pO _ x2) ?_
 rintro w rfl
 refine Ext.mk rfl (Ext.mk rfl ?_)
 refine ae.c7 (Br.aX (by decide) ?_)
 have XF:=cA g2.N Qx
 have l12:=cA g2.N l1
 have l2:=g2.live
 have iq:=g2.hold
 have Xo:∀s,K1.hold s≠0→live K1.N s:=fun s hs=>.inr (eB.ok.mid.held s hs)
 have O2:∀g,K2.held S2 g→(K.held S g∨g=fun x=>S r (aD.aI x v false))∨g=fun x=>S r (aD.aI x v true):=fun g hg=>(g2.held Xo g hg).imp (HM g) id
 have eh:S2 h=S h:=(g2.fn h Qx).trans (g1.fn h hh)
 have ex1:S2 x1=fun x=>S r (aD.aI x v false):=(g2.fn x1 l1).trans g1.is
 have Sw:∀s,live K.N s→S2 s=S s:=fun s hs=>(g2.fn s (cA g1.N hs)).trans (g1.fn s hs)
 refine ag.fn (args:=#[ptr kp,u32 h,u32 x2,u32 x1]) (.cons .here) (Dr de XF l2 l12 (fun s=>by rw[iq,eU,g2.n,g1.n];have:=hB s;split<;>split<;>omega)) ?_
 intro w H hO
 rw[eh,ex1,g2.is]at hO
 rcases hO with⟨x3,K3,S3,rfl,l5,g3⟩|⟨rfl,⟨K3,S3,Rc,l5,_,hk⟩,hno⟩
 ·refine Ext.mk rfl (Ext.mk rfl ?_)
  have jh:=g3.hold
  refine j6.fn (args:=#[ptr kp,u32 x2]) (.cons .here) (kU l5 (r:=x2) (by have:=de.bY l2;omega) (fun h2=>by rw[jh,iq,if_pos ⟨rfl,h2⟩];omega)) ?_
  rintro w C4 ⟨rfl,K4,Ic,f4⟩
  have nJ:∀s,K4.hold s=K1.hold s+if s=x3∧2≤x3 then 1 else 0:=fun s=>by
   rw[f4.hold,jh,iq]
   split<;>split<;>omega
  refine j6.fn (args:=#[ptr kp,u32 x1]) (.cons .here) (kU Ic (r:=x1) (by have:=eB.bY l1;omega) (fun h2=>by rw[nJ,eU,if_pos ⟨rfl,h2⟩];omega)) ?_
  rintro w C5 ⟨rfl,K5,FN,f5⟩
  have qJ:∀s,K5.hold s=K.hold s+if s=x3∧2≤x3 then 1 else 0:=fun s=>by
   rw[f5.hold,nJ,eU]
   split<;>split<;>omega
  have JA:live K5.N x3:=by
   by_cases h2:x3<2
   ·exact .inl h2
   ·refine .inr (FN.ok.mid.held x3 ?_)
    rw[qJ,if_pos ⟨rfl,by omega⟩];omega
  have XK:∀s,live K.N s→S3 s=S s:=fun s hs=>(g3.fn s (cA g2.N (cA g1.N hs))).trans (Sw s hs)
  refine az.mk .tail (.inl ⟨x3,K5,S3,rfl,FN,⟨by rw[f5.n,f4.n,g3.n,g2.n,g1.n],by rw[f5.cap,f4.cap,g3.cap,g2.cap,g1.cap],fun s d hs=>gP hK.ok FN.ok (fun s h=>by rw[qJ];omega) (fun s d d' h h'=>?_) _ s d hs (Nat.le_refl _),XK,JA,g3.is,qJ⟩⟩)
  have a:=f4.N s d' (f5.N s d' h')
  rw[g3.N s d (g2.N s d (g1.N s d h))]at a;exact(Option.some.inj a).symm
 ·refine Ext.mk rfl (Ext.mk rfl ?_)
  have jh:=hk.hold
  refine j6.fn (args:=#[ptr kp,u32 x2]) (.cons .here) (kU l5 (r:=x2) (by have:=de.bY l2;omega) (fun h2=>by rw[jh,iq,if_pos ⟨rfl,h2⟩];omega)) ?_
  rintro w C4 ⟨rfl,K4,Ic,f4⟩
  have nJ:∀s,K4.hold s=K1.hold s:=fun s=>by
   rw[f4.hold,jh,iq]
   split<;>omega
  refine j6.fn (args:=#[ptr kp,u32 x1]) (.cons .here) (kU Ic (r:=x1) (by have:=eB.bY l1;omega) (fun h2=>by rw[nJ,eU,if_pos ⟨rfl,h2⟩];omega)) ?_
  rintro w C5 ⟨rfl,K5,FN,f5⟩
  have qJ:∀s,K5.hold s=K.hold s:=fun s=>by
   rw[f5.hold,nJ,eU]
   split<;>omega
  have hfn:∀s,K.hold s≠0→S3 s=S s:=fun s hs=>(hk.fn s (by rw[iq,eU];omega)).trans (Sw s (CE s hs))
  refine az.mk .tail (.inr ⟨rfl,⟨K5,S3,[],FN,.inl rfl,⟨by rw[f5.n,f4.n,hk.n,g2.n,g1.n],by rw[f5.cap,f4.cap,hk.cap,g2.cap,g1.cap],qJ,fun g=>?_,hfn⟩⟩,.inr (.inr fun hfit=>hno ?_)⟩)
  ·constructor
   ·rintro⟨s,hs,rfl⟩
    have hs':K.hold s≠0:=by rw[←qJ];exact hs
    exact⟨s,hs',hfn s hs'⟩
   ·rintro⟨s,hs,rfl⟩
    exact⟨s,by show K5.hold s≠0;rw[qJ];exact hs,(hfn s hs).symm⟩
  ·rw[g2.n,g2.cap,g1.n,g1.cap]
   exact Fits.mono (fun g hg=>bM (fun g h=>h.imp (O2 g) id) hg) hfit
end
end Go.Proofs
set_option maxRecDepth 100000
namespace Go.Proofs
open Go Go.Sx
theorem vM{n:Nat}(hn:n≤16)(B:Hp):Rd Tryz.prog 254 #[.int .i64 (n:Int)] B (· =.int .i64 ((aD.wN n:Nat):Int)):=by
 intro g
 refine Am (R:=az _) ?_
 unfold L254
 have h1:1<<<n≤65536:=by rw[Nat.one_shiftLeft];exact Nat.pow_le_pow_right (n:=2) (by decide) hn
 refine ae.yG (a:=1) (b:=n) (by simp[IntKind.bits];omega) (by simp[aB];omega) ?_
 refine ae.ot (b:=6) (by simp[aB];omega) ?_
 refine⟨_,_,_,rfl,rfl,?_⟩
 refine cr.mk (.refl _) ?_
 have:1<<<n>>>6=2^n/64:=by rw[Nat.one_shiftLeft,Nat.shiftRight_eq_div_pow]
 rw[this]
 congr 1
 unfold aD.wN
 rw[Nat.max_def]
 split<;>split<;>omega
theorem C6{n:Nat}(hn:n≤16)(B:Hp):Rd Tryz.prog 255 #[.int .i64 (n:Int)] B (· =.int .u64 ((aD.cS n:Nat):Int)):=by
 intro g
 refine Al (R:=az _) ?_
 unfold L255
 refine ae.pe (a:=n) (b:=6) (Br.dec (fun h=>?_) (fun h=>?_))
 ·exact cr.mk (.refl _) (by unfold aD.cS;rw[if_pos h];rfl)
 ·have h1:2^n≤32:=Nat.pow_le_pow_right (n:=2) (by decide) (by omega:n≤5)
  have h2:2^2^n≤2^32:=Nat.pow_le_pow_right (by decide) h1
  have h3:=Nat.two_pow_pos (2^n)
  refine ae.yF (a:=1) (b:=n) ?_
  rw[Nat.one_shiftLeft,Nat.mod_eq_of_lt (by omega)]
  refine ae.yF (a:=1) ?_
  rw[Nat.one_shiftLeft,Nat.mod_eq_of_lt (by omega)]
  refine ae.bJ (b:=1) (by simp[aB];omega) (by omega) ?_
  exact cr.mk (.refl _) (by unfold aD.cS;rw[if_neg h])
theorem Ed{n:Nat}{ws:List Nat}(hn:n≤16)(hl:ws.length=aD.wN n)(hw:∀w∈ws,w<18446744073709551616){w:Nat}(hg:ws[ws.length-1]? =some w):
  (mV w (aD.cS n)=0)↔aD.eE n ws:=by
 have key:∀w,w<18446744073709551616→(mV w (aD.cS n)=0↔w≤aD.cS n):=by
  intro w hw
  constructor
  ·intro h
   have:w&&&aD.cS n=w:=by
    apply Nat.eq_of_testBit_eq;intro j
    have:=congrArg (fun x=>x.testBit j) h
    simp only[c9,Nat.zero_testBit]at this
    rw[Nat.testBit_and]
    cases h1:w.testBit j<;>cases h2:(aD.cS n).testBit j<;>simp_all
   rw[←this];exact Nat.and_le_right
  ·intro h
   have:=aD.rA h
   unfold mV;rw[this,Nat.xor_self]
 constructor
 ·intro h
  refine⟨hn,hl,fun u hu=>?_⟩
  by_cases h6:6≤n
  ·unfold aD.cS;rw[if_pos h6];have:=hw u hu;omega
  ·have h1:ws.length=1:=by rw[hl,aD.BV (by omega)]
   obtain⟨x,rfl⟩:=List.length_eq_one_iff.1 h1
   simp at hg hu
   subst hg;subst hu
   exact(key _ (hw _ (by simp))).1 h
 ·intro h
  exact(key w (hw w (List.mem_of_getElem? hg))).2 (h.full w (List.mem_of_getElem? hg))
theorem xj{B:Hp}{v:Value}{t:Tb}(ht:zD B v t):Rd Tryz.prog 232 #[v] B (· =.bool (decide (TF t))):=by
 obtain⟨tn,ws⟩:=t
 obtain⟨s,rfl,hs,hw⟩:=ht
 simp only at hs hw⊢
 intro g
 refine AH (R:=az _) ?_
 unfold L232
 intro b1 _ J hJ
 have hno:¬TF ⟨tn,ws⟩→JE J [.bool true] ((b1,.cells (Value.cells (.agg #[.int .i64 tn,s])) 57 (0,0))::B):=fun h=>
  JE.mk (hJ _ _ fun gs=>Br.yes (cr.mk .tail (by rw[decide_eq_false h])))
 refine DR.self ?_
 refine aa.mk (Ld.mk (by repeat (first|assumption|exact List.Mem.head _|apply List.Mem.tail|apply List.mem_append_right)) rfl ?_)
 refine ae.lss (Br.dec (fun h0=>hno fun h=>by have:=h.1;simp only at this;omega) (fun h0=>?_))
 obtain⟨n,rfl⟩:∃n:Nat,tn=n:=⟨tn.toNat,by omega⟩
 have X5:TF ⟨(n:Int),ws⟩↔aD.eE n ws:=by unfold TF;simp
 refine aa.mk (Ld.mk (by repeat (first|assumption|exact List.Mem.head _|apply List.Mem.tail|apply List.mem_append_right)) rfl ?_)
 refine ae.nP (b:=16) (aA.mk (Br.dec (fun h1=>hno fun h=>by have:=(X5.1 h).vF;omega) (fun h1=>?_)))
 refine aa.mk (Ld.mk (by repeat (first|assumption|exact List.Mem.head _|apply List.Mem.tail|apply List.mem_append_right)) rfl ?_)
 refine hs.bS ?_
 refine aa.mk (Ld.mk (by repeat (first|assumption|exact List.Mem.head _|apply List.Mem.tail|apply List.mem_append_right)) rfl ?_)
 intro F
 refine ag.rd (.cons .here) (vM (by omega) B) ?_
 rintro v rfl
 refine⟨(by repeat (first|exact aU.refl _|apply aU.cons|apply aU.skip|apply aU.dj|apply aU.o3)),?_⟩
 rw[aq]
 refine ae.GX (aA.mk ?_)
 simp only[cond_false]
 by_cases hl:ws.length=aD.wN n
 case neg=>rw[show decide (ws.length≠aD.wN n)=true by simp[hl]];exact hno fun h=>hl (X5.1 h).len
 rw[show decide (ws.length≠aD.wN n)=false by simp[hl]]
 refine JE.mk (hJ _ _ fun gs=>Br.no ?_)
 have hpos:=aD.Nn n
 obtain⟨w,hg⟩:∃w,ws[ws.length-1]? =some w:=⟨_,List.getElem?_eq_getElem (by omega)⟩
 refine DR.self ?_
 refine aa.mk (Ld.mk (by repeat (first|assumption|exact List.Mem.head _|apply List.Mem.tail|apply List.mem_append_right)) rfl ?_)
 refine aa.mk (Ld.mk (by repeat (first|assumption|exact List.Mem.head _|apply List.Mem.tail|apply List.mem_append_right)) rfl ?_)
 refine hs.bS ?_
 rw[aq]
 refine ae.bJ (b:=1) (by have:=aD.qc (n:=n) (by omega);simp[aB];omega) (by omega) ?_
 refine hs.ld (cB hg) (fun _ h=>by repeat (first|exact h|apply List.mem_cons_of_mem|apply List.mem_append_right)) ?_
 refine aa.mk (Ld.mk (by repeat (first|assumption|exact List.Mem.head _|apply List.Mem.tail|apply List.mem_append_right)) rfl ?_)
 refine ag.rd (.cons .here) (C6 (by omega) B) ?_
 rintro v rfl
 refine⟨(by repeat (first|exact aU.refl _|apply aU.cons|apply aU.skip|apply aU.dj|apply aU.o3)),?_⟩
 refine ae.IW (by have:=hw w (List.mem_of_getElem? hg);simpa[aB]using this) (by have:=aD.nQ n;simpa[aB]using this) ?_
 refine ae.fO (b:=0) ?_
 refine cr.mk .tail ?_
 congr 1
 exact decide_eq_decide.2 ((Ed (by omega) hl hw hg).trans X5.symm)
end Go.Proofs
set_option maxRecDepth 100000
namespace Go.Proofs
open Go Go.Sx
theorem qW{B:Hp}{v:Value}{ts:List Tb}(ht:fo B v ts)(bX:ts.length<2^62):Rd Tryz.prog 220 #[v] B (· =.bool (decide (∀t∈ts,TF t∧some t.n=ts.head?.map Tb.n))):=by
 intro g
 refine AM (R:=az _) ?_
 unfold L220
 refine ht.bS ?_
 refine⟨fun vs H=>bG B H∧∃k:Nat,vs=[.int .i64 (k:Int)]∧k≤ts.length∧∀i t,i<k→ts[i]? =some t→TF t∧some t.n=ts.head?.map Tb.n,fun vs _=>ts.length-bR vs 0,JE.mk ⟨.refl _,0,rfl,by omega,by omega⟩,?_⟩
 rintro w H ⟨hg,k,hv,hk,aP⟩ gs
 simp only[List.cons.injEq,and_true]at hv
 subst hv
 refine ae.fq (Br.dec (fun hlt=>?_) (fun hlt=>?_))
 ·obtain⟨t,gD⟩:∃t,ts[k]? =some t:=⟨_,List.getElem?_eq_getElem hlt⟩
  obtain⟨t0,RR⟩:∃t,ts[0]? =some t:=⟨_,List.getElem?_eq_getElem (by omega)⟩
  have hh:ts.head?.map Tb.n=some t0.n:=by rw[List.head?_eq_getElem?,RR];rfl
  have RQ:=ht.mono hg.sub
  refine RQ.ld gD (fun _ h=>h) fun s hs=>?_
  intro b1 _
  refine St.whole (r:=[.int .i64 t.n,s]) (by exact dH.head _) rfl rfl ?_ ?_
  ·obtain⟨a,c,rfl,_⟩:=hs.1.shape;simp[Value.oneCell']
  intro J hJ
  have hno:∀H',bG B H'→¬(TF t∧some t.n=ts.head?.map Tb.n)→JE J [.bool true] H':=fun H' O4 h=>
   JE.mk (hJ _ _ fun gs=>Br.yes (cr.mk O4.iQ (by rw[decide_eq_false];exact fun hh=>h (hh t (List.mem_of_getElem? gD)))))
  have MI:bG B ((b1,Obj.cells (List.toArray [.int .i64 t.n,s]) 57 (0,0))::H):=.cons hg
  refine DR.self ?_
  refine aC.whole (r:=[.int .i64 t.n,s]) (by exact List.Mem.head _) rfl ?_
  intro F
  refine ag.rd (B:=H) (.cons .here) (xj ⟨s,rfl,hs⟩) ?_
  rintro v rfl
  refine⟨.refl _,Un.not ?_⟩
  by_cases hT:TF t
  case neg=>rw[decide_eq_false hT];exact Br.yes (hno _ MI fun h=>hT h.1)
  rw[decide_eq_true hT]
  refine Br.no ?_
  refine aa.mk (Ld.mk (by repeat (first|assumption|exact List.Mem.head _|apply List.Mem.tail|apply List.mem_append_right)) rfl ?_)
  refine RQ.WR RR (fun _ h=>by repeat (first|exact h|apply List.mem_cons_of_mem|apply List.mem_append_right)) ?_
  refine ae.c7 (aA.mk ?_)
  simp only[cond_false]
  by_cases hn:t.n=t0.n
  case neg=>rw[decide_eq_true hn];exact hno _ MI fun h=>hn (by have:=h.2;rw[hh]at this;simpa using this)
  rw[decide_eq_false (by simpa using hn)]
  refine JE.mk (hJ _ _ fun gs=>Br.no ?_)
  refine ae.aK (b:=1) (by simp[aB];omega) ?_
  refine aF.mk ⟨MI,k+1,rfl,by omega,fun i u hi hu=>?_⟩ (by simp[bR];omega)
  by_cases e:i=k
  ·subst e;rw[gD]at hu;cases hu;exact⟨hT,by rw[hh,hn]⟩
  ·exact aP i u (by omega) hu
 ·refine cr.mk hg.iQ ?_
  rw[decide_eq_true]
  intro t Xc
  obtain⟨i,hi,rfl⟩:=List.mem_iff_getElem.1 Xc
  exact aP i _ (by omega) (List.getElem?_eq_getElem hi)
theorem qX{B:Hp}{b:Nat}{t:Tb}{s:Value}{T:TypeId}{fz:Nat×Nat}(hm:(b,Obj.cells #[.int .i64 t.n,s] T fz)∈B)(hw:Words B s t.ws):
  Rd Tryz.prog 220 #[.slice (some ⟨b,0,none⟩) 1 1] B (· =.bool (decide (TF t))):=
 (qW (fo.one (cap:=0) hm hw) (by simp)).mono fun v H ⟨h1,h2⟩=>⟨h1,by rw[h2];congr 1;simp⟩
theorem Rw{B:Hp}{v:Value}{t:Tb}(ht:zD B v t)(u:Int):Rd Tryz.prog 214 #[v,.int .i64 u] B (· =.int .i64 (if TF t then(if 0≤u∧u<t.n then 0 else 2)else 5)):=by
 obtain⟨s,rfl,hw⟩:=ht
 intro g
 refine AQ (R:=az _) ?_
 unfold L214
 intro b1 _
 refine aC.whole (r:=[.int .i64 t.n,s]) (by exact List.Mem.head _) rfl ?_
 refine nW fun b2=>?_
 refine ag.rd .here (qX (by exact List.Mem.head _) (hw.mono (fun _ h=>by repeat (first|exact h|apply List.mem_cons_of_mem|apply List.mem_append_right)))) ?_
 rintro v rfl
 refine Un.not ?_
 by_cases hT:TF t
 ·rw[decide_eq_true hT,if_pos hT]
  refine Br.no (ae.lss ?_)
  refine cw.or (decide (t.n≤u)) (fun h=>?_) rfl ?_
  ·refine aa.mk (Ld.mk (by repeat (first|assumption|exact List.Mem.head _|apply List.Mem.tail|apply List.mem_append_right)) rfl ?_)
   exact ae.geq ⟨rfl,rfl⟩
  ·intro gs
   have hor:(decide (u<0)||decide (t.n≤u))=decide (¬(0≤u∧u<t.n)):=by
    by_cases h1:u<0<;>by_cases h2:t.n≤u<;>simp[h1,h2]<;>omega
   rw[hor]
   refine Br.dec (fun h=>?_) (fun h=>?_)
   ·exact cr.mk (by repeat (first|exact aU.refl _|apply aU.cons|apply aU.skip|apply aU.dj|apply aU.o3)) (by rw[if_neg h])
   ·exact cr.mk (by repeat (first|exact aU.refl _|apply aU.cons|apply aU.skip|apply aU.dj|apply aU.o3)) (by rw[if_pos (Classical.not_not.1 h)])
 ·rw[decide_eq_false hT,if_neg hT]
  exact Br.yes (cr.mk (by repeat (first|exact aU.refl _|apply aU.cons|apply aU.skip|apply aU.dj|apply aU.o3)) rfl)
theorem tL{u i:Nat}(hu:u<64)(hi:i<18446744073709551616)(CJ:i<9223372036854775808)(B:Hp):Rd Tryz.prog 219 #[.int .i64 (u:Int),.int .i64 (i:Int)] B
  (· =.int .u64 ((if 6≤u then(if(i>>>(u-6)).testBit 0 then 18446744073709551615 else 0)else aD.mask u:Nat):Int)):=by
 intro g
 refine AN (R:=az _) ?_
 unfold L219
 refine ae.pe (a:=u) (b:=6) (Br.dec (fun h=>?_) (fun h=>?_))
 ·refine aW.nat (by simpa[aB]using hi) ?_
  refine ae.bJ (b:=6) (by simp[aB];omega) h ?_
  refine ae.ot (by simpa[aB]using hi) ?_
  have hs:i>>>(u-6)<18446744073709551616:=Nat.lt_of_le_of_lt (Nat.shiftRight_le _ _) hi
  refine ae.nZ (b:=1) (by simpa[aB]using hs) (by decide) ?_
  refine Un.WG (by rw[aD.fF];split<;>decide) ?_
  refine cr.mk (.refl _) ?_
  rw[if_pos h,aD.fF]
  split<;>rfl
 ·refine⟨fun vs H=>H=B∧∃j:Nat,vs=[.int .u64 ((aD.vg u j:Nat):Int),.int .i64 (j:Int)]∧j≤64,fun vs _=>64-bR vs 1,JE.mk ⟨rfl,0,rfl,by omega⟩,?_⟩
  rintro w1 w2 H ⟨rfl,j,hv,hj⟩ gs
  simp only[List.cons.injEq,and_true]at hv
  obtain⟨rfl,rfl⟩:=hv
  refine ae.fq (b:=64) (Br.dec (fun hlt=>?_) (fun hlt=>?_))
  ·refine ae.ot (by simp[aB];omega) ?_
   have hs:j>>>u<64:=Nat.lt_of_le_of_lt (Nat.shiftRight_le _ _) hlt
   refine ae.nZ (b:=1) (by simp[aB];omega) (by decide) ?_
   have h1:j>>>u&&&1≤1:=by rw[aD.fF];split<;>decide
   refine aW.nat (by simp[aB];omega) ?_
   refine ae.yF ?_
   have h2:((j>>>u&&&1)<<<j)<18446744073709551616:=by
    rw[Nat.shiftLeft_eq]
    calc _≤1*2^j:=Nat.mul_le_mul_right _ h1
     _<2^64:=by rw[Nat.one_mul];exact Nat.pow_lt_pow_right (by decide) hlt
   rw[Nat.mod_eq_of_lt h2]
   have h3:aD.vg u j<18446744073709551616:=Nat.lt_of_lt_of_le (aD.ve u j) (Nat.pow_le_pow_right (n:=2) (by decide) hj)
   refine ae.Qo (by simpa[aB]using h3) (by simpa[aB]using h2) ?_
   refine ae.aK (b:=1) (by simp[aB];omega) ?_
   exact aF.mk ⟨rfl,j+1,rfl,by omega⟩ (by simp[bR];omega)
  ·have:j=64:=by omega
   subst this
   exact cr.mk (.refl _) (by rw[if_neg h];rfl)
end Go.Proofs
set_option maxRecDepth 100000
namespace Go.Proofs
open Go Go.Sx
theorem lK{n:Nat}(hn:n≤16){fv:Value}{f:FuncId}{first cap:Array Value}(HO:fv=.func (.func f) first cap)(fx:bh Tryz.prog f=true){F:Nat→Nat}(hF:∀i,i<aD.wN n→F i<18446744073709551616){B:Hp}
 (hc:∀i:Nat,i<aD.wN n→Rd Tryz.prog f (first++ #[.int .i64 (i:Int)]++cap) B (· =.int .u64 ((F i:Nat):Int))):
  Px Tryz.prog 212 #[.int .i64 (n:Int),fv] B (fun v H=>zD H v ⟨n,(List.range (aD.wN n)).map fun i=>F i&&&aD.cS n⟩):=by
 intro g
 have UC:=aD.qc hn
 refine AS (R:=az _) ?_
 unfold L212
 intro b1 _
 refine ag.rd (.cons .here) (vM hn B) ?_
 rintro v rfl
 refine cW.ints (iJ hn).1 (iJ hn).2 fun bw=>?_
 refine Build.mk (cs:=[.int .i64 (n:Int),.slice (some ⟨bw,0,none⟩) (aD.wN n) (aD.wN n)]) (by kernel_rfl) ?_
 intro b8 _
 refine St.whole (r:=[.int .i64 (n:Int),.slice (some ⟨bw,0,none⟩) (aD.wN n) (aD.wN n)]) (by exact dH.head _) rfl rfl (by simp[Value.oneCell']) ?_
 refine aa.mk (Ld.mk (by repeat (first|assumption|exact List.Mem.head _|apply List.Mem.tail|apply List.mem_append_right)) rfl ?_)
 refine bA.mk ?_
 rw[range_zero (G:=fun i=>F i&&&aD.cS n)]
 refine⟨fun vs H=>∃i:Nat,vs=[.int .i64 (i:Int)]∧i≤aD.wN n∧H=(b8,.cells (List.toArray [.int .i64 (n:Int),.slice (some ⟨bw,0,none⟩) (aD.wN n) (aD.wN n)]) 57 (0,0))::
   (bw,.cells (ax .u64 (iw ((List.range (aD.wN n)).map fun k=>if k<i then F k&&&aD.cS n else 0))) 50 (0,0))::(b1,.cells #[.int .i64 0,.slice none 0 0] 57 (0,0))::B,
  fun vs _=>aD.wN n-bR vs 0,JE.mk ⟨0,rfl,by omega,rfl⟩,?_⟩
 rintro w H ⟨i,hv,hi,rfl⟩ gs
 simp only[List.cons.injEq,and_true]at hv
 subst hv
 refine ae.fq (Br.dec (fun hlt=>?_) (fun hlt=>?_))
 ·refine DR.self ?_
  refine aa.mk (Ld.mk (by repeat (first|assumption|exact List.Mem.head _|apply List.Mem.tail|apply List.mem_append_right)) rfl ?_)
  refine cg.of HO fx ?_
  refine ag.rd (.cons (.cons (.cons .here))) (hc i hlt) ?_
  rintro v rfl
  refine⟨.refl _,?_⟩
  refine ag.rd (.cons (.cons (.cons .here))) (C6 hn B) ?_
  rintro v rfl
  refine⟨.refl _,?_⟩
  refine ae.nZ (by simpa[aB]using hF i hlt) (by simpa[aB]using aD.nQ n) ?_
  refine ai.nat hlt ?_
  refine St.ints (l:=iw _) (by exact .tail (.head _)) (by simpa using hlt) ?_
  refine ae.aK (b:=1) (by simp[aB];omega) ?_
  rw[DY hlt]
  exact aF.mk ⟨i+1,rfl,by omega,rfl⟩ (by simp[bR];omega)
 ·have:i=aD.wN n:=by omega
  subst this
  rw[yL]
  refine aC.whole (r:=[.int .i64 (n:Int),.slice (some ⟨bw,0,none⟩) (aD.wN n) (aD.wN n)]) (by exact List.Mem.head _) rfl ?_
  refine St.whole (r:=[.int .i64 (n:Int),.slice (some ⟨bw,0,none⟩) (aD.wN n) (aD.wN n)]) (by exact .tail (.tail (.head _))) rfl rfl (by simp[Value.oneCell']) ?_
  refine aC.whole (r:=[.int .i64 (n:Int),.slice (some ⟨bw,0,none⟩) (aD.wN n) (aD.wN n)]) (by exact .tail _ (.tail _ (.head _))) rfl ?_
  refine Du.mk (by repeat (first|exact bG.refl _|apply bG.cons|apply bG.app)) ⟨_,rfl,?_⟩
  have:=Words.block (b:=bw) (cap:=aD.wN n) (ws:=(List.range (aD.wN n)).map fun i=>F i&&&aD.cS n) (T:=50) (fz:=(0,0)) (B:=(b8,.cells (List.toArray [.int .i64 (n:Int),.slice (some ⟨bw,0,none⟩) (aD.wN n) (aD.wN n)]) 57 (0,0))::
   (bw,.cells (ax .u64 (iw ((List.range (aD.wN n)).map fun i=>F i&&&aD.cS n))) 50 (0,0))::(b1,.cells (List.toArray [.int .i64 (n:Int),.slice (some ⟨bw,0,none⟩) (aD.wN n) (aD.wN n)]) 57 (0,0))::B) (by exact .tail _ (.head _)) (by simp) (fun w hw=>by
    obtain⟨k,_,rfl⟩:=List.mem_map.1 hw
    exact Nat.lt_of_le_of_lt Nat.and_le_right (aD.nQ n))
  simpa using this
theorem HY{B:Hp}{pv pb pa s:Value}{u n i:Nat}{c:Bool}{ws:List Nat}(hv:Go.Sx.At B pv [.int .i64 (u:Int)])(hb:Go.Sx.At B pb [.bool c])(ha:Go.Sx.At B pa [.int .i64 (n:Int),s])(hw:Words B s ws)(hf:aD.eE n ws)(hu:u<n)(hi:i<aD.wN n):
  Rd Tryz.prog 256 #[.int .i64 (i:Int),pv,pb,pa] B (· =.int .u64 ((aD.nO ws u c i:Nat):Int)):=by
 intro g
 have hn:=hf.vF
 have UC:=aD.qc hn
 refine Ak (R:=az _) ?_
 unfold L256
 refine Ld.at hv (fun _ h=>h) ?_
 refine ae.pe (a:=u) (b:=6) (Br.dec (fun h6=>?_) (fun h6=>?_))
 ·have hp:2^(u-6)≤1024:=Nat.pow_le_pow_right (n:=2) (by decide) (by omega:u-6≤10)
  refine Ld.at hv (fun _ h=>h) ?_
  refine ae.bJ (b:=6) (by simp[aB];omega) h6 ?_
  refine ae.yG (a:=1) (by simp[IntKind.bits];omega) (by rw[Nat.one_shiftLeft];simp[aB];omega) ?_
  rw[Nat.one_shiftLeft]
  refine ae.IW (by simp[aB];omega) (by simp[aB];omega) ?_
  have hand:=nY i (2^(u-6))
  intro J hJ
  have RU:aD.aI i (u-6) c<aD.wN n:=by
   rw[aD.BW (by omega)]at hi⊢
   exact aD.Ks hi (by omega)
  have oH:JE J [.int .i64 ((aD.aI i (u-6) c:Nat):Int)] B:=by
   refine JE.mk (hJ _ _ fun gs=>?_)
   refine aa.at ha fun q hq=>Ld.at hq (fun _ h=>h) ?_
   have hg:ws[aD.aI i (u-6) c]? =some (ws.getD (aD.aI i (u-6) c) 0):=by rw[List.getElem?_eq_getElem (by rw[hf.len];exact RU),List.getD_eq_getElem?_getD,List.getElem?_eq_getElem (by rw[hf.len];exact RU)];rfl
   refine hw.1.ld (cB hg) (fun _ h=>h) ?_
   exact cr.mk (.refl _) (by unfold aD.nO;rw[if_pos h6])
  refine Ld.at hb (fun _ h=>h) ?_
  cases c
  ·exact Br.no oH
  ·refine Br.yes ?_
   refine Ld.at hv (fun _ h=>h) ?_
   refine ae.bJ (b:=6) (by simp[aB];omega) h6 ?_
   refine ae.yG (a:=1) (by simp[IntKind.bits];omega) (by rw[Nat.one_shiftLeft];simp[aB];omega) ?_
   rw[Nat.one_shiftLeft]
   refine ae.Qo (by simp[aB];omega) (by simp[aB];omega) ?_
   have e:mV i (2^(u-6))|||2^(u-6)=aD.aI i (u-6) true:=by
    apply Nat.eq_of_testBit_eq;intro k
    rw[Nat.testBit_or,c9,aD.ay,Nat.testBit_two_pow]
    by_cases e:k=u-6
    ·simp[e]
    ·simp[e,Ne.symm e]
   rw[e];exact oH
 ·have hp:2^u≤32:=Nat.pow_le_pow_right (n:=2) (by decide) (by omega:u≤5)
  have hg:ws[i]? =some (ws.getD i 0):=by rw[List.getElem?_eq_getElem (by rw[hf.len];exact hi),List.getD_eq_getElem?_getD,List.getElem?_eq_getElem (by rw[hf.len];exact hi)];rfl
  have hwi:=hw.2 _ (List.mem_of_getElem? hg)
  have hm:=aD.ig u
  refine DR.self ?_
  refine Ld.at hv (fun _ h=>h) (Ld.at hv (fun _ h=>h) ?_)
  refine ae.yG (a:=1) (b:=u) (by simp[IntKind.bits];omega) (by rw[Nat.one_shiftLeft];simp[aB];omega) ?_
  rw[Nat.one_shiftLeft]
  refine ag.rd .here (tL (u:=u) (i:=0) (by omega) (by omega) (by omega) B) ?_
  rintro v rfl
  rw[if_neg h6]
  refine⟨.refl _,?_⟩
  refine Ld.at hb (fun _ h=>h) ?_
  cases c
  ·refine Br.no ?_
   refine aa.at ha fun q hq=>Ld.at hq (fun _ h=>h) ?_
   refine hw.1.ld (cB hg) (fun _ h=>h) ?_
   refine ae.IW (by simpa[aB]using hwi) (by simpa[aB]using hm) ?_
   refine ae.yF ?_
   have:=nY (ws.getD i 0) (aD.mask u)
   refine ae.Qo (by simp only[aB];omega) (by simp only[aB];omega) ?_
   exact cr.mk (.refl _) (by unfold aD.nO;rw[if_neg h6];rfl)
  ·refine Br.yes ?_
   refine aa.at ha fun q hq=>Ld.at hq (fun _ h=>h) ?_
   refine hw.1.ld (cB hg) (fun _ h=>h) ?_
   refine ae.nZ (by simpa[aB]using hwi) (by simpa[aB]using hm) ?_
   have h1:ws.getD i 0&&&aD.mask u≤ws.getD i 0:=Nat.and_le_left
   refine ae.ot (by simp only[aB];omega) ?_
   have h2:=Nat.shiftRight_le (ws.getD i 0&&&aD.mask u) (2^u)
   refine ae.Qo (by simp only[aB];omega) (by simp only[aB];omega) ?_
   exact cr.mk (.refl _) (by unfold aD.nO;rw[if_neg h6];rfl)
theorem Lb{B:Hp}{v:Value}{n u:Nat}{ws:List Nat}{c:Bool}(ht:zD B v ⟨n,ws⟩)(hf:aD.eE n ws)(hu:u<n):
  Px Tryz.prog 215 #[v,.int .i64 (u:Int),.bool c] B (fun v H=>zD H v ⟨n,aD.jl n ws u c⟩):=by
 obtain⟨s,rfl,hw⟩:=ht
 intro g
 refine AP (R:=az _) ?_
 unfold L215
 intro b1 _ b3 _ b5 _ b7 _
 refine aa.mk (Ld.mk (by repeat (first|assumption|exact List.Mem.head _|apply List.Mem.tail|apply List.mem_append_right)) rfl ?_)
 refine ag.px (.cons .here) (lK hf.vF rfl (by kernel_rfl) (F:=fun i=>aD.nO ws u c i) (fun i hi=>?_) (fun i hi=>?_)) ?_
 ·unfold aD.nO
  split
  ·by_cases h:aD.aI i (u-6) c<ws.length
   ·rw[List.getD_eq_getElem?_getD,List.getElem?_eq_getElem h];exact hf.lt (List.getElem_mem h)
   ·rw[List.getD_eq_getElem?_getD,List.getElem?_eq_none (by omega)];decide
  ·have hg:ws.getD i 0<2^64:=by rw[List.getD_eq_getElem?_getD,List.getElem?_eq_getElem (by rw[hf.len];exact hi)];exact hf.lt (List.getElem_mem _)
   split
   ·refine Nat.or_lt_two_pow (n:=64) (Nat.lt_of_le_of_lt Nat.and_le_left hg) (Nat.lt_of_le_of_lt (Nat.shiftRight_le _ _) (Nat.lt_of_le_of_lt Nat.and_le_left hg))
   ·exact Nat.or_lt_two_pow (n:=64) (Nat.lt_of_le_of_lt (nY _ _) hg) (Nat.mod_lt _ (by decide))
 ·exact HY (Go.Sx.At.block (l:=[.int .i64 (u:Int)]) (by repeat (first|assumption|exact List.Mem.head _|apply List.Mem.tail|apply List.mem_append_right))) (Go.Sx.At.block (l:=[.bool c]) (by repeat (first|assumption|exact List.Mem.head _|apply List.Mem.tail|apply List.mem_append_right))) (Go.Sx.At.block (l:=[.int .i64 (n:Int),s]) (by repeat (first|assumption|exact List.Mem.head _|apply List.Mem.tail|apply List.mem_append_right))) (hw.mono (fun _ h=>by repeat (first|exact h|apply List.mem_cons_of_mem|apply List.mem_append_right))) hf hu hi
 ·rintro v N ⟨s',rfl,cU⟩
  refine St.whole (r:=[.int .i64 (n:Int),s']) (by exact .head _) rfl rfl ?_ ?_
  ·have:=aO cU;simpa[Value.oneCell']using this
  refine aC.whole (r:=[.int .i64 (n:Int),s']) (by exact .head _) rfl ?_
  exact Du.mk (by repeat (first|exact bG.refl _|apply bG.cons|apply bG.app)) ⟨s',rfl,cU.mono (fun _ h=>by repeat (first|exact h|apply List.mem_cons_of_mem|apply List.mem_append_right))⟩
end Go.Proofs
set_option maxRecDepth 100000
namespace Go.Proofs
open Go Go.Sx
theorem uw{B:Hp}{v:Value}{n u:Nat}{ws:List Nat}{c:Bool}(ht:zD B v ⟨n,ws⟩)(hf:aD.eE n ws)(hu:u<n):
  Px Tryz.prog 148 #[v,.int .i64 (u:Int),.bool c] B (fun r H=>∃v',r=.tuple #[v',.int .i64 0]∧zD H v' ⟨n,aD.jl n ws u c⟩):=by
 obtain⟨s,rfl,hw⟩:=ht
 intro g
 refine Bn (R:=az _) ?_
 unfold L148
 intro b1 _ b3 _
 refine aC.whole (r:=[.int .i64 (n:Int),s]) (by exact .tail _ (.head _)) rfl ?_
 refine ag.rd .here (Rw (t:=⟨n,ws⟩) ⟨s,rfl,hw.mono (fun _ h=>by repeat (first|exact h|apply List.mem_cons_of_mem|apply List.mem_append_right))⟩ (u:Int)) ?_
 rintro v rfl
 rw[if_pos (show TF ⟨(n:Int),ws⟩from⟨by simp,by simpa using hf⟩),if_pos ⟨by omega,by simp only;omega⟩]
 refine ae.c7 (Br.aX (by simp) ?_)
 refine aC.whole (r:=[.int .i64 (n:Int),s]) (by exact .tail _ (.head _)) rfl ?_
 refine ag.px (.cons .here) (Lb (v:=.agg (List.toArray [.int .i64 (n:Int),s])) ⟨s,rfl,hw.mono (fun _ h=>by repeat (first|exact h|apply List.mem_cons_of_mem|apply List.mem_append_right))⟩ hf hu) ?_
 rintro v N ⟨s',rfl,cU⟩
 refine St.whole (r:=[.int .i64 (n:Int),s']) (by exact .head _) rfl rfl ?_ ?_
 ·have:=aO cU;simpa[Value.oneCell']using this
 refine aC.whole (r:=[.int .i64 (n:Int),s']) (by exact .head _) rfl ?_
 exact Du.mk (by repeat (first|exact bG.refl _|apply bG.cons|apply bG.app)) ⟨_,rfl,s',rfl,cU.mono (fun _ h=>by repeat (first|exact h|apply List.mem_cons_of_mem|apply List.mem_append_right))⟩
theorem xC{w j:Nat}(hj:j<8):((List.range (j+1)).map fun i=>UInt8.ofNat (w>>>(8*i)))=((List.range j).map fun i=>UInt8.ofNat (w>>>(8*i)))++[UInt8.ofNat (w>>>(8*j))]:=by
 rw[List.range_succ,List.map_append];rfl
theorem EL(l:List UInt8)(n:Nat):oP (l++[UInt8.ofNat n])=oP l++[[Value.int .u8 ((n%256:Nat):Int)]]:=by
 simp[oP]
theorem yV{B:Hp}{v:Value}{t:Tb}(ht:zD B v t)(hl:t.ws.length≤4294967296):Rd Tryz.prog 234 #[v] B (· =uy (aD.fk t.ws)):=by
 obtain⟨s,rfl,hw⟩:=ht
 intro g
 refine AE (R:=az _) ?_
 unfold L234
 intro b1 _
 refine aa.mk (Ld.mk (by repeat (first|assumption|exact List.Mem.head _|apply List.Mem.tail|apply List.mem_append_right)) rfl ?_)
 refine hw.1.bS ?_
 rw[aq]
 refine⟨fun vs H=>∃(k:Nat) (v:Value) (C:Hp),vs=[v,.int .i64 (k:Int)]∧k≤t.ws.length∧H=C++B∧aQ 5 1 v (oP (aD.fk (t.ws.take k))) C,fun vs _=>t.ws.length-bR vs 1,
  JE.of (.tail) ⟨0,_,[],rfl,by omega,rfl,aQ.nil _ _⟩,?_⟩
 rintro w6 w7 H ⟨k,v,C,hv,hk,rfl,ho⟩ gs
 simp only[List.cons.injEq,and_true]at hv
 obtain⟨rfl,rfl⟩:=hv
 refine ae.fq (Br.dec (fun hlt=>?_) (fun hlt=>?_))
 ·have hg:t.ws[k]? =some t.ws[k]:=List.getElem?_eq_getElem hlt
  have hwk:=hw.2 _ (List.getElem_mem hlt)
  refine hw.1.ld (cB hg) (fun _ h=>by repeat (first|exact h|apply List.mem_cons_of_mem|apply List.mem_append_right)) ?_
  have hlen:(oP (aD.fk (t.ws.take k))).length=8*k:=by simp only[oP,List.length_map,aD.o9,List.length_take];omega
  refine⟨fun vs H=>∃(j:Nat) (v:Value) (C:Hp),vs=[v,.int .i64 (j:Int)]∧j≤8∧H=C++B∧aQ 5 1 v (oP (aD.fk (t.ws.take k)++(List.range j).map fun i=>UInt8.ofNat (t.ws[k]>>>(8*i)))) C,fun vs _=>8-bR vs 1,
   JE.mk ⟨0,_,C,rfl,by omega,rfl,by simpa using ho⟩,?_⟩
  rintro w8 w9 H ⟨j,v,C,hv,hj,rfl,ho⟩ gs
  simp only[List.cons.injEq,and_true]at hv
  obtain⟨rfl,rfl⟩:=hv
  refine ae.fq (b:=8) (Br.dec (fun h8=>?_) (fun h8=>?_))
  ·refine ae.uH (a:=8) (by simp[aB];omega) ?_
   refine ae.ot (by simpa[aB]using hwk) ?_
   refine aW.YW ?_
   refine au.int (e:=5) (by kernel_rfl) (by kernel_rfl) (by kernel_rfl) fun xb=>?_
   refine ho.IT (A:=[_]) (r:=[Value.int .u8 (((t.ws[k]>>>(8*j))%256:Nat):Int)]) (by exact .head _) rfl (by simp[Value.oneCell']) ⟨[.int .u8 0],rfl,rfl⟩ (by simp only[oP,List.length_map,List.length_append,List.length_range]at hlen⊢;omega) (by simp only[oP,List.length_map,List.length_append,List.length_range]at hlen⊢;omega) fun v' C' ct=>?_
   refine ae.aK (b:=1) (by simp[aB];omega) ?_
   refine aF.of .tail ⟨j+1,_,C',rfl,by omega,rfl,?_⟩ (by simp[bR];omega)
   rw[xC h8,←List.append_assoc,EL];exact ct
  ·have:j=8:=by omega
   subst this
   refine ae.aK (b:=1) (by simp[aB];omega) ?_
   refine aF.mk ⟨k+1,_,C,rfl,by omega,rfl,?_⟩ (by simp[bR];omega)
   rw[List.take_succ_eq_append_getElem hlt,aD.fk,List.flatMap_append]
   simpa[aD.fk,aD.iJ]using ho
 ·have:k=t.ws.length:=by omega
  subst this
  rw[List.take_length]at ho
  refine iM.own ho (fun _ h=>List.mem_append_left _ h) ?_
  exact cr.mk .right rfl
theorem PK{B:Hp}{b n:Nat}{es:Array MapEntry}{ck:Nat}{m:List (List UInt8×List Nat)}{v:Value}{ws:List Nat}(hE:eV n B es ck m)(ht:zD B v ⟨n,ws⟩)(hf:aD.eE n ws):
  Fc Tryz.prog 233 #[.map (some b),v] ((b,.map es ck)::B) (fun _ H=>∃es' cu N,H=(b,.map es' cu)::(N++B)∧eV n (N++B) es' cu (uv m ws)):=by
 obtain⟨s,rfl,hw⟩:=ht
 intro g
 refine AG (R:=az _) ?_
 unfold L233
 intro b1 _
 refine DR.self ?_
 refine aC.whole (r:=[.int .i64 (n:Int),s]) (by exact .head _) rfl ?_
 refine aC.whole (r:=[.int .i64 (n:Int),s]) (by exact .head _) rfl ?_
 refine ag.rd (.cons (.cons .here)) (yV (t:=⟨n,ws⟩) ⟨s,rfl,hw⟩ (u6 hf)) ?_
 rintro v rfl
 refine⟨.refl _,?_⟩
 refine hE.bT (b:=b) ⟨s,rfl,hw⟩ hf fun es' cu JK=>⟨_,.tail (.head _),?_⟩
 exact az.mk (j5:=(b,.map es' cu)::([]++B)) .tail ⟨es',cu,[],rfl,JK⟩
theorem D5{B:Hp}{v:Value}{n:Nat}{ts:List Tb}{L:List (List Nat)}(ht:fo B v ts)(hL:ts=L.map fun ws=>⟨n,ws⟩)(hf:∀ws∈L,aD.eE n ws)(bX:L.length<4611686018427387904):
  Fc Tryz.prog 176 #[v] B (fun r H=>∃b es ck m N,r=.map (some b)∧H=(b,.map es ck)::(N++B)∧eV n (N++B) es ck m∧∀x,x∈m.map Prod.snd↔x∈L):=by
 have hlen:ts.length=L.length:=by rw[hL];simp
 intro g
 refine Bf (R:=az _) ?_
 unfold L176
 intro b _
 refine ht.bS ?_
 rw[hlen]
 refine⟨fun vs H=>∃(k:Nat) (es:Array MapEntry) (ck:Nat) (m:List (List UInt8×List Nat)) (N:Hp),vs=[.int .i64 (k:Int)]∧k≤L.length∧H=(b,.map es ck)::(N++B)∧eV n (N++B) es ck m∧∀x,x∈m.map Prod.snd↔x∈L.take k,
  fun vs _=>L.length-bR vs 0,JE.mk ⟨0,_,_,[],[],rfl,by omega,rfl,eV.empty _ _,by simp⟩,?_⟩
 rintro w H ⟨k,es,ck,m,N,hv,hk,rfl,hE,hm⟩ gs
 simp only[List.cons.injEq,and_true]at hv
 subst hv
 refine ae.fq (Br.dec (fun hlt=>?_) (fun hlt=>?_))
 ·have hg:ts[k]? =some ⟨n,L[k]⟩:=by rw[hL,List.getElem?_map,List.getElem?_eq_getElem hlt];rfl
  have nM:=hf L[k] (List.getElem_mem hlt)
  refine ht.ld hg (fun _ h=>by repeat (first|exact h|apply List.mem_cons_of_mem|apply List.mem_append_right)) fun s hw=>?_
  intro b2 _
  refine St.whole (r:=[.int .i64 (n:Int),s]) (by exact .head _) rfl rfl ?_ ?_
  ·have:=aO hw;simpa[Value.oneCell']using this
  refine aC.whole (r:=[.int .i64 (n:Int),s]) (by exact .head _) rfl ?_
  refine ag.fn (.cons .here) (PK hE ⟨s,rfl,hw.mono (fun _ h=>by repeat (first|exact h|apply List.mem_cons_of_mem|apply List.mem_append_right))⟩ nM) ?_
  rintro r C' ⟨es',cu,N',rfl,JK⟩
  refine ae.aK (b:=1) (by simp[aB];omega) ?_
  refine aF.of .tail ⟨k+1,es',cu,uv m L[k],N'++N,rfl,by omega,by rw[List.append_assoc],by rw[List.append_assoc];exact JK,fun x=>?_⟩ (by simp[bR];omega)
  rw[oo hE.2 nM,hm,List.take_succ_eq_append_getElem hlt,List.mem_append,List.mem_singleton]
 ·have:k=L.length:=by omega
  subst this
  rw[List.take_length]at hm
  exact az.here ⟨b,es,ck,m,N,rfl,rfl,hE,hm⟩
theorem Ik{B:Hp}{bm n u:Nat}{es:Array MapEntry}{ck:Nat}{m:List (List UInt8×List Nat)}(hm:(bm,Obj.map es ck)∈B)(hE:eV n B es ck m)(hu:u<n)(bX:m.length<4611686018427387904):
  Fc Tryz.prog 177 #[.map (some bm),.int .i64 (u:Int)] B (fun r H=>∃b' es' cu m' N,r=.tuple #[.map (some b'),.int .i64 ((aD.nodes n (m.map Prod.snd) u).length:Int)]∧H=(b',.map es' cu)::(N++B)∧eV n (N++B) es' cu m'∧
   ∀x,x∈m'.map Prod.snd↔∃t∈m.map Prod.snd,∃c,x=aD.jl n t u c):=by
 intro g
 refine Be (R:=az _) ?_
 unfold L177
 intro b' _
 refine .inr ⟨bm,es,ck,rfl,.tail _ hm,fun bi _=>?_⟩
 refine⟨fun vs H=>∃(es':Array MapEntry) (cu:Nat) (m':List (List UInt8×List Nat)) (seen:Array Nat) (N:Hp) (D:List (List Nat)),vs=[.int .i64 ((aD.nodes n D u).length:Int)]∧
   H=(bi,.mapIter (some bm) ck seen ck)::(b',.map es' cu)::(N++B)∧eV n (N++B) es' cu m'∧(m.map Prod.snd).Perm (D++(cq es m seen).map Prod.snd)∧∀x,x∈m'.map Prod.snd↔∃t∈D,∃c,x=aD.jl n t u c,
  fun vs H=>match H with|(_,.mapIter _ _ seen _)::_=>(cq es m seen).length|_=>0,JE.mk ⟨_,_,[],_,[],[],rfl,rfl,eV.empty _ _,?_,by simp⟩,?_⟩
 ·rw[mG hE.1];simp
 rintro w H ⟨es',cu,m',seen,N,D,hv,rfl,JK,fu,hmem⟩ gs
 simp only[List.cons.injEq,and_true]at hv
 subst hv
 have hbm:∀{X:Hp},(bm,Obj.map es ck)∈X++B:=List.mem_append_right _ hm
 refine hE.1.next (.tail _ (.tail _ hbm)) (.head _) (fun e x seen' he hkey hval hstep SJ hfind=>⟨_,.head _,?_⟩) (fun Xq=>?_)
 ·obtain⟨bs,ws⟩:=x
  simp only at hval hkey
  refine Ext.mk rfl (Br.yes ?_)
  refine⟨bi,bm,ck,seen',e.born,ck,es,e,rfl,.head _,SJ,.tail _ (.tail _ hbm),hfind,?_⟩
  refine Ext.mk rfl ?_
  have hx:(bs,ws)∈m:=by
   have h:=hstep.mem_iff.2 (List.mem_cons_self (a:=(bs,ws)))
   unfold cq at h
   obtain⟨p,hp,nh⟩:=List.mem_map.1 h
   rw[←nh]
   exact(List.of_mem_zip (List.mem_filter.1 hp).1).2
  obtain⟨hbs,hf⟩:=hE.2 _ hx
  simp only at hbs hf
  obtain⟨s,SB,hw⟩:=hval
  rw[SB]
  have hone:=aO hw
  intro b1 _
  refine St.whole (r:=[.int .i64 (n:Int),s]) (by exact .head _) rfl rfl (by simpa[Value.oneCell']using hone) ?_
  refine aC.whole (r:=[.int .i64 (n:Int),s]) (by exact .head _) rfl ?_
  refine ag.px (B:=N++B) (.cons (.cons (.cons .here))) (uw (n:=n) (ws:=ws) ⟨s,rfl,hw.mono (fun _ h=>by repeat (first|exact h|apply List.mem_cons_of_mem|apply List.mem_append_right))⟩ hf hu) ?_
  rintro r N1 ⟨v1,rfl,s1,rfl,js⟩
  have Sa:=aO js
  refine Ext.mk rfl (Ext.mk rfl ?_)
  intro b2 _
  refine St.whole (r:=[.int .i64 (n:Int),s1]) (by exact .head _) rfl rfl (by simpa[Value.oneCell']using Sa) ?_
  refine aC.whole (r:=[.int .i64 (n:Int),s]) (by exact .tail _ (.head _)) rfl ?_
  refine ag.px (B:=N1++(N++B)) (.cons (.cons (.cons (.cons .here)))) (uw (n:=n) (ws:=ws) ⟨s,rfl,hw.mono (fun _ h=>by repeat (first|exact h|apply List.mem_cons_of_mem|apply List.mem_append_right))⟩ hf hu) ?_
  rintro r N2 ⟨v2,rfl,s2,rfl,pW⟩
  have R8:=aO pW
  refine Ext.mk rfl (Ext.mk rfl ?_)
  intro b3 _
  refine St.whole (r:=[.int .i64 (n:Int),s2]) (by exact .head _) rfl rfl (by simpa[Value.oneCell']using R8) ?_
  refine DR.self ?_
  refine aC.whole (r:=[.int .i64 (n:Int),s1]) (by exact .tail _ (.head _)) rfl ?_
  refine aC.whole (r:=[.int .i64 (n:Int),s2]) (by exact .head _) rfl ?_
  have f1:=aD.ir (v:=u) (ws:=ws) (b:=false) hf.vF
  have f2:=aD.ir (v:=u) (ws:=ws) (b:=true) hf.vF
  refine ag.rd (B:=N2++(N1++(N++B))) (.cons (.cons (.cons (.cons (.cons .here))))) (yV (t:=⟨n,aD.jl n ws u false⟩) ⟨s1,rfl,js.mono (fun _ h=>by repeat (first|exact h|apply List.mem_cons_of_mem|apply List.mem_append_right))⟩ (u6 f1)) ?_
  rintro v rfl
  refine⟨.refl _,?_⟩
  refine ag.rd (B:=N2++(N1++(N++B))) (.cons (.cons (.cons (.cons (.cons .here))))) (yV (t:=⟨n,aD.jl n ws u true⟩) ⟨s2,rfl,pW⟩ (u6 f2)) ?_
  rintro v rfl
  refine⟨.refl _,?_⟩
  intro J hJ
  have uU:(aD.fk (aD.jl n ws u false)≠aD.fk (aD.jl n ws u true))↔aD.dep n ws u=true:=by
   simp only[aD.dep,ne_eq,decide_eq_true_eq]
   exact not_congr ⟨fun h=>f1.key_inj f2 h,fun h=>by rw[h]⟩
  have oH:JE J [.int .i64 ((aD.nodes n (D++[ws]) u).length:Int)] ((b3,.cells (List.toArray [.int .i64 (n:Int),s2]) 57 (0,0))::(b2,.cells (List.toArray [.int .i64 (n:Int),s1]) 57 (0,0))::
    (b1,.cells (List.toArray [.int .i64 (n:Int),s]) 57 (0,0))::(bi,.mapIter (some bm) ck seen' ck)::(b',.map es' cu)::(N2++(N1++(N++B)))):=by
   refine JE.mk (hJ _ _ fun gs=>?_)
   refine DR.of (R:=(b3,.cells (List.toArray [.int .i64 (n:Int),s2]) 57 (0,0))::(b2,.cells (List.toArray [.int .i64 (n:Int),s1]) 57 (0,0))::[]) ?_ ?_
   ·exact .cons (.cons (fun g w h=>(Own.left (B:=_) (A:=[]) h)))
   refine aC.whole (r:=[.int .i64 (n:Int),s1]) (by exact .tail _ (.head _)) rfl ?_
   refine aC.whole (r:=[.int .i64 (n:Int),s2]) (by exact .head _) rfl ?_
   have Lp:=JK.mono (B':=N2++(N1++(N++B))) (fun _ h=>by repeat (first|exact h|apply List.mem_cons_of_mem|apply List.mem_append_right))
   refine Lp.bT (b:=b') (ws:=aD.jl n ws u false) ⟨s1,rfl,js.mono (fun _ h=>by repeat (first|exact h|apply List.mem_cons_of_mem|apply List.mem_append_right))⟩ f1 fun LG PB MU=>⟨_,.tail (.tail (.tail (.tail (.head _)))),?_⟩
   refine⟨.cons (.cons (fun g w h=>(Own.left (B:=_) (A:=[]) h))),?_⟩
   refine MU.bT (b:=b') (ws:=aD.jl n ws u true) ⟨s2,rfl,pW⟩ f2 fun tI x9 hE4=>⟨_,.tail (.tail (.tail (.tail (.head _)))),?_⟩
   refine aF.of (H':=(bi,.mapIter (some bm) ck seen' ck)::(b',.map tI x9)::((N2++(N1++N))++B)) ?_ ⟨tI,x9,uv (uv m' (aD.jl n ws u false)) (aD.jl n ws u true),seen',N2++(N1++N),D++[ws],rfl,rfl,?_,?_,fun x=>?_⟩ ?_
   ·refine .skip (.skip (.skip (.cons (.cons ?_))))
    intro g w h;rw[List.append_assoc,List.append_assoc];exact h
   ·rw[List.append_assoc,List.append_assoc];exact hE4
   ·refine fu.trans ?_
    refine(List.Perm.append_left D (hstep.map Prod.snd)).trans ?_
    simp only[List.map_cons,List.append_assoc,List.cons_append,List.nil_append]
    exact .refl _
   ·rw[oo MU.2 f2,oo Lp.2 f1,hmem]
    constructor
    ·rintro((⟨t,ht,c,rfl⟩|rfl)|rfl)
     ·exact⟨t,by simp[ht],c,rfl⟩
     ·exact⟨ws,by simp,_,rfl⟩
     ·exact⟨ws,by simp,_,rfl⟩
    ·rintro⟨t,ht,c,rfl⟩
     rcases List.mem_append.1 ht with ht|ht
     ·exact .inl (.inl ⟨t,ht,c,rfl⟩)
     ·simp at ht;subst ht
      cases c
      ·exact .inl (.inr rfl)
      ·exact .inr rfl
   ·have:=hstep.length_eq
    simp only[List.length_cons]at this⊢
    omega
  refine ae.Ri (Br.dec (fun h=>?_) (fun h=>?_))
  ·refine ae.aK (b:=1) ?_ ?_
   ·have h1:=fu.length_eq
    simp only[List.length_map,List.length_append]at h1
    have h2:(aD.nodes n D u).length≤D.length:=List.length_filter_le _ _
    simp[aB];omega
   ·have:(aD.nodes n (D++[ws]) u).length=(aD.nodes n D u).length+1:=by
     simp[aD.nodes,List.filter_append,uU.1 h]
    rw[this]at oH;exact oH
  ·have:(aD.nodes n (D++[ws]) u).length=(aD.nodes n D u).length:=by
    have hd:aD.dep n ws u=false:=by cases hh:aD.dep n ws u;rfl;exact absurd (uU.2 hh) h
    simp[aD.nodes,List.filter_append,hd]
   rw[this]at oH;exact oH
 ·refine Ext.mk rfl (Br.no ?_)
  rw[Xq]at fu
  simp only[List.map_nil,List.append_nil]at fu
  refine az.mk (j5:=(b',.map es' cu)::(N++B)) .tail ⟨b',es',cu,m',N,?_,rfl,JK,fun x=>?_⟩
  ·rw[aD.qz fu]
  ·rw[hmem]
   constructor
   ·rintro⟨t,ht,h⟩;exact⟨t,fu.mem_iff.2 ht,h⟩
   ·rintro⟨t,ht,h⟩;exact⟨t,fu.mem_iff.1 ht,h⟩
end Go.Proofs
set_option maxRecDepth 100000
namespace Go.Proofs
open Go Go.Sx
theorem DS{B:Hp}{v:Value}{ts:List Tb}(ht:fo B v ts)(bX:ts.length<2^62):Rd Tryz.prog 175 #[v] B (· =.bool (decide (∀t∈ts,TF t∧some t.n=ts.head?.map Tb.n))):=by
 intro g
 refine Bg (R:=az _) ?_
 unfold L175
 refine ht.bS ?_
 refine⟨fun vs H=>bG B H∧∃k:Nat,vs=[.int .i64 (k:Int)]∧k≤ts.length∧∀i t,i<k→ts[i]? =some t→TF t∧some t.n=ts.head?.map Tb.n,fun vs _=>ts.length-bR vs 0,JE.mk ⟨.refl _,0,rfl,by omega,by omega⟩,?_⟩
 rintro w H ⟨hg,k,hv,hk,aP⟩ gs
 simp only[List.cons.injEq,and_true]at hv
 subst hv
 refine ae.fq (Br.dec (fun hlt=>?_) (fun hlt=>?_))
 ·obtain⟨t,gD⟩:∃t,ts[k]? =some t:=⟨_,List.getElem?_eq_getElem hlt⟩
  obtain⟨t0,RR⟩:∃t,ts[0]? =some t:=⟨_,List.getElem?_eq_getElem (by omega)⟩
  have hh:ts.head?.map Tb.n=some t0.n:=by rw[List.head?_eq_getElem?,RR];rfl
  have RQ:=ht.mono hg.sub
  refine RQ.ld gD (fun _ h=>h) fun s hs=>?_
  intro b1 _
  refine St.whole (r:=[.int .i64 t.n,s]) (by exact dH.head _) rfl rfl ?_ ?_
  ·obtain⟨a,c,rfl,_⟩:=hs.1.shape;simp[Value.oneCell']
  intro J hJ
  have hno:∀H',bG B H'→¬(TF t∧some t.n=ts.head?.map Tb.n)→JE J [.bool true] H':=fun H' O4 h=>
   JE.mk (hJ _ _ fun gs=>Br.yes (cr.mk O4.iQ (by rw[decide_eq_false];exact fun hh=>h (hh t (List.mem_of_getElem? gD)))))
  have MI:bG B ((b1,Obj.cells (List.toArray [.int .i64 t.n,s]) 57 (0,0))::H):=.cons hg
  refine DR.self ?_
  refine aC.whole (r:=[.int .i64 t.n,s]) (by exact List.Mem.head _) rfl ?_
  intro F
  refine ag.rd (B:=H) (.cons .here) (xj ⟨s,rfl,hs⟩) ?_
  rintro v rfl
  refine⟨.refl _,Un.not ?_⟩
  by_cases hT:TF t
  case neg=>rw[decide_eq_false hT];exact Br.yes (hno _ MI fun h=>hT h.1)
  rw[decide_eq_true hT]
  refine Br.no ?_
  refine aa.mk (Ld.mk (by repeat (first|assumption|exact List.Mem.head _|apply List.Mem.tail|apply List.mem_append_right)) rfl ?_)
  refine RQ.WR RR (fun _ h=>by repeat (first|exact h|apply List.mem_cons_of_mem|apply List.mem_append_right)) ?_
  refine ae.c7 (aA.mk ?_)
  simp only[cond_false]
  by_cases hn:t.n=t0.n
  case neg=>rw[decide_eq_true hn];exact hno _ MI fun h=>hn (by have:=h.2;rw[hh]at this;simpa using this)
  rw[decide_eq_false (by simpa using hn)]
  refine JE.mk (hJ _ _ fun gs=>Br.no ?_)
  refine ae.aK (b:=1) (by simp[aB];omega) ?_
  refine aF.mk ⟨MI,k+1,rfl,by omega,fun i u hi hu=>?_⟩ (by simp[bR];omega)
  by_cases e:i=k
  ·subst e;rw[gD]at hu;cases hu;exact⟨hT,by rw[hh,hn]⟩
  ·exact aP i u (by omega) hu
 ·refine cr.mk hg.iQ ?_
  rw[decide_eq_true]
  intro t Xc
  obtain⟨i,hi,rfl⟩:=List.mem_iff_getElem.1 Xc
  exact aP i _ (by omega) (List.getElem?_eq_getElem hi)
def L5(ts:List Tb):Prop:=∀t∈ts,TF t∧some t.n=ts.head?.map Tb.n
instance (ts:List Tb):Decidable (L5 ts):=by unfold L5;infer_instance
theorem yJ{B:Hp}{v:Value}{ts:List Tb}(ht:fo B v ts)(bX:ts.length<2^62):Rd Tryz.prog 175 #[v] B (· =.bool (decide (L5 ts))):=DS ht bX
theorem GR{n:Nat}{L:List (List Nat)}(hf:∀ws∈L,aD.eE n ws):L5 (L.map fun ws=>⟨n,ws⟩):=by
 intro t ht
 obtain⟨ws,hws,rfl⟩:=List.mem_map.1 ht
 refine⟨⟨by simp,by simpa using hf ws hws⟩,?_⟩
 cases L with
 |nil=>simp at hws
 |cons a b=>rfl
end Go.Proofs
namespace aE
theorem Rm.tD(m:Rm):∀ls ord,m.dY 0 ls ord=ls.take (m.dY 0 ls ord).length
 | [],_=>rfl
 |c::cs,ord=>by
  by_cases hf:m.fit ord (0+c)=true
  ·have:=m.tD cs (fy ord (0+c))
   rw[dY,if_pos hf,List.length_cons,List.take_succ_cons,←this,Nat.zero_add]
  ·rw[dY,if_neg hf];simp
def Rm.can(m:Rm)(ord ls:List Nat):Bool:=decide ((m.dY 0 ls ord).length=ls.length)
theorem ie{α:Type}[DecidableEq α]:∀{l p:List α},l.Nodup→(∀x∈l,x∈p)→p.length≤l.length→l.Perm p
 | [],p,_,_,h=>by
  have:p=[]:=List.length_eq_zero_iff.1 (by simpa using h)
  subst this;exact .refl _
 |x::t,p,hn,hs,hl=>by
  have hx:=hs x (by simp)
  have hp:=List.perm_cons_erase hx
  have hlen:(p.erase x).length=p.length-1:=List.length_erase_of_mem hx
  have hpos:=List.length_pos_of_mem hx
  refine(List.Perm.cons x (ie (List.nodup_cons.1 hn).2 (fun y hy=>?_) (by simp only[List.length_cons]at hl;omega))).trans hp.symm
  refine(List.mem_erase_of_ne fun e=>?_).2 (hs y (by simp[hy]))
  subst e;exact(List.nodup_cons.1 hn).1 hy
end aE
set_option maxRecDepth 100000
namespace Go.Proofs
open Go Go.Sx
open aE
theorem wL{l:List Nat}(h:l.Nodup):(iw l).Nodup:=List.pairwise_map.2 (h.imp fun hne e=>hne (Int.ofNat.inj e))
theorem lV{p:List Int}:my p↔p.Perm (iw (List.range p.length)):=by
 constructor
 ·intro h
  refine(ie (wL List.nodup_range) (fun x hx=>?_) (by rw[aq,List.length_range];exact Nat.le_refl _)).symm
  obtain⟨k,hk,rfl⟩:=List.mem_map.1 hx
  exact h k (List.mem_range.1 hk)
 ·intro h v hv
  exact h.mem_iff.2 (List.mem_map.2 ⟨v,List.mem_range.2 hv,rfl⟩)
theorem IZ{p:List Int}(hn:p.Nodup)(h:∀x∈p,0≤x∧x<(p.length:Int)):my p:=by
 refine lV.2 (ie hn (fun x hx=>?_) (by rw[aq,List.length_range];exact Nat.le_refl _))
 obtain⟨h1,h2⟩:=h x hx
 exact List.mem_map.2 ⟨x.toNat,List.mem_range.2 (by omega),by show((x.toNat:Nat):Int)=x;omega⟩
theorem xK{p:List Int}(h:my p){x:Int}(hx:x∈p):0≤x∧x<(p.length:Int):=by
 have:=(lV.1 h).mem_iff.1 hx
 obtain⟨k,hk,rfl⟩:=List.mem_map.1 this
 have:=List.mem_range.1 hk
 show(0:Int)≤(k:Int)∧(k:Int)<_
 omega
theorem xJ{p:List Int}(h:my p):p.Nodup:=(lV.1 h).nodup_iff.2 (wL List.nodup_range)
theorem GI{p:List Int}{i n W:Nat}(hi:i<p.length)(hn:p[i]=(n:Int))(hw:n<W):((List.range W).map fun k=>decide (((k:Nat):Int)∈p.take i)).set n true=(List.range W).map fun k=>decide (((k:Nat):Int)∈p.take (i+1)):=by
 apply List.ext_getElem?
 intro j
 rw[List.take_succ_eq_append_getElem hi,hn]
 by_cases hj:j<W
 ·by_cases e:n=j
  ·subst e;rw[List.getElem?_set_self (by simpa using hw)];simp[hw]
  ·rw[List.getElem?_set_ne e]
   simp only[List.getElem?_map,List.getElem?_range hj,Option.map_some,List.mem_append,List.mem_singleton]
   congr 1
   have:¬((j:Nat):Int)=(n:Int):=by omega
   simp[this]
 ·rw[List.getElem?_eq_none (by simp;omega),List.getElem?_eq_none (by simp;omega)]
theorem DQ{p:List Int}{W:Nat}:List.replicate W false=(List.range W).map fun k=>decide (((k:Nat):Int)∈p.take 0):=by
 apply List.ext_getElem?
 intro j
 by_cases hj:j<W
 ·simp[hj]
 ·rw[List.getElem?_eq_none (by simp;omega),List.getElem?_eq_none (by simp;omega)]
theorem D1{B:Hp}{v:Value}{p:List Int}(h:c6 .i64 B v p)(bX:p.length≤70368744177664):Rd Tryz.prog 101 #[v] B (fun r=>(r=.int .i64 0∧my p∧p.length≤64)∨(r=.int .i64 13∧my p∧64<p.length)∨(r=.int .i64 4∧¬my p)):=by
 intro g
 refine BI (R:=az _) ?_
 unfold L101
 refine h.bS (cW.IK (by omega) fun b=>h.bS ?_)
 rw[DQ (p:=p)]
 refine⟨fun vs H=>∃i:Nat,vs=[.int .i64 (i:Int)]∧H=(b,.cells (dN ((List.range p.length).map fun k=>decide (((k:Nat):Int)∈p.take i))) 4 (0,0))::B∧i≤p.length∧(p.take i).Nodup∧∀x∈p.take i,0≤x∧x<(p.length:Int),fun vs _=>p.length-bR vs 0,
  JE.mk ⟨0,rfl,rfl,Nat.zero_le _,by simp,by simp⟩,?_⟩
 rintro w H ⟨i,hv,rfl,hi,iO,hin⟩ gs
 simp only[List.cons.injEq,and_true]at hv
 subst hv
 refine ae.fq (Br.dec (fun hlt=>?_) (fun hlt=>?_))
 ·refine h.ld (List.getElem?_eq_getElem hlt) (fun _ h=>.tail _ h) ?_
  obtain⟨x,hx⟩:∃x,p[i]=x:=⟨_,rfl⟩
  have RK:x∈p:=by rw[←hx];exact List.getElem_mem hlt
  rw[hx]
  have hB:=xU.block (b:=b) (cap:=p.length) (l:=(List.range p.length).map fun k=>decide (((k:Nat):Int)∈p.take i)) (T:=4) (fz:=(0,0)) (B:=(b,.cells (dN ((List.range p.length).map fun k=>decide (((k:Nat):Int)∈p.take i))) 4 (0,0))::B) (.head _) (by simp)
  rw[List.length_map,List.length_range]at hB
  refine ae.lss ?_
  refine cw.or (decide ((p.length:Int)≤x)) (fun _=>h.bS (ae.geq ⟨rfl,rfl⟩)) (by simp) fun gs=>?_
  rw[←Bool.decide_or]
  refine cw.or (decide (x∈p.take i)) (fun hno=>?_) (by simp) fun gs=>?_
  ·have wU:=of_decide_eq_false hno
   obtain⟨n,rfl⟩:∃n:Nat,x=n:=⟨x.toNat,by omega⟩
   refine hB.ld (b:=decide (((n:Nat):Int)∈p.take i)) ?_ (fun _ h=>h) ⟨rfl,rfl⟩
   rw[List.getElem?_map,List.getElem?_range (by omega)];rfl
  rw[←Bool.decide_or]
  refine Br.dec (fun XW=>cr.mk .tail (.inr (.inr ⟨rfl,fun ha=>?_⟩))) (fun Ss=>?_)
  ·have h1:=xK ha RK
   rcases XW with hb|hb
   ·omega
   ·have h2:=xJ ha
    rw[←List.take_append_drop i p,List.nodup_append]at h2
    refine h2.2.2 x hb x ?_ rfl
    rw[List.drop_eq_getElem_cons hlt,hx];exact .head _
  ·obtain⟨n,rfl⟩:∃n:Nat,x=n:=⟨x.toNat,by omega⟩
   refine ai.nat (by omega) ?_
   refine St.IK (l:=(List.range p.length).map fun k=>decide (((k:Nat):Int)∈p.take i)) (.head _) (by simp;omega) ?_
   rw[GI hlt hx (by omega)]
   refine ae.aK (b:=1) (by simp[aB];omega) ?_
   refine aF.mk ⟨i+1,rfl,rfl,hlt,?_,fun x Ei=>?_⟩ (by simp only[bR];omega)
   ·rw[List.take_succ_eq_append_getElem hlt,hx,List.nodup_append]
    exact⟨iO,by simp,fun a ha b hb e=>by simp at hb;subst hb;subst e;exact Ss (.inr ha)⟩
   ·rw[List.take_succ_eq_append_getElem hlt,hx,List.mem_append,List.mem_singleton]at Ei
    rcases Ei with Ei|rfl
    ·exact hin x Ei
    ·omega
 ·obtain rfl:i=p.length:=by omega
  rw[List.take_length]at iO hin
  have aP:=IZ iO hin
  refine h.bS (ae.nP (b:=64) (Br.dec (fun hg=>cr.mk .tail (.inr (.inl ⟨rfl,aP,hg⟩))) (fun hg=>cr.mk .tail (.inl ⟨rfl,aP,by omega⟩))))
end Go.Proofs
set_option maxRecDepth 100000
namespace Go.Proofs
open Go Go.Sx
open aE
theorem wB(n:Nat)(ord:List Nat)(L:aD.Fs)(k:Nat):(iZ n ord L k).length≤2^k*L.length:=Nat.le_trans (List.length_filter_le _ _) (u9 k)
theorem iV(n:Nat)(ord:List Nat)(L:aD.Fs):∀m,gf n ord L m+L.length≤2^m*L.length
 |0=>by show 0+L.length≤1*L.length;omega
 |m+1=>by
  have ih:=iV n ord L m
  have h:=wB n ord L m
  show gf n ord L m+(iZ n ord L m).length+L.length≤_
  rw[Nat.pow_succ]
  have:2^m*2*L.length=2*(2^m*L.length):=by rw[Nat.mul_comm (2^m) 2,Nat.mul_assoc]
  omega
def kE(n:Nat)(ord:List Nat)(L:aD.Fs)(m:Nat):List Nat:=(List.range m).map fun k=>(iZ n ord L k).length
theorem yO(n:Nat)(ord:List Nat)(L:aD.Fs)(m:Nat):kE n ord L (m+1)=kE n ord L m++[(iZ n ord L m).length]:=by
 unfold kE;rw[List.range_succ,List.map_append];rfl
theorem yN{B:Hp}{v o:Value}{n:Nat}{L:List (List Nat)}{ord:List Nat}(ht:fo B v (L.map fun ws=>⟨n,ws⟩))(hf:∀ws∈L,aD.eE n ws)(hne:L≠[])(bX:L.length<1048576)(ho:c6 .i64 B o (iw ord))(y3:ord.length=n)(hA:my (iw ord)):
  Px Tryz.prog 99 #[v,o] B (fun r H=>∃s,r=.tuple #[s,.int .i64 0]∧c6 .i64 H s (iw (kE n ord L n))):=by
 obtain⟨w0,My⟩:∃w0,L[0]? =some w0:=⟨_,List.getElem?_eq_getElem (List.length_pos_iff.2 hne)⟩
 have Xs:n≤16:=(hf w0 (List.mem_of_getElem? My)).vF
 intro g
 refine ES (R:=az _) ?_
 unfold L99
 refine ag.rd .here (yJ ht (by simp;omega)) ?_
 rintro v rfl
 rw[decide_eq_true (GR hf)]
 refine Un.not (Br.no ?_)
 intro J hJ
 refine ht.bS ?_
 rw[List.length_map]
 have hpos:0<L.length:=List.length_pos_iff.2 hne
 refine ae.nP (b:=0) ?_
 rw[decide_eq_true hpos]
 refine Split.go rfl ?_
 refine ho.bS ?_
 rw[aq,y3]
 refine ht.WR (i:=0) (t:=⟨n,w0⟩) (by rw[List.getElem?_map,My];rfl) (fun _ h=>h) ?_
 refine ae.c7 (aA.mk ?_)
 rw[decide_eq_false (by simp)]
 refine Split.go rfl ?_
 refine ag.rd .here (D1 ho (by rw[aq,y3];omega)) ?_
 rintro w (⟨rfl,_,_⟩|⟨rfl,_,hl⟩|⟨rfl,hno⟩)
 rotate_left
 ·rw[aq]at hl;omega
 ·exact absurd hA hno
 refine ae.jt (aA.mk (JE.mk (hJ _ _ fun gs=>Br.no ?_)))
 refine ho.bS ?_
 rw[aq,y3]
 refine ae.nP (b:=16) (Br.aX (by omega) ?_)
 refine ag.fn .here (D5 ht rfl hf (by omega)) ?_
 rintro r H ⟨b,es,ck,m,N,rfl,rfl,hE,hm⟩
 refine ho.bS ?_
 rw[aq,y3]
 have hbound:∀k,k≤n→∀m:List (List UInt8×List Nat),(m.map Prod.snd).Nodup→(∀x,x∈m.map Prod.snd↔x∈cur n ord L k)→m.length<4611686018427387904:=by
  intro k hk m iO hmem
  have h1:=(aD.nx iO (lS k) hmem).length_eq
  have h2:=u9 (n:=n) (ord:=ord) (L:=L) k
  have h3:2^k≤2^16:=Nat.pow_le_pow_right (by decide) (by omega)
  have h4:2^k*L.length≤2^16*L.length:=Nat.mul_le_mul_right _ h3
  rw[List.length_map]at h1
  omega
 refine⟨fun vs H=>∃(k:Nat) (s:Value) (b:Nat) (es:Array MapEntry) (ck:Nat) (m:List (List UInt8×List Nat)) (CS N:Hp),vs=[s,.map (some b),.int .i64 (k:Int)]∧k≤n∧H=CS++((b,.map es ck)::(N++B))∧aN 3 .i64 s (iw (kE n ord L k)) CS∧eV n (N++B) es ck m∧∀x,x∈m.map Prod.snd↔x∈cur n ord L k,
  fun vs _=>n-bR vs 2,JE.mk ⟨0,_,b,es,ck,m,[],N,rfl,by omega,rfl,aN.nil,hE,fun x=>by rw[hm];exact aD.dc.symm⟩,?_⟩
 clear hm hE
 rintro qd gZ BY H ⟨k,s,b,es,ck,m,CS,N,hv,hk,rfl,hs,hE,hm⟩ gs
 simp only[List.cons.injEq,and_true]at hv
 obtain⟨rfl,rfl,rfl⟩:=hv
 have Lp:=hE.mono (B':=(b,Obj.map es ck)::(N++B)) (fun _ h=>by repeat (first|exact h|apply List.mem_cons_of_mem|apply List.mem_append_right))
 refine ae.fq (Br.dec (fun hlt=>?_) (fun hlt=>?_))
 ·refine ho.ld (n:=((ord.getD k 0:Nat):Int)) (bc (by omega)) (fun _ h=>List.mem_append_right _ (.tail _ (List.mem_append_right _ h))) ?_
  have iG:ord.getD k 0<n:=by
   have hmem:((ord.getD k 0:Nat):Int)∈iw ord:=List.mem_of_getElem? (bc (by omega))
   have:=xK hA hmem
   rw[aq,y3]at this;omega
  refine ag.fn (.app .here) (Ik (.head _) Lp iG (hbound k hk m hE.nodup hm)) ?_
  rintro r H ⟨b',es',cu,m',N',rfl,rfl,JK,hm'⟩
  refine Ext.mk rfl (Ext.mk rfl ?_)
  have Pa:(aD.nodes n (m.map Prod.snd) (ord.getD k 0)).length=(iZ n ord L k).length:=aD.qz (aD.nx hE.nodup (lS k) hm)
  have hle:(iZ n ord L k).length≤65536*1048576:=Nat.le_trans (wB n ord L k) (Nat.mul_le_mul (Nat.le_trans (Nat.pow_le_pow_right (by decide) (show k≤16 by omega)) (by decide)) (by omega))
  rw[Pa]
  refine au.int (e:=3) (by kernel_rfl) (by kernel_rfl) (by kernel_rfl) fun bx=>?_
  have Em:(kE n ord L k).length=k:=by simp[kE]
  refine hs.pG (x:=(((iZ n ord L k).length:Nat):Int)) (.cons .left) (by exact .head _) (by rw[aq,Em];omega) (by rw[aq,Em];omega) fun s' CS' hs'=>?_
  refine ae.aK (b:=1) (by simp[aB];omega) ?_
  refine aF.of .tail ⟨k+1,s',b',es',cu,m',CS',N'++(b,.map es ck)::N,rfl,by omega,by rw[List.append_assoc];rfl,?_,by rw[List.append_assoc];exact JK,fun x=>?_⟩ (by simp only[bR];omega)
  ·rw[yO,cL];exact hs'
  ·rw[hm']
   show _↔x∈aD.given n (cur n ord L k) (ord.getD k 0)
   rw[aD.lJ]
   constructor
   ·rintro⟨t,h1,h2⟩;exact⟨t,(hm t).1 h1,h2⟩
   ·rintro⟨t,h1,h2⟩;exact⟨t,(hm t).2 h1,h2⟩
 ·obtain rfl:k=n:=by omega
  refine Du.mk (.app (.cons (.app (.refl _)))) ⟨_,rfl,hs.ints.mono fun _ h=>List.mem_append_left _ h⟩
theorem Kr{B:Hp}{v o:Value}{n:Nat}{L:List (List Nat)}{ord:List Nat}(ht:fo B v (L.map fun ws=>⟨n,ws⟩))(hf:∀ws∈L,aD.eE n ws)(hne:L≠[])(bX:L.length<1048576)(ho:c6 .i64 B o (iw ord))(y3:ord.length=n)(hA:my (iw ord)):
  Px Tryz.prog 38 #[v,o] B (fun r H=>r=.tuple #[.int .i64 ((gf n ord L n:Nat):Int),.int .i64 0]):=by
 obtain⟨w0,My⟩:∃w0,L[0]? =some w0:=⟨_,List.getElem?_eq_getElem (List.length_pos_iff.2 hne)⟩
 have Xs:n≤16:=(hf w0 (List.mem_of_getElem? My)).vF
 intro g
 refine Ff (R:=az _) ?_
 unfold L38
 refine ag.px .here (yN ht hf hne bX ho y3 hA) ?_
 rintro w N ⟨s,rfl,hs⟩
 refine Ext.mk rfl (Ext.mk rfl ?_)
 refine hs.bS ?_
 have Em:∀k,(kE n ord L k).length=k:=fun k=>by simp[kE]
 rw[aq,Em]
 refine⟨fun vs H=>∃k:Nat,vs=[.int .i64 ((gf n ord L k:Nat):Int),.int .i64 (k:Int)]∧k≤n∧H=N++B,fun vs _=>n-bR vs 1,JE.mk ⟨0,rfl,by omega,rfl⟩,?_⟩
 rintro rX nk H ⟨k,hv,hk,rfl⟩ gs
 simp only[List.cons.injEq,and_true]at hv
 obtain⟨rfl,rfl⟩:=hv
 refine ae.fq (Br.dec (fun hlt=>?_) (fun hlt=>?_))
 ·have hg:(kE n ord L n)[k]? =some (iZ n ord L k).length:=by
   unfold kE
   rw[List.getElem?_map,List.getElem?_range hlt];rfl
  refine hs.ld (n:=(((iZ n ord L k).length:Nat):Int)) (cB hg) (fun _ h=>h) ?_
  have hsz:∀m,m≤16→gf n ord L m≤65536*1048576:=fun m hm=>by
   have:=iV n ord L m
   have h2:2^m*L.length≤65536*1048576:=Nat.mul_le_mul (Nat.le_trans (Nat.pow_le_pow_right (by decide) hm) (by decide)) (by omega)
   omega
  have h1:=hsz (k+1) (by omega)
  have e1:gf n ord L (k+1)=gf n ord L k+(iZ n ord L k).length:=rfl
  refine ae.aK (by simp[aB];omega) ?_
  refine ae.aK (b:=1) (by simp[aB];omega) ?_
  exact aF.mk ⟨k+1,rfl,by omega,rfl⟩ (by simp only[bR];omega)
 ·obtain rfl:k=n:=by omega
  exact Du.mk (.app (.refl _)) rfl
end Go.Proofs
namespace Go.Sx
open Go
section
variable {P:Program} {g:Gh} {H:Hp}
theorem au.NU{t e:TypeId}{z:Value}{a b c d:Value}{K:Value→Hp→Prop}(h1:P.underlying t=some (.slice e))(h2:cN P e=some 2)(h3:dX P e=some z)
 (h:∀x,K (.slice (some ⟨x,0,Option.none⟩) 2 2) ((x,.cells (rows [[a,b],[c,d]]) e (0,0))::H)):au P t 2 [(0,.agg #[a,b]),(1,.agg #[c,d])] H K:=by
 refine⟨rows [[a,b],[c,d]],e,2,z,h1,h2,h3,by decide,?_,fun b _=>h b⟩
 have e1:Array.range (2*2)=#[0,1,2,3]:=rfl
 simp[Instr.fill,Value.cells,rows,e1]
theorem au.NT{t e:TypeId}{z:Value}{a b c d x y:Value}{K:Value→Hp→Prop}(h1:P.underlying t=some (.slice e))(h2:cN P e=some 2)(h3:dX P e=some z)
 (h:∀u,K (.slice (some ⟨u,0,Option.none⟩) 3 3) ((u,.cells (rows [[a,b],[c,d],[x,y]]) e (0,0))::H)):au P t 3 [(0,.agg #[a,b]),(1,.agg #[c,d]),(2,.agg #[x,y])] H K:=by
 refine⟨rows [[a,b],[c,d],[x,y]],e,2,z,h1,h2,h3,by decide,?_,fun b _=>h b⟩
 have e1:Array.range (3*2)=#[0,1,2,3,4,5]:=rfl
 simp[Instr.fill,Value.cells,rows,e1]
theorem au.RG{t e:TypeId}{kd:IntKind}{x y z u:Int}{K:Value→Hp→Prop}(h1:P.underlying t=some (.slice e))(h2:cN P e=some 1)(h3:dX P e=some (.int kd 0))
 (h:∀b,K (.slice (some ⟨b,0,Option.none⟩) 4 4) ((b,.cells (ax kd [x,y,z,u]) e (0,0))::H)):au P t 4 [(0,.int kd x),(1,.int kd y),(2,.int kd z),(3,.int kd u)] H K:=by
 refine⟨ax kd [x,y,z,u],e,1,_,h1,h2,h3,by decide,?_,fun b _=>h b⟩
 have e1:Array.range (4*1)=#[0,1,2,3]:=rfl
 simp[Instr.fill,Value.cells,ax,e1]
theorem aQ.made{T:TypeId}{k b:Nat}(rs:List (List Value))(h:∀r∈rs,r.length=k):aQ T k (.slice (some ⟨b,0,none⟩) rs.length rs.length) rs [(b,.cells (rows rs) T (0,0))]:=
 .inr ⟨b,[],by simp,by simp,by simpa using h⟩
end
end Go.Sx
namespace aE
open aD
variable {n:Nat} {F:Nat→Nat} {ws us rs:List Nat}
def tu(n:Nat)(F:Nat→Nat):List Nat:=(List.range (wN n)).map fun i=>F i&&&cS n
theorem jb(hn:n≤16):eE n (tu n F):=by
 refine⟨hn,by simp[tu],fun w hw=>?_⟩
 obtain⟨i,_,rfl⟩:=List.mem_map.1 hw
 exact Nat.and_le_right
theorem Ee{x:Nat}(hx:x<2^n):bit (tu n F) x=(F (x/64)).testBit (x%64):=by
 have hi:=wz hx
 unfold bit
 have fC:(tu n F).getD (x/64) 0=F (x/64) &&&cS n:=by simp[tu,hi]
 rw[fC,Nat.testBit_and,jA]
 have Sz:decide (x%64<if 6≤n then 64 else 2^n)=true:=by
  rw[decide_eq_true_eq]
  split
  ·exact Nat.mod_lt _ (by decide)
  ·have h1:2^n≤32:=Nat.pow_le_pow_right (n:=2) (by decide) (by omega:n≤5)
   omega
 rw[Sz,Bool.and_true]
theorem kS{f:Fn}(h:∀x,x<2^n→(F (x/64)).testBit (x%64)=f x)(hf:∀x,f (x%2^n)=f x):eo n (tu n F)=f:=by
 funext x
 unfold eo
 have hx:x%2^n<2^n:=Nat.mod_lt _ (Nat.two_pow_pos n)
 rw[Ee hx,h _ hx,hf]
theorem lP(x:Nat):eo n ws (x%2^n)=eo n ws x:=by unfold eo;rw[Nat.mod_mod]
theorem iS{x:Nat}(hx:x<2^n):(ws.getD (x/64) 0).testBit (x%64)=eo n ws x:=by
 unfold eo bit;rw[Nat.mod_eq_of_lt hx]
theorem wo{j:Nat}(hj:j<64):(18446744073709551615:Nat).testBit j=true:=by
 have:(18446744073709551615:Nat)=2^64-1:=by decide
 rw[this,Nat.testBit_two_pow_sub_one];simpa using hj
theorem pS{w j:Nat}(hw:w<18446744073709551616)(hj:j<64):(18446744073709551615-w).testBit j= !w.testBit j:=by
 have e:(18446744073709551615-w)=2^64-(w+1):=by
  have:(2:Nat)^64=18446744073709551616:=by decide
  omega
 rw[e,Nat.testBit_two_pow_sub_succ (by
  have:(2:Nat)^64=18446744073709551616:=by decide
  omega)]
 simp[hj]
end aE
set_option maxRecDepth 100000
namespace Go.Proofs
open Go Go.Sx
open aE
section
variable {B:Hp}
def dn(B:Hp)(v:Value)(n:Nat)(f:aE.Fn):Prop:=∃ws,zD B v ⟨n,ws⟩∧aD.eE n ws∧eo n ws=f
theorem dn.mono{B B':Hp}{v:Value}{n:Nat}{f:aE.Fn}(h:dn B v n f)(hs:∀x∈B,x∈B'):dn B' v n f:=let ⟨ws,h1,h2,h3⟩:=h;⟨ws,h1.mono hs,h2,h3⟩
theorem xw{n:Nat}(hn:n≤16)(B:Hp):Rd Tryz.prog 211 #[.int .i64 (n:Int)] B (· =.int .i64 0):=by
 intro g
 refine AT (R:=az _) ?_
 unfold L211
 exact ae.lss (Br.aX (by omega) (ae.nP (b:=16) (Br.aX (by omega) (cr.mk (.refl _) rfl))))
theorem yC{b:Bool}{p:Value}{i:Int}(hb:Go.Sx.At B p [.bool b]):Rd Tryz.prog 213 #[.int .i64 i,p] B (· =.int .u64 (((if b then 18446744073709551615 else 0:Nat)):Int)):=by
 intro g
 refine AR (R:=az _) ?_
 unfold L213
 refine Ld.at hb (fun _ h=>h) ?_
 cases b
 ·exact Br.no (cr.mk (.refl _) rfl)
 ·exact Br.yes (cr.mk (.refl _) rfl)
theorem sV{n:Nat}(hn:n≤16)(b:Bool)(B:Hp):Px Tryz.prog 147 #[.int .i64 (n:Int),.bool b] B (fun r H=>∃v,r=.tuple #[v,.int .i64 0]∧dn H v n (fun _=>b)):=by
 intro g
 refine Bo (R:=az _) ?_
 unfold L147
 intro b1 _ b3 _
 refine ag.rd .here (xw hn _) ?_
 rintro w rfl
 refine ae.c7 (Br.aX (by decide) ?_)
 refine ag.px (.cons .here) (lK hn rfl (by kernel_rfl) (F:=fun _=>if b then 18446744073709551615 else 0) (fun i _=>by cases b<;>decide) (B:=(b1,.cells #[.bool b] 4 (0,0))::B) fun i _=>yC (Go.Sx.At.block (l:=[.bool b]) (by repeat (first|assumption|exact List.Mem.head _|apply List.Mem.tail|apply List.mem_append_right)))) ?_
 rintro v N ⟨s,rfl,hw⟩
 refine St.whole (r:=[.int .i64 (n:Int),s]) (by exact .head _) rfl rfl ?_ ?_
 ·have:=aO hw;simpa[Value.oneCell']using this
 refine aC.whole (r:=[.int .i64 (n:Int),s]) (by exact .head _) rfl ?_
 refine Du.mk (by repeat (first|exact bG.refl _|apply bG.cons|apply bG.app)) ⟨_,rfl,_,⟨s,rfl,hw.mono (fun _ h=>by repeat (first|exact h|apply List.mem_cons_of_mem|apply List.mem_append_right))⟩,jb hn,kS (fun x hx=>?_) (fun x=>rfl)⟩
 cases b
 ·exact Nat.zero_testBit _
 ·exact wo (Nat.mod_lt _ (by decide))
theorem Gt{v i:Nat}{p:Value}(hv:v<64)(hi:i<9223372036854775808)(hb:Go.Sx.At B p [.int .i64 (v:Int)]):Rd Tryz.prog 218 #[.int .i64 (i:Int),p] B (· =.int .u64 ((if 6≤v then(if(i>>>(v-6)).testBit 0 then 18446744073709551615 else 0)else aD.mask v:Nat):Int)):=by
 intro g
 refine AO (R:=az _) ?_
 unfold L218
 refine Ld.at hb (fun _ h=>h) ?_
 refine ag.rd .here (tL hv (by omega) hi B) ?_
 rintro w rfl
 exact cr.mk (.refl _) rfl
theorem Kh{n v:Nat}(hn:n≤16)(hv:v<n)(B:Hp):Px Tryz.prog 153 #[.int .i64 (n:Int),.int .i64 (v:Int)] B (fun r H=>∃t,r=.tuple #[t,.int .i64 0]∧dn H t n (fun x=>x.testBit v)):=by
 intro g
 refine Bl (R:=az _) ?_
 unfold L153
 intro b1 _ b3 _
 refine ag.rd .here (xw hn _) ?_
 rintro w rfl
 refine ae.c7 (Br.aX (by decide) ?_)
 refine Ld.mk (v:=.int .i64 (v:Int)) (by exact .tail _ (.head _)) rfl ?_
 refine ae.lss ?_
 rw[decide_eq_false (by omega)]
 refine cw.or (a:=false) false (fun _=>?_) rfl fun gs=>Br.no ?_
 ·refine Ld.mk (v:=.int .i64 (v:Int)) (by exact .tail _ (.head _)) rfl ?_
  exact ae.pe ⟨rfl,by rw[decide_eq_false (by omega)]⟩
 have UC:=aD.qc hn
 refine ag.px (.cons .here) (lK hn rfl (by kernel_rfl) (F:=fun i=>if 6≤v then(if(i>>>(v-6)).testBit 0 then 18446744073709551615 else 0)else aD.mask v) (fun i _=>by
  have:=aD.ig v
  split
  ·split<;>decide
  ·exact this) (B:=(b1,.cells #[.int .i64 (v:Int)] 3 (0,0))::B) fun i hi=>Gt (by omega) (by omega) (Go.Sx.At.block (l:=[.int .i64 (v:Int)]) (by repeat (first|assumption|exact List.Mem.head _|apply List.Mem.tail|apply List.mem_append_right)))) ?_
 rintro w N ⟨s,rfl,hw⟩
 refine St.whole (r:=[.int .i64 (n:Int),s]) (by exact .head _) rfl rfl ?_ ?_
 ·have:=aO hw;simpa[Value.oneCell']using this
 refine aC.whole (r:=[.int .i64 (n:Int),s]) (by exact .head _) rfl ?_
 refine Du.mk (by repeat (first|exact bG.refl _|apply bG.cons|apply bG.app)) ⟨_,rfl,_,⟨s,rfl,hw.mono (fun _ h=>by repeat (first|exact h|apply List.mem_cons_of_mem|apply List.mem_append_right))⟩,jb hn,kS (fun x hx=>?_) (fun x=>?_)⟩
 ·have hj:x%64<64:=Nat.mod_lt _ (by decide)
  have acO:x=64*(x/64)+x%64:=by omega
  by_cases h6:6≤v
  ·rw[if_pos h6]
   have e:x.testBit v=((x/64)>>>(v-6)).testBit 0:=by
    rw[Nat.testBit_shiftRight,Nat.add_zero]
    have:=Nat.testBit_div_two_pow (n:=6) x (v-6)
    rw[show(2:Nat)^6=64 from rfl]at this
    rw[this];congr 1;omega
   rw[e]
   cases ((x/64)>>>(v-6)).testBit 0
   ·exact Nat.zero_testBit _
   ·exact wo hj
  ·rw[if_neg h6,aD.eZ]
   have:=Nat.testBit_mod_two_pow x 6 v
   rw[show(2:Nat)^6=64 from rfl]at this
   rw[this]
   simp[hj];omega
 ·rw[Nat.testBit_mod_two_pow];simp[hv]
end
end Go.Proofs
set_option maxRecDepth 100000
namespace Go.Proofs
open Go Go.Sx
open aE
section
variable {B:Hp}
theorem dG{n i:Nat}{ws:List Nat}(hf:aD.eE n ws):ws.getD i 0<18446744073709551616:=by
 by_cases h:i<ws.length
 ·rw[List.getD_eq_getElem?_getD,List.getElem?_eq_getElem h];exact hf.lt (List.getElem_mem h)
 ·rw[List.getD_eq_getElem?_getD,List.getElem?_eq_none (by omega)];decide
theorem gV{n i:Nat}{ws:List Nat}(hf:aD.eE n ws)(hi:i<aD.wN n):ws[i]? =some (ws.getD i 0):=by
 rw[List.getD_eq_getElem?_getD,List.getElem?_eq_getElem (by rw[hf.len];exact hi)];rfl
theorem Gy{pa s:Value}{n i:Nat}{ws:List Nat}(ha:Go.Sx.At B pa [.int .i64 (n:Int),s])(hw:Words B s ws)(hf:aD.eE n ws)(hi:i<aD.wN n):
  Rd Tryz.prog 238 #[.int .i64 (i:Int),pa] B (· =.int .u64 ((18446744073709551615-ws.getD i 0:Nat):Int)):=by
 intro g
 refine AD (R:=az _) ?_
 unfold L238
 refine aa.at ha fun q hq=>Ld.at hq (fun _ h=>h) ?_
 refine hw.1.ld (cB (gV hf hi)) (fun _ h=>h) ?_
 exact Un.DE (dG hf) (cr.mk (.refl _) rfl)
theorem Kl{v:Value}{n:Nat}{f:aE.Fn}(ht:dn B v n f):Px Tryz.prog 193 #[v] B (fun r H=>∃t,r=.tuple #[t,.int .i64 0]∧dn H t n (fun x=> !f x)):=by
 obtain⟨ws,⟨s,rfl,hw⟩,hf,rfl⟩:=ht
 intro g
 refine Bb (R:=az _) ?_
 unfold L193
 intro b1 _ b3 _
 refine aC.whole (r:=[.int .i64 (n:Int),s]) (by exact .tail _ (.head _)) rfl ?_
 refine nW fun bx=>?_
 refine ag.rd .here (qX (t:=⟨n,ws⟩) (by exact .head _) (hw.mono (fun _ h=>by repeat (first|exact h|apply List.mem_cons_of_mem|apply List.mem_append_right)))) ?_
 rintro w rfl
 rw[decide_eq_true (show TF ⟨(n:Int),ws⟩from⟨by simp,by simpa using hf⟩)]
 refine Un.not (Br.no ?_)
 refine aa.mk (Ld.mk (v:=.int .i64 (n:Int)) (by exact .tail _ (.tail _ (.head _))) rfl ?_)
 refine ag.pre (H':=(b3,.cells #[.int .i64 0,.slice none 0 0] 57 (0,0))::(b1,.cells #[.int .i64 (n:Int),s] 57 (0,0))::B) .tail ?_
 refine ag.px (.cons .here) (lK hf.vF rfl (by kernel_rfl) (F:=fun i=>18446744073709551615-ws.getD i 0) (fun i _=>by omega) (B:=(b1,.cells #[.int .i64 (n:Int),s] 57 (0,0))::B) fun i hi=>Gy (Go.Sx.At.block (l:=[.int .i64 (n:Int),s]) (by repeat (first|assumption|exact List.Mem.head _|apply List.Mem.tail|apply List.mem_append_right))) (hw.mono (fun _ h=>by repeat (first|exact h|apply List.mem_cons_of_mem|apply List.mem_append_right))) hf hi) ?_
 rintro w N ⟨s',rfl,cU⟩
 refine St.whole (r:=[.int .i64 (n:Int),s']) (by exact .head _) rfl rfl ?_ ?_
 ·have:=aO cU;simpa[Value.oneCell']using this
 refine aC.whole (r:=[.int .i64 (n:Int),s']) (by exact .head _) rfl ?_
 refine Du.mk (by repeat (first|exact bG.refl _|apply bG.cons|apply bG.app)) ⟨_,rfl,_,⟨s',rfl,cU.mono (fun _ h=>by repeat (first|exact h|apply List.mem_cons_of_mem|apply List.mem_append_right))⟩,jb hf.vF,kS (fun x hx=>?_) (fun x=>by rw[lP])⟩
 rw[pS (dG hf) (Nat.mod_lt _ (by decide)),iS hx]
def rp(op w u:Nat):Nat→Nat
 |0=>0
 |k+1=>if op.testBit k then rp op w u k|||([(18446744073709551615-w) &&& (18446744073709551615-u),(18446744073709551615-w) &&&u,w&&& (18446744073709551615-u),w&&&u].getD k 0)else rp op w u k
theorem Ch{w u k:Nat}(hw:w<18446744073709551616)(hu:u<18446744073709551616):[(18446744073709551615-w) &&& (18446744073709551615-u),(18446744073709551615-w) &&&u,w&&& (18446744073709551615-u),w&&&u].getD k 0<18446744073709551616:=by
 have h1:∀a b:Nat,a<18446744073709551616→a&&&b<18446744073709551616:=fun a b h=>Nat.lt_of_le_of_lt Nat.and_le_left h
 match k with
 |0=>exact h1 _ _ (by omega)
 |1=>exact h1 _ _ (by omega)
 |2=>exact h1 _ _ hw
 |3=>exact h1 _ _ hw
 |k+4=>exact(by decide:(0:Nat)<18446744073709551616)
theorem p7{op w u:Nat}(hw:w<18446744073709551616)(hu:u<18446744073709551616):∀k,rp op w u k<18446744073709551616
 |0=>by show(0:Nat)<18446744073709551616;decide
 |k+1=>by
  unfold rp
  split
  ·exact Nat.or_lt_two_pow (n:=64) (p7 hw hu k) (Ch hw hu)
  ·exact p7 hw hu k
theorem IN{op w u j:Nat}(hw:w<18446744073709551616)(hu:u<18446744073709551616)(hj:j<64):(rp op w u 4).testBit j=D4 op (w.testBit j) (u.testBit j):=by
 have nw:=pS hw hj
 have nu:=pS hu hj
 simp only[rp,List.getD_cons_zero,List.getD_cons_succ]
 unfold D4
 cases h0:op.testBit 0<;>cases h1:op.testBit 1<;>cases h2:op.testBit 2<;>cases h3:op.testBit 3<;>
  simp only[if_true,Bool.false_eq_true,if_false,Nat.testBit_or,Nat.testBit_and,nw,nu,Nat.zero_testBit]<;>
  cases w.testBit j<;>cases u.testBit j<;>simp[h0,h1,h2,h3]
theorem GA{p1 p2 p3 s1 s2:Value}{n i op:Nat}{ws us:List Nat}(h1:Go.Sx.At B p1 [.int .i64 (n:Int),s1])(h2:Go.Sx.At B p2 [.int .i64 (n:Int),s2])(h3:Go.Sx.At B p3 [.int .u8 (op:Int)])(hw:Words B s1 ws)(hu:Words B s2 us)(hf:aD.eE n ws)(hg:aD.eE n us)(hop:op<16)(hi:i<aD.wN n):
  Rd Tryz.prog 239 #[.int .i64 (i:Int),p1,p2,p3] B (· =.int .u64 ((rp op (ws.getD i 0) (us.getD i 0) 4:Nat):Int)):=by
 have lw:=dG (i:=i) hf
 have lu:=dG (i:=i) hg
 intro g
 refine AB (R:=az _) ?_
 unfold L239
 refine aa.at h1 fun q hq=>Ld.at hq (fun _ h=>h) ?_
 refine hw.1.ld (cB (gV hf hi)) (fun _ h=>h) ?_
 refine aa.at h2 fun q hq=>Ld.at hq (fun _ h=>h) ?_
 refine hu.1.ld (cB (gV hg hi)) (fun _ h=>h) ?_
 generalize ws.getD i 0=w at*
 generalize us.getD i 0=u at*
 refine Un.DE lw (Un.DE lu ?_)
 refine ae.nZ (by simp only[aB];omega) (by simp only[aB];omega) ?_
 refine Un.DE lw ?_
 refine ae.nZ (by simp only[aB];omega) (by simp only[aB];omega) ?_
 refine Un.DE lu ?_
 refine ae.nZ (by simp only[aB];omega) (by simp only[aB];omega) ?_
 refine ae.nZ (by simp only[aB];omega) (by simp only[aB];omega) ?_
 refine au.RG (e:=50) (by kernel_rfl) (by kernel_rfl) (by kernel_rfl) fun bx=>?_
 obtain⟨ps,hps⟩:∃ps,ps=[(18446744073709551615-w) &&& (18446744073709551615-u),(18446744073709551615-w) &&&u,w&&& (18446744073709551615-u),w&&&u]:=⟨_,rfl⟩
 have hI:c6 .u64 [(bx,Obj.cells (ax .u64 (iw ps)) 50 (0,0))] (.slice (some ⟨bx,0,none⟩) 4 4) (iw ps):=by
  have:=(aN.made (T:=50) (kd:=.u64) (b:=bx) (iw ps)).ints
  have hl:(iw ps).length=4:=by rw[hps];rfl
  rw[hl]at this;exact this
 have Em:ps.length=4:=by rw[hps];rfl
 have hH:(bx,Obj.cells (ax .u64 [((((18446744073709551615-w) &&& (18446744073709551615-u):Nat)):Int),((((18446744073709551615-w) &&&u:Nat)):Int),(((w&&& (18446744073709551615-u):Nat)):Int),((w&&&u:Nat):Int)]) 50 (0,0))=(bx,Obj.cells (ax .u64 (iw ps)) 50 (0,0)):=by rw[hps];rfl
 rw[hH]
 refine bA.mk ?_
 refine⟨fun vs H=>∃k:Nat,vs=[.int .u64 ((rp op w u k:Nat):Int),.int .i64 (k:Int)]∧k≤4∧H=(bx,Obj.cells (ax .u64 (iw ps)) 50 (0,0))::B,fun vs _=>4-bR vs 1,JE.mk ⟨0,rfl,by omega,rfl⟩,?_⟩
 rintro FD rW H ⟨k,hv,hk,rfl⟩ gs
 simp only[List.cons.injEq,and_true]at hv
 obtain⟨rfl,rfl⟩:=hv
 refine ae.fq (b:=4) (Br.dec (fun hlt=>?_) (fun hlt=>?_))
 ·intro J hJ
  refine hI.ld (n:=((ps.getD k 0:Nat):Int)) (bc (by omega)) (fun _ h=>by simp at h;rw[h];exact .head _) ?_
  refine Ld.at h3 (fun _ h=>.tail _ h) ?_
  refine ae.ot (by simp only[aB];omega) ?_
  refine ae.nZ (b:=1) (by have:=Nat.shiftRight_le op k;simp only[aB];omega) (by decide) ?_
  have Pb:(op>>>k) &&&1=(op.testBit k).toNat:=by
   rw[aD.fF,Nat.testBit_shiftRight,Nat.add_zero]
   cases op.testBit k<;>rfl
  rw[Pb]
  refine ae.fO (b:=1) ?_
  have Xk:ps.getD k 0<18446744073709551616:=by rw[hps];exact Ch lw lu
  cases hb:op.testBit k with
  |true=>
   refine Br.dS rfl ?_
   refine ae.Qo (by simpa only[aB]using p7 lw lu k) (by simpa only[aB]using Xk) ?_
   refine JE.mk (hJ _ _ fun gs=>?_)
   refine ae.aK (b:=1) (by simp[aB];omega) ?_
   exact aF.mk ⟨k+1,by rw[rp,if_pos hb,hps],by omega,rfl⟩ (by simp only[bR];omega)
  |false=>
   refine Br.aX (by decide) ?_
   refine JE.mk (hJ _ _ fun gs=>?_)
   refine ae.aK (b:=1) (by simp[aB];omega) ?_
   exact aF.mk ⟨k+1,by rw[rp,if_neg (by rw[hb];decide)],by omega,rfl⟩ (by simp only[bR];omega)
 ·obtain rfl:k=4:=by omega
  exact cr.mk .tail rfl
theorem Rf{bx n:Nat}{s1 s2:Value}{ws us:List Nat}(h1:Words B s1 ws)(h2:Words B s2 us):fo ((bx,.cells (rows [[.int .i64 (n:Int),s1],[.int .i64 (n:Int),s2]]) 57 (0,0))::B) (.slice (some ⟨bx,0,none⟩) 2 2) [⟨n,ws⟩,⟨n,us⟩]:=by
 refine⟨[[.int .i64 (n:Int),s1],[.int .i64 (n:Int),s2]],(Sl.kF (aQ.made (T:=57) (k:=2) (b:=bx) _ (by simp)) (by decide)).mono fun _ h=>by simp at h;rw[h];exact .head _,rfl,fun i r x hr hx=>?_⟩
 match i with
 |0=>simp at hr hx;subst hr;subst hx;exact⟨s1,rfl,h1.mono fun _ h=>.tail _ h⟩
 |1=>simp at hr hx;subst hr;subst hx;exact⟨s2,rfl,h2.mono fun _ h=>.tail _ h⟩
 |i+2=>simp at hr
theorem ux{v1 v2:Value}{n op:Nat}{f1 f2:aE.Fn}(hop:op<16)(h1:dn B v1 n f1)(h2:dn B v2 n f2):Px Tryz.prog 194 #[.int .u8 (op:Int),v1,v2] B (fun r H=>∃t,r=.tuple #[t,.int .i64 0]∧dn H t n (fun x=>D4 op (f1 x) (f2 x))):=by
 obtain⟨ws,⟨s1,rfl,hw⟩,hf,rfl⟩:=h1
 obtain⟨us,⟨s2,rfl,hu⟩,hg,rfl⟩:=h2
 intro g
 refine Ba (R:=az _) ?_
 unfold L194
 intro b1 _ b3 _ b5 _ b7 _
 refine Ld.mk (v:=.int .u8 (op:Int)) (by exact .tail _ (.tail _ (.tail _ (.head _)))) rfl ?_
 refine ae.nP (b:=15) (Br.aX (by omega) ?_)
 refine aC.whole (r:=[.int .i64 (n:Int),s1]) (by exact .tail _ (.tail _ (.head _))) rfl ?_
 refine aC.whole (r:=[.int .i64 (n:Int),s2]) (by exact .tail _ (.head _)) rfl ?_
 refine au.NU (e:=57) (z:=.agg #[.int .i64 0,.slice none 0 0]) (by kernel_rfl) (by kernel_rfl) (by kernel_rfl) fun bx=>?_
 refine ag.rd .here (qW (Rf (n:=n) (hw.mono (fun _ h=>by repeat (first|exact h|apply List.mem_cons_of_mem|apply List.mem_append_right))) (hu.mono (fun _ h=>by repeat (first|exact h|apply List.mem_cons_of_mem|apply List.mem_append_right)))) (by show 2<2^62;decide)) ?_
 rintro w rfl
 rw[decide_eq_true (by
  intro t ht
  simp only[List.mem_cons,List.not_mem_nil,or_false]at ht
  rcases ht with rfl|rfl
  ·exact⟨⟨by simp,by simpa using hf⟩,rfl⟩
  ·exact⟨⟨by simp,by simpa using hg⟩,rfl⟩)]
 refine Un.not (Br.no ?_)
 refine aa.mk (Ld.mk (v:=.int .i64 (n:Int)) (by exact .tail _ (.tail _ (.tail _ (.head _)))) rfl ?_)
 refine ag.pre (H':=(b7,.cells #[.int .i64 0,.slice none 0 0] 57 (0,0))::(b5,.cells #[.int .i64 (n:Int),s2] 57 (0,0))::(b3,.cells #[.int .i64 (n:Int),s1] 57 (0,0))::(b1,.cells #[.int .u8 (op:Int)] 5 (0,0))::B) .tail ?_
 refine ag.px (.cons .here) (lK hf.vF rfl (by kernel_rfl) (F:=fun i=>rp op (ws.getD i 0) (us.getD i 0) 4) (fun i _=>p7 (dG hf) (dG hg) 4) (B:=(b5,.cells #[.int .i64 (n:Int),s2] 57 (0,0))::(b3,.cells #[.int .i64 (n:Int),s1] 57 (0,0))::(b1,.cells #[.int .u8 (op:Int)] 5 (0,0))::B)
  fun i hi=>GA (Go.Sx.At.block (l:=[.int .i64 (n:Int),s1]) (by repeat (first|assumption|exact List.Mem.head _|apply List.Mem.tail|apply List.mem_append_right))) (Go.Sx.At.block (l:=[.int .i64 (n:Int),s2]) (by repeat (first|assumption|exact List.Mem.head _|apply List.Mem.tail|apply List.mem_append_right))) (Go.Sx.At.block (l:=[.int .u8 (op:Int)]) (by repeat (first|assumption|exact List.Mem.head _|apply List.Mem.tail|apply List.mem_append_right))) (hw.mono (fun _ h=>by repeat (first|exact h|apply List.mem_cons_of_mem|apply List.mem_append_right))) (hu.mono (fun _ h=>by repeat (first|exact h|apply List.mem_cons_of_mem|apply List.mem_append_right))) hf hg hop hi) ?_
 rintro w N ⟨s',rfl,cU⟩
 refine St.whole (r:=[.int .i64 (n:Int),s']) (by exact .head _) rfl rfl ?_ ?_
 ·have:=aO cU;simpa[Value.oneCell']using this
 refine aC.whole (r:=[.int .i64 (n:Int),s']) (by exact .head _) rfl ?_
 refine Du.mk (by repeat (first|exact bG.refl _|apply bG.cons|apply bG.app)) ⟨_,rfl,_,⟨s',rfl,cU.mono (fun _ h=>by repeat (first|exact h|apply List.mem_cons_of_mem|apply List.mem_append_right))⟩,jb hf.vF,kS (fun x hx=>?_) (fun x=>by rw[lP,lP])⟩
 rw[IN (dG hf) (dG hg) (Nat.mod_lt _ (by decide)),iS hx,iS hx]
theorem Gz{p1 p2 p3 s1 s2 s3:Value}{n i:Nat}{ws us rs:List Nat}(h1:Go.Sx.At B p1 [.int .i64 (n:Int),s1])(h2:Go.Sx.At B p2 [.int .i64 (n:Int),s2])(h3:Go.Sx.At B p3 [.int .i64 (n:Int),s3])(hw:Words B s1 ws)(hu:Words B s2 us)(hr:Words B s3 rs)(hf:aD.eE n ws)(hg:aD.eE n us)(hh:aD.eE n rs)(hi:i<aD.wN n):
  Rd Tryz.prog 221 #[.int .i64 (i:Int),p1,p2,p3] B (· =.int .u64 (((ws.getD i 0&&&us.getD i 0)|||((18446744073709551615-ws.getD i 0) &&&rs.getD i 0):Nat):Int)):=by
 have lw:=dG (i:=i) hf
 have lu:=dG (i:=i) hg
 have lr:=dG (i:=i) hh
 intro g
 refine AL (R:=az _) ?_
 unfold L221
 refine aa.at h1 fun q hq=>Ld.at hq (fun _ h=>h) ?_
 refine hw.1.ld (cB (gV hf hi)) (fun _ h=>h) ?_
 refine aa.at h2 fun q hq=>Ld.at hq (fun _ h=>h) ?_
 refine hu.1.ld (cB (gV hg hi)) (fun _ h=>h) ?_
 refine ae.nZ (by simpa only[aB]using lw) (by simpa only[aB]using lu) ?_
 refine aa.at h1 fun q hq=>Ld.at hq (fun _ h=>h) ?_
 refine hw.1.ld (cB (gV hf hi)) (fun _ h=>h) ?_
 refine Un.DE lw ?_
 refine aa.at h3 fun q hq=>Ld.at hq (fun _ h=>h) ?_
 refine hr.1.ld (cB (gV hh hi)) (fun _ h=>h) ?_
 refine ae.nZ (by simp only[aB];omega) (by simpa only[aB]using lr) ?_
 refine ae.Qo (Nat.lt_of_le_of_lt Nat.and_le_left (by simpa only[aB]using lw)) (Nat.lt_of_le_of_lt Nat.and_le_left (by simp only[aB];omega)) ?_
 exact cr.mk (.refl _) rfl
theorem Re{bx n:Nat}{s1 s2 s3:Value}{ws us rs:List Nat}(h1:Words B s1 ws)(h2:Words B s2 us)(h3:Words B s3 rs):fo ((bx,.cells (rows [[.int .i64 (n:Int),s1],[.int .i64 (n:Int),s2],[.int .i64 (n:Int),s3]]) 57 (0,0))::B) (.slice (some ⟨bx,0,none⟩) 3 3) [⟨n,ws⟩,⟨n,us⟩,⟨n,rs⟩]:=by
 refine⟨[[.int .i64 (n:Int),s1],[.int .i64 (n:Int),s2],[.int .i64 (n:Int),s3]],(Sl.kF (aQ.made (T:=57) (k:=2) (b:=bx) _ (by simp)) (by decide)).mono fun _ h=>by simp at h;rw[h];exact .head _,rfl,fun i r x hr hx=>?_⟩
 match i with
 |0=>simp at hr hx;subst hr;subst hx;exact⟨s1,rfl,h1.mono fun _ h=>.tail _ h⟩
 |1=>simp at hr hx;subst hr;subst hx;exact⟨s2,rfl,h2.mono fun _ h=>.tail _ h⟩
 |2=>simp at hr hx;subst hr;subst hx;exact⟨s3,rfl,h3.mono fun _ h=>.tail _ h⟩
 |i+3=>simp at hr
theorem B6{v1 v2 v3:Value}{n:Nat}{f1 f2 f3:aE.Fn}(h1:dn B v1 n f1)(h2:dn B v2 n f2)(h3:dn B v3 n f3):Px Tryz.prog 154 #[v1,v2,v3] B (fun r H=>∃t,r=.tuple #[t,.int .i64 0]∧dn H t n (fun x=>if f1 x then f2 x else f3 x)):=by
 obtain⟨ws,⟨s1,rfl,hw⟩,hf,rfl⟩:=h1
 obtain⟨us,⟨s2,rfl,hu⟩,hg,rfl⟩:=h2
 obtain⟨rs,⟨s3,rfl,hr⟩,hh,rfl⟩:=h3
 intro g
 refine Bk (R:=az _) ?_
 unfold L154
 intro b1 _ b3 _ b5 _ b7 _
 refine aC.whole (r:=[.int .i64 (n:Int),s1]) (by exact .tail _ (.tail _ (.tail _ (.head _)))) rfl ?_
 refine aC.whole (r:=[.int .i64 (n:Int),s2]) (by exact .tail _ (.tail _ (.head _))) rfl ?_
 refine aC.whole (r:=[.int .i64 (n:Int),s3]) (by exact .tail _ (.head _)) rfl ?_
 refine au.NT (e:=57) (z:=.agg #[.int .i64 0,.slice none 0 0]) (by kernel_rfl) (by kernel_rfl) (by kernel_rfl) fun bx=>?_
 refine ag.rd .here (qW (Re (n:=n) (hw.mono (fun _ h=>by repeat (first|exact h|apply List.mem_cons_of_mem|apply List.mem_append_right))) (hu.mono (fun _ h=>by repeat (first|exact h|apply List.mem_cons_of_mem|apply List.mem_append_right))) (hr.mono (fun _ h=>by repeat (first|exact h|apply List.mem_cons_of_mem|apply List.mem_append_right)))) (by show 3<2^62;decide)) ?_
 rintro w rfl
 rw[decide_eq_true (by
  intro t ht
  simp only[List.mem_cons,List.not_mem_nil,or_false]at ht
  rcases ht with rfl|rfl|rfl
  ·exact⟨⟨by simp,by simpa using hf⟩,rfl⟩
  ·exact⟨⟨by simp,by simpa using hg⟩,rfl⟩
  ·exact⟨⟨by simp,by simpa using hh⟩,rfl⟩)]
 refine Un.not (Br.no ?_)
 refine aa.mk (Ld.mk (v:=.int .i64 (n:Int)) (by exact .tail _ (.tail _ (.tail _ (.tail _ (.head _))))) rfl ?_)
 refine ag.pre (H':=(b7,.cells #[.int .i64 0,.slice none 0 0] 57 (0,0))::(b5,.cells #[.int .i64 (n:Int),s3] 57 (0,0))::(b3,.cells #[.int .i64 (n:Int),s2] 57 (0,0))::(b1,.cells #[.int .i64 (n:Int),s1] 57 (0,0))::B) .tail ?_
 have ol:∀i,(ws.getD i 0&&&us.getD i 0)|||((18446744073709551615-ws.getD i 0) &&&rs.getD i 0)<18446744073709551616:=fun i=>
  Nat.or_lt_two_pow (n:=64) (Nat.lt_of_le_of_lt Nat.and_le_left (dG hf)) (Nat.lt_of_le_of_lt Nat.and_le_right (dG hh))
 refine ag.px (.cons .here) (lK hf.vF rfl (by kernel_rfl) (F:=fun i=>(ws.getD i 0&&&us.getD i 0)|||((18446744073709551615-ws.getD i 0) &&&rs.getD i 0)) (fun i _=>ol i) (B:=(b5,.cells #[.int .i64 (n:Int),s3] 57 (0,0))::(b3,.cells #[.int .i64 (n:Int),s2] 57 (0,0))::(b1,.cells #[.int .i64 (n:Int),s1] 57 (0,0))::B)
  fun i hi=>Gz (Go.Sx.At.block (l:=[.int .i64 (n:Int),s1]) (by repeat (first|assumption|exact List.Mem.head _|apply List.Mem.tail|apply List.mem_append_right))) (Go.Sx.At.block (l:=[.int .i64 (n:Int),s2]) (by repeat (first|assumption|exact List.Mem.head _|apply List.Mem.tail|apply List.mem_append_right))) (Go.Sx.At.block (l:=[.int .i64 (n:Int),s3]) (by repeat (first|assumption|exact List.Mem.head _|apply List.Mem.tail|apply List.mem_append_right))) (hw.mono (fun _ h=>by repeat (first|exact h|apply List.mem_cons_of_mem|apply List.mem_append_right))) (hu.mono (fun _ h=>by repeat (first|exact h|apply List.mem_cons_of_mem|apply List.mem_append_right))) (hr.mono (fun _ h=>by repeat (first|exact h|apply List.mem_cons_of_mem|apply List.mem_append_right))) hf hg hh hi) ?_
 rintro w N ⟨s',rfl,cU⟩
 refine St.whole (r:=[.int .i64 (n:Int),s']) (by exact .head _) rfl rfl ?_ ?_
 ·have:=aO cU;simpa[Value.oneCell']using this
 refine aC.whole (r:=[.int .i64 (n:Int),s']) (by exact .head _) rfl ?_
 refine Du.mk (by repeat (first|exact bG.refl _|apply bG.cons|apply bG.app)) ⟨_,rfl,_,⟨s',rfl,cU.mono (fun _ h=>by repeat (first|exact h|apply List.mem_cons_of_mem|apply List.mem_append_right))⟩,jb hf.vF,kS (fun x hx=>?_) (fun x=>by rw[lP,lP,lP])⟩
 rw[Nat.testBit_or,Nat.testBit_and,Nat.testBit_and,pS (dG hf) (Nat.mod_lt _ (by decide)),iS hx,iS hx,iS hx]
 cases eo n ws x<;>cases eo n us x<;>cases eo n rs x<;>rfl
theorem kx{v:Value}{n u:Nat}{c:Bool}{f:aE.Fn}(ht:dn B v n f)(hu:u<n):Px Tryz.prog 148 #[v,.int .i64 (u:Int),.bool c] B (fun r H=>∃t,r=.tuple #[t,.int .i64 0]∧dn H t n (fun x=>f (aD.aI x u c))):=by
 obtain⟨ws,ht,hf,rfl⟩:=ht
 refine(uw ht hf hu).mono fun v H h=>?_
 obtain⟨hg,v',rfl,ht'⟩:=h
 exact⟨hg,v',rfl,_,ht',aD.ir hf.vF,lQ hf hu c⟩
end
end Go.Proofs
namespace Go.Sx
open Go
section
variable {P:Program} {g:Gh} {H C:Hp} {c:Hp→Hp}
theorem aQ.xI{elem k bytes:Nat}{zero:Value}{v x:Value}{rs r2:List (List Value)}(h:aQ elem k v rs C)(hh:bP C H c)(hx:Sl k H x r2)(h1:∀r∈r2,∀u∈r,u.oneCell'=true)(hz:∃z:List Value,zero.cells=z.toArray∧z.length=k)
 (hb:(rs.length+r2.length)*bytes≤140737488355328)(hm:rs.length+r2.length≤9223372036854775807){K:Value→Hp→Prop}(hk:∀v' C',aQ elem k v' (rs++r2) C'→K v' (c C')):App P elem k bytes zero H v x K:=by
 obtain⟨A,B,e⟩:=hh.split
 have e2:=hh.spec.1
 rw[e]at e2
 subst e2
 obtain⟨a,cap,rfl,hc⟩:=Sl.cells hx
 exact aQ.apps h hc hx.1 h1 hz hb hm fun v' C' ho=>by have:=hk v' C' ho;rwa [e]at this
theorem ae.pD{kd:IntKind}{a b:Nat}{k:Value→Prop}(hb:b≠0)(h:k (.int kd ((a%b:Nat):Int))):ae .num .rem (.int kd a) (.int kd b) k:=
 ae.Ro (by omega) rfl (by have:((a:Int)).tmod (b:Int)=((a%b:Nat):Int):=rfl;rw[this];exact h)
end
end Go.Sx
set_option maxRecDepth 100000
namespace Go.Proofs
open Go Go.Sx
open aE
abbrev fN(gb kp n:Nat)(vr vf:Value):Nat×Obj:=(gb,.cells #[ptr kp,.int .i64 (n:Int),vr,vf] 30 (0,0))
structure lz(gb kp n:Nat)(vr vf:Value)(refs:List Nat)(fs:List (List Nat))(M G:Hp):Prop where
 cell:fN gb kp n vr vf∈G
 rf:c6 .u32 G vr (iw refs)
 fn:∃rs,Sl 2 G vf rs∧ob (xL M) rs (fs.map fun ws=>⟨n,ws⟩)
theorem lz.grow{gb kp n:Nat}{vr vf:Value}{refs:List Nat}{fs:List (List Nat)}{M M' G:Hp}(h:lz gb kp n vr vf refs fs M G)(hs:∀x∈M,x∈M'):lz gb kp n vr vf refs fs M' G:=
 ⟨h.cell,h.rf,let ⟨rs,h1,h2⟩:=h.fn;⟨rs,h1,h2.mono fun _ _ h=>h.mono hs⟩⟩
def PxL(P:Program)(f:FuncId)(args:Array Value)(M G:Hp)(Q:Value→Hp→Prop):Prop:=Fc P f args (M++G) (fun w H=>∃M',H=M'++G∧bG M M'∧Q w M')
structure yd(gb kp n:Nat)(vr vf:Value)(refs:List Nat)(fs:List (List Nat))(C B:Hp):Prop where
 cell:fN gb kp n vr vf∈B
 rf:c6 .u32 B vr (iw refs)
 fn:fo B vf (fs.map fun ws=>⟨n,ws⟩)
 hole:∃c,bP C B c∧∀Z,fN gb kp n vr vf∈c Z
theorem yd.cons{gb kp n:Nat}{vr vf:Value}{refs:List Nat}{fs:List (List Nat)}{C B:Hp}(h:yd gb kp n vr vf refs fs C B)(x:Nat×Obj):yd gb kp n vr vf refs fs C (x::B):=
 ⟨.tail _ h.cell,h.rf.mono fun _ h=>.tail _ h,h.fn.mono fun _ h=>.tail _ h,let ⟨c,hc,hm⟩:=h.hole;⟨_,.cons hc,fun Z=>.tail _ (hm Z)⟩⟩
theorem yd.app{gb kp n:Nat}{vr vf:Value}{refs:List Nat}{fs:List (List Nat)}{C B:Hp}(h:yd gb kp n vr vf refs fs C B)(N:Hp):yd gb kp n vr vf refs fs C (N++B):=
 ⟨List.mem_append_right _ h.cell,h.rf.mono fun _ h=>List.mem_append_right _ h,h.fn.mono fun _ h=>List.mem_append_right _ h,let ⟨c,hc,hm⟩:=h.hole;⟨_,.app hc,fun Z=>List.mem_append_right _ (hm Z)⟩⟩
theorem yd.grow{gb kp n:Nat}{vr vf:Value}{refs:List Nat}{fs:List (List Nat)}{C B B':Hp}(h:yd gb kp n vr vf refs fs C B)(hg:bG B B'):yd gb kp n vr vf refs fs C B':=by
 obtain⟨N,rfl⟩:=hg.spec;exact h.app N
structure sO(K:Kd)(S:Nat→aE.Fn)(refs:List Nat)(fs:List (List Nat)):Prop where
 len:refs.length=fs.length
 oJ:∀t∈fs,aD.eE K.n t
 is:∀i,i<refs.length→2≤refs.getD i 0∧eo K.n (fs.getD i [])=S (refs.getD i 0)
 hold:∀s,K.hold s=refs.count s
section
variable {kp gb n:Nat} {vr vf:Value} {refs:List Nat} {fs:List (List Nat)} {K:Kd} {S:Nat→aE.Fn} {ord ah tr:List Nat} {C B:Hp}
theorem sO.mem(h:sO K S refs fs){s:Nat}:K.hold s≠0↔s∈refs:=by
 rw[h.hold]
 constructor
 ·intro h0;exact List.count_pos_iff.1 (by omega)
 ·intro h1;have:=List.count_pos_iff.2 h1;omega
theorem sO.live(h:sO K S refs fs)(hK:cF kp K S ord ah tr C){s:Nat}(hs:s∈refs):live K.N s:=.inr (hK.ok.mid.held s (h.mem.2 hs))
theorem sO.held(h:sO K S refs fs)(g:aE.Fn):K.held S g↔FT K.n fs g:=by
 constructor
 ·rintro⟨s,hs,rfl⟩
  have hs':=h.mem.1 hs
  obtain⟨i,hi,rfl⟩:=List.mem_iff_getElem.1 hs'
  obtain⟨h2,h3⟩:=h.is i hi
  have e:refs.getD i 0=refs[i]:=by rw[List.getD_eq_getElem?_getD,List.getElem?_eq_getElem hi];rfl
  have hi':i<fs.length:=by rw[←h.len];exact hi
  have e':fs.getD i []=fs[i]:=by rw[List.getD_eq_getElem?_getD,List.getElem?_eq_getElem hi'];rfl
  rw[e,e']at h3
  exact⟨fs[i],List.getElem_mem hi',h3.symm⟩
 ·rintro⟨t,ht,rfl⟩
  obtain⟨i,hi,rfl⟩:=List.mem_iff_getElem.1 ht
  have hi':i<refs.length:=by rw[h.len];exact hi
  obtain⟨h2,h3⟩:=h.is i hi'
  have e:refs.getD i 0=refs[i]:=by rw[List.getD_eq_getElem?_getD,List.getElem?_eq_getElem hi'];rfl
  have e':fs.getD i []=fs[i]:=by rw[List.getD_eq_getElem?_getD,List.getElem?_eq_getElem hi];rfl
  rw[e,e']at h3
  exact⟨refs[i],h.mem.2 (List.getElem_mem hi'),h3⟩
theorem nr{a b:Value}{f f':aE.Fn}(h1:dn B a n f)(h2:dn B b n f'):Rd Tryz.prog 67 #[a,b] B (fun r=>∃x:Bool,r=.bool x∧(x=true↔f=f')):=by
 obtain⟨ws,⟨s1,rfl,hw⟩,hf,rfl⟩:=h1
 obtain⟨us,⟨s2,rfl,hu⟩,hg,rfl⟩:=h2
 have hlw:=hf.len
 have hlu:=hg.len
 have UC:=aD.qc hf.vF
 intro g
 refine EX (R:=az _) ?_
 unfold L67
 intro b1 _ b3 _
 refine aa.mk (Ld.mk (v:=.int .i64 (n:Int)) (by exact .tail _ (.head _)) rfl ?_)
 refine aa.mk (Ld.mk (v:=.int .i64 (n:Int)) (by exact .head _) rfl ?_)
 refine ae.GX ?_
 rw[decide_eq_false (by simp)]
 refine cw.or (a:=false) false (fun _=>?_) rfl fun gs=>Br.no ?_
 ·refine aa.mk (Ld.mk (v:=s1) (by exact .tail _ (.head _)) rfl ?_)
  refine hw.1.bS ?_
  refine aa.mk (Ld.mk (v:=s2) (by exact .head _) rfl ?_)
  refine hu.1.bS ?_
  rw[aq,aq]
  refine ae.GX ⟨rfl,?_⟩
  simp only
  rw[decide_eq_false]
  show¬ws.length≠us.length
  omega
 refine⟨fun vs H=>∃i:Nat,vs=[.int .i64 (i:Int)]∧i≤ws.length∧H=(b3,.cells #[.int .i64 (n:Int),s2] 57 (0,0))::(b1,.cells #[.int .i64 (n:Int),s1] 57 (0,0))::B∧ws.take i=us.take i,fun vs _=>ws.length-bR vs 0,JE.mk ⟨0,rfl,Nat.zero_le _,rfl,rfl⟩,?_⟩
 rintro Jr H ⟨i,hv,hi,rfl,gD⟩ gs
 simp only[List.cons.injEq,and_true]at hv
 subst hv
 refine aa.mk (Ld.mk (v:=s1) (by exact .tail _ (.head _)) rfl ?_)
 refine hw.1.bS ?_
 rw[aq]
 show ae .num .lss (.int .i64 (i:Int)) (.int .i64 ((ws.length:Nat):Int)) _
 refine ae.fq (Br.dec (fun hlt=>?_) (fun hlt=>?_))
 ·have iG:i<us.length:=by omega
  refine aa.mk (Ld.mk (v:=s1) (by exact .tail _ (.head _)) rfl ?_)
  refine hw.1.ld (cB (List.getElem?_eq_getElem hlt)) (fun _ h=>.tail _ (.tail _ h)) ?_
  refine aa.mk (Ld.mk (v:=s2) (by exact .head _) rfl ?_)
  refine hu.1.ld (cB (List.getElem?_eq_getElem iG)) (fun _ h=>.tail _ (.tail _ h)) ?_
  refine ae.GX (Br.dec (fun hne=>?_) (fun hne=>?_))
  ·refine cr.mk (.skip .tail) ⟨false,rfl,by simp;intro h;exact hne (by have e:=u7 hf hg h;subst e;rfl)⟩
  ·refine ae.aK (b:=1) (by simp[aB];omega) ?_
   refine aF.mk ⟨i+1,rfl,hlt,rfl,?_⟩ (by simp only[bR];omega)
   rw[List.take_succ_eq_append_getElem hlt,List.take_succ_eq_append_getElem iG,gD]
   congr 2
   exact Classical.byContradiction hne
 ·obtain rfl:i=ws.length:=by omega
  rw[List.take_length,show ws.length=us.length by omega,List.take_length]at gD
  exact cr.mk (.skip .tail) ⟨true,rfl,by simp[gD]⟩
end
end Go.Proofs
