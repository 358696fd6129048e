import Derived.Test.YtfgkdmbicjdeoaaGreatE3
import Derived.Test.YtfgkdmbicjdeoaaGreatE2
import Derived.Test.YtfgkdmbicjdeoaaGreatE1
set_option linter.unusedVariables false
set_option linter.unusedSimpArgs false
set_option linter.unusedSectionVars false
namespace aE
def BX(i:Nat):Nat→List Nat
 |0=>[]
 |j+1=>if i≤j then j::BX i j else []
theorem xN{i j:Nat}(h:j≤i):BX i j=[]:=by
 cases j with
 |zero=>rfl
 |succ j=>rw[BX,if_neg (by omega)]
theorem pM{i j:Nat}(h:i≤j):BX i (j+1)=j::BX i j:=by rw[BX,if_pos h]
theorem FW{i l:Nat}:∀{j},l∈BX i j→i≤l∧l<j
 |0,h=>by simp[BX]at h
 |j+1,h=>by
  by_cases e:i≤j
  ·rw[pM e]at h
   rcases List.mem_cons.1 h with rfl|h
   ·omega
   ·have:=FW h;omega
  ·rw[xN (by omega)]at h;simp at h
theorem xM(i:Nat):∀j,(BX i j).length=j-i
 |0=>by simp[BX]
 |j+1=>by
  by_cases e:i≤j
  ·rw[pM e,List.length_cons,xM i j];omega
  ·rw[xN (by omega)];simp;omega
theorem FX{i k:Nat}:∀{j:Nat} {a:List Nat},i≤j→j<a.length→(k≤i→(cE a (BX i j)).getD k 0=if k=i then a.getD j 0 else a.getD k 0)
 |0,a,hi,hj,hk=>by
  obtain rfl:i=0:=by omega
  obtain rfl:k=0:=by omega
  simp[BX,cE]
 |j+1,a,hi,hj,hk=>by
  by_cases e:i≤j
  ·rw[pM e]
   show(cE (ik a j) (BX i j)).getD k 0=_
   rw[FX (j:=j) e (by rw[kI];omega) hk,ei (by omega),ei (by omega)]
   by_cases h:k=i
   ·subst h;simp
   ·rw[if_neg h,if_neg h,if_neg (by omega),if_neg (by omega)]
  ·obtain rfl:i=j+1:=by omega
   rw[xN (Nat.le_refl _)]
   show a.getD k 0=_
   split
   ·rename_i h;rw[h]
   ·rfl
def Uc(p:List Nat)(x:Nat):Nat:=p.idxOf x
def dP(p q:List Nat):Nat→List Nat
 |0=>[]
 |i+1=>dP p q i++BX i (Uc (cE p (dP p q i)) (q.getD i 0))
def path(p q:List Nat):List Nat:=dP p q q.length
theorem Kw{p:List Nat}{x:Nat}(h:x∈p):Uc p x<p.length:=List.idxOf_lt_length_iff.2 h
theorem Fh{p:List Nat}{x:Nat}(h:x∈p):p.getD (Uc p x) 0=x:=by
 have h1:=Kw h
 rw[List.getD_eq_getElem?_getD,List.getElem?_eq_getElem h1]
 show p[p.idxOf x]=x
 exact List.getElem_idxOf h1
section
variable {p q:List Nat}
theorem iT(hq:q.Nodup)(hp:p.Perm q):∀i,i≤q.length→(∀l∈dP p q i,l+1<p.length)∧(∀k,k<i→(cE p (dP p q i)).getD k 0=q.getD k 0)∧(i<q.length→i≤Uc (cE p (dP p q i)) (q.getD i 0)∧Uc (cE p (dP p q i)) (q.getD i 0)<p.length)
 |i,hi=>by
  have hlen:=hp.length_eq
  have base:(∀l∈dP p q i,l+1<p.length)∧(∀k,k<i→(cE p (dP p q i)).getD k 0=q.getD k 0):=by
   cases i with
   |zero=>exact⟨fun l hl=>by simp[dP]at hl,fun k hk=>absurd hk (Nat.not_lt_zero _)⟩
   |succ i=>
    obtain⟨h1,h2,h3⟩:=iT hq hp i (by omega)
    obtain⟨h4,h5⟩:=h3 (by omega)
    have hm:q.getD i 0∈cE p (dP p q i):=by
     have:q.getD i 0∈q:=by rw[List.getD_eq_getElem?_getD,List.getElem?_eq_getElem (show i<q.length by omega)];exact List.getElem_mem _
     exact((jO h1).trans hp).mem_iff.2 this
    refine⟨fun l hl=>?_,fun k hk=>?_⟩
    ·rcases List.mem_append.1 hl with hl|hl
     ·exact h1 l hl
     ·have:=FW hl;omega
    ·rw[dP,Kh,FX h4 (by rw[gO];exact h5) (by omega)]
     split
     ·rename_i e;subst e;exact Fh hm
     ·exact h2 k (by omega)
  refine⟨base.1,base.2,fun hlt=>?_⟩
  have hm:q.getD i 0∈cE p (dP p q i):=by
   have:q.getD i 0∈q:=by rw[List.getD_eq_getElem?_getD,List.getElem?_eq_getElem hlt];exact List.getElem_mem _
   exact((jO base.1).trans hp).mem_iff.2 this
  have h5:=Kw hm
  rw[gO]at h5
  refine⟨?_,h5⟩
  refine Classical.byContradiction fun oC=>?_
  have:=base.2 _ (Nat.lt_of_not_le oC)
  rw[Fh hm]at this
  have:=getD_inj hq hlt (by omega) this
  omega
theorem wW(hq:q.Nodup)(hp:p.Perm q):cE p (path p q)=q∧∀l∈path p q,l+1<p.length:=by
 obtain⟨h1,h2,_⟩:=iT hq hp q.length (Nat.le_refl _)
 refine⟨zN (by rw[gO];exact hp.length_eq) fun i hi=>h2 i ?_,h1⟩
 rw[gO,hp.length_eq]at hi;exact hi
theorem qc(hq:q.Nodup)(hp:p.Perm q):∀i,i≤q.length→(dP p q i).length≤i*p.length
 |0,_=>by simp[dP]
 |i+1,hi=>by
  have:=qc hq hp i (by omega)
  obtain⟨_,_,h3⟩:=iT hq hp i (by omega)
  rw[dP,List.length_append,xM,Nat.succ_mul]
  have:=(h3 (by omega)).2
  omega
end
end aE
namespace aE
open an
section
variable {n l:Nat} {ord:List Nat} {F G:Fn→Prop} {f c:Fn}
theorem vR:∀l g,fs ord (fun g=>F g∨G g) l g↔fs ord F l g∨fs ord G l g
 |0,g=>Iff.rfl
 |l+1,g=>by
  constructor
  ·rintro⟨f,hf,b,rfl⟩
   rcases(vR l f).1 hf with h|h
   ·exact .inl ⟨f,h,b,rfl⟩
   ·exact .inr ⟨f,h,b,rfl⟩
  ·rintro(⟨f,hf,b,rfl⟩|⟨f,hf,b,rfl⟩)
   ·exact⟨f,(vR l f).2 (.inl hf),b,rfl⟩
   ·exact⟨f,(vR l f).2 (.inr hf),b,rfl⟩
theorem KG(g:Fn):aO n ord (fun g=>F g∨G g) g↔aO n ord F g∨aO n ord G g:=by
 constructor
 ·rintro⟨l,hl,hf,hh⟩
  rcases(vR l g).1 hf with h|h
  ·exact .inl ⟨l,hl,h,hh⟩
  ·exact .inr ⟨l,hl,h,hh⟩
 ·rintro(⟨l,hl,hf,hh⟩|⟨l,hl,hf,hh⟩)
  ·exact⟨l,hl,(vR l g).2 (.inl hf),hh⟩
  ·exact⟨l,hl,(vR l g).2 (.inr hf),hh⟩
theorem cf{v:Nat}(h:¬dk f v)(x:Nat)(b:Bool):f (az x v b)=f x:=by
 have h0:f (az x v false)=f (az x v true):=Classical.byContradiction fun hne=>h ⟨x,hne⟩
 have h1:=iL x v
 conv=>rhs;rw[←h1]
 cases b<;>cases x.testBit v<;>simp[h0]
theorem xE(hi:∀j,j<l→¬dk f (ord.getD j 0)):∀k,k≤l→fs ord (fun g=>g=f) k f
 |0,_=>rfl
 |k+1,hk=>⟨f,xE hi k (by omega),false,funext fun x=>(cf (hi k (by omega)) x false).symm⟩
theorem xF(hi:∀j,j<l→¬dk f (ord.getD j 0)):∀k,k≤l→∀g,fs ord (fun g=>g=f) k g→g=f
 |0,_,g,h=>h
 |k+1,hk,g,h=>by
  obtain⟨f',hf,b,rfl⟩:=h
  obtain rfl:=xF hi k (by omega) f' hf
  exact funext fun x=>cf (hi k (by omega)) x b
theorem iK(hi:∀j,j<l→¬dk f (ord.getD j 0)){b:Bool}(hc:c=fun x=>f (az x (ord.getD l 0) b)):
  (∀j,j<l+1→¬dk c (ord.getD j 0))∧∀g,aO n ord (fun g=>g=c) g→aO n ord (fun g=>g=f) g:=by
 have h1:fs ord (fun g=>g=f) (l+1) c:=⟨f,xE hi l (Nat.le_refl _),b,hc⟩
 have h2:∀j,j<l+1→¬dk c (ord.getD j 0):=fun j hj=>pG (l+1) c h1 j hj
 refine⟨h2,?_⟩
 rintro g ⟨m,hm,hf,hh⟩
 by_cases e:m<l+1
 ·obtain rfl:=xF h2 m (by omega) g hf
  exact absurd hh (h2 m e)
 ·have key:∀d g,fs ord (fun g=>g=c) (l+1+d) g→fs ord (fun g=>g=f) (l+1+d) g:=fun d=>by
   induction d with
   |zero=>intro g hg;obtain rfl:=xF h2 (l+1) (Nat.le_refl _) g hg;exact h1
   |succ d ih=>rintro g ⟨f',zo,b',rfl⟩;exact⟨f',ih f' zo,b',rfl⟩
  obtain⟨d,rfl⟩:∃d,m=l+1+d:=⟨m-(l+1),by omega⟩
  exact⟨_,hm,key d g hf,hh⟩
theorem mU(hi:∀j,j<l→¬dk f (ord.getD j 0))(hl:l<n)(hh:dk f (ord.getD l 0)):aO n ord (fun g=>g=f) f:=⟨l,hl,xE hi l (Nat.le_refl _),hh⟩
end
section
variable {K:Kd} {S:Nat→Fn} {ah:Nat→Nat} {ord:List Nat}
theorem Ok.below(h:Ok K S ah)(ho:Ord K.n ah ord){r l:Nat}(hr:live K.N r)(hl:l≤K.n)(hi:∀j,j<l→¬dk (S r) (ord.getD j 0)):l≤dep K.n ah K.N r:=by
 cases e:K.N r with
 |none=>rw[aU e];exact hl
 |some d=>
  rw[ay e]
  refine Classical.byContradiction fun hlt=>?_
  have ic:ah d.v<l:=Nat.lt_of_not_le hlt
  have:=hi _ ic
  rw[ho.of h.lv (h.mid.var e)]at this
  exact this (oz h.wf h.lv h.mid.int e)
theorem Ok.roomFor(h:Ok K S ah)(ho:Ord K.n ah ord){U:Fn→Prop}{k:Nat}(hk:qF U k)(hfit:k+2≤K.cap)(hU:∀g,aO K.n ord (K.held S) g→U g){d:Nd}
 (hlo:live K.N d.lo)(hhi:live K.N d.hi)(hne:d.lo≠d.hi)(hv:d.v<K.n)(hlt:ah d.v<dep K.n ah K.N d.lo∧ah d.v<dep K.n ah K.N d.hi)(hg:U (ite S d))(hT:K.T d=none):K.used<K.cap:=by
 have hs:=h.size ho
 have hu:=h.mid.room
 obtain⟨l1,a1,a2,a3⟩:=hs
 have Ss:ite S d∉l1:=fun hm=>by
  obtain⟨r,e,hr,he⟩:=(l8 h.wf h.lv ho h.mid.int (fun r hr=>.inr (h.mid.held r hr)) h.reach (ite S d)).1 ((a3 _).2 hm)
  have hTd:¬K.N r=some d:=fun hN=>by
   have:=(h.mid.iJ d r).2 ⟨hN,fun x=>x⟩
   rw[hT]at this;cases this
  apply hTd
  have Si:S r=ite S d:=he.symm
  have Vu:e.v=d.v:=by
   have e1:=h.lv.lt e.v (h.mid.var hr)
   have e2:=h.lv.lt d.v hv
   rcases Nat.lt_trichotomy (ah e.v) (ah d.v)with hh|hh|hh
   ·exfalso
    obtain⟨z,hz⟩:=oz h.wf h.lv h.mid.int hr
    rw[Si]at hz
    apply hz
    unfold ite
    have i1:=h.wf.ca h.lv h.mid.int hlo (h.mid.var hr) (by omega)
    have i2:=h.wf.ca h.lv h.mid.int hhi (h.mid.var hr) (by omega)
    have Uq:d.v≠e.v:=fun oS=>by rw[oS]at hh;omega
    simp only[aq,if_neg Uq,i1,i2]
   ·exact h.lv.inj _ _ (h.mid.var hr) hv hh
   ·exfalso
    have hx:=h.wf.ca h.lv h.mid.int (r:=r) (.inr ⟨e,hr⟩) hv (by rw[ay hr];exact hh)
    apply hne
    refine h.wf.same h.lv h.mid.int hlo hhi fun x=>?_
    have i1:=h.wf.ca h.lv h.mid.int hlo hv hlt.1
    have i2:=h.wf.ca h.lv h.mid.int hhi hv hlt.2
    have q1:=hx x false
    have q2:=hx x true
    rw[Si]at q1 q2
    have q3:=q1.trans q2.symm
    unfold ite at q3
    simp only[aq,if_true,i1,i2,Bool.false_eq_true,if_false]at q3
    exact q3
  have lA:∀(b:Bool) x,S (if b then e.hi else e.lo) x=S (if b then d.hi else d.lo) x:=fun b x=>by
   rw[←h.wf.child h.lv h.mid.int hr x b,Si,Vu]
   have i1:=h.wf.ca h.lv h.mid.int hlo hv hlt.1
   have i2:=h.wf.ca h.lv h.mid.int hhi hv hlt.2
   unfold ite
   rw[aq,if_pos rfl,i1,i2]
   cases b<;>rfl
  have e1:e.lo=d.lo:=h.wf.same h.lv h.mid.int (h.mid.lo hr) hlo fun x=>lA false x
  have e2:e.hi=d.hi:=h.wf.same h.lv h.mid.int (h.mid.hi hr) hhi fun x=>lA true x
  have hed:∀a b:Nd,a.v=b.v→a.lo=b.lo→a.hi=b.hi→a=b:=fun a b h1 h2 h3=>by
   cases a;cases b;cases h1;cases h2;cases h3;rfl
  rw[hr,hed e d Vu e1 e2]
 obtain⟨l2,b1,b2,b3⟩:=hk
 have:=bN (l:=ite S d::l1) (l':=l2) (List.nodup_cons.2 ⟨Ss,a1⟩) fun g SH=>by
  rcases List.mem_cons.1 SH with rfl|SH
  ·exact(b3 _).1 hg
  ·exact(b3 _).1 (hU g ((a3 g).2 SH))
 rw[List.length_cons]at this
 omega
end
end aE
namespace aE
open an
def dG(N:eu)(v:Nat)(b:Bool)(r:Nat):Nat:=match N r with
 |some d=>if d.v=v then(if b then d.hi else d.lo)else r
 |none=>r
def gX(N:eu)(v:Nat)(b:Bool)(q:List Nat):List Nat:=q.map (dG N v b)
structure rG(n:Nat)(ah:Nat→Nat)(N:eu)(q:List Nat)(v:Nat):Prop where
 lt:v<n
 ex:∃r∈q,∃d,N r=some d∧d.v=v
 le:∀r∈q,ah v≤dep n ah N r
inductive Tree(n:Nat)(ah:Nat→Nat)(N:eu):List Nat→Nat→Prop
 |leaf {q:List Nat} (h:∀r∈q,N r=none):Tree n ah N q 0
 |node {q:List Nat} {v a b:Nat} (h:rG n ah N q v) (ha:Tree n ah N (gX N v false q) a) (hb:Tree n ah N (gX N v true q) b):Tree n ah N q (a+b+1)
def rV(t:Bool→Bool→Bool→Bool)(S:Nat→Fn)(q:List Nat):Fn:=fun x=>t (S (q.getD 0 0) x) (S (q.getD 1 0) x) (S (q.getD 2 0) x)
section
variable {n:Nat} {ah:Nat→Nat} {N:eu} {S:Nat→Fn} {q:List Nat} {v:Nat}
theorem rG.uniq(hl:j8 n ah){u:Nat}(h:rG n ah N q v)(h':rG n ah N q u):v=u:=by
 obtain⟨r,hr,d,hd,rfl⟩:=h.ex
 obtain⟨s,hs,e,he,rfl⟩:=h'.ex
 have a:=h.le s hs
 have b:=h'.le r hr
 rw[ay he]at a
 rw[ay hd]at b
 exact hl.inj _ _ h.lt h'.lt (by omega)
theorem iG(h:WF n ah N)(hl:j8 n ah)(hi:Interp N S){r:Nat}(hr:live N r)(hv:v<n)(hle:ah v≤dep n ah N r)(b:Bool):
  (∀x,S (dG N v b r) x=S r (az x v b))∧live N (dG N v b r)∧ah v+1≤dep n ah N (dG N v b r):=by
 have hlt:=hl.lt v hv
 unfold dG
 cases e:N r with
 |none=>
  simp only
  refine⟨fun x=>?_,hr,by rw[aU e];omega⟩
  exact(h.ca hl hi hr hv (by rw[aU e];exact hlt) x b).symm
 |some d=>
  simp only
  rw[ay e]at hle
  by_cases ev:d.v=v
  ·rw[if_pos ev]
   subst ev
   refine⟨fun x=>(h.child hl hi e x b).symm,?_,?_⟩
   ·cases b
    ·exact(h.lo e).1
    ·exact(h.hi e).1
   ·cases b
    ·exact(h.lo e).2
    ·exact(h.hi e).2
  ·rw[if_neg ev]
   have hne:ah v≠ah d.v:=fun e2=>ev (hl.inj _ _ (h.var e) hv e2.symm)
   refine⟨fun x=>(h.ca hl hi hr hv (by rw[ay e];omega) x b).symm,hr,by rw[ay e];omega⟩
theorem Mm(b:Bool):(gX N v b q).length=q.length:=by simp[gX]
theorem Mn{b:Bool}{i:Nat}(hi:i<q.length):(gX N v b q).getD i 0=dG N v b (q.getD i 0):=by
 simp[gX,List.getD,List.getElem?_eq_getElem hi]
theorem nv(h:WF n ah N)(hl:j8 n ah)(hi:Interp N S)(hq:∀r∈q,live N r)(ht:rG n ah N q v)(b:Bool):
  (∀r∈gX N v b q,live N r)∧(∀r∈gX N v b q,ah v+1≤dep n ah N r):=by
 constructor
 ·intro r hr
  obtain⟨s,hs,rfl⟩:=List.mem_map.1 hr
  exact(iG h hl hi (hq s hs) ht.lt (ht.le s hs) b).2.1
 ·intro r hr
  obtain⟨s,hs,rfl⟩:=List.mem_map.1 hr
  exact(iG h hl hi (hq s hs) ht.lt (ht.le s hs) b).2.2
theorem FO(h:WF n ah N)(hl:j8 n ah)(hi:Interp N S)(h3:q.length=3)(hq:∀r∈q,live N r)(ht:rG n ah N q v)(t:Bool→Bool→Bool→Bool)(b:Bool):rV t S (gX N v b q)=fun x=>rV t S q (az x v b):=by
 funext x
 have key:∀i,i<3→S ((gX N v b q).getD i 0) x=S (q.getD i 0) (az x v b):=fun i SD=>by
  have hi':i<q.length:=by omega
  rw[Mn hi']
  have hm:q.getD i 0∈q:=by rw[List.getD_eq_getElem?_getD,List.getElem?_eq_getElem hi'];exact List.getElem_mem _
  exact(iG h hl hi (hq _ hm) ht.lt (ht.le _ hm) b).1 x
 unfold rV
 rw[key 0 (by omega),key 1 (by omega),key 2 (by omega)]
theorem vU(h:WF n ah N)(hl:j8 n ah)(hi:Interp N S){ord:List Nat}(ho:Ord n ah ord)(h3:q.length=3)(hq:∀r∈q,live N r){l:Nat}(Lo:l≤n)(hle:∀r∈q,l≤dep n ah N r)(t:Bool→Bool→Bool→Bool):∀j,j<l→¬dk (rV t S q) (ord.getD j 0):=by
 rintro j hj ⟨x,hx⟩
 apply hx
 obtain⟨o1,o2⟩:=ho.kC j (by omega)
 have key:∀i,i<3→∀b,S (q.getD i 0) (az x (ord.getD j 0) b)=S (q.getD i 0) x:=fun i SD b=>by
  have hi':i<q.length:=by omega
  have hm:q.getD i 0∈q:=by rw[List.getD_eq_getElem?_getD,List.getElem?_eq_getElem hi'];exact List.getElem_mem _
  exact h.ca hl hi (hq _ hm) o1 (by rw[o2];exact Nat.lt_of_lt_of_le hj (hle _ hm)) x b
 unfold rV
 simp only[key 0 (by omega),key 1 (by omega),key 2 (by omega)]
theorem HR(hi:Interp N S)(h3:q.length=3)(hq:∀r∈q,r<2)(t:Bool→Bool→Bool→Bool)(x:Nat):rV t S q x=t (decide (q.getD 0 0=1)) (decide (q.getD 1 0=1)) (decide (q.getD 2 0=1)):=by
 have key:∀i,i<3→S (q.getD i 0) x=decide (q.getD i 0=1):=fun i SD=>by
  have hi':i<q.length:=by omega
  have hm:q.getD i 0∈q:=by rw[List.getD_eq_getElem?_getD,List.getElem?_eq_getElem hi'];exact List.getElem_mem _
  have:=hq _ hm
  have h2:q.getD i 0=0∨q.getD i 0=1:=by omega
  rcases h2 with e|e<;>rw[e]
  ·rw[hi.zero];rfl
  ·rw[hi.one];rfl
 unfold rV
 rw[key 0 (by omega),key 1 (by omega),key 2 (by omega)]
theorem JZ(h:WF n ah N):∀{q:List Nat},(∃r∈q,∃d,N r=some d)→(hl:j8 n ah)→∃v,rG n ah N q v
 | [],he,_=>by obtain⟨r,hr,_⟩:=he;cases hr
 |s::q,he,hl=>by
  by_cases hq:∃r∈q,∃d,N r=some d
  ·obtain⟨v,hv⟩:=JZ h hq hl
   cases es:N s with
   |none=>
    refine⟨v,hv.lt,?_,fun r hr=>?_⟩
    ·obtain⟨r,hr,x⟩:=hv.ex;exact⟨r,by simp[hr],x⟩
    ·rcases List.mem_cons.1 hr with rfl|hr
     ·rw[aU es];exact Nat.le_of_lt (hl.lt v hv.lt)
     ·exact hv.le r hr
   |some d=>
    by_cases hlt:ah d.v≤ah v
    ·refine⟨d.v,h.var es,⟨s,by simp,d,es,rfl⟩,fun r hr=>?_⟩
     rcases List.mem_cons.1 hr with rfl|hr
     ·rw[ay es];exact Nat.le_refl _
     ·exact Nat.le_trans hlt (hv.le r hr)
    ·refine⟨v,hv.lt,?_,fun r hr=>?_⟩
     ·obtain⟨r,hr,x⟩:=hv.ex;exact⟨r,by simp[hr],x⟩
     ·rcases List.mem_cons.1 hr with rfl|hr
      ·rw[ay es];omega
      ·exact hv.le r hr
  ·obtain⟨r,hr,d,hd⟩:=he
   rcases List.mem_cons.1 hr with rfl|hr
   ·refine⟨d.v,h.var hd,⟨r,by simp,d,hd,rfl⟩,fun s hs=>?_⟩
    rcases List.mem_cons.1 hs with rfl|hs
    ·rw[ay hd];exact Nat.le_refl _
    ·have:N s=none:=by
      cases e:N s with
      |none=>rfl
      |some d'=>exact absurd ⟨s,hs,d',e⟩ hq
     rw[aU this];exact Nat.le_of_lt (hl.lt _ (h.var hd))
   ·exact absurd ⟨r,hr,d,hd⟩ hq
theorem NP(h:WF n ah N)(hl:j8 n ah)(hi:Interp N S):∀(k l:Nat) (q:List Nat),n-l≤k→l≤n→(∀r∈q,live N r)→(∀r∈q,l≤dep n ah N r)→∃c,Tree n ah N q c∧c+1≤2^(n-l):=by
 intro k
 induction k with
 |zero=>
  intro l q hk Lo hq hd
  refine⟨0,.leaf fun r hr=>?_,Nat.one_le_two_pow⟩
  cases e:N r with
  |none=>rfl
  |some d=>have:=hd r hr;rw[ay e]at this;have:=hl.lt _ (h.var e);omega
 |succ k ih=>
  intro l q hk Lo hq hd
  by_cases he:∃r∈q,∃d,N r=some d
  ·obtain⟨v,hv⟩:=JZ h he hl
   have hlv:=hl.lt v hv.lt
   have uQ:l≤ah v:=by
    obtain⟨r,hr,d,cV,rfl⟩:=hv.ex
    have:=hd r hr
    rwa [ay cV]at this
   obtain⟨f1,f2⟩:=nv (S:=S) h hl hi hq hv false
   obtain⟨t1,t2⟩:=nv (S:=S) h hl hi hq hv true
   obtain⟨a,ha,AA⟩:=ih (ah v+1) _ (by omega) hlv f1 f2
   obtain⟨b,hb,Ys⟩:=ih (ah v+1) _ (by omega) hlv t1 t2
   refine⟨a+b+1,.node hv ha hb,?_⟩
   have e1:2^(n-ah v)=2*2^(n-(ah v+1)):=by
    rw[show n-ah v=(n-(ah v+1))+1 by omega,Nat.pow_succ,Nat.mul_comm]
   have e2:2^(n-ah v)≤2^(n-l):=Nat.pow_le_pow_right (by decide) (by omega)
   omega
  ·refine⟨0,.leaf fun r hr=>?_,Nat.one_le_two_pow⟩
   cases e:N r with
   |none=>rfl
   |some d=>exact absurd ⟨r,hr,d,e⟩ he
def kP(N:eu)(v:Nat)(b:Bool)(q:List Nat)(i:Nat):List Nat:=(gX N v b q).take i++q.drop i
theorem yS{b:Bool}{i:Nat}(hi:i≤q.length):(kP N v b q i).length=q.length:=by simp[kP,gX];omega
theorem vy(b:Bool):kP N v b q 0=q:=by simp[kP]
theorem KK(b:Bool):kP N v b q q.length=gX N v b q:=by
 unfold kP
 rw[List.take_of_length_le (by rw[Mm];exact Nat.le_refl _),List.drop_length,List.append_nil]
theorem qg{b:Bool}{i r:Nat}(hr:q[i]? =some r):(kP N v b q i).set i (dG N v b r)=kP N v b q (i+1):=by
 have hi:=(List.getElem?_eq_some_iff.1 hr).1
 have he:=(List.getElem?_eq_some_iff.1 hr).2
 have hl:((gX N v b q).take i).length=i:=by simp[gX];omega
 have hc:(gX N v b q)[i]? =some (dG N v b r):=by simp[gX,hr]
 unfold kP
 rw[List.set_append_right _ _ (by omega),hl,Nat.sub_self,List.drop_eq_getElem_cons hi,List.set_cons_zero,List.take_add_one,hc,List.append_assoc]
 rfl
theorem vz{b:Bool}{i r:Nat}(hr:q[i]? =some r)(h:dG N v b r=r):kP N v b q (i+1)=kP N v b q i:=by
 rw[←qg hr,h]
 have hi:=(List.getElem?_eq_some_iff.1 hr).1
 have he:=(List.getElem?_eq_some_iff.1 hr).2
 have hl:((gX N v b q).take i).length=i:=by simp[gX];omega
 unfold kP
 rw[List.set_append_right _ _ (by omega),hl,Nat.sub_self,List.drop_eq_getElem_cons hi,List.set_cons_zero,he]
end
end aE
set_option maxRecDepth 100000
namespace Go.Proofs
open Go Go.Sx
open aE
noncomputable instance {K:Kd}{S:Nat→aE.Fn}{ord:List Nat}{l:Nat}:Decidable (nD K S ord l):=Nat.decLe _ _
noncomputable def rm(K:Kd)(S:Nat→aE.Fn):Rm:=⟨K.n,gm K S,fun ord l=>decide (nD K S ord l)⟩
theorem Ba{K:Kd}{S:Nat→aE.Fn}{ord:List Nat}{l:Nat}:(rm K S).fit ord l=true↔nD K S ord l:=by
 show decide (nD K S ord l)=true↔_
 exact decide_eq_true_iff
def rep(b a s:Nat):Value:=.agg #[.int .i64 (b:Int),.int .i64 (a:Int),.int .i64 (s:Int),.bool false]
end Go.Proofs
namespace aE
open an
section
variable {n v:Nat} {bs:List Bool} {lo hi ws:List Nat}
theorem Md(h:∀v,v<n→¬dk (eX n ws) v)(x:Nat):eX n ws x=eX n ws 0:=by
 have key:∀k,k≤n→eX n ws (x%2^k)=eX n ws 0:=fun k=>by
  induction k with
  |zero=>intro _;rw[show x%2^0=0 from Nat.mod_one x]
  |succ k ih=>
   intro hk
   rw[←ih (by omega)]
   have e:x%2^(k+1)=az (x%2^k) k (x.testBit k):=by
    apply Nat.eq_of_testBit_eq;intro i
    rw[aq,Nat.testBit_mod_two_pow,Nat.testBit_mod_two_pow]
    by_cases e:i=k
    ·subst e;simp
    ·rw[if_neg e]
     congr 1
     exact decide_eq_decide.2 (by omega)
   rw[e,cf (h k (by omega))]
 have:=key n (Nat.le_refl _)
 rw[←this]
 unfold eX
 rw[Nat.mod_mod]
end
end aE
set_option maxRecDepth 100000
namespace Go.Proofs
open Go Go.Sx
open aE
theorem bc{ws:List Nat}{i:Nat}(h:i<ws.length):(iw ws)[i]? =some ((ws.getD i 0:Nat):Int):=by
 rw[cr (w:=ws.getD i 0)]
 rw[List.getD_eq_getElem?_getD,List.getElem?_eq_getElem h];rfl
def Vo(n:Nat)(p:List Int):Prop:=p.length=n∧∀v:Nat,v<n→p.count (v:Int)=1
instance (n:Nat)(p:List Int):Decidable (Vo n p):=by unfold Vo;infer_instance
theorem Lg{p:List Int}{x:Int}{i:Nat}(h:x∉p.take i)(hi:i<p.length)(he:p[i]=x):p.idxOf x=i:=by
 have e:p=p.take i++p[i]::p.drop (i+1):=by
  conv=>lhs;rw[←List.take_append_drop i p]
  rw[List.drop_eq_getElem_cons hi]
 conv=>lhs;rw[e]
 rw[List.idxOf_append,if_neg h,he,List.idxOf_cons_self,List.length_take];omega
def mJ(p:List Int):Prop:=∀v:Nat,v<p.length→(v:Int)∈p
theorem tJ{p:List Nat}{n:Nat}(hp:p.Perm (List.range n)):mJ (iw p):=fun v hv=>by
 rw[ak,hp.length_eq,List.length_range]at hv
 exact List.mem_map.2 ⟨v,hp.mem_iff.2 (List.mem_range.2 hv),rfl⟩
theorem RO{q:List Nat}{x:Nat}:(x:Int)∈iw q↔x∈q:=by
 unfold iw
 rw[List.mem_map]
 exact⟨fun⟨y,hy,e⟩=>by rw[←Int.ofNat.inj e];exact hy,fun h=>⟨x,h,rfl⟩⟩
theorem Sd(q:List Nat)(x:Nat):(iw q).idxOf (x:Int)=q.idxOf x:=by
 induction q with
 |nil=>rfl
 |cons y q ih=>
  show(((y:Nat):Int)::iw q).idxOf (x:Int)=_
  rw[List.idxOf_cons,List.idxOf_cons,ih]
  have:(((y:Nat):Int)==(x:Int))=(y==x):=by
   rw[Bool.eq_iff_iff];simp[Int.natCast_inj]
  rw[this]
end Go.Proofs
set_option maxRecDepth 100000
namespace Go.Proofs
open Go Go.Sx
open aE
section
variable {n:Nat} {ord:List Nat} {L:an.Fs}
theorem xI:∀k,(cur n ord L k).length≤2^k*L.length
 |0=>by rw[cur,Nat.pow_zero,Nat.one_mul];exact GI L
 |k+1=>by
  have h1:=L3 n (ord.getD k 0) (cur n ord L k)
  have h2:=xI k
  rw[cur,Nat.pow_succ,Nat.mul_comm (2^k) 2,Nat.mul_assoc]
  omega
end
theorem L8{ord:List Nat}{F G:aE.Fn→Prop}(h:∀g,F g→G g):∀l g,fs ord F l g→fs ord G l g
 |0,g,hg=>h g hg
 |l+1,g,⟨f,hf,b,e⟩=>⟨f,L8 h l f hf,b,e⟩
theorem bU{n:Nat}{ord:List Nat}{F G:aE.Fn→Prop}(h:∀g,F g→G g){g:aE.Fn}(hg:aO n ord F g):aO n ord G g:=let ⟨l,a,b,c⟩:=hg;⟨l,a,L8 h l g b,c⟩
structure pU(K:Kd)(S:Nat→aE.Fn)(K':Kd)(S':Nat→aE.Fn)(f:aE.Fn)(r:Nat):Prop where
 n:K'.n=K.n
 cap:K'.cap=K.cap
 N:∀s d,K.N s=some d→K'.N s=some d
 fn:∀s,live K.N s→S' s=S s
 live:live K'.N r
 is:S' r=f
 hold:∀s,K'.hold s=K.hold s+if s=r∧2≤r then 1 else 0
theorem cO{N N':eu}(h:∀s d,N s=some d→N' s=some d){s:Nat}(hs:live N s):live N' s:=by
 rcases hs with hs|⟨d,hd⟩
 ·exact .inl hs
 ·exact .inr ⟨d,h s d hd⟩
theorem iW{K K5:Kd}{S S5:Nat→aE.Fn}{ah:Nat→Nat}(hK:Ok K S ah)(Ji:Ok K5 S5 ah)(hold:∀s,K.hold s≠0→K5.hold s≠0)(h3:∀s d d',K.N s=some d→K5.N s=some d'→d'=d):
  ∀(k s:Nat) (d:Nd),K.N s=some d→ah d.v≤k→K5.N s=some d:=by
 intro k
 induction k with
 |zero=>
  intro s d hd hl
  have fin:live K5.N s→K5.N s=some d:=fun hs=>by
   rcases hs with hs|⟨d',cV⟩
   ·have:=(hK.mid.two hd).1;omega
   ·rw[cV,h3 s d d' hd cV]
  rcases hK.reach s d hd with h|⟨p,e,hp,he⟩
  ·exact fin (.inr (Ji.mid.held s (hold s h)))
  ·have h1:=hK.wf.lo hp
   have h2:=hK.wf.hi hp
   rcases he with rfl|rfl
   ·have:=h1.2;rw[ay hd]at this;omega
   ·have:=h2.2;rw[ay hd]at this;omega
 |succ k ih=>
  intro s d hd hl
  have fin:live K5.N s→K5.N s=some d:=fun hs=>by
   rcases hs with hs|⟨d',cV⟩
   ·have:=(hK.mid.two hd).1;omega
   ·rw[cV,h3 s d d' hd cV]
  rcases hK.reach s d hd with h|⟨p,e,hp,he⟩
  ·exact fin (.inr (Ji.mid.held s (hold s h)))
  ·have h1:=hK.wf.lo hp
   have h2:=hK.wf.hi hp
   rcases he with rfl|rfl
   ·have:=h1.2;rw[ay hd]at this
    exact fin (Ji.mid.lo (ih p e hp (by omega)))
   ·have:=h2.2;rw[ay hd]at this
    exact fin (Ji.mid.hi (ih p e hp (by omega)))
theorem pU.held{K K':Kd}{S S':Nat→aE.Fn}{f:aE.Fn}{r:Nat}(h:pU K S K' S' f r)(hm:∀s,K.hold s≠0→aE.live K.N s)(g:aE.Fn)(hg:K'.held S' g):K.held S g∨g=f:=by
 obtain⟨s,hs,rfl⟩:=hg
 by_cases h0:K.hold s=0
 ·right
  have:=h.hold s
  have hs':K'.hold s≠0:=hs
  rw[h0]at this
  by_cases e:s=r∧2≤r
  ·rw[e.1];exact h.is
  ·rw[if_neg e]at this;omega
 ·exact .inl ⟨s,h0,h.fn s (hm s h0)⟩
def fK(bw kp:Nat)(vl vm:Value):Nat×Obj:=(bw,.cells #[ptr kp,vl,vm] 337 (0,0))
abbrev Q3:=Nat×Nat×Nat
def l3(q:Q3):List Nat:=[q.1,q.2.1,q.2.2]
def kq(q:Q3):Value:=.agg (ax .u32 (iw (l3 q)))
theorem OC{a b:List Nat}(h:iw a=iw b):a=b:=by
 induction a generalizing b with
 |nil=>cases b with
  |nil=>rfl
  |cons y b=>simp[iw]at h
 |cons x a ih=>cases b with
  |nil=>simp[iw]at h
  |cons y b=>
   simp only[iw,List.map_cons,List.cons.injEq]at h
   rw[Int.ofNat.inj h.1,ih h.2]
theorem R2{a b:Q3}(h:l3 a=l3 b):a=b:=by
 obtain⟨a1,a2,a3⟩:=a
 obtain⟨b1,b2,b3⟩:=b
 simp[l3]at h
 rw[h.1,h.2.1,h.2.2]
theorem vH(a b:Q3):xZ Tryz.prog 318 (kq a) (kq b) (decide (a=b)):=by
 have:=xZ.array (P:=Tryz.prog) (t:=318) (e:=77) (q:=.u32) (n:=3) (by kernel_rfl) (by kernel_rfl) (by kernel_rfl) (iw (l3 a)) (iw (l3 b)) rfl rfl
 have e:decide (iw (l3 a)=iw (l3 b))=decide (a=b):=decide_eq_decide.2 ⟨fun h=>R2 (OC h),fun h=>by rw[h]⟩
 rw[e]at this;exact this
theorem qh(a:Q3):kA Tryz.prog 318 (kq a):=kA.array (P:=Tryz.prog) (t:=318) (e:=77) (q:=.u32) (n:=3) (by kernel_rfl) (by kernel_rfl) (by kernel_rfl) _ rfl
theorem Fv(a:Q3):Instr.sameBits 10000 (kq a) (kq a)=true:=jB 9998 fun x hx=>.inl (by simp[ax]at hx;obtain⟨n,_,rfl⟩:=hx;exact⟨_,_,rfl⟩)
section
variable {kp bw:Nat} {vl vm:Value} {K:Kd} {S:Nat→aE.Fn} {ord ah tr:List Nat} {C:Hp}
theorem HZ{H:Hp}{r:List Value}{K:Value→Hp→Prop}(hl:r.length=3)(h:∀b,K (.slice (some ⟨b,0,none⟩) 1 1) ((b,.cells r.toArray 161 (0,0))::H)):av Tryz.prog 286 1 [(0,.agg r.toArray)] H K:=
 av.one (r:=r) (e:=161) (k:=3) (z:=.agg #[.int .i64 0,.int .u32 0,.int .u32 0]) (by kernel_rfl) (by kernel_rfl) (by kernel_rfl) (by decide) hl h
theorem wg{X Y:Hp}(h:cC kp K ord ah tr C)(q:Q3)(hq:∀r∈l3 q,r<4294967296):
  Fc Tryz.prog 265 #[ptr bw,kq q] (fK bw kp vl vm::(X++(Y++C))) (fun v H=>∃CN,H=CN++(fK bw kp vl vm::(X++(Y++C)))∧aR 161 3 v ((l3 q).map (got K.N)) CN):=by
 have hlen:(l3 q).length=3:=rfl
 intro g
 refine CZ (R:=aA _) ?_
 unfold L265
 intro b1 _
 refine aC.whole (r:=(iw (l3 q)).map fun n=>.int .u32 n) (by exact .head _) rfl ?_
 refine⟨fun vs H=>∃(i:Nat) (u:Value) (CN:Hp),vs=[u,.int .i64 (i:Int)]∧i≤3∧H=CN++((b1,.cells (ax .u32 (iw (l3 q))) 318 (0,0))::(fK bw kp vl vm::(X++(Y++C))))∧aR 161 3 u (((l3 q).take i).map (got K.N)) CN,fun vs _=>3-bG vs 1,
  JE.mk ⟨0,_,[],rfl,by omega,rfl,aR.nil _ _⟩,?_⟩
 rintro w8 w9 H ⟨i,u,CN,hv,hi,rfl,hN⟩ gs
 simp only[List.cons.injEq,and_true]at hv
 obtain⟨rfl,rfl⟩:=hv
 refine ae.eA (b:=3) (Br.dec (fun hlt=>?_) (fun hlt=>?_))
 ·have ic:i<(l3 q).length:=hlt
  obtain⟨r,hr⟩:∃r,(l3 q)[i]? =some r:=⟨_,List.getElem?_eq_getElem ic⟩
  have Sk:=hq r (List.mem_of_getElem? hr)
  refine kY.Xg (t:=318) (e:=77) (q:=.u32) (x:=.tmp 10) (i:=.tmp 11) (l:=iw (l3 q)) (z:=(r:Int)) (kd:=.i64) (n:=3) (j:=i) (by kernel_rfl) rfl rfl (by kernel_rfl) (by kernel_rfl) (by kernel_rfl) hlt (cr hr) ?_
  refine Nil.ptr (aa.mk (Ld.mk (v:=ptr kp) (List.mem_append_right _ (.tail _ (.head _))) rfl ?_))
  refine af.rd (args:=#[ptr kp,u32 r]) (.app (.cons (.cons (.app (.app .here))))) (fV h Sk) ?_
  rintro w rfl
  refine Ext.mk rfl (Ext.mk rfl ?_)
  intro kX _
  refine St.whole (r:=got K.N r) (by exact .head _) rfl (aG _ _).1 (aG _ _).2 ?_
  refine aC.whole (r:=got K.N r) (by exact .head _) (aG _ _).1 ?_
  refine HZ (aG _ _).1 fun bx=>?_
  refine hN.oK (r:=got K.N r) (.cons (.cons .left)) (by exact .head _) (aG _ _).1 (aG _ _).2 ⟨[.int .i64 0,.int .u32 0,.int .u32 0],rfl,rfl⟩ (by simp;omega) (by simp;omega) fun v' C' ho=>?_
  refine ae.aL (b:=1) (by simp[aB];omega) ?_
  refine aD.of (.skip .tail) ⟨i+1,v',C',rfl,by omega,rfl,?_⟩ (by simp only[bG];omega)
  rw[List.take_add_one,hr,List.map_append];exact ho
 ·obtain rfl:i=3:=by omega
  rw[List.take_of_length_le (by rw[hlen];exact Nat.le_refl _)]at hN
  exact aA.mk (.dr .tail _) ⟨CN,rfl,hN⟩
theorem F4{n:Nat}{oB:Nat→Nat}{N:eu}{B:Hp}{vn:Value}{lvl:List Nat}(hw:fK bw kp vl vm∈B)(hl:cT .i64 B vl (iw lvl))(uQ:lvl.length=n)(hlv:∀v,v<n→lvl.getD v 0=oB v)(q:Q3)(hn:Sl 3 B vn ((l3 q).map (got N)))
 (h:WF n oB N)(hL:j8 n oB)(hq:∀r∈l3 q,live N r)(zk:n≤64):
  Rd Tryz.prog 266 #[ptr bw,vn] B (fun r=>((∀s∈l3 q,N s=none)∧r=.int .i64 (-1))∨∃v,rG n oB N (l3 q) v∧r=.int .i64 (v:Int)):=by
 have hlen:(l3 q).length=3:=rfl
 intro g
 refine CY (R:=aA _) ?_
 unfold L266
 refine hn.bC ?_
 rw[List.length_map,hlen]
 refine⟨fun vs H=>∃(i:Nat) (w:Int),vs=[.int .i64 w,.int .i64 (i:Int)]∧i≤3∧H=B∧(((∀s∈(l3 q).take i,N s=none)∧w= -1)∨∃v:Nat,rG n oB N ((l3 q).take i) v∧w=(v:Int)),fun vs _=>3-bG vs 1,
  JE.mk ⟨0, -1,rfl,by omega,rfl,.inl ⟨by simp,rfl⟩⟩,?_⟩
 rintro w6 w7 H ⟨i,w,hv,hi,rfl,Qr⟩ gs
 simp only[List.cons.injEq,and_true]at hv
 obtain⟨rfl,rfl⟩:=hv
 refine ae.eA (b:=3) (Br.dec (fun hlt=>?_) (fun hlt=>?_))
 ·intro J hJ
  have ic:i<(l3 q).length:=hlt
  obtain⟨r,hr⟩:∃r,(l3 q)[i]? =some r:=⟨_,List.getElem?_eq_getElem ic⟩
  have lO:(l3 q).take (i+1)=(l3 q).take i++[r]:=by rw[List.take_add_one,hr];rfl
  have fin:∀(w':Int) (Z:Hp),((∀s∈(l3 q).take (i+1),N s=none)∧w'= -1)∨(∃v:Nat,rG n oB N ((l3 q).take (i+1)) v∧w'=(v:Int))→J [.int .i64 w'] (Z++H):=fun w' Z h'=>hJ _ _ fun gs=>by
   refine ae.aL (b:=1) (by simp[aB];omega) ?_
   exact aD.of .right ⟨i+1,w',rfl,by omega,rfl,h'⟩ (by simp only[bG];omega)
  have hrow:((l3 q).map (got N))[i]? =some (got N r):=by rw[List.getElem?_map,hr];rfl
  refine ai.sl hn hrow fun p hp=>?_
  refine aC.at hp (aG _ _).1 (by decide) (fun _ h=>h) ?_
  intro jd _
  refine St.whole (r:=got N r) (by exact .head _) rfl (aG _ _).1 (aG _ _).2 ?_
  have hlr:=hq r (List.mem_of_getElem? hr)
  cases hN:N r with
  |none=>
   have uk:r<2:=by rcases hlr with h2|⟨d,hd⟩;exact h2;rw[hN]at hd;cases hd
   have eg:got N r=[.int .i64 (-1),u32 r,u32 r]:=dY uk
   rw[eg]
   refine aa.mk (Ld.mk (v:=.int .i64 (-1)) (by exact .head _) rfl ?_)
   refine ae.geq ?_
   refine bT.mk false (fun h=>by simp at h) (fun _=>rfl) fun gs=>Br.no ?_
   refine JE.mk (fin w [_] ?_)
   rcases Qr with⟨h1,h2⟩|⟨v,h1,h2⟩
   ·refine .inl ⟨fun s hs=>?_,h2⟩
    rw[lO,List.mem_append,List.mem_singleton]at hs
    rcases hs with hs|rfl
    ·exact h1 s hs
    ·exact hN
   ·refine .inr ⟨v,⟨h1.lt,?_,fun s hs=>?_⟩,h2⟩
    ·obtain⟨s,hs,x⟩:=h1.ex;exact⟨s,by rw[lO];exact List.mem_append_left _ hs,x⟩
    ·rw[lO,List.mem_append,List.mem_singleton]at hs
     rcases hs with hs|rfl
     ·exact h1.le s hs
     ·rw[aU hN];exact Nat.le_of_lt (hL.lt v h1.lt)
  |some d=>
   have h2:=h.two hN
   have nT:=h.var hN
   have eg:got N r=aP d:=df hN h2
   rw[eg]
   refine aa.mk (Ld.mk (v:=.int .i64 (d.v:Int)) (by exact .head _) rfl ?_)
   refine ae.geq ?_
   rw[decide_eq_true (by omega)]
   have yA:(∀s∈(l3 q).take i,oB d.v≤dep n oB N s)→∃v:Nat,rG n oB N ((l3 q).take (i+1)) v∧(d.v:Int)=(v:Int):=fun hle=>by
    refine⟨d.v,⟨nT,⟨r,by rw[lO];simp,d,hN,rfl⟩,fun s hs=>?_⟩,rfl⟩
    rw[lO,List.mem_append,List.mem_singleton]at hs
    rcases hs with hs|rfl
    ·exact hle s hs
    ·rw[ay hN];exact Nat.le_refl _
   rcases Qr with⟨h1,rfl⟩|⟨v,h1,rfl⟩
   ·refine bT.and true (fun _=>?_) rfl fun gs=>Br.yes ?_
    ·refine ae.lss ?_
     exact bT.mk true (fun h=>by simp at h) (fun _=>rfl) fun gs=>⟨rfl,rfl⟩
    ·refine aa.mk (Ld.mk (v:=.int .i64 (d.v:Int)) (by exact .head _) rfl ?_)
     refine JE.mk (fin (d.v:Int) [_] (.inr (yA fun s hs=>?_)))
     rw[aU (h1 s hs)];exact Nat.le_of_lt (hL.lt _ nT)
   ·have g1:(iw lvl)[d.v]? =some ((oB d.v:Nat):Int):=by rw[←hlv d.v nT];exact bc (by omega)
    have g2:(iw lvl)[v]? =some ((oB v:Nat):Int):=by rw[←hlv v h1.lt];exact bc (by have:=h1.lt;omega)
    refine bT.and (decide (oB d.v<oB v)) (fun _=>?_) rfl fun gs=>?_
    ·refine ae.lss ?_
     rw[decide_eq_false (by omega)]
     refine bT.or (decide (oB d.v<oB v)) (fun _=>?_) rfl fun gs=>⟨rfl,by simp⟩
     refine Nil.ptr (aa.mk (Ld.mk (v:=vl) (.tail _ hw) rfl ?_))
     refine aa.mk (Ld.mk (v:=.int .i64 (d.v:Int)) (by exact .head _) rfl ?_)
     refine hl.ld g1 (fun _ h=>.tail _ h) ?_
     refine Nil.ptr (aa.mk (Ld.mk (v:=vl) (.tail _ hw) rfl ?_))
     refine hl.ld g2 (fun _ h=>.tail _ h) ?_
     exact ae.eA ⟨rfl,rfl⟩
    ·rw[Bool.true_and]
     refine Br.dec (fun oC=>?_) (fun oC=>?_)
     ·refine aa.mk (Ld.mk (v:=.int .i64 (d.v:Int)) (by exact .head _) rfl ?_)
      refine JE.mk (fin (d.v:Int) [_] (.inr (yA fun s hs=>?_)))
      have:=h1.le s hs;omega
     ·refine JE.mk (fin (v:Int) [_] (.inr ⟨v,⟨h1.lt,?_,fun s hs=>?_⟩,rfl⟩))
      ·obtain⟨s,hs,x⟩:=h1.ex;exact⟨s,by rw[lO];exact List.mem_append_left _ hs,x⟩
      ·rw[lO,List.mem_append,List.mem_singleton]at hs
       rcases hs with hs|rfl
       ·exact h1.le s hs
       ·rw[ay hN];omega
 ·obtain rfl:i=3:=by omega
  rw[List.take_of_length_le (by rw[hlen];exact Nat.le_refl _)]at Qr
  refine cz.mk (.refl _) ?_
  rcases Qr with⟨h1,rfl⟩|⟨v,h1,rfl⟩
  ·exact .inl ⟨h1,rfl⟩
  ·exact .inr ⟨v,h1,rfl⟩
theorem B9(r v:Nat)(B:Hp):Rd Tryz.prog 267 #[ptr bw,.int .i64 (v:Int),u32 r,u32 r] B (· =.tuple #[u32 r,.int .i64 0]):=by
 intro g
 refine tT (R:=aA _) ?_
 unfold L267
 exact ae.jF (Br.fc rfl (cz.mk (.refl _) rfl))
theorem MI{CM X:Hp}{made:List Nat}(h:cK kp K S ord ah tr C){v lo hi:Nat}(hv:v<K.n)(hlo:live K.N lo)(hhi:live K.N hi)(hne:lo≠hi)(hlt:lv ah v<dep K.n (lv ah) K.N lo∧lv ah v<dep K.n (lv ah) K.N hi)
 (hM:aN 77 .u32 vm (iw made) CM)(hf:∀s,K.hold s<65535)(hlen:made.length≤1099511627776):
  Fc Tryz.prog 267 #[ptr bw,.int .i64 (v:Int),u32 lo,u32 hi] (fK bw kp vl vm::(X++(CM++C))) (fun w H=>
   (∃r K' S' C' Rh T8,w=.tuple #[u32 r,.int .i64 0]∧H=fK bw kp vl Rh::(X++(T8++C'))∧cK kp K' S' ord ah [] C'∧nZ K S K' S' (ite S ⟨v,lo,hi⟩) r∧aN 77 .u32 Rh (iw (made++[r])) T8)∨
   (w=.tuple #[u32 0,.int .i64 9]∧H=fK bw kp vl vm::(X++(CM++C))∧K.cap≤K.used∧K.T ⟨v,lo,hi⟩=none)):=by
 intro g
 refine tT (R:=aA _) ?_
 unfold L267
 refine ae.eB (Br.bt hne ?_)
 refine Nil.ptr (aa.mk (Ld.mk (v:=ptr kp) (by exact .head _) rfl ?_))
 refine af.fn (.cons (.app (.app .here))) (xg h hv hlo hhi (.inr hlt)) ?_
 rintro w C' (⟨r,K',S',rfl,iO,mk⟩|⟨r,rfl,_,_,_,hfull,_⟩|⟨rfl,rfl,hcap,_,hT⟩)
 ·refine Ext.mk rfl (Ext.mk rfl ?_)
  intro J hJ
  refine ae.jF (Br.fc rfl ?_)
  refine Nil.ptr (aa.mk (Ld.mk (v:=vm) (by exact .head _) rfl ?_))
  refine av.int (e:=77) (by kernel_rfl) (by kernel_rfl) (by kernel_rfl) fun bx=>?_
  refine hM.oK (x:=(r:Int)) (.cons (.cons (.app .left))) (by exact .head _) (by rw[ak];omega) (by rw[ak];omega) fun Rh T8 S9=>?_
  have h1:=S9.one
  refine Nil.ptr (aa.mk (St.one (by exact .tail (.head _)) h1 (by simp) rfl ?_))
  refine aA.mk .tail (.inl ⟨r,K',S',C',Rh,T8,rfl,rfl,iO,mk,?_⟩)
  rw[cm];exact S9
 ·have:=hf r;omega
 ·refine Ext.mk rfl (Ext.mk rfl ?_)
  intro J hJ
  refine ae.jF (Br.bt (by decide) ?_)
  refine ae.jF (Br.bt (by decide) ?_)
  exact JE.mk (hJ _ fun gs=>aA.here (.inr ⟨rfl,rfl,hcap,hT⟩))
end
structure mK(K0:Kd)(S0:Nat→aE.Fn)(U:aE.Fn→Prop)(ord:List Nat)(K:Kd)(S:Nat→aE.Fn)(made:List Nat):Prop where
 n:K.n=K0.n
 cap:K.cap=K0.cap
 N:∀s d,K0.N s=some d→K.N s=some d
 fn:∀s,live K0.N s→S s=S0 s
 hold:∀s,K.hold s=K0.hold s+made.count s
 two:∀s∈made,2≤s
 U:∀g,aO K0.n ord (K.held S) g→U g
theorem mK.refl{K0:Kd}{S0:Nat→aE.Fn}{U:aE.Fn→Prop}{ord:List Nat}(h:∀g,aO K0.n ord (K0.held S0) g→U g):mK K0 S0 U ord K0 S0 []:=⟨rfl,rfl,fun _ _ h=>h,fun _ _=>rfl,fun s=>by simp,by simp,h⟩
def Fits(U:aE.Fn→Prop)(cap:Nat):Prop:=∃ku,qF U ku∧ku+2≤cap
section
variable {kp:Nat} {K0 K:Kd} {S0 S:Nat→aE.Fn} {U:aE.Fn→Prop} {ord ah tr:List Nat} {made:List Nat} {C:Hp}
theorem mK.gC(h:mK K0 S0 U ord K S made)(hK:cK kp K S ord ah tr C){s:Nat}(hs:s∈made):live K.N s:=by
 refine .inr (hK.ok.mid.held s ?_)
 rw[h.hold]
 have:=List.count_pos_iff.2 hs
 omega
theorem mK.live(h:mK K0 S0 U ord K S made){s:Nat}(hs:live K0.N s):live K.N s:=cO h.N hs
theorem mK.step(h:mK K0 S0 U ord K S made)(hK:cK kp K S ord ah tr C){K':Kd}{S':Nat→aE.Fn}{f:aE.Fn}{r:Nat}(m:nZ K S K' S' f r)(h2:2≤r)(hU:∀g,aO K0.n ord (fun g=>g=f) g→U g):mK K0 S0 U ord K' S' (made++[r]):=by
 refine⟨m.n.trans h.n,m.cap.trans h.cap,fun s d hd=>m.N s d (h.N s d hd),fun s hs=>(m.fn s (h.live hs)).trans (h.fn s hs),fun s=>?_,fun s hs=>?_,fun g hg=>?_⟩
 ·rw[m.hold,List.count_append,List.count_singleton,h.hold]
  by_cases e:s=r
  ·subst e;simp[h2];omega
  ·have:(r==s)=false:=by simpa using fun e'=>e e'.symm
   simp[e,this]
 ·rcases List.mem_append.1 hs with hs|hs
  ·exact h.two s hs
  ·simp at hs;subst hs;exact h2
 ·have jj:∀g,K'.held S' g→K.held S g∨g=f:=by
   rintro g ⟨s,hs,rfl⟩
   have hs':K'.hold s≠0:=hs
   rw[m.hold]at hs'
   by_cases e:s=r∧2≤r
   ·right;rw[e.1];exact m.is
   ·rw[if_neg e]at hs'
    exact .inl ⟨s,hs',m.fn s (.inr (hK.ok.mid.held s hs'))⟩
  rcases(KG g).1 (bU jj hg)with h1|h1
  ·exact h.U g h1
  ·exact hU g h1
end
def oH(eY b1 b5 jd:Nat):Value:=.func (.func 264) #[] #[ptr eY,ptr b1,ptr b5,ptr jd]
structure xV(fv:Value)(LB:Hp)(t:Bool→Bool→Bool→Bool):Prop where
 is:∃f first cap,fv=.func (.func f) first cap∧bB Tryz.prog f=true∧∀x y z:Bool,Rd Tryz.prog f (first++ #[.bool x,.bool y,.bool z]++cap) LB (· =.bool (t x y z))
def XA(K0:Kd)(S0 S:Nat→aE.Fn)(t:Bool→Bool→Bool→Bool)(made:List Nat)(m:List (Q3×Nat)):Prop:=∀y∈m,S y.2=rV t S0 (l3 y.1)∧(y.2<2∨y.2∈made)
section
variable {kp eY b1 b5 jd bm bw:Nat} {vl fv:Value} {LB CL:Hp} {lvl:List Nat} {K0:Kd} {S0:Nat→aE.Fn} {U:aE.Fn→Prop} {ord ah:List Nat} {t:Bool→Bool→Bool→Bool}
abbrev Q0(eY b1 b5 jd bm bw kp:Nat)(fv vl vm:Value)(LB CL CM C:Hp)(es:Array MapEntry)(ck:Nat):Hp:=
 (eY,.cells #[.map (some bm)] 339 (0,0))::(b1,.cells #[ptr bw] 313 (0,0))::(b5,.cells #[fv] 320 (0,0))::(jd,.cells #[oH eY b1 b5 jd] 340 (0,0))::
 (LB++((bm,.map es ck)::(fK bw kp vl vm::(CL++(CM++C)))))
structure Stp(kp:Nat)(K0:Kd)(S0:Nat→aE.Fn)(U:aE.Fn→Prop)(ord ah Rz:List Nat)(t:Bool→Bool→Bool→Bool)(K:Kd)(S:Nat→aE.Fn)(made:List Nat)(es:Array MapEntry)(ck:Nat)(vm:Value)(CM C:Hp):Prop where
 ks:∃tr,cK kp K S ord ah tr C∧(tr=[]∨(tr=Rz∧made=[]))
 cY:mK K0 S0 U ord K S made
 Zu:aN 77 .u32 vm (iw made) CM
 kn:∃m,aM kq JG es ck m∧XA K0 S0 S t made m
structure fC(K:Kd)(S:Nat→aE.Fn)(made:List Nat)(K':Kd)(S':Nat→aE.Fn)(made':List Nat)(c:Nat):Prop where
 N:∀s d,K.N s=some d→K'.N s=some d
 fn:∀s,live K.N s→S' s=S s
 ext:∃ext,made'=made++ext∧ext.length≤c
theorem fC.refl{K:Kd}{S:Nat→aE.Fn}{made:List Nat}{c:Nat}:fC K S made K S made c:=⟨fun _ _ h=>h,fun _ _=>rfl,[],by simp,Nat.zero_le _⟩
section
variable {K K' K2:Kd} {S S' S2:Nat→aE.Fn} {made made' fU:List Nat} {c c':Nat}
theorem fC.JB(h:fC K S made K' S' made' c)(hc:c≤c'):fC K S made K' S' made' c':=⟨h.N,h.fn,let ⟨e,h1,h2⟩:=h.ext;⟨e,h1,by omega⟩⟩
theorem fC.mem{s:Nat}(h:fC K S made K' S' made' c)(hs:s∈made):s∈made':=by
 obtain⟨e,rfl,_⟩:=h.ext;exact List.mem_append_left _ hs
theorem fC.count(h:fC K S made K' S' made' c)(s:Nat):made'.count s≤made.count s+c∧made'.length≤made.length+c:=by
 obtain⟨e,rfl,he⟩:=h.ext
 have:=List.count_le_length (a:=s) (l:=e)
 rw[List.count_append,List.length_append];omega
theorem fC.trans(h:fC K S made K' S' made' c)(h':fC K' S' made' K2 S2 fU c'):fC K S made K2 S2 fU (c+c'):=by
 obtain⟨e,rfl,he⟩:=h.ext
 obtain⟨e',rfl,he'⟩:=h'.ext
 exact⟨fun s d hd=>h'.N s d (h.N s d hd),fun s hs=>(h'.fn s (cO h.N hs)).trans (h.fn s hs),e++e',by rw[List.append_assoc],by rw[List.length_append];omega⟩
end
theorem pe{κ β:Type}[DecidableEq κ]{m:List (κ×β)}{k:κ}{x:β}{y:κ×β}(h:y∈fA m k x):y=(k,x)∨y∈m:=by
 unfold fA at h
 split at h
 ·obtain⟨z,hz,rfl⟩:=List.mem_map.1 h
  split
  ·exact .inl rfl
  ·exact .inr hz
 ·rcases List.mem_append.1 h with h|h
  ·exact .inr h
  ·simp at h;exact .inl h
def uL(N:eu)(v:Nat)(b:Bool)(q:Q3):Q3:=(dG N v b q.1,dG N v b q.2.1,dG N v b q.2.2)
theorem Ow(N:eu)(v:Nat)(b:Bool)(q:Q3):l3 (uL N v b q)=gX N v b (l3 q):=rfl
theorem mr{N N':eu}(hN:∀s d,N s=some d→N' s=some d)(h2:∀r,r<2→N r=none)(mq:∀r,r<2→N' r=none){r:Nat}(hr:live N r):got N' r=got N r:=by
 rcases hr with hr|⟨d,hd⟩
 ·rw[dY hr,dY hr]
 ·by_cases h:r<2
  ·rw[h2 r h]at hd;cases hd
  ·rw[df hd (by omega),df (hN r d hd) (by omega)]
def Ans(kp eY b1 b5 jd bm bw:Nat)(fv vl:Value)(LB CL:Hp)(K0:Kd)(S0:Nat→aE.Fn)(U:aE.Fn→Prop)(ord ah Rz:List Nat)(t:Bool→Bool→Bool→Bool)(ql:List Nat)(c:Nat)(K:Kd)(S:Nat→aE.Fn)(made:List Nat)(r:Value)(H:Hp):Prop:=
 ∃K' S' made' es' ct Rh T8 C',H=Q0 eY b1 b5 jd bm bw kp fv vl Rh LB CL T8 C' es' ct∧Stp kp K0 S0 U ord ah Rz t K' S' made' es' ct Rh T8 C'∧fC K S made K' S' made' c∧
   ((∃x:Nat,r=.tuple #[u32 x,.int .i64 0]∧S' x=rV t S0 ql∧(x<2∨x∈made'))∨(r=.tuple #[u32 0,.int .i64 9]∧¬Fits U K0.cap))
theorem Ts(gK:bB Tryz.prog 264=true)(AD:xV fv LB t)(QX:aN 3 .i64 vl (iw lvl) CL)(uQ:lvl.length=K0.n)(hlv:∀v,v<K0.n→lvl.getD v 0=lv ah v)(zk:K0.n≤64)(jK:WF K0.n (lv ah) K0.N)(nH:Interp K0.N S0)(iN:j8 K0.n (lv ah))(O8:∀r,live K0.N r→r<4294967296){Rz:List Nat}:
  ∀(ql:List Nat) (c:Nat),Tree K0.n (lv ah) K0.N ql c→∀(q:Q3),l3 q=ql→∀(K:Kd) (S:Nat→aE.Fn) (made:List Nat) (es:Array MapEntry) (ck:Nat) (vm:Value) (CM C:Hp),Stp kp K0 S0 U ord ah Rz t K S made es ck vm CM C→
  (∀r∈ql,live K0.N r)→(∀g,aO K0.n ord (fun g=>g=rV t S0 ql) g→U g)→(∀s,K.hold s+c<65535)→made.length+c≤1048576→
  Fc Tryz.prog 264 #[kq q,ptr eY,ptr b1,ptr b5,ptr jd] (Q0 eY b1 b5 jd bm bw kp fv vl vm LB CL CM C es ck) (fun r H=>Ans kp eY b1 b5 jd bm bw fv vl LB CL K0 S0 U ord ah Rz t ql c K S made r H):=by
 have hc0:∀r,r<2→K0.N r=none:=fun r hr=>jK.const hr
 intro ql c hT
 induction hT with
 | @leaf ql hnone=>
  intro q hq K S made es ck vm CM C hS fJ hU hB hM g
  subst hq
  obtain⟨tr,hK,qR⟩:=hS.ks
  obtain⟨m,hE,hkn⟩:=hS.kn
  have FG:∀r,r<2→K.N r=none:=fun r hr=>hK.ok.wf.const hr
  refine tU (R:=aA _) ?_
  unfold L264
  intro bq _
  refine Ld.mk (v:=.map (some bm)) (by exact .tail _ (.head _)) rfl ?_
  refine aC.whole (r:=(iw (l3 q)).map fun n=>.int .u32 n) (by exact .head _) rfl ?_
  have uP:(bm,Obj.map es ck)∈(bq,Obj.cells (ax .u32 (iw (l3 q))) 318 (0,0))::Q0 eY b1 b5 jd bm bw kp fv vl vm LB CL CM C es ck:=.tail _ (.tail _ (.tail _ (.tail _ (.tail _ (List.mem_append_right _ (.head _))))))
  cases hg:c9 m q with
  |some x=>
   refine aM.BG (ke:=kq) (k:=q) vH qh hE uP hg ?_
   rintro v rfl
   obtain⟨h1,h2⟩:=hkn _ ((fT hE.nd).1 hg)
   refine Ext.mk rfl (Ext.mk rfl (Br.yes ?_))
   exact aA.mk .tail ⟨K,S,made,es,ck,vm,CM,C,rfl,hS,.refl,.inl ⟨x,rfl,h1,h2⟩⟩
  |none=>
   refine aM.sP (ke:=kq) (k:=q) vH qh hE uP hg ?_
   refine Ext.mk rfl (Ext.mk rfl (Br.no ?_))
   refine Ld.mk (v:=ptr bw) (by exact .tail _ (.tail _ (.head _))) rfl ?_
   refine aC.whole (r:=(iw (l3 q)).map fun n=>.int .u32 n) (by exact .head _) rfl ?_
   refine af.fn (args:=#[ptr bw,kq q]) (.cons (.cons (.cons (.cons (.cons (.app (.cons .here))))))) (wg hK.rep q (fun r hr=>O8 r (fJ r hr))) ?_
   rintro vn H ⟨CN,rfl,hN⟩
   have eN:(l3 q).map (got K.N)=(l3 q).map (got K0.N):=List.map_congr_left fun r hr=>mr hS.cY.N hc0 FG (fJ r hr)
   rw[eN]at hN
   refine Ld.mk (v:=ptr bw) (by exact .tail _ (.tail _ (.head _))) rfl ?_
   refine af.rd .here (F4 (bw:=bw) (kp:=kp) (vl:=vl) (vm:=vm) (lvl:=lvl) (n:=K0.n) (oB:=lv ah) (N:=K0.N) (.tail _ (.tail _ (.tail _ (.tail _ (.tail _ (List.mem_append_right _ (.tail _ (List.mem_append_right _ (.head _))))))))) (QX.ints.mono fun _ h=>.tail _ (.tail _ (.tail _ (.tail _ (.tail _ (List.mem_append_right _ (.tail _ (List.mem_append_right _ (.tail _ (List.mem_append_left _ h)))))))))) uQ hlv q ((Sl.lj hN (by decide)).mono fun _ h=>.tail _ (.tail _ (.tail _ (.tail _ (.tail _ (List.mem_append_right _ (.tail _ (List.mem_append_left _ h)))))))) jK iN fJ zk) ?_
   rintro w (⟨_,rfl⟩|⟨v,hv,rfl⟩)
   rotate_left
   ·obtain⟨s,hs,d,hd,_⟩:=hv.ex
    rw[hnone s hs]at hd;cases hd
   refine ae.lss (Br.fc (by decide) ?_)
   have HF:∀r∈l3 q,r<2:=fun r hr=>by
    rcases fJ r hr with h|⟨d,hd⟩
    ·exact h
    ·rw[hnone r hr]at hd;cases hd
   obtain⟨f,first,cap,LA,hfc,hL⟩:=AD.is
   refine Ld.mk (v:=fv) (by exact .tail _ (.tail _ (.tail _ (.head _)))) rfl ?_
   refine gZ.nat (j:=0) (by decide) (Ld.mk (v:=.int .u32 ((q.1:Nat):Int)) (by exact .head _) rfl ?_)
   refine ae.eB (b:=1) ?_
   refine gZ.nat (j:=1) (by decide) (Ld.mk (v:=.int .u32 ((q.2.1:Nat):Int)) (by exact .head _) rfl ?_)
   refine ae.eB (b:=1) ?_
   refine gZ.nat (j:=2) (by decide) (Ld.mk (v:=.int .u32 ((q.2.2:Nat):Int)) (by exact .head _) rfl ?_)
   refine ae.eB (b:=1) ?_
   refine cc.of LA hfc ?_
   refine af.rd (.cons (.cons (.cons (.cons (.cons .left))))) (hL _ _ _) ?_
   rintro w rfl
   have Uq:=fun x=>HR nH (q:=l3 q) rfl HF t x
   have hint:=hK.ok.mid.int
   have QD:aQ ((bq,Obj.cells (ax .u32 (iw (l3 q))) 318 (0,0))::(eY,.cells #[.map (some bm)] 339 (0,0))::(b1,.cells #[ptr bw] 313 (0,0))::(b5,.cells #[fv] 320 (0,0))::(jd,.cells #[oH eY b1 b5 jd] 340 (0,0))::(LB++((bm,.map es ck)::(CN++(fK bw kp vl vm::(CL++(CM++C))))))) (Q0 eY b1 b5 jd bm bw kp fv vl vm LB CL CM C es ck):=
    .skip (.cons (.cons (.cons (.cons (.dr (.cons .right) _)))))
   refine Br.mk (fun hb=>?_) (fun hb=>?_)
   ·refine aA.mk QD ⟨K,S,made,es,ck,vm,CM,C,rfl,hS,.refl,.inl ⟨1,rfl,funext fun x=>?_,.inl (by omega)⟩⟩
    rw[hint.one,Uq x];exact hb.symm
   ·refine aA.mk QD ⟨K,S,made,es,ck,vm,CM,C,rfl,hS,.refl,.inl ⟨0,rfl,funext fun x=>?_,.inl (by omega)⟩⟩
    rw[hint.zero,Uq x];exact hb.symm
 | @node ql v a b hv ha hb iha ihb=>
  intro q hq K S made es ck vm CM C hS fJ hU hB hM g
  subst hq
  obtain⟨tr,hK,qR⟩:=hS.ks
  obtain⟨m,hE,hkn⟩:=hS.kn
  have FG:∀r,r<2→K.N r=none:=fun r hr=>hK.ok.wf.const hr
  refine tU (R:=aA _) ?_
  unfold L264
  intro bq _
  refine Ld.mk (v:=.map (some bm)) (by exact .tail _ (.head _)) rfl ?_
  refine aC.whole (r:=(iw (l3 q)).map fun n=>.int .u32 n) (by exact .head _) rfl ?_
  have uP:(bm,Obj.map es ck)∈(bq,Obj.cells (ax .u32 (iw (l3 q))) 318 (0,0))::Q0 eY b1 b5 jd bm bw kp fv vl vm LB CL CM C es ck:=.tail _ (.tail _ (.tail _ (.tail _ (.tail _ (List.mem_append_right _ (.head _))))))
  cases hg:c9 m q with
  |some x=>
   refine aM.BG (ke:=kq) (k:=q) vH qh hE uP hg ?_
   rintro v rfl
   obtain⟨h1,h2⟩:=hkn _ ((fT hE.nd).1 hg)
   refine Ext.mk rfl (Ext.mk rfl (Br.yes ?_))
   exact aA.mk .tail ⟨K,S,made,es,ck,vm,CM,C,rfl,hS,.refl,.inl ⟨x,rfl,h1,h2⟩⟩
  |none=>
  refine aM.sP (ke:=kq) (k:=q) vH qh hE uP hg ?_
  refine Ext.mk rfl (Ext.mk rfl (Br.no ?_))
  refine Ld.mk (v:=ptr bw) (by exact .tail _ (.tail _ (.head _))) rfl ?_
  refine aC.whole (r:=(iw (l3 q)).map fun n=>.int .u32 n) (by exact .head _) rfl ?_
  refine af.fn (args:=#[ptr bw,kq q]) (.cons (.cons (.cons (.cons (.cons (.app (.cons .here))))))) (wg hK.rep q (fun r hr=>O8 r (fJ r hr))) ?_
  rintro vn H ⟨CN,rfl,hN⟩
  have eN:(l3 q).map (got K.N)=(l3 q).map (got K0.N):=List.map_congr_left fun r hr=>mr hS.cY.N hc0 FG (fJ r hr)
  rw[eN]at hN
  refine Ld.mk (v:=ptr bw) (by exact .tail _ (.tail _ (.head _))) rfl ?_
  refine af.rd .here (F4 (bw:=bw) (kp:=kp) (vl:=vl) (vm:=vm) (lvl:=lvl) (n:=K0.n) (oB:=lv ah) (N:=K0.N) (.tail _ (.tail _ (.tail _ (.tail _ (.tail _ (List.mem_append_right _ (.tail _ (List.mem_append_right _ (.head _))))))))) (QX.ints.mono fun _ h=>.tail _ (.tail _ (.tail _ (.tail _ (.tail _ (List.mem_append_right _ (.tail _ (List.mem_append_right _ (.tail _ (List.mem_append_left _ h)))))))))) uQ hlv q ((Sl.lj hN (by decide)).mono fun _ h=>.tail _ (.tail _ (.tail _ (.tail _ (.tail _ (List.mem_append_right _ (.tail _ (List.mem_append_left _ h)))))))) jK iN fJ zk) ?_
  rintro w (⟨aK,_⟩|⟨v',Ay,rfl⟩)
  ·obtain⟨s,hs,d,hd,_⟩:=hv.ex
   rw[aK s hs]at hd;cases hd
  obtain rfl:v'=v:=Ay.uniq iN hv
  refine ae.lss (Br.bt (by omega) ?_)
  refine DR.of (R:=[(bq,Obj.cells (ax .u32 (iw (l3 q))) 318 (0,0))]) (aQ.left (A:=[_])) ?_
  refine aC.whole (r:=(iw (l3 q)).map fun n=>.int .u32 n) (by exact .head _) rfl ?_
  refine aC.whole (r:=(iw (l3 q)).map fun n=>.int .u32 n) (by exact .head _) rfl ?_
  intro B4 _ pN _ F35
  have hone:∀x∈(iw (l3 q)).map fun n=>Value.int .u32 n,x.oneCell'=true:=fun x hx=>by obtain⟨n,_,rfl⟩:=List.mem_map.1 hx;rfl
  refine St.whole (r:=(iw (l3 q)).map fun n=>.int .u32 n) (by exact .tail (.head _)) rfl rfl hone ?_
  refine⟨.skip (.skip (aQ.left (A:=[_]))),?_⟩
  intro F37
  refine St.whole (r:=(iw (l3 q)).map fun n=>.int .u32 n) (by exact .head _) rfl rfl hone ?_
  refine hN.bC ?_
  rw[List.length_map]
  refine⟨fun vs H=>∃i:Nat,vs=[.int .i64 (i:Int)]∧i≤3∧H=(pN,.cells (ax .u32 (iw (kP K0.N v' true (l3 q) i))) 318 (0,0))::(B4,.cells (ax .u32 (iw (kP K0.N v' false (l3 q) i))) 318 (0,0))::
    (bq,Obj.cells (ax .u32 (iw (l3 q))) 318 (0,0))::(eY,.cells #[.map (some bm)] 339 (0,0))::(b1,.cells #[ptr bw] 313 (0,0))::(b5,.cells #[fv] 320 (0,0))::(jd,.cells #[oH eY b1 b5 jd] 340 (0,0))::(LB++((bm,.map es ck)::(CN++(fK bw kp vl vm::(CL++(CM++C)))))),
   fun vs _=>3-bG vs 0,JE.mk ⟨0,rfl,by omega,by rw[vy,vy];rfl⟩,?_⟩
  rintro JD H ⟨i,hvs,hi,rfl⟩ gs
  simp only[List.cons.injEq,and_true]at hvs
  subst hvs
  have hl3:(l3 q).length=3:=rfl
  refine ae.eA (b:=3) (Br.dec (fun hlt=>?_) (fun hlt=>?_))
  ·-- a part of the question
   intro J hJ
   obtain⟨r,hr⟩:∃r,(l3 q)[i]? =some r:=⟨_,List.getElem?_eq_getElem (show i<(l3 q).length from hlt)⟩
   have hlr:=fJ r (List.mem_of_getElem? hr)
   have hrow:((l3 q).map (got K0.N))[i]? =some (got K0.N r):=by rw[List.getElem?_map,hr];rfl
   refine ai.sl (Sl.lj hN (by decide)) hrow fun p hp=>?_
   refine aC.at hp (aG _ _).1 (by decide) (fun _ h=>.tail _ (.tail _ (.tail _ (.tail _ (.tail _ (.tail _ (.tail _ (List.mem_append_right _ (.tail _ (List.mem_append_left _ h)))))))))) ?_
   intro UD _
   refine St.whole (r:=got K0.N r) (by exact .head _) rfl (aG _ _).1 (aG _ _).2 ?_
   have stay:dG K0.N v' false r=r→dG K0.N v' true r=r→∀Z:Hp,JE J [] (Z++((pN,.cells (ax .u32 (iw (kP K0.N v' true (l3 q) i))) 318 (0,0))::(B4,.cells (ax .u32 (iw (kP K0.N v' false (l3 q) i))) 318 (0,0))::
    (bq,Obj.cells (ax .u32 (iw (l3 q))) 318 (0,0))::(eY,.cells #[.map (some bm)] 339 (0,0))::(b1,.cells #[ptr bw] 313 (0,0))::(b5,.cells #[fv] 320 (0,0))::(jd,.cells #[oH eY b1 b5 jd] 340 (0,0))::(LB++((bm,.map es ck)::(CN++(fK bw kp vl vm::(CL++(CM++C)))))))):=fun e1 e2 Z=>by
    refine JE.of .right (hJ _ fun gs=>?_)
    refine ae.aL (b:=1) (by simp[aB];omega) ?_
    exact aD.of (.refl _) ⟨i+1,rfl,by omega,by rw[vz hr e1,vz hr e2]⟩ (by simp only[bG];omega)
   cases S7:K0.N r with
   |none=>
    have uk:r<2:=by rcases hlr with h2|⟨d,hd⟩;exact h2;rw[S7]at hd;cases hd
    rw[dY uk]
    refine aa.mk (Ld.mk (v:=.int .i64 (-1)) (by exact .head _) rfl ?_)
    refine ae.jF (Br.bt (by omega) ?_)
    have ec:∀b,dG K0.N v' b r=r:=fun b=>by unfold dG;rw[S7]
    exact stay (ec false) (ec true) [_]
   |some d=>
    have h2:=jK.two S7
    rw[df S7 h2]
    refine aa.mk (Ld.mk (v:=.int .i64 (d.v:Int)) (by exact .head _) rfl ?_)
    refine ae.eB (Br.dec (fun nT=>?_) (fun nT=>?_))
    ·refine DR.of (R:=[(UD,Obj.cells (aP d).toArray 161 (0,0))]) (aQ.left (A:=[_])) ?_
     refine aa.mk (Ld.mk (v:=u32 d.lo) (by exact .head _) rfl ?_)
     refine aa.mk (Ld.mk (v:=u32 d.hi) (by exact .head _) rfl ?_)
     have elo:dG K0.N v' false r=d.lo:=by unfold dG;rw[S7];simp[nT]
     have ehi:dG K0.N v' true r=d.hi:=by unfold dG;rw[S7];simp[nT]
     refine gZ.nat hlt ?_
     refine St.ints (l:=iw (kP K0.N v' false (l3 q) i)) (x:=(d.lo:Int)) (by exact .tail (.tail (.head _))) (by rw[ak,yS (by omega)];omega) ?_
     refine⟨aQ.left (A:=[_]),?_⟩
     refine gZ.nat hlt ?_
     refine St.ints (l:=iw (kP K0.N v' true (l3 q) i)) (x:=(d.hi:Int)) (by exact .tail (.head _)) (by rw[ak,yS (by omega)];omega) ?_
     rw[e7,e7,←elo,←ehi,qg hr,qg hr]
     refine JE.of .tail (hJ _ fun gs=>?_)
     refine ae.aL (b:=1) (by simp[aB];omega) ?_
     exact aD.of (.refl _) ⟨i+1,rfl,by omega,rfl⟩ (by simp only[bG];omega)
    ·have ec:∀b,dG K0.N v' b r=r:=fun b=>by unfold dG;rw[S7];simp[nT]
     exact stay (ec false) (ec true) [_]
  obtain rfl:i=3:=by omega
  have em:∀b,kP K0.N v' b (l3 q) 3=l3 (uL K0.N v' b q):=fun b=>by rw[Ow,←KK];rfl
  rw[em,em]
  obtain⟨f1,f2⟩:=nv (S:=S0) jK iN nH fJ hv false
  obtain⟨t1,t2⟩:=nv (S:=S0) jK iN nH fJ hv true
  have ec:∀b,rV t S0 (gX K0.N v' b (l3 q))=fun x=>rV t S0 (l3 q) (an.az x v' b):=fun b=>FO jK iN nH rfl fJ hv t b
  have jD:Ord K0.n (lv ah) ord:=by rw[←hS.cY.n];exact hK.od
  have ic:=iN.lt v' hv.lt
  have Hz:=jD.of iN hv.lt
  have qp:=vU jK iN nH jD (q:=l3 q) rfl fJ (Nat.le_of_lt ic) hv.le t
  obtain⟨i1,Km⟩:=iK (n:=K0.n) (ord:=ord) (c:=rV t S0 (gX K0.N v' false (l3 q))) qp (b:=false) (by rw[Hz];exact ec false)
  obtain⟨i2,Kl⟩:=iK (n:=K0.n) (ord:=ord) (c:=rV t S0 (gX K0.N v' true (l3 q))) qp (b:=true) (by rw[Hz];exact ec true)
  refine Ld.mk (v:=oH eY b1 b5 jd) (by exact .tail _ (.tail _ (.tail _ (.tail _ (.tail _ (.tail _ (.head _))))))) rfl ?_
  refine aC.whole (r:=(iw (l3 (uL K0.N v' false q))).map fun n=>.int .u32 n) (by exact .tail _ (.head _)) rfl ?_
  refine cc.of rfl gK ?_
  refine af.pre (H':=(pN,.cells (ax .u32 (iw (l3 (uL K0.N v' true q)))) 318 (0,0))::(B4,.cells (ax .u32 (iw (l3 (uL K0.N v' false q)))) 318 (0,0))::(bq,Obj.cells (ax .u32 (iw (l3 q))) 318 (0,0))::Q0 eY b1 b5 jd bm bw kp fv vl vm LB CL CM C es ck) (.cons (.cons (.cons (.cons (.cons (.cons (.cons (.dr (.cons .right) _)))))))) ?_
  refine af.fn (args:=#[kq (uL K0.N v' false q),ptr eY,ptr b1,ptr b5,ptr jd]) (.cons (.cons (.cons .here))) (iha (uL K0.N v' false q) rfl K S made es ck vm CM C hS f1 (fun g hg=>hU g (Km g hg)) (fun s=>by have:=hB s;omega) (by omega)) ?_
  rintro w H ⟨K1,S1,vE,nJ,lP,vm1,CM1,C1,rfl,AB,Jk,LO⟩
  rcases LO with⟨x1,rfl,hx1,yb⟩|⟨rfl,hno⟩
  rotate_left
  ·refine Ext.mk rfl (Ext.mk rfl (ae.dO (Br.fc (by decide) ?_)))
   exact aA.mk (.skip (.skip .tail)) ⟨K1,S1,vE,nJ,lP,vm1,CM1,C1,rfl,AB,Jk.JB (by omega),.inr ⟨rfl,hno⟩⟩
  refine Ext.mk rfl (Ext.mk rfl (ae.dO (Br.bt (by decide) ?_)))
  refine Ld.mk (v:=oH eY b1 b5 jd) (by exact .tail _ (.tail _ (.tail _ (.tail _ (.tail _ (.tail _ (.head _))))))) rfl ?_
  refine aC.whole (r:=(iw (l3 (uL K0.N v' true q))).map fun n=>.int .u32 n) (by exact .head _) rfl ?_
  refine cc.of rfl gK ?_
  have hc1:=fun s=>Jk.count s
  have Up:∀s,K1.hold s≤K.hold s+a:=fun s=>by rw[AB.cY.hold,hS.cY.hold];have:=(hc1 s).1;omega
  refine af.fn (args:=#[kq (uL K0.N v' true q),ptr eY,ptr b1,ptr b5,ptr jd]) (.cons (.cons (.cons .here))) (ihb (uL K0.N v' true q) rfl K1 S1 vE nJ lP vm1 CM1 C1 AB t1 (fun g hg=>hU g (Kl g hg)) (fun s=>by have:=hB s;have:=Up s;omega) (by have:=(hc1 0).2;omega)) ?_
  rintro w H ⟨K2,S2,fU,mz,nL,YW,CM2,C2,rfl,jZ,FL,LO⟩
  have xB:=Jk.trans FL
  rcases LO with⟨x2,rfl,Hw,uo⟩|⟨rfl,hno⟩
  rotate_left
  ·refine Ext.mk rfl (Ext.mk rfl (ae.dO (Br.fc (by decide) ?_)))
   exact aA.mk (.skip (.skip .tail)) ⟨K2,S2,fU,mz,nL,YW,CM2,C2,rfl,jZ,xB.JB (by omega),.inr ⟨rfl,hno⟩⟩
  refine Ext.mk rfl (Ext.mk rfl (ae.dO (Br.bt (by decide) ?_)))
  refine Ld.mk (v:=ptr bw) (by exact .tail _ (.tail _ (.tail _ (.tail _ (.head _))))) rfl ?_
  obtain⟨Ry,fp,Sh⟩:=AB.ks
  obtain⟨Nh,dM,zc⟩:=jZ.ks
  have V2:=dM.ok.mid.int
  have ZG:live K1.N x1:=by rcases yb with h|h;exact .inl h;exact AB.cY.gC fp h
  have e1:S2 x1=rV t S0 (gX K0.N v' false (l3 q)):=(FL.fn x1 ZG).trans hx1
  have l1:live K2.N x1:=by rcases yb with h|h;exact .inl h;exact jZ.cY.gC dM (FL.mem h)
  have l2:live K2.N x2:=by rcases uo with h|h;exact .inl h;exact jZ.cY.gC dM h
  have n2:=jZ.cY.n
  have rB:ite S2 ⟨v',x1,x2⟩=rV t S0 (l3 q):=by
   funext x
   unfold aE.ite
   rw[e1,Hw,ec,ec]
   conv=>rhs;rw[←an.iL x v']
   simp only
   cases x.testBit v'<;>rfl
  obtain⟨m2,vQ,SA⟩:=jZ.kn
  have hkl:∀y∈m2,live K2.N y.2:=fun y hy=>by
   rcases(SA y hy).2 with h|h
   ·exact .inl h
   ·exact jZ.cY.gC dM h
  by_cases hx:x1=x2
  ·subst hx
   refine af.rd .here (B9 x1 v' _) ?_
   rintro w rfl
   refine Ext.mk rfl (Ext.mk rfl ?_)
   intro J hJ
   refine ae.jF (Br.fc rfl ?_)
   refine Ld.mk (v:=.map (some bm)) (by exact .tail _ (.tail _ (.tail _ (.head _)))) rfl ?_
   refine aC.whole (r:=(iw (l3 q)).map fun n=>.int .u32 n) (by exact .tail _ (.tail _ (.head _))) rfl ?_
   refine aM.JU (ke:=kq) (k:=q) (vr:=JG) (x:=x1) vH qh Fv vQ rfl fun es' ct he=>⟨_,.tail (.tail (.tail (.tail (.tail (.tail (.tail ((dR.head _).dK LB))))))),?_⟩
   refine JE.mk (hJ _ fun gs=>?_)
   have hr:S2 x1=rV t S0 (l3 q):=by
    rw[←rB]
    funext x
    unfold aE.ite
    split<;>rfl
   have OK:x1<2∨x1∈fU:=uo
   exact aA.mk (.skip (.skip .tail)) ⟨K2,S2,fU,es',ct,YW,CM2,C2,rfl,⟨jZ.ks,jZ.cY,jZ.Zu,_,he,fun y hy=>(pe hy).elim (fun e=>by rw[e];exact⟨hr,OK⟩) (fun hy=>SA y hy)⟩,xB.JB (by omega),.inl ⟨x1,rfl,hr,OK⟩⟩
  ·have vO:dk (rV t S0 (l3 q)) (ord.getD (lv ah v') 0):=by
    rw[Hz]
    refine Classical.byContradiction fun hno=>hx ?_
    refine dM.ok.wf.same dM.ok.lv V2 l1 l2 fun x=>?_
    rw[e1,Hw,ec,ec]
    exact(cf hno x false).trans (cf hno x true).symm
   have b1':=dM.ok.below dM.od (l:=lv ah v'+1) l1 (by omega) (by rw[e1];exact i1)
   have b2':=dM.ok.below dM.od (l:=lv ah v'+1) l2 (by omega) (by rw[Hw];exact i2)
   have LR:∀g,aO K0.n ord (fun g=>g=ite S2 ⟨v',x1,x2⟩) g→U g:=by rw[rB];exact hU
   have hh2:∀s,K2.hold s<65535:=fun s=>by
    have q1:=hB s
    have q2:=Up s
    have q3:=(FL.count s).1
    have q4:=jZ.cY.hold s
    have q5:=AB.cY.hold s
    omega
   refine af.fn (args:=#[ptr bw,.int .i64 (v':Int),u32 x1,u32 x2]) (.cons (.cons (.cons (.cons (.cons (.cons (.cons (.app (.cons .here))))))))) (MI dM (v:=v') (by rw[n2];exact hv.lt) l1 l2 hx ⟨by omega,by omega⟩ jZ.Zu hh2 (by have:=(FL.count 0).2;have:=(Jk.count 0).2;omega)) ?_
   rintro w H (⟨r,K3,S3,C3,vm3,CM3,rfl,rfl,nG,mk,O5⟩|⟨rfl,rfl,SN,hT⟩)
   ·refine Ext.mk rfl (Ext.mk rfl ?_)
    intro J hJ
    refine ae.jF (Br.fc rfl ?_)
    refine Ld.mk (v:=.map (some bm)) (by exact .tail _ (.tail _ (.tail _ (.head _)))) rfl ?_
    refine aC.whole (r:=(iw (l3 q)).map fun n=>.int .u32 n) (by exact .tail _ (.tail _ (.head _))) rfl ?_
    refine aM.JU (ke:=kq) (k:=q) (vr:=JG) (x:=r) vH qh Fv vQ rfl fun es' ct he=>⟨_,.tail (.tail (.tail (.tail (.tail (.tail (.tail ((dR.head _).dK LB))))))),?_⟩
    refine JE.mk (hJ _ fun gs=>?_)
    have hr:S3 r=rV t S0 (l3 q):=mk.is.trans rB
    have uk:2≤r:=Nat.le_of_not_lt fun h=>by
     obtain⟨x,hx⟩:=vO
     apply hx
     rw[←hr]
     have SD:=nG.ok.mid.int
     have:r=0∨r=1:=by omega
     rcases this with rfl|rfl
     ·rw[SD.zero,SD.zero]
     ·rw[SD.one,SD.one]
    have ni:=jZ.cY.step dM mk uk LR
    have HL:fC K2 S2 fU K3 S3 (fU++[r]) 1:=⟨mk.N,mk.fn,[r],rfl,Nat.le_refl _⟩
    have OK:r<2∨r∈fU++[r]:=.inr (by simp)
    refine aA.mk (.skip (.skip .tail)) ⟨K3,S3,fU++[r],es',ct,vm3,CM3,C3,rfl,⟨⟨[],nG,.inl rfl⟩,ni,O5,_,he,fun y hy=>(pe hy).elim (fun e=>by rw[e];exact⟨hr,OK⟩) (fun hy=>?_)⟩,(xB.trans HL).JB (by omega),.inl ⟨r,rfl,hr,OK⟩⟩
    obtain⟨k1,k2⟩:=SA y hy
    exact⟨by rw[HL.fn y.2 (hkl y hy),k1],k2.imp id HL.mem⟩
   ·refine Ext.mk rfl (Ext.mk rfl ?_)
    intro J hJ
    refine ae.jF (Br.bt (by decide) (JE.mk (hJ _ fun gs=>?_)))
    refine aA.mk (.skip (.skip .tail)) ⟨K2,S2,fU,mz,nL,YW,CM2,C2,rfl,jZ,xB.JB (by omega),.inr ⟨rfl,?_⟩⟩
    rintro⟨ku,Lt,hfit⟩
    have:=dM.ok.roomFor dM.od Lt (by rw[jZ.cY.cap];exact hfit) (by rw[n2];exact jZ.cY.U) (d:=⟨v',x1,x2⟩) l1 l2 hx (by rw[n2];exact hv.lt) ⟨by show lv ah v'<dep K2.n (lv ah) K2.N x1;omega,by show lv ah v'<dep K2.n (lv ah) K2.N x2;omega⟩ (LR _ (by rw[rB];exact mU qp ic vO)) hT
    omega
end
section
variable {kp bw:Nat} {vl vm:Value} {K:Kd} {S:Nat→aE.Fn} {ord ah tr:List Nat} {C:Hp}
theorem wi{Y:Hp}{vr:Value}{refs:List Nat}(hK:cK kp K S ord ah tr C)(hr:cT .u32 Y vr (iw refs))(hl:∀r∈refs,live K.N r)(bQ:refs.length≤1048576):
  Fc Tryz.prog 240 #[ptr kp,vr] (Y++C) (fun w H=>∃bw vl CL lvl,w=.tuple #[ptr bw,.int .i64 0]∧H=fK bw kp vl (.slice none 0 0)::(CL++(Y++C))∧aN 3 .i64 vl (iw lvl) CL∧lvl.length=K.n∧∀v,v<K.n→lvl.getD v 0=lv ah v):=by
 have hn:K.n≤64:=hK.kC.Ax
 have jD:=hK.od
 intro g
 refine Dp (R:=aA _) ?_
 unfold L240
 refine ae.bJ (Br.no (hr.bC ?_))
 rw[ak]
 refine⟨fun vs H=>∃i:Nat,vs=[.int .i64 (i:Int)]∧i≤refs.length∧H=Y++C,fun vs _=>refs.length-bG vs 0,JE.mk ⟨0,rfl,Nat.zero_le _,rfl⟩,?_⟩
 rintro w7 H ⟨i,hv,hi,rfl⟩ gs
 simp only[List.cons.injEq,and_true]at hv
 subst hv
 refine ae.eA (Br.dec (fun hlt=>?_) (fun hlt=>?_))
 ·have hlr:=hl _ (List.getElem_mem hlt)
  refine hr.ld (n:=((refs[i]:Nat):Int)) (cr (List.getElem?_eq_getElem hlt)) (fun _ h=>List.mem_append_left _ h) ?_
  refine af.rd (args:=#[ptr kp,u32 refs[i]]) (.app .here) (fV hK.rep (by have:=hK.bZ hlr;omega)) ?_
  rintro w rfl
  rw[bM.2 hlr]
  refine Ext.mk rfl (Ext.mk rfl ?_)
  intro Nv _
  refine St.whole (r:=got K.N refs[i]) (by exact .head _) rfl (aG _ _).1 (aG _ _).2 ?_
  refine ae.dO (Br.bt (by simp) ?_)
  refine ae.aL (b:=1) (by simp[aB];omega) ?_
  exact aD.of .tail ⟨i+1,rfl,hlt,rfl⟩ (by simp only[bG];omega)
 ·refine af.rd (.app .here) (gU hK.rep) ?_
  rintro w rfl
  refine cX.ints (by omega) (by omega) fun bl=>?_
  refine Build.mk (cs:=[ptr kp,.slice (some ⟨bl,0,none⟩) K.n K.n,.slice none 0 0]) (by kernel_rfl) ?_
  intro bw _
  refine af.fn (.cons (.cons (.app .here))) (qi hK.rep) ?_
  rintro vo H ⟨N,rfl,ho⟩
  refine ho.bC ?_
  rw[ak,jD.len]
  have hz:List.replicate K.n (0:Int)=iw (List.replicate K.n 0):=by simp[iw]
  have hm:=aN.made (T:=3) (kd:=.i64) (b:=bl) (iw (List.replicate K.n 0))
  rw[ak,List.length_replicate]at hm
  rw[hz]
  generalize hvl:Value.slice (some ⟨bl,0,none⟩) K.n K.n=vl at*
  refine⟨fun vs H=>∃(i:Nat) (L:List Nat) (CL:Hp),vs=[.int .i64 (i:Int)]∧i≤K.n∧H=fK bw kp vl (.slice none 0 0)::(CL++(Y++(N++C)))∧aN 3 .i64 vl (iw L) CL∧L.length=K.n∧∀j,j<i→L.getD (ord.getD j 0) 0=j,fun vs _=>K.n-bG vs 0,
   JE.mk ⟨0,_,_,rfl,Nat.zero_le _,rfl,hm,by simp,fun j hj=>absurd hj (Nat.not_lt_zero _)⟩,?_⟩
  rintro x6 H ⟨i,L,CL,hv,hi,rfl,hL,Ux,hLo⟩ gs
  simp only[List.cons.injEq,and_true]at hv
  subst hv
  refine ae.eA (Br.dec (fun hlt=>?_) (fun hlt=>?_))
  ·have nk:=(jD.kC i hlt).1
   refine ho.ld (x:=((ord.getD i 0:Nat):Int)) (bc (by rw[jD.len];exact hlt)) (fun _ h=>.tail _ (List.mem_append_right _ (List.mem_append_right _ (List.mem_append_left _ h)))) ?_
   refine Nil.ptr (aa.mk (Ld.mk (v:=vl) (by exact .head _) rfl ?_))
   refine hL.jC (x:=(i:Int)) (.cons .left) (by rw[ak];omega) fun XU QS=>?_
   rw[e7]at QS
   refine ae.aL (b:=1) (by simp[aB];omega) ?_
   refine aD.mk ⟨i+1,L.set (ord.getD i 0) i,XU,rfl,hlt,rfl,QS,by simp[Ux],fun j hj=>?_⟩ (by simp only[bG];omega)
   by_cases e:j=i
   ·subst e
    rw[List.getD_eq_getElem?_getD,List.getElem?_set_self (by omega)];rfl
   ·have hj':j<i:=by omega
    have hne:ord.getD i 0≠ord.getD j 0:=fun h=>by
     have a:=(jD.kC i hlt).2
     have b:=(jD.kC j (by omega)).2
     rw[h,b]at a;exact e a
    rw[List.getD_eq_getElem?_getD,List.getElem?_set_ne hne,←List.getD_eq_getElem?_getD,hLo j hj']
  ·obtain rfl:i=K.n:=by omega
   refine aA.mk (.cons (.dr (.dr .right _) _)) ⟨bw,vl,CL,L,rfl,rfl,hL,Ux,fun v hv=>?_⟩
   have h1:=hLo (lv ah v) (hK.ok.lv.lt v hv)
   rwa [jD.of hK.ok.lv hv]at h1
structure Gm(K K':Kd)(made:List Nat)(x:Nat)(ok:Bool):Prop where
 n:K'.n=K.n
 cap:K'.cap=K.cap
 N:∀s d,K'.N s=some d→K.N s=some d
 hold:∀s,K'.hold s+made.count s=K.hold s+if ok=true∧s=x∧2≤x then 1 else 0
theorem PS{X CM:Hp}{made:List Nat}{x:Nat}{ok:Bool}(hK:cK kp K S ord ah tr C)(hM:aN 77 .u32 vm (iw made) CM)(hc:∀s,made.count s≤K.hold s)(h2:∀s∈made,2≤s)(O8:∀s∈made,s<4294967296)(hx:ok=true→x<2∨x∈made)(bQ:made.length≤1099511627776):
  Fc Tryz.prog 263 #[ptr bw,u32 x,.int .i64 (if ok then 0 else 9)] (fK bw kp vl vm::(X++(CM++C))) (fun w H=>∃K' C' uH,w=.tuple #[u32 (if ok then x else 0),.int .i64 (if ok then 0 else 9)]∧H=fK bw kp vl (.slice none 0 0)::(X++(CM++C'))∧cK kp K' S ord ah uH C'∧(uH=[]∨(uH=tr∧(ok=true→made≠[])))∧Gm K K' made x ok):=by
 intro g
 refine C6 (R:=aA _) ?_
 unfold L263
 refine ae.eB (b:=0) ?_
 refine bT.or (decide (x=1)) (fun _=>ae.eB (b:=1) ⟨rfl,rfl⟩) (by simp) fun gs=>?_
 rw[←Bool.decide_or]
 refine Nil.ptr (aa.mk (Ld.mk (v:=vm) (by exact .head _) rfl (hM.bC ?_)))
 rw[ak]
 refine⟨fun vs H=>∃(i:Nat) (Ki:Kd) (Ci:Hp) (Rx:List Nat) (kept:Bool),vs=[.bool kept,.int .i64 (i:Int)]∧i≤made.length∧H=fK bw kp vl vm::(X++(CM++Ci))∧cK kp Ki S ord ah Rx Ci∧(Rx=[]∨Rx=tr)∧Ki.n=K.n∧Ki.cap=K.cap∧(∀s d,Ki.N s=some d→K.N s=some d)∧
   (∀s,Ki.hold s+(made.take i).count s=K.hold s+if kept=true∧s=x∧2≤x then 1 else 0)∧(x<2→kept=true)∧(kept=true→x<2∨(ok=true∧x∈made.take i))∧(ok=true→x∈made.take i→kept=true),fun vs _=>made.length-bG vs 1,
  JE.mk ⟨0,K,C,tr,_,rfl,Nat.zero_le _,rfl,hK,.inr rfl,rfl,rfl,fun _ _ h=>h,fun s=>?_,fun h=>decide_eq_true (by omega),fun h=>.inl (by have:=of_decide_eq_true h;omega),fun _ h=>by simp at h⟩,?_⟩
 ·rw[List.take_zero,List.count_nil,if_neg (fun h=>by have:=of_decide_eq_true h.1;omega)]
 rintro Gy nB H ⟨i,Ki,Ci,Rx,kept,hv,hi,rfl,WK,Sg,hn,hcap,hN,hh,vM,sZ,pV⟩ gs
 simp only[List.cons.injEq,and_true]at hv
 obtain⟨rfl,rfl⟩:=hv
 refine ae.eA (Br.dec (fun hlt=>?_) (fun hlt=>?_))
 ·intro J hJ
  have lO:made.take (i+1)=made.take i++[made[i]]:=List.take_succ_eq_append_getElem hlt
  have hfm:made[i]∈made:=List.getElem_mem hlt
  have lJ:(made.take i).count made[i]+1≤made.count made[i]:=by
   have h1:=(List.take_sublist (i+1) made).count_le made[i]
   rw[lO,List.count_append,List.count_singleton_self]at h1;exact h1
  refine hM.ld (x:=((made[i]:Nat):Int)) (cr (List.getElem?_eq_getElem hlt)) (fun _ h=>.tail _ (List.mem_append_right _ (List.mem_append_left _ h))) ?_
  generalize hf:made[i]=f at*
  refine ae.eB ?_
  refine bT.and (!kept) (fun _=>Un.not ⟨rfl,rfl⟩) (by simp) fun gs=>?_
  refine bT.and ok (fun _=>ae.jF ⟨rfl,by cases ok<;>rfl⟩) (by simp) fun gs=>?_
  refine Br.mk (fun hb=>?_) (fun hb=>?_)
  ·simp only[Bool.and_eq_true,decide_eq_true_eq,Bool.not_eq_true']at hb
   obtain⟨⟨rfl,hkf⟩,hok⟩:=hb
   refine JE.mk (hJ _ _ fun gs=>?_)
   refine ae.aL (b:=1) (by simp[aB];omega) ?_
   refine aD.mk ⟨i+1,Ki,Ci,Rx,true,rfl,hlt,rfl,WK,Sg,hn,hcap,hN,fun s=>?_,fun _=>rfl,fun _=>.inr ⟨hok,by rw[lO];simp⟩,fun _ _=>rfl⟩ (by simp only[bG];omega)
   have h0:=hh s
   rw[lO,List.count_append,List.count_singleton]
   rw[if_neg (fun h=>by rw[hkf]at h;cases h.1)]at h0
   by_cases e:s=f
   ·subst e
    have:=h2 s hfm
    simp[this];omega
   ·have:(f==s)=false:=by simpa using fun e'=>e e'.symm
    simp[e,this];omega
  ·refine Nil.ptr (aa.mk (Ld.mk (v:=ptr kp) (by exact .head _) rfl ?_))
   have hhf:Ki.hold f≠0:=by
    have h0:=hh f
    have:=hc f
    split at h0<;>omega
   refine af.fn (args:=#[ptr kp,u32 f]) (.cons (.app (.app .here))) (pJ WK (r:=f) (O8 f hfm) (fun _=>hhf)) ?_
   rintro w C2 ⟨rfl,K2,dM,f2⟩
   refine JE.mk (hJ _ _ fun gs=>?_)
   refine ae.aL (b:=1) (by simp[aB];omega) ?_
   refine aD.mk ⟨i+1,K2,C2,[],kept,rfl,hlt,rfl,dM,.inl rfl,f2.n.trans hn,f2.cap.trans hcap,fun s d hd=>hN s d (f2.N s d hd),fun s=>?_,vM,fun h=>(sZ h).imp id (fun h=>⟨h.1,by rw[lO];exact List.mem_append_left _ h.2⟩),fun h1 h3=>?_⟩ (by simp only[bG];omega)
   ·have h0:=hh s
    rw[f2.hold,lO,List.count_append,List.count_singleton]
    by_cases e:s=f
    ·subst e
     have:=h2 s hfm
     simp[this];omega
    ·have:(f==s)=false:=by simpa using fun e'=>e e'.symm
     simp[e,this];omega
   ·rw[lO,List.mem_append,List.mem_singleton]at h3
    rcases h3 with h3|h3
    ·exact pV h1 h3
    ·subst h3
     cases hkk:kept
     ·rw[hkk,h1]at hb;simp at hb
     ·rfl
 ·obtain rfl:i=made.length:=by omega
  rw[List.take_length]at hh sZ pV
  refine Nil.ptr (aa.mk (St.one (by exact .head _) rfl (by simp) rfl ?_))
  intro J hJ
  refine ae.dO ?_
  cases ok with
  |false=>
   refine Br.fc (by simp) ?_
   have hE:Gm K Ki made x false:=⟨hn,hcap,hN,fun s=>by
    have h0:=hh s
    rw[if_neg (fun h=>by cases h.1)]
    rw[if_neg (fun h=>by
     rcases sZ h.1 with h3|h3
     ·omega
     ·cases h3.1)]at h0
    exact h0⟩
   refine aA.here ⟨Ki,Ci,Rx,?_,rfl,WK,Sg.imp id fun h=>⟨h,fun h=>by cases h⟩,hE⟩
   rfl
  |true=>
   have zm:kept=true:=by
    rcases hx rfl with h|h
    ·exact vM h
    ·exact pV rfl h
   refine Br.bt (by simp) ?_
   rw[zm]
   refine Un.not (Br.no ?_)
   have hE:∀K3:Kd,K3.n=Ki.n→K3.cap=Ki.cap→K3.N=Ki.N→(∀s,K3.hold s=Ki.hold s)→Gm K K3 made x true:=fun K3 a1 a2 a3 a4=>⟨a1.trans hn,a2.trans hcap,by rw[a3];exact hN,fun s=>by rw[a4,hh s,zm]⟩
   refine ae.eB (b:=0) ?_
   refine bT.or (decide (x=1)) (fun _=>ae.eB (b:=1) ⟨rfl,rfl⟩) (by simp) fun gs=>?_
   rw[←Bool.decide_or]
   refine Br.dec (fun HF=>?_) (fun HF=>?_)
   ·refine Nil.ptr (aa.mk (Ld.mk (v:=ptr kp) (by exact .head _) rfl ?_))
    refine af.fn (.cons (.app (.app .here))) (pz WK (r:=x) (.inl (by omega)) (fun h=>by omega)) ?_
    rintro w C3 ⟨rfl,K3,nG,mo⟩
    refine JE.mk (hJ _ fun gs=>aA.here ⟨K3,C3,[],by simp,rfl,nG,.inl rfl,hE K3 mo.n mo.cap mo.N fun s=>?_⟩)
    rw[mo.hold,if_neg (by omega)]
   ·refine JE.mk (hJ _ fun gs=>aA.here ⟨Ki,Ci,Rx,by simp,rfl,WK,Sg.imp id fun h=>⟨h,fun _ hm=>?_⟩,hE Ki rfl rfl rfl fun _=>rfl⟩)
    rcases hx rfl with h|h
    ·omega
    ·rw[hm]at h;cases h
end
theorem Va{α:Type}(a b c d e f g h:α)(L R:List α):(a::b::c::d::e::f::g::h::(L++R)).Perm (g::d::e::b::h::f::a::(L++c::R)):=by
 classical
 rw[List.perm_iff_count];intro x
 simp only[List.count_append,List.count_cons]
 omega
def oN(kp:Nat)(K:Kd)(S:Nat→aE.Fn)(ord ah tr:List Nat)(f:aE.Fn)(w:Value)(H:Hp):Prop:=
 (∃x K' S',w=.tuple #[u32 x,.int .i64 0]∧cK kp K' S' ord ah [] H∧pU K S K' S' f x)∨
 (w=.tuple #[u32 0,.int .i64 9]∧(∃K' S' uH,cK kp K' S' ord ah uH H∧(uH=[]∨uH=tr)∧Kept K S K' S')∧¬Fits (aO K.n ord (fun g=>K.held S g∨g=f)) K.cap)
section
variable {kp bw:Nat} {vl fv:Value} {K:Kd} {S:Nat→aE.Fn} {ord ah tr lvl:List Nat} {LB CL C:Hp} {t:Bool→Bool→Bool→Bool}
theorem F6(hK:cK kp K S ord ah tr C)(AD:xV fv LB t)(QX:aN 3 .i64 vl (iw lvl) CL)(uQ:lvl.length=K.n)(hlv:∀v,v<K.n→lvl.getD v 0=lv ah v)(q:Q3)(hq:∀r∈l3 q,live K.N r){c:Nat}(hT:Tree K.n (lv ah) K.N (l3 q) c)(hB:∀s,K.hold s+c<65535)(hc:c≤1048576):
  Fc Tryz.prog 241 #[ptr bw,kq q,fv] (LB++(fK bw kp vl (.slice none 0 0)::(CL++C))) (oN kp K S ord ah tr (rV t S (l3 q))):=by
 have hrb:bB Tryz.prog 264=true:=by kernel_rfl
 obtain⟨fl,abD,ahk,LA,hfr⟩:=AD.is
 intro g
 refine Dn (R:=aA _) ?_
 unfold L241
 intro b1 _ b3 _ b5 _ b7 _ b9 _ bm _ eY _
 refine St.one (by exact .head _) rfl (by simp) rfl ?_
 intro jd _
 refine St.one (by exact .head _) rfl (by simp) rfl ?_
 refine Ld.mk (v:=oH eY b1 b5 jd) (by exact .head _) rfl ?_
 refine aC.whole (r:=(iw (l3 q)).map fun n=>.int .u32 n) (by exact .tail _ (.tail _ (.tail _ (.tail _ (.tail _ (.tail _ (.head _))))))) rfl ?_
 refine cc.of rfl hrb ?_
 refine af.pre (H':=(b9,.cells #[.int .i64 0] 32 (0,0))::(b7,.cells #[.int .u32 0] 77 (0,0))::Q0 eY b1 b5 jd bm bw kp fv vl (.slice none 0 0) LB CL [] C #[] 0) ?_ ?_
 ·rw[LA]
  exact(aQ.perm (Va _ _ _ _ _ _ _ _ _ _)).trans .tail
 have jD:=hK.od
 have jK:=hK.ok.wf
 have iN:=hK.ok.lv
 have nH:=hK.ok.mid.int
 have hS:Stp kp K S (aO K.n ord (fun g=>K.held S g∨g=rV t S (l3 q))) ord ah tr t K S [] #[] 0 (.slice none 0 0) [] C:=
  ⟨⟨tr,hK,.inr ⟨rfl,rfl⟩⟩,.refl fun g hg=>bU (fun g h=>.inl h) hg,aN.nil,[],aM.empty,fun y hy=>by cases hy⟩
 refine af.fn (args:=#[kq q,ptr eY,ptr b1,ptr b5,ptr jd]) (.cons (.cons .here)) (Ts hrb AD QX uQ hlv hK.kC.Ax jK nH iN (fun r hr=>by have:=hK.bZ hr;omega) (Rz:=tr) (l3 q) c hT q rfl K S [] #[] 0 (.slice none 0 0) [] C hS hq (fun g hg=>bU (fun g h=>.inr h) hg) hB (by simpa using hc)) ?_
 rintro w H ⟨K1,S1,made,es,ck,vm,CM,C1,rfl,AB,hA,LO⟩
 obtain⟨Ry,fp,Sh⟩:=AB.ks
 have ni:=AB.cY
 have hmx:made.length≤1048576:=by have:=(hA.count 0).2;simp at this;omega
 have aaj:∀s∈made,s<4294967296:=fun s hs=>by have:=fp.bZ (ni.gC fp hs);omega
 have hmc:∀s,made.count s≤K1.hold s:=fun s=>by rw[ni.hold];omega
 have fin:∀(x:Nat) (ok:Bool),w=.tuple #[u32 (if ok then x else 0),.int .i64 (if ok then 0 else 9)]→(ok=true→x<2∨x∈made)→(∀K2 C2 Nh,cK kp K2 S1 ord ah Nh C2→(Nh=[]∨(Nh=Ry∧(ok=true→made≠[])))→Gm K1 K2 made (if ok then x else 0) ok→oN kp K S ord ah tr (rV t S (l3 q)) w C2)→(ok=false→x=0)→
   Ext 0 w fun bV=>Ext 1 w fun cy=>St 1 ((b9,.cells #[.int .i64 0] 32 (0,0))::(b7,.cells #[.int .u32 0] 77 (0,0))::Q0 eY b1 b5 jd bm bw kp fv vl vm LB CL CM C1 es ck) (ptr b7) bV fun gu=>St 1 gu (ptr b9) cy fun gI=>
   kx Tryz.prog g 262 #[ptr b1,ptr b7,ptr b9] gI fun gr=>Ld gr (ptr b7) fun dc=>Ld gr (ptr b9) fun cL=>aA (oN kp K S ord ah tr (rV t S (l3 q))) (.returned (.tuple #[dc,cL])) gr:=by
  intro x ok hw hx hd h0
  subst hw
  refine Ext.mk rfl (Ext.mk rfl ?_)
  refine St.one (by exact .tail (.head _)) rfl (by simp) rfl ?_
  refine St.one (by exact .head _) rfl (by simp) rfl ?_
  refine Al (R:=_) ?_
  unfold L262
  refine Ld.mk (v:=ptr bw) (by exact .tail _ (.tail _ (.tail _ (.head _)))) rfl ?_
  refine Ld.mk (v:=u32 (if ok then x else 0)) (by exact .tail _ (.head _)) rfl ?_
  refine Ld.mk (v:=.int .i64 (if ok then 0 else 9)) (by exact .head _) rfl ?_
  refine af.fn (.cons (.cons (.cons (.cons (.cons (.cons (.app (.cons .here)))))))) (PS (X:=CL) (x:=if ok then x else 0) (ok:=ok) fp AB.Zu hmc ni.two aaj (fun h=>by rw[if_pos h];exact hx h) (by omega)) ?_
  rintro w H ⟨K2,C2,Nh,rfl,rfl,dM,zc,hE⟩
  refine Ext.mk rfl (Ext.mk rfl ?_)
  have e1:(if ok=true then(if ok=true then x else 0)else 0)=if ok=true then x else 0:=by cases ok<;>rfl
  rw[e1]
  refine St.one (by exact .tail (.head _)) rfl (by simp) rfl ?_
  refine St.one (by exact .head _) rfl (by simp) rfl ?_
  refine⟨⟨_,rfl⟩,?_⟩
  refine Ld.mk (v:=u32 (if ok then x else 0)) (by exact .tail _ (.head _)) rfl ?_
  refine Ld.mk (v:=.int .i64 (if ok then 0 else 9)) (by exact .head _) rfl ?_
  exact aA.mk (.skip (.skip (.skip (.skip (.skip (.skip (aQ.right.trans (.skip (.skip (aQ.right.trans .right)))))))))) (hd K2 C2 Nh dM zc hE)
 have FB:∀s,K.hold s≠0→live K.N s:=fun s hs=>.inr (hK.ok.mid.held s hs)
 rcases LO with⟨x,rfl,hx,Vt⟩|⟨rfl,hno⟩
 ·refine fin x true rfl (fun _=>Vt) (fun K2 C2 Nh dM zc hE=>.inl ⟨x,K2,S1,rfl,?_,?_⟩) (fun h=>by cases h)
  ·have:Nh=[]:=by
    rcases zc with h|⟨h,h'⟩
    ·exact h
    ·rcases Sh with h2|⟨_,h2⟩
     ·rw[h,h2]
     ·exact absurd h2 (h' rfl)
   rw[this]at dM;exact dM
  ·have jv:∀s,K2.hold s=K.hold s+if s=x∧2≤x then 1 else 0:=fun s=>by
    have a:=hE.hold s
    have b:=ni.hold s
    simp only[if_true,true_and]at a
    omega
   have hl:live K2.N x:=by
    by_cases h2:x<2
    ·exact .inl h2
    ·refine .inr (dM.ok.mid.held x ?_)
     rw[jv,if_pos ⟨rfl,by omega⟩];omega
   exact⟨hE.n.trans ni.n,hE.cap.trans ni.cap,fun s d hs=>iW hK.ok dM.ok (fun s h=>by rw[jv];omega) (fun s d d' h h'=>by
    have a:=hE.N s d' h'
    rw[ni.N s d h]at a;exact(Option.some.inj a).symm) _ s d hs (Nat.le_refl _),fun s hs=>ni.fn s hs,hl,hx,jv⟩
 ·refine fin 0 false rfl (fun h=>by cases h) (fun K2 C2 Nh dM zc hE=>.inr ⟨rfl,⟨K2,S1,Nh,dM,?_,?_⟩,hno⟩) (fun _=>rfl)
  ·rcases zc with h|⟨h,_⟩
   ·exact .inl h
   ·rcases Sh with h2|⟨h2,_⟩
    ·exact .inl (h.trans h2)
    ·exact .inr (h.trans h2)
  ·have jv:∀s,K2.hold s=K.hold s:=fun s=>by
    have a:=hE.hold s
    have b:=ni.hold s
    rw[if_neg (fun h=>by cases h.1)]at a
    omega
   refine⟨hE.n.trans ni.n,hE.cap.trans ni.cap,jv,fun g=>?_,fun r hr=>ni.fn r (FB r hr)⟩
   constructor
   ·rintro⟨s,hs,rfl⟩
    have hs':K.hold s≠0:=by rw[←jv];exact hs
    exact⟨s,hs',ni.fn s (FB s hs')⟩
   ·rintro⟨s,hs,rfl⟩
    exact⟨s,by show K2.hold s≠0;rw[jv];exact hs,(ni.fn s (FB s hs)).symm⟩
end
end Go.Proofs
namespace Go.Sx
open Go
section
variable {P:Program} {g:Gh}
theorem Build.three{t e:TypeId}{q:IntKind}{x y z:Int}{K:Value→Prop}(ht:P.underlying t=some (.array 3 e))(hz:c6 P e=some 1)(h0:ew P t=some (.agg (ax q [0,0,0])))(h:K (.agg (ax q [x,y,z]))):
  Build P t [(0,.int q x),(1,.int q y),(2,.int q z)] K:=by
 refine⟨_,fun w=>?_,h⟩
 obtain⟨i,hi,hs⟩:=bg hz
 obtain⟨i0,OS,Hv⟩:=cu h0
 simp only[Instr.build,Sem.run_bind,dB OS Hv,Result.andThen_ok,run_underlying ht,run_sizeOf hi,hs]
 simp[Instr.fill,Value.cells,ax]
theorem Build.UY{t e:TypeId}{q:IntKind}{x y:Int}{K:Value→Prop}(ht:P.underlying t=some (.array 3 e))(hz:c6 P e=some 1)(h0:ew P t=some (.agg (ax q [0,0,0])))(h:K (.agg (ax q [x,y,0]))):
  Build P t [(0,.int q x),(1,.int q y)] K:=by
 refine⟨_,fun w=>?_,h⟩
 obtain⟨i,hi,hs⟩:=bg hz
 obtain⟨i0,OS,Hv⟩:=cu h0
 simp only[Instr.build,Sem.run_bind,dB OS Hv,Result.andThen_ok,run_underlying ht,run_sizeOf hi,hs]
 simp[Instr.fill,Value.cells,ax]
end
end Go.Sx
set_option maxRecDepth 100000
namespace Go.Proofs
open Go Go.Sx
open aE
theorem Ga(x:Bool)(B:Hp):Rd Tryz.prog 243 #[.bool x] B (· =.int .u8 ((x.toNat:Nat):Int)):=by
 intro g
 refine Dl (R:=aA _) ?_
 unfold L243
 cases x
 ·exact Br.no (cz.mk (.refl _) rfl)
 ·exact Br.yes (cz.mk (.refl _) rfl)
def G8(op:Nat)(a b:Bool):Bool:=op.testBit (2*a.toNat+b.toNat)
abbrev G7(b op:Nat):Hp:=[(b,.cells #[.int .u8 (op:Int)] 5 (0,0))]
theorem B2{b op:Nat}(hop:op<16):xV (.func (.func 242) #[] #[ptr b]) (G7 b op) (fun x y _=>G8 op x y):=by
 refine⟨_,_,_,rfl,by kernel_rfl,fun x y z=>?_⟩
 intro g
 refine Dm (R:=aA _) ?_
 unfold L242
 refine DR.of (R:=G7 b op) (.refl _) ?_
 refine Ld.mk (v:=.int .u8 (op:Int)) (by exact .head _) rfl ?_
 refine af.rd .here (Ga x _) ?_
 rintro w rfl
 refine⟨.refl _,?_⟩
 have hx:x.toNat≤1:=by cases x<;>decide
 have hy:y.toNat≤1:=by cases y<;>decide
 refine ae.uN (a:=2) (by simp[aB];omega) ?_
 refine af.rd .here (Ga y _) ?_
 rintro w rfl
 refine⟨.refl _,?_⟩
 refine ae.aL (by simp[aB];omega) ?_
 refine ae.kJ (by simp[aB];omega) ?_
 refine ae.jm (b:=1) (by simp[aB];exact Nat.lt_of_le_of_lt (Nat.shiftRight_le _ _) (by omega)) (by simp[aB]) ?_
 refine ae.eB (b:=1) ?_
 refine cz.mk (.refl _) ?_
 congr 1
 unfold G8
 rw[Nat.and_one_is_mod]
 rw[Nat.testBit_eq_decide_div_mod_eq,Nat.shiftRight_eq_div_pow]
theorem Bv:xV (.func (.func 244) #[] #[]) [] (fun x y z=>if x then y else z):=by
 refine⟨_,_,_,rfl,by kernel_rfl,fun x y z=>?_⟩
 intro g
 refine Dk (R:=aA _) ?_
 unfold L244
 cases x
 ·refine bT.mk false (fun h=>by simp at h) (fun _=>rfl) fun gs=>?_
  refine bT.mk (by exact z) (fun _=>Un.not (bT.and z (fun _=>⟨rfl,rfl⟩) (by simp) fun gs=>⟨rfl,by simp⟩)) (fun h=>by simp at h) fun gs=>?_
  exact cz.mk (.refl _) rfl
 ·refine bT.and y (fun _=>⟨rfl,rfl⟩) (by simp) fun gs=>?_
  refine bT.or false (fun _=>Un.not (bT.and z (fun _=>⟨rfl,rfl⟩) (by simp) fun gs=>⟨rfl,by simp⟩)) (by simp) fun gs=>?_
  refine cz.mk (.refl _) ?_
  cases y<;>rfl
section
variable {kp:Nat} {K:Kd} {S:Nat→aE.Fn} {ord ah tr:List Nat} {C:Hp}
theorem Vc{α:Type}(w a b:α)(L R:List α):(w::(L++(a::b::R))).Perm (a::([b]++w::(L++R))):=by
 classical
 rw[List.perm_iff_count];intro x
 simp only[List.count_append,List.count_cons,List.count_nil]
 omega
theorem Ad(hK:cK kp K S ord ah tr C){q:List Nat}(hq:∀r∈q,live K.N r)(hB:∀s,K.hold s+2^K.n≤65535):∃c,Tree K.n (lv ah) K.N q c∧(∀s,K.hold s+c<65535)∧c≤1048576:=by
 obtain⟨c,h1,h2⟩:=NP (S:=S) hK.ok.wf hK.ok.lv hK.ok.mid.int K.n 0 q (by omega) (by omega) hq (fun r _=>Nat.zero_le _)
 rw[Nat.sub_zero]at h2
 have h0:=hB 0
 exact⟨c,h1,fun s=>by have:=hB s;omega,by omega⟩
theorem tL(hK:cK kp K S ord ah tr C){op a b:Nat}(hop:op<16)(ha:live K.N a)(hb:live K.N b)(hB:∀s,K.hold s+2^K.n≤65535):
  Fc Tryz.prog 197 #[ptr kp,.int .u8 (op:Int),u32 a,u32 b] C (oN kp K S ord ah tr (fun x=>G8 op (S a x) (S b x))):=by
 intro g
 refine DZ (R:=aA _) ?_
 unfold L197
 intro b1 _
 refine ae.bJ (Br.no ?_)
 refine Ld.mk (v:=.int .u8 (op:Int)) (by exact .head _) rfl ?_
 refine ae.kB (b:=15) (Br.bt (by omega) ?_)
 refine av.La (e:=77) (x:=(a:Int)) (y:=(b:Int)) (by kernel_rfl) (by kernel_rfl) (by kernel_rfl) fun bs=>?_
 have hq:∀r∈l3 (a,b,0),live K.N r:=fun r hr=>by
  simp only[l3,List.mem_cons,List.not_mem_nil,or_false]at hr
  rcases hr with rfl|rfl|rfl
  ·exact ha
  ·exact hb
  ·exact .inl (by omega)
 have hI:cT .u32 ((bs,Obj.cells (ax .u32 [(a:Int),(b:Int)]) 77 (0,0))::G7 b1 op) (.slice (some ⟨bs,0,none⟩) 2 2) (iw [a,b]):=(aN.made (T:=77) (kd:=.u32) (b:=bs) (iw [a,b])).ints.mono fun _ h=>List.mem_append_left (G7 b1 op) h
 refine af.fn (args:=#[ptr kp,.slice (some ⟨bs,0,none⟩) 2 2]) (C:=((bs,Obj.cells (ax .u32 [(a:Int),(b:Int)]) 77 (0,0))::G7 b1 op)++C) .here (wi hK hI (fun r hr=>?_) (by show 2≤1048576;omega)) ?_
 ·simp only[List.mem_cons,List.not_mem_nil,or_false]at hr
  rcases hr with rfl|rfl
  ·exact ha
  ·exact hb
 rintro w H ⟨bw,vl,CL,lvl,rfl,rfl,QX,uQ,hlv⟩
 refine Ext.mk rfl (Ext.mk rfl (ae.dO (Br.bt (by decide) ?_)))
 refine Build.UY (e:=77) (q:=.u32) (x:=(a:Int)) (y:=(b:Int)) (by kernel_rfl) (by kernel_rfl) (by kernel_rfl) ?_
 obtain⟨c,hT,hB',hc⟩:=Ad hK hq hB
 refine af.pre (H':=(bs,Obj.cells (ax .u32 [(a:Int),(b:Int)]) 77 (0,0))::(G7 b1 op++fK bw kp vl (.slice none 0 0)::(CL++C))) (.perm (Vc _ _ _ _ _)) ?_
 refine af.fn (args:=#[ptr bw,kq (a,b,0),.func (.func 242) #[] #[ptr b1]]) (.cons .here) (F6 (t:=fun x y _=>G8 op x y) hK (B2 hop) QX uQ hlv (a,b,0) hq hT hB' hc) ?_
 intro w H hD
 have:∃x e,w=.tuple #[x,e]:=by
  rcases hD with⟨x,K',S',rfl,_⟩|⟨rfl,_⟩
  ·exact⟨_,_,rfl⟩
  ·exact⟨_,_,rfl⟩
 obtain⟨x,e,rfl⟩:=this
 exact Ext.mk rfl (Ext.mk rfl (aA.mk .tail hD))
theorem oN.two{f:aE.Fn}{w:Value}{H:Hp}(h:oN kp K S ord ah tr f w H):∃x e,w=.tuple #[x,e]:=by
 rcases h with⟨x,K',S',rfl,_⟩|⟨rfl,_⟩
 ·exact⟨_,_,rfl⟩
 ·exact⟨_,_,rfl⟩
theorem PO(hK:cK kp K S ord ah tr C){a:Nat}(ha:live K.N a)(hB:∀s,K.hold s+2^K.n≤65535):
  Fc Tryz.prog 196 #[ptr kp,u32 a] C (oN kp K S ord ah tr (fun x=> !S a x)):=by
 intro g
 refine D0 (R:=aA _) ?_
 unfold L196
 refine af.fn (args:=#[ptr kp,.int .u8 ((3:Nat):Int),u32 a,u32 0]) .here (tL hK (op:=3) (by decide) ha (.inl (by omega)) hB) ?_
 intro w H hD
 have e:(fun x=>G8 3 (S a x) (S 0 x))=fun x=> !S a x:=by
  funext x
  rw[hK.ok.mid.int.zero]
  cases S a x<;>rfl
 rw[e]at hD
 obtain⟨x,e,rfl⟩:=hD.two
 exact Ext.mk rfl (Ext.mk rfl (aA.mk (.refl _) hD))
theorem U9{α:Type}(w a:α)(L R:List α):(w::(L++(a::R))).Perm (a::([]++w::(L++R))):=by
 classical
 rw[List.perm_iff_count];intro x
 simp only[List.count_append,List.count_cons,List.count_nil]
 omega
theorem F9(hK:cK kp K S ord ah tr C){a b c:Nat}(ha:live K.N a)(hb:live K.N b)(hc:live K.N c)(hB:∀s,K.hold s+2^K.n≤65535):
  Fc Tryz.prog 198 #[ptr kp,u32 a,u32 b,u32 c] C (oN kp K S ord ah tr (fun x=>if S a x then S b x else S c x)):=by
 intro g
 refine DY (R:=aA _) ?_
 unfold L198
 refine av.Vr (e:=77) (x:=(a:Int)) (y:=(b:Int)) (z:=(c:Int)) (by kernel_rfl) (by kernel_rfl) (by kernel_rfl) fun bs=>?_
 have hq:∀r∈l3 (a,b,c),live K.N r:=fun r hr=>by
  simp only[l3,List.mem_cons,List.not_mem_nil,or_false]at hr
  rcases hr with rfl|rfl|rfl
  ·exact ha
  ·exact hb
  ·exact hc
 refine af.fn (args:=#[ptr kp,.slice (some ⟨bs,0,none⟩) 3 3]) (C:=[(bs,Obj.cells (ax .u32 [(a:Int),(b:Int),(c:Int)]) 77 (0,0))]++C) .here (wi hK (refs:=l3 (a,b,c)) ((aN.made (T:=77) (kd:=.u32) (b:=bs) (iw (l3 (a,b,c)))).ints) hq (by show 3≤1048576;omega)) ?_
 rintro w H ⟨bw,vl,CL,lvl,rfl,rfl,QX,uQ,hlv⟩
 refine Ext.mk rfl (Ext.mk rfl (ae.dO (Br.bt (by decide) ?_)))
 refine Build.three (e:=77) (q:=.u32) (x:=(a:Int)) (y:=(b:Int)) (z:=(c:Int)) (by kernel_rfl) (by kernel_rfl) (by kernel_rfl) ?_
 obtain⟨k,hT,hB',hk⟩:=Ad hK hq hB
 refine af.pre (H':=(bs,Obj.cells (ax .u32 [(a:Int),(b:Int),(c:Int)]) 77 (0,0))::([]++fK bw kp vl (.slice none 0 0)::(CL++C))) (.perm (U9 _ _ _ _)) ?_
 refine af.fn (args:=#[ptr bw,kq (a,b,c),.func (.func 244) #[] #[]]) (.cons .here) (F6 (t:=fun x y z=>if x then y else z) hK Bv QX uQ hlv (a,b,c) hq hT hB' hk) ?_
 intro w H hD
 obtain⟨x,e,rfl⟩:=hD.two
 exact Ext.mk rfl (Ext.mk rfl (aA.mk .tail hD))
theorem nZ.grow(hK:cK kp K S ord ah tr C){K':Kd}{S':Nat→aE.Fn}{f:aE.Fn}{r:Nat}{C':Hp}{uH:List Nat}(h:nZ K S K' S' f r)(iO:cK kp K' S' ord ah uH C')(hl:r<2∨2≤r):pU K S K' S' f r:=
 ⟨h.n,h.cap,h.N,h.fn,by
  by_cases h2:r<2
  ·exact .inl h2
  ·refine .inr (iO.ok.mid.held r ?_)
   rw[h.hold,if_pos ⟨rfl,by omega⟩];omega,h.is,fun s=>by rw[h.hold];split<;>omega⟩
theorem PI(hK:cK kp K S ord ah tr C){v:Nat}(hv:v<K.n)(hB:∀s,K.hold s<65535):
  Fc Tryz.prog 195 #[ptr kp,.int .i64 (v:Int)] C (oN kp K S ord ah tr (fun x=>x.testBit v)):=by
 intro g
 refine D1 (R:=aA _) ?_
 unfold L195
 refine ae.bJ (Br.no ?_)
 have hint:=hK.ok.mid.int
 have hL:=hK.ok.lv
 have jD:=hK.od
 have h0:live K.N 0:=.inl (by omega)
 have h1:live K.N 1:=.inl (by omega)
 have d0:dep K.n (lv ah) K.N 0=K.n:=aU (hK.ok.wf.const (by omega))
 have d1:dep K.n (lv ah) K.N 1=K.n:=aU (hK.ok.wf.const (by omega))
 have hl:=hL.lt v hv
 have eI:ite S ⟨v,0,1⟩=fun x=>x.testBit v:=by
  funext x
  unfold aE.ite
  simp only[hint.zero,hint.one]
  cases x.testBit v<;>rfl
 refine af.fn (args:=#[ptr kp,.int .i64 (v:Int),u32 0,u32 1]) .here (xg hK hv h0 h1 (.inr ⟨by rw[d0];exact hl,by rw[d1];exact hl⟩)) ?_
 rintro w C' (⟨r,K',S',rfl,iO,mk⟩|⟨r,rfl,_,_,_,hfull,_⟩|⟨rfl,rfl,hcap,hne,hT⟩)
 ·rw[eI]at mk
  exact Ext.mk rfl (Ext.mk rfl (aA.mk (.refl _) (.inl ⟨r,K',S',rfl,iO,mk.grow hK iO (by omega)⟩)))
 ·have:=hB r;omega
 ·refine Ext.mk rfl (Ext.mk rfl (aA.mk (.refl _) (.inr ⟨rfl,⟨K,S,tr,hK,.inr rfl,.refl K S⟩,?_⟩)))
  rintro⟨ku,Lt,hfit⟩
  have Hz:=jD.of hL hv
  have qp:∀j,j<lv ah v→¬dk (fun x:Nat=>x.testBit v) (ord.getD j 0):=by
   rintro j hj ⟨x,hx⟩
   apply hx
   have Qz:j<K.n:=by omega
   obtain⟨o1,o2⟩:=jD.kC j Qz
   show Nat.testBit _ v=Nat.testBit _ v
   rw[an.aq,an.aq,if_neg (fun h=>by rw[h]at hj;omega),if_neg (fun h=>by rw[h]at hj;omega)]
  have hh:dk (fun x:Nat=>x.testBit v) (ord.getD (lv ah v) 0):=by
   rw[Hz]
   exact⟨0,by show Nat.testBit _ v≠Nat.testBit _ v;rw[an.aq,an.aq,if_pos rfl,if_pos rfl];decide⟩
  have:=hK.ok.roomFor jD Lt hfit (fun g hg=>bU (fun g h=>.inl h) hg) (d:=⟨v,0,1⟩) h0 h1 (show(0:Nat)≠1 by omega) hv ⟨by rw[d0];exact hl,by rw[d1];exact hl⟩ (bU (fun g h=>.inr h) (by rw[eI];exact mU qp hl hh)) hT
  omega
end
end Go.Proofs
namespace Go.Sx
open Go
section
variable {κ β:Type} [DecidableEq κ] {ke:κ→Value} {vr:Value→β→Prop} {es:Array MapEntry} {ck:Nat} {m:List (κ×β)} {H:Hp} {b:Nat}
theorem aM.del{kd:TypeDesc}{k:κ}{K:Hp→Prop}(hk:∀a b,Instr.sameNow kd (ke a) (ke b)=some (decide (a=b)))(h:aM ke vr es ck m)(hm:(b,Obj.map es ck)∈H)
 (h1:∀es',aM ke vr es' ck (oA m k)→∃H',dR b (.map es ck) (.map es' ck) H H'∧K H'):tQ kd H (.map (some b)) (ke k) K:=by
 refine .inr ?_
 rcases h.findNow hk k with⟨i,y,e,g1,g2,g3,g4⟩|⟨g1,g2⟩
 ·refine⟨b,es,ck,_,rfl,g4,?_⟩
  have:=h.less i
  rw[←sQ h.nd g2]at this
  exact h1 _ this
 ·refine⟨b,es,ck,_,rfl,g2,hm,?_⟩
  have e:oA m k=m:=by
   unfold oA
   rw[List.filter_eq_self]
   intro w hw
   simp only[decide_not,Bool.not_eq_true',decide_eq_false_iff_not]
   intro e
   exact g1 (List.mem_map.2 ⟨w,hw,e⟩)
  obtain⟨H',hu,hK⟩:=h1 es (by rw[e];exact h)
  have:∀{H H':Hp},dR b (.map es ck) (.map es ck) H H'→H'=H:=by
   intro H H' hu
   generalize ho:Obj.map es ck=o at hu
   induction hu with
   |head R=>rfl
   |tail _ ih=>rw[ih]
  rw[this hu]at hK;exact hK
end
def kN(kd:IntKind)(r:Nat):Value:=.int kd (r:Int)
theorem iD{kd:IntKind}(a b:Nat):Instr.sameNow (.int kd) (kN kd a) (kN kd b)=some (decide (a=b)):=by
 simp only[kN,Instr.sameNow,if_true,Option.some.injEq]
 by_cases e:a=b
 ·subst e;simp
 ·have:¬(a:Int)=(b:Int):=by omega
  simp[e,this]
theorem Fw{kd:IntKind}(a:Nat):Instr.sameBits 10000 (kN kd a) (kN kd a)=true:=by
 simp[kN,Instr.sameBits]
end Go.Sx
namespace aE
open an
def QF(t:Bool→Bool→Bool)(v:Nat)(f:Fn):Fn:=fun x=>t (f (az x v false)) (f (az x v true))
section
variable {t:Bool→Bool→Bool} {v u:Nat} {f:Fn}
theorem p8{x v:Nat}{b c:Bool}:az (az x v b) v c=az x v c:=by
 apply Nat.eq_of_testBit_eq;intro k
 rw[aq,aq,aq]
 split<;>rfl
theorem MR(h:u≠v)(b:Bool):QF t v (fun x=>f (az x u b))=fun x=>QF t v f (az x u b):=by
 funext x
 unfold QF
 simp only[cF h]
theorem MP(h:¬dk f u):¬dk (QF t v f) u:=by
 rintro⟨x,hx⟩
 by_cases e:u=v
 ·subst e
  apply hx
  unfold QF
  simp only[p8]
 ·apply hx
  unfold QF
  simp only[cF e]
  have key:∀y,f (az y u false)=f (az y u true):=fun y=>Classical.byContradiction fun hn=>h ⟨y,hn⟩
  rw[key,key]
theorem PY(ht:∀a,t a a=a)(h:¬dk f v):QF t v f=f:=by
 funext x
 unfold QF
 have key:∀b,f (az x v b)=f x:=fun b=>cf h x b
 rw[key,key,ht]
end
def ZI(e:Bool):Bool→Bool→Bool→Bool:=fun x y _=>if e then x||y else x&&y
def jf(e:Bool)(S:Nat→Fn)(a b:Nat):Fn:=rV (ZI e) S [a,b,0]
theorem qk(e:Bool)(S:Nat→Fn)(a b x:Nat):jf e S a b x=if e then S a x||S b x else S a x&&S b x:=rfl
theorem xm(e:Bool)(S:Nat→Fn)(a b:Nat):jf e S a b=jf e S b a:=by
 funext x;rw[qk,qk];cases e<;>cases S a x<;>cases S b x<;>rfl
theorem Qn(e:Bool)(S:Nat→Fn)(a b:Nat):jf e S (min a b) (max a b)=jf e S a b:=by
 by_cases h:a≤b
 ·rw[Nat.min_eq_left h,Nat.max_eq_right h]
 ·rw[Nat.min_eq_right (by omega),Nat.max_eq_left (by omega),xm]
theorem OB(e:Bool)(S:Nat→Fn)(a:Nat):jf e S a a=S a:=by
 funext x;rw[qk];cases e<;>cases S a x<;>rfl
section
variable {N:eu} {S:Nat→Fn} {n:Nat} {ah:Nat→Nat}
theorem K6(hi:Interp N S)(e:Bool)(a:Nat):jf e S e.toNat a=S e.toNat:=by
 funext x;rw[qk];cases e
 ·show(S 0 x&&S a x)=S 0 x;rw[hi.zero];rfl
 ·show(S 1 x||S a x)=S 1 x;rw[hi.one];rfl
theorem KZ(hi:Interp N S)(e:Bool)(a:Nat):jf e S (!e).toNat a=S a:=by
 funext x;rw[qk];cases e
 ·show(S 1 x&&S a x)=S a x;rw[hi.one];cases S a x<;>rfl
 ·show(S 0 x||S a x)=S a x;rw[hi.zero];cases S a x<;>rfl
theorem rY(h:WF n ah N)(hl:j8 n ah){r v:Nat}(hd:ah v<dep n ah N r)(b:Bool):dG N v b r=r:=by
 unfold dG
 cases e:N r with
 |none=>rfl
 |some d=>
  rw[ay e]at hd
  simp only
  rw[if_neg (fun e2=>by rw[e2]at hd;omega)]
theorem rZ{r:Nat}{d:Nd}(e:N r=some d):dG N d.v false r=d.lo∧dG N d.v true r=d.hi:=by
 unfold dG
 rw[e]
 simp
theorem tt{N':eu}(hN:∀s d,N s=some d→N' s=some d)(hc:∀r,r<2→N' r=none)(h0:∀r,r<2→N r=none){r:Nat}(hr:live N r):dep n ah N' r=dep n ah N r:=by
 rcases hr with hr|⟨d,hd⟩
 ·rw[aU (hc r hr),aU (h0 r hr)]
 ·rw[ay hd,ay (hN r d hd)]
theorem zW(v:Nat)(bb:Bool)(a b:Nat)(h0:N 0=none):gX N v bb [a,b,0]=[dG N v bb a,dG N v bb b,0]:=by
 have:dG N v bb 0=0:=by unfold dG;rw[h0]
 simp[gX,this]
theorem Zh(h:WF n ah N)(hl:j8 n ah){a b:Nat}(h0:N 0=none)(hlt:min (dep n ah N a) (dep n ah N b)<n):
  ∃v,rG n ah N [a,b,0] v∧ah v=min (dep n ah N a) (dep n ah N b):=by
 have hd0:dep n ah N 0=n:=aU h0
 have node:∀r,dep n ah N r<n→∃d,N r=some d:=fun r hr=>by
  cases e:N r with
  |none=>rw[aU e]at hr;omega
  |some d=>exact⟨d,rfl⟩
 by_cases hab:dep n ah N b<dep n ah N a
 ·obtain⟨d,hd⟩:=node b (by omega)
  have e:=ay (n:=n) (ah:=ah) hd
  refine⟨d.v,⟨h.var hd,⟨b,by simp,d,hd,rfl⟩,fun r hr=>?_⟩,by omega⟩
  simp only[List.mem_cons,List.not_mem_nil,or_false]at hr
  rcases hr with rfl|rfl|rfl<;>omega
 ·obtain⟨d,hd⟩:=node a (by omega)
  have e:=ay (n:=n) (ah:=ah) hd
  refine⟨d.v,⟨h.var hd,⟨a,by simp,d,hd,rfl⟩,fun r hr=>?_⟩,by omega⟩
  simp only[List.mem_cons,List.not_mem_nil,or_false]at hr
  rcases hr with rfl|rfl|rfl<;>omega
end
end aE
set_option maxRecDepth 100000
namespace Go.Proofs
open Go Go.Sx
open aE
section
variable {kp:Nat} {K:Kd} {ord ah tr:List Nat} {C:Hp} {S:Nat→aE.Fn}
theorem qj(h:cC kp K ord ah tr C):Rd Tryz.prog 65 #[ptr kp] C (· =.int .i64 ((K.cap:Nat):Int)):=by
 obtain⟨b,rfl,hO⟩:=h
 intro g
 refine Iv (R:=aA _) ?_
 unfold L65
 refine ae.bJ (Br.no (Nil.ptr (aa.mk ?_)))
 refine aa.mk (Ld.mk (v:=ptr b.pa) (by exact .head _) rfl ?_)
 refine af.rd (.cons .left) (tE hO.ar) ?_
 rintro v rfl
 exact cz.mk (.refl _) rfl
theorem nh(h:cC kp K ord ah tr C)(v:Int):Rd Tryz.prog 46 #[ptr kp,.int .i64 v] C (· =if 0≤v∧v<K.n then .tuple #[.int .i64 ((ah.getD v.toNat 0:Nat):Int),.int .i64 0]else .tuple #[.int .i64 0,.int .i64 2]):=by
 have h0:=h
 obtain⟨b,rfl,hO⟩:=h
 intro g
 refine IE (R:=aA _) ?_
 unfold L46
 refine ae.bJ (Br.no ?_)
 refine af.rd .here (Fu h0 v) ?_
 rintro x rfl
 refine Un.not ?_
 by_cases BA:0≤v∧v<K.n
 ·rw[decide_eq_true BA,if_pos BA]
  refine Br.no (Nil.ptr ?_)
  refine aa.mk (Ld.mk (v:=b.vl) (by exact .head _) rfl ?_)
  have hlen:=hO.ol.2
  obtain⟨n,rfl⟩:∃n:Nat,v=n:=⟨v.toNat,by omega⟩
  refine hO.lv.ld (x:=((ah.getD n 0:Nat):Int)) (bc (by omega)) (bS.sub (.cons (.app (.app (.app (.app (.app .left))))))) ?_
  exact cz.mk (.refl _) rfl
 ·rw[decide_eq_false BA,if_neg BA]
  exact Br.yes (cz.mk (.refl _) rfl)
end
end Go.Proofs
set_option maxRecDepth 100000
namespace Go.Proofs
open Go Go.Sx
open aE
def Fg(bq kp bm:Nat)(ok:Bool):Nat×Obj:=(bq,.cells #[ptr kp,.map (some bm),.int .i64 (if ok then 0 else 9)] 350 (0,0))
abbrev rN(bq kp bm:Nat)(ok:Bool)(es:Array MapEntry)(ck:Nat)(C:Hp):Hp:=Fg bq kp bm ok::(bm,.map es ck)::C
abbrev YV(v:Value)(_:Unit):Prop:=v=.int .i64 1
abbrev ya(made:List Nat):List (Nat×Unit):=made.map fun r=>(r,())
theorem pg(made:List Nat):(ya made).map Prod.fst=made:=by
 induction made with
 |nil=>rfl
 |cons a l ih=>simp only[ya,List.map_cons,List.cons.injEq,true_and]at ih⊢;exact ih
structure uY(kp:Nat)(K0:Kd)(S0:Nat→aE.Fn)(U:aE.Fn→Prop)(ord ah:List Nat)(K:Kd)(S:Nat→aE.Fn)(made:List Nat)(es:Array MapEntry)(ck:Nat)(C:Hp)(ok:Bool):Prop where
 ks:cK kp K S ord ah [] C
 cY:mK K0 S0 U ord K S made
 jb:aM (kN .u32) YV es ck (ya made)
 bad:ok=false→¬Fits U K0.cap
theorem uY.nd{kp:Nat}{K0:Kd}{S0:Nat→aE.Fn}{U:aE.Fn→Prop}{ord ah:List Nat}{K:Kd}{S:Nat→aE.Fn}{made:List Nat}{es:Array MapEntry}{ck:Nat}{C:Hp}{ok:Bool}(h:uY kp K0 S0 U ord ah K S made es ck C ok):made.Nodup:=by
 have:=h.jb.nd
 rwa [pg]at this
structure AN(K:Kd)(S:Nat→aE.Fn)(made:List Nat)(K':Kd)(S':Nat→aE.Fn)(made':List Nat):Prop where
 N:∀s d,K.N s=some d→K'.N s=some d
 fn:∀s,live K.N s→S' s=S s
 mem:∀s∈made,s∈made'
theorem AN.refl{K:Kd}{S:Nat→aE.Fn}{made:List Nat}:AN K S made K S made:=⟨fun _ _ h=>h,fun _ _=>rfl,fun _ h=>h⟩
theorem AN.trans{K K' K2:Kd}{S S' S2:Nat→aE.Fn}{made made' fU:List Nat}(h:AN K S made K' S' made')(h':AN K' S' made' K2 S2 fU):AN K S made K2 S2 fU:=
 ⟨fun s d hd=>h'.N s d (h.N s d hd),fun s hs=>(h'.fn s (cO h.N hs)).trans (h.fn s hs),fun s hs=>h'.mem s (h.mem s hs)⟩
section
variable {kp bq bm:Nat} {K K0:Kd} {S S0:Nat→aE.Fn} {U:aE.Fn→Prop} {ord ah made:List Nat} {es:Array MapEntry} {ck:Nat} {C:Hp} {ok:Bool}
theorem G2{tr:List Nat}{r:Nat}(h:cK kp K S ord ah tr C)(hr:live K.N r):Rd Tryz.prog 287 #[ptr bq,.agg (got K.N r).toArray] (rN bq kp bm ok es ck C) (· =.int .i64 ((dep K.n (lv ah) K.N r:Nat):Int)):=by
 have hlen:=(aG K.N r).1
 intro g
 refine Cy (R:=aA _) ?_
 unfold L287
 intro b1 _
 cases hN:K.N r with
 |none=>
  have h2:r<2:=by rcases hr with h|⟨d,hd⟩;exact h;rw[hN]at hd;cases hd
  have eg:got K.N r=[.int .i64 (-1),u32 r,u32 r]:=dY h2
  rw[eg]
  refine aa.mk (Ld.mk (v:=.int .i64 (-1)) (by exact .head _) rfl ?_)
  refine ae.lss (Br.fc (by decide) ?_)
  refine Nil.ptr (aa.mk (Ld.mk (v:=ptr kp) (by exact .tail _ (.head _)) rfl ?_))
  refine af.rd (.cons (.cons (.cons .here))) (gU h.rep) ?_
  rintro w rfl
  rw[aU hN]
  exact cz.mk .tail rfl
 |some d=>
  have h2:=h.ok.wf.two hN
  have hv:=h.ok.wf.var hN
  rw[df hN h2]
  refine aa.mk (Ld.mk (v:=.int .i64 (d.v:Int)) (by exact .head _) rfl ?_)
  refine ae.lss (Br.bt (by omega) ?_)
  refine DR.of (R:=(b1,Obj.cells (aP d).toArray 161 (0,0))::rN bq kp bm ok es ck C) (.refl _) ?_
  refine Nil.ptr (aa.mk (Ld.mk (v:=ptr kp) (by exact .tail _ (.head _)) rfl ?_))
  refine aa.mk (Ld.mk (v:=.int .i64 (d.v:Int)) (by exact .head _) rfl ?_)
  refine af.rd (.cons (.cons (.cons .here))) (nh h.rep (d.v:Int)) ?_
  rw[if_pos (by omega)]
  rintro w rfl
  refine⟨.refl _,?_⟩
  refine Ext.mk rfl (Ext.mk rfl ?_)
  rw[ay hN]
  exact cz.mk .tail rfl
theorem Bc{tr:List Nat}{r:Nat}(h:cK kp K S ord ah tr C)(hr:live K.N r):Rd Tryz.prog 279 #[ptr bq,u32 r] (rN bq kp bm ok es ck C) (· =.tuple #[.agg (got K.N r).toArray,.int .i64 ((dep K.n (lv ah) K.N r:Nat):Int)]):=by
 intro g
 refine CE (R:=aA _) ?_
 unfold L279
 intro b1 _
 refine Nil.ptr (aa.mk (Ld.mk (v:=ptr kp) (by exact .tail _ (.head _)) rfl ?_))
 refine af.rd (.cons (.cons (.cons .here))) (fV h.rep (by have:=h.bZ hr;omega)) ?_
 rw[bM.2 hr]
 rintro w rfl
 refine Ext.mk rfl (Ext.mk rfl ?_)
 intro xQ _
 refine St.whole (r:=got K.N r) (by exact .head _) rfl (aG _ _).1 (aG _ _).2 ?_
 refine DR.of (R:=[(xQ,Obj.cells (got K.N r).toArray 161 (0,0))]) (aQ.left (A:=[_])) ?_
 refine aC.whole (r:=got K.N r) (by exact .head _) (aG _ _).1 ?_
 refine aC.whole (r:=got K.N r) (by exact .head _) (aG _ _).1 ?_
 refine af.rd (.cons (.cons .here)) (G2 h hr) ?_
 rintro w rfl
 refine⟨aQ.left (A:=[_]),?_⟩
 refine St.whole (r:=got K.N r) (by exact .tail (.head _)) rfl (aG _ _).1 (aG _ _).2 ?_
 refine⟨aQ.left (A:=[_]),?_⟩
 refine aC.whole (r:=got K.N r) (by exact .tail _ (.head _)) (aG _ _).1 ?_
 exact cz.mk (.skip .tail) rfl
theorem vq(v:Value)(a b:Value)(B:Hp):Rd Tryz.prog 280 #[ptr bq,v,a,b] (Fg bq kp bm false::B) (· =u32 0):=by
 intro g
 refine tS (R:=aA _) ?_
 unfold L280
 refine Nil.ptr (aa.mk (Ld.mk (v:=.int .i64 9) (by exact .head _) rfl ?_))
 exact ae.dO (Br.fc (by decide) (cz.mk (.refl _) rfl))
theorem mK.U5(h:mK K0 S0 U ord K S made)(hK:cK kp K S ord ah [] C){K':Kd}{S':Nat→aE.Fn}{f:aE.Fn}{r:Nat}(m:nZ K S K' S' f r)(h2:2≤r)(hU:∀g,aO K0.n ord (fun g=>g=f) g→U g):mK K0 S0 U ord K' S' (made++[r]):=h.step hK m h2 hU
theorem mK.again(h:mK K0 S0 U ord K S made)(hK:cK kp K S ord ah [] C){K' K2:Kd}{S':Nat→aE.Fn}{f:aE.Fn}{r:Nat}{C2:Hp}(m:nZ K S K' S' f r)(hf:wv K' K2 r)(dM:cK kp K2 S' ord ah [] C2):mK K0 S0 U ord K2 S' made∧(∀s d,K.N s=some d→K2.N s=some d):=by
 have hold:∀s,K2.hold s=K.hold s:=fun s=>by
  rw[hf.hold,m.hold]
  by_cases e:s=r∧2≤r
  ·rw[if_pos e,if_pos e];omega
  ·rw[if_neg e,if_neg e]
 have hN:∀s d,K.N s=some d→K2.N s=some d:=fun s d hs=>iW hK.ok dM.ok (fun s h=>by rw[hold];exact h) (fun s d d' h1 h2=>by
  have a:=hf.N s d' h2
  rw[m.N s d h1]at a;exact(Option.some.inj a).symm) _ s d hs (Nat.le_refl _)
 refine⟨⟨hf.n.trans (m.n.trans h.n),hf.cap.trans (m.cap.trans h.cap),fun s d hd=>hN s d (h.N s d hd),fun s hs=>(m.fn s (h.live hs)).trans (h.fn s hs),fun s=>by rw[hold,h.hold],h.two,fun g hg=>h.U g (bU (fun g=>?_) hg)⟩,hN⟩
 rintro⟨s,hs,rfl⟩
 have hs':K.hold s≠0:=by rw[←hold];exact hs
 exact⟨s,hs',m.fn s (.inr (hK.ok.mid.held s hs'))⟩
theorem KJ{made:List Nat}{r:Nat}(h:r∉made):fA (ya made) r ()=ya (made++[r]):=by
 unfold fA
 rw[if_neg (by rw[pg];exact h)]
 simp[ya]
theorem nf{made:List Nat}{r:Nat}:(r∈made→c9 (ya made) r=some ())∧(r∉made→c9 (ya made) r=none):=by
 refine⟨fun h=>?_,fun h=>gB.2 (by rw[pg];exact h)⟩
 cases e:c9 (ya made) r with
 |none=>have:=gB.1 e;rw[pg]at this;exact absurd h this
 |some u=>rfl
theorem yH(hq:uY kp K0 S0 U ord ah K S made es ck C true){v lo hi:Nat}(hv:v<K.n)(hlo:live K.N lo)(hhi:live K.N hi)(hlt:lv ah v<dep K.n (lv ah) K.N lo∧lv ah v<dep K.n (lv ah) K.N hi)
 (hU:∀g,aO K0.n ord (fun g=>g=ite S ⟨v,lo,hi⟩) g→U g)(gV:lo≠hi→U (ite S ⟨v,lo,hi⟩))(hf:∀s,K0.hold s+1<65535):
  Fc Tryz.prog 280 #[ptr bq,.int .i64 (v:Int),u32 lo,u32 hi] (rN bq kp bm true es ck C) (fun w H=>∃r K' S' made' es' ct C' lG,w=u32 r∧H=rN bq kp bm lG es' ct C'∧uY kp K0 S0 U ord ah K' S' made' es' ct C' lG∧AN K S made K' S' made'∧
   (lG=true→S' r=ite S ⟨v,lo,hi⟩∧(r<2∨r∈made'))):=by
 have hK:=hq.ks
 have g7:=hq.nd
 have hh:∀s,K.hold s<65535:=fun s=>by
  rw[hq.cY.hold]
  have:made.count s≤1:=List.nodup_iff_count.1 g7 s
  have:=hf s
  omega
 intro g
 refine tS (R:=aA _) ?_
 unfold L280
 refine Nil.ptr (aa.mk (Ld.mk (v:=.int .i64 0) (by exact .head _) rfl ?_))
 refine ae.dO (Br.bt (by decide) ?_)
 refine Nil.ptr (aa.mk (Ld.mk (v:=ptr kp) (by exact .head _) rfl ?_))
 refine af.fn (.cons (.cons .here)) (xg hK hv hlo hhi (.inr hlt)) ?_
 rintro w C' (⟨r,K',S',rfl,iO,mk⟩|⟨r,rfl,_,_,_,hfull,_⟩|⟨rfl,rfl,hcap,hne,hT⟩)
 ·refine Ext.mk rfl (Ext.mk rfl ?_)
  intro J hJ
  refine ae.jF (Br.bt (by decide) ?_)
  refine ae.dO (Br.bt (by decide) ?_)
  refine ae.Bp (b:=1) ?_
  have Sk:r<4294967296:=by have:=iO.bZ mk.live;omega
  have hA:AN K S made K' S' made:=⟨mk.N,mk.fn,fun _ h=>h⟩
  have drop:(r<2∨r∈made)→Nil (ptr bq) fun dn=>aa 0 dn fun dU=>Ld (Fg bq kp bm true::(bm,Obj.map es ck)::C') dU fun gk=>af Tryz.prog g 131 #[gk,u32 r] (Fg bq kp bm true::(bm,Obj.map es ck)::C') (fun gi j9=>JE J [u32 r] j9) (au (aA fun w H=>∃r K' S' made' es' ct C' lG,w=u32 r∧H=rN bq kp bm lG es' ct C'∧uY kp K0 S0 U ord ah K' S' made' es' ct C' lG∧AN K S made K' S' made'∧
   (lG=true→S' r=ite S ⟨v,lo,hi⟩∧(r<2∨r∈made')))):=fun hr=>by
   refine Nil.ptr (aa.mk (Ld.mk (v:=ptr kp) (by exact .head _) rfl ?_))
   refine af.fn (.cons (.cons .here)) (pJ iO (r:=r) Sk (fun h2=>by rw[mk.hold,if_pos ⟨rfl,h2⟩];omega)) ?_
   rintro w C2 ⟨rfl,K2,dM,f2⟩
   obtain⟨pA,S8⟩:=hq.cY.again hK mk f2 dM
   refine JE.mk (hJ _ _ fun gs=>?_)
   exact aA.here ⟨r,K2,S',made,es,ck,C2,true,rfl,rfl,⟨dM,pA,hq.jb,fun h=>by cases h⟩,⟨S8,mk.fn,fun _ h=>h⟩,fun _=>⟨mk.is,hr⟩⟩
  by_cases h2:r<2
  ·rw[decide_eq_true (by omega)]
   refine bT.or (a:=true) true (fun h=>by cases h) (by simp) fun gs=>Br.yes ?_
   exact drop (.inl h2)
  ·rw[decide_eq_false (by omega)]
   refine bT.or (a:=false) (decide (r∈made)) (fun _=>?_) (by simp) fun gs=>?_
   ·refine Nil.ptr (aa.mk (Ld.mk (v:=.map (some bm)) (by exact .head _) rfl ?_))
    by_cases hm:r∈made
    ·refine aM.hit (k:=r) (x:=()) iD hq.jb (.tail _ (.head _)) (nf.1 hm) ?_
     rintro v rfl
     exact ae.gtr ⟨rfl,by rw[decide_eq_true hm];rfl⟩
    ·refine aM.bK (k:=r) iD hq.jb (.tail _ (.head _)) (nf.2 hm) ?_
     exact ae.gtr ⟨rfl,by rw[decide_eq_false hm];rfl⟩
   ·rw[Bool.false_or]
    refine Br.dec (fun hm=>drop (.inr hm)) (fun hm=>?_)
    refine Nil.ptr (aa.mk (Ld.mk (v:=.map (some bm)) (by exact .head _) rfl ?_))
    refine aM.bY (k:=r) (x:=()) iD Fw hq.jb rfl fun es' ct he=>⟨_,.tail (.head _),?_⟩
    rw[KJ hm]at he
    refine JE.mk (hJ _ _ fun gs=>?_)
    exact aA.here ⟨r,K',S',made++[r],es',ct,C',true,rfl,rfl,⟨iO,hq.cY.U5 hK mk (by omega) hU,he,fun h=>by cases h⟩,⟨mk.N,mk.fn,fun _ h=>List.mem_append_left _ h⟩,fun _=>⟨mk.is,.inr (by simp)⟩⟩
 ·have:=hh r;omega
 ·refine Ext.mk rfl (Ext.mk rfl ?_)
  intro J hJ
  refine ae.jF (Br.bt (by decide) ?_)
  refine ae.dO (Br.fc (by decide) ?_)
  refine Nil.ptr (aa.mk (St.one (by exact .head _) rfl (by simp) rfl ?_))
  refine JE.mk (hJ _ _ fun gs=>?_)
  refine aA.here ⟨0,K,S,made,es,ck,C',false,rfl,rfl,⟨hK,hq.cY,hq.jb,fun _=>?_⟩,.refl,fun h=>by cases h⟩
  rintro⟨ku,Lt,hfit⟩
  have:=hK.ok.roomFor hK.od Lt (by rw[hq.cY.cap];exact hfit) (by rw[hq.cY.n];exact hq.cY.U) (d:=⟨v,lo,hi⟩) hlo hhi hne hv hlt (gV hne) hT
  omega
end
def pk(p:Nat×Nat):Value:=.agg #[u32 p.1,u32 p.2]
theorem Kx(a b:Nat×Nat):xZ Tryz.prog 363 (pk a) (pk b) (decide (a=b)):=by
 refine xZ.flat (fs:=#[⟨"f",77,0,false, "", "thicket/quant",0⟩,⟨"g",77,1,false, "", "thicket/quant",4⟩]) (by kernel_rfl) (by kernel_rfl) ?_ ?_
 ·intro f hf
  simp only[List.mem_cons,List.not_mem_nil,or_false]at hf
  rcases hf with rfl|rfl
  ·exact⟨by decide,_,_,rfl,rfl,.inl ⟨.u32,_,_,by kernel_rfl,rfl,rfl⟩⟩
  ·exact⟨by decide,_,_,rfl,rfl,.inl ⟨.u32,_,_,by kernel_rfl,rfl,rfl⟩⟩
 ·obtain⟨a1,a2⟩:=a
  obtain⟨b1,b2⟩:=b
  simp[u32]
  omega
theorem Bg(a:Nat×Nat):kA Tryz.prog 363 (pk a):=by
 refine kA.flat (fs:=#[⟨"f",77,0,false, "", "thicket/quant",0⟩,⟨"g",77,1,false, "", "thicket/quant",4⟩]) (by kernel_rfl) ?_
 intro f hf
 simp only[List.mem_cons,List.not_mem_nil,or_false]at hf
 rcases hf with rfl|rfl
 ·exact⟨by decide,_,rfl,.inl ⟨.u32,_,_,by kernel_rfl,rfl,rfl⟩⟩
 ·exact⟨by decide,_,rfl,.inl ⟨.u32,_,_,by kernel_rfl,rfl,rfl⟩⟩
theorem Ob(a:Nat×Nat):Instr.sameBits 10000 (pk a) (pk a)=true:=jB 9998 (by intro x hx;simp[u32]at hx;rcases hx with rfl|rfl<;>exact .inl ⟨_,_,rfl⟩)
def qw(b3 b5 b1 oJ lQ:Nat):Value:=.func (.func 288) #[] #[ptr b3,ptr b5,ptr b1,ptr oJ,ptr lQ]
def UL(K0:Kd)(F:Nat×Nat→aE.Fn)(S:Nat→aE.Fn)(made:List Nat)(ok:Bool)(es:Array MapEntry)(ck:Nat):Prop:=
 ∃m:List ((Nat×Nat)×Nat),aM pk JG es ck m∧(ok=true→∀y∈m,S y.2=F y.1∧(live K0.N y.2∨y.2∈made))
abbrev Qo(e:Bool)(b3 b5 b1 oJ lQ bj bq kp bm:Nat)(ok:Bool)(uh:Array MapEntry)(uj:Nat)(es:Array MapEntry)(ck:Nat)(C:Hp):Hp:=
 (lQ,.cells #[qw b3 b5 b1 oJ lQ] 361 (0,0))::(oJ,.cells #[.map (some bj)] 360 (0,0))::(bj,.map uh uj)::(b5,.cells #[u32 (!e).toNat] 77 (0,0))::(b3,.cells #[u32 e.toNat] 77 (0,0))::(b1,.cells #[ptr bq] 344 (0,0))::rN bq kp bm ok es ck C
section
variable {kp bq bm b3 b5 b1 oJ lQ bj:Nat} {K0:Kd} {S0:Nat→aE.Fn} {U:aE.Fn→Prop} {ord ah:List Nat} {e:Bool}
theorem uY.sR{K:Kd}{S:Nat→aE.Fn}{made:List Nat}{es:Array MapEntry}{ck:Nat}{C:Hp}{ok:Bool}(h:uY kp K0 S0 U ord ah K S made es ck C ok){r:Nat}(hr:live K0.N r∨r∈made):live K.N r:=by
 rcases hr with hr|hr
 ·exact h.cY.live hr
 ·exact h.cY.gC h.ks hr
theorem UL.more{F:Nat×Nat→aE.Fn}{K K':Kd}{S S':Nat→aE.Fn}{made made':List Nat}{es uh:Array MapEntry}{ck uj:Nat}{C:Hp}{ok lG:Bool}(hq:uY kp K0 S0 U ord ah K S made es ck C ok)(h:UL K0 F S made ok uh uj)(ha:AN K S made K' S' made')(hok:lG=true→ok=true):UL K0 F S' made' lG uh uj:=by
 obtain⟨m,h1,h2⟩:=h
 refine⟨m,h1,fun h y hy=>?_⟩
 obtain⟨a,b⟩:=h2 (hok h) y hy
 exact⟨by rw[ha.fn _ (hq.sR b),a],b.imp id (ha.mem _)⟩
def TO(kp:Nat)(K0:Kd)(S0:Nat→aE.Fn)(U:aE.Fn→Prop)(ord ah:List Nat)(e:Bool)(b3 b5 b1 oJ lQ bj bq bm:Nat)(K:Kd)(S:Nat→aE.Fn)(made:List Nat)(ok:Bool)(f:aE.Fn)(w:Value)(H:Hp):Prop:=
 ∃x K' S' made' es' ct C' lG Sb Sc,w=u32 x∧H=Qo e b3 b5 b1 oJ lQ bj bq kp bm lG Sb Sc es' ct C'∧uY kp K0 S0 U ord ah K' S' made' es' ct C' lG∧UL K0 (fun p=>jf e S0 p.1 p.2) S' made' lG Sb Sc∧AN K S made K' S' made'∧
  (lG=true→ok=true∧S' x=f∧(live K0.N x∨x∈made'))
theorem zC{N:eu}{n:Nat}{dL:Nat→Nat}(h:WF n dL N)(hl:j8 n dL){r v:Nat}(hr:live N r)(hv:v<n)(hle:dL v≤dep n dL N r):
  ∃z p q,got N r=[.int .i64 z,u32 p,u32 q]∧(dL v=dep n dL N r→z=(v:Int)∧p=dG N v false r∧q=dG N v true r)∧(dL v<dep n dL N r→dG N v false r=r∧dG N v true r=r):=by
 have hlv:=hl.lt v hv
 cases e:N r with
 |none=>
  have h2:r<2:=by rcases hr with h|⟨d,hd⟩;exact h;rw[e]at hd;cases hd
  refine⟨_,_,_,dY h2,fun h3=>?_,fun h3=>⟨rY h hl h3 _,rY h hl h3 _⟩⟩
  rw[aU e]at h3;omega
 |some d=>
  refine⟨_,_,_,df e (h.two e),fun h3=>?_,fun h3=>⟨rY h hl h3 _,rY h hl h3 _⟩⟩
  rw[ay e]at h3
  have:v=d.v:=hl.inj _ _ hv (h.var e) h3
  subst this
  obtain⟨c1,c2⟩:=rZ (N:=N) e
  exact⟨rfl,c1.symm,c2.symm⟩
set_option maxHeartbeats 2000000 in
theorem KY(gK:bB Tryz.prog 288=true)(jK:WF K0.n (lv ah) K0.N)(nH:Interp K0.N S0)(iN:j8 K0.n (lv ah))(jD:aE.Ord K0.n (lv ah) ord)(hf:∀s,K0.hold s+1<65535):
  ∀(k a b:Nat),K0.n-min (dep K0.n (lv ah) K0.N a) (dep K0.n (lv ah) K0.N b)=k→∀(K:Kd) (S:Nat→aE.Fn) (made:List Nat) (es:Array MapEntry) (ck:Nat) (C:Hp) (ok:Bool) (uh:Array MapEntry) (uj:Nat),
  live K0.N a→live K0.N b→uY kp K0 S0 U ord ah K S made es ck C ok→UL K0 (fun p=>jf e S0 p.1 p.2) S made ok uh uj→(∀g,aO K0.n ord (fun g=>g=jf e S0 a b) g→U g)→
  Fc Tryz.prog 288 #[u32 a,u32 b,ptr b3,ptr b5,ptr b1,ptr oJ,ptr lQ] (Qo e b3 b5 b1 oJ lQ bj bq kp bm ok uh uj es ck C) (TO kp K0 S0 U ord ah e b3 b5 b1 oJ lQ bj bq bm K S made ok (jf e S0 a b)):=by
 have hc0:∀r,r<2→K0.N r=none:=fun r hr=>jK.const hr
 intro k
 induction k using Nat.strongRecOn with
 |ind k ih=>
 intro a b hk K S made es ck C ok uh uj ha hb hS hJ hU g
 have hK:=hS.ks
 have FG:∀r,r<2→K.N r=none:=fun r hr=>hK.ok.wf.const hr
 have eN:=hS.cY.n
 have la:=hS.cY.live ha
 have lb:=hS.cY.live hb
 have now:∀x,live K0.N x→(S0 x=jf e S0 a b)→∀Z:Hp,aA (TO kp K0 S0 U ord ah e b3 b5 b1 oJ lQ bj bq bm K S made ok (jf e S0 a b)) (.returned (u32 x)) (Z++Qo e b3 b5 b1 oJ lQ bj bq kp bm ok uh uj es ck C):=fun x hx hf Z=>
  aA.mk .right ⟨x,K,S,made,es,ck,C,ok,uh,uj,rfl,rfl,hS,hJ,.refl,fun h=>⟨h,by rw[hS.cY.fn x hx];exact hf,.inl hx⟩⟩
 have Jg:e.toNat<2:=by cases e<;>decide
 have um:(!e).toNat<2:=by cases e<;>decide
 refine Cw (R:=aA _) ?_
 unfold L288
 refine Ld.mk (v:=u32 e.toNat) (by exact .tail _ (.tail _ (.tail _ (.tail _ (.head _))))) rfl ?_
 refine ae.eB ?_
 refine bT.or (decide (b=e.toNat)) (fun _=>?_) (by simp) fun gs=>?_
 ·refine Ld.mk (v:=u32 e.toNat) (by exact .tail _ (.tail _ (.tail _ (.tail _ (.head _))))) rfl ?_
  exact ae.eB ⟨rfl,rfl⟩
 rw[←Bool.decide_or]
 refine Br.dec (fun h1=>?_) (fun h1=>?_)
 ·refine Ld.mk (v:=u32 e.toNat) (by exact .tail _ (.tail _ (.tail _ (.tail _ (.head _))))) rfl ?_
  refine now _ (.inl Jg) ?_ []
  rcases h1 with rfl|rfl
  ·exact(K6 nH e b).symm
  ·rw[xm];exact(K6 nH e a).symm
 refine Ld.mk (v:=u32 (!e).toNat) (by exact .tail _ (.tail _ (.tail _ (.head _)))) rfl ?_
 refine ae.eB ?_
 refine bT.or (decide (a=b)) (fun _=>ae.eB ⟨rfl,rfl⟩) (by simp) fun gs=>?_
 rw[←Bool.decide_or]
 refine Br.dec (fun h2=>?_) (fun h2=>?_)
 ·refine now b hb ?_ []
  rcases h2 with rfl|rfl
  ·exact(KZ nH e b).symm
  ·exact(OB e S0 a).symm
 refine Ld.mk (v:=u32 (!e).toNat) (by exact .tail _ (.tail _ (.tail _ (.head _)))) rfl ?_
 refine ae.eB (Br.dec (fun h3=>?_) (fun h3=>?_))
 ·refine now a ha ?_ []
  rw[h3,xm];exact(KZ nH e a).symm
 refine Ld.mk (v:=ptr bq) (by exact .tail _ (.tail _ (.tail _ (.tail _ (.tail _ (.head _)))))) rfl ?_
 refine Nil.ptr (aa.mk (Ld.mk (v:=.int .i64 (if ok then 0 else 9)) (by exact .tail _ (.tail _ (.tail _ (.tail _ (.tail _ (.tail _ (.head _))))))) rfl ?_))
 cases ok with
 |false=>
  refine ae.dO (Br.fc (by decide) ?_)
  exact aA.here ⟨0,K,S,made,es,ck,C,false,uh,uj,rfl,rfl,hS,hJ,.refl,fun h=>by cases h⟩
 |true=>
 refine ae.dO (Br.bt (by decide) ?_)
 refine⟨.u32,(a:Int),(b:Int),rfl,rfl,⟨.u32,(a:Int),(b:Int),rfl,rfl,?_⟩⟩
 have abG:(if(b:Int)<(a:Int)then(b:Int)else(a:Int))=((min a b:Nat):Int):=by split<;>omega
 have abH:(if(b:Int)>(a:Int)then(b:Int)else(a:Int))=((max a b:Nat):Int):=by split<;>omega
 rw[abG,abH]
 refine Build.mk (cs:=[u32 (min a b),u32 (max a b)]) (by kernel_rfl) ?_
 intro F3 _
 refine St.whole (r:=[u32 (min a b),u32 (max a b)]) (by exact .head _) rfl rfl (by intro x hx;simp[u32]at hx;rcases hx with rfl|rfl<;>rfl) ?_
 refine Ld.mk (v:=.map (some bj)) (by exact .tail _ (.tail _ (.head _))) rfl ?_
 refine aC.whole (r:=[u32 (min a b),u32 (max a b)]) (by exact .head _) rfl ?_
 obtain⟨m,hE,hkn⟩:=hJ
 have uP:(bj,Obj.map uh uj)∈(F3,Obj.cells #[u32 (min a b),u32 (max a b)] 363 (0,0))::Qo e b3 b5 b1 oJ lQ bj bq kp bm true uh uj es ck C:=.tail _ (.tail _ (.tail _ (.head _)))
 cases hg:c9 m (min a b,max a b)with
 |some x=>
  refine aM.BG (ke:=pk) (k:=(min a b,max a b)) Kx Bg hE uP hg ?_
  rintro v rfl
  obtain⟨g1,g2⟩:=hkn rfl _ ((fT hE.nd).1 hg)
  refine Ext.mk rfl (Ext.mk rfl (Br.yes ?_))
  refine aA.mk .tail ⟨x,K,S,made,es,ck,C,true,uh,uj,rfl,rfl,hS,⟨m,hE,hkn⟩,.refl,fun h=>⟨h,?_,g2⟩⟩
  rw[g1];exact Qn e S0 a b
 |none=>
 refine aM.sP (ke:=pk) (k:=(min a b,max a b)) Kx Bg hE uP hg ?_
 refine Ext.mk rfl (Ext.mk rfl (Br.no ?_))
 refine Ld.mk (v:=ptr bq) (by exact .tail _ (.tail _ (.tail _ (.tail _ (.tail _ (.tail _ (.head _))))))) rfl ?_
 refine af.rd (.cons (.cons (.cons (.cons (.cons (.cons (.cons .here))))))) (Bc (bm:=bm) (ok:=true) (es:=es) (ck:=ck) hK la) ?_
 rintro w rfl
 refine Ext.mk rfl (Ext.mk rfl ?_)
 intro Ie _
 refine St.whole (r:=got K.N a) (by exact .head _) rfl (aG _ _).1 (aG _ _).2 ?_
 refine Ld.mk (v:=ptr bq) (by exact .tail _ (.tail _ (.tail _ (.tail _ (.tail _ (.tail _ (.tail _ (.head _)))))))) rfl ?_
 refine af.rd (.cons (.cons (.cons (.cons (.cons (.cons (.cons (.cons .here)))))))) (Bc (bm:=bm) (ok:=true) (es:=es) (ck:=ck) hK lb) ?_
 rintro w rfl
 refine Ext.mk rfl (Ext.mk rfl ?_)
 intro Ic _
 refine St.whole (r:=got K.N b) (by exact .head _) rfl (aG _ _).1 (aG _ _).2 ?_
 rw[mr hS.cY.N hc0 FG ha,mr hS.cY.N hc0 FG hb,eN,tt hS.cY.N FG hc0 ha,tt hS.cY.N FG hc0 hb]
 have hmin:min (dep K0.n (lv ah) K0.N a) (dep K0.n (lv ah) K0.N b)<K0.n:=by
  refine Classical.byContradiction fun hn=>h2 (.inr ?_)
  have AG:∀r,live K0.N r→K0.n≤dep K0.n (lv ah) K0.N r→r<2:=fun r hr hd=>by
   rcases hr with h|⟨d,cV⟩
   ·exact h
   ·rw[ay cV]at hd
    have:=iN.lt _ (jK.var cV);omega
  have a2:=AG a ha (by omega)
  have b2:=AG b hb (by omega)
  cases e<;>simp only[Bool.toNat_true,Bool.toNat_false,Bool.not_true,Bool.not_false]at h1 h2<;>omega
 obtain⟨v,hv,hvl⟩:=Zh jK iN (hc0 0 (by omega)) hmin
 have hva:=hv.le a (by simp)
 have hvb:=hv.le b (by simp)
 obtain⟨za,pa,qa,ega,ga1,ga2⟩:=zC jK iN ha hv.lt hva
 obtain⟨zb,pb,qb,egb,gb1,gb2⟩:=zC jK iN hb hv.lt hvb
 rw[ega,egb]
 have fJ:∀r∈[a,b,0],live K0.N r:=fun r hr=>by
  simp only[List.mem_cons,List.not_mem_nil,or_false]at hr
  rcases hr with rfl|rfl|rfl
  ·exact ha
  ·exact hb
  ·exact .inl (by omega)
 obtain⟨f1,f2⟩:=nv (S:=S0) jK iN nH fJ hv false
 obtain⟨t1,t2⟩:=nv (S:=S0) jK iN nH fJ hv true
 rw[zW v _ a b (hc0 0 (by omega))]at f1 f2 t1 t2
 have ec:∀bb,jf e S0 (dG K0.N v bb a) (dG K0.N v bb b)=fun x=>jf e S0 a b (an.az x v bb):=fun bb=>by
  have:=FO (S:=S0) jK iN nH rfl fJ hv (ZI e) bb
  rw[zW v _ a b (hc0 0 (by omega))]at this
  exact this
 generalize ea1:dG K0.N v false a=a1 at*
 generalize ea2:dG K0.N v true a=a2 at*
 generalize ec1:dG K0.N v false b=c1 at*
 generalize ec2:dG K0.N v true b=c2 at*
 have ic:=iN.lt v hv.lt
 have Hz:=jD.of iN hv.lt
 have qp:∀j,j<lv ah v→¬dk (jf e S0 a b) (ord.getD j 0):=vU jK iN nH jD (q:=[a,b,0]) rfl fJ (Nat.le_of_lt ic) hv.le (ZI e)
 obtain⟨i1,Km⟩:=iK (n:=K0.n) (ord:=ord) (c:=jf e S0 a1 c1) qp (b:=false) (by rw[Hz,←ea1,←ec1];exact ec false)
 obtain⟨i2,Kl⟩:=iK (n:=K0.n) (ord:=ord) (c:=jf e S0 a2 c2) qp (b:=true) (by rw[Hz,←ea2,←ec2];exact ec true)
 have eF:jf e S0 a1 c1=fun x=>jf e S0 a b (an.az x v false):=by rw[←ea1,←ec1];exact ec false
 have eT:jf e S0 a2 c2=fun x=>jf e S0 a b (an.az x v true):=by rw[←ea2,←ec2];exact ec true
 have la1:=f1 a1 (by simp)
 have lc1:=f1 c1 (by simp)
 have la2:=t1 a2 (by simp)
 have lc2:=t1 c2 (by simp)
 have da1:=f2 a1 (by simp)
 have dc1:=f2 c1 (by simp)
 have da2:=t2 a2 (by simp)
 have dc2:=t2 c2 (by simp)
 refine aa.mk (Ld.mk (v:=.int .i64 za) (by exact .tail _ (.head _)) rfl ?_)
 intro XG h49
 have WV:XG [.int .i64 (v:Int)] ((Ic,.cells #[.int .i64 zb,u32 pb,u32 qb] 161 (0,0))::(Ie,.cells #[.int .i64 za,u32 pa,u32 qa] 161 (0,0))::(F3,.cells #[u32 (min a b),u32 (max a b)] 363 (0,0))::Qo e b3 b5 b1 oJ lQ bj bq kp bm true uh uj es ck C):=by
  refine h49 _ _ fun gs XF h53=>?_
  have WU:XF [] ((Ic,.cells #[.int .i64 zb,u32 pb,u32 qb] 161 (0,0))::(Ie,.cells #[.int .i64 za,u32 a1,u32 a2] 161 (0,0))::(F3,.cells #[u32 (min a b),u32 (max a b)] 363 (0,0))::Qo e b3 b5 b1 oJ lQ bj bq kp bm true uh uj es ck C):=by
   refine h53 _ fun gs XE h56=>?_
   have WT:XE [] ((Ic,.cells #[.int .i64 zb,u32 c1,u32 c2] 161 (0,0))::(Ie,.cells #[.int .i64 za,u32 a1,u32 a2] 161 (0,0))::(F3,.cells #[u32 (min a b),u32 (max a b)] 363 (0,0))::Qo e b3 b5 b1 oJ lQ bj bq kp bm true uh uj es ck C):=by
    refine h56 _ fun gs=>?_
    refine Ld.mk (v:=qw b3 b5 b1 oJ lQ) (by exact .tail _ (.tail _ (.tail _ (.head _)))) rfl ?_
    refine aa.mk (Ld.mk (v:=u32 a1) (by exact .tail _ (.head _)) rfl ?_)
    refine aa.mk (Ld.mk (v:=u32 c1) (by exact .head _) rfl ?_)
    refine cc.of rfl gK ?_
    have hJ0:UL K0 (fun p=>jf e S0 p.1 p.2) S made true uh uj:=⟨m,hE,hkn⟩
    refine af.fn (args:=#[u32 a1,u32 c1,ptr b3,ptr b5,ptr b1,ptr oJ,ptr lQ]) (.cons (.cons (.cons .here))) (ih _ (by omega) a1 c1 rfl K S made es ck C true uh uj la1 lc1 hS hJ0 (fun g hg=>hU g (Km g hg))) ?_
    rintro w H ⟨x1,K1,S1,vE,nJ,lP,C1,Zn,ZK,ZM,rfl,rfl,AB,Tc,Jk,FA⟩
    refine DR.of (R:=[(Ic,.cells #[.int .i64 zb,u32 c1,u32 c2] 161 (0,0)),(Ie,.cells #[.int .i64 za,u32 a1,u32 a2] 161 (0,0)),(lQ,.cells #[qw b3 b5 b1 oJ lQ] 361 (0,0)),(b1,.cells #[ptr bq] 344 (0,0))]) (.cons (.cons (.skip (.cons (.skip (.skip (.skip (.skip (aQ.left (A:=[_])))))))))) ?_
    refine Ld.mk (v:=ptr bq) (by exact .tail _ (.tail _ (.tail _ (.head _)))) rfl ?_
    refine Ld.mk (v:=qw b3 b5 b1 oJ lQ) (by exact .tail _ (.tail _ (.head _))) rfl ?_
    refine aa.mk (Ld.mk (v:=u32 a2) (by exact .tail _ (.head _)) rfl ?_)
    refine aa.mk (Ld.mk (v:=u32 c2) (by exact .head _) rfl ?_)
    refine cc.of rfl gK ?_
    refine af.fn (args:=#[u32 a2,u32 c2,ptr b3,ptr b5,ptr b1,ptr oJ,ptr lQ]) (.cons (.cons (.cons .here))) (ih _ (by omega) a2 c2 rfl K1 S1 vE nJ lP C1 Zn ZK ZM la2 lc2 AB Tc (fun g hg=>hU g (Kl g hg))) ?_
    rintro w H ⟨x2,K2,S2,fU,mz,nL,C2,X5,ZJ,ZL,rfl,rfl,jZ,zw,FL,zh⟩
    refine⟨.cons (.cons (.skip (.cons (.skip (.skip (.skip (.skip (aQ.left (A:=[_]))))))))),?_⟩
    have xB:=Jk.trans FL
    have fin:∀(x3:Nat) K3 S3 iq rW wc C3 Aw,uY kp K0 S0 U ord ah K3 S3 iq rW wc C3 Aw→AN K2 S2 fU K3 S3 iq→(Aw=true→X5=true∧S3 x3=jf e S0 a b∧(live K0.N x3∨x3∈iq))→
      ∀q7,q7=(Ic,.cells #[.int .i64 zb,u32 c1,u32 c2] 161 (0,0))::(Ie,.cells #[.int .i64 za,u32 a1,u32 a2] 161 (0,0))::(F3,.cells #[u32 (min a b),u32 (max a b)] 363 (0,0))::Qo e b3 b5 b1 oJ lQ bj bq kp bm Aw ZJ ZL rW wc C3→
      aQ q7 [(Ic,.cells #[.int .i64 zb,u32 c1,u32 c2] 161 (0,0)),(Ie,.cells #[.int .i64 za,u32 a1,u32 a2] 161 (0,0)),(lQ,.cells #[qw b3 b5 b1 oJ lQ] 361 (0,0)),(b1,.cells #[ptr bq] 344 (0,0))]∧
      Ld q7 (ptr oJ) fun AS=>aC 2 q7 (ptr F3) fun uy=>gL Tryz.prog 363 q7 AS uy (u32 x3) fun H79=>aA (TO kp K0 S0 U ord ah e b3 b5 b1 oJ lQ bj bq bm K S made true (jf e S0 a b)) (.returned (u32 x3)) H79:=by
     rintro x3 K3 S3 iq rW wc C3 Aw SX HL BD q7 rfl
     refine⟨.cons (.cons (.skip (.cons (.skip (.skip (.skip (.skip (aQ.left (A:=[_]))))))))),?_⟩
     refine Ld.mk (v:=.map (some bj)) (by exact .tail _ (.tail _ (.tail _ (.tail _ (.head _))))) rfl ?_
     refine aC.whole (r:=[u32 (min a b),u32 (max a b)]) (by exact .tail _ (.tail _ (.head _))) rfl ?_
     obtain⟨m3,QV,Sz⟩:=zw.more jZ HL (fun h=>(BD h).1)
     refine aM.JU (ke:=pk) (k:=(min a b,max a b)) (vr:=JG) (x:=x3) Kx Bg Ob QV rfl fun es' ct he=>⟨_,.tail (.tail (.tail (.tail (.tail (.head _))))),?_⟩
     refine aA.mk (.skip (.skip .tail)) ⟨x3,K3,S3,iq,rW,wc,C3,Aw,es',ct,rfl,rfl,SX,⟨_,he,fun h y hy=>(pe hy).elim (fun e1=>?_) (fun hy=>Sz h y hy)⟩,xB.trans HL,fun h=>⟨rfl,(BD h).2⟩⟩
     rw[e1]
     exact⟨(BD h).2.1.trans (Qn e S0 a b).symm,(BD h).2.2⟩
    cases X5 with
    |false=>
     refine af.rd (args:=#[ptr bq,.int .i64 (v:Int),u32 x1,u32 x2]) (.cons (.cons (.cons (.cons (.cons (.cons (.cons (.cons (.cons .here))))))))) (vq (kp:=kp) (bm:=bm) _ _ _ _) ?_
     rintro w rfl
     exact fin 0 K2 S2 fU mz nL C2 false jZ .refl (fun h=>by cases h) _ rfl
    |true=>
     obtain⟨RK,e2,m2⟩:=zh rfl
     obtain⟨_,e1,m1⟩:=FA RK
     have R4:=AB.sR m1
     have l1:live K2.N x1:=cO FL.N R4
     have l2:=jZ.sR m2
     have Pv:S2 x1=jf e S0 a1 c1:=(FL.fn x1 R4).trans e1
     have dM:=jZ.ks
     have n2:=jZ.cY.n
     have b1':=dM.ok.below dM.od (l:=lv ah v+1) l1 (by omega) (by rw[Pv];exact i1)
     have b2':=dM.ok.below dM.od (l:=lv ah v+1) l2 (by omega) (by rw[e2];exact i2)
     have rB:ite S2 ⟨v,x1,x2⟩=jf e S0 a b:=by
      funext x
      unfold aE.ite
      rw[Pv,e2,eF,eT]
      conv=>rhs;rw[←an.iL x v]
      simp only
      cases x.testBit v<;>rfl
     have gV:x1≠x2→U (ite S2 ⟨v,x1,x2⟩):=fun hx=>by
      have vO:dk (jf e S0 a b) (ord.getD (lv ah v) 0):=by
       rw[Hz]
       refine Classical.byContradiction fun hno=>hx ?_
       refine dM.ok.wf.same dM.ok.lv dM.ok.mid.int l1 l2 fun x=>?_
       rw[Pv,e2,eF,eT]
       exact(cf hno x false).trans (cf hno x true).symm
      rw[rB]
      exact hU _ (mU qp ic vO)
     refine af.fn (args:=#[ptr bq,.int .i64 (v:Int),u32 x1,u32 x2]) (.cons (.cons (.cons (.cons (.cons (.cons (.cons (.cons (.cons .here))))))))) (yH jZ (by rw[n2];exact hv.lt) l1 l2 ⟨by omega,by omega⟩ (by rw[rB];exact hU) gV hf) ?_
     rintro w H ⟨r,K3,S3,iq,rW,wc,C3,Aw,rfl,rfl,SX,HL,BD⟩
     exact fin r K3 S3 iq rW wc C3 Aw SX HL (fun h=>⟨rfl,by rw[(BD h).1,rB],(BD h).2.imp .inl id⟩) _ rfl
   refine ae.kB (Br.dec (fun hh=>?_) (fun hh=>?_))
   ·obtain⟨x1,x2⟩:=gb2 (by omega)
    subst x1;subst x2
    refine aa.mk (St.one (by exact .head _) rfl (by simp) rfl ?_)
    refine aa.mk (St.one (by exact .head _) rfl (by simp) rfl ?_)
    exact JE.mk WT
   ·obtain⟨x1,x2,x3⟩:=gb1 (by omega)
    rw[x2,x3]
    exact JE.mk WT
  refine ae.kB (Br.dec (fun hh=>?_) (fun hh=>?_))
  ·obtain⟨x1,x2⟩:=ga2 (by omega)
   subst x1;subst x2
   refine aa.mk (St.one (by exact .tail (.head _)) rfl (by simp) rfl ?_)
   refine aa.mk (St.one (by exact .tail (.head _)) rfl (by simp) rfl ?_)
   exact JE.mk WU
  ·obtain⟨x1,x2,x3⟩:=ga1 (by omega)
   rw[x2,x3]
   exact JE.mk WU
 refine ae.eA (Br.dec (fun hh=>?_) (fun hh=>?_))
 ·obtain⟨x1,x2,x3⟩:=gb1 (by omega)
  refine aa.mk (Ld.mk (v:=.int .i64 zb) (by exact .head _) rfl ?_)
  subst x1
  exact JE.mk WV
 ·obtain⟨x1,x2,x3⟩:=ga1 (by omega)
  subst x1
  exact JE.mk WV
end
theorem Le{N:eu}{S:Nat→aE.Fn}{n:Nat}{dL:Nat→Nat}{ord:List Nat}(h:WF n dL N)(hl:j8 n dL)(hi:Interp N S)(ho:aE.Ord n dL ord){r:Nat}(hr:live N r){l:Nat}(Lo:l≤n)(hle:l≤dep n dL N r):∀j,j<l→¬dk (S r) (ord.getD j 0):=by
 rintro j hj ⟨x,hx⟩
 apply hx
 obtain⟨o1,o2⟩:=ho.kC j (by omega)
 rw[h.ca hl hi hr o1 (by omega) x false,h.ca hl hi hr o1 (by omega) x true]
section
variable {kp bq bm:Nat} {K0:Kd} {S0:Nat→aE.Fn} {U:aE.Fn→Prop} {ord ah:List Nat}
def PX(kp:Nat)(K0:Kd)(S0:Nat→aE.Fn)(U:aE.Fn→Prop)(ord ah:List Nat)(bq bm:Nat)(LB:Hp)(K:Kd)(S:Nat→aE.Fn)(made:List Nat)(f:aE.Fn)(w:Value)(H:Hp):Prop:=
 ∃x K' S' made' es' ct C' lG,w=u32 x∧H=LB++rN bq kp bm lG es' ct C'∧uY kp K0 S0 U ord ah K' S' made' es' ct C' lG∧AN K S made K' S' made'∧(lG=true→S' x=f∧(live K0.N x∨x∈made'))
theorem OA{e:Bool}(jK:WF K0.n (lv ah) K0.N)(nH:Interp K0.N S0)(iN:j8 K0.n (lv ah))(jD:aE.Ord K0.n (lv ah) ord)(hf:∀s,K0.hold s+1<65535){a b:Nat}{K:Kd}{S:Nat→aE.Fn}{made:List Nat}{es:Array MapEntry}{ck:Nat}{C:Hp}
 (ha:live K0.N a)(hb:live K0.N b)(hS:uY kp K0 S0 U ord ah K S made es ck C true)(hU:∀g,aO K0.n ord (fun g=>g=jf e S0 a b) g→U g):
  Fc Tryz.prog 283 #[ptr bq,u32 a,u32 b,.bool e] (rN bq kp bm true es ck C) (PX kp K0 S0 U ord ah bq bm [] K S made (jf e S0 a b)):=by
 intro g
 refine CB (R:=aA _) ?_
 unfold L283
 intro b1 _ b3 _ b5 _
 refine St.one (by exact .tail (.head _)) rfl (by simp) rfl ?_
 refine St.one (by exact .head _) rfl (by simp) rfl ?_
 have gK:bB Tryz.prog 288=true:=by kernel_rfl
 intro J hJ
 have BL:J [] ((b5,.cells #[u32 (!e).toNat] 77 (0,0))::(b3,.cells #[u32 e.toNat] 77 (0,0))::(b1,.cells #[ptr bq] 344 (0,0))::rN bq kp bm true es ck C):=by
  refine hJ _ fun gs=>?_
  intro bj _ oJ _
  refine St.one (by exact .head _) rfl (by simp) rfl ?_
  intro lQ _
  refine St.one (by exact .head _) rfl (by simp) rfl ?_
  refine Ld.mk (v:=qw b3 b5 b1 oJ lQ) (by exact .head _) rfl ?_
  refine cc.of rfl gK ?_
  refine af.fn (args:=#[u32 a,u32 b,ptr b3,ptr b5,ptr b1,ptr oJ,ptr lQ]) .here (KY (e:=e) gK jK nH iN jD hf _ a b rfl K S made es ck C true #[] 0 ha hb hS ⟨[],aM.empty,fun _ y hy=>by cases hy⟩ hU) ?_
  rintro w H ⟨x,K',S',made',es',ct,C',lG,Sb,Sc,rfl,rfl,O2,_,hA,ho⟩
  exact aA.mk (.skip (.skip (.skip (.skip (.skip .tail))))) ⟨x,K',S',made',es',ct,C',lG,rfl,rfl,O2,hA,fun h=>(ho h).2⟩
 cases e with
 |true=>
  refine Br.yes ?_
  refine St.one (by exact .tail (.head _)) rfl (by simp) rfl ?_
  refine St.one (by exact .head _) rfl (by simp) rfl ?_
  exact JE.mk BL
 |false=>exact Br.no (JE.mk BL)
def Gf(kp:Nat)(K0:Kd)(S0:Nat→aE.Fn)(U:aE.Fn→Prop)(ord ah:List Nat)(bq bm:Nat)(t:Bool→Bool→Bool)(v:Nat)(fv:Value)(LB:Hp):Prop:=
 ∃f first cap,fv=.func (.func f) first cap∧bB Tryz.prog f=true∧∀(r:Nat) (d:Nd),K0.N r=some d→d.v=v→∀K S made es ck C,uY kp K0 S0 U ord ah K S made es ck C true→(∀g,aO K0.n ord (fun g=>g=QF t v (S0 r)) g→U g)→
  Fc Tryz.prog f (first++ #[.agg (aP d).toArray]++cap) (LB++rN bq kp bm true es ck C) (PX kp K0 S0 U ord ah bq bm LB K S made (QF t v (S0 r)))
def tx(b1 eY oI b3 qA:Nat):Value:=.func (.func 278) #[] #[ptr b1,ptr eY,ptr oI,ptr b3,ptr qA]
def T5(K0:Kd)(F:Nat→aE.Fn)(S:Nat→aE.Fn)(made:List Nat)(ok:Bool)(es:Array MapEntry)(ck:Nat):Prop:=
 ∃m:List (Nat×Nat),aM (kN .u32) JG es ck m∧(ok=true→∀y∈m,S y.2=F y.1∧(live K0.N y.2∨y.2∈made))
theorem T5.more{F:Nat→aE.Fn}{K K':Kd}{S S':Nat→aE.Fn}{made made':List Nat}{es uh:Array MapEntry}{ck uj:Nat}{C:Hp}{ok lG:Bool}(hq:uY kp K0 S0 U ord ah K S made es ck C ok)(h:T5 K0 F S made ok uh uj)(ha:AN K S made K' S' made')(hok:lG=true→ok=true):T5 K0 F S' made' lG uh uj:=by
 obtain⟨m,h1,h2⟩:=h
 refine⟨m,h1,fun h y hy=>?_⟩
 obtain⟨a,b⟩:=h2 (hok h) y hy
 exact⟨by rw[ha.fn _ (hq.sR b),a],b.imp id (ha.mem _)⟩
abbrev YD(b1 b3 eY oI qA bd lvl:Nat)(fv:Value)(LB:Hp)(bq kp bm:Nat)(ok:Bool)(Jm:Array MapEntry)(Jn:Nat)(es:Array MapEntry)(ck:Nat)(C:Hp):Hp:=
 (qA,.cells #[tx b1 eY oI b3 qA] 352 (0,0))::(oI,.cells #[.map (some bd)] 351 (0,0))::(bd,.map Jm Jn)::(eY,.cells #[.int .i64 (lvl:Int)] 3 (0,0))::(b3,.cells #[fv] 289 (0,0))::(b1,.cells #[ptr bq] 344 (0,0))::(LB++rN bq kp bm ok es ck C)
def acU(kp:Nat)(K0:Kd)(S0:Nat→aE.Fn)(U:aE.Fn→Prop)(ord ah:List Nat)(t:Bool→Bool→Bool)(v b1 b3 eY oI qA bd:Nat)(fv:Value)(LB:Hp)(bq bm:Nat)(K:Kd)(S:Nat→aE.Fn)(made:List Nat)(ok:Bool)(f:aE.Fn)(w:Value)(H:Hp):Prop:=
 ∃x K' S' made' es' ct C' lG Tu Tw,w=u32 x∧H=YD b1 b3 eY oI qA bd (lv ah v) fv LB bq kp bm lG Tu Tw es' ct C'∧uY kp K0 S0 U ord ah K' S' made' es' ct C' lG∧T5 K0 (fun r=>QF t v (S0 r)) S' made' lG Tu Tw∧AN K S made K' S' made'∧
  (lG=true→ok=true∧S' x=f∧(live K0.N x∨x∈made'))
variable {b1 b3 eY oI qA bd:Nat} {fv:Value} {LB:Hp} {t:Bool→Bool→Bool} {v:Nat}
set_option maxHeartbeats 2000000 in
theorem Mi(gK:bB Tryz.prog 278=true)(Yz:Gf kp K0 S0 U ord ah bq bm t v fv LB)(ht:∀a,t a a=a)(hv:v<K0.n)(jK:WF K0.n (lv ah) K0.N)(nH:Interp K0.N S0)(iN:j8 K0.n (lv ah))(jD:aE.Ord K0.n (lv ah) ord)(hf:∀s,K0.hold s+1<65535):
  ∀(k r:Nat),K0.n-dep K0.n (lv ah) K0.N r=k→∀(K:Kd) (S:Nat→aE.Fn) (made:List Nat) (es:Array MapEntry) (ck:Nat) (C:Hp) (ok:Bool) (Jm:Array MapEntry) (Jn:Nat),
  live K0.N r→uY kp K0 S0 U ord ah K S made es ck C ok→T5 K0 (fun r=>QF t v (S0 r)) S made ok Jm Jn→(∀g,aO K0.n ord (fun g=>g=QF t v (S0 r)) g→U g)→
  Fc Tryz.prog 278 #[u32 r,ptr b1,ptr eY,ptr oI,ptr b3,ptr qA] (YD b1 b3 eY oI qA bd (lv ah v) fv LB bq kp bm ok Jm Jn es ck C) (acU kp K0 S0 U ord ah t v b1 b3 eY oI qA bd fv LB bq bm K S made ok (QF t v (S0 r))):=by
 have hc0:∀r,r<2→K0.N r=none:=fun r hr=>jK.const hr
 intro k
 induction k using Nat.strongRecOn with
 |ind k ih=>
 intro r hk K S made es ck C ok Jm Jn hr hS hD hU g
 have hK:=hS.ks
 have FG:∀r,r<2→K.N r=none:=fun r hr=>hK.ok.wf.const hr
 have eN:=hS.cY.n
 have lr:=hS.cY.live hr
 refine CG (R:=aA _) ?_
 unfold L278
 refine Ld.mk (v:=ptr bq) (by exact .tail _ (.tail _ (.tail _ (.tail _ (.tail _ (.head _)))))) rfl ?_
 refine af.rd (.cons (.cons (.cons (.cons (.cons (.cons (.app .here))))))) (Bc (bm:=bm) (ok:=ok) (es:=es) (ck:=ck) hK lr) ?_
 rintro w rfl
 refine Ext.mk rfl (Ext.mk rfl ?_)
 intro b6 _
 refine St.whole (r:=got K.N r) (by exact .head _) rfl (aG _ _).1 (aG _ _).2 ?_
 rw[mr hS.cY.N hc0 FG hr,eN,tt hS.cY.N FG hc0 hr]
 refine Ld.mk (v:=.int .i64 ((lv ah v:Nat):Int)) (by exact .tail _ (.tail _ (.tail _ (.tail _ (.head _))))) rfl ?_
 refine ae.kB ?_
 refine bT.or (!ok) (fun _=>?_) (by simp) fun gs=>?_
 ·refine Ld.mk (v:=ptr bq) (by exact .tail _ (.tail _ (.tail _ (.tail _ (.tail _ (.tail _ (.head _))))))) rfl ?_
  refine Nil.ptr (aa.mk (Ld.mk (v:=.int .i64 (if ok then 0 else 9)) (by exact .tail _ (.tail _ (.tail _ (.tail _ (.tail _ (.tail _ (.tail _ (List.mem_append_right _ (.head _))))))))) rfl ?_))
  exact ae.dO ⟨rfl,by cases ok<;>rfl⟩
 refine Br.mk (fun hb=>?_) (fun hb=>?_)
 ·-- deeper, or an error before
  refine aA.mk .tail ⟨r,K,S,made,es,ck,C,ok,Jm,Jn,rfl,rfl,hS,hD,.refl,fun h=>⟨h,?_,.inl hr⟩⟩
  rw[h]at hb
  simp only[Bool.not_true,Bool.or_false,decide_eq_true_eq]at hb
  rw[hS.cY.fn r hr]
  refine(PY ht ?_).symm
  rintro⟨x,hx⟩
  apply hx
  rw[jK.ca iN nH hr hv hb x false,jK.ca iN nH hr hv hb x true]
 simp only[Bool.or_eq_false_iff,decide_eq_false_iff_not,Bool.not_eq_false',Nat.not_lt]at hb
 obtain⟨xx,rfl⟩:=hb
 obtain⟨m,hE,hkn⟩:=hD
 refine Ld.mk (v:=.map (some bd)) (by exact .tail _ (.tail _ (.head _))) rfl ?_
 have uP:(bd,Obj.map Jm Jn)∈(b6,Obj.cells (got K0.N r).toArray 161 (0,0))::YD b1 b3 eY oI qA bd (lv ah v) fv LB bq kp bm true Jm Jn es ck C:=.tail _ (.tail _ (.tail _ (.head _)))
 have hlv:=iN.lt v hv
 obtain⟨d,hd⟩:∃d,K0.N r=some d:=by
  cases e:K0.N r with
  |none=>rw[aU e]at xx;omega
  |some d=>exact⟨d,rfl⟩
 have ed:=ay (n:=K0.n) (ah:=lv ah) hd
 have h2:=jK.two hd
 have nT:=jK.var hd
 cases hg:c9 m r with
 |some x=>
  refine aM.hit (k:=r) iD hE uP hg ?_
  rintro w rfl
  obtain⟨g1,g2⟩:=hkn rfl _ ((fT hE.nd).1 hg)
  refine Ext.mk rfl (Ext.mk rfl (Br.yes ?_))
  exact aA.mk .tail ⟨x,K,S,made,es,ck,C,true,Jm,Jn,rfl,rfl,hS,⟨m,hE,hkn⟩,.refl,fun h=>⟨h,g1,g2⟩⟩
 |none=>
 refine aM.bK (k:=r) iD hE uP hg ?_
 refine Ext.mk rfl (Ext.mk rfl (Br.no ?_))
 rw[df hd h2]
 intro J hJ
 have fin:∀(x3:Nat) K3 S3 iq rW wc C3 Aw Tt Tv,uY kp K0 S0 U ord ah K3 S3 iq rW wc C3 Aw→T5 K0 (fun r=>QF t v (S0 r)) S3 iq Aw Tt Tv→AN K S made K3 S3 iq→(Aw=true→S3 x3=QF t v (S0 r)∧(live K0.N x3∨x3∈iq))→
   J [u32 x3] ((b6,.cells (aP d).toArray 161 (0,0))::YD b1 b3 eY oI qA bd (lv ah v) fv LB bq kp bm Aw Tt Tv rW wc C3):=by
  intro x3 K3 S3 iq rW wc C3 Aw Tt Tv SX hD3 HL BD
  refine hJ _ _ fun gs=>?_
  refine Ld.mk (v:=.map (some bd)) (by exact .tail _ (.tail _ (.head _))) rfl ?_
  obtain⟨m3,QV,Sz⟩:=hD3
  refine aM.bY (k:=r) (x:=x3) iD Fw QV rfl fun es' ct he=>⟨_,.tail (.tail (.tail (.head _))),?_⟩
  refine aA.mk .tail ⟨x3,K3,S3,iq,rW,wc,C3,Aw,es',ct,rfl,rfl,SX,⟨_,he,fun h y hy=>(pe hy).elim (fun e1=>?_) (fun hy=>Sz h y hy)⟩,HL,fun h=>⟨rfl,BD h⟩⟩
  rw[e1];exact BD h
 have hD0:T5 K0 (fun r=>QF t v (S0 r)) S made true Jm Jn:=⟨m,hE,hkn⟩
 refine Ld.mk (v:=.int .i64 ((lv ah v:Nat):Int)) (by exact .tail _ (.tail _ (.tail _ (.tail _ (.head _))))) rfl ?_
 refine ae.eB (Br.dec (fun hl=>?_) (fun hl=>?_))
 ·-- at the variable
  have ev:d.v=v:=iN.inj _ _ nT hv (by omega)
  obtain⟨f,first,cap,rfl,OU,VX⟩:=Yz
  refine Ld.mk (v:=.func (.func f) first cap) (by exact .tail _ (.tail _ (.tail _ (.tail _ (.tail _ (.head _)))))) rfl ?_
  refine aC.whole (r:=aP d) (by exact .head _) rfl ?_
  refine cc.of rfl OU ?_
  refine af.fn (C:=LB++rN bq kp bm true es ck C) (.cons (.cons (.cons (.cons (.cons (.cons (.cons .here))))))) (VX r d hd ev K S made es ck C hS hU) ?_
  rintro w H ⟨x,K',S',made',es',ct,C',lG,rfl,rfl,O2,hA,ho⟩
  exact JE.mk (fin x K' S' made' es' ct C' lG Jm Jn O2 (hD0.more hS hA (fun _=>rfl)) hA ho)
 ·-- above it
  have aam:lv ah d.v<lv ah v:=by omega
  have hne:d.v≠v:=fun e=>by rw[e]at aam;omega
  obtain⟨g1,g2,g3⟩:=iG (S:=S0) jK iN nH hr nT (by omega) false
  obtain⟨t1,t2,t3⟩:=iG (S:=S0) jK iN nH hr nT (by omega) true
  obtain⟨q1,q2⟩:=rZ (N:=K0.N) hd
  rw[q1]at g1 g2 g3
  rw[q2]at t1 t2 t3
  have ic:=iN.lt d.v nT
  have Hz:=jD.of iN nT
  have qp:∀j,j<lv ah d.v→¬dk (QF t v (S0 r)) (ord.getD j 0):=fun j hj=>MP (Le jK iN nH jD hr (Nat.le_of_lt ic) (by omega) j hj)
  have eF:QF t v (S0 d.lo)=fun x=>QF t v (S0 r) (an.az x d.v false):=by rw[←MR hne];congr 1;exact funext g1
  have eT:QF t v (S0 d.hi)=fun x=>QF t v (S0 r) (an.az x d.v true):=by rw[←MR hne];congr 1;exact funext t1
  obtain⟨i1,Km⟩:=iK (n:=K0.n) (ord:=ord) (c:=QF t v (S0 d.lo)) qp (b:=false) (by rw[Hz];exact eF)
  obtain⟨i2,Kl⟩:=iK (n:=K0.n) (ord:=ord) (c:=QF t v (S0 d.hi)) qp (b:=true) (by rw[Hz];exact eT)
  refine Ld.mk (v:=tx b1 eY oI b3 qA) (by exact .tail _ (.head _)) rfl ?_
  refine aa.mk (Ld.mk (v:=u32 d.lo) (by exact .head _) rfl ?_)
  refine cc.of rfl gK ?_
  refine af.fn (args:=#[u32 d.lo,ptr b1,ptr eY,ptr oI,ptr b3,ptr qA]) (.cons .here) (ih _ (by omega) d.lo rfl K S made es ck C true Jm Jn g2 hS hD0 (fun g hg=>hU g (Km g hg))) ?_
  rintro w H ⟨x1,K1,S1,vE,nJ,lP,C1,Zn,abI,abK,rfl,rfl,AB,hD1,Jk,FA⟩
  refine DR.of (R:=[(b6,.cells (aP d).toArray 161 (0,0)),(qA,.cells #[tx b1 eY oI b3 qA] 352 (0,0)),(b1,.cells #[ptr bq] 344 (0,0))]) (.cons (.cons (.skip (.skip (.skip (.skip (aQ.left (A:=[_])))))))) ?_
  refine Ld.mk (v:=ptr bq) (by exact .tail _ (.tail _ (.head _))) rfl ?_
  refine aa.mk (Ld.mk (v:=.int .i64 (d.v:Int)) (by exact .head _) rfl ?_)
  refine Ld.mk (v:=tx b1 eY oI b3 qA) (by exact .tail _ (.head _)) rfl ?_
  refine aa.mk (Ld.mk (v:=u32 d.hi) (by exact .head _) rfl ?_)
  refine cc.of rfl gK ?_
  refine af.fn (args:=#[u32 d.hi,ptr b1,ptr eY,ptr oI,ptr b3,ptr qA]) (.cons .here) (ih _ (by omega) d.hi rfl K1 S1 vE nJ lP C1 Zn abI abK t2 AB hD1 (fun g hg=>hU g (Kl g hg))) ?_
  rintro w H ⟨x2,K2,S2,fU,mz,nL,C2,X5,W6,W8,rfl,rfl,jZ,hD2,FL,zh⟩
  refine⟨.cons (.cons (.skip (.skip (.skip (.skip (aQ.left (A:=[_]))))))),?_⟩
  have xB:=Jk.trans FL
  cases X5 with
  |false=>
   refine af.rd (args:=#[ptr bq,.int .i64 (d.v:Int),u32 x1,u32 x2]) (.cons (.cons (.cons (.cons (.cons (.cons (.cons (.app .here)))))))) (vq (kp:=kp) (bm:=bm) _ _ _ _) ?_
   rintro w rfl
   refine⟨.cons (.cons (.skip (.skip (.skip (.skip (aQ.left (A:=[_]))))))),?_⟩
   exact JE.mk (fin 0 K2 S2 fU mz nL C2 false W6 W8 jZ hD2 xB (fun h=>by cases h))
  |true=>
   obtain⟨RK,e2,m2⟩:=zh rfl
   obtain⟨_,e1,m1⟩:=FA RK
   have R4:=AB.sR m1
   have l1:live K2.N x1:=cO FL.N R4
   have l2:=jZ.sR m2
   have Pv:S2 x1=QF t v (S0 d.lo):=(FL.fn x1 R4).trans e1
   have dM:=jZ.ks
   have n2:=jZ.cY.n
   have b1':=dM.ok.below dM.od (l:=lv ah d.v+1) l1 (by omega) (by rw[Pv];exact i1)
   have b2':=dM.ok.below dM.od (l:=lv ah d.v+1) l2 (by omega) (by rw[e2];exact i2)
   have rB:ite S2 ⟨d.v,x1,x2⟩=QF t v (S0 r):=by
    funext x
    unfold aE.ite
    rw[Pv,e2,eF,eT]
    conv=>rhs;rw[←an.iL x d.v]
    simp only
    cases x.testBit d.v<;>rfl
   have gV:x1≠x2→U (ite S2 ⟨d.v,x1,x2⟩):=fun hx=>by
    have vO:dk (QF t v (S0 r)) (ord.getD (lv ah d.v) 0):=by
     rw[Hz]
     refine Classical.byContradiction fun hno=>hx ?_
     refine dM.ok.wf.same dM.ok.lv dM.ok.mid.int l1 l2 fun x=>?_
     rw[Pv,e2,eF,eT]
     exact(cf hno x false).trans (cf hno x true).symm
    rw[rB]
    exact hU _ (mU qp ic vO)
   refine af.fn (args:=#[ptr bq,.int .i64 (d.v:Int),u32 x1,u32 x2]) (.cons (.cons (.cons (.cons (.cons (.cons (.cons (.app .here)))))))) (yH jZ (by rw[n2];exact nT) l1 l2 ⟨by omega,by omega⟩ (by rw[rB];exact hU) gV hf) ?_
   rintro w H ⟨r3,K3,S3,iq,rW,wc,C3,Aw,rfl,rfl,SX,HL,BD⟩
   refine⟨.cons (.cons (.skip (.skip (.skip (.skip (aQ.left (A:=[_]))))))),?_⟩
   exact JE.mk (fin r3 K3 S3 iq rW wc C3 Aw W6 W8 SX (hD2.more jZ HL (fun _=>rfl)) (xB.trans HL) (fun h=>⟨by rw[(BD h).1,rB],(BD h).2.imp .inl id⟩))
end
def RS(es:Array MapEntry)(l:List Nat):List Value→Hp→Nat:=fun _ H=>match H with
 |(_,.mapIter _ _ seen _)::_=>(cG es (ya l) seen).length
 |_=>0
structure Let(K K':Kd)(l:List Nat):Prop where
 n:K'.n=K.n
 cap:K'.cap=K.cap
 N:∀s d,K'.N s=some d→K.N s=some d
 hold:∀s,K'.hold s+l.count s=K.hold s
section
variable {kp bq bm:Nat} {K0:Kd} {S0:Nat→aE.Fn} {U:aE.Fn→Prop} {ord ah:List Nat}
theorem Ff{g:Gh}{K:Kd}{S:Nat→aE.Fn}{l:List Nat}{es:Array MapEntry}{ck b9 b1:Nat}{ok:Bool}{C LB:Hp}(hK:cK kp K S ord ah [] C)(hE:aM (kN .u32) YV es ck (ya l))(hc:∀s,l.count s≤K.hold s)(h2:∀s∈l,2≤s)(O8:∀s∈l,s<4294967296){Kc:Hp→Prop}
 (hk:∀K' C' bi it,cK kp K' S ord ah [] C'→Let K K' l→Kc ((bi,it)::(b9,.cells #[ptr bq] 344 (0,0))::(b1,.cells #[ptr kp] 26 (0,0))::(LB++rN bq kp bm ok es ck C'))):
  kx Tryz.prog g 277 #[ptr b9,ptr b1] ((b9,.cells #[ptr bq] 344 (0,0))::(b1,.cells #[ptr kp] 26 (0,0))::(LB++rN bq kp bm ok es ck C)) Kc:=by
 refine Ak (R:=_) ?_
 unfold L277
 refine Ld.mk (v:=ptr bq) (by exact .head _) rfl ?_
 refine Nil.ptr (aa.mk (Ld.mk (v:=.map (some bm)) (by exact .tail _ (.tail _ (List.mem_append_right _ (.head _)))) rfl ?_))
 refine .inr ⟨bm,es,ck,rfl,.tail _ (.tail _ (List.mem_append_right _ (.tail _ (.head _)))),fun bi _=>?_⟩
 refine⟨fun _ H=>∃(done:List Nat) (K':Kd) (C':Hp) (seen:Array Nat),H=(bi,.mapIter (some bm) ck seen ck)::(b9,.cells #[ptr bq] 344 (0,0))::(b1,.cells #[ptr kp] 26 (0,0))::(LB++rN bq kp bm ok es ck C')∧
   cK kp K' S ord ah [] C'∧Let K K' done∧(done++(cG es (ya l) seen).map Prod.fst).Perm l,RS es l,JE.mk ⟨[],K,C,#[],rfl,hK,⟨rfl,rfl,fun _ _ h=>h,fun s=>by simp⟩,by rw[oa hE,pg];exact .refl _⟩,?_⟩
 rintro H ⟨done,K',C',seen,rfl,iO,hl,hp⟩ gs
 refine aM.next (bi:=bi) (bm:=bm) (seen:=seen) hE (.tail _ (.tail _ (.tail _ (List.mem_append_right _ (.tail _ (.head _)))))) (.head _) (fun e x seen' he hkey hv Ui Yr hfi=>⟨_,.head _,?_⟩) (fun hu=>?_)
 ·refine Ext.mk rfl (Br.yes ?_)
  refine⟨bi,bm,ck,seen',e.born,ck,es,e,rfl,.head _,Yr,.tail _ (.tail _ (.tail _ (List.mem_append_right _ (.tail _ (.head _))))),hfi,?_⟩
  refine Ext.mk rfl ?_
  refine Ld.mk (v:=ptr kp) (by exact .tail _ (.tail _ (.head _))) rfl ?_
  have Yb:x.1∈l:=by
   refine hp.mem_iff.1 (List.mem_append_right _ ?_)
   exact List.mem_map_of_mem (Ui.mem_iff.2 (.head _))
  have FE:done.count x.1+1≤l.count x.1:=by
   rw[←hp.count_eq,List.count_append,(Ui.map Prod.fst).count_eq,List.map_cons,List.count_cons_self];omega
  have hhx:K'.hold x.1≠0:=by
   have a:=hl.hold x.1
   have b:=hc x.1
   omega
  show af Tryz.prog g 131 #[ptr kp,e.key] _ _ _
  rw[hkey]
  refine af.fn (args:=#[ptr kp,u32 x.1]) (.cons (.cons (.cons (.app (.cons (.cons .here)))))) (pJ iO (r:=x.1) (O8 _ Yb) (fun _=>hhx)) ?_
  rintro w C2 ⟨rfl,K2,dM,f2⟩
  refine aD.mk ⟨done++[x.1],K2,C2,seen',rfl,dM,⟨f2.n.trans hl.n,f2.cap.trans hl.cap,fun s d hd=>hl.N s d (f2.N s d hd),fun s=>?_⟩,?_⟩ ?_
  ·have a:=hl.hold s
   rw[f2.hold,List.count_append,List.count_singleton]
   by_cases e1:s=x.1
   ·subst e1
    have:=h2 _ Yb
    simp[this];omega
   ·have:(x.1==s)=false:=by simpa using fun e'=>e1 e'.symm
    simp[e1,this];exact a
  ·refine .trans ?_ hp
   rw[List.append_assoc]
   refine List.Perm.append_left _ ?_
   exact(Ui.map Prod.fst).symm
  ·show(cG es (ya l) seen').length<(cG es (ya l) seen).length
   rw[Ui.length_eq,List.length_cons];omega
 ·refine Ext.mk rfl (Br.no ?_)
  rw[hu,List.map_nil,List.append_nil]at hp
  refine⟨⟨_,rfl⟩,hk K' C' bi _ iO ⟨hl.n,hl.cap,hl.N,fun s=>?_⟩⟩
  rw[←hp.count_eq];exact hl.hold s
end
section
variable {kp:Nat} {K:Kd} {S:Nat→aE.Fn} {ord ah tr:List Nat} {C:Hp}
theorem Vb{α:Type}(a x y b:α)(L R:List α):(a::x::y::b::(L++R)).Perm (a::b::(L++x::y::R)):=by
 classical
 rw[List.perm_iff_count];intro z
 simp only[List.count_append,List.count_cons]
 omega
theorem Hg{made:List Nat}{x:Nat}:oA (ya made) x=ya (made.filter fun r=>decide (¬r=x)):=by
 unfold oA ya
 induction made with
 |nil=>rfl
 |cons a l ih=>
  simp only[List.map_cons,List.filter_cons]
  by_cases h:a=x
  ·simp[h]at ih⊢;exact ih
  ·simp[h]at ih⊢;exact ih
def gF(kp:Nat)(K:Kd)(S:Nat→aE.Fn)(ord ah:List Nat)(LB:Hp)(f:aE.Fn)(w:Value)(H:Hp):Prop:=
 (∃x K' S' C',w=.tuple #[u32 x,.bool true,.int .i64 0]∧H=LB++C'∧cK kp K' S' ord ah [] C'∧pU K S K' S' f x)∨
 (w=.tuple #[u32 0,.bool false,.int .i64 9]∧(∃K' S' C',H=LB++C'∧cK kp K' S' ord ah [] C'∧Kept K S K' S')∧¬Fits (aO K.n ord (fun g=>K.held S g∨g=f)) K.cap)
theorem Fe(hK:cK kp K S ord ah tr C){f:aE.Fn}{LB:Hp}{fb:Value}(hf:∀s,K.hold s+1<65535)
 (hb:∀K1 C1,cK kp K1 S ord ah [] C1→PZ K K1 1→∃ff first cap,fb=.func (.func ff) first cap∧bB Tryz.prog ff=true∧∀bq bm,uY kp K1 S (aO K.n ord (fun g=>K.held S g∨g=f)) ord ah K1 S [] #[] 0 C1 true→
   Fc Tryz.prog ff (first++ #[ptr bq]++cap) (LB++rN bq kp bm true #[] 0 C1) (PX kp K1 S (aO K.n ord (fun g=>K.held S g∨g=f)) ord ah bq bm LB K1 S [] f)):
  Fc Tryz.prog 268 #[ptr kp,fb] (LB++C) (gF kp K S ord ah LB f):=by
 intro g
 refine CX (R:=aA _) ?_
 unfold L268
 intro b1 _
 refine Ld.mk (v:=ptr kp) (by exact .head _) rfl ?_
 intro bm _
 refine Build.mk (cs:=[ptr kp,.map (some bm),.int .i64 0]) (by kernel_rfl) ?_
 intro bq _ b9 _
 refine St.one (by exact .head _) rfl (by simp) rfl ?_
 refine Ld.mk (v:=ptr kp) (by exact .tail _ (.tail _ (.tail _ (.head _)))) rfl ?_
 refine af.fn (args:=#[ptr kp,u32 1]) (.cons (.cons (.cons (.cons (.app .here))))) (pz hK (r:=1) (.inl (by omega)) (fun h=>by omega)) ?_
 rintro w C1 ⟨rfl,K1,fp,mo⟩
 have fI:∀s,K1.hold s=K.hold s:=fun s=>by rw[mo.hold,if_neg (by omega)]
 have Wf:∀g,K1.held S g→K.held S g:=by
  rintro g ⟨s,hs,rfl⟩
  exact⟨s,by have:K1.hold s≠0:=hs;rwa [fI]at this,rfl⟩
 obtain⟨ff,first,cap,rfl,OU,hbody⟩:=hb K1 C1 fp mo
 refine Ld.mk (v:=ptr bq) (by exact .head _) rfl ?_
 refine cc.of rfl OU ?_
 refine af.pre (H':=(b9,.cells #[ptr bq] 344 (0,0))::(b1,.cells #[ptr kp] 26 (0,0))::(LB++rN bq kp bm true #[] 0 C1)) (.perm (Vb _ _ _ _ _ _)) ?_
 have Nq:uY kp K1 S (aO K.n ord (fun g=>K.held S g∨g=f)) ord ah K1 S [] #[] 0 C1 true:=⟨fp,.refl fun g hg=>by rw[mo.n]at hg;exact bU (fun g h=>.inl (Wf g h)) hg,aM.empty,fun h=>by cases h⟩
 refine af.fn (C:=LB++rN bq kp bm true #[] 0 C1) (.cons (.cons .here)) (hbody bq bm Nq) ?_
 rintro w H ⟨x,K2,S2,made,es,ck,C2,ok,rfl,rfl,jZ,hA,ho⟩
 have dM:=jZ.ks
 have ni:=jZ.cY
 have g7:=jZ.nd
 have HH:∀s,made.count s≤K2.hold s:=fun s=>by rw[ni.hold];omega
 have O8:∀s∈made,s<4294967296:=fun s hs=>by have:=dM.bZ (ni.gC dM hs);omega
 have FB:∀s,K.hold s≠0→live K.N s:=fun s hs=>.inr (hK.ok.mid.held s hs)
 have aa2:∀s d,K.N s=some d→K2.N s=some d:=fun s d hd=>ni.N s d (by rw[mo.N];exact hd)
 have hfn:∀s,live K.N s→S2 s=S s:=fun s hs=>ni.fn s (by rw[mo.N];exact hs)
 refine Ld.mk (v:=ptr bq) (by exact .head _) rfl ?_
 refine Nil.ptr (aa.mk (Ld.mk (v:=.int .i64 (if ok then 0 else 9)) (by exact .tail _ (.tail _ (List.mem_append_right _ (.head _)))) rfl ?_))
 cases ok with
 |false=>
  refine ae.dO (Br.fc (by decide) ?_)
  refine Ld.mk (v:=ptr bq) (by exact .head _) rfl ?_
  refine Nil.ptr (aa.mk (Ld.mk (v:=.int .i64 9) (by exact .tail _ (.tail _ (List.mem_append_right _ (.head _)))) rfl ?_))
  refine Ff dM jZ.jb HH ni.two O8 fun K3 C3 bi it nG hl=>?_
  have jY:∀s,K3.hold s=K.hold s:=fun s=>by
   have a:=hl.hold s
   have b:=ni.hold s
   rw[fI]at b
   omega
  refine aA.mk (.skip (.skip (.skip (.dr (.skip .tail) _)))) (.inr ⟨rfl,⟨K3,S2,C3,rfl,nG,⟨by rw[hl.n,ni.n,mo.n],by rw[hl.cap,ni.cap,mo.cap],jY,fun g=>?_,fun r hr=>hfn r (FB r hr)⟩⟩,?_⟩)
  ·constructor
   ·rintro⟨s,hs,rfl⟩
    have hs':K.hold s≠0:=by rw[←jY];exact hs
    exact⟨s,hs',hfn s (FB s hs')⟩
   ·rintro⟨s,hs,rfl⟩
    exact⟨s,by show K3.hold s≠0;rw[jY];exact hs,(hfn s (FB s hs)).symm⟩
  ·have:=jZ.bad rfl
   rw[mo.cap]at this;exact this
 |true=>
  obtain⟨hx,Vt⟩:=ho rfl
  refine ae.dO (Br.bt (by decide) ?_)
  refine Ld.mk (v:=ptr bq) (by exact .head _) rfl ?_
  refine Nil.ptr (aa.mk (Ld.mk (v:=.map (some bm)) (by exact .tail _ (.tail _ (List.mem_append_right _ (.head _)))) rfl ?_))
  have fin:∀(K3:Kd) (l:List Nat) (rW:Array MapEntry) (C3:Hp),cK kp K3 S2 ord ah [] C3→(∀s d,K3.N s=some d→K2.N s=some d)→K3.n=K2.n→K3.cap=K2.cap→aM (kN .u32) YV rW ck (ya l)→(∀s∈l,s∈made)→(∀s,K3.hold s=K.hold s+l.count s+if s=x∧2≤x then 1 else 0)→
    kx Tryz.prog g 277 #[ptr b9,ptr b1] ((b9,.cells #[ptr bq] 344 (0,0))::(b1,.cells #[ptr kp] 26 (0,0))::(LB++rN bq kp bm true rW ck C3)) fun H=>aA (gF kp K S ord ah LB f) (.returned (.tuple #[u32 x,.bool true,.int .i64 0])) H:=by
   intro K3 l rW C3 nG WG hn3 hc3 QV Ul Nn
   refine Ff nG QV (fun s=>by rw[Nn];omega) (fun s hs=>ni.two s (Ul s hs)) (fun s hs=>O8 s (Ul s hs)) fun K4 C4 bi it LW hl=>?_
   have pB:∀s,K4.hold s=K.hold s+if s=x∧2≤x then 1 else 0:=fun s=>by
    have a:=hl.hold s
    rw[Nn]at a
    omega
   have Nm:live K4.N x:=by
    by_cases h2:x<2
    ·exact .inl h2
    ·refine .inr (LW.ok.mid.held x ?_)
     rw[pB,if_pos ⟨rfl,by omega⟩];omega
   refine aA.mk (.skip (.skip (.skip (.dr (.skip .tail) _)))) (.inl ⟨x,K4,S2,C4,rfl,rfl,LW,⟨by rw[hl.n,hn3,ni.n,mo.n],by rw[hl.cap,hc3,ni.cap,mo.cap],fun s d hs=>iW hK.ok LW.ok (fun s h=>by rw[pB];omega) (fun s d d' h h'=>?_) _ s d hs (Nat.le_refl _),hfn,Nm,hx,pB⟩⟩)
   have a:=WG s d' (hl.N s d' h')
   rw[aa2 s d h]at a;exact(Option.some.inj a).symm
  by_cases hm:x∈made
  ·refine aM.hit (k:=x) (x:=()) iD jZ.jb (.tail _ (.tail _ (List.mem_append_right _ (.tail _ (.head _))))) (nf.1 hm) ?_
   rintro v rfl
   refine ae.gtr (Br.fc (by decide) ?_)
   refine Ld.mk (v:=ptr bq) (by exact .head _) rfl ?_
   refine Nil.ptr (aa.mk (Ld.mk (v:=.map (some bm)) (by exact .tail _ (.tail _ (List.mem_append_right _ (.head _)))) rfl ?_))
   refine aM.del (k:=x) iD jZ.jb (.tail _ (.tail _ (List.mem_append_right _ (.tail _ (.head _))))) fun es' he=>⟨_,.tail (.tail ((dR.tail (.head _)).dK LB)),?_⟩
   rw[Hg]at he
   refine fin K2 _ es' C2 dM (fun _ _ h=>h) rfl rfl he (fun s hs=>(List.mem_filter.1 hs).1) fun s=>?_
   rw[ni.hold,fI]
   have h2x:=ni.two x hm
   by_cases e1:s=x
   ·subst e1
    have c1:made.count s=1:=by rw[g7.count,if_pos hm]
    have c2:(made.filter fun r=>decide (¬r=s)).count s=0:=List.count_eq_zero.2 (by simp)
    rw[c1,c2,if_pos ⟨rfl,h2x⟩]
   ·have:(made.filter fun r=>decide (¬r=x)).count s=made.count s:=List.count_filter (by simpa using e1)
    rw[this,if_neg (fun h=>e1 h.1)];rfl
  ·refine aM.bK (k:=x) iD jZ.jb (.tail _ (.tail _ (List.mem_append_right _ (.tail _ (.head _))))) (nf.2 hm) ?_
   refine ae.gtr (Br.bt (by decide) ?_)
   refine Ld.mk (v:=ptr kp) (by exact .tail _ (.head _)) rfl ?_
   have Nm:live K2.N x:=jZ.sR Vt
   have FE:K2.hold x<65535:=by
    rw[ni.hold,fI,List.count_eq_zero.2 hm]
    have:=hf x;omega
   refine af.fn (args:=#[ptr kp,u32 x]) (.cons (.cons (.app (.cons (.cons .here))))) (pz dM (r:=x) Nm (fun _=>FE)) ?_
   rintro w C3 ⟨rfl,K3,nG,m3⟩
   refine ae.jF ?_
   rw[show decide ((0:Int)=0)=true from rfl]
   refine fin K3 made es C3 nG (fun s d h=>by rw[←m3.N];exact h) m3.n m3.cap jZ.jb (fun _ h=>h) fun s=>?_
   rw[m3.hold,ni.hold,fI]
   split<;>omega
end
section
variable {kp bq bm:Nat} {K0:Kd} {S0:Nat→aE.Fn} {U:aE.Fn→Prop} {ord ah:List Nat}
theorem FQ{t:Bool→Bool→Bool}{v r:Nat}{fv:Value}{LB:Hp}(Yz:Gf kp K0 S0 U ord ah bq bm t v fv LB)(ht:∀a,t a a=a)(hv:v<K0.n)(jK:WF K0.n (lv ah) K0.N)(nH:Interp K0.N S0)(iN:j8 K0.n (lv ah))(jD:aE.Ord K0.n (lv ah) ord)(hf:∀s,K0.hold s+1<65535)
 {K:Kd}{S:Nat→aE.Fn}{made:List Nat}{es:Array MapEntry}{ck:Nat}{C:Hp}(hr:live K0.N r)(hS:uY kp K0 S0 U ord ah K S made es ck C true)(hU:∀g,aO K0.n ord (fun g=>g=QF t v (S0 r)) g→U g):
  Fc Tryz.prog 270 #[ptr bq,u32 r,.int .i64 (v:Int),fv] (LB++rN bq kp bm true es ck C) (PX kp K0 S0 U ord ah bq bm LB K S made (QF t v (S0 r))):=by
 have gK:bB Tryz.prog 278=true:=by kernel_rfl
 have aa3:=Yz
 obtain⟨f0,abC,ahu,LA,_⟩:=aa3
 have hn:=hS.cY.n
 intro g
 refine CV (R:=aA _) ?_
 unfold L270
 intro b1 _ b3 _
 refine Ld.mk (v:=ptr bq) (by exact .tail _ (.head _)) rfl ?_
 refine Nil.ptr (aa.mk (Ld.mk (v:=ptr kp) (by exact .tail _ (.tail _ (List.mem_append_right _ (.head _)))) rfl ?_))
 refine af.rd (.cons (.cons (.app (.cons (.cons .here))))) (nh hS.ks.rep (v:Int)) ?_
 rw[if_pos (by omega)]
 rintro w rfl
 refine Ext.mk rfl (Ext.mk rfl ?_)
 intro eY _
 refine St.one (by exact .head _) rfl (by simp) rfl ?_
 intro bd _ oI _
 refine St.one (by exact .head _) rfl (by simp) rfl ?_
 intro qA _
 refine St.one (by exact .head _) rfl (by simp) rfl ?_
 refine Ld.mk (v:=tx b1 eY oI b3 qA) (by exact .head _) rfl ?_
 refine cc.of rfl gK ?_
 subst LA
 refine af.fn (args:=#[u32 r,ptr b1,ptr eY,ptr oI,ptr b3,ptr qA]) .here (Mi (b1:=b1) (b3:=b3) (eY:=eY) (oI:=oI) (qA:=qA) (bd:=bd) gK Yz ht hv jK nH iN jD hf _ r rfl K S made es ck C true #[] 0 hr hS ⟨[],aM.empty,fun _ y hy=>by cases hy⟩ hU) ?_
 rintro w H ⟨x,K',S',made',es',ct,C',lG,Tu,Tw,rfl,rfl,O2,_,hA,ho⟩
 exact aA.mk (.skip (.skip (.skip (.skip (.skip .tail))))) ⟨x,K',S',made',es',ct,C',lG,rfl,rfl,O2,hA,fun h=>(ho h).2⟩
abbrev MC(b5:Nat)(b:Bool):Nat×Obj:=(b5,.cells #[.bool b] 4 (0,0))
theorem A9{v b5:Nat}{b:Bool}{LB:Hp}(jK:WF K0.n (lv ah) K0.N)(nH:Interp K0.N S0)(iN:j8 K0.n (lv ah))(hm:MC b5 b∈LB):Gf kp K0 S0 U ord ah bq bm (fun x y=>if b then y else x) v (.func (.func 271) #[] #[ptr b5]) LB:=by
 refine⟨_,_,_,rfl,by kernel_rfl,fun r d hd nT K S made es ck C hS hU=>?_⟩
 have hr:live K0.N r:=.inr ⟨d,hd⟩
 have LF:=jK.var hd
 obtain⟨g1,g2,g3⟩:=iG (S:=S0) jK iN nH hr LF (by rw[ay hd];exact Nat.le_refl _) false
 obtain⟨t1,t2,t3⟩:=iG (S:=S0) jK iN nH hr LF (by rw[ay hd];exact Nat.le_refl _) true
 obtain⟨q1,q2⟩:=rZ (N:=K0.N) hd
 rw[q1]at g1 g2 g3
 rw[q2]at t1 t2 t3
 subst nT
 intro g
 refine CQ (R:=aA _) ?_
 unfold L271
 intro b1 _
 refine Ld.mk (v:=.bool b) (by exact .tail _ (List.mem_append_left _ hm)) rfl ?_
 refine Br.mk (fun hb=>?_) (fun hb=>?_)
 ·subst hb
  refine aa.mk (Ld.mk (v:=u32 d.hi) (by exact .head _) rfl ?_)
  refine aA.mk .tail ⟨d.hi,K,S,made,es,ck,C,true,rfl,rfl,hS,.refl,fun _=>⟨?_,.inl t2⟩⟩
  rw[hS.cY.fn _ t2]
  exact funext t1
 ·subst hb
  refine aa.mk (Ld.mk (v:=u32 d.lo) (by exact .head _) rfl ?_)
  refine aA.mk .tail ⟨d.lo,K,S,made,es,ck,C,true,rfl,rfl,hS,.refl,fun _=>⟨?_,.inl g2⟩⟩
  rw[hS.cY.fn _ g2]
  exact funext g1
theorem z8{v b1 b5:Nat}{e:Bool}{LB:Hp}(jK:WF K0.n (lv ah) K0.N)(nH:Interp K0.N S0)(iN:j8 K0.n (lv ah))(jD:aE.Ord K0.n (lv ah) ord)(hf:∀s,K0.hold s+1<65535)(hm:MC b5 e∈LB)(h1:(b1,Obj.cells #[ptr bq] 344 (0,0))∈LB):
  Gf kp K0 S0 U ord ah bq bm (fun x y=>if e then x||y else x&&y) v (.func (.func 282) #[] #[ptr b1,ptr b5]) LB:=by
 refine⟨_,_,_,rfl,by kernel_rfl,fun r d hd nT K S made es ck C hS hU=>?_⟩
 have hr:live K0.N r:=.inr ⟨d,hd⟩
 have LF:=jK.var hd
 obtain⟨g1,g2,g3⟩:=iG (S:=S0) jK iN nH hr LF (by rw[ay hd];exact Nat.le_refl _) false
 obtain⟨t1,t2,t3⟩:=iG (S:=S0) jK iN nH hr LF (by rw[ay hd];exact Nat.le_refl _) true
 obtain⟨q1,q2⟩:=rZ (N:=K0.N) hd
 rw[q1]at g1 g2 g3
 rw[q2]at t1 t2 t3
 subst nT
 have eq:QF (fun x y=>if e then x||y else x&&y) d.v (S0 r)=jf e S0 d.lo d.hi:=by
  funext x
  rw[qk,g1,t1];rfl
 rw[eq]at hU⊢
 intro g
 refine CC (R:=aA _) ?_
 unfold L282
 intro b _
 refine Ld.mk (v:=ptr bq) (by exact .tail _ (List.mem_append_left _ h1)) rfl ?_
 refine aa.mk (Ld.mk (v:=u32 d.lo) (by exact .head _) rfl ?_)
 refine aa.mk (Ld.mk (v:=u32 d.hi) (by exact .head _) rfl ?_)
 refine Ld.mk (v:=.bool e) (by exact .tail _ (List.mem_append_left _ hm)) rfl ?_
 refine af.fn (args:=#[ptr bq,u32 d.lo,u32 d.hi,.bool e]) (C:=rN bq kp bm true es ck C) (.cons (.app .here)) (OA jK nH iN jD hf g2 t2 hS hU) ?_
 rintro w H ⟨x,K',S',made',es',ct,C',lG,rfl,rfl,O2,hA,ho⟩
 exact aA.mk .tail ⟨x,K',S',made',es',ct,C',lG,rfl,rfl,O2,hA,ho⟩
end
section
variable {kp:Nat} {K:Kd} {S:Nat→aE.Fn} {ord ah tr:List Nat} {C:Hp}
abbrev X4(b5 b3 b1:Nat)(b:Bool)(v r:Nat):Hp:=[MC b5 b,(b3,.cells #[.int .i64 (v:Int)] 3 (0,0)),(b1,.cells #[u32 r] 77 (0,0))]
theorem gF.three{LB:Hp}{f:aE.Fn}{w:Value}{H:Hp}(h:gF kp K S ord ah LB f w H):∃x b e,w=.tuple #[x,b,e]:=by
 rcases h with⟨x,K',S',C',rfl,_⟩|⟨rfl,_⟩
 ·exact⟨_,_,_,rfl⟩
 ·exact⟨_,_,_,rfl⟩
theorem gF.drop{LB:Hp}{f:aE.Fn}{w:Value}{H:Hp}(h:gF kp K S ord ah LB f w H):∃C',aQ H C'∧gF kp K S ord ah [] f w C':=by
 rcases h with⟨x,K',S',C',rfl,rfl,iO,hg⟩|⟨rfl,⟨K',S',C',rfl,iO,hk⟩,hn⟩
 ·exact⟨C',.right,.inl ⟨x,K',S',C',rfl,rfl,iO,hg⟩⟩
 ·exact⟨C',.right,.inr ⟨rfl,⟨K',S',C',rfl,iO,hk⟩,hn⟩⟩
theorem aA.drop{LB:Hp}{f:aE.Fn}{w:Value}{H:Hp}(h:gF kp K S ord ah LB f w H):aA (gF kp K S ord ah [] f) (.returned w) H:=by
 obtain⟨C',h1,h2⟩:=h.drop
 exact aA.mk h1 h2
theorem l6(hK:cK kp K S ord ah tr C){r v:Nat}{b:Bool}(hr:live K.N r)(hv:v<K.n)(hf:∀s,K.hold s+1<65535):
  Fc Tryz.prog 248 #[ptr kp,u32 r,.int .i64 (v:Int),.bool b] C (gF kp K S ord ah [] (fun x=>S r (an.az x v b))):=by
 have eq:QF (fun x y=>if b then y else x) v (S r)=fun x=>S r (an.az x v b):=by
  funext x;unfold QF;cases b<;>rfl
 rw[←eq]
 intro g
 refine Dh (R:=aA _) ?_
 unfold L248
 intro b1 _ b3 _ b5 _
 refine af.fn (args:=#[ptr kp,.func (.func 269) #[] #[ptr b1,ptr b3,ptr b5]]) (C:=X4 b5 b3 b1 b v r++C) .here (Fe (f:=QF (fun x y=>if b then y else x) v (S r)) hK hf fun K1 C1 fp mo=>⟨_,_,_,rfl,by kernel_rfl,fun bq bm hQ=>?_⟩) ?_
 ·intro g
  refine CW (R:=aA _) ?_
  unfold L269
  refine Ld.mk (v:=u32 r) (by exact .tail _ (.tail _ (.head _))) rfl ?_
  refine Ld.mk (v:=.int .i64 (v:Int)) (by exact .tail _ (.head _)) rfl ?_
  have Fz:live K1.N r:=by rw[mo.N];exact hr
  have fI:∀s,K1.hold s=K.hold s:=fun s=>by rw[mo.hold,if_neg (by omega)]
  refine af.fn (args:=#[ptr bq,u32 r,.int .i64 (v:Int),.func (.func 271) #[] #[ptr b5]]) (C:=X4 b5 b3 b1 b v r++rN bq kp bm true #[] 0 C1) .here
   (FQ (A9 fp.ok.wf fp.ok.mid.int fp.ok.lv (b:=b) (.head _)) (fun a=>by cases b<;>rfl) (by rw[mo.n];exact hv) fp.ok.wf fp.ok.mid.int fp.ok.lv fp.od (fun s=>by rw[fI];exact hf s) Fz hQ (fun g hg=>by rw[mo.n]at hg;exact bU (fun g h=>.inr h) hg)) ?_
  intro w H hO
  exact aA.here hO
 ·intro w H hO
  obtain⟨x,bb,e,rfl⟩:=hO.three
  exact Ext.mk rfl (Ext.mk rfl (Ext.mk rfl (aA.drop hO)))
def qf(e:Bool)(v:Nat)(f:aE.Fn):aE.Fn:=QF (fun x y=>if e then x||y else x&&y) v f
theorem yG(hK:cK kp K S ord ah tr C){r v:Nat}{e:Bool}(hr:live K.N r)(hv:v<K.n)(hf:∀s,K.hold s+1<65535):
  Fc Tryz.prog 272 #[ptr kp,u32 r,.int .i64 (v:Int),.bool e] C (gF kp K S ord ah [] (qf e v (S r))):=by
 intro g
 refine CK (R:=aA _) ?_
 unfold L272
 intro b1 _ b3 _ b5 _
 refine af.fn (args:=#[ptr kp,.func (.func 281) #[] #[ptr b1,ptr b3,ptr b5]]) (C:=X4 b5 b3 b1 e v r++C) .here (Fe (f:=qf e v (S r)) hK hf fun K1 C1 fp mo=>⟨_,_,_,rfl,by kernel_rfl,fun bq bm hQ=>?_⟩) ?_
 ·intro g
  refine CD (R:=aA _) ?_
  unfold L281
  intro b2 _
  refine Ld.mk (v:=ptr bq) (by exact .head _) rfl ?_
  refine Ld.mk (v:=u32 r) (by exact .tail _ (.tail _ (.tail _ (.head _)))) rfl ?_
  refine Ld.mk (v:=.int .i64 (v:Int)) (by exact .tail _ (.tail _ (.head _))) rfl ?_
  have Fz:live K1.N r:=by rw[mo.N];exact hr
  have fI:∀s,K1.hold s=K.hold s:=fun s=>by rw[mo.hold,if_neg (by omega)]
  have Jf:∀s,K1.hold s+1<65535:=fun s=>by rw[fI];exact hf s
  refine af.fn (args:=#[ptr bq,u32 r,.int .i64 (v:Int),.func (.func 282) #[] #[ptr b2,ptr b5]]) (C:=((b2,Obj.cells #[ptr bq] 344 (0,0))::X4 b5 b3 b1 e v r)++rN bq kp bm true #[] 0 C1) .here
   (FQ (z8 fp.ok.wf fp.ok.mid.int fp.ok.lv fp.od Jf (e:=e) (.tail _ (.head _)) (.head _)) (fun a=>by cases e<;>cases a<;>rfl) (by rw[mo.n];exact hv) fp.ok.wf fp.ok.mid.int fp.ok.lv fp.od Jf Fz hQ (fun g hg=>by rw[mo.n]at hg;exact bU (fun g h=>.inr h) hg)) ?_
  rintro w H ⟨x,K',S',made',es',ct,C',lG,rfl,rfl,O2,hA,ho⟩
  exact aA.mk .tail ⟨x,K',S',made',es',ct,C',lG,rfl,rfl,O2,hA,ho⟩
 ·intro w H hO
  obtain⟨x,bb,e,rfl⟩:=hO.three
  exact Ext.mk rfl (Ext.mk rfl (Ext.mk rfl (aA.drop hO)))
end
end Go.Proofs
namespace Go.Sx
open Go
section
variable {P:Program} {g:Gh} {H:Hp}
def FcD(P:Program)(f:FuncId)(args:Array Value)(C:Hp)(Q:Value→Hp→Prop):Prop:=∀g,jz P g f args C (aA Q)
theorem kx.fn{f:FuncId}{args:Array Value}{C H:Hp}{c:Hp→Hp}{Q:Value→Hp→Prop}{K:Hp→Prop}(hh:bS C H c)(hc:FcD P f args C Q)(hk:∀v C',Q v C'→K (c C')):kx P g f args H K:=by
 intro w hw u
 obtain⟨rfl,F,hp⟩:=hh.spec
 have dw:Own g (C++F) w:=aQ.perm (hp C) g w hw
 refine((hc (g.add F)) w (Own.e8.1 dw) u).mono ?_
 rintro e u' w' ⟨rfl,H',ho,v,C',rfl,he,hq⟩
 have h1:Own g (H'++F) w':=Own.e8.2 ho
 have h2:Own g (c H') w':=aQ.perm (hp H').symm g w' h1
 exact⟨rfl,c C',hh.jb he g w' h2,⟨v,rfl⟩,hk _ _ hq⟩
end
end Go.Sx
set_option maxRecDepth 100000
namespace Go.Proofs
open Go Go.Sx
open aE
section
variable {kp:Nat} {K:Kd} {ord ah tr:List Nat} {C:Hp} {S:Nat→aE.Fn}
theorem HU(h:cK kp K S ord ah tr C){r:Nat}(hr:r<4294967296)(hh:2≤r→K.hold r≠0):∀g,L131 g (ptr kp) (u32 r) C (aA fun v C'=>v=.int .i64 0∧∃K',cK kp K' S ord ah [] C'∧wv K K' r):=by
 have h0:=h
 obtain⟨b,hC,hO⟩:=h.rep
 intro g
 unfold L131
 refine ae.bJ (Br.no ?_)
 intro J2 zw
 have fin:∀(K':Kd) C1,cC kp K' ord ah tr C1→Ok K' S (lv ah)→Idle K'→wv K K' r→J2 [] C1:=fun K' C1 iO xu s8 hm=>by
  refine zw _ fun gs=>?_
  obtain⟨b',rfl,uT⟩:=iO
  refine Nil.ptr (aa.mk (St.one (by exact .head _) rfl (by simp[rH.cells]) rfl ?_))
  have jD:Ord K'.n (lv ah) ord:=by rw[hm.n];exact h.od
  refine aA.mk (lR:=({b' with vt:=.slice none 0 0,CR:=[]}:rH).hp kp K'.n) ?_ ⟨rfl,K',⟨⟨{b' with vt:=.slice none 0 0,CR:=[]},rfl,{uT with tr:=aN.nil}⟩,xu,jD,s8,trivial⟩,hm⟩
  refine .cons (.dr (.dr (.dr (.dr (.dr (.dr .nil _) _) _) _) _) _)
 refine ae.kB (b:=1) (Br.dec (fun h2=>?_) (fun h2=>?_))
 rotate_left
 ·exact JE.mk (fin K C h.rep h.ok h.idle ⟨rfl,rfl,fun _ _ h=>h,fun s=>by rw[if_neg (by omega)]⟩)
 have mq:2≤r:=by omega
 have oS:=hh mq
 obtain⟨d,hd⟩:=h.ok.mid.held r oS
 have V8:=h.ok.mid.fit hd
 have Hx:=hO.ul
 have hfit:r<K.ho.length:=by omega
 have hle:=h.ju r
 refine af.rd .here (sU h.rep hr (fun s=>by have:=h.ju s;omega)) ?_
 rintro w rfl
 refine ae.jF (Br.bt (by omega) ?_)
 subst hC
 refine Nil.ptr (aa.mk (aa.mk (Ld.mk (v:=b.vh) (by exact .head _) rfl ?_)))
 refine hO.ho.ld (x:=((K.hold r:Nat):Int)) (bc hfit) (bS.sub (.cons (.app (.app (.app .left))))) ?_
 refine ae.bH (b:=1) (by simp[aB];omega) (by omega) ?_
 refine hO.ho.jC (x:=((K.hold r-1:Nat):Int)) (.cons (.app (.app (.app .left)))) (by rw[ak];exact hfit) fun M6 SE=>?_
 rw[e7]at SE
 have g1:∀s,(K.ho.set r (K.hold r-1)).getD s 0=if s=r then K.hold r-1 else K.hold s:=fun s=>fX hfit
 have hM:=h.ok.mid.drop (r:=r) (cI:=K.ho.set r (K.hold r-1)) (by omega) (by simp) (by rw[g1,if_pos rfl];omega) (fun s hs=>by rw[g1,if_neg hs])
 have fp:cC kp {K with ho:=K.ho.set r (K.hold r-1)} ord ah tr (({b with CH:=M6}:rH).hp kp K.n):=⟨_,rfl,{hO with ho:=SE,ul:=by simp;exact Hx}⟩
 have V4:∀s,(K.ho.set r (K.hold r-1)).getD s 0=if s=r∧2≤r then K.hold s-1 else K.hold s:=fun s=>by
  rw[g1]
  by_cases e:s=r
  ·subst e;rw[if_pos rfl,if_pos ⟨rfl,mq⟩]
  ·rw[if_neg e,if_neg (fun h=>e h.1)]
 refine Nil.ptr (aa.mk (aa.mk (Ld.mk (v:=b.vh) (by exact .head _) rfl ?_)))
 refine SE.ld (x:=((K.hold r-1:Nat):Int)) (by rw[bc (by simpa using hfit),g1,if_pos rfl]) (bS.sub (.cons (.app (.app (.app .left))))) ?_
 refine ae.eB (b:=0) (Br.dec (fun h3=>?_) (fun h3=>?_))
 rotate_left
 ·rw[if_neg (by omega)]at hM
  exact JE.mk (fin {K with ho:=K.ho.set r (K.hold r-1)} _ fp ⟨hM,h.ok.pos,h.ok.lv,h.ok.wf⟩ h.idle ⟨rfl,rfl,fun _ _ h=>h,V4⟩)
 rw[if_pos (by omega)]at hM
 refine Nil.ptr (aa.mk ?_)
 have FJ:iP {K with ho:=K.ho.set r (K.hold r-1)} S gS (fY zero' [r]):=hM.congr (fun _=>Iff.rfl) fun s _=>by
  unfold up fY zero'
  by_cases e:s=r
  ·subst e;simp
  ·simp[e,Ne.symm e]
 refine af.fn .here (kL (P0:=zero') fp FJ h.ok.pos (fun t LY h0=>?_) (h.bZ (.inr ⟨d,hd⟩)) (fun s=>by have:=h.A2 s;show K.use s<_;omega)) ?_
 ·by_cases e:t=r
  ·subst e;exact⟨d,hd⟩
  ·have UB:0<zero' t+[r].count t:=h0
   simp[zero',Ne.symm e]at UB
 rintro w C2 ⟨rfl,K2,dM,O5,Sp,_,dD⟩
 refine JE.mk (fin K2 _ dM ⟨O5,Sp,by rw[dD.n];exact h.ok.lv,Fq h.ok.wf O5 (fun h=>dD.N h) dD.n⟩ (dD.idle h.idle) ⟨dD.n,dD.cap,fun s e hs=>dD.N hs,fun s=>?_⟩)
 show K2.ho.getD s 0=_
 rw[dD.ho]
 exact V4 s
theorem mA(h:cK kp K S ord ah tr C){r:Nat}(hr:r<4294967296)(hh:2≤r→K.hold r≠0):FcD Tryz.prog 131 #[ptr kp,u32 r] C (fun v C'=>v=.int .i64 0∧∃K',cK kp K' S ord ah [] C'∧wv K K' r):=
 fun g=>Am (HU h hr hh g)
end
end Go.Proofs
set_option maxRecDepth 100000
namespace Go.Proofs
open Go Go.Sx
open aE
section
variable {kp:Nat} {K:Kd} {S:Nat→aE.Fn} {ord ah tr:List Nat} {C:Hp}
theorem rL(B:Hp)(x:Nat):Rd Tryz.prog 247 #[u32 x,.bool true,.int .i64 0] B (· =.tuple #[u32 x,.int .i64 0]):=by
 intro g
 refine tV (R:=aA _) ?_
 unfold L247
 exact ae.dO (Br.bt (by decide) (Un.not (Br.no (cz.mk (.refl _) rfl))))
theorem rM(B:Hp)(x:Value)(b:Value):Rd Tryz.prog 247 #[x,b,.int .i64 9] B (· =.tuple #[u32 0,.int .i64 9]):=by
 intro g
 refine tV (R:=aA _) ?_
 unfold L247
 exact ae.dO (Br.fc (by decide) (cz.mk (.refl _) rfl))
theorem vk(hK:cK kp K S ord ah tr C){v:Nat}(hv:v<K.n):Rd Tryz.prog 245 #[ptr kp,.int .i64 (v:Int)] C (· =.tuple #[.int .u64 ((2^v:Nat):Int),.bool true]):=by
 have hn:=hK.kC.Ax
 intro g
 refine Dj (R:=aA _) ?_
 unfold L245
 intro J hJ
 refine ae.lss ?_
 rw[decide_eq_false (by omega)]
 refine Split.go rfl ?_
 refine ae.wT ?_
 refine Split.go rfl ?_
 refine af.rd .here (gU hK.rep) ?_
 rintro w rfl
 refine ae.rD ?_
 rw[decide_eq_false (by omega)]
 refine aF.mk (aF.mk (JE.mk (hJ _ _ fun gs=>Br.no ?_)))
 have h2:2^v<18446744073709551616:=Nat.lt_of_lt_of_le (Nat.pow_lt_pow_right (by decide) (show v<64 by omega)) (by decide)
 refine ae.uI (a:=1) (by simp[IntKind.bits];omega) (by rw[Nat.one_shiftLeft];simpa[aB]using h2) ?_
 rw[Nat.one_shiftLeft]
 exact cz.mk (.refl _) rfl
theorem p9(hK:cK kp K S ord ah tr C){Y:Hp}{mask:Nat}{vr:Value}{refs:List Nat}(hm:mask<2^K.n)(hr:cT .u32 Y vr (iw refs))(hl:∀r∈refs,live K.N r)(bQ:refs.length≤1048576):Rd Tryz.prog 246 #[ptr kp,.int .u64 (mask:Int),vr] (Y++C) (· =.int .i64 0):=by
 have hn:=hK.kC.Ax
 intro g
 refine Di (R:=aA _) ?_
 unfold L246
 refine ae.bJ (Br.no ?_)
 refine af.rd (.app .here) (gU hK.rep) ?_
 rintro w rfl
 have yc:mask<18446744073709551616:=Nat.lt_of_lt_of_le hm (Nat.pow_le_pow_right (n:=2) (by decide) hn)
 refine ae.kJ (by simpa[aB]using yc) ?_
 rw[Nat.shiftRight_eq_div_pow,Nat.div_eq_of_lt hm]
 refine ae.dO (Br.bt (by decide) ?_)
 refine hr.bC ?_
 rw[ak]
 refine⟨fun vs H=>∃i:Nat,vs=[.int .i64 (i:Int)]∧i≤refs.length∧H=Y++C,fun vs _=>refs.length-bG vs 0,JE.mk ⟨0,rfl,Nat.zero_le _,rfl⟩,?_⟩
 rintro w7 H ⟨i,hv,hi,rfl⟩ gs
 simp only[List.cons.injEq,and_true]at hv
 subst hv
 refine ae.eA (Br.dec (fun hlt=>?_) (fun hlt=>?_))
 ·have hlr:=hl _ (List.getElem_mem hlt)
  refine hr.ld (n:=((refs[i]:Nat):Int)) (cr (List.getElem?_eq_getElem hlt)) (fun _ h=>List.mem_append_left _ h) ?_
  refine af.rd (args:=#[ptr kp,u32 refs[i]]) (.app .here) (fV hK.rep (by have:=hK.bZ hlr;omega)) ?_
  rintro w rfl
  rw[bM.2 hlr]
  refine Ext.mk rfl (Ext.mk rfl ?_)
  intro Nv _
  refine St.whole (r:=got K.N refs[i]) (by exact .head _) rfl (aG _ _).1 (aG _ _).2 ?_
  refine ae.dO (Br.bt (by simp) ?_)
  refine ae.aL (b:=1) (by simp[aB];omega) ?_
  exact aD.of .tail ⟨i+1,rfl,hlt,rfl⟩ (by simp only[bG];omega)
 ·exact cz.mk (.refl _) rfl
theorem gF.done{f:aE.Fn}{w:Value}{H:Hp}(h:gF kp K S ord ah [] f w H):(∃x,w=.tuple #[u32 x,.bool true,.int .i64 0]∧oN kp K S ord ah tr f (.tuple #[u32 x,.int .i64 0]) H)∨(w=.tuple #[u32 0,.bool false,.int .i64 9]∧oN kp K S ord ah tr f (.tuple #[u32 0,.int .i64 9]) H):=by
 rcases h with⟨x,K',S',C',rfl,rfl,iO,hg⟩|⟨rfl,⟨K',S',C',rfl,iO,hk⟩,hn⟩
 ·exact .inl ⟨x,rfl,.inl ⟨x,K',S',rfl,iO,hg⟩⟩
 ·exact .inr ⟨rfl,.inr ⟨rfl,⟨K',S',[],iO,.inl rfl,hk⟩,hn⟩⟩
theorem jr{n v:Nat}(hv:v<n):2^v<2^n:=Nat.pow_lt_pow_right (by decide) hv
theorem wS(hK:cK kp K S ord ah tr C){r v:Nat}{b:Bool}(hr:live K.N r)(hv:v<K.n)(hf:∀s,K.hold s+1<65535):
  Fc Tryz.prog 199 #[ptr kp,u32 r,.int .i64 (v:Int),.bool b] C (oN kp K S ord ah tr (fun x=>S r (an.az x v b))):=by
 intro g
 refine DX (R:=aA _) ?_
 unfold L199
 refine af.rd .here (vk hK hv) ?_
 rintro w rfl
 refine Ext.mk rfl (Ext.mk rfl ?_)
 refine ae.wT ?_
 refine bT.and (a:=true) false (fun _=>Un.not ⟨rfl,rfl⟩) rfl fun gs=>Br.no ?_
 refine av.int (e:=77) (by kernel_rfl) (by kernel_rfl) (by kernel_rfl) fun bs=>?_
 refine af.rd (args:=#[ptr kp,.int .u64 ((2^v:Nat):Int),.slice (some ⟨bs,0,none⟩) 1 1]) .here (p9 (Y:=[(bs,Obj.cells (ax .u32 [(r:Int)]) 77 (0,0))]) (refs:=[r]) hK (jr hv) ((aN.made (T:=77) (kd:=.u32) (b:=bs) (iw [r])).ints) (fun s hs=>by simp at hs;subst hs;exact hr) (by show 1≤1048576;omega)) ?_
 rintro w rfl
 refine ae.dO (Br.bt (by decide) ?_)
 refine af.fn (args:=#[ptr kp,u32 r,.int .i64 (v:Int),.bool b]) (.cons .here) (l6 hK hr hv hf) ?_
 intro w H hO
 rcases hO.done (tr:=tr)with⟨x,rfl,hD⟩|⟨rfl,hD⟩
 ·refine Ext.mk rfl (Ext.mk rfl (Ext.mk rfl ?_))
  refine af.rd .here (rL _ x) ?_
  rintro w rfl
  exact Ext.mk rfl (Ext.mk rfl (aA.mk .tail hD))
 ·refine Ext.mk rfl (Ext.mk rfl (Ext.mk rfl ?_))
  refine af.rd .here (rM _ _ _) ?_
  rintro w rfl
  exact Ext.mk rfl (Ext.mk rfl (aA.mk .tail hD))
end
theorem Fits.mono{A B:aE.Fn→Prop}{cap:Nat}(h:∀g,A g→B g)(hB:Fits B cap):Fits A cap:=by
 classical
 obtain⟨ku,⟨l,h1,h2,h3⟩,hc⟩:=hB
 refine⟨(l.filter fun g=>decide (A g)).length,⟨l.filter fun g=>decide (A g),h1.filter _,rfl,fun g=>?_⟩,?_⟩
 ·rw[List.mem_filter,decide_eq_true_eq,←h3]
  exact⟨fun x=>⟨h g x,x⟩,fun x=>x.2⟩
 ·have:=List.length_filter_le (fun g=>decide (A g)) l
  omega
def bitsOf(mask n:Nat):List Nat:=(List.range n).filter fun i=>mask.testBit i
theorem jx(mask n:Nat):bitsOf mask (n+1)=bitsOf mask n++if mask.testBit n then [n]else []:=by
 unfold bitsOf
 rw[List.range_succ,List.filter_append,List.filter_cons,List.filter_nil]
def Ni(e:Bool)(vs:List Nat)(f:aE.Fn):aE.Fn:=vs.foldl (fun g v=>qf e v g) f
theorem Kt(e:Bool)(vs:List Nat)(v:Nat)(f:aE.Fn):Ni e (vs++[v]) f=qf e v (Ni e vs f):=by
 unfold Ni;rw[List.foldl_append];rfl
section
variable {kp:Nat} {K:Kd} {S:Nat→aE.Fn} {ord ah tr:List Nat} {C:Hp}
def iI(kp:Nat)(K:Kd)(S:Nat→aE.Fn)(ord ah tr:List Nat)(e:Bool)(mask r:Nat)(w:Value)(H:Hp):Prop:=
 (∃x K' S',w=.tuple #[u32 x,.int .i64 0]∧cK kp K' S' ord ah [] H∧pU K S K' S' (Ni e (bitsOf mask K.n) (S r)) x)∨
 (w=.tuple #[u32 0,.int .i64 9]∧(∃K' S' uH,cK kp K' S' ord ah uH H∧(uH=[]∨uH=tr)∧Kept K S K' S')∧∃i,i<K.n∧mask.testBit i=true∧¬Fits (aO K.n ord (fun g=>(K.held S g∨(bitsOf mask i≠[]∧g=Ni e (bitsOf mask i) (S r)))∨g=qf e i (Ni e (bitsOf mask i) (S r)))) K.cap)
structure Way(K:Kd)(S:Nat→aE.Fn)(K1:Kd)(S1:Nat→aE.Fn)(ch:Bool)(cur:Nat):Prop where
 n:K1.n=K.n
 cap:K1.cap=K.cap
 N:∀s d,K.N s=some d→K1.N s=some d
 fn:∀s,live K.N s→S1 s=S s
 live:live K1.N cur
 hold:∀s,K1.hold s=K.hold s+if ch=true∧s=cur∧2≤cur then 1 else 0
theorem FP(hK:cK kp K S ord ah tr C){r mask:Nat}{e:Bool}(hr:live K.N r)(hm:mask<2^K.n)(hf:∀s,K.hold s+2<65535):
  Fc Tryz.prog 249 #[ptr kp,u32 r,.int .u64 (mask:Int),.bool e] C (iI kp K S ord ah tr e mask r):=by
 have hn:=hK.kC.Ax
 have yc:mask<18446744073709551616:=Nat.lt_of_lt_of_le hm (Nat.pow_le_pow_right (n:=2) (by decide) hn)
 have FB:∀s,K.hold s≠0→live K.N s:=fun s hs=>.inr (hK.ok.mid.held s hs)
 intro g
 refine Dg (R:=aA _) ?_
 unfold L249
 refine av.int (e:=77) (by kernel_rfl) (by kernel_rfl) (by kernel_rfl) fun bs=>?_
 refine af.rd (args:=#[ptr kp,.int .u64 (mask:Int),.slice (some ⟨bs,0,none⟩) 1 1]) .here (p9 (Y:=[(bs,Obj.cells (ax .u32 [(r:Int)]) 77 (0,0))]) (refs:=[r]) hK hm ((aN.made (T:=77) (kd:=.u32) (b:=bs) (iw [r])).ints) (fun s hs=>by simp at hs;subst hs;exact hr) (by show 1≤1048576;omega)) ?_
 rintro w rfl
 refine ae.dO (Br.bt (by decide) ?_)
 refine ae.eB (b:=0) (Br.dec (fun h0=>?_) (fun h0=>?_))
 ·subst h0
  refine af.fn (args:=#[ptr kp,u32 r]) (.cons .here) (pz hK (r:=r) hr (fun _=>by have:=hf r;omega)) ?_
  rintro w C1 ⟨rfl,K1,fp,mo⟩
  refine ae.dO (Br.bt (by decide) ?_)
  refine aA.mk .tail (.inl ⟨r,K1,S,rfl,fp,mo.n,mo.cap,fun s d hd=>by rw[mo.N];exact hd,fun _ _=>rfl,by rw[mo.N];exact hr,?_,fun s=>by rw[mo.hold];split<;>omega⟩)
  have:bitsOf 0 K.n=[]:=by unfold bitsOf;rw[List.filter_eq_nil_iff];intro a _;simp
  rw[this];rfl
 refine af.rd (.cons .here) (gU hK.rep) ?_
 rintro w rfl
 refine⟨fun vs H=>∃(i cur:Nat) (ch:Bool) (K1:Kd) (S1:Nat→aE.Fn) (C1:Hp) (Ry:List Nat),vs=[u32 cur,.bool ch,.int .i64 (i:Int)]∧i≤K.n∧H=(bs,Obj.cells (ax .u32 [(r:Int)]) 77 (0,0))::C1∧cK kp K1 S1 ord ah Ry C1∧
   (ch=decide (bitsOf mask i≠[]))∧S1 cur=Ni e (bitsOf mask i) (S r)∧Way K S K1 S1 ch cur∧(ch=true→Ry=[]),fun vs _=>K.n-bG vs 2,
  JE.mk ⟨0,r,false,K,S,C,tr,rfl,Nat.zero_le _,rfl,hK,rfl,rfl,⟨rfl,rfl,fun _ _ h=>h,fun _ _=>rfl,hr,fun s=>by rw[if_neg (fun h=>by cases h.1)];rfl⟩,fun h=>by cases h⟩,?_⟩
 rintro g8 qI ji H ⟨i,cur,ch,K1,S1,C1,Ry,hvs,hi,rfl,fp,lA,lI,hw,qR⟩ gs
 simp only[List.cons.injEq,and_true]at hvs
 obtain⟨rfl,rfl,rfl⟩:=hvs
 refine ae.eA (Br.dec (fun hlt=>?_) (fun hlt=>?_))
 rotate_left
 ·obtain rfl:i=K.n:=by omega
  have hne:bitsOf mask K.n≠[]:=fun hb=>h0 (by
   apply Nat.eq_of_testBit_eq
   intro j
   rw[Nat.zero_testBit]
   by_cases hj:j<K.n
   ·cases ht:mask.testBit j with
    |false=>rfl
    |true=>
     have:j∈bitsOf mask K.n:=List.mem_filter.2 ⟨List.mem_range.2 hj,ht⟩
     rw[hb]at this;cases this
   ·exact Nat.testBit_lt_two_pow (Nat.lt_of_lt_of_le hm (Nat.pow_le_pow_right (by decide) (by omega))))
  have hct:ch=true:=by rw[lA];exact decide_eq_true hne
  rw[qR hct]at fp
  exact aA.mk .tail (.inl ⟨cur,K1,S1,rfl,fp,hw.n,hw.cap,hw.N,hw.fn,hw.live,lI,fun s=>by rw[hw.hold];simp[hct]⟩)
 intro J hJ
 refine ae.kJ (by simpa[aB]using yc) ?_
 refine ae.jm (b:=1) (by have:mask>>>i≤mask:=Nat.shiftRight_le _ _;simp[aB];omega) (by simp[aB]) ?_
 have zq:(mask>>>i) &&&1=(mask.testBit i).toNat:=by
  rw[Nat.and_one_is_mod,Nat.testBit_eq_decide_div_mod_eq,Nat.shiftRight_eq_div_pow]
  have:mask/2^i%2<2:=Nat.mod_lt _ (by decide)
  by_cases h:mask/2^i%2=1
  ·simp[h]
  ·have:mask/2^i%2=0:=by omega
   simp[this]
 rw[zq]
 refine ae.eB (b:=0) ?_
 cases ht:mask.testBit i with
 |false=>
  refine Br.fc rfl ?_
  refine JE.mk (hJ _ _ _ fun gs=>?_)
  refine ae.aL (b:=1) (by simp[aB];omega) ?_
  have eb:bitsOf mask (i+1)=bitsOf mask i:=by rw[jx,ht];simp
  exact aD.mk ⟨i+1,cur,ch,K1,S1,C1,Ry,rfl,hlt,rfl,fp,by rw[eb];exact lA,by rw[eb];exact lI,hw,qR⟩ (by simp only[bG];omega)
 |true=>
  refine Br.bt (by decide) ?_
  have eb:bitsOf mask (i+1)=bitsOf mask i++[i]:=by rw[jx,ht];simp
  have Jf:∀s,K1.hold s+1<65535:=fun s=>by rw[hw.hold];have:=hf s;split<;>omega
  have Up:∀s,K1.hold s≠0→live K1.N s:=fun s hs=>.inr (fp.ok.mid.held s hs)
  refine af.fn (args:=#[ptr kp,u32 cur,.int .i64 (i:Int),.bool e]) (.cons .here) (yG fp hw.live (by rw[hw.n];exact hlt) Jf) ?_
  rintro w H (⟨x,K2,S2,C2,rfl,rfl,dM,hg⟩|⟨rfl,⟨K2,S2,C2,rfl,dM,hk⟩,hno⟩)
  ·refine Ext.mk rfl (Ext.mk rfl (Ext.mk rfl ?_))
   refine af.rd .here (rL _ x) ?_
   rintro w rfl
   refine Ext.mk rfl (Ext.mk rfl ?_)
   intro ye h38
   have go:∀K3 C3,cK kp K3 S2 ord ah [] C3→Way K S K3 S2 true x→ye [] ((bs,Obj.cells (ax .u32 [(r:Int)]) 77 (0,0))::C3):=fun K3 C3 nG OF=>by
    refine h38 _ fun gs=>?_
    refine ae.dO (Br.bt (by decide) ?_)
    refine JE.mk (hJ _ _ _ fun gs=>?_)
    refine ae.aL (b:=1) (by simp[aB];omega) ?_
    exact aD.mk ⟨i+1,x,true,K3,S2,C3,[],rfl,hlt,rfl,nG,by rw[eb];exact(decide_eq_true (by simp)).symm,by rw[hg.is,eb,Kt,lI],OF,fun _=>rfl⟩ (by simp only[bG];omega)
   have fn2:∀s,live K.N s→S2 s=S s:=fun s hs=>(hg.fn s (cO hw.N hs)).trans (hw.fn s hs)
   cases ch with
   |false=>
    refine Br.no (JE.mk (go K2 H dM ⟨hg.n.trans hw.n,hg.cap.trans hw.cap,fun s d hd=>hg.N s d (hw.N s d hd),fn2,hg.live,fun s=>?_⟩))
    have a:=hw.hold s
    rw[if_neg (fun h=>by cases h.1)]at a
    rw[hg.hold,a];simp
   |true=>
    have hlc:=hw.live
    have hcc:2≤cur→K2.hold cur≠0:=fun h2=>by rw[hg.hold,hw.hold,if_pos ⟨rfl,rfl,h2⟩];omega
    refine Br.yes ?_
    refine af.fn (args:=#[ptr kp,u32 cur]) (.cons .here) (pJ dM (r:=cur) (by have:=fp.bZ hlc;omega) hcc) ?_
    rintro w C3 ⟨rfl,K3,nG,f3⟩
    have jY:∀s,K3.hold s=K.hold s+if s=x∧2≤x then 1 else 0:=fun s=>by
     have a:=hw.hold s
     simp only[true_and]at a
     rw[f3.hold,hg.hold,a]
     split<;>split<;>omega
    refine JE.mk (go K3 C3 nG ⟨by rw[f3.n,hg.n,hw.n],by rw[f3.cap,hg.cap,hw.cap],fun s d hs=>iW hK.ok nG.ok (fun s h=>by rw[jY];omega) (fun s d d' h h'=>?_) _ s d hs (Nat.le_refl _),fn2,?_,fun s=>by rw[jY];simp⟩)
    ·have a:=f3.N s d' h'
     rw[hg.N s d (hw.N s d h)]at a;exact(Option.some.inj a).symm
    ·by_cases h2:x<2
     ·exact .inl h2
     ·refine .inr (nG.ok.mid.held x ?_)
      rw[jY,if_pos ⟨rfl,by omega⟩];omega
  ·refine Ext.mk rfl (Ext.mk rfl (Ext.mk rfl ?_))
   refine af.rd .here (rM _ _ _) ?_
   rintro w rfl
   refine Ext.mk rfl (Ext.mk rfl ?_)
   intro ye h38
   have vM:∀g,K1.held S1 g→K.held S g∨(bitsOf mask i≠[]∧g=Ni e (bitsOf mask i) (S r)):=by
    rintro g ⟨s,hs,rfl⟩
    have hs':K1.hold s≠0:=hs
    by_cases hz:K.hold s=0
    ·right
     rw[hw.hold,hz]at hs'
     by_cases hx:ch=true∧s=cur∧2≤cur
     ·refine⟨?_,by rw[hx.2.1];exact lI⟩
      have:=hx.1
      rw[lA]at this
      exact of_decide_eq_true this
     ·rw[if_neg hx]at hs';omega
    ·exact .inl ⟨s,hz,hw.fn s (FB s hz)⟩
   have zi:¬Fits (aO K.n ord (fun g=>(K.held S g∨(bitsOf mask i≠[]∧g=Ni e (bitsOf mask i) (S r)))∨g=qf e i (Ni e (bitsOf mask i) (S r)))) K.cap:=fun hfit=>hno (by
    rw[hw.n,hw.cap,lI]
    exact Fits.mono (fun g hg=>bU (fun g h=>h.imp (vM g) id) hg) hfit)
   have go:∀K3 C3 UZ,cK kp K3 S2 ord ah UZ C3→UZ=[]→(∀s,K3.hold s=K.hold s)→K3.n=K2.n→K3.cap=K2.cap→ye [] ((bs,Obj.cells (ax .u32 [(r:Int)]) 77 (0,0))::C3):=fun K3 C3 UZ nG OI Nn hn3 hc3=>by
    refine h38 _ fun gs=>?_
    refine ae.dO (Br.fc (by decide) ?_)
    have hfn:∀s,K.hold s≠0→S2 s=S s:=fun s hs=>(hk.fn s (by rw[hw.hold];omega)).trans (hw.fn s (FB s hs))
    refine aA.mk .tail (.inr ⟨rfl,⟨K3,S2,UZ,nG,.inl OI,⟨by rw[hn3,hk.n,hw.n],by rw[hc3,hk.cap,hw.cap],Nn,fun g=>?_,hfn⟩⟩,i,hlt,ht,zi⟩)
    constructor
    ·rintro⟨s,hs,rfl⟩
     have hs':K.hold s≠0:=by rw[←Nn];exact hs
     exact⟨s,hs',hfn s hs'⟩
    ·rintro⟨s,hs,rfl⟩
     exact⟨s,by show K3.hold s≠0;rw[Nn];exact hs,(hfn s hs).symm⟩
   cases ch with
   |false=>
    refine Br.no (JE.mk (go K2 H [] dM rfl (fun s=>?_) rfl rfl))
    rw[hk.hold,hw.hold,if_neg (fun h=>by cases h.1)];rfl
   |true=>
    have hcc:2≤cur→K2.hold cur≠0:=fun h2=>by rw[hk.hold,hw.hold,if_pos ⟨rfl,rfl,h2⟩];omega
    refine Br.yes ?_
    refine af.fn (args:=#[ptr kp,u32 cur]) (.cons .here) (pJ dM (r:=cur) (by have:=fp.bZ hw.live;omega) hcc) ?_
    rintro w C3 ⟨rfl,K3,nG,f3⟩
    refine JE.mk (go K3 C3 [] nG rfl (fun s=>?_) f3.n f3.cap)
    have a:=hw.hold s
    simp only[true_and]at a
    rw[f3.hold,hk.hold,a]
    split<;>omega
end
section
variable {kp:Nat} {K:Kd} {S:Nat→aE.Fn} {ord ah tr:List Nat} {C:Hp}
theorem iI.two{e:Bool}{mask r:Nat}{w:Value}{H:Hp}(h:iI kp K S ord ah tr e mask r w H):∃x y,w=.tuple #[x,y]:=by
 rcases h with⟨x,K',S',rfl,_⟩|⟨rfl,_⟩
 ·exact⟨_,_,rfl⟩
 ·exact⟨_,_,rfl⟩
theorem HP(hK:cK kp K S ord ah tr C){r mask:Nat}(hr:live K.N r)(hm:mask<2^K.n)(hf:∀s,K.hold s+2<65535):
  Fc Tryz.prog 200 #[ptr kp,u32 r,.int .u64 (mask:Int)] C (iI kp K S ord ah tr true mask r):=by
 intro g
 refine DW (R:=aA _) ?_
 unfold L200
 refine af.fn .here (FP hK hr hm hf) ?_
 intro w H hO
 obtain⟨x,y,rfl⟩:=hO.two
 exact Ext.mk rfl (Ext.mk rfl (aA.here hO))
theorem HN(hK:cK kp K S ord ah tr C){r mask:Nat}(hr:live K.N r)(hm:mask<2^K.n)(hf:∀s,K.hold s+2<65535):
  Fc Tryz.prog 201 #[ptr kp,u32 r,.int .u64 (mask:Int)] C (iI kp K S ord ah tr false mask r):=by
 intro g
 refine DV (R:=aA _) ?_
 unfold L201
 refine af.fn .here (FP hK hr hm hf) ?_
 intro w H hO
 obtain⟨x,y,rfl⟩:=hO.two
 exact Ext.mk rfl (Ext.mk rfl (aA.here hO))
theorem BY{n v:Nat}(hv:v<n):bitsOf (2^v) n=[v]∧bitsOf (2^v) v=[]:=by
 have h0:bitsOf (2^v) v=[]:=by
  unfold bitsOf
  rw[List.filter_eq_nil_iff]
  intro a ha
  have:=List.mem_range.1 ha
  simp[Nat.testBit_two_pow];omega
 refine⟨?_,h0⟩
 have key:∀k,v+1+k≤n→bitsOf (2^v) (v+1+k)=[v]:=by
  intro k
  induction k with
  |zero=>intro _;rw[Nat.add_zero,jx,h0];simp[Nat.testBit_two_pow]
  |succ k ih=>
   intro hk
   rw[←Nat.add_assoc,jx,ih (by omega)]
   have:¬v=v+1+k:=by omega
   simp[Nat.testBit_two_pow,this]
 have:=key (n-(v+1)) (by omega)
 rwa [show v+1+(n-(v+1))=n by omega]at this
theorem iI.one{e:Bool}{v r:Nat}{w:Value}{H:Hp}(hv:v<K.n)(h:iI kp K S ord ah tr e (2^v) r w H):oN kp K S ord ah tr (qf e v (S r)) w H:=by
 obtain⟨e1,e2⟩:=BY hv
 rcases h with⟨x,K',S',rfl,iO,hg⟩|⟨rfl,hk,i,hi,ht,hno⟩
 ·rw[e1]at hg
  exact .inl ⟨x,K',S',rfl,iO,hg⟩
 ·have:i=v:=by
   rw[Nat.testBit_two_pow]at ht
   exact(of_decide_eq_true ht).symm
  subst this
  rw[e2]at hno
  exact .inr ⟨rfl,hk,fun hfit=>hno (Fits.mono (fun g hg=>bU (fun g h=>h.elim (fun h=>h.elim .inl fun h=>absurd rfl h.1) .inr) hg) hfit)⟩
def x4(kp:Nat)(K:Kd)(S:Nat→aE.Fn)(ord ah tr:List Nat)(lo hi f:aE.Fn)(w:Value)(H:Hp):Prop:=
 (∃x K' S',w=.tuple #[u32 x,.int .i64 0]∧cK kp K' S' ord ah [] H∧pU K S K' S' f x)∨
 (w=.tuple #[u32 0,.int .i64 9]∧(∃K' S' uH,cK kp K' S' ord ah uH H∧(uH=[]∨uH=tr)∧Kept K S K' S')∧
  (¬Fits (aO K.n ord (fun g=>K.held S g∨g=lo)) K.cap∨¬Fits (aO K.n ord (fun g=>(K.held S g∨g=lo)∨g=hi)) K.cap∨¬Fits (aO K.n ord (fun g=>((K.held S g∨g=lo)∨g=hi)∨g=f)) K.cap))
theorem Py(hK:cK kp K S ord ah tr C){r v h:Nat}(hr:live K.N r)(hv:v<K.n)(hh:live K.N h)(hB:∀s,K.hold s+2+2^K.n≤65535):
  Fc Tryz.prog 202 #[ptr kp,u32 r,.int .i64 (v:Int),u32 h] C (x4 kp K S ord ah tr (fun x=>S r (an.az x v false)) (fun x=>S r (an.az x v true)) (fun x=>if S h x then S r (an.az x v true)else S r (an.az x v false))):=by
 have rA:1≤2^K.n:=Nat.one_le_two_pow
 have FB:∀s,K.hold s≠0→live K.N s:=fun s hs=>.inr (hK.ok.mid.held s hs)
 intro g
 refine DU (R:=aA _) ?_
 unfold L202
 refine af.rd .here (vk hK hv) ?_
 rintro w rfl
 refine Ext.mk rfl (Ext.mk rfl ?_)
 refine ae.wT ?_
 refine bT.and (a:=true) false (fun _=>Un.not ⟨rfl,rfl⟩) rfl fun gs=>Br.no ?_
 refine av.La (e:=77) (by kernel_rfl) (by kernel_rfl) (by kernel_rfl) fun bs=>?_
 refine af.rd (args:=#[ptr kp,.int .u64 ((2^v:Nat):Int),.slice (some ⟨bs,0,none⟩) 2 2]) .here (p9 (Y:=[(bs,Obj.cells (ax .u32 [(r:Int),(h:Int)]) 77 (0,0))]) (refs:=[r,h]) hK (jr hv) ((aN.made (T:=77) (kd:=.u32) (b:=bs) (iw [r,h])).ints) (fun s hs=>by
  simp only[List.mem_cons,List.not_mem_nil,or_false]at hs
  rcases hs with rfl|rfl
  ·exact hr
  ·exact hh) (by show 2≤1048576;omega)) ?_
 rintro w rfl
 refine ae.dO (Br.bt (by decide) ?_)
 refine af.fn (args:=#[ptr kp,u32 r,.int .i64 (v:Int),.bool false]) (.cons .here) (l6 hK hr hv (fun s=>by have:=hB s;omega)) ?_
 intro w H hO
 rcases hO with⟨x1,K1,S1,C1,rfl,rfl,fp,g1⟩|⟨rfl,⟨K1,S1,C1,rfl,fp,hk⟩,hno⟩
 rotate_left
 ·refine Ext.mk rfl (Ext.mk rfl (Ext.mk rfl ?_))
  refine af.rd .here (rM _ _ _) ?_
  rintro w rfl
  refine Ext.mk rfl (Ext.mk rfl ?_)
  refine ae.dO (Br.fc (by decide) ?_)
  exact aA.mk .tail (.inr ⟨rfl,⟨K1,S1,[],fp,.inl rfl,hk⟩,.inl hno⟩)
 refine Ext.mk rfl (Ext.mk rfl (Ext.mk rfl ?_))
 refine af.rd .here (rL _ x1) ?_
 rintro w rfl
 refine Ext.mk rfl (Ext.mk rfl ?_)
 refine ae.dO (Br.bt (by decide) ?_)
 have Fz:=cO g1.N hr
 have e1:S1 r=S r:=g1.fn r hr
 have Up:=cO g1.N hh
 have l1:=g1.live
 have fI:=g1.hold
 have Ly:∀g,K1.held S1 g→K.held S g∨g=fun x=>S r (an.az x v false):=g1.held FB
 refine af.fn (args:=#[ptr kp,u32 r,.int .i64 (v:Int),.bool true]) (.cons .here) (l6 fp Fz (by rw[g1.n];exact hv) (fun s=>by rw[fI];have:=hB s;split<;>omega)) ?_
 intro w H hO
 rw[e1]at hO
 rcases hO with⟨x2,K2,S2,C2,rfl,rfl,dM,g2⟩|⟨rfl,⟨K2,S2,C2,rfl,dM,hk⟩,hno⟩
 rotate_left
 ·refine Ext.mk rfl (Ext.mk rfl (Ext.mk rfl ?_))
  refine af.rd .here (rM _ _ _) ?_
  rintro w rfl
  refine Ext.mk rfl (Ext.mk rfl ?_)
  refine ae.dO (Br.fc (by decide) ?_)
  refine kx.fn (args:=#[ptr kp,u32 x1]) (.cons .here) (mA dM (r:=x1) (by have:=fp.bZ l1;omega) (fun h2=>by rw[hk.hold,fI,if_pos ⟨rfl,h2⟩];omega)) ?_
  rintro w C3 ⟨rfl,K3,nG,f3⟩
  have Nn:∀s,K3.hold s=K.hold s:=fun s=>by
   rw[f3.hold,hk.hold,fI]
   split<;>omega
  have hfn:∀s,K.hold s≠0→S2 s=S s:=fun s hs=>(hk.fn s (by rw[fI];omega)).trans (g1.fn s (FB s hs))
  refine aA.mk .tail (.inr ⟨rfl,⟨K3,S2,[],nG,.inl rfl,⟨by rw[f3.n,hk.n,g1.n],by rw[f3.cap,hk.cap,g1.cap],Nn,fun g=>?_,hfn⟩⟩,.inr (.inl fun hfit=>hno ?_)⟩)
  ·constructor
   ·rintro⟨s,hs,rfl⟩
    have hs':K.hold s≠0:=by rw[←Nn];exact hs
    exact⟨s,hs',hfn s hs'⟩
   ·rintro⟨s,hs,rfl⟩
    exact⟨s,by show K3.hold s≠0;rw[Nn];exact hs,(hfn s hs).symm⟩
  ·rw[g1.n,g1.cap]
   exact Fits.mono (fun g hg=>bU (fun g h=>h.imp (Ly g) id) hg) hfit
 refine Ext.mk rfl (Ext.mk rfl (Ext.mk rfl ?_))
 refine af.rd .here (rL _ x2) ?_
 rintro w rfl
 refine Ext.mk rfl (Ext.mk rfl ?_)
 refine ae.dO (Br.bt (by decide) ?_)
 have hh2:=cO g2.N Up
 have l12:=cO g2.N l1
 have l2:=g2.live
 have jv:=g2.hold
 have aac:∀s,K1.hold s≠0→live K1.N s:=fun s hs=>.inr (fp.ok.mid.held s hs)
 have SF:∀g,K2.held S2 g→(K.held S g∨g=fun x=>S r (an.az x v false))∨g=fun x=>S r (an.az x v true):=fun g hg=>(g2.held aac g hg).imp (Ly g) id
 have eh:S2 h=S h:=(g2.fn h Up).trans (g1.fn h hh)
 have ex1:S2 x1=fun x=>S r (an.az x v false):=(g2.fn x1 l1).trans g1.is
 have V9:∀s,live K.N s→S2 s=S s:=fun s hs=>(g2.fn s (cO g1.N hs)).trans (g1.fn s hs)
 refine af.fn (args:=#[ptr kp,u32 h,u32 x2,u32 x1]) (.cons .here) (F9 dM hh2 l2 l12 (fun s=>by rw[jv,fI,g2.n,g1.n];have:=hB s;split<;>split<;>omega)) ?_
 intro w H hO
 rw[eh,ex1,g2.is]at hO
 rcases hO with⟨x3,K3,S3,rfl,nG,g3⟩|⟨rfl,⟨K3,S3,UZ,nG,_,hk⟩,hno⟩
 ·refine Ext.mk rfl (Ext.mk rfl ?_)
  have jY:=g3.hold
  refine kx.fn (args:=#[ptr kp,u32 x2]) (.cons .here) (mA nG (r:=x2) (by have:=dM.bZ l2;omega) (fun h2=>by rw[jY,jv,if_pos ⟨rfl,h2⟩];omega)) ?_
  rintro w C4 ⟨rfl,K4,LW,f4⟩
  have pB:∀s,K4.hold s=K1.hold s+if s=x3∧2≤x3 then 1 else 0:=fun s=>by
   rw[f4.hold,jY,jv]
   split<;>split<;>omega
  refine kx.fn (args:=#[ptr kp,u32 x1]) (.cons .here) (mA LW (r:=x1) (by have:=fp.bZ l1;omega) (fun h2=>by rw[pB,fI,if_pos ⟨rfl,h2⟩];omega)) ?_
  rintro w C5 ⟨rfl,K5,Ji,f5⟩
  have sY:∀s,K5.hold s=K.hold s+if s=x3∧2≤x3 then 1 else 0:=fun s=>by
   rw[f5.hold,pB,fI]
   split<;>split<;>omega
  have Nm:live K5.N x3:=by
   by_cases h2:x3<2
   ·exact .inl h2
   ·refine .inr (Ji.ok.mid.held x3 ?_)
    rw[sY,if_pos ⟨rfl,by omega⟩];omega
  have aaA:∀s,live K.N s→S3 s=S s:=fun s hs=>(g3.fn s (cO g2.N (cO g1.N hs))).trans (V9 s hs)
  refine aA.mk .tail (.inl ⟨x3,K5,S3,rfl,Ji,⟨by rw[f5.n,f4.n,g3.n,g2.n,g1.n],by rw[f5.cap,f4.cap,g3.cap,g2.cap,g1.cap],fun s d hs=>iW hK.ok Ji.ok (fun s h=>by rw[sY];omega) (fun s d d' h h'=>?_) _ s d hs (Nat.le_refl _),aaA,Nm,g3.is,sY⟩⟩)
  have a:=f4.N s d' (f5.N s d' h')
  rw[g3.N s d (g2.N s d (g1.N s d h))]at a;exact(Option.some.inj a).symm
 ·refine Ext.mk rfl (Ext.mk rfl ?_)
  have jY:=hk.hold
  refine kx.fn (args:=#[ptr kp,u32 x2]) (.cons .here) (mA nG (r:=x2) (by have:=dM.bZ l2;omega) (fun h2=>by rw[jY,jv,if_pos ⟨rfl,h2⟩];omega)) ?_
  rintro w C4 ⟨rfl,K4,LW,f4⟩
  have pB:∀s,K4.hold s=K1.hold s:=fun s=>by
   rw[f4.hold,jY,jv]
   split<;>omega
  refine kx.fn (args:=#[ptr kp,u32 x1]) (.cons .here) (mA LW (r:=x1) (by have:=fp.bZ l1;omega) (fun h2=>by rw[pB,fI,if_pos ⟨rfl,h2⟩];omega)) ?_
  rintro w C5 ⟨rfl,K5,Ji,f5⟩
  have sY:∀s,K5.hold s=K.hold s:=fun s=>by
   rw[f5.hold,pB,fI]
   split<;>omega
  have hfn:∀s,K.hold s≠0→S3 s=S s:=fun s hs=>(hk.fn s (by rw[jv,fI];omega)).trans (V9 s (FB s hs))
  refine aA.mk .tail (.inr ⟨rfl,⟨K5,S3,[],Ji,.inl rfl,⟨by rw[f5.n,f4.n,hk.n,g2.n,g1.n],by rw[f5.cap,f4.cap,hk.cap,g2.cap,g1.cap],sY,fun g=>?_,hfn⟩⟩,.inr (.inr fun hfit=>hno ?_)⟩)
  ·constructor
   ·rintro⟨s,hs,rfl⟩
    have hs':K.hold s≠0:=by rw[←sY];exact hs
    exact⟨s,hs',hfn s hs'⟩
   ·rintro⟨s,hs,rfl⟩
    exact⟨s,by show K5.hold s≠0;rw[sY];exact hs,(hfn s hs).symm⟩
  ·rw[g2.n,g2.cap,g1.n,g1.cap]
   exact Fits.mono (fun g hg=>bU (fun g h=>h.imp (SF g) id) hg) hfit
end
end Go.Proofs
set_option maxRecDepth 100000
namespace Go.Proofs
open Go Go.Sx
theorem yh{n:Nat}(hn:n≤16)(B:Hp):Rd Tryz.prog 254 #[.int .i64 (n:Int)] B (· =.int .i64 ((an.wN n:Nat):Int)):=by
 intro g
 refine Db (R:=aA _) ?_
 unfold L254
 have h1:1<<<n≤65536:=by rw[Nat.one_shiftLeft];exact Nat.pow_le_pow_right (n:=2) (by decide) hn
 refine ae.uI (a:=1) (b:=n) (by simp[IntKind.bits];omega) (by simp[aB];omega) ?_
 refine ae.kJ (b:=6) (by simp[aB];omega) ?_
 refine⟨_,_,_,rfl,rfl,?_⟩
 refine cz.mk (.refl _) ?_
 have:1<<<n>>>6=2^n/64:=by rw[Nat.one_shiftLeft,Nat.shiftRight_eq_div_pow]
 rw[this]
 congr 1
 unfold an.wN
 rw[Nat.max_def]
 split<;>split<;>omega
theorem FM{n:Nat}(hn:n≤16)(B:Hp):Rd Tryz.prog 255 #[.int .i64 (n:Int)] B (· =.int .u64 ((an.dg n:Nat):Int)):=by
 intro g
 refine Da (R:=aA _) ?_
 unfold L255
 refine ae.rD (a:=n) (b:=6) (Br.dec (fun h=>?_) (fun h=>?_))
 ·exact cz.mk (.refl _) (by unfold an.dg;rw[if_pos h];rfl)
 ·have h1:2^n≤32:=Nat.pow_le_pow_right (n:=2) (by decide) (by omega:n≤5)
  have h2:2^2^n≤2^32:=Nat.pow_le_pow_right (by decide) h1
  have h3:=Nat.two_pow_pos (2^n)
  refine ae.wQ (a:=1) (b:=n) ?_
  rw[Nat.one_shiftLeft,Nat.mod_eq_of_lt (by omega)]
  refine ae.wQ (a:=1) ?_
  rw[Nat.one_shiftLeft,Nat.mod_eq_of_lt (by omega)]
  refine ae.bH (b:=1) (by simp[aB];omega) (by omega) ?_
  exact cz.mk (.refl _) (by unfold an.dg;rw[if_neg h])
theorem Hq{n:Nat}{ws:List Nat}(hn:n≤16)(hl:ws.length=an.wN n)(hw:∀w∈ws,w<18446744073709551616){w:Nat}(hg:ws[ws.length-1]? =some w):
  (mG w (an.dg n)=0)↔an.dj n ws:=by
 have key:∀w,w<18446744073709551616→(mG w (an.dg n)=0↔w≤an.dg n):=by
  intro w hw
  constructor
  ·intro h
   have:w&&&an.dg n=w:=by
    apply Nat.eq_of_testBit_eq;intro j
    have:=congrArg (fun x=>x.testBit j) h
    simp only[dJ,Nat.zero_testBit]at this
    rw[Nat.testBit_and]
    cases h1:w.testBit j<;>cases h2:(an.dg n).testBit j<;>simp_all
   rw[←this];exact Nat.and_le_right
  ·intro h
   have:=an.tF h
   unfold mG;rw[this,Nat.xor_self]
 constructor
 ·intro h
  refine⟨hn,hl,fun u hu=>?_⟩
  by_cases h6:6≤n
  ·unfold an.dg;rw[if_pos h6];have:=hw u hu;omega
  ·have h1:ws.length=1:=by rw[hl,an.EV (by omega)]
   obtain⟨x,rfl⟩:=List.length_eq_one_iff.1 h1
   simp at hg hu
   subst hg;subst hu
   exact(key _ (hw _ (by simp))).1 h
 ·intro h
  exact(key w (hw w (List.mem_of_getElem? hg))).2 (h.full w (List.mem_of_getElem? hg))
theorem zG{B:Hp}{v:Value}{t:Tb}(ht:AI B v t):Rd Tryz.prog 232 #[v] B (· =.bool (decide (TF t))):=by
 obtain⟨tn,ws⟩:=t
 obtain⟨s,rfl,hs,hw⟩:=ht
 simp only at hs hw⊢
 intro g
 refine Dv (R:=aA _) ?_
 unfold L232
 intro b1 _ J hJ
 have hno:¬TF ⟨tn,ws⟩→JE J [.bool true] ((b1,.cells (Value.cells (.agg #[.int .i64 tn,s])) 57 (0,0))::B):=fun h=>
  JE.mk (hJ _ _ fun gs=>Br.yes (cz.mk .tail (by rw[decide_eq_false h])))
 refine DR.self ?_
 refine aa.mk (Ld.mk zM rfl ?_)
 refine ae.lss (Br.dec (fun h0=>hno fun h=>by have:=h.1;simp only at this;omega) (fun h0=>?_))
 obtain⟨n,rfl⟩:∃n:Nat,tn=n:=⟨tn.toNat,by omega⟩
 have hTF:TF ⟨(n:Int),ws⟩↔an.dj n ws:=by unfold TF;simp
 refine aa.mk (Ld.mk zM rfl ?_)
 refine ae.kB (b:=16) (aF.mk (Br.dec (fun h1=>hno fun h=>by have:=(hTF.1 h).pc;omega) (fun h1=>?_)))
 refine aa.mk (Ld.mk zM rfl ?_)
 refine hs.bC ?_
 refine aa.mk (Ld.mk zM rfl ?_)
 intro F
 refine af.rd (.cons .here) (yh (by omega) B) ?_
 rintro v rfl
 refine⟨(by repeat (first|exact aQ.refl _|apply aQ.cons|apply aQ.skip|apply aQ.dr|apply aQ.fO)),?_⟩
 rw[ak]
 refine ae.wZ (aF.mk ?_)
 simp only[cond_false]
 by_cases hl:ws.length=an.wN n
 case neg=>rw[show decide (ws.length≠an.wN n)=true by simp[hl]];exact hno fun h=>hl (hTF.1 h).len
 rw[show decide (ws.length≠an.wN n)=false by simp[hl]]
 refine JE.mk (hJ _ _ fun gs=>Br.no ?_)
 have hpos:=an.Rf n
 obtain⟨w,hg⟩:∃w,ws[ws.length-1]? =some w:=⟨_,List.getElem?_eq_getElem (by omega)⟩
 refine DR.self ?_
 refine aa.mk (Ld.mk zM rfl ?_)
 refine aa.mk (Ld.mk zM rfl ?_)
 refine hs.bC ?_
 rw[ak]
 refine ae.bH (b:=1) (by have:=an.r6 (n:=n) (by omega);simp[aB];omega) (by omega) ?_
 refine hs.ld (cr hg) zS ?_
 refine aa.mk (Ld.mk zM rfl ?_)
 refine af.rd (.cons .here) (FM (by omega) B) ?_
 rintro v rfl
 refine⟨(by repeat (first|exact aQ.refl _|apply aQ.cons|apply aQ.skip|apply aQ.dr|apply aQ.fO)),?_⟩
 refine ae.F8 (by have:=hw w (List.mem_of_getElem? hg);simpa[aB]using this) (by have:=an.pF n;simpa[aB]using this) ?_
 refine ae.eB (b:=0) ?_
 refine cz.mk .tail ?_
 congr 1
 exact decide_eq_decide.2 ((Hq (by omega) hl hw hg).trans hTF.symm)
theorem ti{B:Hp}{v:Value}{ts:List Tb}(ht:eL B v ts)(bQ:ts.length<2^62):Rd Tryz.prog 220 #[v] B (· =.bool (decide (∀t∈ts,TF t∧some t.n=ts.head?.map Tb.n))):=by
 intro g
 refine DB (R:=aA _) ?_
 unfold L220
 refine ht.bC ?_
 refine⟨fun vs H=>aV B H∧∃k:Nat,vs=[.int .i64 (k:Int)]∧k≤ts.length∧∀i t,i<k→ts[i]? =some t→TF t∧some t.n=ts.head?.map Tb.n,fun vs _=>ts.length-bG vs 0,JE.mk ⟨.refl _,0,rfl,by omega,by omega⟩,?_⟩
 rintro w H ⟨hg,k,hv,hk,aK⟩ gs
 simp only[List.cons.injEq,and_true]at hv
 subst hv
 refine ae.eA (Br.dec (fun hlt=>?_) (fun hlt=>?_))
 ·obtain⟨t,lO⟩:∃t,ts[k]? =some t:=⟨_,List.getElem?_eq_getElem hlt⟩
  obtain⟨t0,OJ⟩:∃t,ts[0]? =some t:=⟨_,List.getElem?_eq_getElem (by omega)⟩
  have hh:ts.head?.map Tb.n=some t0.n:=by rw[List.head?_eq_getElem?,OJ];rfl
  have Vz:=ht.mono hg.sub
  refine Vz.ld lO (fun _ h=>h) fun s hs=>?_
  intro b1 _
  refine St.whole (r:=[.int .i64 t.n,s]) (by exact dR.head _) rfl rfl ?_ ?_
  ·obtain⟨a,c,rfl,_⟩:=hs.1.shape;simp[Value.oneCell']
  intro J hJ
  have hno:∀H',aV B H'→¬(TF t∧some t.n=ts.head?.map Tb.n)→JE J [.bool true] H':=fun H' SH h=>
   JE.mk (hJ _ _ fun gs=>Br.yes (cz.mk SH.jb (by rw[decide_eq_false];exact fun hh=>h (hh t (List.mem_of_getElem? lO)))))
  have QB:aV B ((b1,Obj.cells (List.toArray [.int .i64 t.n,s]) 57 (0,0))::H):=.cons hg
  refine DR.self ?_
  refine aC.whole (r:=[.int .i64 t.n,s]) (by exact List.Mem.head _) rfl ?_
  intro F
  refine af.rd (B:=H) (.cons .here) (zG ⟨s,rfl,hs⟩) ?_
  rintro v rfl
  refine⟨.refl _,Un.not ?_⟩
  by_cases hT:TF t
  case neg=>rw[decide_eq_false hT];exact Br.yes (hno _ QB fun h=>hT h.1)
  rw[decide_eq_true hT]
  refine Br.no ?_
  refine aa.mk (Ld.mk zM rfl ?_)
  refine Vz.Uf OJ zS ?_
  refine ae.dO (aF.mk ?_)
  simp only[cond_false]
  by_cases hn:t.n=t0.n
  case neg=>rw[decide_eq_true hn];exact hno _ QB fun h=>hn (by have:=h.2;rw[hh]at this;simpa using this)
  rw[decide_eq_false (by simpa using hn)]
  refine JE.mk (hJ _ _ fun gs=>Br.no ?_)
  refine ae.aL (b:=1) (by simp[aB];omega) ?_
  refine aD.mk ⟨QB,k+1,rfl,by omega,fun i u hi hu=>?_⟩ (by simp[bG];omega)
  by_cases e:i=k
  ·subst e;rw[lO]at hu;cases hu;exact⟨hT,by rw[hh,hn]⟩
  ·exact aK i u (by omega) hu
 ·refine cz.mk hg.jb ?_
  rw[decide_eq_true]
  intro t ZW
  obtain⟨i,hi,rfl⟩:=List.mem_iff_getElem.1 ZW
  exact aK i _ (by omega) (List.getElem?_eq_getElem hi)
theorem oD{B:Hp}{b:Nat}{t:Tb}{s:Value}{T:TypeId}{fz:Nat×Nat}(hm:(b,Obj.cells #[.int .i64 t.n,s] T fz)∈B)(hw:Words B s t.ws):
  Rd Tryz.prog 220 #[.slice (some ⟨b,0,none⟩) 1 1] B (· =.bool (decide (TF t))):=
 (ti (eL.one (cap:=0) hm hw) (by simp)).mono fun v H ⟨h1,h2⟩=>⟨h1,by rw[h2];congr 1;simp⟩
theorem Vg{B:Hp}{v:Value}{t:Tb}(ht:AI B v t)(u:Int):Rd Tryz.prog 214 #[v,.int .i64 u] B (· =.int .i64 (if TF t then(if 0≤u∧u<t.n then 0 else 2)else 5)):=by
 obtain⟨s,rfl,hw⟩:=ht
 intro g
 refine DG (R:=aA _) ?_
 unfold L214
 intro b1 _
 refine aC.whole (r:=[.int .i64 t.n,s]) (by exact List.Mem.head _) rfl ?_
 refine j6 fun b2=>?_
 refine af.rd .here (oD (by exact List.Mem.head _) (hw.mono zS)) ?_
 rintro v rfl
 refine Un.not ?_
 by_cases hT:TF t
 ·rw[decide_eq_true hT,if_pos hT]
  refine Br.no (ae.lss ?_)
  refine bT.or (decide (t.n≤u)) (fun h=>?_) rfl ?_
  ·refine aa.mk (Ld.mk zM rfl ?_)
   exact ae.geq ⟨rfl,rfl⟩
  ·intro gs
   have hor:(decide (u<0)||decide (t.n≤u))=decide (¬(0≤u∧u<t.n)):=by
    by_cases h1:u<0<;>by_cases h2:t.n≤u<;>simp[h1,h2]<;>omega
   rw[hor]
   refine Br.dec (fun h=>?_) (fun h=>?_)
   ·exact cz.mk (by repeat (first|exact aQ.refl _|apply aQ.cons|apply aQ.skip|apply aQ.dr|apply aQ.fO)) (by rw[if_neg h])
   ·exact cz.mk (by repeat (first|exact aQ.refl _|apply aQ.cons|apply aQ.skip|apply aQ.dr|apply aQ.fO)) (by rw[if_pos (Classical.not_not.1 h)])
 ·rw[decide_eq_false hT,if_neg hT]
  exact Br.yes (cz.mk (by repeat (first|exact aQ.refl _|apply aQ.cons|apply aQ.skip|apply aQ.dr|apply aQ.fO)) rfl)
theorem vY{u i:Nat}(hu:u<64)(hi:i<18446744073709551616)(FC:i<9223372036854775808)(B:Hp):Rd Tryz.prog 219 #[.int .i64 (u:Int),.int .i64 (i:Int)] B
  (· =.int .u64 ((if 6≤u then(if(i>>>(u-6)).testBit 0 then 18446744073709551615 else 0)else an.mask u:Nat):Int)):=by
 intro g
 refine DC (R:=aA _) ?_
 unfold L219
 refine ae.rD (a:=u) (b:=6) (Br.dec (fun h=>?_) (fun h=>?_))
 ·refine aW.nat (by simpa[aB]using hi) ?_
  refine ae.bH (b:=6) (by simp[aB];omega) h ?_
  refine ae.kJ (by simpa[aB]using hi) ?_
  have hs:i>>>(u-6)<18446744073709551616:=Nat.lt_of_le_of_lt (Nat.shiftRight_le _ _) hi
  refine ae.jm (b:=1) (by simpa[aB]using hs) (by decide) ?_
  refine Un.Zr (by rw[an.eJ];split<;>decide) ?_
  refine cz.mk (.refl _) ?_
  rw[if_pos h,an.eJ]
  split<;>rfl
 ·refine⟨fun vs H=>H=B∧∃j:Nat,vs=[.int .u64 ((an.xL u j:Nat):Int),.int .i64 (j:Int)]∧j≤64,fun vs _=>64-bG vs 1,JE.mk ⟨rfl,0,rfl,by omega⟩,?_⟩
  rintro w1 w2 H ⟨rfl,j,hv,hj⟩ gs
  simp only[List.cons.injEq,and_true]at hv
  obtain⟨rfl,rfl⟩:=hv
  refine ae.eA (b:=64) (Br.dec (fun hlt=>?_) (fun hlt=>?_))
  ·refine ae.kJ (by simp[aB];omega) ?_
   have hs:j>>>u<64:=Nat.lt_of_le_of_lt (Nat.shiftRight_le _ _) hlt
   refine ae.jm (b:=1) (by simp[aB];omega) (by decide) ?_
   have h1:j>>>u&&&1≤1:=by rw[an.eJ];split<;>decide
   refine aW.nat (by simp[aB];omega) ?_
   refine ae.wQ ?_
   have h2:((j>>>u&&&1)<<<j)<18446744073709551616:=by
    rw[Nat.shiftLeft_eq]
    calc _≤1*2^j:=Nat.mul_le_mul_right _ h1
     _<2^64:=by rw[Nat.one_mul];exact Nat.pow_lt_pow_right (by decide) hlt
   rw[Nat.mod_eq_of_lt h2]
   have h3:an.xL u j<18446744073709551616:=Nat.lt_of_lt_of_le (an.xK u j) (Nat.pow_le_pow_right (n:=2) (by decide) hj)
   refine ae.Jd (by simpa[aB]using h3) (by simpa[aB]using h2) ?_
   refine ae.aL (b:=1) (by simp[aB];omega) ?_
   exact aD.mk ⟨rfl,j+1,rfl,by omega⟩ (by simp[bG];omega)
  ·have:j=64:=by omega
   subst this
   exact cz.mk (.refl _) (by rw[if_neg h];rfl)
theorem ng{n:Nat}(hn:n≤16){fv:Value}{f:FuncId}{first cap:Array Value}(LA:fv=.func (.func f) first cap)(gK:bB Tryz.prog f=true){F:Nat→Nat}(hF:∀i,i<an.wN n→F i<18446744073709551616){B:Hp}
 (hc:∀i:Nat,i<an.wN n→Rd Tryz.prog f (first++ #[.int .i64 (i:Int)]++cap) B (· =.int .u64 ((F i:Nat):Int))):
  Px Tryz.prog 212 #[.int .i64 (n:Int),fv] B (fun v H=>AI H v ⟨n,(List.range (an.wN n)).map fun i=>F i&&&an.dg n⟩):=by
 intro g
 have Yd:=an.r6 hn
 refine DI (R:=aA _) ?_
 unfold L212
 intro b1 _
 refine af.rd (.cons .here) (yh hn B) ?_
 rintro v rfl
 refine cX.ints (jH hn).1 (jH hn).2 fun bw=>?_
 refine Build.mk (cs:=[.int .i64 (n:Int),.slice (some ⟨bw,0,none⟩) (an.wN n) (an.wN n)]) (by kernel_rfl) ?_
 intro b8 _
 refine St.whole (r:=[.int .i64 (n:Int),.slice (some ⟨bw,0,none⟩) (an.wN n) (an.wN n)]) (by exact dR.head _) rfl rfl (by simp[Value.oneCell']) ?_
 refine aa.mk (Ld.mk zM rfl ?_)
 refine aY.mk ?_
 rw[range_zero (G:=fun i=>F i&&&an.dg n)]
 refine⟨fun vs H=>∃i:Nat,vs=[.int .i64 (i:Int)]∧i≤an.wN n∧H=(b8,.cells (List.toArray [.int .i64 (n:Int),.slice (some ⟨bw,0,none⟩) (an.wN n) (an.wN n)]) 57 (0,0))::
   (bw,.cells (ax .u64 (iw ((List.range (an.wN n)).map fun k=>if k<i then F k&&&an.dg n else 0))) 50 (0,0))::(b1,.cells #[.int .i64 0,.slice none 0 0] 57 (0,0))::B,
  fun vs _=>an.wN n-bG vs 0,JE.mk ⟨0,rfl,by omega,rfl⟩,?_⟩
 rintro w H ⟨i,hv,hi,rfl⟩ gs
 simp only[List.cons.injEq,and_true]at hv
 subst hv
 refine ae.eA (Br.dec (fun hlt=>?_) (fun hlt=>?_))
 ·refine DR.self ?_
  refine aa.mk (Ld.mk zM rfl ?_)
  refine cc.of LA gK ?_
  refine af.rd (.cons (.cons (.cons .here))) (hc i hlt) ?_
  rintro v rfl
  refine⟨.refl _,?_⟩
  refine af.rd (.cons (.cons (.cons .here))) (FM hn B) ?_
  rintro v rfl
  refine⟨.refl _,?_⟩
  refine ae.jm (by simpa[aB]using hF i hlt) (by simpa[aB]using an.pF n) ?_
  refine ai.nat hlt ?_
  refine St.ints (l:=iw _) (by exact .tail (.head _)) (by simpa using hlt) ?_
  refine ae.aL (b:=1) (by simp[aB];omega) ?_
  rw[G1 hlt]
  exact aD.mk ⟨i+1,rfl,by omega,rfl⟩ (by simp[bG];omega)
 ·have:i=an.wN n:=by omega
  subst this
  rw[Bb]
  refine aC.whole (r:=[.int .i64 (n:Int),.slice (some ⟨bw,0,none⟩) (an.wN n) (an.wN n)]) (by exact List.Mem.head _) rfl ?_
  refine St.whole (r:=[.int .i64 (n:Int),.slice (some ⟨bw,0,none⟩) (an.wN n) (an.wN n)]) (by exact .tail (.tail (.head _))) rfl rfl (by simp[Value.oneCell']) ?_
  refine aC.whole (r:=[.int .i64 (n:Int),.slice (some ⟨bw,0,none⟩) (an.wN n) (an.wN n)]) (by exact .tail _ (.tail _ (.head _))) rfl ?_
  refine tM.mk (by repeat (first|exact aV.refl _|apply aV.cons|apply aV.app)) ⟨_,rfl,?_⟩
  have:=Words.block (b:=bw) (cap:=an.wN n) (ws:=(List.range (an.wN n)).map fun i=>F i&&&an.dg n) (T:=50) (fz:=(0,0)) (B:=(b8,.cells (List.toArray [.int .i64 (n:Int),.slice (some ⟨bw,0,none⟩) (an.wN n) (an.wN n)]) 57 (0,0))::
   (bw,.cells (ax .u64 (iw ((List.range (an.wN n)).map fun i=>F i&&&an.dg n))) 50 (0,0))::(b1,.cells (List.toArray [.int .i64 (n:Int),.slice (some ⟨bw,0,none⟩) (an.wN n) (an.wN n)]) 57 (0,0))::B) (by exact .tail _ (.head _)) (by simp) (fun w hw=>by
    obtain⟨k,_,rfl⟩:=List.mem_map.1 hw
    exact Nat.lt_of_le_of_lt Nat.and_le_right (an.pF n))
  simpa using this
theorem LP{B:Hp}{pv pb pa s:Value}{u n i:Nat}{c:Bool}{ws:List Nat}(hv:Go.Sx.At B pv [.int .i64 (u:Int)])(hb:Go.Sx.At B pb [.bool c])(ha:Go.Sx.At B pa [.int .i64 (n:Int),s])(hw:Words B s ws)(hf:an.dj n ws)(hu:u<n)(hi:i<an.wN n):
  Rd Tryz.prog 256 #[.int .i64 (i:Int),pv,pb,pa] B (· =.int .u64 ((an.pE ws u c i:Nat):Int)):=by
 intro g
 have hn:=hf.pc
 have Yd:=an.r6 hn
 refine C9 (R:=aA _) ?_
 unfold L256
 refine Ld.at hv (fun _ h=>h) ?_
 refine ae.rD (a:=u) (b:=6) (Br.dec (fun h6=>?_) (fun h6=>?_))
 ·have hp:2^(u-6)≤1024:=Nat.pow_le_pow_right (n:=2) (by decide) (by omega:u-6≤10)
  refine Ld.at hv (fun _ h=>h) ?_
  refine ae.bH (b:=6) (by simp[aB];omega) h6 ?_
  refine ae.uI (a:=1) (by simp[IntKind.bits];omega) (by rw[Nat.one_shiftLeft];simp[aB];omega) ?_
  rw[Nat.one_shiftLeft]
  refine ae.F8 (by simp[aB];omega) (by simp[aB];omega) ?_
  have hand:=nx i (2^(u-6))
  intro J hJ
  have VE:an.az i (u-6) c<an.wN n:=by
   rw[an.EW (by omega)]at hi⊢
   exact an.fP hi (by omega)
  have iF:JE J [.int .i64 ((an.az i (u-6) c:Nat):Int)] B:=by
   refine JE.mk (hJ _ _ fun gs=>?_)
   refine aa.at ha fun q hq=>Ld.at hq (fun _ h=>h) ?_
   have hg:ws[an.az i (u-6) c]? =some (ws.getD (an.az i (u-6) c) 0):=by rw[List.getElem?_eq_getElem (by rw[hf.len];exact VE),List.getD_eq_getElem?_getD,List.getElem?_eq_getElem (by rw[hf.len];exact VE)];rfl
   refine hw.1.ld (cr hg) (fun _ h=>h) ?_
   exact cz.mk (.refl _) (by unfold an.pE;rw[if_pos h6])
  refine Ld.at hb (fun _ h=>h) ?_
  cases c
  ·exact Br.no iF
  ·refine Br.yes ?_
   refine Ld.at hv (fun _ h=>h) ?_
   refine ae.bH (b:=6) (by simp[aB];omega) h6 ?_
   refine ae.uI (a:=1) (by simp[IntKind.bits];omega) (by rw[Nat.one_shiftLeft];simp[aB];omega) ?_
   rw[Nat.one_shiftLeft]
   refine ae.Jd (by simp[aB];omega) (by simp[aB];omega) ?_
   have e:mG i (2^(u-6))|||2^(u-6)=an.az i (u-6) true:=by
    apply Nat.eq_of_testBit_eq;intro k
    rw[Nat.testBit_or,dJ,an.aq,Nat.testBit_two_pow]
    by_cases e:k=u-6
    ·simp[e]
    ·simp[e,Ne.symm e]
   rw[e];exact iF
 ·have hp:2^u≤32:=Nat.pow_le_pow_right (n:=2) (by decide) (by omega:u≤5)
  have hg:ws[i]? =some (ws.getD i 0):=by rw[List.getElem?_eq_getElem (by rw[hf.len];exact hi),List.getD_eq_getElem?_getD,List.getElem?_eq_getElem (by rw[hf.len];exact hi)];rfl
  have hwi:=hw.2 _ (List.mem_of_getElem? hg)
  have hm:=an.jr u
  refine DR.self ?_
  refine Ld.at hv (fun _ h=>h) (Ld.at hv (fun _ h=>h) ?_)
  refine ae.uI (a:=1) (b:=u) (by simp[IntKind.bits];omega) (by rw[Nat.one_shiftLeft];simp[aB];omega) ?_
  rw[Nat.one_shiftLeft]
  refine af.rd .here (vY (u:=u) (i:=0) (by omega) (by omega) (by omega) B) ?_
  rintro v rfl
  rw[if_neg h6]
  refine⟨.refl _,?_⟩
  refine Ld.at hb (fun _ h=>h) ?_
  cases c
  ·refine Br.no ?_
   refine aa.at ha fun q hq=>Ld.at hq (fun _ h=>h) ?_
   refine hw.1.ld (cr hg) (fun _ h=>h) ?_
   refine ae.F8 (by simpa[aB]using hwi) (by simpa[aB]using hm) ?_
   refine ae.wQ ?_
   have:=nx (ws.getD i 0) (an.mask u)
   refine ae.Jd (by simp only[aB];omega) (by simp only[aB];omega) ?_
   exact cz.mk (.refl _) (by unfold an.pE;rw[if_neg h6];rfl)
  ·refine Br.yes ?_
   refine aa.at ha fun q hq=>Ld.at hq (fun _ h=>h) ?_
   refine hw.1.ld (cr hg) (fun _ h=>h) ?_
   refine ae.jm (by simpa[aB]using hwi) (by simpa[aB]using hm) ?_
   have h1:ws.getD i 0&&&an.mask u≤ws.getD i 0:=Nat.and_le_left
   refine ae.kJ (by simp only[aB];omega) ?_
   have h2:=Nat.shiftRight_le (ws.getD i 0&&&an.mask u) (2^u)
   refine ae.Jd (by simp only[aB];omega) (by simp only[aB];omega) ?_
   exact cz.mk (.refl _) (by unfold an.pE;rw[if_neg h6];rfl)
theorem xA{B:Hp}{v:Value}{n u:Nat}{ws:List Nat}{c:Bool}(ht:AI B v ⟨n,ws⟩)(hf:an.dj n ws)(hu:u<n):
  Px Tryz.prog 215 #[v,.int .i64 (u:Int),.bool c] B (fun v H=>AI H v ⟨n,an.fu n ws u c⟩):=by
 obtain⟨s,rfl,hw⟩:=ht
 intro g
 refine DF (R:=aA _) ?_
 unfold L215
 intro b1 _ b3 _ b5 _ b7 _
 refine aa.mk (Ld.mk zM rfl ?_)
 refine af.px (.cons .here) (ng hf.pc rfl (by kernel_rfl) (F:=fun i=>an.pE ws u c i) (fun i hi=>?_) (fun i hi=>?_)) ?_
 ·unfold an.pE
  split
  ·by_cases h:an.az i (u-6) c<ws.length
   ·rw[List.getD_eq_getElem?_getD,List.getElem?_eq_getElem h];exact hf.lt (List.getElem_mem h)
   ·rw[List.getD_eq_getElem?_getD,List.getElem?_eq_none (by omega)];decide
  ·have hg:ws.getD i 0<2^64:=by rw[List.getD_eq_getElem?_getD,List.getElem?_eq_getElem (by rw[hf.len];exact hi)];exact hf.lt (List.getElem_mem _)
   split
   ·refine Nat.or_lt_two_pow (n:=64) (Nat.lt_of_le_of_lt Nat.and_le_left hg) (Nat.lt_of_le_of_lt (Nat.shiftRight_le _ _) (Nat.lt_of_le_of_lt Nat.and_le_left hg))
   ·exact Nat.or_lt_two_pow (n:=64) (Nat.lt_of_le_of_lt (nx _ _) hg) (Nat.mod_lt _ (by decide))
 ·exact LP (Go.Sx.At.block (l:=[.int .i64 (u:Int)]) zM) (Go.Sx.At.block (l:=[.bool c]) zM) (Go.Sx.At.block (l:=[.int .i64 (n:Int),s]) zM) (hw.mono zS) hf hu hi
 ·rintro v N ⟨s',rfl,dw⟩
  refine St.whole (r:=[.int .i64 (n:Int),s']) (by exact .head _) rfl rfl ?_ ?_
  ·have:=aH dw;simpa[Value.oneCell']using this
  refine aC.whole (r:=[.int .i64 (n:Int),s']) (by exact .head _) rfl ?_
  exact tM.mk (by repeat (first|exact aV.refl _|apply aV.cons|apply aV.app)) ⟨s',rfl,dw.mono zS⟩
theorem wI{B:Hp}{v:Value}{n u:Nat}{ws:List Nat}{c:Bool}(ht:AI B v ⟨n,ws⟩)(hf:an.dj n ws)(hu:u<n):
  Px Tryz.prog 148 #[v,.int .i64 (u:Int),.bool c] B (fun r H=>∃v',r=.tuple #[v',.int .i64 0]∧AI H v' ⟨n,an.fu n ws u c⟩):=by
 obtain⟨s,rfl,hw⟩:=ht
 intro g
 refine En (R:=aA _) ?_
 unfold L148
 intro b1 _ b3 _
 refine aC.whole (r:=[.int .i64 (n:Int),s]) (by exact .tail _ (.head _)) rfl ?_
 refine af.rd .here (Vg (t:=⟨n,ws⟩) ⟨s,rfl,hw.mono zS⟩ (u:Int)) ?_
 rintro v rfl
 rw[if_pos (show TF ⟨(n:Int),ws⟩from⟨by simp,by simpa using hf⟩),if_pos ⟨by omega,by simp only;omega⟩]
 refine ae.dO (Br.bt (by simp) ?_)
 refine aC.whole (r:=[.int .i64 (n:Int),s]) (by exact .tail _ (.head _)) rfl ?_
 refine af.px (.cons .here) (xA (v:=.agg (List.toArray [.int .i64 (n:Int),s])) ⟨s,rfl,hw.mono zS⟩ hf hu) ?_
 rintro v N ⟨s',rfl,dw⟩
 refine St.whole (r:=[.int .i64 (n:Int),s']) (by exact .head _) rfl rfl ?_ ?_
 ·have:=aH dw;simpa[Value.oneCell']using this
 refine aC.whole (r:=[.int .i64 (n:Int),s']) (by exact .head _) rfl ?_
 exact tM.mk (by repeat (first|exact aV.refl _|apply aV.cons|apply aV.app)) ⟨_,rfl,s',rfl,dw.mono zS⟩
theorem z7{w j:Nat}(hj:j<8):((List.range (j+1)).map fun i=>UInt8.ofNat (w>>>(8*i)))=((List.range j).map fun i=>UInt8.ofNat (w>>>(8*i)))++[UInt8.ofNat (w>>>(8*j))]:=by
 rw[List.range_succ,List.map_append];rfl
theorem Ia(l:List UInt8)(n:Nat):qx (l++[UInt8.ofNat n])=qx l++[[Value.int .u8 ((n%256:Nat):Int)]]:=by
 simp[qx]
theorem Bu{B:Hp}{v:Value}{t:Tb}(ht:AI B v t)(hl:t.ws.length≤4294967296):Rd Tryz.prog 234 #[v] B (· =wL (an.gn t.ws)):=by
 obtain⟨s,rfl,hw⟩:=ht
 intro g
 refine Ds (R:=aA _) ?_
 unfold L234
 intro b1 _
 refine aa.mk (Ld.mk zM rfl ?_)
 refine hw.1.bC ?_
 rw[ak]
 refine⟨fun vs H=>∃(k:Nat) (v:Value) (C:Hp),vs=[v,.int .i64 (k:Int)]∧k≤t.ws.length∧H=C++B∧aR 5 1 v (qx (an.gn (t.ws.take k))) C,fun vs _=>t.ws.length-bG vs 1,
  JE.of (.tail) ⟨0,_,[],rfl,by omega,rfl,aR.nil _ _⟩,?_⟩
 rintro w6 w7 H ⟨k,v,C,hv,hk,rfl,ho⟩ gs
 simp only[List.cons.injEq,and_true]at hv
 obtain⟨rfl,rfl⟩:=hv
 refine ae.eA (Br.dec (fun hlt=>?_) (fun hlt=>?_))
 ·have hg:t.ws[k]? =some t.ws[k]:=List.getElem?_eq_getElem hlt
  have hwk:=hw.2 _ (List.getElem_mem hlt)
  refine hw.1.ld (cr hg) zS ?_
  have hlen:(qx (an.gn (t.ws.take k))).length=8*k:=by simp only[qx,List.length_map,an.qQ,List.length_take];omega
  refine⟨fun vs H=>∃(j:Nat) (v:Value) (C:Hp),vs=[v,.int .i64 (j:Int)]∧j≤8∧H=C++B∧aR 5 1 v (qx (an.gn (t.ws.take k)++(List.range j).map fun i=>UInt8.ofNat (t.ws[k]>>>(8*i)))) C,fun vs _=>8-bG vs 1,
   JE.mk ⟨0,_,C,rfl,by omega,rfl,by simpa using ho⟩,?_⟩
  rintro w8 w9 H ⟨j,v,C,hv,hj,rfl,ho⟩ gs
  simp only[List.cons.injEq,and_true]at hv
  obtain⟨rfl,rfl⟩:=hv
  refine ae.eA (b:=8) (Br.dec (fun h8=>?_) (fun h8=>?_))
  ·refine ae.uN (a:=8) (by simp[aB];omega) ?_
   refine ae.kJ (by simpa[aB]using hwk) ?_
   refine aW.abL ?_
   refine av.int (e:=5) (by kernel_rfl) (by kernel_rfl) (by kernel_rfl) fun xb=>?_
   refine ho.Ih (A:=[_]) (r:=[Value.int .u8 (((t.ws[k]>>>(8*j))%256:Nat):Int)]) (by exact .head _) rfl (by simp[Value.oneCell']) ⟨[.int .u8 0],rfl,rfl⟩ (by simp only[qx,List.length_map,List.length_append,List.length_range]at hlen⊢;omega) (by simp only[qx,List.length_map,List.length_append,List.length_range]at hlen⊢;omega) fun v' C' cI=>?_
   refine ae.aL (b:=1) (by simp[aB];omega) ?_
   refine aD.of .tail ⟨j+1,_,C',rfl,by omega,rfl,?_⟩ (by simp[bG];omega)
   rw[z7 h8,←List.append_assoc,Ia];exact cI
  ·have:j=8:=by omega
   subst this
   refine ae.aL (b:=1) (by simp[aB];omega) ?_
   refine aD.mk ⟨k+1,_,C,rfl,by omega,rfl,?_⟩ (by simp[bG];omega)
   rw[List.take_succ_eq_append_getElem hlt,an.gn,List.flatMap_append]
   simpa[an.gn,an.jH]using ho
 ·have:k=t.ws.length:=by omega
  subst this
  rw[List.take_length]at ho
  refine jI.own ho (fun _ h=>List.mem_append_left _ h) ?_
  exact cz.mk .right rfl
theorem TC{B:Hp}{b n:Nat}{es:Array MapEntry}{ck:Nat}{m:List (List UInt8×List Nat)}{v:Value}{ws:List Nat}(hE:fk n B es ck m)(ht:AI B v ⟨n,ws⟩)(hf:an.dj n ws):
  Fc Tryz.prog 233 #[.map (some b),v] ((b,.map es ck)::B) (fun _ H=>∃es' ct N,H=(b,.map es' ct)::(N++B)∧fk n (N++B) es' ct (wF m ws)):=by
 obtain⟨s,rfl,hw⟩:=ht
 intro g
 refine Du (R:=aA _) ?_
 unfold L233
 intro b1 _
 refine DR.self ?_
 refine aC.whole (r:=[.int .i64 (n:Int),s]) (by exact .head _) rfl ?_
 refine aC.whole (r:=[.int .i64 (n:Int),s]) (by exact .head _) rfl ?_
 refine af.rd (.cons (.cons .here)) (Bu (t:=⟨n,ws⟩) ⟨s,rfl,hw⟩ (rT hf)) ?_
 rintro v rfl
 refine⟨.refl _,?_⟩
 refine hE.bY (b:=b) ⟨s,rfl,hw⟩ hf fun es' ct zx=>⟨_,.tail (.head _),?_⟩
 exact aA.mk (lR:=(b,.map es' ct)::([]++B)) .tail ⟨es',ct,[],rfl,zx⟩
theorem vx{B:Hp}{v:Value}{n:Nat}{ts:List Tb}{L:List (List Nat)}(ht:eL B v ts)(hL:ts=L.map fun ws=>⟨n,ws⟩)(hf:∀ws∈L,an.dj n ws)(bQ:L.length<4611686018427387904):
  Fc Tryz.prog 176 #[v] B (fun r H=>∃b es ck m N,r=.map (some b)∧H=(b,.map es ck)::(N++B)∧fk n (N++B) es ck m∧∀x,x∈m.map Prod.snd↔x∈L):=by
 have hlen:ts.length=L.length:=by rw[hL];simp
 intro g
 refine D9 (R:=aA _) ?_
 unfold L176
 intro b _
 refine ht.bC ?_
 rw[hlen]
 refine⟨fun vs H=>∃(k:Nat) (es:Array MapEntry) (ck:Nat) (m:List (List UInt8×List Nat)) (N:Hp),vs=[.int .i64 (k:Int)]∧k≤L.length∧H=(b,.map es ck)::(N++B)∧fk n (N++B) es ck m∧∀x,x∈m.map Prod.snd↔x∈L.take k,
  fun vs _=>L.length-bG vs 0,JE.mk ⟨0,_,_,[],[],rfl,by omega,rfl,fk.empty _ _,by simp⟩,?_⟩
 rintro w H ⟨k,es,ck,m,N,hv,hk,rfl,hE,hm⟩ gs
 simp only[List.cons.injEq,and_true]at hv
 subst hv
 refine ae.eA (Br.dec (fun hlt=>?_) (fun hlt=>?_))
 ·have hg:ts[k]? =some ⟨n,L[k]⟩:=by rw[hL,List.getElem?_map,List.getElem?_eq_getElem hlt];rfl
  have nE:=hf L[k] (List.getElem_mem hlt)
  refine ht.ld hg zS fun s hw=>?_
  intro b2 _
  refine St.whole (r:=[.int .i64 (n:Int),s]) (by exact .head _) rfl rfl ?_ ?_
  ·have:=aH hw;simpa[Value.oneCell']using this
  refine aC.whole (r:=[.int .i64 (n:Int),s]) (by exact .head _) rfl ?_
  refine af.fn (.cons .here) (TC hE ⟨s,rfl,hw.mono zS⟩ nE) ?_
  rintro r C' ⟨es',ct,N',rfl,zx⟩
  refine ae.aL (b:=1) (by simp[aB];omega) ?_
  refine aD.of .tail ⟨k+1,es',ct,wF m L[k],N'++N,rfl,by omega,by rw[List.append_assoc],by rw[List.append_assoc];exact zx,fun x=>?_⟩ (by simp[bG];omega)
  rw[p5 hE.2 nE,hm,List.take_succ_eq_append_getElem hlt,List.mem_append,List.mem_singleton]
 ·have:k=L.length:=by omega
  subst this
  rw[List.take_length]at hm
  exact aA.here ⟨b,es,ck,m,N,rfl,rfl,hE,hm⟩
theorem tg{B:Hp}{bm n u:Nat}{es:Array MapEntry}{ck:Nat}{m:List (List UInt8×List Nat)}(hm:(bm,Obj.map es ck)∈B)(hE:fk n B es ck m)(hu:u<n)(bQ:m.length<4611686018427387904):
  Fc Tryz.prog 177 #[.map (some bm),.int .i64 (u:Int)] B (fun r H=>∃b' es' ct m' N,r=.tuple #[.map (some b'),.int .i64 ((an.nodes n (m.map Prod.snd) u).length:Int)]∧H=(b',.map es' ct)::(N++B)∧fk n (N++B) es' ct m'∧
   ∀x,x∈m'.map Prod.snd↔∃t∈m.map Prod.snd,∃c,x=an.fu n t u c):=by
 intro g
 refine D8 (R:=aA _) ?_
 unfold L177
 intro b' _
 refine .inr ⟨bm,es,ck,rfl,.tail _ hm,fun bi _=>?_⟩
 refine⟨fun vs H=>∃(es':Array MapEntry) (ct:Nat) (m':List (List UInt8×List Nat)) (seen:Array Nat) (N:Hp) (D:List (List Nat)),vs=[.int .i64 ((an.nodes n D u).length:Int)]∧
   H=(bi,.mapIter (some bm) ck seen ck)::(b',.map es' ct)::(N++B)∧fk n (N++B) es' ct m'∧(m.map Prod.snd).Perm (D++(cG es m seen).map Prod.snd)∧∀x,x∈m'.map Prod.snd↔∃t∈D,∃c,x=an.fu n t u c,
  fun vs H=>match H with|(_,.mapIter _ _ seen _)::_=>(cG es m seen).length|_=>0,JE.mk ⟨_,_,[],_,[],[],rfl,rfl,fk.empty _ _,?_,by simp⟩,?_⟩
 ·rw[oa hE.1];simp
 rintro w H ⟨es',ct,m',seen,N,D,hv,rfl,zx,fW,hmem⟩ gs
 simp only[List.cons.injEq,and_true]at hv
 subst hv
 have hbm:∀{X:Hp},(bm,Obj.map es ck)∈X++B:=List.mem_append_right _ hm
 refine hE.1.next (.tail _ (.tail _ hbm)) (.head _) (fun e x seen' he hkey hval hstep Wn hfind=>⟨_,.head _,?_⟩) (fun BE=>?_)
 ·obtain⟨bs,ws⟩:=x
  simp only at hval hkey
  refine Ext.mk rfl (Br.yes ?_)
  refine⟨bi,bm,ck,seen',e.born,ck,es,e,rfl,.head _,Wn,.tail _ (.tail _ hbm),hfind,?_⟩
  refine Ext.mk rfl ?_
  have hx:(bs,ws)∈m:=by
   have h:=hstep.mem_iff.2 (List.mem_cons_self (a:=(bs,ws)))
   unfold cG at h
   obtain⟨p,hp,nj⟩:=List.mem_map.1 h
   rw[←nj]
   exact(List.of_mem_zip (List.mem_filter.1 hp).1).2
  obtain⟨hbs,hf⟩:=hE.2 _ hx
  simp only at hbs hf
  obtain⟨s,Wd,hw⟩:=hval
  rw[Wd]
  have hone:=aH hw
  intro b1 _
  refine St.whole (r:=[.int .i64 (n:Int),s]) (by exact .head _) rfl rfl (by simpa[Value.oneCell']using hone) ?_
  refine aC.whole (r:=[.int .i64 (n:Int),s]) (by exact .head _) rfl ?_
  refine af.px (B:=N++B) (.cons (.cons (.cons .here))) (wI (n:=n) (ws:=ws) ⟨s,rfl,hw.mono zS⟩ hf hu) ?_
  rintro r N1 ⟨v1,rfl,s1,rfl,jJ⟩
  have VP:=aH jJ
  refine Ext.mk rfl (Ext.mk rfl ?_)
  intro b2 _
  refine St.whole (r:=[.int .i64 (n:Int),s1]) (by exact .head _) rfl rfl (by simpa[Value.oneCell']using VP) ?_
  refine aC.whole (r:=[.int .i64 (n:Int),s]) (by exact .tail _ (.head _)) rfl ?_
  refine af.px (B:=N1++(N++B)) (.cons (.cons (.cons (.cons .here)))) (wI (n:=n) (ws:=ws) ⟨s,rfl,hw.mono zS⟩ hf hu) ?_
  rintro r N2 ⟨v2,rfl,s2,rfl,pA⟩
  have VO:=aH pA
  refine Ext.mk rfl (Ext.mk rfl ?_)
  intro b3 _
  refine St.whole (r:=[.int .i64 (n:Int),s2]) (by exact .head _) rfl rfl (by simpa[Value.oneCell']using VO) ?_
  refine DR.self ?_
  refine aC.whole (r:=[.int .i64 (n:Int),s1]) (by exact .tail _ (.head _)) rfl ?_
  refine aC.whole (r:=[.int .i64 (n:Int),s2]) (by exact .head _) rfl ?_
  have f1:=an.cW (v:=u) (ws:=ws) (b:=false) hf.pc
  have f2:=an.cW (v:=u) (ws:=ws) (b:=true) hf.pc
  refine af.rd (B:=N2++(N1++(N++B))) (.cons (.cons (.cons (.cons (.cons .here))))) (Bu (t:=⟨n,an.fu n ws u false⟩) ⟨s1,rfl,jJ.mono zS⟩ (rT f1)) ?_
  rintro v rfl
  refine⟨.refl _,?_⟩
  refine af.rd (B:=N2++(N1++(N++B))) (.cons (.cons (.cons (.cons (.cons .here))))) (Bu (t:=⟨n,an.fu n ws u true⟩) ⟨s2,rfl,pA⟩ (rT f2)) ?_
  rintro v rfl
  refine⟨.refl _,?_⟩
  intro J hJ
  have xx:(an.gn (an.fu n ws u false)≠an.gn (an.fu n ws u true))↔an.dep n ws u=true:=by
   simp only[an.dep,ne_eq,decide_eq_true_eq]
   exact not_congr ⟨fun h=>f1.key_inj f2 h,fun h=>by rw[h]⟩
  have iF:JE J [.int .i64 ((an.nodes n (D++[ws]) u).length:Int)] ((b3,.cells (List.toArray [.int .i64 (n:Int),s2]) 57 (0,0))::(b2,.cells (List.toArray [.int .i64 (n:Int),s1]) 57 (0,0))::
    (b1,.cells (List.toArray [.int .i64 (n:Int),s]) 57 (0,0))::(bi,.mapIter (some bm) ck seen' ck)::(b',.map es' ct)::(N2++(N1++(N++B)))):=by
   refine JE.mk (hJ _ _ fun gs=>?_)
   refine DR.of (R:=(b3,.cells (List.toArray [.int .i64 (n:Int),s2]) 57 (0,0))::(b2,.cells (List.toArray [.int .i64 (n:Int),s1]) 57 (0,0))::[]) ?_ ?_
   ·exact .cons (.cons (fun g w h=>(Own.left (B:=_) (A:=[]) h)))
   refine aC.whole (r:=[.int .i64 (n:Int),s1]) (by exact .tail _ (.head _)) rfl ?_
   refine aC.whole (r:=[.int .i64 (n:Int),s2]) (by exact .head _) rfl ?_
   have vQ:=zx.mono (B':=N2++(N1++(N++B))) zS
   refine vQ.bY (b:=b') (ws:=an.fu n ws u false) ⟨s1,rfl,jJ.mono zS⟩ f1 fun mz nL QV=>⟨_,.tail (.tail (.tail (.tail (.head _)))),?_⟩
   refine⟨.cons (.cons (fun g w h=>(Own.left (B:=_) (A:=[]) h))),?_⟩
   refine QV.bY (b:=b') (ws:=an.fu n ws u true) ⟨s2,rfl,pA⟩ f2 fun rW wc hE4=>⟨_,.tail (.tail (.tail (.tail (.head _)))),?_⟩
   refine aD.of (H':=(bi,.mapIter (some bm) ck seen' ck)::(b',.map rW wc)::((N2++(N1++N))++B)) ?_ ⟨rW,wc,wF (wF m' (an.fu n ws u false)) (an.fu n ws u true),seen',N2++(N1++N),D++[ws],rfl,rfl,?_,?_,fun x=>?_⟩ ?_
   ·refine .skip (.skip (.skip (.cons (.cons ?_))))
    intro g w h;rw[List.append_assoc,List.append_assoc];exact h
   ·rw[List.append_assoc,List.append_assoc];exact hE4
   ·refine fW.trans ?_
    refine(List.Perm.append_left D (hstep.map Prod.snd)).trans ?_
    simp only[List.map_cons,List.append_assoc,List.cons_append,List.nil_append]
    exact .refl _
   ·rw[p5 QV.2 f2,p5 vQ.2 f1,hmem]
    constructor
    ·rintro((⟨t,ht,c,rfl⟩|rfl)|rfl)
     ·exact⟨t,by simp[ht],c,rfl⟩
     ·exact⟨ws,by simp,_,rfl⟩
     ·exact⟨ws,by simp,_,rfl⟩
    ·rintro⟨t,ht,c,rfl⟩
     rcases List.mem_append.1 ht with ht|ht
     ·exact .inl (.inl ⟨t,ht,c,rfl⟩)
     ·simp at ht;subst ht
      cases c
      ·exact .inl (.inr rfl)
      ·exact .inr rfl
   ·have:=hstep.length_eq
    simp only[List.length_cons]at this⊢
    omega
  refine ae.U3 (Br.dec (fun h=>?_) (fun h=>?_))
  ·refine ae.aL (b:=1) ?_ ?_
   ·have h1:=fW.length_eq
    simp only[List.length_map,List.length_append]at h1
    have h2:(an.nodes n D u).length≤D.length:=List.length_filter_le _ _
    simp[aB];omega
   ·have:(an.nodes n (D++[ws]) u).length=(an.nodes n D u).length+1:=by
     simp[an.nodes,List.filter_append,xx.1 h]
    rw[this]at iF;exact iF
  ·have:(an.nodes n (D++[ws]) u).length=(an.nodes n D u).length:=by
    have hd:an.dep n ws u=false:=by cases hh:an.dep n ws u;rfl;exact absurd (xx.2 hh) h
    simp[an.nodes,List.filter_append,hd]
   rw[this]at iF;exact iF
 ·refine Ext.mk rfl (Br.no ?_)
  rw[BE]at fW
  simp only[List.map_nil,List.append_nil]at fW
  refine aA.mk (lR:=(b',.map es' ct)::(N++B)) .tail ⟨b',es',ct,m',N,?_,rfl,zx,fun x=>?_⟩
  ·rw[an.iV fW]
  ·rw[hmem]
   constructor
   ·rintro⟨t,ht,h⟩;exact⟨t,fW.mem_iff.2 ht,h⟩
   ·rintro⟨t,ht,h⟩;exact⟨t,fW.mem_iff.1 ht,h⟩
theorem GU{B:Hp}{v:Value}{ts:List Tb}(ht:eL B v ts)(bQ:ts.length<2^62):Rd Tryz.prog 175 #[v] B (· =.bool (decide (∀t∈ts,TF t∧some t.n=ts.head?.map Tb.n))):=by
 intro g
 refine Ea (R:=aA _) ?_
 unfold L175
 refine ht.bC ?_
 refine⟨fun vs H=>aV B H∧∃k:Nat,vs=[.int .i64 (k:Int)]∧k≤ts.length∧∀i t,i<k→ts[i]? =some t→TF t∧some t.n=ts.head?.map Tb.n,fun vs _=>ts.length-bG vs 0,JE.mk ⟨.refl _,0,rfl,by omega,by omega⟩,?_⟩
 rintro w H ⟨hg,k,hv,hk,aK⟩ gs
 simp only[List.cons.injEq,and_true]at hv
 subst hv
 refine ae.eA (Br.dec (fun hlt=>?_) (fun hlt=>?_))
 ·obtain⟨t,lO⟩:∃t,ts[k]? =some t:=⟨_,List.getElem?_eq_getElem hlt⟩
  obtain⟨t0,OJ⟩:∃t,ts[0]? =some t:=⟨_,List.getElem?_eq_getElem (by omega)⟩
  have hh:ts.head?.map Tb.n=some t0.n:=by rw[List.head?_eq_getElem?,OJ];rfl
  have Vz:=ht.mono hg.sub
  refine Vz.ld lO (fun _ h=>h) fun s hs=>?_
  intro b1 _
  refine St.whole (r:=[.int .i64 t.n,s]) (by exact dR.head _) rfl rfl ?_ ?_
  ·obtain⟨a,c,rfl,_⟩:=hs.1.shape;simp[Value.oneCell']
  intro J hJ
  have hno:∀H',aV B H'→¬(TF t∧some t.n=ts.head?.map Tb.n)→JE J [.bool true] H':=fun H' SH h=>
   JE.mk (hJ _ _ fun gs=>Br.yes (cz.mk SH.jb (by rw[decide_eq_false];exact fun hh=>h (hh t (List.mem_of_getElem? lO)))))
  have QB:aV B ((b1,Obj.cells (List.toArray [.int .i64 t.n,s]) 57 (0,0))::H):=.cons hg
  refine DR.self ?_
  refine aC.whole (r:=[.int .i64 t.n,s]) (by exact List.Mem.head _) rfl ?_
  intro F
  refine af.rd (B:=H) (.cons .here) (zG ⟨s,rfl,hs⟩) ?_
  rintro v rfl
  refine⟨.refl _,Un.not ?_⟩
  by_cases hT:TF t
  case neg=>rw[decide_eq_false hT];exact Br.yes (hno _ QB fun h=>hT h.1)
  rw[decide_eq_true hT]
  refine Br.no ?_
  refine aa.mk (Ld.mk zM rfl ?_)
  refine Vz.Uf OJ zS ?_
  refine ae.dO (aF.mk ?_)
  simp only[cond_false]
  by_cases hn:t.n=t0.n
  case neg=>rw[decide_eq_true hn];exact hno _ QB fun h=>hn (by have:=h.2;rw[hh]at this;simpa using this)
  rw[decide_eq_false (by simpa using hn)]
  refine JE.mk (hJ _ _ fun gs=>Br.no ?_)
  refine ae.aL (b:=1) (by simp[aB];omega) ?_
  refine aD.mk ⟨QB,k+1,rfl,by omega,fun i u hi hu=>?_⟩ (by simp[bG];omega)
  by_cases e:i=k
  ·subst e;rw[lO]at hu;cases hu;exact⟨hT,by rw[hh,hn]⟩
  ·exact aK i u (by omega) hu
 ·refine cz.mk hg.jb ?_
  rw[decide_eq_true]
  intro t ZW
  obtain⟨i,hi,rfl⟩:=List.mem_iff_getElem.1 ZW
  exact aK i _ (by omega) (List.getElem?_eq_getElem hi)
def pR(ts:List Tb):Prop:=∀t∈ts,TF t∧some t.n=ts.head?.map Tb.n
instance (ts:List Tb):Decidable (pR ts):=by unfold pR;infer_instance
theorem om{B:Hp}{v:Value}{ts:List Tb}(ht:eL B v ts)(bQ:ts.length<2^62):Rd Tryz.prog 175 #[v] B (· =.bool (decide (pR ts))):=GU ht bQ
theorem sK{n:Nat}{L:List (List Nat)}(hf:∀ws∈L,an.dj n ws):pR (L.map fun ws=>⟨n,ws⟩):=by
 intro t ht
 obtain⟨ws,Yc,rfl⟩:=List.mem_map.1 ht
 refine⟨⟨by simp,by simpa using hf ws Yc⟩,?_⟩
 cases L with
 |nil=>simp at Yc
 |cons a b=>rfl
theorem Fl{ts:List Tb}(h:pR ts)(hne:ts≠[]):∃(n:Nat) (L:List (List Nat)),n≤16∧ts=L.map (fun ws=>⟨n,ws⟩)∧L≠[]∧∀ws∈L,an.dj n ws:=by
 cases ts with
 |nil=>exact absurd rfl hne
 |cons t r=>
  have ht:=(h t (by simp)).1
  have hn:∀u∈t::r,u.n=t.n:=fun u hu=>by have:=(h u hu).2;simpa using this
  refine⟨t.n.toNat,(t::r).map Tb.ws,ht.2.pc,?_,by simp,fun ws Yc=>?_⟩
  ·rw[List.map_map]
   conv=>lhs;rw[←List.map_id (t::r)]
   apply List.map_congr_left
   intro u hu
   have h1:=hn u hu
   have h2:=ht.1
   obtain⟨un,uw⟩:=u
   simp only[Function.comp,id]at h1⊢
   congr 1;omega
  ·obtain⟨u,hu,rfl⟩:=List.mem_map.1 Yc
   have:=(h u hu).1.2
   rwa [hn u hu]at this
end Go.Proofs
namespace aE
theorem Rm.qq(m:Rm):∀ls ord,m.dH 0 ls ord=ls.take (m.dH 0 ls ord).length
 | [],_=>rfl
 |c::cs,ord=>by
  by_cases hf:m.fit ord (0+c)=true
  ·have:=m.qq cs (ik ord (0+c))
   rw[dH,if_pos hf,List.length_cons,List.take_succ_cons,←this,Nat.zero_add]
  ·rw[dH,if_neg hf];simp
def Rm.can(m:Rm)(ord ls:List Nat):Bool:=decide ((m.dH 0 ls ord).length=ls.length)
theorem Rm.L1(m:Rm){ord ls:List Nat}{i:Nat}(hi:i<(m.dH 0 ls ord).length){l:Nat}(hl:ls[i]? =some l):m.fit (cE ord (ls.take i)) l=true:=by
 obtain⟨_,c,h1,h2⟩:=m.zE 0 ls ord i hi
 rw[hl]at h1;cases h1
 rw[m.qq,List.take_take,Nat.min_eq_left (Nat.le_of_lt hi),Nat.zero_add]at h2
 exact h2
theorem Rm.HM(m:Rm){ord ls:List Nat}{l:Nat}(hl:ls[(m.dH 0 ls ord).length]? =some l):m.fit (cE ord (ls.take (m.dH 0 ls ord).length)) l=false:=by
 have:=m.zF 0 ls ord l hl
 rw[Nat.zero_add]at this
 rw[←m.qq]
 exact this
theorem jq{α:Type}[DecidableEq α]:∀{l p:List α},l.Nodup→(∀x∈l,x∈p)→p.length≤l.length→l.Perm p
 | [],p,_,_,h=>by
  have:p=[]:=List.length_eq_zero_iff.1 (by simpa using h)
  subst this;exact .refl _
 |x::t,p,hn,hs,hl=>by
  have hx:=hs x (by simp)
  have hp:=List.perm_cons_erase hx
  have hlen:(p.erase x).length=p.length-1:=List.length_erase_of_mem hx
  have hpos:=List.length_pos_of_mem hx
  refine(List.Perm.cons x (jq (List.nodup_cons.1 hn).2 (fun y hy=>?_) (by simp only[List.length_cons]at hl;omega))).trans hp.symm
  refine(List.mem_erase_of_ne fun e=>?_).2 (hs y (by simp[hy]))
  subst e;exact(List.nodup_cons.1 hn).1 hy
end aE
set_option maxRecDepth 100000
namespace Go.Proofs
open Go Go.Sx
open aE
theorem y7{l:List Nat}(h:l.Nodup):(iw l).Nodup:=List.pairwise_map.2 (h.imp fun hne e=>hne (Int.ofNat.inj e))
theorem ny{p:List Int}:mJ p↔p.Perm (iw (List.range p.length)):=by
 constructor
 ·intro h
  refine(jq (y7 List.nodup_range) (fun x hx=>?_) (by rw[ak,List.length_range];exact Nat.le_refl _)).symm
  obtain⟨k,hk,rfl⟩:=List.mem_map.1 hx
  exact h k (List.mem_range.1 hk)
 ·intro h v hv
  exact h.mem_iff.2 (List.mem_map.2 ⟨v,List.mem_range.2 hv,rfl⟩)
theorem ML{p:List Int}(hn:p.Nodup)(h:∀x∈p,0≤x∧x<(p.length:Int)):mJ p:=by
 refine ny.2 (jq hn (fun x hx=>?_) (by rw[ak,List.length_range];exact Nat.le_refl _))
 obtain⟨h1,h2⟩:=h x hx
 exact List.mem_map.2 ⟨x.toNat,List.mem_range.2 (by omega),by show((x.toNat:Nat):Int)=x;omega⟩
theorem Ah{p:List Int}(h:mJ p){x:Int}(hx:x∈p):0≤x∧x<(p.length:Int):=by
 have:=(ny.1 h).mem_iff.1 hx
 obtain⟨k,hk,rfl⟩:=List.mem_map.1 this
 have:=List.mem_range.1 hk
 show(0:Int)≤(k:Int)∧(k:Int)<_
 omega
theorem Ag{p:List Int}(h:mJ p):p.Nodup:=(ny.1 h).nodup_iff.2 (y7 List.nodup_range)
theorem Ks{p:List Int}{i n W:Nat}(hi:i<p.length)(hn:p[i]=(n:Int))(hw:n<W):((List.range W).map fun k=>decide (((k:Nat):Int)∈p.take i)).set n true=(List.range W).map fun k=>decide (((k:Nat):Int)∈p.take (i+1)):=by
 apply List.ext_getElem?
 intro j
 rw[List.take_succ_eq_append_getElem hi,hn]
 by_cases hj:j<W
 ·by_cases e:n=j
  ·subst e;rw[List.getElem?_set_self (by simpa using hw)];simp[hw]
  ·rw[List.getElem?_set_ne e]
   simp only[List.getElem?_map,List.getElem?_range hj,Option.map_some,List.mem_append,List.mem_singleton]
   congr 1
   have:¬((j:Nat):Int)=(n:Int):=by omega
   simp[this]
 ·rw[List.getElem?_eq_none (by simp;omega),List.getElem?_eq_none (by simp;omega)]
theorem GR{p:List Int}{W:Nat}:List.replicate W false=(List.range W).map fun k=>decide (((k:Nat):Int)∈p.take 0):=by
 apply List.ext_getElem?
 intro j
 by_cases hj:j<W
 ·simp[hj]
 ·rw[List.getElem?_eq_none (by simp;omega),List.getElem?_eq_none (by simp;omega)]
theorem mX{B:Hp}{v:Value}{p:List Int}(h:cT .i64 B v p)(bQ:p.length≤70368744177664):Rd Tryz.prog 101 #[v] B (fun r=>(r=.int .i64 0∧mJ p∧p.length≤64)∨(r=.int .i64 13∧mJ p∧64<p.length)∨(r=.int .i64 4∧¬mJ p)):=by
 intro g
 refine EL (R:=aA _) ?_
 unfold L101
 refine h.bC (cX.Mw (by omega) fun b=>h.bC ?_)
 rw[GR (p:=p)]
 refine⟨fun vs H=>∃i:Nat,vs=[.int .i64 (i:Int)]∧H=(b,.cells (eE ((List.range p.length).map fun k=>decide (((k:Nat):Int)∈p.take i))) 4 (0,0))::B∧i≤p.length∧(p.take i).Nodup∧∀x∈p.take i,0≤x∧x<(p.length:Int),fun vs _=>p.length-bG vs 0,
  JE.mk ⟨0,rfl,rfl,Nat.zero_le _,by simp,by simp⟩,?_⟩
 rintro w H ⟨i,hv,rfl,hi,g7,hin⟩ gs
 simp only[List.cons.injEq,and_true]at hv
 subst hv
 refine ae.eA (Br.dec (fun hlt=>?_) (fun hlt=>?_))
 ·refine h.ld (List.getElem?_eq_getElem hlt) (fun _ h=>.tail _ h) ?_
  obtain⟨x,hx⟩:∃x,p[i]=x:=⟨_,rfl⟩
  have Vt:x∈p:=by rw[←hx];exact List.getElem_mem hlt
  rw[hx]
  have hB:=Ao.block (b:=b) (cap:=p.length) (l:=(List.range p.length).map fun k=>decide (((k:Nat):Int)∈p.take i)) (T:=4) (fz:=(0,0)) (B:=(b,.cells (eE ((List.range p.length).map fun k=>decide (((k:Nat):Int)∈p.take i))) 4 (0,0))::B) (.head _) (by simp)
  rw[List.length_map,List.length_range]at hB
  refine ae.lss ?_
  refine bT.or (decide ((p.length:Int)≤x)) (fun _=>h.bC (ae.geq ⟨rfl,rfl⟩)) (by simp) fun gs=>?_
  rw[←Bool.decide_or]
  refine bT.or (decide (x∈p.take i)) (fun hno=>?_) (by simp) fun gs=>?_
  ·have zi:=of_decide_eq_false hno
   obtain⟨n,rfl⟩:∃n:Nat,x=n:=⟨x.toNat,by omega⟩
   refine hB.ld (b:=decide (((n:Nat):Int)∈p.take i)) ?_ (fun _ h=>h) ⟨rfl,rfl⟩
   rw[List.getElem?_map,List.getElem?_range (by omega)];rfl
  rw[←Bool.decide_or]
  refine Br.dec (fun aaN=>cz.mk .tail (.inr (.inr ⟨rfl,fun ha=>?_⟩))) (fun V6=>?_)
  ·have h1:=Ah ha Vt
   rcases aaN with hb|hb
   ·omega
   ·have h2:=Ag ha
    rw[←List.take_append_drop i p,List.nodup_append]at h2
    refine h2.2.2 x hb x ?_ rfl
    rw[List.drop_eq_getElem_cons hlt,hx];exact .head _
  ·obtain⟨n,rfl⟩:∃n:Nat,x=n:=⟨x.toNat,by omega⟩
   refine ai.nat (by omega) ?_
   refine St.Mw (l:=(List.range p.length).map fun k=>decide (((k:Nat):Int)∈p.take i)) (.head _) (by simp;omega) ?_
   rw[Ks hlt hx (by omega)]
   refine ae.aL (b:=1) (by simp[aB];omega) ?_
   refine aD.mk ⟨i+1,rfl,rfl,hlt,?_,fun x Hw=>?_⟩ (by simp only[bG];omega)
   ·rw[List.take_succ_eq_append_getElem hlt,hx,List.nodup_append]
    exact⟨g7,by simp,fun a ha b hb e=>by simp at hb;subst hb;subst e;exact V6 (.inr ha)⟩
   ·rw[List.take_succ_eq_append_getElem hlt,hx,List.mem_append,List.mem_singleton]at Hw
    rcases Hw with Hw|rfl
    ·exact hin x Hw
    ·omega
 ·obtain rfl:i=p.length:=by omega
  rw[List.take_length]at g7 hin
  have aK:=ML g7 hin
  refine h.bC (ae.kB (b:=64) (Br.dec (fun hg=>cz.mk .tail (.inr (.inl ⟨rfl,aK,hg⟩))) (fun hg=>cz.mk .tail (.inl ⟨rfl,aK,by omega⟩))))
theorem GQ{B:Hp}{v:Value}{p:List Int}{x:Int}(h:cT .i64 B v p)(bQ:p.length<4611686018427387904):Rd Tryz.prog 179 #[v,.int .i64 x] B (· =.int .i64 (if x∈p then((p.idxOf x:Nat):Int)else-1)):=by
 intro g
 refine D6 (R:=aA _) ?_
 unfold L179
 refine h.bC ?_
 refine⟨fun vs H=>∃i:Nat,vs=[.int .i64 (i:Int)]∧H=B∧i≤p.length∧x∉p.take i,fun vs _=>p.length-bG vs 0,JE.mk ⟨0,rfl,rfl,Nat.zero_le _,by simp⟩,?_⟩
 rintro w H ⟨i,hv,rfl,hi,hq⟩ gs
 simp only[List.cons.injEq,and_true]at hv
 subst hv
 refine ae.eA (Br.dec (fun hlt=>?_) (fun hlt=>?_))
 ·refine h.ld (List.getElem?_eq_getElem hlt) (fun _ h=>h) ?_
  refine ae.jF (Br.dec (fun he=>cz.mk (.refl _) ?_) (fun he=>?_))
  ·rw[if_pos (by rw[he];exact List.getElem_mem hlt),Lg hq hlt he.symm]
  ·refine ae.aL (b:=1) (by simp[aB];omega) ?_
   refine aD.of (.refl _) ⟨i+1,rfl,rfl,hlt,?_⟩ (by simp only[bG];omega)
   rw[List.take_succ_eq_append_getElem hlt,List.mem_append,List.mem_singleton]
   rintro(h|h)
   ·exact hq h
   ·exact he h
 ·refine cz.mk (.refl _) ?_
  rw[List.take_of_length_le (by omega)]at hq
  rw[if_neg hq]
theorem PC{B:Hp}{v1 v2:Value}{p q:List Nat}{n:Nat}(h1:cT .i64 B v1 (iw p))(h2:cT .i64 B v2 (iw q))(hp:p.Perm (List.range n))(hq:q.Perm (List.range n))(hn:n≤64):Rd Tryz.prog 178 #[v1,v2] B (· =.int .i64 0):=by
 have e1:p.length=n:=by rw[hp.length_eq,List.length_range]
 have e2:q.length=n:=by rw[hq.length_eq,List.length_range]
 intro g
 refine D7 (R:=aA _) ?_
 unfold L178
 refine af.rd .here (mX h1 (by rw[ak];omega)) ?_
 rintro v (⟨rfl,_,_⟩|⟨_,_,hl⟩|⟨_,hno⟩)
 rotate_left
 ·rw[ak]at hl;omega
 ·exact absurd (tJ hp) hno
 refine af.rd .here (mX h2 (by rw[ak];omega)) ?_
 rintro v (⟨rfl,_,_⟩|⟨_,_,hl⟩|⟨_,hno⟩)
 rotate_left
 ·rw[ak]at hl;omega
 ·exact absurd (tJ hq) hno
 refine ae.jF ?_
 refine bT.or false (fun _=>ae.jF ⟨rfl,rfl⟩) rfl fun gs=>?_
 refine bT.or false (fun _=>?_) rfl fun gs=>Br.no ?_
 ·refine h1.bC (h2.bC (ae.wZ ⟨rfl,?_⟩))
  rw[ak,ak,decide_eq_false (by omega)]
 ·exact⟨.i64,0,0,rfl,rfl,cz.mk (.refl _) rfl⟩
end Go.Proofs
set_option maxRecDepth 100000
namespace Go.Proofs
open Go Go.Sx
open aE
theorem yY(n:Nat)(ord:List Nat)(L:an.Fs)(k:Nat):(jl n ord L k).length≤2^k*L.length:=Nat.le_trans (List.length_filter_le _ _) (xI k)
theorem jQ(n:Nat)(ord:List Nat)(L:an.Fs):∀m,dA n ord L m+L.length≤2^m*L.length
 |0=>by show 0+L.length≤1*L.length;omega
 |m+1=>by
  have ih:=jQ n ord L m
  have h:=yY n ord L m
  show dA n ord L m+(jl n ord L m).length+L.length≤_
  rw[Nat.pow_succ]
  have:2^m*2*L.length=2*(2^m*L.length):=by rw[Nat.mul_comm (2^m) 2,Nat.mul_assoc]
  omega
def l7(n:Nat)(ord:List Nat)(L:an.Fs)(m:Nat):List Nat:=(List.range m).map fun k=>(jl n ord L k).length
theorem Be(n:Nat)(ord:List Nat)(L:an.Fs)(m:Nat):l7 n ord L (m+1)=l7 n ord L m++[(jl n ord L m).length]:=by
 unfold l7;rw[List.range_succ,List.map_append];rfl
theorem Bd{B:Hp}{v o:Value}{n:Nat}{L:List (List Nat)}{ord:List Nat}(ht:eL B v (L.map fun ws=>⟨n,ws⟩))(hf:∀ws∈L,an.dj n ws)(hne:L≠[])(bQ:L.length<1048576)(ho:cT .i64 B o (iw ord))(vL:ord.length=n)(hA:mJ (iw ord)):
  Px Tryz.prog 99 #[v,o] B (fun r H=>∃s,r=.tuple #[s,.int .i64 0]∧cT .i64 H s (iw (l7 n ord L n))):=by
 obtain⟨w0,Bz⟩:∃w0,L[0]? =some w0:=⟨_,List.getElem?_eq_getElem (List.length_pos_iff.2 hne)⟩
 have qo:n≤16:=(hf w0 (List.mem_of_getElem? Bz)).pc
 intro g
 refine Ik (R:=aA _) ?_
 unfold L99
 refine af.rd .here (om ht (by simp;omega)) ?_
 rintro v rfl
 rw[decide_eq_true (sK hf)]
 refine Un.not (Br.no ?_)
 intro J hJ
 refine ht.bC ?_
 rw[List.length_map]
 have hpos:0<L.length:=List.length_pos_iff.2 hne
 refine ae.kB (b:=0) ?_
 rw[decide_eq_true hpos]
 refine Split.go rfl ?_
 refine ho.bC ?_
 rw[ak,vL]
 refine ht.Uf (i:=0) (t:=⟨n,w0⟩) (by rw[List.getElem?_map,Bz];rfl) (fun _ h=>h) ?_
 refine ae.dO (aF.mk ?_)
 rw[decide_eq_false (by simp)]
 refine Split.go rfl ?_
 refine af.rd .here (mX ho (by rw[ak,vL];omega)) ?_
 rintro w (⟨rfl,_,_⟩|⟨rfl,_,hl⟩|⟨rfl,hno⟩)
 rotate_left
 ·rw[ak]at hl;omega
 ·exact absurd hA hno
 refine ae.jF (aF.mk (JE.mk (hJ _ _ fun gs=>Br.no ?_)))
 refine ho.bC ?_
 rw[ak,vL]
 refine ae.kB (b:=16) (Br.bt (by omega) ?_)
 refine af.fn .here (vx ht rfl hf (by omega)) ?_
 rintro r H ⟨b,es,ck,m,N,rfl,rfl,hE,hm⟩
 refine ho.bC ?_
 rw[ak,vL]
 have hbound:∀k,k≤n→∀m:List (List UInt8×List Nat),(m.map Prod.snd).Nodup→(∀x,x∈m.map Prod.snd↔x∈cur n ord L k)→m.length<4611686018427387904:=by
  intro k hk m g7 hmem
  have h1:=(an.eR g7 (j4 k) hmem).length_eq
  have h2:=xI (n:=n) (ord:=ord) (L:=L) k
  have h3:2^k≤2^16:=Nat.pow_le_pow_right (by decide) (by omega)
  have h4:2^k*L.length≤2^16*L.length:=Nat.mul_le_mul_right _ h3
  rw[List.length_map]at h1
  omega
 refine⟨fun vs H=>∃(k:Nat) (s:Value) (b:Nat) (es:Array MapEntry) (ck:Nat) (m:List (List UInt8×List Nat)) (CS N:Hp),vs=[s,.map (some b),.int .i64 (k:Int)]∧k≤n∧H=CS++((b,.map es ck)::(N++B))∧aN 3 .i64 s (iw (l7 n ord L k)) CS∧fk n (N++B) es ck m∧∀x,x∈m.map Prod.snd↔x∈cur n ord L k,
  fun vs _=>n-bG vs 2,JE.mk ⟨0,_,b,es,ck,m,[],N,rfl,by omega,rfl,aN.nil,hE,fun x=>by rw[hm];exact an.cv.symm⟩,?_⟩
 clear hm hE
 rintro qI ji q8 H ⟨k,s,b,es,ck,m,CS,N,hv,hk,rfl,hs,hE,hm⟩ gs
 simp only[List.cons.injEq,and_true]at hv
 obtain⟨rfl,rfl,rfl⟩:=hv
 have vQ:=hE.mono (B':=(b,Obj.map es ck)::(N++B)) zS
 refine ae.eA (Br.dec (fun hlt=>?_) (fun hlt=>?_))
 ·refine ho.ld (n:=((ord.getD k 0:Nat):Int)) (bc (by omega)) (fun _ h=>List.mem_append_right _ (.tail _ (List.mem_append_right _ h))) ?_
  have oC:ord.getD k 0<n:=by
   have hmem:((ord.getD k 0:Nat):Int)∈iw ord:=List.mem_of_getElem? (bc (by omega))
   have:=Ah hA hmem
   rw[ak,vL]at this;omega
  refine af.fn (.app .here) (tg (.head _) vQ oC (hbound k hk m hE.nodup hm)) ?_
  rintro r H ⟨b',es',ct,m',N',rfl,rfl,zx,hm'⟩
  refine Ext.mk rfl (Ext.mk rfl ?_)
  have SO:(an.nodes n (m.map Prod.snd) (ord.getD k 0)).length=(jl n ord L k).length:=an.iV (an.eR hE.nodup (j4 k) hm)
  have hle:(jl n ord L k).length≤65536*1048576:=Nat.le_trans (yY n ord L k) (Nat.mul_le_mul (Nat.le_trans (Nat.pow_le_pow_right (by decide) (show k≤16 by omega)) (by decide)) (by omega))
  rw[SO]
  refine av.int (e:=3) (by kernel_rfl) (by kernel_rfl) (by kernel_rfl) fun bx=>?_
  have rS:(l7 n ord L k).length=k:=by simp[l7]
  refine hs.oK (x:=(((jl n ord L k).length:Nat):Int)) (.cons .left) (by exact .head _) (by rw[ak,rS];omega) (by rw[ak,rS];omega) fun s' CS' hs'=>?_
  refine ae.aL (b:=1) (by simp[aB];omega) ?_
  refine aD.of .tail ⟨k+1,s',b',es',ct,m',CS',N'++(b,.map es ck)::N,rfl,by omega,by rw[List.append_assoc];rfl,?_,by rw[List.append_assoc];exact zx,fun x=>?_⟩ (by simp only[bG];omega)
  ·rw[Be,cm];exact hs'
  ·rw[hm']
   show _↔x∈an.given n (cur n ord L k) (ord.getD k 0)
   rw[an.bL]
   constructor
   ·rintro⟨t,h1,h2⟩;exact⟨t,(hm t).1 h1,h2⟩
   ·rintro⟨t,h1,h2⟩;exact⟨t,(hm t).2 h1,h2⟩
 ·obtain rfl:k=n:=by omega
  refine tM.mk (.app (.cons (.app (.refl _)))) ⟨_,rfl,hs.ints.mono fun _ h=>List.mem_append_left _ h⟩
theorem Fa{B:Hp}{v o:Value}{n:Nat}{L:List (List Nat)}{ord:List Nat}(ht:eL B v (L.map fun ws=>⟨n,ws⟩))(hf:∀ws∈L,an.dj n ws)(hne:L≠[])(bQ:L.length<1048576)(ho:cT .i64 B o (iw ord))(vL:ord.length=n)(hA:mJ (iw ord)):
  Px Tryz.prog 38 #[v,o] B (fun r H=>r=.tuple #[.int .i64 ((dA n ord L n:Nat):Int),.int .i64 0]):=by
 obtain⟨w0,Bz⟩:∃w0,L[0]? =some w0:=⟨_,List.getElem?_eq_getElem (List.length_pos_iff.2 hne)⟩
 have qo:n≤16:=(hf w0 (List.mem_of_getElem? Bz)).pc
 intro g
 refine IJ (R:=aA _) ?_
 unfold L38
 refine af.px .here (Bd ht hf hne bQ ho vL hA) ?_
 rintro w N ⟨s,rfl,hs⟩
 refine Ext.mk rfl (Ext.mk rfl ?_)
 refine hs.bC ?_
 have rS:∀k,(l7 n ord L k).length=k:=fun k=>by simp[l7]
 rw[ak,rS]
 refine⟨fun vs H=>∃k:Nat,vs=[.int .i64 ((dA n ord L k:Nat):Int),.int .i64 (k:Int)]∧k≤n∧H=N++B,fun vs _=>n-bG vs 1,JE.mk ⟨0,rfl,by omega,rfl⟩,?_⟩
 rintro r7 kF H ⟨k,hv,hk,rfl⟩ gs
 simp only[List.cons.injEq,and_true]at hv
 obtain⟨rfl,rfl⟩:=hv
 refine ae.eA (Br.dec (fun hlt=>?_) (fun hlt=>?_))
 ·have hg:(l7 n ord L n)[k]? =some (jl n ord L k).length:=by
   unfold l7
   rw[List.getElem?_map,List.getElem?_range hlt];rfl
  refine hs.ld (n:=(((jl n ord L k).length:Nat):Int)) (cr hg) (fun _ h=>h) ?_
  have hsz:∀m,m≤16→dA n ord L m≤65536*1048576:=fun m hm=>by
   have:=jQ n ord L m
   have h2:2^m*L.length≤65536*1048576:=Nat.mul_le_mul (Nat.le_trans (Nat.pow_le_pow_right (by decide) hm) (by decide)) (by omega)
   omega
  have h1:=hsz (k+1) (by omega)
  have e1:dA n ord L (k+1)=dA n ord L k+(jl n ord L k).length:=rfl
  refine ae.aL (by simp[aB];omega) ?_
  refine ae.aL (b:=1) (by simp[aB];omega) ?_
  exact aD.mk ⟨k+1,rfl,by omega,rfl⟩ (by simp only[bG];omega)
 ·obtain rfl:k=n:=by omega
  exact tM.mk (.app (.refl _)) rfl
end Go.Proofs
namespace Go.Sx
open Go
section
variable {P:Program} {g:Gh} {H:Hp}
theorem av.RG{t e:TypeId}{z:Value}{a b c d:Value}{K:Value→Hp→Prop}(h1:P.underlying t=some (.slice e))(h2:c6 P e=some 2)(h3:ew P e=some z)
 (h:∀x,K (.slice (some ⟨x,0,Option.none⟩) 2 2) ((x,.cells (rows [[a,b],[c,d]]) e (0,0))::H)):av P t 2 [(0,.agg #[a,b]),(1,.agg #[c,d])] H K:=by
 refine⟨rows [[a,b],[c,d]],e,2,z,h1,h2,h3,by decide,?_,fun b _=>h b⟩
 have e1:Array.range (2*2)=#[0,1,2,3]:=rfl
 simp[Instr.fill,Value.cells,rows,e1]
theorem av.RF{t e:TypeId}{z:Value}{a b c d x y:Value}{K:Value→Hp→Prop}(h1:P.underlying t=some (.slice e))(h2:c6 P e=some 2)(h3:ew P e=some z)
 (h:∀u,K (.slice (some ⟨u,0,Option.none⟩) 3 3) ((u,.cells (rows [[a,b],[c,d],[x,y]]) e (0,0))::H)):av P t 3 [(0,.agg #[a,b]),(1,.agg #[c,d]),(2,.agg #[x,y])] H K:=by
 refine⟨rows [[a,b],[c,d],[x,y]],e,2,z,h1,h2,h3,by decide,?_,fun b _=>h b⟩
 have e1:Array.range (3*2)=#[0,1,2,3,4,5]:=rfl
 simp[Instr.fill,Value.cells,rows,e1]
theorem av.Vq{t e:TypeId}{kd:IntKind}{x y z u:Int}{K:Value→Hp→Prop}(h1:P.underlying t=some (.slice e))(h2:c6 P e=some 1)(h3:ew P e=some (.int kd 0))
 (h:∀b,K (.slice (some ⟨b,0,Option.none⟩) 4 4) ((b,.cells (ax kd [x,y,z,u]) e (0,0))::H)):av P t 4 [(0,.int kd x),(1,.int kd y),(2,.int kd z),(3,.int kd u)] H K:=by
 refine⟨ax kd [x,y,z,u],e,1,_,h1,h2,h3,by decide,?_,fun b _=>h b⟩
 have e1:Array.range (4*1)=#[0,1,2,3]:=rfl
 simp[Instr.fill,Value.cells,ax,e1]
theorem aR.made{T:TypeId}{k b:Nat}(rs:List (List Value))(h:∀r∈rs,r.length=k):aR T k (.slice (some ⟨b,0,none⟩) rs.length rs.length) rs [(b,.cells (rows rs) T (0,0))]:=
 .inr ⟨b,[],by simp,by simp,by simpa using h⟩
end
end Go.Sx
namespace aE
open an
variable {n:Nat} {F:Nat→Nat} {ws us rs:List Nat}
def vG(n:Nat)(F:Nat→Nat):List Nat:=(List.range (wN n)).map fun i=>F i&&&dg n
theorem jU(hn:n≤16):dj n (vG n F):=by
 refine⟨hn,by simp[vG],fun w hw=>?_⟩
 obtain⟨i,_,rfl⟩:=List.mem_map.1 hw
 exact Nat.and_le_right
theorem Hr{x:Nat}(hx:x<2^n):bit (vG n F) x=(F (x/64)).testBit (x%64):=by
 have hi:=yW hx
 unfold bit
 have gD:(vG n F).getD (x/64) 0=F (x/64) &&&dg n:=by simp[vG,hi]
 rw[gD,Nat.testBit_and,kH]
 have Wb:decide (x%64<if 6≤n then 64 else 2^n)=true:=by
  rw[decide_eq_true_eq]
  split
  ·exact Nat.mod_lt _ (by decide)
  ·have h1:2^n≤32:=Nat.pow_le_pow_right (n:=2) (by decide) (by omega:n≤5)
   omega
 rw[Wb,Bool.and_true]
theorem mv{f:Fn}(h:∀x,x<2^n→(F (x/64)).testBit (x%64)=f x)(hf:∀x,f (x%2^n)=f x):eX n (vG n F)=f:=by
 funext x
 unfold eX
 have hx:x%2^n<2^n:=Nat.mod_lt _ (Nat.two_pow_pos n)
 rw[Hr hx,h _ hx,hf]
theorem nm(x:Nat):eX n ws (x%2^n)=eX n ws x:=by unfold eX;rw[Nat.mod_mod]
theorem jL{x:Nat}(hx:x<2^n):(ws.getD (x/64) 0).testBit (x%64)=eX n ws x:=by
 unfold eX bit;rw[Nat.mod_eq_of_lt hx]
theorem yM{j:Nat}(hj:j<64):(18446744073709551615:Nat).testBit j=true:=by
 have:(18446744073709551615:Nat)=2^64-1:=by decide
 rw[this,Nat.testBit_two_pow_sub_one];simpa using hj
theorem rP{w j:Nat}(hw:w<18446744073709551616)(hj:j<64):(18446744073709551615-w).testBit j= !w.testBit j:=by
 have e:(18446744073709551615-w)=2^64-(w+1):=by
  have:(2:Nat)^64=18446744073709551616:=by decide
  omega
 rw[e,Nat.testBit_two_pow_sub_succ (by
  have:(2:Nat)^64=18446744073709551616:=by decide
  omega)]
 simp[hj]
end aE
set_option maxRecDepth 100000
namespace Go.Proofs
open Go Go.Sx
open aE
section
variable {B:Hp}
def cJ(B:Hp)(v:Value)(n:Nat)(f:aE.Fn):Prop:=∃ws,AI B v ⟨n,ws⟩∧an.dj n ws∧eX n ws=f
theorem cJ.mono{B B':Hp}{v:Value}{n:Nat}{f:aE.Fn}(h:cJ B v n f)(hs:∀x∈B,x∈B'):cJ B' v n f:=let ⟨ws,h1,h2,h3⟩:=h;⟨ws,h1.mono hs,h2,h3⟩
theorem zV{n:Nat}(hn:n≤16)(B:Hp):Rd Tryz.prog 211 #[.int .i64 (n:Int)] B (· =.int .i64 0):=by
 intro g
 refine DJ (R:=aA _) ?_
 unfold L211
 exact ae.lss (Br.bt (by omega) (ae.kB (b:=16) (Br.bt (by omega) (cz.mk (.refl _) rfl))))
theorem A5{b:Bool}{p:Value}{i:Int}(hb:Go.Sx.At B p [.bool b]):Rd Tryz.prog 213 #[.int .i64 i,p] B (· =.int .u64 (((if b then 18446744073709551615 else 0:Nat)):Int)):=by
 intro g
 refine DH (R:=aA _) ?_
 unfold L213
 refine Ld.at hb (fun _ h=>h) ?_
 cases b
 ·exact Br.no (cz.mk (.refl _) rfl)
 ·exact Br.yes (cz.mk (.refl _) rfl)
theorem mS{n:Nat}(hn:n≤16)(b:Bool)(B:Hp):Px Tryz.prog 147 #[.int .i64 (n:Int),.bool b] B (fun r H=>∃v,r=.tuple #[v,.int .i64 0]∧cJ H v n (fun _=>b)):=by
 intro g
 refine Eo (R:=aA _) ?_
 unfold L147
 intro b1 _ b3 _
 refine af.rd .here (zV hn _) ?_
 rintro w rfl
 refine ae.dO (Br.bt (by decide) ?_)
 refine af.px (.cons .here) (ng hn rfl (by kernel_rfl) (F:=fun _=>if b then 18446744073709551615 else 0) (fun i _=>by cases b<;>decide) (B:=(b1,.cells #[.bool b] 4 (0,0))::B) fun i _=>A5 (Go.Sx.At.block (l:=[.bool b]) zM)) ?_
 rintro v N ⟨s,rfl,hw⟩
 refine St.whole (r:=[.int .i64 (n:Int),s]) (by exact .head _) rfl rfl ?_ ?_
 ·have:=aH hw;simpa[Value.oneCell']using this
 refine aC.whole (r:=[.int .i64 (n:Int),s]) (by exact .head _) rfl ?_
 refine tM.mk (by repeat (first|exact aV.refl _|apply aV.cons|apply aV.app)) ⟨_,rfl,_,⟨s,rfl,hw.mono zS⟩,jU hn,mv (fun x hx=>?_) (fun x=>rfl)⟩
 cases b
 ·exact Nat.zero_testBit _
 ·exact yM (Nat.mod_lt _ (by decide))
theorem JW{v i:Nat}{p:Value}(hv:v<64)(hi:i<9223372036854775808)(hb:Go.Sx.At B p [.int .i64 (v:Int)]):Rd Tryz.prog 218 #[.int .i64 (i:Int),p] B (· =.int .u64 ((if 6≤v then(if(i>>>(v-6)).testBit 0 then 18446744073709551615 else 0)else an.mask v:Nat):Int)):=by
 intro g
 refine DD (R:=aA _) ?_
 unfold L218
 refine Ld.at hb (fun _ h=>h) ?_
 refine af.rd .here (vY hv (by omega) hi B) ?_
 rintro w rfl
 exact cz.mk (.refl _) rfl
theorem E5{n v:Nat}(hn:n≤16)(hv:v<n)(B:Hp):Px Tryz.prog 153 #[.int .i64 (n:Int),.int .i64 (v:Int)] B (fun r H=>∃t,r=.tuple #[t,.int .i64 0]∧cJ H t n (fun x=>x.testBit v)):=by
 intro g
 refine Ei (R:=aA _) ?_
 unfold L153
 intro b1 _ b3 _
 refine af.rd .here (zV hn _) ?_
 rintro w rfl
 refine ae.dO (Br.bt (by decide) ?_)
 refine Ld.mk (v:=.int .i64 (v:Int)) (by exact .tail _ (.head _)) rfl ?_
 refine ae.lss ?_
 rw[decide_eq_false (by omega)]
 refine bT.or (a:=false) false (fun _=>?_) rfl fun gs=>Br.no ?_
 ·refine Ld.mk (v:=.int .i64 (v:Int)) (by exact .tail _ (.head _)) rfl ?_
  exact ae.rD ⟨rfl,by rw[decide_eq_false (by omega)]⟩
 have Yd:=an.r6 hn
 refine af.px (.cons .here) (ng hn rfl (by kernel_rfl) (F:=fun i=>if 6≤v then(if(i>>>(v-6)).testBit 0 then 18446744073709551615 else 0)else an.mask v) (fun i _=>by
  have:=an.jr v
  split
  ·split<;>decide
  ·exact this) (B:=(b1,.cells #[.int .i64 (v:Int)] 3 (0,0))::B) fun i hi=>JW (by omega) (by omega) (Go.Sx.At.block (l:=[.int .i64 (v:Int)]) zM)) ?_
 rintro w N ⟨s,rfl,hw⟩
 refine St.whole (r:=[.int .i64 (n:Int),s]) (by exact .head _) rfl rfl ?_ ?_
 ·have:=aH hw;simpa[Value.oneCell']using this
 refine aC.whole (r:=[.int .i64 (n:Int),s]) (by exact .head _) rfl ?_
 refine tM.mk (by repeat (first|exact aV.refl _|apply aV.cons|apply aV.app)) ⟨_,rfl,_,⟨s,rfl,hw.mono zS⟩,jU hn,mv (fun x hx=>?_) (fun x=>?_)⟩
 ·have hj:x%64<64:=Nat.mod_lt _ (by decide)
  have afk:x=64*(x/64)+x%64:=by omega
  by_cases h6:6≤v
  ·rw[if_pos h6]
   have e:x.testBit v=((x/64)>>>(v-6)).testBit 0:=by
    rw[Nat.testBit_shiftRight,Nat.add_zero]
    have:=Nat.testBit_div_two_pow (n:=6) x (v-6)
    rw[show(2:Nat)^6=64 from rfl]at this
    rw[this];congr 1;omega
   rw[e]
   cases ((x/64)>>>(v-6)).testBit 0
   ·exact Nat.zero_testBit _
   ·exact yM hj
  ·rw[if_neg h6,an.fN]
   have:=Nat.testBit_mod_two_pow x 6 v
   rw[show(2:Nat)^6=64 from rfl]at this
   rw[this]
   simp[hj];omega
 ·rw[Nat.testBit_mod_two_pow];simp[hv]
end
end Go.Proofs
set_option maxRecDepth 100000
namespace Go.Proofs
open Go Go.Sx
open aE
section
variable {B:Hp}
theorem eo{n i:Nat}{ws:List Nat}(hf:an.dj n ws):ws.getD i 0<18446744073709551616:=by
 by_cases h:i<ws.length
 ·rw[List.getD_eq_getElem?_getD,List.getElem?_eq_getElem h];exact hf.lt (List.getElem_mem h)
 ·rw[List.getD_eq_getElem?_getD,List.getElem?_eq_none (by omega)];decide
theorem iZ{n i:Nat}{ws:List Nat}(hf:an.dj n ws)(hi:i<an.wN n):ws[i]? =some (ws.getD i 0):=by
 rw[List.getD_eq_getElem?_getD,List.getElem?_eq_getElem (by rw[hf.len];exact hi)];rfl
theorem Ka{pa s:Value}{n i:Nat}{ws:List Nat}(ha:Go.Sx.At B pa [.int .i64 (n:Int),s])(hw:Words B s ws)(hf:an.dj n ws)(hi:i<an.wN n):
  Rd Tryz.prog 238 #[.int .i64 (i:Int),pa] B (· =.int .u64 ((18446744073709551615-ws.getD i 0:Nat):Int)):=by
 intro g
 refine Dr (R:=aA _) ?_
 unfold L238
 refine aa.at ha fun q hq=>Ld.at hq (fun _ h=>h) ?_
 refine hw.1.ld (cr (iZ hf hi)) (fun _ h=>h) ?_
 exact Un.Gt (eo hf) (cz.mk (.refl _) rfl)
theorem NQ{v:Value}{n:Nat}{f:aE.Fn}(ht:cJ B v n f):Px Tryz.prog 193 #[v] B (fun r H=>∃t,r=.tuple #[t,.int .i64 0]∧cJ H t n (fun x=> !f x)):=by
 obtain⟨ws,⟨s,rfl,hw⟩,hf,rfl⟩:=ht
 intro g
 refine D3 (R:=aA _) ?_
 unfold L193
 intro b1 _ b3 _
 refine aC.whole (r:=[.int .i64 (n:Int),s]) (by exact .tail _ (.head _)) rfl ?_
 refine j6 fun bx=>?_
 refine af.rd .here (oD (t:=⟨n,ws⟩) (by exact .head _) (hw.mono zS)) ?_
 rintro w rfl
 rw[decide_eq_true (show TF ⟨(n:Int),ws⟩from⟨by simp,by simpa using hf⟩)]
 refine Un.not (Br.no ?_)
 refine aa.mk (Ld.mk (v:=.int .i64 (n:Int)) (by exact .tail _ (.tail _ (.head _))) rfl ?_)
 refine af.pre (H':=(b3,.cells #[.int .i64 0,.slice none 0 0] 57 (0,0))::(b1,.cells #[.int .i64 (n:Int),s] 57 (0,0))::B) .tail ?_
 refine af.px (.cons .here) (ng hf.pc rfl (by kernel_rfl) (F:=fun i=>18446744073709551615-ws.getD i 0) (fun i _=>by omega) (B:=(b1,.cells #[.int .i64 (n:Int),s] 57 (0,0))::B) fun i hi=>Ka (Go.Sx.At.block (l:=[.int .i64 (n:Int),s]) zM) (hw.mono zS) hf hi) ?_
 rintro w N ⟨s',rfl,dw⟩
 refine St.whole (r:=[.int .i64 (n:Int),s']) (by exact .head _) rfl rfl ?_ ?_
 ·have:=aH dw;simpa[Value.oneCell']using this
 refine aC.whole (r:=[.int .i64 (n:Int),s']) (by exact .head _) rfl ?_
 refine tM.mk (by repeat (first|exact aV.refl _|apply aV.cons|apply aV.app)) ⟨_,rfl,_,⟨s',rfl,dw.mono zS⟩,jU hf.pc,mv (fun x hx=>?_) (fun x=>by rw[nm])⟩
 rw[rP (eo hf) (Nat.mod_lt _ (by decide)),jL hx]
def tC(op w u:Nat):Nat→Nat
 |0=>0
 |k+1=>if op.testBit k then tC op w u k|||([(18446744073709551615-w) &&& (18446744073709551615-u),(18446744073709551615-w) &&&u,w&&& (18446744073709551615-u),w&&&u].getD k 0)else tC op w u k
theorem Fj{w u k:Nat}(hw:w<18446744073709551616)(hu:u<18446744073709551616):[(18446744073709551615-w) &&& (18446744073709551615-u),(18446744073709551615-w) &&&u,w&&& (18446744073709551615-u),w&&&u].getD k 0<18446744073709551616:=by
 have h1:∀a b:Nat,a<18446744073709551616→a&&&b<18446744073709551616:=fun a b h=>Nat.lt_of_le_of_lt Nat.and_le_left h
 match k with
 |0=>exact h1 _ _ (by omega)
 |1=>exact h1 _ _ (by omega)
 |2=>exact h1 _ _ hw
 |3=>exact h1 _ _ hw
 |k+4=>exact(by decide:(0:Nat)<18446744073709551616)
theorem r4{op w u:Nat}(hw:w<18446744073709551616)(hu:u<18446744073709551616):∀k,tC op w u k<18446744073709551616
 |0=>by show(0:Nat)<18446744073709551616;decide
 |k+1=>by
  unfold tC
  split
  ·exact Nat.or_lt_two_pow (n:=64) (r4 hw hu k) (Fj hw hu)
  ·exact r4 hw hu k
theorem Mz{op w u j:Nat}(hw:w<18446744073709551616)(hu:u<18446744073709551616)(hj:j<64):(tC op w u 4).testBit j=G8 op (w.testBit j) (u.testBit j):=by
 have nw:=rP hw hj
 have nu:=rP hu hj
 simp only[tC,List.getD_cons_zero,List.getD_cons_succ]
 unfold G8
 cases h0:op.testBit 0<;>cases h1:op.testBit 1<;>cases h2:op.testBit 2<;>cases h3:op.testBit 3<;>
  simp only[if_true,Bool.false_eq_true,if_false,Nat.testBit_or,Nat.testBit_and,nw,nu,Nat.zero_testBit]<;>
  cases w.testBit j<;>cases u.testBit j<;>simp[h0,h1,h2,h3]
theorem Ke{p1 p2 p3 s1 s2:Value}{n i op:Nat}{ws us:List Nat}(h1:Go.Sx.At B p1 [.int .i64 (n:Int),s1])(h2:Go.Sx.At B p2 [.int .i64 (n:Int),s2])(h3:Go.Sx.At B p3 [.int .u8 (op:Int)])(hw:Words B s1 ws)(hu:Words B s2 us)(hf:an.dj n ws)(hg:an.dj n us)(hop:op<16)(hi:i<an.wN n):
  Rd Tryz.prog 239 #[.int .i64 (i:Int),p1,p2,p3] B (· =.int .u64 ((tC op (ws.getD i 0) (us.getD i 0) 4:Nat):Int)):=by
 have lw:=eo (i:=i) hf
 have lu:=eo (i:=i) hg
 intro g
 refine Dq (R:=aA _) ?_
 unfold L239
 refine aa.at h1 fun q hq=>Ld.at hq (fun _ h=>h) ?_
 refine hw.1.ld (cr (iZ hf hi)) (fun _ h=>h) ?_
 refine aa.at h2 fun q hq=>Ld.at hq (fun _ h=>h) ?_
 refine hu.1.ld (cr (iZ hg hi)) (fun _ h=>h) ?_
 generalize ws.getD i 0=w at*
 generalize us.getD i 0=u at*
 refine Un.Gt lw (Un.Gt lu ?_)
 refine ae.jm (by simp only[aB];omega) (by simp only[aB];omega) ?_
 refine Un.Gt lw ?_
 refine ae.jm (by simp only[aB];omega) (by simp only[aB];omega) ?_
 refine Un.Gt lu ?_
 refine ae.jm (by simp only[aB];omega) (by simp only[aB];omega) ?_
 refine ae.jm (by simp only[aB];omega) (by simp only[aB];omega) ?_
 refine av.Vq (e:=50) (by kernel_rfl) (by kernel_rfl) (by kernel_rfl) fun bx=>?_
 obtain⟨ps,hps⟩:∃ps,ps=[(18446744073709551615-w) &&& (18446744073709551615-u),(18446744073709551615-w) &&&u,w&&& (18446744073709551615-u),w&&&u]:=⟨_,rfl⟩
 have hI:cT .u64 [(bx,Obj.cells (ax .u64 (iw ps)) 50 (0,0))] (.slice (some ⟨bx,0,none⟩) 4 4) (iw ps):=by
  have:=(aN.made (T:=50) (kd:=.u64) (b:=bx) (iw ps)).ints
  have hl:(iw ps).length=4:=by rw[hps];rfl
  rw[hl]at this;exact this
 have rS:ps.length=4:=by rw[hps];rfl
 have hH:(bx,Obj.cells (ax .u64 [((((18446744073709551615-w) &&& (18446744073709551615-u):Nat)):Int),((((18446744073709551615-w) &&&u:Nat)):Int),(((w&&& (18446744073709551615-u):Nat)):Int),((w&&&u:Nat):Int)]) 50 (0,0))=(bx,Obj.cells (ax .u64 (iw ps)) 50 (0,0)):=by rw[hps];rfl
 rw[hH]
 refine aY.mk ?_
 refine⟨fun vs H=>∃k:Nat,vs=[.int .u64 ((tC op w u k:Nat):Int),.int .i64 (k:Int)]∧k≤4∧H=(bx,Obj.cells (ax .u64 (iw ps)) 50 (0,0))::B,fun vs _=>4-bG vs 1,JE.mk ⟨0,rfl,by omega,rfl⟩,?_⟩
 rintro Jb lS H ⟨k,hv,hk,rfl⟩ gs
 simp only[List.cons.injEq,and_true]at hv
 obtain⟨rfl,rfl⟩:=hv
 refine ae.eA (b:=4) (Br.dec (fun hlt=>?_) (fun hlt=>?_))
 ·intro J hJ
  refine hI.ld (n:=((ps.getD k 0:Nat):Int)) (bc (by omega)) (fun _ h=>by simp at h;rw[h];exact .head _) ?_
  refine Ld.at h3 (fun _ h=>.tail _ h) ?_
  refine ae.kJ (by simp only[aB];omega) ?_
  refine ae.jm (b:=1) (by have:=Nat.shiftRight_le op k;simp only[aB];omega) (by decide) ?_
  have zq:(op>>>k) &&&1=(op.testBit k).toNat:=by
   rw[an.eJ,Nat.testBit_shiftRight,Nat.add_zero]
   cases op.testBit k<;>rfl
  rw[zq]
  refine ae.eB (b:=1) ?_
  have Z9:ps.getD k 0<18446744073709551616:=by rw[hps];exact Fj lw lu
  cases hb:op.testBit k with
  |true=>
   refine Br.fc rfl ?_
   refine ae.Jd (by simpa only[aB]using r4 lw lu k) (by simpa only[aB]using Z9) ?_
   refine JE.mk (hJ _ _ fun gs=>?_)
   refine ae.aL (b:=1) (by simp[aB];omega) ?_
   exact aD.mk ⟨k+1,by rw[tC,if_pos hb,hps],by omega,rfl⟩ (by simp only[bG];omega)
  |false=>
   refine Br.bt (by decide) ?_
   refine JE.mk (hJ _ _ fun gs=>?_)
   refine ae.aL (b:=1) (by simp[aB];omega) ?_
   exact aD.mk ⟨k+1,by rw[tC,if_neg (by rw[hb];decide)],by omega,rfl⟩ (by simp only[bG];omega)
 ·obtain rfl:k=4:=by omega
  exact cz.mk .tail rfl
theorem U1{bx n:Nat}{s1 s2:Value}{ws us:List Nat}(h1:Words B s1 ws)(h2:Words B s2 us):eL ((bx,.cells (rows [[.int .i64 (n:Int),s1],[.int .i64 (n:Int),s2]]) 57 (0,0))::B) (.slice (some ⟨bx,0,none⟩) 2 2) [⟨n,ws⟩,⟨n,us⟩]:=by
 refine⟨[[.int .i64 (n:Int),s1],[.int .i64 (n:Int),s2]],(Sl.lj (aR.made (T:=57) (k:=2) (b:=bx) _ (by simp)) (by decide)).mono fun _ h=>by simp at h;rw[h];exact .head _,rfl,fun i r x hr hx=>?_⟩
 match i with
 |0=>simp at hr hx;subst hr;subst hx;exact⟨s1,rfl,h1.mono fun _ h=>.tail _ h⟩
 |1=>simp at hr hx;subst hr;subst hx;exact⟨s2,rfl,h2.mono fun _ h=>.tail _ h⟩
 |i+2=>simp at hr
theorem wJ{v1 v2:Value}{n op:Nat}{f1 f2:aE.Fn}(hop:op<16)(h1:cJ B v1 n f1)(h2:cJ B v2 n f2):Px Tryz.prog 194 #[.int .u8 (op:Int),v1,v2] B (fun r H=>∃t,r=.tuple #[t,.int .i64 0]∧cJ H t n (fun x=>G8 op (f1 x) (f2 x))):=by
 obtain⟨ws,⟨s1,rfl,hw⟩,hf,rfl⟩:=h1
 obtain⟨us,⟨s2,rfl,hu⟩,hg,rfl⟩:=h2
 intro g
 refine D2 (R:=aA _) ?_
 unfold L194
 intro b1 _ b3 _ b5 _ b7 _
 refine Ld.mk (v:=.int .u8 (op:Int)) (by exact .tail _ (.tail _ (.tail _ (.head _)))) rfl ?_
 refine ae.kB (b:=15) (Br.bt (by omega) ?_)
 refine aC.whole (r:=[.int .i64 (n:Int),s1]) (by exact .tail _ (.tail _ (.head _))) rfl ?_
 refine aC.whole (r:=[.int .i64 (n:Int),s2]) (by exact .tail _ (.head _)) rfl ?_
 refine av.RG (e:=57) (z:=.agg #[.int .i64 0,.slice none 0 0]) (by kernel_rfl) (by kernel_rfl) (by kernel_rfl) fun bx=>?_
 refine af.rd .here (ti (U1 (n:=n) (hw.mono zS) (hu.mono zS)) (by show 2<2^62;decide)) ?_
 rintro w rfl
 rw[decide_eq_true (by
  intro t ht
  simp only[List.mem_cons,List.not_mem_nil,or_false]at ht
  rcases ht with rfl|rfl
  ·exact⟨⟨by simp,by simpa using hf⟩,rfl⟩
  ·exact⟨⟨by simp,by simpa using hg⟩,rfl⟩)]
 refine Un.not (Br.no ?_)
 refine aa.mk (Ld.mk (v:=.int .i64 (n:Int)) (by exact .tail _ (.tail _ (.tail _ (.head _)))) rfl ?_)
 refine af.pre (H':=(b7,.cells #[.int .i64 0,.slice none 0 0] 57 (0,0))::(b5,.cells #[.int .i64 (n:Int),s2] 57 (0,0))::(b3,.cells #[.int .i64 (n:Int),s1] 57 (0,0))::(b1,.cells #[.int .u8 (op:Int)] 5 (0,0))::B) .tail ?_
 refine af.px (.cons .here) (ng hf.pc rfl (by kernel_rfl) (F:=fun i=>tC op (ws.getD i 0) (us.getD i 0) 4) (fun i _=>r4 (eo hf) (eo hg) 4) (B:=(b5,.cells #[.int .i64 (n:Int),s2] 57 (0,0))::(b3,.cells #[.int .i64 (n:Int),s1] 57 (0,0))::(b1,.cells #[.int .u8 (op:Int)] 5 (0,0))::B)
  fun i hi=>Ke (Go.Sx.At.block (l:=[.int .i64 (n:Int),s1]) zM) (Go.Sx.At.block (l:=[.int .i64 (n:Int),s2]) zM) (Go.Sx.At.block (l:=[.int .u8 (op:Int)]) zM) (hw.mono zS) (hu.mono zS) hf hg hop hi) ?_
 rintro w N ⟨s',rfl,dw⟩
 refine St.whole (r:=[.int .i64 (n:Int),s']) (by exact .head _) rfl rfl ?_ ?_
 ·have:=aH dw;simpa[Value.oneCell']using this
 refine aC.whole (r:=[.int .i64 (n:Int),s']) (by exact .head _) rfl ?_
 refine tM.mk (by repeat (first|exact aV.refl _|apply aV.cons|apply aV.app)) ⟨_,rfl,_,⟨s',rfl,dw.mono zS⟩,jU hf.pc,mv (fun x hx=>?_) (fun x=>by rw[nm,nm])⟩
 rw[Mz (eo hf) (eo hg) (Nat.mod_lt _ (by decide)),jL hx,jL hx]
theorem Kb{p1 p2 p3 s1 s2 s3:Value}{n i:Nat}{ws us rs:List Nat}(h1:Go.Sx.At B p1 [.int .i64 (n:Int),s1])(h2:Go.Sx.At B p2 [.int .i64 (n:Int),s2])(h3:Go.Sx.At B p3 [.int .i64 (n:Int),s3])(hw:Words B s1 ws)(hu:Words B s2 us)(hr:Words B s3 rs)(hf:an.dj n ws)(hg:an.dj n us)(hh:an.dj n rs)(hi:i<an.wN n):
  Rd Tryz.prog 221 #[.int .i64 (i:Int),p1,p2,p3] B (· =.int .u64 (((ws.getD i 0&&&us.getD i 0)|||((18446744073709551615-ws.getD i 0) &&&rs.getD i 0):Nat):Int)):=by
 have lw:=eo (i:=i) hf
 have lu:=eo (i:=i) hg
 have lr:=eo (i:=i) hh
 intro g
 refine DA (R:=aA _) ?_
 unfold L221
 refine aa.at h1 fun q hq=>Ld.at hq (fun _ h=>h) ?_
 refine hw.1.ld (cr (iZ hf hi)) (fun _ h=>h) ?_
 refine aa.at h2 fun q hq=>Ld.at hq (fun _ h=>h) ?_
 refine hu.1.ld (cr (iZ hg hi)) (fun _ h=>h) ?_
 refine ae.jm (by simpa only[aB]using lw) (by simpa only[aB]using lu) ?_
 refine aa.at h1 fun q hq=>Ld.at hq (fun _ h=>h) ?_
 refine hw.1.ld (cr (iZ hf hi)) (fun _ h=>h) ?_
 refine Un.Gt lw ?_
 refine aa.at h3 fun q hq=>Ld.at hq (fun _ h=>h) ?_
 refine hr.1.ld (cr (iZ hh hi)) (fun _ h=>h) ?_
 refine ae.jm (by simp only[aB];omega) (by simpa only[aB]using lr) ?_
 refine ae.Jd (Nat.lt_of_le_of_lt Nat.and_le_left (by simpa only[aB]using lw)) (Nat.lt_of_le_of_lt Nat.and_le_left (by simp only[aB];omega)) ?_
 exact cz.mk (.refl _) rfl
theorem U0{bx n:Nat}{s1 s2 s3:Value}{ws us rs:List Nat}(h1:Words B s1 ws)(h2:Words B s2 us)(h3:Words B s3 rs):eL ((bx,.cells (rows [[.int .i64 (n:Int),s1],[.int .i64 (n:Int),s2],[.int .i64 (n:Int),s3]]) 57 (0,0))::B) (.slice (some ⟨bx,0,none⟩) 3 3) [⟨n,ws⟩,⟨n,us⟩,⟨n,rs⟩]:=by
 refine⟨[[.int .i64 (n:Int),s1],[.int .i64 (n:Int),s2],[.int .i64 (n:Int),s3]],(Sl.lj (aR.made (T:=57) (k:=2) (b:=bx) _ (by simp)) (by decide)).mono fun _ h=>by simp at h;rw[h];exact .head _,rfl,fun i r x hr hx=>?_⟩
 match i with
 |0=>simp at hr hx;subst hr;subst hx;exact⟨s1,rfl,h1.mono fun _ h=>.tail _ h⟩
 |1=>simp at hr hx;subst hr;subst hx;exact⟨s2,rfl,h2.mono fun _ h=>.tail _ h⟩
 |2=>simp at hr hx;subst hr;subst hx;exact⟨s3,rfl,h3.mono fun _ h=>.tail _ h⟩
 |i+3=>simp at hr
theorem wG{v1 v2 v3:Value}{n:Nat}{f1 f2 f3:aE.Fn}(h1:cJ B v1 n f1)(h2:cJ B v2 n f2)(h3:cJ B v3 n f3):Px Tryz.prog 154 #[v1,v2,v3] B (fun r H=>∃t,r=.tuple #[t,.int .i64 0]∧cJ H t n (fun x=>if f1 x then f2 x else f3 x)):=by
 obtain⟨ws,⟨s1,rfl,hw⟩,hf,rfl⟩:=h1
 obtain⟨us,⟨s2,rfl,hu⟩,hg,rfl⟩:=h2
 obtain⟨rs,⟨s3,rfl,hr⟩,hh,rfl⟩:=h3
 intro g
 refine Eh (R:=aA _) ?_
 unfold L154
 intro b1 _ b3 _ b5 _ b7 _
 refine aC.whole (r:=[.int .i64 (n:Int),s1]) (by exact .tail _ (.tail _ (.tail _ (.head _)))) rfl ?_
 refine aC.whole (r:=[.int .i64 (n:Int),s2]) (by exact .tail _ (.tail _ (.head _))) rfl ?_
 refine aC.whole (r:=[.int .i64 (n:Int),s3]) (by exact .tail _ (.head _)) rfl ?_
 refine av.RF (e:=57) (z:=.agg #[.int .i64 0,.slice none 0 0]) (by kernel_rfl) (by kernel_rfl) (by kernel_rfl) fun bx=>?_
 refine af.rd .here (ti (U0 (n:=n) (hw.mono zS) (hu.mono zS) (hr.mono zS)) (by show 3<2^62;decide)) ?_
 rintro w rfl
 rw[decide_eq_true (by
  intro t ht
  simp only[List.mem_cons,List.not_mem_nil,or_false]at ht
  rcases ht with rfl|rfl|rfl
  ·exact⟨⟨by simp,by simpa using hf⟩,rfl⟩
  ·exact⟨⟨by simp,by simpa using hg⟩,rfl⟩
  ·exact⟨⟨by simp,by simpa using hh⟩,rfl⟩)]
 refine Un.not (Br.no ?_)
 refine aa.mk (Ld.mk (v:=.int .i64 (n:Int)) (by exact .tail _ (.tail _ (.tail _ (.tail _ (.head _))))) rfl ?_)
 refine af.pre (H':=(b7,.cells #[.int .i64 0,.slice none 0 0] 57 (0,0))::(b5,.cells #[.int .i64 (n:Int),s3] 57 (0,0))::(b3,.cells #[.int .i64 (n:Int),s2] 57 (0,0))::(b1,.cells #[.int .i64 (n:Int),s1] 57 (0,0))::B) .tail ?_
 have ol:∀i,(ws.getD i 0&&&us.getD i 0)|||((18446744073709551615-ws.getD i 0) &&&rs.getD i 0)<18446744073709551616:=fun i=>
  Nat.or_lt_two_pow (n:=64) (Nat.lt_of_le_of_lt Nat.and_le_left (eo hf)) (Nat.lt_of_le_of_lt Nat.and_le_right (eo hh))
 refine af.px (.cons .here) (ng hf.pc rfl (by kernel_rfl) (F:=fun i=>(ws.getD i 0&&&us.getD i 0)|||((18446744073709551615-ws.getD i 0) &&&rs.getD i 0)) (fun i _=>ol i) (B:=(b5,.cells #[.int .i64 (n:Int),s3] 57 (0,0))::(b3,.cells #[.int .i64 (n:Int),s2] 57 (0,0))::(b1,.cells #[.int .i64 (n:Int),s1] 57 (0,0))::B)
  fun i hi=>Kb (Go.Sx.At.block (l:=[.int .i64 (n:Int),s1]) zM) (Go.Sx.At.block (l:=[.int .i64 (n:Int),s2]) zM) (Go.Sx.At.block (l:=[.int .i64 (n:Int),s3]) zM) (hw.mono zS) (hu.mono zS) (hr.mono zS) hf hg hh hi) ?_
 rintro w N ⟨s',rfl,dw⟩
 refine St.whole (r:=[.int .i64 (n:Int),s']) (by exact .head _) rfl rfl ?_ ?_
 ·have:=aH dw;simpa[Value.oneCell']using this
 refine aC.whole (r:=[.int .i64 (n:Int),s']) (by exact .head _) rfl ?_
 refine tM.mk (by repeat (first|exact aV.refl _|apply aV.cons|apply aV.app)) ⟨_,rfl,_,⟨s',rfl,dw.mono zS⟩,jU hf.pc,mv (fun x hx=>?_) (fun x=>by rw[nm,nm,nm])⟩
 rw[Nat.testBit_or,Nat.testBit_and,Nat.testBit_and,rP (eo hf) (Nat.mod_lt _ (by decide)),jL hx,jL hx,jL hx]
 cases eX n ws x<;>cases eX n us x<;>cases eX n rs x<;>rfl
theorem lV{v:Value}{n u:Nat}{c:Bool}{f:aE.Fn}(ht:cJ B v n f)(hu:u<n):Px Tryz.prog 148 #[v,.int .i64 (u:Int),.bool c] B (fun r H=>∃t,r=.tuple #[t,.int .i64 0]∧cJ H t n (fun x=>f (an.az x u c))):=by
 obtain⟨ws,ht,hf,rfl⟩:=ht
 refine(wI ht hf hu).mono fun v H h=>?_
 obtain⟨hg,v',rfl,ht'⟩:=h
 exact⟨hg,v',rfl,_,ht',an.cW hf.pc,nq hf hu c⟩
end
end Go.Proofs
namespace Go.Sx
open Go
section
variable {P:Program} {g:Gh} {H C:Hp} {c:Hp→Hp}
theorem aR.Af{elem k bytes:Nat}{zero:Value}{v x:Value}{rs r2:List (List Value)}(h:aR elem k v rs C)(hh:bS C H c)(hx:Sl k H x r2)(h1:∀r∈r2,∀u∈r,u.oneCell'=true)(hz:∃z:List Value,zero.cells=z.toArray∧z.length=k)
 (hb:(rs.length+r2.length)*bytes≤140737488355328)(hm:rs.length+r2.length≤9223372036854775807){K:Value→Hp→Prop}(hk:∀v' C',aR elem k v' (rs++r2) C'→K v' (c C')):App P elem k bytes zero H v x K:=by
 obtain⟨A,B,e⟩:=hh.split
 have e2:=hh.spec.1
 rw[e]at e2
 subst e2
 obtain⟨a,cap,rfl,hc⟩:=Sl.cells hx
 exact aR.apps h hc hx.1 h1 hz hb hm fun v' C' ho=>by have:=hk v' C' ho;rwa [e]at this
theorem ae.ry{kd:IntKind}{a b:Nat}{k:Value→Prop}(hb:b≠0)(h:k (.int kd ((a%b:Nat):Int))):ae .num .rem (.int kd a) (.int kd b) k:=
 ae.Qc (by omega) rfl (by have:((a:Int)).tmod (b:Int)=((a%b:Nat):Int):=rfl;rw[this];exact h)
end
end Go.Sx
set_option maxRecDepth 100000
namespace Go.Proofs
open Go Go.Sx
open aE
abbrev gW(gb kp n:Nat)(vr vf:Value):Nat×Obj:=(gb,.cells #[ptr kp,.int .i64 (n:Int),vr,vf] 30 (0,0))
structure mP(gb kp n:Nat)(vr vf:Value)(refs:List Nat)(fs:List (List Nat))(M G:Hp):Prop where
 cell:gW gb kp n vr vf∈G
 rf:cT .u32 G vr (iw refs)
 fn:∃rs,Sl 2 G vf rs∧k7 (xU M) rs (fs.map fun ws=>⟨n,ws⟩)
theorem mP.grow{gb kp n:Nat}{vr vf:Value}{refs:List Nat}{fs:List (List Nat)}{M M' G:Hp}(h:mP gb kp n vr vf refs fs M G)(hs:∀x∈M,x∈M'):mP gb kp n vr vf refs fs M' G:=
 ⟨h.cell,h.rf,let ⟨rs,h1,h2⟩:=h.fn;⟨rs,h1,h2.mono fun _ _ h=>h.mono hs⟩⟩
def PxL(P:Program)(f:FuncId)(args:Array Value)(M G:Hp)(Q:Value→Hp→Prop):Prop:=Fc P f args (M++G) (fun w H=>∃M',H=M'++G∧aV M M'∧Q w M')
structure AM(gb kp n:Nat)(vr vf:Value)(refs:List Nat)(fs:List (List Nat))(C B:Hp):Prop where
 cell:gW gb kp n vr vf∈B
 rf:cT .u32 B vr (iw refs)
 fn:eL B vf (fs.map fun ws=>⟨n,ws⟩)
 hole:∃c,bS C B c∧∀Z,gW gb kp n vr vf∈c Z
theorem AM.cons{gb kp n:Nat}{vr vf:Value}{refs:List Nat}{fs:List (List Nat)}{C B:Hp}(h:AM gb kp n vr vf refs fs C B)(x:Nat×Obj):AM gb kp n vr vf refs fs C (x::B):=
 ⟨.tail _ h.cell,h.rf.mono fun _ h=>.tail _ h,h.fn.mono fun _ h=>.tail _ h,let ⟨c,hc,hm⟩:=h.hole;⟨_,.cons hc,fun Z=>.tail _ (hm Z)⟩⟩
theorem AM.app{gb kp n:Nat}{vr vf:Value}{refs:List Nat}{fs:List (List Nat)}{C B:Hp}(h:AM gb kp n vr vf refs fs C B)(N:Hp):AM gb kp n vr vf refs fs C (N++B):=
 ⟨List.mem_append_right _ h.cell,h.rf.mono fun _ h=>List.mem_append_right _ h,h.fn.mono fun _ h=>List.mem_append_right _ h,let ⟨c,hc,hm⟩:=h.hole;⟨_,.app hc,fun Z=>List.mem_append_right _ (hm Z)⟩⟩
theorem AM.grow{gb kp n:Nat}{vr vf:Value}{refs:List Nat}{fs:List (List Nat)}{C B B':Hp}(h:AM gb kp n vr vf refs fs C B)(hg:aV B B'):AM gb kp n vr vf refs fs C B':=by
 obtain⟨N,rfl⟩:=hg.spec;exact h.app N
structure u5(K:Kd)(S:Nat→aE.Fn)(refs:List Nat)(fs:List (List Nat)):Prop where
 len:refs.length=fs.length
 nI:∀t∈fs,an.dj K.n t
 is:∀i,i<refs.length→2≤refs.getD i 0∧eX K.n (fs.getD i [])=S (refs.getD i 0)
 hold:∀s,K.hold s=refs.count s
section
variable {kp gb n:Nat} {vr vf:Value} {refs:List Nat} {fs:List (List Nat)} {K:Kd} {S:Nat→aE.Fn} {ord ah tr:List Nat} {C B:Hp}
theorem u5.mem(h:u5 K S refs fs){s:Nat}:K.hold s≠0↔s∈refs:=by
 rw[h.hold]
 constructor
 ·intro h0;exact List.count_pos_iff.1 (by omega)
 ·intro h1;have:=List.count_pos_iff.2 h1;omega
theorem u5.live(h:u5 K S refs fs)(hK:cK kp K S ord ah tr C){s:Nat}(hs:s∈refs):live K.N s:=.inr (hK.ok.mid.held s (h.mem.2 hs))
theorem u5.held(h:u5 K S refs fs)(g:aE.Fn):K.held S g↔FT K.n fs g:=by
 constructor
 ·rintro⟨s,hs,rfl⟩
  have hs':=h.mem.1 hs
  obtain⟨i,hi,rfl⟩:=List.mem_iff_getElem.1 hs'
  obtain⟨h2,h3⟩:=h.is i hi
  have e:refs.getD i 0=refs[i]:=by rw[List.getD_eq_getElem?_getD,List.getElem?_eq_getElem hi];rfl
  have hi':i<fs.length:=by rw[←h.len];exact hi
  have e':fs.getD i []=fs[i]:=by rw[List.getD_eq_getElem?_getD,List.getElem?_eq_getElem hi'];rfl
  rw[e,e']at h3
  exact⟨fs[i],List.getElem_mem hi',h3.symm⟩
 ·rintro⟨t,ht,rfl⟩
  obtain⟨i,hi,rfl⟩:=List.mem_iff_getElem.1 ht
  have hi':i<refs.length:=by rw[h.len];exact hi
  obtain⟨h2,h3⟩:=h.is i hi'
  have e:refs.getD i 0=refs[i]:=by rw[List.getD_eq_getElem?_getD,List.getElem?_eq_getElem hi'];rfl
  have e':fs.getD i []=fs[i]:=by rw[List.getD_eq_getElem?_getD,List.getElem?_eq_getElem hi];rfl
  rw[e,e']at h3
  exact⟨refs[i],h.mem.2 (List.getElem_mem hi'),h3⟩
theorem oZ{a b:Value}{f f':aE.Fn}(h1:cJ B a n f)(h2:cJ B b n f'):Rd Tryz.prog 67 #[a,b] B (fun r=>∃x:Bool,r=.bool x∧(x=true↔f=f')):=by
 obtain⟨ws,⟨s1,rfl,hw⟩,hf,rfl⟩:=h1
 obtain⟨us,⟨s2,rfl,hu⟩,hg,rfl⟩:=h2
 have OO:=hf.len
 have hlu:=hg.len
 have Yd:=an.r6 hf.pc
 intro g
 refine Iu (R:=aA _) ?_
 unfold L67
 intro b1 _ b3 _
 refine aa.mk (Ld.mk (v:=.int .i64 (n:Int)) (by exact .tail _ (.head _)) rfl ?_)
 refine aa.mk (Ld.mk (v:=.int .i64 (n:Int)) (by exact .head _) rfl ?_)
 refine ae.wZ ?_
 rw[decide_eq_false (by simp)]
 refine bT.or (a:=false) false (fun _=>?_) rfl fun gs=>Br.no ?_
 ·refine aa.mk (Ld.mk (v:=s1) (by exact .tail _ (.head _)) rfl ?_)
  refine hw.1.bC ?_
  refine aa.mk (Ld.mk (v:=s2) (by exact .head _) rfl ?_)
  refine hu.1.bC ?_
  rw[ak,ak]
  refine ae.wZ ⟨rfl,?_⟩
  simp only
  rw[decide_eq_false]
  show¬ws.length≠us.length
  omega
 refine⟨fun vs H=>∃i:Nat,vs=[.int .i64 (i:Int)]∧i≤ws.length∧H=(b3,.cells #[.int .i64 (n:Int),s2] 57 (0,0))::(b1,.cells #[.int .i64 (n:Int),s1] 57 (0,0))::B∧ws.take i=us.take i,fun vs _=>ws.length-bG vs 0,JE.mk ⟨0,rfl,Nat.zero_le _,rfl,rfl⟩,?_⟩
 rintro oP H ⟨i,hv,hi,rfl,lO⟩ gs
 simp only[List.cons.injEq,and_true]at hv
 subst hv
 refine aa.mk (Ld.mk (v:=s1) (by exact .tail _ (.head _)) rfl ?_)
 refine hw.1.bC ?_
 rw[ak]
 show ae .num .lss (.int .i64 (i:Int)) (.int .i64 ((ws.length:Nat):Int)) _
 refine ae.eA (Br.dec (fun hlt=>?_) (fun hlt=>?_))
 ·have oC:i<us.length:=by omega
  refine aa.mk (Ld.mk (v:=s1) (by exact .tail _ (.head _)) rfl ?_)
  refine hw.1.ld (cr (List.getElem?_eq_getElem hlt)) (fun _ h=>.tail _ (.tail _ h)) ?_
  refine aa.mk (Ld.mk (v:=s2) (by exact .head _) rfl ?_)
  refine hu.1.ld (cr (List.getElem?_eq_getElem oC)) (fun _ h=>.tail _ (.tail _ h)) ?_
  refine ae.wZ (Br.dec (fun hne=>?_) (fun hne=>?_))
  ·refine cz.mk (.skip .tail) ⟨false,rfl,by simp;intro h;exact hne (by have e:=xH hf hg h;subst e;rfl)⟩
  ·refine ae.aL (b:=1) (by simp[aB];omega) ?_
   refine aD.mk ⟨i+1,rfl,hlt,rfl,?_⟩ (by simp only[bG];omega)
   rw[List.take_succ_eq_append_getElem hlt,List.take_succ_eq_append_getElem oC,lO]
   congr 2
   exact Classical.byContradiction hne
 ·obtain rfl:i=ws.length:=by omega
  rw[List.take_length,show ws.length=us.length by omega,List.take_length]at lO
  exact cz.mk (.skip .tail) ⟨true,rfl,by simp[lO]⟩
end
end Go.Proofs
set_option maxRecDepth 100000
namespace Go.Proofs
open Go Go.Sx
open aE
section
variable {kp gb n:Nat} {vr vf:Value} {refs:List Nat} {fs:List (List Nat)} {K:Kd} {S:Nat→aE.Fn} {ord ah tr:List Nat} {C B M G:Hp}
theorem wU(hG:mP gb kp K.n vr vf refs fs M G)(hg:u5 K S refs fs)(hK:cK kp K S ord ah tr C)(hn:K.n≤16)(hm:refs.length<1048576){a:Nat}(ha:a<256):
  PxL Tryz.prog 126 #[ptr gb,.int .u8 (a:Int)] M G (fun w H=>∃r t,w=.tuple #[u32 r,t]∧live K.N r∧cJ H t K.n (S r)):=by
 have hint:=hK.ok.mid.int
 intro g
 refine EC (R:=aA _) ?_
 unfold L126
 intro b1 _
 refine aW.nat (by simp[aB];omega) ?_
 refine Nil.ptr (aa.mk (Ld.mk (v:=vr) (by exact .tail _ (List.mem_append_right _ hG.cell)) rfl ?_))
 refine hG.rf.bC ?_
 rw[ak]
 refine ae.aL (b:=2) (by simp[aB];omega) ?_
 refine ae.ry (by omega) ?_
 have hlt:=Nat.mod_lt a (show 0<refs.length+2 by omega)
 generalize a%(refs.length+2)=i at*
 refine ae.eA (b:=2) (Br.dec (fun h2=>?_) (fun h2=>?_))
 ·refine Nil.ptr (aa.mk (Ld.mk (v:=.int .i64 (K.n:Int)) (by exact .tail _ (List.mem_append_right _ hG.cell)) rfl ?_))
  refine ae.eB (b:=1) ?_
  refine af.px (.cons .left) (mS hn (decide (i=1)) M) ?_
  rintro w N ⟨v,rfl,ws,⟨s,rfl,hw⟩,hf,he⟩
  refine Ext.mk rfl (Ext.mk rfl ?_)
  intro kX _
  have h1:∀x∈[Value.int .i64 (K.n:Int),s],x.oneCell'=true:=by have:=aH hw;simpa[Value.oneCell']using this
  refine St.whole (r:=[.int .i64 (K.n:Int),s]) (by exact .head _) rfl rfl h1 ?_
  refine DR.self ?_
  refine aW.nat (by simp[aB];omega) ?_
  refine aC.whole (r:=[.int .i64 (K.n:Int),s]) (by exact .head _) rfl ?_
  refine St.whole (r:=[.int .i64 (K.n:Int),s]) (by exact .tail (.head _)) rfl rfl h1 ?_
  refine aC.whole (r:=[.int .i64 (K.n:Int),s]) (by exact .tail _ (.head _)) rfl ?_
  refine aA.here ⟨_::_::(N++M),rfl,.cons (.cons (.app (.refl _))),i,_,rfl,.inl h2,ws,⟨s,rfl,hw.mono zS⟩,hf,he.trans ?_⟩
  have:i=0∨i=1:=by omega
  rcases this with rfl|rfl
  ·exact funext fun x=>(hint.zero x).symm
  ·exact funext fun x=>(hint.one x).symm
 ·refine DR.self ?_
  refine Nil.ptr (aa.mk (Ld.mk (v:=vr) (by exact .tail _ (List.mem_append_right _ hG.cell)) rfl ?_))
  refine ae.bH (b:=2) (by simp[aB];omega) (by omega) ?_
  have hi:i-2<refs.length:=by omega
  refine hG.rf.ld (n:=((refs.getD (i-2) 0:Nat):Int)) (bc hi) (fun _ h=>.tail _ (List.mem_append_right _ h)) ?_
  refine Nil.ptr (aa.mk (Ld.mk (v:=vf) (by exact .tail _ (List.mem_append_right _ hG.cell)) rfl ?_))
  refine ae.bH (b:=2) (by simp[aB];omega) (by omega) ?_
  have hi':i-2<fs.length:=by rw[←hg.len];exact hi
  have e':fs.getD (i-2) []=fs[i-2]:=by rw[List.getD_eq_getElem?_getD,List.getElem?_eq_getElem hi'];rfl
  obtain⟨rs,hSl,hE⟩:=hG.fn
  obtain⟨row,hrow,s,rfl,hw⟩:=hE.get (i:=i-2) (x:=⟨K.n,fs[i-2]⟩) (by rw[List.getElem?_map,List.getElem?_eq_getElem hi'];rfl)
  refine ai.sl hSl hrow fun p hp=>?_
  refine aC.at hp rfl (by decide) (fun _ h=>.tail _ (List.mem_append_right _ h)) ?_
  have h1:∀x∈[Value.int .i64 (K.n:Int),s],x.oneCell'=true:=by have:=aH hw;simpa[Value.oneCell']using this
  refine St.whole (r:=[.int .i64 (K.n:Int),s]) (by exact .head _) rfl rfl h1 ?_
  refine aC.whole (r:=[.int .i64 (K.n:Int),s]) (by exact .head _) rfl ?_
  obtain⟨mq,h3⟩:=hg.is (i-2) hi
  have hmem:refs.getD (i-2) 0∈refs:=by rw[List.getD_eq_getElem?_getD,List.getElem?_eq_getElem hi];exact List.getElem_mem hi
  exact aA.here ⟨_::M,rfl,.cons (.refl _),refs.getD (i-2) 0,_,rfl,hg.live hK hmem,fs[i-2],⟨s,rfl,hw.mono zS⟩,hg.nI _ (List.getElem_mem hi'),by rw[←e'];exact h3⟩
def RJ(k v x:Nat)(f h i:aE.Fn):aE.Fn:=match k with
 |0=>fun y=>y.testBit v
 |1=>fun y=> !f y
 |2=>fun y=>G8 (x%16) (f y) (h y)
 |3=>fun y=>G8 (x%16) (f y) (h y)
 |4=>fun y=>if f y then h y else i y
 |5=>fun y=>f (an.az y v (decide (x%2=1)))
 |6=>fun y=>G8 14 (f (an.az y v false)) (f (an.az y v true))
 |7=>fun y=>G8 8 (f (an.az y v false)) (f (an.az y v true))
 |_=>fun y=>if h y then f (an.az y v true)else f (an.az y v false)
structure ur where
 k:Nat
 v:Nat
 a:Nat
 b:Nat
 c:Nat
 x:Nat
structure ur.Ok(o:ur):Prop where
 k:o.k<256
 v:o.v<256
 a:o.a<256
 b:o.b<256
 c:o.c<256
 x:o.x<18446744073709551616
def ur.cells(o:ur):List Value:=[.int .u8 (o.k:Int),.int .u8 (o.v:Int),.int .u8 (o.a:Int),.int .u8 (o.b:Int),.int .u8 (o.c:Int),.int .u64 (o.x:Int)]
set_option maxHeartbeats 1000000 in
theorem J0(hG:mP gb kp K.n vr vf refs fs M G)(hn:K.n≤16)(um:1≤K.n){o:ur}(ho:o.Ok){ft ht it:Value}{f h i:aE.Fn}(hf:cJ M ft K.n f)(hh:cJ M ht K.n h)(hi:cJ M it K.n i):
  PxL Tryz.prog 127 #[ptr gb,.agg o.cells.toArray,ft,ht,it] M G (fun w H=>∃t,w=.tuple #[t,.int .i64 0]∧cJ H t K.n (RJ (o.k%9) (o.v%K.n) o.x f h i)):=by
 obtain⟨ws,⟨s1,rfl,hw⟩,hwf,rfl⟩:=hf
 obtain⟨us,⟨s2,rfl,hu⟩,huf,rfl⟩:=hh
 obtain⟨rs,⟨s3,rfl,hr⟩,hrf,rfl⟩:=hi
 intro g
 refine EB (R:=aA _) ?_
 unfold L127
 intro b1 _ b3 _ b5 _ b7 _ b9 _
 refine aa.mk (Ld.mk (v:=.int .u8 (o.v:Int)) (by exact .tail _ (.tail _ (.tail _ (.tail _ (.head _))))) rfl ?_)
 refine aW.nat (by have:=ho.v;simp[aB];omega) ?_
 refine Nil.ptr (aa.mk (Ld.mk (v:=.int .i64 (K.n:Int)) (by exact .tail _ (.tail _ (.tail _ (.tail _ (.tail _ (List.mem_append_right _ hG.cell)))))) rfl ?_))
 refine ae.ry (by omega) ?_
 have hv:=Nat.mod_lt o.v (show 0<K.n by omega)
 generalize o.v%K.n=v at*
 refine Nil.ptr (aa.mk (Ld.mk (v:=.int .i64 (K.n:Int)) (by exact .tail _ (.tail _ (.tail _ (.tail _ (.tail _ (List.mem_append_right _ hG.cell)))))) rfl ?_))
 obtain⟨B1,Jj⟩:∃B1:Hp,B1=(b7,Obj.cells #[.int .i64 (K.n:Int),s3] 57 (0,0))::(b5,.cells #[.int .i64 (K.n:Int),s2] 57 (0,0))::(b3,.cells #[.int .i64 (K.n:Int),s1] 57 (0,0))::(b1,.cells o.cells.toArray 106 (0,0))::M:=⟨_,rfl⟩
 have m7:(b7,Obj.cells #[.int .i64 (K.n:Int),s3] 57 (0,0))∈B1:=by rw[Jj];exact .head _
 have m5:(b5,Obj.cells #[.int .i64 (K.n:Int),s2] 57 (0,0))∈B1:=by rw[Jj];exact .tail _ (.head _)
 have m3:(b3,Obj.cells #[.int .i64 (K.n:Int),s1] 57 (0,0))∈B1:=by rw[Jj];exact .tail _ (.tail _ (.head _))
 have m1:(b1,Obj.cells o.cells.toArray 106 (0,0))∈B1:=by rw[Jj];exact .tail _ (.tail _ (.tail _ (.head _)))
 have hsub:∀x∈M,x∈B1:=fun x hx=>by rw[Jj];exact .tail _ (.tail _ (.tail _ (.tail _ hx)))
 have jj:aV M B1:=by rw[Jj];exact .cons (.cons (.cons (.cons (.refl _))))
 change af Tryz.prog g _ _ ((b9,Obj.cells #[.int .i64 0,.slice none 0 0] 57 (0,0))::(((b7,Obj.cells #[.int .i64 (K.n:Int),s3] 57 (0,0))::(b5,.cells #[.int .i64 (K.n:Int),s2] 57 (0,0))::(b3,.cells #[.int .i64 (K.n:Int),s1] 57 (0,0))::(b1,.cells o.cells.toArray 106 (0,0))::M)++G)) _ _
 rw[←Jj]
 have t1:cJ B1 (.agg #[.int .i64 (K.n:Int),s1]) K.n (eX K.n ws):=⟨ws,⟨s1,rfl,hw.mono hsub⟩,hwf,rfl⟩
 have t2:cJ B1 (.agg #[.int .i64 (K.n:Int),s2]) K.n (eX K.n us):=⟨us,⟨s2,rfl,hu.mono hsub⟩,huf,rfl⟩
 have t3:cJ B1 (.agg #[.int .i64 (K.n:Int),s3]) K.n (eX K.n rs):=⟨rs,⟨s3,rfl,hr.mono hsub⟩,hrf,rfl⟩
 clear Jj hw hu hr
 have one:∀{X:Hp} {s:Value} {l:List Nat},Words X s l→∀x∈[Value.int .i64 (K.n:Int),s],x.oneCell'=true:=fun hw=>by have:=aH hw;simpa[Value.oneCell']using this
 refine af.px (.cons .left) (E5 hn hv B1) ?_
 rintro w N1 ⟨_,rfl,w4,⟨s4,rfl,Nk⟩,Wc,Yo⟩
 refine Ext.mk rfl (Ext.mk rfl ?_)
 intro F1 _
 refine St.whole (r:=[.int .i64 (K.n:Int),s4]) (by exact .head _) rfl rfl (one Nk) ?_
 refine aC.whole (r:=[.int .i64 (K.n:Int),s1]) (by exact .tail _ (.tail _ (List.mem_append_left _ (List.mem_append_right _ m3)))) rfl ?_
 refine af.px (.cons (.cons .left)) (lV (c:=false) (t1.mono zS) hv) ?_
 rintro w N2 ⟨_,rfl,w5,⟨s5,rfl,Ug⟩,hf5,he5⟩
 refine Ext.mk rfl (Ext.mk rfl ?_)
 intro pN _
 refine St.whole (r:=[.int .i64 (K.n:Int),s5]) (by exact .head _) rfl rfl (one Ug) ?_
 refine aC.whole (r:=[.int .i64 (K.n:Int),s1]) (by exact .tail _ (.tail _ (.tail _ (List.mem_append_left _ (List.mem_append_right _ (List.mem_append_right _ m3)))))) rfl ?_
 refine af.px (.cons (.cons (.cons .left))) (lV (c:=true) (t1.mono zS) hv) ?_
 rintro w N3 ⟨_,rfl,w6,⟨s6,rfl,Qr⟩,hf6,he6⟩
 refine Ext.mk rfl (Ext.mk rfl ?_)
 intro F0 _
 refine St.whole (r:=[.int .i64 (K.n:Int),s6]) (by exact .head _) rfl rfl (one Qr) ?_
 obtain⟨Q,hQ⟩:∃Q:Hp,Q=N3++(N2++(N1++B1)):=⟨_,rfl⟩
 have q4:cJ Q (.agg #[.int .i64 (K.n:Int),s4]) K.n (fun y=>y.testBit v):=by rw[hQ];exact⟨w4,⟨s4,rfl,Nk.mono zS⟩,Wc,Yo⟩
 have q5:cJ Q (.agg #[.int .i64 (K.n:Int),s5]) K.n (fun y=>eX K.n ws (an.az y v false)):=by rw[hQ];exact⟨w5,⟨s5,rfl,Ug.mono zS⟩,hf5,he5⟩
 have q6:cJ Q (.agg #[.int .i64 (K.n:Int),s6]) K.n (fun y=>eX K.n ws (an.az y v true)):=by rw[hQ];exact⟨w6,⟨s6,rfl,Qr⟩,hf6,he6⟩
 have QY:∀x∈B1,x∈Q:=fun x hx=>by rw[hQ];exact List.mem_append_right _ (List.mem_append_right _ (List.mem_append_right _ hx))
 have hgQ:aV M Q:=by rw[hQ];exact .app (.app (.app jj))
 rw[←hQ]
 have t1:=t1.mono QY
 have t2:=t2.mono QY
 have t3:=t3.mono QY
 have m1:=QY _ m1
 have m3:=QY _ m3
 have m5:=QY _ m5
 have m7:=QY _ m7
 clear hQ QY jj hsub Nk Ug Qr
 have fin:∀(N4:Hp) (f:aE.Fn) (u:Value),cJ (N4++Q) u K.n f→f=RJ (o.k%9) v o.x (eX K.n ws) (eX K.n us) (eX K.n rs)→
   St 2 ((F0,.cells #[.int .i64 (K.n:Int),s6] 57 (0,0))::(pN,.cells #[.int .i64 (K.n:Int),s5] 57 (0,0))::(F1,.cells #[.int .i64 (K.n:Int),s4] 57 (0,0))::(b9,.cells #[.int .i64 0,.slice none 0 0] 57 (0,0))::((N4++Q)++G)) (ptr b9) u fun H=>aC 2 H (ptr b9) fun r=>
    aA (fun w H=>∃M',H=M'++G∧aV M M'∧∃t,w=.tuple #[t,.int .i64 0]∧cJ M' t K.n (RJ (o.k%9) v o.x (eX K.n ws) (eX K.n us) (eX K.n rs))) (.returned (.tuple #[r,.int .i64 0])) H:=by
  rintro N4 f u ⟨w7,⟨s7,rfl,hw7⟩,hf7,he7⟩ e
  refine St.whole (r:=[.int .i64 (K.n:Int),s7]) (by exact .tail (.tail (.tail (.head _)))) rfl rfl (one hw7) ?_
  refine aC.whole (r:=[.int .i64 (K.n:Int),s7]) (by exact .tail _ (.tail _ (.tail _ (.head _)))) rfl ?_
  exact aA.here ⟨_::_::_::_::(N4++Q),rfl,.cons (.cons (.cons (.cons (.app hgQ)))),_,rfl,w7,⟨s7,rfl,hw7.mono zS⟩,hf7,he7.trans e⟩
 have X8:∀{k:Value→Prop},k (.agg #[.int .i64 (K.n:Int),s1])→aC 2 ((F0,.cells #[.int .i64 (K.n:Int),s6] 57 (0,0))::(pN,.cells #[.int .i64 (K.n:Int),s5] 57 (0,0))::(F1,.cells #[.int .i64 (K.n:Int),s4] 57 (0,0))::(b9,.cells #[.int .i64 0,.slice none 0 0] 57 (0,0))::(Q++G)) (ptr b3) k:=fun hk=>
  aC.whole (r:=[.int .i64 (K.n:Int),s1]) (by exact .tail _ (.tail _ (.tail _ (.tail _ (List.mem_append_left _ m3))))) rfl hk
 have ZF:∀{k:Value→Prop},k (.agg #[.int .i64 (K.n:Int),s2])→aC 2 ((F0,.cells #[.int .i64 (K.n:Int),s6] 57 (0,0))::(pN,.cells #[.int .i64 (K.n:Int),s5] 57 (0,0))::(F1,.cells #[.int .i64 (K.n:Int),s4] 57 (0,0))::(b9,.cells #[.int .i64 0,.slice none 0 0] 57 (0,0))::(Q++G)) (ptr b5) k:=fun hk=>
  aC.whole (r:=[.int .i64 (K.n:Int),s2]) (by exact .tail _ (.tail _ (.tail _ (.tail _ (List.mem_append_left _ m5))))) rfl hk
 have ld7:∀{k:Value→Prop},k (.agg #[.int .i64 (K.n:Int),s3])→aC 2 ((F0,.cells #[.int .i64 (K.n:Int),s6] 57 (0,0))::(pN,.cells #[.int .i64 (K.n:Int),s5] 57 (0,0))::(F1,.cells #[.int .i64 (K.n:Int),s4] 57 (0,0))::(b9,.cells #[.int .i64 0,.slice none 0 0] 57 (0,0))::(Q++G)) (ptr b7) k:=fun hk=>
  aC.whole (r:=[.int .i64 (K.n:Int),s3]) (by exact .tail _ (.tail _ (.tail _ (.tail _ (List.mem_append_left _ m7))))) rfl hk
 have RX:∀{k:Value→Prop},k (.agg #[.int .i64 (K.n:Int),s5])→aC 2 ((F0,.cells #[.int .i64 (K.n:Int),s6] 57 (0,0))::(pN,.cells #[.int .i64 (K.n:Int),s5] 57 (0,0))::(F1,.cells #[.int .i64 (K.n:Int),s4] 57 (0,0))::(b9,.cells #[.int .i64 0,.slice none 0 0] 57 (0,0))::(Q++G)) (ptr pN) k:=fun hk=>
  aC.whole (r:=[.int .i64 (K.n:Int),s5]) (by exact .tail _ (.head _)) rfl hk
 have RW:∀{k:Value→Prop},k (.agg #[.int .i64 (K.n:Int),s6])→aC 2 ((F0,.cells #[.int .i64 (K.n:Int),s6] 57 (0,0))::(pN,.cells #[.int .i64 (K.n:Int),s5] 57 (0,0))::(F1,.cells #[.int .i64 (K.n:Int),s4] 57 (0,0))::(b9,.cells #[.int .i64 0,.slice none 0 0] 57 (0,0))::(Q++G)) (ptr F0) k:=fun hk=>
  aC.whole (r:=[.int .i64 (K.n:Int),s6]) (by exact .head _) rfl hk
 have RT:∀(i:Nat) (x:Value) {k:Value→Prop},o.cells[i]? =some x→k x→aa i (ptr b1) fun p=>Ld ((F0,.cells #[.int .i64 (K.n:Int),s6] 57 (0,0))::(pN,.cells #[.int .i64 (K.n:Int),s5] 57 (0,0))::(F1,.cells #[.int .i64 (K.n:Int),s4] 57 (0,0))::(b9,.cells #[.int .i64 0,.slice none 0 0] 57 (0,0))::(Q++G)) p k:=fun i x _ hx hk=>
  aa.mk (Ld.mk (v:=x) (by exact .tail _ (.tail _ (.tail _ (.tail _ (List.mem_append_left _ m1))))) (by simpa using hx) hk)
 refine RT 0 _ rfl ?_
 refine ae.ry (b:=9) (by decide) ?_
 have hk9:=Nat.mod_lt o.k (show 0<9 by decide)
 have hx:=ho.x
 generalize o.k%9=k at*
 refine ae.eB (b:=0) (Br.dec (fun h0=>?_) (fun h0=>?_))
 ·subst h0
  refine aC.whole (r:=[.int .i64 (K.n:Int),s4]) (by exact .tail _ (.tail _ (.head _))) rfl ?_
  exact fin [] _ _ q4 rfl
 refine ae.eB (b:=1) (Br.dec (fun h0=>?_) (fun h0=>?_))
 ·subst h0
  refine X8 ?_
  refine af.px (.cons (.cons (.cons (.cons .left)))) (NQ t1) ?_
  rintro w N4 ⟨u,rfl,hu⟩
  exact Ext.mk rfl (Ext.mk rfl (fin N4 _ u hu rfl))
 intro J hJ
 have BL:J [.bool (decide (k=2∨k=3))] ((F0,.cells #[.int .i64 (K.n:Int),s6] 57 (0,0))::(pN,.cells #[.int .i64 (K.n:Int),s5] 57 (0,0))::(F1,.cells #[.int .i64 (K.n:Int),s4] 57 (0,0))::(b9,.cells #[.int .i64 0,.slice none 0 0] 57 (0,0))::(Q++G)):=by
  refine hJ _ _ fun gs=>?_
  refine Br.dec (fun WW=>?_) (fun WW=>?_)
  ·refine RT 5 _ rfl ?_
   refine ae.ry (b:=16) (by decide) ?_
   have h16:=Nat.mod_lt o.x (show 0<16 by decide)
   refine aW.nat (by simp[aB];omega) ?_
   refine X8 (ZF ?_)
   refine af.px (.cons (.cons (.cons (.cons .left)))) (wJ h16 t1 t2) ?_
   rintro w N4 ⟨u,rfl,hu⟩
   refine Ext.mk rfl (Ext.mk rfl (fin N4 _ u hu ?_))
   rcases WW with rfl|rfl<;>rfl
  refine ae.eB (b:=4) (Br.dec (fun h0=>?_) (fun h0=>?_))
  ·subst h0
   refine X8 (ZF (ld7 ?_))
   refine af.px (.cons (.cons (.cons (.cons .left)))) (wG t1 t2 t3) ?_
   rintro w N4 ⟨u,rfl,hu⟩
   exact Ext.mk rfl (Ext.mk rfl (fin N4 _ u hu rfl))
  refine ae.eB (b:=5) (Br.dec (fun h0=>?_) (fun h0=>?_))
  ·subst h0
   refine X8 (RT 5 _ rfl ?_)
   refine ae.ry (b:=2) (by decide) ?_
   refine ae.eB (b:=1) ?_
   refine af.px (.cons (.cons (.cons (.cons .left)))) (lV t1 hv) ?_
   rintro w N4 ⟨u,rfl,hu⟩
   exact Ext.mk rfl (Ext.mk rfl (fin N4 _ u hu rfl))
  refine ae.eB (b:=6) (Br.dec (fun h0=>?_) (fun h0=>?_))
  ·subst h0
   refine RX (RW ?_)
   refine af.px (.cons (.cons (.cons (.cons .left)))) (wJ (op:=14) (by decide) q5 q6) ?_
   rintro w N4 ⟨u,rfl,hu⟩
   exact Ext.mk rfl (Ext.mk rfl (fin N4 _ u hu rfl))
  refine ae.eB (b:=7) (Br.dec (fun h0=>?_) (fun h0=>?_))
  ·subst h0
   refine RX (RW ?_)
   refine af.px (.cons (.cons (.cons (.cons .left)))) (wJ (op:=8) (by decide) q5 q6) ?_
   rintro w N4 ⟨u,rfl,hu⟩
   exact Ext.mk rfl (Ext.mk rfl (fin N4 _ u hu rfl))
  ·have:k=8:=by omega
   subst this
   refine ZF (RW (RX ?_))
   refine af.px (.cons (.cons (.cons (.cons .left)))) (wG t2 q6 q5) ?_
   rintro w N4 ⟨u,rfl,hu⟩
   exact Ext.mk rfl (Ext.mk rfl (fin N4 _ u hu rfl))
 refine ae.eB (b:=2) (Br.dec (fun h2=>?_) (fun h2=>?_))
 ·have:decide (k=2)=decide (k=2∨k=3):=by simp[h2]
  rw[this];exact JE.mk BL
 ·refine ae.eB (b:=3) ?_
  have:decide (k=3)=decide (k=2∨k=3):=by simp[h2]
  rw[this];exact JE.mk BL
end
end Go.Proofs
namespace Go.Sx
open Go
section
variable {P:Program} {g:Gh} {H B:Hp} {c:Hp→Hp}
theorem af.top{f:FuncId}{args:Array Value}{Q:Value→Hp→Prop}{K:Value→Hp→Prop}{KP:List PanicEntry→Hp→Prop}(hh:bS B H c)(hc:Fc P f args B (fun r H'=>∃N,H'=N++B∧Q r N))(hk:∀r N,Q r N→K r (N++H)):af P g f args H K KP:=by
 refine(af.fn (K:=fun r H'=>∃N,H'=c (N++B)∧Q r N) (KP:=KP) hh hc fun r C' ⟨N,h1,h2⟩=>⟨N,by rw[h1],h2⟩).post ?_
 intro e H' h
 cases e with
 |returned v=>
  obtain⟨N,rfl,hq⟩:=h
  refine⟨N++H,?_,hk v N hq⟩
  obtain⟨h1,F,h2⟩:=hh.spec
  refine .perm ((h2 (N++B)).trans ?_)
  rw[h1,List.append_assoc]
  exact List.Perm.append_left N (h2 B).symm
 |panicked ch=>exact⟨H',.refl _,h⟩
 |outgrown=>exact⟨H',.refl _,h⟩
theorem aQ.Zt{x:Nat×Obj}(h:x∈H):aQ H [x]:=by
 obtain⟨A,D,rfl⟩:=List.append_of_mem h
 exact .fO (aQ.left (A:=[x]))
end
end Go.Sx
