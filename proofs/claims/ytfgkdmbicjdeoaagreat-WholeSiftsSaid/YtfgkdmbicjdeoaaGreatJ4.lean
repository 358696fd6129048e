import Derived.Test.YtfgkdmbicjdeoaaGreatJ3
import Derived.Test.YtfgkdmbicjdeoaaGreatJ2
import Derived.Test.YtfgkdmbicjdeoaaGreatJ1
set_option linter.unusedVariables false
set_option linter.unusedSimpArgs false
set_option linter.unusedSectionVars false
namespace aF
def B8(i:Nat):Nat→List Nat
 |0=>[]
 |j+1=>if i≤j then j::B8 i j else []
theorem ye{i j:Nat}(h:j≤i):B8 i j=[]:=by
 cases j with
 |zero=>rfl
 |succ j=>rw[B8,if_neg (by omega)]
theorem pY{i j:Nat}(h:i≤j):B8 i (j+1)=j::B8 i j:=by rw[B8,if_pos h]
theorem Gi{i l:Nat}:∀{j},l∈B8 i j→i≤l∧l<j
 |0,h=>by simp[B8]at h
 |j+1,h=>by
  by_cases e:i≤j
  ·rw[pY e]at h
   rcases List.mem_cons.1 h with rfl|h
   ·omega
   ·have:=Gi h;omega
  ·rw[ye (by omega)]at h;simp at h
theorem Gj(i:Nat):∀j,(B8 i j).length=j-i
 |0=>by simp[B8]
 |j+1=>by
  by_cases e:i≤j
  ·rw[pY e,List.length_cons,Gj i j];omega
  ·rw[ye (by omega)];simp;omega
theorem Gk{i k:Nat}:∀{j:Nat} {a:List Nat},i≤j→j<a.length→(k≤i→(av a (B8 i j)).getD k 0=if k=i then a.getD j 0 else a.getD k 0)
 |0,a,hi,hj,hk=>by
  obtain rfl:i=0:=by omega
  obtain rfl:k=0:=by omega
  simp[B8,av]
 |j+1,a,hi,hj,hk=>by
  by_cases e:i≤j
  ·rw[pY e]
   show(av (gI a j) (B8 i j)).getD k 0=_
   rw[Gk (j:=j) e (by rw[kM];omega) hk,dz (by omega),dz (by omega)]
   by_cases h:k=i
   ·subst h;simp
   ·rw[if_neg h,if_neg h,if_neg (by omega),if_neg (by omega)]
  ·obtain rfl:i=j+1:=by omega
   rw[ye (Nat.le_refl _)]
   show a.getD k 0=_
   split
   ·rename_i h;rw[h]
   ·rfl
def U2(p:List Nat)(x:Nat):Nat:=p.idxOf x
def eX(p q:List Nat):Nat→List Nat
 |0=>[]
 |i+1=>eX p q i++B8 i (U2 (av p (eX p q i)) (q.getD i 0))
def path(p q:List Nat):List Nat:=eX p q q.length
theorem K8{p:List Nat}{x:Nat}(h:x∈p):U2 p x<p.length:=List.idxOf_lt_length_iff.2 h
theorem FE{p:List Nat}{x:Nat}(h:x∈p):p.getD (U2 p x) 0=x:=by
 have h1:=K8 h
 rw[List.getD_eq_getElem?_getD,List.getElem?_eq_getElem h1]
 show p[p.idxOf x]=x
 exact List.getElem_idxOf h1
section
variable {p q:List Nat}
theorem kS(hq:q.Nodup)(hp:p.Perm q):∀i,i≤q.length→(∀l∈eX p q i,l+1<p.length)∧(∀k,k<i→(av p (eX p q i)).getD k 0=q.getD k 0)∧(i<q.length→i≤U2 (av p (eX p q i)) (q.getD i 0)∧U2 (av p (eX p q i)) (q.getD i 0)<p.length)
 |i,hi=>by
  have hlen:=hp.length_eq
  have base:(∀l∈eX p q i,l+1<p.length)∧(∀k,k<i→(av p (eX p q i)).getD k 0=q.getD k 0):=by
   cases i with
   |zero=>exact⟨fun l hl=>by simp[eX]at hl,fun k hk=>absurd hk (Nat.not_lt_zero _)⟩
   |succ i=>
    obtain⟨h1,h2,h3⟩:=kS hq hp i (by omega)
    obtain⟨h4,h5⟩:=h3 (by omega)
    have hm:q.getD i 0∈av p (eX p q i):=by
     have:q.getD i 0∈q:=by rw[List.getD_eq_getElem?_getD,List.getElem?_eq_getElem (show i<q.length by omega)];exact List.getElem_mem _
     exact((iG h1).trans hp).mem_iff.2 this
    refine⟨fun l hl=>?_,fun k hk=>?_⟩
    ·rcases List.mem_append.1 hl with hl|hl
     ·exact h1 l hl
     ·have:=Gi hl;omega
    ·rw[eX,df,Gk h4 (by rw[dP];exact h5) (by omega)]
     split
     ·rename_i e;subst e;exact FE hm
     ·exact h2 k (by omega)
  refine⟨base.1,base.2,fun hlt=>?_⟩
  have hm:q.getD i 0∈av p (eX p q i):=by
   have:q.getD i 0∈q:=by rw[List.getD_eq_getElem?_getD,List.getElem?_eq_getElem hlt];exact List.getElem_mem _
   exact((iG base.1).trans hp).mem_iff.2 this
  have h5:=K8 hm
  rw[dP]at h5
  refine⟨?_,h5⟩
  refine Classical.byContradiction fun iA=>?_
  have:=base.2 _ (Nat.lt_of_not_le iA)
  rw[FE hm]at this
  have:=getD_inj hq hlt (by omega) this
  omega
theorem FI(hq:q.Nodup)(hp:p.Perm q):av p (path p q)=q∧∀l∈path p q,l+1<p.length:=by
 obtain⟨h1,h2,_⟩:=kS hq hp q.length (Nat.le_refl _)
 refine⟨Aj (by rw[dP];exact hp.length_eq) fun i hi=>h2 i ?_,h1⟩
 rw[dP,hp.length_eq]at hi;exact hi
theorem nj(hq:q.Nodup)(hp:p.Perm q):∀i,i≤q.length→(eX p q i).length≤i*p.length
 |0,_=>by simp[eX]
 |i+1,hi=>by
  have:=nj hq hp i (by omega)
  obtain⟨_,_,h3⟩:=kS hq hp i (by omega)
  rw[eX,List.length_append,Gj,Nat.succ_mul]
  have:=(h3 (by omega)).2
  omega
end
end aF
namespace aF
open aG
section
variable {n l:Nat} {ord:List Nat} {F G:Fn→Prop} {f c:Fn}
theorem wA:∀l g,fs ord (fun g=>F g∨G g) l g↔fs ord F l g∨fs ord G l g
 |0,g=>Iff.rfl
 |l+1,g=>by
  constructor
  ·rintro⟨f,hf,b,rfl⟩
   rcases(wA l f).1 hf with h|h
   ·exact .inl ⟨f,h,b,rfl⟩
   ·exact .inr ⟨f,h,b,rfl⟩
  ·rintro(⟨f,hf,b,rfl⟩|⟨f,hf,b,rfl⟩)
   ·exact⟨f,(wA l f).2 (.inl hf),b,rfl⟩
   ·exact⟨f,(wA l f).2 (.inr hf),b,rfl⟩
theorem Li(g:Fn):aR n ord (fun g=>F g∨G g) g↔aR n ord F g∨aR n ord G g:=by
 constructor
 ·rintro⟨l,hl,hf,hh⟩
  rcases(wA l g).1 hf with h|h
  ·exact .inl ⟨l,hl,h,hh⟩
  ·exact .inr ⟨l,hl,h,hh⟩
 ·rintro(⟨l,hl,hf,hh⟩|⟨l,hl,hf,hh⟩)
  ·exact⟨l,hl,(wA l g).2 (.inl hf),hh⟩
  ·exact⟨l,hl,(wA l g).2 (.inr hf),hh⟩
theorem cj{v:Nat}(h:¬dr f v)(x:Nat)(b:Bool):f (aI x v b)=f x:=by
 have h0:f (aI x v false)=f (aI x v true):=Classical.byContradiction fun hne=>h ⟨x,hne⟩
 have h1:=jY x v
 conv=>rhs;rw[←h1]
 cases b<;>cases x.testBit v<;>simp[h0]
theorem x4(hi:∀j,j<l→¬dr f (ord.getD j 0)):∀k,k≤l→fs ord (fun g=>g=f) k f
 |0,_=>rfl
 |k+1,hk=>⟨f,x4 hi k (by omega),false,funext fun x=>(cj (hi k (by omega)) x false).symm⟩
theorem x5(hi:∀j,j<l→¬dr f (ord.getD j 0)):∀k,k≤l→∀g,fs ord (fun g=>g=f) k g→g=f
 |0,_,g,h=>h
 |k+1,hk,g,h=>by
  obtain⟨f',hf,b,rfl⟩:=h
  obtain rfl:=x5 hi k (by omega) f' hf
  exact funext fun x=>cj (hi k (by omega)) x b
theorem iH(hi:∀j,j<l→¬dr f (ord.getD j 0)){b:Bool}(hc:c=fun x=>f (aI x (ord.getD l 0) b)):
  (∀j,j<l+1→¬dr c (ord.getD j 0))∧∀g,aR n ord (fun g=>g=c) g→aR n ord (fun g=>g=f) g:=by
 have h1:fs ord (fun g=>g=f) (l+1) c:=⟨f,x4 hi l (Nat.le_refl _),b,hc⟩
 have h2:∀j,j<l+1→¬dr c (ord.getD j 0):=fun j hj=>pS (l+1) c h1 j hj
 refine⟨h2,?_⟩
 rintro g ⟨m,hm,hf,hh⟩
 by_cases e:m<l+1
 ·obtain rfl:=x5 h2 m (by omega) g hf
  exact absurd hh (h2 m e)
 ·have key:∀d g,fs ord (fun g=>g=c) (l+1+d) g→fs ord (fun g=>g=f) (l+1+d) g:=fun d=>by
   induction d with
   |zero=>intro g hg;obtain rfl:=x5 h2 (l+1) (Nat.le_refl _) g hg;exact h1
   |succ d ih=>rintro g ⟨f',zV,b',rfl⟩;exact⟨f',ih f' zV,b',rfl⟩
  obtain⟨d,rfl⟩:∃d,m=l+1+d:=⟨m-(l+1),by omega⟩
  exact⟨_,hm,key d g hf,hh⟩
theorem mY(hi:∀j,j<l→¬dr f (ord.getD j 0))(hl:l<n)(hh:dr f (ord.getD l 0)):aR n ord (fun g=>g=f) f:=⟨l,hl,x4 hi l (Nat.le_refl _),hh⟩
end
section
variable {K:Kd} {S:Nat→Fn} {aj:Nat→Nat} {ord:List Nat}
theorem Ok.below(h:Ok K S aj)(ho:Ord K.n aj ord){r l:Nat}(hr:live K.N r)(hl:l≤K.n)(hi:∀j,j<l→¬dr (S r) (ord.getD j 0)):l≤dep K.n aj K.N r:=by
 cases e:K.N r with
 |none=>rw[aX e];exact hl
 |some d=>
  rw[ax e]
  refine Classical.byContradiction fun hlt=>?_
  have gZ:aj d.v<l:=Nat.lt_of_not_le hlt
  have:=hi _ gZ
  rw[ho.of h.lv (h.mid.var e)]at this
  exact this (oE h.wf h.lv h.mid.int e)
theorem Ok.roomFor(h:Ok K S aj)(ho:Ord K.n aj ord){U:Fn→Prop}{k:Nat}(hk:q8 U k)(hfit:k+2≤K.cap)(hU:∀g,aR K.n ord (K.held S) g→U g){d:Nd}
 (hlo:live K.N d.lo)(hhi:live K.N d.hi)(hne:d.lo≠d.hi)(hv:d.v<K.n)(hlt:aj d.v<dep K.n aj K.N d.lo∧aj d.v<dep K.n aj K.N d.hi)(hg:U (ite S d))(hT:K.T d=none):K.used<K.cap:=by
 have hs:=h.size ho
 have hu:=h.mid.room
 obtain⟨l1,a1,a2,a3⟩:=hs
 have Tk:ite S d∉l1:=fun hm=>by
  obtain⟨r,e,hr,he⟩:=(mh h.wf h.lv ho h.mid.int (fun r hr=>.inr (h.mid.held r hr)) h.reach (ite S d)).1 ((a3 _).2 hm)
  have hTd:¬K.N r=some d:=fun hN=>by
   have:=(h.mid.jF d r).2 ⟨hN,fun x=>x⟩
   rw[hT]at this;cases this
  apply hTd
  have S8:S r=ite S d:=he.symm
  have Wl:e.v=d.v:=by
   have e1:=h.lv.lt e.v (h.mid.var hr)
   have e2:=h.lv.lt d.v hv
   rcases Nat.lt_trichotomy (aj e.v) (aj d.v)with hh|hh|hh
   ·exfalso
    obtain⟨z,hz⟩:=oE h.wf h.lv h.mid.int hr
    rw[S8]at hz
    apply hz
    unfold ite
    have i1:=h.wf.bZ h.lv h.mid.int hlo (h.mid.var hr) (by omega)
    have i2:=h.wf.bZ h.lv h.mid.int hhi (h.mid.var hr) (by omega)
    have Vj:d.v≠e.v:=fun o8=>by rw[o8]at hh;omega
    simp only[ay,if_neg Vj,i1,i2]
   ·exact h.lv.inj _ _ (h.mid.var hr) hv hh
   ·exfalso
    have hx:=h.wf.bZ h.lv h.mid.int (r:=r) (.inr ⟨e,hr⟩) hv (by rw[ax hr];exact hh)
    apply hne
    refine h.wf.same h.lv h.mid.int hlo hhi fun x=>?_
    have i1:=h.wf.bZ h.lv h.mid.int hlo hv hlt.1
    have i2:=h.wf.bZ h.lv h.mid.int hhi hv hlt.2
    have q1:=hx x false
    have q2:=hx x true
    rw[S8]at q1 q2
    have q3:=q1.trans q2.symm
    unfold ite at q3
    simp only[ay,if_true,i1,i2,Bool.false_eq_true,if_false]at q3
    exact q3
  have kG:∀(b:Bool) x,S (if b then e.hi else e.lo) x=S (if b then d.hi else d.lo) x:=fun b x=>by
   rw[←h.wf.child h.lv h.mid.int hr x b,S8,Wl]
   have i1:=h.wf.bZ h.lv h.mid.int hlo hv hlt.1
   have i2:=h.wf.bZ h.lv h.mid.int hhi hv hlt.2
   unfold ite
   rw[ay,if_pos rfl,i1,i2]
   cases b<;>rfl
  have e1:e.lo=d.lo:=h.wf.same h.lv h.mid.int (h.mid.lo hr) hlo fun x=>kG false x
  have e2:e.hi=d.hi:=h.wf.same h.lv h.mid.int (h.mid.hi hr) hhi fun x=>kG true x
  have hed:∀a b:Nd,a.v=b.v→a.lo=b.lo→a.hi=b.hi→a=b:=fun a b h1 h2 h3=>by
   cases a;cases b;cases h1;cases h2;cases h3;rfl
  rw[hr,hed e d Wl e1 e2]
 obtain⟨l2,b1,b2,b3⟩:=hk
 have:=bP (l:=ite S d::l1) (l':=l2) (List.nodup_cons.2 ⟨Tk,a1⟩) fun g Rg=>by
  rcases List.mem_cons.1 Rg with rfl|Rg
  ·exact(b3 _).1 hg
  ·exact(b3 _).1 (hU g ((a3 g).2 Rg))
 rw[List.length_cons]at this
 omega
end
end aF
namespace aF
open aG
def dG(N:eB)(v:Nat)(b:Bool)(r:Nat):Nat:=match N r with
 |some d=>if d.v=v then(if b then d.hi else d.lo)else r
 |none=>r
def gR(N:eB)(v:Nat)(b:Bool)(q:List Nat):List Nat:=q.map (dG N v b)
structure sg(n:Nat)(aj:Nat→Nat)(N:eB)(q:List Nat)(v:Nat):Prop where
 lt:v<n
 ex:∃r∈q,∃d,N r=some d∧d.v=v
 le:∀r∈q,aj v≤dep n aj N r
inductive Tree(n:Nat)(aj:Nat→Nat)(N:eB):List Nat→Nat→Prop
 |leaf {q:List Nat} (h:∀r∈q,N r=none):Tree n aj N q 0
 |node {q:List Nat} {v a b:Nat} (h:sg n aj N q v) (ha:Tree n aj N (gR N v false q) a) (hb:Tree n aj N (gR N v true q) b):Tree n aj N q (a+b+1)
def sH(t:Bool→Bool→Bool→Bool)(S:Nat→Fn)(q:List Nat):Fn:=fun x=>t (S (q.getD 0 0) x) (S (q.getD 1 0) x) (S (q.getD 2 0) x)
section
variable {n:Nat} {aj:Nat→Nat} {N:eB} {S:Nat→Fn} {q:List Nat} {v:Nat}
theorem sg.uniq(hl:kB n aj){u:Nat}(h:sg n aj N q v)(h':sg n aj N q u):v=u:=by
 obtain⟨r,hr,d,hd,rfl⟩:=h.ex
 obtain⟨s,hs,e,he,rfl⟩:=h'.ex
 have a:=h.le s hs
 have b:=h'.le r hr
 rw[ax he]at a
 rw[ax hd]at b
 exact hl.inj _ _ h.lt h'.lt (by omega)
theorem iC(h:WF n aj N)(hl:kB n aj)(hi:Interp N S){r:Nat}(hr:live N r)(hv:v<n)(hle:aj v≤dep n aj N r)(b:Bool):
  (∀x,S (dG N v b r) x=S r (aI x v b))∧live N (dG N v b r)∧aj v+1≤dep n aj N (dG N v b r):=by
 have hlt:=hl.lt v hv
 unfold dG
 cases e:N r with
 |none=>
  simp only
  refine⟨fun x=>?_,hr,by rw[aX e];omega⟩
  exact(h.bZ hl hi hr hv (by rw[aX e];exact hlt) x b).symm
 |some d=>
  simp only
  rw[ax e]at hle
  by_cases ev:d.v=v
  ·rw[if_pos ev]
   subst ev
   refine⟨fun x=>(h.child hl hi e x b).symm,?_,?_⟩
   ·cases b
    ·exact(h.lo e).1
    ·exact(h.hi e).1
   ·cases b
    ·exact(h.lo e).2
    ·exact(h.hi e).2
  ·rw[if_neg ev]
   have hne:aj v≠aj d.v:=fun e2=>ev (hl.inj _ _ (h.var e) hv e2.symm)
   refine⟨fun x=>(h.bZ hl hi hr hv (by rw[ax e];omega) x b).symm,hr,by rw[ax e];omega⟩
theorem MT(b:Bool):(gR N v b q).length=q.length:=by simp[gR]
theorem MU{b:Bool}{i:Nat}(hi:i<q.length):(gR N v b q).getD i 0=dG N v b (q.getD i 0):=by
 simp[gR,List.getD,List.getElem?_eq_getElem hi]
theorem nG(h:WF n aj N)(hl:kB n aj)(hi:Interp N S)(hq:∀r∈q,live N r)(ht:sg n aj N q v)(b:Bool):
  (∀r∈gR N v b q,live N r)∧(∀r∈gR N v b q,aj v+1≤dep n aj N r):=by
 constructor
 ·intro r hr
  obtain⟨s,hs,rfl⟩:=List.mem_map.1 hr
  exact(iC h hl hi (hq s hs) ht.lt (ht.le s hs) b).2.1
 ·intro r hr
  obtain⟨s,hs,rfl⟩:=List.mem_map.1 hr
  exact(iC h hl hi (hq s hs) ht.lt (ht.le s hs) b).2.2
theorem Ga(h:WF n aj N)(hl:kB n aj)(hi:Interp N S)(h3:q.length=3)(hq:∀r∈q,live N r)(ht:sg n aj N q v)(t:Bool→Bool→Bool→Bool)(b:Bool):sH t S (gR N v b q)=fun x=>sH t S q (aI x v b):=by
 funext x
 have key:∀i,i<3→S ((gR N v b q).getD i 0) x=S (q.getD i 0) (aI x v b):=fun i Tw=>by
  have hi':i<q.length:=by omega
  rw[MU hi']
  have hm:q.getD i 0∈q:=by rw[List.getD_eq_getElem?_getD,List.getElem?_eq_getElem hi'];exact List.getElem_mem _
  exact(iC h hl hi (hq _ hm) ht.lt (ht.le _ hm) b).1 x
 unfold sH
 rw[key 0 (by omega),key 1 (by omega),key 2 (by omega)]
theorem wE(h:WF n aj N)(hl:kB n aj)(hi:Interp N S){ord:List Nat}(ho:Ord n aj ord)(h3:q.length=3)(hq:∀r∈q,live N r){l:Nat}(L0:l≤n)(hle:∀r∈q,l≤dep n aj N r)(t:Bool→Bool→Bool→Bool):∀j,j<l→¬dr (sH t S q) (ord.getD j 0):=by
 rintro j hj ⟨x,hx⟩
 apply hx
 obtain⟨o1,o2⟩:=ho.bc j (by omega)
 have key:∀i,i<3→∀b,S (q.getD i 0) (aI x (ord.getD j 0) b)=S (q.getD i 0) x:=fun i Tw b=>by
  have hi':i<q.length:=by omega
  have hm:q.getD i 0∈q:=by rw[List.getD_eq_getElem?_getD,List.getElem?_eq_getElem hi'];exact List.getElem_mem _
  exact h.bZ hl hi (hq _ hm) o1 (by rw[o2];exact Nat.lt_of_lt_of_le hj (hle _ hm)) x b
 unfold sH
 simp only[key 0 (by omega),key 1 (by omega),key 2 (by omega)]
theorem Ir(hi:Interp N S)(h3:q.length=3)(hq:∀r∈q,r<2)(t:Bool→Bool→Bool→Bool)(x:Nat):sH t S q x=t (decide (q.getD 0 0=1)) (decide (q.getD 1 0=1)) (decide (q.getD 2 0=1)):=by
 have key:∀i,i<3→S (q.getD i 0) x=decide (q.getD i 0=1):=fun i Tw=>by
  have hi':i<q.length:=by omega
  have hm:q.getD i 0∈q:=by rw[List.getD_eq_getElem?_getD,List.getElem?_eq_getElem hi'];exact List.getElem_mem _
  have:=hq _ hm
  have h2:q.getD i 0=0∨q.getD i 0=1:=by omega
  rcases h2 with e|e<;>rw[e]
  ·rw[hi.zero];rfl
  ·rw[hi.one];rfl
 unfold sH
 rw[key 0 (by omega),key 1 (by omega),key 2 (by omega)]
theorem KD(h:WF n aj N):∀{q:List Nat},(∃r∈q,∃d,N r=some d)→(hl:kB n aj)→∃v,sg n aj N q v
 | [],he,_=>by obtain⟨r,hr,_⟩:=he;cases hr
 |s::q,he,hl=>by
  by_cases hq:∃r∈q,∃d,N r=some d
  ·obtain⟨v,hv⟩:=KD h hq hl
   cases es:N s with
   |none=>
    refine⟨v,hv.lt,?_,fun r hr=>?_⟩
    ·obtain⟨r,hr,x⟩:=hv.ex;exact⟨r,by simp[hr],x⟩
    ·rcases List.mem_cons.1 hr with rfl|hr
     ·rw[aX es];exact Nat.le_of_lt (hl.lt v hv.lt)
     ·exact hv.le r hr
   |some d=>
    by_cases hlt:aj d.v≤aj v
    ·refine⟨d.v,h.var es,⟨s,by simp,d,es,rfl⟩,fun r hr=>?_⟩
     rcases List.mem_cons.1 hr with rfl|hr
     ·rw[ax es];exact Nat.le_refl _
     ·exact Nat.le_trans hlt (hv.le r hr)
    ·refine⟨v,hv.lt,?_,fun r hr=>?_⟩
     ·obtain⟨r,hr,x⟩:=hv.ex;exact⟨r,by simp[hr],x⟩
     ·rcases List.mem_cons.1 hr with rfl|hr
      ·rw[ax es];omega
      ·exact hv.le r hr
  ·obtain⟨r,hr,d,hd⟩:=he
   rcases List.mem_cons.1 hr with rfl|hr
   ·refine⟨d.v,h.var hd,⟨r,by simp,d,hd,rfl⟩,fun s hs=>?_⟩
    rcases List.mem_cons.1 hs with rfl|hs
    ·rw[ax hd];exact Nat.le_refl _
    ·have:N s=none:=by
      cases e:N s with
      |none=>rfl
      |some d'=>exact absurd ⟨s,hs,d',e⟩ hq
     rw[aX this];exact Nat.le_of_lt (hl.lt _ (h.var hd))
   ·exact absurd ⟨r,hr,d,hd⟩ hq
theorem OA(h:WF n aj N)(hl:kB n aj)(hi:Interp N S):∀(k l:Nat) (q:List Nat),n-l≤k→l≤n→(∀r∈q,live N r)→(∀r∈q,l≤dep n aj N r)→∃c,Tree n aj N q c∧c+1≤2^(n-l):=by
 intro k
 induction k with
 |zero=>
  intro l q hk L0 hq hd
  refine⟨0,.leaf fun r hr=>?_,Nat.one_le_two_pow⟩
  cases e:N r with
  |none=>rfl
  |some d=>have:=hd r hr;rw[ax e]at this;have:=hl.lt _ (h.var e);omega
 |succ k ih=>
  intro l q hk L0 hq hd
  by_cases he:∃r∈q,∃d,N r=some d
  ·obtain⟨v,hv⟩:=KD h he hl
   have hlv:=hl.lt v hv.lt
   have mz:l≤aj v:=by
    obtain⟨r,hr,d,c9,rfl⟩:=hv.ex
    have:=hd r hr
    rwa [ax c9]at this
   obtain⟨f1,f2⟩:=nG (S:=S) h hl hi hq hv false
   obtain⟨t1,t2⟩:=nG (S:=S) h hl hi hq hv true
   obtain⟨a,ha,AZ⟩:=ih (aj v+1) _ (by omega) hlv f1 f2
   obtain⟨b,hb,Xk⟩:=ih (aj v+1) _ (by omega) hlv t1 t2
   refine⟨a+b+1,.node hv ha hb,?_⟩
   have e1:2^(n-aj v)=2*2^(n-(aj v+1)):=by
    rw[show n-aj v=(n-(aj v+1))+1 by omega,Nat.pow_succ,Nat.mul_comm]
   have e2:2^(n-aj v)≤2^(n-l):=Nat.pow_le_pow_right (by decide) (by omega)
   omega
  ·refine⟨0,.leaf fun r hr=>?_,Nat.one_le_two_pow⟩
   cases e:N r with
   |none=>rfl
   |some d=>exact absurd ⟨r,hr,d,e⟩ he
def kV(N:eB)(v:Nat)(b:Bool)(q:List Nat)(i:Nat):List Nat:=(gR N v b q).take i++q.drop i
theorem zo{b:Bool}{i:Nat}(hi:i≤q.length):(kV N v b q i).length=q.length:=by simp[kV,gR];omega
theorem vQ(b:Bool):kV N v b q 0=q:=by simp[kV]
theorem Ln(b:Bool):kV N v b q q.length=gR N v b q:=by
 unfold kV
 rw[List.take_of_length_le (by rw[MT];exact Nat.le_refl _),List.drop_length,List.append_nil]
theorem qB{b:Bool}{i r:Nat}(hr:q[i]? =some r):(kV N v b q i).set i (dG N v b r)=kV N v b q (i+1):=by
 have hi:=(List.getElem?_eq_some_iff.1 hr).1
 have he:=(List.getElem?_eq_some_iff.1 hr).2
 have hl:((gR N v b q).take i).length=i:=by simp[gR];omega
 have hc:(gR N v b q)[i]? =some (dG N v b r):=by simp[gR,hr]
 unfold kV
 rw[List.set_append_right _ _ (by omega),hl,Nat.sub_self,List.drop_eq_getElem_cons hi,List.set_cons_zero,List.take_add_one,hc,List.append_assoc]
 rfl
theorem vR{b:Bool}{i r:Nat}(hr:q[i]? =some r)(h:dG N v b r=r):kV N v b q (i+1)=kV N v b q i:=by
 rw[←qB hr,h]
 have hi:=(List.getElem?_eq_some_iff.1 hr).1
 have he:=(List.getElem?_eq_some_iff.1 hr).2
 have hl:((gR N v b q).take i).length=i:=by simp[gR];omega
 unfold kV
 rw[List.set_append_right _ _ (by omega),hl,Nat.sub_self,List.drop_eq_getElem_cons hi,List.set_cons_zero,he]
end
end aF
set_option maxRecDepth 100000
namespace Go.Proofs
open Go Go.Sx
open aF
noncomputable instance {K:Kd}{S:Nat→aF.Fn}{ord:List Nat}{l:Nat}:Decidable (iR K S ord l):=Nat.decLe _ _
noncomputable def rm(K:Kd)(S:Nat→aF.Fn):Rm:=⟨K.n,cS K S,fun ord l=>decide (iR K S ord l)⟩
theorem l7{K:Kd}{S:Nat→aF.Fn}{ord:List Nat}{l:Nat}:(rm K S).fit ord l=true↔iR K S ord l:=by
 show decide (iR K S ord l)=true↔_
 exact decide_eq_true_iff
def rep(b a s:Nat):Value:=.agg #[.int .i64 (b:Int),.int .i64 (a:Int),.int .i64 (s:Int),.bool false]
end Go.Proofs
namespace aF
open aG
section
variable {n v:Nat} {bs:List Bool} {lo hi ws:List Nat}
theorem MJ(h:∀v,v<n→¬dr (fg n ws) v)(x:Nat):fg n ws x=fg n ws 0:=by
 have key:∀k,k≤n→fg n ws (x%2^k)=fg n ws 0:=fun k=>by
  induction k with
  |zero=>intro _;rw[show x%2^0=0 from Nat.mod_one x]
  |succ k ih=>
   intro hk
   rw[←ih (by omega)]
   have e:x%2^(k+1)=aI (x%2^k) k (x.testBit k):=by
    apply Nat.eq_of_testBit_eq;intro i
    rw[ay,Nat.testBit_mod_two_pow,Nat.testBit_mod_two_pow]
    by_cases e:i=k
    ·subst e;simp
    ·rw[if_neg e]
     congr 1
     exact decide_eq_decide.2 (by omega)
   rw[e,cj (h k (by omega))]
 have:=key n (Nat.le_refl _)
 rw[←this]
 unfold fg
 rw[Nat.mod_mod]
end
end aF
set_option maxRecDepth 100000
namespace Go.Proofs
open Go Go.Sx
open aF
theorem bg{ws:List Nat}{i:Nat}(h:i<ws.length):(iw ws)[i]? =some ((ws.getD i 0:Nat):Int):=by
 rw[cm (w:=ws.getD i 0)]
 rw[List.getD_eq_getElem?_getD,List.getElem?_eq_getElem h];rfl
def Wf(n:Nat)(p:List Int):Prop:=p.length=n∧∀v:Nat,v<n→p.count (v:Int)=1
instance (n:Nat)(p:List Int):Decidable (Wf n p):=by unfold Wf;infer_instance
theorem LK{p:List Int}{x:Int}{i:Nat}(h:x∉p.take i)(hi:i<p.length)(he:p[i]=x):p.idxOf x=i:=by
 have e:p=p.take i++p[i]::p.drop (i+1):=by
  conv=>lhs;rw[←List.take_append_drop i p]
  rw[List.drop_eq_getElem_cons hi]
 conv=>lhs;rw[e]
 rw[List.idxOf_append,if_neg h,he,List.idxOf_cons_self,List.length_take];omega
def mN(p:List Int):Prop:=∀v:Nat,v<p.length→(v:Int)∈p
theorem uc{p:List Nat}{n:Nat}(hp:p.Perm (List.range n)):mN (iw p):=fun v hv=>by
 rw[an,hp.length_eq,List.length_range]at hv
 exact List.mem_map.2 ⟨v,hp.mem_iff.2 (List.mem_range.2 hv),rfl⟩
theorem Lo{q:List Nat}{x:Nat}:(x:Int)∈iw q↔x∈q:=by
 unfold iw
 rw[List.mem_map]
 exact⟨fun⟨y,hy,e⟩=>by rw[←Int.ofNat.inj e];exact hy,fun h=>⟨x,h,rfl⟩⟩
theorem SS(q:List Nat)(x:Nat):(iw q).idxOf (x:Int)=q.idxOf x:=by
 induction q with
 |nil=>rfl
 |cons y q ih=>
  show(((y:Nat):Int)::iw q).idxOf (x:Int)=_
  rw[List.idxOf_cons,List.idxOf_cons,ih]
  have:(((y:Nat):Int)==(x:Int))=(y==x):=by
   rw[Bool.eq_iff_iff];simp[Int.natCast_inj]
  rw[this]
end Go.Proofs
set_option maxRecDepth 100000
namespace Go.Proofs
open Go Go.Sx
open aF
section
variable {n:Nat} {ord:List Nat} {L:aG.Fs}
theorem x9:∀k,(cur n ord L k).length≤2^k*L.length
 |0=>by rw[cur,Nat.pow_zero,Nat.one_mul];exact G0 L
 |k+1=>by
  have h1:=MB n (ord.getD k 0) (cur n ord L k)
  have h2:=x9 k
  rw[cur,Nat.pow_succ,Nat.mul_comm (2^k) 2,Nat.mul_assoc]
  omega
end
theorem MF{ord:List Nat}{F G:aF.Fn→Prop}(h:∀g,F g→G g):∀l g,fs ord F l g→fs ord G l g
 |0,g,hg=>h g hg
 |l+1,g,⟨f,hf,b,e⟩=>⟨f,MF h l f hf,b,e⟩
theorem bY{n:Nat}{ord:List Nat}{F G:aF.Fn→Prop}(h:∀g,F g→G g){g:aF.Fn}(hg:aR n ord F g):aR n ord G g:=let ⟨l,a,b,c⟩:=hg;⟨l,a,MF h l g b,c⟩
structure qd(K:Kd)(S:Nat→aF.Fn)(K':Kd)(S':Nat→aF.Fn)(f:aF.Fn)(r:Nat):Prop where
 n:K'.n=K.n
 cap:K'.cap=K.cap
 N:∀s d,K.N s=some d→K'.N s=some d
 fn:∀s,live K.N s→S' s=S s
 live:live K'.N r
 is:S' r=f
 hold:∀s,K'.hold s=K.hold s+if s=r∧2≤r then 1 else 0
theorem cR{N N':eB}(h:∀s d,N s=some d→N' s=some d){s:Nat}(hs:live N s):live N' s:=by
 rcases hs with hs|⟨d,hd⟩
 ·exact .inl hs
 ·exact .inr ⟨d,h s d hd⟩
theorem iS{K K5:Kd}{S S5:Nat→aF.Fn}{aj:Nat→Nat}(hK:Ok K S aj)(JN:Ok K5 S5 aj)(hold:∀s,K.hold s≠0→K5.hold s≠0)(h3:∀s d d',K.N s=some d→K5.N s=some d'→d'=d):
  ∀(k s:Nat) (d:Nd),K.N s=some d→aj d.v≤k→K5.N s=some d:=by
 intro k
 induction k with
 |zero=>
  intro s d hd hl
  have fin:live K5.N s→K5.N s=some d:=fun hs=>by
   rcases hs with hs|⟨d',c9⟩
   ·have:=(hK.mid.two hd).1;omega
   ·rw[c9,h3 s d d' hd c9]
  rcases hK.reach s d hd with h|⟨p,e,hp,he⟩
  ·exact fin (.inr (JN.mid.held s (hold s h)))
  ·have h1:=hK.wf.lo hp
   have h2:=hK.wf.hi hp
   rcases he with rfl|rfl
   ·have:=h1.2;rw[ax hd]at this;omega
   ·have:=h2.2;rw[ax hd]at this;omega
 |succ k ih=>
  intro s d hd hl
  have fin:live K5.N s→K5.N s=some d:=fun hs=>by
   rcases hs with hs|⟨d',c9⟩
   ·have:=(hK.mid.two hd).1;omega
   ·rw[c9,h3 s d d' hd c9]
  rcases hK.reach s d hd with h|⟨p,e,hp,he⟩
  ·exact fin (.inr (JN.mid.held s (hold s h)))
  ·have h1:=hK.wf.lo hp
   have h2:=hK.wf.hi hp
   rcases he with rfl|rfl
   ·have:=h1.2;rw[ax hd]at this
    exact fin (JN.mid.lo (ih p e hp (by omega)))
   ·have:=h2.2;rw[ax hd]at this
    exact fin (JN.mid.hi (ih p e hp (by omega)))
theorem qd.held{K K':Kd}{S S':Nat→aF.Fn}{f:aF.Fn}{r:Nat}(h:qd K S K' S' f r)(hm:∀s,K.hold s≠0→aF.live K.N s)(g:aF.Fn)(hg:K'.held S' g):K.held S g∨g=f:=by
 obtain⟨s,hs,rfl⟩:=hg
 by_cases h0:K.hold s=0
 ·right
  have:=h.hold s
  have hs':K'.hold s≠0:=hs
  rw[h0]at this
  by_cases e:s=r∧2≤r
  ·rw[e.1];exact h.is
  ·rw[if_neg e]at this;omega
 ·exact .inl ⟨s,h0,h.fn s (hm s h0)⟩
def fL(bw kp:Nat)(vl vm:Value):Nat×Obj:=(bw,.cells #[ptr kp,vl,vm] 337 (0,0))
abbrev Q3:=Nat×Nat×Nat
def l3(q:Q3):List Nat:=[q.1,q.2.1,q.2.2]
def kq(q:Q3):Value:=.agg (aA .u32 (iw (l3 q)))
theorem Pd{a b:List Nat}(h:iw a=iw b):a=b:=by
 induction a generalizing b with
 |nil=>cases b with
  |nil=>rfl
  |cons y b=>simp[iw]at h
 |cons x a ih=>cases b with
  |nil=>simp[iw]at h
  |cons y b=>
   simp only[iw,List.map_cons,List.cons.injEq]at h
   rw[Int.ofNat.inj h.1,ih h.2]
theorem SK{a b:Q3}(h:l3 a=l3 b):a=b:=by
 obtain⟨a1,a2,a3⟩:=a
 obtain⟨b1,b2,b3⟩:=b
 simp[l3]at h
 rw[h.1,h.2.1,h.2.2]
theorem wg(a b:Q3):AL Tryz.prog 318 (kq a) (kq b) (decide (a=b)):=by
 have:=AL.array (P:=Tryz.prog) (t:=318) (e:=77) (q:=.u32) (n:=3) (by kernel_rfl) (by kernel_rfl) (by kernel_rfl) (iw (l3 a)) (iw (l3 b)) rfl rfl
 have e:decide (iw (l3 a)=iw (l3 b))=decide (a=b):=decide_eq_decide.2 ⟨fun h=>SK (Pd h),fun h=>by rw[h]⟩
 rw[e]at this;exact this
theorem qC(a:Q3):lM Tryz.prog 318 (kq a):=lM.array (P:=Tryz.prog) (t:=318) (e:=77) (q:=.u32) (n:=3) (by kernel_rfl) (by kernel_rfl) (by kernel_rfl) _ rfl
theorem FQ(a:Q3):Instr.sameBits 10000 (kq a) (kq a)=true:=jG 9998 fun x hx=>.inl (by simp[aA]at hx;obtain⟨n,_,rfl⟩:=hx;exact⟨_,_,rfl⟩)
section
variable {kp bw:Nat} {vl vm:Value} {K:Kd} {S:Nat→aF.Fn} {ord aj tr:List Nat} {C:Hp}
theorem IB{H:Hp}{r:List Value}{K:Value→Hp→Prop}(hl:r.length=3)(h:∀b,K (.slice (some ⟨b,0,none⟩) 1 1) ((b,.cells r.toArray 161 (0,0))::H)):au Tryz.prog 286 1 [(0,.agg r.toArray)] H K:=
 au.one (r:=r) (e:=161) (k:=3) (z:=.agg #[.int .i64 0,.int .u32 0,.int .u32 0]) (by kernel_rfl) (by kernel_rfl) (by kernel_rfl) (by decide) hl h
theorem wK{X Y:Hp}(h:cD kp K ord aj tr C)(q:Q3)(hq:∀r∈l3 q,r<4294967296):
  Fc Tryz.prog 265 #[ptr bw,kq q] (fL bw kp vl vm::(X++(Y++C))) (fun v H=>∃CN,H=CN++(fL bw kp vl vm::(X++(Y++C)))∧aS 161 3 v ((l3 q).map (got K.N)) CN):=by
 have hlen:(l3 q).length=3:=rfl
 intro g
 refine Dk (R:=aB _) ?_
 unfold L265
 intro b1 _
 refine aD.whole (r:=(iw (l3 q)).map fun n=>.int .u32 n) (by exact .head _) rfl ?_
 refine⟨fun vs H=>∃(i:Nat) (u:Value) (CN:Hp),vs=[u,.int .i64 (i:Int)]∧i≤3∧H=CN++((b1,.cells (aA .u32 (iw (l3 q))) 318 (0,0))::(fL bw kp vl vm::(X++(Y++C))))∧aS 161 3 u (((l3 q).take i).map (got K.N)) CN,fun vs _=>3-bK vs 1,
  JE.mk ⟨0,_,[],rfl,by omega,rfl,aS.nil _ _⟩,?_⟩
 rintro w8 w9 H ⟨i,u,CN,hv,hi,rfl,hN⟩ gs
 simp only[List.cons.injEq,and_true]at hv
 obtain⟨rfl,rfl⟩:=hv
 refine ae.fu (b:=3) (Br.dec (fun hlt=>?_) (fun hlt=>?_))
 ·have gZ:i<(l3 q).length:=hlt
  obtain⟨r,hr⟩:∃r,(l3 q)[i]? =some r:=⟨_,List.getElem?_eq_getElem gZ⟩
  have Ta:=hq r (List.mem_of_getElem? hr)
  refine lg.X7 (t:=318) (e:=77) (q:=.u32) (x:=.tmp 10) (i:=.tmp 11) (l:=iw (l3 q)) (z:=(r:Int)) (kd:=.i64) (n:=3) (j:=i) (by kernel_rfl) rfl rfl (by kernel_rfl) (by kernel_rfl) (by kernel_rfl) hlt (cm hr) ?_
  refine Nil.ptr (aa.mk (Ld.mk (v:=ptr kp) (List.mem_append_right _ (.tail _ (.head _))) rfl ?_))
  refine ag.rd (args:=#[ptr kp,u32 r]) (.app (.cons (.cons (.app (.app .here))))) (iT h Ta) ?_
  rintro w rfl
  refine Ext.mk rfl (Ext.mk rfl ?_)
  intro Gs _
  refine St.whole (r:=got K.N r) (by exact .head _) rfl (aL _ _).1 (aL _ _).2 ?_
  refine aD.whole (r:=got K.N r) (by exact .head _) (aL _ _).1 ?_
  refine IB (aL _ _).1 fun bx=>?_
  refine hN.mL (r:=got K.N r) (.cons (.cons .left)) (by exact .head _) (aL _ _).1 (aL _ _).2 ⟨[.int .i64 0,.int .u32 0,.int .u32 0],rfl,rfl⟩ (by simp;omega) (by simp;omega) fun v' C' ho=>?_
  refine ae.aN (b:=1) (by simp[aE];omega) ?_
  refine aC.of (.skip .tail) ⟨i+1,v',C',rfl,by omega,rfl,?_⟩ (by simp only[bK];omega)
  rw[List.take_add_one,hr,List.map_append];exact ho
 ·obtain rfl:i=3:=by omega
  rw[List.take_of_length_le (by rw[hlen];exact Nat.le_refl _)]at hN
  exact aB.mk (.c8 .tail _) ⟨CN,rfl,hN⟩
theorem Gt{n:Nat}{oG:Nat→Nat}{N:eB}{B:Hp}{vn:Value}{lvl:List Nat}(hw:fL bw kp vl vm∈B)(hl:cX .i64 B vl (iw lvl))(mz:lvl.length=n)(hlv:∀v,v<n→lvl.getD v 0=oG v)(q:Q3)(hn:Sl 3 B vn ((l3 q).map (got N)))
 (h:WF n oG N)(hL:kB n oG)(hq:∀r∈l3 q,live N r)(zN:n≤64):
  Rd Tryz.prog 266 #[ptr bw,vn] B (fun r=>((∀s∈l3 q,N s=none)∧r=.int .i64 (-1))∨∃v,sg n oG N (l3 q) v∧r=.int .i64 (v:Int)):=by
 have hlen:(l3 q).length=3:=rfl
 intro g
 refine Dj (R:=aB _) ?_
 unfold L266
 refine hn.bQ ?_
 rw[List.length_map,hlen]
 refine⟨fun vs H=>∃(i:Nat) (w:Int),vs=[.int .i64 w,.int .i64 (i:Int)]∧i≤3∧H=B∧(((∀s∈(l3 q).take i,N s=none)∧w= -1)∨∃v:Nat,sg n oG N ((l3 q).take i) v∧w=(v:Int)),fun vs _=>3-bK vs 1,
  JE.mk ⟨0, -1,rfl,by omega,rfl,.inl ⟨by simp,rfl⟩⟩,?_⟩
 rintro w6 w7 H ⟨i,w,hv,hi,rfl,Q2⟩ gs
 simp only[List.cons.injEq,and_true]at hv
 obtain⟨rfl,rfl⟩:=hv
 refine ae.fu (b:=3) (Br.dec (fun hlt=>?_) (fun hlt=>?_))
 ·intro J hJ
  have gZ:i<(l3 q).length:=hlt
  obtain⟨r,hr⟩:∃r,(l3 q)[i]? =some r:=⟨_,List.getElem?_eq_getElem gZ⟩
  have lB:(l3 q).take (i+1)=(l3 q).take i++[r]:=by rw[List.take_add_one,hr];rfl
  have fin:∀(w':Int) (Z:Hp),((∀s∈(l3 q).take (i+1),N s=none)∧w'= -1)∨(∃v:Nat,sg n oG N ((l3 q).take (i+1)) v∧w'=(v:Int))→J [.int .i64 w'] (Z++H):=fun w' Z h'=>hJ _ _ fun gs=>by
   refine ae.aN (b:=1) (by simp[aE];omega) ?_
   exact aC.of .right ⟨i+1,w',rfl,by omega,rfl,h'⟩ (by simp only[bK];omega)
  have hrow:((l3 q).map (got N))[i]? =some (got N r):=by rw[List.getElem?_map,hr];rfl
  refine ah.sl hn hrow fun p hp=>?_
  refine aD.at hp (aL _ _).1 (by decide) (fun _ h=>h) ?_
  intro k9 _
  refine St.whole (r:=got N r) (by exact .head _) rfl (aL _ _).1 (aL _ _).2 ?_
  have hlr:=hq r (List.mem_of_getElem? hr)
  cases hN:N r with
  |none=>
   have FW:r<2:=by rcases hlr with h2|⟨d,hd⟩;exact h2;rw[hN]at hd;cases hd
   have eg:got N r=[.int .i64 (-1),u32 r,u32 r]:=dV FW
   rw[eg]
   refine aa.mk (Ld.mk (v:=.int .i64 (-1)) (by exact .head _) rfl ?_)
   refine ae.geq ?_
   refine bX.mk false (fun h=>by simp at h) (fun _=>rfl) fun gs=>Br.no ?_
   refine JE.mk (fin w [_] ?_)
   rcases Q2 with⟨h1,h2⟩|⟨v,h1,h2⟩
   ·refine .inl ⟨fun s hs=>?_,h2⟩
    rw[lB,List.mem_append,List.mem_singleton]at hs
    rcases hs with hs|rfl
    ·exact h1 s hs
    ·exact hN
   ·refine .inr ⟨v,⟨h1.lt,?_,fun s hs=>?_⟩,h2⟩
    ·obtain⟨s,hs,x⟩:=h1.ex;exact⟨s,by rw[lB];exact List.mem_append_left _ hs,x⟩
    ·rw[lB,List.mem_append,List.mem_singleton]at hs
     rcases hs with hs|rfl
     ·exact h1.le s hs
     ·rw[aX hN];exact Nat.le_of_lt (hL.lt v h1.lt)
  |some d=>
   have h2:=h.two hN
   have pP:=h.var hN
   have eg:got N r=aZ d:=dD hN h2
   rw[eg]
   refine aa.mk (Ld.mk (v:=.int .i64 (d.v:Int)) (by exact .head _) rfl ?_)
   refine ae.geq ?_
   rw[decide_eq_true (by omega)]
   have yW:(∀s∈(l3 q).take i,oG d.v≤dep n oG N s)→∃v:Nat,sg n oG N ((l3 q).take (i+1)) v∧(d.v:Int)=(v:Int):=fun hle=>by
    refine⟨d.v,⟨pP,⟨r,by rw[lB];simp,d,hN,rfl⟩,fun s hs=>?_⟩,rfl⟩
    rw[lB,List.mem_append,List.mem_singleton]at hs
    rcases hs with hs|rfl
    ·exact hle s hs
    ·rw[ax hN];exact Nat.le_refl _
   rcases Q2 with⟨h1,rfl⟩|⟨v,h1,rfl⟩
   ·refine bX.and true (fun _=>?_) rfl fun gs=>Br.yes ?_
    ·refine ae.lss ?_
     exact bX.mk true (fun h=>by simp at h) (fun _=>rfl) fun gs=>⟨rfl,rfl⟩
    ·refine aa.mk (Ld.mk (v:=.int .i64 (d.v:Int)) (by exact .head _) rfl ?_)
     refine JE.mk (fin (d.v:Int) [_] (.inr (yW fun s hs=>?_)))
     rw[aX (h1 s hs)];exact Nat.le_of_lt (hL.lt _ pP)
   ·have g1:(iw lvl)[d.v]? =some ((oG d.v:Nat):Int):=by rw[←hlv d.v pP];exact bg (by omega)
    have g2:(iw lvl)[v]? =some ((oG v:Nat):Int):=by rw[←hlv v h1.lt];exact bg (by have:=h1.lt;omega)
    refine bX.and (decide (oG d.v<oG v)) (fun _=>?_) rfl fun gs=>?_
    ·refine ae.lss ?_
     rw[decide_eq_false (by omega)]
     refine bX.or (decide (oG d.v<oG v)) (fun _=>?_) rfl fun gs=>⟨rfl,by simp⟩
     refine Nil.ptr (aa.mk (Ld.mk (v:=vl) (.tail _ hw) rfl ?_))
     refine aa.mk (Ld.mk (v:=.int .i64 (d.v:Int)) (by exact .head _) rfl ?_)
     refine hl.ld g1 (fun _ h=>.tail _ h) ?_
     refine Nil.ptr (aa.mk (Ld.mk (v:=vl) (.tail _ hw) rfl ?_))
     refine hl.ld g2 (fun _ h=>.tail _ h) ?_
     exact ae.fu ⟨rfl,rfl⟩
    ·rw[Bool.true_and]
     refine Br.dec (fun iA=>?_) (fun iA=>?_)
     ·refine aa.mk (Ld.mk (v:=.int .i64 (d.v:Int)) (by exact .head _) rfl ?_)
      refine JE.mk (fin (d.v:Int) [_] (.inr (yW fun s hs=>?_)))
      have:=h1.le s hs;omega
     ·refine JE.mk (fin (v:Int) [_] (.inr ⟨v,⟨h1.lt,?_,fun s hs=>?_⟩,rfl⟩))
      ·obtain⟨s,hs,x⟩:=h1.ex;exact⟨s,by rw[lB];exact List.mem_append_left _ hs,x⟩
      ·rw[lB,List.mem_append,List.mem_singleton]at hs
       rcases hs with hs|rfl
       ·exact h1.le s hs
       ·rw[ax hN];omega
 ·obtain rfl:i=3:=by omega
  rw[List.take_of_length_le (by rw[hlen];exact Nat.le_refl _)]at Q2
  refine cw.mk (.refl _) ?_
  rcases Q2 with⟨h1,rfl⟩|⟨v,h1,rfl⟩
  ·exact .inl ⟨h1,rfl⟩
  ·exact .inr ⟨v,h1,rfl⟩
theorem Ck(r v:Nat)(B:Hp):Rd Tryz.prog 267 #[ptr bw,.int .i64 (v:Int),u32 r,u32 r] B (· =.tuple #[u32 r,.int .i64 0]):=by
 intro g
 refine um (R:=aB _) ?_
 unfold L267
 exact ae.jR (Br.eU rfl (cw.mk (.refl _) rfl))
theorem Nl{CM X:Hp}{made:List Nat}(h:cW kp K S ord aj tr C){v lo hi:Nat}(hv:v<K.n)(hlo:live K.N lo)(hhi:live K.N hi)(hne:lo≠hi)(hlt:lv aj v<dep K.n (lv aj) K.N lo∧lv aj v<dep K.n (lv aj) K.N hi)
 (hM:aP 77 .u32 vm (iw made) CM)(hf:∀s,K.hold s<65535)(hlen:made.length≤1099511627776):
  Fc Tryz.prog 267 #[ptr bw,.int .i64 (v:Int),u32 lo,u32 hi] (fL bw kp vl vm::(X++(CM++C))) (fun w H=>
   (∃r K' S' C' RQ UW,w=.tuple #[u32 r,.int .i64 0]∧H=fL bw kp vl RQ::(X++(UW++C'))∧cW kp K' S' ord aj [] C'∧n8 K S K' S' (ite S ⟨v,lo,hi⟩) r∧aP 77 .u32 RQ (iw (made++[r])) UW)∨
   (w=.tuple #[u32 0,.int .i64 9]∧H=fL bw kp vl vm::(X++(CM++C))∧K.cap≤K.used∧K.T ⟨v,lo,hi⟩=none)):=by
 intro g
 refine um (R:=aB _) ?_
 unfold L267
 refine ae.gn (Br.bt hne ?_)
 refine Nil.ptr (aa.mk (Ld.mk (v:=ptr kp) (by exact .head _) rfl ?_))
 refine ag.fn (.cons (.app (.app .here))) (xK h hv hlo hhi (.inr hlt)) ?_
 rintro w C' (⟨r,K',S',rfl,iJ,mk⟩|⟨r,rfl,_,_,_,hfull,_⟩|⟨rfl,rfl,hcap,_,hT⟩)
 ·refine Ext.mk rfl (Ext.mk rfl ?_)
  intro J hJ
  refine ae.jR (Br.eU rfl ?_)
  refine Nil.ptr (aa.mk (Ld.mk (v:=vm) (by exact .head _) rfl ?_))
  refine au.int (e:=77) (by kernel_rfl) (by kernel_rfl) (by kernel_rfl) fun bx=>?_
  refine hM.mL (x:=(r:Int)) (.cons (.cons (.app .left))) (by exact .head _) (by rw[an];omega) (by rw[an];omega) fun RQ UW Zj=>?_
  have h1:=Zj.one
  refine Nil.ptr (aa.mk (St.one (by exact .tail (.head _)) h1 (by simp) rfl ?_))
  refine aB.mk .tail (.inl ⟨r,K',S',C',RQ,UW,rfl,rfl,iJ,mk,?_⟩)
  rw[bG];exact Zj
 ·have:=hf r;omega
 ·refine Ext.mk rfl (Ext.mk rfl ?_)
  intro J hJ
  refine ae.jR (Br.bt (by decide) ?_)
  refine ae.jR (Br.bt (by decide) ?_)
  exact JE.mk (hJ _ fun gs=>aB.here (.inr ⟨rfl,rfl,hcap,hT⟩))
end
structure mO(K0:Kd)(S0:Nat→aF.Fn)(U:aF.Fn→Prop)(ord:List Nat)(K:Kd)(S:Nat→aF.Fn)(made:List Nat):Prop where
 n:K.n=K0.n
 cap:K.cap=K0.cap
 N:∀s d,K0.N s=some d→K.N s=some d
 fn:∀s,live K0.N s→S s=S0 s
 hold:∀s,K.hold s=K0.hold s+made.count s
 two:∀s∈made,2≤s
 U:∀g,aR K0.n ord (K.held S) g→U g
theorem mO.refl{K0:Kd}{S0:Nat→aF.Fn}{U:aF.Fn→Prop}{ord:List Nat}(h:∀g,aR K0.n ord (K0.held S0) g→U g):mO K0 S0 U ord K0 S0 []:=⟨rfl,rfl,fun _ _ h=>h,fun _ _=>rfl,fun s=>by simp,by simp,h⟩
def Fits(U:aF.Fn→Prop)(cap:Nat):Prop:=∃ku,q8 U ku∧ku+2≤cap
section
variable {kp:Nat} {K0 K:Kd} {S0 S:Nat→aF.Fn} {U:aF.Fn→Prop} {ord aj tr:List Nat} {made:List Nat} {C:Hp}
theorem mO.gy(h:mO K0 S0 U ord K S made)(hK:cW kp K S ord aj tr C){s:Nat}(hs:s∈made):live K.N s:=by
 refine .inr (hK.ok.mid.held s ?_)
 rw[h.hold]
 have:=List.count_pos_iff.2 hs
 omega
theorem mO.live(h:mO K0 S0 U ord K S made){s:Nat}(hs:live K0.N s):live K.N s:=cR h.N hs
theorem mO.step(h:mO K0 S0 U ord K S made)(hK:cW kp K S ord aj tr C){K':Kd}{S':Nat→aF.Fn}{f:aF.Fn}{r:Nat}(m:n8 K S K' S' f r)(h2:2≤r)(hU:∀g,aR K0.n ord (fun g=>g=f) g→U g):mO K0 S0 U ord K' S' (made++[r]):=by
 refine⟨m.n.trans h.n,m.cap.trans h.cap,fun s d hd=>m.N s d (h.N s d hd),fun s hs=>(m.fn s (h.live hs)).trans (h.fn s hs),fun s=>?_,fun s hs=>?_,fun g hg=>?_⟩
 ·rw[m.hold,List.count_append,List.count_singleton,h.hold]
  by_cases e:s=r
  ·subst e;simp[h2];omega
  ·have:(r==s)=false:=by simpa using fun e'=>e e'.symm
   simp[e,this]
 ·rcases List.mem_append.1 hs with hs|hs
  ·exact h.two s hs
  ·simp at hs;subst hs;exact h2
 ·have gA:∀g,K'.held S' g→K.held S g∨g=f:=by
   rintro g ⟨s,hs,rfl⟩
   have hs':K'.hold s≠0:=hs
   rw[m.hold]at hs'
   by_cases e:s=r∧2≤r
   ·right;rw[e.1];exact m.is
   ·rw[if_neg e]at hs'
    exact .inl ⟨s,hs',m.fn s (.inr (hK.ok.mid.held s hs'))⟩
  rcases(Li g).1 (bY gA hg)with h1|h1
  ·exact h.U g h1
  ·exact hU g h1
end
def oN(fZ b1 b5 k9:Nat):Value:=.func (.func 264) #[] #[ptr fZ,ptr b1,ptr b5,ptr k9]
structure ym(fv:Value)(LB:Hp)(t:Bool→Bool→Bool→Bool):Prop where
 is:∃f first cap,fv=.func (.func f) first cap∧bA Tryz.prog f=true∧∀x y z:Bool,Rd Tryz.prog f (first++ #[.bool x,.bool y,.bool z]++cap) LB (· =.bool (t x y z))
def Yt(K0:Kd)(S0 S:Nat→aF.Fn)(t:Bool→Bool→Bool→Bool)(made:List Nat)(m:List (Q3×Nat)):Prop:=∀y∈m,S y.2=sH t S0 (l3 y.1)∧(y.2<2∨y.2∈made)
section
variable {kp fZ b1 b5 k9 bm bw:Nat} {vl fv:Value} {LB CL:Hp} {lvl:List Nat} {K0:Kd} {S0:Nat→aF.Fn} {U:aF.Fn→Prop} {ord aj:List Nat} {t:Bool→Bool→Bool→Bool}
abbrev RB(fZ b1 b5 k9 bm bw kp:Nat)(fv vl vm:Value)(LB CL CM C:Hp)(es:Array MapEntry)(ck:Nat):Hp:=
 (fZ,.cells #[.map (some bm)] 339 (0,0))::(b1,.cells #[ptr bw] 313 (0,0))::(b5,.cells #[fv] 320 (0,0))::(k9,.cells #[oN fZ b1 b5 k9] 340 (0,0))::
 (LB++((bm,.map es ck)::(fL bw kp vl vm::(CL++(CM++C)))))
structure Stp(kp:Nat)(K0:Kd)(S0:Nat→aF.Fn)(U:aF.Fn→Prop)(ord aj Se:List Nat)(t:Bool→Bool→Bool→Bool)(K:Kd)(S:Nat→aF.Fn)(made:List Nat)(es:Array MapEntry)(ck:Nat)(vm:Value)(CM C:Hp):Prop where
 ks:∃tr,cW kp K S ord aj tr C∧(tr=[]∨(tr=Se∧made=[]))
 c7:mO K0 S0 U ord K S made
 mde:aP 77 .u32 vm (iw made) CM
 kn:∃m,aV kq Kg es ck m∧Yt K0 S0 S t made m
structure fE(K:Kd)(S:Nat→aF.Fn)(made:List Nat)(K':Kd)(S':Nat→aF.Fn)(made':List Nat)(c:Nat):Prop where
 N:∀s d,K.N s=some d→K'.N s=some d
 fn:∀s,live K.N s→S' s=S s
 ext:∃ext,made'=made++ext∧ext.length≤c
theorem fE.refl{K:Kd}{S:Nat→aF.Fn}{made:List Nat}{c:Nat}:fE K S made K S made c:=⟨fun _ _ h=>h,fun _ _=>rfl,[],by simp,Nat.zero_le _⟩
section
variable {K K' K2:Kd} {S S' S2:Nat→aF.Fn} {made made' fR:List Nat} {c c':Nat}
theorem fE.Ka(h:fE K S made K' S' made' c)(hc:c≤c'):fE K S made K' S' made' c':=⟨h.N,h.fn,let ⟨e,h1,h2⟩:=h.ext;⟨e,h1,by omega⟩⟩
theorem fE.mem{s:Nat}(h:fE K S made K' S' made' c)(hs:s∈made):s∈made':=by
 obtain⟨e,rfl,_⟩:=h.ext;exact List.mem_append_left _ hs
theorem fE.count(h:fE K S made K' S' made' c)(s:Nat):made'.count s≤made.count s+c∧made'.length≤made.length+c:=by
 obtain⟨e,rfl,he⟩:=h.ext
 have:=List.count_le_length (a:=s) (l:=e)
 rw[List.count_append,List.length_append];omega
theorem fE.trans(h:fE K S made K' S' made' c)(h':fE K' S' made' K2 S2 fR c'):fE K S made K2 S2 fR (c+c'):=by
 obtain⟨e,rfl,he⟩:=h.ext
 obtain⟨e',rfl,he'⟩:=h'.ext
 exact⟨fun s d hd=>h'.N s d (h.N s d hd),fun s hs=>(h'.fn s (cR h.N hs)).trans (h.fn s hs),e++e',by rw[List.append_assoc],by rw[List.length_append];omega⟩
end
theorem pD{κ β:Type}[DecidableEq κ]{m:List (κ×β)}{k:κ}{x:β}{y:κ×β}(h:y∈gY m k x):y=(k,x)∨y∈m:=by
 unfold gY at h
 split at h
 ·obtain⟨z,hz,rfl⟩:=List.mem_map.1 h
  split
  ·exact .inl rfl
  ·exact .inr hz
 ·rcases List.mem_append.1 h with h|h
  ·exact .inr h
  ·simp at h;exact .inl h
def uT(N:eB)(v:Nat)(b:Bool)(q:Q3):Q3:=(dG N v b q.1,dG N v b q.2.1,dG N v b q.2.2)
theorem O9(N:eB)(v:Nat)(b:Bool)(q:Q3):l3 (uT N v b q)=gR N v b (l3 q):=rfl
theorem mC{N N':eB}(hN:∀s d,N s=some d→N' s=some d)(h2:∀r,r<2→N r=none)(mB:∀r,r<2→N' r=none){r:Nat}(hr:live N r):got N' r=got N r:=by
 rcases hr with hr|⟨d,hd⟩
 ·rw[dV hr,dV hr]
 ·by_cases h:r<2
  ·rw[h2 r h]at hd;cases hd
  ·rw[dD hd (by omega),dD (hN r d hd) (by omega)]
def Ans(kp fZ b1 b5 k9 bm bw:Nat)(fv vl:Value)(LB CL:Hp)(K0:Kd)(S0:Nat→aF.Fn)(U:aF.Fn→Prop)(ord aj Se:List Nat)(t:Bool→Bool→Bool→Bool)(ql:List Nat)(c:Nat)(K:Kd)(S:Nat→aF.Fn)(made:List Nat)(r:Value)(H:Hp):Prop:=
 ∃K' S' made' es' cO RQ UW C',H=RB fZ b1 b5 k9 bm bw kp fv vl RQ LB CL UW C' es' cO∧Stp kp K0 S0 U ord aj Se t K' S' made' es' cO RQ UW C'∧fE K S made K' S' made' c∧
   ((∃x:Nat,r=.tuple #[u32 x,.int .i64 0]∧S' x=sH t S0 ql∧(x<2∨x∈made'))∨(r=.tuple #[u32 0,.int .i64 9]∧¬Fits U K0.cap))
theorem T9(gJ:bA Tryz.prog 264=true)(Zl:ym fv LB t)(Rw:aP 3 .i64 vl (iw lvl) CL)(mz:lvl.length=K0.n)(hlv:∀v,v<K0.n→lvl.getD v 0=lv aj v)(zN:K0.n≤64)(jQ:WF K0.n (lv aj) K0.N)(nO:Interp K0.N S0)(jI:kB K0.n (lv aj))(PT:∀r,live K0.N r→r<4294967296){Se:List Nat}:
  ∀(ql:List Nat) (c:Nat),Tree K0.n (lv aj) K0.N ql c→∀(q:Q3),l3 q=ql→∀(K:Kd) (S:Nat→aF.Fn) (made:List Nat) (es:Array MapEntry) (ck:Nat) (vm:Value) (CM C:Hp),Stp kp K0 S0 U ord aj Se t K S made es ck vm CM C→
  (∀r∈ql,live K0.N r)→(∀g,aR K0.n ord (fun g=>g=sH t S0 ql) g→U g)→(∀s,K.hold s+c<65535)→made.length+c≤1048576→
  Fc Tryz.prog 264 #[kq q,ptr fZ,ptr b1,ptr b5,ptr k9] (RB fZ b1 b5 k9 bm bw kp fv vl vm LB CL CM C es ck) (fun r H=>Ans kp fZ b1 b5 k9 bm bw fv vl LB CL K0 S0 U ord aj Se t ql c K S made r H):=by
 have hc0:∀r,r<2→K0.N r=none:=fun r hr=>jQ.const hr
 intro ql c hT
 induction hT with
 | @leaf ql hnone=>
  intro q hq K S made es ck vm CM C hS gk hU hB hM g
  subst hq
  obtain⟨tr,hK,je⟩:=hS.ks
  obtain⟨m,hE,hkn⟩:=hS.kn
  have F0:∀r,r<2→K.N r=none:=fun r hr=>hK.ok.wf.const hr
  refine uo (R:=aB _) ?_
  unfold L264
  intro bq _
  refine Ld.mk (v:=.map (some bm)) (by exact .tail _ (.head _)) rfl ?_
  refine aD.whole (r:=(iw (l3 q)).map fun n=>.int .u32 n) (by exact .head _) rfl ?_
  have u7:(bm,Obj.map es ck)∈(bq,Obj.cells (aA .u32 (iw (l3 q))) 318 (0,0))::RB fZ b1 b5 k9 bm bw kp fv vl vm LB CL CM C es ck:=.tail _ (.tail _ (.tail _ (.tail _ (.tail _ (List.mem_append_right _ (.head _))))))
  cases hg:ew m q with
  |some x=>
   refine aV.HY (ke:=kq) (k:=q) wg qC hE u7 hg ?_
   rintro v rfl
   obtain⟨h1,h2⟩:=hkn _ ((eC hE.nd).1 hg)
   refine Ext.mk rfl (Ext.mk rfl (Br.yes ?_))
   exact aB.mk .tail ⟨K,S,made,es,ck,vm,CM,C,rfl,hS,.refl,.inl ⟨x,rfl,h1,h2⟩⟩
  |none=>
   refine aV.vS (ke:=kq) (k:=q) wg qC hE u7 hg ?_
   refine Ext.mk rfl (Ext.mk rfl (Br.no ?_))
   refine Ld.mk (v:=ptr bw) (by exact .tail _ (.tail _ (.head _))) rfl ?_
   refine aD.whole (r:=(iw (l3 q)).map fun n=>.int .u32 n) (by exact .head _) rfl ?_
   refine ag.fn (args:=#[ptr bw,kq q]) (.cons (.cons (.cons (.cons (.cons (.app (.cons .here))))))) (wK hK.rep q (fun r hr=>PT r (gk r hr))) ?_
   rintro vn H ⟨CN,rfl,hN⟩
   have eN:(l3 q).map (got K.N)=(l3 q).map (got K0.N):=List.map_congr_left fun r hr=>mC hS.c7.N hc0 F0 (gk r hr)
   rw[eN]at hN
   refine Ld.mk (v:=ptr bw) (by exact .tail _ (.tail _ (.head _))) rfl ?_
   refine ag.rd .here (Gt (bw:=bw) (kp:=kp) (vl:=vl) (vm:=vm) (lvl:=lvl) (n:=K0.n) (oG:=lv aj) (N:=K0.N) (.tail _ (.tail _ (.tail _ (.tail _ (.tail _ (List.mem_append_right _ (.tail _ (List.mem_append_right _ (.head _))))))))) (Rw.ints.mono fun _ h=>.tail _ (.tail _ (.tail _ (.tail _ (.tail _ (List.mem_append_right _ (.tail _ (List.mem_append_right _ (.tail _ (List.mem_append_left _ h)))))))))) mz hlv q ((Sl.mg hN (by decide)).mono fun _ h=>.tail _ (.tail _ (.tail _ (.tail _ (.tail _ (List.mem_append_right _ (.tail _ (List.mem_append_left _ h)))))))) jQ jI gk zN) ?_
   rintro w (⟨_,rfl⟩|⟨v,hv,rfl⟩)
   rotate_left
   ·obtain⟨s,hs,d,hd,_⟩:=hv.ex
    rw[hnone s hs]at hd;cases hd
   refine ae.lss (Br.eU (by decide) ?_)
   have Ib:∀r∈l3 q,r<2:=fun r hr=>by
    rcases gk r hr with h|⟨d,hd⟩
    ·exact h
    ·rw[hnone r hr]at hd;cases hd
   obtain⟨f,first,cap,Mc,hfc,hL⟩:=Zl.is
   refine Ld.mk (v:=fv) (by exact .tail _ (.tail _ (.tail _ (.head _)))) rfl ?_
   refine ik.nat (j:=0) (by decide) (Ld.mk (v:=.int .u32 ((q.1:Nat):Int)) (by exact .head _) rfl ?_)
   refine ae.gn (b:=1) ?_
   refine ik.nat (j:=1) (by decide) (Ld.mk (v:=.int .u32 ((q.2.1:Nat):Int)) (by exact .head _) rfl ?_)
   refine ae.gn (b:=1) ?_
   refine ik.nat (j:=2) (by decide) (Ld.mk (v:=.int .u32 ((q.2.2:Nat):Int)) (by exact .head _) rfl ?_)
   refine ae.gn (b:=1) ?_
   refine cC.of Mc hfc ?_
   refine ag.rd (.cons (.cons (.cons (.cons (.cons .left))))) (hL _ _ _) ?_
   rintro w rfl
   have Vj:=fun x=>Ir nO (q:=l3 q) rfl Ib t x
   have hint:=hK.ok.mid.int
   have Rh:aU ((bq,Obj.cells (aA .u32 (iw (l3 q))) 318 (0,0))::(fZ,.cells #[.map (some bm)] 339 (0,0))::(b1,.cells #[ptr bw] 313 (0,0))::(b5,.cells #[fv] 320 (0,0))::(k9,.cells #[oN fZ b1 b5 k9] 340 (0,0))::(LB++((bm,.map es ck)::(CN++(fL bw kp vl vm::(CL++(CM++C))))))) (RB fZ b1 b5 k9 bm bw kp fv vl vm LB CL CM C es ck):=
    .skip (.cons (.cons (.cons (.cons (.c8 (.cons .right) _)))))
   refine Br.mk (fun hb=>?_) (fun hb=>?_)
   ·refine aB.mk Rh ⟨K,S,made,es,ck,vm,CM,C,rfl,hS,.refl,.inl ⟨1,rfl,funext fun x=>?_,.inl (by omega)⟩⟩
    rw[hint.one,Vj x];exact hb.symm
   ·refine aB.mk Rh ⟨K,S,made,es,ck,vm,CM,C,rfl,hS,.refl,.inl ⟨0,rfl,funext fun x=>?_,.inl (by omega)⟩⟩
    rw[hint.zero,Vj x];exact hb.symm
 | @node ql v a b hv ha hb iha ihb=>
  intro q hq K S made es ck vm CM C hS gk hU hB hM g
  subst hq
  obtain⟨tr,hK,je⟩:=hS.ks
  obtain⟨m,hE,hkn⟩:=hS.kn
  have F0:∀r,r<2→K.N r=none:=fun r hr=>hK.ok.wf.const hr
  refine uo (R:=aB _) ?_
  unfold L264
  intro bq _
  refine Ld.mk (v:=.map (some bm)) (by exact .tail _ (.head _)) rfl ?_
  refine aD.whole (r:=(iw (l3 q)).map fun n=>.int .u32 n) (by exact .head _) rfl ?_
  have u7:(bm,Obj.map es ck)∈(bq,Obj.cells (aA .u32 (iw (l3 q))) 318 (0,0))::RB fZ b1 b5 k9 bm bw kp fv vl vm LB CL CM C es ck:=.tail _ (.tail _ (.tail _ (.tail _ (.tail _ (List.mem_append_right _ (.head _))))))
  cases hg:ew m q with
  |some x=>
   refine aV.HY (ke:=kq) (k:=q) wg qC hE u7 hg ?_
   rintro v rfl
   obtain⟨h1,h2⟩:=hkn _ ((eC hE.nd).1 hg)
   refine Ext.mk rfl (Ext.mk rfl (Br.yes ?_))
   exact aB.mk .tail ⟨K,S,made,es,ck,vm,CM,C,rfl,hS,.refl,.inl ⟨x,rfl,h1,h2⟩⟩
  |none=>
  refine aV.vS (ke:=kq) (k:=q) wg qC hE u7 hg ?_
  refine Ext.mk rfl (Ext.mk rfl (Br.no ?_))
  refine Ld.mk (v:=ptr bw) (by exact .tail _ (.tail _ (.head _))) rfl ?_
  refine aD.whole (r:=(iw (l3 q)).map fun n=>.int .u32 n) (by exact .head _) rfl ?_
  refine ag.fn (args:=#[ptr bw,kq q]) (.cons (.cons (.cons (.cons (.cons (.app (.cons .here))))))) (wK hK.rep q (fun r hr=>PT r (gk r hr))) ?_
  rintro vn H ⟨CN,rfl,hN⟩
  have eN:(l3 q).map (got K.N)=(l3 q).map (got K0.N):=List.map_congr_left fun r hr=>mC hS.c7.N hc0 F0 (gk r hr)
  rw[eN]at hN
  refine Ld.mk (v:=ptr bw) (by exact .tail _ (.tail _ (.head _))) rfl ?_
  refine ag.rd .here (Gt (bw:=bw) (kp:=kp) (vl:=vl) (vm:=vm) (lvl:=lvl) (n:=K0.n) (oG:=lv aj) (N:=K0.N) (.tail _ (.tail _ (.tail _ (.tail _ (.tail _ (List.mem_append_right _ (.tail _ (List.mem_append_right _ (.head _))))))))) (Rw.ints.mono fun _ h=>.tail _ (.tail _ (.tail _ (.tail _ (.tail _ (List.mem_append_right _ (.tail _ (List.mem_append_right _ (.tail _ (List.mem_append_left _ h)))))))))) mz hlv q ((Sl.mg hN (by decide)).mono fun _ h=>.tail _ (.tail _ (.tail _ (.tail _ (.tail _ (List.mem_append_right _ (.tail _ (List.mem_append_left _ h)))))))) jQ jI gk zN) ?_
  rintro w (⟨aJ,_⟩|⟨v',uX,rfl⟩)
  ·obtain⟨s,hs,d,hd,_⟩:=hv.ex
   rw[aJ s hs]at hd;cases hd
  obtain rfl:v'=v:=uX.uniq jI hv
  refine ae.lss (Br.bt (by omega) ?_)
  refine DR.of (R:=[(bq,Obj.cells (aA .u32 (iw (l3 q))) 318 (0,0))]) (aU.left (A:=[_])) ?_
  refine aD.whole (r:=(iw (l3 q)).map fun n=>.int .u32 n) (by exact .head _) rfl ?_
  refine aD.whole (r:=(iw (l3 q)).map fun n=>.int .u32 n) (by exact .head _) rfl ?_
  intro Cd _ qV _ F35
  have hone:∀x∈(iw (l3 q)).map fun n=>Value.int .u32 n,x.oneCell'=true:=fun x hx=>by obtain⟨n,_,rfl⟩:=List.mem_map.1 hx;rfl
  refine St.whole (r:=(iw (l3 q)).map fun n=>.int .u32 n) (by exact .tail (.head _)) rfl rfl hone ?_
  refine⟨.skip (.skip (aU.left (A:=[_]))),?_⟩
  intro F37
  refine St.whole (r:=(iw (l3 q)).map fun n=>.int .u32 n) (by exact .head _) rfl rfl hone ?_
  refine hN.bQ ?_
  rw[List.length_map]
  refine⟨fun vs H=>∃i:Nat,vs=[.int .i64 (i:Int)]∧i≤3∧H=(qV,.cells (aA .u32 (iw (kV K0.N v' true (l3 q) i))) 318 (0,0))::(Cd,.cells (aA .u32 (iw (kV K0.N v' false (l3 q) i))) 318 (0,0))::
    (bq,Obj.cells (aA .u32 (iw (l3 q))) 318 (0,0))::(fZ,.cells #[.map (some bm)] 339 (0,0))::(b1,.cells #[ptr bw] 313 (0,0))::(b5,.cells #[fv] 320 (0,0))::(k9,.cells #[oN fZ b1 b5 k9] 340 (0,0))::(LB++((bm,.map es ck)::(CN++(fL bw kp vl vm::(CL++(CM++C)))))),
   fun vs _=>3-bK vs 0,JE.mk ⟨0,rfl,by omega,by rw[vQ,vQ];rfl⟩,?_⟩
  rintro Kb H ⟨i,hvs,hi,rfl⟩ gs
  simp only[List.cons.injEq,and_true]at hvs
  subst hvs
  have hl3:(l3 q).length=3:=rfl
  refine ae.fu (b:=3) (Br.dec (fun hlt=>?_) (fun hlt=>?_))
  ·-- a part of the question
   intro J hJ
   obtain⟨r,hr⟩:∃r,(l3 q)[i]? =some r:=⟨_,List.getElem?_eq_getElem (show i<(l3 q).length from hlt)⟩
   have hlr:=gk r (List.mem_of_getElem? hr)
   have hrow:((l3 q).map (got K0.N))[i]? =some (got K0.N r):=by rw[List.getElem?_map,hr];rfl
   refine ah.sl (Sl.mg hN (by decide)) hrow fun p hp=>?_
   refine aD.at hp (aL _ _).1 (by decide) (fun _ h=>.tail _ (.tail _ (.tail _ (.tail _ (.tail _ (.tail _ (.tail _ (List.mem_append_right _ (.tail _ (List.mem_append_left _ h)))))))))) ?_
   intro Vt _
   refine St.whole (r:=got K0.N r) (by exact .head _) rfl (aL _ _).1 (aL _ _).2 ?_
   have stay:dG K0.N v' false r=r→dG K0.N v' true r=r→∀Z:Hp,JE J [] (Z++((qV,.cells (aA .u32 (iw (kV K0.N v' true (l3 q) i))) 318 (0,0))::(Cd,.cells (aA .u32 (iw (kV K0.N v' false (l3 q) i))) 318 (0,0))::
    (bq,Obj.cells (aA .u32 (iw (l3 q))) 318 (0,0))::(fZ,.cells #[.map (some bm)] 339 (0,0))::(b1,.cells #[ptr bw] 313 (0,0))::(b5,.cells #[fv] 320 (0,0))::(k9,.cells #[oN fZ b1 b5 k9] 340 (0,0))::(LB++((bm,.map es ck)::(CN++(fL bw kp vl vm::(CL++(CM++C)))))))):=fun e1 e2 Z=>by
    refine JE.of .right (hJ _ fun gs=>?_)
    refine ae.aN (b:=1) (by simp[aE];omega) ?_
    exact aC.of (.refl _) ⟨i+1,rfl,by omega,by rw[vR hr e1,vR hr e2]⟩ (by simp only[bK];omega)
   cases TS:K0.N r with
   |none=>
    have FW:r<2:=by rcases hlr with h2|⟨d,hd⟩;exact h2;rw[TS]at hd;cases hd
    rw[dV FW]
    refine aa.mk (Ld.mk (v:=.int .i64 (-1)) (by exact .head _) rfl ?_)
    refine ae.jR (Br.bt (by omega) ?_)
    have ec:∀b,dG K0.N v' b r=r:=fun b=>by unfold dG;rw[TS]
    exact stay (ec false) (ec true) [_]
   |some d=>
    have h2:=jQ.two TS
    rw[dD TS h2]
    refine aa.mk (Ld.mk (v:=.int .i64 (d.v:Int)) (by exact .head _) rfl ?_)
    refine ae.gn (Br.dec (fun pP=>?_) (fun pP=>?_))
    ·refine DR.of (R:=[(Vt,Obj.cells (aZ d).toArray 161 (0,0))]) (aU.left (A:=[_])) ?_
     refine aa.mk (Ld.mk (v:=u32 d.lo) (by exact .head _) rfl ?_)
     refine aa.mk (Ld.mk (v:=u32 d.hi) (by exact .head _) rfl ?_)
     have elo:dG K0.N v' false r=d.lo:=by unfold dG;rw[TS];simp[pP]
     have ehi:dG K0.N v' true r=d.hi:=by unfold dG;rw[TS];simp[pP]
     refine ik.nat hlt ?_
     refine St.ints (l:=iw (kV K0.N v' false (l3 q) i)) (x:=(d.lo:Int)) (by exact .tail (.tail (.head _))) (by rw[an,zo (by omega)];omega) ?_
     refine⟨aU.left (A:=[_]),?_⟩
     refine ik.nat hlt ?_
     refine St.ints (l:=iw (kV K0.N v' true (l3 q) i)) (x:=(d.hi:Int)) (by exact .tail (.head _)) (by rw[an,zo (by omega)];omega) ?_
     rw[dY,dY,←elo,←ehi,qB hr,qB hr]
     refine JE.of .tail (hJ _ fun gs=>?_)
     refine ae.aN (b:=1) (by simp[aE];omega) ?_
     exact aC.of (.refl _) ⟨i+1,rfl,by omega,rfl⟩ (by simp only[bK];omega)
    ·have ec:∀b,dG K0.N v' b r=r:=fun b=>by unfold dG;rw[TS];simp[pP]
     exact stay (ec false) (ec true) [_]
  obtain rfl:i=3:=by omega
  have em:∀b,kV K0.N v' b (l3 q) 3=l3 (uT K0.N v' b q):=fun b=>by rw[O9,←Ln];rfl
  rw[em,em]
  obtain⟨f1,f2⟩:=nG (S:=S0) jQ jI nO gk hv false
  obtain⟨t1,t2⟩:=nG (S:=S0) jQ jI nO gk hv true
  have ec:∀b,sH t S0 (gR K0.N v' b (l3 q))=fun x=>sH t S0 (l3 q) (aG.aI x v' b):=fun b=>Ga jQ jI nO rfl gk hv t b
  have jH:Ord K0.n (lv aj) ord:=by rw[←hS.c7.n];exact hK.od
  have gZ:=jI.lt v' hv.lt
  have HW:=jH.of jI hv.lt
  have qK:=wE jQ jI nO jH (q:=l3 q) rfl gk (Nat.le_of_lt gZ) hv.le t
  obtain⟨i1,KM⟩:=iH (n:=K0.n) (ord:=ord) (c:=sH t S0 (gR K0.N v' false (l3 q))) qK (b:=false) (by rw[HW];exact ec false)
  obtain⟨i2,KL⟩:=iH (n:=K0.n) (ord:=ord) (c:=sH t S0 (gR K0.N v' true (l3 q))) qK (b:=true) (by rw[HW];exact ec true)
  refine Ld.mk (v:=oN fZ b1 b5 k9) (by exact .tail _ (.tail _ (.tail _ (.tail _ (.tail _ (.tail _ (.head _))))))) rfl ?_
  refine aD.whole (r:=(iw (l3 (uT K0.N v' false q))).map fun n=>.int .u32 n) (by exact .tail _ (.head _)) rfl ?_
  refine cC.of rfl gJ ?_
  refine ag.pre (H':=(qV,.cells (aA .u32 (iw (l3 (uT K0.N v' true q)))) 318 (0,0))::(Cd,.cells (aA .u32 (iw (l3 (uT K0.N v' false q)))) 318 (0,0))::(bq,Obj.cells (aA .u32 (iw (l3 q))) 318 (0,0))::RB fZ b1 b5 k9 bm bw kp fv vl vm LB CL CM C es ck) (.cons (.cons (.cons (.cons (.cons (.cons (.cons (.c8 (.cons .right) _)))))))) ?_
  refine ag.fn (args:=#[kq (uT K0.N v' false q),ptr fZ,ptr b1,ptr b5,ptr k9]) (.cons (.cons (.cons .here))) (iha (uT K0.N v' false q) rfl K S made es ck vm CM C hS f1 (fun g hg=>hU g (KM g hg)) (fun s=>by have:=hB s;omega) (by omega)) ?_
  rintro w H ⟨K1,S1,vZ,MM,Gf,vm1,CM1,C1,rfl,A0,Ik,Mo⟩
  rcases Mo with⟨x1,rfl,hx1,LZ⟩|⟨rfl,hno⟩
  rotate_left
  ·refine Ext.mk rfl (Ext.mk rfl (ae.dh (Br.eU (by decide) ?_)))
   exact aB.mk (.skip (.skip .tail)) ⟨K1,S1,vZ,MM,Gf,vm1,CM1,C1,rfl,A0,Ik.Ka (by omega),.inr ⟨rfl,hno⟩⟩
  refine Ext.mk rfl (Ext.mk rfl (ae.dh (Br.bt (by decide) ?_)))
  refine Ld.mk (v:=oN fZ b1 b5 k9) (by exact .tail _ (.tail _ (.tail _ (.tail _ (.tail _ (.tail _ (.head _))))))) rfl ?_
  refine aD.whole (r:=(iw (l3 (uT K0.N v' true q))).map fun n=>.int .u32 n) (by exact .head _) rfl ?_
  refine cC.of rfl gJ ?_
  have hc1:=fun s=>Ik.count s
  have Vi:∀s,K1.hold s≤K.hold s+a:=fun s=>by rw[A0.c7.hold,hS.c7.hold];have:=(hc1 s).1;omega
  refine ag.fn (args:=#[kq (uT K0.N v' true q),ptr fZ,ptr b1,ptr b5,ptr k9]) (.cons (.cons (.cons .here))) (ihb (uT K0.N v' true q) rfl K1 S1 vZ MM Gf vm1 CM1 C1 A0 t1 (fun g hg=>hU g (KL g hg)) (fun s=>by have:=hB s;have:=Vi s;omega) (by have:=(hc1 0).2;omega)) ?_
  rintro w H ⟨K2,S2,fR,P9,Ue,ZI,CM2,C2,rfl,kj,kH,Mo⟩
  have xW:=Ik.trans kH
  rcases Mo with⟨x2,rfl,HT,LY⟩|⟨rfl,hno⟩
  rotate_left
  ·refine Ext.mk rfl (Ext.mk rfl (ae.dh (Br.eU (by decide) ?_)))
   exact aB.mk (.skip (.skip .tail)) ⟨K2,S2,fR,P9,Ue,ZI,CM2,C2,rfl,kj,xW.Ka (by omega),.inr ⟨rfl,hno⟩⟩
  refine Ext.mk rfl (Ext.mk rfl (ae.dh (Br.bt (by decide) ?_)))
  refine Ld.mk (v:=ptr bw) (by exact .tail _ (.tail _ (.tail _ (.tail _ (.head _))))) rfl ?_
  obtain⟨NO,fx,SZ⟩:=A0.ks
  obtain⟨G3,dL,zG⟩:=kj.ks
  have WT:=dL.ok.mid.int
  have l11:live K1.N x1:=by rcases LZ with h|h;exact .inl h;exact A0.c7.gy fx h
  have e1:S2 x1=sH t S0 (gR K0.N v' false (l3 q)):=(kH.fn x1 l11).trans hx1
  have l1:live K2.N x1:=by rcases LZ with h|h;exact .inl h;exact kj.c7.gy dL (kH.mem h)
  have l2:live K2.N x2:=by rcases LY with h|h;exact .inl h;exact kj.c7.gy dL h
  have n2:=kj.c7.n
  have r7:ite S2 ⟨v',x1,x2⟩=sH t S0 (l3 q):=by
   funext x
   unfold aF.ite
   rw[e1,HT,ec,ec]
   conv=>rhs;rw[←aG.jY x v']
   simp only
   cases x.testBit v'<;>rfl
  obtain⟨m2,PS,Ts⟩:=kj.kn
  have hkl:∀y∈m2,live K2.N y.2:=fun y hy=>by
   rcases(Ts y hy).2 with h|h
   ·exact .inl h
   ·exact kj.c7.gy dL h
  by_cases hx:x1=x2
  ·subst hx
   refine ag.rd .here (Ck x1 v' _) ?_
   rintro w rfl
   refine Ext.mk rfl (Ext.mk rfl ?_)
   intro J hJ
   refine ae.jR (Br.eU rfl ?_)
   refine Ld.mk (v:=.map (some bm)) (by exact .tail _ (.tail _ (.tail _ (.head _)))) rfl ?_
   refine aD.whole (r:=(iw (l3 q)).map fun n=>.int .u32 n) (by exact .tail _ (.tail _ (.head _))) rfl ?_
   refine aV.Ot (ke:=kq) (k:=q) (vr:=Kg) (x:=x1) wg qC FQ PS rfl fun es' cO he=>⟨_,.tail (.tail (.tail (.tail (.tail (.tail (.tail ((cM.head _).bW LB))))))),?_⟩
   refine JE.mk (hJ _ fun gs=>?_)
   have hr:S2 x1=sH t S0 (l3 q):=by
    rw[←r7]
    funext x
    unfold aF.ite
    split<;>rfl
   have uY:x1<2∨x1∈fR:=LY
   exact aB.mk (.skip (.skip .tail)) ⟨K2,S2,fR,es',cO,ZI,CM2,C2,rfl,⟨kj.ks,kj.c7,kj.mde,_,he,fun y hy=>(pD hy).elim (fun e=>by rw[e];exact⟨hr,uY⟩) (fun hy=>Ts y hy)⟩,xW.Ka (by omega),.inl ⟨x1,rfl,hr,uY⟩⟩
  ·have wv:dr (sH t S0 (l3 q)) (ord.getD (lv aj v') 0):=by
    rw[HW]
    refine Classical.byContradiction fun hno=>hx ?_
    refine dL.ok.wf.same dL.ok.lv WT l1 l2 fun x=>?_
    rw[e1,HT,ec,ec]
    exact(cj hno x false).trans (cj hno x true).symm
   have b1':=dL.ok.below dL.od (l:=lv aj v'+1) l1 (by omega) (by rw[e1];exact i1)
   have b2':=dL.ok.below dL.od (l:=lv aj v'+1) l2 (by omega) (by rw[HT];exact i2)
   have Mr:∀g,aR K0.n ord (fun g=>g=ite S2 ⟨v',x1,x2⟩) g→U g:=by rw[r7];exact hU
   have Tz:∀s,K2.hold s<65535:=fun s=>by
    have q1:=hB s
    have q2:=Vi s
    have q3:=(kH.count s).1
    have q4:=kj.c7.hold s
    have q5:=A0.c7.hold s
    omega
   refine ag.fn (args:=#[ptr bw,.int .i64 (v':Int),u32 x1,u32 x2]) (.cons (.cons (.cons (.cons (.cons (.cons (.cons (.app (.cons .here))))))))) (Nl dL (v:=v') (by rw[n2];exact hv.lt) l1 l2 hx ⟨by omega,by omega⟩ kj.mde Tz (by have:=(kH.count 0).2;have:=(Ik.count 0).2;omega)) ?_
   rintro w H (⟨r,K3,S3,C3,vm3,CM3,rfl,rfl,nN,mk,PK⟩|⟨rfl,rfl,TG,hT⟩)
   ·refine Ext.mk rfl (Ext.mk rfl ?_)
    intro J hJ
    refine ae.jR (Br.eU rfl ?_)
    refine Ld.mk (v:=.map (some bm)) (by exact .tail _ (.tail _ (.tail _ (.head _)))) rfl ?_
    refine aD.whole (r:=(iw (l3 q)).map fun n=>.int .u32 n) (by exact .tail _ (.tail _ (.head _))) rfl ?_
    refine aV.Ot (ke:=kq) (k:=q) (vr:=Kg) (x:=r) wg qC FQ PS rfl fun es' cO he=>⟨_,.tail (.tail (.tail (.tail (.tail (.tail (.tail ((cM.head _).bW LB))))))),?_⟩
    refine JE.mk (hJ _ fun gs=>?_)
    have hr:S3 r=sH t S0 (l3 q):=mk.is.trans r7
    have FW:2≤r:=Nat.le_of_not_lt fun h=>by
     obtain⟨x,hx⟩:=wv
     apply hx
     rw[←hr]
     have Tw:=nN.ok.mid.int
     have:r=0∨r=1:=by omega
     rcases this with rfl|rfl
     ·rw[Tw.zero,Tw.zero]
     ·rw[Tw.one,Tw.one]
    have nV:=kj.c7.step dL mk FW Mr
    have uJ:fE K2 S2 fR K3 S3 (fR++[r]) 1:=⟨mk.N,mk.fn,[r],rfl,Nat.le_refl _⟩
    have uY:r<2∨r∈fR++[r]:=.inr (by simp)
    refine aB.mk (.skip (.skip .tail)) ⟨K3,S3,fR++[r],es',cO,vm3,CM3,C3,rfl,⟨⟨[],nN,.inl rfl⟩,nV,PK,_,he,fun y hy=>(pD hy).elim (fun e=>by rw[e];exact⟨hr,uY⟩) (fun hy=>?_)⟩,(xW.trans uJ).Ka (by omega),.inl ⟨r,rfl,hr,uY⟩⟩
    obtain⟨k1,k2⟩:=Ts y hy
    exact⟨by rw[uJ.fn y.2 (hkl y hy),k1],k2.imp id uJ.mem⟩
   ·refine Ext.mk rfl (Ext.mk rfl ?_)
    intro J hJ
    refine ae.jR (Br.bt (by decide) (JE.mk (hJ _ fun gs=>?_)))
    refine aB.mk (.skip (.skip .tail)) ⟨K2,S2,fR,P9,Ue,ZI,CM2,C2,rfl,kj,xW.Ka (by omega),.inr ⟨rfl,?_⟩⟩
    rintro⟨ku,L5,hfit⟩
    have:=dL.ok.roomFor dL.od L5 (by rw[kj.c7.cap];exact hfit) (by rw[n2];exact kj.c7.U) (d:=⟨v',x1,x2⟩) l1 l2 hx (by rw[n2];exact hv.lt) ⟨by show lv aj v'<dep K2.n (lv aj) K2.N x1;omega,by show lv aj v'<dep K2.n (lv aj) K2.N x2;omega⟩ (Mr _ (by rw[r7];exact mY qK gZ wv)) hT
    omega
end
section
variable {kp bw:Nat} {vl vm:Value} {K:Kd} {S:Nat→aF.Fn} {ord aj tr:List Nat} {C:Hp}
theorem wO{Y:Hp}{vr:Value}{refs:List Nat}(hK:cW kp K S ord aj tr C)(hr:cX .u32 Y vr (iw refs))(hl:∀r∈refs,live K.N r)(ca:refs.length≤1048576):
  Fc Tryz.prog 240 #[ptr kp,vr] (Y++C) (fun w H=>∃bw vl CL lvl,w=.tuple #[ptr bw,.int .i64 0]∧H=fL bw kp vl (.slice none 0 0)::(CL++(Y++C))∧aP 3 .i64 vl (iw lvl) CL∧lvl.length=K.n∧∀v,v<K.n→lvl.getD v 0=lv aj v):=by
 have hn:K.n≤64:=hK.bc.qA
 have jH:=hK.od
 intro g
 refine DE (R:=aB _) ?_
 unfold L240
 refine ae.aH (Br.no (hr.bQ ?_))
 rw[an]
 refine⟨fun vs H=>∃i:Nat,vs=[.int .i64 (i:Int)]∧i≤refs.length∧H=Y++C,fun vs _=>refs.length-bK vs 0,JE.mk ⟨0,rfl,Nat.zero_le _,rfl⟩,?_⟩
 rintro w7 H ⟨i,hv,hi,rfl⟩ gs
 simp only[List.cons.injEq,and_true]at hv
 subst hv
 refine ae.fu (Br.dec (fun hlt=>?_) (fun hlt=>?_))
 ·have hlr:=hl _ (List.getElem_mem hlt)
  refine hr.ld (n:=((refs[i]:Nat):Int)) (cm (List.getElem?_eq_getElem hlt)) (fun _ h=>List.mem_append_left _ h) ?_
  refine ag.rd (args:=#[ptr kp,u32 refs[i]]) (.app .here) (iT hK.rep (by have:=hK.cu hlr;omega)) ?_
  rintro w rfl
  rw[bT.2 hlr]
  refine Ext.mk rfl (Ext.mk rfl ?_)
  intro Uj _
  refine St.whole (r:=got K.N refs[i]) (by exact .head _) rfl (aL _ _).1 (aL _ _).2 ?_
  refine ae.dh (Br.bt (by simp) ?_)
  refine ae.aN (b:=1) (by simp[aE];omega) ?_
  exact aC.of .tail ⟨i+1,rfl,hlt,rfl⟩ (by simp only[bK];omega)
 ·refine ag.rd (.app .here) (iQ hK.rep) ?_
  rintro w rfl
  refine cZ.ints (by omega) (by omega) fun bl=>?_
  refine Build.mk (cs:=[ptr kp,.slice (some ⟨bl,0,none⟩) K.n K.n,.slice none 0 0]) (by kernel_rfl) ?_
  intro bw _
  refine ag.fn (.cons (.cons (.app .here))) (qD hK.rep) ?_
  rintro vo H ⟨N,rfl,ho⟩
  refine ho.bQ ?_
  rw[an,jH.len]
  have hz:List.replicate K.n (0:Int)=iw (List.replicate K.n 0):=by simp[iw]
  have hm:=aP.made (T:=3) (kd:=.i64) (b:=bl) (iw (List.replicate K.n 0))
  rw[an,List.length_replicate]at hm
  rw[hz]
  generalize hvl:Value.slice (some ⟨bl,0,none⟩) K.n K.n=vl at*
  refine⟨fun vs H=>∃(i:Nat) (L:List Nat) (CL:Hp),vs=[.int .i64 (i:Int)]∧i≤K.n∧H=fL bw kp vl (.slice none 0 0)::(CL++(Y++(N++C)))∧aP 3 .i64 vl (iw L) CL∧L.length=K.n∧∀j,j<i→L.getD (ord.getD j 0) 0=j,fun vs _=>K.n-bK vs 0,
   JE.mk ⟨0,_,_,rfl,Nat.zero_le _,rfl,hm,by simp,fun j hj=>absurd hj (Nat.not_lt_zero _)⟩,?_⟩
  rintro NM H ⟨i,L,CL,hv,hi,rfl,hL,hLl,hLo⟩ gs
  simp only[List.cons.injEq,and_true]at hv
  subst hv
  refine ae.fu (Br.dec (fun hlt=>?_) (fun hlt=>?_))
  ·have ny:=(jH.bc i hlt).1
   refine ho.ld (x:=((ord.getD i 0:Nat):Int)) (bg (by rw[jH.len];exact hlt)) (fun _ h=>.tail _ (List.mem_append_right _ (List.mem_append_right _ (List.mem_append_left _ h)))) ?_
   refine Nil.ptr (aa.mk (Ld.mk (v:=vl) (by exact .head _) rfl ?_))
   refine hL.jh (x:=(i:Int)) (.cons .left) (by rw[an];omega) fun YQ Rr=>?_
   rw[dY]at Rr
   refine ae.aN (b:=1) (by simp[aE];omega) ?_
   refine aC.mk ⟨i+1,L.set (ord.getD i 0) i,YQ,rfl,hlt,rfl,Rr,by simp[hLl],fun j hj=>?_⟩ (by simp only[bK];omega)
   by_cases e:j=i
   ·subst e
    rw[List.getD_eq_getElem?_getD,List.getElem?_set_self (by omega)];rfl
   ·have hj':j<i:=by omega
    have hne:ord.getD i 0≠ord.getD j 0:=fun h=>by
     have a:=(jH.bc i hlt).2
     have b:=(jH.bc j (by omega)).2
     rw[h,b]at a;exact e a
    rw[List.getD_eq_getElem?_getD,List.getElem?_set_ne hne,←List.getD_eq_getElem?_getD,hLo j hj']
  ·obtain rfl:i=K.n:=by omega
   refine aB.mk (.cons (.c8 (.c8 .right _) _)) ⟨bw,vl,CL,L,rfl,rfl,hL,hLl,fun v hv=>?_⟩
   have h1:=hLo (lv aj v) (hK.ok.lv.lt v hv)
   rwa [jH.of hK.ok.lv hv]at h1
structure GJ(K K':Kd)(made:List Nat)(x:Nat)(ok:Bool):Prop where
 n:K'.n=K.n
 cap:K'.cap=K.cap
 N:∀s d,K'.N s=some d→K.N s=some d
 hold:∀s,K'.hold s+made.count s=K.hold s+if ok=true∧s=x∧2≤x then 1 else 0
theorem Qo{X CM:Hp}{made:List Nat}{x:Nat}{ok:Bool}(hK:cW kp K S ord aj tr C)(hM:aP 77 .u32 vm (iw made) CM)(hc:∀s,made.count s≤K.hold s)(h2:∀s∈made,2≤s)(PT:∀s∈made,s<4294967296)(hx:ok=true→x<2∨x∈made)(ca:made.length≤1099511627776):
  Fc Tryz.prog 263 #[ptr bw,u32 x,.int .i64 (if ok then 0 else 9)] (fL bw kp vl vm::(X++(CM++C))) (fun w H=>∃K' C' uP,w=.tuple #[u32 (if ok then x else 0),.int .i64 (if ok then 0 else 9)]∧H=fL bw kp vl (.slice none 0 0)::(X++(CM++C'))∧cW kp K' S ord aj uP C'∧(uP=[]∨(uP=tr∧(ok=true→made≠[])))∧GJ K K' made x ok):=by
 intro g
 refine Dl (R:=aB _) ?_
 unfold L263
 refine ae.gn (b:=0) ?_
 refine bX.or (decide (x=1)) (fun _=>ae.gn (b:=1) ⟨rfl,rfl⟩) (by simp) fun gs=>?_
 rw[←Bool.decide_or]
 refine Nil.ptr (aa.mk (Ld.mk (v:=vm) (by exact .head _) rfl (hM.bQ ?_)))
 rw[an]
 refine⟨fun vs H=>∃(i:Nat) (Ki:Kd) (Ci:Hp) (Sd:List Nat) (kept:Bool),vs=[.bool kept,.int .i64 (i:Int)]∧i≤made.length∧H=fL bw kp vl vm::(X++(CM++Ci))∧cW kp Ki S ord aj Sd Ci∧(Sd=[]∨Sd=tr)∧Ki.n=K.n∧Ki.cap=K.cap∧(∀s d,Ki.N s=some d→K.N s=some d)∧
   (∀s,Ki.hold s+(made.take i).count s=K.hold s+if kept=true∧s=x∧2≤x then 1 else 0)∧(x<2→kept=true)∧(kept=true→x<2∨(ok=true∧x∈made.take i))∧(ok=true→x∈made.take i→kept=true),fun vs _=>made.length-bK vs 1,
  JE.mk ⟨0,K,C,tr,_,rfl,Nat.zero_le _,rfl,hK,.inr rfl,rfl,rfl,fun _ _ h=>h,fun s=>?_,fun h=>decide_eq_true (by omega),fun h=>.inl (by have:=of_decide_eq_true h;omega),fun _ h=>by simp at h⟩,?_⟩
 ·rw[List.take_zero,List.count_nil,if_neg (fun h=>by have:=of_decide_eq_true h.1;omega)]
 rintro qg sq H ⟨i,Ki,Ci,Sd,kept,hv,hi,rfl,XF,SY,hn,hcap,hN,hh,wu,tA,qi⟩ gs
 simp only[List.cons.injEq,and_true]at hv
 obtain⟨rfl,rfl⟩:=hv
 refine ae.fu (Br.dec (fun hlt=>?_) (fun hlt=>?_))
 ·intro J hJ
  have lB:made.take (i+1)=made.take i++[made[i]]:=List.take_succ_eq_append_getElem hlt
  have hfm:made[i]∈made:=List.getElem_mem hlt
  have lJ:(made.take i).count made[i]+1≤made.count made[i]:=by
   have h1:=(List.take_sublist (i+1) made).count_le made[i]
   rw[lB,List.count_append,List.count_singleton_self]at h1;exact h1
  refine hM.ld (x:=((made[i]:Nat):Int)) (cm (List.getElem?_eq_getElem hlt)) (fun _ h=>.tail _ (List.mem_append_right _ (List.mem_append_left _ h))) ?_
  generalize hf:made[i]=f at*
  refine ae.gn ?_
  refine bX.and (!kept) (fun _=>Un.not ⟨rfl,rfl⟩) (by simp) fun gs=>?_
  refine bX.and ok (fun _=>ae.jR ⟨rfl,by cases ok<;>rfl⟩) (by simp) fun gs=>?_
  refine Br.mk (fun hb=>?_) (fun hb=>?_)
  ·simp only[Bool.and_eq_true,decide_eq_true_eq,Bool.not_eq_true']at hb
   obtain⟨⟨rfl,hkf⟩,hok⟩:=hb
   refine JE.mk (hJ _ _ fun gs=>?_)
   refine ae.aN (b:=1) (by simp[aE];omega) ?_
   refine aC.mk ⟨i+1,Ki,Ci,Sd,true,rfl,hlt,rfl,XF,SY,hn,hcap,hN,fun s=>?_,fun _=>rfl,fun _=>.inr ⟨hok,by rw[lB];simp⟩,fun _ _=>rfl⟩ (by simp only[bK];omega)
   have h0:=hh s
   rw[lB,List.count_append,List.count_singleton]
   rw[if_neg (fun h=>by rw[hkf]at h;cases h.1)]at h0
   by_cases e:s=f
   ·subst e
    have:=h2 s hfm
    simp[this];omega
   ·have:(f==s)=false:=by simpa using fun e'=>e e'.symm
    simp[e,this];omega
  ·refine Nil.ptr (aa.mk (Ld.mk (v:=ptr kp) (by exact .head _) rfl ?_))
   have hhf:Ki.hold f≠0:=by
    have h0:=hh f
    have:=hc f
    split at h0<;>omega
   refine ag.fn (args:=#[ptr kp,u32 f]) (.cons (.app (.app .here))) (pU XF (r:=f) (PT f hfm) (fun _=>hhf)) ?_
   rintro w C2 ⟨rfl,K2,dL,f2⟩
   refine JE.mk (hJ _ _ fun gs=>?_)
   refine ae.aN (b:=1) (by simp[aE];omega) ?_
   refine aC.mk ⟨i+1,K2,C2,[],kept,rfl,hlt,rfl,dL,.inl rfl,f2.n.trans hn,f2.cap.trans hcap,fun s d hd=>hN s d (f2.N s d hd),fun s=>?_,wu,fun h=>(tA h).imp id (fun h=>⟨h.1,by rw[lB];exact List.mem_append_left _ h.2⟩),fun h1 h3=>?_⟩ (by simp only[bK];omega)
   ·have h0:=hh s
    rw[f2.hold,lB,List.count_append,List.count_singleton]
    by_cases e:s=f
    ·subst e
     have:=h2 s hfm
     simp[this];omega
    ·have:(f==s)=false:=by simpa using fun e'=>e e'.symm
     simp[e,this];omega
   ·rw[lB,List.mem_append,List.mem_singleton]at h3
    rcases h3 with h3|h3
    ·exact qi h1 h3
    ·subst h3
     cases hkk:kept
     ·rw[hkk,h1]at hb;simp at hb
     ·rfl
 ·obtain rfl:i=made.length:=by omega
  rw[List.take_length]at hh tA qi
  refine Nil.ptr (aa.mk (St.one (by exact .head _) rfl (by simp) rfl ?_))
  intro J hJ
  refine ae.dh ?_
  cases ok with
  |false=>
   refine Br.eU (by simp) ?_
   have hE:GJ K Ki made x false:=⟨hn,hcap,hN,fun s=>by
    have h0:=hh s
    rw[if_neg (fun h=>by cases h.1)]
    rw[if_neg (fun h=>by
     rcases tA h.1 with h3|h3
     ·omega
     ·cases h3.1)]at h0
    exact h0⟩
   refine aB.here ⟨Ki,Ci,Sd,?_,rfl,XF,SY.imp id fun h=>⟨h,fun h=>by cases h⟩,hE⟩
   rfl
  |true=>
   have zP:kept=true:=by
    rcases hx rfl with h|h
    ·exact wu h
    ·exact qi rfl h
   refine Br.bt (by simp) ?_
   rw[zP]
   refine Un.not (Br.no ?_)
   have hE:∀K3:Kd,K3.n=Ki.n→K3.cap=Ki.cap→K3.N=Ki.N→(∀s,K3.hold s=Ki.hold s)→GJ K K3 made x true:=fun K3 a1 a2 a3 a4=>⟨a1.trans hn,a2.trans hcap,by rw[a3];exact hN,fun s=>by rw[a4,hh s,zP]⟩
   refine ae.gn (b:=0) ?_
   refine bX.or (decide (x=1)) (fun _=>ae.gn (b:=1) ⟨rfl,rfl⟩) (by simp) fun gs=>?_
   rw[←Bool.decide_or]
   refine Br.dec (fun Ib=>?_) (fun Ib=>?_)
   ·refine Nil.ptr (aa.mk (Ld.mk (v:=ptr kp) (by exact .head _) rfl ?_))
    refine ag.fn (.cons (.app (.app .here))) (pK XF (r:=x) (.inl (by omega)) (fun h=>by omega)) ?_
    rintro w C3 ⟨rfl,K3,nN,mo⟩
    refine JE.mk (hJ _ fun gs=>aB.here ⟨K3,C3,[],by simp,rfl,nN,.inl rfl,hE K3 mo.n mo.cap mo.N fun s=>?_⟩)
    rw[mo.hold,if_neg (by omega)]
   ·refine JE.mk (hJ _ fun gs=>aB.here ⟨Ki,Ci,Sd,by simp,rfl,XF,SY.imp id fun h=>⟨h,fun _ hm=>?_⟩,hE Ki rfl rfl rfl fun _=>rfl⟩)
    rcases hx rfl with h|h
    ·omega
    ·rw[hm]at h;cases h
end
theorem V1{α:Type}(a b c d e f g h:α)(L R:List α):(a::b::c::d::e::f::g::h::(L++R)).Perm (g::d::e::b::h::f::a::(L++c::R)):=by
 classical
 rw[List.perm_iff_count];intro x
 simp only[List.count_append,List.count_cons]
 omega
def oV(kp:Nat)(K:Kd)(S:Nat→aF.Fn)(ord aj tr:List Nat)(f:aF.Fn)(w:Value)(H:Hp):Prop:=
 (∃x K' S',w=.tuple #[u32 x,.int .i64 0]∧cW kp K' S' ord aj [] H∧qd K S K' S' f x)∨
 (w=.tuple #[u32 0,.int .i64 9]∧(∃K' S' uP,cW kp K' S' ord aj uP H∧(uP=[]∨uP=tr)∧Kept K S K' S')∧¬Fits (aR K.n ord (fun g=>K.held S g∨g=f)) K.cap)
section
variable {kp bw:Nat} {vl fv:Value} {K:Kd} {S:Nat→aF.Fn} {ord aj tr lvl:List Nat} {LB CL C:Hp} {t:Bool→Bool→Bool→Bool}
theorem Gv(hK:cW kp K S ord aj tr C)(Zl:ym fv LB t)(Rw:aP 3 .i64 vl (iw lvl) CL)(mz:lvl.length=K.n)(hlv:∀v,v<K.n→lvl.getD v 0=lv aj v)(q:Q3)(hq:∀r∈l3 q,live K.N r){c:Nat}(hT:Tree K.n (lv aj) K.N (l3 q) c)(hB:∀s,K.hold s+c<65535)(hc:c≤1048576):
  Fc Tryz.prog 241 #[ptr bw,kq q,fv] (LB++(fL bw kp vl (.slice none 0 0)::(CL++C))) (oV kp K S ord aj tr (sH t S (l3 q))):=by
 have hrb:bA Tryz.prog 264=true:=by kernel_rfl
 obtain⟨fl,adb,aje,Mc,hfr⟩:=Zl.is
 intro g
 refine DD (R:=aB _) ?_
 unfold L241
 intro b1 _ b3 _ b5 _ b7 _ b9 _ bm _ fZ _
 refine St.one (by exact .head _) rfl (by simp) rfl ?_
 intro k9 _
 refine St.one (by exact .head _) rfl (by simp) rfl ?_
 refine Ld.mk (v:=oN fZ b1 b5 k9) (by exact .head _) rfl ?_
 refine aD.whole (r:=(iw (l3 q)).map fun n=>.int .u32 n) (by exact .tail _ (.tail _ (.tail _ (.tail _ (.tail _ (.tail _ (.head _))))))) rfl ?_
 refine cC.of rfl hrb ?_
 refine ag.pre (H':=(b9,.cells #[.int .i64 0] 32 (0,0))::(b7,.cells #[.int .u32 0] 77 (0,0))::RB fZ b1 b5 k9 bm bw kp fv vl (.slice none 0 0) LB CL [] C #[] 0) ?_ ?_
 ·rw[Mc]
  exact(aU.perm (V1 _ _ _ _ _ _ _ _ _ _)).trans .tail
 have jH:=hK.od
 have jQ:=hK.ok.wf
 have jI:=hK.ok.lv
 have nO:=hK.ok.mid.int
 have hS:Stp kp K S (aR K.n ord (fun g=>K.held S g∨g=sH t S (l3 q))) ord aj tr t K S [] #[] 0 (.slice none 0 0) [] C:=
  ⟨⟨tr,hK,.inr ⟨rfl,rfl⟩⟩,.refl fun g hg=>bY (fun g h=>.inl h) hg,aP.nil,[],aV.empty,fun y hy=>by cases hy⟩
 refine ag.fn (args:=#[kq q,ptr fZ,ptr b1,ptr b5,ptr k9]) (.cons (.cons .here)) (T9 hrb Zl Rw mz hlv hK.bc.qA jQ nO jI (fun r hr=>by have:=hK.cu hr;omega) (Se:=tr) (l3 q) c hT q rfl K S [] #[] 0 (.slice none 0 0) [] C hS hq (fun g hg=>bY (fun g h=>.inr h) hg) hB (by simpa using hc)) ?_
 rintro w H ⟨K1,S1,made,es,ck,vm,CM,C1,rfl,A0,hA,Mo⟩
 obtain⟨NO,fx,SZ⟩:=A0.ks
 have nV:=A0.c7
 have hmx:made.length≤1048576:=by have:=(hA.count 0).2;simp at this;omega
 have abJ:∀s∈made,s<4294967296:=fun s hs=>by have:=fx.cu (nV.gy fx hs);omega
 have hmc:∀s,made.count s≤K1.hold s:=fun s=>by rw[nV.hold];omega
 have fin:∀(x:Nat) (ok:Bool),w=.tuple #[u32 (if ok then x else 0),.int .i64 (if ok then 0 else 9)]→(ok=true→x<2∨x∈made)→(∀K2 C2 G3,cW kp K2 S1 ord aj G3 C2→(G3=[]∨(G3=NO∧(ok=true→made≠[])))→GJ K1 K2 made (if ok then x else 0) ok→oV kp K S ord aj tr (sH t S (l3 q)) w C2)→(ok=false→x=0)→
   Ext 0 w fun bV=>Ext 1 w fun cB=>St 1 ((b9,.cells #[.int .i64 0] 32 (0,0))::(b7,.cells #[.int .u32 0] 77 (0,0))::RB fZ b1 b5 k9 bm bw kp fv vl vm LB CL CM C1 es ck) (ptr b7) bV fun gf=>St 1 gf (ptr b9) cB fun gp=>
   jj Tryz.prog g 262 #[ptr b1,ptr b7,ptr b9] gp fun jD=>Ld jD (ptr b7) fun cK=>Ld jD (ptr b9) fun cN=>aB (oV kp K S ord aj tr (sH t S (l3 q))) (.returned (.tuple #[cK,cN])) jD:=by
  intro x ok hw hx hd h0
  subst hw
  refine Ext.mk rfl (Ext.mk rfl ?_)
  refine St.one (by exact .tail (.head _)) rfl (by simp) rfl ?_
  refine St.one (by exact .head _) rfl (by simp) rfl ?_
  refine AG (R:=_) ?_
  unfold L262
  refine Ld.mk (v:=ptr bw) (by exact .tail _ (.tail _ (.tail _ (.head _)))) rfl ?_
  refine Ld.mk (v:=u32 (if ok then x else 0)) (by exact .tail _ (.head _)) rfl ?_
  refine Ld.mk (v:=.int .i64 (if ok then 0 else 9)) (by exact .head _) rfl ?_
  refine ag.fn (.cons (.cons (.cons (.cons (.cons (.cons (.app (.cons .here)))))))) (Qo (X:=CL) (x:=if ok then x else 0) (ok:=ok) fx A0.mde hmc nV.two abJ (fun h=>by rw[if_pos h];exact hx h) (by omega)) ?_
  rintro w H ⟨K2,C2,G3,rfl,rfl,dL,zG,hE⟩
  refine Ext.mk rfl (Ext.mk rfl ?_)
  have e1:(if ok=true then(if ok=true then x else 0)else 0)=if ok=true then x else 0:=by cases ok<;>rfl
  rw[e1]
  refine St.one (by exact .tail (.head _)) rfl (by simp) rfl ?_
  refine St.one (by exact .head _) rfl (by simp) rfl ?_
  refine⟨⟨_,rfl⟩,?_⟩
  refine Ld.mk (v:=u32 (if ok then x else 0)) (by exact .tail _ (.head _)) rfl ?_
  refine Ld.mk (v:=.int .i64 (if ok then 0 else 9)) (by exact .head _) rfl ?_
  exact aB.mk (.skip (.skip (.skip (.skip (.skip (.skip (aU.right.trans (.skip (.skip (aU.right.trans .right)))))))))) (hd K2 C2 G3 dL zG hE)
 have FY:∀s,K.hold s≠0→live K.N s:=fun s hs=>.inr (hK.ok.mid.held s hs)
 rcases Mo with⟨x,rfl,hx,Wk⟩|⟨rfl,hno⟩
 ·refine fin x true rfl (fun _=>Wk) (fun K2 C2 G3 dL zG hE=>.inl ⟨x,K2,S1,rfl,?_,?_⟩) (fun h=>by cases h)
  ·have:G3=[]:=by
    rcases zG with h|⟨h,h'⟩
    ·exact h
    ·rcases SZ with h2|⟨_,h2⟩
     ·rw[h,h2]
     ·exact absurd h2 (h' rfl)
   rw[this]at dL;exact dL
  ·have jw:∀s,K2.hold s=K.hold s+if s=x∧2≤x then 1 else 0:=fun s=>by
    have a:=hE.hold s
    have b:=nV.hold s
    simp only[if_true,true_and]at a
    omega
   have hl:live K2.N x:=by
    by_cases h2:x<2
    ·exact .inl h2
    ·refine .inr (dL.ok.mid.held x ?_)
     rw[jw,if_pos ⟨rfl,by omega⟩];omega
   exact⟨hE.n.trans nV.n,hE.cap.trans nV.cap,fun s d hs=>iS hK.ok dL.ok (fun s h=>by rw[jw];omega) (fun s d d' h h'=>by
    have a:=hE.N s d' h'
    rw[nV.N s d h]at a;exact(Option.some.inj a).symm) _ s d hs (Nat.le_refl _),fun s hs=>nV.fn s hs,hl,hx,jw⟩
 ·refine fin 0 false rfl (fun h=>by cases h) (fun K2 C2 G3 dL zG hE=>.inr ⟨rfl,⟨K2,S1,G3,dL,?_,?_⟩,hno⟩) (fun _=>rfl)
  ·rcases zG with h|⟨h,_⟩
   ·exact .inl h
   ·rcases SZ with h2|⟨h2,_⟩
    ·exact .inl (h.trans h2)
    ·exact .inr (h.trans h2)
  ·have jw:∀s,K2.hold s=K.hold s:=fun s=>by
    have a:=hE.hold s
    have b:=nV.hold s
    rw[if_neg (fun h=>by cases h.1)]at a
    omega
   refine⟨hE.n.trans nV.n,hE.cap.trans nV.cap,jw,fun g=>?_,fun r hr=>nV.fn r (FY r hr)⟩
   constructor
   ·rintro⟨s,hs,rfl⟩
    have hs':K.hold s≠0:=by rw[←jw];exact hs
    exact⟨s,hs',nV.fn s (FY s hs')⟩
   ·rintro⟨s,hs,rfl⟩
    exact⟨s,by show K2.hold s≠0;rw[jw];exact hs,(nV.fn s (FY s hs)).symm⟩
end
end Go.Proofs
namespace Go.Sx
open Go
section
variable {P:Program} {g:Gh}
theorem Build.three{t e:TypeId}{q:IntKind}{x y z:Int}{K:Value→Prop}(ht:P.underlying t=some (.array 3 e))(hz:dg P e=some 1)(h0:eW P t=some (.agg (aA q [0,0,0])))(h:K (.agg (aA q [x,y,z]))):
  Build P t [(0,.int q x),(1,.int q y),(2,.int q z)] K:=by
 refine⟨_,fun w=>?_,h⟩
 obtain⟨i,hi,hs⟩:=bC hz
 obtain⟨i0,HZ,NS⟩:=cI h0
 simp only[Instr.build,Sem.run_bind,dQ HZ NS,Result.andThen_ok,run_underlying ht,run_sizeOf hi,hs]
 simp[Instr.fill,Value.cells,aA]
theorem Build.VP{t e:TypeId}{q:IntKind}{x y:Int}{K:Value→Prop}(ht:P.underlying t=some (.array 3 e))(hz:dg P e=some 1)(h0:eW P t=some (.agg (aA q [0,0,0])))(h:K (.agg (aA q [x,y,0]))):
  Build P t [(0,.int q x),(1,.int q y)] K:=by
 refine⟨_,fun w=>?_,h⟩
 obtain⟨i,hi,hs⟩:=bC hz
 obtain⟨i0,HZ,NS⟩:=cI h0
 simp only[Instr.build,Sem.run_bind,dQ HZ NS,Result.andThen_ok,run_underlying ht,run_sizeOf hi,hs]
 simp[Instr.fill,Value.cells,aA]
end
end Go.Sx
set_option maxRecDepth 100000
namespace Go.Proofs
open Go Go.Sx
open aF
theorem Gx(x:Bool)(B:Hp):Rd Tryz.prog 243 #[.bool x] B (· =.int .u8 ((x.toNat:Nat):Int)):=by
 intro g
 refine DB (R:=aB _) ?_
 unfold L243
 cases x
 ·exact Br.no (cw.mk (.refl _) rfl)
 ·exact Br.yes (cw.mk (.refl _) rfl)
def Hw(op:Nat)(a b:Bool):Bool:=op.testBit (2*a.toNat+b.toNat)
abbrev Hv(b op:Nat):Hp:=[(b,.cells #[.int .u8 (op:Int)] 5 (0,0))]
theorem Cb{b op:Nat}(hop:op<16):ym (.func (.func 242) #[] #[ptr b]) (Hv b op) (fun x y _=>Hw op x y):=by
 refine⟨_,_,_,rfl,by kernel_rfl,fun x y z=>?_⟩
 intro g
 refine DC (R:=aB _) ?_
 unfold L242
 refine DR.of (R:=Hv b op) (.refl _) ?_
 refine Ld.mk (v:=.int .u8 (op:Int)) (by exact .head _) rfl ?_
 refine ag.rd .here (Gx x _) ?_
 rintro w rfl
 refine⟨.refl _,?_⟩
 have hx:x.toNat≤1:=by cases x<;>decide
 have hy:y.toNat≤1:=by cases y<;>decide
 refine ae.rZ (a:=2) (by simp[aE];omega) ?_
 refine ag.rd .here (Gx y _) ?_
 rintro w rfl
 refine⟨.refl _,?_⟩
 refine ae.aN (by simp[aE];omega) ?_
 refine ae.qw (by simp[aE];omega) ?_
 refine ae.p6 (b:=1) (by simp[aE];exact Nat.lt_of_le_of_lt (Nat.shiftRight_le _ _) (by omega)) (by simp[aE]) ?_
 refine ae.gn (b:=1) ?_
 refine cw.mk (.refl _) ?_
 congr 1
 unfold Hw
 rw[Nat.and_one_is_mod]
 rw[Nat.testBit_eq_decide_div_mod_eq,Nat.shiftRight_eq_div_pow]
theorem BJ:ym (.func (.func 244) #[] #[]) [] (fun x y z=>if x then y else z):=by
 refine⟨_,_,_,rfl,by kernel_rfl,fun x y z=>?_⟩
 intro g
 refine DA (R:=aB _) ?_
 unfold L244
 cases x
 ·refine bX.mk false (fun h=>by simp at h) (fun _=>rfl) fun gs=>?_
  refine bX.mk (by exact z) (fun _=>Un.not (bX.and z (fun _=>⟨rfl,rfl⟩) (by simp) fun gs=>⟨rfl,by simp⟩)) (fun h=>by simp at h) fun gs=>?_
  exact cw.mk (.refl _) rfl
 ·refine bX.and y (fun _=>⟨rfl,rfl⟩) (by simp) fun gs=>?_
  refine bX.or false (fun _=>Un.not (bX.and z (fun _=>⟨rfl,rfl⟩) (by simp) fun gs=>⟨rfl,by simp⟩)) (by simp) fun gs=>?_
  refine cw.mk (.refl _) ?_
  cases y<;>rfl
section
variable {kp:Nat} {K:Kd} {S:Nat→aF.Fn} {ord aj tr:List Nat} {C:Hp}
theorem V3{α:Type}(w a b:α)(L R:List α):(w::(L++(a::b::R))).Perm (a::([b]++w::(L++R))):=by
 classical
 rw[List.perm_iff_count];intro x
 simp only[List.count_append,List.count_cons,List.count_nil]
 omega
theorem Ax(hK:cW kp K S ord aj tr C){q:List Nat}(hq:∀r∈q,live K.N r)(hB:∀s,K.hold s+2^K.n≤65535):∃c,Tree K.n (lv aj) K.N q c∧(∀s,K.hold s+c<65535)∧c≤1048576:=by
 obtain⟨c,h1,h2⟩:=OA (S:=S) hK.ok.wf hK.ok.lv hK.ok.mid.int K.n 0 q (by omega) (by omega) hq (fun r _=>Nat.zero_le _)
 rw[Nat.sub_zero]at h2
 have h0:=hB 0
 exact⟨c,h1,fun s=>by have:=hB s;omega,by omega⟩
theorem uf(hK:cW kp K S ord aj tr C){op a b:Nat}(hop:op<16)(ha:live K.N a)(hb:live K.N b)(hB:∀s,K.hold s+2^K.n≤65535):
  Fc Tryz.prog 197 #[ptr kp,.int .u8 (op:Int),u32 a,u32 b] C (oV kp K S ord aj tr (fun x=>Hw op (S a x) (S b x))):=by
 intro g
 refine Ec (R:=aB _) ?_
 unfold L197
 intro b1 _
 refine ae.aH (Br.no ?_)
 refine Ld.mk (v:=.int .u8 (op:Int)) (by exact .head _) rfl ?_
 refine ae.lP (b:=15) (Br.bt (by omega) ?_)
 refine au.FU (e:=77) (x:=(a:Int)) (y:=(b:Int)) (by kernel_rfl) (by kernel_rfl) (by kernel_rfl) fun bs=>?_
 have hq:∀r∈l3 (a,b,0),live K.N r:=fun r hr=>by
  simp only[l3,List.mem_cons,List.not_mem_nil,or_false]at hr
  rcases hr with rfl|rfl|rfl
  ·exact ha
  ·exact hb
  ·exact .inl (by omega)
 have hI:cX .u32 ((bs,Obj.cells (aA .u32 [(a:Int),(b:Int)]) 77 (0,0))::Hv b1 op) (.slice (some ⟨bs,0,none⟩) 2 2) (iw [a,b]):=(aP.made (T:=77) (kd:=.u32) (b:=bs) (iw [a,b])).ints.mono fun _ h=>List.mem_append_left (Hv b1 op) h
 refine ag.fn (args:=#[ptr kp,.slice (some ⟨bs,0,none⟩) 2 2]) (C:=((bs,Obj.cells (aA .u32 [(a:Int),(b:Int)]) 77 (0,0))::Hv b1 op)++C) .here (wO hK hI (fun r hr=>?_) (by show 2≤1048576;omega)) ?_
 ·simp only[List.mem_cons,List.not_mem_nil,or_false]at hr
  rcases hr with rfl|rfl
  ·exact ha
  ·exact hb
 rintro w H ⟨bw,vl,CL,lvl,rfl,rfl,Rw,mz,hlv⟩
 refine Ext.mk rfl (Ext.mk rfl (ae.dh (Br.bt (by decide) ?_)))
 refine Build.VP (e:=77) (q:=.u32) (x:=(a:Int)) (y:=(b:Int)) (by kernel_rfl) (by kernel_rfl) (by kernel_rfl) ?_
 obtain⟨c,hT,hB',hc⟩:=Ax hK hq hB
 refine ag.pre (H':=(bs,Obj.cells (aA .u32 [(a:Int),(b:Int)]) 77 (0,0))::(Hv b1 op++fL bw kp vl (.slice none 0 0)::(CL++C))) (.perm (V3 _ _ _ _ _)) ?_
 refine ag.fn (args:=#[ptr bw,kq (a,b,0),.func (.func 242) #[] #[ptr b1]]) (.cons .here) (Gv (t:=fun x y _=>Hw op x y) hK (Cb hop) Rw mz hlv (a,b,0) hq hT hB' hc) ?_
 intro w H hD
 have:∃x e,w=.tuple #[x,e]:=by
  rcases hD with⟨x,K',S',rfl,_⟩|⟨rfl,_⟩
  ·exact⟨_,_,rfl⟩
  ·exact⟨_,_,rfl⟩
 obtain⟨x,e,rfl⟩:=this
 exact Ext.mk rfl (Ext.mk rfl (aB.mk .tail hD))
theorem oV.two{f:aF.Fn}{w:Value}{H:Hp}(h:oV kp K S ord aj tr f w H):∃x e,w=.tuple #[x,e]:=by
 rcases h with⟨x,K',S',rfl,_⟩|⟨rfl,_⟩
 ·exact⟨_,_,rfl⟩
 ·exact⟨_,_,rfl⟩
theorem Qm(hK:cW kp K S ord aj tr C){a:Nat}(ha:live K.N a)(hB:∀s,K.hold s+2^K.n≤65535):
  Fc Tryz.prog 196 #[ptr kp,u32 a] C (oV kp K S ord aj tr (fun x=> !S a x)):=by
 intro g
 refine Ed (R:=aB _) ?_
 unfold L196
 refine ag.fn (args:=#[ptr kp,.int .u8 ((3:Nat):Int),u32 a,u32 0]) .here (uf hK (op:=3) (by decide) ha (.inl (by omega)) hB) ?_
 intro w H hD
 have e:(fun x=>Hw 3 (S a x) (S 0 x))=fun x=> !S a x:=by
  funext x
  rw[hK.ok.mid.int.zero]
  cases S a x<;>rfl
 rw[e]at hD
 obtain⟨x,e,rfl⟩:=hD.two
 exact Ext.mk rfl (Ext.mk rfl (aB.mk (.refl _) hD))
theorem V0{α:Type}(w a:α)(L R:List α):(w::(L++(a::R))).Perm (a::([]++w::(L++R))):=by
 classical
 rw[List.perm_iff_count];intro x
 simp only[List.count_append,List.count_cons,List.count_nil]
 omega
theorem Gw(hK:cW kp K S ord aj tr C){a b c:Nat}(ha:live K.N a)(hb:live K.N b)(hc:live K.N c)(hB:∀s,K.hold s+2^K.n≤65535):
  Fc Tryz.prog 198 #[ptr kp,u32 a,u32 b,u32 c] C (oV kp K S ord aj tr (fun x=>if S a x then S b x else S c x)):=by
 intro g
 refine Eb (R:=aB _) ?_
 unfold L198
 refine au.Wi (e:=77) (x:=(a:Int)) (y:=(b:Int)) (z:=(c:Int)) (by kernel_rfl) (by kernel_rfl) (by kernel_rfl) fun bs=>?_
 have hq:∀r∈l3 (a,b,c),live K.N r:=fun r hr=>by
  simp only[l3,List.mem_cons,List.not_mem_nil,or_false]at hr
  rcases hr with rfl|rfl|rfl
  ·exact ha
  ·exact hb
  ·exact hc
 refine ag.fn (args:=#[ptr kp,.slice (some ⟨bs,0,none⟩) 3 3]) (C:=[(bs,Obj.cells (aA .u32 [(a:Int),(b:Int),(c:Int)]) 77 (0,0))]++C) .here (wO hK (refs:=l3 (a,b,c)) ((aP.made (T:=77) (kd:=.u32) (b:=bs) (iw (l3 (a,b,c)))).ints) hq (by show 3≤1048576;omega)) ?_
 rintro w H ⟨bw,vl,CL,lvl,rfl,rfl,Rw,mz,hlv⟩
 refine Ext.mk rfl (Ext.mk rfl (ae.dh (Br.bt (by decide) ?_)))
 refine Build.three (e:=77) (q:=.u32) (x:=(a:Int)) (y:=(b:Int)) (z:=(c:Int)) (by kernel_rfl) (by kernel_rfl) (by kernel_rfl) ?_
 obtain⟨k,hT,hB',hk⟩:=Ax hK hq hB
 refine ag.pre (H':=(bs,Obj.cells (aA .u32 [(a:Int),(b:Int),(c:Int)]) 77 (0,0))::([]++fL bw kp vl (.slice none 0 0)::(CL++C))) (.perm (V0 _ _ _ _)) ?_
 refine ag.fn (args:=#[ptr bw,kq (a,b,c),.func (.func 244) #[] #[]]) (.cons .here) (Gv (t:=fun x y z=>if x then y else z) hK BJ Rw mz hlv (a,b,c) hq hT hB' hk) ?_
 intro w H hD
 obtain⟨x,e,rfl⟩:=hD.two
 exact Ext.mk rfl (Ext.mk rfl (aB.mk .tail hD))
theorem n8.grow(hK:cW kp K S ord aj tr C){K':Kd}{S':Nat→aF.Fn}{f:aF.Fn}{r:Nat}{C':Hp}{uP:List Nat}(h:n8 K S K' S' f r)(iJ:cW kp K' S' ord aj uP C')(hl:r<2∨2≤r):qd K S K' S' f r:=
 ⟨h.n,h.cap,h.N,h.fn,by
  by_cases h2:r<2
  ·exact .inl h2
  ·refine .inr (iJ.ok.mid.held r ?_)
   rw[h.hold,if_pos ⟨rfl,by omega⟩];omega,h.is,fun s=>by rw[h.hold];split<;>omega⟩
theorem Qi(hK:cW kp K S ord aj tr C){v:Nat}(hv:v<K.n)(hB:∀s,K.hold s<65535):
  Fc Tryz.prog 195 #[ptr kp,.int .i64 (v:Int)] C (oV kp K S ord aj tr (fun x=>x.testBit v)):=by
 intro g
 refine Ee (R:=aB _) ?_
 unfold L195
 refine ae.aH (Br.no ?_)
 have hint:=hK.ok.mid.int
 have hL:=hK.ok.lv
 have jH:=hK.od
 have h0:live K.N 0:=.inl (by omega)
 have h1:live K.N 1:=.inl (by omega)
 have d0:dep K.n (lv aj) K.N 0=K.n:=aX (hK.ok.wf.const (by omega))
 have d1:dep K.n (lv aj) K.N 1=K.n:=aX (hK.ok.wf.const (by omega))
 have hl:=hL.lt v hv
 have eI:ite S ⟨v,0,1⟩=fun x=>x.testBit v:=by
  funext x
  unfold aF.ite
  simp only[hint.zero,hint.one]
  cases x.testBit v<;>rfl
 refine ag.fn (args:=#[ptr kp,.int .i64 (v:Int),u32 0,u32 1]) .here (xK hK hv h0 h1 (.inr ⟨by rw[d0];exact hl,by rw[d1];exact hl⟩)) ?_
 rintro w C' (⟨r,K',S',rfl,iJ,mk⟩|⟨r,rfl,_,_,_,hfull,_⟩|⟨rfl,rfl,hcap,hne,hT⟩)
 ·rw[eI]at mk
  exact Ext.mk rfl (Ext.mk rfl (aB.mk (.refl _) (.inl ⟨r,K',S',rfl,iJ,mk.grow hK iJ (by omega)⟩)))
 ·have:=hB r;omega
 ·refine Ext.mk rfl (Ext.mk rfl (aB.mk (.refl _) (.inr ⟨rfl,⟨K,S,tr,hK,.inr rfl,.refl K S⟩,?_⟩)))
  rintro⟨ku,L5,hfit⟩
  have HW:=jH.of hL hv
  have qK:∀j,j<lv aj v→¬dr (fun x:Nat=>x.testBit v) (ord.getD j 0):=by
   rintro j hj ⟨x,hx⟩
   apply hx
   have NX:j<K.n:=by omega
   obtain⟨o1,o2⟩:=jH.bc j NX
   show Nat.testBit _ v=Nat.testBit _ v
   rw[aG.ay,aG.ay,if_neg (fun h=>by rw[h]at hj;omega),if_neg (fun h=>by rw[h]at hj;omega)]
  have hh:dr (fun x:Nat=>x.testBit v) (ord.getD (lv aj v) 0):=by
   rw[HW]
   exact⟨0,by show Nat.testBit _ v≠Nat.testBit _ v;rw[aG.ay,aG.ay,if_pos rfl,if_pos rfl];decide⟩
  have:=hK.ok.roomFor jH L5 hfit (fun g hg=>bY (fun g h=>.inl h) hg) (d:=⟨v,0,1⟩) h0 h1 (show(0:Nat)≠1 by omega) hv ⟨by rw[d0];exact hl,by rw[d1];exact hl⟩ (bY (fun g h=>.inr h) (by rw[eI];exact mY qK hl hh)) hT
  omega
end
end Go.Proofs
namespace Go.Sx
open Go
section
variable {κ β:Type} [DecidableEq κ] {ke:κ→Value} {vr:Value→β→Prop} {es:Array MapEntry} {ck:Nat} {m:List (κ×β)} {H:Hp} {b:Nat}
theorem aV.del{kd:TypeDesc}{k:κ}{K:Hp→Prop}(hk:∀a b,Instr.sameNow kd (ke a) (ke b)=some (decide (a=b)))(h:aV ke vr es ck m)(hm:(b,Obj.map es ck)∈H)
 (h1:∀es',aV ke vr es' ck (oF m k)→∃H',cM b (.map es ck) (.map es' ck) H H'∧K H'):oR kd H (.map (some b)) (ke k) K:=by
 refine .inr ?_
 rcases h.findNow hk k with⟨i,y,e,g1,g2,g3,g4⟩|⟨g1,g2⟩
 ·refine⟨b,es,ck,_,rfl,g4,?_⟩
  have:=h.less i
  rw[←ti h.nd g2]at this
  exact h1 _ this
 ·refine⟨b,es,ck,_,rfl,g2,hm,?_⟩
  have e:oF m k=m:=by
   unfold oF
   rw[List.filter_eq_self]
   intro w hw
   simp only[decide_not,Bool.not_eq_true',decide_eq_false_iff_not]
   intro e
   exact g1 (List.mem_map.2 ⟨w,hw,e⟩)
  obtain⟨H',hu,hK⟩:=h1 es (by rw[e];exact h)
  have:∀{H H':Hp},cM b (.map es ck) (.map es ck) H H'→H'=H:=by
   intro H H' hu
   generalize ho:Obj.map es ck=o at hu
   induction hu with
   |head R=>rfl
   |tail _ ih=>rw[ih]
  rw[this hu]at hK;exact hK
end
def kN(kd:IntKind)(r:Nat):Value:=.int kd (r:Int)
theorem iy{kd:IntKind}(a b:Nat):Instr.sameNow (.int kd) (kN kd a) (kN kd b)=some (decide (a=b)):=by
 simp only[kN,Instr.sameNow,if_true,Option.some.injEq]
 by_cases e:a=b
 ·subst e;simp
 ·have:¬(a:Int)=(b:Int):=by omega
  simp[e,this]
theorem FR{kd:IntKind}(a:Nat):Instr.sameBits 10000 (kN kd a) (kN kd a)=true:=by
 simp[kN,Instr.sameBits]
end Go.Sx
namespace aF
open aG
def QF(t:Bool→Bool→Bool)(v:Nat)(f:Fn):Fn:=fun x=>t (f (aI x v false)) (f (aI x v true))
section
variable {t:Bool→Bool→Bool} {v u:Nat} {f:Fn}
theorem qx{x v:Nat}{b c:Bool}:aI (aI x v b) v c=aI x v c:=by
 apply Nat.eq_of_testBit_eq;intro k
 rw[ay,ay,ay]
 split<;>rfl
theorem Nw(h:u≠v)(b:Bool):QF t v (fun x=>f (aI x u b))=fun x=>QF t v f (aI x u b):=by
 funext x
 unfold QF
 simp only[dA h]
theorem Nv(h:¬dr f u):¬dr (QF t v f) u:=by
 rintro⟨x,hx⟩
 by_cases e:u=v
 ·subst e
  apply hx
  unfold QF
  simp only[qx]
 ·apply hx
  unfold QF
  simp only[dA e]
  have key:∀y,f (aI y u false)=f (aI y u true):=fun y=>Classical.byContradiction fun hn=>h ⟨y,hn⟩
  rw[key,key]
theorem Qt(ht:∀a,t a a=a)(h:¬dr f v):QF t v f=f:=by
 funext x
 unfold QF
 have key:∀b,f (aI x v b)=f x:=fun b=>cj h x b
 rw[key,key,ht]
end
def jt3(e:Bool):Bool→Bool→Bool→Bool:=fun x y _=>if e then x||y else x&&y
def jf(e:Bool)(S:Nat→Fn)(a b:Nat):Fn:=sH (jt3 e) S [a,b,0]
theorem qG(e:Bool)(S:Nat→Fn)(a b x:Nat):jf e S a b x=if e then S a x||S b x else S a x&&S b x:=rfl
theorem xP(e:Bool)(S:Nat→Fn)(a b:Nat):jf e S a b=jf e S b a:=by
 funext x;rw[qG,qG];cases e<;>cases S a x<;>cases S b x<;>rfl
theorem QZ(e:Bool)(S:Nat→Fn)(a b:Nat):jf e S (min a b) (max a b)=jf e S a b:=by
 by_cases h:a≤b
 ·rw[Nat.min_eq_left h,Nat.max_eq_right h]
 ·rw[Nat.min_eq_right (by omega),Nat.max_eq_left (by omega),xP]
theorem Pc(e:Bool)(S:Nat→Fn)(a:Nat):jf e S a a=S a:=by
 funext x;rw[qG];cases e<;>cases S a x<;>rfl
section
variable {N:eB} {S:Nat→Fn} {n:Nat} {aj:Nat→Nat}
theorem LA(hi:Interp N S)(e:Bool)(a:Nat):jf e S e.toNat a=S e.toNat:=by
 funext x;rw[qG];cases e
 ·show(S 0 x&&S a x)=S 0 x;rw[hi.zero];rfl
 ·show(S 1 x||S a x)=S 1 x;rw[hi.one];rfl
theorem Lz(hi:Interp N S)(e:Bool)(a:Nat):jf e S (!e).toNat a=S a:=by
 funext x;rw[qG];cases e
 ·show(S 1 x&&S a x)=S a x;rw[hi.one];cases S a x<;>rfl
 ·show(S 0 x||S a x)=S a x;rw[hi.zero];cases S a x<;>rfl
theorem sI(h:WF n aj N)(hl:kB n aj){r v:Nat}(hd:aj v<dep n aj N r)(b:Bool):dG N v b r=r:=by
 unfold dG
 cases e:N r with
 |none=>rfl
 |some d=>
  rw[ax e]at hd
  simp only
  rw[if_neg (fun e2=>by rw[e2]at hd;omega)]
theorem sJ{r:Nat}{d:Nd}(e:N r=some d):dG N d.v false r=d.lo∧dG N d.v true r=d.hi:=by
 unfold dG
 rw[e]
 simp
theorem tO{N':eB}(hN:∀s d,N s=some d→N' s=some d)(hc:∀r,r<2→N' r=none)(h0:∀r,r<2→N r=none){r:Nat}(hr:live N r):dep n aj N' r=dep n aj N r:=by
 rcases hr with hr|⟨d,hd⟩
 ·rw[aX (hc r hr),aX (h0 r hr)]
 ·rw[ax hd,ax (hN r d hd)]
theorem Ao(v:Nat)(bb:Bool)(a b:Nat)(h0:N 0=none):gR N v bb [a,b,0]=[dG N v bb a,dG N v bb b,0]:=by
 have:dG N v bb 0=0:=by unfold dG;rw[h0]
 simp[gR,this]
theorem aaB(h:WF n aj N)(hl:kB n aj){a b:Nat}(h0:N 0=none)(hlt:min (dep n aj N a) (dep n aj N b)<n):
  ∃v,sg n aj N [a,b,0] v∧aj v=min (dep n aj N a) (dep n aj N b):=by
 have hd0:dep n aj N 0=n:=aX h0
 have node:∀r,dep n aj N r<n→∃d,N r=some d:=fun r hr=>by
  cases e:N r with
  |none=>rw[aX e]at hr;omega
  |some d=>exact⟨d,rfl⟩
 by_cases hab:dep n aj N b<dep n aj N a
 ·obtain⟨d,hd⟩:=node b (by omega)
  have e:=ax (n:=n) (aj:=aj) hd
  refine⟨d.v,⟨h.var hd,⟨b,by simp,d,hd,rfl⟩,fun r hr=>?_⟩,by omega⟩
  simp only[List.mem_cons,List.not_mem_nil,or_false]at hr
  rcases hr with rfl|rfl|rfl<;>omega
 ·obtain⟨d,hd⟩:=node a (by omega)
  have e:=ax (n:=n) (aj:=aj) hd
  refine⟨d.v,⟨h.var hd,⟨a,by simp,d,hd,rfl⟩,fun r hr=>?_⟩,by omega⟩
  simp only[List.mem_cons,List.not_mem_nil,or_false]at hr
  rcases hr with rfl|rfl|rfl<;>omega
end
end aF
set_option maxRecDepth 100000
namespace Go.Proofs
open Go Go.Sx
open aF
section
variable {kp:Nat} {K:Kd} {ord aj tr:List Nat} {C:Hp} {S:Nat→aF.Fn}
theorem qE(h:cD kp K ord aj tr C):Rd Tryz.prog 65 #[ptr kp] C (· =.int .i64 ((K.cap:Nat):Int)):=by
 obtain⟨b,rfl,hO⟩:=h
 intro g
 refine IX (R:=aB _) ?_
 unfold L65
 refine ae.aH (Br.no (Nil.ptr (aa.mk ?_)))
 refine aa.mk (Ld.mk (v:=ptr b.pa) (by exact .head _) rfl ?_)
 refine ag.rd (.cons .left) (tX hO.ar) ?_
 rintro v rfl
 exact cw.mk (.refl _) rfl
theorem nv(h:cD kp K ord aj tr C)(v:Int):Rd Tryz.prog 46 #[ptr kp,.int .i64 v] C (· =if 0≤v∧v<K.n then .tuple #[.int .i64 ((aj.getD v.toNat 0:Nat):Int),.int .i64 0]else .tuple #[.int .i64 0,.int .i64 2]):=by
 have h0:=h
 obtain⟨b,rfl,hO⟩:=h
 intro g
 refine wT (R:=aB _) ?_
 unfold L46
 refine ae.aH (Br.no ?_)
 refine ag.rd .here (sE h0 v) ?_
 rintro x rfl
 refine Un.not ?_
 by_cases yE:0≤v∧v<K.n
 ·rw[decide_eq_true yE,if_pos yE]
  refine Br.no (Nil.ptr ?_)
  refine aa.mk (Ld.mk (v:=b.vl) (by exact .head _) rfl ?_)
  have hlen:=hO.ol.2
  obtain⟨n,rfl⟩:∃n:Nat,v=n:=⟨v.toNat,by omega⟩
  refine hO.lv.ld (x:=((aj.getD n 0:Nat):Int)) (bg (by omega)) (cc.sub (.cons (.app (.app (.app (.app (.app .left))))))) ?_
  exact cw.mk (.refl _) rfl
 ·rw[decide_eq_false yE,if_neg yE]
  exact Br.yes (cw.mk (.refl _) rfl)
end
end Go.Proofs
set_option maxRecDepth 100000
namespace Go.Proofs
open Go Go.Sx
open aF
def FD(bq kp bm:Nat)(ok:Bool):Nat×Obj:=(bq,.cells #[ptr kp,.map (some bm),.int .i64 (if ok then 0 else 9)] 350 (0,0))
abbrev sC(bq kp bm:Nat)(ok:Bool)(es:Array MapEntry)(ck:Nat)(C:Hp):Hp:=FD bq kp bm ok::(bm,.map es ck)::C
abbrev ZH(v:Value)(_:Unit):Prop:=v=.int .i64 1
abbrev yD(made:List Nat):List (Nat×Unit):=made.map fun r=>(r,())
theorem pE(made:List Nat):(yD made).map Prod.fst=made:=by
 induction made with
 |nil=>rfl
 |cons a l ih=>simp only[yD,List.map_cons,List.cons.injEq,true_and]at ih⊢;exact ih
structure vw(kp:Nat)(K0:Kd)(S0:Nat→aF.Fn)(U:aF.Fn→Prop)(ord aj:List Nat)(K:Kd)(S:Nat→aF.Fn)(made:List Nat)(es:Array MapEntry)(ck:Nat)(C:Hp)(ok:Bool):Prop where
 ks:cW kp K S ord aj [] C
 c7:mO K0 S0 U ord K S made
 jK:aV (kN .u32) ZH es ck (yD made)
 bad:ok=false→¬Fits U K0.cap
theorem vw.nd{kp:Nat}{K0:Kd}{S0:Nat→aF.Fn}{U:aF.Fn→Prop}{ord aj:List Nat}{K:Kd}{S:Nat→aF.Fn}{made:List Nat}{es:Array MapEntry}{ck:Nat}{C:Hp}{ok:Bool}(h:vw kp K0 S0 U ord aj K S made es ck C ok):made.Nodup:=by
 have:=h.jK.nd
 rwa [pE]at this
structure A7(K:Kd)(S:Nat→aF.Fn)(made:List Nat)(K':Kd)(S':Nat→aF.Fn)(made':List Nat):Prop where
 N:∀s d,K.N s=some d→K'.N s=some d
 fn:∀s,live K.N s→S' s=S s
 mem:∀s∈made,s∈made'
theorem A7.refl{K:Kd}{S:Nat→aF.Fn}{made:List Nat}:A7 K S made K S made:=⟨fun _ _ h=>h,fun _ _=>rfl,fun _ h=>h⟩
theorem A7.trans{K K' K2:Kd}{S S' S2:Nat→aF.Fn}{made made' fR:List Nat}(h:A7 K S made K' S' made')(h':A7 K' S' made' K2 S2 fR):A7 K S made K2 S2 fR:=
 ⟨fun s d hd=>h'.N s d (h.N s d hd),fun s hs=>(h'.fn s (cR h.N hs)).trans (h.fn s hs),fun s hs=>h'.mem s (h.mem s hs)⟩
section
variable {kp bq bm:Nat} {K K0:Kd} {S S0:Nat→aF.Fn} {U:aF.Fn→Prop} {ord aj made:List Nat} {es:Array MapEntry} {ck:Nat} {C:Hp} {ok:Bool}
theorem Hr{tr:List Nat}{r:Nat}(h:cW kp K S ord aj tr C)(hr:live K.N r):Rd Tryz.prog 287 #[ptr bq,.agg (got K.N r).toArray] (sC bq kp bm ok es ck C) (· =.int .i64 ((dep K.n (lv aj) K.N r:Nat):Int)):=by
 have hlen:=(aL K.N r).1
 intro g
 refine CX (R:=aB _) ?_
 unfold L287
 intro b1 _
 cases hN:K.N r with
 |none=>
  have h2:r<2:=by rcases hr with h|⟨d,hd⟩;exact h;rw[hN]at hd;cases hd
  have eg:got K.N r=[.int .i64 (-1),u32 r,u32 r]:=dV h2
  rw[eg]
  refine aa.mk (Ld.mk (v:=.int .i64 (-1)) (by exact .head _) rfl ?_)
  refine ae.lss (Br.eU (by decide) ?_)
  refine Nil.ptr (aa.mk (Ld.mk (v:=ptr kp) (by exact .tail _ (.head _)) rfl ?_))
  refine ag.rd (.cons (.cons (.cons .here))) (iQ h.rep) ?_
  rintro w rfl
  rw[aX hN]
  exact cw.mk .tail rfl
 |some d=>
  have h2:=h.ok.wf.two hN
  have hv:=h.ok.wf.var hN
  rw[dD hN h2]
  refine aa.mk (Ld.mk (v:=.int .i64 (d.v:Int)) (by exact .head _) rfl ?_)
  refine ae.lss (Br.bt (by omega) ?_)
  refine DR.of (R:=(b1,Obj.cells (aZ d).toArray 161 (0,0))::sC bq kp bm ok es ck C) (.refl _) ?_
  refine Nil.ptr (aa.mk (Ld.mk (v:=ptr kp) (by exact .tail _ (.head _)) rfl ?_))
  refine aa.mk (Ld.mk (v:=.int .i64 (d.v:Int)) (by exact .head _) rfl ?_)
  refine ag.rd (.cons (.cons (.cons .here))) (nv h.rep (d.v:Int)) ?_
  rw[if_pos (by omega)]
  rintro w rfl
  refine⟨.refl _,?_⟩
  refine Ext.mk rfl (Ext.mk rfl ?_)
  rw[ax hN]
  exact cw.mk .tail rfl
theorem Bv{tr:List Nat}{r:Nat}(h:cW kp K S ord aj tr C)(hr:live K.N r):Rd Tryz.prog 279 #[ptr bq,u32 r] (sC bq kp bm ok es ck C) (· =.tuple #[.agg (got K.N r).toArray,.int .i64 ((dep K.n (lv aj) K.N r:Nat):Int)]):=by
 intro g
 refine Da (R:=aB _) ?_
 unfold L279
 intro b1 _
 refine Nil.ptr (aa.mk (Ld.mk (v:=ptr kp) (by exact .tail _ (.head _)) rfl ?_))
 refine ag.rd (.cons (.cons (.cons .here))) (iT h.rep (by have:=h.cu hr;omega)) ?_
 rw[bT.2 hr]
 rintro w rfl
 refine Ext.mk rfl (Ext.mk rfl ?_)
 intro yg _
 refine St.whole (r:=got K.N r) (by exact .head _) rfl (aL _ _).1 (aL _ _).2 ?_
 refine DR.of (R:=[(yg,Obj.cells (got K.N r).toArray 161 (0,0))]) (aU.left (A:=[_])) ?_
 refine aD.whole (r:=got K.N r) (by exact .head _) (aL _ _).1 ?_
 refine aD.whole (r:=got K.N r) (by exact .head _) (aL _ _).1 ?_
 refine ag.rd (.cons (.cons .here)) (Hr h hr) ?_
 rintro w rfl
 refine⟨aU.left (A:=[_]),?_⟩
 refine St.whole (r:=got K.N r) (by exact .tail (.head _)) rfl (aL _ _).1 (aL _ _).2 ?_
 refine⟨aU.left (A:=[_]),?_⟩
 refine aD.whole (r:=got K.N r) (by exact .tail _ (.head _)) (aL _ _).1 ?_
 exact cw.mk (.skip .tail) rfl
theorem vO(v:Value)(a b:Value)(B:Hp):Rd Tryz.prog 280 #[ptr bq,v,a,b] (FD bq kp bm false::B) (· =u32 0):=by
 intro g
 refine uk (R:=aB _) ?_
 unfold L280
 refine Nil.ptr (aa.mk (Ld.mk (v:=.int .i64 9) (by exact .head _) rfl ?_))
 exact ae.dh (Br.eU (by decide) (cw.mk (.refl _) rfl))
theorem mO.VW(h:mO K0 S0 U ord K S made)(hK:cW kp K S ord aj [] C){K':Kd}{S':Nat→aF.Fn}{f:aF.Fn}{r:Nat}(m:n8 K S K' S' f r)(h2:2≤r)(hU:∀g,aR K0.n ord (fun g=>g=f) g→U g):mO K0 S0 U ord K' S' (made++[r]):=h.step hK m h2 hU
theorem mO.again(h:mO K0 S0 U ord K S made)(hK:cW kp K S ord aj [] C){K' K2:Kd}{S':Nat→aF.Fn}{f:aF.Fn}{r:Nat}{C2:Hp}(m:n8 K S K' S' f r)(hf:wW K' K2 r)(dL:cW kp K2 S' ord aj [] C2):mO K0 S0 U ord K2 S' made∧(∀s d,K.N s=some d→K2.N s=some d):=by
 have hold:∀s,K2.hold s=K.hold s:=fun s=>by
  rw[hf.hold,m.hold]
  by_cases e:s=r∧2≤r
  ·rw[if_pos e,if_pos e];omega
  ·rw[if_neg e,if_neg e]
 have hN:∀s d,K.N s=some d→K2.N s=some d:=fun s d hs=>iS hK.ok dL.ok (fun s h=>by rw[hold];exact h) (fun s d d' h1 h2=>by
  have a:=hf.N s d' h2
  rw[m.N s d h1]at a;exact(Option.some.inj a).symm) _ s d hs (Nat.le_refl _)
 refine⟨⟨hf.n.trans (m.n.trans h.n),hf.cap.trans (m.cap.trans h.cap),fun s d hd=>hN s d (h.N s d hd),fun s hs=>(m.fn s (h.live hs)).trans (h.fn s hs),fun s=>by rw[hold,h.hold],h.two,fun g hg=>h.U g (bY (fun g=>?_) hg)⟩,hN⟩
 rintro⟨s,hs,rfl⟩
 have hs':K.hold s≠0:=by rw[←hold];exact hs
 exact⟨s,hs',m.fn s (.inr (hK.ok.mid.held s hs'))⟩
theorem Ll{made:List Nat}{r:Nat}(h:r∉made):gY (yD made) r ()=yD (made++[r]):=by
 unfold gY
 rw[if_neg (by rw[pE];exact h)]
 simp[yD]
theorem nq{made:List Nat}{r:Nat}:(r∈made→ew (yD made) r=some ())∧(r∉made→ew (yD made) r=none):=by
 refine⟨fun h=>?_,fun h=>gv.2 (by rw[pE];exact h)⟩
 cases e:ew (yD made) r with
 |none=>have:=gv.1 e;rw[pE]at this;exact absurd h this
 |some u=>rfl
theorem zf(hq:vw kp K0 S0 U ord aj K S made es ck C true){v lo hi:Nat}(hv:v<K.n)(hlo:live K.N lo)(hhi:live K.N hi)(hlt:lv aj v<dep K.n (lv aj) K.N lo∧lv aj v<dep K.n (lv aj) K.N hi)
 (hU:∀g,aR K0.n ord (fun g=>g=ite S ⟨v,lo,hi⟩) g→U g)(kg:lo≠hi→U (ite S ⟨v,lo,hi⟩))(hf:∀s,K0.hold s+1<65535):
  Fc Tryz.prog 280 #[ptr bq,.int .i64 (v:Int),u32 lo,u32 hi] (sC bq kp bm true es ck C) (fun w H=>∃r K' S' made' es' cO C' lG,w=u32 r∧H=sC bq kp bm lG es' cO C'∧vw kp K0 S0 U ord aj K' S' made' es' cO C' lG∧A7 K S made K' S' made'∧
   (lG=true→S' r=ite S ⟨v,lo,hi⟩∧(r<2∨r∈made'))):=by
 have hK:=hq.ks
 have ig:=hq.nd
 have hh:∀s,K.hold s<65535:=fun s=>by
  rw[hq.c7.hold]
  have:made.count s≤1:=List.nodup_iff_count.1 ig s
  have:=hf s
  omega
 intro g
 refine uk (R:=aB _) ?_
 unfold L280
 refine Nil.ptr (aa.mk (Ld.mk (v:=.int .i64 0) (by exact .head _) rfl ?_))
 refine ae.dh (Br.bt (by decide) ?_)
 refine Nil.ptr (aa.mk (Ld.mk (v:=ptr kp) (by exact .head _) rfl ?_))
 refine ag.fn (.cons (.cons .here)) (xK hK hv hlo hhi (.inr hlt)) ?_
 rintro w C' (⟨r,K',S',rfl,iJ,mk⟩|⟨r,rfl,_,_,_,hfull,_⟩|⟨rfl,rfl,hcap,hne,hT⟩)
 ·refine Ext.mk rfl (Ext.mk rfl ?_)
  intro J hJ
  refine ae.jR (Br.bt (by decide) ?_)
  refine ae.dh (Br.bt (by decide) ?_)
  refine ae.AU (b:=1) ?_
  have Ta:r<4294967296:=by have:=iJ.cu mk.live;omega
  have hA:A7 K S made K' S' made:=⟨mk.N,mk.fn,fun _ h=>h⟩
  have drop:(r<2∨r∈made)→Nil (ptr bq) fun dW=>aa 0 dW fun dO=>Ld (FD bq kp bm true::(bm,Obj.map es ck)::C') dO fun fX=>ag Tryz.prog g 131 #[fX,u32 r] (FD bq kp bm true::(bm,Obj.map es ck)::C') (fun gu mT=>JE J [u32 r] mT) (aq (aB fun w H=>∃r K' S' made' es' cO C' lG,w=u32 r∧H=sC bq kp bm lG es' cO C'∧vw kp K0 S0 U ord aj K' S' made' es' cO C' lG∧A7 K S made K' S' made'∧
   (lG=true→S' r=ite S ⟨v,lo,hi⟩∧(r<2∨r∈made')))):=fun hr=>by
   refine Nil.ptr (aa.mk (Ld.mk (v:=ptr kp) (by exact .head _) rfl ?_))
   refine ag.fn (.cons (.cons .here)) (pU iJ (r:=r) Ta (fun h2=>by rw[mk.hold,if_pos ⟨rfl,h2⟩];omega)) ?_
   rintro w C2 ⟨rfl,K2,dL,f2⟩
   obtain⟨qI,TT⟩:=hq.c7.again hK mk f2 dL
   refine JE.mk (hJ _ _ fun gs=>?_)
   exact aB.here ⟨r,K2,S',made,es,ck,C2,true,rfl,rfl,⟨dL,qI,hq.jK,fun h=>by cases h⟩,⟨TT,mk.fn,fun _ h=>h⟩,fun _=>⟨mk.is,hr⟩⟩
  by_cases h2:r<2
  ·rw[decide_eq_true (by omega)]
   refine bX.or (a:=true) true (fun h=>by cases h) (by simp) fun gs=>Br.yes ?_
   exact drop (.inl h2)
  ·rw[decide_eq_false (by omega)]
   refine bX.or (a:=false) (decide (r∈made)) (fun _=>?_) (by simp) fun gs=>?_
   ·refine Nil.ptr (aa.mk (Ld.mk (v:=.map (some bm)) (by exact .head _) rfl ?_))
    by_cases hm:r∈made
    ·refine aV.hit (k:=r) (x:=()) iy hq.jK (.tail _ (.head _)) (nq.1 hm) ?_
     rintro v rfl
     exact ae.gtr ⟨rfl,by rw[decide_eq_true hm];rfl⟩
    ·refine aV.HA (k:=r) iy hq.jK (.tail _ (.head _)) (nq.2 hm) ?_
     exact ae.gtr ⟨rfl,by rw[decide_eq_false hm];rfl⟩
   ·rw[Bool.false_or]
    refine Br.dec (fun hm=>drop (.inr hm)) (fun hm=>?_)
    refine Nil.ptr (aa.mk (Ld.mk (v:=.map (some bm)) (by exact .head _) rfl ?_))
    refine aV.cg (k:=r) (x:=()) iy FR hq.jK rfl fun es' cO he=>⟨_,.tail (.head _),?_⟩
    rw[Ll hm]at he
    refine JE.mk (hJ _ _ fun gs=>?_)
    exact aB.here ⟨r,K',S',made++[r],es',cO,C',true,rfl,rfl,⟨iJ,hq.c7.VW hK mk (by omega) hU,he,fun h=>by cases h⟩,⟨mk.N,mk.fn,fun _ h=>List.mem_append_left _ h⟩,fun _=>⟨mk.is,.inr (by simp)⟩⟩
 ·have:=hh r;omega
 ·refine Ext.mk rfl (Ext.mk rfl ?_)
  intro J hJ
  refine ae.jR (Br.bt (by decide) ?_)
  refine ae.dh (Br.eU (by decide) ?_)
  refine Nil.ptr (aa.mk (St.one (by exact .head _) rfl (by simp) rfl ?_))
  refine JE.mk (hJ _ _ fun gs=>?_)
  refine aB.here ⟨0,K,S,made,es,ck,C',false,rfl,rfl,⟨hK,hq.c7,hq.jK,fun _=>?_⟩,.refl,fun h=>by cases h⟩
  rintro⟨ku,L5,hfit⟩
  have:=hK.ok.roomFor hK.od L5 (by rw[hq.c7.cap];exact hfit) (by rw[hq.c7.n];exact hq.c7.U) (d:=⟨v,lo,hi⟩) hlo hhi hne hv hlt (kg hne) hT
  omega
end
def pk(p:Nat×Nat):Value:=.agg #[u32 p.1,u32 p.2]
theorem K9(a b:Nat×Nat):AL Tryz.prog 363 (pk a) (pk b) (decide (a=b)):=by
 refine AL.flat (fs:=#[⟨"f",77,0,false, "", "thicket/quant",0⟩,⟨"g",77,1,false, "", "thicket/quant",4⟩]) (by kernel_rfl) (by kernel_rfl) ?_ ?_
 ·intro f hf
  simp only[List.mem_cons,List.not_mem_nil,or_false]at hf
  rcases hf with rfl|rfl
  ·exact⟨by decide,_,_,rfl,rfl,.inl ⟨.u32,_,_,by kernel_rfl,rfl,rfl⟩⟩
  ·exact⟨by decide,_,_,rfl,rfl,.inl ⟨.u32,_,_,by kernel_rfl,rfl,rfl⟩⟩
 ·obtain⟨a1,a2⟩:=a
  obtain⟨b1,b2⟩:=b
  simp[u32]
  omega
theorem Bz(a:Nat×Nat):lM Tryz.prog 363 (pk a):=by
 refine lM.flat (fs:=#[⟨"f",77,0,false, "", "thicket/quant",0⟩,⟨"g",77,1,false, "", "thicket/quant",4⟩]) (by kernel_rfl) ?_
 intro f hf
 simp only[List.mem_cons,List.not_mem_nil,or_false]at hf
 rcases hf with rfl|rfl
 ·exact⟨by decide,_,rfl,.inl ⟨.u32,_,_,by kernel_rfl,rfl,rfl⟩⟩
 ·exact⟨by decide,_,rfl,.inl ⟨.u32,_,_,by kernel_rfl,rfl,rfl⟩⟩
theorem OV(a:Nat×Nat):Instr.sameBits 10000 (pk a) (pk a)=true:=jG 9998 (by intro x hx;simp[u32]at hx;rcases hx with rfl|rfl<;>exact .inl ⟨_,_,rfl⟩)
def qT(b3 b5 b1 lD nP:Nat):Value:=.func (.func 288) #[] #[ptr b3,ptr b5,ptr b1,ptr lD,ptr nP]
def VA(K0:Kd)(F:Nat×Nat→aF.Fn)(S:Nat→aF.Fn)(made:List Nat)(ok:Bool)(es:Array MapEntry)(ck:Nat):Prop:=
 ∃m:List ((Nat×Nat)×Nat),aV pk Kg es ck m∧(ok=true→∀y∈m,S y.2=F y.1∧(live K0.N y.2∨y.2∈made))
abbrev Q0(e:Bool)(b3 b5 b1 lD nP bj bq kp bm:Nat)(ok:Bool)(uG:Array MapEntry)(uH:Nat)(es:Array MapEntry)(ck:Nat)(C:Hp):Hp:=
 (nP,.cells #[qT b3 b5 b1 lD nP] 361 (0,0))::(lD,.cells #[.map (some bj)] 360 (0,0))::(bj,.map uG uH)::(b5,.cells #[u32 (!e).toNat] 77 (0,0))::(b3,.cells #[u32 e.toNat] 77 (0,0))::(b1,.cells #[ptr bq] 344 (0,0))::sC bq kp bm ok es ck C
section
variable {kp bq bm b3 b5 b1 lD nP bj:Nat} {K0:Kd} {S0:Nat→aF.Fn} {U:aF.Fn→Prop} {ord aj:List Nat} {e:Bool}
theorem vw.tj{K:Kd}{S:Nat→aF.Fn}{made:List Nat}{es:Array MapEntry}{ck:Nat}{C:Hp}{ok:Bool}(h:vw kp K0 S0 U ord aj K S made es ck C ok){r:Nat}(hr:live K0.N r∨r∈made):live K.N r:=by
 rcases hr with hr|hr
 ·exact h.c7.live hr
 ·exact h.c7.gy h.ks hr
theorem VA.more{F:Nat×Nat→aF.Fn}{K K':Kd}{S S':Nat→aF.Fn}{made made':List Nat}{es uG:Array MapEntry}{ck uH:Nat}{C:Hp}{ok lG:Bool}(hq:vw kp K0 S0 U ord aj K S made es ck C ok)(h:VA K0 F S made ok uG uH)(ha:A7 K S made K' S' made')(hok:lG=true→ok=true):VA K0 F S' made' lG uG uH:=by
 obtain⟨m,h1,h2⟩:=h
 refine⟨m,h1,fun h y hy=>?_⟩
 obtain⟨a,b⟩:=h2 (hok h) y hy
 exact⟨by rw[ha.fn _ (hq.tj b),a],b.imp id (ha.mem _)⟩
def Ux(kp:Nat)(K0:Kd)(S0:Nat→aF.Fn)(U:aF.Fn→Prop)(ord aj:List Nat)(e:Bool)(b3 b5 b1 lD nP bj bq bm:Nat)(K:Kd)(S:Nat→aF.Fn)(made:List Nat)(ok:Bool)(f:aF.Fn)(w:Value)(H:Hp):Prop:=
 ∃x K' S' made' es' cO C' lG SP SR,w=u32 x∧H=Q0 e b3 b5 b1 lD nP bj bq kp bm lG SP SR es' cO C'∧vw kp K0 S0 U ord aj K' S' made' es' cO C' lG∧VA K0 (fun p=>jf e S0 p.1 p.2) S' made' lG SP SR∧A7 K S made K' S' made'∧
  (lG=true→ok=true∧S' x=f∧(live K0.N x∨x∈made'))
theorem z7{N:eB}{n:Nat}{dm:Nat→Nat}(h:WF n dm N)(hl:kB n dm){r v:Nat}(hr:live N r)(hv:v<n)(hle:dm v≤dep n dm N r):
  ∃z p q,got N r=[.int .i64 z,u32 p,u32 q]∧(dm v=dep n dm N r→z=(v:Int)∧p=dG N v false r∧q=dG N v true r)∧(dm v<dep n dm N r→dG N v false r=r∧dG N v true r=r):=by
 have hlv:=hl.lt v hv
 cases e:N r with
 |none=>
  have h2:r<2:=by rcases hr with h|⟨d,hd⟩;exact h;rw[e]at hd;cases hd
  refine⟨_,_,_,dV h2,fun h3=>?_,fun h3=>⟨sI h hl h3 _,sI h hl h3 _⟩⟩
  rw[aX e]at h3;omega
 |some d=>
  refine⟨_,_,_,dD e (h.two e),fun h3=>?_,fun h3=>⟨sI h hl h3 _,sI h hl h3 _⟩⟩
  rw[ax e]at h3
  have:v=d.v:=hl.inj _ _ hv (h.var e) h3
  subst this
  obtain⟨c1,c2⟩:=sJ (N:=N) e
  exact⟨rfl,c1.symm,c2.symm⟩
set_option maxHeartbeats 2000000 in
theorem Ly(gJ:bA Tryz.prog 288=true)(jQ:WF K0.n (lv aj) K0.N)(nO:Interp K0.N S0)(jI:kB K0.n (lv aj))(jH:aF.Ord K0.n (lv aj) ord)(hf:∀s,K0.hold s+1<65535):
  ∀(k a b:Nat),K0.n-min (dep K0.n (lv aj) K0.N a) (dep K0.n (lv aj) K0.N b)=k→∀(K:Kd) (S:Nat→aF.Fn) (made:List Nat) (es:Array MapEntry) (ck:Nat) (C:Hp) (ok:Bool) (uG:Array MapEntry) (uH:Nat),
  live K0.N a→live K0.N b→vw kp K0 S0 U ord aj K S made es ck C ok→VA K0 (fun p=>jf e S0 p.1 p.2) S made ok uG uH→(∀g,aR K0.n ord (fun g=>g=jf e S0 a b) g→U g)→
  Fc Tryz.prog 288 #[u32 a,u32 b,ptr b3,ptr b5,ptr b1,ptr lD,ptr nP] (Q0 e b3 b5 b1 lD nP bj bq kp bm ok uG uH es ck C) (Ux kp K0 S0 U ord aj e b3 b5 b1 lD nP bj bq bm K S made ok (jf e S0 a b)):=by
 have hc0:∀r,r<2→K0.N r=none:=fun r hr=>jQ.const hr
 intro k
 induction k using Nat.strongRecOn with
 |ind k ih=>
 intro a b hk K S made es ck C ok uG uH ha hb hS hJ hU g
 have hK:=hS.ks
 have F0:∀r,r<2→K.N r=none:=fun r hr=>hK.ok.wf.const hr
 have eN:=hS.c7.n
 have la:=hS.c7.live ha
 have lb:=hS.c7.live hb
 have now:∀x,live K0.N x→(S0 x=jf e S0 a b)→∀Z:Hp,aB (Ux kp K0 S0 U ord aj e b3 b5 b1 lD nP bj bq bm K S made ok (jf e S0 a b)) (.returned (u32 x)) (Z++Q0 e b3 b5 b1 lD nP bj bq kp bm ok uG uH es ck C):=fun x hx hf Z=>
  aB.mk .right ⟨x,K,S,made,es,ck,C,ok,uG,uH,rfl,rfl,hS,hJ,.refl,fun h=>⟨h,by rw[hS.c7.fn x hx];exact hf,.inl hx⟩⟩
 have NZ:e.toNat<2:=by cases e<;>decide
 have AX:(!e).toNat<2:=by cases e<;>decide
 refine CW (R:=aB _) ?_
 unfold L288
 refine Ld.mk (v:=u32 e.toNat) (by exact .tail _ (.tail _ (.tail _ (.tail _ (.head _))))) rfl ?_
 refine ae.gn ?_
 refine bX.or (decide (b=e.toNat)) (fun _=>?_) (by simp) fun gs=>?_
 ·refine Ld.mk (v:=u32 e.toNat) (by exact .tail _ (.tail _ (.tail _ (.tail _ (.head _))))) rfl ?_
  exact ae.gn ⟨rfl,rfl⟩
 rw[←Bool.decide_or]
 refine Br.dec (fun h1=>?_) (fun h1=>?_)
 ·refine Ld.mk (v:=u32 e.toNat) (by exact .tail _ (.tail _ (.tail _ (.tail _ (.head _))))) rfl ?_
  refine now _ (.inl NZ) ?_ []
  rcases h1 with rfl|rfl
  ·exact(LA nO e b).symm
  ·rw[xP];exact(LA nO e a).symm
 refine Ld.mk (v:=u32 (!e).toNat) (by exact .tail _ (.tail _ (.tail _ (.head _)))) rfl ?_
 refine ae.gn ?_
 refine bX.or (decide (a=b)) (fun _=>ae.gn ⟨rfl,rfl⟩) (by simp) fun gs=>?_
 rw[←Bool.decide_or]
 refine Br.dec (fun h2=>?_) (fun h2=>?_)
 ·refine now b hb ?_ []
  rcases h2 with rfl|rfl
  ·exact(Lz nO e b).symm
  ·exact(Pc e S0 a).symm
 refine Ld.mk (v:=u32 (!e).toNat) (by exact .tail _ (.tail _ (.tail _ (.head _)))) rfl ?_
 refine ae.gn (Br.dec (fun h3=>?_) (fun h3=>?_))
 ·refine now a ha ?_ []
  rw[h3,xP];exact(Lz nO e a).symm
 refine Ld.mk (v:=ptr bq) (by exact .tail _ (.tail _ (.tail _ (.tail _ (.tail _ (.head _)))))) rfl ?_
 refine Nil.ptr (aa.mk (Ld.mk (v:=.int .i64 (if ok then 0 else 9)) (by exact .tail _ (.tail _ (.tail _ (.tail _ (.tail _ (.tail _ (.head _))))))) rfl ?_))
 cases ok with
 |false=>
  refine ae.dh (Br.eU (by decide) ?_)
  exact aB.here ⟨0,K,S,made,es,ck,C,false,uG,uH,rfl,rfl,hS,hJ,.refl,fun h=>by cases h⟩
 |true=>
 refine ae.dh (Br.bt (by decide) ?_)
 refine⟨.u32,(a:Int),(b:Int),rfl,rfl,⟨.u32,(a:Int),(b:Int),rfl,rfl,?_⟩⟩
 have adh:(if(b:Int)<(a:Int)then(b:Int)else(a:Int))=((min a b:Nat):Int):=by split<;>omega
 have adi:(if(b:Int)>(a:Int)then(b:Int)else(a:Int))=((max a b:Nat):Int):=by split<;>omega
 rw[adh,adi]
 refine Build.mk (cs:=[u32 (min a b),u32 (max a b)]) (by kernel_rfl) ?_
 intro Gr _
 refine St.whole (r:=[u32 (min a b),u32 (max a b)]) (by exact .head _) rfl rfl (by intro x hx;simp[u32]at hx;rcases hx with rfl|rfl<;>rfl) ?_
 refine Ld.mk (v:=.map (some bj)) (by exact .tail _ (.tail _ (.head _))) rfl ?_
 refine aD.whole (r:=[u32 (min a b),u32 (max a b)]) (by exact .head _) rfl ?_
 obtain⟨m,hE,hkn⟩:=hJ
 have u7:(bj,Obj.map uG uH)∈(Gr,Obj.cells #[u32 (min a b),u32 (max a b)] 363 (0,0))::Q0 e b3 b5 b1 lD nP bj bq kp bm true uG uH es ck C:=.tail _ (.tail _ (.tail _ (.head _)))
 cases hg:ew m (min a b,max a b)with
 |some x=>
  refine aV.HY (ke:=pk) (k:=(min a b,max a b)) K9 Bz hE u7 hg ?_
  rintro v rfl
  obtain⟨g1,g2⟩:=hkn rfl _ ((eC hE.nd).1 hg)
  refine Ext.mk rfl (Ext.mk rfl (Br.yes ?_))
  refine aB.mk .tail ⟨x,K,S,made,es,ck,C,true,uG,uH,rfl,rfl,hS,⟨m,hE,hkn⟩,.refl,fun h=>⟨h,?_,g2⟩⟩
  rw[g1];exact QZ e S0 a b
 |none=>
 refine aV.vS (ke:=pk) (k:=(min a b,max a b)) K9 Bz hE u7 hg ?_
 refine Ext.mk rfl (Ext.mk rfl (Br.no ?_))
 refine Ld.mk (v:=ptr bq) (by exact .tail _ (.tail _ (.tail _ (.tail _ (.tail _ (.tail _ (.head _))))))) rfl ?_
 refine ag.rd (.cons (.cons (.cons (.cons (.cons (.cons (.cons .here))))))) (Bv (bm:=bm) (ok:=true) (es:=es) (ck:=ck) hK la) ?_
 rintro w rfl
 refine Ext.mk rfl (Ext.mk rfl ?_)
 intro IE _
 refine St.whole (r:=got K.N a) (by exact .head _) rfl (aL _ _).1 (aL _ _).2 ?_
 refine Ld.mk (v:=ptr bq) (by exact .tail _ (.tail _ (.tail _ (.tail _ (.tail _ (.tail _ (.tail _ (.head _)))))))) rfl ?_
 refine ag.rd (.cons (.cons (.cons (.cons (.cons (.cons (.cons (.cons .here)))))))) (Bv (bm:=bm) (ok:=true) (es:=es) (ck:=ck) hK lb) ?_
 rintro w rfl
 refine Ext.mk rfl (Ext.mk rfl ?_)
 intro ID _
 refine St.whole (r:=got K.N b) (by exact .head _) rfl (aL _ _).1 (aL _ _).2 ?_
 rw[mC hS.c7.N hc0 F0 ha,mC hS.c7.N hc0 F0 hb,eN,tO hS.c7.N F0 hc0 ha,tO hS.c7.N F0 hc0 hb]
 have hmin:min (dep K0.n (lv aj) K0.N a) (dep K0.n (lv aj) K0.N b)<K0.n:=by
  refine Classical.byContradiction fun hn=>h2 (.inr ?_)
  have cst:∀r,live K0.N r→K0.n≤dep K0.n (lv aj) K0.N r→r<2:=fun r hr hd=>by
   rcases hr with h|⟨d,c9⟩
   ·exact h
   ·rw[ax c9]at hd
    have:=jI.lt _ (jQ.var c9);omega
  have a2:=cst a ha (by omega)
  have b2:=cst b hb (by omega)
  cases e<;>simp only[Bool.toNat_true,Bool.toNat_false,Bool.not_true,Bool.not_false]at h1 h2<;>omega
 obtain⟨v,hv,hvl⟩:=aaB jQ jI (hc0 0 (by omega)) hmin
 have hva:=hv.le a (by simp)
 have hvb:=hv.le b (by simp)
 obtain⟨za,pa,qa,ega,ga1,ga2⟩:=z7 jQ jI ha hv.lt hva
 obtain⟨zb,pb,qb,egb,gb1,gb2⟩:=z7 jQ jI hb hv.lt hvb
 rw[ega,egb]
 have gk:∀r∈[a,b,0],live K0.N r:=fun r hr=>by
  simp only[List.mem_cons,List.not_mem_nil,or_false]at hr
  rcases hr with rfl|rfl|rfl
  ·exact ha
  ·exact hb
  ·exact .inl (by omega)
 obtain⟨f1,f2⟩:=nG (S:=S0) jQ jI nO gk hv false
 obtain⟨t1,t2⟩:=nG (S:=S0) jQ jI nO gk hv true
 rw[Ao v _ a b (hc0 0 (by omega))]at f1 f2 t1 t2
 have ec:∀bb,jf e S0 (dG K0.N v bb a) (dG K0.N v bb b)=fun x=>jf e S0 a b (aG.aI x v bb):=fun bb=>by
  have:=Ga (S:=S0) jQ jI nO rfl gk hv (jt3 e) bb
  rw[Ao v _ a b (hc0 0 (by omega))]at this
  exact this
 generalize ea1:dG K0.N v false a=a1 at*
 generalize ea2:dG K0.N v true a=a2 at*
 generalize ec1:dG K0.N v false b=c1 at*
 generalize ec2:dG K0.N v true b=c2 at*
 have gZ:=jI.lt v hv.lt
 have HW:=jH.of jI hv.lt
 have qK:∀j,j<lv aj v→¬dr (jf e S0 a b) (ord.getD j 0):=wE jQ jI nO jH (q:=[a,b,0]) rfl gk (Nat.le_of_lt gZ) hv.le (jt3 e)
 obtain⟨i1,KM⟩:=iH (n:=K0.n) (ord:=ord) (c:=jf e S0 a1 c1) qK (b:=false) (by rw[HW,←ea1,←ec1];exact ec false)
 obtain⟨i2,KL⟩:=iH (n:=K0.n) (ord:=ord) (c:=jf e S0 a2 c2) qK (b:=true) (by rw[HW,←ea2,←ec2];exact ec true)
 have eF:jf e S0 a1 c1=fun x=>jf e S0 a b (aG.aI x v false):=by rw[←ea1,←ec1];exact ec false
 have eT:jf e S0 a2 c2=fun x=>jf e S0 a b (aG.aI x v true):=by rw[←ea2,←ec2];exact ec true
 have la1:=f1 a1 (by simp)
 have lc1:=f1 c1 (by simp)
 have la2:=t1 a2 (by simp)
 have lc2:=t1 c2 (by simp)
 have da1:=f2 a1 (by simp)
 have dc1:=f2 c1 (by simp)
 have da2:=t2 a2 (by simp)
 have dc2:=t2 c2 (by simp)
 refine aa.mk (Ld.mk (v:=.int .i64 za) (by exact .tail _ (.head _)) rfl ?_)
 intro Yz h49
 have XP:Yz [.int .i64 (v:Int)] ((ID,.cells #[.int .i64 zb,u32 pb,u32 qb] 161 (0,0))::(IE,.cells #[.int .i64 za,u32 pa,u32 qa] 161 (0,0))::(Gr,.cells #[u32 (min a b),u32 (max a b)] 363 (0,0))::Q0 e b3 b5 b1 lD nP bj bq kp bm true uG uH es ck C):=by
  refine h49 _ _ fun gs Yy h53=>?_
  have XO:Yy [] ((ID,.cells #[.int .i64 zb,u32 pb,u32 qb] 161 (0,0))::(IE,.cells #[.int .i64 za,u32 a1,u32 a2] 161 (0,0))::(Gr,.cells #[u32 (min a b),u32 (max a b)] 363 (0,0))::Q0 e b3 b5 b1 lD nP bj bq kp bm true uG uH es ck C):=by
   refine h53 _ fun gs Yx h56=>?_
   have XN:Yx [] ((ID,.cells #[.int .i64 zb,u32 c1,u32 c2] 161 (0,0))::(IE,.cells #[.int .i64 za,u32 a1,u32 a2] 161 (0,0))::(Gr,.cells #[u32 (min a b),u32 (max a b)] 363 (0,0))::Q0 e b3 b5 b1 lD nP bj bq kp bm true uG uH es ck C):=by
    refine h56 _ fun gs=>?_
    refine Ld.mk (v:=qT b3 b5 b1 lD nP) (by exact .tail _ (.tail _ (.tail _ (.head _)))) rfl ?_
    refine aa.mk (Ld.mk (v:=u32 a1) (by exact .tail _ (.head _)) rfl ?_)
    refine aa.mk (Ld.mk (v:=u32 c1) (by exact .head _) rfl ?_)
    refine cC.of rfl gJ ?_
    have hJ0:VA K0 (fun p=>jf e S0 p.1 p.2) S made true uG uH:=⟨m,hE,hkn⟩
    refine ag.fn (args:=#[u32 a1,u32 c1,ptr b3,ptr b5,ptr b1,ptr lD,ptr nP]) (.cons (.cons (.cons .here))) (ih _ (by omega) a1 c1 rfl K S made es ck C true uG uH la1 lc1 hS hJ0 (fun g hg=>hU g (KM g hg))) ?_
    rintro w H ⟨x1,K1,S1,vZ,MM,Gf,C1,ok1,aa3,aa5,rfl,rfl,A0,TV,Ik,zK⟩
    refine DR.of (R:=[(ID,.cells #[.int .i64 zb,u32 c1,u32 c2] 161 (0,0)),(IE,.cells #[.int .i64 za,u32 a1,u32 a2] 161 (0,0)),(nP,.cells #[qT b3 b5 b1 lD nP] 361 (0,0)),(b1,.cells #[ptr bq] 344 (0,0))]) (.cons (.cons (.skip (.cons (.skip (.skip (.skip (.skip (aU.left (A:=[_])))))))))) ?_
    refine Ld.mk (v:=ptr bq) (by exact .tail _ (.tail _ (.tail _ (.head _)))) rfl ?_
    refine Ld.mk (v:=qT b3 b5 b1 lD nP) (by exact .tail _ (.tail _ (.head _))) rfl ?_
    refine aa.mk (Ld.mk (v:=u32 a2) (by exact .tail _ (.head _)) rfl ?_)
    refine aa.mk (Ld.mk (v:=u32 c2) (by exact .head _) rfl ?_)
    refine cC.of rfl gJ ?_
    refine ag.fn (args:=#[u32 a2,u32 c2,ptr b3,ptr b5,ptr b1,ptr lD,ptr nP]) (.cons (.cons (.cons .here))) (ih _ (by omega) a2 c2 rfl K1 S1 vZ MM Gf C1 ok1 aa3 aa5 la2 lc2 A0 TV (fun g hg=>hU g (KL g hg))) ?_
    rintro w H ⟨x2,K2,S2,fR,P9,Ue,C2,YX,aa2,aa4,rfl,rfl,kj,wy,kH,o7⟩
    refine⟨.cons (.cons (.skip (.cons (.skip (.skip (.skip (.skip (aU.left (A:=[_]))))))))),?_⟩
    have xW:=Ik.trans kH
    have fin:∀(x3:Nat) K3 S3 ia wF A2 C3 AT,vw kp K0 S0 U ord aj K3 S3 ia wF A2 C3 AT→A7 K2 S2 fR K3 S3 ia→(AT=true→YX=true∧S3 x3=jf e S0 a b∧(live K0.N x3∨x3∈ia))→
      ∀sk,sk=(ID,.cells #[.int .i64 zb,u32 c1,u32 c2] 161 (0,0))::(IE,.cells #[.int .i64 za,u32 a1,u32 a2] 161 (0,0))::(Gr,.cells #[u32 (min a b),u32 (max a b)] 363 (0,0))::Q0 e b3 b5 b1 lD nP bj bq kp bm AT aa2 aa4 wF A2 C3→
      aU sk [(ID,.cells #[.int .i64 zb,u32 c1,u32 c2] 161 (0,0)),(IE,.cells #[.int .i64 za,u32 a1,u32 a2] 161 (0,0)),(nP,.cells #[qT b3 b5 b1 lD nP] 361 (0,0)),(b1,.cells #[ptr bq] 344 (0,0))]∧
      Ld sk (ptr lD) fun yz=>aD 2 sk (ptr Gr) fun uM=>iE Tryz.prog 363 sk yz uM (u32 x3) fun H79=>aB (Ux kp K0 S0 U ord aj e b3 b5 b1 lD nP bj bq bm K S made true (jf e S0 a b)) (.returned (u32 x3)) H79:=by
     rintro x3 K3 S3 ia wF A2 C3 AT TP uJ u6 sk rfl
     refine⟨.cons (.cons (.skip (.cons (.skip (.skip (.skip (.skip (aU.left (A:=[_]))))))))),?_⟩
     refine Ld.mk (v:=.map (some bj)) (by exact .tail _ (.tail _ (.tail _ (.tail _ (.head _))))) rfl ?_
     refine aD.whole (r:=[u32 (min a b),u32 (max a b)]) (by exact .tail _ (.tail _ (.head _))) rfl ?_
     obtain⟨m3,Rv,Tr⟩:=wy.more kj uJ (fun h=>(u6 h).1)
     refine aV.Ot (ke:=pk) (k:=(min a b,max a b)) (vr:=Kg) (x:=x3) K9 Bz OV Rv rfl fun es' cO he=>⟨_,.tail (.tail (.tail (.tail (.tail (.head _))))),?_⟩
     refine aB.mk (.skip (.skip .tail)) ⟨x3,K3,S3,ia,wF,A2,C3,AT,es',cO,rfl,rfl,TP,⟨_,he,fun h y hy=>(pD hy).elim (fun e1=>?_) (fun hy=>Tr h y hy)⟩,xW.trans uJ,fun h=>⟨rfl,(u6 h).2⟩⟩
     rw[e1]
     exact⟨(u6 h).2.1.trans (QZ e S0 a b).symm,(u6 h).2.2⟩
    cases YX with
    |false=>
     refine ag.rd (args:=#[ptr bq,.int .i64 (v:Int),u32 x1,u32 x2]) (.cons (.cons (.cons (.cons (.cons (.cons (.cons (.cons (.cons .here))))))))) (vO (kp:=kp) (bm:=bm) _ _ _ _) ?_
     rintro w rfl
     exact fin 0 K2 S2 fR P9 Ue C2 false kj .refl (fun h=>by cases h) _ rfl
    |true=>
     obtain⟨Su,e2,m2⟩:=o7 rfl
     obtain⟨_,e1,m1⟩:=zK Su
     have SL:=A0.tj m1
     have l1:live K2.N x1:=cR kH.N SL
     have l2:=kj.tj m2
     have Qb:S2 x1=jf e S0 a1 c1:=(kH.fn x1 SL).trans e1
     have dL:=kj.ks
     have n2:=kj.c7.n
     have b1':=dL.ok.below dL.od (l:=lv aj v+1) l1 (by omega) (by rw[Qb];exact i1)
     have b2':=dL.ok.below dL.od (l:=lv aj v+1) l2 (by omega) (by rw[e2];exact i2)
     have r7:ite S2 ⟨v,x1,x2⟩=jf e S0 a b:=by
      funext x
      unfold aF.ite
      rw[Qb,e2,eF,eT]
      conv=>rhs;rw[←aG.jY x v]
      simp only
      cases x.testBit v<;>rfl
     have kg:x1≠x2→U (ite S2 ⟨v,x1,x2⟩):=fun hx=>by
      have wv:dr (jf e S0 a b) (ord.getD (lv aj v) 0):=by
       rw[HW]
       refine Classical.byContradiction fun hno=>hx ?_
       refine dL.ok.wf.same dL.ok.lv dL.ok.mid.int l1 l2 fun x=>?_
       rw[Qb,e2,eF,eT]
       exact(cj hno x false).trans (cj hno x true).symm
      rw[r7]
      exact hU _ (mY qK gZ wv)
     refine ag.fn (args:=#[ptr bq,.int .i64 (v:Int),u32 x1,u32 x2]) (.cons (.cons (.cons (.cons (.cons (.cons (.cons (.cons (.cons .here))))))))) (zf kj (by rw[n2];exact hv.lt) l1 l2 ⟨by omega,by omega⟩ (by rw[r7];exact hU) kg hf) ?_
     rintro w H ⟨r,K3,S3,ia,wF,A2,C3,AT,rfl,rfl,TP,uJ,u6⟩
     exact fin r K3 S3 ia wF A2 C3 AT TP uJ (fun h=>⟨rfl,by rw[(u6 h).1,r7],(u6 h).2.imp .inl id⟩) _ rfl
   refine ae.lP (Br.dec (fun hh=>?_) (fun hh=>?_))
   ·obtain⟨x1,x2⟩:=gb2 (by omega)
    subst x1;subst x2
    refine aa.mk (St.one (by exact .head _) rfl (by simp) rfl ?_)
    refine aa.mk (St.one (by exact .head _) rfl (by simp) rfl ?_)
    exact JE.mk XN
   ·obtain⟨x1,x2,x3⟩:=gb1 (by omega)
    rw[x2,x3]
    exact JE.mk XN
  refine ae.lP (Br.dec (fun hh=>?_) (fun hh=>?_))
  ·obtain⟨x1,x2⟩:=ga2 (by omega)
   subst x1;subst x2
   refine aa.mk (St.one (by exact .tail (.head _)) rfl (by simp) rfl ?_)
   refine aa.mk (St.one (by exact .tail (.head _)) rfl (by simp) rfl ?_)
   exact JE.mk XO
  ·obtain⟨x1,x2,x3⟩:=ga1 (by omega)
   rw[x2,x3]
   exact JE.mk XO
 refine ae.fu (Br.dec (fun hh=>?_) (fun hh=>?_))
 ·obtain⟨x1,x2,x3⟩:=gb1 (by omega)
  refine aa.mk (Ld.mk (v:=.int .i64 zb) (by exact .head _) rfl ?_)
  subst x1
  exact JE.mk XP
 ·obtain⟨x1,x2,x3⟩:=ga1 (by omega)
  subst x1
  exact JE.mk XP
end
theorem LI{N:eB}{S:Nat→aF.Fn}{n:Nat}{dm:Nat→Nat}{ord:List Nat}(h:WF n dm N)(hl:kB n dm)(hi:Interp N S)(ho:aF.Ord n dm ord){r:Nat}(hr:live N r){l:Nat}(L0:l≤n)(hle:l≤dep n dm N r):∀j,j<l→¬dr (S r) (ord.getD j 0):=by
 rintro j hj ⟨x,hx⟩
 apply hx
 obtain⟨o1,o2⟩:=ho.bc j (by omega)
 rw[h.bZ hl hi hr o1 (by omega) x false,h.bZ hl hi hr o1 (by omega) x true]
section
variable {kp bq bm:Nat} {K0:Kd} {S0:Nat→aF.Fn} {U:aF.Fn→Prop} {ord aj:List Nat}
def Qs(kp:Nat)(K0:Kd)(S0:Nat→aF.Fn)(U:aF.Fn→Prop)(ord aj:List Nat)(bq bm:Nat)(LB:Hp)(K:Kd)(S:Nat→aF.Fn)(made:List Nat)(f:aF.Fn)(w:Value)(H:Hp):Prop:=
 ∃x K' S' made' es' cO C' lG,w=u32 x∧H=LB++sC bq kp bm lG es' cO C'∧vw kp K0 S0 U ord aj K' S' made' es' cO C' lG∧A7 K S made K' S' made'∧(lG=true→S' x=f∧(live K0.N x∨x∈made'))
theorem Pb{e:Bool}(jQ:WF K0.n (lv aj) K0.N)(nO:Interp K0.N S0)(jI:kB K0.n (lv aj))(jH:aF.Ord K0.n (lv aj) ord)(hf:∀s,K0.hold s+1<65535){a b:Nat}{K:Kd}{S:Nat→aF.Fn}{made:List Nat}{es:Array MapEntry}{ck:Nat}{C:Hp}
 (ha:live K0.N a)(hb:live K0.N b)(hS:vw kp K0 S0 U ord aj K S made es ck C true)(hU:∀g,aR K0.n ord (fun g=>g=jf e S0 a b) g→U g):
  Fc Tryz.prog 283 #[ptr bq,u32 a,u32 b,.bool e] (sC bq kp bm true es ck C) (Qs kp K0 S0 U ord aj bq bm [] K S made (jf e S0 a b)):=by
 intro g
 refine CZ (R:=aB _) ?_
 unfold L283
 intro b1 _ b3 _ b5 _
 refine St.one (by exact .tail (.head _)) rfl (by simp) rfl ?_
 refine St.one (by exact .head _) rfl (by simp) rfl ?_
 have gJ:bA Tryz.prog 288=true:=by kernel_rfl
 intro J hJ
 have BW:J [] ((b5,.cells #[u32 (!e).toNat] 77 (0,0))::(b3,.cells #[u32 e.toNat] 77 (0,0))::(b1,.cells #[ptr bq] 344 (0,0))::sC bq kp bm true es ck C):=by
  refine hJ _ fun gs=>?_
  intro bj _ lD _
  refine St.one (by exact .head _) rfl (by simp) rfl ?_
  intro nP _
  refine St.one (by exact .head _) rfl (by simp) rfl ?_
  refine Ld.mk (v:=qT b3 b5 b1 lD nP) (by exact .head _) rfl ?_
  refine cC.of rfl gJ ?_
  refine ag.fn (args:=#[u32 a,u32 b,ptr b3,ptr b5,ptr b1,ptr lD,ptr nP]) .here (Ly (e:=e) gJ jQ nO jI jH hf _ a b rfl K S made es ck C true #[] 0 ha hb hS ⟨[],aV.empty,fun _ y hy=>by cases hy⟩ hU) ?_
  rintro w H ⟨x,K',S',made',es',cO,C',lG,SP,SR,rfl,rfl,JL,_,hA,ho⟩
  exact aB.mk (.skip (.skip (.skip (.skip (.skip .tail))))) ⟨x,K',S',made',es',cO,C',lG,rfl,rfl,JL,hA,fun h=>(ho h).2⟩
 cases e with
 |true=>
  refine Br.yes ?_
  refine St.one (by exact .tail (.head _)) rfl (by simp) rfl ?_
  refine St.one (by exact .head _) rfl (by simp) rfl ?_
  exact JE.mk BW
 |false=>exact Br.no (JE.mk BW)
def GC(kp:Nat)(K0:Kd)(S0:Nat→aF.Fn)(U:aF.Fn→Prop)(ord aj:List Nat)(bq bm:Nat)(t:Bool→Bool→Bool)(v:Nat)(fv:Value)(LB:Hp):Prop:=
 ∃f first cap,fv=.func (.func f) first cap∧bA Tryz.prog f=true∧∀(r:Nat) (d:Nd),K0.N r=some d→d.v=v→∀K S made es ck C,vw kp K0 S0 U ord aj K S made es ck C true→(∀g,aR K0.n ord (fun g=>g=QF t v (S0 r)) g→U g)→
  Fc Tryz.prog f (first++ #[.agg (aZ d).toArray]++cap) (LB++sC bq kp bm true es ck C) (Qs kp K0 S0 U ord aj bq bm LB K S made (QF t v (S0 r)))
def tR(b1 fZ oO b3 qW:Nat):Value:=.func (.func 278) #[] #[ptr b1,ptr fZ,ptr oO,ptr b3,ptr qW]
def US(K0:Kd)(F:Nat→aF.Fn)(S:Nat→aF.Fn)(made:List Nat)(ok:Bool)(es:Array MapEntry)(ck:Nat):Prop:=
 ∃m:List (Nat×Nat),aV (kN .u32) Kg es ck m∧(ok=true→∀y∈m,S y.2=F y.1∧(live K0.N y.2∨y.2∈made))
theorem US.more{F:Nat→aF.Fn}{K K':Kd}{S S':Nat→aF.Fn}{made made':List Nat}{es uG:Array MapEntry}{ck uH:Nat}{C:Hp}{ok lG:Bool}(hq:vw kp K0 S0 U ord aj K S made es ck C ok)(h:US K0 F S made ok uG uH)(ha:A7 K S made K' S' made')(hok:lG=true→ok=true):US K0 F S' made' lG uG uH:=by
 obtain⟨m,h1,h2⟩:=h
 refine⟨m,h1,fun h y hy=>?_⟩
 obtain⟨a,b⟩:=h2 (hok h) y hy
 exact⟨by rw[ha.fn _ (hq.tj b),a],b.imp id (ha.mem _)⟩
abbrev Zs(b1 b3 fZ oO qW bd lvl:Nat)(fv:Value)(LB:Hp)(bq kp bm:Nat)(ok:Bool)(JP:Array MapEntry)(JQ:Nat)(es:Array MapEntry)(ck:Nat)(C:Hp):Hp:=
 (qW,.cells #[tR b1 fZ oO b3 qW] 352 (0,0))::(oO,.cells #[.map (some bd)] 351 (0,0))::(bd,.map JP JQ)::(fZ,.cells #[.int .i64 (lvl:Int)] 3 (0,0))::(b3,.cells #[fv] 289 (0,0))::(b1,.cells #[ptr bq] 344 (0,0))::(LB++sC bq kp bm ok es ck C)
def aet(kp:Nat)(K0:Kd)(S0:Nat→aF.Fn)(U:aF.Fn→Prop)(ord aj:List Nat)(t:Bool→Bool→Bool)(v b1 b3 fZ oO qW bd:Nat)(fv:Value)(LB:Hp)(bq bm:Nat)(K:Kd)(S:Nat→aF.Fn)(made:List Nat)(ok:Bool)(f:aF.Fn)(w:Value)(H:Hp):Prop:=
 ∃x K' S' made' es' cO C' lG Ub Ud,w=u32 x∧H=Zs b1 b3 fZ oO qW bd (lv aj v) fv LB bq kp bm lG Ub Ud es' cO C'∧vw kp K0 S0 U ord aj K' S' made' es' cO C' lG∧US K0 (fun r=>QF t v (S0 r)) S' made' lG Ub Ud∧A7 K S made K' S' made'∧
  (lG=true→ok=true∧S' x=f∧(live K0.N x∨x∈made'))
variable {b1 b3 fZ oO qW bd:Nat} {fv:Value} {LB:Hp} {t:Bool→Bool→Bool} {v:Nat}
set_option maxHeartbeats 2000000 in
theorem MP(gJ:bA Tryz.prog 278=true)(Zk:GC kp K0 S0 U ord aj bq bm t v fv LB)(ht:∀a,t a a=a)(hv:v<K0.n)(jQ:WF K0.n (lv aj) K0.N)(nO:Interp K0.N S0)(jI:kB K0.n (lv aj))(jH:aF.Ord K0.n (lv aj) ord)(hf:∀s,K0.hold s+1<65535):
  ∀(k r:Nat),K0.n-dep K0.n (lv aj) K0.N r=k→∀(K:Kd) (S:Nat→aF.Fn) (made:List Nat) (es:Array MapEntry) (ck:Nat) (C:Hp) (ok:Bool) (JP:Array MapEntry) (JQ:Nat),
  live K0.N r→vw kp K0 S0 U ord aj K S made es ck C ok→US K0 (fun r=>QF t v (S0 r)) S made ok JP JQ→(∀g,aR K0.n ord (fun g=>g=QF t v (S0 r)) g→U g)→
  Fc Tryz.prog 278 #[u32 r,ptr b1,ptr fZ,ptr oO,ptr b3,ptr qW] (Zs b1 b3 fZ oO qW bd (lv aj v) fv LB bq kp bm ok JP JQ es ck C) (aet kp K0 S0 U ord aj t v b1 b3 fZ oO qW bd fv LB bq bm K S made ok (QF t v (S0 r))):=by
 have hc0:∀r,r<2→K0.N r=none:=fun r hr=>jQ.const hr
 intro k
 induction k using Nat.strongRecOn with
 |ind k ih=>
 intro r hk K S made es ck C ok JP JQ hr hS hD hU g
 have hK:=hS.ks
 have F0:∀r,r<2→K.N r=none:=fun r hr=>hK.ok.wf.const hr
 have eN:=hS.c7.n
 have lr:=hS.c7.live hr
 refine Db (R:=aB _) ?_
 unfold L278
 refine Ld.mk (v:=ptr bq) (by exact .tail _ (.tail _ (.tail _ (.tail _ (.tail _ (.head _)))))) rfl ?_
 refine ag.rd (.cons (.cons (.cons (.cons (.cons (.cons (.app .here))))))) (Bv (bm:=bm) (ok:=ok) (es:=es) (ck:=ck) hK lr) ?_
 rintro w rfl
 refine Ext.mk rfl (Ext.mk rfl ?_)
 intro b6 _
 refine St.whole (r:=got K.N r) (by exact .head _) rfl (aL _ _).1 (aL _ _).2 ?_
 rw[mC hS.c7.N hc0 F0 hr,eN,tO hS.c7.N F0 hc0 hr]
 refine Ld.mk (v:=.int .i64 ((lv aj v:Nat):Int)) (by exact .tail _ (.tail _ (.tail _ (.tail _ (.head _))))) rfl ?_
 refine ae.lP ?_
 refine bX.or (!ok) (fun _=>?_) (by simp) fun gs=>?_
 ·refine Ld.mk (v:=ptr bq) (by exact .tail _ (.tail _ (.tail _ (.tail _ (.tail _ (.tail _ (.head _))))))) rfl ?_
  refine Nil.ptr (aa.mk (Ld.mk (v:=.int .i64 (if ok then 0 else 9)) (by exact .tail _ (.tail _ (.tail _ (.tail _ (.tail _ (.tail _ (.tail _ (List.mem_append_right _ (.head _))))))))) rfl ?_))
  exact ae.dh ⟨rfl,by cases ok<;>rfl⟩
 refine Br.mk (fun hb=>?_) (fun hb=>?_)
 ·-- deeper, or an error before
  refine aB.mk .tail ⟨r,K,S,made,es,ck,C,ok,JP,JQ,rfl,rfl,hS,hD,.refl,fun h=>⟨h,?_,.inl hr⟩⟩
  rw[h]at hb
  simp only[Bool.not_true,Bool.or_false,decide_eq_true_eq]at hb
  rw[hS.c7.fn r hr]
  refine(Qt ht ?_).symm
  rintro⟨x,hx⟩
  apply hx
  rw[jQ.bZ jI nO hr hv hb x false,jQ.bZ jI nO hr hv hb x true]
 simp only[Bool.or_eq_false_iff,decide_eq_false_iff_not,Bool.not_eq_false',Nat.not_lt]at hb
 obtain⟨xU,rfl⟩:=hb
 obtain⟨m,hE,hkn⟩:=hD
 refine Ld.mk (v:=.map (some bd)) (by exact .tail _ (.tail _ (.head _))) rfl ?_
 have u7:(bd,Obj.map JP JQ)∈(b6,Obj.cells (got K0.N r).toArray 161 (0,0))::Zs b1 b3 fZ oO qW bd (lv aj v) fv LB bq kp bm true JP JQ es ck C:=.tail _ (.tail _ (.tail _ (.head _)))
 have hlv:=jI.lt v hv
 obtain⟨d,hd⟩:∃d,K0.N r=some d:=by
  cases e:K0.N r with
  |none=>rw[aX e]at xU;omega
  |some d=>exact⟨d,rfl⟩
 have ed:=ax (n:=K0.n) (aj:=lv aj) hd
 have h2:=jQ.two hd
 have pP:=jQ.var hd
 cases hg:ew m r with
 |some x=>
  refine aV.hit (k:=r) iy hE u7 hg ?_
  rintro w rfl
  obtain⟨g1,g2⟩:=hkn rfl _ ((eC hE.nd).1 hg)
  refine Ext.mk rfl (Ext.mk rfl (Br.yes ?_))
  exact aB.mk .tail ⟨x,K,S,made,es,ck,C,true,JP,JQ,rfl,rfl,hS,⟨m,hE,hkn⟩,.refl,fun h=>⟨h,g1,g2⟩⟩
 |none=>
 refine aV.HA (k:=r) iy hE u7 hg ?_
 refine Ext.mk rfl (Ext.mk rfl (Br.no ?_))
 rw[dD hd h2]
 intro J hJ
 have fin:∀(x3:Nat) K3 S3 ia wF A2 C3 AT Ua Uc,vw kp K0 S0 U ord aj K3 S3 ia wF A2 C3 AT→US K0 (fun r=>QF t v (S0 r)) S3 ia AT Ua Uc→A7 K S made K3 S3 ia→(AT=true→S3 x3=QF t v (S0 r)∧(live K0.N x3∨x3∈ia))→
   J [u32 x3] ((b6,.cells (aZ d).toArray 161 (0,0))::Zs b1 b3 fZ oO qW bd (lv aj v) fv LB bq kp bm AT Ua Uc wF A2 C3):=by
  intro x3 K3 S3 ia wF A2 C3 AT Ua Uc TP hD3 uJ u6
  refine hJ _ _ fun gs=>?_
  refine Ld.mk (v:=.map (some bd)) (by exact .tail _ (.tail _ (.head _))) rfl ?_
  obtain⟨m3,Rv,Tr⟩:=hD3
  refine aV.cg (k:=r) (x:=x3) iy FR Rv rfl fun es' cO he=>⟨_,.tail (.tail (.tail (.head _))),?_⟩
  refine aB.mk .tail ⟨x3,K3,S3,ia,wF,A2,C3,AT,es',cO,rfl,rfl,TP,⟨_,he,fun h y hy=>(pD hy).elim (fun e1=>?_) (fun hy=>Tr h y hy)⟩,uJ,fun h=>⟨rfl,u6 h⟩⟩
  rw[e1];exact u6 h
 have hD0:US K0 (fun r=>QF t v (S0 r)) S made true JP JQ:=⟨m,hE,hkn⟩
 refine Ld.mk (v:=.int .i64 ((lv aj v:Nat):Int)) (by exact .tail _ (.tail _ (.tail _ (.tail _ (.head _))))) rfl ?_
 refine ae.gn (Br.dec (fun hl=>?_) (fun hl=>?_))
 ·-- at the variable
  have ev:d.v=v:=jI.inj _ _ pP hv (by omega)
  obtain⟨f,first,cap,rfl,Pw,WM⟩:=Zk
  refine Ld.mk (v:=.func (.func f) first cap) (by exact .tail _ (.tail _ (.tail _ (.tail _ (.tail _ (.head _)))))) rfl ?_
  refine aD.whole (r:=aZ d) (by exact .head _) rfl ?_
  refine cC.of rfl Pw ?_
  refine ag.fn (C:=LB++sC bq kp bm true es ck C) (.cons (.cons (.cons (.cons (.cons (.cons (.cons .here))))))) (WM r d hd ev K S made es ck C hS hU) ?_
  rintro w H ⟨x,K',S',made',es',cO,C',lG,rfl,rfl,JL,hA,ho⟩
  exact JE.mk (fin x K' S' made' es' cO C' lG JP JQ JL (hD0.more hS hA (fun _=>rfl)) hA ho)
 ·-- above it
  have abK:lv aj d.v<lv aj v:=by omega
  have hne:d.v≠v:=fun e=>by rw[e]at abK;omega
  obtain⟨g1,g2,g3⟩:=iC (S:=S0) jQ jI nO hr pP (by omega) false
  obtain⟨t1,t2,t3⟩:=iC (S:=S0) jQ jI nO hr pP (by omega) true
  obtain⟨q1,q2⟩:=sJ (N:=K0.N) hd
  rw[q1]at g1 g2 g3
  rw[q2]at t1 t2 t3
  have gZ:=jI.lt d.v pP
  have HW:=jH.of jI pP
  have qK:∀j,j<lv aj d.v→¬dr (QF t v (S0 r)) (ord.getD j 0):=fun j hj=>Nv (LI jQ jI nO jH hr (Nat.le_of_lt gZ) (by omega) j hj)
  have eF:QF t v (S0 d.lo)=fun x=>QF t v (S0 r) (aG.aI x d.v false):=by rw[←Nw hne];congr 1;exact funext g1
  have eT:QF t v (S0 d.hi)=fun x=>QF t v (S0 r) (aG.aI x d.v true):=by rw[←Nw hne];congr 1;exact funext t1
  obtain⟨i1,KM⟩:=iH (n:=K0.n) (ord:=ord) (c:=QF t v (S0 d.lo)) qK (b:=false) (by rw[HW];exact eF)
  obtain⟨i2,KL⟩:=iH (n:=K0.n) (ord:=ord) (c:=QF t v (S0 d.hi)) qK (b:=true) (by rw[HW];exact eT)
  refine Ld.mk (v:=tR b1 fZ oO b3 qW) (by exact .tail _ (.head _)) rfl ?_
  refine aa.mk (Ld.mk (v:=u32 d.lo) (by exact .head _) rfl ?_)
  refine cC.of rfl gJ ?_
  refine ag.fn (args:=#[u32 d.lo,ptr b1,ptr fZ,ptr oO,ptr b3,ptr qW]) (.cons .here) (ih _ (by omega) d.lo rfl K S made es ck C true JP JQ g2 hS hD0 (fun g hg=>hU g (KM g hg))) ?_
  rintro w H ⟨x1,K1,S1,vZ,MM,Gf,C1,ok1,adj,adl,rfl,rfl,A0,hD1,Ik,zK⟩
  refine DR.of (R:=[(b6,.cells (aZ d).toArray 161 (0,0)),(qW,.cells #[tR b1 fZ oO b3 qW] 352 (0,0)),(b1,.cells #[ptr bq] 344 (0,0))]) (.cons (.cons (.skip (.skip (.skip (.skip (aU.left (A:=[_])))))))) ?_
  refine Ld.mk (v:=ptr bq) (by exact .tail _ (.tail _ (.head _))) rfl ?_
  refine aa.mk (Ld.mk (v:=.int .i64 (d.v:Int)) (by exact .head _) rfl ?_)
  refine Ld.mk (v:=tR b1 fZ oO b3 qW) (by exact .tail _ (.head _)) rfl ?_
  refine aa.mk (Ld.mk (v:=u32 d.hi) (by exact .head _) rfl ?_)
  refine cC.of rfl gJ ?_
  refine ag.fn (args:=#[u32 d.hi,ptr b1,ptr fZ,ptr oO,ptr b3,ptr qW]) (.cons .here) (ih _ (by omega) d.hi rfl K1 S1 vZ MM Gf C1 ok1 adj adl t2 A0 hD1 (fun g hg=>hU g (KL g hg))) ?_
  rintro w H ⟨x2,K2,S2,fR,P9,Ue,C2,YX,X0,X2,rfl,rfl,kj,hD2,kH,o7⟩
  refine⟨.cons (.cons (.skip (.skip (.skip (.skip (aU.left (A:=[_]))))))),?_⟩
  have xW:=Ik.trans kH
  cases YX with
  |false=>
   refine ag.rd (args:=#[ptr bq,.int .i64 (d.v:Int),u32 x1,u32 x2]) (.cons (.cons (.cons (.cons (.cons (.cons (.cons (.app .here)))))))) (vO (kp:=kp) (bm:=bm) _ _ _ _) ?_
   rintro w rfl
   refine⟨.cons (.cons (.skip (.skip (.skip (.skip (aU.left (A:=[_]))))))),?_⟩
   exact JE.mk (fin 0 K2 S2 fR P9 Ue C2 false X0 X2 kj hD2 xW (fun h=>by cases h))
  |true=>
   obtain⟨Su,e2,m2⟩:=o7 rfl
   obtain⟨_,e1,m1⟩:=zK Su
   have SL:=A0.tj m1
   have l1:live K2.N x1:=cR kH.N SL
   have l2:=kj.tj m2
   have Qb:S2 x1=QF t v (S0 d.lo):=(kH.fn x1 SL).trans e1
   have dL:=kj.ks
   have n2:=kj.c7.n
   have b1':=dL.ok.below dL.od (l:=lv aj d.v+1) l1 (by omega) (by rw[Qb];exact i1)
   have b2':=dL.ok.below dL.od (l:=lv aj d.v+1) l2 (by omega) (by rw[e2];exact i2)
   have r7:ite S2 ⟨d.v,x1,x2⟩=QF t v (S0 r):=by
    funext x
    unfold aF.ite
    rw[Qb,e2,eF,eT]
    conv=>rhs;rw[←aG.jY x d.v]
    simp only
    cases x.testBit d.v<;>rfl
   have kg:x1≠x2→U (ite S2 ⟨d.v,x1,x2⟩):=fun hx=>by
    have wv:dr (QF t v (S0 r)) (ord.getD (lv aj d.v) 0):=by
     rw[HW]
     refine Classical.byContradiction fun hno=>hx ?_
     refine dL.ok.wf.same dL.ok.lv dL.ok.mid.int l1 l2 fun x=>?_
     rw[Qb,e2,eF,eT]
     exact(cj hno x false).trans (cj hno x true).symm
    rw[r7]
    exact hU _ (mY qK gZ wv)
   refine ag.fn (args:=#[ptr bq,.int .i64 (d.v:Int),u32 x1,u32 x2]) (.cons (.cons (.cons (.cons (.cons (.cons (.cons (.app .here)))))))) (zf kj (by rw[n2];exact pP) l1 l2 ⟨by omega,by omega⟩ (by rw[r7];exact hU) kg hf) ?_
   rintro w H ⟨r3,K3,S3,ia,wF,A2,C3,AT,rfl,rfl,TP,uJ,u6⟩
   refine⟨.cons (.cons (.skip (.skip (.skip (.skip (aU.left (A:=[_]))))))),?_⟩
   exact JE.mk (fin r3 K3 S3 ia wF A2 C3 AT X0 X2 TP (hD2.more kj uJ (fun _=>rfl)) (xW.trans uJ) (fun h=>⟨by rw[(u6 h).1,r7],(u6 h).2.imp .inl id⟩))
end
def SD(es:Array MapEntry)(l:List Nat):List Value→Hp→Nat:=fun _ H=>match H with
 |(_,.mapIter _ _ seen _)::_=>(cJ es (yD l) seen).length
 |_=>0
structure Let(K K':Kd)(l:List Nat):Prop where
 n:K'.n=K.n
 cap:K'.cap=K.cap
 N:∀s d,K'.N s=some d→K.N s=some d
 hold:∀s,K'.hold s+l.count s=K.hold s
section
variable {kp bq bm:Nat} {K0:Kd} {S0:Nat→aF.Fn} {U:aF.Fn→Prop} {ord aj:List Nat}
theorem FC{g:Gh}{K:Kd}{S:Nat→aF.Fn}{l:List Nat}{es:Array MapEntry}{ck b9 b1:Nat}{ok:Bool}{C LB:Hp}(hK:cW kp K S ord aj [] C)(hE:aV (kN .u32) ZH es ck (yD l))(hc:∀s,l.count s≤K.hold s)(h2:∀s∈l,2≤s)(PT:∀s∈l,s<4294967296){Kc:Hp→Prop}
 (hk:∀K' C' bi it,cW kp K' S ord aj [] C'→Let K K' l→Kc ((bi,it)::(b9,.cells #[ptr bq] 344 (0,0))::(b1,.cells #[ptr kp] 26 (0,0))::(LB++sC bq kp bm ok es ck C'))):
  jj Tryz.prog g 277 #[ptr b9,ptr b1] ((b9,.cells #[ptr bq] 344 (0,0))::(b1,.cells #[ptr kp] 26 (0,0))::(LB++sC bq kp bm ok es ck C)) Kc:=by
 refine AE (R:=_) ?_
 unfold L277
 refine Ld.mk (v:=ptr bq) (by exact .head _) rfl ?_
 refine Nil.ptr (aa.mk (Ld.mk (v:=.map (some bm)) (by exact .tail _ (.tail _ (List.mem_append_right _ (.head _)))) rfl ?_))
 refine .inr ⟨bm,es,ck,rfl,.tail _ (.tail _ (List.mem_append_right _ (.tail _ (.head _)))),fun bi _=>?_⟩
 refine⟨fun _ H=>∃(done:List Nat) (K':Kd) (C':Hp) (seen:Array Nat),H=(bi,.mapIter (some bm) ck seen ck)::(b9,.cells #[ptr bq] 344 (0,0))::(b1,.cells #[ptr kp] 26 (0,0))::(LB++sC bq kp bm ok es ck C')∧
   cW kp K' S ord aj [] C'∧Let K K' done∧(done++(cJ es (yD l) seen).map Prod.fst).Perm l,SD es l,JE.mk ⟨[],K,C,#[],rfl,hK,⟨rfl,rfl,fun _ _ h=>h,fun s=>by simp⟩,by rw[og hE,pE];exact .refl _⟩,?_⟩
 rintro H ⟨done,K',C',seen,rfl,iJ,hl,hp⟩ gs
 refine aV.next (bi:=bi) (bm:=bm) (seen:=seen) hE (.tail _ (.tail _ (.tail _ (List.mem_append_right _ (.tail _ (.head _)))))) (.head _) (fun e x seen' he hkey hv Rb Zd hfi=>⟨_,.head _,?_⟩) (fun hu=>?_)
 ·refine Ext.mk rfl (Br.yes ?_)
  refine⟨bi,bm,ck,seen',e.born,ck,es,e,rfl,.head _,Zd,.tail _ (.tail _ (.tail _ (List.mem_append_right _ (.tail _ (.head _))))),hfi,?_⟩
  refine Ext.mk rfl ?_
  refine Ld.mk (v:=ptr kp) (by exact .tail _ (.tail _ (.head _))) rfl ?_
  have hxl:x.1∈l:=by
   refine hp.mem_iff.1 (List.mem_append_right _ ?_)
   exact List.mem_map_of_mem (Rb.mem_iff.2 (.head _))
  have AY:done.count x.1+1≤l.count x.1:=by
   rw[←hp.count_eq,List.count_append,(Rb.map Prod.fst).count_eq,List.map_cons,List.count_cons_self];omega
  have hhx:K'.hold x.1≠0:=by
   have a:=hl.hold x.1
   have b:=hc x.1
   omega
  show ag Tryz.prog g 131 #[ptr kp,e.key] _ _ _
  rw[hkey]
  refine ag.fn (args:=#[ptr kp,u32 x.1]) (.cons (.cons (.cons (.app (.cons (.cons .here)))))) (pU iJ (r:=x.1) (PT _ hxl) (fun _=>hhx)) ?_
  rintro w C2 ⟨rfl,K2,dL,f2⟩
  refine aC.mk ⟨done++[x.1],K2,C2,seen',rfl,dL,⟨f2.n.trans hl.n,f2.cap.trans hl.cap,fun s d hd=>hl.N s d (f2.N s d hd),fun s=>?_⟩,?_⟩ ?_
  ·have a:=hl.hold s
   rw[f2.hold,List.count_append,List.count_singleton]
   by_cases e1:s=x.1
   ·subst e1
    have:=h2 _ hxl
    simp[this];omega
   ·have:(x.1==s)=false:=by simpa using fun e'=>e1 e'.symm
    simp[e1,this];exact a
  ·refine .trans ?_ hp
   rw[List.append_assoc]
   refine List.Perm.append_left _ ?_
   exact(Rb.map Prod.fst).symm
  ·show(cJ es (yD l) seen').length<(cJ es (yD l) seen).length
   rw[Rb.length_eq,List.length_cons];omega
 ·refine Ext.mk rfl (Br.no ?_)
  rw[hu,List.map_nil,List.append_nil]at hp
  refine⟨⟨_,rfl⟩,hk K' C' bi _ iJ ⟨hl.n,hl.cap,hl.N,fun s=>?_⟩⟩
  rw[←hp.count_eq];exact hl.hold s
end
section
variable {kp:Nat} {K:Kd} {S:Nat→aF.Fn} {ord aj tr:List Nat} {C:Hp}
theorem V2{α:Type}(a x y b:α)(L R:List α):(a::x::y::b::(L++R)).Perm (a::b::(L++x::y::R)):=by
 classical
 rw[List.perm_iff_count];intro z
 simp only[List.count_append,List.count_cons]
 omega
theorem HC{made:List Nat}{x:Nat}:oF (yD made) x=yD (made.filter fun r=>decide (¬r=x)):=by
 unfold oF yD
 induction made with
 |nil=>rfl
 |cons a l ih=>
  simp only[List.map_cons,List.filter_cons]
  by_cases h:a=x
  ·simp[h]at ih⊢;exact ih
  ·simp[h]at ih⊢;exact ih
def gE(kp:Nat)(K:Kd)(S:Nat→aF.Fn)(ord aj:List Nat)(LB:Hp)(f:aF.Fn)(w:Value)(H:Hp):Prop:=
 (∃x K' S' C',w=.tuple #[u32 x,.bool true,.int .i64 0]∧H=LB++C'∧cW kp K' S' ord aj [] C'∧qd K S K' S' f x)∨
 (w=.tuple #[u32 0,.bool false,.int .i64 9]∧(∃K' S' C',H=LB++C'∧cW kp K' S' ord aj [] C'∧Kept K S K' S')∧¬Fits (aR K.n ord (fun g=>K.held S g∨g=f)) K.cap)
theorem FB(hK:cW kp K S ord aj tr C){f:aF.Fn}{LB:Hp}{fb:Value}(hf:∀s,K.hold s+1<65535)
 (hb:∀K1 C1,cW kp K1 S ord aj [] C1→Qv K K1 1→∃ff first cap,fb=.func (.func ff) first cap∧bA Tryz.prog ff=true∧∀bq bm,vw kp K1 S (aR K.n ord (fun g=>K.held S g∨g=f)) ord aj K1 S [] #[] 0 C1 true→
   Fc Tryz.prog ff (first++ #[ptr bq]++cap) (LB++sC bq kp bm true #[] 0 C1) (Qs kp K1 S (aR K.n ord (fun g=>K.held S g∨g=f)) ord aj bq bm LB K1 S [] f)):
  Fc Tryz.prog 268 #[ptr kp,fb] (LB++C) (gE kp K S ord aj LB f):=by
 intro g
 refine Di (R:=aB _) ?_
 unfold L268
 intro b1 _
 refine Ld.mk (v:=ptr kp) (by exact .head _) rfl ?_
 intro bm _
 refine Build.mk (cs:=[ptr kp,.map (some bm),.int .i64 0]) (by kernel_rfl) ?_
 intro bq _ b9 _
 refine St.one (by exact .head _) rfl (by simp) rfl ?_
 refine Ld.mk (v:=ptr kp) (by exact .tail _ (.tail _ (.tail _ (.head _)))) rfl ?_
 refine ag.fn (args:=#[ptr kp,u32 1]) (.cons (.cons (.cons (.cons (.app .here))))) (pK hK (r:=1) (.inl (by omega)) (fun h=>by omega)) ?_
 rintro w C1 ⟨rfl,K1,fx,mo⟩
 have fH:∀s,K1.hold s=K.hold s:=fun s=>by rw[mo.hold,if_neg (by omega)]
 have W9:∀g,K1.held S g→K.held S g:=by
  rintro g ⟨s,hs,rfl⟩
  exact⟨s,by have:K1.hold s≠0:=hs;rwa [fH]at this,rfl⟩
 obtain⟨ff,first,cap,rfl,Pw,hbody⟩:=hb K1 C1 fx mo
 refine Ld.mk (v:=ptr bq) (by exact .head _) rfl ?_
 refine cC.of rfl Pw ?_
 refine ag.pre (H':=(b9,.cells #[ptr bq] 344 (0,0))::(b1,.cells #[ptr kp] 26 (0,0))::(LB++sC bq kp bm true #[] 0 C1)) (.perm (V2 _ _ _ _ _ _)) ?_
 have N6:vw kp K1 S (aR K.n ord (fun g=>K.held S g∨g=f)) ord aj K1 S [] #[] 0 C1 true:=⟨fx,.refl fun g hg=>by rw[mo.n]at hg;exact bY (fun g h=>.inl (W9 g h)) hg,aV.empty,fun h=>by cases h⟩
 refine ag.fn (C:=LB++sC bq kp bm true #[] 0 C1) (.cons (.cons .here)) (hbody bq bm N6) ?_
 rintro w H ⟨x,K2,S2,made,es,ck,C2,ok,rfl,rfl,kj,hA,ho⟩
 have dL:=kj.ks
 have nV:=kj.c7
 have ig:=kj.nd
 have Ie:∀s,made.count s≤K2.hold s:=fun s=>by rw[nV.hold];omega
 have PT:∀s∈made,s<4294967296:=fun s hs=>by have:=dL.cu (nV.gy dL hs);omega
 have FY:∀s,K.hold s≠0→live K.N s:=fun s hs=>.inr (hK.ok.mid.held s hs)
 have acC:∀s d,K.N s=some d→K2.N s=some d:=fun s d hd=>nV.N s d (by rw[mo.N];exact hd)
 have hfn:∀s,live K.N s→S2 s=S s:=fun s hs=>nV.fn s (by rw[mo.N];exact hs)
 refine Ld.mk (v:=ptr bq) (by exact .head _) rfl ?_
 refine Nil.ptr (aa.mk (Ld.mk (v:=.int .i64 (if ok then 0 else 9)) (by exact .tail _ (.tail _ (List.mem_append_right _ (.head _)))) rfl ?_))
 cases ok with
 |false=>
  refine ae.dh (Br.eU (by decide) ?_)
  refine Ld.mk (v:=ptr bq) (by exact .head _) rfl ?_
  refine Nil.ptr (aa.mk (Ld.mk (v:=.int .i64 9) (by exact .tail _ (.tail _ (List.mem_append_right _ (.head _)))) rfl ?_))
  refine FC dL kj.jK Ie nV.two PT fun K3 C3 bi it nN hl=>?_
  have ki:∀s,K3.hold s=K.hold s:=fun s=>by
   have a:=hl.hold s
   have b:=nV.hold s
   rw[fH]at b
   omega
  refine aB.mk (.skip (.skip (.skip (.c8 (.skip .tail) _)))) (.inr ⟨rfl,⟨K3,S2,C3,rfl,nN,⟨by rw[hl.n,nV.n,mo.n],by rw[hl.cap,nV.cap,mo.cap],ki,fun g=>?_,fun r hr=>hfn r (FY r hr)⟩⟩,?_⟩)
  ·constructor
   ·rintro⟨s,hs,rfl⟩
    have hs':K.hold s≠0:=by rw[←ki];exact hs
    exact⟨s,hs',hfn s (FY s hs')⟩
   ·rintro⟨s,hs,rfl⟩
    exact⟨s,by show K3.hold s≠0;rw[ki];exact hs,(hfn s (FY s hs)).symm⟩
  ·have:=kj.bad rfl
   rw[mo.cap]at this;exact this
 |true=>
  obtain⟨hx,Wk⟩:=ho rfl
  refine ae.dh (Br.bt (by decide) ?_)
  refine Ld.mk (v:=ptr bq) (by exact .head _) rfl ?_
  refine Nil.ptr (aa.mk (Ld.mk (v:=.map (some bm)) (by exact .tail _ (.tail _ (List.mem_append_right _ (.head _)))) rfl ?_))
  have fin:∀(K3:Kd) (l:List Nat) (wF:Array MapEntry) (C3:Hp),cW kp K3 S2 ord aj [] C3→(∀s d,K3.N s=some d→K2.N s=some d)→K3.n=K2.n→K3.cap=K2.cap→aV (kN .u32) ZH wF ck (yD l)→(∀s∈l,s∈made)→(∀s,K3.hold s=K.hold s+l.count s+if s=x∧2≤x then 1 else 0)→
    jj Tryz.prog g 277 #[ptr b9,ptr b1] ((b9,.cells #[ptr bq] 344 (0,0))::(b1,.cells #[ptr kp] 26 (0,0))::(LB++sC bq kp bm true wF ck C3)) fun H=>aB (gE kp K S ord aj LB f) (.returned (.tuple #[u32 x,.bool true,.int .i64 0])) H:=by
   intro K3 l wF C3 nN XC hn3 Xe Rv Vb NY
   refine FC nN Rv (fun s=>by rw[NY];omega) (fun s hs=>nV.two s (Vb s hs)) (fun s hs=>PT s (Vb s hs)) fun K4 C4 bi it Mu hl=>?_
   have pM:∀s,K4.hold s=K.hold s+if s=x∧2≤x then 1 else 0:=fun s=>by
    have a:=hl.hold s
    rw[NY]at a
    omega
   have NV:live K4.N x:=by
    by_cases h2:x<2
    ·exact .inl h2
    ·refine .inr (Mu.ok.mid.held x ?_)
     rw[pM,if_pos ⟨rfl,by omega⟩];omega
   refine aB.mk (.skip (.skip (.skip (.c8 (.skip .tail) _)))) (.inl ⟨x,K4,S2,C4,rfl,rfl,Mu,⟨by rw[hl.n,hn3,nV.n,mo.n],by rw[hl.cap,Xe,nV.cap,mo.cap],fun s d hs=>iS hK.ok Mu.ok (fun s h=>by rw[pM];omega) (fun s d d' h h'=>?_) _ s d hs (Nat.le_refl _),hfn,NV,hx,pM⟩⟩)
   have a:=XC s d' (hl.N s d' h')
   rw[acC s d h]at a;exact(Option.some.inj a).symm
  by_cases hm:x∈made
  ·refine aV.hit (k:=x) (x:=()) iy kj.jK (.tail _ (.tail _ (List.mem_append_right _ (.tail _ (.head _))))) (nq.1 hm) ?_
   rintro v rfl
   refine ae.gtr (Br.eU (by decide) ?_)
   refine Ld.mk (v:=ptr bq) (by exact .head _) rfl ?_
   refine Nil.ptr (aa.mk (Ld.mk (v:=.map (some bm)) (by exact .tail _ (.tail _ (List.mem_append_right _ (.head _)))) rfl ?_))
   refine aV.del (k:=x) iy kj.jK (.tail _ (.tail _ (List.mem_append_right _ (.tail _ (.head _))))) fun es' he=>⟨_,.tail (.tail ((cM.tail (.head _)).bW LB)),?_⟩
   rw[HC]at he
   refine fin K2 _ es' C2 dL (fun _ _ h=>h) rfl rfl he (fun s hs=>(List.mem_filter.1 hs).1) fun s=>?_
   rw[nV.hold,fH]
   have h2x:=nV.two x hm
   by_cases e1:s=x
   ·subst e1
    have c1:made.count s=1:=by rw[ig.count,if_pos hm]
    have c2:(made.filter fun r=>decide (¬r=s)).count s=0:=List.count_eq_zero.2 (by simp)
    rw[c1,c2,if_pos ⟨rfl,h2x⟩]
   ·have:(made.filter fun r=>decide (¬r=x)).count s=made.count s:=List.count_filter (by simpa using e1)
    rw[this,if_neg (fun h=>e1 h.1)];rfl
  ·refine aV.HA (k:=x) iy kj.jK (.tail _ (.tail _ (List.mem_append_right _ (.tail _ (.head _))))) (nq.2 hm) ?_
   refine ae.gtr (Br.bt (by decide) ?_)
   refine Ld.mk (v:=ptr kp) (by exact .tail _ (.head _)) rfl ?_
   have NV:live K2.N x:=kj.tj Wk
   have AY:K2.hold x<65535:=by
    rw[nV.hold,fH,List.count_eq_zero.2 hm]
    have:=hf x;omega
   refine ag.fn (args:=#[ptr kp,u32 x]) (.cons (.cons (.app (.cons (.cons .here))))) (pK dL (r:=x) NV (fun _=>AY)) ?_
   rintro w C3 ⟨rfl,K3,nN,m3⟩
   refine ae.jR ?_
   rw[show decide ((0:Int)=0)=true from rfl]
   refine fin K3 made es C3 nN (fun s d h=>by rw[←m3.N];exact h) m3.n m3.cap kj.jK (fun _ h=>h) fun s=>?_
   rw[m3.hold,nV.hold,fH]
   split<;>omega
end
section
variable {kp bq bm:Nat} {K0:Kd} {S0:Nat→aF.Fn} {U:aF.Fn→Prop} {ord aj:List Nat}
theorem Gc{t:Bool→Bool→Bool}{v r:Nat}{fv:Value}{LB:Hp}(Zk:GC kp K0 S0 U ord aj bq bm t v fv LB)(ht:∀a,t a a=a)(hv:v<K0.n)(jQ:WF K0.n (lv aj) K0.N)(nO:Interp K0.N S0)(jI:kB K0.n (lv aj))(jH:aF.Ord K0.n (lv aj) ord)(hf:∀s,K0.hold s+1<65535)
 {K:Kd}{S:Nat→aF.Fn}{made:List Nat}{es:Array MapEntry}{ck:Nat}{C:Hp}(hr:live K0.N r)(hS:vw kp K0 S0 U ord aj K S made es ck C true)(hU:∀g,aR K0.n ord (fun g=>g=QF t v (S0 r)) g→U g):
  Fc Tryz.prog 270 #[ptr bq,u32 r,.int .i64 (v:Int),fv] (LB++sC bq kp bm true es ck C) (Qs kp K0 S0 U ord aj bq bm LB K S made (QF t v (S0 r))):=by
 have gJ:bA Tryz.prog 278=true:=by kernel_rfl
 have acD:=Zk
 obtain⟨f0,ada,ajo,Mc,_⟩:=acD
 have hn:=hS.c7.n
 intro g
 refine Dg (R:=aB _) ?_
 unfold L270
 intro b1 _ b3 _
 refine Ld.mk (v:=ptr bq) (by exact .tail _ (.head _)) rfl ?_
 refine Nil.ptr (aa.mk (Ld.mk (v:=ptr kp) (by exact .tail _ (.tail _ (List.mem_append_right _ (.head _)))) rfl ?_))
 refine ag.rd (.cons (.cons (.app (.cons (.cons .here))))) (nv hS.ks.rep (v:Int)) ?_
 rw[if_pos (by omega)]
 rintro w rfl
 refine Ext.mk rfl (Ext.mk rfl ?_)
 intro fZ _
 refine St.one (by exact .head _) rfl (by simp) rfl ?_
 intro bd _ oO _
 refine St.one (by exact .head _) rfl (by simp) rfl ?_
 intro qW _
 refine St.one (by exact .head _) rfl (by simp) rfl ?_
 refine Ld.mk (v:=tR b1 fZ oO b3 qW) (by exact .head _) rfl ?_
 refine cC.of rfl gJ ?_
 subst Mc
 refine ag.fn (args:=#[u32 r,ptr b1,ptr fZ,ptr oO,ptr b3,ptr qW]) .here (MP (b1:=b1) (b3:=b3) (fZ:=fZ) (oO:=oO) (qW:=qW) (bd:=bd) gJ Zk ht hv jQ nO jI jH hf _ r rfl K S made es ck C true #[] 0 hr hS ⟨[],aV.empty,fun _ y hy=>by cases hy⟩ hU) ?_
 rintro w H ⟨x,K',S',made',es',cO,C',lG,Ub,Ud,rfl,rfl,JL,_,hA,ho⟩
 exact aB.mk (.skip (.skip (.skip (.skip (.skip .tail))))) ⟨x,K',S',made',es',cO,C',lG,rfl,rfl,JL,hA,fun h=>(ho h).2⟩
abbrev Nf(b5:Nat)(b:Bool):Nat×Obj:=(b5,.cells #[.bool b] 4 (0,0))
theorem Bs{v b5:Nat}{b:Bool}{LB:Hp}(jQ:WF K0.n (lv aj) K0.N)(nO:Interp K0.N S0)(jI:kB K0.n (lv aj))(hm:Nf b5 b∈LB):GC kp K0 S0 U ord aj bq bm (fun x y=>if b then y else x) v (.func (.func 271) #[] #[ptr b5]) LB:=by
 refine⟨_,_,_,rfl,by kernel_rfl,fun r d hd pP K S made es ck C hS hU=>?_⟩
 have hr:live K0.N r:=.inr ⟨d,hd⟩
 have Me:=jQ.var hd
 obtain⟨g1,g2,g3⟩:=iC (S:=S0) jQ jI nO hr Me (by rw[ax hd];exact Nat.le_refl _) false
 obtain⟨t1,t2,t3⟩:=iC (S:=S0) jQ jI nO hr Me (by rw[ax hd];exact Nat.le_refl _) true
 obtain⟨q1,q2⟩:=sJ (N:=K0.N) hd
 rw[q1]at g1 g2 g3
 rw[q2]at t1 t2 t3
 subst pP
 intro g
 refine Df (R:=aB _) ?_
 unfold L271
 intro b1 _
 refine Ld.mk (v:=.bool b) (by exact .tail _ (List.mem_append_left _ hm)) rfl ?_
 refine Br.mk (fun hb=>?_) (fun hb=>?_)
 ·subst hb
  refine aa.mk (Ld.mk (v:=u32 d.hi) (by exact .head _) rfl ?_)
  refine aB.mk .tail ⟨d.hi,K,S,made,es,ck,C,true,rfl,rfl,hS,.refl,fun _=>⟨?_,.inl t2⟩⟩
  rw[hS.c7.fn _ t2]
  exact funext t1
 ·subst hb
  refine aa.mk (Ld.mk (v:=u32 d.lo) (by exact .head _) rfl ?_)
  refine aB.mk .tail ⟨d.lo,K,S,made,es,ck,C,true,rfl,rfl,hS,.refl,fun _=>⟨?_,.inl g2⟩⟩
  rw[hS.c7.fn _ g2]
  exact funext g1
theorem Au{v b1 b5:Nat}{e:Bool}{LB:Hp}(jQ:WF K0.n (lv aj) K0.N)(nO:Interp K0.N S0)(jI:kB K0.n (lv aj))(jH:aF.Ord K0.n (lv aj) ord)(hf:∀s,K0.hold s+1<65535)(hm:Nf b5 e∈LB)(h1:(b1,Obj.cells #[ptr bq] 344 (0,0))∈LB):
  GC kp K0 S0 U ord aj bq bm (fun x y=>if e then x||y else x&&y) v (.func (.func 282) #[] #[ptr b1,ptr b5]) LB:=by
 refine⟨_,_,_,rfl,by kernel_rfl,fun r d hd pP K S made es ck C hS hU=>?_⟩
 have hr:live K0.N r:=.inr ⟨d,hd⟩
 have Me:=jQ.var hd
 obtain⟨g1,g2,g3⟩:=iC (S:=S0) jQ jI nO hr Me (by rw[ax hd];exact Nat.le_refl _) false
 obtain⟨t1,t2,t3⟩:=iC (S:=S0) jQ jI nO hr Me (by rw[ax hd];exact Nat.le_refl _) true
 obtain⟨q1,q2⟩:=sJ (N:=K0.N) hd
 rw[q1]at g1 g2 g3
 rw[q2]at t1 t2 t3
 subst pP
 have eq:QF (fun x y=>if e then x||y else x&&y) d.v (S0 r)=jf e S0 d.lo d.hi:=by
  funext x
  rw[qG,g1,t1];rfl
 rw[eq]at hU⊢
 intro g
 refine C7 (R:=aB _) ?_
 unfold L282
 intro b _
 refine Ld.mk (v:=ptr bq) (by exact .tail _ (List.mem_append_left _ h1)) rfl ?_
 refine aa.mk (Ld.mk (v:=u32 d.lo) (by exact .head _) rfl ?_)
 refine aa.mk (Ld.mk (v:=u32 d.hi) (by exact .head _) rfl ?_)
 refine Ld.mk (v:=.bool e) (by exact .tail _ (List.mem_append_left _ hm)) rfl ?_
 refine ag.fn (args:=#[ptr bq,u32 d.lo,u32 d.hi,.bool e]) (C:=sC bq kp bm true es ck C) (.cons (.app .here)) (Pb jQ nO jI jH hf g2 t2 hS hU) ?_
 rintro w H ⟨x,K',S',made',es',cO,C',lG,rfl,rfl,JL,hA,ho⟩
 exact aB.mk .tail ⟨x,K',S',made',es',cO,C',lG,rfl,rfl,JL,hA,ho⟩
end
section
variable {kp:Nat} {K:Kd} {S:Nat→aF.Fn} {ord aj tr:List Nat} {C:Hp}
abbrev YW(b5 b3 b1:Nat)(b:Bool)(v r:Nat):Hp:=[Nf b5 b,(b3,.cells #[.int .i64 (v:Int)] 3 (0,0)),(b1,.cells #[u32 r] 77 (0,0))]
theorem gE.three{LB:Hp}{f:aF.Fn}{w:Value}{H:Hp}(h:gE kp K S ord aj LB f w H):∃x b e,w=.tuple #[x,b,e]:=by
 rcases h with⟨x,K',S',C',rfl,_⟩|⟨rfl,_⟩
 ·exact⟨_,_,_,rfl⟩
 ·exact⟨_,_,_,rfl⟩
theorem gE.drop{LB:Hp}{f:aF.Fn}{w:Value}{H:Hp}(h:gE kp K S ord aj LB f w H):∃C',aU H C'∧gE kp K S ord aj [] f w C':=by
 rcases h with⟨x,K',S',C',rfl,rfl,iJ,hg⟩|⟨rfl,⟨K',S',C',rfl,iJ,hk⟩,hn⟩
 ·exact⟨C',.right,.inl ⟨x,K',S',C',rfl,rfl,iJ,hg⟩⟩
 ·exact⟨C',.right,.inr ⟨rfl,⟨K',S',C',rfl,iJ,hk⟩,hn⟩⟩
theorem aB.drop{LB:Hp}{f:aF.Fn}{w:Value}{H:Hp}(h:gE kp K S ord aj LB f w H):aB (gE kp K S ord aj [] f) (.returned w) H:=by
 obtain⟨C',h1,h2⟩:=h.drop
 exact aB.mk h1 h2
theorem l8(hK:cW kp K S ord aj tr C){r v:Nat}{b:Bool}(hr:live K.N r)(hv:v<K.n)(hf:∀s,K.hold s+1<65535):
  Fc Tryz.prog 248 #[ptr kp,u32 r,.int .i64 (v:Int),.bool b] C (gE kp K S ord aj [] (fun x=>S r (aG.aI x v b))):=by
 have eq:QF (fun x y=>if b then y else x) v (S r)=fun x=>S r (aG.aI x v b):=by
  funext x;unfold QF;cases b<;>rfl
 rw[←eq]
 intro g
 refine Dx (R:=aB _) ?_
 unfold L248
 intro b1 _ b3 _ b5 _
 refine ag.fn (args:=#[ptr kp,.func (.func 269) #[] #[ptr b1,ptr b3,ptr b5]]) (C:=YW b5 b3 b1 b v r++C) .here (FB (f:=QF (fun x y=>if b then y else x) v (S r)) hK hf fun K1 C1 fx mo=>⟨_,_,_,rfl,by kernel_rfl,fun bq bm hQ=>?_⟩) ?_
 ·intro g
  refine Dh (R:=aB _) ?_
  unfold L269
  refine Ld.mk (v:=u32 r) (by exact .tail _ (.tail _ (.head _))) rfl ?_
  refine Ld.mk (v:=.int .i64 (v:Int)) (by exact .tail _ (.head _)) rfl ?_
  have FX:live K1.N r:=by rw[mo.N];exact hr
  have fH:∀s,K1.hold s=K.hold s:=fun s=>by rw[mo.hold,if_neg (by omega)]
  refine ag.fn (args:=#[ptr bq,u32 r,.int .i64 (v:Int),.func (.func 271) #[] #[ptr b5]]) (C:=YW b5 b3 b1 b v r++sC bq kp bm true #[] 0 C1) .here
   (Gc (Bs fx.ok.wf fx.ok.mid.int fx.ok.lv (b:=b) (.head _)) (fun a=>by cases b<;>rfl) (by rw[mo.n];exact hv) fx.ok.wf fx.ok.mid.int fx.ok.lv fx.od (fun s=>by rw[fH];exact hf s) FX hQ (fun g hg=>by rw[mo.n]at hg;exact bY (fun g h=>.inr h) hg)) ?_
  intro w H hO
  exact aB.here hO
 ·intro w H hO
  obtain⟨x,bb,e,rfl⟩:=hO.three
  exact Ext.mk rfl (Ext.mk rfl (Ext.mk rfl (aB.drop hO)))
def qf(e:Bool)(v:Nat)(f:aF.Fn):aF.Fn:=QF (fun x y=>if e then x||y else x&&y) v f
theorem ze(hK:cW kp K S ord aj tr C){r v:Nat}{e:Bool}(hr:live K.N r)(hv:v<K.n)(hf:∀s,K.hold s+1<65535):
  Fc Tryz.prog 272 #[ptr kp,u32 r,.int .i64 (v:Int),.bool e] C (gE kp K S ord aj [] (qf e v (S r))):=by
 intro g
 refine De (R:=aB _) ?_
 unfold L272
 intro b1 _ b3 _ b5 _
 refine ag.fn (args:=#[ptr kp,.func (.func 281) #[] #[ptr b1,ptr b3,ptr b5]]) (C:=YW b5 b3 b1 e v r++C) .here (FB (f:=qf e v (S r)) hK hf fun K1 C1 fx mo=>⟨_,_,_,rfl,by kernel_rfl,fun bq bm hQ=>?_⟩) ?_
 ·intro g
  refine C9 (R:=aB _) ?_
  unfold L281
  intro b2 _
  refine Ld.mk (v:=ptr bq) (by exact .head _) rfl ?_
  refine Ld.mk (v:=u32 r) (by exact .tail _ (.tail _ (.tail _ (.head _)))) rfl ?_
  refine Ld.mk (v:=.int .i64 (v:Int)) (by exact .tail _ (.tail _ (.head _))) rfl ?_
  have FX:live K1.N r:=by rw[mo.N];exact hr
  have fH:∀s,K1.hold s=K.hold s:=fun s=>by rw[mo.hold,if_neg (by omega)]
  have JK:∀s,K1.hold s+1<65535:=fun s=>by rw[fH];exact hf s
  refine ag.fn (args:=#[ptr bq,u32 r,.int .i64 (v:Int),.func (.func 282) #[] #[ptr b2,ptr b5]]) (C:=((b2,Obj.cells #[ptr bq] 344 (0,0))::YW b5 b3 b1 e v r)++sC bq kp bm true #[] 0 C1) .here
   (Gc (Au fx.ok.wf fx.ok.mid.int fx.ok.lv fx.od JK (e:=e) (.tail _ (.head _)) (.head _)) (fun a=>by cases e<;>cases a<;>rfl) (by rw[mo.n];exact hv) fx.ok.wf fx.ok.mid.int fx.ok.lv fx.od JK FX hQ (fun g hg=>by rw[mo.n]at hg;exact bY (fun g h=>.inr h) hg)) ?_
  rintro w H ⟨x,K',S',made',es',cO,C',lG,rfl,rfl,JL,hA,ho⟩
  exact aB.mk .tail ⟨x,K',S',made',es',cO,C',lG,rfl,rfl,JL,hA,ho⟩
 ·intro w H hO
  obtain⟨x,bb,e,rfl⟩:=hO.three
  exact Ext.mk rfl (Ext.mk rfl (Ext.mk rfl (aB.drop hO)))
end
end Go.Proofs
namespace Go.Sx
open Go
section
variable {P:Program} {g:Gh} {H:Hp}
def FcD(P:Program)(f:FuncId)(args:Array Value)(C:Hp)(Q:Value→Hp→Prop):Prop:=∀g,iD P g f args C (aB Q)
theorem jj.fn{f:FuncId}{args:Array Value}{C H:Hp}{c:Hp→Hp}{Q:Value→Hp→Prop}{K:Hp→Prop}(hh:cc C H c)(hc:FcD P f args C Q)(hk:∀v C',Q v C'→K (c C')):jj P g f args H K:=by
 intro w hw u
 obtain⟨rfl,F,hp⟩:=hh.spec
 have dx:Own g (C++F) w:=aU.perm (hp C) g w hw
 refine((hc (g.add F)) w (Own.eZ.1 dx) u).mono ?_
 rintro e u' w' ⟨rfl,H',ho,v,C',rfl,he,hq⟩
 have h1:Own g (H'++F) w':=Own.eZ.2 ho
 have h2:Own g (c H') w':=aU.perm (hp H').symm g w' h1
 exact⟨rfl,c C',hh.jK he g w' h2,⟨v,rfl⟩,hk _ _ hq⟩
end
end Go.Sx
set_option maxRecDepth 100000
namespace Go.Proofs
open Go Go.Sx
open aF
section
variable {kp:Nat} {K:Kd} {ord aj tr:List Nat} {C:Hp} {S:Nat→aF.Fn}
theorem Iv(h:cW kp K S ord aj tr C){r:Nat}(hr:r<4294967296)(hh:2≤r→K.hold r≠0):∀g,L131 g (ptr kp) (u32 r) C (aB fun v C'=>v=.int .i64 0∧∃K',cW kp K' S ord aj [] C'∧wW K K' r):=by
 have h0:=h
 obtain⟨b,hC,hO⟩:=h.rep
 intro g
 unfold L131
 refine ae.aH (Br.no ?_)
 intro J2 wy
 have fin:∀(K':Kd) C1,cD kp K' ord aj tr C1→Ok K' S (lv aj)→Idle K'→wW K K' r→J2 [] C1:=fun K' C1 iJ xS tB hm=>by
  refine wy _ fun gs=>?_
  obtain⟨b',rfl,vi⟩:=iJ
  refine Nil.ptr (aa.mk (St.one (by exact .head _) rfl (by simp[si.cells]) rfl ?_))
  have jH:Ord K'.n (lv aj) ord:=by rw[hm.n];exact h.od
  refine aB.mk (lS:=({b' with vt:=.slice none 0 0,CR:=[]}:si).hp kp K'.n) ?_ ⟨rfl,K',⟨⟨{b' with vt:=.slice none 0 0,CR:=[]},rfl,{vi with tr:=aP.nil}⟩,xS,jH,tB,trivial⟩,hm⟩
  refine .cons (.c8 (.c8 (.c8 (.c8 (.c8 (.c8 .nil _) _) _) _) _) _)
 refine ae.lP (b:=1) (Br.dec (fun h2=>?_) (fun h2=>?_))
 rotate_left
 ·exact JE.mk (fin K C h.rep h.ok h.idle ⟨rfl,rfl,fun _ _ h=>h,fun s=>by rw[if_neg (by omega)]⟩)
 have mB:2≤r:=by omega
 have o8:=hh mB
 obtain⟨d,hd⟩:=h.ok.mid.held r o8
 have W0:=h.ok.mid.fit hd
 have HU:=hO.ul
 have hfit:r<K.ho.length:=by omega
 have hle:=h.nx r
 refine ag.rd .here (tq h.rep hr (fun s=>by have:=h.nx s;omega)) ?_
 rintro w rfl
 refine ae.jR (Br.bt (by omega) ?_)
 subst hC
 refine Nil.ptr (aa.mk (aa.mk (Ld.mk (v:=b.vh) (by exact .head _) rfl ?_)))
 refine hO.ho.ld (x:=((K.hold r:Nat):Int)) (bg hfit) (cc.sub (.cons (.app (.app (.app .left))))) ?_
 refine ae.bF (b:=1) (by simp[aE];omega) (by omega) ?_
 refine hO.ho.jh (x:=((K.hold r-1:Nat):Int)) (.cons (.app (.app (.app .left)))) (by rw[an];exact hfit) fun NH Tx=>?_
 rw[dY]at Tx
 have g1:∀s,(K.ho.set r (K.hold r-1)).getD s 0=if s=r then K.hold r-1 else K.hold s:=fun s=>fS hfit
 have hM:=h.ok.mid.drop (r:=r) (cz:=K.ho.set r (K.hold r-1)) (by omega) (by simp) (by rw[g1,if_pos rfl];omega) (fun s hs=>by rw[g1,if_neg hs])
 have fx:cD kp {K with ho:=K.ho.set r (K.hold r-1)} ord aj tr (({b with CH:=NH}:si).hp kp K.n):=⟨_,rfl,{hO with ho:=Tx,ul:=by simp;exact HU}⟩
 have WV:∀s,(K.ho.set r (K.hold r-1)).getD s 0=if s=r∧2≤r then K.hold s-1 else K.hold s:=fun s=>by
  rw[g1]
  by_cases e:s=r
  ·subst e;rw[if_pos rfl,if_pos ⟨rfl,mB⟩]
  ·rw[if_neg e,if_neg (fun h=>e h.1)]
 refine Nil.ptr (aa.mk (aa.mk (Ld.mk (v:=b.vh) (by exact .head _) rfl ?_)))
 refine Tx.ld (x:=((K.hold r-1:Nat):Int)) (by rw[bg (by simpa using hfit),g1,if_pos rfl]) (cc.sub (.cons (.app (.app (.app .left))))) ?_
 refine ae.gn (b:=0) (Br.dec (fun h3=>?_) (fun h3=>?_))
 rotate_left
 ·rw[if_neg (by omega)]at hM
  exact JE.mk (fin {K with ho:=K.ho.set r (K.hold r-1)} _ fx ⟨hM,h.ok.pos,h.ok.lv,h.ok.wf⟩ h.idle ⟨rfl,rfl,fun _ _ h=>h,WV⟩)
 rw[if_pos (by omega)]at hM
 refine Nil.ptr (aa.mk ?_)
 have F3:iK {K with ho:=K.ho.set r (K.hold r-1)} S gP (fU zero' [r]):=hM.congr (fun _=>Iff.rfl) fun s _=>by
  unfold up fU zero'
  by_cases e:s=r
  ·subst e;simp
  ·simp[e,Ne.symm e]
 refine ag.fn .here (kQ (P0:=zero') fx F3 h.ok.pos (fun t Mw h0=>?_) (h.cu (.inr ⟨d,hd⟩)) (fun s=>by have:=h.Bl s;show K.use s<_;omega)) ?_
 ·by_cases e:t=r
  ·subst e;exact⟨d,hd⟩
  ·have Ry:0<zero' t+[r].count t:=h0
   simp[zero',Ne.symm e]at Ry
 rintro w C2 ⟨rfl,K2,dL,PK,Rc,_,dB⟩
 refine JE.mk (fin K2 _ dL ⟨PK,Rc,by rw[dB.n];exact h.ok.lv,FO h.ok.wf PK (fun h=>dB.N h) dB.n⟩ (dB.idle h.idle) ⟨dB.n,dB.cap,fun s e hs=>dB.N hs,fun s=>?_⟩)
 show K2.ho.getD s 0=_
 rw[dB.ho]
 exact WV s
theorem mF(h:cW kp K S ord aj tr C){r:Nat}(hr:r<4294967296)(hh:2≤r→K.hold r≠0):FcD Tryz.prog 131 #[ptr kp,u32 r] C (fun v C'=>v=.int .i64 0∧∃K',cW kp K' S ord aj [] C'∧wW K K' r):=
 fun g=>AH (Iv h hr hh g)
end
end Go.Proofs
set_option maxRecDepth 100000
namespace Go.Proofs
open Go Go.Sx
open aF
section
variable {kp:Nat} {K:Kd} {S:Nat→aF.Fn} {ord aj tr:List Nat} {C:Hp}
theorem su(B:Hp)(x:Nat):Rd Tryz.prog 247 #[u32 x,.bool true,.int .i64 0] B (· =.tuple #[u32 x,.int .i64 0]):=by
 intro g
 refine ur (R:=aB _) ?_
 unfold L247
 exact ae.dh (Br.bt (by decide) (Un.not (Br.no (cw.mk (.refl _) rfl))))
theorem sA(B:Hp)(x:Value)(b:Value):Rd Tryz.prog 247 #[x,b,.int .i64 9] B (· =.tuple #[u32 0,.int .i64 9]):=by
 intro g
 refine ur (R:=aB _) ?_
 unfold L247
 exact ae.dh (Br.eU (by decide) (cw.mk (.refl _) rfl))
theorem vJ(hK:cW kp K S ord aj tr C){v:Nat}(hv:v<K.n):Rd Tryz.prog 245 #[ptr kp,.int .i64 (v:Int)] C (· =.tuple #[.int .u64 ((2^v:Nat):Int),.bool true]):=by
 have hn:=hK.bc.qA
 intro g
 refine Dz (R:=aB _) ?_
 unfold L245
 intro J hJ
 refine ae.lss ?_
 rw[decide_eq_false (by omega)]
 refine Split.go rfl ?_
 refine ae.xC ?_
 refine Split.go rfl ?_
 refine ag.rd .here (iQ hK.rep) ?_
 rintro w rfl
 refine ae.rG ?_
 rw[decide_eq_false (by omega)]
 refine az.mk (az.mk (JE.mk (hJ _ _ fun gs=>Br.no ?_)))
 have h2:2^v<18446744073709551616:=Nat.lt_of_lt_of_le (Nat.pow_lt_pow_right (by decide) (show v<64 by omega)) (by decide)
 refine ae.Bq (a:=1) (by simp[IntKind.bits];omega) (by rw[Nat.one_shiftLeft];simpa[aE]using h2) ?_
 rw[Nat.one_shiftLeft]
 exact cw.mk (.refl _) rfl
theorem qy(hK:cW kp K S ord aj tr C){Y:Hp}{mask:Nat}{vr:Value}{refs:List Nat}(hm:mask<2^K.n)(hr:cX .u32 Y vr (iw refs))(hl:∀r∈refs,live K.N r)(ca:refs.length≤1048576):Rd Tryz.prog 246 #[ptr kp,.int .u64 (mask:Int),vr] (Y++C) (· =.int .i64 0):=by
 have hn:=hK.bc.qA
 intro g
 refine Dy (R:=aB _) ?_
 unfold L246
 refine ae.aH (Br.no ?_)
 refine ag.rd (.app .here) (iQ hK.rep) ?_
 rintro w rfl
 have xX:mask<18446744073709551616:=Nat.lt_of_lt_of_le hm (Nat.pow_le_pow_right (n:=2) (by decide) hn)
 refine ae.qw (by simpa[aE]using xX) ?_
 rw[Nat.shiftRight_eq_div_pow,Nat.div_eq_of_lt hm]
 refine ae.dh (Br.bt (by decide) ?_)
 refine hr.bQ ?_
 rw[an]
 refine⟨fun vs H=>∃i:Nat,vs=[.int .i64 (i:Int)]∧i≤refs.length∧H=Y++C,fun vs _=>refs.length-bK vs 0,JE.mk ⟨0,rfl,Nat.zero_le _,rfl⟩,?_⟩
 rintro w7 H ⟨i,hv,hi,rfl⟩ gs
 simp only[List.cons.injEq,and_true]at hv
 subst hv
 refine ae.fu (Br.dec (fun hlt=>?_) (fun hlt=>?_))
 ·have hlr:=hl _ (List.getElem_mem hlt)
  refine hr.ld (n:=((refs[i]:Nat):Int)) (cm (List.getElem?_eq_getElem hlt)) (fun _ h=>List.mem_append_left _ h) ?_
  refine ag.rd (args:=#[ptr kp,u32 refs[i]]) (.app .here) (iT hK.rep (by have:=hK.cu hlr;omega)) ?_
  rintro w rfl
  rw[bT.2 hlr]
  refine Ext.mk rfl (Ext.mk rfl ?_)
  intro Uj _
  refine St.whole (r:=got K.N refs[i]) (by exact .head _) rfl (aL _ _).1 (aL _ _).2 ?_
  refine ae.dh (Br.bt (by simp) ?_)
  refine ae.aN (b:=1) (by simp[aE];omega) ?_
  exact aC.of .tail ⟨i+1,rfl,hlt,rfl⟩ (by simp only[bK];omega)
 ·exact cw.mk (.refl _) rfl
theorem gE.done{f:aF.Fn}{w:Value}{H:Hp}(h:gE kp K S ord aj [] f w H):(∃x,w=.tuple #[u32 x,.bool true,.int .i64 0]∧oV kp K S ord aj tr f (.tuple #[u32 x,.int .i64 0]) H)∨(w=.tuple #[u32 0,.bool false,.int .i64 9]∧oV kp K S ord aj tr f (.tuple #[u32 0,.int .i64 9]) H):=by
 rcases h with⟨x,K',S',C',rfl,rfl,iJ,hg⟩|⟨rfl,⟨K',S',C',rfl,iJ,hk⟩,hn⟩
 ·exact .inl ⟨x,rfl,.inl ⟨x,K',S',rfl,iJ,hg⟩⟩
 ·exact .inr ⟨rfl,.inr ⟨rfl,⟨K',S',[],iJ,.inl rfl,hk⟩,hn⟩⟩
theorem js{n v:Nat}(hv:v<n):2^v<2^n:=Nat.pow_lt_pow_right (by decide) hv
theorem xB(hK:cW kp K S ord aj tr C){r v:Nat}{b:Bool}(hr:live K.N r)(hv:v<K.n)(hf:∀s,K.hold s+1<65535):
  Fc Tryz.prog 199 #[ptr kp,u32 r,.int .i64 (v:Int),.bool b] C (oV kp K S ord aj tr (fun x=>S r (aG.aI x v b))):=by
 intro g
 refine Ea (R:=aB _) ?_
 unfold L199
 refine ag.rd .here (vJ hK hv) ?_
 rintro w rfl
 refine Ext.mk rfl (Ext.mk rfl ?_)
 refine ae.xC ?_
 refine bX.and (a:=true) false (fun _=>Un.not ⟨rfl,rfl⟩) rfl fun gs=>Br.no ?_
 refine au.int (e:=77) (by kernel_rfl) (by kernel_rfl) (by kernel_rfl) fun bs=>?_
 refine ag.rd (args:=#[ptr kp,.int .u64 ((2^v:Nat):Int),.slice (some ⟨bs,0,none⟩) 1 1]) .here (qy (Y:=[(bs,Obj.cells (aA .u32 [(r:Int)]) 77 (0,0))]) (refs:=[r]) hK (js hv) ((aP.made (T:=77) (kd:=.u32) (b:=bs) (iw [r])).ints) (fun s hs=>by simp at hs;subst hs;exact hr) (by show 1≤1048576;omega)) ?_
 rintro w rfl
 refine ae.dh (Br.bt (by decide) ?_)
 refine ag.fn (args:=#[ptr kp,u32 r,.int .i64 (v:Int),.bool b]) (.cons .here) (l8 hK hr hv hf) ?_
 intro w H hO
 rcases hO.done (tr:=tr)with⟨x,rfl,hD⟩|⟨rfl,hD⟩
 ·refine Ext.mk rfl (Ext.mk rfl (Ext.mk rfl ?_))
  refine ag.rd .here (su _ x) ?_
  rintro w rfl
  exact Ext.mk rfl (Ext.mk rfl (aB.mk .tail hD))
 ·refine Ext.mk rfl (Ext.mk rfl (Ext.mk rfl ?_))
  refine ag.rd .here (sA _ _ _) ?_
  rintro w rfl
  exact Ext.mk rfl (Ext.mk rfl (aB.mk .tail hD))
end
theorem Fits.mono{A B:aF.Fn→Prop}{cap:Nat}(h:∀g,A g→B g)(hB:Fits B cap):Fits A cap:=by
 classical
 obtain⟨ku,⟨l,h1,h2,h3⟩,hc⟩:=hB
 refine⟨(l.filter fun g=>decide (A g)).length,⟨l.filter fun g=>decide (A g),h1.filter _,rfl,fun g=>?_⟩,?_⟩
 ·rw[List.mem_filter,decide_eq_true_eq,←h3]
  exact⟨fun x=>⟨h g x,x⟩,fun x=>x.2⟩
 ·have:=List.length_filter_le (fun g=>decide (A g)) l
  omega
def bitsOf(mask n:Nat):List Nat:=(List.range n).filter fun i=>mask.testBit i
theorem jz(mask n:Nat):bitsOf mask (n+1)=bitsOf mask n++if mask.testBit n then [n]else []:=by
 unfold bitsOf
 rw[List.range_succ,List.filter_append,List.filter_cons,List.filter_nil]
def NP(e:Bool)(vs:List Nat)(f:aF.Fn):aF.Fn:=vs.foldl (fun g v=>qf e v g) f
theorem KX(e:Bool)(vs:List Nat)(v:Nat)(f:aF.Fn):NP e (vs++[v]) f=qf e v (NP e vs f):=by
 unfold NP;rw[List.foldl_append];rfl
section
variable {kp:Nat} {K:Kd} {S:Nat→aF.Fn} {ord aj tr:List Nat} {C:Hp}
def iF(kp:Nat)(K:Kd)(S:Nat→aF.Fn)(ord aj tr:List Nat)(e:Bool)(mask r:Nat)(w:Value)(H:Hp):Prop:=
 (∃x K' S',w=.tuple #[u32 x,.int .i64 0]∧cW kp K' S' ord aj [] H∧qd K S K' S' (NP e (bitsOf mask K.n) (S r)) x)∨
 (w=.tuple #[u32 0,.int .i64 9]∧(∃K' S' uP,cW kp K' S' ord aj uP H∧(uP=[]∨uP=tr)∧Kept K S K' S')∧∃i,i<K.n∧mask.testBit i=true∧¬Fits (aR K.n ord (fun g=>(K.held S g∨(bitsOf mask i≠[]∧g=NP e (bitsOf mask i) (S r)))∨g=qf e i (NP e (bitsOf mask i) (S r)))) K.cap)
structure Way(K:Kd)(S:Nat→aF.Fn)(K1:Kd)(S1:Nat→aF.Fn)(ch:Bool)(cur:Nat):Prop where
 n:K1.n=K.n
 cap:K1.cap=K.cap
 N:∀s d,K.N s=some d→K1.N s=some d
 fn:∀s,live K.N s→S1 s=S s
 live:live K1.N cur
 hold:∀s,K1.hold s=K.hold s+if ch=true∧s=cur∧2≤cur then 1 else 0
theorem Gb(hK:cW kp K S ord aj tr C){r mask:Nat}{e:Bool}(hr:live K.N r)(hm:mask<2^K.n)(hf:∀s,K.hold s+2<65535):
  Fc Tryz.prog 249 #[ptr kp,u32 r,.int .u64 (mask:Int),.bool e] C (iF kp K S ord aj tr e mask r):=by
 have hn:=hK.bc.qA
 have xX:mask<18446744073709551616:=Nat.lt_of_lt_of_le hm (Nat.pow_le_pow_right (n:=2) (by decide) hn)
 have FY:∀s,K.hold s≠0→live K.N s:=fun s hs=>.inr (hK.ok.mid.held s hs)
 intro g
 refine Dw (R:=aB _) ?_
 unfold L249
 refine au.int (e:=77) (by kernel_rfl) (by kernel_rfl) (by kernel_rfl) fun bs=>?_
 refine ag.rd (args:=#[ptr kp,.int .u64 (mask:Int),.slice (some ⟨bs,0,none⟩) 1 1]) .here (qy (Y:=[(bs,Obj.cells (aA .u32 [(r:Int)]) 77 (0,0))]) (refs:=[r]) hK hm ((aP.made (T:=77) (kd:=.u32) (b:=bs) (iw [r])).ints) (fun s hs=>by simp at hs;subst hs;exact hr) (by show 1≤1048576;omega)) ?_
 rintro w rfl
 refine ae.dh (Br.bt (by decide) ?_)
 refine ae.gn (b:=0) (Br.dec (fun h0=>?_) (fun h0=>?_))
 ·subst h0
  refine ag.fn (args:=#[ptr kp,u32 r]) (.cons .here) (pK hK (r:=r) hr (fun _=>by have:=hf r;omega)) ?_
  rintro w C1 ⟨rfl,K1,fx,mo⟩
  refine ae.dh (Br.bt (by decide) ?_)
  refine aB.mk .tail (.inl ⟨r,K1,S,rfl,fx,mo.n,mo.cap,fun s d hd=>by rw[mo.N];exact hd,fun _ _=>rfl,by rw[mo.N];exact hr,?_,fun s=>by rw[mo.hold];split<;>omega⟩)
  have:bitsOf 0 K.n=[]:=by unfold bitsOf;rw[List.filter_eq_nil_iff];intro a _;simp
  rw[this];rfl
 refine ag.rd (.cons .here) (iQ hK.rep) ?_
 rintro w rfl
 refine⟨fun vs H=>∃(i cur:Nat) (ch:Bool) (K1:Kd) (S1:Nat→aF.Fn) (C1:Hp) (NO:List Nat),vs=[u32 cur,.bool ch,.int .i64 (i:Int)]∧i≤K.n∧H=(bs,Obj.cells (aA .u32 [(r:Int)]) 77 (0,0))::C1∧cW kp K1 S1 ord aj NO C1∧
   (ch=decide (bitsOf mask i≠[]))∧S1 cur=NP e (bitsOf mask i) (S r)∧Way K S K1 S1 ch cur∧(ch=true→NO=[]),fun vs _=>K.n-bK vs 2,
  JE.mk ⟨0,r,false,K,S,C,tr,rfl,Nat.zero_le _,rfl,hK,rfl,rfl,⟨rfl,rfl,fun _ _ h=>h,fun _ _=>rfl,hr,fun s=>by rw[if_neg (fun h=>by cases h.1)];rfl⟩,fun h=>by cases h⟩,?_⟩
 rintro lN ri jc H ⟨i,cur,ch,K1,S1,C1,NO,hvs,hi,rfl,fx,kG,lI,hw,je⟩ gs
 simp only[List.cons.injEq,and_true]at hvs
 obtain⟨rfl,rfl,rfl⟩:=hvs
 refine ae.fu (Br.dec (fun hlt=>?_) (fun hlt=>?_))
 rotate_left
 ·obtain rfl:i=K.n:=by omega
  have hne:bitsOf mask K.n≠[]:=fun hb=>h0 (by
   apply Nat.eq_of_testBit_eq
   intro j
   rw[Nat.zero_testBit]
   by_cases hj:j<K.n
   ·cases ht:mask.testBit j with
    |false=>rfl
    |true=>
     have:j∈bitsOf mask K.n:=List.mem_filter.2 ⟨List.mem_range.2 hj,ht⟩
     rw[hb]at this;cases this
   ·exact Nat.testBit_lt_two_pow (Nat.lt_of_lt_of_le hm (Nat.pow_le_pow_right (by decide) (by omega))))
  have hct:ch=true:=by rw[kG];exact decide_eq_true hne
  rw[je hct]at fx
  exact aB.mk .tail (.inl ⟨cur,K1,S1,rfl,fx,hw.n,hw.cap,hw.N,hw.fn,hw.live,lI,fun s=>by rw[hw.hold];simp[hct]⟩)
 intro J hJ
 refine ae.qw (by simpa[aE]using xX) ?_
 refine ae.p6 (b:=1) (by have:mask>>>i≤mask:=Nat.shiftRight_le _ _;simp[aE];omega) (by simp[aE]) ?_
 have TL:(mask>>>i) &&&1=(mask.testBit i).toNat:=by
  rw[Nat.and_one_is_mod,Nat.testBit_eq_decide_div_mod_eq,Nat.shiftRight_eq_div_pow]
  have:mask/2^i%2<2:=Nat.mod_lt _ (by decide)
  by_cases h:mask/2^i%2=1
  ·simp[h]
  ·have:mask/2^i%2=0:=by omega
   simp[this]
 rw[TL]
 refine ae.gn (b:=0) ?_
 cases ht:mask.testBit i with
 |false=>
  refine Br.eU rfl ?_
  refine JE.mk (hJ _ _ _ fun gs=>?_)
  refine ae.aN (b:=1) (by simp[aE];omega) ?_
  have eb:bitsOf mask (i+1)=bitsOf mask i:=by rw[jz,ht];simp
  exact aC.mk ⟨i+1,cur,ch,K1,S1,C1,NO,rfl,hlt,rfl,fx,by rw[eb];exact kG,by rw[eb];exact lI,hw,je⟩ (by simp only[bK];omega)
 |true=>
  refine Br.bt (by decide) ?_
  have eb:bitsOf mask (i+1)=bitsOf mask i++[i]:=by rw[jz,ht];simp
  have JK:∀s,K1.hold s+1<65535:=fun s=>by rw[hw.hold];have:=hf s;split<;>omega
  have Vi:∀s,K1.hold s≠0→live K1.N s:=fun s hs=>.inr (fx.ok.mid.held s hs)
  refine ag.fn (args:=#[ptr kp,u32 cur,.int .i64 (i:Int),.bool e]) (.cons .here) (ze fx hw.live (by rw[hw.n];exact hlt) JK) ?_
  rintro w H (⟨x,K2,S2,C2,rfl,rfl,dL,hg⟩|⟨rfl,⟨K2,S2,C2,rfl,dL,hk⟩,hno⟩)
  ·refine Ext.mk rfl (Ext.mk rfl (Ext.mk rfl ?_))
   refine ag.rd .here (su _ x) ?_
   rintro w rfl
   refine Ext.mk rfl (Ext.mk rfl ?_)
   intro yI h38
   have go:∀K3 C3,cW kp K3 S2 ord aj [] C3→Way K S K3 S2 true x→yI [] ((bs,Obj.cells (aA .u32 [(r:Int)]) 77 (0,0))::C3):=fun K3 C3 nN Pg=>by
    refine h38 _ fun gs=>?_
    refine ae.dh (Br.bt (by decide) ?_)
    refine JE.mk (hJ _ _ _ fun gs=>?_)
    refine ae.aN (b:=1) (by simp[aE];omega) ?_
    exact aC.mk ⟨i+1,x,true,K3,S2,C3,[],rfl,hlt,rfl,nN,by rw[eb];exact(decide_eq_true (by simp)).symm,by rw[hg.is,eb,KX,lI],Pg,fun _=>rfl⟩ (by simp only[bK];omega)
   have fn2:∀s,live K.N s→S2 s=S s:=fun s hs=>(hg.fn s (cR hw.N hs)).trans (hw.fn s hs)
   cases ch with
   |false=>
    refine Br.no (JE.mk (go K2 H dL ⟨hg.n.trans hw.n,hg.cap.trans hw.cap,fun s d hd=>hg.N s d (hw.N s d hd),fn2,hg.live,fun s=>?_⟩))
    have a:=hw.hold s
    rw[if_neg (fun h=>by cases h.1)]at a
    rw[hg.hold,a];simp
   |true=>
    have hlc:=hw.live
    have hcc:2≤cur→K2.hold cur≠0:=fun h2=>by rw[hg.hold,hw.hold,if_pos ⟨rfl,rfl,h2⟩];omega
    refine Br.yes ?_
    refine ag.fn (args:=#[ptr kp,u32 cur]) (.cons .here) (pU dL (r:=cur) (by have:=fx.cu hlc;omega) hcc) ?_
    rintro w C3 ⟨rfl,K3,nN,f3⟩
    have ki:∀s,K3.hold s=K.hold s+if s=x∧2≤x then 1 else 0:=fun s=>by
     have a:=hw.hold s
     simp only[true_and]at a
     rw[f3.hold,hg.hold,a]
     split<;>split<;>omega
    refine JE.mk (go K3 C3 nN ⟨by rw[f3.n,hg.n,hw.n],by rw[f3.cap,hg.cap,hw.cap],fun s d hs=>iS hK.ok nN.ok (fun s h=>by rw[ki];omega) (fun s d d' h h'=>?_) _ s d hs (Nat.le_refl _),fn2,?_,fun s=>by rw[ki];simp⟩)
    ·have a:=f3.N s d' h'
     rw[hg.N s d (hw.N s d h)]at a;exact(Option.some.inj a).symm
    ·by_cases h2:x<2
     ·exact .inl h2
     ·refine .inr (nN.ok.mid.held x ?_)
      rw[ki,if_pos ⟨rfl,by omega⟩];omega
  ·refine Ext.mk rfl (Ext.mk rfl (Ext.mk rfl ?_))
   refine ag.rd .here (sA _ _ _) ?_
   rintro w rfl
   refine Ext.mk rfl (Ext.mk rfl ?_)
   intro yI h38
   have wu:∀g,K1.held S1 g→K.held S g∨(bitsOf mask i≠[]∧g=NP e (bitsOf mask i) (S r)):=by
    rintro g ⟨s,hs,rfl⟩
    have hs':K1.hold s≠0:=hs
    by_cases hz:K.hold s=0
    ·right
     rw[hw.hold,hz]at hs'
     by_cases hx:ch=true∧s=cur∧2≤cur
     ·refine⟨?_,by rw[hx.2.1];exact lI⟩
      have:=hx.1
      rw[kG]at this
      exact of_decide_eq_true this
     ·rw[if_neg hx]at hs';omega
    ·exact .inl ⟨s,hz,hw.fn s (FY s hz)⟩
   have zL:¬Fits (aR K.n ord (fun g=>(K.held S g∨(bitsOf mask i≠[]∧g=NP e (bitsOf mask i) (S r)))∨g=qf e i (NP e (bitsOf mask i) (S r)))) K.cap:=fun hfit=>hno (by
    rw[hw.n,hw.cap,lI]
    exact Fits.mono (fun g hg=>bY (fun g h=>h.imp (wu g) id) hg) hfit)
   have go:∀K3 C3 QI,cW kp K3 S2 ord aj QI C3→QI=[]→(∀s,K3.hold s=K.hold s)→K3.n=K2.n→K3.cap=K2.cap→yI [] ((bs,Obj.cells (aA .u32 [(r:Int)]) 77 (0,0))::C3):=fun K3 C3 QI nN Y4 NY hn3 Xe=>by
    refine h38 _ fun gs=>?_
    refine ae.dh (Br.eU (by decide) ?_)
    have hfn:∀s,K.hold s≠0→S2 s=S s:=fun s hs=>(hk.fn s (by rw[hw.hold];omega)).trans (hw.fn s (FY s hs))
    refine aB.mk .tail (.inr ⟨rfl,⟨K3,S2,QI,nN,.inl Y4,⟨by rw[hn3,hk.n,hw.n],by rw[Xe,hk.cap,hw.cap],NY,fun g=>?_,hfn⟩⟩,i,hlt,ht,zL⟩)
    constructor
    ·rintro⟨s,hs,rfl⟩
     have hs':K.hold s≠0:=by rw[←NY];exact hs
     exact⟨s,hs',hfn s hs'⟩
    ·rintro⟨s,hs,rfl⟩
     exact⟨s,by show K3.hold s≠0;rw[NY];exact hs,(hfn s hs).symm⟩
   cases ch with
   |false=>
    refine Br.no (JE.mk (go K2 H [] dL rfl (fun s=>?_) rfl rfl))
    rw[hk.hold,hw.hold,if_neg (fun h=>by cases h.1)];rfl
   |true=>
    have hcc:2≤cur→K2.hold cur≠0:=fun h2=>by rw[hk.hold,hw.hold,if_pos ⟨rfl,rfl,h2⟩];omega
    refine Br.yes ?_
    refine ag.fn (args:=#[ptr kp,u32 cur]) (.cons .here) (pU dL (r:=cur) (by have:=fx.cu hw.live;omega) hcc) ?_
    rintro w C3 ⟨rfl,K3,nN,f3⟩
    refine JE.mk (go K3 C3 [] nN rfl (fun s=>?_) f3.n f3.cap)
    have a:=hw.hold s
    simp only[true_and]at a
    rw[f3.hold,hk.hold,a]
    split<;>omega
end
section
variable {kp:Nat} {K:Kd} {S:Nat→aF.Fn} {ord aj tr:List Nat} {C:Hp}
theorem iF.two{e:Bool}{mask r:Nat}{w:Value}{H:Hp}(h:iF kp K S ord aj tr e mask r w H):∃x y,w=.tuple #[x,y]:=by
 rcases h with⟨x,K',S',rfl,_⟩|⟨rfl,_⟩
 ·exact⟨_,_,rfl⟩
 ·exact⟨_,_,rfl⟩
theorem Ip(hK:cW kp K S ord aj tr C){r mask:Nat}(hr:live K.N r)(hm:mask<2^K.n)(hf:∀s,K.hold s+2<65535):
  Fc Tryz.prog 200 #[ptr kp,u32 r,.int .u64 (mask:Int)] C (iF kp K S ord aj tr true mask r):=by
 intro g
 refine D9 (R:=aB _) ?_
 unfold L200
 refine ag.fn .here (Gb hK hr hm hf) ?_
 intro w H hO
 obtain⟨x,y,rfl⟩:=hO.two
 exact Ext.mk rfl (Ext.mk rfl (aB.here hO))
theorem Im(hK:cW kp K S ord aj tr C){r mask:Nat}(hr:live K.N r)(hm:mask<2^K.n)(hf:∀s,K.hold s+2<65535):
  Fc Tryz.prog 201 #[ptr kp,u32 r,.int .u64 (mask:Int)] C (iF kp K S ord aj tr false mask r):=by
 intro g
 refine D8 (R:=aB _) ?_
 unfold L201
 refine ag.fn .here (Gb hK hr hm hf) ?_
 intro w H hO
 obtain⟨x,y,rfl⟩:=hO.two
 exact Ext.mk rfl (Ext.mk rfl (aB.here hO))
theorem B9{n v:Nat}(hv:v<n):bitsOf (2^v) n=[v]∧bitsOf (2^v) v=[]:=by
 have h0:bitsOf (2^v) v=[]:=by
  unfold bitsOf
  rw[List.filter_eq_nil_iff]
  intro a ha
  have:=List.mem_range.1 ha
  simp[Nat.testBit_two_pow];omega
 refine⟨?_,h0⟩
 have key:∀k,v+1+k≤n→bitsOf (2^v) (v+1+k)=[v]:=by
  intro k
  induction k with
  |zero=>intro _;rw[Nat.add_zero,jz,h0];simp[Nat.testBit_two_pow]
  |succ k ih=>
   intro hk
   rw[←Nat.add_assoc,jz,ih (by omega)]
   have:¬v=v+1+k:=by omega
   simp[Nat.testBit_two_pow,this]
 have:=key (n-(v+1)) (by omega)
 rwa [show v+1+(n-(v+1))=n by omega]at this
theorem iF.one{e:Bool}{v r:Nat}{w:Value}{H:Hp}(hv:v<K.n)(h:iF kp K S ord aj tr e (2^v) r w H):oV kp K S ord aj tr (qf e v (S r)) w H:=by
 obtain⟨e1,e2⟩:=B9 hv
 rcases h with⟨x,K',S',rfl,iJ,hg⟩|⟨rfl,hk,i,hi,ht,hno⟩
 ·rw[e1]at hg
  exact .inl ⟨x,K',S',rfl,iJ,hg⟩
 ·have:i=v:=by
   rw[Nat.testBit_two_pow]at ht
   exact(of_decide_eq_true ht).symm
  subst this
  rw[e2]at hno
  exact .inr ⟨rfl,hk,fun hfit=>hno (Fits.mono (fun g hg=>bY (fun g h=>h.elim (fun h=>h.elim .inl fun h=>absurd rfl h.1) .inr) hg) hfit)⟩
def yq(kp:Nat)(K:Kd)(S:Nat→aF.Fn)(ord aj tr:List Nat)(lo hi f:aF.Fn)(w:Value)(H:Hp):Prop:=
 (∃x K' S',w=.tuple #[u32 x,.int .i64 0]∧cW kp K' S' ord aj [] H∧qd K S K' S' f x)∨
 (w=.tuple #[u32 0,.int .i64 9]∧(∃K' S' uP,cW kp K' S' ord aj uP H∧(uP=[]∨uP=tr)∧Kept K S K' S')∧
  (¬Fits (aR K.n ord (fun g=>K.held S g∨g=lo)) K.cap∨¬Fits (aR K.n ord (fun g=>(K.held S g∨g=lo)∨g=hi)) K.cap∨¬Fits (aR K.n ord (fun g=>((K.held S g∨g=lo)∨g=hi)∨g=f)) K.cap))
theorem Qd(hK:cW kp K S ord aj tr C){r v h:Nat}(hr:live K.N r)(hv:v<K.n)(hh:live K.N h)(hB:∀s,K.hold s+2+2^K.n≤65535):
  Fc Tryz.prog 202 #[ptr kp,u32 r,.int .i64 (v:Int),u32 h] C (yq kp K S ord aj tr (fun x=>S r (aG.aI x v false)) (fun x=>S r (aG.aI x v true)) (fun x=>if S h x then S r (aG.aI x v true)else S r (aG.aI x v false))):=by
 have zJ:1≤2^K.n:=Nat.one_le_two_pow
 have FY:∀s,K.hold s≠0→live K.N s:=fun s hs=>.inr (hK.ok.mid.held s hs)
 intro g
 refine D7 (R:=aB _) ?_
 unfold L202
 refine ag.rd .here (vJ hK hv) ?_
 rintro w rfl
 refine Ext.mk rfl (Ext.mk rfl ?_)
 refine ae.xC ?_
 refine bX.and (a:=true) false (fun _=>Un.not ⟨rfl,rfl⟩) rfl fun gs=>Br.no ?_
 refine au.FU (e:=77) (by kernel_rfl) (by kernel_rfl) (by kernel_rfl) fun bs=>?_
 refine ag.rd (args:=#[ptr kp,.int .u64 ((2^v:Nat):Int),.slice (some ⟨bs,0,none⟩) 2 2]) .here (qy (Y:=[(bs,Obj.cells (aA .u32 [(r:Int),(h:Int)]) 77 (0,0))]) (refs:=[r,h]) hK (js hv) ((aP.made (T:=77) (kd:=.u32) (b:=bs) (iw [r,h])).ints) (fun s hs=>by
  simp only[List.mem_cons,List.not_mem_nil,or_false]at hs
  rcases hs with rfl|rfl
  ·exact hr
  ·exact hh) (by show 2≤1048576;omega)) ?_
 rintro w rfl
 refine ae.dh (Br.bt (by decide) ?_)
 refine ag.fn (args:=#[ptr kp,u32 r,.int .i64 (v:Int),.bool false]) (.cons .here) (l8 hK hr hv (fun s=>by have:=hB s;omega)) ?_
 intro w H hO
 rcases hO with⟨x1,K1,S1,C1,rfl,rfl,fx,g1⟩|⟨rfl,⟨K1,S1,C1,rfl,fx,hk⟩,hno⟩
 rotate_left
 ·refine Ext.mk rfl (Ext.mk rfl (Ext.mk rfl ?_))
  refine ag.rd .here (sA _ _ _) ?_
  rintro w rfl
  refine Ext.mk rfl (Ext.mk rfl ?_)
  refine ae.dh (Br.eU (by decide) ?_)
  exact aB.mk .tail (.inr ⟨rfl,⟨K1,S1,[],fx,.inl rfl,hk⟩,.inl hno⟩)
 refine Ext.mk rfl (Ext.mk rfl (Ext.mk rfl ?_))
 refine ag.rd .here (su _ x1) ?_
 rintro w rfl
 refine Ext.mk rfl (Ext.mk rfl ?_)
 refine ae.dh (Br.bt (by decide) ?_)
 have FX:=cR g1.N hr
 have e1:S1 r=S r:=g1.fn r hr
 have Vi:=cR g1.N hh
 have l1:=g1.live
 have fH:=g1.hold
 have Ma:∀g,K1.held S1 g→K.held S g∨g=fun x=>S r (aG.aI x v false):=g1.held FY
 refine ag.fn (args:=#[ptr kp,u32 r,.int .i64 (v:Int),.bool true]) (.cons .here) (l8 fx FX (by rw[g1.n];exact hv) (fun s=>by rw[fH];have:=hB s;split<;>omega)) ?_
 intro w H hO
 rw[e1]at hO
 rcases hO with⟨x2,K2,S2,C2,rfl,rfl,dL,g2⟩|⟨rfl,⟨K2,S2,C2,rfl,dL,hk⟩,hno⟩
 rotate_left
 ·refine Ext.mk rfl (Ext.mk rfl (Ext.mk rfl ?_))
  refine ag.rd .here (sA _ _ _) ?_
  rintro w rfl
  refine Ext.mk rfl (Ext.mk rfl ?_)
  refine ae.dh (Br.eU (by decide) ?_)
  refine jj.fn (args:=#[ptr kp,u32 x1]) (.cons .here) (mF dL (r:=x1) (by have:=fx.cu l1;omega) (fun h2=>by rw[hk.hold,fH,if_pos ⟨rfl,h2⟩];omega)) ?_
  rintro w C3 ⟨rfl,K3,nN,f3⟩
  have NY:∀s,K3.hold s=K.hold s:=fun s=>by
   rw[f3.hold,hk.hold,fH]
   split<;>omega
  have hfn:∀s,K.hold s≠0→S2 s=S s:=fun s hs=>(hk.fn s (by rw[fH];omega)).trans (g1.fn s (FY s hs))
  refine aB.mk .tail (.inr ⟨rfl,⟨K3,S2,[],nN,.inl rfl,⟨by rw[f3.n,hk.n,g1.n],by rw[f3.cap,hk.cap,g1.cap],NY,fun g=>?_,hfn⟩⟩,.inr (.inl fun hfit=>hno ?_)⟩)
  ·constructor
   ·rintro⟨s,hs,rfl⟩
    have hs':K.hold s≠0:=by rw[←NY];exact hs
    exact⟨s,hs',hfn s hs'⟩
   ·rintro⟨s,hs,rfl⟩
    exact⟨s,by show K3.hold s≠0;rw[NY];exact hs,(hfn s hs).symm⟩
  ·rw[g1.n,g1.cap]
   exact Fits.mono (fun g hg=>bY (fun g h=>h.imp (Ma g) id) hg) hfit
 refine Ext.mk rfl (Ext.mk rfl (Ext.mk rfl ?_))
 refine ag.rd .here (su _ x2) ?_
 rintro w rfl
 refine Ext.mk rfl (Ext.mk rfl ?_)
 refine ae.dh (Br.bt (by decide) ?_)
 have Tz:=cR g2.N Vi
 have l12:=cR g2.N l1
 have l2:=g2.live
 have jw:=g2.hold
 have abC:∀s,K1.hold s≠0→live K1.N s:=fun s hs=>.inr (fx.ok.mid.held s hs)
 have Ty:∀g,K2.held S2 g→(K.held S g∨g=fun x=>S r (aG.aI x v false))∨g=fun x=>S r (aG.aI x v true):=fun g hg=>(g2.held abC g hg).imp (Ma g) id
 have eh:S2 h=S h:=(g2.fn h Vi).trans (g1.fn h hh)
 have ex1:S2 x1=fun x=>S r (aG.aI x v false):=(g2.fn x1 l1).trans g1.is
 have W3:∀s,live K.N s→S2 s=S s:=fun s hs=>(g2.fn s (cR g1.N hs)).trans (g1.fn s hs)
 refine ag.fn (args:=#[ptr kp,u32 h,u32 x2,u32 x1]) (.cons .here) (Gw dL Tz l2 l12 (fun s=>by rw[jw,fH,g2.n,g1.n];have:=hB s;split<;>split<;>omega)) ?_
 intro w H hO
 rw[eh,ex1,g2.is]at hO
 rcases hO with⟨x3,K3,S3,rfl,nN,g3⟩|⟨rfl,⟨K3,S3,QI,nN,_,hk⟩,hno⟩
 ·refine Ext.mk rfl (Ext.mk rfl ?_)
  have ki:=g3.hold
  refine jj.fn (args:=#[ptr kp,u32 x2]) (.cons .here) (mF nN (r:=x2) (by have:=dL.cu l2;omega) (fun h2=>by rw[ki,jw,if_pos ⟨rfl,h2⟩];omega)) ?_
  rintro w C4 ⟨rfl,K4,Mu,f4⟩
  have pM:∀s,K4.hold s=K1.hold s+if s=x3∧2≤x3 then 1 else 0:=fun s=>by
   rw[f4.hold,ki,jw]
   split<;>split<;>omega
  refine jj.fn (args:=#[ptr kp,u32 x1]) (.cons .here) (mF Mu (r:=x1) (by have:=fx.cu l1;omega) (fun h2=>by rw[pM,fH,if_pos ⟨rfl,h2⟩];omega)) ?_
  rintro w C5 ⟨rfl,K5,JN,f5⟩
  have tx:∀s,K5.hold s=K.hold s+if s=x3∧2≤x3 then 1 else 0:=fun s=>by
   rw[f5.hold,pM,fH]
   split<;>split<;>omega
  have NV:live K5.N x3:=by
   by_cases h2:x3<2
   ·exact .inl h2
   ·refine .inr (JN.ok.mid.held x3 ?_)
    rw[tx,if_pos ⟨rfl,by omega⟩];omega
  have ab3:∀s,live K.N s→S3 s=S s:=fun s hs=>(g3.fn s (cR g2.N (cR g1.N hs))).trans (W3 s hs)
  refine aB.mk .tail (.inl ⟨x3,K5,S3,rfl,JN,⟨by rw[f5.n,f4.n,g3.n,g2.n,g1.n],by rw[f5.cap,f4.cap,g3.cap,g2.cap,g1.cap],fun s d hs=>iS hK.ok JN.ok (fun s h=>by rw[tx];omega) (fun s d d' h h'=>?_) _ s d hs (Nat.le_refl _),ab3,NV,g3.is,tx⟩⟩)
  have a:=f4.N s d' (f5.N s d' h')
  rw[g3.N s d (g2.N s d (g1.N s d h))]at a;exact(Option.some.inj a).symm
 ·refine Ext.mk rfl (Ext.mk rfl ?_)
  have ki:=hk.hold
  refine jj.fn (args:=#[ptr kp,u32 x2]) (.cons .here) (mF nN (r:=x2) (by have:=dL.cu l2;omega) (fun h2=>by rw[ki,jw,if_pos ⟨rfl,h2⟩];omega)) ?_
  rintro w C4 ⟨rfl,K4,Mu,f4⟩
  have pM:∀s,K4.hold s=K1.hold s:=fun s=>by
   rw[f4.hold,ki,jw]
   split<;>omega
  refine jj.fn (args:=#[ptr kp,u32 x1]) (.cons .here) (mF Mu (r:=x1) (by have:=fx.cu l1;omega) (fun h2=>by rw[pM,fH,if_pos ⟨rfl,h2⟩];omega)) ?_
  rintro w C5 ⟨rfl,K5,JN,f5⟩
  have tx:∀s,K5.hold s=K.hold s:=fun s=>by
   rw[f5.hold,pM,fH]
   split<;>omega
  have hfn:∀s,K.hold s≠0→S3 s=S s:=fun s hs=>(hk.fn s (by rw[jw,fH];omega)).trans (W3 s (FY s hs))
  refine aB.mk .tail (.inr ⟨rfl,⟨K5,S3,[],JN,.inl rfl,⟨by rw[f5.n,f4.n,hk.n,g2.n,g1.n],by rw[f5.cap,f4.cap,hk.cap,g2.cap,g1.cap],tx,fun g=>?_,hfn⟩⟩,.inr (.inr fun hfit=>hno ?_)⟩)
  ·constructor
   ·rintro⟨s,hs,rfl⟩
    have hs':K.hold s≠0:=by rw[←tx];exact hs
    exact⟨s,hs',hfn s hs'⟩
   ·rintro⟨s,hs,rfl⟩
    exact⟨s,by show K5.hold s≠0;rw[tx];exact hs,(hfn s hs).symm⟩
  ·rw[g2.n,g2.cap,g1.n,g1.cap]
   exact Fits.mono (fun g hg=>bY (fun g h=>h.imp (Ty g) id) hg) hfit
end
end Go.Proofs
set_option maxRecDepth 100000
namespace Go.Proofs
open Go Go.Sx
theorem yM{n:Nat}(hn:n≤16)(B:Hp):Rd Tryz.prog 254 #[.int .i64 (n:Int)] B (· =.int .i64 ((aG.wN n:Nat):Int)):=by
 intro g
 refine Dq (R:=aB _) ?_
 unfold L254
 have h1:1<<<n≤65536:=by rw[Nat.one_shiftLeft];exact Nat.pow_le_pow_right (n:=2) (by decide) hn
 refine ae.Bq (a:=1) (b:=n) (by simp[IntKind.bits];omega) (by simp[aE];omega) ?_
 refine ae.qw (b:=6) (by simp[aE];omega) ?_
 refine⟨_,_,_,rfl,rfl,?_⟩
 refine cw.mk (.refl _) ?_
 have:1<<<n>>>6=2^n/64:=by rw[Nat.one_shiftLeft,Nat.shiftRight_eq_div_pow]
 rw[this]
 congr 1
 unfold aG.wN
 rw[Nat.max_def]
 split<;>split<;>omega
theorem F5{n:Nat}(hn:n≤16)(B:Hp):Rd Tryz.prog 255 #[.int .i64 (n:Int)] B (· =.int .u64 ((aG.dw n:Nat):Int)):=by
 intro g
 refine Dp (R:=aB _) ?_
 unfold L255
 refine ae.rG (a:=n) (b:=6) (Br.dec (fun h=>?_) (fun h=>?_))
 ·exact cw.mk (.refl _) (by unfold aG.dw;rw[if_pos h];rfl)
 ·have h1:2^n≤32:=Nat.pow_le_pow_right (n:=2) (by decide) (by omega:n≤5)
  have h2:2^2^n≤2^32:=Nat.pow_le_pow_right (by decide) h1
  have h3:=Nat.two_pow_pos (2^n)
  refine ae.Bp (a:=1) (b:=n) ?_
  rw[Nat.one_shiftLeft,Nat.mod_eq_of_lt (by omega)]
  refine ae.Bp (a:=1) ?_
  rw[Nat.one_shiftLeft,Nat.mod_eq_of_lt (by omega)]
  refine ae.bF (b:=1) (by simp[aE];omega) (by omega) ?_
  exact cw.mk (.refl _) (by unfold aG.dw;rw[if_neg h])
theorem HL{n:Nat}{ws:List Nat}(hn:n≤16)(hl:ws.length=aG.wN n)(hw:∀w∈ws,w<18446744073709551616){w:Nat}(hg:ws[ws.length-1]? =some w):
  (oP w (aG.dw n)=0)↔aG.fA n ws:=by
 have key:∀w,w<18446744073709551616→(oP w (aG.dw n)=0↔w≤aG.dw n):=by
  intro w hw
  constructor
  ·intro h
   have:w&&&aG.dw n=w:=by
    apply Nat.eq_of_testBit_eq;intro j
    have:=congrArg (fun x=>x.testBit j) h
    simp only[dJ,Nat.zero_testBit]at this
    rw[Nat.testBit_and]
    cases h1:w.testBit j<;>cases h2:(aG.dw n).testBit j<;>simp_all
   rw[←this];exact Nat.and_le_right
  ·intro h
   have:=aG.tY h
   unfold oP;rw[this,Nat.xor_self]
 constructor
 ·intro h
  refine⟨hn,hl,fun u hu=>?_⟩
  by_cases h6:6≤n
  ·unfold aG.dw;rw[if_pos h6];have:=hw u hu;omega
  ·have h1:ws.length=1:=by rw[hl,aG.Fi (by omega)]
   obtain⟨x,rfl⟩:=List.length_eq_one_iff.1 h1
   simp at hg hu
   subst hg;subst hu
   exact(key _ (hw _ (by simp))).1 h
 ·intro h
  exact(key w (hw w (List.mem_of_getElem? hg))).2 (h.full w (List.mem_of_getElem? hg))
theorem Af{B:Hp}{v:Value}{t:Tb}(ht:Co B v t):Rd Tryz.prog 232 #[v] B (· =.bool (decide (TF t))):=by
 obtain⟨tn,ws⟩:=t
 obtain⟨s,rfl,hs,hw⟩:=ht
 simp only at hs hw⊢
 intro g
 refine DJ (R:=aB _) ?_
 unfold L232
 intro b1 _ J hJ
 have hno:¬TF ⟨tn,ws⟩→JE J [.bool true] ((b1,.cells (Value.cells (.agg #[.int .i64 tn,s])) 57 (0,0))::B):=fun h=>
  JE.mk (hJ _ _ fun gs=>Br.yes (cw.mk .tail (by rw[decide_eq_false h])))
 refine DR.self ?_
 refine aa.mk (Ld.mk zM rfl ?_)
 refine ae.lss (Br.dec (fun h0=>hno fun h=>by have:=h.1;simp only at this;omega) (fun h0=>?_))
 obtain⟨n,rfl⟩:∃n:Nat,tn=n:=⟨tn.toNat,by omega⟩
 have hTF:TF ⟨(n:Int),ws⟩↔aG.fA n ws:=by unfold TF;simp
 refine aa.mk (Ld.mk zM rfl ?_)
 refine ae.lP (b:=16) (az.mk (Br.dec (fun h1=>hno fun h=>by have:=(hTF.1 h).yC;omega) (fun h1=>?_)))
 refine aa.mk (Ld.mk zM rfl ?_)
 refine hs.bQ ?_
 refine aa.mk (Ld.mk zM rfl ?_)
 intro F
 refine ag.rd (.cons .here) (yM (by omega) B) ?_
 rintro v rfl
 refine⟨(by repeat (first|exact aU.refl _|apply aU.cons|apply aU.skip|apply aU.c8|apply aU.ry)),?_⟩
 rw[an]
 refine ae.yB (az.mk ?_)
 simp only[cond_false]
 by_cases hl:ws.length=aG.wN n
 case neg=>rw[show decide (ws.length≠aG.wN n)=true by simp[hl]];exact hno fun h=>hl (hTF.1 h).len
 rw[show decide (ws.length≠aG.wN n)=false by simp[hl]]
 refine JE.mk (hJ _ _ fun gs=>Br.no ?_)
 have hpos:=aG.RN n
 obtain⟨w,hg⟩:∃w,ws[ws.length-1]? =some w:=⟨_,List.getElem?_eq_getElem (by omega)⟩
 refine DR.self ?_
 refine aa.mk (Ld.mk zM rfl ?_)
 refine aa.mk (Ld.mk zM rfl ?_)
 refine hs.bQ ?_
 rw[an]
 refine ae.bF (b:=1) (by have:=aG.sP (n:=n) (by omega);simp[aE];omega) (by omega) ?_
 refine hs.ld (cm hg) zS ?_
 refine aa.mk (Ld.mk zM rfl ?_)
 refine ag.rd (.cons .here) (F5 (by omega) B) ?_
 rintro v rfl
 refine⟨(by repeat (first|exact aU.refl _|apply aU.cons|apply aU.skip|apply aU.c8|apply aU.ry)),?_⟩
 refine ae.Nm (by have:=hw w (List.mem_of_getElem? hg);simpa[aE]using this) (by have:=aG.pR n;simpa[aE]using this) ?_
 refine ae.gn (b:=0) ?_
 refine cw.mk .tail ?_
 congr 1
 exact decide_eq_decide.2 ((HL (by omega) hl hw hg).trans hTF.symm)
theorem tJ{B:Hp}{v:Value}{ts:List Tb}(ht:gi B v ts)(ca:ts.length<2^62):Rd Tryz.prog 220 #[v] B (· =.bool (decide (∀t∈ts,TF t∧some t.n=ts.head?.map Tb.n))):=by
 intro g
 refine DP (R:=aB _) ?_
 unfold L220
 refine ht.bQ ?_
 refine⟨fun vs H=>bR B H∧∃k:Nat,vs=[.int .i64 (k:Int)]∧k≤ts.length∧∀i t,i<k→ts[i]? =some t→TF t∧some t.n=ts.head?.map Tb.n,fun vs _=>ts.length-bK vs 0,JE.mk ⟨.refl _,0,rfl,by omega,by omega⟩,?_⟩
 rintro w H ⟨hg,k,hv,hk,aJ⟩ gs
 simp only[List.cons.injEq,and_true]at hv
 subst hv
 refine ae.fu (Br.dec (fun hlt=>?_) (fun hlt=>?_))
 ·obtain⟨t,lB⟩:∃t,ts[k]? =some t:=⟨_,List.getElem?_eq_getElem hlt⟩
  obtain⟨t0,Wp⟩:∃t,ts[0]? =some t:=⟨_,List.getElem?_eq_getElem (by omega)⟩
  have hh:ts.head?.map Tb.n=some t0.n:=by rw[List.head?_eq_getElem?,Wp];rfl
  have Wo:=ht.mono hg.sub
  refine Wo.ld lB (fun _ h=>h) fun s hs=>?_
  intro b1 _
  refine St.whole (r:=[.int .i64 t.n,s]) (by exact cM.head _) rfl rfl ?_ ?_
  ·obtain⟨a,c,rfl,_⟩:=hs.1.shape;simp[Value.oneCell']
  intro J hJ
  have hno:∀H',bR B H'→¬(TF t∧some t.n=ts.head?.map Tb.n)→JE J [.bool true] H':=fun H' Rg h=>
   JE.mk (hJ _ _ fun gs=>Br.yes (cw.mk Rg.jK (by rw[decide_eq_false];exact fun hh=>h (hh t (List.mem_of_getElem? lB)))))
  have Rf:bR B ((b1,Obj.cells (List.toArray [.int .i64 t.n,s]) 57 (0,0))::H):=.cons hg
  refine DR.self ?_
  refine aD.whole (r:=[.int .i64 t.n,s]) (by exact List.Mem.head _) rfl ?_
  intro F
  refine ag.rd (B:=H) (.cons .here) (Af ⟨s,rfl,hs⟩) ?_
  rintro v rfl
  refine⟨.refl _,Un.not ?_⟩
  by_cases hT:TF t
  case neg=>rw[decide_eq_false hT];exact Br.yes (hno _ Rf fun h=>hT h.1)
  rw[decide_eq_true hT]
  refine Br.no ?_
  refine aa.mk (Ld.mk zM rfl ?_)
  refine Wo.ldN Wp zS ?_
  refine ae.dh (az.mk ?_)
  simp only[cond_false]
  by_cases hn:t.n=t0.n
  case neg=>rw[decide_eq_true hn];exact hno _ Rf fun h=>hn (by have:=h.2;rw[hh]at this;simpa using this)
  rw[decide_eq_false (by simpa using hn)]
  refine JE.mk (hJ _ _ fun gs=>Br.no ?_)
  refine ae.aN (b:=1) (by simp[aE];omega) ?_
  refine aC.mk ⟨Rf,k+1,rfl,by omega,fun i u hi hu=>?_⟩ (by simp[bK];omega)
  by_cases e:i=k
  ·subst e;rw[lB]at hu;cases hu;exact⟨hT,by rw[hh,hn]⟩
  ·exact aJ i u (by omega) hu
 ·refine cw.mk hg.jK ?_
  rw[decide_eq_true]
  intro t htm
  obtain⟨i,hi,rfl⟩:=List.mem_iff_getElem.1 htm
  exact aJ i _ (by omega) (List.getElem?_eq_getElem hi)
theorem tK{B:Hp}{b:Nat}{t:Tb}{s:Value}{T:TypeId}{fz:Nat×Nat}(hm:(b,Obj.cells #[.int .i64 t.n,s] T fz)∈B)(hw:Words B s t.ws):
  Rd Tryz.prog 220 #[.slice (some ⟨b,0,none⟩) 1 1] B (· =.bool (decide (TF t))):=
 (tJ (gi.one (cap:=0) hm hw) (by simp)).mono fun v H ⟨h1,h2⟩=>⟨h1,by rw[h2];congr 1;simp⟩
theorem V6{B:Hp}{v:Value}{t:Tb}(ht:Co B v t)(u:Int):Rd Tryz.prog 214 #[v,.int .i64 u] B (· =.int .i64 (if TF t then(if 0≤u∧u<t.n then 0 else 2)else 5)):=by
 obtain⟨s,rfl,hw⟩:=ht
 intro g
 refine DV (R:=aB _) ?_
 unfold L214
 intro b1 _
 refine aD.whole (r:=[.int .i64 t.n,s]) (by exact List.Mem.head _) rfl ?_
 refine pX fun b2=>?_
 refine ag.rd .here (tK (by exact List.Mem.head _) (hw.mono zS)) ?_
 rintro v rfl
 refine Un.not ?_
 by_cases hT:TF t
 ·rw[decide_eq_true hT,if_pos hT]
  refine Br.no (ae.lss ?_)
  refine bX.or (decide (t.n≤u)) (fun h=>?_) rfl ?_
  ·refine aa.mk (Ld.mk zM rfl ?_)
   exact ae.geq ⟨rfl,rfl⟩
  ·intro gs
   have hor:(decide (u<0)||decide (t.n≤u))=decide (¬(0≤u∧u<t.n)):=by
    by_cases h1:u<0<;>by_cases h2:t.n≤u<;>simp[h1,h2]<;>omega
   rw[hor]
   refine Br.dec (fun h=>?_) (fun h=>?_)
   ·exact cw.mk (by repeat (first|exact aU.refl _|apply aU.cons|apply aU.skip|apply aU.c8|apply aU.ry)) (by rw[if_neg h])
   ·exact cw.mk (by repeat (first|exact aU.refl _|apply aU.cons|apply aU.skip|apply aU.c8|apply aU.ry)) (by rw[if_pos (Classical.not_not.1 h)])
 ·rw[decide_eq_false hT,if_neg hT]
  exact Br.yes (cw.mk (by repeat (first|exact aU.refl _|apply aU.cons|apply aU.skip|apply aU.c8|apply aU.ry)) rfl)
theorem wI{u i:Nat}(hu:u<64)(hi:i<18446744073709551616)(zR:i<9223372036854775808)(B:Hp):Rd Tryz.prog 219 #[.int .i64 (u:Int),.int .i64 (i:Int)] B
  (· =.int .u64 ((if 6≤u then(if(i>>>(u-6)).testBit 0 then 18446744073709551615 else 0)else aG.mask u:Nat):Int)):=by
 intro g
 refine DQ (R:=aB _) ?_
 unfold L219
 refine ae.rG (a:=u) (b:=6) (Br.dec (fun h=>?_) (fun h=>?_))
 ·refine aY.nat (by simpa[aE]using hi) ?_
  refine ae.bF (b:=6) (by simp[aE];omega) h ?_
  refine ae.qw (by simpa[aE]using hi) ?_
  have hs:i>>>(u-6)<18446744073709551616:=Nat.lt_of_le_of_lt (Nat.shiftRight_le _ _) hi
  refine ae.p6 (b:=1) (by simpa[aE]using hs) (by decide) ?_
  refine Un.aaN (by rw[aG.gD];split<;>decide) ?_
  refine cw.mk (.refl _) ?_
  rw[if_pos h,aG.gD]
  split<;>rfl
 ·refine⟨fun vs H=>H=B∧∃j:Nat,vs=[.int .u64 ((aG.yc u j:Nat):Int),.int .i64 (j:Int)]∧j≤64,fun vs _=>64-bK vs 1,JE.mk ⟨rfl,0,rfl,by omega⟩,?_⟩
  rintro w1 w2 H ⟨rfl,j,hv,hj⟩ gs
  simp only[List.cons.injEq,and_true]at hv
  obtain⟨rfl,rfl⟩:=hv
  refine ae.fu (b:=64) (Br.dec (fun hlt=>?_) (fun hlt=>?_))
  ·refine ae.qw (by simp[aE];omega) ?_
   have hs:j>>>u<64:=Nat.lt_of_le_of_lt (Nat.shiftRight_le _ _) hlt
   refine ae.p6 (b:=1) (by simp[aE];omega) (by decide) ?_
   have h1:j>>>u&&&1≤1:=by rw[aG.gD];split<;>decide
   refine aY.nat (by simp[aE];omega) ?_
   refine ae.Bp ?_
   have h2:((j>>>u&&&1)<<<j)<18446744073709551616:=by
    rw[Nat.shiftLeft_eq]
    calc _≤1*2^j:=Nat.mul_le_mul_right _ h1
     _<2^64:=by rw[Nat.one_mul];exact Nat.pow_lt_pow_right (by decide) hlt
   rw[Nat.mod_eq_of_lt h2]
   have h3:aG.yc u j<18446744073709551616:=Nat.lt_of_lt_of_le (aG.yb u j) (Nat.pow_le_pow_right (n:=2) (by decide) hj)
   refine ae.U3 (by simpa[aE]using h3) (by simpa[aE]using h2) ?_
   refine ae.aN (b:=1) (by simp[aE];omega) ?_
   exact aC.mk ⟨rfl,j+1,rfl,by omega⟩ (by simp[bK];omega)
  ·have:j=64:=by omega
   subst this
   exact cw.mk (.refl _) (by rw[if_neg h];rfl)
theorem nt{n:Nat}(hn:n≤16){fv:Value}{f:FuncId}{first cap:Array Value}(Mc:fv=.func (.func f) first cap)(gJ:bA Tryz.prog f=true){F:Nat→Nat}(hF:∀i,i<aG.wN n→F i<18446744073709551616){B:Hp}
 (hc:∀i:Nat,i<aG.wN n→Rd Tryz.prog f (first++ #[.int .i64 (i:Int)]++cap) B (· =.int .u64 ((F i:Nat):Int))):
  Px Tryz.prog 212 #[.int .i64 (n:Int),fv] B (fun v H=>Co H v ⟨n,(List.range (aG.wN n)).map fun i=>F i&&&aG.dw n⟩):=by
 intro g
 have Y1:=aG.sP hn
 refine DX (R:=aB _) ?_
 unfold L212
 intro b1 _
 refine ag.rd (.cons .here) (yM hn B) ?_
 rintro v rfl
 refine cZ.ints (jL hn).1 (jL hn).2 fun bw=>?_
 refine Build.mk (cs:=[.int .i64 (n:Int),.slice (some ⟨bw,0,none⟩) (aG.wN n) (aG.wN n)]) (by kernel_rfl) ?_
 intro b8 _
 refine St.whole (r:=[.int .i64 (n:Int),.slice (some ⟨bw,0,none⟩) (aG.wN n) (aG.wN n)]) (by exact cM.head _) rfl rfl (by simp[Value.oneCell']) ?_
 refine aa.mk (Ld.mk zM rfl ?_)
 refine aO.mk ?_
 rw[range_zero (G:=fun i=>F i&&&aG.dw n)]
 refine⟨fun vs H=>∃i:Nat,vs=[.int .i64 (i:Int)]∧i≤aG.wN n∧H=(b8,.cells (List.toArray [.int .i64 (n:Int),.slice (some ⟨bw,0,none⟩) (aG.wN n) (aG.wN n)]) 57 (0,0))::
   (bw,.cells (aA .u64 (iw ((List.range (aG.wN n)).map fun k=>if k<i then F k&&&aG.dw n else 0))) 50 (0,0))::(b1,.cells #[.int .i64 0,.slice none 0 0] 57 (0,0))::B,
  fun vs _=>aG.wN n-bK vs 0,JE.mk ⟨0,rfl,by omega,rfl⟩,?_⟩
 rintro w H ⟨i,hv,hi,rfl⟩ gs
 simp only[List.cons.injEq,and_true]at hv
 subst hv
 refine ae.fu (Br.dec (fun hlt=>?_) (fun hlt=>?_))
 ·refine DR.self ?_
  refine aa.mk (Ld.mk zM rfl ?_)
  refine cC.of Mc gJ ?_
  refine ag.rd (.cons (.cons (.cons .here))) (hc i hlt) ?_
  rintro v rfl
  refine⟨.refl _,?_⟩
  refine ag.rd (.cons (.cons (.cons .here))) (F5 hn B) ?_
  rintro v rfl
  refine⟨.refl _,?_⟩
  refine ae.p6 (by simpa[aE]using hF i hlt) (by simpa[aE]using aG.pR n) ?_
  refine ah.nat hlt ?_
  refine St.ints (l:=iw _) (by exact .tail (.head _)) (by simpa using hlt) ?_
  refine ae.aN (b:=1) (by simp[aE];omega) ?_
  rw[Hq hlt]
  exact aC.mk ⟨i+1,rfl,by omega,rfl⟩ (by simp[bK];omega)
 ·have:i=aG.wN n:=by omega
  subst this
  rw[Bu]
  refine aD.whole (r:=[.int .i64 (n:Int),.slice (some ⟨bw,0,none⟩) (aG.wN n) (aG.wN n)]) (by exact List.Mem.head _) rfl ?_
  refine St.whole (r:=[.int .i64 (n:Int),.slice (some ⟨bw,0,none⟩) (aG.wN n) (aG.wN n)]) (by exact .tail (.tail (.head _))) rfl rfl (by simp[Value.oneCell']) ?_
  refine aD.whole (r:=[.int .i64 (n:Int),.slice (some ⟨bw,0,none⟩) (aG.wN n) (aG.wN n)]) (by exact .tail _ (.tail _ (.head _))) rfl ?_
  refine Gz.mk (by repeat (first|exact bR.refl _|apply bR.cons|apply bR.app)) ⟨_,rfl,?_⟩
  have:=Words.block (b:=bw) (cap:=aG.wN n) (ws:=(List.range (aG.wN n)).map fun i=>F i&&&aG.dw n) (T:=50) (fz:=(0,0)) (B:=(b8,.cells (List.toArray [.int .i64 (n:Int),.slice (some ⟨bw,0,none⟩) (aG.wN n) (aG.wN n)]) 57 (0,0))::
   (bw,.cells (aA .u64 (iw ((List.range (aG.wN n)).map fun i=>F i&&&aG.dw n))) 50 (0,0))::(b1,.cells (List.toArray [.int .i64 (n:Int),.slice (some ⟨bw,0,none⟩) (aG.wN n) (aG.wN n)]) 57 (0,0))::B) (by exact .tail _ (.head _)) (by simp) (fun w hw=>by
    obtain⟨k,_,rfl⟩:=List.mem_map.1 hw
    exact Nat.lt_of_le_of_lt Nat.and_le_right (aG.pR n))
  simpa using this
theorem Mq{B:Hp}{pv pb pa s:Value}{u n i:Nat}{c:Bool}{ws:List Nat}(hv:Go.Sx.At B pv [.int .i64 (u:Int)])(hb:Go.Sx.At B pb [.bool c])(ha:Go.Sx.At B pa [.int .i64 (n:Int),s])(hw:Words B s ws)(hf:aG.fA n ws)(hu:u<n)(hi:i<aG.wN n):
  Rd Tryz.prog 256 #[.int .i64 (i:Int),pv,pb,pa] B (· =.int .u64 ((aG.pQ ws u c i:Nat):Int)):=by
 intro g
 have hn:=hf.yC
 have Y1:=aG.sP hn
 refine Dn (R:=aB _) ?_
 unfold L256
 refine Ld.at hv (fun _ h=>h) ?_
 refine ae.rG (a:=u) (b:=6) (Br.dec (fun h6=>?_) (fun h6=>?_))
 ·have hp:2^(u-6)≤1024:=Nat.pow_le_pow_right (n:=2) (by decide) (by omega:u-6≤10)
  refine Ld.at hv (fun _ h=>h) ?_
  refine ae.bF (b:=6) (by simp[aE];omega) h6 ?_
  refine ae.Bq (a:=1) (by simp[IntKind.bits];omega) (by rw[Nat.one_shiftLeft];simp[aE];omega) ?_
  rw[Nat.one_shiftLeft]
  refine ae.Nm (by simp[aE];omega) (by simp[aE];omega) ?_
  have hand:=p5 i (2^(u-6))
  intro J hJ
  have Wr:aG.aI i (u-6) c<aG.wN n:=by
   rw[aG.Fj (by omega)]at hi⊢
   exact aG.OL hi (by omega)
  have qL:JE J [.int .i64 ((aG.aI i (u-6) c:Nat):Int)] B:=by
   refine JE.mk (hJ _ _ fun gs=>?_)
   refine aa.at ha fun q hq=>Ld.at hq (fun _ h=>h) ?_
   have hg:ws[aG.aI i (u-6) c]? =some (ws.getD (aG.aI i (u-6) c) 0):=by rw[List.getElem?_eq_getElem (by rw[hf.len];exact Wr),List.getD_eq_getElem?_getD,List.getElem?_eq_getElem (by rw[hf.len];exact Wr)];rfl
   refine hw.1.ld (cm hg) (fun _ h=>h) ?_
   exact cw.mk (.refl _) (by unfold aG.pQ;rw[if_pos h6])
  refine Ld.at hb (fun _ h=>h) ?_
  cases c
  ·exact Br.no qL
  ·refine Br.yes ?_
   refine Ld.at hv (fun _ h=>h) ?_
   refine ae.bF (b:=6) (by simp[aE];omega) h6 ?_
   refine ae.Bq (a:=1) (by simp[IntKind.bits];omega) (by rw[Nat.one_shiftLeft];simp[aE];omega) ?_
   rw[Nat.one_shiftLeft]
   refine ae.U3 (by simp[aE];omega) (by simp[aE];omega) ?_
   have e:oP i (2^(u-6))|||2^(u-6)=aG.aI i (u-6) true:=by
    apply Nat.eq_of_testBit_eq;intro k
    rw[Nat.testBit_or,dJ,aG.ay,Nat.testBit_two_pow]
    by_cases e:k=u-6
    ·simp[e]
    ·simp[e,Ne.symm e]
   rw[e];exact qL
 ·have hp:2^u≤32:=Nat.pow_le_pow_right (n:=2) (by decide) (by omega:u≤5)
  have hg:ws[i]? =some (ws.getD i 0):=by rw[List.getElem?_eq_getElem (by rw[hf.len];exact hi),List.getD_eq_getElem?_getD,List.getElem?_eq_getElem (by rw[hf.len];exact hi)];rfl
  have hwi:=hw.2 _ (List.mem_of_getElem? hg)
  have hm:=aG.js u
  refine DR.self ?_
  refine Ld.at hv (fun _ h=>h) (Ld.at hv (fun _ h=>h) ?_)
  refine ae.Bq (a:=1) (b:=u) (by simp[IntKind.bits];omega) (by rw[Nat.one_shiftLeft];simp[aE];omega) ?_
  rw[Nat.one_shiftLeft]
  refine ag.rd .here (wI (u:=u) (i:=0) (by omega) (by omega) (by omega) B) ?_
  rintro v rfl
  rw[if_neg h6]
  refine⟨.refl _,?_⟩
  refine Ld.at hb (fun _ h=>h) ?_
  cases c
  ·refine Br.no ?_
   refine aa.at ha fun q hq=>Ld.at hq (fun _ h=>h) ?_
   refine hw.1.ld (cm hg) (fun _ h=>h) ?_
   refine ae.Nm (by simpa[aE]using hwi) (by simpa[aE]using hm) ?_
   refine ae.Bp ?_
   have:=p5 (ws.getD i 0) (aG.mask u)
   refine ae.U3 (by simp only[aE];omega) (by simp only[aE];omega) ?_
   exact cw.mk (.refl _) (by unfold aG.pQ;rw[if_neg h6];rfl)
  ·refine Br.yes ?_
   refine aa.at ha fun q hq=>Ld.at hq (fun _ h=>h) ?_
   refine hw.1.ld (cm hg) (fun _ h=>h) ?_
   refine ae.p6 (by simpa[aE]using hwi) (by simpa[aE]using hm) ?_
   have h1:ws.getD i 0&&&aG.mask u≤ws.getD i 0:=Nat.and_le_left
   refine ae.qw (by simp only[aE];omega) ?_
   have h2:=Nat.shiftRight_le (ws.getD i 0&&&aG.mask u) (2^u)
   refine ae.U3 (by simp only[aE];omega) (by simp only[aE];omega) ?_
   exact cw.mk (.refl _) (by unfold aG.pQ;rw[if_neg h6];rfl)
theorem PB{B:Hp}{v:Value}{n u:Nat}{ws:List Nat}{c:Bool}(ht:Co B v ⟨n,ws⟩)(hf:aG.fA n ws)(hu:u<n):
  Px Tryz.prog 215 #[v,.int .i64 (u:Int),.bool c] B (fun v H=>Co H v ⟨n,aG.kz n ws u c⟩):=by
 obtain⟨s,rfl,hw⟩:=ht
 intro g
 refine DU (R:=aB _) ?_
 unfold L215
 intro b1 _ b3 _ b5 _ b7 _
 refine aa.mk (Ld.mk zM rfl ?_)
 refine ag.px (.cons .here) (nt hf.yC rfl (by kernel_rfl) (F:=fun i=>aG.pQ ws u c i) (fun i hi=>?_) (fun i hi=>?_)) ?_
 ·unfold aG.pQ
  split
  ·by_cases h:aG.aI i (u-6) c<ws.length
   ·rw[List.getD_eq_getElem?_getD,List.getElem?_eq_getElem h];exact hf.lt (List.getElem_mem h)
   ·rw[List.getD_eq_getElem?_getD,List.getElem?_eq_none (by omega)];decide
  ·have hg:ws.getD i 0<2^64:=by rw[List.getD_eq_getElem?_getD,List.getElem?_eq_getElem (by rw[hf.len];exact hi)];exact hf.lt (List.getElem_mem _)
   split
   ·refine Nat.or_lt_two_pow (n:=64) (Nat.lt_of_le_of_lt Nat.and_le_left hg) (Nat.lt_of_le_of_lt (Nat.shiftRight_le _ _) (Nat.lt_of_le_of_lt Nat.and_le_left hg))
   ·exact Nat.or_lt_two_pow (n:=64) (Nat.lt_of_le_of_lt (p5 _ _) hg) (Nat.mod_lt _ (by decide))
 ·exact Mq (Go.Sx.At.block (l:=[.int .i64 (u:Int)]) zM) (Go.Sx.At.block (l:=[.bool c]) zM) (Go.Sx.At.block (l:=[.int .i64 (n:Int),s]) zM) (hw.mono zS) hf hu hi
 ·rintro v N ⟨s',rfl,dx⟩
  refine St.whole (r:=[.int .i64 (n:Int),s']) (by exact .head _) rfl rfl ?_ ?_
  ·have:=aT dx;simpa[Value.oneCell']using this
  refine aD.whole (r:=[.int .i64 (n:Int),s']) (by exact .head _) rfl ?_
  exact Gz.mk (by repeat (first|exact bR.refl _|apply bR.cons|apply bR.app)) ⟨s',rfl,dx.mono zS⟩
theorem xw{B:Hp}{v:Value}{n u:Nat}{ws:List Nat}{c:Bool}(ht:Co B v ⟨n,ws⟩)(hf:aG.fA n ws)(hu:u<n):
  Px Tryz.prog 148 #[v,.int .i64 (u:Int),.bool c] B (fun r H=>∃v',r=.tuple #[v',.int .i64 0]∧Co H v' ⟨n,aG.kz n ws u c⟩):=by
 obtain⟨s,rfl,hw⟩:=ht
 intro g
 refine EA (R:=aB _) ?_
 unfold L148
 intro b1 _ b3 _
 refine aD.whole (r:=[.int .i64 (n:Int),s]) (by exact .tail _ (.head _)) rfl ?_
 refine ag.rd .here (V6 (t:=⟨n,ws⟩) ⟨s,rfl,hw.mono zS⟩ (u:Int)) ?_
 rintro v rfl
 rw[if_pos (show TF ⟨(n:Int),ws⟩from⟨by simp,by simpa using hf⟩),if_pos ⟨by omega,by simp only;omega⟩]
 refine ae.dh (Br.bt (by simp) ?_)
 refine aD.whole (r:=[.int .i64 (n:Int),s]) (by exact .tail _ (.head _)) rfl ?_
 refine ag.px (.cons .here) (PB (v:=.agg (List.toArray [.int .i64 (n:Int),s])) ⟨s,rfl,hw.mono zS⟩ hf hu) ?_
 rintro v N ⟨s',rfl,dx⟩
 refine St.whole (r:=[.int .i64 (n:Int),s']) (by exact .head _) rfl rfl ?_ ?_
 ·have:=aT dx;simpa[Value.oneCell']using this
 refine aD.whole (r:=[.int .i64 (n:Int),s']) (by exact .head _) rfl ?_
 exact Gz.mk (by repeat (first|exact bR.refl _|apply bR.cons|apply bR.app)) ⟨_,rfl,s',rfl,dx.mono zS⟩
theorem As{w j:Nat}(hj:j<8):((List.range (j+1)).map fun i=>UInt8.ofNat (w>>>(8*i)))=((List.range j).map fun i=>UInt8.ofNat (w>>>(8*i)))++[UInt8.ofNat (w>>>(8*j))]:=by
 rw[List.range_succ,List.map_append];rfl
theorem IC(l:List UInt8)(n:Nat):qU (l++[UInt8.ofNat n])=qU l++[[Value.int .u8 ((n%256:Nat):Int)]]:=by
 simp[qU]
theorem BI{B:Hp}{v:Value}{t:Tb}(ht:Co B v t)(hl:t.ws.length≤4294967296):Rd Tryz.prog 234 #[v] B (· =xy (aG.gg t.ws)):=by
 obtain⟨s,rfl,hw⟩:=ht
 intro g
 refine DH (R:=aB _) ?_
 unfold L234
 intro b1 _
 refine aa.mk (Ld.mk zM rfl ?_)
 refine hw.1.bQ ?_
 rw[an]
 refine⟨fun vs H=>∃(k:Nat) (v:Value) (C:Hp),vs=[v,.int .i64 (k:Int)]∧k≤t.ws.length∧H=C++B∧aS 5 1 v (qU (aG.gg (t.ws.take k))) C,fun vs _=>t.ws.length-bK vs 1,
  JE.of (.tail) ⟨0,_,[],rfl,by omega,rfl,aS.nil _ _⟩,?_⟩
 rintro w6 w7 H ⟨k,v,C,hv,hk,rfl,ho⟩ gs
 simp only[List.cons.injEq,and_true]at hv
 obtain⟨rfl,rfl⟩:=hv
 refine ae.fu (Br.dec (fun hlt=>?_) (fun hlt=>?_))
 ·have hg:t.ws[k]? =some t.ws[k]:=List.getElem?_eq_getElem hlt
  have hwk:=hw.2 _ (List.getElem_mem hlt)
  refine hw.1.ld (cm hg) zS ?_
  have hlen:(qU (aG.gg (t.ws.take k))).length=8*k:=by simp only[qU,List.length_map,aG.rE,List.length_take];omega
  refine⟨fun vs H=>∃(j:Nat) (v:Value) (C:Hp),vs=[v,.int .i64 (j:Int)]∧j≤8∧H=C++B∧aS 5 1 v (qU (aG.gg (t.ws.take k)++(List.range j).map fun i=>UInt8.ofNat (t.ws[k]>>>(8*i)))) C,fun vs _=>8-bK vs 1,
   JE.mk ⟨0,_,C,rfl,by omega,rfl,by simpa using ho⟩,?_⟩
  rintro w8 w9 H ⟨j,v,C,hv,hj,rfl,ho⟩ gs
  simp only[List.cons.injEq,and_true]at hv
  obtain⟨rfl,rfl⟩:=hv
  refine ae.fu (b:=8) (Br.dec (fun h8=>?_) (fun h8=>?_))
  ·refine ae.rZ (a:=8) (by simp[aE];omega) ?_
   refine ae.qw (by simpa[aE]using hwk) ?_
   refine aY.adm ?_
   refine au.int (e:=5) (by kernel_rfl) (by kernel_rfl) (by kernel_rfl) fun xb=>?_
   refine ho.IJ (A:=[_]) (r:=[Value.int .u8 (((t.ws[k]>>>(8*j))%256:Nat):Int)]) (by exact .head _) rfl (by simp[Value.oneCell']) ⟨[.int .u8 0],rfl,rfl⟩ (by simp only[qU,List.length_map,List.length_append,List.length_range]at hlen⊢;omega) (by simp only[qU,List.length_map,List.length_append,List.length_range]at hlen⊢;omega) fun v' C' cz=>?_
   refine ae.aN (b:=1) (by simp[aE];omega) ?_
   refine aC.of .tail ⟨j+1,_,C',rfl,by omega,rfl,?_⟩ (by simp[bK];omega)
   rw[As h8,←List.append_assoc,IC];exact cz
  ·have:j=8:=by omega
   subst this
   refine ae.aN (b:=1) (by simp[aE];omega) ?_
   refine aC.mk ⟨k+1,_,C,rfl,by omega,rfl,?_⟩ (by simp[bK];omega)
   rw[List.take_succ_eq_append_getElem hlt,aG.gg,List.flatMap_append]
   simpa[aG.gg,aG.jL]using ho
 ·have:k=t.ws.length:=by omega
  subst this
  rw[List.take_length]at ho
  refine jO.own ho (fun _ h=>List.mem_append_left _ h) ?_
  exact cw.mk .right rfl
theorem Uk{B:Hp}{b n:Nat}{es:Array MapEntry}{ck:Nat}{m:List (List UInt8×List Nat)}{v:Value}{ws:List Nat}(hE:fI n B es ck m)(ht:Co B v ⟨n,ws⟩)(hf:aG.fA n ws):
  Fc Tryz.prog 233 #[.map (some b),v] ((b,.map es ck)::B) (fun _ H=>∃es' cO N,H=(b,.map es' cO)::(N++B)∧fI n (N++B) es' cO (xu m ws)):=by
 obtain⟨s,rfl,hw⟩:=ht
 intro g
 refine DI (R:=aB _) ?_
 unfold L233
 intro b1 _
 refine DR.self ?_
 refine aD.whole (r:=[.int .i64 (n:Int),s]) (by exact .head _) rfl ?_
 refine aD.whole (r:=[.int .i64 (n:Int),s]) (by exact .head _) rfl ?_
 refine ag.rd (.cons (.cons .here)) (BI (t:=⟨n,ws⟩) ⟨s,rfl,hw⟩ (x7 hf)) ?_
 rintro v rfl
 refine⟨.refl _,?_⟩
 refine hE.cg (b:=b) ⟨s,rfl,hw⟩ hf fun es' cO N9=>⟨_,.tail (.head _),?_⟩
 exact aB.mk (lS:=(b,.map es' cO)::([]++B)) .tail ⟨es',cO,[],rfl,N9⟩
theorem Hx{B:Hp}{v:Value}{n:Nat}{ts:List Tb}{L:List (List Nat)}(ht:gi B v ts)(hL:ts=L.map fun ws=>⟨n,ws⟩)(hf:∀ws∈L,aG.fA n ws)(ca:L.length<4611686018427387904):
  Fc Tryz.prog 176 #[v] B (fun r H=>∃b es ck m N,r=.map (some b)∧H=(b,.map es ck)::(N++B)∧fI n (N++B) es ck m∧∀x,x∈m.map Prod.snd↔x∈L):=by
 have hlen:ts.length=L.length:=by rw[hL];simp
 intro g
 refine En (R:=aB _) ?_
 unfold L176
 intro b _
 refine ht.bQ ?_
 rw[hlen]
 refine⟨fun vs H=>∃(k:Nat) (es:Array MapEntry) (ck:Nat) (m:List (List UInt8×List Nat)) (N:Hp),vs=[.int .i64 (k:Int)]∧k≤L.length∧H=(b,.map es ck)::(N++B)∧fI n (N++B) es ck m∧∀x,x∈m.map Prod.snd↔x∈L.take k,
  fun vs _=>L.length-bK vs 0,JE.mk ⟨0,_,_,[],[],rfl,by omega,rfl,fI.empty _ _,by simp⟩,?_⟩
 rintro w H ⟨k,es,ck,m,N,hv,hk,rfl,hE,hm⟩ gs
 simp only[List.cons.injEq,and_true]at hv
 subst hv
 refine ae.fu (Br.dec (fun hlt=>?_) (fun hlt=>?_))
 ·have hg:ts[k]? =some ⟨n,L[k]⟩:=by rw[hL,List.getElem?_map,List.getElem?_eq_getElem hlt];rfl
  have pO:=hf L[k] (List.getElem_mem hlt)
  refine ht.ld hg zS fun s hw=>?_
  intro b2 _
  refine St.whole (r:=[.int .i64 (n:Int),s]) (by exact .head _) rfl rfl ?_ ?_
  ·have:=aT hw;simpa[Value.oneCell']using this
  refine aD.whole (r:=[.int .i64 (n:Int),s]) (by exact .head _) rfl ?_
  refine ag.fn (.cons .here) (Uk hE ⟨s,rfl,hw.mono zS⟩ pO) ?_
  rintro r C' ⟨es',cO,N',rfl,N9⟩
  refine ae.aN (b:=1) (by simp[aE];omega) ?_
  refine aC.of .tail ⟨k+1,es',cO,xu m L[k],N'++N,rfl,by omega,by rw[List.append_assoc],by rw[List.append_assoc];exact N9,fun x=>?_⟩ (by simp[bK];omega)
  rw[qu hE.2 pO,hm,List.take_succ_eq_append_getElem hlt,List.mem_append,List.mem_singleton]
 ·have:k=L.length:=by omega
  subst this
  rw[List.take_length]at hm
  exact aB.here ⟨b,es,ck,m,N,rfl,rfl,hE,hm⟩
theorem MA{B:Hp}{bm n u:Nat}{es:Array MapEntry}{ck:Nat}{m:List (List UInt8×List Nat)}(hm:(bm,Obj.map es ck)∈B)(hE:fI n B es ck m)(hu:u<n)(ca:m.length<4611686018427387904):
  Fc Tryz.prog 177 #[.map (some bm),.int .i64 (u:Int)] B (fun r H=>∃b' es' cO m' N,r=.tuple #[.map (some b'),.int .i64 ((aG.nodes n (m.map Prod.snd) u).length:Int)]∧H=(b',.map es' cO)::(N++B)∧fI n (N++B) es' cO m'∧
   ∀x,x∈m'.map Prod.snd↔∃t∈m.map Prod.snd,∃c,x=aG.kz n t u c):=by
 intro g
 refine Em (R:=aB _) ?_
 unfold L177
 intro b' _
 refine .inr ⟨bm,es,ck,rfl,.tail _ hm,fun bi _=>?_⟩
 refine⟨fun vs H=>∃(es':Array MapEntry) (cO:Nat) (m':List (List UInt8×List Nat)) (seen:Array Nat) (N:Hp) (D:List (List Nat)),vs=[.int .i64 ((aG.nodes n D u).length:Int)]∧
   H=(bi,.mapIter (some bm) ck seen ck)::(b',.map es' cO)::(N++B)∧fI n (N++B) es' cO m'∧(m.map Prod.snd).Perm (D++(cJ es m seen).map Prod.snd)∧∀x,x∈m'.map Prod.snd↔∃t∈D,∃c,x=aG.kz n t u c,
  fun vs H=>match H with|(_,.mapIter _ _ seen _)::_=>(cJ es m seen).length|_=>0,JE.mk ⟨_,_,[],_,[],[],rfl,rfl,fI.empty _ _,?_,by simp⟩,?_⟩
 ·rw[og hE.1];simp
 rintro w H ⟨es',cO,m',seen,N,D,hv,rfl,N9,cG,hmem⟩ gs
 simp only[List.cons.injEq,and_true]at hv
 subst hv
 have hbm:∀{X:Hp},(bm,Obj.map es ck)∈X++B:=List.mem_append_right _ hm
 refine hE.1.next (.tail _ (.tail _ hbm)) (.head _) (fun e x seen' he hkey hval hstep Xj hfind=>⟨_,.head _,?_⟩) (fun abE=>?_)
 ·obtain⟨bs,ws⟩:=x
  simp only at hval hkey
  refine Ext.mk rfl (Br.yes ?_)
  refine⟨bi,bm,ck,seen',e.born,ck,es,e,rfl,.head _,Xj,.tail _ (.tail _ hbm),hfind,?_⟩
  refine Ext.mk rfl ?_
  have hx:(bs,ws)∈m:=by
   have h:=hstep.mem_iff.2 (List.mem_cons_self (a:=(bs,ws)))
   unfold cJ at h
   obtain⟨p,hp,oI⟩:=List.mem_map.1 h
   rw[←oI]
   exact(List.of_mem_zip (List.mem_filter.1 hp).1).2
  obtain⟨hbs,hf⟩:=hE.2 _ hx
  simp only at hbs hf
  obtain⟨s,W7,hw⟩:=hval
  rw[W7]
  have hone:=aT hw
  intro b1 _
  refine St.whole (r:=[.int .i64 (n:Int),s]) (by exact .head _) rfl rfl (by simpa[Value.oneCell']using hone) ?_
  refine aD.whole (r:=[.int .i64 (n:Int),s]) (by exact .head _) rfl ?_
  refine ag.px (B:=N++B) (.cons (.cons (.cons .here))) (xw (n:=n) (ws:=ws) ⟨s,rfl,hw.mono zS⟩ hf hu) ?_
  rintro r N1 ⟨v1,rfl,s1,rfl,kF⟩
  have WC:=aT kF
  refine Ext.mk rfl (Ext.mk rfl ?_)
  intro b2 _
  refine St.whole (r:=[.int .i64 (n:Int),s1]) (by exact .head _) rfl rfl (by simpa[Value.oneCell']using WC) ?_
  refine aD.whole (r:=[.int .i64 (n:Int),s]) (by exact .tail _ (.head _)) rfl ?_
  refine ag.px (B:=N1++(N++B)) (.cons (.cons (.cons (.cons .here)))) (xw (n:=n) (ws:=ws) ⟨s,rfl,hw.mono zS⟩ hf hu) ?_
  rintro r N2 ⟨v2,rfl,s2,rfl,qI⟩
  have WB:=aT qI
  refine Ext.mk rfl (Ext.mk rfl ?_)
  intro b3 _
  refine St.whole (r:=[.int .i64 (n:Int),s2]) (by exact .head _) rfl rfl (by simpa[Value.oneCell']using WB) ?_
  refine DR.self ?_
  refine aD.whole (r:=[.int .i64 (n:Int),s1]) (by exact .tail _ (.head _)) rfl ?_
  refine aD.whole (r:=[.int .i64 (n:Int),s2]) (by exact .head _) rfl ?_
  have f1:=aG.jx (v:=u) (ws:=ws) (b:=false) hf.yC
  have f2:=aG.jx (v:=u) (ws:=ws) (b:=true) hf.yC
  refine ag.rd (B:=N2++(N1++(N++B))) (.cons (.cons (.cons (.cons (.cons .here))))) (BI (t:=⟨n,aG.kz n ws u false⟩) ⟨s1,rfl,kF.mono zS⟩ (x7 f1)) ?_
  rintro v rfl
  refine⟨.refl _,?_⟩
  refine ag.rd (B:=N2++(N1++(N++B))) (.cons (.cons (.cons (.cons (.cons .here))))) (BI (t:=⟨n,aG.kz n ws u true⟩) ⟨s2,rfl,qI⟩ (x7 f2)) ?_
  rintro v rfl
  refine⟨.refl _,?_⟩
  intro J hJ
  have xU:(aG.gg (aG.kz n ws u false)≠aG.gg (aG.kz n ws u true))↔aG.dep n ws u=true:=by
   simp only[aG.dep,ne_eq,decide_eq_true_eq]
   exact not_congr ⟨fun h=>f1.key_inj f2 h,fun h=>by rw[h]⟩
  have qL:JE J [.int .i64 ((aG.nodes n (D++[ws]) u).length:Int)] ((b3,.cells (List.toArray [.int .i64 (n:Int),s2]) 57 (0,0))::(b2,.cells (List.toArray [.int .i64 (n:Int),s1]) 57 (0,0))::
    (b1,.cells (List.toArray [.int .i64 (n:Int),s]) 57 (0,0))::(bi,.mapIter (some bm) ck seen' ck)::(b',.map es' cO)::(N2++(N1++(N++B)))):=by
   refine JE.mk (hJ _ _ fun gs=>?_)
   refine DR.of (R:=(b3,.cells (List.toArray [.int .i64 (n:Int),s2]) 57 (0,0))::(b2,.cells (List.toArray [.int .i64 (n:Int),s1]) 57 (0,0))::[]) ?_ ?_
   ·exact .cons (.cons (fun g w h=>(Own.left (B:=_) (A:=[]) h)))
   refine aD.whole (r:=[.int .i64 (n:Int),s1]) (by exact .tail _ (.head _)) rfl ?_
   refine aD.whole (r:=[.int .i64 (n:Int),s2]) (by exact .head _) rfl ?_
   have PS:=N9.mono (B':=N2++(N1++(N++B))) zS
   refine PS.cg (b:=b') (ws:=aG.kz n ws u false) ⟨s1,rfl,kF.mono zS⟩ f1 fun P9 Ue Rv=>⟨_,.tail (.tail (.tail (.tail (.head _)))),?_⟩
   refine⟨.cons (.cons (fun g w h=>(Own.left (B:=_) (A:=[]) h))),?_⟩
   refine Rv.cg (b:=b') (ws:=aG.kz n ws u true) ⟨s2,rfl,qI⟩ f2 fun wF A2 hE4=>⟨_,.tail (.tail (.tail (.tail (.head _)))),?_⟩
   refine aC.of (H':=(bi,.mapIter (some bm) ck seen' ck)::(b',.map wF A2)::((N2++(N1++N))++B)) ?_ ⟨wF,A2,xu (xu m' (aG.kz n ws u false)) (aG.kz n ws u true),seen',N2++(N1++N),D++[ws],rfl,rfl,?_,?_,fun x=>?_⟩ ?_
   ·refine .skip (.skip (.skip (.cons (.cons ?_))))
    intro g w h;rw[List.append_assoc,List.append_assoc];exact h
   ·rw[List.append_assoc,List.append_assoc];exact hE4
   ·refine cG.trans ?_
    refine(List.Perm.append_left D (hstep.map Prod.snd)).trans ?_
    simp only[List.map_cons,List.append_assoc,List.cons_append,List.nil_append]
    exact .refl _
   ·rw[qu Rv.2 f2,qu PS.2 f1,hmem]
    constructor
    ·rintro((⟨t,ht,c,rfl⟩|rfl)|rfl)
     ·exact⟨t,by simp[ht],c,rfl⟩
     ·exact⟨ws,by simp,_,rfl⟩
     ·exact⟨ws,by simp,_,rfl⟩
    ·rintro⟨t,ht,c,rfl⟩
     rcases List.mem_append.1 ht with ht|ht
     ·exact .inl (.inl ⟨t,ht,c,rfl⟩)
     ·simp at ht;subst ht
      cases c
      ·exact .inl (.inr rfl)
      ·exact .inr rfl
   ·have:=hstep.length_eq
    simp only[List.length_cons]at this⊢
    omega
  refine ae.VU (Br.dec (fun h=>?_) (fun h=>?_))
  ·refine ae.aN (b:=1) ?_ ?_
   ·have h1:=cG.length_eq
    simp only[List.length_map,List.length_append]at h1
    have h2:(aG.nodes n D u).length≤D.length:=List.length_filter_le _ _
    simp[aE];omega
   ·have:(aG.nodes n (D++[ws]) u).length=(aG.nodes n D u).length+1:=by
     simp[aG.nodes,List.filter_append,xU.1 h]
    rw[this]at qL;exact qL
  ·have:(aG.nodes n (D++[ws]) u).length=(aG.nodes n D u).length:=by
    have hd:aG.dep n ws u=false:=by cases hh:aG.dep n ws u;rfl;exact absurd (xU.2 hh) h
    simp[aG.nodes,List.filter_append,hd]
   rw[this]at qL;exact qL
 ·refine Ext.mk rfl (Br.no ?_)
  rw[abE]at cG
  simp only[List.map_nil,List.append_nil]at cG
  refine aB.mk (lS:=(b',.map es' cO)::(N++B)) .tail ⟨b',es',cO,m',N,?_,rfl,N9,fun x=>?_⟩
  ·rw[aG.td cG]
  ·rw[hmem]
   constructor
   ·rintro⟨t,ht,h⟩;exact⟨t,cG.mem_iff.2 ht,h⟩
   ·rintro⟨t,ht,h⟩;exact⟨t,cG.mem_iff.1 ht,h⟩
theorem Hg{B:Hp}{v:Value}{ts:List Tb}(ht:gi B v ts)(ca:ts.length<2^62):Rd Tryz.prog 175 #[v] B (· =.bool (decide (∀t∈ts,TF t∧some t.n=ts.head?.map Tb.n))):=by
 intro g
 refine Eo (R:=aB _) ?_
 unfold L175
 refine ht.bQ ?_
 refine⟨fun vs H=>bR B H∧∃k:Nat,vs=[.int .i64 (k:Int)]∧k≤ts.length∧∀i t,i<k→ts[i]? =some t→TF t∧some t.n=ts.head?.map Tb.n,fun vs _=>ts.length-bK vs 0,JE.mk ⟨.refl _,0,rfl,by omega,by omega⟩,?_⟩
 rintro w H ⟨hg,k,hv,hk,aJ⟩ gs
 simp only[List.cons.injEq,and_true]at hv
 subst hv
 refine ae.fu (Br.dec (fun hlt=>?_) (fun hlt=>?_))
 ·obtain⟨t,lB⟩:∃t,ts[k]? =some t:=⟨_,List.getElem?_eq_getElem hlt⟩
  obtain⟨t0,Wp⟩:∃t,ts[0]? =some t:=⟨_,List.getElem?_eq_getElem (by omega)⟩
  have hh:ts.head?.map Tb.n=some t0.n:=by rw[List.head?_eq_getElem?,Wp];rfl
  have Wo:=ht.mono hg.sub
  refine Wo.ld lB (fun _ h=>h) fun s hs=>?_
  intro b1 _
  refine St.whole (r:=[.int .i64 t.n,s]) (by exact cM.head _) rfl rfl ?_ ?_
  ·obtain⟨a,c,rfl,_⟩:=hs.1.shape;simp[Value.oneCell']
  intro J hJ
  have hno:∀H',bR B H'→¬(TF t∧some t.n=ts.head?.map Tb.n)→JE J [.bool true] H':=fun H' Rg h=>
   JE.mk (hJ _ _ fun gs=>Br.yes (cw.mk Rg.jK (by rw[decide_eq_false];exact fun hh=>h (hh t (List.mem_of_getElem? lB)))))
  have Rf:bR B ((b1,Obj.cells (List.toArray [.int .i64 t.n,s]) 57 (0,0))::H):=.cons hg
  refine DR.self ?_
  refine aD.whole (r:=[.int .i64 t.n,s]) (by exact List.Mem.head _) rfl ?_
  intro F
  refine ag.rd (B:=H) (.cons .here) (Af ⟨s,rfl,hs⟩) ?_
  rintro v rfl
  refine⟨.refl _,Un.not ?_⟩
  by_cases hT:TF t
  case neg=>rw[decide_eq_false hT];exact Br.yes (hno _ Rf fun h=>hT h.1)
  rw[decide_eq_true hT]
  refine Br.no ?_
  refine aa.mk (Ld.mk zM rfl ?_)
  refine Wo.ldN Wp zS ?_
  refine ae.dh (az.mk ?_)
  simp only[cond_false]
  by_cases hn:t.n=t0.n
  case neg=>rw[decide_eq_true hn];exact hno _ Rf fun h=>hn (by have:=h.2;rw[hh]at this;simpa using this)
  rw[decide_eq_false (by simpa using hn)]
  refine JE.mk (hJ _ _ fun gs=>Br.no ?_)
  refine ae.aN (b:=1) (by simp[aE];omega) ?_
  refine aC.mk ⟨Rf,k+1,rfl,by omega,fun i u hi hu=>?_⟩ (by simp[bK];omega)
  by_cases e:i=k
  ·subst e;rw[lB]at hu;cases hu;exact⟨hT,by rw[hh,hn]⟩
  ·exact aJ i u (by omega) hu
 ·refine cw.mk hg.jK ?_
  rw[decide_eq_true]
  intro t htm
  obtain⟨i,hi,rfl⟩:=List.mem_iff_getElem.1 htm
  exact aJ i _ (by omega) (List.getElem?_eq_getElem hi)
def Qu(ts:List Tb):Prop:=∀t∈ts,TF t∧some t.n=ts.head?.map Tb.n
instance (ts:List Tb):Decidable (Qu ts):=by unfold Qu;infer_instance
theorem Bt{B:Hp}{v:Value}{ts:List Tb}(ht:gi B v ts)(ca:ts.length<2^62):Rd Tryz.prog 175 #[v] B (· =.bool (decide (Qu ts))):=Hg ht ca
theorem Lg{n:Nat}{L:List (List Nat)}(hf:∀ws∈L,aG.fA n ws):Qu (L.map fun ws=>⟨n,ws⟩):=by
 intro t ht
 obtain⟨ws,hws,rfl⟩:=List.mem_map.1 ht
 refine⟨⟨by simp,by simpa using hf ws hws⟩,?_⟩
 cases L with
 |nil=>simp at hws
 |cons a b=>rfl
end Go.Proofs
namespace aF
theorem Rm.qM(m:Rm):∀ls ord,m.dZ 0 ls ord=ls.take (m.dZ 0 ls ord).length
 | [],_=>rfl
 |c::cs,ord=>by
  by_cases hf:m.fit ord (0+c)=true
  ·have:=m.qM cs (gI ord (0+c))
   rw[dZ,if_pos hf,List.length_cons,List.take_succ_cons,←this,Nat.zero_add]
  ·rw[dZ,if_neg hf];simp
def Rm.can(m:Rm)(ord ls:List Nat):Bool:=decide ((m.dZ 0 ls ord).length=ls.length)
theorem Rm.Aa(m:Rm){ord ls:List Nat}{i:Nat}(hi:i<(m.dZ 0 ls ord).length){l:Nat}(hl:ls[i]? =some l):m.fit (av ord (ls.take i)) l=true:=by
 obtain⟨_,c,h1,h2⟩:=m.z9 0 ls ord i hi
 rw[hl]at h1;cases h1
 rw[m.qM,List.take_take,Nat.min_eq_left (Nat.le_of_lt hi),Nat.zero_add]at h2
 exact h2
theorem Rm.Il(m:Rm){ord ls:List Nat}{l:Nat}(hl:ls[(m.dZ 0 ls ord).length]? =some l):m.fit (av ord (ls.take (m.dZ 0 ls ord).length)) l=false:=by
 have:=m.Ab 0 ls ord l hl
 rw[Nat.zero_add]at this
 rw[←m.qM]
 exact this
def road(a b:Nat):List Nat:=List.range' a (b-a)++(List.range' b (a-b)).reverse
theorem jZ(a b:Nat):(road a b).length=(b-a)+(a-b):=by simp[road]
theorem l6{a b l n:Nat}(ha:a<n)(hb:b<n)(h:l∈road a b):l+1<n:=by
 unfold road at h
 rcases List.mem_append.1 h with h|h
 ·rw[List.mem_range'_1]at h;omega
 ·rw[List.mem_reverse,List.mem_range'_1]at h;omega
theorem jr{α:Type}[DecidableEq α]:∀{l p:List α},l.Nodup→(∀x∈l,x∈p)→p.length≤l.length→l.Perm p
 | [],p,_,_,h=>by
  have:p=[]:=List.length_eq_zero_iff.1 (by simpa using h)
  subst this;exact .refl _
 |x::t,p,hn,hs,hl=>by
  have hx:=hs x (by simp)
  have hp:=List.perm_cons_erase hx
  have hlen:(p.erase x).length=p.length-1:=List.length_erase_of_mem hx
  have hpos:=List.length_pos_of_mem hx
  refine(List.Perm.cons x (jr (List.nodup_cons.1 hn).2 (fun y hy=>?_) (by simp only[List.length_cons]at hl;omega))).trans hp.symm
  refine(List.mem_erase_of_ne fun e=>?_).2 (hs y (by simp[hy]))
  subst e;exact(List.nodup_cons.1 hn).1 hy
end aF
set_option maxRecDepth 100000
namespace Go.Proofs
open Go Go.Sx
open aF
theorem zD{l:List Nat}(h:l.Nodup):(iw l).Nodup:=List.pairwise_map.2 (h.imp fun hne e=>hne (Int.ofNat.inj e))
theorem nI{p:List Int}:mN p↔p.Perm (iw (List.range p.length)):=by
 constructor
 ·intro h
  refine(jr (zD List.nodup_range) (fun x hx=>?_) (by rw[an,List.length_range];exact Nat.le_refl _)).symm
  obtain⟨k,hk,rfl⟩:=List.mem_map.1 hx
  exact h k (List.mem_range.1 hk)
 ·intro h v hv
  exact h.mem_iff.2 (List.mem_map.2 ⟨v,List.mem_range.2 hv,rfl⟩)
theorem Np{p:List Int}(hn:p.Nodup)(h:∀x∈p,0≤x∧x<(p.length:Int)):mN p:=by
 refine nI.2 (jr hn (fun x hx=>?_) (by rw[an,List.length_range];exact Nat.le_refl _))
 obtain⟨h1,h2⟩:=h x hx
 exact List.mem_map.2 ⟨x.toNat,List.mem_range.2 (by omega),by show((x.toNat:Nat):Int)=x;omega⟩
theorem AB{p:List Int}(h:mN p){x:Int}(hx:x∈p):0≤x∧x<(p.length:Int):=by
 have:=(nI.1 h).mem_iff.1 hx
 obtain⟨k,hk,rfl⟩:=List.mem_map.1 this
 have:=List.mem_range.1 hk
 show(0:Int)≤(k:Int)∧(k:Int)<_
 omega
theorem AA{p:List Int}(h:mN p):p.Nodup:=(nI.1 h).nodup_iff.2 (zD List.nodup_range)
theorem KR{p:List Int}{i n W:Nat}(hi:i<p.length)(hn:p[i]=(n:Int))(hw:n<W):((List.range W).map fun k=>decide (((k:Nat):Int)∈p.take i)).set n true=(List.range W).map fun k=>decide (((k:Nat):Int)∈p.take (i+1)):=by
 apply List.ext_getElem?
 intro j
 rw[List.take_succ_eq_append_getElem hi,hn]
 by_cases hj:j<W
 ·by_cases e:n=j
  ·subst e;rw[List.getElem?_set_self (by simpa using hw)];simp[hw]
  ·rw[List.getElem?_set_ne e]
   simp only[List.getElem?_map,List.getElem?_range hj,Option.map_some,List.mem_append,List.mem_singleton]
   congr 1
   have:¬((j:Nat):Int)=(n:Int):=by omega
   simp[this]
 ·rw[List.getElem?_eq_none (by simp;omega),List.getElem?_eq_none (by simp;omega)]
theorem Hf{p:List Int}{W:Nat}:List.replicate W false=(List.range W).map fun k=>decide (((k:Nat):Int)∈p.take 0):=by
 apply List.ext_getElem?
 intro j
 by_cases hj:j<W
 ·simp[hj]
 ·rw[List.getElem?_eq_none (by simp;omega),List.getElem?_eq_none (by simp;omega)]
theorem ni{B:Hp}{v:Value}{p:List Int}(h:cX .i64 B v p)(ca:p.length≤70368744177664):Rd Tryz.prog 101 #[v] B (fun r=>(r=.int .i64 0∧mN p∧p.length≤64)∨(r=.int .i64 13∧mN p∧64<p.length)∨(r=.int .i64 4∧¬mN p)):=by
 intro g
 refine E6 (R:=aB _) ?_
 unfold L101
 refine h.bQ (cZ.M7 (by omega) fun b=>h.bQ ?_)
 rw[Hf (p:=p)]
 refine⟨fun vs H=>∃i:Nat,vs=[.int .i64 (i:Int)]∧H=(b,.cells (eG ((List.range p.length).map fun k=>decide (((k:Nat):Int)∈p.take i))) 4 (0,0))::B∧i≤p.length∧(p.take i).Nodup∧∀x∈p.take i,0≤x∧x<(p.length:Int),fun vs _=>p.length-bK vs 0,
  JE.mk ⟨0,rfl,rfl,Nat.zero_le _,by simp,by simp⟩,?_⟩
 rintro w H ⟨i,hv,rfl,hi,ig,hin⟩ gs
 simp only[List.cons.injEq,and_true]at hv
 subst hv
 refine ae.fu (Br.dec (fun hlt=>?_) (fun hlt=>?_))
 ·refine h.ld (List.getElem?_eq_getElem hlt) (fun _ h=>.tail _ h) ?_
  obtain⟨x,hx⟩:∃x,p[i]=x:=⟨_,rfl⟩
  have Wk:x∈p:=by rw[←hx];exact List.getElem_mem hlt
  rw[hx]
  have hB:=AM.block (b:=b) (cap:=p.length) (l:=(List.range p.length).map fun k=>decide (((k:Nat):Int)∈p.take i)) (T:=4) (fz:=(0,0)) (B:=(b,.cells (eG ((List.range p.length).map fun k=>decide (((k:Nat):Int)∈p.take i))) 4 (0,0))::B) (.head _) (by simp)
  rw[List.length_map,List.length_range]at hB
  refine ae.lss ?_
  refine bX.or (decide ((p.length:Int)≤x)) (fun _=>h.bQ (ae.geq ⟨rfl,rfl⟩)) (by simp) fun gs=>?_
  rw[←Bool.decide_or]
  refine bX.or (decide (x∈p.take i)) (fun hno=>?_) (by simp) fun gs=>?_
  ·have zL:=of_decide_eq_false hno
   obtain⟨n,rfl⟩:∃n:Nat,x=n:=⟨x.toNat,by omega⟩
   refine hB.ld (b:=decide (((n:Nat):Int)∈p.take i)) ?_ (fun _ h=>h) ⟨rfl,rfl⟩
   rw[List.getElem?_map,List.getElem?_range (by omega)];rfl
  rw[←Bool.decide_or]
  refine Br.dec (fun acj=>cw.mk .tail (.inr (.inr ⟨rfl,fun ha=>?_⟩))) (fun WY=>?_)
  ·have h1:=AB ha Wk
   rcases acj with hb|hb
   ·omega
   ·have h2:=AA ha
    rw[←List.take_append_drop i p,List.nodup_append]at h2
    refine h2.2.2 x hb x ?_ rfl
    rw[List.drop_eq_getElem_cons hlt,hx];exact .head _
  ·obtain⟨n,rfl⟩:∃n:Nat,x=n:=⟨x.toNat,by omega⟩
   refine ah.nat (by omega) ?_
   refine St.M7 (l:=(List.range p.length).map fun k=>decide (((k:Nat):Int)∈p.take i)) (.head _) (by simp;omega) ?_
   rw[KR hlt hx (by omega)]
   refine ae.aN (b:=1) (by simp[aE];omega) ?_
   refine aC.mk ⟨i+1,rfl,rfl,hlt,?_,fun x HT=>?_⟩ (by simp only[bK];omega)
   ·rw[List.take_succ_eq_append_getElem hlt,hx,List.nodup_append]
    exact⟨ig,by simp,fun a ha b hb e=>by simp at hb;subst hb;subst e;exact WY (.inr ha)⟩
   ·rw[List.take_succ_eq_append_getElem hlt,hx,List.mem_append,List.mem_singleton]at HT
    rcases HT with HT|rfl
    ·exact hin x HT
    ·omega
 ·obtain rfl:i=p.length:=by omega
  rw[List.take_length]at ig hin
  have aJ:=Np ig hin
  refine h.bQ (ae.lP (b:=64) (Br.dec (fun hg=>cw.mk .tail (.inr (.inl ⟨rfl,aJ,hg⟩))) (fun hg=>cw.mk .tail (.inl ⟨rfl,aJ,by omega⟩))))
theorem G9{B:Hp}{v:Value}{p:List Int}{x:Int}(h:cX .i64 B v p)(ca:p.length<4611686018427387904):Rd Tryz.prog 179 #[v,.int .i64 x] B (· =.int .i64 (if x∈p then((p.idxOf x:Nat):Int)else-1)):=by
 intro g
 refine Ek (R:=aB _) ?_
 unfold L179
 refine h.bQ ?_
 refine⟨fun vs H=>∃i:Nat,vs=[.int .i64 (i:Int)]∧H=B∧i≤p.length∧x∉p.take i,fun vs _=>p.length-bK vs 0,JE.mk ⟨0,rfl,rfl,Nat.zero_le _,by simp⟩,?_⟩
 rintro w H ⟨i,hv,rfl,hi,hq⟩ gs
 simp only[List.cons.injEq,and_true]at hv
 subst hv
 refine ae.fu (Br.dec (fun hlt=>?_) (fun hlt=>?_))
 ·refine h.ld (List.getElem?_eq_getElem hlt) (fun _ h=>h) ?_
  refine ae.jR (Br.dec (fun he=>cw.mk (.refl _) ?_) (fun he=>?_))
  ·rw[if_pos (by rw[he];exact List.getElem_mem hlt),LK hq hlt he.symm]
  ·refine ae.aN (b:=1) (by simp[aE];omega) ?_
   refine aC.of (.refl _) ⟨i+1,rfl,rfl,hlt,?_⟩ (by simp only[bK];omega)
   rw[List.take_succ_eq_append_getElem hlt,List.mem_append,List.mem_singleton]
   rintro(h|h)
   ·exact hq h
   ·exact he h
 ·refine cw.mk (.refl _) ?_
  rw[List.take_of_length_le (by omega)]at hq
  rw[if_neg hq]
theorem Qe{B:Hp}{v1 v2:Value}{p q:List Nat}{n:Nat}(h1:cX .i64 B v1 (iw p))(h2:cX .i64 B v2 (iw q))(hp:p.Perm (List.range n))(hq:q.Perm (List.range n))(hn:n≤64):Rd Tryz.prog 178 #[v1,v2] B (· =.int .i64 0):=by
 have e1:p.length=n:=by rw[hp.length_eq,List.length_range]
 have e2:q.length=n:=by rw[hq.length_eq,List.length_range]
 intro g
 refine El (R:=aB _) ?_
 unfold L178
 refine ag.rd .here (ni h1 (by rw[an];omega)) ?_
 rintro v (⟨rfl,_,_⟩|⟨_,_,hl⟩|⟨_,hno⟩)
 rotate_left
 ·rw[an]at hl;omega
 ·exact absurd (uc hp) hno
 refine ag.rd .here (ni h2 (by rw[an];omega)) ?_
 rintro v (⟨rfl,_,_⟩|⟨_,_,hl⟩|⟨_,hno⟩)
 rotate_left
 ·rw[an]at hl;omega
 ·exact absurd (uc hq) hno
 refine ae.jR ?_
 refine bX.or false (fun _=>ae.jR ⟨rfl,rfl⟩) rfl fun gs=>?_
 refine bX.or false (fun _=>?_) rfl fun gs=>Br.no ?_
 ·refine h1.bQ (h2.bQ (ae.yB ⟨rfl,?_⟩))
  rw[an,an,decide_eq_false (by omega)]
 ·exact⟨.i64,0,0,rfl,rfl,cw.mk (.refl _) rfl⟩
end Go.Proofs
set_option maxRecDepth 100000
namespace Go.Proofs
open Go Go.Sx
open aF
theorem zv(n:Nat)(ord:List Nat)(L:aG.Fs)(k:Nat):(j4 n ord L k).length≤2^k*L.length:=Nat.le_trans (List.length_filter_le _ _) (x9 k)
theorem jX(n:Nat)(ord:List Nat)(L:aG.Fs):∀m,g9 n ord L m+L.length≤2^m*L.length
 |0=>by show 0+L.length≤1*L.length;omega
 |m+1=>by
  have ih:=jX n ord L m
  have h:=zv n ord L m
  show g9 n ord L m+(j4 n ord L m).length+L.length≤_
  rw[Nat.pow_succ]
  have:2^m*2*L.length=2*(2^m*L.length):=by rw[Nat.mul_comm (2^m) 2,Nat.mul_assoc]
  omega
def l9(n:Nat)(ord:List Nat)(L:aG.Fs)(m:Nat):List Nat:=(List.range m).map fun k=>(j4 n ord L k).length
theorem Bx(n:Nat)(ord:List Nat)(L:aG.Fs)(m:Nat):l9 n ord L (m+1)=l9 n ord L m++[(j4 n ord L m).length]:=by
 unfold l9;rw[List.range_succ,List.map_append];rfl
theorem Bw{B:Hp}{v o:Value}{n:Nat}{L:List (List Nat)}{ord:List Nat}(ht:gi B v (L.map fun ws=>⟨n,ws⟩))(hf:∀ws∈L,aG.fA n ws)(hne:L≠[])(ca:L.length<1048576)(ho:cX .i64 B o (iw ord))(uZ:ord.length=n)(hA:mN (iw ord)):
  Px Tryz.prog 99 #[v,o] B (fun r H=>∃s,r=.tuple #[s,.int .i64 0]∧cX .i64 H s (iw (l9 n ord L n))):=by
 obtain⟨w0,Q4⟩:∃w0,L[0]? =some w0:=⟨_,List.getElem?_eq_getElem (List.length_pos_iff.2 hne)⟩
 have abH:n≤16:=(hf w0 (List.mem_of_getElem? Q4)).yC
 intro g
 refine IN (R:=aB _) ?_
 unfold L99
 refine ag.rd .here (Bt ht (by simp;omega)) ?_
 rintro v rfl
 rw[decide_eq_true (Lg hf)]
 refine Un.not (Br.no ?_)
 intro J hJ
 refine ht.bQ ?_
 rw[List.length_map]
 have hpos:0<L.length:=List.length_pos_iff.2 hne
 refine ae.lP (b:=0) ?_
 rw[decide_eq_true hpos]
 refine Split.go rfl ?_
 refine ho.bQ ?_
 rw[an,uZ]
 refine ht.ldN (i:=0) (t:=⟨n,w0⟩) (by rw[List.getElem?_map,Q4];rfl) (fun _ h=>h) ?_
 refine ae.dh (az.mk ?_)
 rw[decide_eq_false (by simp)]
 refine Split.go rfl ?_
 refine ag.rd .here (ni ho (by rw[an,uZ];omega)) ?_
 rintro w (⟨rfl,_,_⟩|⟨rfl,_,hl⟩|⟨rfl,hno⟩)
 rotate_left
 ·rw[an]at hl;omega
 ·exact absurd hA hno
 refine ae.jR (az.mk (JE.mk (hJ _ _ fun gs=>Br.no ?_)))
 refine ho.bQ ?_
 rw[an,uZ]
 refine ae.lP (b:=16) (Br.bt (by omega) ?_)
 refine ag.fn .here (Hx ht rfl hf (by omega)) ?_
 rintro r H ⟨b,es,ck,m,N,rfl,rfl,hE,hm⟩
 refine ho.bQ ?_
 rw[an,uZ]
 have hbound:∀k,k≤n→∀m:List (List UInt8×List Nat),(m.map Prod.snd).Nodup→(∀x,x∈m.map Prod.snd↔x∈cur n ord L k)→m.length<4611686018427387904:=by
  intro k hk m ig hmem
  have h1:=(aG.pz ig (nE k) hmem).length_eq
  have h2:=x9 (n:=n) (ord:=ord) (L:=L) k
  have h3:2^k≤2^16:=Nat.pow_le_pow_right (by decide) (by omega)
  have h4:2^k*L.length≤2^16*L.length:=Nat.mul_le_mul_right _ h3
  rw[List.length_map]at h1
  omega
 refine⟨fun vs H=>∃(k:Nat) (s:Value) (b:Nat) (es:Array MapEntry) (ck:Nat) (m:List (List UInt8×List Nat)) (CS N:Hp),vs=[s,.map (some b),.int .i64 (k:Int)]∧k≤n∧H=CS++((b,.map es ck)::(N++B))∧aP 3 .i64 s (iw (l9 n ord L k)) CS∧fI n (N++B) es ck m∧∀x,x∈m.map Prod.snd↔x∈cur n ord L k,
  fun vs _=>n-bK vs 2,JE.mk ⟨0,_,b,es,ck,m,[],N,rfl,by omega,rfl,aP.nil,hE,fun x=>by rw[hm];exact aG.dK.symm⟩,?_⟩
 clear hm hE
 rintro ri jc jE H ⟨k,s,b,es,ck,m,CS,N,hv,hk,rfl,hs,hE,hm⟩ gs
 simp only[List.cons.injEq,and_true]at hv
 obtain⟨rfl,rfl,rfl⟩:=hv
 have PS:=hE.mono (B':=(b,Obj.map es ck)::(N++B)) zS
 refine ae.fu (Br.dec (fun hlt=>?_) (fun hlt=>?_))
 ·refine ho.ld (n:=((ord.getD k 0:Nat):Int)) (bg (by omega)) (fun _ h=>List.mem_append_right _ (.tail _ (List.mem_append_right _ h))) ?_
  have iA:ord.getD k 0<n:=by
   have hmem:((ord.getD k 0:Nat):Int)∈iw ord:=List.mem_of_getElem? (bg (by omega))
   have:=AB hA hmem
   rw[an,uZ]at this;omega
  refine ag.fn (.app .here) (MA (.head _) PS iA (hbound k hk m hE.nodup hm)) ?_
  rintro r H ⟨b',es',cO,m',N',rfl,rfl,N9,hm'⟩
  refine Ext.mk rfl (Ext.mk rfl ?_)
  have TJ:(aG.nodes n (m.map Prod.snd) (ord.getD k 0)).length=(j4 n ord L k).length:=aG.td (aG.pz hE.nodup (nE k) hm)
  have hle:(j4 n ord L k).length≤65536*1048576:=Nat.le_trans (zv n ord L k) (Nat.mul_le_mul (Nat.le_trans (Nat.pow_le_pow_right (by decide) (show k≤16 by omega)) (by decide)) (by omega))
  rw[TJ]
  refine au.int (e:=3) (by kernel_rfl) (by kernel_rfl) (by kernel_rfl) fun bx=>?_
  have tw:(l9 n ord L k).length=k:=by simp[l9]
  refine hs.mL (x:=(((j4 n ord L k).length:Nat):Int)) (.cons .left) (by exact .head _) (by rw[an,tw];omega) (by rw[an,tw];omega) fun s' CS' hs'=>?_
  refine ae.aN (b:=1) (by simp[aE];omega) ?_
  refine aC.of .tail ⟨k+1,s',b',es',cO,m',CS',N'++(b,.map es ck)::N,rfl,by omega,by rw[List.append_assoc];rfl,?_,by rw[List.append_assoc];exact N9,fun x=>?_⟩ (by simp only[bK];omega)
  ·rw[Bx,bG];exact hs'
  ·rw[hm']
   show _↔x∈aG.given n (cur n ord L k) (ord.getD k 0)
   rw[aG.nr]
   constructor
   ·rintro⟨t,h1,h2⟩;exact⟨t,(hm t).1 h1,h2⟩
   ·rintro⟨t,h1,h2⟩;exact⟨t,(hm t).2 h1,h2⟩
 ·obtain rfl:k=n:=by omega
  refine Gz.mk (.app (.cons (.app (.refl _)))) ⟨_,rfl,hs.ints.mono fun _ h=>List.mem_append_left _ h⟩
theorem OK{B:Hp}{v o:Value}{n:Nat}{L:List (List Nat)}{ord:List Nat}(ht:gi B v (L.map fun ws=>⟨n,ws⟩))(hf:∀ws∈L,aG.fA n ws)(hne:L≠[])(ca:L.length<1048576)(ho:cX .i64 B o (iw ord))(uZ:ord.length=n)(hA:mN (iw ord)):
  Px Tryz.prog 38 #[v,o] B (fun r H=>r=.tuple #[.int .i64 ((g9 n ord L n:Nat):Int),.int .i64 0]):=by
 obtain⟨w0,Q4⟩:∃w0,L[0]? =some w0:=⟨_,List.getElem?_eq_getElem (List.length_pos_iff.2 hne)⟩
 have abH:n≤16:=(hf w0 (List.mem_of_getElem? Q4)).yC
 intro g
 refine Jl (R:=aB _) ?_
 unfold L38
 refine ag.px .here (Bw ht hf hne ca ho uZ hA) ?_
 rintro w N ⟨s,rfl,hs⟩
 refine Ext.mk rfl (Ext.mk rfl ?_)
 refine hs.bQ ?_
 have tw:∀k,(l9 n ord L k).length=k:=fun k=>by simp[l9]
 rw[an,tw]
 refine⟨fun vs H=>∃k:Nat,vs=[.int .i64 ((g9 n ord L k:Nat):Int),.int .i64 (k:Int)]∧k≤n∧H=N++B,fun vs _=>n-bK vs 1,JE.mk ⟨0,rfl,by omega,rfl⟩,?_⟩
 rintro oY oc H ⟨k,hv,hk,rfl⟩ gs
 simp only[List.cons.injEq,and_true]at hv
 obtain⟨rfl,rfl⟩:=hv
 refine ae.fu (Br.dec (fun hlt=>?_) (fun hlt=>?_))
 ·have hg:(l9 n ord L n)[k]? =some (j4 n ord L k).length:=by
   unfold l9
   rw[List.getElem?_map,List.getElem?_range hlt];rfl
  refine hs.ld (n:=(((j4 n ord L k).length:Nat):Int)) (cm hg) (fun _ h=>h) ?_
  have hsz:∀m,m≤16→g9 n ord L m≤65536*1048576:=fun m hm=>by
   have:=jX n ord L m
   have h2:2^m*L.length≤65536*1048576:=Nat.mul_le_mul (Nat.le_trans (Nat.pow_le_pow_right (by decide) hm) (by decide)) (by omega)
   omega
  have h1:=hsz (k+1) (by omega)
  have e1:g9 n ord L (k+1)=g9 n ord L k+(j4 n ord L k).length:=rfl
  refine ae.aN (by simp[aE];omega) ?_
  refine ae.aN (b:=1) (by simp[aE];omega) ?_
  exact aC.mk ⟨k+1,rfl,by omega,rfl⟩ (by simp only[bK];omega)
 ·obtain rfl:k=n:=by omega
  exact Gz.mk (.app (.refl _)) rfl
end Go.Proofs
namespace Go.Sx
open Go
section
variable {P:Program} {g:Gh} {H:Hp}
theorem au.Sp{t e:TypeId}{z:Value}{a b c d:Value}{K:Value→Hp→Prop}(h1:P.underlying t=some (.slice e))(h2:dg P e=some 2)(h3:eW P e=some z)
 (h:∀x,K (.slice (some ⟨x,0,Option.none⟩) 2 2) ((x,.cells (rows [[a,b],[c,d]]) e (0,0))::H)):au P t 2 [(0,.agg #[a,b]),(1,.agg #[c,d])] H K:=by
 refine⟨rows [[a,b],[c,d]],e,2,z,h1,h2,h3,by decide,?_,fun b _=>h b⟩
 have e1:Array.range (2*2)=#[0,1,2,3]:=rfl
 simp[Instr.fill,Value.cells,rows,e1]
theorem au.So{t e:TypeId}{z:Value}{a b c d x y:Value}{K:Value→Hp→Prop}(h1:P.underlying t=some (.slice e))(h2:dg P e=some 2)(h3:eW P e=some z)
 (h:∀u,K (.slice (some ⟨u,0,Option.none⟩) 3 3) ((u,.cells (rows [[a,b],[c,d],[x,y]]) e (0,0))::H)):au P t 3 [(0,.agg #[a,b]),(1,.agg #[c,d]),(2,.agg #[x,y])] H K:=by
 refine⟨rows [[a,b],[c,d],[x,y]],e,2,z,h1,h2,h3,by decide,?_,fun b _=>h b⟩
 have e1:Array.range (3*2)=#[0,1,2,3,4,5]:=rfl
 simp[Instr.fill,Value.cells,rows,e1]
theorem au.Wh{t e:TypeId}{kd:IntKind}{x y z u:Int}{K:Value→Hp→Prop}(h1:P.underlying t=some (.slice e))(h2:dg P e=some 1)(h3:eW P e=some (.int kd 0))
 (h:∀b,K (.slice (some ⟨b,0,Option.none⟩) 4 4) ((b,.cells (aA kd [x,y,z,u]) e (0,0))::H)):au P t 4 [(0,.int kd x),(1,.int kd y),(2,.int kd z),(3,.int kd u)] H K:=by
 refine⟨aA kd [x,y,z,u],e,1,_,h1,h2,h3,by decide,?_,fun b _=>h b⟩
 have e1:Array.range (4*1)=#[0,1,2,3]:=rfl
 simp[Instr.fill,Value.cells,aA,e1]
theorem aS.made{T:TypeId}{k b:Nat}(rs:List (List Value))(h:∀r∈rs,r.length=k):aS T k (.slice (some ⟨b,0,none⟩) rs.length rs.length) rs [(b,.cells (rows rs) T (0,0))]:=
 .inr ⟨b,[],by simp,by simp,by simpa using h⟩
end
end Go.Sx
namespace aF
open aG
variable {n:Nat} {F:Nat→Nat} {ws us rs:List Nat}
def we(n:Nat)(F:Nat→Nat):List Nat:=(List.range (wN n)).map fun i=>F i&&&dw n
theorem j6(hn:n≤16):fA n (we n F):=by
 refine⟨hn,by simp[we],fun w hw=>?_⟩
 obtain⟨i,_,rfl⟩:=List.mem_map.1 hw
 exact Nat.and_le_right
theorem HM{x:Nat}(hx:x<2^n):bit (we n F) x=(F (x/64)).testBit (x%64):=by
 have hi:=zq hx
 unfold bit
 have gB:(we n F).getD (x/64) 0=F (x/64) &&&dw n:=by simp[we,hi]
 rw[gB,Nat.testBit_and,kL]
 have W5:decide (x%64<if 6≤n then 64 else 2^n)=true:=by
  rw[decide_eq_true_eq]
  split
  ·exact Nat.mod_lt _ (by decide)
  ·have h1:2^n≤32:=Nat.pow_le_pow_right (n:=2) (by decide) (by omega:n≤5)
   omega
 rw[W5,Bool.and_true]
theorem mD{f:Fn}(h:∀x,x<2^n→(F (x/64)).testBit (x%64)=f x)(hf:∀x,f (x%2^n)=f x):fg n (we n F)=f:=by
 funext x
 unfold fg
 have hx:x%2^n<2^n:=Nat.mod_lt _ (Nat.two_pow_pos n)
 rw[HM hx,h _ hx,hf]
theorem nA(x:Nat):fg n ws (x%2^n)=fg n ws x:=by unfold fg;rw[Nat.mod_mod]
theorem jT{x:Nat}(hx:x<2^n):(ws.getD (x/64) 0).testBit (x%64)=fg n ws x:=by
 unfold fg bit;rw[Nat.mod_eq_of_lt hx]
theorem zk{j:Nat}(hj:j<64):(18446744073709551615:Nat).testBit j=true:=by
 have:(18446744073709551615:Nat)=2^64-1:=by decide
 rw[this,Nat.testBit_two_pow_sub_one];simpa using hj
theorem sD{w j:Nat}(hw:w<18446744073709551616)(hj:j<64):(18446744073709551615-w).testBit j= !w.testBit j:=by
 have e:(18446744073709551615-w)=2^64-(w+1):=by
  have:(2:Nat)^64=18446744073709551616:=by decide
  omega
 rw[e,Nat.testBit_two_pow_sub_succ (by
  have:(2:Nat)^64=18446744073709551616:=by decide
  omega)]
 simp[hj]
end aF
set_option maxRecDepth 100000
namespace Go.Proofs
open Go Go.Sx
open aF
section
variable {B:Hp}
def dS(B:Hp)(v:Value)(n:Nat)(f:aF.Fn):Prop:=∃ws,Co B v ⟨n,ws⟩∧aG.fA n ws∧fg n ws=f
theorem dS.mono{B B':Hp}{v:Value}{n:Nat}{f:aF.Fn}(h:dS B v n f)(hs:∀x∈B,x∈B'):dS B' v n f:=let ⟨ws,h1,h2,h3⟩:=h;⟨ws,h1.mono hs,h2,h3⟩
theorem An{n:Nat}(hn:n≤16)(B:Hp):Rd Tryz.prog 211 #[.int .i64 (n:Int)] B (· =.int .i64 0):=by
 intro g
 refine DY (R:=aB _) ?_
 unfold L211
 exact ae.lss (Br.bt (by omega) (ae.lP (b:=16) (Br.bt (by omega) (cw.mk (.refl _) rfl))))
theorem Bo{b:Bool}{p:Value}{i:Int}(hb:Go.Sx.At B p [.bool b]):Rd Tryz.prog 213 #[.int .i64 i,p] B (· =.int .u64 (((if b then 18446744073709551615 else 0:Nat)):Int)):=by
 intro g
 refine DW (R:=aB _) ?_
 unfold L213
 refine Ld.at hb (fun _ h=>h) ?_
 cases b
 ·exact Br.no (cw.mk (.refl _) rfl)
 ·exact Br.yes (cw.mk (.refl _) rfl)
theorem vF{n:Nat}(hn:n≤16)(b:Bool)(B:Hp):Px Tryz.prog 147 #[.int .i64 (n:Int),.bool b] B (fun r H=>∃v,r=.tuple #[v,.int .i64 0]∧dS H v n (fun _=>b)):=by
 intro g
 refine EB (R:=aB _) ?_
 unfold L147
 intro b1 _ b3 _
 refine ag.rd .here (An hn _) ?_
 rintro w rfl
 refine ae.dh (Br.bt (by decide) ?_)
 refine ag.px (.cons .here) (nt hn rfl (by kernel_rfl) (F:=fun _=>if b then 18446744073709551615 else 0) (fun i _=>by cases b<;>decide) (B:=(b1,.cells #[.bool b] 4 (0,0))::B) fun i _=>Bo (Go.Sx.At.block (l:=[.bool b]) zM)) ?_
 rintro v N ⟨s,rfl,hw⟩
 refine St.whole (r:=[.int .i64 (n:Int),s]) (by exact .head _) rfl rfl ?_ ?_
 ·have:=aT hw;simpa[Value.oneCell']using this
 refine aD.whole (r:=[.int .i64 (n:Int),s]) (by exact .head _) rfl ?_
 refine Gz.mk (by repeat (first|exact bR.refl _|apply bR.cons|apply bR.app)) ⟨_,rfl,_,⟨s,rfl,hw.mono zS⟩,j6 hn,mD (fun x hx=>?_) (fun x=>rfl)⟩
 cases b
 ·exact Nat.zero_testBit _
 ·exact zk (Nat.mod_lt _ (by decide))
theorem KA{v i:Nat}{p:Value}(hv:v<64)(hi:i<9223372036854775808)(hb:Go.Sx.At B p [.int .i64 (v:Int)]):Rd Tryz.prog 218 #[.int .i64 (i:Int),p] B (· =.int .u64 ((if 6≤v then(if(i>>>(v-6)).testBit 0 then 18446744073709551615 else 0)else aG.mask v:Nat):Int)):=by
 intro g
 refine DS (R:=aB _) ?_
 unfold L218
 refine Ld.at hb (fun _ h=>h) ?_
 refine ag.rd .here (wI hv (by omega) hi B) ?_
 rintro w rfl
 exact cw.mk (.refl _) rfl
theorem Oy{n v:Nat}(hn:n≤16)(hv:v<n)(B:Hp):Px Tryz.prog 153 #[.int .i64 (n:Int),.int .i64 (v:Int)] B (fun r H=>∃t,r=.tuple #[t,.int .i64 0]∧dS H t n (fun x=>x.testBit v)):=by
 intro g
 refine Ey (R:=aB _) ?_
 unfold L153
 intro b1 _ b3 _
 refine ag.rd .here (An hn _) ?_
 rintro w rfl
 refine ae.dh (Br.bt (by decide) ?_)
 refine Ld.mk (v:=.int .i64 (v:Int)) (by exact .tail _ (.head _)) rfl ?_
 refine ae.lss ?_
 rw[decide_eq_false (by omega)]
 refine bX.or (a:=false) false (fun _=>?_) rfl fun gs=>Br.no ?_
 ·refine Ld.mk (v:=.int .i64 (v:Int)) (by exact .tail _ (.head _)) rfl ?_
  exact ae.rG ⟨rfl,by rw[decide_eq_false (by omega)]⟩
 have Y1:=aG.sP hn
 refine ag.px (.cons .here) (nt hn rfl (by kernel_rfl) (F:=fun i=>if 6≤v then(if(i>>>(v-6)).testBit 0 then 18446744073709551615 else 0)else aG.mask v) (fun i _=>by
  have:=aG.js v
  split
  ·split<;>decide
  ·exact this) (B:=(b1,.cells #[.int .i64 (v:Int)] 3 (0,0))::B) fun i hi=>KA (by omega) (by omega) (Go.Sx.At.block (l:=[.int .i64 (v:Int)]) zM)) ?_
 rintro w N ⟨s,rfl,hw⟩
 refine St.whole (r:=[.int .i64 (n:Int),s]) (by exact .head _) rfl rfl ?_ ?_
 ·have:=aT hw;simpa[Value.oneCell']using this
 refine aD.whole (r:=[.int .i64 (n:Int),s]) (by exact .head _) rfl ?_
 refine Gz.mk (by repeat (first|exact bR.refl _|apply bR.cons|apply bR.app)) ⟨_,rfl,_,⟨s,rfl,hw.mono zS⟩,j6 hn,mD (fun x hx=>?_) (fun x=>?_)⟩
 ·have hj:x%64<64:=Nat.mod_lt _ (by decide)
  have ag3:x=64*(x/64)+x%64:=by omega
  by_cases h6:6≤v
  ·rw[if_pos h6]
   have e:x.testBit v=((x/64)>>>(v-6)).testBit 0:=by
    rw[Nat.testBit_shiftRight,Nat.add_zero]
    have:=Nat.testBit_div_two_pow (n:=6) x (v-6)
    rw[show(2:Nat)^6=64 from rfl]at this
    rw[this];congr 1;omega
   rw[e]
   cases ((x/64)>>>(v-6)).testBit 0
   ·exact Nat.zero_testBit _
   ·exact zk hj
  ·rw[if_neg h6,aG.fN]
   have:=Nat.testBit_mod_two_pow x 6 v
   rw[show(2:Nat)^6=64 from rfl]at this
   rw[this]
   simp[hj];omega
 ·rw[Nat.testBit_mod_two_pow];simp[hv]
end
end Go.Proofs
set_option maxRecDepth 100000
namespace Go.Proofs
open Go Go.Sx
open aF
section
variable {B:Hp}
theorem er{n i:Nat}{ws:List Nat}(hf:aG.fA n ws):ws.getD i 0<18446744073709551616:=by
 by_cases h:i<ws.length
 ·rw[List.getD_eq_getElem?_getD,List.getElem?_eq_getElem h];exact hf.lt (List.getElem_mem h)
 ·rw[List.getD_eq_getElem?_getD,List.getElem?_eq_none (by omega)];decide
theorem iW{n i:Nat}{ws:List Nat}(hf:aG.fA n ws)(hi:i<aG.wN n):ws[i]? =some (ws.getD i 0):=by
 rw[List.getD_eq_getElem?_getD,List.getElem?_eq_getElem (by rw[hf.len];exact hi)];rfl
theorem KF{pa s:Value}{n i:Nat}{ws:List Nat}(ha:Go.Sx.At B pa [.int .i64 (n:Int),s])(hw:Words B s ws)(hf:aG.fA n ws)(hi:i<aG.wN n):
  Rd Tryz.prog 238 #[.int .i64 (i:Int),pa] B (· =.int .u64 ((18446744073709551615-ws.getD i 0:Nat):Int)):=by
 intro g
 refine DG (R:=aB _) ?_
 unfold L238
 refine aa.at ha fun q hq=>Ld.at hq (fun _ h=>h) ?_
 refine hw.1.ld (cm (iW hf hi)) (fun _ h=>h) ?_
 exact Un.GN (er hf) (cw.mk (.refl _) rfl)
theorem OB{v:Value}{n:Nat}{f:aF.Fn}(ht:dS B v n f):Px Tryz.prog 193 #[v] B (fun r H=>∃t,r=.tuple #[t,.int .i64 0]∧dS H t n (fun x=> !f x)):=by
 obtain⟨ws,⟨s,rfl,hw⟩,hf,rfl⟩:=ht
 intro g
 refine Eg (R:=aB _) ?_
 unfold L193
 intro b1 _ b3 _
 refine aD.whole (r:=[.int .i64 (n:Int),s]) (by exact .tail _ (.head _)) rfl ?_
 refine pX fun bx=>?_
 refine ag.rd .here (tK (t:=⟨n,ws⟩) (by exact .head _) (hw.mono zS)) ?_
 rintro w rfl
 rw[decide_eq_true (show TF ⟨(n:Int),ws⟩from⟨by simp,by simpa using hf⟩)]
 refine Un.not (Br.no ?_)
 refine aa.mk (Ld.mk (v:=.int .i64 (n:Int)) (by exact .tail _ (.tail _ (.head _))) rfl ?_)
 refine ag.pre (H':=(b3,.cells #[.int .i64 0,.slice none 0 0] 57 (0,0))::(b1,.cells #[.int .i64 (n:Int),s] 57 (0,0))::B) .tail ?_
 refine ag.px (.cons .here) (nt hf.yC rfl (by kernel_rfl) (F:=fun i=>18446744073709551615-ws.getD i 0) (fun i _=>by omega) (B:=(b1,.cells #[.int .i64 (n:Int),s] 57 (0,0))::B) fun i hi=>KF (Go.Sx.At.block (l:=[.int .i64 (n:Int),s]) zM) (hw.mono zS) hf hi) ?_
 rintro w N ⟨s',rfl,dx⟩
 refine St.whole (r:=[.int .i64 (n:Int),s']) (by exact .head _) rfl rfl ?_ ?_
 ·have:=aT dx;simpa[Value.oneCell']using this
 refine aD.whole (r:=[.int .i64 (n:Int),s']) (by exact .head _) rfl ?_
 refine Gz.mk (by repeat (first|exact bR.refl _|apply bR.cons|apply bR.app)) ⟨_,rfl,_,⟨s',rfl,dx.mono zS⟩,j6 hf.yC,mD (fun x hx=>?_) (fun x=>by rw[nA])⟩
 rw[sD (er hf) (Nat.mod_lt _ (by decide)),jT hx]
def tT(op w u:Nat):Nat→Nat
 |0=>0
 |k+1=>if op.testBit k then tT op w u k|||([(18446744073709551615-w) &&& (18446744073709551615-u),(18446744073709551615-w) &&&u,w&&& (18446744073709551615-u),w&&&u].getD k 0)else tT op w u k
theorem FJ{w u k:Nat}(hw:w<18446744073709551616)(hu:u<18446744073709551616):[(18446744073709551615-w) &&& (18446744073709551615-u),(18446744073709551615-w) &&&u,w&&& (18446744073709551615-u),w&&&u].getD k 0<18446744073709551616:=by
 have h1:∀a b:Nat,a<18446744073709551616→a&&&b<18446744073709551616:=fun a b h=>Nat.lt_of_le_of_lt Nat.and_le_left h
 match k with
 |0=>exact h1 _ _ (by omega)
 |1=>exact h1 _ _ (by omega)
 |2=>exact h1 _ _ hw
 |3=>exact h1 _ _ hw
 |k+4=>exact(by decide:(0:Nat)<18446744073709551616)
theorem sK{op w u:Nat}(hw:w<18446744073709551616)(hu:u<18446744073709551616):∀k,tT op w u k<18446744073709551616
 |0=>by show(0:Nat)<18446744073709551616;decide
 |k+1=>by
  unfold tT
  split
  ·exact Nat.or_lt_two_pow (n:=64) (sK hw hu k) (FJ hw hu)
  ·exact sK hw hu k
theorem Nc{op w u j:Nat}(hw:w<18446744073709551616)(hu:u<18446744073709551616)(hj:j<64):(tT op w u 4).testBit j=Hw op (w.testBit j) (u.testBit j):=by
 have nw:=sD hw hj
 have nu:=sD hu hj
 simp only[tT,List.getD_cons_zero,List.getD_cons_succ]
 unfold Hw
 cases h0:op.testBit 0<;>cases h1:op.testBit 1<;>cases h2:op.testBit 2<;>cases h3:op.testBit 3<;>
  simp only[if_true,Bool.false_eq_true,if_false,Nat.testBit_or,Nat.testBit_and,nw,nu,Nat.zero_testBit]<;>
  cases w.testBit j<;>cases u.testBit j<;>simp[h0,h1,h2,h3]
theorem KH{p1 p2 p3 s1 s2:Value}{n i op:Nat}{ws us:List Nat}(h1:Go.Sx.At B p1 [.int .i64 (n:Int),s1])(h2:Go.Sx.At B p2 [.int .i64 (n:Int),s2])(h3:Go.Sx.At B p3 [.int .u8 (op:Int)])(hw:Words B s1 ws)(hu:Words B s2 us)(hf:aG.fA n ws)(hg:aG.fA n us)(hop:op<16)(hi:i<aG.wN n):
  Rd Tryz.prog 239 #[.int .i64 (i:Int),p1,p2,p3] B (· =.int .u64 ((tT op (ws.getD i 0) (us.getD i 0) 4:Nat):Int)):=by
 have lw:=er (i:=i) hf
 have lu:=er (i:=i) hg
 intro g
 refine DF (R:=aB _) ?_
 unfold L239
 refine aa.at h1 fun q hq=>Ld.at hq (fun _ h=>h) ?_
 refine hw.1.ld (cm (iW hf hi)) (fun _ h=>h) ?_
 refine aa.at h2 fun q hq=>Ld.at hq (fun _ h=>h) ?_
 refine hu.1.ld (cm (iW hg hi)) (fun _ h=>h) ?_
 generalize ws.getD i 0=w at*
 generalize us.getD i 0=u at*
 refine Un.GN lw (Un.GN lu ?_)
 refine ae.p6 (by simp only[aE];omega) (by simp only[aE];omega) ?_
 refine Un.GN lw ?_
 refine ae.p6 (by simp only[aE];omega) (by simp only[aE];omega) ?_
 refine Un.GN lu ?_
 refine ae.p6 (by simp only[aE];omega) (by simp only[aE];omega) ?_
 refine ae.p6 (by simp only[aE];omega) (by simp only[aE];omega) ?_
 refine au.Wh (e:=50) (by kernel_rfl) (by kernel_rfl) (by kernel_rfl) fun bx=>?_
 obtain⟨ps,hps⟩:∃ps,ps=[(18446744073709551615-w) &&& (18446744073709551615-u),(18446744073709551615-w) &&&u,w&&& (18446744073709551615-u),w&&&u]:=⟨_,rfl⟩
 have hI:cX .u64 [(bx,Obj.cells (aA .u64 (iw ps)) 50 (0,0))] (.slice (some ⟨bx,0,none⟩) 4 4) (iw ps):=by
  have:=(aP.made (T:=50) (kd:=.u64) (b:=bx) (iw ps)).ints
  have hl:(iw ps).length=4:=by rw[hps];rfl
  rw[hl]at this;exact this
 have tw:ps.length=4:=by rw[hps];rfl
 have hH:(bx,Obj.cells (aA .u64 [((((18446744073709551615-w) &&& (18446744073709551615-u):Nat)):Int),((((18446744073709551615-w) &&&u:Nat)):Int),(((w&&& (18446744073709551615-u):Nat)):Int),((w&&&u:Nat):Int)]) 50 (0,0))=(bx,Obj.cells (aA .u64 (iw ps)) 50 (0,0)):=by rw[hps];rfl
 rw[hH]
 refine aO.mk ?_
 refine⟨fun vs H=>∃k:Nat,vs=[.int .u64 ((tT op w u k:Nat):Int),.int .i64 (k:Int)]∧k≤4∧H=(bx,Obj.cells (aA .u64 (iw ps)) 50 (0,0))::B,fun vs _=>4-bK vs 1,JE.mk ⟨0,rfl,by omega,rfl⟩,?_⟩
 rintro yO uD H ⟨k,hv,hk,rfl⟩ gs
 simp only[List.cons.injEq,and_true]at hv
 obtain⟨rfl,rfl⟩:=hv
 refine ae.fu (b:=4) (Br.dec (fun hlt=>?_) (fun hlt=>?_))
 ·intro J hJ
  refine hI.ld (n:=((ps.getD k 0:Nat):Int)) (bg (by omega)) (fun _ h=>by simp at h;rw[h];exact .head _) ?_
  refine Ld.at h3 (fun _ h=>.tail _ h) ?_
  refine ae.qw (by simp only[aE];omega) ?_
  refine ae.p6 (b:=1) (by have:=Nat.shiftRight_le op k;simp only[aE];omega) (by decide) ?_
  have TL:(op>>>k) &&&1=(op.testBit k).toNat:=by
   rw[aG.gD,Nat.testBit_shiftRight,Nat.add_zero]
   cases op.testBit k<;>rfl
  rw[TL]
  refine ae.gn (b:=1) ?_
  have abt:ps.getD k 0<18446744073709551616:=by rw[hps];exact FJ lw lu
  cases hb:op.testBit k with
  |true=>
   refine Br.eU rfl ?_
   refine ae.U3 (by simpa only[aE]using sK lw lu k) (by simpa only[aE]using abt) ?_
   refine JE.mk (hJ _ _ fun gs=>?_)
   refine ae.aN (b:=1) (by simp[aE];omega) ?_
   exact aC.mk ⟨k+1,by rw[tT,if_pos hb,hps],by omega,rfl⟩ (by simp only[bK];omega)
  |false=>
   refine Br.bt (by decide) ?_
   refine JE.mk (hJ _ _ fun gs=>?_)
   refine ae.aN (b:=1) (by simp[aE];omega) ?_
   exact aC.mk ⟨k+1,by rw[tT,if_neg (by rw[hb];decide)],by omega,rfl⟩ (by simp only[bK];omega)
 ·obtain rfl:k=4:=by omega
  exact cw.mk .tail rfl
theorem VR{bx n:Nat}{s1 s2:Value}{ws us:List Nat}(h1:Words B s1 ws)(h2:Words B s2 us):gi ((bx,.cells (rows [[.int .i64 (n:Int),s1],[.int .i64 (n:Int),s2]]) 57 (0,0))::B) (.slice (some ⟨bx,0,none⟩) 2 2) [⟨n,ws⟩,⟨n,us⟩]:=by
 refine⟨[[.int .i64 (n:Int),s1],[.int .i64 (n:Int),s2]],(Sl.mg (aS.made (T:=57) (k:=2) (b:=bx) _ (by simp)) (by decide)).mono fun _ h=>by simp at h;rw[h];exact .head _,rfl,fun i r x hr hx=>?_⟩
 match i with
 |0=>simp at hr hx;subst hr;subst hx;exact⟨s1,rfl,h1.mono fun _ h=>.tail _ h⟩
 |1=>simp at hr hx;subst hr;subst hx;exact⟨s2,rfl,h2.mono fun _ h=>.tail _ h⟩
 |i+2=>simp at hr
theorem xx{v1 v2:Value}{n op:Nat}{f1 f2:aF.Fn}(hop:op<16)(h1:dS B v1 n f1)(h2:dS B v2 n f2):Px Tryz.prog 194 #[.int .u8 (op:Int),v1,v2] B (fun r H=>∃t,r=.tuple #[t,.int .i64 0]∧dS H t n (fun x=>Hw op (f1 x) (f2 x))):=by
 obtain⟨ws,⟨s1,rfl,hw⟩,hf,rfl⟩:=h1
 obtain⟨us,⟨s2,rfl,hu⟩,hg,rfl⟩:=h2
 intro g
 refine Ef (R:=aB _) ?_
 unfold L194
 intro b1 _ b3 _ b5 _ b7 _
 refine Ld.mk (v:=.int .u8 (op:Int)) (by exact .tail _ (.tail _ (.tail _ (.head _)))) rfl ?_
 refine ae.lP (b:=15) (Br.bt (by omega) ?_)
 refine aD.whole (r:=[.int .i64 (n:Int),s1]) (by exact .tail _ (.tail _ (.head _))) rfl ?_
 refine aD.whole (r:=[.int .i64 (n:Int),s2]) (by exact .tail _ (.head _)) rfl ?_
 refine au.Sp (e:=57) (z:=.agg #[.int .i64 0,.slice none 0 0]) (by kernel_rfl) (by kernel_rfl) (by kernel_rfl) fun bx=>?_
 refine ag.rd .here (tJ (VR (n:=n) (hw.mono zS) (hu.mono zS)) (by show 2<2^62;decide)) ?_
 rintro w rfl
 rw[decide_eq_true (by
  intro t ht
  simp only[List.mem_cons,List.not_mem_nil,or_false]at ht
  rcases ht with rfl|rfl
  ·exact⟨⟨by simp,by simpa using hf⟩,rfl⟩
  ·exact⟨⟨by simp,by simpa using hg⟩,rfl⟩)]
 refine Un.not (Br.no ?_)
 refine aa.mk (Ld.mk (v:=.int .i64 (n:Int)) (by exact .tail _ (.tail _ (.tail _ (.head _)))) rfl ?_)
 refine ag.pre (H':=(b7,.cells #[.int .i64 0,.slice none 0 0] 57 (0,0))::(b5,.cells #[.int .i64 (n:Int),s2] 57 (0,0))::(b3,.cells #[.int .i64 (n:Int),s1] 57 (0,0))::(b1,.cells #[.int .u8 (op:Int)] 5 (0,0))::B) .tail ?_
 refine ag.px (.cons .here) (nt hf.yC rfl (by kernel_rfl) (F:=fun i=>tT op (ws.getD i 0) (us.getD i 0) 4) (fun i _=>sK (er hf) (er hg) 4) (B:=(b5,.cells #[.int .i64 (n:Int),s2] 57 (0,0))::(b3,.cells #[.int .i64 (n:Int),s1] 57 (0,0))::(b1,.cells #[.int .u8 (op:Int)] 5 (0,0))::B)
  fun i hi=>KH (Go.Sx.At.block (l:=[.int .i64 (n:Int),s1]) zM) (Go.Sx.At.block (l:=[.int .i64 (n:Int),s2]) zM) (Go.Sx.At.block (l:=[.int .u8 (op:Int)]) zM) (hw.mono zS) (hu.mono zS) hf hg hop hi) ?_
 rintro w N ⟨s',rfl,dx⟩
 refine St.whole (r:=[.int .i64 (n:Int),s']) (by exact .head _) rfl rfl ?_ ?_
 ·have:=aT dx;simpa[Value.oneCell']using this
 refine aD.whole (r:=[.int .i64 (n:Int),s']) (by exact .head _) rfl ?_
 refine Gz.mk (by repeat (first|exact bR.refl _|apply bR.cons|apply bR.app)) ⟨_,rfl,_,⟨s',rfl,dx.mono zS⟩,j6 hf.yC,mD (fun x hx=>?_) (fun x=>by rw[nA,nA])⟩
 rw[Nc (er hf) (er hg) (Nat.mod_lt _ (by decide)),jT hx,jT hx]
theorem KG{p1 p2 p3 s1 s2 s3:Value}{n i:Nat}{ws us rs:List Nat}(h1:Go.Sx.At B p1 [.int .i64 (n:Int),s1])(h2:Go.Sx.At B p2 [.int .i64 (n:Int),s2])(h3:Go.Sx.At B p3 [.int .i64 (n:Int),s3])(hw:Words B s1 ws)(hu:Words B s2 us)(hr:Words B s3 rs)(hf:aG.fA n ws)(hg:aG.fA n us)(hh:aG.fA n rs)(hi:i<aG.wN n):
  Rd Tryz.prog 221 #[.int .i64 (i:Int),p1,p2,p3] B (· =.int .u64 (((ws.getD i 0&&&us.getD i 0)|||((18446744073709551615-ws.getD i 0) &&&rs.getD i 0):Nat):Int)):=by
 have lw:=er (i:=i) hf
 have lu:=er (i:=i) hg
 have lr:=er (i:=i) hh
 intro g
 refine DO (R:=aB _) ?_
 unfold L221
 refine aa.at h1 fun q hq=>Ld.at hq (fun _ h=>h) ?_
 refine hw.1.ld (cm (iW hf hi)) (fun _ h=>h) ?_
 refine aa.at h2 fun q hq=>Ld.at hq (fun _ h=>h) ?_
 refine hu.1.ld (cm (iW hg hi)) (fun _ h=>h) ?_
 refine ae.p6 (by simpa only[aE]using lw) (by simpa only[aE]using lu) ?_
 refine aa.at h1 fun q hq=>Ld.at hq (fun _ h=>h) ?_
 refine hw.1.ld (cm (iW hf hi)) (fun _ h=>h) ?_
 refine Un.GN lw ?_
 refine aa.at h3 fun q hq=>Ld.at hq (fun _ h=>h) ?_
 refine hr.1.ld (cm (iW hh hi)) (fun _ h=>h) ?_
 refine ae.p6 (by simp only[aE];omega) (by simpa only[aE]using lr) ?_
 refine ae.U3 (Nat.lt_of_le_of_lt Nat.and_le_left (by simpa only[aE]using lw)) (Nat.lt_of_le_of_lt Nat.and_le_left (by simp only[aE];omega)) ?_
 exact cw.mk (.refl _) rfl
theorem VQ{bx n:Nat}{s1 s2 s3:Value}{ws us rs:List Nat}(h1:Words B s1 ws)(h2:Words B s2 us)(h3:Words B s3 rs):gi ((bx,.cells (rows [[.int .i64 (n:Int),s1],[.int .i64 (n:Int),s2],[.int .i64 (n:Int),s3]]) 57 (0,0))::B) (.slice (some ⟨bx,0,none⟩) 3 3) [⟨n,ws⟩,⟨n,us⟩,⟨n,rs⟩]:=by
 refine⟨[[.int .i64 (n:Int),s1],[.int .i64 (n:Int),s2],[.int .i64 (n:Int),s3]],(Sl.mg (aS.made (T:=57) (k:=2) (b:=bx) _ (by simp)) (by decide)).mono fun _ h=>by simp at h;rw[h];exact .head _,rfl,fun i r x hr hx=>?_⟩
 match i with
 |0=>simp at hr hx;subst hr;subst hx;exact⟨s1,rfl,h1.mono fun _ h=>.tail _ h⟩
 |1=>simp at hr hx;subst hr;subst hx;exact⟨s2,rfl,h2.mono fun _ h=>.tail _ h⟩
 |2=>simp at hr hx;subst hr;subst hx;exact⟨s3,rfl,h3.mono fun _ h=>.tail _ h⟩
 |i+3=>simp at hr
theorem Fu{v1 v2 v3:Value}{n:Nat}{f1 f2 f3:aF.Fn}(h1:dS B v1 n f1)(h2:dS B v2 n f2)(h3:dS B v3 n f3):Px Tryz.prog 154 #[v1,v2,v3] B (fun r H=>∃t,r=.tuple #[t,.int .i64 0]∧dS H t n (fun x=>if f1 x then f2 x else f3 x)):=by
 obtain⟨ws,⟨s1,rfl,hw⟩,hf,rfl⟩:=h1
 obtain⟨us,⟨s2,rfl,hu⟩,hg,rfl⟩:=h2
 obtain⟨rs,⟨s3,rfl,hr⟩,hh,rfl⟩:=h3
 intro g
 refine Ex (R:=aB _) ?_
 unfold L154
 intro b1 _ b3 _ b5 _ b7 _
 refine aD.whole (r:=[.int .i64 (n:Int),s1]) (by exact .tail _ (.tail _ (.tail _ (.head _)))) rfl ?_
 refine aD.whole (r:=[.int .i64 (n:Int),s2]) (by exact .tail _ (.tail _ (.head _))) rfl ?_
 refine aD.whole (r:=[.int .i64 (n:Int),s3]) (by exact .tail _ (.head _)) rfl ?_
 refine au.So (e:=57) (z:=.agg #[.int .i64 0,.slice none 0 0]) (by kernel_rfl) (by kernel_rfl) (by kernel_rfl) fun bx=>?_
 refine ag.rd .here (tJ (VQ (n:=n) (hw.mono zS) (hu.mono zS) (hr.mono zS)) (by show 3<2^62;decide)) ?_
 rintro w rfl
 rw[decide_eq_true (by
  intro t ht
  simp only[List.mem_cons,List.not_mem_nil,or_false]at ht
  rcases ht with rfl|rfl|rfl
  ·exact⟨⟨by simp,by simpa using hf⟩,rfl⟩
  ·exact⟨⟨by simp,by simpa using hg⟩,rfl⟩
  ·exact⟨⟨by simp,by simpa using hh⟩,rfl⟩)]
 refine Un.not (Br.no ?_)
 refine aa.mk (Ld.mk (v:=.int .i64 (n:Int)) (by exact .tail _ (.tail _ (.tail _ (.tail _ (.head _))))) rfl ?_)
 refine ag.pre (H':=(b7,.cells #[.int .i64 0,.slice none 0 0] 57 (0,0))::(b5,.cells #[.int .i64 (n:Int),s3] 57 (0,0))::(b3,.cells #[.int .i64 (n:Int),s2] 57 (0,0))::(b1,.cells #[.int .i64 (n:Int),s1] 57 (0,0))::B) .tail ?_
 have ol:∀i,(ws.getD i 0&&&us.getD i 0)|||((18446744073709551615-ws.getD i 0) &&&rs.getD i 0)<18446744073709551616:=fun i=>
  Nat.or_lt_two_pow (n:=64) (Nat.lt_of_le_of_lt Nat.and_le_left (er hf)) (Nat.lt_of_le_of_lt Nat.and_le_right (er hh))
 refine ag.px (.cons .here) (nt hf.yC rfl (by kernel_rfl) (F:=fun i=>(ws.getD i 0&&&us.getD i 0)|||((18446744073709551615-ws.getD i 0) &&&rs.getD i 0)) (fun i _=>ol i) (B:=(b5,.cells #[.int .i64 (n:Int),s3] 57 (0,0))::(b3,.cells #[.int .i64 (n:Int),s2] 57 (0,0))::(b1,.cells #[.int .i64 (n:Int),s1] 57 (0,0))::B)
  fun i hi=>KG (Go.Sx.At.block (l:=[.int .i64 (n:Int),s1]) zM) (Go.Sx.At.block (l:=[.int .i64 (n:Int),s2]) zM) (Go.Sx.At.block (l:=[.int .i64 (n:Int),s3]) zM) (hw.mono zS) (hu.mono zS) (hr.mono zS) hf hg hh hi) ?_
 rintro w N ⟨s',rfl,dx⟩
 refine St.whole (r:=[.int .i64 (n:Int),s']) (by exact .head _) rfl rfl ?_ ?_
 ·have:=aT dx;simpa[Value.oneCell']using this
 refine aD.whole (r:=[.int .i64 (n:Int),s']) (by exact .head _) rfl ?_
 refine Gz.mk (by repeat (first|exact bR.refl _|apply bR.cons|apply bR.app)) ⟨_,rfl,_,⟨s',rfl,dx.mono zS⟩,j6 hf.yC,mD (fun x hx=>?_) (fun x=>by rw[nA,nA,nA])⟩
 rw[Nat.testBit_or,Nat.testBit_and,Nat.testBit_and,sD (er hf) (Nat.mod_lt _ (by decide)),jT hx,jT hx,jT hx]
 cases fg n ws x<;>cases fg n us x<;>cases fg n rs x<;>rfl
theorem lW{v:Value}{n u:Nat}{c:Bool}{f:aF.Fn}(ht:dS B v n f)(hu:u<n):Px Tryz.prog 148 #[v,.int .i64 (u:Int),.bool c] B (fun r H=>∃t,r=.tuple #[t,.int .i64 0]∧dS H t n (fun x=>f (aG.aI x u c))):=by
 obtain⟨ws,ht,hf,rfl⟩:=ht
 refine(xw ht hf hu).mono fun v H h=>?_
 obtain⟨hg,v',rfl,ht'⟩:=h
 exact⟨hg,v',rfl,_,ht',aG.jx hf.yC,nB hf hu c⟩
end
end Go.Proofs
namespace Go.Sx
open Go
section
variable {P:Program} {g:Gh} {H C:Hp} {c:Hp→Hp}
theorem aS.Az{elem k bytes:Nat}{zero:Value}{v x:Value}{rs r2:List (List Value)}(h:aS elem k v rs C)(hh:cc C H c)(hx:Sl k H x r2)(h1:∀r∈r2,∀u∈r,u.oneCell'=true)(hz:∃z:List Value,zero.cells=z.toArray∧z.length=k)
 (hb:(rs.length+r2.length)*bytes≤140737488355328)(hm:rs.length+r2.length≤9223372036854775807){K:Value→Hp→Prop}(hk:∀v' C',aS elem k v' (rs++r2) C'→K v' (c C')):App P elem k bytes zero H v x K:=by
 obtain⟨A,B,e⟩:=hh.split
 have e2:=hh.spec.1
 rw[e]at e2
 subst e2
 obtain⟨a,cap,rfl,hc⟩:=Sl.cells hx
 exact aS.apps h hc hx.1 h1 hz hb hm fun v' C' ho=>by have:=hk v' C' ho;rwa [e]at this
theorem ae.rY{kd:IntKind}{a b:Nat}{k:Value→Prop}(hb:b≠0)(h:k (.int kd ((a%b:Nat):Int))):ae .num .rem (.int kd a) (.int kd b) k:=
 ae.VZ (by omega) rfl (by have:((a:Int)).tmod (b:Int)=((a%b:Nat):Int):=rfl;rw[this];exact h)
end
end Go.Sx
set_option maxRecDepth 100000
namespace Go.Proofs
open Go Go.Sx
open aF
abbrev gm(gb kp n:Nat)(vr vf:Value):Nat×Obj:=(gb,.cells #[ptr kp,.int .i64 (n:Int),vr,vf] 30 (0,0))
structure mU(gb kp n:Nat)(vr vf:Value)(refs:List Nat)(fs:List (List Nat))(M G:Hp):Prop where
 cell:gm gb kp n vr vf∈G
 rf:cX .u32 G vr (iw refs)
 fn:∃rs,Sl 2 G vf rs∧qe (AD M) rs (fs.map fun ws=>⟨n,ws⟩)
theorem mU.grow{gb kp n:Nat}{vr vf:Value}{refs:List Nat}{fs:List (List Nat)}{M M' G:Hp}(h:mU gb kp n vr vf refs fs M G)(hs:∀x∈M,x∈M'):mU gb kp n vr vf refs fs M' G:=
 ⟨h.cell,h.rf,let ⟨rs,h1,h2⟩:=h.fn;⟨rs,h1,h2.mono fun _ _ h=>h.mono hs⟩⟩
def PxL(P:Program)(f:FuncId)(args:Array Value)(M G:Hp)(Q:Value→Hp→Prop):Prop:=Fc P f args (M++G) (fun w H=>∃M',H=M'++G∧bR M M'∧Q w M')
structure A6(gb kp n:Nat)(vr vf:Value)(refs:List Nat)(fs:List (List Nat))(C B:Hp):Prop where
 cell:gm gb kp n vr vf∈B
 rf:cX .u32 B vr (iw refs)
 fn:gi B vf (fs.map fun ws=>⟨n,ws⟩)
 hole:∃c,cc C B c∧∀Z,gm gb kp n vr vf∈c Z
theorem A6.cons{gb kp n:Nat}{vr vf:Value}{refs:List Nat}{fs:List (List Nat)}{C B:Hp}(h:A6 gb kp n vr vf refs fs C B)(x:Nat×Obj):A6 gb kp n vr vf refs fs C (x::B):=
 ⟨.tail _ h.cell,h.rf.mono fun _ h=>.tail _ h,h.fn.mono fun _ h=>.tail _ h,let ⟨c,hc,hm⟩:=h.hole;⟨_,.cons hc,fun Z=>.tail _ (hm Z)⟩⟩
theorem A6.app{gb kp n:Nat}{vr vf:Value}{refs:List Nat}{fs:List (List Nat)}{C B:Hp}(h:A6 gb kp n vr vf refs fs C B)(N:Hp):A6 gb kp n vr vf refs fs C (N++B):=
 ⟨List.mem_append_right _ h.cell,h.rf.mono fun _ h=>List.mem_append_right _ h,h.fn.mono fun _ h=>List.mem_append_right _ h,let ⟨c,hc,hm⟩:=h.hole;⟨_,.app hc,fun Z=>List.mem_append_right _ (hm Z)⟩⟩
theorem A6.grow{gb kp n:Nat}{vr vf:Value}{refs:List Nat}{fs:List (List Nat)}{C B B':Hp}(h:A6 gb kp n vr vf refs fs C B)(hg:bR B B'):A6 gb kp n vr vf refs fs C B':=by
 obtain⟨N,rfl⟩:=hg.spec;exact h.app N
structure vA(K:Kd)(S:Nat→aF.Fn)(refs:List Nat)(fs:List (List Nat)):Prop where
 len:refs.length=fs.length
 qO:∀t∈fs,aG.fA K.n t
 is:∀i,i<refs.length→2≤refs.getD i 0∧fg K.n (fs.getD i [])=S (refs.getD i 0)
 hold:∀s,K.hold s=refs.count s
section
variable {kp gb n:Nat} {vr vf:Value} {refs:List Nat} {fs:List (List Nat)} {K:Kd} {S:Nat→aF.Fn} {ord aj tr:List Nat} {C B:Hp}
theorem vA.mem(h:vA K S refs fs){s:Nat}:K.hold s≠0↔s∈refs:=by
 rw[h.hold]
 constructor
 ·intro h0;exact List.count_pos_iff.1 (by omega)
 ·intro h1;have:=List.count_pos_iff.2 h1;omega
theorem vA.live(h:vA K S refs fs)(hK:cW kp K S ord aj tr C){s:Nat}(hs:s∈refs):live K.N s:=.inr (hK.ok.mid.held s (h.mem.2 hs))
theorem vA.held(h:vA K S refs fs)(g:aF.Fn):K.held S g↔FT K.n fs g:=by
 constructor
 ·rintro⟨s,hs,rfl⟩
  have hs':=h.mem.1 hs
  obtain⟨i,hi,rfl⟩:=List.mem_iff_getElem.1 hs'
  obtain⟨h2,h3⟩:=h.is i hi
  have e:refs.getD i 0=refs[i]:=by rw[List.getD_eq_getElem?_getD,List.getElem?_eq_getElem hi];rfl
  have hi':i<fs.length:=by rw[←h.len];exact hi
  have e':fs.getD i []=fs[i]:=by rw[List.getD_eq_getElem?_getD,List.getElem?_eq_getElem hi'];rfl
  rw[e,e']at h3
  exact⟨fs[i],List.getElem_mem hi',h3.symm⟩
 ·rintro⟨t,ht,rfl⟩
  obtain⟨i,hi,rfl⟩:=List.mem_iff_getElem.1 ht
  have hi':i<refs.length:=by rw[h.len];exact hi
  obtain⟨h2,h3⟩:=h.is i hi'
  have e:refs.getD i 0=refs[i]:=by rw[List.getD_eq_getElem?_getD,List.getElem?_eq_getElem hi'];rfl
  have e':fs.getD i []=fs[i]:=by rw[List.getD_eq_getElem?_getD,List.getElem?_eq_getElem hi];rfl
  rw[e,e']at h3
  exact⟨refs[i],h.mem.2 (List.getElem_mem hi'),h3⟩
theorem pq{a b:Value}{f f':aF.Fn}(h1:dS B a n f)(h2:dS B b n f'):Rd Tryz.prog 67 #[a,b] B (fun r=>∃x:Bool,r=.bool x∧(x=true↔f=f')):=by
 obtain⟨ws,⟨s1,rfl,hw⟩,hf,rfl⟩:=h1
 obtain⟨us,⟨s2,rfl,hu⟩,hg,rfl⟩:=h2
 have hlw:=hf.len
 have hlu:=hg.len
 have Y1:=aG.sP hf.yC
 intro g
 refine IW (R:=aB _) ?_
 unfold L67
 intro b1 _ b3 _
 refine aa.mk (Ld.mk (v:=.int .i64 (n:Int)) (by exact .tail _ (.head _)) rfl ?_)
 refine aa.mk (Ld.mk (v:=.int .i64 (n:Int)) (by exact .head _) rfl ?_)
 refine ae.yB ?_
 rw[decide_eq_false (by simp)]
 refine bX.or (a:=false) false (fun _=>?_) rfl fun gs=>Br.no ?_
 ·refine aa.mk (Ld.mk (v:=s1) (by exact .tail _ (.head _)) rfl ?_)
  refine hw.1.bQ ?_
  refine aa.mk (Ld.mk (v:=s2) (by exact .head _) rfl ?_)
  refine hu.1.bQ ?_
  rw[an,an]
  refine ae.yB ⟨rfl,?_⟩
  simp only
  rw[decide_eq_false]
  show¬ws.length≠us.length
  omega
 refine⟨fun vs H=>∃i:Nat,vs=[.int .i64 (i:Int)]∧i≤ws.length∧H=(b3,.cells #[.int .i64 (n:Int),s2] 57 (0,0))::(b1,.cells #[.int .i64 (n:Int),s1] 57 (0,0))::B∧ws.take i=us.take i,fun vs _=>ws.length-bK vs 0,JE.mk ⟨0,rfl,Nat.zero_le _,rfl,rfl⟩,?_⟩
 rintro sn H ⟨i,hv,hi,rfl,lB⟩ gs
 simp only[List.cons.injEq,and_true]at hv
 subst hv
 refine aa.mk (Ld.mk (v:=s1) (by exact .tail _ (.head _)) rfl ?_)
 refine hw.1.bQ ?_
 rw[an]
 show ae .num .lss (.int .i64 (i:Int)) (.int .i64 ((ws.length:Nat):Int)) _
 refine ae.fu (Br.dec (fun hlt=>?_) (fun hlt=>?_))
 ·have iA:i<us.length:=by omega
  refine aa.mk (Ld.mk (v:=s1) (by exact .tail _ (.head _)) rfl ?_)
  refine hw.1.ld (cm (List.getElem?_eq_getElem hlt)) (fun _ h=>.tail _ (.tail _ h)) ?_
  refine aa.mk (Ld.mk (v:=s2) (by exact .head _) rfl ?_)
  refine hu.1.ld (cm (List.getElem?_eq_getElem iA)) (fun _ h=>.tail _ (.tail _ h)) ?_
  refine ae.yB (Br.dec (fun hne=>?_) (fun hne=>?_))
  ·refine cw.mk (.skip .tail) ⟨false,rfl,by simp;intro h;exact hne (by have e:=x8 hf hg h;subst e;rfl)⟩
  ·refine ae.aN (b:=1) (by simp[aE];omega) ?_
   refine aC.mk ⟨i+1,rfl,hlt,rfl,?_⟩ (by simp only[bK];omega)
   rw[List.take_succ_eq_append_getElem hlt,List.take_succ_eq_append_getElem iA,lB]
   congr 2
   exact Classical.byContradiction hne
 ·obtain rfl:i=ws.length:=by omega
  rw[List.take_length,show ws.length=us.length by omega,List.take_length]at lB
  exact cw.mk (.skip .tail) ⟨true,rfl,by simp[lB]⟩
end
end Go.Proofs
set_option maxRecDepth 100000
namespace Go.Proofs
open Go Go.Sx
open aF
section
variable {kp gb n:Nat} {vr vf:Value} {refs:List Nat} {fs:List (List Nat)} {K:Kd} {S:Nat→aF.Fn} {ord aj tr:List Nat} {C B M G:Hp}
theorem xD(hG:mU gb kp K.n vr vf refs fs M G)(hg:vA K S refs fs)(hK:cW kp K S ord aj tr C)(hn:K.n≤16)(hm:refs.length<1048576){a:Nat}(ha:a<256):
  PxL Tryz.prog 126 #[ptr gb,.int .u8 (a:Int)] M G (fun w H=>∃r t,w=.tuple #[u32 r,t]∧live K.N r∧dS H t K.n (S r)):=by
 have hint:=hK.ok.mid.int
 intro g
 refine EO (R:=aB _) ?_
 unfold L126
 intro b1 _
 refine aY.nat (by simp[aE];omega) ?_
 refine Nil.ptr (aa.mk (Ld.mk (v:=vr) (by exact .tail _ (List.mem_append_right _ hG.cell)) rfl ?_))
 refine hG.rf.bQ ?_
 rw[an]
 refine ae.aN (b:=2) (by simp[aE];omega) ?_
 refine ae.rY (by omega) ?_
 have hlt:=Nat.mod_lt a (show 0<refs.length+2 by omega)
 generalize a%(refs.length+2)=i at*
 refine ae.fu (b:=2) (Br.dec (fun h2=>?_) (fun h2=>?_))
 ·refine Nil.ptr (aa.mk (Ld.mk (v:=.int .i64 (K.n:Int)) (by exact .tail _ (List.mem_append_right _ hG.cell)) rfl ?_))
  refine ae.gn (b:=1) ?_
  refine ag.px (.cons .left) (vF hn (decide (i=1)) M) ?_
  rintro w N ⟨v,rfl,ws,⟨s,rfl,hw⟩,hf,he⟩
  refine Ext.mk rfl (Ext.mk rfl ?_)
  intro Gs _
  have h1:∀x∈[Value.int .i64 (K.n:Int),s],x.oneCell'=true:=by have:=aT hw;simpa[Value.oneCell']using this
  refine St.whole (r:=[.int .i64 (K.n:Int),s]) (by exact .head _) rfl rfl h1 ?_
  refine DR.self ?_
  refine aY.nat (by simp[aE];omega) ?_
  refine aD.whole (r:=[.int .i64 (K.n:Int),s]) (by exact .head _) rfl ?_
  refine St.whole (r:=[.int .i64 (K.n:Int),s]) (by exact .tail (.head _)) rfl rfl h1 ?_
  refine aD.whole (r:=[.int .i64 (K.n:Int),s]) (by exact .tail _ (.head _)) rfl ?_
  refine aB.here ⟨_::_::(N++M),rfl,.cons (.cons (.app (.refl _))),i,_,rfl,.inl h2,ws,⟨s,rfl,hw.mono zS⟩,hf,he.trans ?_⟩
  have:i=0∨i=1:=by omega
  rcases this with rfl|rfl
  ·exact funext fun x=>(hint.zero x).symm
  ·exact funext fun x=>(hint.one x).symm
 ·refine DR.self ?_
  refine Nil.ptr (aa.mk (Ld.mk (v:=vr) (by exact .tail _ (List.mem_append_right _ hG.cell)) rfl ?_))
  refine ae.bF (b:=2) (by simp[aE];omega) (by omega) ?_
  have hi:i-2<refs.length:=by omega
  refine hG.rf.ld (n:=((refs.getD (i-2) 0:Nat):Int)) (bg hi) (fun _ h=>.tail _ (List.mem_append_right _ h)) ?_
  refine Nil.ptr (aa.mk (Ld.mk (v:=vf) (by exact .tail _ (List.mem_append_right _ hG.cell)) rfl ?_))
  refine ae.bF (b:=2) (by simp[aE];omega) (by omega) ?_
  have hi':i-2<fs.length:=by rw[←hg.len];exact hi
  have e':fs.getD (i-2) []=fs[i-2]:=by rw[List.getD_eq_getElem?_getD,List.getElem?_eq_getElem hi'];rfl
  obtain⟨rs,hSl,hE⟩:=hG.fn
  obtain⟨row,hrow,s,rfl,hw⟩:=hE.get (i:=i-2) (x:=⟨K.n,fs[i-2]⟩) (by rw[List.getElem?_map,List.getElem?_eq_getElem hi'];rfl)
  refine ah.sl hSl hrow fun p hp=>?_
  refine aD.at hp rfl (by decide) (fun _ h=>.tail _ (List.mem_append_right _ h)) ?_
  have h1:∀x∈[Value.int .i64 (K.n:Int),s],x.oneCell'=true:=by have:=aT hw;simpa[Value.oneCell']using this
  refine St.whole (r:=[.int .i64 (K.n:Int),s]) (by exact .head _) rfl rfl h1 ?_
  refine aD.whole (r:=[.int .i64 (K.n:Int),s]) (by exact .head _) rfl ?_
  obtain⟨mB,h3⟩:=hg.is (i-2) hi
  have hmem:refs.getD (i-2) 0∈refs:=by rw[List.getD_eq_getElem?_getD,List.getElem?_eq_getElem hi];exact List.getElem_mem hi
  exact aB.here ⟨_::M,rfl,.cons (.refl _),refs.getD (i-2) 0,_,rfl,hg.live hK hmem,fs[i-2],⟨s,rfl,hw.mono zS⟩,hg.qO _ (List.getElem_mem hi'),by rw[←e'];exact h3⟩
def Ss(k v x:Nat)(f h i:aF.Fn):aF.Fn:=match k with
 |0=>fun y=>y.testBit v
 |1=>fun y=> !f y
 |2=>fun y=>Hw (x%16) (f y) (h y)
 |3=>fun y=>Hw (x%16) (f y) (h y)
 |4=>fun y=>if f y then h y else i y
 |5=>fun y=>f (aG.aI y v (decide (x%2=1)))
 |6=>fun y=>Hw 14 (f (aG.aI y v false)) (f (aG.aI y v true))
 |7=>fun y=>Hw 8 (f (aG.aI y v false)) (f (aG.aI y v true))
 |_=>fun y=>if h y then f (aG.aI y v true)else f (aG.aI y v false)
structure uK where
 k:Nat
 v:Nat
 a:Nat
 b:Nat
 c:Nat
 x:Nat
structure uK.Ok(o:uK):Prop where
 k:o.k<256
 v:o.v<256
 a:o.a<256
 b:o.b<256
 c:o.c<256
 x:o.x<18446744073709551616
def uK.cells(o:uK):List Value:=[.int .u8 (o.k:Int),.int .u8 (o.v:Int),.int .u8 (o.a:Int),.int .u8 (o.b:Int),.int .u8 (o.c:Int),.int .u64 (o.x:Int)]
set_option maxHeartbeats 1000000 in
theorem KE(hG:mU gb kp K.n vr vf refs fs M G)(hn:K.n≤16)(AX:1≤K.n){o:uK}(ho:o.Ok){ft ht it:Value}{f h i:aF.Fn}(hf:dS M ft K.n f)(hh:dS M ht K.n h)(hi:dS M it K.n i):
  PxL Tryz.prog 127 #[ptr gb,.agg o.cells.toArray,ft,ht,it] M G (fun w H=>∃t,w=.tuple #[t,.int .i64 0]∧dS H t K.n (Ss (o.k%9) (o.v%K.n) o.x f h i)):=by
 obtain⟨ws,⟨s1,rfl,hw⟩,hwf,rfl⟩:=hf
 obtain⟨us,⟨s2,rfl,hu⟩,huf,rfl⟩:=hh
 obtain⟨rs,⟨s3,rfl,hr⟩,hrf,rfl⟩:=hi
 intro g
 refine EN (R:=aB _) ?_
 unfold L127
 intro b1 _ b3 _ b5 _ b7 _ b9 _
 refine aa.mk (Ld.mk (v:=.int .u8 (o.v:Int)) (by exact .tail _ (.tail _ (.tail _ (.tail _ (.head _))))) rfl ?_)
 refine aY.nat (by have:=ho.v;simp[aE];omega) ?_
 refine Nil.ptr (aa.mk (Ld.mk (v:=.int .i64 (K.n:Int)) (by exact .tail _ (.tail _ (.tail _ (.tail _ (.tail _ (List.mem_append_right _ hG.cell)))))) rfl ?_))
 refine ae.rY (by omega) ?_
 have hv:=Nat.mod_lt o.v (show 0<K.n by omega)
 generalize o.v%K.n=v at*
 refine Nil.ptr (aa.mk (Ld.mk (v:=.int .i64 (K.n:Int)) (by exact .tail _ (.tail _ (.tail _ (.tail _ (.tail _ (List.mem_append_right _ hG.cell)))))) rfl ?_))
 obtain⟨B1,JO⟩:∃B1:Hp,B1=(b7,Obj.cells #[.int .i64 (K.n:Int),s3] 57 (0,0))::(b5,.cells #[.int .i64 (K.n:Int),s2] 57 (0,0))::(b3,.cells #[.int .i64 (K.n:Int),s1] 57 (0,0))::(b1,.cells o.cells.toArray 106 (0,0))::M:=⟨_,rfl⟩
 have m7:(b7,Obj.cells #[.int .i64 (K.n:Int),s3] 57 (0,0))∈B1:=by rw[JO];exact .head _
 have m5:(b5,Obj.cells #[.int .i64 (K.n:Int),s2] 57 (0,0))∈B1:=by rw[JO];exact .tail _ (.head _)
 have m3:(b3,Obj.cells #[.int .i64 (K.n:Int),s1] 57 (0,0))∈B1:=by rw[JO];exact .tail _ (.tail _ (.head _))
 have m1:(b1,Obj.cells o.cells.toArray 106 (0,0))∈B1:=by rw[JO];exact .tail _ (.tail _ (.tail _ (.head _)))
 have hsub:∀x∈M,x∈B1:=fun x hx=>by rw[JO];exact .tail _ (.tail _ (.tail _ (.tail _ hx)))
 have gA:bR M B1:=by rw[JO];exact .cons (.cons (.cons (.cons (.refl _))))
 change ag Tryz.prog g _ _ ((b9,Obj.cells #[.int .i64 0,.slice none 0 0] 57 (0,0))::(((b7,Obj.cells #[.int .i64 (K.n:Int),s3] 57 (0,0))::(b5,.cells #[.int .i64 (K.n:Int),s2] 57 (0,0))::(b3,.cells #[.int .i64 (K.n:Int),s1] 57 (0,0))::(b1,.cells o.cells.toArray 106 (0,0))::M)++G)) _ _
 rw[←JO]
 have t1:dS B1 (.agg #[.int .i64 (K.n:Int),s1]) K.n (fg K.n ws):=⟨ws,⟨s1,rfl,hw.mono hsub⟩,hwf,rfl⟩
 have t2:dS B1 (.agg #[.int .i64 (K.n:Int),s2]) K.n (fg K.n us):=⟨us,⟨s2,rfl,hu.mono hsub⟩,huf,rfl⟩
 have t3:dS B1 (.agg #[.int .i64 (K.n:Int),s3]) K.n (fg K.n rs):=⟨rs,⟨s3,rfl,hr.mono hsub⟩,hrf,rfl⟩
 clear JO hw hu hr
 have one:∀{X:Hp} {s:Value} {l:List Nat},Words X s l→∀x∈[Value.int .i64 (K.n:Int),s],x.oneCell'=true:=fun hw=>by have:=aT hw;simpa[Value.oneCell']using this
 refine ag.px (.cons .left) (Oy hn hv B1) ?_
 rintro w N1 ⟨_,rfl,w4,⟨s4,rfl,NT⟩,W6,Zb⟩
 refine Ext.mk rfl (Ext.mk rfl ?_)
 intro Gp _
 refine St.whole (r:=[.int .i64 (K.n:Int),s4]) (by exact .head _) rfl rfl (one NT) ?_
 refine aD.whole (r:=[.int .i64 (K.n:Int),s1]) (by exact .tail _ (.tail _ (List.mem_append_left _ (List.mem_append_right _ m3)))) rfl ?_
 refine ag.px (.cons (.cons .left)) (lW (c:=false) (t1.mono zS) hv) ?_
 rintro w N2 ⟨_,rfl,w5,⟨s5,rfl,U6⟩,hf5,he5⟩
 refine Ext.mk rfl (Ext.mk rfl ?_)
 intro qV _
 refine St.whole (r:=[.int .i64 (K.n:Int),s5]) (by exact .head _) rfl rfl (one U6) ?_
 refine aD.whole (r:=[.int .i64 (K.n:Int),s1]) (by exact .tail _ (.tail _ (.tail _ (List.mem_append_left _ (List.mem_append_right _ (List.mem_append_right _ m3)))))) rfl ?_
 refine ag.px (.cons (.cons (.cons .left))) (lW (c:=true) (t1.mono zS) hv) ?_
 rintro w N3 ⟨_,rfl,w6,⟨s6,rfl,Q2⟩,hf6,he6⟩
 refine Ext.mk rfl (Ext.mk rfl ?_)
 intro Gm _
 refine St.whole (r:=[.int .i64 (K.n:Int),s6]) (by exact .head _) rfl rfl (one Q2) ?_
 obtain⟨Q,hQ⟩:∃Q:Hp,Q=N3++(N2++(N1++B1)):=⟨_,rfl⟩
 have q4:dS Q (.agg #[.int .i64 (K.n:Int),s4]) K.n (fun y=>y.testBit v):=by rw[hQ];exact⟨w4,⟨s4,rfl,NT.mono zS⟩,W6,Zb⟩
 have q5:dS Q (.agg #[.int .i64 (K.n:Int),s5]) K.n (fun y=>fg K.n ws (aG.aI y v false)):=by rw[hQ];exact⟨w5,⟨s5,rfl,U6.mono zS⟩,hf5,he5⟩
 have q6:dS Q (.agg #[.int .i64 (K.n:Int),s6]) K.n (fun y=>fg K.n ws (aG.aI y v true)):=by rw[hQ];exact⟨w6,⟨s6,rfl,Q2⟩,hf6,he6⟩
 have Rx:∀x∈B1,x∈Q:=fun x hx=>by rw[hQ];exact List.mem_append_right _ (List.mem_append_right _ (List.mem_append_right _ hx))
 have hgQ:bR M Q:=by rw[hQ];exact .app (.app (.app gA))
 rw[←hQ]
 have t1:=t1.mono Rx
 have t2:=t2.mono Rx
 have t3:=t3.mono Rx
 have m1:=Rx _ m1
 have m3:=Rx _ m3
 have m5:=Rx _ m5
 have m7:=Rx _ m7
 clear hQ Rx gA hsub NT U6 Q2
 have fin:∀(N4:Hp) (f:aF.Fn) (u:Value),dS (N4++Q) u K.n f→f=Ss (o.k%9) v o.x (fg K.n ws) (fg K.n us) (fg K.n rs)→
   St 2 ((Gm,.cells #[.int .i64 (K.n:Int),s6] 57 (0,0))::(qV,.cells #[.int .i64 (K.n:Int),s5] 57 (0,0))::(Gp,.cells #[.int .i64 (K.n:Int),s4] 57 (0,0))::(b9,.cells #[.int .i64 0,.slice none 0 0] 57 (0,0))::((N4++Q)++G)) (ptr b9) u fun H=>aD 2 H (ptr b9) fun r=>
    aB (fun w H=>∃M',H=M'++G∧bR M M'∧∃t,w=.tuple #[t,.int .i64 0]∧dS M' t K.n (Ss (o.k%9) v o.x (fg K.n ws) (fg K.n us) (fg K.n rs))) (.returned (.tuple #[r,.int .i64 0])) H:=by
  rintro N4 f u ⟨w7,⟨s7,rfl,hw7⟩,hf7,he7⟩ e
  refine St.whole (r:=[.int .i64 (K.n:Int),s7]) (by exact .tail (.tail (.tail (.head _)))) rfl rfl (one hw7) ?_
  refine aD.whole (r:=[.int .i64 (K.n:Int),s7]) (by exact .tail _ (.tail _ (.tail _ (.head _)))) rfl ?_
  exact aB.here ⟨_::_::_::_::(N4++Q),rfl,.cons (.cons (.cons (.cons (.app hgQ)))),_,rfl,w7,⟨s7,rfl,hw7.mono zS⟩,hf7,he7.trans e⟩
 have YY:∀{k:Value→Prop},k (.agg #[.int .i64 (K.n:Int),s1])→aD 2 ((Gm,.cells #[.int .i64 (K.n:Int),s6] 57 (0,0))::(qV,.cells #[.int .i64 (K.n:Int),s5] 57 (0,0))::(Gp,.cells #[.int .i64 (K.n:Int),s4] 57 (0,0))::(b9,.cells #[.int .i64 0,.slice none 0 0] 57 (0,0))::(Q++G)) (ptr b3) k:=fun hk=>
  aD.whole (r:=[.int .i64 (K.n:Int),s1]) (by exact .tail _ (.tail _ (.tail _ (.tail _ (List.mem_append_left _ m3))))) rfl hk
 have ld5:∀{k:Value→Prop},k (.agg #[.int .i64 (K.n:Int),s2])→aD 2 ((Gm,.cells #[.int .i64 (K.n:Int),s6] 57 (0,0))::(qV,.cells #[.int .i64 (K.n:Int),s5] 57 (0,0))::(Gp,.cells #[.int .i64 (K.n:Int),s4] 57 (0,0))::(b9,.cells #[.int .i64 0,.slice none 0 0] 57 (0,0))::(Q++G)) (ptr b5) k:=fun hk=>
  aD.whole (r:=[.int .i64 (K.n:Int),s2]) (by exact .tail _ (.tail _ (.tail _ (.tail _ (List.mem_append_left _ m5))))) rfl hk
 have ld7:∀{k:Value→Prop},k (.agg #[.int .i64 (K.n:Int),s3])→aD 2 ((Gm,.cells #[.int .i64 (K.n:Int),s6] 57 (0,0))::(qV,.cells #[.int .i64 (K.n:Int),s5] 57 (0,0))::(Gp,.cells #[.int .i64 (K.n:Int),s4] 57 (0,0))::(b9,.cells #[.int .i64 0,.slice none 0 0] 57 (0,0))::(Q++G)) (ptr b7) k:=fun hk=>
  aD.whole (r:=[.int .i64 (K.n:Int),s3]) (by exact .tail _ (.tail _ (.tail _ (.tail _ (List.mem_append_left _ m7))))) rfl hk
 have SI:∀{k:Value→Prop},k (.agg #[.int .i64 (K.n:Int),s5])→aD 2 ((Gm,.cells #[.int .i64 (K.n:Int),s6] 57 (0,0))::(qV,.cells #[.int .i64 (K.n:Int),s5] 57 (0,0))::(Gp,.cells #[.int .i64 (K.n:Int),s4] 57 (0,0))::(b9,.cells #[.int .i64 0,.slice none 0 0] 57 (0,0))::(Q++G)) (ptr qV) k:=fun hk=>
  aD.whole (r:=[.int .i64 (K.n:Int),s5]) (by exact .tail _ (.head _)) rfl hk
 have SH:∀{k:Value→Prop},k (.agg #[.int .i64 (K.n:Int),s6])→aD 2 ((Gm,.cells #[.int .i64 (K.n:Int),s6] 57 (0,0))::(qV,.cells #[.int .i64 (K.n:Int),s5] 57 (0,0))::(Gp,.cells #[.int .i64 (K.n:Int),s4] 57 (0,0))::(b9,.cells #[.int .i64 0,.slice none 0 0] 57 (0,0))::(Q++G)) (ptr Gm) k:=fun hk=>
  aD.whole (r:=[.int .i64 (K.n:Int),s6]) (by exact .head _) rfl hk
 have SE:∀(i:Nat) (x:Value) {k:Value→Prop},o.cells[i]? =some x→k x→aa i (ptr b1) fun p=>Ld ((Gm,.cells #[.int .i64 (K.n:Int),s6] 57 (0,0))::(qV,.cells #[.int .i64 (K.n:Int),s5] 57 (0,0))::(Gp,.cells #[.int .i64 (K.n:Int),s4] 57 (0,0))::(b9,.cells #[.int .i64 0,.slice none 0 0] 57 (0,0))::(Q++G)) p k:=fun i x _ hx hk=>
  aa.mk (Ld.mk (v:=x) (by exact .tail _ (.tail _ (.tail _ (.tail _ (List.mem_append_left _ m1))))) (by simpa using hx) hk)
 refine SE 0 _ rfl ?_
 refine ae.rY (b:=9) (by decide) ?_
 have hk9:=Nat.mod_lt o.k (show 0<9 by decide)
 have hx:=ho.x
 generalize o.k%9=k at*
 refine ae.gn (b:=0) (Br.dec (fun h0=>?_) (fun h0=>?_))
 ·subst h0
  refine aD.whole (r:=[.int .i64 (K.n:Int),s4]) (by exact .tail _ (.tail _ (.head _))) rfl ?_
  exact fin [] _ _ q4 rfl
 refine ae.gn (b:=1) (Br.dec (fun h0=>?_) (fun h0=>?_))
 ·subst h0
  refine YY ?_
  refine ag.px (.cons (.cons (.cons (.cons .left)))) (OB t1) ?_
  rintro w N4 ⟨u,rfl,hu⟩
  exact Ext.mk rfl (Ext.mk rfl (fin N4 _ u hu rfl))
 intro J hJ
 have BW:J [.bool (decide (k=2∨k=3))] ((Gm,.cells #[.int .i64 (K.n:Int),s6] 57 (0,0))::(qV,.cells #[.int .i64 (K.n:Int),s5] 57 (0,0))::(Gp,.cells #[.int .i64 (K.n:Int),s4] 57 (0,0))::(b9,.cells #[.int .i64 0,.slice none 0 0] 57 (0,0))::(Q++G)):=by
  refine hJ _ _ fun gs=>?_
  refine Br.dec (fun XQ=>?_) (fun XQ=>?_)
  ·refine SE 5 _ rfl ?_
   refine ae.rY (b:=16) (by decide) ?_
   have h16:=Nat.mod_lt o.x (show 0<16 by decide)
   refine aY.nat (by simp[aE];omega) ?_
   refine YY (ld5 ?_)
   refine ag.px (.cons (.cons (.cons (.cons .left)))) (xx h16 t1 t2) ?_
   rintro w N4 ⟨u,rfl,hu⟩
   refine Ext.mk rfl (Ext.mk rfl (fin N4 _ u hu ?_))
   rcases XQ with rfl|rfl<;>rfl
  refine ae.gn (b:=4) (Br.dec (fun h0=>?_) (fun h0=>?_))
  ·subst h0
   refine YY (ld5 (ld7 ?_))
   refine ag.px (.cons (.cons (.cons (.cons .left)))) (Fu t1 t2 t3) ?_
   rintro w N4 ⟨u,rfl,hu⟩
   exact Ext.mk rfl (Ext.mk rfl (fin N4 _ u hu rfl))
  refine ae.gn (b:=5) (Br.dec (fun h0=>?_) (fun h0=>?_))
  ·subst h0
   refine YY (SE 5 _ rfl ?_)
   refine ae.rY (b:=2) (by decide) ?_
   refine ae.gn (b:=1) ?_
   refine ag.px (.cons (.cons (.cons (.cons .left)))) (lW t1 hv) ?_
   rintro w N4 ⟨u,rfl,hu⟩
   exact Ext.mk rfl (Ext.mk rfl (fin N4 _ u hu rfl))
  refine ae.gn (b:=6) (Br.dec (fun h0=>?_) (fun h0=>?_))
  ·subst h0
   refine SI (SH ?_)
   refine ag.px (.cons (.cons (.cons (.cons .left)))) (xx (op:=14) (by decide) q5 q6) ?_
   rintro w N4 ⟨u,rfl,hu⟩
   exact Ext.mk rfl (Ext.mk rfl (fin N4 _ u hu rfl))
  refine ae.gn (b:=7) (Br.dec (fun h0=>?_) (fun h0=>?_))
  ·subst h0
   refine SI (SH ?_)
   refine ag.px (.cons (.cons (.cons (.cons .left)))) (xx (op:=8) (by decide) q5 q6) ?_
   rintro w N4 ⟨u,rfl,hu⟩
   exact Ext.mk rfl (Ext.mk rfl (fin N4 _ u hu rfl))
  ·have:k=8:=by omega
   subst this
   refine ld5 (SH (SI ?_))
   refine ag.px (.cons (.cons (.cons (.cons .left)))) (Fu t2 q6 q5) ?_
   rintro w N4 ⟨u,rfl,hu⟩
   exact Ext.mk rfl (Ext.mk rfl (fin N4 _ u hu rfl))
 refine ae.gn (b:=2) (Br.dec (fun h2=>?_) (fun h2=>?_))
 ·have:decide (k=2)=decide (k=2∨k=3):=by simp[h2]
  rw[this];exact JE.mk BW
 ·refine ae.gn (b:=3) ?_
  have:decide (k=3)=decide (k=2∨k=3):=by simp[h2]
  rw[this];exact JE.mk BW
end
end Go.Proofs
namespace Go.Sx
open Go
section
variable {P:Program} {g:Gh} {H B:Hp} {c:Hp→Hp}
theorem ag.top{f:FuncId}{args:Array Value}{Q:Value→Hp→Prop}{K:Value→Hp→Prop}{KP:List PanicEntry→Hp→Prop}(hh:cc B H c)(hc:Fc P f args B (fun r H'=>∃N,H'=N++B∧Q r N))(hk:∀r N,Q r N→K r (N++H)):ag P g f args H K KP:=by
 refine(ag.fn (K:=fun r H'=>∃N,H'=c (N++B)∧Q r N) (KP:=KP) hh hc fun r C' ⟨N,h1,h2⟩=>⟨N,by rw[h1],h2⟩).post ?_
 intro e H' h
 cases e with
 |returned v=>
  obtain⟨N,rfl,hq⟩:=h
  refine⟨N++H,?_,hk v N hq⟩
  obtain⟨h1,F,h2⟩:=hh.spec
  refine .perm ((h2 (N++B)).trans ?_)
  rw[h1,List.append_assoc]
  exact List.Perm.append_left N (h2 B).symm
 |panicked ch=>exact⟨H',.refl _,h⟩
 |outgrown=>exact⟨H',.refl _,h⟩
theorem aU.BB{x:Nat×Obj}(h:x∈H):aU H [x]:=by
 obtain⟨A,D,rfl⟩:=List.append_of_mem h
 exact .ry (aU.left (A:=[x]))
end
end Go.Sx
