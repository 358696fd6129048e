import Derived.Test.YtmngikblgfodnaaGreatDoorH3
import Derived.Test.YtmngikblgfodnaaGreatDoorH2
import Derived.Test.YtmngikblgfodnaaGreatDoorH1
import Derived.Deep.Slices
import Derived.SizedLaws
import Derived.WalkSmall
import Derived.Lib.Builder
import Derived.Lib.AppendStr
import Derived.Lib.UnsafeStr
import Derived.Laws.Externs
set_option linter.unusedVariables false
set_option linter.unusedSimpArgs false
set_option linter.unusedSectionVars false
namespace aC
open ak
def ik(N:dU)(v:Nat)(b:Bool)(r:Nat):Nat:=match N r with
 |some d=>if d.v=v then(if b then d.hi else d.lo)else r
 |none=>r
def iK(N:dU)(v:Nat)(b:Bool)(q:zL):zL:=q.map (ik N v b)
structure vL(n:Nat)(ag:Nat->Nat)(N:dU)(q:zL)(v:Nat):Prop where
 lt:v<n
 ex:∃r∈q,∃d,N r=some d/\d.v=v
 le:∀r∈q,ag v<=dep n ag N r
inductive Tree(n:Nat)(ag:Nat->Nat)(N:dU):zL->Nat->Prop
 |leaf {q:zL} (h:∀r∈q,N r=none):Tree n ag N q 0
 |node {q:zL} {v a b:Nat} (h:vL n ag N q v) (ha:Tree n ag N (iK N v false q) a) (hb:Tree n ag N (iK N v true q) b):Tree n ag N q (a+b+1)
def tD(t:Bool->Bool->Bool->Bool)(S:Nat->Fn)(q:zL):Fn:=λx=>t (S (q.getD 0 0) x) (S (q.getD 1 0) x) (S (q.getD 2 0) x)
section
variable {n:Nat} {ag:Nat->Nat} {N:dU} {S:Nat->Fn} {q:zL} {v:Nat}
theorem vL.uniq(hl:nW n ag){u:Nat}(h:vL n ag N q v)(h':vL n ag N q u):v=u:=by
 obtain⟨r,hr,d,hd,rfl⟩:=h.ex;obtain⟨s,hs,e,he,rfl⟩:=h'.ex;have a:=h.le s hs;have b:=h'.le r hr;rw[ay he]at a;rw[ay hd]at b;exact hl.inj _ _ h.lt h'.lt zO
theorem qs(h:WF n ag N)(hl:nW n ag)(hi:Interp N S){r:Nat}(hr:live N r)(hv:v<n)(hle:ag v<=dep n ag N r)(b:Bool):
  (∀x,S (ik N v b r) x=S r (aB x v b))/\live N (ik N v b r)/\ag v+1<=dep n ag N (ik N v b r):=by
 have hlt:=hl.lt v hv;unfold ik;cases e:N r with
 |none=>
  simp only;refine⟨λx=>?_,hr,by rw[bj e];omega⟩;exact(h.bW hl hi hr hv (by rw[bj e];exact hlt) x b).symm
 |some d=>
  simp only;rw[ay e]at hle;by_cases ev:d.v=v
  ·rw[xae ev];subst ev;refine⟨λx=>(h.child hl hi e x b).symm,?_,?_⟩
   ·cases b
    ·exact(h.lo e).1
    exact(h.hi e).1
   cases b
   ·exact(h.lo e).2
   exact(h.hi e).2
  rw[xac ev];have hne:ag v≠ag d.v:=λe2=>ev (hl.inj _ _ (h.var e) hv e2.symm);refine⟨λx=>(h.bW hl hi hr hv (by rw[ay e];omega) x b).symm,hr,by rw[ay e];omega⟩
theorem Rr(b:Bool):(iK N v b q).length=q.length:=by simp[iK]
theorem Ru{b:Bool}{i:Nat}(hi:i<q.length):(iK N v b q).getD i 0=ik N v b (q.getD i 0):=by
 simp[iK,List.getD,xab hi]
theorem tF(h:WF n ag N)(hl:nW n ag)(hi:Interp N S)(hq:∀r∈q,live N r)(ht:vL n ag N q v)(b:Bool):
  (∀r∈iK N v b q,live N r)/\(∀r∈iK N v b q,ag v+1<=dep n ag N r):=by
 constructor
 ·intro r hr;obtain⟨s,hs,rfl⟩:=xam.1 hr;exact(qs h hl hi (hq s hs) ht.lt (ht.le s hs) b).2.1
 intro r hr;obtain⟨s,hs,rfl⟩:=xam.1 hr;exact(qs h hl hi (hq s hs) ht.lt (ht.le s hs) b).2.2
theorem U3(h:WF n ag N)(hl:nW n ag)(hi:Interp N S)(h3:q.length=3)(hq:∀r∈q,live N r)(ht:vL n ag N q v)(t:Bool->Bool->Bool->Bool)(b:Bool):tD t S (iK N v b q)=λx=>tD t S q (aB x v b):=by
 funext x
 have key:∀i,i<3->S ((iK N v b q).getD i 0) x=S (q.getD i 0) (aB x v b):=λi X0=>by
  have hi':i<q.length:=by omega
  rw[Ru hi'];have hm:q.getD i 0∈q:=by rw[xan,xab hi'];exact xaF _
  exact(qs h hl hi (hq _ hm) ht.lt (ht.le _ hm) b).1 x
 unfold tD;rw[key 0 zO,key 1 zO,key 2 zO]
theorem Lu(h:WF n ag N)(hl:nW n ag)(hi:Interp N S){ord:zL}(ho:Ord n ag ord)(h3:q.length=3)(hq:∀r∈q,live N r){l:Nat}(KW:l<=n)(hle:∀r∈q,l<=dep n ag N r)(t:Bool->Bool->Bool->Bool):∀j,j<l->¬fg (tD t S q) (ord.getD j 0):=by
 rintro j hj ⟨x,hx⟩;apply hx;obtain⟨o1,o2⟩:=ho.at' j zO;have key:∀i,i<3->∀b,S (q.getD i 0) (aB x (ord.getD j 0) b)=S (q.getD i 0) x:=λi X0 b=>by
  have hi':i<q.length:=by omega
  have hm:q.getD i 0∈q:=by rw[xan,xab hi'];exact xaF _
  exact h.bW hl hi (hq _ hm) o1 (by rw[o2];exact xa2 hj (hle _ hm)) x b
 unfold tD;simp only[key 0 zO,key 1 zO,key 2 zO]
theorem Lv(hi:Interp N S)(h3:q.length=3)(hq:∀r∈q,r<2)(t:Bool->Bool->Bool->Bool)(x:Nat):tD t S q x=t (decide (q.getD 0 0=1)) (decide (q.getD 1 0=1)) (decide (q.getD 2 0=1)):=by
 have key:∀i,i<3->S (q.getD i 0) x=decide (q.getD i 0=1):=λi X0=>by
  have hi':i<q.length:=by omega
  have hm:q.getD i 0∈q:=by rw[xan,xab hi'];exact xaF _
  have:=hq _ hm;have h2:q.getD i 0=0\/q.getD i 0=1:=by omega
  rcases h2 with e|e<;>rw[e]
  ·rw[hi.zero];rfl
  rw[hi.one];rfl
 unfold tD;rw[key 0 zO,key 1 zO,key 2 zO]
theorem Ob(h:WF n ag N):∀{q:zL},(∃r∈q,∃d,N r=some d)->(hl:nW n ag)->∃v,vL n ag N q v
 | [],he,_=>by obtain⟨r,hr,_⟩:=he;cases hr
 |s::q,he,hl=>by
  by_cases hq:∃r∈q,∃d,N r=some d
  ·obtain⟨v,hv⟩:=Ob h hq hl;cases es:N s with
   |none=>
    refine⟨v,hv.lt,?_,λr hr=>?_⟩
    ·obtain⟨r,hr,x⟩:=hv.ex;exact⟨r,by simp[hr],x⟩
    rcases xag.1 hr with rfl|hr
    ·rw[bj es];exact xcq (hl.lt v hv.lt)
    exact hv.le r hr
   |some d=>
    by_cases hlt:ag d.v<=ag v
    ·refine⟨d.v,h.var es,⟨s,by simp,d,es,rfl⟩,λr hr=>?_⟩;rcases xag.1 hr with rfl|hr
     ·rw[ay es];exact xal _
     exact xbZ hlt (hv.le r hr)
    refine⟨v,hv.lt,?_,λr hr=>?_⟩
    ·obtain⟨r,hr,x⟩:=hv.ex;exact⟨r,by simp[hr],x⟩
    rcases xag.1 hr with rfl|hr
    ·rw[ay es];omega
    exact hv.le r hr
  obtain⟨r,hr,d,hd⟩:=he;rcases xag.1 hr with rfl|hr
  ·refine⟨d.v,h.var hd,⟨r,by simp,d,hd,rfl⟩,λs hs=>?_⟩;rcases xag.1 hs with rfl|hs
   ·rw[ay hd];exact xal _
   have:N s=none:=by
    cases e:N s with
    |none=>rfl
    |some d'=>exact absurd ⟨s,hs,d',e⟩ hq
   rw[bj this];exact xcq (hl.lt _ (h.var hd))
  exact absurd ⟨r,hr,d,hd⟩ hq
theorem Ta(h:WF n ag N)(hl:nW n ag)(hi:Interp N S):∀(k l:Nat) (q:zL),n-l<=k->l<=n->(∀r∈q,live N r)->(∀r∈q,l<=dep n ag N r)->∃c,Tree n ag N q c/\c+1<=2^(n-l):=by
 intro k;induction k with
 |zero=>
  intro l q hk KW hq hd;refine⟨0,.leaf λr hr=>?_,xb2⟩;cases e:N r with
  |none=>rfl
  |some d=>have:=hd r hr;rw[ay e]at this;have:=hl.lt _ (h.var e);omega
 |succ k ih=>
  intro l q hk KW hq hd;by_cases he:∃r∈q,∃d,N r=some d
  ·obtain⟨v,hv⟩:=Ob h he hl;have hlv:=hl.lt v hv.lt;have nM:l<=ag v:=by
    obtain⟨r,hr,d,dG,rfl⟩:=hv.ex;have:=hd r hr;rwa [ay dG]at this
   obtain⟨f1,f2⟩:=tF (S:=S) h hl hi hq hv false;obtain⟨t1,t2⟩:=tF (S:=S) h hl hi hq hv true;obtain⟨a,ha,Dw⟩:=ih (ag v+1) _ zO hlv f1 f2;obtain⟨b,hb,X8⟩:=ih (ag v+1) _ zO hlv t1 t2;refine⟨a+b+1,.node hv ha hb,?_⟩;have e1:2^(n-ag v)=2*2^(n-(ag v+1)):=by
    rw[show n-ag v=(n-(ag v+1))+1 by omega,xcB,xbJ]
   have e2:2^(n-ag v)<=2^(n-l):=xat zD zO;omega
  refine⟨0,.leaf λr hr=>?_,xb2⟩;cases e:N r with
  |none=>rfl
  |some d=>exact absurd ⟨r,hr,d,e⟩ he
def k6(N:dU)(v:Nat)(b:Bool)(q:zL)(i:Nat):zL:=(iK N v b q).take i++q.drop i
theorem Bo{b:Bool}{i:Nat}(hi:i<=q.length):(k6 N v b q i).length=q.length:=by simp[k6,iK];omega
theorem xD(b:Bool):k6 N v b q 0=q:=by simp[k6]
theorem Pk(b:Bool):k6 N v b q q.length=iK N v b q:=by
 unfold k6;rw[xdu (by rw[Rr];exact xal _),xck,xaH]
theorem rh{b:Bool}{i r:Nat}(hr:q[i]? =some r):(k6 N v b q i).set i (ik N v b r)=k6 N v b q (i+1):=by
 have hi:=(xah.1 hr).1;have he:=(xah.1 hr).2;have hl:((iK N v b q).take i).length=i:=by simp[iK];omega
 have hc:(iK N v b q)[i]? =some (ik N v b r):=by simp[iK,hr]
 unfold k6;rw[xcG _ _ zO,hl,xcC,xaV hi,xcE,xbv,hc,xai];rfl
theorem xE{b:Bool}{i r:Nat}(hr:q[i]? =some r)(h:ik N v b r=r):k6 N v b q (i+1)=k6 N v b q i:=by
 rw[<-rh hr,h];have hi:=(xah.1 hr).1;have he:=(xah.1 hr).2;have hl:((iK N v b q).take i).length=i:=by simp[iK];omega
 unfold k6;rw[xcG _ _ zO,hl,xcC,xaV hi,xcE,he]
end
end aC
set_option maxRecDepth 100000
namespace Go.Proofs
open Go Go.Sx Tryz
open aC
noncomputable instance {K:Kd}{S:Nat->aC.Fn}{ord:zL}{l:Nat}:Decidable (kg K S ord l):=Nat.decLe _ _
noncomputable def rm(K:Kd)(S:Nat->aC.Fn):Rm:=⟨K.n,ff K S,λord l=>decide (kg K S ord l)⟩
theorem uk{K:Kd}{S:Nat->aC.Fn}{ord:zL}{l:Nat}:(rm K S).fit ord l=true↔kg K S ord l:=by
 show decide (kg K S ord l)=true↔_;exact decide_eq_true_iff
def rep(b a s:Nat):zV:=.agg #[iv (b:Int),iv (a:Int),iv (s:Int),.bool false]
end Go.Proofs
namespace aC
open ak
section
variable {n v:Nat} {bs:List Bool} {lo hi ws:zL}
theorem Q0(h:∀v,v<n->¬fg (fB n ws) v)(x:Nat):fB n ws x=fB n ws 0:=by
 have key:∀k,k<=n->fB n ws (x%2^k)=fB n ws 0:=λk=>by
  induction k with
  |zero=>intro _;rw[show x%2^0=0 from xeG x]
  |succ k ih=>
   intro hk;rw[<-ih zO];have e:x%2^(k+1)=aB (x%2^k) k (x.testBit k):=by
    apply xaX;intro i;rw[ai,xbl,xbl];by_cases e:i=k
    ·subst e;simp
    rw[xac e];congr 1;exact xdm.2 zO
   rw[e,fc (h k zO)]
 have:=key n (xal _);rw[<-this];unfold fB;rw[Nat.mod_mod]
end
end aC
set_option maxRecDepth 100000
namespace Go.Proofs
open Go Go.Sx Tryz
section
open aC
theorem bX{ws:zL}{i:Nat}(h:i<ws.length):(iw ws)[i]? =some ((ws.getD i 0:Nat):Int):=by
 rw[cr (w:=ws.getD i 0)];rw[xan,xab h];rfl
def aaq(n:Nat)(p:List Int):Prop:=p.length=n/\∀v:Nat,v<n->p.count (v:Int)=1
instance (n:Nat)(p:List Int):Decidable (aaq n p):=by unfold aaq;infer_instance
theorem PM{p:List Int}{x:Int}{i:Nat}(h:x∉p.take i)(hi:i<p.length)(he:p[i]=x):p.idxOf x=i:=by
 have e:p=p.take i++p[i]::p.drop (i+1):=by
  conv=>lhs;rw[<-xbo i p]
  rw[xaV hi]
 conv=>lhs;rw[e]
 rw[List.idxOf_append,xac h,he,List.idxOf_cons_self,xbA];omega
def sH(p:List Int):Prop:=∀v:Nat,v<p.length->(v:Int)∈p
theorem vI{p:zL}{n:Nat}(hp:p.Perm (List.range n)):sH (iw p):=λv hv=>by
 rw[an,hp.length_eq,xaK]at hv;exact xam.2 ⟨v,hp.mem_iff.2 (xaO.2 hv),rfl⟩
theorem Pm{q:zL}{x:Nat}:(x:Int)∈iw q↔x∈q:=by
 unfold iw;rw[xam];exact⟨λ⟨y,hy,e⟩=>by rw[<-Int.ofNat.inj e];exact hy,λh=>⟨x,h,rfl⟩⟩
theorem XD(q:zL)(x:Nat):(iw q).idxOf (x:Int)=q.idxOf x:=by
 induction q with
 |nil=>rfl
 |cons y q ih=>
  show(((y:Nat):Int)::iw q).idxOf (x:Int)=_;rw[List.idxOf_cons,List.idxOf_cons,ih];have:(((y:Nat):Int)==(x:Int))=(y==x):=by
   rw[xcQ];simp[xeA]
  rw[this]
end
section
open aC
theorem I8(a k:Nat):decide ((a>>>k)%2=1)=a.testBit k:=by
 cases hb:a.testBit k
 ·rw[xap];rw[ak.Ji,hb];simp
 rw[xau];rw[ak.Ji,hb]
section
variable {n:Nat} {ord:zL} {L:ak.Fs}
theorem I9:∀k,(cur n ord L k).length<=2^k*L.length
 |0=>by rw[cur,Nat.pow_zero,xdD];exact JN L
 |k+1=>by
  have h1:=QG n (ord.getD k 0) (cur n ord L k);have h2:=I9 k;rw[cur,xcB,xbJ (2^k) 2,xcu];omega
end
theorem QN{ord:zL}{F G:aC.Fn->Prop}(h:∀g,F g->G g):∀l g,fs ord F l g->fs ord G l g
 |0,g,hg=>h g hg
 |l+1,g,⟨f,hf,b,e⟩=>⟨f,QN h l f hf,b,e⟩
theorem ef{n:Nat}{ord:zL}{F G:aC.Fn->Prop}(h:∀g,F g->G g){g:aC.Fn}(hg:bc n ord F g):bc n ord G g:=let ⟨l,a,b,c⟩:=hg;⟨l,a,QN h l g b,c⟩
structure Si(K:Kd)(S:Nat->aC.Fn)(K':Kd)(S':Nat->aC.Fn)(f:aC.Fn)(r:Nat):Prop where
 n:K'.n=K.n
 cap:K'.cap=K.cap
 N:∀s d,K.N s=some d->K'.N s=some d
 fn:∀s,live K.N s->S' s=S s
 live:live K'.N r
 is:S' r=f
 hold:∀s,K'.hold s=K.hold s+if s=r/\2<=r then 1 else 0
theorem xK{N N':dU}(h:∀s d,N s=some d->N' s=some d){s:Nat}(hs:live N s):live N' s:=by
 rcases hs with hs|⟨d,hd⟩
 ·exact .inl hs
 exact .inr ⟨d,h s d hd⟩
theorem En{K K5:Kd}{S S5:Nat->aC.Fn}{ag:Nat->Nat}(hK:Ok K S ag)(Zs:Ok K5 S5 ag)(hold:∀s,K.hold s≠0->K5.hold s≠0)(h3:∀s d d',K.N s=some d->K5.N s=some d'->d'=d):
  ∀(k s:Nat) (d:Nd),K.N s=some d->ag d.v<=k->K5.N s=some d:=by
 intro k;induction k with
 |zero=>
  intro s d hd hl;have fin:live K5.N s->K5.N s=some d:=λhs=>by
   rcases hs with hs|⟨d',dG⟩
   ·have:=(hK.mid.two hd).1;omega
   rw[dG,h3 s d d' hd dG]
  rcases hK.reach s d hd with h|⟨p,e,hp,he⟩
  ·exact fin (.inr (Zs.mid.held s (hold s h)))
  have h1:=hK.wf.lo hp;have h2:=hK.wf.hi hp;rcases he with rfl|rfl
  ·have:=h1.2;rw[ay hd]at this;omega
  have:=h2.2;rw[ay hd]at this;omega
 |succ k ih=>
  intro s d hd hl;have fin:live K5.N s->K5.N s=some d:=λhs=>by
   rcases hs with hs|⟨d',dG⟩
   ·have:=(hK.mid.two hd).1;omega
   rw[dG,h3 s d d' hd dG]
  rcases hK.reach s d hd with h|⟨p,e,hp,he⟩
  ·exact fin (.inr (Zs.mid.held s (hold s h)))
  have h1:=hK.wf.lo hp;have h2:=hK.wf.hi hp;rcases he with rfl|rfl
  ·have:=h1.2;rw[ay hd]at this;exact fin (Zs.mid.lo (ih p e hp zO))
  have:=h2.2;rw[ay hd]at this;exact fin (Zs.mid.hi (ih p e hp zO))
end
end Go.Proofs
namespace aC
open ak
section
variable {K:Kd} {S:Nat->Fn} {ag:Nat->Nat}
theorem Ok.TS(h:Ok K S ag){d e:Nd}{r:Nat}
 (hlo:live K.N d.lo)(hhi:live K.N d.hi)(hne:d.lo≠d.hi)(hv:d.v<K.n)(hlt:ag d.v<dep K.n ag K.N d.lo/\ag d.v<dep K.n ag K.N d.hi)(hr:K.N r=some e)(PV:S r=ite S d):e=d:=by
 have PR:e.v=d.v:=by
  have e1:=h.lv.lt e.v (h.mid.var hr);have e2:=h.lv.lt d.v hv;rcases xcW (ag e.v) (ag d.v)with hh|hh|hh
  ·exfalso;obtain⟨z,hz⟩:=jc h.wf h.lv h.mid.int hr;rw[PV]at hz;apply hz;unfold ite;have i1:=h.wf.bW h.lv h.mid.int hlo (h.mid.var hr) zO;have i2:=h.wf.bW h.lv h.mid.int hhi (h.mid.var hr) zO;have zJ:d.v≠e.v:=λpD=>by rw[pD]at hh;omega
   simp only[ai,xac zJ,i1,i2]
  ·exact h.lv.inj _ _ (h.mid.var hr) hv hh
  exfalso;have hx:=h.wf.bW h.lv h.mid.int (r:=r) (.inr ⟨e,hr⟩) hv (by rw[ay hr];exact hh);apply hne;refine h.wf.same h.lv h.mid.int hlo hhi λx=>?_;have i1:=h.wf.bW h.lv h.mid.int hlo hv hlt.1;have i2:=h.wf.bW h.lv h.mid.int hhi hv hlt.2;have q1:=hx x false;have q2:=hx x true;rw[PV]at q1 q2;have q3:=q1.trans q2.symm;unfold ite at q3;simp only[ai,xa7,i1,i2,xaD,xaT]at q3;exact q3
 have lq:∀(b:Bool) x,S (if b then e.hi else e.lo) x=S (if b then d.hi else d.lo) x:=λb x=>by
  rw[<-h.wf.child h.lv h.mid.int hr x b,PV,PR];have i1:=h.wf.bW h.lv h.mid.int hlo hv hlt.1;have i2:=h.wf.bW h.lv h.mid.int hhi hv hlt.2;unfold ite;rw[ai,xae rfl,i1,i2];cases b<;>rfl
 have e1:e.lo=d.lo:=h.wf.same h.lv h.mid.int (h.mid.lo hr) hlo λx=>lq false x;have e2:e.hi=d.hi:=h.wf.same h.lv h.mid.int (h.mid.hi hr) hhi λx=>lq true x;have hed:∀a b:Nd,a.v=b.v->a.lo=b.lo->a.hi=b.hi->a=b:=λa b h1 h2 h3=>by
  cases a;cases b;cases h1;cases h2;cases h3;rfl
 exact hed e d PR e1 e2
end
end aC
set_option maxRecDepth 100000
namespace Go.Proofs
open Go Go.Sx Tryz
section
open aC
def fK(bw kp:Nat)(vl vm:zV):Nat×Obj:=(bw,.cells #[ptr kp,vl,vm] 289 zZ)
abbrev Q3:=Nat×Nat×Nat
def l3(q:Q3):zL:=[q.1,q.2.1,q.2.2]
def kq(q:Q3):zV:=.agg (aA .u32 (iw (l3 q)))
theorem Ud{a b:zL}(h:iw a=iw b):a=b:=by
 induction a generalizing b with
 |nil=>cases b with
  |nil=>rfl
  |cons y b=>simp[iw]at h
 |cons x a ih=>cases b with
  |nil=>simp[iw]at h
  |cons y b=>
   simp only[iw,xaM,xaz]at h;rw[Int.ofNat.inj h.1,ih h.2]
theorem Xy{a b:Q3}(h:l3 a=l3 b):a=b:=by
 obtain⟨a1,a2,a3⟩:=a;obtain⟨b1,b2,b3⟩:=b;simp[l3]at h;rw[h.1,h.2.1,h.2.2]
theorem uL(a b:Q3):Dc zQ 237 (kq a) (kq b) (decide (a=b)):=by
 have:=Dc.array (P:=zQ) (t:=237) (e:=80) (q:=.u32) (n:=3) zK zK zK (iw (l3 a)) (iw (l3 b)) rfl rfl;have e:decide (iw (l3 a)=iw (l3 b))=decide (a=b):=xdm.2 ⟨λh=>Xy (Ud h),λh=>by rw[h]⟩;rw[e]at this;exact this
theorem o6(a:Q3):mj zQ 237 (kq a):=mj.array (P:=zQ) (t:=237) (e:=80) (q:=.u32) (n:=3) zK zK zK _ rfl
theorem zo(a:Q3):Instr.sameBits 10000 (kq a) (kq a)=true:=oe 9998 λx hx=>.inl (by simp[aA]at hx;obtain⟨n,_,rfl⟩:=hx;exact⟨_,_,rfl⟩)
section
variable {kp bw:Nat} {vl vm:zV} {K:Kd} {S:Nat->aC.Fn} {ord ag tr:zL} {C:Hp}
theorem LO{H:Hp}{r:List zV}{K:zV->Hp->Prop}(hl:r.length=3)(h:∀b,K (.slice (some ⟨b,0,none⟩) 1 1) ((b,.cells r.toArray 201 zZ)::H)):aj zQ 293 1 [(0,.agg r.toArray)] H K:=
 aj.one (r:=r) (e:=201) (k:=3) (z:=.agg #[iv 0,.int .u32 0,.int .u32 0]) zK zK zK zD hl h
theorem yD{X Y:Hp}(h:cQ kp K ord ag tr C)(q:Q3)(hq:∀r∈l3 q,r<4294967296):
  Fc zQ 204 #[ptr bw,kq q] (fK bw kp vl vm::(X++(Y++C))) (λv H=>∃CN,H=CN++(fK bw kp vl vm::(X++(Y++C)))/\aM 201 3 v ((l3 q).map (got K.N)) CN):=by
 have hlen:(l3 q).length=3:=rfl;refine aK λg=>Gs λb1 _=>?_;refine ax.q ?_;refine⟨λvs H=>∃(i:Nat) (u:zV) (CN:Hp),vs=[u,iv (i:Int)]/\i<=3/\H=CN++((b1,.cells (aA .u32 (iw (l3 q))) 237 zZ)::(fK bw kp vl vm::(X++(Y++C))))/\aM 201 3 u (((l3 q).take i).map (got K.N)) CN,λvs _=>3-bA vs 1,
  JE.mk ⟨0,_,[],rfl,by omega,rfl,aM.nil _ _⟩,?_⟩
 rintro w8 w9 H ⟨i,u,CN,⟨⟩,hi,rfl,hN⟩ gs;refine ae.cX (b:=3) (Br.dec (λhlt=>?_) (λhlt=>?_))
 ·have lj:i<(l3 q).length:=hlt;obtain⟨r,hr⟩:∃r,(l3 q)[i]? =some r:=⟨_,xab lj⟩;have aet:=hq r (xay hr);refine aZ.aci (t:=237) (e:=80) (q:=.u32) (x:=.tmp 10) (i:=.tmp 11) (l:=iw (l3 q)) (z:=(r:Int)) (kd:=.i64) (n:=3) (j:=i) zK rfl rfl zK zK zK hlt (cr hr) ?_;refine Ld.n ?_;refine aa.eq (args:=#[ptr kp,u32 r]) (kx h aet) (Ext.two λDC _=>(St.whole (r:=got K.N r) (by exact .head _) rfl (bJ _ _).1 (bJ _ _).2 ?_));refine ax.whole (r:=got K.N r) (by exact .head _) (bJ _ _).1 ?_;refine LO (bJ _ _).1 λbx=>?_;refine hN.mi (r:=got K.N r) (.cons (.cons .left)) (by exact .head _) (bJ _ _).1 (bJ _ _).2 ⟨[iv 0,.int .u32 0,.int .u32 0],rfl,rfl⟩ zP zP λv' C' ho=>?_;refine ae.inc (az.of (.skip .tail) ⟨i+1,v',C',rfl,by omega,rfl,?_⟩ (by simp only[bA];omega));rw[xbv,hr,xaB];exact ho
 obtain rfl:i=3:=by omega
 rw[xdu (by rw[hlen];exact xal _)]at hN;exact aQ.mk (.cL .tail _) ⟨CN,rfl,hN⟩
theorem Jk{n:Nat}{qM:Nat->Nat}{N:dU}{B:Hp}{vn:zV}{lvl:zL}(hw:fK bw kp vl vm∈B)(hl:er .i64 B vl (iw lvl))(nM:lvl.length=n)(hlv:∀v,v<n->lvl.getD v 0=qM v)(q:Q3)(hn:Sl 3 B vn ((l3 q).map (got N)))
 (h:WF n qM N)(hL:nW n qM)(hq:∀r∈l3 q,live N r)(Ew:n<=64):
  Rd zQ 205 #[ptr bw,vn] B (λr=>((∀s∈l3 q,N s=none)/\r=iv (-1))\/∃v,vL n qM N (l3 q) v/\r=iv (v:Int)):=by
 have hlen:(l3 q).length=3:=rfl;refine aK λg=>Gq (hn.bE ?_);rw[xax,hlen];refine⟨λvs H=>∃(i:Nat) (w:Int),vs=[iv w,iv (i:Int)]/\i<=3/\H=B/\(((∀s∈(l3 q).take i,N s=none)/\w= -1)\/∃v:Nat,vL n qM N ((l3 q).take i) v/\w=(v:Int)),λvs _=>3-bA vs 1,
  JE.mk ⟨0, -1,rfl,by omega,rfl,.inl ⟨by simp,rfl⟩⟩,?_⟩
 rintro w6 w7 H ⟨i,w,⟨⟩,hi,rfl,hw6⟩ gs;refine ae.cX (b:=3) (Br.dec (λhlt=>?_) (λhlt=>?_))
 ·intro J hJ;have lj:i<(l3 q).length:=hlt;obtain⟨r,hr⟩:∃r,(l3 q)[i]? =some r:=⟨_,xab lj⟩;have kA:(l3 q).take (i+1)=(l3 q).take i++[r]:=by rw[xbv,hr];rfl
  have fin:∀(w':Int) (Z:Hp),((∀s∈(l3 q).take (i+1),N s=none)/\w'= -1)\/(∃v:Nat,vL n qM N ((l3 q).take (i+1)) v/\w'=(v:Int))->J [iv w'] (Z++H):=λw' Z h'=>hJ _ _ λgs=>by
   exact ae.inc (az.of .right ⟨i+1,w',rfl,by omega,rfl,h'⟩ (by simp only[bA];omega))
  have hrow:((l3 q).map (got N))[i]? =some (got N r):=by rw[xar,hr];rfl
  refine ah.sl hn hrow λp hp=>?_;refine ax.at hp (bJ _ _).1 zD (λ_ h=>h) ?_;intro lY _;refine St.whole (r:=got N r) (by exact .head _) rfl (bJ _ _).1 (bJ _ _).2 ?_;have hlr:=hq r (xay hr);cases hN:N r with
  |none=>
   have rA:r<2:=by rcases hlr with h2|⟨d,hd⟩;exact h2;rw[hN]at hd;cases hd
   have eg:got N r=[iv (-1),u32 r,u32 r]:=gH rA;rw[eg];refine Ld.f ?_;refine ae.geq (cz.mk false (λh=>by simp at h) (λ_=>rfl) λgs=>Br.no ?_);refine JE.mk (fin w [_] ?_);rcases hw6 with⟨h1,h2⟩|⟨v,h1,h2⟩
   ·refine .inl ⟨λs hs=>?_,h2⟩;rw[kA,xaq,xaG]at hs;rcases hs with hs|rfl
    ·exact h1 s hs
    exact hN
   refine .inr ⟨v,⟨h1.lt,?_,λs hs=>?_⟩,h2⟩
   ·obtain⟨s,hs,x⟩:=h1.ex;exact⟨s,by rw[kA];exact xad _ hs,x⟩
   rw[kA,xaq,xaG]at hs;rcases hs with hs|rfl
   ·exact h1.le s hs
   rw[bj hN];exact xcq (hL.lt v h1.lt)
  |some d=>
   have h2:=h.two hN;have tc:=h.var hN;have eg:got N r=bH d:=fh hN h2;rw[eg];refine Ld.f ?_;refine ae.geq ?_;rw[xau zO];have AQ:(∀s∈(l3 q).take i,qM d.v<=dep n qM N s)->∃v:Nat,vL n qM N ((l3 q).take (i+1)) v/\(d.v:Int)=(v:Int):=λhle=>by
    refine⟨d.v,⟨tc,⟨r,by rw[kA];simp,d,hN,rfl⟩,λs hs=>?_⟩,rfl⟩;rw[kA,xaq,xaG]at hs;rcases hs with hs|rfl
    ·exact hle s hs
    rw[ay hN];exact xal _
   rcases hw6 with⟨h1,rfl⟩|⟨v,h1,rfl⟩
   ·refine cz.and true (λ_=>?_) rfl λgs=>Br.yes ?_
    ·exact ae.lss (cz.mk true (λh=>by simp at h) (λ_=>rfl) λgs=>⟨rfl,rfl⟩)
    refine Ld.f ?_;refine JE.mk (fin (d.v:Int) [_] (.inr (AQ λs hs=>?_)));rw[bj (h1 s hs)];exact xcq (hL.lt _ tc)
   have g1:(iw lvl)[d.v]? =some ((qM d.v:Nat):Int):=by rw[<-hlv d.v tc];exact bX zO
   have g2:(iw lvl)[v]? =some ((qM v:Nat):Int):=by rw[<-hlv v h1.lt];exact bX (by have:=h1.lt;omega)
   refine cz.and (decide (qM d.v<qM v)) (λ_=>?_) rfl λgs=>?_
   ·refine ae.lss ?_;rw[xap zO];refine cz.or (decide (qM d.v<qM v)) (λ_=>?_) rfl λgs=>⟨rfl,by simp⟩;refine Ld.v (.tail _ hw) ?_;refine Ld.f ?_;refine hl.ld g1 (λ_ h=>.tail _ h) (Ld.v (.tail _ hw) ?_);exact hl.ld g2 (λ_ h=>.tail _ h) (ae.cX ⟨rfl,rfl⟩)
   rw[xct];refine Br.dec (λs7=>?_) (λs7=>?_)
   ·refine Ld.f ?_;refine JE.mk (fin (d.v:Int) [_] (.inr (AQ λs hs=>?_)));have:=h1.le s hs;omega
   refine JE.mk (fin (v:Int) [_] (.inr ⟨v,⟨h1.lt,?_,λs hs=>?_⟩,rfl⟩))
   ·obtain⟨s,hs,x⟩:=h1.ex;exact⟨s,by rw[kA];exact xad _ hs,x⟩
   rw[kA,xaq,xaG]at hs;rcases hs with hs|rfl
   ·exact h1.le s hs
   rw[ay hN];omega
 obtain rfl:i=3:=by omega
 rw[xdu (by rw[hlen];exact xal _)]at hw6;refine bD.mk (.refl _) ?_;rcases hw6 with⟨h1,rfl⟩|⟨v,h1,rfl⟩
 ·exact .inl ⟨h1,rfl⟩
 exact .inr ⟨v,h1,rfl⟩
theorem KJ(h:cT kp K S ord ag tr C){v lo hi:Nat}(hv:v<K.n)(hlo:live K.N lo)(hhi:live K.N hi)(hlt:lv ag v<dep K.n (lv ag) K.N lo/\lv ag v<dep K.n (lv ag) K.N hi):
  Rd zQ 251 #[ptr kp,iv (v:Int),u32 lo,u32 hi] C (· =if lo=hi then .tuple #[u32 lo,.bool true]else .tuple #[u32 ((K.T ⟨v,lo,hi⟩).getD 0),.bool (K.T ⟨v,lo,hi⟩).isSome]):=by
 have aeL:=h.dz hlo;have aeW:=h.dz hhi;have x7:=cg.2 hlo;have mT:=cg.2 hhi;have hfe:ov K ag (v:Int) lo hi=0:=by
  unfold ov;rw[xac zO,xac (by rw[x7,mT];simp),xac];rintro⟨hne,hmin⟩;simp only[xbI,lv]at hmin hlt;omega
 refine aK λg=>F0 λJ hJ=>?_;refine ae.aG (Split.go rfl (aa.eq (I5 h.rep (v:Int) zO zO (λr d hd=>⟨h.ok.mid.var hd,(h.ok.mid.two hd).1⟩)) ?_));rw[hfe];refine ae.ic (aI.mk (JE.mk (hJ _ _ λgs=>?_)));rw[xap zI];refine Br.no (aa.rq (Ip h.rep (lo:=lo) (hi:=hi) hv) ?_);rintro w hw;subst hw;by_cases he:lo=hi
 ·rw[xae he];exact Ext.mk rfl (Ext.mk rfl (bD.mk (.refl _) rfl))
 rw[xac he];exact Ext.mk rfl (Ext.mk rfl (bD.mk (.refl _) rfl))
theorem El(h:cT kp K S ord ag tr C){v lo hi r:Nat}(hv:v<K.n)(hlo:live K.N lo)(hhi:live K.N hi)(hlt:lv ag v<dep K.n (lv ag) K.N lo/\lv ag v<dep K.n (lv ag) K.N hi)(hr:live K.N r)(h2:2<=r)(hS:S r=ite S ⟨v,lo,hi⟩):
  Rd zQ 251 #[ptr kp,iv (v:Int),u32 lo,u32 hi] C (· =.tuple #[u32 r,.bool true]):=by
 refine(KJ h hv hlo hhi hlt).mono ?_;rintro w H ⟨e,rfl⟩;refine⟨e,?_⟩;by_cases he:lo=hi
 ·subst he;rw[xae rfl,h.ok.wf.same h.ok.lv h.ok.mid.int hr hlo λx=>by rw[hS];unfold aC.ite;split<;>rfl]
 rw[xac he];obtain⟨d,hd⟩:∃d,K.N r=some d:=by
  rcases hr with h3|h3
  ·omega
  exact h3
 have hdd:d=⟨v,lo,hi⟩:=h.ok.TS (d:=⟨v,lo,hi⟩) hlo hhi he hv hlt hd hS;subst hdd;rw[(h.ok.mid.jy _ r).2 ⟨hd,λe=>e⟩];rfl
theorem E8(r v:Nat)(B:Hp):Rd zQ 206 #[ptr bw,iv (v:Int),u32 r,u32 r] B (· =.tuple #[u32 r,iv 0]):=by
 exact aK λg=>wc (ae.lT (Br.T (bD.mk (.refl _) rfl)))
theorem RX{CM X:Hp}{made:zL}(h:cT kp K S ord ag tr C){v lo hi:Nat}(hv:v<K.n)(hlo:live K.N lo)(hhi:live K.N hi)(hne:lo≠hi)(hlt:lv ag v<dep K.n (lv ag) K.N lo/\lv ag v<dep K.n (lv ag) K.N hi)
 (hM:aR 80 .u32 vm (iw made) CM)(hlen:made.length<=1099511627776):
  Fc zQ 206 #[ptr bw,iv (v:Int),u32 lo,u32 hi] (fK bw kp vl vm::(X++(CM++C))) (λw H=>
   (∃r K' S' C' W4 YS,w=.tuple #[u32 r,iv 0]/\H=fK bw kp vl W4::(X++(YS++C'))/\cT kp K' S' ord ag [] C'/\sL K S K' S' (ite S ⟨v,lo,hi⟩) r/\aR 80 .u32 W4 (iw (made++[r])) YS)\/
   (w=.tuple #[u32 0,iv 9]/\H=fK bw kp vl vm::(X++(CM++C))/\K.cap<=K.used/\K.T ⟨v,lo,hi⟩=none)\/
   (∃r,w=.tuple #[u32 r,iv 0]/\H=fK bw kp vl vm::(X++(CM++C))/\live K.N r/\2<=r/\K.hold r=65535/\S r=ite S ⟨v,lo,hi⟩)):=by
 refine aK λg=>wc (ae.bB (Br.Rk hne (Ld.n ?_)));refine aa.fq (IJ h hv hlo hhi (.inr hlt)) ?_;rintro w C' (⟨r,K',S',rfl,jT,mk⟩|⟨r,rfl,rfl,hlr,SF,hfull,ND⟩|⟨rfl,rfl,hcap,_,hT⟩)
 ·refine Ext.two λJ hJ=>(ae.lT (Br.T (Ld.n ?_)));refine aj.int (e:=80) zK zK zK λbx=>?_;refine hM.mi (x:=(r:Int)) (.cons (.cons (.app .left))) (by exact .head _) (by rw[an];omega) (by rw[an];omega) λW4 YS Yh=>?_;have h1:=Yh.one;refine Nil.ptr (af.mk (St.one (by exact .tail (.head _)) h1 zI rfl ?_));refine aQ.mk .tail (.inl ⟨r,K',S',C',W4,YS,rfl,rfl,jT,mk,?_⟩);rw[cj];exact Yh
 ·refine Ext.two λJ hJ=>(ae.lT (Br.F (ae.lT (Br.T (Ld.n ?_)))));exact aa.eq (El h hv hlo hhi hlt hlr SF ND) (Ext.mk rfl (Ext.mk rfl (Br.yes (aQ.here (.inr (.inr ⟨r,rfl,rfl,hlr,SF,hfull,ND⟩))))))
 exact Ext.two λJ hJ=>(ae.lT (Br.F (ae.lT (Br.F (JE.mk (hJ _ λgs=>aQ.here (.inr (.inl ⟨rfl,rfl,hcap,hT⟩))))))))
end
end
section
open aC
structure qy(K0:Kd)(S0:Nat->aC.Fn)(U:aC.Fn->Prop)(ord:zL)(K:Kd)(S:Nat->aC.Fn)(made:zL):Prop where
 n:K.n=K0.n
 cap:K.cap=K0.cap
 N:∀s d,K0.N s=some d->K.N s=some d
 fn:∀s,live K0.N s->S s=S0 s
 hold:∀s,K.hold s=K0.hold s+made.count s
 two:∀s∈made,2<=s
 U:∀g,bc K0.n ord (K.held S) g->U g
theorem qy.refl{K0:Kd}{S0:Nat->aC.Fn}{U:aC.Fn->Prop}{ord:zL}(h:∀g,bc K0.n ord (K0.held S0) g->U g):qy K0 S0 U ord K0 S0 []:=⟨rfl,rfl,λ_ _ h=>h,λ_ _=>rfl,λs=>by simp,by simp,h⟩
def Fits(U:aC.Fn->Prop)(cap:Nat):Prop:=∃ku,pA U ku/\ku+2<=cap
section
variable {kp:Nat} {K0 K:Kd} {S0 S:Nat->aC.Fn} {U:aC.Fn->Prop} {ord ag tr:zL} {made:zL} {C:Hp}
theorem qy.j6(h:qy K0 S0 U ord K S made)(hK:cT kp K S ord ag tr C){s:Nat}(hs:s∈made):live K.N s:=by
 refine .inr (hK.ok.mid.held s ?_);rw[h.hold];have:=xcH.2 hs;omega
theorem xN{b:Nat}:∀(m:Nat) (l:zL),(∀x∈l,x<m)->(∀x,l.count x<=b)->l.length<=m*b
 |0,l,h1,_=>by
  cases l with
  |nil=>simp
  |cons x l=>exact absurd (h1 x (xbV ..)) (xc8 _)
 |m+1,l,h1,h2=>by
  have ih:=xN m (l.filter λx=> !(x==m)) (λx hx=>by
   obtain⟨hx,hne⟩:=xcS.1 hx;have:=h1 x hx;have:x≠m:=by simpa using hne
   omega) (λx=>xbZ (List.filter_sublist.count_le x) (h2 x))
  have e:=List.length_eq_countP_add_countP (λx=>x==m) (l:=l);have h3:=h2 m;rw[List.count]at h3;rw[List.countP_eq_length_filter (l:=l) (p:=λa=>decide ¬(a==m)=true)]at e;rw[xbz];have e2:(l.filter λa=>decide ¬(a==m)=true)=l.filter λx=> !(x==m):=xdv λx _=>by cases x==m<;>rfl
  rw[e2]at e;omega
theorem qy.pU(h:qy K0 S0 U ord K S made)(hK:cT kp K S ord ag tr C):made.length<=1048576*65535:=
 xN _ _ (λx hx=>by
  have hc:=xcH.2 hx;have:=h.hold x;obtain⟨d,hd⟩:=hK.ok.mid.held x zO;have:=(hK.ok.mid.two hd).2;have:=hK.ok.mid.cap;omega) (λx=>by have:=h.hold x;have:=hK.ok.mid.mx x;omega)
theorem qy.full(h:qy K0 S0 U ord K S made){r:Nat}(hr:K.hold r=65535):r∈made\/K0.hold r=65535:=by
 by_cases hm:r∈made
 ·exact .inl hm
 have:=h.hold r;rw[List.count_eq_zero.2 hm]at this;exact .inr zO
theorem qy.live(h:qy K0 S0 U ord K S made){s:Nat}(hs:live K0.N s):live K.N s:=xK h.N hs
theorem qy.step(h:qy K0 S0 U ord K S made)(hK:cT kp K S ord ag tr C){K':Kd}{S':Nat->aC.Fn}{f:aC.Fn}{r:Nat}(m:sL K S K' S' f r)(h2:2<=r)(hU:∀g,bc K0.n ord (λg=>g=f) g->U g):qy K0 S0 U ord K' S' (made++[r]):=by
 refine⟨m.n.trans h.n,m.cap.trans h.cap,λs d hd=>m.N s d (h.N s d hd),λs hs=>(m.fn s (h.live hs)).trans (h.fn s hs),λs=>?_,λs hs=>?_,λg hg=>?_⟩
 ·rw[m.hold,xbu,xcT,h.hold];by_cases e:s=r
  ·subst e;simp[h2];omega
  have:(r==s)=false:=by simpa using λe'=>e e'.symm
  simp[e,this]
 ·rcases xaq.1 hs with hs|hs
  ·exact h.two s hs
  simp at hs;subst hs;exact h2
 have nN:∀g,K'.held S' g->K.held S g\/g=f:=by
  rintro g ⟨s,hs,rfl⟩;have hs':K'.hold s≠0:=hs;rw[m.hold]at hs';by_cases e:s=r/\2<=r
  ·right;rw[e.1];exact m.is
  rw[xac e]at hs';exact .inl ⟨s,hs',m.fn s (.inr (hK.ok.mid.held s hs'))⟩
 rcases(Pe g).1 (ef nN hg)with h1|h1
 ·exact h.U g h1
 exact hU g h1
end
def Al(oz b1 b5 lY:Nat):zV:=.func (.func 203) #[] #[ptr oz,ptr b1,ptr b5,ptr lY]
structure Av(fv:zV)(LB:Hp)(t:Bool->Bool->Bool->Bool):Prop where
 is:∃f first cap,fv=.func (.func f) first cap/\bR zQ f=true/\∀x y z:Bool,Rd zQ f (first++ #[.bool x,.bool y,.bool z]++cap) LB (· =.bool (t x y z))
def acv(K0:Kd)(S0 S:Nat->aC.Fn)(t:Bool->Bool->Bool->Bool)(made:zL)(m:List (Q3×Nat)):Prop:=∀y∈m,S y.2=tD t S0 (l3 y.1)/\(y.2<2\/y.2∈made\/K0.hold y.2=65535)
section
variable {kp oz b1 b5 lY bm bw:Nat} {vl fv:zV} {LB CL:Hp} {lvl:zL} {K0:Kd} {S0:Nat->aC.Fn} {U:aC.Fn->Prop} {ord ag:zL} {t:Bool->Bool->Bool->Bool}
abbrev WH(oz b1 b5 lY bm bw kp:Nat)(fv vl vm:zV)(LB CL CM C:Hp)(es:Array MapEntry)(ck:Nat):Hp:=
 (oz,.cells #[.map (some bm)] 291 zZ)::(b1,.cells #[ptr bw] 232 zZ)::(b5,.cells #[fv] 239 zZ)::(lY,.cells #[Al oz b1 b5 lY] 292 zZ)::
 (LB++((bm,.map es ck)::(fK bw kp vl vm::(CL++(CM++C)))))
structure Stp(kp:Nat)(K0:Kd)(S0:Nat->aC.Fn)(U:aC.Fn->Prop)(ord ag W6:zL)(t:Bool->Bool->Bool->Bool)(K:Kd)(S:Nat->aC.Fn)(made:zL)(es:Array MapEntry)(ck:Nat)(vm:zV)(CM C:Hp):Prop where
 ks:∃tr,cT kp K S ord ag tr C/\(tr=[]\/(tr=W6/\made=[]))
 jx:qy K0 S0 U ord K S made
 mde:aR 80 .u32 vm (iw made) CM
 kn:∃m,aT kq SW es ck m/\acv K0 S0 S t made m
structure fJ(K:Kd)(S:Nat->aC.Fn)(made:zL)(K':Kd)(S':Nat->aC.Fn)(made':zL)(c:Nat):Prop where
 N:∀s d,K.N s=some d->K'.N s=some d
 fn:∀s,live K.N s->S' s=S s
 ext:∃ext,made'=made++ext/\ext.length<=c
theorem fJ.refl{K:Kd}{S:Nat->aC.Fn}{made:zL}{c:Nat}:fJ K S made K S made c:=⟨λ_ _ h=>h,λ_ _=>rfl,[],by simp,xaA _⟩
section
variable {K K' K2:Kd} {S S' S2:Nat->aC.Fn} {made made' j7:zL} {c c':Nat}
theorem fJ.JH(h:fJ K S made K' S' made' c)(hc:c<=c'):fJ K S made K' S' made' c':=⟨h.N,h.fn,let ⟨e,h1,h2⟩:=h.ext;⟨e,h1,by omega⟩⟩
theorem fJ.mem{s:Nat}(h:fJ K S made K' S' made' c)(hs:s∈made):s∈made':=by
 obtain⟨e,rfl,_⟩:=h.ext;exact xad _ hs
theorem fJ.count(h:fJ K S made K' S' made' c)(s:Nat):made'.count s<=made.count s+c/\made'.length<=made.length+c:=by
 obtain⟨e,rfl,he⟩:=h.ext;have:=List.count_le_length (a:=s) (l:=e);rw[xbu,xaf];omega
theorem fJ.trans(h:fJ K S made K' S' made' c)(h':fJ K' S' made' K2 S2 j7 c'):fJ K S made K2 S2 j7 (c+c'):=by
 obtain⟨e,rfl,he⟩:=h.ext;obtain⟨e',rfl,he'⟩:=h'.ext;exact⟨λs d hd=>h'.N s d (h.N s d hd),λs hs=>(h'.fn s (xK h.N hs)).trans (h.fn s hs),e++e',by rw[xai],by rw[xaf];omega⟩
end
theorem uG{κ β:Type}[DecidableEq κ]{m:List (κ×β)}{k:κ}{x:β}{y:κ×β}(h:y∈cY m k x):y=(k,x)\/y∈m:=by
 unfold cY at h;split at h
 ·obtain⟨z,hz,rfl⟩:=xam.1 h;split
  ·exact .inl rfl
  exact .inr hz
 rcases xaq.1 h with h|h
 ·exact .inr h
 simp at h;exact .inl h
def Ba(N:dU)(v:Nat)(b:Bool)(q:Q3):Q3:=(ik N v b q.1,ik N v b q.2.1,ik N v b q.2.2)
theorem T8(N:dU)(v:Nat)(b:Bool)(q:Q3):l3 (Ba N v b q)=iK N v b (l3 q):=rfl
theorem BV{N N':dU}(hN:∀s d,N s=some d->N' s=some d)(h2:∀r,r<2->N r=none)(o9:∀r,r<2->N' r=none){r:Nat}(hr:live N r):got N' r=got N r:=by
 rcases hr with hr|⟨d,hd⟩
 ·rw[gH hr,gH hr]
 by_cases h:r<2
 ·rw[h2 r h]at hd;cases hd
 rw[fh hd zO,fh (hN r d hd) zO]
def Ans(kp oz b1 b5 lY bm bw:Nat)(fv vl:zV)(LB CL:Hp)(K0:Kd)(S0:Nat->aC.Fn)(U:aC.Fn->Prop)(ord ag W6:zL)(t:Bool->Bool->Bool->Bool)(ql:zL)(c:Nat)(K:Kd)(S:Nat->aC.Fn)(made:zL)(r:zV)(H:Hp):Prop:=
 ∃K' S' made' es' cC W4 YS C',H=WH oz b1 b5 lY bm bw kp fv vl W4 LB CL YS C' es' cC/\Stp kp K0 S0 U ord ag W6 t K' S' made' es' cC W4 YS C'/\fJ K S made K' S' made' c/\
   ((∃x:Nat,r=.tuple #[u32 x,iv 0]/\S' x=tD t S0 ql/\(x<2\/x∈made'\/K0.hold x=65535))\/(r=.tuple #[u32 0,iv 9]/\¬Fits U K0.cap))
theorem Yp(jS:bR zQ 203=true)(Dx:Av fv LB t)(WE:aR 3 .i64 vl (iw lvl) CL)(nM:lvl.length=K0.n)(hlv:∀v,v<K0.n->lvl.getD v 0=lv ag v)(Ew:K0.n<=64)(SB:WF K0.n (lv ag) K0.N)(Yj:Interp K0.N S0)(Dy:nW K0.n (lv ag))(I0:∀r,live K0.N r->r<4294967296)(hh0:∀s,K0.hold s=65535->live K0.N s){W6:zL}:
  ∀(ql:zL) (c:Nat),Tree K0.n (lv ag) K0.N ql c->∀(q:Q3),l3 q=ql->∀(K:Kd) (S:Nat->aC.Fn) (made:zL) (es:Array MapEntry) (ck:Nat) (vm:zV) (CM C:Hp),Stp kp K0 S0 U ord ag W6 t K S made es ck vm CM C->
  (∀r∈ql,live K0.N r)->(∀g,bc K0.n ord (λg=>g=tD t S0 ql) g->U g)->
  Fc zQ 203 #[kq q,ptr oz,ptr b1,ptr b5,ptr lY] (WH oz b1 b5 lY bm bw kp fv vl vm LB CL CM C es ck) (λr H=>Ans kp oz b1 b5 lY bm bw fv vl LB CL K0 S0 U ord ag W6 t ql c K S made r H):=by
 have hc0:∀r,r<2->K0.N r=none:=λr hr=>SB.const hr;intro ql c hT;induction hT with
 | @leaf ql hnone=>
  intro q hq K S made es ck vm CM C hS je hU g;subst hq;obtain⟨tr,hK,iy⟩:=hS.ks;obtain⟨m,hE,hkn⟩:=hS.kn;have Zi:∀r,r<2->K.N r=none:=λr hr=>hK.ok.wf.const hr;refine we (R:=aQ _) ?_;unfold L203;intro bq _;refine Ld.q ?_;refine ax.q ?_;have Sy:(bm,Obj.map es ck)∈(bq,Obj.cells (aA .u32 (iw (l3 q))) 237 zZ)::WH oz b1 b5 lY bm bw kp fv vl vm LB CL CM C es ck:=.tail _ (.tail _ (.tail _ (.tail _ (.tail _ (xaa _ (.head _))))));cases hg:bO m q with
  |some x=>
   refine aT.KY (ke:=kq) (k:=q) uL o6 hE Sy hg ?_;rintro v rfl;obtain⟨h1,h2⟩:=hkn _ ((fe hE.nd).1 hg);exact Ext.mk rfl (Ext.mk rfl (Br.yes (aQ.mk .tail ⟨K,S,made,es,ck,vm,CM,C,rfl,hS,.refl,.inl ⟨x,rfl,h1,h2⟩⟩)))
  |none=>
   refine aT.xF (ke:=kq) (k:=q) uL o6 hE Sy hg ?_;refine Ext.mk rfl (Ext.mk rfl (Br.no (Ld.q ?_)));refine ax.q ?_;refine aa.fq (args:=#[ptr bw,kq q]) (yD hK.rep q (λr hr=>I0 r (je r hr))) ?_;rintro vn H ⟨CN,rfl,hN⟩;have eN:(l3 q).map (got K.N)=(l3 q).map (got K0.N):=xbr λr hr=>BV hS.jx.N hc0 Zi (je r hr);rw[eN]at hN;refine Ld.q ?_;refine aa.rq (Jk (bw:=bw) (kp:=kp) (vl:=vl) (vm:=vm) (lvl:=lvl) (n:=K0.n) (qM:=lv ag) (N:=K0.N) (.tail _ (.tail _ (.tail _ (.tail _ (.tail _ (xaa _ (.tail _ (xaa _ (.head _))))))))) (WE.ints.mono λ_ h=>.tail _ (.tail _ (.tail _ (.tail _ (.tail _ (xaa _ (.tail _ (xaa _ (.tail _ (xad _ h)))))))))) nM hlv q ((Sl.fZ hN zD).mono λ_ h=>.tail _ (.tail _ (.tail _ (.tail _ (.tail _ (xaa _ (.tail _ (xad _ h)))))))) SB Dy je Ew) ?_;rintro w (⟨_,rfl⟩|⟨v,hv,rfl⟩);rotate_left
   ·obtain⟨s,hs,d,hd,_⟩:=hv.ex;rw[hnone s hs]at hd;cases hd
   refine ae.lss (Br.T ?_);have K9:∀r∈l3 q,r<2:=λr hr=>by
    rcases je r hr with h|⟨d,hd⟩
    ·exact h
    rw[hnone r hr]at hd;cases hd
   obtain⟨f,first,cap,UA,hfc,hL⟩:=Dx.is;refine Ld.q ?_;refine fo.nat (j:=0) zD (Ld.q ?_);refine ae.bB (b:=1) (fo.nat (j:=1) zD (Ld.q ?_));refine ae.bB (b:=1) (fo.nat (j:=2) zD (Ld.q ?_));refine ae.bB (b:=1) (bK.of UA hfc ?_);refine aa.eq (hL _ _ _) ?_;have zJ:=λx=>Lv Yj (q:=l3 q) rfl K9 t x;have hint:=hK.ok.mid.int;have Wq:aF ((bq,Obj.cells (aA .u32 (iw (l3 q))) 237 zZ)::(oz,.cells #[.map (some bm)] 291 zZ)::(b1,.cells #[ptr bw] 232 zZ)::(b5,.cells #[fv] 239 zZ)::(lY,.cells #[Al oz b1 b5 lY] 292 zZ)::(LB++((bm,.map es ck)::(CN++(fK bw kp vl vm::(CL++(CM++C))))))) (WH oz b1 b5 lY bm bw kp fv vl vm LB CL CM C es ck):=
    .skip (.cons (.cons (.cons (.cons (.cL (.cons .right) _)))))
   refine Br.mk (λhb=>?_) (λhb=>?_)
   ·refine aQ.mk Wq ⟨K,S,made,es,ck,vm,CM,C,rfl,hS,.refl,.inl ⟨1,rfl,funext λx=>?_,.inl zO⟩⟩;rw[hint.one,zJ x];exact hb.symm
   refine aQ.mk Wq ⟨K,S,made,es,ck,vm,CM,C,rfl,hS,.refl,.inl ⟨0,rfl,funext λx=>?_,.inl zO⟩⟩;rw[hint.zero,zJ x];exact hb.symm
 | @node ql v a b hv ha hb iha ihb=>
  intro q hq K S made es ck vm CM C hS je hU g;subst hq;obtain⟨tr,hK,iy⟩:=hS.ks;obtain⟨m,hE,hkn⟩:=hS.kn;have Zi:∀r,r<2->K.N r=none:=λr hr=>hK.ok.wf.const hr;refine we (R:=aQ _) ?_;unfold L203;intro bq _;refine Ld.q ?_;refine ax.q ?_;have Sy:(bm,Obj.map es ck)∈(bq,Obj.cells (aA .u32 (iw (l3 q))) 237 zZ)::WH oz b1 b5 lY bm bw kp fv vl vm LB CL CM C es ck:=.tail _ (.tail _ (.tail _ (.tail _ (.tail _ (xaa _ (.head _))))));cases hg:bO m q with
  |some x=>
   refine aT.KY (ke:=kq) (k:=q) uL o6 hE Sy hg ?_;rintro v rfl;obtain⟨h1,h2⟩:=hkn _ ((fe hE.nd).1 hg);exact Ext.mk rfl (Ext.mk rfl (Br.yes (aQ.mk .tail ⟨K,S,made,es,ck,vm,CM,C,rfl,hS,.refl,.inl ⟨x,rfl,h1,h2⟩⟩)))
  |none=>
  refine aT.xF (ke:=kq) (k:=q) uL o6 hE Sy hg ?_;refine Ext.mk rfl (Ext.mk rfl (Br.no (Ld.q ?_)));refine ax.q ?_;refine aa.fq (args:=#[ptr bw,kq q]) (yD hK.rep q (λr hr=>I0 r (je r hr))) ?_;rintro vn H ⟨CN,rfl,hN⟩;have eN:(l3 q).map (got K.N)=(l3 q).map (got K0.N):=xbr λr hr=>BV hS.jx.N hc0 Zi (je r hr);rw[eN]at hN;refine Ld.q ?_;refine aa.rq (Jk (bw:=bw) (kp:=kp) (vl:=vl) (vm:=vm) (lvl:=lvl) (n:=K0.n) (qM:=lv ag) (N:=K0.N) (.tail _ (.tail _ (.tail _ (.tail _ (.tail _ (xaa _ (.tail _ (xaa _ (.head _))))))))) (WE.ints.mono λ_ h=>.tail _ (.tail _ (.tail _ (.tail _ (.tail _ (xaa _ (.tail _ (xaa _ (.tail _ (xad _ h)))))))))) nM hlv q ((Sl.fZ hN zD).mono λ_ h=>.tail _ (.tail _ (.tail _ (.tail _ (.tail _ (xaa _ (.tail _ (xad _ h)))))))) SB Dy je Ew) ?_;rintro w (⟨aD,_⟩|⟨v',n4,rfl⟩)
  ·obtain⟨s,hs,d,hd,_⟩:=hv.ex;rw[aD s hs]at hd;cases hd
  obtain rfl:v'=v:=n4.uniq Dy hv;refine ae.lss (Br.F (DR.of (R:=[(bq,Obj.cells (aA .u32 (iw (l3 q))) 237 zZ)]) (aF.left (A:=[_])) (ax.q ?_)));refine ax.q ?_;intro YA _ WM _ F35;have hone:∀x∈(iw (l3 q)).map λn=>Value.int .u32 n,x.oneCell'=true:=λx hx=>by obtain⟨n,_,rfl⟩:=xam.1 hx;rfl
  refine St.p hone ?_;refine⟨.skip (.skip (aF.left (A:=[_]))),?_⟩;intro F37;refine St.p hone ?_;refine hN.bE ?_;rw[xax];refine⟨λvs H=>∃i:Nat,vs=[iv (i:Int)]/\i<=3/\H=(WM,.cells (aA .u32 (iw (k6 K0.N v' true (l3 q) i))) 237 zZ)::(YA,.cells (aA .u32 (iw (k6 K0.N v' false (l3 q) i))) 237 zZ)::
    (bq,Obj.cells (aA .u32 (iw (l3 q))) 237 zZ)::(oz,.cells #[.map (some bm)] 291 zZ)::(b1,.cells #[ptr bw] 232 zZ)::(b5,.cells #[fv] 239 zZ)::(lY,.cells #[Al oz b1 b5 lY] 292 zZ)::(LB++((bm,.map es ck)::(CN++(fK bw kp vl vm::(CL++(CM++C)))))),
   λvs _=>3-bA vs 0,JE.mk ⟨0,rfl,by omega,by rw[xD,xD];rfl⟩,?_⟩
  rintro w44 H ⟨i,hvs,hi,rfl⟩ gs;simp only[xaz,xbb]at hvs;subst hvs;have hl3:(l3 q).length=3:=rfl;refine ae.cX (b:=3) (Br.dec (λhlt=>?_) (λhlt=>?_))
  ·-- a part of the question
   intro J hJ;obtain⟨r,hr⟩:∃r,(l3 q)[i]? =some r:=⟨_,xab (show i<(l3 q).length from hlt)⟩;have hlr:=je r (xay hr);have hrow:((l3 q).map (got K0.N))[i]? =some (got K0.N r):=by rw[xar,hr];rfl
   refine ah.sl (Sl.fZ hN zD) hrow λp hp=>?_;refine ax.at hp (bJ _ _).1 zD (λ_ h=>.tail _ (.tail _ (.tail _ (.tail _ (.tail _ (.tail _ (.tail _ (xaa _ (.tail _ (xad _ h)))))))))) ?_;intro b52 _;refine St.whole (r:=got K0.N r) (by exact .head _) rfl (bJ _ _).1 (bJ _ _).2 ?_;have stay:ik K0.N v' false r=r->ik K0.N v' true r=r->∀Z:Hp,JE J [] (Z++((WM,.cells (aA .u32 (iw (k6 K0.N v' true (l3 q) i))) 237 zZ)::(YA,.cells (aA .u32 (iw (k6 K0.N v' false (l3 q) i))) 237 zZ)::
    (bq,Obj.cells (aA .u32 (iw (l3 q))) 237 zZ)::(oz,.cells #[.map (some bm)] 291 zZ)::(b1,.cells #[ptr bw] 232 zZ)::(b5,.cells #[fv] 239 zZ)::(lY,.cells #[Al oz b1 b5 lY] 292 zZ)::(LB++((bm,.map es ck)::(CN++(fK bw kp vl vm::(CL++(CM++C)))))))):=λe1 e2 Z=>by
    refine JE.of .right (hJ _ λgs=>?_);exact ae.inc (az.of (.refl _) ⟨i+1,rfl,by omega,by rw[xE hr e1,xE hr e2]⟩ (by simp only[bA];omega))
   cases Yg:K0.N r with
   |none=>
    have rA:r<2:=by rcases hlr with h2|⟨d,hd⟩;exact h2;rw[Yg]at hd;cases hd
    rw[gH rA];refine Ld.f ?_;refine ae.lT (Br.F ?_);have ec:∀b,ik K0.N v' b r=r:=λb=>by unfold ik;rw[Yg]
    exact stay (ec false) (ec true) [_]
   |some d=>
    have h2:=SB.two Yg;rw[fh Yg h2];refine Ld.f ?_;refine ae.bB (Br.dec (λtc=>?_) (λtc=>?_))
    ·refine DR.of (R:=[(b52,Obj.cells (bH d).toArray 201 zZ)]) (aF.left (A:=[_])) (Ld.f ?_);refine Ld.f ?_;have elo:ik K0.N v' false r=d.lo:=by unfold ik;rw[Yg];simp[tc]
     have ehi:ik K0.N v' true r=d.hi:=by unfold ik;rw[Yg];simp[tc]
     refine fo.nat hlt ?_;refine St.ints (l:=iw (k6 K0.N v' false (l3 q) i)) (x:=(d.lo:Int)) (by exact .tail (.tail (.head _))) (by rw[an,Bo zO];omega) ?_;refine⟨aF.left (A:=[_]),?_⟩;refine fo.nat hlt ?_;refine St.ints (l:=iw (k6 K0.N v' true (l3 q) i)) (x:=(d.hi:Int)) (by exact .tail (.head _)) (by rw[an,Bo zO];omega) ?_;rw[gj,gj,<-elo,<-ehi,rh hr,rh hr];refine JE.of .tail (hJ _ λgs=>?_);exact ae.inc (az.of (.refl _) ⟨i+1,rfl,by omega,rfl⟩ (by simp only[bA];omega))
    have ec:∀b,ik K0.N v' b r=r:=λb=>by unfold ik;rw[Yg];simp[tc]
    exact stay (ec false) (ec true) [_]
  obtain rfl:i=3:=by omega
  have em:∀b,k6 K0.N v' b (l3 q) 3=l3 (Ba K0.N v' b q):=λb=>by rw[T8,<-Pk];rfl
  rw[em,em];obtain⟨f1,f2⟩:=tF (S:=S0) SB Dy Yj je hv false;obtain⟨t1,t2⟩:=tF (S:=S0) SB Dy Yj je hv true;have ec:∀b,tD t S0 (iK K0.N v' b (l3 q))=λx=>tD t S0 (l3 q) (ak.aB x v' b):=λb=>U3 SB Dy Yj rfl je hv t b;have sY:Ord K0.n (lv ag) ord:=by rw[<-hS.jx.n];exact hK.od
  have lj:=Dy.lt v' hv.lt;have hov:=sY.of Dy hv.lt;have Qb:=Lu SB Dy Yj sY (q:=l3 q) rfl je (xcq lj) hv.le t;obtain⟨i1,adT⟩:=xk (n:=K0.n) (ord:=ord) (c:=tD t S0 (iK K0.N v' false (l3 q))) Qb (b:=false) (by rw[hov];exact ec false);obtain⟨i2,adS⟩:=xk (n:=K0.n) (ord:=ord) (c:=tD t S0 (iK K0.N v' true (l3 q))) Qb (b:=true) (by rw[hov];exact ec true);refine Ld.q ?_;refine ax.q ?_;refine bK.of rfl jS ?_;refine aa.pre (H':=(WM,.cells (aA .u32 (iw (l3 (Ba K0.N v' true q)))) 237 zZ)::(YA,.cells (aA .u32 (iw (l3 (Ba K0.N v' false q)))) 237 zZ)::(bq,Obj.cells (aA .u32 (iw (l3 q))) 237 zZ)::WH oz b1 b5 lY bm bw kp fv vl vm LB CL CM C es ck) (.cons (.cons (.cons (.cons (.cons (.cons (.cons (.cL (.cons .right) _)))))))) ?_;refine aa.fq (args:=#[kq (Ba K0.N v' false q),ptr oz,ptr b1,ptr b5,ptr lY]) (iha (Ba K0.N v' false q) rfl K S made es ck vm CM C hS f1 (λg hg=>hU g (adT g hg))) ?_;rintro w H ⟨K1,S1,VR,nQ,mh,vm1,CM1,C1,rfl,NF,hA1,Qv⟩;rcases Qv with⟨x1,rfl,zx,AD⟩|⟨rfl,hno⟩;rotate_left
  ·exact Ext.mk rfl (Ext.mk rfl (ae.ic (Br.T (aQ.mk (.skip (.skip .tail)) ⟨K1,S1,VR,nQ,mh,vm1,CM1,C1,rfl,NF,hA1.JH zO,.inr ⟨rfl,hno⟩⟩))))
  refine Ext.mk rfl (Ext.mk rfl (ae.ic (Br.F (Ld.q ?_))));refine ax.q ?_;refine bK.of rfl jS ?_;have Zj:=λs=>hA1.count s;have BQ:∀s,K1.hold s<=K.hold s+a:=λs=>by rw[NF.jx.hold,hS.jx.hold];have:=(Zj s).1;omega
  refine aa.fq (args:=#[kq (Ba K0.N v' true q),ptr oz,ptr b1,ptr b5,ptr lY]) (ihb (Ba K0.N v' true q) rfl K1 S1 VR nQ mh vm1 CM1 C1 NF t1 (λg hg=>hU g (adS g hg))) ?_;rintro w H ⟨K2,S2,j7,lB,mg,vm2,CM2,C2,rfl,sr,uU,Qv⟩;have QE:=hA1.trans uU;rcases Qv with⟨x2,rfl,Su,tw⟩|⟨rfl,hno⟩;rotate_left
  ·exact Ext.mk rfl (Ext.mk rfl (ae.ic (Br.T (aQ.mk (.skip (.skip .tail)) ⟨K2,S2,j7,lB,mg,vm2,CM2,C2,rfl,sr,QE.JH zO,.inr ⟨rfl,hno⟩⟩))))
  refine Ext.mk rfl (Ext.mk rfl (ae.ic (Br.F (Ld.q ?_))));obtain⟨YV,kB,Uk⟩:=NF.ks;obtain⟨mm,gz,sX⟩:=sr.ks;have aa6:=gz.ok.mid.int;have l11:live K1.N x1:=by rcases AD with h|h|h;exact .inl h;exact NF.jx.j6 kB h;exact NF.jx.live (hh0 _ h)
  have e1:S2 x1=tD t S0 (iK K0.N v' false (l3 q)):=(uU.fn x1 l11).trans zx;have l1:live K2.N x1:=by rcases AD with h|h|h;exact .inl h;exact sr.jx.j6 gz (uU.mem h);exact sr.jx.live (hh0 _ h)
  have l2:live K2.N x2:=by rcases tw with h|h|h;exact .inl h;exact sr.jx.j6 gz h;exact sr.jx.live (hh0 _ h)
  have n2:=sr.jx.n;have Qa:ite S2 ⟨v',x1,x2⟩=tD t S0 (l3 q):=by
   funext x
   unfold aC.ite;rw[e1,Su,ec,ec]
   conv=>rhs;rw[<-ak.iN x v']
   simp only;cases x.testBit v'<;>rfl
  obtain⟨m2,uT,Ux⟩:=sr.kn;have hkl:∀y∈m2,live K2.N y.2:=λy hy=>by
   rcases(Ux y hy).2 with h|h|h
   ·exact .inl h
   ·exact sr.jx.j6 gz h
   exact sr.jx.live (hh0 _ h)
  by_cases hx:x1=x2
  ·subst hx;refine aa.eq (E8 x1 v' _) (Ext.two λJ hJ=>(ae.lT (Br.T (Ld.q ?_))));refine ax.q ?_;refine aT.NZ (ke:=kq) (k:=q) (vr:=SW) (x:=x1) uL o6 zo uT rfl λes' cC he=>⟨_,.tail (.tail (.tail (.tail (.tail (.tail (.tail ((cu.head _).aO LB))))))),?_⟩;refine JE.mk (hJ _ λgs=>?_);have hr:S2 x1=tD t S0 (l3 q):=by
    rw[<-Qa]
    funext x
    unfold aC.ite;split<;>rfl
   have xY:x1<2\/x1∈j7\/K0.hold x1=65535:=tw;exact aQ.mk (.skip (.skip .tail)) ⟨K2,S2,j7,es',cC,vm2,CM2,C2,rfl,⟨sr.ks,sr.jx,sr.mde,_,he,λy hy=>(uG hy).elim (λe=>by rw[e];exact⟨hr,xY⟩) (λhy=>Ux y hy)⟩,QE.JH zO,.inl ⟨x1,rfl,hr,xY⟩⟩
  have Wl:fg (tD t S0 (l3 q)) (ord.getD (lv ag v') 0):=by
   rw[hov];refine xaY λhno=>hx ?_;refine gz.ok.wf.same gz.ok.lv aa6 l1 l2 λx=>?_;rw[e1,Su,ec,ec];exact(fc hno x false).trans (fc hno x true).symm
  have b1':=gz.ok.below gz.od (l:=lv ag v'+1) l1 zO (by rw[e1];exact i1);have b2':=gz.ok.below gz.od (l:=lv ag v'+1) l2 zO (by rw[Su];exact i2);have Qz:∀g,bc K0.n ord (λg=>g=ite S2 ⟨v',x1,x2⟩) g->U g:=by rw[Qa];exact hU
  refine aa.fq (args:=#[ptr bw,iv (v':Int),u32 x1,u32 x2]) (RX gz (v:=v') (by rw[n2];exact hv.lt) l1 l2 hx ⟨by omega,by omega⟩ sr.mde (by have:=sr.jx.pU gz;omega)) ?_;rintro w H (⟨r,K3,S3,C3,vm3,CM3,rfl,rfl,wB,mk,Zp⟩|⟨rfl,rfl,X7,hT⟩|⟨r,rfl,rfl,hlr,SF,hfull,ND⟩)
  ·refine Ext.two λJ hJ=>(ae.lT (Br.T (Ld.q ?_)));refine ax.q ?_;refine aT.NZ (ke:=kq) (k:=q) (vr:=SW) (x:=r) uL o6 zo uT rfl λes' cC he=>⟨_,.tail (.tail (.tail (.tail (.tail (.tail (.tail ((cu.head _).aO LB))))))),?_⟩;refine JE.mk (hJ _ λgs=>?_);have hr:S3 r=tD t S0 (l3 q):=mk.is.trans Qa;have rA:2<=r:=xcY λh=>by
    obtain⟨x,hx⟩:=Wl;apply hx;rw[<-hr];have X0:=wB.ok.mid.int;have:r=0\/r=1:=by omega
    rcases this with rfl|rfl
    ·rw[X0.zero,X0.zero]
    rw[X0.one,X0.one]
   have sq:=sr.jx.step gz mk rA Qz;have Zu:fJ K2 S2 j7 K3 S3 (j7++[r]) 1:=⟨mk.N,mk.fn,[r],rfl,xal _⟩;have xY:r<2\/r∈j7++[r]\/K0.hold r=65535:=.inr (.inl zI);refine aQ.mk (.skip (.skip .tail)) ⟨K3,S3,j7++[r],es',cC,vm3,CM3,C3,rfl,⟨⟨[],wB,.inl rfl⟩,sq,Zp,_,he,λy hy=>(uG hy).elim (λe=>by rw[e];exact⟨hr,xY⟩) (λhy=>?_)⟩,(QE.trans Zu).JH zO,.inl ⟨r,rfl,hr,xY⟩⟩;obtain⟨k1,k2⟩:=Ux y hy;exact⟨by rw[Zu.fn y.2 (hkl y hy),k1],k2.imp id (Or.imp Zu.mem id)⟩
  ·refine Ext.two λJ hJ=>(ae.lT (Br.F (JE.mk (hJ _ λgs=>?_))));refine aQ.mk (.skip (.skip .tail)) ⟨K2,S2,j7,lB,mg,vm2,CM2,C2,rfl,sr,QE.JH zO,.inr ⟨rfl,?_⟩⟩;rintro⟨ku,Uw,hfit⟩;have:=gz.ok.roomFor gz.od Uw (by rw[sr.jx.cap];exact hfit) (by rw[n2];exact sr.jx.U) (d:=⟨v',x1,x2⟩) l1 l2 hx (by rw[n2];exact hv.lt) ⟨by show lv ag v'<dep K2.n (lv ag) K2.N x1;omega,by show lv ag v'<dep K2.n (lv ag) K2.N x2;omega⟩ (Qz _ (by rw[Qa];exact xy Qb lj Wl)) hT;omega
  refine Ext.two λJ hJ=>(ae.lT (Br.T (Ld.q ?_)));refine ax.q ?_;refine aT.NZ (ke:=kq) (k:=q) (vr:=SW) (x:=r) uL o6 zo uT rfl λes' cC he=>⟨_,.tail (.tail (.tail (.tail (.tail (.tail (.tail ((cu.head _).aO LB))))))),?_⟩;refine JE.mk (hJ _ λgs=>?_);have hr:S2 r=tD t S0 (l3 q):=ND.trans Qa;have xY:r<2\/r∈j7\/K0.hold r=65535:=.inr (sr.jx.full hfull);exact aQ.mk (.skip (.skip .tail)) ⟨K2,S2,j7,es',cC,vm2,CM2,C2,rfl,⟨sr.ks,sr.jx,sr.mde,_,he,λy hy=>(uG hy).elim (λe=>by rw[e];exact⟨hr,xY⟩) (λhy=>Ux y hy)⟩,QE.JH zO,.inl ⟨r,rfl,hr,xY⟩⟩
end
section
variable {kp bw:Nat} {vl vm:zV} {K:Kd} {S:Nat->aC.Fn} {ord ag tr:zL} {C:Hp}
theorem yF{Y:Hp}{vr:zV}{refs:zL}(hK:cT kp K S ord ag tr C)(hr:er .u32 Y vr (iw refs))(hl:∀r∈refs,live K.N r)(cJ:refs.length<=1048576):
  Fc zQ 155 #[ptr kp,vr] (Y++C) (λw H=>∃bw vl CL lvl,w=.tuple #[ptr bw,iv 0]/\H=fK bw kp vl (.slice none 0 0)::(CL++(Y++C))/\aR 3 .i64 vl (iw lvl) CL/\lvl.length=K.n/\∀v,v<K.n->lvl.getD v 0=lv ag v):=by
 have hn:K.n<=64:=hK.at'.sU;have sY:=hK.od;refine aK λg=>GZ (ae.aG (Br.no (hr.bE ?_)));rw[an];refine⟨λvs H=>∃i:Nat,vs=[iv (i:Int)]/\i<=refs.length/\H=Y++C,λvs _=>refs.length-bA vs 0,JE.mk ⟨0,rfl,xaA _,rfl⟩,?_⟩;rintro w7 H ⟨i,⟨⟩,hi,rfl⟩ gs;refine ae.cX (Br.dec (λhlt=>?_) (λhlt=>?_))
 ·have hlr:=hl _ (xaF hlt);refine hr.ld (n:=((refs[i]:Nat):Int)) (cr (xab hlt)) (λ_ h=>xad _ h) ?_;refine aa.eq (args:=#[ptr kp,u32 refs[i]]) (kx hK.rep (by have:=hK.dz hlr;omega)) ?_;rw[cg.2 hlr];refine Ext.two λb15 _=>(St.whole (r:=got K.N refs[i]) (by exact .head _) rfl (bJ _ _).1 (bJ _ _).2 ?_);exact ae.ic (Br.F (ae.inc (az.of .tail ⟨i+1,rfl,hlt,rfl⟩ (by simp only[bA];omega))))
 refine aa.eq (mO hK.rep) (df.ints zO zO λbl=>?_);refine Build.mk (cs:=[ptr kp,.slice (some ⟨bl,0,none⟩) K.n K.n,.slice none 0 0]) zK λbw _=>?_;refine aa.fq (xP hK.rep) ?_;rintro vo H ⟨N,rfl,ho⟩;refine ho.bE ?_;rw[an,sY.len];have hz:List.replicate K.n (0:Int)=iw (List.replicate K.n 0):=by simp[iw]
 have hm:=aR.made (T:=3) (kd:=.i64) (b:=bl) (iw (List.replicate K.n 0));rw[an,xbD]at hm;rw[hz];generalize hvl:Value.slice (some ⟨bl,0,none⟩) K.n K.n=vl at*;refine⟨λvs H=>∃(i:Nat) (L:zL) (CL:Hp),vs=[iv (i:Int)]/\i<=K.n/\H=fK bw kp vl (.slice none 0 0)::(CL++(Y++(N++C)))/\aR 3 .i64 vl (iw L) CL/\L.length=K.n/\∀j,j<i->L.getD (ord.getD j 0) 0=j,λvs _=>K.n-bA vs 0,
  JE.mk ⟨0,_,_,rfl,xaA _,rfl,hm,by simp,λj hj=>absurd hj (xc8 _)⟩,?_⟩
 rintro w34 H ⟨i,L,CL,⟨⟩,hi,rfl,hL,hLl,hLo⟩ gs;refine ae.cX (Br.dec (λhlt=>?_) (λhlt=>?_))
 ·have nL:=(sY.at' i hlt).1;refine ho.ld (x:=((ord.getD i 0:Nat):Int)) (bX (by rw[sY.len];exact hlt)) (λ_ h=>.tail _ (xaa _ (xaa _ (xad _ h)))) (Ld.n ?_);refine hL.mF (x:=(i:Int)) (.cons .left) (by rw[an];omega) λCL' hL'=>?_;rw[gj]at hL';refine ae.inc (az.mk ⟨i+1,L.set (ord.getD i 0) i,CL',rfl,hlt,rfl,hL',by simp[hLl],λj hj=>?_⟩ (by simp only[bA];omega));by_cases e:j=i
  ·subst e;rw[xan,xbO zO];rfl
  have hj':j<i:=by omega
  have hne:ord.getD i 0≠ord.getD j 0:=λh=>by
   have a:=(sY.at' i hlt).2;have b:=(sY.at' j zO).2;rw[h,b]at a;exact e a
  rw[xan,xbM hne,<-xan,hLo j hj']
 obtain rfl:i=K.n:=by omega
 refine aQ.mk (.cons (.cL (.cL .right _) _)) ⟨bw,vl,CL,L,rfl,rfl,hL,hLl,λv hv=>?_⟩;have h1:=hLo (lv ag v) (hK.ok.lv.lt v hv);rwa [sY.of hK.ok.lv hv]at h1
structure Jw(K K':Kd)(made:zL)(x:Nat)(ok:Bool):Prop where
 n:K'.n=K.n
 cap:K'.cap=K.cap
 N:∀s d,K'.N s=some d->K.N s=some d
 hold:∀s,K'.hold s+made.count s=K.hold s+if ok=true/\s=x/\2<=x then 1 else 0
theorem Vu{X CM:Hp}{made:zL}{x:Nat}{ok fu:Bool}(hK:cT kp K S ord ag tr C)(hM:aR 80 .u32 vm (iw made) CM)(hc:∀s,made.count s<=K.hold s)(h2:∀s∈made,2<=s)(I0:∀s∈made,s<4294967296)(hx:ok=true->((x<2\/x∈made)↔fu=false))(cJ:made.length<=1099511627776):
  Fc zQ 202 #[ptr bw,u32 x,iv (if ok then 0 else 9)] (fK bw kp vl vm::(X++(CM++C))) (λw H=>∃K' C' iT,w=.tuple #[u32 (if ok&& !fu then x else 0),iv (if ok then(if fu then 8 else 0)else 9)]/\H=fK bw kp vl (.slice none 0 0)::(X++(CM++C'))/\cT kp K' S ord ag iT C'/\(iT=[]\/(iT=tr/\((ok&& !fu)=true->made≠[])))/\Jw K K' made x (ok&& !fu)):=by
 refine aK λg=>Gt (ae.bB (b:=0) (cz.or (decide (x=1)) (λ_=>ae.bB (b:=1) ⟨rfl,rfl⟩) zI λgs=>?_));rw[<-xbp];refine Ld.n (hM.bE ?_);rw[an];refine⟨λvs H=>∃(i:Nat) (Ki:Kd) (Ci:Hp) (VE:zL) (kept:Bool),vs=[.bool kept,iv (i:Int)]/\i<=made.length/\H=fK bw kp vl vm::(X++(CM++Ci))/\cT kp Ki S ord ag VE Ci/\(VE=[]\/VE=tr)/\Ki.n=K.n/\Ki.cap=K.cap/\(∀s d,Ki.N s=some d->K.N s=some d)/\
   (∀s,Ki.hold s+(made.take i).count s=K.hold s+if kept=true/\s=x/\2<=x then 1 else 0)/\(x<2->kept=true)/\(kept=true->x<2\/(ok=true/\x∈made.take i))/\(ok=true->x∈made.take i->kept=true),λvs _=>made.length-bA vs 1,
  JE.mk ⟨0,K,C,tr,_,rfl,xaA _,rfl,hK,.inr rfl,rfl,rfl,λ_ _ h=>h,λs=>?_,λh=>xau zO,λh=>.inl (by have:=xcz h;omega),λ_ h=>by simp at h⟩,?_⟩
 ·rw[List.take_zero,xdQ,xac (λh=>by have:=xcz h.1;omega)]
 rintro ZR w14 H ⟨i,Ki,Ci,VE,kept,⟨⟩,hi,rfl,Zr,Uj,hn,hcap,hN,hh,qN,s9,pC⟩ gs;refine ae.cX (Br.dec (λhlt=>?_) (λhlt=>?_))
 ·intro J hJ;have kA:made.take (i+1)=made.take i++[made[i]]:=xa4 hlt;have hfm:made[i]∈made:=xaF hlt;have n6:(made.take i).count made[i]+1<=made.count made[i]:=by
   have h1:=(xdU (i+1) made).count_le made[i];rw[kA,xbu,List.count_singleton_self]at h1;exact h1
  refine hM.ld (x:=((made[i]:Nat):Int)) (cr (xab hlt)) (λ_ h=>.tail _ (xaa _ (xad _ h))) ?_;generalize hf:made[i]=f at*;refine ae.bB (cz.and (!kept) (λ_=>Un.not ⟨rfl,rfl⟩) zI λgs=>?_);refine cz.and ok (λ_=>ae.lT ⟨rfl,by cases ok<;>rfl⟩) zI λgs=>?_;refine Br.mk (λhb=>?_) (λhb=>?_)
  ·simp only[xaC,xaP,xbU]at hb;obtain⟨⟨rfl,hkf⟩,hok⟩:=hb;refine JE.mk (hJ _ _ λgs=>?_);refine ae.inc (az.mk ⟨i+1,Ki,Ci,VE,true,rfl,hlt,rfl,Zr,Uj,hn,hcap,hN,λs=>?_,λ_=>rfl,λ_=>.inr ⟨hok,by rw[kA];simp⟩,λ_ _=>rfl⟩ (by simp only[bA];omega));have h0:=hh s;rw[kA,xbu,xcT];rw[xac (λh=>by rw[hkf]at h;cases h.1)]at h0;by_cases e:s=f
   ·subst e;have:=h2 s hfm;simp[this];omega
   have:(f==s)=false:=by simpa using λe'=>e e'.symm
   simp[e,this];omega
  refine Ld.n ?_;have hhf:Ki.hold f≠0:=by
   have h0:=hh f;have:=hc f;split at h0<;>omega
  refine aa.fq (args:=#[ptr kp,u32 f]) (Af Zr (r:=f) (I0 f hfm) (λ_=>hhf)) ?_;rintro w C2 ⟨rfl,K2,gz,f2⟩;refine JE.mk (hJ _ _ λgs=>?_);refine ae.inc (az.mk ⟨i+1,K2,C2,[],kept,rfl,hlt,rfl,gz,.inl rfl,f2.n.trans hn,f2.cap.trans hcap,λs d hd=>hN s d (f2.N s d hd),λs=>?_,qN,λh=>(s9 h).imp id (λh=>⟨h.1,by rw[kA];exact xad _ h.2⟩),λh1 h3=>?_⟩ (by simp only[bA];omega))
  ·have h0:=hh s;rw[f2.hold,kA,xbu,xcT];by_cases e:s=f
   ·subst e;have:=h2 s hfm;simp[this];omega
   have:(f==s)=false:=by simpa using λe'=>e e'.symm
   simp[e,this];omega
  rw[kA,xaq,xaG]at h3;rcases h3 with h3|h3
  ·exact pC h1 h3
  subst h3;cases hkk:kept
  ·rw[hkk,h1]at hb;simp at hb
  rfl
 obtain rfl:i=made.length:=by omega
 rw[xbe]at hh s9 pC;refine Nil.ptr (af.mk (St.one (by exact .head _) rfl zI rfl ?_));intro J hJ;refine ae.ic ?_;cases ok with
 |false=>
  refine Br.T ?_;have hE:Jw K Ki made x false:=⟨hn,hcap,hN,λs=>by
   have h0:=hh s;rw[xac (λh=>by cases h.1)];rw[xac (λh=>by
    rcases s9 h.1 with h3|h3
    ·omega
    cases h3.1)]at h0
   exact h0⟩
  refine aQ.here ⟨Ki,Ci,VE,?_,rfl,Zr,Uj.imp id λh=>⟨h,λh=>by cases h⟩,hE⟩;rfl
 |true=>
  have hx:=hx rfl;cases fu with
  |true=>
   have hkf:kept=false:=by
    cases hkk:kept
    ·rfl
    have:(true=false):=hx.1 ((s9 hkk).imp id λh=>h.2);cases this
   refine Br.F ?_;rw[hkf];refine Un.not (Br.yes (aQ.here ⟨Ki,Ci,VE,rfl,rfl,Zr,Uj.imp id λh=>⟨h,λh=>by cases h⟩,⟨hn,hcap,hN,λs=>?_⟩⟩));have h0:=hh s;rw[hkf]at h0;rw[xac (λh=>by cases h.1)]at h0⊢;exact h0
  |false=>
  have hx:=hx.2 rfl;have BO:kept=true:=by
   rcases hx with h|h
   ·exact qN h
   exact pC rfl h
  refine Br.F ?_;rw[BO];refine Un.not (Br.no ?_);have hE:∀K3:Kd,K3.n=Ki.n->K3.cap=Ki.cap->K3.N=Ki.N->(∀s,K3.hold s=Ki.hold s)->Jw K K3 made x true:=λK3 a1 a2 a3 a4=>⟨a1.trans hn,a2.trans hcap,by rw[a3];exact hN,λs=>by rw[a4,hh s,BO]⟩;refine ae.bB (b:=0) (cz.or (decide (x=1)) (λ_=>ae.bB (b:=1) ⟨rfl,rfl⟩) zI λgs=>?_);rw[<-xbp];refine Br.dec (λK9=>?_) (λK9=>?_)
  ·refine Ld.n ?_;refine aa.fq (zq Zr (r:=x) (.inl zO) (λh=>by omega)) ?_;rintro w C3 ⟨rfl,K3,wB,mo⟩;refine JE.mk (hJ _ λgs=>aQ.here ⟨K3,C3,[],by simp,rfl,wB,.inl rfl,hE K3 mo.n mo.cap mo.N λs=>?_⟩);rw[mo.hold,xac zO]
  refine JE.mk (hJ _ λgs=>aQ.here ⟨Ki,Ci,VE,by simp,rfl,Zr,Uj.imp id λh=>⟨h,λ_ hm=>?_⟩,hE Ki rfl rfl rfl λ_=>rfl⟩);rcases hx with h|h
  ·omega
  rw[hm]at h;cases h
end
theorem aab{α:Type}(a b c d e f g h:α)(L R:List α):(a::b::c::d::e::f::g::h::(L++R)).Perm (g::d::e::b::h::f::a::(L++c::R)):=by
 classical
 rw[xcX];intro x;simp only[xbu,xcU];omega
def rS(kp:Nat)(K:Kd)(S:Nat->aC.Fn)(ord ag tr:zL)(f:aC.Fn)(w:zV)(H:Hp):Prop:=
 (∃x K' S',w=.tuple #[u32 x,iv 0]/\cT kp K' S' ord ag [] H/\Si K S K' S' f x)\/
 (w=.tuple #[u32 0,iv 9]/\(∃K' S' iT,cT kp K' S' ord ag iT H/\(iT=[]\/iT=tr)/\Kept K S K' S')/\¬Fits (bc K.n ord (λg=>K.held S g\/g=f)) K.cap)
def nx(kp:Nat)(K:Kd)(S:Nat->aC.Fn)(ord ag tr:zL)(f:aC.Fn)(w:zV)(H:Hp):Prop:=
 rS kp K S ord ag tr f w H\/(w=.tuple #[u32 0,iv 8]/\(∃K' S' iT,cT kp K' S' ord ag iT H/\(iT=[]\/iT=tr)/\Kept K S K' S')/\∃r,2<=r/\K.hold r=65535/\S r=f)
theorem nx.small{kp:Nat}{K:Kd}{S:Nat->aC.Fn}{ord ag tr:zL}{f:aC.Fn}{w:zV}{H:Hp}(h:nx kp K S ord ag tr f w H)(hB:∀s,K.hold s<65535):rS kp K S ord ag tr f w H:=by
 rcases h with h|⟨_,_,r,_,h,_⟩
 ·exact h
 have:=hB r;omega
section
variable {kp bw:Nat} {vl fv:zV} {K:Kd} {S:Nat->aC.Fn} {ord ag tr lvl:zL} {LB CL C:Hp} {t:Bool->Bool->Bool->Bool}
theorem Jm(hK:cT kp K S ord ag tr C)(Dx:Av fv LB t)(WE:aR 3 .i64 vl (iw lvl) CL)(nM:lvl.length=K.n)(hlv:∀v,v<K.n->lvl.getD v 0=lv ag v)(q:Q3)(hq:∀r∈l3 q,live K.N r){c:Nat}(hT:Tree K.n (lv ag) K.N (l3 q) c):
  Fc zQ 156 #[ptr bw,kq q,fv] (LB++(fK bw kp vl (.slice none 0 0)::(CL++C))) (nx kp K S ord ag tr (tD t S (l3 q))):=by
 have hrb:bR zQ 203=true:=by kernel_rfl
 obtain⟨fl,afU,akF,UA,hfr⟩:=Dx.is;refine aK λg=>GY λb1 _ b3 _ b5 _ b7 _ b9 _ bm _ oz _=>?_;refine St.one (by exact .head _) rfl zI rfl ?_;intro lY _;refine St.one (by exact .head _) rfl zI rfl ?_;refine Ld.q ?_;refine ax.q ?_;refine bK.of rfl hrb (aa.pre (H':=(b9,.cells #[iv 0] 24 zZ)::(b7,.cells #[.int .u32 0] 80 zZ)::WH oz b1 b5 lY bm bw kp fv vl (.slice none 0 0) LB CL [] C #[] 0) ?_ ?_)
 ·rw[UA];exact(aF.perm (aab _ _ _ _ _ _ _ _ _ _)).trans .tail
 have sY:=hK.od;have SB:=hK.ok.wf;have Dy:=hK.ok.lv;have Yj:=hK.ok.mid.int;have hS:Stp kp K S (bc K.n ord (λg=>K.held S g\/g=tD t S (l3 q))) ord ag tr t K S [] #[] 0 (.slice none 0 0) [] C:=
  ⟨⟨tr,hK,.inr ⟨rfl,rfl⟩⟩,.refl λg hg=>ef (λg h=>.inl h) hg,aR.nil,[],aT.empty,λy hy=>by cases hy⟩
 refine aa.fq (args:=#[kq q,ptr oz,ptr b1,ptr b5,ptr lY]) (Yp hrb Dx WE nM hlv hK.at'.sU SB Yj Dy (λr hr=>by have:=hK.dz hr;omega) (λs hs=>.inr (hK.ok.mid.held s zO)) (W6:=tr) (l3 q) c hT q rfl K S [] #[] 0 (.slice none 0 0) [] C hS hq (λg hg=>ef (λg h=>.inr h) hg)) ?_;rintro w H ⟨K1,S1,made,es,ck,vm,CM,C1,rfl,NF,hA,Qv⟩;obtain⟨YV,kB,Uk⟩:=NF.ks;have sq:=NF.jx;have hmx:=sq.pU kB;have aeG:∀s∈made,s<4294967296:=λs hs=>by have:=kB.dz (sq.j6 kB hs);omega
 have hmc:∀s,made.count s<=K1.hold s:=λs=>by rw[sq.hold];omega
 have fin:∀(x:Nat) (ok fu:Bool),w=.tuple #[u32 (if ok then x else 0),iv (if ok then 0 else 9)]->(ok=true->((x<2\/x∈made)↔fu=false))->(∀K2 C2 mm,cT kp K2 S1 ord ag mm C2->(mm=[]\/(mm=YV/\((ok&& !fu)=true->made≠[])))->Jw K1 K2 made (if ok then x else 0) (ok&& !fu)->nx kp K S ord ag tr (tD t S (l3 q)) (.tuple #[u32 (if ok&& !fu then(if ok then x else 0)else 0),iv (if ok then(if fu then 8 else 0)else 9)]) C2)->(ok=false->x=0)->
   Ext 0 w λv23=>Ext 1 w λv24=>St 1 ((b9,.cells #[iv 0] 24 zZ)::(b7,.cells #[.int .u32 0] 80 zZ)::WH oz b1 b5 lY bm bw kp fv vl vm LB CL CM C1 es ck) (ptr b7) v23 λH25=>St 1 H25 (ptr b9) v24 λYN=>
   kJ zQ g 201 #[ptr b1,ptr b7,ptr b9] YN λH27=>Ld H27 (ptr b7) λv28=>Ld H27 (ptr b9) λv29=>aQ (nx kp K S ord ag tr (tD t S (l3 q))) (.returned (.tuple #[v28,v29])) H27:=by
  intro x ok fu hw hx hd h0;subst hw;refine Ext.two (St.one (by exact .tail (.head _)) rfl zI rfl ?_);refine St.one (by exact .head _) rfl zI rfl ?_;refine C9 (R:=_) ?_;unfold L201;refine Ld.q ?_;refine Ld.q ?_;refine Ld.q ?_;refine aa.fq (Vu (X:=CL) (x:=if ok then x else 0) (ok:=ok) (fu:=fu) kB NF.mde hmc sq.two aeG (λh=>by rw[xae h];exact hx h) zO) ?_;rintro w H ⟨K2,C2,mm,rfl,rfl,gz,sX,hE⟩;refine Ext.two (St.one (by exact .tail (.head _)) rfl zI rfl ?_);refine St.one (by exact .head _) rfl zI rfl ?_;refine⟨⟨_,rfl⟩,?_⟩;refine Ld.q ?_;refine Ld.q ?_;exact aQ.mk (.skip (.skip (.skip (.skip (.skip (.skip (aF.right.trans (.skip (.skip (aF.right.trans .right)))))))))) (hd K2 C2 mm gz sX hE)
 have XQ:∀s,K.hold s≠0->live K.N s:=λs hs=>.inr (hK.ok.mid.held s hs);rcases Qv with⟨x,rfl,hx,hxm⟩|⟨rfl,hno⟩
 ·by_cases hxk:x<2\/x∈made;rotate_left
  ·have Su:2<=x:=by omega
   have hfull:K.hold x=65535:=by
    rcases hxm with h|h|h
    ·exact absurd (.inl h) hxk
    ·exact absurd (.inr h) hxk
    exact h
   refine fin x true true rfl (λ_=>⟨λh=>absurd h hxk,λh=>by cases h⟩) (λK2 C2 mm gz sX hE=>.inr ⟨rfl,⟨K2,S1,mm,gz,?_,?_⟩,x,Su,hfull,?_⟩) (λh=>by cases h)
   ·rcases sX with h|⟨h,_⟩
    ·exact .inl h
    rcases Uk with h2|⟨h2,_⟩
    ·exact .inl (h.trans h2)
    exact .inr (h.trans h2)
   ·have mS:∀s,K2.hold s=K.hold s:=λs=>by
     have a:=hE.hold s;have b:=sq.hold s;rw[xac (λh=>by cases h.1)]at a;omega
    refine⟨hE.n.trans sq.n,hE.cap.trans sq.cap,mS,λg=>?_,λr hr=>sq.fn r (XQ r hr)⟩;constructor
    ·rintro⟨s,hs,rfl⟩;have hs':K.hold s≠0:=by rw[<-mS];exact hs
     exact⟨s,hs',sq.fn s (XQ s hs')⟩
    rintro⟨s,hs,rfl⟩;exact⟨s,by show K2.hold s≠0;rw[mS];exact hs,(sq.fn s (XQ s hs)).symm⟩
   rw[<-hx];exact(sq.fn x (XQ x zO)).symm
  refine fin x true false rfl (λ_=>⟨λ_=>rfl,λ_=>hxk⟩) (λK2 C2 mm gz sX hE=>.inl (.inl ⟨x,K2,S1,rfl,?_,?_⟩)) (λh=>by cases h)
  ·have:mm=[]:=by
    rcases sX with h|⟨h,h'⟩
    ·exact h
    rcases Uk with h2|⟨_,h2⟩
    ·rw[h,h2]
    exact absurd h2 (h' rfl)
   rw[this]at gz;exact gz
  have mS:∀s,K2.hold s=K.hold s+if s=x/\2<=x then 1 else 0:=λs=>by
   have a:=hE.hold s;have b:=sq.hold s;simp only[xcI,xdY,xa7,xdt]at a;omega
  have hl:live K2.N x:=by
   by_cases h2:x<2
   ·exact .inl h2
   refine .inr (gz.ok.mid.held x ?_);rw[mS,xae ⟨rfl,by omega⟩];omega
  exact⟨hE.n.trans sq.n,hE.cap.trans sq.cap,λs d hs=>En hK.ok gz.ok (λs h=>by rw[mS];omega) (λs d d' h h'=>by
   have a:=hE.N s d' h';rw[sq.N s d h]at a;exact(xbF a).symm) _ s d hs (xal _),λs hs=>sq.fn s hs,hl,hx,mS⟩
 refine fin 0 false false rfl (λh=>by cases h) (λK2 C2 mm gz sX hE=>.inl (.inr ⟨rfl,⟨K2,S1,mm,gz,?_,?_⟩,hno⟩)) (λ_=>rfl)
 ·rcases sX with h|⟨h,_⟩
  ·exact .inl h
  rcases Uk with h2|⟨h2,_⟩
  ·exact .inl (h.trans h2)
  exact .inr (h.trans h2)
 have mS:∀s,K2.hold s=K.hold s:=λs=>by
  have a:=hE.hold s;have b:=sq.hold s;rw[xac (λh=>by cases h.1)]at a;omega
 refine⟨hE.n.trans sq.n,hE.cap.trans sq.cap,mS,λg=>?_,λr hr=>sq.fn r (XQ r hr)⟩;constructor
 ·rintro⟨s,hs,rfl⟩;have hs':K.hold s≠0:=by rw[<-mS];exact hs
  exact⟨s,hs',sq.fn s (XQ s hs')⟩
 rintro⟨s,hs,rfl⟩;exact⟨s,by show K2.hold s≠0;rw[mS];exact hs,(sq.fn s (XQ s hs)).symm⟩
end
end
end Go.Proofs
namespace Go.Sx
open Go
section
variable {P:Program} {g:Gh}
theorem Build.three{t e:TypeId}{q:IntKind}{x y z:Int}{K:zV->Prop}(ht:P.underlying t=some (.array 3 e))(hz:cA P e=some 1)(h0:dV P t=some (.agg (aA q [0,0,0])))(h:K (.agg (aA q [x,y,z]))):
  Build P t [(0,.int q x),(1,.int q y),(2,.int q z)] K:=by
 refine⟨_,λw=>?_,h⟩;obtain⟨i,hi,hs⟩:=aU hz;obtain⟨i0,K7,Ss⟩:=cB h0;simp only[Instr.build,Sem.run_bind,dB K7 Ss,Result.andThen_ok,run_underlying ht,run_sizeOf hi,hs];simp[Instr.fill,Value.cells,aA]
theorem Build.ZV{t e:TypeId}{q:IntKind}{x y:Int}{K:zV->Prop}(ht:P.underlying t=some (.array 3 e))(hz:cA P e=some 1)(h0:dV P t=some (.agg (aA q [0,0,0])))(h:K (.agg (aA q [x,y,0]))):
  Build P t [(0,.int q x),(1,.int q y)] K:=by
 refine⟨_,λw=>?_,h⟩;obtain⟨i,hi,hs⟩:=aU hz;obtain⟨i0,K7,Ss⟩:=cB h0;simp only[Instr.build,Sem.run_bind,dB K7 Ss,Result.andThen_ok,run_underlying ht,run_sizeOf hi,hs];simp[Instr.fill,Value.cells,aA]
end
end Go.Sx
set_option maxRecDepth 100000
namespace Go.Proofs
open Go Go.Sx Tryz
open aC
theorem Jo(x:Bool)(B:Hp):Rd zQ 158 #[.bool x] B (· =.int .u8 ((x.toNat:Nat):Int)):=by
 refine aK λg=>GW ?_;cases x
 ·exact Br.no (bD.mk (.refl _) rfl)
 exact Br.yes (bD.mk (.refl _) rfl)
def Np(op:Nat)(a b:Bool):Bool:=op.testBit (2*a.toNat+b.toNat)
abbrev Kq(b op:Nat):Hp:=[(b,.cells #[.int .u8 (op:Int)] 5 zZ)]
theorem EZ{b op:Nat}(hop:op<16):Av (.func (.func 157) #[] #[ptr b]) (Kq b op) (λx y _=>Np op x y):=by
 refine⟨_,_,_,rfl,by kernel_rfl,λx y z=>?_⟩;refine aK λg=>GX (DR.of (R:=Kq b op) (.refl _) (Ld.q ?_));refine aa.eq (Jo x _) (⟨.refl _,?_⟩);have hx:x.toNat<=1:=by cases x<;>decide
 have hy:y.toNat<=1:=by cases y<;>decide
 refine ae.wL (a:=2) (aa.eq (Jo y _) (⟨.refl _,?_⟩));refine ae.gL (ae.e9 (by simp[aS];omega) (ae.fm (b:=1) (by simp[aS];exact xaE (xbC _ _) zO) (by simp[aS]) (ae.bB (b:=1) (bD.mk (.refl _) ?_))));congr 1;unfold Np;rw[xc7];rw[xd2,xaN]
theorem Eo:Av (.func (.func 159) #[] #[]) [] (λx y z=>if x then y else z):=by
 refine⟨_,_,_,rfl,by kernel_rfl,λx y z=>?_⟩;refine aK λg=>GV ?_;cases x
 ·refine cz.mk false (λh=>by simp at h) (λ_=>rfl) λgs=>?_;refine cz.mk (by exact z) (λ_=>Un.not (cz.and z (λ_=>⟨rfl,rfl⟩) zI λgs=>⟨rfl,by simp⟩)) (λh=>by simp at h) λgs=>?_;exact bD.mk (.refl _) rfl
 refine cz.and y (λ_=>⟨rfl,rfl⟩) zI λgs=>?_;refine cz.or false (λ_=>Un.not (cz.and z (λ_=>⟨rfl,rfl⟩) zI λgs=>⟨rfl,by simp⟩)) zI λgs=>?_;refine bD.mk (.refl _) ?_;cases y<;>rfl
section
variable {kp:Nat} {K:Kd} {S:Nat->aC.Fn} {ord ag tr:zL} {C:Hp}
theorem aac{α:Type}(w a b:α)(L R:List α):(w::(L++(a::b::R))).Perm (a::([b]++w::(L++R))):=by
 classical
 rw[xcX];intro x;simp only[xbu,xcU,xdQ];omega
theorem CK(hK:cT kp K S ord ag tr C){q:zL}(hq:∀r∈q,live K.N r):∃c,Tree K.n (lv ag) K.N q c:=by
 obtain⟨c,h1,_⟩:=Ta (S:=S) hK.ok.wf hK.ok.lv hK.ok.mid.int K.n 0 q zO zO hq (λr _=>xaA _);exact⟨c,h1⟩
theorem nx.two{f:aC.Fn}{w:zV}{H:Hp}(h:nx kp K S ord ag tr f w H):∃x e,w=.tuple #[x,e]:=by
 rcases h with(⟨x,K',S',rfl,_⟩|⟨rfl,_⟩)|⟨rfl,_⟩
 ·exact⟨_,_,rfl⟩
 ·exact⟨_,_,rfl⟩
 exact⟨_,_,rfl⟩
theorem o7(hB:∀s,K.hold s+2^K.n<=65535):∀s,K.hold s<65535:=λs=>by
 have:=hB s;have:=xb2 (n:=K.n);omega
theorem qx(hK:cT kp K S ord ag tr C){op a b:Nat}(hop:op<16)(ha:live K.N a)(hb:live K.N b):
  Fc zQ 123 #[ptr kp,.int .u8 (op:Int),u32 a,u32 b] C (nx kp K S ord ag tr (λx=>Np op (S a x) (S b x))):=by
 refine aK λg=>Hv λb1 _=>?_;refine ae.aG (Br.no (Ld.q ?_));refine ae.gW (b:=15) (Br.F (aj.VY (e:=80) (x:=(a:Int)) (y:=(b:Int)) zK zK zK λbs=>?_));have hq:∀r∈l3 (a,b,0),live K.N r:=λr hr=>by
  simp only[l3,xag,xaw,xaZ]at hr;rcases hr with rfl|rfl|rfl
  ·exact ha
  ·exact hb
  exact .inl zO
 have hI:er .u32 ((bs,Obj.cells (aA .u32 [(a:Int),(b:Int)]) 80 zZ)::Kq b1 op) (.slice (some ⟨bs,0,none⟩) 2 2) (iw [a,b]):=(aR.made (T:=80) (kd:=.u32) (b:=bs) (iw [a,b])).ints.mono λ_ h=>xad (Kq b1 op) h;refine aa.fq (args:=#[ptr kp,.slice (some ⟨bs,0,none⟩) 2 2]) (C:=((bs,Obj.cells (aA .u32 [(a:Int),(b:Int)]) 80 zZ)::Kq b1 op)++C) (yF hK hI (λr hr=>?_) (by show 2<=1048576;omega)) ?_
 ·simp only[xag,xaw,xaZ]at hr;rcases hr with rfl|rfl
  ·exact ha
  exact hb
 rintro w H ⟨bw,vl,CL,lvl,rfl,rfl,WE,nM,hlv⟩;refine Ext.mk rfl (Ext.mk rfl (ae.ic (Br.F (Build.ZV (e:=80) (q:=.u32) (x:=(a:Int)) (y:=(b:Int)) zK zK zK ?_))));obtain⟨c,hT⟩:=CK hK hq;refine aa.pre (H':=(bs,Obj.cells (aA .u32 [(a:Int),(b:Int)]) 80 zZ)::(Kq b1 op++fK bw kp vl (.slice none 0 0)::(CL++C))) (.perm (aac _ _ _ _ _)) (aa.fq (args:=#[ptr bw,kq (a,b,0),.func (.func 157) #[] #[ptr b1]]) (Jm (t:=λx y _=>Np op x y) hK (EZ hop) WE nM hlv (a,b,0) hq hT) ?_);intro w H hD;obtain⟨x,e,rfl⟩:=hD.two;exact Ext.mk rfl (Ext.mk rfl (aQ.mk .tail hD))
theorem jt(hK:cT kp K S ord ag tr C){op a b:Nat}(hop:op<16)(ha:live K.N a)(hb:live K.N b)(hB:∀s,K.hold s+2^K.n<=65535):
  Fc zQ 123 #[ptr kp,.int .u8 (op:Int),u32 a,u32 b] C (rS kp K S ord ag tr (λx=>Np op (S a x) (S b x))):=
 (qx hK hop ha hb).mono λ_ _ h=>h.small (o7 hB)
theorem rS.two{f:aC.Fn}{w:zV}{H:Hp}(h:rS kp K S ord ag tr f w H):∃x e,w=.tuple #[x,e]:=by
 rcases h with⟨x,K',S',rfl,_⟩|⟨rfl,_⟩
 ·exact⟨_,_,rfl⟩
 exact⟨_,_,rfl⟩
theorem LV(hK:cT kp K S ord ag tr C){a:Nat}(ha:live K.N a):
  Fc zQ 97 #[ptr kp,u32 a] C (nx kp K S ord ag tr (λx=> !S a x)):=by
 refine aK λg=>L0 (aa.fq (args:=#[ptr kp,.int .u8 ((3:Nat):Int),u32 a,u32 0]) (qx hK (op:=3) zD ha (.inl zO)) ?_);intro w H hD;have e:(λx=>Np 3 (S a x) (S 0 x))=λx=> !S a x:=by
  funext x
  rw[hK.ok.mid.int.zero];cases S a x<;>rfl
 rw[e]at hD;obtain⟨x,e,rfl⟩:=hD.two;exact Ext.mk rfl (Ext.mk rfl (aQ.mk (.refl _) hD))
theorem Vq(hK:cT kp K S ord ag tr C){a:Nat}(ha:live K.N a)(hB:∀s,K.hold s+2^K.n<=65535):
  Fc zQ 97 #[ptr kp,u32 a] C (rS kp K S ord ag tr (λx=> !S a x)):=
 (LV hK ha).mono λ_ _ h=>h.small (o7 hB)
theorem aaa{α:Type}(w a:α)(L R:List α):(w::(L++(a::R))).Perm (a::([]++w::(L++R))):=by
 classical
 rw[xcX];intro x;simp only[xbu,xcU,xdQ];omega
theorem LX(hK:cT kp K S ord ag tr C){a b c:Nat}(ha:live K.N a)(hb:live K.N b)(hc:live K.N c):
  Fc zQ 124 #[ptr kp,u32 a,u32 b,u32 c] C (nx kp K S ord ag tr (λx=>if S a x then S b x else S c x)):=by
 refine aK λg=>Hu (aj.aat (e:=80) (x:=(a:Int)) (y:=(b:Int)) (z:=(c:Int)) zK zK zK λbs=>?_);have hq:∀r∈l3 (a,b,c),live K.N r:=λr hr=>by
  simp only[l3,xag,xaw,xaZ]at hr;rcases hr with rfl|rfl|rfl
  ·exact ha
  ·exact hb
  exact hc
 refine aa.fq (args:=#[ptr kp,.slice (some ⟨bs,0,none⟩) 3 3]) (C:=[(bs,Obj.cells (aA .u32 [(a:Int),(b:Int),(c:Int)]) 80 zZ)]++C) (yF hK (refs:=l3 (a,b,c)) ((aR.made (T:=80) (kd:=.u32) (b:=bs) (iw (l3 (a,b,c)))).ints) hq (by show 3<=1048576;omega)) ?_;rintro w H ⟨bw,vl,CL,lvl,rfl,rfl,WE,nM,hlv⟩;refine Ext.mk rfl (Ext.mk rfl (ae.ic (Br.F (Build.three (e:=80) (q:=.u32) (x:=(a:Int)) (y:=(b:Int)) (z:=(c:Int)) zK zK zK ?_))));obtain⟨k,hT⟩:=CK hK hq;refine aa.pre (H':=(bs,Obj.cells (aA .u32 [(a:Int),(b:Int),(c:Int)]) 80 zZ)::([]++fK bw kp vl (.slice none 0 0)::(CL++C))) (.perm (aaa _ _ _ _)) (aa.fq (args:=#[ptr bw,kq (a,b,c),.func (.func 159) #[] #[]]) (Jm (t:=λx y z=>if x then y else z) hK Eo WE nM hlv (a,b,c) hq hT) ?_);intro w H hD;obtain⟨x,e,rfl⟩:=hD.two;exact Ext.mk rfl (Ext.mk rfl (aQ.mk .tail hD))
theorem Vs(hK:cT kp K S ord ag tr C){a b c:Nat}(ha:live K.N a)(hb:live K.N b)(hc:live K.N c)(hB:∀s,K.hold s+2^K.n<=65535):
  Fc zQ 124 #[ptr kp,u32 a,u32 b,u32 c] C (rS kp K S ord ag tr (λx=>if S a x then S b x else S c x)):=
 (LX hK ha hb hc).mono λ_ _ h=>h.small (o7 hB)
theorem sL.grow(hK:cT kp K S ord ag tr C){K':Kd}{S':Nat->aC.Fn}{f:aC.Fn}{r:Nat}{C':Hp}{iT:zL}(h:sL K S K' S' f r)(jT:cT kp K' S' ord ag iT C')(hl:r<2\/2<=r):Si K S K' S' f r:=
 ⟨h.n,h.cap,h.N,h.fn,by
  by_cases h2:r<2
  ·exact .inl h2
  refine .inr (jT.ok.mid.held r ?_);rw[h.hold,xae ⟨rfl,by omega⟩];omega,h.is,λs=>by rw[h.hold];split<;>omega⟩
theorem LS(hK:cT kp K S ord ag tr C){v:Nat}(hv:v<K.n):
  Fc zQ 122 #[ptr kp,iv (v:Int)] C (nx kp K S ord ag tr (λx=>x.testBit v)):=by
 refine aK λg=>Hw (ae.aG (Br.no ?_));have hint:=hK.ok.mid.int;have hL:=hK.ok.lv;have sY:=hK.od;have h0:live K.N 0:=.inl zO;have h1:live K.N 1:=.inl zO;have d0:dep K.n (lv ag) K.N 0=K.n:=bj (hK.ok.wf.const zO);have d1:dep K.n (lv ag) K.N 1=K.n:=bj (hK.ok.wf.const zO);have hl:=hL.lt v hv;have eI:ite S ⟨v,0,1⟩=λx=>x.testBit v:=by
  funext x
  unfold aC.ite;simp only[hint.zero,hint.one];cases x.testBit v<;>rfl
 refine aa.fq (args:=#[ptr kp,iv (v:Int),u32 0,u32 1]) (IJ hK hv h0 h1 (.inr ⟨by rw[d0];exact hl,by rw[d1];exact hl⟩)) ?_;rintro w C' (⟨r,K',S',rfl,jT,mk⟩|⟨r,rfl,rfl,_,SF,hfull,ND⟩|⟨rfl,rfl,hcap,hne,hT⟩)
 ·rw[eI]at mk;exact Ext.mk rfl (Ext.mk rfl (aQ.mk (.refl _) (.inl (.inl ⟨r,K',S',rfl,jT,mk.grow hK jT zO⟩))))
 ·exact Ext.mk rfl (Ext.mk rfl (aQ.mk (.refl _) (.inr ⟨rfl,⟨K,S,tr,hK,.inr rfl,.refl K S⟩,r,SF,hfull,by rw[ND,eI]⟩)))
 refine Ext.mk rfl (Ext.mk rfl (aQ.mk (.refl _) (.inl (.inr ⟨rfl,⟨K,S,tr,hK,.inr rfl,.refl K S⟩,?_⟩))));rintro⟨ku,Uw,hfit⟩;have hov:=sY.of hL hv;have Qb:∀j,j<lv ag v->¬fg (λx:Nat=>x.testBit v) (ord.getD j 0):=by
  rintro j hj ⟨x,hx⟩;apply hx;have Sz:j<K.n:=by omega
  obtain⟨o1,o2⟩:=sY.at' j Sz;show Nat.testBit _ v=Nat.testBit _ v;rw[ak.ai,ak.ai,xac (λh=>by rw[h]at hj;omega),xac (λh=>by rw[h]at hj;omega)]
 have hh:fg (λx:Nat=>x.testBit v) (ord.getD (lv ag v) 0):=by
  rw[hov];exact⟨0,by show Nat.testBit _ v≠Nat.testBit _ v;rw[ak.ai,ak.ai,xae rfl,xae rfl];decide⟩
 have:=hK.ok.roomFor sY Uw hfit (λg hg=>ef (λg h=>.inl h) hg) (d:=⟨v,0,1⟩) h0 h1 (show(0:Nat)≠1 by omega) hv ⟨by rw[d0];exact hl,by rw[d1];exact hl⟩ (ef (λg h=>.inr h) (by rw[eI];exact xy Qb hl hh)) hT;omega
theorem Vl(hK:cT kp K S ord ag tr C){v:Nat}(hv:v<K.n)(hB:∀s,K.hold s<65535):
  Fc zQ 122 #[ptr kp,iv (v:Int)] C (rS kp K S ord ag tr (λx=>x.testBit v)):=
 (LS hK hv).mono λ_ _ h=>h.small hB
end
end Go.Proofs
namespace aC
open ak
section
variable {t:Bool->Bool->Bool} {v u:Nat} {f:Fn}
theorem qX{x v:Nat}{b c:Bool}:aB (aB x v b) v c=aB x v c:=by
 apply xaX;intro k;rw[ai,ai,ai];split<;>rfl
end
section
variable {N:dU} {S:Nat->Fn} {n:Nat} {ag:Nat->Nat}
theorem Ja{r:Nat}{d:Nd}(e:N r=some d):ik N d.v false r=d.lo/\ik N d.v true r=d.hi:=by
 unfold ik;rw[e];simp
end
end aC
set_option maxRecDepth 100000
namespace Go.Proofs
open Go Go.Sx Tryz
section
open aC
section
variable {kp:Nat} {K:Kd} {ord ag tr:zL} {C:Hp} {S:Nat->aC.Fn}
theorem xW(h:cQ kp K ord ag tr C)(v:Int):Rd zQ 136 #[ptr kp,iv v] C (· =if 0<=v/\v<K.n then .tuple #[iv ((ag.getD v.toNat 0:Nat):Int),iv 0]else .tuple #[iv 0,iv 2]):=by
 have h0:=h;obtain⟨b,rfl,hO⟩:=h;refine aK λg=>wu (ae.aG (Br.no (aa.eq (tt h0 v) (Un.not ?_))));by_cases Dq:0<=v/\v<K.n
 ·rw[xau Dq,xae Dq];refine Br.no (Nil.ptr (Ld.f ?_));have hlen:=hO.ol.2;obtain⟨n,rfl⟩:∃n:Nat,v=n:=⟨v.toNat,by omega⟩;exact hO.lv.ld (x:=((ag.getD n 0:Nat):Int)) (bX zO) (br.sub (.cons (.app (.app (.app (.app (.app .left))))))) (bD.mk (.refl _) rfl)
 rw[xap Dq,xac Dq];exact Br.yes (bD.mk (.refl _) rfl)
end
end
section
open aC
section
variable {kp:Nat} {K:Kd} {S:Nat->aC.Fn} {ord ag tr:zL} {C:Hp}
theorem zl{n v:Nat}(hv:v<n):2^v<2^n:=xcx zD hv
end
theorem Fits.mono{A B:aC.Fn->Prop}{cap:Nat}(h:∀g,A g->B g)(hB:Fits B cap):Fits A cap:=by
 classical
 obtain⟨ku,⟨l,h1,h2,h3⟩,hc⟩:=hB;refine⟨(l.filter λg=>decide (A g)).length,⟨l.filter λg=>decide (A g),h1.filter _,rfl,λg=>?_⟩,?_⟩
 ·rw[xcS,xaP,<-h3];exact⟨λx=>⟨h g x,x⟩,λx=>x.2⟩
 have:=xbT (λg=>decide (A g)) l;omega
end
section
theorem AK{n:Nat}(hn:n<=16)(B:Hp):Rd zQ 89 #[iv (n:Int)] B (· =iv ((ak.wN n:Nat):Int)):=by
 refine aK λg=>Mf ?_;have h1:1<<<n<=65536:=by rw[xbi];exact xat (n:=2) zD hn
 refine ae.DS (a:=1) (b:=n) (by simp[IntKind.bits];omega) (by simp[aS];omega) (ae.e9 (b:=6) (by simp[aS];omega) (⟨_,_,_,rfl,rfl,?_⟩));refine bD.mk (.refl _) ?_;have:1<<<n>>>6=2^n/64:=by rw[xbi,xaN]
 rw[this];congr 1;unfold ak.wN;rw[Nat.max_def];split<;>split<;>omega
theorem I1{n:Nat}(hn:n<=16)(B:Hp):Rd zQ 90 #[iv (n:Int)] B (· =.int .u64 ((ak.dr n:Nat):Int)):=by
 refine aK λg=>Me (ae.kM (a:=n) (b:=6) (Br.dec (λh=>?_) (λh=>?_)))
 ·exact bD.mk (.refl _) (by unfold ak.dr;rw[xae h];rfl)
 have h1:2^n<=32:=xat (n:=2) zD (by omega:n<=5);have h2:2^2^n<=2^32:=xat zD h1;have h3:=xbK (2^n);refine ae.sP (a:=1) (b:=n) ?_;rw[xbi,xa5 zO];refine ae.sP (a:=1) ?_;rw[xbi,xa5 zO];exact ae.cc (b:=1) (bD.mk (.refl _) (by unfold ak.dr;rw[xac h]))
theorem KF{n:Nat}{ws:zL}(hn:n<=16)(hl:ws.length=ak.wN n)(hw:∀w∈ws,w<18446744073709551616){w:Nat}(hg:ws[ws.length-1]? =some w):
  (nh w (ak.dr n)=0)↔ak.dA n ws:=by
 have key:∀w,w<18446744073709551616->(nh w (ak.dr n)=0↔w<=ak.dr n):=by
  intro w hw;constructor
  ·intro h;have:w&&&ak.dr n=w:=by
    apply xaX;intro j;have:=xca (λx=>x.testBit j) h;simp only[dP,xcZ]at this;rw[xa8];cases h1:w.testBit j<;>cases h2:(ak.dr n).testBit j<;>simp_all
   rw[<-this];exact xb3
  intro h;have:=ak.vE h;unfold nh;rw[this,Nat.xor_self]
 constructor
 ·intro h;refine⟨hn,hl,λu hu=>?_⟩;by_cases h6:6<=n
  ·unfold ak.dr;rw[xae h6];have:=hw u hu;omega
  have h1:ws.length=1:=by rw[hl,ak.HW zO]
  obtain⟨x,rfl⟩:=List.length_eq_one_iff.1 h1;simp at hg hu;subst hg;subst hu;exact(key _ (hw _ zI)).1 h
 intro h;exact(key w (hw w (xay hg))).2 (h.full w (xay hg))
theorem B7{B:Hp}{v:zV}{t:Tb}(ht:DD B v t):Rd zQ 41 #[v] B (· =.bool (decide (TF t))):=by
 obtain⟨tn,ws⟩:=t;obtain⟨s,rfl,hs,hw⟩:=ht;simp only at hs hw⊢;refine aK λg=>MM λb1 _ J hJ=>?_;have hno:¬TF ⟨tn,ws⟩->JE J [.bool true] ((b1,.cells (Value.cells (.agg #[iv tn,s])) 30 zZ)::B):=λh=>
  JE.mk (hJ _ _ λgs=>Br.yes (bD.mk .tail (by rw[xap h])))
 refine DR.self ?_;refine af.mk (Ld.mk zM rfl ?_);refine ae.lss (Br.dec (λh0=>hno λh=>by have:=h.1;simp only at this;omega) (λh0=>?_));obtain⟨n,rfl⟩:∃n:Nat,tn=n:=⟨tn.toNat,by omega⟩;have hTF:TF ⟨(n:Int),ws⟩↔ak.dA n ws:=by unfold TF;simp
 refine af.mk (Ld.mk zM rfl ?_);refine ae.gW (b:=16) (aI.mk (Br.dec (λh1=>hno λh=>by have:=(hTF.1 h).si;omega) (λh1=>?_)));refine af.mk (Ld.mk zM rfl ?_);refine hs.bE ?_;refine af.mk (Ld.mk zM rfl ?_);intro F;refine aa.eq (AK zO B) (⟨(by repeat (first|exact aF.refl _|apply aF.cons|apply aF.skip|apply aF.cL|apply aF.bN)),?_⟩);rw[an];refine ae.jD (aI.mk ?_);simp only[xaj];by_cases hl:ws.length=ak.wN n
 case neg=>rw[show decide (ws.length≠ak.wN n)=true by simp[hl]];exact hno λh=>hl (hTF.1 h).len
 rw[show decide (ws.length≠ak.wN n)=false by simp[hl]];refine JE.mk (hJ _ _ λgs=>Br.no ?_);have hpos:=ak.W0 n;obtain⟨w,hg⟩:∃w,ws[ws.length-1]? =some w:=⟨_,xab zO⟩;refine DR.self ?_;refine af.mk (Ld.mk zM rfl ?_);refine af.mk (Ld.mk zM rfl ?_);refine hs.bE ?_;rw[an];refine ae.gD (b:=1) (by have:=ak.tI (n:=n) zO;simp[aS];omega) zO (hs.ld (cr hg) zS ?_);refine af.mk (Ld.mk zM rfl ?_);refine aa.eq (I1 zO B) (⟨(by repeat (first|exact aF.refl _|apply aF.cons|apply aF.skip|apply aF.cL|apply aF.bN)),?_⟩);refine ae.Jn (by have:=hw w (xay hg);simpa[aS]using this) (by have:=ak.qf n;simpa[aS]using this) (ae.bB (b:=0) (bD.mk .tail ?_));congr 1;exact xdm.2 ((KF zO hl hw hg).trans hTF.symm)
theorem u3{B:Hp}{v:zV}{ts:List Tb}(ht:iq B v ts)(cJ:ts.length<2^62):Rd zQ 21 #[v] B (· =.bool (decide (∀t∈ts,TF t/\some t.n=ts.head?.map Tb.n))):=by
 refine aK λg=>M5 (ht.bE ?_);refine⟨λvs H=>bG B H/\∃k:Nat,vs=[iv (k:Int)]/\k<=ts.length/\∀i t,i<k->ts[i]? =some t->TF t/\some t.n=ts.head?.map Tb.n,λvs _=>ts.length-bA vs 0,JE.mk ⟨.refl _,0,rfl,by omega,by omega⟩,?_⟩;rintro w H ⟨hg,k,⟨⟩,hk,aD⟩ gs;refine ae.cX (Br.dec (λhlt=>?_) (λhlt=>?_))
 ·obtain⟨t,kA⟩:∃t,ts[k]? =some t:=⟨_,xab hlt⟩;obtain⟨t0,Uo⟩:∃t,ts[0]? =some t:=⟨_,xab zO⟩;have hh:ts.head?.map Tb.n=some t0.n:=by rw[List.head?_eq_getElem?,Uo];rfl
  have htB:=ht.mono hg.sub;refine htB.ld kA (λ_ h=>h) λs hs=>?_;intro b1 _;refine St.p ?_ ?_
  ·obtain⟨a,c,rfl,_⟩:=hs.1.shape;simp[Value.oneCell']
  intro J hJ;have hno:∀H',bG B H'->¬(TF t/\some t.n=ts.head?.map Tb.n)->JE J [.bool true] H':=λH' X1 h=>
   JE.mk (hJ _ _ λgs=>Br.yes (bD.mk X1.dL (by rw[xap];exact λhh=>h (hh t (xay kA)))))
  have Wo:bG B ((b1,Obj.cells (List.toArray [iv t.n,s]) 30 zZ)::H):=.cons hg;refine DR.self (ax.q ?_);intro F;refine aa.eq (B:=H) (B7 ⟨s,rfl,hs⟩) (⟨.refl _,Un.not ?_⟩);by_cases hT:TF t
  case neg=>rw[xap hT];exact Br.yes (hno _ Wo λh=>hT h.1)
  rw[xau hT];apply Br.no;refine af.mk (Ld.mk zM rfl ?_);refine htB.ldN Uo zS ?_;refine ae.ic (aI.mk ?_);simp only[xaj];by_cases hn:t.n=t0.n
  case neg=>rw[xau hn];exact hno _ Wo λh=>hn (by have:=h.2;rw[hh]at this;simpa using this)
  rw[xap (by simpa using hn)];refine JE.mk (hJ _ _ λgs=>Br.no ?_);refine ae.inc (az.mk ⟨Wo,k+1,rfl,by omega,λi u hi hu=>?_⟩ (by simp[bA];omega));by_cases e:i=k
  ·subst e;rw[kA]at hu;cases hu;exact⟨hT,by rw[hh,hn]⟩
  exact aD i u zO hu
 refine bD.mk hg.dL ?_;rw[xau];intro t htm;obtain⟨i,hi,rfl⟩:=xbB.1 htm;exact aD i _ zO (xab hi)
theorem jh{B:Hp}{b:Nat}{t:Tb}{s:zV}{T:TypeId}{fz:Nat×Nat}(hm:(b,Obj.cells #[iv t.n,s] T fz)∈B)(hw:Words B s t.ws):
  Rd zQ 21 #[.slice (some ⟨b,0,none⟩) 1 1] B (· =.bool (decide (TF t))):=
 (u3 (iq.one (cap:=0) hm hw) zI).mono λv H ⟨h1,h2⟩=>⟨h1,by rw[h2];congr 1;simp⟩
theorem aag{B:Hp}{v:zV}{t:Tb}(ht:DD B v t)(u:Int):Rd zQ 326 #[v,iv u] B (· =iv (if TF t then(if 0<=u/\u<t.n then 0 else 2)else 5)):=by
 obtain⟨s,rfl,hw⟩:=ht;refine aK λg=>Fe λb1 _=>?_;refine ax.q ?_;refine kF λb2=>?_;refine aa.rd .here (jh (by exact List.Mem.head _) (hw.mono zS)) ?_;rintro v rfl;apply Un.not;by_cases hT:TF t
 ·rw[xau hT,xae hT];refine Br.no (ae.lss (cz.or (decide (t.n<=u)) (λh=>?_) rfl ?_))
  ·refine af.mk (Ld.mk zM rfl ?_);exact ae.geq ⟨rfl,rfl⟩
  intro gs;have hor:(decide (u<0)||decide (t.n<=u))=decide (¬(0<=u/\u<t.n)):=by
   by_cases h1:u<0<;>by_cases h2:t.n<=u<;>simp[h1,h2]<;>omega
  rw[hor];refine Br.dec (λh=>?_) (λh=>?_)
  ·exact bD.mk (by repeat (first|exact aF.refl _|apply aF.cons|apply aF.skip|apply aF.cL|apply aF.bN)) (by rw[xac h])
  exact bD.mk (by repeat (first|exact aF.refl _|apply aF.cons|apply aF.skip|apply aF.cL|apply aF.bN)) (by rw[xae (xeq.1 h)])
 rw[xap hT,xac hT];exact Br.yes (bD.mk (by repeat (first|exact aF.refl _|apply aF.cons|apply aF.skip|apply aF.cL|apply aF.bN)) rfl)
theorem yw{u i:Nat}(hu:u<64)(hi:i<18446744073709551616)(IV:i<9223372036854775808)(B:Hp):Rd zQ 85 #[iv (u:Int),iv (i:Int)] B
  (· =.int .u64 ((if 6<=u then(if(i>>>(u-6)).testBit 0 then 18446744073709551615 else 0)else ak.mask u:Nat):Int)):=by
 refine aK λg=>Mj (ae.kM (a:=u) (b:=6) (Br.dec (λh=>?_) (λh=>?_)))
 ·refine aH.nat (by simpa[aS]using hi) (ae.gD (b:=6) (by simp[aS];omega) h (ae.e9 (by simpa[aS]using hi) ?_));have hs:i>>>(u-6)<18446744073709551616:=xaE (xbC _ _) hi;refine ae.fm (b:=1) (by simpa[aS]using hs) zD (Un.ad4 (by rw[ak.eH];split<;>decide) ?_);refine bD.mk (.refl _) ?_;rw[xae h,ak.eH];split<;>rfl
 refine⟨λvs H=>H=B/\∃j:Nat,vs=[.int .u64 ((ak.Aj u j:Nat):Int),iv (j:Int)]/\j<=64,λvs _=>64-bA vs 1,JE.mk ⟨rfl,0,rfl,by omega⟩,?_⟩;rintro w1 w2 H ⟨rfl,j,⟨⟩,hj⟩ gs;refine ae.cX (b:=64) (Br.dec (λhlt=>?_) (λhlt=>?_))
 ·refine ae.e9 (by simp[aS];omega) ?_;have hs:j>>>u<64:=xaE (xbC _ _) hlt;refine ae.fm (b:=1) (by simp[aS];omega) zD ?_;have h1:j>>>u&&&1<=1:=by rw[ak.eH];split<;>decide
  refine aH.q (ae.sP ?_);have h2:((j>>>u&&&1)<<<j)<18446744073709551616:=by
   rw[xdk]
   calc _<=1*2^j:=xba _ h1
    _<2^64:=by rw[xdD];exact xcx zD hlt
  rw[xa5 h2];have h3:ak.Aj u j<18446744073709551616:=xa2 (ak.Ai u j) (xat (n:=2) zD hj);exact ae.No (by simpa[aS]using h3) (by simpa[aS]using h2) (ae.inc (az.mk ⟨rfl,j+1,rfl,by omega⟩ (by simp[bA];omega)))
 have:j=64:=by omega
 subst this;exact bD.mk (.refl _) (by rw[xac h];rfl)
theorem nH{n:Nat}(hn:n<=16){fv:zV}{f:FuncId}{first cap:Array zV}(UA:fv=.func (.func f) first cap)(jS:bR zQ f=true){F:Nat->Nat}(hF:∀i,i<ak.wN n->F i<18446744073709551616){B:Hp}
 (hc:∀i:Nat,i<ak.wN n->Rd zQ f (first++ #[iv (i:Int)]++cap) B (· =.int .u64 ((F i:Nat):Int))):
  Px zQ 82 #[iv (n:Int),fv] B (λv H=>DD H v ⟨n,(List.range (ak.wN n)).map λi=>F i&&&ak.dr n⟩):=by
 intro g;have Dp:=ak.tI hn;refine Mn (R:=aQ _) ?_;unfold L82;intro b1 _;refine aa.eq (AK hn B) (df.ints (jQ hn).1 (jQ hn).2 λbw=>?_);refine Build.mk (cs:=[iv (n:Int),.slice (some ⟨bw,0,none⟩) (ak.wN n) (ak.wN n)]) zK λb8 _=>?_;refine St.q ?_;refine af.mk (Ld.mk zM rfl ?_);refine aE.mk ?_;rw[range_zero (G:=λi=>F i&&&ak.dr n)];refine⟨λvs H=>∃i:Nat,vs=[iv (i:Int)]/\i<=ak.wN n/\H=(b8,.cells (List.toArray [iv (n:Int),.slice (some ⟨bw,0,none⟩) (ak.wN n) (ak.wN n)]) 30 zZ)::
   (bw,.cells (aA .u64 (iw ((List.range (ak.wN n)).map λk=>if k<i then F k&&&ak.dr n else 0))) 33 zZ)::(b1,.cells #[iv 0,.slice none 0 0] 30 zZ)::B,
  λvs _=>ak.wN n-bA vs 0,JE.mk ⟨0,rfl,by omega,rfl⟩,?_⟩
 rintro w H ⟨i,⟨⟩,hi,rfl⟩ gs;refine ae.cX (Br.dec (λhlt=>?_) (λhlt=>?_))
 ·refine DR.self ?_;refine af.mk (Ld.mk zM rfl ?_);refine bK.of UA jS ?_;refine aa.eq (hc i hlt) (⟨.refl _,?_⟩);refine aa.eq (I1 hn B) (⟨.refl _,?_⟩);refine ae.fm (by simpa[aS]using hF i hlt) (by simpa[aS]using ak.qf n) (ah.nat hlt ?_);refine St.ints (l:=iw _) (by exact .tail (.head _)) (by simpa using hlt) ?_;refine ae.inc ?_;rw[Kk hlt];exact az.mk ⟨i+1,rfl,by omega,rfl⟩ (by simp[bA];omega)
 have:i=ak.wN n:=by omega
 subst this;rw[DX];refine ax.q ?_;refine St.q ?_;refine ax.q ?_;refine As.mk (by repeat (first|exact bG.refl _|apply bG.cons|apply bG.app)) ⟨_,rfl,?_⟩;have:=Words.block (b:=bw) (cap:=ak.wN n) (ws:=(List.range (ak.wN n)).map λi=>F i&&&ak.dr n) (T:=33) (fz:=(0,0)) (B:=(b8,.cells (List.toArray [iv (n:Int),.slice (some ⟨bw,0,none⟩) (ak.wN n) (ak.wN n)]) 30 zZ)::
  (bw,.cells (aA .u64 (iw ((List.range (ak.wN n)).map λi=>F i&&&ak.dr n))) 33 zZ)::(b1,.cells (List.toArray [iv (n:Int),.slice (some ⟨bw,0,none⟩) (ak.wN n) (ak.wN n)]) 30 zZ)::B) (by exact .tail _ (.head _)) zI (λw hw=>by
   obtain⟨k,_,rfl⟩:=xam.1 hw;exact xaE xb3 (ak.qf n))
 simpa using this
theorem Qx{B:Hp}{pv pb pa s:zV}{u n i:Nat}{c:Bool}{ws:zL}(hv:Go.Sx.At B pv [iv (u:Int)])(hb:Go.Sx.At B pb [.bool c])(ha:Go.Sx.At B pa [iv (n:Int),s])(hw:Words B s ws)(hf:ak.dA n ws)(hu:u<n)(hi:i<ak.wN n):
  Rd zQ 318 #[iv (i:Int),pv,pb,pa] B (· =.int .u64 ((ak.qe ws u c i:Nat):Int)):=by
 intro g;have hn:=hf.si;have Dp:=ak.tI hn;refine Fi (R:=aQ _) ?_;unfold L318;refine Ld.at hv (λ_ h=>h) ?_;refine ae.kM (a:=u) (b:=6) (Br.dec (λh6=>?_) (λh6=>?_))
 ·have hp:2^(u-6)<=1024:=xat (n:=2) zD (by omega:u-6<=10);refine Ld.at hv (λ_ h=>h) ?_;refine ae.gD (b:=6) (by simp[aS];omega) h6 (ae.DS (a:=1) (by simp[IntKind.bits];omega) (by rw[xbi];simp[aS];omega) ?_);rw[xbi];refine ae.Jn (by simp[aS];omega) (by simp[aS];omega) ?_;have hand:=nV i (2^(u-6));intro J hJ;have KR:ak.aB i (u-6) c<ak.wN n:=by
   rw[ak.HX zO]at hi⊢;exact ak.fw hi zO
  have gy:JE J [iv ((ak.aB i (u-6) c:Nat):Int)] B:=by
   refine JE.mk (hJ _ _ λgs=>?_);refine af.at ha λq hq=>Ld.at hq (λ_ h=>h) ?_;have hg:ws[ak.aB i (u-6) c]? =some (ws.getD (ak.aB i (u-6) c) 0):=by rw[xab (by rw[hf.len];exact KR),xan,xab (by rw[hf.len];exact KR)];rfl
   refine hw.1.ld (cr hg) (λ_ h=>h) ?_;exact bD.mk (.refl _) (by unfold ak.qe;rw[xae h6])
  refine Ld.at hb (λ_ h=>h) ?_;cases c
  ·exact Br.no gy
  refine Br.yes (Ld.at hv (λ_ h=>h) ?_);refine ae.gD (b:=6) (by simp[aS];omega) h6 (ae.DS (a:=1) (by simp[IntKind.bits];omega) (by rw[xbi];simp[aS];omega) ?_);rw[xbi];refine ae.No (by simp[aS];omega) (by simp[aS];omega) ?_;have e:nh i (2^(u-6))|||2^(u-6)=ak.aB i (u-6) true:=by
   apply xaX;intro k;rw[xcw,dP,ak.ai,xdF];by_cases e:k=u-6
   ·simp[e]
   simp[e,xbn e]
  rw[e];exact gy
 have hp:2^u<=32:=xat (n:=2) zD (by omega:u<=5);have hg:ws[i]? =some (ws.getD i 0):=by rw[xab (by rw[hf.len];exact hi),xan,xab (by rw[hf.len];exact hi)];rfl
 have hwi:=hw.2 _ (xay hg);have hm:=ak.zl u;refine DR.self (Ld.at hv (λ_ h=>h) (Ld.at hv (λ_ h=>h) ?_));refine ae.DS (a:=1) (b:=u) (by simp[IntKind.bits];omega) (by rw[xbi];simp[aS];omega) ?_;rw[xbi];refine aa.eq (yw (u:=u) (i:=0) zO zO zO B) ?_;rw[xac h6];refine⟨.refl _,?_⟩;refine Ld.at hb (λ_ h=>h) ?_;cases c
 ·refine Br.no (af.at ha λq hq=>Ld.at hq (λ_ h=>h) ?_);refine hw.1.ld (cr hg) (λ_ h=>h) ?_;refine ae.Jn (by simpa[aS]using hwi) (by simpa[aS]using hm) (ae.sP ?_);have:=nV (ws.getD i 0) (ak.mask u);exact ae.No (by simp only[aS];omega) (by simp only[aS];omega) (bD.mk (.refl _) (by unfold ak.qe;rw[xac h6];rfl))
 refine Br.yes (af.at ha λq hq=>Ld.at hq (λ_ h=>h) ?_);refine hw.1.ld (cr hg) (λ_ h=>h) ?_;refine ae.fm (by simpa[aS]using hwi) (by simpa[aS]using hm) ?_;have h1:ws.getD i 0&&&ak.mask u<=ws.getD i 0:=xcd;refine ae.e9 (by simp only[aS];omega) ?_;have h2:=xbC (ws.getD i 0&&&ak.mask u) (2^u);exact ae.No (by simp only[aS];omega) (by simp only[aS];omega) (bD.mk (.refl _) (by unfold ak.qe;rw[xac h6];rfl))
theorem z5{B:Hp}{v:zV}{n u:Nat}{ws:zL}{c:Bool}(ht:DD B v ⟨n,ws⟩)(hf:ak.dA n ws)(hu:u<n):
  Px zQ 306 #[v,iv (u:Int),.bool c] B (λv H=>DD H v ⟨n,ak.fU n ws u c⟩):=by
 obtain⟨s,rfl,hw⟩:=ht;refine aK λg=>Fl λb1 _ b3 _ b5 _ b7 _=>?_;refine af.mk (Ld.mk zM rfl ?_);refine aa.px (.cons .here) (nH hf.si rfl zK (F:=λi=>ak.qe ws u c i) (λi hi=>?_) (λi hi=>?_)) ?_
 ·unfold ak.qe;split
  ·by_cases h:ak.aB i (u-6) c<ws.length
   ·rw[xan,xab h];exact hf.lt (xaF h)
   rw[xan,xaJ zO];decide
  have hg:ws.getD i 0<2^64:=by rw[xan,xab (by rw[hf.len];exact hi)];exact hf.lt (xaF _)
  split
  ·refine xb8 (n:=64) (xaE xcd hg) (xaE (xbC _ _) (xaE xcd hg))
  exact xb8 (n:=64) (xaE (nV _ _) hg) (xbx _ zD)
 ·exact Qx (Go.Sx.At.block (l:=[iv (u:Int)]) zM) (Go.Sx.At.block (l:=[.bool c]) zM) (Go.Sx.At.block (l:=[iv (n:Int),s]) zM) (hw.mono zS) hf hu hi
 rintro v N ⟨s',rfl,hw'⟩;refine St.p ?_ ?_
 ·have:=bu hw';simpa[Value.oneCell']using this
 refine ax.q ?_;exact As.mk (by repeat (first|exact bG.refl _|apply bG.cons|apply bG.app)) ⟨s',rfl,hw'.mono zS⟩
theorem Ie{B:Hp}{v:zV}{n u:Nat}{ws:zL}{c:Bool}(ht:DD B v ⟨n,ws⟩)(hf:ak.dA n ws)(hu:u<n):
  Px zQ 320 #[v,iv (u:Int),.bool c] B (λr H=>∃v',r=.tuple #[v',iv 0]/\DD H v' ⟨n,ak.fU n ws u c⟩):=by
 obtain⟨s,rfl,hw⟩:=ht;refine aK λg=>Fg λb1 _ b3 _=>?_;refine ax.q ?_;refine aa.eq (aag (t:=⟨n,ws⟩) ⟨s,rfl,hw.mono zS⟩ (u:Int)) ?_;rw[xae (show TF ⟨(n:Int),ws⟩from⟨by simp,by simpa using hf⟩),xae ⟨by omega,by simp only;omega⟩];refine ae.ic (Br.F (ax.q ?_));refine aa.pq (z5 (v:=.agg (List.toArray [iv (n:Int),s])) ⟨s,rfl,hw.mono zS⟩ hf hu) ?_;rintro v N ⟨s',rfl,hw'⟩;refine St.p ?_ ?_
 ·have:=bu hw';simpa[Value.oneCell']using this
 refine ax.q ?_;exact As.mk (by repeat (first|exact bG.refl _|apply bG.cons|apply bG.app)) ⟨_,rfl,s',rfl,hw'.mono zS⟩
theorem CC{w j:Nat}(hj:j<8):((List.range (j+1)).map λi=>UInt8.ofNat (w>>>(8*i)))=((List.range j).map λi=>UInt8.ofNat (w>>>(8*i)))++[UInt8.ofNat (w>>>(8*j))]:=by
 rw[xcR,xaB];rfl
theorem LP(l:List UInt8)(n:Nat):bF (l++[UInt8.ofNat n])=bF l++[[Value.int .u8 ((n%256:Nat):Int)]]:=by
 simp[bF]
theorem Em{B:Hp}{v:zV}{t:Tb}(ht:DD B v t)(hl:t.ws.length<=4294967296):Rd zQ 321 #[v] B (· =aq (ak.gx t.ws)):=by
 obtain⟨s,rfl,hw⟩:=ht;refine aK λg=>Ff λb1 _=>?_;refine af.mk (Ld.mk zM rfl ?_);refine hw.1.bE ?_;rw[an];refine⟨λvs H=>∃(k:Nat) (v:zV) (C:Hp),vs=[v,iv (k:Int)]/\k<=t.ws.length/\H=C++B/\aM 5 1 v (bF (ak.gx (t.ws.take k))) C,λvs _=>t.ws.length-bA vs 1,
  JE.of (.tail) ⟨0,_,[],rfl,by omega,rfl,aM.nil _ _⟩,?_⟩
 rintro w6 w7 H ⟨k,v,C,⟨⟩,hk,rfl,ho⟩ gs;refine ae.cX (Br.dec (λhlt=>?_) (λhlt=>?_))
 ·have hg:t.ws[k]? =some t.ws[k]:=xab hlt;have hwk:=hw.2 _ (xaF hlt);refine hw.1.ld (cr hg) zS ?_;have hlen:(bF (ak.gx (t.ws.take k))).length=8*k:=by simp only[bF,xax,ak.sn,xbA];omega
  refine⟨λvs H=>∃(j:Nat) (v:zV) (C:Hp),vs=[v,iv (j:Int)]/\j<=8/\H=C++B/\aM 5 1 v (bF (ak.gx (t.ws.take k)++(List.range j).map λi=>UInt8.ofNat (t.ws[k]>>>(8*i)))) C,λvs _=>8-bA vs 1,
   JE.mk ⟨0,_,C,rfl,by omega,rfl,by simpa using ho⟩,?_⟩
  rintro w8 w9 H ⟨j,v,C,⟨⟩,hj,rfl,ho⟩ gs;refine ae.cX (b:=8) (Br.dec (λh8=>?_) (λh8=>?_))
  ·refine ae.wL (a:=8) (ae.e9 (by simpa[aS]using hwk) (aH.af4 (aj.int (e:=5) zK zK zK λxb=>?_)));refine ho.E5 (A:=[_]) (r:=[Value.int .u8 (((t.ws[k]>>>(8*j))%256:Nat):Int)]) (by exact .head _) rfl (by simp[Value.oneCell']) ⟨[.int .u8 0],rfl,rfl⟩ (by simp only[bF,xax,xaf,xaK]at hlen⊢;omega) (by simp only[bF,xax,xaf,xaK]at hlen⊢;omega) λv' C' cq=>?_;refine ae.inc (az.of .tail ⟨j+1,_,C',rfl,by omega,rfl,?_⟩ (by simp[bA];omega));rw[CC h8,<-xai,LP];exact cq
  have:j=8:=by omega
  subst this;refine ae.inc (az.mk ⟨k+1,_,C,rfl,by omega,rfl,?_⟩ (by simp[bA];omega));rw[xa4 hlt,ak.gx,List.flatMap_append];simpa[ak.gx,ak.jQ]using ho
 have:k=t.ws.length:=by omega
 subst this;rw[xbe]at ho;refine dK.own ho (λ_ h=>xad _ h) ?_;exact bD.mk .right rfl
theorem YE{B:Hp}{b n:Nat}{es:Array MapEntry}{ck:Nat}{m:List (List UInt8×zL)}{v:zV}{ws:zL}(hE:fS n B es ck m)(ht:DD B v ⟨n,ws⟩)(hf:ak.dA n ws):
  Fc zQ 319 #[.map (some b),v] ((b,.map es ck)::B) (λ_ H=>∃es' cC N,H=(b,.map es' cC)::(N++B)/\fS n (N++B) es' cC (yW m ws)):=by
 obtain⟨s,rfl,hw⟩:=ht;refine aK λg=>Fh λb1 _=>?_;refine DR.self (ax.q ?_);refine ax.q ?_;refine aa.eq (Em (t:=⟨n,ws⟩) ⟨s,rfl,hw⟩ (tB hf)) (⟨.refl _,?_⟩);refine hE.bT (b:=b) ⟨s,rfl,hw⟩ hf λes' cC BU=>⟨_,.tail (.head _),?_⟩;exact aQ.mk (gY:=(b,.map es' cC)::([]++B)) .tail ⟨es',cC,[],rfl,BU⟩
theorem Kr{B:Hp}{v:zV}{n:Nat}{ts:List Tb}{L:List (zL)}(ht:iq B v ts)(hL:ts=L.map λws=>⟨n,ws⟩)(hf:∀ws∈L,ak.dA n ws)(cJ:L.length<4611686018427387904):
  Fc zQ 307 #[v] B (λr H=>∃b es ck m N,r=.map (some b)/\H=(b,.map es ck)::(N++B)/\fS n (N++B) es ck m/\∀x,x∈m.map Prod.snd↔x∈L):=by
 have hlen:ts.length=L.length:=by rw[hL];simp
 refine aK λg=>Fk λb _=>?_;refine ht.bE ?_;rw[hlen];refine⟨λvs H=>∃(k:Nat) (es:Array MapEntry) (ck:Nat) (m:List (List UInt8×zL)) (N:Hp),vs=[iv (k:Int)]/\k<=L.length/\H=(b,.map es ck)::(N++B)/\fS n (N++B) es ck m/\∀x,x∈m.map Prod.snd↔x∈L.take k,
  λvs _=>L.length-bA vs 0,JE.mk ⟨0,_,_,[],[],rfl,by omega,rfl,fS.empty _ _,by simp⟩,?_⟩
 rintro w H ⟨k,es,ck,m,N,⟨⟩,hk,rfl,hE,hm⟩ gs;refine ae.cX (Br.dec (λhlt=>?_) (λhlt=>?_))
 ·have hg:ts[k]? =some ⟨n,L[k]⟩:=by rw[hL,xar,xab hlt];rfl
  have n5:=hf L[k] (xaF hlt);refine ht.ld hg zS λs hw=>?_;intro b2 _;refine St.p ?_ ?_
  ·have:=bu hw;simpa[Value.oneCell']using this
  refine ax.q ?_;refine aa.fq (YE hE ⟨s,rfl,hw.mono zS⟩ n5) ?_;rintro r C' ⟨es',cC,N',rfl,BU⟩;refine ae.inc (az.of .tail ⟨k+1,es',cC,yW m L[k],N'++N,rfl,by omega,by rw[xai],by rw[xai];exact BU,λx=>?_⟩ (by simp[bA];omega));rw[qS hE.2 n5,hm,xa4 hlt,xaq,xaG]
 have:k=L.length:=by omega
 subst this;rw[xbe]at hm;exact aQ.here ⟨b,es,ck,m,N,rfl,rfl,hE,hm⟩
theorem B6{B:Hp}{bm n u:Nat}{es:Array MapEntry}{ck:Nat}{m:List (List UInt8×zL)}(hm:(bm,Obj.map es ck)∈B)(hE:fS n B es ck m)(hu:u<n)(cJ:m.length<4611686018427387904):
  Fc zQ 308 #[.map (some bm),iv (u:Int)] B (λr H=>∃b' es' cC m' N,r=.tuple #[.map (some b'),iv ((ak.nodes n (m.map Prod.snd) u).length:Int)]/\H=(b',.map es' cC)::(N++B)/\fS n (N++B) es' cC m'/\
   ∀x,x∈m'.map Prod.snd↔∃t∈m.map Prod.snd,∃c,x=ak.fU n t u c):=by
 refine aK λg=>Fj ?_;intro b' _;refine .inr ⟨bm,es,ck,rfl,.tail _ hm,λbi _=>?_⟩;refine⟨λvs H=>∃(es':Array MapEntry) (cC:Nat) (m':List (List UInt8×zL)) (seen:Array Nat) (N:Hp) (D:List (zL)),vs=[iv ((ak.nodes n D u).length:Int)]/\
   H=(bi,.mapIter (some bm) ck seen ck)::(b',.map es' cC)::(N++B)/\fS n (N++B) es' cC m'/\(m.map Prod.snd).Perm (D++(dx es m seen).map Prod.snd)/\∀x,x∈m'.map Prod.snd↔∃t∈D,∃c,x=ak.fU n t u c,
  λvs H=>match H with|(_,.mapIter _ _ seen _)::_=>(dx es m seen).length|_=>0,JE.mk ⟨_,_,[],_,[],[],rfl,rfl,fS.empty _ _,?_,by simp⟩,?_⟩
 ·rw[tO hE.1];simp
 rintro w H ⟨es',cC,m',seen,N,D,⟨⟩,rfl,BU,dy,hmem⟩ gs;have hbm:∀{X:Hp},(bm,Obj.map es ck)∈X++B:=xaa _ hm;refine hE.1.next (.tail _ (.tail _ hbm)) (.head _) (λe x seen' he hkey hval hstep abq hfind=>⟨_,.head _,?_⟩) (λEu=>?_)
 ·obtain⟨bs,ws⟩:=x;simp only at hval hkey;refine Ext.mk rfl (Br.yes (⟨bi,bm,ck,seen',e.born,ck,es,e,rfl,.head _,abq,.tail _ (.tail _ hbm),hfind,?_⟩));refine Ext.mk rfl ?_;have hx:(bs,ws)∈m:=by
   have h:=hstep.mem_iff.2 (xbV (a:=(bs,ws)));unfold dx at h;obtain⟨p,hp,lg⟩:=xam.1 h;rw[<-lg];exact(xd9 (xcS.1 hp).1).2
  obtain⟨hbs,hf⟩:=hE.2 _ hx;simp only at hbs hf;obtain⟨s,hes,hw⟩:=hval;rw[hes];have hone:=bu hw;intro b1 _;refine St.p (by simpa[Value.oneCell']using hone) ?_;refine ax.q ?_;refine aa.pq (B:=N++B) (Ie (n:=n) (ws:=ws) ⟨s,rfl,hw.mono zS⟩ hf hu) ?_;rintro r N1 ⟨v1,rfl,s1,rfl,ie⟩;have aaU:=bu ie;refine Ext.two λb2 _=>(St.p (by simpa[Value.oneCell']using aaU) ?_);refine ax.q ?_;refine aa.pq (B:=N1++(N++B)) (Ie (n:=n) (ws:=ws) ⟨s,rfl,hw.mono zS⟩ hf hu) ?_;rintro r N2 ⟨v2,rfl,s2,rfl,wS⟩;have aaT:=bu wS;refine Ext.two λb3 _=>(St.p (by simpa[Value.oneCell']using aaT) ?_);refine DR.self (ax.q ?_);refine ax.q ?_;have f1:=ak.dQ (v:=u) (ws:=ws) (b:=false) hf.si;have f2:=ak.dQ (v:=u) (ws:=ws) (b:=true) hf.si;refine aa.eq (B:=N2++(N1++(N++B))) (Em (t:=⟨n,ak.fU n ws u false⟩) ⟨s1,rfl,ie.mono zS⟩ (tB f1)) (⟨.refl _,?_⟩);refine aa.eq (B:=N2++(N1++(N++B))) (Em (t:=⟨n,ak.fU n ws u true⟩) ⟨s2,rfl,wS⟩ (tB f2)) (⟨.refl _,?_⟩);intro J hJ;have EB:(ak.gx (ak.fU n ws u false)≠ak.gx (ak.fU n ws u true))↔ak.dep n ws u=true:=by
   simp only[ak.dep,ne_eq,xaP];exact not_congr ⟨λh=>f1.key_inj f2 h,λh=>by rw[h]⟩
  have gy:JE J [iv ((ak.nodes n (D++[ws]) u).length:Int)] ((b3,.cells (List.toArray [iv (n:Int),s2]) 30 zZ)::(b2,.cells (List.toArray [iv (n:Int),s1]) 30 zZ)::
    (b1,.cells (List.toArray [iv (n:Int),s]) 30 zZ)::(bi,.mapIter (some bm) ck seen' ck)::(b',.map es' cC)::(N2++(N1++(N++B)))):=by
   refine JE.mk (hJ _ _ λgs=>?_);refine DR.of (R:=(b3,.cells (List.toArray [iv (n:Int),s2]) 30 zZ)::(b2,.cells (List.toArray [iv (n:Int),s1]) 30 zZ)::[]) ?_ ?_
   ·exact .cons (.cons (λg w h=>(Own.left (B:=_) (A:=[]) h)))
   refine ax.q ?_;refine ax.q ?_;have uT:=BU.mono (B':=N2++(N1++(N++B))) zS;refine uT.bT (b:=b') (ws:=ak.fU n ws u false) ⟨s1,rfl,ie.mono zS⟩ f1 λlB mg hE3=>⟨_,.tail (.tail (.tail (.tail (.head _)))),?_⟩;refine⟨.cons (.cons (λg w h=>(Own.left (B:=_) (A:=[]) h))),?_⟩;refine hE3.bT (b:=b') (ws:=ak.fU n ws u true) ⟨s2,rfl,wS⟩ f2 λQ9 RB hE4=>⟨_,.tail (.tail (.tail (.tail (.head _)))),?_⟩;refine az.of (H':=(bi,.mapIter (some bm) ck seen' ck)::(b',.map Q9 RB)::((N2++(N1++N))++B)) ?_ ⟨Q9,RB,yW (yW m' (ak.fU n ws u false)) (ak.fU n ws u true),seen',N2++(N1++N),D++[ws],rfl,rfl,?_,?_,λx=>?_⟩ ?_
   ·refine .skip (.skip (.skip (.cons (.cons ?_))));intro g w h;rw[xai,xai];exact h
   ·rw[xai,xai];exact hE4
   ·refine dy.trans ?_;refine(xcn D (hstep.map Prod.snd)).trans ?_;simp only[xaM,xai,xaS,xa6];exact .refl _
   ·rw[qS hE3.2 f2,qS uT.2 f1,hmem];constructor
    ·rintro((⟨t,ht,c,rfl⟩|rfl)|rfl)
     ·exact⟨t,by simp[ht],c,rfl⟩
     ·exact⟨ws,by simp,_,rfl⟩
     exact⟨ws,by simp,_,rfl⟩
    rintro⟨t,ht,c,rfl⟩;rcases xaq.1 ht with ht|ht
    ·exact .inl (.inl ⟨t,ht,c,rfl⟩)
    simp at ht;subst ht;cases c
    ·exact .inl (.inr rfl)
    exact .inr rfl
   have:=hstep.length_eq;simp only[xak]at this⊢;omega
  refine ae.AT (Br.dec (λh=>?_) (λh=>?_))
  ·refine ae.dX (b:=1) ?_ ?_
   ·have h1:=dy.length_eq;simp only[xax,xaf]at h1;have h2:(ak.nodes n D u).length<=D.length:=xbT _ _;simp[aS];omega
   have:(ak.nodes n (D++[ws]) u).length=(ak.nodes n D u).length+1:=by
    simp[ak.nodes,xcs,EB.1 h]
   rw[this]at gy;exact gy
  have:(ak.nodes n (D++[ws]) u).length=(ak.nodes n D u).length:=by
   have hd:ak.dep n ws u=false:=by cases hh:ak.dep n ws u;rfl;exact absurd (EB.2 hh) h
   simp[ak.nodes,xcs,hd]
  rw[this]at gy;exact gy
 refine Ext.mk rfl (Br.no ?_);rw[Eu]at dy;simp only[xcL,xaH]at dy;refine aQ.mk (gY:=(b',.map es' cC)::(N++B)) .tail ⟨b',es',cC,m',N,?_,rfl,BU,λx=>?_⟩
 ·rw[ak.kX dy]
 rw[hmem];constructor
 ·rintro⟨t,ht,h⟩;exact⟨t,dy.mem_iff.2 ht,h⟩
 rintro⟨t,ht,h⟩;exact⟨t,dy.mem_iff.1 ht,h⟩
theorem J0{B:Hp}{v:zV}{ts:List Tb}(ht:iq B v ts)(cJ:ts.length<2^62):Rd zQ 304 #[v] B (· =.bool (decide (∀t∈ts,TF t/\some t.n=ts.head?.map Tb.n))):=by
 intro g;refine Fp (R:=aQ _) ?_;unfold L304;refine ht.bE ?_;refine⟨λvs H=>bG B H/\∃k:Nat,vs=[iv (k:Int)]/\k<=ts.length/\∀i t,i<k->ts[i]? =some t->TF t/\some t.n=ts.head?.map Tb.n,λvs _=>ts.length-bA vs 0,JE.mk ⟨.refl _,0,rfl,by omega,by omega⟩,?_⟩;rintro w H ⟨hg,k,hv,hk,aD⟩ gs;simp only[xaz,xbb]at hv;subst hv;refine ae.cX (Br.dec (λhlt=>?_) (λhlt=>?_))
 ·obtain⟨t,kA⟩:∃t,ts[k]? =some t:=⟨_,xab hlt⟩;obtain⟨t0,Uo⟩:∃t,ts[0]? =some t:=⟨_,xab zO⟩;have hh:ts.head?.map Tb.n=some t0.n:=by rw[List.head?_eq_getElem?,Uo];rfl
  have htB:=ht.mono hg.sub;refine htB.ld kA (λ_ h=>h) λs hs=>?_;intro b1 _;refine St.whole (r:=[iv t.n,s]) (by exact cu.head _) rfl rfl ?_ ?_
  ·obtain⟨a,c,rfl,_⟩:=hs.1.shape;simp[Value.oneCell']
  intro J hJ;have hno:∀H',bG B H'->¬(TF t/\some t.n=ts.head?.map Tb.n)->JE J [.bool true] H':=λH' X1 h=>
   JE.mk (hJ _ _ λgs=>Br.yes (bD.mk X1.dL (by rw[xap];exact λhh=>h (hh t (xay kA)))))
  have Wo:bG B ((b1,Obj.cells (List.toArray [iv t.n,s]) 30 zZ)::H):=.cons hg;refine DR.self ?_;refine ax.whole (r:=[iv t.n,s]) (by exact List.Mem.head _) rfl ?_;intro F;refine aa.rd (B:=H) (.cons .here) (B7 ⟨s,rfl,hs⟩) ?_;rintro v rfl;refine⟨.refl _,Un.not ?_⟩;by_cases hT:TF t
  case neg=>rw[xap hT];exact Br.yes (hno _ Wo λh=>hT h.1)
  rw[xau hT];apply Br.no;refine af.mk (Ld.mk zM rfl ?_);refine htB.ldN Uo zS ?_;refine ae.ic (aI.mk ?_);simp only[xaj];by_cases hn:t.n=t0.n
  case neg=>rw[xau hn];exact hno _ Wo λh=>hn (by have:=h.2;rw[hh]at this;simpa using this)
  rw[xap (by simpa using hn)];refine JE.mk (hJ _ _ λgs=>Br.no ?_);refine ae.dX (b:=1) (by simp[aS];omega) ?_;refine az.mk ⟨Wo,k+1,rfl,by omega,λi u hi hu=>?_⟩ (by simp[bA];omega);by_cases e:i=k
  ·subst e;rw[kA]at hu;cases hu;exact⟨hT,by rw[hh,hn]⟩
  exact aD i u zO hu
 refine bD.mk hg.dL ?_;rw[xau];intro t htm;obtain⟨i,hi,rfl⟩:=xbB.1 htm;exact aD i _ zO (xab hi)
def qG(ts:List Tb):Prop:=∀t∈ts,TF t/\some t.n=ts.head?.map Tb.n
instance (ts:List Tb):Decidable (qG ts):=by unfold qG;infer_instance
theorem uf{B:Hp}{v:zV}{ts:List Tb}(ht:iq B v ts)(cJ:ts.length<2^62):Rd zQ 304 #[v] B (· =.bool (decide (qG ts))):=J0 ht cJ
theorem Bh{n:Nat}{L:List (zL)}(hf:∀ws∈L,ak.dA n ws):qG (L.map λws=>⟨n,ws⟩):=by
 intro t ht;obtain⟨ws,hws,rfl⟩:=xam.1 ht;refine⟨⟨by simp,by simpa using hf ws hws⟩,?_⟩;cases L with
 |nil=>simp at hws
 |cons a b=>rfl
theorem IA{ts:List Tb}(h:qG ts)(hne:ts≠[]):∃(n:Nat) (L:List (zL)),n<=16/\ts=L.map (λws=>⟨n,ws⟩)/\L≠[]/\∀ws∈L,ak.dA n ws:=by
 cases ts with
 |nil=>exact absurd rfl hne
 |cons t r=>
  have ht:=(h t zI).1;have hn:∀u∈t::r,u.n=t.n:=λu hu=>by have:=(h u hu).2;simpa using this
  refine⟨t.n.toNat,(t::r).map Tb.ws,ht.2.si,?_,by simp,λws hws=>?_⟩
  ·rw[xbR]
   conv=>lhs;rw[<-xej (t::r)]
   apply xbr;intro u hu;have h1:=hn u hu;have h2:=ht.1;obtain⟨un,uw⟩:=u;simp only[Function.comp,id]at h1⊢;congr 1;omega
  obtain⟨u,hu,rfl⟩:=xam.1 hws;have:=(h u hu).1.2;rwa [hn u hu]at this
end
end Go.Proofs
namespace aC
theorem Rm.rB(m:Rm):∀ls ord,m.goes 0 ls ord=ls.take (m.goes 0 ls ord).length
 | [],_=>rfl
 |c::cs,ord=>by
  by_cases hf:m.fit ord (0+c)=true
  ·have:=m.rB cs (fT ord (0+c));rw[goes,xae hf,xak,List.take_succ_cons,<-this,xa1]
  rw[goes,xac hf];simp
def Rm.can(m:Rm)(ord ls:zL):Bool:=decide ((m.goes 0 ls ord).length=ls.length)
theorem Rm.QF(m:Rm){ord ls:zL}{i:Nat}(hi:i<(m.goes 0 ls ord).length){l:Nat}(hl:ls[i]? =some l):m.fit (aJ ord (ls.take i)) l=true:=by
 obtain⟨_,c,h1,h2⟩:=m.BY 0 ls ord i hi;rw[hl]at h1;cases h1;rw[m.rB,List.take_take,xbX (xcq hi),xa1]at h2;exact h2
theorem Rm.Ll(m:Rm){ord ls:zL}{l:Nat}(hl:ls[(m.goes 0 ls ord).length]? =some l):m.fit (aJ ord (ls.take (m.goes 0 ls ord).length)) l=false:=by
 have:=m.BZ 0 ls ord l hl;rw[xa1]at this;rw[<-m.rB];exact this
def road(a b:Nat):zL:=List.range' a (b-a)++(List.range' b (a-b)).reverse
theorem uj(a b:Nat):(road a b).length=(b-a)+(a-b):=by simp[road]
theorem OR{a b l n:Nat}(ha:a<n)(hb:b<n)(h:l∈road a b):l+1<n:=by
 unfold road at h;rcases xaq.1 h with h|h
 ·rw[xep]at h;omega
 rw[List.mem_reverse,xep]at h;omega
theorem jI{α:Type}[DecidableEq α]:∀{l p:List α},l.Nodup->(∀x∈l,x∈p)->p.length<=l.length->l.Perm p
 | [],p,_,_,h=>by
  have:p=[]:=xci.1 (by simpa using h);subst this;exact .refl _
 |x::t,p,hn,hs,hl=>by
  have hx:=hs x zI;have hp:=List.perm_cons_erase hx;have hlen:(p.erase x).length=p.length-1:=List.length_erase_of_mem hx;have hpos:=List.length_pos_of_mem hx;refine(List.Perm.cons x (jI (xaW.1 hn).2 (λy hy=>?_) (by simp only[xak]at hl;omega))).trans hp.symm;refine(List.mem_erase_of_ne λe=>?_).2 (hs y (by simp[hy]));subst e;exact(xaW.1 hn).1 hy
end aC
set_option maxRecDepth 100000
namespace Go.Proofs
open Go Go.Sx Tryz
section
open aC
theorem BG{l:zL}(h:l.Nodup):(iw l).Nodup:=xb9.2 (h.imp λhne e=>hne (Int.ofNat.inj e))
theorem rN{p:List Int}:sH p↔p.Perm (iw (List.range p.length)):=by
 constructor
 ·intro h;refine(jI (BG xbs) (λx hx=>?_) (by rw[an,xaK];exact xal _)).symm;obtain⟨k,hk,rfl⟩:=xam.1 hx;exact h k (xaO.1 hk)
 intro h v hv;exact h.mem_iff.2 (xam.2 ⟨v,xaO.2 hv,rfl⟩)
theorem R1{p:List Int}(hn:p.Nodup)(h:∀x∈p,0<=x/\x<(p.length:Int)):sH p:=by
 refine rN.2 (jI hn (λx hx=>?_) (by rw[an,xaK];exact xal _));obtain⟨h1,h2⟩:=h x hx;exact xam.2 ⟨x.toNat,xaO.2 zO,by show((x.toNat:Nat):Int)=x;omega⟩
theorem R2{p:List Int}(h:sH p){x:Int}(hx:x∈p):0<=x/\x<(p.length:Int):=by
 have:=(rN.1 h).mem_iff.1 hx;obtain⟨k,hk,rfl⟩:=xam.1 this;have:=xaO.1 hk;show(0:Int)<=(k:Int)/\(k:Int)<_;omega
theorem CW{p:List Int}(h:sH p):p.Nodup:=(rN.1 h).nodup_iff.2 (BG xbs)
theorem OG{p:List Int}{i n W:Nat}(hi:i<p.length)(hn:p[i]=(n:Int))(hw:n<W):((List.range W).map λk=>decide (((k:Nat):Int)∈p.take i)).set n true=(List.range W).map λk=>decide (((k:Nat):Int)∈p.take (i+1)):=by
 apply xbq;intro j;rw[xa4 hi,hn];by_cases hj:j<W
 ·by_cases e:n=j
  ·subst e;rw[xbO (by simpa using hw)];simp[hw]
  rw[xbM e];simp only[xar,xdp hj,xbj,xaq,xaG];congr 1;have:¬((j:Nat):Int)=(n:Int):=by omega
  simp[this]
 rw[xaJ zP,xaJ zP]
theorem JY{p:List Int}{W:Nat}:List.replicate W false=(List.range W).map λk=>decide (((k:Nat):Int)∈p.take 0):=by
 apply xbq;intro j;by_cases hj:j<W
 ·simp[hj]
 rw[xaJ zP,xaJ zP]
theorem q8{B:Hp}{v:zV}{p:List Int}(h:er .i64 B v p)(cJ:p.length<=70368744177664):Rd zQ 143 #[v] B (λr=>(r=iv 0/\sH p/\p.length<=64)\/(r=iv 13/\sH p/\64<p.length)\/(r=iv 4/\¬sH p)):=by
 refine aK λg=>G7 (h.bE (df.RH zO λb=>h.bE ?_));rw[JY (p:=p)];refine⟨λvs H=>∃i:Nat,vs=[iv (i:Int)]/\H=(b,.cells (dc ((List.range p.length).map λk=>decide (((k:Nat):Int)∈p.take i))) 4 zZ)::B/\i<=p.length/\(p.take i).Nodup/\∀x∈p.take i,0<=x/\x<(p.length:Int),λvs _=>p.length-bA vs 0,
  JE.mk ⟨0,rfl,rfl,xaA _,by simp,by simp⟩,?_⟩
 rintro w H ⟨i,⟨⟩,rfl,hi,gw,hin⟩ gs;refine ae.cX (Br.dec (λhlt=>?_) (λhlt=>?_))
 ·refine h.ld (xab hlt) (λ_ h=>.tail _ h) ?_;obtain⟨x,hx⟩:∃x,p[i]=x:=⟨_,rfl⟩;have hxm:x∈p:=by rw[<-hx];exact xaF hlt
  rw[hx];have hB:=De.block (b:=b) (cap:=p.length) (l:=(List.range p.length).map λk=>decide (((k:Nat):Int)∈p.take i)) (T:=4) (fz:=(0,0)) (B:=(b,.cells (dc ((List.range p.length).map λk=>decide (((k:Nat):Int)∈p.take i))) 4 zZ)::B) (.head _) zI;rw[xax,xaK]at hB;refine ae.lss (cz.or (decide ((p.length:Int)<=x)) (λ_=>h.bE (ae.geq ⟨rfl,rfl⟩)) zI λgs=>?_);rw[<-xbp];refine cz.or (decide (x∈p.take i)) (λhno=>?_) zI λgs=>?_
  ·have KU:=of_decide_eq_false hno;obtain⟨n,rfl⟩:∃n:Nat,x=n:=⟨x.toNat,by omega⟩;refine hB.ld (b:=decide (((n:Nat):Int)∈p.take i)) ?_ (λ_ h=>h) ⟨rfl,rfl⟩;rw[xar,xdp zO];rfl
  rw[<-xbp];refine Br.dec (λzW=>bD.mk .tail (.inr (.inr ⟨rfl,λha=>?_⟩))) (λaba=>?_)
  ·have h1:=R2 ha hxm;rcases zW with hb|hb
   ·omega
   have h2:=CW ha;rw[<-xbo i p,xa9]at h2;refine h2.2.2 x hb x ?_ rfl;rw[xaV hlt,hx];exact .head _
  obtain⟨n,rfl⟩:∃n:Nat,x=n:=⟨x.toNat,by omega⟩;refine ah.nat zO ?_;refine St.RH (l:=(List.range p.length).map λk=>decide (((k:Nat):Int)∈p.take i)) (.head _) zP ?_;rw[OG hlt hx zO];refine ae.inc (az.mk ⟨i+1,rfl,rfl,hlt,?_,λx Su=>?_⟩ (by simp only[bA];omega))
  ·rw[xa4 hlt,hx,xa9];exact⟨gw,by simp,λa ha b hb e=>by simp at hb;subst hb;subst e;exact aba (.inr ha)⟩
  rw[xa4 hlt,hx,xaq,xaG]at Su;rcases Su with Su|rfl
  ·exact hin x Su
  omega
 obtain rfl:i=p.length:=by omega
 rw[xbe]at gw hin;have aD:=R1 gw hin;refine h.bE (ae.gW (b:=64) (Br.dec (λhg=>bD.mk .tail (.inr (.inl ⟨rfl,aD,hg⟩))) (λhg=>bD.mk .tail (.inl ⟨rfl,aD,by omega⟩))))
theorem JU{B:Hp}{v:zV}{p:List Int}{x:Int}(h:er .i64 B v p)(cJ:p.length<4611686018427387904):Rd zQ 177 #[v,iv x] B (· =iv (if x∈p then((p.idxOf x:Nat):Int)else-1)):=by
 refine aK λg=>GJ (h.bE ?_);refine⟨λvs H=>∃i:Nat,vs=[iv (i:Int)]/\H=B/\i<=p.length/\x∉p.take i,λvs _=>p.length-bA vs 0,JE.mk ⟨0,rfl,rfl,xaA _,by simp⟩,?_⟩;rintro w H ⟨i,⟨⟩,rfl,hi,hq⟩ gs;refine ae.cX (Br.dec (λhlt=>?_) (λhlt=>?_))
 ·refine h.ld (xab hlt) (λ_ h=>h) ?_;refine ae.lT (Br.dec (λhe=>bD.mk (.refl _) ?_) (λhe=>?_))
  ·rw[xae (by rw[he];exact xaF hlt),PM hq hlt he.symm]
  refine ae.inc (az.of (.refl _) ⟨i+1,rfl,rfl,hlt,?_⟩ (by simp only[bA];omega));rw[xa4 hlt,xaq,xaG];rintro(h|h)
  ·exact hq h
  exact he h
 refine bD.mk (.refl _) ?_;rw[xdu zO]at hq;rw[xac hq]
theorem Vh{B:Hp}{v1 v2:zV}{p q:zL}{n:Nat}(h1:er .i64 B v1 (iw p))(h2:er .i64 B v2 (iw q))(hp:p.Perm (List.range n))(hq:q.Perm (List.range n))(hn:n<=64):Rd zQ 176 #[v1,v2] B (· =iv 0):=by
 have e1:p.length=n:=by rw[hp.length_eq,xaK]
 have e2:q.length=n:=by rw[hq.length_eq,xaK]
 refine aK λg=>GK (aa.rq (q8 h1 (by rw[an];omega)) ?_);rintro v (⟨rfl,_,_⟩|⟨_,_,hl⟩|⟨_,hno⟩);rotate_left
 ·rw[an]at hl;omega
 ·exact absurd (vI hp) hno
 refine aa.rq (q8 h2 (by rw[an];omega)) ?_;rintro v (⟨rfl,_,_⟩|⟨_,_,hl⟩|⟨_,hno⟩);rotate_left
 ·rw[an]at hl;omega
 ·exact absurd (vI hq) hno
 refine ae.lT (cz.or false (λ_=>ae.lT ⟨rfl,rfl⟩) rfl λgs=>?_);refine cz.or false (λ_=>?_) rfl λgs=>Br.no ?_
 ·refine h1.bE (h2.bE (ae.jD ⟨rfl,?_⟩));rw[an,an,xap zO]
 exact⟨.i64,0,0,rfl,rfl,bD.mk (.refl _) rfl⟩
end
section
open aC
theorem Pt(n:Nat)(ord:zL)(L:ak.Fs)(k:Nat):(pX n ord L k).length<=2^k*L.length:=xbZ (xbT _ _) (I9 k)
theorem xw(n:Nat)(ord:zL)(L:ak.Fs):∀m,fM n ord L m+L.length<=2^m*L.length
 |0=>by show 0+L.length<=1*L.length;omega
 |m+1=>by
  have ih:=xw n ord L m;have h:=Pt n ord L m;show fM n ord L m+(pX n ord L m).length+L.length<=_;rw[xcB];have:2^m*2*L.length=2*(2^m*L.length):=by rw[xbJ (2^m) 2,xcu]
  omega
end
end Go.Proofs
namespace Go.Sx
open Go
section
variable {P:Program} {g:Gh} {H:Hp}
theorem aj.Xo{t e:TypeId}{z:zV}{a b c d:zV}{K:zV->Hp->Prop}(h1:P.underlying t=some (.slice e))(h2:cA P e=some 2)(h3:dV P e=some z)
 (h:∀x,K (.slice (some ⟨x,0,Option.none⟩) 2 2) ((x,.cells (rows [[a,b],[c,d]]) e zZ)::H)):aj P t 2 [(0,.agg #[a,b]),(1,.agg #[c,d])] H K:=by
 refine⟨rows [[a,b],[c,d]],e,2,z,h1,h2,h3,by decide,?_,λb _=>h b⟩;have e1:Array.range (2*2)=#[0,1,2,3]:=rfl;simp[Instr.fill,Value.cells,rows,e1]
theorem aj.Xn{t e:TypeId}{z:zV}{a b c d x y:zV}{K:zV->Hp->Prop}(h1:P.underlying t=some (.slice e))(h2:cA P e=some 2)(h3:dV P e=some z)
 (h:∀u,K (.slice (some ⟨u,0,Option.none⟩) 3 3) ((u,.cells (rows [[a,b],[c,d],[x,y]]) e zZ)::H)):aj P t 3 [(0,.agg #[a,b]),(1,.agg #[c,d]),(2,.agg #[x,y])] H K:=by
 refine⟨rows [[a,b],[c,d],[x,y]],e,2,z,h1,h2,h3,by decide,?_,λb _=>h b⟩;have e1:Array.range (3*2)=#[0,1,2,3,4,5]:=rfl;simp[Instr.fill,Value.cells,rows,e1]
theorem aj.aas{t e:TypeId}{kd:IntKind}{x y z u:Int}{K:zV->Hp->Prop}(h1:P.underlying t=some (.slice e))(h2:cA P e=some 1)(h3:dV P e=some (.int kd 0))
 (h:∀b,K (.slice (some ⟨b,0,Option.none⟩) 4 4) ((b,.cells (aA kd [x,y,z,u]) e zZ)::H)):aj P t 4 [(0,.int kd x),(1,.int kd y),(2,.int kd z),(3,.int kd u)] H K:=by
 refine⟨aA kd [x,y,z,u],e,1,_,h1,h2,h3,by decide,?_,λb _=>h b⟩;have e1:Array.range (4*1)=#[0,1,2,3]:=rfl;simp[Instr.fill,Value.cells,aA,e1]
theorem aM.made{T:TypeId}{k b:Nat}(rs:List (List zV))(h:∀r∈rs,r.length=k):aM T k (.slice (some ⟨b,0,none⟩) rs.length rs.length) rs [(b,.cells (rows rs) T zZ)]:=
 .inr ⟨b,[],by simp,by simp,by simpa using h⟩
end
end Go.Sx
namespace aC
open ak
variable {n:Nat} {F:Nat->Nat} {ws us rs:zL}
def mN(n:Nat)(F:Nat->Nat):zL:=(List.range (wN n)).map λi=>F i&&&dr n
theorem gG(hn:n<=16):dA n (mN n F):=by
 refine⟨hn,by simp[mN],λw hw=>?_⟩;obtain⟨i,_,rfl⟩:=xam.1 hw;exact xb3
theorem KG{x:Nat}(hx:x<2^n):bit (mN n F) x=(F (x/64)).testBit (x%64):=by
 have hi:=Bu hx;unfold bit;have fI:(mN n F).getD (x/64) 0=F (x/64) &&&dr n:=by simp[mN,hi]
 rw[fI,xa8,kR];have hfb:decide (x%64<if 6<=n then 64 else 2^n)=true:=by
  rw[xaP];split
  ·exact xbx _ zD
  have h1:2^n<=32:=xat (n:=2) zD (by omega:n<=5);omega
 rw[hfb,xdY]
theorem ji{f:Fn}(h:∀x,x<2^n->(F (x/64)).testBit (x%64)=f x)(hf:∀x,f (x%2^n)=f x):fB n (mN n F)=f:=by
 funext x
 unfold fB;have hx:x%2^n<2^n:=xbx _ (xbK n);rw[KG hx,h _ hx,hf]
theorem nO(x:Nat):fB n ws (x%2^n)=fB n ws x:=by unfold fB;rw[Nat.mod_mod]
theorem jU{x:Nat}(hx:x<2^n):(ws.getD (x/64) 0).testBit (x%64)=fB n ws x:=by
 unfold fB bit;rw[xa5 hx]
theorem Bf{j:Nat}(hj:j<64):(18446744073709551615:Nat).testBit j=true:=by
 have:(18446744073709551615:Nat)=2^64-1:=by decide
 rw[this,xc6];simpa using hj
theorem tq{w j:Nat}(hw:w<18446744073709551616)(hj:j<64):(18446744073709551615-w).testBit j= !w.testBit j:=by
 have e:(18446744073709551615-w)=2^64-(w+1):=by
  have:(2:Nat)^64=18446744073709551616:=by decide
  omega
 rw[e,xef (by
  have:(2:Nat)^64=18446744073709551616:=by decide
  omega)]
 simp[hj]
end aC
set_option maxRecDepth 100000
namespace Go.Proofs
open Go Go.Sx Tryz
section
open aC
section
variable {B:Hp}
def dM(B:Hp)(v:zV)(n:Nat)(f:aC.Fn):Prop:=∃ws,DD B v ⟨n,ws⟩/\ak.dA n ws/\fB n ws=f
theorem dM.mono{B B':Hp}{v:zV}{n:Nat}{f:aC.Fn}(h:dM B v n f)(hs:∀x∈B,x∈B'):dM B' v n f:=let ⟨ws,h1,h2,h3⟩:=h;⟨ws,h1.mono hs,h2,h3⟩
theorem Cp{n:Nat}(hn:n<=16)(B:Hp):Rd zQ 81 #[iv (n:Int)] B (· =iv 0):=by
 exact aK λg=>Mo (ae.lss (Br.F (ae.gW (b:=16) (Br.F (bD.mk (.refl _) rfl)))))
theorem DK{b:Bool}{p:zV}{i:Int}(hb:Go.Sx.At B p [.bool b]):Rd zQ 83 #[iv i,p] B (· =.int .u64 (((if b then 18446744073709551615 else 0:Nat)):Int)):=by
 refine aK λg=>Mm (Ld.at hb (λ_ h=>h) ?_);cases b
 ·exact Br.no (bD.mk (.refl _) rfl)
 exact Br.yes (bD.mk (.refl _) rfl)
theorem qU{n:Nat}(hn:n<=16)(b:Bool)(B:Hp):Px zQ 36 #[iv (n:Int),.bool b] B (λr H=>∃v,r=.tuple #[v,iv 0]/\dM H v n (λ_=>b)):=by
 refine aK λg=>MR λb1 _ b3 _=>?_;refine aa.eq (Cp hn _) (ae.ic (Br.F (aa.pq (nH hn rfl zK (F:=λ_=>if b then 18446744073709551615 else 0) (λi _=>by cases b<;>decide) (B:=(b1,.cells #[.bool b] 4 zZ)::B) λi _=>DK (Go.Sx.At.block (l:=[.bool b]) zM)) ?_)));rintro v N ⟨s,rfl,hw⟩;refine St.p ?_ ?_
 ·have:=bu hw;simpa[Value.oneCell']using this
 refine ax.q ?_;refine As.mk (by repeat (first|exact bG.refl _|apply bG.cons|apply bG.app)) ⟨_,rfl,_,⟨s,rfl,hw.mono zS⟩,gG hn,ji (λx hx=>?_) (λx=>rfl)⟩;cases b
 ·exact xcZ _
 exact Bf (xbx _ zD)
theorem N7{v i:Nat}{p:zV}(hv:v<64)(hi:i<9223372036854775808)(hb:Go.Sx.At B p [iv (v:Int)]):Rd zQ 84 #[iv (i:Int),p] B (· =.int .u64 ((if 6<=v then(if(i>>>(v-6)).testBit 0 then 18446744073709551615 else 0)else ak.mask v:Nat):Int)):=by
 refine aK λg=>Ml (Ld.at hb (λ_ h=>h) ?_);exact aa.eq (yw hv zO hi B) (bD.mk (.refl _) rfl)
theorem H7{n v:Nat}(hn:n<=16)(hv:v<n)(B:Hp):Px zQ 37 #[iv (n:Int),iv (v:Int)] B (λr H=>∃t,r=.tuple #[t,iv 0]/\dM H t n (λx=>x.testBit v)):=by
 refine aK λg=>MQ λb1 _ b3 _=>?_;refine aa.eq (Cp hn _) (ae.ic (Br.F (Ld.q ?_)));refine ae.lss ?_;rw[xap zO];refine cz.or (a:=false) false (λ_=>?_) rfl λgs=>Br.no ?_
 ·refine Ld.q ?_;exact ae.kM ⟨rfl,by rw[xap zO]⟩
 have Dp:=ak.tI hn;refine aa.pq (nH hn rfl zK (F:=λi=>if 6<=v then(if(i>>>(v-6)).testBit 0 then 18446744073709551615 else 0)else ak.mask v) (λi _=>by
  have:=ak.zl v;split
  ·split<;>decide
  exact this) (B:=(b1,.cells #[iv (v:Int)] 3 zZ)::B) λi hi=>N7 zO zO (Go.Sx.At.block (l:=[iv (v:Int)]) zM)) ?_
 rintro w N ⟨s,rfl,hw⟩;refine St.p ?_ ?_
 ·have:=bu hw;simpa[Value.oneCell']using this
 refine ax.q ?_;refine As.mk (by repeat (first|exact bG.refl _|apply bG.cons|apply bG.app)) ⟨_,rfl,_,⟨s,rfl,hw.mono zS⟩,gG hn,ji (λx hx=>?_) (λx=>?_)⟩
 ·have hj:x%64<64:=xbx _ zD;have XF:x=64*(x/64)+x%64:=by omega
  by_cases h6:6<=v
  ·rw[xae h6];have e:x.testBit v=((x/64)>>>(v-6)).testBit 0:=by
    rw[xbh,xbY];have:=Nat.testBit_div_two_pow (n:=6) x (v-6);rw[show(2:Nat)^6=64 from rfl]at this;rw[this];congr 1;omega
   rw[e];cases ((x/64)>>>(v-6)).testBit 0
   ·exact xcZ _
   exact Bf hj
  rw[xac h6,ak.fV];have:=xbl x 6 v;rw[show(2:Nat)^6=64 from rfl]at this;rw[this];simp[hj];omega
 rw[xbl];simp[hv]
end
end
section
open aC
section
variable {B:Hp}
theorem ew{n i:Nat}{ws:zL}(hf:ak.dA n ws):ws.getD i 0<18446744073709551616:=by
 by_cases h:i<ws.length
 ·rw[xan,xab h];exact hf.lt (xaF h)
 rw[xan,xaJ zO];decide
theorem jg{n i:Nat}{ws:zL}(hf:ak.dA n ws)(hi:i<ak.wN n):ws[i]? =some (ws.getD i 0):=by
 rw[xan,xab (by rw[hf.len];exact hi)];rfl
theorem Oe{pa s:zV}{n i:Nat}{ws:zL}(ha:Go.Sx.At B pa [iv (n:Int),s])(hw:Words B s ws)(hf:ak.dA n ws)(hi:i<ak.wN n):
  Rd zQ 86 #[iv (i:Int),pa] B (· =.int .u64 ((18446744073709551615-ws.getD i 0:Nat):Int)):=by
 refine aK λg=>Mi (af.at ha λq hq=>Ld.at hq (λ_ h=>h) ?_);refine hw.1.ld (cr (jg hf hi)) (λ_ h=>h) ?_;exact Un.JC (ew hf) (bD.mk (.refl _) rfl)
theorem Te{v:zV}{n:Nat}{f:aC.Fn}(ht:dM B v n f):Px zQ 38 #[v] B (λr H=>∃t,r=.tuple #[t,iv 0]/\dM H t n (λx=> !f x)):=by
 obtain⟨ws,⟨s,rfl,hw⟩,hf,rfl⟩:=ht;refine aK λg=>MP λb1 _ b3 _=>?_;refine ax.q ?_;refine kF λbx=>?_;refine aa.rd .here (jh (t:=⟨n,ws⟩) (by exact .head _) (hw.mono zS)) ?_;rintro w rfl;rw[xau (show TF ⟨(n:Int),ws⟩from⟨by simp,by simpa using hf⟩)];refine Un.not (Br.no (Ld.f ?_));refine aa.pre (H':=(b3,.cells #[iv 0,.slice none 0 0] 30 zZ)::(b1,.cells #[iv (n:Int),s] 30 zZ)::B) .tail ?_;refine aa.pq (nH hf.si rfl zK (F:=λi=>18446744073709551615-ws.getD i 0) (λi _=>by omega) (B:=(b1,.cells #[iv (n:Int),s] 30 zZ)::B) λi hi=>Oe (Go.Sx.At.block (l:=[iv (n:Int),s]) zM) (hw.mono zS) hf hi) ?_;rintro w N ⟨s',rfl,hw'⟩;refine St.p ?_ ?_
 ·have:=bu hw';simpa[Value.oneCell']using this
 refine ax.q ?_;refine As.mk (by repeat (first|exact bG.refl _|apply bG.cons|apply bG.app)) ⟨_,rfl,_,⟨s',rfl,hw'.mono zS⟩,gG hf.si,ji (λx hx=>?_) (λx=>by rw[nO])⟩;rw[tq (ew hf) (xbx _ zD),jU hx]
def vA(op w u:Nat):Nat->Nat
 |0=>0
 |k+1=>if op.testBit k then vA op w u k|||([(18446744073709551615-w) &&& (18446744073709551615-u),(18446744073709551615-w) &&&u,w&&& (18446744073709551615-u),w&&&u].getD k 0)else vA op w u k
theorem Iy{w u k:Nat}(hw:w<18446744073709551616)(hu:u<18446744073709551616):[(18446744073709551615-w) &&& (18446744073709551615-u),(18446744073709551615-w) &&&u,w&&& (18446744073709551615-u),w&&&u].getD k 0<18446744073709551616:=by
 have h1:∀a b:Nat,a<18446744073709551616->a&&&b<18446744073709551616:=λa b h=>xaE xcd h
 match k with
 |0=>exact h1 _ _ zO
 |1=>exact h1 _ _ zO
 |2=>exact h1 _ _ hw
 |3=>exact h1 _ _ hw
 |k+4=>exact(by decide:(0:Nat)<18446744073709551616)
theorem tH{op w u:Nat}(hw:w<18446744073709551616)(hu:u<18446744073709551616):∀k,vA op w u k<18446744073709551616
 |0=>by show(0:Nat)<18446744073709551616;decide
 |k+1=>by
  unfold vA;split
  ·exact xb8 (n:=64) (tH hw hu k) (Iy hw hu)
  exact tH hw hu k
theorem RM{op w u j:Nat}(hw:w<18446744073709551616)(hu:u<18446744073709551616)(hj:j<64):(vA op w u 4).testBit j=Np op (w.testBit j) (u.testBit j):=by
 have nw:=tq hw hj;have nu:=tq hu hj;simp only[vA,List.getD_cons_zero,List.getD_cons_succ];unfold Np;cases h0:op.testBit 0<;>cases h1:op.testBit 1<;>cases h2:op.testBit 2<;>cases h3:op.testBit 3<;>simp only[xa7,xaD,xaT,xcw,xa8,nw,nu,xcZ]<;>cases w.testBit j<;>cases u.testBit j<;>simp[h0,h1,h2,h3]
theorem Og{p1 p2 p3 s1 s2:zV}{n i op:Nat}{ws us:zL}(h1:Go.Sx.At B p1 [iv (n:Int),s1])(h2:Go.Sx.At B p2 [iv (n:Int),s2])(h3:Go.Sx.At B p3 [.int .u8 (op:Int)])(hw:Words B s1 ws)(hu:Words B s2 us)(hf:ak.dA n ws)(hg:ak.dA n us)(hop:op<16)(hi:i<ak.wN n):
  Rd zQ 87 #[iv (i:Int),p1,p2,p3] B (· =.int .u64 ((vA op (ws.getD i 0) (us.getD i 0) 4:Nat):Int)):=by
 have lw:=ew (i:=i) hf;have lu:=ew (i:=i) hg;refine aK λg=>Mh (af.at h1 λq hq=>Ld.at hq (λ_ h=>h) ?_);refine hw.1.ld (cr (jg hf hi)) (λ_ h=>h) ?_;refine af.at h2 λq hq=>Ld.at hq (λ_ h=>h) ?_;refine hu.1.ld (cr (jg hg hi)) (λ_ h=>h) ?_;generalize ws.getD i 0=w at*;generalize us.getD i 0=u at*;refine Un.JC lw (Un.JC lu ?_);refine ae.fm (by simp only[aS];omega) (by simp only[aS];omega) (Un.JC lw ?_);refine ae.fm (by simp only[aS];omega) (by simp only[aS];omega) (Un.JC lu ?_);refine ae.fm (by simp only[aS];omega) (by simp only[aS];omega) (ae.fm (by simp only[aS];omega) (by simp only[aS];omega) (aj.aas (e:=33) zK zK zK λbx=>?_));obtain⟨ps,hps⟩:∃ps,ps=[(18446744073709551615-w) &&& (18446744073709551615-u),(18446744073709551615-w) &&&u,w&&& (18446744073709551615-u),w&&&u]:=⟨_,rfl⟩;have hI:er .u64 [(bx,Obj.cells (aA .u64 (iw ps)) 33 zZ)] (.slice (some ⟨bx,0,none⟩) 4 4) (iw ps):=by
  have:=(aR.made (T:=33) (kd:=.u64) (b:=bx) (iw ps)).ints;have hl:(iw ps).length=4:=by rw[hps];rfl
  rw[hl]at this;exact this
 have mq:ps.length=4:=by rw[hps];rfl
 have hH:(bx,Obj.cells (aA .u64 [((((18446744073709551615-w) &&& (18446744073709551615-u):Nat)):Int),((((18446744073709551615-w) &&&u:Nat)):Int),(((w&&& (18446744073709551615-u):Nat)):Int),((w&&&u:Nat):Int)]) 33 zZ)=(bx,Obj.cells (aA .u64 (iw ps)) 33 zZ):=by rw[hps];rfl
 rw[hH];refine aE.mk ?_;refine⟨λvs H=>∃k:Nat,vs=[.int .u64 ((vA op w u k:Nat):Int),iv (k:Int)]/\k<=4/\H=(bx,Obj.cells (aA .u64 (iw ps)) 33 zZ)::B,λvs _=>4-bA vs 1,JE.mk ⟨0,rfl,by omega,rfl⟩,?_⟩;rintro w24 w25 H ⟨k,⟨⟩,hk,rfl⟩ gs;refine ae.cX (b:=4) (Br.dec (λhlt=>?_) (λhlt=>?_))
 ·intro J hJ;refine hI.ld (n:=((ps.getD k 0:Nat):Int)) (bX zO) (λ_ h=>by simp at h;rw[h];exact .head _) (Ld.at h3 (λ_ h=>.tail _ h) ?_);refine ae.e9 (by simp only[aS];omega) (ae.fm (b:=1) (by have:=xbC op k;simp only[aS];omega) zD ?_);have Lf:(op>>>k) &&&1=(op.testBit k).toNat:=by
   rw[ak.eH,xbh,xbY];cases op.testBit k<;>rfl
  rw[Lf];refine ae.bB (b:=1) ?_;have aex:ps.getD k 0<18446744073709551616:=by rw[hps];exact Iy lw lu
  cases hb:op.testBit k with
  |true=>
   refine Br.T (ae.No (by simpa only[aS]using tH lw lu k) (by simpa only[aS]using aex) (JE.mk (hJ _ _ λgs=>?_)));exact ae.inc (az.mk ⟨k+1,by rw[vA,xae hb,hps],by omega,rfl⟩ (by simp only[bA];omega))
  |false=>
   refine Br.F (JE.mk (hJ _ _ λgs=>?_));exact ae.inc (az.mk ⟨k+1,by rw[vA,xac (by rw[hb];decide)],by omega,rfl⟩ (by simp only[bA];omega))
 obtain rfl:k=4:=by omega
 exact bD.mk .tail rfl
theorem ZX{bx n:Nat}{s1 s2:zV}{ws us:zL}(h1:Words B s1 ws)(h2:Words B s2 us):iq ((bx,.cells (rows [[iv (n:Int),s1],[iv (n:Int),s2]]) 30 zZ)::B) (.slice (some ⟨bx,0,none⟩) 2 2) [⟨n,ws⟩,⟨n,us⟩]:=by
 refine⟨[[iv (n:Int),s1],[iv (n:Int),s2]],(Sl.fZ (aM.made (T:=30) (k:=2) (b:=bx) _ zI) zD).mono λ_ h=>by simp at h;rw[h];exact .head _,rfl,λi r x hr hx=>?_⟩
 match i with
 |0=>simp at hr hx;subst hr;subst hx;exact⟨s1,rfl,h1.mono λ_ h=>.tail _ h⟩
 |1=>simp at hr hx;subst hr;subst hx;exact⟨s2,rfl,h2.mono λ_ h=>.tail _ h⟩
 |i+2=>simp at hr
theorem pI{v1 v2:zV}{n op:Nat}{f1 f2:aC.Fn}(hop:op<16)(h1:dM B v1 n f1)(h2:dM B v2 n f2):Px zQ 39 #[.int .u8 (op:Int),v1,v2] B (λr H=>∃t,r=.tuple #[t,iv 0]/\dM H t n (λx=>Np op (f1 x) (f2 x))):=by
 obtain⟨ws,⟨s1,rfl,hw⟩,hf,rfl⟩:=h1;obtain⟨us,⟨s2,rfl,hu⟩,hg,rfl⟩:=h2;refine aK λg=>MO λb1 _ b3 _ b5 _ b7 _=>?_;refine Ld.q ?_;refine ae.gW (b:=15) (Br.F (ax.q ?_));refine ax.q ?_;refine aj.Xo (e:=30) (z:=.agg #[iv 0,.slice none 0 0]) zK zK zK λbx=>?_;refine aa.rd .here (u3 (ZX (n:=n) (hw.mono zS) (hu.mono zS)) (by show 2<2^62;decide)) ?_;rintro w rfl;rw[xau (by
  intro t ht;simp only[xag,xaw,xaZ]at ht;rcases ht with rfl|rfl
  ·exact⟨⟨by simp,by simpa using hf⟩,rfl⟩
  exact⟨⟨by simp,by simpa using hg⟩,rfl⟩)]
 refine Un.not (Br.no (Ld.f ?_));refine aa.pre (H':=(b7,.cells #[iv 0,.slice none 0 0] 30 zZ)::(b5,.cells #[iv (n:Int),s2] 30 zZ)::(b3,.cells #[iv (n:Int),s1] 30 zZ)::(b1,.cells #[.int .u8 (op:Int)] 5 zZ)::B) .tail ?_;refine aa.pq (nH hf.si rfl zK (F:=λi=>vA op (ws.getD i 0) (us.getD i 0) 4) (λi _=>tH (ew hf) (ew hg) 4) (B:=(b5,.cells #[iv (n:Int),s2] 30 zZ)::(b3,.cells #[iv (n:Int),s1] 30 zZ)::(b1,.cells #[.int .u8 (op:Int)] 5 zZ)::B)
  λi hi=>Og (Go.Sx.At.block (l:=[iv (n:Int),s1]) zM) (Go.Sx.At.block (l:=[iv (n:Int),s2]) zM) (Go.Sx.At.block (l:=[.int .u8 (op:Int)]) zM) (hw.mono zS) (hu.mono zS) hf hg hop hi) ?_
 rintro w N ⟨s',rfl,hw'⟩;refine St.p ?_ ?_
 ·have:=bu hw';simpa[Value.oneCell']using this
 refine ax.q ?_;refine As.mk (by repeat (first|exact bG.refl _|apply bG.cons|apply bG.app)) ⟨_,rfl,_,⟨s',rfl,hw'.mono zS⟩,gG hf.si,ji (λx hx=>?_) (λx=>by rw[nO,nO])⟩;rw[RM (ew hf) (ew hg) (xbx _ zD),jU hx,jU hx]
theorem Of{p1 p2 p3 s1 s2 s3:zV}{n i:Nat}{ws us rs:zL}(h1:Go.Sx.At B p1 [iv (n:Int),s1])(h2:Go.Sx.At B p2 [iv (n:Int),s2])(h3:Go.Sx.At B p3 [iv (n:Int),s3])(hw:Words B s1 ws)(hu:Words B s2 us)(hr:Words B s3 rs)(hf:ak.dA n ws)(hg:ak.dA n us)(hh:ak.dA n rs)(hi:i<ak.wN n):
  Rd zQ 88 #[iv (i:Int),p1,p2,p3] B (· =.int .u64 (((ws.getD i 0&&&us.getD i 0)|||((18446744073709551615-ws.getD i 0) &&&rs.getD i 0):Nat):Int)):=by
 have lw:=ew (i:=i) hf;have lu:=ew (i:=i) hg;have lr:=ew (i:=i) hh;refine aK λg=>Mg (af.at h1 λq hq=>Ld.at hq (λ_ h=>h) ?_);refine hw.1.ld (cr (jg hf hi)) (λ_ h=>h) ?_;refine af.at h2 λq hq=>Ld.at hq (λ_ h=>h) ?_;refine hu.1.ld (cr (jg hg hi)) (λ_ h=>h) ?_;refine ae.fm (by simpa only[aS]using lw) (by simpa only[aS]using lu) (af.at h1 λq hq=>Ld.at hq (λ_ h=>h) ?_);refine hw.1.ld (cr (jg hf hi)) (λ_ h=>h) ?_;refine Un.JC lw ?_;refine af.at h3 λq hq=>Ld.at hq (λ_ h=>h) ?_;refine hr.1.ld (cr (jg hh hi)) (λ_ h=>h) ?_;exact ae.fm (by simp only[aS];omega) (by simpa only[aS]using lr) (ae.No (xaE xcd (by simpa only[aS]using lw)) (xaE xcd (by simp only[aS];omega)) (bD.mk (.refl _) rfl))
theorem ZW{bx n:Nat}{s1 s2 s3:zV}{ws us rs:zL}(h1:Words B s1 ws)(h2:Words B s2 us)(h3:Words B s3 rs):iq ((bx,.cells (rows [[iv (n:Int),s1],[iv (n:Int),s2],[iv (n:Int),s3]]) 30 zZ)::B) (.slice (some ⟨bx,0,none⟩) 3 3) [⟨n,ws⟩,⟨n,us⟩,⟨n,rs⟩]:=by
 refine⟨[[iv (n:Int),s1],[iv (n:Int),s2],[iv (n:Int),s3]],(Sl.fZ (aM.made (T:=30) (k:=2) (b:=bx) _ zI) zD).mono λ_ h=>by simp at h;rw[h];exact .head _,rfl,λi r x hr hx=>?_⟩
 match i with
 |0=>simp at hr hx;subst hr;subst hx;exact⟨s1,rfl,h1.mono λ_ h=>.tail _ h⟩
 |1=>simp at hr hx;subst hr;subst hx;exact⟨s2,rfl,h2.mono λ_ h=>.tail _ h⟩
 |2=>simp at hr hx;subst hr;subst hx;exact⟨s3,rfl,h3.mono λ_ h=>.tail _ h⟩
 |i+3=>simp at hr
theorem Ic{v1 v2 v3:zV}{n:Nat}{f1 f2 f3:aC.Fn}(h1:dM B v1 n f1)(h2:dM B v2 n f2)(h3:dM B v3 n f3):Px zQ 40 #[v1,v2,v3] B (λr H=>∃t,r=.tuple #[t,iv 0]/\dM H t n (λx=>if f1 x then f2 x else f3 x)):=by
 obtain⟨ws,⟨s1,rfl,hw⟩,hf,rfl⟩:=h1;obtain⟨us,⟨s2,rfl,hu⟩,hg,rfl⟩:=h2;obtain⟨rs,⟨s3,rfl,hr⟩,hh,rfl⟩:=h3;refine aK λg=>MN λb1 _ b3 _ b5 _ b7 _=>?_;refine ax.q ?_;refine ax.q ?_;refine ax.q ?_;refine aj.Xn (e:=30) (z:=.agg #[iv 0,.slice none 0 0]) zK zK zK λbx=>?_;refine aa.rd .here (u3 (ZW (n:=n) (hw.mono zS) (hu.mono zS) (hr.mono zS)) (by show 3<2^62;decide)) ?_;rintro w rfl;rw[xau (by
  intro t ht;simp only[xag,xaw,xaZ]at ht;rcases ht with rfl|rfl|rfl
  ·exact⟨⟨by simp,by simpa using hf⟩,rfl⟩
  ·exact⟨⟨by simp,by simpa using hg⟩,rfl⟩
  exact⟨⟨by simp,by simpa using hh⟩,rfl⟩)]
 refine Un.not (Br.no (Ld.f ?_));refine aa.pre (H':=(b7,.cells #[iv 0,.slice none 0 0] 30 zZ)::(b5,.cells #[iv (n:Int),s3] 30 zZ)::(b3,.cells #[iv (n:Int),s2] 30 zZ)::(b1,.cells #[iv (n:Int),s1] 30 zZ)::B) .tail ?_;have ol:∀i,(ws.getD i 0&&&us.getD i 0)|||((18446744073709551615-ws.getD i 0) &&&rs.getD i 0)<18446744073709551616:=λi=>
  xb8 (n:=64) (xaE xcd (ew hf)) (xaE xb3 (ew hh))
 refine aa.pq (nH hf.si rfl zK (F:=λi=>(ws.getD i 0&&&us.getD i 0)|||((18446744073709551615-ws.getD i 0) &&&rs.getD i 0)) (λi _=>ol i) (B:=(b5,.cells #[iv (n:Int),s3] 30 zZ)::(b3,.cells #[iv (n:Int),s2] 30 zZ)::(b1,.cells #[iv (n:Int),s1] 30 zZ)::B)
  λi hi=>Of (Go.Sx.At.block (l:=[iv (n:Int),s1]) zM) (Go.Sx.At.block (l:=[iv (n:Int),s2]) zM) (Go.Sx.At.block (l:=[iv (n:Int),s3]) zM) (hw.mono zS) (hu.mono zS) (hr.mono zS) hf hg hh hi) ?_
 rintro w N ⟨s',rfl,hw'⟩;refine St.p ?_ ?_
 ·have:=bu hw';simpa[Value.oneCell']using this
 refine ax.q ?_;refine As.mk (by repeat (first|exact bG.refl _|apply bG.cons|apply bG.app)) ⟨_,rfl,_,⟨s',rfl,hw'.mono zS⟩,gG hf.si,ji (λx hx=>?_) (λx=>by rw[nO,nO,nO])⟩;rw[xcw,xa8,xa8,tq (ew hf) (xbx _ zD),jU hx,jU hx,jU hx];cases fB n ws x<;>cases fB n us x<;>cases fB n rs x<;>rfl
end
end
end Go.Proofs
namespace Go.Sx
open Go
section
variable {P:Program} {g:Gh} {H C:Hp} {c:Hp->Hp}
theorem ae.wI{kd:IntKind}{a b:Nat}{k:zV->Prop}(hb:b≠0)(h:k (.int kd ((a%b:Nat):Int))):ae .num .rem (.int kd a) (.int kd b) k:=
 ae.VL zO rfl (by have:((a:Int)).tmod (b:Int)=((a%b:Nat):Int):=rfl;rw[this];exact h)
end
end Go.Sx
set_option maxRecDepth 100000
namespace Go.Proofs
open Go Go.Sx Tryz
open aC
section
variable {kp gb n:Nat} {vr vf:zV} {refs:zL} {fs:List (zL)} {K:Kd} {S:Nat->aC.Fn} {ord ag tr:zL} {C B:Hp}
theorem y9{a b:zV}{f f':aC.Fn}(h1:dM B a n f)(h2:dM B b n f'):Rd zQ 10 #[a,b] B (λr=>∃x:Bool,r=.bool x/\(x=true↔f=f')):=by
 obtain⟨ws,⟨s1,rfl,hw⟩,hf,rfl⟩:=h1;obtain⟨us,⟨s2,rfl,hu⟩,hg,rfl⟩:=h2;have Uu:=hf.len;have hlu:=hg.len;have Dp:=ak.tI hf.si;refine aK λg=>Nj λb1 _ b3 _=>?_;refine Ld.f ?_;refine Ld.f ?_;refine ae.jD ?_;rw[xap zI];refine cz.or (a:=false) false (λ_=>?_) rfl λgs=>Br.no ?_
 ·refine Ld.f ?_;refine hw.1.bE ?_;refine Ld.f ?_;refine hu.1.bE ?_;rw[an,an];refine ae.jD ⟨rfl,?_⟩;simp only;rw[xap];show¬ws.length≠us.length;omega
 refine⟨λvs H=>∃i:Nat,vs=[iv (i:Int)]/\i<=ws.length/\H=(b3,.cells #[iv (n:Int),s2] 30 zZ)::(b1,.cells #[iv (n:Int),s1] 30 zZ)::B/\ws.take i=us.take i,λvs _=>ws.length-bA vs 0,JE.mk ⟨0,rfl,xaA _,rfl,rfl⟩,?_⟩;rintro w23 H ⟨i,⟨⟩,hi,rfl,kA⟩ gs;refine Ld.f ?_;refine hw.1.bE ?_;rw[an];show ae .num .lss (iv (i:Int)) (iv ((ws.length:Nat):Int)) _;refine ae.cX (Br.dec (λhlt=>?_) (λhlt=>?_))
 ·have s7:i<us.length:=by omega
  refine Ld.f ?_;refine hw.1.ld (cr (xab hlt)) (λ_ h=>.tail _ (.tail _ h)) ?_;refine Ld.f ?_;refine hu.1.ld (cr (xab s7)) (λ_ h=>.tail _ (.tail _ h)) ?_;refine ae.jD (Br.dec (λhne=>?_) (λhne=>?_))
  ·refine bD.mk (.skip .tail) ⟨false,rfl,by simp;intro h;exact hne (by have e:=Ad hf hg h;subst e;rfl)⟩
  refine ae.inc (az.mk ⟨i+1,rfl,hlt,rfl,?_⟩ (by simp only[bA];omega));rw[xa4 hlt,xa4 s7,kA];congr 2;exact xaY hne
 obtain rfl:i=ws.length:=by omega
 rw[xbe,show ws.length=us.length by omega,xbe]at kA;exact bD.mk (.skip .tail) ⟨true,rfl,by simp[kA]⟩
end
end Go.Proofs
namespace Go.Sx
open Go
section
variable {P:Program} {g:Gh} {H B:Hp} {c:Hp->Hp}
theorem aF.gU{x:Nat×Obj}(h:x∈H):aF H [x]:=by
 obtain⟨A,D,rfl⟩:=xc3 h;exact .bN (aF.left (A:=[x]))
end
end Go.Sx
set_option maxRecDepth 100000
namespace Go.Proofs
open Go Go.Sx Tryz
section
open aC
section
variable {kp gb n:Nat} {vr vf:zV} {refs:zL} {fs:List (zL)} {K:Kd} {S:Nat->aC.Fn} {ord ag tr:zL} {C B:Hp}
theorem cT.perm(hK:cT kp K S ord ag tr C):ord.Perm (List.range K.n):=by
 have sY:=hK.od;refine jI ?_ (λx hx=>?_) (by rw[xaK,sY.len];exact xal _)
 ·refine List.pairwise_iff_getElem.2 λi j hi hj hij e=>?_;have g1:=(sY.at' i (by rw[<-sY.len];exact hi)).2;have g2:=(sY.at' j (by rw[<-sY.len];exact hj)).2;rw[xan,xab hi,e]at g1;rw[xan,xab hj]at g2;omega
 obtain⟨i,hi,rfl⟩:=xbB.1 hx;rw[sY.len]at hi;have:=(sY.at' i hi).1;rw[xan,xab (by rw[sY.len];exact hi)]at this;exact xaO.2 this
end
end
section
open aC
theorem OY{B:Hp}{v1 v2:zV}{p q:zL}{n:Nat}(h1:er .i64 B v1 (iw p))(h2:er .i64 B v2 (iw q))(hp:p.Perm (List.range n))(hq:q.Perm (List.range n))(hn:n<=64):
  Fc zQ 144 #[v1,v2] B (λr H=>∃s C,r=.tuple #[s,iv 0]/\H=C++B/\aR 3 .i64 s (iw (path p q)) C):=by
 have e1:p.length=n:=by rw[hp.length_eq,xaK]
 have e2:q.length=n:=by rw[hq.length_eq,xaK]
 have gw:q.Nodup:=hq.nodup_iff.2 xbs;have hpq:=hp.trans hq.symm;refine aK λg=>G6 (aa.eq (Vh h1 h2 hp hq hn) (ae.ic (Br.F (aa.fq (vk h1 (by rw[an];omega)) ?_))));rintro va H ⟨CA,rfl,hA⟩;refine h2.bE ?_;rw[an];refine⟨λvs H=>∃(i:Nat) (w9:zV) (C N:Hp),vs=[w9,iv (i:Int)]/\i<=n/\H=C++(N++B)/\aR 3 .i64 w9 (iw (dN p q i)) C/\aR 3 .i64 va (iw (aJ p (dN p q i))) N,λvs _=>n-bA vs 1,
  JE.mk ⟨0,_,[],CA,rfl,xaA _,rfl,aR.nil,hA⟩,?_⟩
 rintro w9 w10 H ⟨i,u9,C,N,⟨⟩,hi,rfl,ho,hw⟩ gs;refine ae.cX (Br.dec (λhlt=>?_) (λhlt=>?_));rotate_left
 ·obtain rfl:i=q.length:=by omega
  exact aQ.mk (.cL .right _) ⟨w9,C,rfl,rfl,ho⟩
 have spec:=ja gw hpq i zO;obtain⟨s1,s2,s3⟩:=spec;obtain⟨s4,s5⟩:=s3 hlt;have ag3:=q9 gw hpq (i+1) zO;have mT:(i+1)*p.length<=64*64:=xcJ zO zO;refine h2.ld (n:=((q.getD i 0:Nat):Int)) (bX hlt) (λ_ h=>xaa _ (xaa _ h)) ?_;have hmem:q.getD i 0∈aJ p (dN p q i):=by
  have:q.getD i 0∈q:=by rw[xan,xab hlt];exact xaF _
  exact((jX s1).trans hpq).mem_iff.2 this
 refine aa.eq (JU hw.ints (by rw[an,e7];omega)) ?_;rw[xae (Pm.2 hmem),XD];refine⟨λvs H=>∃(j:Nat) (u9:zV) (P:zL) (C N:Hp),vs=[u9,iv (j:Int)]/\i<=j/\j<n/\P++EV i j=dN p q (i+1)/\H=C++(N++B)/\aR 3 .i64 u9 (iw P) C/\aR 3 .i64 va (iw (aJ p P)) N,λvs _=>bA vs 1,
  JE.mk ⟨YX (aJ p (dN p q i)) (q.getD i 0),w9,dN p q i,C,N,rfl,s4,by omega,rfl,rfl,ho,hw⟩,?_⟩
 rintro w22 w23 H ⟨j,u9,P,C2,N2,⟨⟩,hij,Sz,hP,rfl,BM,wS⟩ gs;refine ae.gW (Br.dec (λhgt=>?_) (λhgt=>?_))
 ·obtain⟨j,rfl⟩:∃k,j=k+1:=⟨j-1,by omega⟩;have hPl:P.length<=4096:=by
   have:=xca List.length hP;rw[xaf]at this;omega
  have hlen:(aJ p P).length=n:=by rw[e7,e1]
  refine DR.self (ae.cc (b:=1) ?_);rw[xb1];refine wS.ld (x:=(((aJ p P).getD (j+1) 0:Nat):Int)) (bX zO) (λ_ h=>xaa _ (xad _ h)) (ae.cc (b:=1) ?_);rw[xb1];refine wS.ld (x:=(((aJ p P).getD j 0:Nat):Int)) (bX zO) (λ_ h=>xaa _ (xad _ h)) (wS.mF (x:=(((aJ p P).getD (j+1) 0:Nat):Int)) (.app .left) (by rw[an];omega) λN3 hw3=>?_);refine hw3.mF (x:=(((aJ p P).getD j 0:Nat):Int)) (.app .left) (by rw[xbW,an];omega) λN4 hw4=>?_;have e:((iw (aJ p P)).set j (((aJ p P).getD (j+1) 0:Nat):Int)).set (j+1) (((aJ p P).getD j 0:Nat):Int)=iw (aJ p (P++[j])):=by
   rw[iL];unfold fT;rw[gj,gj]
  rw[e]at hw4;refine ae.cc (b:=1) ?_;rw[xb1];refine aj.int (e:=3) zK zK zK λbx=>?_;refine BM.mi (.cons .left) (by exact .head _) (by rw[an];omega) (by rw[an];omega) λv' C3 ho3=>?_;refine ae.cc (b:=1) ?_;rw[xb1];refine az.of .tail ⟨j,v',P++[j],C3,N4,rfl,by omega,by omega,?_,rfl,by rw[cj];exact ho3,hw4⟩ ?_
  ·rw[<-hP,qu (show i<=j by omega),xai];rfl
  simp only[bA];omega
 obtain rfl:j=i:=by omega
 rw[An (xal _),xaH]at hP;subst hP;exact ae.inc (az.of (.refl _) ⟨j+1,w22,C2,N2,rfl,by omega,rfl,BM,wS⟩ (by simp only[bA];omega))
def wk(b kp f d:Nat)(ok:Bool):Nat×Obj:=(b,.cells #[ptr kp,iv (f:Int),iv (d:Int),.bool ok] 267 zZ)
section
variable {kp b f d:Nat} {K:Kd} {S:Nat->aC.Fn} {ord tr:zL} {C:Hp}
theorem JI(h:At kp K S ord tr C):Fc zQ 178 #[ptr kp] C (λr H=>∃b,r=ptr b/\H=wk b kp tr.length 0 false::C):=by
 refine aK λg=>GI (aa.eq (vB h) (Build.mk (cs:=[ptr kp,iv ((tr.length:Nat):Int),iv 0,.bool false]) zK ?_));intro b _;exact aQ.here ⟨b,rfl,rfl⟩
theorem NM(h:At kp K S ord tr C){l:Nat}(hl:l+1<K.n)(iy:tr.length<17592186044416)(hf:kg K S ord l)(hd:d<4611686018427387904):
  Fc zQ 181 #[ptr b,iv (l:Int)] (wk b kp f d false::C) (λr H=>r=iv 0/\∃C',H=wk b kp f (d+1) false::C'/\At kp K S (fT ord l) (tr++[l]) C'):=by
 refine aK λg=>wg (Ld.n ?_);refine aa.fq (Jl h hl iy hf) ?_;rintro v C' ⟨rfl,h'⟩;intro J hJ;refine ae.lT (Br.T (Ld.n ?_));refine ae.inc (Nil.ptr (af.mk (St.one (by exact .head _) rfl zI rfl ?_)));exact JE.mk (hJ _ λgs=>aQ.here ⟨rfl,C',rfl,h'⟩)
theorem NN(h:At kp K S ord tr C){l:Nat}(hl:l+1<K.n)(iy:tr.length<17592186044416)(hf:¬kg K S ord l):
  Rd zQ 181 #[ptr b,iv (l:Int)] (wk b kp f d false::C) (· =iv 9):=by
 refine aK λg=>wg (Ld.n ?_);refine aa.eq (vD h hl iy hf) λJ hJ=>?_;exact ae.lT (Br.F (JE.mk (hJ _ λgs=>bD.mk (.refl _) rfl)))
theorem NV{ok:Bool}{path:zL}(h:At kp K S (aJ ord path) (tr++path) C)(hp:∀l∈path,l+1<K.n)(iy:(tr++path).length<17592186044416)(hd:d<4611686018427387904):
  Fc zQ 223 #[ptr b] (wk b kp tr.length d ok::C) (λr H=>r=.tuple #[]/\∃C',H=wk b kp tr.length (d+path.length) ok::C'/\At kp K S ord tr C'):=by
 have mq:path.length<17592186044416:=by rw[xaf]at iy;omega
 refine aK λg=>Gi (DR.of (R:=[wk b kp tr.length d ok]) (aF.left (A:=[_]) (B:=C)) (Ld.n ?_));refine Ld.n ?_;refine aa.fq (args:=#[ptr kp,iv ((tr.length+0:Nat):Int)]) (Vk h hp (xaA _) iy) ?_;rintro v C' ⟨rfl,h'⟩;rw[List.take_zero,xaH]at h';refine⟨aF.left (A:=[_]) (B:=C'),?_⟩;refine Ext.two (Ld.n ?_);refine ae.gL (Nil.ptr (af.mk (St.one (by exact .head _) rfl zI rfl ?_)));exact aQ.here ⟨rfl,C',rfl,h'⟩
theorem JF:Rd zQ 180 #[ptr b] (wk b kp f d true::C) (· =.tuple #[]):=by
 refine aK λg=>wh (Ld.n ?_);exact Un.not (Br.no (bD.mk (.refl _) rfl))
theorem JG{path:zL}(h:At kp K S (aJ ord path) (tr++path) C)(hp:∀l∈path,l+1<K.n)(iy:(tr++path).length<17592186044416)(hd:d<4611686018427387904):
  Fc zQ 180 #[ptr b] (wk b kp tr.length d false::C) (λr H=>r=.tuple #[]/\∃C',H=wk b kp tr.length (d+path.length) false::C'/\At kp K S ord tr C'):=by
 refine aK λg=>wh (Ld.n ?_);refine Un.not (Br.yes (aa.fq (NV h hp iy hd) ?_));rintro v H ⟨rfl,C',rfl,h'⟩;exact aQ.here ⟨rfl,C',rfl,h'⟩
theorem RU(h:At kp K S ord tr C){v:Nat}(hv:v<K.n):Rd zQ 136 #[ptr kp,iv (v:Int)] C (λr=>∃p,p<K.n/\ord.getD p 0=v/\r=.tuple #[iv (p:Int),iv 0]):=by
 obtain⟨K',S',fG,h,hk⟩:=h;obtain⟨b,rfl,hO⟩:=h.rep;have hn:=hO.sU;have n4:v<K'.n:=by rw[hk.n];exact hv
 have hlen:v<fG.length:=by rw[hO.ol.2];exact n4
 refine aK λg=>wu (ae.aG (Br.no (aa.eq (tt h.rep (v:Int)) ?_)));rw[xau zO];refine Un.not (Br.no (Ld.n ?_));refine hO.lv.ld (x:=((fG.getD v 0:Nat):Int)) (bX hlen) (br.sub (.cons (.app (.app (.app (.app (.app .left))))))) (bD.mk (.refl _) ⟨fG.getD v 0,?_,?_,rfl⟩)
 ·rw[<-hk.n];exact h.ok.lv.lt v n4
 exact h.od.of h.ok.lv n4
def Jr(kp:Nat)(K:Kd)(S:Nat->aC.Fn)(ord tr ls:zL)(r:zV)(C:Hp):Prop:=
 ((rm K S).can ord ls=true/\r=.tuple #[iv ((ls.length:Nat):Int),iv 0]/\At kp K S (aJ ord ls) (tr++ls) C)\/
 ((rm K S).can ord ls=false/\r=.tuple #[iv ((2*((rm K S).goes 0 ls ord).length:Nat):Int),iv 9]/\At kp K S ord tr C)
theorem TZ{Y:Hp}{v:zV}{ls:zL}(h:At kp K S ord tr C)(hI:er .i64 Y v (iw ls))(hp:∀l∈ls,l+1<K.n)(iy:tr.length+ls.length<17592186044416):
  Fc zQ 145 #[ptr kp,v] (Y++C) (λr H=>∃C',H=Y++C'/\Jr kp K S ord tr ls r C'):=by
 let m:=rm K S
 have hgl:=m.uW 0 ls ord;have hpt:∀i,∀l∈ls.take i,l+1<K.n:=λi l hl=>hp l (xcj hl);refine aK λg=>G5 λb1 _=>?_;refine aa.fq (JI h) ?_;rintro v3 H ⟨b,rfl,rfl⟩;intro b5 _;refine St.one (by exact .head _) rfl zI rfl ?_;refine hI.bE ?_;rw[an];refine⟨λvs H=>∃i C2,i<=(m.goes 0 ls ord).length/\vs=[iv (i:Int)]/\H=(b5,.cells #[ptr b] 264 zZ)::(b1,.cells #[iv 0] 3 zZ)::(Y++(wk b kp tr.length i false::C2))/\At kp K S (aJ ord (ls.take i)) (tr++ls.take i) C2,
  λvs _=>ls.length-bA vs 0,JE.mk ⟨0,C,xaA _,rfl,rfl,by simpa[aJ]using h⟩,?_⟩
 rintro ZR H ⟨i,C2,hi,⟨⟩,rfl,h2⟩ gs;have P6:(tr++ls.take i).length<17592186044416:=by rw[xaf,xbA];omega
 refine ae.cX (Br.dec (λhlt=>?_) (λhlt=>?_))
 ·refine hI.ld (n:=((ls.getD i 0:Nat):Int)) (bX hlt) (λ_ h=>.tail _ (.tail _ (xad _ h))) ?_;have eg:ls.getD i 0=ls[i]:=by rw[xan,xab hlt];rfl
  have x7:ls.getD i 0+1<K.n:=by rw[eg];exact hp _ (xaF hlt)
  have eq:ls[i]? =some (ls.getD i 0):=by rw[eg];exact xab hlt
  refine Ld.q ?_;by_cases hg:i<(m.goes 0 ls ord).length
  ·have hf:kg K S (aJ ord (ls.take i)) (ls.getD i 0):=uk.1 (m.QF hg eq);refine aa.fn (.cons (.cons (.app .here))) (NM h2 x7 P6 hf zO) ?_;rintro r H ⟨rfl,C3,rfl,h3⟩;refine ae.ic (Br.F (ae.inc (az.mk ⟨i+1,C3,hg,rfl,rfl,?_⟩ (by simp only[bA];omega))));have e:ls.take (i+1)=ls.take i++[ls.getD i 0]:=by rw[xbv,eq];rfl
   rw[e,iL,<-xai];exact h3
  obtain rfl:i=(m.goes 0 ls ord).length:=by omega
  have hf:¬kg K S (aJ ord (ls.take (m.goes 0 ls ord).length)) (ls.getD (m.goes 0 ls ord).length 0):=λhf=>by
   have h8:=m.Ll eq;have h9:=uk.2 hf;rw[show(rm K S).fit _ _=false from h8]at h9;cases h9
  refine aa.eq (NN h2 x7 P6 hf) (ae.ic (Br.T (St.one (by exact .tail (.head _)) rfl zI rfl ?_)));refine sN (R:=_) ?_;unfold L179;refine Ld.q ?_;refine aa.fn (.cons (.cons (.app .here))) (JG h2 (hpt _) P6 zO) ?_;rintro r H ⟨rfl,C3,rfl,h3⟩;refine Ld.q ?_;have eD:(m.goes 0 ls ord).length+(ls.take (m.goes 0 ls ord).length).length=2*(m.goes 0 ls ord).length:=by rw[xbA];omega
  rw[eD];refine Ld.n ?_;refine St.one (by exact .tail (.head _)) rfl zI rfl ?_;refine⟨⟨_,rfl⟩,?_⟩;refine Ld.q ?_;refine aQ.mk (.skip (.skip (.cL .tail _))) ⟨C3,rfl,.inr ⟨xap (show¬(m.goes 0 ls ord).length=ls.length by omega),rfl,h3⟩⟩
 have hil:i=ls.length:=by omega
 subst hil;rw[xbe]at h2;have hcan:(rm K S).can ord ls=true:=xau (show(m.goes 0 ls ord).length=ls.length by omega);refine Ld.q ?_;refine Nil.ptr (af.mk (St.one (cu.tail (cu.tail (cu.aO (.head _) _))) rfl zI rfl ?_));refine St.one (by exact .tail (.head _)) rfl zI rfl ?_;refine sN (R:=_) ?_;unfold L179;refine Ld.q ?_;refine aa.eq (B:=wk b kp tr.length ls.length true::C2) JF (Ld.q ?_);refine Ld.n ?_;refine St.one (by exact .tail (.head _)) rfl zI rfl ?_;refine⟨⟨_,rfl⟩,?_⟩;refine Ld.q ?_;refine aQ.mk (.skip (.skip (.cL .tail _))) ⟨C2,rfl,.inl ⟨hcan,rfl,h2⟩⟩
end
section
variable {kp b f d:Nat} {K:Kd} {S:Nat->aC.Fn} {ord tr:zL} {C:Hp}
theorem Jr.tup{ls:zL}{r:zV}(h:Jr kp K S ord tr ls r C):∃x y,r=.tuple #[x,y]:=by
 rcases h with⟨_,rfl,_⟩|⟨_,rfl,_⟩<;>exact⟨_,_,rfl⟩
theorem O9{Y:Hp}{v:zV}{q:zL}(h:At kp K S ord tr C)(hI:er .i64 Y v (iw q))(XN:ord.Perm (List.range K.n))(hpq:q.Perm (List.range K.n))(iy:tr.length<17454747090944):
  Fc zQ 110 #[ptr kp,v] (Y++C) (λr H=>∃C',H=Y++C'/\Jr kp K S ord tr (path ord q) r C'):=by
 have hn:=h.sU;have xZ:ord.length=K.n:=by rw[XN.length_eq,xaK]
 have hql:q.length=K.n:=by rw[hpq.length_eq,xaK]
 have gw:q.Nodup:=hpq.nodup_iff.2 xbs;refine aK λg=>HE (ae.aG (Br.no ?_));intro J2 IY;refine aa.rq (q8 hI (by rw[an];omega)) ?_;rintro r (⟨rfl,ha,hl⟩|⟨_,_,hl⟩|⟨_,hno⟩);rotate_left
 ·rw[an]at hl;omega
 ·exact absurd (vI hpq) hno
 refine ae.ic (Split.go zD ?_);refine hI.bE (aa.eq (nU h) (ae.jD ?_));rw[xap (by rw[an];omega)];refine aI.mk (JE.mk (IY _ _ λgs=>Br.no ?_));refine aa.fq (RT h) ?_;rintro vo H ⟨N,rfl,ho⟩;refine aa.pre (H':=(N++Y)++C) (.perm (by rw[xai,<-xai,<-xai];exact xa0.append_right C)) (aa.fq (OY (ho.ints.mono λ_ h=>xad _ h) (hI.mono λ_ h=>xaa _ h) XN hpq hn) ?_);rintro r H ⟨s,CP,rfl,rfl,hP⟩;refine Ext.mk rfl (Ext.mk rfl (ae.ic (Br.F ?_)));obtain⟨_,mq⟩:=zf gw (XN.trans hpq.symm);have agZ:(path ord q).length<=4096:=by
  have:=q9 gw (XN.trans hpq.symm) q.length (xal _);have h2:q.length*ord.length<=64*64:=xcJ zO zO;unfold path;omega
 refine aa.fq (TZ h (hP.ints.mono λ_ h=>xad _ h) (λx hx=>by have:=mq x hx;omega) zO) ?_;rintro r H ⟨C',rfl,hM⟩;obtain⟨x,y,rfl⟩:=hM.tup;refine Ext.two (aQ.mk ?_ ⟨C',rfl,hM⟩);rw[xai,xai];exact aF.right.trans .right
def T3(p:Nat):Nat->Nat->Nat
 |0,_=>p
 |_,k=>p-k
def K6(n p:Nat):Nat->Nat->Nat
 |0,k=>p+k
 |_,_=>n-1
end
end
end Go.Proofs
namespace aC
open ak
section
variable {n:Nat} {ord:zL} {L:ak.Fs}
theorem Pb{n v:Nat}{t:zL}(hn:n<=16)(hf:dA n t)(hv:v<n)(h:∀u,u<n->u≠v->¬fg (fB n t) u)(x:Nat):fB n t x=fB n t (aB 0 v (x.testBit v)):=by
 have key:∀b,fB n t (aB x v b)=fB n t (aB 0 v b):=λb=>by
  have e:=Ae hf hv b;have abb:=Q0 (n:=n) (ws:=fU n t v b) (λu hu=>by
   rw[e];rintro⟨y,hy⟩;simp only at hy;by_cases huv:u=v
   ·subst huv;rw[qX,qX]at hy;exact hy rfl
   rw[dk huv,dk huv]at hy;exact h u hu huv ⟨_,hy⟩)
  have:=abb x;rw[e]at this;exact this
 have:=key (x.testBit v);rwa [iN]at this
theorem Ps(hL:∀t∈L,dA n t)(hn:n<=16)(Ds:1<=n)(hp:ord.Perm (List.range n)):(pX n ord L (n-1)).length<=2:=by
 have xZ:ord.length=n:=by rw[hp.length_eq,xaK]
 have hmem:∀i,i<n->ord.getD i 0<n:=λi hi=>by
  have:ord.getD i 0∈ord:=by rw[xan,xab zO];exact xaF _
  exact xaO.1 (hp.mem_iff.1 this)
 have aD:∀u,u<n->∃j,j<n/\ord.getD j 0=u:=λu hu=>by
  obtain⟨j,hj,e⟩:=xbB.1 (hp.mem_iff.2 (xaO.2 hu));exact⟨j,by omega,by rw[xan,xab hj];exact e⟩
 have hv:=hmem (n-1) zO;have facts:∀t∈pX n ord L (n-1),dA n t/\(∀x,fB n t x=if x.testBit (ord.getD (n-1) 0)then !fB n t 0 else fB n t 0):=by
  intro t ht;obtain⟨h1,h2⟩:=mJ.1 ht;have hf:=nS hL hn (n-1) t h1;have mr:=(Ac hL hn hmem (n-1) zO (fB n t)).2 ⟨t,h1,rfl⟩;have hone:=Pb hn hf hv (λu hu hne=>by
   obtain⟨j,hj,e⟩:=aD u hu;rw[<-e];exact qg (n-1) _ mr j (by
    have:j≠n-1:=λh=>hne (by rw[<-e,h]);omega))
  have h0:fB n t (aB 0 (ord.getD (n-1) 0) false)=fB n t 0:=by
   have:=hone 0;rw[xcZ]at this;exact this.symm
  obtain⟨x,hx⟩:=(rE hf hv).2 h2;have e1:=hone (aB x (ord.getD (n-1) 0) false);have e2:=hone (aB x (ord.getD (n-1) 0) true);rw[ai,xae rfl]at e1 e2;rw[e1,e2,h0]at hx;refine⟨hf,λy=>?_⟩;rw[hone y];cases hb:y.testBit (ord.getD (n-1) 0)
  ·rw[h0];simp
  rw[xae rfl];have key:∀a b:Bool,a≠b->b= !a:=by decide
  exact key _ _ hx
 have gw:(pX n ord L (n-1)).Nodup:=(rI (n-1)).filter _;have h1:((pX n ord L (n-1)).map λt=>fB n t 0).Nodup:=by
  refine xb9.2 (gw.imp_of_mem λ{a b} ha hb hne heq=>hne ?_);obtain⟨fa,ga⟩:=facts a ha;obtain⟨fb,gb⟩:=facts b hb;exact Ad fa fb (funext λx=>by rw[ga,gb,heq])
 have:=bV h1 (l':=[true,false]) λb _=>by cases b<;>simp
 simpa using this
end
end aC
namespace aC
theorem q5{p j:Nat}(h:p<=j):road p (j+1)=road p j++[j]:=by
 unfold road;rw[show p-(j+1)=0 by omega,show p-j=0 by omega,show j+1-p=(j-p)+1 by omega,List.range'_concat];simp;omega
theorem q6{p j:Nat}(h:j<p):road p j=road p (j+1)++[j]:=by
 unfold road;rw[show j-p=0 by omega,show j+1-p=0 by omega,show p-j=(p-(j+1))+1 by omega,List.range'_succ];simp
theorem fN(p:Nat):road p p=[]:=by unfold road;simp
end aC
set_option maxRecDepth 100000
namespace Go.Proofs
open Go Go.Sx Tryz
section
open aC
section
variable {kp gb n:Nat} {vr vf:zV} {refs:zL} {fs:List (zL)} {K:Kd} {S:Nat->aC.Fn} {ord tr:zL} {C Z:Hp}
theorem tj{ord:zL}(hp:ord.Perm (List.range n)):∀i,i<n->ord.getD i 0<n:=λi hi=>by
 have xZ:ord.length=n:=by rw[hp.length_eq,xaK]
 have:ord.getD i 0∈ord:=by rw[xan,xab zO];exact xaF _
 exact xaO.1 (hp.mem_iff.1 this)
end
end
section
section
open Go.ChangeShapes Go.WideShapes Go.Deep
variable {H:Type} {enc:TypeId×zV->H} {W:World} {base:Nat} {spare:Nat->Bool} {held:Bool}
theorem T7{f:FuncId}{args:Array zV}{W:World}(h:Rd zQ f args (whole W) (· =.bool true)):
  Calls zQ f args W λe W'=>e=.returned (.bool true)/\Go.RowKit.Below W.heap.size W W':=
 Xx (h.mono λ_ _ ⟨h1,h2⟩=>⟨by rw[h1];exact .refl _,h2⟩)
end
end
end Go.Proofs
namespace Go.Sx
open Go
section
variable {P:Program} {g:Gh} {H:Hp} {K:zV->Hp->Prop} {KP:List PanicEntry->Hp->Prop}
theorem cU.panic{o:Oper}{ρ:Operand->zV}{x:Operand}{T:TypeId}{v:zV}(ho:o.op=.panic x)(hx:ρ x=.iface T v)(hk:KP [{v:=.iface T v,recovered:=false}] H):cU P g o ρ H K KP:=by
 intro w hw;have:(execOp ρ o).run P w=.halt (.panic (.iface T v)) w:=by
  simp only[execOp,ho,hx,Sem.run_bind,Instr.panic];rfl
 rw[this];exact⟨H,hw,hk⟩
theorem aZ.assert{o:Oper}{ρ:Operand->zV}{k:zV->Prop}{x:Operand}{xT T:TypeId}{v:zV}{d:TypeDesc}(ho:o.op=.typeAssert x xT T true)(hx:ρ x=.iface T v)(hd:P.underlying T=some d)(hi:∀m,d≠.interface m)
 (hk:k (.tuple #[v,.bool true])):aZ P g o ρ H k:=by
 refine⟨_,λw _=>?_,hk⟩;have:(Instr.typeAssert (.iface T v) xT T true).run P w=.ok (.tuple #[v,.bool true]) w:=by
  unfold Instr.typeAssert;simp only[Sem.run_bind,run_underlying hd,Result.andThen_ok];cases d<;>first|(exact absurd rfl (hi _))|simp
 simp only[execOp,ho,hx,Sem.run_bind,this,Result.andThen_ok,Sem.run_pure]
theorem aZ.zw{o:Oper}{ρ:Operand->zV}{k:zV->Prop}{x y:Operand}{t yt:TypeId}{a:zV}(ho:o.op=.binOp .neq t x y yt)(hx:ρ x=a)(hy:ρ y=.nilIface)(hd:∃m,P.underlying t=some (.interface m)){b:Bool}(ha:(a=.nilIface/\b=false/\∃v,y=.const v)\/∃T v,a=.iface T v/\b=true)
 (hk:k (.bool b)):aZ P g o ρ H k:=by
 obtain⟨m,hd⟩:=hd;refine⟨_,λw _=>?_,hk⟩;have e1:eqGuard .neq t x y a .nilIface=pure ():=by
  rcases ha with⟨rfl,_,v,rfl⟩|⟨T,v,rfl,_⟩
  ·unfold eqGuard;simp
  rfl
 have e2:(Op.equal t a .nilIface).run P w=.ok (!b) w:=by
  have key:∀n,(Op.equalIn (n+1) t a .nilIface).run P w=.ok (!b) w:=λn=>by
   unfold Op.equalIn;rcases ha with⟨rfl,rfl,_⟩|⟨T,v,rfl,rfl⟩<;>simp only[Sem.run_bind,run_underlying hd,Result.andThen_ok,Sem.run_pure]<;>rfl
  exact key 9999
 have e3:binOp .neq t a .nilIface=(do pure (.bool !(<-Op.equal t a .nilIface))):=by
  rcases ha with⟨rfl,_⟩|⟨T,v,rfl,_⟩<;>rfl
 have e4:(execOp ρ o).run P w=.ok (.value (.bool b)) w:=by
  simp only[execOp,ho,hx,hy,e1,e3,Sem.run_bind,Sem.run_pure,Result.andThen_ok,e2,Bool.not_not]
 exact e4
theorem aZ.mA{o:Oper}{ρ:Operand->zV}{k:zV->Prop}{x:Operand}{t:TypeId}{lo hi:Option Operand}{l:List UInt8}{i j:Nat}(ho:o.op=.slice t x lo hi none)(hd:P.underlying t=some .string)(hx:ρ x=aq l)
 (hlo:(lo=none/\i=0)\/∃q kd,lo=some q/\ρ q=.int kd (i:Int))(hhi:(hi=none/\j=l.length)\/∃q kd,hi=some q/\ρ q=.int kd (j:Int))(hij:i<=j)(hj:j<=l.length)(hk:k (aq ((l.take j).drop i))):aZ P g o ρ H k:=by
 refine⟨_,λw _=>?_,hk⟩;have sz:(⟨l.toArray⟩:ByteArray).size=l.length:=by simp[ByteArray.size]
 have cut:(⟨l.toArray⟩:ByteArray).extract i j=⟨((l.take j).drop i).toArray⟩:=by
  apply ByteArray.ext;rw[ByteArray.data_extract];apply xc1;simp[List.drop_take]
 have:(Instr.sliceAt t (aq l) (lo.map ρ) (hi.map ρ) none).run P w=.ok (aq ((l.take j).drop i)) w:=by
  have b1:∀kd cd,(Instr.sliceBound (.int kd (i:Int)) j cd).run P w=.ok i w:=λkd cd=>by simp[Instr.sliceBound,asIntOf,hij]
  have b2:∀kd cd,(Instr.sliceBound (.int kd (j:Int)) l.length cd).run P w=.ok j w:=λkd cd=>by simp[Instr.sliceBound,asIntOf,hj]
  rcases hlo with⟨rfl,rfl⟩|⟨q,kd,rfl,hq⟩<;>rcases hhi with⟨rfl,rfl⟩|⟨q2,kd2,rfl,tu⟩
  ·simp only[Instr.sliceAt,Instr.slice,Instr.sliceBounds,aq,Sem.run_bind,run_underlying hd,Result.andThen_ok,xce,xbj,xcg,xaD,xaT,Sem.run_pure,sz,b1,b2,  cut]
  ·simp only[Instr.sliceAt,Instr.slice,Instr.sliceBounds,aq,Sem.run_bind,run_underlying hd,Result.andThen_ok,xce,xbj,xcg,xaD,xaT,Sem.run_pure,sz,b1,b2,tu,cut]
  ·simp only[Instr.sliceAt,Instr.slice,Instr.sliceBounds,aq,Sem.run_bind,run_underlying hd,Result.andThen_ok,xce,xbj,xcg,xaD,xaT,Sem.run_pure,sz,b1,b2,hq,cut]
  simp only[Instr.sliceAt,Instr.slice,Instr.sliceBounds,aq,Sem.run_bind,run_underlying hd,Result.andThen_ok,xce,xbj,xcg,xaD,xaT,Sem.run_pure,sz,b1,b2,hq,tu,cut]
 simp only[execOp,ho,hx,Sem.run_bind,xce,this,Result.andThen_ok,Sem.run_pure]
theorem ug{w:World}(hw:Own g H w){b p:Nat}{s:ByteArray}{o':Obj}{H':Hp}(hu:cu b (.stringIter s p) o' H H'):∃w',(setObj b o').run P w=.ok () w'/\Own g H' w':=by
 have hm:w.heap[b]? =some (.stringIter s p):=hw.has _ hu.mem;have hlt:b<w.heap.size:=(xaR.1 hm).1;refine⟨{w with heap:=w.heap.setIfInBounds b o'},by simp[setObj,Sem.run,hm],?_⟩;refine hw.bT hu rfl rfl rfl ?_ λc hc=>?_
 ·simp[hlt]
 exact xbw (xbn hc)
theorem uh{w:World}(hw:Own g H w){b p:Nat}{s:ByteArray}(hm:(b,Obj.stringIter s p)∈H):(getObj b).run P w=.ok (.stringIter s p) w:=by
 have:=hw.has _ hm;simp only at this;simp[getObj,Sem.run,this]
theorem cU.OT{o:Oper}{ρ:Operand->zV}{x:Operand}{t:TypeId}{l:List UInt8}(ho:o.op=.range t x)(ht:P.underlying t=some .string)(hx:ρ x=aq l)(hk:∀b,K (.pointer (some ⟨b,0,none⟩)) ((b,.stringIter ⟨l.toArray⟩ 0)::H)):cU P g o ρ H K KP:=by
 refine cU.ofValue (s:=Instr.range t (aq l)) (by simp only[execOp,ho,hx]) λw hw=>?_;refine⟨_,w.alloc (.stringIter ⟨l.toArray⟩ 0),_,?_,hw.alloc _,hk w.heap.size⟩;simp only[Instr.range,aq,Sem.run_bind,run_underlying ht,Result.andThen_ok,Sem.run_pure];rfl
theorem cU.VP{o:Oper}{ρ:Operand->zV}{x:Operand}{b pos:Nat}{l:List UInt8}{C H:Hp}{c:Hp->Hp}(ho:o.op=.next x true)(hx:ρ x=.pointer (some ⟨b,0,none⟩))(hh:br [(b,.stringIter ⟨l.toArray⟩ pos)] H c)
 (h1:pos<l.length->K (.tuple #[.bool true,.int .i64 (pos:Int),.int .i32 ((Utf8.decode ⟨l.toArray⟩ pos).1:Int)]) (c [(b,.stringIter ⟨l.toArray⟩ (pos+(Utf8.decode ⟨l.toArray⟩ pos).2))]))
 (h2:l.length<=pos->K (.tuple #[.bool false]) H):cU P g o ρ H K KP:=by
 have sz:(⟨l.toArray⟩:ByteArray).size=l.length:=by simp[ByteArray.size]
 have hm:=hh.sub _ (xaG.2 rfl);refine cU.ofValue (s:=Instr.next (.pointer (some ⟨b,0,none⟩)) true o.type) (by simp only[execOp,ho,hx]) λw hw=>?_;have hg:=uh (P:=P) hw hm;by_cases hp:pos<l.length
 ·obtain⟨w',hs,cq⟩:=ug (P:=P) hw (hh.bT (cu.head (o':=.stringIter ⟨l.toArray⟩ (pos+(Utf8.decode ⟨l.toArray⟩ pos).2)) []));refine⟨_,w',_,?_,cq,h1 hp⟩;simp only[Instr.next,Sem.run_bind,hg,Result.andThen_ok,sz,hp,xa7,hs,Sem.run_pure,goInt]
 refine⟨_,w,H,?_,hw,h2 zO⟩;simp only[Instr.next,Sem.run_bind,hg,Result.andThen_ok,sz,hp,xaT,Sem.run_pure]
end
theorem yp{l:List UInt8}{pos:Nat}{b:UInt8}(h:l[pos]? =some b)(hb:b.toNat<128):Utf8.decode ⟨l.toArray⟩ pos=(b.toNat,1):=by
 have hg:(⟨l.toArray⟩:ByteArray).get! pos=b:=by
  have hlt:=(xah.1 h).1;have:l[pos]=b:=(xah.1 h).2;simp[ByteArray.get!,hlt,this]
 unfold Utf8.decode;simp only[xbY,hg,hb,xa7]
theorem yq{l:List UInt8}{pos:Nat}{b:UInt8}(h:l[pos]? =some b)(hb:128<=b.toNat):128<=(Utf8.decode ⟨l.toArray⟩ pos).1/\(Utf8.decode ⟨l.toArray⟩ pos).1<2147483648/\1<=(Utf8.decode ⟨l.toArray⟩ pos).2:=by
 have hg:(⟨l.toArray⟩:ByteArray).get! pos=b:=by
  have hlt:=(xah.1 h).1;have:l[pos]=b:=(xah.1 h).2;simp[ByteArray.get!,hlt,this]
 have h4:∀n:Nat,n%64<64:=λn=>xbx _ zD;unfold Utf8.decode;simp only[xbY,hg,show¬b.toNat<128 by omega,xaT]
 repeat' split
 all_goals first|(simp only[Utf8.runeError];omega)|skip
 all_goals
  rename_i h5;first|(have a1:=h4 ((⟨l.toArray⟩:ByteArray).get! (pos+1)).toNat;simp only[ge_iff_le]at h5⊢;omega)|skip
 all_goals
  simp only[ge_iff_le,xaC,xaP]at h5;have a1:=h4 ((⟨l.toArray⟩:ByteArray).get! (pos+1)).toNat;have a2:=h4 ((⟨l.toArray⟩:ByteArray).get! (pos+2)).toNat;have a3:=h4 ((⟨l.toArray⟩:ByteArray).get! (pos+3)).toNat;refine⟨by omega,by omega,by simp⟩
theorem aN.of{l:List UInt8}{k:zV->Prop}(h:k (.int .i64 (l.length:Int))):aN (aq l) k:=⟨⟨l.toArray⟩,rfl,by
 have:(⟨l.toArray⟩:ByteArray).size=l.length:=by simp[ByteArray.size]
 rw[this];exact h⟩
theorem ae.tT{a b:List UInt8}{k:zV->Prop}(h:k (.bool (decide (a=b)))):ae .str .eql (aq a) (aq b) k:=by
 refine⟨_,rfl,?_⟩;have:((⟨a.toArray⟩:ByteArray).toList==(⟨b.toArray⟩:ByteArray).toList)=decide (a=b):=by
  rw[<-beq_toListBytes,pL]
 rw[this];exact h
theorem ae.tU{a b:List UInt8}{k:zV->Prop}(hl:a.length+b.length<=9223372036854775807)(h:k (aq (a++b))):ae .str .add (aq a) (aq b) k:=by
 have e:(⟨a.toArray⟩:ByteArray)++⟨b.toArray⟩=⟨(a++b).toArray⟩:=by
  apply ByteArray.ext;simp
 refine⟨aq (a++b),?_,h⟩;unfold aq eX;have s1:(⟨a.toArray⟩:ByteArray).size=a.length:=by simp[ByteArray.size]
 have s2:(⟨b.toArray⟩:ByteArray).size=b.length:=by simp[ByteArray.size]
 simp only[s1,s2,hl,xa7,e]
theorem LY.nat{kd:IntKind}{a b:Nat}{k:zV->Prop}(h:k (.int kd ((min a b:Nat):Int))):LY (.int kd (a:Int)) (.int kd (b:Int)) k:=by
 refine⟨kd,a,b,rfl,rfl,?_⟩;have:(if(b:Int)<(a:Int)then(b:Int)else(a:Int))=((min a b:Nat):Int):=by split<;>omega
 rw[this];exact h
end Go.Sx
namespace Go.Proofs.Fm
structure Tok where
 k:Nat
 p:Nat
 v:Nat
def digit(b:UInt8):Bool:=decide (48<=b.toNat) &&decide (b.toNat<=57)
def num:Nat->Nat->List UInt8->Nat×Nat
 |n,k,[]=>(n,k)
 |n,k,b::r=>if digit b=false\/(k=1/\n=0)then(n,k)else num (min (10*n+(b.toNat-48)) 1048576) (k+1) r
def eu:List (List UInt8×Nat):=[([60,45,62],9),([45,62],8),([48],1),([49],2),([33],4),([38],5),([94],6),([124],7),([40],10),([41],11),([91],12),([63],13),([58],14),([93],15)]
def wF(l:List UInt8):List (List UInt8×Nat)->Option (Nat×Nat)
 | []=>none
 |s::r=>if s.1.isPrefixOf l=true then some (s.2,s.1.length)else wF l r
def kO:List UInt8->Option (Nat×Nat)
 |b::r=>if b=120/\0<(num 0 0 r).2 then some ((num 0 0 r).1,(num 0 0 r).2+1)else none
 | []=>none
def cD(l:List UInt8):Nat×Nat×Nat:=
 match kO l with
 |some (n,w)=>(3,n,w)
 |none=>match wF l eu with
  |some (k,w)=>(k,0,w)
  |none=>(16,0,0)
inductive dh:Nat->List UInt8->List Tok->Prop
 |fin {p:Nat}:dh p [] [⟨0,p,0⟩]
 |blank {p:Nat} {r:List UInt8} {o:List Tok}:dh (p+1) r o->dh p (32::r) o
 |wrong {p:Nat} {b:UInt8} {r:List UInt8}:b≠32->(cD (b::r)).1=16->dh p (b::r) [⟨16,p,0⟩]
 |tok {p:Nat} {b:UInt8} {r:List UInt8} {o:List Tok}:b≠32->(cD (b::r)).1≠16->dh (p+(cD (b::r)).2.2) ((b::r).drop (cD (b::r)).2.2) o->dh p (b::r) (⟨(cD (b::r)).1,p,(cD (b::r)).2.1⟩::o)
theorem dh.uniq{p:Nat}{l:List UInt8}{o o':List Tok}(h:dh p l o)(h':dh p l o'):o=o':=by
 induction h generalizing o' with
 |fin=>cases h';rfl
 |blank _ ih=>
  cases h' with
  |blank h=>exact ih h
  |wrong h=>exact absurd rfl h
  |tok h=>exact absurd rfl h
 |wrong hb h=>
  cases h' with
  |blank _=>exact absurd rfl hb
  |wrong _ _=>rfl
  |tok _ h2=>exact absurd h h2
 |tok hb h _ ih=>
  cases h' with
  |blank _=>exact absurd rfl hb
  |wrong _ h2=>exact absurd h2 h
  |tok _ _ h3=>rw[ih h3]
theorem dh.last{p:Nat}{l:List UInt8}{o:List Tok}(h:dh p l o):∃i t,o=i++[t]/\(t.k=0\/t.k=16)/\∀u∈i,u.k≠0/\u.k≠16:=by
 induction h with
 |fin=>exact⟨[],_,rfl,.inl rfl,nofun⟩
 |blank _ ih=>exact ih
 |wrong _ _=>exact⟨[],_,rfl,.inr rfl,nofun⟩
 | @tok p b r o hb h _ ih=>
  obtain⟨i,t,rfl,ht,hi⟩:=ih;refine⟨_::i,t,rfl,ht,λu hu=>?_⟩;rcases xag.1 hu with rfl|hu
  ·refine⟨?_,h⟩;show(cD (b::r)).1≠0;unfold cD;cases hx:kO (b::r)with
   |some q=>simp
   |none=>
    simp only;have hs:∀(L:List (List UInt8×Nat)),(∀s∈L,s.2≠0)->∀q,wF (b::r) L=some q->q.1≠0:=by
     intro L;induction L with
     |nil=>intro _ q h;cases h
     |cons s L ih=>
      intro hL q h;unfold wF at h;split at h
      ·cases h;exact hL s (.head _)
      exact ih (λs hs=>hL s (.tail _ hs)) q h
    cases hg:wF (b::r) eu with
    |none=>simp
    |some q=>exact hs eu zD q hg
  ·exact hi u hu
theorem uC:∀(l:List UInt8) (n k:Nat),k<=(num n k l).2/\(num n k l).2<=k+l.length/\∀j,j<(num n k l).2-k->∃b,l[j]? =some b/\digit b=true
 | [],n,k=>⟨xal _,xal _,λj hj=>by simp[num]at hj⟩
 |b::r,n,k=>by
  unfold num;split
  ·exact⟨xal _,by simp,λj hj=>by simp at hj⟩
  rename_i h;obtain⟨h1,h2,h3⟩:=uC r (min (10*n+(b.toNat-48)) 1048576) (k+1);refine⟨by omega,by simp only[xak];omega,λj hj=>?_⟩;cases j with
  |zero=>exact⟨b,rfl,by simpa using λhd=>h (.inl hd)⟩
  |succ j=>exact h3 j zO
theorem Rh{b:UInt8}(h:digit b=true):b.toNat<128:=by
 unfold digit at h;simp only[xaC,xaP]at h;omega
theorem DT{l:List UInt8}:∀(L:List (List UInt8×Nat)),(∀s∈L,s.1≠[]/\∀b∈s.1,b.toNat<128)->∀q,wF l L=some q->1<=q.2/\q.2<=l.length/\∀j,j<q.2->∃b,l[j]? =some b/\b.toNat<128
 | [],_,q,h=>by cases h
 |s::L,hL,q,h=>by
  unfold wF at h;split at h
  ·rename_i hp;cases h;obtain⟨t,rfl⟩:=List.isPrefixOf_iff_prefix.1 hp;obtain⟨h1,h2⟩:=hL s (.head _);have:1<=s.1.length:=by cases hs:s.1 with|nil=>exact absurd hs h1|cons a b=>simp
   refine⟨this,by simp,λj hj=>?_⟩;have hj:j<s.1.length:=hj;exact⟨s.1[j],by rw[xaQ hj,xab hj],h2 _ (xaF hj)⟩
  exact DT L (λs hs=>hL s (.tail _ hs)) q h
theorem pF{l:List UInt8}(h:(cD l).1≠16):1<=(cD l).2.2/\(cD l).2.2<=l.length/\∀j,j<(cD l).2.2->∃b,l[j]? =some b/\b.toNat<128:=by
 unfold cD at h⊢;cases hx:kO l with
 |some q=>
  obtain⟨n,w⟩:=q;cases l with
  |nil=>simp[kO]at hx
  |cons b r=>
   by_cases hb:b=120/\0<(num 0 0 r).2
   ·rw[show kO (b::r)=some ((num 0 0 r).1,(num 0 0 r).2+1)from xae hb]at hx;cases hx;obtain⟨h1,h2,h3⟩:=uC r 0 0;refine⟨by simp,by simp only[xak];omega,λj hj=>?_⟩;cases j with
    |zero=>exact⟨b,rfl,by rw[hb.1];decide⟩
    |succ j=>
     obtain⟨c,hc,hd⟩:=h3 j (by simp only at hj;omega);exact⟨c,hc,Rh hd⟩
   rw[show kO (b::r)=none from xac hb]at hx;cases hx
 |none=>
  rw[hx]at h;simp only at h⊢;cases hg:wF l eu with
  |none=>rw[hg]at h;simp at h
  |some q=>exact DT eu zD q hg
theorem Tc{b:UInt8}{r:List UInt8}(h:128<=b.toNat):(cD (b::r)).1=16:=by
 cases Nat.decEq (cD (b::r)).1 16 with
 |isTrue h=>exact h
 |isFalse hn=>
  obtain⟨h1,_,h3⟩:=pF hn;obtain⟨c,hc,hl⟩:=h3 0 zO;cases hc;omega
end Go.Proofs.Fm
set_option maxRecDepth 100000
namespace Go.Proofs
open Go Go.Sx Tryz
open Fm
abbrev nI(a:Nat):zV:=iv (a:Int)
theorem wQ(a b:List UInt8):(decide (b.length<=a.length) &&decide (a.take b.length=b))=b.isPrefixOf a:=by
 rw[xcQ,List.isPrefixOf_iff_prefix,List.prefix_iff_eq_take];simp only[xaC,xaP];constructor
 ·rintro⟨_,h⟩;exact h.symm
 intro h;refine⟨?_,h.symm⟩;have:=xca List.length h;rw[xbA]at this;omega
theorem TL(a b:List UInt8)(B:Hp):Rd zQ 117 #[aq a,aq b] B (· =.bool (b.isPrefixOf a)):=by
 refine aK λg=>HA (aN.of (aN.of (ae.kM (cz.and (decide (a.take b.length=b)) (λh=>?_) rfl λ_=>?_))))
 ·refine aN.of (aZ.mA (l:=a) (i:=0) (j:=b.length) rfl zK rfl (.inl ⟨rfl,rfl⟩) (.inr ⟨_,.i64,rfl,rfl⟩) (xaA _) (xcz h) ?_);exact ae.tT ⟨rfl,rfl⟩
 exact bD.mk (.refl _) (by rw[wQ])
theorem Xj(a b:List UInt8)(B:Hp):Rd zQ 66 #[aq a,aq b] B (· =.bool (b.isPrefixOf a)):=by
 refine aK λg=>MB (aa.eq (TL a b B) (bD.mk (.refl _) rfl))
theorem U1(l:List UInt8)(hl:l.length<4611686018427387904)(B:Hp):Rd zQ 74 #[aq l] B (· =.tuple #[nI (num 0 0 l).1,nI (num 0 0 l).2]):=by
 refine aK λg=>Mw λJ1 h1=>?_;have fin:∀(n k:Nat) (H:Hp),aF H B->num 0 0 l=(n,k)->J1 [nI n,nI k] H:=λn k H he hn=>by
  refine h1 _ _ _ λ_=>?_;rw[hn];exact bD.mk he rfl
 refine cU.OT rfl zK rfl λb=>?_;refine⟨λvs H=>∃n k:Nat,vs=[nI n,nI k]/\k<=l.length/\n<=1048576/\num 0 0 l=num n k (l.drop k)/\H=(b,.stringIter ⟨l.toArray⟩ k)::B,λvs _=>l.length-bA vs 1,
  JE.mk ⟨0,0,rfl,xaA _,by decide,rfl,rfl⟩,?_⟩
 rintro w1 w2 H ⟨n,k,⟨⟩,hk,hn,he,rfl⟩ gs;refine cU.VP (C:=B) (c:=λX=>X++B) rfl rfl (br.left (C:=[_])) (λhlt=>?_) (λhge=>?_);rotate_left
 ·refine Ext.mk rfl (Br.no (JE.mk (fin n k _ .tail ?_)));rw[he,xbc hge];rfl
 obtain⟨c,hc⟩:∃c,l[k]? =some c:=⟨_,xab hlt⟩;have hd:l.drop k=c::l.drop (k+1):=by
  rw[xaV hlt];rw[xab hlt]at hc;cases hc;rfl
 rw[hd]at he;refine Ext.mk rfl (Br.yes (Ext.mk rfl ?_));by_cases NA:c.toNat<128
 ·rw[yp hc NA];refine ae.cX (b:=48) (cz.or (decide (57<c.toNat)) (λ_=>ae.gW (b:=57) ⟨rfl,rfl⟩) rfl λ_=>?_);refine cz.or (decide (k=1) &&decide (n=0)) (λ_=>ae.bB (b:=1) (cz.and (decide (n=0)) (λ_=>ae.bB (b:=0) ⟨rfl,rfl⟩) rfl λ_=>⟨rfl,rfl⟩)) rfl λ_=>?_;have hdg:digit c=false↔c.toNat<48\/57<c.toNat:=by
   unfold digit;rw[xdy,xbk,xbk];omega
  rw[<-xbp,<-xea,<-xbp];refine Br.dec (λhs=>?_) (λhs=>?_)
  ·refine JE.mk (fin n k _ .tail ?_);rw[he];unfold num;exact xae (by rw[hdg];omega)
  refine ae.mI (a:=10) (by simp only[aS];omega) (ae.gD (b:=48) (by simp only[aS];omega) zO (aH.q (ae.dX (by simp only[aS];omega) (LY.nat (b:=1048576) ?_))));refine ae.inc (az.of (.refl _) ⟨min (10*n+(c.toNat-48)) 1048576,k+1,rfl,hlt,Nat.min_le_right ..,?_,rfl⟩ (by simp only[bA];omega));rw[he]
  conv=>lhs;unfold num
  rw[xac (by rw[hdg];omega)]
 obtain⟨h2,h3,h4⟩:=yq hc zO;generalize Utf8.decode ⟨l.toArray⟩ k=d at h2 h3 h4⊢;refine ae.cX (b:=48) (cz.or (decide (57<d.1)) (λ_=>ae.gW (b:=57) ⟨rfl,rfl⟩) rfl λ_=>?_);refine cz.or (decide (k=1) &&decide (n=0)) (λ_=>ae.bB (b:=1) (cz.and (decide (n=0)) (λ_=>ae.bB (b:=0) ⟨rfl,rfl⟩) rfl λ_=>⟨rfl,rfl⟩)) rfl λ_=>?_;rw[<-xbp,<-xea,<-xbp];refine Br.T (JE.mk (fin n k _ .tail ?_)) zO;have hdf:digit c=false:=by
  unfold digit;rw[xdy,xbk,xbk];omega
 rw[he];unfold num;exact xae (.inl hdf)
end Go.Proofs
namespace Go.Sx
open Go
section
variable {P:Program} {g:Gh} {H:Hp} {K:zV->Hp->Prop} {KP:List PanicEntry->Hp->Prop}
def th(Q:zV->Hp->Prop)(QP:List PanicEntry->Hp->Prop):Ending->Hp->Prop:=λe H'=>(∃v gY,e=.returned v/\aF H' gY/\Q v gY)\/∃c gY,e=.panicked c/\aF H' gY/\QP c gY
def YO(P:Program)(f:FuncId)(args:Array zV)(C:Hp)(Q:zV->Hp->Prop)(QP:List PanicEntry->Hp->Prop):Prop:=∀g,aY P g f args C (th Q QP)
theorem fcP{f:FuncId}{args:Array zV}{C:Hp}{Q:zV->Hp->Prop}{QP:List PanicEntry->Hp->Prop}(h:∀g,aY P g f args C (th Q QP)):YO P f args C Q QP:=h
theorem th.ret{Q:zV->Hp->Prop}{QP:List PanicEntry->Hp->Prop}{v:zV}{H gY:Hp}(he:aF H gY)(h:Q v gY):th Q QP (.returned v) H:=.inl ⟨v,gY,rfl,he,h⟩
theorem th.D3{Q:zV->Hp->Prop}{QP:List PanicEntry->Hp->Prop}{c:List PanicEntry}{H gY:Hp}(he:aF H gY)(h:QP c gY):cv (th Q QP) c H:=λ_=>.inr ⟨c,gY,rfl,he,h⟩
theorem aa.fp{f:FuncId}{args:Array zV}{C H:Hp}{c:Hp->Hp}{Q:zV->Hp->Prop}{QP:List PanicEntry->Hp->Prop}(hh:br C H c)(hc:YO P f args C Q QP)
 (hk:∀v C',Q v C'->K v (c C'))(hp:∀ch C',QP ch C'->KP ch (c C')):aa P g f args H K KP:=
 (aY.hole hh hc).post λe H' ⟨C',h1,h⟩=>by
  rcases h with⟨v,ZN,h2,h3,h4⟩|⟨v,ZN,h2,h3,h4⟩
  ·exact⟨c ZN,by rw[h1];exact hh.dL h3,by subst h2;exact hk _ _ h4⟩
  exact⟨c ZN,by rw[h1];exact hh.dL h3,by subst h2;exact hp _ _ h4⟩
theorem cP.tail{k:Nat}{B:Hp}{v:zV}{r:List zV}{rs:List (List zV)}{K:zV->Prop}(h:Sl k B v (r::rs))(hk:∀v',Sl k B v' rs->K v'):cP k v (some (.int .i64 1)) none K:=by
 obtain⟨h0,h⟩:=h;rcases h with⟨_,_,_,h⟩|⟨b,o,cap,c,T,fz,rfl,h2,h3,h4,h5⟩
 ·cases h
 have hl:(r::rs).length=rs.length+1:=rfl;refine⟨some ⟨b,o,none⟩,(r::rs).length,cap,1,(((r::rs).length:Nat):Int),rfl,rfl,rfl,by decide,by omega,by omega,hk _ ⟨λx hx=>h0 x (.tail _ hx),?_⟩⟩;rw[show(((r::rs).length:Nat):Int).toNat-(1:Int).toNat=rs.length by omega];by_cases h1:cap=1
 ·have hn:rs=[]:=xci.1 zO;subst hn;exact .inl ⟨_,_,rfl,rfl⟩
 rw[xac (by show¬cap=1;exact h1)];refine .inr ⟨b,o+1*k,cap-1,c,T,fz,?_,?_,h3,?_,λi r' hr j v hj=>?_⟩
 ·simp[Addr.add]
 ·show rs.length<=cap-1;omega
 ·rw[hl,xbz]at h4;omega
 have:=h5 (i+1) r' (by simpa using hr) j v hj;rw[xbz]at this;rw[<-this];congr 1;omega
def dc:Nat->List zV->List (Nat×zV)
 |_,[]=>[]
 |i,x::rs=>(i,x)::dc (i+1) rs
theorem wK{x:zV}(hx:x.oneCell'=true):x.cells=#[x]:=by cases x<;>first|rfl|(simp[Value.oneCell']at hx)
theorem sE:∀(rs:List zV) (i:Nat) (pre au:List zV),(∀r∈rs,r.oneCell'=true)->pre.length=i->au.length=rs.length->kC (λi=>some (i*1,1)) (pre++au) (dc i rs)=some (pre++rs)
 | [],i,pre,au,_,_,hj=>by
  have:au=[]:=xci.1 hj;subst this;simp[dc,kC]
 |r::rs,i,pre,au,hr,hp,hj=>by
  have hc:=wK (hr r (.head _));cases au with
  |nil=>simp at hj
  |cons y au=>
   simp only[dc,kC,hc,xcc];have hb:(Nat.beq (#[r]:Array zV).toList.length 1&&Nat.ble (i+(#[r]:Array zV).toList.length) (pre++y::au).length)=true:=by
    have e1:(#[r]:Array zV).toList.length=1:=rfl;rw[e1,xaf,xak];simp;omega
   rw[hb,xao];have h2:r9 (pre++y::au) i (#[r]:Array zV).toList=(pre++[r])++au:=by
    subst hp;have h1:=kV [r] (pre++y::au) pre.length zI;rw[jb]at h1;have:=xca Array.toList h1;simp only at this;rw[this];simp
   have:=sE rs (i+1) (pre++[r]) au (λx hx=>hr x (.tail _ hx)) (by simp[hp]) (by simpa using hj);simp only[xcc]at this;rw[h2,this];simp
theorem aj.m9{t e:TypeId}{z:zV}(rs:List zV){len:Nat}{parts:List (Nat×zV)}{K:zV->Hp->Prop}(h1:P.underlying t=some (.slice e))(h2:cA P e=some 1)(h3:dV P e=some z)(hk:rs.length<=16777216)(hr:∀r∈rs,r.oneCell'=true)
 (hl:rs.length=len)(hp:dc 0 rs=parts)(h:∀b,K (.slice (some ⟨b,0,Option.none⟩) len len) ((b,.cells rs.toArray e zZ)::H)):aj P t len parts H K:=by
 subst hl hp;refine⟨rs.toArray,e,1,z,h1,h2,h3,by omega,?_,λb _=>h b⟩;have:((Array.range (rs.length*1)).map (z.cells[· %z.cells.size]!))=(((Array.range (rs.length*1)).map (z.cells[· %z.cells.size]!)).toList).toArray:=by rw[xcK]
 rw[this];refine jj _ _ _ ?_;exact sE rs 0 [] _ hr rfl zI
def OA(P:Program)(T:TypeId):Bool:=match P.underlying T with
 |some (.interface _)=>false
 |some _=>true
 |Option.none=>false
theorem aZ.Vn{o:Oper}{ρ:Operand->zV}{k:zV->Prop}{x:Operand}{xT T:TypeId}{v:zV}(ho:o.op=.typeAssert x xT T true)(hx:ρ x=.iface T v)(hd:OA P T=true)
 (hk:k (.tuple #[v,.bool true])):aZ P g o ρ H k:=by
 unfold OA at hd;cases hu:P.underlying T with
 |none=>rw[hu]at hd;cases hd
 |some d=>
  refine aZ.assert ho hx hu (λm h=>?_) hk;subst h;rw[hu]at hd;cases hd
end
end Go.Sx
namespace Go.Sx
open Go
section
variable {P:Program} {g:Gh} {H:Hp} {K:zV->Hp->Prop} {KP:List PanicEntry->Hp->Prop}
theorem aZ.Xr{o:Oper}{ρ:Operand->zV}{k:zV->Prop}{x y:Operand}{t yt te:TypeId}{a:Addr}{n:Nat}(ho:o.op=.binOp .neq t x y yt)(hx:ρ x=.pointer (some a))(hy:ρ y=.pointer (some a))(hd:P.underlying t=some (.pointer te))(hj:cA P te=some n)
 (hk:k (.bool false)):aZ P g o ρ H k:=by
 obtain⟨j,hj,_⟩:=aU hj;refine⟨_,λw _=>?_,hk⟩;have e1:eqGuard .neq t x y (.pointer (some a)) (.pointer (some a))=pure ():=rfl;have e2:=Lib.run_neq_ptr_same (P:=P) w a hd hj;simp only[execOp,ho,hx,hy,e1,Sem.run_bind,Sem.run_pure,Result.andThen_ok,e2]
theorem aZ.toUnsafe{o:Oper}{ρ:Operand->zV}{k:zV->Prop}{x:Operand}{src dst t T:TypeId}{b:Nat}{c:Array zV}{fz:Nat×Nat}{n:Nat}(ho:o.op=.convert src dst x)(hx:ρ x=.pointer (some ⟨b,0,none⟩))(hm:(b,Obj.cells c T fz)∈H)(hc:0<c.size)
 (hs:P.underlying src=some (.pointer t))(hd:P.underlying dst=some .unsafePointer)(hj:cA P t=some n)(hz:n≠0)(hk:k (.pointer (some ⟨b,0,none⟩))):aZ P g o ρ H k:=by
 obtain⟨j,hj',rfl⟩:=aU hj;refine⟨_,λw hw=>?_,hk⟩;have:=Lib.run_to_unsafe (P:=P) w ⟨b,0,none⟩ hs hd hj' hz (hw.shape hm) hc;simp only[execOp,ho,hx,Sem.run_bind,this,Result.andThen_ok,Sem.run_pure]
theorem aZ.Pc{o:Oper}{ρ:Operand->zV}{k:zV->Prop}{x:Operand}{src dst u T:TypeId}{b:Nat}{c:Array zV}{fz:Nat×Nat}{n:Nat}(ho:o.op=.convert src dst x)(hx:ρ x=.pointer (some ⟨b,0,none⟩))(hm:(b,Obj.cells c T fz)∈H)
 (hs:P.underlying src=some .unsafePointer)(hd:P.underlying dst=some (.pointer u))(hj:cA P u=some n)(hl:liesAt P P.depth T (c.size/P.cellsOf T) 0 u 1=true)(hk:k (.pointer (some ⟨b,0,none⟩))):aZ P g o ρ H k:=by
 obtain⟨j,hj,_⟩:=aU hj;refine⟨_,λw hw=>?_,hk⟩;have:=Lib.run_from_unsafe (P:=P) w ⟨b,0,none⟩ hs hd hj (hw.shape hm) hl;simp only[execOp,ho,hx,Sem.run_bind,this,Result.andThen_ok,Sem.run_pure]
theorem cU.same{o:Oper}{ρ:Operand->zV}{x:Operand}{f:FuncId}{fn:Func}{ts:Array TypeId}(ho:o.op=.call ⟨.value (.func f),#[x],ts⟩)(hf:P.funcs[f]? =some fn)(hname:(fn.name== "runtime.NumGoroutine")=false)
 (hb:fn.body.isNone=true)(hn:Extern.findNext fn=none)(he:Extern.find fn=some Extern.AbiNoEscape.same)(hr:∀f,ρ (.func f)=.func (.func f) #[] #[])(hk:K (ρ x) H):cU P g o ρ H K KP:=by
 intro w hw;have e:=run_callFunc_extern (P:=P) hf hname hb hn he #[ρ x] w;rw[Lib.run_noEscape]at e;have:(execOp ρ o).run P w=.ok (.value (ρ x)) w:=by
  simp only[execOp,ho,resolve,hr];simpa[Deferred.ofValue,invoke]using e
 rw[this];exact⟨H,hw,hk⟩
theorem jo(l:List UInt8):∀r∈bF l,r.length=1:=λr hr=>by
 unfold bF at hr;obtain⟨b,_,rfl⟩:=xam.1 hr;rfl
theorem rJ(l:List UInt8):(bF l).flatten=l.map λb=>Value.int .u8 b.toNat:=by
 have:=qZ l;unfold rows at this;exact xca Array.toList this
theorem strCells_eq(l:List UInt8):Lib.strCells ⟨l.toArray⟩=(bF l).flatten:=by rw[rJ];rfl
theorem yh:∀(rs:List (List zV)),(∀r∈rs,r.length=1)->rs.flatten.length=rs.length
 | [],_=>rfl
 |r::rs,h=>by
  rw[xcy,xaf,yh rs λx hx=>h x (.tail _ hx),h r (.head _),xak,xcP]
theorem VX:∀(l:List zV),∃js:List (List zV),js.flatten=l/\∀r∈js,r.length=1
 | []=>⟨[],rfl,nofun⟩
 |x::l=>by
  obtain⟨js,h1,h2⟩:=VX l;exact⟨[x]::js,by rw[xcy,h1];rfl,λr hr=>by
   cases hr with
   |head=>rfl
   |tail _ h=>exact h2 r h⟩
theorem cU.YC{o:Oper}{ρ:Operand->zV}{x y:Operand}{t u e:TypeId}{v:zV}{rs:List (List zV)}{l:List UInt8}{C:Hp}{c:Hp->Hp}(ho:o.op=.call ⟨.builtin .append,#[x,y],#[t,u]⟩)
 (ht:P.underlying t=some (.slice e))(hu:P.underlying u=some .string)(hi:(P.info? e).map (λi=>(i.size,i.bytes,i.zero))=some (1,1,some (.int .u8 0)))
 (hx:ρ x=v)(hy:ρ y=aq l)(h:aM e 1 v rs C)(hh:br C H c)(hl:l≠[])(hb:rs.length+l.length<=1099511627776)
 (hk:∀v' C',aM e 1 v' (rs++bF l) C'->K v' (c C')):cU P g o ρ H K KP:=by
 obtain⟨i,hi,e0⟩:=xc2.1 hi;obtain⟨h1,hby,hz⟩:i.size=1/\i.bytes=1/\i.zero=some (.int .u8 0):=by simpa using e0
 have hpos:0<l.length:=xb7.2 hl;obtain⟨hH,F,hF⟩:=hh.spec;have sz:(⟨l.toArray⟩:ByteArray).size=l.length:=by simp[ByteArray.size]
 refine cU.ofValue (s:=Builtin.append_ #[t,u] o.type #[v,aq l]) (by simp[execOp,ho,hx,hy,resolve,invoke,builtin,bind,Sem.bind];rfl) λw hw=>?_;rw[hH]at hw;have ie:=hw.perm (hF C);have VB:∀m,Builtin.zeroCells (Value.int .u8 0).cells m=rows (List.replicate m [Value.int .u8 0]):=λm=>mw [Value.int .u8 0] rfl m;have hnew:(⟨l.toArray⟩:ByteArray).data.map (λb=>Value.int .u8 b.toNat)=rows (bF l):=by
  rw[qZ];simp
 have Dv:(bF l).length=l.length:=by simp[bF]
 have Z7:∀m,∀r∈List.replicate m [Value.int .u8 0],r.length=1:=λm r hr=>by rw[xbQ hr];rfl
 have R3:∀(a b':List (List zV)),(∀r∈a,r.length=1)->(∀r∈b',r.length=1)->∀r∈a++b',r.length=1:=λa b' ha hb r hr=>(xaq.1 hr).elim (ha r) (hb r);rcases h with⟨rfl,rfl,rfl⟩|⟨b,au,rfl,rfl,aD⟩
 ·have hge:=grownCap_ge w l.length 0 e;have hr:=run_append_nil_string (P:=P) w t u o.type e i _ ht hu hi hz ⟨l.toArray⟩ (by rw[sz];exact hpos) (by rw[sz];simp only[xa3]at hb;omega) (by rw[sz,hby];simp only[xa3]at hb;omega);rw[hnew,VB,cE,sz]at hr;refine⟨_,_,_,hr,(Own.perm (ie.drew.alloc _) (hF [(w.heap.size,_)]).symm),hk _ _ (.inr ⟨w.heap.size,_,?_,rfl,?_⟩)⟩
  ·simp only[xa6,Dv,xbD];congr 1;omega
  exact R3 _ _ (jo l) (Z7 _)
 have BL:∀r∈rs,r.length=1:=λr hr=>aD r (xad _ hr);have hju:∀r∈au,r.length=1:=λr hr=>aD r (xaa _ hr);have hfl:=yh rs BL;have hg:=ie.has _ (xad _ (xaG.2 rfl));by_cases hroom:l.length<=au.length
 ·have hr:=Lib.run_append_room_string (P:=P) w t u o.type e i ht hu hi h1 b rs.length (rs.length+au.length) _ hg ⟨l.toArray⟩ (by rw[sz];omega) (by rw[sz,bC aD,xaf];omega);have hc:((rows (rs++au)).toList.take rs.length++Lib.strCells ⟨l.toArray⟩++(rows (rs++au)).toList.drop (rs.length+(⟨l.toArray⟩:ByteArray).size)).toArray=rows (rs++bF l++au.drop l.length):=by
   rw[strCells_eq,sz];unfold rows;simp only[xbt];have e1:(rs.flatten++au.flatten).take rs.length=rs.flatten:=by rw[<-hfl,xdx]
   have e2:(rs.flatten++au.flatten).drop (rs.length+l.length)=(au.drop l.length).flatten:=by
    rw[<-hfl,xdl,List.drop_of_length_le zO,xa6,show rs.flatten.length+l.length-rs.flatten.length=l.length by omega]
    conv=>lhs;rw[<-xbo l.length au,xbt]
    have e3:=yh (au.take l.length) λr hr=>hju r (xcj hr);rw[xbA,xbX hroom]at e3;exact List.drop_left' e3
   rw[e1,e2]
  rw[hc,sz]at hr;have sW:cu b (.cells (rows (rs++au)) e zZ) (.cells (rows (rs++bF l++au.drop l.length)) e zZ) ([(b,.cells (rows (rs++au)) e zZ)]++F) ([(b,.cells (rows (rs++bF l++au.drop l.length)) e zZ)]++F):=cu.head _;have cq:Own g ([(b,.cells (rows (rs++bF l++au.drop l.length)) e zZ)]++F) (w.setRow b (rows (rs++bF l++au.drop l.length))):=by
   refine ie.bT sW rfl rfl rfl (setRow_heap _ _ _ _ _ _ hg) λk hk=>?_;unfold World.setRow;rw[xbf,xac (xbn hk)]
  refine⟨_,_,_,hr,cq.perm (hF [_]).symm,hk _ _ (.inr ⟨b,au.drop l.length,?_,rfl,?_⟩)⟩
  ·simp only[xaf,Dv,xbS];congr 1;omega
  exact R3 _ _ (R3 _ _ BL (jo l)) λr hr=>hju r (xeb hr)
 have hge:=grownCap_ge w (rs.length+l.length) (rs.length+au.length) e;have hr:=Lib.run_append_grow_string (P:=P) w t u o.type e i _ ht hu hi hz ⟨b,0,none⟩ rs.length (rs.length+au.length) rs.flatten (by rw[hfl,h1,xcc]) (λj v hv=>by
  have hj:j<rs.flatten.length:=(xah.1 hv).1;have:=ie.cell (xad _ (xaG.2 rfl)) j;rw[Addr.add_lit,xa1,this];unfold rows;rw[xcb,xbt,xaQ hj,hv]) ⟨l.toArray⟩ (by rw[sz];omega) (by rw[sz];omega) (growslice_fits (by rw[sz];omega) (by rw[sz,hby];omega))
 have hc:(rs.flatten.toArray++(Lib.strCells ⟨l.toArray⟩).toArray++Builtin.zeroCells (Value.int .u8 0).cells (grownCap w (rs.length+(⟨l.toArray⟩:ByteArray).size) (rs.length+au.length) e-(rs.length+(⟨l.toArray⟩:ByteArray).size)))=rows (rs++bF l++List.replicate (grownCap w (rs.length+l.length) (rs.length+au.length) e-(rs.length+l.length)) [Value.int .u8 0]):=by
  rw[strCells_eq,VB,sz];show rows rs++rows (bF l)++_=_;rw[cE,cE]
 rw[hc,sz]at hr;have cq:=(Own.perm (ie.drew.alloc (.cells (rows (rs++bF l++List.replicate (grownCap w (rs.length+l.length) (rs.length+au.length) e-(rs.length+l.length)) [Value.int .u8 0])) e)) (List.Perm.swap _ _ _)).tail;refine⟨_,_,_,hr,Own.perm cq (hF [(w.heap.size,_)]).symm,hk _ _ (.inr ⟨w.heap.size,_,?_,rfl,?_⟩)⟩
 ·simp only[xaf,Dv,xbD];congr 1;omega
 exact R3 _ _ (R3 _ _ BL (jo l)) (Z7 _)
theorem cU.xu{o:Oper}{ρ:Operand->zV}{x:Operand}{t:TypeId}{a:Addr}{n c:Nat}(ho:o.op=.call ⟨.builtin .unsafeSliceData,#[x],#[t]⟩)(hx:ρ x=.slice (some a) n c)(hc:c≠0)(hk:K (.pointer (some a)) H):cU P g o ρ H K KP:=by
 refine cU.ofValue (s:=Builtin.unsafeSliceData_ #[t] o.type #[.slice (some a) n c]) (by simp[execOp,ho,hx,resolve,invoke,builtin,bind,Sem.bind];rfl) λw hw=>?_;exact⟨_,w,H,Lib.run_unsafeSliceData_row w _ _ _ _ _ hc,hw,hk⟩
theorem cU.unsafeString{o:Oper}{ρ:Operand->zV}{x y:Operand}{pt it e:TypeId}{b:Nat}{l:List UInt8}{au:List (List zV)}{c:Hp->Hp}(ho:o.op=.call ⟨.builtin .unsafeString,#[x,y],#[pt,it]⟩)
 (hp:P.underlying pt=some (.pointer e))(Zj:P.cellsOf e=1)(hx:ρ x=.pointer (some ⟨b,0,none⟩))(hy:ρ y=.int .i64 (l.length:Int))(hl:l≠[])(hj:∀r∈au,r.length=1)(h63:l.length<=9223372036854775807)
 (hh:br [(b,.cells (rows (bF l++au)) e zZ)] H c)(hk:K (aq l) (c [(b,.cells (rows (bF l++au)) e (0,l.length))])):cU P g o ρ H K KP:=by
 obtain⟨hH,F,hF⟩:=hh.spec;have Ze:l.length≠0:=by simpa using hl
 refine cU.ofValue (s:=Builtin.unsafeString_ #[pt,it] o.type #[.pointer (some ⟨b,0,none⟩),.int .i64 (l.length:Int)]) (by simp[execOp,ho,hx,hy,resolve,invoke,builtin,bind,Sem.bind];rfl) λw hw=>?_;rw[hH]at hw;have ie:=hw.perm (hF _);have hm:(b,Obj.cells (rows (bF l++au)) e zZ)∈[(b,Obj.cells (rows (bF l++au)) e zZ)]++F:=xad _ (.head _);have aD:∀r∈bF l++au,r.length=1:=λr hr=>(xaq.1 hr).elim (jo l r) (hj r);have hsz:(rows (bF l++au)).size=l.length+au.length:=by rw[bC aD,xaf];simp[bF]
 have hr:=Lib.run_unsafeString_row (P:=P) w pt it o.type e hp Zj b _ (ie.shape hm) l hl (by rw[hsz];omega) h63 (λj u hu=>by
  rw[Addr.add_lit,xa1,ie.cell hm j];unfold rows;have hb:=rJ l;have P7:j<(bF l).flatten.length:=by rw[hb,xax];exact(xah.1 hu).1
  rw[xcb,xbt,xaQ P7,hb,xar,hu];rfl)
 have sW:cu b (.cells (rows (bF l++au)) e zZ) (.cells (rows (bF l++au)) e (0,l.length)) ([(b,.cells (rows (bF l++au)) e zZ)]++F) ([(b,.cells (rows (bF l++au)) e (0,l.length))]++F):=cu.head _;have hg:=ie.has _ hm;have cq:Own g ([(b,.cells (rows (bF l++au)) e (0,l.length))]++F) (w.freeze ⟨b,0,none⟩ l.length):=by
  unfold World.freeze;rw[xac Ze];refine ie.bT sW rfl rfl rfl ?_ λk hk=>?_
  ·show(w.heap.modify b _)[b]? =_;rw[xbf,xae rfl];simp only at hg;rw[hg];simp
  show(w.heap.modify b _)[k]? =_;rw[xbf,xac (xbn hk)]
 exact⟨_,_,_,hr,cq.perm (hF [_]).symm,hk⟩
end
end Go.Sx
namespace Go.Sx
open Go
section
variable {P:Program} {g:Gh} {H:Hp}
def vw:Nat->List (List zV)->List (Nat×zV)
 |_,[]=>[]
 |i,r::rs=>(i,.agg r.toArray)::vw (i+1) rs
theorem u5{k:Nat}:∀(rs:List (List zV)) (i:Nat) (pre au:List zV),(∀r∈rs,r.length=k)->pre.length=i*k->au.length=rs.length*k->kC (λi=>some (i*k,k)) (pre++au) (vw i rs)=some (pre++rs.flatten)
 | [],i,pre,au,_,_,hj=>by
  have:au=[]:=xci.1 (by simpa using hj);subst this;simp[vw,kC]
 |r::rs,i,pre,au,hr,hp,hj=>by
  have hrk:=hr r (xbV ..);have P7:au.length=k+rs.length*k:=by rw[hj,xak,xbz,xcP]
  simp only[vw,kC,Value.cells];have hb:(Nat.beq r.toArray.toList.length k&&Nat.ble (i*k+r.toArray.toList.length) (pre++au).length)=true:=by
   have e1:r.toArray.toList.length=k:=hrk;rw[e1,xaf];simp;omega
  rw[hb,xao];have h1:=kV r (pre++au) (i*k) (by rw[xaf];omega);rw[jb]at h1;have h2:r9 (pre++au) (i*k) r=pre++r++au.drop k:=by
   have:=xca Array.toList h1;simp only at this;rw[this,<-hp];simp[xev,hrk,xdl]
  show kC _ (r9 (pre++au) (i*k) r) _=_;rw[h2,u5 rs (i+1) (pre++r) (au.drop k) (λx hx=>hr x (xby _ hx)) (by rw[xaf,hp,hrk,xbz]) (by rw[xbS];omega)];simp
theorem aj.many{t e k:Nat}{z:zV}(rs:List (List zV)){len:Nat}{parts:List (Nat×zV)}{K:zV->Hp->Prop}(h1:P.underlying t=some (.slice e))(h2:cA P e=some k)(h3:dV P e=some z)(hk:rs.length*k<=16777216)(hr:∀r∈rs,r.length=k)
 (hl:rs.length=len)(hp:vw 0 rs=parts)(h:∀b,K (.slice (some ⟨b,0,Option.none⟩) len len) ((b,.cells (rows rs) e zZ)::H)):aj P t len parts H K:=by
 subst hl hp;refine⟨rows rs,e,k,z,h1,h2,h3,by omega,?_,λb _=>h b⟩;have:((Array.range (rs.length*k)).map (z.cells[· %z.cells.size]!))=(((Array.range (rs.length*k)).map (z.cells[· %z.cells.size]!)).toList).toArray:=by rw[xcK]
 rw[this];generalize hc:((Array.range (rs.length*k)).map (z.cells[· %z.cells.size]!)).toList=c;have hlen:c.length=rs.length*k:=by rw[<-hc];simp
 refine jj _ _ _ ?_;have:=u5 rs 0 [] c hr zI hlen;simpa using this
theorem aT.look{κ β:Type}[DecidableEq κ]{ke:κ->zV}{vr:zV->β->Prop}{es:Array MapEntry}{ck b:Nat}{m:List (κ×β)}{kd:TypeDesc}{zero:zV}{ok:Bool}{k:κ}{K:zV->Prop}(hk:∀a b,Instr.sameNow kd (ke a) (ke b)=some (decide (a=b)))(h:aT ke vr es ck m)(hm:(b,Obj.map es ck)∈H)
 (h1:∀x v,bO m k=some x->vr v x->K (cond ok (.tuple #[v,.bool true]) v))(h2:bO m k=none->K (cond ok (.tuple #[zero,.bool false]) zero)):jE kd zero ok H (.map (some b)) (ke k) K:=by
 cases hx:bO m k with
 |none=>exact h.bU hk hm hx (h2 hx)
 |some x=>exact h.hit hk hm hx λv hv=>h1 x v hx hv
end
end Go.Sx
namespace Go.Sx
open Go
section
variable {P:Program} {g:Gh} {H:Hp} {K:zV->Hp->Prop}
theorem bP.of{l:List UInt8}{i:Nat}{kd:IntKind}{b:UInt8}{k:zV->Prop}(h:l[i]? =some b)(hk:k (.int .u8 (b.toNat:Int))):bP (aq l) (.int kd (i:Int)) k:=by
 refine⟨_,kd,i,b,rfl,rfl,xcf _,?_,hk⟩;rw[xbI];obtain⟨hi,rfl⟩:=xah.1 h;have sz:(⟨l.toArray⟩:ByteArray).size=l.length:=by simp[ByteArray.size]
 rw[getElem?_pos (⟨l.toArray⟩:ByteArray) i (by rw[sz];exact hi)];rfl
theorem aZ.rM{o:Oper}{ρ:Operand->zV}{k:zV->Prop}{x:Operand}{t e:TypeId}{lo hi:Option Operand}{b n i j:Nat}(ho:o.op=.slice t x lo hi none)(hd:P.underlying t=some (.array n e))(hz:cA P e=some 1)(hx:ρ x=.pointer (some ⟨b,0,none⟩))
 (hlo:(lo=none/\i=0)\/∃q kd,lo=some q/\ρ q=.int kd (i:Int))(hhi:(hi=none/\j=n)\/∃q kd,hi=some q/\ρ q=.int kd (j:Int))(hij:i<=j)(hj:j<=n)(hin:i<n)(hk:k (.slice (some ⟨b,i,none⟩) (j-i) (n-i))):aZ P g o ρ H k:=by
 refine⟨_,λw _=>?_,hk⟩;obtain⟨inf,KZ,hs⟩:=aU hz;have hne:¬n=i:=by omega
 have b1:∀kd cd,(Instr.sliceBound (.int kd (i:Int)) j cd).run P w=.ok i w:=λkd cd=>by simp[Instr.sliceBound,asIntOf,hij]
 have b2:∀kd cd,(Instr.sliceBound (.int kd (j:Int)) n cd).run P w=.ok j w:=λkd cd=>by simp[Instr.sliceBound,asIntOf,hj]
 have ha:(Addr.add ⟨b,0,none⟩ (i*1))=⟨b,i,none⟩:=by rw[Addr.add_lit];simp
 have:(Instr.sliceAt t (.pointer (some ⟨b,0,none⟩)) (lo.map ρ) (hi.map ρ) none).run P w=.ok (.slice (some ⟨b,i,none⟩) (j-i) (n-i)) w:=by
  rcases hlo with⟨rfl,rfl⟩|⟨q,kd,rfl,hq⟩<;>rcases hhi with⟨rfl,rfl⟩|⟨q2,kd2,rfl,tu⟩
  ·simp only[Instr.sliceAt,Instr.sureAddr,Instr.sliceBounds,Sem.run_bind,run_underlying hd,run_sizeOf KZ,hs,Result.andThen_ok,xce,xbj,xcg,xaD,xaT,Sem.run_pure,b1,b2,xac hne,ha]
  ·simp only[Instr.sliceAt,Instr.sureAddr,Instr.sliceBounds,Sem.run_bind,run_underlying hd,run_sizeOf KZ,hs,Result.andThen_ok,xce,xbj,xcg,xaD,xaT,Sem.run_pure,b1,b2,tu,xac hne,ha]
  ·simp only[Instr.sliceAt,Instr.sureAddr,Instr.sliceBounds,Sem.run_bind,run_underlying hd,run_sizeOf KZ,hs,Result.andThen_ok,xce,xbj,xcg,xaD,xaT,Sem.run_pure,b1,b2,hq,xac hne,ha]
  simp only[Instr.sliceAt,Instr.sureAddr,Instr.sliceBounds,Sem.run_bind,run_underlying hd,run_sizeOf KZ,hs,Result.andThen_ok,xce,xbj,xcg,xaD,xaT,Sem.run_pure,b1,b2,hq,tu,xac hne,ha]
 simp only[execOp,ho,hx,Sem.run_bind,xce,this,Result.andThen_ok,Sem.run_pure]
theorem dK.cut{b o n c:Nat}{cs:Array zV}{T:TypeId}{fz:Nat×Nat}{l:List UInt8}{K:zV->Prop}(hm:(b,Obj.cells cs T fz)∈H)(hn:l.length=n)(h0:0<n)(hc:∀j u,l[j]? =some u->cs[o+j]? =some (.int .u8 (u.toNat:Int)))(hk:K (aq l)):dK H (.slice (some ⟨b,o,none⟩) n c) K:=by
 refine⟨_,n,c,l,rfl,?_,hn,hk⟩;have hl:n-1<l.length:=by omega
 have h1:=hc (n-1) _ (xab hl);have h2:o+(n-1)<cs.size:=(xaR.1 h1).1;refine .inr ⟨rfl,cs,T,fz,hm,by show o+n<=cs.size;omega,?_⟩;refine xez (by rw[Array.size_extract];simp;omega) λj h3 h4=>?_;have h5:j<l.length:=by simpa using h3
 have h6:=hc j _ (xab h5);obtain⟨h7,h8⟩:=xaR.1 h6;rw[xd5];simp only[List.getElem_toArray,List.getElem_map];exact h8.symm
end
end Go.Sx
namespace Go.Proofs.Fm
inductive Tr
 |c(k:Nat)
 |v(n:Nat)
 |no(a:Tr)
 |bin(k:Nat)(a b:Tr)
 |ite(a b c:Tr)
inductive Rs
 |ok(t:Tr)(l:List Tok)
 |bad(p e:Nat)
inductive Gl
 |ir(lv dp:Nat)(l:List Tok)
 |more(lv dp:Nat)(a:Tr)(l:List Tok)
 |tight(dp:Nat)(l:List Tok)
inductive Pl
 |done(r:Rs)
 |call(g:Gl)(k:Rs->Pl)
def Rs.thn(r:Rs)(f:Tr->List Tok->Pl):Pl:=
 match r with
 | .ok t l=>f t l
 | .bad p e=>.done (.bad p e)
def Rs.cO(r:Rs)(k:Nat)(f:Tr->List Tok->Pl):Pl:=r.thn λt l=>
 match l with
 | []=>.done (.bad 0 14)
 |x::l'=>if x.k=k then f t l' else .done (.bad x.p 14)
def eO:Nat->Nat
 |0=>9
 |1=>8
 |2=>7
 |3=>6
 |_=>5
def fY(n:Nat):Gl->Pl
 | .ir lv dp l=>if lv=5 then .call (.tight dp l) .done else .call (.ir (lv+1) dp l) λr=>r.thn λa l1=>.call (.more lv dp a l1) .done
 | .more lv dp a []=>.done (.bad 0 14)
 | .more lv dp a (x::l)=>
  if x.k=eO lv then
   if eO lv=8 then .call (.ir lv dp l) λr=>r.thn λb l2=>.done (.ok (.bin 8 a b) l2)
   else .call (.ir (lv+1) dp l) λr=>r.thn λb l2=>.call (.more lv dp (.bin (eO lv) a b) l2) .done
  else .done (.ok a (x::l))
 | .tight dp []=>.done (.bad 0 14)
 | .tight dp (x::l)=>
  if x.k=1\/x.k=2 then .done (.ok (.c x.k) l)
  else if x.k=3 then(if n<=x.v then .done (.bad x.p 2)else .done (.ok (.v x.v) l))
  else if x.k=4 then(if 1000<=dp then .done (.bad x.p 7)else .call (.tight (dp+1) l) λr=>r.thn λa l2=>.done (.ok (.no a) l2))
  else if x.k=10 then(if 1000<=dp then .done (.bad x.p 7)else .call (.ir 0 (dp+1) l) λr=>r.cO 11 λa l2=>.done (.ok a l2))
  else if x.k=12 then(if 1000<=dp then .done (.bad x.p 7)else .call (.ir 0 (dp+1) l) λr=>r.cO 13 λa l2=>.call (.ir 0 (dp+1) l2) λr=>r.cO 14 λb l3=>.call (.ir 0 (dp+1) l3) λr=>r.cO 15 λc l4=>.done (.ok (.ite a b c) l4))
  else .done (.bad x.p 14)
inductive Ev(n:Nat):Pl->Rs->Prop
 |done {r:Rs}:Ev n (.done r) r
 |call {g:Gl} {k:Rs->Pl} {r r2:Rs}:Ev n (fY n g) r->Ev n (k r) r2->Ev n (.call g k) r2
theorem Ev.uniq{n:Nat}{p:Pl}{r r':Rs}(h:Ev n p r)(h':Ev n p r'):r=r':=by
 induction h generalizing r' with
 |done=>cases h';rfl
 |call _ _ i1 i2=>
  cases h' with
  |call a b=>
   have:=i1 a;subst this;exact i2 b
def Rs.fit:Rs->Prop
 | .ok _ _=>True
 | .bad _ e=>e=14\/e=2\/e=7
inductive Pl.Fit:Pl->Prop
 |done {r:Rs}:r.fit->Fit (.done r)
 |call {g:Gl} {k:Rs->Pl}:(∀r,r.fit->Fit (k r))->Fit (.call g k)
theorem Pl.Fit.thn{r:Rs}{f:Tr->List Tok->Pl}(hr:r.fit)(h:∀t l,Fit (f t l)):Fit (r.thn f):=by
 cases r with
 |ok t l=>exact h t l
 |bad p e=>exact .done hr
theorem Pl.Fit.cO{r:Rs}{k:Nat}{f:Tr->List Tok->Pl}(hr:r.fit)(h:∀t l,Fit (f t l)):Fit (r.cO k f):=by
 refine .thn hr λt l=>?_;cases l with
 |nil=>exact .done (.inl rfl)
 |cons x l=>
  show Fit (if x.k=k then _ else _);split
  ·exact h t l
  exact .done (.inl rfl)
theorem O2(n:Nat)(g:Gl):(fY n g).Fit:=by
 have D:∀(p e:Nat),e=14\/e=2\/e=7->Pl.Fit (.done (.bad p e)):=λp e h=>.done h;have O:∀t l,Pl.Fit (.done (.ok t l)):=λt l=>.done trivial;cases g with
 |ir lv dp l=>
  show Pl.Fit (if lv=5 then _ else _);split
  ·exact .call λr h=>.done h
  exact .call λr h=>.thn h λt l=>.call λr h=>.done h
 |more lv dp a l=>
  cases l with
  |nil=>exact D _ _ zD
  |cons x l=>
   show Pl.Fit (if x.k=eO lv then(if eO lv=8 then _ else _)else _);split
   ·split
    ·exact .call λr h=>.thn h λt l=>O _ _
    exact .call λr h=>.thn h λt l=>.call λr h=>.done h
   exact O _ _
 |tight dp l=>
  cases l with
  |nil=>exact D _ _ zD
  |cons x l=>
   unfold fY
   repeat' split
   all_goals first
    |exact O _ _
    |exact D _ _ zD
    |exact .call λr h=>.thn h λt l=>O _ _
    |exact .call λr h=>.cO h λt l=>O _ _
    |exact .call λr h=>.cO h λt l=>.call λr h=>.cO h λt l=>.call λr h=>.cO h λt l=>O _ _
    |exact .call λr h=>.done h
    |exact .call λr h=>.thn h λt l=>.call λr h=>.done h
theorem Ev.fit{n:Nat}{p:Pl}{r:Rs}(h:Ev n p r)(hp:p.Fit):r.fit:=by
 induction h with
 |done=>cases hp with|done h=>exact h
 |call _ _ i1 i2=>cases hp with|call h=>exact i2 (h _ (i1 (O2 n _)))
def qK(l:List Tok):Prop:=∃i t,l=i++[t]/\(t.k=0\/t.k=16)/\∀u∈i,u.k≠0/\u.k≠16
theorem qK.tail{x:Tok}{l:List Tok}(h:qK (x::l))(h0:x.k≠0)(h1:x.k≠16):qK l:=by
 obtain⟨i,t,e,ht,hi⟩:=h;cases i with
 |nil=>
  simp only[xa6,xaz]at e;obtain⟨rfl,rfl⟩:=e;omega
 |cons y i=>
  simp only[xaS,xaz]at e;obtain⟨rfl,rfl⟩:=e;exact⟨i,t,rfl,ht,λu hu=>hi u (.tail _ hu)⟩
theorem qK.split{l:List Tok}(h:qK l):∃x l',l=x::l':=by
 obtain⟨i,t,rfl,_⟩:=h;cases i with
 |nil=>exact⟨_,_,rfl⟩
 |cons y i=>exact⟨_,_,rfl⟩
inductive Reads(n:Nat)(l:List UInt8):Rs->Prop
 |Ee:65536<l.length->Reads n l (.bad 0 13)
 |mk {o:List Tok} {r:Rs}:l.length<=65536->dh 0 l o->Ev n (.call (.ir 0 0 o) λr=>r.cO 0 λt l'=>.done (.ok t l')) r->Reads n l r
theorem Reads.code{n:Nat}{l:List UInt8}{p e:Nat}(h:Reads n l (.bad p e))(hl:l.length<=65536):e=14\/e=2\/e=7:=by
 cases h with
 |Ee h=>omega
 |mk _ _ h=>exact h.fit (.call λr hr=>.cO hr λt l=>.done trivial)
theorem Reads.fit{n:Nat}{l:List UInt8}{p e:Nat}(h:Reads n l (.bad p e)):e≠0:=by
 by_cases hl:l.length<=65536
 ·have:=h.code hl;omega
 cases h with
 |Ee _=>decide
 |mk h _ _=>exact absurd h hl
theorem Reads.uniq{n:Nat}{l:List UInt8}{r r':Rs}(h:Reads n l r)(h':Reads n l r'):r=r':=by
 cases h with
 |Ee h=>
  cases h' with
  |Ee _=>rfl
  |mk h' _ _=>omega
 |mk h h1 h2=>
  cases h' with
  |Ee h'=>omega
  |mk _ h3 h4=>
   have:=h1.uniq h3;subst this;exact h2.uniq h4
end Go.Proofs.Fm
namespace Go.Proofs.Fm
def Tr.kids:Tr->List Tr
 | .no a=>[a]
 | .bin _ a b=>[a,b]
 | .ite a b d=>[a,b,d]
 |_=>[]
def Tr.kd:Tr->Nat
 | .c k=>k
 | .v _=>3
 | .no _=>4
 | .bin k _ _=>k
 | .ite .. =>12
def Tr.vl:Tr->Nat
 | .v n=>n
 |_=>0
def Xp(k:Nat):Nat:=if k=5 then 8 else if k=6 then 6 else if k=7 then 14 else if k=8 then 11 else 9
def Tr.fn:Tr->Nat->Bool
 | .c k=>λ_=>decide (k=2)
 | .v n=>λx=>x.testBit n
 | .no a=>λx=> !a.fn x
 | .bin k a b=>λx=>(Xp k).testBit (2*(a.fn x).toNat+(b.fn x).toNat)
 | .ite a b d=>λx=>if a.fn x then b.fn x else d.fn x
def Tr.Fit(n:Nat):Tr->Prop
 | .c k=>k=1\/k=2
 | .v m=>m<n
 | .no a=>a.Fit n
 | .bin k a b=>(5<=k/\k<=9)/\a.Fit n/\b.Fit n
 | .ite a b d=>a.Fit n/\b.Fit n/\d.Fit n
def Tr.gP:Tr->Nat
 | .c _=>1
 | .v _=>1
 | .no a=>a.gP
 | .bin _ a b=>a.gP+b.gP
 | .ite a b d=>a.gP+b.gP+d.gP
theorem Tr.iF:∀t:Tr,1<=t.gP
 | .c _=>xal _
 | .v _=>xal _
 | .no a=>a.iF
 | .bin _ a b=>xbZ a.iF (by show a.gP<=a.gP+b.gP;omega)
 | .ite a b d=>xbZ a.iF (by show a.gP<=a.gP+b.gP+d.gP;omega)
def Tr.gR:Tr->(Nat->Bool)->Prop
 | .c k=>λg=>g=(Tr.c k).fn
 | .v n=>λg=>g=(Tr.v n).fn
 | .no a=>λg=>g=(Tr.no a).fn\/a.gR g
 | .bin k a b=>λg=>g=(Tr.bin k a b).fn\/a.gR g\/b.gR g
 | .ite a b d=>λg=>g=(Tr.ite a b d).fn\/a.gR g\/b.gR g\/d.gR g
theorem Tr.xj(t:Tr):t.gR t.fn:=by
 cases t<;>first|exact rfl|exact Or.inl rfl
theorem Tr.AS{t k:Tr}(h:k∈t.kids){g:Nat->Bool}(hg:k.gR g):t.gR g:=by
 cases t with
 |c=>cases h
 |v=>cases h
 |no a=>
  simp only[Tr.kids,xag,xaw,xaZ]at h;subst h;exact Or.inr hg
 |bin k a b=>
  simp only[Tr.kids,xag,xaw,xaZ]at h;rcases h with rfl|rfl
  ·exact Or.inr (Or.inl hg)
  exact Or.inr (Or.inr hg)
 |ite a b d=>
  simp only[Tr.kids,xag,xaw,xaZ]at h;rcases h with rfl|rfl|rfl
  ·exact Or.inr (Or.inl hg)
  ·exact Or.inr (Or.inr (Or.inl hg))
  exact Or.inr (Or.inr (Or.inr hg))
def Gl.pre(n:Nat):Gl->Prop
 | .more _ _ a _=>a.Fit n
 |_=>True
def Gl.cap:Gl->Nat
 | .ir _ _ l=>l.length+1
 | .more _ _ a l=>2*a.gP+l.length
 | .tight _ l=>l.length+1
def Rs.good(n c:Nat):Rs->Prop
 | .ok t l=>t.Fit n/\2*t.gP+l.length<=c
 | .bad _ _=>True
inductive Pl.Wt(n:Nat):Nat->Pl->Prop
 |done {c:Nat} {r:Rs}:r.good n c->Wt n c (.done r)
 |call {c:Nat} {g:Gl} {k:Rs->Pl}:g.pre n->(∀r,r.good n g.cap->Wt n c (k r))->Wt n c (.call g k)
theorem Pl.Wt.thn{n c c':Nat}{r:Rs}{f:Tr->List Tok->Pl}(hr:r.good n c')(h:∀t l,t.Fit n->2*t.gP+l.length<=c'->Wt n c (f t l)):Wt n c (r.thn f):=by
 cases r with
 |ok t l=>exact h t l hr.1 hr.2
 |bad p e=>exact .done trivial
theorem Pl.Wt.cO{n c c' k:Nat}{r:Rs}{f:Tr->List Tok->Pl}(hr:r.good n c')(h:∀t l,t.Fit n->2*t.gP+l.length+1<=c'->Wt n c (f t l)):Wt n c (r.cO k f):=by
 refine .thn hr λt l h1 h2=>?_;cases l with
 |nil=>exact .done trivial
 |cons x l=>
  show Wt n c (if x.k=k then _ else _);split
  ·exact h t l h1 h2
  exact .done trivial
theorem y6(lv:Nat):5<=eO lv/\eO lv<=9:=by
 match lv with
 |0=>decide
 |1=>decide
 |2=>decide
 |3=>decide
 |n+4=>exact⟨xal 5,by show 5<=9;decide⟩
theorem TC(n:Nat)(g:Gl)(hp:g.pre n):Pl.Wt n g.cap (fY n g):=by
 cases g with
 |ir lv dp l=>
  show Pl.Wt n _ (if lv=5 then _ else _);split
  ·exact .call trivial λr h=>.done h
  exact .call trivial λr h=>.thn h λt l1 h1 h2=>.call h1 λr h=>.done (by
   cases r with
   |ok t' l'=>exact⟨h.1,xbZ h.2 h2⟩
   |bad=>trivial)
 |more lv dp a l=>
  cases l with
  |nil=>exact .done trivial
  |cons x l=>
   show Pl.Wt n _ (if x.k=eO lv then(if eO lv=8 then _ else _)else _);split
   ·split
    ·refine .call trivial λr h=>.thn h λt l1 h1 h2=>.done ⟨⟨by decide,hp,h1⟩,?_⟩;simp only[Tr.gP,Gl.cap,xak]at h2⊢;omega
    refine .call trivial λr h=>.thn h λt l1 h1 h2=>.call ⟨y6 lv,hp,h1⟩ λr h=>.done ?_;cases r with
    |ok t' l'=>
     refine⟨h.1,?_⟩;have:=h.2;simp only[Tr.gP,Gl.cap,xak]at h2 this⊢;omega
    |bad=>trivial
   ·exact .done ⟨hp,xal _⟩
 |tight dp l=>
  cases l with
  |nil=>exact .done trivial
  |cons x l=>
   have hc:Gl.cap (.tight dp (x::l))=l.length+2:=rfl;rw[hc];show Pl.Wt n _ (if x.k=1\/x.k=2 then _ else if x.k=3 then(if n<=x.v then _ else _)else if x.k=4 then(if 1000<=dp then _ else _)else if x.k=10 then(if 1000<=dp then _ else _)else if x.k=12 then(if 1000<=dp then _ else _)else _);split
   ·rename_i h;exact .done ⟨h,by simp only[Tr.gP];omega⟩
   split
   ·split
    ·exact .done trivial
    exact .done ⟨by show x.v<n;omega,by simp only[Tr.gP];omega⟩
   split
   ·split
    ·exact .done trivial
    exact .call trivial λr h=>.thn h λt l1 h1 h2=>.done ⟨h1,by simp only[Tr.gP,Gl.cap]at h2⊢;omega⟩
   split
   ·split
    ·exact .done trivial
    exact .call trivial λr h=>.cO h λt l1 h1 h2=>.done ⟨h1,by simp only[Gl.cap]at h2⊢;omega⟩
   split
   ·split
    ·exact .done trivial
    refine .call trivial λr h=>.cO h λt l1 h1 h2=>.call trivial λr h=>.cO h λt2 l2 h3 h4=>.call trivial λr h=>.cO h λt3 l3 h5 h6=>.done ⟨⟨h1,h3,h5⟩,?_⟩;simp only[Tr.gP,Gl.cap]at h2 h4 h6⊢;omega
   exact .done trivial
theorem Ev.wt{n c:Nat}{p:Pl}{r:Rs}(h:Ev n p r)(hp:p.Wt n c):r.good n c:=by
 induction h generalizing c with
 |done=>cases hp with|done h=>exact h
 |call _ _ i1 i2=>cases hp with|call h0 h=>exact i2 (h _ (i1 (TC n _ h0)))
theorem Reads.wt{n:Nat}{l:List UInt8}{t:Tr}{l':List Tok}(h:Reads n l (.ok t l'))(hlen:∀o,dh 0 l o->o.length<=l.length+1):t.Fit n/\t.gP<=32769:=by
 cases h with
 |mk hl ht h=>
  have h1:=hlen _ ht;have:=h.wt (c:=l.length+2) (.call trivial λr hr=>.cO hr λt l2 h2 h3=>.done ⟨h2,by simp only[Gl.cap]at h3;omega⟩);exact⟨this.1,by have:=this.2;omega⟩
end Go.Proofs.Fm
namespace Go.Proofs.Fm
def ei:Tr->List UInt8
 | .c k=>[if k=2 then 49 else 48]
 | .ite (.v n) a b=>([91,120]++[UInt8.ofNat (48+n)]++[63])++ei a++[58]++ei b++[93]
 |_=>[]
inductive Wr:Tr->Prop
 |c0:Wr (.c 1)
 |c1:Wr (.c 2)
 |n {v:Nat} {a b:Tr}:v<10->Wr a->Wr b->Wr (.ite (.v v) a b)
def Tr.DB:Tr->Nat
 | .ite _ a b=>max a.DB b.DB+1
 |_=>0
def Dk:Tr->Nat->List Tok
 | .c k,p=>[⟨k,p,0⟩]
 | .ite (.v n) a b,p=>⟨12,p,0⟩::⟨3,p+1,n⟩::⟨13,p+3,0⟩::(Dk a (p+4)++(⟨14,p+4+(ei a).length,0⟩::(Dk b (p+5+(ei a).length)++[⟨15,p+5+(ei a).length+(ei b).length,0⟩])))
 |_,_=>[]
theorem dh.step{p k v w:Nat}{b:UInt8}{r:List UInt8}{o:List Tok}(h:cD (b::r)=(k,v,w))(hb:b≠32)(hk:k≠16)(ht:dh (p+w) ((b::r).drop w) o):dh p (b::r) (⟨k,p,v⟩::o):=by
 have:=dh.tok (p:=p) (b:=b) (r:=r) (o:=o) hb (by rw[h];exact hk) (by rw[h];exact ht);rw[h]at this;exact this
theorem adP(r:List UInt8):cD (48::r)=(1,0,1):=rfl
theorem adO(r:List UInt8):cD (49::r)=(2,0,1):=rfl
theorem adL(r:List UInt8):cD (91::r)=(12,0,1):=rfl
theorem adM(r:List UInt8):cD (63::r)=(13,0,1):=rfl
theorem adN(r:List UInt8):cD (58::r)=(14,0,1):=rfl
theorem adK(r:List UInt8):cD (93::r)=(15,0,1):=rfl
theorem tkx{n:Nat}(hn:n<10)(r:List UInt8):cD (120::UInt8.ofNat (48+n)::63::r)=(3,n,2):=by
 have:n=0\/n=1\/n=2\/n=3\/n=4\/n=5\/n=6\/n=7\/n=8\/n=9:=by omega
 rcases this with rfl|rfl|rfl|rfl|rfl|rfl|rfl|rfl|rfl|rfl<;>rfl
theorem NL{t:Tr}(ht:Wr t):∀(p:Nat) (r:List UInt8) (o:List Tok),dh (p+(ei t).length) r o->dh p (ei t++r) (Dk t p++o):=by
 induction ht with
 |c0=>exact λp r o h=>dh.step (adP r) zD zD h
 |c1=>exact λp r o h=>dh.step (adO r) zD zD h
 | @n v a b hv _ _ ia ib=>
  intro p r o h;have e:ei (.ite (.v v) a b)++r=91::120::UInt8.ofNat (48+v)::63::(ei a++(58::(ei b++(93::r)))):=by simp[ei]
  have el:(ei (.ite (.v v) a b)).length=6+(ei a).length+(ei b).length:=by simp only[ei,xaf,xak,xa3];omega
  have et:Dk (.ite (.v v) a b) p++o=⟨12,p,0⟩::⟨3,p+1,v⟩::⟨13,p+3,0⟩::(Dk a (p+4)++(⟨14,p+4+(ei a).length,0⟩::(Dk b (p+5+(ei a).length)++(⟨15,p+5+(ei a).length+(ei b).length,0⟩::o)))):=by simp[Dk]
  rw[e,et];rw[el]at h;refine dh.step (adL _) zD zD (dh.step (tkx hv _) zD zD (dh.step (adM _) zD zD (ia (p+4) _ _ (dh.step (adN _) zD zD ?_))));rw[show p+4+(ei a).length+1=p+5+(ei a).length by omega];refine ib _ _ _ (dh.step (adK _) zD zD ?_);rw[show p+5+(ei a).length+(ei b).length+1=p+(6+(ei a).length+(ei b).length)by omega];exact h
theorem Ev.ir{n dp:Nat}{t:Tr}{l:List Tok}{x:Tok}{l':List Tok}(h:Ev n (fY n (.tight dp l)) (.ok t (x::l')))(hx:x.k<5\/10<=x.k):∀j lv,lv+j=5->Ev n (fY n (.ir lv dp l)) (.ok t (x::l'))
 |0,lv,e=>by
  have:lv=5:=by omega
  subst this;exact .call h .done
 |j+1,lv,e=>by
  have h2:=Ev.ir h hx j (lv+1) zO;show Ev n (if lv=5 then _ else _) _;rw[xac zO];refine .call h2 (.call ?_ .done);show Ev n (if x.k=eO lv then _ else _) _;have:=y6 lv;rw[xac zO];exact .done
theorem Ev.cO{n k:Nat}{t:Tr}{x:Tok}{l:List Tok}{f:Tr->List Tok->Pl}{r:Rs}(hk:x.k=k)(h:Ev n (f t l) r):Ev n ((Rs.ok t (x::l)).cO k f) r:=by
 show Ev n (if x.k=k then _ else _) r;rw[xae hk];exact h
theorem WZ{n:Nat}{t:Tr}(ht:Wr t):∀(p dp:Nat) (x:Tok) (l:List Tok),t.Fit n->dp+t.DB<=1000->Ev n (fY n (.tight dp (Dk t p++x::l))) (.ok t (x::l)):=by
 induction ht with
 |c0=>exact λp dp x l _ _=>.done
 |c1=>exact λp dp x l _ _=>.done
 | @n v a b hv _ _ ia ib=>
  intro p dp x l hf hd;have et:Dk (.ite (.v v) a b) p++x::l=⟨12,p,0⟩::⟨3,p+1,v⟩::⟨13,p+3,0⟩::(Dk a (p+4)++(⟨14,p+4+(ei a).length,0⟩::(Dk b (p+5+(ei a).length)++(⟨15,p+5+(ei a).length+(ei b).length,0⟩::x::l)))):=by simp[Dk]
  rw[et];have dG:dp+(max a.DB b.DB+1)<=1000:=hd;have hvn:v<n:=hf.1;show Ev n (if 1000<=dp then _ else _) _;rw[xac zO];have ev:Ev n (fY n (.tight (dp+1) (⟨3,p+1,v⟩::⟨13,p+3,0⟩::(Dk a (p+4)++(⟨14,p+4+(ei a).length,0⟩::(Dk b (p+5+(ei a).length)++(⟨15,p+5+(ei a).length+(ei b).length,0⟩::x::l))))))) (.ok (.v v) (⟨13,p+3,0⟩::(Dk a (p+4)++(⟨14,p+4+(ei a).length,0⟩::(Dk b (p+5+(ei a).length)++(⟨15,p+5+(ei a).length+(ei b).length,0⟩::x::l)))))):=by
   show Ev n (if n<=v then _ else _) _;rw[xac zO];exact .done
  refine .call (Ev.ir ev (.inr (by show 10<=13;decide)) 5 0 rfl) (Ev.cO rfl ?_);refine .call (Ev.ir (ia (p+4) (dp+1) _ _ hf.2.1 zO) (.inr (by show 10<=14;decide)) 5 0 rfl) (Ev.cO rfl ?_);exact .call (Ev.ir (ib _ (dp+1) _ _ hf.2.2 zO) (.inr (by show 10<=15;decide)) 5 0 rfl) (Ev.cO rfl .done)
theorem JD{n:Nat}{t:Tr}(ht:Wr t)(hf:t.Fit n)(hd:t.DB<=1000)(hl:(ei t).length<=65536):Reads n (ei t) (.ok t []):=by
 have h1:=NL ht 0 [] [⟨0,0+(ei t).length,0⟩] .fin;rw[xaH]at h1;refine .mk hl h1 (.call (Ev.ir (WZ ht 0 0 _ _ hf zO) (.inl (by show 0<5;decide)) 5 0 rfl) (Ev.cO rfl .done))
theorem ZP{n:Nat}:∀{t:Tr},Wr t->t.Fit n->∀k,t.DB<=k->∃L:List (Nat->Bool),L.length+1<=2^k/\(∀g∈L,t.gR g)/\∀g,t.gR g->g∈L\/(∃b:Bool,g=λ_=>b)\/∃v,v<n/\g=λx=>x.testBit v:=by
 intro t ht;induction ht with
 |c0=>exact λ_ k _=>⟨[],xb2,nofun,λg hg=>.inr (.inl ⟨false,hg⟩)⟩
 |c1=>exact λ_ k _=>⟨[],xb2,nofun,λg hg=>.inr (.inl ⟨true,hg⟩)⟩
 | @n v a b hv _ _ ia ib=>
  intro hf k hk;have hk':max a.DB b.DB+1<=k:=hk;obtain⟨j,rfl⟩:∃j,k=j+1:=⟨k-1,by omega⟩;obtain⟨La,a1,a2,a3⟩:=ia hf.2.1 j zO;obtain⟨Lb,b1,b2,b3⟩:=ib hf.2.2 j zO;refine⟨(Tr.ite (.v v) a b).fn::(La++Lb),?_,?_,?_⟩
  ·rw[xak,xaf,xcB];omega
  ·intro g hg;rcases xag.1 hg with rfl|hg
   ·exact Or.inl rfl
   rcases xaq.1 hg with hg|hg
   ·exact Or.inr (Or.inr (Or.inl (a2 g hg)))
   exact Or.inr (Or.inr (Or.inr (b2 g hg)))
  rintro g (hg|hg|hg|hg)
  ·subst hg;exact .inl (.head _)
  ·exact .inr (.inr ⟨v,hf.1,hg⟩)
  ·rcases a3 g hg with h|h
   ·exact .inl (.tail _ (xad _ h))
   exact .inr h
  rcases b3 g hg with h|h
  ·exact .inl (.tail _ (xaa _ h))
  exact .inr h
theorem SQ{t:Tr}(ht:Wr t):∀k,t.DB<=k->(ei t).length+6<=7*2^k:=by
 induction ht with
 |c0=>intro k _;show 1+6<=7*2^k;have:1<=2^k:=xb2;omega
 |c1=>intro k _;show 1+6<=7*2^k;have:1<=2^k:=xb2;omega
 | @n v a b hv _ _ ia ib=>
  intro k hk;have hk':max a.DB b.DB+1<=k:=hk;obtain⟨j,rfl⟩:∃j,k=j+1:=⟨k-1,by omega⟩;have h1:=ia j zO;have h2:=ib j zO;have el:(ei (.ite (.v v) a b)).length=6+(ei a).length+(ei b).length:=by simp only[ei,xaf,xak,xa3];omega
  rw[el,xcB];omega
end Go.Proofs.Fm
namespace Go.Proofs.Sw
structure Wd where
 t:List UInt8
 a:Nat
 e:Nat
def qL:Nat->Option (List UInt8)->List UInt8->List Wd
 |_,none,[]=>[]
 |i,some c,[]=>[⟨c,i-c.length,i⟩]
 |i,none,b::r=>if b=32 then qL (i+1) none r else qL (i+1) (some [b]) r
 |i,some c,b::r=>if b=32 then⟨c,i-c.length,i⟩::qL (i+1) none r else qL (i+1) (some (c++[b])) r
def EX:List UInt8->Nat
 | []=>0
 |b::r=>if b=32 then EX r+1 else 0
def Zy:Nat->List UInt8->Option Nat
 |n,[]=>some n
 |n,b::r=>if 48<=b.toNat/\b.toNat<=57 then Zy (10*n+(b.toNat-48)) r else none
def VO(s:List UInt8):Option Nat:=if s.length<1\/18<s.length then none else Zy 0 s
def low(b:UInt8):Bool:=decide (97<=b.toNat) &&decide (b.toNat<=122)
def ltr(s:List UInt8):Bool:=s.all low&&decide (1<=s.length) &&decide (s.length<=16)
def sF:List (List UInt8×List UInt8):=[([110,101,119],[110,110]),([97,110,100],[100,115,115]),([111,114],[100,115,115]),([120,111,114],[100,115,115]),([110,111,116],[100,115]),
 ([100,114,111,112],[115]),([115,104,111,119],[115]),([101,118,97,108],[115,110]),([115,97,116,115],[115]),([108,101,97,115,116],[115]),
 ([115,97,109,101],[115,115]),([108,105,118,101],[]),([111,114,100,101,114],[43]),([115,119,97,112],[110]),
 ([115,105,102,116],[110]),([115,101,116,116,108,101],[110]),([119,105,110,100,111,119],[110]),([101,120,97,99,116],[]),([110,97,109,101,115],[])]
def idx(s:List UInt8):Nat->List (List UInt8×List UInt8)->Option Nat
 |_,[]=>none
 |i,a::r=>if a.1=s then some i else idx s (i+1) r
def cmd(s:List UInt8):Option Nat:=idx s 0 sF
def wR(s:List UInt8):Bool:=ltr s&& (cmd s).isNone
def CX(c:UInt8)(t:List UInt8):Option Nat:=if c=110 then VO t else if wR t then some 0 else none
def A9(m:Nat):List UInt8->List Wd->Option Nat
 | [],[]=>none
 |_::_,[]=>some m
 | [],w::_=>some w.a
 |c::r,w::l=>if(CX c w.t).isNone then some w.a else A9 m r l
def rdv:List UInt8->List Wd->List (Wd×Nat)
 |c::r,w::l=>(w,(CX c w.t).getD 0)::rdv r l
 |_,_=>[]
def A8(b:List UInt8->Bool):List UInt8->List Wd->Option Nat
 |c::r,w::l=>if c=115/\b w.t=false then some w.a else A8 b r l
 |_,_=>none
def JX(s:List UInt8)(l:List Wd):List UInt8:=if s=[43]then List.replicate l.length 110 else s
theorem kP:∀(l:List UInt8) (i:Nat) (c:Option (List UInt8)),(qL i c l).length<=l.length+1/\∀w∈qL i c l,w.t.length<=(c.getD []).length+l.length/\w.e<=i+l.length
 | [],i,none=>⟨xaA _,λw hw=>by cases hw⟩
 | [],i,some c=>⟨xal _,λw hw=>by
  have hw:w∈[⟨c,i-c.length,i⟩]:=hw;rw[xaG.1 hw];exact⟨xal _,xal _⟩⟩
 |b::r,i,none=>by
  have h1:=kP r (i+1) none;have h2:=kP r (i+1) (some [b]);unfold qL;split
  ·refine⟨by rw[xak];omega,λw hw=>?_⟩;have:=h1.2 w hw;rw[xak];exact⟨by omega,by omega⟩
  refine⟨by rw[xak];omega,λw hw=>?_⟩;have:=h2.2 w hw;simp only[xdA,xdz,xak,xa3]at this⊢;exact⟨by omega,by omega⟩
 |b::r,i,some c=>by
  have h1:=kP r (i+1) none;have h2:=kP r (i+1) (some (c++[b]));unfold qL;split
  ·refine⟨by simp only[xak];omega,λw hw=>?_⟩;rcases xag.1 hw with rfl|hw
   ·simp only[xdA,xak];exact⟨by omega,by omega⟩
   have:=h1.2 w hw;simp only[xdA,xdz,xak,xa3]at this⊢;exact⟨by omega,by omega⟩
  refine⟨by simp only[xak];omega,λw hw=>?_⟩;have:=h2.2 w hw;simp only[xdA,xak,xaf,xa3]at this⊢;exact⟨by omega,by omega⟩
theorem RK:∀l:List UInt8,EX l<=l.length
 | []=>xal _
 |b::r=>by
  have:=RK r;unfold EX;rw[xak];split<;>omega
end Go.Proofs.Sw
set_option maxRecDepth 100000
namespace Go.Proofs
open Go Go.Sx Tryz
section
open Fm Sw
def Sw.Wd.cells(w:Wd):List zV:=[aq w.t,nI w.a,nI w.e]
theorem Sw.Wd.one(w:Wd):∀u∈w.cells,u.oneCell'=true:=λu hu=>by
 simp only[Wd.cells,xag,xaw,xaZ]at hu;rcases hu with rfl|rfl|rfl<;>rfl
def Cn(i:Nat):Option (List UInt8)->Int
 |none=> -1
 |some c=>((i-c.length:Nat):Int)
theorem N6(b:UInt8)(k:Nat)(hk:k<256):b.toNat=k↔b=UInt8.ofNat k:=by
 constructor
 ·intro h;apply xeD.1;rw[h,xdL,xa5 (by simpa using hk)]
 rintro rfl;rw[xdL,xa5 (by simpa using hk)]
theorem m4{l:List UInt8}{i:Nat}(h:i<l.length):∃b,l[i]? =some b/\l.drop i=b::l.drop (i+1):=⟨l[i],xab h,xaV h⟩
set_option maxHeartbeats 1000000 in
theorem xh(l:List UInt8)(hl:l.length<=400)(B:Hp):Fc zQ 13 #[aq l] B (λv H=>∃N,H=N++B/\aM 54 3 v ((qL 0 none l).map Wd.cells) N):=by
 refine aK λg=>Nh ?_;refine⟨λvs H=>∃(i:Nat) (cur:Option (List UInt8)) (acc:List Wd) (C:Hp) (v:zV),vs=[v,iv (Cn i cur),nI i]/\i<=l.length+1/\acc.length<=i/\(∀c,cur=some c->1<=c.length/\c.length<=i/\c=(l.take i).drop (i-c.length))/\(i<=l.length->qL 0 none l=acc++qL i cur (l.drop i))/\(i=l.length+1->qL 0 none l=acc)/\aM 54 3 v (acc.map Wd.cells) C/\H=C++B,λvs _=>l.length+1-bA vs 2,
  JE.mk ⟨0,none,[],[],_,rfl,xaA _,xaA _,nofun,λ_=>rfl,λh=>absurd h zO,aM.nil _ _,rfl⟩,?_⟩
 rintro w5 w6 w7 H ⟨i,cur,acc,C,v,⟨⟩,hi,ha,hc,hw,ie,hs,rfl⟩ gs;refine aN.of (ae.xO (Br.dec (λhle=>?_) (λhgt=>?_)));rotate_left
 ·have e:i=l.length+1:=by omega
  exact aQ.mk (.refl _) ⟨C,rfl,by rw[ie e];exact hs⟩
 have hw:=hw hle;have cJ:((acc.map Wd.cells).length+1)*32<=140737488355328:=by rw[xax];omega
 have hz:∃z:List zV,(Value.agg #[aq [],nI 0,nI 0]).cells=z.toArray/\z.length=3:=⟨[_,_,_],rfl,rfl⟩;intro J10 h10
 /- a word ends -/
 have close:∀c,cur=some c->(qL i cur (l.drop i)=⟨c,i-c.length,i⟩::qL (i+1) none (l.drop (i+1)))->
   aZ zQ g (bM Tryz.f13 8 4) (ev (λs=>cond (Nat.beq s 30) (aq l) (cond (Nat.beq s 31) (iv (Cn i cur)) (cond (Nat.beq s 32) (nI i) (undef))))) (C++B) λv25=>
   Build zQ 54 [(0,v25),(1,iv (Cn i cur)),(2,nI i)] λv26=>
   aj zQ 46 1 [(0,v26)] (C++B) λZS H28=>
   App zQ 54 3 32 (.agg #[(.string (ByteArray.mk #[])),(iv 0),(iv 0)]) H28 w5 ZS λv31 H32=>
   JE J10 [v31,(iv (-1))] H32:=λc e hn=>by
  subst e;obtain⟨h1,h2,h3⟩:=hc c rfl;refine aZ.mA (l:=l) (i:=i-c.length) (j:=i) rfl zK rfl (.inr ⟨_,.i64,rfl,rfl⟩) (.inr ⟨_,.i64,rfl,rfl⟩) (xdP _ _) hle ?_;rw[<-h3];refine Build.mk (cs:=(⟨c,i-c.length,i⟩:Wd).cells) zK (aj.one (e:=54) (z:=.agg #[aq [],nI 0,nI 0]) (k:=3) zK zK zK zD rfl λbs=>?_);refine hs.mi (.cons .left) (.head _) rfl (Wd.one _) hz cJ (by rw[xax];omega) λv' C' ho=>?_;refine JE.mk (h10 _ _ _ λ_=>ae.inc (az.of .tail ⟨i+1,none,acc++[⟨c,i-c.length,i⟩],C',v',rfl,by omega,by simp;omega,nofun,λh=>?_,λh=>?_,by rw[xaB];exact ho,rfl⟩ (by simp only[bA];omega)))
  ·rw[hw,hn,xai];rfl
  rw[hw,hn,xbc zO];rfl
 refine aN.of (ae.bB ?_);by_cases he:i=l.length
 ·subst he;refine cz.or true (λh=>absurd h zI) rfl λ_=>?_;rw[xau rfl,xck]at*;cases cur with
  |none=>
   refine cz.and false (λ_=>ae.geq ⟨rfl,rfl⟩) rfl λ_=>Br.no ?_;refine Un.not (cz.and false (λh=>absurd h zD) rfl λ_=>Br.no ?_);refine JE.mk (h10 _ _ _ λ_=>ae.inc (az.of (.refl _) ⟨l.length+1,none,acc,C,w5,rfl,xal _,by omega,nofun,λh=>absurd h zO,λ_=>?_,hs,rfl⟩ (by simp only[bA];omega)));rw[hw];exact xaH _
  |some c=>
   refine cz.and true (λ_=>ae.geq ⟨rfl,by rw[xau (show(0:Int)<=Cn l.length (some c)from xcf _)]⟩) rfl λ_=>Br.yes ?_;exact close c rfl (by rw[xbc (Nat.le_succ _)];rfl)
 obtain⟨b,hb,hd⟩:=m4 (l:=l) (i:=i) zO;rw[xap he];refine cz.or (decide (b.toNat=32)) (λ_=>bP.of hb (ae.bB (b:=32) ⟨rfl,rfl⟩)) rfl λ_=>?_;rw[xdZ];have e32:b.toNat=32↔b=32:=N6 b 32 zD;rw[hd]at hw;by_cases I0:b=32
 ·rw[xau (e32.2 I0)];subst I0;cases cur with
  |none=>
   refine cz.and false (λ_=>ae.geq ⟨rfl,rfl⟩) rfl λ_=>Br.no ?_;refine Un.not (cz.and false (λh=>absurd h zD) rfl λ_=>Br.no ?_);refine JE.mk (h10 _ _ _ λ_=>ae.inc (az.of (.refl _) ⟨i+1,none,acc,C,w5,rfl,by omega,by omega,nofun,λh=>?_,λh=>absurd h zO,hs,rfl⟩ (by simp only[bA];omega)));rw[hw];rfl
  |some c=>
   refine cz.and true (λ_=>ae.geq ⟨rfl,by rw[xau (show(0:Int)<=Cn i (some c)from xcf _)]⟩) rfl λ_=>Br.yes ?_;exact close c rfl (by rw[hd];rfl)
 rw[xap λh=>I0 (e32.1 h)];refine cz.and false (λh=>absurd h zD) rfl λ_=>Br.no ?_;have kA:l.take (i+1)=l.take i++[b]:=by rw[xbv,hb];rfl
 cases cur with
 |none=>
  refine Un.not (cz.and true (λ_=>ae.lss ⟨rfl,rfl⟩) rfl λ_=>Br.yes ?_);refine JE.mk (h10 _ _ _ λ_=>ae.inc (az.of (.refl _) ⟨i+1,some [b],acc,C,w5,?_,by omega,by omega,λc hc=>?_,λh=>?_,λh=>absurd h zO,hs,rfl⟩ (by simp only[bA];omega)))
  ·simp[Cn]
  ·cases hc;refine⟨xal _,by simp,?_⟩;rw[kA,xbg,xb1,xdl,xbc zP,xbA,xbX zO,xcC];rfl
  rw[hw];show _=acc++qL (i+1) (some [b]) (l.drop (i+1));congr 1
  conv=>lhs;unfold qL
  rw[xac I0]
 |some c=>
  obtain⟨h1,h2,h3⟩:=hc c rfl;refine Un.not (cz.and false (λ_=>ae.lss ⟨rfl,by rw[xap (show¬Cn i (some c)<0 from Int.not_lt.2 (xcf _))]⟩) rfl λ_=>Br.no ?_);refine JE.mk (h10 _ _ _ λ_=>ae.inc (az.of (.refl _) ⟨i+1,some (c++[b]),acc,C,w5,?_,by omega,by omega,λc' mu=>?_,λh=>?_,λh=>absurd h zO,hs,rfl⟩ (by simp only[bA];omega)))
  ·simp only[Cn,xaf,xbg,Nat.add_sub_add_right]
  ·cases mu;refine⟨by simp,by simp;omega,?_⟩;rw[kA,xaf,xbg,Nat.add_sub_add_right,xed zP,<-h3]
  rw[hw];congr 1
  conv=>lhs;unfold qL
  rw[xac I0]
theorem Oy(l:List UInt8)(hl:l.length<=400)(w:Wd)(hw:w.e<=l.length)(B:Hp):Rd zQ 18 #[aq l,.agg w.cells.toArray] B (· =nI (w.e+EX (l.drop w.e))):=by
 refine aK λg=>M8 λb1 _=>Ld.f (v:=nI w.e) ?_;refine⟨λvs H=>∃i,vs=[nI i]/\i<=l.length/\w.e+EX (l.drop w.e)=i+EX (l.drop i)/\H=(b1,.cells (Value.cells (.agg w.cells.toArray)) 54 zZ)::B,λvs _=>l.length-bA vs 0,JE.mk ⟨w.e,rfl,hw,rfl,rfl⟩,?_⟩;rintro w9 H ⟨i,⟨⟩,hi,he,rfl⟩ gs;refine aN.of (ae.cX ?_);by_cases h:i<l.length
 ·obtain⟨b,hb,hd⟩:=m4 h;rw[xau h];refine cz.and (decide (b.toNat=32)) (λ_=>bP.of hb (ae.bB (b:=32) ⟨rfl,rfl⟩)) rfl λ_=>?_;rw[xct];have e32:b.toNat=32↔b=32:=N6 b 32 zD;rw[hd]at he;refine Br.dec (λI0=>?_) (λI0=>?_)
  ·refine ae.inc (az.of (.refl _) ⟨i+1,rfl,h,?_,rfl⟩ (by simp only[bA];omega));rw[he];show i+(if b=32 then EX (l.drop (i+1))+1 else 0)=_;rw[xae (e32.1 I0)];omega
  refine bD.mk .tail ?_;rw[he];unfold EX;rw[xac λh=>I0 (e32.2 h)];rfl
 rw[xap h];refine cz.and false (λh=>absurd h zD) rfl λ_=>Br.no (bD.mk .tail ?_);rw[he,xbc zO];rfl
def nmR:Option Nat->zV
 |some n=>.tuple #[nI n,.bool true]
 |none=>.tuple #[nI 0,.bool false]
theorem DQ(l:List UInt8)(hl:l.length<=400)(B:Hp):Rd zQ 28 #[aq l] B (· =nmR (VO l)):=by
 refine aK λg=>MX (aN.of (ae.cX (b:=1) (cz.or (decide (18<l.length)) (λ_=>aN.of (ae.gW (b:=18) ⟨rfl,rfl⟩)) rfl λ_=>?_)));rw[<-xbp];unfold VO;refine Br.dec (λh=>?_) (λh=>?_)
 ·exact bD.mk (.refl _) (by rw[xae h];rfl)
 rw[xac h];have h18:l.length<=18:=by omega
 refine aN.of ?_;refine⟨λvs H=>∃i n,vs=[nI n,nI i]/\i<=l.length/\n<10^i/\Zy 0 l=Zy n (l.drop i)/\H=B,λvs _=>l.length-bA vs 1,JE.mk ⟨0,0,rfl,xaA _,by decide,rfl,rfl⟩,?_⟩;rintro W3 ZR H ⟨i,n,⟨⟩,hi,hn,he,rfl⟩ gs;refine ae.cX (Br.dec (λhlt=>?_) (λhge=>?_))
 ·obtain⟨b,hb,hd⟩:=m4 hlt;rw[hd]at he;refine bP.of hb (ae.cX (b:=48) (cz.or (decide (57<b.toNat)) (λ_=>bP.of hb (ae.gW (b:=57) ⟨rfl,rfl⟩)) rfl λ_=>?_));rw[<-xbp];have hp:10^(i+1)<=10^18:=xat zD zO;have hq:10^(i+1)=10^i*10:=xcB ..;have aje:(10:Nat)^18=1000000000000000000:=by decide
  have hb8:=b.toNat_lt;refine Br.dec (λzW=>?_) (λhok=>?_)
  ·refine bD.mk (.refl _) ?_;rw[he];unfold Zy;rw[xac zO];rfl
  refine ae.mI (a:=10) (by simp only[aS];omega) (bP.of hb (ae.gD (b:=48) (by simp only[aS];omega) zO (aH.q (ae.dX (by simp only[aS];omega) ?_))));refine ae.inc (az.of (.refl _) ⟨i+1,10*n+(b.toNat-48),rfl,hlt,by omega,?_,rfl⟩ (by simp only[bA];omega));rw[he]
  conv=>lhs;unfold Zy
  rw[xae zO]
 refine bD.mk (.refl _) ?_;rw[he,xbc zO];rfl
theorem AY(l:List UInt8)(hl:l.length<=400)(B:Hp):Rd zQ 29 #[aq l] B (· =.bool (ltr l)):=by
 refine aK λg=>MW (aN.of ?_);refine⟨λvs H=>∃i,vs=[nI i]/\i<=l.length/\l.all low=(l.drop i).all low/\H=B,λvs _=>l.length-bA vs 0,JE.mk ⟨0,rfl,xaA _,rfl,rfl⟩,?_⟩;rintro w6 H ⟨i,⟨⟩,hi,he,rfl⟩ gs;refine ae.cX (Br.dec (λhlt=>?_) (λhge=>?_))
 ·obtain⟨b,hb,hd⟩:=m4 hlt;rw[hd,List.all_cons]at he;refine bP.of hb (ae.cX (b:=97) (cz.or (decide (122<b.toNat)) (λ_=>bP.of hb (ae.gW (b:=122) ⟨rfl,rfl⟩)) rfl λ_=>?_));rw[<-xbp];refine Br.dec (λzW=>?_) (λhok=>?_)
  ·refine bD.mk (.refl _) ?_;have:low b=false:=by
    unfold low;rw[xdy,xbk,xbk];omega
   unfold ltr;rw[he,this];rfl
  refine ae.inc (az.of (.refl _) ⟨i+1,rfl,hlt,?_,rfl⟩ (by simp only[bA];omega));have:low b=true:=by
   unfold low;rw[xaC,xaP,xaP];omega
  rw[he,this];rfl
 rw[xbc zO]at he;refine aN.of (ae.kM (b:=1) (cz.and (decide (l.length<=16)) (λ_=>aN.of (ae.xO (b:=16) ⟨rfl,rfl⟩)) rfl λ_=>bD.mk (.refl _) ?_));unfold ltr;rw[he];rfl
end
section
open Fm Sw
noncomputable def Rz:zL:=[46,47,48,49,50,51,52,53,54,55,
 56,57,58,59,60,61,62,63,64]
noncomputable def pE(sp:Nat)(i:Nat):List zV:=[aq (sF.getD i ([],[])).1,aq (sF.getD i ([],[])).2,.func (.func (Rz.getD i 0)) #[ptr sp] #[]]
noncomputable def Cy(sp:Nat):List (List zV):=(List.range 19).map (pE sp)
theorem Ak(sp i:Nat):∀u∈pE sp i,u.oneCell'=true:=λu hu=>by
 simp only[pE,xag,xaw,xaZ]at hu;rcases hu with rfl|rfl|rfl<;>rfl
theorem zh:∀u∈[aq [],aq [],Value.nilFunc],u.oneCell'=true:=λu hu=>by
 simp only[xag,xaw,xaZ]at hu;rcases hu with rfl|rfl|rfl<;>rfl
theorem Cv(sp:Nat):(Cy sp).length=19:=by unfold Cy;rw[xax,xaK]
theorem Cw(sp:Nat){i:Nat}(hi:i<19):(Cy sp)[i]? =some (pE sp i):=by
 unfold Cy;rw[xar,xdp hi];rfl
theorem Cq(sp:Nat)(B:Hp):Fc zQ 24 #[ptr sp] B (λv H=>∃N,H=N++B/\aM 50 3 v (Cy sp) N):=by
 refine aK λg=>M1 ?_;refine Build.mk (cs:=pE sp 0) zK (Build.mk (cs:=pE sp 1) zK (Build.mk (cs:=pE sp 2) zK (Build.mk (cs:=pE sp 3) zK (Build.mk (cs:=pE sp 4) zK ?_))));refine Build.mk (cs:=pE sp 5) zK (Build.mk (cs:=pE sp 6) zK (Build.mk (cs:=pE sp 7) zK (Build.mk (cs:=pE sp 8) zK (Build.mk (cs:=pE sp 9) zK ?_))));refine Build.mk (cs:=pE sp 10) zK (Build.mk (cs:=pE sp 11) zK (Build.mk (cs:=pE sp 12) zK (Build.mk (cs:=pE sp 13) zK (Build.mk (cs:=pE sp 14) zK ?_))));refine Build.mk (cs:=pE sp 15) zK (Build.mk (cs:=pE sp 16) zK (Build.mk (cs:=pE sp 17) zK (Build.mk (cs:=pE sp 18) zK ?_)));refine aj.many (e:=50) (k:=3) (z:=.agg #[aq [],aq [],.nilFunc]) (Cy sp) zK zK zK (by rw[Cv];decide) (λr hr=>?_) rfl zK λbw=>?_
 ·obtain⟨i,_,rfl⟩:=xam.1 hr;rfl
 exact aQ.mk (.refl _) ⟨[_],rfl,aM.made (T:=50) (k:=3) (b:=bw) (Cy sp) (λr hr=>by obtain⟨i,_,rfl⟩:=xam.1 hr;rfl)⟩
theorem Ka(b:Nat)(t nm:List UInt8)(x y:zV)(B:Hp)(hb:(b,Obj.cells #[aq nm] 9 zZ)∈B):Rd zQ 26 #[.agg #[aq t,x,y],ptr b] B (· =.bool (decide (t=nm))):=by
 refine aK λg=>MZ λb1 _=>Ld.f (v:=aq t) ?_;exact Ld.mk (.tail _ hb) rfl (ae.tT (bD.mk .tail rfl))
def ixV:Option Nat->zV
 |some i=>nI i
 |none=>iv (-1)
theorem PN(nm:List UInt8){i:Nat}(hi:i<19):idx nm i (sF.drop i)=if(sF.getD i ([],[])).1=nm then some i else idx nm (i+1) (sF.drop (i+1)):=by
 have hc:i<sF.length:=hi;rw[xaV hc];have:sF.getD i ([],[])=sF[i]:=by rw[xan,xab hc];rfl
 rw[this];rfl
theorem PJ{sp b:Nat}{nm:List UInt8}{v:zV}{N B:Hp}(hs:aM 50 3 v (Cy sp) N)(hN:∀y∈N,y∈B)(hb:(b,Obj.cells #[aq nm] 9 zZ)∈B):
  Rd zQ 25 #[v,.func (.func 26) #[] #[ptr b]] B (· =ixV (cmd nm)):=by
 refine aK λg=>M0 (hs.bE ?_);rw[Cv];refine⟨λvs H=>∃i,vs=[nI i]/\i<=19/\cmd nm=idx nm i (sF.drop i)/\H=B,λvs _=>19-bA vs 0,JE.mk ⟨0,rfl,xaA _,rfl,rfl⟩,?_⟩;rintro w6 H ⟨i,⟨⟩,hi,he,rfl⟩ gs;refine ae.cX (b:=19) (Br.dec (λhlt=>?_) (λhge=>?_))
 ·refine hs.oh (Cw sp hlt) hN (bK.of rfl zK (aa.eq (Ka b _ nm _ _ H hb) (Br.dec (λh=>?_) (λh=>?_))))
  ·refine bD.mk (.refl _) ?_;rw[he,PN nm hlt,xae h];rfl
  refine ae.inc (az.of (.refl _) ⟨i+1,rfl,hlt,?_,rfl⟩ (by simp only[bA];omega));rw[he,PN nm hlt,xac h]
 refine bD.mk (.refl _) ?_;have:i=19:=by omega
 subst this;rw[he];rfl
noncomputable def fdV(sp:Nat):Option Nat->zV
 |some i=>.tuple #[.agg (pE sp i).toArray,.bool true]
 |none=>.tuple #[.agg #[aq [],aq [],.nilFunc],.bool false]
theorem ryq(nm:List UInt8):∀(l:List (List UInt8×List UInt8)) (i j:Nat),idx nm i l=some j->i<=j/\j<i+l.length
 | [],i,j,h=>by cases h
 |a::l,i,j,h=>by
  unfold idx at h;split at h
  ·cases h;simp
  have:=ryq nm l (i+1) j h;rw[xak];omega
theorem Rx{nm:List UInt8}{j:Nat}(h:cmd nm=some j):j<19:=by
 have:=ryq nm sF 0 j h;have e:sF.length=19:=rfl;omega
theorem tZ(sp:Nat)(nm:List UInt8)(B:Hp):Rd zQ 14 #[ptr sp,aq nm] B (· =fdV sp (cmd nm)):=by
 refine aK λg=>Ng λb1 _ b3 _=>aa.fq (Cq sp _) ?_;rintro v H ⟨N,rfl,hs⟩;refine aa.eq (PJ hs (λy hy=>xad _ hy) (xaa _ (.tail _ (.head _)))) ?_;cases hc:cmd nm with
 |none=>
  refine ae.lss (Br.yes (Build.mk (cs:=[aq [],aq [],.nilFunc]) zK (St.whole (r:=[aq [],aq [],.nilFunc]) ((cu.head _).aO N) rfl rfl zh (ax.whole (r:=[aq [],aq [],.nilFunc]) (xaa _ (.head _)) rfl ?_))));exact bD.mk (.bN (.skip .tail)) rfl
 |some i=>
  have hi:=Rx hc;refine ae.lss (Br.F ?_ (by show¬((i:Nat):Int)<0;omega));refine hs.oh (Cw sp hi) (λy hy=>xad _ hy) (St.whole (r:=pE sp i) ((cu.head _).aO N) rfl rfl (Ak sp i) (ax.whole (r:=pE sp i) (xaa _ (.head _)) rfl ?_));exact bD.mk (.bN (.skip .tail)) rfl
theorem Yr(sp:Nat)(o:Option Nat):∃r:List zV,r.length=3/\(∀u∈r,u.oneCell'=true)/\fdV sp o=.tuple #[.agg r.toArray,.bool o.isSome]:=by
 cases o with
 |none=>exact⟨[aq [],aq [],.nilFunc],rfl,zh,rfl⟩
 |some i=>exact⟨pE sp i,rfl,Ak sp i,rfl⟩
theorem AW(sp:Nat)(t:List UInt8)(ht:t.length<=400)(B:Hp):Rd zQ 16 #[ptr sp,aq t] B (· =.bool (wR t)):=by
 refine aK λg=>Nc (aa.eq (tZ sp t B) ?_);obtain⟨r,hr,h1,e⟩:=Yr sp (cmd t);rw[e];refine Ext.mk rfl (Ext.mk rfl λb5 _=>St.whole (r:=r) (.head _) rfl hr h1 (aa.eq (AY t ht _) (cz.and (!(cmd t).isSome) (λ_=>Un.not ⟨rfl,rfl⟩) rfl λ_=>?_)));refine bD.mk .tail ?_;unfold wR;cases cmd t<;>rfl
end
section
open Fm
def Fm.Tok.cells(t:Tok):List zV:=[nI t.k,nI t.p,nI t.v]
theorem Fm.Tok.one(t:Tok):∀u∈t.cells,u.oneCell'=true:=λu hu=>by
 simp only[Tok.cells,xag,xaw,xaZ]at hu;rcases hu with rfl|rfl|rfl<;>rfl
def VK(s:List UInt8×Nat):List zV:=[aq s.1,nI s.2]
theorem OE(B:Hp):Fc zQ 75 #[] B (λv H=>∃N,H=N++B/\aM 145 2 v (eu.map VK) N):=by
 refine aK λg=>Mv ?_;refine Build.mk (cs:=[aq [60,45,62],nI 9]) zK (Build.mk (cs:=[aq [45,62],nI 8]) zK (Build.mk (cs:=[aq [48],nI 1]) zK (Build.mk (cs:=[aq [49],nI 2]) zK ?_)));refine Build.mk (cs:=[aq [33],nI 4]) zK (Build.mk (cs:=[aq [38],nI 5]) zK (Build.mk (cs:=[aq [94],nI 6]) zK (Build.mk (cs:=[aq [124],nI 7]) zK ?_)));refine Build.mk (cs:=[aq [40],nI 10]) zK (Build.mk (cs:=[aq [41],nI 11]) zK (Build.mk (cs:=[aq [91],nI 12]) zK (Build.mk (cs:=[aq [63],nI 13]) zK ?_)));refine Build.mk (cs:=[aq [58],nI 14]) zK (Build.mk (cs:=[aq [93],nI 15]) zK ?_);refine aj.many (e:=145) (k:=2) (z:=.agg #[aq [],nI 0]) (eu.map VK) zK zK zK zD zD rfl rfl λbw=>?_;exact aQ.mk (.refl _) ⟨[_],rfl,aM.made (T:=145) (k:=2) (b:=bw) (eu.map VK) zD⟩
def sC(l:List UInt8)(j:Nat):Option (Nat×Nat×Nat):=
 match kO l with
 |some (n,w)=>some (3,n,w)
 |none=>(wF l (eu.take j)).map λq=>(q.1,0,q.2)
def QY(p:Nat):Option (Nat×Nat×Nat)->Tok
 |some q=>⟨q.1,p,q.2.1⟩
 |none=>⟨16,p,0⟩
def tf:Option (Nat×Nat×Nat)->Nat
 |some q=>q.2.2
 |none=>0
theorem I2(l:List UInt8)(p:Nat):QY p (sC l 14)=⟨(cD l).1,p,(cD l).2.1⟩/\tf (sC l 14)=(cD l).2.2:=by
 unfold sC cD;cases kO l with
 |some q=>exact⟨rfl,rfl⟩
 |none=>
  simp only[show eu.take 14=eu from rfl];cases wF l eu with
  |some q=>exact⟨rfl,rfl⟩
  |none=>exact⟨rfl,rfl⟩
theorem tY(l:List UInt8)(s:List UInt8×Nat):∀L:List (List UInt8×Nat),wF l (L++[s])=match wF l L with|some q=>some q|none=>if s.1.isPrefixOf l=true then some (s.2,s.1.length)else none
 | []=>by simp only[xa6,wF]
 |a::L=>by
  rw[xaS];unfold wF;split
  ·rfl
  exact tY l s L
theorem QX{l:List UInt8}{j:Nat}(h:tf (sC l j)=0):sC l j=none:=by
 unfold sC at h⊢;cases hx:kO l with
 |some q=>
  obtain⟨n,w⟩:=q;rw[hx]at h;exfalso;cases l with
  |nil=>simp[kO]at hx
  |cons b r=>
   by_cases hb:b=120/\0<(num 0 0 r).2
   ·rw[show kO (b::r)=some ((num 0 0 r).1,(num 0 0 r).2+1)from xae hb]at hx;cases hx;simp[tf]at h
   rw[show kO (b::r)=none from xac hb]at hx;cases hx
 |none=>
  rw[hx]at h;simp only at h⊢;cases hs:wF l (eu.take j)with
  |none=>rfl
  |some q=>
   rw[hs]at h;have:=(DT (eu.take j) (λs hs=>(show∀s∈eu,s.1≠[]/\∀b∈s.1,b.toNat<128 by decide) s (xcj hs)) q hs).1;simp only[xbj,tf]at h;omega
theorem QW{l:List UInt8}{j:Nat}(hj:j<14){s:List UInt8×Nat}(hs:eu[j]? =some s):sC l (j+1)=if tf (sC l j)=0/\s.1.isPrefixOf l=true then some (s.2,0,s.1.length)else sC l j:=by
 by_cases h0:tf (sC l j)=0
 ·have hn:=QX h0;unfold sC at hn⊢;cases hx:kO l with
  |some q=>rw[hx]at hn;cases hn
  |none=>
   rw[hx]at hn;simp only at hn⊢;rw[xbv,hs];simp only[xdO];rw[tY];have hn':wF l (eu.take j)=none:=by simpa using hn
   rw[hn'];simp only[xce,tf,xdt];split<;>rfl
 rw[xac λh=>h0 h.1];unfold sC at h0⊢;cases hx:kO l with
 |some q=>rfl
 |none=>
  rw[hx]at h0;simp only at h0⊢;cases hq:wF l (eu.take j)with
  |none=>rw[hq]at h0;simp[tf]at h0
  |some q=>
   rw[xbv,hs];simp only[xdO];rw[tY,hq]
def XC:Hp->Nat
 | []=>0
 |x::r=>match x.2 with
  | .stringIter _ p=>p
  |_=>XC r
theorem zu{T:TypeId}{k:Nat}{v:zV}{rs:List (List zV)}{C B:Hp}{b p:Nat}{s:ByteArray}(h:aM T k v rs C):XC (C++((b,.stringIter s p)::B))=p:=by
 rcases h with⟨_,_,rfl⟩|⟨c,j,_,rfl,_⟩<;>rfl
theorem Fm.dh.at{l:List UInt8}{p:Nat}(hp:p<l.length):∃c,l[p]? =some c/\l.drop p=c::l.drop (p+1):=⟨l[p],xab hp,xaV hp⟩
theorem Td{l:List UInt8}(h:(cD l).1=16):(cD l).2.1=0:=by
 unfold cD at h⊢;cases hx:kO l with
 |some q=>rw[hx]at h;cases h
 |none=>
  simp only;cases wF l eu with
  |some q=>rfl
  |none=>rfl
set_option maxHeartbeats 2000000 in
theorem QK(l:List UInt8)(hl:l.length<=65536)(B:Hp):Fc zQ 33 #[aq l] B (λv H=>∃(o:List Tok) (N:Hp),H=N++B/\dh 0 l o/\o.length<=l.length+1/\aM 140 3 v (o.map Tok.cells) N):=by
 refine aK λg=>MU ?_;refine cU.OT rfl zK rfl λb=>?_;refine⟨λvs H=>∃(p q:Nat) (acc:List Tok) (C:Hp) (v:zV),vs=[v,nI q]/\p<=l.length/\q<=l.length/\acc.length<=max p q/\(∀o,dh (max p q) (l.drop (max p q)) o->dh 0 l (acc++o))/\(∀j,p<=j->j<q->∃c,l[j]? =some c/\c.toNat<128)/\aM 140 3 v (acc.map Tok.cells) C/\H=C++((b,.stringIter ⟨l.toArray⟩ p)::B),λvs H=>l.length-XC H,JE.mk ⟨0,0,[],[],_,rfl,xaA _,xaA _,xaA _,λo h=>h,λj h1 h2=>absurd h2 zO,aM.nil _ _,rfl⟩,?_⟩;rintro w7 w8 H ⟨p,q,acc,C,v,⟨⟩,hp,hq,ha,hT,hb,hs,rfl⟩ gs;have hz:∃z:List zV,(Value.agg #[iv 0,iv 0,iv 0]).cells=z.toArray/\z.length=3:=⟨[_,_,_],rfl,rfl⟩;refine cU.VP (C:=B) (c:=λX=>C++(X++B)) rfl rfl (.app (.left (C:=[_]))) (λhlt=>?_) (λhge=>?_);rotate_left
 ·have mq:p=l.length:=by omega
  subst mq;refine Ext.mk rfl (Br.no (aN.of (Build.mk (cs:=(⟨0,l.length,0⟩:Tok).cells) zK (aj.one (e:=140) (z:=.agg #[iv 0,iv 0,iv 0]) (k:=3) zK zK zK zD rfl λbs=>?_))));refine hs.mi (.cons .left) (.head _) rfl (Tok.one _) hz (by simp only[xax];omega) (by simp only[xax];omega) λv' C' ho=>?_;refine aQ.mk (gY:=C'++B) (.skip (.cL .tail _)) ⟨acc++[⟨0,l.length,0⟩],C',rfl,hT _ ?_,?_,by rw[xaB];exact ho⟩
  ·rw[show max l.length q=l.length by omega,xck];exact .fin
  simp only[xaf,xbg];omega
 obtain⟨c,hc,hd⟩:=dh.at hlt;obtain⟨D1,D2,hD⟩:∃D1 D2,Utf8.decode ⟨l.toArray⟩ p=(D1,D2):=⟨_,_,rfl⟩;have hlo:c.toNat<128->D1=c.toNat/\D2=1:=λh=>by
  have:=yp hc h;rw[hD]at this;cases this;exact⟨rfl,rfl⟩
 have hhi:128<=c.toNat->128<=D1/\D1<2147483648:=λh=>by
  have:=yq hc h;rw[hD]at this;exact⟨this.1,this.2.1⟩
 rw[hD];refine Ext.mk rfl (Br.yes (Ext.mk rfl (Ext.mk rfl ?_)));refine ae.cX (cz.or (decide (D1=32)) (λ_=>ae.bB (b:=32) ⟨rfl,rfl⟩) rfl λ_=>?_);rw[<-xbp];refine Br.dec (λhy=>?_) (λhn=>?_)
 ·have NA:c.toNat<128:=by
   rcases hy with h|h
   ·obtain⟨c',e,h'⟩:=hb p (xal _) h;rw[hc]at e;cases e;exact h'
   rcases xdw c.toNat 128 with h'|h'
   ·exact h'
   have:=hhi h';omega
  obtain⟨e1,rfl⟩:=hlo NA;refine az.of (.refl _) ⟨p+1,q,acc,C,w7,rfl,hlt,hq,by omega,λo ho=>hT o ?_,λj h1 h2=>hb j zO h2,hs,rfl⟩ ?_
  ·by_cases hpq:p<q
   ·rw[show max p q=max (p+1) q by omega];exact ho
   rw[show max p q=p by omega,hd];rw[show max (p+1) q=p+1 by omega]at ho;have:c=32:=xeD.1 (by show c.toNat=32;omega);rw[this];exact .blank ho
  show l.length-XC (C++((b,.stringIter ⟨l.toArray⟩ (p+1))::B))<l.length-XC (C++((b,.stringIter ⟨l.toArray⟩ p)::B));rw[zu hs,zu hs];omega
 have hpq:¬p<q:=λh=>hn (.inl h);have afJ:D1≠32:=λh=>hn (.inr h);rw[show max p q=p by omega]at hT ha;have abn:c≠32:=λh=>by
  subst h;exact afJ (hlo zD).1
 obtain⟨l',hl'⟩:∃l',l.drop p=l':=⟨_,rfl⟩;rw[hl']at hT hd;have nM:l'.length=l.length-p:=by rw[<-hl',xbS]
 refine Build.mk (cs:=(⟨16,p,0⟩:Tok).cells) zK λtb _=>St.whole (r:=(⟨16,p,0⟩:Tok).cells) (.head _) rfl rfl (Tok.one _) λJ22 Zw=>?_;have main:J22 [nI (tf (sC l' 0))] ((tb,.cells (QY p (sC l' 0)).cells.toArray 140 zZ)::(C++([(b,.stringIter ⟨l.toArray⟩ (p+D2))]++B))):=by
  refine Zw _ _ λ_=>?_;refine aa.fq (OE _) ?_;rintro sv _ ⟨N,rfl,Wb⟩;refine Wb.bE ?_;refine⟨λvs H=>∃j,j<=14/\vs=[nI (tf (sC l' j)),nI j]/\H=N++((tb,.cells (QY p (sC l' j)).cells.toArray 140 zZ)::(C++([(b,.stringIter ⟨l.toArray⟩ (p+D2))]++B))),λvs _=>14-bA vs 1,JE.mk ⟨0,by decide,rfl,rfl⟩,?_⟩;rintro w33 w34 H ⟨j,hj,⟨⟩,rfl⟩ gs;have e14:((eu.map VK).length:Int)=14:=rfl;rw[e14];refine ae.cX (b:=14) (Br.dec (λYn=>λYL h36=>?_) (λYn=>?_))
  ·obtain⟨s,hsj⟩:∃s,eu[j]? =some s:=⟨_,xab Yn⟩;have next:YL [nI (tf (sC l' (j+1)))] (N++((tb,.cells (QY p (sC l' (j+1))).cells.toArray 140 zZ)::(C++([(b,.stringIter ⟨l.toArray⟩ (p+D2))]++B)))):=by
    refine h36 _ _ λ_=>ae.inc (az.of (.refl _) ⟨j+1,Yn,rfl,rfl⟩ ?_);simp only[bA];omega
   have mr:=QW (l:=l') Yn hsj;refine Wb.oh (r:=VK s) (by rw[xar,hsj];rfl) (λy hy=>xad _ hy) ?_;refine λsb _=>St.whole (r:=VK s) (.head _) rfl rfl (by intro v hv;simp only[VK,xag,xaw,xaZ]at hv;rcases hv with rfl|rfl<;>rfl) λJ46 h46=>?_;have j46:∀t:Bool,t=(decide (tf (sC l' j)=0) &&s.1.isPrefixOf l')->JE J46 [.bool t] ((sb,.cells (VK s).toArray 145 zZ)::(N++((tb,.cells (QY p (sC l' j)).cells.toArray 140 zZ)::(C++([(b,.stringIter ⟨l.toArray⟩ (p+D2))]++B))))):=λt ht=>by
    refine JE.mk (h46 _ _ λ_=>?_);cases t with
    |true=>
     have hh:=ht.symm;rw[xaC,xaP]at hh;rw[xae hh]at mr;refine Br.yes (DR.of (.gU (.head _)) (Ld.u (.head _) (Build.mk (cs:=(⟨s.2,p,0⟩:Tok).cells) zK (Ld.u (.head _) (aN.of (St.whole (r:=(⟨s.2,p,0⟩:Tok).cells) (.tail (.aO (.head _) N)) rfl rfl (Tok.one _) ⟨?_,JE.of .tail ?_⟩))))))
     ·exact .gU (.head _)
     rw[mr]at next;exact next
    |false=>
     have hh:=ht.symm;have:sC l' (j+1)=sC l' j:=by
      rw[mr];refine xac λh=>?_;rw[xau h.1,h.2]at hh;cases hh
     rw[this]at next
     exact Br.no (JE.of .tail next)
   refine DR.self (ae.bB (b:=0) (Br.dec (λh0=>?_) (λh0=>?_)))
   ·refine aZ.mA (l:=l) (i:=p) (j:=l.length) rfl zK rfl (.inr ⟨_,.i64,rfl,rfl⟩) (.inl ⟨rfl,rfl⟩) hp (xal _) ?_;rw[xbe,hl'];refine Ld.u (.head _) λ_=>aa.eq (Xj _ _ _) (aI.mk ?_);refine(show(cond (s.1.isPrefixOf l') (Value.bool true) (.bool false))=.bool (s.1.isPrefixOf l')by cases s.1.isPrefixOf l'<;>rfl)▸j46 _ ?_;rw[xau h0];rfl
   exact j46 false (by rw[xap h0];rfl)
  have aeQ:j=14:=by omega
  subst aeQ;rw[(I2 l' p).1,(I2 l' p).2];refine ax.whole (r:=(⟨(cD l').1,p,(cD l').2.1⟩:Tok).cells) (xaa _ (.head _)) rfl ?_;refine aj.one (e:=140) (z:=.agg #[iv 0,iv 0,iv 0]) (k:=3) zK zK zK zD rfl λbs=>?_;refine hs.mi (.cons (.app (.cons .left))) (.head _) rfl (Tok.one _) hz (by simp only[xax];omega) (by simp only[xax];omega) λv' C' ho=>?_;refine Ld.u (.tail _ (xaa _ (.head _))) (ae.bB (b:=16) (Br.dec (λLj=>?_) (λLj=>?_)))
  ·have Lj:(cD l').1=16:=Lj;refine aQ.mk (gY:=C'++B) (.skip (.bN (.skip (.cL .tail _)))) ⟨acc++[⟨(cD l').1,p,(cD l').2.1⟩],C',rfl,hT _ ?_,?_,by rw[xaB];exact ho⟩
   ·have abW:=Td Lj;rw[hd]at Lj abW⊢;rw[Lj,abW];exact .wrong abn Lj
   simp only[xaf,xbg];omega
  have Lj:(cD l').1≠16:=Lj;have aeK:=pF Lj;have NA:c.toNat<128:=by
   rcases xdw c.toNat 128 with h'|h'
   ·exact h'
   exact absurd (by rw[hd];exact Tc h') Lj
  refine ae.gL (az.of (.skip (.bN (.skip (.refl _)))) ⟨p+D2,p+(cD l').2.2,acc++[⟨(cD l').1,p,(cD l').2.1⟩],C',v',rfl,?_,?_,?_,?_,?_,by rw[xaB];exact ho,rfl⟩ ?_)
  ·rw[(hlo NA).2];exact hlt
  ·omega
  ·simp only[xaf,xbg];omega
  ·intro o ho;rw[xai];refine hT _ ?_;rw[(hlo NA).2]at ho;rw[show max (p+1) (p+(cD l').2.2)=p+(cD l').2.2 by omega,<-List.drop_drop,hl']at ho;rw[hd]at Lj ho⊢;exact .tok abn Lj ho
  ·intro j h1 h2;obtain⟨c',e,h'⟩:=aeK.2.2 (j-p) zO;rw[<-hl',List.getElem?_drop,show p+(j-p)=j by omega]at e;exact⟨c',e,h'⟩
  show l.length-XC (C'++((b,.stringIter ⟨l.toArray⟩ (p+D2))::B))<l.length-XC (C++((b,.stringIter ⟨l.toArray⟩ p)::B));rw[zu hs,zu ho,(hlo NA).2];omega
 have none_:kO l'=none->JE J22 [nI 0] ((tb,.cells (⟨16,p,0⟩:Tok).cells.toArray 140 zZ)::(C++([(b,.stringIter ⟨l.toArray⟩ (p+D2))]++B))):=λhx=>by
  have:sC l' 0=none:=by unfold sC;rw[hx];rfl
  rw[this]at main;exact JE.mk main
 refine ae.bB (b:=120) (Br.dec (λhx=>?_) (λhx=>?_))
 ·have NA:c.toNat<128:=by
   rcases xdw c.toNat 128 with h'|h'
   ·exact h'
   have:=hhi h';omega
  have Du:c=120:=xeD.1 (by show c.toNat=120;have:=(hlo NA).1;omega);refine ae.inc (aZ.mA (l:=l) (i:=p+1) (j:=l.length) rfl zK rfl (.inr ⟨_,.i64,rfl,rfl⟩) (.inl ⟨rfl,rfl⟩) hlt (xal _) ?_);rw[xbe];refine aa.eq (U1 (l.drop (p+1)) (by rw[xbS];omega) _) (Ext.mk rfl (Ext.mk rfl (ae.gW (b:=0) (Br.dec (λh0=>?_) (λh0=>?_)))))
  ·have hf:sC l' 0=some (3,(num 0 0 (l.drop (p+1))).1,1+(num 0 0 (l.drop (p+1))).2):=by
    unfold sC;rw[hd,Du,show kO ((120:UInt8)::l.drop (p+1))=some ((num 0 0 (l.drop (p+1))).1,(num 0 0 (l.drop (p+1))).2+1)from xae ⟨rfl,h0⟩,xcP 1]
   have hnm:=(uC (l.drop (p+1)) 0 0).2.1;rw[xbS]at hnm;rw[hf]at main;exact Build.mk (cs:=(⟨3,p,(num 0 0 (l.drop (p+1))).1⟩:Tok).cells) zK (ae.dX (a:=1) (by simp only[aS];omega) (St.whole (r:=(⟨3,p,(num 0 0 (l.drop (p+1))).1⟩:Tok).cells) (.head _) rfl rfl (Tok.one _) (JE.mk main)))
  refine none_ ?_;rw[hd,Du];exact xac λh=>h0 h.2
 refine none_ ?_;rw[hd];refine xac λh=>hx ?_;rw[(hlo (by rw[h.1];decide)).1,h.1];rfl
abbrev A7(rb:Nat)(v:zV)(n:Nat):Nat×Obj:=(rb,.cells #[v,nI n] 92 zZ)
abbrev bf(b:Nat):zV:=.pointer (some ⟨b,0,none⟩)
def Zx(p e:Nat):List PanicEntry:=[{v:=.iface 86 (.agg #[nI p,nI e]),recovered:=false}]
inductive rQ(H:Hp):Tr->zV->Prop
 |c {k b:Nat}:(b,.cells #[nI k,nI 0,.slice none 0 0] 99 zZ)∈H->rQ H (.c k) (bf b)
 |v {n b:Nat}:(b,.cells #[nI 3,nI n,.slice none 0 0] 99 zZ)∈H->rQ H (.v n) (bf b)
 |no {a:Tr} {b d x:Nat}:(b,.cells #[nI 4,nI 0,.slice (some ⟨d,0,none⟩) 1 1] 99 zZ)∈H->(d,.cells #[bf x] 61 zZ)∈H->rQ H a (bf x)->rQ H (.no a) (bf b)
 |bin {k:Nat} {a a':Tr} {b d x y:Nat}:(b,.cells #[nI k,nI 0,.slice (some ⟨d,0,none⟩) 2 2] 99 zZ)∈H->(d,.cells #[bf x,bf y] 61 zZ)∈H->rQ H a (bf x)->rQ H a' (bf y)->rQ H (.bin k a a') (bf b)
 |ite {a a' a2:Tr} {b d x y z:Nat}:(b,.cells #[nI 12,nI 0,.slice (some ⟨d,0,none⟩) 3 3] 99 zZ)∈H->(d,.cells #[bf x,bf y,bf z] 61 zZ)∈H->rQ H a (bf x)->rQ H a' (bf y)->rQ H a2 (bf z)->rQ H (.ite a a' a2) (bf b)
theorem rQ.ptr{H:Hp}{t:Tr}{p:zV}(h:rQ H t p):∃b,p=bf b:=by cases h<;>exact⟨_,rfl⟩
theorem rQ.mono{H H':Hp}{t:Tr}{p:zV}(h:rQ H t p)(hs:∀x∈H,x∈H'):rQ H' t p:=by
 induction h with
 |c h=>exact .c (hs _ h)
 |v h=>exact .v (hs _ h)
 |no h1 h2 _ i1=>exact .no (hs _ h1) (hs _ h2) i1
 |bin h1 h2 _ _ i1 i2=>exact .bin (hs _ h1) (hs _ h2) i1 i2
 |ite h1 h2 _ _ _ i1 i2 i3=>exact .ite (hs _ h1) (hs _ h2) i1 i2 i3
section
variable {rb n:Nat} {B:Hp} {v:zV} {x:Tok} {l:List Tok}
theorem QV(h:Sl 3 B v ((x::l).map Tok.cells)):Rd zQ 78 #[bf rb] (A7 rb v n::B) (· =.agg x.cells.toArray):=by
 refine aK λg=>Mr λb1 _=>Nil.ptr (Ld.u (.tail _ (.head _)) ?_);refine ah.sl (i:=0) h rfl λp hp=>?_;refine ax.at hp rfl zD (λy hy=>.tail _ (.tail _ hy)) (St.whole (.head _) rfl rfl (Tok.one _) (ax.whole (.head _) rfl (bD.mk .tail rfl)))
theorem uZ(h:Sl 3 B v ((x::l).map Tok.cells)):Fc zQ 79 #[bf rb] (A7 rb v n::B) (λr H=>r=.agg x.cells.toArray/\∃v',H=A7 rb v' n::B/\Sl 3 B v' (l.map Tok.cells)):=by
 refine aK λg=>Mq λb1 _=>Nil.ptr (Ld.u (.tail _ (.head _)) ?_);refine ah.sl (i:=0) h rfl λp hp=>?_;refine ax.at hp rfl zD (λy hy=>.tail _ (.tail _ hy)) λb8 _=>St.whole (.head _) rfl rfl (Tok.one _) (Nil.ptr (Ld.u (.tail _ (.tail _ (.head _))) ?_));refine cP.tail h λv' h'=>Nil.ptr (.mk (St.one (c':=#[v',nI n]) (.tail (.tail (.head _))) (by obtain⟨a,c,rfl,_⟩:=h'.shape;rfl) zI rfl ?_));exact ax.whole (.head _) rfl (St.whole (.tail (.head _)) rfl rfl (Tok.one _) (ax.whole (.tail _ (.head _)) rfl (aQ.mk (.skip .tail) ⟨rfl,v',rfl,h'⟩)))
theorem qi(x:Tok)(e:Nat)(B:Hp):YO zQ 80 #[.agg x.cells.toArray,nI e] B (λ_ _=>False) (λc H=>H=B/\c=Zx x.p e):=by
 refine fcP λg=>Mp λb1 _=>Ld.u (.head _) (Build.mk (cs:=[nI x.p,nI e]) zK ?_);exact cU.panic rfl rfl (th.D3 .tail ⟨rfl,rfl⟩)
theorem Q5(x:Tok)(dp:Nat)(hd:dp<=1000)(B:Hp):YO zQ 126 #[.agg x.cells.toArray,nI dp] B (λr H=>¬1000<=dp/\H=B/\r=nI (dp+1)) (λc H=>1000<=dp/\H=B/\c=Zx x.p 7):=by
 refine fcP λg=>Hs λb1 _ J3 h3=>ae.kM (b:=1000) (Br.dec (λh=>?_) (λh=>?_))
 ·refine ax.whole (.head _) rfl (aa.fp .here (qi x 7 _) (λv C' h=>h.elim) λch C' h'=>?_);obtain⟨rfl,rfl⟩:=h';exact th.D3 .tail ⟨h,rfl,rfl⟩
 exact JE.mk (h3 _ λ_=>ae.inc (th.ret .tail ⟨h,rfl,rfl⟩))
theorem B9(k:Nat)(h:Sl 3 B v ((x::l).map Tok.cells)):YO zQ 35 #[bf rb,nI k] (A7 rb v n::B) (λr H=>x.k=k/\∃v',H=A7 rb v' n::B/\Sl 3 B v' (l.map Tok.cells)) (λc H=>x.k≠k/\H=B/\c=Zx x.p 14):=by
 refine fcP λg=>MS (aa.fn .here (uZ h) ?_);rintro _ _ ⟨rfl,v',rfl,h'⟩;refine λb3 _=>St.whole (.head _) rfl rfl (Tok.one _) (Ld.u (.head _) (ae.jD (Br.dec (λhk=>?_) (λhk=>?_))))
 ·refine ax.whole (.head _) rfl (aa.fp .here (qi x 14 _) (λv C' h=>h.elim) λch C' hc=>?_);obtain⟨rfl,rfl⟩:=hc;exact th.D3 (.skip .tail) ⟨hk,rfl,rfl⟩
 exact th.ret .tail ⟨xer.1 hk,v',rfl,h'⟩
theorem QL(lv:Nat)(hl:lv<5)(B:Hp):Rd zQ 77 #[nI lv] B (· =nI (eO lv)):=by
 refine aK λg=>Ms ?_;refine aj.m9 (e:=95) (z:=nI 0) [nI 9,nI 8,nI 7,nI 6,nI 5] zK zK zK zD zD rfl rfl λb=>?_;refine ah.nat hl (Ld.mk (v:=nI (eO lv)) (.head _) ?_ (bD.mk .tail rfl))
 match lv,hl with
 |0,_=>rfl
 |1,_=>rfl
 |2,_=>rfl
 |3,_=>rfl
 |4,_=>rfl
end
def PQ(n rb:Nat)(B:Hp)(l:List Tok)(g:Gl)(p:zV)(H:Hp):Prop:=∃t l' v' N,Ev n (fY n g) (.ok t l')/\qK l'/\l'.length<=l.length/\Sl 3 B v' (l'.map Tok.cells)/\H=N++(A7 rb v' n::B)/\rQ N t p
def PB(n:Nat)(B:Hp)(g:Gl)(c:List PanicEntry)(H:Hp):Prop:=∃p e,Ev n (fY n g) (.bad p e)/\H=B/\c=Zx p e
def TX(m:Nat):Prop:=∀(n lv dp rb:Nat) (l:List Tok) (v:zV) (B:Hp),l.length*8+(6-lv)<=m->lv<=5->dp<=1000->qK l->Sl 3 B v (l.map Tok.cells)->
 YO zQ 34 #[bf rb,nI lv,nI dp] (A7 rb v n::B) (PQ n rb B l (.ir lv dp l)) (PB n B (.ir lv dp l))
def TG(m:Nat):Prop:=∀(n dp rb:Nat) (l:List Tok) (v:zV) (B:Hp),l.length*8<=m->dp<=1000->qK l->Sl 3 B v (l.map Tok.cells)->
 YO zQ 76 #[bf rb,nI dp] (A7 rb v n::B) (PQ n rb B l (.tight dp l)) (PB n B (.tight dp l))
def Z6:Hp->Nat
 |(_,.cells c _ _)::_=>(match(c[0]? :Option zV)with
  |some (Value.slice _ k _)=>k
  |_=>0)
 |_=>0
theorem Ir{rb n:Nat}{v:zV}{l:List Tok}{B X:Hp}(h:Sl 3 B v (l.map Tok.cells)):Z6 (A7 rb v n::X)=l.length:=by
 obtain⟨a,c,rfl,_⟩:=h.shape;show(l.map Tok.cells).length=_;simp
theorem Io(lv:Nat):eO lv≠0/\eO lv≠16:=by
 match lv with
 |0=>decide
 |1=>decide
 |2=>decide
 |3=>decide
 |n+4=>exact⟨by show(5:Nat)≠0;decide,by show(5:Nat)≠16;decide⟩
theorem Fm.Ev.more{n lv dp:Nat}{l:List Tok}{a:Tr}{l1:List Tok}(hl:lv≠5)(h:Ev n (fY n (.ir (lv+1) dp l)) (.ok a l1)){r:Rs}(h2:Ev n (fY n (.more lv dp a l1)) r):Ev n (fY n (.ir lv dp l)) r:=by
 show Ev n (if lv=5 then _ else _) r;rw[xac hl];exact .call h (.call h2 .done)
theorem ur(N B:Hp)(x:Nat×Obj):aF (x::(N++B)) (N++(x::B)):=.perm (xaU.symm)
theorem q7(N B:Hp)(x:Nat×Obj):aF (N++(x::B)) (x::(N++B)):=.perm xaU
set_option maxHeartbeats 1000000 in
theorem JQ(m:Nat)(hx:TX m)(hg:TG m):TX (m+1):=by
 intro n lv dp rb l v B hm hlv UC hf hs;refine fcP λg=>MT ?_;refine ae.bB (b:=5) (Br.dec (λh5=>?_) (λh5=>?_))
 ·subst h5;refine aa.fp .here (hg n dp rb l v B zO UC hf hs) ?_ ?_
  ·rintro p _ ⟨t,l',v',N,h1,h2,h3,h4,rfl,h5⟩;exact th.ret (.refl _) ⟨t,l',v',N,.call h1 .done,h2,h3,h4,rfl,h5⟩
  rintro c _ ⟨p,e,h1,rfl,rfl⟩;exact th.D3 (.refl _) ⟨p,e,.call h1 .done,rfl,rfl⟩
 have hl5:lv<5:=by omega
 refine aa.eq (QL lv hl5 _) (ae.inc ?_);refine aa.fp .here (hx n (lv+1) dp rb l v B zO zO UC hf hs) ?_ ?_;rotate_left
 ·rintro c _ ⟨p,e,h1,rfl,rfl⟩;refine th.D3 (.refl _) ⟨p,e,?_,rfl,rfl⟩;show Ev n (if lv=5 then _ else _) _;rw[xac h5];exact .call h1 .done
 rintro p _ ⟨t,l',v',N,h1,h2,h3,h4,rfl,h6⟩;refine⟨λvs H=>∃a l1 v1 N p,vs=[p]/\H=A7 rb v1 n::(N++B)/\rQ N a p/\qK l1/\l1.length<=l.length/\Sl 3 B v1 (l1.map Tok.cells)/\(∀r,Ev n (fY n (.more lv dp a l1)) r->Ev n (fY n (.ir lv dp l)) r),
  λ_ H=>Z6 H,JE.of (q7 N B _) ⟨t,l',v',N,p,rfl,rfl,h6,h2,h3,h4,λr hr=>Ev.more h5 h1 hr⟩,?_⟩
 clear h1 h2 h3 h4 h6;rintro ZR H ⟨a,l1,v1,N,_,⟨⟩,rfl,ha,hf1,x7,hs1,zJ⟩ gs;obtain⟨x,l2,rfl⟩:=hf1.split;refine aa.eq (QV (n:=n) (rb:=rb) (hs1.mono (B':=N++B) λy hy=>xaa _ hy)) (wx.mk rfl (ae.bB (Br.dec (λhk=>?_) (λhk=>?_))));rotate_left
 ·refine th.ret (ur N B _) ⟨a,x::l2,v1,N,zJ _ ?_,hf1,x7,hs1,rfl,ha⟩;show Ev n (if x.k=eO lv then _ else _) _;rw[xac hk];exact .done
 have Qf:qK l2:=hf1.tail (by rw[hk];exact(Io lv).1) (by rw[hk];exact(Io lv).2);have mT:l2.length+1<=l.length:=x7;refine aa.pre (ur N B _) (aa.fn (.app .here) (uZ hs1) ?_);rintro _ _ ⟨rfl,v2,rfl,l8⟩;refine ae.bB (b:=8) (Br.dec (λh8=>?_) (λh8=>?_))
 ·refine aa.fp (.app .here) (hx n lv dp rb l2 v2 B zO hlv UC Qf l8) ?_ ?_;rotate_left
  ·rintro c _ ⟨p,e,h1,rfl,rfl⟩;refine th.D3 .right ⟨p,e,zJ _ ?_,rfl,rfl⟩;show Ev n (if x.k=eO lv then _ else _) _;rw[xae hk,xae h8];exact .call h1 .done
  rintro p _ ⟨b,l3,v3,N2,h1,h2,h3,h4,rfl,h6⟩;obtain⟨pa,rfl⟩:=ha.ptr;obtain⟨pb,rfl⟩:=h6.ptr;refine aj.m9 (e:=61) (z:=.pointer none) [bf pa,bf pb] zK zK zK (show(2:Nat)<=16777216 by decide) (by simp[Value.oneCell']) rfl rfl λbd=>?_;refine Build.mk (cs:=[nI 8,nI 0,.slice (some ⟨bd,0,none⟩) 2 2]) zK λbt _=>?_;refine th.ret (.refl _) ⟨.bin 8 a b,l3,v3,(bt,_)::(bd,_)::(N++N2),zJ _ ?_,h2,by omega,h4,by simp;rfl,.bin (.head _) (.tail _ (.head _)) (ha.mono λy hy=>?_) (h6.mono λy hy=>?_)⟩
  ·show Ev n (if x.k=eO lv then _ else _) _;rw[xae hk,xae h8];exact .call h1 .done
  ·exact .tail _ (.tail _ (xad _ hy))
  exact .tail _ (.tail _ (xaa _ hy))
 refine ae.inc (aa.fp (.app .here) (hx n (lv+1) dp rb l2 v2 B zO zO UC Qf l8) ?_ ?_);rotate_left
 ·rintro c _ ⟨p,e,h1,rfl,rfl⟩;refine th.D3 .right ⟨p,e,zJ _ ?_,rfl,rfl⟩;show Ev n (if x.k=eO lv then _ else _) _;rw[xae hk,xac h8];exact .call h1 .done
 rintro p _ ⟨b,l3,v3,N2,h1,h2,h3,h4,rfl,h6⟩;obtain⟨pa,rfl⟩:=ha.ptr;obtain⟨pb,rfl⟩:=h6.ptr;refine aj.m9 (e:=61) (z:=.pointer none) [bf pa,bf pb] zK zK zK (show(2:Nat)<=16777216 by decide) (by simp[Value.oneCell']) rfl rfl λbd=>?_;refine Build.mk (cs:=[nI (eO lv),nI 0,.slice (some ⟨bd,0,none⟩) 2 2]) zK λbt _=>?_;refine az.of (H':=A7 rb v3 n::(((bt,.cells #[nI (eO lv),nI 0,.slice (some ⟨bd,0,none⟩) 2 2] 99 zZ)::(bd,.cells #[bf pa,bf pb] 61 zZ)::(N++N2))++B)) (.trans ?_ (q7 _ B _)) ⟨.bin (eO lv) a b,l3,v3,_,_,rfl,rfl,.bin (.head _) (.tail _ (.head _)) (ha.mono λy hy=>?_) (h6.mono λy hy=>?_),h2,by omega,h4,λr hr=>zJ _ ?_⟩ ?_
 ·simp only[xaS,xai];exact .refl _
 ·exact .tail _ (.tail _ (xad _ hy))
 ·exact .tail _ (.tail _ (xaa _ hy))
 ·show Ev n (if x.k=eO lv then _ else _) _;rw[xae hk,xac h8];exact .call h1 (.call hr .done)
 rw[Ir h4,Ir hs1];simp only[xak];omega
set_option maxHeartbeats 1600000 in
theorem DJ(m:Nat)(hx:TX m)(hg:TG m):TG (m+1):=by
 intro n dp rb l v B hm UC hf hs;obtain⟨x,l,rfl⟩:=hf.split;have hlen:(x::l).length=l.length+1:=rfl;refine fcP λg=>Mu (aa.fn .here (uZ hs) ?_);rintro _ _ ⟨rfl,v1,rfl,hs1⟩;refine λb3 _=>St.whole (r:=x.cells) (.head _) rfl rfl (Tok.one _) (Ld.u (.head _) λJ8 h8=>?_);have ret:∀(t:Tr) (l':List Tok) (v':zV) (N:Hp) (p:zV) (H:Hp),Ev n (fY n (.tight dp (x::l))) (.ok t l')->qK l'->l'.length<=l.length->Sl 3 B v' (l'.map Tok.cells)->aF H (N++(A7 rb v' n::B))->rQ N t p->th (PQ n rb B (x::l) (.tight dp (x::l))) (PB n B (.tight dp (x::l))) (.returned p) H:=
  λt l' v' N p H h1 h2 h3 h4 h5 h6=>th.ret h5 ⟨t,l',v',N,h1,h2,Nat.le_succ_of_le h3,h4,rfl,h6⟩
 have D3:∀(c:List PanicEntry) (p e:Nat) (H:Hp),Ev n (fY n (.tight dp (x::l))) (.bad p e)->aF H B->c=Zx p e->cv (th (PQ n rb B (x::l) (.tight dp (x::l))) (PB n B (.tight dp (x::l)))) c H:=
  λc p e H h1 h2 h3=>th.D3 h2 ⟨p,e,h1,rfl,h3⟩
 have main:∀t,t=decide (x.k=1\/x.k=2)->JE J8 [.bool t] ((b3,.cells x.cells.toArray 140 zZ)::(A7 rb v1 n::B)):=by
  rintro _ rfl;refine JE.mk (h8 _ _ λ_=>Br.dec (λhk=>?_) (λhk=>?_))
  ·refine Ld.u (.head _) (Build.mk (cs:=[nI x.k,nI 0,.slice none 0 0]) zK λbt _=>?_);refine ret (.c x.k) l v1 [_] _ _ ?_ (hf.tail zO zO) (xal _) hs1 (.trans aF.swap .tail) (.c (.head _));show Ev n (if x.k=1\/x.k=2 then _ else _) _;rw[xae hk];exact .done
  have pl:∀q,(if x.k=3 then(if n<=x.v then Pl.done (.bad x.p 2)else .done (.ok (.v x.v) l))
   else if x.k=4 then(if 1000<=dp then .done (.bad x.p 7)else .call (.tight (dp+1) l) λr=>r.thn λa l2=>.done (.ok (.no a) l2))
   else if x.k=10 then(if 1000<=dp then .done (.bad x.p 7)else .call (.ir 0 (dp+1) l) λr=>r.cO 11 λa l2=>.done (.ok a l2))
   else if x.k=12 then(if 1000<=dp then .done (.bad x.p 7)else .call (.ir 0 (dp+1) l) λr=>r.cO 13 λa l2=>.call (.ir 0 (dp+1) l2) λr=>r.cO 14 λb l3=>.call (.ir 0 (dp+1) l3) λr=>r.cO 15 λc l4=>.done (.ok (.ite a b c) l4))
   else .done (.bad x.p 14))=q->fY n (.tight dp (x::l))=q:=λq hq=>by
   rw[<-hq];show(if x.k=1\/x.k=2 then _ else _)=_;rw[xac hk]
  clear h8;refine ae.bB (b:=3) (Br.dec (λh3=>?_) (λh3=>?_))
  ·rw[xae h3]at pl;refine λJ18 h18=>Ld.u (.head _) (Nil.ptr (Ld.u (.tail _ (.head _)) (ae.kM (Br.dec (λhv=>?_) (λhv=>?_)))))
   ·refine ax.whole (.head _) rfl (aa.fp .here (qi x 2 _) (λv C' h=>h.elim) λch C' h'=>?_);obtain⟨rfl,rfl⟩:=h';refine D3 _ x.p 2 _ ?_ (.skip .tail) rfl;rw[pl _ rfl,xae hv];exact .done
   refine JE.mk (h18 _ λ_=>Ld.u (.head _) (Build.mk (cs:=[nI 3,nI x.v,.slice none 0 0]) zK λbt _=>?_));refine ret (.v x.v) l v1 [_] _ _ ?_ (hf.tail zO zO) (xal _) hs1 (.trans aF.swap .tail) (.v (.head _));rw[pl _ rfl,xac hv];exact .done
  rw[xac h3]at pl;have deep:∀{KK:zV->Hp->Prop},(x.k=4\/x.k=10\/x.k=12)->(¬1000<=dp->KK (nI (dp+1)) ((b3,.cells x.cells.toArray 140 zZ)::(A7 rb v1 n::B)))->aa zQ g 126 #[.agg x.cells.toArray,nI dp] ((b3,.cells x.cells.toArray 140 zZ)::(A7 rb v1 n::B)) KK (cv (th (PQ n rb B (x::l) (.tight dp (x::l))) (PB n B (.tight dp (x::l))))):=by
   intro KK hk4 hK;refine aa.fp .here (Q5 x dp UC _) ?_ ?_
   ·rintro r _ ⟨h1,rfl,rfl⟩;exact hK h1
   rintro c _ ⟨h1,rfl,rfl⟩;refine D3 _ x.p 7 _ ?_ (.skip .tail) rfl;rw[pl _ rfl];rcases hk4 with h|h|h<;>rw[h]<;>simp[h1]<;>exact .done
  have hft:x.k≠0->x.k≠16->qK l:=λh0 h1=>hf.tail h0 h1;refine ae.bB (b:=4) (Br.dec (λh4=>?_) (λh4=>?_))
  ·rw[xae h4]at pl;refine ax.whole (.head _) rfl (deep (.inl h4) λhd=>?_);rw[xac hd]at pl;refine aa.fp (.cons .here) (hg n (dp+1) rb l v1 B zO zO (hft zO zO) hs1) ?_ ?_;rotate_left
   ·rintro c _ ⟨p,e,h1,rfl,rfl⟩;refine D3 _ p e _ ?_ .tail rfl;rw[pl _ rfl];exact .call h1 .done
   rintro p _ ⟨a,l',v',N,h1,h2,h3,h5,rfl,h6⟩;obtain⟨pa,rfl⟩:=h6.ptr;refine aj.m9 (e:=61) (z:=.pointer none) [bf pa] zK zK zK (show(1:Nat)<=16777216 by decide) (by simp[Value.oneCell']) rfl rfl λbd=>?_;refine Build.mk (cs:=[nI 4,nI 0,.slice (some ⟨bd,0,none⟩) 1 1]) zK λbt _=>?_;refine ret (.no a) l' v' ((bt,_)::(bd,_)::N) _ _ ?_ h2 h3 h5 (.cons (.cons .tail)) (.no (.head _) (.tail _ (.head _)) (h6.mono λy hy=>.tail _ (.tail _ hy)));rw[pl _ rfl];exact .call h1 .done
  rw[xac h4]at pl
  /- one part, and the sign behind it -/
  have part:∀(k:Nat) (l0:List Tok) (v0:zV) (N0:Hp) (f:Tr->List Tok->Pl) (KK:zV->Hp->Prop),k≠0->k≠16->¬1000<=dp->qK l0->l0.length<=l.length->Sl 3 B v0 (l0.map Tok.cells)->
   (∀(r:Rs),Ev n (.call (.ir 0 (dp+1) l0) λr=>r.cO k f) r->Ev n (fY n (.tight dp (x::l))) r)->
   (∀a l' v' N p,(∀r,Ev n (f a l') r->Ev n (.call (.ir 0 (dp+1) l0) λr=>r.cO k f) r)->qK l'->l'.length<=l0.length->Sl 3 B v' (l'.map Tok.cells)->rQ N a p->KK p (N0++(N++(A7 rb v' n::B))))->
   aa zQ g 34 #[bf rb,nI 0,nI (dp+1)] (N0++(A7 rb v0 n::B)) (λp H=>aa zQ g 35 #[bf rb,nI k] H (λ_ H'=>KK p H') (cv (th (PQ n rb B (x::l) (.tight dp (x::l))) (PB n B (.tight dp (x::l))))))
    (cv (th (PQ n rb B (x::l) (.tight dp (x::l))) (PB n B (.tight dp (x::l))))):=by
   intro k l0 v0 N0 f KK k0 k16 hd hf0 Ze hs0 zJ hK;refine aa.fp (.app .here) (hx n 0 (dp+1) rb l0 v0 B zO zO zO hf0 hs0) ?_ ?_;rotate_left
   ·rintro c _ ⟨p,e,h1,rfl,rfl⟩;exact D3 _ p e _ (zJ _ (.call h1 .done)) .right rfl
   rintro p _ ⟨a,l',v',N,h1,h2,h3,h5,rfl,h6⟩;obtain⟨y,l2,rfl⟩:=h2.split;refine aa.fp (.app (.app .here)) (B9 k h5) ?_ ?_;rotate_left
   ·rintro c _ ⟨hk,rfl,rfl⟩;refine D3 _ y.p 14 _ (zJ _ (.call h1 ?_)) (.bN .right) rfl;show Ev n (if y.k=k then _ else _) _;rw[xac hk];exact .done
   rintro r _ ⟨hk,v2,rfl,l8⟩;refine hK a l2 v2 N p (λr hr=>.call h1 ?_) (h2.tail zO zO) (by have:=h3;simp only[xak]at this;omega) l8 h6;show Ev n (if y.k=k then _ else _) _;rw[xae hk];exact hr
  refine ae.bB (b:=10) (Br.dec (λh10=>?_) (λh10=>?_))
  ·rw[xae h10]at pl;refine ax.whole (.head _) rfl (deep (.inr (.inl h10)) λhd=>?_);rw[xac hd]at pl;refine part 11 l v1 [_] (λa l2=>.done (.ok a l2)) _ zD zD hd (hft zO zO) (xal _) hs1 (λr hr=>by rw[pl _ rfl];exact hr) λa l' v' N p zJ Nz hl' hs' ht=>?_;refine ret a l' v' N _ _ ?_ Nz hl' hs' .tail ht;rw[pl _ rfl];exact zJ _ .done
  rw[xac h10]at pl;refine ae.bB (b:=12) (Br.dec (λh12=>?_) (λh12=>?_))
  ·rw[xae h12]at pl;refine ax.whole (.head _) rfl (deep (.inr (.inr h12)) λhd=>?_);rw[xac hd]at pl;refine part 13 l v1 [_] _ _ zD zD hd (hft zO zO) (xal _) hs1 (λr hr=>by rw[pl _ rfl];exact hr) λa l2 v2 N p ev1 Qf mT l8 Um=>?_;rw[<-xai];refine part 14 l2 v2 _ _ _ zD zD hd Qf mT l8 (λr hr=>by rw[pl _ rfl];exact ev1 _ hr) λb l3 v3 N2 p2 ev2 hf3 hl3 Y8 KO=>?_;rw[<-xai];refine part 15 l3 v3 _ _ _ zD zD hd hf3 zO Y8 (λr hr=>by rw[pl _ rfl];exact ev1 _ (ev2 _ hr)) λc l4 v4 N3 p3 ev3 hf4 hl4 hs4 IS=>?_;obtain⟨pa,rfl⟩:=Um.ptr;obtain⟨pb,rfl⟩:=KO.ptr;obtain⟨pc,rfl⟩:=IS.ptr;refine aj.m9 (e:=61) (z:=.pointer none) [bf pa,bf pb,bf pc] zK zK zK (show(3:Nat)<=16777216 by decide) (by simp[Value.oneCell']) rfl rfl λbd=>?_;refine Build.mk (cs:=[nI 12,nI 0,.slice (some ⟨bd,0,none⟩) 3 3]) zK λbt _=>?_;refine ret (.ite a b c) l4 v4 ((bt,_)::(bd,_)::(N++(N2++N3))) _ _ ?_ hf4 zO hs4 ?_ (.ite (.head _) (.tail _ (.head _)) (Um.mono λy hy=>?_) (KO.mono λy hy=>?_) (IS.mono λy hy=>?_))
   ·rw[pl _ rfl];exact ev1 _ (ev2 _ (ev3 _ .done))
   ·simp only[xaS,xai,xa6];exact .cons (.cons .tail)
   ·exact .tail _ (.tail _ (xad _ hy))
   ·exact .tail _ (.tail _ (xaa _ (xad _ hy)))
   exact .tail _ (.tail _ (xaa _ (xaa _ hy)))
  rw[xac h12]at pl;refine ax.whole (.head _) rfl (aa.fp .here (qi x 14 _) (λv C' h=>h.elim) λch C' h'=>?_);obtain⟨rfl,rfl⟩:=h';refine D3 _ x.p 14 _ ?_ (.skip .tail) rfl;rw[pl _ rfl];exact .done
 refine ae.bB (b:=1) (Br.dec (λh1=>?_) (λh1=>?_))
 ·exact main _ (by simp[h1])
 exact ae.bB (b:=2) (main _ (by simp[h1]))
theorem AN:∀m,TX m/\TG m
 |0=>⟨λn lv dp rb l v B hm hlv _ hf _=>by omega,λn dp rb l v B hm _ hf _=>by
   obtain⟨x,l,rfl⟩:=hf.split;simp only[xak]at hm;omega⟩
 |m+1=>⟨JQ m (AN m).1 (AN m).2,DJ m (AN m).1 (AN m).2⟩
def YJ(g:Gh)(a0 a1 a2 v3:zV)(H:Hp)(K:Hp->Prop):Prop:=
aZ zQ g (bM Tryz.f32 1 1) (ev (λs=>cond (Nat.beq s 7) v3 (undef))) H λv5=>
Br v5 (
aZ zQ g (bM Tryz.f32 2 1) (ev (λs=>cond (Nat.beq s 10) v3 (undef))) H λv6=>
Ext 0 v6 λv7=>
Ext 1 v6 λv8=>
Fb H (.cells #[(Value.int .i64 0),(Value.int .i64 0)] 86 zZ) λb9 H10=>
St 2 H10 (.pointer (some ⟨b9,0,none⟩)) v7 λH11=>
∀J12:Jt,(∀ZL:Hp,(∀akz:Fr,
DR ZL λR15=>
af 0 (.pointer (some ⟨b9,0,none⟩)) λv16=>
Ld R15 v16 λv17=>
af 1 (.pointer (some ⟨b9,0,none⟩)) λv18=>
Ld R15 v18 λv19=>
St 1 ZL a0 (.pointer none) λH20=>
aF H20 R15/\
St 1 H20 a1 v17 λH21=>
aF H21 R15/\
St 1 H21 a2 v19 λH22=>
K H22)->J12 [] ZL)->
Un .not v8 λv23=>
Br v23 (
cU zQ g (bM Tryz.f32 4 1) (ev (λs=>cond (Nat.beq s 16) v3 (undef))) H11 (λv24 H25=>
JE J12 [] H25) (λ_ _=>∀_:Fr,False)) (
JE J12 [] H11)) (
K H)
theorem IK{g:Gh}{a0 a1 a2 v:zV}{u u':FrameMode}{H:Hp}{K:Hp->Prop}(hu:(u=.returning/\v=.nilIface/\u'=.returning)\/(u=.panicking [{v,recovered:=false}]/\u'=.panicking [{v,recovered:=true}]))
 (h:YJ g a0 a1 a2 v H K):jF zQ 32 g #[a0,a1,a2] u H K:=by
 refine jF.rec (args:=[a0,a1,a2]) (hn:=(.n .e (.n (.n .e (.h 1 [] [0,1,2,4] .e (.h 0 [0,1,2,3,4,5,6] [] .e .e))) .e))) func32 rfl rfl rfl rfl rfl rfl rfl rfl rfl rfl rfl hu ?_;refine Eq.mpr (?_:_=YJ g a0 a1 a2 v H K) h;kernel_rfl
theorem Po{g:Gh}{b4 b6 b8 at_ e:Nat}{x4 x6 x8:zV}{X B:Hp}{K:Hp->Prop}
 (hk:∀b9,K ((b9,.cells #[nI at_,nI e] 86 zZ)::(X++((b8,.cells #[nI e] 24 zZ)::(b6,.cells #[nI at_] 3 zZ)::(b4,.cells #[.pointer none] 61 zZ)::B)))):
  YJ g (bf b4) (bf b6) (bf b8) (.iface 86 (.agg #[nI at_,nI e])) (X++((b8,.cells #[x8] 24 zZ)::(b6,.cells #[x6] 3 zZ)::(b4,.cells #[x4] 61 zZ)::B)) K:=by
 refine aZ.zw rfl rfl rfl ⟨#[],by kernel_rfl⟩ (.inr ⟨_,_,rfl,rfl⟩) (Br.yes ?_);refine aZ.Vn rfl rfl zK (Ext.mk rfl (Ext.mk rfl λb9 _=>St.whole (r:=[nI at_,nI e]) (.head _) rfl rfl (by simp[Value.oneCell']) λJ12 h12=>?_));refine Un.not (Br.no (JE.mk (h12 _ λ_=>?_)));refine DR.of (.gU (.head _)) (Ld.u (.head _) (Ld.u (.head _) ?_));refine St.one (c':=#[.pointer none]) (.tail (.aO (.tail (.tail (.head _))) _)) rfl (show(0:Nat)<1 by decide) rfl ⟨.gU (.head _),?_⟩;refine St.one (c':=#[nI at_]) (.tail (.aO (.tail (.head _)) _)) rfl (show(0:Nat)<1 by decide) rfl ⟨.gU (.head _),?_⟩;exact St.one (c':=#[nI e]) (.tail (.aO (.head _) _)) rfl (show(0:Nat)<1 by decide) rfl (hk b9)
set_option maxHeartbeats 1000000 in
theorem yg(l:List UInt8)(n:Nat)(B:Hp):Fc zQ 19 #[aq l,nI n] B (λr H=>∃N,H=N++B/\((∃t l' p,Reads n l (.ok t l')/\r=.tuple #[p,nI 0,nI 0]/\rQ N t p)\/∃at_ e,Reads n l (.bad at_ e)/\r=.tuple #[.pointer none,nI at_,nI e])):=by
 refine aK λg=>M7 λb4 _ b6 _ b8 _=>aN.of (ae.gW (b:=65536) (Br.dec (λhl=>?_) (λhl=>?_)))
 ·refine St.one (c':=#[.pointer none]) (.tail (.tail (.head _))) rfl (show(0:Nat)<1 by decide) rfl ?_;refine St.one (c':=#[nI 0]) (.tail (.head _)) rfl (show(0:Nat)<1 by decide) rfl ?_;refine St.one (c':=#[nI 13]) (.head _) rfl (show(0:Nat)<1 by decide) rfl (Ld.mk (.tail _ (.tail _ (.head _))) rfl (Ld.mk (.tail _ (.head _)) rfl (Ld.mk (.head _) rfl ?_)));exact aQ.mk (.skip (.skip .tail)) ⟨[],rfl,.inr ⟨0,13,.Ee hl,rfl⟩⟩
 have hl:l.length<=65536:=by omega
 refine aa.fn .here (QK l hl _) ?_;rintro tv _ ⟨o,N,rfl,ht,hlen,hs⟩;obtain⟨a,c,rfl⟩:=hs.len;refine Build.mk (cs:=[.slice a (o.map Tok.cells).length c,nI n]) zK λb34 _=>?_;obtain⟨i,t,ho,hk,hi⟩:=ht.last;have fail:∀(ch:List PanicEntry) (X:Hp) (x4 x6 x8:zV) (at_ e:Nat),ch=Zx at_ e->Reads n l (.bad at_ e)->∀R:Rt,R=aQ (λr H=>∃N,H=N++B/\((∃t l' p,Reads n l (.ok t l')/\r=.tuple #[p,nI 0,nI 0]/\rQ N t p)\/∃at_ e,Reads n l (.bad at_ e)/\r=.tuple #[.pointer none,nI at_,nI e]))->
   jF zQ 32 g #[bf b4,bf b6,bf b8] (.panicking ch) (X++((b8,.cells #[x8] 24 zZ)::(b6,.cells #[x6] 3 zZ)::(b4,.cells #[x4] 61 zZ)::B)) (λH=>Ld H (bf b4) λv1=>Ld H (bf b6) λv2=>Ld H (bf b8) λv3=>R (.returned (.tuple #[v1,v2,v3])) H):=by
  rintro _ X x4 x6 x8 at_ e rfl hr _ rfl;refine IK (.inr ⟨rfl,rfl⟩) (Po λb9=>?_);refine Ld.mk (.tail _ (xaa _ (.tail _ (.tail _ (.head _))))) rfl (Ld.mk (.tail _ (xaa _ (.tail _ (.head _)))) rfl (Ld.mk (.tail _ (xaa _ (.head _))) rfl ?_));exact aQ.mk (.skip (.bN (.skip (.skip .tail)))) ⟨[],rfl,.inr ⟨at_,e,hr,rfl⟩⟩
 refine aa.fp .left ((AN _).1 n 0 0 b34 o _ N (xal _) zD zD ⟨i,t,ho,hk,hi⟩ (.fZ hs zD)) ?_ ?_;rotate_left
 ·rintro ch _ ⟨p,e,h1,rfl,rfl⟩ _;exact fail _ _ _ _ _ p e rfl (.mk hl ht (.call h1 .done)) _ rfl
 rintro p _ ⟨t,l',v',N2,h1,h2,h3,h4,rfl,h6⟩;obtain⟨pt,rfl⟩:=h6.ptr;refine St.one (c':=#[bf pt]) (.aO (.tail (.tail (.head _))) _) rfl (show(0:Nat)<1 by decide) rfl ?_;obtain⟨y,l2,rfl⟩:=h2.split;refine aa.pre aF.assoc (aa.fp (.app .left) (B9 0 h4) ?_ ?_);rotate_left
 ·rintro ch _ ⟨XX,rfl,rfl⟩ _;rw[<-xai];refine fail _ _ _ _ _ y.p 14 rfl (.mk hl ht (.call h1 ?_)) _ rfl;show Ev n (if y.k=0 then _ else _) _;rw[xac XX];exact .done
 rintro _ _ ⟨XX,v2,rfl,l8⟩;refine Ld.mk (xaa _ (xaa _ (.tail _ (.tail _ (.head _))))) rfl ?_;refine St.one (c':=#[bf pt]) (.aO (.aO (.tail (.tail (.head _))) _) _) rfl (show(0:Nat)<1 by decide) rfl ?_;refine St.one (c':=#[nI 0]) (.aO (.aO (.tail (.head _)) _) _) rfl (show(0:Nat)<1 by decide) rfl ?_;refine St.one (c':=#[nI 0]) (.aO (.aO (.head _) _) _) rfl (show(0:Nat)<1 by decide) rfl ?_;refine IK (v:=.nilIface) (u':=.returning) (.inl ⟨rfl,rfl,rfl⟩) (aZ.zw rfl rfl rfl ⟨#[],by kernel_rfl⟩ (.inl ⟨rfl,rfl,_,rfl⟩) (Br.no ?_));refine Ld.mk (xaa _ (xaa _ (.tail _ (.tail _ (.head _))))) rfl (Ld.mk (xaa _ (xaa _ (.tail _ (.head _)))) rfl (Ld.mk (xaa _ (xaa _ (.head _))) rfl ?_));refine aQ.mk (.cL (.bN (.skip (.skip .tail))) N2) ⟨N2,rfl,.inl ⟨t,l2,bf pt,.mk hl ht (.call h1 ?_),rfl,h6⟩⟩;show Ev n (if y.k=0 then _ else _) _;rw[xae XX];exact .done
end
section
open Fm aC
section
variable {kp:Nat} {K K1 K2:Kd} {S S1 S2:Nat->aC.Fn} {ord ag tr:zL} {C:Hp}
structure bL(K:Kd)(S:Nat->aC.Fn)(K':Kd)(S':Nat->aC.Fn)(xs:zL):Prop where
 n:K'.n=K.n
 cap:K'.cap=K.cap
 fn:∀s,K.hold s≠0->S' s=S s
 hold:∀s,K'.hold s=K.hold s+if 2<=s then xs.count s else 0
theorem bL.refl:bL K S K S []:=⟨rfl,rfl,λ_ _=>rfl,λs=>by simp⟩
theorem bL.grow{xs:zL}{f:aC.Fn}{x:Nat}(h:bL K S K1 S1 xs)(hl:∀s,K1.hold s≠0->aC.live K1.N s)(hg:Si K1 S1 K2 S2 f x):bL K S K2 S2 (xs++[x]):=
 ⟨hg.n.trans h.n,hg.cap.trans h.cap,λs hs=>by
  rw[hg.fn s (hl s (by rw[h.hold];omega)),h.fn s hs],λs=>by
  rw[hg.hold,h.hold,xbu,xcT];by_cases h2:2<=s
  ·by_cases hx:s=x
   ·subst hx;simp[h2];omega
   have:(x==s)=false:=by simp;exact λh=>hx h.symm
   simp[h2,hx,this]
  have:¬(s=x/\2<=x):=λh=>h2 (h.1▸h.2);simp[h2,this]⟩
theorem bL.more{xs ys:zL}(h:bL K S K1 S1 xs)(h':bL K1 S1 K2 S2 ys):bL K S K2 S2 (xs++ys):=
 ⟨h'.n.trans h.n,h'.cap.trans h.cap,λs hs=>by rw[h'.fn s (by rw[h.hold];omega),h.fn s hs],λs=>by
  rw[h'.hold,h.hold,xbu];split<;>omega⟩
theorem bL.kept{xs:zL}(h:bL K S K1 S1 xs)(hk:Kept K1 S1 K2 S2):bL K S K2 S2 xs:=
 ⟨hk.n.trans h.n,hk.cap.trans h.cap,λs hs=>by rw[hk.fn s (by rw[h.hold];omega),h.fn s hs],λs=>by rw[hk.hold,h.hold]⟩
theorem bL.WJ{r:Nat}{xs:zL}(h:bL K S K1 S1 (r::xs))(hf:Sj K1 K2 r):bL K S K2 S1 xs:=
 ⟨hf.n.trans h.n,hf.cap.trans h.cap,h.fn,λs=>by
  rw[hf.hold,h.hold,xcU];by_cases h2:2<=s
  ·by_cases hx:s=r
   ·subst hx;simp[h2]
   have:(r==s)=false:=by simp;exact λh=>hx h.symm
   simp[h2,hx,this]
  have:¬(s=r/\2<=r):=λh=>h2 (h.1▸h.2);simp[h2,this]⟩
theorem bL.perm{xs ys:zL}(h:bL K S K1 S1 xs)(hp:xs.Perm ys):bL K S K1 S1 ys:=
 ⟨h.n,h.cap,h.fn,λs=>by rw[h.hold,hp.count_eq]⟩
theorem bL.held{xs:zL}(h:bL K S K1 S1 xs){P:aC.Fn->Prop}(hx:∀x∈xs,P (S1 x))(g:aC.Fn)(hg:K1.held S1 g):K.held S g\/P g:=by
 obtain⟨s,hs,rfl⟩:=hg;by_cases h0:K.hold s=0
 ·right;have hs':K1.hold s≠0:=hs;rw[h.hold,h0]at hs';by_cases h2:2<=s
  ·rw[xae h2]at hs';exact hx s (xcH.1 zO)
  rw[xac h2]at hs';exact absurd rfl hs'
 left;exact⟨s,h0,h.fn s h0⟩
theorem bL.le{xs:zL}(h:bL K S K1 S1 xs)(s:Nat):K1.hold s<=K.hold s+xs.length:=by
 rw[h.hold];have:=List.count_le_length (a:=s) (l:=xs);split<;>omega
theorem Q4{b3 b1:Nat}{v:zV}{L M:Hp}{xs ys:zL}(hv:aR 80 .u32 v (iw xs) L)(hh:bL K S K1 S1 (xs++ys))(hK:cT kp K1 S1 ord ag tr C)(hl:∀x∈xs,x<4294967296)(hm:xs.length<=3):
  FcD zQ 120 #[ptr b3,ptr b1] ((b3,.cells #[v] 189 zZ)::(b1,.cells #[ptr kp] 41 zZ)::(L++(M++C))) (λ_ H=>∃K2 C2 mm,H=(b3,.cells #[v] 189 zZ)::(b1,.cells #[ptr kp] 41 zZ)::(L++(M++C2))/\cT kp K2 S1 ord ag mm C2/\bL K S K2 S1 ys/\(mm=tr\/mm=[])):=by
 refine λg=>Db (Ld.mk (.head _) rfl (hv.bE ?_));refine⟨λvs H=>∃(i:Nat) (K2:Kd) (C2:Hp) (mm:zL),vs=[nI i]/\i<=xs.length/\H=(b3,.cells #[v] 189 zZ)::(b1,.cells #[ptr kp] 41 zZ)::(L++(M++C2))/\cT kp K2 S1 ord ag mm C2/\bL K S K2 S1 (xs.drop i++ys)/\(mm=tr\/mm=[]),λvs _=>xs.length-bA vs 0,JE.mk ⟨0,K1,C,tr,rfl,xaA _,rfl,hK,hh,.inl rfl⟩,?_⟩;rintro w7 H ⟨i,K2,C2,mm,⟨⟩,hi,rfl,gz,Dt,sX⟩ gs;rw[an];refine ae.cX (Br.dec (λh=>?_) (λh=>?_))
 ·have hg:xs[i]? =some xs[i]:=xab h;refine hv.ld (cr hg) (λy hy=>.tail _ (.tail _ (xad _ hy))) (Ld.mk (.tail _ (.head _)) rfl ?_);rw[xaV h,xaS]at Dt;refine aa.fn (args:=#[ptr kp,u32 xs[i]]) (.cons (.cons (.app (.app .here)))) (Af gz (hl _ (xaF h)) (λh2=>by rw[Dt.hold,xae h2,List.count_cons_self];omega)) ?_;rintro _ C3 ⟨rfl,K3,wB,hf⟩;exact ae.inc (az.of (.refl _) ⟨i+1,K3,C3,[],rfl,h,rfl,wB,Dt.WJ hf,.inr rfl⟩ (by simp only[bA];omega))
 have:i=xs.length:=by omega
 subst this;rw[xck,xa6]at Dt;exact aQ.mk (.refl _) ⟨K2,C2,mm,rfl,gz,Dt,sX⟩
def So(kp:Nat)(K:Kd)(S:Nat->aC.Fn)(ord ag:zL)(f:aC.Fn)(P:aC.Fn->Prop)(w:zV)(H:Hp):Prop:=
 (∃x K' S' iT,w=.tuple #[u32 x,nI 0]/\cT kp K' S' ord ag iT H/\bL K S K' S' [x]/\aC.live K'.N x/\S' x=f/\iT=[])\/
 (w=.tuple #[u32 0,nI 9]/\(∃K' S' iT,cT kp K' S' ord ag iT H/\bL K S K' S' [])/\¬Fits (bc K.n ord (λg=>K.held S g\/P g)) K.cap)
end
end
end Go.Proofs
