import Derived.Test.YtpndkbhmngcmfaaGreatDoorL2
import Derived.Test.YtpndkbhmngcmfaaGreatDoorL1
import Derived.Test.YtpndkbhmngcmfaaGreatDoorProg
import Derived.Deep.Slices
import Derived.SizedLaws
import Derived.WalkSmall
import Derived.Lib.Builder
import Derived.Lib.AppendStr
import Derived.Lib.UnsafeStr
import Derived.Laws.Externs
import Derived.Lib.MakeNoZero
import Derived.Lib.FrozenHead
import Derived.Sort.AssemblyPlain
set_option linter.unusedVariables false
set_option linter.unusedSimpArgs false
set_option linter.unusedSectionVars false
namespace ay
open cF
section
variable {n l:Nat} {ord:zL} {F G:Fn->Prop} {f c:Fn}
theorem ov:∀l g,fs ord (λg=>F g\/G g) l g↔fs ord F l g\/fs ord G l g
 |0,g=>xdi
 |l+1,g=>by
  constructor
  ·rintro⟨f,hf,b,rfl⟩;rcases(ov l f).1 hf with h|h
   ·exact .inl ⟨f,h,b,rfl⟩
   exact .inr ⟨f,h,b,rfl⟩
  rintro(⟨f,hf,b,rfl⟩|⟨f,hf,b,rfl⟩)
  ·exact⟨f,(ov l f).2 (.inl hf),b,rfl⟩
  exact⟨f,(ov l f).2 (.inr hf),b,rfl⟩
theorem zu(g:Fn):aJ n ord (λg=>F g\/G g) g↔aJ n ord F g\/aJ n ord G g:=by
 constructor
 ·rintro⟨l,hl,hf,hh⟩;rcases(ov l g).1 hf with h|h
  ·exact .inl ⟨l,hl,h,hh⟩
  exact .inr ⟨l,hl,h,hh⟩
 rintro(⟨l,hl,hf,hh⟩|⟨l,hl,hf,hh⟩)
 ·exact⟨l,hl,(ov l g).2 (.inl hf),hh⟩
 exact⟨l,hl,(ov l g).2 (.inr hf),hh⟩
theorem cS{v:Nat}(h:¬cT f v)(x:Nat)(b:Bool):f (aW x v b)=f x:=by
 have h0:f (aW x v false)=f (aW x v true):=xaZ λhne=>h ⟨x,hne⟩;have h1:=jZ x v
 conv=>rhs;rw[<-h1]
 cases b<;>cases x.testBit v<;>simp[h0]
theorem pJ(hi:∀j,j<l->¬cT f (ord.getD j 0)):∀k,k<=l->fs ord (λg=>g=f) k f
 |0,_=>rfl
 |k+1,hk=>⟨f,pJ hi k zO,false,funext λx=>(cS (hi k zO) x false).symm⟩
theorem pK(hi:∀j,j<l->¬cT f (ord.getD j 0)):∀k,k<=l->∀g,fs ord (λg=>g=f) k g->g=f
 |0,_,g,h=>h
 |k+1,hk,g,h=>by
  obtain⟨f',hf,b,rfl⟩:=h;obtain rfl:=pK hi k zO f' hf;exact funext λx=>cS (hi k zO) x b
theorem nW(hi:∀j,j<l->¬cT f (ord.getD j 0)){b:Bool}(hc:c=λx=>f (aW x (ord.getD l 0) b)):
  (∀j,j<l+1->¬cT c (ord.getD j 0))/\∀g,aJ n ord (λg=>g=c) g->aJ n ord (λg=>g=f) g:=by
 have h1:fs ord (λg=>g=f) (l+1) c:=⟨f,pJ hi l (xal _),b,hc⟩;have h2:∀j,j<l+1->¬cT c (ord.getD j 0):=λj hj=>jH (l+1) c h1 j hj;refine⟨h2,?_⟩;rintro g ⟨m,hm,hf,hh⟩;by_cases e:m<l+1
 ·obtain rfl:=pK h2 m zO g hf;exact absurd hh (h2 m e)
 have key:∀d g,fs ord (λg=>g=c) (l+1+d) g->fs ord (λg=>g=f) (l+1+d) g:=λd=>by
  induction d with
  |zero=>intro g hg;obtain rfl:=pK h2 (l+1) (xal _) g hg;exact h1
  |succ d ih=>rintro g ⟨f',yO,b',rfl⟩;exact⟨f',ih f' yO,b',rfl⟩
 obtain⟨d,rfl⟩:∃d,m=l+1+d:=⟨m-(l+1),by omega⟩;exact⟨_,hm,key d g hf,hh⟩
theorem n3(hi:∀j,j<l->¬cT f (ord.getD j 0))(hl:l<n)(hh:cT f (ord.getD l 0)):aJ n ord (λg=>g=f) f:=⟨l,hl,pJ hi l (xal _),hh⟩
end
section
variable {K:Kd} {S:Nat->Fn} {af:Nat->Nat} {ord:zL}
theorem Ok.below(h:Ok K S af)(ho:Ord K.n af ord){r l:Nat}(hr:live K.N r)(hl:l<=K.n)(hi:∀j,j<l->¬cT (S r) (ord.getD j 0)):l<=dep K.n af K.N r:=by
 cases e:K.N r with
 |none=>rw[bC e];exact hl
 |some d=>
  rw[aq e];refine xaZ λhlt=>?_;have lB:af d.v<l:=Nat.lt_of_not_le hlt;have:=hi _ lB;rw[ho.of h.lv (h.mid.var e)]at this;exact this (fO h.wf h.lv h.mid.int e)
theorem Ok.roomFor(h:Ok K S af)(ho:Ord K.n af ord){U:Fn->Prop}{k:Nat}(hk:lY U k)(hfit:k+2<=K.cap)(hU:∀g,aJ K.n ord (K.held S) g->U g){d:Nd}
 (hlo:live K.N d.lo)(hhi:live K.N d.hi)(hne:d.lo≠d.hi)(hv:d.v<K.n)(hlt:af d.v<dep K.n af K.N d.lo/\af d.v<dep K.n af K.N d.hi)(hg:U (ite S d))(hT:K.T d=none):K.used<K.cap:=by
 have hs:=h.size ho;have hu:=h.mid.room;obtain⟨l1,a1,a2,a3⟩:=hs;have Fl:ite S d∉l1:=λhm=>by
  obtain⟨r,e,hr,he⟩:=(kQ h.wf h.lv ho h.mid.int (λr hr=>.inr (h.mid.held r hr)) h.reach (ite S d)).1 ((a3 _).2 hm);have K7:¬K.N r=some d:=λhN=>by
   have:=(h.mid.nt d r).2 ⟨hN,λx=>x⟩;rw[hT]at this;cases this
  apply K7;have BQ:S r=ite S d:=he.symm;have Al:e.v=d.v:=by
   have e1:=h.lv.lt e.v (h.mid.var hr);have e2:=h.lv.lt d.v hv;rcases xdt (af e.v) (af d.v)with hh|hh|hh
   ·exfalso;obtain⟨z,hz⟩:=fO h.wf h.lv h.mid.int hr;rw[BQ]at hz;apply hz;unfold ite;have i1:=h.wf.bK h.lv h.mid.int hlo (h.mid.var hr) zO;have i2:=h.wf.bK h.lv h.mid.int hhi (h.mid.var hr) zO;have qU:d.v≠e.v:=λjV=>by rw[jV]at hh;omega
    simp only[ak,xac qU,i1,i2]
   ·exact h.lv.inj _ _ (h.mid.var hr) hv hh
   exfalso;have hx:=h.wf.bK h.lv h.mid.int (r:=r) (.inr ⟨e,hr⟩) hv (by rw[aq hr];exact hh);apply hne;refine h.wf.same h.lv h.mid.int hlo hhi λx=>?_;have i1:=h.wf.bK h.lv h.mid.int hlo hv hlt.1;have i2:=h.wf.bK h.lv h.mid.int hhi hv hlt.2;have q1:=hx x false;have q2:=hx x true;rw[BQ]at q1 q2;have q3:=q1.trans q2.symm;unfold ite at q3;simp only[ak,xaS,i1,i2,xas,xaD]at q3;exact q3
  have gL:∀(b:Bool) x,S (if b then e.hi else e.lo) x=S (if b then d.hi else d.lo) x:=λb x=>by
   rw[<-h.wf.child h.lv h.mid.int hr x b,BQ,Al];have i1:=h.wf.bK h.lv h.mid.int hlo hv hlt.1;have i2:=h.wf.bK h.lv h.mid.int hhi hv hlt.2;unfold ite;rw[ak,xaf rfl,i1,i2];cases b<;>rfl
  have e1:e.lo=d.lo:=h.wf.same h.lv h.mid.int (h.mid.lo hr) hlo λx=>gL false x;have e2:e.hi=d.hi:=h.wf.same h.lv h.mid.int (h.mid.hi hr) hhi λx=>gL true x;have HR:∀a b:Nd,a.v=b.v->a.lo=b.lo->a.hi=b.hi->a=b:=λa b h1 h2 h3=>by
   cases a;cases b;cases h1;cases h2;cases h3;rfl
  rw[hr,HR e d Al e1 e2]
 obtain⟨l2,b1,b2,b3⟩:=hk;have:=bN (l:=ite S d::l1) (l':=l2) (xa1.2 ⟨Fl,a1⟩) λg KH=>by
  rcases xag.1 KH with rfl|KH
  ·exact(b3 _).1 hg
  exact(b3 _).1 (hU g ((a3 g).2 KH))
 rw[xak]at this;omega
end
end ay
namespace ay
open cF
def eT(N:dh)(v:Nat)(b:Bool)(r:Nat):Nat:=match N r with
 |some d=>if d.v=v then(if b then d.hi else d.lo)else r
 |none=>r
def ei(N:dh)(v:Nat)(b:Bool)(q:zL):zL:=q.map (eT N v b)
structure m3(n:Nat)(af:Nat->Nat)(N:dh)(q:zL)(v:Nat):Prop where
 lt:v<n
 ex:∃r∈q,∃d,N r=some d/\d.v=v
 le:∀r∈q,af v<=dep n af N r
inductive Tree(n:Nat)(af:Nat->Nat)(N:dh):zL->Nat->Prop
 |leaf {q:zL} (h:∀r∈q,N r=none):Tree n af N q 0
 |node {q:zL} {v a b:Nat} (h:m3 n af N q v) (ha:Tree n af N (ei N v false q) a) (hb:Tree n af N (ei N v true q) b):Tree n af N q (a+b+1)
def l9(t:Bool->Bool->Bool->Bool)(S:Nat->Fn)(q:zL):Fn:=λx=>t (S (q.getD 0 0) x) (S (q.getD 1 0) x) (S (q.getD 2 0) x)
section
variable {n:Nat} {af:Nat->Nat} {N:dh} {S:Nat->Fn} {q:zL} {v:Nat}
theorem m3.uniq(hl:m5 n af){u:Nat}(h:m3 n af N q v)(h':m3 n af N q u):v=u:=by
 obtain⟨r,hr,d,hd,rfl⟩:=h.ex;obtain⟨s,hs,e,he,rfl⟩:=h'.ex;have a:=h.le s hs;have b:=h'.le r hr;rw[aq he]at a;rw[aq hd]at b;exact hl.inj _ _ h.lt h'.lt zO
theorem pR(h:WF n af N)(hl:m5 n af)(hi:Interp N S){r:Nat}(hr:live N r)(hv:v<n)(hle:af v<=dep n af N r)(b:Bool):
  (∀x,S (eT N v b r) x=S r (aW x v b))/\live N (eT N v b r)/\af v+1<=dep n af N (eT N v b r):=by
 have hlt:=hl.lt v hv;unfold eT;cases e:N r with
 |none=>
  simp only;refine⟨λx=>?_,hr,by rw[bC e];omega⟩;exact(h.bK hl hi hr hv (by rw[bC e];exact hlt) x b).symm
 |some d=>
  simp only;rw[aq e]at hle;by_cases ev:d.v=v
  ·rw[xaf ev];subst ev;refine⟨λx=>(h.child hl hi e x b).symm,?_,?_⟩
   ·cases b
    ·exact(h.lo e).1
    exact(h.hi e).1
   cases b
   ·exact(h.lo e).2
   exact(h.hi e).2
  rw[xac ev];have hne:af v≠af d.v:=λe2=>ev (hl.inj _ _ (h.var e) hv e2.symm);refine⟨λx=>(h.bK hl hi hr hv (by rw[aq e];omega) x b).symm,hr,by rw[aq e];omega⟩
theorem Bh(b:Bool):(ei N v b q).length=q.length:=by simp[ei]
theorem Bi{b:Bool}{i:Nat}(hi:i<q.length):(ei N v b q).getD i 0=eT N v b (q.getD i 0):=by
 simp[ei,List.getD,xab hi]
theorem mc(h:WF n af N)(hl:m5 n af)(hi:Interp N S)(hq:∀r∈q,live N r)(ht:m3 n af N q v)(b:Bool):
  (∀r∈ei N v b q,live N r)/\(∀r∈ei N v b q,af v+1<=dep n af N r):=by
 constructor
 ·intro r hr;obtain⟨s,hs,rfl⟩:=xaq.1 hr;exact(pR h hl hi (hq s hs) ht.lt (ht.le s hs) b).2.1
 intro r hr;obtain⟨s,hs,rfl⟩:=xaq.1 hr;exact(pR h hl hi (hq s hs) ht.lt (ht.le s hs) b).2.2
theorem Dv(h:WF n af N)(hl:m5 n af)(hi:Interp N S)(h3:q.length=3)(hq:∀r∈q,live N r)(ht:m3 n af N q v)(t:Bool->Bool->Bool->Bool)(b:Bool):l9 t S (ei N v b q)=λx=>l9 t S q (aW x v b):=by
 funext x
 have key:∀i,i<3->S ((ei N v b q).getD i 0) x=S (q.getD i 0) (aW x v b):=λi Fv=>by
  have hi':i<q.length:=by omega
  rw[Bi hi'];have hm:q.getD i 0∈q:=by rw[xaJ,xab hi'];exact xaP _
  exact(pR h hl hi (hq _ hm) ht.lt (ht.le _ hm) b).1 x
 unfold l9;rw[key 0 zO,key 1 zO,key 2 zO]
theorem xf(h:WF n af N)(hl:m5 n af)(hi:Interp N S){ord:zL}(ho:Ord n af ord)(h3:q.length=3)(hq:∀r∈q,live N r){l:Nat}(C8:l<=n)(hle:∀r∈q,l<=dep n af N r)(t:Bool->Bool->Bool->Bool):∀j,j<l->¬cT (l9 t S q) (ord.getD j 0):=by
 rintro j hj ⟨x,hx⟩;apply hx;obtain⟨o1,o2⟩:=ho.at' j zO;have key:∀i,i<3->∀b,S (q.getD i 0) (aW x (ord.getD j 0) b)=S (q.getD i 0) x:=λi Fv b=>by
  have hi':i<q.length:=by omega
  have hm:q.getD i 0∈q:=by rw[xaJ,xab hi'];exact xaP _
  exact h.bK hl hi (hq _ hm) o1 (by rw[o2];exact xbu hj (hle _ hm)) x b
 unfold l9;simp only[key 0 zO,key 1 zO,key 2 zO]
theorem xg(hi:Interp N S)(h3:q.length=3)(hq:∀r∈q,r<2)(t:Bool->Bool->Bool->Bool)(x:Nat):l9 t S q x=t (decide (q.getD 0 0=1)) (decide (q.getD 1 0=1)) (decide (q.getD 2 0=1)):=by
 have key:∀i,i<3->S (q.getD i 0) x=decide (q.getD i 0=1):=λi Fv=>by
  have hi':i<q.length:=by omega
  have hm:q.getD i 0∈q:=by rw[xaJ,xab hi'];exact xaP _
  have:=hq _ hm;have h2:q.getD i 0=0\/q.getD i 0=1:=by omega
  rcases h2 with e|e<;>rw[e]
  ·rw[hi.zero];rfl
  rw[hi.one];rfl
 unfold l9;rw[key 0 zO,key 1 zO,key 2 zO]
theorem y4(h:WF n af N):∀{q:zL},(∃r∈q,∃d,N r=some d)->(hl:m5 n af)->∃v,m3 n af N q v
 | [],he,_=>by obtain⟨r,hr,_⟩:=he;cases hr
 |s::q,he,hl=>by
  by_cases hq:∃r∈q,∃d,N r=some d
  ·obtain⟨v,hv⟩:=y4 h hq hl;cases es:N s with
   |none=>
    refine⟨v,hv.lt,?_,λr hr=>?_⟩
    ·obtain⟨r,hr,x⟩:=hv.ex;exact⟨r,by simp[hr],x⟩
    rcases xag.1 hr with rfl|hr
    ·rw[bC es];exact xbN (hl.lt v hv.lt)
    exact hv.le r hr
   |some d=>
    by_cases hlt:af d.v<=af v
    ·refine⟨d.v,h.var es,⟨s,by simp,d,es,rfl⟩,λr hr=>?_⟩;rcases xag.1 hr with rfl|hr
     ·rw[aq es];exact xal _
     exact xbF hlt (hv.le r hr)
    refine⟨v,hv.lt,?_,λr hr=>?_⟩
    ·obtain⟨r,hr,x⟩:=hv.ex;exact⟨r,by simp[hr],x⟩
    rcases xag.1 hr with rfl|hr
    ·rw[aq es];omega
    exact hv.le r hr
  obtain⟨r,hr,d,hd⟩:=he;rcases xag.1 hr with rfl|hr
  ·refine⟨d.v,h.var hd,⟨r,by simp,d,hd,rfl⟩,λs hs=>?_⟩;rcases xag.1 hs with rfl|hs
   ·rw[aq hd];exact xal _
   have:N s=none:=by
    cases e:N s with
    |none=>rfl
    |some d'=>exact absurd ⟨s,hs,d',e⟩ hq
   rw[bC this];exact xbN (hl.lt _ (h.var hd))
  exact absurd ⟨r,hr,d,hd⟩ hq
theorem B8(h:WF n af N)(hl:m5 n af)(hi:Interp N S):∀(k l:Nat) (q:zL),n-l<=k->l<=n->(∀r∈q,live N r)->(∀r∈q,l<=dep n af N r)->∃c,Tree n af N q c/\c+1<=2^(n-l):=by
 intro k;induction k with
 |zero=>
  intro l q hk C8 hq hd;refine⟨0,.leaf λr hr=>?_,xcQ⟩;cases e:N r with
  |none=>rfl
  |some d=>have:=hd r hr;rw[aq e]at this;have:=hl.lt _ (h.var e);omega
 |succ k ih=>
  intro l q hk C8 hq hd;by_cases he:∃r∈q,∃d,N r=some d
  ·obtain⟨v,hv⟩:=y4 h he hl;have hlv:=hl.lt v hv.lt;have l8:l<=af v:=by
    obtain⟨r,hr,d,jW,rfl⟩:=hv.ex;have:=hd r hr;rwa [aq jW]at this
   obtain⟨f1,f2⟩:=mc (S:=S) h hl hi hq hv false;obtain⟨t1,t2⟩:=mc (S:=S) h hl hi hq hv true;obtain⟨a,ha,Es⟩:=ih (af v+1) _ zO hlv f1 f2;obtain⟨b,hb,MJ⟩:=ih (af v+1) _ zO hlv t1 t2;refine⟨a+b+1,.node hv ha hb,?_⟩;have e1:2^(n-af v)=2*2^(n-(af v+1)):=by
    rw[show n-af v=(n-(af v+1))+1 by omega,xcv,xbj]
   have e2:2^(n-af v)<=2^(n-l):=xaL zD zO;omega
  refine⟨0,.leaf λr hr=>?_,xcQ⟩;cases e:N r with
  |none=>rfl
  |some d=>exact absurd ⟨r,hr,d,e⟩ he
def fQ(N:dh)(v:Nat)(b:Bool)(q:zL)(i:Nat):zL:=(ei N v b q).take i++q.drop i
theorem qz{b:Bool}{i:Nat}(hi:i<=q.length):(fQ N v b q i).length=q.length:=by simp[fQ,ei];omega
theorem n8(b:Bool):fQ N v b q 0=q:=by simp[fQ]
theorem zN(b:Bool):fQ N v b q q.length=ei N v b q:=by
 unfold fQ;rw[xcY (by rw[Bh];exact xal _),xbI,xaT]
theorem j6{b:Bool}{i r:Nat}(hr:q[i]? =some r):(fQ N v b q i).set i (eT N v b r)=fQ N v b q (i+1):=by
 have hi:=(xae.1 hr).1;have he:=(xae.1 hr).2;have hl:((ei N v b q).take i).length=i:=by simp[ei];omega
 have hc:(ei N v b q)[i]? =some (eT N v b r):=by simp[ei,hr]
 unfold fQ;rw[xcu _ _ zO,hl,xct,xaX hi,xcL,xbT,hc,xat];rfl
theorem n9{b:Bool}{i r:Nat}(hr:q[i]? =some r)(h:eT N v b r=r):fQ N v b q (i+1)=fQ N v b q i:=by
 rw[<-j6 hr,h];have hi:=(xae.1 hr).1;have he:=(xae.1 hr).2;have hl:((ei N v b q).take i).length=i:=by simp[ei];omega
 unfold fQ;rw[xcu _ _ zO,hl,xct,xaX hi,xcL,he]
end
end ay
set_option maxRecDepth 100000
namespace Go.Proofs
open Go Go.Sx Tryz
open ay
noncomputable instance {K:Kd}{S:Nat->ay.Fn}{ord:zL}{l:Nat}:Decidable (JZ K S ord l):=Nat.decLe _ _
def rep(b a s:Nat):zV:=.agg #[iv (b:Int),iv (a:Int),iv (s:Int),.bool false]
end Go.Proofs
namespace ay
open cF
section
variable {n v:Nat} {bs:List Bool} {lo hi ws:zL}
theorem A2(h:∀v,v<n->¬cT (ff n ws) v)(x:Nat):ff n ws x=ff n ws 0:=by
 have key:∀k,k<=n->ff n ws (x%2^k)=ff n ws 0:=λk=>by
  induction k with
  |zero=>intro _;rw[show x%2^0=0 from Nat.mod_one x]
  |succ k ih=>
   intro hk;rw[<-ih zO];have e:x%2^(k+1)=aW (x%2^k) k (x.testBit k):=by
    apply xa6;intro i;rw[ak,xa4,xa4];by_cases e:i=k
    ·subst e;simp
    rw[xac e];congr 1;exact xdy.2 zO
   rw[e,cS (h k zO)]
 have:=key n (xal _);rw[<-this];unfold ff;rw[Nat.mod_mod]
end
end ay
set_option maxRecDepth 100000
namespace Go.Proofs
open Go Go.Sx Tryz
section
open ay
theorem cc{ws:zL}{i:Nat}(h:i<ws.length):(iw ws)[i]? =some ((ws.getD i 0:Nat):Int):=by
 rw[gI (w:=ws.getD i 0)];rw[xaJ,xab h];rfl
def Hh(n:Nat)(p:List Int):Prop:=p.length=n/\∀v:Nat,v<n->p.count (v:Int)=1
instance (n:Nat)(p:List Int):Decidable (Hh n p):=by unfold Hh;infer_instance
end
section
open ay
section
variable {n:Nat} {ord:zL} {L:cF.Fs}
theorem vC:∀k,(cur n ord L k).length<=2^k*L.length
 |0=>by rw[cur,Nat.pow_zero,Nat.one_mul];exact vU L
 |k+1=>by
  have h1:=AL n (ord.getD k 0) (cur n ord L k);have h2:=vC k;rw[cur,xcv,xbj (2^k) 2,xds];omega
end
theorem AS{ord:zL}{F G:ay.Fn->Prop}(h:∀g,F g->G g):∀l g,fs ord F l g->fs ord G l g
 |0,g,hg=>h g hg
 |l+1,g,⟨f,hf,b,e⟩=>⟨f,AS h l f hf,b,e⟩
theorem cB{n:Nat}{ord:zL}{F G:ay.Fn->Prop}(h:∀g,F g->G g){g:ay.Fn}(hg:aJ n ord F g):aJ n ord G g:=let ⟨l,a,b,c⟩:=hg;⟨l,a,AS h l g b,c⟩
structure BL(K:Kd)(S:Nat->ay.Fn)(K':Kd)(S':Nat->ay.Fn)(f:ay.Fn)(r:Nat):Prop where
 n:K'.n=K.n
 cap:K'.cap=K.cap
 N:∀s d,K.N s=some d->K'.N s=some d
 fn:∀s,live K.N s->S' s=S s
 live:live K'.N r
 is:S' r=f
 hold:∀s,K'.hold s=K.hold s+if s=r/\2<=r then 1 else 0
theorem og{N N':dh}(h:∀s d,N s=some d->N' s=some d){s:Nat}(hs:live N s):live N' s:=by
 rcases hs with hs|⟨d,hd⟩
 ·exact .inl hs
 exact .inr ⟨d,h s d hd⟩
theorem sk{K K5:Kd}{S S5:Nat->ay.Fn}{af:Nat->Nat}(hK:Ok K S af)(Jn:Ok K5 S5 af)(hold:∀s,K.hold s≠0->K5.hold s≠0)(h3:∀s d d',K.N s=some d->K5.N s=some d'->d'=d):
  ∀(k s:Nat) (d:Nd),K.N s=some d->af d.v<=k->K5.N s=some d:=by
 intro k;induction k with
 |zero=>
  intro s d hd hl;have fin:live K5.N s->K5.N s=some d:=λhs=>by
   rcases hs with hs|⟨d',jW⟩
   ·have:=(hK.mid.two hd).1;omega
   rw[jW,h3 s d d' hd jW]
  rcases hK.reach s d hd with h|⟨p,e,hp,he⟩
  ·exact fin (.inr (Jn.mid.held s (hold s h)))
  have h1:=hK.wf.lo hp;have h2:=hK.wf.hi hp;rcases he with rfl|rfl
  ·have:=h1.2;rw[aq hd]at this;omega
  have:=h2.2;rw[aq hd]at this;omega
 |succ k ih=>
  intro s d hd hl;have fin:live K5.N s->K5.N s=some d:=λhs=>by
   rcases hs with hs|⟨d',jW⟩
   ·have:=(hK.mid.two hd).1;omega
   rw[jW,h3 s d d' hd jW]
  rcases hK.reach s d hd with h|⟨p,e,hp,he⟩
  ·exact fin (.inr (Jn.mid.held s (hold s h)))
  have h1:=hK.wf.lo hp;have h2:=hK.wf.hi hp;rcases he with rfl|rfl
  ·have:=h1.2;rw[aq hd]at this;exact fin (Jn.mid.lo (ih p e hp zO))
  have:=h2.2;rw[aq hd]at this;exact fin (Jn.mid.hi (ih p e hp zO))
end
end Go.Proofs
namespace ay
open cF
section
variable {K:Kd} {S:Nat->Fn} {af:Nat->Nat}
theorem Ok.Cp(h:Ok K S af){d e:Nd}{r:Nat}
 (hlo:live K.N d.lo)(hhi:live K.N d.hi)(hne:d.lo≠d.hi)(hv:d.v<K.n)(hlt:af d.v<dep K.n af K.N d.lo/\af d.v<dep K.n af K.N d.hi)(hr:K.N r=some e)(BQ:S r=ite S d):e=d:=by
 have Al:e.v=d.v:=by
  have e1:=h.lv.lt e.v (h.mid.var hr);have e2:=h.lv.lt d.v hv;rcases xdt (af e.v) (af d.v)with hh|hh|hh
  ·exfalso;obtain⟨z,hz⟩:=fO h.wf h.lv h.mid.int hr;rw[BQ]at hz;apply hz;unfold ite;have i1:=h.wf.bK h.lv h.mid.int hlo (h.mid.var hr) zO;have i2:=h.wf.bK h.lv h.mid.int hhi (h.mid.var hr) zO;have qU:d.v≠e.v:=λjV=>by rw[jV]at hh;omega
   simp only[ak,xac qU,i1,i2]
  ·exact h.lv.inj _ _ (h.mid.var hr) hv hh
  exfalso;have hx:=h.wf.bK h.lv h.mid.int (r:=r) (.inr ⟨e,hr⟩) hv (by rw[aq hr];exact hh);apply hne;refine h.wf.same h.lv h.mid.int hlo hhi λx=>?_;have i1:=h.wf.bK h.lv h.mid.int hlo hv hlt.1;have i2:=h.wf.bK h.lv h.mid.int hhi hv hlt.2;have q1:=hx x false;have q2:=hx x true;rw[BQ]at q1 q2;have q3:=q1.trans q2.symm;unfold ite at q3;simp only[ak,xaS,i1,i2,xas,xaD]at q3;exact q3
 have gL:∀(b:Bool) x,S (if b then e.hi else e.lo) x=S (if b then d.hi else d.lo) x:=λb x=>by
  rw[<-h.wf.child h.lv h.mid.int hr x b,BQ,Al];have i1:=h.wf.bK h.lv h.mid.int hlo hv hlt.1;have i2:=h.wf.bK h.lv h.mid.int hhi hv hlt.2;unfold ite;rw[ak,xaf rfl,i1,i2];cases b<;>rfl
 have e1:e.lo=d.lo:=h.wf.same h.lv h.mid.int (h.mid.lo hr) hlo λx=>gL false x;have e2:e.hi=d.hi:=h.wf.same h.lv h.mid.int (h.mid.hi hr) hhi λx=>gL true x;have HR:∀a b:Nd,a.v=b.v->a.lo=b.lo->a.hi=b.hi->a=b:=λa b h1 h2 h3=>by
  cases a;cases b;cases h1;cases h2;cases h3;rfl
 exact HR e d Al e1 e2
end
end ay
set_option maxRecDepth 100000
namespace Go.Proofs
open Go Go.Sx Tryz
section
open ay
def da(bw kp:Nat)(vl vm:zV):Nat×Obj:=(bw,.cells #[ptr kp,vl,vm] 289 zZ)
abbrev Q3:=Nat×Nat×Nat
def l3(q:Q3):zL:=[q.1,q.2.1,q.2.2]
def kq(q:Q3):zV:=.agg (an .u32 (iw (l3 q)))
theorem CS{a b:zL}(h:iw a=iw b):a=b:=by
 induction a generalizing b with
 |nil=>cases b with
  |nil=>rfl
  |cons y b=>simp[iw]at h
 |cons x a ih=>cases b with
  |nil=>simp[iw]at h
  |cons y b=>
   simp only[iw,xay,xbb]at h;rw[Int.ofNat.inj h.1,ih h.2]
theorem E8{a b:Q3}(h:l3 a=l3 b):a=b:=by
 obtain⟨a1,a2,a3⟩:=a;obtain⟨b1,b2,b3⟩:=b;simp[l3]at h;rw[h.1,h.2.1,h.2.2]
theorem mC(a b:Q3):vN zQ 237 (kq a) (kq b) (decide (a=b)):=by
 have:=vN.array (P:=zQ) (t:=237) (e:=82) (q:=.u32) (n:=3) zK zK zK (iw (l3 a)) (iw (l3 b)) rfl rfl;have e:decide (iw (l3 a)=iw (l3 b))=decide (a=b):=xdy.2 ⟨λh=>E8 (CS h),λh=>by rw[h]⟩;rw[e]at this;exact this
theorem iR(a:Q3):jf zQ 237 (kq a):=jf.array (P:=zQ) (t:=237) (e:=82) (q:=.u32) (n:=3) zK zK zK _ rfl
theorem pz(a:Q3):Instr.sameBits 10000 (kq a) (kq a)=true:=ik 9998 λx hx=>.inl (by simp[an]at hx;obtain⟨n,_,rfl⟩:=hx;exact⟨_,_,rfl⟩)
section
variable {kp bw:Nat} {vl vm:zV} {K:Kd} {S:Nat->ay.Fn} {ord af tr:zL} {C:Hp}
theorem xu{H:Hp}{r:List zV}{K:zV->Hp->Prop}(hl:r.length=3)(h:∀b,K (.slice (some ⟨b,0,none⟩) 1 1) ((b,.cells r.toArray 201 zZ)::H)):aj zQ 293 1 [(0,.agg r.toArray)] H K:=
 aj.one (r:=r) (e:=201) (k:=3) (z:=.agg #[iv 0,.int .u32 0,.int .u32 0]) zK zK zK zD hl h
theorem oI{X Y:Hp}(h:cW kp K ord af tr C)(q:Q3)(hq:∀r∈l3 q,r<4294967296):
  Fc zQ 208 #[ptr bw,kq q] (da bw kp vl vm::(X++(Y++C))) (λv H=>∃CN,H=CN++(da bw kp vl vm::(X++(Y++C)))/\aC 201 3 v ((l3 q).map (got K.N)) CN):=by
 have hlen:(l3 q).length=3:=rfl;refine aU λg=>th λb1 _=>?_;refine aA.q ?_;refine⟨λvs H=>∃(i:Nat) (u:zV) (CN:Hp),vs=[u,iv (i:Int)]/\i<=3/\H=CN++((b1,.cells (an .u32 (iw (l3 q))) 237 zZ)::(da bw kp vl vm::(X++(Y++C))))/\aC 201 3 u (((l3 q).take i).map (got K.N)) CN,λvs _=>3-dx vs 1,
  JE.mk ⟨0,_,[],rfl,by omega,rfl,aC.nil _ _⟩,?_⟩
 rintro w8 w9 H ⟨i,u,CN,⟨⟩,hi,rfl,hN⟩ gs;refine ae.dX (b:=3) (Br.dec (λhlt=>?_) (λhlt=>?_))
 ·have lB:i<(l3 q).length:=hlt;obtain⟨r,hr⟩:∃r,(l3 q)[i]? =some r:=⟨_,xab lB⟩;have Km:=hq r (xaI hr);refine aG.Iz (t:=237) (e:=82) (q:=.u32) (x:=.tmp 10) (i:=.tmp 11) (l:=iw (l3 q)) (z:=(r:Int)) (kd:=.i64) (n:=3) (j:=i) zK rfl rfl zK zK zK hlt (gI hr) ?_;refine Ld.n ?_;refine aa.eq (args:=#[ptr kp,u32 r]) (jz h Km) (Ext.two λPD _=>(St.whole (r:=got K.N r) (by exact .head _) rfl (aT _ _).1 (aT _ _).2 ?_));refine aA.whole (r:=got K.N r) (by exact .head _) (aT _ _).1 ?_;refine xu (aT _ _).1 λbx=>?_;refine hN.nP (r:=got K.N r) (.cons (.cons .left)) (by exact .head _) (aT _ _).1 (aT _ _).2 ⟨[iv 0,.int .u32 0,.int .u32 0],rfl,rfl⟩ zP zP λv' C' ho=>?_;refine ae.inc (aI.of (.skip .tail) ⟨i+1,v',C',rfl,by omega,rfl,?_⟩ (by simp only[dx];omega));rw[xbT,hr,xau];exact ho
 obtain rfl:i=3:=by omega
 rw[xcY (by rw[hlen];exact xal _)]at hN;exact bc.mk (.cL .tail _) ⟨CN,rfl,hN⟩
theorem vG{n:Nat}{qI:Nat->Nat}{N:dh}{B:Hp}{vn:zV}{lvl:zL}(hw:da bw kp vl vm∈B)(hl:eV .i64 B vl (iw lvl))(l8:lvl.length=n)(hlv:∀v,v<n->lvl.getD v 0=qI v)(q:Q3)(hn:Sl 3 B vn ((l3 q).map (got N)))
 (h:WF n qI N)(hL:m5 n qI)(hq:∀r∈l3 q,live N r)(C7:n<=64):
  Rd zQ 209 #[ptr bw,vn] B (λr=>((∀s∈l3 q,N s=none)/\r=iv (-1))\/∃v,m3 n qI N (l3 q) v/\r=iv (v:Int)):=by
 have hlen:(l3 q).length=3:=rfl;refine aU λg=>tg (hn.cx ?_);rw[xaw,hlen];refine⟨λvs H=>∃(i:Nat) (w:Int),vs=[iv w,iv (i:Int)]/\i<=3/\H=B/\(((∀s∈(l3 q).take i,N s=none)/\w= -1)\/∃v:Nat,m3 n qI N ((l3 q).take i) v/\w=(v:Int)),λvs _=>3-dx vs 1,
  JE.mk ⟨0, -1,rfl,by omega,rfl,.inl ⟨by simp,rfl⟩⟩,?_⟩
 rintro w6 w7 H ⟨i,w,⟨⟩,hi,rfl,IY⟩ gs;refine ae.dX (b:=3) (Br.dec (λhlt=>?_) (λhlt=>?_))
 ·intro J hJ;have lB:i<(l3 q).length:=hlt;obtain⟨r,hr⟩:∃r,(l3 q)[i]? =some r:=⟨_,xab lB⟩;have qR:(l3 q).take (i+1)=(l3 q).take i++[r]:=by rw[xbT,hr];rfl
  have fin:∀(w':Int) (Z:Hp),((∀s∈(l3 q).take (i+1),N s=none)/\w'= -1)\/(∃v:Nat,m3 n qI N ((l3 q).take (i+1)) v/\w'=(v:Int))->J [iv w'] (Z++H):=λw' Z h'=>hJ _ _ λgs=>by
   exact ae.inc (aI.of .right ⟨i+1,w',rfl,by omega,rfl,h'⟩ (by simp only[dx];omega))
  have hrow:((l3 q).map (got N))[i]? =some (got N r):=by rw[xaC,hr];rfl
  refine ai.sl hn hrow λp hp=>?_;refine aA.at hp (aT _ _).1 zD (λ_ h=>h) ?_;intro kE _;refine St.whole (r:=got N r) (by exact .head _) rfl (aT _ _).1 (aT _ _).2 ?_;have hlr:=hq r (xaI hr);cases hN:N r with
  |none=>
   have rR:r<2:=by rcases hlr with h2|⟨d,hd⟩;exact h2;rw[hN]at hd;cases hd
   have eg:got N r=[iv (-1),u32 r,u32 r]:=eu rR;rw[eg];refine Ld.f ?_;refine ae.geq (bO.mk false (λh=>by simp at h) (λ_=>rfl) λgs=>Br.no ?_);refine JE.mk (fin w [_] ?_);rcases IY with⟨h1,h2⟩|⟨v,h1,h2⟩
   ·refine .inl ⟨λs hs=>?_,h2⟩;rw[qR,xav,xaG]at hs;rcases hs with hs|rfl
    ·exact h1 s hs
    exact hN
   refine .inr ⟨v,⟨h1.lt,?_,λs hs=>?_⟩,h2⟩
   ·obtain⟨s,hs,x⟩:=h1.ex;exact⟨s,by rw[qR];exact xad _ hs,x⟩
   rw[qR,xav,xaG]at hs;rcases hs with hs|rfl
   ·exact h1.le s hs
   rw[bC hN];exact xbN (hL.lt v h1.lt)
  |some d=>
   have h2:=h.two hN;have De:=h.var hN;have eg:got N r=e9 d:=dJ hN h2;rw[eg];refine Ld.f ?_;refine ae.geq ?_;rw[xaN zO];have qg:(∀s∈(l3 q).take i,qI d.v<=dep n qI N s)->∃v:Nat,m3 n qI N ((l3 q).take (i+1)) v/\(d.v:Int)=(v:Int):=λhle=>by
    refine⟨d.v,⟨De,⟨r,by rw[qR];simp,d,hN,rfl⟩,λs hs=>?_⟩,rfl⟩;rw[qR,xav,xaG]at hs;rcases hs with hs|rfl
    ·exact hle s hs
    rw[aq hN];exact xal _
   rcases IY with⟨h1,rfl⟩|⟨v,h1,rfl⟩
   ·refine bO.and true (λ_=>?_) rfl λgs=>Br.yes ?_
    ·exact ae.lss (bO.mk true (λh=>by simp at h) (λ_=>rfl) λgs=>⟨rfl,rfl⟩)
    refine Ld.f ?_;refine JE.mk (fin (d.v:Int) [_] (.inr (qg λs hs=>?_)));rw[bC (h1 s hs)];exact xbN (hL.lt _ De)
   have g1:(iw lvl)[d.v]? =some ((qI d.v:Nat):Int):=by rw[<-hlv d.v De];exact cc zO
   have g2:(iw lvl)[v]? =some ((qI v:Nat):Int):=by rw[<-hlv v h1.lt];exact cc (by have:=h1.lt;omega)
   refine bO.and (decide (qI d.v<qI v)) (λ_=>?_) rfl λgs=>?_
   ·refine ae.lss ?_;rw[xaA zO];refine bO.or (decide (qI d.v<qI v)) (λ_=>?_) rfl λgs=>⟨rfl,by simp⟩;refine Ld.v (.tail _ hw) ?_;refine Ld.f ?_;refine hl.ld g1 (λ_ h=>.tail _ h) (Ld.v (.tail _ hw) ?_);exact hl.ld g2 (λ_ h=>.tail _ h) (ae.dX ⟨rfl,rfl⟩)
   rw[xcE];refine Br.dec (λFo=>?_) (λFo=>?_)
   ·refine Ld.f ?_;refine JE.mk (fin (d.v:Int) [_] (.inr (qg λs hs=>?_)));have:=h1.le s hs;omega
   refine JE.mk (fin (v:Int) [_] (.inr ⟨v,⟨h1.lt,?_,λs hs=>?_⟩,rfl⟩))
   ·obtain⟨s,hs,x⟩:=h1.ex;exact⟨s,by rw[qR];exact xad _ hs,x⟩
   rw[qR,xav,xaG]at hs;rcases hs with hs|rfl
   ·exact h1.le s hs
   rw[aq hN];omega
 obtain rfl:i=3:=by omega
 rw[xcY (by rw[hlen];exact xal _)]at IY;refine bH.mk (.refl _) ?_;rcases IY with⟨h1,rfl⟩|⟨v,h1,rfl⟩
 ·exact .inl ⟨h1,rfl⟩
 exact .inr ⟨v,h1,rfl⟩
theorem wH(h:cj kp K S ord af tr C){v lo hi:Nat}(hv:v<K.n)(hlo:live K.N lo)(hhi:live K.N hi)(hlt:lv af v<dep K.n (lv af) K.N lo/\lv af v<dep K.n (lv af) K.N hi):
  Rd zQ 255 #[ptr kp,iv (v:Int),u32 lo,u32 hi] C (· =if lo=hi then .tuple #[u32 lo,.bool true]else .tuple #[u32 ((K.T ⟨v,lo,hi⟩).getD 0),.bool (K.T ⟨v,lo,hi⟩).isSome]):=by
 have Kw:=h.cD hlo;have KD:=h.cD hhi;have El:=bD.2 hlo;have ve:=bD.2 hhi;have KN:iD K af (v:Int) lo hi=0:=by
  unfold iD;rw[xac zO,xac (by rw[El,ve];simp),xac];rintro⟨hne,hmin⟩;simp only[xb3,lv]at hmin hlt;omega
 refine aU λg=>sW λJ hJ=>?_;refine ae.bh (Split.go rfl (aa.eq (vy h.rep (v:Int) zO zO (λr d hd=>⟨h.ok.mid.var hd,(h.ok.mid.two hd).1⟩)) ?_));rw[KN];refine ae.j4 (az.mk (JE.mk (hJ _ _ λgs=>?_)));rw[xaA zI];refine Br.no (aa.rq (uQ h.rep (lo:=lo) (hi:=hi) hv) ?_);rintro w hw;subst hw;by_cases he:lo=hi
 ·rw[xaf he];exact Ext.mk rfl (Ext.mk rfl (bH.mk (.refl _) rfl))
 rw[xac he];exact Ext.mk rfl (Ext.mk rfl (bH.mk (.refl _) rfl))
theorem sj(h:cj kp K S ord af tr C){v lo hi r:Nat}(hv:v<K.n)(hlo:live K.N lo)(hhi:live K.N hi)(hlt:lv af v<dep K.n (lv af) K.N lo/\lv af v<dep K.n (lv af) K.N hi)(hr:live K.N r)(h2:2<=r)(hS:S r=ite S ⟨v,lo,hi⟩):
  Rd zQ 255 #[ptr kp,iv (v:Int),u32 lo,u32 hi] C (· =.tuple #[u32 r,.bool true]):=by
 refine(wH h hv hlo hhi hlt).mono ?_;rintro w H ⟨e,rfl⟩;refine⟨e,?_⟩;by_cases he:lo=hi
 ·subst he;rw[xaf rfl,h.ok.wf.same h.ok.lv h.ok.mid.int hr hlo λx=>by rw[hS];unfold ay.ite;split<;>rfl]
 rw[xac he];obtain⟨d,hd⟩:∃d,K.N r=some d:=by
  rcases hr with h3|h3
  ·omega
  exact h3
 have OG:d=⟨v,lo,hi⟩:=h.ok.Cp (d:=⟨v,lo,hi⟩) hlo hhi he hv hlt hd hS;subst OG;rw[(h.ok.mid.nt _ r).2 ⟨hd,λe=>e⟩];rfl
theorem sN(r v:Nat)(B:Hp):Rd zQ 210 #[ptr bw,iv (v:Int),u32 r,u32 r] B (· =.tuple #[u32 r,iv 0]):=by
 exact aU λg=>nc (ae.p7 (Br.T (bH.mk (.refl _) rfl)))
theorem BB{CM X:Hp}{made:zL}(h:cj kp K S ord af tr C){v lo hi:Nat}(hv:v<K.n)(hlo:live K.N lo)(hhi:live K.N hi)(hne:lo≠hi)(hlt:lv af v<dep K.n (lv af) K.N lo/\lv af v<dep K.n (lv af) K.N hi)
 (hM:aR 82 .u32 vm (iw made) CM)(hlen:made.length<=1099511627776):
  Fc zQ 210 #[ptr bw,iv (v:Int),u32 lo,u32 hi] (da bw kp vl vm::(X++(CM++C))) (λw H=>
   (∃r K' S' C' EK F7,w=.tuple #[u32 r,iv 0]/\H=da bw kp vl EK::(X++(F7++C'))/\cj kp K' S' ord af [] C'/\lf K S K' S' (ite S ⟨v,lo,hi⟩) r/\aR 82 .u32 EK (iw (made++[r])) F7)\/
   (w=.tuple #[u32 0,iv 9]/\H=da bw kp vl vm::(X++(CM++C))/\K.cap<=K.used/\K.T ⟨v,lo,hi⟩=none)\/
   (∃r,w=.tuple #[u32 r,iv 0]/\H=da bw kp vl vm::(X++(CM++C))/\live K.N r/\2<=r/\K.hold r=65535/\S r=ite S ⟨v,lo,hi⟩)):=by
 refine aU λg=>nc (ae.bI (Br.Iu hne (Ld.n ?_)));refine aa.fq (uZ h hv hlo hhi (.inr hlt)) ?_;rintro w C' (⟨r,K',S',rfl,jX,mk⟩|⟨r,rfl,rfl,hlr,Ih,hfull,Gu⟩|⟨rfl,rfl,hcap,_,hT⟩)
 ·refine Ext.two λJ hJ=>(ae.p7 (Br.T (Ld.n ?_)));refine aj.int (e:=82) zK zK zK λbx=>?_;refine hM.nP (x:=(r:Int)) (.cons (.cons (.app .left))) (by exact .head _) (by rw[aV];omega) (by rw[aV];omega) λEK F7 Jk=>?_;have h1:=Jk.one;refine Nil.ptr (ah.mk (St.one (by exact .tail (.head _)) h1 zI rfl ?_));refine bc.mk .tail (.inl ⟨r,K',S',C',EK,F7,rfl,rfl,jX,mk,?_⟩);rw[dy];exact Jk
 ·refine Ext.two λJ hJ=>(ae.p7 (Br.F (ae.p7 (Br.T (Ld.n ?_)))));exact aa.eq (sj h hv hlo hhi hlt hlr Ih Gu) (Ext.mk rfl (Ext.mk rfl (Br.yes (bc.here (.inr (.inr ⟨r,rfl,rfl,hlr,Ih,hfull,Gu⟩))))))
 exact Ext.two λJ hJ=>(ae.p7 (Br.F (ae.p7 (Br.F (JE.mk (hJ _ λgs=>bc.here (.inr (.inl ⟨rfl,rfl,hcap,hT⟩))))))))
end
end
section
open ay
structure jO(K0:Kd)(S0:Nat->ay.Fn)(U:ay.Fn->Prop)(ord:zL)(K:Kd)(S:Nat->ay.Fn)(made:zL):Prop where
 n:K.n=K0.n
 cap:K.cap=K0.cap
 N:∀s d,K0.N s=some d->K.N s=some d
 fn:∀s,live K0.N s->S s=S0 s
 hold:∀s,K.hold s=K0.hold s+made.count s
 two:∀s∈made,2<=s
 U:∀g,aJ K0.n ord (K.held S) g->U g
theorem jO.refl{K0:Kd}{S0:Nat->ay.Fn}{U:ay.Fn->Prop}{ord:zL}(h:∀g,aJ K0.n ord (K0.held S0) g->U g):jO K0 S0 U ord K0 S0 []:=⟨rfl,rfl,λ_ _ h=>h,λ_ _=>rfl,λs=>by simp,by simp,h⟩
def Fits(U:ay.Fn->Prop)(cap:Nat):Prop:=∃ku,lY U ku/\ku+2<=cap
section
variable {kp:Nat} {K0 K:Kd} {S0 S:Nat->ay.Fn} {U:ay.Fn->Prop} {ord af tr:zL} {made:zL} {C:Hp}
theorem jO.fo(h:jO K0 S0 U ord K S made)(hK:cj kp K S ord af tr C){s:Nat}(hs:s∈made):live K.N s:=by
 refine .inr (hK.ok.mid.held s ?_);rw[h.hold];have:=xcn.2 hs;omega
theorem om{b:Nat}:∀(m:Nat) (l:zL),(∀x∈l,x<m)->(∀x,l.count x<=b)->l.length<=m*b
 |0,l,h1,_=>by
  cases l with
  |nil=>simp
  |cons x l=>exact absurd (h1 x (xdl ..)) (xbX _)
 |m+1,l,h1,h2=>by
  have ih:=om m (l.filter λx=> !(x==m)) (λx hx=>by
   obtain⟨hx,hne⟩:=xcl.1 hx;have:=h1 x hx;have:x≠m:=by simpa using hne
   omega) (λx=>xbF (List.filter_sublist.count_le x) (h2 x))
  have e:=List.length_eq_countP_add_countP (λx=>x==m) (l:=l);have h3:=h2 m;rw[List.count]at h3;rw[List.countP_eq_length_filter (l:=l) (p:=λa=>decide ¬(a==m)=true)]at e;rw[xbi];have e2:(l.filter λa=>decide ¬(a==m)=true)=l.filter λx=> !(x==m):=List.filter_congr λx _=>by cases x==m<;>rfl
  rw[e2]at e;omega
theorem jO.qH(h:jO K0 S0 U ord K S made)(hK:cj kp K S ord af tr C):made.length<=1048576*65535:=
 om _ _ (λx hx=>by
  have hc:=xcn.2 hx;have:=h.hold x;obtain⟨d,hd⟩:=hK.ok.mid.held x zO;have:=(hK.ok.mid.two hd).2;have:=hK.ok.mid.cap;omega) (λx=>by have:=h.hold x;have:=hK.ok.mid.mx x;omega)
theorem jO.full(h:jO K0 S0 U ord K S made){r:Nat}(hr:K.hold r=65535):r∈made\/K0.hold r=65535:=by
 by_cases hm:r∈made
 ·exact .inl hm
 have:=h.hold r;rw[List.count_eq_zero.2 hm]at this;exact .inr zO
theorem jO.live(h:jO K0 S0 U ord K S made){s:Nat}(hs:live K0.N s):live K.N s:=og h.N hs
theorem jO.step(h:jO K0 S0 U ord K S made)(hK:cj kp K S ord af tr C){K':Kd}{S':Nat->ay.Fn}{f:ay.Fn}{r:Nat}(m:lf K S K' S' f r)(h2:2<=r)(hU:∀g,aJ K0.n ord (λg=>g=f) g->U g):jO K0 S0 U ord K' S' (made++[r]):=by
 refine⟨m.n.trans h.n,m.cap.trans h.cap,λs d hd=>m.N s d (h.N s d hd),λs hs=>(m.fn s (h.live hs)).trans (h.fn s hs),λs=>?_,λs hs=>?_,λg hg=>?_⟩
 ·rw[m.hold,xa2,xbQ,h.hold];by_cases e:s=r
  ·subst e;simp[h2];omega
  have:(r==s)=false:=by simpa using λe'=>e e'.symm
  simp[e,this]
 ·rcases xav.1 hs with hs|hs
  ·exact h.two s hs
  simp at hs;subst hs;exact h2
 have wS:∀g,K'.held S' g->K.held S g\/g=f:=by
  rintro g ⟨s,hs,rfl⟩;have hs':K'.hold s≠0:=hs;rw[m.hold]at hs';by_cases e:s=r/\2<=r
  ·right;rw[e.1];exact m.is
  rw[xac e]at hs';exact .inl ⟨s,hs',m.fn s (.inr (hK.ok.mid.held s hs'))⟩
 rcases(zu g).1 (cB wS hg)with h1|h1
 ·exact h.U g h1
 exact hU g h1
end
def pT(kF b1 b5 kE:Nat):zV:=.func (.func 207) #[] #[ptr kF,ptr b1,ptr b5,ptr kE]
structure pX(fv:zV)(LB:Hp)(t:Bool->Bool->Bool->Bool):Prop where
 is:∃f first cap,fv=.func (.func f) first cap/\bA zQ f=true/\∀x y z:Bool,Rd zQ f (first++ #[.bool x,.bool y,.bool z]++cap) LB (· =.bool (t x y z))
def IK(K0:Kd)(S0 S:Nat->ay.Fn)(t:Bool->Bool->Bool->Bool)(made:zL)(m:List (Q3×Nat)):Prop:=∀y∈m,S y.2=l9 t S0 (l3 y.1)/\(y.2<2\/y.2∈made\/K0.hold y.2=65535)
section
variable {kp kF b1 b5 kE bm bw:Nat} {vl fv:zV} {LB CL:Hp} {lvl:zL} {K0:Kd} {S0:Nat->ay.Fn} {U:ay.Fn->Prop} {ord af:zL} {t:Bool->Bool->Bool->Bool}
abbrev Ey(kF b1 b5 kE bm bw kp:Nat)(fv vl vm:zV)(LB CL CM C:Hp)(es:Array MapEntry)(ck:Nat):Hp:=
 (kF,.cells #[.map (some bm)] 291 zZ)::(b1,.cells #[ptr bw] 232 zZ)::(b5,.cells #[fv] 239 zZ)::(kE,.cells #[pT kF b1 b5 kE] 292 zZ)::
 (LB++((bm,.map es ck)::(da bw kp vl vm::(CL++(CM++C)))))
structure LX(kp:Nat)(K0:Kd)(S0:Nat->ay.Fn)(U:ay.Fn->Prop)(ord af EL:zL)(t:Bool->Bool->Bool->Bool)(K:Kd)(S:Nat->ay.Fn)(made:zL)(es:Array MapEntry)(ck:Nat)(vm:zV)(CM C:Hp):Prop where
 ks:∃tr,cj kp K S ord af tr C/\(tr=[]\/(tr=EL/\made=[]))
 eR:jO K0 S0 U ord K S made
 IV:aR 82 .u32 vm (iw made) CM
 kn:∃m,br kq DW es ck m/\IK K0 S0 S t made m
structure c7(K:Kd)(S:Nat->ay.Fn)(made:zL)(K':Kd)(S':Nat->ay.Fn)(made':zL)(c:Nat):Prop where
 N:∀s d,K.N s=some d->K'.N s=some d
 fn:∀s,live K.N s->S' s=S s
 ext:∃ext,made'=made++ext/\ext.length<=c
theorem c7.refl{K:Kd}{S:Nat->ay.Fn}{made:zL}{c:Nat}:c7 K S made K S made c:=⟨λ_ _ h=>h,λ_ _=>rfl,[],by simp,xaB _⟩
section
variable {K K' K2:Kd} {S S' S2:Nat->ay.Fn} {made made' fw:zL} {c c':Nat}
theorem c7.vQ(h:c7 K S made K' S' made' c)(hc:c<=c'):c7 K S made K' S' made' c':=⟨h.N,h.fn,let ⟨e,h1,h2⟩:=h.ext;⟨e,h1,by omega⟩⟩
theorem c7.mem{s:Nat}(h:c7 K S made K' S' made' c)(hs:s∈made):s∈made':=by
 obtain⟨e,rfl,_⟩:=h.ext;exact xad _ hs
theorem c7.count(h:c7 K S made K' S' made' c)(s:Nat):made'.count s<=made.count s+c/\made'.length<=made.length+c:=by
 obtain⟨e,rfl,he⟩:=h.ext;have:=List.count_le_length (a:=s) (l:=e);rw[xa2,xan];omega
theorem c7.trans(h:c7 K S made K' S' made' c)(h':c7 K' S' made' K2 S2 fw c'):c7 K S made K2 S2 fw (c+c'):=by
 obtain⟨e,rfl,he⟩:=h.ext;obtain⟨e',rfl,he'⟩:=h'.ext;exact⟨λs d hd=>h'.N s d (h.N s d hd),λs hs=>(h'.fn s (og h.N hs)).trans (h.fn s hs),e++e',by rw[xat],by rw[xan];omega⟩
end
theorem mA{κ β:Type}[DecidableEq κ]{m:List (κ×β)}{k:κ}{x:β}{y:κ×β}(h:y∈cE m k x):y=(k,x)\/y∈m:=by
 unfold cE at h;split at h
 ·obtain⟨z,hz,rfl⟩:=xaq.1 h;split
  ·exact .inl rfl
  exact .inr hz
 rcases xav.1 h with h|h
 ·exact .inr h
 simp at h;exact .inl h
def qt(N:dh)(v:Nat)(b:Bool)(q:Q3):Q3:=(eT N v b q.1,eT N v b q.2.1,eT N v b q.2.2)
theorem CI(N:dh)(v:Nat)(b:Bool)(q:Q3):l3 (qt N v b q)=ei N v b (l3 q):=rfl
theorem qX{N N':dh}(hN:∀s d,N s=some d->N' s=some d)(h2:∀r,r<2->N r=none)(nv:∀r,r<2->N' r=none){r:Nat}(hr:live N r):got N' r=got N r:=by
 rcases hr with hr|⟨d,hd⟩
 ·rw[eu hr,eu hr]
 by_cases h:r<2
 ·rw[h2 r h]at hd;cases hd
 rw[dJ hd zO,dJ (hN r d hd) zO]
def P3(kp kF b1 b5 kE bm bw:Nat)(fv vl:zV)(LB CL:Hp)(K0:Kd)(S0:Nat->ay.Fn)(U:ay.Fn->Prop)(ord af EL:zL)(t:Bool->Bool->Bool->Bool)(ql:zL)(c:Nat)(K:Kd)(S:Nat->ay.Fn)(made:zL)(r:zV)(H:Hp):Prop:=
 ∃K' S' made' es' eU EK F7 C',H=Ey kF b1 b5 kE bm bw kp fv vl EK LB CL F7 C' es' eU/\LX kp K0 S0 U ord af EL t K' S' made' es' eU EK F7 C'/\c7 K S made K' S' made' c/\
   ((∃x:Nat,r=.tuple #[u32 x,iv 0]/\S' x=l9 t S0 ql/\(x<2\/x∈made'\/K0.hold x=65535))\/(r=.tuple #[u32 0,iv 9]/\¬Fits U K0.cap))
theorem FJ(fH:bA zQ 207=true)(Jl:pX fv LB t)(Eu:aR 3 .i64 vl (iw lvl) CL)(l8:lvl.length=K0.n)(hlv:∀v,v<K0.n->lvl.getD v 0=lv af v)(C7:K0.n<=64)(BT:WF K0.n (lv af) K0.N)(FF:Interp K0.N S0)(AJ:m5 K0.n (lv af))(vp:∀r,live K0.N r->r<4294967296)(I9:∀s,K0.hold s=65535->live K0.N s){EL:zL}:
  ∀(ql:zL) (c:Nat),Tree K0.n (lv af) K0.N ql c->∀(q:Q3),l3 q=ql->∀(K:Kd) (S:Nat->ay.Fn) (made:zL) (es:Array MapEntry) (ck:Nat) (vm:zV) (CM C:Hp),LX kp K0 S0 U ord af EL t K S made es ck vm CM C->
  (∀r∈ql,live K0.N r)->(∀g,aJ K0.n ord (λg=>g=l9 t S0 ql) g->U g)->
  Fc zQ 207 #[kq q,ptr kF,ptr b1,ptr b5,ptr kE] (Ey kF b1 b5 kE bm bw kp fv vl vm LB CL CM C es ck) (λr H=>P3 kp kF b1 b5 kE bm bw fv vl LB CL K0 S0 U ord af EL t ql c K S made r H):=by
 have hc0:∀r,r<2->K0.N r=none:=λr hr=>BT.const hr;intro ql c hT;induction hT with
 | @leaf ql hnone=>
  intro q hq K S made es ck vm CM C hS fB hU g;subst hq;obtain⟨tr,hK,Ke⟩:=hS.ks;obtain⟨m,hE,hkn⟩:=hS.kn;have KV:∀r,r<2->K.N r=none:=λr hr=>hK.ok.wf.const hr;refine nf (R:=bc _) ?_;unfold L207;intro bq _;refine Ld.q ?_;refine aA.q ?_;have HD:(bm,Obj.map es ck)∈(bq,Obj.cells (an .u32 (iw (l3 q))) 237 zZ)::Ey kF b1 b5 kE bm bw kp fv vl vm LB CL CM C es ck:=.tail _ (.tail _ (.tail _ (.tail _ (.tail _ (xaa _ (.head _))))));cases hg:bR m q with
  |some x=>
   refine br.Dc (ke:=kq) (k:=q) mC iR hE HD hg ?_;rintro v rfl;obtain⟨h1,h2⟩:=hkn _ ((fk hE.nd).1 hg);exact Ext.mk rfl (Ext.mk rfl (Br.yes (bc.mk .tail ⟨K,S,made,es,ck,vm,CM,C,rfl,hS,.refl,.inl ⟨x,rfl,h1,h2⟩⟩)))
  |none=>
   refine br.uY (ke:=kq) (k:=q) mC iR hE HD hg ?_;refine Ext.mk rfl (Ext.mk rfl (Br.no (Ld.q ?_)));refine aA.q ?_;refine aa.fq (args:=#[ptr bw,kq q]) (oI hK.rep q (λr hr=>vp r (fB r hr))) ?_;rintro vn H ⟨CN,rfl,hN⟩;have eN:(l3 q).map (got K.N)=(l3 q).map (got K0.N):=xbC λr hr=>qX hS.eR.N hc0 KV (fB r hr);rw[eN]at hN;refine Ld.q ?_;refine aa.rq (vG (bw:=bw) (kp:=kp) (vl:=vl) (vm:=vm) (lvl:=lvl) (n:=K0.n) (qI:=lv af) (N:=K0.N) (.tail _ (.tail _ (.tail _ (.tail _ (.tail _ (xaa _ (.tail _ (xaa _ (.head _))))))))) (Eu.ints.mono λ_ h=>.tail _ (.tail _ (.tail _ (.tail _ (.tail _ (xaa _ (.tail _ (xaa _ (.tail _ (xad _ h)))))))))) l8 hlv q ((Sl.eD hN zD).mono λ_ h=>.tail _ (.tail _ (.tail _ (.tail _ (.tail _ (xaa _ (.tail _ (xad _ h)))))))) BT AJ fB C7) ?_;rintro w (⟨_,rfl⟩|⟨v,hv,rfl⟩);rotate_left
   ·obtain⟨s,hs,d,hd,_⟩:=hv.ex;rw[hnone s hs]at hd;cases hd
   refine ae.lss (Br.T ?_);have Fy:∀r∈l3 q,r<2:=λr hr=>by
    rcases fB r hr with h|⟨d,hd⟩
    ·exact h
    rw[hnone r hr]at hd;cases hd
   obtain⟨f,first,cap,KI,OC,hL⟩:=Jl.is;refine Ld.q ?_;refine di.nat (j:=0) zD (Ld.q ?_);refine ae.bI (b:=1) (di.nat (j:=1) zD (Ld.q ?_));refine ae.bI (b:=1) (di.nat (j:=2) zD (Ld.q ?_));refine ae.bI (b:=1) (cr.of KI OC ?_);refine aa.eq (hL _ _ _) ?_;have qU:=λx=>xg FF (q:=l3 q) rfl Fy t x;have hint:=hK.ok.mid.int;have Eo:aN ((bq,Obj.cells (an .u32 (iw (l3 q))) 237 zZ)::(kF,.cells #[.map (some bm)] 291 zZ)::(b1,.cells #[ptr bw] 232 zZ)::(b5,.cells #[fv] 239 zZ)::(kE,.cells #[pT kF b1 b5 kE] 292 zZ)::(LB++((bm,.map es ck)::(CN++(da bw kp vl vm::(CL++(CM++C))))))) (Ey kF b1 b5 kE bm bw kp fv vl vm LB CL CM C es ck):=
    .skip (.cons (.cons (.cons (.cons (.cL (.cons .right) _)))))
   refine Br.mk (λhb=>?_) (λhb=>?_)
   ·refine bc.mk Eo ⟨K,S,made,es,ck,vm,CM,C,rfl,hS,.refl,.inl ⟨1,rfl,funext λx=>?_,.inl zO⟩⟩;rw[hint.one,qU x];exact hb.symm
   refine bc.mk Eo ⟨K,S,made,es,ck,vm,CM,C,rfl,hS,.refl,.inl ⟨0,rfl,funext λx=>?_,.inl zO⟩⟩;rw[hint.zero,qU x];exact hb.symm
 | @node ql v a b hv ha hb NT NR=>
  intro q hq K S made es ck vm CM C hS fB hU g;subst hq;obtain⟨tr,hK,Ke⟩:=hS.ks;obtain⟨m,hE,hkn⟩:=hS.kn;have KV:∀r,r<2->K.N r=none:=λr hr=>hK.ok.wf.const hr;refine nf (R:=bc _) ?_;unfold L207;intro bq _;refine Ld.q ?_;refine aA.q ?_;have HD:(bm,Obj.map es ck)∈(bq,Obj.cells (an .u32 (iw (l3 q))) 237 zZ)::Ey kF b1 b5 kE bm bw kp fv vl vm LB CL CM C es ck:=.tail _ (.tail _ (.tail _ (.tail _ (.tail _ (xaa _ (.head _))))));cases hg:bR m q with
  |some x=>
   refine br.Dc (ke:=kq) (k:=q) mC iR hE HD hg ?_;rintro v rfl;obtain⟨h1,h2⟩:=hkn _ ((fk hE.nd).1 hg);exact Ext.mk rfl (Ext.mk rfl (Br.yes (bc.mk .tail ⟨K,S,made,es,ck,vm,CM,C,rfl,hS,.refl,.inl ⟨x,rfl,h1,h2⟩⟩)))
  |none=>
  refine br.uY (ke:=kq) (k:=q) mC iR hE HD hg ?_;refine Ext.mk rfl (Ext.mk rfl (Br.no (Ld.q ?_)));refine aA.q ?_;refine aa.fq (args:=#[ptr bw,kq q]) (oI hK.rep q (λr hr=>vp r (fB r hr))) ?_;rintro vn H ⟨CN,rfl,hN⟩;have eN:(l3 q).map (got K.N)=(l3 q).map (got K0.N):=xbC λr hr=>qX hS.eR.N hc0 KV (fB r hr);rw[eN]at hN;refine Ld.q ?_;refine aa.rq (vG (bw:=bw) (kp:=kp) (vl:=vl) (vm:=vm) (lvl:=lvl) (n:=K0.n) (qI:=lv af) (N:=K0.N) (.tail _ (.tail _ (.tail _ (.tail _ (.tail _ (xaa _ (.tail _ (xaa _ (.head _))))))))) (Eu.ints.mono λ_ h=>.tail _ (.tail _ (.tail _ (.tail _ (.tail _ (xaa _ (.tail _ (xaa _ (.tail _ (xad _ h)))))))))) l8 hlv q ((Sl.eD hN zD).mono λ_ h=>.tail _ (.tail _ (.tail _ (.tail _ (.tail _ (xaa _ (.tail _ (xad _ h)))))))) BT AJ fB C7) ?_;rintro w (⟨aL,_⟩|⟨v',wL,rfl⟩)
  ·obtain⟨s,hs,d,hd,_⟩:=hv.ex;rw[aL s hs]at hd;cases hd
  obtain rfl:v'=v:=wL.uniq AJ hv;refine ae.lss (Br.F (DR.of (R:=[(bq,Obj.cells (an .u32 (iw (l3 q))) 237 zZ)]) (aN.left (A:=[_])) (aA.q ?_)));refine aA.q ?_;intro FV _ GH _ Q5;have hone:∀x∈(iw (l3 q)).map λn=>Value.int .u32 n,x.oneCell'=true:=λx hx=>by obtain⟨n,_,rfl⟩:=xaq.1 hx;rfl
  refine St.p hone ?_;refine⟨.skip (.skip (aN.left (A:=[_]))),?_⟩;intro Q4;refine St.p hone ?_;refine hN.cx ?_;rw[xaw];refine⟨λvs H=>∃i:Nat,vs=[iv (i:Int)]/\i<=3/\H=(GH,.cells (an .u32 (iw (fQ K0.N v' true (l3 q) i))) 237 zZ)::(FV,.cells (an .u32 (iw (fQ K0.N v' false (l3 q) i))) 237 zZ)::
    (bq,Obj.cells (an .u32 (iw (l3 q))) 237 zZ)::(kF,.cells #[.map (some bm)] 291 zZ)::(b1,.cells #[ptr bw] 232 zZ)::(b5,.cells #[fv] 239 zZ)::(kE,.cells #[pT kF b1 b5 kE] 292 zZ)::(LB++((bm,.map es ck)::(CN++(da bw kp vl vm::(CL++(CM++C)))))),
   λvs _=>3-dx vs 0,JE.mk ⟨0,rfl,by omega,by rw[n8,n8];rfl⟩,?_⟩
  rintro P6 H ⟨i,hvs,hi,rfl⟩ gs;simp only[xbb,xc2]at hvs;subst hvs;have I3:(l3 q).length=3:=rfl;refine ae.dX (b:=3) (Br.dec (λhlt=>?_) (λhlt=>?_))
  ·-- a part of the question
   intro J hJ;obtain⟨r,hr⟩:∃r,(l3 q)[i]? =some r:=⟨_,xab (show i<(l3 q).length from hlt)⟩;have hlr:=fB r (xaI hr);have hrow:((l3 q).map (got K0.N))[i]? =some (got K0.N r):=by rw[xaC,hr];rfl
   refine ai.sl (Sl.eD hN zD) hrow λp hp=>?_;refine aA.at hp (aT _ _).1 zD (λ_ h=>.tail _ (.tail _ (.tail _ (.tail _ (.tail _ (.tail _ (.tail _ (xaa _ (.tail _ (xad _ h)))))))))) ?_;intro Pz _;refine St.whole (r:=got K0.N r) (by exact .head _) rfl (aT _ _).1 (aT _ _).2 ?_;have stay:eT K0.N v' false r=r->eT K0.N v' true r=r->∀Z:Hp,JE J [] (Z++((GH,.cells (an .u32 (iw (fQ K0.N v' true (l3 q) i))) 237 zZ)::(FV,.cells (an .u32 (iw (fQ K0.N v' false (l3 q) i))) 237 zZ)::
    (bq,Obj.cells (an .u32 (iw (l3 q))) 237 zZ)::(kF,.cells #[.map (some bm)] 291 zZ)::(b1,.cells #[ptr bw] 232 zZ)::(b5,.cells #[fv] 239 zZ)::(kE,.cells #[pT kF b1 b5 kE] 292 zZ)::(LB++((bm,.map es ck)::(CN++(da bw kp vl vm::(CL++(CM++C)))))))):=λe1 e2 Z=>by
    refine JE.of .right (hJ _ λgs=>?_);exact ae.inc (aI.of (.refl _) ⟨i+1,rfl,by omega,by rw[n9 hr e1,n9 hr e2]⟩ (by simp only[dx];omega))
   cases FB:K0.N r with
   |none=>
    have rR:r<2:=by rcases hlr with h2|⟨d,hd⟩;exact h2;rw[FB]at hd;cases hd
    rw[eu rR];refine Ld.f ?_;refine ae.p7 (Br.F ?_);have ec:∀b,eT K0.N v' b r=r:=λb=>by unfold eT;rw[FB]
    exact stay (ec false) (ec true) [_]
   |some d=>
    have h2:=BT.two FB;rw[dJ FB h2];refine Ld.f ?_;refine ae.bI (Br.dec (λDe=>?_) (λDe=>?_))
    ·refine DR.of (R:=[(Pz,Obj.cells (e9 d).toArray 201 zZ)]) (aN.left (A:=[_])) (Ld.f ?_);refine Ld.f ?_;have Ps:eT K0.N v' false r=d.lo:=by unfold eT;rw[FB];simp[De]
     have Pt:eT K0.N v' true r=d.hi:=by unfold eT;rw[FB];simp[De]
     refine di.nat hlt ?_;refine St.ints (l:=iw (fQ K0.N v' false (l3 q) i)) (x:=(d.lo:Int)) (by exact .tail (.tail (.head _))) (by rw[aV,qz zO];omega) ?_;refine⟨aN.left (A:=[_]),?_⟩;refine di.nat hlt ?_;refine St.ints (l:=iw (fQ K0.N v' true (l3 q) i)) (x:=(d.hi:Int)) (by exact .tail (.head _)) (by rw[aV,qz zO];omega) ?_;rw[fc,fc,<-Ps,<-Pt,j6 hr,j6 hr];refine JE.of .tail (hJ _ λgs=>?_);exact ae.inc (aI.of (.refl _) ⟨i+1,rfl,by omega,rfl⟩ (by simp only[dx];omega))
    have ec:∀b,eT K0.N v' b r=r:=λb=>by unfold eT;rw[FB];simp[De]
    exact stay (ec false) (ec true) [_]
  obtain rfl:i=3:=by omega
  have em:∀b,fQ K0.N v' b (l3 q) 3=l3 (qt K0.N v' b q):=λb=>by rw[CI,<-zN];rfl
  rw[em,em];obtain⟨f1,f2⟩:=mc (S:=S0) BT AJ FF fB hv false;obtain⟨t1,t2⟩:=mc (S:=S0) BT AJ FF fB hv true;have ec:∀b,l9 t S0 (ei K0.N v' b (l3 q))=λx=>l9 t S0 (l3 q) (cF.aW x v' b):=λb=>Dv BT AJ FF rfl fB hv t b;have rS:Ord K0.n (lv af) ord:=by rw[<-hS.eR.n];exact hK.od
  have lB:=AJ.lt v' hv.lt;have Hz:=rS.of AJ hv.lt;have Au:=xf BT AJ FF rS (q:=l3 q) rfl fB (xbN lB) hv.le t;obtain⟨i1,JO⟩:=nW (n:=K0.n) (ord:=ord) (c:=l9 t S0 (ei K0.N v' false (l3 q))) Au (b:=false) (by rw[Hz];exact ec false);obtain⟨i2,JN⟩:=nW (n:=K0.n) (ord:=ord) (c:=l9 t S0 (ei K0.N v' true (l3 q))) Au (b:=true) (by rw[Hz];exact ec true);refine Ld.q ?_;refine aA.q ?_;refine cr.of rfl fH ?_;refine aa.pre (H':=(GH,.cells (an .u32 (iw (l3 (qt K0.N v' true q)))) 237 zZ)::(FV,.cells (an .u32 (iw (l3 (qt K0.N v' false q)))) 237 zZ)::(bq,Obj.cells (an .u32 (iw (l3 q))) 237 zZ)::Ey kF b1 b5 kE bm bw kp fv vl vm LB CL CM C es ck) (.cons (.cons (.cons (.cons (.cons (.cons (.cons (.cL (.cons .right) _)))))))) ?_;refine aa.fq (args:=#[kq (qt K0.N v' false q),ptr kF,ptr b1,ptr b5,ptr kE]) (NT (qt K0.N v' false q) rfl K S made es ck vm CM C hS f1 (λg hg=>hU g (JO g hg))) ?_;rintro w H ⟨K1,S1,D8,Ju,Jw,Ml,Nf,C1,rfl,yS,LA,AF⟩;rcases AF with⟨x1,rfl,Aj,Gn⟩|⟨rfl,hno⟩;rotate_left
  ·exact Ext.mk rfl (Ext.mk rfl (ae.j4 (Br.T (bc.mk (.skip (.skip .tail)) ⟨K1,S1,D8,Ju,Jw,Ml,Nf,C1,rfl,yS,LA.vQ zO,.inr ⟨rfl,hno⟩⟩))))
  refine Ext.mk rfl (Ext.mk rfl (ae.j4 (Br.F (Ld.q ?_))));refine aA.q ?_;refine cr.of rfl fH ?_;have Je:=λs=>LA.count s;have qT:∀s,K1.hold s<=K.hold s+a:=λs=>by rw[yS.eR.hold,hS.eR.hold];have:=(Je s).1;omega
  refine aa.fq (args:=#[kq (qt K0.N v' true q),ptr kF,ptr b1,ptr b5,ptr kE]) (NR (qt K0.N v' true q) rfl K1 S1 D8 Ju Jw Ml Nf C1 yS t1 (λg hg=>hU g (JN g hg))) ?_;rintro w H ⟨K2,S2,fw,GB,GD,IU,JG,C2,rfl,lH,Lz,AF⟩;have AK:=LA.trans Lz;rcases AF with⟨x2,rfl,Hq,HG⟩|⟨rfl,hno⟩;rotate_left
  ·exact Ext.mk rfl (Ext.mk rfl (ae.j4 (Br.T (bc.mk (.skip (.skip .tail)) ⟨K2,S2,fw,GB,GD,IU,JG,C2,rfl,lH,AK.vQ zO,.inr ⟨rfl,hno⟩⟩))))
  refine Ext.mk rfl (Ext.mk rfl (ae.j4 (Br.F (Ld.q ?_))));obtain⟨F9,ic,C0⟩:=yS.ks;obtain⟨gv,dK,nL⟩:=lH.ks;have HK:=dK.ok.mid.int;have NN:live K1.N x1:=by rcases Gn with h|h|h;exact .inl h;exact yS.eR.fo ic h;exact yS.eR.live (I9 _ h)
  have e1:S2 x1=l9 t S0 (ei K0.N v' false (l3 q)):=(Lz.fn x1 NN).trans Aj;have l1:live K2.N x1:=by rcases Gn with h|h|h;exact .inl h;exact lH.eR.fo dK (Lz.mem h);exact lH.eR.live (I9 _ h)
  have l2:live K2.N x2:=by rcases HG with h|h|h;exact .inl h;exact lH.eR.fo dK h;exact lH.eR.live (I9 _ h)
  have n2:=lH.eR.n;have As:ite S2 ⟨v',x1,x2⟩=l9 t S0 (l3 q):=by
   funext x
   unfold ay.ite;rw[e1,Hq,ec,ec]
   conv=>rhs;rw[<-cF.jZ x v']
   simp only;cases x.testBit v'<;>rfl
  obtain⟨m2,FG,Da⟩:=lH.kn;have MC:∀y∈m2,live K2.N y.2:=λy hy=>by
   rcases(Da y hy).2 with h|h|h
   ·exact .inl h
   ·exact lH.eR.fo dK h
   exact lH.eR.live (I9 _ h)
  by_cases hx:x1=x2
  ·subst hx;refine aa.eq (sN x1 v' _) (Ext.two λJ hJ=>(ae.p7 (Br.T (Ld.q ?_))));refine aA.q ?_;refine br.B4 (ke:=kq) (k:=q) (vr:=DW) (x:=x1) mC iR pz FG rfl λes' eU he=>⟨_,.tail (.tail (.tail (.tail (.tail (.tail (.tail ((bW.head _).aB LB))))))),?_⟩;refine JE.mk (hJ _ λgs=>?_);have hr:S2 x1=l9 t S0 (l3 q):=by
    rw[<-As]
    funext x
    unfold ay.ite;split<;>rfl
   have Ej:x1<2\/x1∈fw\/K0.hold x1=65535:=HG;exact bc.mk (.skip (.skip .tail)) ⟨K2,S2,fw,es',eU,IU,JG,C2,rfl,⟨lH.ks,lH.eR,lH.IV,_,he,λy hy=>(mA hy).elim (λe=>by rw[e];exact⟨hr,Ej⟩) (λhy=>Da y hy)⟩,AK.vQ zO,.inl ⟨x1,rfl,hr,Ej⟩⟩
  have Em:cT (l9 t S0 (l3 q)) (ord.getD (lv af v') 0):=by
   rw[Hz];refine xaZ λhno=>hx ?_;refine dK.ok.wf.same dK.ok.lv HK l1 l2 λx=>?_;rw[e1,Hq,ec,ec];exact(cS hno x false).trans (cS hno x true).symm
  have QK:=dK.ok.below dK.od (l:=lv af v'+1) l1 zO (by rw[e1];exact i1);have QJ:=dK.ok.below dK.od (l:=lv af v'+1) l2 zO (by rw[Hq];exact i2);have AH:∀g,aJ K0.n ord (λg=>g=ite S2 ⟨v',x1,x2⟩) g->U g:=by rw[As];exact hU
  refine aa.fq (args:=#[ptr bw,iv (v':Int),u32 x1,u32 x2]) (BB dK (v:=v') (by rw[n2];exact hv.lt) l1 l2 hx ⟨by omega,by omega⟩ lH.IV (by have:=lH.eR.qH dK;omega)) ?_;rintro w H (⟨r,K3,S3,C3,Nh,P1,rfl,rfl,p6,mk,Jj⟩|⟨rfl,rfl,Qv,hT⟩|⟨r,rfl,rfl,hlr,Ih,hfull,Gu⟩)
  ·refine Ext.two λJ hJ=>(ae.p7 (Br.T (Ld.q ?_)));refine aA.q ?_;refine br.B4 (ke:=kq) (k:=q) (vr:=DW) (x:=r) mC iR pz FG rfl λes' eU he=>⟨_,.tail (.tail (.tail (.tail (.tail (.tail (.tail ((bW.head _).aB LB))))))),?_⟩;refine JE.mk (hJ _ λgs=>?_);have hr:S3 r=l9 t S0 (l3 q):=mk.is.trans As;have rR:2<=r:=xca λh=>by
    obtain⟨x,hx⟩:=Em;apply hx;rw[<-hr];have Fv:=p6.ok.mid.int;have:r=0\/r=1:=by omega
    rcases this with rfl|rfl
    ·rw[Fv.zero,Fv.zero]
    rw[Fv.one,Fv.one]
   have l6:=lH.eR.step dK mk rR AH;have Ly:c7 K2 S2 fw K3 S3 (fw++[r]) 1:=⟨mk.N,mk.fn,[r],rfl,xal _⟩;have Ej:r<2\/r∈fw++[r]\/K0.hold r=65535:=.inr (.inl zI);refine bc.mk (.skip (.skip .tail)) ⟨K3,S3,fw++[r],es',eU,Nh,P1,C3,rfl,⟨⟨[],p6,.inl rfl⟩,l6,Jj,_,he,λy hy=>(mA hy).elim (λe=>by rw[e];exact⟨hr,Ej⟩) (λhy=>?_)⟩,(AK.trans Ly).vQ zO,.inl ⟨r,rfl,hr,Ej⟩⟩;obtain⟨k1,k2⟩:=Da y hy;exact⟨by rw[Ly.fn y.2 (MC y hy),k1],k2.imp id (Or.imp Ly.mem id)⟩
  ·refine Ext.two λJ hJ=>(ae.p7 (Br.F (JE.mk (hJ _ λgs=>?_))));refine bc.mk (.skip (.skip .tail)) ⟨K2,S2,fw,GB,GD,IU,JG,C2,rfl,lH,AK.vQ zO,.inr ⟨rfl,?_⟩⟩;rintro⟨ku,C9,hfit⟩;have:=dK.ok.roomFor dK.od C9 (by rw[lH.eR.cap];exact hfit) (by rw[n2];exact lH.eR.U) (d:=⟨v',x1,x2⟩) l1 l2 hx (by rw[n2];exact hv.lt) ⟨by show lv af v'<dep K2.n (lv af) K2.N x1;omega,by show lv af v'<dep K2.n (lv af) K2.N x2;omega⟩ (AH _ (by rw[As];exact n3 Au lB Em)) hT;omega
  refine Ext.two λJ hJ=>(ae.p7 (Br.T (Ld.q ?_)));refine aA.q ?_;refine br.B4 (ke:=kq) (k:=q) (vr:=DW) (x:=r) mC iR pz FG rfl λes' eU he=>⟨_,.tail (.tail (.tail (.tail (.tail (.tail (.tail ((bW.head _).aB LB))))))),?_⟩;refine JE.mk (hJ _ λgs=>?_);have hr:S2 r=l9 t S0 (l3 q):=Gu.trans As;have Ej:r<2\/r∈fw\/K0.hold r=65535:=.inr (lH.eR.full hfull);exact bc.mk (.skip (.skip .tail)) ⟨K2,S2,fw,es',eU,IU,JG,C2,rfl,⟨lH.ks,lH.eR,lH.IV,_,he,λy hy=>(mA hy).elim (λe=>by rw[e];exact⟨hr,Ej⟩) (λhy=>Da y hy)⟩,AK.vQ zO,.inl ⟨r,rfl,hr,Ej⟩⟩
end
section
variable {kp bw:Nat} {vl vm:zV} {K:Kd} {S:Nat->ay.Fn} {ord af tr:zL} {C:Hp}
theorem oK{Y:Hp}{vr:zV}{refs:zL}(hK:cj kp K S ord af tr C)(hr:eV .u32 Y vr (iw refs))(hl:∀r∈refs,live K.N r)(mI:refs.length<=1048576):
  Fc zQ 159 #[ptr kp,vr] (Y++C) (λw H=>∃bw vl CL lvl,w=.tuple #[ptr bw,iv 0]/\H=da bw kp vl (.slice none 0 0)::(CL++(Y++C))/\aR 3 .i64 vl (iw lvl) CL/\lvl.length=K.n/\∀v,v<K.n->lvl.getD v 0=lv af v):=by
 have hn:K.n<=64:=hK.at'.E3;have rS:=hK.od;refine aU λg=>tR (ae.bh (Br.no (hr.cx ?_)));rw[aV];refine⟨λvs H=>∃i:Nat,vs=[iv (i:Int)]/\i<=refs.length/\H=Y++C,λvs _=>refs.length-dx vs 0,JE.mk ⟨0,rfl,xaB _,rfl⟩,?_⟩;rintro w7 H ⟨i,⟨⟩,hi,rfl⟩ gs;refine ae.dX (Br.dec (λhlt=>?_) (λhlt=>?_))
 ·have hlr:=hl _ (xaP hlt);refine hr.ld (n:=((refs[i]:Nat):Int)) (gI (xab hlt)) (λ_ h=>xad _ h) ?_;refine aa.eq (args:=#[ptr kp,u32 refs[i]]) (jz hK.rep (by have:=hK.cD hlr;omega)) ?_;rw[bD.2 hlr];refine Ext.two λPE _=>(St.whole (r:=got K.N refs[i]) (by exact .head _) rfl (aT _ _).1 (aT _ _).2 ?_);exact ae.j4 (Br.F (ae.inc (aI.of .tail ⟨i+1,rfl,hlt,rfl⟩ (by simp only[dx];omega))))
 refine aa.eq (jx hK.rep) (dG.ints zO zO λbl=>?_);refine Build.mk (cs:=[ptr kp,.slice (some ⟨bl,0,none⟩) K.n K.n,.slice none 0 0]) zK λbw _=>?_;refine aa.fq (wG hK.rep) ?_;rintro vo H ⟨N,rfl,ho⟩;refine ho.cx ?_;rw[aV,rS.len];have hz:List.replicate K.n (0:Int)=iw (List.replicate K.n 0):=by simp[iw]
 have hm:=aR.made (T:=3) (kd:=.i64) (b:=bl) (iw (List.replicate K.n 0));rw[aV,xaO]at hm;rw[hz];generalize hvl:Value.slice (some ⟨bl,0,none⟩) K.n K.n=vl at*;refine⟨λvs H=>∃(i:Nat) (L:zL) (CL:Hp),vs=[iv (i:Int)]/\i<=K.n/\H=da bw kp vl (.slice none 0 0)::(CL++(Y++(N++C)))/\aR 3 .i64 vl (iw L) CL/\L.length=K.n/\∀j,j<i->L.getD (ord.getD j 0) 0=j,λvs _=>K.n-dx vs 0,
  JE.mk ⟨0,_,_,rfl,xaB _,rfl,hm,by simp,λj hj=>absurd hj (xbX _)⟩,?_⟩
 rintro Ng H ⟨i,L,CL,⟨⟩,hi,rfl,hL,MT,MS⟩ gs;refine ae.dX (Br.dec (λhlt=>?_) (λhlt=>?_))
 ·have gW:=(rS.at' i hlt).1;refine ho.ld (x:=((ord.getD i 0:Nat):Int)) (cc (by rw[rS.len];exact hlt)) (λ_ h=>.tail _ (xaa _ (xaa _ (xad _ h)))) (Ld.n ?_);refine hL.o8 (x:=(i:Int)) (.cons .left) (by rw[aV];omega) λP2 MU=>?_;rw[fc]at MU;refine ae.inc (aI.mk ⟨i+1,L.set (ord.getD i 0) i,P2,rfl,hlt,rfl,MU,by simp[MT],λj hj=>?_⟩ (by simp only[dx];omega));by_cases e:j=i
  ·subst e;rw[xaJ,xbp zO];rfl
  have hj':j<i:=by omega
  have hne:ord.getD i 0≠ord.getD j 0:=λh=>by
   have a:=(rS.at' i hlt).2;have b:=(rS.at' j zO).2;rw[h,b]at a;exact e a
  rw[xaJ,xby hne,<-xaJ,MS j hj']
 obtain rfl:i=K.n:=by omega
 refine bc.mk (.cons (.cL (.cL .right _) _)) ⟨bw,vl,CL,L,rfl,rfl,hL,MT,λv hv=>?_⟩;have h1:=MS (lv af v) (hK.ok.lv.lt v hv);rwa [rS.of hK.ok.lv hv]at h1
structure vO(K K':Kd)(made:zL)(x:Nat)(ok:Bool):Prop where
 n:K'.n=K.n
 cap:K'.cap=K.cap
 N:∀s d,K'.N s=some d->K.N s=some d
 hold:∀s,K'.hold s+made.count s=K.hold s+if ok=true/\s=x/\2<=x then 1 else 0
theorem DM{X CM:Hp}{made:zL}{x:Nat}{ok fu:Bool}(hK:cj kp K S ord af tr C)(hM:aR 82 .u32 vm (iw made) CM)(hc:∀s,made.count s<=K.hold s)(h2:∀s∈made,2<=s)(vp:∀s∈made,s<4294967296)(hx:ok=true->((x<2\/x∈made)↔fu=false))(mI:made.length<=1099511627776):
  Fc zQ 206 #[ptr bw,u32 x,iv (if ok then 0 else 9)] (da bw kp vl vm::(X++(CM++C))) (λw H=>∃K' C' e5,w=.tuple #[u32 (if ok&& !fu then x else 0),iv (if ok then(if fu then 8 else 0)else 9)]/\H=da bw kp vl (.slice none 0 0)::(X++(CM++C'))/\cj kp K' S ord af e5 C'/\(e5=[]\/(e5=tr/\((ok&& !fu)=true->made≠[])))/\vO K K' made x (ok&& !fu)):=by
 refine aU λg=>tj (ae.bI (b:=0) (bO.or (decide (x=1)) (λ_=>ae.bI (b:=1) ⟨rfl,rfl⟩) zI λgs=>?_));rw[<-xaR];refine Ld.n (hM.cx ?_);rw[aV];refine⟨λvs H=>∃(i:Nat) (Ki:Kd) (Ci:Hp) (DY:zL) (kept:Bool),vs=[.bool kept,iv (i:Int)]/\i<=made.length/\H=da bw kp vl vm::(X++(CM++Ci))/\cj kp Ki S ord af DY Ci/\(DY=[]\/DY=tr)/\Ki.n=K.n/\Ki.cap=K.cap/\(∀s d,Ki.N s=some d->K.N s=some d)/\
   (∀s,Ki.hold s+(made.take i).count s=K.hold s+if kept=true/\s=x/\2<=x then 1 else 0)/\(x<2->kept=true)/\(kept=true->x<2\/(ok=true/\x∈made.take i))/\(ok=true->x∈made.take i->kept=true),λvs _=>made.length-dx vs 1,
  JE.mk ⟨0,K,C,tr,_,rfl,xaB _,rfl,hK,.inr rfl,rfl,rfl,λ_ _ h=>h,λs=>?_,λh=>xaN zO,λh=>.inl (by have:=xcp h;omega),λ_ h=>by simp at h⟩,?_⟩
 ·rw[List.take_zero,xdk,xac (λh=>by have:=xcp h.1;omega)]
 rintro IT Qa H ⟨i,Ki,Ci,DY,kept,⟨⟩,hi,rfl,Gy,CZ,hn,hcap,hN,hh,jU,ou,jF⟩ gs;refine ae.dX (Br.dec (λhlt=>?_) (λhlt=>?_))
 ·intro J hJ;have qR:made.take (i+1)=made.take i++[made[i]]:=List.take_succ_eq_append_getElem hlt;have KL:made[i]∈made:=xaP hlt;have g9:(made.take i).count made[i]+1<=made.count made[i]:=by
   have h1:=(List.take_sublist (i+1) made).count_le made[i];rw[qR,xa2,List.count_singleton_self]at h1;exact h1
  refine hM.ld (x:=((made[i]:Nat):Int)) (gI (xab hlt)) (λ_ h=>.tail _ (xaa _ (xad _ h))) ?_;generalize hf:made[i]=f at*;refine ae.bI (bO.and (!kept) (λ_=>Un.not ⟨rfl,rfl⟩) zI λgs=>?_);refine bO.and ok (λ_=>ae.p7 ⟨rfl,by cases ok<;>rfl⟩) zI λgs=>?_;refine Br.mk (λhb=>?_) (λhb=>?_)
  ·simp only[xap,xaH,xbg]at hb;obtain⟨⟨rfl,I4⟩,hok⟩:=hb;refine JE.mk (hJ _ _ λgs=>?_);refine ae.inc (aI.mk ⟨i+1,Ki,Ci,DY,true,rfl,hlt,rfl,Gy,CZ,hn,hcap,hN,λs=>?_,λ_=>rfl,λ_=>.inr ⟨hok,by rw[qR];simp⟩,λ_ _=>rfl⟩ (by simp only[dx];omega));have h0:=hh s;rw[qR,xa2,xbQ];rw[xac (λh=>by rw[I4]at h;cases h.1)]at h0;by_cases e:s=f
   ·subst e;have:=h2 s KL;simp[this];omega
   have:(f==s)=false:=by simpa using λe'=>e e'.symm
   simp[e,this];omega
  refine Ld.n ?_;have Oy:Ki.hold f≠0:=by
   have h0:=hh f;have:=hc f;split at h0<;>omega
  refine aa.fq (args:=#[ptr kp,u32 f]) (pO Gy (r:=f) (vp f KL) (λ_=>Oy)) ?_;rintro w C2 ⟨rfl,K2,dK,f2⟩;refine JE.mk (hJ _ _ λgs=>?_);refine ae.inc (aI.mk ⟨i+1,K2,C2,[],kept,rfl,hlt,rfl,dK,.inl rfl,f2.n.trans hn,f2.cap.trans hcap,λs d hd=>hN s d (f2.N s d hd),λs=>?_,jU,λh=>(ou h).imp id (λh=>⟨h.1,by rw[qR];exact xad _ h.2⟩),λh1 h3=>?_⟩ (by simp only[dx];omega))
  ·have h0:=hh s;rw[f2.hold,qR,xa2,xbQ];by_cases e:s=f
   ·subst e;have:=h2 s KL;simp[this];omega
   have:(f==s)=false:=by simpa using λe'=>e e'.symm
   simp[e,this];omega
  rw[qR,xav,xaG]at h3;rcases h3 with h3|h3
  ·exact jF h1 h3
  subst h3;cases hkk:kept
  ·rw[hkk,h1]at hb;simp at hb
  rfl
 obtain rfl:i=made.length:=by omega
 rw[xcb]at hh ou jF;refine Nil.ptr (ah.mk (St.one (by exact .head _) rfl zI rfl ?_));intro J hJ;refine ae.j4 ?_;cases ok with
 |false=>
  refine Br.T ?_;have hE:vO K Ki made x false:=⟨hn,hcap,hN,λs=>by
   have h0:=hh s;rw[xac (λh=>by cases h.1)];rw[xac (λh=>by
    rcases ou h.1 with h3|h3
    ·omega
    cases h3.1)]at h0
   exact h0⟩
  refine bc.here ⟨Ki,Ci,DY,?_,rfl,Gy,CZ.imp id λh=>⟨h,λh=>by cases h⟩,hE⟩;rfl
 |true=>
  have hx:=hx rfl;cases fu with
  |true=>
   have I4:kept=false:=by
    cases hkk:kept
    ·rfl
    have:(true=false):=hx.1 ((ou hkk).imp id λh=>h.2);cases this
   refine Br.F ?_;rw[I4];refine Un.not (Br.yes (bc.here ⟨Ki,Ci,DY,rfl,rfl,Gy,CZ.imp id λh=>⟨h,λh=>by cases h⟩,⟨hn,hcap,hN,λs=>?_⟩⟩));have h0:=hh s;rw[I4]at h0;rw[xac (λh=>by cases h.1)]at h0⊢;exact h0
  |false=>
  have hx:=hx.2 rfl;have vg:kept=true:=by
   rcases hx with h|h
   ·exact jU h
   exact jF rfl h
  refine Br.F ?_;rw[vg];refine Un.not (Br.no ?_);have hE:∀K3:Kd,K3.n=Ki.n->K3.cap=Ki.cap->K3.N=Ki.N->(∀s,K3.hold s=Ki.hold s)->vO K K3 made x true:=λK3 a1 a2 a3 a4=>⟨a1.trans hn,a2.trans hcap,by rw[a3];exact hN,λs=>by rw[a4,hh s,vg]⟩;refine ae.bI (b:=0) (bO.or (decide (x=1)) (λ_=>ae.bI (b:=1) ⟨rfl,rfl⟩) zI λgs=>?_);rw[<-xaR];refine Br.dec (λFy=>?_) (λFy=>?_)
  ·refine Ld.n ?_;refine aa.fq (pA Gy (r:=x) (.inl zO) (λh=>by omega)) ?_;rintro w C3 ⟨rfl,K3,p6,mo⟩;refine JE.mk (hJ _ λgs=>bc.here ⟨K3,C3,[],by simp,rfl,p6,.inl rfl,hE K3 mo.n mo.cap mo.N λs=>?_⟩);rw[mo.hold,xac zO]
  refine JE.mk (hJ _ λgs=>bc.here ⟨Ki,Ci,DY,by simp,rfl,Gy,CZ.imp id λh=>⟨h,λ_ hm=>?_⟩,hE Ki rfl rfl rfl λ_=>rfl⟩);rcases hx with h|h
  ·omega
  rw[hm]at h;cases h
end
theorem G4{α:Type}(a b c d e f g h:α)(L R:List α):(a::b::c::d::e::f::g::h::(L++R)).Perm (g::d::e::b::h::f::a::(L++c::R)):=by
 classical
 rw[xdf];intro x;simp only[xa2,xcm];omega
def kH(kp:Nat)(K:Kd)(S:Nat->ay.Fn)(ord af tr:zL)(f:ay.Fn)(w:zV)(H:Hp):Prop:=
 (∃x K' S',w=.tuple #[u32 x,iv 0]/\cj kp K' S' ord af [] H/\BL K S K' S' f x)\/
 (w=.tuple #[u32 0,iv 9]/\(∃K' S' e5,cj kp K' S' ord af e5 H/\(e5=[]\/e5=tr)/\Kept K S K' S')/\¬Fits (aJ K.n ord (λg=>K.held S g\/g=f)) K.cap)
def gT(kp:Nat)(K:Kd)(S:Nat->ay.Fn)(ord af tr:zL)(f:ay.Fn)(w:zV)(H:Hp):Prop:=
 kH kp K S ord af tr f w H\/(w=.tuple #[u32 0,iv 8]/\(∃K' S' e5,cj kp K' S' ord af e5 H/\(e5=[]\/e5=tr)/\Kept K S K' S')/\∃r,2<=r/\K.hold r=65535/\S r=f)
theorem gT.small{kp:Nat}{K:Kd}{S:Nat->ay.Fn}{ord af tr:zL}{f:ay.Fn}{w:zV}{H:Hp}(h:gT kp K S ord af tr f w H)(hB:∀s,K.hold s<65535):kH kp K S ord af tr f w H:=by
 rcases h with h|⟨_,_,r,_,h,_⟩
 ·exact h
 have:=hB r;omega
section
variable {kp bw:Nat} {vl fv:zV} {K:Kd} {S:Nat->ay.Fn} {ord af tr lvl:zL} {LB CL C:Hp} {t:Bool->Bool->Bool->Bool}
theorem vH(hK:cj kp K S ord af tr C)(Jl:pX fv LB t)(Eu:aR 3 .i64 vl (iw lvl) CL)(l8:lvl.length=K.n)(hlv:∀v,v<K.n->lvl.getD v 0=lv af v)(q:Q3)(hq:∀r∈l3 q,live K.N r){c:Nat}(hT:Tree K.n (lv af) K.N (l3 q) c):
  Fc zQ 160 #[ptr bw,kq q,fv] (LB++(da bw kp vl (.slice none 0 0)::(CL++C))) (gT kp K S ord af tr (l9 t S (l3 q))):=by
 have hrb:bA zQ 207=true:=by kernel_rfl
 obtain⟨fl,LO,Pp,KI,hfr⟩:=Jl.is;refine aU λg=>tQ λb1 _ b3 _ b5 _ b7 _ b9 _ bm _ kF _=>?_;refine St.one (by exact .head _) rfl zI rfl ?_;intro kE _;refine St.one (by exact .head _) rfl zI rfl ?_;refine Ld.q ?_;refine aA.q ?_;refine cr.of rfl hrb (aa.pre (H':=(b9,.cells #[iv 0] 25 zZ)::(b7,.cells #[.int .u32 0] 82 zZ)::Ey kF b1 b5 kE bm bw kp fv vl (.slice none 0 0) LB CL [] C #[] 0) ?_ ?_)
 ·rw[KI];exact(aN.perm (G4 _ _ _ _ _ _ _ _ _ _)).trans .tail
 have rS:=hK.od;have BT:=hK.ok.wf;have AJ:=hK.ok.lv;have FF:=hK.ok.mid.int;have hS:LX kp K S (aJ K.n ord (λg=>K.held S g\/g=l9 t S (l3 q))) ord af tr t K S [] #[] 0 (.slice none 0 0) [] C:=
  ⟨⟨tr,hK,.inr ⟨rfl,rfl⟩⟩,.refl λg hg=>cB (λg h=>.inl h) hg,aR.nil,[],br.empty,λy hy=>by cases hy⟩
 refine aa.fq (args:=#[kq q,ptr kF,ptr b1,ptr b5,ptr kE]) (FJ hrb Jl Eu l8 hlv hK.at'.E3 BT FF AJ (λr hr=>by have:=hK.cD hr;omega) (λs hs=>.inr (hK.ok.mid.held s zO)) (EL:=tr) (l3 q) c hT q rfl K S [] #[] 0 (.slice none 0 0) [] C hS hq (λg hg=>cB (λg h=>.inr h) hg)) ?_;rintro w H ⟨K1,S1,made,es,ck,vm,CM,C1,rfl,yS,hA,AF⟩;obtain⟨F9,ic,C0⟩:=yS.ks;have l6:=yS.eR;have Qq:=l6.qH ic;have Kt:∀s∈made,s<4294967296:=λs hs=>by have:=ic.cD (l6.fo ic hs);omega
 have Oj:∀s,made.count s<=K1.hold s:=λs=>by rw[l6.hold];omega
 have fin:∀(x:Nat) (ok fu:Bool),w=.tuple #[u32 (if ok then x else 0),iv (if ok then 0 else 9)]->(ok=true->((x<2\/x∈made)↔fu=false))->(∀K2 C2 gv,cj kp K2 S1 ord af gv C2->(gv=[]\/(gv=F9/\((ok&& !fu)=true->made≠[])))->vO K1 K2 made (if ok then x else 0) (ok&& !fu)->gT kp K S ord af tr (l9 t S (l3 q)) (.tuple #[u32 (if ok&& !fu then(if ok then x else 0)else 0),iv (if ok then(if fu then 8 else 0)else 9)]) C2)->(ok=false->x=0)->
   Ext 0 w λJI=>Ext 1 w λMn=>St 1 ((b9,.cells #[iv 0] 25 zZ)::(b7,.cells #[.int .u32 0] 82 zZ)::Ey kF b1 b5 kE bm bw kp fv vl vm LB CL CM C1 es ck) (ptr b7) JI λL6=>St 1 L6 (ptr b9) Mn λFZ=>
   gu zQ g 205 #[ptr b1,ptr b7,ptr b9] FZ λL5=>Ld L5 (ptr b7) λNB=>Ld L5 (ptr b9) λNA=>bc (gT kp K S ord af tr (l9 t S (l3 q))) (.returned (.tuple #[NB,NA])) L5:=by
  intro x ok fu hw hx hd h0;subst hw;refine Ext.two (St.one (by exact .tail (.head _)) rfl zI rfl ?_);refine St.one (by exact .head _) rfl zI rfl ?_;refine rN (R:=_) ?_;unfold L205;refine Ld.q ?_;refine Ld.q ?_;refine Ld.q ?_;refine aa.fq (DM (X:=CL) (x:=if ok then x else 0) (ok:=ok) (fu:=fu) ic yS.IV Oj l6.two Kt (λh=>by rw[xaf h];exact hx h) zO) ?_;rintro w H ⟨K2,C2,gv,rfl,rfl,dK,nL,hE⟩;refine Ext.two (St.one (by exact .tail (.head _)) rfl zI rfl ?_);refine St.one (by exact .head _) rfl zI rfl ?_;refine⟨⟨_,rfl⟩,?_⟩;refine Ld.q ?_;refine Ld.q ?_;exact bc.mk (.skip (.skip (.skip (.skip (.skip (.skip (aN.right.trans (.skip (.skip (aN.right.trans .right)))))))))) (hd K2 C2 gv dK nL hE)
 have Fk:∀s,K.hold s≠0->live K.N s:=λs hs=>.inr (hK.ok.mid.held s hs);rcases AF with⟨x,rfl,hx,J4⟩|⟨rfl,hno⟩
 ·by_cases IX:x<2\/x∈made;rotate_left
  ·have Hq:2<=x:=by omega
   have hfull:K.hold x=65535:=by
    rcases J4 with h|h|h
    ·exact absurd (.inl h) IX
    ·exact absurd (.inr h) IX
    exact h
   refine fin x true true rfl (λ_=>⟨λh=>absurd h IX,λh=>by cases h⟩) (λK2 C2 gv dK nL hE=>.inr ⟨rfl,⟨K2,S1,gv,dK,?_,?_⟩,x,Hq,hfull,?_⟩) (λh=>by cases h)
   ·rcases nL with h|⟨h,_⟩
    ·exact .inl h
    rcases C0 with h2|⟨h2,_⟩
    ·exact .inl (h.trans h2)
    exact .inr (h.trans h2)
   ·have gJ:∀s,K2.hold s=K.hold s:=λs=>by
     have a:=hE.hold s;have b:=l6.hold s;rw[xac (λh=>by cases h.1)]at a;omega
    refine⟨hE.n.trans l6.n,hE.cap.trans l6.cap,gJ,λg=>?_,λr hr=>l6.fn r (Fk r hr)⟩;constructor
    ·rintro⟨s,hs,rfl⟩;have hs':K.hold s≠0:=by rw[<-gJ];exact hs
     exact⟨s,hs',l6.fn s (Fk s hs')⟩
    rintro⟨s,hs,rfl⟩;exact⟨s,by show K2.hold s≠0;rw[gJ];exact hs,(l6.fn s (Fk s hs)).symm⟩
   rw[<-hx];exact(l6.fn x (Fk x zO)).symm
  refine fin x true false rfl (λ_=>⟨λ_=>rfl,λ_=>IX⟩) (λK2 C2 gv dK nL hE=>.inl (.inl ⟨x,K2,S1,rfl,?_,?_⟩)) (λh=>by cases h)
  ·have:gv=[]:=by
    rcases nL with h|⟨h,h'⟩
    ·exact h
    rcases C0 with h2|⟨_,h2⟩
    ·rw[h,h2]
    exact absurd h2 (h' rfl)
   rw[this]at dK;exact dK
  have gJ:∀s,K2.hold s=K.hold s+if s=x/\2<=x then 1 else 0:=λs=>by
   have a:=hE.hold s;have b:=l6.hold s;simp only[Bool.not_false,Bool.and_true,xaS,xdw]at a;omega
  have hl:live K2.N x:=by
   by_cases h2:x<2
   ·exact .inl h2
   refine .inr (dK.ok.mid.held x ?_);rw[gJ,xaf ⟨rfl,by omega⟩];omega
  exact⟨hE.n.trans l6.n,hE.cap.trans l6.cap,λs d hs=>sk hK.ok dK.ok (λs h=>by rw[gJ];omega) (λs d d' h h'=>by
   have a:=hE.N s d' h';rw[l6.N s d h]at a;exact(xbh a).symm) _ s d hs (xal _),λs hs=>l6.fn s hs,hl,hx,gJ⟩
 refine fin 0 false false rfl (λh=>by cases h) (λK2 C2 gv dK nL hE=>.inl (.inr ⟨rfl,⟨K2,S1,gv,dK,?_,?_⟩,hno⟩)) (λ_=>rfl)
 ·rcases nL with h|⟨h,_⟩
  ·exact .inl h
  rcases C0 with h2|⟨h2,_⟩
  ·exact .inl (h.trans h2)
  exact .inr (h.trans h2)
 have gJ:∀s,K2.hold s=K.hold s:=λs=>by
  have a:=hE.hold s;have b:=l6.hold s;rw[xac (λh=>by cases h.1)]at a;omega
 refine⟨hE.n.trans l6.n,hE.cap.trans l6.cap,gJ,λg=>?_,λr hr=>l6.fn r (Fk r hr)⟩;constructor
 ·rintro⟨s,hs,rfl⟩;have hs':K.hold s≠0:=by rw[<-gJ];exact hs
  exact⟨s,hs',l6.fn s (Fk s hs')⟩
 rintro⟨s,hs,rfl⟩;exact⟨s,by show K2.hold s≠0;rw[gJ];exact hs,(l6.fn s (Fk s hs)).symm⟩
end
end
end Go.Proofs
namespace Go.Sx
open Go
section
variable {P:Program} {g:Gh}
theorem Build.three{t e:TypeId}{q:IntKind}{x y z:Int}{K:zV->Prop}(ht:P.underlying t=some (.array 3 e))(hz:bL P e=some 1)(h0:c8 P t=some (.agg (an q [0,0,0])))(h:K (.agg (an q [x,y,z]))):
  Build P t [(0,.int q x),(1,.int q y),(2,.int q z)] K:=by
 refine⟨_,λw=>?_,h⟩;obtain⟨i,hi,hs⟩:=aD hz;obtain⟨i0,KC,J0⟩:=bP h0;simp only[Instr.build,Sem.run_bind,cH KC J0,Result.andThen_ok,run_underlying ht,run_sizeOf hi,hs];simp[Instr.fill,Value.cells,an]
theorem Build.GP{t e:TypeId}{q:IntKind}{x y:Int}{K:zV->Prop}(ht:P.underlying t=some (.array 3 e))(hz:bL P e=some 1)(h0:c8 P t=some (.agg (an q [0,0,0])))(h:K (.agg (an q [x,y,0]))):
  Build P t [(0,.int q x),(1,.int q y)] K:=by
 refine⟨_,λw=>?_,h⟩;obtain⟨i,hi,hs⟩:=aD hz;obtain⟨i0,KC,J0⟩:=bP h0;simp only[Instr.build,Sem.run_bind,cH KC J0,Result.andThen_ok,run_underlying ht,run_sizeOf hi,hs];simp[Instr.fill,Value.cells,an]
end
end Go.Sx
set_option maxRecDepth 100000
namespace Go.Proofs
open Go Go.Sx Tryz
open ay
theorem vJ(x:Bool)(B:Hp):Rd zQ 162 #[.bool x] B (· =.int .u8 ((x.toNat:Nat):Int)):=by
 refine aU λg=>tN ?_;cases x
 ·exact Br.no (bH.mk (.refl _) rfl)
 exact Br.yes (bH.mk (.refl _) rfl)
def Co(op:Nat)(a b:Bool):Bool:=op.testBit (2*a.toNat+b.toNat)
abbrev wo(b op:Nat):Hp:=[(b,.cells #[.int .u8 (op:Int)] 5 zZ)]
theorem sJ{b op:Nat}(hop:op<16):pX (.func (.func 161) #[] #[ptr b]) (wo b op) (λx y _=>Co op x y):=by
 refine⟨_,_,_,rfl,by kernel_rfl,λx y z=>?_⟩;refine aU λg=>tO (DR.of (R:=wo b op) (.refl _) (Ld.q ?_));refine aa.eq (vJ x _) (⟨.refl _,?_⟩);have hx:x.toNat<=1:=by cases x<;>decide
 have hy:y.toNat<=1:=by cases y<;>decide
 refine ae.JV (a:=2) (aa.eq (vJ y _) (⟨.refl _,?_⟩));refine ae.xB (ae.ny (by simp[bY];omega) (ae.DJ (b:=1) (by simp[bY];exact xbk (Nat.shiftRight_le _ _) zO) (by simp[bY]) (ae.bI (b:=1) (bH.mk (.refl _) ?_))));congr 1;unfold Co;rw[Nat.and_one_is_mod];rw[Nat.testBit_eq_decide_div_mod_eq,xaY]
theorem sn:pX (.func (.func 163) #[] #[]) [] (λx y z=>if x then y else z):=by
 refine⟨_,_,_,rfl,by kernel_rfl,λx y z=>?_⟩;refine aU λg=>tM ?_;cases x
 ·refine bO.mk false (λh=>by simp at h) (λ_=>rfl) λgs=>?_;refine bO.mk (by exact z) (λ_=>Un.not (bO.and z (λ_=>⟨rfl,rfl⟩) zI λgs=>⟨rfl,by simp⟩)) (λh=>by simp at h) λgs=>?_;exact bH.mk (.refl _) rfl
 refine bO.and y (λ_=>⟨rfl,rfl⟩) zI λgs=>?_;refine bO.or false (λ_=>Un.not (bO.and z (λ_=>⟨rfl,rfl⟩) zI λgs=>⟨rfl,by simp⟩)) zI λgs=>?_;refine bH.mk (.refl _) ?_;cases y<;>rfl
section
variable {kp:Nat} {K:Kd} {S:Nat->ay.Fn} {ord af tr:zL} {C:Hp}
theorem G5{α:Type}(w a b:α)(L R:List α):(w::(L++(a::b::R))).Perm (a::([b]++w::(L++R))):=by
 classical
 rw[xdf];intro x;simp only[xa2,xcm,xdk];omega
theorem rI(hK:cj kp K S ord af tr C){q:zL}(hq:∀r∈q,live K.N r):∃c,Tree K.n (lv af) K.N q c:=by
 obtain⟨c,h1,_⟩:=B8 (S:=S) hK.ok.wf hK.ok.lv hK.ok.mid.int K.n 0 q zO zO hq (λr _=>xaB _);exact⟨c,h1⟩
theorem gT.two{f:ay.Fn}{w:zV}{H:Hp}(h:gT kp K S ord af tr f w H):∃x e,w=.tuple #[x,e]:=by
 rcases h with(⟨x,K',S',rfl,_⟩|⟨rfl,_⟩)|⟨rfl,_⟩
 ·exact⟨_,_,rfl⟩
 ·exact⟨_,_,rfl⟩
 exact⟨_,_,rfl⟩
theorem iS(hB:∀s,K.hold s+2^K.n<=65535):∀s,K.hold s<65535:=λs=>by
 have:=hB s;have:=xcQ (n:=K.n);omega
theorem jN(hK:cj kp K S ord af tr C){op a b:Nat}(hop:op<16)(ha:live K.N a)(hb:live K.N b):
  Fc zQ 127 #[ptr kp,.int .u8 (op:Int),u32 a,u32 b] C (gT kp K S ord af tr (λx=>Co op (S a x) (S b x))):=by
 refine aU λg=>uk λb1 _=>?_;refine ae.bh (Br.no (Ld.q ?_));refine ae.iU (b:=15) (Br.F (aj.Eb (e:=82) (x:=(a:Int)) (y:=(b:Int)) zK zK zK λbs=>?_));have hq:∀r∈l3 (a,b,0),live K.N r:=λr hr=>by
  simp only[l3,xag,xax,xa3]at hr;rcases hr with rfl|rfl|rfl
  ·exact ha
  ·exact hb
  exact .inl zO
 have hI:eV .u32 ((bs,Obj.cells (an .u32 [(a:Int),(b:Int)]) 82 zZ)::wo b1 op) (.slice (some ⟨bs,0,none⟩) 2 2) (iw [a,b]):=(aR.made (T:=82) (kd:=.u32) (b:=bs) (iw [a,b])).ints.mono λ_ h=>xad (wo b1 op) h;refine aa.fq (args:=#[ptr kp,.slice (some ⟨bs,0,none⟩) 2 2]) (C:=((bs,Obj.cells (an .u32 [(a:Int),(b:Int)]) 82 zZ)::wo b1 op)++C) (oK hK hI (λr hr=>?_) (by show 2<=1048576;omega)) ?_
 ·simp only[xag,xax,xa3]at hr;rcases hr with rfl|rfl
  ·exact ha
  exact hb
 rintro w H ⟨bw,vl,CL,lvl,rfl,rfl,Eu,l8,hlv⟩;refine Ext.mk rfl (Ext.mk rfl (ae.j4 (Br.F (Build.GP (e:=82) (q:=.u32) (x:=(a:Int)) (y:=(b:Int)) zK zK zK ?_))));obtain⟨c,hT⟩:=rI hK hq;refine aa.pre (H':=(bs,Obj.cells (an .u32 [(a:Int),(b:Int)]) 82 zZ)::(wo b1 op++da bw kp vl (.slice none 0 0)::(CL++C))) (.perm (G5 _ _ _ _ _)) (aa.fq (args:=#[ptr bw,kq (a,b,0),.func (.func 161) #[] #[ptr b1]]) (vH (t:=λx y _=>Co op x y) hK (sJ hop) Eu l8 hlv (a,b,0) hq hT) ?_);intro w H hD;obtain⟨x,e,rfl⟩:=hD.two;exact Ext.mk rfl (Ext.mk rfl (bc.mk .tail hD))
theorem eO(hK:cj kp K S ord af tr C){op a b:Nat}(hop:op<16)(ha:live K.N a)(hb:live K.N b)(hB:∀s,K.hold s+2^K.n<=65535):
  Fc zQ 127 #[ptr kp,.int .u8 (op:Int),u32 a,u32 b] C (kH kp K S ord af tr (λx=>Co op (S a x) (S b x))):=
 (jN hK hop ha hb).mono λ_ _ h=>h.small (iS hB)
theorem kH.two{f:ay.Fn}{w:zV}{H:Hp}(h:kH kp K S ord af tr f w H):∃x e,w=.tuple #[x,e]:=by
 rcases h with⟨x,K',S',rfl,_⟩|⟨rfl,_⟩
 ·exact⟨_,_,rfl⟩
 exact⟨_,_,rfl⟩
theorem xy(hK:cj kp K S ord af tr C){a:Nat}(ha:live K.N a):
  Fc zQ 101 #[ptr kp,u32 a] C (gT kp K S ord af tr (λx=> !S a x)):=by
 refine aU λg=>uH (aa.fq (args:=#[ptr kp,.int .u8 ((3:Nat):Int),u32 a,u32 0]) (jN hK (op:=3) zD ha (.inl zO)) ?_);intro w H hD;have e:(λx=>Co 3 (S a x) (S 0 x))=λx=> !S a x:=by
  funext x
  rw[hK.ok.mid.int.zero];cases S a x<;>rfl
 rw[e]at hD;obtain⟨x,e,rfl⟩:=hD.two;exact Ext.mk rfl (Ext.mk rfl (bc.mk (.refl _) hD))
theorem DG(hK:cj kp K S ord af tr C){a:Nat}(ha:live K.N a)(hB:∀s,K.hold s+2^K.n<=65535):
  Fc zQ 101 #[ptr kp,u32 a] C (kH kp K S ord af tr (λx=> !S a x)):=
 (xy hK ha).mono λ_ _ h=>h.small (iS hB)
theorem G0{α:Type}(w a:α)(L R:List α):(w::(L++(a::R))).Perm (a::([]++w::(L++R))):=by
 classical
 rw[xdf];intro x;simp only[xa2,xcm,xdk];omega
theorem xA(hK:cj kp K S ord af tr C){a b c:Nat}(ha:live K.N a)(hb:live K.N b)(hc:live K.N c):
  Fc zQ 128 #[ptr kp,u32 a,u32 b,u32 c] C (gT kp K S ord af tr (λx=>if S a x then S b x else S c x)):=by
 refine aU λg=>uj (aj.Hl (e:=82) (x:=(a:Int)) (y:=(b:Int)) (z:=(c:Int)) zK zK zK λbs=>?_);have hq:∀r∈l3 (a,b,c),live K.N r:=λr hr=>by
  simp only[l3,xag,xax,xa3]at hr;rcases hr with rfl|rfl|rfl
  ·exact ha
  ·exact hb
  exact hc
 refine aa.fq (args:=#[ptr kp,.slice (some ⟨bs,0,none⟩) 3 3]) (C:=[(bs,Obj.cells (an .u32 [(a:Int),(b:Int),(c:Int)]) 82 zZ)]++C) (oK hK (refs:=l3 (a,b,c)) ((aR.made (T:=82) (kd:=.u32) (b:=bs) (iw (l3 (a,b,c)))).ints) hq (by show 3<=1048576;omega)) ?_;rintro w H ⟨bw,vl,CL,lvl,rfl,rfl,Eu,l8,hlv⟩;refine Ext.mk rfl (Ext.mk rfl (ae.j4 (Br.F (Build.three (e:=82) (q:=.u32) (x:=(a:Int)) (y:=(b:Int)) (z:=(c:Int)) zK zK zK ?_))));obtain⟨k,hT⟩:=rI hK hq;refine aa.pre (H':=(bs,Obj.cells (an .u32 [(a:Int),(b:Int),(c:Int)]) 82 zZ)::([]++da bw kp vl (.slice none 0 0)::(CL++C))) (.perm (G0 _ _ _ _)) (aa.fq (args:=#[ptr bw,kq (a,b,c),.func (.func 163) #[] #[]]) (vH (t:=λx y z=>if x then y else z) hK sn Eu l8 hlv (a,b,c) hq hT) ?_);intro w H hD;obtain⟨x,e,rfl⟩:=hD.two;exact Ext.mk rfl (Ext.mk rfl (bc.mk .tail hD))
theorem DK(hK:cj kp K S ord af tr C){a b c:Nat}(ha:live K.N a)(hb:live K.N b)(hc:live K.N c)(hB:∀s,K.hold s+2^K.n<=65535):
  Fc zQ 128 #[ptr kp,u32 a,u32 b,u32 c] C (kH kp K S ord af tr (λx=>if S a x then S b x else S c x)):=
 (xA hK ha hb hc).mono λ_ _ h=>h.small (iS hB)
theorem lf.grow(hK:cj kp K S ord af tr C){K':Kd}{S':Nat->ay.Fn}{f:ay.Fn}{r:Nat}{C':Hp}{e5:zL}(h:lf K S K' S' f r)(jX:cj kp K' S' ord af e5 C')(hl:r<2\/2<=r):BL K S K' S' f r:=
 ⟨h.n,h.cap,h.N,h.fn,by
  by_cases h2:r<2
  ·exact .inl h2
  refine .inr (jX.ok.mid.held r ?_);rw[h.hold,xaf ⟨rfl,by omega⟩];omega,h.is,λs=>by rw[h.hold];split<;>omega⟩
theorem xx(hK:cj kp K S ord af tr C){v:Nat}(hv:v<K.n):
  Fc zQ 126 #[ptr kp,iv (v:Int)] C (gT kp K S ord af tr (λx=>x.testBit v)):=by
 refine aU λg=>um (ae.bh (Br.no ?_));have hint:=hK.ok.mid.int;have hL:=hK.ok.lv;have rS:=hK.od;have h0:live K.N 0:=.inl zO;have h1:live K.N 1:=.inl zO;have d0:dep K.n (lv af) K.N 0=K.n:=bC (hK.ok.wf.const zO);have d1:dep K.n (lv af) K.N 1=K.n:=bC (hK.ok.wf.const zO);have hl:=hL.lt v hv;have eI:ite S ⟨v,0,1⟩=λx=>x.testBit v:=by
  funext x
  unfold ay.ite;simp only[hint.zero,hint.one];cases x.testBit v<;>rfl
 refine aa.fq (args:=#[ptr kp,iv (v:Int),u32 0,u32 1]) (uZ hK hv h0 h1 (.inr ⟨by rw[d0];exact hl,by rw[d1];exact hl⟩)) ?_;rintro w C' (⟨r,K',S',rfl,jX,mk⟩|⟨r,rfl,rfl,_,Ih,hfull,Gu⟩|⟨rfl,rfl,hcap,hne,hT⟩)
 ·rw[eI]at mk;exact Ext.mk rfl (Ext.mk rfl (bc.mk (.refl _) (.inl (.inl ⟨r,K',S',rfl,jX,mk.grow hK jX zO⟩))))
 ·exact Ext.mk rfl (Ext.mk rfl (bc.mk (.refl _) (.inr ⟨rfl,⟨K,S,tr,hK,.inr rfl,.refl K S⟩,r,Ih,hfull,by rw[Gu,eI]⟩)))
 refine Ext.mk rfl (Ext.mk rfl (bc.mk (.refl _) (.inl (.inr ⟨rfl,⟨K,S,tr,hK,.inr rfl,.refl K S⟩,?_⟩))));rintro⟨ku,C9,hfit⟩;have Hz:=rS.of hL hv;have Au:∀j,j<lv af v->¬cT (λx:Nat=>x.testBit v) (ord.getD j 0):=by
  rintro j hj ⟨x,hx⟩;apply hx;have Ft:j<K.n:=by omega
  obtain⟨o1,o2⟩:=rS.at' j Ft;show Nat.testBit _ v=Nat.testBit _ v;rw[cF.ak,cF.ak,xac (λh=>by rw[h]at hj;omega),xac (λh=>by rw[h]at hj;omega)]
 have hh:cT (λx:Nat=>x.testBit v) (ord.getD (lv af v) 0):=by
  rw[Hz];exact⟨0,by show Nat.testBit _ v≠Nat.testBit _ v;rw[cF.ak,cF.ak,xaf rfl,xaf rfl];decide⟩
 have:=hK.ok.roomFor rS C9 hfit (λg hg=>cB (λg h=>.inl h) hg) (d:=⟨v,0,1⟩) h0 h1 (show(0:Nat)≠1 by omega) hv ⟨by rw[d0];exact hl,by rw[d1];exact hl⟩ (cB (λg h=>.inr h) (by rw[eI];exact n3 Au hl hh)) hT;omega
theorem DB(hK:cj kp K S ord af tr C){v:Nat}(hv:v<K.n)(hB:∀s,K.hold s<65535):
  Fc zQ 126 #[ptr kp,iv (v:Int)] C (kH kp K S ord af tr (λx=>x.testBit v)):=
 (xx hK hv).mono λ_ _ h=>h.small hB
end
end Go.Proofs
namespace ay
open cF
section
variable {t:Bool->Bool->Bool} {v u:Nat} {f:Fn}
theorem nZ{x v:Nat}{b c:Bool}:aW (aW x v b) v c=aW x v c:=by
 apply xa6;intro k;rw[ak,ak,ak];split<;>rfl
end
end ay
set_option maxRecDepth 100000
namespace Go.Proofs
open Go Go.Sx Tryz
section
open ay
theorem Fits.mono{A B:ay.Fn->Prop}{cap:Nat}(h:∀g,A g->B g)(hB:Fits B cap):Fits A cap:=by
 classical
 obtain⟨ku,⟨l,h1,h2,h3⟩,hc⟩:=hB;refine⟨(l.filter λg=>decide (A g)).length,⟨l.filter λg=>decide (A g),h1.filter _,rfl,λg=>?_⟩,?_⟩
 ·rw[xcl,xaH,<-h3];exact⟨λx=>⟨h g x,x⟩,λx=>x.2⟩
 have:=xc7 (λg=>decide (A g)) l;omega
end
section
def IE(ts:List Tb):Prop:=∀t∈ts,TF t/\some t.n=ts.head?.map Tb.n
instance (ts:List Tb):Decidable (IE ts):=by unfold IE;infer_instance
open ay
theorem z3(n:Nat)(ord:zL)(L:cF.Fs)(k:Nat):(lu n ord L k).length<=2^k*L.length:=xbF (xc7 _ _) (vC k)
theorem nY(n:Nat)(ord:zL)(L:cF.Fs):∀m,gz n ord L m+L.length<=2^m*L.length
 |0=>by show 0+L.length<=1*L.length;omega
 |m+1=>by
  have ih:=nY n ord L m;have h:=z3 n ord L m;show gz n ord L m+(lu n ord L m).length+L.length<=_;rw[xcv];have:2^m*2*L.length=2*(2^m*L.length):=by rw[xbj (2^m) 2,xds]
  omega
end
end Go.Proofs
namespace Go.Sx
open Go
section
variable {P:Program} {g:Gh} {H:Hp}
theorem aC.made{T:TypeId}{k b:Nat}(rs:List (List zV))(h:∀r∈rs,r.length=k):aC T k (.slice (some ⟨b,0,none⟩) rs.length rs.length) rs [(b,.cells (rows rs) T zZ)]:=
 .inr ⟨b,[],by simp,by simp,by simpa using h⟩
end
end Go.Sx
namespace ay
open cF
variable {n:Nat} {F:Nat->Nat} {ws us rs:zL}
def gG(n:Nat)(F:Nat->Nat):zL:=(List.range (wN n)).map λi=>F i&&&eG n
theorem oo(hn:n<=16):iG n (gG n F):=by
 refine⟨hn,by simp[gG],λw hw=>?_⟩;obtain⟨i,_,rfl⟩:=xaq.1 hw;exact Nat.and_le_right
theorem wF{x:Nat}(hx:x<2^n):bit (gG n F) x=(F (x/64)).testBit (x%64):=by
 have hi:=qJ hx;unfold bit;have dY:(gG n F).getD (x/64) 0=F (x/64) &&&eG n:=by simp[gG,hi]
 rw[dY,xbO,fL];have HP:decide (x%64<if 6<=n then 64 else 2^n)=true:=by
  rw[xaH];split
  ·exact xbL _ zD
  have h1:2^n<=32:=xaL (n:=2) zD (by omega:n<=5);omega
 rw[HP,Bool.and_true]
theorem q4{f:Fn}(h:∀x,x<2^n->(F (x/64)).testBit (x%64)=f x)(hf:∀x,f (x%2^n)=f x):ff n (gG n F)=f:=by
 funext x
 unfold ff;have hx:x%2^n<2^n:=xbL _ (xcj n);rw[wF hx,h _ hx,hf]
end ay
namespace Go.Sx
open Go
section
variable {P:Program} {g:Gh} {H C:Hp} {c:Hp->Hp}
theorem ae.Ch{kd:IntKind}{a b:Nat}{k:zV->Prop}(hb:b≠0)(h:k (.int kd ((a%b:Nat):Int))):ae .num .rem (.int kd a) (.int kd b) k:=
 ae.D4 zO rfl (by have:((a:Int)).tmod (b:Int)=((a%b:Nat):Int):=rfl;rw[this];exact h)
end
end Go.Sx
namespace Go.Sx
open Go
section
variable {P:Program} {g:Gh} {H B:Hp} {c:Hp->Hp}
theorem aN.fm{x:Nat×Obj}(h:x∈H):aN H [x]:=by
 obtain⟨A,D,rfl⟩:=xcM h;exact .cw (aN.left (A:=[x]))
end
end Go.Sx
set_option maxRecDepth 100000
namespace Go.Proofs
open Go Go.Sx Tryz
open ay
section
variable {kp b f d:Nat} {K:Kd} {S:Nat->ay.Fn} {ord tr:zL} {C:Hp}
def Cz(p:Nat):Nat->Nat->Nat
 |0,_=>p
 |_,k=>p-k
def wR(n p:Nat):Nat->Nat->Nat
 |0,k=>p+k
 |_,_=>n-1
end
end Go.Proofs
namespace ay
open cF
section
variable {n:Nat} {ord:zL} {L:cF.Fs}
theorem zn{n v:Nat}{t:zL}(hn:n<=16)(hf:iG n t)(hv:v<n)(h:∀u,u<n->u≠v->¬cT (ff n t) u)(x:Nat):ff n t x=ff n t (aW 0 v (x.testBit v)):=by
 have key:∀b,ff n t (aW x v b)=ff n t (aW 0 v b):=λb=>by
  have e:=pN hf hv b;have HO:=A2 (n:=n) (ws:=lP n t v b) (λu hu=>by
   rw[e];rintro⟨y,hy⟩;simp only at hy;by_cases IZ:u=v
   ·subst IZ;rw[nZ,nZ]at hy;exact hy rfl
   rw[fh IZ,fh IZ]at hy;exact h u hu IZ ⟨_,hy⟩)
  have:=HO x;rw[e]at this;exact this
 have:=key (x.testBit v);rwa [jZ]at this
theorem z2(hL:∀t∈L,iG n t)(hn:n<=16)(Gm:1<=n)(hp:ord.Perm (List.range n)):(lu n ord L (n-1)).length<=2:=by
 have I2:ord.length=n:=by rw[hp.length_eq,xb4]
 have hmem:∀i,i<n->ord.getD i 0<n:=λi hi=>by
  have:ord.getD i 0∈ord:=by rw[xaJ,xab zO];exact xaP _
  exact xa8.1 (hp.mem_iff.1 this)
 have aL:∀u,u<n->∃j,j<n/\ord.getD j 0=u:=λu hu=>by
  obtain⟨j,hj,e⟩:=xcC.1 (hp.mem_iff.2 (xa8.2 hu));exact⟨j,by omega,by rw[xaJ,xab hj];exact e⟩
 have hv:=hmem (n-1) zO;have facts:∀t∈lu n ord L (n-1),iG n t/\(∀x,ff n t x=if x.testBit (ord.getD (n-1) 0)then !ff n t 0 else ff n t 0):=by
  intro t ht;obtain⟨h1,h2⟩:=gC.1 ht;have hf:=gY hL hn (n-1) t h1;have iy:=(pL hL hn hmem (n-1) zO (ff n t)).2 ⟨t,h1,rfl⟩;have hone:=zn hn hf hv (λu hu hne=>by
   obtain⟨j,hj,e⟩:=aL u hu;rw[<-e];exact jH (n-1) _ iy j (by
    have:j≠n-1:=λh=>hne (by rw[<-e,h]);omega))
  have h0:ff n t (aW 0 (ord.getD (n-1) 0) false)=ff n t 0:=by
   have:=hone 0;rw[Nat.zero_testBit]at this;exact this.symm
  obtain⟨x,hx⟩:=(kz hf hv).2 h2;have e1:=hone (aW x (ord.getD (n-1) 0) false);have e2:=hone (aW x (ord.getD (n-1) 0) true);rw[ak,xaf rfl]at e1 e2;rw[e1,e2,h0]at hx;refine⟨hf,λy=>?_⟩;rw[hone y];cases hb:y.testBit (ord.getD (n-1) 0)
  ·rw[h0];simp
  rw[xaf rfl];have key:∀a b:Bool,a≠b->b= !a:=by decide
  exact key _ _ hx
 have iT:(lu n ord L (n-1)).Nodup:=(oD (n-1)).filter _;have h1:((lu n ord L (n-1)).map λt=>ff n t 0).Nodup:=by
  refine xcU.2 (iT.imp_of_mem λ{a b} ha hb hne heq=>hne ?_);obtain⟨fa,ga⟩:=facts a ha;obtain⟨fb,gb⟩:=facts b hb;exact vv fa fb (funext λx=>by rw[ga,gb,heq])
 have:=bN h1 (l':=[true,false]) λb _=>by cases b<;>simp
 simpa using this
end
end ay
set_option maxRecDepth 100000
namespace Go.Proofs
open Go Go.Sx Tryz
section
open ay
section
variable {kp gb n:Nat} {vr vf:zV} {refs:zL} {fs:List (zL)} {K:Kd} {S:Nat->ay.Fn} {ord tr:zL} {C Z:Hp}
theorem uU{ord:zL}(hp:ord.Perm (List.range n)):∀i,i<n->ord.getD i 0<n:=λi hi=>by
 have I2:ord.length=n:=by rw[hp.length_eq,xb4]
 have:ord.getD i 0∈ord:=by rw[xaJ,xab zO];exact xaP _
 exact xa8.1 (hp.mem_iff.1 this)
end
end
section
section
open Go.ChangeShapes Go.WideShapes Go.Deep
variable {H:Type} {enc:TypeId×zV->H} {W:World} {base:Nat} {spare:Nat->Bool} {held:Bool}
theorem CE{f:FuncId}{args:Array zV}{W:World}(h:Rd zQ f args (whole W) (· =.bool true)):
  Calls zQ f args W λe W'=>e=.returned (.bool true)/\Go.RowKit.Below W.heap.size W W':=
 E7 (h.mono λ_ _ ⟨h1,h2⟩=>⟨by rw[h1];exact .refl _,h2⟩)
end
end
end Go.Proofs
namespace Go.Sx
open Go
section
variable {P:Program} {g:Gh} {H:Hp} {K:zV->Hp->Prop} {KP:List PanicEntry->Hp->Prop}
theorem cg.panic{o:Oper}{ρ:Operand->zV}{x:Operand}{T:TypeId}{v:zV}(ho:o.op=.panic x)(hx:ρ x=.iface T v)(hk:KP [{v:=.iface T v,recovered:=false}] H):cg P g o ρ H K KP:=by
 intro w hw;have:(execOp ρ o).run P w=.halt (.panic (.iface T v)) w:=by
  simp only[execOp,ho,hx,Sem.run_bind,Instr.panic];rfl
 rw[this];exact⟨H,hw,hk⟩
theorem aG.assert{o:Oper}{ρ:Operand->zV}{k:zV->Prop}{x:Operand}{xT T:TypeId}{v:zV}{d:TypeDesc}(ho:o.op=.typeAssert x xT T true)(hx:ρ x=.iface T v)(hd:P.underlying T=some d)(hi:∀m,d≠.interface m)
 (hk:k (.tuple #[v,.bool true])):aG P g o ρ H k:=by
 refine⟨_,λw _=>?_,hk⟩;have:(Instr.typeAssert (.iface T v) xT T true).run P w=.ok (.tuple #[v,.bool true]) w:=by
  unfold Instr.typeAssert;simp only[Sem.run_bind,run_underlying hd,Result.andThen_ok];cases d<;>first|(exact absurd rfl (hi _))|simp
 simp only[execOp,ho,hx,Sem.run_bind,this,Result.andThen_ok,Sem.run_pure]
theorem aG.vb{o:Oper}{ρ:Operand->zV}{k:zV->Prop}{x y:Operand}{t yt:TypeId}{a:zV}(ho:o.op=.binOp .neq t x y yt)(hx:ρ x=a)(hy:ρ y=.nilIface)(hd:∃m,P.underlying t=some (.interface m)){b:Bool}(ha:(a=.nilIface/\b=false/\∃v,y=.const v)\/∃T v,a=.iface T v/\b=true)
 (hk:k (.bool b)):aG P g o ρ H k:=by
 obtain⟨m,hd⟩:=hd;refine⟨_,λw _=>?_,hk⟩;have e1:eqGuard .neq t x y a .nilIface=pure ():=by
  rcases ha with⟨rfl,_,v,rfl⟩|⟨T,v,rfl,_⟩
  ·unfold eqGuard;simp
  rfl
 have e2:(Op.equal t a .nilIface).run P w=.ok (!b) w:=by
  have key:∀n,(Op.equalIn (n+1) t a .nilIface).run P w=.ok (!b) w:=λn=>by
   unfold Op.equalIn;rcases ha with⟨rfl,rfl,_⟩|⟨T,v,rfl,rfl⟩<;>simp only[Sem.run_bind,run_underlying hd,Result.andThen_ok,Sem.run_pure]<;>rfl
  exact key 9999
 have e3:binOp .neq t a .nilIface=(do pure (.bool !(<-Op.equal t a .nilIface))):=by
  rcases ha with⟨rfl,_⟩|⟨T,v,rfl,_⟩<;>rfl
 have e4:(execOp ρ o).run P w=.ok (.value (.bool b)) w:=by
  simp only[execOp,ho,hx,hy,e1,e3,Sem.run_bind,Sem.run_pure,Result.andThen_ok,e2,Bool.not_not]
 exact e4
theorem aG.gx{o:Oper}{ρ:Operand->zV}{k:zV->Prop}{x:Operand}{t:TypeId}{lo hi:Option Operand}{l:List UInt8}{i j:Nat}(ho:o.op=.slice t x lo hi none)(hd:P.underlying t=some .string)(hx:ρ x=ag l)
 (hlo:(lo=none/\i=0)\/∃q kd,lo=some q/\ρ q=.int kd (i:Int))(hhi:(hi=none/\j=l.length)\/∃q kd,hi=some q/\ρ q=.int kd (j:Int))(hij:i<=j)(hj:j<=l.length)(hk:k (ag ((l.take j).drop i))):aG P g o ρ H k:=by
 refine⟨_,λw _=>?_,hk⟩;have sz:(⟨l.toArray⟩:ByteArray).size=l.length:=by simp[ByteArray.size]
 have cut:(⟨l.toArray⟩:ByteArray).extract i j=⟨((l.take j).drop i).toArray⟩:=by
  apply ByteArray.ext;rw[ByteArray.data_extract];apply xch;simp[List.drop_take]
 have:(Instr.sliceAt t (ag l) (lo.map ρ) (hi.map ρ) none).run P w=.ok (ag ((l.take j).drop i)) w:=by
  have b1:∀kd cd,(Instr.sliceBound (.int kd (i:Int)) j cd).run P w=.ok i w:=λkd cd=>by simp[Instr.sliceBound,asIntOf,hij]
  have b2:∀kd cd,(Instr.sliceBound (.int kd (j:Int)) l.length cd).run P w=.ok j w:=λkd cd=>by simp[Instr.sliceBound,asIntOf,hj]
  rcases hlo with⟨rfl,rfl⟩|⟨q,kd,rfl,hq⟩<;>rcases hhi with⟨rfl,rfl⟩|⟨q2,NP,rfl,wO⟩
  ·simp only[Instr.sliceAt,Instr.slice,Instr.sliceBounds,ag,Sem.run_bind,run_underlying hd,Result.andThen_ok,xbo,xa9,xbv,xas,xaD,Sem.run_pure,sz,b1,b2,  cut]
  ·simp only[Instr.sliceAt,Instr.slice,Instr.sliceBounds,ag,Sem.run_bind,run_underlying hd,Result.andThen_ok,xbo,xa9,xbv,xas,xaD,Sem.run_pure,sz,b1,b2,wO,cut]
  ·simp only[Instr.sliceAt,Instr.slice,Instr.sliceBounds,ag,Sem.run_bind,run_underlying hd,Result.andThen_ok,xbo,xa9,xbv,xas,xaD,Sem.run_pure,sz,b1,b2,hq,cut]
  simp only[Instr.sliceAt,Instr.slice,Instr.sliceBounds,ag,Sem.run_bind,run_underlying hd,Result.andThen_ok,xbo,xa9,xbv,xas,xaD,Sem.run_pure,sz,b1,b2,hq,wO,cut]
 simp only[execOp,ho,hx,Sem.run_bind,xbo,this,Result.andThen_ok,Sem.run_pure]
theorem mq{w:World}(hw:Own g H w){b p:Nat}{s:ByteArray}{o':Obj}{H':Hp}(hu:bW b (.stringIter s p) o' H H'):∃w',(setObj b o').run P w=.ok () w'/\Own g H' w':=by
 have hm:w.heap[b]? =some (.stringIter s p):=hw.has _ hu.mem;have hlt:b<w.heap.size:=(xaz.1 hm).1;refine⟨{w with heap:=w.heap.setIfInBounds b o'},by simp[setObj,Sem.run,hm],?_⟩;refine hw.bX hu rfl rfl rfl ?_ λc hc=>?_
 ·simp[hlt]
 exact xa0 (xbJ hc)
theorem mr{w:World}(hw:Own g H w){b p:Nat}{s:ByteArray}(hm:(b,Obj.stringIter s p)∈H):(getObj b).run P w=.ok (.stringIter s p) w:=by
 have:=hw.has _ hm;simp only at this;simp[getObj,Sem.run,this]
theorem cg.zj{o:Oper}{ρ:Operand->zV}{x:Operand}{t:TypeId}{l:List UInt8}(ho:o.op=.range t x)(ht:P.underlying t=some .string)(hx:ρ x=ag l)(hk:∀b,K (.pointer (some ⟨b,0,none⟩)) ((b,.stringIter ⟨l.toArray⟩ 0)::H)):cg P g o ρ H K KP:=by
 refine cg.ofValue (s:=Instr.range t (ag l)) (by simp only[execOp,ho,hx]) λw hw=>?_;refine⟨_,w.alloc (.stringIter ⟨l.toArray⟩ 0),_,?_,hw.alloc _,hk w.heap.size⟩;simp only[Instr.range,ag,Sem.run_bind,run_underlying ht,Result.andThen_ok,Sem.run_pure];rfl
theorem cg.D6{o:Oper}{ρ:Operand->zV}{x:Operand}{b pos:Nat}{l:List UInt8}{C H:Hp}{c:Hp->Hp}(ho:o.op=.next x true)(hx:ρ x=.pointer (some ⟨b,0,none⟩))(hh:bu [(b,.stringIter ⟨l.toArray⟩ pos)] H c)
 (h1:pos<l.length->K (.tuple #[.bool true,.int .i64 (pos:Int),.int .i32 ((Utf8.decode ⟨l.toArray⟩ pos).1:Int)]) (c [(b,.stringIter ⟨l.toArray⟩ (pos+(Utf8.decode ⟨l.toArray⟩ pos).2))]))
 (h2:l.length<=pos->K (.tuple #[.bool false]) H):cg P g o ρ H K KP:=by
 have sz:(⟨l.toArray⟩:ByteArray).size=l.length:=by simp[ByteArray.size]
 have hm:=hh.sub _ (xaG.2 rfl);refine cg.ofValue (s:=Instr.next (.pointer (some ⟨b,0,none⟩)) true o.type) (by simp only[execOp,ho,hx]) λw hw=>?_;have hg:=mr (P:=P) hw hm;by_cases hp:pos<l.length
 ·obtain⟨w',hs,cy⟩:=mq (P:=P) hw (hh.bX (bW.head (o':=.stringIter ⟨l.toArray⟩ (pos+(Utf8.decode ⟨l.toArray⟩ pos).2)) []));refine⟨_,w',_,?_,cy,h1 hp⟩;simp only[Instr.next,Sem.run_bind,hg,Result.andThen_ok,sz,hp,xaS,hs,Sem.run_pure,goInt]
 refine⟨_,w,H,?_,hw,h2 zO⟩;simp only[Instr.next,Sem.run_bind,hg,Result.andThen_ok,sz,hp,xaD,Sem.run_pure]
end
theorem oB{l:List UInt8}{pos:Nat}{b:UInt8}(h:l[pos]? =some b)(hb:b.toNat<128):Utf8.decode ⟨l.toArray⟩ pos=(b.toNat,1):=by
 have hg:(⟨l.toArray⟩:ByteArray).get! pos=b:=by
  have hlt:=(xae.1 h).1;have:l[pos]=b:=(xae.1 h).2;simp[ByteArray.get!,hlt,this]
 unfold Utf8.decode;simp only[xcr,hg,hb,xaS]
theorem oC{l:List UInt8}{pos:Nat}{b:UInt8}(h:l[pos]? =some b)(hb:128<=b.toNat):128<=(Utf8.decode ⟨l.toArray⟩ pos).1/\(Utf8.decode ⟨l.toArray⟩ pos).1<2147483648/\1<=(Utf8.decode ⟨l.toArray⟩ pos).2:=by
 have hg:(⟨l.toArray⟩:ByteArray).get! pos=b:=by
  have hlt:=(xae.1 h).1;have:l[pos]=b:=(xae.1 h).2;simp[ByteArray.get!,hlt,this]
 have h4:∀n:Nat,n%64<64:=λn=>xbL _ zD;unfold Utf8.decode;simp only[xcr,hg,show¬b.toNat<128 by omega,xaD]
 repeat' split
 all_goals first|(simp only[Utf8.runeError];omega)|skip
 all_goals
  rename_i h5;first|(have a1:=h4 ((⟨l.toArray⟩:ByteArray).get! (pos+1)).toNat;simp only[ge_iff_le]at h5⊢;omega)|skip
 all_goals
  simp only[ge_iff_le,xap,xaH]at h5;have a1:=h4 ((⟨l.toArray⟩:ByteArray).get! (pos+1)).toNat;have a2:=h4 ((⟨l.toArray⟩:ByteArray).get! (pos+2)).toNat;have a3:=h4 ((⟨l.toArray⟩:ByteArray).get! (pos+3)).toNat;refine⟨by omega,by omega,by simp⟩
theorem au.of{l:List UInt8}{k:zV->Prop}(h:k (.int .i64 (l.length:Int))):au (ag l) k:=⟨⟨l.toArray⟩,rfl,by
 have:(⟨l.toArray⟩:ByteArray).size=l.length:=by simp[ByteArray.size]
 rw[this];exact h⟩
theorem ae.qj{a b:List UInt8}{k:zV->Prop}(h:k (.bool (decide (a=b)))):ae .str .eql (ag a) (ag b) k:=by
 refine⟨_,rfl,?_⟩;have:((⟨a.toArray⟩:ByteArray).toList==(⟨b.toArray⟩:ByteArray).toList)=decide (a=b):=by
  rw[<-beq_toListBytes,jn]
 rw[this];exact h
theorem ae.rX{a b:List UInt8}{k:zV->Prop}(hl:a.length+b.length<=9223372036854775807)(h:k (ag (a++b))):ae .str .add (ag a) (ag b) k:=by
 have e:(⟨a.toArray⟩:ByteArray)++⟨b.toArray⟩=⟨(a++b).toArray⟩:=by
  apply ByteArray.ext;simp
 refine⟨ag (a++b),?_,h⟩;unfold ag eL;have s1:(⟨a.toArray⟩:ByteArray).size=a.length:=by simp[ByteArray.size]
 have s2:(⟨b.toArray⟩:ByteArray).size=b.length:=by simp[ByteArray.size]
 simp only[s1,s2,hl,xaS,e]
theorem xE.nat{kd:IntKind}{a b:Nat}{k:zV->Prop}(h:k (.int kd ((min a b:Nat):Int))):xE (.int kd (a:Int)) (.int kd (b:Int)) k:=by
 refine⟨kd,a,b,rfl,rfl,?_⟩;have:(if(b:Int)<(a:Int)then(b:Int)else(a:Int))=((min a b:Nat):Int):=by split<;>omega
 rw[this];exact h
end Go.Sx
namespace Go.Proofs.Fm
structure Tok where
 k:Nat
 p:Nat
 v:Nat
def digit(b:UInt8):Bool:=decide (48<=b.toNat) &&decide (b.toNat<=57)
def num:Nat->Nat->List UInt8->Nat×Nat
 |n,k,[]=>(n,k)
 |n,k,b::r=>if digit b=false\/(k=1/\n=0)then(n,k)else num (min (10*n+(b.toNat-48)) 1048576) (k+1) r
def cR:List (List UInt8×Nat):=[([60,45,62],9),([45,62],8),([48],1),([49],2),([33],4),([38],5),([94],6),([124],7),([40],10),([41],11),([91],12),([63],13),([58],14),([93],15)]
def p0(l:List UInt8):List (List UInt8×Nat)->Option (Nat×Nat)
 | []=>none
 |s::r=>if s.1.isPrefixOf l=true then some (s.2,s.1.length)else p0 l r
def gw:List UInt8->Option (Nat×Nat)
 |b::r=>if b=120/\0<(num 0 0 r).2 then some ((num 0 0 r).1,(num 0 0 r).2+1)else none
 | []=>none
def cG(l:List UInt8):Nat×Nat×Nat:=
 match gw l with
 |some (n,w)=>(3,n,w)
 |none=>match p0 l cR with
  |some (k,w)=>(k,0,w)
  |none=>(16,0,0)
inductive dA:Nat->List UInt8->List Tok->Prop
 |fin {p:Nat}:dA p [] [⟨0,p,0⟩]
 |blank {p:Nat} {r:List UInt8} {o:List Tok}:dA (p+1) r o->dA p (32::r) o
 |wrong {p:Nat} {b:UInt8} {r:List UInt8}:b≠32->(cG (b::r)).1=16->dA p (b::r) [⟨16,p,0⟩]
 |tok {p:Nat} {b:UInt8} {r:List UInt8} {o:List Tok}:b≠32->(cG (b::r)).1≠16->dA (p+(cG (b::r)).2.2) ((b::r).drop (cG (b::r)).2.2) o->dA p (b::r) (⟨(cG (b::r)).1,p,(cG (b::r)).2.1⟩::o)
theorem dA.uniq{p:Nat}{l:List UInt8}{o o':List Tok}(h:dA p l o)(h':dA p l o'):o=o':=by
 induction h generalizing o' with
 |fin=>cases h';rfl
 |blank _ ih=>
  cases h' with
  |blank h=>exact ih h
  |wrong h=>exact absurd rfl h
  |tok h=>exact absurd rfl h
 |wrong hb h=>
  cases h' with
  |blank _=>exact absurd rfl hb
  |wrong _ _=>rfl
  |tok _ h2=>exact absurd h h2
 |tok hb h _ ih=>
  cases h' with
  |blank _=>exact absurd rfl hb
  |wrong _ h2=>exact absurd h2 h
  |tok _ _ h3=>rw[ih h3]
theorem dA.last{p:Nat}{l:List UInt8}{o:List Tok}(h:dA p l o):∃i t,o=i++[t]/\(t.k=0\/t.k=16)/\∀u∈i,u.k≠0/\u.k≠16:=by
 induction h with
 |fin=>exact⟨[],_,rfl,.inl rfl,nofun⟩
 |blank _ ih=>exact ih
 |wrong _ _=>exact⟨[],_,rfl,.inr rfl,nofun⟩
 | @tok p b r o hb h _ ih=>
  obtain⟨i,t,rfl,ht,hi⟩:=ih;refine⟨_::i,t,rfl,ht,λu hu=>?_⟩;rcases xag.1 hu with rfl|hu
  ·refine⟨?_,h⟩;show(cG (b::r)).1≠0;unfold cG;cases hx:gw (b::r)with
   |some q=>simp
   |none=>
    simp only;have hs:∀(L:List (List UInt8×Nat)),(∀s∈L,s.2≠0)->∀q,p0 (b::r) L=some q->q.1≠0:=by
     intro L;induction L with
     |nil=>intro _ q h;cases h
     |cons s L ih=>
      intro hL q h;unfold p0 at h;split at h
      ·cases h;exact hL s (.head _)
      exact ih (λs hs=>hL s (.tail _ hs)) q h
    cases hg:p0 (b::r) cR with
    |none=>simp
    |some q=>exact hs cR zD q hg
  ·exact hi u hu
theorem mw:∀(l:List UInt8) (n k:Nat),k<=(num n k l).2/\(num n k l).2<=k+l.length/\∀j,j<(num n k l).2-k->∃b,l[j]? =some b/\digit b=true
 | [],n,k=>⟨xal _,xal _,λj hj=>by simp[num]at hj⟩
 |b::r,n,k=>by
  unfold num;split
  ·exact⟨xal _,by simp,λj hj=>by simp at hj⟩
  rename_i h;obtain⟨h1,h2,h3⟩:=mw r (min (10*n+(b.toNat-48)) 1048576) (k+1);refine⟨by omega,by simp only[xak];omega,λj hj=>?_⟩;cases j with
  |zero=>exact⟨b,rfl,by simpa using λhd=>h (.inl hd)⟩
  |succ j=>exact h3 j zO
theorem Bb{b:UInt8}(h:digit b=true):b.toNat<128:=by
 unfold digit at h;simp only[xap,xaH]at h;omega
theorem r0{l:List UInt8}:∀(L:List (List UInt8×Nat)),(∀s∈L,s.1≠[]/\∀b∈s.1,b.toNat<128)->∀q,p0 l L=some q->1<=q.2/\q.2<=l.length/\∀j,j<q.2->∃b,l[j]? =some b/\b.toNat<128
 | [],_,q,h=>by cases h
 |s::L,hL,q,h=>by
  unfold p0 at h;split at h
  ·rename_i hp;cases h;obtain⟨t,rfl⟩:=List.isPrefixOf_iff_prefix.1 hp;obtain⟨h1,h2⟩:=hL s (.head _);have:1<=s.1.length:=by cases hs:s.1 with|nil=>exact absurd hs h1|cons a b=>simp
   refine⟨this,by simp,λj hj=>?_⟩;have hj:j<s.1.length:=hj;exact⟨s.1[j],by rw[xaM hj,xab hj],h2 _ (xaP hj)⟩
  exact r0 L (λs hs=>hL s (.tail _ hs)) q h
theorem lZ{l:List UInt8}(h:(cG l).1≠16):1<=(cG l).2.2/\(cG l).2.2<=l.length/\∀j,j<(cG l).2.2->∃b,l[j]? =some b/\b.toNat<128:=by
 unfold cG at h⊢;cases hx:gw l with
 |some q=>
  obtain⟨n,w⟩:=q;cases l with
  |nil=>simp[gw]at hx
  |cons b r=>
   by_cases hb:b=120/\0<(num 0 0 r).2
   ·rw[show gw (b::r)=some ((num 0 0 r).1,(num 0 0 r).2+1)from xaf hb]at hx;cases hx;obtain⟨h1,h2,h3⟩:=mw r 0 0;refine⟨by simp,by simp only[xak];omega,λj hj=>?_⟩;cases j with
    |zero=>exact⟨b,rfl,by rw[hb.1];decide⟩
    |succ j=>
     obtain⟨c,hc,hd⟩:=h3 j (by simp only at hj;omega);exact⟨c,hc,Bb hd⟩
   rw[show gw (b::r)=none from xac hb]at hx;cases hx
 |none=>
  rw[hx]at h;simp only at h⊢;cases hg:p0 l cR with
  |none=>rw[hg]at h;simp at h
  |some q=>exact r0 cR zD q hg
theorem B9{b:UInt8}{r:List UInt8}(h:128<=b.toNat):(cG (b::r)).1=16:=by
 cases Nat.decEq (cG (b::r)).1 16 with
 |isTrue h=>exact h
 |isFalse hn=>
  obtain⟨h1,_,h3⟩:=lZ hn;obtain⟨c,hc,hl⟩:=h3 0 zO;cases hc;omega
end Go.Proofs.Fm
set_option maxRecDepth 100000
namespace Go.Proofs
open Go Go.Sx Tryz
open Fm
abbrev nI(a:Nat):zV:=iv (a:Int)
theorem nH(a b:List UInt8):(decide (b.length<=a.length) &&decide (a.take b.length=b))=b.isPrefixOf a:=by
 rw[xcH,List.isPrefixOf_iff_prefix,List.prefix_iff_eq_take];simp only[xap,xaH];constructor
 ·rintro⟨_,h⟩;exact h.symm
 intro h;refine⟨?_,h.symm⟩;have:=xb7 List.length h;rw[xcd]at this;omega
theorem Cn(a b:List UInt8)(B:Hp):Rd zQ 121 #[ag a,ag b] B (· =.bool (b.isPrefixOf a)):=by
 refine aU λg=>uv (au.of (au.of (ae.nw (bO.and (decide (a.take b.length=b)) (λh=>?_) rfl λ_=>?_))))
 ·refine au.of (aG.gx (l:=a) (i:=0) (j:=b.length) rfl zK rfl (.inl ⟨rfl,rfl⟩) (.inr ⟨_,.i64,rfl,rfl⟩) (xaB _) (xcp h) ?_);exact ae.qj ⟨rfl,rfl⟩
 exact bH.mk (.refl _) (by rw[nH])
theorem ET(a b:List UInt8)(B:Hp):Rd zQ 70 #[ag a,ag b] B (· =.bool (b.isPrefixOf a)):=by
 refine aU λg=>xZ (aa.eq (Cn a b B) (bH.mk (.refl _) rfl))
theorem Ds(l:List UInt8)(hl:l.length<4611686018427387904)(B:Hp):Rd zQ 78 #[ag l] B (· =.tuple #[nI (num 0 0 l).1,nI (num 0 0 l).2]):=by
 refine aU λg=>xQ λJ1 h1=>?_;have fin:∀(n k:Nat) (H:Hp),aN H B->num 0 0 l=(n,k)->J1 [nI n,nI k] H:=λn k H he hn=>by
  refine h1 _ _ _ λ_=>?_;rw[hn];exact bH.mk he rfl
 refine cg.zj rfl zK rfl λb=>?_;refine⟨λvs H=>∃n k:Nat,vs=[nI n,nI k]/\k<=l.length/\n<=1048576/\num 0 0 l=num n k (l.drop k)/\H=(b,.stringIter ⟨l.toArray⟩ k)::B,λvs _=>l.length-dx vs 1,
  JE.mk ⟨0,0,rfl,xaB _,by decide,rfl,rfl⟩,?_⟩
 rintro w1 w2 H ⟨n,k,⟨⟩,hk,hn,he,rfl⟩ gs;refine cg.D6 (C:=B) (c:=λX=>X++B) rfl rfl (bu.left (C:=[_])) (λhlt=>?_) (λhge=>?_);rotate_left
 ·refine Ext.mk rfl (Br.no (JE.mk (fin n k _ .tail ?_)));rw[he,xaQ hge];rfl
 obtain⟨c,hc⟩:∃c,l[k]? =some c:=⟨_,xab hlt⟩;have hd:l.drop k=c::l.drop (k+1):=by
  rw[xaX hlt];rw[xab hlt]at hc;cases hc;rfl
 rw[hd]at he;refine Ext.mk rfl (Br.yes (Ext.mk rfl ?_));by_cases Dg:c.toNat<128
 ·rw[oB hc Dg];refine ae.dX (b:=48) (bO.or (decide (57<c.toNat)) (λ_=>ae.iU (b:=57) ⟨rfl,rfl⟩) rfl λ_=>?_);refine bO.or (decide (k=1) &&decide (n=0)) (λ_=>ae.bI (b:=1) (bO.and (decide (n=0)) (λ_=>ae.bI (b:=0) ⟨rfl,rfl⟩) rfl λ_=>⟨rfl,rfl⟩)) rfl λ_=>?_;have MG:digit c=false↔c.toNat<48\/57<c.toNat:=by
   unfold digit;rw[xcw,xaV,xaV];omega
  rw[<-xaR,<-xdE,<-xaR];refine Br.dec (λhs=>?_) (λhs=>?_)
  ·refine JE.mk (fin n k _ .tail ?_);rw[he];unfold num;exact xaf (by rw[MG];omega)
  refine ae.g7 (a:=10) (by simp only[bY];omega) (ae.e7 (b:=48) (by simp only[bY];omega) zO (aM.q (ae.eo (by simp only[bY];omega) (xE.nat (b:=1048576) ?_))));refine ae.inc (aI.of (.refl _) ⟨min (10*n+(c.toNat-48)) 1048576,k+1,rfl,hlt,Nat.min_le_right ..,?_,rfl⟩ (by simp only[dx];omega));rw[he]
  conv=>lhs;unfold num
  rw[xac (by rw[MG];omega)]
 obtain⟨h2,h3,h4⟩:=oC hc zO;generalize Utf8.decode ⟨l.toArray⟩ k=d at h2 h3 h4⊢;refine ae.dX (b:=48) (bO.or (decide (57<d.1)) (λ_=>ae.iU (b:=57) ⟨rfl,rfl⟩) rfl λ_=>?_);refine bO.or (decide (k=1) &&decide (n=0)) (λ_=>ae.bI (b:=1) (bO.and (decide (n=0)) (λ_=>ae.bI (b:=0) ⟨rfl,rfl⟩) rfl λ_=>⟨rfl,rfl⟩)) rfl λ_=>?_;rw[<-xaR,<-xdE,<-xaR];refine Br.T (JE.mk (fin n k _ .tail ?_)) zO;have OF:digit c=false:=by
  unfold digit;rw[xcw,xaV,xaV];omega
 rw[he];unfold num;exact xaf (.inl OF)
end Go.Proofs
namespace Go.Sx
open Go
section
variable {P:Program} {g:Gh} {H:Hp} {K:zV->Hp->Prop} {KP:List PanicEntry->Hp->Prop}
def lT(Q:zV->Hp->Prop)(QP:List PanicEntry->Hp->Prop):Ending->Hp->Prop:=λe H'=>(∃v dP,e=.returned v/\aN H' dP/\Q v dP)\/∃c dP,e=.panicked c/\aN H' dP/\QP c dP
def F3(P:Program)(f:FuncId)(args:Array zV)(C:Hp)(Q:zV->Hp->Prop)(QP:List PanicEntry->Hp->Prop):Prop:=∀g,aX P g f args C (lT Q QP)
theorem Im{f:FuncId}{args:Array zV}{C:Hp}{Q:zV->Hp->Prop}{QP:List PanicEntry->Hp->Prop}(h:∀g,aX P g f args C (lT Q QP)):F3 P f args C Q QP:=h
theorem lT.ret{Q:zV->Hp->Prop}{QP:List PanicEntry->Hp->Prop}{v:zV}{H dP:Hp}(he:aN H dP)(h:Q v dP):lT Q QP (.returned v) H:=.inl ⟨v,dP,rfl,he,h⟩
theorem lT.r7{Q:zV->Hp->Prop}{QP:List PanicEntry->Hp->Prop}{c:List PanicEntry}{H dP:Hp}(he:aN H dP)(h:QP c dP):cP (lT Q QP) c H:=λ_=>.inr ⟨c,dP,rfl,he,h⟩
theorem aa.fp{f:FuncId}{args:Array zV}{C H:Hp}{c:Hp->Hp}{Q:zV->Hp->Prop}{QP:List PanicEntry->Hp->Prop}(hh:bu C H c)(hc:F3 P f args C Q QP)
 (hk:∀v C',Q v C'->K v (c C'))(hp:∀ch C',QP ch C'->KP ch (c C')):aa P g f args H K KP:=
 (aX.hole hh hc).post λe H' ⟨C',h1,h⟩=>by
  rcases h with⟨v,IP,h2,h3,h4⟩|⟨v,IP,h2,h3,h4⟩
  ·exact⟨c IP,by rw[h1];exact hh.eS h3,by subst h2;exact hk _ _ h4⟩
  exact⟨c IP,by rw[h1];exact hh.eS h3,by subst h2;exact hp _ _ h4⟩
theorem bT.tail{k:Nat}{B:Hp}{v:zV}{r:List zV}{rs:List (List zV)}{K:zV->Prop}(h:Sl k B v (r::rs))(hk:∀v',Sl k B v' rs->K v'):bT k v (some (.int .i64 1)) none K:=by
 obtain⟨h0,h⟩:=h;rcases h with⟨_,_,_,h⟩|⟨b,o,cap,c,T,fz,rfl,h2,h3,h4,h5⟩
 ·cases h
 have hl:(r::rs).length=rs.length+1:=rfl;refine⟨some ⟨b,o,none⟩,(r::rs).length,cap,1,(((r::rs).length:Nat):Int),rfl,rfl,rfl,by decide,by omega,by omega,hk _ ⟨λx hx=>h0 x (.tail _ hx),?_⟩⟩;rw[show(((r::rs).length:Nat):Int).toNat-(1:Int).toNat=rs.length by omega];by_cases h1:cap=1
 ·have hn:rs=[]:=xcf.1 zO;subst hn;exact .inl ⟨_,_,rfl,rfl⟩
 rw[xac (by show¬cap=1;exact h1)];refine .inr ⟨b,o+1*k,cap-1,c,T,fz,?_,?_,h3,?_,λi r' hr j v hj=>?_⟩
 ·simp[Addr.add]
 ·show rs.length<=cap-1;omega
 ·rw[hl,xbi]at h4;omega
 have:=h5 (i+1) r' (by simpa using hr) j v hj;rw[xbi]at this;rw[<-this];congr 1;omega
def kD:Nat->List zV->List (Nat×zV)
 |_,[]=>[]
 |i,x::rs=>(i,x)::kD (i+1) rs
theorem nE{x:zV}(hx:x.oneCell'=true):x.cells=#[x]:=by cases x<;>first|rfl|(simp[Value.oneCell']at hx)
theorem k6:∀(rs:List zV) (i:Nat) (pre ax:List zV),(∀r∈rs,r.oneCell'=true)->pre.length=i->ax.length=rs.length->fD (λi=>some (i*1,1)) (pre++ax) (kD i rs)=some (pre++rs)
 | [],i,pre,ax,_,_,hj=>by
  have:ax=[]:=xcf.1 hj;subst this;simp[kD,fD]
 |r::rs,i,pre,ax,hr,hp,hj=>by
  have hc:=nE (hr r (.head _));cases ax with
  |nil=>simp at hj
  |cons y ax=>
   simp only[kD,fD,hc,xbW];have hb:(Nat.beq (#[r]:Array zV).toList.length 1&&Nat.ble (i+(#[r]:Array zV).toList.length) (pre++y::ax).length)=true:=by
    have e1:(#[r]:Array zV).toList.length=1:=rfl;rw[e1,xan,xak];simp;omega
   rw[hb,xaj];have h2:kP (pre++y::ax) i (#[r]:Array zV).toList=(pre++[r])++ax:=by
    subst hp;have h1:=fN [r] (pre++y::ax) pre.length zI;rw[eB]at h1;have:=xb7 Array.toList h1;simp only at this;rw[this];simp
   have:=k6 rs (i+1) (pre++[r]) ax (λx hx=>hr x (.tail _ hx)) (by simp[hp]) (by simpa using hj);simp only[xbW]at this;rw[h2,this];simp
theorem aj.kC{t e:TypeId}{z:zV}(rs:List zV){len:Nat}{parts:List (Nat×zV)}{K:zV->Hp->Prop}(h1:P.underlying t=some (.slice e))(h2:bL P e=some 1)(h3:c8 P e=some z)(hk:rs.length<=16777216)(hr:∀r∈rs,r.oneCell'=true)
 (hl:rs.length=len)(hp:kD 0 rs=parts)(h:∀b,K (.slice (some ⟨b,0,Option.none⟩) len len) ((b,.cells rs.toArray e zZ)::H)):aj P t len parts H K:=by
 subst hl hp;refine⟨rs.toArray,e,1,z,h1,h2,h3,by omega,?_,λb _=>h b⟩;have:((Array.range (rs.length*1)).map (z.cells[· %z.cells.size]!))=(((Array.range (rs.length*1)).map (z.cells[· %z.cells.size]!)).toList).toArray:=by rw[xbM]
 rw[this];refine eH _ _ _ ?_;exact k6 rs 0 [] _ hr rfl zI
def zc(P:Program)(T:TypeId):Bool:=match P.underlying T with
 |some (.interface _)=>false
 |some _=>true
 |Option.none=>false
theorem aG.DE{o:Oper}{ρ:Operand->zV}{k:zV->Prop}{x:Operand}{xT T:TypeId}{v:zV}(ho:o.op=.typeAssert x xT T true)(hx:ρ x=.iface T v)(hd:zc P T=true)
 (hk:k (.tuple #[v,.bool true])):aG P g o ρ H k:=by
 unfold zc at hd;cases hu:P.underlying T with
 |none=>rw[hu]at hd;cases hd
 |some d=>
  refine aG.assert ho hx hu (λm h=>?_) hk;subst h;rw[hu]at hd;cases hd
end
end Go.Sx
namespace Go.Sx
open Go
section
variable {P:Program} {g:Gh} {H:Hp} {K:zV->Hp->Prop} {KP:List PanicEntry->Hp->Prop}
theorem aG.E0{o:Oper}{ρ:Operand->zV}{k:zV->Prop}{x y:Operand}{t yt te:TypeId}{a:Addr}{n:Nat}(ho:o.op=.binOp .neq t x y yt)(hx:ρ x=.pointer (some a))(hy:ρ y=.pointer (some a))(hd:P.underlying t=some (.pointer te))(hj:bL P te=some n)
 (hk:k (.bool false)):aG P g o ρ H k:=by
 obtain⟨j,hj,_⟩:=aD hj;refine⟨_,λw _=>?_,hk⟩;have e1:eqGuard .neq t x y (.pointer (some a)) (.pointer (some a))=pure ():=rfl;have e2:=Lib.run_neq_ptr_same (P:=P) w a hd hj;simp only[execOp,ho,hx,hy,e1,Sem.run_bind,Sem.run_pure,Result.andThen_ok,e2]
theorem aG.toUnsafe{o:Oper}{ρ:Operand->zV}{k:zV->Prop}{x:Operand}{src dst t T:TypeId}{b:Nat}{c:Array zV}{fz:Nat×Nat}{n:Nat}(ho:o.op=.convert src dst x)(hx:ρ x=.pointer (some ⟨b,0,none⟩))(hm:(b,Obj.cells c T fz)∈H)(hc:0<c.size)
 (hs:P.underlying src=some (.pointer t))(hd:P.underlying dst=some .unsafePointer)(hj:bL P t=some n)(hz:n≠0)(hk:k (.pointer (some ⟨b,0,none⟩))):aG P g o ρ H k:=by
 obtain⟨j,hj',rfl⟩:=aD hj;refine⟨_,λw hw=>?_,hk⟩;have:=Lib.run_to_unsafe (P:=P) w ⟨b,0,none⟩ hs hd hj' hz (hw.shape hm) hc;simp only[execOp,ho,hx,Sem.run_bind,this,Result.andThen_ok,Sem.run_pure]
theorem aG.zo{o:Oper}{ρ:Operand->zV}{k:zV->Prop}{x:Operand}{src dst u T:TypeId}{b:Nat}{c:Array zV}{fz:Nat×Nat}{n:Nat}(ho:o.op=.convert src dst x)(hx:ρ x=.pointer (some ⟨b,0,none⟩))(hm:(b,Obj.cells c T fz)∈H)
 (hs:P.underlying src=some .unsafePointer)(hd:P.underlying dst=some (.pointer u))(hj:bL P u=some n)(hl:liesAt P P.depth T (c.size/P.cellsOf T) 0 u 1=true)(hk:k (.pointer (some ⟨b,0,none⟩))):aG P g o ρ H k:=by
 obtain⟨j,hj,_⟩:=aD hj;refine⟨_,λw hw=>?_,hk⟩;have:=Lib.run_from_unsafe (P:=P) w ⟨b,0,none⟩ hs hd hj (hw.shape hm) hl;simp only[execOp,ho,hx,Sem.run_bind,this,Result.andThen_ok,Sem.run_pure]
theorem cg.same{o:Oper}{ρ:Operand->zV}{x:Operand}{f:FuncId}{fn:Func}{ts:Array TypeId}(ho:o.op=.call ⟨.value (.func f),#[x],ts⟩)(hf:P.funcs[f]? =some fn)(hname:(fn.name== "runtime.NumGoroutine")=false)
 (hb:fn.body.isNone=true)(hn:Extern.findNext fn=none)(he:Extern.find fn=some Extern.AbiNoEscape.same)(hr:∀f,ρ (.func f)=.func (.func f) #[] #[])(hk:K (ρ x) H):cg P g o ρ H K KP:=by
 intro w hw;have e:=run_callFunc_extern (P:=P) hf hname hb hn he #[ρ x] w;rw[Lib.run_noEscape]at e;have:(execOp ρ o).run P w=.ok (.value (ρ x)) w:=by
  simp only[execOp,ho,resolve,hr];simpa[Deferred.ofValue,invoke]using e
 rw[this];exact⟨H,hw,hk⟩
theorem mU(l:List UInt8):∀r∈cM l,r.length=1:=λr hr=>by
 unfold cM at hr;obtain⟨b,_,rfl⟩:=xaq.1 hr;rfl
theorem oF(l:List UInt8):(cM l).flatten=l.map λb=>Value.int .u8 b.toNat:=by
 have:=we l;unfold rows at this;exact xb7 Array.toList this
theorem strCells_eq(l:List UInt8):Lib.strCells ⟨l.toArray⟩=(cM l).flatten:=by rw[oF];rfl
theorem vw:∀(rs:List (List zV)),(∀r∈rs,r.length=1)->rs.flatten.length=rs.length
 | [],_=>rfl
 |r::rs,h=>by
  rw[xbz,xan,vw rs λx hx=>h x (.tail _ hx),h r (.head _),xak,xcs]
theorem Ea:∀(l:List zV),∃js:List (List zV),js.flatten=l/\∀r∈js,r.length=1
 | []=>⟨[],rfl,nofun⟩
 |x::l=>by
  obtain⟨js,h1,h2⟩:=Ea l;exact⟨[x]::js,by rw[xbz,h1];rfl,λr hr=>by
   cases hr with
   |head=>rfl
   |tail _ h=>exact h2 r h⟩
theorem cg.vX{o:Oper}{ρ:Operand->zV}{x:Operand}{t:TypeId}{a:Addr}{n c:Nat}(ho:o.op=.call ⟨.builtin .unsafeSliceData,#[x],#[t]⟩)(hx:ρ x=.slice (some a) n c)(hc:c≠0)(hk:K (.pointer (some a)) H):cg P g o ρ H K KP:=by
 refine cg.ofValue (s:=Builtin.unsafeSliceData_ #[t] o.type #[.slice (some a) n c]) (by simp[execOp,ho,hx,resolve,invoke,builtin,bind,Sem.bind];rfl) λw hw=>?_;exact⟨_,w,H,Lib.run_unsafeSliceData_row w _ _ _ _ _ hc,hw,hk⟩
end
end Go.Sx
namespace Go.Sx
open Go
section
variable {P:Program} {g:Gh} {H:Hp}
def mV:Nat->List (List zV)->List (Nat×zV)
 |_,[]=>[]
 |i,r::rs=>(i,.agg r.toArray)::mV (i+1) rs
theorem mP{k:Nat}:∀(rs:List (List zV)) (i:Nat) (pre ax:List zV),(∀r∈rs,r.length=k)->pre.length=i*k->ax.length=rs.length*k->fD (λi=>some (i*k,k)) (pre++ax) (mV i rs)=some (pre++rs.flatten)
 | [],i,pre,ax,_,_,hj=>by
  have:ax=[]:=xcf.1 (by simpa using hj);subst this;simp[mV,fD]
 |r::rs,i,pre,ax,hr,hp,hj=>by
  have Kk:=hr r (xdl ..);have Db:ax.length=k+rs.length*k:=by rw[hj,xak,xbi,xcs]
  simp only[mV,fD,Value.cells];have hb:(Nat.beq r.toArray.toList.length k&&Nat.ble (i*k+r.toArray.toList.length) (pre++ax).length)=true:=by
   have e1:r.toArray.toList.length=k:=Kk;rw[e1,xan];simp;omega
  rw[hb,xaj];have h1:=fN r (pre++ax) (i*k) (by rw[xan];omega);rw[eB]at h1;have h2:kP (pre++ax) (i*k) r=pre++r++ax.drop k:=by
   have:=xb7 Array.toList h1;simp only at this;rw[this,<-hp];simp[List.take_append,Kk,xcD]
  show fD _ (kP (pre++ax) (i*k) r) _=_;rw[h2,mP rs (i+1) (pre++r) (ax.drop k) (λx hx=>hr x (xb6 _ hx)) (by rw[xan,hp,Kk,xbi]) (by rw[xbw];omega)];simp
theorem aj.many{t e k:Nat}{z:zV}(rs:List (List zV)){len:Nat}{parts:List (Nat×zV)}{K:zV->Hp->Prop}(h1:P.underlying t=some (.slice e))(h2:bL P e=some k)(h3:c8 P e=some z)(hk:rs.length*k<=16777216)(hr:∀r∈rs,r.length=k)
 (hl:rs.length=len)(hp:mV 0 rs=parts)(h:∀b,K (.slice (some ⟨b,0,Option.none⟩) len len) ((b,.cells (rows rs) e zZ)::H)):aj P t len parts H K:=by
 subst hl hp;refine⟨rows rs,e,k,z,h1,h2,h3,by omega,?_,λb _=>h b⟩;have:((Array.range (rs.length*k)).map (z.cells[· %z.cells.size]!))=(((Array.range (rs.length*k)).map (z.cells[· %z.cells.size]!)).toList).toArray:=by rw[xbM]
 rw[this];generalize hc:((Array.range (rs.length*k)).map (z.cells[· %z.cells.size]!)).toList=c;have hlen:c.length=rs.length*k:=by rw[<-hc];simp
 refine eH _ _ _ ?_;have:=mP rs 0 [] c hr zI hlen;simpa using this
theorem br.look{κ β:Type}[DecidableEq κ]{ke:κ->zV}{vr:zV->β->Prop}{es:Array MapEntry}{ck b:Nat}{m:List (κ×β)}{kd:TypeDesc}{zero:zV}{ok:Bool}{k:κ}{K:zV->Prop}(hk:∀a b,Instr.sameNow kd (ke a) (ke b)=some (decide (a=b)))(h:br ke vr es ck m)(hm:(b,Obj.map es ck)∈H)
 (h1:∀x v,bR m k=some x->vr v x->K (cond ok (.tuple #[v,.bool true]) v))(h2:bR m k=none->K (cond ok (.tuple #[zero,.bool false]) zero)):lR kd zero ok H (.map (some b)) (ke k) K:=by
 cases hx:bR m k with
 |none=>exact h.wx hk hm hx (h2 hx)
 |some x=>exact h.hit hk hm hx λv hv=>h1 x v hx hv
end
end Go.Sx
namespace Go.Sx
open Go
section
variable {P:Program} {g:Gh} {H:Hp} {K:zV->Hp->Prop}
theorem aY.of{l:List UInt8}{i:Nat}{kd:IntKind}{b:UInt8}{k:zV->Prop}(h:l[i]? =some b)(hk:k (.int .u8 (b.toNat:Int))):aY (ag l) (.int kd (i:Int)) k:=by
 refine⟨_,kd,i,b,rfl,rfl,xbs _,?_,hk⟩;rw[xb3];obtain⟨hi,rfl⟩:=xae.1 h;have sz:(⟨l.toArray⟩:ByteArray).size=l.length:=by simp[ByteArray.size]
 rw[getElem?_pos (⟨l.toArray⟩:ByteArray) i (by rw[sz];exact hi)];rfl
theorem aG.pV{o:Oper}{ρ:Operand->zV}{k:zV->Prop}{x:Operand}{t e:TypeId}{lo hi:Option Operand}{b n i j:Nat}(ho:o.op=.slice t x lo hi none)(hd:P.underlying t=some (.array n e))(hz:bL P e=some 1)(hx:ρ x=.pointer (some ⟨b,0,none⟩))
 (hlo:(lo=none/\i=0)\/∃q kd,lo=some q/\ρ q=.int kd (i:Int))(hhi:(hi=none/\j=n)\/∃q kd,hi=some q/\ρ q=.int kd (j:Int))(hij:i<=j)(hj:j<=n)(hin:i<n)(hk:k (.slice (some ⟨b,i,none⟩) (j-i) (n-i))):aG P g o ρ H k:=by
 refine⟨_,λw _=>?_,hk⟩;obtain⟨inf,wQ,hs⟩:=aD hz;have hne:¬n=i:=by omega
 have b1:∀kd cd,(Instr.sliceBound (.int kd (i:Int)) j cd).run P w=.ok i w:=λkd cd=>by simp[Instr.sliceBound,asIntOf,hij]
 have b2:∀kd cd,(Instr.sliceBound (.int kd (j:Int)) n cd).run P w=.ok j w:=λkd cd=>by simp[Instr.sliceBound,asIntOf,hj]
 have ha:(Addr.add ⟨b,0,none⟩ (i*1))=⟨b,i,none⟩:=by rw[Addr.add_lit];simp
 have:(Instr.sliceAt t (.pointer (some ⟨b,0,none⟩)) (lo.map ρ) (hi.map ρ) none).run P w=.ok (.slice (some ⟨b,i,none⟩) (j-i) (n-i)) w:=by
  rcases hlo with⟨rfl,rfl⟩|⟨q,kd,rfl,hq⟩<;>rcases hhi with⟨rfl,rfl⟩|⟨q2,NP,rfl,wO⟩
  ·simp only[Instr.sliceAt,Instr.sureAddr,Instr.sliceBounds,Sem.run_bind,run_underlying hd,run_sizeOf wQ,hs,Result.andThen_ok,xbo,xa9,xbv,xas,xaD,Sem.run_pure,b1,b2,xac hne,ha]
  ·simp only[Instr.sliceAt,Instr.sureAddr,Instr.sliceBounds,Sem.run_bind,run_underlying hd,run_sizeOf wQ,hs,Result.andThen_ok,xbo,xa9,xbv,xas,xaD,Sem.run_pure,b1,b2,wO,xac hne,ha]
  ·simp only[Instr.sliceAt,Instr.sureAddr,Instr.sliceBounds,Sem.run_bind,run_underlying hd,run_sizeOf wQ,hs,Result.andThen_ok,xbo,xa9,xbv,xas,xaD,Sem.run_pure,b1,b2,hq,xac hne,ha]
  simp only[Instr.sliceAt,Instr.sureAddr,Instr.sliceBounds,Sem.run_bind,run_underlying hd,run_sizeOf wQ,hs,Result.andThen_ok,xbo,xa9,xbv,xas,xaD,Sem.run_pure,b1,b2,hq,wO,xac hne,ha]
 simp only[execOp,ho,hx,Sem.run_bind,xbo,this,Result.andThen_ok,Sem.run_pure]
theorem dD.cut{b o n c:Nat}{cs:Array zV}{T:TypeId}{fz:Nat×Nat}{l:List UInt8}{K:zV->Prop}(hm:(b,Obj.cells cs T fz)∈H)(hn:l.length=n)(h0:0<n)(hc:∀j u,l[j]? =some u->cs[o+j]? =some (.int .u8 (u.toNat:Int)))(hk:K (ag l)):dD H (.slice (some ⟨b,o,none⟩) n c) K:=by
 refine⟨_,n,c,l,rfl,?_,hn,hk⟩;have hl:n-1<l.length:=by omega
 have h1:=hc (n-1) _ (xab hl);have h2:o+(n-1)<cs.size:=(xaz.1 h1).1;refine .inr ⟨rfl,cs,T,fz,hm,by show o+n<=cs.size;omega,?_⟩;refine Array.ext (by rw[Array.size_extract];simp;omega) λj h3 h4=>?_;have h5:j<l.length:=by simpa using h3
 have h6:=hc j _ (xab h5);obtain⟨h7,h8⟩:=xaz.1 h6;rw[xc5];simp only[List.getElem_toArray,List.getElem_map];exact h8.symm
end
end Go.Sx
namespace Go.Proofs.Fm
inductive Tr
 |c(k:Nat)
 |v(n:Nat)
 |no(a:Tr)
 |bin(k:Nat)(a b:Tr)
 |ite(a b c:Tr)
inductive Rs
 |ok(t:Tr)(l:List Tok)
 |bad(p e:Nat)
inductive Gl
 |jT(lv dp:Nat)(l:List Tok)
 |more(lv dp:Nat)(a:Tr)(l:List Tok)
 |tight(dp:Nat)(l:List Tok)
inductive Pl
 |done(r:Rs)
 |call(g:Gl)(k:Rs->Pl)
def Rs.thn(r:Rs)(f:Tr->List Tok->Pl):Pl:=
 match r with
 | .ok t l=>f t l
 | .bad p e=>.done (.bad p e)
def Rs.cI(r:Rs)(k:Nat)(f:Tr->List Tok->Pl):Pl:=r.thn λt l=>
 match l with
 | []=>.done (.bad 0 14)
 |x::l'=>if x.k=k then f t l' else .done (.bad x.p 14)
def dL:Nat->Nat
 |0=>9
 |1=>8
 |2=>7
 |3=>6
 |_=>5
def fi(n:Nat):Gl->Pl
 | .jT lv dp l=>if lv=5 then .call (.tight dp l) .done else .call (.jT (lv+1) dp l) λr=>r.thn λa l1=>.call (.more lv dp a l1) .done
 | .more lv dp a []=>.done (.bad 0 14)
 | .more lv dp a (x::l)=>
  if x.k=dL lv then
   if dL lv=8 then .call (.jT lv dp l) λr=>r.thn λb l2=>.done (.ok (.bin 8 a b) l2)
   else .call (.jT (lv+1) dp l) λr=>r.thn λb l2=>.call (.more lv dp (.bin (dL lv) a b) l2) .done
  else .done (.ok a (x::l))
 | .tight dp []=>.done (.bad 0 14)
 | .tight dp (x::l)=>
  if x.k=1\/x.k=2 then .done (.ok (.c x.k) l)
  else if x.k=3 then(if n<=x.v then .done (.bad x.p 2)else .done (.ok (.v x.v) l))
  else if x.k=4 then(if 1000<=dp then .done (.bad x.p 7)else .call (.tight (dp+1) l) λr=>r.thn λa l2=>.done (.ok (.no a) l2))
  else if x.k=10 then(if 1000<=dp then .done (.bad x.p 7)else .call (.jT 0 (dp+1) l) λr=>r.cI 11 λa l2=>.done (.ok a l2))
  else if x.k=12 then(if 1000<=dp then .done (.bad x.p 7)else .call (.jT 0 (dp+1) l) λr=>r.cI 13 λa l2=>.call (.jT 0 (dp+1) l2) λr=>r.cI 14 λb l3=>.call (.jT 0 (dp+1) l3) λr=>r.cI 15 λc l4=>.done (.ok (.ite a b c) l4))
  else .done (.bad x.p 14)
inductive Ev(n:Nat):Pl->Rs->Prop
 |done {r:Rs}:Ev n (.done r) r
 |call {g:Gl} {k:Rs->Pl} {r r2:Rs}:Ev n (fi n g) r->Ev n (k r) r2->Ev n (.call g k) r2
theorem Ev.uniq{n:Nat}{p:Pl}{r r':Rs}(h:Ev n p r)(h':Ev n p r'):r=r':=by
 induction h generalizing r' with
 |done=>cases h';rfl
 |call _ _ i1 i2=>
  cases h' with
  |call a b=>
   have:=i1 a;subst this;exact i2 b
def Rs.fit:Rs->Prop
 | .ok _ _=>True
 | .bad _ e=>e≠0
inductive Pl.Fit:Pl->Prop
 |done {r:Rs}:r.fit->Fit (.done r)
 |call {g:Gl} {k:Rs->Pl}:(∀r,r.fit->Fit (k r))->Fit (.call g k)
theorem Pl.Fit.thn{r:Rs}{f:Tr->List Tok->Pl}(hr:r.fit)(h:∀t l,Fit (f t l)):Fit (r.thn f):=by
 cases r with
 |ok t l=>exact h t l
 |bad p e=>exact .done hr
theorem Pl.Fit.cI{r:Rs}{k:Nat}{f:Tr->List Tok->Pl}(hr:r.fit)(h:∀t l,Fit (f t l)):Fit (r.cI k f):=by
 refine .thn hr λt l=>?_;cases l with
 |nil=>exact .done (by show(14:Nat)≠0;decide)
 |cons x l=>
  show Fit (if x.k=k then _ else _);split
  ·exact h t l
  exact .done (by show(14:Nat)≠0;decide)
theorem zm(n:Nat)(g:Gl):(fi n g).Fit:=by
 have D:∀(p e:Nat),e≠0->Pl.Fit (.done (.bad p e)):=λp e h=>.done h;have O:∀t l,Pl.Fit (.done (.ok t l)):=λt l=>.done trivial;cases g with
 |jT lv dp l=>
  show Pl.Fit (if lv=5 then _ else _);split
  ·exact .call λr h=>.done h
  exact .call λr h=>.thn h λt l=>.call λr h=>.done h
 |more lv dp a l=>
  cases l with
  |nil=>exact D _ _ zD
  |cons x l=>
   show Pl.Fit (if x.k=dL lv then(if dL lv=8 then _ else _)else _);split
   ·split
    ·exact .call λr h=>.thn h λt l=>O _ _
    exact .call λr h=>.thn h λt l=>.call λr h=>.done h
   exact O _ _
 |tight dp l=>
  cases l with
  |nil=>exact D _ _ zD
  |cons x l=>
   unfold fi
   repeat' split
   all_goals first
    |exact O _ _
    |exact D _ _ zD
    |exact .call λr h=>.thn h λt l=>O _ _
    |exact .call λr h=>.cI h λt l=>O _ _
    |exact .call λr h=>.cI h λt l=>.call λr h=>.cI h λt l=>.call λr h=>.cI h λt l=>O _ _
    |exact .call λr h=>.done h
    |exact .call λr h=>.thn h λt l=>.call λr h=>.done h
theorem Ev.fit{n:Nat}{p:Pl}{r:Rs}(h:Ev n p r)(hp:p.Fit):r.fit:=by
 induction h with
 |done=>cases hp with|done h=>exact h
 |call _ _ i1 i2=>cases hp with|call h=>exact i2 (h _ (i1 (zm n _)))
def jS(l:List Tok):Prop:=∃i t,l=i++[t]/\(t.k=0\/t.k=16)/\∀u∈i,u.k≠0/\u.k≠16
theorem jS.tail{x:Tok}{l:List Tok}(h:jS (x::l))(h0:x.k≠0)(h1:x.k≠16):jS l:=by
 obtain⟨i,t,e,ht,hi⟩:=h;cases i with
 |nil=>
  simp only[xaU,xbb]at e;obtain⟨rfl,rfl⟩:=e;omega
 |cons y i=>
  simp only[xaF,xbb]at e;obtain⟨rfl,rfl⟩:=e;exact⟨i,t,rfl,ht,λu hu=>hi u (.tail _ hu)⟩
theorem jS.split{l:List Tok}(h:jS l):∃x l',l=x::l':=by
 obtain⟨i,t,rfl,_⟩:=h;cases i with
 |nil=>exact⟨_,_,rfl⟩
 |cons y i=>exact⟨_,_,rfl⟩
inductive Reads(n:Nat)(l:List UInt8):Rs->Prop
 |wA:65536<l.length->Reads n l (.bad 0 13)
 |mk {o:List Tok} {r:Rs}:l.length<=65536->dA 0 l o->Ev n (.call (.jT 0 0 o) λr=>r.cI 0 λt l'=>.done (.ok t l')) r->Reads n l r
theorem Reads.fit{n:Nat}{l:List UInt8}{p e:Nat}(h:Reads n l (.bad p e)):e≠0:=by
 cases h with
 |wA _=>decide
 |mk _ _ h=>exact h.fit (.call λr hr=>.cI hr λt l=>.done trivial)
theorem Reads.uniq{n:Nat}{l:List UInt8}{r r':Rs}(h:Reads n l r)(h':Reads n l r'):r=r':=by
 cases h with
 |wA h=>
  cases h' with
  |wA _=>rfl
  |mk h' _ _=>omega
 |mk h h1 h2=>
  cases h' with
  |wA h'=>omega
  |mk _ h3 h4=>
   have:=h1.uniq h3;subst this;exact h2.uniq h4
end Go.Proofs.Fm
namespace Go.Proofs.Fm
def Tr.kids:Tr->List Tr
 | .no a=>[a]
 | .bin _ a b=>[a,b]
 | .ite a b d=>[a,b,d]
 |_=>[]
def Tr.kd:Tr->Nat
 | .c k=>k
 | .v _=>3
 | .no _=>4
 | .bin k _ _=>k
 | .ite .. =>12
def Tr.vl:Tr->Nat
 | .v n=>n
 |_=>0
def EW(k:Nat):Nat:=if k=5 then 8 else if k=6 then 6 else if k=7 then 14 else if k=8 then 11 else 9
def Tr.fn:Tr->Nat->Bool
 | .c k=>λ_=>decide (k=2)
 | .v n=>λx=>x.testBit n
 | .no a=>λx=> !a.fn x
 | .bin k a b=>λx=>(EW k).testBit (2*(a.fn x).toNat+(b.fn x).toNat)
 | .ite a b d=>λx=>if a.fn x then b.fn x else d.fn x
def Tr.Fit(n:Nat):Tr->Prop
 | .c k=>k=1\/k=2
 | .v m=>m<n
 | .no a=>a.Fit n
 | .bin k a b=>(5<=k/\k<=9)/\a.Fit n/\b.Fit n
 | .ite a b d=>a.Fit n/\b.Fit n/\d.Fit n
def Tr.dF:Tr->Nat
 | .c _=>1
 | .v _=>1
 | .no a=>a.dF
 | .bin _ a b=>a.dF+b.dF
 | .ite a b d=>a.dF+b.dF+d.dF
theorem Tr.dW:∀t:Tr,1<=t.dF
 | .c _=>xal _
 | .v _=>xal _
 | .no a=>a.dW
 | .bin _ a b=>xbF a.dW (by show a.dF<=a.dF+b.dF;omega)
 | .ite a b d=>xbF a.dW (by show a.dF<=a.dF+b.dF+d.dF;omega)
def Tr.dS:Tr->(Nat->Bool)->Prop
 | .c k=>λg=>g=(Tr.c k).fn
 | .v n=>λg=>g=(Tr.v n).fn
 | .no a=>λg=>g=(Tr.no a).fn\/a.dS g
 | .bin k a b=>λg=>g=(Tr.bin k a b).fn\/a.dS g\/b.dS g
 | .ite a b d=>λg=>g=(Tr.ite a b d).fn\/a.dS g\/b.dS g\/d.dS g
theorem Tr.nV(t:Tr):t.dS t.fn:=by
 cases t<;>first|exact rfl|exact Or.inl rfl
theorem Tr.qi{t k:Tr}(h:k∈t.kids){g:Nat->Bool}(hg:k.dS g):t.dS g:=by
 cases t with
 |c=>cases h
 |v=>cases h
 |no a=>
  simp only[Tr.kids,xag,xax,xa3]at h;subst h;exact Or.inr hg
 |bin k a b=>
  simp only[Tr.kids,xag,xax,xa3]at h;rcases h with rfl|rfl
  ·exact Or.inr (Or.inl hg)
  exact Or.inr (Or.inr hg)
 |ite a b d=>
  simp only[Tr.kids,xag,xax,xa3]at h;rcases h with rfl|rfl|rfl
  ·exact Or.inr (Or.inl hg)
  ·exact Or.inr (Or.inr (Or.inl hg))
  exact Or.inr (Or.inr (Or.inr hg))
def Gl.pre(n:Nat):Gl->Prop
 | .more _ _ a _=>a.Fit n
 |_=>True
def Gl.cap:Gl->Nat
 | .jT _ _ l=>l.length+1
 | .more _ _ a l=>2*a.dF+l.length
 | .tight _ l=>l.length+1
def Rs.good(n c:Nat):Rs->Prop
 | .ok t l=>t.Fit n/\2*t.dF+l.length<=c
 | .bad _ _=>True
inductive Pl.Wt(n:Nat):Nat->Pl->Prop
 |done {c:Nat} {r:Rs}:r.good n c->Wt n c (.done r)
 |call {c:Nat} {g:Gl} {k:Rs->Pl}:g.pre n->(∀r,r.good n g.cap->Wt n c (k r))->Wt n c (.call g k)
theorem Pl.Wt.thn{n c c':Nat}{r:Rs}{f:Tr->List Tok->Pl}(hr:r.good n c')(h:∀t l,t.Fit n->2*t.dF+l.length<=c'->Wt n c (f t l)):Wt n c (r.thn f):=by
 cases r with
 |ok t l=>exact h t l hr.1 hr.2
 |bad p e=>exact .done trivial
theorem Pl.Wt.cI{n c c' k:Nat}{r:Rs}{f:Tr->List Tok->Pl}(hr:r.good n c')(h:∀t l,t.Fit n->2*t.dF+l.length+1<=c'->Wt n c (f t l)):Wt n c (r.cI k f):=by
 refine .thn hr λt l h1 h2=>?_;cases l with
 |nil=>exact .done trivial
 |cons x l=>
  show Wt n c (if x.k=k then _ else _);split
  ·exact h t l h1 h2
  exact .done trivial
theorem uP(lv:Nat):5<=dL lv/\dL lv<=9:=by
 match lv with
 |0=>decide
 |1=>decide
 |2=>decide
 |3=>decide
 |n+4=>exact⟨xal 5,by show 5<=9;decide⟩
theorem Ck(n:Nat)(g:Gl)(hp:g.pre n):Pl.Wt n g.cap (fi n g):=by
 cases g with
 |jT lv dp l=>
  show Pl.Wt n _ (if lv=5 then _ else _);split
  ·exact .call trivial λr h=>.done h
  exact .call trivial λr h=>.thn h λt l1 h1 h2=>.call h1 λr h=>.done (by
   cases r with
   |ok t' l'=>exact⟨h.1,xbF h.2 h2⟩
   |bad=>trivial)
 |more lv dp a l=>
  cases l with
  |nil=>exact .done trivial
  |cons x l=>
   show Pl.Wt n _ (if x.k=dL lv then(if dL lv=8 then _ else _)else _);split
   ·split
    ·refine .call trivial λr h=>.thn h λt l1 h1 h2=>.done ⟨⟨by decide,hp,h1⟩,?_⟩;simp only[Tr.dF,Gl.cap,xak]at h2⊢;omega
    refine .call trivial λr h=>.thn h λt l1 h1 h2=>.call ⟨uP lv,hp,h1⟩ λr h=>.done ?_;cases r with
    |ok t' l'=>
     refine⟨h.1,?_⟩;have:=h.2;simp only[Tr.dF,Gl.cap,xak]at h2 this⊢;omega
    |bad=>trivial
   ·exact .done ⟨hp,xal _⟩
 |tight dp l=>
  cases l with
  |nil=>exact .done trivial
  |cons x l=>
   have hc:Gl.cap (.tight dp (x::l))=l.length+2:=rfl;rw[hc];show Pl.Wt n _ (if x.k=1\/x.k=2 then _ else if x.k=3 then(if n<=x.v then _ else _)else if x.k=4 then(if 1000<=dp then _ else _)else if x.k=10 then(if 1000<=dp then _ else _)else if x.k=12 then(if 1000<=dp then _ else _)else _);split
   ·rename_i h;exact .done ⟨h,by simp only[Tr.dF];omega⟩
   split
   ·split
    ·exact .done trivial
    exact .done ⟨by show x.v<n;omega,by simp only[Tr.dF];omega⟩
   split
   ·split
    ·exact .done trivial
    exact .call trivial λr h=>.thn h λt l1 h1 h2=>.done ⟨h1,by simp only[Tr.dF,Gl.cap]at h2⊢;omega⟩
   split
   ·split
    ·exact .done trivial
    exact .call trivial λr h=>.cI h λt l1 h1 h2=>.done ⟨h1,by simp only[Gl.cap]at h2⊢;omega⟩
   split
   ·split
    ·exact .done trivial
    refine .call trivial λr h=>.cI h λt l1 h1 h2=>.call trivial λr h=>.cI h λt2 l2 h3 h4=>.call trivial λr h=>.cI h λt3 l3 h5 h6=>.done ⟨⟨h1,h3,h5⟩,?_⟩;simp only[Tr.dF,Gl.cap]at h2 h4 h6⊢;omega
   exact .done trivial
theorem Ev.wt{n c:Nat}{p:Pl}{r:Rs}(h:Ev n p r)(hp:p.Wt n c):r.good n c:=by
 induction h generalizing c with
 |done=>cases hp with|done h=>exact h
 |call _ _ i1 i2=>cases hp with|call h0 h=>exact i2 (h _ (i1 (Ck n _ h0)))
theorem Reads.wt{n:Nat}{l:List UInt8}{t:Tr}{l':List Tok}(h:Reads n l (.ok t l'))(hlen:∀o,dA 0 l o->o.length<=l.length+1):t.Fit n/\t.dF<=32769:=by
 cases h with
 |mk hl ht h=>
  have h1:=hlen _ ht;have:=h.wt (c:=l.length+2) (.call trivial λr hr=>.cI hr λt l2 h2 h3=>.done ⟨h2,by simp only[Gl.cap]at h3;omega⟩);exact⟨this.1,by have:=this.2;omega⟩
end Go.Proofs.Fm
namespace Go.Proofs.Fm
theorem dA.step{p k v w:Nat}{b:UInt8}{r:List UInt8}{o:List Tok}(h:cG (b::r)=(k,v,w))(hb:b≠32)(hk:k≠16)(ht:dA (p+w) ((b::r).drop w) o):dA p (b::r) (⟨k,p,v⟩::o):=by
 have:=dA.tok (p:=p) (b:=b) (r:=r) (o:=o) hb (by rw[h];exact hk) (by rw[h];exact ht);rw[h]at this;exact this
theorem Ev.cI{n k:Nat}{t:Tr}{x:Tok}{l:List Tok}{f:Tr->List Tok->Pl}{r:Rs}(hk:x.k=k)(h:Ev n (f t l) r):Ev n ((Rs.ok t (x::l)).cI k f) r:=by
 show Ev n (if x.k=k then _ else _) r;rw[xaf hk];exact h
end Go.Proofs.Fm
namespace Go.Proofs.Sw
structure Wd where
 t:List UInt8
 a:Nat
 e:Nat
def jj:Nat->Option (List UInt8)->List UInt8->List Wd
 |_,none,[]=>[]
 |i,some c,[]=>[⟨c,i-c.length,i⟩]
 |i,none,b::r=>if b=32 then jj (i+1) none r else jj (i+1) (some [b]) r
 |i,some c,b::r=>if b=32 then⟨c,i-c.length,i⟩::jj (i+1) none r else jj (i+1) (some (c++[b])) r
def p8:List UInt8->Nat
 | []=>0
 |b::r=>if b=32 then p8 r+1 else 0
def GC:Nat->List UInt8->Option Nat
 |n,[]=>some n
 |n,b::r=>if 48<=b.toNat/\b.toNat<=57 then GC (10*n+(b.toNat-48)) r else none
def EX(s:List UInt8):Option Nat:=if s.length<1\/18<s.length then none else GC 0 s
def low(b:UInt8):Bool:=decide (97<=b.toNat) &&decide (b.toNat<=122)
def IW(s:List UInt8):Bool:=s.all low&&decide (1<=s.length) &&decide (s.length<=16)
def iZ:List (List UInt8×List UInt8):=[([110,101,119],[110,110]),([97,110,100],[100,115,115]),([111,114],[100,115,115]),([120,111,114],[100,115,115]),([110,111,116],[100,115]),
 ([100,114,111,112],[115]),([115,104,111,119],[115]),([101,118,97,108],[115,110]),([115,97,116,115],[115]),([108,101,97,115,116],[115]),
 ([115,97,109,101],[115,115]),([108,105,118,101],[]),([111,114,100,101,114],[43]),([115,119,97,112],[110]),
 ([115,105,102,116],[110]),([115,101,116,116,108,101],[110]),([119,105,110,100,111,119],[110]),([101,120,97,99,116],[]),([110,97,109,101,115],[])]
def idx(s:List UInt8):Nat->List (List UInt8×List UInt8)->Option Nat
 |_,[]=>none
 |i,a::r=>if a.1=s then some i else idx s (i+1) r
def cmd(s:List UInt8):Option Nat:=idx s 0 iZ
def nJ(s:List UInt8):Bool:=IW s&& (cmd s).isNone
def vI(c:UInt8)(t:List UInt8):Option Nat:=if c=110 then EX t else if nJ t then some 0 else none
def r6(m:Nat):List UInt8->List Wd->Option Nat
 | [],[]=>none
 |_::_,[]=>some m
 | [],w::_=>some w.a
 |c::r,w::l=>if(vI c w.t).isNone then some w.a else r6 m r l
def rdv:List UInt8->List Wd->List (Wd×Nat)
 |c::r,w::l=>(w,(vI c w.t).getD 0)::rdv r l
 |_,_=>[]
def uT(b:List UInt8->Bool):List UInt8->List Wd->Option Nat
 |c::r,w::l=>if c=115/\b w.t=false then some w.a else uT b r l
 |_,_=>none
def vY(s:List UInt8)(l:List Wd):List UInt8:=if s=[43]then List.replicate l.length 110 else s
theorem fJ:∀(l:List UInt8) (i:Nat) (c:Option (List UInt8)),(jj i c l).length<=l.length+1/\∀w∈jj i c l,w.t.length<=(c.getD []).length+l.length/\w.e<=i+l.length
 | [],i,none=>⟨xaB _,λw hw=>by cases hw⟩
 | [],i,some c=>⟨xal _,λw hw=>by
  have hw:w∈[⟨c,i-c.length,i⟩]:=hw;rw[xaG.1 hw];exact⟨xal _,xal _⟩⟩
 |b::r,i,none=>by
  have h1:=fJ r (i+1) none;have h2:=fJ r (i+1) (some [b]);unfold jj;split
  ·refine⟨by rw[xak];omega,λw hw=>?_⟩;have:=h1.2 w hw;rw[xak];exact⟨by omega,by omega⟩
  refine⟨by rw[xak];omega,λw hw=>?_⟩;have:=h2.2 w hw;simp only[xcz,xcy,xak,xbq]at this⊢;exact⟨by omega,by omega⟩
 |b::r,i,some c=>by
  have h1:=fJ r (i+1) none;have h2:=fJ r (i+1) (some (c++[b]));unfold jj;split
  ·refine⟨by simp only[xak];omega,λw hw=>?_⟩;rcases xag.1 hw with rfl|hw
   ·simp only[xcz,xak];exact⟨by omega,by omega⟩
   have:=h1.2 w hw;simp only[xcz,xcy,xak,xbq]at this⊢;exact⟨by omega,by omega⟩
  refine⟨by simp only[xak];omega,λw hw=>?_⟩;have:=h2.2 w hw;simp only[xcz,xak,xan,xbq]at this⊢;exact⟨by omega,by omega⟩
theorem Bx:∀l:List UInt8,p8 l<=l.length
 | []=>xal _
 |b::r=>by
  have:=Bx r;unfold p8;rw[xak];split<;>omega
end Go.Proofs.Sw
set_option maxRecDepth 100000
namespace Go.Proofs
open Go Go.Sx Tryz
section
open Fm Sw
def Sw.Wd.cells(w:Wd):List zV:=[ag w.t,nI w.a,nI w.e]
theorem Sw.Wd.one(w:Wd):∀u∈w.cells,u.oneCell'=true:=λu hu=>by
 simp only[Wd.cells,xag,xax,xa3]at hu;rcases hu with rfl|rfl|rfl<;>rfl
def rp(i:Nat):Option (List UInt8)->Int
 |none=> -1
 |some c=>((i-c.length:Nat):Int)
theorem B7(b:UInt8)(k:Nat)(hk:k<256):b.toNat=k↔b=UInt8.ofNat k:=by
 constructor
 ·intro h;apply xdF.1;rw[h,xdp,xbd (by simpa using hk)]
 rintro rfl;rw[xdp,xbd (by simpa using hk)]
theorem iX{l:List UInt8}{i:Nat}(h:i<l.length):∃b,l[i]? =some b/\l.drop i=b::l.drop (i+1):=⟨l[i],xab h,xaX h⟩
set_option maxHeartbeats 1000000 in
theorem nU(l:List UInt8)(hl:l.length<=400)(B:Hp):Fc zQ 17 #[ag l] B (λv H=>∃N,H=N++B/\aC 58 3 v ((jj 0 none l).map Wd.cells) N):=by
 refine aU λg=>yF ?_;refine⟨λvs H=>∃(i:Nat) (cur:Option (List UInt8)) (acc:List Wd) (C:Hp) (v:zV),vs=[v,iv (rp i cur),nI i]/\i<=l.length+1/\acc.length<=i/\(∀c,cur=some c->1<=c.length/\c.length<=i/\c=(l.take i).drop (i-c.length))/\(i<=l.length->jj 0 none l=acc++jj i cur (l.drop i))/\(i=l.length+1->jj 0 none l=acc)/\aC 58 3 v (acc.map Wd.cells) C/\H=C++B,λvs _=>l.length+1-dx vs 2,
  JE.mk ⟨0,none,[],[],_,rfl,xaB _,xaB _,nofun,λ_=>rfl,λh=>absurd h zO,aC.nil _ _,rfl⟩,?_⟩
 rintro w5 w6 w7 H ⟨i,cur,acc,C,v,⟨⟩,hi,ha,hc,hw,kg,hs,rfl⟩ gs;refine au.of (ae.E4 (Br.dec (λhle=>?_) (λhgt=>?_)));rotate_left
 ·have e:i=l.length+1:=by omega
  exact bc.mk (.refl _) ⟨C,rfl,by rw[kg e];exact hs⟩
 have hw:=hw hle;have mI:((acc.map Wd.cells).length+1)*32<=140737488355328:=by rw[xaw];omega
 have hz:∃z:List zV,(Value.agg #[ag [],nI 0,nI 0]).cells=z.toArray/\z.length=3:=⟨[_,_,_],rfl,rfl⟩;intro PV h10
 /- a word ends -/
 have close:∀c,cur=some c->(jj i cur (l.drop i)=⟨c,i-c.length,i⟩::jj (i+1) none (l.drop (i+1)))->
   aG zQ g (bQ Tryz.f17 8 4) (ev (λs=>cond (Nat.beq s 30) (ag l) (cond (Nat.beq s 31) (iv (rp i cur)) (cond (Nat.beq s 32) (nI i) (undef))))) (C++B) λND=>
   Build zQ 58 [(0,ND),(1,iv (rp i cur)),(2,nI i)] λNC=>
   aj zQ 50 1 [(0,NC)] (C++B) λGM PY=>
   App zQ 58 3 32 (.agg #[(.string (ByteArray.mk #[])),(iv 0),(iv 0)]) PY w5 GM λNz PX=>
   JE PV [Nz,(iv (-1))] PX:=λc e hn=>by
  subst e;obtain⟨h1,h2,h3⟩:=hc c rfl;refine aG.gx (l:=l) (i:=i-c.length) (j:=i) rfl zK rfl (.inr ⟨_,.i64,rfl,rfl⟩) (.inr ⟨_,.i64,rfl,rfl⟩) (Nat.sub_le _ _) hle ?_;rw[<-h3];refine Build.mk (cs:=(⟨c,i-c.length,i⟩:Wd).cells) zK (aj.one (e:=58) (z:=.agg #[ag [],nI 0,nI 0]) (k:=3) zK zK zK zD rfl λbs=>?_);refine hs.nP (.cons .left) (.head _) rfl (Wd.one _) hz mI (by rw[xaw];omega) λv' C' ho=>?_;refine JE.mk (h10 _ _ _ λ_=>ae.inc (aI.of .tail ⟨i+1,none,acc++[⟨c,i-c.length,i⟩],C',v',rfl,by omega,by simp;omega,nofun,λh=>?_,λh=>?_,by rw[xau];exact ho,rfl⟩ (by simp only[dx];omega)))
  ·rw[hw,hn,xat];rfl
  rw[hw,hn,xaQ zO];rfl
 refine au.of (ae.bI ?_);by_cases he:i=l.length
 ·subst he;refine bO.or true (λh=>absurd h zI) rfl λ_=>?_;rw[xaN rfl,xbI]at*;cases cur with
  |none=>
   refine bO.and false (λ_=>ae.geq ⟨rfl,rfl⟩) rfl λ_=>Br.no ?_;refine Un.not (bO.and false (λh=>absurd h zD) rfl λ_=>Br.no ?_);refine JE.mk (h10 _ _ _ λ_=>ae.inc (aI.of (.refl _) ⟨l.length+1,none,acc,C,w5,rfl,xal _,by omega,nofun,λh=>absurd h zO,λ_=>?_,hs,rfl⟩ (by simp only[dx];omega)));rw[hw];exact xaT _
  |some c=>
   refine bO.and true (λ_=>ae.geq ⟨rfl,by rw[xaN (show(0:Int)<=rp l.length (some c)from xbs _)]⟩) rfl λ_=>Br.yes ?_;exact close c rfl (by rw[xaQ (Nat.le_succ _)];rfl)
 obtain⟨b,hb,hd⟩:=iX (l:=l) (i:=i) zO;rw[xaA he];refine bO.or (decide (b.toNat=32)) (λ_=>aY.of hb (ae.bI (b:=32) ⟨rfl,rfl⟩)) rfl λ_=>?_;rw[xdr];have Io:b.toNat=32↔b=32:=B7 b 32 zD;rw[hd]at hw;by_cases vp:b=32
 ·rw[xaN (Io.2 vp)];subst vp;cases cur with
  |none=>
   refine bO.and false (λ_=>ae.geq ⟨rfl,rfl⟩) rfl λ_=>Br.no ?_;refine Un.not (bO.and false (λh=>absurd h zD) rfl λ_=>Br.no ?_);refine JE.mk (h10 _ _ _ λ_=>ae.inc (aI.of (.refl _) ⟨i+1,none,acc,C,w5,rfl,by omega,by omega,nofun,λh=>?_,λh=>absurd h zO,hs,rfl⟩ (by simp only[dx];omega)));rw[hw];rfl
  |some c=>
   refine bO.and true (λ_=>ae.geq ⟨rfl,by rw[xaN (show(0:Int)<=rp i (some c)from xbs _)]⟩) rfl λ_=>Br.yes ?_;exact close c rfl (by rw[hd];rfl)
 rw[xaA λh=>vp (Io.1 h)];refine bO.and false (λh=>absurd h zD) rfl λ_=>Br.no ?_;have qR:l.take (i+1)=l.take i++[b]:=by rw[xbT,hb];rfl
 cases cur with
 |none=>
  refine Un.not (bO.and true (λ_=>ae.lss ⟨rfl,rfl⟩) rfl λ_=>Br.yes ?_);refine JE.mk (h10 _ _ _ λ_=>ae.inc (aI.of (.refl _) ⟨i+1,some [b],acc,C,w5,?_,by omega,by omega,λc hc=>?_,λh=>?_,λh=>absurd h zO,hs,rfl⟩ (by simp only[dx];omega)))
  ·simp[rp]
  ·cases hc;refine⟨xal _,by simp,?_⟩;rw[qR,xbf,xcO,xcD,xaQ zP,xcd,xbY zO,xct];rfl
  rw[hw];show _=acc++jj (i+1) (some [b]) (l.drop (i+1));congr 1
  conv=>lhs;unfold jj
  rw[xac vp]
 |some c=>
  obtain⟨h1,h2,h3⟩:=hc c rfl;refine Un.not (bO.and false (λ_=>ae.lss ⟨rfl,by rw[xaA (show¬rp i (some c)<0 from Int.not_lt.2 (xbs _))]⟩) rfl λ_=>Br.no ?_);refine JE.mk (h10 _ _ _ λ_=>ae.inc (aI.of (.refl _) ⟨i+1,some (c++[b]),acc,C,w5,?_,by omega,by omega,λc' OK=>?_,λh=>?_,λh=>absurd h zO,hs,rfl⟩ (by simp only[dx];omega)))
  ·simp only[rp,xan,xbf,Nat.add_sub_add_right]
  ·cases OK;refine⟨by simp,by simp;omega,?_⟩;rw[qR,xan,xbf,Nat.add_sub_add_right,List.drop_append_of_le_length zP,<-h3]
  rw[hw];congr 1
  conv=>lhs;unfold jj
  rw[xac vp]
theorem y8(l:List UInt8)(hl:l.length<=400)(w:Wd)(hw:w.e<=l.length)(B:Hp):Rd zQ 22 #[ag l,.agg w.cells.toArray] B (· =nI (w.e+p8 (l.drop w.e))):=by
 refine aU λg=>yy λb1 _=>Ld.f (v:=nI w.e) ?_;refine⟨λvs H=>∃i,vs=[nI i]/\i<=l.length/\w.e+p8 (l.drop w.e)=i+p8 (l.drop i)/\H=(b1,.cells (Value.cells (.agg w.cells.toArray)) 58 zZ)::B,λvs _=>l.length-dx vs 0,JE.mk ⟨w.e,rfl,hw,rfl,rfl⟩,?_⟩;rintro w9 H ⟨i,⟨⟩,hi,he,rfl⟩ gs;refine au.of (ae.dX ?_);by_cases h:i<l.length
 ·obtain⟨b,hb,hd⟩:=iX h;rw[xaN h];refine bO.and (decide (b.toNat=32)) (λ_=>aY.of hb (ae.bI (b:=32) ⟨rfl,rfl⟩)) rfl λ_=>?_;rw[xcE];have Io:b.toNat=32↔b=32:=B7 b 32 zD;rw[hd]at he;refine Br.dec (λvp=>?_) (λvp=>?_)
  ·refine ae.inc (aI.of (.refl _) ⟨i+1,rfl,h,?_,rfl⟩ (by simp only[dx];omega));rw[he];show i+(if b=32 then p8 (l.drop (i+1))+1 else 0)=_;rw[xaf (Io.1 vp)];omega
  refine bH.mk .tail ?_;rw[he];unfold p8;rw[xac λh=>vp (Io.2 h)];rfl
 rw[xaA h];refine bO.and false (λh=>absurd h zD) rfl λ_=>Br.no (bH.mk .tail ?_);rw[he,xaQ zO];rfl
def NL:Option Nat->zV
 |some n=>.tuple #[nI n,.bool true]
 |none=>.tuple #[nI 0,.bool false]
theorem rZ(l:List UInt8)(hl:l.length<=400)(B:Hp):Rd zQ 32 #[ag l] B (· =NL (EX l)):=by
 refine aU λg=>yo (au.of (ae.dX (b:=1) (bO.or (decide (18<l.length)) (λ_=>au.of (ae.iU (b:=18) ⟨rfl,rfl⟩)) rfl λ_=>?_)));rw[<-xaR];unfold EX;refine Br.dec (λh=>?_) (λh=>?_)
 ·exact bH.mk (.refl _) (by rw[xaf h];rfl)
 rw[xac h];have MW:l.length<=18:=by omega
 refine au.of ?_;refine⟨λvs H=>∃i n,vs=[nI n,nI i]/\i<=l.length/\n<10^i/\GC 0 l=GC n (l.drop i)/\H=B,λvs _=>l.length-dx vs 1,JE.mk ⟨0,0,rfl,xaB _,by decide,rfl,rfl⟩,?_⟩;rintro GL IT H ⟨i,n,⟨⟩,hi,hn,he,rfl⟩ gs;refine ae.dX (Br.dec (λhlt=>?_) (λhge=>?_))
 ·obtain⟨b,hb,hd⟩:=iX hlt;rw[hd]at he;refine aY.of hb (ae.dX (b:=48) (bO.or (decide (57<b.toNat)) (λ_=>aY.of hb (ae.iU (b:=57) ⟨rfl,rfl⟩)) rfl λ_=>?_));rw[<-xaR];have hp:10^(i+1)<=10^18:=xaL zD zO;have hq:10^(i+1)=10^i*10:=xcv ..;have Od:(10:Nat)^18=1000000000000000000:=by decide
  have Qx:=b.toNat_lt;refine Br.dec (λsu=>?_) (λhok=>?_)
  ·refine bH.mk (.refl _) ?_;rw[he];unfold GC;rw[xac zO];rfl
  refine ae.g7 (a:=10) (by simp only[bY];omega) (aY.of hb (ae.e7 (b:=48) (by simp only[bY];omega) zO (aM.q (ae.eo (by simp only[bY];omega) ?_))));refine ae.inc (aI.of (.refl _) ⟨i+1,10*n+(b.toNat-48),rfl,hlt,by omega,?_,rfl⟩ (by simp only[dx];omega));rw[he]
  conv=>lhs;unfold GC
  rw[xaf zO]
 refine bH.mk (.refl _) ?_;rw[he,xaQ zO];rfl
theorem qn(l:List UInt8)(hl:l.length<=400)(B:Hp):Rd zQ 33 #[ag l] B (· =.bool (IW l)):=by
 refine aU λg=>yn (au.of ?_);refine⟨λvs H=>∃i,vs=[nI i]/\i<=l.length/\l.all low=(l.drop i).all low/\H=B,λvs _=>l.length-dx vs 0,JE.mk ⟨0,rfl,xaB _,rfl,rfl⟩,?_⟩;rintro w6 H ⟨i,⟨⟩,hi,he,rfl⟩ gs;refine ae.dX (Br.dec (λhlt=>?_) (λhge=>?_))
 ·obtain⟨b,hb,hd⟩:=iX hlt;rw[hd,List.all_cons]at he;refine aY.of hb (ae.dX (b:=97) (bO.or (decide (122<b.toNat)) (λ_=>aY.of hb (ae.iU (b:=122) ⟨rfl,rfl⟩)) rfl λ_=>?_));rw[<-xaR];refine Br.dec (λsu=>?_) (λhok=>?_)
  ·refine bH.mk (.refl _) ?_;have:low b=false:=by
    unfold low;rw[xcw,xaV,xaV];omega
   unfold IW;rw[he,this];rfl
  refine ae.inc (aI.of (.refl _) ⟨i+1,rfl,hlt,?_,rfl⟩ (by simp only[dx];omega));have:low b=true:=by
   unfold low;rw[xap,xaH,xaH];omega
  rw[he,this];rfl
 rw[xaQ zO]at he;refine au.of (ae.nw (b:=1) (bO.and (decide (l.length<=16)) (λ_=>au.of (ae.E4 (b:=16) ⟨rfl,rfl⟩)) rfl λ_=>bH.mk (.refl _) ?_));unfold IW;rw[he];rfl
end
section
open Fm Sw
noncomputable def xq:zL:=[50,51,52,53,54,55,56,57,58,59,
 60,61,62,63,64,65,66,67,68]
noncomputable def jg(sp:Nat)(i:Nat):List zV:=[ag (iZ.getD i ([],[])).1,ag (iZ.getD i ([],[])).2,.func (.func (xq.getD i 0)) #[ptr sp] #[]]
noncomputable def rB(sp:Nat):List (List zV):=(List.range 19).map (jg sp)
theorem pS(sp i:Nat):∀u∈jg sp i,u.oneCell'=true:=λu hu=>by
 simp only[jg,xag,xax,xa3]at hu;rcases hu with rfl|rfl|rfl<;>rfl
theorem pg:∀u∈[ag [],ag [],Value.nilFunc],u.oneCell'=true:=λu hu=>by
 simp only[xag,xax,xa3]at hu;rcases hu with rfl|rfl|rfl<;>rfl
theorem rz(sp:Nat):(rB sp).length=19:=by unfold rB;rw[xaw,xb4]
theorem rA(sp:Nat){i:Nat}(hi:i<19):(rB sp)[i]? =some (jg sp i):=by
 unfold rB;rw[xaC,List.getElem?_range hi];rfl
theorem ru(sp:Nat)(B:Hp):Fc zQ 28 #[ptr sp] B (λv H=>∃N,H=N++B/\aC 54 3 v (rB sp) N):=by
 refine aU λg=>yw ?_;refine Build.mk (cs:=jg sp 0) zK (Build.mk (cs:=jg sp 1) zK (Build.mk (cs:=jg sp 2) zK (Build.mk (cs:=jg sp 3) zK (Build.mk (cs:=jg sp 4) zK ?_))));refine Build.mk (cs:=jg sp 5) zK (Build.mk (cs:=jg sp 6) zK (Build.mk (cs:=jg sp 7) zK (Build.mk (cs:=jg sp 8) zK (Build.mk (cs:=jg sp 9) zK ?_))));refine Build.mk (cs:=jg sp 10) zK (Build.mk (cs:=jg sp 11) zK (Build.mk (cs:=jg sp 12) zK (Build.mk (cs:=jg sp 13) zK (Build.mk (cs:=jg sp 14) zK ?_))));refine Build.mk (cs:=jg sp 15) zK (Build.mk (cs:=jg sp 16) zK (Build.mk (cs:=jg sp 17) zK (Build.mk (cs:=jg sp 18) zK ?_)));refine aj.many (e:=54) (k:=3) (z:=.agg #[ag [],ag [],.nilFunc]) (rB sp) zK zK zK (by rw[rz];decide) (λr hr=>?_) rfl zK λbw=>?_
 ·obtain⟨i,_,rfl⟩:=xaq.1 hr;rfl
 exact bc.mk (.refl _) ⟨[_],rfl,aC.made (T:=54) (k:=3) (b:=bw) (rB sp) (λr hr=>by obtain⟨i,_,rfl⟩:=xaq.1 hr;rfl)⟩
theorem vZ(b:Nat)(t nm:List UInt8)(x y:zV)(B:Hp)(hb:(b,Obj.cells #[ag nm] 9 zZ)∈B):Rd zQ 30 #[.agg #[ag t,x,y],ptr b] B (· =.bool (decide (t=nm))):=by
 refine aU λg=>yq λb1 _=>Ld.f (v:=ag t) ?_;exact Ld.mk (.tail _ hb) rfl (ae.qj (bH.mk .tail rfl))
def NQ:Option Nat->zV
 |some i=>nI i
 |none=>iv (-1)
theorem Ah(nm:List UInt8){i:Nat}(hi:i<19):idx nm i (iZ.drop i)=if(iZ.getD i ([],[])).1=nm then some i else idx nm (i+1) (iZ.drop (i+1)):=by
 have hc:i<iZ.length:=hi;rw[xaX hc];have:iZ.getD i ([],[])=iZ[i]:=by rw[xaJ,xab hc];rfl
 rw[this];rfl
theorem Ag{sp b:Nat}{nm:List UInt8}{v:zV}{N B:Hp}(hs:aC 54 3 v (rB sp) N)(hN:∀y∈N,y∈B)(hb:(b,Obj.cells #[ag nm] 9 zZ)∈B):
  Rd zQ 29 #[v,.func (.func 30) #[] #[ptr b]] B (· =NQ (cmd nm)):=by
 refine aU λg=>yu (hs.cx ?_);rw[rz];refine⟨λvs H=>∃i,vs=[nI i]/\i<=19/\cmd nm=idx nm i (iZ.drop i)/\H=B,λvs _=>19-dx vs 0,JE.mk ⟨0,rfl,xaB _,rfl,rfl⟩,?_⟩;rintro w6 H ⟨i,⟨⟩,hi,he,rfl⟩ gs;refine ae.dX (b:=19) (Br.dec (λhlt=>?_) (λhge=>?_))
 ·refine hs.u6 (rA sp hlt) hN (cr.of rfl zK (aa.eq (vZ b _ nm _ _ H hb) (Br.dec (λh=>?_) (λh=>?_))))
  ·refine bH.mk (.refl _) ?_;rw[he,Ah nm hlt,xaf h];rfl
  refine ae.inc (aI.of (.refl _) ⟨i+1,rfl,hlt,?_,rfl⟩ (by simp only[dx];omega));rw[he,Ah nm hlt,xac h]
 refine bH.mk (.refl _) ?_;have:i=19:=by omega
 subst this;rw[he];rfl
noncomputable def MX(sp:Nat):Option Nat->zV
 |some i=>.tuple #[.agg (jg sp i).toArray,.bool true]
 |none=>.tuple #[.agg #[ag [],ag [],.nilFunc],.bool false]
theorem so(nm:List UInt8):∀(l:List (List UInt8×List UInt8)) (i j:Nat),idx nm i l=some j->i<=j/\j<i+l.length
 | [],i,j,h=>by cases h
 |a::l,i,j,h=>by
  unfold idx at h;split at h
  ·cases h;simp
  have:=so nm l (i+1) j h;rw[xak];omega
theorem Bn{nm:List UInt8}{j:Nat}(h:cmd nm=some j):j<19:=by
 have:=so nm iZ 0 j h;have e:iZ.length=19:=rfl;omega
theorem mj(sp:Nat)(nm:List UInt8)(B:Hp):Rd zQ 18 #[ptr sp,ag nm] B (· =MX sp (cmd nm)):=by
 refine aU λg=>yE λb1 _ b3 _=>aa.fq (ru sp _) ?_;rintro v H ⟨N,rfl,hs⟩;refine aa.eq (Ag hs (λy hy=>xad _ hy) (xaa _ (.tail _ (.head _)))) ?_;cases hc:cmd nm with
 |none=>
  refine ae.lss (Br.yes (Build.mk (cs:=[ag [],ag [],.nilFunc]) zK (St.whole (r:=[ag [],ag [],.nilFunc]) ((bW.head _).aB N) rfl rfl pg (aA.whole (r:=[ag [],ag [],.nilFunc]) (xaa _ (.head _)) rfl ?_))));exact bH.mk (.cw (.skip .tail)) rfl
 |some i=>
  have hi:=Bn hc;refine ae.lss (Br.F ?_ (by show¬((i:Nat):Int)<0;omega));refine hs.u6 (rA sp hi) (λy hy=>xad _ hy) (St.whole (r:=jg sp i) ((bW.head _).aB N) rfl rfl (pS sp i) (aA.whole (r:=jg sp i) (xaa _ (.head _)) rfl ?_));exact bH.mk (.cw (.skip .tail)) rfl
theorem FL(sp:Nat)(o:Option Nat):∃r:List zV,r.length=3/\(∀u∈r,u.oneCell'=true)/\MX sp o=.tuple #[.agg r.toArray,.bool o.isSome]:=by
 cases o with
 |none=>exact⟨[ag [],ag [],.nilFunc],rfl,pg,rfl⟩
 |some i=>exact⟨jg sp i,rfl,pS sp i,rfl⟩
theorem qk(sp:Nat)(t:List UInt8)(ht:t.length<=400)(B:Hp):Rd zQ 20 #[ptr sp,ag t] B (· =.bool (nJ t)):=by
 refine aU λg=>yC (aa.eq (mj sp t B) ?_);obtain⟨r,hr,h1,e⟩:=FL sp (cmd t);rw[e];refine Ext.mk rfl (Ext.mk rfl λb5 _=>St.whole (r:=r) (.head _) rfl hr h1 (aa.eq (qn t ht _) (bO.and (!(cmd t).isSome) (λ_=>Un.not ⟨rfl,rfl⟩) rfl λ_=>?_)));refine bH.mk .tail ?_;unfold nJ;cases cmd t<;>rfl
end
section
open Fm
def Fm.Tok.cells(t:Tok):List zV:=[nI t.k,nI t.p,nI t.v]
theorem Fm.Tok.one(t:Tok):∀u∈t.cells,u.oneCell'=true:=λu hu=>by
 simp only[Tok.cells,xag,xax,xa3]at hu;rcases hu with rfl|rfl|rfl<;>rfl
def D3(s:List UInt8×Nat):List zV:=[ag s.1,nI s.2]
theorem zg(B:Hp):Fc zQ 79 #[] B (λv H=>∃N,H=N++B/\aC 146 2 v (cR.map D3) N):=by
 refine aU λg=>xP ?_;refine Build.mk (cs:=[ag [60,45,62],nI 9]) zK (Build.mk (cs:=[ag [45,62],nI 8]) zK (Build.mk (cs:=[ag [48],nI 1]) zK (Build.mk (cs:=[ag [49],nI 2]) zK ?_)));refine Build.mk (cs:=[ag [33],nI 4]) zK (Build.mk (cs:=[ag [38],nI 5]) zK (Build.mk (cs:=[ag [94],nI 6]) zK (Build.mk (cs:=[ag [124],nI 7]) zK ?_)));refine Build.mk (cs:=[ag [40],nI 10]) zK (Build.mk (cs:=[ag [41],nI 11]) zK (Build.mk (cs:=[ag [91],nI 12]) zK (Build.mk (cs:=[ag [63],nI 13]) zK ?_)));refine Build.mk (cs:=[ag [58],nI 14]) zK (Build.mk (cs:=[ag [93],nI 15]) zK ?_);refine aj.many (e:=146) (k:=2) (z:=.agg #[ag [],nI 0]) (cR.map D3) zK zK zK zD zD rfl rfl λbw=>?_;exact bc.mk (.refl _) ⟨[_],rfl,aC.made (T:=146) (k:=2) (b:=bw) (cR.map D3) zD⟩
def kY(l:List UInt8)(j:Nat):Option (Nat×Nat×Nat):=
 match gw l with
 |some (n,w)=>some (3,n,w)
 |none=>(p0 l (cR.take j)).map λq=>(q.1,0,q.2)
def AZ(p:Nat):Option (Nat×Nat×Nat)->Tok
 |some q=>⟨q.1,p,q.2.1⟩
 |none=>⟨16,p,0⟩
def lJ:Option (Nat×Nat×Nat)->Nat
 |some q=>q.2.2
 |none=>0
theorem vq(l:List UInt8)(p:Nat):AZ p (kY l 14)=⟨(cG l).1,p,(cG l).2.1⟩/\lJ (kY l 14)=(cG l).2.2:=by
 unfold kY cG;cases gw l with
 |some q=>exact⟨rfl,rfl⟩
 |none=>
  simp only[show cR.take 14=cR from rfl];cases p0 l cR with
  |some q=>exact⟨rfl,rfl⟩
  |none=>exact⟨rfl,rfl⟩
theorem mi(l:List UInt8)(s:List UInt8×Nat):∀L:List (List UInt8×Nat),p0 l (L++[s])=match p0 l L with|some q=>some q|none=>if s.1.isPrefixOf l=true then some (s.2,s.1.length)else none
 | []=>by simp only[xaU,p0]
 |a::L=>by
  rw[xaF];unfold p0;split
  ·rfl
  exact mi l s L
theorem AY{l:List UInt8}{j:Nat}(h:lJ (kY l j)=0):kY l j=none:=by
 unfold kY at h⊢;cases hx:gw l with
 |some q=>
  obtain⟨n,w⟩:=q;rw[hx]at h;exfalso;cases l with
  |nil=>simp[gw]at hx
  |cons b r=>
   by_cases hb:b=120/\0<(num 0 0 r).2
   ·rw[show gw (b::r)=some ((num 0 0 r).1,(num 0 0 r).2+1)from xaf hb]at hx;cases hx;simp[lJ]at h
   rw[show gw (b::r)=none from xac hb]at hx;cases hx
 |none=>
  rw[hx]at h;simp only at h⊢;cases hs:p0 l (cR.take j)with
  |none=>rfl
  |some q=>
   rw[hs]at h;have:=(r0 (cR.take j) (λs hs=>(show∀s∈cR,s.1≠[]/\∀b∈s.1,b.toNat<128 by decide) s (xcB hs)) q hs).1;simp only[xa9,lJ]at h;omega
theorem AX{l:List UInt8}{j:Nat}(hj:j<14){s:List UInt8×Nat}(hs:cR[j]? =some s):kY l (j+1)=if lJ (kY l j)=0/\s.1.isPrefixOf l=true then some (s.2,0,s.1.length)else kY l j:=by
 by_cases h0:lJ (kY l j)=0
 ·have hn:=AY h0;unfold kY at hn⊢;cases hx:gw l with
  |some q=>rw[hx]at hn;cases hn
  |none=>
   rw[hx]at hn;simp only at hn⊢;rw[xbT,hs];simp only[xdq];rw[mi];have hn':p0 l (cR.take j)=none:=by simpa using hn
   rw[hn'];simp only[xbo,lJ,xdw];split<;>rfl
 rw[xac λh=>h0 h.1];unfold kY at h0⊢;cases hx:gw l with
 |some q=>rfl
 |none=>
  rw[hx]at h0;simp only at h0⊢;cases hq:p0 l (cR.take j)with
  |none=>rw[hq]at h0;simp[lJ]at h0
  |some q=>
   rw[xbT,hs];simp only[xdq];rw[mi,hq]
def Fe:Hp->Nat
 | []=>0
 |x::r=>match x.2 with
  | .stringIter _ p=>p
  |_=>Fe r
theorem pB{T:TypeId}{k:Nat}{v:zV}{rs:List (List zV)}{C B:Hp}{b p:Nat}{s:ByteArray}(h:aC T k v rs C):Fe (C++((b,.stringIter s p)::B))=p:=by
 rcases h with⟨_,_,rfl⟩|⟨c,j,_,rfl,_⟩<;>rfl
theorem Fm.dA.at{l:List UInt8}{p:Nat}(hp:p<l.length):∃c,l[p]? =some c/\l.drop p=c::l.drop (p+1):=⟨l[p],xab hp,xaX hp⟩
theorem Ca{l:List UInt8}(h:(cG l).1=16):(cG l).2.1=0:=by
 unfold cG at h⊢;cases hx:gw l with
 |some q=>rw[hx]at h;cases h
 |none=>
  simp only;cases p0 l cR with
  |some q=>rfl
  |none=>rfl
set_option maxHeartbeats 2000000 in
theorem AO(l:List UInt8)(hl:l.length<=65536)(B:Hp):Fc zQ 37 #[ag l] B (λv H=>∃(o:List Tok) (N:Hp),H=N++B/\dA 0 l o/\o.length<=l.length+1/\aC 141 3 v (o.map Tok.cells) N):=by
 refine aU λg=>yl ?_;refine cg.zj rfl zK rfl λb=>?_;refine⟨λvs H=>∃(p q:Nat) (acc:List Tok) (C:Hp) (v:zV),vs=[v,nI q]/\p<=l.length/\q<=l.length/\acc.length<=max p q/\(∀o,dA (max p q) (l.drop (max p q)) o->dA 0 l (acc++o))/\(∀j,p<=j->j<q->∃c,l[j]? =some c/\c.toNat<128)/\aC 141 3 v (acc.map Tok.cells) C/\H=C++((b,.stringIter ⟨l.toArray⟩ p)::B),λvs H=>l.length-Fe H,JE.mk ⟨0,0,[],[],_,rfl,xaB _,xaB _,xaB _,λo h=>h,λj h1 h2=>absurd h2 zO,aC.nil _ _,rfl⟩,?_⟩;rintro w7 w8 H ⟨p,q,acc,C,v,⟨⟩,hp,hq,ha,hT,hb,hs,rfl⟩ gs;have hz:∃z:List zV,(Value.agg #[iv 0,iv 0,iv 0]).cells=z.toArray/\z.length=3:=⟨[_,_,_],rfl,rfl⟩;refine cg.D6 (C:=B) (c:=λX=>C++(X++B)) rfl rfl (.app (.left (C:=[_]))) (λhlt=>?_) (λhge=>?_);rotate_left
 ·have vc:p=l.length:=by omega
  subst vc;refine Ext.mk rfl (Br.no (au.of (Build.mk (cs:=(⟨0,l.length,0⟩:Tok).cells) zK (aj.one (e:=141) (z:=.agg #[iv 0,iv 0,iv 0]) (k:=3) zK zK zK zD rfl λbs=>?_))));refine hs.nP (.cons .left) (.head _) rfl (Tok.one _) hz (by simp only[xaw];omega) (by simp only[xaw];omega) λv' C' ho=>?_;refine bc.mk (dP:=C'++B) (.skip (.cL .tail _)) ⟨acc++[⟨0,l.length,0⟩],C',rfl,hT _ ?_,?_,by rw[xau];exact ho⟩
  ·rw[show max l.length q=l.length by omega,xbI];exact .fin
  simp only[xan,xbf];omega
 obtain⟨c,hc,hd⟩:=dA.at hlt;obtain⟨D1,D2,hD⟩:∃D1 D2,Utf8.decode ⟨l.toArray⟩ p=(D1,D2):=⟨_,_,rfl⟩;have hlo:c.toNat<128->D1=c.toNat/\D2=1:=λh=>by
  have:=oB hc h;rw[hD]at this;cases this;exact⟨rfl,rfl⟩
 have hhi:128<=c.toNat->128<=D1/\D1<2147483648:=λh=>by
  have:=oC hc h;rw[hD]at this;exact⟨this.1,this.2.1⟩
 rw[hD];refine Ext.mk rfl (Br.yes (Ext.mk rfl (Ext.mk rfl ?_)));refine ae.dX (bO.or (decide (D1=32)) (λ_=>ae.bI (b:=32) ⟨rfl,rfl⟩) rfl λ_=>?_);rw[<-xaR];refine Br.dec (λhy=>?_) (λhn=>?_)
 ·have Dg:c.toNat<128:=by
   rcases hy with h|h
   ·obtain⟨c',e,h'⟩:=hb p (xal _) h;rw[hc]at e;cases e;exact h'
   rcases xcK c.toNat 128 with h'|h'
   ·exact h'
   have:=hhi h';omega
  obtain⟨e1,rfl⟩:=hlo Dg;refine aI.of (.refl _) ⟨p+1,q,acc,C,w7,rfl,hlt,hq,by omega,λo ho=>hT o ?_,λj h1 h2=>hb j zO h2,hs,rfl⟩ ?_
  ·by_cases hpq:p<q
   ·rw[show max p q=max (p+1) q by omega];exact ho
   rw[show max p q=p by omega,hd];rw[show max (p+1) q=p+1 by omega]at ho;have:c=32:=xdF.1 (by show c.toNat=32;omega);rw[this];exact .blank ho
  show l.length-Fe (C++((b,.stringIter ⟨l.toArray⟩ (p+1))::B))<l.length-Fe (C++((b,.stringIter ⟨l.toArray⟩ p)::B));rw[pB hs,pB hs];omega
 have hpq:¬p<q:=λh=>hn (.inl h);have Lx:D1≠32:=λh=>hn (.inr h);rw[show max p q=p by omega]at hT ha;have HT:c≠32:=λh=>by
  subst h;exact Lx (hlo zD).1
 obtain⟨l',hl'⟩:∃l',l.drop p=l':=⟨_,rfl⟩;rw[hl']at hT hd;have l8:l'.length=l.length-p:=by rw[<-hl',xbw]
 refine Build.mk (cs:=(⟨16,p,0⟩:Tok).cells) zK λtb _=>St.whole (r:=(⟨16,p,0⟩:Tok).cells) (.head _) rfl rfl (Tok.one _) λL2 LK=>?_;have main:L2 [nI (lJ (kY l' 0))] ((tb,.cells (AZ p (kY l' 0)).cells.toArray 141 zZ)::(C++([(b,.stringIter ⟨l.toArray⟩ (p+D2))]++B))):=by
  refine LK _ _ λ_=>?_;refine aa.fq (zg _) ?_;rintro sv _ ⟨N,rfl,Ei⟩;refine Ei.cx ?_;refine⟨λvs H=>∃j,j<=14/\vs=[nI (lJ (kY l' j)),nI j]/\H=N++((tb,.cells (AZ p (kY l' j)).cells.toArray 141 zZ)::(C++([(b,.stringIter ⟨l.toArray⟩ (p+D2))]++B))),λvs _=>14-dx vs 1,JE.mk ⟨0,by decide,rfl,rfl⟩,?_⟩;rintro P7 Ng H ⟨j,hj,⟨⟩,rfl⟩ gs;have Pu:((cR.map D3).length:Int)=14:=rfl;rw[Pu];refine ae.dX (b:=14) (Br.dec (λIj=>λL1 LI=>?_) (λIj=>?_))
  ·obtain⟨s,hsj⟩:∃s,cR[j]? =some s:=⟨_,xab Ij⟩;have next:L1 [nI (lJ (kY l' (j+1)))] (N++((tb,.cells (AZ p (kY l' (j+1))).cells.toArray 141 zZ)::(C++([(b,.stringIter ⟨l.toArray⟩ (p+D2))]++B)))):=by
    refine LI _ _ λ_=>ae.inc (aI.of (.refl _) ⟨j+1,Ij,rfl,rfl⟩ ?_);simp only[dx];omega
   have iy:=AX (l:=l') Ij hsj;refine Ei.u6 (r:=D3 s) (by rw[xaC,hsj];rfl) (λy hy=>xad _ hy) ?_;refine λsb _=>St.whole (r:=D3 s) (.head _) rfl rfl (by intro v hv;simp only[D3,xag,xax,xa3]at hv;rcases hv with rfl|rfl<;>rfl) λPO h46=>?_;have Mw:∀t:Bool,t=(decide (lJ (kY l' j)=0) &&s.1.isPrefixOf l')->JE PO [.bool t] ((sb,.cells (D3 s).toArray 146 zZ)::(N++((tb,.cells (AZ p (kY l' j)).cells.toArray 141 zZ)::(C++([(b,.stringIter ⟨l.toArray⟩ (p+D2))]++B))))):=λt ht=>by
    refine JE.mk (h46 _ _ λ_=>?_);cases t with
    |true=>
     have hh:=ht.symm;rw[xap,xaH]at hh;rw[xaf hh]at iy;refine Br.yes (DR.of (.fm (.head _)) (Ld.u (.head _) (Build.mk (cs:=(⟨s.2,p,0⟩:Tok).cells) zK (Ld.u (.head _) (au.of (St.whole (r:=(⟨s.2,p,0⟩:Tok).cells) (.tail (.aB (.head _) N)) rfl rfl (Tok.one _) ⟨?_,JE.of .tail ?_⟩))))))
     ·exact .fm (.head _)
     rw[iy]at next;exact next
    |false=>
     have hh:=ht.symm;have:kY l' (j+1)=kY l' j:=by
      rw[iy];refine xac λh=>?_;rw[xaN h.1,h.2]at hh;cases hh
     rw[this]at next
     exact Br.no (JE.of .tail next)
   refine DR.self (ae.bI (b:=0) (Br.dec (λh0=>?_) (λh0=>?_)))
   ·refine aG.gx (l:=l) (i:=p) (j:=l.length) rfl zK rfl (.inr ⟨_,.i64,rfl,rfl⟩) (.inl ⟨rfl,rfl⟩) hp (xal _) ?_;rw[xcb,hl'];refine Ld.u (.head _) λ_=>aa.eq (ET _ _ _) (az.mk ?_);refine(show(cond (s.1.isPrefixOf l') (Value.bool true) (.bool false))=.bool (s.1.isPrefixOf l')by cases s.1.isPrefixOf l'<;>rfl)▸Mw _ ?_;rw[xaN h0];rfl
   exact Mw false (by rw[xaA h0];rfl)
  have Ky:j=14:=by omega
  subst Ky;rw[(vq l' p).1,(vq l' p).2];refine aA.whole (r:=(⟨(cG l').1,p,(cG l').2.1⟩:Tok).cells) (xaa _ (.head _)) rfl ?_;refine aj.one (e:=141) (z:=.agg #[iv 0,iv 0,iv 0]) (k:=3) zK zK zK zD rfl λbs=>?_;refine hs.nP (.cons (.app (.cons .left))) (.head _) rfl (Tok.one _) hz (by simp only[xaw];omega) (by simp only[xaw];omega) λv' C' ho=>?_;refine Ld.u (.tail _ (xaa _ (.head _))) (ae.bI (b:=16) (Br.dec (λwX=>?_) (λwX=>?_)))
  ·have wX:(cG l').1=16:=wX;refine bc.mk (dP:=C'++B) (.skip (.cw (.skip (.cL .tail _)))) ⟨acc++[⟨(cG l').1,p,(cG l').2.1⟩],C',rfl,hT _ ?_,?_,by rw[xau];exact ho⟩
   ·have Ii:=Ca wX;rw[hd]at wX Ii⊢;rw[wX,Ii];exact .wrong HT wX
   simp only[xan,xbf];omega
  have wX:(cG l').1≠16:=wX;have Kv:=lZ wX;have Dg:c.toNat<128:=by
   rcases xcK c.toNat 128 with h'|h'
   ·exact h'
   exact absurd (by rw[hd];exact B9 h') wX
  refine ae.xB (aI.of (.skip (.cw (.skip (.refl _)))) ⟨p+D2,p+(cG l').2.2,acc++[⟨(cG l').1,p,(cG l').2.1⟩],C',v',rfl,?_,?_,?_,?_,?_,by rw[xau];exact ho,rfl⟩ ?_)
  ·rw[(hlo Dg).2];exact hlt
  ·omega
  ·simp only[xan,xbf];omega
  ·intro o ho;rw[xat];refine hT _ ?_;rw[(hlo Dg).2]at ho;rw[show max (p+1) (p+(cG l').2.2)=p+(cG l').2.2 by omega,<-List.drop_drop,hl']at ho;rw[hd]at wX ho⊢;exact .tok HT wX ho
  ·intro j h1 h2;obtain⟨c',e,h'⟩:=Kv.2.2 (j-p) zO;rw[<-hl',List.getElem?_drop,show p+(j-p)=j by omega]at e;exact⟨c',e,h'⟩
  show l.length-Fe (C'++((b,.stringIter ⟨l.toArray⟩ (p+D2))::B))<l.length-Fe (C++((b,.stringIter ⟨l.toArray⟩ p)::B));rw[pB hs,pB ho,(hlo Dg).2];omega
 have none_:gw l'=none->JE L2 [nI 0] ((tb,.cells (⟨16,p,0⟩:Tok).cells.toArray 141 zZ)::(C++([(b,.stringIter ⟨l.toArray⟩ (p+D2))]++B))):=λhx=>by
  have:kY l' 0=none:=by unfold kY;rw[hx];rfl
  rw[this]at main;exact JE.mk main
 refine ae.bI (b:=120) (Br.dec (λhx=>?_) (λhx=>?_))
 ·have Dg:c.toNat<128:=by
   rcases xcK c.toNat 128 with h'|h'
   ·exact h'
   have:=hhi h';omega
  have MH:c=120:=xdF.1 (by show c.toNat=120;have:=(hlo Dg).1;omega);refine ae.inc (aG.gx (l:=l) (i:=p+1) (j:=l.length) rfl zK rfl (.inr ⟨_,.i64,rfl,rfl⟩) (.inl ⟨rfl,rfl⟩) hlt (xal _) ?_);rw[xcb];refine aa.eq (Ds (l.drop (p+1)) (by rw[xbw];omega) _) (Ext.mk rfl (Ext.mk rfl (ae.iU (b:=0) (Br.dec (λh0=>?_) (λh0=>?_)))))
  ·have hf:kY l' 0=some (3,(num 0 0 (l.drop (p+1))).1,1+(num 0 0 (l.drop (p+1))).2):=by
    unfold kY;rw[hd,MH,show gw ((120:UInt8)::l.drop (p+1))=some ((num 0 0 (l.drop (p+1))).1,(num 0 0 (l.drop (p+1))).2+1)from xaf ⟨rfl,h0⟩,xcs 1]
   have hnm:=(mw (l.drop (p+1)) 0 0).2.1;rw[xbw]at hnm;rw[hf]at main;exact Build.mk (cs:=(⟨3,p,(num 0 0 (l.drop (p+1))).1⟩:Tok).cells) zK (ae.eo (a:=1) (by simp only[bY];omega) (St.whole (r:=(⟨3,p,(num 0 0 (l.drop (p+1))).1⟩:Tok).cells) (.head _) rfl rfl (Tok.one _) (JE.mk main)))
  refine none_ ?_;rw[hd,MH];exact xac λh=>h0 h.2
 refine none_ ?_;rw[hd];refine xac λh=>hx ?_;rw[(hlo (by rw[h.1];decide)).1,h.1];rfl
abbrev qs(rb:Nat)(v:zV)(n:Nat):Nat×Obj:=(rb,.cells #[v,nI n] 94 zZ)
abbrev aP(b:Nat):zV:=.pointer (some ⟨b,0,none⟩)
def GA(p e:Nat):List PanicEntry:=[{v:=.iface 88 (.agg #[nI p,nI e]),recovered:=false}]
inductive k9(H:Hp):Tr->zV->Prop
 |c {k b:Nat}:(b,.cells #[nI k,nI 0,.slice none 0 0] 101 zZ)∈H->k9 H (.c k) (aP b)
 |v {n b:Nat}:(b,.cells #[nI 3,nI n,.slice none 0 0] 101 zZ)∈H->k9 H (.v n) (aP b)
 |no {a:Tr} {b d x:Nat}:(b,.cells #[nI 4,nI 0,.slice (some ⟨d,0,none⟩) 1 1] 101 zZ)∈H->(d,.cells #[aP x] 64 zZ)∈H->k9 H a (aP x)->k9 H (.no a) (aP b)
 |bin {k:Nat} {a a':Tr} {b d x y:Nat}:(b,.cells #[nI k,nI 0,.slice (some ⟨d,0,none⟩) 2 2] 101 zZ)∈H->(d,.cells #[aP x,aP y] 64 zZ)∈H->k9 H a (aP x)->k9 H a' (aP y)->k9 H (.bin k a a') (aP b)
 |ite {a a' a2:Tr} {b d x y z:Nat}:(b,.cells #[nI 12,nI 0,.slice (some ⟨d,0,none⟩) 3 3] 101 zZ)∈H->(d,.cells #[aP x,aP y,aP z] 64 zZ)∈H->k9 H a (aP x)->k9 H a' (aP y)->k9 H a2 (aP z)->k9 H (.ite a a' a2) (aP b)
theorem k9.ptr{H:Hp}{t:Tr}{p:zV}(h:k9 H t p):∃b,p=aP b:=by cases h<;>exact⟨_,rfl⟩
theorem k9.mono{H H':Hp}{t:Tr}{p:zV}(h:k9 H t p)(hs:∀x∈H,x∈H'):k9 H' t p:=by
 induction h with
 |c h=>exact .c (hs _ h)
 |v h=>exact .v (hs _ h)
 |no h1 h2 _ i1=>exact .no (hs _ h1) (hs _ h2) i1
 |bin h1 h2 _ _ i1 i2=>exact .bin (hs _ h1) (hs _ h2) i1 i2
 |ite h1 h2 _ _ _ i1 i2 i3=>exact .ite (hs _ h1) (hs _ h2) i1 i2 i3
section
variable {rb n:Nat} {B:Hp} {v:zV} {x:Tok} {l:List Tok}
theorem AW(h:Sl 3 B v ((x::l).map Tok.cells)):Rd zQ 82 #[aP rb] (qs rb v n::B) (· =.agg x.cells.toArray):=by
 refine aU λg=>xM λb1 _=>Nil.ptr (Ld.u (.tail _ (.head _)) ?_);refine ai.sl (i:=0) h rfl λp hp=>?_;refine aA.at hp rfl zD (λy hy=>.tail _ (.tail _ hy)) (St.whole (.head _) rfl rfl (Tok.one _) (aA.whole (.head _) rfl (bH.mk .tail rfl)))
theorem mN(h:Sl 3 B v ((x::l).map Tok.cells)):Fc zQ 83 #[aP rb] (qs rb v n::B) (λr H=>r=.agg x.cells.toArray/\∃v',H=qs rb v' n::B/\Sl 3 B v' (l.map Tok.cells)):=by
 refine aU λg=>xL λb1 _=>Nil.ptr (Ld.u (.tail _ (.head _)) ?_);refine ai.sl (i:=0) h rfl λp hp=>?_;refine aA.at hp rfl zD (λy hy=>.tail _ (.tail _ hy)) λb8 _=>St.whole (.head _) rfl rfl (Tok.one _) (Nil.ptr (Ld.u (.tail _ (.tail _ (.head _))) ?_));refine bT.tail h λv' h'=>Nil.ptr (.mk (St.one (c':=#[v',nI n]) (.tail (.tail (.head _))) (by obtain⟨a,c,rfl,_⟩:=h'.shape;rfl) zI rfl ?_));exact aA.whole (.head _) rfl (St.whole (.tail (.head _)) rfl rfl (Tok.one _) (aA.whole (.tail _ (.head _)) rfl (bc.mk (.skip .tail) ⟨rfl,v',rfl,h'⟩)))
theorem jI(x:Tok)(e:Nat)(B:Hp):F3 zQ 84 #[.agg x.cells.toArray,nI e] B (λ_ _=>False) (λc H=>H=B/\c=GA x.p e):=by
 refine Im λg=>xK λb1 _=>Ld.u (.head _) (Build.mk (cs:=[nI x.p,nI e]) zK ?_);exact cg.panic rfl rfl (lT.r7 .tail ⟨rfl,rfl⟩)
theorem A5(x:Tok)(dp:Nat)(hd:dp<=1000)(B:Hp):F3 zQ 130 #[.agg x.cells.toArray,nI dp] B (λr H=>¬1000<=dp/\H=B/\r=nI (dp+1)) (λc H=>1000<=dp/\H=B/\c=GA x.p 7):=by
 refine Im λg=>ug λb1 _ J3 h3=>ae.nw (b:=1000) (Br.dec (λh=>?_) (λh=>?_))
 ·refine aA.whole (.head _) rfl (aa.fp .here (jI x 7 _) (λv C' h=>h.elim) λch C' h'=>?_);obtain⟨rfl,rfl⟩:=h';exact lT.r7 .tail ⟨h,rfl,rfl⟩
 exact JE.mk (h3 _ λ_=>ae.inc (lT.ret .tail ⟨h,rfl,rfl⟩))
theorem q5(k:Nat)(h:Sl 3 B v ((x::l).map Tok.cells)):F3 zQ 39 #[aP rb,nI k] (qs rb v n::B) (λr H=>x.k=k/\∃v',H=qs rb v' n::B/\Sl 3 B v' (l.map Tok.cells)) (λc H=>x.k≠k/\H=B/\c=GA x.p 14):=by
 refine Im λg=>yh (aa.fn .here (mN h) ?_);rintro _ _ ⟨rfl,v',rfl,h'⟩;refine λb3 _=>St.whole (.head _) rfl rfl (Tok.one _) (Ld.u (.head _) (ae.pn (Br.dec (λhk=>?_) (λhk=>?_))))
 ·refine aA.whole (.head _) rfl (aa.fp .here (jI x 14 _) (λv C' h=>h.elim) λch C' hc=>?_);obtain⟨rfl,rfl⟩:=hc;exact lT.r7 (.skip .tail) ⟨hk,rfl,rfl⟩
 exact lT.ret .tail ⟨xdu.1 hk,v',rfl,h'⟩
theorem AP(lv:Nat)(hl:lv<5)(B:Hp):Rd zQ 81 #[nI lv] B (· =nI (dL lv)):=by
 refine aU λg=>xN ?_;refine aj.kC (e:=97) (z:=nI 0) [nI 9,nI 8,nI 7,nI 6,nI 5] zK zK zK zD zD rfl rfl λb=>?_;refine ai.nat hl (Ld.mk (v:=nI (dL lv)) (.head _) ?_ (bH.mk .tail rfl))
 match lv,hl with
 |0,_=>rfl
 |1,_=>rfl
 |2,_=>rfl
 |3,_=>rfl
 |4,_=>rfl
end
def PQ(n rb:Nat)(B:Hp)(l:List Tok)(g:Gl)(p:zV)(H:Hp):Prop:=∃t l' v' N,Ev n (fi n g) (.ok t l')/\jS l'/\l'.length<=l.length/\Sl 3 B v' (l'.map Tok.cells)/\H=N++(qs rb v' n::B)/\k9 N t p
def PB(n:Nat)(B:Hp)(g:Gl)(c:List PanicEntry)(H:Hp):Prop:=∃p e,Ev n (fi n g) (.bad p e)/\H=B/\c=GA p e
def TX(m:Nat):Prop:=∀(n lv dp rb:Nat) (l:List Tok) (v:zV) (B:Hp),l.length*8+(6-lv)<=m->lv<=5->dp<=1000->jS l->Sl 3 B v (l.map Tok.cells)->
 F3 zQ 38 #[aP rb,nI lv,nI dp] (qs rb v n::B) (PQ n rb B l (.jT lv dp l)) (PB n B (.jT lv dp l))
def TG(m:Nat):Prop:=∀(n dp rb:Nat) (l:List Tok) (v:zV) (B:Hp),l.length*8<=m->dp<=1000->jS l->Sl 3 B v (l.map Tok.cells)->
 F3 zQ 80 #[aP rb,nI dp] (qs rb v n::B) (PQ n rb B l (.tight dp l)) (PB n B (.tight dp l))
def GX:Hp->Nat
 |(_,.cells c _ _)::_=>(match(c[0]? :Option zV)with
  |some (Value.slice _ k _)=>k
  |_=>0)
 |_=>0
theorem uR{rb n:Nat}{v:zV}{l:List Tok}{B X:Hp}(h:Sl 3 B v (l.map Tok.cells)):GX (qs rb v n::X)=l.length:=by
 obtain⟨a,c,rfl,_⟩:=h.shape;show(l.map Tok.cells).length=_;simp
theorem uO(lv:Nat):dL lv≠0/\dL lv≠16:=by
 match lv with
 |0=>decide
 |1=>decide
 |2=>decide
 |3=>decide
 |n+4=>exact⟨by show(5:Nat)≠0;decide,by show(5:Nat)≠16;decide⟩
theorem Fm.Ev.more{n lv dp:Nat}{l:List Tok}{a:Tr}{l1:List Tok}(hl:lv≠5)(h:Ev n (fi n (.jT (lv+1) dp l)) (.ok a l1)){r:Rs}(h2:Ev n (fi n (.more lv dp a l1)) r):Ev n (fi n (.jT lv dp l)) r:=by
 show Ev n (if lv=5 then _ else _) r;rw[xac hl];exact .call h (.call h2 .done)
theorem qu(N B:Hp)(x:Nat×Obj):aN (x::(N++B)) (N++(x::B)):=.perm (xa5.symm)
theorem n6(N B:Hp)(x:Nat×Obj):aN (N++(x::B)) (x::(N++B)):=.perm xa5
set_option maxHeartbeats 1000000 in
theorem vV(m:Nat)(hx:TX m)(hg:TG m):TX (m+1):=by
 intro n lv dp rb l v B hm hlv Gs hf hs;refine Im λg=>yj ?_;refine ae.bI (b:=5) (Br.dec (λh5=>?_) (λh5=>?_))
 ·subst h5;refine aa.fp .here (hg n dp rb l v B zO Gs hf hs) ?_ ?_
  ·rintro p _ ⟨t,l',v',N,h1,h2,h3,h4,rfl,h5⟩;exact lT.ret (.refl _) ⟨t,l',v',N,.call h1 .done,h2,h3,h4,rfl,h5⟩
  rintro c _ ⟨p,e,h1,rfl,rfl⟩;exact lT.r7 (.refl _) ⟨p,e,.call h1 .done,rfl,rfl⟩
 have Ol:lv<5:=by omega
 refine aa.eq (AP lv Ol _) (ae.inc ?_);refine aa.fp .here (hx n (lv+1) dp rb l v B zO zO Gs hf hs) ?_ ?_;rotate_left
 ·rintro c _ ⟨p,e,h1,rfl,rfl⟩;refine lT.r7 (.refl _) ⟨p,e,?_,rfl,rfl⟩;show Ev n (if lv=5 then _ else _) _;rw[xac h5];exact .call h1 .done
 rintro p _ ⟨t,l',v',N,h1,h2,h3,h4,rfl,h6⟩;refine⟨λvs H=>∃a l1 v1 N p,vs=[p]/\H=qs rb v1 n::(N++B)/\k9 N a p/\jS l1/\l1.length<=l.length/\Sl 3 B v1 (l1.map Tok.cells)/\(∀r,Ev n (fi n (.more lv dp a l1)) r->Ev n (fi n (.jT lv dp l)) r),
  λ_ H=>GX H,JE.of (n6 N B _) ⟨t,l',v',N,p,rfl,rfl,h6,h2,h3,h4,λr hr=>Ev.more h5 h1 hr⟩,?_⟩
 clear h1 h2 h3 h4 h6;rintro IT H ⟨a,l1,v1,N,_,⟨⟩,rfl,ha,KQ,El,hs1,qU⟩ gs;obtain⟨x,l2,rfl⟩:=KQ.split;refine aa.eq (AW (n:=n) (rb:=rb) (hs1.mono (B':=N++B) λy hy=>xaa _ hy)) (BY.mk rfl (ae.bI (Br.dec (λhk=>?_) (λhk=>?_))));rotate_left
 ·refine lT.ret (qu N B _) ⟨a,x::l2,v1,N,qU _ ?_,KQ,El,hs1,rfl,ha⟩;show Ev n (if x.k=dL lv then _ else _) _;rw[xac hk];exact .done
 have BS:jS l2:=KQ.tail (by rw[hk];exact(uO lv).1) (by rw[hk];exact(uO lv).2);have ve:l2.length+1<=l.length:=El;refine aa.pre (qu N B _) (aa.fn (.app .here) (mN hs1) ?_);rintro _ _ ⟨rfl,v2,rfl,kj⟩;refine ae.bI (b:=8) (Br.dec (λh8=>?_) (λh8=>?_))
 ·refine aa.fp (.app .here) (hx n lv dp rb l2 v2 B zO hlv Gs BS kj) ?_ ?_;rotate_left
  ·rintro c _ ⟨p,e,h1,rfl,rfl⟩;refine lT.r7 .right ⟨p,e,qU _ ?_,rfl,rfl⟩;show Ev n (if x.k=dL lv then _ else _) _;rw[xaf hk,xaf h8];exact .call h1 .done
  rintro p _ ⟨b,l3,v3,N2,h1,h2,h3,h4,rfl,h6⟩;obtain⟨pa,rfl⟩:=ha.ptr;obtain⟨pb,rfl⟩:=h6.ptr;refine aj.kC (e:=64) (z:=.pointer none) [aP pa,aP pb] zK zK zK (show(2:Nat)<=16777216 by decide) (by simp[Value.oneCell']) rfl rfl λbd=>?_;refine Build.mk (cs:=[nI 8,nI 0,.slice (some ⟨bd,0,none⟩) 2 2]) zK λbt _=>?_;refine lT.ret (.refl _) ⟨.bin 8 a b,l3,v3,(bt,_)::(bd,_)::(N++N2),qU _ ?_,h2,by omega,h4,by simp;rfl,.bin (.head _) (.tail _ (.head _)) (ha.mono λy hy=>?_) (h6.mono λy hy=>?_)⟩
  ·show Ev n (if x.k=dL lv then _ else _) _;rw[xaf hk,xaf h8];exact .call h1 .done
  ·exact .tail _ (.tail _ (xad _ hy))
  exact .tail _ (.tail _ (xaa _ hy))
 refine ae.inc (aa.fp (.app .here) (hx n (lv+1) dp rb l2 v2 B zO zO Gs BS kj) ?_ ?_);rotate_left
 ·rintro c _ ⟨p,e,h1,rfl,rfl⟩;refine lT.r7 .right ⟨p,e,qU _ ?_,rfl,rfl⟩;show Ev n (if x.k=dL lv then _ else _) _;rw[xaf hk,xac h8];exact .call h1 .done
 rintro p _ ⟨b,l3,v3,N2,h1,h2,h3,h4,rfl,h6⟩;obtain⟨pa,rfl⟩:=ha.ptr;obtain⟨pb,rfl⟩:=h6.ptr;refine aj.kC (e:=64) (z:=.pointer none) [aP pa,aP pb] zK zK zK (show(2:Nat)<=16777216 by decide) (by simp[Value.oneCell']) rfl rfl λbd=>?_;refine Build.mk (cs:=[nI (dL lv),nI 0,.slice (some ⟨bd,0,none⟩) 2 2]) zK λbt _=>?_;refine aI.of (H':=qs rb v3 n::(((bt,.cells #[nI (dL lv),nI 0,.slice (some ⟨bd,0,none⟩) 2 2] 101 zZ)::(bd,.cells #[aP pa,aP pb] 64 zZ)::(N++N2))++B)) (.trans ?_ (n6 _ B _)) ⟨.bin (dL lv) a b,l3,v3,_,_,rfl,rfl,.bin (.head _) (.tail _ (.head _)) (ha.mono λy hy=>?_) (h6.mono λy hy=>?_),h2,by omega,h4,λr hr=>qU _ ?_⟩ ?_
 ·simp only[xaF,xat];exact .refl _
 ·exact .tail _ (.tail _ (xad _ hy))
 ·exact .tail _ (.tail _ (xaa _ hy))
 ·show Ev n (if x.k=dL lv then _ else _) _;rw[xaf hk,xac h8];exact .call h1 (.call hr .done)
 rw[uR h4,uR hs1];simp only[xak];omega
set_option maxHeartbeats 1600000 in
theorem rW(m:Nat)(hx:TX m)(hg:TG m):TG (m+1):=by
 intro n dp rb l v B hm Gs hf hs;obtain⟨x,l,rfl⟩:=hf.split;have hlen:(x::l).length=l.length+1:=rfl;refine Im λg=>xO (aa.fn .here (mN hs) ?_);rintro _ _ ⟨rfl,v1,rfl,hs1⟩;refine λb3 _=>St.whole (r:=x.cells) (.head _) rfl rfl (Tok.one _) (Ld.u (.head _) λJ8 h8=>?_);have ret:∀(t:Tr) (l':List Tok) (v':zV) (N:Hp) (p:zV) (H:Hp),Ev n (fi n (.tight dp (x::l))) (.ok t l')->jS l'->l'.length<=l.length->Sl 3 B v' (l'.map Tok.cells)->aN H (N++(qs rb v' n::B))->k9 N t p->lT (PQ n rb B (x::l) (.tight dp (x::l))) (PB n B (.tight dp (x::l))) (.returned p) H:=
  λt l' v' N p H h1 h2 h3 h4 h5 h6=>lT.ret h5 ⟨t,l',v',N,h1,h2,Nat.le_succ_of_le h3,h4,rfl,h6⟩
 have r7:∀(c:List PanicEntry) (p e:Nat) (H:Hp),Ev n (fi n (.tight dp (x::l))) (.bad p e)->aN H B->c=GA p e->cP (lT (PQ n rb B (x::l) (.tight dp (x::l))) (PB n B (.tight dp (x::l)))) c H:=
  λc p e H h1 h2 h3=>lT.r7 h2 ⟨p,e,h1,rfl,h3⟩
 have main:∀t,t=decide (x.k=1\/x.k=2)->JE J8 [.bool t] ((b3,.cells x.cells.toArray 141 zZ)::(qs rb v1 n::B)):=by
  rintro _ rfl;refine JE.mk (h8 _ _ λ_=>Br.dec (λhk=>?_) (λhk=>?_))
  ·refine Ld.u (.head _) (Build.mk (cs:=[nI x.k,nI 0,.slice none 0 0]) zK λbt _=>?_);refine ret (.c x.k) l v1 [_] _ _ ?_ (hf.tail zO zO) (xal _) hs1 (.trans aN.swap .tail) (.c (.head _));show Ev n (if x.k=1\/x.k=2 then _ else _) _;rw[xaf hk];exact .done
  have pl:∀q,(if x.k=3 then(if n<=x.v then Pl.done (.bad x.p 2)else .done (.ok (.v x.v) l))
   else if x.k=4 then(if 1000<=dp then .done (.bad x.p 7)else .call (.tight (dp+1) l) λr=>r.thn λa l2=>.done (.ok (.no a) l2))
   else if x.k=10 then(if 1000<=dp then .done (.bad x.p 7)else .call (.jT 0 (dp+1) l) λr=>r.cI 11 λa l2=>.done (.ok a l2))
   else if x.k=12 then(if 1000<=dp then .done (.bad x.p 7)else .call (.jT 0 (dp+1) l) λr=>r.cI 13 λa l2=>.call (.jT 0 (dp+1) l2) λr=>r.cI 14 λb l3=>.call (.jT 0 (dp+1) l3) λr=>r.cI 15 λc l4=>.done (.ok (.ite a b c) l4))
   else .done (.bad x.p 14))=q->fi n (.tight dp (x::l))=q:=λq hq=>by
   rw[<-hq];show(if x.k=1\/x.k=2 then _ else _)=_;rw[xac hk]
  clear h8;refine ae.bI (b:=3) (Br.dec (λh3=>?_) (λh3=>?_))
  ·rw[xaf h3]at pl;refine λQT MW=>Ld.u (.head _) (Nil.ptr (Ld.u (.tail _ (.head _)) (ae.nw (Br.dec (λhv=>?_) (λhv=>?_)))))
   ·refine aA.whole (.head _) rfl (aa.fp .here (jI x 2 _) (λv C' h=>h.elim) λch C' h'=>?_);obtain⟨rfl,rfl⟩:=h';refine r7 _ x.p 2 _ ?_ (.skip .tail) rfl;rw[pl _ rfl,xaf hv];exact .done
   refine JE.mk (MW _ λ_=>Ld.u (.head _) (Build.mk (cs:=[nI 3,nI x.v,.slice none 0 0]) zK λbt _=>?_));refine ret (.v x.v) l v1 [_] _ _ ?_ (hf.tail zO zO) (xal _) hs1 (.trans aN.swap .tail) (.v (.head _));rw[pl _ rfl,xac hv];exact .done
  rw[xac h3]at pl;have deep:∀{KK:zV->Hp->Prop},(x.k=4\/x.k=10\/x.k=12)->(¬1000<=dp->KK (nI (dp+1)) ((b3,.cells x.cells.toArray 141 zZ)::(qs rb v1 n::B)))->aa zQ g 130 #[.agg x.cells.toArray,nI dp] ((b3,.cells x.cells.toArray 141 zZ)::(qs rb v1 n::B)) KK (cP (lT (PQ n rb B (x::l) (.tight dp (x::l))) (PB n B (.tight dp (x::l))))):=by
   intro KK Oo hK;refine aa.fp .here (A5 x dp Gs _) ?_ ?_
   ·rintro r _ ⟨h1,rfl,rfl⟩;exact hK h1
   rintro c _ ⟨h1,rfl,rfl⟩;refine r7 _ x.p 7 _ ?_ (.skip .tail) rfl;rw[pl _ rfl];rcases Oo with h|h|h<;>rw[h]<;>simp[h1]<;>exact .done
  have hft:x.k≠0->x.k≠16->jS l:=λh0 h1=>hf.tail h0 h1;refine ae.bI (b:=4) (Br.dec (λh4=>?_) (λh4=>?_))
  ·rw[xaf h4]at pl;refine aA.whole (.head _) rfl (deep (.inl h4) λhd=>?_);rw[xac hd]at pl;refine aa.fp (.cons .here) (hg n (dp+1) rb l v1 B zO zO (hft zO zO) hs1) ?_ ?_;rotate_left
   ·rintro c _ ⟨p,e,h1,rfl,rfl⟩;refine r7 _ p e _ ?_ .tail rfl;rw[pl _ rfl];exact .call h1 .done
   rintro p _ ⟨a,l',v',N,h1,h2,h3,h5,rfl,h6⟩;obtain⟨pa,rfl⟩:=h6.ptr;refine aj.kC (e:=64) (z:=.pointer none) [aP pa] zK zK zK (show(1:Nat)<=16777216 by decide) (by simp[Value.oneCell']) rfl rfl λbd=>?_;refine Build.mk (cs:=[nI 4,nI 0,.slice (some ⟨bd,0,none⟩) 1 1]) zK λbt _=>?_;refine ret (.no a) l' v' ((bt,_)::(bd,_)::N) _ _ ?_ h2 h3 h5 (.cons (.cons .tail)) (.no (.head _) (.tail _ (.head _)) (h6.mono λy hy=>.tail _ (.tail _ hy)));rw[pl _ rfl];exact .call h1 .done
  rw[xac h4]at pl
  /- one part, and the sign behind it -/
  have part:∀(k:Nat) (l0:List Tok) (v0:zV) (N0:Hp) (f:Tr->List Tok->Pl) (KK:zV->Hp->Prop),k≠0->k≠16->¬1000<=dp->jS l0->l0.length<=l.length->Sl 3 B v0 (l0.map Tok.cells)->
   (∀(r:Rs),Ev n (.call (.jT 0 (dp+1) l0) λr=>r.cI k f) r->Ev n (fi n (.tight dp (x::l))) r)->
   (∀a l' v' N p,(∀r,Ev n (f a l') r->Ev n (.call (.jT 0 (dp+1) l0) λr=>r.cI k f) r)->jS l'->l'.length<=l0.length->Sl 3 B v' (l'.map Tok.cells)->k9 N a p->KK p (N0++(N++(qs rb v' n::B))))->
   aa zQ g 38 #[aP rb,nI 0,nI (dp+1)] (N0++(qs rb v0 n::B)) (λp H=>aa zQ g 39 #[aP rb,nI k] H (λ_ H'=>KK p H') (cP (lT (PQ n rb B (x::l) (.tight dp (x::l))) (PB n B (.tight dp (x::l))))))
    (cP (lT (PQ n rb B (x::l) (.tight dp (x::l))) (PB n B (.tight dp (x::l))))):=by
   intro k l0 v0 N0 f KK k0 Qe hd Jc MB hs0 qU hK;refine aa.fp (.app .here) (hx n 0 (dp+1) rb l0 v0 B zO zO zO Jc hs0) ?_ ?_;rotate_left
   ·rintro c _ ⟨p,e,h1,rfl,rfl⟩;exact r7 _ p e _ (qU _ (.call h1 .done)) .right rfl
   rintro p _ ⟨a,l',v',N,h1,h2,h3,h5,rfl,h6⟩;obtain⟨y,l2,rfl⟩:=h2.split;refine aa.fp (.app (.app .here)) (q5 k h5) ?_ ?_;rotate_left
   ·rintro c _ ⟨hk,rfl,rfl⟩;refine r7 _ y.p 14 _ (qU _ (.call h1 ?_)) (.cw .right) rfl;show Ev n (if y.k=k then _ else _) _;rw[xac hk];exact .done
   rintro r _ ⟨hk,v2,rfl,kj⟩;refine hK a l2 v2 N p (λr hr=>.call h1 ?_) (h2.tail zO zO) (by have:=h3;simp only[xak]at this;omega) kj h6;show Ev n (if y.k=k then _ else _) _;rw[xaf hk];exact hr
  refine ae.bI (b:=10) (Br.dec (λh10=>?_) (λh10=>?_))
  ·rw[xaf h10]at pl;refine aA.whole (.head _) rfl (deep (.inr (.inl h10)) λhd=>?_);rw[xac hd]at pl;refine part 11 l v1 [_] (λa l2=>.done (.ok a l2)) _ zD zD hd (hft zO zO) (xal _) hs1 (λr hr=>by rw[pl _ rfl];exact hr) λa l' v' N p qU yO hl' hs' ht=>?_;refine ret a l' v' N _ _ ?_ yO hl' hs' .tail ht;rw[pl _ rfl];exact qU _ .done
  rw[xac h10]at pl;refine ae.bI (b:=12) (Br.dec (λh12=>?_) (λh12=>?_))
  ·rw[xaf h12]at pl;refine aA.whole (.head _) rfl (deep (.inr (.inr h12)) λhd=>?_);rw[xac hd]at pl;refine part 13 l v1 [_] _ _ zD zD hd (hft zO zO) (xal _) hs1 (λr hr=>by rw[pl _ rfl];exact hr) λa l2 v2 N p LP BS ve kj Kf=>?_;rw[<-xat];refine part 14 l2 v2 _ _ _ zD zD hd BS ve kj (λr hr=>by rw[pl _ rfl];exact LP _ hr) λb l3 v3 N2 p2 MY OE I3 N1 BP=>?_;rw[<-xat];refine part 15 l3 v3 _ _ _ zD zD hd OE zO N1 (λr hr=>by rw[pl _ rfl];exact LP _ (MY _ hr)) λc l4 v4 N3 p3 Pq OD Qs NZ C5=>?_;obtain⟨pa,rfl⟩:=Kf.ptr;obtain⟨pb,rfl⟩:=BP.ptr;obtain⟨pc,rfl⟩:=C5.ptr;refine aj.kC (e:=64) (z:=.pointer none) [aP pa,aP pb,aP pc] zK zK zK (show(3:Nat)<=16777216 by decide) (by simp[Value.oneCell']) rfl rfl λbd=>?_;refine Build.mk (cs:=[nI 12,nI 0,.slice (some ⟨bd,0,none⟩) 3 3]) zK λbt _=>?_;refine ret (.ite a b c) l4 v4 ((bt,_)::(bd,_)::(N++(N2++N3))) _ _ ?_ OD zO NZ ?_ (.ite (.head _) (.tail _ (.head _)) (Kf.mono λy hy=>?_) (BP.mono λy hy=>?_) (C5.mono λy hy=>?_))
   ·rw[pl _ rfl];exact LP _ (MY _ (Pq _ .done))
   ·simp only[xaF,xat,xaU];exact .cons (.cons .tail)
   ·exact .tail _ (.tail _ (xad _ hy))
   ·exact .tail _ (.tail _ (xaa _ (xad _ hy)))
   exact .tail _ (.tail _ (xaa _ (xaa _ hy)))
  rw[xac h12]at pl;refine aA.whole (.head _) rfl (aa.fp .here (jI x 14 _) (λv C' h=>h.elim) λch C' h'=>?_);obtain⟨rfl,rfl⟩:=h';refine r7 _ x.p 14 _ ?_ (.skip .tail) rfl;rw[pl _ rfl];exact .done
 refine ae.bI (b:=1) (Br.dec (λh1=>?_) (λh1=>?_))
 ·exact main _ (by simp[h1])
 exact ae.bI (b:=2) (main _ (by simp[h1]))
theorem qe:∀m,TX m/\TG m
 |0=>⟨λn lv dp rb l v B hm hlv _ hf _=>by omega,λn dp rb l v B hm _ hf _=>by
   obtain⟨x,l,rfl⟩:=hf.split;simp only[xak]at hm;omega⟩
 |m+1=>⟨vV m (qe m).1 (qe m).2,rW m (qe m).1 (qe m).2⟩
def FX(g:Gh)(a0 a1 a2 v3:zV)(H:Hp)(K:Hp->Prop):Prop:=
aG zQ g (bQ Tryz.f36 1 1) (ev (λs=>cond (Nat.beq s 7) v3 (undef))) H λv5=>
Br v5 (
aG zQ g (bQ Tryz.f36 2 1) (ev (λs=>cond (Nat.beq s 10) v3 (undef))) H λv6=>
Ext 0 v6 λv7=>
Ext 1 v6 λv8=>
vK H (.cells #[(Value.int .i64 0),(Value.int .i64 0)] 88 zZ) λb9 Mb=>
St 2 Mb (.pointer (some ⟨b9,0,none⟩)) v7 λF1=>
∀JD:Jt,(∀F0:Hp,(∀Pn:Fr,
DR F0 λJC=>
ah 0 (.pointer (some ⟨b9,0,none⟩)) λNI=>
Ld JC NI λNH=>
ah 1 (.pointer (some ⟨b9,0,none⟩)) λNG=>
Ld JC NG λNF=>
St 1 F0 a0 (.pointer none) λMa=>
aN Ma JC/\
St 1 Ma a1 NH λL9=>
aN L9 JC/\
St 1 L9 a2 NF λNa=>
K Na)->JD [] F0)->
Un .not v8 λJI=>
Br JI (
cg zQ g (bQ Tryz.f36 4 1) (ev (λs=>cond (Nat.beq s 16) v3 (undef))) F1 (λMn L6=>
JE JD [] L6) (λ_ _=>∀_:Fr,False)) (
JE JD [] F1)) (
K H)
theorem u3{g:Gh}{a0 a1 a2 v:zV}{u u':FrameMode}{H:Hp}{K:Hp->Prop}(hu:(u=.returning/\v=.nilIface/\u'=.returning)\/(u=.panicking [{v,recovered:=false}]/\u'=.panicking [{v,recovered:=true}]))
 (h:FX g a0 a1 a2 v H K):je zQ 36 g #[a0,a1,a2] u H K:=by
 refine je.rec (args:=[a0,a1,a2]) (hn:=(.n .e (.n (.n .e (.h 1 [] [0,1,2,4] .e (.h 0 [0,1,2,3,4,5,6] [] .e .e))) .e))) func36 rfl rfl rfl rfl rfl rfl rfl rfl rfl rfl rfl hu ?_;refine Eq.mpr (?_:_=FX g a0 a1 a2 v H K) h;kernel_rfl
theorem zW{g:Gh}{b4 b6 b8 at_ e:Nat}{x4 x6 x8:zV}{X B:Hp}{K:Hp->Prop}
 (hk:∀b9,K ((b9,.cells #[nI at_,nI e] 88 zZ)::(X++((b8,.cells #[nI e] 25 zZ)::(b6,.cells #[nI at_] 3 zZ)::(b4,.cells #[.pointer none] 64 zZ)::B)))):
  FX g (aP b4) (aP b6) (aP b8) (.iface 88 (.agg #[nI at_,nI e])) (X++((b8,.cells #[x8] 25 zZ)::(b6,.cells #[x6] 3 zZ)::(b4,.cells #[x4] 64 zZ)::B)) K:=by
 refine aG.vb rfl rfl rfl ⟨#[],by kernel_rfl⟩ (.inr ⟨_,_,rfl,rfl⟩) (Br.yes ?_);refine aG.DE rfl rfl zK (Ext.mk rfl (Ext.mk rfl λb9 _=>St.whole (r:=[nI at_,nI e]) (.head _) rfl rfl (by simp[Value.oneCell']) λJD h12=>?_));refine Un.not (Br.no (JE.mk (h12 _ λ_=>?_)));refine DR.of (.fm (.head _)) (Ld.u (.head _) (Ld.u (.head _) ?_));refine St.one (c':=#[.pointer none]) (.tail (.aB (.tail (.tail (.head _))) _)) rfl (show(0:Nat)<1 by decide) rfl ⟨.fm (.head _),?_⟩;refine St.one (c':=#[nI at_]) (.tail (.aB (.tail (.head _)) _)) rfl (show(0:Nat)<1 by decide) rfl ⟨.fm (.head _),?_⟩;exact St.one (c':=#[nI e]) (.tail (.aB (.head _) _)) rfl (show(0:Nat)<1 by decide) rfl (hk b9)
set_option maxHeartbeats 1000000 in
theorem wZ(l:List UInt8)(n:Nat)(B:Hp):Fc zQ 23 #[ag l,nI n] B (λr H=>∃N,H=N++B/\((∃t l' p,Reads n l (.ok t l')/\r=.tuple #[p,nI 0,nI 0]/\k9 N t p)\/∃at_ e,Reads n l (.bad at_ e)/\r=.tuple #[.pointer none,nI at_,nI e])):=by
 refine aU λg=>yx λb4 _ b6 _ b8 _=>au.of (ae.iU (b:=65536) (Br.dec (λhl=>?_) (λhl=>?_)))
 ·refine St.one (c':=#[.pointer none]) (.tail (.tail (.head _))) rfl (show(0:Nat)<1 by decide) rfl ?_;refine St.one (c':=#[nI 0]) (.tail (.head _)) rfl (show(0:Nat)<1 by decide) rfl ?_;refine St.one (c':=#[nI 13]) (.head _) rfl (show(0:Nat)<1 by decide) rfl (Ld.mk (.tail _ (.tail _ (.head _))) rfl (Ld.mk (.tail _ (.head _)) rfl (Ld.mk (.head _) rfl ?_)));exact bc.mk (.skip (.skip .tail)) ⟨[],rfl,.inr ⟨0,13,.wA hl,rfl⟩⟩
 have hl:l.length<=65536:=by omega
 refine aa.fn .here (AO l hl _) ?_;rintro tv _ ⟨o,N,rfl,ht,hlen,hs⟩;obtain⟨a,c,rfl⟩:=hs.len;refine Build.mk (cs:=[.slice a (o.map Tok.cells).length c,nI n]) zK λPA _=>?_;obtain⟨i,t,ho,hk,hi⟩:=ht.last;have fail:∀(ch:List PanicEntry) (X:Hp) (x4 x6 x8:zV) (at_ e:Nat),ch=GA at_ e->Reads n l (.bad at_ e)->∀R:Rt,R=bc (λr H=>∃N,H=N++B/\((∃t l' p,Reads n l (.ok t l')/\r=.tuple #[p,nI 0,nI 0]/\k9 N t p)\/∃at_ e,Reads n l (.bad at_ e)/\r=.tuple #[.pointer none,nI at_,nI e]))->
   je zQ 36 g #[aP b4,aP b6,aP b8] (.panicking ch) (X++((b8,.cells #[x8] 25 zZ)::(b6,.cells #[x6] 3 zZ)::(b4,.cells #[x4] 64 zZ)::B)) (λH=>Ld H (aP b4) λv1=>Ld H (aP b6) λv2=>Ld H (aP b8) λv3=>R (.returned (.tuple #[v1,v2,v3])) H):=by
  rintro _ X x4 x6 x8 at_ e rfl hr _ rfl;refine u3 (.inr ⟨rfl,rfl⟩) (zW λb9=>?_);refine Ld.mk (.tail _ (xaa _ (.tail _ (.tail _ (.head _))))) rfl (Ld.mk (.tail _ (xaa _ (.tail _ (.head _)))) rfl (Ld.mk (.tail _ (xaa _ (.head _))) rfl ?_));exact bc.mk (.skip (.cw (.skip (.skip .tail)))) ⟨[],rfl,.inr ⟨at_,e,hr,rfl⟩⟩
 refine aa.fp .left ((qe _).1 n 0 0 PA o _ N (xal _) zD zD ⟨i,t,ho,hk,hi⟩ (.eD hs zD)) ?_ ?_;rotate_left
 ·rintro ch _ ⟨p,e,h1,rfl,rfl⟩ _;exact fail _ _ _ _ _ p e rfl (.mk hl ht (.call h1 .done)) _ rfl
 rintro p _ ⟨t,l',v',N2,h1,h2,h3,h4,rfl,h6⟩;obtain⟨pt,rfl⟩:=h6.ptr;refine St.one (c':=#[aP pt]) (.aB (.tail (.tail (.head _))) _) rfl (show(0:Nat)<1 by decide) rfl ?_;obtain⟨y,l2,rfl⟩:=h2.split;refine aa.pre aN.assoc (aa.fp (.app .left) (q5 0 h4) ?_ ?_);rotate_left
 ·rintro ch _ ⟨Kx,rfl,rfl⟩ _;rw[<-xat];refine fail _ _ _ _ _ y.p 14 rfl (.mk hl ht (.call h1 ?_)) _ rfl;show Ev n (if y.k=0 then _ else _) _;rw[xac Kx];exact .done
 rintro _ _ ⟨Kx,v2,rfl,kj⟩;refine Ld.mk (xaa _ (xaa _ (.tail _ (.tail _ (.head _))))) rfl ?_;refine St.one (c':=#[aP pt]) (.aB (.aB (.tail (.tail (.head _))) _) _) rfl (show(0:Nat)<1 by decide) rfl ?_;refine St.one (c':=#[nI 0]) (.aB (.aB (.tail (.head _)) _) _) rfl (show(0:Nat)<1 by decide) rfl ?_;refine St.one (c':=#[nI 0]) (.aB (.aB (.head _) _) _) rfl (show(0:Nat)<1 by decide) rfl ?_;refine u3 (v:=.nilIface) (u':=.returning) (.inl ⟨rfl,rfl,rfl⟩) (aG.vb rfl rfl rfl ⟨#[],by kernel_rfl⟩ (.inl ⟨rfl,rfl,_,rfl⟩) (Br.no ?_));refine Ld.mk (xaa _ (xaa _ (.tail _ (.tail _ (.head _))))) rfl (Ld.mk (xaa _ (xaa _ (.tail _ (.head _)))) rfl (Ld.mk (xaa _ (xaa _ (.head _))) rfl ?_));refine bc.mk (.cL (.cw (.skip (.skip .tail))) N2) ⟨N2,rfl,.inl ⟨t,l2,aP pt,.mk hl ht (.call h1 ?_),rfl,h6⟩⟩;show Ev n (if y.k=0 then _ else _) _;rw[xaf Kx];exact .done
end
section
open Fm ay
section
variable {kp:Nat} {K K1 K2:Kd} {S S1 S2:Nat->ay.Fn} {ord af tr:zL} {C:Hp}
structure aQ(K:Kd)(S:Nat->ay.Fn)(K':Kd)(S':Nat->ay.Fn)(xs:zL):Prop where
 n:K'.n=K.n
 cap:K'.cap=K.cap
 fn:∀s,K.hold s≠0->S' s=S s
 hold:∀s,K'.hold s=K.hold s+if 2<=s then xs.count s else 0
theorem aQ.refl:aQ K S K S []:=⟨rfl,rfl,λ_ _=>rfl,λs=>by simp⟩
theorem aQ.grow{xs:zL}{f:ay.Fn}{x:Nat}(h:aQ K S K1 S1 xs)(hl:∀s,K1.hold s≠0->ay.live K1.N s)(hg:BL K1 S1 K2 S2 f x):aQ K S K2 S2 (xs++[x]):=
 ⟨hg.n.trans h.n,hg.cap.trans h.cap,λs hs=>by
  rw[hg.fn s (hl s (by rw[h.hold];omega)),h.fn s hs],λs=>by
  rw[hg.hold,h.hold,xa2,xbQ];by_cases h2:2<=s
  ·by_cases hx:s=x
   ·subst hx;simp[h2];omega
   have:(x==s)=false:=by simp;exact λh=>hx h.symm
   simp[h2,hx,this]
  have:¬(s=x/\2<=x):=λh=>h2 (h.1▸h.2);simp[h2,this]⟩
theorem aQ.more{xs ys:zL}(h:aQ K S K1 S1 xs)(h':aQ K1 S1 K2 S2 ys):aQ K S K2 S2 (xs++ys):=
 ⟨h'.n.trans h.n,h'.cap.trans h.cap,λs hs=>by rw[h'.fn s (by rw[h.hold];omega),h.fn s hs],λs=>by
  rw[h'.hold,h.hold,xa2];split<;>omega⟩
theorem aQ.kept{xs:zL}(h:aQ K S K1 S1 xs)(hk:Kept K1 S1 K2 S2):aQ K S K2 S2 xs:=
 ⟨hk.n.trans h.n,hk.cap.trans h.cap,λs hs=>by rw[hk.fn s (by rw[h.hold];omega),h.fn s hs],λs=>by rw[hk.hold,h.hold]⟩
theorem aQ.EB{r:Nat}{xs:zL}(h:aQ K S K1 S1 (r::xs))(hf:BM K1 K2 r):aQ K S K2 S1 xs:=
 ⟨hf.n.trans h.n,hf.cap.trans h.cap,h.fn,λs=>by
  rw[hf.hold,h.hold,xcm];by_cases h2:2<=s
  ·by_cases hx:s=r
   ·subst hx;simp[h2]
   have:(r==s)=false:=by simp;exact λh=>hx h.symm
   simp[h2,hx,this]
  have:¬(s=r/\2<=r):=λh=>h2 (h.1▸h.2);simp[h2,this]⟩
theorem aQ.perm{xs ys:zL}(h:aQ K S K1 S1 xs)(hp:xs.Perm ys):aQ K S K1 S1 ys:=
 ⟨h.n,h.cap,h.fn,λs=>by rw[h.hold,hp.count_eq]⟩
theorem aQ.held{xs:zL}(h:aQ K S K1 S1 xs){P:ay.Fn->Prop}(hx:∀x∈xs,P (S1 x))(g:ay.Fn)(hg:K1.held S1 g):K.held S g\/P g:=by
 obtain⟨s,hs,rfl⟩:=hg;by_cases h0:K.hold s=0
 ·right;have hs':K1.hold s≠0:=hs;rw[h.hold,h0]at hs';by_cases h2:2<=s
  ·rw[xaf h2]at hs';exact hx s (xcn.1 zO)
  rw[xac h2]at hs';exact absurd rfl hs'
 left;exact⟨s,h0,h.fn s h0⟩
theorem aQ.le{xs:zL}(h:aQ K S K1 S1 xs)(s:Nat):K1.hold s<=K.hold s+xs.length:=by
 rw[h.hold];have:=List.count_le_length (a:=s) (l:=xs);split<;>omega
theorem A4{b3 b1:Nat}{v:zV}{L M:Hp}{xs ys:zL}(hv:aR 82 .u32 v (iw xs) L)(hh:aQ K S K1 S1 (xs++ys))(hK:cj kp K1 S1 ord af tr C)(hl:∀x∈xs,x<4294967296)(hm:xs.length<=3):
  Nb zQ 124 #[ptr b3,ptr b1] ((b3,.cells #[v] 189 zZ)::(b1,.cells #[ptr kp] 45 zZ)::(L++(M++C))) (λ_ H=>∃K2 C2 gv,H=(b3,.cells #[v] 189 zZ)::(b1,.cells #[ptr kp] 45 zZ)::(L++(M++C2))/\cj kp K2 S1 ord af gv C2/\aQ K S K2 S1 ys/\(gv=tr\/gv=[])):=by
 refine λg=>rO (Ld.mk (.head _) rfl (hv.cx ?_));refine⟨λvs H=>∃(i:Nat) (K2:Kd) (C2:Hp) (gv:zL),vs=[nI i]/\i<=xs.length/\H=(b3,.cells #[v] 189 zZ)::(b1,.cells #[ptr kp] 45 zZ)::(L++(M++C2))/\cj kp K2 S1 ord af gv C2/\aQ K S K2 S1 (xs.drop i++ys)/\(gv=tr\/gv=[]),λvs _=>xs.length-dx vs 0,JE.mk ⟨0,K1,C,tr,rfl,xaB _,rfl,hK,hh,.inl rfl⟩,?_⟩;rintro w7 H ⟨i,K2,C2,gv,⟨⟩,hi,rfl,dK,yN,nL⟩ gs;rw[aV];refine ae.dX (Br.dec (λh=>?_) (λh=>?_))
 ·have hg:xs[i]? =some xs[i]:=xab h;refine hv.ld (gI hg) (λy hy=>.tail _ (.tail _ (xad _ hy))) (Ld.mk (.tail _ (.head _)) rfl ?_);rw[xaX h,xaF]at yN;refine aa.fn (args:=#[ptr kp,u32 xs[i]]) (.cons (.cons (.app (.app .here)))) (pO dK (hl _ (xaP h)) (λh2=>by rw[yN.hold,xaf h2,List.count_cons_self];omega)) ?_;rintro _ C3 ⟨rfl,K3,p6,hf⟩;exact ae.inc (aI.of (.refl _) ⟨i+1,K3,C3,[],rfl,h,rfl,p6,yN.EB hf,.inr rfl⟩ (by simp only[dx];omega))
 have:i=xs.length:=by omega
 subst this;rw[xbI,xaU]at yN;exact bc.mk (.refl _) ⟨K2,C2,gv,rfl,dK,yN,nL⟩
def BO(kp:Nat)(K:Kd)(S:Nat->ay.Fn)(ord af:zL)(f:ay.Fn)(P:ay.Fn->Prop)(w:zV)(H:Hp):Prop:=
 (∃x K' S' e5,w=.tuple #[u32 x,nI 0]/\cj kp K' S' ord af e5 H/\aQ K S K' S' [x]/\ay.live K'.N x/\S' x=f/\e5=[])\/
 (w=.tuple #[u32 0,nI 9]/\(∃K' S' e5,cj kp K' S' ord af e5 H/\aQ K S K' S' [])/\¬Fits (aJ K.n ord (λg=>K.held S g\/P g)) K.cap)
end
end
section
open Fm Sw
def cu(t:List UInt8)(a e:Nat):List zV:=[ag t,nI a,nI e]
abbrev dM(t:List UInt8)(a e:Nat):zV:=.agg (cu t a e).toArray
theorem aE(t:List UInt8)(a e:Nat):∀u∈cu t a e,u.oneCell'=true:=λu hu=>by
 simp only[cu,xag,xax,xa3]at hu;rcases hu with rfl|rfl|rfl<;>rfl
theorem cU(a e:Nat)(B:Hp):Rd zQ 16 #[nI a,nI e] B (· =dM [] a e):=by
 refine aU λg=>yG λb1 _=>Build.mk (cs:=cu [] a e) zK (St.whole (r:=cu [] a e) (.head _) rfl rfl (aE _ _ _) (aA.whole (r:=cu [] a e) (.head _) rfl ?_));exact bH.mk .tail rfl
theorem jo(t:List UInt8)(e:Nat)(B:Hp):Rd zQ 103 #[ag t,nI e] B (· =if e=0 then dM t 0 0 else dM [] 0 e):=by
 refine aU λg=>uG λb1 _=>ae.pn (b:=0) (Br.dec (λh=>?_) (λh=>?_))
 ·refine aa.eq (cU 0 e _) (St.whole (r:=cu [] 0 e) (.head _) rfl rfl (aE _ _ _) (aA.whole (r:=cu [] 0 e) (.head _) rfl ?_));exact bH.mk .tail (by rw[xac h])
 have h:e=0:=xdu.1 h;subst h;refine Build.mk (cs:=cu t 0 0) zK (St.whole (r:=cu t 0 0) (.head _) rfl rfl (aE _ _ _) (aA.whole (r:=cu t 0 0) (.head _) rfl ?_));exact bH.mk .tail rfl
def gR(w:Wd×Nat):List zV:=[ag w.1.t,nI w.1.a,nI w.1.e,nI w.2]
theorem pW(w:Wd×Nat):∀u∈gR w,u.oneCell'=true:=λu hu=>by
 simp only[gR,xag,xax,xa3]at hu;rcases hu with rfl|rfl|rfl|rfl<;>rfl
abbrev II(es:Array MapEntry)(ck:Nat)(ns:List (List UInt8×Nat)):Prop:=br ag (λv (r:Nat)=>v=u32 r) es ck ns
def gm(ns:List (List UInt8×Nat))(t:List UInt8):Bool:=(bR ns t).isSome
def oS(sh:List UInt8)(ws:List Wd)(m:Nat)(b:List UInt8->Bool)(r:zV)(N:Hp):Prop:=
 (∃p,r6 m sh ws=some p/\r=.tuple #[.slice none 0 0,dM [] p 14])\/
 (r6 m sh ws=none/\∃p,uT b sh ws=some p/\r=.tuple #[.slice none 0 0,dM [] p 15])\/
 (r6 m sh ws=none/\uT b sh ws=none/\∃v,r=.tuple #[v,dM [] 0 0]/\aC 78 4 v ((rdv sh ws).map gR) N)
theorem uS:∀(sh:List UInt8) (ws:List Wd) (j:Nat) (c:UInt8) (w:Wd),sh[j]? =some c->ws[j]? =some w->(rdv sh ws)[j]? =some (w,(vI c w.t).getD 0)
 | [],ws,j,c,w,h,_=>by simp at h
 |_::_,[],j,c,w,_,h=>by simp at h
 |a::sh,x::ws,0,c,w,h1,h2=>by cases h1;cases h2;rfl
 |a::sh,x::ws,j+1,c,w,h1,h2=>uS sh ws j c w (by simpa using h1) (by simpa using h2)
theorem DL{c:UInt8}{t:List UInt8}:(vI c t)=if c.toNat=110 then EX t else if nJ t then some 0 else none:=by
 unfold vI;have:=B7 c 110 zD;by_cases h:c=110
 ·rw[xaf h,xaf (this.2 h)]
 rw[xac h,xac λe=>h (this.1 e)]
set_option maxHeartbeats 4000000 in
theorem Cj{sp mb:Nat}{kv:zV}{T:TypeId}{fz:Nat×Nat}{es:Array MapEntry}{ck:Nat}{ns:List (List UInt8×Nat)}{B:Hp}(hE:II es ck ns)(hsp:(sp,Obj.cells #[kv,.map (some mb)] T fz)∈B)(hmb:(mb,Obj.map es ck)∈B)
 (shape:List UInt8)(Gf:shape.length<=3)(ws:List Wd)(Qf:ws.length<=400)(Ef:∀w∈ws,w.t.length<=400){v:zV}(hv:Sl 3 B v (ws.map Wd.cells))(m:Nat)
 (Fg:shape=[43]->∀B:Hp,Fc zQ 31 #[ag [110],nI ws.length] B (λv H=>v=ag (List.replicate ws.length 110)/\H=B)):
  Fc zQ 19 #[ptr sp,ag shape,v,nI m] B (λr H=>∃N,H=N++B/\oS (vY shape ws) ws m (gm ns) r N):=by
 refine aU λg=>yD λb1 _ J3 h3=>?_;have go:∀(sh:List UInt8),sh.length<=400->sh=vY shape ws->J3 [ag sh] ((b1,Obj.cells #[ag [],nI 0,nI 0] 27 zZ)::B):=λsh hsh Kh=>by
  refine h3 _ _ λ_=>?_;rw[<-Kh];refine hv.cx ?_;rw[xaw];refine⟨λvs H=>∃(i:Nat) (acc:List (Wd×Nat)) (C:Hp) (v:zV),vs=[v,nI i]/\i<=ws.length/\acc.length=i/\i<=sh.length/\r6 m sh ws=r6 m (sh.drop i) (ws.drop i)/\rdv sh ws=acc++rdv (sh.drop i) (ws.drop i)/\aC 78 4 v (acc.map gR) C/\H=C++((b1,Obj.cells #[ag [],nI 0,nI 0] 27 zZ)::B),λvs _=>ws.length-dx vs 1,
   JE.mk ⟨0,[],[],_,rfl,xaB _,rfl,xaB _,rfl,rfl,aC.nil _ _,rfl⟩,?_⟩
  rintro GL IT H ⟨i,acc,C,va,⟨⟩,hi,hal,Qt,hf,Ak,hs,rfl⟩ gs;have sub:∀y∈B,y∈C++((b1,Obj.cells #[ag [],nI 0,nI 0] 27 zZ)::B):=λy hy=>xaa _ (.tail _ hy)
  /- a fault told -/
  have bad:∀(p e:Nat) (X:Hp),oS sh ws m (gm ns) (.tuple #[.slice none 0 0,dM [] p e]) []->aN ((b1,Obj.cells (cu [] p e).toArray 27 zZ)::X) B->
    ∀Y Y':Hp,bW b1 (.cells #[ag [],nI 0,nI 0] 27 zZ) (.cells (cu [] p e).toArray 27 zZ) Y Y'->aN Y' ((b1,Obj.cells (cu [] p e).toArray 27 zZ)::X)->(b1,Obj.cells (cu [] p e).toArray 27 zZ)∈Y'->
    aa zQ g 16 #[nI p,nI e] Y (λv H=>St 3 H (.pointer (some ⟨b1,0,none⟩)) v λFZ=>aA 3 FZ (.pointer (some ⟨b1,0,none⟩)) λGM=>bc (λr H=>∃N,H=N++B/\oS sh ws m (gm ns) r N) (.returned (.tuple #[(.slice none 0 0),GM])) FZ) (cP (bc (λr H=>∃N,H=N++B/\oS sh ws m (gm ns) r N))):=λp e X hR hE Y Y' hU hY hm=>by
   refine aa.eq (cU p e _) (St.whole (r:=cu [] p e) hU rfl rfl (aE _ _ _) (aA.whole (r:=cu [] p e) hm rfl ?_));exact bc.mk (hY.trans hE) ⟨[],rfl,hR⟩
  refine ae.dX (Br.dec (λhlt=>?_) (λhge=>?_))
  ·have hw:ws[i]? =some ws[i]:=xab hlt;have CW:=xaX hlt;have yK:=Ef _ (xaP hlt);generalize ws[i]=w at hw CW yK;rw[CW]at hf Ak;refine ai.sl hv (r:=w.cells) (by rw[xaC,hw];rfl) λp hp=>aA.at hp rfl zD sub λM5 _=>?_;refine St.whole (r:=w.cells) (.head _) rfl rfl w.one (au.of (ae.nw (Br.dec (λhge=>?_) (λFo=>?_))))
   ·refine Ld.u (v:=nI w.a) (.head _) (bad w.a 14 B (.inl ⟨w.a,?_,rfl⟩) .tail _ _ (.tail ((bW.head _).aB C)) (.skip (.cw (.refl _))) (.tail _ (xaa _ (.head _))));rw[hf,xaQ hge];rfl
   obtain⟨c,hc,hcd⟩:=iX (l:=sh) (i:=i) zO;rw[hcd]at hf Ak;refine aA.whole (r:=w.cells) (.head _) rfl (Build.mk (cs:=gR (w,0)) zK λPC _=>St.whole (r:=gR (w,0)) (.head _) rfl rfl (pW _) λPR Pf=>?_);have G8:∀(o:Option Nat),vI c w.t=o->PR [.bool o.isSome] ((PC,.cells (gR (w,o.getD 0)).toArray 78 zZ)::(M5,.cells w.cells.toArray 58 zZ)::(C++((b1,Obj.cells #[ag [],nI 0,nI 0] 27 zZ)::B))):=λo ho=>by
    refine Pf _ _ λ_=>Un.not ?_;cases o with
    |none=>
     refine Br.yes (Ld.u (v:=nI w.a) (.tail _ (.head _)) (bad w.a 14 B (.inl ⟨w.a,?_,rfl⟩) .tail _ _ (.tail (.tail ((bW.head _).aB C))) (.skip (.skip (.cw (.refl _)))) (.tail _ (.tail _ (xaa _ (.head _))))));rw[hf];show(if(vI c w.t).isNone then _ else _)=_;rw[ho];rfl
    |some n=>
     refine Br.no (aA.whole (r:=gR (w,n)) (.head _) rfl (aj.one (e:=78) (z:=.agg #[ag [],nI 0,nI 0,nI 0]) (k:=4) zK zK zK zD rfl λbs=>?_));refine hs.nP (.cons (.cons (.cons .left))) (.head _) rfl (pW _) ⟨[_,_,_,_],rfl,rfl⟩ (by rw[xaw];omega) (by rw[xaw];omega) λv' C' cy=>?_;refine ae.inc (aI.of (.skip (.skip .tail)) ⟨i+1,acc++[(w,n)],C',v',rfl,hlt,by simp[hal],by omega,?_,?_,by rw[xau];exact cy,rfl⟩ (by simp only[dx];omega))
     ·rw[hf];show(if(vI c w.t).isNone then _ else _)=_;rw[ho];rfl
     rw[Ak,xat];show acc++((w,(vI c w.t).getD 0)::_)=_;rw[ho];rfl
   have iz:=DL (c:=c) (t:=w.t);refine aY.of hc (ae.bI (b:=110) (Br.dec (λFH=>?_) (λFH=>?_)))
   ·rw[xaf FH]at iz;refine Ld.u (v:=ag w.t) (.tail _ (.head _)) (aa.eq (rZ w.t yK _) ?_);cases hn:EX w.t with
    |none=>exact Ext.mk rfl (Ext.mk rfl (.mk (St.one (c':=(gR (w,0)).toArray) (.head _) rfl (show 3<4 by decide) rfl (JE.mk (G8 none (by rw[iz,hn]))))))
    |some n=>exact Ext.mk rfl (Ext.mk rfl (.mk (St.one (c':=(gR (w,n)).toArray) (.head _) rfl (show 3<4 by decide) rfl (JE.mk (G8 (some n) (by rw[iz,hn]))))))
   ·rw[xac FH]at iz;refine Ld.u (v:=ag w.t) (.tail _ (.head _)) (aa.eq (qk sp w.t yK _) ?_);cases hn:nJ w.t with
    |false=>exact JE.mk (G8 none (by rw[iz,hn];rfl))
    |true=>exact JE.mk (G8 (some 0) (by rw[iz,hn];rfl))
  ·have Ou:i=ws.length:=by omega
   subst Ou;refine hv.cx (au.of ?_);rw[xaw];refine ae.dX (Br.dec (λiu=>?_) (λQo=>?_))
   ·refine bad m 14 B (.inl ⟨m,?_,rfl⟩) .tail _ _ ((bW.head _).aB C) (.cw (.refl _)) (xaa _ (.head _));obtain⟨c,_,hcd⟩:=iX iu;rw[hf,xbI,hcd];rfl
   have C8:sh.length=ws.length:=by omega
   have Jc:r6 m sh ws=none:=by rw[hf,xbI,xaQ zO];rfl
   have Mz:rdv sh ws=acc:=by
    rw[Ak,xbI,xaQ zO];show acc++[]=acc;exact xaT _
   refine hs.cx ?_;rw[xaw,hal];refine⟨λvs H=>∃j:Nat,vs=[nI j]/\j<=ws.length/\uT (gm ns) sh ws=uT (gm ns) (sh.drop j) (ws.drop j)/\H=C++((b1,Obj.cells #[ag [],nI 0,nI 0] 27 zZ)::B),λvs _=>ws.length-dx vs 0,
    JE.mk ⟨0,rfl,xaB _,rfl,rfl⟩,?_⟩
   rintro P4 H ⟨j,⟨⟩,hj,hn,rfl⟩ Pm;refine ae.dX (Br.dec (λhlt=>?_) (λKG=>?_))
   ·obtain⟨c,hc,hcd⟩:=iX (l:=sh) (i:=j) zO;have hw:ws[j]? =some ws[j]:=xab hlt;have CW:=xaX hlt;generalize ws[j]=w at hw CW;have dY:=uS sh ws j c w hc hw;rw[Mz]at dY;generalize (vI c w.t).getD 0=n at dY;rw[hcd,CW]at hn;refine hs.u6 (r:=gR (w,n)) (by rw[xaC,dY];rfl) (λy hy=>xad _ hy) λGG _=>?_;refine St.whole (r:=gR (w,n)) (.head _) rfl rfl (pW _) (Ld.v (v:=.map (some mb)) (.tail _ (sub _ hsp)) (.mk (Ld.u (v:=ag w.t) (.head _) ?_)));have Ik:=B7 c 115 zD;have step:∀t:Bool,gm ns w.t=t->∀x:zV,Ext 0 (.tuple #[x,.bool t]) λQb=>Ext 1 (.tuple #[x,.bool t]) λNm=>
      aY (ag sh) (nI j) λNl=>ae .num .eql Nl (.int .u8 115) λNk=>
      bO Nk true (λt96=>Un .not Nm λNj=>((GG,Obj.cells (gR (w,n)).toArray 78 zZ)::(C++((b1,Obj.cells #[ag [],nI 0,nI 0] 27 zZ)::B))=(GG,Obj.cells (gR (w,n)).toArray 78 zZ)::(C++((b1,Obj.cells #[ag [],nI 0,nI 0] 27 zZ)::B))/\Nj=Value.bool t96)) (λt96=>(Value.bool false)=Value.bool t96) λt96=>∀Pk:Fr,
      Br (Value.bool t96) (ah 0 (.pointer (some ⟨GG,0,none⟩)) λNi=>ah 1 Ni λJL=>Ld ((GG,Obj.cells (gR (w,n)).toArray 78 zZ)::(C++((b1,Obj.cells #[ag [],nI 0,nI 0] 27 zZ)::B))) JL λJK=>
       aa zQ g 16 #[JK,nI 15] ((GG,Obj.cells (gR (w,n)).toArray 78 zZ)::(C++((b1,Obj.cells #[ag [],nI 0,nI 0] 27 zZ)::B))) (λv H=>St 3 H (.pointer (some ⟨b1,0,none⟩)) v λFZ=>aA 3 FZ (.pointer (some ⟨b1,0,none⟩)) λGM=>bc (λr H=>∃N,H=N++B/\oS sh ws m (gm ns) r N) (.returned (.tuple #[(.slice none 0 0),GM])) FZ) (cP (bc (λr H=>∃N,H=N++B/\oS sh ws m (gm ns) r N))))
      (ae .num .add (nI j) (nI 1) λJJ=>aI (λvs H=>∃j:Nat,vs=[nI j]/\j<=ws.length/\uT (gm ns) sh ws=uT (gm ns) (sh.drop j) (ws.drop j)/\H=C++((b1,Obj.cells #[ag [],nI 0,nI 0] 27 zZ)::B)) (λvs _=>ws.length-dx vs 0) [JJ] ((GG,Obj.cells (gR (w,n)).toArray 78 zZ)::(C++((b1,Obj.cells #[ag [],nI 0,nI 0] 27 zZ)::B))) [nI j] (C++((b1,Obj.cells #[ag [],nI 0,nI 0] 27 zZ)::B))):=λt ht x=>by
     refine Ext.mk rfl (Ext.mk rfl (aY.of hc (ae.bI (b:=115) (bO.and (!t) (λ_=>Un.not ⟨rfl,rfl⟩) rfl λ_=>?_))));by_cases su:c=115/\t=false
     ·obtain⟨rfl,rfl⟩:=su;refine Br.EJ (by rw[xaN (Ik.2 rfl)];rfl) (.mk (Ld.u (v:=nI w.a) (.head _) (bad w.a 15 B (.inr (.inl ⟨Jc,w.a,?_,rfl⟩)) .tail _ _ (.tail ((bW.head _).aB C)) (.skip (.cw (.refl _))) (.tail _ (xaa _ (.head _))))));rw[hn];show(if _ then _ else _)=_;rw[xaf ⟨rfl,ht⟩]
     refine Br.JU ?_ (ae.inc (aI.of .tail ⟨j+1,rfl,hlt,?_,rfl⟩ (by simp only[dx];omega)))
     ·rw[xcw,xaV];by_cases h:c=115
      ·right;cases t with
       |true=>rfl
       |false=>exact absurd ⟨h,rfl⟩ su
      ·exact .inl λe=>h (Ik.1 e)
     rw[hn];show(if c=115/\gm ns w.t=false then _ else _)=_;rw[ht,xac su]
    refine hE.look (k:=w.t) mh (b:=mb) (.tail _ (sub _ hmb)) (λx vx hx Qg=>?_) (λhx=>?_)
    ·exact step true (by unfold gm;rw[hx];rfl) _
    exact step false (by unfold gm;rw[hx];rfl) _
   have Oq:j=ws.length:=by omega
   subst Oq;have Oi:uT (gm ns) sh ws=none:=by rw[hn,xbI,xaQ zO];rfl
   refine Build.mk (cs:=cu [] 0 0) zK (St.whole (r:=cu [] 0 0) ((bW.head _).aB C) rfl rfl (aE _ _ _) (aA.whole (r:=cu [] 0 0) (xaa _ (.head _)) rfl ?_));exact bc.mk (.cL .tail _) ⟨C,rfl,.inr (.inr ⟨Jc,Oi,_,rfl,by rw[Mz];exact hs⟩)⟩
 refine ae.qj (b:=[43]) (Br.dec (λh=>?_) (λh=>?_))
 ·refine hv.cx ?_;rw[xaw];refine aa.fq (Fg h _) ?_;rintro _ _ ⟨rfl,rfl⟩;exact JE.mk (go _ (by rw[xaO];omega) (by unfold vY;rw[xaf h]))
 exact JE.mk (go shape zO (by unfold vY;rw[xac h]))
end
section
open Fm ay
section
variable {kp:Nat} {K K1 K2:Kd} {S S1 S2:Nat->ay.Fn} {ord af tr:zL} {C:Hp}
theorem Du(hK:cj kp K S ord af tr C){a b:Nat}(ha:ay.live K.N a)(hb:ay.live K.N b)(hB:∀s,K.hold s+2^K.n<=65535):Fc zQ 98 #[ptr kp,u32 a,u32 b] C (kH kp K S ord af tr (λy=>Co 8 (S a y) (S b y))):=by
 refine aU λg=>xH (aa.fq (eO hK (op:=8) zD ha hb hB) ?_);intro w H hD;obtain⟨x,e,rfl⟩:=hD.two;exact Ext.two (bc.here hD)
theorem FK(hK:cj kp K S ord af tr C){a b:Nat}(ha:ay.live K.N a)(hb:ay.live K.N b)(hB:∀s,K.hold s+2^K.n<=65535):Fc zQ 99 #[ptr kp,u32 a,u32 b] C (kH kp K S ord af tr (λy=>Co 14 (S a y) (S b y))):=by
 refine aU λg=>xG (aa.fq (eO hK (op:=14) zD ha hb hB) ?_);intro w H hD;obtain⟨x,e,rfl⟩:=hD.two;exact Ext.two (bc.here hD)
theorem Dp(hK:cj kp K S ord af tr C){a b:Nat}(ha:ay.live K.N a)(hb:ay.live K.N b)(hB:∀s,K.hold s+2^K.n<=65535):Fc zQ 100 #[ptr kp,u32 a,u32 b] C (kH kp K S ord af tr (λy=>Co 6 (S a y) (S b y))):=by
 refine aU λg=>uI (aa.fq (eO hK (op:=6) zD ha hb hB) ?_);intro w H hD;obtain⟨x,e,rfl⟩:=hD.two;exact Ext.two (bc.here hD)
theorem xd(hK:cj kp K S ord af tr C)(b:Bool):Fc zQ 125 #[ptr kp,.bool b] C (kH kp K S ord af tr (λ_=>b)):=by
 have hi:=hK.ok.mid.int;refine aU λg=>uo (ae.bh (Br.no ?_));intro J2 h2;have go:∀r:Nat,r<2->(S r=λ_=>b)->J2 [u32 r] C:=λr hr hf=>by
  refine h2 _ _ λ_=>?_;refine aa.fq (pA hK (r:=r) (.inl hr) (λh=>by omega)) ?_;rintro v H ⟨rfl,K',jX,hm⟩;exact bc.here (.inl ⟨r,K',S,rfl,jX,⟨hm.n,hm.cap,λs d h=>by rw[hm.N];exact h,λ_ _=>rfl,.inl hr,hf,λs=>by rw[hm.hold];split<;>rfl⟩⟩)
 cases b
 ·exact Br.no (JE.mk (go 0 zD (funext hi.zero)))
 exact Br.yes (JE.mk (go 1 zD (funext hi.one)))
theorem j9(ic:cj kp K1 S1 ord af tr C){gv:zL}{C2:Hp}(dK:cj kp K2 S2 ord af gv C2){ys:zL}(h:aQ K1 S1 K2 S2 ys){x:Nat}(hx:2<=x->K1.hold x≠0):ay.live K2.N x/\S2 x=S1 x:=by
 by_cases h2:2<=x
 ·exact⟨.inr (dK.ok.mid.held x (by rw[h.hold];have:=hx h2;omega)),h.fn x (hx h2)⟩
 refine⟨.inl zO,?_⟩;have Gz:x=0\/x=1:=by omega
 rcases Gz with rfl|rfl
 ·rw[funext ic.ok.mid.int.zero,funext dK.ok.mid.int.zero]
 rw[funext ic.ok.mid.int.one,funext dK.ok.mid.int.one]
theorem cj.qV(hK:cj kp K S ord af tr C):∀s,K.hold s≠0->ay.live K.N s:=λs hs=>.inr (hK.ok.mid.held s hs)
theorem k9.node{M:Hp}{t:Tr}{p:zV}(h:k9 M t p):∃(b:Nat) (sl:zV) (ps:zL),p=aP b/\(b,.cells #[nI t.kd,nI t.vl,sl] 101 zZ)∈M/\Sl 1 M sl (ps.map λq=>[aP q])/\ps.length=t.kids.length/\∀(i:Nat) (k:Tr) (q:Nat),t.kids[i]? =some k->ps[i]? =some q->k9 M k (aP q):=by
 cases h with
 | @c k b h=>exact⟨b,_,[],rfl,h,Sl.nil _ _,rfl,λi k q h1=>by simp[Tr.kids]at h1⟩
 | @v n b h=>exact⟨b,_,[],rfl,h,Sl.nil _ _,rfl,λi k q h1=>by simp[Tr.kids]at h1⟩
 | @no a b d x h h2 h3=>exact⟨b,_,[x],rfl,h,(Sl.eD (T:=64) (aC.made [[aP x]] (λr hr=>by simp only[xag,xax,xa3]at hr;first|(rcases hr with rfl|rfl|rfl<;>rfl)|(rcases hr with rfl|rfl<;>rfl)|(subst hr;rfl))) zD).mono (λy hy=>by cases hy with|head=>exact h2|tail _ h=>cases h),rfl,λi k q h1 h2=>by rcases i with _|_|_|i<;>simp[Tr.kids]at h1 h2<;>(obtain rfl:=h1;obtain rfl:=h2;assumption)⟩
 | @bin k a a' b d x y h h2 h3 h4=>exact⟨b,_,[x,y],rfl,h,(Sl.eD (T:=64) (aC.made [[aP x],[aP y]] (λr hr=>by simp only[xag,xax,xa3]at hr;first|(rcases hr with rfl|rfl|rfl<;>rfl)|(rcases hr with rfl|rfl<;>rfl)|(subst hr;rfl))) zD).mono (λy hy=>by cases hy with|head=>exact h2|tail _ h=>cases h),rfl,λi k q h1 h2=>by rcases i with _|_|_|i<;>simp[Tr.kids]at h1 h2<;>(obtain rfl:=h1;obtain rfl:=h2;assumption)⟩
 | @ite a a' a2 b d x y z h h2 h3 h4 h5=>exact⟨b,_,[x,y,z],rfl,h,(Sl.eD (T:=64) (aC.made [[aP x],[aP y],[aP z]] (λr hr=>by simp only[xag,xax,xa3]at hr;first|(rcases hr with rfl|rfl|rfl<;>rfl)|(rcases hr with rfl|rfl<;>rfl)|(subst hr;rfl))) zD).mono (λy hy=>by cases hy with|head=>exact h2|tail _ h=>cases h),rfl,λi k q h1 h2=>by rcases i with _|_|_|i<;>simp[Tr.kids]at h1 h2<;>(obtain rfl:=h1;obtain rfl:=h2;assumption)⟩
end
def pY(t:Tr):Prop:=∀{kp:Nat} {K:Kd} {S:Nat->ay.Fn} {ord af tr:zL} {C M:Hp} {p:zV},cj kp K S ord af tr C->k9 M t p->t.Fit K.n->(∀s,K.hold s+t.dF+2^K.n<=65535)->
 Fc zQ 76 #[ptr kp,p] (M++C) (λw H=>∃C',H=M++C'/\BO kp K S ord af t.fn t.dS w C')
theorem Fm.Tr.z8(t:Tr):t.kids.length<=t.dF/\t.kids.length<=3/\∀i k,t.kids[i]? =some k->i+k.dF<=t.dF:=by
 cases t with
 |c k=>exact⟨xaB _,xaB _,λi k h=>by simp[Tr.kids]at h⟩
 |v k=>exact⟨xaB _,xaB _,λi k h=>by simp[Tr.kids]at h⟩
 |no a=>
  refine⟨a.dW,by show 1<=3;decide,λi k h=>?_⟩;rcases i with _|i<;>simp[Tr.kids]at h;subst h;show 0+a.dF<=a.dF;omega
 |bin k a b=>
  have h1:=a.dW;have h2:=b.dW;refine⟨by show 2<=a.dF+b.dF;omega,by show 2<=3;decide,λi k h=>?_⟩;rcases i with _|_|i<;>simp[Tr.kids]at h
  ·subst h;show 0+a.dF<=a.dF+b.dF;omega
  subst h;show 0+1+b.dF<=a.dF+b.dF;omega
 |ite a b d=>
  have h1:=a.dW;have h2:=b.dW;have h3:=d.dW;refine⟨by show 3<=a.dF+b.dF+d.dF;omega,by show 3<=3;decide,λi k h=>?_⟩;rcases i with _|_|_|i<;>simp[Tr.kids]at h
  ·subst h;show 0+a.dF<=a.dF+b.dF+d.dF;omega
  ·subst h;show 0+1+b.dF<=a.dF+b.dF+d.dF;omega
  subst h;show 0+1+1+d.dF<=a.dF+b.dF+d.dF;omega
theorem Fm.Tr.z9{t:Tr}{n:Nat}(h:t.Fit n):∀k∈t.kids,k.Fit n:=by
 intro k hk;cases t with
 |c=>cases hk
 |v=>cases hk
 |no a=>simp only[Tr.kids,xag,xax,xa3]at hk;subst hk;exact h
 |bin k a b=>simp only[Tr.kids,xag,xax,xa3]at hk;rcases hk with rfl|rfl;exact h.2.1;exact h.2.2
 |ite a b d=>simp only[Tr.kids,xag,xax,xa3]at hk;rcases hk with rfl|rfl|rfl;exact h.1;exact h.2.1;exact h.2.2
set_option maxHeartbeats 2000000 in
theorem eK(t:Tr)(ih:∀k∈t.kids,pY k):pY t:=by
 intro kp K S ord af tr C M p hK ht hf hB;obtain⟨b,sl,ps,rfl,hn,Gf,vc,hps⟩:=ht.node;obtain⟨MC,jF,hkv⟩:=t.z8;refine aU λg=>xS λb1 _ b3 _=>Nil.ptr (Ld.u (.tail _ (.tail _ (xad _ hn))) (Gf.cx ?_));rw[xaw];refine⟨λvs H=>∃(i:Nat) (K1:Kd) (S1:Nat->ay.Fn) (F9:zL) (C1:Hp) (xs:zL) (v:zV) (L:Hp),vs=[nI i]/\i<=ps.length/\xs.length=i/\H=(b3,.cells #[v] 189 zZ)::(b1,.cells #[ptr kp] 45 zZ)::(L++(M++C1))/\aR 82 .u32 v (iw xs) L/\cj kp K1 S1 ord af F9 C1/\aQ K S K1 S1 xs/\(∀(j x:Nat) (k:Tr),xs[j]? =some x->t.kids[j]? =some k->ay.live K1.N x/\S1 x=k.fn),λvs _=>ps.length-dx vs 0,
  JE.mk ⟨0,K,S,tr,C,[],_,[],rfl,xaB _,rfl,rfl,aR.nil,hK,.refl,λj x k h=>by simp at h⟩,?_⟩
 rintro IT H ⟨i,K1,S1,F9,C1,xs,v,L,⟨⟩,hi,hxs,rfl,hv,ic,qT,Aj⟩ gs;have Ex:∀s,K1.hold s<=K.hold s+i:=λs=>by have:=qT.le s;omega
 have NV:∀x∈xs,x<4294967296:=λx hx=>by
  obtain⟨j,hj,rfl⟩:=List.getElem_of_mem hx;have:=ic.cD (Aj j xs[j] (t.kids[j]' zO) (xab hj) (xab _)).1;omega
 have hsub:∀x∈xs,t.dS (S1 x):=λx hx=>by
  obtain⟨j,hj,rfl⟩:=List.getElem_of_mem hx;rw[(Aj j xs[j] (t.kids[j]' zO) (xab hj) (xab _)).2];exact Tr.qi (xaP _) (Tr.nV _)
 /- the parts let go, and out -/
 have leave:∀(K2:Kd) (S2:Nat->ay.Fn) (gv:zL) (C2:Hp) (ys:zL) (Kc:Hp->Prop),cj kp K2 S2 ord af gv C2->aQ K S K2 S2 (xs++ys)->(∀K3 C3 y3,cj kp K3 S2 ord af y3 C3->aQ K S K3 S2 ys->(y3=gv\/y3=[])->Kc ((b3,.cells #[v] 189 zZ)::(b1,.cells #[ptr kp] 45 zZ)::(L++(M++C3))))->
   gu zQ g 124 #[ptr b3,ptr b1] ((b3,.cells #[v] 189 zZ)::(b1,.cells #[ptr kp] 45 zZ)::(L++(M++C2))) Kc:=λK2 S2 gv C2 ys Kc dK yN hk=>by
  refine gu.fn .here (A4 hv yN dK NV zO) ?_;rintro _ _ ⟨K3,C3,y3,rfl,p6,En,C5⟩;exact hk K3 C3 y3 p6 En C5
 have bad:∀(C3:Hp) (w:zV),BO kp K S ord af t.fn t.dS w C3->bc (λw H=>∃C',H=M++C'/\BO kp K S ord af t.fn t.dS w C') (.returned w) ((b3,.cells #[v] 189 zZ)::(b1,.cells #[ptr kp] 45 zZ)::(L++(M++C3))):=λC3 w h=>bc.mk (.skip (.skip .right)) ⟨C3,rfl,h⟩;refine ae.dX (Br.dec (λhlt=>?_) (λhge=>?_))
 ·have hq:ps[i]? =some ps[i]:=xab hlt;have HI:t.kids[i]? =some (t.kids[i]' zO):=xab _;generalize (t.kids[i]' zO)=k at HI;have hkm:k∈t.kids:=xaI HI;refine ai.sl Gf (r:=[aP ps[i]]) (by rw[xaC,hq];rfl) λa ha=>Ld.at ha (λy hy=>.tail _ (.tail _ (xaa _ (xad _ hy)))) (Ld.mk (.tail _ (.head _)) rfl ?_);have Om:=hkv i k HI;refine aa.fn (.cons (.cons (.app .here))) (ih k hkm ic (hps i k _ HI hq) (by rw[qT.n];exact Tr.z9 hf k hkm) (λs=>by rw[qT.n];have:=hB s;have:=Ex s;omega)) ?_;rintro w _ ⟨C2,rfl,hb⟩;rcases hb with⟨x,K2,S2,gv,rfl,dK,yN,ve,kj,_⟩|⟨rfl,⟨K2,S2,gv,dK,yN⟩,hfit⟩
  ·refine Ext.mk rfl (Ext.mk rfl (ae.pn (b:=0) (Br.F (Ld.mk (.head _) rfl ?_))));refine aj.int (e:=82) zK zK zK λbx=>?_;refine hv.nP (x:=(x:Int)) (.cons (.cons (.cons .left))) (by exact .head _) (by rw[aV];omega) (by rw[aV];omega) λv' L' wL=>?_;refine St.one (c':=#[v']) (.tail (.head _)) wL.one (show(0:Nat)<1 by decide) rfl (ae.inc (aI.of .tail ⟨i+1,K2,S2,gv,C2,xs++[x],v',L',rfl,hlt,by simp[hxs],rfl,by rw[dy];exact wL,dK,qT.more yN,?_⟩ (by simp only[dx];omega)));intro j y k' hy hk';by_cases hj:j<xs.length
   ·rw[xaM hj]at hy;obtain⟨h1,h2⟩:=Aj j y k' hy hk';have:=j9 ic dK yN (x:=y) (λNU=>by
     rw[qT.hold,xaf NU];have:=xcn.2 (xaI hy);omega)
    exact⟨this.1,this.2.trans h2⟩
   have Gr:j=i:=by
    have:=(xae.1 hy).1;simp only[xan,xbf]at this;omega
   subst Gr;rw[xb0 zO,hxs,xct]at hy;rw[HI]at hk';cases hy;cases hk';exact⟨ve,kj⟩
  refine Ext.mk rfl (Ext.mk rfl (ae.pn (b:=0) (Br.T ?_)));refine leave K2 S2 gv C2 [] _ dK (qT.more yN) λK3 C3 y3 p6 En _=>?_;refine bad C3 _ (.inr ⟨rfl,⟨K3,S2,y3,p6,En⟩,λhF=>hfit ?_⟩);rw[qT.n,qT.cap];exact Fits.mono (λg hg=>cB (λg h=>by
   rcases h with h|h
   ·exact qT.held hsub g h
   exact .inr (Tr.qi hkm h)) hg) hF
 have Ox:i=ps.length:=by omega
 subst Ox;have Ew:∀s,K1.hold s+2^K1.n<=65535:=λs=>by rw[qT.n];have:=hB s;have:=Ex s;omega
 /- the operation done -/
 have fin:∀(w:zV) (C2:Hp) (R:Hp),aN ((b3,.cells #[v] 189 zZ)::(b1,.cells #[ptr kp] 45 zZ)::(L++(M++C2))) R->kH kp K1 S1 ord af F9 t.fn w C2->
   aN ((b3,.cells #[v] 189 zZ)::(b1,.cells #[ptr kp] 45 zZ)::(L++(M++C2))) R/\Ext 0 w λx=>Ext 1 w λe=>gu zQ g 124 #[ptr b3,ptr b1] ((b3,.cells #[v] 189 zZ)::(b1,.cells #[ptr kp] 45 zZ)::(L++(M++C2))) λH=>bc (λw H=>∃C',H=M++C'/\BO kp K S ord af t.fn t.dS w C') (.returned (.tuple #[x,e])) H:=by
  intro w C2 R he hD;refine⟨he,?_⟩;rcases hD with⟨x,K2,S2,rfl,dK,hg⟩|⟨rfl,⟨K2,S2,gv,dK,_,hk⟩,hfit⟩
  ·refine Ext.mk rfl (Ext.mk rfl (leave K2 S2 [] C2 [x] _ dK (qT.grow ic.qV hg) λK3 C3 y3 p6 En C5=>bad C3 _ (.inl ⟨x,K3,S2,y3,rfl,p6,En,?_,hg.is,C5.elim id id⟩)));by_cases h2:2<=x
   ·exact .inr (p6.ok.mid.held x (by rw[En.hold,xaf h2];simp))
   exact .inl zO
  refine Ext.mk rfl (Ext.mk rfl (leave K2 S2 gv C2 [] _ dK (by rw[xaT];exact qT.kept hk) λK3 C3 y3 p6 En _=>bad C3 _ (.inr ⟨rfl,⟨K3,S2,y3,p6,En⟩,λhF=>hfit ?_⟩)));rw[qT.n,qT.cap];exact Fits.mono (λg hg=>cB (λg h=>by
   rcases h with h|h
   ·exact qT.held hsub g h
   subst h;exact .inr (Tr.nV t)) hg) hF
 have eS:∀C2:Hp,aN ((b3,.cells #[v] 189 zZ)::(b1,.cells #[ptr kp] 45 zZ)::(L++(M++C2))) ((b3,.cells #[v] 189 zZ)::(b1,.cells #[ptr kp] 45 zZ)::(L++M)):=λC2=>.cons (.cons (.cL .left L));have Gj:(b,Obj.cells #[nI t.kd,nI t.vl,sl] 101 zZ)∈(b3,Obj.cells #[v] 189 zZ)::(b1,Obj.cells #[ptr kp] 45 zZ)::(L++M):=.tail _ (.tail _ (xaa _ hn));refine Nil.ptr (Ld.u (.tail _ (.tail _ (xaa _ (xad _ hn)))) λL1 LI=>?_);have get:∀{j x:Nat} {Kc:zV->Prop},xs[j]? =some x->Kc (u32 x)->ai 1 v (iv ((j:Nat):Int)) λp=>Ld ((b3,.cells #[v] 189 zZ)::(b1,.cells #[ptr kp] 45 zZ)::(L++M)) p Kc:=λhx hk=>hv.ld (gI hx) (λy hy=>.tail _ (.tail _ (xad _ hy))) hk;have Mx:L1 [.bool (decide (t.kd=1\/t.kd=2))] ((b3,.cells #[v] 189 zZ)::(b1,.cells #[ptr kp] 45 zZ)::(L++(M++C1))):=by
  refine LI _ _ λ_=>?_;have hole:∀Z:Hp,bu Z ((b3,Obj.cells #[v] 189 zZ)::(b1,Obj.cells #[ptr kp] 45 zZ)::(L++(M++Z))) (λX=>(b3,Obj.cells #[v] 189 zZ)::(b1,Obj.cells #[ptr kp] 45 zZ)::(L++(M++X))):=λZ=>.cons (.cons (.app (.app .here)));have jU:(b1,Obj.cells #[ptr kp] 45 zZ)∈(b3,Obj.cells #[v] 189 zZ)::(b1,Obj.cells #[ptr kp] 45 zZ)::(L++M):=.tail _ (.head _);have jE:(b3,Obj.cells #[v] 189 zZ)∈(b3,Obj.cells #[v] 189 zZ)::(b1,Obj.cells #[ptr kp] 45 zZ)::(L++M):=.head _;cases t with
  |c k=>
   refine Br.Is hf (DR.of (eS C1) (Ld.mk jU rfl (Nil.ptr (Ld.u Gj (ae.bI (b:=2) (aa.fn (hole C1) (xd ic _) λw C2 hD=>fin w C2 _ (eS C2) hD))))))
  |v m=>
   dsimp only[Tr.kd,Tr.vl]at Gj⊢;refine Br.F (ae.bI (b:=3) (Br.T (DR.of (eS C1) (Ld.mk jU rfl (Nil.ptr (Ld.u Gj (aa.fn (hole C1) (DB ic (v:=m) (by rw[qT.n];exact hf) (λs=>by have:=Ew s;have:1<=2^K1.n:=xcQ;omega)) λw C2 hD=>fin w C2 _ (eS C2) hD)))))))
  |no a=>
   obtain⟨x,hx⟩:∃x,xs[0]? =some x:=⟨_,xab (by rw[hxs,vc];show 0<1;decide)⟩;obtain⟨l1,s1⟩:=Aj 0 x a hx rfl;dsimp only[Tr.kd,Tr.vl]at Gj⊢;refine Br.F (ae.bI (b:=3) (Br.F (ae.bI (b:=4) (Br.T (DR.of (eS C1) (Ld.mk jU rfl (Ld.mk jE rfl (get (j:=0) hx (aa.fn (hole C1) (DG ic l1 Ew) λw C2 hD=>fin w C2 _ (eS C2) (by rw[s1]at hD;exact hD))))))))))
  |bin k a b'=>
   obtain⟨x,hx⟩:∃x,xs[0]? =some x:=⟨_,xab (by rw[hxs,vc];show 0<2;decide)⟩;obtain⟨y,hy⟩:∃y,xs[1]? =some y:=⟨_,xab (by rw[hxs,vc];show 1<2;decide)⟩;obtain⟨l1,s1⟩:=Aj 0 x a hx rfl;obtain⟨l2,s2⟩:=Aj 1 y b' hy rfl;have On:=hf.1;have FR:k=5\/k=6\/k=7\/k=8\/k=9:=by omega
   dsimp only[Tr.kd,Tr.vl]at Gj⊢;rcases FR with rfl|rfl|rfl|rfl|rfl
   ·refine Br.F (ae.bI (b:=3) (Br.F (ae.bI (b:=4) (Br.F (ae.bI (b:=5) (Br.T (DR.of (eS C1) (Ld.mk jU rfl (Ld.mk jE rfl (get (j:=0) hx (Ld.mk jE rfl (get (j:=1) hy (aa.fn (hole C1) (Du ic l1 l2 Ew) λw C2 hD=>fin w C2 _ (eS C2) (by rw[s1,s2]at hD;exact hD))))))))))))))
   ·refine Br.F (ae.bI (b:=3) (Br.F (ae.bI (b:=4) (Br.F (ae.bI (b:=5) (Br.F (ae.bI (b:=6) (Br.T (DR.of (eS C1) (Ld.mk jU rfl (Ld.mk jE rfl (get (j:=0) hx (Ld.mk jE rfl (get (j:=1) hy (aa.fn (hole C1) (Dp ic l1 l2 Ew) λw C2 hD=>fin w C2 _ (eS C2) (by rw[s1,s2]at hD;exact hD))))))))))))))))
   ·refine Br.F (ae.bI (b:=3) (Br.F (ae.bI (b:=4) (Br.F (ae.bI (b:=5) (Br.F (ae.bI (b:=6) (Br.F (ae.bI (b:=7) (Br.T (DR.of (eS C1) (Ld.mk jU rfl (Ld.mk jE rfl (get (j:=0) hx (Ld.mk jE rfl (get (j:=1) hy (aa.fn (hole C1) (FK ic l1 l2 Ew) λw C2 hD=>fin w C2 _ (eS C2) (by rw[s1,s2]at hD;exact hD))))))))))))))))))
   ·refine Br.F (ae.bI (b:=3) (Br.F (ae.bI (b:=4) (Br.F (ae.bI (b:=5) (Br.F (ae.bI (b:=6) (Br.F (ae.bI (b:=7) (Br.F (ae.bI (b:=8) (Br.T (DR.of (eS C1) (Ld.mk jU rfl (Ld.mk jE rfl (get (j:=0) hx (Ld.mk jE rfl (get (j:=1) hy (aa.fn (hole C1) (eO ic (op:=11) zD l1 l2 Ew) λw C2 hD=>fin w C2 _ (eS C2) (by rw[s1,s2]at hD;exact hD))))))))))))))))))))
   refine Br.F (ae.bI (b:=3) (Br.F (ae.bI (b:=4) (Br.F (ae.bI (b:=5) (Br.F (ae.bI (b:=6) (Br.F (ae.bI (b:=7) (Br.F (ae.bI (b:=8) (Br.F (ae.bI (b:=9) (Br.T (DR.of (eS C1) (Ld.mk jU rfl (Ld.mk jE rfl (get (j:=0) hx (Ld.mk jE rfl (get (j:=1) hy (aa.fn (hole C1) (eO ic (op:=9) zD l1 l2 Ew) λw C2 hD=>fin w C2 _ (eS C2) (by rw[s1,s2]at hD;exact hD))))))))))))))))))))))
  |ite a b' d=>
   obtain⟨x,hx⟩:∃x,xs[0]? =some x:=⟨_,xab (by rw[hxs,vc];show 0<3;decide)⟩;obtain⟨y,hy⟩:∃y,xs[1]? =some y:=⟨_,xab (by rw[hxs,vc];show 1<3;decide)⟩;obtain⟨z,hz⟩:∃z,xs[2]? =some z:=⟨_,xab (by rw[hxs,vc];show 2<3;decide)⟩;obtain⟨l1,s1⟩:=Aj 0 x a hx rfl;obtain⟨l2,s2⟩:=Aj 1 y b' hy rfl;obtain⟨l3,s3⟩:=Aj 2 z d hz rfl;dsimp only[Tr.kd,Tr.vl]at Gj⊢;refine Br.F (ae.bI (b:=3) (Br.F (ae.bI (b:=4) (Br.F (ae.bI (b:=5) (Br.F (ae.bI (b:=6) (Br.F (ae.bI (b:=7) (Br.F (ae.bI (b:=8) (Br.F (ae.bI (b:=9) (Br.F (DR.of (eS C1) (Ld.mk jU rfl (Ld.mk jE rfl (get (j:=0) hx (Ld.mk jE rfl (get (j:=1) hy (Ld.mk jE rfl (get (j:=2) hz (aa.fn (hole C1) (DK ic l1 l2 l3 Ew) λw C2 hD=>fin w C2 _ (eS C2) (by rw[s1,s2,s3]at hD;exact hD))))))))))))))))))))))))
 refine ae.bI (b:=1) (Br.dec (λh1=>?_) (λh1=>?_))
 ·rw[show(decide (t.kd=1))=decide (t.kd=1\/t.kd=2)by simp[h1]];exact JE.mk Mx
 refine ae.bI (b:=2) ?_;rw[show(decide (t.kd=2))=decide (t.kd=1\/t.kd=2)by simp[h1]];exact JE.mk Mx
theorem Bt(t:Tr):pY t:=by
 induction t with
 |c k=>exact eK _ λa ha=>by cases ha
 |v k=>exact eK _ λa ha=>by cases ha
 |no a i1=>
  exact eK _ λk hk=>by
   simp only[Tr.kids,xag,xax,xa3]at hk;subst hk;exact i1
 |bin n a b i1 i2=>
  exact eK _ λk hk=>by
   simp only[Tr.kids,xag,xax,xa3]at hk;rcases hk with rfl|rfl
   ·exact i1
   exact i2
 |ite a b d i1 i2 i3=>
  exact eK _ λk hk=>by
   simp only[Tr.kids,xag,xax,xa3]at hk;rcases hk with rfl|rfl|rfl
   ·exact i1
   ·exact i2
   exact i3
theorem Fm.dA.len{p:Nat}{l:List UInt8}{o:List Tok}(h:dA p l o):o.length<=l.length+1:=by
 induction h with
 |fin=>simp
 |blank _ ih=>simp only[xak];omega
 |wrong=>simp
 |tok hb h _ ih=>
  have:=lZ h;simp only[xak,xbw]at ih this⊢;omega
theorem AV{kp:Nat}{K:Kd}{S:Nat->ay.Fn}{ord af tr:zL}{C:Hp}(hK:cj kp K S ord af tr C)(l:List UInt8)(hB:∀s,K.hold s+32769+2^K.n<=65535):
  Fc zQ 34 #[ptr kp,ag l] C (λr H=>(H=C/\∃at_ e,Reads K.n l (.bad at_ e)/\r=.tuple #[u32 0,nI at_,nI e])\/∃t l' x e,Reads K.n l (.ok t l')/\r=.tuple #[u32 x,nI 0,nI e]/\BO kp K S ord af t.fn t.dS (.tuple #[u32 x,nI e]) H):=by
 refine aU λg=>ym (ae.bh (Br.no (aa.eq (jx hK.rep) (aa.fn .here (wZ l K.n C) ?_))));rintro r _ ⟨N,rfl,h|h⟩
 ·obtain⟨t,l',p,hr,rfl,ht⟩:=h;obtain⟨hf,hl⟩:=hr.wt λo ho=>ho.len;refine Ext.mk rfl (Ext.mk rfl (Ext.mk rfl (ae.pn (b:=0) (Br.F ?_))));refine aa.fn .here (Bt t hK ht hf λs=>by have:=hB s;omega) ?_;rintro w _ ⟨C',rfl,hb⟩;rcases hb with⟨x,K',S',e5,rfl,h1⟩|⟨rfl,h1⟩
  ·exact Ext.mk rfl (Ext.mk rfl (bc.mk .right (.inr ⟨t,l',x,0,hr,rfl,.inl ⟨x,K',S',e5,rfl,h1⟩⟩)))
  exact Ext.mk rfl (Ext.mk rfl (bc.mk .right (.inr ⟨t,l',0,9,hr,rfl,.inr ⟨rfl,h1⟩⟩)))
 obtain⟨a,e,hr,rfl⟩:=h;have he:=hr.fit;exact Ext.mk rfl (Ext.mk rfl (Ext.mk rfl (ae.pn (b:=0) (Br.T (bc.mk .right (.inl ⟨rfl,a,e,hr,rfl⟩)) he))))
end
section
section
variable {bb:Nat} {a buf:zV} {L:Hp} {l:List UInt8} {B:Hp}
abbrev ED(bb:Nat)(a buf:zV):Nat×Obj:=(bb,.cells #[a,buf] 129 zZ)
theorem rG(ha:a=.pointer none\/a=aP bb)(h1:buf.oneCell'=true):Fc zQ 122 #[aP bb] [ED bb a buf] (λ_ H=>H=[ED bb (aP bb) buf]):=by
 refine aU λg=>uu (Nil.ptr (Ld.u (.head _) ?_));rcases ha with rfl|rfl
 ·refine⟨.bool true,by simp[eL],?_⟩;refine Br.yes (aG.toUnsafe (t:=129) rfl rfl (.head _) (show 0<2 by decide) zK zK zK (n:=2) zD ?_);refine cg.same rfl func155 zK zK zK zK (λ_=>rfl) ?_;refine aG.zo (u:=129) rfl rfl (.head _) zK zK (n:=2) zK zK (Nil.ptr (.mk ?_));exact St.one (c':=#[aP bb,buf]) (.head _) rfl (show 0<2 by decide) rfl (bc.mk (.refl _) rfl)
 refine ae.bh (Br.no (Nil.ptr (Ld.u (.head _) ?_)));exact aG.E0 (te:=129) rfl rfl rfl zK (n:=2) zK (Br.no (bc.mk (.refl _) rfl))
end
open Fm ay
def LS:List UInt8:=[48,49,50,51,52,53,54,55,56,57,97,98,99,100,101,102,103,104,105,106,107,108,109,110,111,112,113,114,115,116,117,118,119,120,121,122]
theorem wY{n:Nat}(hn:n<10)(B:Hp):Rd zQ 215 #[nI n] B (· =ag [UInt8.ofNat (48+n)]):=by
 refine aU λg=>m8 (ae.dX (b:=10) (Br.T (ae.inc ?_)));refine aG.gx (l:=LS) (i:=n) (j:=n+1) rfl zK rfl (.inr ⟨_,.i64,rfl,rfl⟩) (.inr ⟨_,.i64,rfl,rfl⟩) (Nat.le_succ _) (by show n+1<=36;omega) (bH.mk (.refl _) ?_);have:n=0\/n=1\/n=2\/n=3\/n=4\/n=5\/n=6\/n=7\/n=8\/n=9:=by omega
 rcases this with rfl|rfl|rfl|rfl|rfl|rfl|rfl|rfl|rfl|rfl<;>rfl
end
section
open Fm Sw
def dg(k:Nat):UInt8:=UInt8.ofNat (48+k)
theorem FP{k:Nat}(h:k<10):(dg k).toNat=48+k:=by
 unfold dg;rw[xdp,xbd (by show 48+k<256;omega)]
def dec(n:Nat):List UInt8:=if n<10 then [dg n]else if n<100 then [dg (n/10),dg (n%10)]else if n<1000 then [dg (n/100),dg (n/10%10),dg (n%10)]else [dg (n/1000),dg (n/100%10),dg (n/10%10),dg (n%10)]
def xn:List UInt8:=[48,48,48,49,48,50,48,51,48,52,48,53,48,54,48,55,48,56,48,57,49,48,49,49,49,50,49,51,49,52,49,53,49,54,49,55,49,56,49,57,50,48,50,49,50,50,50,51,50,52,50,53,50,54,50,55,50,56,50,57,51,48,51,49,51,50,51,51,51,52,51,53,51,54,51,55,51,56,51,57,52,48,52,49,52,50,52,51,52,52,52,53,52,54,52,55,52,56,52,57,53,48,53,49,53,50,53,51,53,52,53,53,53,54,53,55,53,56,53,57,54,48,54,49,54,50,54,51,54,52,54,53,54,54,54,55,54,56,54,57,55,48,55,49,55,50,55,51,55,52,55,53,55,54,55,55,55,56,55,57,56,48,56,49,56,50,56,51,56,52,56,53,56,54,56,55,56,56,56,57,57,48,57,49,57,50,57,51,57,52,57,53,57,54,57,55,57,56,57,57]
def JQ:zL:=[1,10,100,1000,10000,100000,1000000,10000000,100000000,1000000000,10000000000,100000000000,1000000000000,10000000000000,100000000000000,1000000000000000,10000000000000000,100000000000000000,1000000000000000000,10000000000000000000]
def powC:Array zV:=(JQ.map λ(x:Nat)=>Value.int .u64 (x:Int)).toArray
def Cu(n:Nat):Nat:=if n<1000 then 3 else 4
theorem FQ:(List.range 100).all (λk=>xn[2*k]? ==some (dg (k/10)) &&xn[2*k+1]? ==some (dg (k%10)) && (xn.take (2*k+2)).drop (2*k)==[dg (k/10),dg (k%10)])=true:=by decide+kernel
theorem vB{k:Nat}(h:k<100):xn[2*k]? =some (dg (k/10))/\xn[2*k+1]? =some (dg (k%10))/\(xn.take (2*k+2)).drop (2*k)=[dg (k/10),dg (k%10)]:=by
 have:=xb9.1 FQ k (xa8.2 h);simp only[xap,xcx]at this;exact⟨this.1.1,this.1.2,this.2⟩
theorem wJ{n r:Nat}(h1:100<=n)(h2:n<10000)(h:lg n r):7<=r/\r<=14:=by
 have h6:=(h.gt (n:=6)).2 (by show 64<=n;omega);have Ij:¬14<r:=λh'=>by
  have:16384<=n:=(h.gt (n:=14)).1 h';omega
 omega
theorem Cr{n:Nat}(h1:100<=n)(h2:n<10000){B:Hp}{T:TypeId}{fz:Nat×Nat}(hG:(1,Obj.cells powC T fz)∈B):Rd zQ 216 #[.int .u64 (n:Int)] B (· =nI (Cu n)):=by
 refine aU λg=>s9 (aa.rq (qK zO B) ?_);rintro _ ⟨r,hr,rfl⟩;have Ql:7<=r/\r<=14:=wJ h1 h2 hr;refine aa.eq (v:=nI (r*78913/262144)) (B:=B) (aU λg=>sU (ae.g7 (b:=78913) (by simp only[bY];omega) (ae.ny (b:=18) (by simp only[bY];omega) (bH.mk (.refl _) ?_)))) ?_
 ·rw[xaY]
 have fin:∀L d:Nat,powC[0+L*1]? =some (.int .u64 (d:Int))->L<5->L+(if d<=n then 1 else 0)=Cu n->di 20 1 (.pointer (some ⟨1,0,none⟩)) (nI L) λv5=>
   Ld B v5 λv6=>ae .num .geq (.int .u64 (n:Int)) v6 λv7=>
   aa zQ g 258 #[v7] B (λv8 H9=>ae .num .add (nI L) v8 λv10=>bc (λv H=>H=B/\(λx=>x=nI (Cu n)) v) (.returned v10) H9) (cP (bc λv H=>H=B/\(λx=>x=nI (Cu n)) v)):=λL d hL h5 he=>by
  refine di.nat zO (Ld.mk hG hL (ae.nw ?_));refine aa.eq (v:=nI (if d<=n then 1 else 0)) (B:=B) (aU λg=>sS (Br.dec (λh=>bH.mk (.refl _) (by rw[xaf h];rfl)) (λh=>bH.mk (.refl _) (by rw[xac h];rfl)))) ?_;refine ae.eo (by simp only[bY];split<;>omega) (bH.mk (.refl _) ?_);rw[he]
 have hL:r*78913/262144=if r<=9 then 2 else if r<=13 then 3 else 4:=by
  have:r=7\/r=8\/r=9\/r=10\/r=11\/r=12\/r=13\/r=14:=by omega
  rcases this with rfl|rfl|rfl|rfl|rfl|rfl|rfl|rfl<;>rfl
 have hb:2^(r-1)<=n/\n<2^r:=⟨hr.2.resolve_left zO,hr.1⟩;rw[hL];by_cases h9:r<=9
 ·rw[xaf h9];have:n<2^9:=xbu hb.2 (xaL zD h9);exact fin 2 100 rfl zD (by rw[xaf h1];unfold Cu;rw[xaf zO])
 rw[xac h9];by_cases Jq:r<=13
 ·rw[xaf Jq];refine fin 3 1000 rfl zD ?_;unfold Cu;by_cases h:n<1000
  ·rw[xac zO,xaf h]
  rw[xaf zO,xac h]
 rw[xac Jq];have:2^13<=n:=xbF (xaL zD (show 13<=r-1 by omega)) hb.1;refine fin 4 10000 rfl zD ?_;unfold Cu;rw[xac zO,xac zO]
abbrev IS:Array zV:=#[.int .u8 0,.int .u8 0,.int .u8 0,.int .u8 0,.int .u8 0,.int .u8 0,.int .u8 0,.int .u8 0,.int .u8 0,.int .u8 0,.int .u8 0,.int .u8 0,.int .u8 0,.int .u8 0,.int .u8 0,.int .u8 0,.int .u8 0,.int .u8 0,.int .u8 0,.int .u8 0,.int .u8 0,.int .u8 0,.int .u8 0,.int .u8 0]
theorem FO{n b:Nat}{T:TypeId}(h1:100<=n)(h2:n<1000):Fc zQ 217 #[.slice (some ⟨b,1,none⟩) 3 23,.int .u64 (n:Int)] [(b,Obj.cells IS T zZ)]
  (λ_ H=>H=[(b,Obj.cells #[.int .u8 0,.int .u8 ((dg (n/100)).toNat:Int),.int .u8 ((dg (n%100/10)).toNat:Int),.int .u8 ((dg (n%100%10)).toNat:Int),.int .u8 0,.int .u8 0,.int .u8 0,.int .u8 0,.int .u8 0,.int .u8 0,.int .u8 0,.int .u8 0,.int .u8 0,.int .u8 0,.int .u8 0,.int .u8 0,.int .u8 0,.int .u8 0,.int .u8 0,.int .u8 0,.int .u8 0,.int .u8 0,.int .u8 0,.int .u8 0] T zZ)]):=by
 obtain⟨d1,d2,_⟩:=vB (k:=n%100) zO;refine aU λg=>m7 (bp.mk ?_);refine⟨λvs H=>vs=[.int .u64 (n:Int),nI 3]/\H=[(b,Obj.cells IS T zZ)],λ_ _=>0,JE.mk ⟨rfl,rfl⟩,?_⟩;rintro w6 w7 H ⟨⟨⟩,rfl⟩ gs;refine ae.nw (a:=3) (b:=8) (Br.F (aM.nat (by simp only[bY];omega) λPM BU=>?_));refine ae.nw (a:=3) (b:=4) (Br.F (JE.mk (BU _ _ _ λ_=>?_)));intro PK LD;refine ae.nw (a:=3) (b:=2) (Br.T (ae.Ch (b:=100) zD (ae.g7 (b:=2) (by simp only[bY];omega) (ae.Dw (b:=100) (by simp only[bY];omega) zD ?_))));rw[xbj (n%100) 2];refine DR.of (R:=[]) .tail (ae.e7 (a:=3) (b:=1) zD zD (ae.e7 (a:=3) (b:=2) zD zD (ae.eo (b:=1) (by simp only[bY];omega) ?_)));refine aY.of (l:=xn) d2 (aY.of (l:=xn) d1 (ai.nat (j:=2) zD (St.one (c':=#[.int .u8 0,.int .u8 0,.int .u8 0,.int .u8 ((dg (n%100%10)).toNat:Int),.int .u8 0,.int .u8 0,.int .u8 0,.int .u8 0,.int .u8 0,.int .u8 0,.int .u8 0,.int .u8 0,.int .u8 0,.int .u8 0,.int .u8 0,.int .u8 0,.int .u8 0,.int .u8 0,.int .u8 0,.int .u8 0,.int .u8 0,.int .u8 0,.int .u8 0,.int .u8 0]) (.head _) rfl (show 3<24 by decide) rfl ?_)));refine⟨.tail,?_⟩;refine ai.nat (j:=1) zD (St.one (c':=#[.int .u8 0,.int .u8 0,.int .u8 ((dg (n%100/10)).toNat:Int),.int .u8 ((dg (n%100%10)).toNat:Int),.int .u8 0,.int .u8 0,.int .u8 0,.int .u8 0,.int .u8 0,.int .u8 0,.int .u8 0,.int .u8 0,.int .u8 0,.int .u8 0,.int .u8 0,.int .u8 0,.int .u8 0,.int .u8 0,.int .u8 0,.int .u8 0,.int .u8 0,.int .u8 0,.int .u8 0,.int .u8 0]) (.head _) rfl (show 2<24 by decide) rfl ?_);refine ae.e7 (a:=3) (b:=2) zD zD (JE.mk (LD _ _ _ λ_=>?_));refine ae.iU (a:=1) (b:=0) (Br.T (ae.eo (a:=48) (by simp only[bY];omega) (aM.nat (by simp only[bY];omega) ?_)));have e:((48+n/100:Nat):Int)=((dg (n/100)).toNat:Int):=by rw[FP zO]
 rw[e];refine ai.nat (j:=0) zD (St.one (c':=#[.int .u8 0,.int .u8 ((dg (n/100)).toNat:Int),.int .u8 ((dg (n%100/10)).toNat:Int),.int .u8 ((dg (n%100%10)).toNat:Int),.int .u8 0,.int .u8 0,.int .u8 0,.int .u8 0,.int .u8 0,.int .u8 0,.int .u8 0,.int .u8 0,.int .u8 0,.int .u8 0,.int .u8 0,.int .u8 0,.int .u8 0,.int .u8 0,.int .u8 0,.int .u8 0,.int .u8 0,.int .u8 0,.int .u8 0,.int .u8 0]) (.head _) rfl (show 1<24 by decide) rfl ?_);exact bc.mk (.refl _) rfl
theorem FM{n b:Nat}{T:TypeId}(h1:1000<=n)(h2:n<10000):Fc zQ 217 #[.slice (some ⟨b,1,none⟩) 4 23,.int .u64 (n:Int)] [(b,Obj.cells IS T zZ)]
  (λ_ H=>H=[(b,Obj.cells #[.int .u8 0,.int .u8 ((dg (n/100/10)).toNat:Int),.int .u8 ((dg (n/100%10)).toNat:Int),.int .u8 ((dg (n%100/10)).toNat:Int),.int .u8 ((dg (n%100%10)).toNat:Int),.int .u8 0,.int .u8 0,.int .u8 0,.int .u8 0,.int .u8 0,.int .u8 0,.int .u8 0,.int .u8 0,.int .u8 0,.int .u8 0,.int .u8 0,.int .u8 0,.int .u8 0,.int .u8 0,.int .u8 0,.int .u8 0,.int .u8 0,.int .u8 0,.int .u8 0] T zZ)]):=by
 obtain⟨d1,d2,_⟩:=vB (k:=n%100) zO;obtain⟨d3,d4,_⟩:=vB (k:=n/100) zO;refine aU λg=>m7 (bp.mk ?_);refine⟨λvs H=>vs=[.int .u64 (n:Int),nI 4]/\H=[(b,Obj.cells IS T zZ)],λ_ _=>0,JE.mk ⟨rfl,rfl⟩,?_⟩;rintro w6 w7 H ⟨⟨⟩,rfl⟩ gs;refine ae.nw (a:=4) (b:=8) (Br.F (aM.nat (by simp only[bY];omega) λPM BU=>?_));refine ae.nw (a:=4) (b:=4) (Br.T (ae.Ch (b:=10000) zD (ae.Dw (b:=10000) (by simp only[bY];omega) zD ?_)));rw[xbd h2,xcc h2];refine ae.Dw (b:=100) (by simp only[bY];omega) zD (ae.g7 (b:=2) (by simp only[bY];omega) (ae.Ch (b:=100) zD (ae.g7 (b:=2) (by simp only[bY];omega) ?_)));rw[xbj (n%100) 2,xbj (n/100) 2];refine DR.of (R:=[]) .tail (ae.e7 (a:=4) (b:=1) zD zD (ae.e7 (a:=4) (b:=2) zD zD (ae.eo (b:=1) (by simp only[bY];omega) ?_)));refine aY.of (l:=xn) d2 (aY.of (l:=xn) d1 (ai.nat (j:=3) zD (St.one (c':=#[.int .u8 0,.int .u8 0,.int .u8 0,.int .u8 0,.int .u8 ((dg (n%100%10)).toNat:Int),.int .u8 0,.int .u8 0,.int .u8 0,.int .u8 0,.int .u8 0,.int .u8 0,.int .u8 0,.int .u8 0,.int .u8 0,.int .u8 0,.int .u8 0,.int .u8 0,.int .u8 0,.int .u8 0,.int .u8 0,.int .u8 0,.int .u8 0,.int .u8 0,.int .u8 0]) (.head _) rfl (show 4<24 by decide) rfl ?_)));refine⟨.tail,?_⟩;refine ai.nat (j:=2) zD (St.one (c':=#[.int .u8 0,.int .u8 0,.int .u8 0,.int .u8 ((dg (n%100/10)).toNat:Int),.int .u8 ((dg (n%100%10)).toNat:Int),.int .u8 0,.int .u8 0,.int .u8 0,.int .u8 0,.int .u8 0,.int .u8 0,.int .u8 0,.int .u8 0,.int .u8 0,.int .u8 0,.int .u8 0,.int .u8 0,.int .u8 0,.int .u8 0,.int .u8 0,.int .u8 0,.int .u8 0,.int .u8 0,.int .u8 0]) (.head _) rfl (show 3<24 by decide) rfl ?_);refine DR.of (R:=[]) .tail (ae.e7 (a:=4) (b:=3) zD zD (ae.e7 (a:=4) (b:=4) zD zD (ae.eo (b:=1) (by simp only[bY];omega) ?_)));refine aY.of (l:=xn) d4 (aY.of (l:=xn) d3 (ai.nat (j:=1) zD (St.one (c':=#[.int .u8 0,.int .u8 0,.int .u8 ((dg (n/100%10)).toNat:Int),.int .u8 ((dg (n%100/10)).toNat:Int),.int .u8 ((dg (n%100%10)).toNat:Int),.int .u8 0,.int .u8 0,.int .u8 0,.int .u8 0,.int .u8 0,.int .u8 0,.int .u8 0,.int .u8 0,.int .u8 0,.int .u8 0,.int .u8 0,.int .u8 0,.int .u8 0,.int .u8 0,.int .u8 0,.int .u8 0,.int .u8 0,.int .u8 0,.int .u8 0]) (.head _) rfl (show 2<24 by decide) rfl ?_)));refine⟨.tail,?_⟩;refine ai.nat (j:=0) zD (St.one (c':=#[.int .u8 0,.int .u8 ((dg (n/100/10)).toNat:Int),.int .u8 ((dg (n/100%10)).toNat:Int),.int .u8 ((dg (n%100/10)).toNat:Int),.int .u8 ((dg (n%100%10)).toNat:Int),.int .u8 0,.int .u8 0,.int .u8 0,.int .u8 0,.int .u8 0,.int .u8 0,.int .u8 0,.int .u8 0,.int .u8 0,.int .u8 0,.int .u8 0,.int .u8 0,.int .u8 0,.int .u8 0,.int .u8 0,.int .u8 0,.int .u8 0,.int .u8 0,.int .u8 0]) (.head _) rfl (show 1<24 by decide) rfl ?_);refine ae.e7 (a:=4) (b:=4) zD zD (JE.mk (BU _ _ _ λ_=>?_));intro PK LD;refine ae.nw (a:=0) (b:=2) (Br.F (JE.mk (LD _ _ _ λ_=>?_)));exact ae.iU (a:=0) (b:=0) (Br.F (bc.mk (.refl _) rfl))
theorem oz{n:Nat}(hn:n<100)(B:Hp):Rd zQ 215 #[nI n] B (· =ag (dec n)):=by
 by_cases h10:n<10
 ·refine Fc.mono (wY h10 B) ?_;rintro v H ⟨e,rfl⟩;refine⟨e,?_⟩;unfold dec;rw[xaf h10];rfl
 refine aU λg=>m8 (ae.dX (b:=10) (Br.F (ae.g7 (b:=2) (by simp only[bY];omega) (ae.g7 (b:=2) (by simp only[bY];omega) (ae.eo (b:=2) (by simp only[bY];omega) ?_)))));rw[xbj n 2];refine aG.gx (l:=xn) (i:=2*n) (j:=2*n+2) rfl zK rfl (.inr ⟨_,.i64,rfl,rfl⟩) (.inr ⟨_,.i64,rfl,rfl⟩) zO (by show 2*n+2<=200;omega) (bH.mk (.refl _) ?_);rw[(vB hn).2.2];unfold dec;rw[xac h10,xaf hn]
theorem Ip{n:Nat}(hn:n<100)(B:Hp):Rd zQ 108 #[.int .u64 (n:Int)] B (· =ag (dec n)):=by
 refine aU λg=>uE (aa.eq (v:=ag (dec n)) (B:=B) (aU λg=>tY (aa.eq (v:=ag (dec n)) (B:=B) (aU λg=>tE ?_) (bH.mk (.refl _) rfl))) (bH.mk (.refl _) rfl));refine ae.bI (a:=10) (b:=10) (Br.T (ae.dX (b:=100) (Br.T (aM.nat (by simp only[bY];omega) (aa.eq (oz hn B) (bH.mk (.refl _) rfl))))))
theorem gM{n:Nat}(hn:n<10000){B:Hp}{T:TypeId}{fz:Nat×Nat}(hG:(1,Obj.cells powC T fz)∈B):Rd zQ 110 #[nI n] B (· =ag (dec n)):=by
 refine aU λg=>uD (aa.eq (v:=ag (dec n)) (B:=B) (aU λg=>tX (aa.eq (v:=ag (dec n)) (B:=B) (aU λg=>tD ?_) (bH.mk (.refl _) rfl))) (bH.mk (.refl _) rfl));refine ae.bI (a:=10) (b:=10) (Br.T (ae.E4 (a:=0) (bO.and (decide (n<100)) (λ_=>ae.dX (b:=100) ⟨rfl,rfl⟩) rfl λ_=>?_)));rw[xaN (xaB n),xcE];refine Br.dec (λh=>aa.eq (oz h B) (bH.mk (.refl _) rfl)) (λFI=>?_);intro b8 _;refine aM.nat (by simp only[bY];omega) λQU h11=>ae.dX (b:=0) (Br.F (JE.mk (h11 _ _ λ_=>?_)));refine aa.eq (Cr zO hn (.tail _ hG)) ?_;by_cases h3:n<1000
 ·rw[show Cu n=3 from xaf h3];refine ae.eo (a:=1) (b:=3) zD (aG.pV (e:=5) (i:=1) (j:=4) (n:=24) rfl zK zK rfl (.inr ⟨_,.i64,rfl,rfl⟩) (.inr ⟨_,.i64,rfl,rfl⟩) zD zD zD ?_);refine aa.fn (.left (C:=[_])) (FO zO h3) ?_;rintro _ _ rfl;refine ae.dX (b:=0) (Br.F (ae.eo (a:=1) (b:=3) zD (aG.pV (e:=5) (i:=1) (j:=4) (n:=24) rfl zK zK rfl (.inr ⟨_,.i64,rfl,rfl⟩) (.inr ⟨_,.i64,rfl,rfl⟩) zD zD zD ?_)));refine dD.cut (l:=dec n) (.head _) ?_ zD (λj u hu=>?_) (bH.mk .tail rfl)
  ·unfold dec;rw[xac zO,xac FI,xaf h3];rfl
  have ed:dec n=[dg (n/100),dg (n%100/10),dg (n%100%10)]:=by
   unfold dec;rw[xac zO,xac FI,xaf h3,show n/10%10=n%100/10 by omega,show n%100%10=n%10 by omega]
  rw[ed]at hu;rcases j with _|_|_|j
  ·cases hu;rfl
  ·cases hu;rfl
  ·cases hu;rfl
  simp at hu
 rw[show Cu n=4 from xac h3];refine ae.eo (a:=1) (b:=4) zD (aG.pV (e:=5) (i:=1) (j:=5) (n:=24) rfl zK zK rfl (.inr ⟨_,.i64,rfl,rfl⟩) (.inr ⟨_,.i64,rfl,rfl⟩) zD zD zD ?_);refine aa.fn (.left (C:=[_])) (FM zO hn) ?_;rintro _ _ rfl;refine ae.dX (b:=0) (Br.F (ae.eo (a:=1) (b:=4) zD (aG.pV (e:=5) (i:=1) (j:=5) (n:=24) rfl zK zK rfl (.inr ⟨_,.i64,rfl,rfl⟩) (.inr ⟨_,.i64,rfl,rfl⟩) zD zD zD ?_)));have ed:dec n=[dg (n/100/10),dg (n/100%10),dg (n%100/10),dg (n%100%10)]:=by
  unfold dec;rw[xac zO,xac FI,xac h3,show n/10%10=n%100/10 by omega,show n%100%10=n%10 by omega,show n/1000=n/100/10 by omega]
 refine dD.cut (l:=dec n) (.head _) (by rw[ed];rfl) zD (λj u hu=>?_) (bH.mk .tail rfl);rw[ed]at hu;rcases j with _|_|_|_|j
 ·cases hu;rfl
 ·cases hu;rfl
 ·cases hu;rfl
 ·cases hu;rfl
 simp at hu
end
end Go.Proofs
namespace Go.Sx
open Go
section
variable {P:Program} {g:Gh} {H:Hp} {K:zV->Hp->Prop} {KP:List PanicEntry->Hp->Prop}
theorem aG.Ix{o:Oper}{ρ:Operand->zV}{k:zV->Prop}{x:Operand}{t e:TypeId}{a:Option Addr}{n c:Nat}(ho:o.op=.call ⟨.builtin .cap,#[x],#[t]⟩)(ht:P.underlying t=some (.slice e))(hx:ρ x=.slice a n c)(hk:k (.int .i64 (c:Int))):aG P g o ρ H k:=by
 refine⟨_,λw _=>?_,hk⟩;have e:execOp ρ o=(do pure (.value (<-Builtin.cap_ #[t] o.type #[ρ x]))):=by simp[execOp,ho,resolve,invoke,builtin,bind,Sem.bind];rfl
 rw[e,hx];simp[Builtin.cap_,run_underlying ht,goInt]
theorem aG.JX{o:Oper}{ρ:Operand->zV}{k:zV->Prop}{x y z:Operand}{ts:Array TypeId}{a b c:Nat}{kd:IntKind}(ho:o.op=.call ⟨.builtin .min,#[x,y,z],ts⟩)(hx:ρ x=.int kd (a:Int))(hy:ρ y=.int kd (b:Int))(hz:ρ z=.int kd (c:Int))(hk:k (.int kd ((min (min a b) c:Nat):Int))):aG P g o ρ H k:=by
 refine⟨_,λw _=>?_,hk⟩;have e:execOp ρ o=(do pure (.value (<-Builtin.min_ ts o.type #[ρ x,ρ y,ρ z]))):=by simp[execOp,ho,resolve,invoke,builtin,bind,Sem.bind];rfl
 rw[e,hx,hy,hz];have m2:∀a b:Nat,(Builtin.min2 (.int kd (a:Int)) (.int kd (b:Int))).run P w=.ok (.int kd ((min a b:Nat):Int)) w:=λa b=>by
  by_cases h:b<a
  ·have h2:(b:Int)<(a:Int):=by omega
   simp[Builtin.min2,h2,xdx (xbN h)]
  have h2:¬(b:Int)<(a:Int):=by omega
  simp[Builtin.min2,h2,xbY (xca h)]
 simp only[Builtin.min_,List.foldlM,Sem.run_bind,m2,Result.andThen_ok,Sem.run_pure]
theorem cg.Iv{o:Oper}{ρ:Operand->zV}{x y:Operand}{t t' elem b c:Nat}(ho:o.op=.call ⟨.builtin .copy,#[x,y],#[t,t']⟩)(ht:P.underlying t=some (.slice elem))(hz:bL P elem=some 1)
 (hx:ρ x=.slice (some ⟨b,0,none⟩) 0 c)(hy:ρ y=.slice none 0 0)(hk:K (.int .i64 0) H):cg P g o ρ H K KP:=by
 refine cg.ofValue (s:=Builtin.copy_ #[t,t'] o.type #[ρ x,ρ y]) (by simp[execOp,ho,resolve,invoke,builtin,bind,Sem.bind];rfl) λw hw=>?_;obtain⟨i,hi,hin⟩:=aD hz;refine⟨_,w,H,?_,hw,hk⟩;rw[hx,hy];simp[Builtin.copy_,run_underlying ht,Builtin.lenOf,run_sizeOf hi,hin,goInt,Builtin.firstCells,storeCells]
theorem cg.makeNoZero{o:Oper}{ρ:Operand->zV}{x:Operand}{f t e:TypeId}{fn:Func}{ts ps:Array TypeId}{n:Nat}(ho:o.op=.call ⟨.value (.func f),#[x],ts⟩)(hf:P.funcs[f]? =some fn)(hname:(fn.name== "runtime.NumGoroutine")=false)
 (hb:fn.body.isNone=true)(hn:Extern.findNext fn=none)(he:Extern.find fn=some (Extern.BytealgMakeNoZero.makeNoZero ps #[t]))(ht:P.underlying t=some (.slice e))(hr:∀f,ρ (.func f)=.func (.func f) #[] #[])(hx:ρ x=.int .i64 (n:Int))(hn':n<=1099511627776)
 (hk:∀b cs,n<=cs.size->K (.slice (some ⟨b,0,none⟩) n cs.size) ((b,.cells cs e zZ)::H)):cg P g o ρ H K KP:=by
 intro w hw;have e1:=run_callFunc_extern (P:=P) hf hname hb hn he #[ρ x] w;rw[hx]at e1;obtain⟨cs,hrun,h1,_⟩:=Lib.run_makeNoZero (P:=P) w ps t e ht n zO;rw[hrun]at e1;have:(execOp ρ o).run P w=.ok (.value (.slice (some ⟨w.heap.size,0,none⟩) n cs.size)) (w.drew.drew.alloc (.cells cs e)):=by
  simp only[execOp,ho,resolve,hr];simpa[Deferred.ofValue,invoke,hx]using e1
 rw[this];exact⟨_,hw.drew.drew.alloc _,hk _ cs h1⟩
theorem cg.BA{o:Oper}{ρ:Operand->zV}{x y:Operand}{t u e:TypeId}{b n c:Nat}{fz:Nat×Nat}{l s:List UInt8}{ax:List (List zV)}{H':Hp}(ho:o.op=.call ⟨.builtin .append,#[x,y],#[t,u]⟩)
 (ht:P.underlying t=some (.slice e))(hu:P.underlying u=some .string)(hi:(P.info? e).map (λi=>(i.size,i.bytes,i.zero))=some (1,1,some (.int .u8 0)))
 (hx:ρ x=.slice (some ⟨b,0,none⟩) n c)(hy:ρ y=ag s)(hn:n=l.length)(hc:c=l.length+ax.length)(hj:∀r∈ax,r.length=1)(hfz:fz.2<=l.length)(hr:s.length<=ax.length)
 (Hs:bW b (.cells (rows (cM l++ax)) e fz) (.cells (rows (cM (l++s)++ax.drop s.length)) e fz) H H')(hk:K (.slice (some ⟨b,0,none⟩) (n+s.length) c) H'):cg P g o ρ H K KP:=by
 obtain⟨i,hi,e0⟩:=xcX.1 hi;obtain⟨h1,_,_⟩:i.size=1/\i.bytes=1/\i.zero=some (.int .u8 0):=by simpa using e0
 have sz:(⟨s.toArray⟩:ByteArray).size=s.length:=by simp[ByteArray.size]
 refine cg.ofValue (s:=Builtin.append_ #[t,u] o.type #[.slice (some ⟨b,0,none⟩) n c,ag s]) (by simp[execOp,ho,hx,hy,resolve,invoke,builtin,bind,Sem.bind];rfl) λw hw=>?_;have hm:=Hs.mem;have hg:=hw.has _ hm;have yP:(cM l).length=l.length:=by simp[cM]
 have Qw:(cM s).length=s.length:=by simp[cM]
 have aL:∀r∈cM l++ax,r.length=1:=λr h=>(xav.1 h).elim (mU l r) (hj r);have hsize:(rows (cM l++ax)).size=l.length+ax.length:=by rw[aS aL,xan,yP,xbW]
 have hrun:=Lib.run_append_room_stringF (P:=P) w t u o.type e i ht hu hi h1 b n c _ fz hg zO ⟨s.toArray⟩ (by rw[sz];omega) (by rw[sz,hsize];omega);have hcells:((rows (cM l++ax)).toList.take n++Lib.strCells ⟨s.toArray⟩++(rows (cM l++ax)).toList.drop (n+(⟨s.toArray⟩:ByteArray).size)).toArray=rows (cM (l++s)++ax.drop s.length):=by
  have e3:cM (l++s)=cM l++cM s:=by unfold cM;rw[xau]
  rw[strCells_eq,sz,e3];unfold rows;simp only[xbe];have hfl:=vw (cM l) (mU l);rw[yP]at hfl;have e1:((cM l).flatten++ax.flatten).take n=(cM l).flatten:=by rw[hn,<-hfl,xcR]
  have e2:((cM l).flatten++ax.flatten).drop (n+s.length)=(ax.drop s.length).flatten:=by
   rw[hn,<-hfl,xcD,List.drop_of_length_le zO,xaU,show(cM l).flatten.length+s.length-(cM l).flatten.length=s.length by omega]
   conv=>lhs;rw[<-xbK s.length ax,xbe]
   have e4:=vw (ax.take s.length) λr hr=>hj r (xcB hr);rw[xcd,xbY hr]at e4;exact List.drop_left' e4
  rw[e1,e2]
 rw[hcells,sz]at hrun;refine⟨_,_,H',hrun,?_,hk⟩;refine hw.bX Hs rfl rfl rfl ?_ λk hk=>?_
 ·unfold World.setRow;simp only at hg;rw[xbn,xaf rfl,hg];rfl
 unfold World.setRow;rw[xbn,xac (xbJ hk)]
theorem cg.nx{o:Oper}{ρ:Operand->zV}{x y:Operand}{pt it e:TypeId}{b:Nat}{l:List UInt8}{ax:List (List zV)}{fz:Nat×Nat}{H':Hp}(ho:o.op=.call ⟨.builtin .unsafeString,#[x,y],#[pt,it]⟩)
 (hp:P.underlying pt=some (.pointer e))(Je:P.cellsOf e=1)(hx:ρ x=.pointer (some ⟨b,0,none⟩))(hy:ρ y=.int .i64 (l.length:Int))(hl:l≠[])(hj:∀r∈ax,r.length=1)(h63:l.length<=9223372036854775807)(hfz:fz.2<=l.length)
 (Hs:bW b (.cells (rows (cM l++ax)) e fz) (.cells (rows (cM l++ax)) e (0,l.length)) H H')(hk:K (ag l) H'):cg P g o ρ H K KP:=by
 have MB:l.length≠0:=by simpa using hl
 refine cg.ofValue (s:=Builtin.unsafeString_ #[pt,it] o.type #[.pointer (some ⟨b,0,none⟩),.int .i64 (l.length:Int)]) (by simp[execOp,ho,hx,hy,resolve,invoke,builtin,bind,Sem.bind];rfl) λw hw=>?_;have hm:=Hs.mem;have hg:=hw.has _ hm;have aL:∀r∈cM l++ax,r.length=1:=λr hr=>(xav.1 hr).elim (mU l r) (hj r);have hsz:(rows (cM l++ax)).size=l.length+ax.length:=by rw[aS aL,xan];simp[cM]
 have hr:=Lib.run_unsafeString_row (P:=P) w pt it o.type e hp Je b _ (hw.shape hm) l hl (by rw[hsz];omega) h63 (λj u hu=>by
  rw[Addr.add_lit,xaW,hw.cell hm j];unfold rows;have hb:=oF l;have Db:j<(cM l).flatten.length:=by rw[hb,xaw];exact(xae.1 hu).1
  rw[xcq,xbe,xaM Db,hb,xaC,hu];rfl)
 refine⟨_,_,H',hr,?_,hk⟩;unfold World.freeze;rw[xac MB];refine hw.bX Hs rfl rfl rfl ?_ λk hk=>?_
 ·show(w.heap.modify b _)[b]? =_;rw[xbn,xaf rfl];simp only at hg;rw[hg];obtain⟨lo,hi⟩:=fz;simp only at hfz;simp only[xa9,xaW];by_cases h:lo=hi
  ·rw[xaf (by simpa using h)]
  rw[xac (by simpa using h)];rw[xdx (xaB _),Nat.max_eq_right hfz]
 show(w.heap.modify b _)[k]? =_;rw[xbn,xac (xbJ hk)]
end
end Go.Sx
set_option maxRecDepth 100000
namespace Go.Proofs
open Go Go.Sx Tryz
section
open Fm Sw
section
variable {bb c:Nat} {a buf:zV} {l:List UInt8} {B:Hp}
def nR(bb:Nat)(l:List UInt8)(c:Nat)(H:Hp):Prop:=
 ∃(b:Nat) (ax:List (List zV)) (fz:Nat×Nat),H=[ED bb (aP bb) (.slice (some ⟨b,0,none⟩) l.length c),(b,.cells (rows (cM l++ax)) 5 fz)]/\fz.2<=l.length/\(∀r∈ax,r.length=1)/\c=l.length+ax.length
theorem xw{n:Nat}(hn:0<n/\n<=1000000):Fc zQ 123 #[aP bb,nI n] [ED bb (aP bb) (.slice none 0 0)] (λ_ H=>∃c,n<=c/\nR bb [] c H):=by
 refine aU λg=>ur ?_;refine DR.self (Ld.v (.head _) (aG.Ix (e:=5) rfl zK rfl (ae.g7 (a:=2) (b:=0) zD (ae.eo (a:=0) (b:=n) (by simp only[bY];omega) (Ld.v (.head _) (bp.mk ?_))))));refine cg.makeNoZero (e:=5) (ps:=#[3]) (t:=34) (n:=0+n) rfl func156 zK zK zK zK zK (λ_=>rfl) rfl zO λb cs hcs=>⟨.tail,?_⟩;refine bT.upto (h:=0) zO (Ld.v (.tail _ (.head _)) ?_);refine cg.Iv (elem:=5) rfl zK zK rfl rfl ?_;refine Nil.ptr (.mk (St.one (c':=#[aP bb,.slice (some ⟨b,0,none⟩) 0 cs.size]) (.tail (.head _)) rfl (show 1<2 by decide) rfl ?_));obtain⟨js,e1,h1⟩:=Ea cs.toList;have hc:rows js=cs:=by unfold rows;rw[e1,xbM]
 have hl:js.length=cs.size:=by rw[<-vw js h1,e1,xbD]
 refine bc.mk .swap ⟨cs.size,by omega,b,js,(0,0),?_,xaB _,h1,by rw[hl];simp⟩;show [ED bb (aP bb) (.slice (some ⟨b,0,none⟩) 0 cs.size),(b,Obj.cells cs 5 zZ)]=[ED bb (aP bb) (.slice (some ⟨b,0,none⟩) 0 cs.size),(b,Obj.cells (rows ([]++js)) 5 zZ)];rw[xaU,hc]
theorem rF{n:Nat}(hn:0<n/\n<=1000000):Fc zQ 71 #[aP bb,nI n] [ED bb (.pointer none) (.slice none 0 0)] (λ_ H=>∃c,n<=c/\nR bb [] c H):=by
 refine aU λg=>xY (aa.fn (.left (C:=[_])) (rG (.inl rfl) rfl) ?_);rintro _ _ rfl;intro J3 h3;refine ae.dX (b:=0) (Br.F (JE.mk (h3 _ λ_=>?_)));refine Ld.v (.head _) (aG.Ix (e:=5) rfl zK rfl (Ld.v (.head _) (bp.mk (ae.e7 (a:=0) (b:=0) zD zD (ae.dX (a:=0) (Br.T ?_ hn.1))))));refine aa.fn (.left (C:=[ED bb (aP bb) (.slice none 0 0)])) (xw hn) ?_;intro _ H h;rw[xaT];exact bc.mk (.refl _) h
theorem fE(h:nR bb l c B)(s:List UInt8)(hr:l.length+s.length<=c):Fc zQ 72 #[aP bb,ag s] B (λ_ H=>nR bb (l++s) c H):=by
 obtain⟨b,ax,fz,rfl,hfz,hj,hc⟩:=h;refine aU λg=>xX (aa.fn (.left (C:=[_])) (rG (.inr rfl) rfl) ?_);rintro _ _ rfl;refine Nil.ptr (Ld.u (.head _) ?_);refine cg.BA (e:=5) rfl zK zK zK rfl rfl rfl hc hj hfz zO (.tail (.head _)) ?_;refine Nil.ptr (.mk (St.one (c':=#[aP bb,.slice (some ⟨b,0,none⟩) (l.length+s.length) c]) (.head _) rfl (show 1<2 by decide) rfl (au.of ?_)));refine bc.mk (.refl _) ⟨b,ax.drop s.length,fz,by rw[xan],by rw[xan];omega,λr hr=>hj r (List.mem_of_mem_drop hr),by rw[xan,xbw];omega⟩
theorem mW(h:nR bb l c B):Rd zQ 73 #[aP bb] B (· =nI l.length):=by
 obtain⟨b,ax,fz,rfl,_⟩:=h;exact aU λg=>xW (Nil.ptr (Ld.u (.head _) (bp.mk (bH.mk (.refl _) rfl))))
theorem gQ(h:nR bb l c B)(h0:l≠[])(hm:l.length<1099511627776):Fc zQ 74 #[aP bb] B (λv H=>v=ag l/\nR bb l c H):=by
 obtain⟨b,ax,fz,rfl,hfz,hj,hc⟩:=h;have hpos:=List.length_pos_iff.2 h0;refine aU λg=>xV (DR.of (.fm (.head _)) (Nil.ptr (Ld.u (.head _) (Nil.ptr (Ld.u (.head _) (bp.mk ?_))))));refine cg.vX rfl rfl zO ⟨.fm (.head _),?_⟩;refine cg.nx rfl zK zK (e:=5) (l:=l) (ax:=ax) (fz:=fz) rfl rfl h0 hj zO hfz (.tail (.head _)) ⟨.fm (.head _),?_⟩;exact bc.mk (.refl _) ⟨rfl,b,ax,(0,l.length),rfl,xal _,hj,hc⟩
end
theorem Cw{n:Nat}(hn:n<1000000)(B:Hp):Rd zQ 69 #[.int .u64 ((1:Nat):Int),.int .u64 (n:Int)] B (· =.tuple #[.int .u64 ((0:Nat):Int),.int .u64 (n:Int)]):=by
 refine aU λg=>x3 (Br.no (aa.eq (v:=.tuple #[.int .u64 ((0:Nat):Int),.int .u64 (n:Int)]) (B:=B) (aU λg=>uw ?_) (Ext.two (bH.mk (.refl _) rfl))));have hl:bY .u64=18446744073709551616:=rfl;have hand:n&&&4294967295=n:=by
  rw[show(4294967295:Nat)=2^32-1 from rfl,xck,xbd zO]
 refine ae.DJ (b:=4294967295) zO zO (ae.ny zO (ae.DJ (b:=4294967295) zO zO (ae.ny zO ?_)));rw[hand,show(1&&&4294967295:Nat)=1 from rfl,show(1>>>32:Nat)=0 from rfl,xaY n 32,xcc (show n<2^32 by omega)];refine ae.g7 zO (ae.g7 zO (ae.ny zO ?_));rw[Nat.one_mul,Nat.zero_mul,xaY n 32,xcc (show n<2^32 by omega)];refine ae.eo zO (ae.DJ (b:=4294967295) zO zO (ae.ny zO (ae.g7 zO (ae.eo (by simp[bY]) (ae.g7 zO (ae.eo (by simp[bY]) (ae.ny (by simp[bY]) (ae.eo (by simp[bY]) (ae.g7 zO ?_)))))))));exact bH.mk (.refl _) zI
def M3:Hp->Nat
 |(_,Obj.cells cs _ _)::_=>match cs[1]? with
  |some (Value.slice _ n _)=>n
  |_=>0
 |_=>0
theorem Bw{bb c:Nat}{l:List UInt8}{C B:Hp}(h:nR bb l c C):M3 (C++B)=l.length:=by
 obtain⟨b,ax,fz,rfl,_⟩:=h;rfl
theorem wh{n:Nat}(hn:n<=400)(B:Hp):Fc zQ 31 #[ag [110],nI n] B (λv H=>v=ag (List.replicate n 110)/\H=B):=by
 refine aU λg=>yp (ae.bI (b:=0) (Br.dec (λh=>?_) (λh0=>ae.bI (b:=1) (Br.dec (λh=>?_) (λh1=>?_)))))
 ·subst h;exact bc.mk (.refl _) ⟨rfl,rfl⟩
 ·subst h;exact bc.mk (.refl _) ⟨rfl,rfl⟩
 intro J3 h3;refine ae.dX (b:=0) (Br.F (JE.mk (h3 _ λ_=>?_)));refine au.of (aM.nat (a:=1) zD (aM.nat (by simp only[bY];omega) (aa.eq (Cw zO B) (Ext.two ?_))));intro PU Jq;have go:PU [] B:=by
  refine Jq _ λ_=>?_;refine aM.nat (by simp only[bY];omega) (au.of (ae.bI (a:=1) (b:=0) (Br.F ?_)));intro PT Ph;have main:PT [] B:=by
   refine Ph _ λ_=>?_;intro L2 LK;refine ae.iU (b:=8192) (Br.F (JE.mk (LK _ _ λ_=>?_)));intro EE _;refine aa.fn (.left (C:=[_])) (rF (n:=n) zO) ?_;rintro _ C ⟨c,hc,hB⟩;refine aa.fn .left (fE hB [110] zP) ?_;intro _ C1 Ex;rw[xaU]at Ex;refine⟨λvs H=>∃(m:Nat) (C:Hp),vs=[]/\1<=m/\m<=n/\nR EE (List.replicate m 110) c C/\H=C++B,λ_ H=>n-M3 H,JE.mk ⟨1,C1,rfl,xal _,by omega,Ex,rfl⟩,?_⟩;rintro H ⟨m,C2, -,Gn,hmn,Dj,rfl⟩ gs;have hml:(List.replicate m (110:UInt8)).length=m:=xaO;have hne:List.replicate m (110:UInt8)≠[]:=by intro e;rw[e]at hml;simp at hml;omega
   refine aa.eh (args:=#[aP EE]) .left (mW Dj) ?_;rw[hml];refine ae.dX (Br.dec (λhlt=>?_) (λhge=>?_))
   ·refine aa.eh (args:=#[aP EE]) .left (mW Dj) ?_;rw[hml];refine ae.e7 (by simp only[bY];omega) hmn (aa.eh (args:=#[aP EE]) .left (mW Dj) ?_);rw[hml];refine aG.JX rfl rfl rfl rfl ?_;obtain⟨k,hk⟩:∃k,k=min (min (n-m) m) n:=⟨_,rfl⟩;rw[<-hk];refine aa.fn (args:=#[aP EE]) .left (gQ Dj hne zO) ?_;rintro _ C3 ⟨rfl,Jo⟩;refine aG.gx (l:=List.replicate m 110) (i:=0) (j:=k) rfl zK rfl (.inl ⟨rfl,rfl⟩) (.inr ⟨_,.i64,rfl,rfl⟩) (xaB _) zO ?_;rw[List.drop_zero,List.take_replicate,xbY zO];refine aa.fn (args:=#[aP EE,ag (List.replicate k 110)]) .left (fE Jo _ (by rw[xaO,xaO];omega)) ?_;intro _ C4 Ig;have LQ:List.replicate m (110:UInt8)++List.replicate k 110=List.replicate (m+k) 110:=(List.replicate_append_replicate).symm▸rfl;rw[LQ]at Ig;refine aI.of (.refl _) ⟨m+k,C4,rfl,by omega,by omega,Ig,rfl⟩ ?_;rw[Bw Ig,Bw Dj,xaO,xaO];omega
   have:m=n:=by omega
   subst this;refine aa.fn (args:=#[aP EE]) .left (gQ Dj hne zO) ?_;rintro _ C3 ⟨rfl,Jo⟩;exact bc.mk .right ⟨rfl,rfl⟩
  refine aY.of (l:=[110]) (i:=0) (b:=110) rfl ?_;intro QR Pd;refine ae.bI (a:=110) (b:=32) (Br.F (ae.bI (a:=110) (b:=45) (Br.F (ae.bI (a:=110) (b:=48) (Br.F (ae.bI (a:=110) (b:=61) (Br.F (ae.bI (a:=110) (b:=9) ?_))))))));exact JE.mk (Pd _ _ λ_=>Br.no (JE.mk main))
 refine ae.iU (a:=0) (b:=0) (bO.or false (λ_=>ae.iU (b:=9223372036854775807) ⟨rfl,by rw[xaA zO]⟩) rfl λ_=>Br.no (JE.mk go))
end
section
open Fm Sw
section
variable {v:zV} {B:Hp}
theorem Ad{s0 s1 s2 s3:List UInt8}(hv:Sl 1 B v [[ag s0],[ag s1],[ag s2],[ag s3]])(h0:s0≠[])(hl:s0.length<=100/\s1.length<=100/\s2.length<=100/\s3.length<=100):Rd zQ 113 #[v,ag [32]] B (λr=>∃t,r=ag t):=by
 refine aU λg=>nh (hv.cx (ae.bI (a:=4) (b:=0) (Br.F (ae.bI (a:=4) (b:=1) (Br.F ?_)))));intro J6 h6;have get:∀i:Nat,i<4->∃s:List UInt8,[[ag s0],[ag s1],[ag s2],[ag s3]][i]? =some [ag s]/\s.length<=100:=λi hi=>by
  have:i=0\/i=1\/i=2\/i=3:=by omega
  rcases this with rfl|rfl|rfl|rfl
  ·exact⟨s0,rfl,hl.1⟩
  ·exact⟨s1,rfl,hl.2.1⟩
  ·exact⟨s2,rfl,hl.2.2.1⟩
  exact⟨s3,rfl,hl.2.2.2⟩
 have main:J6 [nI 3] B:=by
  refine h6 _ _ λ_=>hv.cx ?_;refine⟨λvs H=>∃i n:Nat,vs=[nI n,nI i]/\i<=4/\n=3+(([s0,s1,s2,s3].take i).map List.length).sum/\H=B,λvs _=>4-dx vs 1,JE.mk ⟨0,3,rfl,by decide,rfl,rfl⟩,?_⟩;rintro P9 P8 H ⟨i,n,⟨⟩,hi,hn,rfl⟩ gs;have Qp:n<=403:=by
   have:i=0\/i=1\/i=2\/i=3\/i=4:=by omega
   rcases this with rfl|rfl|rfl|rfl|rfl<;>simp at hn<;>omega
  refine ae.dX (b:=4) (Br.dec (λhlt=>?_) (λhge=>?_))
  ·obtain⟨s,hs,Gf⟩:=get i hlt;have hs':[s0,s1,s2,s3][i]? =some s:=by
    have:i=0\/i=1\/i=2\/i=3:=by omega
    rcases this with rfl|rfl|rfl|rfl<;>(simp only[xbV,xcS,xao,xbb,xc2,ag,Value.string.injEq,ByteArray.mk.injEq]at hs⊢;simpa using hs)
   refine ai.sl hv hs λp hp=>Ld.at hp (λy hy=>hy) ?_;intro PS LL;refine au.of (ae.e7 (a:=9223372036854775807) (by simp[bY]) zO (ae.iU (Br.F (JE.mk (LL _ λ_=>?_)))));refine au.of (ae.eo (by simp only[bY];omega) (ae.inc (aI.of (.refl _) ⟨i+1,n+s.length,rfl,hlt,?_,rfl⟩ (by simp only[dx];omega))));rw[xbT,hs',hn,xau,List.sum_append];simp only[xdq,xay,xcJ,List.sum_cons,List.sum_nil];omega
  have:i=4:=by omega
  subst this;have hs0:=List.length_pos_iff.2 h0;have Og:n=3+(s0.length+(s1.length+(s2.length+s3.length))):=by simpa using hn
  intro FV _;refine aa.fn (.left (C:=[_])) (rF (n:=n) zO) ?_;rintro _ C ⟨c,hc,hB⟩;refine ai.sl (hv.mono (B':=C++H) λy hy=>xaa _ hy) (i:=0) (r:=[ag s0]) rfl λp hp=>Ld.at hp (λy hy=>hy) ?_;refine aa.fn .left (fE hB s0 zP) ?_;intro _ C1 Ex;rw[xaU]at Ex;refine bT.tail (hv.mono (B':=H) λy hy=>hy) λv' wL=>wL.cx ?_;refine⟨λvs X=>∃(i:Nat) (l:List UInt8) (C:Hp),vs=[nI i]/\i<=3/\l.length=s0.length+i+(([s1,s2,s3].take i).map List.length).sum/\nR FV l c C/\X=C++H,λvs _=>3-dx vs 0,JE.mk ⟨0,s0,C1,rfl,by decide,by simp,Ex,rfl⟩,?_⟩;rintro P5 X ⟨j,l,C2,⟨⟩,hj,l8,Dj,rfl⟩ Pm;refine ae.dX (b:=3) (Br.dec (λhlt=>?_) (λKG=>?_))
  ·have LN:∃s:List UInt8,[[ag s1],[ag s2],[ag s3]][j]? =some [ag s]/\l.length+1+s.length<=n/\s0.length+(j+1)+(([s1,s2,s3].take (j+1)).map List.length).sum=l.length+1+s.length:=by
    have:j=0\/j=1\/j=2:=by omega
    rcases this with rfl|rfl|rfl
    ·exact⟨s1,rfl,by simp at l8;omega,by simp at l8⊢;omega⟩
    ·exact⟨s2,rfl,by simp at l8;omega,by simp at l8⊢;omega⟩
    exact⟨s3,rfl,by simp at l8;omega,by simp at l8⊢;omega⟩
   obtain⟨s,hs,hle,hsum⟩:=LN;refine ai.sl (wL.mono (B':=C2++H) λy hy=>xaa _ hy) hs λp hp=>Ld.at hp (λy hy=>hy) ?_;refine aa.fn .left (fE Dj [32] zP) ?_;intro _ C3 Jo;refine aa.fn .left (fE Jo s zP) ?_;intro _ C4 Ig;exact ae.inc (aI.of (.refl _) ⟨j+1,_,C4,rfl,hlt,by rw[hsum];simp;omega,Ig,rfl⟩ (by simp only[dx];omega))
  have:j=3:=by omega
  subst this;have I3:l.length=s0.length+3+(s1.length+(s2.length+s3.length)):=by simpa using l8
  refine aa.fn (args:=#[aP FV]) .left (gQ Dj (by intro e;rw[e]at I3;simp at I3;omega) zO) ?_;rintro _ C3 ⟨rfl,_⟩;exact bH.mk .right ⟨_,rfl⟩
 refine au.of (ae.iU (a:=1) (b:=0) (Br.T ?_));intro PN LG;refine au.of (hv.cx (ae.e7 (a:=4) (b:=1) zD zD (ae.Dw (a:=9223372036854775807) (b:=3) (by simp[bY]) zD (ae.nw (a:=1) (Br.F (JE.mk (LG _ λ_=>?_)))))));exact au.of (hv.cx (ae.e7 (a:=4) (b:=1) zD zD (ae.g7 (a:=1) (b:=3) zD (ae.eo (a:=0) (b:=3) zD (JE.mk main)))))
end
end
section
open ay
section
noncomputable abbrev Mi:Func:=Tryz.f199
variable {f:FuncId} {cap:Array zV} {B:Hp} {S:List (List UInt8)->Prop}
noncomputable def ez:Code:=match Mi.body with|some (.seq _ (.seq (.seq _ (.block _ (.rangeFunc _ _ c _))) _))=>c|_=>.skip
noncomputable def gZ:Code:=match Mi.body with|some (.seq _ (.seq (.seq _ (.block _ (.rangeFunc _ _ _ c))) _))=>c|_=>.skip
def ja(fn:FuncId)(tmps:Array zV)(assign body:Code)(D:Nat):Loop:={state:=.ready,pending:=none,fn,tmps,params:=#[7],assign,body,defers:=D}
def Mh(l D bs:Nat)(fn:FuncId)(tmps:Array zV)(assign body:Code)(ss:List (List UInt8))(A:Hp):Prop:=
 A=(l,.loop (ja fn tmps assign body D))::(D,.deferred (some []))::(bs,.cells #[.slice none 0 0] 30 zZ)::[]
theorem sK(hg:EG zQ f cap B ag 0 S)(hc:bA zQ f=true):
  Fc zQ 199 #[.slice none 0 0,.func (.func f) #[] cap] B (λv H=>v=.slice none 0 0/\H=B):=by
 intro g w hw;rw[<-callsIn_wide (n:=0)];have hF:∀f,Fence.wide.fn f:=λ_=>trivial;refine callsIn_of_wp_marks func199 rfl trivial ?_;have ha:=m0 (m:=13) (args:=[.slice none 0 0,.func (.func f) #[] cap]) zI;refine wpIn_seq ?_;refine wpIn_region_lit ?_;refine GU (g:=g) (n:=13) (s:=_) (K:=λv H=>∃bs,v=ptr bs/\H=(bs,.cells #[.slice none 0 0] 30 zZ)::B) hF rfl zC rfl ha hw rfl (λbs _=>⟨bs,rfl,rfl⟩) λv H1 w1 a1 hv kg Et=>?_;obtain⟨bs,rfl,rfl⟩:=hv;refine nX (g:=g) (n:=13) (v0:=.slice none 0 0) hF rfl zC rfl Et kg rfl λa2 Es=>?_;refine wpListIn_nil ?_;refine wpIn_seq ?_;refine wpIn_seq ?_;refine wpIn_region_lit ?_;refine nX (g:=g) (n:=13) (v0:=.func (.func f) #[] cap) hF rfl zC rfl Es kg rfl λa3 Jf=>?_;refine wpListIn_nil ?_;refine wpIn_block ?_;refine wpIn_rangeFunc λfn hfn=>?_;have Ek:=(kg.alloc (.deferred (some []))).alloc (.loop (ja fn a3.tmps ez gZ w1.heap.size));have f6:a3.tmps[6]?.getD undef=.func (.func f) #[] cap:=by have:=Jf.get 6;rw[xai]at this;exact this
 obtain⟨W1,MM⟩:∃W1,W1=(w1.alloc (.deferred (some []))).alloc (.loop (ja fn a3.tmps ez gZ w1.heap.size)):=⟨_,rfl⟩;rw[<-MM]at Ek;refine⟨w1.heap.size+1,[{target:=.collected w1.heap.size,args:=#[]}],W1,{target:=.fn (.func f) cap,args:=#[.func (.yield (w1.heap.size+1)) #[] #[]]},W1,f,#[.func (.yield (w1.heap.size+1)) #[] #[]]++cap,W1,?_,?_,λ_ _=>trivial,?_,λh=>(by cases h),?_⟩
 ·rw[MM];exact run_enterLoop_outer fn a3.tmps #[7] _ _
 ·simp[resolve,Deferred.ofValue,f6,go_sem]
 ·simp[invoke,go_sem];exact cv hc _ _
 have hsz:(w1.alloc (.deferred (some []))).heap.size=w1.heap.size+1:=by simp
 rw[hsz]at Ek;refine CallsIn.mono (hg g (w1.heap.size+1) (Mh (w1.heap.size+1) w1.heap.size bs fn a3.tmps ez gZ) (λss x A X W hG hl hW=>absurd hl (xbX _)) [_,_,_] W1 rfl Ek) ?_;rintro e W2 ⟨⟨v0,rfl⟩,ss,A',hS,rfl,ML⟩;refine⟨none,_,run_endLoop (ML.has _ (.head _)) (by simp[ja]),?_⟩;have FA:=ML.putObj (o':=.loop {ja fn a3.tmps ez gZ w1.heap.size with state:=.exhausted}) (.head _);simp only[Exit.then,Exit.inBlock];have OP:yT [{target:=.collected w1.heap.size,args:=#[]}] 13 {a3 with defers:=[{target:=.collected w1.heap.size,args:=#[]}]++a3.defers} (bX (bX (bX (c5 [.slice none 0 0,.func (.func f) #[] cap] 0) (some 2) (ptr bs)) (some 4) (.slice none 0 0)) (some 6) (.func (.func f) #[] cap)):=
  ⟨by rw[Jf.defers];rfl,Jf.size,Jf.get⟩
 refine wpIn_seq ?_;refine wpIn_region_lit ?_;obtain⟨H3,Lt⟩:∃H3,H3=(w1.heap.size+1,Obj.loop {ja fn a3.tmps ez gZ w1.heap.size with state:=.exhausted})::(((w1.heap.size,.deferred (some []))::(bs,.cells #[.slice none 0 0] 30 zZ)::[])++B):=⟨_,rfl⟩
 replace FA:Own g H3 (W2.putObj (w1.heap.size+1) (.loop {ja fn a3.tmps ez gZ w1.heap.size with state:=.exhausted})):=by rw[Lt];exact FA
 have e0:wm zQ g (bQ Mi 4 0) (ev (bX (bX (bX (c5 [.slice none 0 0,.func (.func f) #[] cap] 0) (some 2) (ptr bs)) (some 4) (.slice none 0 0)) (some 6) (.func (.func f) #[] cap))) H3 (λz=>z=.slice none 0 0)=Ld H3 (ptr bs) (λz=>z=.slice none 0 0):=by kernel_rfl
 refine nX (g:=g) (n:=13) (v0:=.slice none 0 0) hF rfl zC rfl OP FA (e0.mpr (Ld.mk (by rw[Lt];exact .tail _ (.tail _ (.head _))) rfl rfl)) λa5 OO=>?_;refine nX (g:=g) (n:=13) (v0:=.slice none 0 0) hF rfl zC rfl OO FA rfl λa6 MK=>?_;refine wpListIn_nil ?_;refine wpIn_ret ?_;simp only[Exit.then,bodyPostM];rw[MK.defers];rw[Lt]at FA;refine⟨by simp,.inl ⟨w1.heap.size,_,rfl,run_takeDeferred (FA.has _ (.tail _ (.head _))),?_⟩⟩;have OQ:=FA.putObj (o':=.deferred none) (.tail (.head _));refine⟨_,results_tmp rfl _ _ _,B,OQ.tail.tail.tail,.slice none 0 0,B,?_,.refl _,rfl,rfl⟩;have:=MK.get 4;rw[this];rfl
end
section
variable {es:Array MapEntry} {ck b:Nat}
theorem Aa(B:Hp):Fc zQ 118 #[.map (some b)] B
  (λv H=>∃bm,v=.func (.func 154) #[] #[ptr bm]/\H=(bm,.cells #[.map (some b)] 46 zZ)::B):=by
 refine aU λg=>ux ?_;intro b1 _;exact bc.here ⟨b1,rfl,rfl⟩
noncomputable abbrev PI:Func:=Tryz.f154
def LW(g:Gh)(bi b:Nat)(l:Nat)(es:Array MapEntry)(ck:Nat)(G:List (List UInt8)->Hp->Prop)(B:Hp)(k:Nat)(a:Act)(w:World):Prop:=
 ∃(fr:Fr) (A:Hp) (seen:Array Nat),yT [] 14 a fr/\fr 0=.func (.yield l) #[] #[]/\fr 5=ptr bi/\G [] A/\Own g (A++((bi,.mapIter (some b) ck seen ck)::B)) w/\k=0
theorem qO{bm:Nat}{fz:Nat×Nat}(h:br ag (λv (r:Nat)=>v=u32 r) es ck []):EG zQ 154 #[ptr bm] [(bm,.cells #[.map (some b)] 46 fz),(b,.map es ck)] ag 0
  (λss=>ss=[]):=by
 intro g l G hY A W h0 hW;have hF:∀f,Fence.wide.fn f:=λ_=>trivial;refine callsIn_of_wp func154 rfl trivial ?_;have ha:=m0 (m:=14) (args:=[.func (.yield l) #[] #[],ptr bm]) zI;refine wpIn_seq ?_;refine wpIn_region_lit ?_;obtain⟨B,hB⟩:∃B,B=[(bm,Obj.cells #[.map (some b)] 46 fz),(b,.map es ck)]:=⟨_,rfl⟩;rw[<-hB]at hW;have Gn:(bm,Obj.cells #[.map (some b)] 46 fz)∈A++B:=by rw[hB];exact xaa _ (.head _)
 have HG:(b,Obj.map es ck)∈A++B:=by rw[hB];exact xaa _ (.tail _ (.head _))
 have Qr:∀{X:Hp},(b,Obj.map es ck)∈X++B:=by intro X;rw[hB];exact xaa _ (.tail _ (.head _))
 rw[<-hB];have e0:wm zQ g (bQ PI 0 0) (ev (c5 [.func (.yield l) #[] #[],ptr bm] 0)) (A++B) (λx=>x=.map (some b))=Ld (A++B) (ptr bm) (λx=>x=.map (some b)):=by kernel_rfl
 refine nX (g:=g) (n:=14) (v0:=.map (some b)) hF rfl zC rfl ha hW (e0.mpr (Ld.mk Gn rfl rfl)) λa1 Et=>?_;refine y7 (g:=g) (n:=14) (s:=Instr.range 46 (.map (some b))) (K:=λv H=>∃bi,v=ptr bi/\H=(bi,.mapIter (some b) ck #[] ck)::(A++B)) hF rfl zC rfl Et rfl
  (JB.run (.inr ⟨b,es,ck,rfl,HG,λbi _=>⟨bi,rfl,rfl⟩⟩) hW (t:=46) (kt:=9) (e:=82) zK) λv H' w1 a2 hv kg Es=>?_
 obtain⟨bi,rfl,rfl⟩:=hv;refine wpListIn_nil ?_;have My:Own g (A++((bi,.mapIter (some b) ck #[] ck)::B)) w1:=kg.perm (xa5).symm;clear kg Et ha hW Gn HG;refine wpIn_block ?_;refine rV (LW g bi b l es ck G B) (k:=0) ⟨_,A,#[],Es,rfl,rfl,h0,My,rfl⟩ ?_;clear Es My h0 e0 A;rintro k a w ⟨fr,A,seen,ha,f0,f6,hG,hw,hk⟩;have Kb:∀seen,fK es ([]:List (List UInt8×Nat)) seen=[]:=λseen=>by unfold fK;simp
 refine wpIn_seq ?_;refine wpIn_region_lit ?_;have e6:ev fr (.tmp 5)=ptr bi:=f6;refine y7 (g:=g) (n:=14) (s:=Instr.next (ptr bi) false 0)
  (K:=λv H=>v=.tuple #[.bool false]/\H=A++((bi,.mapIter (some b) ck seen ck)::B)) hF rfl zC rfl ha ?_
  (IF.run (h.next (bi:=bi) (bm:=b) (seen:=seen) (H:=A++((bi,.mapIter (some b) ck seen ck)::B)) (xaa _ (.tail _ (by rw[hB];exact .tail _ (.head _)))) (xaa _ (.head _))
   (λe x seen' he hk hv hp hb hf=>by rw[Kb]at hp;exact absurd hp.length_eq zI) (λhu=>⟨rfl,rfl⟩)) hw) λv H' w1 a1 hv kg Et=>?_
 ·rw[e6.symm];rfl
 obtain⟨rfl,rfl⟩:=hv;refine nX (g:=g) (n:=14) (v0:=.bool false) hF rfl zC rfl Et kg ⟨_,_,rfl,rfl,rfl⟩ λa2 Es=>?_;refine wpListIn_nil ?_;refine wpIn_seq ?_;refine wpIn_cond_false (by rw[Es.eval];rfl) ?_;refine wpIn_exit ?_;simp only[Exit.then,Exit.inBlock,xaS,bodyPost];exact⟨Es.defers,_,results_none rfl _ _ _,⟨_,rfl⟩,[],A,rfl,hG,(kg.perm xa5).tail⟩
end
end
end Go.Proofs
namespace ay
def dst(x y:Nat):Nat:=(x-y)+(y-x)
end ay
namespace ay
section
variable {m:Rm} {g:Nat}
theorem so{ord:zL}{v n:Nat}(hp:ord.Perm (List.range n))(hv:v<n):ord.idxOf v<n:=by
 have h1:v∈ord:=hp.mem_iff.2 (xa8.2 hv);have h2:=List.idxOf_lt_length_of_mem h1;rwa [hp.length_eq,xb4]at h2
end
end ay
set_option maxRecDepth 100000
namespace Go.Proofs
open Go Go.Sx Tryz
open ay
section
variable {kp wp bx a b q gr sw p:Nat} {la:Int} {st:zV} {K:Kd} {S:Nat->ay.Fn} {ord o tr:zL} {C:Hp} {dn:Bool}
def G8(dn:Bool)(j:Nat):Nat:=bif dn then j+1 else j-1
end
end Go.Proofs
namespace cF
open Go.Sx
def D7:zL->Nat
 | []=>0
 |x::r=>r.foldl min x
def wx(n a:Nat):zL:=(List.range n).filter λv=> !a.testBit v
def has(n a:Nat):zL:=(List.range n).filter λv=>a.testBit v
def M4(n:Nat)(c:Nat->Nat->Nat):Nat->Nat->Nat
 |0,_=>0
 |f+1,a=>D7 ((wx n a).map λv=>c a v+M4 n c f (aW a v true))
def par(n:Nat)(c:Nat->Nat->Nat):Nat->Nat->Nat
 |0,_=>0
 |f+1,s=>D7 ((has n s).map λv=>c (aW s v false) v+par n c f (aW s v false))
def B(n:Nat)(c:Nat->Nat->Nat)(a:Nat):Nat:=M4 n c n a
def W(n:Nat)(c:Nat->Nat->Nat)(s:Nat):Nat:=par n c n s
structure Used(n:Nat)(c:Nat->Nat->Nat)(U:Nat):Prop where
 zero:∀a v,v<n->a.testBit v=false->U.testBit v=false->c a v=0
 mask:∀a v,v<n->a.testBit v=false->c a v=c (a&&&U) v
def ord(n:Nat)(c:Nat->Nat->Nat):Nat->Nat->zL
 |0,_=>[]
 |f+1,a=>match(wx n a).find? λv=>c a v+B n c (aW a v true)==B n c a with
  |some v=>v::ord n c f (aW a v true)
  |none=>[]
end cF
namespace cF
open Go.Sx
theorem fh{x u v:Nat}{b c:Bool}(h:u≠v):aW (aW x u b) v c=aW (aW x v c) u b:=by
 apply xa6;intro k;rw[ak,ak,ak,ak];by_cases e1:k=u<;>by_cases e2:k=v
 ·exact absurd (e1.symm.trans e2) h
 ·simp[e1,h]
 ·simp[e2,xbJ h]
 simp[e1,e2]
end cF
set_option maxRecDepth 100000
namespace Go.Proofs
open Go Go.Sx Tryz
def kp(x:Nat×Nat):zV:=.agg (an .i64 [(x.1:Int),(x.2:Int)])
end Go.Proofs
namespace JF
abbrev It:=Int×Int
def prec(a b:It):Bool:=decide (a.2<b.2)||(a.2==b.2&&decide (a.1<b.1))
def E(V:Nat->It)(j:Nat):Prop:=prec (V j) (V ((j-1) /2))=false
def Ord(n:Nat)(V:Nat->It):Prop:=∀j,0<j->j<n->E V j
def at'(l:List It)(j:Nat):It:=l.getD j (0,0)
end JF
namespace JF
open Go Go.Sx
def enc(kd:IntKind)(a:It):List zV:=[.int kd a.1,.int .i64 a.2]
def idx(i:Nat):zV:=.int .i64 (i:Int)
end JF
namespace cF
open Go.Sx JF
def nn(s k:Nat):It:=((s:Int),(k:Int))
variable {n:Nat} {c:Nat->Nat->Nat} {T:Nat} {D:zL} {l l':List It} {s i:Nat}
end cF
set_option maxRecDepth 100000
namespace Go.Proofs
open Go Go.Sx Tryz
section
theorem ae.Ch{kd:IntKind}{a b:Nat}{k:zV->Prop}(hb:b≠0)(h:k (.int kd ((a%b:Nat):Int))):ae .num .rem (.int kd a) (.int kd b) k:=
 ae.D4 zO rfl (by have:((a:Int)).tmod (b:Int)=((a%b:Nat):Int):=rfl;rw[this];exact h)
end
section
open ay
section
variable {kp mb PD b1 b7 QI bn:Nat} {K:Kd} {S:Nat->ay.Fn} {ord af tr:zL} {C:Hp}
def kr(r:Nat):zV:=u32 r
theorem py(a b:Nat):Instr.sameNow (.int .u32) (kr a) (kr b)=some (decide (a=b)):=by
 simp only[Instr.sameNow,kr,u32,xaS,xao];rw[xcH];simp;omega
theorem CK(a:Nat):Instr.sameBits 10000 (kr a) (kr a)=true:=by simp[Instr.sameBits,kr,u32]
theorem EU{n:Nat}{s:zV}(h:s.oneCell'=true):∀u∈[Value.int .i64 (n:Int),s],u.oneCell'=true:=λu hu=>by
 simp only[xag,xax,xa3]at hu;rcases hu with rfl|rfl
 ·rfl
 exact h
theorem j3(d:Nd):∀u∈e9 d,u.oneCell'=true:=λu hu=>by
 simp only[e9,xag,xax,xa3]at hu;rcases hu with rfl|rfl|rfl<;>rfl
theorem Bm{X:Hp}(h:cj kp K S ord af tr C){r:Nat}{d:Nd}(hd:K.N r=some d):Px zQ 138 #[ptr kp,u32 r] (X++C) (λv _=>v=.agg (e9 d).toArray):=by
 have hlt:=h.cD (.inr ⟨d,hd⟩);refine aU λg=>tZ λb1 _=>?_;refine aa.eq (args:=#[ptr kp,u32 r]) (jz h.rep zO) ?_;rw[dJ hd (h.ok.mid.two hd).1];refine Ext.two λb7 _=>(St.p (j3 d) ?_);refine aA.q ?_;refine St.p (j3 d) ?_;refine aA.q ?_;exact M6.mk (by repeat (first|exact gp.refl _|apply gp.cons|apply gp.app)) rfl
theorem Bq{X:Hp}{v:zV}(h:cj kp K S ord af tr C){rs:zL}(hv:eV .u32 (X++C) v (iw rs))(hr:∀r∈rs,live K.N r)(hl:rs.length<4611686018427387904):Px zQ 136 #[ptr kp,v] (X++C) (λw _=>w=iv 0):=by
 refine aU λg=>uc (ae.bh (Br.no (hv.cx ?_)));rw[aV];refine⟨λvs H=>∃(i:Nat) (N:Hp),vs=[iv (i:Int)]/\i<=rs.length/\H=N++(X++C),λvs _=>rs.length-dx vs 0,JE.mk ⟨0,[],rfl,xaB _,rfl⟩,?_⟩;rintro w H ⟨i,N,hw,hi,rfl⟩ gs;simp only[xbb,xc2]at hw;subst hw;refine ae.dX (Br.dec (λhlt=>?_) (λhge=>?_))
 ·have yL:=hr _ (xaP hlt);have Fo:=h.cD yL;refine hv.ld (n:=((rs[i]:Nat):Int)) (gI (xab hlt)) (λ_ h=>xaa _ h) ?_;refine aa.eq (args:=#[ptr kp,u32 rs[i]]) (jz h.rep zO) ?_;rw[xaf (bD.2 yL)];refine Ext.two λPE _=>(St.whole (r:=got K.N rs[i]) (by exact .head _) rfl (aT _ _).1 (aT _ _).2 ?_);exact ae.j4 (Br.F (ae.inc (aI.mk ⟨i+1,_::N,rfl,hlt,rfl⟩ (by simp only[dx];omega))))
 exact M6.mk (by repeat (first|exact gp.refl _|apply gp.cons|apply gp.app)) rfl
end
end
end Go.Proofs
namespace cF
open Go.Sx
variable {n:Nat}
variable {φ:zL->zL} {π:Nat->Nat}
def lay(n:Nat)(F:Nat->Nat):zL:=(List.range (wN n)).map λi=>F i&&&eG n
def neg(n:Nat)(ws:zL):zL:=lay n λi=>18446744073709551615-ws.getD i 0
end cF
set_option maxRecDepth 100000
namespace Go.Proofs
open Go Go.Sx Tryz
section
open ay
section
variable {kp:Nat} {K:Kd} {S:Nat->ay.Fn} {ord tr:zL} {C:Hp} {Q:zV->Hp->Prop}
theorem r4(h:At kp K S ord tr C){s gr:Nat}:Rd zQ 193 #[ptr kp,.int .u8 (s:Int),iv (gr:Int)] C (· =iv (if 6<s\/gr<100\/1000<gr then 1 else if s=6/\12<K.n then 6 else 0)):=by
 refine aU λg=>tx ?_;refine ae.bh (Br.no (ae.iU (b:=6) (bO.or (a:=decide (6<s)) (decide (gr<100)) (λ_=>ae.dX (b:=100) ⟨rfl,rfl⟩) rfl λ_=>?_)));refine bO.or (a:=decide (6<s)||decide (gr<100)) (decide (1000<gr)) (λ_=>ae.iU (b:=1000) ⟨rfl,rfl⟩) rfl λ_=>?_;rw[<-xaR,<-xaR];refine Br.dec (λhb=>?_) (λhb=>?_)
 ·rw[xaf zO];exact bH.mk (.refl _) rfl
 rw[xac zO];intro J9 h9;refine ae.bI (b:=6) ?_;by_cases hs:s=6
 ·rw[xaN hs];refine Split.go rfl (aa.eq (DC h) (ae.iU (b:=12) (az.mk (JE.mk (h9 _ _ λ_=>?_)))));show Br (.bool (decide (12<K.n))) _ _;refine Br.dec (λh12=>?_) (λh12=>?_)
  ·rw[xaf ⟨hs,h12⟩];exact bH.mk (.refl _) rfl
  rw[xac zO];exact bH.mk (.refl _) rfl
 rw[xaA hs];refine Split.G6 rfl (az.mk (JE.mk (h9 _ _ λ_=>Br.no ?_)));rw[xac zO];exact bH.mk (.refl _) rfl
abbrev JP(a b c:Int)(d:Bool):zV:=.agg #[iv a,iv b,iv c,.bool d]
theorem Cg(h:At kp K S ord tr C){s gr:Nat}(hb:6<s\/gr<100\/1000<gr):Rd zQ 151 #[ptr kp,.int .u8 (s:Int),iv (gr:Int)] C (· =.tuple #[JP 0 0 0 false,iv 1]):=by
 refine aU λg=>tV ?_;intro b1 _;refine aa.eq (r4 h) ?_;rw[xaf hb];refine ae.j4 (Br.T (Build.mk (cs:=[iv 0,iv 0,iv 0,.bool false]) zK ?_));refine St.q ?_;refine aA.q ?_;exact bH.mk .tail rfl
end
end
section
open ay
theorem GZ{P:Program}{f:FuncId}{args:Array zV}{B:Hp}{Q:zV->Prop}(h:Px P f args B (λv _=>Q v)):Rd P f args B Q:=λg=>(h g).mono λe H h=>by
 obtain⟨v,H2,rfl,he,hg,hq⟩:=h;exact⟨v,B,rfl,he.trans hg.eS,rfl,hq⟩
section
variable {kp:Nat} {K:Kd} {S:Nat->ay.Fn} {ord af tr:zL} {C:Hp}
theorem oE(r:Nat)(B:Hp):Rd zQ 137 #[u32 r] B (· =.bool (decide (r<2))):=by
 refine aU λg=>ua (ae.bI (b:=0) (bO.or (a:=decide (r=0)) (decide (r=1)) (λ_=>ae.bI (b:=1) ⟨rfl,rfl⟩) rfl λ_=>?_));refine bH.mk (.refl _) ?_;rw[<-xaR];congr 1;exact xdy.2 zO
end
section
variable {kp mb b1 b9 c9 c1 c3 QA:Nat} {K:Kd} {S:Nat->ay.Fn} {ord af tr:zL} {C Z:Hp}
abbrev u64(x:Nat):zV:=.int .u64 (x:Int)
theorem Bl(h:cj kp K S ord af tr C){r:Nat}{d:Nd}(hd:K.N r=some d):Rd zQ 138 #[ptr kp,u32 r] C (· =.agg (e9 d).toArray):=GZ (Bm (X:=[]) h hd)
theorem Bp(h:cj kp K S ord af tr C){X:Hp}{r b:Nat}(hm:(b,Obj.cells (an .u32 [(r:Int)]) 82 zZ)∈X)(hr:live K.N r):Rd zQ 136 #[ptr kp,.slice (some ⟨b,0,none⟩) 1 1] (X++C) (· =iv 0):=
 GZ (Bq (X:=X) (rs:=[r]) h (eV.block (xad _ hm) zI) (λx hx=>by rw[xaG.1 hx];exact hr) zI)
end
section
variable {B:Hp}
abbrev i64(a:Int):zV:=iv a
structure Cf where
 n:Nat
 cap:Nat
 str:Nat
 gr:Nat
 rs:Nat
end
section
theorem qQ{n:Int}(hn:n<0\/64<n)(B:Hp):Rd zQ 46 #[iv n] B (· =.tuple #[.slice none 0 0,iv 1]):=by
 refine aU λg=>oV (ae.lss (bO.or (a:=decide (n<0)) (decide (64<n)) (λ_=>ae.gtr ⟨rfl,rfl⟩) rfl λ_=>?_));rw[<-xaR,xaN hn];exact Br.yes (bH.mk (.refl _) rfl)
theorem EZ{n cap:Int}(hb:n<1\/64<n\/cap<2\/1048576<cap):Rd zQ 27 #[i64 n,i64 cap] [] (· =.tuple #[.pointer none,i64 1]):=by
 refine aU λg=>oX ?_;by_cases hn:n<0\/64<n
 ·refine aa.eq (qQ hn _) (Ext.two (ae.j4 (bO.or true (λh=>absurd h zD) rfl λgs=>?_)));refine bO.or true (λh=>absurd h zD) rfl λgs=>?_;refine bO.or true (λh=>absurd h zD) rfl λgs=>Br.yes ?_;exact bH.mk (.refl _) rfl
 obtain⟨m,rfl⟩:∃m:Nat,n=m:=⟨n.toNat,by omega⟩;refine aa.fq (kU (n:=m) zO) ?_;rintro v CO ⟨s,rfl,hO⟩;refine Ext.two (ae.j4 (bO.or (decide ((m:Int)<1)) (λ_=>ae.lss ⟨rfl,rfl⟩) rfl λgs=>?_));refine bO.or (decide (cap<2)) (λ_=>ae.lss ⟨rfl,rfl⟩) rfl λgs=>?_;refine bO.or (decide (1048576<cap)) (λ_=>ae.gtr ⟨rfl,rfl⟩) rfl λgs=>?_;exact Br.EJ (by simp only[xbA,xaH];omega) (bH.mk (λ_ _ h=>h.e8) rfl)
end
def HF(L:List ay.Fn)(g:ay.Fn):Prop:=g∈L/\∃v,cT g v
def F2(n cap:Nat)(L:List ay.Fn)(ord:zL)(lo hi:ay.Fn):Prop:=Fits (aJ n ord (λg=>(HF L g\/g=lo)\/g=hi)) cap
end
end Go.Proofs
namespace ay
open cF
variable {n:Nat} {af:Nat->Nat} {N:dh} {S:Nat->Fn} {ord:zL} {R:Nat->Prop} {V:zL}
inductive Rc(N:dh)(R:Nat->Prop):Nat->Prop
 |base {r:Nat}:R r->Rc N R r
 |lo {p:Nat} {d:Nd}:Rc N R p->N p=some d->Rc N R d.lo
 |hi {p:Nat} {d:Nd}:Rc N R p->N p=some d->Rc N R d.hi
def DN(N:dh)(V:zL):Prop:=∀u∈V,∃d,N u=some d/\(d.lo<2\/d.lo∈V)/\(d.hi<2\/d.hi∈V)
theorem uK(h0:∀r,r<2->N r=none)(hV:DN N V)(hR:∀r,R r->r<2\/r∈V):∀l r,A N af n R l r->r<2\/r∈V
 |0,r,ha=>hR r ha
 |l+1,r,ha=>by
  rcases ha with⟨h1,_⟩|⟨p,d,h1,h2,_,h4⟩
  ·exact uK h0 hV hR l r h1
  rcases uK h0 hV hR l p h1 with hp|hp
  ·rw[h0 p hp]at h2;cases h2
  obtain⟨d',hd,a,b⟩:=hV p hp;rw[h2]at hd;cases hd;rcases h4 with rfl|rfl
  ·exact a
  exact b
theorem Rc.at(h:WF n af N)(hR:∀r,R r->live N r){u:Nat}(hu:Rc N R u):∀d,N u=some d->A N af n R (af d.v) u:=by
 induction hu with
 |base hr=>
  intro d hd;have:=kJ (N:=N) (af:=af) (n:=n) (af d.v) 0 hr (by rw[aq hd];omega);rwa [xaW]at this
 | @lo p e hp he ih=>
  intro d hd;have hlt:=(h.lo he).2;rw[aq hd]at hlt;have hb:A N af n R (af e.v+1) e.lo:=.inr ⟨p,e,ih e he,he,rfl,.inl rfl⟩;have:=kJ (af d.v-(af e.v+1)) _ hb (by rw[aq hd];omega);rwa [show af e.v+1+(af d.v-(af e.v+1))=af d.v by omega]at this
 | @hi p e hp he ih=>
  intro d hd;have hlt:=(h.hi he).2;rw[aq hd]at hlt;have hb:A N af n R (af e.v+1) e.hi:=.inr ⟨p,e,ih e he,he,rfl,.inr rfl⟩;have:=kJ (af d.v-(af e.v+1)) _ hb (by rw[aq hd];omega);rwa [show af e.v+1+(af d.v-(af e.v+1))=af d.v by omega]at this
theorem vR(h:WF n af N)(hl:m5 n af)(ho:Ord n af ord)(hi:Interp N S)(hR:∀r,R r->live N r)(hV:DN N V)(Lo:∀r,R r->r<2\/r∈V)(KZ:∀u∈V,Rc N R u)(g:Fn):aJ n ord (Fs S R) g↔∃u∈V,g=S u:=by
 constructor
 ·rintro⟨l,C8,hf,x,hx⟩;obtain⟨v1,v2⟩:=ho.at' l C8;obtain⟨r,ha,rfl⟩:=(AR h hl ho hi hR l zO g).1 hf;rcases uK (λr hr=>h.const hr) hV Lo l r ha with hc|hm
  ·exfalso;have:r=0\/r=1:=by omega
   rcases this with rfl|rfl
   ·exact hx (by rw[hi.zero,hi.zero])
   exact hx (by rw[hi.one,hi.one])
  exact⟨r,hm,rfl⟩
 rintro⟨u,hu,rfl⟩;obtain⟨d,hd,_⟩:=hV u hu;have hv:=h.var hd;refine⟨af d.v,hl.lt _ hv,(AR h hl ho hi hR _ (xbN (hl.lt _ hv)) _).2 ⟨u,(KZ u hu).at h hR d hd,rfl⟩,?_⟩;rw[ho.of hl hv];exact fO h hl hi hd
theorem B3(h:WF n af N)(hl:m5 n af)(ho:Ord n af ord)(hi:Interp N S)(hR:∀r,R r->live N r)(hV:DN N V)(Lo:∀r,R r->r<2\/r∈V)(KZ:∀u∈V,Rc N R u)(nd:V.Nodup):lY (aJ n ord (Fs S R)) V.length:=by
 have live':∀u∈V,live N u:=λu hu=>let ⟨d,hd,_⟩:=hV u hu;.inr ⟨d,hd⟩
 refine⟨V.map S,?_,by simp,λg=>?_⟩
 ·refine xcU.2 (nd.imp_of_mem λ{a b} ha hb hne e=>hne ?_);exact h.same hl hi (live' a ha) (live' b hb) λx=>congrFun e x
 rw[vR h hl ho hi hR hV Lo KZ,xaq];exact⟨λ⟨u,hu,e⟩=>⟨u,hu,e.symm⟩,λ⟨u,hu,e⟩=>⟨u,hu,e.symm⟩⟩
end ay
