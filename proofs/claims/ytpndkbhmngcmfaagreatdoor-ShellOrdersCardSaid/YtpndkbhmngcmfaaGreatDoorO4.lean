import Derived.Test.YtpndkbhmngcmfaaGreatDoorO3
import Derived.Test.YtpndkbhmngcmfaaGreatDoorO2
import Derived.Test.YtpndkbhmngcmfaaGreatDoorO1
import Derived.Deep.Slices
import Derived.SizedLaws
import Derived.WalkSmall
import Derived.Lib.Builder
import Derived.Lib.AppendStr
import Derived.Lib.UnsafeStr
import Derived.Laws.Externs
set_option linter.unusedVariables false
set_option linter.unusedSimpArgs false
set_option linter.unusedSectionVars false
namespace aE
open an
section
variable {n l:Nat} {ord:zL} {F G:Fn->Prop} {f c:Fn}
theorem yI:∀l g,fs ord (λg=>F g\/G g) l g↔fs ord F l g\/fs ord G l g
 |0,g=>xc8
 |l+1,g=>by
  constructor
  ·rintro⟨f,hf,b,rfl⟩;rcases(yI l f).1 hf with h|h
   ·exact .inl ⟨f,h,b,rfl⟩
   exact .inr ⟨f,h,b,rfl⟩
  rintro(⟨f,hf,b,rfl⟩|⟨f,hf,b,rfl⟩)
  ·exact⟨f,(yI l f).2 (.inl hf),b,rfl⟩
  exact⟨f,(yI l f).2 (.inr hf),b,rfl⟩
theorem PY(g:Fn):bc n ord (λg=>F g\/G g) g↔bc n ord F g\/bc n ord G g:=by
 constructor
 ·rintro⟨l,hl,hf,hh⟩;rcases(yI l g).1 hf with h|h
  ·exact .inl ⟨l,hl,h,hh⟩
  exact .inr ⟨l,hl,h,hh⟩
 rintro(⟨l,hl,hf,hh⟩|⟨l,hl,hf,hh⟩)
 ·exact⟨l,hl,(yI l g).2 (.inl hf),hh⟩
 exact⟨l,hl,(yI l g).2 (.inr hf),hh⟩
theorem fj{v:Nat}(h:¬fm f v)(x:Nat)(b:Bool):f (aD x v b)=f x:=by
 have h0:f (aD x v false)=f (aD x v true):=xa2 λhne=>h ⟨x,hne⟩;have h1:=iS x v
 conv=>rhs;rw[<-h1]
 cases b<;>cases x.testBit v<;>simp[h0]
theorem An(hi:∀j,j<l->¬fm f (ord.getD j 0)):∀k,k<=l->fs ord (λg=>g=f) k f
 |0,_=>rfl
 |k+1,hk=>⟨f,An hi k zO,false,funext λx=>(fj (hi k zO) x false).symm⟩
theorem Ao(hi:∀j,j<l->¬fm f (ord.getD j 0)):∀k,k<=l->∀g,fs ord (λg=>g=f) k g->g=f
 |0,_,g,h=>h
 |k+1,hk,g,h=>by
  obtain⟨f',hf,b,rfl⟩:=h;obtain rfl:=Ao hi k zO f' hf;exact funext λx=>fj (hi k zO) x b
theorem xI(hi:∀j,j<l->¬fm f (ord.getD j 0)){b:Bool}(hc:c=λx=>f (aD x (ord.getD l 0) b)):
  (∀j,j<l+1->¬fm c (ord.getD j 0))/\∀g,bc n ord (λg=>g=c) g->bc n ord (λg=>g=f) g:=by
 have h1:fs ord (λg=>g=f) (l+1) c:=⟨f,An hi l (xak _),b,hc⟩;have h2:∀j,j<l+1->¬fm c (ord.getD j 0):=λj hj=>qz (l+1) c h1 j hj;refine⟨h2,?_⟩;rintro g ⟨m,hm,hf,hh⟩;by_cases e:m<l+1
 ·obtain rfl:=Ao h2 m zO g hf;exact absurd hh (h2 m e)
 have key:∀d g,fs ord (λg=>g=c) (l+1+d) g->fs ord (λg=>g=f) (l+1+d) g:=λd=>by
  induction d with
  |zero=>intro g hg;obtain rfl:=Ao h2 (l+1) (xak _) g hg;exact h1
  |succ d ih=>rintro g ⟨f',Oq,b',rfl⟩;exact⟨f',ih f' Oq,b',rfl⟩
 obtain⟨d,rfl⟩:∃d,m=l+1+d:=⟨m-(l+1),by omega⟩;exact⟨_,hm,key d g hf,hh⟩
theorem xQ(hi:∀j,j<l->¬fm f (ord.getD j 0))(hl:l<n)(hh:fm f (ord.getD l 0)):bc n ord (λg=>g=f) f:=⟨l,hl,An hi l (xak _),hh⟩
end
section
variable {K:Kd} {S:Nat->Fn} {ah:Nat->Nat} {ord:zL}
theorem Ok.below(h:Ok K S ah)(ho:Ord K.n ah ord){r l:Nat}(hr:live K.N r)(hl:l<=K.n)(hi:∀j,j<l->¬fm (S r) (ord.getD j 0)):l<=dep K.n ah K.N r:=by
 cases e:K.N r with
 |none=>rw[br e];exact hl
 |some d=>
  rw[aB e];refine xa2 λhlt=>?_;have lP:ah d.v<l:=Nat.lt_of_not_le hlt;have:=hi _ lP;rw[ho.of h.lv (h.mid.var e)]at this;exact this (je h.wf h.lv h.mid.int e)
theorem Ok.roomFor(h:Ok K S ah)(ho:Ord K.n ah ord){U:Fn->Prop}{k:Nat}(hk:ot U k)(hfit:k+2<=K.cap)(hU:∀g,bc K.n ord (K.held S) g->U g){d:Nd}
 (hlo:live K.N d.lo)(hhi:live K.N d.hi)(hne:d.lo≠d.hi)(hv:d.v<K.n)(hlt:ah d.v<dep K.n ah K.N d.lo/\ah d.v<dep K.n ah K.N d.hi)(hg:U (ite S d))(hT:K.T d=none):K.used<K.cap:=by
 have hs:=h.size ho;have hu:=h.mid.room;obtain⟨l1,a1,a2,a3⟩:=hs;have Yp:ite S d∉l1:=λhm=>by
  obtain⟨r,e,hr,he⟩:=(mV h.wf h.lv ho h.mid.int (λr hr=>.inr (h.mid.held r hr)) h.reach (ite S d)).1 ((a3 _).2 hm);have hTd:¬K.N r=some d:=λhN=>by
   have:=(h.mid.jD d r).2 ⟨hN,λx=>x⟩;rw[hT]at this;cases this
  apply hTd;have Qx:S r=ite S d:=he.symm;have Qt:e.v=d.v:=by
   have e1:=h.lv.lt e.v (h.mid.var hr);have e2:=h.lv.lt d.v hv;rcases xcT (ah e.v) (ah d.v)with hh|hh|hh
   ·exfalso;obtain⟨z,hz⟩:=je h.wf h.lv h.mid.int hr;rw[Qx]at hz;apply hz;unfold ite;have i1:=h.wf.bX h.lv h.mid.int hlo (h.mid.var hr) zO;have i2:=h.wf.bX h.lv h.mid.int hhi (h.mid.var hr) zO;have Af:d.v≠e.v:=λpQ=>by rw[pQ]at hh;omega
    simp only[aj,xac Af,i1,i2]
   ·exact h.lv.inj _ _ (h.mid.var hr) hv hh
   exfalso;have hx:=h.wf.bX h.lv h.mid.int (r:=r) (.inr ⟨e,hr⟩) hv (by rw[aB hr];exact hh);apply hne;refine h.wf.same h.lv h.mid.int hlo hhi λx=>?_;have i1:=h.wf.bX h.lv h.mid.int hlo hv hlt.1;have i2:=h.wf.bX h.lv h.mid.int hhi hv hlt.2;have q1:=hx x false;have q2:=hx x true;rw[Qx]at q1 q2;have q3:=q1.trans q2.symm;unfold ite at q3;simp only[aj,xa4,i1,i2,xaE,xaU]at q3;exact q3
  have lT:∀(b:Bool) x,S (if b then e.hi else e.lo) x=S (if b then d.hi else d.lo) x:=λb x=>by
   rw[<-h.wf.child h.lv h.mid.int hr x b,Qx,Qt];have i1:=h.wf.bX h.lv h.mid.int hlo hv hlt.1;have i2:=h.wf.bX h.lv h.mid.int hhi hv hlt.2;unfold ite;rw[aj,xae rfl,i1,i2];cases b<;>rfl
  have e1:e.lo=d.lo:=h.wf.same h.lv h.mid.int (h.mid.lo hr) hlo λx=>lT false x;have e2:e.hi=d.hi:=h.wf.same h.lv h.mid.int (h.mid.hi hr) hhi λx=>lT true x;have hed:∀a b:Nd,a.v=b.v->a.lo=b.lo->a.hi=b.hi->a=b:=λa b h1 h2 h3=>by
   cases a;cases b;cases h1;cases h2;cases h3;rfl
  rw[hr,hed e d Qt e1 e2]
 obtain⟨l2,b1,b2,b3⟩:=hk;have:=bN (l:=ite S d::l1) (l':=l2) (xaX.2 ⟨Yp,a1⟩) λg WV=>by
  rcases xag.1 WV with rfl|WV
  ·exact(b3 _).1 hg
  exact(b3 _).1 (hU g ((a3 g).2 WV))
 rw[xal]at this;omega
end
end aE
namespace aE
open an
def iB(N:eA)(v:Nat)(b:Bool)(r:Nat):Nat:=match N r with
 |some d=>if d.v=v then(if b then d.hi else d.lo)else r
 |none=>r
def iQ(N:eA)(v:Nat)(b:Bool)(q:zL):zL:=q.map (iB N v b)
structure v9(n:Nat)(ah:Nat->Nat)(N:eA)(q:zL)(v:Nat):Prop where
 lt:v<n
 ex:∃r∈q,∃d,N r=some d/\d.v=v
 le:∀r∈q,ah v<=dep n ah N r
inductive Tree(n:Nat)(ah:Nat->Nat)(N:eA):zL->Nat->Prop
 |leaf {q:zL} (h:∀r∈q,N r=none):Tree n ah N q 0
 |node {q:zL} {v a b:Nat} (h:v9 n ah N q v) (ha:Tree n ah N (iQ N v false q) a) (hb:Tree n ah N (iQ N v true q) b):Tree n ah N q (a+b+1)
def tU(t:Bool->Bool->Bool->Bool)(S:Nat->Fn)(q:zL):Fn:=λx=>t (S (q.getD 0 0) x) (S (q.getD 1 0) x) (S (q.getD 2 0) x)
section
variable {n:Nat} {ah:Nat->Nat} {N:eA} {S:Nat->Fn} {q:zL} {v:Nat}
theorem v9.uniq(hl:n8 n ah){u:Nat}(h:v9 n ah N q v)(h':v9 n ah N q u):v=u:=by
 obtain⟨r,hr,d,hd,rfl⟩:=h.ex;obtain⟨s,hs,e,he,rfl⟩:=h'.ex;have a:=h.le s hs;have b:=h'.le r hr;rw[aB he]at a;rw[aB hd]at b;exact hl.inj _ _ h.lt h'.lt zO
theorem qL(h:WF n ah N)(hl:n8 n ah)(hi:Interp N S){r:Nat}(hr:live N r)(hv:v<n)(hle:ah v<=dep n ah N r)(b:Bool):
  (∀x,S (iB N v b r) x=S r (aD x v b))/\live N (iB N v b r)/\ah v+1<=dep n ah N (iB N v b r):=by
 have hlt:=hl.lt v hv;unfold iB;cases e:N r with
 |none=>
  simp only;refine⟨λx=>?_,hr,by rw[br e];omega⟩;exact(h.bX hl hi hr hv (by rw[br e];exact hlt) x b).symm
 |some d=>
  simp only;rw[aB e]at hle;by_cases ev:d.v=v
  ·rw[xae ev];subst ev;refine⟨λx=>(h.child hl hi e x b).symm,?_,?_⟩
   ·cases b
    ·exact(h.lo e).1
    exact(h.hi e).1
   cases b
   ·exact(h.lo e).2
   exact(h.hi e).2
  rw[xac ev];have hne:ah v≠ah d.v:=λe2=>ev (hl.inj _ _ (h.var e) hv e2.symm);refine⟨λx=>(h.bX hl hi hr hv (by rw[aB e];omega) x b).symm,hr,by rw[aB e];omega⟩
theorem R2(b:Bool):(iQ N v b q).length=q.length:=by simp[iQ]
theorem R3{b:Bool}{i:Nat}(hi:i<q.length):(iQ N v b q).getD i 0=iB N v b (q.getD i 0):=by
 simp[iQ,List.getD,xab hi]
theorem tX(h:WF n ah N)(hl:n8 n ah)(hi:Interp N S)(hq:∀r∈q,live N r)(ht:v9 n ah N q v)(b:Bool):
  (∀r∈iQ N v b q,live N r)/\(∀r∈iQ N v b q,ah v+1<=dep n ah N r):=by
 constructor
 ·intro r hr;obtain⟨s,hs,rfl⟩:=xam.1 hr;exact(qL h hl hi (hq s hs) ht.lt (ht.le s hs) b).2.1
 intro r hr;obtain⟨s,hs,rfl⟩:=xam.1 hr;exact(qL h hl hi (hq s hs) ht.lt (ht.le s hs) b).2.2
theorem VA(h:WF n ah N)(hl:n8 n ah)(hi:Interp N S)(h3:q.length=3)(hq:∀r∈q,live N r)(ht:v9 n ah N q v)(t:Bool->Bool->Bool->Bool)(b:Bool):tU t S (iQ N v b q)=λx=>tU t S q (aD x v b):=by
 funext x
 have key:∀i,i<3->S ((iQ N v b q).getD i 0) x=S (q.getD i 0) (aD x v b):=λi Yx=>by
  have hi':i<q.length:=by omega
  rw[R3 hi'];have hm:q.getD i 0∈q:=by rw[xap,xab hi'];exact xaD _
  exact(qL h hl hi (hq _ hm) ht.lt (ht.le _ hm) b).1 x
 unfold tU;rw[key 0 zO,key 1 zO,key 2 zO]
theorem Mi(h:WF n ah N)(hl:n8 n ah)(hi:Interp N S){ord:zL}(ho:Ord n ah ord)(h3:q.length=3)(hq:∀r∈q,live N r){l:Nat}(ER:l<=n)(hle:∀r∈q,l<=dep n ah N r)(t:Bool->Bool->Bool->Bool):∀j,j<l->¬fm (tU t S q) (ord.getD j 0):=by
 rintro j hj ⟨x,hx⟩;apply hx;obtain⟨o1,o2⟩:=ho.at' j zO;have key:∀i,i<3->∀b,S (q.getD i 0) (aD x (ord.getD j 0) b)=S (q.getD i 0) x:=λi Yx b=>by
  have hi':i<q.length:=by omega
  have hm:q.getD i 0∈q:=by rw[xap,xab hi'];exact xaD _
  exact h.bX hl hi (hq _ hm) o1 (by rw[o2];exact xa0 hj (hle _ hm)) x b
 unfold tU;simp only[key 0 zO,key 1 zO,key 2 zO]
theorem Mj(hi:Interp N S)(h3:q.length=3)(hq:∀r∈q,r<2)(t:Bool->Bool->Bool->Bool)(x:Nat):tU t S q x=t (decide (q.getD 0 0=1)) (decide (q.getD 1 0=1)) (decide (q.getD 2 0=1)):=by
 have key:∀i,i<3->S (q.getD i 0) x=decide (q.getD i 0=1):=λi Yx=>by
  have hi':i<q.length:=by omega
  have hm:q.getD i 0∈q:=by rw[xap,xab hi'];exact xaD _
  have:=hq _ hm;have h2:q.getD i 0=0\/q.getD i 0=1:=by omega
  rcases h2 with e|e<;>rw[e]
  ·rw[hi.zero];rfl
  rw[hi.one];rfl
 unfold tU;rw[key 0 zO,key 1 zO,key 2 zO]
theorem OU(h:WF n ah N):∀{q:zL},(∃r∈q,∃d,N r=some d)->(hl:n8 n ah)->∃v,v9 n ah N q v
 | [],he,_=>by obtain⟨r,hr,_⟩:=he;cases hr
 |s::q,he,hl=>by
  by_cases hq:∃r∈q,∃d,N r=some d
  ·obtain⟨v,hv⟩:=OU h hq hl;cases es:N s with
   |none=>
    refine⟨v,hv.lt,?_,λr hr=>?_⟩
    ·obtain⟨r,hr,x⟩:=hv.ex;exact⟨r,by simp[hr],x⟩
    rcases xag.1 hr with rfl|hr
    ·rw[br es];exact xcs (hl.lt v hv.lt)
    exact hv.le r hr
   |some d=>
    by_cases hlt:ah d.v<=ah v
    ·refine⟨d.v,h.var es,⟨s,by simp,d,es,rfl⟩,λr hr=>?_⟩;rcases xag.1 hr with rfl|hr
     ·rw[aB es];exact xak _
     exact xbB hlt (hv.le r hr)
    refine⟨v,hv.lt,?_,λr hr=>?_⟩
    ·obtain⟨r,hr,x⟩:=hv.ex;exact⟨r,by simp[hr],x⟩
    rcases xag.1 hr with rfl|hr
    ·rw[aB es];omega
    exact hv.le r hr
  obtain⟨r,hr,d,hd⟩:=he;rcases xag.1 hr with rfl|hr
  ·refine⟨d.v,h.var hd,⟨r,by simp,d,hd,rfl⟩,λs hs=>?_⟩;rcases xag.1 hs with rfl|hs
   ·rw[aB hd];exact xak _
   have:N s=none:=by
    cases e:N s with
    |none=>rfl
    |some d'=>exact absurd ⟨s,hs,d',e⟩ hq
   rw[br this];exact xcs (hl.lt _ (h.var hd))
  exact absurd ⟨r,hr,d,hd⟩ hq
theorem TL(h:WF n ah N)(hl:n8 n ah)(hi:Interp N S):∀(k l:Nat) (q:zL),n-l<=k->l<=n->(∀r∈q,live N r)->(∀r∈q,l<=dep n ah N r)->∃c,Tree n ah N q c/\c+1<=2^(n-l):=by
 intro k;induction k with
 |zero=>
  intro l q hk ER hq hd;refine⟨0,.leaf λr hr=>?_,xdQ⟩;cases e:N r with
  |none=>rfl
  |some d=>have:=hd r hr;rw[aB e]at this;have:=hl.lt _ (h.var e);omega
 |succ k ih=>
  intro l q hk ER hq hd;by_cases he:∃r∈q,∃d,N r=some d
  ·obtain⟨v,hv⟩:=OU h he hl;have hlv:=hl.lt v hv.lt;have jF:l<=ah v:=by
    obtain⟨r,hr,d,dN,rfl⟩:=hv.ex;have:=hd r hr;rwa [aB dN]at this
   obtain⟨f1,f2⟩:=tX (S:=S) h hl hi hq hv false;obtain⟨t1,t2⟩:=tX (S:=S) h hl hi hq hv true;obtain⟨a,ha,AW⟩:=ih (ah v+1) _ zO hlv f1 f2;obtain⟨b,hb,YD⟩:=ih (ah v+1) _ zO hlv t1 t2;refine⟨a+b+1,.node hv ha hb,?_⟩;have e1:2^(n-ah v)=2*2^(n-(ah v+1)):=by
    rw[show n-ah v=(n-(ah v+1))+1 by omega,xc6,xbI]
   have e2:2^(n-ah v)<=2^(n-l):=xax zD zO;omega
  refine⟨0,.leaf λr hr=>?_,xdQ⟩;cases e:N r with
  |none=>rfl
  |some d=>exact absurd ⟨r,hr,d,e⟩ he
def lz(N:eA)(v:Nat)(b:Bool)(q:zL)(i:Nat):zL:=(iQ N v b q).take i++q.drop i
theorem BM{b:Bool}{i:Nat}(hi:i<=q.length):(lz N v b q i).length=q.length:=by simp[lz,iQ];omega
theorem xX(b:Bool):lz N v b q 0=q:=by simp[lz]
theorem P5(b:Bool):lz N v b q q.length=iQ N v b q:=by
 unfold lz;rw[xc0 (by rw[R2];exact xak _),xcj,xaG]
theorem rD{b:Bool}{i r:Nat}(hr:q[i]? =some r):(lz N v b q i).set i (iB N v b r)=lz N v b q (i+1):=by
 have hi:=(xah.1 hr).1;have he:=(xah.1 hr).2;have hl:((iQ N v b q).take i).length=i:=by simp[iQ];omega
 have hc:(iQ N v b q)[i]? =some (iB N v b r):=by simp[iQ,hr]
 unfold lz;rw[xcF _ _ zO,hl,xcC,xaV hi,xcE,xbn,hc,xai];rfl
theorem xY{b:Bool}{i r:Nat}(hr:q[i]? =some r)(h:iB N v b r=r):lz N v b q (i+1)=lz N v b q i:=by
 rw[<-rD hr,h];have hi:=(xah.1 hr).1;have he:=(xah.1 hr).2;have hl:((iQ N v b q).take i).length=i:=by simp[iQ];omega
 unfold lz;rw[xcF _ _ zO,hl,xcC,xaV hi,xcE,he]
end
end aE
set_option maxRecDepth 100000
namespace Go.Proofs
open Go Go.Sx Tryz
open aE
noncomputable instance {K:Kd}{S:Nat->aE.Fn}{ord:zL}{l:Nat}:Decidable (gw K S ord l):=Nat.decLe _ _
noncomputable def rm(K:Kd)(S:Nat->aE.Fn):Rm:=⟨K.n,cO K S,λord l=>decide (gw K S ord l)⟩
theorem mS{K:Kd}{S:Nat->aE.Fn}{ord:zL}{l:Nat}:(rm K S).fit ord l=true↔gw K S ord l:=by
 show decide (gw K S ord l)=true↔_;exact decide_eq_true_iff
def Box(kp b1 xx:Nat)(cs:zL)(B:Hp):Prop:=∃vc Cc,B=(b1,.cells #[ptr kp] 45 zZ)::(xx,.cells #[vc] 110 zZ)::Cc/\aR 3 .i64 vc (iw cs) Cc
section
variable {kp b1 xx w p:Nat} {K:Kd} {S:Nat->aE.Fn} {ord tr:zL} {B C:Hp}
theorem OI(hB:Box kp b1 xx (kI w) B)(h:At kp K S ord tr C)(hp:p+w<=K.n)(ei:tr.length<17454747090944):
  Fc zQ 273 #[iv (p:Int),ptr b1,ptr xx] (B++C) (λv H=>v=iv ((((rm K S).visit w p ord).2:Nat):Int)/\∃C',H=B++C'/\At kp K S (ax ord ((rm K S).visit w p ord).1) (tr++((rm K S).visit w p ord).1) C'):=by
 obtain⟨vc,Cc,rfl,hc⟩:=hB;have hn:=h.rC;have hlen:=h.len;have jT:=JJ w
 let m:=rm K S
 let path:=m.goes p (kI w) ord
 have mg:path.length<=(kI w).length:=m.kF p _ _;have WJ:∀l∈path,l+1<K.n:=λl hl=>by
  obtain⟨c,hc,rfl⟩:=m.Cu p hl;have:=Ff hc;omega
 let P0:Hp->Hp:=λX=>(b1,.cells #[ptr kp] 45 zZ)::(xx,.cells #[vc] 110 zZ)::(Cc++X)
 refine aK λg=>F9 ?_;rw[xaN,xaN];refine DR.self (Ld.q ?_);refine Ld.q ?_;refine aa.eq (qO h) (⟨.refl _,?_⟩);refine aa.eq (di h) (⟨.refl _,?_⟩);intro J8 hJ8;have fin:∀C2,At kp K S (ax ord path) (tr++path) C2->J8 [iv ((m.keep ord path path.length:Nat):Int),iv ((path.length:Nat):Int)] (P0 C2):=λC2 h2=>by
  refine hJ8 _ _ _ λgs=>?_;refine Ld.q ?_;have hk:=m.z7 ord path path.length;refine ae.eZ (aa.fq (JR h2 WJ hk (by rw[xaf];omega)) ?_);rintro v C' ⟨rfl,h3⟩;exact Ext.two (ae.eZ (aQ.here ⟨rfl,C',by simp only[xaN],h3⟩))
 refine Ld.q ?_;refine hc.bF ?_;rw[aq];refine⟨λvs H=>∃i C2,i<=path.length/\vs=[iv ((cO K S (ax ord (path.take (m.keep ord path i))):Nat):Int),iv ((m.keep ord path i:Nat):Int),iv (i:Int),iv (i:Int)]/\H=P0 C2/\At kp K S (ax ord (path.take i)) (tr++path.take i) C2,
  λvs _=>(kI w).length-bj vs 3,JE.mk ⟨0,C,xaA _,rfl,rfl,by simpa[ax]using h⟩,?_⟩
 rintro w26 w27 w28 w29 H ⟨i,C2,hi,hw,rfl,h2⟩ gs;simp only[xay,xa5]at hw;obtain⟨rfl,rfl,rfl,rfl⟩:=hw;refine ae.cU (Br.dec (λhlt=>?_) (λhlt=>?_));rotate_left
 ·obtain rfl:i=path.length:=by omega
  rw[xbc]at h2;exact JE.mk (fin C2 h2)
 intro J31 Rj;have oF:(kI w)[i]? =some (kI w)[i]:=xab hlt;have Jn:(kI w)[i]+2<=w:=Ff (xaD _);refine hc.ld (x:=(((kI w)[i]:Nat):Int)) (by rw[bW hlt,List.getD,oF];rfl) (bB.sub (.cons (.cons .left))) (Ld.q ?_);refine ae.eZ ?_;by_cases Ad:i=path.length
 ·-- no room
  subst Ad;rw[xbc]at h2;have hno:¬gw K S (ax ord path) (p+(kI w)[path.length]):=λhf=>by
   have:=m.vw p (kI w) ord _ oF;have h9:=mS.2 hf;rw[show(rm K S).fit (ax ord path) (p+(kI w)[path.length])=false from this]at h9;cases h9
  refine aa.eq (XA h2 zO (by rw[xaf];omega) hno) (Ext.two λb46 _=>(St.q ?_));exact ae.fX (Br.T (JE.of .tail (fin C2 h2)))
 have QM:i<path.length:=by omega
 obtain⟨e1,c',e2,hf⟩:=m.qx p (kI w) ord i QM;rw[oF]at e1 e2;cases e2;have Yd:gw K S (ax ord (path.take i)) (p+(kI w)[i]):=mS.1 hf;have kR:path.take (i+1)=path.take i++[p+(kI w)[i]]:=by
  rw[xbn,show path[i]? =some (p+(kI w)[i])from e1];rfl
 refine aa.fq (Xz h2 zO (by rw[xaf,xbs];omega) Yd) ?_;rintro v C3 ⟨rfl,h3⟩;rw[<-fP,xai,<-kR]at h3;refine Ext.two λb46 _=>(St.q ?_);refine ae.fX (Br.F (ae.inc (Ld.f ?_)));rw[<-fP,<-kR];refine ae.cU (Br.dec (λrL=>?_) (λrL=>?_))
 ·have hk:m.keep ord path (i+1)=i+1:=by rw[Rm.keep];exact xae rL
  refine ag.mk (Ld.mk (v:=iv ((cO K S (ax ord (path.take (i+1))):Nat):Int)) (by exact .head _) rfl ?_);refine JE.mk (Rj _ _ _ _ λgs=>?_);refine ae.inc (az.of .tail ⟨i+1,C3,QM,by rw[hk],rfl,h3⟩ ?_);show(kI w).length-(((i+1:Nat):Int).toNat)<(kI w).length-(((i:Nat):Int).toNat);omega
 have hk:m.keep ord path (i+1)=m.keep ord path i:=by rw[Rm.keep];exact xac rL
 refine JE.mk (Rj _ _ _ _ λgs=>?_);refine ae.inc (az.of .tail ⟨i+1,C3,QM,by rw[hk],rfl,h3⟩ ?_);show(kI w).length-(((i+1:Nat):Int).toNat)<(kI w).length-(((i:Nat):Int).toNat);omega
end
def rep(b a s:Nat):zV:=.agg #[iv (b:Int),iv (a:Int),iv (s:Int),.bool false]
def k9(b1 xx b a s:Nat):Array zV:=#[.func (.func 273) #[] #[ptr b1,ptr xx],iv (b:Int),iv (a:Int),iv (s:Int),.bool false]
def Pass(pp kp w b a s:Nat)(B:Hp):Prop:=∃b1 xx B',B=(pp,.cells (k9 b1 xx b a s) 320 zZ)::B'/\Box kp b1 xx (kI w) B'
section
variable {pp kp w p bf af sw:Nat} {K:Kd} {S:Nat->aE.Fn} {ord tr:zL} {B C:Hp}
theorem Kt(kp:Nat)(w:Int)(C:Hp):Rd zQ 236 #[ptr kp,iv w] C (· =iv (if w<2\/4<w then 1 else 0)):=by
 refine aK λg=>GB (ae.aJ (Br.no (ae.lss (cr.or (decide (4<w)) (λ_=>ae.gtr ⟨rfl,rfl⟩) zI λgs=>?_))));rw[<-xbb];exact Br.dec (λh=>bE.mk (.refl _) (by rw[xae h])) (λh=>bE.mk (.refl _) (by rw[xac h]))
theorem Sq(h:At kp K S ord tr C)(hw:2<=w/\w<=4):Fc zQ 237 #[ptr kp,iv (w:Int)] C (λv H=>∃pp B,v=ptr pp/\H=B++C/\Pass pp kp w (cO K S ord) (cO K S ord) 0 B):=by
 refine aK λg=>GA λb1 _=>?_;refine DR.self (Ld.q ?_);refine Ld.q ?_;refine aa.eq (di h) (⟨.refl _,?_⟩);refine aa.eq (di h) (⟨.refl _,?_⟩);refine Build.mk (cs:=[iv ((cO K S ord:Nat):Int),iv ((cO K S ord:Nat):Int),iv 0,.bool false]) zK (Build.mk (cs:=[.nilFunc,iv ((cO K S ord:Nat):Int),iv ((cO K S ord:Nat):Int),iv 0,.bool false]) zK λTk _=>?_);refine⟨.tail,?_⟩;refine aa.fn hnew (Fg hw) ?_;rintro v Cc ⟨s,rfl,hc⟩;obtain⟨sa,sl,sc,rfl⟩:∃a l c,s=Value.slice a l c:=by obtain⟨a,c,h⟩:=aO.len hc;exact⟨a,_,c,h⟩
 refine Ext.two λxx _=>(St.one (c':=#[.slice sa sl sc]) (by exact .head _) rfl zI rfl ?_);refine Nil.ptr (ag.mk (St.one (c':=k9 b1 xx (cO K S ord) (cO K S ord) 0) (by repeat (first|exact cu.head _|apply cu.tail|apply cu.aH)) rfl (by simp[Value.cells]) rfl ?_));refine aQ.mk (gW:=((Tk,.cells (k9 b1 xx (cO K S ord) (cO K S ord) 0) 320 zZ)::(b1,.cells #[ptr kp] 45 zZ)::(xx,.cells #[.slice sa sl sc] 110 zZ)::Cc)++C) (.perm ?_) ⟨Tk,_,rfl,rfl,b1,xx,_,rfl,_,Cc,rfl,hc⟩;refine(List.Perm.cons _ (xaT.trans (List.Perm.cons _ xaT))).trans ?_;refine(List.Perm.swap _ _ _).trans (List.Perm.cons _ (List.Perm.swap _ _ _))
theorem acE(hB:Pass pp kp w bf af sw B)(h:At kp K S ord tr C)(hp:p+w<=K.n)(ei:tr.length<17454747090944)(hs:sw<4611686018427387904):
  Fc zQ 275 #[ptr pp,ptr kp,iv (p:Int)] (B++C) (λv H=>v=.tuple #[]/\∃B' C',H=B'++C'/\Pass pp kp w bf (cO K S (ax ord ((rm K S).visit w p ord).1)) (sw+((rm K S).visit w p ord).2) B'/\At kp K S (ax ord ((rm K S).visit w p ord).1) (tr++((rm K S).visit w p ord).1) C'):=by
 obtain⟨b1,xx,B',rfl,hb⟩:=hB;have hv:=((rm K S).q5 w p ord).2;refine aK λg=>F8 (DR.of (R:=[(pp,.cells (k9 b1 xx bf af sw) 320 zZ)]) (.cons .nil) (Nil.ptr (ag.mk (Ld.f ?_))));refine Ld.n ?_;refine bG.of rfl zK (aa.fq (args:=#[iv (p:Int),ptr b1,ptr xx]) (OI hb h hp ei) ?_);rintro v H ⟨rfl,C',rfl,h'⟩;refine⟨.cons .nil,?_⟩;refine ae.eZ (Nil.ptr (ag.mk (ag.mk (St.one (c':=k9 b1 xx bf af (sw+((rm K S).visit w p ord).2)) (by exact .head _) rfl (by simp[k9]) rfl ?_))));refine aa.eq (di h') (Nil.ptr (ag.mk (ag.mk (St.one (c':=k9 b1 xx bf (cO K S (ax ord ((rm K S).visit w p ord).1)) (sw+((rm K S).visit w p ord).2)) (by exact .head _) rfl (by simp[k9]) rfl ?_))));exact aQ.here ⟨rfl,_::B',C',rfl,⟨b1,xx,B',rfl,hb⟩,h'⟩
theorem Tw(hB:Pass pp kp w bf (cO K S ord) sw B)(h:At kp K S ord tr C)(hw:2<=w/\w<=4)(ei:tr.length<17317308137472)(hs:sw<2305843009213693952):
  Fc zQ 238 #[ptr pp,ptr kp,iv (w:Int)] (B++C) (λv H=>v=.tuple #[]/\∃B' C',H=B'++C'/\Pass pp kp w bf (cO K S (ax ord ((rm K S).pass w ord).1)) (sw+((rm K S).pass w ord).2) B'/\At kp K S (ax ord ((rm K S).pass w ord).1) (tr++((rm K S).pass w ord).1) C'):=by
 have hn:=h.rC;refine aK λg=>Gz ?_;refine⟨λvs H=>∃i B' C',i<=K.n+1-w/\vs=[iv ((i:Nat):Int)]/\H=B'++C'/\Pass pp kp w bf (cO K S (ax ord ((rm K S).all w ord i).1)) (sw+((rm K S).all w ord i).2) B'/\At kp K S (ax ord ((rm K S).all w ord i).1) (tr++((rm K S).all w ord i).1) C',
  λvs _=>K.n+1-bj vs 0,JE.mk ⟨0,B,C,xaA _,rfl,rfl,by simpa[Rm.all,ax]using hB,by simpa[Rm.all,ax]using h⟩,?_⟩
 rintro w5 H ⟨i,B',C',hi,⟨⟩,rfl,hp,ha⟩ gs;have hal:=(rm K S).JW w ord i;refine ae.eZ (aa.eq (l7 ha) (ae.AR (Br.dec (λhle=>?_) (λhle=>?_))))
 ·refine aa.fq (acE hp ha zO (by rw[xaf];omega) zO) ?_;rintro v H ⟨rfl,B2,C2,rfl,kD,AW⟩;rw[<-cm,xai,xc9]at*;refine ae.inc (az.of (.refl _) ⟨i+1,B2,C2,by omega,rfl,rfl,by rw[Rm.all_succ];exact kD,by rw[Rm.all_succ];exact AW⟩ ?_);show K.n+1-(((i+1:Nat):Int).toNat)<K.n+1-(((i:Nat):Int).toNat);omega
 obtain rfl:i=K.n+1-w:=by omega
 exact aQ.here ⟨rfl,B',C',rfl,hp,ha⟩
end
section
variable {pp kp w p bf af sw:Nat} {K:Kd} {S:Nat->aE.Fn} {ord tr:zL} {B C:Hp}
theorem VX(h:At kp K S ord tr C)(hw:2<=w/\w<=4)(ei:tr.length<17317308137472):
  Fc zQ 196 #[ptr kp,iv (w:Int)] C (λv H=>v=.tuple #[rep (cO K S ord) (cO K S (ax ord ((rm K S).pass w ord).1)) ((rm K S).pass w ord).2,iv 0]/\At kp K S (ax ord ((rm K S).pass w ord).1) (tr++((rm K S).pass w ord).1) H):=by
 have hn:=h.rC;refine aK λg=>G4 λb1 _=>?_;refine aa.eq (Kt kp w C) ?_;rw[xac zO];refine ae.fX (Br.F (aa.fq (Sq h hw) ?_));rintro v H ⟨pp,B,rfl,rfl,hB⟩;refine aa.fq (Tw hB h hw ei zO) ?_;rintro v H ⟨rfl,B',C',rfl,hB',h'⟩;rw[xaZ]at hB';obtain⟨x1,x18,B2,rfl,hb⟩:=hB';refine Nil.ptr (ag.mk (au.mk (vs:=#[iv ((cO K S ord:Nat):Int),iv ((cO K S (ax ord ((rm K S).pass w ord).1):Nat):Int),iv ((((rm K S).pass w ord).2:Nat):Int),.bool false]) (by exact .tail _ (.head _)) (by simp[k9]) rfl ?_));refine St.q ?_;refine au.q ?_;exact aQ.mk (.skip .right) ⟨rfl,h'⟩
end
end Go.Proofs
namespace aE
open an
section
variable {n v:Nat} {bs:List Bool} {lo hi ws:zL}
theorem RG(h:∀v,v<n->¬fm (gL n ws) v)(x:Nat):gL n ws x=gL n ws 0:=by
 have key:∀k,k<=n->gL n ws (x%2^k)=gL n ws 0:=λk=>by
  induction k with
  |zero=>intro _;rw[show x%2^0=0 from xeH x]
  |succ k ih=>
   intro hk;rw[<-ih zO];have e:x%2^(k+1)=aD (x%2^k) k (x.testBit k):=by
    apply xaY;intro i;rw[aj,xbk,xbk];by_cases e:i=k
    ·subst e;simp
    rw[xac e];congr 1;exact xdl.2 zO
   rw[e,fj (h k zO)]
 have:=key n (xak _);rw[<-this];unfold gL;rw[Nat.mod_mod]
end
end aE
set_option maxRecDepth 100000
namespace Go.Proofs
open Go Go.Sx Tryz
section
open aE
theorem bW{ws:zL}{i:Nat}(h:i<ws.length):(iw ws)[i]? =some ((ws.getD i 0:Nat):Int):=by
 rw[cI (w:=ws.getD i 0)];rw[xap,xab h];rfl
def aaW(n:Nat)(p:List Int):Prop:=p.length=n/\∀v:Nat,v<n->p.count (v:Int)=1
instance (n:Nat)(p:List Int):Decidable (aaW n p):=by unfold aaW;infer_instance
theorem Qq{p:List Int}{x:Int}{i:Nat}(h:x∉p.take i)(hi:i<p.length)(he:p[i]=x):p.idxOf x=i:=by
 have e:p=p.take i++p[i]::p.drop (i+1):=by
  conv=>lhs;rw[<-xbr i p]
  rw[xaV hi]
 conv=>lhs;rw[e]
 rw[List.idxOf_append,xac h,he,List.idxOf_cons_self,xbs];omega
def sY(p:List Int):Prop:=∀v:Nat,v<p.length->(v:Int)∈p
theorem vX{p:zL}{n:Nat}(hp:p.Perm (List.range n)):sY (iw p):=λv hv=>by
 rw[aq,hp.length_eq,xaC]at hv;exact xam.2 ⟨v,hp.mem_iff.2 (xaJ.2 hv),rfl⟩
theorem P6{q:zL}{x:Nat}:(x:Int)∈iw q↔x∈q:=by
 unfold iw;rw[xam];exact⟨λ⟨y,hy,e⟩=>by rw[<-Int.ofNat.inj e];exact hy,λh=>⟨x,h,rfl⟩⟩
theorem Yb(q:zL)(x:Nat):(iw q).idxOf (x:Int)=q.idxOf x:=by
 induction q with
 |nil=>rfl
 |cons y q ih=>
  show(((y:Nat):Int)::iw q).idxOf (x:Int)=_;rw[List.idxOf_cons,List.idxOf_cons,ih];have:(((y:Nat):Int)==(x:Int))=(y==x):=by
   rw[xcN];simp[xeC]
  rw[this]
end
section
open aE
section
variable {n:Nat} {ord:zL} {L:an.Fs}
theorem JF:∀k,(cur n ord L k).length<=2^k*L.length
 |0=>by rw[cur,Nat.pow_zero,xdE];exact KA L
 |k+1=>by
  have h1:=Rn n (ord.getD k 0) (cur n ord L k);have h2:=JF k;rw[cur,xc6,xbI (2^k) 2,xck];omega
end
theorem Rw{ord:zL}{F G:aE.Fn->Prop}(h:∀g,F g->G g):∀l g,fs ord F l g->fs ord G l g
 |0,g,hg=>h g hg
 |l+1,g,⟨f,hf,b,e⟩=>⟨f,Rw h l f hf,b,e⟩
theorem eu{n:Nat}{ord:zL}{F G:aE.Fn->Prop}(h:∀g,F g->G g){g:aE.Fn}(hg:bc n ord F g):bc n ord G g:=let ⟨l,a,b,c⟩:=hg;⟨l,a,Rw h l g b,c⟩
structure SR(K:Kd)(S:Nat->aE.Fn)(K':Kd)(S':Nat->aE.Fn)(f:aE.Fn)(r:Nat):Prop where
 n:K'.n=K.n
 cap:K'.cap=K.cap
 N:∀s d,K.N s=some d->K'.N s=some d
 fn:∀s,live K.N s->S' s=S s
 live:live K'.N r
 is:S' r=f
 hold:∀s,K'.hold s=K.hold s+if s=r/\2<=r then 1 else 0
theorem yd{N N':eA}(h:∀s d,N s=some d->N' s=some d){s:Nat}(hs:live N s):live N' s:=by
 rcases hs with hs|⟨d,hd⟩
 ·exact .inl hs
 exact .inr ⟨d,h s d hd⟩
theorem EH{K K5:Kd}{S S5:Nat->aE.Fn}{ah:Nat->Nat}(hK:Ok K S ah)(ZW:Ok K5 S5 ah)(hold:∀s,K.hold s≠0->K5.hold s≠0)(h3:∀s d d',K.N s=some d->K5.N s=some d'->d'=d):
  ∀(k s:Nat) (d:Nd),K.N s=some d->ah d.v<=k->K5.N s=some d:=by
 intro k;induction k with
 |zero=>
  intro s d hd hl;have fin:live K5.N s->K5.N s=some d:=λhs=>by
   rcases hs with hs|⟨d',dN⟩
   ·have:=(hK.mid.two hd).1;omega
   rw[dN,h3 s d d' hd dN]
  rcases hK.reach s d hd with h|⟨p,e,hp,he⟩
  ·exact fin (.inr (ZW.mid.held s (hold s h)))
  have h1:=hK.wf.lo hp;have h2:=hK.wf.hi hp;rcases he with rfl|rfl
  ·have:=h1.2;rw[aB hd]at this;omega
  have:=h2.2;rw[aB hd]at this;omega
 |succ k ih=>
  intro s d hd hl;have fin:live K5.N s->K5.N s=some d:=λhs=>by
   rcases hs with hs|⟨d',dN⟩
   ·have:=(hK.mid.two hd).1;omega
   rw[dN,h3 s d d' hd dN]
  rcases hK.reach s d hd with h|⟨p,e,hp,he⟩
  ·exact fin (.inr (ZW.mid.held s (hold s h)))
  have h1:=hK.wf.lo hp;have h2:=hK.wf.hi hp;rcases he with rfl|rfl
  ·have:=h1.2;rw[aB hd]at this;exact fin (ZW.mid.lo (ih p e hp zO))
  have:=h2.2;rw[aB hd]at this;exact fin (ZW.mid.hi (ih p e hp zO))
end
end Go.Proofs
namespace aE
open an
section
variable {K:Kd} {S:Nat->Fn} {ah:Nat->Nat}
theorem Ok.Um(h:Ok K S ah){d e:Nd}{r:Nat}
 (hlo:live K.N d.lo)(hhi:live K.N d.hi)(hne:d.lo≠d.hi)(hv:d.v<K.n)(hlt:ah d.v<dep K.n ah K.N d.lo/\ah d.v<dep K.n ah K.N d.hi)(hr:K.N r=some e)(Qx:S r=ite S d):e=d:=by
 have Qt:e.v=d.v:=by
  have e1:=h.lv.lt e.v (h.mid.var hr);have e2:=h.lv.lt d.v hv;rcases xcT (ah e.v) (ah d.v)with hh|hh|hh
  ·exfalso;obtain⟨z,hz⟩:=je h.wf h.lv h.mid.int hr;rw[Qx]at hz;apply hz;unfold ite;have i1:=h.wf.bX h.lv h.mid.int hlo (h.mid.var hr) zO;have i2:=h.wf.bX h.lv h.mid.int hhi (h.mid.var hr) zO;have Af:d.v≠e.v:=λpQ=>by rw[pQ]at hh;omega
   simp only[aj,xac Af,i1,i2]
  ·exact h.lv.inj _ _ (h.mid.var hr) hv hh
  exfalso;have hx:=h.wf.bX h.lv h.mid.int (r:=r) (.inr ⟨e,hr⟩) hv (by rw[aB hr];exact hh);apply hne;refine h.wf.same h.lv h.mid.int hlo hhi λx=>?_;have i1:=h.wf.bX h.lv h.mid.int hlo hv hlt.1;have i2:=h.wf.bX h.lv h.mid.int hhi hv hlt.2;have q1:=hx x false;have q2:=hx x true;rw[Qx]at q1 q2;have q3:=q1.trans q2.symm;unfold ite at q3;simp only[aj,xa4,i1,i2,xaE,xaU]at q3;exact q3
 have lT:∀(b:Bool) x,S (if b then e.hi else e.lo) x=S (if b then d.hi else d.lo) x:=λb x=>by
  rw[<-h.wf.child h.lv h.mid.int hr x b,Qx,Qt];have i1:=h.wf.bX h.lv h.mid.int hlo hv hlt.1;have i2:=h.wf.bX h.lv h.mid.int hhi hv hlt.2;unfold ite;rw[aj,xae rfl,i1,i2];cases b<;>rfl
 have e1:e.lo=d.lo:=h.wf.same h.lv h.mid.int (h.mid.lo hr) hlo λx=>lT false x;have e2:e.hi=d.hi:=h.wf.same h.lv h.mid.int (h.mid.hi hr) hhi λx=>lT true x;have hed:∀a b:Nd,a.v=b.v->a.lo=b.lo->a.hi=b.hi->a=b:=λa b h1 h2 h3=>by
  cases a;cases b;cases h1;cases h2;cases h3;rfl
 exact hed e d Qt e1 e2
end
end aE
set_option maxRecDepth 100000
namespace Go.Proofs
open Go Go.Sx Tryz
section
open aE
def fN(bw kp:Nat)(vl vm:zV):Nat×Obj:=(bw,.cells #[ptr kp,vl,vm] 289 zZ)
abbrev Q3:=Nat×Nat×Nat
def l3(q:Q3):zL:=[q.1,q.2.1,q.2.2]
def kq(q:Q3):zV:=.agg (aA .u32 (iw (l3 q)))
theorem UJ{a b:zL}(h:iw a=iw b):a=b:=by
 induction a generalizing b with
 |nil=>cases b with
  |nil=>rfl
  |cons y b=>simp[iw]at h
 |cons x a ih=>cases b with
  |nil=>simp[iw]at h
  |cons y b=>
   simp only[iw,xaM,xay]at h;rw[Int.ofNat.inj h.1,ih h.2]
theorem X6{a b:Q3}(h:l3 a=l3 b):a=b:=by
 obtain⟨a1,a2,a3⟩:=a;obtain⟨b1,b2,b3⟩:=b;simp[l3]at h;rw[h.1,h.2.1,h.2.2]
theorem u3(a b:Q3):Dz zQ 237 (kq a) (kq b) (decide (a=b)):=by
 have:=Dz.array (P:=zQ) (t:=237) (e:=82) (q:=.u32) (n:=3) zK zK zK (iw (l3 a)) (iw (l3 b)) rfl rfl;have e:decide (iw (l3 a)=iw (l3 b))=decide (a=b):=xdl.2 ⟨λh=>X6 (UJ h),λh=>by rw[h]⟩;rw[e]at this;exact this
theorem pB(a:Q3):mE zQ 237 (kq a):=mE.array (P:=zQ) (t:=237) (e:=82) (q:=.u32) (n:=3) zK zK zK _ rfl
theorem z5(a:Q3):Instr.sameBits 10000 (kq a) (kq a)=true:=ow 9998 λx hx=>.inl (by simp[aA]at hx;obtain⟨n,_,rfl⟩:=hx;exact⟨_,_,rfl⟩)
section
variable {kp bw:Nat} {vl vm:zV} {K:Kd} {S:Nat->aE.Fn} {ord ah tr:zL} {C:Hp}
theorem MB{H:Hp}{r:List zV}{K:zV->Hp->Prop}(hl:r.length=3)(h:∀b,K (.slice (some ⟨b,0,none⟩) 1 1) ((b,.cells r.toArray 201 zZ)::H)):ak zQ 293 1 [(0,.agg r.toArray)] H K:=
 ak.one (r:=r) (e:=201) (k:=3) (z:=.agg #[iv 0,.int .u32 0,.int .u32 0]) zK zK zK zD hl h
theorem yZ{X Y:Hp}(h:cS kp K ord ah tr C)(q:Q3)(hq:∀r∈l3 q,r<4294967296):
  Fc zQ 208 #[ptr bw,kq q] (fN bw kp vl vm::(X++(Y++C))) (λv H=>∃CN,H=CN++(fN bw kp vl vm::(X++(Y++C)))/\aO 201 3 v ((l3 q).map (got K.N)) CN):=by
 have hlen:(l3 q).length=3:=rfl;refine aK λg=>GS λb1 _=>?_;refine au.q ?_;refine⟨λvs H=>∃(i:Nat) (u:zV) (CN:Hp),vs=[u,iv (i:Int)]/\i<=3/\H=CN++((b1,.cells (aA .u32 (iw (l3 q))) 237 zZ)::(fN bw kp vl vm::(X++(Y++C))))/\aO 201 3 u (((l3 q).take i).map (got K.N)) CN,λvs _=>3-bj vs 1,
  JE.mk ⟨0,_,[],rfl,by omega,rfl,aO.nil _ _⟩,?_⟩
 rintro w8 w9 H ⟨i,u,CN,⟨⟩,hi,rfl,hN⟩ gs;refine ae.cU (b:=3) (Br.dec (λhlt=>?_) (λhlt=>?_))
 ·have lP:i<(l3 q).length:=hlt;obtain⟨r,hr⟩:∃r,(l3 q)[i]? =some r:=⟨_,xab lP⟩;have aeH:=hq r (xaz hr);refine bA.acK (t:=237) (e:=82) (q:=.u32) (x:=.tmp 10) (i:=.tmp 11) (l:=iw (l3 q)) (z:=(r:Int)) (kd:=.i64) (n:=3) (j:=i) zK rfl rfl zK zK zK hlt (cI hr) ?_;refine Ld.n ?_;refine aa.eq (args:=#[ptr kp,u32 r]) (qo h aeH) (Ext.two λDS _=>(St.whole (r:=got K.N r) (by exact .head _) rfl (bL _ _).1 (bL _ _).2 ?_));refine au.whole (r:=got K.N r) (by exact .head _) (bL _ _).1 ?_;refine MB (bL _ _).1 λbx=>?_;refine hN.mD (r:=got K.N r) (.cons (.cons .left)) (by exact .head _) (bL _ _).1 (bL _ _).2 ⟨[iv 0,.int .u32 0,.int .u32 0],rfl,rfl⟩ zP zP λv' C' ho=>?_;refine ae.inc (az.of (.skip .tail) ⟨i+1,v',C',rfl,by omega,rfl,?_⟩ (by simp only[bj];omega));rw[xbn,hr,xaF];exact ho
 obtain rfl:i=3:=by omega
 rw[xc0 (by rw[hlen];exact xak _)]at hN;exact aQ.mk (.cT .tail _) ⟨CN,rfl,hN⟩
theorem JS{n:Nat}{qX:Nat->Nat}{N:eA}{B:Hp}{vn:zV}{lvl:zL}(hw:fN bw kp vl vm∈B)(hl:dY .i64 B vl (iw lvl))(jF:lvl.length=n)(hlv:∀v,v<n->lvl.getD v 0=qX v)(q:Q3)(hn:Sl 3 B vn ((l3 q).map (got N)))
 (h:WF n qX N)(hL:n8 n qX)(hq:∀r∈l3 q,live N r)(LO:n<=64):
  Rd zQ 209 #[ptr bw,vn] B (λr=>((∀s∈l3 q,N s=none)/\r=iv (-1))\/∃v,v9 n qX N (l3 q) v/\r=iv (v:Int)):=by
 have hlen:(l3 q).length=3:=rfl;refine aK λg=>GR (hn.bF ?_);rw[xau,hlen];refine⟨λvs H=>∃(i:Nat) (w:Int),vs=[iv w,iv (i:Int)]/\i<=3/\H=B/\(((∀s∈(l3 q).take i,N s=none)/\w= -1)\/∃v:Nat,v9 n qX N ((l3 q).take i) v/\w=(v:Int)),λvs _=>3-bj vs 1,
  JE.mk ⟨0, -1,rfl,by omega,rfl,.inl ⟨by simp,rfl⟩⟩,?_⟩
 rintro w6 w7 H ⟨i,w,⟨⟩,hi,rfl,hw6⟩ gs;refine ae.cU (b:=3) (Br.dec (λhlt=>?_) (λhlt=>?_))
 ·intro J hJ;have lP:i<(l3 q).length:=hlt;obtain⟨r,hr⟩:∃r,(l3 q)[i]? =some r:=⟨_,xab lP⟩;have kR:(l3 q).take (i+1)=(l3 q).take i++[r]:=by rw[xbn,hr];rfl
  have fin:∀(w':Int) (Z:Hp),((∀s∈(l3 q).take (i+1),N s=none)/\w'= -1)\/(∃v:Nat,v9 n qX N ((l3 q).take (i+1)) v/\w'=(v:Int))->J [iv w'] (Z++H):=λw' Z h'=>hJ _ _ λgs=>by
   exact ae.inc (az.of .right ⟨i+1,w',rfl,by omega,rfl,h'⟩ (by simp only[bj];omega))
  have hrow:((l3 q).map (got N))[i]? =some (got N r):=by rw[xas,hr];rfl
  refine ai.sl hn hrow λp hp=>?_;refine au.at hp (bL _ _).1 zD (λ_ h=>h) ?_;intro mC _;refine St.whole (r:=got N r) (by exact .head _) rfl (bL _ _).1 (bL _ _).2 ?_;have hlr:=hq r (xaz hr);cases hN:N r with
  |none=>
   have rK:r<2:=by rcases hlr with h2|⟨d,hd⟩;exact h2;rw[hN]at hd;cases hd
   have eg:got N r=[iv (-1),u32 r,u32 r]:=gQ rK;rw[eg];refine Ld.f ?_;refine ae.geq (cr.mk false (λh=>by simp at h) (λ_=>rfl) λgs=>Br.no ?_);refine JE.mk (fin w [_] ?_);rcases hw6 with⟨h1,h2⟩|⟨v,h1,h2⟩
   ·refine .inl ⟨λs hs=>?_,h2⟩;rw[kR,xao,xaK]at hs;rcases hs with hs|rfl
    ·exact h1 s hs
    exact hN
   refine .inr ⟨v,⟨h1.lt,?_,λs hs=>?_⟩,h2⟩
   ·obtain⟨s,hs,x⟩:=h1.ex;exact⟨s,by rw[kR];exact xad _ hs,x⟩
   rw[kR,xao,xaK]at hs;rcases hs with hs|rfl
   ·exact h1.le s hs
   rw[br hN];exact xcs (hL.lt v h1.lt)
  |some d=>
   have h2:=h.two hN;have vj:=h.var hN;have eg:got N r=bJ d:=gy hN h2;rw[eg];refine Ld.f ?_;refine ae.geq ?_;rw[xav zO];have Ba:(∀s∈(l3 q).take i,qX d.v<=dep n qX N s)->∃v:Nat,v9 n qX N ((l3 q).take (i+1)) v/\(d.v:Int)=(v:Int):=λhle=>by
    refine⟨d.v,⟨vj,⟨r,by rw[kR];simp,d,hN,rfl⟩,λs hs=>?_⟩,rfl⟩;rw[kR,xao,xaK]at hs;rcases hs with hs|rfl
    ·exact hle s hs
    rw[aB hN];exact xak _
   rcases hw6 with⟨h1,rfl⟩|⟨v,h1,rfl⟩
   ·refine cr.and true (λ_=>?_) rfl λgs=>Br.yes ?_
    ·exact ae.lss (cr.mk true (λh=>by simp at h) (λ_=>rfl) λgs=>⟨rfl,rfl⟩)
    refine Ld.f ?_;refine JE.mk (fin (d.v:Int) [_] (.inr (Ba λs hs=>?_)));rw[br (h1 s hs)];exact xcs (hL.lt _ vj)
   have g1:(iw lvl)[d.v]? =some ((qX d.v:Nat):Int):=by rw[<-hlv d.v vj];exact bW zO
   have g2:(iw lvl)[v]? =some ((qX v:Nat):Int):=by rw[<-hlv v h1.lt];exact bW (by have:=h1.lt;omega)
   refine cr.and (decide (qX d.v<qX v)) (λ_=>?_) rfl λgs=>?_
   ·refine ae.lss ?_;rw[xaq zO];refine cr.or (decide (qX d.v<qX v)) (λ_=>?_) rfl λgs=>⟨rfl,by simp⟩;refine Ld.v (.tail _ hw) ?_;refine Ld.f ?_;refine hl.ld g1 (λ_ h=>.tail _ h) (Ld.v (.tail _ hw) ?_);exact hl.ld g2 (λ_ h=>.tail _ h) (ae.cU ⟨rfl,rfl⟩)
   rw[xcv];refine Br.dec (λrL=>?_) (λrL=>?_)
   ·refine Ld.f ?_;refine JE.mk (fin (d.v:Int) [_] (.inr (Ba λs hs=>?_)));have:=h1.le s hs;omega
   refine JE.mk (fin (v:Int) [_] (.inr ⟨v,⟨h1.lt,?_,λs hs=>?_⟩,rfl⟩))
   ·obtain⟨s,hs,x⟩:=h1.ex;exact⟨s,by rw[kR];exact xad _ hs,x⟩
   rw[kR,xao,xaK]at hs;rcases hs with hs|rfl
   ·exact h1.le s hs
   rw[aB hN];omega
 obtain rfl:i=3:=by omega
 rw[xc0 (by rw[hlen];exact xak _)]at hw6;refine bE.mk (.refl _) ?_;rcases hw6 with⟨h1,rfl⟩|⟨v,h1,rfl⟩
 ·exact .inl ⟨h1,rfl⟩
 exact .inr ⟨v,h1,rfl⟩
theorem LC(h:cZ kp K S ord ah tr C){v lo hi:Nat}(hv:v<K.n)(hlo:live K.N lo)(hhi:live K.N hi)(hlt:lv ah v<dep K.n (lv ah) K.N lo/\lv ah v<dep K.n (lv ah) K.N hi):
  Rd zQ 255 #[ptr kp,iv (v:Int),u32 lo,u32 hi] C (· =if lo=hi then .tuple #[u32 lo,.bool true]else .tuple #[u32 ((K.T ⟨v,lo,hi⟩).getD 0),.bool (K.T ⟨v,lo,hi⟩).isSome]):=by
 have aeZ:=h.eC hlo;have afa:=h.eC hhi;have yC:=cz.2 hlo;have oE:=cz.2 hhi;have hfe:oN K ah (v:Int) lo hi=0:=by
  unfold oN;rw[xac zO,xac (by rw[yC,oE];simp),xac];rintro⟨hne,hmin⟩;simp only[xbH,lv]at hmin hlt;omega
 refine aK λg=>Gs λJ hJ=>?_;refine ae.aJ (Split.go rfl (aa.eq (JA h.rep (v:Int) zO zO (λr d hd=>⟨h.ok.mid.var hd,(h.ok.mid.two hd).1⟩)) ?_));rw[hfe];refine ae.fX (aS.mk (JE.mk (hJ _ _ λgs=>?_)));rw[xaq zI];refine Br.no (aa.rq (IY h.rep (lo:=lo) (hi:=hi) hv) ?_);rintro w hw;subst hw;by_cases he:lo=hi
 ·rw[xae he];exact Ext.mk rfl (Ext.mk rfl (bE.mk (.refl _) rfl))
 rw[xac he];exact Ext.mk rfl (Ext.mk rfl (bE.mk (.refl _) rfl))
theorem EF(h:cZ kp K S ord ah tr C){v lo hi r:Nat}(hv:v<K.n)(hlo:live K.N lo)(hhi:live K.N hi)(hlt:lv ah v<dep K.n (lv ah) K.N lo/\lv ah v<dep K.n (lv ah) K.N hi)(hr:live K.N r)(h2:2<=r)(hS:S r=ite S ⟨v,lo,hi⟩):
  Rd zQ 255 #[ptr kp,iv (v:Int),u32 lo,u32 hi] C (· =.tuple #[u32 r,.bool true]):=by
 refine(LC h hv hlo hhi hlt).mono ?_;rintro w H ⟨e,rfl⟩;refine⟨e,?_⟩;by_cases he:lo=hi
 ·subst he;rw[xae rfl,h.ok.wf.same h.ok.lv h.ok.mid.int hr hlo λx=>by rw[hS];unfold aE.ite;split<;>rfl]
 rw[xac he];obtain⟨d,hd⟩:∃d,K.N r=some d:=by
  rcases hr with h3|h3
  ·omega
  exact h3
 have hdd:d=⟨v,lo,hi⟩:=h.ok.Um (d:=⟨v,lo,hi⟩) hlo hhi he hv hlt hd hS;subst hdd;rw[(h.ok.mid.jD _ r).2 ⟨hd,λe=>e⟩];rfl
theorem Fy(r v:Nat)(B:Hp):Rd zQ 210 #[ptr bw,iv (v:Int),u32 r,u32 r] B (· =.tuple #[u32 r,iv 0]):=by
 exact aK λg=>wC (ae.jM (Br.T (bE.mk (.refl _) rfl)))
theorem Sz{CM X:Hp}{made:zL}(h:cZ kp K S ord ah tr C){v lo hi:Nat}(hv:v<K.n)(hlo:live K.N lo)(hhi:live K.N hi)(hne:lo≠hi)(hlt:lv ah v<dep K.n (lv ah) K.N lo/\lv ah v<dep K.n (lv ah) K.N hi)
 (hM:aR 82 .u32 vm (iw made) CM)(hlen:made.length<=1099511627776):
  Fc zQ 210 #[ptr bw,iv (v:Int),u32 lo,u32 hi] (fN bw kp vl vm::(X++(CM++C))) (λw H=>
   (∃r K' S' C' Xw Zs,w=.tuple #[u32 r,iv 0]/\H=fN bw kp vl Xw::(X++(Zs++C'))/\cZ kp K' S' ord ah [] C'/\tc K S K' S' (ite S ⟨v,lo,hi⟩) r/\aR 82 .u32 Xw (iw (made++[r])) Zs)\/
   (w=.tuple #[u32 0,iv 9]/\H=fN bw kp vl vm::(X++(CM++C))/\K.cap<=K.used/\K.T ⟨v,lo,hi⟩=none)\/
   (∃r,w=.tuple #[u32 r,iv 0]/\H=fN bw kp vl vm::(X++(CM++C))/\live K.N r/\2<=r/\K.hold r=65535/\S r=ite S ⟨v,lo,hi⟩)):=by
 refine aK λg=>wC (ae.bu (Br.RV hne (Ld.n ?_)));refine aa.fq (Je h hv hlo hhi (.inr hlt)) ?_;rintro w C' (⟨r,K',S',rfl,jX,mk⟩|⟨r,rfl,rfl,hlr,Tf,hfull,Ow⟩|⟨rfl,rfl,hcap,_,hT⟩)
 ·refine Ext.two λJ hJ=>(ae.jM (Br.T (Ld.n ?_)));refine ak.int (e:=82) zK zK zK λbx=>?_;refine hM.mD (x:=(r:Int)) (.cons (.cons (.app .left))) (by exact .head _) (by rw[aq];omega) (by rw[aq];omega) λXw Zs YM=>?_;have h1:=YM.one;refine Nil.ptr (ag.mk (St.one (by exact .tail (.head _)) h1 zI rfl ?_));refine aQ.mk .tail (.inl ⟨r,K',S',C',Xw,Zs,rfl,rfl,jX,mk,?_⟩);rw[cc];exact YM
 ·refine Ext.two λJ hJ=>(ae.jM (Br.F (ae.jM (Br.T (Ld.n ?_)))));exact aa.eq (EF h hv hlo hhi hlt hlr Tf Ow) (Ext.mk rfl (Ext.mk rfl (Br.yes (aQ.here (.inr (.inr ⟨r,rfl,rfl,hlr,Tf,hfull,Ow⟩))))))
 exact Ext.two λJ hJ=>(ae.jM (Br.F (ae.jM (Br.F (JE.mk (hJ _ λgs=>aQ.here (.inr (.inl ⟨rfl,rfl,hcap,hT⟩))))))))
end
end
section
open aE
structure qQ(K0:Kd)(S0:Nat->aE.Fn)(U:aE.Fn->Prop)(ord:zL)(K:Kd)(S:Nat->aE.Fn)(made:zL):Prop where
 n:K.n=K0.n
 cap:K.cap=K0.cap
 N:∀s d,K0.N s=some d->K.N s=some d
 fn:∀s,live K0.N s->S s=S0 s
 hold:∀s,K.hold s=K0.hold s+made.count s
 two:∀s∈made,2<=s
 U:∀g,bc K0.n ord (K.held S) g->U g
theorem qQ.refl{K0:Kd}{S0:Nat->aE.Fn}{U:aE.Fn->Prop}{ord:zL}(h:∀g,bc K0.n ord (K0.held S0) g->U g):qQ K0 S0 U ord K0 S0 []:=⟨rfl,rfl,λ_ _ h=>h,λ_ _=>rfl,λs=>by simp,by simp,h⟩
def Fits(U:aE.Fn->Prop)(cap:Nat):Prop:=∃ku,ot U ku/\ku+2<=cap
section
variable {kp:Nat} {K0 K:Kd} {S0 S:Nat->aE.Fn} {U:aE.Fn->Prop} {ord ah tr:zL} {made:zL} {C:Hp}
theorem qQ.kf(h:qQ K0 S0 U ord K S made)(hK:cZ kp K S ord ah tr C){s:Nat}(hs:s∈made):live K.N s:=by
 refine .inr (hK.ok.mid.held s ?_);rw[h.hold];have:=xcG.2 hs;omega
theorem yg{b:Nat}:∀(m:Nat) (l:zL),(∀x∈l,x<m)->(∀x,l.count x<=b)->l.length<=m*b
 |0,l,h1,_=>by
  cases l with
  |nil=>simp
  |cons x l=>exact absurd (h1 x (xbP ..)) (xc7 _)
 |m+1,l,h1,h2=>by
  have ih:=yg m (l.filter λx=> !(x==m)) (λx hx=>by
   obtain⟨hx,hne⟩:=xcP.1 hx;have:=h1 x hx;have:x≠m:=by simpa using hne
   omega) (λx=>xbB (List.filter_sublist.count_le x) (h2 x))
  have e:=List.length_eq_countP_add_countP (λx=>x==m) (l:=l);have h3:=h2 m;rw[List.count]at h3;rw[List.countP_eq_length_filter (l:=l) (p:=λa=>decide ¬(a==m)=true)]at e;rw[xbt];have e2:(l.filter λa=>decide ¬(a==m)=true)=l.filter λx=> !(x==m):=xdw λx _=>by cases x==m<;>rfl
  rw[e2]at e;omega
theorem qQ.qh(h:qQ K0 S0 U ord K S made)(hK:cZ kp K S ord ah tr C):made.length<=1048576*65535:=
 yg _ _ (λx hx=>by
  have hc:=xcG.2 hx;have:=h.hold x;obtain⟨d,hd⟩:=hK.ok.mid.held x zO;have:=(hK.ok.mid.two hd).2;have:=hK.ok.mid.cap;omega) (λx=>by have:=h.hold x;have:=hK.ok.mid.mx x;omega)
theorem qQ.full(h:qQ K0 S0 U ord K S made){r:Nat}(hr:K.hold r=65535):r∈made\/K0.hold r=65535:=by
 by_cases hm:r∈made
 ·exact .inl hm
 have:=h.hold r;rw[List.count_eq_zero.2 hm]at this;exact .inr zO
theorem qQ.live(h:qQ K0 S0 U ord K S made){s:Nat}(hs:live K0.N s):live K.N s:=yd h.N hs
theorem qQ.step(h:qQ K0 S0 U ord K S made)(hK:cZ kp K S ord ah tr C){K':Kd}{S':Nat->aE.Fn}{f:aE.Fn}{r:Nat}(m:tc K S K' S' f r)(h2:2<=r)(hU:∀g,bc K0.n ord (λg=>g=f) g->U g):qQ K0 S0 U ord K' S' (made++[r]):=by
 refine⟨m.n.trans h.n,m.cap.trans h.cap,λs d hd=>m.N s d (h.N s d hd),λs hs=>(m.fn s (h.live hs)).trans (h.fn s hs),λs=>?_,λs hs=>?_,λg hg=>?_⟩
 ·rw[m.hold,xbv,xcQ,h.hold];by_cases e:s=r
  ·subst e;simp[h2];omega
  have:(r==s)=false:=by simpa using λe'=>e e'.symm
  simp[e,this]
 ·rcases xao.1 hs with hs|hs
  ·exact h.two s hs
  simp at hs;subst hs;exact h2
 have jL:∀g,K'.held S' g->K.held S g\/g=f:=by
  rintro g ⟨s,hs,rfl⟩;have hs':K'.hold s≠0:=hs;rw[m.hold]at hs';by_cases e:s=r/\2<=r
  ·right;rw[e.1];exact m.is
  rw[xac e]at hs';exact .inl ⟨s,hs',m.fn s (.inr (hK.ok.mid.held s hs'))⟩
 rcases(PY g).1 (eu jL hg)with h1|h1
 ·exact h.U g h1
 exact hU g h1
end
def Ay(oo b1 b5 mC:Nat):zV:=.func (.func 207) #[] #[ptr oo,ptr b1,ptr b5,ptr mC]
structure AL(fv:zV)(LB:Hp)(t:Bool->Bool->Bool->Bool):Prop where
 is:∃f first cap,fv=.func (.func f) first cap/\bQ zQ f=true/\∀x y z:Bool,Rd zQ f (first++ #[.bool x,.bool y,.bool z]++cap) LB (· =.bool (t x y z))
def acU(K0:Kd)(S0 S:Nat->aE.Fn)(t:Bool->Bool->Bool->Bool)(made:zL)(m:List (Q3×Nat)):Prop:=∀y∈m,S y.2=tU t S0 (l3 y.1)/\(y.2<2\/y.2∈made\/K0.hold y.2=65535)
section
variable {kp oo b1 b5 mC bm bw:Nat} {vl fv:zV} {LB CL:Hp} {lvl:zL} {K0:Kd} {S0:Nat->aE.Fn} {U:aE.Fn->Prop} {ord ah:zL} {t:Bool->Bool->Bool->Bool}
abbrev Xe(oo b1 b5 mC bm bw kp:Nat)(fv vl vm:zV)(LB CL CM C:Hp)(es:Array MapEntry)(ck:Nat):Hp:=
 (oo,.cells #[.map (some bm)] 291 zZ)::(b1,.cells #[ptr bw] 232 zZ)::(b5,.cells #[fv] 239 zZ)::(mC,.cells #[Ay oo b1 b5 mC] 292 zZ)::
 (LB++((bm,.map es ck)::(fN bw kp vl vm::(CL++(CM++C)))))
structure Stp(kp:Nat)(K0:Kd)(S0:Nat->aE.Fn)(U:aE.Fn->Prop)(ord ah XB:zL)(t:Bool->Bool->Bool->Bool)(K:Kd)(S:Nat->aE.Fn)(made:zL)(es:Array MapEntry)(ck:Nat)(vm:zV)(CM C:Hp):Prop where
 ks:∃tr,cZ kp K S ord ah tr C/\(tr=[]\/(tr=XB/\made=[]))
 jy:qQ K0 S0 U ord K S made
 mde:aR 82 .u32 vm (iw made) CM
 kn:∃m,aT kq Ty es ck m/\acU K0 S0 S t made m
structure fM(K:Kd)(S:Nat->aE.Fn)(made:zL)(K':Kd)(S':Nat->aE.Fn)(made':zL)(c:Nat):Prop where
 N:∀s d,K.N s=some d->K'.N s=some d
 fn:∀s,live K.N s->S' s=S s
 ext:∃ext,made'=made++ext/\ext.length<=c
theorem fM.refl{K:Kd}{S:Nat->aE.Fn}{made:zL}{c:Nat}:fM K S made K S made c:=⟨λ_ _ h=>h,λ_ _=>rfl,[],by simp,xaA _⟩
section
variable {K K' K2:Kd} {S S' S2:Nat->aE.Fn} {made made' kg:zL} {c c':Nat}
theorem fM.Ks(h:fM K S made K' S' made' c)(hc:c<=c'):fM K S made K' S' made' c':=⟨h.N,h.fn,let ⟨e,h1,h2⟩:=h.ext;⟨e,h1,by omega⟩⟩
theorem fM.mem{s:Nat}(h:fM K S made K' S' made' c)(hs:s∈made):s∈made':=by
 obtain⟨e,rfl,_⟩:=h.ext;exact xad _ hs
theorem fM.count(h:fM K S made K' S' made' c)(s:Nat):made'.count s<=made.count s+c/\made'.length<=made.length+c:=by
 obtain⟨e,rfl,he⟩:=h.ext;have:=List.count_le_length (a:=s) (l:=e);rw[xbv,xaf];omega
theorem fM.trans(h:fM K S made K' S' made' c)(h':fM K' S' made' K2 S2 kg c'):fM K S made K2 S2 kg (c+c'):=by
 obtain⟨e,rfl,he⟩:=h.ext;obtain⟨e',rfl,he'⟩:=h'.ext;exact⟨λs d hd=>h'.N s d (h.N s d hd),λs hs=>(h'.fn s (yd h.N hs)).trans (h.fn s hs),e++e',by rw[xai],by rw[xaf];omega⟩
end
theorem uU{κ β:Type}[DecidableEq κ]{m:List (κ×β)}{k:κ}{x:β}{y:κ×β}(h:y∈c8 m k x):y=(k,x)\/y∈m:=by
 unfold c8 at h;split at h
 ·obtain⟨z,hz,rfl⟩:=xam.1 h;split
  ·exact .inl rfl
  exact .inr hz
 rcases xao.1 h with h|h
 ·exact .inr h
 simp at h;exact .inl h
def Bw(N:eA)(v:Nat)(b:Bool)(q:Q3):Q3:=(iB N v b q.1,iB N v b q.2.1,iB N v b q.2.2)
theorem UE(N:eA)(v:Nat)(b:Bool)(q:Q3):l3 (Bw N v b q)=iQ N v b (l3 q):=rfl
theorem Cp{N N':eA}(hN:∀s d,N s=some d->N' s=some d)(h2:∀r,r<2->N r=none)(pF:∀r,r<2->N' r=none){r:Nat}(hr:live N r):got N' r=got N r:=by
 rcases hr with hr|⟨d,hd⟩
 ·rw[gQ hr,gQ hr]
 by_cases h:r<2
 ·rw[h2 r h]at hd;cases hd
 rw[gy hd zO,gy (hN r d hd) zO]
def Ans(kp oo b1 b5 mC bm bw:Nat)(fv vl:zV)(LB CL:Hp)(K0:Kd)(S0:Nat->aE.Fn)(U:aE.Fn->Prop)(ord ah XB:zL)(t:Bool->Bool->Bool->Bool)(ql:zL)(c:Nat)(K:Kd)(S:Nat->aE.Fn)(made:zL)(r:zV)(H:Hp):Prop:=
 ∃K' S' made' es' cE Xw Zs C',H=Xe oo b1 b5 mC bm bw kp fv vl Xw LB CL Zs C' es' cE/\Stp kp K0 S0 U ord ah XB t K' S' made' es' cE Xw Zs C'/\fM K S made K' S' made' c/\
   ((∃x:Nat,r=.tuple #[u32 x,iv 0]/\S' x=tU t S0 ql/\(x<2\/x∈made'\/K0.hold x=65535))\/(r=.tuple #[u32 0,iv 9]/\¬Fits U K0.cap))
theorem YT(jT:bQ zQ 207=true)(DN:AL fv LB t)(Xa:aR 3 .i64 vl (iw lvl) CL)(jF:lvl.length=K0.n)(hlv:∀v,v<K0.n->lvl.getD v 0=lv ah v)(LO:K0.n<=64)(Td:WF K0.n (lv ah) K0.N)(YO:Interp K0.N S0)(DO:n8 K0.n (lv ah))(Js:∀r,live K0.N r->r<4294967296)(hh0:∀s,K0.hold s=65535->live K0.N s){XB:zL}:
  ∀(ql:zL) (c:Nat),Tree K0.n (lv ah) K0.N ql c->∀(q:Q3),l3 q=ql->∀(K:Kd) (S:Nat->aE.Fn) (made:zL) (es:Array MapEntry) (ck:Nat) (vm:zV) (CM C:Hp),Stp kp K0 S0 U ord ah XB t K S made es ck vm CM C->
  (∀r∈ql,live K0.N r)->(∀g,bc K0.n ord (λg=>g=tU t S0 ql) g->U g)->
  Fc zQ 207 #[kq q,ptr oo,ptr b1,ptr b5,ptr mC] (Xe oo b1 b5 mC bm bw kp fv vl vm LB CL CM C es ck) (λr H=>Ans kp oo b1 b5 mC bm bw fv vl LB CL K0 S0 U ord ah XB t ql c K S made r H):=by
 have hc0:∀r,r<2->K0.N r=none:=λr hr=>Td.const hr;intro ql c hT;induction hT with
 | @leaf ql hnone=>
  intro q hq K S made es ck vm CM C hS jh hU g;subst hq;obtain⟨tr,hK,ei⟩:=hS.ks;obtain⟨m,hE,hkn⟩:=hS.kn;have ZN:∀r,r<2->K.N r=none:=λr hr=>hK.ok.wf.const hr;refine wD (R:=aQ _) ?_;unfold L207;intro bq _;refine Ld.q ?_;refine au.q ?_;have EP:(bm,Obj.map es ck)∈(bq,Obj.cells (aA .u32 (iw (l3 q))) 237 zZ)::Xe oo b1 b5 mC bm bw kp fv vl vm LB CL CM C es ck:=.tail _ (.tail _ (.tail _ (.tail _ (.tail _ (xaa _ (.head _))))));cases hg:bU m q with
  |some x=>
   refine aT.LR (ke:=kq) (k:=q) u3 pB hE EP hg ?_;rintro v rfl;obtain⟨h1,h2⟩:=hkn _ ((fk hE.nd).1 hg);exact Ext.mk rfl (Ext.mk rfl (Br.yes (aQ.mk .tail ⟨K,S,made,es,ck,vm,CM,C,rfl,hS,.refl,.inl ⟨x,rfl,h1,h2⟩⟩)))
  |none=>
   refine aT.xZ (ke:=kq) (k:=q) u3 pB hE EP hg ?_;refine Ext.mk rfl (Ext.mk rfl (Br.no (Ld.q ?_)));refine au.q ?_;refine aa.fq (args:=#[ptr bw,kq q]) (yZ hK.rep q (λr hr=>Js r (jh r hr))) ?_;rintro vn H ⟨CN,rfl,hN⟩;have eN:(l3 q).map (got K.N)=(l3 q).map (got K0.N):=xbi λr hr=>Cp hS.jy.N hc0 ZN (jh r hr);rw[eN]at hN;refine Ld.q ?_;refine aa.rq (JS (bw:=bw) (kp:=kp) (vl:=vl) (vm:=vm) (lvl:=lvl) (n:=K0.n) (qX:=lv ah) (N:=K0.N) (.tail _ (.tail _ (.tail _ (.tail _ (.tail _ (xaa _ (.tail _ (xaa _ (.head _))))))))) (Xa.ints.mono λ_ h=>.tail _ (.tail _ (.tail _ (.tail _ (.tail _ (xaa _ (.tail _ (xaa _ (.tail _ (xad _ h)))))))))) jF hlv q ((Sl.fi hN zD).mono λ_ h=>.tail _ (.tail _ (.tail _ (.tail _ (.tail _ (xaa _ (.tail _ (xad _ h)))))))) Td DO jh LO) ?_;rintro w (⟨_,rfl⟩|⟨v,hv,rfl⟩);rotate_left
   ·obtain⟨s,hs,d,hd,_⟩:=hv.ex;rw[hnone s hs]at hd;cases hd
   refine ae.lss (Br.T ?_);have LW:∀r∈l3 q,r<2:=λr hr=>by
    rcases jh r hr with h|⟨d,hd⟩
    ·exact h
    rw[hnone r hr]at hd;cases hd
   obtain⟨f,first,cap,Va,hfc,hL⟩:=DN.is;refine Ld.q ?_;refine fy.nat (j:=0) zD (Ld.q ?_);refine ae.bu (b:=1) (fy.nat (j:=1) zD (Ld.q ?_));refine ae.bu (b:=1) (fy.nat (j:=2) zD (Ld.q ?_));refine ae.bu (b:=1) (bG.of Va hfc ?_);refine aa.eq (hL _ _ _) ?_;have Af:=λx=>Mj YO (q:=l3 q) rfl LW t x;have hint:=hK.ok.mid.int;have WX:aI ((bq,Obj.cells (aA .u32 (iw (l3 q))) 237 zZ)::(oo,.cells #[.map (some bm)] 291 zZ)::(b1,.cells #[ptr bw] 232 zZ)::(b5,.cells #[fv] 239 zZ)::(mC,.cells #[Ay oo b1 b5 mC] 292 zZ)::(LB++((bm,.map es ck)::(CN++(fN bw kp vl vm::(CL++(CM++C))))))) (Xe oo b1 b5 mC bm bw kp fv vl vm LB CL CM C es ck):=
    .skip (.cons (.cons (.cons (.cons (.cT (.cons .right) _)))))
   refine Br.mk (λhb=>?_) (λhb=>?_)
   ·refine aQ.mk WX ⟨K,S,made,es,ck,vm,CM,C,rfl,hS,.refl,.inl ⟨1,rfl,funext λx=>?_,.inl zO⟩⟩;rw[hint.one,Af x];exact hb.symm
   refine aQ.mk WX ⟨K,S,made,es,ck,vm,CM,C,rfl,hS,.refl,.inl ⟨0,rfl,funext λx=>?_,.inl zO⟩⟩;rw[hint.zero,Af x];exact hb.symm
 | @node ql v a b hv ha hb iha ihb=>
  intro q hq K S made es ck vm CM C hS jh hU g;subst hq;obtain⟨tr,hK,ei⟩:=hS.ks;obtain⟨m,hE,hkn⟩:=hS.kn;have ZN:∀r,r<2->K.N r=none:=λr hr=>hK.ok.wf.const hr;refine wD (R:=aQ _) ?_;unfold L207;intro bq _;refine Ld.q ?_;refine au.q ?_;have EP:(bm,Obj.map es ck)∈(bq,Obj.cells (aA .u32 (iw (l3 q))) 237 zZ)::Xe oo b1 b5 mC bm bw kp fv vl vm LB CL CM C es ck:=.tail _ (.tail _ (.tail _ (.tail _ (.tail _ (xaa _ (.head _))))));cases hg:bU m q with
  |some x=>
   refine aT.LR (ke:=kq) (k:=q) u3 pB hE EP hg ?_;rintro v rfl;obtain⟨h1,h2⟩:=hkn _ ((fk hE.nd).1 hg);exact Ext.mk rfl (Ext.mk rfl (Br.yes (aQ.mk .tail ⟨K,S,made,es,ck,vm,CM,C,rfl,hS,.refl,.inl ⟨x,rfl,h1,h2⟩⟩)))
  |none=>
  refine aT.xZ (ke:=kq) (k:=q) u3 pB hE EP hg ?_;refine Ext.mk rfl (Ext.mk rfl (Br.no (Ld.q ?_)));refine au.q ?_;refine aa.fq (args:=#[ptr bw,kq q]) (yZ hK.rep q (λr hr=>Js r (jh r hr))) ?_;rintro vn H ⟨CN,rfl,hN⟩;have eN:(l3 q).map (got K.N)=(l3 q).map (got K0.N):=xbi λr hr=>Cp hS.jy.N hc0 ZN (jh r hr);rw[eN]at hN;refine Ld.q ?_;refine aa.rq (JS (bw:=bw) (kp:=kp) (vl:=vl) (vm:=vm) (lvl:=lvl) (n:=K0.n) (qX:=lv ah) (N:=K0.N) (.tail _ (.tail _ (.tail _ (.tail _ (.tail _ (xaa _ (.tail _ (xaa _ (.head _))))))))) (Xa.ints.mono λ_ h=>.tail _ (.tail _ (.tail _ (.tail _ (.tail _ (xaa _ (.tail _ (xaa _ (.tail _ (xad _ h)))))))))) jF hlv q ((Sl.fi hN zD).mono λ_ h=>.tail _ (.tail _ (.tail _ (.tail _ (.tail _ (xaa _ (.tail _ (xad _ h)))))))) Td DO jh LO) ?_;rintro w (⟨aF,_⟩|⟨v',mr,rfl⟩)
  ·obtain⟨s,hs,d,hd,_⟩:=hv.ex;rw[aF s hs]at hd;cases hd
  obtain rfl:v'=v:=mr.uniq DO hv;refine ae.lss (Br.F (DR.of (R:=[(bq,Obj.cells (aA .u32 (iw (l3 q))) 237 zZ)]) (aI.left (A:=[_])) (au.q ?_)));refine au.q ?_;intro Y9 _ Xk _ F35;have hone:∀x∈(iw (l3 q)).map λn=>Value.int .u32 n,x.oneCell'=true:=λx hx=>by obtain⟨n,_,rfl⟩:=xam.1 hx;rfl
  refine St.p hone ?_;refine⟨.skip (.skip (aI.left (A:=[_]))),?_⟩;intro F37;refine St.p hone ?_;refine hN.bF ?_;rw[xau];refine⟨λvs H=>∃i:Nat,vs=[iv (i:Int)]/\i<=3/\H=(Xk,.cells (aA .u32 (iw (lz K0.N v' true (l3 q) i))) 237 zZ)::(Y9,.cells (aA .u32 (iw (lz K0.N v' false (l3 q) i))) 237 zZ)::
    (bq,Obj.cells (aA .u32 (iw (l3 q))) 237 zZ)::(oo,.cells #[.map (some bm)] 291 zZ)::(b1,.cells #[ptr bw] 232 zZ)::(b5,.cells #[fv] 239 zZ)::(mC,.cells #[Ay oo b1 b5 mC] 292 zZ)::(LB++((bm,.map es ck)::(CN++(fN bw kp vl vm::(CL++(CM++C)))))),
   λvs _=>3-bj vs 0,JE.mk ⟨0,rfl,by omega,by rw[xX,xX];rfl⟩,?_⟩
  rintro w44 H ⟨i,hvs,hi,rfl⟩ gs;simp only[xay,xa5]at hvs;subst hvs;have hl3:(l3 q).length=3:=rfl;refine ae.cU (b:=3) (Br.dec (λhlt=>?_) (λhlt=>?_))
  ·-- a part of the question
   intro J hJ;obtain⟨r,hr⟩:∃r,(l3 q)[i]? =some r:=⟨_,xab (show i<(l3 q).length from hlt)⟩;have hlr:=jh r (xaz hr);have hrow:((l3 q).map (got K0.N))[i]? =some (got K0.N r):=by rw[xas,hr];rfl
   refine ai.sl (Sl.fi hN zD) hrow λp hp=>?_;refine au.at hp (bL _ _).1 zD (λ_ h=>.tail _ (.tail _ (.tail _ (.tail _ (.tail _ (.tail _ (.tail _ (xaa _ (.tail _ (xad _ h)))))))))) ?_;intro b52 _;refine St.whole (r:=got K0.N r) (by exact .head _) rfl (bL _ _).1 (bL _ _).2 ?_;have stay:iB K0.N v' false r=r->iB K0.N v' true r=r->∀Z:Hp,JE J [] (Z++((Xk,.cells (aA .u32 (iw (lz K0.N v' true (l3 q) i))) 237 zZ)::(Y9,.cells (aA .u32 (iw (lz K0.N v' false (l3 q) i))) 237 zZ)::
    (bq,Obj.cells (aA .u32 (iw (l3 q))) 237 zZ)::(oo,.cells #[.map (some bm)] 291 zZ)::(b1,.cells #[ptr bw] 232 zZ)::(b5,.cells #[fv] 239 zZ)::(mC,.cells #[Ay oo b1 b5 mC] 292 zZ)::(LB++((bm,.map es ck)::(CN++(fN bw kp vl vm::(CL++(CM++C)))))))):=λe1 e2 Z=>by
    refine JE.of .right (hJ _ λgs=>?_);exact ae.inc (az.of (.refl _) ⟨i+1,rfl,by omega,by rw[xY hr e1,xY hr e2]⟩ (by simp only[bj];omega))
   cases YL:K0.N r with
   |none=>
    have rK:r<2:=by rcases hlr with h2|⟨d,hd⟩;exact h2;rw[YL]at hd;cases hd
    rw[gQ rK];refine Ld.f ?_;refine ae.jM (Br.F ?_);have ec:∀b,iB K0.N v' b r=r:=λb=>by unfold iB;rw[YL]
    exact stay (ec false) (ec true) [_]
   |some d=>
    have h2:=Td.two YL;rw[gy YL h2];refine Ld.f ?_;refine ae.bu (Br.dec (λvj=>?_) (λvj=>?_))
    ·refine DR.of (R:=[(b52,Obj.cells (bJ d).toArray 201 zZ)]) (aI.left (A:=[_])) (Ld.f ?_);refine Ld.f ?_;have elo:iB K0.N v' false r=d.lo:=by unfold iB;rw[YL];simp[vj]
     have ehi:iB K0.N v' true r=d.hi:=by unfold iB;rw[YL];simp[vj]
     refine fy.nat hlt ?_;refine St.ints (l:=iw (lz K0.N v' false (l3 q) i)) (x:=(d.lo:Int)) (by exact .tail (.tail (.head _))) (by rw[aq,BM zO];omega) ?_;refine⟨aI.left (A:=[_]),?_⟩;refine fy.nat hlt ?_;refine St.ints (l:=iw (lz K0.N v' true (l3 q) i)) (x:=(d.hi:Int)) (by exact .tail (.head _)) (by rw[aq,BM zO];omega) ?_;rw[gx,gx,<-elo,<-ehi,rD hr,rD hr];refine JE.of .tail (hJ _ λgs=>?_);exact ae.inc (az.of (.refl _) ⟨i+1,rfl,by omega,rfl⟩ (by simp only[bj];omega))
    have ec:∀b,iB K0.N v' b r=r:=λb=>by unfold iB;rw[YL];simp[vj]
    exact stay (ec false) (ec true) [_]
  obtain rfl:i=3:=by omega
  have em:∀b,lz K0.N v' b (l3 q) 3=l3 (Bw K0.N v' b q):=λb=>by rw[UE,<-P5];rfl
  rw[em,em];obtain⟨f1,f2⟩:=tX (S:=S0) Td DO YO jh hv false;obtain⟨t1,t2⟩:=tX (S:=S0) Td DO YO jh hv true;have ec:∀b,tU t S0 (iQ K0.N v' b (l3 q))=λx=>tU t S0 (l3 q) (an.aD x v' b):=λb=>VA Td DO YO rfl jh hv t b;have tC:Ord K0.n (lv ah) ord:=by rw[<-hS.jy.n];exact hK.od
  have lP:=DO.lt v' hv.lt;have hov:=tC.of DO hv.lt;have QL:=Mi Td DO YO tC (q:=l3 q) rfl jh (xcs lP) hv.le t;obtain⟨i1,ad9⟩:=xI (n:=K0.n) (ord:=ord) (c:=tU t S0 (iQ K0.N v' false (l3 q))) QL (b:=false) (by rw[hov];exact ec false);obtain⟨i2,ad8⟩:=xI (n:=K0.n) (ord:=ord) (c:=tU t S0 (iQ K0.N v' true (l3 q))) QL (b:=true) (by rw[hov];exact ec true);refine Ld.q ?_;refine au.q ?_;refine bG.of rfl jT ?_;refine aa.pre (H':=(Xk,.cells (aA .u32 (iw (l3 (Bw K0.N v' true q)))) 237 zZ)::(Y9,.cells (aA .u32 (iw (l3 (Bw K0.N v' false q)))) 237 zZ)::(bq,Obj.cells (aA .u32 (iw (l3 q))) 237 zZ)::Xe oo b1 b5 mC bm bw kp fv vl vm LB CL CM C es ck) (.cons (.cons (.cons (.cons (.cons (.cons (.cons (.cT (.cons .right) _)))))))) ?_;refine aa.fq (args:=#[kq (Bw K0.N v' false q),ptr oo,ptr b1,ptr b5,ptr mC]) (iha (Bw K0.N v' false q) rfl K S made es ck vm CM C hS f1 (λg hg=>hU g (ad9 g hg))) ?_;rintro w H ⟨K1,S1,Wo,n4,mB,vm1,CM1,C1,rfl,AX,hA1,Q9⟩;rcases Q9 with⟨x1,rfl,Aa,AT⟩|⟨rfl,hno⟩;rotate_left
  ·exact Ext.mk rfl (Ext.mk rfl (ae.fX (Br.T (aQ.mk (.skip (.skip .tail)) ⟨K1,S1,Wo,n4,mB,vm1,CM1,C1,rfl,AX,hA1.Ks zO,.inr ⟨rfl,hno⟩⟩))))
  refine Ext.mk rfl (Ext.mk rfl (ae.fX (Br.F (Ld.q ?_))));refine au.q ?_;refine bG.of rfl jT ?_;have hc1:=λs=>hA1.count s;have Ch:∀s,K1.hold s<=K.hold s+a:=λs=>by rw[AX.jy.hold,hS.jy.hold];have:=(hc1 s).1;omega
  refine aa.fq (args:=#[kq (Bw K0.N v' true q),ptr oo,ptr b1,ptr b5,ptr mC]) (ihb (Bw K0.N v' true q) rfl K1 S1 Wo n4 mB vm1 CM1 C1 AX t1 (λg hg=>hU g (ad8 g hg))) ?_;rintro w H ⟨K2,S2,kg,l5,mA,vm2,CM2,C2,rfl,rM,rN,Q9⟩;have Rk:=hA1.trans rN;rcases Q9 with⟨x2,rfl,S7,tQ⟩|⟨rfl,hno⟩;rotate_left
  ·exact Ext.mk rfl (Ext.mk rfl (ae.fX (Br.T (aQ.mk (.skip (.skip .tail)) ⟨K2,S2,kg,l5,mA,vm2,CM2,C2,rfl,rM,Rk.Ks zO,.inr ⟨rfl,hno⟩⟩))))
  refine Ext.mk rfl (Ext.mk rfl (ae.fX (Br.F (Ld.q ?_))));obtain⟨Zu,kE,UR⟩:=AX.ks;obtain⟨kX,gH,qq⟩:=rM.ks;have abC:=gH.ok.mid.int;have l11:live K1.N x1:=by rcases AT with h|h|h;exact .inl h;exact AX.jy.kf kE h;exact AX.jy.live (hh0 _ h)
  have e1:S2 x1=tU t S0 (iQ K0.N v' false (l3 q)):=(rN.fn x1 l11).trans Aa;have l1:live K2.N x1:=by rcases AT with h|h|h;exact .inl h;exact rM.jy.kf gH (rN.mem h);exact rM.jy.live (hh0 _ h)
  have l2:live K2.N x2:=by rcases tQ with h|h|h;exact .inl h;exact rM.jy.kf gH h;exact rM.jy.live (hh0 _ h)
  have n2:=rM.jy.n;have QK:ite S2 ⟨v',x1,x2⟩=tU t S0 (l3 q):=by
   funext x
   unfold aE.ite;rw[e1,S7,ec,ec]
   conv=>rhs;rw[<-an.iS x v']
   simp only;cases x.testBit v'<;>rfl
  obtain⟨m2,vp,U5⟩:=rM.kn;have hkl:∀y∈m2,live K2.N y.2:=λy hy=>by
   rcases(U5 y hy).2 with h|h|h
   ·exact .inl h
   ·exact rM.jy.kf gH h
   exact rM.jy.live (hh0 _ h)
  by_cases hx:x1=x2
  ·subst hx;refine aa.eq (Fy x1 v' _) (Ext.two λJ hJ=>(ae.jM (Br.T (Ld.q ?_))));refine au.q ?_;refine aT.OM (ke:=kq) (k:=q) (vr:=Ty) (x:=x1) u3 pB z5 vp rfl λes' cE he=>⟨_,.tail (.tail (.tail (.tail (.tail (.tail (.tail ((cu.head _).aH LB))))))),?_⟩;refine JE.mk (hJ _ λgs=>?_);have hr:S2 x1=tU t S0 (l3 q):=by
    rw[<-QK]
    funext x
    unfold aE.ite;split<;>rfl
   have vb:x1<2\/x1∈kg\/K0.hold x1=65535:=tQ;exact aQ.mk (.skip (.skip .tail)) ⟨K2,S2,kg,es',cE,vm2,CM2,C2,rfl,⟨rM.ks,rM.jy,rM.mde,_,he,λy hy=>(uU hy).elim (λe=>by rw[e];exact⟨hr,vb⟩) (λhy=>U5 y hy)⟩,Rk.Ks zO,.inl ⟨x1,rfl,hr,vb⟩⟩
  have WS:fm (tU t S0 (l3 q)) (ord.getD (lv ah v') 0):=by
   rw[hov];refine xa2 λhno=>hx ?_;refine gH.ok.wf.same gH.ok.lv abC l1 l2 λx=>?_;rw[e1,S7,ec,ec];exact(fj hno x false).trans (fj hno x true).symm
  have b1':=gH.ok.below gH.od (l:=lv ah v'+1) l1 zO (by rw[e1];exact i1);have b2':=gH.ok.below gH.od (l:=lv ah v'+1) l2 zO (by rw[S7];exact i2);have Rf:∀g,bc K0.n ord (λg=>g=ite S2 ⟨v',x1,x2⟩) g->U g:=by rw[QK];exact hU
  refine aa.fq (args:=#[ptr bw,iv (v':Int),u32 x1,u32 x2]) (Sz gH (v:=v') (by rw[n2];exact hv.lt) l1 l2 hx ⟨by omega,by omega⟩ rM.mde (by have:=rM.jy.qh gH;omega)) ?_;rintro w H (⟨r,K3,S3,C3,vm3,CM3,rfl,rfl,wO,mk,ZT⟩|⟨rfl,rfl,YC,hT⟩|⟨r,rfl,rfl,hlr,Tf,hfull,Ow⟩)
  ·refine Ext.two λJ hJ=>(ae.jM (Br.T (Ld.q ?_)));refine au.q ?_;refine aT.OM (ke:=kq) (k:=q) (vr:=Ty) (x:=r) u3 pB z5 vp rfl λes' cE he=>⟨_,.tail (.tail (.tail (.tail (.tail (.tail (.tail ((cu.head _).aH LB))))))),?_⟩;refine JE.mk (hJ _ λgs=>?_);have hr:S3 r=tU t S0 (l3 q):=mk.is.trans QK;have rK:2<=r:=xcW λh=>by
    obtain⟨x,hx⟩:=WS;apply hx;rw[<-hr];have Yx:=wO.ok.mid.int;have:r=0\/r=1:=by omega
    rcases this with rfl|rfl
    ·rw[Yx.zero,Yx.zero]
    rw[Yx.one,Yx.one]
   have sM:=rM.jy.step gH mk rK Rf;have ZZ:fM K2 S2 kg K3 S3 (kg++[r]) 1:=⟨mk.N,mk.fn,[r],rfl,xak _⟩;have vb:r<2\/r∈kg++[r]\/K0.hold r=65535:=.inr (.inl zI);refine aQ.mk (.skip (.skip .tail)) ⟨K3,S3,kg++[r],es',cE,vm3,CM3,C3,rfl,⟨⟨[],wO,.inl rfl⟩,sM,ZT,_,he,λy hy=>(uU hy).elim (λe=>by rw[e];exact⟨hr,vb⟩) (λhy=>?_)⟩,(Rk.trans ZZ).Ks zO,.inl ⟨r,rfl,hr,vb⟩⟩;obtain⟨k1,k2⟩:=U5 y hy;exact⟨by rw[ZZ.fn y.2 (hkl y hy),k1],k2.imp id (Or.imp ZZ.mem id)⟩
  ·refine Ext.two λJ hJ=>(ae.jM (Br.F (JE.mk (hJ _ λgs=>?_))));refine aQ.mk (.skip (.skip .tail)) ⟨K2,S2,kg,l5,mA,vm2,CM2,C2,rfl,rM,Rk.Ks zO,.inr ⟨rfl,?_⟩⟩;rintro⟨ku,U4,hfit⟩;have:=gH.ok.roomFor gH.od U4 (by rw[rM.jy.cap];exact hfit) (by rw[n2];exact rM.jy.U) (d:=⟨v',x1,x2⟩) l1 l2 hx (by rw[n2];exact hv.lt) ⟨by show lv ah v'<dep K2.n (lv ah) K2.N x1;omega,by show lv ah v'<dep K2.n (lv ah) K2.N x2;omega⟩ (Rf _ (by rw[QK];exact xQ QL lP WS)) hT;omega
  refine Ext.two λJ hJ=>(ae.jM (Br.T (Ld.q ?_)));refine au.q ?_;refine aT.OM (ke:=kq) (k:=q) (vr:=Ty) (x:=r) u3 pB z5 vp rfl λes' cE he=>⟨_,.tail (.tail (.tail (.tail (.tail (.tail (.tail ((cu.head _).aH LB))))))),?_⟩;refine JE.mk (hJ _ λgs=>?_);have hr:S2 r=tU t S0 (l3 q):=Ow.trans QK;have vb:r<2\/r∈kg\/K0.hold r=65535:=.inr (rM.jy.full hfull);exact aQ.mk (.skip (.skip .tail)) ⟨K2,S2,kg,es',cE,vm2,CM2,C2,rfl,⟨rM.ks,rM.jy,rM.mde,_,he,λy hy=>(uU hy).elim (λe=>by rw[e];exact⟨hr,vb⟩) (λhy=>U5 y hy)⟩,Rk.Ks zO,.inl ⟨r,rfl,hr,vb⟩⟩
end
section
variable {kp bw:Nat} {vl vm:zV} {K:Kd} {S:Nat->aE.Fn} {ord ah tr:zL} {C:Hp}
theorem y6{Y:Hp}{vr:zV}{refs:zL}(hK:cZ kp K S ord ah tr C)(hr:dY .u32 Y vr (iw refs))(hl:∀r∈refs,live K.N r)(cL:refs.length<=1048576):
  Fc zQ 159 #[ptr kp,vr] (Y++C) (λw H=>∃bw vl CL lvl,w=.tuple #[ptr bw,iv 0]/\H=fN bw kp vl (.slice none 0 0)::(CL++(Y++C))/\aR 3 .i64 vl (iw lvl) CL/\lvl.length=K.n/\∀v,v<K.n->lvl.getD v 0=lv ah v):=by
 have hn:K.n<=64:=hK.at'.rC;have tC:=hK.od;refine aK λg=>HD (ae.aJ (Br.no (hr.bF ?_)));rw[aq];refine⟨λvs H=>∃i:Nat,vs=[iv (i:Int)]/\i<=refs.length/\H=Y++C,λvs _=>refs.length-bj vs 0,JE.mk ⟨0,rfl,xaA _,rfl⟩,?_⟩;rintro w7 H ⟨i,⟨⟩,hi,rfl⟩ gs;refine ae.cU (Br.dec (λhlt=>?_) (λhlt=>?_))
 ·have hlr:=hl _ (xaD hlt);refine hr.ld (n:=((refs[i]:Nat):Int)) (cI (xab hlt)) (λ_ h=>xad _ h) ?_;refine aa.eq (args:=#[ptr kp,u32 refs[i]]) (qo hK.rep (by have:=hK.eC hlr;omega)) ?_;rw[cz.2 hlr];refine Ext.two λb15 _=>(St.whole (r:=got K.N refs[i]) (by exact .head _) rfl (bL _ _).1 (bL _ _).2 ?_);exact ae.fX (Br.F (ae.inc (az.of .tail ⟨i+1,rfl,hlt,rfl⟩ (by simp only[bj];omega))))
 refine aa.eq (kx hK.rep) (dj.ints zO zO λbl=>?_);refine Build.mk (cs:=[ptr kp,.slice (some ⟨bl,0,none⟩) K.n K.n,.slice none 0 0]) zK λbw _=>?_;refine aa.fq (yh hK.rep) ?_;rintro vo H ⟨N,rfl,ho⟩;refine ho.bF ?_;rw[aq,tC.len];have hz:List.replicate K.n (0:Int)=iw (List.replicate K.n 0):=by simp[iw]
 have hm:=aR.made (T:=3) (kd:=.i64) (b:=bl) (iw (List.replicate K.n 0));rw[aq,xbV]at hm;rw[hz];generalize hvl:Value.slice (some ⟨bl,0,none⟩) K.n K.n=vl at*;refine⟨λvs H=>∃(i:Nat) (L:zL) (CL:Hp),vs=[iv (i:Int)]/\i<=K.n/\H=fN bw kp vl (.slice none 0 0)::(CL++(Y++(N++C)))/\aR 3 .i64 vl (iw L) CL/\L.length=K.n/\∀j,j<i->L.getD (ord.getD j 0) 0=j,λvs _=>K.n-bj vs 0,
  JE.mk ⟨0,_,_,rfl,xaA _,rfl,hm,by simp,λj hj=>absurd hj (xc7 _)⟩,?_⟩
 rintro w34 H ⟨i,L,CL,⟨⟩,hi,rfl,hL,hLl,hLo⟩ gs;refine ae.cU (Br.dec (λhlt=>?_) (λhlt=>?_))
 ·have nY:=(tC.at' i hlt).1;refine ho.ld (x:=((ord.getD i 0:Nat):Int)) (bW (by rw[tC.len];exact hlt)) (λ_ h=>.tail _ (xaa _ (xaa _ (xad _ h)))) (Ld.n ?_);refine hL.mT (x:=(i:Int)) (.cons .left) (by rw[aq];omega) λCL' hL'=>?_;rw[gx]at hL';refine ae.inc (az.mk ⟨i+1,L.set (ord.getD i 0) i,CL',rfl,hlt,rfl,hL',by simp[hLl],λj hj=>?_⟩ (by simp only[bj];omega));by_cases e:j=i
  ·subst e;rw[xap,xbR zO];rfl
  have hj':j<i:=by omega
  have hne:ord.getD i 0≠ord.getD j 0:=λh=>by
   have a:=(tC.at' i hlt).2;have b:=(tC.at' j zO).2;rw[h,b]at a;exact e a
  rw[xap,xbN hne,<-xap,hLo j hj']
 obtain rfl:i=K.n:=by omega
 refine aQ.mk (.cons (.cT (.cT .right _) _)) ⟨bw,vl,CL,L,rfl,rfl,hL,hLl,λv hv=>?_⟩;have h1:=hLo (lv ah v) (hK.ok.lv.lt v hv);rwa [tC.of hK.ok.lv hv]at h1
structure Kg(K K':Kd)(made:zL)(x:Nat)(ok:Bool):Prop where
 n:K'.n=K.n
 cap:K'.cap=K.cap
 N:∀s d,K'.N s=some d->K.N s=some d
 hold:∀s,K'.hold s+made.count s=K.hold s+if ok=true/\s=x/\2<=x then 1 else 0
theorem V0{X CM:Hp}{made:zL}{x:Nat}{ok fu:Bool}(hK:cZ kp K S ord ah tr C)(hM:aR 82 .u32 vm (iw made) CM)(hc:∀s,made.count s<=K.hold s)(h2:∀s∈made,2<=s)(Js:∀s∈made,s<4294967296)(hx:ok=true->((x<2\/x∈made)↔fu=false))(cL:made.length<=1099511627776):
  Fc zQ 206 #[ptr bw,u32 x,iv (if ok then 0 else 9)] (fN bw kp vl vm::(X++(CM++C))) (λw H=>∃K' C' jx,w=.tuple #[u32 (if ok&& !fu then x else 0),iv (if ok then(if fu then 8 else 0)else 9)]/\H=fN bw kp vl (.slice none 0 0)::(X++(CM++C'))/\cZ kp K' S ord ah jx C'/\(jx=[]\/(jx=tr/\((ok&& !fu)=true->made≠[])))/\Kg K K' made x (ok&& !fu)):=by
 refine aK λg=>GU (ae.bu (b:=0) (cr.or (decide (x=1)) (λ_=>ae.bu (b:=1) ⟨rfl,rfl⟩) zI λgs=>?_));rw[<-xbb];refine Ld.n (hM.bF ?_);rw[aq];refine⟨λvs H=>∃(i:Nat) (Ki:Kd) (Ci:Hp) (Wc:zL) (kept:Bool),vs=[.bool kept,iv (i:Int)]/\i<=made.length/\H=fN bw kp vl vm::(X++(CM++Ci))/\cZ kp Ki S ord ah Wc Ci/\(Wc=[]\/Wc=tr)/\Ki.n=K.n/\Ki.cap=K.cap/\(∀s d,Ki.N s=some d->K.N s=some d)/\
   (∀s,Ki.hold s+(made.take i).count s=K.hold s+if kept=true/\s=x/\2<=x then 1 else 0)/\(x<2->kept=true)/\(kept=true->x<2\/(ok=true/\x∈made.take i))/\(ok=true->x∈made.take i->kept=true),λvs _=>made.length-bj vs 1,
  JE.mk ⟨0,K,C,tr,_,rfl,xaA _,rfl,hK,.inr rfl,rfl,rfl,λ_ _ h=>h,λs=>?_,λh=>xav zO,λh=>.inl (by have:=xcl h;omega),λ_ h=>by simp at h⟩,?_⟩
 ·rw[List.take_zero,xdT,xac (λh=>by have:=xcl h.1;omega)]
 rintro w13 w14 H ⟨i,Ki,Ci,Wc,kept,⟨⟩,hi,rfl,ZV,UQ,hn,hcap,hN,hh,qY,tF,pP⟩ gs;refine ae.cU (Br.dec (λhlt=>?_) (λhlt=>?_))
 ·intro J hJ;have kR:made.take (i+1)=made.take i++[made[i]]:=xbd hlt;have hfm:made[i]∈made:=xaD hlt;have og:(made.take i).count made[i]+1<=made.count made[i]:=by
   have h1:=(xdX (i+1) made).count_le made[i];rw[kR,xbv,List.count_singleton_self]at h1;exact h1
  refine hM.ld (x:=((made[i]:Nat):Int)) (cI (xab hlt)) (λ_ h=>.tail _ (xaa _ (xad _ h))) ?_;generalize hf:made[i]=f at*;refine ae.bu (cr.and (!kept) (λ_=>Un.not ⟨rfl,rfl⟩) zI λgs=>?_);refine cr.and ok (λ_=>ae.jM ⟨rfl,by cases ok<;>rfl⟩) zI λgs=>?_;refine Br.mk (λhb=>?_) (λhb=>?_)
  ·simp only[xaB,xaQ,xbX]at hb;obtain⟨⟨rfl,hkf⟩,hok⟩:=hb;refine JE.mk (hJ _ _ λgs=>?_);refine ae.inc (az.mk ⟨i+1,Ki,Ci,Wc,true,rfl,hlt,rfl,ZV,UQ,hn,hcap,hN,λs=>?_,λ_=>rfl,λ_=>.inr ⟨hok,by rw[kR];simp⟩,λ_ _=>rfl⟩ (by simp only[bj];omega));have h0:=hh s;rw[kR,xbv,xcQ];rw[xac (λh=>by rw[hkf]at h;cases h.1)]at h0;by_cases e:s=f
   ·subst e;have:=h2 s hfm;simp[this];omega
   have:(f==s)=false:=by simpa using λe'=>e e'.symm
   simp[e,this];omega
  refine Ld.n ?_;have hhf:Ki.hold f≠0:=by
   have h0:=hh f;have:=hc f;split at h0<;>omega
  refine aa.fq (args:=#[ptr kp,u32 f]) (Ar ZV (r:=f) (Js f hfm) (λ_=>hhf)) ?_;rintro w C2 ⟨rfl,K2,gH,f2⟩;refine JE.mk (hJ _ _ λgs=>?_);refine ae.inc (az.mk ⟨i+1,K2,C2,[],kept,rfl,hlt,rfl,gH,.inl rfl,f2.n.trans hn,f2.cap.trans hcap,λs d hd=>hN s d (f2.N s d hd),λs=>?_,qY,λh=>(tF h).imp id (λh=>⟨h.1,by rw[kR];exact xad _ h.2⟩),λh1 h3=>?_⟩ (by simp only[bj];omega))
  ·have h0:=hh s;rw[f2.hold,kR,xbv,xcQ];by_cases e:s=f
   ·subst e;have:=h2 s hfm;simp[this];omega
   have:(f==s)=false:=by simpa using λe'=>e e'.symm
   simp[e,this];omega
  rw[kR,xao,xaK]at h3;rcases h3 with h3|h3
  ·exact pP h1 h3
  subst h3;cases hkk:kept
  ·rw[hkk,h1]at hb;simp at hb
  rfl
 obtain rfl:i=made.length:=by omega
 rw[xbc]at hh tF pP;refine Nil.ptr (ag.mk (St.one (by exact .head _) rfl zI rfl ?_));intro J hJ;refine ae.fX ?_;cases ok with
 |false=>
  refine Br.T ?_;have hE:Kg K Ki made x false:=⟨hn,hcap,hN,λs=>by
   have h0:=hh s;rw[xac (λh=>by cases h.1)];rw[xac (λh=>by
    rcases tF h.1 with h3|h3
    ·omega
    cases h3.1)]at h0
   exact h0⟩
  refine aQ.here ⟨Ki,Ci,Wc,?_,rfl,ZV,UQ.imp id λh=>⟨h,λh=>by cases h⟩,hE⟩;rfl
 |true=>
  have hx:=hx rfl;cases fu with
  |true=>
   have hkf:kept=false:=by
    cases hkk:kept
    ·rfl
    have:(true=false):=hx.1 ((tF hkk).imp id λh=>h.2);cases this
   refine Br.F ?_;rw[hkf];refine Un.not (Br.yes (aQ.here ⟨Ki,Ci,Wc,rfl,rfl,ZV,UQ.imp id λh=>⟨h,λh=>by cases h⟩,⟨hn,hcap,hN,λs=>?_⟩⟩));have h0:=hh s;rw[hkf]at h0;rw[xac (λh=>by cases h.1)]at h0⊢;exact h0
  |false=>
  have hx:=hx.2 rfl;have Cg:kept=true:=by
   rcases hx with h|h
   ·exact qY h
   exact pP rfl h
  refine Br.F ?_;rw[Cg];refine Un.not (Br.no ?_);have hE:∀K3:Kd,K3.n=Ki.n->K3.cap=Ki.cap->K3.N=Ki.N->(∀s,K3.hold s=Ki.hold s)->Kg K K3 made x true:=λK3 a1 a2 a3 a4=>⟨a1.trans hn,a2.trans hcap,by rw[a3];exact hN,λs=>by rw[a4,hh s,Cg]⟩;refine ae.bu (b:=0) (cr.or (decide (x=1)) (λ_=>ae.bu (b:=1) ⟨rfl,rfl⟩) zI λgs=>?_);rw[<-xbb];refine Br.dec (λLW=>?_) (λLW=>?_)
  ·refine Ld.n ?_;refine aa.fq (z6 ZV (r:=x) (.inl zO) (λh=>by omega)) ?_;rintro w C3 ⟨rfl,K3,wO,mo⟩;refine JE.mk (hJ _ λgs=>aQ.here ⟨K3,C3,[],by simp,rfl,wO,.inl rfl,hE K3 mo.n mo.cap mo.N λs=>?_⟩);rw[mo.hold,xac zO]
  refine JE.mk (hJ _ λgs=>aQ.here ⟨Ki,Ci,Wc,by simp,rfl,ZV,UQ.imp id λh=>⟨h,λ_ hm=>?_⟩,hE Ki rfl rfl rfl λ_=>rfl⟩);rcases hx with h|h
  ·omega
  rw[hm]at h;cases h
end
theorem aaG{α:Type}(a b c d e f g h:α)(L R:List α):(a::b::c::d::e::f::g::h::(L++R)).Perm (g::d::e::b::h::f::a::(L++c::R)):=by
 classical
 rw[xcV];intro x;simp only[xbv,xcR];omega
def si(kp:Nat)(K:Kd)(S:Nat->aE.Fn)(ord ah tr:zL)(f:aE.Fn)(w:zV)(H:Hp):Prop:=
 (∃x K' S',w=.tuple #[u32 x,iv 0]/\cZ kp K' S' ord ah [] H/\SR K S K' S' f x)\/
 (w=.tuple #[u32 0,iv 9]/\(∃K' S' jx,cZ kp K' S' ord ah jx H/\(jx=[]\/jx=tr)/\Kept K S K' S')/\¬Fits (bc K.n ord (λg=>K.held S g\/g=f)) K.cap)
def nN(kp:Nat)(K:Kd)(S:Nat->aE.Fn)(ord ah tr:zL)(f:aE.Fn)(w:zV)(H:Hp):Prop:=
 si kp K S ord ah tr f w H\/(w=.tuple #[u32 0,iv 8]/\(∃K' S' jx,cZ kp K' S' ord ah jx H/\(jx=[]\/jx=tr)/\Kept K S K' S')/\∃r,2<=r/\K.hold r=65535/\S r=f)
theorem nN.small{kp:Nat}{K:Kd}{S:Nat->aE.Fn}{ord ah tr:zL}{f:aE.Fn}{w:zV}{H:Hp}(h:nN kp K S ord ah tr f w H)(hB:∀s,K.hold s<65535):si kp K S ord ah tr f w H:=by
 rcases h with h|⟨_,_,r,_,h,_⟩
 ·exact h
 have:=hB r;omega
section
variable {kp bw:Nat} {vl fv:zV} {K:Kd} {S:Nat->aE.Fn} {ord ah tr lvl:zL} {LB CL C:Hp} {t:Bool->Bool->Bool->Bool}
theorem JT(hK:cZ kp K S ord ah tr C)(DN:AL fv LB t)(Xa:aR 3 .i64 vl (iw lvl) CL)(jF:lvl.length=K.n)(hlv:∀v,v<K.n->lvl.getD v 0=lv ah v)(q:Q3)(hq:∀r∈l3 q,live K.N r){c:Nat}(hT:Tree K.n (lv ah) K.N (l3 q) c):
  Fc zQ 160 #[ptr bw,kq q,fv] (LB++(fN bw kp vl (.slice none 0 0)::(CL++C))) (nN kp K S ord ah tr (tU t S (l3 q))):=by
 have hrb:bQ zQ 207=true:=by kernel_rfl
 obtain⟨fl,af5,akR,Va,hfr⟩:=DN.is;refine aK λg=>HC λb1 _ b3 _ b5 _ b7 _ b9 _ bm _ oo _=>?_;refine St.one (by exact .head _) rfl zI rfl ?_;intro mC _;refine St.one (by exact .head _) rfl zI rfl ?_;refine Ld.q ?_;refine au.q ?_;refine bG.of rfl hrb (aa.pre (H':=(b9,.cells #[iv 0] 25 zZ)::(b7,.cells #[.int .u32 0] 82 zZ)::Xe oo b1 b5 mC bm bw kp fv vl (.slice none 0 0) LB CL [] C #[] 0) ?_ ?_)
 ·rw[Va];exact(aI.perm (aaG _ _ _ _ _ _ _ _ _ _)).trans .tail
 have tC:=hK.od;have Td:=hK.ok.wf;have DO:=hK.ok.lv;have YO:=hK.ok.mid.int;have hS:Stp kp K S (bc K.n ord (λg=>K.held S g\/g=tU t S (l3 q))) ord ah tr t K S [] #[] 0 (.slice none 0 0) [] C:=
  ⟨⟨tr,hK,.inr ⟨rfl,rfl⟩⟩,.refl λg hg=>eu (λg h=>.inl h) hg,aR.nil,[],aT.empty,λy hy=>by cases hy⟩
 refine aa.fq (args:=#[kq q,ptr oo,ptr b1,ptr b5,ptr mC]) (YT hrb DN Xa jF hlv hK.at'.rC Td YO DO (λr hr=>by have:=hK.eC hr;omega) (λs hs=>.inr (hK.ok.mid.held s zO)) (XB:=tr) (l3 q) c hT q rfl K S [] #[] 0 (.slice none 0 0) [] C hS hq (λg hg=>eu (λg h=>.inr h) hg)) ?_;rintro w H ⟨K1,S1,made,es,ck,vm,CM,C1,rfl,AX,hA,Q9⟩;obtain⟨Zu,kE,UR⟩:=AX.ks;have sM:=AX.jy;have hmx:=sM.qh kE;have aeU:∀s∈made,s<4294967296:=λs hs=>by have:=kE.eC (sM.kf kE hs);omega
 have hmc:∀s,made.count s<=K1.hold s:=λs=>by rw[sM.hold];omega
 have fin:∀(x:Nat) (ok fu:Bool),w=.tuple #[u32 (if ok then x else 0),iv (if ok then 0 else 9)]->(ok=true->((x<2\/x∈made)↔fu=false))->(∀K2 C2 kX,cZ kp K2 S1 ord ah kX C2->(kX=[]\/(kX=Zu/\((ok&& !fu)=true->made≠[])))->Kg K1 K2 made (if ok then x else 0) (ok&& !fu)->nN kp K S ord ah tr (tU t S (l3 q)) (.tuple #[u32 (if ok&& !fu then(if ok then x else 0)else 0),iv (if ok then(if fu then 8 else 0)else 9)]) C2)->(ok=false->x=0)->
   Ext 0 w λv23=>Ext 1 w λv24=>St 1 ((b9,.cells #[iv 0] 25 zZ)::(b7,.cells #[.int .u32 0] 82 zZ)::Xe oo b1 b5 mC bm bw kp fv vl vm LB CL CM C1 es ck) (ptr b7) v23 λH25=>St 1 H25 (ptr b9) v24 λZn=>
   kN zQ g 205 #[ptr b1,ptr b7,ptr b9] Zn λH27=>Ld H27 (ptr b7) λv28=>Ld H27 (ptr b9) λv29=>aQ (nN kp K S ord ah tr (tU t S (l3 q))) (.returned (.tuple #[v28,v29])) H27:=by
  intro x ok fu hw hx hd h0;subst hw;refine Ext.two (St.one (by exact .tail (.head _)) rfl zI rfl ?_);refine St.one (by exact .head _) rfl zI rfl ?_;refine Dx (R:=_) ?_;unfold L205;refine Ld.q ?_;refine Ld.q ?_;refine Ld.q ?_;refine aa.fq (V0 (X:=CL) (x:=if ok then x else 0) (ok:=ok) (fu:=fu) kE AX.mde hmc sM.two aeU (λh=>by rw[xae h];exact hx h) zO) ?_;rintro w H ⟨K2,C2,kX,rfl,rfl,gH,qq,hE⟩;refine Ext.two (St.one (by exact .tail (.head _)) rfl zI rfl ?_);refine St.one (by exact .head _) rfl zI rfl ?_;refine⟨⟨_,rfl⟩,?_⟩;refine Ld.q ?_;refine Ld.q ?_;exact aQ.mk (.skip (.skip (.skip (.skip (.skip (.skip (aI.right.trans (.skip (.skip (aI.right.trans .right)))))))))) (hd K2 C2 kX gH qq hE)
 have Yo:∀s,K.hold s≠0->live K.N s:=λs hs=>.inr (hK.ok.mid.held s hs);rcases Q9 with⟨x,rfl,hx,hxm⟩|⟨rfl,hno⟩
 ·by_cases hxk:x<2\/x∈made;rotate_left
  ·have S7:2<=x:=by omega
   have hfull:K.hold x=65535:=by
    rcases hxm with h|h|h
    ·exact absurd (.inl h) hxk
    ·exact absurd (.inr h) hxk
    exact h
   refine fin x true true rfl (λ_=>⟨λh=>absurd h hxk,λh=>by cases h⟩) (λK2 C2 kX gH qq hE=>.inr ⟨rfl,⟨K2,S1,kX,gH,?_,?_⟩,x,S7,hfull,?_⟩) (λh=>by cases h)
   ·rcases qq with h|⟨h,_⟩
    ·exact .inl h
    rcases UR with h2|⟨h2,_⟩
    ·exact .inl (h.trans h2)
    exact .inr (h.trans h2)
   ·have m9:∀s,K2.hold s=K.hold s:=λs=>by
     have a:=hE.hold s;have b:=sM.hold s;rw[xac (λh=>by cases h.1)]at a;omega
    refine⟨hE.n.trans sM.n,hE.cap.trans sM.cap,m9,λg=>?_,λr hr=>sM.fn r (Yo r hr)⟩;constructor
    ·rintro⟨s,hs,rfl⟩;have hs':K.hold s≠0:=by rw[<-m9];exact hs
     exact⟨s,hs',sM.fn s (Yo s hs')⟩
    rintro⟨s,hs,rfl⟩;exact⟨s,by show K2.hold s≠0;rw[m9];exact hs,(sM.fn s (Yo s hs)).symm⟩
   rw[<-hx];exact(sM.fn x (Yo x zO)).symm
  refine fin x true false rfl (λ_=>⟨λ_=>rfl,λ_=>hxk⟩) (λK2 C2 kX gH qq hE=>.inl (.inl ⟨x,K2,S1,rfl,?_,?_⟩)) (λh=>by cases h)
  ·have:kX=[]:=by
    rcases qq with h|⟨h,h'⟩
    ·exact h
    rcases UR with h2|⟨_,h2⟩
    ·rw[h,h2]
    exact absurd h2 (h' rfl)
   rw[this]at gH;exact gH
  have m9:∀s,K2.hold s=K.hold s+if s=x/\2<=x then 1 else 0:=λs=>by
   have a:=hE.hold s;have b:=sM.hold s;simp only[xcH,xd2,xa4,xdu]at a;omega
  have hl:live K2.N x:=by
   by_cases h2:x<2
   ·exact .inl h2
   refine .inr (gH.ok.mid.held x ?_);rw[m9,xae ⟨rfl,by omega⟩];omega
  exact⟨hE.n.trans sM.n,hE.cap.trans sM.cap,λs d hs=>EH hK.ok gH.ok (λs h=>by rw[m9];omega) (λs d d' h h'=>by
   have a:=hE.N s d' h';rw[sM.N s d h]at a;exact(xbE a).symm) _ s d hs (xak _),λs hs=>sM.fn s hs,hl,hx,m9⟩
 refine fin 0 false false rfl (λh=>by cases h) (λK2 C2 kX gH qq hE=>.inl (.inr ⟨rfl,⟨K2,S1,kX,gH,?_,?_⟩,hno⟩)) (λ_=>rfl)
 ·rcases qq with h|⟨h,_⟩
  ·exact .inl h
  rcases UR with h2|⟨h2,_⟩
  ·exact .inl (h.trans h2)
  exact .inr (h.trans h2)
 have m9:∀s,K2.hold s=K.hold s:=λs=>by
  have a:=hE.hold s;have b:=sM.hold s;rw[xac (λh=>by cases h.1)]at a;omega
 refine⟨hE.n.trans sM.n,hE.cap.trans sM.cap,m9,λg=>?_,λr hr=>sM.fn r (Yo r hr)⟩;constructor
 ·rintro⟨s,hs,rfl⟩;have hs':K.hold s≠0:=by rw[<-m9];exact hs
  exact⟨s,hs',sM.fn s (Yo s hs')⟩
 rintro⟨s,hs,rfl⟩;exact⟨s,by show K2.hold s≠0;rw[m9];exact hs,(sM.fn s (Yo s hs)).symm⟩
end
end
end Go.Proofs
namespace Go.Sx
open Go
section
variable {P:Program} {g:Gh}
theorem Build.three{t e:TypeId}{q:IntKind}{x y z:Int}{K:zV->Prop}(ht:P.underlying t=some (.array 3 e))(hz:cC P e=some 1)(h0:ef P t=some (.agg (aA q [0,0,0])))(h:K (.agg (aA q [x,y,z]))):
  Build P t [(0,.int q x),(1,.int q y),(2,.int q z)] K:=by
 refine⟨_,λw=>?_,h⟩;obtain⟨i,hi,hs⟩:=aV hz;obtain⟨i0,EU,S6⟩:=cD h0;simp only[Instr.build,Sem.run_bind,dH EU S6,Result.andThen_ok,run_underlying ht,run_sizeOf hi,hs];simp[Instr.fill,Value.cells,aA]
theorem Build.aas{t e:TypeId}{q:IntKind}{x y:Int}{K:zV->Prop}(ht:P.underlying t=some (.array 3 e))(hz:cC P e=some 1)(h0:ef P t=some (.agg (aA q [0,0,0])))(h:K (.agg (aA q [x,y,0]))):
  Build P t [(0,.int q x),(1,.int q y)] K:=by
 refine⟨_,λw=>?_,h⟩;obtain⟨i,hi,hs⟩:=aV hz;obtain⟨i0,EU,S6⟩:=cD h0;simp only[Instr.build,Sem.run_bind,dH EU S6,Result.andThen_ok,run_underlying ht,run_sizeOf hi,hs];simp[Instr.fill,Value.cells,aA]
end
end Go.Sx
set_option maxRecDepth 100000
namespace Go.Proofs
open Go Go.Sx Tryz
open aE
theorem JY(x:Bool)(B:Hp):Rd zQ 162 #[.bool x] B (· =.int .u8 ((x.toNat:Nat):Int)):=by
 refine aK λg=>HA ?_;cases x
 ·exact Br.no (bE.mk (.refl _) rfl)
 exact Br.yes (bE.mk (.refl _) rfl)
def Og(op:Nat)(a b:Bool):Bool:=op.testBit (2*a.toNat+b.toNat)
abbrev Lf(b op:Nat):Hp:=[(b,.cells #[.int .u8 (op:Int)] 5 zZ)]
theorem Fp{b op:Nat}(hop:op<16):AL (.func (.func 161) #[] #[ptr b]) (Lf b op) (λx y _=>Og op x y):=by
 refine⟨_,_,_,rfl,by kernel_rfl,λx y z=>?_⟩;refine aK λg=>HB (DR.of (R:=Lf b op) (.refl _) (Ld.q ?_));refine aa.eq (JY x _) (⟨.refl _,?_⟩);have hx:x.toNat<=1:=by cases x<;>decide
 have hy:y.toNat<=1:=by cases y<;>decide
 refine ae.wY (a:=2) (aa.eq (JY y _) (⟨.refl _,?_⟩));refine ae.eZ (ae.gk (by simp[aU];omega) (ae.fY (b:=1) (by simp[aU];exact xaL (xbM _ _) zO) (by simp[aU]) (ae.bu (b:=1) (bE.mk (.refl _) ?_))));congr 1;unfold Og;rw[xen];rw[xd6,xaR]
theorem EI:AL (.func (.func 163) #[] #[]) [] (λx y z=>if x then y else z):=by
 refine⟨_,_,_,rfl,by kernel_rfl,λx y z=>?_⟩;refine aK λg=>Hz ?_;cases x
 ·refine cr.mk false (λh=>by simp at h) (λ_=>rfl) λgs=>?_;refine cr.mk (by exact z) (λ_=>Un.not (cr.and z (λ_=>⟨rfl,rfl⟩) zI λgs=>⟨rfl,by simp⟩)) (λh=>by simp at h) λgs=>?_;exact bE.mk (.refl _) rfl
 refine cr.and y (λ_=>⟨rfl,rfl⟩) zI λgs=>?_;refine cr.or false (λ_=>Un.not (cr.and z (λ_=>⟨rfl,rfl⟩) zI λgs=>⟨rfl,by simp⟩)) zI λgs=>?_;refine bE.mk (.refl _) ?_;cases y<;>rfl
section
variable {kp:Nat} {K:Kd} {S:Nat->aE.Fn} {ord ah tr:zL} {C:Hp}
theorem aaH{α:Type}(w a b:α)(L R:List α):(w::(L++(a::b::R))).Perm (a::([b]++w::(L++R))):=by
 classical
 rw[xcV];intro x;simp only[xbv,xcR,xdT];omega
theorem Dp(hK:cZ kp K S ord ah tr C){q:zL}(hq:∀r∈q,live K.N r):∃c,Tree K.n (lv ah) K.N q c:=by
 obtain⟨c,h1,_⟩:=TL (S:=S) hK.ok.wf hK.ok.lv hK.ok.mid.int K.n 0 q zO zO hq (λr _=>xaA _);exact⟨c,h1⟩
theorem nN.two{f:aE.Fn}{w:zV}{H:Hp}(h:nN kp K S ord ah tr f w H):∃x e,w=.tuple #[x,e]:=by
 rcases h with(⟨x,K',S',rfl,_⟩|⟨rfl,_⟩)|⟨rfl,_⟩
 ·exact⟨_,_,rfl⟩
 ·exact⟨_,_,rfl⟩
 exact⟨_,_,rfl⟩
theorem pC(hB:∀s,K.hold s+2^K.n<=65535):∀s,K.hold s<65535:=λs=>by
 have:=hB s;have:=xdQ (n:=K.n);omega
theorem qP(hK:cZ kp K S ord ah tr C){op a b:Nat}(hop:op<16)(ha:live K.N a)(hb:live K.N b):
  Fc zQ 127 #[ptr kp,.int .u8 (op:Int),u32 a,u32 b] C (nN kp K S ord ah tr (λx=>Og op (S a x) (S b x))):=by
 refine aK λg=>H8 λb1 _=>?_;refine ae.aJ (Br.no (Ld.q ?_));refine ae.iF (b:=15) (Br.F (ak.Ww (e:=82) (x:=(a:Int)) (y:=(b:Int)) zK zK zK λbs=>?_));have hq:∀r∈l3 (a,b,0),live K.N r:=λr hr=>by
  simp only[l3,xag,xaw,xa1]at hr;rcases hr with rfl|rfl|rfl
  ·exact ha
  ·exact hb
  exact .inl zO
 have hI:dY .u32 ((bs,Obj.cells (aA .u32 [(a:Int),(b:Int)]) 82 zZ)::Lf b1 op) (.slice (some ⟨bs,0,none⟩) 2 2) (iw [a,b]):=(aR.made (T:=82) (kd:=.u32) (b:=bs) (iw [a,b])).ints.mono λ_ h=>xad (Lf b1 op) h;refine aa.fq (args:=#[ptr kp,.slice (some ⟨bs,0,none⟩) 2 2]) (C:=((bs,Obj.cells (aA .u32 [(a:Int),(b:Int)]) 82 zZ)::Lf b1 op)++C) (y6 hK hI (λr hr=>?_) (by show 2<=1048576;omega)) ?_
 ·simp only[xag,xaw,xa1]at hr;rcases hr with rfl|rfl
  ·exact ha
  exact hb
 rintro w H ⟨bw,vl,CL,lvl,rfl,rfl,Xa,jF,hlv⟩;refine Ext.mk rfl (Ext.mk rfl (ae.fX (Br.F (Build.aas (e:=82) (q:=.u32) (x:=(a:Int)) (y:=(b:Int)) zK zK zK ?_))));obtain⟨c,hT⟩:=Dp hK hq;refine aa.pre (H':=(bs,Obj.cells (aA .u32 [(a:Int),(b:Int)]) 82 zZ)::(Lf b1 op++fN bw kp vl (.slice none 0 0)::(CL++C))) (.perm (aaH _ _ _ _ _)) (aa.fq (args:=#[ptr bw,kq (a,b,0),.func (.func 161) #[] #[ptr b1]]) (JT (t:=λx y _=>Og op x y) hK (Fp hop) Xa jF hlv (a,b,0) hq hT) ?_);intro w H hD;obtain⟨x,e,rfl⟩:=hD.two;exact Ext.mk rfl (Ext.mk rfl (aQ.mk .tail hD))
theorem jt(hK:cZ kp K S ord ah tr C){op a b:Nat}(hop:op<16)(ha:live K.N a)(hb:live K.N b)(hB:∀s,K.hold s+2^K.n<=65535):
  Fc zQ 127 #[ptr kp,.int .u8 (op:Int),u32 a,u32 b] C (si kp K S ord ah tr (λx=>Og op (S a x) (S b x))):=
 (qP hK hop ha hb).mono λ_ _ h=>h.small (pC hB)
theorem si.two{f:aE.Fn}{w:zV}{H:Hp}(h:si kp K S ord ah tr f w H):∃x e,w=.tuple #[x,e]:=by
 rcases h with⟨x,K',S',rfl,_⟩|⟨rfl,_⟩
 ·exact⟨_,_,rfl⟩
 exact⟨_,_,rfl⟩
theorem MI(hK:cZ kp K S ord ah tr C){a:Nat}(ha:live K.N a):
  Fc zQ 101 #[ptr kp,u32 a] C (nN kp K S ord ah tr (λx=> !S a x)):=by
 refine aK λg=>Iv (aa.fq (args:=#[ptr kp,.int .u8 ((3:Nat):Int),u32 a,u32 0]) (qP hK (op:=3) zD ha (.inl zO)) ?_);intro w H hD;have e:(λx=>Og 3 (S a x) (S 0 x))=λx=> !S a x:=by
  funext x
  rw[hK.ok.mid.int.zero];cases S a x<;>rfl
 rw[e]at hD;obtain⟨x,e,rfl⟩:=hD.two;exact Ext.mk rfl (Ext.mk rfl (aQ.mk (.refl _) hD))
theorem VV(hK:cZ kp K S ord ah tr C){a:Nat}(ha:live K.N a)(hB:∀s,K.hold s+2^K.n<=65535):
  Fc zQ 101 #[ptr kp,u32 a] C (si kp K S ord ah tr (λx=> !S a x)):=
 (MI hK ha).mono λ_ _ h=>h.small (pC hB)
theorem aaF{α:Type}(w a:α)(L R:List α):(w::(L++(a::R))).Perm (a::([]++w::(L++R))):=by
 classical
 rw[xcV];intro x;simp only[xbv,xcR,xdT];omega
theorem MK(hK:cZ kp K S ord ah tr C){a b c:Nat}(ha:live K.N a)(hb:live K.N b)(hc:live K.N c):
  Fc zQ 128 #[ptr kp,u32 a,u32 b,u32 c] C (nN kp K S ord ah tr (λx=>if S a x then S b x else S c x)):=by
 refine aK λg=>H7 (ak.aaZ (e:=82) (x:=(a:Int)) (y:=(b:Int)) (z:=(c:Int)) zK zK zK λbs=>?_);have hq:∀r∈l3 (a,b,c),live K.N r:=λr hr=>by
  simp only[l3,xag,xaw,xa1]at hr;rcases hr with rfl|rfl|rfl
  ·exact ha
  ·exact hb
  exact hc
 refine aa.fq (args:=#[ptr kp,.slice (some ⟨bs,0,none⟩) 3 3]) (C:=[(bs,Obj.cells (aA .u32 [(a:Int),(b:Int),(c:Int)]) 82 zZ)]++C) (y6 hK (refs:=l3 (a,b,c)) ((aR.made (T:=82) (kd:=.u32) (b:=bs) (iw (l3 (a,b,c)))).ints) hq (by show 3<=1048576;omega)) ?_;rintro w H ⟨bw,vl,CL,lvl,rfl,rfl,Xa,jF,hlv⟩;refine Ext.mk rfl (Ext.mk rfl (ae.fX (Br.F (Build.three (e:=82) (q:=.u32) (x:=(a:Int)) (y:=(b:Int)) (z:=(c:Int)) zK zK zK ?_))));obtain⟨k,hT⟩:=Dp hK hq;refine aa.pre (H':=(bs,Obj.cells (aA .u32 [(a:Int),(b:Int),(c:Int)]) 82 zZ)::([]++fN bw kp vl (.slice none 0 0)::(CL++C))) (.perm (aaF _ _ _ _)) (aa.fq (args:=#[ptr bw,kq (a,b,c),.func (.func 163) #[] #[]]) (JT (t:=λx y z=>if x then y else z) hK EI Xa jF hlv (a,b,c) hq hT) ?_);intro w H hD;obtain⟨x,e,rfl⟩:=hD.two;exact Ext.mk rfl (Ext.mk rfl (aQ.mk .tail hD))
theorem VY(hK:cZ kp K S ord ah tr C){a b c:Nat}(ha:live K.N a)(hb:live K.N b)(hc:live K.N c)(hB:∀s,K.hold s+2^K.n<=65535):
  Fc zQ 128 #[ptr kp,u32 a,u32 b,u32 c] C (si kp K S ord ah tr (λx=>if S a x then S b x else S c x)):=
 (MK hK ha hb hc).mono λ_ _ h=>h.small (pC hB)
theorem tc.grow(hK:cZ kp K S ord ah tr C){K':Kd}{S':Nat->aE.Fn}{f:aE.Fn}{r:Nat}{C':Hp}{jx:zL}(h:tc K S K' S' f r)(jX:cZ kp K' S' ord ah jx C')(hl:r<2\/2<=r):SR K S K' S' f r:=
 ⟨h.n,h.cap,h.N,h.fn,by
  by_cases h2:r<2
  ·exact .inl h2
  refine .inr (jX.ok.mid.held r ?_);rw[h.hold,xae ⟨rfl,by omega⟩];omega,h.is,λs=>by rw[h.hold];split<;>omega⟩
theorem MG(hK:cZ kp K S ord ah tr C){v:Nat}(hv:v<K.n):
  Fc zQ 126 #[ptr kp,iv (v:Int)] C (nN kp K S ord ah tr (λx=>x.testBit v)):=by
 refine aK λg=>Ia (ae.aJ (Br.no ?_));have hint:=hK.ok.mid.int;have hL:=hK.ok.lv;have tC:=hK.od;have h0:live K.N 0:=.inl zO;have h1:live K.N 1:=.inl zO;have d0:dep K.n (lv ah) K.N 0=K.n:=br (hK.ok.wf.const zO);have d1:dep K.n (lv ah) K.N 1=K.n:=br (hK.ok.wf.const zO);have hl:=hL.lt v hv;have eI:ite S ⟨v,0,1⟩=λx=>x.testBit v:=by
  funext x
  unfold aE.ite;simp only[hint.zero,hint.one];cases x.testBit v<;>rfl
 refine aa.fq (args:=#[ptr kp,iv (v:Int),u32 0,u32 1]) (Je hK hv h0 h1 (.inr ⟨by rw[d0];exact hl,by rw[d1];exact hl⟩)) ?_;rintro w C' (⟨r,K',S',rfl,jX,mk⟩|⟨r,rfl,rfl,_,Tf,hfull,Ow⟩|⟨rfl,rfl,hcap,hne,hT⟩)
 ·rw[eI]at mk;exact Ext.mk rfl (Ext.mk rfl (aQ.mk (.refl _) (.inl (.inl ⟨r,K',S',rfl,jX,mk.grow hK jX zO⟩))))
 ·exact Ext.mk rfl (Ext.mk rfl (aQ.mk (.refl _) (.inr ⟨rfl,⟨K,S,tr,hK,.inr rfl,.refl K S⟩,r,Tf,hfull,by rw[Ow,eI]⟩)))
 refine Ext.mk rfl (Ext.mk rfl (aQ.mk (.refl _) (.inl (.inr ⟨rfl,⟨K,S,tr,hK,.inr rfl,.refl K S⟩,?_⟩))));rintro⟨ku,U4,hfit⟩;have hov:=tC.of hL hv;have QL:∀j,j<lv ah v->¬fm (λx:Nat=>x.testBit v) (ord.getD j 0):=by
  rintro j hj ⟨x,hx⟩;apply hx;have Ta:j<K.n:=by omega
  obtain⟨o1,o2⟩:=tC.at' j Ta;show Nat.testBit _ v=Nat.testBit _ v;rw[an.aj,an.aj,xac (λh=>by rw[h]at hj;omega),xac (λh=>by rw[h]at hj;omega)]
 have hh:fm (λx:Nat=>x.testBit v) (ord.getD (lv ah v) 0):=by
  rw[hov];exact⟨0,by show Nat.testBit _ v≠Nat.testBit _ v;rw[an.aj,an.aj,xae rfl,xae rfl];decide⟩
 have:=hK.ok.roomFor tC U4 hfit (λg hg=>eu (λg h=>.inl h) hg) (d:=⟨v,0,1⟩) h0 h1 (show(0:Nat)≠1 by omega) hv ⟨by rw[d0];exact hl,by rw[d1];exact hl⟩ (eu (λg h=>.inr h) (by rw[eI];exact xQ QL hl hh)) hT;omega
theorem VQ(hK:cZ kp K S ord ah tr C){v:Nat}(hv:v<K.n)(hB:∀s,K.hold s<65535):
  Fc zQ 126 #[ptr kp,iv (v:Int)] C (si kp K S ord ah tr (λx=>x.testBit v)):=
 (MG hK hv).mono λ_ _ h=>h.small hB
end
end Go.Proofs
namespace aE
open an
section
variable {t:Bool->Bool->Bool} {v u:Nat} {f:Fn}
theorem ri{x v:Nat}{b c:Bool}:aD (aD x v b) v c=aD x v c:=by
 apply xaY;intro k;rw[aj,aj,aj];split<;>rfl
end
section
variable {N:eA} {S:Nat->Fn} {n:Nat} {ah:Nat->Nat}
theorem JG{r:Nat}{d:Nd}(e:N r=some d):iB N d.v false r=d.lo/\iB N d.v true r=d.hi:=by
 unfold iB;rw[e];simp
end
end aE
set_option maxRecDepth 100000
namespace Go.Proofs
open Go Go.Sx Tryz
section
open aE
section
variable {kp:Nat} {K:Kd} {ord ah tr:zL} {C:Hp} {S:Nat->aE.Fn}
theorem yu(h:cS kp K ord ah tr C)(v:Int):Rd zQ 140 #[ptr kp,iv v] C (· =if 0<=v/\v<K.n then .tuple #[iv ((ah.getD v.toNat 0:Nat):Int),iv 0]else .tuple #[iv 0,iv 2]):=by
 have h0:=h;obtain⟨b,rfl,hO⟩:=h;refine aK λg=>wI (ae.aJ (Br.no (aa.eq (tN h0 v) (Un.not ?_))));by_cases AS:0<=v/\v<K.n
 ·rw[xav AS,xae AS];refine Br.no (Nil.ptr (Ld.f ?_));have hlen:=hO.ol.2;obtain⟨n,rfl⟩:∃n:Nat,v=n:=⟨v.toNat,by omega⟩;exact hO.lv.ld (x:=((ah.getD n 0:Nat):Int)) (bW zO) (bB.sub (.cons (.app (.app (.app (.app (.app .left))))))) (bE.mk (.refl _) rfl)
 rw[xaq AS,xac AS];exact Br.yes (bE.mk (.refl _) rfl)
end
end
section
open aE
section
variable {kp:Nat} {K:Kd} {S:Nat->aE.Fn} {ord ah tr:zL} {C:Hp}
theorem zW{n v:Nat}(hv:v<n):2^v<2^n:=xcy zD hv
end
theorem Fits.mono{A B:aE.Fn->Prop}{cap:Nat}(h:∀g,A g->B g)(hB:Fits B cap):Fits A cap:=by
 classical
 obtain⟨ku,⟨l,h1,h2,h3⟩,hc⟩:=hB;refine⟨(l.filter λg=>decide (A g)).length,⟨l.filter λg=>decide (A g),h1.filter _,rfl,λg=>?_⟩,?_⟩
 ·rw[xcP,xaQ,<-h3];exact⟨λx=>⟨h g x,x⟩,λx=>x.2⟩
 have:=xbW (λg=>decide (A g)) l;omega
end
section
theorem A3{n:Nat}(hn:n<=16)(B:Hp):Rd zQ 93 #[iv (n:Int)] B (· =iv ((an.wN n:Nat):Int)):=by
 refine aK λg=>MR ?_;have h1:1<<<n<=65536:=by rw[xbh];exact xax (n:=2) zD hn
 refine ae.Eb (a:=1) (b:=n) (by simp[IntKind.bits];omega) (by simp[aU];omega) (ae.gk (b:=6) (by simp[aU];omega) (⟨_,_,_,rfl,rfl,?_⟩));refine bE.mk (.refl _) ?_;have:1<<<n>>>6=2^n/64:=by rw[xbh,xaR]
 rw[this];congr 1;unfold an.wN;rw[Nat.max_def];split<;>split<;>omega
theorem Ju{n:Nat}(hn:n<=16)(B:Hp):Rd zQ 94 #[iv (n:Int)] B (· =.int .u64 ((an.dz n:Nat):Int)):=by
 refine aK λg=>MQ (ae.mh (a:=n) (b:=6) (Br.dec (λh=>?_) (λh=>?_)))
 ·exact bE.mk (.refl _) (by unfold an.dz;rw[xae h];rfl)
 have h1:2^n<=32:=xax (n:=2) zD (by omega:n<=5);have h2:2^2^n<=2^32:=xax zD h1;have h3:=xbJ (2^n);refine ae.tj (a:=1) (b:=n) ?_;rw[xbh,xa3 zO];refine ae.tj (a:=1) ?_;rw[xbh,xa3 zO];exact ae.cf (b:=1) (bE.mk (.refl _) (by unfold an.dz;rw[xac h]))
theorem Lx{n:Nat}{ws:zL}(hn:n<=16)(hl:ws.length=an.wN n)(hw:∀w∈ws,w<18446744073709551616){w:Nat}(hg:ws[ws.length-1]? =some w):
  (nF w (an.dz n)=0)↔an.dG n ws:=by
 have key:∀w,w<18446744073709551616->(nF w (an.dz n)=0↔w<=an.dz n):=by
  intro w hw;constructor
  ·intro h;have:w&&&an.dz n=w:=by
    apply xaY;intro j;have:=xb2 (λx=>x.testBit j) h;simp only[dS,xcX]at this;rw[xa6];cases h1:w.testBit j<;>cases h2:(an.dz n).testBit j<;>simp_all
   rw[<-this];exact xb3
  intro h;have:=an.vU h;unfold nF;rw[this,Nat.xor_self]
 constructor
 ·intro h;refine⟨hn,hl,λu hu=>?_⟩;by_cases h6:6<=n
  ·unfold an.dz;rw[xae h6];have:=hw u hu;omega
  have h1:ws.length=1:=by rw[hl,an.IC zO]
  obtain⟨x,rfl⟩:=List.length_eq_one_iff.1 h1;simp at hg hu;subst hg;subst hu;exact(key _ (hw _ zI)).1 h
 intro h;exact(key w (hw w (xaz hg))).2 (h.full w (xaz hg))
theorem Cz{B:Hp}{v:zV}{t:Tb}(ht:DT B v t):Rd zQ 45 #[v] B (· =.bool (decide (TF t))):=by
 obtain⟨tn,ws⟩:=t;obtain⟨s,rfl,hs,hw⟩:=ht;simp only at hs hw⊢;refine aK λg=>Ny λb1 _ J hJ=>?_;have hno:¬TF ⟨tn,ws⟩->JE J [.bool true] ((b1,.cells (Value.cells (.agg #[iv tn,s])) 37 zZ)::B):=λh=>
  JE.mk (hJ _ _ λgs=>Br.yes (bE.mk .tail (by rw[xaq h])))
 refine DR.self ?_;refine ag.mk (Ld.mk zM rfl ?_);refine ae.lss (Br.dec (λh0=>hno λh=>by have:=h.1;simp only at this;omega) (λh0=>?_));obtain⟨n,rfl⟩:∃n:Nat,tn=n:=⟨tn.toNat,by omega⟩;have hTF:TF ⟨(n:Int),ws⟩↔an.dG n ws:=by unfold TF;simp
 refine ag.mk (Ld.mk zM rfl ?_);refine ae.iF (b:=16) (aS.mk (Br.dec (λh1=>hno λh=>by have:=(hTF.1 h).tw;omega) (λh1=>?_)));refine ag.mk (Ld.mk zM rfl ?_);refine hs.bF ?_;refine ag.mk (Ld.mk zM rfl ?_);intro F;refine aa.eq (A3 zO B) (⟨(by repeat (first|exact aI.refl _|apply aI.cons|apply aI.skip|apply aI.cT|apply aI.bY)),?_⟩);rw[aq];refine ae.mF (aS.mk ?_);simp only[xaj];by_cases hl:ws.length=an.wN n
 case neg=>rw[show decide (ws.length≠an.wN n)=true by simp[hl]];exact hno λh=>hl (hTF.1 h).len
 rw[show decide (ws.length≠an.wN n)=false by simp[hl]];refine JE.mk (hJ _ _ λgs=>Br.no ?_);have hpos:=an.Xu n;obtain⟨w,hg⟩:∃w,ws[ws.length-1]? =some w:=⟨_,xab zO⟩;refine DR.self ?_;refine ag.mk (Ld.mk zM rfl ?_);refine ag.mk (Ld.mk zM rfl ?_);refine hs.bF ?_;rw[aq];refine ae.ir (b:=1) (by have:=an.xF (n:=n) zO;simp[aU];omega) zO (hs.ld (cI hg) zS ?_);refine ag.mk (Ld.mk zM rfl ?_);refine aa.eq (Ju zO B) (⟨(by repeat (first|exact aI.refl _|apply aI.cons|apply aI.skip|apply aI.cT|apply aI.bY)),?_⟩);refine ae.JU (by have:=hw w (xaz hg);simpa[aU]using this) (by have:=an.qy n;simpa[aU]using this) (ae.bu (b:=0) (bE.mk .tail ?_));congr 1;exact xdl.2 ((Lx zO hl hw hg).trans hTF.symm)
theorem vB{B:Hp}{v:zV}{ts:List Tb}(ht:iC B v ts)(cL:ts.length<2^62):Rd zQ 25 #[v] B (· =.bool (decide (∀t∈ts,TF t/\some t.n=ts.head?.map Tb.n))):=by
 refine aK λg=>NU (ht.bF ?_);refine⟨λvs H=>bH B H/\∃k:Nat,vs=[iv (k:Int)]/\k<=ts.length/\∀i t,i<k->ts[i]? =some t->TF t/\some t.n=ts.head?.map Tb.n,λvs _=>ts.length-bj vs 0,JE.mk ⟨.refl _,0,rfl,by omega,by omega⟩,?_⟩;rintro w H ⟨hg,k,⟨⟩,hk,aF⟩ gs;refine ae.cU (Br.dec (λhlt=>?_) (λhlt=>?_))
 ·obtain⟨t,kR⟩:∃t,ts[k]? =some t:=⟨_,xab hlt⟩;obtain⟨t0,UU⟩:∃t,ts[0]? =some t:=⟨_,xab zO⟩;have hh:ts.head?.map Tb.n=some t0.n:=by rw[List.head?_eq_getElem?,UU];rfl
  have htB:=ht.mono hg.sub;refine htB.ld kR (λ_ h=>h) λs hs=>?_;intro b1 _;refine St.p ?_ ?_
  ·obtain⟨a,c,rfl,_⟩:=hs.1.shape;simp[Value.oneCell']
  intro J hJ;have hno:∀H',bH B H'->¬(TF t/\some t.n=ts.head?.map Tb.n)->JE J [.bool true] H':=λH' WV h=>
   JE.mk (hJ _ _ λgs=>Br.yes (bE.mk WV.dV (by rw[xaq];exact λhh=>h (hh t (xaz kR)))))
  have WU:bH B ((b1,Obj.cells (List.toArray [iv t.n,s]) 37 zZ)::H):=.cons hg;refine DR.self (au.q ?_);intro F;refine aa.eq (B:=H) (Cz ⟨s,rfl,hs⟩) (⟨.refl _,Un.not ?_⟩);by_cases hT:TF t
  case neg=>rw[xaq hT];exact Br.yes (hno _ WU λh=>hT h.1)
  rw[xav hT];apply Br.no;refine ag.mk (Ld.mk zM rfl ?_);refine htB.ldN UU zS ?_;refine ae.fX (aS.mk ?_);simp only[xaj];by_cases hn:t.n=t0.n
  case neg=>rw[xav hn];exact hno _ WU λh=>hn (by have:=h.2;rw[hh]at this;simpa using this)
  rw[xaq (by simpa using hn)];refine JE.mk (hJ _ _ λgs=>Br.no ?_);refine ae.inc (az.mk ⟨WU,k+1,rfl,by omega,λi u hi hu=>?_⟩ (by simp[bj];omega));by_cases e:i=k
  ·subst e;rw[kR]at hu;cases hu;exact⟨hT,by rw[hh,hn]⟩
  exact aF i u zO hu
 refine bE.mk hg.dV ?_;rw[xav];intro t htm;obtain⟨i,hi,rfl⟩:=xbq.1 htm;exact aF i _ zO (xab hi)
theorem lZ{B:Hp}{b:Nat}{t:Tb}{s:zV}{T:TypeId}{fz:Nat×Nat}(hm:(b,Obj.cells #[iv t.n,s] T fz)∈B)(hw:Words B s t.ws):
  Rd zQ 25 #[.slice (some ⟨b,0,none⟩) 1 1] B (· =.bool (decide (TF t))):=
 (vB (iC.one (cap:=0) hm hw) zI).mono λv H ⟨h1,h2⟩=>⟨h1,by rw[h2];congr 1;simp⟩
theorem aaK{B:Hp}{v:zV}{t:Tb}(ht:DT B v t)(u:Int):Rd zQ 330 #[v,iv u] B (· =iv (if TF t then(if 0<=u/\u<t.n then 0 else 2)else 5)):=by
 obtain⟨s,rfl,hw⟩:=ht;refine aK λg=>FB λb1 _=>?_;refine au.q ?_;refine nD λb2=>?_;refine aa.rd .here (lZ (by exact List.Mem.head _) (hw.mono zS)) ?_;rintro v rfl;apply Un.not;by_cases hT:TF t
 ·rw[xav hT,xae hT];refine Br.no (ae.lss (cr.or (decide (t.n<=u)) (λh=>?_) rfl ?_))
  ·refine ag.mk (Ld.mk zM rfl ?_);exact ae.geq ⟨rfl,rfl⟩
  intro gs;have hor:(decide (u<0)||decide (t.n<=u))=decide (¬(0<=u/\u<t.n)):=by
   by_cases h1:u<0<;>by_cases h2:t.n<=u<;>simp[h1,h2]<;>omega
  rw[hor];refine Br.dec (λh=>?_) (λh=>?_)
  ·exact bE.mk (by repeat (first|exact aI.refl _|apply aI.cons|apply aI.skip|apply aI.cT|apply aI.bY)) (by rw[xac h])
  exact bE.mk (by repeat (first|exact aI.refl _|apply aI.cons|apply aI.skip|apply aI.cT|apply aI.bY)) (by rw[xae (xes.1 h)])
 rw[xaq hT,xac hT];exact Br.yes (bE.mk (by repeat (first|exact aI.refl _|apply aI.cons|apply aI.skip|apply aI.cT|apply aI.bY)) rfl)
theorem yU{u i:Nat}(hu:u<64)(hi:i<18446744073709551616)(Jm:i<9223372036854775808)(B:Hp):Rd zQ 89 #[iv (u:Int),iv (i:Int)] B
  (· =.int .u64 ((if 6<=u then(if(i>>>(u-6)).testBit 0 then 18446744073709551615 else 0)else an.mask u:Nat):Int)):=by
 refine aK λg=>MV (ae.mh (a:=u) (b:=6) (Br.dec (λh=>?_) (λh=>?_)))
 ·refine aM.nat (by simpa[aU]using hi) (ae.ir (b:=6) (by simp[aU];omega) h (ae.gk (by simpa[aU]using hi) ?_));have hs:i>>>(u-6)<18446744073709551616:=xaL (xbM _ _) hi;refine ae.fY (b:=1) (by simpa[aU]using hs) zD (Un.aei (by rw[an.eR];split<;>decide) ?_);refine bE.mk (.refl _) ?_;rw[xae h,an.eR];split<;>rfl
 refine⟨λvs H=>H=B/\∃j:Nat,vs=[.int .u64 ((an.Aw u j:Nat):Int),iv (j:Int)]/\j<=64,λvs _=>64-bj vs 1,JE.mk ⟨rfl,0,rfl,by omega⟩,?_⟩;rintro w1 w2 H ⟨rfl,j,⟨⟩,hj⟩ gs;refine ae.cU (b:=64) (Br.dec (λhlt=>?_) (λhlt=>?_))
 ·refine ae.gk (by simp[aU];omega) ?_;have hs:j>>>u<64:=xaL (xbM _ _) hlt;refine ae.fY (b:=1) (by simp[aU];omega) zD ?_;have h1:j>>>u&&&1<=1:=by rw[an.eR];split<;>decide
  refine aM.q (ae.tj ?_);have h2:((j>>>u&&&1)<<<j)<18446744073709551616:=by
   rw[xdk]
   calc _<=1*2^j:=xa8 _ h1
    _<2^64:=by rw[xdE];exact xcy zD hlt
  rw[xa3 h2];have h3:an.Aw u j<18446744073709551616:=xa0 (an.Av u j) (xax (n:=2) zD hj);exact ae.Of (by simpa[aU]using h3) (by simpa[aU]using h2) (ae.inc (az.mk ⟨rfl,j+1,rfl,by omega⟩ (by simp[bj];omega)))
 have:j=64:=by omega
 subst this;exact bE.mk (.refl _) (by rw[xac h];rfl)
theorem nW{n:Nat}(hn:n<=16){fv:zV}{f:FuncId}{first cap:Array zV}(Va:fv=.func (.func f) first cap)(jT:bQ zQ f=true){F:Nat->Nat}(hF:∀i,i<an.wN n->F i<18446744073709551616){B:Hp}
 (hc:∀i:Nat,i<an.wN n->Rd zQ f (first++ #[iv (i:Int)]++cap) B (· =.int .u64 ((F i:Nat):Int))):
  Px zQ 86 #[iv (n:Int),fv] B (λv H=>DT H v ⟨n,(List.range (an.wN n)).map λi=>F i&&&an.dz n⟩):=by
 intro g;have EL:=an.xF hn;refine MY (R:=aQ _) ?_;unfold L86;intro b1 _;refine aa.eq (A3 hn B) (dj.ints (jV hn).1 (jV hn).2 λbw=>?_);refine Build.mk (cs:=[iv (n:Int),.slice (some ⟨bw,0,none⟩) (an.wN n) (an.wN n)]) zK λb8 _=>?_;refine St.q ?_;refine ag.mk (Ld.mk zM rfl ?_);refine aG.mk ?_;rw[range_zero (G:=λi=>F i&&&an.dz n)];refine⟨λvs H=>∃i:Nat,vs=[iv (i:Int)]/\i<=an.wN n/\H=(b8,.cells (List.toArray [iv (n:Int),.slice (some ⟨bw,0,none⟩) (an.wN n) (an.wN n)]) 37 zZ)::
   (bw,.cells (aA .u64 (iw ((List.range (an.wN n)).map λk=>if k<i then F k&&&an.dz n else 0))) 40 zZ)::(b1,.cells #[iv 0,.slice none 0 0] 37 zZ)::B,
  λvs _=>an.wN n-bj vs 0,JE.mk ⟨0,rfl,by omega,rfl⟩,?_⟩
 rintro w H ⟨i,⟨⟩,hi,rfl⟩ gs;refine ae.cU (Br.dec (λhlt=>?_) (λhlt=>?_))
 ·refine DR.self ?_;refine ag.mk (Ld.mk zM rfl ?_);refine bG.of Va jT ?_;refine aa.eq (hc i hlt) (⟨.refl _,?_⟩);refine aa.eq (Ju hn B) (⟨.refl _,?_⟩);refine ae.fY (by simpa[aU]using hF i hlt) (by simpa[aU]using an.qy n) (ai.nat hlt ?_);refine St.ints (l:=iw _) (by exact .tail (.head _)) (by simpa using hlt) ?_;refine ae.inc ?_;rw[K9 hlt];exact az.mk ⟨i+1,rfl,by omega,rfl⟩ (by simp[bj];omega)
 have:i=an.wN n:=by omega
 subst this;rw[Ek];refine au.q ?_;refine St.q ?_;refine au.q ?_;refine AJ.mk (by repeat (first|exact bH.refl _|apply bH.cons|apply bH.app)) ⟨_,rfl,?_⟩;have:=Words.block (b:=bw) (cap:=an.wN n) (ws:=(List.range (an.wN n)).map λi=>F i&&&an.dz n) (T:=40) (fz:=(0,0)) (B:=(b8,.cells (List.toArray [iv (n:Int),.slice (some ⟨bw,0,none⟩) (an.wN n) (an.wN n)]) 37 zZ)::
  (bw,.cells (aA .u64 (iw ((List.range (an.wN n)).map λi=>F i&&&an.dz n))) 40 zZ)::(b1,.cells (List.toArray [iv (n:Int),.slice (some ⟨bw,0,none⟩) (an.wN n) (an.wN n)]) 37 zZ)::B) (by exact .tail _ (.head _)) zI (λw hw=>by
   obtain⟨k,_,rfl⟩:=xam.1 hw;exact xaL xb3 (an.qy n))
 simpa using this
theorem Rb{B:Hp}{pv pb pa s:zV}{u n i:Nat}{c:Bool}{ws:zL}(hv:Go.Sx.At B pv [iv (u:Int)])(hb:Go.Sx.At B pb [.bool c])(ha:Go.Sx.At B pa [iv (n:Int),s])(hw:Words B s ws)(hf:an.dG n ws)(hu:u<n)(hi:i<an.wN n):
  Rd zQ 322 #[iv (i:Int),pv,pb,pa] B (· =.int .u64 ((an.qw ws u c i:Nat):Int)):=by
 intro g;have hn:=hf.tw;have EL:=an.xF hn;refine FG (R:=aQ _) ?_;unfold L322;refine Ld.at hv (λ_ h=>h) ?_;refine ae.mh (a:=u) (b:=6) (Br.dec (λh6=>?_) (λh6=>?_))
 ·have hp:2^(u-6)<=1024:=xax (n:=2) zD (by omega:u-6<=10);refine Ld.at hv (λ_ h=>h) ?_;refine ae.ir (b:=6) (by simp[aU];omega) h6 (ae.Eb (a:=1) (by simp[IntKind.bits];omega) (by rw[xbh];simp[aU];omega) ?_);rw[xbh];refine ae.JU (by simp[aU];omega) (by simp[aU];omega) ?_;have hand:=n7 i (2^(u-6));intro J hJ;have LJ:an.aD i (u-6) c<an.wN n:=by
   rw[an.ID zO]at hi⊢;exact an.fA hi zO
  have gG:JE J [iv ((an.aD i (u-6) c:Nat):Int)] B:=by
   refine JE.mk (hJ _ _ λgs=>?_);refine ag.at ha λq hq=>Ld.at hq (λ_ h=>h) ?_;have hg:ws[an.aD i (u-6) c]? =some (ws.getD (an.aD i (u-6) c) 0):=by rw[xab (by rw[hf.len];exact LJ),xap,xab (by rw[hf.len];exact LJ)];rfl
   refine hw.1.ld (cI hg) (λ_ h=>h) ?_;exact bE.mk (.refl _) (by unfold an.qw;rw[xae h6])
  refine Ld.at hb (λ_ h=>h) ?_;cases c
  ·exact Br.no gG
  refine Br.yes (Ld.at hv (λ_ h=>h) ?_);refine ae.ir (b:=6) (by simp[aU];omega) h6 (ae.Eb (a:=1) (by simp[IntKind.bits];omega) (by rw[xbh];simp[aU];omega) ?_);rw[xbh];refine ae.Of (by simp[aU];omega) (by simp[aU];omega) ?_;have e:nF i (2^(u-6))|||2^(u-6)=an.aD i (u-6) true:=by
   apply xaY;intro k;rw[xcx,dS,an.aj,xdG];by_cases e:k=u-6
   ·simp[e]
   simp[e,xbp e]
  rw[e];exact gG
 have hp:2^u<=32:=xax (n:=2) zD (by omega:u<=5);have hg:ws[i]? =some (ws.getD i 0):=by rw[xab (by rw[hf.len];exact hi),xap,xab (by rw[hf.len];exact hi)];rfl
 have hwi:=hw.2 _ (xaz hg);have hm:=an.zW u;refine DR.self (Ld.at hv (λ_ h=>h) (Ld.at hv (λ_ h=>h) ?_));refine ae.Eb (a:=1) (b:=u) (by simp[IntKind.bits];omega) (by rw[xbh];simp[aU];omega) ?_;rw[xbh];refine aa.eq (yU (u:=u) (i:=0) zO zO zO B) ?_;rw[xac h6];refine⟨.refl _,?_⟩;refine Ld.at hb (λ_ h=>h) ?_;cases c
 ·refine Br.no (ag.at ha λq hq=>Ld.at hq (λ_ h=>h) ?_);refine hw.1.ld (cI hg) (λ_ h=>h) ?_;refine ae.JU (by simpa[aU]using hwi) (by simpa[aU]using hm) (ae.tj ?_);have:=n7 (ws.getD i 0) (an.mask u);exact ae.Of (by simp only[aU];omega) (by simp only[aU];omega) (bE.mk (.refl _) (by unfold an.qw;rw[xac h6];rfl))
 refine Br.yes (ag.at ha λq hq=>Ld.at hq (λ_ h=>h) ?_);refine hw.1.ld (cI hg) (λ_ h=>h) ?_;refine ae.fY (by simpa[aU]using hwi) (by simpa[aU]using hm) ?_;have h1:ws.getD i 0&&&an.mask u<=ws.getD i 0:=xcd;refine ae.gk (by simp only[aU];omega) ?_;have h2:=xbM (ws.getD i 0&&&an.mask u) (2^u);exact ae.Of (by simp only[aU];omega) (by simp only[aU];omega) (bE.mk (.refl _) (by unfold an.qw;rw[xac h6];rfl))
theorem Aj{B:Hp}{v:zV}{n u:Nat}{ws:zL}{c:Bool}(ht:DT B v ⟨n,ws⟩)(hf:an.dG n ws)(hu:u<n):
  Px zQ 310 #[v,iv (u:Int),.bool c] B (λv H=>DT H v ⟨n,an.gf n ws u c⟩):=by
 obtain⟨s,rfl,hw⟩:=ht;refine aK λg=>FJ λb1 _ b3 _ b5 _ b7 _=>?_;refine ag.mk (Ld.mk zM rfl ?_);refine aa.px (.cons .here) (nW hf.tw rfl zK (F:=λi=>an.qw ws u c i) (λi hi=>?_) (λi hi=>?_)) ?_
 ·unfold an.qw;split
  ·by_cases h:an.aD i (u-6) c<ws.length
   ·rw[xap,xab h];exact hf.lt (xaD h)
   rw[xap,xaH zO];decide
  have hg:ws.getD i 0<2^64:=by rw[xap,xab (by rw[hf.len];exact hi)];exact hf.lt (xaD _)
  split
  ·refine xb8 (n:=64) (xaL xcd hg) (xaL (xbM _ _) (xaL xcd hg))
  exact xb8 (n:=64) (xaL (n7 _ _) hg) (xbu _ zD)
 ·exact Rb (Go.Sx.At.block (l:=[iv (u:Int)]) zM) (Go.Sx.At.block (l:=[.bool c]) zM) (Go.Sx.At.block (l:=[iv (n:Int),s]) zM) (hw.mono zS) hf hu hi
 rintro v N ⟨s',rfl,hw'⟩;refine St.p ?_ ?_
 ·have:=bC hw';simpa[Value.oneCell']using this
 refine au.q ?_;exact AJ.mk (by repeat (first|exact bH.refl _|apply bH.cons|apply bH.app)) ⟨s',rfl,hw'.mono zS⟩
theorem IK{B:Hp}{v:zV}{n u:Nat}{ws:zL}{c:Bool}(ht:DT B v ⟨n,ws⟩)(hf:an.dG n ws)(hu:u<n):
  Px zQ 324 #[v,iv (u:Int),.bool c] B (λr H=>∃v',r=.tuple #[v',iv 0]/\DT H v' ⟨n,an.gf n ws u c⟩):=by
 obtain⟨s,rfl,hw⟩:=ht;refine aK λg=>FD λb1 _ b3 _=>?_;refine au.q ?_;refine aa.eq (aaK (t:=⟨n,ws⟩) ⟨s,rfl,hw.mono zS⟩ (u:Int)) ?_;rw[xae (show TF ⟨(n:Int),ws⟩from⟨by simp,by simpa using hf⟩),xae ⟨by omega,by simp only;omega⟩];refine ae.fX (Br.F (au.q ?_));refine aa.pq (Aj (v:=.agg (List.toArray [iv (n:Int),s])) ⟨s,rfl,hw.mono zS⟩ hf hu) ?_;rintro v N ⟨s',rfl,hw'⟩;refine St.p ?_ ?_
 ·have:=bC hw';simpa[Value.oneCell']using this
 refine au.q ?_;exact AJ.mk (by repeat (first|exact bH.refl _|apply bH.cons|apply bH.app)) ⟨_,rfl,s',rfl,hw'.mono zS⟩
theorem Di{w j:Nat}(hj:j<8):((List.range (j+1)).map λi=>UInt8.ofNat (w>>>(8*i)))=((List.range j).map λi=>UInt8.ofNat (w>>>(8*i)))++[UInt8.ofNat (w>>>(8*j))]:=by
 rw[xcO,xaF];rfl
theorem MC(l:List UInt8)(n:Nat):dw (l++[UInt8.ofNat n])=dw l++[[Value.int .u8 ((n%256:Nat):Int)]]:=by
 simp[dw]
theorem EG{B:Hp}{v:zV}{t:Tb}(ht:DT B v t)(hl:t.ws.length<=4294967296):Rd zQ 325 #[v] B (· =ay (an.gF t.ws)):=by
 obtain⟨s,rfl,hw⟩:=ht;refine aK λg=>FC λb1 _=>?_;refine ag.mk (Ld.mk zM rfl ?_);refine hw.1.bF ?_;rw[aq];refine⟨λvs H=>∃(k:Nat) (v:zV) (C:Hp),vs=[v,iv (k:Int)]/\k<=t.ws.length/\H=C++B/\aO 5 1 v (dw (an.gF (t.ws.take k))) C,λvs _=>t.ws.length-bj vs 1,
  JE.of (.tail) ⟨0,_,[],rfl,by omega,rfl,aO.nil _ _⟩,?_⟩
 rintro w6 w7 H ⟨k,v,C,⟨⟩,hk,rfl,ho⟩ gs;refine ae.cU (Br.dec (λhlt=>?_) (λhlt=>?_))
 ·have hg:t.ws[k]? =some t.ws[k]:=xab hlt;have hwk:=hw.2 _ (xaD hlt);refine hw.1.ld (cI hg) zS ?_;have hlen:(dw (an.gF (t.ws.take k))).length=8*k:=by simp only[dw,xau,an.sK,xbs];omega
  refine⟨λvs H=>∃(j:Nat) (v:zV) (C:Hp),vs=[v,iv (j:Int)]/\j<=8/\H=C++B/\aO 5 1 v (dw (an.gF (t.ws.take k)++(List.range j).map λi=>UInt8.ofNat (t.ws[k]>>>(8*i)))) C,λvs _=>8-bj vs 1,
   JE.mk ⟨0,_,C,rfl,by omega,rfl,by simpa using ho⟩,?_⟩
  rintro w8 w9 H ⟨j,v,C,⟨⟩,hj,rfl,ho⟩ gs;refine ae.cU (b:=8) (Br.dec (λh8=>?_) (λh8=>?_))
  ·refine ae.wY (a:=8) (ae.gk (by simpa[aU]using hwk) (aM.age (ak.int (e:=5) zK zK zK λxb=>?_)));refine ho.Fu (A:=[_]) (r:=[Value.int .u8 (((t.ws[k]>>>(8*j))%256:Nat):Int)]) (by exact .head _) rfl (by simp[Value.oneCell']) ⟨[.int .u8 0],rfl,rfl⟩ (by simp only[dw,xau,xaf,xaC]at hlen⊢;omega) (by simp only[dw,xau,xaf,xaC]at hlen⊢;omega) λv' C' cB=>?_;refine ae.inc (az.of .tail ⟨j+1,_,C',rfl,by omega,rfl,?_⟩ (by simp[bj];omega));rw[Di h8,<-xai,MC];exact cB
  have:j=8:=by omega
  subst this;refine ae.inc (az.mk ⟨k+1,_,C,rfl,by omega,rfl,?_⟩ (by simp[bj];omega));rw[xbd hlt,an.gF,List.flatMap_append];simpa[an.gF,an.jV]using ho
 have:k=t.ws.length:=by omega
 subst this;rw[xbc]at ho;refine dZ.own ho (λ_ h=>xad _ h) ?_;exact bE.mk .right rfl
theorem Zc{B:Hp}{b n:Nat}{es:Array MapEntry}{ck:Nat}{m:List (List UInt8×zL)}{v:zV}{ws:zL}(hE:fW n B es ck m)(ht:DT B v ⟨n,ws⟩)(hf:an.dG n ws):
  Fc zQ 323 #[.map (some b),v] ((b,.map es ck)::B) (λ_ H=>∃es' cE N,H=(b,.map es' cE)::(N++B)/\fW n (N++B) es' cE (zk m ws)):=by
 obtain⟨s,rfl,hw⟩:=ht;refine aK λg=>FE λb1 _=>?_;refine DR.self (au.q ?_);refine au.q ?_;refine aa.eq (EG (t:=⟨n,ws⟩) ⟨s,rfl,hw⟩ (tS hf)) (⟨.refl _,?_⟩);refine hE.bV (b:=b) ⟨s,rfl,hw⟩ hf λes' cE Co=>⟨_,.tail (.head _),?_⟩;exact aQ.mk (gW:=(b,.map es' cE)::([]++B)) .tail ⟨es',cE,[],rfl,Co⟩
theorem Lg{B:Hp}{v:zV}{n:Nat}{ts:List Tb}{L:List (zL)}(ht:iC B v ts)(hL:ts=L.map λws=>⟨n,ws⟩)(hf:∀ws∈L,an.dG n ws)(cL:L.length<4611686018427387904):
  Fc zQ 311 #[v] B (λr H=>∃b es ck m N,r=.map (some b)/\H=(b,.map es ck)::(N++B)/\fW n (N++B) es ck m/\∀x,x∈m.map Prod.snd↔x∈L):=by
 have hlen:ts.length=L.length:=by rw[hL];simp
 refine aK λg=>FI λb _=>?_;refine ht.bF ?_;rw[hlen];refine⟨λvs H=>∃(k:Nat) (es:Array MapEntry) (ck:Nat) (m:List (List UInt8×zL)) (N:Hp),vs=[iv (k:Int)]/\k<=L.length/\H=(b,.map es ck)::(N++B)/\fW n (N++B) es ck m/\∀x,x∈m.map Prod.snd↔x∈L.take k,
  λvs _=>L.length-bj vs 0,JE.mk ⟨0,_,_,[],[],rfl,by omega,rfl,fW.empty _ _,by simp⟩,?_⟩
 rintro w H ⟨k,es,ck,m,N,⟨⟩,hk,rfl,hE,hm⟩ gs;refine ae.cU (Br.dec (λhlt=>?_) (λhlt=>?_))
 ·have hg:ts[k]? =some ⟨n,L[k]⟩:=by rw[hL,xas,xab hlt];rfl
  have oe:=hf L[k] (xaD hlt);refine ht.ld hg zS λs hw=>?_;intro b2 _;refine St.p ?_ ?_
  ·have:=bC hw;simpa[Value.oneCell']using this
  refine au.q ?_;refine aa.fq (Zc hE ⟨s,rfl,hw.mono zS⟩ oe) ?_;rintro r C' ⟨es',cE,N',rfl,Co⟩;refine ae.inc (az.of .tail ⟨k+1,es',cE,zk m L[k],N'++N,rfl,by omega,by rw[xai],by rw[xai];exact Co,λx=>?_⟩ (by simp[bj];omega));rw[q6 hE.2 oe,hm,xbd hlt,xao,xaK]
 have:k=L.length:=by omega
 subst this;rw[xbc]at hm;exact aQ.here ⟨b,es,ck,m,N,rfl,rfl,hE,hm⟩
theorem Cv{B:Hp}{bm n u:Nat}{es:Array MapEntry}{ck:Nat}{m:List (List UInt8×zL)}(hm:(bm,Obj.map es ck)∈B)(hE:fW n B es ck m)(hu:u<n)(cL:m.length<4611686018427387904):
  Fc zQ 312 #[.map (some bm),iv (u:Int)] B (λr H=>∃b' es' cE m' N,r=.tuple #[.map (some b'),iv ((an.nodes n (m.map Prod.snd) u).length:Int)]/\H=(b',.map es' cE)::(N++B)/\fW n (N++B) es' cE m'/\
   ∀x,x∈m'.map Prod.snd↔∃t∈m.map Prod.snd,∃c,x=an.gf n t u c):=by
 refine aK λg=>FH ?_;intro b' _;refine .inr ⟨bm,es,ck,rfl,.tail _ hm,λbi _=>?_⟩;refine⟨λvs H=>∃(es':Array MapEntry) (cE:Nat) (m':List (List UInt8×zL)) (seen:Array Nat) (N:Hp) (D:List (zL)),vs=[iv ((an.nodes n D u).length:Int)]/\
   H=(bi,.mapIter (some bm) ck seen ck)::(b',.map es' cE)::(N++B)/\fW n (N++B) es' cE m'/\(m.map Prod.snd).Perm (D++(dB es m seen).map Prod.snd)/\∀x,x∈m'.map Prod.snd↔∃t∈D,∃c,x=an.gf n t u c,
  λvs H=>match H with|(_,.mapIter _ _ seen _)::_=>(dB es m seen).length|_=>0,JE.mk ⟨_,_,[],_,[],[],rfl,rfl,fW.empty _ _,?_,by simp⟩,?_⟩
 ·rw[uh hE.1];simp
 rintro w H ⟨es',cE,m',seen,N,D,⟨⟩,rfl,Co,dF,hmem⟩ gs;have hbm:∀{X:Hp},(bm,Obj.map es ck)∈X++B:=xaa _ hm;refine hE.1.next (.tail _ (.tail _ hbm)) (.head _) (λe x seen' he hkey hval hstep abW hfind=>⟨_,.head _,?_⟩) (λEO=>?_)
 ·obtain⟨bs,ws⟩:=x;simp only at hval hkey;refine Ext.mk rfl (Br.yes (⟨bi,bm,ck,seen',e.born,ck,es,e,rfl,.head _,abW,.tail _ (.tail _ hbm),hfind,?_⟩));refine Ext.mk rfl ?_;have hx:(bs,ws)∈m:=by
   have h:=hstep.mem_iff.2 (xbP (a:=(bs,ws)));unfold dB at h;obtain⟨p,hp,kD⟩:=xam.1 h;rw[<-kD];exact(xed (xcP.1 hp).1).2
  obtain⟨hbs,hf⟩:=hE.2 _ hx;simp only at hbs hf;obtain⟨s,hes,hw⟩:=hval;rw[hes];have hone:=bC hw;intro b1 _;refine St.p (by simpa[Value.oneCell']using hone) ?_;refine au.q ?_;refine aa.pq (B:=N++B) (IK (n:=n) (ws:=ws) ⟨s,rfl,hw.mono zS⟩ hf hu) ?_;rintro r N1 ⟨v1,rfl,s1,rfl,kQ⟩;have abo:=bC kQ;refine Ext.two λb2 _=>(St.p (by simpa[Value.oneCell']using abo) ?_);refine au.q ?_;refine aa.pq (B:=N1++(N++B)) (IK (n:=n) (ws:=ws) ⟨s,rfl,hw.mono zS⟩ hf hu) ?_;rintro r N2 ⟨v2,rfl,s2,rfl,xh⟩;have abn:=bC xh;refine Ext.two λb3 _=>(St.p (by simpa[Value.oneCell']using abn) ?_);refine DR.self (au.q ?_);refine au.q ?_;have f1:=an.dU (v:=u) (ws:=ws) (b:=false) hf.tw;have f2:=an.dU (v:=u) (ws:=ws) (b:=true) hf.tw;refine aa.eq (B:=N2++(N1++(N++B))) (EG (t:=⟨n,an.gf n ws u false⟩) ⟨s1,rfl,kQ.mono zS⟩ (tS f1)) (⟨.refl _,?_⟩);refine aa.eq (B:=N2++(N1++(N++B))) (EG (t:=⟨n,an.gf n ws u true⟩) ⟨s2,rfl,xh⟩ (tS f2)) (⟨.refl _,?_⟩);intro J hJ;have EX:(an.gF (an.gf n ws u false)≠an.gF (an.gf n ws u true))↔an.dep n ws u=true:=by
   simp only[an.dep,ne_eq,xaQ];exact not_congr ⟨λh=>f1.key_inj f2 h,λh=>by rw[h]⟩
  have gG:JE J [iv ((an.nodes n (D++[ws]) u).length:Int)] ((b3,.cells (List.toArray [iv (n:Int),s2]) 37 zZ)::(b2,.cells (List.toArray [iv (n:Int),s1]) 37 zZ)::
    (b1,.cells (List.toArray [iv (n:Int),s]) 37 zZ)::(bi,.mapIter (some bm) ck seen' ck)::(b',.map es' cE)::(N2++(N1++(N++B)))):=by
   refine JE.mk (hJ _ _ λgs=>?_);refine DR.of (R:=(b3,.cells (List.toArray [iv (n:Int),s2]) 37 zZ)::(b2,.cells (List.toArray [iv (n:Int),s1]) 37 zZ)::[]) ?_ ?_
   ·exact .cons (.cons (λg w h=>(Own.left (B:=_) (A:=[]) h)))
   refine au.q ?_;refine au.q ?_;have vp:=Co.mono (B':=N2++(N1++(N++B))) zS;refine vp.bV (b:=b') (ws:=an.gf n ws u false) ⟨s1,rfl,kQ.mono zS⟩ f1 λl5 mA hE3=>⟨_,.tail (.tail (.tail (.tail (.head _)))),?_⟩;refine⟨.cons (.cons (λg w h=>(Own.left (B:=_) (A:=[]) h))),?_⟩;refine hE3.bV (b:=b') (ws:=an.gf n ws u true) ⟨s2,rfl,xh⟩ f2 λRK R9 hE4=>⟨_,.tail (.tail (.tail (.tail (.head _)))),?_⟩;refine az.of (H':=(bi,.mapIter (some bm) ck seen' ck)::(b',.map RK R9)::((N2++(N1++N))++B)) ?_ ⟨RK,R9,zk (zk m' (an.gf n ws u false)) (an.gf n ws u true),seen',N2++(N1++N),D++[ws],rfl,rfl,?_,?_,λx=>?_⟩ ?_
   ·refine .skip (.skip (.skip (.cons (.cons ?_))));intro g w h;rw[xai,xai];exact h
   ·rw[xai,xai];exact hE4
   ·refine dF.trans ?_;refine(xcn D (hstep.map Prod.snd)).trans ?_;simp only[xaM,xai,xaN,xbe];exact .refl _
   ·rw[q6 hE3.2 f2,q6 vp.2 f1,hmem];constructor
    ·rintro((⟨t,ht,c,rfl⟩|rfl)|rfl)
     ·exact⟨t,by simp[ht],c,rfl⟩
     ·exact⟨ws,by simp,_,rfl⟩
     exact⟨ws,by simp,_,rfl⟩
    rintro⟨t,ht,c,rfl⟩;rcases xao.1 ht with ht|ht
    ·exact .inl (.inl ⟨t,ht,c,rfl⟩)
    simp at ht;subst ht;cases c
    ·exact .inl (.inr rfl)
    exact .inr rfl
   have:=hstep.length_eq;simp only[xal]at this⊢;omega
  refine ae.O7 (Br.dec (λh=>?_) (λh=>?_))
  ·refine ae.e7 (b:=1) ?_ ?_
   ·have h1:=dF.length_eq;simp only[xau,xaf]at h1;have h2:(an.nodes n D u).length<=D.length:=xbW _ _;simp[aU];omega
   have:(an.nodes n (D++[ws]) u).length=(an.nodes n D u).length+1:=by
    simp[an.nodes,xcu,EX.1 h]
   rw[this]at gG;exact gG
  have:(an.nodes n (D++[ws]) u).length=(an.nodes n D u).length:=by
   have hd:an.dep n ws u=false:=by cases hh:an.dep n ws u;rfl;exact absurd (EX.2 hh) h
   simp[an.nodes,xcu,hd]
  rw[this]at gG;exact gG
 refine Ext.mk rfl (Br.no ?_);rw[EO]at dF;simp only[xcJ,xaG]at dF;refine aQ.mk (gW:=(b',.map es' cE)::(N++B)) .tail ⟨b',es',cE,m',N,?_,rfl,Co,λx=>?_⟩
 ·rw[an.lj dF]
 rw[hmem];constructor
 ·rintro⟨t,ht,h⟩;exact⟨t,dF.mem_iff.2 ht,h⟩
 rintro⟨t,ht,h⟩;exact⟨t,dF.mem_iff.1 ht,h⟩
theorem KT{B:Hp}{v:zV}{ts:List Tb}(ht:iC B v ts)(cL:ts.length<2^62):Rd zQ 308 #[v] B (· =.bool (decide (∀t∈ts,TF t/\some t.n=ts.head?.map Tb.n))):=by
 intro g;refine FL (R:=aQ _) ?_;unfold L308;refine ht.bF ?_;refine⟨λvs H=>bH B H/\∃k:Nat,vs=[iv (k:Int)]/\k<=ts.length/\∀i t,i<k->ts[i]? =some t->TF t/\some t.n=ts.head?.map Tb.n,λvs _=>ts.length-bj vs 0,JE.mk ⟨.refl _,0,rfl,by omega,by omega⟩,?_⟩;rintro w H ⟨hg,k,hv,hk,aF⟩ gs;simp only[xay,xa5]at hv;subst hv;refine ae.cU (Br.dec (λhlt=>?_) (λhlt=>?_))
 ·obtain⟨t,kR⟩:∃t,ts[k]? =some t:=⟨_,xab hlt⟩;obtain⟨t0,UU⟩:∃t,ts[0]? =some t:=⟨_,xab zO⟩;have hh:ts.head?.map Tb.n=some t0.n:=by rw[List.head?_eq_getElem?,UU];rfl
  have htB:=ht.mono hg.sub;refine htB.ld kR (λ_ h=>h) λs hs=>?_;intro b1 _;refine St.whole (r:=[iv t.n,s]) (by exact cu.head _) rfl rfl ?_ ?_
  ·obtain⟨a,c,rfl,_⟩:=hs.1.shape;simp[Value.oneCell']
  intro J hJ;have hno:∀H',bH B H'->¬(TF t/\some t.n=ts.head?.map Tb.n)->JE J [.bool true] H':=λH' WV h=>
   JE.mk (hJ _ _ λgs=>Br.yes (bE.mk WV.dV (by rw[xaq];exact λhh=>h (hh t (xaz kR)))))
  have WU:bH B ((b1,Obj.cells (List.toArray [iv t.n,s]) 37 zZ)::H):=.cons hg;refine DR.self ?_;refine au.whole (r:=[iv t.n,s]) (by exact List.Mem.head _) rfl ?_;intro F;refine aa.rd (B:=H) (.cons .here) (Cz ⟨s,rfl,hs⟩) ?_;rintro v rfl;refine⟨.refl _,Un.not ?_⟩;by_cases hT:TF t
  case neg=>rw[xaq hT];exact Br.yes (hno _ WU λh=>hT h.1)
  rw[xav hT];apply Br.no;refine ag.mk (Ld.mk zM rfl ?_);refine htB.ldN UU zS ?_;refine ae.fX (aS.mk ?_);simp only[xaj];by_cases hn:t.n=t0.n
  case neg=>rw[xav hn];exact hno _ WU λh=>hn (by have:=h.2;rw[hh]at this;simpa using this)
  rw[xaq (by simpa using hn)];refine JE.mk (hJ _ _ λgs=>Br.no ?_);refine ae.e7 (b:=1) (by simp[aU];omega) ?_;refine az.mk ⟨WU,k+1,rfl,by omega,λi u hi hu=>?_⟩ (by simp[bj];omega);by_cases e:i=k
  ·subst e;rw[kR]at hu;cases hu;exact⟨hT,by rw[hh,hn]⟩
  exact aF i u zO hu
 refine bE.mk hg.dV ?_;rw[xav];intro t htm;obtain⟨i,hi,rfl⟩:=xbq.1 htm;exact aF i _ zO (xab hi)
def qS(ts:List Tb):Prop:=∀t∈ts,TF t/\some t.n=ts.head?.map Tb.n
instance (ts:List Tb):Decidable (qS ts):=by unfold qS;infer_instance
theorem uC{B:Hp}{v:zV}{ts:List Tb}(ht:iC B v ts)(cL:ts.length<2^62):Rd zQ 308 #[v] B (· =.bool (decide (qS ts))):=KT ht cL
theorem BE{n:Nat}{L:List (zL)}(hf:∀ws∈L,an.dG n ws):qS (L.map λws=>⟨n,ws⟩):=by
 intro t ht;obtain⟨ws,hws,rfl⟩:=xam.1 ht;refine⟨⟨by simp,by simpa using hf ws hws⟩,?_⟩;cases L with
 |nil=>simp at hws
 |cons a b=>rfl
theorem I7{ts:List Tb}(h:qS ts)(hne:ts≠[]):∃(n:Nat) (L:List (zL)),n<=16/\ts=L.map (λws=>⟨n,ws⟩)/\L≠[]/\∀ws∈L,an.dG n ws:=by
 cases ts with
 |nil=>exact absurd rfl hne
 |cons t r=>
  have ht:=(h t zI).1;have hn:∀u∈t::r,u.n=t.n:=λu hu=>by have:=(h u hu).2;simpa using this
  refine⟨t.n.toNat,(t::r).map Tb.ws,ht.2.tw,?_,by simp,λws hws=>?_⟩
  ·rw[xbL]
   conv=>lhs;rw[<-xd0 (t::r)]
   apply xbi;intro u hu;have h1:=hn u hu;have h2:=ht.1;obtain⟨un,uw⟩:=u;simp only[Function.comp,id]at h1⊢;congr 1;omega
  obtain⟨u,hu,rfl⟩:=xam.1 hws;have:=(h u hu).1.2;rwa [hn u hu]at this
end
end Go.Proofs
namespace aE
theorem Rm.rO(m:Rm):∀ls ord,m.goes 0 ls ord=ls.take (m.goes 0 ls ord).length
 | [],_=>rfl
 |c::cs,ord=>by
  by_cases hf:m.fit ord (0+c)=true
  ·have:=m.rO cs (ff ord (0+c));rw[goes,xae hf,xal,List.take_succ_cons,<-this,xaZ]
  rw[goes,xac hf];simp
def Rm.can(m:Rm)(ord ls:zL):Bool:=decide ((m.goes 0 ls ord).length=ls.length)
theorem Rm.Rl(m:Rm){ord ls:zL}{i:Nat}(hi:i<(m.goes 0 ls ord).length){l:Nat}(hl:ls[i]? =some l):m.fit (ax ord (ls.take i)) l=true:=by
 obtain⟨_,c,h1,h2⟩:=m.qx 0 ls ord i hi;rw[hl]at h1;cases h1;rw[m.rO,List.take_take,xcc (xcs hi),xaZ]at h2;exact h2
theorem Rm.L4(m:Rm){ord ls:zL}{l:Nat}(hl:ls[(m.goes 0 ls ord).length]? =some l):m.fit (ax ord (ls.take (m.goes 0 ls ord).length)) l=false:=by
 have:=m.vw 0 ls ord l hl;rw[xaZ]at this;rw[<-m.rO];exact this
def road(a b:Nat):zL:=List.range' a (b-a)++(List.range' b (a-b)).reverse
theorem uF(a b:Nat):(road a b).length=(b-a)+(a-b):=by simp[road]
theorem Pw{a b l n:Nat}(ha:a<n)(hb:b<n)(h:l∈road a b):l+1<n:=by
 unfold road at h;rcases xao.1 h with h|h
 ·rw[xer]at h;omega
 rw[List.mem_reverse,xer]at h;omega
theorem jI{α:Type}[DecidableEq α]:∀{l p:List α},l.Nodup->(∀x∈l,x∈p)->p.length<=l.length->l.Perm p
 | [],p,_,_,h=>by
  have:p=[]:=xch.1 (by simpa using h);subst this;exact .refl _
 |x::t,p,hn,hs,hl=>by
  have hx:=hs x zI;have hp:=List.perm_cons_erase hx;have hlen:(p.erase x).length=p.length-1:=List.length_erase_of_mem hx;have hpos:=List.length_pos_of_mem hx;refine(List.Perm.cons x (jI (xaX.1 hn).2 (λy hy=>?_) (by simp only[xal]at hl;omega))).trans hp.symm;refine(List.mem_erase_of_ne λe=>?_).2 (hs y (by simp[hy]));subst e;exact(xaX.1 hn).1 hy
end aE
set_option maxRecDepth 100000
namespace Go.Proofs
open Go Go.Sx Tryz
section
open aE
theorem B5{l:zL}(h:l.Nodup):(iw l).Nodup:=xb9.2 (h.imp λhne e=>hne (Int.ofNat.inj e))
theorem r3{p:List Int}:sY p↔p.Perm (iw (List.range p.length)):=by
 constructor
 ·intro h;refine(jI (B5 xbo) (λx hx=>?_) (by rw[aq,xaC];exact xak _)).symm;obtain⟨k,hk,rfl⟩:=xam.1 hx;exact h k (xaJ.1 hk)
 intro h v hv;exact h.mem_iff.2 (xam.2 ⟨v,xaJ.2 hv,rfl⟩)
theorem SD{p:List Int}(hn:p.Nodup)(h:∀x∈p,0<=x/\x<(p.length:Int)):sY p:=by
 refine r3.2 (jI hn (λx hx=>?_) (by rw[aq,xaC];exact xak _));obtain⟨h1,h2⟩:=h x hx;exact xam.2 ⟨x.toNat,xaJ.2 zO,by show((x.toNat:Nat):Int)=x;omega⟩
theorem SE{p:List Int}(h:sY p){x:Int}(hx:x∈p):0<=x/\x<(p.length:Int):=by
 have:=(r3.1 h).mem_iff.1 hx;obtain⟨k,hk,rfl⟩:=xam.1 this;have:=xaJ.1 hk;show(0:Int)<=(k:Int)/\(k:Int)<_;omega
theorem Dt{p:List Int}(h:sY p):p.Nodup:=(r3.1 h).nodup_iff.2 (B5 xbo)
theorem Pk{p:List Int}{i n W:Nat}(hi:i<p.length)(hn:p[i]=(n:Int))(hw:n<W):((List.range W).map λk=>decide (((k:Nat):Int)∈p.take i)).set n true=(List.range W).map λk=>decide (((k:Nat):Int)∈p.take (i+1)):=by
 apply xbm;intro j;rw[xbd hi,hn];by_cases hj:j<W
 ·by_cases e:n=j
  ·subst e;rw[xbR (by simpa using hw)];simp[hw]
  rw[xbN e];simp only[xas,xdo hj,xbj,xao,xaK];congr 1;have:¬((j:Nat):Int)=(n:Int):=by omega
  simp[this]
 rw[xaH zP,xaH zP]
theorem KR{p:List Int}{W:Nat}:List.replicate W false=(List.range W).map λk=>decide (((k:Nat):Int)∈p.take 0):=by
 apply xbm;intro j;by_cases hj:j<W
 ·simp[hj]
 rw[xaH zP,xaH zP]
theorem rz{B:Hp}{v:zV}{p:List Int}(h:dY .i64 B v p)(cL:p.length<=70368744177664):Rd zQ 147 #[v] B (λr=>(r=iv 0/\sY p/\p.length<=64)\/(r=iv 13/\sY p/\64<p.length)\/(r=iv 4/\¬sY p)):=by
 refine aK λg=>HK (h.bF (dj.Sf zO λb=>h.bF ?_));rw[KR (p:=p)];refine⟨λvs H=>∃i:Nat,vs=[iv (i:Int)]/\H=(b,.cells (df ((List.range p.length).map λk=>decide (((k:Nat):Int)∈p.take i))) 4 zZ)::B/\i<=p.length/\(p.take i).Nodup/\∀x∈p.take i,0<=x/\x<(p.length:Int),λvs _=>p.length-bj vs 0,
  JE.mk ⟨0,rfl,rfl,xaA _,by simp,by simp⟩,?_⟩
 rintro w H ⟨i,⟨⟩,rfl,hi,gE,hin⟩ gs;refine ae.cU (Br.dec (λhlt=>?_) (λhlt=>?_))
 ·refine h.ld (xab hlt) (λ_ h=>.tail _ h) ?_;obtain⟨x,hx⟩:∃x,p[i]=x:=⟨_,rfl⟩;have hxm:x∈p:=by rw[<-hx];exact xaD hlt
  rw[hx];have hB:=DB.block (b:=b) (cap:=p.length) (l:=(List.range p.length).map λk=>decide (((k:Nat):Int)∈p.take i)) (T:=4) (fz:=(0,0)) (B:=(b,.cells (df ((List.range p.length).map λk=>decide (((k:Nat):Int)∈p.take i))) 4 zZ)::B) (.head _) zI;rw[xau,xaC]at hB;refine ae.lss (cr.or (decide ((p.length:Int)<=x)) (λ_=>h.bF (ae.geq ⟨rfl,rfl⟩)) zI λgs=>?_);rw[<-xbb];refine cr.or (decide (x∈p.take i)) (λhno=>?_) zI λgs=>?_
  ·have LM:=of_decide_eq_false hno;obtain⟨n,rfl⟩:∃n:Nat,x=n:=⟨x.toNat,by omega⟩;refine hB.ld (b:=decide (((n:Nat):Int)∈p.take i)) ?_ (λ_ h=>h) ⟨rfl,rfl⟩;rw[xas,xdo zO];rfl
  rw[<-xbb];refine Br.dec (λpE=>bE.mk .tail (.inr (.inr ⟨rfl,λha=>?_⟩))) (λabF=>?_)
  ·have h1:=SE ha hxm;rcases pE with hb|hb
   ·omega
   have h2:=Dt ha;rw[<-xbr i p,xa7]at h2;refine h2.2.2 x hb x ?_ rfl;rw[xaV hlt,hx];exact .head _
  obtain⟨n,rfl⟩:∃n:Nat,x=n:=⟨x.toNat,by omega⟩;refine ai.nat zO ?_;refine St.Sf (l:=(List.range p.length).map λk=>decide (((k:Nat):Int)∈p.take i)) (.head _) zP ?_;rw[Pk hlt hx zO];refine ae.inc (az.mk ⟨i+1,rfl,rfl,hlt,?_,λx S7=>?_⟩ (by simp only[bj];omega))
  ·rw[xbd hlt,hx,xa7];exact⟨gE,by simp,λa ha b hb e=>by simp at hb;subst hb;subst e;exact abF (.inr ha)⟩
  rw[xbd hlt,hx,xao,xaK]at S7;rcases S7 with S7|rfl
  ·exact hin x S7
  omega
 obtain rfl:i=p.length:=by omega
 rw[xbc]at gE hin;have aF:=SD gE hin;refine h.bF (ae.iF (b:=64) (Br.dec (λhg=>bE.mk .tail (.inr (.inl ⟨rfl,aF,hg⟩))) (λhg=>bE.mk .tail (.inl ⟨rfl,aF,by omega⟩))))
theorem KM{B:Hp}{v:zV}{p:List Int}{x:Int}(h:dY .i64 B v p)(cL:p.length<4611686018427387904):Rd zQ 181 #[v,iv x] B (· =iv (if x∈p then((p.idxOf x:Nat):Int)else-1)):=by
 refine aK λg=>Hl (h.bF ?_);refine⟨λvs H=>∃i:Nat,vs=[iv (i:Int)]/\H=B/\i<=p.length/\x∉p.take i,λvs _=>p.length-bj vs 0,JE.mk ⟨0,rfl,rfl,xaA _,by simp⟩,?_⟩;rintro w H ⟨i,⟨⟩,rfl,hi,hq⟩ gs;refine ae.cU (Br.dec (λhlt=>?_) (λhlt=>?_))
 ·refine h.ld (xab hlt) (λ_ h=>h) ?_;refine ae.jM (Br.dec (λhe=>bE.mk (.refl _) ?_) (λhe=>?_))
  ·rw[xae (by rw[he];exact xaD hlt),Qq hq hlt he.symm]
  refine ae.inc (az.of (.refl _) ⟨i+1,rfl,rfl,hlt,?_⟩ (by simp only[bj];omega));rw[xbd hlt,xao,xaK];rintro(h|h)
  ·exact hq h
  exact he h
 refine bE.mk (.refl _) ?_;rw[xc0 zO]at hq;rw[xac hq]
theorem VN{B:Hp}{v1 v2:zV}{p q:zL}{n:Nat}(h1:dY .i64 B v1 (iw p))(h2:dY .i64 B v2 (iw q))(hp:p.Perm (List.range n))(hq:q.Perm (List.range n))(hn:n<=64):Rd zQ 180 #[v1,v2] B (· =iv 0):=by
 have e1:p.length=n:=by rw[hp.length_eq,xaC]
 have e2:q.length=n:=by rw[hq.length_eq,xaC]
 refine aK λg=>Ho (aa.rq (rz h1 (by rw[aq];omega)) ?_);rintro v (⟨rfl,_,_⟩|⟨_,_,hl⟩|⟨_,hno⟩);rotate_left
 ·rw[aq]at hl;omega
 ·exact absurd (vX hp) hno
 refine aa.rq (rz h2 (by rw[aq];omega)) ?_;rintro v (⟨rfl,_,_⟩|⟨_,_,hl⟩|⟨_,hno⟩);rotate_left
 ·rw[aq]at hl;omega
 ·exact absurd (vX hq) hno
 refine ae.jM (cr.or false (λ_=>ae.jM ⟨rfl,rfl⟩) rfl λgs=>?_);refine cr.or false (λ_=>?_) rfl λgs=>Br.no ?_
 ·refine h1.bF (h2.bF (ae.mF ⟨rfl,?_⟩));rw[aq,aq,xaq zO]
 exact⟨.i64,0,0,rfl,rfl,bE.mk (.refl _) rfl⟩
end
section
open aE
theorem Qc(n:Nat)(ord:zL)(L:an.Fs)(k:Nat):(qj n ord L k).length<=2^k*L.length:=xbB (xbW _ _) (JF k)
theorem xN(n:Nat)(ord:zL)(L:an.Fs):∀m,fQ n ord L m+L.length<=2^m*L.length
 |0=>by show 0+L.length<=1*L.length;omega
 |m+1=>by
  have ih:=xN n ord L m;have h:=Qc n ord L m;show fQ n ord L m+(qj n ord L m).length+L.length<=_;rw[xc6];have:2^m*2*L.length=2*(2^m*L.length):=by rw[xbI (2^m) 2,xck]
  omega
end
end Go.Proofs
namespace Go.Sx
open Go
section
variable {P:Program} {g:Gh} {H:Hp}
theorem ak.XV{t e:TypeId}{z:zV}{a b c d:zV}{K:zV->Hp->Prop}(h1:P.underlying t=some (.slice e))(h2:cC P e=some 2)(h3:ef P e=some z)
 (h:∀x,K (.slice (some ⟨x,0,Option.none⟩) 2 2) ((x,.cells (rows [[a,b],[c,d]]) e zZ)::H)):ak P t 2 [(0,.agg #[a,b]),(1,.agg #[c,d])] H K:=by
 refine⟨rows [[a,b],[c,d]],e,2,z,h1,h2,h3,by decide,?_,λb _=>h b⟩;have e1:Array.range (2*2)=#[0,1,2,3]:=rfl;simp[Instr.fill,Value.cells,rows,e1]
theorem ak.XU{t e:TypeId}{z:zV}{a b c d x y:zV}{K:zV->Hp->Prop}(h1:P.underlying t=some (.slice e))(h2:cC P e=some 2)(h3:ef P e=some z)
 (h:∀u,K (.slice (some ⟨u,0,Option.none⟩) 3 3) ((u,.cells (rows [[a,b],[c,d],[x,y]]) e zZ)::H)):ak P t 3 [(0,.agg #[a,b]),(1,.agg #[c,d]),(2,.agg #[x,y])] H K:=by
 refine⟨rows [[a,b],[c,d],[x,y]],e,2,z,h1,h2,h3,by decide,?_,λb _=>h b⟩;have e1:Array.range (3*2)=#[0,1,2,3,4,5]:=rfl;simp[Instr.fill,Value.cells,rows,e1]
theorem ak.aaY{t e:TypeId}{kd:IntKind}{x y z u:Int}{K:zV->Hp->Prop}(h1:P.underlying t=some (.slice e))(h2:cC P e=some 1)(h3:ef P e=some (.int kd 0))
 (h:∀b,K (.slice (some ⟨b,0,Option.none⟩) 4 4) ((b,.cells (aA kd [x,y,z,u]) e zZ)::H)):ak P t 4 [(0,.int kd x),(1,.int kd y),(2,.int kd z),(3,.int kd u)] H K:=by
 refine⟨aA kd [x,y,z,u],e,1,_,h1,h2,h3,by decide,?_,λb _=>h b⟩;have e1:Array.range (4*1)=#[0,1,2,3]:=rfl;simp[Instr.fill,Value.cells,aA,e1]
theorem aO.made{T:TypeId}{k b:Nat}(rs:List (List zV))(h:∀r∈rs,r.length=k):aO T k (.slice (some ⟨b,0,none⟩) rs.length rs.length) rs [(b,.cells (rows rs) T zZ)]:=
 .inr ⟨b,[],by simp,by simp,by simpa using h⟩
end
end Go.Sx
namespace aE
open an
variable {n:Nat} {F:Nat->Nat} {ws us rs:zL}
def m5(n:Nat)(F:Nat->Nat):zL:=(List.range (wN n)).map λi=>F i&&&dz n
theorem gP(hn:n<=16):dG n (m5 n F):=by
 refine⟨hn,by simp[m5],λw hw=>?_⟩;obtain⟨i,_,rfl⟩:=xam.1 hw;exact xb3
theorem Ly{x:Nat}(hx:x<2^n):bit (m5 n F) x=(F (x/64)).testBit (x%64):=by
 have hi:=BR hx;unfold bit;have fK:(m5 n F).getD (x/64) 0=F (x/64) &&&dz n:=by simp[m5,hi]
 rw[fK,xa6,kY];have hfb:decide (x%64<if 6<=n then 64 else 2^n)=true:=by
  rw[xaQ];split
  ·exact xbu _ zD
  have h1:2^n<=32:=xax (n:=2) zD (by omega:n<=5);omega
 rw[hfb,xd2]
theorem jj{f:Fn}(h:∀x,x<2^n->(F (x/64)).testBit (x%64)=f x)(hf:∀x,f (x%2^n)=f x):gL n (m5 n F)=f:=by
 funext x
 unfold gL;have hx:x%2^n<2^n:=xbu _ (xbJ n);rw[Ly hx,h _ hx,hf]
theorem nZ(x:Nat):gL n ws (x%2^n)=gL n ws x:=by unfold gL;rw[Nat.mod_mod]
theorem jY{x:Nat}(hx:x<2^n):(ws.getD (x/64) 0).testBit (x%64)=gL n ws x:=by
 unfold gL bit;rw[xa3 hx]
theorem BD{j:Nat}(hj:j<64):(18446744073709551615:Nat).testBit j=true:=by
 have:(18446744073709551615:Nat)=2^64-1:=by decide
 rw[this,xc4];simpa using hj
theorem tM{w j:Nat}(hw:w<18446744073709551616)(hj:j<64):(18446744073709551615-w).testBit j= !w.testBit j:=by
 have e:(18446744073709551615-w)=2^64-(w+1):=by
  have:(2:Nat)^64=18446744073709551616:=by decide
  omega
 rw[e,xei (by
  have:(2:Nat)^64=18446744073709551616:=by decide
  omega)]
 simp[hj]
end aE
set_option maxRecDepth 100000
namespace Go.Proofs
open Go Go.Sx Tryz
section
open aE
section
variable {B:Hp}
def eH(B:Hp)(v:zV)(n:Nat)(f:aE.Fn):Prop:=∃ws,DT B v ⟨n,ws⟩/\an.dG n ws/\gL n ws=f
theorem eH.mono{B B':Hp}{v:zV}{n:Nat}{f:aE.Fn}(h:eH B v n f)(hs:∀x∈B,x∈B'):eH B' v n f:=let ⟨ws,h1,h2,h3⟩:=h;⟨ws,h1.mono hs,h2,h3⟩
theorem CZ{n:Nat}(hn:n<=16)(B:Hp):Rd zQ 85 #[iv (n:Int)] B (· =iv 0):=by
 exact aK λg=>MZ (ae.lss (Br.F (ae.iF (b:=16) (Br.F (bE.mk (.refl _) rfl)))))
theorem D3{b:Bool}{p:zV}{i:Int}(hb:Go.Sx.At B p [.bool b]):Rd zQ 87 #[iv i,p] B (· =.int .u64 (((if b then 18446744073709551615 else 0:Nat)):Int)):=by
 refine aK λg=>MX (Ld.at hb (λ_ h=>h) ?_);cases b
 ·exact Br.no (bE.mk (.refl _) rfl)
 exact Br.yes (bE.mk (.refl _) rfl)
theorem q8{n:Nat}(hn:n<=16)(b:Bool)(B:Hp):Px zQ 40 #[iv (n:Int),.bool b] B (λr H=>∃v,r=.tuple #[v,iv 0]/\eH H v n (λ_=>b)):=by
 refine aK λg=>NF λb1 _ b3 _=>?_;refine aa.eq (CZ hn _) (ae.fX (Br.F (aa.pq (nW hn rfl zK (F:=λ_=>if b then 18446744073709551615 else 0) (λi _=>by cases b<;>decide) (B:=(b1,.cells #[.bool b] 4 zZ)::B) λi _=>D3 (Go.Sx.At.block (l:=[.bool b]) zM)) ?_)));rintro v N ⟨s,rfl,hw⟩;refine St.p ?_ ?_
 ·have:=bC hw;simpa[Value.oneCell']using this
 refine au.q ?_;refine AJ.mk (by repeat (first|exact bH.refl _|apply bH.cons|apply bH.app)) ⟨_,rfl,_,⟨s,rfl,hw.mono zS⟩,gP hn,jj (λx hx=>?_) (λx=>rfl)⟩;cases b
 ·exact xcX _
 exact BD (xbu _ zD)
theorem OP{v i:Nat}{p:zV}(hv:v<64)(hi:i<9223372036854775808)(hb:Go.Sx.At B p [iv (v:Int)]):Rd zQ 88 #[iv (i:Int),p] B (· =.int .u64 ((if 6<=v then(if(i>>>(v-6)).testBit 0 then 18446744073709551615 else 0)else an.mask v:Nat):Int)):=by
 refine aK λg=>MW (Ld.at hb (λ_ h=>h) ?_);exact aa.eq (yU hv zO hi B) (bE.mk (.refl _) rfl)
theorem IG{n v:Nat}(hn:n<=16)(hv:v<n)(B:Hp):Px zQ 41 #[iv (n:Int),iv (v:Int)] B (λr H=>∃t,r=.tuple #[t,iv 0]/\eH H t n (λx=>x.testBit v)):=by
 refine aK λg=>ND λb1 _ b3 _=>?_;refine aa.eq (CZ hn _) (ae.fX (Br.F (Ld.q ?_)));refine ae.lss ?_;rw[xaq zO];refine cr.or (a:=false) false (λ_=>?_) rfl λgs=>Br.no ?_
 ·refine Ld.q ?_;exact ae.mh ⟨rfl,by rw[xaq zO]⟩
 have EL:=an.xF hn;refine aa.pq (nW hn rfl zK (F:=λi=>if 6<=v then(if(i>>>(v-6)).testBit 0 then 18446744073709551615 else 0)else an.mask v) (λi _=>by
  have:=an.zW v;split
  ·split<;>decide
  exact this) (B:=(b1,.cells #[iv (v:Int)] 3 zZ)::B) λi hi=>OP zO zO (Go.Sx.At.block (l:=[iv (v:Int)]) zM)) ?_
 rintro w N ⟨s,rfl,hw⟩;refine St.p ?_ ?_
 ·have:=bC hw;simpa[Value.oneCell']using this
 refine au.q ?_;refine AJ.mk (by repeat (first|exact bH.refl _|apply bH.cons|apply bH.app)) ⟨_,rfl,_,⟨s,rfl,hw.mono zS⟩,gP hn,jj (λx hx=>?_) (λx=>?_)⟩
 ·have hj:x%64<64:=xbu _ zD;have ai8:x=64*(x/64)+x%64:=by omega
  by_cases h6:6<=v
  ·rw[xae h6];have e:x.testBit v=((x/64)>>>(v-6)).testBit 0:=by
    rw[xbg,xbT];have:=Nat.testBit_div_two_pow (n:=6) x (v-6);rw[show(2:Nat)^6=64 from rfl]at this;rw[this];congr 1;omega
   rw[e];cases ((x/64)>>>(v-6)).testBit 0
   ·exact xcX _
   exact BD hj
  rw[xac h6,an.gg];have:=xbk x 6 v;rw[show(2:Nat)^6=64 from rfl]at this;rw[this];simp[hj];omega
 rw[xbk];simp[hv]
end
end
section
open aE
section
variable {B:Hp}
theorem eF{n i:Nat}{ws:zL}(hf:an.dG n ws):ws.getD i 0<18446744073709551616:=by
 by_cases h:i<ws.length
 ·rw[xap,xab h];exact hf.lt (xaD h)
 rw[xap,xaH zO];decide
theorem ji{n i:Nat}{ws:zL}(hf:an.dG n ws)(hi:i<an.wN n):ws[i]? =some (ws.getD i 0):=by
 rw[xap,xab (by rw[hf.len];exact hi)];rfl
theorem OX{pa s:zV}{n i:Nat}{ws:zL}(ha:Go.Sx.At B pa [iv (n:Int),s])(hw:Words B s ws)(hf:an.dG n ws)(hi:i<an.wN n):
  Rd zQ 90 #[iv (i:Int),pa] B (· =.int .u64 ((18446744073709551615-ws.getD i 0:Nat):Int)):=by
 refine aK λg=>MU (ag.at ha λq hq=>Ld.at hq (λ_ h=>h) ?_);refine hw.1.ld (cI (ji hf hi)) (λ_ h=>h) ?_;exact Un.Ko (eF hf) (bE.mk (.refl _) rfl)
theorem TO{v:zV}{n:Nat}{f:aE.Fn}(ht:eH B v n f):Px zQ 42 #[v] B (λr H=>∃t,r=.tuple #[t,iv 0]/\eH H t n (λx=> !f x)):=by
 obtain⟨ws,⟨s,rfl,hw⟩,hf,rfl⟩:=ht;refine aK λg=>NC λb1 _ b3 _=>?_;refine au.q ?_;refine nD λbx=>?_;refine aa.rd .here (lZ (t:=⟨n,ws⟩) (by exact .head _) (hw.mono zS)) ?_;rintro w rfl;rw[xav (show TF ⟨(n:Int),ws⟩from⟨by simp,by simpa using hf⟩)];refine Un.not (Br.no (Ld.f ?_));refine aa.pre (H':=(b3,.cells #[iv 0,.slice none 0 0] 37 zZ)::(b1,.cells #[iv (n:Int),s] 37 zZ)::B) .tail ?_;refine aa.pq (nW hf.tw rfl zK (F:=λi=>18446744073709551615-ws.getD i 0) (λi _=>by omega) (B:=(b1,.cells #[iv (n:Int),s] 37 zZ)::B) λi hi=>OX (Go.Sx.At.block (l:=[iv (n:Int),s]) zM) (hw.mono zS) hf hi) ?_;rintro w N ⟨s',rfl,hw'⟩;refine St.p ?_ ?_
 ·have:=bC hw';simpa[Value.oneCell']using this
 refine au.q ?_;refine AJ.mk (by repeat (first|exact bH.refl _|apply bH.cons|apply bH.app)) ⟨_,rfl,_,⟨s',rfl,hw'.mono zS⟩,gP hf.tw,jj (λx hx=>?_) (λx=>by rw[nZ])⟩;rw[tM (eF hf) (xbu _ zD),jY hx]
def vS(op w u:Nat):Nat->Nat
 |0=>0
 |k+1=>if op.testBit k then vS op w u k|||([(18446744073709551615-w) &&& (18446744073709551615-u),(18446744073709551615-w) &&&u,w&&& (18446744073709551615-u),w&&&u].getD k 0)else vS op w u k
theorem I5{w u k:Nat}(hw:w<18446744073709551616)(hu:u<18446744073709551616):[(18446744073709551615-w) &&& (18446744073709551615-u),(18446744073709551615-w) &&&u,w&&& (18446744073709551615-u),w&&&u].getD k 0<18446744073709551616:=by
 have h1:∀a b:Nat,a<18446744073709551616->a&&&b<18446744073709551616:=λa b h=>xaL xcd h
 match k with
 |0=>exact h1 _ _ zO
 |1=>exact h1 _ _ zO
 |2=>exact h1 _ _ hw
 |3=>exact h1 _ _ hw
 |k+4=>exact(by decide:(0:Nat)<18446744073709551616)
theorem tY{op w u:Nat}(hw:w<18446744073709551616)(hu:u<18446744073709551616):∀k,vS op w u k<18446744073709551616
 |0=>by show(0:Nat)<18446744073709551616;decide
 |k+1=>by
  unfold vS;split
  ·exact xb8 (n:=64) (tY hw hu k) (I5 hw hu)
  exact tY hw hu k
theorem Sk{op w u j:Nat}(hw:w<18446744073709551616)(hu:u<18446744073709551616)(hj:j<64):(vS op w u 4).testBit j=Og op (w.testBit j) (u.testBit j):=by
 have nw:=tM hw hj;have nu:=tM hu hj;simp only[vS,List.getD_cons_zero,List.getD_cons_succ];unfold Og;cases h0:op.testBit 0<;>cases h1:op.testBit 1<;>cases h2:op.testBit 2<;>cases h3:op.testBit 3<;>simp only[xa4,xaE,xaU,xcx,xa6,nw,nu,xcX]<;>cases w.testBit j<;>cases u.testBit j<;>simp[h0,h1,h2,h3]
theorem OZ{p1 p2 p3 s1 s2:zV}{n i op:Nat}{ws us:zL}(h1:Go.Sx.At B p1 [iv (n:Int),s1])(h2:Go.Sx.At B p2 [iv (n:Int),s2])(h3:Go.Sx.At B p3 [.int .u8 (op:Int)])(hw:Words B s1 ws)(hu:Words B s2 us)(hf:an.dG n ws)(hg:an.dG n us)(hop:op<16)(hi:i<an.wN n):
  Rd zQ 91 #[iv (i:Int),p1,p2,p3] B (· =.int .u64 ((vS op (ws.getD i 0) (us.getD i 0) 4:Nat):Int)):=by
 have lw:=eF (i:=i) hf;have lu:=eF (i:=i) hg;refine aK λg=>MT (ag.at h1 λq hq=>Ld.at hq (λ_ h=>h) ?_);refine hw.1.ld (cI (ji hf hi)) (λ_ h=>h) ?_;refine ag.at h2 λq hq=>Ld.at hq (λ_ h=>h) ?_;refine hu.1.ld (cI (ji hg hi)) (λ_ h=>h) ?_;generalize ws.getD i 0=w at*;generalize us.getD i 0=u at*;refine Un.Ko lw (Un.Ko lu ?_);refine ae.fY (by simp only[aU];omega) (by simp only[aU];omega) (Un.Ko lw ?_);refine ae.fY (by simp only[aU];omega) (by simp only[aU];omega) (Un.Ko lu ?_);refine ae.fY (by simp only[aU];omega) (by simp only[aU];omega) (ae.fY (by simp only[aU];omega) (by simp only[aU];omega) (ak.aaY (e:=40) zK zK zK λbx=>?_));obtain⟨ps,hps⟩:∃ps,ps=[(18446744073709551615-w) &&& (18446744073709551615-u),(18446744073709551615-w) &&&u,w&&& (18446744073709551615-u),w&&&u]:=⟨_,rfl⟩;have hI:dY .u64 [(bx,Obj.cells (aA .u64 (iw ps)) 40 zZ)] (.slice (some ⟨bx,0,none⟩) 4 4) (iw ps):=by
  have:=(aR.made (T:=40) (kd:=.u64) (b:=bx) (iw ps)).ints;have hl:(iw ps).length=4:=by rw[hps];rfl
  rw[hl]at this;exact this
 have mg:ps.length=4:=by rw[hps];rfl
 have hH:(bx,Obj.cells (aA .u64 [((((18446744073709551615-w) &&& (18446744073709551615-u):Nat)):Int),((((18446744073709551615-w) &&&u:Nat)):Int),(((w&&& (18446744073709551615-u):Nat)):Int),((w&&&u:Nat):Int)]) 40 zZ)=(bx,Obj.cells (aA .u64 (iw ps)) 40 zZ):=by rw[hps];rfl
 rw[hH];refine aG.mk ?_;refine⟨λvs H=>∃k:Nat,vs=[.int .u64 ((vS op w u k:Nat):Int),iv (k:Int)]/\k<=4/\H=(bx,Obj.cells (aA .u64 (iw ps)) 40 zZ)::B,λvs _=>4-bj vs 1,JE.mk ⟨0,rfl,by omega,rfl⟩,?_⟩;rintro w24 w25 H ⟨k,⟨⟩,hk,rfl⟩ gs;refine ae.cU (b:=4) (Br.dec (λhlt=>?_) (λhlt=>?_))
 ·intro J hJ;refine hI.ld (n:=((ps.getD k 0:Nat):Int)) (bW zO) (λ_ h=>by simp at h;rw[h];exact .head _) (Ld.at h3 (λ_ h=>.tail _ h) ?_);refine ae.gk (by simp only[aU];omega) (ae.fY (b:=1) (by have:=xbM op k;simp only[aU];omega) zD ?_);have LY:(op>>>k) &&&1=(op.testBit k).toNat:=by
   rw[an.eR,xbg,xbT];cases op.testBit k<;>rfl
  rw[LY];refine ae.bu (b:=1) ?_;have aeL:ps.getD k 0<18446744073709551616:=by rw[hps];exact I5 lw lu
  cases hb:op.testBit k with
  |true=>
   refine Br.T (ae.Of (by simpa only[aU]using tY lw lu k) (by simpa only[aU]using aeL) (JE.mk (hJ _ _ λgs=>?_)));exact ae.inc (az.mk ⟨k+1,by rw[vS,xae hb,hps],by omega,rfl⟩ (by simp only[bj];omega))
  |false=>
   refine Br.F (JE.mk (hJ _ _ λgs=>?_));exact ae.inc (az.mk ⟨k+1,by rw[vS,xac (by rw[hb];decide)],by omega,rfl⟩ (by simp only[bj];omega))
 obtain rfl:k=4:=by omega
 exact bE.mk .tail rfl
theorem aau{bx n:Nat}{s1 s2:zV}{ws us:zL}(h1:Words B s1 ws)(h2:Words B s2 us):iC ((bx,.cells (rows [[iv (n:Int),s1],[iv (n:Int),s2]]) 37 zZ)::B) (.slice (some ⟨bx,0,none⟩) 2 2) [⟨n,ws⟩,⟨n,us⟩]:=by
 refine⟨[[iv (n:Int),s1],[iv (n:Int),s2]],(Sl.fi (aO.made (T:=37) (k:=2) (b:=bx) _ zI) zD).mono λ_ h=>by simp at h;rw[h];exact .head _,rfl,λi r x hr hx=>?_⟩
 match i with
 |0=>simp at hr hx;subst hr;subst hx;exact⟨s1,rfl,h1.mono λ_ h=>.tail _ h⟩
 |1=>simp at hr hx;subst hr;subst hx;exact⟨s2,rfl,h2.mono λ_ h=>.tail _ h⟩
 |i+2=>simp at hr
theorem pW{v1 v2:zV}{n op:Nat}{f1 f2:aE.Fn}(hop:op<16)(h1:eH B v1 n f1)(h2:eH B v2 n f2):Px zQ 43 #[.int .u8 (op:Int),v1,v2] B (λr H=>∃t,r=.tuple #[t,iv 0]/\eH H t n (λx=>Og op (f1 x) (f2 x))):=by
 obtain⟨ws,⟨s1,rfl,hw⟩,hf,rfl⟩:=h1;obtain⟨us,⟨s2,rfl,hu⟩,hg,rfl⟩:=h2;refine aK λg=>NA λb1 _ b3 _ b5 _ b7 _=>?_;refine Ld.q ?_;refine ae.iF (b:=15) (Br.F (au.q ?_));refine au.q ?_;refine ak.XV (e:=37) (z:=.agg #[iv 0,.slice none 0 0]) zK zK zK λbx=>?_;refine aa.rd .here (vB (aau (n:=n) (hw.mono zS) (hu.mono zS)) (by show 2<2^62;decide)) ?_;rintro w rfl;rw[xav (by
  intro t ht;simp only[xag,xaw,xa1]at ht;rcases ht with rfl|rfl
  ·exact⟨⟨by simp,by simpa using hf⟩,rfl⟩
  exact⟨⟨by simp,by simpa using hg⟩,rfl⟩)]
 refine Un.not (Br.no (Ld.f ?_));refine aa.pre (H':=(b7,.cells #[iv 0,.slice none 0 0] 37 zZ)::(b5,.cells #[iv (n:Int),s2] 37 zZ)::(b3,.cells #[iv (n:Int),s1] 37 zZ)::(b1,.cells #[.int .u8 (op:Int)] 5 zZ)::B) .tail ?_;refine aa.pq (nW hf.tw rfl zK (F:=λi=>vS op (ws.getD i 0) (us.getD i 0) 4) (λi _=>tY (eF hf) (eF hg) 4) (B:=(b5,.cells #[iv (n:Int),s2] 37 zZ)::(b3,.cells #[iv (n:Int),s1] 37 zZ)::(b1,.cells #[.int .u8 (op:Int)] 5 zZ)::B)
  λi hi=>OZ (Go.Sx.At.block (l:=[iv (n:Int),s1]) zM) (Go.Sx.At.block (l:=[iv (n:Int),s2]) zM) (Go.Sx.At.block (l:=[.int .u8 (op:Int)]) zM) (hw.mono zS) (hu.mono zS) hf hg hop hi) ?_
 rintro w N ⟨s',rfl,hw'⟩;refine St.p ?_ ?_
 ·have:=bC hw';simpa[Value.oneCell']using this
 refine au.q ?_;refine AJ.mk (by repeat (first|exact bH.refl _|apply bH.cons|apply bH.app)) ⟨_,rfl,_,⟨s',rfl,hw'.mono zS⟩,gP hf.tw,jj (λx hx=>?_) (λx=>by rw[nZ,nZ])⟩;rw[Sk (eF hf) (eF hg) (xbu _ zD),jY hx,jY hx]
theorem OY{p1 p2 p3 s1 s2 s3:zV}{n i:Nat}{ws us rs:zL}(h1:Go.Sx.At B p1 [iv (n:Int),s1])(h2:Go.Sx.At B p2 [iv (n:Int),s2])(h3:Go.Sx.At B p3 [iv (n:Int),s3])(hw:Words B s1 ws)(hu:Words B s2 us)(hr:Words B s3 rs)(hf:an.dG n ws)(hg:an.dG n us)(hh:an.dG n rs)(hi:i<an.wN n):
  Rd zQ 92 #[iv (i:Int),p1,p2,p3] B (· =.int .u64 (((ws.getD i 0&&&us.getD i 0)|||((18446744073709551615-ws.getD i 0) &&&rs.getD i 0):Nat):Int)):=by
 have lw:=eF (i:=i) hf;have lu:=eF (i:=i) hg;have lr:=eF (i:=i) hh;refine aK λg=>MS (ag.at h1 λq hq=>Ld.at hq (λ_ h=>h) ?_);refine hw.1.ld (cI (ji hf hi)) (λ_ h=>h) ?_;refine ag.at h2 λq hq=>Ld.at hq (λ_ h=>h) ?_;refine hu.1.ld (cI (ji hg hi)) (λ_ h=>h) ?_;refine ae.fY (by simpa only[aU]using lw) (by simpa only[aU]using lu) (ag.at h1 λq hq=>Ld.at hq (λ_ h=>h) ?_);refine hw.1.ld (cI (ji hf hi)) (λ_ h=>h) ?_;refine Un.Ko lw ?_;refine ag.at h3 λq hq=>Ld.at hq (λ_ h=>h) ?_;refine hr.1.ld (cI (ji hh hi)) (λ_ h=>h) ?_;exact ae.fY (by simp only[aU];omega) (by simpa only[aU]using lr) (ae.Of (xaL xcd (by simpa only[aU]using lw)) (xaL xcd (by simp only[aU];omega)) (bE.mk (.refl _) rfl))
theorem aat{bx n:Nat}{s1 s2 s3:zV}{ws us rs:zL}(h1:Words B s1 ws)(h2:Words B s2 us)(h3:Words B s3 rs):iC ((bx,.cells (rows [[iv (n:Int),s1],[iv (n:Int),s2],[iv (n:Int),s3]]) 37 zZ)::B) (.slice (some ⟨bx,0,none⟩) 3 3) [⟨n,ws⟩,⟨n,us⟩,⟨n,rs⟩]:=by
 refine⟨[[iv (n:Int),s1],[iv (n:Int),s2],[iv (n:Int),s3]],(Sl.fi (aO.made (T:=37) (k:=2) (b:=bx) _ zI) zD).mono λ_ h=>by simp at h;rw[h];exact .head _,rfl,λi r x hr hx=>?_⟩
 match i with
 |0=>simp at hr hx;subst hr;subst hx;exact⟨s1,rfl,h1.mono λ_ h=>.tail _ h⟩
 |1=>simp at hr hx;subst hr;subst hx;exact⟨s2,rfl,h2.mono λ_ h=>.tail _ h⟩
 |2=>simp at hr hx;subst hr;subst hx;exact⟨s3,rfl,h3.mono λ_ h=>.tail _ h⟩
 |i+3=>simp at hr
theorem IJ{v1 v2 v3:zV}{n:Nat}{f1 f2 f3:aE.Fn}(h1:eH B v1 n f1)(h2:eH B v2 n f2)(h3:eH B v3 n f3):Px zQ 44 #[v1,v2,v3] B (λr H=>∃t,r=.tuple #[t,iv 0]/\eH H t n (λx=>if f1 x then f2 x else f3 x)):=by
 obtain⟨ws,⟨s1,rfl,hw⟩,hf,rfl⟩:=h1;obtain⟨us,⟨s2,rfl,hu⟩,hg,rfl⟩:=h2;obtain⟨rs,⟨s3,rfl,hr⟩,hh,rfl⟩:=h3;refine aK λg=>Nz λb1 _ b3 _ b5 _ b7 _=>?_;refine au.q ?_;refine au.q ?_;refine au.q ?_;refine ak.XU (e:=37) (z:=.agg #[iv 0,.slice none 0 0]) zK zK zK λbx=>?_;refine aa.rd .here (vB (aat (n:=n) (hw.mono zS) (hu.mono zS) (hr.mono zS)) (by show 3<2^62;decide)) ?_;rintro w rfl;rw[xav (by
  intro t ht;simp only[xag,xaw,xa1]at ht;rcases ht with rfl|rfl|rfl
  ·exact⟨⟨by simp,by simpa using hf⟩,rfl⟩
  ·exact⟨⟨by simp,by simpa using hg⟩,rfl⟩
  exact⟨⟨by simp,by simpa using hh⟩,rfl⟩)]
 refine Un.not (Br.no (Ld.f ?_));refine aa.pre (H':=(b7,.cells #[iv 0,.slice none 0 0] 37 zZ)::(b5,.cells #[iv (n:Int),s3] 37 zZ)::(b3,.cells #[iv (n:Int),s2] 37 zZ)::(b1,.cells #[iv (n:Int),s1] 37 zZ)::B) .tail ?_;have ol:∀i,(ws.getD i 0&&&us.getD i 0)|||((18446744073709551615-ws.getD i 0) &&&rs.getD i 0)<18446744073709551616:=λi=>
  xb8 (n:=64) (xaL xcd (eF hf)) (xaL xb3 (eF hh))
 refine aa.pq (nW hf.tw rfl zK (F:=λi=>(ws.getD i 0&&&us.getD i 0)|||((18446744073709551615-ws.getD i 0) &&&rs.getD i 0)) (λi _=>ol i) (B:=(b5,.cells #[iv (n:Int),s3] 37 zZ)::(b3,.cells #[iv (n:Int),s2] 37 zZ)::(b1,.cells #[iv (n:Int),s1] 37 zZ)::B)
  λi hi=>OY (Go.Sx.At.block (l:=[iv (n:Int),s1]) zM) (Go.Sx.At.block (l:=[iv (n:Int),s2]) zM) (Go.Sx.At.block (l:=[iv (n:Int),s3]) zM) (hw.mono zS) (hu.mono zS) (hr.mono zS) hf hg hh hi) ?_
 rintro w N ⟨s',rfl,hw'⟩;refine St.p ?_ ?_
 ·have:=bC hw';simpa[Value.oneCell']using this
 refine au.q ?_;refine AJ.mk (by repeat (first|exact bH.refl _|apply bH.cons|apply bH.app)) ⟨_,rfl,_,⟨s',rfl,hw'.mono zS⟩,gP hf.tw,jj (λx hx=>?_) (λx=>by rw[nZ,nZ,nZ])⟩;rw[xcx,xa6,xa6,tM (eF hf) (xbu _ zD),jY hx,jY hx,jY hx];cases gL n ws x<;>cases gL n us x<;>cases gL n rs x<;>rfl
end
end
end Go.Proofs
namespace Go.Sx
open Go
section
variable {P:Program} {g:Gh} {H C:Hp} {c:Hp->Hp}
theorem ae.K8{kd:IntKind}{a b:Nat}{k:zV->Prop}(hb:b≠0)(h:k (.int kd ((a%b:Nat):Int))):ae .num .rem (.int kd a) (.int kd b) k:=
 ae.Wj zO rfl (by have:((a:Int)).tmod (b:Int)=((a%b:Nat):Int):=rfl;rw[this];exact h)
end
end Go.Sx
namespace Go.Sx
open Go
section
variable {P:Program} {g:Gh} {H B:Hp} {c:Hp->Hp}
theorem aI.jg{x:Nat×Obj}(h:x∈H):aI H [x]:=by
 obtain⟨A,D,rfl⟩:=xc1 h;exact .bY (aI.left (A:=[x]))
end
end Go.Sx
set_option maxRecDepth 100000
namespace Go.Proofs
open Go Go.Sx Tryz
section
open aE
section
variable {kp gb n:Nat} {vr vf:zV} {refs:zL} {fs:List (zL)} {K:Kd} {S:Nat->aE.Fn} {ord ah tr:zL} {C B:Hp}
theorem cZ.perm(hK:cZ kp K S ord ah tr C):ord.Perm (List.range K.n):=by
 have tC:=hK.od;refine jI ?_ (λx hx=>?_) (by rw[xaC,tC.len];exact xak _)
 ·refine List.pairwise_iff_getElem.2 λi j hi hj hij e=>?_;have g1:=(tC.at' i (by rw[<-tC.len];exact hi)).2;have g2:=(tC.at' j (by rw[<-tC.len];exact hj)).2;rw[xap,xab hi,e]at g1;rw[xap,xab hj]at g2;omega
 obtain⟨i,hi,rfl⟩:=xbq.1 hx;rw[tC.len]at hi;have:=(tC.at' i hi).1;rw[xap,xab (by rw[tC.len];exact hi)]at this;exact xaJ.2 this
end
end
section
open aE
theorem PE{B:Hp}{v1 v2:zV}{p q:zL}{n:Nat}(h1:dY .i64 B v1 (iw p))(h2:dY .i64 B v2 (iw q))(hp:p.Perm (List.range n))(hq:q.Perm (List.range n))(hn:n<=64):
  Fc zQ 148 #[v1,v2] B (λr H=>∃s C,r=.tuple #[s,iv 0]/\H=C++B/\aR 3 .i64 s (iw (path p q)) C):=by
 have e1:p.length=n:=by rw[hp.length_eq,xaC]
 have e2:q.length=n:=by rw[hq.length_eq,xaC]
 have gE:q.Nodup:=hq.nodup_iff.2 xbo;have hpq:=hp.trans hq.symm;refine aK λg=>HJ (aa.eq (VN h1 h2 hp hq hn) (ae.fX (Br.F (aa.fq (vM h1 (by rw[aq];omega)) ?_))));rintro va H ⟨CA,rfl,hA⟩;refine h2.bF ?_;rw[aq];refine⟨λvs H=>∃(i:Nat) (w9:zV) (C N:Hp),vs=[w9,iv (i:Int)]/\i<=n/\H=C++(N++B)/\aR 3 .i64 w9 (iw (dQ p q i)) C/\aR 3 .i64 va (iw (ax p (dQ p q i))) N,λvs _=>n-bj vs 1,
  JE.mk ⟨0,_,[],CA,rfl,xaA _,rfl,aR.nil,hA⟩,?_⟩
 rintro w9 w10 H ⟨i,u9,C,N,⟨⟩,hi,rfl,ho,hw⟩ gs;refine ae.cU (Br.dec (λhlt=>?_) (λhlt=>?_));rotate_left
 ·obtain rfl:i=q.length:=by omega
  exact aQ.mk (.cT .right _) ⟨w9,C,rfl,rfl,ho⟩
 have spec:=jc gE hpq i zO;obtain⟨s1,s2,s3⟩:=spec;obtain⟨s4,s5⟩:=s3 hlt;have ahe:=rA gE hpq (i+1) zO;have oE:(i+1)*p.length<=64*64:=xbK zO zO;refine h2.ld (n:=((q.getD i 0:Nat):Int)) (bW hlt) (λ_ h=>xaa _ (xaa _ h)) ?_;have hmem:q.getD i 0∈ax p (dQ p q i):=by
  have:q.getD i 0∈q:=by rw[xap,xab hlt];exact xaD _
  exact((j4 s1).trans hpq).mem_iff.2 this
 refine aa.eq (KM hw.ints (by rw[aq,fh];omega)) ?_;rw[xae (P6.2 hmem),Yb];refine⟨λvs H=>∃(j:Nat) (u9:zV) (P:zL) (C N:Hp),vs=[u9,iv (j:Int)]/\i<=j/\j<n/\P++Fk i j=dQ p q (i+1)/\H=C++(N++B)/\aR 3 .i64 u9 (iw P) C/\aR 3 .i64 va (iw (ax p P)) N,λvs _=>bj vs 1,
  JE.mk ⟨Zw (ax p (dQ p q i)) (q.getD i 0),w9,dQ p q i,C,N,rfl,s4,by omega,rfl,rfl,ho,hw⟩,?_⟩
 rintro w22 w23 H ⟨j,u9,P,C2,N2,⟨⟩,hij,Ta,hP,rfl,Cd,xh⟩ gs;refine ae.iF (Br.dec (λhgt=>?_) (λhgt=>?_))
 ·obtain⟨j,rfl⟩:∃k,j=k+1:=⟨j-1,by omega⟩;have hPl:P.length<=4096:=by
   have:=xb2 List.length hP;rw[xaf]at this;omega
  have hlen:(ax p P).length=n:=by rw[fh,e1]
  refine DR.self (ae.cf (b:=1) ?_);rw[xb1];refine xh.ld (x:=(((ax p P).getD (j+1) 0:Nat):Int)) (bW zO) (λ_ h=>xaa _ (xad _ h)) (ae.cf (b:=1) ?_);rw[xb1];refine xh.ld (x:=(((ax p P).getD j 0:Nat):Int)) (bW zO) (λ_ h=>xaa _ (xad _ h)) (xh.mT (x:=(((ax p P).getD (j+1) 0:Nat):Int)) (.app .left) (by rw[aq];omega) λN3 hw3=>?_);refine hw3.mT (x:=(((ax p P).getD j 0:Nat):Int)) (.app .left) (by rw[xbZ,aq];omega) λN4 hw4=>?_;have e:((iw (ax p P)).set j (((ax p P).getD (j+1) 0:Nat):Int)).set (j+1) (((ax p P).getD j 0:Nat):Int)=iw (ax p (P++[j])):=by
   rw[fP];unfold ff;rw[gx,gx]
  rw[e]at hw4;refine ae.cf (b:=1) ?_;rw[xb1];refine ak.int (e:=3) zK zK zK λbx=>?_;refine Cd.mD (.cons .left) (by exact .head _) (by rw[aq];omega) (by rw[aq];omega) λv' C3 ho3=>?_;refine ae.cf (b:=1) ?_;rw[xb1];refine az.of .tail ⟨j,v',P++[j],C3,N4,rfl,by omega,by omega,?_,rfl,by rw[cc];exact ho3,hw4⟩ ?_
  ·rw[<-hP,qN (show i<=j by omega),xai];rfl
  simp only[bj];omega
 obtain rfl:j=i:=by omega
 rw[AA (xak _),xaG]at hP;subst hP;exact ae.inc (az.of (.refl _) ⟨j+1,w22,C2,N2,rfl,by omega,rfl,Cd,xh⟩ (by simp only[bj];omega))
def wk(b kp f d:Nat)(ok:Bool):Nat×Obj:=(b,.cells #[ptr kp,iv (f:Int),iv (d:Int),.bool ok] 267 zZ)
section
variable {kp b f d:Nat} {K:Kd} {S:Nat->aE.Fn} {ord tr:zL} {C:Hp}
theorem Ku(h:At kp K S ord tr C):Fc zQ 182 #[ptr kp] C (λr H=>∃b,r=ptr b/\H=wk b kp tr.length 0 false::C):=by
 refine aK λg=>Hi (aa.eq (qO h) (Build.mk (cs:=[ptr kp,iv ((tr.length:Nat):Int),iv 0,.bool false]) zK ?_));intro b _;exact aQ.here ⟨b,rfl,rfl⟩
theorem OB(h:At kp K S ord tr C){l:Nat}(hl:l+1<K.n)(ei:tr.length<17592186044416)(hf:gw K S ord l)(hd:d<4611686018427387904):
  Fc zQ 185 #[ptr b,iv (l:Int)] (wk b kp f d false::C) (λr H=>r=iv 0/\∃C',H=wk b kp f (d+1) false::C'/\At kp K S (ff ord l) (tr++[l]) C'):=by
 refine aK λg=>wE (Ld.n ?_);refine aa.fq (tZ h hl ei hf) ?_;rintro v C' ⟨rfl,h'⟩;intro J hJ;refine ae.jM (Br.T (Ld.n ?_));refine ae.inc (Nil.ptr (ag.mk (St.one (by exact .head _) rfl zI rfl ?_)));exact JE.mk (hJ _ λgs=>aQ.here ⟨rfl,C',rfl,h'⟩)
theorem OC(h:At kp K S ord tr C){l:Nat}(hl:l+1<K.n)(ei:tr.length<17592186044416)(hf:¬gw K S ord l):
  Rd zQ 185 #[ptr b,iv (l:Int)] (wk b kp f d false::C) (· =iv 9):=by
 refine aK λg=>wE (Ld.n ?_);refine aa.eq (pK h hl ei hf) λJ hJ=>?_;exact ae.jM (Br.F (JE.mk (hJ _ λgs=>bE.mk (.refl _) rfl)))
theorem OG{ok:Bool}{path:zL}(h:At kp K S (ax ord path) (tr++path) C)(hp:∀l∈path,l+1<K.n)(ei:(tr++path).length<17592186044416)(hd:d<4611686018427387904):
  Fc zQ 227 #[ptr b] (wk b kp tr.length d ok::C) (λr H=>r=.tuple #[]/\∃C',H=wk b kp tr.length (d+path.length) ok::C'/\At kp K S ord tr C'):=by
 have mg:path.length<17592186044416:=by rw[xaf]at ei;omega
 refine aK λg=>GL (DR.of (R:=[wk b kp tr.length d ok]) (aI.left (A:=[_]) (B:=C)) (Ld.n ?_));refine Ld.n ?_;refine aa.fq (args:=#[ptr kp,iv ((tr.length+0:Nat):Int)]) (JR h hp (xaA _) ei) ?_;rintro v C' ⟨rfl,h'⟩;rw[List.take_zero,xaG]at h';refine⟨aI.left (A:=[_]) (B:=C'),?_⟩;refine Ext.two (Ld.n ?_);refine ae.eZ (Nil.ptr (ag.mk (St.one (by exact .head _) rfl zI rfl ?_)));exact aQ.here ⟨rfl,C',rfl,h'⟩
theorem Kq:Rd zQ 184 #[ptr b] (wk b kp f d true::C) (· =.tuple #[]):=by
 refine aK λg=>wF (Ld.n ?_);exact Un.not (Br.no (bE.mk (.refl _) rfl))
theorem Kr{path:zL}(h:At kp K S (ax ord path) (tr++path) C)(hp:∀l∈path,l+1<K.n)(ei:(tr++path).length<17592186044416)(hd:d<4611686018427387904):
  Fc zQ 184 #[ptr b] (wk b kp tr.length d false::C) (λr H=>r=.tuple #[]/\∃C',H=wk b kp tr.length (d+path.length) false::C'/\At kp K S ord tr C'):=by
 refine aK λg=>wF (Ld.n ?_);refine Un.not (Br.yes (aa.fq (OG h hp ei hd) ?_));rintro v H ⟨rfl,C',rfl,h'⟩;exact aQ.here ⟨rfl,C',rfl,h'⟩
theorem Su(h:At kp K S ord tr C){v:Nat}(hv:v<K.n):Rd zQ 140 #[ptr kp,iv (v:Int)] C (λr=>∃p,p<K.n/\ord.getD p 0=v/\r=.tuple #[iv (p:Int),iv 0]):=by
 obtain⟨K',S',fI,h,hk⟩:=h;obtain⟨b,rfl,hO⟩:=h.rep;have hn:=hO.rC;have mr:v<K'.n:=by rw[hk.n];exact hv
 have hlen:v<fI.length:=by rw[hO.ol.2];exact mr
 refine aK λg=>wI (ae.aJ (Br.no (aa.eq (tN h.rep (v:Int)) ?_)));rw[xav zO];refine Un.not (Br.no (Ld.n ?_));refine hO.lv.ld (x:=((fI.getD v 0:Nat):Int)) (bW hlen) (bB.sub (.cons (.app (.app (.app (.app (.app .left))))))) (bE.mk (.refl _) ⟨fI.getD v 0,?_,?_,rfl⟩)
 ·rw[<-hk.n];exact h.ok.lv.lt v mr
 exact h.od.of h.ok.lv mr
def Ka(kp:Nat)(K:Kd)(S:Nat->aE.Fn)(ord tr ls:zL)(r:zV)(C:Hp):Prop:=
 ((rm K S).can ord ls=true/\r=.tuple #[iv ((ls.length:Nat):Int),iv 0]/\At kp K S (ax ord ls) (tr++ls) C)\/
 ((rm K S).can ord ls=false/\r=.tuple #[iv ((2*((rm K S).goes 0 ls ord).length:Nat):Int),iv 9]/\At kp K S ord tr C)
theorem Uv{Y:Hp}{v:zV}{ls:zL}(h:At kp K S ord tr C)(hI:dY .i64 Y v (iw ls))(hp:∀l∈ls,l+1<K.n)(ei:tr.length+ls.length<17592186044416):
  Fc zQ 149 #[ptr kp,v] (Y++C) (λr H=>∃C',H=Y++C'/\Ka kp K S ord tr ls r C'):=by
 let m:=rm K S
 have hgl:=m.kF 0 ls ord;have hpt:∀i,∀l∈ls.take i,l+1<K.n:=λi l hl=>hp l (xci hl);refine aK λg=>HH λb1 _=>?_;refine aa.fq (Ku h) ?_;rintro v3 H ⟨b,rfl,rfl⟩;intro b5 _;refine St.one (by exact .head _) rfl zI rfl ?_;refine hI.bF ?_;rw[aq];refine⟨λvs H=>∃i C2,i<=(m.goes 0 ls ord).length/\vs=[iv (i:Int)]/\H=(b5,.cells #[ptr b] 264 zZ)::(b1,.cells #[iv 0] 3 zZ)::(Y++(wk b kp tr.length i false::C2))/\At kp K S (ax ord (ls.take i)) (tr++ls.take i) C2,
  λvs _=>ls.length-bj vs 0,JE.mk ⟨0,C,xaA _,rfl,rfl,by simpa[ax]using h⟩,?_⟩
 rintro w13 H ⟨i,C2,hi,⟨⟩,rfl,h2⟩ gs;have QH:(tr++ls.take i).length<17592186044416:=by rw[xaf,xbs];omega
 refine ae.cU (Br.dec (λhlt=>?_) (λhlt=>?_))
 ·refine hI.ld (n:=((ls.getD i 0:Nat):Int)) (bW hlt) (λ_ h=>.tail _ (.tail _ (xad _ h))) ?_;have eg:ls.getD i 0=ls[i]:=by rw[xap,xab hlt];rfl
  have yC:ls.getD i 0+1<K.n:=by rw[eg];exact hp _ (xaD hlt)
  have eq:ls[i]? =some (ls.getD i 0):=by rw[eg];exact xab hlt
  refine Ld.q ?_;by_cases hg:i<(m.goes 0 ls ord).length
  ·have hf:gw K S (ax ord (ls.take i)) (ls.getD i 0):=mS.1 (m.Rl hg eq);refine aa.fn (.cons (.cons (.app .here))) (OB h2 yC QH hf zO) ?_;rintro r H ⟨rfl,C3,rfl,h3⟩;refine ae.fX (Br.F (ae.inc (az.mk ⟨i+1,C3,hg,rfl,rfl,?_⟩ (by simp only[bj];omega))));have e:ls.take (i+1)=ls.take i++[ls.getD i 0]:=by rw[xbn,eq];rfl
   rw[e,fP,<-xai];exact h3
  obtain rfl:i=(m.goes 0 ls ord).length:=by omega
  have hf:¬gw K S (ax ord (ls.take (m.goes 0 ls ord).length)) (ls.getD (m.goes 0 ls ord).length 0):=λhf=>by
   have h8:=m.L4 eq;have h9:=mS.2 hf;rw[show(rm K S).fit _ _=false from h8]at h9;cases h9
  refine aa.eq (OC h2 yC QH hf) (ae.fX (Br.T (St.one (by exact .tail (.head _)) rfl zI rfl ?_)));refine tf (R:=_) ?_;unfold L183;refine Ld.q ?_;refine aa.fn (.cons (.cons (.app .here))) (Kr h2 (hpt _) QH zO) ?_;rintro r H ⟨rfl,C3,rfl,h3⟩;refine Ld.q ?_;have eD:(m.goes 0 ls ord).length+(ls.take (m.goes 0 ls ord).length).length=2*(m.goes 0 ls ord).length:=by rw[xbs];omega
  rw[eD];refine Ld.n ?_;refine St.one (by exact .tail (.head _)) rfl zI rfl ?_;refine⟨⟨_,rfl⟩,?_⟩;refine Ld.q ?_;refine aQ.mk (.skip (.skip (.cT .tail _))) ⟨C3,rfl,.inr ⟨xaq (show¬(m.goes 0 ls ord).length=ls.length by omega),rfl,h3⟩⟩
 have QM:i=ls.length:=by omega
 subst QM;rw[xbc]at h2;have hcan:(rm K S).can ord ls=true:=xav (show(m.goes 0 ls ord).length=ls.length by omega);refine Ld.q ?_;refine Nil.ptr (ag.mk (St.one (cu.tail (cu.tail (cu.aH (.head _) _))) rfl zI rfl ?_));refine St.one (by exact .tail (.head _)) rfl zI rfl ?_;refine tf (R:=_) ?_;unfold L183;refine Ld.q ?_;refine aa.eq (B:=wk b kp tr.length ls.length true::C2) Kq (Ld.q ?_);refine Ld.n ?_;refine St.one (by exact .tail (.head _)) rfl zI rfl ?_;refine⟨⟨_,rfl⟩,?_⟩;refine Ld.q ?_;refine aQ.mk (.skip (.skip (.cT .tail _))) ⟨C2,rfl,.inl ⟨hcan,rfl,h2⟩⟩
end
section
variable {kp b f d:Nat} {K:Kd} {S:Nat->aE.Fn} {ord tr:zL} {C:Hp}
theorem Ka.tup{ls:zL}{r:zV}(h:Ka kp K S ord tr ls r C):∃x y,r=.tuple #[x,y]:=by
 rcases h with⟨_,rfl,_⟩|⟨_,rfl,_⟩<;>exact⟨_,_,rfl⟩
theorem BB{Y:Hp}{v:zV}{q:zL}(h:At kp K S ord tr C)(hI:dY .i64 Y v (iw q))(Oi:ord.Perm (List.range K.n))(hpq:q.Perm (List.range K.n))(ei:tr.length<17454747090944):
  Fc zQ 114 #[ptr kp,v] (Y++C) (λr H=>∃C',H=Y++C'/\Ka kp K S ord tr (path ord q) r C'):=by
 have hn:=h.rC;have xk:ord.length=K.n:=by rw[Oi.length_eq,xaC]
 have hql:q.length=K.n:=by rw[hpq.length_eq,xaC]
 have gE:q.Nodup:=hpq.nodup_iff.2 xbo;refine aK λg=>Ik (ae.aJ (Br.no ?_));intro J2 Jq;refine aa.rq (rz hI (by rw[aq];omega)) ?_;rintro r (⟨rfl,ha,hl⟩|⟨_,_,hl⟩|⟨_,hno⟩);rotate_left
 ·rw[aq]at hl;omega
 ·exact absurd (vX hpq) hno
 refine ae.fX (Split.go zD ?_);refine hI.bF (aa.eq (l7 h) (ae.mF ?_));rw[xaq (by rw[aq];omega)];refine aS.mk (JE.mk (Jq _ _ λgs=>Br.no ?_));refine aa.fq (Ss h) ?_;rintro vo H ⟨N,rfl,ho⟩;refine aa.pre (H':=(N++Y)++C) (.perm (by rw[xai,<-xai,<-xai];exact xaW.append_right C)) (aa.fq (PE (ho.ints.mono λ_ h=>xad _ h) (hI.mono λ_ h=>xaa _ h) Oi hpq hn) ?_);rintro r H ⟨s,CP,rfl,rfl,hP⟩;refine Ext.mk rfl (Ext.mk rfl (ae.fX (Br.F ?_)));obtain⟨_,mg⟩:=tL gE (Oi.trans hpq.symm);have ag9:(path ord q).length<=4096:=by
  have:=rA gE (Oi.trans hpq.symm) q.length (xak _);have h2:q.length*ord.length<=64*64:=xbK zO zO;unfold path;omega
 refine aa.fq (Uv h (hP.ints.mono λ_ h=>xad _ h) (λx hx=>by have:=mg x hx;omega) zO) ?_;rintro r H ⟨C',rfl,hM⟩;obtain⟨x,y,rfl⟩:=hM.tup;refine Ext.two (aQ.mk ?_ ⟨C',rfl,hM⟩);rw[xai,xai];exact aI.right.trans .right
def Uz(p:Nat):Nat->Nat->Nat
 |0,_=>p
 |_,k=>p-k
def LU(n p:Nat):Nat->Nat->Nat
 |0,k=>p+k
 |_,_=>n-1
end
end
end Go.Proofs
namespace aE
open an
section
variable {n:Nat} {ord:zL} {L:an.Fs}
theorem PV{n v:Nat}{t:zL}(hn:n<=16)(hf:dG n t)(hv:v<n)(h:∀u,u<n->u≠v->¬fm (gL n t) u)(x:Nat):gL n t x=gL n t (aD 0 v (x.testBit v)):=by
 have key:∀b,gL n t (aD x v b)=gL n t (aD 0 v b):=λb=>by
  have e:=Aq hf hv b;have abG:=RG (n:=n) (ws:=gf n t v b) (λu hu=>by
   rw[e];rintro⟨y,hy⟩;simp only at hy;by_cases huv:u=v
   ·subst huv;rw[ri,ri]at hy;exact hy rfl
   rw[dx huv,dx huv]at hy;exact h u hu huv ⟨_,hy⟩)
  have:=abG x;rw[e]at this;exact this
 have:=key (x.testBit v);rwa [iS]at this
theorem Qb(hL:∀t∈L,dG n t)(hn:n<=16)(DK:1<=n)(hp:ord.Perm (List.range n)):(qj n ord L (n-1)).length<=2:=by
 have xk:ord.length=n:=by rw[hp.length_eq,xaC]
 have hmem:∀i,i<n->ord.getD i 0<n:=λi hi=>by
  have:ord.getD i 0∈ord:=by rw[xap,xab zO];exact xaD _
  exact xaJ.1 (hp.mem_iff.1 this)
 have aF:∀u,u<n->∃j,j<n/\ord.getD j 0=u:=λu hu=>by
  obtain⟨j,hj,e⟩:=xbq.1 (hp.mem_iff.2 (xaJ.2 hu));exact⟨j,by omega,by rw[xap,xab hj];exact e⟩
 have hv:=hmem (n-1) zO;have facts:∀t∈qj n ord L (n-1),dG n t/\(∀x,gL n t x=if x.testBit (ord.getD (n-1) 0)then !gL n t 0 else gL n t 0):=by
  intro t ht;obtain⟨h1,h2⟩:=mW.1 ht;have hf:=n6 hL hn (n-1) t h1;have mG:=(Ap hL hn hmem (n-1) zO (gL n t)).2 ⟨t,h1,rfl⟩;have hone:=PV hn hf hv (λu hu hne=>by
   obtain⟨j,hj,e⟩:=aF u hu;rw[<-e];exact qz (n-1) _ mG j (by
    have:j≠n-1:=λh=>hne (by rw[<-e,h]);omega))
  have h0:gL n t (aD 0 (ord.getD (n-1) 0) false)=gL n t 0:=by
   have:=hone 0;rw[xcX]at this;exact this.symm
  obtain⟨x,hx⟩:=(rS hf hv).2 h2;have e1:=hone (aD x (ord.getD (n-1) 0) false);have e2:=hone (aD x (ord.getD (n-1) 0) true);rw[aj,xae rfl]at e1 e2;rw[e1,e2,h0]at hx;refine⟨hf,λy=>?_⟩;rw[hone y];cases hb:y.testBit (ord.getD (n-1) 0)
  ·rw[h0];simp
  rw[xae rfl];have key:∀a b:Bool,a≠b->b= !a:=by decide
  exact key _ _ hx
 have gE:(qj n ord L (n-1)).Nodup:=(rW (n-1)).filter _;have h1:((qj n ord L (n-1)).map λt=>gL n t 0).Nodup:=by
  refine xb9.2 (gE.imp_of_mem λ{a b} ha hb hne heq=>hne ?_);obtain⟨fa,ga⟩:=facts a ha;obtain⟨fb,gb⟩:=facts b hb;exact Jw fa fb (funext λx=>by rw[ga,gb,heq])
 have:=bN h1 (l':=[true,false]) λb _=>by cases b<;>simp
 simpa using this
end
end aE
namespace aE
theorem rp{p j:Nat}(h:p<=j):road p (j+1)=road p j++[j]:=by
 unfold road;rw[show p-(j+1)=0 by omega,show p-j=0 by omega,show j+1-p=(j-p)+1 by omega,List.range'_concat];simp;omega
theorem ru{p j:Nat}(h:j<p):road p j=road p (j+1)++[j]:=by
 unfold road;rw[show j-p=0 by omega,show j+1-p=0 by omega,show p-j=(p-(j+1))+1 by omega,List.range'_succ];simp
theorem fR(p:Nat):road p p=[]:=by unfold road;simp
theorem JK(m:Rm){Q:zL->Prop}(hs:∀ord l,Q ord->l+1<m.n->Q (ff ord l))(hf:∀ord l,Q ord->l+1<m.n->m.fit ord l=true):∀{ls:zL} {ord:zL},Q ord->(∀x∈ls,x+1<m.n)->m.can ord ls=true
 | [],_,_,_=>xav rfl
 |l::ls,ord,hq,hl=>by
  have h1:=hl l zI;have ih:=JK m hs hf (ls:=ls) (hs ord l hq h1) (λx hx=>hl x (by simp[hx]));unfold Rm.can at ih⊢;have:=xcl ih;rw[Rm.goes,xaZ,xae (hf ord l hq h1),xal,xal,this];exact xav rfl
end aE
set_option maxRecDepth 100000
namespace Go.Proofs
open Go Go.Sx Tryz
open aE
section
variable {kp gb n:Nat} {vr vf:zV} {refs:zL} {fs:List (zL)} {K:Kd} {S:Nat->aE.Fn} {ord tr:zL} {C Z:Hp}
theorem tK{ord:zL}(hp:ord.Perm (List.range n)):∀i,i<n->ord.getD i 0<n:=λi hi=>by
 have xk:ord.length=n:=by rw[hp.length_eq,xaC]
 have:ord.getD i 0∈ord:=by rw[xap,xab zO];exact xaD _
 exact xaJ.1 (hp.mem_iff.1 this)
end
end Go.Proofs
namespace Go.Sx
open Go Go.ChangeShapes Go.WideShapes Go.Deep
section
variable {H:Type} {enc:TypeId×zV->H} {P:Program} {W:World} {base:Nat} {spare:Nat->Bool} {held:Bool}
theorem r5(a:Addr)(n:Nat):(a.add n).block=a.block:=by unfold Addr.add;split<;>rfl
theorem AI(a:Addr)(n:Nat):(a.add n).off=a.off+n:=by unfold Addr.add;split<;>simp_all
theorem jN{b:Nat}{a:Addr}{k:Nat}{cs:List zV}(hk:0<k)(h:W.cells? b a k=some cs):
  a.spot=none/\∃c T fz,W.heap[a.block]? =some (.cells c T fz)/\a.off+k<=c.size/\c.extract a.off (a.off+k)=cs.toArray:=by
 obtain⟨_,hl,hg⟩:=World.cells?_some h;have h0:=hg 0 hk;have hc0:W.cell? a=some (cs[0]' zO):=by
  have:a.add 0=a:=by simp[Addr.add]
  rw[this]at h0;rw[h0];exact xab zO
 unfold World.cell? at hc0;split at hc0
 ·rename_i c T fz hb;cases hs:a.spot with
  |some s=>rw[hs]at hc0;simp at hc0
  |none=>
   have hcell:∀i,i<k->c[a.off+i]? =cs[i]? :=λi hi=>by
    have:=hg i hi;unfold World.cell? at this;rw[r5,hb]at this;simp only[AI]at this;have hsp:(a.add i).spot.isSome=false:=by unfold Addr.add;split<;>simp[hs]
    rw[hsp]at this;simpa using this
   have hsz:a.off+k<=c.size:=by
    have:=hcell (k-1) zO;rw[xab zO]at this;have:=(xaP.1 this).1;omega
   refine⟨rfl,c,T,fz,hb,hsz,?_⟩;apply Array.ext_getElem?;intro i;rw[xdt];by_cases hi:i<k
   ·rw[xae zO,hcell i hi];simp
   rw[xac zO];simp;omega
 simp at hc0
theorem Zy{t e:TypeId}{v:zV}{d:DataW H}{ps:List MemPlace}{r:Reach}{b0 k:Nat}(ht:P.underlying t=some (.slice e))(hk:P.cellsOf e=k)(LQ:0<k)(hv:Value.okWide P W r b0 t v)(h:DataW.Trod enc P W base spare held t v d ps):
  (v=.slice none 0 0/\d=.nil)\/∃(a:Addr) (n cap:Nat) (es sp:List (DataW H)),v=.slice (some a) n cap/\d=.slice es sp/\es.length=n/\n<=cap/\
   ∀i,i<n->∃c T fz cs,a.spot=none/\(a.block,Obj.cells c T fz)∈whole W/\a.off+i*k+k<=c.size/\c.extract (a.off+i*k) (a.off+i*k+k)=cs.toArray/\∃fuel y,DataW.trod enc P W base spare held fuel e cs=some y/\cs.length=k:=by
 obtain⟨a0,n0,c0,rfl⟩:=okWide_slice ht hv;obtain⟨fuel,hf⟩:=h;rcases open_slice ht hf with⟨h1,h2⟩|⟨a,len,cap,m,n,D,Pl,hcs,hb,hl,hm,EP,hx,hi⟩
 ·left;simp only[Value.cells,xay,xa5]at h1;simp only[xdp]at h2;exact⟨by simpa using h1,h2.1⟩
 right;simp only[xdp]at hx;have mr:Value.slice a0 n0 c0=.slice (some a) len cap:=by simpa[Value.cells]using hcs
 have hlm:len<=m:=by rw[EP];split<;>omega
 refine⟨a,len,cap,_,_,mr,hx.1,by simp,hl,λi hin=>?_⟩;have hkk:=hk;have B9:a.spot=none:=by
  obtain⟨cs0,hc0,_⟩:=hi 0 zO;rw[hk]at hc0;rw[show a.add (0*k)=a by simp[Addr.add]]at hc0;exact(jN LQ hc0).1
 obtain⟨cs,hc,hd⟩:=hi i zO;rw[hk]at hc;obtain⟨_,hlen,_⟩:=World.cells?_some hc;obtain⟨_,c,T,fz,h1,h2,h3⟩:=jN LQ hc;rw[r5]at h1;rw[AI]at h2 h3;exact⟨c,T,fz,cs,B9,x9 h1,h2,h3,n,_,hd,hlen⟩
theorem KD{t e:TypeId}{cs:List zV}{x:DataW H×List MemPlace}{fuel k:Nat}(ht:P.underlying t=some (.slice e))(hk:P.cellsOf e=k)(LQ:0<k)(h:DataW.trod enc P W base spare held fuel t cs=some x):
  ∃(v:zV) (rs:List (List zV)),cs=[v]/\Sl k (whole W) v rs/\((rs=[]/\x.1=.nil)\/∃es sp,x.1=.slice es sp/\es.length=rs.length)/\
   ∀(i:Nat) (r:List zV),rs[i]? =some r->∃(fuel:Nat) (y:DataW H×List MemPlace) (es sp:List (DataW H)),DataW.trod enc P W base spare held fuel e r=some y/\x.1=.slice es sp/\es[i]? =some y.1:=by
 rcases open_slice ht h with⟨h1,h2⟩|⟨a,len,cap,m,n,D,Pl,hcs,hb,hl,hm,EP,hx,hi⟩
 ·exact⟨_,[],h1,Sl.nil _ _,.inl ⟨rfl,by rw[h2]⟩,λi r hr=>by simp at hr⟩
 have hlm:len<=m:=by rw[EP];split<;>omega
 have hex:∃rs:List (List zV),rs.length=len/\∀i r,rs[i]? =some r->W.cells? base (a.add (i*k)) k=some r/\DataW.trod enc P W base spare held n e r=some (D i,Pl i):=by
  clear hcs hx hl EP;induction len with
  |zero=>exact⟨[],rfl,λi r hr=>by simp at hr⟩
  |succ len ih=>
   obtain⟨rs,h1,h2⟩:=ih zO;obtain⟨r,h3,h4⟩:=hi len zO;rw[hk]at h3;refine⟨rs++[r],by simp[h1],λi r' hr=>?_⟩;by_cases hlt:i<rs.length
   ·rw[xaS hlt]at hr;exact h2 i r' hr
   rw[xbC zO]at hr;have EU:i-rs.length=0:=by
    by_cases e:i-rs.length=0
    ·exact e
    rw[xaH zP]at hr;cases hr
   rw[EU]at hr;simp only[xbY,xar]at hr;subst hr;obtain rfl:i=len:=by omega
   exact⟨h3,h4⟩
 obtain⟨rs,Cb,tB⟩:=hex;have aF:∀r∈rs,r.length=k:=λr hr=>by
  obtain⟨i,hi,e⟩:=xbq.1 hr;obtain⟨hc,_⟩:=tB i r (by rw[xab hi,e]);exact(World.cells?_some hc).2.1
 refine⟨.slice (some a) len cap,rs,hcs,⟨aF,?_⟩,.inr ⟨_,_,by rw[hx],by simp[Cb]⟩,λi r hr=>?_⟩
 ·cases rs with
  |nil=>exact .inl ⟨some a,cap,by rw[<-Cb];rfl,rfl⟩
  |cons r0 rest=>
   right;obtain⟨hc0,_⟩:=tB 0 r0 rfl;obtain⟨B9,c,T,fz,hb0,_,_⟩:=jN LQ hc0;rw[show a.add (0*k)=a by simp[Addr.add]]at B9 hb0;obtain⟨ab,ao,asp⟩:=a;simp only at B9 hb0;subst B9;have abU:∀i r,(r0::rest)[i]? =some r->ao+i*k+k<=c.size/\c.extract (ao+i*k) (ao+i*k+k)=r.toArray:=λi r hr=>by
    obtain⟨hc,_⟩:=tB i r hr;obtain⟨_,c',T',fz',h1,h2,h3⟩:=jN LQ hc;rw[r5]at h1;rw[AI]at h2 h3;simp only at h1 h2 h3;rw[hb0]at h1;simp only[xar,Obj.cells.injEq]at h1;obtain⟨rfl,_,_⟩:=h1;exact⟨h2,h3⟩
   refine⟨ab,ao,cap,c,T,fz,by rw[Cb],by omega,x9 hb0,?_,λi r hr j v hj=>?_⟩
   ·have aby:=abU (rest.length) ((r0::rest)[rest.length]' zI) (xab zI);have:=aby.1;simp only[xal,xbt];omega
   obtain⟨h1,h2⟩:=abU i r hr;have U7:j<k:=by
    have:=(xah.1 hj).1;rw[aF r (xaz hr)]at this;exact this
   have h3:=xb2 (λz:Array zV=>z[j]?) h2;simp only[xdt,xcp]at h3;rw[hj]at h3;rw[<-h3,xae zO]
 obtain⟨_,hd⟩:=tB i r hr;have QM:i<len:=by rw[<-Cb];exact(xah.1 hr).1
 exact⟨n,_,_,_,hd,by rw[hx],by simp[QM]⟩
theorem KE{t e:TypeId}{q:IntKind}{cs:List zV}{x:DataW H×List MemPlace}{fuel:Nat}(ht:P.underlying t=some (.slice e))(he:P.underlying e=some (.int q))(hk:P.cellsOf e=1)(h:DataW.trod enc P W base spare held fuel t cs=some x):
  ∃(v:zV) (l:List Int),cs=[v]/\dY q (whole W) v l/\(∀n∈l,(Lit.int q n).wf=true)/\((l=[]/\x.1=.nil)\/∃es sp,x.1=.slice es sp/\es.length=l.length):=by
 obtain⟨v,rs,hcs,Ca,hx,hr⟩:=KD ht hk zD h;have hone:∀r∈rs,∃n,r=[.int q n]/\(Lit.int q n).wf=true:=λr hm=>by
  obtain⟨i,hi,e⟩:=xbq.1 hm;obtain⟨f,y,_,_,hy,_⟩:=hr i r (by rw[xab hi,e]);obtain⟨n,h1,_,h2⟩:=DataW.trod_int he hy;exact⟨n,h1,h2⟩
 have hex:∃l:List Int,rs=l.map (λn=>[Value.int q n])/\∀n∈l,(Lit.int q n).wf=true:=by
  clear Ca hx hr hcs;induction rs with
  |nil=>exact⟨[],rfl,by simp⟩
  |cons r rest ih=>
   obtain⟨l,h1,h2⟩:=ih λr hm=>hone r (by simp[hm]);obtain⟨n,h3,h4⟩:=hone r zI;exact⟨n::l,by simp[h1,h3],λm hm=>by rcases xag.1 hm with rfl|hm;exact h4;exact h2 m hm⟩
 obtain⟨l,rfl,hwf⟩:=hex;refine⟨v,l,hcs,Ca,hwf,?_⟩;rcases hx with⟨h1,h2⟩|⟨es,sp,h1,h2⟩
 ·exact .inl ⟨by simpa using h1,h2⟩
 exact .inr ⟨es,sp,h1,by simpa using h2⟩
end
end Go.Sx
set_option maxRecDepth 100000
namespace Go.Proofs
open Go Go.Sx Tryz
section
open Go.ChangeShapes Go.WideShapes Go.Deep
variable {H:Type} {enc:TypeId×zV->H} {W:World} {base:Nat} {spare:Nat->Bool} {held:Bool}
theorem UD{f:FuncId}{args:Array zV}{W:World}(h:Rd zQ f args (whole W) (· =.bool true)):
  Calls zQ f args W λe W'=>e=.returned (.bool true)/\Go.RowKit.Below W.heap.size W W':=
 X5 (h.mono λ_ _ ⟨h1,h2⟩=>⟨by rw[h1];exact .refl _,h2⟩)
theorem Ll{l:List Int}(hb:∀x∈l,0<=x/\x<=255):iw (l.map Int.toNat)=l:=by
 unfold iw;rw[xbL]
 conv=>rhs;rw[<-xd0 l]
 apply xbi;intro x hx;have:=hb x hx;show((x.toNat:Nat):Int)=x;omega
theorem Sa{v:zV}{d:DataW H}{ps:List MemPlace}(h:DataW.Trod enc zQ W base spare held 34 v d ps)(hv:∃a n c,v=.slice a n c):
  ∃l:zL,dY .u8 (whole W) v (iw l)/\(∀x∈l,x<256)/\((∀n∈d.weights zQ 34,n<=reachBytes)->l.length<=140737488351232):=by
 obtain⟨fuel,hf⟩:=h;have k3:Tryz.prog.cellsOf 5=1:=by kernel_rfl
 obtain⟨v',l,hcs,hi,hwf,hw⟩:=KE Tryz.underlying34 Tryz.underlying5 k3 hf;have AS:v'=v:=by
  obtain⟨a,n,c,rfl⟩:=hv;simpa[Value.cells]using hcs.symm
 subst AS;have hb:∀x∈l,0<=x/\x<=255:=λx hx=>bounds_u8 (hwf x hx);refine⟨l.map Int.toNat,by rw[Ll hb];exact hi,λx hx=>?_,λaF=>?_⟩
 ·obtain⟨y,hy,rfl⟩:=xam.1 hx;have:=hb y hy;omega
 rw[xau];rcases hw with⟨h1,_⟩|⟨es,sp,h1,h2⟩
 ·subst h1;simp
 simp only at h1;have:=aF ((es.length+sp.length)*Tryz.prog.bytesOf 5) (by rw[h1,DataW.weights,Tryz.underlying34];exact xbP ..);rw[show Tryz.prog.bytesOf 5=1 by kernel_rfl]at this;have h3:reachBytes=140737488351232:=rfl;omega
end
end Go.Proofs
namespace Go.Sx
open Go
section
variable {P:Program} {g:Gh} {H:Hp} {K:zV->Hp->Prop} {KP:List PanicEntry->Hp->Prop}
theorem dD.panic{o:Oper}{ρ:Operand->zV}{x:Operand}{T:TypeId}{v:zV}(ho:o.op=.panic x)(hx:ρ x=.iface T v)(hk:KP [{v:=.iface T v,recovered:=false}] H):dD P g o ρ H K KP:=by
 intro w hw;have:(execOp ρ o).run P w=.halt (.panic (.iface T v)) w:=by
  simp only[execOp,ho,hx,Sem.run_bind,Instr.panic];rfl
 rw[this];exact⟨H,hw,hk⟩
theorem bA.assert{o:Oper}{ρ:Operand->zV}{k:zV->Prop}{x:Operand}{xT T:TypeId}{v:zV}{d:TypeDesc}(ho:o.op=.typeAssert x xT T true)(hx:ρ x=.iface T v)(hd:P.underlying T=some d)(hi:∀m,d≠.interface m)
 (hk:k (.tuple #[v,.bool true])):bA P g o ρ H k:=by
 refine⟨_,λw _=>?_,hk⟩;have:(Instr.typeAssert (.iface T v) xT T true).run P w=.ok (.tuple #[v,.bool true]) w:=by
  unfold Instr.typeAssert;simp only[Sem.run_bind,run_underlying hd,Result.andThen_ok];cases d<;>first|(exact absurd rfl (hi _))|simp
 simp only[execOp,ho,hx,Sem.run_bind,this,Result.andThen_ok,Sem.run_pure]
theorem bA.Jj{o:Oper}{ρ:Operand->zV}{k:zV->Prop}{x y:Operand}{t yt:TypeId}{a:zV}(ho:o.op=.binOp .neq t x y yt)(hx:ρ x=a)(hy:ρ y=.nilIface)(hd:∃m,P.underlying t=some (.interface m)){b:Bool}(ha:(a=.nilIface/\b=false/\∃v,y=.const v)\/∃T v,a=.iface T v/\b=true)
 (hk:k (.bool b)):bA P g o ρ H k:=by
 obtain⟨m,hd⟩:=hd;refine⟨_,λw _=>?_,hk⟩;have e1:eqGuard .neq t x y a .nilIface=pure ():=by
  rcases ha with⟨rfl,_,v,rfl⟩|⟨T,v,rfl,_⟩
  ·unfold eqGuard;simp
  rfl
 have e2:(Op.equal t a .nilIface).run P w=.ok (!b) w:=by
  have key:∀n,(Op.equalIn (n+1) t a .nilIface).run P w=.ok (!b) w:=λn=>by
   unfold Op.equalIn;rcases ha with⟨rfl,rfl,_⟩|⟨T,v,rfl,rfl⟩<;>simp only[Sem.run_bind,run_underlying hd,Result.andThen_ok,Sem.run_pure]<;>rfl
  exact key 9999
 have e3:binOp .neq t a .nilIface=(do pure (.bool !(<-Op.equal t a .nilIface))):=by
  rcases ha with⟨rfl,_⟩|⟨T,v,rfl,_⟩<;>rfl
 have e4:(execOp ρ o).run P w=.ok (.value (.bool b)) w:=by
  simp only[execOp,ho,hx,hy,e1,e3,Sem.run_bind,Sem.run_pure,Result.andThen_ok,e2,Bool.not_not]
 exact e4
theorem bA.mM{o:Oper}{ρ:Operand->zV}{k:zV->Prop}{x:Operand}{t:TypeId}{lo hi:Option Operand}{l:List UInt8}{i j:Nat}(ho:o.op=.slice t x lo hi none)(hd:P.underlying t=some .string)(hx:ρ x=ay l)
 (hlo:(lo=none/\i=0)\/∃q kd,lo=some q/\ρ q=.int kd (i:Int))(hhi:(hi=none/\j=l.length)\/∃q kd,hi=some q/\ρ q=.int kd (j:Int))(hij:i<=j)(hj:j<=l.length)(hk:k (ay ((l.take j).drop i))):bA P g o ρ H k:=by
 refine⟨_,λw _=>?_,hk⟩;have sz:(⟨l.toArray⟩:ByteArray).size=l.length:=by simp[ByteArray.size]
 have cut:(⟨l.toArray⟩:ByteArray).extract i j=⟨((l.take j).drop i).toArray⟩:=by
  apply ByteArray.ext;rw[ByteArray.data_extract];apply xcZ;simp[List.drop_take]
 have:(Instr.sliceAt t (ay l) (lo.map ρ) (hi.map ρ) none).run P w=.ok (ay ((l.take j).drop i)) w:=by
  have b1:∀kd cd,(Instr.sliceBound (.int kd (i:Int)) j cd).run P w=.ok i w:=λkd cd=>by simp[Instr.sliceBound,asIntOf,hij]
  have b2:∀kd cd,(Instr.sliceBound (.int kd (j:Int)) l.length cd).run P w=.ok j w:=λkd cd=>by simp[Instr.sliceBound,asIntOf,hj]
  rcases hlo with⟨rfl,rfl⟩|⟨q,kd,rfl,hq⟩<;>rcases hhi with⟨rfl,rfl⟩|⟨q2,kd2,rfl,tO⟩
  ·simp only[Instr.sliceAt,Instr.slice,Instr.sliceBounds,ay,Sem.run_bind,run_underlying hd,Result.andThen_ok,xce,xbj,xcg,xaE,xaU,Sem.run_pure,sz,b1,b2,  cut]
  ·simp only[Instr.sliceAt,Instr.slice,Instr.sliceBounds,ay,Sem.run_bind,run_underlying hd,Result.andThen_ok,xce,xbj,xcg,xaE,xaU,Sem.run_pure,sz,b1,b2,tO,cut]
  ·simp only[Instr.sliceAt,Instr.slice,Instr.sliceBounds,ay,Sem.run_bind,run_underlying hd,Result.andThen_ok,xce,xbj,xcg,xaE,xaU,Sem.run_pure,sz,b1,b2,hq,cut]
  simp only[Instr.sliceAt,Instr.slice,Instr.sliceBounds,ay,Sem.run_bind,run_underlying hd,Result.andThen_ok,xce,xbj,xcg,xaE,xaU,Sem.run_pure,sz,b1,b2,hq,tO,cut]
 simp only[execOp,ho,hx,Sem.run_bind,xce,this,Result.andThen_ok,Sem.run_pure]
theorem uD{w:World}(hw:Own g H w){b p:Nat}{s:ByteArray}{o':Obj}{H':Hp}(hu:cu b (.stringIter s p) o' H H'):∃w',(setObj b o').run P w=.ok () w'/\Own g H' w':=by
 have hm:w.heap[b]? =some (.stringIter s p):=hw.has _ hu.mem;have hlt:b<w.heap.size:=(xaP.1 hm).1;refine⟨{w with heap:=w.heap.setIfInBounds b o'},by simp[setObj,Sem.run,hm],?_⟩;refine hw.bV hu rfl rfl rfl ?_ λc hc=>?_
 ·simp[hlt]
 exact xby (xbp hc)
theorem uE{w:World}(hw:Own g H w){b p:Nat}{s:ByteArray}(hm:(b,Obj.stringIter s p)∈H):(getObj b).run P w=.ok (.stringIter s p) w:=by
 have:=hw.has _ hm;simp only at this;simp[getObj,Sem.run,this]
theorem dD.Py{o:Oper}{ρ:Operand->zV}{x:Operand}{t:TypeId}{l:List UInt8}(ho:o.op=.range t x)(ht:P.underlying t=some .string)(hx:ρ x=ay l)(hk:∀b,K (.pointer (some ⟨b,0,none⟩)) ((b,.stringIter ⟨l.toArray⟩ 0)::H)):dD P g o ρ H K KP:=by
 refine dD.ofValue (s:=Instr.range t (ay l)) (by simp only[execOp,ho,hx]) λw hw=>?_;refine⟨_,w.alloc (.stringIter ⟨l.toArray⟩ 0),_,?_,hw.alloc _,hk w.heap.size⟩;simp only[Instr.range,ay,Sem.run_bind,run_underlying ht,Result.andThen_ok,Sem.run_pure];rfl
theorem dD.Wm{o:Oper}{ρ:Operand->zV}{x:Operand}{b pos:Nat}{l:List UInt8}{C H:Hp}{c:Hp->Hp}(ho:o.op=.next x true)(hx:ρ x=.pointer (some ⟨b,0,none⟩))(hh:bB [(b,.stringIter ⟨l.toArray⟩ pos)] H c)
 (h1:pos<l.length->K (.tuple #[.bool true,.int .i64 (pos:Int),.int .i32 ((Utf8.decode ⟨l.toArray⟩ pos).1:Int)]) (c [(b,.stringIter ⟨l.toArray⟩ (pos+(Utf8.decode ⟨l.toArray⟩ pos).2))]))
 (h2:l.length<=pos->K (.tuple #[.bool false]) H):dD P g o ρ H K KP:=by
 have sz:(⟨l.toArray⟩:ByteArray).size=l.length:=by simp[ByteArray.size]
 have hm:=hh.sub _ (xaK.2 rfl);refine dD.ofValue (s:=Instr.next (.pointer (some ⟨b,0,none⟩)) true o.type) (by simp only[execOp,ho,hx]) λw hw=>?_;have hg:=uE (P:=P) hw hm;by_cases hp:pos<l.length
 ·obtain⟨w',hs,cB⟩:=uD (P:=P) hw (hh.bV (cu.head (o':=.stringIter ⟨l.toArray⟩ (pos+(Utf8.decode ⟨l.toArray⟩ pos).2)) []));refine⟨_,w',_,?_,cB,h1 hp⟩;simp only[Instr.next,Sem.run_bind,hg,Result.andThen_ok,sz,hp,xa4,hs,Sem.run_pure,goInt]
 refine⟨_,w,H,?_,hw,h2 zO⟩;simp only[Instr.next,Sem.run_bind,hg,Result.andThen_ok,sz,hp,xaU,Sem.run_pure]
end
theorem yQ{l:List UInt8}{pos:Nat}{b:UInt8}(h:l[pos]? =some b)(hb:b.toNat<128):Utf8.decode ⟨l.toArray⟩ pos=(b.toNat,1):=by
 have hg:(⟨l.toArray⟩:ByteArray).get! pos=b:=by
  have hlt:=(xah.1 h).1;have:l[pos]=b:=(xah.1 h).2;simp[ByteArray.get!,hlt,this]
 unfold Utf8.decode;simp only[xbT,hg,hb,xa4]
theorem yS{l:List UInt8}{pos:Nat}{b:UInt8}(h:l[pos]? =some b)(hb:128<=b.toNat):128<=(Utf8.decode ⟨l.toArray⟩ pos).1/\(Utf8.decode ⟨l.toArray⟩ pos).1<2147483648/\1<=(Utf8.decode ⟨l.toArray⟩ pos).2:=by
 have hg:(⟨l.toArray⟩:ByteArray).get! pos=b:=by
  have hlt:=(xah.1 h).1;have:l[pos]=b:=(xah.1 h).2;simp[ByteArray.get!,hlt,this]
 have h4:∀n:Nat,n%64<64:=λn=>xbu _ zD;unfold Utf8.decode;simp only[xbT,hg,show¬b.toNat<128 by omega,xaU]
 repeat' split
 all_goals first|(simp only[Utf8.runeError];omega)|skip
 all_goals
  rename_i h5;first|(have a1:=h4 ((⟨l.toArray⟩:ByteArray).get! (pos+1)).toNat;simp only[ge_iff_le]at h5⊢;omega)|skip
 all_goals
  simp only[ge_iff_le,xaB,xaQ]at h5;have a1:=h4 ((⟨l.toArray⟩:ByteArray).get! (pos+1)).toNat;have a2:=h4 ((⟨l.toArray⟩:ByteArray).get! (pos+2)).toNat;have a3:=h4 ((⟨l.toArray⟩:ByteArray).get! (pos+3)).toNat;refine⟨by omega,by omega,by simp⟩
theorem aL.of{l:List UInt8}{k:zV->Prop}(h:k (.int .i64 (l.length:Int))):aL (ay l) k:=⟨⟨l.toArray⟩,rfl,by
 have:(⟨l.toArray⟩:ByteArray).size=l.length:=by simp[ByteArray.size]
 rw[this];exact h⟩
theorem ae.Be{a b:List UInt8}{k:zV->Prop}(h:k (.bool (decide (a=b)))):ae .str .eql (ay a) (ay b) k:=by
 refine⟨_,rfl,?_⟩;have:((⟨a.toArray⟩:ByteArray).toList==(⟨b.toArray⟩:ByteArray).toList)=decide (a=b):=by
  rw[<-beq_toListBytes,pZ]
 rw[this];exact h
theorem ae.O8{a b:List UInt8}{k:zV->Prop}(hl:a.length+b.length<=9223372036854775807)(h:k (ay (a++b))):ae .str .add (ay a) (ay b) k:=by
 have e:(⟨a.toArray⟩:ByteArray)++⟨b.toArray⟩=⟨(a++b).toArray⟩:=by
  apply ByteArray.ext;simp
 refine⟨ay (a++b),?_,h⟩;unfold ay fL;have s1:(⟨a.toArray⟩:ByteArray).size=a.length:=by simp[ByteArray.size]
 have s2:(⟨b.toArray⟩:ByteArray).size=b.length:=by simp[ByteArray.size]
 simp only[s1,s2,hl,xa4,e]
theorem ML.nat{kd:IntKind}{a b:Nat}{k:zV->Prop}(h:k (.int kd ((min a b:Nat):Int))):ML (.int kd (a:Int)) (.int kd (b:Int)) k:=by
 refine⟨kd,a,b,rfl,rfl,?_⟩;have:(if(b:Int)<(a:Int)then(b:Int)else(a:Int))=((min a b:Nat):Int):=by split<;>omega
 rw[this];exact h
end Go.Sx
namespace Go.Proofs.Fm
structure Tok where
 k:Nat
 p:Nat
 v:Nat
def digit(b:UInt8):Bool:=decide (48<=b.toNat) &&decide (b.toNat<=57)
def num:Nat->Nat->List UInt8->Nat×Nat
 |n,k,[]=>(n,k)
 |n,k,b::r=>if digit b=false\/(k=1/\n=0)then(n,k)else num (min (10*n+(b.toNat-48)) 1048576) (k+1) r
def eB:List (List UInt8×Nat):=[([60,45,62],9),([45,62],8),([48],1),([49],2),([33],4),([38],5),([94],6),([124],7),([40],10),([41],11),([91],12),([63],13),([58],14),([93],15)]
def wT(l:List UInt8):List (List UInt8×Nat)->Option (Nat×Nat)
 | []=>none
 |s::r=>if s.1.isPrefixOf l=true then some (s.2,s.1.length)else wT l r
def kU:List UInt8->Option (Nat×Nat)
 |b::r=>if b=120/\0<(num 0 0 r).2 then some ((num 0 0 r).1,(num 0 0 r).2+1)else none
 | []=>none
def dk(l:List UInt8):Nat×Nat×Nat:=
 match kU l with
 |some (n,w)=>(3,n,w)
 |none=>match wT l eB with
  |some (k,w)=>(k,0,w)
  |none=>(16,0,0)
inductive eo:Nat->List UInt8->List Tok->Prop
 |fin {p:Nat}:eo p [] [⟨0,p,0⟩]
 |blank {p:Nat} {r:List UInt8} {o:List Tok}:eo (p+1) r o->eo p (32::r) o
 |wrong {p:Nat} {b:UInt8} {r:List UInt8}:b≠32->(dk (b::r)).1=16->eo p (b::r) [⟨16,p,0⟩]
 |tok {p:Nat} {b:UInt8} {r:List UInt8} {o:List Tok}:b≠32->(dk (b::r)).1≠16->eo (p+(dk (b::r)).2.2) ((b::r).drop (dk (b::r)).2.2) o->eo p (b::r) (⟨(dk (b::r)).1,p,(dk (b::r)).2.1⟩::o)
theorem eo.uniq{p:Nat}{l:List UInt8}{o o':List Tok}(h:eo p l o)(h':eo p l o'):o=o':=by
 induction h generalizing o' with
 |fin=>cases h';rfl
 |blank _ ih=>
  cases h' with
  |blank h=>exact ih h
  |wrong h=>exact absurd rfl h
  |tok h=>exact absurd rfl h
 |wrong hb h=>
  cases h' with
  |blank _=>exact absurd rfl hb
  |wrong _ _=>rfl
  |tok _ h2=>exact absurd h h2
 |tok hb h _ ih=>
  cases h' with
  |blank _=>exact absurd rfl hb
  |wrong _ h2=>exact absurd h2 h
  |tok _ _ h3=>rw[ih h3]
theorem eo.last{p:Nat}{l:List UInt8}{o:List Tok}(h:eo p l o):∃i t,o=i++[t]/\(t.k=0\/t.k=16)/\∀u∈i,u.k≠0/\u.k≠16:=by
 induction h with
 |fin=>exact⟨[],_,rfl,.inl rfl,nofun⟩
 |blank _ ih=>exact ih
 |wrong _ _=>exact⟨[],_,rfl,.inr rfl,nofun⟩
 | @tok p b r o hb h _ ih=>
  obtain⟨i,t,rfl,ht,hi⟩:=ih;refine⟨_::i,t,rfl,ht,λu hu=>?_⟩;rcases xag.1 hu with rfl|hu
  ·refine⟨?_,h⟩;show(dk (b::r)).1≠0;unfold dk;cases hx:kU (b::r)with
   |some q=>simp
   |none=>
    simp only;have hs:∀(L:List (List UInt8×Nat)),(∀s∈L,s.2≠0)->∀q,wT (b::r) L=some q->q.1≠0:=by
     intro L;induction L with
     |nil=>intro _ q h;cases h
     |cons s L ih=>
      intro hL q h;unfold wT at h;split at h
      ·cases h;exact hL s (.head _)
      exact ih (λs hs=>hL s (.tail _ hs)) q h
    cases hg:wT (b::r) eB with
    |none=>simp
    |some q=>exact hs eB zD q hg
  ·exact hi u hu
theorem uQ:∀(l:List UInt8) (n k:Nat),k<=(num n k l).2/\(num n k l).2<=k+l.length/\∀j,j<(num n k l).2-k->∃b,l[j]? =some b/\digit b=true
 | [],n,k=>⟨xak _,xak _,λj hj=>by simp[num]at hj⟩
 |b::r,n,k=>by
  unfold num;split
  ·exact⟨xak _,by simp,λj hj=>by simp at hj⟩
  rename_i h;obtain⟨h1,h2,h3⟩:=uQ r (min (10*n+(b.toNat-48)) 1048576) (k+1);refine⟨by omega,by simp only[xal];omega,λj hj=>?_⟩;cases j with
  |zero=>exact⟨b,rfl,by simpa using λhd=>h (.inl hd)⟩
  |succ j=>exact h3 j zO
theorem RR{b:UInt8}(h:digit b=true):b.toNat<128:=by
 unfold digit at h;simp only[xaB,xaQ]at h;omega
theorem Ec{l:List UInt8}:∀(L:List (List UInt8×Nat)),(∀s∈L,s.1≠[]/\∀b∈s.1,b.toNat<128)->∀q,wT l L=some q->1<=q.2/\q.2<=l.length/\∀j,j<q.2->∃b,l[j]? =some b/\b.toNat<128
 | [],_,q,h=>by cases h
 |s::L,hL,q,h=>by
  unfold wT at h;split at h
  ·rename_i hp;cases h;obtain⟨t,rfl⟩:=List.isPrefixOf_iff_prefix.1 hp;obtain⟨h1,h2⟩:=hL s (.head _);have:1<=s.1.length:=by cases hs:s.1 with|nil=>exact absurd hs h1|cons a b=>simp
   refine⟨this,by simp,λj hj=>?_⟩;have hj:j<s.1.length:=hj;exact⟨s.1[j],by rw[xaS hj,xab hj],h2 _ (xaD hj)⟩
  exact Ec L (λs hs=>hL s (.tail _ hs)) q h
theorem pT{l:List UInt8}(h:(dk l).1≠16):1<=(dk l).2.2/\(dk l).2.2<=l.length/\∀j,j<(dk l).2.2->∃b,l[j]? =some b/\b.toNat<128:=by
 unfold dk at h⊢;cases hx:kU l with
 |some q=>
  obtain⟨n,w⟩:=q;cases l with
  |nil=>simp[kU]at hx
  |cons b r=>
   by_cases hb:b=120/\0<(num 0 0 r).2
   ·rw[show kU (b::r)=some ((num 0 0 r).1,(num 0 0 r).2+1)from xae hb]at hx;cases hx;obtain⟨h1,h2,h3⟩:=uQ r 0 0;refine⟨by simp,by simp only[xal];omega,λj hj=>?_⟩;cases j with
    |zero=>exact⟨b,rfl,by rw[hb.1];decide⟩
    |succ j=>
     obtain⟨c,hc,hd⟩:=h3 j (by simp only at hj;omega);exact⟨c,hc,RR hd⟩
   rw[show kU (b::r)=none from xac hb]at hx;cases hx
 |none=>
  rw[hx]at h;simp only at h⊢;cases hg:wT l eB with
  |none=>rw[hg]at h;simp at h
  |some q=>exact Ec eB zD q hg
theorem TM{b:UInt8}{r:List UInt8}(h:128<=b.toNat):(dk (b::r)).1=16:=by
 cases Nat.decEq (dk (b::r)).1 16 with
 |isTrue h=>exact h
 |isFalse hn=>
  obtain⟨h1,_,h3⟩:=pT hn;obtain⟨c,hc,hl⟩:=h3 0 zO;cases hc;omega
end Go.Proofs.Fm
set_option maxRecDepth 100000
namespace Go.Proofs
open Go Go.Sx Tryz
open Fm
abbrev nI(a:Nat):zV:=iv (a:Int)
theorem xf(a b:List UInt8):(decide (b.length<=a.length) &&decide (a.take b.length=b))=b.isPrefixOf a:=by
 rw[xcN,List.isPrefixOf_iff_prefix,List.prefix_iff_eq_take];simp only[xaB,xaQ];constructor
 ·rintro⟨_,h⟩;exact h.symm
 intro h;refine⟨?_,h.symm⟩;have:=xb2 List.length h;rw[xbs]at this;omega
theorem Ug(a b:List UInt8)(B:Hp):Rd zQ 121 #[ay a,ay b] B (· =.bool (b.isPrefixOf a)):=by
 refine aK λg=>Ig (aL.of (aL.of (ae.mh (cr.and (decide (a.take b.length=b)) (λh=>?_) rfl λ_=>?_))))
 ·refine aL.of (bA.mM (l:=a) (i:=0) (j:=b.length) rfl zK rfl (.inl ⟨rfl,rfl⟩) (.inr ⟨_,.i64,rfl,rfl⟩) (xaA _) (xcl h) ?_);exact ae.Be ⟨rfl,rfl⟩
 exact bE.mk (.refl _) (by rw[xf])
theorem XO(a b:List UInt8)(B:Hp):Rd zQ 70 #[ay a,ay b] B (· =.bool (b.isPrefixOf a)):=by
 refine aK λg=>Nj (aa.eq (Ug a b B) (bE.mk (.refl _) rfl))
theorem Vy(l:List UInt8)(hl:l.length<4611686018427387904)(B:Hp):Rd zQ 78 #[ay l] B (· =.tuple #[nI (num 0 0 l).1,nI (num 0 0 l).2]):=by
 refine aK λg=>M7 λJ1 h1=>?_;have fin:∀(n k:Nat) (H:Hp),aI H B->num 0 0 l=(n,k)->J1 [nI n,nI k] H:=λn k H he hn=>by
  refine h1 _ _ _ λ_=>?_;rw[hn];exact bE.mk he rfl
 refine dD.Py rfl zK rfl λb=>?_;refine⟨λvs H=>∃n k:Nat,vs=[nI n,nI k]/\k<=l.length/\n<=1048576/\num 0 0 l=num n k (l.drop k)/\H=(b,.stringIter ⟨l.toArray⟩ k)::B,λvs _=>l.length-bj vs 1,
  JE.mk ⟨0,0,rfl,xaA _,by decide,rfl,rfl⟩,?_⟩
 rintro w1 w2 H ⟨n,k,⟨⟩,hk,hn,he,rfl⟩ gs;refine dD.Wm (C:=B) (c:=λX=>X++B) rfl rfl (bB.left (C:=[_])) (λhlt=>?_) (λhge=>?_);rotate_left
 ·refine Ext.mk rfl (Br.no (JE.mk (fin n k _ .tail ?_)));rw[he,xa9 hge];rfl
 obtain⟨c,hc⟩:∃c,l[k]? =some c:=⟨_,xab hlt⟩;have hd:l.drop k=c::l.drop (k+1):=by
  rw[xaV hlt];rw[xab hlt]at hc;cases hc;rfl
 rw[hd]at he;refine Ext.mk rfl (Br.yes (Ext.mk rfl ?_));by_cases Ot:c.toNat<128
 ·rw[yQ hc Ot];refine ae.cU (b:=48) (cr.or (decide (57<c.toNat)) (λ_=>ae.iF (b:=57) ⟨rfl,rfl⟩) rfl λ_=>?_);refine cr.or (decide (k=1) &&decide (n=0)) (λ_=>ae.bu (b:=1) (cr.and (decide (n=0)) (λ_=>ae.bu (b:=0) ⟨rfl,rfl⟩) rfl λ_=>⟨rfl,rfl⟩)) rfl λ_=>?_;have hdg:digit c=false↔c.toNat<48\/57<c.toNat:=by
   unfold digit;rw[xdy,xbw,xbw];omega
  rw[<-xbb,<-xdJ,<-xbb];refine Br.dec (λhs=>?_) (λhs=>?_)
  ·refine JE.mk (fin n k _ .tail ?_);rw[he];unfold num;exact xae (by rw[hdg];omega)
  refine ae.ob (a:=10) (by simp only[aU];omega) (ae.ir (b:=48) (by simp only[aU];omega) zO (aM.q (ae.e7 (by simp only[aU];omega) (ML.nat (b:=1048576) ?_))));refine ae.inc (az.of (.refl _) ⟨min (10*n+(c.toNat-48)) 1048576,k+1,rfl,hlt,Nat.min_le_right ..,?_,rfl⟩ (by simp only[bj];omega));rw[he]
  conv=>lhs;unfold num
  rw[xac (by rw[hdg];omega)]
 obtain⟨h2,h3,h4⟩:=yS hc zO;generalize Utf8.decode ⟨l.toArray⟩ k=d at h2 h3 h4⊢;refine ae.cU (b:=48) (cr.or (decide (57<d.1)) (λ_=>ae.iF (b:=57) ⟨rfl,rfl⟩) rfl λ_=>?_);refine cr.or (decide (k=1) &&decide (n=0)) (λ_=>ae.bu (b:=1) (cr.and (decide (n=0)) (λ_=>ae.bu (b:=0) ⟨rfl,rfl⟩) rfl λ_=>⟨rfl,rfl⟩)) rfl λ_=>?_;rw[<-xbb,<-xdJ,<-xbb];refine Br.T (JE.mk (fin n k _ .tail ?_)) zO;have hdf:digit c=false:=by
  unfold digit;rw[xdy,xbw,xbw];omega
 rw[he];unfold num;exact xae (.inl hdf)
end Go.Proofs
namespace Go.Sx
open Go
section
variable {P:Program} {g:Gh} {H:Hp} {K:zV->Hp->Prop} {KP:List PanicEntry->Hp->Prop}
def tJ(Q:zV->Hp->Prop)(QP:List PanicEntry->Hp->Prop):Ending->Hp->Prop:=λe H'=>(∃v gW,e=.returned v/\aI H' gW/\Q v gW)\/∃c gW,e=.panicked c/\aI H' gW/\QP c gW
def Zo(P:Program)(f:FuncId)(args:Array zV)(C:Hp)(Q:zV->Hp->Prop)(QP:List PanicEntry->Hp->Prop):Prop:=∀g,aZ P g f args C (tJ Q QP)
theorem fcP{f:FuncId}{args:Array zV}{C:Hp}{Q:zV->Hp->Prop}{QP:List PanicEntry->Hp->Prop}(h:∀g,aZ P g f args C (tJ Q QP)):Zo P f args C Q QP:=h
theorem tJ.ret{Q:zV->Hp->Prop}{QP:List PanicEntry->Hp->Prop}{v:zV}{H gW:Hp}(he:aI H gW)(h:Q v gW):tJ Q QP (.returned v) H:=.inl ⟨v,gW,rfl,he,h⟩
theorem tJ.En{Q:zV->Hp->Prop}{QP:List PanicEntry->Hp->Prop}{c:List PanicEntry}{H gW:Hp}(he:aI H gW)(h:QP c gW):cA (tJ Q QP) c H:=λ_=>.inr ⟨c,gW,rfl,he,h⟩
theorem aa.fp{f:FuncId}{args:Array zV}{C H:Hp}{c:Hp->Hp}{Q:zV->Hp->Prop}{QP:List PanicEntry->Hp->Prop}(hh:bB C H c)(hc:Zo P f args C Q QP)
 (hk:∀v C',Q v C'->K v (c C'))(hp:∀ch C',QP ch C'->KP ch (c C')):aa P g f args H K KP:=
 (aZ.hole hh hc).post λe H' ⟨C',h1,h⟩=>by
  rcases h with⟨v,C'',h2,h3,h4⟩|⟨v,C'',h2,h3,h4⟩
  ·exact⟨c C'',by rw[h1];exact hh.dV h3,by subst h2;exact hk _ _ h4⟩
  exact⟨c C'',by rw[h1];exact hh.dV h3,by subst h2;exact hp _ _ h4⟩
theorem cR.tail{k:Nat}{B:Hp}{v:zV}{r:List zV}{rs:List (List zV)}{K:zV->Prop}(h:Sl k B v (r::rs))(hk:∀v',Sl k B v' rs->K v'):cR k v (some (.int .i64 1)) none K:=by
 obtain⟨h0,h⟩:=h;rcases h with⟨_,_,_,h⟩|⟨b,o,cap,c,T,fz,rfl,h2,h3,h4,h5⟩
 ·cases h
 have hl:(r::rs).length=rs.length+1:=rfl;refine⟨some ⟨b,o,none⟩,(r::rs).length,cap,1,(((r::rs).length:Nat):Int),rfl,rfl,rfl,by decide,by omega,by omega,hk _ ⟨λx hx=>h0 x (.tail _ hx),?_⟩⟩;rw[show(((r::rs).length:Nat):Int).toNat-(1:Int).toNat=rs.length by omega];by_cases h1:cap=1
 ·have hn:rs=[]:=xch.1 zO;subst hn;exact .inl ⟨_,_,rfl,rfl⟩
 rw[xac (by show¬cap=1;exact h1)];refine .inr ⟨b,o+1*k,cap-1,c,T,fz,?_,?_,h3,?_,λi r' hr j v hj=>?_⟩
 ·simp[Addr.add]
 ·show rs.length<=cap-1;omega
 ·rw[hl,xbt]at h4;omega
 have:=h5 (i+1) r' (by simpa using hr) j v hj;rw[xbt]at this;rw[<-this];congr 1;omega
def df:Nat->List zV->List (Nat×zV)
 |_,[]=>[]
 |i,x::rs=>(i,x)::df (i+1) rs
theorem wX{x:zV}(hx:x.oneCell'=true):x.cells=#[x]:=by cases x<;>first|rfl|(simp[Value.oneCell']at hx)
theorem sV:∀(rs:List zV) (i:Nat) (pre aC:List zV),(∀r∈rs,r.oneCell'=true)->pre.length=i->aC.length=rs.length->kG (λi=>some (i*1,1)) (pre++aC) (df i rs)=some (pre++rs)
 | [],i,pre,aC,_,_,hj=>by
  have:aC=[]:=xch.1 hj;subst this;simp[df,kG]
 |r::rs,i,pre,aC,hr,hp,hj=>by
  have hc:=wX (hr r (.head _));cases aC with
  |nil=>simp at hj
  |cons y aC=>
   simp only[df,kG,hc,xbO];have hb:(Nat.beq (#[r]:Array zV).toList.length 1&&Nat.ble (i+(#[r]:Array zV).toList.length) (pre++y::aC).length)=true:=by
    have e1:(#[r]:Array zV).toList.length=1:=rfl;rw[e1,xaf,xal];simp;omega
   rw[hb,xan];have h2:sG (pre++y::aC) i (#[r]:Array zV).toList=(pre++[r])++aC:=by
    subst hp;have h1:=lf [r] (pre++y::aC) pre.length zI;rw[jd]at h1;have:=xb2 Array.toList h1;simp only at this;rw[this];simp
   have:=sV rs (i+1) (pre++[r]) aC (λx hx=>hr x (.tail _ hx)) (by simp[hp]) (by simpa using hj);simp only[xbO]at this;rw[h2,this];simp
theorem ak.nA{t e:TypeId}{z:zV}(rs:List zV){len:Nat}{parts:List (Nat×zV)}{K:zV->Hp->Prop}(h1:P.underlying t=some (.slice e))(h2:cC P e=some 1)(h3:ef P e=some z)(hk:rs.length<=16777216)(hr:∀r∈rs,r.oneCell'=true)
 (hl:rs.length=len)(hp:df 0 rs=parts)(h:∀b,K (.slice (some ⟨b,0,Option.none⟩) len len) ((b,.cells rs.toArray e zZ)::H)):ak P t len parts H K:=by
 subst hl hp;refine⟨rs.toArray,e,1,z,h1,h2,h3,by omega,?_,λb _=>h b⟩;have:((Array.range (rs.length*1)).map (z.cells[· %z.cells.size]!))=(((Array.range (rs.length*1)).map (z.cells[· %z.cells.size]!)).toList).toArray:=by rw[xcI]
 rw[this];refine jk _ _ _ ?_;exact sV rs 0 [] _ hr rfl zI
def Pd(P:Program)(T:TypeId):Bool:=match P.underlying T with
 |some (.interface _)=>false
 |some _=>true
 |Option.none=>false
theorem bA.VS{o:Oper}{ρ:Operand->zV}{k:zV->Prop}{x:Operand}{xT T:TypeId}{v:zV}(ho:o.op=.typeAssert x xT T true)(hx:ρ x=.iface T v)(hd:Pd P T=true)
 (hk:k (.tuple #[v,.bool true])):bA P g o ρ H k:=by
 unfold Pd at hd;cases hu:P.underlying T with
 |none=>rw[hu]at hd;cases hd
 |some d=>
  refine bA.assert ho hx hu (λm h=>?_) hk;subst h;rw[hu]at hd;cases hd
end
end Go.Sx
namespace Go.Sx
open Go
section
variable {P:Program} {g:Gh} {H:Hp} {K:zV->Hp->Prop} {KP:List PanicEntry->Hp->Prop}
theorem bA.X0{o:Oper}{ρ:Operand->zV}{k:zV->Prop}{x y:Operand}{t yt te:TypeId}{a:Addr}{n:Nat}(ho:o.op=.binOp .neq t x y yt)(hx:ρ x=.pointer (some a))(hy:ρ y=.pointer (some a))(hd:P.underlying t=some (.pointer te))(hj:cC P te=some n)
 (hk:k (.bool false)):bA P g o ρ H k:=by
 obtain⟨j,hj,_⟩:=aV hj;refine⟨_,λw _=>?_,hk⟩;have e1:eqGuard .neq t x y (.pointer (some a)) (.pointer (some a))=pure ():=rfl;have e2:=Lib.run_neq_ptr_same (P:=P) w a hd hj;simp only[execOp,ho,hx,hy,e1,Sem.run_bind,Sem.run_pure,Result.andThen_ok,e2]
theorem bA.toUnsafe{o:Oper}{ρ:Operand->zV}{k:zV->Prop}{x:Operand}{src dst t T:TypeId}{b:Nat}{c:Array zV}{fz:Nat×Nat}{n:Nat}(ho:o.op=.convert src dst x)(hx:ρ x=.pointer (some ⟨b,0,none⟩))(hm:(b,Obj.cells c T fz)∈H)(hc:0<c.size)
 (hs:P.underlying src=some (.pointer t))(hd:P.underlying dst=some .unsafePointer)(hj:cC P t=some n)(hz:n≠0)(hk:k (.pointer (some ⟨b,0,none⟩))):bA P g o ρ H k:=by
 obtain⟨j,hj',rfl⟩:=aV hj;refine⟨_,λw hw=>?_,hk⟩;have:=Lib.run_to_unsafe (P:=P) w ⟨b,0,none⟩ hs hd hj' hz (hw.shape hm) hc;simp only[execOp,ho,hx,Sem.run_bind,this,Result.andThen_ok,Sem.run_pure]
theorem bA.PW{o:Oper}{ρ:Operand->zV}{k:zV->Prop}{x:Operand}{src dst u T:TypeId}{b:Nat}{c:Array zV}{fz:Nat×Nat}{n:Nat}(ho:o.op=.convert src dst x)(hx:ρ x=.pointer (some ⟨b,0,none⟩))(hm:(b,Obj.cells c T fz)∈H)
 (hs:P.underlying src=some .unsafePointer)(hd:P.underlying dst=some (.pointer u))(hj:cC P u=some n)(hl:liesAt P P.depth T (c.size/P.cellsOf T) 0 u 1=true)(hk:k (.pointer (some ⟨b,0,none⟩))):bA P g o ρ H k:=by
 obtain⟨j,hj,_⟩:=aV hj;refine⟨_,λw hw=>?_,hk⟩;have:=Lib.run_from_unsafe (P:=P) w ⟨b,0,none⟩ hs hd hj (hw.shape hm) hl;simp only[execOp,ho,hx,Sem.run_bind,this,Result.andThen_ok,Sem.run_pure]
theorem dD.same{o:Oper}{ρ:Operand->zV}{x:Operand}{f:FuncId}{fn:Func}{ts:Array TypeId}(ho:o.op=.call ⟨.value (.func f),#[x],ts⟩)(hf:P.funcs[f]? =some fn)(hname:(fn.name== "runtime.NumGoroutine")=false)
 (hb:fn.body.isNone=true)(hn:Extern.findNext fn=none)(he:Extern.find fn=some Extern.AbiNoEscape.same)(hr:∀f,ρ (.func f)=.func (.func f) #[] #[])(hk:K (ρ x) H):dD P g o ρ H K KP:=by
 intro w hw;have e:=run_callFunc_extern (P:=P) hf hname hb hn he #[ρ x] w;rw[Lib.run_noEscape]at e;have:(execOp ρ o).run P w=.ok (.value (ρ x)) w:=by
  simp only[execOp,ho,resolve,hr];simpa[Deferred.ofValue,invoke]using e
 rw[this];exact⟨H,hw,hk⟩
theorem vO(l:List UInt8):∀r∈dw l,r.length=1:=λr hr=>by
 unfold dw at hr;obtain⟨b,_,rfl⟩:=xam.1 hr;rfl
theorem yW(l:List UInt8):(dw l).flatten=l.map λb=>Value.int .u8 b.toNat:=by
 have:=xS l;unfold rows at this;exact xb2 Array.toList this
theorem strCells_eq(l:List UInt8):Lib.strCells ⟨l.toArray⟩=(dw l).flatten:=by rw[yW];rfl
theorem Jy:∀(rs:List (List zV)),(∀r∈rs,r.length=1)->rs.flatten.length=rs.length
 | [],_=>rfl
 |r::rs,h=>by
  rw[xcz,xaf,Jy rs λx hx=>h x (.tail _ hx),h r (.head _),xal,xc5]
theorem Wv:∀(l:List zV),∃js:List (List zV),js.flatten=l/\∀r∈js,r.length=1
 | []=>⟨[],rfl,nofun⟩
 |x::l=>by
  obtain⟨js,h1,h2⟩:=Wv l;exact⟨[x]::js,by rw[xcz,h1];rfl,λr hr=>by
   cases hr with
   |head=>rfl
   |tail _ h=>exact h2 r h⟩
theorem dD.KL{o:Oper}{ρ:Operand->zV}{x:Operand}{t:TypeId}{a:Addr}{n c:Nat}(ho:o.op=.call ⟨.builtin .unsafeSliceData,#[x],#[t]⟩)(hx:ρ x=.slice (some a) n c)(hc:c≠0)(hk:K (.pointer (some a)) H):dD P g o ρ H K KP:=by
 refine dD.ofValue (s:=Builtin.unsafeSliceData_ #[t] o.type #[.slice (some a) n c]) (by simp[execOp,ho,hx,resolve,invoke,builtin,bind,Sem.bind];rfl) λw hw=>?_;exact⟨_,w,H,Lib.run_unsafeSliceData_row w _ _ _ _ _ hc,hw,hk⟩
end
end Go.Sx
namespace Go.Sx
open Go
section
variable {P:Program} {g:Gh} {H:Hp}
def vP:Nat->List (List zV)->List (Nat×zV)
 |_,[]=>[]
 |i,r::rs=>(i,.agg r.toArray)::vP (i+1) rs
theorem vD{k:Nat}:∀(rs:List (List zV)) (i:Nat) (pre aC:List zV),(∀r∈rs,r.length=k)->pre.length=i*k->aC.length=rs.length*k->kG (λi=>some (i*k,k)) (pre++aC) (vP i rs)=some (pre++rs.flatten)
 | [],i,pre,aC,_,_,hj=>by
  have:aC=[]:=xch.1 (by simpa using hj);subst this;simp[vP,kG]
 |r::rs,i,pre,aC,hr,hp,hj=>by
  have hrk:=hr r (xbP ..);have U6:aC.length=k+rs.length*k:=by rw[hj,xal,xbt,xc5]
  simp only[vP,kG,Value.cells];have hb:(Nat.beq r.toArray.toList.length k&&Nat.ble (i*k+r.toArray.toList.length) (pre++aC).length)=true:=by
   have e1:r.toArray.toList.length=k:=hrk;rw[e1,xaf];simp;omega
  rw[hb,xan];have h1:=lf r (pre++aC) (i*k) (by rw[xaf];omega);rw[jd]at h1;have h2:sG (pre++aC) (i*k) r=pre++r++aC.drop k:=by
   have:=xb2 Array.toList h1;simp only at this;rw[this,<-hp];simp[xex,hrk,xdC]
  show kG _ (sG (pre++aC) (i*k) r) _=_;rw[h2,vD rs (i+1) (pre++r) (aC.drop k) (λx hx=>hr x (xbz _ hx)) (by rw[xaf,hp,hrk,xbt]) (by rw[xb5];omega)];simp
theorem ak.many{t e k:Nat}{z:zV}(rs:List (List zV)){len:Nat}{parts:List (Nat×zV)}{K:zV->Hp->Prop}(h1:P.underlying t=some (.slice e))(h2:cC P e=some k)(h3:ef P e=some z)(hk:rs.length*k<=16777216)(hr:∀r∈rs,r.length=k)
 (hl:rs.length=len)(hp:vP 0 rs=parts)(h:∀b,K (.slice (some ⟨b,0,Option.none⟩) len len) ((b,.cells (rows rs) e zZ)::H)):ak P t len parts H K:=by
 subst hl hp;refine⟨rows rs,e,k,z,h1,h2,h3,by omega,?_,λb _=>h b⟩;have:((Array.range (rs.length*k)).map (z.cells[· %z.cells.size]!))=(((Array.range (rs.length*k)).map (z.cells[· %z.cells.size]!)).toList).toArray:=by rw[xcI]
 rw[this];generalize hc:((Array.range (rs.length*k)).map (z.cells[· %z.cells.size]!)).toList=c;have hlen:c.length=rs.length*k:=by rw[<-hc];simp
 refine jk _ _ _ ?_;have:=vD rs 0 [] c hr zI hlen;simpa using this
theorem aT.look{κ β:Type}[DecidableEq κ]{ke:κ->zV}{vr:zV->β->Prop}{es:Array MapEntry}{ck b:Nat}{m:List (κ×β)}{kd:TypeDesc}{zero:zV}{ok:Bool}{k:κ}{K:zV->Prop}(hk:∀a b,Instr.sameNow kd (ke a) (ke b)=some (decide (a=b)))(h:aT ke vr es ck m)(hm:(b,Obj.map es ck)∈H)
 (h1:∀x v,bU m k=some x->vr v x->K (cond ok (.tuple #[v,.bool true]) v))(h2:bU m k=none->K (cond ok (.tuple #[zero,.bool false]) zero)):kL kd zero ok H (.map (some b)) (ke k) K:=by
 cases hx:bU m k with
 |none=>exact h.bT hk hm hx (h2 hx)
 |some x=>exact h.hit hk hm hx λv hv=>h1 x v hx hv
end
end Go.Sx
namespace Go.Sx
open Go
section
variable {P:Program} {g:Gh} {H:Hp} {K:zV->Hp->Prop}
theorem bR.of{l:List UInt8}{i:Nat}{kd:IntKind}{b:UInt8}{k:zV->Prop}(h:l[i]? =some b)(hk:k (.int .u8 (b.toNat:Int))):bR (ay l) (.int kd (i:Int)) k:=by
 refine⟨_,kd,i,b,rfl,rfl,xcf _,?_,hk⟩;rw[xbH];obtain⟨hi,rfl⟩:=xah.1 h;have sz:(⟨l.toArray⟩:ByteArray).size=l.length:=by simp[ByteArray.size]
 rw[getElem?_pos (⟨l.toArray⟩:ByteArray) i (by rw[sz];exact hi)];rfl
theorem bA.AG{o:Oper}{ρ:Operand->zV}{k:zV->Prop}{x:Operand}{t e:TypeId}{lo hi:Option Operand}{b n i j:Nat}(ho:o.op=.slice t x lo hi none)(hd:P.underlying t=some (.array n e))(hz:cC P e=some 1)(hx:ρ x=.pointer (some ⟨b,0,none⟩))
 (hlo:(lo=none/\i=0)\/∃q kd,lo=some q/\ρ q=.int kd (i:Int))(hhi:(hi=none/\j=n)\/∃q kd,hi=some q/\ρ q=.int kd (j:Int))(hij:i<=j)(hj:j<=n)(hin:i<n)(hk:k (.slice (some ⟨b,i,none⟩) (j-i) (n-i))):bA P g o ρ H k:=by
 refine⟨_,λw _=>?_,hk⟩;obtain⟨inf,LS,hs⟩:=aV hz;have hne:¬n=i:=by omega
 have b1:∀kd cd,(Instr.sliceBound (.int kd (i:Int)) j cd).run P w=.ok i w:=λkd cd=>by simp[Instr.sliceBound,asIntOf,hij]
 have b2:∀kd cd,(Instr.sliceBound (.int kd (j:Int)) n cd).run P w=.ok j w:=λkd cd=>by simp[Instr.sliceBound,asIntOf,hj]
 have ha:(Addr.add ⟨b,0,none⟩ (i*1))=⟨b,i,none⟩:=by rw[Addr.add_lit];simp
 have:(Instr.sliceAt t (.pointer (some ⟨b,0,none⟩)) (lo.map ρ) (hi.map ρ) none).run P w=.ok (.slice (some ⟨b,i,none⟩) (j-i) (n-i)) w:=by
  rcases hlo with⟨rfl,rfl⟩|⟨q,kd,rfl,hq⟩<;>rcases hhi with⟨rfl,rfl⟩|⟨q2,kd2,rfl,tO⟩
  ·simp only[Instr.sliceAt,Instr.sureAddr,Instr.sliceBounds,Sem.run_bind,run_underlying hd,run_sizeOf LS,hs,Result.andThen_ok,xce,xbj,xcg,xaE,xaU,Sem.run_pure,b1,b2,xac hne,ha]
  ·simp only[Instr.sliceAt,Instr.sureAddr,Instr.sliceBounds,Sem.run_bind,run_underlying hd,run_sizeOf LS,hs,Result.andThen_ok,xce,xbj,xcg,xaE,xaU,Sem.run_pure,b1,b2,tO,xac hne,ha]
  ·simp only[Instr.sliceAt,Instr.sureAddr,Instr.sliceBounds,Sem.run_bind,run_underlying hd,run_sizeOf LS,hs,Result.andThen_ok,xce,xbj,xcg,xaE,xaU,Sem.run_pure,b1,b2,hq,xac hne,ha]
  simp only[Instr.sliceAt,Instr.sureAddr,Instr.sliceBounds,Sem.run_bind,run_underlying hd,run_sizeOf LS,hs,Result.andThen_ok,xce,xbj,xcg,xaE,xaU,Sem.run_pure,b1,b2,hq,tO,xac hne,ha]
 simp only[execOp,ho,hx,Sem.run_bind,xce,this,Result.andThen_ok,Sem.run_pure]
theorem dZ.cut{b o n c:Nat}{cs:Array zV}{T:TypeId}{fz:Nat×Nat}{l:List UInt8}{K:zV->Prop}(hm:(b,Obj.cells cs T fz)∈H)(hn:l.length=n)(h0:0<n)(hc:∀j u,l[j]? =some u->cs[o+j]? =some (.int .u8 (u.toNat:Int)))(hk:K (ay l)):dZ H (.slice (some ⟨b,o,none⟩) n c) K:=by
 refine⟨_,n,c,l,rfl,?_,hn,hk⟩;have hl:n-1<l.length:=by omega
 have h1:=hc (n-1) _ (xab hl);have h2:o+(n-1)<cs.size:=(xaP.1 h1).1;refine .inr ⟨rfl,cs,T,fz,hm,by show o+n<=cs.size;omega,?_⟩;refine xeB (by rw[Array.size_extract];simp;omega) λj h3 h4=>?_;have h5:j<l.length:=by simpa using h3
 have h6:=hc j _ (xab h5);obtain⟨h7,h8⟩:=xaP.1 h6;rw[xd9];simp only[List.getElem_toArray,List.getElem_map];exact h8.symm
end
end Go.Sx
namespace Go.Proofs.Fm
inductive Tr
 |c(k:Nat)
 |v(n:Nat)
 |no(a:Tr)
 |bin(k:Nat)(a b:Tr)
 |ite(a b c:Tr)
inductive Rs
 |ok(t:Tr)(l:List Tok)
 |bad(p e:Nat)
inductive Gl
 |jz(lv dp:Nat)(l:List Tok)
 |more(lv dp:Nat)(a:Tr)(l:List Tok)
 |tight(dp:Nat)(l:List Tok)
inductive Pl
 |done(r:Rs)
 |call(g:Gl)(k:Rs->Pl)
def Rs.thn(r:Rs)(f:Tr->List Tok->Pl):Pl:=
 match r with
 | .ok t l=>f t l
 | .bad p e=>.done (.bad p e)
def Rs.cF(r:Rs)(k:Nat)(f:Tr->List Tok->Pl):Pl:=r.thn λt l=>
 match l with
 | []=>.done (.bad 0 14)
 |x::l'=>if x.k=k then f t l' else .done (.bad x.p 14)
def eJ:Nat->Nat
 |0=>9
 |1=>8
 |2=>7
 |3=>6
 |_=>5
def g9(n:Nat):Gl->Pl
 | .jz lv dp l=>if lv=5 then .call (.tight dp l) .done else .call (.jz (lv+1) dp l) λr=>r.thn λa l1=>.call (.more lv dp a l1) .done
 | .more lv dp a []=>.done (.bad 0 14)
 | .more lv dp a (x::l)=>
  if x.k=eJ lv then
   if eJ lv=8 then .call (.jz lv dp l) λr=>r.thn λb l2=>.done (.ok (.bin 8 a b) l2)
   else .call (.jz (lv+1) dp l) λr=>r.thn λb l2=>.call (.more lv dp (.bin (eJ lv) a b) l2) .done
  else .done (.ok a (x::l))
 | .tight dp []=>.done (.bad 0 14)
 | .tight dp (x::l)=>
  if x.k=1\/x.k=2 then .done (.ok (.c x.k) l)
  else if x.k=3 then(if n<=x.v then .done (.bad x.p 2)else .done (.ok (.v x.v) l))
  else if x.k=4 then(if 1000<=dp then .done (.bad x.p 7)else .call (.tight (dp+1) l) λr=>r.thn λa l2=>.done (.ok (.no a) l2))
  else if x.k=10 then(if 1000<=dp then .done (.bad x.p 7)else .call (.jz 0 (dp+1) l) λr=>r.cF 11 λa l2=>.done (.ok a l2))
  else if x.k=12 then(if 1000<=dp then .done (.bad x.p 7)else .call (.jz 0 (dp+1) l) λr=>r.cF 13 λa l2=>.call (.jz 0 (dp+1) l2) λr=>r.cF 14 λb l3=>.call (.jz 0 (dp+1) l3) λr=>r.cF 15 λc l4=>.done (.ok (.ite a b c) l4))
  else .done (.bad x.p 14)
inductive Ev(n:Nat):Pl->Rs->Prop
 |done {r:Rs}:Ev n (.done r) r
 |call {g:Gl} {k:Rs->Pl} {r r2:Rs}:Ev n (g9 n g) r->Ev n (k r) r2->Ev n (.call g k) r2
theorem Ev.uniq{n:Nat}{p:Pl}{r r':Rs}(h:Ev n p r)(h':Ev n p r'):r=r':=by
 induction h generalizing r' with
 |done=>cases h';rfl
 |call _ _ i1 i2=>
  cases h' with
  |call a b=>
   have:=i1 a;subst this;exact i2 b
def Rs.fit:Rs->Prop
 | .ok _ _=>True
 | .bad _ e=>e≠0
inductive Pl.Fit:Pl->Prop
 |done {r:Rs}:r.fit->Fit (.done r)
 |call {g:Gl} {k:Rs->Pl}:(∀r,r.fit->Fit (k r))->Fit (.call g k)
theorem Pl.Fit.thn{r:Rs}{f:Tr->List Tok->Pl}(hr:r.fit)(h:∀t l,Fit (f t l)):Fit (r.thn f):=by
 cases r with
 |ok t l=>exact h t l
 |bad p e=>exact .done hr
theorem Pl.Fit.cF{r:Rs}{k:Nat}{f:Tr->List Tok->Pl}(hr:r.fit)(h:∀t l,Fit (f t l)):Fit (r.cF k f):=by
 refine .thn hr λt l=>?_;cases l with
 |nil=>exact .done (by show(14:Nat)≠0;decide)
 |cons x l=>
  show Fit (if x.k=k then _ else _);split
  ·exact h t l
  exact .done (by show(14:Nat)≠0;decide)
theorem PI(n:Nat)(g:Gl):(g9 n g).Fit:=by
 have D:∀(p e:Nat),e≠0->Pl.Fit (.done (.bad p e)):=λp e h=>.done h;have O:∀t l,Pl.Fit (.done (.ok t l)):=λt l=>.done trivial;cases g with
 |jz lv dp l=>
  show Pl.Fit (if lv=5 then _ else _);split
  ·exact .call λr h=>.done h
  exact .call λr h=>.thn h λt l=>.call λr h=>.done h
 |more lv dp a l=>
  cases l with
  |nil=>exact D _ _ zD
  |cons x l=>
   show Pl.Fit (if x.k=eJ lv then(if eJ lv=8 then _ else _)else _);split
   ·split
    ·exact .call λr h=>.thn h λt l=>O _ _
    exact .call λr h=>.thn h λt l=>.call λr h=>.done h
   exact O _ _
 |tight dp l=>
  cases l with
  |nil=>exact D _ _ zD
  |cons x l=>
   unfold g9
   repeat' split
   all_goals first
    |exact O _ _
    |exact D _ _ zD
    |exact .call λr h=>.thn h λt l=>O _ _
    |exact .call λr h=>.cF h λt l=>O _ _
    |exact .call λr h=>.cF h λt l=>.call λr h=>.cF h λt l=>.call λr h=>.cF h λt l=>O _ _
    |exact .call λr h=>.done h
    |exact .call λr h=>.thn h λt l=>.call λr h=>.done h
theorem Ev.fit{n:Nat}{p:Pl}{r:Rs}(h:Ev n p r)(hp:p.Fit):r.fit:=by
 induction h with
 |done=>cases hp with|done h=>exact h
 |call _ _ i1 i2=>cases hp with|call h=>exact i2 (h _ (i1 (PI n _)))
def qW(l:List Tok):Prop:=∃i t,l=i++[t]/\(t.k=0\/t.k=16)/\∀u∈i,u.k≠0/\u.k≠16
theorem qW.tail{x:Tok}{l:List Tok}(h:qW (x::l))(h0:x.k≠0)(h1:x.k≠16):qW l:=by
 obtain⟨i,t,e,ht,hi⟩:=h;cases i with
 |nil=>
  simp only[xbe,xay]at e;obtain⟨rfl,rfl⟩:=e;omega
 |cons y i=>
  simp only[xaN,xay]at e;obtain⟨rfl,rfl⟩:=e;exact⟨i,t,rfl,ht,λu hu=>hi u (.tail _ hu)⟩
theorem qW.split{l:List Tok}(h:qW l):∃x l',l=x::l':=by
 obtain⟨i,t,rfl,_⟩:=h;cases i with
 |nil=>exact⟨_,_,rfl⟩
 |cons y i=>exact⟨_,_,rfl⟩
inductive Reads(n:Nat)(l:List UInt8):Rs->Prop
 |Ls:65536<l.length->Reads n l (.bad 0 13)
 |mk {o:List Tok} {r:Rs}:l.length<=65536->eo 0 l o->Ev n (.call (.jz 0 0 o) λr=>r.cF 0 λt l'=>.done (.ok t l')) r->Reads n l r
theorem Reads.fit{n:Nat}{l:List UInt8}{p e:Nat}(h:Reads n l (.bad p e)):e≠0:=by
 cases h with
 |Ls _=>decide
 |mk _ _ h=>exact h.fit (.call λr hr=>.cF hr λt l=>.done trivial)
theorem Reads.uniq{n:Nat}{l:List UInt8}{r r':Rs}(h:Reads n l r)(h':Reads n l r'):r=r':=by
 cases h with
 |Ls h=>
  cases h' with
  |Ls _=>rfl
  |mk h' _ _=>omega
 |mk h h1 h2=>
  cases h' with
  |Ls h'=>omega
  |mk _ h3 h4=>
   have:=h1.uniq h3;subst this;exact h2.uniq h4
end Go.Proofs.Fm
namespace Go.Proofs.Fm
def Tr.kids:Tr->List Tr
 | .no a=>[a]
 | .bin _ a b=>[a,b]
 | .ite a b d=>[a,b,d]
 |_=>[]
def Tr.kd:Tr->Nat
 | .c k=>k
 | .v _=>3
 | .no _=>4
 | .bin k _ _=>k
 | .ite .. =>12
def Tr.vl:Tr->Nat
 | .v n=>n
 |_=>0
def XX(k:Nat):Nat:=if k=5 then 8 else if k=6 then 6 else if k=7 then 14 else if k=8 then 11 else 9
def Tr.fn:Tr->Nat->Bool
 | .c k=>λ_=>decide (k=2)
 | .v n=>λx=>x.testBit n
 | .no a=>λx=> !a.fn x
 | .bin k a b=>λx=>(XX k).testBit (2*(a.fn x).toNat+(b.fn x).toNat)
 | .ite a b d=>λx=>if a.fn x then b.fn x else d.fn x
def Tr.Fit(n:Nat):Tr->Prop
 | .c k=>k=1\/k=2
 | .v m=>m<n
 | .no a=>a.Fit n
 | .bin k a b=>(5<=k/\k<=9)/\a.Fit n/\b.Fit n
 | .ite a b d=>a.Fit n/\b.Fit n/\d.Fit n
def Tr.gY:Tr->Nat
 | .c _=>1
 | .v _=>1
 | .no a=>a.gY
 | .bin _ a b=>a.gY+b.gY
 | .ite a b d=>a.gY+b.gY+d.gY
theorem Tr.iM:∀t:Tr,1<=t.gY
 | .c _=>xak _
 | .v _=>xak _
 | .no a=>a.iM
 | .bin _ a b=>xbB a.iM (by show a.gY<=a.gY+b.gY;omega)
 | .ite a b d=>xbB a.iM (by show a.gY<=a.gY+b.gY+d.gY;omega)
def Tr.iI:Tr->(Nat->Bool)->Prop
 | .c k=>λg=>g=(Tr.c k).fn
 | .v n=>λg=>g=(Tr.v n).fn
 | .no a=>λg=>g=(Tr.no a).fn\/a.iI g
 | .bin k a b=>λg=>g=(Tr.bin k a b).fn\/a.iI g\/b.iI g
 | .ite a b d=>λg=>g=(Tr.ite a b d).fn\/a.iI g\/b.iI g\/d.iI g
theorem Tr.xH(t:Tr):t.iI t.fn:=by
 cases t<;>first|exact rfl|exact Or.inl rfl
theorem Tr.Bc{t k:Tr}(h:k∈t.kids){g:Nat->Bool}(hg:k.iI g):t.iI g:=by
 cases t with
 |c=>cases h
 |v=>cases h
 |no a=>
  simp only[Tr.kids,xag,xaw,xa1]at h;subst h;exact Or.inr hg
 |bin k a b=>
  simp only[Tr.kids,xag,xaw,xa1]at h;rcases h with rfl|rfl
  ·exact Or.inr (Or.inl hg)
  exact Or.inr (Or.inr hg)
 |ite a b d=>
  simp only[Tr.kids,xag,xaw,xa1]at h;rcases h with rfl|rfl|rfl
  ·exact Or.inr (Or.inl hg)
  ·exact Or.inr (Or.inr (Or.inl hg))
  exact Or.inr (Or.inr (Or.inr hg))
def Gl.pre(n:Nat):Gl->Prop
 | .more _ _ a _=>a.Fit n
 |_=>True
def Gl.cap:Gl->Nat
 | .jz _ _ l=>l.length+1
 | .more _ _ a l=>2*a.gY+l.length
 | .tight _ l=>l.length+1
def Rs.good(n c:Nat):Rs->Prop
 | .ok t l=>t.Fit n/\2*t.gY+l.length<=c
 | .bad _ _=>True
inductive Pl.Wt(n:Nat):Nat->Pl->Prop
 |done {c:Nat} {r:Rs}:r.good n c->Wt n c (.done r)
 |call {c:Nat} {g:Gl} {k:Rs->Pl}:g.pre n->(∀r,r.good n g.cap->Wt n c (k r))->Wt n c (.call g k)
theorem Pl.Wt.thn{n c c':Nat}{r:Rs}{f:Tr->List Tok->Pl}(hr:r.good n c')(h:∀t l,t.Fit n->2*t.gY+l.length<=c'->Wt n c (f t l)):Wt n c (r.thn f):=by
 cases r with
 |ok t l=>exact h t l hr.1 hr.2
 |bad p e=>exact .done trivial
theorem Pl.Wt.cF{n c c' k:Nat}{r:Rs}{f:Tr->List Tok->Pl}(hr:r.good n c')(h:∀t l,t.Fit n->2*t.gY+l.length+1<=c'->Wt n c (f t l)):Wt n c (r.cF k f):=by
 refine .thn hr λt l h1 h2=>?_;cases l with
 |nil=>exact .done trivial
 |cons x l=>
  show Wt n c (if x.k=k then _ else _);split
  ·exact h t l h1 h2
  exact .done trivial
theorem IW(lv:Nat):5<=eJ lv/\eJ lv<=9:=by
 match lv with
 |0=>decide
 |1=>decide
 |2=>decide
 |3=>decide
 |n+4=>exact⟨xak 5,by show 5<=9;decide⟩
theorem Ua(n:Nat)(g:Gl)(hp:g.pre n):Pl.Wt n g.cap (g9 n g):=by
 cases g with
 |jz lv dp l=>
  show Pl.Wt n _ (if lv=5 then _ else _);split
  ·exact .call trivial λr h=>.done h
  exact .call trivial λr h=>.thn h λt l1 h1 h2=>.call h1 λr h=>.done (by
   cases r with
   |ok t' l'=>exact⟨h.1,xbB h.2 h2⟩
   |bad=>trivial)
 |more lv dp a l=>
  cases l with
  |nil=>exact .done trivial
  |cons x l=>
   show Pl.Wt n _ (if x.k=eJ lv then(if eJ lv=8 then _ else _)else _);split
   ·split
    ·refine .call trivial λr h=>.thn h λt l1 h1 h2=>.done ⟨⟨by decide,hp,h1⟩,?_⟩;simp only[Tr.gY,Gl.cap,xal]at h2⊢;omega
    refine .call trivial λr h=>.thn h λt l1 h1 h2=>.call ⟨IW lv,hp,h1⟩ λr h=>.done ?_;cases r with
    |ok t' l'=>
     refine⟨h.1,?_⟩;have:=h.2;simp only[Tr.gY,Gl.cap,xal]at h2 this⊢;omega
    |bad=>trivial
   ·exact .done ⟨hp,xak _⟩
 |tight dp l=>
  cases l with
  |nil=>exact .done trivial
  |cons x l=>
   have hc:Gl.cap (.tight dp (x::l))=l.length+2:=rfl;rw[hc];show Pl.Wt n _ (if x.k=1\/x.k=2 then _ else if x.k=3 then(if n<=x.v then _ else _)else if x.k=4 then(if 1000<=dp then _ else _)else if x.k=10 then(if 1000<=dp then _ else _)else if x.k=12 then(if 1000<=dp then _ else _)else _);split
   ·rename_i h;exact .done ⟨h,by simp only[Tr.gY];omega⟩
   split
   ·split
    ·exact .done trivial
    exact .done ⟨by show x.v<n;omega,by simp only[Tr.gY];omega⟩
   split
   ·split
    ·exact .done trivial
    exact .call trivial λr h=>.thn h λt l1 h1 h2=>.done ⟨h1,by simp only[Tr.gY,Gl.cap]at h2⊢;omega⟩
   split
   ·split
    ·exact .done trivial
    exact .call trivial λr h=>.cF h λt l1 h1 h2=>.done ⟨h1,by simp only[Gl.cap]at h2⊢;omega⟩
   split
   ·split
    ·exact .done trivial
    refine .call trivial λr h=>.cF h λt l1 h1 h2=>.call trivial λr h=>.cF h λt2 l2 h3 h4=>.call trivial λr h=>.cF h λt3 l3 h5 h6=>.done ⟨⟨h1,h3,h5⟩,?_⟩;simp only[Tr.gY,Gl.cap]at h2 h4 h6⊢;omega
   exact .done trivial
theorem Ev.wt{n c:Nat}{p:Pl}{r:Rs}(h:Ev n p r)(hp:p.Wt n c):r.good n c:=by
 induction h generalizing c with
 |done=>cases hp with|done h=>exact h
 |call _ _ i1 i2=>cases hp with|call h0 h=>exact i2 (h _ (i1 (Ua n _ h0)))
theorem Reads.wt{n:Nat}{l:List UInt8}{t:Tr}{l':List Tok}(h:Reads n l (.ok t l'))(hlen:∀o,eo 0 l o->o.length<=l.length+1):t.Fit n/\t.gY<=32769:=by
 cases h with
 |mk hl ht h=>
  have h1:=hlen _ ht;have:=h.wt (c:=l.length+2) (.call trivial λr hr=>.cF hr λt l2 h2 h3=>.done ⟨h2,by simp only[Gl.cap]at h3;omega⟩);exact⟨this.1,by have:=this.2;omega⟩
end Go.Proofs.Fm
namespace Go.Proofs.Fm
theorem eo.step{p k v w:Nat}{b:UInt8}{r:List UInt8}{o:List Tok}(h:dk (b::r)=(k,v,w))(hb:b≠32)(hk:k≠16)(ht:eo (p+w) ((b::r).drop w) o):eo p (b::r) (⟨k,p,v⟩::o):=by
 have:=eo.tok (p:=p) (b:=b) (r:=r) (o:=o) hb (by rw[h];exact hk) (by rw[h];exact ht);rw[h]at this;exact this
theorem Ev.cF{n k:Nat}{t:Tr}{x:Tok}{l:List Tok}{f:Tr->List Tok->Pl}{r:Rs}(hk:x.k=k)(h:Ev n (f t l) r):Ev n ((Rs.ok t (x::l)).cF k f) r:=by
 show Ev n (if x.k=k then _ else _) r;rw[xae hk];exact h
end Go.Proofs.Fm
namespace Go.Proofs.Sw
structure Wd where
 t:List UInt8
 a:Nat
 e:Nat
def tg:Nat->Option (List UInt8)->List UInt8->List Wd
 |_,none,[]=>[]
 |i,some c,[]=>[⟨c,i-c.length,i⟩]
 |i,none,b::r=>if b=32 then tg (i+1) none r else tg (i+1) (some [b]) r
 |i,some c,b::r=>if b=32 then⟨c,i-c.length,i⟩::tg (i+1) none r else tg (i+1) (some (c++[b])) r
def Fl:List UInt8->Nat
 | []=>0
 |b::r=>if b=32 then Fl r+1 else 0
def Z7:Nat->List UInt8->Option Nat
 |n,[]=>some n
 |n,b::r=>if 48<=b.toNat/\b.toNat<=57 then Z7 (10*n+(b.toNat-48)) r else none
def XY(s:List UInt8):Option Nat:=if s.length<1\/18<s.length then none else Z7 0 s
def low(b:UInt8):Bool:=decide (97<=b.toNat) &&decide (b.toNat<=122)
def ltr(s:List UInt8):Bool:=s.all low&&decide (1<=s.length) &&decide (s.length<=16)
def sW:List (List UInt8×List UInt8):=[([110,101,119],[110,110]),([97,110,100],[100,115,115]),([111,114],[100,115,115]),([120,111,114],[100,115,115]),([110,111,116],[100,115]),
 ([100,114,111,112],[115]),([115,104,111,119],[115]),([101,118,97,108],[115,110]),([115,97,116,115],[115]),([108,101,97,115,116],[115]),
 ([115,97,109,101],[115,115]),([108,105,118,101],[]),([111,114,100,101,114],[43]),([115,119,97,112],[110]),
 ([115,105,102,116],[110]),([115,101,116,116,108,101],[110]),([119,105,110,100,111,119],[110]),([101,120,97,99,116],[]),([110,97,109,101,115],[])]
def idx(s:List UInt8):Nat->List (List UInt8×List UInt8)->Option Nat
 |_,[]=>none
 |i,a::r=>if a.1=s then some i else idx s (i+1) r
def cmd(s:List UInt8):Option Nat:=idx s 0 sW
def xg(s:List UInt8):Bool:=ltr s&& (cmd s).isNone
def JX(c:UInt8)(t:List UInt8):Option Nat:=if c=110 then XY t else if xg t then some 0 else none
def Ej(m:Nat):List UInt8->List Wd->Option Nat
 | [],[]=>none
 |_::_,[]=>some m
 | [],w::_=>some w.a
 |c::r,w::l=>if(JX c w.t).isNone then some w.a else Ej m r l
def rdv:List UInt8->List Wd->List (Wd×Nat)
 |c::r,w::l=>(w,(JX c w.t).getD 0)::rdv r l
 |_,_=>[]
def Ei(b:List UInt8->Bool):List UInt8->List Wd->Option Nat
 |c::r,w::l=>if c=115/\b w.t=false then some w.a else Ei b r l
 |_,_=>none
def KQ(s:List UInt8)(l:List Wd):List UInt8:=if s=[43]then List.replicate l.length 110 else s
theorem kV:∀(l:List UInt8) (i:Nat) (c:Option (List UInt8)),(tg i c l).length<=l.length+1/\∀w∈tg i c l,w.t.length<=(c.getD []).length+l.length/\w.e<=i+l.length
 | [],i,none=>⟨xaA _,λw hw=>by cases hw⟩
 | [],i,some c=>⟨xak _,λw hw=>by
  have hw:w∈[⟨c,i-c.length,i⟩]:=hw;rw[xaK.1 hw];exact⟨xak _,xak _⟩⟩
 |b::r,i,none=>by
  have h1:=kV r (i+1) none;have h2:=kV r (i+1) (some [b]);unfold tg;split
  ·refine⟨by rw[xal];omega,λw hw=>?_⟩;have:=h1.2 w hw;rw[xal];exact⟨by omega,by omega⟩
  refine⟨by rw[xal];omega,λw hw=>?_⟩;have:=h2.2 w hw;simp only[xdA,xdz,xal,xbA]at this⊢;exact⟨by omega,by omega⟩
 |b::r,i,some c=>by
  have h1:=kV r (i+1) none;have h2:=kV r (i+1) (some (c++[b]));unfold tg;split
  ·refine⟨by simp only[xal];omega,λw hw=>?_⟩;rcases xag.1 hw with rfl|hw
   ·simp only[xdA,xal];exact⟨by omega,by omega⟩
   have:=h1.2 w hw;simp only[xdA,xdz,xal,xbA]at this⊢;exact⟨by omega,by omega⟩
  refine⟨by simp only[xal];omega,λw hw=>?_⟩;have:=h2.2 w hw;simp only[xdA,xal,xaf,xbA]at this⊢;exact⟨by omega,by omega⟩
theorem Si:∀l:List UInt8,Fl l<=l.length
 | []=>xak _
 |b::r=>by
  have:=Si r;unfold Fl;rw[xal];split<;>omega
end Go.Proofs.Sw
set_option maxRecDepth 100000
namespace Go.Proofs
open Go Go.Sx Tryz
section
open Fm Sw
def Sw.Wd.cells(w:Wd):List zV:=[ay w.t,nI w.a,nI w.e]
theorem Sw.Wd.one(w:Wd):∀u∈w.cells,u.oneCell'=true:=λu hu=>by
 simp only[Wd.cells,xag,xaw,xa1]at hu;rcases hu with rfl|rfl|rfl<;>rfl
def CX(i:Nat):Option (List UInt8)->Int
 |none=> -1
 |some c=>((i-c.length:Nat):Int)
theorem OO(b:UInt8)(k:Nat)(hk:k<256):b.toNat=k↔b=UInt8.ofNat k:=by
 constructor
 ·intro h;apply xeF.1;rw[h,xdN,xa3 (by simpa using hk)]
 rintro rfl;rw[xdN,xa3 (by simpa using hk)]
theorem nj{l:List UInt8}{i:Nat}(h:i<l.length):∃b,l[i]? =some b/\l.drop i=b::l.drop (i+1):=⟨l[i],xab h,xaV h⟩
set_option maxHeartbeats 1000000 in
theorem xG(l:List UInt8)(hl:l.length<=400)(B:Hp):Fc zQ 17 #[ay l] B (λv H=>∃N,H=N++B/\aO 58 3 v ((tg 0 none l).map Wd.cells) N):=by
 refine aK λg=>N7 ?_;refine⟨λvs H=>∃(i:Nat) (cur:Option (List UInt8)) (acc:List Wd) (C:Hp) (v:zV),vs=[v,iv (CX i cur),nI i]/\i<=l.length+1/\acc.length<=i/\(∀c,cur=some c->1<=c.length/\c.length<=i/\c=(l.take i).drop (i-c.length))/\(i<=l.length->tg 0 none l=acc++tg i cur (l.drop i))/\(i=l.length+1->tg 0 none l=acc)/\aO 58 3 v (acc.map Wd.cells) C/\H=C++B,λvs _=>l.length+1-bj vs 2,
  JE.mk ⟨0,none,[],[],_,rfl,xaA _,xaA _,nofun,λ_=>rfl,λh=>absurd h zO,aO.nil _ _,rfl⟩,?_⟩
 rintro w5 w6 w7 H ⟨i,cur,acc,C,v,⟨⟩,hi,ha,hc,hw,kQ,hs,rfl⟩ gs;refine aL.of (ae.AR (Br.dec (λhle=>?_) (λhgt=>?_)));rotate_left
 ·have e:i=l.length+1:=by omega
  exact aQ.mk (.refl _) ⟨C,rfl,by rw[kQ e];exact hs⟩
 have hw:=hw hle;have cL:((acc.map Wd.cells).length+1)*32<=140737488355328:=by rw[xau];omega
 have hz:∃z:List zV,(Value.agg #[ay [],nI 0,nI 0]).cells=z.toArray/\z.length=3:=⟨[_,_,_],rfl,rfl⟩;intro J10 h10
 /- a word ends -/
 have close:∀c,cur=some c->(tg i cur (l.drop i)=⟨c,i-c.length,i⟩::tg (i+1) none (l.drop (i+1)))->
   bA zQ g (bO Tryz.f17 8 4) (ev (λs=>cond (Nat.beq s 30) (ay l) (cond (Nat.beq s 31) (iv (CX i cur)) (cond (Nat.beq s 32) (nI i) (undef))))) (C++B) λv25=>
   Build zQ 58 [(0,v25),(1,iv (CX i cur)),(2,nI i)] λv26=>
   ak zQ 50 1 [(0,v26)] (C++B) λv27 H28=>
   App zQ 58 3 32 (.agg #[(.string (ByteArray.mk #[])),(iv 0),(iv 0)]) H28 w5 v27 λv31 H32=>
   JE J10 [v31,(iv (-1))] H32:=λc e hn=>by
  subst e;obtain⟨h1,h2,h3⟩:=hc c rfl;refine bA.mM (l:=l) (i:=i-c.length) (j:=i) rfl zK rfl (.inr ⟨_,.i64,rfl,rfl⟩) (.inr ⟨_,.i64,rfl,rfl⟩) (xdB _ _) hle ?_;rw[<-h3];refine Build.mk (cs:=(⟨c,i-c.length,i⟩:Wd).cells) zK (ak.one (e:=58) (z:=.agg #[ay [],nI 0,nI 0]) (k:=3) zK zK zK zD rfl λbs=>?_);refine hs.mD (.cons .left) (.head _) rfl (Wd.one _) hz cL (by rw[xau];omega) λv' C' ho=>?_;refine JE.mk (h10 _ _ _ λ_=>ae.inc (az.of .tail ⟨i+1,none,acc++[⟨c,i-c.length,i⟩],C',v',rfl,by omega,by simp;omega,nofun,λh=>?_,λh=>?_,by rw[xaF];exact ho,rfl⟩ (by simp only[bj];omega)))
  ·rw[hw,hn,xai];rfl
  rw[hw,hn,xa9 zO];rfl
 refine aL.of (ae.bu ?_);by_cases he:i=l.length
 ·subst he;refine cr.or true (λh=>absurd h zI) rfl λ_=>?_;rw[xav rfl,xcj]at*;cases cur with
  |none=>
   refine cr.and false (λ_=>ae.geq ⟨rfl,rfl⟩) rfl λ_=>Br.no ?_;refine Un.not (cr.and false (λh=>absurd h zD) rfl λ_=>Br.no ?_);refine JE.mk (h10 _ _ _ λ_=>ae.inc (az.of (.refl _) ⟨l.length+1,none,acc,C,w5,rfl,xak _,by omega,nofun,λh=>absurd h zO,λ_=>?_,hs,rfl⟩ (by simp only[bj];omega)));rw[hw];exact xaG _
  |some c=>
   refine cr.and true (λ_=>ae.geq ⟨rfl,by rw[xav (show(0:Int)<=CX l.length (some c)from xcf _)]⟩) rfl λ_=>Br.yes ?_;exact close c rfl (by rw[xa9 (Nat.le_succ _)];rfl)
 obtain⟨b,hb,hd⟩:=nj (l:=l) (i:=i) zO;rw[xaq he];refine cr.or (decide (b.toNat=32)) (λ_=>bR.of hb (ae.bu (b:=32) ⟨rfl,rfl⟩)) rfl λ_=>?_;rw[xd3];have e32:b.toNat=32↔b=32:=OO b 32 zD;rw[hd]at hw;by_cases Js:b=32
 ·rw[xav (e32.2 Js)];subst Js;cases cur with
  |none=>
   refine cr.and false (λ_=>ae.geq ⟨rfl,rfl⟩) rfl λ_=>Br.no ?_;refine Un.not (cr.and false (λh=>absurd h zD) rfl λ_=>Br.no ?_);refine JE.mk (h10 _ _ _ λ_=>ae.inc (az.of (.refl _) ⟨i+1,none,acc,C,w5,rfl,by omega,by omega,nofun,λh=>?_,λh=>absurd h zO,hs,rfl⟩ (by simp only[bj];omega)));rw[hw];rfl
  |some c=>
   refine cr.and true (λ_=>ae.geq ⟨rfl,by rw[xav (show(0:Int)<=CX i (some c)from xcf _)]⟩) rfl λ_=>Br.yes ?_;exact close c rfl (by rw[hd];rfl)
 rw[xaq λh=>Js (e32.1 h)];refine cr.and false (λh=>absurd h zD) rfl λ_=>Br.no ?_;have kR:l.take (i+1)=l.take i++[b]:=by rw[xbn,hb];rfl
 cases cur with
 |none=>
  refine Un.not (cr.and true (λ_=>ae.lss ⟨rfl,rfl⟩) rfl λ_=>Br.yes ?_);refine JE.mk (h10 _ _ _ λ_=>ae.inc (az.of (.refl _) ⟨i+1,some [b],acc,C,w5,?_,by omega,by omega,λc hc=>?_,λh=>?_,λh=>absurd h zO,hs,rfl⟩ (by simp only[bj];omega)))
  ·simp[CX]
  ·cases hc;refine⟨xak _,by simp,?_⟩;rw[kR,xbf,xb1,xdC,xa9 zP,xbs,xcc zO,xcC];rfl
  rw[hw];show _=acc++tg (i+1) (some [b]) (l.drop (i+1));congr 1
  conv=>lhs;unfold tg
  rw[xac Js]
 |some c=>
  obtain⟨h1,h2,h3⟩:=hc c rfl;refine Un.not (cr.and false (λ_=>ae.lss ⟨rfl,by rw[xaq (show¬CX i (some c)<0 from Int.not_lt.2 (xcf _))]⟩) rfl λ_=>Br.no ?_);refine JE.mk (h10 _ _ _ λ_=>ae.inc (az.of (.refl _) ⟨i+1,some (c++[b]),acc,C,w5,?_,by omega,by omega,λc' mH=>?_,λh=>?_,λh=>absurd h zO,hs,rfl⟩ (by simp only[bj];omega)))
  ·simp only[CX,xaf,xbf,Nat.add_sub_add_right]
  ·cases mH;refine⟨by simp,by simp;omega,?_⟩;rw[kR,xaf,xbf,Nat.add_sub_add_right,xef zP,<-h3]
  rw[hw];congr 1
  conv=>lhs;unfold tg
  rw[xac Js]
theorem Pc(l:List UInt8)(hl:l.length<=400)(w:Wd)(hw:w.e<=l.length)(B:Hp):Rd zQ 22 #[ay l,.agg w.cells.toArray] B (· =nI (w.e+Fl (l.drop w.e))):=by
 refine aK λg=>NX λb1 _=>Ld.f (v:=nI w.e) ?_;refine⟨λvs H=>∃i,vs=[nI i]/\i<=l.length/\w.e+Fl (l.drop w.e)=i+Fl (l.drop i)/\H=(b1,.cells (Value.cells (.agg w.cells.toArray)) 58 zZ)::B,λvs _=>l.length-bj vs 0,JE.mk ⟨w.e,rfl,hw,rfl,rfl⟩,?_⟩;rintro w9 H ⟨i,⟨⟩,hi,he,rfl⟩ gs;refine aL.of (ae.cU ?_);by_cases h:i<l.length
 ·obtain⟨b,hb,hd⟩:=nj h;rw[xav h];refine cr.and (decide (b.toNat=32)) (λ_=>bR.of hb (ae.bu (b:=32) ⟨rfl,rfl⟩)) rfl λ_=>?_;rw[xcv];have e32:b.toNat=32↔b=32:=OO b 32 zD;rw[hd]at he;refine Br.dec (λJs=>?_) (λJs=>?_)
  ·refine ae.inc (az.of (.refl _) ⟨i+1,rfl,h,?_,rfl⟩ (by simp only[bj];omega));rw[he];show i+(if b=32 then Fl (l.drop (i+1))+1 else 0)=_;rw[xae (e32.1 Js)];omega
  refine bE.mk .tail ?_;rw[he];unfold Fl;rw[xac λh=>Js (e32.2 h)];rfl
 rw[xaq h];refine cr.and false (λh=>absurd h zD) rfl λ_=>Br.no (bE.mk .tail ?_);rw[he,xa9 zO];rfl
def nmR:Option Nat->zV
 |some n=>.tuple #[nI n,.bool true]
 |none=>.tuple #[nI 0,.bool false]
theorem Ea(l:List UInt8)(hl:l.length<=400)(B:Hp):Rd zQ 32 #[ay l] B (· =nmR (XY l)):=by
 refine aK λg=>NL (aL.of (ae.cU (b:=1) (cr.or (decide (18<l.length)) (λ_=>aL.of (ae.iF (b:=18) ⟨rfl,rfl⟩)) rfl λ_=>?_)));rw[<-xbb];unfold XY;refine Br.dec (λh=>?_) (λh=>?_)
 ·exact bE.mk (.refl _) (by rw[xae h];rfl)
 rw[xac h];have h18:l.length<=18:=by omega
 refine aL.of ?_;refine⟨λvs H=>∃i n,vs=[nI n,nI i]/\i<=l.length/\n<10^i/\Z7 0 l=Z7 n (l.drop i)/\H=B,λvs _=>l.length-bj vs 1,JE.mk ⟨0,0,rfl,xaA _,by decide,rfl,rfl⟩,?_⟩;rintro Xv w13 H ⟨i,n,⟨⟩,hi,hn,he,rfl⟩ gs;refine ae.cU (Br.dec (λhlt=>?_) (λhge=>?_))
 ·obtain⟨b,hb,hd⟩:=nj hlt;rw[hd]at he;refine bR.of hb (ae.cU (b:=48) (cr.or (decide (57<b.toNat)) (λ_=>bR.of hb (ae.iF (b:=57) ⟨rfl,rfl⟩)) rfl λ_=>?_));rw[<-xbb];have hp:10^(i+1)<=10^18:=xax zD zO;have hq:10^(i+1)=10^i*10:=xc6 ..;have ajq:(10:Nat)^18=1000000000000000000:=by decide
  have hb8:=b.toNat_lt;refine Br.dec (λpE=>?_) (λhok=>?_)
  ·refine bE.mk (.refl _) ?_;rw[he];unfold Z7;rw[xac zO];rfl
  refine ae.ob (a:=10) (by simp only[aU];omega) (bR.of hb (ae.ir (b:=48) (by simp only[aU];omega) zO (aM.q (ae.e7 (by simp only[aU];omega) ?_))));refine ae.inc (az.of (.refl _) ⟨i+1,10*n+(b.toNat-48),rfl,hlt,by omega,?_,rfl⟩ (by simp only[bj];omega));rw[he]
  conv=>lhs;unfold Z7
  rw[xae zO]
 refine bE.mk (.refl _) ?_;rw[he,xa9 zO];rfl
theorem Bl(l:List UInt8)(hl:l.length<=400)(B:Hp):Rd zQ 33 #[ay l] B (· =.bool (ltr l)):=by
 refine aK λg=>NK (aL.of ?_);refine⟨λvs H=>∃i,vs=[nI i]/\i<=l.length/\l.all low=(l.drop i).all low/\H=B,λvs _=>l.length-bj vs 0,JE.mk ⟨0,rfl,xaA _,rfl,rfl⟩,?_⟩;rintro w6 H ⟨i,⟨⟩,hi,he,rfl⟩ gs;refine ae.cU (Br.dec (λhlt=>?_) (λhge=>?_))
 ·obtain⟨b,hb,hd⟩:=nj hlt;rw[hd,List.all_cons]at he;refine bR.of hb (ae.cU (b:=97) (cr.or (decide (122<b.toNat)) (λ_=>bR.of hb (ae.iF (b:=122) ⟨rfl,rfl⟩)) rfl λ_=>?_));rw[<-xbb];refine Br.dec (λpE=>?_) (λhok=>?_)
  ·refine bE.mk (.refl _) ?_;have:low b=false:=by
    unfold low;rw[xdy,xbw,xbw];omega
   unfold ltr;rw[he,this];rfl
  refine ae.inc (az.of (.refl _) ⟨i+1,rfl,hlt,?_,rfl⟩ (by simp only[bj];omega));have:low b=true:=by
   unfold low;rw[xaB,xaQ,xaQ];omega
  rw[he,this];rfl
 rw[xa9 zO]at he;refine aL.of (ae.mh (b:=1) (cr.and (decide (l.length<=16)) (λ_=>aL.of (ae.AR (b:=16) ⟨rfl,rfl⟩)) rfl λ_=>bE.mk (.refl _) ?_));unfold ltr;rw[he];rfl
end
section
open Fm Sw
noncomputable def Mz:zL:=[50,51,52,53,54,55,56,57,58,59,
 60,61,62,63,64,65,66,67,68]
noncomputable def pR(sp:Nat)(i:Nat):List zV:=[ay (sW.getD i ([],[])).1,ay (sW.getD i ([],[])).2,.func (.func (Mz.getD i 0)) #[ptr sp] #[]]
noncomputable def De(sp:Nat):List (List zV):=(List.range 19).map (pR sp)
theorem Ax(sp i:Nat):∀u∈pR sp i,u.oneCell'=true:=λu hu=>by
 simp only[pR,xag,xaw,xa1]at hu;rcases hu with rfl|rfl|rfl<;>rfl
theorem zG:∀u∈[ay [],ay [],Value.nilFunc],u.oneCell'=true:=λu hu=>by
 simp only[xag,xaw,xa1]at hu;rcases hu with rfl|rfl|rfl<;>rfl
theorem Dc(sp:Nat):(De sp).length=19:=by unfold De;rw[xau,xaC]
theorem Dd(sp:Nat){i:Nat}(hi:i<19):(De sp)[i]? =some (pR sp i):=by
 unfold De;rw[xas,xdo hi];rfl
theorem C7(sp:Nat)(B:Hp):Fc zQ 28 #[ptr sp] B (λv H=>∃N,H=N++B/\aO 54 3 v (De sp) N):=by
 refine aK λg=>NP ?_;refine Build.mk (cs:=pR sp 0) zK (Build.mk (cs:=pR sp 1) zK (Build.mk (cs:=pR sp 2) zK (Build.mk (cs:=pR sp 3) zK (Build.mk (cs:=pR sp 4) zK ?_))));refine Build.mk (cs:=pR sp 5) zK (Build.mk (cs:=pR sp 6) zK (Build.mk (cs:=pR sp 7) zK (Build.mk (cs:=pR sp 8) zK (Build.mk (cs:=pR sp 9) zK ?_))));refine Build.mk (cs:=pR sp 10) zK (Build.mk (cs:=pR sp 11) zK (Build.mk (cs:=pR sp 12) zK (Build.mk (cs:=pR sp 13) zK (Build.mk (cs:=pR sp 14) zK ?_))));refine Build.mk (cs:=pR sp 15) zK (Build.mk (cs:=pR sp 16) zK (Build.mk (cs:=pR sp 17) zK (Build.mk (cs:=pR sp 18) zK ?_)));refine ak.many (e:=54) (k:=3) (z:=.agg #[ay [],ay [],.nilFunc]) (De sp) zK zK zK (by rw[Dc];decide) (λr hr=>?_) rfl zK λbw=>?_
 ·obtain⟨i,_,rfl⟩:=xam.1 hr;rfl
 exact aQ.mk (.refl _) ⟨[_],rfl,aO.made (T:=54) (k:=3) (b:=bw) (De sp) (λr hr=>by obtain⟨i,_,rfl⟩:=xam.1 hr;rfl)⟩
theorem KV(b:Nat)(t nm:List UInt8)(x y:zV)(B:Hp)(hb:(b,Obj.cells #[ay nm] 9 zZ)∈B):Rd zQ 30 #[.agg #[ay t,x,y],ptr b] B (· =.bool (decide (t=nm))):=by
 refine aK λg=>NN λb1 _=>Ld.f (v:=ay t) ?_;exact Ld.mk (.tail _ hb) rfl (ae.Be (bE.mk .tail rfl))
def ixV:Option Nat->zV
 |some i=>nI i
 |none=>iv (-1)
theorem Qr(nm:List UInt8){i:Nat}(hi:i<19):idx nm i (sW.drop i)=if(sW.getD i ([],[])).1=nm then some i else idx nm (i+1) (sW.drop (i+1)):=by
 have hc:i<sW.length:=hi;rw[xaV hc];have:sW.getD i ([],[])=sW[i]:=by rw[xap,xab hc];rfl
 rw[this];rfl
theorem Qo{sp b:Nat}{nm:List UInt8}{v:zV}{N B:Hp}(hs:aO 54 3 v (De sp) N)(hN:∀y∈N,y∈B)(hb:(b,Obj.cells #[ay nm] 9 zZ)∈B):
  Rd zQ 29 #[v,.func (.func 30) #[] #[ptr b]] B (· =ixV (cmd nm)):=by
 refine aK λg=>NO (hs.bF ?_);rw[Dc];refine⟨λvs H=>∃i,vs=[nI i]/\i<=19/\cmd nm=idx nm i (sW.drop i)/\H=B,λvs _=>19-bj vs 0,JE.mk ⟨0,rfl,xaA _,rfl,rfl⟩,?_⟩;rintro w6 H ⟨i,⟨⟩,hi,he,rfl⟩ gs;refine ae.cU (b:=19) (Br.dec (λhlt=>?_) (λhge=>?_))
 ·refine hs.oB (Dd sp hlt) hN (bG.of rfl zK (aa.eq (KV b _ nm _ _ H hb) (Br.dec (λh=>?_) (λh=>?_))))
  ·refine bE.mk (.refl _) ?_;rw[he,Qr nm hlt,xae h];rfl
  refine ae.inc (az.of (.refl _) ⟨i+1,rfl,hlt,?_,rfl⟩ (by simp only[bj];omega));rw[he,Qr nm hlt,xac h]
 refine bE.mk (.refl _) ?_;have:i=19:=by omega
 subst this;rw[he];rfl
noncomputable def fdV(sp:Nat):Option Nat->zV
 |some i=>.tuple #[.agg (pR sp i).toArray,.bool true]
 |none=>.tuple #[.agg #[ay [],ay [],.nilFunc],.bool false]
theorem rIq(nm:List UInt8):∀(l:List (List UInt8×List UInt8)) (i j:Nat),idx nm i l=some j->i<=j/\j<i+l.length
 | [],i,j,h=>by cases h
 |a::l,i,j,h=>by
  unfold idx at h;split at h
  ·cases h;simp
  have:=rIq nm l (i+1) j h;rw[xal];omega
theorem R6{nm:List UInt8}{j:Nat}(h:cmd nm=some j):j<19:=by
 have:=rIq nm sW 0 j h;have e:sW.length=19:=rfl;omega
theorem uy(sp:Nat)(nm:List UInt8)(B:Hp):Rd zQ 18 #[ptr sp,ay nm] B (· =fdV sp (cmd nm)):=by
 refine aK λg=>N6 λb1 _ b3 _=>aa.fq (C7 sp _) ?_;rintro v H ⟨N,rfl,hs⟩;refine aa.eq (Qo hs (λy hy=>xad _ hy) (xaa _ (.tail _ (.head _)))) ?_;cases hc:cmd nm with
 |none=>
  refine ae.lss (Br.yes (Build.mk (cs:=[ay [],ay [],.nilFunc]) zK (St.whole (r:=[ay [],ay [],.nilFunc]) ((cu.head _).aH N) rfl rfl zG (au.whole (r:=[ay [],ay [],.nilFunc]) (xaa _ (.head _)) rfl ?_))));exact bE.mk (.bY (.skip .tail)) rfl
 |some i=>
  have hi:=R6 hc;refine ae.lss (Br.F ?_ (by show¬((i:Nat):Int)<0;omega));refine hs.oB (Dd sp hi) (λy hy=>xad _ hy) (St.whole (r:=pR sp i) ((cu.head _).aH N) rfl rfl (Ax sp i) (au.whole (r:=pR sp i) (xaa _ (.head _)) rfl ?_));exact bE.mk (.bY (.skip .tail)) rfl
theorem YV(sp:Nat)(o:Option Nat):∃r:List zV,r.length=3/\(∀u∈r,u.oneCell'=true)/\fdV sp o=.tuple #[.agg r.toArray,.bool o.isSome]:=by
 cases o with
 |none=>exact⟨[ay [],ay [],.nilFunc],rfl,zG,rfl⟩
 |some i=>exact⟨pR sp i,rfl,Ax sp i,rfl⟩
theorem Bj(sp:Nat)(t:List UInt8)(ht:t.length<=400)(B:Hp):Rd zQ 20 #[ptr sp,ay t] B (· =.bool (xg t)):=by
 refine aK λg=>NZ (aa.eq (uy sp t B) ?_);obtain⟨r,hr,h1,e⟩:=YV sp (cmd t);rw[e];refine Ext.mk rfl (Ext.mk rfl λb5 _=>St.whole (r:=r) (.head _) rfl hr h1 (aa.eq (Bl t ht _) (cr.and (!(cmd t).isSome) (λ_=>Un.not ⟨rfl,rfl⟩) rfl λ_=>?_)));refine bE.mk .tail ?_;unfold xg;cases cmd t<;>rfl
end
section
open Fm
def Fm.Tok.cells(t:Tok):List zV:=[nI t.k,nI t.p,nI t.v]
theorem Fm.Tok.one(t:Tok):∀u∈t.cells,u.oneCell'=true:=λu hu=>by
 simp only[Tok.cells,xag,xaw,xa1]at hu;rcases hu with rfl|rfl|rfl<;>rfl
def Wi(s:List UInt8×Nat):List zV:=[ay s.1,nI s.2]
theorem Ph(B:Hp):Fc zQ 79 #[] B (λv H=>∃N,H=N++B/\aO 146 2 v (eB.map Wi) N):=by
 refine aK λg=>M6 ?_;refine Build.mk (cs:=[ay [60,45,62],nI 9]) zK (Build.mk (cs:=[ay [45,62],nI 8]) zK (Build.mk (cs:=[ay [48],nI 1]) zK (Build.mk (cs:=[ay [49],nI 2]) zK ?_)));refine Build.mk (cs:=[ay [33],nI 4]) zK (Build.mk (cs:=[ay [38],nI 5]) zK (Build.mk (cs:=[ay [94],nI 6]) zK (Build.mk (cs:=[ay [124],nI 7]) zK ?_)));refine Build.mk (cs:=[ay [40],nI 10]) zK (Build.mk (cs:=[ay [41],nI 11]) zK (Build.mk (cs:=[ay [91],nI 12]) zK (Build.mk (cs:=[ay [63],nI 13]) zK ?_)));refine Build.mk (cs:=[ay [58],nI 14]) zK (Build.mk (cs:=[ay [93],nI 15]) zK ?_);refine ak.many (e:=146) (k:=2) (z:=.agg #[ay [],nI 0]) (eB.map Wi) zK zK zK zD zD rfl rfl λbw=>?_;exact aQ.mk (.refl _) ⟨[_],rfl,aO.made (T:=146) (k:=2) (b:=bw) (eB.map Wi) zD⟩
def sS(l:List UInt8)(j:Nat):Option (Nat×Nat×Nat):=
 match kU l with
 |some (n,w)=>some (3,n,w)
 |none=>(wT l (eB.take j)).map λq=>(q.1,0,q.2)
def RE(p:Nat):Option (Nat×Nat×Nat)->Tok
 |some q=>⟨q.1,p,q.2.1⟩
 |none=>⟨16,p,0⟩
def tH:Option (Nat×Nat×Nat)->Nat
 |some q=>q.2.2
 |none=>0
theorem Jv(l:List UInt8)(p:Nat):RE p (sS l 14)=⟨(dk l).1,p,(dk l).2.1⟩/\tH (sS l 14)=(dk l).2.2:=by
 unfold sS dk;cases kU l with
 |some q=>exact⟨rfl,rfl⟩
 |none=>
  simp only[show eB.take 14=eB from rfl];cases wT l eB with
  |some q=>exact⟨rfl,rfl⟩
  |none=>exact⟨rfl,rfl⟩
theorem ux(l:List UInt8)(s:List UInt8×Nat):∀L:List (List UInt8×Nat),wT l (L++[s])=match wT l L with|some q=>some q|none=>if s.1.isPrefixOf l=true then some (s.2,s.1.length)else none
 | []=>by simp only[xbe,wT]
 |a::L=>by
  rw[xaN];unfold wT;split
  ·rfl
  exact ux l s L
theorem RD{l:List UInt8}{j:Nat}(h:tH (sS l j)=0):sS l j=none:=by
 unfold sS at h⊢;cases hx:kU l with
 |some q=>
  obtain⟨n,w⟩:=q;rw[hx]at h;exfalso;cases l with
  |nil=>simp[kU]at hx
  |cons b r=>
   by_cases hb:b=120/\0<(num 0 0 r).2
   ·rw[show kU (b::r)=some ((num 0 0 r).1,(num 0 0 r).2+1)from xae hb]at hx;cases hx;simp[tH]at h
   rw[show kU (b::r)=none from xac hb]at hx;cases hx
 |none=>
  rw[hx]at h;simp only at h⊢;cases hs:wT l (eB.take j)with
  |none=>rfl
  |some q=>
   rw[hs]at h;have:=(Ec (eB.take j) (λs hs=>(show∀s∈eB,s.1≠[]/\∀b∈s.1,b.toNat<128 by decide) s (xci hs)) q hs).1;simp only[xbj,tH]at h;omega
theorem RC{l:List UInt8}{j:Nat}(hj:j<14){s:List UInt8×Nat}(hs:eB[j]? =some s):sS l (j+1)=if tH (sS l j)=0/\s.1.isPrefixOf l=true then some (s.2,0,s.1.length)else sS l j:=by
 by_cases h0:tH (sS l j)=0
 ·have hn:=RD h0;unfold sS at hn⊢;cases hx:kU l with
  |some q=>rw[hx]at hn;cases hn
  |none=>
   rw[hx]at hn;simp only at hn⊢;rw[xbn,hs];simp only[xdR];rw[ux];have hn':wT l (eB.take j)=none:=by simpa using hn
   rw[hn'];simp only[xce,tH,xdu];split<;>rfl
 rw[xac λh=>h0 h.1];unfold sS at h0⊢;cases hx:kU l with
 |some q=>rfl
 |none=>
  rw[hx]at h0;simp only at h0⊢;cases hq:wT l (eB.take j)with
  |none=>rw[hq]at h0;simp[tH]at h0
  |some q=>
   rw[xbn,hs];simp only[xdR];rw[ux,hq]
def Ya:Hp->Nat
 | []=>0
 |x::r=>match x.2 with
  | .stringIter _ p=>p
  |_=>Ya r
theorem z8{T:TypeId}{k:Nat}{v:zV}{rs:List (List zV)}{C B:Hp}{b p:Nat}{s:ByteArray}(h:aO T k v rs C):Ya (C++((b,.stringIter s p)::B))=p:=by
 rcases h with⟨_,_,rfl⟩|⟨c,j,_,rfl,_⟩<;>rfl
theorem Fm.eo.at{l:List UInt8}{p:Nat}(hp:p<l.length):∃c,l[p]? =some c/\l.drop p=c::l.drop (p+1):=⟨l[p],xab hp,xaV hp⟩
theorem TN{l:List UInt8}(h:(dk l).1=16):(dk l).2.1=0:=by
 unfold dk at h⊢;cases hx:kU l with
 |some q=>rw[hx]at h;cases h
 |none=>
  simp only;cases wT l eB with
  |some q=>rfl
  |none=>rfl
set_option maxHeartbeats 2000000 in
theorem Rr(l:List UInt8)(hl:l.length<=65536)(B:Hp):Fc zQ 37 #[ay l] B (λv H=>∃(o:List Tok) (N:Hp),H=N++B/\eo 0 l o/\o.length<=l.length+1/\aO 141 3 v (o.map Tok.cells) N):=by
 refine aK λg=>NI ?_;refine dD.Py rfl zK rfl λb=>?_;refine⟨λvs H=>∃(p q:Nat) (acc:List Tok) (C:Hp) (v:zV),vs=[v,nI q]/\p<=l.length/\q<=l.length/\acc.length<=max p q/\(∀o,eo (max p q) (l.drop (max p q)) o->eo 0 l (acc++o))/\(∀j,p<=j->j<q->∃c,l[j]? =some c/\c.toNat<128)/\aO 141 3 v (acc.map Tok.cells) C/\H=C++((b,.stringIter ⟨l.toArray⟩ p)::B),λvs H=>l.length-Ya H,JE.mk ⟨0,0,[],[],_,rfl,xaA _,xaA _,xaA _,λo h=>h,λj h1 h2=>absurd h2 zO,aO.nil _ _,rfl⟩,?_⟩;rintro w7 w8 H ⟨p,q,acc,C,v,⟨⟩,hp,hq,ha,hT,hb,hs,rfl⟩ gs;have hz:∃z:List zV,(Value.agg #[iv 0,iv 0,iv 0]).cells=z.toArray/\z.length=3:=⟨[_,_,_],rfl,rfl⟩;refine dD.Wm (C:=B) (c:=λX=>C++(X++B)) rfl rfl (.app (.left (C:=[_]))) (λhlt=>?_) (λhge=>?_);rotate_left
 ·have mg:p=l.length:=by omega
  subst mg;refine Ext.mk rfl (Br.no (aL.of (Build.mk (cs:=(⟨0,l.length,0⟩:Tok).cells) zK (ak.one (e:=141) (z:=.agg #[iv 0,iv 0,iv 0]) (k:=3) zK zK zK zD rfl λbs=>?_))));refine hs.mD (.cons .left) (.head _) rfl (Tok.one _) hz (by simp only[xau];omega) (by simp only[xau];omega) λv' C' ho=>?_;refine aQ.mk (gW:=C'++B) (.skip (.cT .tail _)) ⟨acc++[⟨0,l.length,0⟩],C',rfl,hT _ ?_,?_,by rw[xaF];exact ho⟩
  ·rw[show max l.length q=l.length by omega,xcj];exact .fin
  simp only[xaf,xbf];omega
 obtain⟨c,hc,hd⟩:=eo.at hlt;obtain⟨D1,D2,hD⟩:∃D1 D2,Utf8.decode ⟨l.toArray⟩ p=(D1,D2):=⟨_,_,rfl⟩;have hlo:c.toNat<128->D1=c.toNat/\D2=1:=λh=>by
  have:=yQ hc h;rw[hD]at this;cases this;exact⟨rfl,rfl⟩
 have hhi:128<=c.toNat->128<=D1/\D1<2147483648:=λh=>by
  have:=yS hc h;rw[hD]at this;exact⟨this.1,this.2.1⟩
 rw[hD];refine Ext.mk rfl (Br.yes (Ext.mk rfl (Ext.mk rfl ?_)));refine ae.cU (cr.or (decide (D1=32)) (λ_=>ae.bu (b:=32) ⟨rfl,rfl⟩) rfl λ_=>?_);rw[<-xbb];refine Br.dec (λhy=>?_) (λhn=>?_)
 ·have Ot:c.toNat<128:=by
   rcases hy with h|h
   ·obtain⟨c',e,h'⟩:=hb p (xak _) h;rw[hc]at e;cases e;exact h'
   rcases xdx c.toNat 128 with h'|h'
   ·exact h'
   have:=hhi h';omega
  obtain⟨e1,rfl⟩:=hlo Ot;refine az.of (.refl _) ⟨p+1,q,acc,C,w7,rfl,hlt,hq,by omega,λo ho=>hT o ?_,λj h1 h2=>hb j zO h2,hs,rfl⟩ ?_
  ·by_cases hpq:p<q
   ·rw[show max p q=max (p+1) q by omega];exact ho
   rw[show max p q=p by omega,hd];rw[show max (p+1) q=p+1 by omega]at ho;have:c=32:=xeF.1 (by show c.toNat=32;omega);rw[this];exact .blank ho
  show l.length-Ya (C++((b,.stringIter ⟨l.toArray⟩ (p+1))::B))<l.length-Ya (C++((b,.stringIter ⟨l.toArray⟩ p)::B));rw[z8 hs,z8 hs];omega
 have hpq:¬p<q:=λh=>hn (.inl h);have afW:D1≠32:=λh=>hn (.inr h);rw[show max p q=p by omega]at hT ha;have abR:c≠32:=λh=>by
  subst h;exact afW (hlo zD).1
 obtain⟨l',hl'⟩:∃l',l.drop p=l':=⟨_,rfl⟩;rw[hl']at hT hd;have jF:l'.length=l.length-p:=by rw[<-hl',xb5]
 refine Build.mk (cs:=(⟨16,p,0⟩:Tok).cells) zK λtb _=>St.whole (r:=(⟨16,p,0⟩:Tok).cells) (.head _) rfl rfl (Tok.one _) λJ22 Z4=>?_;have main:J22 [nI (tH (sS l' 0))] ((tb,.cells (RE p (sS l' 0)).cells.toArray 141 zZ)::(C++([(b,.stringIter ⟨l.toArray⟩ (p+D2))]++B))):=by
  refine Z4 _ _ λ_=>?_;refine aa.fq (Ph _) ?_;rintro sv _ ⟨N,rfl,WH⟩;refine WH.bF ?_;refine⟨λvs H=>∃j,j<=14/\vs=[nI (tH (sS l' j)),nI j]/\H=N++((tb,.cells (RE p (sS l' j)).cells.toArray 141 zZ)::(C++([(b,.stringIter ⟨l.toArray⟩ (p+D2))]++B))),λvs _=>14-bj vs 1,JE.mk ⟨0,by decide,rfl,rfl⟩,?_⟩;rintro w33 w34 H ⟨j,hj,⟨⟩,rfl⟩ gs;have e14:((eB.map Wi).length:Int)=14:=rfl;rw[e14];refine ae.cU (b:=14) (Br.dec (λYQ=>λZl Z2=>?_) (λYQ=>?_))
  ·obtain⟨s,hsj⟩:∃s,eB[j]? =some s:=⟨_,xab YQ⟩;have next:Zl [nI (tH (sS l' (j+1)))] (N++((tb,.cells (RE p (sS l' (j+1))).cells.toArray 141 zZ)::(C++([(b,.stringIter ⟨l.toArray⟩ (p+D2))]++B)))):=by
    refine Z2 _ _ λ_=>ae.inc (az.of (.refl _) ⟨j+1,YQ,rfl,rfl⟩ ?_);simp only[bj];omega
   have mG:=RC (l:=l') YQ hsj;refine WH.oB (r:=Wi s) (by rw[xas,hsj];rfl) (λy hy=>xad _ hy) ?_;refine λsb _=>St.whole (r:=Wi s) (.head _) rfl rfl (by intro v hv;simp only[Wi,xag,xaw,xa1]at hv;rcases hv with rfl|rfl<;>rfl) λJ46 h46=>?_;have j46:∀t:Bool,t=(decide (tH (sS l' j)=0) &&s.1.isPrefixOf l')->JE J46 [.bool t] ((sb,.cells (Wi s).toArray 146 zZ)::(N++((tb,.cells (RE p (sS l' j)).cells.toArray 141 zZ)::(C++([(b,.stringIter ⟨l.toArray⟩ (p+D2))]++B))))):=λt ht=>by
    refine JE.mk (h46 _ _ λ_=>?_);cases t with
    |true=>
     have hh:=ht.symm;rw[xaB,xaQ]at hh;rw[xae hh]at mG;refine Br.yes (DR.of (.jg (.head _)) (Ld.u (.head _) (Build.mk (cs:=(⟨s.2,p,0⟩:Tok).cells) zK (Ld.u (.head _) (aL.of (St.whole (r:=(⟨s.2,p,0⟩:Tok).cells) (.tail (.aH (.head _) N)) rfl rfl (Tok.one _) ⟨?_,JE.of .tail ?_⟩))))))
     ·exact .jg (.head _)
     rw[mG]at next;exact next
    |false=>
     have hh:=ht.symm;have:sS l' (j+1)=sS l' j:=by
      rw[mG];refine xac λh=>?_;rw[xav h.1,h.2]at hh;cases hh
     rw[this]at next
     exact Br.no (JE.of .tail next)
   refine DR.self (ae.bu (b:=0) (Br.dec (λh0=>?_) (λh0=>?_)))
   ·refine bA.mM (l:=l) (i:=p) (j:=l.length) rfl zK rfl (.inr ⟨_,.i64,rfl,rfl⟩) (.inl ⟨rfl,rfl⟩) hp (xak _) ?_;rw[xbc,hl'];refine Ld.u (.head _) λ_=>aa.eq (XO _ _ _) (aS.mk ?_);refine(show(cond (s.1.isPrefixOf l') (Value.bool true) (.bool false))=.bool (s.1.isPrefixOf l')by cases s.1.isPrefixOf l'<;>rfl)▸j46 _ ?_;rw[xav h0];rfl
   exact j46 false (by rw[xaq h0];rfl)
  have ae4:j=14:=by omega
  subst ae4;rw[(Jv l' p).1,(Jv l' p).2];refine au.whole (r:=(⟨(dk l').1,p,(dk l').2.1⟩:Tok).cells) (xaa _ (.head _)) rfl ?_;refine ak.one (e:=141) (z:=.agg #[iv 0,iv 0,iv 0]) (k:=3) zK zK zK zD rfl λbs=>?_;refine hs.mD (.cons (.app (.cons .left))) (.head _) rfl (Tok.one _) hz (by simp only[xau];omega) (by simp only[xau];omega) λv' C' ho=>?_;refine Ld.u (.tail _ (xaa _ (.head _))) (ae.bu (b:=16) (Br.dec (λL3=>?_) (λL3=>?_)))
  ·have L3:(dk l').1=16:=L3;refine aQ.mk (gW:=C'++B) (.skip (.bY (.skip (.cT .tail _)))) ⟨acc++[⟨(dk l').1,p,(dk l').2.1⟩],C',rfl,hT _ ?_,?_,by rw[xaF];exact ho⟩
   ·have acu:=TN L3;rw[hd]at L3 acu⊢;rw[L3,acu];exact .wrong abR L3
   simp only[xaf,xbf];omega
  have L3:(dk l').1≠16:=L3;have aeY:=pT L3;have Ot:c.toNat<128:=by
   rcases xdx c.toNat 128 with h'|h'
   ·exact h'
   exact absurd (by rw[hd];exact TM h') L3
  refine ae.eZ (az.of (.skip (.bY (.skip (.refl _)))) ⟨p+D2,p+(dk l').2.2,acc++[⟨(dk l').1,p,(dk l').2.1⟩],C',v',rfl,?_,?_,?_,?_,?_,by rw[xaF];exact ho,rfl⟩ ?_)
  ·rw[(hlo Ot).2];exact hlt
  ·omega
  ·simp only[xaf,xbf];omega
  ·intro o ho;rw[xai];refine hT _ ?_;rw[(hlo Ot).2]at ho;rw[show max (p+1) (p+(dk l').2.2)=p+(dk l').2.2 by omega,<-List.drop_drop,hl']at ho;rw[hd]at L3 ho⊢;exact .tok abR L3 ho
  ·intro j h1 h2;obtain⟨c',e,h'⟩:=aeY.2.2 (j-p) zO;rw[<-hl',List.getElem?_drop,show p+(j-p)=j by omega]at e;exact⟨c',e,h'⟩
  show l.length-Ya (C'++((b,.stringIter ⟨l.toArray⟩ (p+D2))::B))<l.length-Ya (C++((b,.stringIter ⟨l.toArray⟩ p)::B));rw[z8 hs,z8 ho,(hlo Ot).2];omega
 have none_:kU l'=none->JE J22 [nI 0] ((tb,.cells (⟨16,p,0⟩:Tok).cells.toArray 141 zZ)::(C++([(b,.stringIter ⟨l.toArray⟩ (p+D2))]++B))):=λhx=>by
  have:sS l' 0=none:=by unfold sS;rw[hx];rfl
  rw[this]at main;exact JE.mk main
 refine ae.bu (b:=120) (Br.dec (λhx=>?_) (λhx=>?_))
 ·have Ot:c.toNat<128:=by
   rcases xdx c.toNat 128 with h'|h'
   ·exact h'
   have:=hhi h';omega
  have DM:c=120:=xeF.1 (by show c.toNat=120;have:=(hlo Ot).1;omega);refine ae.inc (bA.mM (l:=l) (i:=p+1) (j:=l.length) rfl zK rfl (.inr ⟨_,.i64,rfl,rfl⟩) (.inl ⟨rfl,rfl⟩) hlt (xak _) ?_);rw[xbc];refine aa.eq (Vy (l.drop (p+1)) (by rw[xb5];omega) _) (Ext.mk rfl (Ext.mk rfl (ae.iF (b:=0) (Br.dec (λh0=>?_) (λh0=>?_)))))
  ·have hf:sS l' 0=some (3,(num 0 0 (l.drop (p+1))).1,1+(num 0 0 (l.drop (p+1))).2):=by
    unfold sS;rw[hd,DM,show kU ((120:UInt8)::l.drop (p+1))=some ((num 0 0 (l.drop (p+1))).1,(num 0 0 (l.drop (p+1))).2+1)from xae ⟨rfl,h0⟩,xc5 1]
   have hnm:=(uQ (l.drop (p+1)) 0 0).2.1;rw[xb5]at hnm;rw[hf]at main;exact Build.mk (cs:=(⟨3,p,(num 0 0 (l.drop (p+1))).1⟩:Tok).cells) zK (ae.e7 (a:=1) (by simp only[aU];omega) (St.whole (r:=(⟨3,p,(num 0 0 (l.drop (p+1))).1⟩:Tok).cells) (.head _) rfl rfl (Tok.one _) (JE.mk main)))
  refine none_ ?_;rw[hd,DM];exact xac λh=>h0 h.2
 refine none_ ?_;rw[hd];refine xac λh=>hx ?_;rw[(hlo (by rw[h.1];decide)).1,h.1];rfl
abbrev Bv(rb:Nat)(v:zV)(n:Nat):Nat×Obj:=(rb,.cells #[v,nI n] 94 zZ)
abbrev bI(b:Nat):zV:=.pointer (some ⟨b,0,none⟩)
def Z6(p e:Nat):List PanicEntry:=[{v:=.iface 88 (.agg #[nI p,nI e]),recovered:=false}]
inductive r9(H:Hp):Tr->zV->Prop
 |c {k b:Nat}:(b,.cells #[nI k,nI 0,.slice none 0 0] 101 zZ)∈H->r9 H (.c k) (bI b)
 |v {n b:Nat}:(b,.cells #[nI 3,nI n,.slice none 0 0] 101 zZ)∈H->r9 H (.v n) (bI b)
 |no {a:Tr} {b d x:Nat}:(b,.cells #[nI 4,nI 0,.slice (some ⟨d,0,none⟩) 1 1] 101 zZ)∈H->(d,.cells #[bI x] 64 zZ)∈H->r9 H a (bI x)->r9 H (.no a) (bI b)
 |bin {k:Nat} {a a':Tr} {b d x y:Nat}:(b,.cells #[nI k,nI 0,.slice (some ⟨d,0,none⟩) 2 2] 101 zZ)∈H->(d,.cells #[bI x,bI y] 64 zZ)∈H->r9 H a (bI x)->r9 H a' (bI y)->r9 H (.bin k a a') (bI b)
 |ite {a a' a2:Tr} {b d x y z:Nat}:(b,.cells #[nI 12,nI 0,.slice (some ⟨d,0,none⟩) 3 3] 101 zZ)∈H->(d,.cells #[bI x,bI y,bI z] 64 zZ)∈H->r9 H a (bI x)->r9 H a' (bI y)->r9 H a2 (bI z)->r9 H (.ite a a' a2) (bI b)
theorem r9.ptr{H:Hp}{t:Tr}{p:zV}(h:r9 H t p):∃b,p=bI b:=by cases h<;>exact⟨_,rfl⟩
theorem r9.mono{H H':Hp}{t:Tr}{p:zV}(h:r9 H t p)(hs:∀x∈H,x∈H'):r9 H' t p:=by
 induction h with
 |c h=>exact .c (hs _ h)
 |v h=>exact .v (hs _ h)
 |no h1 h2 _ i1=>exact .no (hs _ h1) (hs _ h2) i1
 |bin h1 h2 _ _ i1 i2=>exact .bin (hs _ h1) (hs _ h2) i1 i2
 |ite h1 h2 _ _ _ i1 i2 i3=>exact .ite (hs _ h1) (hs _ h2) i1 i2 i3
section
variable {rb n:Nat} {B:Hp} {v:zV} {x:Tok} {l:List Tok}
theorem RB(h:Sl 3 B v ((x::l).map Tok.cells)):Rd zQ 82 #[bI rb] (Bv rb v n::B) (· =.agg x.cells.toArray):=by
 refine aK λg=>M3 λb1 _=>Nil.ptr (Ld.u (.tail _ (.head _)) ?_);refine ai.sl (i:=0) h rfl λp hp=>?_;refine au.at hp rfl zD (λy hy=>.tail _ (.tail _ hy)) (St.whole (.head _) rfl rfl (Tok.one _) (au.whole (.head _) rfl (bE.mk .tail rfl)))
theorem vA(h:Sl 3 B v ((x::l).map Tok.cells)):Fc zQ 83 #[bI rb] (Bv rb v n::B) (λr H=>r=.agg x.cells.toArray/\∃v',H=Bv rb v' n::B/\Sl 3 B v' (l.map Tok.cells)):=by
 refine aK λg=>M1 λb1 _=>Nil.ptr (Ld.u (.tail _ (.head _)) ?_);refine ai.sl (i:=0) h rfl λp hp=>?_;refine au.at hp rfl zD (λy hy=>.tail _ (.tail _ hy)) λb8 _=>St.whole (.head _) rfl rfl (Tok.one _) (Nil.ptr (Ld.u (.tail _ (.tail _ (.head _))) ?_));refine cR.tail h λv' h'=>Nil.ptr (.mk (St.one (c':=#[v',nI n]) (.tail (.tail (.head _))) (by obtain⟨a,c,rfl,_⟩:=h'.shape;rfl) zI rfl ?_));exact au.whole (.head _) rfl (St.whole (.tail (.head _)) rfl rfl (Tok.one _) (au.whole (.tail _ (.head _)) rfl (aQ.mk (.skip .tail) ⟨rfl,v',rfl,h'⟩)))
theorem qH(x:Tok)(e:Nat)(B:Hp):Zo zQ 84 #[.agg x.cells.toArray,nI e] B (λ_ _=>False) (λc H=>H=B/\c=Z6 x.p e):=by
 refine fcP λg=>M0 λb1 _=>Ld.u (.head _) (Build.mk (cs:=[nI x.p,nI e]) zK ?_);exact dD.panic rfl rfl (tJ.En .tail ⟨rfl,rfl⟩)
theorem RI(x:Tok)(dp:Nat)(hd:dp<=1000)(B:Hp):Zo zQ 130 #[.agg x.cells.toArray,nI dp] B (λr H=>¬1000<=dp/\H=B/\r=nI (dp+1)) (λc H=>1000<=dp/\H=B/\c=Z6 x.p 7):=by
 refine fcP λg=>HZ λb1 _ J3 h3=>ae.mh (b:=1000) (Br.dec (λh=>?_) (λh=>?_))
 ·refine au.whole (.head _) rfl (aa.fp .here (qH x 7 _) (λv C' h=>h.elim) λch C' h'=>?_);obtain⟨rfl,rfl⟩:=h';exact tJ.En .tail ⟨h,rfl,rfl⟩
 exact JE.mk (h3 _ λ_=>ae.inc (tJ.ret .tail ⟨h,rfl,rfl⟩))
theorem CC(k:Nat)(h:Sl 3 B v ((x::l).map Tok.cells)):Zo zQ 39 #[bI rb,nI k] (Bv rb v n::B) (λr H=>x.k=k/\∃v',H=Bv rb v' n::B/\Sl 3 B v' (l.map Tok.cells)) (λc H=>x.k≠k/\H=B/\c=Z6 x.p 14):=by
 refine fcP λg=>NG (aa.fn .here (vA h) ?_);rintro _ _ ⟨rfl,v',rfl,h'⟩;refine λb3 _=>St.whole (.head _) rfl rfl (Tok.one _) (Ld.u (.head _) (ae.mF (Br.dec (λhk=>?_) (λhk=>?_))))
 ·refine au.whole (.head _) rfl (aa.fp .here (qH x 14 _) (λv C' h=>h.elim) λch C' hc=>?_);obtain⟨rfl,rfl⟩:=hc;exact tJ.En (.skip .tail) ⟨hk,rfl,rfl⟩
 exact tJ.ret .tail ⟨xet.1 hk,v',rfl,h'⟩
theorem Ru(lv:Nat)(hl:lv<5)(B:Hp):Rd zQ 81 #[nI lv] B (· =nI (eJ lv)):=by
 refine aK λg=>M4 ?_;refine ak.nA (e:=97) (z:=nI 0) [nI 9,nI 8,nI 7,nI 6,nI 5] zK zK zK zD zD rfl rfl λb=>?_;refine ai.nat hl (Ld.mk (v:=nI (eJ lv)) (.head _) ?_ (bE.mk .tail rfl))
 match lv,hl with
 |0,_=>rfl
 |1,_=>rfl
 |2,_=>rfl
 |3,_=>rfl
 |4,_=>rfl
end
def PQ(n rb:Nat)(B:Hp)(l:List Tok)(g:Gl)(p:zV)(H:Hp):Prop:=∃t l' v' N,Ev n (g9 n g) (.ok t l')/\qW l'/\l'.length<=l.length/\Sl 3 B v' (l'.map Tok.cells)/\H=N++(Bv rb v' n::B)/\r9 N t p
def PB(n:Nat)(B:Hp)(g:Gl)(c:List PanicEntry)(H:Hp):Prop:=∃p e,Ev n (g9 n g) (.bad p e)/\H=B/\c=Z6 p e
def TX(m:Nat):Prop:=∀(n lv dp rb:Nat) (l:List Tok) (v:zV) (B:Hp),l.length*8+(6-lv)<=m->lv<=5->dp<=1000->qW l->Sl 3 B v (l.map Tok.cells)->
 Zo zQ 38 #[bI rb,nI lv,nI dp] (Bv rb v n::B) (PQ n rb B l (.jz lv dp l)) (PB n B (.jz lv dp l))
def TG(m:Nat):Prop:=∀(n dp rb:Nat) (l:List Tok) (v:zV) (B:Hp),l.length*8<=m->dp<=1000->qW l->Sl 3 B v (l.map Tok.cells)->
 Zo zQ 80 #[bI rb,nI dp] (Bv rb v n::B) (PQ n rb B l (.tight dp l)) (PB n B (.tight dp l))
def aaB:Hp->Nat
 |(_,.cells c _ _)::_=>(match(c[0]? :Option zV)with
  |some (Value.slice _ k _)=>k
  |_=>0)
 |_=>0
theorem I0{rb n:Nat}{v:zV}{l:List Tok}{B X:Hp}(h:Sl 3 B v (l.map Tok.cells)):aaB (Bv rb v n::X)=l.length:=by
 obtain⟨a,c,rfl,_⟩:=h.shape;show(l.map Tok.cells).length=_;simp
theorem IV(lv:Nat):eJ lv≠0/\eJ lv≠16:=by
 match lv with
 |0=>decide
 |1=>decide
 |2=>decide
 |3=>decide
 |n+4=>exact⟨by show(5:Nat)≠0;decide,by show(5:Nat)≠16;decide⟩
theorem Fm.Ev.more{n lv dp:Nat}{l:List Tok}{a:Tr}{l1:List Tok}(hl:lv≠5)(h:Ev n (g9 n (.jz (lv+1) dp l)) (.ok a l1)){r:Rs}(h2:Ev n (g9 n (.more lv dp a l1)) r):Ev n (g9 n (.jz lv dp l)) r:=by
 show Ev n (if lv=5 then _ else _) r;rw[xac hl];exact .call h (.call h2 .done)
theorem Bx(N B:Hp)(x:Nat×Obj):aI (x::(N++B)) (N++(x::B)):=.perm (xaT.symm)
theorem ry(N B:Hp)(x:Nat×Obj):aI (N++(x::B)) (x::(N++B)):=.perm xaT
set_option maxHeartbeats 1000000 in
theorem KF(m:Nat)(hx:TX m)(hg:TG m):TX (m+1):=by
 intro n lv dp rb l v B hm hlv Vc hf hs;refine fcP λg=>NH ?_;refine ae.bu (b:=5) (Br.dec (λh5=>?_) (λh5=>?_))
 ·subst h5;refine aa.fp .here (hg n dp rb l v B zO Vc hf hs) ?_ ?_
  ·rintro p _ ⟨t,l',v',N,h1,h2,h3,h4,rfl,h5⟩;exact tJ.ret (.refl _) ⟨t,l',v',N,.call h1 .done,h2,h3,h4,rfl,h5⟩
  rintro c _ ⟨p,e,h1,rfl,rfl⟩;exact tJ.En (.refl _) ⟨p,e,.call h1 .done,rfl,rfl⟩
 have hl5:lv<5:=by omega
 refine aa.eq (Ru lv hl5 _) (ae.inc ?_);refine aa.fp .here (hx n (lv+1) dp rb l v B zO zO Vc hf hs) ?_ ?_;rotate_left
 ·rintro c _ ⟨p,e,h1,rfl,rfl⟩;refine tJ.En (.refl _) ⟨p,e,?_,rfl,rfl⟩;show Ev n (if lv=5 then _ else _) _;rw[xac h5];exact .call h1 .done
 rintro p _ ⟨t,l',v',N,h1,h2,h3,h4,rfl,h6⟩;refine⟨λvs H=>∃a l1 v1 N p,vs=[p]/\H=Bv rb v1 n::(N++B)/\r9 N a p/\qW l1/\l1.length<=l.length/\Sl 3 B v1 (l1.map Tok.cells)/\(∀r,Ev n (g9 n (.more lv dp a l1)) r->Ev n (g9 n (.jz lv dp l)) r),
  λ_ H=>aaB H,JE.of (ry N B _) ⟨t,l',v',N,p,rfl,rfl,h6,h2,h3,h4,λr hr=>Ev.more h5 h1 hr⟩,?_⟩
 clear h1 h2 h3 h4 h6;rintro w13 H ⟨a,l1,v1,N,_,⟨⟩,rfl,ha,hf1,yC,hs1,Af⟩ gs;obtain⟨x,l2,rfl⟩:=hf1.split;refine aa.eq (RB (n:=n) (rb:=rb) (hs1.mono (B':=N++B) λy hy=>xaa _ hy)) (A1.mk rfl (ae.bu (Br.dec (λhk=>?_) (λhk=>?_))));rotate_left
 ·refine tJ.ret (Bx N B _) ⟨a,x::l2,v1,N,Af _ ?_,hf1,yC,hs1,rfl,ha⟩;show Ev n (if x.k=eJ lv then _ else _) _;rw[xac hk];exact .done
 have QS:qW l2:=hf1.tail (by rw[hk];exact(IV lv).1) (by rw[hk];exact(IV lv).2);have oE:l2.length+1<=l.length:=yC;refine aa.pre (Bx N B _) (aa.fn (.app .here) (vA hs1) ?_);rintro _ _ ⟨rfl,v2,rfl,mu⟩;refine ae.bu (b:=8) (Br.dec (λh8=>?_) (λh8=>?_))
 ·refine aa.fp (.app .here) (hx n lv dp rb l2 v2 B zO hlv Vc QS mu) ?_ ?_;rotate_left
  ·rintro c _ ⟨p,e,h1,rfl,rfl⟩;refine tJ.En .right ⟨p,e,Af _ ?_,rfl,rfl⟩;show Ev n (if x.k=eJ lv then _ else _) _;rw[xae hk,xae h8];exact .call h1 .done
  rintro p _ ⟨b,l3,v3,N2,h1,h2,h3,h4,rfl,h6⟩;obtain⟨pa,rfl⟩:=ha.ptr;obtain⟨pb,rfl⟩:=h6.ptr;refine ak.nA (e:=64) (z:=.pointer none) [bI pa,bI pb] zK zK zK (show(2:Nat)<=16777216 by decide) (by simp[Value.oneCell']) rfl rfl λbd=>?_;refine Build.mk (cs:=[nI 8,nI 0,.slice (some ⟨bd,0,none⟩) 2 2]) zK λbt _=>?_;refine tJ.ret (.refl _) ⟨.bin 8 a b,l3,v3,(bt,_)::(bd,_)::(N++N2),Af _ ?_,h2,by omega,h4,by simp;rfl,.bin (.head _) (.tail _ (.head _)) (ha.mono λy hy=>?_) (h6.mono λy hy=>?_)⟩
  ·show Ev n (if x.k=eJ lv then _ else _) _;rw[xae hk,xae h8];exact .call h1 .done
  ·exact .tail _ (.tail _ (xad _ hy))
  exact .tail _ (.tail _ (xaa _ hy))
 refine ae.inc (aa.fp (.app .here) (hx n (lv+1) dp rb l2 v2 B zO zO Vc QS mu) ?_ ?_);rotate_left
 ·rintro c _ ⟨p,e,h1,rfl,rfl⟩;refine tJ.En .right ⟨p,e,Af _ ?_,rfl,rfl⟩;show Ev n (if x.k=eJ lv then _ else _) _;rw[xae hk,xac h8];exact .call h1 .done
 rintro p _ ⟨b,l3,v3,N2,h1,h2,h3,h4,rfl,h6⟩;obtain⟨pa,rfl⟩:=ha.ptr;obtain⟨pb,rfl⟩:=h6.ptr;refine ak.nA (e:=64) (z:=.pointer none) [bI pa,bI pb] zK zK zK (show(2:Nat)<=16777216 by decide) (by simp[Value.oneCell']) rfl rfl λbd=>?_;refine Build.mk (cs:=[nI (eJ lv),nI 0,.slice (some ⟨bd,0,none⟩) 2 2]) zK λbt _=>?_;refine az.of (H':=Bv rb v3 n::(((bt,.cells #[nI (eJ lv),nI 0,.slice (some ⟨bd,0,none⟩) 2 2] 101 zZ)::(bd,.cells #[bI pa,bI pb] 64 zZ)::(N++N2))++B)) (.trans ?_ (ry _ B _)) ⟨.bin (eJ lv) a b,l3,v3,_,_,rfl,rfl,.bin (.head _) (.tail _ (.head _)) (ha.mono λy hy=>?_) (h6.mono λy hy=>?_),h2,by omega,h4,λr hr=>Af _ ?_⟩ ?_
 ·simp only[xaN,xai];exact .refl _
 ·exact .tail _ (.tail _ (xad _ hy))
 ·exact .tail _ (.tail _ (xaa _ hy))
 ·show Ev n (if x.k=eJ lv then _ else _) _;rw[xae hk,xac h8];exact .call h1 (.call hr .done)
 rw[I0 h4,I0 hs1];simp only[xal];omega
set_option maxHeartbeats 1600000 in
theorem D0(m:Nat)(hx:TX m)(hg:TG m):TG (m+1):=by
 intro n dp rb l v B hm Vc hf hs;obtain⟨x,l,rfl⟩:=hf.split;have hlen:(x::l).length=l.length+1:=rfl;refine fcP λg=>M5 (aa.fn .here (vA hs) ?_);rintro _ _ ⟨rfl,v1,rfl,hs1⟩;refine λb3 _=>St.whole (r:=x.cells) (.head _) rfl rfl (Tok.one _) (Ld.u (.head _) λJ8 h8=>?_);have ret:∀(t:Tr) (l':List Tok) (v':zV) (N:Hp) (p:zV) (H:Hp),Ev n (g9 n (.tight dp (x::l))) (.ok t l')->qW l'->l'.length<=l.length->Sl 3 B v' (l'.map Tok.cells)->aI H (N++(Bv rb v' n::B))->r9 N t p->tJ (PQ n rb B (x::l) (.tight dp (x::l))) (PB n B (.tight dp (x::l))) (.returned p) H:=
  λt l' v' N p H h1 h2 h3 h4 h5 h6=>tJ.ret h5 ⟨t,l',v',N,h1,h2,Nat.le_succ_of_le h3,h4,rfl,h6⟩
 have En:∀(c:List PanicEntry) (p e:Nat) (H:Hp),Ev n (g9 n (.tight dp (x::l))) (.bad p e)->aI H B->c=Z6 p e->cA (tJ (PQ n rb B (x::l) (.tight dp (x::l))) (PB n B (.tight dp (x::l)))) c H:=
  λc p e H h1 h2 h3=>tJ.En h2 ⟨p,e,h1,rfl,h3⟩
 have main:∀t,t=decide (x.k=1\/x.k=2)->JE J8 [.bool t] ((b3,.cells x.cells.toArray 141 zZ)::(Bv rb v1 n::B)):=by
  rintro _ rfl;refine JE.mk (h8 _ _ λ_=>Br.dec (λhk=>?_) (λhk=>?_))
  ·refine Ld.u (.head _) (Build.mk (cs:=[nI x.k,nI 0,.slice none 0 0]) zK λbt _=>?_);refine ret (.c x.k) l v1 [_] _ _ ?_ (hf.tail zO zO) (xak _) hs1 (.trans aI.swap .tail) (.c (.head _));show Ev n (if x.k=1\/x.k=2 then _ else _) _;rw[xae hk];exact .done
  have pl:∀q,(if x.k=3 then(if n<=x.v then Pl.done (.bad x.p 2)else .done (.ok (.v x.v) l))
   else if x.k=4 then(if 1000<=dp then .done (.bad x.p 7)else .call (.tight (dp+1) l) λr=>r.thn λa l2=>.done (.ok (.no a) l2))
   else if x.k=10 then(if 1000<=dp then .done (.bad x.p 7)else .call (.jz 0 (dp+1) l) λr=>r.cF 11 λa l2=>.done (.ok a l2))
   else if x.k=12 then(if 1000<=dp then .done (.bad x.p 7)else .call (.jz 0 (dp+1) l) λr=>r.cF 13 λa l2=>.call (.jz 0 (dp+1) l2) λr=>r.cF 14 λb l3=>.call (.jz 0 (dp+1) l3) λr=>r.cF 15 λc l4=>.done (.ok (.ite a b c) l4))
   else .done (.bad x.p 14))=q->g9 n (.tight dp (x::l))=q:=λq hq=>by
   rw[<-hq];show(if x.k=1\/x.k=2 then _ else _)=_;rw[xac hk]
  clear h8;refine ae.bu (b:=3) (Br.dec (λh3=>?_) (λh3=>?_))
  ·rw[xae h3]at pl;refine λJ18 h18=>Ld.u (.head _) (Nil.ptr (Ld.u (.tail _ (.head _)) (ae.mh (Br.dec (λhv=>?_) (λhv=>?_)))))
   ·refine au.whole (.head _) rfl (aa.fp .here (qH x 2 _) (λv C' h=>h.elim) λch C' h'=>?_);obtain⟨rfl,rfl⟩:=h';refine En _ x.p 2 _ ?_ (.skip .tail) rfl;rw[pl _ rfl,xae hv];exact .done
   refine JE.mk (h18 _ λ_=>Ld.u (.head _) (Build.mk (cs:=[nI 3,nI x.v,.slice none 0 0]) zK λbt _=>?_));refine ret (.v x.v) l v1 [_] _ _ ?_ (hf.tail zO zO) (xak _) hs1 (.trans aI.swap .tail) (.v (.head _));rw[pl _ rfl,xac hv];exact .done
  rw[xac h3]at pl;have deep:∀{KK:zV->Hp->Prop},(x.k=4\/x.k=10\/x.k=12)->(¬1000<=dp->KK (nI (dp+1)) ((b3,.cells x.cells.toArray 141 zZ)::(Bv rb v1 n::B)))->aa zQ g 130 #[.agg x.cells.toArray,nI dp] ((b3,.cells x.cells.toArray 141 zZ)::(Bv rb v1 n::B)) KK (cA (tJ (PQ n rb B (x::l) (.tight dp (x::l))) (PB n B (.tight dp (x::l))))):=by
   intro KK hk4 hK;refine aa.fp .here (RI x dp Vc _) ?_ ?_
   ·rintro r _ ⟨h1,rfl,rfl⟩;exact hK h1
   rintro c _ ⟨h1,rfl,rfl⟩;refine En _ x.p 7 _ ?_ (.skip .tail) rfl;rw[pl _ rfl];rcases hk4 with h|h|h<;>rw[h]<;>simp[h1]<;>exact .done
  have hft:x.k≠0->x.k≠16->qW l:=λh0 h1=>hf.tail h0 h1;refine ae.bu (b:=4) (Br.dec (λh4=>?_) (λh4=>?_))
  ·rw[xae h4]at pl;refine au.whole (.head _) rfl (deep (.inl h4) λhd=>?_);rw[xac hd]at pl;refine aa.fp (.cons .here) (hg n (dp+1) rb l v1 B zO zO (hft zO zO) hs1) ?_ ?_;rotate_left
   ·rintro c _ ⟨p,e,h1,rfl,rfl⟩;refine En _ p e _ ?_ .tail rfl;rw[pl _ rfl];exact .call h1 .done
   rintro p _ ⟨a,l',v',N,h1,h2,h3,h5,rfl,h6⟩;obtain⟨pa,rfl⟩:=h6.ptr;refine ak.nA (e:=64) (z:=.pointer none) [bI pa] zK zK zK (show(1:Nat)<=16777216 by decide) (by simp[Value.oneCell']) rfl rfl λbd=>?_;refine Build.mk (cs:=[nI 4,nI 0,.slice (some ⟨bd,0,none⟩) 1 1]) zK λbt _=>?_;refine ret (.no a) l' v' ((bt,_)::(bd,_)::N) _ _ ?_ h2 h3 h5 (.cons (.cons .tail)) (.no (.head _) (.tail _ (.head _)) (h6.mono λy hy=>.tail _ (.tail _ hy)));rw[pl _ rfl];exact .call h1 .done
  rw[xac h4]at pl
  /- one part, and the sign behind it -/
  have part:∀(k:Nat) (l0:List Tok) (v0:zV) (N0:Hp) (f:Tr->List Tok->Pl) (KK:zV->Hp->Prop),k≠0->k≠16->¬1000<=dp->qW l0->l0.length<=l.length->Sl 3 B v0 (l0.map Tok.cells)->
   (∀(r:Rs),Ev n (.call (.jz 0 (dp+1) l0) λr=>r.cF k f) r->Ev n (g9 n (.tight dp (x::l))) r)->
   (∀a l' v' N p,(∀r,Ev n (f a l') r->Ev n (.call (.jz 0 (dp+1) l0) λr=>r.cF k f) r)->qW l'->l'.length<=l0.length->Sl 3 B v' (l'.map Tok.cells)->r9 N a p->KK p (N0++(N++(Bv rb v' n::B))))->
   aa zQ g 38 #[bI rb,nI 0,nI (dp+1)] (N0++(Bv rb v0 n::B)) (λp H=>aa zQ g 39 #[bI rb,nI k] H (λ_ H'=>KK p H') (cA (tJ (PQ n rb B (x::l) (.tight dp (x::l))) (PB n B (.tight dp (x::l))))))
    (cA (tJ (PQ n rb B (x::l) (.tight dp (x::l))) (PB n B (.tight dp (x::l))))):=by
   intro k l0 v0 N0 f KK k0 k16 hd hf0 hl0 hs0 Af hK;refine aa.fp (.app .here) (hx n 0 (dp+1) rb l0 v0 B zO zO zO hf0 hs0) ?_ ?_;rotate_left
   ·rintro c _ ⟨p,e,h1,rfl,rfl⟩;exact En _ p e _ (Af _ (.call h1 .done)) .right rfl
   rintro p _ ⟨a,l',v',N,h1,h2,h3,h5,rfl,h6⟩;obtain⟨y,l2,rfl⟩:=h2.split;refine aa.fp (.app (.app .here)) (CC k h5) ?_ ?_;rotate_left
   ·rintro c _ ⟨hk,rfl,rfl⟩;refine En _ y.p 14 _ (Af _ (.call h1 ?_)) (.bY .right) rfl;show Ev n (if y.k=k then _ else _) _;rw[xac hk];exact .done
   rintro r _ ⟨hk,v2,rfl,mu⟩;refine hK a l2 v2 N p (λr hr=>.call h1 ?_) (h2.tail zO zO) (by have:=h3;simp only[xal]at this;omega) mu h6;show Ev n (if y.k=k then _ else _) _;rw[xae hk];exact hr
  refine ae.bu (b:=10) (Br.dec (λh10=>?_) (λh10=>?_))
  ·rw[xae h10]at pl;refine au.whole (.head _) rfl (deep (.inr (.inl h10)) λhd=>?_);rw[xac hd]at pl;refine part 11 l v1 [_] (λa l2=>.done (.ok a l2)) _ zD zD hd (hft zO zO) (xak _) hs1 (λr hr=>by rw[pl _ rfl];exact hr) λa l' v' N p Af Oq hl' hs' ht=>?_;refine ret a l' v' N _ _ ?_ Oq hl' hs' .tail ht;rw[pl _ rfl];exact Af _ .done
  rw[xac h10]at pl;refine ae.bu (b:=12) (Br.dec (λh12=>?_) (λh12=>?_))
  ·rw[xae h12]at pl;refine au.whole (.head _) rfl (deep (.inr (.inr h12)) λhd=>?_);rw[xac hd]at pl;refine part 13 l v1 [_] _ _ zD zD hd (hft zO zO) (xak _) hs1 (λr hr=>by rw[pl _ rfl];exact hr) λa l2 v2 N p ev1 QS oE mu UT=>?_;rw[<-xai];refine part 14 l2 v2 _ _ _ zD zD hd QS oE mu (λr hr=>by rw[pl _ rfl];exact ev1 _ hr) λb l3 v3 N2 p2 ev2 hf3 hl3 hs3 LH=>?_;rw[<-xai];refine part 15 l3 v3 _ _ _ zD zD hd hf3 zO hs3 (λr hr=>by rw[pl _ rfl];exact ev1 _ (ev2 _ hr)) λc l4 v4 N3 p3 ev3 hf4 hl4 hs4 Jl=>?_;obtain⟨pa,rfl⟩:=UT.ptr;obtain⟨pb,rfl⟩:=LH.ptr;obtain⟨pc,rfl⟩:=Jl.ptr;refine ak.nA (e:=64) (z:=.pointer none) [bI pa,bI pb,bI pc] zK zK zK (show(3:Nat)<=16777216 by decide) (by simp[Value.oneCell']) rfl rfl λbd=>?_;refine Build.mk (cs:=[nI 12,nI 0,.slice (some ⟨bd,0,none⟩) 3 3]) zK λbt _=>?_;refine ret (.ite a b c) l4 v4 ((bt,_)::(bd,_)::(N++(N2++N3))) _ _ ?_ hf4 zO hs4 ?_ (.ite (.head _) (.tail _ (.head _)) (UT.mono λy hy=>?_) (LH.mono λy hy=>?_) (Jl.mono λy hy=>?_))
   ·rw[pl _ rfl];exact ev1 _ (ev2 _ (ev3 _ .done))
   ·simp only[xaN,xai,xbe];exact .cons (.cons .tail)
   ·exact .tail _ (.tail _ (xad _ hy))
   ·exact .tail _ (.tail _ (xaa _ (xad _ hy)))
   exact .tail _ (.tail _ (xaa _ (xaa _ hy)))
  rw[xac h12]at pl;refine au.whole (.head _) rfl (aa.fp .here (qH x 14 _) (λv C' h=>h.elim) λch C' h'=>?_);obtain⟨rfl,rfl⟩:=h';refine En _ x.p 14 _ ?_ (.skip .tail) rfl;rw[pl _ rfl];exact .done
 refine ae.bu (b:=1) (Br.dec (λh1=>?_) (λh1=>?_))
 ·exact main _ (by simp[h1])
 exact ae.bu (b:=2) (main _ (by simp[h1]))
theorem A8:∀m,TX m/\TG m
 |0=>⟨λn lv dp rb l v B hm hlv _ hf _=>by omega,λn dp rb l v B hm _ hf _=>by
   obtain⟨x,l,rfl⟩:=hf.split;simp only[xal]at hm;omega⟩
 |m+1=>⟨KF m (A8 m).1 (A8 m).2,D0 m (A8 m).1 (A8 m).2⟩
def Zj(g:Gh)(a0 a1 a2 v3:zV)(H:Hp)(K:Hp->Prop):Prop:=
bA zQ g (bO Tryz.f36 1 1) (ev (λs=>cond (Nat.beq s 7) v3 (undef))) H λv5=>
Br v5 (
bA zQ g (bO Tryz.f36 2 1) (ev (λs=>cond (Nat.beq s 10) v3 (undef))) H λv6=>
Ext 0 v6 λv7=>
Ext 1 v6 λv8=>
J4 H (.cells #[(Value.int .i64 0),(Value.int .i64 0)] 88 zZ) λb9 H10=>
St 2 H10 (.pointer (some ⟨b9,0,none⟩)) v7 λH11=>
∀J12:Jt,(∀H14:Hp,(∀akM:Fr,
DR H14 λR15=>
ag 0 (.pointer (some ⟨b9,0,none⟩)) λv16=>
Ld R15 v16 λv17=>
ag 1 (.pointer (some ⟨b9,0,none⟩)) λv18=>
Ld R15 v18 λv19=>
St 1 H14 a0 (.pointer none) λH20=>
aI H20 R15/\
St 1 H20 a1 v17 λH21=>
aI H21 R15/\
St 1 H21 a2 v19 λH22=>
K H22)->J12 [] H14)->
Un .not v8 λv23=>
Br v23 (
dD zQ g (bO Tryz.f36 4 1) (ev (λs=>cond (Nat.beq s 16) v3 (undef))) H11 (λv24 H25=>
JE J12 [] H25) (λ_ _=>∀_:Fr,False)) (
JE J12 [] H11)) (
K H)
theorem Jf{g:Gh}{a0 a1 a2 v:zV}{u u':FrameMode}{H:Hp}{K:Hp->Prop}(hu:(u=.returning/\v=.nilIface/\u'=.returning)\/(u=.panicking [{v,recovered:=false}]/\u'=.panicking [{v,recovered:=true}]))
 (h:Zj g a0 a1 a2 v H K):pN zQ 36 g #[a0,a1,a2] u H K:=by
 refine pN.rec (args:=[a0,a1,a2]) (hn:=(.n .e (.n (.n .e (.h 1 [] [0,1,2,4] .e (.h 0 [0,1,2,3,4,5,6] [] .e .e))) .e))) func36 rfl rfl rfl rfl rfl rfl rfl rfl rfl rfl rfl hu ?_;refine Eq.mpr (?_:_=Zj g a0 a1 a2 v H K) h;kernel_rfl
theorem P7{g:Gh}{b4 b6 b8 at_ e:Nat}{x4 x6 x8:zV}{X B:Hp}{K:Hp->Prop}
 (hk:∀b9,K ((b9,.cells #[nI at_,nI e] 88 zZ)::(X++((b8,.cells #[nI e] 25 zZ)::(b6,.cells #[nI at_] 3 zZ)::(b4,.cells #[.pointer none] 64 zZ)::B)))):
  Zj g (bI b4) (bI b6) (bI b8) (.iface 88 (.agg #[nI at_,nI e])) (X++((b8,.cells #[x8] 25 zZ)::(b6,.cells #[x6] 3 zZ)::(b4,.cells #[x4] 64 zZ)::B)) K:=by
 refine bA.Jj rfl rfl rfl ⟨#[],by kernel_rfl⟩ (.inr ⟨_,_,rfl,rfl⟩) (Br.yes ?_);refine bA.VS rfl rfl zK (Ext.mk rfl (Ext.mk rfl λb9 _=>St.whole (r:=[nI at_,nI e]) (.head _) rfl rfl (by simp[Value.oneCell']) λJ12 h12=>?_));refine Un.not (Br.no (JE.mk (h12 _ λ_=>?_)));refine DR.of (.jg (.head _)) (Ld.u (.head _) (Ld.u (.head _) ?_));refine St.one (c':=#[.pointer none]) (.tail (.aH (.tail (.tail (.head _))) _)) rfl (show(0:Nat)<1 by decide) rfl ⟨.jg (.head _),?_⟩;refine St.one (c':=#[nI at_]) (.tail (.aH (.tail (.head _)) _)) rfl (show(0:Nat)<1 by decide) rfl ⟨.jg (.head _),?_⟩;exact St.one (c':=#[nI e]) (.tail (.aH (.head _) _)) rfl (show(0:Nat)<1 by decide) rfl (hk b9)
set_option maxHeartbeats 1000000 in
theorem yJ(l:List UInt8)(n:Nat)(B:Hp):Fc zQ 23 #[ay l,nI n] B (λr H=>∃N,H=N++B/\((∃t l' p,Reads n l (.ok t l')/\r=.tuple #[p,nI 0,nI 0]/\r9 N t p)\/∃at_ e,Reads n l (.bad at_ e)/\r=.tuple #[.pointer none,nI at_,nI e])):=by
 refine aK λg=>NW λb4 _ b6 _ b8 _=>aL.of (ae.iF (b:=65536) (Br.dec (λhl=>?_) (λhl=>?_)))
 ·refine St.one (c':=#[.pointer none]) (.tail (.tail (.head _))) rfl (show(0:Nat)<1 by decide) rfl ?_;refine St.one (c':=#[nI 0]) (.tail (.head _)) rfl (show(0:Nat)<1 by decide) rfl ?_;refine St.one (c':=#[nI 13]) (.head _) rfl (show(0:Nat)<1 by decide) rfl (Ld.mk (.tail _ (.tail _ (.head _))) rfl (Ld.mk (.tail _ (.head _)) rfl (Ld.mk (.head _) rfl ?_)));exact aQ.mk (.skip (.skip .tail)) ⟨[],rfl,.inr ⟨0,13,.Ls hl,rfl⟩⟩
 have hl:l.length<=65536:=by omega
 refine aa.fn .here (Rr l hl _) ?_;rintro tv _ ⟨o,N,rfl,ht,hlen,hs⟩;obtain⟨a,c,rfl⟩:=hs.len;refine Build.mk (cs:=[.slice a (o.map Tok.cells).length c,nI n]) zK λb34 _=>?_;obtain⟨i,t,ho,hk,hi⟩:=ht.last;have fail:∀(ch:List PanicEntry) (X:Hp) (x4 x6 x8:zV) (at_ e:Nat),ch=Z6 at_ e->Reads n l (.bad at_ e)->∀R:Rt,R=aQ (λr H=>∃N,H=N++B/\((∃t l' p,Reads n l (.ok t l')/\r=.tuple #[p,nI 0,nI 0]/\r9 N t p)\/∃at_ e,Reads n l (.bad at_ e)/\r=.tuple #[.pointer none,nI at_,nI e]))->
   pN zQ 36 g #[bI b4,bI b6,bI b8] (.panicking ch) (X++((b8,.cells #[x8] 25 zZ)::(b6,.cells #[x6] 3 zZ)::(b4,.cells #[x4] 64 zZ)::B)) (λH=>Ld H (bI b4) λv1=>Ld H (bI b6) λv2=>Ld H (bI b8) λv3=>R (.returned (.tuple #[v1,v2,v3])) H):=by
  rintro _ X x4 x6 x8 at_ e rfl hr _ rfl;refine Jf (.inr ⟨rfl,rfl⟩) (P7 λb9=>?_);refine Ld.mk (.tail _ (xaa _ (.tail _ (.tail _ (.head _))))) rfl (Ld.mk (.tail _ (xaa _ (.tail _ (.head _)))) rfl (Ld.mk (.tail _ (xaa _ (.head _))) rfl ?_));exact aQ.mk (.skip (.bY (.skip (.skip .tail)))) ⟨[],rfl,.inr ⟨at_,e,hr,rfl⟩⟩
 refine aa.fp .left ((A8 _).1 n 0 0 b34 o _ N (xak _) zD zD ⟨i,t,ho,hk,hi⟩ (.fi hs zD)) ?_ ?_;rotate_left
 ·rintro ch _ ⟨p,e,h1,rfl,rfl⟩ _;exact fail _ _ _ _ _ p e rfl (.mk hl ht (.call h1 .done)) _ rfl
 rintro p _ ⟨t,l',v',N2,h1,h2,h3,h4,rfl,h6⟩;obtain⟨pt,rfl⟩:=h6.ptr;refine St.one (c':=#[bI pt]) (.aH (.tail (.tail (.head _))) _) rfl (show(0:Nat)<1 by decide) rfl ?_;obtain⟨y,l2,rfl⟩:=h2.split;refine aa.pre aI.assoc (aa.fp (.app .left) (CC 0 h4) ?_ ?_);rotate_left
 ·rintro ch _ ⟨LQ,rfl,rfl⟩ _;rw[<-xai];refine fail _ _ _ _ _ y.p 14 rfl (.mk hl ht (.call h1 ?_)) _ rfl;show Ev n (if y.k=0 then _ else _) _;rw[xac LQ];exact .done
 rintro _ _ ⟨LQ,v2,rfl,mu⟩;refine Ld.mk (xaa _ (xaa _ (.tail _ (.tail _ (.head _))))) rfl ?_;refine St.one (c':=#[bI pt]) (.aH (.aH (.tail (.tail (.head _))) _) _) rfl (show(0:Nat)<1 by decide) rfl ?_;refine St.one (c':=#[nI 0]) (.aH (.aH (.tail (.head _)) _) _) rfl (show(0:Nat)<1 by decide) rfl ?_;refine St.one (c':=#[nI 0]) (.aH (.aH (.head _) _) _) rfl (show(0:Nat)<1 by decide) rfl ?_;refine Jf (v:=.nilIface) (u':=.returning) (.inl ⟨rfl,rfl,rfl⟩) (bA.Jj rfl rfl rfl ⟨#[],by kernel_rfl⟩ (.inl ⟨rfl,rfl,_,rfl⟩) (Br.no ?_));refine Ld.mk (xaa _ (xaa _ (.tail _ (.tail _ (.head _))))) rfl (Ld.mk (xaa _ (xaa _ (.tail _ (.head _)))) rfl (Ld.mk (xaa _ (xaa _ (.head _))) rfl ?_));refine aQ.mk (.cT (.bY (.skip (.skip .tail))) N2) ⟨N2,rfl,.inl ⟨t,l2,bI pt,.mk hl ht (.call h1 ?_),rfl,h6⟩⟩;show Ev n (if y.k=0 then _ else _) _;rw[xae LQ];exact .done
end
section
open Fm aE
section
variable {kp:Nat} {K K1 K2:Kd} {S S1 S2:Nat->aE.Fn} {ord ah tr:zL} {C:Hp}
structure bM(K:Kd)(S:Nat->aE.Fn)(K':Kd)(S':Nat->aE.Fn)(xs:zL):Prop where
 n:K'.n=K.n
 cap:K'.cap=K.cap
 fn:∀s,K.hold s≠0->S' s=S s
 hold:∀s,K'.hold s=K.hold s+if 2<=s then xs.count s else 0
theorem bM.refl:bM K S K S []:=⟨rfl,rfl,λ_ _=>rfl,λs=>by simp⟩
theorem bM.grow{xs:zL}{f:aE.Fn}{x:Nat}(h:bM K S K1 S1 xs)(hl:∀s,K1.hold s≠0->aE.live K1.N s)(hg:SR K1 S1 K2 S2 f x):bM K S K2 S2 (xs++[x]):=
 ⟨hg.n.trans h.n,hg.cap.trans h.cap,λs hs=>by
  rw[hg.fn s (hl s (by rw[h.hold];omega)),h.fn s hs],λs=>by
  rw[hg.hold,h.hold,xbv,xcQ];by_cases h2:2<=s
  ·by_cases hx:s=x
   ·subst hx;simp[h2];omega
   have:(x==s)=false:=by simp;exact λh=>hx h.symm
   simp[h2,hx,this]
  have:¬(s=x/\2<=x):=λh=>h2 (h.1▸h.2);simp[h2,this]⟩
theorem bM.more{xs ys:zL}(h:bM K S K1 S1 xs)(h':bM K1 S1 K2 S2 ys):bM K S K2 S2 (xs++ys):=
 ⟨h'.n.trans h.n,h'.cap.trans h.cap,λs hs=>by rw[h'.fn s (by rw[h.hold];omega),h.fn s hs],λs=>by
  rw[h'.hold,h.hold,xbv];split<;>omega⟩
theorem bM.kept{xs:zL}(h:bM K S K1 S1 xs)(hk:Kept K1 S1 K2 S2):bM K S K2 S2 xs:=
 ⟨hk.n.trans h.n,hk.cap.trans h.cap,λs hs=>by rw[hk.fn s (by rw[h.hold];omega),h.fn s hs],λs=>by rw[hk.hold,h.hold]⟩
theorem bM.Xg{r:Nat}{xs:zL}(h:bM K S K1 S1 (r::xs))(hf:SU K1 K2 r):bM K S K2 S1 xs:=
 ⟨hf.n.trans h.n,hf.cap.trans h.cap,h.fn,λs=>by
  rw[hf.hold,h.hold,xcR];by_cases h2:2<=s
  ·by_cases hx:s=r
   ·subst hx;simp[h2]
   have:(r==s)=false:=by simp;exact λh=>hx h.symm
   simp[h2,hx,this]
  have:¬(s=r/\2<=r):=λh=>h2 (h.1▸h.2);simp[h2,this]⟩
theorem bM.perm{xs ys:zL}(h:bM K S K1 S1 xs)(hp:xs.Perm ys):bM K S K1 S1 ys:=
 ⟨h.n,h.cap,h.fn,λs=>by rw[h.hold,hp.count_eq]⟩
theorem bM.held{xs:zL}(h:bM K S K1 S1 xs){P:aE.Fn->Prop}(hx:∀x∈xs,P (S1 x))(g:aE.Fn)(hg:K1.held S1 g):K.held S g\/P g:=by
 obtain⟨s,hs,rfl⟩:=hg;by_cases h0:K.hold s=0
 ·right;have hs':K1.hold s≠0:=hs;rw[h.hold,h0]at hs';by_cases h2:2<=s
  ·rw[xae h2]at hs';exact hx s (xcG.1 zO)
  rw[xac h2]at hs';exact absurd rfl hs'
 left;exact⟨s,h0,h.fn s h0⟩
theorem bM.le{xs:zL}(h:bM K S K1 S1 xs)(s:Nat):K1.hold s<=K.hold s+xs.length:=by
 rw[h.hold];have:=List.count_le_length (a:=s) (l:=xs);split<;>omega
theorem RH{b3 b1:Nat}{v:zV}{L M:Hp}{xs ys:zL}(hv:aR 82 .u32 v (iw xs) L)(hh:bM K S K1 S1 (xs++ys))(hK:cZ kp K1 S1 ord ah tr C)(hl:∀x∈xs,x<4294967296)(hm:xs.length<=3):
  FcD zQ 124 #[ptr b3,ptr b1] ((b3,.cells #[v] 189 zZ)::(b1,.cells #[ptr kp] 45 zZ)::(L++(M++C))) (λ_ H=>∃K2 C2 kX,H=(b3,.cells #[v] 189 zZ)::(b1,.cells #[ptr kp] 45 zZ)::(L++(M++C2))/\cZ kp K2 S1 ord ah kX C2/\bM K S K2 S1 ys/\(kX=tr\/kX=[])):=by
 refine λg=>Dy (Ld.mk (.head _) rfl (hv.bF ?_));refine⟨λvs H=>∃(i:Nat) (K2:Kd) (C2:Hp) (kX:zL),vs=[nI i]/\i<=xs.length/\H=(b3,.cells #[v] 189 zZ)::(b1,.cells #[ptr kp] 45 zZ)::(L++(M++C2))/\cZ kp K2 S1 ord ah kX C2/\bM K S K2 S1 (xs.drop i++ys)/\(kX=tr\/kX=[]),λvs _=>xs.length-bj vs 0,JE.mk ⟨0,K1,C,tr,rfl,xaA _,rfl,hK,hh,.inl rfl⟩,?_⟩;rintro w7 H ⟨i,K2,C2,kX,⟨⟩,hi,rfl,gH,DL,qq⟩ gs;rw[aq];refine ae.cU (Br.dec (λh=>?_) (λh=>?_))
 ·have hg:xs[i]? =some xs[i]:=xab h;refine hv.ld (cI hg) (λy hy=>.tail _ (.tail _ (xad _ hy))) (Ld.mk (.tail _ (.head _)) rfl ?_);rw[xaV h,xaN]at DL;refine aa.fn (args:=#[ptr kp,u32 xs[i]]) (.cons (.cons (.app (.app .here)))) (Ar gH (hl _ (xaD h)) (λh2=>by rw[DL.hold,xae h2,List.count_cons_self];omega)) ?_;rintro _ C3 ⟨rfl,K3,wO,hf⟩;exact ae.inc (az.of (.refl _) ⟨i+1,K3,C3,[],rfl,h,rfl,wO,DL.Xg hf,.inr rfl⟩ (by simp only[bj];omega))
 have:i=xs.length:=by omega
 subst this;rw[xcj,xbe]at DL;exact aQ.mk (.refl _) ⟨K2,C2,kX,rfl,gH,DL,qq⟩
def SX(kp:Nat)(K:Kd)(S:Nat->aE.Fn)(ord ah:zL)(f:aE.Fn)(P:aE.Fn->Prop)(w:zV)(H:Hp):Prop:=
 (∃x K' S' jx,w=.tuple #[u32 x,nI 0]/\cZ kp K' S' ord ah jx H/\bM K S K' S' [x]/\aE.live K'.N x/\S' x=f/\jx=[])\/
 (w=.tuple #[u32 0,nI 9]/\(∃K' S' jx,cZ kp K' S' ord ah jx H/\bM K S K' S' [])/\¬Fits (bc K.n ord (λg=>K.held S g\/P g)) K.cap)
end
end
end Go.Proofs
