import Derived.Test.YtflhdclplgjbbaaGreatP4
import Derived.Test.YtflhdclplgjbbaaGreatP3
import Derived.Test.YtflhdclplgjbbaaGreatP2
import Derived.Test.YtflhdclplgjbbaaGreatP1
import Derived.Test.YtflhdclplgjbbaaGreatRows
set_option linter.unusedVariables false
set_option linter.unusedSimpArgs false
set_option linter.unusedSectionVars false
namespace ak
open Go.Sx
def EC(c:Nat->Nat->Nat):Nat->zL->Nat
 |_,[]=>0
 |a,v::o=>c a v+EC c (aB a v true) o
def qd(a:Nat)(o:zL):Nat:=o.foldl (λa v=>aB a v true) a
theorem Cd(a:Nat)(o o':zL):qd a (o++o')=qd (qd a o) o':=xdo ..
theorem wB(c:Nat->Nat->Nat):∀(o o':zL) (a:Nat),EC c a (o++o')=EC c a o+EC c (qd a o) o'
 | [],o',a=>by simp[EC,qd]
 |v::o,o',a=>by rw[xaQ,EC,wB c o o',EC,xcN];rfl
theorem qQ:∀(o:zL) (a u:Nat),(qd a o).testBit u=(a.testBit u||decide (u∈o))
 | [],a,u=>by simp[qd]
 |v::o,a,u=>by
  show(qd (aB a v true) o).testBit u=_;rw[qQ o,aj];by_cases e:u=v
  ·simp[e]
  simp[e]
structure nk(n a:Nat)(o:zL):Prop where
 nd:o.Nodup
 mem:∀v,v∈o↔v∈bO n a
variable {n:Nat} {c:Nat->Nat->Nat}
theorem nk.nil{a:Nat}(h:nk n a []):bO n a=[]:=xcE.2 λv hv=>by simpa using(h.mem v).2 hv
theorem nk.tail{a v:Nat}{o:zL}(h:nk n a (v::o)):v∈bO n a/\nk n (aB a v true) o:=by
 have h1:=xaX.1 h.nd;refine⟨(h.mem v).1 zI,h1.2,λu=>?_⟩;rw[cN,aj];have hu:=h.mem u;rw[cN,xaj]at hu;by_cases e:u=v
 ·subst e;simp[h1.1]
 simp only[e,xdJ,xa1]at hu⊢;exact hu
theorem nk.cons{a v:Nat}{o:zL}(hv:v∈bO n a)(h:nk n (aB a v true) o):nk n a (v::o):=by
 have hm:=h.mem;refine⟨xaX.2 ⟨λhx=>?_,h.nd⟩,λu=>?_⟩
 ·have:=(hm v).1 hx;rw[cN,aj,xad rfl]at this;exact absurd this.2 zI
 rw[xaj,hm,cN,cN,aj];rw[cN]at hv;by_cases e:u=v
 ·subst e;simp[hv]
 simp[e]
theorem Em:∀(o:zL) (a:Nat),nk n a o->B n c a<=EC c a o
 | [],a,h=>by rw[Lw h.nil];exact xaO _
 |v::o,a,h=>by
  obtain⟨h1,h2⟩:=h.tail;exact xbN (ad1 h1) (Nat.add_le_add_left (Em o _ h2) _)
theorem Fh:∀(f a:Nat),(bO n a).length<=f->nk n a (ord n c f a)/\EC c a (ord n c f a)=B n c a
 |0,a,h=>by
  have hm:bO n a=[]:=xbS zO;rw[ord,Lw hm];exact⟨⟨by simp,λv=>by rw[hm]⟩,rfl⟩
 |f+1,a,h=>by
  by_cases hm:bO n a=[]
  ·have:ord n c (f+1) a=[]:=by rw[ord,hm];rfl
   rw[this,Lw hm];exact⟨⟨by simp,λv=>by rw[hm]⟩,rfl⟩
  obtain⟨v,hv,he,_,ho⟩:=vz (c:=c) (f:=f) hm;have:=gK hv;obtain⟨h1,h2⟩:=Fh f (aB a v true) zO;rw[ho];exact⟨h1.cons hv,by rw[EC,h2,he]⟩
theorem o5(n:Nat):bO n 0=List.range n:=by
 unfold bO;rw[xct.2];simp
end ak
namespace ak
open Go.Sx
def UE(n:Nat)(l:Fs)(vs:zL):Fs:=vs.foldl (λl v=>given n l v) l
theorem R6(A k:Nat):has (k+1) A=has k A++(if A.testBit k then [k]else []):=by
 unfold has;rw[xce,xb3];congr 1;rw[xbx];simp
theorem uS(n:Nat)(l:Fs)(a b:zL):UE n l (a++b)=UE n (UE n l a) b:=xdo ..
theorem uV(n:Nat)(L:Fs)(A:Nat):∀k,st n L A k=UE n (mD L) (has k A)
 |0=>rfl
 |k+1=>by
  rw[st,R6,uS,<-uV n L A k];split<;>rfl
def Sm(a b:Fs):Prop:=∀x,x∈a↔x∈b
theorem Sm.trans{a b c:Fs}(h:Sm a b)(h':Sm b c):Sm a c:=λx=>(h x).trans (h' x)
theorem Sm.symm{a b:Fs}(h:Sm a b):Sm b a:=λx=>(h x).symm
theorem Sm.refl(a:Fs):Sm a a:=λ_=>xcW
def AF(n:Nat)(l:Fs):Prop:=∀t∈l,eE n t
variable {n:Nat}
theorem tH{a b:Fs}(h:Sm a b)(v:Nat):Sm (given n a v) (given n b v):=λx=>by
 rw[bV,bV];constructor
 ·rintro⟨t,ht,h'⟩;exact⟨t,(h t).1 ht,h'⟩
 rintro⟨t,ht,h'⟩;exact⟨t,(h t).2 ht,h'⟩
theorem Sn(hn:n<=16)(l:Fs)(v:Nat):AF n (given n l v):=λt ht=>by
 obtain⟨u,_,b,rfl⟩:=bV.1 ht;exact ej hn
theorem DV{t:zL}{u v:Nat}{b c:Bool}(hf:eE n t)(hu:u<n)(hv:v<n)(h:u≠v):iF n (iF n t u b) v c=iF n (iF n t v c) u b:=
 (ej hf.xP).ext (ej hf.xP) λx hx=>by
  rw[eR (ej hf.xP) hv hx,eR hf hu (fX hx hv),eR (ej hf.xP) hu hx,eR hf hv (fX hx hu),dg (xa8 h)]
theorem F9{l:Fs}{u v:Nat}(hl:AF n l)(hu:u<n)(hv:v<n)(h:u≠v):Sm (given n (given n l u) v) (given n (given n l v) u):=λx=>by
 rw[bV,bV];constructor
 ·rintro⟨t,ht,c,rfl⟩;obtain⟨s,hs,b,rfl⟩:=bV.1 ht;exact⟨iF n s v c,bV.2 ⟨s,hs,c,rfl⟩,b,DV (hl s hs) hu hv h⟩
 rintro⟨t,ht,c,rfl⟩;obtain⟨s,hs,b,rfl⟩:=bV.1 ht;exact⟨iF n s u c,bV.2 ⟨s,hs,c,rfl⟩,b,DV (hl s hs) hv hu (xa8 h)⟩
theorem yl:∀(vs:zL) {a b:Fs},Sm a b->Sm (UE n a vs) (UE n b vs)
 | [],_,_,h=>h
 |v::vs,_,_,h=>yl vs (tH h v)
theorem PX(hn:n<=16){vs vs':zL}(hp:vs.Perm vs'):(∀v∈vs,v<n)->∀l,AF n l->Sm (UE n l vs) (UE n l vs'):=by
 induction hp with
 |nil=>exact λ_ l _=>Sm.refl _
 |cons v _ ih=>exact λh l hl=>ih (λu hu=>h u (by simp[hu])) _ (Sn hn l v)
 |swap x y r=>
  intro h l hl;by_cases e:x=y
  ·subst e;exact Sm.refl _
  exact yl r (F9 hl (h y zI) (h x zI) (xa8 e))
 |trans uA _ ih1 ih2=>exact λh l hl=>(ih1 h l hl).trans (ih2 (λv hv=>h v (uA.mem_iff.2 hv)) l hl)
theorem yj:∀(vs:zL) {l:Fs},l.Nodup->(UE n l vs).Nodup
 | [],_,h=>h
 |v::vs,_,_=>yj vs (kQ _ _ _)
theorem LR{L:Fs}(h:AF n L):AF n (mD L):=λt ht=>h t (ef.1 ht)
theorem Fl{a b:Fs}(ha:a.Nodup)(hb:b.Nodup)(h:Sm a b)(v:Nat):(nodes n a v).length=(nodes n b v).length:=jX (gI ha hb h)
theorem y9(n a:Nat):(has n a).Nodup:=List.Pairwise.filter _ xbg
theorem ZJ{a v:Nat}(h:v∈has n a):v<n:=(rh.1 h).1
theorem R7{a v:Nat}(hv:v<n)(ha:a.testBit v=false):(has n (aB a v true)).Perm (has n a++[v]):=by
 refine(xcX (y9 _ _) ?_).2 λu=>?_
 ·rw[xa3];refine⟨y9 _ _,by simp,λx hx y hy=>?_⟩;simp at hy;subst hy;rintro rfl;rw[(rh.1 hx).2]at ha;cases ha
 rw[rh,xao,xaE,rh,aj];by_cases e:u=v
 ·subst e;simp[hv]
 simp[e]
theorem UH(hn:n<=16){L:Fs}(hL:AF n L){a v:Nat}(hv:v<n)(ha:a.testBit v=false):Sm (st n L (aB a v true) n) (given n (st n L a n) v):=by
 rw[uV,uV];have h:=PX hn (R7 hv ha) (λu hu=>ZJ hu) _ (LR hL);rw[uS]at h;exact h
variable {φ:zL->zL} {π:Nat->Nat}
def lay(n:Nat)(F:Nat->Nat):zL:=(List.range (wN n)).map λi=>F i&&&dG n
def neg(n:Nat)(ws:zL):zL:=lay n λi=>18446744073709551615-ws.getD i 0
end ak
namespace aq
open ak
section
variable {n:Nat} {ord:zL} {L:ak.Fs}
theorem E4(a:Nat)(o:zL)(v:Nat):qd a (o++[v])=aB (qd a o) v true:=by rw[Cd];rfl
theorem SP(hn:n<=16)(hL:∀t∈L,eE n t)(hp:ord.Perm (List.range n)):∀k,k<=n->Sm (cur n ord L k) (st n L (qd 0 (ord.take k)) n)
 |0,_=>by
  have e:st n L (qd 0 (ord.take 0)) n=mD L:=by
   rw[uV];have:has n (qd 0 (ord.take 0))=[]:=by
    show has n 0=[];rw[xcE];intro v hv;have:=(rh.1 hv).2;rw[xcB]at this;cases this
   rw[this];rfl
  rw[e];exact .refl _
 |k+1,hk=>by
  have Ey:ord.length=n:=by rw[hp.length_eq,xaH]
  have fA:ord.Nodup:=hp.nodup_iff.2 xbg;have hlt:k<ord.length:=by omega
  have hv:ord[k]<n:=xaM.1 (hp.mem_iff.1 (xaJ hlt));have hg:ord.getD k 0=ord[k]:=by rw[xaq,xaa hlt];rfl
  have ht:ord.take (k+1)=ord.take k++[ord[k]]:=xa7 hlt;have hno:ord[k]∉ord.take k:=λhm=>by
   have h2:(ord.take (k+1)).Nodup:=fA.sublist (xdS _ _);rw[ht]at h2;exact(xa3.1 h2).2.2 _ hm _ zI rfl
  have hb:(qd 0 (ord.take k)).testBit ord[k]=false:=by
   rw[qQ,xcB,xal hno];rfl
  rw[ht,E4];refine Sm.trans ?_ (Sm.symm (UH hn hL hv hb));rw[cur,hg];exact tH (SP hn hL hp k zO) _
theorem Vz(hn:n<=16)(hL:∀t∈L,eE n t)(hp:ord.Perm (List.range n)){k:Nat}(hk:k<=n)(v:Nat):(nodes n (cur n ord L k) v).length=lvl n L (qd 0 (ord.take k)) v:=by
 unfold lvl;refine Fl (zm k) ?_ (SP hn hL hp k hk) v;rw[uV];exact yj _ (jo _)
theorem DS(hn:n<=16)(hL:∀t∈L,eE n t)(hp:ord.Perm (List.range n)):∀k,k<=n->EC (lvl n L) 0 (ord.take k)=kG n ord L k
 |0,_=>rfl
 |k+1,hk=>by
  have Ey:ord.length=n:=by rw[hp.length_eq,xaH]
  have hlt:k<ord.length:=by omega
  have hg:ord.getD k 0=ord[k]:=by rw[xaq,xaa hlt];rfl
  rw[xa7 hlt,wB,DS hn hL hp k zO,kG];congr 1;unfold Fw;rw[Vz hn hL hp zO,hg];simp[EC]
theorem zn(hn:n<=16)(hL:∀t∈L,eE n t)(hp:ord.Perm (List.range n)):EC (lvl n L) 0 ord=kG n ord L n:=by
 have Ey:ord.length=n:=by rw[hp.length_eq,xaH]
 rw[<-DS hn hL hp n (xai n),<-Ey,xa9]
theorem FG(hp:ord.Perm (List.range n)):nk n 0 ord:=⟨hp.nodup_iff.2 xbg,λv=>by rw[o5];exact hp.mem_iff⟩
theorem Fe(h:nk n 0 ord):ord.Perm (List.range n):=by
 refine(xcX h.nd xbg).2 λv=>?_;rw[h.mem,o5]
theorem s6(c:Nat->Nat->Nat):(ak.ord n c n 0).Perm (List.range n):=Fe (Fh n 0 (by rw[o5,xaH];exact xai n)).1
theorem sY(hn:n<=16)(hL:∀t∈L,eE n t):kG n (ak.ord n (lvl n L) n 0) L n=B n (lvl n L) 0:=by
 rw[<-zn hn hL (s6 _)];exact(Fh n 0 (by rw[o5,xaH];exact xai n)).2
theorem WR(hn:n<=16)(hL:∀t∈L,eE n t)(hp:ord.Perm (List.range n)):B n (lvl n L) 0<=kG n ord L n:=by
 rw[<-zn hn hL hp];exact Em ord 0 (FG hp)
end
end aq
set_option maxRecDepth 100000
namespace Go.Proofs
open Go Go.Sx
open aq
section
variable {kp:Nat} {K:Kd} {S:Nat->aq.Fn} {ord tr:zL} {C:Hp}
theorem uW{n:Nat}{o:zL}:∀k,kG n o [] k=0:=by
  have hc:∀k,cur n o [] k=[]:=λk=>by
    induction k with
    |zero=>rfl
    |succ k ih=>rw[cur,ih];rfl
  intro k;induction k with
  |zero=>rfl
  |succ k ih=>rw[kG,ih];unfold Fw;rw[hc];rfl
theorem EU{B:Hp}{v:zV}{n:Nat}{f:aq.Fn}(h:kD B v n f):∃s ws,v=.agg #[iv (n:Int),s]/\Words B s ws/\ak.eE n ws/\nD n ws=f:=by
  obtain⟨ws,⟨s,rfl,hw⟩,hf,he⟩:=h;exact⟨s,ws,rfl,hw,hf,he⟩
def ahA(kp:Nat)(K:Kd)(S:Nat->aq.Fn)(ord tr:zL)(v:zV)(H:Hp):Prop:=
  ∃L:ak.Fs,(∀t∈L,ak.eE K.n t)/\K.held S=FT K.n L/\L.length<=1048576/\
   ((cE K S ord=ak.B K.n (ak.lvl K.n L) 0/\v=.tuple #[.agg #[iv ((cE K S ord:Nat):Int),iv ((cE K S ord:Nat):Int),iv 0,.bool true],iv 0]/\At kp K S ord tr H)\/
    (cE K S ord≠ak.B K.n (ak.lvl K.n L) 0/\∃o ls,o=ak.ord K.n (ak.lvl K.n L) K.n 0/\ls=path ord o/\
     (((rm K S).can ord ls=true/\v=.tuple #[.agg #[iv ((cE K S ord:Nat):Int),iv ((cE K S o:Nat):Int),iv ((ls.length:Nat):Int),.bool true],iv 0]/\At kp K S o (tr++ls) H)\/
      ((rm K S).can ord ls=false/\v=.tuple #[.agg #[iv ((cE K S ord:Nat):Int),iv ((cE K S ord:Nat):Int),iv ((2*((rm K S).dx 0 ls ord).length:Nat):Int),.bool false],iv 0]/\At kp K S ord tr H))))
theorem Um(h:At kp K S ord tr C)(hp:ord.Perm (List.range K.n))(hn:K.n<=12)(eU:tr.length<17317308137472):
    Fc zQ 82 #[ptr kp] C (λv H=>ahA kp K S ord tr v H):=by
  have h0:=h;obtain⟨K',S',bR,hK,hk⟩:=h;have hKn:=hk.n;have fJ:∀r,K'.hold r≠0->live K'.N r:=λr hr=>(.inr (hK.ok.mid.held r hr));have hcap:=hK.ok.mid.cap;have hle:=hK.dN;have Dk:(rts K').length<=1048576:=by
    obtain⟨b,_,hO⟩:=hK.rep;have:=hO.ul;have h2:=xbY (λr=>decide (0<K'.hold r)) (List.range K'.ho.length);rw[xaH]at h2;show(List.filter _ _).length<=_;omega
  have vX:∀r,r∈rts K'↔K'.hold r≠0:=λr=>by
    unfold rts;rw[xb1,xaM,decide_eq_true_iff];constructor
    · rintro⟨_,h⟩;omega
    · intro h
      refine⟨xaD λh2=>h ?_,by omega⟩;unfold Kd.hold;rw[xaq,xaB zO];rfl
  refine aF λg=>Oc λb1 _=>?_;refine ae.aI (Br.no (aa.eq (m4 h0) (ae.nB (b:=12) (Br.F (aa.fq (Ml hK) ?_)))));rintro vr H ⟨NR,rfl,hR⟩;have M7:dI .u32 NR vr (iw (rts K')):=hR.ints;refine hR.bX ?_;rw[au];refine⟨λvs H=>∃(i:Nat) (s:zV) (L:ak.Fs) (CS N:Hp),vs=[s,iv (i:Int)]/\i<=(rts K').length/\H=(b1,.cells #[iv 0,iv 0,iv 0,.bool false] 97 zZ)::(CS++(N++C))/\(∀x∈NR,x∈N)/\rW 175 s (LW K'.n L) CS N/\L.length=i/\(∀t∈L,ak.eE K'.n t)/\∀j t,L[j]? =some t->∃r,(rts K')[j]? =some r/\nD K'.n t=S' r,
    λvs _=>(rts K').length-bN vs 1,JE.mk ⟨0,_,[],[],NR,rfl,xaO _,rfl,λ_ h=>h,rW.nil,rfl,λt ht=>absurd ht (xaR),λj t (hj:([]:List (zL))[j]? =some t)=>absurd hj (by rw[List.getElem?_nil];exact nofun)⟩,?_⟩
  rintro w20 w21 H ⟨i,s,L,CS,N,⟨⟩,hi,rfl,hN,hT,hLl,A7,hLr⟩ gs;refine ae.fy (Br.dec (λhlt=>?_) (λhge=>?_))
  · refine M7.ld (n:=(((rts K')[i]:Nat):Int)) (de (xaa hlt)) (λx hx=>.tail _ (xab _ (xae _ (hN x hx)))) ?_
    refine aa.fq (args:=#[ptr kp,u32 (rts K')[i]]) (Nw hK zO (fJ _ ((vX _).1 (xaJ hlt)))) ?_;rintro w H ⟨Nt,t,rfl,rfl,ht⟩;obtain⟨sw,ws,rfl,hw,hf,he⟩:=EU ht;refine Ext.two λb29 _=>(St.p (cV (bQ hw)) ?_);refine az.q ?_;refine wL λX8=>?_;have hT':rW 175 w20 (LW K'.n L) CS (N++Nt):=hT.mono λ_ h=>xae _ h;refine rW.app hT' (A:=[(X8,_),(b29,_),(b1,_)]) (B:=N++(Nt++C)) (t:=⟨(K'.n:Int),ws⟩) (by exact .head _) (hw.mono λ_ h=>xab _ h) (by rw[p5];omega) λv' CS' hT2=>?_;refine ae.inc (aC.of (.skip .tail) ⟨i+1,v',L++[ws],CS',N++Nt,rfl,hlt,by rw[xak];rfl,λx hx=>xae _ (hN x hx),by unfold LW at hT2⊢;rw[xaA];exact hT2,by rw[xaf,hLl];rfl,λt ht=>?_,λj t hj=>?_⟩ (by simp only[bN];omega))
    · rcases xao.1 ht with ht|ht
      · exact A7 t ht
      · rw[xaE.1 ht];exact hf
    · by_cases Zy:j<L.length
      · rw[xaY Zy]at hj
        exact hLr j t hj
      · rw[xbP zO]at hj
        have:j=i:=by
          have:=(xag.1 hj).1;rw[xcg]at this;omega
        subst this;rw[hLl,xc8]at hj;simp at hj;subst hj;exact⟨_,xaa hlt,he⟩
  have hi':i=(rts K').length:=by omega
  subst hi';rw[hKn]at hT A7 hLr;have n9:K.held S=FT K.n L:=by
    refine funext λg=>propext ?_;rw[<-hk.held g];constructor
    · rintro⟨r,hr,rfl⟩
      obtain⟨j,hj,e⟩:=xba.1 ((vX r).2 hr);obtain⟨r2,qv,he⟩:=hLr j L[j] (xaa zO);rw[xaa hj,e]at qv;cases qv;exact⟨L[j],xaJ _,he.symm⟩
    · rintro⟨t,ht,rfl⟩
      obtain⟨j,hj,e⟩:=xba.1 ht;obtain⟨r2,qv,he⟩:=hLr j t (by rw[xaa hj,e]);exact⟨r2,(vX r2).1 (xau qv),he⟩
  have hlt:=Kg hp;have hkz:cE K S ord=kG K.n ord L K.n:=by
    unfold cE;rw[n9];exact Xj A7 zO hlt
  have Sg:L.length<=1048576:=by omega
  refine aa.eq (cD h0) ?_;have hTb:jF (CS++N) w20 (LW K.n L):=hT.ae3 (λ_ h=>xae _ h) (λ_ h=>xab _ h);rw[<-xak];refine aa.pq (WQ hTb (by rw[p5];omega)) ?_;intro w NB hB;obtain⟨so,Y,hY,rfl,hI⟩:∃so Y,NB++(CS++N)=Y/\w=.tuple #[iv ((ak.B K.n (ak.lvl K.n L) 0:Nat):Int),so,iv 0]/\(L≠[]->dI .i64 Y so (iw (ak.ord K.n (ak.lvl K.n L) K.n 0))):=by
    have hO:rX (LW K.n L):=CB A7;rcases hB with⟨hno,_⟩|⟨_,n2,L2,e,hz,_,hf2,hB⟩
    · exact absurd hO hno
    by_cases jM:L=[]
    · subst jM
      have hL2:L2=[]:=by cases L2 with
        |nil=>rfl
        |cons a b=>simp[LW]at e
      subst hL2;obtain rfl:=hz rfl;have hB0:ak.B K.n (ak.lvl K.n []) 0=0:=by rw[<-sY zO zI];exact uW _
      rcases hB with⟨h,_⟩|⟨_,s2,C2,N2,rfl,_,_⟩
      · omega
      exact⟨s2,_,rfl,by rw[hB0];rfl,λh=>absurd rfl h⟩
    · have V0:n2=K.n/\L2=L:=by
        cases L with
        |nil=>exact absurd rfl jM
        |cons a b=>
          cases L2 with
          |nil=>simp[LW]at e
          |cons a2 b2=>
            simp only[LW,xaC,xav,Tb.mk.injEq]at e;obtain⟨⟨e1,e2⟩,e3⟩:=e;have e1:n2=K.n:=by omega
            subst e1;refine⟨rfl,?_⟩;rw[e2];congr 1;refine((List.map_inj_right (f:=λws=>(⟨(K.n:Int),ws⟩:Tb)) ?_).1 e3).symm;intro x y hxy;simpa using hxy
      obtain⟨rfl,rfl⟩:=V0;rcases hB with⟨h,_⟩|⟨_,s2,C2,N2,rfl,hown,hH⟩
      · omega
      exact⟨s2,_,rfl,rfl,λ_=>by rw[hH];exact hown.ints.mono λ_ h=>xae _ h⟩
  rw[hY];clear hB;refine Ext.mk rfl (Ext.mk rfl (Ext.mk rfl (ae.eL (Br.dec (λheq=>?_) (λhne=>?_)))))
  · refine Build.mk (cs:=[iv ((cE K S ord:Nat):Int),iv ((cE K S ord:Nat):Int),iv 0,.bool true]) zK (St.q ?_)
    refine az.q ?_;exact aN.mk (.skip .right) ⟨L,A7,n9,Sg,.inl ⟨heq,rfl,h0⟩⟩
  · have jM:L≠[]:=λe=>by
      subst e;refine hne ?_;rw[hkz,<-sY zO zI,uW,uW]
    obtain⟨o,ho⟩:∃o,o=ak.ord K.n (ak.lvl K.n L) K.n 0:=⟨_,rfl⟩;have hop:o.Perm (List.range K.n):=by rw[ho];exact s6 _
    have hIo:=hI jM;rw[<-ho]at hIo;refine aa.fq (QH h0 hIo hp hop zO) ?_;rintro w H ⟨C2,rfl,hM⟩;have Zl:=(AK (hop.nodup_iff.2 xbg) (hp.trans hop.symm)).1;rcases hM with⟨hc,rfl,hA⟩|⟨hc,rfl,hA⟩
    · rw[Zl]at hA
      refine Ext.two (aa.eq (cD hA) (ae.ia ?_));rw[xam rfl];refine Build.mk (cs:=[iv ((cE K S ord:Nat):Int),iv ((cE K S o:Nat):Int),iv (((path ord o).length:Nat):Int),.bool true]) zK (St.q ?_);refine az.q ?_;exact aN.mk (.skip .right) ⟨L,A7,n9,Sg,.inr ⟨hne,o,_,ho,rfl,.inl ⟨hc,rfl,hA⟩⟩⟩
    · refine Ext.two (aa.eq (cD hA) (ae.ia ?_))
      rw[xal zD];refine Build.mk (cs:=[iv ((cE K S ord:Nat):Int),iv ((cE K S ord:Nat):Int),iv ((2*((rm K S).dx 0 (path ord o) ord).length:Nat):Int),.bool false]) zK (St.q ?_);refine az.q ?_;exact aN.mk (.skip .right) ⟨L,A7,n9,Sg,.inr ⟨hne,o,_,ho,rfl,.inr ⟨hc,rfl,hA⟩⟩⟩
end
section
variable {kp:Nat} {K:Kd} {S:Nat->aq.Fn} {ord tr:zL} {C:Hp} {Q:zV->Hp->Prop}
theorem Qi{w:Nat}(hw:3<=w/\w<=5):Rd zQ 81 #[.int .u8 (w:Int)] C (· =iv ((w-1:Nat):Int)):=by
 refine aF λg=>Od ?_;refine ae.cc (b:=3) (br.q (ae.fE (b:=2) (bg.mk (.refl _) ?_)));rw[show w-3+2=w-1 by omega]
theorem ig(h:At kp K S ord tr C){s gr:Nat}:Rd zQ 77 #[ptr kp,.int .u8 (s:Int),iv (gr:Int)] C (· =iv (if 6<s\/gr<100\/1000<gr then 1 else if s=6/\12<K.n then 6 else 0)):=by
 refine aF λg=>z9 ?_;refine ae.aI (Br.no (ae.nB (b:=6) (c6.or (a:=decide (6<s)) (decide (gr<100)) (λ_=>ae.fy (b:=100) ⟨rfl,rfl⟩) rfl λ_=>?_)));refine c6.or (a:=decide (6<s)||decide (gr<100)) (decide (1000<gr)) (λ_=>ae.nB (b:=1000) ⟨rfl,rfl⟩) rfl λ_=>?_;rw[<-xa6,<-xa6];refine Br.dec (λhb=>?_) (λhb=>?_)
 ·rw[xad zO];exact bg.mk (.refl _) rfl
 rw[xac zO];intro J9 h9;refine ae.eL (b:=6) ?_;by_cases hs:s=6
 ·rw[xam hs];refine Split.go rfl (aa.eq (m4 h) (ae.nB (b:=12) (aL.mk (JE.mk (h9 _ _ λ_=>?_)))));show Br (.bool (decide (12<K.n))) _ _;refine Br.dec (λNc=>?_) (λNc=>?_)
  ·rw[xad ⟨hs,Nc⟩];exact bg.mk (.refl _) rfl
  rw[xac zO];exact bg.mk (.refl _) rfl
 rw[xal hs];refine Split.Mv rfl (aL.mk (JE.mk (h9 _ _ λ_=>Br.no ?_)));rw[xac zO];exact bg.mk (.refl _) rfl
theorem oV(a b c:Int)(d:Bool):∀u∈[Value.int .i64 a,iv b,iv c,.bool d],u.oneCell'=true:=λu hu=>by
 simp only[xaj,xaR,xbl]at hu;rcases hu with rfl|rfl|rfl|rfl<;>rfl
abbrev ud(a b c:Int)(d:Bool):zV:=.agg #[iv a,iv b,iv c,.bool d]
theorem Qk(h:At kp K S ord tr C){gr:Nat}(mB:100<=gr/\gr<=1000)(hn:12<K.n):Rd zQ 45 #[ptr kp,.int .u8 6,iv (gr:Int)] C (· =.tuple #[ud 0 0 0 false,iv 6]):=by
 refine aF λg=>iD ?_;intro b1 _;refine aa.eq (ig h (s:=6)) ?_;rw[xac zO,xad ⟨rfl,hn⟩];refine ae.cK (Br.T (Build.mk (cs:=[iv 0,iv 0,iv 0,.bool false]) zK ?_));refine St.q ?_;refine az.q ?_;exact bg.mk .tail rfl
theorem Ql(h:At kp K S ord tr C){gr:Nat}(mB:100<=gr/\gr<=1000)(hin:Fc zQ 78 #[ptr kp,iv (gr:Int)] C Q)(hQ:∀v H,Q v H->∃(a b c:Int) (d:Bool) (e:zV),v=.tuple #[ud a b c d,e]):
  Fc zQ 45 #[ptr kp,.int .u8 1,iv (gr:Int)] C Q:=by
 refine aF λg=>iD ?_;intro b1 _;refine aa.eq (ig h (s:=1)) ?_;rw[xac zO,xac zO];refine ae.cK (Br.F (ae.eL (a:=1) (b:=1) (Br.yes (aa.fq hin ?_))));intro v H hv;obtain⟨a,b,c,d,e,rfl⟩:=hQ v H hv;refine Ext.two (St.p (oV a b c d) ?_);refine az.q ?_;exact aN.mk .tail hv
theorem E7(h:At kp K S ord tr C){gr:Nat}(mB:100<=gr/\gr<=1000)(hin:Fc zQ 79 #[ptr kp,iv (gr:Int)] C (λv H=>∃(a b c:Int) (d:Bool) (r:zV),v=.tuple #[ud a b c d,r,iv 0]/\Q (.tuple #[ud a b c d,iv 0]) H)):
  Fc zQ 45 #[ptr kp,.int .u8 2,iv (gr:Int)] C Q:=by
 refine aF λg=>iD ?_;intro b1 _;refine aa.eq (ig h (s:=2)) ?_;rw[xac zO,xac zO];refine ae.cK (Br.F (ae.eL (a:=2) (b:=1) (Br.no (ae.eL (a:=2) (b:=2) (Br.yes (aa.fq hin ?_))))));rintro v H ⟨a,b,c,d,r,rfl,hv⟩;refine Ext.mk rfl (Ext.mk rfl (Ext.mk rfl ?_));intro EE _;refine St.p (oV a b c d) ?_;refine az.q ?_;refine St.p (oV a b c d) ?_;refine az.q ?_;exact aN.mk (.skip .tail) hv
theorem E6(h:At kp K S ord tr C){w gr:Nat}(hw:3<=w/\w<=5)(mB:100<=gr/\gr<=1000)(hin:Fc zQ 80 #[ptr kp,iv ((w-1:Nat):Int)] C Q)(hQ:∀v H,Q v H->∃(a b c:Int) (d:Bool) (e:zV),v=.tuple #[ud a b c d,e]):
  Fc zQ 45 #[ptr kp,.int .u8 (w:Int),iv (gr:Int)] C Q:=by
 refine aF λg=>iD ?_;intro b1 _;refine aa.eq (ig h (s:=w)) ?_;rw[xac zO,xac zO];refine ae.cK (Br.F (ae.eL (b:=1) (Br.F (ae.eL (b:=2) (Br.F ?_)))));intro J28 h28;have good:J28 [.bool true] ((b1,.cells #[iv 0,iv 0,iv 0,.bool false] 97 zZ)::C):=by
  refine h28 _ _ λ_=>Br.yes ?_;refine aa.eq (Qi hw) (aa.fq hin ?_);intro v H hv;obtain⟨a,b,c,d,e,rfl⟩:=hQ v H hv;refine Ext.two (St.p (oV a b c d) ?_);refine az.q ?_;exact aN.mk .tail hv
 refine ae.eL (b:=3) (Br.dec (λe=>?_) (λe=>?_))
 ·rw[xam e];exact JE.mk good
 refine ae.eL (b:=4) (Br.dec (λe=>?_) (λe=>?_))
 ·rw[xam e];exact JE.mk good
 refine ae.eL (b:=5) ?_;rw[xam zO];exact JE.mk good
theorem Mg(h:At kp K S ord tr C){gr:Nat}(hn:K.n<=12)(mB:100<=gr/\gr<=1000)(hin:Fc zQ 82 #[ptr kp] C Q)(hQ:∀v H,Q v H->∃(a b c:Int) (d:Bool) (e:zV),v=.tuple #[ud a b c d,e]):
  Fc zQ 45 #[ptr kp,.int .u8 6,iv (gr:Int)] C Q:=by
 refine aF λg=>iD ?_;intro b1 _;refine aa.eq (ig h (s:=6)) ?_;rw[xac zO,xac zO];refine ae.cK (Br.F (ae.eL (a:=6) (b:=1) (Br.no (ae.eL (a:=6) (b:=2) (Br.no ?_)))));intro J28 h28;refine ae.eL (a:=6) (b:=3) (Br.no (ae.eL (a:=6) (b:=4) (Br.no (ae.eL (a:=6) (b:=5) (JE.mk (h28 _ _ λ_=>Br.no ?_))))));refine ae.eL (a:=6) (b:=6) (Br.yes (aa.fq hin ?_));intro v H hv;obtain⟨a,b,c,d,e,rfl⟩:=hQ v H hv;refine Ext.two (St.p (oV a b c d) ?_);refine az.q ?_;exact aN.mk .tail hv
theorem Qn(h:At kp K S ord tr C){gr:Nat}(mB:100<=gr/\gr<=1000):Rd zQ 45 #[ptr kp,.int .u8 0,iv (gr:Int)] C (· =.tuple #[ud (cE K S ord:Nat) (cE K S ord:Nat) 0 false,iv 0]):=by
 refine aF λg=>iD ?_;intro b1 _;refine aa.eq (ig h (s:=0)) ?_;rw[xac zO,xac zO];refine ae.cK (Br.F (ae.eL (a:=0) (b:=1) (Br.no (ae.eL (a:=0) (b:=2) (Br.no ?_)))));intro J28 h28;refine ae.eL (a:=0) (b:=3) (Br.no (ae.eL (a:=0) (b:=4) (Br.no (ae.eL (a:=0) (b:=5) (JE.mk (h28 _ _ λ_=>Br.no ?_))))));refine ae.eL (a:=0) (b:=6) (Br.no (aa.eq (cD h) (aa.eq (cD h) (Build.mk (cs:=[iv ((cE K S ord:Nat):Int),iv ((cE K S ord:Nat):Int),iv 0,.bool false]) zK ?_))));refine St.q ?_;refine az.q ?_;exact bg.mk .tail rfl
end
section
variable {C:Hp}
def swB(n s:Nat):Nat->Nat
 |1=>3*n*(n-1)
 |2=>3*n*(n-1)*(s+1)
 |3=>(n-1)*2
 |4=>(n-2)*10
 |5=>(n-3)*46
 |6=>n*(n-1)
 |_=>0
end
end Go.Proofs
namespace aq
section
variable {m:Rm} {g:Nat}
theorem Rm.yW(m:Rm)(ord path:zL):∀i,m.size (ay ord (path.take (m.keep ord path i)))=m.size ord->m.keep ord path i=0
 |0,_=>rfl
 |i+1,h=>by
  rw[keep]at h⊢;have h0:=m.vR ord path i 0 (xaO _);have h0:m.size (ay ord (path.take (m.keep ord path i)))<=m.size ord:=h0;split at h
  ·omega
  rename_i hn;rw[xac hn];exact m.yW ord path i h
theorem Rm.EK(m:Rm)(w p:Nat)(ord:zL)(h:m.size (ay ord (m.visit w p ord).1)=m.size ord):(m.visit w p ord).1=[]:=by
 have:=m.yW ord (m.dx p (mj w) ord) (m.dx p (mj w) ord).length h;show List.take _ _=[];rw[this];rfl
theorem Rm.BS(m:Rm)(w p:Nat)(ord:zL):(m.visit w p ord).2<=2*(mj w).length:=by
 have h1:=m.mg p (mj w) ord;show _+(_-_)<=_;omega
theorem Rm.zz(m:Rm)(w:Nat)(ord:zL):∀i,(m.all w ord i).2<=i*(2*(mj w).length)
 |0=>xaO _
 |i+1=>by
  have h1:=m.zz w ord i;have h2:=m.BS w i (ay ord (m.all w ord i).1);show(m.all w ord i).2+(m.visit w i (ay ord (m.all w ord i).1)).2<=_;rw[xbu];omega
theorem vp{p q:zL}(hq:q.Nodup)(hp:p.Perm q):∀i,i<=q.length->2*(dY p q i).length+i*i<=i*(2*p.length-1)
 |0,_=>by simp[dY]
 |i+1,hi=>by
  have:=vp hq hp i zO;obtain⟨_,_,h3⟩:=jV hq hp i zO;have hl:=hp.length_eq;rw[dY,xaf,Bj];have h4:=(h3 zO).2;have e1:(i+1)*(i+1)=i*i+i+i+1:=by rw[xbu,Nat.mul_succ];omega
  have e2:(i+1)*(2*p.length-1)=i*(2*p.length-1)+(2*p.length-1):=xbu _ _;rw[e1,e2];omega
theorem Ff{p q:zL}{n:Nat}(hq:q.Nodup)(hp:p.Perm q)(hn:q.length=n):2*(path p q).length<=n*(n-1):=by
 have:=vp hq hp q.length (xai _);have hl:=hp.length_eq;rw[hl,hn]at this;unfold path;rw[hn];cases n with
 |zero=>simpa using this
 |succ k=>
  rw[show 2*(k+1) -1=(k+1)+k by omega,xdC (k+1) (k+1) k]at this;show 2*(dY p q (k+1)).length<=(k+1)*k;omega
structure tU(m:Rm)(ord:zL)(ls:zL):Prop where
 mem:∀x∈ls,x+1<m.n
 le:m.size (ay ord ls)<=m.size ord
 len:ls.length+66*m.size (ay ord ls)<=66*m.size ord
theorem tU.nil{ord:zL}:tU m ord []:=⟨by simp,xai _,by simp[ay]⟩
theorem tU.of{ord ls:zL}(h1:∀x∈ls,x+1<m.n)(h2:m.size (ay ord ls)<=m.size ord)(h3:m.size (ay ord ls)=m.size ord->ls=[])(h4:ls.length<=66):tU m ord ls:=by
 refine⟨h1,h2,?_⟩;by_cases e:m.size (ay ord ls)=m.size ord
 ·rw[h3 e];simp[ay]
 omega
theorem Ca(hn:m.n<=64):∀{l ord:zL},ord.Perm (List.range m.n)->(∀v∈l,v<m.n)->(m.cj g ord l).1.length+66*m.size (ay ord (m.cj g ord l).1)<=66*m.size ord
 | [],ord,hp,hl=>by simp[Rm.cj,ay]
 |v::l,ord,hp,hl=>by
  have hv:=FI hp (hl v zI);obtain⟨a1,a2,a3,a4⟩:=m.AA g (ord:=ord) hv;have hin:=J0 hv a1;have ih:=Ca hn (l:=l) (ord:=ay ord (road (ord.idxOf v) (m.sj g ord (ord.idxOf v)).1)) (mF hp hin) (λx hx=>hl x (by simp[hx]));have Dk:=u5 (ord.idxOf v) (m.sj g ord (ord.idxOf v)).1;rw[Rm.cj];simp only;rw[cg,xaf];by_cases e:m.size (ay ord (road (ord.idxOf v) (m.sj g ord (ord.idxOf v)).1))=m.size ord
  ·have e2:=a3 e;rw[e2,gy]at ih Dk⊢;simpa[ay]using ih
  omega
theorem p8{ord l:zL}(hp:ord.Perm (List.range m.n))(hl:l.Perm (List.range m.n))(hn:m.n<=64):tU m ord (m.cj g ord l).1/\(m.cj g ord l).2<=3*m.n*(m.n-1):=by
 have hlt:∀v∈l,v<m.n:=λv hv=>xaM.1 (hl.mem_iff.1 hv);have h:=mH (m:=m) (g:=g) (l:=l) hp hlt;have ni:l.length=m.n:=by rw[hl.length_eq,xaH]
 obtain⟨h1,h2,h3,h4,h5⟩:=h;rw[ni]at h4;exact⟨⟨h1,h2,Ca hn hp hlt⟩,by rw[xcO,xci m.n,<-xcO];exact h4⟩
theorem uT(hn:m.n<=64):∀{ls:List (zL)} {ord:zL},ord.Perm (List.range m.n)->(∀l∈ls,l.Perm (List.range m.n))->m.oe g ord ls->tU m ord (m.cL g ord ls).1
 | [],ord,hp,hl,hg=>hg.elim
 | [l],ord,hp,hl,hg=>by
  have e:(m.cL g ord [l]).1=(m.cj g ord l).1++[]:=rfl;rw[e,xaL];exact(p8 hp (hl l zI) hn).1
 |l::l2::r,ord,hp,hl,hg=>by
  obtain⟨g1,g2⟩:=(qw zI).1 hg;have a:=(p8 (g:=g) hp (hl l zI) hn).1;have ih:=uT hn (ls:=l2::r) (mF hp a.mem) (λx hx=>hl x (by simp[xaj.1 hx])) g2;have e:(m.cL g ord (l::l2::r)).1=(m.cj g ord l).1++(m.cL g (ay ord (m.cj g ord l).1) (l2::r)).1:=rfl;rw[e];have a1:=a.le;have a2:=a.len;have b1:=ih.le;have b2:=ih.len;refine⟨λx hx=>(xao.1 hx).elim (a.mem x) (ih.mem x),by rw[cg];omega,by rw[cg,xaf];omega⟩
theorem EV{ls:List (zL)}{ord:zL}(hp:ord.Perm (List.range m.n))(hl:∀l∈ls,l.Perm (List.range m.n))(hg:m.oe g ord ls):(m.cL g ord ls).2<=3*m.n*(m.n-1)*(m.size ord+1):=by
 have h:=JU hp hl hg;have h1:=h.YF.2;have h2:=h.uQ;have e:3*(m.n-1)*m.n=3*m.n*(m.n-1):=by rw[xcO,xci (m.n-1),<-xcO]
 rw[e]at h2;exact xbN h2 (xdb _ zO)
theorem Rm.Ea(m:Rm)(w:Nat)(ord:zL):∀i,(m.all w ord i).1.length+66*m.size (ay ord (m.all w ord i).1)<=66*m.size ord
 |0=>by simp[Rm.all,ay]
 |i+1=>by
  have e:(m.all w ord (i+1)).1=(m.all w ord i).1++(m.visit w i (ay ord (m.all w ord i).1)).1:=rfl;have ih:=m.Ea w ord i;have h1:=m.BT w i (ay ord (m.all w ord i).1);have h2:=m.EK w i (ay ord (m.all w ord i).1);have h3:=(m.r7 w i (ay ord (m.all w ord i).1)).1;rw[e,cg,xaf];by_cases e2:m.size (ay (ay ord (m.all w ord i).1) (m.visit w i (ay ord (m.all w ord i).1)).1)=m.size (ay ord (m.all w ord i).1)
  ·rw[h2 e2];simpa[ay]using ih
  omega
theorem EX{w:Nat}{ord:zL}(hw:2<=w/\w<=4)(hn:m.n<=64):tU m ord (m.pass w ord).1/\(m.pass w ord).2<=(m.n+1-w)*(2*(mj w).length):=by
 refine⟨⟨λx hx=>?_,m.Tr w ord _,m.Ea w ord _⟩,m.zz w ord _⟩;by_cases e:m.n+1-w=0
 ·have hx:x∈(m.all w ord (m.n+1-w)).1:=hx;rw[e]at hx;exact absurd hx xaR
 have:=m.Lf hx;omega
end
end aq
namespace aq
open ak
variable {n:Nat}
def sat(n:Nat)(f:Fn):Nat:=(List.range (2^n)).countP f
def flip(v x:Nat):Nat:=aB x v (!x.testBit v)
theorem flip_flip(v x:Nat):flip v (flip v x)=x:=by
 unfold flip;rw[aj,xad rfl,oS];simpa using ie x v
theorem KN{v x:Nat}(hv:v<n)(hx:x<2^n):flip v x<2^n:=fX hx hv
theorem Nh{v:Nat}(hv:v<n):((List.range (2^n)).map (flip v)).Perm (List.range (2^n)):=by
 refine(xcX ?_ xbg).2 λx=>?_
 ·refine xbI.2 (xbg.imp λ{a b} h e=>h ?_);rw[<-flip_flip v a,e,flip_flip]
 rw[xan];constructor
 ·rintro⟨y,hy,rfl⟩;exact xaM.2 (KN hv (xaM.1 hy))
 intro hx;exact⟨flip v x,xaM.2 (KN hv (xaM.1 hx)),flip_flip v x⟩
theorem wD{f g p q:Nat->Bool}(h:∀x,(p x).toNat+(q x).toNat=(f x).toNat+(g x).toNat):∀l:zL,l.countP p+l.countP q=l.countP f+l.countP g
 | []=>rfl
 |x::l=>by
  have:=h x;have:=wD h l;simp only[List.countP_cons];cases hp:p x<;>cases hq:q x<;>cases hf:f x<;>cases hg:g x<;>simp_all<;>omega
theorem Qh{v:Nat}(hv:v<n)(f:Fn):sat n (λx=>f (aB x v false))+sat n (λx=>f (aB x v true))=2*sat n f:=by
 unfold sat;rw[wD (f:=f) (g:=λx=>f (flip v x)) (λx=>?_)]
 ·have:List.countP (λx=>f (flip v x)) (List.range (2^n))=List.countP f (List.range (2^n)):=by
   have h:=(Nh hv).countP_eq f;rw[xeI]at h;exact h
  omega
 unfold flip;have:=ie x v;cases hb:x.testBit v<;>rw[hb]at this<;>simp only[xcz,xcp]<;>rw[this]<;>omega
theorem sk:sat n (λ_=>false)=0:=by simp[sat]
theorem sat_true:sat n (λ_=>true)=2^n:=by simp[sat]
variable {N:er} {S:Nat->Fn} {ah:Nat->Nat}
theorem Qg(h:WF n ah N)(hl:jH n ah)(hi:Interp N S){r a b:Nat}{d:Nd}(hd:N r=some d)(hv:d.v<n)(ha:a*2^dep n ah N d.lo=sat n (S d.lo))(hb:b*2^dep n ah N d.hi=sat n (S d.hi)):
  (a*2^(dep n ah N d.lo-ah d.v-1)+b*2^(dep n ah N d.hi-ah d.v-1))*2^dep n ah N r=sat n (S r):=by
 have h1:=(h.lo hd).2;have h2:=(h.hi hd).2;rw[an hd];have e1:(λx=>S r (aB x d.v false))=S d.lo:=by
  have:=(gg h hl hi (r:=r) (.inr ⟨d,hd⟩) hv (by rw[an hd];exact xai _) false);rw[(kR hd).1]at this;exact(funext this.1).symm
 have e2:(λx=>S r (aB x d.v true))=S d.hi:=by
  have:=(gg h hl hi (r:=r) (.inr ⟨d,hd⟩) hv (by rw[an hd];exact xai _) true);rw[(kR hd).2]at this;exact(funext this.1).symm
 have hh:=Qh hv (S r);rw[e1,e2,<-ha,<-hb]at hh;have p1:2^dep n ah N d.lo=2^(dep n ah N d.lo-ah d.v-1)*(2*2^ah d.v):=by
  rw[<-Nat.pow_succ',<-xdB];congr 1;omega
 have p2:2^dep n ah N d.hi=2^(dep n ah N d.hi-ah d.v-1)*(2*2^ah d.v):=by
  rw[<-Nat.pow_succ',<-xdB];congr 1;omega
 rw[p1,p2]at hh;rw[<-xcO a,<-xcO b,<-xeJ,Nat.mul_left_comm]at hh;omega
end aq
set_option maxRecDepth 100000
namespace Go.Proofs
open Go Go.Sx
section
open aq
theorem U5{P:Program}{f:FuncId}{args:Array zV}{B:Hp}{Q:zV->Prop}(h:Px P f args B (λv _=>Q v)):Rd P f args B Q:=λg=>(h g).mono λe H h=>by
 obtain⟨v,H2,rfl,he,hg,hq⟩:=h;exact⟨v,B,rfl,he.trans hg.dJ,rfl,hq⟩
theorem ae.adL{a b:Nat}{k:zV->Prop}(h:k (.int .u64 (((a+b)%18446744073709551616:Nat):Int))):ae .num .add (.int .u64 (a:Int)) (.int .u64 (b:Int)) k:=by
 refine ae.add ?_;rw[wrap_u64];have:(((a:Int)+(b:Int))%18446744073709551616)=((((a+b)%18446744073709551616:Nat)):Int):=by omega
 rw[this];exact h
section
variable {kp:Nat} {K:Kd} {S:Nat->aq.Fn} {ord ah tr:zL} {C:Hp}
theorem pz(r:Nat)(B:Hp):Rd zQ 124 #[u32 r] B (· =.bool (decide (r<2))):=by
 refine aF λg=>Jb (ae.eL (b:=0) (c6.or (a:=decide (r=0)) (decide (r=1)) (λ_=>ae.eL (b:=1) ⟨rfl,rfl⟩) rfl λ_=>?_));refine bg.mk (.refl _) ?_;rw[<-xa6];congr 1;exact xcm.2 zO
theorem S6(h:bP kp K S ord ah tr C){r v:Nat}(hr:live K.N r)(hv:v<18446744073709551616):
  Rd zQ 87 #[ptr kp,u32 r,.int .u64 (v:Int)] C (· =.tuple #[.bool (S r v),iv 0]):=by
 have sL:K.n<=64:=h.bc.lT;refine aF λg=>N9 (ax.int (e:=78) zK zK zK λbx=>?_);refine aa.eh .here (U5 (wJ (X:=[(bx,_)]) (rs:=[r]) h (dI.block (by exact .head _) zI) (λx hx=>by rw[xaE.1 hx];exact hr) zI)) (ae.cK (Br.F (⟨λvs H=>∃q:Nat,vs=[u32 q]/\H=C/\live K.N q/\S q v=S r v,λvs _=>K.n-dep K.n (lv ah) K.N (bN vs 0),JE.of .tail ⟨r,rfl,rfl,hr,rfl⟩,?_⟩)));rintro w H ⟨q,⟨⟩,rfl,hq,he⟩ gs;refine aa.eq (pz q _) (Un.not (Br.mk (λhb=>?_) (λhb=>?_)))
 ·have h2:2<=q:=by simpa using hb
  obtain⟨d,hN⟩:∃d,K.N q=some d:=by
   rcases hq with hq|hq
   ·omega
   exact hq
  have kB:=h.ok.mid.var hN;have hlo:=h.ok.wf.lo hN;have hhi:=h.ok.wf.hi hN;have hvl:=h.ok.lv.lt _ kB;refine aa.eh .here (U5 (wG (X:=[]) h hN)) λr5 _=>?_;refine St.p (fp d) ?_;refine Ld.f ?_;refine Ld.f ?_;refine ae.iI (by simpa[bF]using hv) (ae.jD (by simp[bF];exact xaz (xbm _ _) hv) zD (ae.eL (b:=1) ?_));rw[xbR];rw[Be];have Kz:=h.ok.mid.int.node hN v;refine Br.mk (λhb=>?_) (λhb=>?_)
  ·rw[hb,xad rfl]at Kz;refine Ld.f ?_;refine aC.of .tail ⟨d.hi,rfl,rfl,hhi.1,Kz.symm.trans he⟩ ?_;show K.n-dep K.n (lv ah) K.N d.hi<K.n-dep K.n (lv ah) K.N q;rw[an hN];omega
  rw[hb,xac zD]at Kz;refine aC.of .tail ⟨d.lo,rfl,rfl,hlo.1,Kz.symm.trans he⟩ ?_;show K.n-dep K.n (lv ah) K.N d.lo<K.n-dep K.n (lv ah) K.N q;rw[an hN];omega
 have h2:q<2:=by simpa using hb
 refine ae.eL (b:=1) (bg.mk (.refl _) ?_);rw[<-he];have hint:=h.ok.mid.int;have:q=0\/q=1:=by omega
 rcases this with rfl|rfl
 ·rw[hint.zero];rfl
 rw[hint.one];rfl
end
end
section
open aq
section
variable {kp mb b1 b9 c9 c1 c3 NC:Nat} {K:Kd} {S:Nat->aq.Fn} {ord ah tr:zL} {C Z:Hp}
abbrev Bs:Nat:=18446744073709551616
abbrev u64(x:Nat):zV:=.int .u64 (x:Int)
theorem wF(h:bP kp K S ord ah tr C){r:Nat}{d:Nd}(hd:K.N r=some d):Rd zQ 125 #[ptr kp,u32 r] C (· =.agg (bu d).toArray):=U5 (wG (X:=[]) h hd)
theorem wI(h:bP kp K S ord ah tr C){X:Hp}{r b:Nat}(hm:(b,Obj.cells (aA .u32 [(r:Int)]) 78 zZ)∈X)(hr:live K.N r):Rd zQ 123 #[ptr kp,.slice (some ⟨b,0,none⟩) 1 1] (X++C) (· =iv 0):=
 U5 (wJ (X:=X) (rs:=[r]) h (dI.block (xae _ hm) zI) (λx hx=>by rw[xaE.1 hx];exact hr) zI)
def cw(K:Kd)(ah:zL)(S:Nat->aq.Fn)(r:Nat):Nat:=sat K.n (S r) /2^dep K.n (lv ah) K.N r
theorem rP(h:bP kp K S ord ah tr C){r:Nat}(hr:r<2):cw K ah S r=r:=by
 have hi:=h.ok.mid.int;have h0:K.N r=none:=by
  cases hN:K.N r with
  |none=>rfl
  |some d=>have:=h.ok.mid.two hN;omega
 unfold cw;rw[aS h0];have:r=0\/r=1:=by omega
 rcases this with rfl|rfl
 ·rw[show S 0=λ_=>false from funext hi.zero,sk,Nat.zero_div]
 rw[show S 1=λ_=>true from funext hi.one,sat_true,Nat.div_self (xbv _)]
theorem SO(h:bP kp K S ord ah tr C):∀(k r:Nat),K.n-dep K.n (lv ah) K.N r<=k->live K.N r->cw K ah S r*2^dep K.n (lv ah) K.N r=sat K.n (S r)/\
  (∀d,K.N r=some d->cw K ah S r=cw K ah S d.lo*2^(dep K.n (lv ah) K.N d.lo-lv ah d.v-1)+cw K ah S d.hi*2^(dep K.n (lv ah) K.N d.hi-lv ah d.v-1)):=by
 have hi:=h.ok.mid.int;intro k;induction k with
 |zero=>
  intro r hk hr;cases hN:K.N r with
  |some d=>
   rw[an hN]at hk;have:=h.ok.lv.lt _ (h.ok.mid.var hN);omega
  |none=>
   have h2:r<2:=by
    rcases hr with hr|⟨d,e⟩
    ·exact hr
    rw[hN]at e;cases e
   refine⟨?_,λd hd=>by cases hd⟩;rw[rP h h2,aS hN];have:r=0\/r=1:=by omega
   rcases this with rfl|rfl
   ·rw[show S 0=λ_=>false from funext hi.zero,sk,xd4]
   rw[show S 1=λ_=>true from funext hi.one,sat_true,xdl]
 |succ k ih=>
  intro r hk hr;cases hN:K.N r with
  |none=>
   rw[aS hN]at*;have h2:r<2:=by
    rcases hr with hr|⟨d,e⟩
    ·exact hr
    rw[hN]at e;cases e
   refine⟨?_,λd hd=>by cases hd⟩;rw[rP h h2];have:r=0\/r=1:=by omega
   rcases this with rfl|rfl
   ·rw[show S 0=λ_=>false from funext hi.zero,sk,xd4]
   rw[show S 1=λ_=>true from funext hi.one,sat_true,xdl]
  |some d=>
   have hlo:=h.ok.wf.lo hN;have hhi:=h.ok.wf.hi hN;have hvl:=h.ok.lv.lt _ (h.ok.mid.var hN);have e1:=an (n:=K.n) (ah:=lv ah) hN;have q:=Qg h.ok.wf h.ok.lv hi hN (h.ok.mid.var hN) (ih d.lo zO hlo.1).1 (ih d.hi zO hhi.1).1;have e2:cw K ah S r=cw K ah S d.lo*2^(dep K.n (lv ah) K.N d.lo-lv ah d.v-1)+cw K ah S d.hi*2^(dep K.n (lv ah) K.N d.hi-lv ah d.v-1):=by
    show sat K.n (S r) /_=_;rw[<-q,Nat.mul_div_cancel _ (xbv _)]
   exact⟨by rw[e2];exact q,λd' hd=>by cases hd;exact e2⟩
theorem si(h:bP kp K S ord ah tr C){r:Nat}(hr:live K.N r)(h1:(b1,Obj.cells #[ptr kp] 53 zZ)∈Z):
  Rd zQ 126 #[u32 r,ptr b1] (Z++C) (· =iv ((dep K.n (lv ah) K.N r:Nat):Int)):=by
 have sP:=xae C h1;refine aF λg=>I9 (aa.eq (pz r _) (Br.mk (λhb=>?_) (λhb=>?_)))
 ·have h2:r<2:=xb8 hb;refine Ld.mk sP rfl ?_;refine aa.eq (gM h.rep) (bg.mk (.refl _) ?_);have h0:K.N r=none:=by
   cases hN:K.N r with
   |none=>rfl
   |some d=>have:=h.ok.mid.two hN;omega
  rw[aS h0]
 have h2:¬r<2:=xdh hb;obtain⟨d,hN⟩:∃d,K.N r=some d:=by
  rcases hr with hr|hr
  ·omega
  exact hr
 have kB:=h.ok.mid.var hN;refine DR.of (.refl _) (Ld.mk sP rfl ?_);refine Ld.mk sP rfl ?_;intro F;refine aa.eq (args:=#[ptr kp,u32 r]) (wF h hN) (⟨.refl _,?_⟩);refine BP.mk (off:=0) (cs:=(bu d).toArray) (v:=iv (d.v:Int)) rfl ?_;intro F;refine aa.eq (args:=#[ptr kp,iv (d.v:Int)]) (l9 h.rep _) (⟨.refl _,?_⟩);rw[xad ⟨by omega,by omega⟩];refine Ext.two (bg.mk (.refl _) ?_);rw[an hN];rfl
theorem Az(a k:Nat):((a%Bs)<<<k)%Bs=(a*2^k)%Bs:=by
 rw[xck,Nat.mod_mul_mod]
theorem UW(h:bP kp K S ord ah tr C){r:Nat}{d:Nd}(hN:K.N r=some d)(h1:(b1,Obj.cells #[ptr kp] 53 zZ)∈Z)(h9:(b9,Obj.cells #[.func (.func 126) #[] #[ptr b1]] 182 zZ)∈Z):
  Rd zQ 128 #[.agg (bu d).toArray,u64 (cw K ah S d.lo%Bs),u64 (cw K ah S d.hi%Bs),ptr b1,ptr b9] (Z++C) (· =u64 (cw K ah S r%Bs)):=by
 have sP:=xae C h1;have XZ:=xae C h9;have kB:=h.ok.mid.var hN;have hlo:=h.ok.wf.lo hN;have hhi:=h.ok.wf.hi hN;have hn:=h.bc.lT;have hdl:=h.ok.wf.iA h.ok.lv d.lo;have hdh:=h.ok.wf.iA h.ok.lv d.hi;refine aF λg=>I7 λc1 _=>?_;refine Ld.mk (.tail _ sP) rfl ?_;refine Ld.f (v:=iv (d.v:Int)) (aa.eq (l9 h.rep _) ?_);rw[xad ⟨by omega,by omega⟩];refine Ext.two (DR.of (.refl _) (Ld.mk (.tail _ XZ) rfl ?_));refine Ld.f (v:=u32 d.lo) (Ld.mk (.tail _ XZ) rfl ?_);refine Ld.f (v:=u32 d.hi) λF=>?_;refine aJ.of rfl zK (aa.eq (args:=#[u32 d.lo,ptr b1]) (si (Z:=Z) h hlo.1 h1) (⟨.refl _,?_⟩));rw[xbd];show ae _ _ (iv ((dep K.n (lv ah) K.N d.lo:Nat):Int)) (iv ((lv ah d.v:Nat):Int)) _;refine ae.cc (ae.cc (b:=1) (ae.nP λF=>(aJ.of rfl zK (aa.eq (args:=#[u32 d.hi,ptr b1]) (si (Z:=Z) h hhi.1 h1) ?_))));show ae _ _ (iv ((dep K.n (lv ah) K.N d.hi:Nat):Int)) (iv ((lv ah d.v:Nat):Int)) _;refine ae.cc (ae.cc (b:=1) (ae.nP (ae.adL (bg.mk .tail ?_))));rw[Az,Az,<-Nat.add_mod,(SO h K.n r (xdw _ _) (.inr ⟨d,hN⟩)).2 d hN]
structure KnS(K:Kd)(ah:zL)(S:Nat->aq.Fn)(es:Array MapEntry)(ck:Nat)(m:List (Nat×Nat)):Prop where
 dJ:aE kr (λv (x:Nat)=>v=u64 x) es ck m
 val:∀r x,aK m r=some x->x=cw K ah S r%Bs
 low:∀r,r<2->aK m r≠none
theorem Mf(h:bP kp K S ord ah tr C)(h9:(c9,Obj.cells #[.map (some mb)] 254 zZ)∈Z)(h1:(c1,Obj.cells #[ptr kp] 53 zZ)∈Z)(h3:(c3,Obj.cells #[.func (.func 128) #[] #[ptr b1,ptr b9]] 187 zZ)∈Z)
 (Nc:(NC,Obj.cells #[.func (.func 193) #[] #[ptr c9,ptr c1,ptr c3,ptr NC]] 255 zZ)∈Z)(hb1:(b1,Obj.cells #[ptr kp] 53 zZ)∈Z)(hb9:(b9,Obj.cells #[.func (.func 126) #[] #[ptr b1]] 182 zZ)∈Z):
  ∀(k r:Nat) (es:Array MapEntry) (ck:Nat) (m:List (Nat×Nat)),K.n-dep K.n (lv ah) K.N r<=k->live K.N r->KnS K ah S es ck m->
  Fc zQ 193 #[u32 r,ptr c9,ptr c1,ptr c3,ptr NC] ((mb,.map es ck)::(Z++C)) (λv H=>v=u64 (cw K ah S r%Bs)/\∃es' bC m',H=(mb,.map es' bC)::(Z++C)/\KnS K ah S es' bC m'):=by
 have hit:∀{r:Nat} {es:Array MapEntry} {ck:Nat} {m:List (Nat×Nat)} {x:Nat},KnS K ah S es ck m->aK m r=some x->
   Fc zQ 193 #[u32 r,ptr c9,ptr c1,ptr c3,ptr NC] ((mb,.map es ck)::(Z++C)) (λv H=>v=u64 (cw K ah S r%Bs)/\∃es' bC m',H=(mb,.map es' bC)::(Z++C)/\KnS K ah S es' bC m'):=by
  intro r es ck m x hm hv;refine aF λg=>xq (Ld.mk (v:=.map (some mb)) (.tail _ (xae _ h9)) rfl ?_);refine hm.dJ.hit (k:=r) cW (b:=mb) (by exact .head _) hv λv' e=>?_;subst e;exact Ext.two (Br.yes (aN.mk (.refl _) ⟨by rw[hm.val r x hv],es,ck,m,rfl,hm⟩))
 intro k;induction k with
 |zero=>
  intro r es ck m hk hr hm;have qv:r<2:=by
   cases hN:K.N r with
   |some d=>
    rw[an hN]at hk;have:=h.ok.lv.lt _ (h.ok.mid.var hN);omega
   |none=>
    rcases hr with hr|⟨d,e⟩
    ·exact hr
    rw[hN]at e;cases e
  cases hv:aK m r with
  |none=>exact absurd hv (hm.low r qv)
  |some v=>exact hit hm hv
 |succ k ih=>
  intro r es ck m hk hr hm;cases hv:aK m r with
  |some v=>exact hit hm hv
  |none=>
  have qv:¬r<2:=λh2=>hm.low r h2 hv;obtain⟨d,hN⟩:∃d,K.N r=some d:=by
   rcases hr with hr|hr
   ·omega
   exact hr
  have hlo:=h.ok.wf.lo hN;have hhi:=h.ok.wf.hi hN;rw[an hN]at hk;have hvl:=h.ok.lv.lt _ (h.ok.mid.var hN);refine aF λg=>xq (Ld.mk (v:=.map (some mb)) (.tail _ (xae _ h9)) rfl ?_);refine hm.dJ.bO (k:=r) cW (b:=mb) (by exact .head _) hv ?_;refine Ext.two (Br.no (Ld.mk (v:=ptr kp) (.tail _ (xae _ h1)) rfl ?_));refine aa.eq (args:=#[ptr kp,u32 r]) (wF h hN) λb8 _=>?_;refine St.p (fp d) ?_;refine DR.of (R:=(b8,Obj.cells (bu d).toArray 144 zZ)::Z) (.cons (.skip .left)) (Ld.mk (v:=.func (.func 128) #[] #[ptr b1,ptr b9]) (.tail _ h3) rfl ?_);refine az.q ?_;refine Ld.mk (v:=.func (.func 193) #[] #[ptr c9,ptr c1,ptr c3,ptr NC]) (.tail _ Nc) rfl ?_;refine Ld.f (v:=u32 d.lo) (Ld.mk (v:=.func (.func 193) #[] #[ptr c9,ptr c1,ptr c3,ptr NC]) (.tail _ Nc) rfl ?_);refine Ld.f (v:=u32 d.hi) λF=>?_;refine aJ.of rfl zK (aa.fq (args:=#[u32 d.lo,ptr c9,ptr c1,ptr c3,ptr NC]) (ih d.lo es ck m zO hlo.1 hm) ?_);rintro v1 H ⟨rfl,kC,jO,m1,rfl,xH⟩;refine⟨.cons (.skip .left),?_⟩;intro F;refine aJ.of rfl zK (aa.fq (args:=#[u32 d.hi,ptr c9,ptr c1,ptr c3,ptr NC]) (ih d.hi kC jO m1 zO hhi.1 xH) ?_);rintro v2 H ⟨rfl,gP,iB,m2,rfl,nh⟩;refine⟨.cons (.skip .left),?_⟩;intro F;refine aJ.of rfl zK (aa.eq (args:=#[.agg (bu d).toArray,u64 (cw K ah S d.lo%Bs),u64 (cw K ah S d.hi%Bs),ptr b1,ptr b9]) (UW (Z:=Z) h hN hb1 hb9) (Ld.mk (v:=.map (some mb)) (.tail _ (.tail _ (xae _ h9))) rfl ?_));refine nh.dJ.bK (k:=r) (b:=mb) (x:=cw K ah S r%Bs) cW gN rfl λpo qO he=>⟨_,.tail (.head _),?_⟩;refine aN.mk .tail ⟨rfl,po,qO,_,rfl,he,λr' x' n7=>?_,λr' hr'=>?_⟩
  ·rw[bL]at n7;split at n7
   ·rename_i e;subst e;cases n7;rfl
   exact nh.val r' x' n7
  rw[bL];split
  ·simp
  exact nh.low r' hr'
theorem SR(h:bP kp K S ord ah tr C){r:Nat}(hr:live K.N r):
  Rd zQ 89 #[ptr kp,u32 r] C (· =.tuple #[u64 (sat K.n (S r)%Bs),iv 0]):=by
 have hi:=h.ok.mid.int;refine aF λg=>N7 λb1 _=>?_;refine Ld.q ?_;refine ax.int (e:=78) zK zK zK λbx=>?_;refine aa.eh .here (wI (X:=[(bx,_),(b1,_)]) h (by exact .head _) hr) (ae.cK (Br.F λb9 _=>(St.one (c':=#[.func (.func 126) #[] #[ptr b1]]) (by exact .head _) rfl zI rfl ?_)));refine Ld.q ?_;refine aa.fq (args:=#[ptr kp,u32 r,u64 0,u64 1,.func (.func 128) #[] #[ptr b1,ptr b9]]) (C:=(b9,Obj.cells #[.func (.func 126) #[] #[ptr b1]] 182 zZ)::(bx,_)::(b1,Obj.cells #[ptr kp] 53 zZ)::C) (Q:=λv H=>v=u64 (cw K ah S r%Bs)/\H=(b9,Obj.cells #[.func (.func 126) #[] #[ptr b1]] 182 zZ)::(bx,Obj.cells (aA .u32 [(r:Int)]) 78 zZ)::(b1,Obj.cells #[ptr kp] 53 zZ)::C) (aF λg=>I8 ?_) ?_
 ·intro c1 _ c3 _ mb _;refine aE.bK (ke:=kr) (vr:=λv (x:Nat)=>v=u64 x) (k:=0) (b:=mb) (x:=0) cW gN aE.empty rfl λkC jO FX=>⟨_,.head _,?_⟩;refine aE.bK (ke:=kr) (vr:=λv (x:Nat)=>v=u64 x) (k:=1) (b:=mb) (x:=1) cW gN FX rfl λgP iB T6=>⟨_,.head _,?_⟩;intro c9 _;refine St.one (c':=#[.map (some mb)]) (by exact .head _) rfl zI rfl ?_;intro NC _;refine St.one (c':=#[.func (.func 193) #[] #[ptr c9,ptr c1,ptr c3,ptr NC]]) (by exact .head _) rfl zI rfl ?_;refine Ld.q ?_;refine aJ.of rfl zK ?_;obtain⟨Z,hZ⟩:∃Z:Hp,Z=[(NC,Obj.cells #[.func (.func 193) #[] #[ptr c9,ptr c1,ptr c3,ptr NC]] 255 zZ),(c9,.cells #[.map (some mb)] 254 zZ),(c3,.cells #[.func (.func 128) #[] #[ptr b1,ptr b9]] 187 zZ),(c1,.cells #[ptr kp] 53 zZ),
   (b9,Obj.cells #[.func (.func 126) #[] #[ptr b1]] 182 zZ),(bx,Obj.cells (aA .u32 [(r:Int)]) 78 zZ),(b1,Obj.cells #[ptr kp] 53 zZ)]:=⟨_,rfl⟩
  refine aa.pre (H':=(mb,Obj.map gP iB)::(Z++C)) (.perm ?_) ?_
  ·rw[hZ];exact(List.Perm.cons _ (List.Perm.swap _ _ _)).trans (List.Perm.swap _ _ _)
  refine aa.fq (args:=#[u32 r,ptr c9,ptr c1,ptr c3,ptr NC]) (Mf (Z:=Z) (b1:=b1) (b9:=b9) h (by rw[hZ];exact .tail _ (.head _)) (by rw[hZ];exact .tail _ (.tail _ (.tail _ (.head _)))) (by rw[hZ];exact .tail _ (.tail _ (.head _))) (by rw[hZ];exact .head _) (by rw[hZ];exact .tail _ (.tail _ (.tail _ (.tail _ (.tail _ (.tail _ (.head _))))))) (by rw[hZ];exact .tail _ (.tail _ (.tail _ (.tail _ (.head _))))) K.n r gP iB _ (xdw _ _) hr ⟨T6,λr' x hm=>?_,λr' hr'=>?_⟩) ?_
  ·rw[bL,bL]at hm;split at hm
   ·rename_i e;subst e;cases hm;rw[rP h zD];rfl
   split at hm
   ·rename_i e;subst e;cases hm;rw[rP h zD];rfl
   simp[aK]at hm
  ·rw[bL,bL];have:r'=0\/r'=1:=by omega
   rcases this with rfl|rfl<;>simp
  rintro v H ⟨rfl,po,qO,m3,rfl,_⟩;refine aN.mk ?_ ⟨rfl,rfl⟩;rw[hZ];exact .skip (.skip (.skip (.skip (.skip (.refl _)))))
 rintro v H ⟨rfl,rfl⟩;refine Ld.q ?_;refine aJ.of rfl zK (aa.eh (args:=#[u32 r,ptr b1]) .here (si (Z:=[(b9,_),(bx,_),(b1,_)]) h hr (by exact .tail _ (.tail _ (.head _)))) (ae.nP (bg.mk (.skip (.skip .tail)) ?_)));rw[Az,(SO h K.n r (xdw _ _) hr).1]
end
end
end Go.Proofs
namespace Go.Sx
open Go
section
variable {P:Program} {g:Gh} {H:Hp}
def wM:Nat->List (List zV)->List (Nat×zV)
 |_,[]=>[]
 |i,r::rs=>(i,.agg r.toArray)::wM (i+1) rs
theorem wu{k:Nat}:∀(rs:List (List zV)) (i:Nat) (pre aH:List zV),(∀r∈rs,r.length=k)->pre.length=i*k->aH.length=rs.length*k->pS (λi=>some (i*k,k)) (pre++aH) (wM i rs)=some (pre++rs.flatten)
 | [],i,pre,aH,_,_,hj=>by
  have:aH=[]:=xcQ.1 (by simpa using hj);subst this;simp[wM,pS]
 |r::rs,i,pre,aH,hr,hp,hj=>by
  have hrk:=hr r (xby ..);have T3:aH.length=k+rs.length*k:=by rw[hj,xay,xbu,Nat.add_comm]
  simp only[wM,pS,Value.cells];have hb:(Nat.beq r.toArray.toList.length k&&Nat.ble (i*k+r.toArray.toList.length) (pre++aH).length)=true:=by
   have e1:r.toArray.toList.length=k:=hrk;rw[e1,xaf];simp;omega
  rw[hb,xap];have h1:=oX r (pre++aH) (i*k) (by rw[xaf];omega);rw[mK]at h1;have h2:vy (pre++aH) (i*k) r=pre++r++aH.drop k:=by
   have:=xch Array.toList h1;simp only at this;rw[this,<-hp];simp[xex,hrk,xez]
  show pS _ (vy (pre++aH) (i*k) r) _=_;rw[h2,wu rs (i+1) (pre++r) (aH.drop k) (λx hx=>hr x (xbt _ hx)) (by rw[xaf,hp,hrk,xbu]) (by rw[List.length_drop];omega)];simp
theorem ax.many{t e k:Nat}{z:zV}(rs:List (List zV)){len:Nat}{parts:List (Nat×zV)}{K:zV->Hp->Prop}(h1:P.underlying t=some (.slice e))(h2:dz P e=some k)(h3:fH P e=some z)(hk:rs.length*k<=16777216)(hr:∀r∈rs,r.length=k)
 (hl:rs.length=len)(hp:wM 0 rs=parts)(h:∀b,K (.slice (some ⟨b,0,Option.none⟩) len len) ((b,.cells (rows rs) e zZ)::H)):ax P t len parts H K:=by
 subst hl hp;refine⟨rows rs,e,k,z,h1,h2,h3,by omega,?_,λb _=>h b⟩;have:((Array.range (rs.length*k)).map (z.cells[· %z.cells.size]!))=(((Array.range (rs.length*k)).map (z.cells[· %z.cells.size]!)).toList).toArray:=by rw[xdt]
 rw[this];generalize hc:((Array.range (rs.length*k)).map (z.cells[· %z.cells.size]!)).toList=c;have hlen:c.length=rs.length*k:=by rw[<-hc];simp
 refine mV _ _ _ ?_;have:=wu rs 0 [] c hr zI hlen;simpa using this
def kI(kd:IntKind)(a:Int):zV:=.int kd a
theorem cf(kd:IntKind)(a b:Int):Instr.sameNow (.int kd) (kI kd a) (kI kd b)=some (decide (a=b)):=by
 simp only[Instr.sameNow,kI,xa5,xar];rw[xbE];simp
theorem AV(kd:IntKind)(a:Int):Instr.sameBits 10000 (kI kd a) (kI kd a)=true:=by simp[Instr.sameBits,kI]
theorem aE.look{κ β:Type}[DecidableEq κ]{ke:κ->zV}{vr:zV->β->Prop}{es:Array MapEntry}{ck b:Nat}{m:List (κ×β)}{kd:TypeDesc}{zero:zV}{ok:Bool}{k:κ}{K:zV->Prop}(hk:∀a b,Instr.sameNow kd (ke a) (ke b)=some (decide (a=b)))(h:aE ke vr es ck m)(hm:(b,Obj.map es ck)∈H)
 (h1:∀x v,aK m k=some x->vr v x->K (cond ok (.tuple #[v,.bool true]) v))(h2:aK m k=none->K (cond ok (.tuple #[zero,.bool false]) zero)):cY kd zero ok H (.map (some b)) (ke k) K:=by
 cases hx:aK m k with
 |none=>exact h.bO hk hm hx (h2 hx)
 |some x=>exact h.hit hk hm hx λv hv=>h1 x v hx hv
end
end Go.Sx
set_option maxRecDepth 100000
namespace Go.Proofs
open Go Go.Sx
section
open aq
section
variable {B:Hp}
abbrev i64(a:Int):zV:=iv a
abbrev eP(e h:Int)(n:Nat)(t:Int):zV:=.agg #[i64 e,i64 h,u64 n,i64 t]
theorem bI(e h:Int)(n:Nat)(t:Int):∀u∈[i64 e,i64 h,u64 n,i64 t],u.oneCell'=true:=λu hu=>by
 simp only[xaj,xaR,xbl]at hu;rcases hu with rfl|rfl|rfl|rfl<;>rfl
theorem cy(e:Int)(B:Hp):Rd zQ 20 #[i64 e] B (· =eP e (-1) 0 0):=by
 refine aF λg=>O1 λb1 _=>?_;refine Build.mk (cs:=[i64 e,i64 (-1),u64 0,i64 0]) zK (St.p (bI _ _ _ _) ?_);refine az.q ?_;exact bg.mk .tail rfl
theorem dO(n:Nat)(e:Int)(B:Hp):Rd zQ 86 #[u64 n,i64 e] B (· =if e=0 then eP 0 (-1) n 0 else eP e (-1) 0 0):=by
 refine aF λg=>Oa λb1 _=>?_;refine ae.neq ?_;by_cases he:e=0
 ·subst he;refine Br.no' rfl (Build.mk (cs:=[i64 0,i64 (-1),u64 n,i64 0]) zK (St.p (bI _ _ _ _) ?_));refine az.q ?_;exact bg.mk .tail rfl
 refine Br.Ul (by simpa using he) (aa.eq (cy e _) (St.p (r:=[i64 e,i64 (-1),u64 0,i64 0]) (bI _ _ _ _) ?_));refine az.q ?_;exact bg.mk .tail (by rw[xac he])
theorem JX(b:Bool)(B:Hp):Rd zQ 88 #[.bool b] B (· =u64 b.toNat):=by
 refine aF λg=>N8 ?_;cases b
 ·exact Br.no (bg.mk (.refl _) rfl)
 exact Br.yes (bg.mk (.refl _) rfl)
structure eB where
 op:Nat
 a:Int
 b:Int
 c:Int
 x:Nat
def eB.cells(s:eB):List zV:=[.int .u8 (s.op:Int),i64 s.a,i64 s.b,i64 s.c,u64 s.x]
abbrev eB.v(s:eB):zV:=.agg s.cells.toArray
theorem eB.one(s:eB):∀u∈s.cells,u.oneCell'=true:=λu hu=>by
 simp only[eB.cells,xaj,xaR,xbl]at hu;rcases hu with rfl|rfl|rfl|rfl|rfl<;>rfl
structure eB.Ok(s:eB):Prop where
 op:s.op<256
 a: -9223372036854775808<=s.a/\s.a<=9223372036854775807
 b: -9223372036854775808<=s.b/\s.b<=9223372036854775807
 c: -9223372036854775808<=s.c/\s.c<=9223372036854775807
 x:s.x<18446744073709551616
structure Cf where
 n:Nat
 cap:Nat
 str:Nat
 gr:Nat
 rs:Nat
def Cf.cells(c:Cf):List zV:=[i64 c.n,i64 c.cap,.int .u8 (c.str:Int),i64 c.gr,i64 c.rs]
abbrev kH(sp:Nat)(c:Cf)(kp mb nx:Nat):Nat×Obj:=(sp,.cells (c.cells++[ptr kp,.map (some mb),i64 (nx:Int)]).toArray 58 zZ)
structure gX(kp nx:Nat)(c:Cf)(K:Kd)(S:Nat->aq.Fn)(ord ah tr:zL)(hs:List (Int×Nat))(es:Array MapEntry)(ck:Nat)(C:Hp):Prop where
 ks:bP kp K S ord ah tr C
 n:K.n=c.n
 cap:K.cap=c.cap
 dJ:aE (kI .i64) (λv (r:Nat)=>v=u32 r) es ck hs
 live:∀p∈hs,live K.N p.2
 hold:∀r,K.hold r=if 2<=r then(hs.map Prod.snd).count r else 0
 lt:∀p∈hs,0<=p.1/\p.1<nx
abbrev gS(sp:Nat)(c:Cf)(kp mb nx:Nat)(es:Array MapEntry)(ck:Nat)(C:Hp):Hp:=kH sp c kp mb nx::(mb,.map es ck)::C
end
section
variable {sp kp mb nx:Nat} {c:Cf} {K:Kd} {S:Nat->aq.Fn} {ord ah tr:zL} {hs:List (Int×Nat)} {es:Array MapEntry} {ck:Nat} {C:Hp}
theorem eG(h:gX kp nx c K S ord ah tr hs es ck C)(a:Int):Rd zQ 76 #[ptr sp,i64 a] (gS sp c kp mb nx es ck C) (· =.bool (aK hs a).isSome):=by
 refine aF λg=>Oh (Ld.n (v:=.map (some mb)) ?_);refine h.dJ.look (k:=a) (cf _) (by exact .tail _ (.head _)) (λx v hx hv=>?_) (λhx=>?_)
 ·exact Ext.two (bg.mk (.refl _) (by rw[hx];rfl))
 exact Ext.two (bg.mk (.refl _) (by rw[hx];rfl))
theorem BU(a:Int):Rd zQ 75 #[ptr sp,i64 a] (gS sp c kp mb nx es ck C) (· =.bool (decide (0<=a/\a<c.n))):=by
 refine aF λg=>Oi (ae.geq (c6.and (a:=decide (0<=a)) (decide (a<c.n)) (λ_=>?_) rfl λ_=>?_))
 ·exact Nil.ptr (ai.mk (Ld.f (v:=i64 c.n) (ae.lss ⟨rfl,rfl⟩)))
 exact bg.mk (.refl _) (by rw[<-xd8])
theorem Kw(a:Int)(B:Hp):Rd zQ 74 #[i64 a] B (· =.bool (decide (a=0\/a=1))):=by
 refine aF λg=>Oj (ae.eql (c6.or (a:=a==0) (a==1) (λ_=>ae.eql ⟨rfl,rfl⟩) rfl λ_=>?_));refine bg.mk (.refl _) ?_;rw[xa6];rfl
def Gu(w:Nat)(x:eB):Bool:=decide (w&&&32≠0) && !decide (x.a=0\/x.a=1)
def NH(w:Nat)(x:eB):Bool:=decide (w&&&64≠0) && !decide (x.c=0\/x.c=1)
def Fk(n w:Nat)(x:eB):Bool:=decide (w&&&8≠0) && !decide (0<=x.a/\x.a<n)
def Fj(n w:Nat)(x:eB):Bool:=decide (w&&&16≠0) && !decide (0<=x.b/\x.b<n)
def MA(n w:Nat)(x:eB):Bool:=decide (w&&&128≠0) &&decide (x.x>>>n≠0)
def wA(hs:List (Int×Nat))(w:Nat)(x:eB):Bool:=decide (w&&&1≠0) && !(aK hs x.a).isSome
def wz(hs:List (Int×Nat))(w:Nat)(x:eB):Bool:=decide (w&&&2≠0) && !(aK hs x.b).isSome
def zl(hs:List (Int×Nat))(w:Nat)(x:eB):Bool:=decide (w&&&4≠0) && !(aK hs x.c).isSome
def kM(n:Nat)(hs:List (Int×Nat))(w:Nat)(x:eB):Int:=
 if(Gu w x||NH w x)=true then 1 else if(Fk n w x||Fj n w x||MA n w x)=true then 2 else if(wA hs w x||wz hs w x||zl hs w x)=true then 3 else 0
theorem ae.has{w m:Nat}{k:zV->Prop}(hw:w<256)(hm:m<256)(h:k (.bool (decide (w&&&m≠0)))):ae .num .and (.int .u8 (w:Int)) (.int .u8 (m:Int)) λv=>ae .num .neq v (.int .u8 0) k:=by
 refine ae.jD (by simpa[bF]using hw) (by simpa[bF]using hm) (ae.neq ?_);have:(((w&&&m:Nat):Int) !=0)=decide (w&&&m≠0):=by
  rw[xbE];simp
 rw[this];exact h
theorem look_ok(h:gX kp nx c K S ord ah tr hs es ck C){x:eB}{w:Nat}(hw:w<256)(hx:x.x<18446744073709551616):Rd zQ 43 #[ptr sp,x.v,.int .u8 (w:Int)] (gS sp c kp mb nx es ck C) (· =i64 (kM c.n hs w x)):=by
 refine aF λg=>OJ λb1 _ J3 h3=>?_;have SL:∀b:Bool,(Gu w x||NH w x)=b->J3 [.bool b] ((b1,.cells (Value.cells x.v) 35 zZ)::gS sp c kp mb nx es ck C):=λb hb=>by
  refine h3 _ _ λ_=>?_;cases b;rotate_left
  ·exact Br.yes (bg.mk .tail (by unfold kM;rw[xad hb]))
  refine Br.no λJ7 h7=>?_;have SK:∀b:Bool,(Fk c.n w x||Fj c.n w x||MA c.n w x)=b->J7 [.bool b] ((b1,.cells (Value.cells x.v) 35 zZ)::gS sp c kp mb nx es ck C):=λb' hb'=>by
   refine h7 _ _ λ_=>?_;cases b';rotate_left
   ·exact Br.yes (bg.mk .tail (by unfold kM;rw[hb,xac zD,xad hb']))
   refine Br.no λJ11 Wt=>?_;have KV:∀b:Bool,(wA hs w x||wz hs w x||zl hs w x)=b->J11 [.bool b] ((b1,.cells (Value.cells x.v) 35 zZ)::gS sp c kp mb nx es ck C):=λb2 tG=>by
    refine Wt _ _ λ_=>?_;cases b2
    ·exact Br.no (bg.mk .tail (by unfold kM;rw[hb,hb',tG];rfl))
    exact Br.yes (bg.mk .tail (by unfold kM;rw[hb,hb',xac zD,xac zD,xad tG]))
   intro J15 h15;have k15:∀b:Bool,wA hs w x=b->J15 [.bool b] ((b1,.cells (Value.cells x.v) 35 zZ)::gS sp c kp mb nx es ck C):=λb2 tG=>by
    refine h15 _ _ λ_=>?_;cases b2;rotate_left
    ·exact Br.yes (JE.mk (KV true (by rw[tG];rfl)))
    refine Br.no λJ19 h19=>?_;have k19:∀b:Bool,wz hs w x=b->J19 [.bool b] ((b1,.cells (Value.cells x.v) 35 zZ)::gS sp c kp mb nx es ck C):=λb3 R4=>by
     refine h19 _ _ λ_=>?_;cases b3;rotate_left
     ·exact Br.yes (JE.mk (KV true (by rw[R4,xdr];rfl)))
     refine Br.no (ae.has (m:=4) hw zD (Split.mk (λe=>?_) (λe=>?_)))
     ·refine Ld.f (v:=i64 x.c) (aa.eq (eG h x.c) (Un.not (aL.mk (JE.mk (KV _ ?_)))));rw[tG,R4];unfold zl;rw[e];rfl
     refine aL.mk (JE.mk (KV false ?_));rw[tG,R4];unfold zl;rw[e];rfl
    refine ae.has (m:=2) hw zD (Split.mk (λe=>?_) (λe=>?_))
    ·refine Ld.f (v:=i64 x.b) (aa.eq (eG h x.b) (Un.not (aL.mk (JE.mk (k19 _ ?_)))));unfold wz;rw[e];rfl
    refine aL.mk (JE.mk (k19 false ?_));unfold wz;rw[e];rfl
   refine ae.has (m:=1) hw zD (Split.mk (λe=>?_) (λe=>?_))
   ·refine Ld.f (v:=i64 x.a) (aa.eq (eG h x.a) (Un.not (aL.mk (JE.mk (k15 _ ?_)))));unfold wA;rw[e];rfl
   refine aL.mk (JE.mk (k15 false ?_));unfold wA;rw[e];rfl
  intro J50 h50;have k50:∀b:Bool,Fk c.n w x=b->J50 [.bool b] ((b1,.cells (Value.cells x.v) 35 zZ)::gS sp c kp mb nx es ck C):=λb2 tG=>by
   refine h50 _ _ λ_=>?_;cases b2;rotate_left
   ·exact Br.yes (JE.mk (SK true (by rw[tG];rfl)))
   refine Br.no λJ54 h54=>?_;have k54:∀b:Bool,Fj c.n w x=b->J54 [.bool b] ((b1,.cells (Value.cells x.v) 35 zZ)::gS sp c kp mb nx es ck C):=λb3 R4=>by
    refine h54 _ _ λ_=>?_;cases b3;rotate_left
    ·exact Br.yes (JE.mk (SK true (by rw[R4,xdr];rfl)))
    refine Br.no (ae.has (m:=128) hw zD (c6.and (decide (x.x>>>c.n≠0)) (λ_=>?_) rfl λgs=>?_))
    ·refine Ld.f (v:=u64 x.x) (Nil.ptr (ai.mk (Ld.f (v:=i64 c.n) (ae.iI (by simpa[bF]using hx) (ae.neq ⟨rfl,?_⟩)))));congr 1;generalize x.x>>>c.n=y;rw[xbE];simp
    refine JE.mk (SK _ ?_);rw[tG,R4];rfl
   refine ae.has (m:=16) hw zD (Split.mk (λe=>?_) (λe=>?_))
   ·refine Ld.f (v:=i64 x.b) (aa.eq (BU x.b) (Un.not (aL.mk (JE.mk (k54 _ ?_)))));unfold Fj;rw[e];rfl
   refine aL.mk (JE.mk (k54 false ?_));unfold Fj;rw[e];rfl
  refine ae.has (m:=8) hw zD (Split.mk (λe=>?_) (λe=>?_))
  ·refine Ld.f (v:=i64 x.a) (aa.eq (BU x.a) (Un.not (aL.mk (JE.mk (k50 _ ?_)))));unfold Fk;rw[e];rfl
  refine aL.mk (JE.mk (k50 false ?_));unfold Fk;rw[e];rfl
 intro J88 h88;have k88:∀b:Bool,Gu w x=b->J88 [.bool b] ((b1,.cells (Value.cells x.v) 35 zZ)::gS sp c kp mb nx es ck C):=λb hb=>by
  refine h88 _ _ λ_=>?_;cases b;rotate_left
  ·exact Br.yes (JE.mk (SL true (by rw[hb];rfl)))
  refine Br.no (ae.has (m:=64) hw zD (Split.mk (λe=>?_) (λe=>?_)))
  ·refine Ld.f (v:=i64 x.c) (aJ.of rfl zK (aa.eq (args:=#[i64 x.c]) (Kw x.c _) (Un.not (aL.mk (JE.mk (SL _ ?_))))));rw[hb];unfold NH;rw[e];rfl
  refine aL.mk (JE.mk (SL false ?_));rw[hb];unfold NH;rw[e];rfl
 refine ae.has (m:=32) hw zD (Split.mk (λe=>?_) (λe=>?_))
 ·refine Ld.f (v:=i64 x.a) (aJ.of rfl zK (aa.eq (args:=#[i64 x.a]) (Kw x.a _) (Un.not (aL.mk (JE.mk (k88 _ ?_))))));unfold Gu;rw[e];rfl
 refine aL.mk (JE.mk (k88 false ?_));unfold Gu;rw[e];rfl
end
end
section
open aq
section
theorem Dh{n:Int}(hn:n<0\/64<n)(B:Hp):Rd zQ 28 #[iv n] B (· =.tuple #[.slice none 0 0,iv 1]):=by
 refine aF λg=>Af (ae.lss (c6.or (a:=decide (n<0)) (decide (64<n)) (λ_=>ae.gtr ⟨rfl,rfl⟩) rfl λ_=>?_));rw[<-xa6,xam hn];exact Br.yes (bg.mk (.refl _) rfl)
theorem YN{n cap:Int}(hb:n<1\/64<n\/cap<2\/1048576<cap):Rd zQ 19 #[i64 n,i64 cap] [] (· =.tuple #[.pointer none,i64 1]):=by
 refine aF λg=>Ah ?_;by_cases hn:n<0\/64<n
 ·refine aa.eq (Dh hn _) (Ext.two (ae.cK (c6.or true (λh=>absurd h zD) rfl λgs=>?_)));refine c6.or true (λh=>absurd h zD) rfl λgs=>?_;refine c6.or true (λh=>absurd h zD) rfl λgs=>Br.yes ?_;exact bg.mk (.refl _) rfl
 obtain⟨m,rfl⟩:∃m:Nat,n=m:=⟨n.toNat,by omega⟩;refine aa.fq (tF (n:=m) zO) ?_;rintro v CO ⟨s,rfl,hO⟩;refine Ext.two (ae.cK (c6.or (decide ((m:Int)<1)) (λ_=>ae.lss ⟨rfl,rfl⟩) rfl λgs=>?_));refine c6.or (decide (cap<2)) (λ_=>ae.lss ⟨rfl,rfl⟩) rfl λgs=>?_;refine c6.or (decide (1048576<cap)) (λ_=>ae.gtr ⟨rfl,rfl⟩) rfl λgs=>?_;exact Br.Ul (by simp only[xbs,xaK];omega) (bg.mk (λ_ _ h=>h.bt) rfl)
structure uJ where
 n:Int
 cap:Int
 str:Nat
 gr:Int
 rs:Int
def uJ.cells(c:uJ):List zV:=[i64 c.n,i64 c.cap,.int .u8 (c.str:Int),i64 c.gr,i64 c.rs]
theorem uJ.one(c:uJ):∀u∈c.cells,u.oneCell'=true:=λu hu=>by
 simp only[uJ.cells,xaj,xaR,xbl]at hu;rcases hu with rfl|rfl|rfl|rfl|rfl<;>rfl
def gU(c:uJ):Bool:=decide (6<c.str)||decide (c.gr<100)||decide (1000<c.gr)||decide (c.rs<0)||decide (16<c.rs)
def iM(c:uJ):Bool:=decide (c.n<1\/64<c.n\/c.cap<2\/1048576<c.cap)
def fQ(c:uJ):Int:=if gU c=true then 1 else if iM c=true then 1 else if c.str=6/\12<c.n then 6 else 0
structure Cf.Ok(c:Cf):Prop where
 n:1<=c.n/\c.n<=64
 cap:2<=c.cap/\c.cap<=1048576
 str:c.str<=6
 gr:100<=c.gr/\c.gr<=1000
 rs:c.rs<=16
 ex:c.str=6->c.n<=12
def Cf.i(c:Cf):uJ:=⟨c.n,c.cap,c.str,c.gr,c.rs⟩
theorem Vl{c:uJ}(h:fQ c=0):∃d:Cf,c=d.i/\d.Ok:=by
 unfold fQ at h;split at h
 ·cases h
 rename_i h1;split at h
 ·cases h
 rename_i h2;split at h
 ·cases h
 rename_i h3;simp only[gU,iM,xbs,xaK]at h1 h2;obtain⟨n,cap,str,gr,rs⟩:=c;simp only at h1 h2 h3;exact⟨⟨n.toNat,cap.toNat,str,gr.toNat,rs.toNat⟩,by simp only[Cf.i,uJ.mk.injEq];exact⟨by omega,by omega,trivial,by omega,by omega⟩,⟨by simp only;omega,by simp only;omega,by simp only;omega,by simp only;omega,by simp only;omega,λe=>by simp only at e⊢;omega⟩⟩
theorem B6(c:uJ){Q:zV->Hp->Prop}(hno:fQ c≠0->Q (.tuple #[.pointer none,i64 (fQ c)]) [])
 (hok:∀d:Cf,c=d.i->d.Ok->∀(sp kp mb:Nat) (C:Hp),bP kp (K0 d.n d.cap) S0 (List.range d.n) (List.range d.n) [] C->Q (.tuple #[ptr sp,i64 0]) (gS sp d kp mb 0 #[] 0 C)):
  Fc zQ 7 #[.agg c.cells.toArray] [] Q:=by
 refine aF λg=>TM λb1 _ J3 h3=>?_;have jt:gU c=true->J3 [.bool true] [(b1,.cells (Value.cells (.agg c.cells.toArray)) 23 zZ)]:=λhb=>by
  refine h3 _ _ λ_=>Br.yes ?_;have e:fQ c=1:=by unfold fQ;rw[xad hb]
  rw[e]at hno;exact aN.mk .tail (hno zD)
 have jf:gU c=false->J3 [.bool false] [(b1,.cells (Value.cells (.agg c.cells.toArray)) 23 zZ)]:=λhb=>by
  refine h3 _ _ λ_=>Br.no ?_;refine Ld.f (v:=i64 c.n) (Ld.f (v:=i64 c.cap) ?_);cases tG:iM c;rotate_left
  ·refine aa.eh hnew (YN (by simpa[iM]using tG)) (Ext.two (ae.cK (Br.T ?_)));have e:fQ c=1:=by unfold fQ;rw[hb,xac zD,xad tG]
   rw[e]at hno;exact aN.mk .tail (hno zD)
  simp only[iM,xbp]at tG;simp only[gU,xaF,xbp]at hb;obtain⟨m,hm⟩:∃m:Nat,c.n=m:=⟨c.n.toNat,by omega⟩;obtain⟨q,hq⟩:∃q:Nat,c.cap=q:=⟨c.cap.toNat,by omega⟩;rw[hm,hq];refine aa.fn hnew (YM (n:=m) (cap:=q) zO zO) ?_;rintro w C ⟨kp,rfl,hK⟩;refine Ext.two (ae.cK (Br.F (Ld.u (v:=.int .u8 (c.str:Int)) (xab _ (.head _)) ?_)));refine ae.eL (b:=6) (c6.and (decide (12<c.n)) (λ_=>?_) rfl λgs=>?_)
  ·exact Ld.u (v:=i64 c.n) (xab _ (.head _)) (ae.gtr ⟨rfl,rfl⟩)
  rw[<-xd8];refine Br.dec (λh6=>?_) (λh6=>?_)
  ·have e:fQ c=6:=by
    unfold fQ;rw[xac (by simp only[gU,xbs,xaK];omega),xac (by simp only[iM,xaK];omega),xad h6]
   rw[e]at hno;exact aN.mk (λ_ _ h=>h.bt) (hno zD)
  have e:fQ c=0:=by
   unfold fQ;rw[xac (by simp only[gU,xbs,xaK];omega),xac (by simp only[iM,xaK];omega),xac h6]
  obtain⟨d,rfl,hd⟩:=Vl e;have em:m=d.n:=by simp only[Cf.i]at hm;omega
  have eq:q=d.cap:=by simp only[Cf.i]at hq;omega
  subst em eq;refine az.whole (r:=d.i.cells) (xab _ (.head _)) rfl ?_;intro mb _;refine Build.mk (cs:=d.cells++[ptr kp,.map (some mb),i64 ((0:Nat):Int)]) zK λsp _=>?_;refine aN.mk ?_ (hok d rfl hd sp kp mb C hK);exact .cons (.cons .left)
 refine Ld.f (v:=.int .u8 (c.str:Int)) (ae.nB (b:=6) (Br.dec (λh=>by rw[xam h];exact JE.mk (jt (by simp[gU,h]))) (λh1=>?_)));refine Ld.f (v:=i64 c.gr) (ae.lss (Br.dec (λh=>by rw[xam h];exact JE.mk (jt (by simp[gU,h]))) (λh2=>?_)));refine Ld.f (v:=i64 c.gr) (ae.gtr (Br.dec (λh=>by rw[xam h];exact JE.mk (jt (by simp[gU,h]))) (λxI=>?_)));refine Ld.f (v:=i64 c.rs) (ae.lss (Br.dec (λh=>by rw[xam h];exact JE.mk (jt (by simp[gU,h]))) (λh4=>?_)));refine Ld.f (v:=i64 c.rs) (ae.gtr ?_);cases hb:decide (16<c.rs)
 ·exact JE.mk (jf (by simp only[gU,hb,xal h1,xal h2,xal xI,xal h4];rfl))
 exact JE.mk (jt (by simp only[gU,hb,xdr]))
end
section
variable {sp kp mb nx:Nat} {c:Cf} {K:Kd} {S:Nat->aq.Fn} {ord ah tr:zL} {hs:List (Int×Nat)} {es:Array MapEntry} {ck:Nat} {C:Hp}
theorem QR{κ β:Type}[DecidableEq κ]{m:List (κ×β)}{k:κ}{x:β}(h:k∉m.map Prod.fst):dW m k x=m++[(k,x)]:=by
 unfold dW;rw[xac h]
theorem zc(hE:aE (kI .i64) (λv (r:Nat)=>v=u32 r) es ck hs)(hk:(nx:Int)∉hs.map Prod.fst)(BD:nx+1<9223372036854775808)(r:Nat)(t:Int):
  Fc zQ 44 #[ptr sp,u32 r,i64 t] (gS sp c kp mb nx es ck C) (λv H=>v=eP 0 nx 0 t/\∃es' bC,H=gS sp c kp mb (nx+1) es' bC C/\aE (kI .i64) (λv (r:Nat)=>v=u32 r) es' bC (hs++[((nx:Int),r)])):=by
 refine aF λg=>OI λb1 _=>?_;refine Ld.n (v:=i64 (nx:Int)) (Ld.n (v:=i64 (nx:Int)) (ae.inc (Nil.ptr (ai.mk (St.one (c':=(c.cells++[ptr kp,.map (some mb),i64 ((nx+1:Nat):Int)]).toArray) (by exact .tail (.head _)) rfl (by simp[Cf.cells]) rfl ?_)))));refine Ld.n (v:=.map (some mb)) (hE.bK (k:=(nx:Int)) (b:=mb) (x:=r) (cf _) (AV _) rfl λes' bC he=>⟨_,.tail (.tail (.head _)),?_⟩);rw[QR hk]at he;refine Build.mk (cs:=[i64 0,i64 (nx:Int),u64 0,i64 t]) zK (St.p (bI _ _ _ _) ?_);refine az.q ?_;exact aN.mk .tail ⟨rfl,es',bC,rfl,he⟩
def fx(op:Nat):Option (Nat×Nat):=
 if op=11 then some (21,42)else if op=10 then some (129,41)else if op=9 then some (129,40)else if op=8 then some (81,39)else
 if op=7 then some (7,38)else if op=6 then some (3,37)else if op=5 then some (3,36)else if op=4 then some (3,35)else
 if op=3 then some (1,34)else if op=2 then some (32,33)else if op=1 then some (8,32)else none
def Kq(p:Nat×Nat):List zV:=[.int .u8 (p.1:Int),.func (.func p.2) #[] #[]]
theorem MF:Fc zQ 21 #[] [] (λv H=>∃b es ck m,v=.map (some b)/\H=[(b,.map es ck)]/\aE (kI .u8) (λv (p:Nat×Nat)=>v=.agg (Kq p).toArray) es ck m/\∀op:Nat,aK m (op:Int)=fx op):=by
 refine aF λg=>O0 λb _=>?_;have bK:∀{k:Int} {p:Nat×Nat} {es:Array MapEntry} {ck:Nat} {m:List (Int×(Nat×Nat))} {Q:Hp->Prop},aE (kI .u8) (λv (p:Nat×Nat)=>v=.agg (Kq p).toArray) es ck m->(∀es' bC,aE (kI .u8) (λv (p:Nat×Nat)=>v=.agg (Kq p).toArray) es' bC (dW m k p)->Q [(b,.map es' bC)])->
   Build zQ 63 [(0,.int .u8 (p.1:Int)),(1,.func (.func p.2) #[] #[])] λv=>aX (.int .u8) [(b,.map es ck)] (.map (some b)) (kI .u8 k) v Q:=λ{k p es ck m Q} he hq=>by
  exact Build.mk (cs:=Kq p) zK (aE.bK (cf _) (AV _) he rfl λes' bC he'=>⟨_,.head _,hq es' bC he'⟩)
 refine bK (k:=1) (p:=(8,32)) aE.empty λ_ _ h=>?_;refine bK (k:=2) (p:=(32,33)) h λ_ _ h=>?_;refine bK (k:=3) (p:=(1,34)) h λ_ _ h=>?_;refine bK (k:=4) (p:=(3,35)) h λ_ _ h=>?_;refine bK (k:=5) (p:=(3,36)) h λ_ _ h=>?_;refine bK (k:=6) (p:=(3,37)) h λ_ _ h=>?_;refine bK (k:=7) (p:=(7,38)) h λ_ _ h=>?_;refine bK (k:=8) (p:=(81,39)) h λ_ _ h=>?_;refine bK (k:=9) (p:=(129,40)) h λ_ _ h=>?_;refine bK (k:=10) (p:=(129,41)) h λ_ _ h=>?_;refine bK (k:=11) (p:=(21,42)) h λ_ _ h=>?_;refine aN.mk (.refl _) ⟨b,_,_,_,rfl,rfl,h,λop=>?_⟩;simp only[bL];have:∀j:Nat,((op:Int)=(j:Int))=(op=j):=λj=>propext zO;have e:=this 11;have e2:=this 10;have e3:=this 9;have e4:=this 8;have e5:=this 7;have e6:=this 6;have e7:=this 5;have e8:=this 4;have e9:=this 3;have e10:=this 2;have e11:=this 1
 simp only[Int.cast_ofNat_Int]at*;simp only[e,e2,e3,e4,e5,e6,e7,e8,e9,e10,e11];rfl
end
section
variable {sp kp mb nx:Nat} {c:Cf} {K K':Kd} {S S':Nat->aq.Fn} {ord ah bR tr cu o:zL} {hs:List (Int×Nat)} {es:Array MapEntry} {ck:Nat} {C C':Hp}
theorem Kept.const(hK:bP kp K S ord ah tr C)(cX:bP kp K' S' o bR cu C')(r:Nat)(hr:r<2):S' r=S r:=by
  have h1:=hK.ok.mid.int;have h2:=cX.ok.mid.int;have:r=0\/r=1:=by omega
  rcases this with rfl|rfl
  · exact funext λx=>by rw[h1.zero,h2.zero]
  · exact funext λx=>by rw[h1.one,h2.one]
theorem gX.kept(h:gX kp nx c K S ord ah tr hs es ck C)(cX:bP kp K' S' o bR cu C')(hk:Kept K S K' S'):gX kp nx c K' S' o bR cu hs es ck C'/\∀p∈hs,S' p.2=S p.2:=by
  have hh:∀p∈hs,2<=p.2->K.hold p.2≠0:=λp hp h2=>by
    rw[h.hold,xad h2];exact xds (xbL.2 (xaT hp))
  refine⟨⟨cX,hk.n.trans h.n,hk.cap.trans h.cap,h.dJ,λp hp=>?_,λr=>by rw[hk.hold,h.hold],h.lt⟩,λp hp=>?_⟩
  · by_cases h2:2<=p.2
    · exact .inr (cX.ok.mid.held p.2 (by rw[hk.hold];exact hh p hp h2))
    · exact .inl zO
  · by_cases h2:2<=p.2
    · exact hk.fn _ (hh p hp h2)
    · exact Kept.const h.ks cX _ zO
theorem gX.key(h:gX kp nx c K S ord ah tr hs es ck C):(nx:Int)∉hs.map Prod.fst:=λhm=>by
  obtain⟨p,hp,e⟩:=xan.1 hm;have:=h.lt p hp;omega
theorem gX.grow(h:gX kp nx c K S ord ah tr hs es ck C){f:aq.Fn}{r:Nat}{es':Array MapEntry}{bC:Nat}(cX:bP kp K' S' o bR cu C')(hg:fW K S K' S' f r)(he:aE (kI .i64) (λv (r:Nat)=>v=u32 r) es' bC (hs++[((nx:Int),r)])):
    gX kp (nx+1) c K' S' o bR cu (hs++[((nx:Int),r)]) es' bC C'/\∀p∈hs,S' p.2=S p.2:=by
  refine⟨⟨cX,hg.n.trans h.n,hg.cap.trans h.cap,he,λp hp=>?_,λs=>?_,λp hp=>?_⟩,λp hp=>hg.fn _ (h.live p hp)⟩
  · rcases xao.1 hp with hp|hp
    · exact bA hg.N (h.live p hp)
    · rw[xaE.1 hp];exact hg.live
  · rw[hg.hold,h.hold,xaA,xbe]
    by_cases e:s=r
    · subst e
      by_cases h2:2<=s
      · simp[h2]
      · simp[h2]
    · have:List.count s (List.map Prod.snd [((nx:Int),r)])=0:=by
        simp only[xaC,xcv,xdN,xaE];exact e
      have e2:(if s=r/\2<=r then 1 else 0)=0:=xac λh=>e h.1;rw[this,e2];split<;>rfl
  · rcases xao.1 hp with hp|hp
    · have:=h.lt p hp;omega
    · rw[xaE.1 hp];simp only;omega
def nF(kp:Nat)(K:Kd)(S:Nat->aq.Fn)(ord ah tr:zL)(f:aq.Fn)(T:Nat->Prop)(w:zV)(H:Hp):Prop:=
  (∃r K' S',w=.tuple #[u32 r,i64 0]/\bP kp K' S' ord ah [] H/\fW K S K' S' f r/\T 0)\/
  (∃(e:Nat) (K':Kd) (S':Nat->aq.Fn) (cu:zL),w=.tuple #[u32 0,i64 e]/\(e=8\/e=9)/\bP kp K' S' ord ah cu H/\(cu=[]\/cu=tr)/\Kept K S K' S'/\T e)
theorem nF.two{f:aq.Fn}{T:Nat->Prop}{w:zV}{H:Hp}(h:nF kp K S ord ah tr f T w H):∃x y,w=.tuple #[x,y]:=by
  rcases h with⟨r,_,_,rfl,_⟩|⟨e,_,_,_,rfl,_⟩
  · exact⟨_,_,rfl⟩
  · exact⟨_,_,rfl⟩
inductive eS(T:zL->Nat->Prop)(R:zL->zL->Prop)(o:zL):Nat->zL->Prop
  |one:eS T R o 1 o
  |more {t:Nat} {p ls:zL}:eS T R o t p->T p 9->R p ls->eS T R o (t+1) (ay p ls)
theorem eS.pos{T:zL->Nat->Prop}{R:zL->zL->Prop}{t:Nat}(h:eS T R ord t o):1<=t:=by
  cases h<;>omega
def Ln(sp kp mb nx:Nat)(c:Cf)(S:Nat->aq.Fn)(sz:zL->Nat)(ord tr:zL)(hs:List (Int×Nat))(f:aq.Fn)(T:zL->Nat->Prop)(R:zL->zL->Prop)(v:zV)(H:Hp):Prop:=
  ∃(t:Nat) (o bR cu:zL) (K':Kd) (S':Nat->aq.Fn) (es':Array MapEntry) (bC:Nat) (C':Hp),t<=c.rs+1/\eS T R ord t o/\(∀p∈hs,S' p.2=S p.2)/\
    ((∃r,v=eP 0 nx 0 t/\H=gS sp c kp mb (nx+1) es' bC C'/\gX kp (nx+1) c K' S' o bR cu (hs++[((nx:Int),r)]) es' bC C'/\S' r=f/\T o 0/\cu=[])\/
     (∃e:Nat,(e=8\/e=9)/\v=eP e (-1) 0 t/\H=gS sp c kp mb nx es' bC C'/\gX kp nx c K' S' o bR cu hs es' bC C'/\T o e/\(e=9->t=c.rs+1)/\cu.length+66*sz o<=tr.length+66*sz ord))
theorem Vs{f w:Nat}{x:eB}{fn:aq.Fn}{T:zL->Nat->Prop}{R:zL->zL->Prop}(fM:aW zQ f=true)(h:gX kp nx c K S ord ah tr hs es ck C)(hc:c.Ok)(BD:nx+1<9223372036854775808)(hw:w<256)(hx:x.x<18446744073709551616)(hl:kM c.n hs w x=0)
   (KE:∀{K':Kd} {S':Nat->aq.Fn} {o bR cu:zL} {C':Hp},gX kp nx c K' S' o bR cu hs es ck C'->(∀p∈hs,S' p.2=S p.2)->Fc zQ f #[ptr sp,x.v] (gS sp c kp mb nx es ck C') (λv H=>∃C2,H=gS sp c kp mb nx es ck C2/\nF kp K' S' o bR cu fn (T o) v C2))
   (hrun:∀{K':Kd} {S':Nat->aq.Fn} {o bR cu:zL} {C':Hp},T o 9->gX kp nx c K' S' o bR cu hs es ck C'->(∀p∈hs,S' p.2=S p.2)->cu.length<=tr.length+66*cE K S ord->
      Fc zQ 45 #[ptr kp,.int .u8 (c.str:Int),i64 c.gr] C' (λv H=>∃ls a b,v=.tuple #[a,b]/\R o ls/\At kp K' S' (ay o ls) (cu++ls) H/\ls.length+66*cE K' S' (ay o ls)<=66*cE K' S' o)):
    Fc zQ 22 #[ptr sp,x.v,.agg (Kq (w,f)).toArray] (gS sp c kp mb nx es ck C) (Ln sp kp mb nx c S (cE K S) ord tr hs fn T R):=by
  refine aF λg=>Ag λb1 _ b3 _ b5 _=>?_;refine az.q (r:=x.cells) (Ld.f (v:=.int .u8 (w:Int)) (aa.eq (look_ok h hw hx) ?_));rw[hl];refine ae.cK (Br.F ?_);refine⟨λvs H=>∃(t:Nat) (o bR cu:zL) (K':Kd) (S':Nat->aq.Fn) (C':Hp),vs=[i64 (t:Int)]/\t<=c.rs+1/\H=(b5,.cells #[i64 0,i64 0,u64 0,i64 0] 37 zZ)::(b3,.cells (Kq (w,f)).toArray 63 zZ)::(b1,.cells x.cells.toArray 35 zZ)::gS sp c kp mb nx es ck C'/\
      gX kp nx c K' S' o bR cu hs es ck C'/\Kept K S K' S'/\eS T R ord t o/\cu.length+66*cE K S o<=tr.length+66*cE K S ord,λvs _=>20-bN vs 0,JE.mk ⟨1,ord,ah,tr,K,S,C,rfl,by omega,rfl,h,.refl _ _,.one,xai _⟩,?_⟩
  rintro w0 H ⟨t,o,abD,Xi,K1,S1,C1,⟨⟩,ht,rfl,h1,uj,hT,hb⟩ gs;have Dj:=hc.rs;have hsame:=(h.kept h1.ks uj).2;refine Ld.f (v:=.func (.func f) #[] #[]) (az.q (r:=x.cells) (aJ.of rfl fM (aa.fq (args:=#[ptr sp,x.v]) (KE h1 hsame) ?_)));rintro w H ⟨C2,rfl,hQ⟩;rcases hQ with⟨r,K2,S2,rfl,cR,hg,h0⟩|⟨e,K2,S2,Er,rfl,he,cR,ue,rH,Ub⟩
  · refine Ext.two (ae.ia (Br.T (aa.fq (zc h1.dJ h.key BD r t) ?_)))
    rintro w H ⟨rfl,gP,iB,rfl,hE⟩;refine St.p (r:=[i64 0,i64 nx,u64 0,i64 t]) (bI _ _ _ _) ?_;refine az.q ?_;obtain⟨h3,h4⟩:=h1.grow cR hg hE;exact aN.mk (.skip (.skip .tail)) ⟨t,o,abD,[],K2,S2,gP,iB,C2,ht,hT,λp hp=>(h4 p hp).trans (hsame p hp),.inl ⟨r,rfl,rfl,h3,hg.is,h0,rfl⟩⟩
  · obtain⟨h3,h4⟩:=h1.kept cR rH
    have tG:Er.length+66*cE K S o<=tr.length+66*cE K S ord:=by
      rcases ue with rfl|rfl
      · rw[xca];omega
      · exact hb
    have fin:(e=9->t=c.rs+1)->Ln sp kp mb nx c S (cE K S) ord tr hs fn T R (eP e (-1) 0 t) (gS sp c kp mb nx es ck C2):=λhet=>
      ⟨t,o,abD,Er,K2,S2,es,ck,C2,ht,hT,λp hp=>(h4 p hp).trans (hsame p hp),.inr ⟨e,he,rfl,rfl,h3,Ub,het,tG⟩⟩
    refine Ext.two (ae.ia (Br.F (ae.cK (c6.or (decide (c.rs<t)) (λ_=>?_) rfl λgs=>?_))))
    · exact Nil.ptr (ai.mk (Ld.f (v:=i64 c.rs) (ae.nB ⟨rfl,rfl⟩)))
    rw[<-xa6];refine Br.dec (λKB=>?_) (λKB=>?_)
    · refine aa.eq (cy e _) λb44 _=>?_
      refine St.p (r:=[i64 e,i64 (-1),u64 0,i64 0]) (bI _ _ _ _) ?_;refine ai.mk (St.one (c':=#[i64 e,i64 (-1),u64 0,i64 t]) (by exact .head _) rfl zI rfl ?_);refine az.q (r:=[i64 e,i64 (-1),u64 0,i64 t]) (St.p (bI _ _ _ _) ?_);refine az.q ?_;exact aN.mk (.skip (.skip (.skip .tail))) (fin λ_=>by omega)
    · have he9:e=9:=by omega
      subst he9;refine DR.of (R:=(b5,.cells #[i64 0,i64 0,u64 0,i64 0] 37 zZ)::(b3,.cells (Kq (w,f)).toArray 63 zZ)::(b1,.cells x.cells.toArray 35 zZ)::gS sp c kp mb nx es ck C2) (.refl _) (Ld.n (v:=ptr kp) (Nil.ptr (ai.mk (Ld.f (v:=.int .u8 (c.str:Int)) (Nil.ptr (ai.mk (Ld.f (v:=i64 c.gr) λF=>?_)))))));refine aa.fq (hrun Ub h3 (λp hp=>(h4 p hp).trans (hsame p hp)) zO) ?_;rintro w2 H2 ⟨ls,a,b,rfl,hR,hA,hlen⟩;refine ae.inc ?_;obtain⟨K3,S3,afl,j3,pN⟩:=hA;obtain⟨h5,h6⟩:=h3.kept j3 pN;rw[rE (uj.trans rH),rE (uj.trans rH)]at hlen;refine aC.mk ⟨t+1,ay o ls,afl,Er++ls,K3,S3,H2,rfl,by omega,rfl,h5,(uj.trans rH).trans pN,.more hT Ub hR,by rw[xaf];omega⟩ (by simp only[bN];omega)
end
def HF(L:List aq.Fn)(g:aq.Fn):Prop:=g∈L/\∃v,bT g v
noncomputable def k7(L:List aq.Fn)(f:aq.Fn):Nat:=L.countP λg=> @decide (g=f) (Classical.propDecidable _)
def mu(L:List aq.Fn)(f:aq.Fn):Prop:=(∃v,bT f v)/\65535<=k7 L f
def Ti(n cap:Nat)(L:List aq.Fn)(f:aq.Fn)(ord:zL)(e:Nat):Prop:=
 (e=0/\Fits (aD n ord (λg=>HF L g\/g=f)) cap/\¬mu L f)\/(e=9/\¬Fits (aD n ord (λg=>HF L g\/g=f)) cap)\/(e=8/\mu L f)
def O4(n cap:Nat)(L:List aq.Fn)(q:Bool)(mask:Nat)(f:aq.Fn)(ord:zL)(i:Nat):Prop:=
 Fits (aD n ord (λg=>(HF L g\/(bitsOf mask i≠[]/\g=nH q (bitsOf mask i) f))\/g=qf q i (nH q (bitsOf mask i) f))) cap
def Ek(L:List aq.Fn)(q:Bool)(mask:Nat)(f:aq.Fn)(i:Nat):Prop:=
 (∃v,bT (qf q i (nH q (bitsOf mask i) f)) v)/\65534<=k7 L (qf q i (nH q (bitsOf mask i) f))/\((bitsOf mask i≠[]/\qf q i (nH q (bitsOf mask i) f)=nH q (bitsOf mask i) f)\/65535<=k7 L (qf q i (nH q (bitsOf mask i) f)))
def xC(n cap:Nat)(L:List aq.Fn)(q:Bool)(mask:Nat)(f:aq.Fn)(ord:zL)(i:Nat):Prop:=∀j,j<i->mask.testBit j=true->O4 n cap L q mask f ord j/\¬Ek L q mask f j
def pU(n cap:Nat)(L:List aq.Fn)(q:Bool)(mask:Nat)(f:aq.Fn)(ord:zL)(e:Nat):Prop:=
 (e=0/\(mask=0->¬mu L f)/\xC n cap L q mask f ord n)\/
 (e=9/\∃i,i<n/\mask.testBit i=true/\¬O4 n cap L q mask f ord i/\xC n cap L q mask f ord i)\/
 (e=8/\((mask=0/\mu L f)\/∃i,i<n/\mask.testBit i=true/\Ek L q mask f i/\xC n cap L q mask f ord i))
def F1(n cap:Nat)(L:List aq.Fn)(ord:zL)(lo:aq.Fn):Prop:=Fits (aD n ord (λg=>HF L g\/g=lo)) cap
def F2(n cap:Nat)(L:List aq.Fn)(ord:zL)(lo hi:aq.Fn):Prop:=Fits (aD n ord (λg=>(HF L g\/g=lo)\/g=hi)) cap
def F3(n cap:Nat)(L:List aq.Fn)(ord:zL)(lo hi f:aq.Fn):Prop:=Fits (aD n ord (λg=>((HF L g\/g=lo)\/g=hi)\/g=f)) cap
def U1(L:List aq.Fn)(lo:aq.Fn):Prop:=(∃v,bT lo v)/\k7 L lo=65535
def U2(L:List aq.Fn)(lo hi:aq.Fn):Prop:=(∃v,bT hi v)/\2<=k7 L hi/\∃a,One (hi=lo) a/\k7 L hi+a=65535
def U3(L:List aq.Fn)(lo hi f:aq.Fn):Prop:=(∃v,bT f v)/\2<=k7 L f/\∃a b,One (f=lo) a/\One (f=hi) b/\k7 L f+a+b=65535
def wE(n cap:Nat)(L:List aq.Fn)(lo hi f:aq.Fn)(ord:zL)(e:Nat):Prop:=
 (e=0/\(F1 n cap L ord lo/\¬U1 L lo)/\(F2 n cap L ord lo hi/\¬U2 L lo hi)/\F3 n cap L ord lo hi f/\¬U3 L lo hi f)\/
 (e=9/\(¬F1 n cap L ord lo\/((F1 n cap L ord lo/\¬U1 L lo)/\¬F2 n cap L ord lo hi)\/((F1 n cap L ord lo/\¬U1 L lo)/\(F2 n cap L ord lo hi/\¬U2 L lo hi)/\¬F3 n cap L ord lo hi f)))\/
 (e=8/\(U1 L lo\/((F1 n cap L ord lo/\¬U1 L lo)/\U2 L lo hi)\/((F1 n cap L ord lo/\¬U1 L lo)/\(F2 n cap L ord lo hi/\¬U2 L lo hi)/\U3 L lo hi f)))
theorem ri{L:List aq.Fn}{g:aq.Fn}(h:0<k7 L g):g∈L:=by
 obtain⟨a,h1,h2⟩:=List.countP_pos_iff.1 h;have:a=g:=by simpa using h2
 exact this▸h1
theorem y7{n cap:Nat}{L:List aq.Fn}{ord:zL}{P:aq.Fn->Prop}{f:aq.Fn}(hv:∃v,bT f v)(hc:0<k7 L f)(h:Fits (aD n ord (λg=>HF L g\/P g)) cap):Fits (aD n ord (λg=>(HF L g\/P g)\/g=f)) cap:=
 Fits.mono (λg hg=>aV (λg hh=>by
  rcases hh with hh|rfl
  ·exact hh
  exact .inl ⟨ri hc,hv⟩) hg) h
theorem WT{n cap:Nat}{L:List aq.Fn}{f:aq.Fn}{ord:zL}{e e':Nat}(h0:Fits (aD n ord (HF L)) cap)(h:Ti n cap L f ord e)(h':Ti n cap L f ord e'):e=e':=by
 have key:mu L f->Fits (aD n ord (λg=>HF L g\/g=f)) cap:=λhF=>Fits.mono (λg hg=>aV (λg hh=>by
  rcases hh with hh|rfl
  ·exact hh
  exact⟨ri (xaN zD hF.2),hF.1⟩) hg) h0
 rcases h with⟨rfl,a,b⟩|⟨rfl,a⟩|⟨rfl,a⟩<;>rcases h' with⟨rfl,a',b'⟩|⟨rfl,a'⟩|⟨rfl,a'⟩
 ·rfl
 ·exact absurd a a'
 ·exact absurd a' b
 ·exact absurd a' a
 ·rfl
 ·exact absurd (key a') a
 ·exact absurd a b'
 ·exact absurd (key a) a'
 rfl
theorem zv(mask:Nat):∀i,bitsOf mask i≠[]->∃j,j<i/\mask.testBit j=true/\bitsOf mask i=bitsOf mask j++[j]
 |0,h=>absurd rfl h
 |i+1,h=>by
  rw[ov]at h⊢;by_cases hb:mask.testBit i=true
  ·exact⟨i,by omega,hb,by rw[xad hb]⟩
  rw[xac hb,xaL]at h⊢;obtain⟨j,h1,h2,h3⟩:=zv mask i h;exact⟨j,by omega,h2,h3⟩
theorem No{n cap:Nat}{L:List aq.Fn}{q:Bool}{mask i:Nat}{f:aq.Fn}{ord:zL}(h0:Fits (aD n ord (HF L)) cap)(hD:xC n cap L q mask f ord i)(hF:Ek L q mask f i):O4 n cap L q mask f ord i:=by
 refine y7 hF.1 (xaN zD hF.2.1) ?_;by_cases hb:bitsOf mask i=[]
 ·refine Fits.mono (λg hg=>aV (λg hh=>?_) hg) h0;rcases hh with hh|hh
  ·exact hh
  exact absurd hb hh.1
 obtain⟨j,hj,hm,e⟩:=zv mask i hb;refine Fits.mono (λg hg=>aV (λg hh=>?_) hg) (hD j hj hm).1;rcases hh with hh|⟨_,rfl⟩
 ·exact .inl (.inl hh)
 exact .inr (by rw[e,Cq])
theorem DN{n cap:Nat}{L:List aq.Fn}{q:Bool}{mask:Nat}{f:aq.Fn}{ord:zL}{e e':Nat}(h0:Fits (aD n ord (HF L)) cap)(h:pU n cap L q mask f ord e)(h':pU n cap L q mask f ord e'):e=e':=by
 have zero:∀{i},mask=0->mask.testBit i=true->False:=λh0 hb=>by subst h0;simp at hb
 have s9:∀{i j},i<n->j<n->mask.testBit i=true->mask.testBit j=true->¬O4 n cap L q mask f ord i->xC n cap L q mask f ord i->Ek L q mask f j->xC n cap L q mask f ord j->False:=λ{i j} _ _ hb hb' hn hd hf dF=>by
  rcases xcq i j with hl|rfl|hl
  ·exact hn (dF i hl hb).1
  ·exact hn (No h0 hd hf)
  exact(hd j hl hb').2 hf
 rcases h with⟨rfl,a,b⟩|⟨rfl,i,hi,hb,hn,hd⟩|⟨rfl,⟨hz,a⟩|⟨i,hi,hb,hf,hd⟩⟩<;>rcases h' with⟨rfl,a',b'⟩|⟨rfl,i',hi',hb',hn',dF⟩|⟨rfl,⟨hz',a'⟩|⟨i',hi',hb',MY,dF⟩⟩
 ·rfl
 ·exact absurd (b i' hi' hb').1 hn'
 ·exact absurd a' (a hz')
 ·exact absurd MY (b i' hi' hb').2
 ·exact absurd (b' i hi hb).1 hn
 ·rfl
 ·exact(zero hz' hb).elim
 ·exact(s9 hi hi' hb hb' hn hd MY dF).elim
 ·exact absurd a (a' hz)
 ·exact(zero hz hb').elim
 ·rfl
 ·rfl
 ·exact absurd hf (b' i hi hb).2
 ·exact(s9 hi' hi hb' hb hn' dF hf hd).elim
 ·rfl
 rfl
theorem SU{n cap:Nat}{L:List aq.Fn}{lo hi f:aq.Fn}{ord:zL}{e e':Nat}(h0:Fits (aD n ord (HF L)) cap)(h:wE n cap L lo hi f ord e)(h':wE n cap L lo hi f ord e'):e=e':=by
 have k1:U1 L lo->F1 n cap L ord lo:=λhU=>Fits.mono (λg hg=>aV (λg hh=>by
  rcases hh with hh|rfl
  ·exact hh
  exact⟨ri (by have:=hU.2;omega),hU.1⟩) hg) h0
 have k2:F1 n cap L ord lo->U2 L lo hi->F2 n cap L ord lo hi:=λh1 hU=>y7 hU.1 (by have:=hU.2.1;omega) h1;have k3:F2 n cap L ord lo hi->U3 L lo hi f->F3 n cap L ord lo hi f:=λh1 hU=>Fits.mono (λg hg=>aV (λg hh=>by
  rcases hh with hh|rfl
  ·exact hh
  exact .inl (.inl ⟨ri (by have:=hU.2.1;omega),hU.1⟩)) hg) h1
 have d:∀p1 u1 p2 u2 p3 u3:Prop,(u1->p1)->(p1->u2->p2)->(p2->u3->p3)->∀e e',
  ((e=0/\(p1/\¬u1)/\(p2/\¬u2)/\p3/\¬u3)\/(e=9/\(¬p1\/((p1/\¬u1)/\¬p2)\/((p1/\¬u1)/\(p2/\¬u2)/\¬p3)))\/(e=8/\(u1\/((p1/\¬u1)/\u2)\/((p1/\¬u1)/\(p2/\¬u2)/\u3))))->
  ((e'=0/\(p1/\¬u1)/\(p2/\¬u2)/\p3/\¬u3)\/(e'=9/\(¬p1\/((p1/\¬u1)/\¬p2)\/((p1/\¬u1)/\(p2/\¬u2)/\¬p3)))\/(e'=8/\(u1\/((p1/\¬u1)/\u2)\/((p1/\¬u1)/\(p2/\¬u2)/\u3))))->e=(e':Nat):=by
  intro p1 u1 p2 u2 p3 u3 a b c e e' h h';by_cases x1:u1
  ·have:=a x1;simp only[x1,this,xcr,xdO,xdI,xef,xbl,xdJ,xaW,or_true]at h h';omega
  by_cases y1:p1;rotate_left
  ·simp only[x1,y1,xcM,xdI,xdO,xef,xbl,xdJ,xaW]at h h';omega
  by_cases x2:u2
  ·have:=b y1 x2;simp only[x1,y1,x2,this,xcr,xcM,xdO,xdI,xcj,xef,xbl,xdJ,xaW,or_true]at h h';omega
  by_cases y2:p2;rotate_left
  ·simp only[x1,y1,x2,y2,xcr,xcM,xdO,xdI,xcj,xef,xbl,xdJ,xaW,or_true]at h h';omega
  by_cases x3:u3
  ·have:=c y2 x3;simp only[x1,y1,x2,y2,x3,this,xcr,xcM,xdO,xdI,xcj,xef,xbl,xdJ,xaW,or_true]at h h';omega
  by_cases y3:p3
  ·simp only[x1,y1,x2,y2,x3,y3,xcr,xcM,xdO,xdI,xcj,xef,xbl,xdJ,xaW,or_true]at h h';omega
  simp only[x1,y1,x2,y2,x3,y3,xcr,xcM,xdO,xdI,xcj,xef,xbl,xdJ,xaW,or_true]at h h';omega
 exact d _ _ _ _ _ _ k1 k2 k3 e e' h h'
section
variable {kp:Nat} {K K':Kd} {S S':Nat->aq.Fn} {ord ah bR tr cu o:zL} {C C':Hp} {L:List aq.Fn}
structure cI(K:Kd)(S:Nat->aq.Fn)(L:List aq.Fn):Prop where
 held:K.held S=HF L
 count:∀r,live K.N r->2<=r->K.hold r=k7 L (S r)
 all:∀g,g∈L->∃r,live K.N r/\S r=g
theorem cI.fits(h:cI K S L)(hK:bP kp K S ord ah tr C):Fits (aD K.n ord (HF L)) K.cap:=by
 have hc:=hK.ok.size hK.od;have hr:=hK.ok.mid.room;have h2:=hK.ok.mid.cap;rw[<-h.held];exact⟨K.used-2,hc,by omega⟩
theorem cI.find(h:cI K S L)(hK:bP kp K S ord ah tr C){g:aq.Fn}(hv:∃v,bT g v)(hc:0<k7 L g):∃x,2<=x/\live K.N x/\S x=g/\K.hold x=k7 L g:=by
 obtain⟨x,hl,rfl⟩:=h.all g (ri hc);have h2:=(cr hK hl).2 hv;exact⟨x,h2,hl,rfl,h.count x hl h2⟩
theorem cI.X2(h:cI K S L)(hK:bP kp K S ord ah tr C){r:Nat}(hr:live K.N r):(2<=r/\K.hold r=65535)↔mu L (S r):=by
 constructor
 ·rintro⟨h2,he⟩;exact⟨(cr hK hr).1 h2,by rw[<-h.count r hr h2,he];exact xai _⟩
 rintro⟨hv,hc⟩;have h2:=(cr hK hr).2 hv;have:=h.count r hr h2;have:=hK.dN r;exact⟨h2,by omega⟩
theorem cI.X1(h:cI K S L)(hK:bP kp K S ord ah tr C){q:Bool}{mask r i:Nat}:Lr K S q mask r i↔Ek L q mask (S r) i:=by
 constructor
 ·rintro⟨x,h2,hl,e,h3,h4⟩;have hc:=h.count x hl h2;rw[e]at hc;refine⟨by rw[<-e];exact(cr hK hl).1 h2,by omega,h4.imp (λh4=>⟨h4.1,by rw[<-e];exact h4.2⟩) λh4=>by omega⟩
 rintro⟨hv,h3,h4⟩;obtain⟨x,h2,hl,e,hc⟩:=h.find hK hv zO;have:=hK.dN x;exact⟨x,h2,hl,e,by omega,h4.imp (λh4=>⟨h4.1,by rw[e];exact h4.2⟩) λh4=>by omega⟩
theorem cI.adw(h:cI K S L){q:Bool}{mask r i:Nat}:TQ K S ord q mask r i↔O4 K.n K.cap L q mask (S r) ord i:=by
 unfold TQ O4;rw[h.held]
theorem cI.SJ(h:cI K S L)(hK:bP kp K S ord ah tr C){q:Bool}{mask r i:Nat}:Ak K S ord q mask r i↔xC K.n K.cap L q mask (S r) ord i:=
 forall_congr' λj=>forall_congr' λ_=>forall_congr' λ_=>and_congr h.adw (xeH (h.X1 hK))
theorem cI.f1(h:cI K S L){lo:aq.Fn}:Uk K S ord lo↔F1 K.n K.cap L ord lo:=by unfold Uk F1;rw[h.held]
theorem cI.f2(h:cI K S L){lo hi:aq.Fn}:Yg K S ord lo hi↔F2 K.n K.cap L ord lo hi:=by unfold Yg F2;rw[h.held]
theorem cI.f3(h:cI K S L){lo hi f:aq.Fn}:CF3 K S ord lo hi f↔F3 K.n K.cap L ord lo hi f:=by unfold CF3 F3;rw[h.held]
theorem One.le{p:Prop}{a:Nat}(h:One p a):a<=1:=by rcases h with⟨rfl,_⟩|⟨rfl,_⟩<;>omega
theorem cI.u1(h:cI K S L)(hK:bP kp K S ord ah tr C){lo:aq.Fn}:Xe K S lo↔U1 L lo:=by
 constructor
 ·rintro⟨x,h2,hl,rfl,hh⟩;exact⟨(cr hK hl).1 h2,by rw[<-h.count x hl h2,hh]⟩
 rintro⟨hv,hc⟩;obtain⟨x,h2,hl,e,hh⟩:=h.find hK hv zO;exact⟨x,h2,hl,e,by omega⟩
theorem cI.u2(h:cI K S L)(hK:bP kp K S ord ah tr C){lo hi:aq.Fn}:CU2 K S lo hi↔U2 L lo hi:=by
 constructor
 ·rintro⟨x,a,h2,hl,ha,rfl,hh⟩;have:=h.count x hl h2;have:=ha.le;exact⟨(cr hK hl).1 h2,by omega,a,ha,by omega⟩
 rintro⟨hv,hc,a,ha,hh⟩;obtain⟨x,h2,hl,e,hx⟩:=h.find hK hv zO;exact⟨x,a,h2,hl,by rw[e];exact ha,e,by omega⟩
theorem cI.u3(h:cI K S L)(hK:bP kp K S ord ah tr C){lo hi f:aq.Fn}:CU3 K S lo hi f↔U3 L lo hi f:=by
 constructor
 ·rintro⟨x,a,b,h2,hl,ha,hb,rfl,hh⟩;have:=h.count x hl h2;have:=ha.le;have:=hb.le;exact⟨(cr hK hl).1 h2,by omega,a,b,ha,hb,by omega⟩
 rintro⟨hv,hc,a,b,ha,hb,hh⟩;obtain⟨x,h2,hl,e,hx⟩:=h.find hK hv zO;exact⟨x,a,b,h2,hl,by rw[e];exact ha,by rw[e];exact hb,e,by omega⟩
theorem tX.to(h:cI K S L)(hK:bP kp K S ord ah tr C){q:Bool}{mask r:Nat}{w:zV}(hr:live K.N r)(hD:tX kp K S ord ah tr q mask r w C'):
  (∃x K' S',w=.tuple #[u32 x,iv 0]/\bP kp K' S' ord ah [] C'/\fW K S K' S' (nH q (bitsOf mask K.n) (S r)) x/\pU K.n K.cap L q mask (S r) ord 0)\/
  (∃(e:Nat) (K':Kd) (S':Nat->aq.Fn) (cu:zL),w=.tuple #[u32 0,iv (e:Int)]/\(e=8\/e=9)/\bP kp K' S' ord ah cu C'/\(cu=[]\/cu=tr)/\Kept K S K' S'/\pU K.n K.cap L q mask (S r) ord e):=by
 rcases hD with⟨x,K',S',e1,h1,h2,h3,h4⟩|⟨e1,⟨K',S',cu,h1,h2,h3⟩,i,hi,hb,hf,hd⟩|⟨e1,⟨K',S',cu,h1,h2,h3⟩,h4⟩
 ·exact .inl ⟨x,K',S',e1,h1,h2,.inl ⟨rfl,λhz=>λhF=>h3 hz ((h.X2 hK hr).2 hF),(h.SJ hK).1 h4⟩⟩
 ·exact .inr ⟨9,K',S',cu,e1,.inr rfl,h1,h2,h3,.inr (.inl ⟨rfl,i,hi,hb,λhF=>hf (h.adw.2 hF),(h.SJ hK).1 hd⟩)⟩
 refine .inr ⟨8,K',S',cu,e1,.inl rfl,h1,h2,h3,.inr (.inr ⟨rfl,?_⟩)⟩;rcases h4 with⟨hz,h4⟩|⟨i,hi,hb,hF,hd⟩
 ·exact .inl ⟨hz,(h.X2 hK hr).1 h4⟩
 exact .inr ⟨i,hi,hb,(h.X1 hK).1 hF,(h.SJ hK).1 hd⟩
theorem Lu.to(h:cI K S L)(hK:bP kp K S ord ah tr C){lo hi f:aq.Fn}{w:zV}(hD:Lu kp K S ord ah tr lo hi f w C'):
  (∃x K' S',w=.tuple #[u32 x,iv 0]/\bP kp K' S' ord ah [] C'/\fW K S K' S' f x/\wE K.n K.cap L lo hi f ord 0)\/
  (∃(e:Nat) (K':Kd) (S':Nat->aq.Fn) (cu:zL),w=.tuple #[u32 0,iv (e:Int)]/\(e=8\/e=9)/\bP kp K' S' ord ah cu C'/\(cu=[]\/cu=tr)/\Kept K S K' S'/\wE K.n K.cap L lo hi f ord e):=by
 have a1:Uk K S ord lo/\¬Xe K S lo↔F1 K.n K.cap L ord lo/\¬U1 L lo:=and_congr h.f1 (xeH (h.u1 hK));have a2:Yg K S ord lo hi/\¬CU2 K S lo hi↔F2 K.n K.cap L ord lo hi/\¬U2 L lo hi:=and_congr h.f2 (xeH (h.u2 hK));have a3:CF3 K S ord lo hi f/\¬CU3 K S lo hi f↔F3 K.n K.cap L ord lo hi f/\¬U3 L lo hi f:=and_congr h.f3 (xeH (h.u3 hK));rcases hD with⟨x,K',S',e1,h1,h2,h3,h4,h5⟩|⟨e1,⟨K',S',cu,h1,h2,h3⟩,h4⟩|⟨e1,⟨K',S',cu,h1,h2,h3⟩,h4⟩
 ·exact .inl ⟨x,K',S',e1,h1,h2,.inl ⟨rfl,a1.1 h3,a2.1 h4,a3.1 h5⟩⟩
 ·refine .inr ⟨9,K',S',cu,e1,.inr rfl,h1,h2,h3,.inr (.inl ⟨rfl,?_⟩)⟩;rcases h4 with h4|⟨b1,h4⟩|⟨b1,b2,h4⟩
  ·exact .inl λhF=>h4 (h.f1.2 hF)
  ·exact .inr (.inl ⟨a1.1 b1,λhF=>h4 (h.f2.2 hF)⟩)
  exact .inr (.inr ⟨a1.1 b1,a2.1 b2,λhF=>h4 (h.f3.2 hF)⟩)
 refine .inr ⟨8,K',S',cu,e1,.inl rfl,h1,h2,h3,.inr (.inr ⟨rfl,?_⟩)⟩;rcases h4 with h4|⟨b1,h4⟩|⟨b1,b2,h4⟩
 ·exact .inl ((h.u1 hK).1 h4)
 ·exact .inr (.inl ⟨a1.1 b1,(h.u2 hK).1 h4⟩)
 exact .inr (.inr ⟨a1.1 b1,a2.1 b2,(h.u3 hK).1 h4⟩)
end
section
def dK(n:Nat)(F:Int->aq.Fn)(x:eB):aq.Fn:=match x.op with
 |1=>λy=>y.testBit x.a.toNat
 |2=>λ_=>decide (x.a=1)
 |3=>λy=> !F x.a y
 |4=>λy=>F x.a y&&F x.b y
 |5=>λy=>F x.a y||F x.b y
 |6=>λy=>F x.a y^^F x.b y
 |7=>λy=>if F x.a y then F x.b y else F x.c y
 |8=>λy=>F x.a (ak.aB y x.b.toNat (decide (x.c=1)))
 |9=>nH true (bitsOf x.x n) (F x.a)
 |10=>nH false (bitsOf x.x n) (F x.a)
 |_=>λy=>if F x.c y then F x.a (ak.aB y x.b.toNat true)else F x.a (ak.aB y x.b.toNat false)
def nv(n cap:Nat)(L:List aq.Fn)(F:Int->aq.Fn)(x:eB)(ord:zL)(e:Nat):Prop:=
 if x.op=9 then pU n cap L true x.x (F x.a) ord e else if x.op=10 then pU n cap L false x.x (F x.a) ord e else
 if x.op=11 then wE n cap L (λy=>F x.a (ak.aB y x.b.toNat false)) (λy=>F x.a (ak.aB y x.b.toNat true)) (dK n F x) ord e else Ti n cap L (dK n F x) ord e
def fL(S:Nat->aq.Fn)(hs:List (Int×Nat)):List aq.Fn:=hs.map λp=>S p.2
def bY(S:Nat->aq.Fn)(hs:List (Int×Nat))(a:Int):aq.Fn:=match aK hs a with|some r=>S r|none=>λ_=>false
variable {sp kp mb nx:Nat} {c:Cf} {K K':Kd} {S S':Nat->aq.Fn} {ord ah bR tr cu o:zL} {hs:List (Int×Nat)} {es:Array MapEntry} {ck:Nat} {C C':Hp}
theorem WD(h:∀p∈hs,S' p.2=S p.2):fL S' hs=fL S hs:=xbn h
theorem bB{a:Int}{r:Nat}(h:aK hs a=some r):bY S hs a=S r:=by unfold bY;rw[h]
theorem gX.find(h:gX kp nx c K S ord ah tr hs es ck C){a:Int}{r:Nat}(hm:aK hs a=some r):(a,r)∈hs:=(dR h.dJ.nd).1 hm
theorem Ng(fA:(hs.map Prod.fst).Nodup)(h:∀p∈hs,S' p.2=S p.2):bY S' hs=bY S hs:=funext λa=>by
 unfold bY;cases hm:aK hs a with
 |none=>rfl
 |some r=>exact h _ ((dR fA).1 hm)
theorem gX.same(h:gX kp nx c K S ord ah tr hs es ck C){a b:Nat}(ha:aq.live K.N a)(hb:aq.live K.N b):S a=S b↔a=b:=
 ⟨λe=>h.ks.ok.wf.same h.ks.ok.lv h.ks.ok.mid.int ha hb λx=>congrFun e x,λe=>by rw[e]⟩
theorem gX.held(h:gX kp nx c K S ord ah tr hs es ck C):K.held S=HF (fL S hs):=funext λg=>propext (by
 constructor
 ·rintro⟨s,hs0,rfl⟩;have h0:K.hold s≠0:=hs0;rw[h.hold]at h0;by_cases h2:2<=s
  ·rw[xad h2]at h0;obtain⟨p,hp,e⟩:=xan.1 (xbL.1 (xek h0));subst e;exact⟨xan.2 ⟨p,hp,rfl⟩,(cr h.ks (h.live p hp)).1 h2⟩
  rw[xac h2]at h0;exact absurd rfl h0
 rintro⟨hm,hv⟩;obtain⟨p,hp,rfl⟩:=xan.1 hm;have h2:=(cr h.ks (h.live p hp)).2 hv;refine⟨p.2,?_,rfl⟩;show K.hold p.2≠0;rw[h.hold,xad h2];exact xds (xbL.2 (xaT hp)))
theorem gX.count(h:gX kp nx c K S ord ah tr hs es ck C){r:Nat}(hr:aq.live K.N r)(h2:2<=r):K.hold r=k7 (fL S hs) (S r):=by
 rw[h.hold,xad h2];unfold k7 fL;rw[xeI,List.count,xeI];refine List.countP_congr λp hp=>?_;have:=h.same (h.live p hp) hr;simp only[Function.comp_apply,xcR,xaK];exact this.symm
theorem gX.full(h:gX kp nx c K S ord ah tr hs es ck C){r:Nat}(hr:K.hold r=65535)(h2:2<=r):mu (fL S hs) (S r):=by
 have hl:aq.live K.N r:=.inr (h.ks.ok.mid.held r zO);exact⟨(cr h.ks hl).1 h2,by rw[<-h.count hl h2,hr];exact xai _⟩
theorem gX.done(h:gX kp nx c K S ord ah tr hs es ck C){f:aq.Fn}{w:zV}(hD:j9 kp K S ord ah tr f w C'):nF kp K S ord ah tr f (Ti K.n K.cap (fL S hs) f ord) w C':=by
 rcases hD with(⟨x,K',S',rfl,cX,hg⟩|⟨rfl,⟨K',S',cu,cX,eU,hk⟩,hf⟩)|⟨rfl,⟨K',S',cu,cX,eU,hk⟩,r,h2,hr,rfl⟩
 ·refine .inl ⟨x,K',S',rfl,cX,hg,.inl ⟨rfl,by rw[<-h.held];exact hg.DI h.ks cX,?_⟩⟩;rintro⟨hv,hc⟩;have FK:2<=x:=(cr cX hg.live).2 (by rw[hg.is];exact hv);have hle:=cX.dN x;rw[hg.hold,xad ⟨rfl,FK⟩]at hle;obtain⟨p,hp,e⟩:∃p∈hs,S p.2=f:=by
   have:0<k7 (fL S hs) f:=by omega
   obtain⟨g,hg1,T4⟩:=List.countP_pos_iff.1 this;obtain⟨p,hp,rfl⟩:=xan.1 hg1;exact⟨p,hp,by simpa using T4⟩
  have hpx:p.2=x:=cX.ok.wf.same cX.ok.lv cX.ok.mid.int (bA hg.N (h.live p hp)) hg.live λy=>by rw[hg.fn _ (h.live p hp),e,hg.is]
  subst hpx;have:=h.count (h.live p hp) FK;rw[e]at this;omega
 ·exact .inr ⟨9,K',S',cu,rfl,.inr rfl,cX,eU,hk,.inr (.inl ⟨rfl,by rw[<-h.held];exact hf⟩)⟩
 exact .inr ⟨8,K',S',cu,rfl,.inl rfl,cX,eU,hk,.inr (.inr ⟨rfl,h.full hr h2⟩)⟩
theorem gX.by(h:gX kp nx c K S ord ah tr hs es ck C):cI K S (fL S hs):=⟨h.held,λr hr h2=>h.count hr h2,λg hg=>by
 obtain⟨p,hp,rfl⟩:=xan.1 hg;exact⟨p.2,h.live p hp,rfl⟩⟩
theorem gX.each(h:gX kp nx c K S ord ah tr hs es ck C){q:Bool}{mask r:Nat}{w:zV}(hr:aq.live K.N r)(hD:tX kp K S ord ah tr q mask r w C'):nF kp K S ord ah tr (nH q (bitsOf mask K.n) (S r)) (pU K.n K.cap (fL S hs) q mask (S r) ord) w C':=by
 rcases hD.to h.by h.ks hr with⟨x,K',S',rfl,cX,hg,hT⟩|⟨e,K',S',cu,rfl,he,cX,eU,hk,hT⟩
 ·exact .inl ⟨x,K',S',rfl,cX,hg,hT⟩
 exact .inr ⟨e,K',S',cu,rfl,he,cX,eU,hk,hT⟩
theorem gX.comp(h:gX kp nx c K S ord ah tr hs es ck C){lo hi f:aq.Fn}{w:zV}(hD:Lu kp K S ord ah tr lo hi f w C'):nF kp K S ord ah tr f (wE K.n K.cap (fL S hs) lo hi f ord) w C':=by
 rcases hD.to h.by h.ks with⟨x,K',S',rfl,cX,hg,hT⟩|⟨e,K',S',cu,rfl,he,cX,eU,hk,hT⟩
 ·exact .inl ⟨x,K',S',rfl,cX,hg,hT⟩
 exact .inr ⟨e,K',S',cu,rfl,he,cX,eU,hk,hT⟩
end
section
variable {sp kp mb nx:Nat} {c:Cf} {K:Kd} {S:Nat->aq.Fn} {ord ah tr:zL} {hs:List (Int×Nat)} {es:Array MapEntry} {ck:Nat} {C:Hp} {x:eB}
theorem NS(hK:bP kp K S ord ah tr C){a b:Nat}(ha:live K.N a)(hb:live K.N b):Fc zQ 66 #[ptr kp,u32 a,u32 b] C (j9 kp K S ord ah tr (λy=>S a y&&S b y)):=by
 refine aF λg=>Ov (aa.fq (jE hK (op:=8) zD ha hb) ?_);intro w H hD;rw[show(λy=>Xp 8 (S a y) (S b y))=λy=>S a y&&S b y from funext λy=>by cases S a y<;>cases S b y<;>rfl]at hD;obtain⟨x,e,rfl⟩:=hD.two;exact Ext.two (aN.here hD)
theorem To(hK:bP kp K S ord ah tr C){a b:Nat}(ha:live K.N a)(hb:live K.N b):Fc zQ 67 #[ptr kp,u32 a,u32 b] C (j9 kp K S ord ah tr (λy=>S a y||S b y)):=by
 refine aF λg=>Ou (aa.fq (jE hK (op:=14) zD ha hb) ?_);intro w H hD;rw[show(λy=>Xp 14 (S a y) (S b y))=λy=>S a y||S b y from funext λy=>by cases S a y<;>cases S b y<;>rfl]at hD;obtain⟨x,e,rfl⟩:=hD.two;exact Ext.two (aN.here hD)
theorem NJ(hK:bP kp K S ord ah tr C){a b:Nat}(ha:live K.N a)(hb:live K.N b):Fc zQ 68 #[ptr kp,u32 a,u32 b] C (j9 kp K S ord ah tr (λy=>S a y^^S b y)):=by
 refine aF λg=>Ot (aa.fq (jE hK (op:=6) zD ha hb) ?_);intro w H hD;rw[show(λy=>Xp 6 (S a y) (S b y))=λy=>S a y^^S b y from funext λy=>by cases S a y<;>cases S b y<;>rfl]at hD;obtain⟨x,e,rfl⟩:=hD.two;exact Ext.two (aN.here hD)
theorem Ef(hK:bP kp K S ord ah tr C)(b:Bool):Fc zQ 64 #[ptr kp,.bool b] C (j9 kp K S ord ah tr (λ_=>b)):=by
 have hi:=hK.ok.mid.int;refine aF λg=>Ox (ae.aI (Br.no ?_));intro J2 h2;have go:∀r:Nat,r<2->(S r=λ_=>b)->J2 [u32 r] C:=λr hr hf=>by
  refine h2 _ _ λ_=>?_;refine aa.fq (mP hK (r:=r) (.inl hr) (λh=>by omega)) ?_;rintro v H ⟨rfl,K',cX,hm⟩;exact aN.here (.inl (.inl ⟨r,K',S,rfl,cX,⟨hm.n,hm.cap,λs d h=>by rw[hm.N];exact h,λ_ _=>rfl,.inl hr,hf,λs=>by rw[hm.hold];split<;>rfl⟩⟩))
 cases b
 ·exact Br.no (JE.mk (go 0 zD (funext hi.zero)))
 exact Br.yes (JE.mk (go 1 zD (funext hi.one)))
theorem dh{n w:Nat}(h:kM n hs w x=0):(Gu w x=false/\NH w x=false)/\(Fk n w x=false/\Fj n w x=false/\MA n w x=false)/\(wA hs w x=false/\wz hs w x=false/\zl hs w x=false):=by
 unfold kM at h;split at h
 ·cases h
 split at h
 ·cases h
 split at h
 ·cases h
 rename_i h1 h2 h3;simp only[xes,xaF]at h1 h2 h3;exact⟨h1,⟨h2.1.1,h2.1.2,h2.2⟩,⟨h3.1.1,h3.1.2,h3.2⟩⟩
theorem dZ{m:List (Int×Nat)}{a:Int}{p:Bool}(h:(p&& !(aK m a).isSome)=false)(hp:p=true):∃r,aK m a=some r:=by
 subst hp;cases hm:aK m a with
 |none=>rw[hm]at h;cases h
 |some r=>exact⟨r,rfl⟩
theorem EL{n:Nat}{a:Int}{p:Bool}(h:(p&& !decide (0<=a/\a<n))=false)(hp:p=true):∃v:Nat,a=v/\v<n:=by
 subst hp;have:0<=a/\a<n:=by simpa using h
 exact⟨a.toNat,by omega,by omega⟩
theorem kL{n cap:Nat}{L:List aq.Fn}{F:Int->aq.Fn}(h:x.op<9):nv n cap L F x ord=Ti n cap L (dK n F x) ord:=funext λe=>by
 unfold nv;rw[xac zO,xac zO,xac zO]
theorem abw{n cap:Nat}{L:List aq.Fn}{F:Int->aq.Fn}(h:x.op=9):nv n cap L F x ord=pU n cap L true x.x (F x.a) ord:=funext λe=>by
 unfold nv;rw[xad h]
theorem YK{n cap:Nat}{L:List aq.Fn}{F:Int->aq.Fn}(h:x.op=10):nv n cap L F x ord=pU n cap L false x.x (F x.a) ord:=funext λe=>by
 unfold nv;rw[xac zO,xad h]
theorem YJ{n cap:Nat}{L:List aq.Fn}{F:Int->aq.Fn}(h:x.op=11):nv n cap L F x ord=wE n cap L (λy=>F x.a (ak.aB y x.b.toNat false)) (λy=>F x.a (ak.aB y x.b.toNat true)) (dK n F x) ord:=funext λe=>by
 unfold nv;rw[xac zO,xac zO,xad h]
def jk(f:Nat)(op w:Nat):Prop:=∀{sp kp mb nx:Nat} {c:Cf} {K:Kd} {S:Nat->aq.Fn} {ord ah tr:zL} {hs:List (Int×Nat)} {es:Array MapEntry} {ck:Nat} {C:Hp} {x:eB},gX kp nx c K S ord ah tr hs es ck C->x.op=op->x.x<18446744073709551616->kM c.n hs w x=0->
 Fc zQ f #[ptr sp,x.v] (gS sp c kp mb nx es ck C) (λv H=>∃C2,H=gS sp c kp mb nx es ck C2/\nF kp K S ord ah tr (dK c.n (bY S hs) x) (nv c.n c.cap (fL S hs) (bY S hs) x ord) v C2)
theorem qV:jk 32 1 8:=by
 intro sp kp mb nx c K S ord ah tr hs es ck C x h hop TX hl;obtain⟨⟨T9,T8⟩,⟨Rs,Pc,Pb⟩,A3,KD,Pg⟩:=dh hl;obtain⟨v,hv,FM⟩:=EL Rs zD;refine aF λg=>OU λb1 _=>?_;refine DR.of (R:=[(b1,.cells (Value.cells x.v) 35 zZ),kH sp c kp mb nx,(mb,.map es ck)]) (.cons (.cons (.cons λ_ _ h=>h.bt))) (Ld.n (v:=ptr kp) (Ld.f (v:=i64 x.a) ?_));rw[hv];intro F;refine aa.fq (NK h.ks (v:=v) (by rw[h.n];exact FM)) ?_;rintro w H hD;have hQ:nF kp K S ord ah tr (dK c.n (bY S hs) x) (nv c.n c.cap (fL S hs) (bY S hs) x ord) w H:=by
  have hq:=h.done hD;rw[h.n,h.cap]at hq;rw[kL zO];have e:dK c.n (bY S hs) x=λy=>y.testBit x.a.toNat:=by simp only[dK,hop]
  rw[e];simp only[hv,xbd];exact hq
 obtain⟨y,e,rfl⟩:=hQ.two;refine⟨.cons (.cons (.cons λ_ _ h=>h.bt)),?_⟩;exact Ext.two (aN.mk .tail ⟨_,rfl,hQ⟩)
theorem AB:jk 33 2 32:=by
 intro sp kp mb nx c K S ord ah tr hs es ck C x h hop TX hl;obtain⟨⟨T9,T8⟩,⟨Rs,Pc,Pb⟩,A3,KD,Pg⟩:=dh hl;refine aF λg=>OT λb1 _=>?_;refine DR.of (R:=[(b1,.cells (Value.cells x.v) 35 zZ),kH sp c kp mb nx,(mb,.map es ck)]) (.cons (.cons (.cons λ_ _ h=>h.bt))) (Ld.n (v:=ptr kp) (Ld.f (v:=i64 x.a) (ae.ia λF=>(aa.fq (Ef h.ks (decide (x.a=1))) ?_))));rintro w H hD;have hQ:nF kp K S ord ah tr (dK c.n (bY S hs) x) (nv c.n c.cap (fL S hs) (bY S hs) x ord) w H:=by
  have hq:=h.done hD;rw[h.n,h.cap]at hq;rw[kL zO];have e:dK c.n (bY S hs) x=λ_=>decide (x.a=1):=by simp only[dK,hop]
  rw[e];exact hq
 obtain⟨y,e,rfl⟩:=hQ.two;refine⟨.cons (.cons (.cons λ_ _ h=>h.bt)),?_⟩;exact Ext.two (aN.mk .tail ⟨_,rfl,hQ⟩)
theorem UN:jk 34 3 1:=by
 intro sp kp mb nx c K S ord ah tr hs es ck C x h hop TX hl;obtain⟨⟨T9,T8⟩,⟨Rs,Pc,Pb⟩,A3,KD,Pg⟩:=dh hl;obtain⟨ra,ha⟩:=dZ A3 zD;have la:=h.live _ (h.find ha);refine aF λg=>OS λb1 _=>?_;refine DR.of (R:=[(b1,.cells (Value.cells x.v) 35 zZ),kH sp c kp mb nx,(mb,.map es ck)]) (.cons (.cons (.cons λ_ _ h=>h.bt))) (Ld.n (v:=ptr kp) (Ld.n (v:=.map (some mb)) (Ld.f (v:=i64 x.a) (h.dJ.hit (k:=x.a) (cf _) (b:=mb) (by exact .tail _ (.tail _ (.head _))) ha λv e=>?_))));subst e;intro F;refine aa.fq (NO h.ks la) ?_;rintro w H hD;have hQ:nF kp K S ord ah tr (dK c.n (bY S hs) x) (nv c.n c.cap (fL S hs) (bY S hs) x ord) w H:=by
  have hq:=h.done hD;rw[h.n,h.cap]at hq;rw[kL zO];have e:dK c.n (bY S hs) x=λy=> !bY S hs x.a y:=by simp only[dK,hop]
  rw[e];simp only[bB ha];exact hq
 obtain⟨y,e,rfl⟩:=hQ.two;refine⟨.cons (.cons (.cons λ_ _ h=>h.bt)),?_⟩;exact Ext.two (aN.mk .tail ⟨_,rfl,hQ⟩)
theorem JZ:jk 35 4 3:=by
 intro sp kp mb nx c K S ord ah tr hs es ck C x h hop TX hl;obtain⟨⟨T9,T8⟩,⟨Rs,Pc,Pb⟩,A3,KD,Pg⟩:=dh hl;obtain⟨ra,ha⟩:=dZ A3 zD;have la:=h.live _ (h.find ha);obtain⟨rb,hb⟩:=dZ KD zD;have lb:=h.live _ (h.find hb);refine aF λg=>OR λb1 _=>?_;refine DR.of (R:=[(b1,.cells (Value.cells x.v) 35 zZ),kH sp c kp mb nx,(mb,.map es ck)]) (.cons (.cons (.cons λ_ _ h=>h.bt))) (Ld.n (v:=ptr kp) (Ld.n (v:=.map (some mb)) (Ld.f (v:=i64 x.a) (h.dJ.hit (k:=x.a) (cf _) (b:=mb) (by exact .tail _ (.tail _ (.head _))) ha λv e=>?_))));subst e;refine Ld.n (v:=.map (some mb)) (Ld.f (v:=i64 x.b) (h.dJ.hit (k:=x.b) (cf _) (b:=mb) (by exact .tail _ (.tail _ (.head _))) hb λv e=>?_));subst e;intro F;refine aa.fq (NS h.ks la lb) ?_;rintro w H hD;have hQ:nF kp K S ord ah tr (dK c.n (bY S hs) x) (nv c.n c.cap (fL S hs) (bY S hs) x ord) w H:=by
  have hq:=h.done hD;rw[h.n,h.cap]at hq;rw[kL zO];have e:dK c.n (bY S hs) x=λy=>bY S hs x.a y&&bY S hs x.b y:=by simp only[dK,hop]
  rw[e];simp only[bB ha,bB hb];exact hq
 obtain⟨y,e,rfl⟩:=hQ.two;refine⟨.cons (.cons (.cons λ_ _ h=>h.bt)),?_⟩;exact Ext.two (aN.mk .tail ⟨_,rfl,hQ⟩)
theorem Yv:jk 36 5 3:=by
 intro sp kp mb nx c K S ord ah tr hs es ck C x h hop TX hl;obtain⟨⟨T9,T8⟩,⟨Rs,Pc,Pb⟩,A3,KD,Pg⟩:=dh hl;obtain⟨ra,ha⟩:=dZ A3 zD;have la:=h.live _ (h.find ha);obtain⟨rb,hb⟩:=dZ KD zD;have lb:=h.live _ (h.find hb);refine aF λg=>OQ λb1 _=>?_;refine DR.of (R:=[(b1,.cells (Value.cells x.v) 35 zZ),kH sp c kp mb nx,(mb,.map es ck)]) (.cons (.cons (.cons λ_ _ h=>h.bt))) (Ld.n (v:=ptr kp) (Ld.n (v:=.map (some mb)) (Ld.f (v:=i64 x.a) (h.dJ.hit (k:=x.a) (cf _) (b:=mb) (by exact .tail _ (.tail _ (.head _))) ha λv e=>?_))));subst e;refine Ld.n (v:=.map (some mb)) (Ld.f (v:=i64 x.b) (h.dJ.hit (k:=x.b) (cf _) (b:=mb) (by exact .tail _ (.tail _ (.head _))) hb λv e=>?_));subst e;intro F;refine aa.fq (To h.ks la lb) ?_;rintro w H hD;have hQ:nF kp K S ord ah tr (dK c.n (bY S hs) x) (nv c.n c.cap (fL S hs) (bY S hs) x ord) w H:=by
  have hq:=h.done hD;rw[h.n,h.cap]at hq;rw[kL zO];have e:dK c.n (bY S hs) x=λy=>bY S hs x.a y||bY S hs x.b y:=by simp only[dK,hop]
  rw[e];simp only[bB ha,bB hb];exact hq
 obtain⟨y,e,rfl⟩:=hQ.two;refine⟨.cons (.cons (.cons λ_ _ h=>h.bt)),?_⟩;exact Ext.two (aN.mk .tail ⟨_,rfl,hQ⟩)
theorem UA:jk 37 6 3:=by
 intro sp kp mb nx c K S ord ah tr hs es ck C x h hop TX hl;obtain⟨⟨T9,T8⟩,⟨Rs,Pc,Pb⟩,A3,KD,Pg⟩:=dh hl;obtain⟨ra,ha⟩:=dZ A3 zD;have la:=h.live _ (h.find ha);obtain⟨rb,hb⟩:=dZ KD zD;have lb:=h.live _ (h.find hb);refine aF λg=>OP λb1 _=>?_;refine DR.of (R:=[(b1,.cells (Value.cells x.v) 35 zZ),kH sp c kp mb nx,(mb,.map es ck)]) (.cons (.cons (.cons λ_ _ h=>h.bt))) (Ld.n (v:=ptr kp) (Ld.n (v:=.map (some mb)) (Ld.f (v:=i64 x.a) (h.dJ.hit (k:=x.a) (cf _) (b:=mb) (by exact .tail _ (.tail _ (.head _))) ha λv e=>?_))));subst e;refine Ld.n (v:=.map (some mb)) (Ld.f (v:=i64 x.b) (h.dJ.hit (k:=x.b) (cf _) (b:=mb) (by exact .tail _ (.tail _ (.head _))) hb λv e=>?_));subst e;intro F;refine aa.fq (NJ h.ks la lb) ?_;rintro w H hD;have hQ:nF kp K S ord ah tr (dK c.n (bY S hs) x) (nv c.n c.cap (fL S hs) (bY S hs) x ord) w H:=by
  have hq:=h.done hD;rw[h.n,h.cap]at hq;rw[kL zO];have e:dK c.n (bY S hs) x=λy=>bY S hs x.a y^^bY S hs x.b y:=by simp only[dK,hop]
  rw[e];simp only[bB ha,bB hb];exact hq
 obtain⟨y,e,rfl⟩:=hQ.two;refine⟨.cons (.cons (.cons λ_ _ h=>h.bt)),?_⟩;exact Ext.two (aN.mk .tail ⟨_,rfl,hQ⟩)
theorem UP:jk 38 7 7:=by
 intro sp kp mb nx c K S ord ah tr hs es ck C x h hop TX hl;obtain⟨⟨T9,T8⟩,⟨Rs,Pc,Pb⟩,A3,KD,Pg⟩:=dh hl;obtain⟨ra,ha⟩:=dZ A3 zD;have la:=h.live _ (h.find ha);obtain⟨rb,hb⟩:=dZ KD zD;have lb:=h.live _ (h.find hb);obtain⟨rc,hc⟩:=dZ Pg zD;have lc:=h.live _ (h.find hc);refine aF λg=>OO λb1 _=>?_;refine DR.of (R:=[(b1,.cells (Value.cells x.v) 35 zZ),kH sp c kp mb nx,(mb,.map es ck)]) (.cons (.cons (.cons λ_ _ h=>h.bt))) (Ld.n (v:=ptr kp) (Ld.n (v:=.map (some mb)) (Ld.f (v:=i64 x.a) (h.dJ.hit (k:=x.a) (cf _) (b:=mb) (by exact .tail _ (.tail _ (.head _))) ha λv e=>?_))));subst e;refine Ld.n (v:=.map (some mb)) (Ld.f (v:=i64 x.b) (h.dJ.hit (k:=x.b) (cf _) (b:=mb) (by exact .tail _ (.tail _ (.head _))) hb λv e=>?_));subst e;refine Ld.n (v:=.map (some mb)) (Ld.f (v:=i64 x.c) (h.dJ.hit (k:=x.c) (cf _) (b:=mb) (by exact .tail _ (.tail _ (.head _))) hc λv e=>?_));subst e;intro F;refine aa.fq (zG h.ks la lb lc) ?_;rintro w H hD;have hQ:nF kp K S ord ah tr (dK c.n (bY S hs) x) (nv c.n c.cap (fL S hs) (bY S hs) x ord) w H:=by
  have hq:=h.done hD;rw[h.n,h.cap]at hq;rw[kL zO];have e:dK c.n (bY S hs) x=λy=>if bY S hs x.a y then bY S hs x.b y else bY S hs x.c y:=by simp only[dK,hop]
  rw[e];simp only[bB ha,bB hb,bB hc];exact hq
 obtain⟨y,e,rfl⟩:=hQ.two;refine⟨.cons (.cons (.cons λ_ _ h=>h.bt)),?_⟩;exact Ext.two (aN.mk .tail ⟨_,rfl,hQ⟩)
theorem Av:jk 39 8 81:=by
 intro sp kp mb nx c K S ord ah tr hs es ck C x h hop TX hl;obtain⟨⟨T9,T8⟩,⟨Rs,Pc,Pb⟩,A3,KD,Pg⟩:=dh hl;obtain⟨ra,ha⟩:=dZ A3 zD;have la:=h.live _ (h.find ha);obtain⟨v,hv,FM⟩:=EL Pc zD;refine aF λg=>ON λb1 _=>?_;refine DR.of (R:=[(b1,.cells (Value.cells x.v) 35 zZ),kH sp c kp mb nx,(mb,.map es ck)]) (.cons (.cons (.cons λ_ _ h=>h.bt))) (Ld.n (v:=ptr kp) (Ld.n (v:=.map (some mb)) (Ld.f (v:=i64 x.a) (h.dJ.hit (k:=x.a) (cf _) (b:=mb) (by exact .tail _ (.tail _ (.head _))) ha λv e=>?_))));subst e;refine Ld.f (v:=i64 x.b) (Ld.f (v:=i64 x.c) (ae.ia ?_));rw[hv];intro F;refine aa.fq (vi h.ks la (v:=v) (by rw[h.n];exact FM)) ?_;rintro w H hD;have hQ:nF kp K S ord ah tr (dK c.n (bY S hs) x) (nv c.n c.cap (fL S hs) (bY S hs) x ord) w H:=by
  have hq:=h.done hD;rw[h.n,h.cap]at hq;rw[kL zO];have e:dK c.n (bY S hs) x=λy=>bY S hs x.a (ak.aB y x.b.toNat (decide (x.c=1))):=by simp only[dK,hop]
  rw[e];simp only[bB ha,hv,xbd];exact hq
 obtain⟨y,e,rfl⟩:=hQ.two;refine⟨.cons (.cons (.cons λ_ _ h=>h.bt)),?_⟩;exact Ext.two (aN.mk .tail ⟨_,rfl,hQ⟩)
theorem E3:jk 40 9 129:=by
 intro sp kp mb nx c K S ord ah tr hs es ck C x h hop TX hl;obtain⟨⟨T9,T8⟩,⟨Rs,Pc,Pb⟩,A3,KD,Pg⟩:=dh hl;obtain⟨ra,ha⟩:=dZ A3 zD;have la:=h.live _ (h.find ha);have hm:x.x<2^K.n:=by
  rw[h.n];have:x.x>>>c.n=0:=by simpa[MA]using Pb
  rw[xa0]at this;exact(Nat.div_eq_zero_iff.1 this).resolve_left (xds (xbv _))
 refine aF λg=>OM λb1 _=>?_;refine DR.of (R:=[(b1,.cells (Value.cells x.v) 35 zZ),kH sp c kp mb nx,(mb,.map es ck)]) (.cons (.cons (.cons λ_ _ h=>h.bt))) (Ld.n (v:=ptr kp) (Ld.n (v:=.map (some mb)) (Ld.f (v:=i64 x.a) (h.dJ.hit (k:=x.a) (cf _) (b:=mb) (by exact .tail _ (.tail _ (.head _))) ha λv e=>?_))));subst e;refine Ld.f (v:=u64 x.x) λF=>?_;refine aa.fq (SB h.ks la hm) ?_;rintro w H hD;have hQ:nF kp K S ord ah tr (dK c.n (bY S hs) x) (nv c.n c.cap (fL S hs) (bY S hs) x ord) w H:=by
  have hq:=h.each la hD;rw[h.n,h.cap]at hq;rw[abw hop];have e:dK c.n (bY S hs) x=nH true (bitsOf x.x c.n) (bY S hs x.a):=by simp only[dK,hop]
  rw[e,bB ha];exact hq
 obtain⟨y,e,rfl⟩:=hQ.two;refine⟨.cons (.cons (.cons λ_ _ h=>h.bt)),?_⟩;exact Ext.two (aN.mk .tail ⟨_,rfl,hQ⟩)
theorem E0:jk 41 10 129:=by
 intro sp kp mb nx c K S ord ah tr hs es ck C x h hop TX hl;obtain⟨⟨T9,T8⟩,⟨Rs,Pc,Pb⟩,A3,KD,Pg⟩:=dh hl;obtain⟨ra,ha⟩:=dZ A3 zD;have la:=h.live _ (h.find ha);have hm:x.x<2^K.n:=by
  rw[h.n];have:x.x>>>c.n=0:=by simpa[MA]using Pb
  rw[xa0]at this;exact(Nat.div_eq_zero_iff.1 this).resolve_left (xds (xbv _))
 refine aF λg=>OL λb1 _=>?_;refine DR.of (R:=[(b1,.cells (Value.cells x.v) 35 zZ),kH sp c kp mb nx,(mb,.map es ck)]) (.cons (.cons (.cons λ_ _ h=>h.bt))) (Ld.n (v:=ptr kp) (Ld.n (v:=.map (some mb)) (Ld.f (v:=i64 x.a) (h.dJ.hit (k:=x.a) (cf _) (b:=mb) (by exact .tail _ (.tail _ (.head _))) ha λv e=>?_))));subst e;refine Ld.f (v:=u64 x.x) λF=>?_;refine aa.fq (Sw h.ks la hm) ?_;rintro w H hD;have hQ:nF kp K S ord ah tr (dK c.n (bY S hs) x) (nv c.n c.cap (fL S hs) (bY S hs) x ord) w H:=by
  have hq:=h.each la hD;rw[h.n,h.cap]at hq;rw[YK hop];have e:dK c.n (bY S hs) x=nH false (bitsOf x.x c.n) (bY S hs x.a):=by simp only[dK,hop]
  rw[e,bB ha];exact hq
 obtain⟨y,e,rfl⟩:=hQ.two;refine⟨.cons (.cons (.cons λ_ _ h=>h.bt)),?_⟩;exact Ext.two (aN.mk .tail ⟨_,rfl,hQ⟩)
theorem Ce:jk 42 11 21:=by
 intro sp kp mb nx c K S ord ah tr hs es ck C x h hop TX hl;obtain⟨⟨T9,T8⟩,⟨Rs,Pc,Pb⟩,A3,KD,Pg⟩:=dh hl;obtain⟨ra,ha⟩:=dZ A3 zD;have la:=h.live _ (h.find ha);obtain⟨rc,hc⟩:=dZ Pg zD;have lc:=h.live _ (h.find hc);obtain⟨v,hv,FM⟩:=EL Pc zD;refine aF λg=>OK λb1 _=>?_;refine DR.of (R:=[(b1,.cells (Value.cells x.v) 35 zZ),kH sp c kp mb nx,(mb,.map es ck)]) (.cons (.cons (.cons λ_ _ h=>h.bt))) (Ld.n (v:=ptr kp) (Ld.n (v:=.map (some mb)) (Ld.f (v:=i64 x.a) (h.dJ.hit (k:=x.a) (cf _) (b:=mb) (by exact .tail _ (.tail _ (.head _))) ha λv e=>?_))));subst e;refine Ld.f (v:=i64 x.b) ?_;rw[hv];refine Ld.n (v:=.map (some mb)) (Ld.f (v:=i64 x.c) (h.dJ.hit (k:=x.c) (cf _) (b:=mb) (by exact .tail _ (.tail _ (.head _))) hc λv e=>?_));subst e;intro F;refine aa.fq (Z8 h.ks la (v:=v) (by rw[h.n];exact FM) lc) ?_;rintro w H hD;have hQ:nF kp K S ord ah tr (dK c.n (bY S hs) x) (nv c.n c.cap (fL S hs) (bY S hs) x ord) w H:=by
  have hq:=h.comp hD;rw[h.n,h.cap]at hq;rw[YJ hop];have e:dK c.n (bY S hs) x=λy=>if bY S hs x.c y then bY S hs x.a (ak.aB y x.b.toNat true)else bY S hs x.a (ak.aB y x.b.toNat false):=by simp only[dK,hop]
  rw[e];simp only[bB ha,bB hc,hv,xbd];exact hq
 obtain⟨y,e,rfl⟩:=hQ.two;refine⟨.cons (.cons (.cons λ_ _ h=>h.bt)),?_⟩;exact Ext.two (aN.mk .tail ⟨_,rfl,hQ⟩)
end
section
variable {sp kp mb nx:Nat} {c:Cf} {K:Kd} {S:Nat->aq.Fn} {ord ah tr:zL} {hs:List (Int×Nat)} {es:Array MapEntry} {ck:Nat} {C:Hp} {x:eB}
theorem Vt{w f:Nat}(h:gX kp nx c K S ord ah tr hs es ck C)(hw:w<256)(hx:x.x<18446744073709551616)(hl:kM c.n hs w x≠0):
  Rd zQ 22 #[ptr sp,x.v,.agg (Kq (w,f)).toArray] (gS sp c kp mb nx es ck C) (· =eP (kM c.n hs w x) (-1) 0 0):=by
 refine aF λg=>Ag λb1 _ b3 _ b5 _=>?_;refine az.q (r:=x.cells) (Ld.f (v:=.int .u8 (w:Int)) (aa.eq (look_ok h hw hx) (ae.cK (Br.T ?_ hl))));refine aa.eq (cy _ _) (St.p (r:=[i64 (kM c.n hs w x),i64 (-1),u64 0,i64 0]) (bI _ _ _ _) ?_);refine az.q ?_;exact bg.mk (.skip (.skip .tail)) rfl
def m6(op:Nat):Option Nat:=
 if op=23 then some 57 else if op=22 then some 56 else if op=21 then some 55 else if op=20 then some 54 else
 if op=19 then some 53 else if op=18 then some 52 else if op=17 then some 51 else if op=16 then some 50 else
 if op=15 then some 49 else if op=14 then some 48 else if op=13 then some 47 else if op=12 then some 46 else none
theorem NM:Fc zQ 23 #[] [] (λv H=>∃b es ck m,v=.map (some b)/\H=[(b,.map es ck)]/\aE (kI .u8) (λv (p:Nat)=>v=.func (.func p) #[] #[]) es ck m/\∀op:Nat,aK m (op:Int)=m6 op):=by
 refine aF λg=>OZ λb _=>?_;have bK:∀{k:Int} {p:Nat} {es:Array MapEntry} {ck:Nat} {m:List (Int×Nat)} {Q:Hp->Prop},aE (kI .u8) (λv (p:Nat)=>v=.func (.func p) #[] #[]) es ck m->(∀es' bC,aE (kI .u8) (λv (p:Nat)=>v=.func (.func p) #[] #[]) es' bC (dW m k p)->Q [(b,.map es' bC)])->
   aX (.int .u8) [(b,.map es ck)] (.map (some b)) (kI .u8 k) (.func (.func p) #[] #[]) Q:=λ{k p es ck m Q} he hq=>
  aE.bK (cf _) (AV _) he rfl λes' bC he'=>⟨_,.head _,hq es' bC he'⟩
 refine bK (k:=12) aE.empty λ_ _ h=>?_;refine bK (k:=13) h λ_ _ h=>?_;refine bK (k:=14) h λ_ _ h=>?_;refine bK (k:=15) h λ_ _ h=>?_;refine bK (k:=16) h λ_ _ h=>?_;refine bK (k:=17) h λ_ _ h=>?_;refine bK (k:=18) h λ_ _ h=>?_;refine bK (k:=19) h λ_ _ h=>?_;refine bK (k:=20) h λ_ _ h=>?_;refine bK (k:=21) h λ_ _ h=>?_;refine bK (k:=22) h λ_ _ h=>?_;refine bK (k:=23) h λ_ _ h=>?_;refine aN.mk (.refl _) ⟨b,_,_,_,rfl,rfl,h,λop=>?_⟩;simp only[bL];have:∀j:Nat,((op:Int)=(j:Int))=(op=j):=λj=>propext zO;have e:=this 12;have e2:=this 13;have e3:=this 14;have e4:=this 15;have e5:=this 16;have e6:=this 17;have e7:=this 18;have e8:=this 19;have e9:=this 20;have e10:=this 21;have e11:=this 22;have e12:=this 23
 simp only[Int.cast_ofNat_Int]at*;simp only[e,e2,e3,e4,e5,e6,e7,e8,e9,e10,e11,e12];rfl
def aap(v:zV):Prop:=∃(e h:Int) (n:Nat) (t:Int),v=eP e h n t
set_option maxHeartbeats 1000000 in
theorem qW{C:Hp}{Q:zV->Hp->Prop}(hQ:∀v H,Q v H->aap v)
 (h1:∀w f,fx x.op=some (w,f)->Fc zQ 22 #[ptr sp,x.v,.agg (Kq (w,f)).toArray] C Q)
 (h2:∀f,fx x.op=none->m6 x.op=some f->aW zQ f=true->Fc zQ f #[ptr sp,x.v] C Q)
 (h3:fx x.op=none->m6 x.op=none->Q (eP 12 (-1) 0 0) C):Fc zQ 9 #[ptr sp,x.v] C Q:=by
 refine aF λg=>TK λb1 _ b3 _=>?_;refine ae.aI (Br.no (DR.of (R:=(b1,.cells x.cells.toArray 35 zZ)::[]) (.skip (.cons λ_ _ h=>h.bt)) (Ld.f (v:=.int .u8 (x.op:Int)) λF=>?_)));refine aa.fn hnew MF ?_;rintro w H ⟨bm,kC,jO,m1,rfl,rfl,Uc,xH⟩;refine⟨.skip (.skip (.cons λ_ _ h=>h.bt)),?_⟩;refine⟨[(b1,.cells x.cells.toArray 35 zZ),(bm,.map kC jO)],(aM.perm (List.Perm.swap _ _ _)).trans (.skip ?_),.cons (λ_ _ h=>h.bt),?_⟩
 ·exact(aM.perm (List.Perm.swap _ _ _)).trans (.cons (.cons λ_ _ h=>h.bt))
 refine Uc.look (k:=(x.op:Int)) (cf _) (by exact .tail _ (.head _)) (λp v hp hv=>?_) (λhp=>?_)
 ·subst hv;obtain⟨w,f⟩:=p;rw[xH]at hp;refine Ext.two λwP _=>λF=>?_;refine St.p (r:=Kq (w,f)) (λu hu=>by simp only[Kq,xaj,xaR,xbl]at hu;rcases hu with rfl|rfl<;>rfl) (⟨.skip ((aM.perm (List.Perm.swap _ _ _)).trans (.skip ((aM.perm (List.Perm.swap _ _ _)).trans (.cons (.cons λ_ _ h=>h.bt))))),?_⟩);refine Br.yes (az.q (r:=x.cells) (az.q (r:=Kq (w,f)) (aa.fq (h1 w f hp) ?_)));intro v H hv;obtain⟨e,h,n,t,rfl⟩:=hQ v H hv;refine St.p (r:=[i64 e,i64 h,u64 n,i64 t]) (bI _ _ _ _) ?_;refine az.q ?_;exact aN.mk (.skip (.skip (.skip .tail))) hv
 rw[xH]at hp;refine Ext.two λwP _=>λF=>?_;refine St.p (r:=[.int .u8 0,.nilFunc]) (by simp[Value.oneCell']) (⟨.skip ((aM.perm (List.Perm.swap _ _ _)).trans (.skip ((aM.perm (List.Perm.swap _ _ _)).trans (.cons (.cons λ_ _ h=>h.bt))))),?_⟩);refine Br.no (DR.of (R:=(b1,.cells x.cells.toArray 35 zZ)::[]) (.skip (.skip (.skip (.cons λ_ _ h=>h.bt)))) (Ld.f (v:=.int .u8 (x.op:Int)) λF=>?_));refine aa.fn hnew NM ?_;rintro w H ⟨ba,gP,iB,m2,rfl,rfl,sO,nh⟩;refine⟨.skip (.skip (.skip (.skip (.cons λ_ _ h=>h.bt)))),?_⟩;refine⟨[(b1,.cells x.cells.toArray 35 zZ),(ba,.map gP iB)],?_,.cons (λ_ _ h=>h.bt),?_⟩
 ·refine(aM.perm ((List.Perm.cons _ (List.Perm.cons _ (List.Perm.cons _ (List.Perm.swap _ _ _)))).trans ((List.Perm.cons _ (List.Perm.cons _ (List.Perm.swap _ _ _))).trans ((List.Perm.cons _ (List.Perm.swap _ _ _)).trans (List.Perm.swap _ _ _))))).trans ?_;exact .cons ((aM.perm (List.Perm.swap _ _ _)).trans (.skip ((aM.perm (List.Perm.swap _ _ _)).trans (.skip ((aM.perm (List.Perm.swap _ _ _)).trans (.skip (.cons λ_ _ h=>h.bt)))))))
 refine sO.look (k:=(x.op:Int)) (cf _) (by exact .tail _ (.head _)) (λf v hf hv=>?_) (λhf=>?_)
 ·subst hv;rw[nh]at hf;have fM:aW zQ f=true:=by
   unfold m6 at hf
   repeat' split at hf
   all_goals first|(cases hf;kernel_rfl)|cases hf
  refine Ext.two (Br.yes (az.q (r:=x.cells) (aJ.of rfl fM (aa.fq (args:=#[ptr sp,x.v]) (h2 f hp hf fM) ?_))));intro v H hv;obtain⟨e,h,n,t,rfl⟩:=hQ v H hv;refine St.p (r:=[i64 e,i64 h,u64 n,i64 t]) (bI _ _ _ _) ?_;refine az.q ?_;exact aN.mk (.skip (.skip (.skip (.skip .tail)))) hv
 rw[nh]at hf;refine Ext.two (Br.no (aa.eq (cy _ _) (St.p (r:=[i64 12,i64 (-1),u64 0,i64 0]) (bI _ _ _ _) ?_)));refine az.q ?_;exact aN.mk (.skip (.skip (.skip (.skip .tail)))) (h3 hp hf)
end
section
variable {sp kp mb nx:Nat} {c:Cf} {K:Kd} {S:Nat->aq.Fn} {ord ah tr:zL} {hs:List (Int×Nat)} {es:Array MapEntry} {ck:Nat} {C:Hp} {x:eB}
theorem Qd(h:gX kp nx c K S ord ah tr hs es ck C)(hx:x.x<18446744073709551616):
  Rd zQ 48 #[ptr sp,x.v] (gS sp c kp mb nx es ck C) (· =if(aK hs x.a).isSome then eP 0 (-1) (bY S hs x.a x.x).toNat 0 else eP 3 (-1) 0 0):=by
 refine aF λg=>OH λb1 _ b3 _=>?_;refine Ld.f (v:=i64 x.a) (aa.eq (eG h x.a) (Un.not ?_));cases hm:aK hs x.a with
 |none=>
  refine Br.yes (aa.eq (cy _ _) (St.p (r:=[i64 3,i64 (-1),u64 0,i64 0]) (bI _ _ _ _) ?_));refine az.q ?_;exact bg.mk (.skip .tail) rfl
 |some r=>
  apply Br.no;have hl:=h.live _ (h.find hm);refine DR.of (.refl _) (Ld.n (v:=ptr kp) (Ld.n (v:=.map (some mb)) (Ld.f (v:=i64 x.a) (h.dJ.hit (k:=x.a) (cf _) (b:=mb) (by exact .tail _ (.tail _ (.tail _ (.head _)))) hm λv e=>?_))));subst e;refine Ld.f (v:=u64 x.x) λF=>?_;refine aa.eq (args:=#[ptr kp,u32 r,u64 x.x]) (S6 h.ks hl hx) (⟨.refl _,?_⟩);refine Ext.two (aa.eq (JX _ _) (aa.eq (dO _ 0 _) (St.p (r:=[i64 0,i64 (-1),u64 (S r x.x).toNat,i64 0]) (bI _ _ _ _) ?_)));refine az.q ?_;exact bg.mk (.skip .tail) (by rw[bB hm];rfl)
theorem P6(h:gX kp nx c K S ord ah tr hs es ck C):
  Rd zQ 49 #[ptr sp,x.v] (gS sp c kp mb nx es ck C) (λw=>w=if(aK hs x.a).isSome&& (aK hs x.b).isSome then eP 0 (-1) (@decide (bY S hs x.a=bY S hs x.b) (Classical.propDecidable _)).toNat 0 else eP 3 (-1) 0 0):=by
 refine aF λg=>OG λb1 _ b3 _ J5 h5=>?_;have no:((aK hs x.a).isSome&& (aK hs x.b).isSome)=false->J5 [.bool true] ((b3,.cells #[i64 0,i64 0,u64 0,i64 0] 37 zZ)::(b1,.cells (Value.cells x.v) 35 zZ)::gS sp c kp mb nx es ck C):=λhb=>by
  refine h5 _ _ λ_=>Br.yes ?_;refine aa.eq (cy _ _) (St.p (r:=[i64 3,i64 (-1),u64 0,i64 0]) (bI _ _ _ _) ?_);refine az.q ?_;exact bg.mk (.skip .tail) (by rw[hb];rfl)
 refine Ld.f (v:=i64 x.a) (aa.eq (eG h x.a) (Un.not ?_));cases hm:aK hs x.a with
 |none=>exact Split.Mv rfl (aL.mk (JE.mk (no (by rw[hm];rfl))))
 |some r=>
 refine Split.go rfl (Ld.f (v:=i64 x.b) (aa.eq (eG h x.b) (Un.not (aL.mk ?_))));cases nh:aK hs x.b with
 |none=>exact JE.mk (no (by rw[nh];exact xeh _))
 |some q=>
 refine JE.mk (h5 _ _ λ_=>Br.no ?_);have hl:=h.live _ (h.find hm);have qM:=h.live _ (h.find nh);refine DR.of (.refl _) (Ld.n (v:=.map (some mb)) (Ld.f (v:=i64 x.a) (h.dJ.hit (k:=x.a) (cf _) (b:=mb) (by exact .tail _ (.tail _ (.tail _ (.head _)))) hm λv e=>?_)));subst e;refine Ld.n (v:=.map (some mb)) (Ld.f (v:=i64 x.b) (h.dJ.hit (k:=x.b) (cf _) (b:=mb) (by exact .tail _ (.tail _ (.tail _ (.head _)))) nh λv e=>?_));subst e;refine ae.eL ?_;have e:decide (r=q)= @decide (bY S hs x.a=bY S hs x.b) (Classical.propDecidable _):=by
  by_cases hq:r=q
  ·rw[xam hq];exact(@decide_eq_true _ (Classical.propDecidable _) (by rw[bB hm,bB nh];exact(h.same hl qM).2 hq)).symm
  rw[xal hq];exact(@decide_eq_false _ (Classical.propDecidable _) (by rw[bB hm,bB nh];exact λe=>hq ((h.same hl qM).1 e))).symm
 rw[e];intro F;refine aa.eq (JX _ _) λF=>?_;refine aa.eq (dO _ 0 _) λF=>?_;refine St.p (r:=[i64 0,i64 (-1),u64 _,i64 0]) (bI _ _ _ _) ?_;refine az.q ?_;exact bg.mk (.skip .tail) (by rw[hm,nh];rfl)
theorem P8(h:gX kp nx c K S ord ah tr hs es ck C):
  Rd zQ 52 #[ptr sp,x.v] (gS sp c kp mb nx es ck C) (· =eP 0 (-1) (cE K S ord) 0):=by
 have hle:=gm h.ks.bc;refine aF λg=>OD λb1 _ b3 _=>?_;refine Ld.n (v:=ptr kp) ?_;refine aa.eq (cD h.ks.bc) (br.q (aa.eq (dO _ 0 _) (St.p (r:=[i64 0,i64 (-1),u64 (cE K S ord),i64 0]) (bI _ _ _ _) ?_)));refine az.q ?_;exact bg.mk (.skip .tail) rfl
theorem LZ(h:gX kp nx c K S ord ah tr hs es ck C)(hv:x.a<0\/(c.n:Int)<=x.a):
  Rd zQ 55 #[ptr sp,x.v] (gS sp c kp mb nx es ck C) (· =eP 2 (-1) 0 0):=by
 refine aF λg=>Ac λb1 _ b3 _=>?_;refine DR.of (.refl _) (Ld.n (v:=ptr kp) (Ld.f (v:=i64 x.a) λF=>?_));refine aa.eq (args:=#[ptr kp,i64 x.a]) (D5 h.ks.bc (by rw[h.n];exact hv)) (⟨.refl _,Ext.two ?_⟩);refine br.q (a:=0) (aa.eq (dO 0 2 _) (St.p (r:=[i64 2,i64 (-1),u64 0,i64 0]) (bI _ _ _ _) ?_));refine az.q ?_;exact bg.mk (.skip .tail) rfl
theorem L0(h:gX kp nx c K S ord ah tr hs es ck C){v:Nat}(hx:x.a=v)(hv:v<c.n):
  Rd zQ 55 #[ptr sp,x.v] (gS sp c kp mb nx es ck C) (λw=>∃p,p<c.n/\ord.getD p 0=v/\w=eP 0 (-1) p 0):=by
 have hn:=h.ks.bc.lT;refine aF λg=>Ac λb1 _ b3 _=>?_;refine DR.of (.refl _) (Ld.n (v:=ptr kp) (Ld.f (v:=i64 x.a) ?_));rw[hx];intro F;refine aa.rq (args:=#[ptr kp,i64 (v:Int)]) (D6 h.ks.bc (by rw[h.n];exact hv)) ?_;rintro w ⟨p,hp,hop,rfl⟩;refine⟨.refl _,Ext.two ?_⟩;refine br.q (aa.eq (dO p 0 _) (St.p (r:=[i64 0,i64 (-1),u64 p,i64 0]) (bI _ _ _ _) ?_));refine az.q ?_;exact bg.mk (.skip .tail) ⟨p,by rw[<-h.n];exact hp,hop,rfl⟩
theorem P5(h:gX kp nx c K S ord ah tr hs es ck C){P:Nat->Int->Prop}(R5:∀r,aK hs x.a=some r->Rd zQ 89 #[ptr kp,u32 r] C (λv=>∃n e,P n e/\v=.tuple #[u64 n,i64 e])):
  Rd zQ 50 #[ptr sp,x.v] (gS sp c kp mb nx es ck C) (λv=>((aK hs x.a).isSome=false/\v=eP 3 (-1) 0 0)\/((aK hs x.a).isSome=true/\∃n e,P n e/\v=if e=0 then eP 0 (-1) n 0 else eP e (-1) 0 0)):=by
 refine aF λg=>OF λb1 _ b3 _=>?_;refine Ld.f (v:=i64 x.a) (aa.eq (eG h x.a) (Un.not ?_));cases hm:aK hs x.a with
 |none=>
  refine Br.yes (aa.eq (cy _ _) (St.p (r:=[i64 3,i64 (-1),u64 0,i64 0]) (bI _ _ _ _) ?_));refine az.q ?_;exact bg.mk (.skip .tail) (.inl ⟨rfl,rfl⟩)
 |some r=>
  refine Br.no (DR.of (.refl _) (Ld.n (v:=ptr kp) (Ld.n (v:=.map (some mb)) (Ld.f (v:=i64 x.a) (h.dJ.hit (k:=x.a) (cf _) (b:=mb) (by exact .tail _ (.tail _ (.tail _ (.head _)))) hm λv e=>?_)))));subst e;intro F;refine aa.rq (args:=#[ptr kp,u32 r]) (R5 r hm) ?_;rintro w ⟨n,e,hP,rfl⟩;refine⟨.refl _,?_⟩;refine Ext.two λF=>(aa.eq (dO n e _) ?_);intro F;by_cases he:e=0
  ·rw[xad he];refine St.p (r:=[i64 0,i64 (-1),u64 n,i64 0]) (bI _ _ _ _) ?_;refine az.q ?_;exact bg.mk (.skip .tail) (.inr ⟨rfl,n,e,hP,by rw[xad he]⟩)
  rw[xac he];refine St.p (r:=[i64 e,i64 (-1),u64 0,i64 0]) (bI _ _ _ _) ?_;refine az.q ?_;exact bg.mk (.skip .tail) (.inr ⟨rfl,n,e,hP,by rw[xac he]⟩)
theorem L1(h:gX kp nx c K S ord ah tr hs es ck C){P:Nat->Int->Prop}(R5:∀r,aK hs x.a=some r->Rd zQ 91 #[ptr kp,u32 r] C (λv=>∃n e,P n e/\v=.tuple #[u64 n,i64 e])):
  Rd zQ 53 #[ptr sp,x.v] (gS sp c kp mb nx es ck C) (λv=>((aK hs x.a).isSome=false/\v=eP 3 (-1) 0 0)\/((aK hs x.a).isSome=true/\∃n e,P n e/\v=if e=0 then eP 0 (-1) n 0 else eP e (-1) 0 0)):=by
 refine aF λg=>OC λb1 _ b3 _=>?_;refine Ld.f (v:=i64 x.a) (aa.eq (eG h x.a) (Un.not ?_));cases hm:aK hs x.a with
 |none=>
  refine Br.yes (aa.eq (cy _ _) (St.p (r:=[i64 3,i64 (-1),u64 0,i64 0]) (bI _ _ _ _) ?_));refine az.q ?_;exact bg.mk (.skip .tail) (.inl ⟨rfl,rfl⟩)
 |some r=>
  refine Br.no (DR.of (.refl _) (Ld.n (v:=ptr kp) (Ld.n (v:=.map (some mb)) (Ld.f (v:=i64 x.a) (h.dJ.hit (k:=x.a) (cf _) (b:=mb) (by exact .tail _ (.tail _ (.tail _ (.head _)))) hm λv e=>?_)))));subst e;intro F;refine aa.rq (args:=#[ptr kp,u32 r]) (R5 r hm) ?_;rintro w ⟨n,e,hP,rfl⟩;refine⟨.refl _,?_⟩;refine Ext.two λF=>(aa.eq (dO n e _) ?_);intro F;by_cases he:e=0
  ·rw[xad he];refine St.p (r:=[i64 0,i64 (-1),u64 n,i64 0]) (bI _ _ _ _) ?_;refine az.q ?_;exact bg.mk (.skip .tail) (.inr ⟨rfl,n,e,hP,by rw[xad he]⟩)
  rw[xac he];refine St.p (r:=[i64 e,i64 (-1),u64 0,i64 0]) (bI _ _ _ _) ?_;refine az.q ?_;exact bg.mk (.skip .tail) (.inr ⟨rfl,n,e,hP,by rw[xac he]⟩)
theorem B4(h:gX kp nx c K S ord ah tr hs es ck C){P:Nat->Int->Prop}(R5:∀r,aK hs x.a=some r->Rd zQ 92 #[ptr kp,u32 r] C (λv=>∃n e,P n e/\v=.tuple #[u64 n,i64 e])):
  Rd zQ 54 #[ptr sp,x.v] (gS sp c kp mb nx es ck C) (λv=>((aK hs x.a).isSome=false/\v=eP 3 (-1) 0 0)\/((aK hs x.a).isSome=true/\∃n e,P n e/\v=if e=0 then eP 0 (-1) n 0 else eP e (-1) 0 0)):=by
 refine aF λg=>OB ?_;intro b1 _ b3 _;refine Ld.f (v:=i64 x.a) ?_;refine aa.eq (eG h x.a) (Un.not ?_);cases hm:aK hs x.a with
 |none=>
  refine Br.yes (aa.eq (cy _ _) (St.p (r:=[i64 3,i64 (-1),u64 0,i64 0]) (bI _ _ _ _) ?_));refine az.q ?_;exact bg.mk (.skip .tail) (.inl ⟨rfl,rfl⟩)
 |some r=>
  refine Br.no (DR.of (.refl _) (Ld.n (v:=ptr kp) ?_));refine Ld.n (v:=.map (some mb)) ?_;refine Ld.f (v:=i64 x.a) ?_;refine h.dJ.hit (k:=x.a) (cf _) (b:=mb) (by exact .tail _ (.tail _ (.tail _ (.head _)))) hm λv e=>?_;subst e;intro F;refine aa.rq (args:=#[ptr kp,u32 r]) (R5 r hm) ?_;rintro w ⟨n,e,hP,rfl⟩;refine⟨.refl _,?_⟩;apply Ext.two;intro F;refine aa.eq (dO n e _) ?_;intro F;by_cases he:e=0
  ·rw[xad he];refine St.p (r:=[i64 0,i64 (-1),u64 n,i64 0]) (bI _ _ _ _) ?_;refine az.q ?_;exact bg.mk (.skip .tail) (.inr ⟨rfl,n,e,hP,by rw[xad he]⟩)
  rw[xac he];refine St.p (r:=[i64 e,i64 (-1),u64 0,i64 0]) (bI _ _ _ _) ?_;refine az.q ?_;exact bg.mk (.skip .tail) (.inr ⟨rfl,n,e,hP,by rw[xac he]⟩)
end
structure Rp where
 e:Int
 h:Int
 n:Nat
 t:Int
def Rp.cells(r:Rp):List zV:=[i64 r.e,i64 r.h,u64 r.n,i64 r.t]
abbrev Rp.v(r:Rp):zV:=.agg r.cells.toArray
def Rp.eq(a b:Rp):Bool:=decide (a.e=b.e) && (decide (a.h=b.h) && (decide (a.n=b.n) &&decide (a.t=b.t)))
theorem Rp.eq_iff{a b:Rp}:Rp.eq a b=true↔a=b:=by
 obtain⟨a1,a2,a3,a4⟩:=a;obtain⟨b1,b2,b3,b4⟩:=b;simp[Rp.eq]
theorem Rp.one(r:Rp):∀u∈r.cells,u.oneCell'=true:=bI _ _ _ _
theorem SA:(Tryz.prog.fieldsOf 37).toList.map (λf=>(f.name,f.type,f.offset))=[("E",27,0),("H",3,1),("N",33,2),("Tries",3,3)]:=by kernel_rfl
theorem UQ:Tryz.prog.underlying 3=some (.int .i64):=by kernel_rfl
theorem US:Tryz.prog.underlying 27=some (.int .i64):=by kernel_rfl
theorem UD:Tryz.prog.underlying 33=some (.int .u64):=by kernel_rfl
theorem ae7{g:Gh}{H:Hp}{o:Oper}{ρ:Operand->zV}{k:zV->Prop}{neq:Bool}{x y:Operand}{a b:Rp}(ho:o.op=.binOp (cond neq .neq .eql) 37 x y 37)(hx:ρ x=a.v)(hy:ρ y=b.v)
 (hk:k (.bool (cond neq (!Rp.eq a b) (Rp.eq a b)))):jG zQ g o ρ H k:=by
 refine jG.struct (neq:=neq) ho hx hy zK zK zK (b:=Rp.eq a b) ?_ hk;intro w;have h:=SA;generalize (Tryz.prog.fieldsOf 37).toList=fs at h;rcases fs with _|⟨f1,_|⟨f2,_|⟨f3,_|⟨f4,_|⟨f5,fs⟩⟩⟩⟩⟩<;>simp only[xaC,xcv,xav,xdy,xaW,reduceCtorEq,xdO]at h;obtain⟨⟨n1,t1,o1⟩,⟨n2,t2,o2⟩,⟨n3,t3,o3⟩,n4,t4,o4⟩:=h;have p1:∀(r:Rp) w,(part 27 r.cells.toArray 0).run zQ w=.ok (i64 r.e) w:=λr w=>run_part_plain (w:=w) zK rfl;have p2:∀(r:Rp) w,(part 3 r.cells.toArray 1).run zQ w=.ok (i64 r.h) w:=λr w=>run_part_plain (w:=w) zK rfl;have p3:∀(r:Rp) w,(part 33 r.cells.toArray 2).run zQ w=.ok (u64 r.n) w:=λr w=>run_part_plain (w:=w) zK rfl;have p4:∀(r:Rp) w,(part 3 r.cells.toArray 3).run zQ w=.ok (i64 r.t) w:=λr w=>run_part_plain (w:=w) zK rfl;have dq:∀x y:Int,(x==y)=decide (x=y):=λx y=>by rw[xbE];simp
 have q1:∀(x y:Int) w,(Op.equalIn 9999 27 (i64 x) (i64 y)).run zQ w=.ok (decide (x=y)) w:=λx y w=>by
  rw[run_equalIn_int w 9998 27 .i64 _ _ _ US,dq]
 have q2:∀(x y:Int) w,(Op.equalIn 9999 3 (i64 x) (i64 y)).run zQ w=.ok (decide (x=y)) w:=λx y w=>by
  rw[run_equalIn_int w 9998 3 .i64 _ _ _ UQ,dq]
 have q3:∀(x y:Nat) w,(Op.equalIn 9999 33 (u64 x) (u64 y)).run zQ w=.ok (decide (x=y)) w:=λx y w=>by
  rw[run_equalIn_int w 9998 33 .u64 _ _ _ UD,dq];congr 1;exact xcm.2 Int.ofNat_inj
 show(Op.eqFields 9999 a.cells.toArray b.cells.toArray [f1,f2,f3,f4]).run zQ w=_;simp only[Op.eqFields,n1,n2,n3,n4,t1,t2,t3,t4,o1,o2,o3,o4,Sem.run_bind,p1,p2,p3,p4,q1,q2,q3,Result.andThen_ok,Sem.run_ite,Sem.run_pure];unfold Rp.eq;by_cases h1:a.e=b.e<;>by_cases h2:a.h=b.h<;>by_cases h3:a.n=b.n<;>by_cases h4:a.t=b.t<;>simp[h1,h2,h3,h4]
def qY:List Rp->List Rp->Bool
 | [],[]=>true
 |a::l,b::r=>Rp.eq a b&&qY l r
 |_,_=>false
theorem jK:∀{l r:List Rp},qY l r=true↔l=r
 | [],[]=>by simp[qY]
 | [],_::_=>by simp[qY]
 |_::_,[]=>by simp[qY]
 |a::l,b::r=>by simp[qY,Rp.eq_iff,jK]
theorem yw{B:Hp}{va vb:zV}{l r:List Rp}(hl:Sl 4 B va (l.map Rp.cells))(hr:Sl 4 B vb (r.map Rp.cells))(cB:l.length<9223372036854775807):Rd zQ 10 #[va,vb] B (· =.bool (qY l r)):=by
 refine aF λg=>O3 (hl.bX ?_);refine hr.bX ?_;rw[xax,xax];refine ae.CJ (Br.dec (λhne=>?_) (λheq=>?_))
 ·refine bg.mk (.refl _) ?_;cases he:qY l r
  ·rfl
  rw[jK.1 he]at hne;exact absurd rfl hne
 have heq:l.length=r.length:=by simpa using heq
 refine⟨λvs H=>∃i:Nat,vs=[i64 (i:Int)]/\i<=l.length/\H=B/\l.take i=r.take i,λvs _=>l.length-bN vs 0,JE.mk ⟨0,rfl,xaO _,rfl,rfl⟩,?_⟩;rintro w H ⟨i,⟨⟩,hi,rfl,he⟩ gs;refine hl.bX ?_;rw[xax];refine ae.fy (Br.dec (λhlt=>?_) (λhge=>?_))
 ·have hlr:i<r.length:=by omega
  refine av.sl hl (i:=i) (r:=l[i].cells) (by rw[xat,xaa hlt];rfl) λp hp=>?_;refine az.at hp rfl zD (λ_ h=>h) ?_;refine av.sl hr (i:=i) (r:=r[i].cells) (by rw[xat,xaa hlr];rfl) λp hp=>?_;refine az.at hp rfl zD (λ_ h=>h) ?_;refine ae7 (neq:=true) (x:=.tmp 20) (y:=.tmp 24) (a:=l[i]) (b:=r[i]) zK rfl rfl ?_;simp only[xap];refine Br.mk (λhb=>?_) (λhb=>?_)
  ·refine bg.mk (.refl _) ?_;cases T6:qY l r
   ·rfl
   have h2:=jK.1 T6;have:Rp.eq l[i] r[i]=true:=Rp.eq_iff.2 (by subst h2;rfl);rw[this]at hb;cases hb
  have h2:l[i]=r[i]:=Rp.eq_iff.1 (by simpa using hb);refine ae.inc (aC.of (.refl _) ⟨i+1,rfl,hlt,rfl,?_⟩ (by simp only[bN];omega));rw[xbf,xbf,he,xaa hlt,xaa hlr,h2]
 refine bg.mk (.refl _) ?_;have h2:l=r:=by rwa [xcy zO,xcy zO]at he
 rw[jK.2 h2]
theorem Qy(n:Nat)(B:Hp):Rd zQ 11 #[i64 (n:Int)] B (· =.agg (uJ.cells ⟨n,1048576,0,100,0⟩).toArray):=by
 refine aF λg=>O2 λb1 _=>?_;refine Build.mk (cs:=uJ.cells ⟨n,1048576,0,100,0⟩) zK (St.p (uJ.one _) ?_);exact az.q (r:=uJ.cells ⟨n,1048576,0,100,0⟩) (bg.mk .tail rfl)
theorem Cf.Ok.fQ{d:Cf}(h:d.Ok):fQ d.i=0:=by
 obtain⟨h1,h2,h3,h4,h5,h6⟩:=h;have a1:gU d.i=false:=by
  show(decide (6<d.str)||decide ((d.gr:Int)<100)||decide (1000<(d.gr:Int))||decide ((d.rs:Int)<0)||decide (16<(d.rs:Int)))=false;simp only[xaF,xbp];omega
 have a2:iM d.i=false:=by
  show decide ((d.n:Int)<1\/64<(d.n:Int)\/(d.cap:Int)<2\/1048576<(d.cap:Int))=false;rw[xbp];omega
 have a3:¬(d.i.str=6/\12<d.i.n):=by
  show¬(d.str=6/\12<(d.n:Int));omega
 unfold Proofs.fQ;rw[a1,a2,xac zD,xac zD,xac a3]
theorem Kf{c:uJ}{steps:List eB}{sv:zV}{Y:Hp}(hs:Sl 5 Y sv (steps.map eB.cells))(cB:steps.length<4398046511104)(I:Nat->Nat->List Rp->Hp->Prop)
 (h0:∀d:Cf,c=d.i->d.Ok->∀(sp kp mb:Nat) (C:Hp),bP kp (K0 d.n d.cap) S0 (List.range d.n) (List.range d.n) [] C->I 0 sp [] (gS sp d kp mb 0 #[] 0 C))
 (hstep:∀(i sp:Nat) (l:List Rp) (H:Hp) (x:eB),fQ c=0->steps[i]? =some x->I i sp l H->l.length=i->Fc zQ 9 #[ptr sp,x.v] H (λv H'=>∃r:Rp,v=r.v/\I (i+1) sp (l++[r]) H')):
  Fc zQ 8 #[.agg c.cells.toArray,sv] Y (λw H=>(fQ c≠0/\w=.tuple #[.slice none 0 0,i64 (fQ c)]/\H=Y)\/
   (fQ c=0/\∃(sp:Nat) (l:List Rp) (s:zV) (CR HS:Hp),w=.tuple #[s,i64 0]/\H=CR++Y/\aU 37 4 s (l.map Rp.cells) CR/\l.length=steps.length/\I steps.length sp l HS)):=by
 refine aF λg=>TL λb1 _=>?_;refine az.q (r:=c.cells) (aa.fn hnew (B6 c (Q:=λv H=>(fQ c≠0/\v=.tuple #[.pointer none,i64 (fQ c)]/\H=[])\/(fQ c=0/\∃sp,v=.tuple #[ptr sp,i64 0]/\I 0 sp [] H)) (λh=>.inl ⟨h,rfl,rfl⟩) (λd hd hok sp kp mb C hK=>.inr ⟨?_,sp,rfl,h0 d hd hok sp kp mb C hK⟩)) ?_)
 ·subst hd;exact hok.fQ
 rintro w H (⟨hne,rfl,rfl⟩|⟨he,sp,rfl,hI⟩)
 ·refine Ext.two (ae.cK (Br.T ?_ hne));exact aN.mk (.tail) (.inl ⟨hne,rfl,rfl⟩)
 refine Ext.two (ae.cK (Br.F (hs.bX ?_)));rw[xax];refine⟨λvs H'=>∃(i:Nat) (s:zV) (l:List Rp) (CR HS:Hp),vs=[s,i64 (i:Int)]/\i<=steps.length/\l.length=i/\H'=CR++(HS++((b1,.cells (Value.cells (.agg c.cells.toArray)) 23 zZ)::Y))/\aU 37 4 s (l.map Rp.cells) CR/\I i sp l HS,
  λvs _=>steps.length-bN vs 1,JE.mk ⟨0,_,[],[],H,rfl,xaO _,rfl,rfl,aU.nil _ _,hI⟩,?_⟩
 rintro w1 w2 H' ⟨i,s,l,CR,HS,⟨⟩,hi,hl,rfl,hR,hI⟩ gs;refine ae.fy (Br.dec (λhlt=>?_) (λhge=>?_))
 ·refine av.sl hs (i:=i) (r:=steps[i].cells) (by rw[xat,xaa hlt];rfl) λp hp=>?_;refine az.at hp rfl zD (λ_ h=>xab _ (xab _ (.tail _ h))) ?_;intro BO _;refine St.p (r:=steps[i].cells) (eB.one _) (az.q (r:=steps[i].cells) (aa.fn (.cons (.app .left)) (hstep i sp l HS steps[i] he (xaa hlt) hI hl) ?_));rintro v HS' ⟨r,rfl,hI'⟩;refine ax.one (z:=.agg #[i64 0,i64 0,u64 0,i64 0]) (e:=37) (k:=4) (r:=r.cells) zK zK zK zD rfl λbx=>?_;refine aU.rV (r:=r.cells) hR (.cons (.cons .left)) (by exact .head _) rfl (Rp.one r) ⟨[i64 0,i64 0,u64 0,i64 0],rfl,rfl⟩ (by rw[xax];omega) (by rw[xax];omega) λv' CR' M7=>?_;refine ae.inc (aC.of (.skip .tail) ⟨i+1,v',l++[r],CR',HS',rfl,hlt,by rw[xaf,hl];rfl,rfl,by rw[xaA];exact M7,hI'⟩ (by simp only[bN];omega))
 obtain rfl:i=steps.length:=by omega
 exact aN.mk (aM.dc (aM.right.trans .tail) CR) (.inr ⟨he,sp,l,w1,CR,HS,rfl,rfl,hR,hl,hI⟩)
abbrev FS:=List (Int×aq.Fn)
def j6(S:Nat->aq.Fn)(hs:List (Int×Nat)):FS:=hs.map λp=>(p.1,S p.2)
def fF(F:FS)(a:Int):aq.Fn:=match aK F a with|some f=>f|none=>λ_=>false
def jN(F:FS):List aq.Fn:=F.map Prod.snd
def fc(F:FS)(a:Int):Bool:=(aK F a).isSome
theorem vI{S:Nat->aq.Fn}{a:Int}:∀hs:List (Int×Nat),aK (j6 S hs) a=(aK hs a).map S
  | []=>rfl
  |p::hs=>by
    have ih:=vI (S:=S) (a:=a) hs;unfold aK j6 at*;rw[xaC,xbB,xbB];by_cases e:p.1=a
    · simp[e]
    · simp only[e,xdp]
      exact ih
theorem mX{S:Nat->aq.Fn}{hs:List (Int×Nat)}:fF (j6 S hs)=bY S hs:=funext λa=>by
  unfold fF bY;rw[vI];cases aK hs a<;>rfl
theorem mW{S:Nat->aq.Fn}{hs:List (Int×Nat)}:jN (j6 S hs)=fL S hs:=by
  unfold jN j6 fL;rw[xcl];rfl
theorem ew{S:Nat->aq.Fn}{hs:List (Int×Nat)}(a:Int):fc (j6 S hs) a=(aK hs a).isSome:=by
  unfold fc;rw[vI];cases aK hs a<;>rfl
theorem jP{S S':Nat->aq.Fn}{hs:List (Int×Nat)}(h:∀p∈hs,S' p.2=S p.2):j6 S' hs=j6 S hs:=xbn λp hp=>by rw[h p hp]
def lZ(n:Nat)(F:FS)(w:Nat)(x:eB):Int:=
  if(Gu w x||NH w x)=true then 1 else if(Fk n w x||Fj n w x||MA n w x)=true then 2 else
  if((decide (w&&&1≠0) && !fc F x.a)||(decide (w&&&2≠0) && !fc F x.b)||(decide (w&&&4≠0) && !fc F x.c))=true then 3 else 0
theorem yM{S:Nat->aq.Fn}{hs:List (Int×Nat)}{n w:Nat}{x:eB}:lZ n (j6 S hs) w x=kM n hs w x:=by
  unfold lZ kM wA wz zl;rw[ew,ew,ew]
noncomputable def tL(n:Nat)(F:FS)(ord:zL):Nat:=sz n ord (HF (jN F))
def kE(sp:Nat)(c:Cf)(nx:Nat)(F:FS)(ord tr:zL)(H:Hp):Prop:=
  ∃(kp mb:Nat) (K:Kd) (S:Nat->aq.Fn) (ah:zL) (hs:List (Int×Nat)) (es:Array MapEntry) (ck:Nat) (C:Hp),H=gS sp c kp mb nx es ck C/\gX kp nx c K S ord ah tr hs es ck C/\j6 S hs=F
section
variable {sp nx:Nat} {c:Cf} {F:FS} {ord tr:zL} {H:Hp} {x:eB}
theorem gX.tL{kp:Nat}{K:Kd}{S:Nat->aq.Fn}{ah:zL}{hs:List (Int×Nat)}{es:Array MapEntry}{ck:Nat}{C:Hp}(h:gX kp nx c K S ord ah tr hs es ck C)(o:zL):cE K S o=Proofs.tL c.n (j6 S hs) o:=by
  unfold cE Proofs.tL;rw[h.held,mW,h.n]
theorem AX{d:Cf}{kp mb:Nat}{C:Hp}(hK:bP kp (K0 d.n d.cap) S0 (List.range d.n) (List.range d.n) [] C):kE sp d 0 [] (List.range d.n) [] (gS sp d kp mb 0 #[] 0 C):=
  ⟨kp,mb,_,_,_,[],_,_,C,rfl,⟨hK,rfl,rfl,aE.empty,by simp,λr=>by
    show([]:zL).getD r 0=_;simp,by simp⟩,rfl⟩
theorem kE.perm(h:kE sp c nx F ord tr H):ord.Perm (List.range c.n):=by
  obtain⟨kp,mb,K,S,ah,hs,es,ck,C,rfl,h,rfl⟩:=h;rw[<-h.n];exact h.ks.perm
def Yc(sp:Nat)(c:Cf)(nx:Nat)(F:FS)(ord tr:zL)(x:eB)(R:zL->zL->Prop)(v:zV)(H:Hp):Prop:=
  ∃(t:Nat) (o cu:zL),t<=c.rs+1/\eS (nv c.n c.cap (jN F) (fF F) x) R ord t o/\
    ((v=eP 0 nx 0 t/\kE sp c (nx+1) (F++[((nx:Int),dK c.n (fF F) x)]) o [] H/\nv c.n c.cap (jN F) (fF F) x o 0)\/
     (∃e:Nat,(e=8\/e=9)/\v=eP e (-1) 0 t/\kE sp c nx F o cu H/\nv c.n c.cap (jN F) (fF F) x o e/\(e=9->t=c.rs+1)/\cu.length+66*tL c.n F o<=tr.length+66*tL c.n F ord))
theorem WM{w f:Nat}(hm:fx x.op=some (w,f)):jk f x.op w/\aW zQ f=true/\w<256:=by
  have nine:x.op=1\/x.op=2\/x.op=3\/x.op=4\/x.op=5\/x.op=6\/x.op=7\/x.op=8\/x.op=9\/x.op=10\/x.op=11:=by
    unfold fx at hm
    repeat' split at hm
    all_goals first|omega|cases hm
  rcases nine with e|e|e|e|e|e|e|e|e|e|e<;>rw[e]at hm⊢ <;>cases hm
  · exact⟨qV,by kernel_rfl,by decide⟩
  · exact⟨AB,by kernel_rfl,by decide⟩
  · exact⟨UN,by kernel_rfl,by decide⟩
  · exact⟨JZ,by kernel_rfl,by decide⟩
  · exact⟨Yv,by kernel_rfl,by decide⟩
  · exact⟨UA,by kernel_rfl,by decide⟩
  · exact⟨UP,by kernel_rfl,by decide⟩
  · exact⟨Av,by kernel_rfl,by decide⟩
  · exact⟨E3,by kernel_rfl,by decide⟩
  · exact⟨E0,by kernel_rfl,by decide⟩
  · exact⟨Ce,by kernel_rfl,by decide⟩
theorem rS(hx:x.op=1):jk 32 x.op 8/\aW zQ 32=true:=by
  rw[hx];exact⟨qV,by kernel_rfl⟩
theorem DY(hx:x.op=4):jk 35 x.op 3/\aW zQ 35=true:=by
  rw[hx];exact⟨JZ,by kernel_rfl⟩
def TC(c:Cf)(nx:Nat)(F:FS)(T:zL->Nat->Prop)(R:zL->zL->Prop)(b:Nat):Prop:=
  ∀{kp:Nat} {K:Kd} {S:Nat->aq.Fn} {o ah tr:zL} {hs:List (Int×Nat)} {es:Array MapEntry} {ck:Nat} {C:Hp},T o 9->gX kp nx c K S o ah tr hs es ck C->j6 S hs=F->tr.length<=b->
    Fc zQ 45 #[ptr kp,.int .u8 (c.str:Int),i64 c.gr] C (λv H=>∃ls a b,v=.tuple #[a,b]/\R o ls/\At kp K S (ay o ls) (tr++ls) H/\ls.length+66*cE K S (ay o ls)<=66*cE K S o)
theorem Ks{w f:Nat}{R:zL->zL->Prop}(h:kE sp c nx F ord tr H)(hc:c.Ok)(BD:nx+1<9223372036854775808)(hx:x.x<18446744073709551616)(hf:jk f x.op w)(fM:aW zQ f=true)(hw:w<256)(hl:lZ c.n F w x=0)
   (hrun:TC c nx F (nv c.n c.cap (jN F) (fF F) x) R (tr.length+66*tL c.n F ord)):
    Fc zQ 22 #[ptr sp,x.v,.agg (Kq (w,f)).toArray] H (Yc sp c nx F ord tr x R):=by
  obtain⟨kp,mb,K,S,ah,hs,es,ck,C,rfl,h,rfl⟩:=h;rw[yM]at hl;rw[mX,mW,<-h.tL]at hrun;refine(Vs fM h hc BD hw hx hl (fn:=dK c.n (bY S hs) x) (T:=nv c.n c.cap (fL S hs) (bY S hs) x) (R:=R) (λ{K' S' o bR cu C'} h' hS=>?_) (λ{K' S' o bR cu C'} hT h' hS hb=>?_)).mono ?_
  · have:=hf (sp:=sp) (mb:=mb) h' rfl hx hl
    rwa [WD hS,Ng h.dJ.nd hS]at this
  · exact hrun hT h' (jP hS) hb
  · rintro v H ⟨t,o,bR,cu,K',S',es',bC,C',ht,hT,hS,hq⟩
    unfold Yc;have ez:tL c.n (j6 S hs)=cE K S:=funext λo=>(h.tL o).symm;rw[mX,mW,ez];refine⟨t,o,cu,ht,hT,?_⟩;rcases hq with⟨r,rfl,rfl,h',hr,h0,rfl⟩|⟨e,he,rfl,rfl,h',Ub,h9,hb⟩
    · refine .inl ⟨rfl,⟨kp,mb,K',S',bR,_,es',bC,C',rfl,h',?_⟩,h0⟩
      rw[<-jP hS];unfold j6;rw[xaA,<-hr];rfl
    · exact .inr ⟨e,he,rfl,⟨kp,mb,K',S',bR,_,es',bC,C',rfl,h',jP hS⟩,Ub,h9,hb⟩
theorem vL{w f:Nat}(h:kE sp c nx F ord tr H)(hx:x.x<18446744073709551616)(hw:w<256)(hl:lZ c.n F w x≠0):
    Rd zQ 22 #[ptr sp,x.v,.agg (Kq (w,f)).toArray] H (· =eP (lZ c.n F w x) (-1) 0 0):=by
  obtain⟨kp,mb,K,S,ah,hs,es,ck,C,rfl,h,rfl⟩:=h;rw[yM]at hl⊢;exact Vt h hw hx hl
theorem KT(h:kE sp c nx F ord tr H)(hx:x.x<18446744073709551616):Rd zQ 48 #[ptr sp,x.v] H (· =if fc F x.a then eP 0 (-1) (fF F x.a x.x).toNat 0 else eP 3 (-1) 0 0):=by
  obtain⟨kp,mb,K,S,ah,hs,es,ck,C,rfl,h,rfl⟩:=h;rw[ew,mX];exact Qd h hx
theorem JY(h:kE sp c nx F ord tr H):Rd zQ 50 #[ptr sp,x.v] H (· =if fc F x.a then eP 0 (-1) (sat c.n (fF F x.a)%Bs) 0 else eP 3 (-1) 0 0):=by
  obtain⟨kp,mb,K,S,ah,hs,es,ck,C,rfl,h,rfl⟩:=h;rw[ew,mX];refine(P5 h (x:=x) (P:=λn e=>e=0/\n=sat c.n (bY S hs x.a)%Bs) λr hr=>?_).mono λv H ⟨e,hv⟩=>⟨e,?_⟩
  · rw[bB hr,<-h.n]
    exact(SR h.ks (h.live _ (h.find hr))).mono λv H ⟨e,hv⟩=>⟨e,_,_,⟨rfl,rfl⟩,hv⟩
  · rcases hv with⟨h1,h2⟩|⟨h1,n,e,⟨rfl,rfl⟩,h2⟩
    · rw[h1];exact h2
    · rw[h1];exact h2
end
end
end Go.Proofs
namespace aq
open ak
variable {n:Nat} {ord:zL}
def X3(ord:zL)(L:List Fn):Nat->List Fn
 |0=>L
 |l+1=>(X3 ord L l).flatMap λf=>[λx=>f (aB x (ord.getD l 0) false),λx=>f (aB x (ord.getD l 0) true)]
theorem wh(L:List Fn):∀l,(X3 ord L l).length=L.length*2^l
 |0=>by simp[X3]
 |l+1=>by
  rw[X3,List.length_flatMap];simp only[xay,xca];rw[List.map_const',List.sum_replicate_nat,wh L l,xd7,xcO]
theorem Sr{F:Fn->Prop}{L:List Fn}(h:∀g,F g->g∈L):∀l g,fs ord F l g->g∈X3 ord L l
 |0,g,hg=>h g hg
 |l+1,g,⟨f,hf,b,e⟩=>by
  rw[X3,List.mem_flatMap];refine⟨f,Sr h l f hf,?_⟩;subst e;cases b<;>simp
def Ed(ord:zL)(L:List Fn):Nat->List Fn
 |0=>[]
 |k+1=>Ed ord L k++X3 ord L k
theorem tR{ord:zL}(L:List Fn):∀k,(Ed ord L k).length+L.length=L.length*2^k
 |0=>by simp[Ed]
 |k+1=>by
  have:=tR (ord:=ord) L k;rw[Ed,xaf,wh,xd7];have e:L.length*(2^k*2)=L.length*2^k+L.length*2^k:=by rw[<-xcO,Nat.mul_two]
  omega
theorem CY{L:List Fn}{g:Fn}{l:Nat}(h:g∈X3 ord L l):∀k,l<k->g∈Ed ord L k
 |0,hk=>by omega
 |k+1,hk=>by
  rw[Ed,xao];by_cases e:l=k
  ·subst e;exact .inr h
  exact .inl (CY h k zO)
theorem yD{F:Fn->Prop}{L:List Fn}(h:∀g,F g->g∈L):∀g,aD n ord F g->g∈Ed ord L n:=by
 rintro g ⟨l,hl,hg,_⟩;exact CY (Sr h l g hg) n hl
theorem CE:∀l:List Fn,∃l':List Fn,l'.Nodup/\l'.length<=l.length/\∀g,g∈l↔g∈l'
 | []=>⟨[],List.nodup_nil,xai _,λ_=>xcW⟩
 |f::l=>by
  obtain⟨l',h1,h2,h3⟩:=CE l;by_cases hm:f∈l'
  ·refine⟨l',h1,Nat.le_succ_of_le h2,λg=>?_⟩;rw[xaj,h3];exact⟨λh=>h.elim (λe=>e▸hm) id,.inr⟩
  exact⟨f::l',xaX.2 ⟨hm,h1⟩,Nat.succ_le_succ h2,λg=>by rw[xaj,xaj,h3]⟩
theorem KW{U:Fn->Prop}{l:List Fn}(h:∀g,U g->g∈l):∃k,k<=l.length/\nt U k:=by
 classical
 obtain⟨l',h1,h2,h3⟩:=CE l;refine⟨(l'.filter λg=>decide (U g)).length,xbN (xbY _ _) h2,_,h1.filter _,rfl,λg=>?_⟩;rw[xb1,xaK,<-h3];exact⟨λx=>⟨h g x,x⟩,λx=>x.2⟩
theorem Fm{F:Fn->Prop}{L:List Fn}{cap:Nat}(h:∀g,F g->g∈L)(hc:L.length*2^n+2<=cap):∃ku,nt (aD n ord F) ku/\ku+2<=cap:=by
 obtain⟨k,h1,h2⟩:=KW (yD (n:=n) (ord:=ord) h);have:=tR (ord:=ord) L n;exact⟨k,h2,by omega⟩
end aq
set_option maxRecDepth 100000
namespace Go.Proofs
open Go Go.Sx
section
open aq
theorem Xn{b k len:Nat}{rs:List (List zV)}{T:TypeId}(hr:∀r∈rs,r.length=k)(hk:0<k)(hl:rs.length=len):Sl k [(b,.cells (rows rs) T zZ)] (.slice (some ⟨b,0,none⟩) len len) rs:=by
 have h:=aU.mk' (T:=T) (k:=k) (b:=b) (rs:=rs) (aH:=[]) (n:=len) (c:=len) (by simpa using hr) hl.symm (by simp[hl]);rw[xaL]at h;exact Sl.nU h hk
section
variable {sp nx n cap:Nat} {c:Cf} {F:FS} {ord tr o:zL} {H:Hp} {x:eB}
theorem QJ(h:((jN F).length+3)*2^n+2<=cap):¬nv n cap (jN F) (fF F) x o 9:=by
 have room:∀(L2:List aq.Fn) (P:aq.Fn->Prop),L2.length<=3->(∀g,P g->HF (jN F) g\/g∈L2)->Fits (aD n o P) cap:=λL2 P hl hP=>by
  refine Fm (L:=jN F++L2) (λg hg=>?_) ?_
  ·rcases hP g hg with h|h
   ·exact xae _ h.1
   exact xab _ h
  rw[xaf];exact xbN (Nat.add_le_add_right (xaZ _ zO) 2) h
 unfold nv;split
 ·rintro(⟨h,_⟩|⟨_,i,_,_,hf,_⟩|⟨h,_⟩)
  ·cases h
  ·refine hf (room [nH true (bitsOf x.x i) (fF F x.a),qf true i (nH true (bitsOf x.x i) (fF F x.a))] _ zI λg hg=>?_);rcases hg with(h|⟨_,h⟩)|h
   ·exact .inl h
   ·exact .inr (by simp[h])
   exact .inr (by simp[h])
  cases h
 split
 ·rintro(⟨h,_⟩|⟨_,i,_,_,hf,_⟩|⟨h,_⟩)
  ·cases h
  ·refine hf (room [nH false (bitsOf x.x i) (fF F x.a),qf false i (nH false (bitsOf x.x i) (fF F x.a))] _ zI λg hg=>?_);rcases hg with(h|⟨_,h⟩)|h
   ·exact .inl h
   ·exact .inr (by simp[h])
   exact .inr (by simp[h])
  cases h
 split
 ·rintro(⟨h,_⟩|⟨_,hf|⟨_,hf⟩|⟨_,_,hf⟩⟩|⟨h,_⟩)
  ·cases h
  ·exact hf (room [_] _ zI λg hg=>hg.imp id λh=>by simpa using h)
  ·refine hf (room [λy=>fF F x.a (ak.aB y x.b.toNat false),λy=>fF F x.a (ak.aB y x.b.toNat true)] _ zI λg hg=>?_);rcases hg with(h|h)|h
   ·exact .inl h
   ·exact .inr (by simp[h])
   exact .inr (by simp[h])
  ·refine hf (room [λy=>fF F x.a (ak.aB y x.b.toNat false),λy=>fF F x.a (ak.aB y x.b.toNat true),dK n (fF F) x] _ zI λg hg=>?_);rcases hg with((h|h)|h)|h
   ·exact .inl h
   ·exact .inr (by simp[h])
   ·exact .inr (by simp[h])
   exact .inr (by simp[h])
  cases h
 rintro(⟨h,_⟩|⟨_,hf⟩|⟨h,_⟩)
 ·cases h
 ·exact hf (room [_] _ zI λg hg=>hg.imp id λh=>by simpa using h)
 cases h
theorem Z9(L:List aq.Fn)(g:aq.Fn):k7 L g<=L.length:=List.countP_le_length
theorem QK(h:nv n cap (jN F) (fF F) x o 8):∃g,65533<=k7 (jN F) g:=by
 have big:∀g k,k7 (jN F) g+k=65535->k<=2->∃g,65533<=k7 (jN F) g:=λg k h hk=>⟨g,by omega⟩;have each:∀q,pU n cap (jN F) q x.x (fF F x.a) o 8->∃g,65533<=k7 (jN F) g:=λq h=>by
  rcases h with⟨h,_⟩|⟨h,_⟩|⟨_,⟨_,h⟩|⟨i,_,_,h,_⟩⟩
  ·cases h
  ·cases h
  ·exact⟨_,xbN zD h.2⟩
  exact⟨_,xbN zD h.2.1⟩
 unfold nv at h;split at h
 ·exact each _ h
 split at h
 ·exact each _ h
 split at h
 ·rcases h with⟨h,_⟩|⟨h,_⟩|⟨_,⟨_,h⟩|⟨_,_,_,a,ha,h⟩|⟨_,_,_,_,a,b,ha,hb,h⟩⟩
  ·cases h
  ·cases h
  ·exact big _ 0 h zO
  ·exact big _ a h (by have:=ha.le;omega)
  exact big _ (a+b) (by rw[<-xcN];exact h) (by have:=ha.le;have:=hb.le;omega)
 rcases h with⟨h,_⟩|⟨h,_⟩|⟨_,h⟩
 ·cases h
 ·cases h
 exact⟨_,xbN zD h.2⟩
theorem Vg(h:(jN F).length<65533):¬nv n cap (jN F) (fF F) x o 8:=λht=>by
 obtain⟨g,hg⟩:=QK ht;have:=Z9 (jN F) g;omega
theorem sD{w f:Nat}(h:kE sp c nx F ord tr H)(hc:c.Ok)(BD:nx+1<9223372036854775808)(hx:x.x<18446744073709551616)(hm:fx x.op=some (w,f))(hf:jk f x.op w)(fM:aW zQ f=true)(hw:w<256)(hl:lZ c.n F w x=0)
 (hr:(F.length+3)*2^c.n+2<=c.cap)(h8:F.length<65533):
  Fc zQ 9 #[ptr sp,x.v] H (λv H'=>v=eP 0 nx 0 1/\kE sp c (nx+1) (F++[((nx:Int),dK c.n (fF F) x)]) ord [] H'):=by
 have hlen:(jN F).length=F.length:=by unfold jN;rw[xax]
 have no9:∀o,¬nv c.n c.cap (jN F) (fF F) x o 9:=λo=>QJ (by rw[hlen];exact hr);refine qW (λv H h=>?_) (λw' f' hm'=>?_) (λf hn=>by rw[hm]at hn;cases hn) (λhn=>by rw[hm]at hn;cases hn)
 ·obtain⟨rfl,_⟩:=h;exact⟨_,_,_,_,rfl⟩
 rw[hm]at hm';cases hm';refine(Ks (R:=λ_ _=>False) h hc BD hx hf fM hw hl λhT _ _=>absurd hT (no9 _)).mono ?_;rintro v H' ⟨t,o,cu,ht,hT,hq⟩;have h1:t=1/\o=ord:=by
  cases hT with
  |one=>exact⟨rfl,rfl⟩
  |more h h9 _=>exact absurd h9 (no9 _)
 obtain⟨rfl,rfl⟩:=h1;rcases hq with⟨rfl,h',_⟩|⟨e,he,_,_,Ub,_⟩
 ·exact⟨rfl,h'⟩
 rcases he with rfl|rfl
 ·exact absurd Ub (Vg (by rw[hlen];exact h8))
 exact absurd Ub (no9 _)
theorem Vr{w f:Nat}(h:kE sp c nx F ord tr H)(hx:x.x<18446744073709551616)(hm:fx x.op=some (w,f))(hw:w<256)(hl:lZ c.n F w x≠0):
  Fc zQ 9 #[ptr sp,x.v] H (λv H'=>v=eP (lZ c.n F w x) (-1) 0 0/\H'=H):=by
 refine qW (λv H h=>?_) (λw' f' hm'=>?_) (λf hn=>by rw[hm]at hn;cases hn) (λhn=>by rw[hm]at hn;cases hn)
 ·obtain⟨rfl,_⟩:=h;exact⟨_,_,_,_,rfl⟩
 rw[hm]at hm';cases hm';exact Fc.mono (vL h hx hw hl) λv H ⟨e1,e2⟩=>⟨e2,e1⟩
theorem D7{f:Nat}{Q:zV->Hp->Prop}(hm:fx x.op=none)(ha:m6 x.op=some f)(hQ:∀v H,Q v H->aap v)(h:Fc zQ f #[ptr sp,x.v] H Q):Fc zQ 9 #[ptr sp,x.v] H Q:=
 qW hQ (λw f hn=>by rw[hm]at hn;cases hn) (λf' _ dM _=>by rw[ha]at dM;cases dM;exact h) (λ_ hn=>by rw[ha]at hn;cases hn)
end
def awS:List eB:=[⟨1,0,0,0,0⟩,⟨1,1,0,0,0⟩,⟨4,0,1,0,0⟩,⟨16,2,0,0,0⟩,⟨14,2,0,0,3⟩,⟨1,2,0,0,0⟩]
def awR:List Rp:=[⟨0,0,0,1⟩,⟨0,1,0,1⟩,⟨0,2,0,1⟩,⟨0, -1,1,0⟩,⟨0, -1,1,0⟩,⟨2, -1,0,0⟩]
def awF:FS:=[(0,λy=>y.testBit 0),(1,λy=>y.testBit 1),(2,λy=>y.testBit 0&&y.testBit 1)]
def X9:Cf:=⟨2,1048576,0,100,0⟩
theorem Bn:X9.Ok:=⟨by decide,by decide,by decide,by decide,by decide,by decide⟩
theorem WS{i sp:Nat}{H:Hp}{x:eB}(hx:awS[i]? =some x)(h:kE sp X9 (min i 3) (awF.take i) [0,1] [] H):
  Fc zQ 9 #[ptr sp,x.v] H (λv H'=>∃r,awR[i]? =some r/\v=r.v/\kE sp X9 (min (i+1) 3) (awF.take (i+1)) [0,1] [] H'):=by
 have hi:i<6:=(xag.1 hx).1;obtain rfl|rfl|rfl|rfl|rfl|rfl:i=0\/i=1\/i=2\/i=3\/i=4\/i=5:=by omega
 ·cases hx;refine(sD h Bn zD zD (w:=8) rfl (rS rfl).1 (rS (x:=⟨1,0,0,0,0⟩) rfl).2 zD rfl zD zD).mono ?_;rintro v H' ⟨rfl,h'⟩;exact⟨_,rfl,rfl,h'⟩
 ·cases hx;refine(sD h Bn zD zD (w:=8) rfl (rS rfl).1 (rS (x:=⟨1,1,0,0,0⟩) rfl).2 zD rfl zD zD).mono ?_;rintro v H' ⟨rfl,h'⟩;exact⟨_,rfl,rfl,h'⟩
 ·cases hx;refine(sD h Bn zD zD (w:=3) rfl (DY rfl).1 (DY (x:=⟨4,0,1,0,0⟩) rfl).2 zD rfl zD zD).mono ?_;rintro v H' ⟨rfl,h'⟩;exact⟨_,rfl,rfl,h'⟩
 ·cases hx;refine D7 (f:=50) rfl rfl (λv H h=>?_) (Fc.mono (JY h) ?_)
  ·obtain⟨r,_,rfl,_⟩:=h;exact⟨_,_,_,_,rfl⟩
  rintro v H' ⟨rfl,rfl⟩;refine⟨_,rfl,?_,h⟩;have:sat 2 (λy=>y.testBit 0&&y.testBit 1)%Bs=1:=by decide+kernel
  show eP 0 (-1) (sat 2 (λy=>y.testBit 0&&y.testBit 1)%Bs) 0=_;rw[this];rfl
 ·cases hx;refine D7 (f:=48) rfl rfl (λv H h=>?_) (Fc.mono (KT h zD) ?_)
  ·obtain⟨r,_,rfl,_⟩:=h;exact⟨_,_,_,_,rfl⟩
  rintro v H' ⟨rfl,rfl⟩;exact⟨_,rfl,rfl,h⟩
 cases hx;refine(Vr h zD (w:=8) rfl zD zD).mono ?_;rintro v H' ⟨rfl,rfl⟩;exact⟨_,rfl,rfl,h⟩
set_option maxHeartbeats 1000000 in
theorem Gw(B:Hp):Rd zQ 6 #[] B (· =.bool true):=by
 refine aF λg=>TN (aa.eq (Qy 2 _) (Build.mk (cs:=eB.cells ⟨1,0,0,0,0⟩) zK ?_));refine Build.mk (cs:=eB.cells ⟨1,1,0,0,0⟩) zK (Build.mk (cs:=eB.cells ⟨4,0,1,0,0⟩) zK (Build.mk (cs:=eB.cells ⟨16,2,0,0,0⟩) zK (Build.mk (cs:=eB.cells ⟨14,2,0,0,3⟩) zK (Build.mk (cs:=eB.cells ⟨1,2,0,0,0⟩) zK ?_))));refine ax.many (e:=35) (k:=5) (z:=.agg #[.int .u8 0,i64 0,i64 0,i64 0,u64 0]) (awS.map eB.cells) zK zK zK zD zD rfl rfl λbx=>?_;refine aa.fn (bG.left (A:=B)) (Kf (c:=X9.i) (steps:=awS) (Y:=[(bx,_)]) (Xn zD zD rfl) zD (λi sp l H=>l=awR.take i/\kE sp X9 (min i 3) (awF.take i) [0,1] [] H) (λd hd hok sp kp mb C hK=>?_) (λi sp l H x he hx hI hl=>?_)) ?_
 ·have:d=X9:=by
   obtain⟨a1,a2,a3,a4,a5⟩:=d;simp only[X9,Cf.i,uJ.mk.injEq]at hd;simp only[X9,Cf.mk.injEq];omega
  subst this;exact⟨rfl,AX hK⟩
 ·obtain⟨rfl,hI⟩:=hI;refine(WS hx hI).mono ?_;rintro v H' ⟨r,hr,rfl,h'⟩;exact⟨r,rfl,by rw[xbf,hr];rfl,h'⟩
 rintro w H (⟨hne,_⟩|⟨_,sp,l,s,CR,HS,rfl,rfl,hR,hl,hI⟩)
 ·exact absurd Bn.fQ hne
 have hl6:l=awR:=hI.1;subst hl6;refine Ext.two (Build.mk (cs:=Rp.cells ⟨0,0,0,1⟩) zK (Build.mk (cs:=Rp.cells ⟨0,1,0,1⟩) zK (Build.mk (cs:=Rp.cells ⟨0,2,0,1⟩) zK (Build.mk (cs:=Rp.cells ⟨0, -1,1,0⟩) zK (Build.mk (cs:=Rp.cells ⟨0, -1,1,0⟩) zK (Build.mk (cs:=Rp.cells ⟨2, -1,0,0⟩) zK ?_))))));refine ax.many (e:=37) (k:=4) (z:=.agg #[i64 0,i64 0,u64 0,i64 0]) (awR.map Rp.cells) zK zK zK zD zD rfl rfl λby'=>?_;intro J23 h23;refine ae.ia (Split.go zD ?_);refine aa.eh .here (yw (l:=awR) (r:=awR) ((Sl.nU hR zD).mono λ_ h=>?_) ((Xn (T:=37) zD zD rfl).mono λ_ h=>?_) zD) ?_
 ·exact .tail _ (xae _ (xae _ h))
 ·rw[xaE.1 h];exact .head _
 rw[jK.2 rfl];refine aL.mk (JE.mk (h23 _ _ λ_=>?_));exact bg.mk (.skip aM.right) rfl
end
section
theorem eS.same{T:zL->Nat->Prop}{R:zL->zL->Prop}{o:zL}(hR:∀t p,eS T R o t p->∀ls Kt,R p ls->R p Kt->ls=Kt):∀{t:Nat} {p p':zL},eS T R o t p->eS T R o t p'->p=p'
 |t,p,p',h,h'=>by
  induction h generalizing p' with
  |one=>
   cases h' with
   |one=>rfl
   |more h _ _=>have:=h.pos;omega
  |more h a b ih=>
   cases h' with
   |one=>have:=h.pos;omega
   |more h2 a2 b2=>
    obtain rfl:=ih _ h2;rw[hR _ _ h _ _ b b2]
theorem eS.Mv{T:zL->Nat->Prop}{R:zL->zL->Prop}{o:zL}{t k:Nat}{p:zL}(h:eS T R o t p):1<=k->k<t->∃q,eS T R o k q/\T q 9:=by
 induction h with
 |one=>intro a b;omega
 |more h a b ih=>
  intro h1 h2;rename_i t p ls;by_cases hk:k=t
  ·subst hk;exact⟨p,h,a⟩
  exact ih h1 zO
theorem ES{T:zL->Nat->Prop}{R:zL->zL->Prop}{o:zL}(hT:∀t p,eS T R o t p->∀e e',T p e->T p e'->e=e')(hR:∀t p,eS T R o t p->∀ls Kt,R p ls->R p Kt->ls=Kt)
 {t t' m:Nat}{p p':zL}{e e':Nat}(h:eS T R o t p)(h':eS T R o t' p')(he:T p e)(he':T p' e')(h9:e=9->t=m)(XZ:e'=9->t'=m)(hm:t<=m)(hm':t'<=m):t=t'/\p=p'/\e=e':=by
 have lt:∀{t t':Nat} {p p':zL} {e:Nat},eS T R o t p->eS T R o t' p'->T p e->(e=9->t=m)->t'<=m->¬t<t':=λh h' he h9 hm hl=>by
  obtain⟨q,hq,h9q⟩:=h'.Mv h.pos hl;obtain rfl:=hq.same hR h;have:=h9 (hT _ _ h _ _ he h9q);omega
 have a:=lt h h' he h9 hm';have b:=lt h' h he' XZ hm;obtain rfl:t=t':=by omega
 obtain rfl:=h.same hR h';exact⟨rfl,rfl,hT _ _ h _ _ he he'⟩
end
end Go.Proofs
namespace aq
theorem QU{n:Nat}{L L':ak.Fs}(h:∀t,t∈L↔t∈L')(A v:Nat):ak.lvl n L A v=ak.lvl n L' A v:=by
 have key:∀k t,t∈ak.st n L A k↔t∈ak.st n L' A k:=by
  intro k;induction k with
  |zero=>intro t;rw[ak.st,ak.st,ak.ef,ak.ef];exact h t
  |succ k ih=>
   intro t;rw[ak.st,ak.st];split
   ·rw[ak.bV,ak.bV];constructor<;>rintro⟨u,h1,h2⟩
    ·exact⟨u,(ih u).1 h1,h2⟩
    exact⟨u,(ih u).2 h1,h2⟩
   exact ih t
 have nd:∀(L:ak.Fs) k,(ak.st n L A k).Nodup:=by
  intro L k;induction k with
  |zero=>exact ak.jo L
  |succ k ih=>
   rw[ak.st];split
   ·exact ak.kQ _ _ _
   exact ih
 exact ak.jX (ak.gI (nd L n) (nd L' n) (key n))
end aq
namespace aq
section
variable {n:Nat} {ah:Nat->Nat} {ord:zL} {N:er} {S:Nat->Fn} {R:Nat->Prop}
theorem MJ(h:WF n ah N)(hl:jH n ah)(ho:Ord n ah ord)(hi:Interp N S)(hR:∀r,R r->live N r)(hr:Reach N R){l:Nat}(y4:l<n)(g:Fn):(fs ord (Fs S R) l g/\bT g (ord.getD l 0))↔∃r d,N r=some d/\d.v=ord.getD l 0/\g=S r:=by
 obtain⟨v1,v2⟩:=ho.bc l y4;constructor
 ·rintro⟨hf,x,hx⟩;obtain⟨r,ha,rfl⟩:=(DD h hl ho hi hR l zO g).1 hf;obtain⟨hlv,hle⟩:=qI h hR l r ha;by_cases e:dep n ah N r=l
  ·rcases hlv with hc|⟨d,hd⟩
   ·rw[aS (h.const hc)]at e;omega
   rw[an hd]at e;exact⟨r,d,hd,hl.inj _ _ (h.var hd) v1 zO,rfl⟩
  exact absurd (by rw[h.bJ hl hi hlv v1 zO,h.bJ hl hi hlv v1 zO]) hx
 rintro⟨r,d,hd,kB,rfl⟩;have hv:=h.var hd;have hlt:=hl.lt _ hv;have ni:ah d.v=l:=by rw[kB,v2]
 refine⟨(DD h hl ho hi hR _ zO _).2 ⟨r,by have:=TU h hr _ r d hd (xai _);rwa [ni]at this,rfl⟩,?_⟩;rw[<-kB];refine xaD λhno=>h.ne hd (h.same hl hi (h.lo hd).1 (h.hi hd).1 λx=>?_);have c1:=h.child hl hi hd x false;have c2:=h.child hl hi hd x true;simp only[xaP,xa1,xa5]at c1 c2;rw[<-c1,<-c2];exact xaD λhne=>hno ⟨x,hne⟩
theorem Ny(h:WF n ah N)(hl:jH n ah)(hi:Interp N S){dom:zL}{v:Nat}(hd:dom.Nodup)(hm:∀r,r∈dom↔∃d,N r=some d/\d.v=v):nt (λg=>∃r d,N r=some d/\d.v=v/\g=S r) dom.length:=by
 refine⟨dom.map S,?_,by simp,λg=>?_⟩
 ·refine xbI.2 (hd.imp_of_mem λ{a b} ha hb hne heq=>hne ?_);obtain⟨d1,h1,_⟩:=(hm a).1 ha;obtain⟨d2,h2,_⟩:=(hm b).1 hb;exact h.same hl hi (.inr ⟨d1,h1⟩) (.inr ⟨d2,h2⟩) λx=>by rw[heq]
 rw[xan];constructor
 ·rintro⟨r,d,h1,h2,rfl⟩;exact⟨r,(hm r).2 ⟨d,h1,h2⟩,rfl⟩
 rintro⟨r,h1,rfl⟩;obtain⟨d,h2,h3⟩:=(hm r).1 h1;exact⟨r,d,h2,h3,rfl⟩
end
theorem Ok.Nx{K:Kd}{S:Nat->Fn}{ah:Nat->Nat}{ord:zL}(h:Ok K S ah)(ho:Ord K.n ah ord){j:Nat}(hj:j<K.n){l:List (Nd×Nat)}(fA:(l.map Prod.fst).Nodup)(hl:∀d r,(d,r)∈l↔K.T d=some r/\d.v=ord.getD j 0):nt (λg=>fs ord (K.held S) j g/\bT g (ord.getD j 0)) l.length:=by
 have hT:∀d r,K.T d=some r↔K.N r=some d:=λd r=>by
  rw[h.mid.kg];exact⟨λh=>h.1,λh=>⟨h,λe=>e⟩⟩
 have ags:∀r,r∈l.map Prod.snd↔∃d,K.N r=some d/\d.v=ord.getD j 0:=λr=>by
  rw[xan];constructor
  ·rintro⟨⟨d,r'⟩,h1,rfl⟩;obtain⟨h2,h3⟩:=(hl d r').1 h1;exact⟨d,(hT d r').1 h2,h3⟩
  rintro⟨d,h1,h2⟩;exact⟨(d,r),(hl d r).2 ⟨(hT d r).2 h1,h2⟩,rfl⟩
 have hdn:(l.map Prod.snd).Nodup:=by
  refine xbI.2 ((xbI.1 fA).imp_of_mem λ{a b} ha hb hne heq=>hne ?_);have h1:=(hT a.1 a.2).1 ((hl a.1 a.2).1 ha).1;have h2:=(hT b.1 b.2).1 ((hl b.1 b.2).1 hb).1;rw[heq,h2]at h1;exact(xbh h1).symm
 have c1:=Ny h.wf h.lv h.mid.int hdn ags;rw[xax]at c1;exact c1.congr λg=>(MJ h.wf h.lv ho h.mid.int (λr hr=>.inr (h.mid.held r hr)) h.reach hj g).symm
end aq
set_option maxRecDepth 100000
namespace Go.Proofs
open Go Go.Sx
section
open aq Pu
section
open Classical in
noncomputable def LF(n:Nat)(ord:zL)(F:aq.Fn->Prop)(v:Nat):Nat:=
 if h:∃k,nt (λg=>∃j,j<n/\ord.getD j 0=v/\fs ord F j g/\bT g v) k then Classical.choose h else 0
theorem Yj{n:Nat}{ord:zL}{F:aq.Fn->Prop}{v k:Nat}(h:nt (λg=>∃j,j<n/\ord.getD j 0=v/\fs ord F j g/\bT g v) k):LF n ord F v=k:=by
 unfold LF;rw[xd1 ⟨k,h⟩];exact(xcf (⟨k,h⟩:∃k,nt (λg=>∃j,j<n/\ord.getD j 0=v/\fs ord F j g/\bT g v) k)).uniq h
theorem LD{n:Nat}{ord:zL}{F G:aq.Fn->Prop}(e:∀g,F g↔G g)(v:Nat):LF n ord F v=LF n ord G v:=by rw[show F=G from funext λg=>propext (e g)]
def Et(w:Nat->Nat)(v:Nat):It:=((v:Int),IntKind.i64.wrap (0-((w v:Nat):Int)))
def QS(w:Nat->Nat)(n:Nat)(l:zL):Prop:=l.Perm (List.range n)/\l.Pairwise λa b=>prec (Et w b) (Et w a)=false
theorem J4{w:Nat->Nat}:∀{l l':zL},l.Perm l'->l.Pairwise (λa b=>prec (Et w b) (Et w a)=false)->l'.Pairwise (λa b=>prec (Et w b) (Et w a)=false)->l=l'
 | [],l',hp,_,_=>(List.nil_perm.1 hp).symm
 |a::l,[],hp,_,_=>by have:=hp.length_eq;simp at this
 |a::l,b::l',hp,h,h'=>by
  obtain⟨h1,h2⟩:=xen.1 h;obtain⟨h3,h4⟩:=xen.1 h';have e:a=b:=by
   rcases xaj.1 (hp.mem_iff.1 (xby ..))with e|ha
   ·exact e
   rcases xaj.1 (hp.mem_iff.2 (xby ..))with e|hb
   ·exact e.symm
   have q1:=ij.1 (h1 b hb);have q2:=ij.1 (h3 a ha);simp only[Et]at q1 q2;omega
  subst e;rw[J4 ((List.perm_cons a).1 hp) h2 h4]
theorem QS.uniq{w:Nat->Nat}{n:Nat}{l l':zL}(h:QS w n l)(h':QS w n l'):l=l':=J4 (h.1.trans h'.1.symm) h.2 h'.2
variable {kp:Nat} {K:Kd} {S:Nat->aq.Fn} {ord tr:zL} {C:Hp}
theorem NL(hA:At kp K S ord tr C){v:Nat}(hv:v<K.n):Rd zQ 165 #[ptr kp,iv (v:Int)] C (· =.tuple #[iv ((LF K.n ord (K.held S) v:Nat):Int),iv 0]):=by
 obtain⟨K',S',bR,h,hk⟩:=hA;have hn':=hk.n;refine(MO h.rep (by rw[hn'];exact hv)).mono ?_;rintro r H ⟨e,l,h1,h2,rfl⟩;refine⟨e,?_⟩;have kZ:=h.od;have Dl:=kZ.of h.ok.lv (v:=v) (by rw[hn'];exact hv);have T3:=h.ok.lv.lt v (by rw[hn'];exact hv);have hc:=h.ok.Nx kZ T3 h1 (by rw[Dl];exact h2);have hu:LF K.n ord (K.held S) v=l.length:=by
  rw[<-hn',<-LD (λg=>hk.held g)];refine Yj (hc.congr λg=>?_);rw[Dl];constructor
  ·rintro⟨a,b⟩;exact⟨lv bR v,T3,Dl,a,b⟩
  rintro⟨j,hj,e1,a,b⟩;have:j=lv bR v:=by
   have:=(kZ.bc j hj).2;rw[e1]at this;exact this.symm
  subst this;exact⟨a,b⟩
 rw[hu]
theorem Mp(h:At kp K S ord tr C):Fc zQ 110 #[ptr kp] C (λr H=>∃N l,H=N++C/\QS (LF K.n ord (K.held S)) K.n l/\aT 3 .i64 r (iw l) N):=by
 have hn:=h.lT;obtain⟨w,hw⟩:∃w,w=LF K.n ord (K.held S):=⟨_,rfl⟩;rw[<-hw];refine aF λg=>Jp ?_;refine ae.aI (Br.no ?_);refine aa.fq (VZ C) ?_;rintro w0 H ⟨bh,C0,rfl,rfl,FV⟩;refine aa.eq (m4 h) ?_;refine⟨λvs H=>∃(i:Nat) (l:List It) (C':Hp),vs=[iv (i:Int)]/\i<=K.n/\H=C'++C/\W9 (.pointer (some ⟨bh,0,none⟩)) l C'/\l.Perm ((List.range i).map (Et w)),λvs _=>K.n-bN vs 0,JE.mk ⟨0,[],C0,rfl,xaO _,rfl,FV,.refl _⟩,?_⟩;rintro w1 H ⟨i,l,C',⟨⟩,hi,rfl,hh,hp⟩ gs;have ni:l.length=i:=by have:=hp.length_eq;simpa using this
 refine ae.fy (Br.dec (λhlt=>?_) (λhge=>?_))
 ·refine aa.eq (NL h hlt) ?_;rw[<-hw];apply Ext.two;refine⟨_,rfl,?_⟩;refine aa.fq (Rz hh zO _ _) ?_;rintro r C2 ⟨l2,hh2,⟨hin,_⟩|⟨_,rfl,dD⟩⟩
  ·exfalso;obtain⟨y,hy,e⟩:=xan.1 hin;obtain⟨z,hz,e2⟩:=xan.1 (hp.mem_iff.1 hy);rw[<-e2]at e;have:=xaM.1 hz;simp only[Et]at e;omega
  refine ae.inc ?_;refine aC.mk ⟨i+1,l2,C2,rfl,hlt,rfl,hh2,?_⟩ (by simp only[bN];omega);refine dD.trans ?_;rw[xce,xaA];exact(List.Perm.cons _ hp).trans (xdz _ _).symm
 obtain rfl:i=K.n:=by omega
 refine⟨λvs H=>∃(s:zV) (done:zL) (l:List It) (CS C':Hp),vs=[s]/\H=CS++(C'++C)/\W9 (.pointer (some ⟨bh,0,none⟩)) l C'/\aT 3 .i64 s (iw done) CS/\(done.map (Et w)++l).Perm ((List.range K.n).map (Et w))/\done.Pairwise (λa b=>prec (Et w b) (Et w a)=false)/\(∀a∈done,∀b∈l,prec b (Et w a)=false),λvs _=>K.n-sln vs,JE.mk ⟨_,[],l,[],C',rfl,rfl,hh,aT.nil,hp,List.Pairwise.nil,by simp⟩,?_⟩;clear hp hh ni;rintro w2 H ⟨s,done,l,CS,C',⟨⟩,rfl,hh,hs,hp,hpw,hpd⟩ gs;have hlen:done.length+l.length=K.n:=by have:=hp.length_eq;simpa using this
 refine aa.eq (V6 hh) ?_;refine ae.nB (b:=0) (Br.dec (λhlt=>?_) (λhge=>?_))
 ·refine aa.fq (VX hh zO) ?_;rintro r C2 ⟨l2,hh2,⟨rfl,_⟩|⟨a,dD,hmin,rfl⟩⟩
  ·simp at hlt
  have Pj:a∈l:=dD.mem_iff.2 (.head _);obtain⟨x,hx,hxa⟩:=xan.1 (hp.mem_iff.1 (xab _ Pj));subst hxa;refine Ext.mk rfl (Ext.mk rfl (Ext.mk rfl ?_));refine ax.int (e:=3) (x:=(x:Int)) zK zK zK λbx=>?_;refine hs.rV (x:=(x:Int)) (.cons .left) (by exact .head _) (by rw[au];omega) (by rw[au];omega) λs2 CS2 sK=>?_;have e1:∀{s:zV} {done:zL} {CS:Hp},aT 3 .i64 s (iw done) CS->sln [s]=done.length:=λ{s done CS} h=>by
   obtain⟨a,c,h⟩:=aU.len h;rw[h];simp[sln,iw]
  refine aC.of .tail ⟨s2,done++[x],l2,CS2,C2,rfl,rfl,hh2,by rw[cG];exact sK,?_,?_,?_⟩ ?_
  ·refine .trans ?_ hp;rw[xaA,xak];exact xbV _ dD.symm
  ·refine List.pairwise_append.2 ⟨hpw,List.pairwise_singleton _ _,λd hd y hy=>?_⟩;rw[xaE.1 hy];exact hpd d hd _ Pj
  ·intro d hd b hb;have T7:b∈l:=dD.mem_iff.2 (.tail _ hb);rcases xao.1 hd with hd|hd
   ·exact hpd d hd b T7
   rw[xaE.1 hd];exact hmin b T7
  rw[e1 (done:=done++[x]) (by rw[cG];exact sK),e1 hs,xaf,xcg];have:=dD.length_eq;rw[xay]at this;omega
 have hl0:l=[]:=xcQ.1 zO;subst hl0;rw[xaL]at hp;refine aN.mk (aM.dc .right CS) ⟨CS,done,rfl,⟨?_,hpw⟩,hs⟩;have e:∀l:zL,(l.map (Et w)).map (λi=>i.1.toNat)=l:=λl=>by
  rw[xcl]
  conv=>rhs;rw[<-xeK l]
  exact xbn λx _=>by simp[Et]
 have:=hp.map λi=>i.1.toNat;rwa [e,e]at this
end
end
section
open aq
def AG(m:Rm)(g:Nat)(W:zL->Nat->Nat)(ord:zL):List (zL)->Prop
 | []=>True
 |l::r=>QS (W ord) m.n l/\AG m g W (ay ord (m.cj g ord l).1) r
theorem tt{m:Rm}{g:Nat}{W:zL->Nat->Nat}{l:zL}:∀{ls:List (zL)} {ord:zL},AG m g W ord ls->QS (W (ay ord (m.cL g ord ls).1)) m.n l->AG m g W ord (ls++[l])
 | [],ord,_,h=>⟨h,trivial⟩
 |a::r,ord,h,h'=>⟨h.1,tt h.2 (by rw[Rm.cL]at h';simp only at h';rw[cg]at h';exact h')⟩
theorem nS{m:Rm}{g:Nat}{W:zL->Nat->Nat}:∀{ls:List (zL)} {ord:zL},AG m g W ord ls->∀l∈ls,l.Perm (List.range m.n)
 |a::r,ord,h,l,hl=>by
  rcases xaj.1 hl with rfl|hl
  ·exact h.1.1
  exact nS h.2 l hl
theorem tq{m:Rm}{g:Nat}{W:zL->Nat->Nat}:∀{ls Kt:List (zL)} {ord:zL},AG m g W ord ls->AG m g W ord Kt->m.oe g ord ls->m.oe g ord Kt->ls=Kt
 |a::r,a'::r',ord,h,h',hg,KC=>by
  obtain rfl:=h.1.uniq h'.1
  match r,r' with
  | [],[]=>rfl
  | [],b'::s'=>exact absurd KC.1 hg
  |b::s,[]=>exact absurd hg.1 KC
  |b::s,b'::s'=>rw[tq h.2 h'.2 hg.2 KC.2]
section
variable {kp v gr:Nat} {K:Kd} {S:Nat->aq.Fn} {ord tr:zL} {C:Hp}
theorem Cg(h:At kp K S ord tr C)(hp:ord.Perm (List.range K.n))(mB:100<=gr/\gr<=1000)(eU:tr.length<17317308137472):
  Fc zQ 78 #[ptr kp,iv (gr:Int)] C (λv H=>∃l,QS (LF K.n ord (K.held S)) K.n l/\v=.tuple #[rep (cE K S ord) (cE K S (ay ord ((rm K S).cj gr ord l).1)) ((rm K S).cj gr ord l).2,iv 0]/\At kp K S (ay ord ((rm K S).cj gr ord l).1) (tr++((rm K S).cj gr ord l).1) H):=by
 have hn:=h.lT;have vX:(rm K S).n=K.n:=rfl;refine aF λg=>Og λb1 _=>?_;refine aa.eq (qc kp (gr:=(gr:Int)) C) ?_;rw[xac zO];refine ae.cK (Br.F (aa.eq (cD h) (Build.mk (cs:=[iv ((cE K S ord:Nat):Int),iv 0,iv 0,.bool false]) zK λUg _=>?_)));refine St.q ?_;refine aa.fq (Mp h) ?_;rintro s H ⟨NQ,l,rfl,hqs,hQ⟩;have hl:=hqs.1;have ni:l.length=K.n:=by rw[hl.length_eq,xaH]
 refine hQ.bX ?_;rw[au,ni];refine⟨λvs H=>∃(i:Nat) (C':Hp),vs=[iv (i:Int)]/\i<=K.n/\H=(Ug,.cells (List.toArray [iv ((cE K S ord:Nat):Int),iv 0,iv ((((rm K S).cj gr ord (l.take i)).2:Nat):Int),.bool false]) 97 zZ)::(b1,.cells #[iv 0,iv 0,iv 0,.bool false] 97 zZ)::(NQ++C')/\At kp K S (ay ord ((rm K S).cj gr ord (l.take i)).1) (tr++((rm K S).cj gr ord (l.take i)).1) C',
  λvs _=>K.n-bN vs 0,JE.mk ⟨0,C,rfl,xaO _,rfl,by simpa[Rm.cj,ay]using h⟩,?_⟩
 rintro w H ⟨i,C',⟨⟩,hi,rfl,hA⟩ gs;have hok:=mH (m:=rm K S) (g:=gr) (l:=l.take i) hp (λv hv=>xaM.1 (hl.mem_iff.1 (xcH hv)));have hlt:(l.take i).length<=64:=by rw[xbF];omega
 have h1:=hok.len;have h2:=hok.uQ;have h3:(rm K S).n*(l.take i).length<=64*64:=xb7 hn hlt;have h4:3*((rm K S).n-1)*(l.take i).length<=(3*64)*64:=xb7 (xdb _ (by rw[vX];omega)) hlt;have Zm:=mF hp hok.mem;refine ae.fy (Br.dec (λhlt=>?_) (λhge=>?_))
 ·have RK:i<l.length:=by omega
  have ny:l.take (i+1)=l.take i++[l[i]]:=xa7 RK;refine hQ.ld (x:=((l[i]:Nat):Int)) (de (xaa RK)) (λ_ h=>.tail _ (.tail _ (xae _ h))) ?_;have FM:l[i]<K.n:=xaM.1 (hl.mem_iff.1 (xaJ RK));refine aa.fq (UL hA Zm FM mB (by rw[xaf];omega) rfl) ?_;rintro w C2 ⟨rfl,ob⟩;have uz:=(rm K S).AA gr (ord:=ay ord ((rm K S).cj gr ord (l.take i)).1) (FI Zm FM);have BC:=uz.uQ;rw[vX]at BC;have VU:=yp (m:=rm K S) (g:=gr) (v:=l[i]) (l:=l.take i) (ord:=ord);rw[<-ny]at VU;rw[xak,<-cg]at ob;refine Ext.two λb30 _=>(St.q ?_);refine Ld.f ?_;refine Ld.f ?_;refine ae.fE (ai.mk (St.one (c':=List.toArray [iv ((cE K S ord:Nat):Int),iv 0,iv ((((rm K S).cj gr ord (l.take (i+1))).2:Nat):Int),.bool false]) (by exact .tail (.head _)) rfl zI (by rw[VU];rfl) ?_));exact ae.inc (aC.of .tail ⟨i+1,C2,rfl,hlt,rfl,by rw[VU];exact ob⟩ (by simp only[bN];omega))
 obtain rfl:i=K.n:=by omega
 rw[show l.take K.n=l from by rw[<-ni];exact xa9]at hA⊢;refine aa.eq (cD hA) (ai.mk (St.one (c':=List.toArray [iv ((cE K S ord:Nat):Int),iv ((cE K S (ay ord ((rm K S).cj gr ord l).1):Nat):Int),iv ((((rm K S).cj gr ord l).2:Nat):Int),.bool false]) (by exact .head _) rfl zI rfl ?_));refine az.q ?_;refine St.q ?_;refine az.q ?_;exact aN.mk (.skip (.skip .right)) ⟨l,hqs,rfl,hA⟩
theorem B5(h:At kp K S ord tr C)(hp:ord.Perm (List.range K.n))(mB:100<=gr/\gr<=1000)(eU:tr.length<17042430230528):
  Fc zQ 79 #[ptr kp,iv (gr:Int)] C (λv H=>∃ls,AG (rm K S) gr (λo=>LF K.n o (K.held S)) ord ls/\(rm K S).oe gr ord ls/\v=.tuple #[rep (cE K S ord) (cE K S (ay ord ((rm K S).cL gr ord ls).1)) ((rm K S).cL gr ord ls).2,iv ((ls.length:Nat):Int),iv 0]/\At kp K S (ay ord ((rm K S).cL gr ord ls).1) (tr++((rm K S).cL gr ord ls).1) H):=by
 have hn:=h.lT;have hsz:=gm h;have vX:(rm K S).n=K.n:=rfl;have Dj:∀o,(rm K S).size o=cE K S o:=λ_=>rfl;refine aF λg=>Of λb1 _=>?_;refine aa.eq (qc kp (gr:=(gr:Int)) C) ?_;rw[xac zO];refine ae.cK (Br.F (aa.eq (cD h) (Build.mk (cs:=[iv ((cE K S ord:Nat):Int),iv 0,iv 0,.bool false]) zK λUg _=>?_)));refine St.q ?_;refine⟨λvs H=>∃(ls:List (zL)) (af:Int) (C':Hp),vs=[iv ((ls.length+1:Nat):Int)]/\AG (rm K S) gr (λo=>LF K.n o (K.held S)) ord ls/\(rm K S).sR gr ord ls/\H=(Ug,.cells (List.toArray [iv ((cE K S ord:Nat):Int),iv af,iv ((((rm K S).cL gr ord ls).2:Nat):Int),.bool false]) 97 zZ)::(b1,.cells #[iv 0,iv 0,iv 0,.bool false] 97 zZ)::C'/\At kp K S (ay ord ((rm K S).cL gr ord ls).1) (tr++((rm K S).cL gr ord ls).1) C',
  λvs _=>cE K S ord+1-bN vs 0,JE.mk ⟨[],0,C,rfl,trivial,trivial,rfl,by simpa[Rm.cL,ay]using h⟩,?_⟩
 rintro w H ⟨ls,af,C',⟨⟩,hqq,hgd,rfl,hA⟩ gs;have hls:∀l∈ls,l.Perm (List.range K.n):=nS hqq;obtain⟨g1,g2,g3,g4⟩:=ze hp hls hgd;rw[vX]at g1 g3 g4;rw[Dj,Dj]at g2;have ni:ls.length<=1048576:=by omega
 have h3:3*(K.n-1)*K.n*ls.length<=(3*64*64)*1048576:=xb7 (xb7 (xdb _ zO) hn) ni;have h4:K.n*K.n*ls.length<=(64*64)*1048576:=xb7 (xb7 hn hn) ni;have Zm:=mF hp g1;refine aa.fq (Cg hA Zm mB (by rw[xaf];omega)) ?_;rintro w C2 ⟨l,hql,rfl,ob⟩;have hl:=hql.1;have hok:=mH (m:=rm K S) (g:=gr) (l:=l) Zm (λv hv=>xaM.1 (hl.mem_iff.1 hv));have BC:=hok.uQ;have hlen:l.length=K.n:=by rw[hl.length_eq,xaH]
 have hle:=hok.le;rw[vX,hlen]at BC;rw[Dj,Dj]at hle;have h5:3*(K.n-1)*K.n<=3*64*64:=xb7 (xdb _ zO) hn;have VU:=yq (m:=rm K S) (g:=gr) (l:=l) (ls:=ls) (ord:=ord);have RC:=tt hqq hql;rw[xak,<-cg]at ob;have KB:=tK (m:=rm K S) (g:=gr) (l:=l) hgd;have hge:=DB (m:=rm K S) (g:=gr) (l:=l) hgd;rw[Dj,Dj]at KB hge;generalize hx:(rm K S).cj gr (ay ord ((rm K S).cL gr ord ls).1) l=x at*;have e1:ay (ay ord ((rm K S).cL gr ord ls).1) x.1=ay ord ((rm K S).cL gr ord (ls++[l])).1:=by rw[VU,cg]
 rw[e1]at KB hge hle;refine Ext.two λb24 _=>(St.q ?_);refine Ld.f ?_;refine Ld.f ?_;refine ae.fE (ai.mk (St.one (c':=List.toArray [iv ((cE K S ord:Nat):Int),iv af,iv ((((rm K S).cL gr ord (ls++[l])).2:Nat):Int),.bool false]) (by exact .tail (.head _)) rfl zI (by rw[VU];rfl) ?_));refine Ld.f ?_;refine ai.mk (St.one (c':=List.toArray [iv ((cE K S ord:Nat):Int),iv ((cE K S (ay ord ((rm K S).cL gr ord (ls++[l])).1):Nat):Int),iv ((((rm K S).cL gr ord (ls++[l])).2:Nat):Int),.bool false]) (by exact .tail (.head _)) rfl zI (by rw[<-e1];rfl) ?_);refine Ld.f ?_;refine Ld.f ?_;rw[e1];refine ae.tJ (Br.dec (λakX=>?_) (λhlt=>?_))
 ·refine az.q ?_;refine St.q ?_;refine az.q ?_;exact aN.mk (.skip (.skip .tail)) ⟨ls++[l],RC,hge zO,by rw[xaf];rfl,by rw[VU];exact ob⟩
 refine ae.inc (aC.of .tail ⟨ls++[l],_,C2,by rw[xaf];rfl,RC,KB zO,rfl,by rw[VU];exact ob⟩ ?_);simp only[bN];omega
end
end
end Go.Proofs
namespace aq
open ak
theorem Wy{n:Nat}{L L':ak.Fs}(hL:∀t∈L,eE n t)(ZU:∀t∈L',eE n t)(h:FT n L=FT n L'):lvl n L=lvl n L':=by
 refine funext λA=>funext λv=>QU (λt=>⟨λht=>?_,λht=>?_⟩) A v
 ·obtain⟨u,hu,e⟩:FT n L' (nD n t):=h▸(⟨t,ht,rfl⟩:FT n L (nD n t));rw[Bc (hL t ht) (ZU u hu) e];exact hu
 obtain⟨u,hu,e⟩:FT n L (nD n t):=h.symm▸(⟨t,ht,rfl⟩:FT n L' (nD n t));rw[Bc (ZU t ht) (hL u hu) e];exact hu
end aq
set_option maxRecDepth 100000
namespace Go.Proofs
open Go Go.Sx
open aq
section
variable {kp:Nat} {K:Kd} {S:Nat->aq.Fn} {ord tr:zL} {C:Hp}
def Eh(m:Rm)(F:aq.Fn->Prop)(ord:zL)(s gr:Nat)(ls:zL)(c:Nat)(d:Bool):Prop:=
 (s=0/\ls=[]/\c=0/\d=false)\/
 (s=1/\∃l,QS (LF m.n ord F) m.n l/\ls=(m.cj gr ord l).1/\c=(m.cj gr ord l).2/\d=false)\/
 (s=2/\∃lss,AG m gr (λo=>LF m.n o F) ord lss/\m.oe gr ord lss/\ls=(m.cL gr ord lss).1/\c=(m.cL gr ord lss).2/\d=false)\/
 ((3<=s/\s<=5)/\ls=(m.pass (s-1) ord).1/\c=(m.pass (s-1) ord).2/\d=false)\/
 (s=6/\∃L:ak.Fs,(∀t∈L,ak.eE m.n t)/\F=FT m.n L/\((m.size ord=ak.B m.n (ak.lvl m.n L) 0/\ls=[]/\c=0/\d=true)\/
  (m.size ord≠ak.B m.n (ak.lvl m.n L) 0/\((m.can ord (path ord (ak.ord m.n (ak.lvl m.n L) m.n 0))=true/\ls=path ord (ak.ord m.n (ak.lvl m.n L) m.n 0)/\c=(path ord (ak.ord m.n (ak.lvl m.n L) m.n 0)).length/\d=true)\/
   (m.can ord (path ord (ak.ord m.n (ak.lvl m.n L) m.n 0))=false/\ls=[]/\c=2*(m.dx 0 (path ord (ak.ord m.n (ak.lvl m.n L) m.n 0)) ord).length/\d=false)))))
theorem Eh.uniq{m:Rm}{F:aq.Fn->Prop}{s gr:Nat}{ls Kt:zL}{c c':Nat}{d d':Bool}(h:Eh m F ord s gr ls c d)(h':Eh m F ord s gr Kt c' d'):ls=Kt/\c=c'/\d=d':=by
 rcases h with⟨rfl,rfl,rfl,rfl⟩|⟨rfl,l,hl,rfl,rfl,rfl⟩|⟨rfl,l,hl,hg,rfl,rfl,rfl⟩|⟨hs,rfl,rfl,rfl⟩|⟨rfl,L,hL,rfl,h⟩
 ·rcases h' with⟨_,rfl,rfl,rfl⟩|⟨h,_⟩|⟨h,_⟩|⟨h,_⟩|⟨h,_⟩
  ·exact⟨rfl,rfl,rfl⟩
  all_goals omega
 ·rcases h' with⟨h,_⟩|⟨_,l',hl',rfl,rfl,rfl⟩|⟨h,_⟩|⟨h,_⟩|⟨h,_⟩
  ·omega
  ·obtain rfl:=hl.uniq hl';exact⟨rfl,rfl,rfl⟩
  all_goals omega
 ·rcases h' with⟨h,_⟩|⟨h,_⟩|⟨_,l',hl',KC,rfl,rfl,rfl⟩|⟨h,_⟩|⟨h,_⟩
  ·omega
  ·omega
  ·obtain rfl:=tq hl hl' hg KC;exact⟨rfl,rfl,rfl⟩
  all_goals omega
 ·rcases h' with⟨h,_⟩|⟨h,_⟩|⟨h,_⟩|⟨_,rfl,rfl,rfl⟩|⟨h,_⟩
  ·omega
  ·omega
  ·omega
  ·exact⟨rfl,rfl,rfl⟩
  omega
 rcases h' with⟨h,_⟩|⟨h,_⟩|⟨h,_⟩|⟨h,_⟩|⟨_,L',ZU,hF,h'⟩
 ·omega
 ·omega
 ·omega
 ·omega
 rw[<-Wy hL ZU hF]at h';rcases h with⟨a,rfl,rfl,rfl⟩|⟨a,⟨b,rfl,rfl,rfl⟩|⟨b,rfl,rfl,rfl⟩⟩<;>rcases h' with⟨a',rfl,rfl,rfl⟩|⟨a',⟨b',rfl,rfl,rfl⟩|⟨b',rfl,rfl,rfl⟩⟩
 ·exact⟨rfl,rfl,rfl⟩
 ·exact absurd a a'
 ·exact absurd a a'
 ·exact absurd a' a
 ·exact⟨rfl,rfl,rfl⟩
 ·rw[b]at b';cases b'
 ·exact absurd a' a
 ·rw[b]at b';cases b'
 exact⟨rfl,rfl,rfl⟩
def W4(kp:Nat)(K:Kd)(S:Nat->aq.Fn)(ord tr:zL)(s gr:Nat)(v:zV)(H:Hp):Prop:=
 ∃(ls:zL) (c:Nat) (d:Bool),v=.tuple #[ud (cE K S ord:Nat) (cE K S (ay ord ls):Nat) (c:Nat) d,iv 0]/\At kp K S (ay ord ls) (tr++ls) H/\tU (rm K S) ord ls/\c<=swB K.n (cE K S ord) s/\(d=true->s=6)/\Eh (rm K S) (K.held S) ord s gr ls c d
theorem W4.shape{s gr:Nat}{v:zV}{H:Hp}(h:W4 kp K S ord tr s gr v H):∃(a b c:Int) (d:Bool) (e:zV),v=.tuple #[ud a b c d,e]:=by
 obtain⟨ls,c,d,rfl,_⟩:=h;exact⟨_,_,_,_,_,rfl⟩
theorem Ck(h:At kp K S ord tr C)(hp:ord.Perm (List.range K.n)){s gr:Nat}(hs:s<=6)(mB:100<=gr/\gr<=1000)(hx:s=6->K.n<=12)(eU:tr.length<16492674416640):
  Fc zQ 45 #[ptr kp,.int .u8 (s:Int),iv (gr:Int)] C (W4 kp K S ord tr s gr):=by
 have hn:=h.lT;have hrn:(rm K S).n=K.n:=rfl;have Dj:∀o,(rm K S).size o=cE K S o:=λ_=>rfl;have win:∀w:Nat,3<=w/\w<=5->Fc zQ 45 #[ptr kp,.int .u8 (w:Int),iv (gr:Int)] C (W4 kp K S ord tr w gr):=λw hw=>by
  refine E6 h hw mB ((WY h (w:=w-1) zO zO).mono ?_) λv H h=>h.shape;rintro v H ⟨rfl,hA⟩;obtain⟨h1,h2⟩:=EX (m:=rm K S) (w:=w-1) (ord:=ord) zO hn;refine⟨_,_,false,rfl,hA,h1,xbN h2 (Nat.le_of_eq ?_),nofun,.inr (.inr (.inr (.inl ⟨hw,rfl,rfl,rfl⟩)))⟩;rw[hrn];obtain rfl|rfl|rfl:w=3\/w=4\/w=5:=by omega
  ·rfl
  ·show(K.n+1-3)*10=(K.n-2)*10;rw[show K.n+1-3=K.n-2 by omega]
  show(K.n+1-4)*46=(K.n-3)*46;rw[show K.n+1-4=K.n-3 by omega]
 obtain rfl|rfl|rfl|h3|rfl:s=0\/s=1\/s=2\/(3<=s/\s<=5)\/s=6:=by omega
 ·refine Fc.mono (Qn h mB) ?_;rintro v H ⟨rfl,rfl⟩;exact⟨[],0,false,rfl,by rw[xaL];exact h,.nil,xaO _,nofun,.inl ⟨rfl,rfl,rfl,rfl⟩⟩
 ·refine Ql h mB ((Cg h hp mB zO).mono ?_) λv H h=>h.shape;rintro v H ⟨l,hl,rfl,hA⟩;obtain⟨h1,h2⟩:=p8 (m:=rm K S) (g:=gr) hp hl.1 hn;exact⟨_,_,false,rfl,hA,h1,h2,nofun,.inr (.inl ⟨rfl,l,hl,rfl,rfl,rfl⟩)⟩
 ·refine E7 h mB ((B5 h hp mB zO).mono ?_);rintro v H ⟨lss,hqs,hg,rfl,hA⟩;have hls:=nS hqs;exact⟨_,_,_,false,_,rfl,_,_,false,rfl,hA,uT hn hp hls hg,EV hp hls hg,nofun,.inr (.inr (.inl ⟨rfl,lss,hqs,hg,rfl,rfl,rfl⟩))⟩
 ·exact win s h3
 have uf:=hx rfl;refine Mg h uf mB ((Um h hp uf zO).mono ?_) λv H h=>h.shape;rintro v H ⟨L,A7,n9,Sg,hQ⟩;have hk:∀p:zL,p.Perm (List.range K.n)->cE K S p=kG K.n p L K.n:=λp hp=>by
  unfold cE;rw[n9];exact Xj A7 zO (Kg hp)
 rcases hQ with⟨e,rfl,hA⟩|⟨hne,o,ls,ho,hls,hQ⟩
 ·exact⟨[],0,true,rfl,by rw[xaL];exact hA,.nil,xaO _,λ_=>rfl,.inr (.inr (.inr (.inr ⟨rfl,L,A7,n9,.inl ⟨e,rfl,rfl,rfl⟩⟩)))⟩
 have hop:o.Perm (List.range K.n):=by rw[ho];exact s6 _
 have hoB:cE K S o=ak.B K.n (ak.lvl K.n L) 0:=by rw[hk o hop,ho];exact sY zO A7
 have hle:ak.B K.n (ak.lvl K.n L) 0<=cE K S ord:=by rw[hk ord hp];exact WR zO A7 hp
 have acd:o.Nodup:=hop.nodup_iff.2 xbg;have Ey:o.length=K.n:=by rw[hop.length_eq,xaH]
 have hdl:ord.length=K.n:=by rw[hp.length_eq,xaH]
 obtain⟨Pd,RA⟩:=AK acd (hp.trans hop.symm);have BC:=Ff acd (hp.trans hop.symm) Ey;rw[<-hls]at Pd RA BC;have els:ls=path ord (ak.ord (rm K S).n (ak.lvl (rm K S).n L) (rm K S).n 0):=by rw[hls,ho];rfl
 have KK:K.n*(K.n-1)<=12*11:=xb7 uf zO;rcases hQ with⟨hc,rfl,hA⟩|⟨hc,rfl,hA⟩
 ·refine⟨ls,_,true,by rw[Pd],by rw[Pd];exact hA,.of (λx hx=>by have:=RA x hx;omega) ?_ ?_ zO,by show ls.length<=K.n*(K.n-1);omega,λ_=>rfl,.inr (.inr (.inr (.inr ⟨rfl,L,A7,n9,.inr ⟨hne,.inl ⟨by rw[<-els];exact hc,els,by rw[<-els],rfl⟩⟩⟩)))⟩
  ·rw[Pd,Dj,Dj];omega
  rw[Pd,Dj,Dj];omega
 have hgl:=(rm K S).mg 0 ls ord;exact⟨[],_,false,rfl,by rw[xaL];exact hA,.nil,by show 2*_<=K.n*(K.n-1);omega,nofun,.inr (.inr (.inr (.inr ⟨rfl,L,A7,n9,.inr ⟨hne,.inr ⟨by rw[<-els];exact hc,rfl,by rw[<-els],rfl⟩⟩⟩)))⟩
end
end Go.Proofs
namespace aq
open ak
variable {n:Nat} {ah:Nat->Nat} {N:er} {S:Nat->Fn} {ord:zL} {R:Nat->Prop} {V:zL}
inductive Rc(N:er)(R:Nat->Prop):Nat->Prop
 |base {r:Nat}:R r->Rc N R r
 |lo {p:Nat} {d:Nd}:Rc N R p->N p=some d->Rc N R d.lo
 |hi {p:Nat} {d:Nd}:Rc N R p->N p=some d->Rc N R d.hi
def NT(N:er)(V:zL):Prop:=∀u∈V,∃d,N u=some d/\(d.lo<2\/d.lo∈V)/\(d.hi<2\/d.hi∈V)
theorem JF(h0:∀r,r<2->N r=none)(hV:NT N V)(hR:∀r,R r->r<2\/r∈V):∀l r,A N ah n R l r->r<2\/r∈V
 |0,r,ha=>hR r ha
 |l+1,r,ha=>by
  rcases ha with⟨h1,_⟩|⟨p,d,h1,h2,_,h4⟩
  ·exact JF h0 hV hR l r h1
  rcases JF h0 hV hR l p h1 with hp|hp
  ·rw[h0 p hp]at h2;cases h2
  obtain⟨d',hd,a,b⟩:=hV p hp;rw[h2]at hd;cases hd;rcases h4 with rfl|rfl
  ·exact a
  exact b
theorem Rc.at(h:WF n ah N)(hR:∀r,R r->live N r){u:Nat}(hu:Rc N R u):∀d,N u=some d->A N ah n R (ah d.v) u:=by
 induction hu with
 |base hr=>
  intro d hd;have:=tg (N:=N) (ah:=ah) (n:=n) (ah d.v) 0 hr (by rw[an hd];omega);rwa [xa2]at this
 | @lo p e hp he ih=>
  intro d hd;have hlt:=(h.lo he).2;rw[an hd]at hlt;have hb:A N ah n R (ah e.v+1) e.lo:=.inr ⟨p,e,ih e he,he,rfl,.inl rfl⟩;have:=tg (ah d.v-(ah e.v+1)) _ hb (by rw[an hd];omega);rwa [show ah e.v+1+(ah d.v-(ah e.v+1))=ah d.v by omega]at this
 | @hi p e hp he ih=>
  intro d hd;have hlt:=(h.hi he).2;rw[an hd]at hlt;have hb:A N ah n R (ah e.v+1) e.hi:=.inr ⟨p,e,ih e he,he,rfl,.inr rfl⟩;have:=tg (ah d.v-(ah e.v+1)) _ hb (by rw[an hd];omega);rwa [show ah e.v+1+(ah d.v-(ah e.v+1))=ah d.v by omega]at this
theorem LJ(h:WF n ah N)(hl:jH n ah)(ho:Ord n ah ord)(hi:Interp N S)(hR:∀r,R r->live N r)(hV:NT N V)(hRV:∀r,R r->r<2\/r∈V)(hVR:∀u∈V,Rc N R u)(g:Fn):aD n ord (Fs S R) g↔∃u∈V,g=S u:=by
 constructor
 ·rintro⟨l,y4,hf,x,hx⟩;obtain⟨v1,v2⟩:=ho.bc l y4;obtain⟨r,ha,rfl⟩:=(DD h hl ho hi hR l zO g).1 hf;rcases JF (λr hr=>h.const hr) hV hRV l r ha with hc|hm
  ·exfalso;have:r=0\/r=1:=by omega
   rcases this with rfl|rfl
   ·exact hx (by rw[hi.zero,hi.zero])
   exact hx (by rw[hi.one,hi.one])
  exact⟨r,hm,rfl⟩
 rintro⟨u,hu,rfl⟩;obtain⟨d,hd,_⟩:=hV u hu;have hv:=h.var hd;refine⟨ah d.v,hl.lt _ hv,(DD h hl ho hi hR _ (xb5 (hl.lt _ hv)) _).2 ⟨u,(hVR u hu).at h hR d hd,rfl⟩,?_⟩;rw[ho.of hl hv];exact gj h hl hi hd
theorem Uq(h:WF n ah N)(hl:jH n ah)(ho:Ord n ah ord)(hi:Interp N S)(hR:∀r,R r->live N r)(hV:NT N V)(hRV:∀r,R r->r<2\/r∈V)(hVR:∀u∈V,Rc N R u)(nd:V.Nodup):nt (aD n ord (Fs S R)) V.length:=by
 have live':∀u∈V,live N u:=λu hu=>let ⟨d,hd,_⟩:=hV u hu;.inr ⟨d,hd⟩
 refine⟨V.map S,?_,by simp,λg=>?_⟩
 ·refine xbI.2 (nd.imp_of_mem λ{a b} ha hb hne e=>hne ?_);exact h.same hl hi (live' a ha) (live' b hb) λx=>congrFun e x
 rw[LJ h hl ho hi hR hV hRV hVR,xan];exact⟨λ⟨u,hu,e⟩=>⟨u,hu,e.symm⟩,λ⟨u,hu,e⟩=>⟨u,hu,e.symm⟩⟩
theorem LK(h:WF n ah N)(hl:jH n ah)(hi:Interp N S)(hV:NT N V){v:Nat}(hno:∀u∈V,∀d,N u=some d->d.v≠v):∀(k u:Nat),n-dep n ah N u<=k->u<2\/u∈V->∀x,S u (aB x v false)=S u (aB x v true):=by
 intro k;have const:∀u,u<2->∀x,S u (aB x v false)=S u (aB x v true):=λu hu x=>by
  have:u=0\/u=1:=by omega
  rcases this with rfl|rfl
  ·rw[hi.zero,hi.zero]
  rw[hi.one,hi.one]
 induction k with
 |zero=>
  intro u hk hu x;rcases hu with hu|hu
  ·exact const u hu x
  obtain⟨d,hd,_⟩:=hV u hu;rw[an hd]at hk;have:=hl.lt _ (h.var hd);omega
 |succ k ih=>
  intro u hk hu x;rcases hu with hu|hu
  ·exact const u hu x
  obtain⟨d,hd,a,b⟩:=hV u hu;have h1:=(h.lo hd).2;have h2:=(h.hi hd).2;have h3:=hl.lt _ (h.var hd);rw[an hd]at hk;have hne:=hno u hu d hd;rw[hi.node hd,hi.node hd,aj,aj,xac hne,xac hne,ih d.lo zO a,ih d.hi zO b]
theorem Rc.bT(h:WF n ah N)(hl:jH n ah)(hi:Interp N S){r u v:Nat}(hu:Rc N (λq=>q=r) u):bT (S u) v->bT (S r) v:=by
 have step:∀(p q:Nat) (d:Nd) (b:Bool),N p=some d->q=(if b then d.hi else d.lo)->aq.bT (S q) v->aq.bT (S p) v:=λp q d b hp hq hv=>by
  have VW:live N q/\ah d.v+1<=dep n ah N q:=by
   cases b
   ·rw[hq];exact h.lo hp
   rw[hq];exact h.hi hp
  have ind:∀x c,S q (aB x d.v c)=S q x:=λx c=>h.bJ hl hi VW.1 (h.var hp) zO x c;obtain⟨x,hx⟩:=hv;have hne:v≠d.v:=λe=>by
   subst e;exact hx (by rw[ind,ind])
  refine⟨aB x d.v b,?_⟩;have e:∀c,S p (aB (aB x d.v b) v c)=S q (aB x v c):=λc=>by
   have tb:(aB (aB x d.v b) v c).testBit d.v=b:=by rw[aj,xac (λe=>hne e.symm),aj,xad rfl]
   rw[hi.node hp,tb,dg (λe=>hne e.symm),<-ind (aB x v c) b,hq];cases b<;>rfl
  rw[e,e];exact hx
 induction hu with
 |base hr=>rw[hr];exact id
 |lo _ he ih=>exact λhv=>ih (step _ _ _ false he rfl hv)
 |hi _ he ih=>exact λhv=>ih (step _ _ _ true he rfl hv)
theorem LL(h:WF n ah N)(hl:jH n ah)(hi:Interp N S){r:Nat}(hV:NT N V)(hr:r<2\/r∈V)(hVR:∀u∈V,Rc N (λq=>q=r) u)(v:Nat):bT (S r) v↔∃u∈V,∃d,N u=some d/\d.v=v:=by
 constructor
 ·rintro⟨x,hx⟩;refine xaD λhno=>hx (LK h hl hi hV (λu hu d hd e=>hno ⟨u,hu,d,hd,e⟩) _ r (xai _) hr x)
 rintro⟨u,hu,d,hd,rfl⟩;exact(hVR u hu).bT h hl hi (gj h hl hi hd)
end aq
set_option maxRecDepth 100000
namespace Go.Proofs
open Go Go.Sx
section
open aq
section
variable {kp mb b7 b1 b3 Bm Uf:Nat} {cap:Array zV} {K:Kd} {S:Nat->aq.Fn} {ord ah tr:zL} {C Z:Hp} {P:zL->Hp->Prop}
def yu(V:zL):List (Nat×Unit):=V.map λr=>(r,())
theorem uY{V:zL}{r:Nat}:aK (yu V) r=if r∈V then some ()else none:=by
 unfold yu;induction V with
 |nil=>rfl
 |cons a V ih=>
  unfold aK at*;rw[xaC,xbB];by_cases e:a=r
  ·subst e;simp
  simp only[e,xdp];rw[ih];have:(r∈a::V)↔r∈V:=by simp[xa8 e]
  by_cases hv:r∈V
  ·rw[xad hv,xad (this.2 hv)]
  rw[xac hv,xac λh=>hv (this.1 h)]
theorem Qf{V:zL}{r:Nat}(h:r∉V):dW (yu V) r ()=yu (V++[r]):=by
 unfold dW yu;rw[xac (by rw[xcl];simpa using h),xaA];rfl
abbrev Eg(es:Array MapEntry)(ck:Nat)(V:zL):Prop:=aE kr (λv (_:Unit)=>v=i64 1) es ck (yu V)
structure Walk(K:Kd)(V V':zL)(r:Nat):Prop where
 nd:V'.Nodup
 sub:∀u∈V,u∈V'
 has:r<2\/r∈V'
 shut:∀u∈V',u∉V->∃d,K.N u=some d/\(d.lo<2\/d.lo∈V')/\(d.hi<2\/d.hi∈V')
 rc:∀u∈V',u∉V->Rc K.N (λq=>q=r) u
def Xc(Uf:Nat)(cap:Array zV)(K:Kd)(P:zL->Hp->Prop):Prop:=aW zQ Uf=true/\∀(V:zL) (r:Nat) (d:Nd) (G:Hp),K.N r=some d->P V G->Fc zQ Uf (#[.agg (bu d).toArray]++cap) G (λv G'=>v=.tuple #[]/\P (V++[r]) G')
theorem yz{N:er}{r q u:Nat}(h1:Rc N (λx=>x=r) q)(h2:Rc N (λx=>x=q) u):Rc N (λx=>x=r) u:=by
 induction h2 with
 |base e=>rw[e];exact h1
 |lo _ hd ih=>exact .lo ih hd
 |hi _ hd ih=>exact .hi ih hd
theorem Up(h:bP kp K S ord ah tr C)(hd:Xc Uf cap K P)(h7:(b7,Obj.cells #[.map (some mb)] 256 zZ)∈Z)(h1:(b1,Obj.cells #[ptr kp] 53 zZ)∈Z)(h3:(b3,Obj.cells #[.func (.func Uf) #[] cap] 189 zZ)∈Z)
 (h10:(Bm,Obj.cells #[.func (.func 194) #[] #[ptr b7,ptr b1,ptr b3,ptr Bm]] 183 zZ)∈Z):
  ∀(k r:Nat) (es:Array MapEntry) (ck:Nat) (V:zL) (G:Hp),K.n-dep K.n (lv ah) K.N r<=k->live K.N r->V.Nodup->Eg es ck V->P V G->
  Fc zQ 194 #[u32 r,ptr b7,ptr b1,ptr b3,ptr Bm] ((mb,.map es ck)::(G++(Z++C))) (λv H=>v=.tuple #[]/\∃es' bC V' G',H=(mb,.map es' bC)::(G'++(Z++C))/\Eg es' bC V'/\P V' G'/\Walk K V V' r):=by
 have stop:∀{r:Nat} {es:Array MapEntry} {ck:Nat} {V:zL} {G:Hp},V.Nodup->Eg es ck V->P V G->(r<2\/r∈V)->
   Fc zQ 194 #[u32 r,ptr b7,ptr b1,ptr b3,ptr Bm] ((mb,.map es ck)::(G++(Z++C))) (λv H=>v=.tuple #[]/\∃es' bC V' G',H=(mb,.map es' bC)::(G'++(Z++C))/\Eg es' bC V'/\P V' G'/\Walk K V V' r):=by
  intro r es ck V G fA hE hP hr;refine aF λg=>xp (aa.eq (pz r _) (c6.or (a:=decide (r<2)) (decide (r∈V)) (λ_=>?_) rfl λ_=>?_))
  ·refine Ld.mk (v:=.map (some mb)) (.tail _ (xab _ (xae _ h7))) rfl ?_;by_cases hm:r∈V
   ·refine hE.hit (k:=r) cW (b:=mb) (by exact .head _) (by rw[uY,xad hm]) λv e=>?_;subst e;exact ae.gtr ⟨rfl,by rw[xam hm];rfl⟩
   refine hE.bO (k:=r) cW (b:=mb) (by exact .head _) (by rw[uY,xac hm]) ?_;exact ae.gtr ⟨rfl,by rw[xal hm];rfl⟩
  rw[<-xa6,xam hr];refine Br.yes (aN.mk (.refl _) ⟨rfl,es,ck,V,G,rfl,hE,hP,⟨fA,λ_ h=>h,hr,λu h h'=>absurd h h',λu h h'=>absurd h h'⟩⟩)
 intro k;induction k with
 |zero=>
  intro r es ck V G hk hr fA hE hP;refine stop fA hE hP (.inl ?_);cases hN:K.N r with
  |some d=>
   rw[an hN]at hk;have:=h.ok.lv.lt _ (h.ok.mid.var hN);omega
  |none=>
   rcases hr with hr|⟨d,e⟩
   ·exact hr
   rw[hN]at e;cases e
 |succ k ih=>
  intro r es ck V G hk hr fA hE hP;by_cases hs:r<2\/r∈V
  ·exact stop fA hE hP hs
  have qv:¬r<2:=λh=>hs (.inl h);have Zh:r∉V:=λh=>hs (.inr h);obtain⟨d,hN⟩:∃d,K.N r=some d:=by
   rcases hr with hr|hr
   ·omega
   exact hr
  have hlo:=h.ok.wf.lo hN;have hhi:=h.ok.wf.hi hN;rw[an hN]at hk;have hvl:=h.ok.lv.lt _ (h.ok.mid.var hN);refine aF λg=>xp (aa.eq (pz r _) (c6.or (a:=decide (r<2)) false (λ_=>?_) rfl λ_=>?_))
  ·refine Ld.mk (v:=.map (some mb)) (.tail _ (xab _ (xae _ h7))) rfl ?_;refine hE.bO (k:=r) cW (b:=mb) (by exact .head _) (by rw[uY,xac Zh]) ?_;exact ae.gtr ⟨rfl,rfl⟩
  rw[xal qv];refine Br.no (Ld.mk (v:=.map (some mb)) (.tail _ (xab _ (xae _ h7))) rfl ?_);refine hE.bK (k:=r) (b:=mb) (x:=()) cW gN rfl λkC jO FX=>⟨_,.head _,?_⟩;rw[Qf Zh]at FX;refine Ld.mk (v:=ptr kp) (.tail _ (xab _ (xae _ h1))) rfl ?_;refine aa.eq (args:=#[ptr kp,u32 r]) (wF h hN) λjc _=>?_;refine St.p (fp d) ?_;refine Ld.mk (v:=.func (.func Uf) #[] cap) (.tail _ (.tail _ (xab _ (xae _ h3)))) rfl ?_;refine az.q ?_;refine aJ.of rfl hd.1 (aa.fn (.cons (.cons .left)) (by simpa using hd.2 V r d G hN hP) ?_);rintro v G1 ⟨rfl,hP1⟩;refine Ld.mk (v:=.func (.func 194) #[] #[ptr b7,ptr b1,ptr b3,ptr Bm]) (.tail _ (.tail _ (xab _ (xae _ h10)))) rfl ?_;refine Ld.f (v:=u32 d.lo) (aJ.of rfl zK ?_);have afV:(V++[r]).Nodup:=xa3.2 ⟨fA,by simp,λa ha b hb e=>Zh (by rw[xaE.1 hb]at e;rwa [<-e])⟩;refine aa.fq (args:=#[u32 d.lo,ptr b7,ptr b1,ptr b3,ptr Bm]) (ih d.lo kC jO (V++[r]) G1 zO hlo.1 afV FX hP1) ?_;rintro v H ⟨rfl,gP,iB,V2,G2,rfl,sO,hP2,w2⟩;refine Ld.mk (v:=.func (.func 194) #[] #[ptr b7,ptr b1,ptr b3,ptr Bm]) (.tail _ (.tail _ (xab _ (xae _ h10)))) rfl ?_;refine Ld.f (v:=u32 d.hi) (aJ.of rfl zK (aa.fq (args:=#[u32 d.hi,ptr b7,ptr b1,ptr b3,ptr Bm]) (ih d.hi gP iB V2 G2 zO hhi.1 w2.nd sO hP2) ?_));rintro v H ⟨rfl,po,qO,V3,G3,rfl,Pn,hP3,w3⟩;have r2:r∈V2:=w2.sub r zI;refine aN.mk .tail ⟨rfl,po,qO,V3,G3,rfl,Pn,hP3,⟨w3.nd,λu hu=>w3.sub u (w2.sub u (xae _ hu)),.inr (w3.sub r r2),λu hu hn=>?_,λu hu hn=>?_⟩⟩
  ·by_cases VP:u∈V2
   ·by_cases FN:u∈V++[r]
    ·rcases xao.1 FN with h'|h'
     ·exact absurd h' hn
     rw[xaE.1 h'];exact⟨d,hN,w2.has.imp id (w3.sub _),w3.has⟩
    obtain⟨e,he,a,b⟩:=w2.shut u VP FN;exact⟨e,he,a.imp id (w3.sub _),b.imp id (w3.sub _)⟩
   exact w3.shut u hu VP
  by_cases VP:u∈V2
  ·by_cases FN:u∈V++[r]
   ·rcases xao.1 FN with h'|h'
    ·exact absurd h' hn
    exact .base (xaE.1 h')
   exact yz (Rc.lo (.base rfl) hN) (w2.rc u VP FN)
  exact yz (Rc.hi (.base rfl) hN) (w3.rc u hu VP)
theorem D1(h:bP kp K S ord ah tr C)(hd:Xc Uf cap K P){r b:Nat}{X G:Hp}(hr:live K.N r)(hP:P [] G)(hm:(b,Obj.cells (aA .u32 [(r:Int)]) 78 zZ)∈X):
  Fc zQ 129 #[ptr kp,.slice (some ⟨b,0,none⟩) 1 1,.func (.func Uf) #[] cap] (G++(X++C)) (λv H=>v=.tuple #[]/\∃V G',H=G'++(X++C)/\P V G'/\V.Nodup/\NT K.N V/\(r<2\/r∈V)/\∀u∈V,Rc K.N (λq=>q=r) u):=by
 refine aF λg=>I6 λb1 _ b3 _ mb _ b7 _=>?_;refine St.one (c':=#[.map (some mb)]) (by exact .head _) rfl zI rfl ?_;intro Bm _;refine St.one (c':=#[.func (.func 194) #[] #[ptr b7,ptr b1,ptr b3,ptr Bm]]) (by exact .head _) rfl zI rfl ?_;refine aR.mk ?_;obtain⟨Z,hZ⟩:∃Z:Hp,Z=(Bm,Obj.cells #[.func (.func 194) #[] #[ptr b7,ptr b1,ptr b3,ptr Bm]] 183 zZ)::(b7,.cells #[.map (some mb)] 256 zZ)::(b3,.cells #[.func (.func Uf) #[] cap] 189 zZ)::(b1,.cells #[ptr kp] 53 zZ)::X:=⟨_,rfl⟩;have Pe:∀(e:Obj),List.Perm ((Bm,Obj.cells #[.func (.func 194) #[] #[ptr b7,ptr b1,ptr b3,ptr Bm]] 183 zZ)::(b7,.cells #[.map (some mb)] 256 zZ)::(mb,e)::(b3,.cells #[.func (.func Uf) #[] cap] 189 zZ)::(b1,.cells #[ptr kp] 53 zZ)::(G++(X++C))) ((mb,e)::(G++(Z++C))):=λe=>by
  rw[hZ];refine((List.Perm.cons _ (List.Perm.swap _ _ _)).trans (List.Perm.swap _ _ _)).trans (.cons _ ?_);have:∀(a b c d:Nat×Obj),(a::b::c::d::(G++(X++C))).Perm (G++(a::b::c::d::(X++C))):=λa b c d=>by
   have:=(xbj (l₁:=[a,b,c,d]) (l₂:=G)).append_right (X++C);simpa[xak]using this
  exact this _ _ _ _
 refine⟨λvs H=>∃(i:Nat) (es:Array MapEntry) (ck:Nat) (V:zL) (G':Hp),vs=[i64 (i:Int)]/\H=(mb,.map es ck)::(G'++(Z++C))/\Eg es ck V/\P V G'/\((i=0/\V=[])\/(i=1/\Walk K [] V r)),λvs _=>1-bN vs 0,JE.of (.perm (Pe _)) ⟨0,#[],0,[],G,rfl,rfl,aE.empty,hP,.inl ⟨rfl,rfl⟩⟩,?_⟩;rintro w H ⟨i,es,ck,V,G',⟨⟩,rfl,hE,hPV,hi⟩ gs;have mZ:∀{x:Nat×Obj},x∈Z->x∈(mb,Obj.map es ck)::(G'++(Z++C)):=λhx=>.tail _ (xab _ (xae _ hx));rcases hi with⟨rfl,rfl⟩|⟨rfl,hw⟩
 ·refine ae.fy (b:=1) (Br.T (av.nat zD ?_));refine Ld.mk (v:=u32 r) (mZ (by rw[hZ];exact .tail _ (.tail _ (.tail _ (.tail _ hm))))) rfl ?_;refine Ld.mk (v:=.func (.func 194) #[] #[ptr b7,ptr b1,ptr b3,ptr Bm]) (mZ (by rw[hZ];exact .head _)) rfl ?_;refine aJ.of rfl zK (aa.fq (args:=#[u32 r,ptr b7,ptr b1,ptr b3,ptr Bm]) (Up (Z:=Z) h hd (by rw[hZ];exact .tail _ (.head _)) (by rw[hZ];exact .tail _ (.tail _ (.tail _ (.head _)))) (by rw[hZ];exact .tail _ (.tail _ (.head _))) (by rw[hZ];exact .head _) K.n r es ck [] G' (xdw _ _) hr List.nodup_nil hE hPV) ?_);rintro v H ⟨rfl,gP,iB,V2,G2,rfl,sO,hP2,w2⟩;exact ae.inc (a:=0) (aC.mk ⟨1,gP,iB,V2,G2,rfl,rfl,sO,hP2,.inr ⟨rfl,w2⟩⟩ (by simp only[bN];decide))
 refine ae.fy (b:=1) (Br.F (aN.mk ?_ ⟨rfl,V,G',rfl,hPV,hw.nd,λu hu=>hw.shut u hu zI,hw.has,λu hu=>hw.rc u hu zI⟩));rw[hZ];exact .skip (.dc (.skip (.skip (.skip .tail))) _)
theorem Bd(h:bP kp K S ord ah tr C)(b6:Nat):Xc 132 #[ptr b6] K (λV G=>∃m:Nat,G=[(b6,.cells #[u64 m] 33 zZ)]/\m<18446744073709551616/\∀v,m.testBit v=true↔∃u∈V,∃d,K.N u=some d/\d.v=v):=by
 refine⟨by kernel_rfl,?_⟩;rintro V r d G hN ⟨m,rfl,hm,hv⟩;have hn:=h.bc.lT;have kB:=h.ok.mid.var hN;refine aF λg=>I4 λb1 _=>?_;refine DR.of (.refl _) (Ld.mk (v:=u64 m) (.tail _ (.head _)) rfl ?_);refine Ld.f (v:=i64 (d.v:Int)) (ae.nP (a:=1) ?_);have e:(1<<<d.v)%18446744073709551616=2^d.v:=by
  rw[xck,xdl];exact xbk (xaN (xbw zD (show d.v<64 by omega)) zD)
 rw[e];have h2:2^d.v<18446744073709551616:=xaN (xbw zD (show d.v<64 by omega)) zD;refine ae.Kj (by simpa[bF]using hm) (by simpa[bF]using h2) λF=>?_;refine St.one (c':=#[u64 (m|||2^d.v)]) (by exact .tail (.head _)) rfl zI rfl ?_;refine aN.mk .tail ⟨rfl,_,rfl,xbH (n:=64) hm h2,λv=>?_⟩;rw[xbX,xbs,hv,xbT,xaK];constructor
 ·rintro(⟨u,hu,e,he,M0⟩|rfl)
  ·exact⟨u,xae _ hu,e,he,M0⟩
  exact⟨r,by simp,d,hN,rfl⟩
 rintro⟨u,hu,e,he,M0⟩;rcases xao.1 hu with hu|hu
 ·exact .inl ⟨u,hu,e,he,M0⟩
 rw[xaE.1 hu,hN]at he;cases he;exact .inr M0
def GD(f:aq.Fn)(m:Nat):Prop:=m<18446744073709551616/\∀v,m.testBit v=true↔bT f v
theorem GD.uniq{f:aq.Fn}{m m':Nat}(h:GD f m)(h':GD f m'):m=m':=xaV λv=>by
 rw[xbE,h.2,h'.2]
theorem DQ(h:bP kp K S ord ah tr C){r:Nat}(hr:live K.N r):
  Rd zQ 92 #[ptr kp,u32 r] C (λv=>∃m,GD (S r) m/\v=.tuple #[u64 m,i64 0]):=by
 refine aF λg=>N5 (ax.int (e:=78) zK zK zK λbx=>?_);refine aa.eh .here (wI (X:=[(bx,_)]) h (by exact .head _) hr) (ae.cK (Br.F λb6 _=>(St.one (c':=#[u64 0]) (by exact .head _) rfl zI rfl ?_)));refine ax.int (e:=78) zK zK zK λby'=>?_;refine aa.pre (H':=[(b6,Obj.cells #[u64 0] 33 zZ)]++([(by',Obj.cells (aA .u32 [(r:Int)]) 78 zZ),(bx,Obj.cells (aA .u32 [(r:Int)]) 78 zZ)]++C)) (.perm (.swap _ _ _)) ?_;refine aa.fn .here (D1 (P:=λV G=>∃m:Nat,G=[(b6,.cells #[u64 m] 33 zZ)]/\m<18446744073709551616/\∀v,m.testBit v=true↔∃u∈V,∃d,K.N u=some d/\d.v=v) h (Bd h b6) hr ⟨0,rfl,by decide,λv=>by simp⟩ (by exact .head _)) ?_;rintro v H ⟨rfl,V,G,rfl,⟨m,rfl,hm,hv⟩,fA,hsh,Zh,hrc⟩;refine Ld.q ?_;refine bg.mk (.skip (.skip .tail)) ⟨m,⟨hm,λv=>?_⟩,rfl⟩;rw[hv,LL h.ok.wf h.ok.lv h.ok.mid.int hsh Zh hrc]
theorem Nu(b4:Nat):Xc 130 #[ptr b4] K (λV G=>∃x:Int,G=[(b4,.cells #[i64 x] 3 zZ)]/\(V.length<4611686018427387904->x=V.length)):=by
 refine⟨by kernel_rfl,?_⟩;rintro V r d G hN ⟨x,rfl,hx⟩;refine aF λg=>I5 λb1 _=>?_;refine Ld.mk (v:=i64 x) (.tail _ (.head _)) rfl ?_;refine ae.add (St.one (c':=#[i64 (IntKind.i64.wrap (x+1))]) (by exact .tail (.head _)) rfl zI rfl ?_);refine aN.mk .tail ⟨rfl,_,rfl,λhl=>?_⟩;rw[xaf,xcg]at hl⊢;rw[hx zO,wrap_i64 zO];omega
theorem SQ(h:bP kp K S ord ah tr C){r b:Nat}{X:Hp}(hr:live K.N r)(hm:(b,Obj.cells (aA .u32 [(r:Int)]) 78 zZ)∈X):
  Rd zQ 90 #[ptr kp,.slice (some ⟨b,0,none⟩) 1 1] (X++C) (· =.tuple #[i64 ((sz K.n ord (λg=>g=S r):Nat):Int),i64 0]):=by
 refine aF λg=>N6 (aa.eq (wI (X:=X) h hm hr) (ae.cK (Br.F ?_)));intro b4 _;refine St.one (c':=#[i64 0]) (by exact .head _) rfl zI rfl ?_;refine aa.fn (C:=[(b4,Obj.cells #[i64 0] 3 zZ)]++(X++C)) .here (D1 (P:=λV G=>∃x:Int,G=[(b4,.cells #[i64 x] 3 zZ)]/\(V.length<4611686018427387904->x=V.length)) h (Nu b4) hr ⟨0,rfl,λ_=>rfl⟩ hm) ?_;rintro v H ⟨rfl,V,G,rfl,⟨x,rfl,hx⟩,fA,hsh,Zh,hrc⟩;refine Ld.q ?_;refine bg.mk .tail ?_;have hc:=Uq h.ok.wf h.ok.lv h.od h.ok.mid.int (R:=λq=>q=r) (λq hq=>by rw[hq];exact hr) hsh (λq hq=>by rw[hq];exact Zh) hrc fA;have hlen:V.length<=1048576:=by
  have:∀u∈V,u∈List.range 1048576:=λu hu=>by
   obtain⟨d,hd,_⟩:=hsh u hu;exact xaM.2 (h.bM (.inr ⟨d,hd⟩))
  have:=ct fA this;rwa [xaH]at this
 rw[hx zO,<-JO hc];have e:Fs S (λq=>q=r)=λg=>g=S r:=funext λg=>propext ⟨λ⟨q,hq,e⟩=>by rw[e,hq],λe=>⟨r,rfl,e⟩⟩;rw[e];rfl
end
end
section
open aq
section
variable {C:Hp}
def Tl(p:Bool)(v:zV):Prop:=∃(n:Nat) (b:Bool),n<18446744073709551616/\v=.agg [u64 n,.bool b].toArray/\(b||decide (n≠0))=p
theorem pZ(n:Nat)(b:Bool):∀u∈[u64 n,Value.bool b],u.oneCell'=true:=λu hu=>by
 rcases xaj.1 hu with rfl|hu
 ·rfl
 rw[xaE.1 hu];rfl
theorem Tl.no:Tl false (.agg #[u64 0,.bool false]):=⟨0,false,by decide,rfl,rfl⟩
theorem Tl.yes:Tl true (.agg #[u64 1,.bool false]):=⟨1,false,by decide,rfl,rfl⟩
theorem yh{p:Bool}{v:zV}(h:Tl p v):Rd zQ 198 #[v,u64 0] C (· =.bool p):=by
 obtain⟨n,b,hn,rfl,hp⟩:=h;refine aF λg=>Ib λb1 _=>?_;refine Ld.f (v:=.bool b) (c6.or (a:=b) (decide (n≠0)) (λ_=>?_) rfl λ_=>?_)
 ·exact Ld.f (v:=u64 n) (ae.nB (b:=0) ⟨rfl,by rw[xcm.2 (show 0<n↔n≠0 by omega)]⟩)
 rw[hp];exact bg.mk .tail rfl
theorem BX{p q:Bool}{v w:zV}(h:Tl p v)(h':Tl q w):Rd zQ 258 #[v,w] C (Tl (p||q)):=by
 obtain⟨n,b,hn,rfl,hp⟩:=h;obtain⟨m,d,hm,rfl,hq⟩:=h';refine aF λg=>G9 λb1 _ b3 _ b5 _=>?_;refine Ld.f (v:=u64 n) (Ld.f (v:=u64 m) (ae.adL (Ld.f (v:=.bool b) (c6.or (a:=b) d (λ_=>?_) rfl λ_=>?_))))
 ·exact Ld.f (v:=.bool d) (⟨rfl,rfl⟩)
 refine c6.or (a:=b||d) (decide ((n+m)%18446744073709551616<n)) (λ_=>?_) rfl λ_=>?_
 ·refine Ld.f (v:=u64 n) (ae.fy ⟨rfl,rfl⟩)
 refine Build.mk (cs:=[u64 ((n+m)%18446744073709551616),.bool (b||d||decide ((n+m)%18446744073709551616<n))]) zK ?_;refine St.p (r:=[u64 ((n+m)%18446744073709551616),.bool (b||d||decide ((n+m)%18446744073709551616<n))]) (pZ _ _) ?_;refine az.q ?_;refine bg.mk (.skip (.skip .tail)) ⟨_,_,xbC _ zD,rfl,?_⟩;rw[<-hp,<-hq];cases b<;>cases d<;>simp only[Bool.true_or,xdr,xdA];rw[<-xa6,<-xa6];exact xcm.2 zO
theorem LU{p:Bool}{v:zV}(h:Tl p v)(k:Nat):Rd zQ 256 #[v,i64 (k:Int)] C (Tl p):=by
 obtain⟨n,b,hn,rfl,hp⟩:=h;refine aF λg=>He λb1 _ b3 _=>?_;refine ae.eL (b:=0) (c6.or (a:=decide (k=0)) (decide (n=0)) (λ_=>?_) rfl λ_=>?_)
 ·exact Ld.f (v:=u64 n) (ae.eL (b:=0) ⟨rfl,rfl⟩)
 refine Br.mk (λhb=>?_) (λhb=>?_)
 ·refine az.whole (r:=[u64 n,.bool b]) (T:=261) (fz:=(0,0)) (by exact .tail _ (.head _)) rfl ?_;refine St.p (r:=[u64 n,.bool b]) (pZ _ _) ?_;refine az.q ?_;exact bg.mk (.skip .tail) ⟨n,b,hn,rfl,hp⟩
 rw[<-xa6]at hb;have hb:=xdh hb;refine Ld.f (v:=u64 n) (ae.nP λJ Ud=>?_);have fin:∀x:Bool,(x||decide ((n<<<k)%18446744073709551616≠0))=true->J [] ((b3,.cells [u64 ((n<<<k)%18446744073709551616),.bool x].toArray 261 zZ)::(b1,.cells (Value.cells (.agg [u64 n,.bool b].toArray)) 261 zZ)::C):=λx hx=>Ud _ λ_=>by
  refine az.q ?_;refine bg.mk (.skip .tail) ⟨_,x,xbC _ zD,rfl,?_⟩;rw[hx,<-hp];have:decide (n≠0)=true:=xam zO;rw[this,xdr]
 refine DR.of (.refl _) (ae.eL (b:=0) (Br.mk (λhz=>?_) (λhz=>?_)))
 ·refine Build.mk (cs:=[u64 ((n<<<k)%18446744073709551616),.bool true]) zK λF=>?_;exact St.p (r:=[u64 ((n<<<k)%18446744073709551616),.bool true]) (pZ _ _) (JE.mk (fin true rfl))
 refine ae.iI (xbC _ zD) (Ld.f (v:=u64 n) (ae.CJ (aL.mk (Build.mk (cs:=[u64 ((n<<<k)%18446744073709551616),.bool (decide (((n<<<k)%18446744073709551616)>>>k≠n))]) zK λF=>?_))));refine St.p (r:=[u64 ((n<<<k)%18446744073709551616),.bool (decide (((n<<<k)%18446744073709551616)>>>k≠n))]) (pZ _ _) (JE.mk (fin _ ?_));rw[xam (p:=(n<<<k)%18446744073709551616≠0) (xdh hz),xdr]
end
section
variable {kp d nm n f F V:Nat} {kA:zV} {K:Kd} {S:Nat->aq.Fn} {ord ah tr:zL} {C Z:Hp}
abbrev EJ(n f nm:Nat)(kA:zV)(F V:Nat):Array zV:=#[i64 (n:Int),u32 f,.map (some nm),kA,u64 F,u64 V]
theorem JI{v b:Nat}(hl:kA.oneCell'=true)(hv:v<64)(hb:b<=1)(hF:F<18446744073709551616)(hV:V<18446744073709551616):
  Fc zQ 199 #[ptr d,i64 (v:Int),u64 b] ((d,.cells (EJ n f nm kA F V) 266 zZ)::C) (λw H=>w=.tuple #[]/\∃F' V',H=(d,.cells (EJ n f nm kA F' V') 266 zZ)::C/\F'<18446744073709551616/\V'<18446744073709551616/\
   (∀j,F'.testBit j=(F.testBit j||decide (j=v)))/\∀j,V'.testBit j=if j=v then decide (b=1)else V.testBit j):=by
 have e1:(1<<<v)%18446744073709551616=2^v:=by
  rw[xck,xdl];exact xbk (xaN (xbw zD hv) zD)
 have h2:2^v<18446744073709551616:=xaN (xbw zD hv) zD;have eb:(b<<<v)%18446744073709551616=b*2^v:=by
  rw[xck];refine xbk (xaz (xaZ _ hb) zO)
 have tG:b*2^v<18446744073709551616:=xaz (xaZ _ hb) zO;have hVa:m8 V (2^v)<18446744073709551616:=xaz (m7 _ _) hV;refine aF λg=>Ia (DR.of (.refl _) (Ld.n (v:=u64 F) ?_));refine ae.nP (a:=1) ?_;rw[e1];refine ae.Kj (by simpa[bF]using hF) (by simpa[bF]using h2) (.ptr (.mk ?_));intro G;refine St.one (c':=EJ n f nm kA (F|||2^v) V) (.head _) rfl zI rfl ?_;refine DR.of (.refl _) (Ld.n (v:=u64 V) (ae.nP (a:=1) ?_));rw[e1];refine ae.D9 (by simpa[bF]using hV) (by simpa[bF]using h2) (ae.nP ?_);rw[eb];refine ae.Kj (by simpa[bF]using hVa) (by simpa[bF]using tG) (.ptr (.mk ?_));intro G;refine St.one (c':=EJ n f nm kA (F|||2^v) (m8 V (2^v)|||b*2^v)) (.head _) rfl zI rfl ?_;refine aN.mk (.refl _) ⟨rfl,_,_,rfl,xbH (n:=64) hF h2,xbH (n:=64) hVa tG,λj=>?_,λj=>?_⟩
 ·rw[xbX,xbT];congr 1;exact xcm.2 eq_comm
 rw[xbX,dy,xbT];have:b=0\/b=1:=by omega
 by_cases e:j=v
 ·rw[xad e,e,xam rfl];rcases this with rfl|rfl
  ·simp
  simp[xbT]
 rw[xac e,xal (xa8 e)];rcases this with rfl|rfl
 ·simp
 rw[xdl,xbT,xal (xa8 e)];simp
structure Fal(n:Nat)(ns:zL):Prop where
 len:ns.length=n+1
 le:∀a,a<=n->ns.getD a 0<=n+1
 step:∀a,a<n->ns.getD (a+1) 0<=ns.getD a 0
theorem Fal.mono{ns:zL}(h:Fal n ns){a:Nat}:∀k,a+k<=n->ns.getD (a+k) 0<=ns.getD a 0
 |0,_=>xai _
 |k+1,hk=>xbN (h.step (a+k) zO) (Fal.mono h k zO)
theorem PC{ls:zL}(hd:(d,Obj.cells (EJ n f nm kA F V) 266 zZ)∈Z)(hL:dI .i64 Z kA (iw ls))(hlen:ls.length=n)(hn:n<=64)(hlt:∀l∈ls,l<n)(hF:F<18446744073709551616):
  Fc zQ 253 #[ptr d] Z (λv H=>∃b ns,Fal n ns/\v=.slice (some ⟨b,0,none⟩) (n+1) (n+1)/\H=(b,.cells (aA .i64 (iw ns)) 3 zZ)::Z):=by
 refine aF λg=>Hh (Ld.v hd ?_);refine ae.inc (cS.ints zO zO λb=>?_);refine Ld.v (.tail _ hd) ?_;refine hL.bX ?_;rw[au,hlen];have z0:List.replicate (n+1) (0:Int)=iw (List.replicate (n+1) 0):=by simp[iw]
 rw[z0];refine⟨λvs H=>∃(j:Nat) (ns:zL),vs=[i64 (j:Int)]/\j<=n/\H=(b,.cells (aA .i64 (iw ns)) 3 zZ)::Z/\ns.length=n+1/\∀a,ns.getD a 0<=1,λvs _=>n-bN vs 0,JE.mk ⟨0,_,rfl,by omega,rfl,by simp,λa=>?_⟩,?_⟩
 ·by_cases ha:a<n+1
  ·simp[List.getD,ha]
  simp[List.getD,ha]
 rintro w H ⟨j,ns,⟨⟩,hj,rfl,MV,h1⟩ gs;refine ae.fy (Br.dec (λiu=>?_) (λhge=>?_))
 ·intro J hJ;have back:∀ns':zL,ns'.length=n+1->(∀a,ns'.getD a 0<=1)->J [] ((b,.cells (aA .i64 (iw ns')) 3 zZ)::Z):=λns' hl' sP=>hJ _ λ_=>by
   exact ae.inc (aC.mk ⟨j+1,ns',rfl,by omega,rfl,hl',sP⟩ (by simp only[bN];omega))
  have hlj:j<ls.length:=by omega
  refine hL.ld (de (xaa hlj)) (λ_ h=>.tail _ h) ?_;refine Ld.v (.tail _ hd) ?_;refine ae.iI (by simpa[bF]using hF) (ae.jD (by simp[bF];exact xaz (xbm _ _) hF) zD (ae.eL (b:=0) (Br.mk (λ_=>?_) (λ_=>JE.mk (back ns MV h1)))));have hlv:=hlt ls[j] (xaJ hlj);refine av.nat zO ?_;refine St.ints (.head _) (by rw[au];omega) ?_;rw[show((1:Int))=((1:Nat):Int)from rfl,eY];refine JE.mk (back _ (by simpa using MV) λa=>?_);rw[List.getD,xbo];split
  ·split
   ·exact xai _
   exact xaO _
  exact h1 a
 refine Ld.v (.tail _ hd) ?_;refine ae.lH (c:=(n:Int) -1) rfl zO ?_;refine⟨λvs H=>∃(j:Nat) (ns:zL),vs=[i64 ((j:Int) -1)]/\j<=n/\H=(b,.cells (aA .i64 (iw ns)) 3 zZ)::Z/\ns.length=n+1/\(∀a,a<j->ns.getD a 0<=1)/\(∀a,j<=a->a<=n->ns.getD a 0<=n+1-a)/\∀a,j<=a->a<n->ns.getD (a+1) 0<=ns.getD a 0,
  λvs _=>match vs with| [.int _ q]=>(q+1).toNat|_=>0,JE.mk ⟨n,ns,rfl,xai _,rfl,MV,λa _=>h1 a,λa h h'=>xbN (h1 a) zO,λa h h'=>by omega⟩,?_⟩
 rintro w H ⟨j,ns,⟨⟩,hj,rfl,MV,g1,g2,g3⟩ gs;refine ae.geq (Br.dec (λhge=>?_) (λiu=>?_))
 ·obtain⟨i,rfl⟩:∃i,j=i+1:=⟨j-1,by omega⟩;have ei:(((i+1:Nat):Int) -1)=(i:Int):=by omega
  rw[ei];refine DR.of (.refl _) ?_;have hB:dI .i64 ((b,Obj.cells (aA .i64 (iw ns)) 3 zZ)::Z) (.slice (some ⟨b,0,none⟩) (iw ns).length (n+1)) (iw ns):=dI.block (.head _) (by rw[au];omega);rw[au,MV]at hB;have a1:=g1 i zO;have a2:=g2 (i+1) zO zO;refine hB.ld (bH zO) (λ_ h=>h) (ae.inc (hB.ld (bH zO) (λ_ h=>h) (ae.fE (av.nat zO ?_))));intro G;refine St.ints (.head _) (by rw[au];omega) ?_;rw[eY];refine ae.lH (c:=(i:Int) -1) rfl zO ?_;have get:∀a,(ns.set i (ns.getD i 0+ns.getD (i+1) 0)).getD a 0=if a=i then ns.getD i 0+ns.getD (i+1) 0 else ns.getD a 0:=λa=>by
   rw[List.getD,xbo];by_cases e:i=a
   ·rw[xad e,xad zO,xad e.symm];rfl
   rw[xac e,xac (xa8 e)];rfl
  refine aC.mk ⟨i,_,rfl,by omega,rfl,by simpa using MV,λa ha=>?_,λa ha hn'=>?_,λa ha hn'=>?_⟩ ?_
  ·rw[get,xac zO];exact g1 a zO
  ·rw[get];split
   ·subst a;omega
   exact g2 a zO hn'
  ·rw[get,get];rw[xac (show a+1≠i by omega)];split
   ·subst a;omega
   exact g3 a zO hn'
  show((i:Int) -1+1).toNat<((i:Int)+1).toNat;omega
 obtain rfl:j=0:=by omega
 exact aN.mk (.refl _) ⟨b,ns,⟨MV,λa ha=>xbN (g2 a (xaO _) ha) zO,λa ha=>g3 a (xaO _) ha⟩,rfl,rfl⟩
end
section
variable {d0 b1 b8 lp wP um ED bf kb nm n f F V BN:Nat} {kA:zV} {K:Kd} {S:Nat->aq.Fn} {ah ls ns:zL} {BM:Array MapEntry} {m:List (Nat×Nd)} {Z:Hp}
def ag(n F V x:Nat):Prop:=∀j,j<n->F.testBit j=true->x.testBit j=V.testBit j
noncomputable def qT(n F V:Nat)(g:aq.Fn):Bool:= @decide (∃x,ag n F V x/\g x=true) (Classical.propDecidable _)
theorem qm{g:aq.Fn}:qT n F V g=true↔∃x,ag n F V x/\g x=true:= @decide_eq_true_iff _ (Classical.propDecidable _)
theorem U0:qT n F V (λ_=>false)=false:=by
 cases h:qT n F V (λ_=>false)with
 |false=>rfl
 |true=>obtain⟨x,_,e⟩:=qm.1 h;cases e
theorem YC:qT n F V (λ_=>true)=true:=qm.2 ⟨V,λ_ _ _=>rfl,rfl⟩
theorem zu(h:Ok K S (lv ah)){r:Nat}{d:Nd}(hN:K.N r=some d)(x:Nat)(b:Bool):S d.lo (ak.aB x d.v b)=S d.lo x/\S d.hi (ak.aB x d.v b)=S d.hi x:=by
 have e (c:Bool):=(gg h.wf h.lv h.mid.int (r:=r) (.inr ⟨d,hN⟩) (h.mid.var hN) (by rw[an hN];exact xai _) c);have e1:=e false;have e2:=e true;rw[(kR hN).1]at e1;rw[(kR hN).2]at e2;constructor
 ·rw[e1.1,e1.1,aq.oS]
 rw[e2.1,e2.1,aq.oS]
theorem U4(h:Ok K S (lv ah)){r:Nat}{d:Nd}(hN:K.N r=some d):
  qT K.n F V (S r)=((!F.testBit d.v|| !V.testBit d.v) &&qT K.n F V (S d.lo)||(!F.testBit d.v||V.testBit d.v) &&qT K.n F V (S d.hi)):=by
 have nd:=h.mid.int.node hN;have put:∀(x:Nat) (b:Bool),ag K.n F V x->(F.testBit d.v=true->V.testBit d.v=b)->ag K.n F V (ak.aB x d.v b):=λx b hx hb j hj hF=>by
  rw[ak.aj];split
  ·subst j;exact(hb hF).symm
  exact hx j hj hF
 have hv:=h.mid.var hN;rw[xbE,xbs,xaI,xaI,qm,qm,qm];constructor
 ·rintro⟨x,hx,hS⟩;have q:=nd x;have hxv:=hx d.v hv;cases hb:x.testBit d.v with
  |true=>
   rw[hb,xad rfl]at q;refine .inr ⟨?_,x,hx,by rw[<-q];exact hS⟩;cases hF:F.testBit d.v
   ·rfl
   rw[<-hxv hF,hb];rfl
  |false=>
   rw[hb,xac zD]at q;refine .inl ⟨?_,x,hx,by rw[<-q];exact hS⟩;cases hF:F.testBit d.v
   ·rfl
   rw[<-hxv hF,hb];rfl
 rintro(⟨hc,x,hx,hS⟩|⟨hc,x,hx,hS⟩)
 ·refine⟨ak.aB x d.v false,put x false hx λhF=>?_,?_⟩
  ·rw[hF]at hc;simpa using hc
  rw[nd,ak.aj,xad rfl,xac zD,(zu h hN x false).1];exact hS
 refine⟨ak.aB x d.v true,put x true hx λhF=>?_,?_⟩
 ·rw[hF]at hc;simpa using hc
 rw[nd,ak.aj,xad rfl,xad rfl,(zu h hN x true).2];exact hS
abbrev NU(es:Array MapEntry)(ck:Nat)(m:List (Nat×Nd)):Prop:=aE kr (λv (d:Nd)=>v=.agg (bu d).toArray) es ck m
structure W3(K:Kd)(S:Nat->aq.Fn)(ah ls:zL)(m:List (Nat×Nd))(n f F V d0 b1 nm:Nat)(kA:zV)(BM:Array MapEntry)(BN:Nat)(Z:Hp):Prop where
 ok:Ok K S (lv ah)
 lT:K.n<=64
 hn:n=K.n
 d:(d0,Obj.cells (EJ n f nm kA F V) 266 zZ)∈Z
 hnm:(nm,Obj.map BM BN)∈Z
 dJ:NU BM BN m
 cov:∀u e,Rc K.N (λq=>q=f) u->K.N u=some e->aK m u=some e
 L:dI .i64 Z kA (iw ls)
 get:∀v,v<n->ls[v]? =some (lv ah v)
 F64:F<18446744073709551616
 V64:V<18446744073709551616
structure TcH(n d0 b1 b8 lp wP um ED bf kb:Nat)(ns:zL)(Z:Hp):Prop where
 h1:(b1,Obj.cells #[ptr d0] 258 zZ)∈Z
 h8:(b8,Obj.cells #[.slice (some ⟨bf,0,none⟩) (n+1) (n+1)] 43 zZ)∈Z
 hf:(bf,Obj.cells (aA .i64 (iw ns)) 3 zZ)∈Z
 Ud:(lp,Obj.cells #[.map (some kb)] 319 zZ)∈Z
 h20:(wP,Obj.cells #[.func (.func 254) #[] #[ptr b1]] 182 zZ)∈Z
 h23:(um,Obj.cells #[.func (.func 257) #[] #[ptr lp,ptr b1,ptr ED]] 320 zZ)∈Z
 h25:(ED,Obj.cells #[.func (.func 255) #[] #[ptr um,ptr b8,ptr wP]] 322 zZ)∈Z
 fal:Fal n ns
theorem LM(h:W3 K S ah ls m n f F V d0 b1 nm kA BM BN Z)(h1:(b1,Obj.cells #[ptr d0] 258 zZ)∈Z){r:Nat}(hr:live K.N r)(hR:Rc K.N (λq=>q=f) r):
  Rd zQ 254 #[u32 r,ptr b1] Z (· =i64 ((dep K.n (lv ah) K.N r:Nat):Int)):=by
 refine aF λg=>Hg (ae.BB (b:=1) (Br.dec (λh2=>?_) (λh2=>?_)))
 ·refine Ld.mk h1 rfl ?_;refine Ld.v (v:=i64 (n:Int)) h.d ?_;refine bg.mk (.refl _) ?_;have h0:K.N r=none:=by
   cases hN:K.N r with
   |none=>rfl
   |some d=>have:=h.ok.mid.two hN;omega
  rw[aS h0,h.hn]
 obtain⟨d,hN⟩:∃d,K.N r=some d:=by
  rcases hr with hr|hr
  ·omega
  exact hr
 have kB:=h.ok.mid.var hN;refine Ld.mk h1 rfl ?_;refine Ld.v h.d ?_;refine Ld.mk h1 rfl ?_;refine Ld.v h.d ?_;refine h.dJ.hit (k:=r) cW (b:=nm) h.hnm (h.cov r d hR hN) λv e=>?_;subst e;refine BP.mk (off:=0) (cs:=(bu d).toArray) (v:=i64 (d.v:Int)) rfl ?_;refine h.L.ld (de (h.get d.v (by rw[h.hn];exact kB))) (λ_ h=>h) ?_;refine bg.mk (.refl _) ?_;rw[an hN]
structure KnT(q:Nat->Bool)(es:Array MapEntry)(ck:Nat)(mm:List (Nat×Bool)):Prop where
 dJ:aE kr (λv (x:Bool)=>Tl x v) es ck mm
 val:∀r x,aK mm r=some x->x=q r
 low:∀r,r<2->aK mm r≠none
abbrev Xd(q:Nat->Bool)(kb:Nat)(Z:Hp)(r:Nat):zV->Hp->Prop:=λv H=>Tl (q r) v/\∃es' bC Vn,H=(kb,.map es' bC)::Z/\KnT q es' bC Vn
theorem oK{p:Bool}{v:zV}(h:Tl p v):∃r:List zV,v=.agg r.toArray/\r.length=2/\∀u∈r,u.oneCell'=true:=by
 obtain⟨n,b,_,rfl,_⟩:=h;exact⟨_,rfl,rfl,pZ _ _⟩
theorem r8(h:W3 K S ah ls m n f F V d0 b1 nm kA BM BN Z)(t:TcH n d0 b1 b8 lp wP um ED bf kb ns Z){q:Nat->Bool}{r l:Nat}(hr:live K.N r)(hR:Rc K.N (λq=>q=f) r)(hl:l<=dep K.n (lv ah) K.N r){es:Array MapEntry}{ck:Nat}
 (hc:Fc zQ 257 #[u32 r,ptr lp,ptr b1,ptr ED] ((kb,.map es ck)::Z) (Xd q kb Z r)):
  Fc zQ 255 #[u32 r,i64 (l:Int),ptr um,ptr b8,ptr wP] ((kb,.map es ck)::Z) (Xd q kb Z r):=by
 have hdl:=h.ok.wf.iA h.ok.lv r;have y4:=t.fal.len;have hB:dI .i64 Z (.slice (some ⟨bf,0,none⟩) (iw ns).length (n+1)) (iw ns):=dI.block t.hf (by rw[au];omega);rw[au,y4]at hB;have hn':=h.hn;have acj:=t.fal.mono (a:=l) (dep K.n (lv ah) K.N r-l) zO;rw[show l+(dep K.n (lv ah) K.N r-l)=dep K.n (lv ah) K.N r by omega]at acj;have hle:=t.fal.le l zO;have sL:=h.lT;refine aF λg=>Hf λc1 _=>?_;refine DR.of (R:=Z) (.skip .tail) (Ld.mk t.h23 rfl ?_);refine Ld.mk t.h8 rfl ?_;refine hB.ld (bH zO) (λ_ h=>h) (Ld.mk t.h8 rfl ?_);refine Ld.mk t.h20 rfl ?_;intro G;refine aJ.of rfl zK (aa.fq (args:=#[u32 r,ptr lp,ptr b1,ptr ED]) hc ?_);rintro v1 H ⟨hv1,kC,jO,mm1,rfl,xH⟩;refine⟨.skip .tail,Z,.skip .tail,.refl _,?_⟩;intro G;refine aJ.of rfl zK (aa.eq (args:=#[u32 r,ptr b1]) (LM (Z:=Z) h t.h1 hr hR) (⟨.skip .tail,Z,.skip .tail,.refl _,?_⟩));refine hB.ld (bH zO) (λ_ h=>h) (ae.cc λG=>(aa.rq (LU (C:=Z) hv1 _) ?_));intro v2 hv2;intro G;have afx:=hv2;obtain⟨rr,rfl,xJ,Pr⟩:=oK hv2;refine St.p (r:=rr) Pr ?_ (hr:=xJ);refine az.q ?_ (hr:=xJ);exact aN.mk .tail ⟨afx,kC,jO,mm1,rfl,xH⟩
end
section
variable {d0 b1 b8 lp wP um ED bf kb nm n f F V BN:Nat} {kA:zV} {K:Kd} {S:Nat->aq.Fn} {ah ls ns:zL} {BM:Array MapEntry} {m:List (Nat×Nd)} {Z:Hp}
theorem vk(a k:Nat):decide ((a>>>k)%2=0)= !a.testBit k:=by
 rw[<-Be];have:=Nat.mod_two_eq_zero_or_one (a>>>k);rcases this with e|e<;>rw[e]<;>rfl
theorem LN(h:W3 K S ah ls m n f F V d0 b1 nm kA BM BN Z)(t:TcH n d0 b1 b8 lp wP um ED bf kb ns Z):
  ∀(k r:Nat) (es:Array MapEntry) (ck:Nat) (mm:List (Nat×Bool)),K.n-dep K.n (lv ah) K.N r<=k->live K.N r->Rc K.N (λq=>q=f) r->KnT (λr=>qT K.n F V (S r)) es ck mm->
  Fc zQ 257 #[u32 r,ptr lp,ptr b1,ptr ED] ((kb,.map es ck)::Z) (Xd (λr=>qT K.n F V (S r)) kb Z r):=by
 have hit:∀{r:Nat} {es:Array MapEntry} {ck:Nat} {mm:List (Nat×Bool)} {x:Bool},KnT (λr=>qT K.n F V (S r)) es ck mm->aK mm r=some x->
   Fc zQ 257 #[u32 r,ptr lp,ptr b1,ptr ED] ((kb,.map es ck)::Z) (Xd (λr=>qT K.n F V (S r)) kb Z r):=by
  intro r es ck mm x hm hv;refine aF λg=>xd λc1 _=>?_;refine Ld.mk (v:=.map (some kb)) (.tail _ (.tail _ t.Ud)) rfl ?_;refine hm.dJ.hit (k:=r) cW (b:=kb) (by exact .tail _ (.head _)) hv λv' e=>?_;have ex:=hm.val r x hv;have e':=e;obtain⟨rr,rfl,xJ,Pr⟩:=oK e;refine Ext.two λc7 _=>(St.p (r:=rr) Pr ?_ (hr:=xJ));refine Br.yes (az.q ?_ (hr:=xJ));refine St.p (r:=rr) Pr ?_ (hr:=xJ);refine az.q ?_ (hr:=xJ);exact aN.mk (.skip .tail) ⟨by show Tl (qT K.n F V (S r)) _;rw[show qT K.n F V (S r)=x from ex.symm];exact e',es,ck,mm,rfl,hm⟩
 intro k;induction k with
 |zero=>
  intro r es ck mm hk hr hR hm;have qv:r<2:=by
   cases hN:K.N r with
   |some d=>
    rw[an hN]at hk;have:=h.ok.lv.lt _ (h.ok.mid.var hN);omega
   |none=>
    rcases hr with hr|⟨d,e⟩
    ·exact hr
    rw[hN]at e;cases e
  cases hv:aK mm r with
  |none=>exact absurd hv (hm.low r qv)
  |some v=>exact hit hm hv
 |succ k ih=>
  intro r es ck mm hk hr hR hm;cases hv:aK mm r with
  |some v=>exact hit hm hv
  |none=>
  have qv:¬r<2:=λh2=>hm.low r h2 hv;obtain⟨d,hN⟩:∃d,K.N r=some d:=by
   rcases hr with hr|hr
   ·omega
   exact hr
  have hlo:=h.ok.wf.lo hN;have hhi:=h.ok.wf.hi hN;rw[an hN]at hk;have kB:=h.ok.mid.var hN;have hvl:=h.ok.lv.lt _ kB;have sL:=h.lT;have Wq:=h.F64;have Wj:=h.V64;have qn:=U4 (F:=F) (V:=V) h.ok hN;refine aF λg=>xd λc1 _=>?_;refine Ld.mk (v:=.map (some kb)) (.tail _ (.tail _ t.Ud)) rfl ?_;refine hm.dJ.bO (k:=r) cW (b:=kb) (by exact .tail _ (.head _)) hv ?_;refine Ext.two λc7 _=>(St.p (r:=[u64 0,.bool false]) (pZ _ _) (Br.no ?_));have up:∀{x y z:Nat×Obj} {l:List (Nat×Obj)},l=Z->∀{w},w∈Z->w∈x::y::z::l:=λe w hw=>by subst e;exact .tail _ (.tail _ (.tail _ hw))
  refine Ld.mk (v:=ptr d0) (.tail _ (.tail _ (.tail _ t.h1))) rfl ?_;refine Ld.v (v:=.map (some nm)) (.tail _ (.tail _ (.tail _ h.d))) ?_;refine h.dJ.hit (k:=r) cW (b:=nm) (.tail _ (.tail _ (.tail _ h.hnm))) (h.cov r d hR hN) λv e=>?_;subst e;intro c18 _;refine St.p (fp d) ?_;refine Ld.mk (v:=ptr d0) (.tail _ (.tail _ (.tail _ (.tail _ t.h1)))) rfl ?_;refine Ld.v (v:=kA) (.tail _ (.tail _ (.tail _ (.tail _ h.d)))) ?_;refine Ld.f (v:=i64 (d.v:Int)) (h.L.ld (de (h.get d.v (by rw[h.hn];exact kB))) (λ_ h=>.tail _ (.tail _ (.tail _ (.tail _ h)))) ?_);refine ae.inc λc30 _=>?_;intro J32 Po;have last:∀(p:Bool) (t30:List zV) (es':Array MapEntry) (bC:Nat) (Vn:List (Nat×Bool)),Tl p (.agg t30.toArray)->t30.length=2->(∀u∈t30,u.oneCell'=true)->KnT (λr=>qT K.n F V (S r)) es' bC Vn->p=((!F.testBit d.v|| !V.testBit d.v) &&qT K.n F V (S d.lo))->
    J32 [] ((c30,.cells t30.toArray 261 zZ)::(c18,.cells (bu d).toArray 144 zZ)::(c7,.cells [u64 0,.bool false].toArray 261 zZ)::(c1,.cells #[u64 0,.bool false] 261 zZ)::(kb,.map es' bC)::Z):=by
   intro p t30 es' bC Vn hp xJ Pr hm' ep;refine Po _ λ_=>?_;intro J35 h35;have fin:∀(p:Bool) (t30:List zV) (es':Array MapEntry) (bC:Nat) (Vn:List (Nat×Bool)),Tl p (.agg t30.toArray)->t30.length=2->(∀u∈t30,u.oneCell'=true)->KnT (λr=>qT K.n F V (S r)) es' bC Vn->p=qT K.n F V (S r)->
     J35 [] ((c30,.cells t30.toArray 261 zZ)::(c18,.cells (bu d).toArray 144 zZ)::(c7,.cells [u64 0,.bool false].toArray 261 zZ)::(c1,.cells #[u64 0,.bool false] 261 zZ)::(kb,.map es' bC)::Z):=by
    intro p t30 es' bC Vn hp xJ Pr hm' ep;refine h35 _ λ_=>?_;refine Ld.mk (v:=.map (some kb)) (.tail _ (.tail _ (.tail _ (.tail _ (.tail _ t.Ud))))) rfl ?_;refine az.q ?_ (hr:=xJ);refine hm'.dJ.bK (k:=r) (b:=kb) (x:=p) cW gN hp λpo qO he=>⟨_,.tail (.tail (.tail (.tail (.head _)))),?_⟩;refine az.q ?_ (hr:=xJ);refine St.p (r:=t30) Pr ?_ (hr:=xJ);refine az.q ?_ (hr:=xJ);refine aN.mk (.skip (.skip (.skip .tail))) ⟨by show Tl (qT K.n F V (S r)) _;rw[<-ep];exact hp,po,qO,_,rfl,he,λr' x' n7=>?_,λr' hr'=>?_⟩
    ·rw[bL]at n7;split at n7
     ·rename_i e;subst e;cases n7;exact ep
     exact hm'.val r' x' n7
    rw[bL];split
    ·simp
    exact hm'.low r' hr'
   refine Ld.mk (v:=ptr d0) (.tail _ (.tail _ (.tail _ (.tail _ (.tail _ t.h1))))) rfl ?_;refine Ld.v (v:=u64 F) (.tail _ (.tail _ (.tail _ (.tail _ (.tail _ h.d))))) ?_;refine Ld.f (v:=i64 (d.v:Int)) (ae.iI (by simpa[bF]using Wq) (ae.jD (by simp[bF];exact xaz (xbm _ _) Wq) zD (ae.eL (b:=0) ?_)));rw[xbR,vk];refine c6.or (a:= !F.testBit d.v) (V.testBit d.v) (λ_=>?_) rfl λ_=>?_
   ·refine Ld.mk (v:=ptr d0) (.tail _ (.tail _ (.tail _ (.tail _ (.tail _ t.h1))))) rfl ?_;refine Ld.v (v:=u64 V) (.tail _ (.tail _ (.tail _ (.tail _ (.tail _ h.d))))) ?_;refine Ld.f (v:=i64 (d.v:Int)) (ae.iI (by simpa[bF]using Wj) (ae.jD (by simp[bF];exact xaz (xbm _ _) Wj) zD (ae.eL (b:=1) ?_)));rw[xbR,Be];exact⟨rfl,rfl⟩
   refine Br.mk (λhb=>?_) (λhb=>?_)
   ·refine DR.of (R:=(c30,.cells t30.toArray 261 zZ)::(c18,.cells (bu d).toArray 144 zZ)::Z) (.cons (.cons (.skip (.skip .tail)))) (az.q ?_ (hr:=xJ));refine Ld.mk (v:=.func (.func 255) #[] #[ptr um,ptr b8,ptr wP]) (.tail _ (.tail _ t.h25)) rfl ?_;refine Ld.f (v:=u32 d.hi) λG=>?_;refine aJ.of rfl zK (aa.fq (args:=#[u32 d.hi,i64 ((lv ah d.v+1:Nat):Int),ptr um,ptr b8,ptr wP]) (r8 (Z:=Z) h t hhi.1 (.hi hR hN) zO (ih d.hi es' bC Vn zO hhi.1 (.hi hR hN) hm')) ?_);rintro v2 H ⟨hv2,gP,iB,mm2,rfl,nh⟩;refine⟨.cons (.cons (.skip (.skip .tail))),?_⟩;intro G;refine aa.rq (BX (C:=Z) hp hv2) ?_;intro v3 hv3;intro G;have Zb:=hv3;obtain⟨rr,rfl,h3l,h3o⟩:=oK hv3;refine St.p (r:=rr) h3o ?_ (hr:=h3l) (hs:=by simpa using xJ);refine JE.mk (fin _ rr gP iB mm2 Zb h3l h3o nh ?_);rw[ep,qn,hb,xcn]
   refine JE.mk (fin p t30 es' bC Vn hp xJ Pr hm' ?_);rw[ep,qn,hb,xed,xdx]
  refine Ld.mk (v:=ptr d0) (.tail _ (.tail _ (.tail _ (.tail _ (.tail _ t.h1))))) rfl ?_;refine Ld.v (v:=u64 F) (.tail _ (.tail _ (.tail _ (.tail _ (.tail _ h.d))))) ?_;refine Ld.f (v:=i64 (d.v:Int)) (ae.iI (by simpa[bF]using Wq) (ae.jD (by simp[bF];exact xaz (xbm _ _) Wq) zD (ae.eL (b:=0) ?_)));rw[xbR,vk];refine c6.or (a:= !F.testBit d.v) (!V.testBit d.v) (λ_=>?_) rfl λ_=>?_
  ·refine Ld.mk (v:=ptr d0) (.tail _ (.tail _ (.tail _ (.tail _ (.tail _ t.h1))))) rfl ?_;refine Ld.v (v:=u64 V) (.tail _ (.tail _ (.tail _ (.tail _ (.tail _ h.d))))) ?_;refine Ld.f (v:=i64 (d.v:Int)) (ae.iI (by simpa[bF]using Wj) (ae.jD (by simp[bF];exact xaz (xbm _ _) Wj) zD (ae.eL (b:=0) ?_)));rw[xbR,vk];exact⟨rfl,rfl⟩
  refine Br.mk (λhb=>?_) (λhb=>?_)
  ·refine DR.of (R:=(c30,.cells [u64 0,.bool false].toArray 261 zZ)::(c18,.cells (bu d).toArray 144 zZ)::Z) (.cons (.cons (.skip (.skip .tail)))) (az.q ?_);refine Ld.mk (v:=.func (.func 255) #[] #[ptr um,ptr b8,ptr wP]) (.tail _ (.tail _ t.h25)) rfl ?_;refine Ld.f (v:=u32 d.lo) λG=>?_;refine aJ.of rfl zK (aa.fq (args:=#[u32 d.lo,i64 ((lv ah d.v+1:Nat):Int),ptr um,ptr b8,ptr wP]) (r8 (Z:=Z) h t hlo.1 (.lo hR hN) zO (ih d.lo es ck mm zO hlo.1 (.lo hR hN) hm)) ?_);rintro v2 H ⟨hv2,gP,iB,mm2,rfl,nh⟩;refine⟨.cons (.cons (.skip (.skip .tail))),?_⟩;intro G;refine aa.rq (BX (C:=Z) Tl.no hv2) ?_;intro v3 hv3;intro G;have Zb:=hv3;obtain⟨rr,rfl,h3l,h3o⟩:=oK hv3;refine St.p (r:=rr) h3o ?_ (hr:=h3l);refine JE.mk (last _ rr gP iB mm2 Zb h3l h3o nh ?_);rw[hb,xcn,xdA]
  refine JE.mk (last false [u64 0,.bool false] es ck mm Tl.no rfl (pZ _ _) hm ?_);rw[hb,xed]
end
section
variable {d0 nm n f F V BN:Nat} {kA:zV} {K:Kd} {S:Nat->aq.Fn} {ah ls:zL} {BM:Array MapEntry} {m:List (Nat×Nd)} {Z Z':Hp}
theorem W3.more{b b':Nat}(h:W3 K S ah ls m n f F V d0 b nm kA BM BN Z)(hs:∀x∈Z,x∈Z'):W3 K S ah ls m n f F V d0 b' nm kA BM BN Z':=
 ⟨h.ok,h.lT,h.hn,hs _ h.d,hs _ h.hnm,h.dJ,h.cov,h.L.mono hs,h.get,h.F64,h.V64⟩
theorem yf{b:Nat}(h:W3 K S ah ls m n f F V d0 b nm kA BM BN Z)(hlen:ls.length=n)(hf:live K.N f):Rd zQ 197 #[ptr d0] Z (Tl (qT K.n F V (S f))):=by
 have sL:=h.lT;have hn:=h.hn;have hi:=h.ok.mid.int;have hlt:∀l∈ls,l<n:=λl hl=>by
  obtain⟨i,hi,e⟩:=xba.1 hl;have q:=h.get i zO;rw[xaa hi,e]at q;cases q;rw[hn];exact h.ok.lv.lt _ zO
 refine aF λg=>Ic λb1 _ b3 _=>?_;refine Ld.q ?_;refine aa.fq (PC (Z:=Z) h.d h.L hlen zO hlt h.F64) ?_;rintro v H ⟨bf,ns,agp,rfl,rfl⟩;intro b8 _;refine St.one (c':=#[.slice (some ⟨bf,0,none⟩) (n+1) (n+1)]) (by exact .head _) rfl zI rfl ?_;intro kb _;refine Build.mk (cs:=[u64 0,.bool false]) zK (aE.bK (ke:=kr) (vr:=λv (x:Bool)=>Tl x v) (k:=0) (b:=kb) (x:=false) cW gN aE.empty Tl.no λkC jO FX=>⟨_,.head _,?_⟩);refine Build.mk (cs:=[u64 1,.bool false]) zK (aE.bK (ke:=kr) (vr:=λv (x:Bool)=>Tl x v) (k:=1) (b:=kb) (x:=true) cW gN FX Tl.yes λgP iB T6=>⟨_,.head _,?_⟩);intro lp _;refine St.one (c':=#[.map (some kb)]) (by exact .head _) rfl zI rfl ?_;intro wP _;refine St.one (c':=#[.func (.func 254) #[] #[ptr b1]]) (by exact .head _) rfl zI rfl ?_;intro um _ ED _;refine St.one (c':=#[.func (.func 255) #[] #[ptr um,ptr b8,ptr wP]]) (by exact .head _) rfl zI rfl ?_;refine St.one (c':=#[.func (.func 257) #[] #[ptr lp,ptr b1,ptr ED]]) (by exact .tail (.head _)) rfl zI rfl ?_;obtain⟨Y,hY⟩:∃Y:Hp,Y=(ED,Obj.cells #[.func (.func 255) #[] #[ptr um,ptr b8,ptr wP]] 322 zZ)::(um,.cells #[.func (.func 257) #[] #[ptr lp,ptr b1,ptr ED]] 320 zZ)::(wP,.cells #[.func (.func 254) #[] #[ptr b1]] 182 zZ)::(lp,.cells #[.map (some kb)] 319 zZ)::
  (b8,.cells #[.slice (some ⟨bf,0,none⟩) (n+1) (n+1)] 43 zZ)::(b3,.cells #[u64 0,.bool false] 261 zZ)::(b1,.cells #[ptr d0] 258 zZ)::(bf,.cells (aA .i64 (iw ns)) 3 zZ)::Z:=⟨_,rfl⟩
 have hYs:∀x∈Z,x∈Y:=λx hx=>by rw[hY];exact .tail _ (.tail _ (.tail _ (.tail _ (.tail _ (.tail _ (.tail _ (.tail _ hx)))))))
 have hvw:W3 K S ah ls m n f F V d0 b1 nm kA BM BN Y:=h.more hYs;have ht:TcH n d0 b1 b8 lp wP um ED bf kb ns Y:=by
  refine⟨?_,?_,?_,?_,?_,?_,?_,agp⟩<;>rw[hY]<;>simp
 have hk:KnT (λr=>qT K.n F V (S r)) gP iB [(0,false),(1,true)]:=by
  refine⟨T6,λr x hx=>?_,λr hr=>?_⟩
  ·unfold aK at hx;rw[xbB,xbB]at hx;by_cases e0:r=0
   ·subst e0;have:x=false:=by simpa using hx.symm
    rw[this,show S 0=λ_=>false from funext hi.zero];exact U0.symm
   by_cases e1:r=1
   ·subst e1;have:x=true:=by simpa using hx.symm
    rw[this,show S 1=λ_=>true from funext hi.one];exact YC.symm
   simp[xa8 e0,xa8 e1]at hx
  have:r=0\/r=1:=by omega
  rcases this with rfl|rfl<;>simp[aK]
 refine DR.of (R:=(ED,Obj.cells #[.func (.func 255) #[] #[ptr um,ptr b8,ptr wP]] 322 zZ)::(b1,.cells #[ptr d0] 258 zZ)::Z) (.cons (.skip (.skip (.skip (.skip (.skip (.skip (.cons .tail)))))))) (Ld.q ?_);refine Ld.q ?_;refine Ld.v (v:=u32 f) (.tail _ (.tail _ h.d)) ?_;intro G;refine aJ.of rfl zK (aa.pre (H':=(kb,Obj.map gP iB)::Y) (by rw[hY];exact .perm (xaU (l₁:=[_,_,_,_]))) (aa.fn (args:=#[u32 f,i64 ((0:Nat):Int),ptr um,ptr b8,ptr wP]) .here (r8 hvw ht hf (.base rfl) (xaO _) (LN hvw ht K.n f gP iB _ (xdw _ _) hf (.base rfl) hk)) ?_));rintro v H ⟨hv,po,qO,mm3,rfl,pN⟩;intro G;have n7:=hv;obtain⟨rr,rfl,xJ,Pr⟩:=oK hv;rw[hY];refine St.p (r:=rr) Pr ?_ (hr:=xJ);refine az.q ?_ (hr:=xJ);exact bg.mk (.skip (.skip (.skip (.skip (.skip (.skip (.skip (.skip .tail)))))))) n7
end
section
variable {kp mb b1 b9 Gv NI n f:Nat} {kA:zV} {K:Kd} {S:Nat->aq.Fn} {ord ah tr:zL} {C Z:Hp}
theorem tD(h:bP kp K S ord ah tr C){r:Nat}(hr:live K.N r):Rd zQ 195 #[ptr kp,u32 r] C (· =i64 (if r=0 then 10 else 0)):=by
 have hlt:=h.bM hr;refine aF λg=>Ig (ae.aI (Br.no (aa.eq (args:=#[ptr kp,u32 r]) (iP h.rep zO) ?_)));rw[ca.2 hr];refine Ext.two λb6 _=>(St.p (aP K.N r).2 ?_ (hr:=(aP K.N r).1));refine ae.cK (Br.F (ae.eL (b:=0) (Br.mk (λhb=>?_) (λhb=>?_))))
 ·rw[xad (xb8 hb)];exact bg.mk .tail rfl
 rw[xac (xdh hb)];exact bg.mk .tail rfl
structure TA(K:Kd)(m m':List (Nat×Nd))(r:Nat):Prop where
 good:∀u d,aK m' u=some d->K.N u=some d
 sub:∀u,aK m u≠none->aK m' u≠none
 has:r<2\/aK m' r≠none
 shut:∀u,aK m' u≠none->aK m u=none->∃d,K.N u=some d/\(d.lo<2\/aK m' d.lo≠none)/\(d.hi<2\/aK m' d.hi≠none)
theorem TA.cov{m:List (Nat×Nd)}(h:TA K [] m f)(h2:∀u d,K.N u=some d->2<=u):∀u e,Rc K.N (λq=>q=f) u->K.N u=some e->aK m u=some e:=by
 have step:∀u,Rc K.N (λq=>q=f) u->u<2\/aK m u≠none:=λu hu=>by
  induction hu with
  |base e=>subst e;exact h.has
  |lo hp hN ih=>
   rcases ih with ih|ih
   ·have:=h2 _ _ hN;omega
   obtain⟨d,hd,a,b⟩:=h.shut _ ih rfl;rw[hN]at hd;cases hd;exact a
  |hi hp hN ih=>
   rcases ih with ih|ih
   ·have:=h2 _ _ hN;omega
   obtain⟨d,hd,a,b⟩:=h.shut _ ih rfl;rw[hN]at hd;cases hd;exact b
 intro u e hu hN;rcases step u hu with h'|h'
 ·have:=h2 _ _ hN;omega
 cases hm:aK m u with
 |none=>exact absurd hm h'
 |some d=>have:=h.good u d hm;rw[hN]at this;cases this;rfl
theorem UT(h:bP kp K S ord ah tr C)(h9:(b9,Obj.cells (EJ n f mb kA 0 0) 266 zZ)∈Z)(Wt:(Gv,Obj.cells #[ptr b9] 258 zZ)∈Z)(h1:(b1,Obj.cells #[ptr kp] 53 zZ)∈Z)
 (h48:(NI,Obj.cells #[.func (.func 252) #[] #[ptr Gv,ptr b1,ptr NI]] 183 zZ)∈Z):
  ∀(k r:Nat) (es:Array MapEntry) (ck:Nat) (m:List (Nat×Nd)),K.n-dep K.n (lv ah) K.N r<=k->live K.N r->NU es ck m->(∀u d,aK m u=some d->K.N u=some d)->
  Fc zQ 252 #[u32 r,ptr Gv,ptr b1,ptr NI] ((mb,.map es ck)::(Z++C)) (λv H=>v=.tuple #[]/\∃es' bC m',H=(mb,.map es' bC)::(Z++C)/\NU es' bC m'/\TA K m m' r):=by
 have XZ:=xae C h9;have ZX:=xae C Wt;have sP:=xae C h1;have Ws:=xae C h48;have two:=λ(u:Nat) (d:Nd) (e:K.N u=some d)=>(h.ok.mid.two e).1;have stop:∀{r:Nat} {es:Array MapEntry} {ck:Nat} {m:List (Nat×Nd)},NU es ck m->(∀u d,aK m u=some d->K.N u=some d)->(r<2\/aK m r≠none)->
   Fc zQ 252 #[u32 r,ptr Gv,ptr b1,ptr NI] ((mb,.map es ck)::(Z++C)) (λv H=>v=.tuple #[]/\∃es' bC m',H=(mb,.map es' bC)::(Z++C)/\NU es' bC m'/\TA K m m' r):=by
  intro r es ck m hE hg hr;refine aF λg=>xe (Ld.mk (v:=ptr b9) (.tail _ ZX) rfl ?_);refine Ld.v (v:=.map (some mb)) (.tail _ XZ) ?_;have fin:TA K m m r:=⟨hg,λ_ h=>h,hr,λu h h'=>absurd h' h⟩;cases hv:aK m r with
  |some d=>
   refine hE.hit (k:=r) cW (b:=mb) (by exact .head _) hv λv e=>?_;subst e;refine Ext.two λb8 _=>(St.p (fp d) ?_);refine c6.or (a:=true) true (λe=>by cases e) rfl λ_=>?_;exact Br.yes (aN.mk .tail ⟨rfl,es,ck,m,rfl,hE,fin⟩)
  |none=>
   have h2:r<2:=hr.resolve_right λh=>h hv;refine hE.bO (k:=r) cW (b:=mb) (by exact .head _) hv ?_;refine Ext.two λb8 _=>(St.p (r:=[i64 0,u32 0,u32 0]) (by simp[u32,Value.oneCell']) (c6.or (a:=false) (decide (r<=1)) (λ_=>ae.BB (b:=1) ⟨rfl,rfl⟩) rfl λ_=>?_));rw[xam (show r<=1 by omega)];exact Br.yes (aN.mk .tail ⟨rfl,es,ck,m,rfl,hE,fin⟩)
 intro k;induction k with
 |zero=>
  intro r es ck m hk hr hE hg;refine stop hE hg (.inl ?_);cases hN:K.N r with
  |some d=>
   rw[an hN]at hk;have:=h.ok.lv.lt _ (h.ok.mid.var hN);omega
  |none=>
   rcases hr with hr|⟨d,e⟩
   ·exact hr
   rw[hN]at e;cases e
 |succ k ih=>
  intro r es ck m hk hr hE hg;by_cases hs:r<2\/aK m r≠none
  ·exact stop hE hg hs
  have qv:¬r<2:=λh=>hs (.inl h);have hv:aK m r=none:=xaD λh=>hs (.inr h);obtain⟨d,hN⟩:∃d,K.N r=some d:=by
   rcases hr with hr|hr
   ·omega
   exact hr
  have hlt:=h.bM (.inr ⟨d,hN⟩);have hlo:=h.ok.wf.lo hN;have hhi:=h.ok.wf.hi hN;rw[an hN]at hk;have hvl:=h.ok.lv.lt _ (h.ok.mid.var hN);refine aF λg=>xe (Ld.mk (v:=ptr b9) (.tail _ ZX) rfl ?_);refine Ld.v (v:=.map (some mb)) (.tail _ XZ) ?_;refine hE.bO (k:=r) cW (b:=mb) (by exact .head _) hv ?_;refine Ext.two λb8 _=>(St.p (r:=[i64 0,u32 0,u32 0]) (by simp[u32,Value.oneCell']) (c6.or (a:=false) (decide (r<=1)) (λ_=>ae.BB (b:=1) ⟨rfl,rfl⟩) rfl λ_=>?_));rw[xal (show¬r<=1 by omega)];refine Br.no (Ld.mk (v:=ptr kp) (.tail _ (.tail _ sP)) rfl ?_);refine aa.eq (args:=#[ptr kp,u32 r]) (iP h.rep zO) ?_;rw[dU hN (two r d hN)];refine Ext.two λBO _=>(St.p (fp d) ?_);refine DR.of (.refl _) (Ld.mk (v:=ptr b9) (.tail _ (.tail _ (.tail _ ZX))) rfl ?_);refine Ld.v (v:=.map (some mb)) (.tail _ (.tail _ (.tail _ XZ))) ?_;refine az.q ?_;intro G;refine hE.bK (k:=r) (b:=mb) (x:=d) cW gN rfl λkC jO FX=>⟨_,.tail (.tail (.head _)),?_⟩;have g1:∀u e,aK (dW m r d) u=some e->K.N u=some e:=λu e hu=>by
   rw[bL]at hu;split at hu
   ·cases hu;subst u;exact hN
   exact hg u e hu
  refine Ld.mk (v:=.func (.func 252) #[] #[ptr Gv,ptr b1,ptr NI]) (.tail _ (.tail _ (.tail _ Ws))) rfl ?_;refine Ld.f (v:=u32 d.lo) (aJ.of rfl zK (aa.fq (args:=#[u32 d.lo,ptr Gv,ptr b1,ptr NI]) (ih d.lo kC jO _ zO hlo.1 FX g1) ?_));rintro v H ⟨rfl,gP,iB,m2,rfl,sO,w2⟩;refine Ld.mk (v:=.func (.func 252) #[] #[ptr Gv,ptr b1,ptr NI]) (.tail _ (.tail _ (.tail _ Ws))) rfl ?_;refine Ld.f (v:=u32 d.hi) (aJ.of rfl zK (aa.fq (args:=#[u32 d.hi,ptr Gv,ptr b1,ptr NI]) (ih d.hi gP iB m2 zO hhi.1 sO w2.good) ?_));rintro v H ⟨rfl,po,qO,m3,rfl,Pn,w3⟩;have r1:aK (dW m r d) r≠none:=by rw[bL,xad rfl];simp
  refine aN.mk (.skip .tail) ⟨rfl,po,qO,m3,rfl,Pn,⟨w3.good,λu hu=>w3.sub u (w2.sub u ?_),.inr (w3.sub r (w2.sub r r1)),λu hu hn=>?_⟩⟩
  ·rw[bL];split
   ·simp
   exact hu
  by_cases VP:aK m2 u=none
  ·exact w3.shut u hu VP
  by_cases FN:aK (dW m r d) u=none
  ·obtain⟨e,he,a,b⟩:=w2.shut u VP FN;exact⟨e,he,a.imp id (w3.sub _),b.imp id (w3.sub _)⟩
  rw[bL]at FN;split at FN
  ·subst u;exact⟨d,hN,w2.has.imp id (w3.sub _),w3.has⟩
  exact absurd hn FN
end
section
variable {kp:Nat} {K:Kd} {S:Nat->aq.Fn} {ord ah tr:zL} {C:Hp}
theorem Yx(h:bP kp K S ord ah tr C){f:Nat}(hf:live K.N f):Fc zQ 196 #[ptr kp,u32 f] C (λv H=>∃d0 nm kA BM BN m B,v=ptr d0/\kA.oneCell'=true/\H=(d0,.cells (EJ K.n f nm kA 0 0) 266 zZ)::((nm,.map BM BN)::(B++C))/\NU BM BN m/\
  (∀u e,Rc K.N (λq=>q=f) u->K.N u=some e->aK m u=some e)/\dI .i64 B kA (iw ((List.range K.n).map (lv ah)))):=by
 have sL:=h.bc.lT;refine aF λg=>Ie λb1 _=>?_;refine Ld.q ?_;refine aa.eq (gM h.rep) λnm _=>?_;refine Build.mk (cs:=[i64 (K.n:Int),u32 f,.map (some nm),.slice none 0 0,u64 0,u64 0]) zK λb9 _ Gv _=>?_;refine St.one (c':=#[ptr b9]) (by exact .head _) rfl zI rfl ?_;refine Ld.q ?_;refine Ld.n (v:=i64 (K.n:Int)) ?_;refine⟨λvs H=>∃(j:Nat) (kA:zV) (CL:Hp),vs=[i64 (j:Int)]/\j<=K.n/\kA.oneCell'=true/\aT 3 .i64 kA (iw ((List.range j).map (lv ah))) CL/\
   H=(Gv,.cells #[ptr b9] 258 zZ)::(b9,.cells (EJ K.n f nm kA 0 0) 266 zZ)::(nm,.map #[] 0)::(b1,.cells #[ptr kp] 53 zZ)::(CL++C),λvs _=>K.n-bN vs 0,
  JE.mk ⟨0,.slice none 0 0,[],rfl,xaO _,rfl,aT.nil,rfl⟩,?_⟩
 rintro w H ⟨j,kA,CL,⟨⟩,hj,ho,hL,rfl⟩ gs;refine ae.fy (Br.dec (λhlt=>?_) (λhge=>?_))
 ·refine Ld.q ?_;refine aa.eq (l9 h.rep _) ?_;rw[xad ⟨by omega,by omega⟩];refine Ext.two (DR.of (R:=(Gv,Obj.cells #[ptr b9] 258 zZ)::(b9,.cells (EJ K.n f nm kA 0 0) 266 zZ)::C) (.cons (.cons (.skip (.skip .right)))) (Ld.q ?_));refine Ld.q ?_;refine Ld.n (v:=kA) λG=>?_;refine ax.int (e:=3) zK zK zK λbx=>?_;refine⟨.skip (.cons (.cons (.skip (.skip .right)))),?_⟩;intro G;refine hL.rV (.cons (.cons (.cons (.cons (.cons .left))))) (by exact .head _) zP zP λv' N' cC=>?_;refine⟨.skip (.cons (.cons (.skip (.skip .right)))),?_⟩;refine .ptr (.mk ?_);intro G;have n7:v'.oneCell'=true:=by
   obtain⟨x,y,z,rfl⟩:∃x y z,v'=.slice x y z:=by
    rcases cC with⟨rfl,_⟩|⟨b,c,rfl,_⟩
    ·exact⟨_,_,_,rfl⟩
    exact⟨_,_,_,rfl⟩
   rfl
  refine St.one (c':=EJ K.n f nm v' 0 0) (by exact .tail (.tail (.head _))) n7 zI rfl ?_;refine ae.inc (aC.of .tail ⟨j+1,v',N',rfl,hlt,n7,?_,rfl⟩ (by simp only[bN];omega));rw[xce,xaA,cG];rw[xbd]at cC;exact cC
 obtain rfl:j=K.n:=by omega
 intro NI _;refine St.one (c':=#[.func (.func 252) #[] #[ptr Gv,ptr b1,ptr NI]]) (by exact .head _) rfl zI rfl ?_;refine Ld.q ?_;refine aJ.of rfl zK ?_;obtain⟨Z,hZ⟩:∃Z:Hp,Z=(NI,Obj.cells #[.func (.func 252) #[] #[ptr Gv,ptr b1,ptr NI]] 183 zZ)::(Gv,.cells #[ptr b9] 258 zZ)::(b9,.cells (EJ K.n f nm kA 0 0) 266 zZ)::(b1,.cells #[ptr kp] 53 zZ)::CL:=⟨_,rfl⟩;refine aa.pre (H':=(nm,Obj.map #[] 0)::(Z++C)) (by rw[hZ];exact .perm (xaU (l₁:=[_,_,_]))) (aa.fn (args:=#[u32 f,ptr Gv,ptr b1,ptr NI]) .here (UT (Z:=Z) (b9:=b9) (n:=K.n) (f:=f) (kA:=kA) h (by rw[hZ];simp) (by rw[hZ];simp) (by rw[hZ];simp) (by rw[hZ];simp) K.n f #[] 0 [] (xdw _ _) hf aE.empty (λu d e=>by cases e)) ?_);rintro v H ⟨rfl,es',bC,m',rfl,Dv,w'⟩;refine Ld.mk (v:=ptr b9) (.tail _ (xae _ (by rw[hZ];exact .tail _ (.head _)))) rfl ?_;refine aN.mk ?_ ⟨b9,nm,kA,es',bC,m',CL,rfl,ho,rfl,Dv,w'.cov (λu d e=>(h.ok.mid.two e).1),hL.ints⟩;rw[hZ];exact .trans (.cons (.skip (.skip (.cons .tail)))) .swap
def Yd(n:Nat)(f:aq.Fn)(V:Nat):Prop:=(∀j,n<=j->V.testBit j=false)/\∀v,v<n->(V.testBit v=true↔¬∃x:Nat,(∀j,v<j->j<n->x.testBit j=V.testBit j)/\x.testBit v=false/\f x=true)
theorem Yd.uniq{n V V':Nat}{f:aq.Fn}(h:Yd n f V)(h':Yd n f V'):V=V':=by
 have:∀k v,n<=v+k->V.testBit v=V'.testBit v:=by
  intro k;induction k with
  |zero=>intro v hv;rw[h.1 v hv,h'.1 v hv]
  |succ k ih=>
   intro v hv;by_cases FM:n<=v
   ·rw[h.1 v FM,h'.1 v FM]
   rw[xbE,h.2 v zO,h'.2 v zO];have e:∀x:Nat,(∀j,v<j->j<n->x.testBit j=V.testBit j)↔(∀j,v<j->j<n->x.testBit j=V'.testBit j):=λx=>
    ⟨λq j a b=>by rw[q j a b];exact ih j zO,λq j a b=>by rw[q j a b];exact(ih j zO).symm⟩
   simp only[e]
 exact xaV λv=>this n v zO
theorem Mr(h:bP kp K S ord ah tr C){f:Nat}(hf:live K.N f)(h0:f≠0):Rd zQ 91 #[ptr kp,u32 f] C (λv=>∃V,V<18446744073709551616/\Yd K.n (S f) V/\v=.tuple #[u64 V,i64 0]):=by
 have sL:=h.bc.lT;have abk:∃x,S f x=true:=by
  refine xaD λhno=>h0 ?_;have:S f=S 0:=funext λx=>by
   rw[h.ok.mid.int.zero];cases e:S f x with
   |false=>rfl
   |true=>exact absurd ⟨x,e⟩ hno
  exact h.ok.wf.same h.ok.lv h.ok.mid.int hf (.inl zD) λx=>congrFun this x
 refine aF λg=>z6 (aa.rq (Q:=λv=>∃V,V<18446744073709551616/\Yd K.n (S f) V/\v=.tuple #[u64 V,i64 0]) (aF λg=>xA ?_) ?_);rotate_left
 ·rintro v ⟨V,h1,h2,rfl⟩;exact Ext.two (bg.mk (.refl _) ⟨V,h1,h2,rfl⟩)
 refine aa.eq (tD h hf) ?_;rw[xac h0];refine ae.cK (Br.F (aa.fq (Yx h hf) ?_));rintro v H ⟨d0,nm,kA,BM,BN,m,B,rfl,ho,rfl,hE,agw,hL⟩;obtain⟨X,hX⟩:∃X:Hp,X=(nm,Obj.map BM BN)::(B++C):=⟨_,rfl⟩;rw[<-hX];have vw:∀F V,F<18446744073709551616->V<18446744073709551616->W3 K S ah ((List.range K.n).map (lv ah)) m K.n f F V d0 0 nm kA BM BN ((d0,.cells (EJ K.n f nm kA F V) 266 zZ)::X):=λF V hF hV=>
  ⟨h.ok,sL,rfl,.head _,by rw[hX];exact .tail _ (.head _),hE,agw,hL.mono λx hx=>by rw[hX];exact .tail _ (.tail _ (xae _ hx)),λv hv=>by simp[hv],hF,hV⟩
 refine aa.rq (yf (vw 0 0 zD zD) zI hf) ?_;intro t ht;refine aa.eq (yh (C:=X) ht) ?_;have e0:qT K.n 0 0 (S f)=true:=by
  obtain⟨x,hx⟩:=abk;exact qm.2 ⟨x,λj _ hj=>by simp at hj,hx⟩
 rw[e0];refine Un.not (Br.no (Ld.n (v:=i64 (K.n:Int)) (ae.lH (c:=(K.n:Int) -1) rfl zO ?_)));refine⟨λvs H=>∃(j F V:Nat),vs=[u64 0,i64 ((j:Int) -1)]/\j<=K.n/\F<18446744073709551616/\V<18446744073709551616/\H=(d0,.cells (EJ K.n f nm kA F V) 266 zZ)::X/\(∀i,F.testBit i=(decide (j<=i) &&decide (i<K.n)))/\(∀i,i<j\/K.n<=i->V.testBit i=false)/\
   ∀v,j<=v->v<K.n->(V.testBit v=true↔¬∃x:Nat,(∀i,v<i->i<K.n->x.testBit i=V.testBit i)/\x.testBit v=false/\S f x=true),
  λvs _=>match vs with| [_,.int _ q]=>(q+1).toNat|_=>0,
  JE.mk ⟨K.n,0,0,rfl,xai _,by decide,by decide,rfl,λi=>?_,λi _=>by simp,λv a b=>by omega⟩,?_⟩
 ·rw[xcB];by_cases e:K.n<=i
  ·rw[xal (show¬i<K.n by omega),xeh]
  rw[xal e,xed]
 rintro w1 w2 H ⟨j,F,V,⟨⟩,hj,hF,hV,rfl,hFb,ZN,hVb⟩ gs;refine ae.geq (Br.dec (λhge=>?_) (λhlt=>?_))
 ·obtain⟨i,rfl⟩:∃i,j=i+1:=⟨j-1,by omega⟩;have ei:(((i+1:Nat):Int) -1)=(i:Int):=by omega
  rw[ei];intro J hJ;have back:∀F' V':Nat,F'<18446744073709551616->V'<18446744073709551616->(∀a,F'.testBit a=(decide (i<=a) &&decide (a<K.n)))->(∀a,a<i\/K.n<=a->V'.testBit a=false)->
    (∀v,i<=v->v<K.n->(V'.testBit v=true↔¬∃x:Nat,(∀a,v<a->a<K.n->x.testBit a=V'.testBit a)/\x.testBit v=false/\S f x=true))->J [u64 0] ((d0,.cells (EJ K.n f nm kA F' V') 266 zZ)::X):=λF' V' a b c d e=>hJ _ _ λ_=>by
   refine ae.lH (c:=(i:Int) -1) rfl zO (aC.mk ⟨i,F',V',rfl,by omega,a,b,rfl,c,d,e⟩ ?_);show((i:Int) -1+1).toNat<((i:Int)+1).toNat;omega
  refine aa.fq (JI (C:=X) (b:=0) ho zO zD hF hV) ?_;rintro w H ⟨rfl,F1,V1,rfl,hF1,hV1,ag7,agI⟩;have same:V1=V:=xaV λa=>by
   rw[agI];split
   ·subst a;rw[ZN i (.inl zO)];rfl
   rfl
  subst same;have fb:∀a,F1.testBit a=(decide (i<=a) &&decide (a<K.n)):=λa=>by
   rw[ag7,hFb];by_cases e:a=i
   ·subst e;rw[xam (show a<K.n by omega),xam rfl,xam (xai a)];simp
   rw[xal e,xdx];congr 1;exact xcm.2 zO
  refine aa.rq (yf (vw F1 V1 hF1 hV1) zI hf) ?_;intro t ht;intro b31 _;have ht':=ht;obtain⟨rr,rfl,xJ,Pr⟩:=oK ht;refine St.p (r:=rr) Pr ?_ (hr:=xJ);refine az.q ?_ (hr:=xJ);refine aa.eq (yh (C:=X) ht') (Un.not ?_);have qi:qT K.n F1 V1 (S f)=true↔∃x:Nat,(∀a,i<a->a<K.n->x.testBit a=V1.testBit a)/\x.testBit i=false/\S f x=true:=by
   rw[qm];constructor
   ·rintro⟨x,hx,hS⟩;refine⟨x,λa ha hn=>hx a hn (by rw[fb,xam (show i<=a by omega),xam hn];rfl),?_,hS⟩;rw[hx i zO (by rw[fb,xam (xai i),xam (show i<K.n by omega)];rfl)];exact ZN i (.inl zO)
   rintro⟨x,hx,hxi,hS⟩;refine⟨x,λa hn hF=>?_,hS⟩;rw[fb,xaI,xaK,xaK]at hF;by_cases e:a=i
   ·subst e;rw[hxi];exact(ZN a (.inl zO)).symm
   exact hx a zO hn
  refine Br.mk (λhb=>?_) (λhb=>?_)
  ·have hno:qT K.n F1 V1 (S f)=false:=by simpa using hb
   have hz:∃q,rr=[u64 0,q]:=by
    obtain⟨n,b,hn,e,hp⟩:=ht';rw[hno]at hp;have:rr=[u64 n,.bool b]:=by
     have:=Value.agg.inj e;simpa using this
    rw[xaF,xbp]at hp;have e0:n=0:=xaD hp.2;exact⟨.bool b,by rw[this,e0]⟩
   obtain⟨q,rfl⟩:=hz;refine Ld.f (v:=u64 0) (ae.xK (b:=0) zD (xai _) (aa.pre .tail ?_));refine aa.fq (JI (C:=X) (b:=1) ho zO zD hF1 hV1) ?_;rintro w H ⟨rfl,F2,V2,rfl,hF2,hV2,ag6,acY⟩;have v2:∀a,a≠i->V2.testBit a=V1.testBit a:=λa ha=>by rw[acY,xac ha]
   refine JE.mk (back F2 V2 hF2 hV2 (λa=>?_) (λa ha=>?_) λv hv FM=>?_)
   ·rw[ag6,fb];by_cases e:a=i
    ·subst e;rw[xam (show a<K.n by omega),xam rfl,xam (xai a)];rfl
    rw[xal e,xdx]
   ·rw[v2 a zO];exact ZN a zO
   have ahr:∀x:Nat,(∀a,v<a->a<K.n->x.testBit a=V2.testBit a)↔(∀a,v<a->a<K.n->x.testBit a=V1.testBit a):=λx=>
    ⟨λq a h1 h2=>by rw[q a h1 h2,v2 a zO],λq a h1 h2=>by rw[q a h1 h2,v2 a zO]⟩
   simp only[ahr];by_cases e:v=i
   ·subst e;rw[acY,xad rfl];have:=mt qi.2 (by rw[hno];decide);simp only[this,xcM];decide
   rw[v2 v e];exact hVb v zO FM
  have Rq:qT K.n F1 V1 (S f)=true:=by simpa using hb
  refine JE.of .tail (back F1 V1 hF1 hV1 fb (λa ha=>ZN a zO) λv hv FM=>?_);by_cases e:v=i
  ·subst e;rw[ZN v (.inl zO)];simp only[qi.1 Rq,xcr];decide
  exact hVb v zO FM
 obtain rfl:j=0:=by omega
 refine Ld.n (v:=u64 V) (bg.mk ?_ ⟨V,hV,⟨λi hi=>ZN i (.inr hi),λv hv=>hVb v (xaO _) hv⟩,rfl⟩);rw[hX];exact .skip (.skip .right)
theorem Ms(h:bP kp K S ord ah tr C):Rd zQ 91 #[ptr kp,u32 0] C (· =.tuple #[u64 0,i64 10]):=by
 refine aF λg=>z6 (aa.rq (Q:=λv=>v=.tuple #[u64 0,i64 10]) (aF λg=>xA ?_) ?_);rotate_left
 ·rintro v rfl;exact Ext.two (bg.mk (.refl _) rfl)
 refine aa.eq (tD h (.inl zD)) ?_;rw[xad rfl];exact ae.cK (Br.T (bg.mk (.refl _) rfl))
end
section
variable {sp kp mb nx:Nat} {c:Cf} {K:Kd} {S:Nat->aq.Fn} {ord ah tr:zL} {hs:List (Int×Nat)} {es:Array MapEntry} {ck:Nat} {C:Hp} {x:eB}
theorem P4(h:gX kp nx c K S ord ah tr hs es ck C):
  Rd zQ 51 #[ptr sp,x.v] (gS sp c kp mb nx es ck C) (· =if(aK hs x.a).isSome then eP 0 (-1) (sz c.n ord (λg=>g=bY S hs x.a)) 0 else eP 3 (-1) 0 0):=by
 refine aF λg=>OE λb1 _ b3 _=>?_;refine Ld.f (v:=i64 x.a) (aa.eq (eG h x.a) (Un.not ?_));cases hm:aK hs x.a with
 |none=>
  refine Br.yes (aa.eq (cy _ _) (St.p (r:=[i64 3,i64 (-1),u64 0,i64 0]) (bI _ _ _ _) ?_));refine az.q ?_;exact bg.mk (.skip .tail) rfl
 |some r=>
  apply Br.no;have hl:=h.live _ (h.find hm);refine DR.of (.refl _) (Ld.n (v:=ptr kp) (Ld.n (v:=.map (some mb)) (Ld.f (v:=i64 x.a) (h.dJ.hit (k:=x.a) (cf _) (b:=mb) (by exact .tail _ (.tail _ (.tail _ (.head _)))) hm λv e=>?_))));subst e;intro F;refine ax.int (e:=78) (x:=(r:Int)) zK zK zK λbx=>?_;refine⟨.tail,?_⟩;intro F;refine aa.pre (H':=[(bx,Obj.cells (aA .u32 [(r:Int)]) 78 zZ),(b3,.cells #[i64 0,i64 0,u64 0,i64 0] 37 zZ),(b1,.cells (Value.cells x.v) 35 zZ),kH sp c kp mb nx,(mb,.map es ck)]++C) (.refl _) (aa.eq (args:=#[ptr kp,.slice (some ⟨bx,0,none⟩) 1 1]) (SQ h.ks hl (.head _)) (⟨.tail,?_⟩));refine Ext.two (br.of (m:=((sz K.n ord (λg=>g=S r):Nat):Int)) (eV (kd:=.u64) ?_) ?_)
  ·have hc:=h.ks.ok.size h.ks.od;have hroom:=h.ks.ok.mid.cap;have hcap:=h.ks.rep.cap;obtain⟨k,hk,mc⟩:=KW (U:=aD K.n ord (λg=>g=S r)) (l:=Ed ord [S r] K.n) (yD zI);have hle:k<=1048576:=by
    by_cases h2:2<=r
    ·have n9:K.held S (S r):=⟨r,by show K.hold r≠0;rw[h.hold,xad h2];exact xds (xbL.2 (xaT (f:=Prod.snd) (h.find hm))),rfl⟩;have akI:=mc.le hc λg hg=>aV (λg e=>by rw[e];exact n9) hg;omega
    have:k=0:=mc.uniq (nt.none.congr λg=>⟨False.elim,λhg=>jl (λv=>λhv=>h2 ((cr h.ks hl).2 ⟨v,hv⟩)) g hg⟩);omega
   rw[JO mc];exact xaz hle zD
  refine aa.eq (dO _ 0 _) (St.p (r:=[i64 0,i64 (-1),u64 (sz K.n ord (λg=>g=S r)),i64 0]) (bI _ _ _ _) ?_);refine az.q ?_;exact bg.mk (.skip (.skip .tail)) (by rw[bB hm,<-h.n];rfl)
theorem JW(h:gX kp nx c K S ord ah tr hs es ck C)(hno:aK hs x.a=none\/∃r,aK hs x.a=some r/\2<=r/\K.hold r=65535):
  Rd zQ 46 #[ptr sp,x.v] (gS sp c kp mb nx es ck C) (· =if(aK hs x.a).isSome then eP 8 (-1) 0 0 else eP 3 (-1) 0 0):=by
 refine aF λg=>Ae λb1 _ b3 _=>?_;refine Ld.n (v:=.map (some mb)) (Ld.f (v:=i64 x.a) (h.dJ.look (k:=x.a) (cf _) (b:=mb) (by exact .tail _ (.tail _ (.tail _ (.head _)))) (λr v hr hv=>?_) (λhr=>?_)))
 ·subst hv;refine Ext.two (Un.not (Br.no (Ld.n (v:=ptr kp) ?_)));rcases hno with e|⟨q,hq,h2,hf⟩
  ·rw[hr]at e;cases e
  rw[hr]at hq;cases hq;refine aa.eq (args:=#[ptr kp,u32 r]) (o8 h.ks (h.live _ (h.find hr)) h2 hf) (ae.cK (Br.T (aa.eq (cy _ _) (St.p (r:=[i64 8,i64 (-1),u64 0,i64 0]) (bI _ _ _ _) ?_))));refine az.q ?_;exact bg.mk (.skip .tail) (by rw[hr];rfl)
 refine Ext.two (Un.not (Br.yes (aa.eq (cy _ _) (St.p (r:=[i64 3,i64 (-1),u64 0,i64 0]) (bI _ _ _ _) ?_))));refine az.q ?_;exact bg.mk (.skip .tail) (by rw[hr];rfl)
theorem UU(h:gX kp nx c K S ord ah tr hs es ck C)(BD:nx+1<9223372036854775808){r:Nat}(hr:aK hs x.a=some r)(hf:2<=r->K.hold r<65535):
  Fc zQ 46 #[ptr sp,x.v] (gS sp c kp mb nx es ck C) (λv H=>v=eP 0 nx 0 0/\∃K' es' bC C',H=gS sp c kp mb (nx+1) es' bC C'/\gX kp (nx+1) c K' S ord ah [] (hs++[((nx:Int),r)]) es' bC C'):=by
 have hl:=h.live _ (h.find hr);refine aF λg=>Ae λb1 _ b3 _=>?_;refine Ld.n (v:=.map (some mb)) (Ld.f (v:=i64 x.a) (h.dJ.hit (k:=x.a) (cf _) (b:=mb) (by exact .tail _ (.tail _ (.tail _ (.head _)))) hr λv hv=>?_));subst hv;refine Ext.two (Un.not (Br.no (Ld.n (v:=ptr kp) (aa.fq (args:=#[ptr kp,u32 r]) (mP h.ks hl hf) ?_))));rintro v H ⟨rfl,K',cX,hm⟩;refine ae.cK (Br.F (aa.fq (zc h.dJ h.key BD r 0) ?_));rintro v H2 ⟨rfl,es',bC,rfl,he⟩;refine St.p (r:=[i64 0,i64 nx,u64 0,i64 0]) (bI _ _ _ _) ?_;refine az.q ?_;have hg:fW K S K' S (S r) r:=⟨hm.n,hm.cap,λs d hd=>by rw[hm.N];exact hd,λ_ _=>rfl,by rw[hm.N];exact hl,rfl,λs=>by rw[hm.hold];split<;>rfl⟩;exact aN.mk (.skip .tail) ⟨rfl,K',es',bC,H,rfl,(h.grow cX hg he).1⟩
theorem count_erase{l:List (Int×Nat)}{a:Int}{r:Nat}(fA:(l.map Prod.fst).Nodup)(hm:(a,r)∈l)(s:Nat):((iO l a).map Prod.snd).count s=(l.map Prod.snd).count s-if s=r then 1 else 0:=by
 induction l with
 |nil=>cases hm
 |cons p l ih=>
  obtain⟨k,q⟩:=p;rw[xaC,xaX]at fA;unfold iO at*;by_cases hk:k=a
  ·subst hk;have hq:q=r:=by
    rcases xaj.1 hm with e|hm
    ·cases e;rfl
    exact absurd (xaT (f:=Prod.fst) hm) fA.1
   subst hq;have e:(l.filter λy=>decide ¬y.1=k)=l:=xct.2 λy hy=>by
    have:y.1≠k:=λe=>fA.1 (by rw[<-e];exact xan.2 ⟨y,hy,rfl⟩);simpa using this
   rw[xbx,xac zI,e,xaC,xb2];by_cases hs:s=q
   ·subst hs;simp
   have:(q==s)=false:=by simpa using λe=>hs e.symm
   simp[hs,this]
  have hm':(a,r)∈l:=by
   rcases xaj.1 hm with e|hm
   ·cases e;exact absurd rfl hk
   exact hm
  rw[xbx,xad (by simpa using hk),xaC,xaC,xb2,xb2,ih fA.2 hm'];by_cases hs:s=r
  ·subst hs;have:0<(l.map Prod.snd).count s:=xbL.2 (xaT (f:=Prod.snd) hm');rw[xad rfl];omega
  rw[xac hs];rfl
theorem Qa(h:gX kp nx c K S ord ah tr hs es ck C){r:Nat}(hr:aK hs x.a=some r):
  Fc zQ 47 #[ptr sp,x.v] (gS sp c kp mb nx es ck C) (λv H=>v=eP 0 (-1) 0 0/\∃K' es' C',H=gS sp c kp mb nx es' ck C'/\gX kp nx c K' S ord ah [] (iO hs x.a) es' ck C'):=by
 have hmem:=h.find hr;have hl:=h.live _ hmem;have hlt:=h.ks.bM hl;have hh:2<=r->K.hold r≠0:=λh2=>by
  rw[h.hold,xad h2];exact xds (xbL.2 (xaT (f:=Prod.snd) hmem))
 refine aF λg=>Ad λb1 _ b3 _=>?_;refine Ld.n (v:=.map (some mb)) (Ld.f (v:=i64 x.a) (h.dJ.hit (k:=x.a) (cf _) (b:=mb) (by exact .tail _ (.tail _ (.tail _ (.head _)))) hr λv hv=>?_));subst hv;refine Ext.two (Un.not (Br.no (Ld.n (v:=ptr kp) (aa.fq (args:=#[ptr kp,u32 r]) (mY h.ks zO hh) ?_))));rintro v H ⟨rfl,K',cX,hm⟩;refine DR.of (.refl _) (Ld.n (v:=.map (some mb)) (Ld.f (v:=i64 x.a) λF=>?_));refine aE.del (k:=x.a) (cf _) h.dJ (.tail _ (.tail _ (.tail _ (.head _)))) λes' he=>⟨_,.tail (.tail (.tail (.head _))),?_⟩;refine aa.eq (dO 0 0 _) (St.p (r:=[i64 0,i64 (-1),u64 0,i64 0]) (bI _ _ _ _) ?_);refine az.q ?_;have hsub:∀p,p∈iO hs x.a->p∈hs:=λp hp=>(xb1.1 hp).1;have XN:∀s,K'.hold s=if 2<=s then((iO hs x.a).map Prod.snd).count s else 0:=λs=>by
  rw[hm.hold,h.hold,count_erase h.dJ.nd hmem];by_cases h2:2<=s
  ·rw[xad h2,xad h2];by_cases e:s=r
   ·rw[xad ⟨e,by omega⟩,xad e]
   rw[xac (λh=>e h.1),xac e];rfl
  rw[xac h2,xac h2,xac (λh=>h2 zO)]
 refine aN.mk (.skip .tail) ⟨rfl,K',es',H,rfl,⟨cX,hm.n.trans h.n,hm.cap.trans h.cap,he,λp hp=>?_,XN,λp hp=>h.lt p (hsub p hp)⟩⟩;by_cases h2:2<=p.2
 ·refine .inr (cX.ok.mid.held p.2 ?_);rw[XN,xad h2];exact xds (xbL.2 (xaT (f:=Prod.snd) hp))
 exact .inl zO
theorem Qb(h:gX kp nx c K S ord ah tr hs es ck C)(hr:aK hs x.a=none):
  Rd zQ 47 #[ptr sp,x.v] (gS sp c kp mb nx es ck C) (· =eP 3 (-1) 0 0):=by
 refine aF λg=>Ad λb1 _ b3 _=>?_;refine Ld.n (v:=.map (some mb)) (Ld.f (v:=i64 x.a) (h.dJ.bO (k:=x.a) (cf _) (b:=mb) (by exact .tail _ (.tail _ (.tail _ (.head _)))) hr ?_));refine Ext.two (Un.not (Br.yes (aa.eq (cy _ _) (St.p (r:=[i64 3,i64 (-1),u64 0,i64 0]) (bI _ _ _ _) ?_))));refine az.q ?_;exact bg.mk (.skip .tail) rfl
theorem Cb{C0:Hp}{e:Int}(he:e≠0)(hex:Rd zQ 94 #[ptr kp,i64 x.a] C0 (· =i64 e)):
  Rd zQ 56 #[ptr sp,x.v] (gS sp c kp mb nx es ck C0) (· =eP e (-1) 0 0):=by
 refine aF λg=>Ab λb1 _ b3 _=>?_;refine DR.of (.refl _) (Ld.n (v:=ptr kp) (Ld.f (v:=i64 x.a) λF=>?_));refine aa.eq (args:=#[ptr kp,i64 x.a]) hex λF=>?_;refine aa.eq (dO 0 e _) λF=>?_;rw[xac he];refine St.p (r:=[i64 e,i64 (-1),u64 0,i64 0]) (bI _ _ _ _) ?_;refine az.q ?_;exact bg.mk (.skip .tail) rfl
theorem Qc{C0:Hp}{Q:Hp->Prop}(hex:Fc zQ 94 #[ptr kp,i64 x.a] C0 (λv H=>v=i64 0/\Q H)):
  Fc zQ 56 #[ptr sp,x.v] (gS sp c kp mb nx es ck C0) (λv H=>v=eP 0 (-1) 0 0/\∃C',H=gS sp c kp mb nx es ck C'/\Q C'):=by
 refine aF λg=>Ab λb1 _ b3 _=>?_;refine DR.of (R:=(b3,.cells #[i64 0,i64 0,u64 0,i64 0] 37 zZ)::(b1,.cells (Value.cells x.v) 35 zZ)::gS sp c kp mb nx es ck C0) (.refl _) (Ld.n (v:=ptr kp) (Ld.f (v:=i64 x.a) λF=>?_));refine aa.fq (args:=#[ptr kp,i64 x.a]) hex ?_;rintro v C' ⟨rfl,hQ⟩;intro F;refine aa.eq (dO 0 0 _) λF=>?_;refine St.p (r:=[i64 0,i64 (-1),u64 0,i64 0]) (bI _ _ _ _) ?_;refine az.q ?_;exact aN.mk (.skip .tail) ⟨rfl,C',rfl,hQ⟩
theorem Aw{C0:Hp}(ha:x.a<0\/6<x.a):Rd zQ 57 #[ptr sp,x.v] (gS sp c kp mb nx es ck C0) (· =eP 1 (-1) 0 0):=by
 refine aF λg=>Aa λb1 _ b3 _=>?_;refine Ld.f (v:=i64 x.a) (ae.lss (c6.or (decide (6<x.a)) (λ_=>Ld.f (v:=i64 x.a) (ae.gtr ⟨rfl,rfl⟩)) rfl λ_=>?_));rw[<-xa6,xam ha];refine Br.yes (aa.eq (cy _ _) (St.p (r:=[i64 1,i64 (-1),u64 0,i64 0]) (bI _ _ _ _) ?_));refine az.q ?_;exact bg.mk (.skip .tail) rfl
theorem nN{C0:Hp}{s:Nat}(hs:x.a=s)(Zf:s<=6){Q:Int->Nat->Hp->Prop}(hrun:Fc zQ 45 #[ptr kp,.int .u8 (s:Int),i64 x.b] C0 (λv H=>∃(a b d:Int) (t:Bool) (e:Int),v=.tuple #[ud a b d t,i64 e]/\∃n,Q e n H/\Rd zQ 83 #[ptr kp] H (· =i64 ((n:Nat):Int))/\n<18446744073709551616)):
  Fc zQ 57 #[ptr sp,x.v] (gS sp c kp mb nx es ck C0) (λv H=>∃e n C',v=(if e=0 then eP 0 (-1) n 0 else eP e (-1) 0 0)/\H=gS sp c kp mb nx es ck C'/\Q e n C'):=by
 refine aF λg=>Aa λb1 _ b3 _=>?_;refine Ld.f (v:=i64 x.a) ?_;rw[hs];refine ae.lss (c6.or (decide (6<(s:Int))) (λ_=>Ld.f (v:=i64 x.a) (by rw[hs];exact ae.gtr ⟨rfl,rfl⟩)) rfl λ_=>?_);rw[<-xa6,xal zO];refine Br.no (DR.of (R:=[(b3,.cells #[i64 0,i64 0,u64 0,i64 0] 37 zZ),(b1,.cells (Value.cells x.v) 35 zZ),kH sp c kp mb nx]) (.cons (.cons (.cons λ_ _ h=>h.bt))) (Ld.n (v:=ptr kp) (Ld.f (v:=i64 x.a) ?_)));rw[hs];refine br.q (Ld.f (v:=i64 x.b) λF=>?_);refine aa.fq (args:=#[ptr kp,.int .u8 (s:Int),i64 x.b]) hrun ?_;rintro v H ⟨a,b,d,t,e,rfl,n,hQ,fJ,hn⟩;refine⟨.cons (.cons (.cons λ_ _ h=>h.bt)),?_⟩;refine Ext.two λb31 _=>λF=>?_;refine St.p (r:=[i64 a,i64 b,i64 d,.bool t]) (oV _ _ _ _) (⟨.skip (.cons (.cons (.cons λ_ _ h=>h.bt))),?_⟩);refine Ld.n (v:=ptr kp) (aa.eq (args:=#[ptr kp]) fJ (br.q (a:=n) ?_ (xaN hn zD)));refine aa.eq (dO n e _) ?_;by_cases he:e=0
 ·rw[xad he];refine St.p (r:=[i64 0,i64 (-1),u64 n,i64 0]) (bI _ _ _ _) ?_;refine az.q ?_;exact aN.mk (.skip (.skip .tail)) ⟨e,n,H,by rw[xad he],rfl,hQ⟩
 rw[xac he];refine St.p (r:=[i64 e,i64 (-1),u64 0,i64 0]) (bI _ _ _ _) ?_;refine az.q ?_;exact aN.mk (.skip (.skip .tail)) ⟨e,n,H,by rw[xac he],rfl,hQ⟩
end
section
variable {sp nx kp:Nat} {c:Cf} {F:FS} {ord tr:zL} {H C:Hp} {x:eB} {K:Kd} {S:Nat->aq.Fn}
theorem Tx{S:Nat->aq.Fn}{hs:List (Int×Nat)}(a:Int):j6 S (iO hs a)=iO (j6 S hs) a:=by
 unfold j6 iO;rw[List.filter_map];rfl
theorem UX(h:kE sp c nx F ord tr H):Rd zQ 49 #[ptr sp,x.v] H (λw=>w=if fc F x.a&&fc F x.b then eP 0 (-1) (@decide (fF F x.a=fF F x.b) (Classical.propDecidable _)).toNat 0 else eP 3 (-1) 0 0):=by
 obtain⟨kp,mb,K,S,ah,hs,es,ck,C,rfl,h,rfl⟩:=h;rw[ew,ew,mX];exact P6 h
theorem Vy(h:kE sp c nx F ord tr H):Rd zQ 52 #[ptr sp,x.v] H (· =eP 0 (-1) (tL c.n F ord) 0):=by
 obtain⟨kp,mb,K,S,ah,hs,es,ck,C,rfl,h,rfl⟩:=h;rw[<-h.tL];exact P8 h
theorem UO(h:kE sp c nx F ord tr H):Rd zQ 51 #[ptr sp,x.v] H (· =if fc F x.a then eP 0 (-1) (sz c.n ord (λg=>g=fF F x.a)) 0 else eP 3 (-1) 0 0):=by
 obtain⟨kp,mb,K,S,ah,hs,es,ck,C,rfl,h,rfl⟩:=h;rw[ew,mX];exact P4 h
theorem QW(h:kE sp c nx F ord tr H):Rd zQ 55 #[ptr sp,x.v] H (λw=>((x.a<0\/(c.n:Int)<=x.a)/\w=eP 2 (-1) 0 0)\/((0<=x.a/\x.a<c.n)/\∃p,p<c.n/\ord.getD p 0=x.a.toNat/\w=eP 0 (-1) p 0)):=by
 obtain⟨kp,mb,K,S,ah,hs,es,ck,C,rfl,h,rfl⟩:=h;by_cases hv:x.a<0\/(c.n:Int)<=x.a
 ·exact(LZ h hv).mono λv H ⟨h1,h2⟩=>⟨h1,.inl ⟨hv,h2⟩⟩
 obtain⟨v,hxv⟩:∃v:Nat,x.a=v:=⟨x.a.toNat,by omega⟩;refine(L0 h hxv zO).mono λw H ⟨h1,p,hp,ho,h2⟩=>⟨h1,.inr ⟨by omega,p,hp,?_,h2⟩⟩;rw[hxv,xbd];exact ho
theorem EW(h:kE sp c nx F ord tr H):Rd zQ 54 #[ptr sp,x.v] H (λw=>(fc F x.a=false/\w=eP 3 (-1) 0 0)\/(fc F x.a=true/\∃m,GD (fF F x.a) m/\w=eP 0 (-1) m 0)):=by
 obtain⟨kp,mb,K,S,ah,hs,es,ck,C,rfl,h,rfl⟩:=h;rw[ew,mX];refine(B4 h (x:=x) (P:=λn e=>e=0/\GD (bY S hs x.a) n) λr hr=>?_).mono λv H ⟨e,hv⟩=>⟨e,?_⟩
 ·rw[bB hr];exact(DQ h.ks (h.live _ (h.find hr))).mono λv H ⟨e,m,hm,hv⟩=>⟨e,m,0,⟨rfl,hm⟩,hv⟩
 rcases hv with h1|⟨h1,n,e,⟨rfl,hn⟩,h2⟩
 ·exact .inl h1
 exact .inr ⟨h1,n,hn,h2⟩
theorem Z2(h:kE sp c nx F ord tr H)(BD:nx+1<9223372036854775808):Fc zQ 46 #[ptr sp,x.v] H (λw H'=>
  (fc F x.a=false/\w=eP 3 (-1) 0 0/\H'=H)\/(fc F x.a=true/\mu (jN F) (fF F x.a)/\w=eP 8 (-1) 0 0/\H'=H)\/
  (fc F x.a=true/\¬mu (jN F) (fF F x.a)/\w=eP 0 nx 0 0/\kE sp c (nx+1) (F++[((nx:Int),fF F x.a)]) ord [] H')):=by
 obtain⟨kp,mb,K,S,ah,hs,es,ck,C,rfl,h,rfl⟩:=h;rw[ew,mX,mW];cases hm:aK hs x.a with
 |none=>
  refine Fc.mono (JW h (x:=x) (.inl hm)) λv H ⟨h1,h2⟩=>.inl ⟨rfl,?_,h1⟩;rw[hm]at h2;exact h2
 |some r=>
  have hl:live K.N r:=h.live _ (h.find hm);have hle:=h.ks.dN r;rw[bB hm];by_cases hf:2<=r/\K.hold r=65535
  ·refine Fc.mono (JW h (x:=x) (.inr ⟨r,hm,hf.1,hf.2⟩)) λv H ⟨h1,h2⟩=>.inr (.inl ⟨rfl,h.full hf.2 hf.1,?_,h1⟩);rw[hm]at h2;exact h2
  refine(UU h BD hm (λh2=>by omega)).mono ?_;rintro v H ⟨rfl,K',es',bC,C',rfl,h'⟩;refine .inr (.inr ⟨rfl,?_,rfl,kp,mb,K',S,ah,_,es',bC,C',rfl,h',by unfold j6;rw[xaA];rfl⟩);rintro⟨hv,hc⟩;have h2:=(cr h.ks hl).2 hv;rw[<-h.count hl h2]at hc;omega
theorem WA(h:kE sp c nx F ord tr H):Fc zQ 47 #[ptr sp,x.v] H (λw H'=>(fc F x.a=false/\w=eP 3 (-1) 0 0/\H'=H)\/(fc F x.a=true/\w=eP 0 (-1) 0 0/\kE sp c nx (iO F x.a) ord [] H')):=by
 obtain⟨kp,mb,K,S,ah,hs,es,ck,C,rfl,h,rfl⟩:=h;rw[ew];cases hm:aK hs x.a with
 |none=>exact Fc.mono (Qb h (x:=x) hm) λv H ⟨h1,h2⟩=>.inl ⟨rfl,h2,h1⟩
 |some r=>
  refine(Qa h hm).mono ?_;rintro v H ⟨rfl,K',es',C',rfl,h'⟩;exact .inr ⟨rfl,rfl,kp,mb,K',S,ah,_,es',ck,C',rfl,h',Tx _⟩
noncomputable def DC(n:Nat)(F:FS)(ord:zL)(l:Nat):Nat:=Am n ord l (HF (jN F))
theorem WE(h:kE sp c nx F ord tr H)(eU:tr.length<17592186044416):Fc zQ 56 #[ptr sp,x.v] H (λw H'=>
  ((x.a<0\/(c.n:Int)<=x.a+1)/\w=eP 1 (-1) 0 0/\H'=H)\/(∃l:Nat,x.a=l/\l+1<c.n/\¬DC c.n F ord l+2<=c.cap/\w=eP 9 (-1) 0 0/\H'=H)\/
  (∃l:Nat,x.a=l/\l+1<c.n/\DC c.n F ord l+2<=c.cap/\w=eP 0 (-1) 0 0/\kE sp c nx F (fI ord l) (tr++[l]) H')):=by
 obtain⟨kp,mb,K,S,ah,hs,es,ck,C,rfl,h,rfl⟩:=h;by_cases ha:x.a<0\/(c.n:Int)<=x.a+1
 ·exact Fc.mono (Cb (x:=x) (e:=1) zD (SC h.ks (l:=x.a) (by rw[h.n];omega))) λv H ⟨h1,h2⟩=>.inl ⟨ha,h2,h1⟩
 obtain⟨l,hl⟩:∃l:Nat,x.a=l:=⟨x.a.toNat,by omega⟩;have y4:l+1<K.n:=by rw[h.n];omega
 have e:DC c.n (j6 S hs) ord l=Am K.n ord l (K.held S):=by unfold DC;rw[h.held,mW,h.n]
 by_cases hf:iZ K S ord l
 ·refine(Qc (x:=x) (Q:=λC'=>At kp K S (fI ord l) (tr++[l]) C') (by rw[hl];exact uI h.ks.bc y4 eU hf)).mono ?_;rintro v H ⟨rfl,C',rfl,K',S',bR,cX,hk⟩;obtain⟨h',hS⟩:=h.kept cX hk;exact .inr (.inr ⟨l,hl,by omega,by rw[e,<-h.cap];exact hf,rfl,kp,mb,K',S',bR,hs,es,ck,C',rfl,h',jP hS⟩)
 refine Fc.mono (Cb (x:=x) (e:=9) zD (by rw[hl];exact m5 h.ks.bc y4 eU hf)) λv H ⟨h1,h2⟩=>.inr (.inl ⟨l,hl,by omega,?_,h2,h1⟩);rw[e,<-h.cap];exact hf
theorem ve(h:kE sp c nx F ord tr H)(ha:x.a<0\/6<x.a):Rd zQ 57 #[ptr sp,x.v] H (· =eP 1 (-1) 0 0):=by
 obtain⟨kp,mb,K,S,ah,hs,es,ck,C,rfl,h,rfl⟩:=h;exact Aw ha
theorem aab(h:At kp K S ord tr C){s:Nat}{gr:Int}(hb:6<s\/gr<100\/1000<gr):Rd zQ 77 #[ptr kp,.int .u8 (s:Int),i64 gr] C (· =i64 1):=by
 refine aF λg=>z9 (ae.aI (Br.no (ae.nB (b:=6) (c6.or (a:=decide (6<s)) (decide (gr<100)) (λ_=>ae.lss ⟨rfl,rfl⟩) rfl λ_=>?_))));refine c6.or (a:=decide (6<s)||decide (gr<100)) (decide (1000<gr)) (λ_=>ae.gtr ⟨rfl,rfl⟩) rfl λ_=>?_;rw[<-xa6,<-xa6,xam zO];exact Br.yes (bg.mk (.refl _) rfl)
theorem Qo(h:At kp K S ord tr C){s:Nat}{gr:Int}(hb:6<s\/gr<100\/1000<gr):Rd zQ 45 #[ptr kp,.int .u8 (s:Int),i64 gr] C (· =.tuple #[ud 0 0 0 false,i64 1]):=by
 refine aF λg=>iD λb1 _=>?_;refine aa.eq (aab h hb) (ae.cK (Br.T (Build.mk (cs:=[iv 0,iv 0,iv 0,.bool false]) zK (St.q ?_))));refine az.q ?_;exact bg.mk .tail rfl
theorem u7(h:kE sp c nx F ord tr H){s:Nat}(hs:x.a=s)(Zf:s<=6)(hb:x.b<100\/1000<x.b):Fc zQ 57 #[ptr sp,x.v] H (λw H'=>w=eP 1 (-1) 0 0/\H'=H):=by
 obtain⟨kp,mb,K,S,ah,hs',es,ck,C,rfl,h,rfl⟩:=h;have hle:=gm h.ks.bc;refine(nN (x:=x) hs Zf (Q:=λe _ H=>e=1/\H=C) (Fc.mono (Qo h.ks.bc (s:=s) (.inr hb)) λv H ⟨h1,h2⟩=>?_)).mono ?_
 ·subst h1;exact⟨_,_,_,_,_,h2,_,⟨rfl,rfl⟩,cD h.ks.bc,by omega⟩
 rintro v H ⟨e,n,C',rfl,rfl,rfl,rfl⟩;exact⟨rfl,rfl⟩
end
def g0:aq.Fn:=λy=>y.testBit 0
def g1:aq.Fn:=λy=>y.testBit 1
def g2:aq.Fn:=λy=>y.testBit 0&&y.testBit 1
def g3:aq.Fn:=λy=> !g2 y
def g4:aq.Fn:=λ_=>decide ((0:Int)=1)
section
variable {sp nx kp:Nat} {c:Cf} {F F':FS} {ord tr:zL} {H C:Hp} {x:eB} {K:Kd} {S:Nat->aq.Fn}
theorem Q0(h:kE sp c nx F ord tr H):Rd zQ 53 #[ptr sp,x.v] H (λw=>(fc F x.a=false/\w=eP 3 (-1) 0 0)\/(fc F x.a=true/\fF F x.a=(λ_=>false)/\w=eP 10 (-1) 0 0)\/
  (fc F x.a=true/\fF F x.a≠(λ_=>false)/\∃V,V<18446744073709551616/\Yd c.n (fF F x.a) V/\w=eP 0 (-1) V 0)):=by
 obtain⟨kp,mb,K,S,ah,hs,es,ck,C,rfl,h,rfl⟩:=h;rw[ew,mX];refine(L1 h (x:=x) (P:=λn e=>(bY S hs x.a=(λ_=>false)/\n=0/\e=10)\/(bY S hs x.a≠(λ_=>false)/\e=0/\n<18446744073709551616/\Yd c.n (bY S hs x.a) n)) λr hr=>?_).mono λv H ⟨e,hv⟩=>⟨e,?_⟩
 ·rw[bB hr];have hl:=h.live _ (h.find hr);have abL:S r=(λ_=>false)↔r=0:=by
   rw[<-show S 0=λ_=>false from funext h.ks.ok.mid.int.zero];exact h.same hl (.inl zD)
  by_cases h0:r=0
  ·subst h0;exact(Ms h.ks).mono λv H ⟨e,hv⟩=>⟨e,0,10,.inl ⟨abL.2 rfl,rfl,rfl⟩,hv⟩
  refine(Mr h.ks hl h0).mono λv H ⟨e,V,hV,hL,hv⟩=>⟨e,V,0,.inr ⟨λe=>h0 (abL.1 e),rfl,hV,by rw[<-h.n];exact hL⟩,hv⟩
 rcases hv with h1|⟨h1,n,e,⟨a,rfl,rfl⟩|⟨a,rfl,hV,hL⟩,h2⟩
 ·exact .inl h1
 ·exact .inr (.inl ⟨h1,a,h2⟩)
 exact .inr (.inr ⟨h1,a,n,hV,hL,h2⟩)
def Xf(n:Nat)(F:FS)(x:eB)(e:Int)(N:Nat):Prop:=
 (x.op=14\/x.op=15\/x.op=16\/x.op=19\/x.op=20)->
 if(fc F x.a&& (decide (x.op≠15)||fc F x.b))=true then
  (x.op=14->e=0/\N=(fF F x.a x.x).toNat)/\(x.op=15->e=0/\N=(@decide (fF F x.a=fF F x.b) (Classical.propDecidable _)).toNat)/\(x.op=16->e=0/\N=sat n (fF F x.a)%Bs)/\
  (x.op=19->(fF F x.a=(λ_=>false)/\e=10/\N=0)\/(fF F x.a≠(λ_=>false)/\e=0/\Yd n (fF F x.a) N))/\(x.op=20->e=0/\GD (fF F x.a) N)
 else e=3/\N=0
end
noncomputable def rmF(n cap:Nat)(P:aq.Fn->Prop):Rm:=⟨n,λo=>sz n o P,λo l=> @decide (Am n o l P+2<=cap) (Nat.decLe _ _)⟩
theorem YA{K:Kd}{S:Nat->aq.Fn}:rm K S=rmF K.n K.cap (K.held S):=rfl
def TD(c:Cf)(F:FS)(s gr:Nat)(o ls:zL)(k:Nat)(d:Bool):Prop:=Eh (rmF c.n c.cap (HF (jN F))) (HF (jN F)) o s gr ls k d
def RunT(c:Cf)(F:FS)(o ls:zL):Prop:=(∃k d,TD c F c.str c.gr o ls k d)/\Fits (aD c.n (ay o ls) (HF (jN F))) c.cap
section
variable {sp nx:Nat} {c:Cf} {F:FS} {ord tr:zL} {H:Hp} {x:eB}
theorem gX.rm{kp:Nat}{K:Kd}{S:Nat->aq.Fn}{ah:zL}{hs:List (Int×Nat)}{es:Array MapEntry}{ck:Nat}{C:Hp}(h:gX kp nx c K S ord ah tr hs es ck C):Proofs.rm K S=rmF c.n c.cap (HF (jN (j6 S hs)))/\K.held S=HF (jN (j6 S hs)):=by
 rw[YA,h.held,mW,h.n,h.cap];exact⟨rfl,rfl⟩
theorem gX.JR{kp:Nat}{K:Kd}{S:Nat->aq.Fn}{ah:zL}{hs:List (Int×Nat)}{es:Array MapEntry}{ck:Nat}{C:Hp}(h:gX kp nx c K S ord ah tr hs es ck C):Fits (aD c.n ord (HF (jN (j6 S hs)))) c.cap:=by
 have:=h.by.fits h.ks
 rwa [h.n,h.cap,<-mW]at this
theorem kE.fits(h:kE sp c nx F ord tr H):Fits (aD c.n ord (HF (jN F))) c.cap:=by
 obtain⟨kp,mb,K,S,ah,hs,es,ck,C,rfl,h,rfl⟩:=h;exact h.JR
theorem Vf{o:zL}{e e':Nat}(h0:Fits (aD c.n o (HF (jN F))) c.cap)(h:nv c.n c.cap (jN F) (fF F) x o e)(h':nv c.n c.cap (jN F) (fF F) x o e'):e=e':=by
 unfold nv at h h';split at h<;>rename_i h9
 ·rw[xad h9]at h';exact DN h0 h h'
 rw[xac h9]at h';split at h<;>rename_i h10
 ·rw[xad h10]at h';exact DN h0 h h'
 rw[xac h10]at h';split at h<;>rename_i Wt
 ·rw[xad Wt]at h';exact SU h0 h h'
 rw[xac Wt]at h';exact WT h0 h h'
theorem eS.fits{T:zL->Nat->Prop}{t:Nat}{p:zL}(h0:Fits (aD c.n ord (HF (jN F))) c.cap)(h:eS T (RunT c F) ord t p):Fits (aD c.n p (HF (jN F))) c.cap:=by
 cases h with
 |one=>exact h0
 |more _ _ h=>exact h.2
theorem Qj{b:Nat}{T:zL->Nat->Prop}(hc:c.Ok)(hb:b<16000000000000):TC c nx F T (RunT c F) b:=by
 intro kp K S o ah tr hs' es ck C hT h hF eU;refine(Ck h.ks.bc h.ks.perm hc.str hc.gr (λe=>by rw[h.n];exact hc.ex e) zO).mono ?_;rintro v H ⟨ls,d,t,rfl,hA,hS,_,_,hD⟩;obtain⟨e1,e2⟩:=h.rm;rw[e1,e2,hF]at hD;refine⟨ls,_,_,rfl,⟨⟨d,t,hD⟩,?_⟩,hA,hS.len⟩;obtain⟨K',S',bR,cX,hk⟩:=hA;obtain⟨h',F6⟩:=h.kept cX hk;have:=h'.JR;rwa [jP F6,hF]at this
end
section
variable {sp nx kp:Nat} {c:Cf} {F F':FS} {ord tr:zL} {H C:Hp} {x:eB}
theorem Tk{op f:Nat}(hm:m6 op=some f):op=12\/op=13\/op=14\/op=15\/op=16\/op=17\/op=18\/op=19\/op=20\/op=21\/op=22\/op=23:=by
 refine xaD λhn=>?_;unfold m6 at hm;rw[xac zO,xac zO,xac zO,xac zO,xac zO,xac zO,xac zO,xac zO,xac zO,xac zO,xac zO,xac zO]at hm;cases hm
end
section
variable {sp nx:Nat} {c:Cf} {F:FS} {ord tr:zL} {H:Hp} {x:eB}
def yd(x:eB):Prop:=(x.a<0\/6<x.a)\/x.b<100\/1000<x.b
theorem Mn(h:kE sp c nx F ord tr H)(eU:tr.length<16000000000000):Fc zQ 57 #[ptr sp,x.v] H (λw H'=>
  (yd x/\w=eP 1 (-1) 0 0/\H'=H)\/(¬yd x/\(x.a=6/\12<c.n)/\w=eP 6 (-1) 0 0/\kE sp c nx F ord tr H')\/
  (¬yd x/\¬(x.a=6/\12<c.n)/\∃ls k d,TD c F x.a.toNat x.b.toNat ord ls k d/\w=eP 0 (-1) (tL c.n F (ay ord ls)) 0/\kE sp c nx F (ay ord ls) (tr++ls) H'/\ls.length+66*tL c.n F (ay ord ls)<=66*tL c.n F ord)):=by
 by_cases ha:x.a<0\/6<x.a
 ·exact Fc.mono (ve h ha) λv H ⟨h1,h2⟩=>.inl ⟨.inl ha,h2,h1⟩
 obtain⟨s,hs⟩:∃s:Nat,x.a=s:=⟨x.a.toNat,by omega⟩;have Zf:s<=6:=by omega
 by_cases hb:x.b<100\/1000<x.b
 ·exact(u7 h hs Zf hb).mono λv H ⟨h1,h2⟩=>.inl ⟨.inr hb,h1,h2⟩
 have hnb:¬yd x:=λh=>h.elim ha hb;obtain⟨g,hg⟩:∃g:Nat,x.b=g:=⟨x.b.toNat,by omega⟩;obtain⟨kp,mb,K,S,ah,hs',es,ck,C,rfl,h,rfl⟩:=h;have hle:=λ(o:zL) (tr:zL) (C:Hp) (h:At kp K S o tr C)=>gm h;have keep:∀(o cu:zL) (C':Hp),At kp K S o cu C'->kE sp c nx (j6 S hs') o cu (gS sp c kp mb nx es ck C'):=λo cu C' hA=>by
  obtain⟨K',S',bR,cX,hk⟩:=hA;obtain⟨h',hS⟩:=h.kept cX hk;exact⟨kp,mb,K',S',bR,hs',es,ck,C',rfl,h',jP hS⟩
 by_cases hx:s=6/\12<c.n
 ·obtain⟨rfl,hn⟩:=hx;have hv:Rd zQ 45 #[ptr kp,.int .u8 6,i64 x.b] C (· =.tuple #[ud 0 0 0 false,iv 6]):=by rw[hg];exact Qk h.ks.bc (gr:=g) zO (by rw[h.n];exact hn)
  refine(nN (x:=x) hs Zf (Q:=λe _ H=>e=6/\H=C) (Fc.mono hv λv H ⟨h1,h2⟩=>?_)).mono ?_
  ·subst h1;exact⟨_,_,_,_,_,h2,_,⟨rfl,rfl⟩,cD h.ks.bc,by have:=hle _ _ _ h.ks.bc;omega⟩
  rintro v H ⟨e,n,C',rfl,rfl,rfl,rfl⟩;exact .inr (.inl ⟨hnb,⟨by omega,hn⟩,rfl,keep _ _ _ h.ks.bc⟩)
 refine(nN (x:=x) hs Zf (Q:=λe n H=>e=0/\∃ls k d,n=cE K S (ay ord ls)/\At kp K S (ay ord ls) (tr++ls) H/\ls.length+66*cE K S (ay ord ls)<=66*cE K S ord/\Eh (Proofs.rm K S) (K.held S) ord s g ls k d) (Fc.mono (by rw[hg];exact Ck h.ks.bc h.ks.perm Zf (gr:=g) zO (λe=>by rw[h.n];omega) zO) ?_)).mono ?_
 ·rintro v H ⟨ls,d,t,rfl,hA,hS,_,_,hD⟩;exact⟨_,_,_,_,_,rfl,_,⟨rfl,ls,_,_,rfl,hA,hS.len,hD⟩,cD hA,by have:=hle _ _ _ hA;omega⟩
 rintro v H ⟨e,n,C',rfl,rfl,rfl,ls,k,d,rfl,hA,hlen,hD⟩;obtain⟨e1,e2⟩:=h.rm;rw[e1,e2]at hD;rw[h.tL,h.tL]at hlen;refine .inr (.inr ⟨hnb,by omega,ls,k,d,?_,?_,keep _ _ _ hA,hlen⟩)
 ·unfold TD;rw[show x.a.toNat=s by omega,show x.b.toNat=g by omega];exact hD
 rw[xad rfl,h.tL]
def EG(c:Cf)(nx:Nat)(F:FS)(ord:zL)(x:eB)(r:Rp)(F':FS)(q7:Nat)(o:zL):Prop:=
 match fx x.op with
 |some (w,_)=>if lZ c.n F w x=0 then∃t e:Nat,t<=c.rs+1/\eS (nv c.n c.cap (jN F) (fF F) x) (RunT c F) ord t o/\nv c.n c.cap (jN F) (fF F) x o e/\(e=9->t=c.rs+1)/\
   ((e=0/\r=⟨0,nx,0,t⟩/\F'=F++[((nx:Int),dK c.n (fF F) x)]/\q7=nx+1)\/(e≠0/\r=⟨e, -1,0,t⟩/\F'=F/\q7=nx))
  else r=⟨lZ c.n F w x, -1,0,0⟩/\F'=F/\q7=nx/\o=ord
 |none=>
  if x.op=12 then o=ord/\if fc F x.a=true then(mu (jN F) (fF F x.a)/\r=⟨8, -1,0,0⟩/\F'=F/\q7=nx)\/(¬mu (jN F) (fF F x.a)/\r=⟨0,nx,0,0⟩/\F'=F++[((nx:Int),fF F x.a)]/\q7=nx+1)else r=⟨3, -1,0,0⟩/\F'=F/\q7=nx
  else if x.op=13 then o=ord/\q7=nx/\if fc F x.a=true then r=⟨0, -1,0,0⟩/\F'=iO F x.a else r=⟨3, -1,0,0⟩/\F'=F
  else F'=F/\q7=nx/\
   if x.op=22 then if x.a<0\/(c.n:Int)<=x.a+1 then r=⟨1, -1,0,0⟩/\o=ord else(DC c.n F ord x.a.toNat+2<=c.cap/\r=⟨0, -1,0,0⟩/\o=fI ord x.a.toNat)\/(¬DC c.n F ord x.a.toNat+2<=c.cap/\r=⟨9, -1,0,0⟩/\o=ord)
   else if x.op=23 then(yd x/\r=⟨1, -1,0,0⟩/\o=ord)\/(¬yd x/\(x.a=6/\12<c.n)/\r=⟨6, -1,0,0⟩/\o=ord)\/(¬yd x/\¬(x.a=6/\12<c.n)/\∃ls k d,TD c F x.a.toNat x.b.toNat ord ls k d/\r=⟨0, -1,(tL c.n F (ay ord ls):Nat),0⟩/\o=ay ord ls)
   else o=ord/\∃(e:Int) (N:Nat),r=⟨e, -1,N,0⟩/\Xf c.n F x e N/\
    (x.op=17->(fc F x.a=true/\e=0/\N=sz c.n ord (λg=>g=fF F x.a))\/(fc F x.a=false/\e=3/\N=0))/\
    (x.op=18->e=0/\N=tL c.n F ord)/\
    (x.op=21->((x.a<0\/(c.n:Int)<=x.a)/\e=2/\N=0)\/((0<=x.a/\x.a<c.n)/\e=0/\N<c.n/\ord.getD N 0=x.a.toNat))/\
    ((x.op=0\/23<x.op)->e=12/\N=0)
end
section
variable {sp nx:Nat} {c:Cf} {F F':FS} {ord tr:zL} {H:Hp} {x:eB}
def jj(sp:Nat)(c:Cf)(nx:Nat)(F:FS)(ord tr:zL)(x:eB)(v:zV)(H:Hp):Prop:=
 ∃(r:Rp) (F':FS) (q7:Nat) (o cu:zL),v=r.v/\kE sp c q7 F' o cu H/\cu.length<=tr.length+66*tL c.n F ord+1/\EG c nx F ord x r F' q7 o
theorem jj.rp{v:zV}(h:jj sp c nx F ord tr x v H):aap v:=by
 obtain⟨r,_,_,_,_,e,_⟩:=h;exact⟨r.e,r.h,r.n,r.t,e⟩
theorem iU{v:zV}{H':Hp}(hm:fx x.op=none)(ho:x.op≠12/\x.op≠13/\x.op≠22/\x.op≠23)(e:Int)(N:Nat)(hv:v=eP e (-1) N 0)(h':kE sp c nx F ord tr H')(hA:Xf c.n F x e N)
 (Ud:x.op=17->(fc F x.a=true/\e=0/\N=sz c.n ord (λg=>g=fF F x.a))\/(fc F x.a=false/\e=3/\N=0))(h18:x.op=18->e=0/\N=tL c.n F ord)
 (h21:x.op=21->((x.a<0\/(c.n:Int)<=x.a)/\e=2/\N=0)\/((0<=x.a/\x.a<c.n)/\e=0/\N<c.n/\ord.getD N 0=x.a.toNat))(h0:(x.op=0\/23<x.op)->e=12/\N=0):jj sp c nx F ord tr x v H':=by
 refine⟨⟨e, -1,N,0⟩,F,nx,ord,tr,hv,h',by omega,?_⟩;unfold EG;rw[hm];dsimp only;rw[xac ho.1,xac ho.2.1,xac ho.2.2.1,xac ho.2.2.2];exact⟨rfl,rfl,rfl,e,N,rfl,hA,Ud,h18,h21,h0⟩
theorem gJ{r:Rp}{q7:Nat}{o:zL}(hm:fx x.op=none)(h:(x.op=12/\o=ord/\if fc F x.a=true then(mu (jN F) (fF F x.a)/\r=⟨8, -1,0,0⟩/\F'=F/\q7=nx)\/(¬mu (jN F) (fF F x.a)/\r=⟨0,nx,0,0⟩/\F'=F++[((nx:Int),fF F x.a)]/\q7=nx+1)else r=⟨3, -1,0,0⟩/\F'=F/\q7=nx)\/
  (x.op=13/\o=ord/\q7=nx/\if fc F x.a=true then r=⟨0, -1,0,0⟩/\F'=iO F x.a else r=⟨3, -1,0,0⟩/\F'=F)\/
  (x.op=22/\F'=F/\q7=nx/\if x.a<0\/(c.n:Int)<=x.a+1 then r=⟨1, -1,0,0⟩/\o=ord else(DC c.n F ord x.a.toNat+2<=c.cap/\r=⟨0, -1,0,0⟩/\o=fI ord x.a.toNat)\/(¬DC c.n F ord x.a.toNat+2<=c.cap/\r=⟨9, -1,0,0⟩/\o=ord))\/
  (x.op=23/\F'=F/\q7=nx/\((yd x/\r=⟨1, -1,0,0⟩/\o=ord)\/(¬yd x/\(x.a=6/\12<c.n)/\r=⟨6, -1,0,0⟩/\o=ord)\/(¬yd x/\¬(x.a=6/\12<c.n)/\∃ls k d,TD c F x.a.toNat x.b.toNat ord ls k d/\r=⟨0, -1,(tL c.n F (ay ord ls):Nat),0⟩/\o=ay ord ls)))):EG c nx F ord x r F' q7 o:=by
 unfold EG;rw[hm];dsimp only;rcases h with⟨e,h⟩|⟨e,h⟩|⟨e,h1,h2,h⟩|⟨e,h1,h2,h⟩
 ·rw[xad e];exact h
 ·rw[xac zO,xad e];exact h
 ·rw[xac zO,xac zO,xad e];exact⟨h1,h2,h⟩
 rw[xac zO,xac zO,xac zO,xad e];exact⟨h1,h2,h⟩
theorem Ys(h:kE sp c nx F ord tr H)(hc:c.Ok)(BD:nx+1<9223372036854775808)(hx:x.x<18446744073709551616)(eU:tr.length+66*tL c.n F ord<16000000000000):
  Fc zQ 9 #[ptr sp,x.v] H (jj sp c nx F ord tr x):=by
 refine qW (λv H h=>h.rp) (λw f hm=>?_) (λf hm ha fM=>?_) (λhm ha=>?_)
 ·obtain⟨hf,fM,hw⟩:=WM hm;by_cases hl:lZ c.n F w x=0
  ·refine(Ks h hc BD hx hf fM hw hl (Qj hc zO)).mono ?_;rintro v H' ⟨t,o,cu,ht,hT,⟨rfl,h',h0⟩|⟨e,he,rfl,h',Ub,h9,hb⟩⟩
   ·refine⟨⟨0,nx,0,t⟩,_,_,o,[],rfl,h',by simp,?_⟩;unfold EG;rw[hm];dsimp only;rw[xad hl];exact⟨t,0,ht,hT,h0,λh=>absurd h zD,.inl ⟨rfl,rfl,rfl,rfl⟩⟩
   refine⟨⟨e, -1,0,t⟩,F,nx,o,cu,rfl,h',by omega,?_⟩;unfold EG;rw[hm];dsimp only;rw[xad hl];exact⟨t,e,ht,hT,Ub,h9,.inr ⟨by omega,rfl,rfl,rfl⟩⟩
  refine Fc.mono (vL h hx hw hl) λv H' ⟨e1,e2⟩=>?_;refine⟨⟨lZ c.n F w x, -1,0,0⟩,F,nx,ord,tr,e2,by rw[e1];exact h,by omega,?_⟩;unfold EG;rw[hm];dsimp only;rw[xac hl];exact⟨rfl,rfl,rfl,rfl⟩
 ·rcases Tk ha with e|e|e|e|e|e|e|e|e|e|e|e
  ·have hd:Fc zQ 46 #[ptr sp,x.v] H (jj sp c nx F ord tr x):=by
    refine(Z2 h BD).mono ?_;rintro v H' (⟨e1,rfl,rfl⟩|⟨e1,hF,e8,e9⟩|⟨e1,hF,rfl,h'⟩)
    ·exact⟨⟨3, -1,0,0⟩,F,nx,ord,tr,rfl,h,by omega,gJ hm (.inl ⟨e,rfl,by rw[xac (by rw[e1];decide)];exact⟨rfl,rfl,rfl⟩⟩)⟩
    ·exact⟨⟨8, -1,0,0⟩,F,nx,ord,tr,e8,by rw[e9];exact h,by omega,gJ hm (.inl ⟨e,rfl,by rw[xad e1];exact .inl ⟨hF,rfl,rfl,rfl⟩⟩)⟩
    exact⟨⟨0,nx,0,0⟩,_,_,ord,[],rfl,h',by simp,gJ hm (.inl ⟨e,rfl,by rw[xad e1];exact .inr ⟨hF,rfl,rfl,rfl⟩⟩)⟩
   rw[e]at ha;cases ha;exact hd
  ·have hd:Fc zQ 47 #[ptr sp,x.v] H (jj sp c nx F ord tr x):=by
    refine(WA h).mono ?_;rintro v H' (⟨e1,rfl,rfl⟩|⟨e1,rfl,h'⟩)
    ·exact⟨⟨3, -1,0,0⟩,F,nx,ord,tr,rfl,h,by omega,gJ hm (.inr (.inl ⟨e,rfl,rfl,by rw[xac (by rw[e1];decide)];exact⟨rfl,rfl⟩⟩))⟩
    exact⟨⟨0, -1,0,0⟩,_,_,ord,[],rfl,h',by simp,gJ hm (.inr (.inl ⟨e,rfl,rfl,by rw[xad e1];exact⟨rfl,rfl⟩⟩))⟩
   rw[e]at ha;cases ha;exact hd
  ·have hd:Fc zQ 48 #[ptr sp,x.v] H (jj sp c nx F ord tr x):=by
    refine Fc.mono (KT h hx) λv H' ⟨e1,e2⟩=>?_;subst e1;cases hb:fc F x.a with
    |true=>
     rw[hb,xad rfl]at e2;refine iU hm zO 0 _ e2 h (λ_=>?_) zO zO zO zO;rw[xad (by rw[hb,e];rfl)];exact⟨λ_=>⟨rfl,rfl⟩,by omega,by omega,by omega,by omega⟩
    |false=>
     rw[hb,xac zD]at e2;refine iU hm zO 3 0 e2 h (λ_=>?_) zO zO zO zO;rw[xac (by rw[hb];simp)];exact⟨rfl,rfl⟩
   rw[e]at ha;cases ha;exact hd
  ·have hd:Fc zQ 49 #[ptr sp,x.v] H (jj sp c nx F ord tr x):=by
    refine Fc.mono (UX h) λv H' ⟨e1,e2⟩=>?_;subst e1;cases hb:fc F x.a&&fc F x.b with
    |true=>
     rw[hb,xad rfl]at e2;refine iU hm zO 0 _ e2 h (λ_=>?_) zO zO zO zO;rw[xad (by rw[e];simpa using hb)];exact⟨by omega,λ_=>⟨rfl,rfl⟩,by omega,by omega,by omega⟩
    |false=>
     rw[hb,xac zD]at e2;refine iU hm zO 3 0 e2 h (λ_=>?_) zO zO zO zO;rw[xac (by rw[e];simp only[ne_eq,xcr,xdp,xdA];rw[hb];decide)];exact⟨rfl,rfl⟩
   rw[e]at ha;cases ha;exact hd
  ·have hd:Fc zQ 50 #[ptr sp,x.v] H (jj sp c nx F ord tr x):=by
    refine Fc.mono (JY h) λv H' ⟨e1,e2⟩=>?_;subst e1;cases hb:fc F x.a with
    |true=>
     rw[hb,xad rfl]at e2;refine iU hm zO 0 _ e2 h (λ_=>?_) zO zO zO zO;rw[xad (by rw[hb,e];rfl)];exact⟨by omega,by omega,λ_=>⟨rfl,rfl⟩,by omega,by omega⟩
    |false=>
     rw[hb,xac zD]at e2;refine iU hm zO 3 0 e2 h (λ_=>?_) zO zO zO zO;rw[xac (by rw[hb];simp)];exact⟨rfl,rfl⟩
   rw[e]at ha;cases ha;exact hd
  ·have hd:Fc zQ 51 #[ptr sp,x.v] H (jj sp c nx F ord tr x):=by
    refine Fc.mono (UO h) λv H' ⟨e1,e2⟩=>?_;subst e1;cases hb:fc F x.a with
    |true=>
     rw[hb,xad rfl]at e2;exact iU hm zO 0 _ e2 h (λ_=>by omega) (λ_=>.inl ⟨hb,rfl,rfl⟩) zO zO zO
    |false=>
     rw[hb,xac zD]at e2;exact iU hm zO 3 0 e2 h (λ_=>by omega) (λ_=>.inr ⟨hb,rfl,rfl⟩) zO zO zO
   rw[e]at ha;cases ha;exact hd
  ·have hd:Fc zQ 52 #[ptr sp,x.v] H (jj sp c nx F ord tr x):=by
    refine Fc.mono (Vy h) λv H' ⟨e1,e2⟩=>?_;subst e1;exact iU hm zO 0 _ e2 h (λ_=>by omega) zO (λ_=>⟨rfl,rfl⟩) zO zO
   rw[e]at ha;cases ha;exact hd
  ·have hd:Fc zQ 53 #[ptr sp,x.v] H (jj sp c nx F ord tr x):=by
    refine Fc.mono (Q0 h) λv H' ⟨e1,e2⟩=>?_;subst e1;rcases e2 with⟨hb,e2⟩|⟨hb,hf,e2⟩|⟨hb,hf,V,hV,hL,e2⟩
    ·refine iU hm zO 3 0 e2 h (λ_=>?_) zO zO zO zO;rw[xac (by rw[hb];simp)];exact⟨rfl,rfl⟩
    ·refine iU hm zO 10 0 e2 h (λ_=>?_) zO zO zO zO;rw[xad (by rw[hb,e];rfl)];exact⟨by omega,by omega,by omega,λ_=>.inl ⟨hf,rfl,rfl⟩,by omega⟩
    refine iU hm zO 0 V e2 h (λ_=>?_) zO zO zO zO;rw[xad (by rw[hb,e];rfl)];exact⟨by omega,by omega,by omega,λ_=>.inr ⟨hf,rfl,hL⟩,by omega⟩
   rw[e]at ha;cases ha;exact hd
  ·have hd:Fc zQ 54 #[ptr sp,x.v] H (jj sp c nx F ord tr x):=by
    refine Fc.mono (EW h) λv H' ⟨e1,e2⟩=>?_;subst e1;rcases e2 with⟨hb,e2⟩|⟨hb,m,hm',e2⟩
    ·refine iU hm zO 3 0 e2 h (λ_=>?_) zO zO zO zO;rw[xac (by rw[hb];simp)];exact⟨rfl,rfl⟩
    refine iU hm zO 0 m e2 h (λ_=>?_) zO zO zO zO;rw[xad (by rw[hb,e];rfl)];exact⟨by omega,by omega,by omega,by omega,λ_=>⟨rfl,hm'⟩⟩
   rw[e]at ha;cases ha;exact hd
  ·have hd:Fc zQ 55 #[ptr sp,x.v] H (jj sp c nx F ord tr x):=by
    refine Fc.mono (QW h) λv H' ⟨e1,e2⟩=>?_;subst e1;rcases e2 with⟨h1,e2⟩|⟨h1,p,h2,h3,e2⟩
    ·exact iU hm zO 2 0 e2 h (λ_=>by omega) zO zO (λ_=>.inl ⟨h1,rfl,rfl⟩) zO
    exact iU hm zO 0 p e2 h (λ_=>by omega) zO zO (λ_=>.inr ⟨h1,rfl,h2,h3⟩) zO
   rw[e]at ha;cases ha;exact hd
  ·have hd:Fc zQ 56 #[ptr sp,x.v] H (jj sp c nx F ord tr x):=by
    refine(WE h zO).mono ?_;rintro v H' (⟨h1,e2,rfl⟩|⟨l,hl,h1,h2,e2,rfl⟩|⟨l,hl,h1,h2,e2,h'⟩)
    ·exact⟨⟨1, -1,0,0⟩,F,nx,ord,tr,e2,h,by omega,gJ hm (.inr (.inr (.inl ⟨e,rfl,rfl,by rw[xad h1];exact⟨rfl,rfl⟩⟩)))⟩
    ·refine⟨⟨9, -1,0,0⟩,F,nx,ord,tr,e2,h,by omega,gJ hm (.inr (.inr (.inl ⟨e,rfl,rfl,?_⟩)))⟩;rw[xac zO,show x.a.toNat=l by omega];exact .inr ⟨h2,rfl,rfl⟩
    refine⟨⟨0, -1,0,0⟩,F,nx,fI ord l,_,e2,h',by rw[xaf,xcg];omega,gJ hm (.inr (.inr (.inl ⟨e,rfl,rfl,?_⟩)))⟩;rw[xac zO,show x.a.toNat=l by omega];exact .inl ⟨h2,rfl,rfl⟩
   rw[e]at ha;cases ha;exact hd
  have hd:Fc zQ 57 #[ptr sp,x.v] H (jj sp c nx F ord tr x):=by
   refine(Mn h zO).mono ?_;rintro v H' (⟨h1,e2,rfl⟩|⟨h1,h2,e2,h'⟩|⟨h1,h2,ls,k,d,hR,e2,h',hb⟩)
   ·exact⟨⟨1, -1,0,0⟩,F,nx,ord,tr,e2,h,by omega,gJ hm (.inr (.inr (.inr ⟨e,rfl,rfl,.inl ⟨h1,rfl,rfl⟩⟩)))⟩
   ·exact⟨⟨6, -1,0,0⟩,F,nx,ord,tr,e2,h',by omega,gJ hm (.inr (.inr (.inr ⟨e,rfl,rfl,.inr (.inl ⟨h1,h2,rfl,rfl⟩)⟩)))⟩
   exact⟨⟨0, -1,tL c.n F (ay ord ls),0⟩,F,nx,ay ord ls,_,e2,h',by rw[xaf];omega,gJ hm (.inr (.inr (.inr ⟨e,rfl,rfl,.inr (.inr ⟨h1,h2,ls,k,d,hR,rfl,rfl⟩)⟩)))⟩
  rw[e]at ha;cases ha;exact hd
 have hop:¬(1<=x.op/\x.op<=11):=λhop=>by
  have:x.op=1\/x.op=2\/x.op=3\/x.op=4\/x.op=5\/x.op=6\/x.op=7\/x.op=8\/x.op=9\/x.op=10\/x.op=11:=by omega
  rcases this with e|e|e|e|e|e|e|e|e|e|e<;>rw[e]at hm<;>cases hm
 have akD:¬(12<=x.op/\x.op<=23):=λhop=>by
  have:x.op=12\/x.op=13\/x.op=14\/x.op=15\/x.op=16\/x.op=17\/x.op=18\/x.op=19\/x.op=20\/x.op=21\/x.op=22\/x.op=23:=by omega
  rcases this with e|e|e|e|e|e|e|e|e|e|e|e<;>rw[e]at ha<;>cases ha
 exact iU hm zO 12 0 rfl h (λ_=>by omega) zO zO zO (λ_=>⟨rfl,rfl⟩)
end
section
variable {nx:Nat} {c:Cf} {F:FS} {ord:zL} {x:eB}
theorem Tm{n:Nat}{e e':Int}{N N':Nat}(hop:x.op=14\/x.op=15\/x.op=16\/x.op=19\/x.op=20)(a:Xf n F x e N)(b:Xf n F x e' N'):e=e'/\N=N':=by
 have a:=a hop;have b:=b hop;split at a<;>rename_i hh
 ·rw[xad hh]at b;obtain⟨a1,a2,a3,a4,a5⟩:=a;obtain⟨b1,b2,b3,b4,b5⟩:=b;rcases hop with o|o|o|o|o
  ·obtain⟨rfl,rfl⟩:=a1 o;obtain⟨rfl,rfl⟩:=b1 o;exact⟨rfl,rfl⟩
  ·obtain⟨rfl,rfl⟩:=a2 o;obtain⟨rfl,rfl⟩:=b2 o;exact⟨rfl,rfl⟩
  ·obtain⟨rfl,rfl⟩:=a3 o;obtain⟨rfl,rfl⟩:=b3 o;exact⟨rfl,rfl⟩
  ·rcases a4 o with⟨x1,rfl,rfl⟩|⟨x1,rfl,x2⟩
   ·rcases b4 o with⟨y1,rfl,rfl⟩|⟨y1,_⟩
    ·exact⟨rfl,rfl⟩
    exact absurd x1 y1
   rcases b4 o with⟨y1,_⟩|⟨y1,rfl,y2⟩
   ·exact absurd y1 x1
   exact⟨rfl,x2.uniq y2⟩
  obtain⟨rfl,x1⟩:=a5 o;obtain⟨rfl,y1⟩:=b5 o;exact⟨rfl,x1.uniq y1⟩
 rw[xac hh]at b;obtain⟨rfl,rfl⟩:=a;obtain⟨rfl,rfl⟩:=b;exact⟨rfl,rfl⟩
theorem Sq{l:zL}(hn:l.Nodup){i j:Nat}(hi:i<l.length)(hj:j<l.length)(h:l.getD i 0=l.getD j 0):i=j:=by
 have e:∀k,(hk:k<l.length)->l.getD k 0=l[k]:=λk hk=>by rw[xaq,xaa hk];rfl
 rw[e i hi,e j hj]at h;exact(xey hn).1 h
theorem EG.uniq(hp:ord.Perm (List.range c.n))(h0:Fits (aD c.n ord (HF (jN F))) c.cap)
 {r r':Rp}{F1 F2:FS}{n1 n2:Nat}{o o':zL}(a:EG c nx F ord x r F1 n1 o)(b:EG c nx F ord x r' F2 n2 o'):r=r'/\F1=F2/\n1=n2/\o=o':=by
 unfold EG at a b;cases hm:fx x.op with
 |some p=>
  obtain⟨w,f⟩:=p;rw[hm]at a b;dsimp only at a b;by_cases hl:lZ c.n F w x=0
  ·rw[xad hl]at a b;obtain⟨t,e,a1,a2,a3,a4,a5⟩:=a;obtain⟨t',e',b1,b2,b3,b4,b5⟩:=b;obtain⟨rfl,rfl,rfl⟩:=ES (T:=nv c.n c.cap (jN F) (fF F) x) (R:=RunT c F) (λt p h e e'=>Vf (h.fits h0)) (λt p _ ls Kt ⟨⟨k,d,h⟩,_⟩ ⟨⟨k',d',h'⟩,_⟩=>(Eh.uniq h h').1) a2 b2 a3 b3 a4 b4 a1 b1;rcases a5 with⟨h,rfl,rfl,rfl⟩|⟨h,rfl,rfl,rfl⟩<;>rcases b5 with⟨h',rfl,rfl,rfl⟩|⟨h',rfl,rfl,rfl⟩
   ·exact⟨rfl,rfl,rfl,rfl⟩
   ·exact absurd h h'
   ·exact absurd h' h
   exact⟨rfl,rfl,rfl,rfl⟩
  rw[xac hl]at a b;obtain⟨rfl,rfl,rfl,rfl⟩:=a;obtain⟨rfl,rfl,rfl,rfl⟩:=b;exact⟨rfl,rfl,rfl,rfl⟩
 |none=>
  rw[hm]at a b;dsimp only at a b;by_cases Nc:x.op=12
  ·rw[xad Nc]at a b;obtain⟨rfl,a⟩:=a;obtain⟨rfl,b⟩:=b;split at a<;>rename_i hh
   ·rw[xad hh]at b;rcases a with⟨h,rfl,rfl,rfl⟩|⟨h,rfl,rfl,rfl⟩<;>rcases b with⟨h',rfl,rfl,rfl⟩|⟨h',rfl,rfl,rfl⟩
    ·exact⟨rfl,rfl,rfl,rfl⟩
    ·exact absurd h h'
    ·exact absurd h' h
    exact⟨rfl,rfl,rfl,rfl⟩
   rw[xac hh]at b;obtain⟨rfl,rfl,rfl⟩:=a;obtain⟨rfl,rfl,rfl⟩:=b;exact⟨rfl,rfl,rfl,rfl⟩
  rw[xac Nc]at a b;by_cases h13:x.op=13
  ·rw[xad h13]at a b;obtain⟨rfl,rfl,a⟩:=a;obtain⟨rfl,rfl,b⟩:=b;split at a<;>rename_i hh
   ·rw[xad hh]at b;obtain⟨rfl,rfl⟩:=a;obtain⟨rfl,rfl⟩:=b;exact⟨rfl,rfl,rfl,rfl⟩
   rw[xac hh]at b;obtain⟨rfl,rfl⟩:=a;obtain⟨rfl,rfl⟩:=b;exact⟨rfl,rfl,rfl,rfl⟩
  rw[xac h13]at a b;obtain⟨rfl,rfl,a⟩:=a;obtain⟨rfl,rfl,b⟩:=b;by_cases h22:x.op=22
  ·rw[xad h22]at a b;split at a<;>rename_i hh
   ·rw[xad hh]at b;obtain⟨rfl,rfl⟩:=a;obtain⟨rfl,rfl⟩:=b;exact⟨rfl,rfl,rfl,rfl⟩
   rw[xac hh]at b;rcases a with⟨h,rfl,rfl⟩|⟨h,rfl,rfl⟩<;>rcases b with⟨h',rfl,rfl⟩|⟨h',rfl,rfl⟩
   ·exact⟨rfl,rfl,rfl,rfl⟩
   ·exact absurd h h'
   ·exact absurd h' h
   exact⟨rfl,rfl,rfl,rfl⟩
  rw[xac h22]at a b;by_cases h23:x.op=23
  ·rw[xad h23]at a b;rcases a with⟨h,rfl,rfl⟩|⟨h,h2,rfl,rfl⟩|⟨h,h2,ls,k,d,hR,rfl,rfl⟩<;>rcases b with⟨h',rfl,rfl⟩|⟨h',me,rfl,rfl⟩|⟨h',me,Kt,k',d',M7,rfl,rfl⟩
   ·exact⟨rfl,rfl,rfl,rfl⟩
   ·exact absurd h h'
   ·exact absurd h h'
   ·exact absurd h' h
   ·exact⟨rfl,rfl,rfl,rfl⟩
   ·exact absurd h2 me
   ·exact absurd h' h
   ·exact absurd me h2
   obtain rfl:=(Eh.uniq hR M7).1;exact⟨rfl,rfl,rfl,rfl⟩
  rw[xac h23]at a b;obtain⟨rfl,e,N,rfl,a0,a1,a2,a3,a4⟩:=a;obtain⟨rfl,e',N',rfl,b0,b1,b2,b3,b4⟩:=b;have key:e=e'/\N=N':=by
   have no:¬(1<=x.op/\x.op<=11):=λWt=>by
    have:x.op=1\/x.op=2\/x.op=3\/x.op=4\/x.op=5\/x.op=6\/x.op=7\/x.op=8\/x.op=9\/x.op=10\/x.op=11:=by omega
    rcases this with e|e|e|e|e|e|e|e|e|e|e<;>rw[e]at hm<;>cases hm
   by_cases h14:x.op=14\/x.op=15\/x.op=16\/x.op=19\/x.op=20
   ·exact Tm h14 a0 b0
   by_cases Ud:x.op=17
   ·rcases a1 Ud with⟨h,rfl,rfl⟩|⟨h,rfl,rfl⟩<;>rcases b1 Ud with⟨h',rfl,rfl⟩|⟨h',rfl,rfl⟩
    ·exact⟨rfl,rfl⟩
    ·rw[h]at h';cases h'
    ·rw[h]at h';cases h'
    exact⟨rfl,rfl⟩
   by_cases h18:x.op=18
   ·obtain⟨rfl,rfl⟩:=a2 h18;obtain⟨rfl,rfl⟩:=b2 h18;exact⟨rfl,rfl⟩
   by_cases h21:x.op=21
   ·rcases a3 h21 with⟨h,rfl,rfl⟩|⟨h,rfl,h2,h3⟩<;>rcases b3 h21 with⟨h',rfl,rfl⟩|⟨h',rfl,me,xI⟩
    ·exact⟨rfl,rfl⟩
    ·omega
    ·omega
    have hl:=hp.length_eq;rw[xaH]at hl;exact⟨rfl,Sq (hp.nodup_iff.2 xbg) zO zO (by rw[h3,xI])⟩
   obtain⟨rfl,rfl⟩:=a4 zO;obtain⟨rfl,rfl⟩:=b4 zO;exact⟨rfl,rfl⟩
  obtain⟨rfl,rfl⟩:=key;exact⟨rfl,rfl,rfl,rfl⟩
end
inductive Lj(c:Cf):Nat->FS->zL->List eB->List Rp->Nat->FS->zL->Prop
 |nil {nx:Nat} {F:FS} {o:zL}:Lj c nx F o [] [] nx F o
 |cons {nx n1 n2:Nat} {F F1 F2:FS} {o o1 o2:zL} {x:eB} {r:Rp} {xs:List eB} {rs:List Rp}:Fits (aD c.n o (HF (jN F))) c.cap->o.Perm (List.range c.n)->EG c nx F o x r F1 n1 o1->Lj c n1 F1 o1 xs rs n2 F2 o2->Lj c nx F o (x::xs) (r::rs) n2 F2 o2
section
variable {c:Cf}
theorem Lj.uniq{nx:Nat}{F:FS}{o:zL}{xs:List eB}{rs rs':List Rp}{n2 n2':Nat}{F2 F2':FS}{o2 o2':zL}(a:Lj c nx F o xs rs n2 F2 o2)(b:Lj c nx F o xs rs' n2' F2' o2'):rs=rs'/\n2=n2'/\F2=F2'/\o2=o2':=by
 induction a generalizing rs' with
 |nil=>cases b;exact⟨rfl,rfl,rfl,rfl⟩
 |cons h0 hp hs _ ih=>
  cases b with
  |cons _ _ hs' hb=>
   obtain⟨rfl,rfl,rfl,rfl⟩:=hs.uniq hp h0 hs';obtain⟨rfl,h⟩:=ih hb;exact⟨rfl,h⟩
theorem Lj.snoc{nx n1 n2:Nat}{F F1 F2:FS}{o o1 o2:zL}{x:eB}{r:Rp}{xs:List eB}{rs:List Rp}(a:Lj c nx F o xs rs n1 F1 o1)(h0:Fits (aD c.n o1 (HF (jN F1))) c.cap)(hp:o1.Perm (List.range c.n))(h:EG c n1 F1 o1 x r F2 n2 o2):Lj c nx F o (xs++[x]) (rs++[r]) n2 F2 o2:=by
 induction a with
 |nil=>exact .cons h0 hp h .nil
 |cons a b d _ ih=>exact .cons a b d (ih h0 hp h)
end
theorem kE.ZZ{sp nx:Nat}{c:Cf}{F:FS}{ord tr:zL}{H:Hp}(h:kE sp c nx F ord tr H):tL c.n F ord<=1048574:=by
 obtain⟨kp,mb,K,S,ah,hs,es,ck,C,rfl,h,rfl⟩:=h;rw[<-h.tL];exact gm h.ks.bc
section
variable {c:Cf}
theorem EG.nx{nx n1:Nat}{F F1:FS}{o o1:zL}{x:eB}{r:Rp}(a:EG c nx F o x r F1 n1 o1):n1<=nx+1:=by
 unfold EG at a;split at a
 ·split at a
  ·obtain⟨t,e,_,_,_,_,⟨_,_,_,rfl⟩|⟨_,_,_,rfl⟩⟩:=a<;>omega
  obtain⟨_,_,rfl,_⟩:=a;omega
 split at a
 ·obtain⟨_,a⟩:=a;split at a
  ·rcases a with⟨_,_,_,rfl⟩|⟨_,_,_,rfl⟩<;>omega
  obtain⟨_,_,rfl⟩:=a;omega
 split at a
 ·obtain⟨_,rfl,_⟩:=a;omega
 obtain⟨_,rfl,_⟩:=a;omega
theorem PZ{sp nx:Nat}{F:FS}{ord tr:zL}{H:Hp}{x:eB}{xs:List eB}{l:List Rp}{i:Nat}(hc:c.Ok)(hx:x.Ok)(h:kE sp c nx F ord tr H)(hD:Lj c 0 [] (List.range c.n) xs l nx F ord)(hn:nx<=i)(ht:tr.length<=i*69206017)(hi:i<200000):
  Fc zQ 9 #[ptr sp,x.v] H (λv H'=>∃r:Rp,v=r.v/\∃(q7:Nat) (F':FS) (o' cu:zL),kE sp c q7 F' o' cu H'/\Lj c 0 [] (List.range c.n) (xs++[x]) (l++[r]) q7 F' o'/\q7<=i+1/\cu.length<=(i+1)*69206017):=by
 have hf:=h.ZZ;refine(Ys h hc zO hx.x zO).mono ?_;rintro v H' ⟨r,F',q7,o,cu,rfl,h',hb,hS⟩;have:=hS.nx;exact⟨r,rfl,q7,F',o,cu,h',hD.snoc h.fits h.perm hS,by omega,by omega⟩
theorem Qx{ci:uJ}{steps:List eB}{sv:zV}{Y:Hp}(hs:Sl 5 Y sv (steps.map eB.cells))(hok:∀s∈steps,s.Ok)(cB:steps.length<=174762):
  Fc zQ 8 #[.agg ci.cells.toArray,sv] Y (λw H=>(fQ ci≠0/\w=.tuple #[.slice none 0 0,i64 (fQ ci)]/\H=Y)\/
   (fQ ci=0/\∃(d:Cf) (l:List Rp) (s:zV) (CR HS:Hp) (nx:Nat) (F:FS) (o:zL),ci=d.i/\d.Ok/\w=.tuple #[s,i64 0]/\H=CR++Y/\aU 37 4 s (l.map Rp.cells) CR/\l.length=steps.length/\Lj d 0 [] (List.range d.n) steps l nx F o)):=by
 refine(Kf hs zO (λi sp l H=>∃(d:Cf) (nx:Nat) (F:FS) (o tr:zL),ci=d.i/\d.Ok/\kE sp d nx F o tr H/\Lj d 0 [] (List.range d.n) (steps.take i) l nx F o/\nx<=i/\tr.length<=i*69206017) (λd hd hk sp kp mb C hK=>⟨d,0,[],_,[],hd,hk,AX hK,.nil,xai _,by simp⟩) ?_).mono ?_
 ·rintro i sp l H x he hx ⟨d,nx,F,o,tr,hd,hk,hS,hD,hn,ht⟩ hl;have hi:=(xag.1 hx).1;have ex:steps.take (i+1)=steps.take i++[x]:=by rw[xbf,hx];rfl
  refine(PZ hk (hok x (xau hx)) hS hD hn ht zO).mono ?_;rintro v H' ⟨r,rfl,q7,F',o',cu,h',hD',hn',ht'⟩;exact⟨r,rfl,d,q7,F',o',cu,hd,hk,h',by rw[ex];exact hD',hn',ht'⟩
 rintro w H (h|⟨he,sp,l,s,CR,HS,rfl,rfl,hR,hl,d,nx,F,o,tr,hd,hk,hS,hD,_⟩)
 ·exact .inl h
 rw[xa9]at hD;exact .inr ⟨he,d,l,s,CR,HS,nx,F,o,hd,hk,rfl,rfl,hR,hl,hD⟩
end
theorem Cf.abM{d c:Cf}(h:d.i=c.i):d=c:=by
 obtain⟨a1,a2,a3,a4,a5⟩:=d;obtain⟨b1,b2,b3,b4,b5⟩:=c;simp only[Cf.i,uJ.mk.injEq]at h;simp only[Cf.mk.injEq];omega
theorem tZ{ci:uJ}{steps:List eB}{sv:zV}{Y:Hp}(hs:Sl 5 Y sv (steps.map eB.cells))(hok:∀s∈steps,s.Ok)(cB:steps.length<=174762):
  Rd zQ 3 #[.agg ci.cells.toArray,sv] Y (· =.bool true):=by
 refine aF λg=>TO λb1 _=>?_;refine aa.eq (Gw _) (Un.not (Br.no (az.q (r:=ci.cells) ?_)));refine aa.fn hnew (B6 ci (Q:=λv H=>(fQ ci≠0/\v=.tuple #[.pointer none,i64 (fQ ci)]/\H=[])\/(fQ ci=0/\∃(d:Cf) (sp:Nat),ci=d.i/\d.Ok/\v=.tuple #[ptr sp,i64 0]/\kE sp d 0 [] (List.range d.n) [] H)) (λh=>.inl ⟨h,rfl,rfl⟩) (λd hd hok sp kp mb C hK=>.inr ⟨by rw[hd];exact hok.fQ,d,sp,hd,hok,rfl,AX hK⟩)) ?_;rintro w HS0 (⟨hne,rfl,rfl⟩|⟨h0,c,sp,pc,hcO,rfl,Se⟩)
 ·refine Ext.two (az.q (r:=ci.cells) ?_);refine aa.fn (.cons .here) (Qx hs hok cB) ?_;rintro w H (⟨_,rfl,rfl⟩|⟨h,_⟩)
  ·refine Ext.two (ae.cK ?_);refine c6.or (decide (fQ ci≠0)) (λ_=>ae.cK ⟨rfl,rfl⟩) rfl λ_=>?_;rw[xam hne,xdr];refine Br.yes (ae.ia ?_);refine c6.and true (λ_=>?_) rfl λ_=>?_
   ·exact(aU.nil 37 4).bX (ae.ia ⟨rfl,rfl⟩)
   rw[xam rfl];exact bg.mk .tail rfl
  exact absurd h hne
 refine Ext.two (az.q (r:=ci.cells) ?_);refine aa.fn (.app (.cons .here)) (Qx hs hok cB) ?_;rintro w H (⟨h,_⟩|⟨_,d,l0,s0,CR,HP,nx0,F0,o0,hd,hdO,rfl,rfl,hR0,hl0,hD0⟩)
 ·exact absurd h0 h
 obtain rfl:d=c:=Cf.abM (hd.symm.trans pc);refine Ext.two (ae.cK ?_);refine c6.or false (λ_=>ae.cK ⟨rfl,rfl⟩) rfl λ_=>?_;refine Br.no (hs.bX ?_);rw[xax];obtain⟨Z,hZ⟩:∃Z:Hp,Z=(b1,Obj.cells ci.cells.toArray 23 zZ)::(CR++Y):=⟨_,rfl⟩;have inY:∀y∈Y,y∈Z:=λy hy=>by rw[hZ];exact .tail _ (xab _ hy)
 have sI:∀y∈CR,y∈Z:=λy hy=>by rw[hZ];exact .tail _ (xae _ hy)
 have hZY:aM Z Y:=by rw[hZ];exact .skip .right
 refine⟨λvs H=>∃(i nx:Nat) (F:FS) (o tr:zL) (l:List Rp) (v:zV) (C2 HS:Hp),vs=[v,i64 (i:Int)]/\i<=steps.length/\l.length=i/\aU 37 4 v (l.map Rp.cells) C2/\kE sp d nx F o tr HS/\Lj d 0 [] (List.range d.n) (steps.take i) l nx F o/\nx<=i/\tr.length<=i*69206017/\H=C2++(HS++Z),λvs _=>steps.length-bN vs 1,
  JE.mk ⟨0,0,[],_,[],[],_,[],HS0,rfl,xaO _,rfl,aU.nil _ _,Se,.nil,xai _,xaO _,by rw[hZ];rfl⟩,?_⟩
 clear Se;rintro v1 v2 H ⟨i,nx,F,o,tr,l,v,C2,HS,⟨⟩,hi,hl,hR,hS,hD,BD,eU,rfl⟩ gs;refine ae.fy (Br.dec (λhlt=>?_) (λhge=>?_))
 ·obtain⟨x,hx⟩:∃x,steps[i]? =some x:=⟨_,xaa hlt⟩;have hxO:=hok x (xau hx);have hxi:(steps.map eB.cells)[i]? =some x.cells:=by rw[xat,hx];rfl
  have ex:steps.take (i+1)=steps.take i++[x]:=by rw[xbf,hx];rfl
  refine av.sl hs hxi λp hp=>az.at hp rfl zD (λy hy=>xab _ (xab _ (inY y hy))) ?_;intro b24 _;refine St.p (r:=x.cells) x.one ?_;refine az.q (r:=x.cells) ?_;refine aa.fn (.cons (.app .left)) (PZ hdO hxO hS hD BD eU zO) ?_;rintro w HS' ⟨r,rfl,q7,F',o',cu,F6,hD',afR,FO⟩;refine ax.one (z:=.agg #[i64 0,i64 0,u64 0,i64 0]) (e:=37) (k:=4) (r:=r.cells) zK zK zK zD rfl λbx=>?_;refine aU.rV (r:=r.cells) hR (.cons (.cons .left)) (by exact .head _) rfl (Rp.one r) ⟨[i64 0,i64 0,u64 0,i64 0],rfl,rfl⟩ (by rw[xax];omega) (by rw[xax];omega) λv' CR' M7=>?_;exact ae.inc (aC.of (.skip .tail) ⟨i+1,q7,F',o',cu,l++[r],v',CR',HS',rfl,hlt,by rw[xaf,hl];rfl,by rw[xaA];exact M7,F6,by rw[ex];exact hD',afR,FO,rfl⟩ (by simp only[bN];omega))
 obtain rfl:i=steps.length:=by omega
 rw[xa9]at hD;obtain⟨rfl,_⟩:=hD0.uniq hD;refine aa.eh .here (yw ((Sl.nU hR0 zD).mono λy hy=>xab _ (xab _ (sI y hy))) ((Sl.nU hR zD).mono λy hy=>xae _ hy) zO) ?_;rw[jK.2 rfl];exact bg.mk (.trans .right (.trans .right hZY)) rfl
section
open Go.ChangeShapes Go.WideShapes Go.Deep
variable {H:Type} {enc:TypeId×zV->H} {W:World} {base:Nat} {spare:Nat->Bool} {held:Bool}
theorem NA{fuel:Nat}{cs:List zV}{x:DataW H×List MemPlace}(hl:cs.length=5)(h:DataW.trod enc zQ W base spare held fuel 23 cs=some x):∃c:uJ,cs=c.cells/\c.str<256:=by
 obtain⟨xs,n,_,_,_,hx,hf⟩:=DataW.trod_struct Tryz.underlying23 h
 match cs,hl with
 | [c0,c1,c2,c3,c4],_=>
  have hx5:xs.length=5:=hx;have tE:Tryz.prog.cellsOf 3=1:=by kernel_rfl
  have AU:Tryz.prog.cellsOf 5=1:=by kernel_rfl
  have g0:DataW.trod enc zQ W base spare held n 3 (List.take (Tryz.prog.cellsOf 3) [c0,c1,c2,c3,c4])=xs[0]? :=hf 0 _ rfl;have g1:DataW.trod enc zQ W base spare held n 3 (List.take (Tryz.prog.cellsOf 3) [c1,c2,c3,c4])=xs[1]? :=hf 1 _ rfl;have g2:DataW.trod enc zQ W base spare held n 5 (List.take (Tryz.prog.cellsOf 5) [c2,c3,c4])=xs[2]? :=hf 2 _ rfl;have g3:DataW.trod enc zQ W base spare held n 3 (List.take (Tryz.prog.cellsOf 3) [c3,c4])=xs[3]? :=hf 3 _ rfl;have g4:DataW.trod enc zQ W base spare held n 3 (List.take (Tryz.prog.cellsOf 3) [c4])=xs[4]? :=hf 4 _ rfl;rw[tE,xaa zO]at g0;rw[tE,xaa zO]at g1;rw[AU,xaa zO]at g2;rw[tE,xaa zO]at g3;rw[tE,xaa zO]at g4;simp only[xea,xei]at g0 g1 g2 g3 g4;obtain⟨n0,e0,_,w0⟩:=DataW.trod_int Tryz.underlying3 g0;obtain⟨n1,e1,_,w1⟩:=DataW.trod_int Tryz.underlying3 g1;obtain⟨n2,e2,_,w2⟩:=DataW.trod_int Tryz.underlying5 g2;obtain⟨n3,e3,_,w3⟩:=DataW.trod_int Tryz.underlying3 g3;obtain⟨n4,e4,_,w4⟩:=DataW.trod_int Tryz.underlying3 g4;have b0:=bounds_i64 w0;have b1:=bounds_i64 w1;have b2:=bounds_u8 w2;have b3:=bounds_i64 w3;have b4:=bounds_i64 w4;simp only[xav,xaW]at e0 e1 e2 e3 e4;have z2:((n2.toNat:Nat):Int)=n2:=by omega
  exact⟨⟨n0,n1,n2.toNat,n3,n4⟩,by unfold uJ.cells;simp only;rw[e0,e1,e2,e3,e4,z2],by simp only;omega⟩
theorem EY{fuel:Nat}{cs:List zV}{x:DataW H×List MemPlace}(hl:cs.length=5)(h:DataW.trod enc zQ W base spare held fuel 35 cs=some x):∃s:eB,cs=s.cells/\s.Ok:=by
 obtain⟨xs,n,_,_,_,hx,hf⟩:=DataW.trod_struct Tryz.underlying35 h
 match cs,hl with
 | [c0,c1,c2,c3,c4],_=>
  have hx5:xs.length=5:=hx;have tE:Tryz.prog.cellsOf 3=1:=by kernel_rfl
  have Q5:Tryz.prog.cellsOf 33=1:=by kernel_rfl
  have AU:Tryz.prog.cellsOf 5=1:=by kernel_rfl
  have g0:DataW.trod enc zQ W base spare held n 5 (List.take (Tryz.prog.cellsOf 5) [c0,c1,c2,c3,c4])=xs[0]? :=hf 0 _ rfl;have g1:DataW.trod enc zQ W base spare held n 3 (List.take (Tryz.prog.cellsOf 3) [c1,c2,c3,c4])=xs[1]? :=hf 1 _ rfl;have g2:DataW.trod enc zQ W base spare held n 3 (List.take (Tryz.prog.cellsOf 3) [c2,c3,c4])=xs[2]? :=hf 2 _ rfl;have g3:DataW.trod enc zQ W base spare held n 3 (List.take (Tryz.prog.cellsOf 3) [c3,c4])=xs[3]? :=hf 3 _ rfl;have g4:DataW.trod enc zQ W base spare held n 33 (List.take (Tryz.prog.cellsOf 33) [c4])=xs[4]? :=hf 4 _ rfl;rw[AU,xaa zO]at g0;rw[tE,xaa zO]at g1;rw[tE,xaa zO]at g2;rw[tE,xaa zO]at g3;rw[Q5,xaa zO]at g4;simp only[xea,xei]at g0 g1 g2 g3 g4;obtain⟨n0,e0,_,w0⟩:=DataW.trod_int Tryz.underlying5 g0;obtain⟨n1,e1,_,w1⟩:=DataW.trod_int Tryz.underlying3 g1;obtain⟨n2,e2,_,w2⟩:=DataW.trod_int Tryz.underlying3 g2;obtain⟨n3,e3,_,w3⟩:=DataW.trod_int Tryz.underlying3 g3;obtain⟨n4,e4,_,w4⟩:=DataW.trod_int Tryz.underlying33 g4;have b0:=bounds_u8 w0;have b1:=bounds_i64 w1;have b2:=bounds_i64 w2;have b3:=bounds_i64 w3;have b4:=bounds_u64 w4;simp only[xav,xaW]at e0 e1 e2 e3 e4;have z0:((n0.toNat:Nat):Int)=n0:=by omega
  have z4:((n4.toNat:Nat):Int)=n4:=by omega
  exact⟨⟨n0.toNat,n1,n2,n3,n4.toNat⟩,by simp only[eB.cells,u64];rw[e0,e1,e2,e3,e4,z0,z4],⟨by simp only;omega,by simp only;omega,by simp only;omega,by simp only;omega,by simp only;omega⟩⟩
theorem P1{fuel:Nat}{cs:List zV}{x:DataW H×List MemPlace}(h:DataW.trod enc zQ W base spare held fuel 35 cs=some x):∃ps,x.1=.agg ps/\ps.length=5:=by
 obtain⟨xs,n,_,rfl,_,hx,_⟩:=DataW.trod_struct Tryz.underlying35 h;exact⟨_,rfl,by rw[xax];exact hx⟩
theorem aac{v:zV}{d:DataW H}{ps:List MemPlace}(h:DataW.Trod enc zQ W base spare held 23 v d ps)(hv:∃cs,v=.agg cs/\cs.size=Tryz.prog.cellsOf 23):∃c:uJ,v=.agg c.cells.toArray/\c.str<256:=by
 obtain⟨fuel,hf⟩:=h;obtain⟨cs,rfl,hsz⟩:=hv;rw[show Tryz.prog.cellsOf 23=5 by kernel_rfl]at hsz;obtain⟨l⟩:=cs;obtain⟨s,hs,hok⟩:=NA (cs:=l) hsz hf;subst hs;exact⟨s,rfl,hok⟩
theorem Md{v:zV}{d:DataW H}{ps:List MemPlace}(h:DataW.Trod enc zQ W base spare held 24 v d ps)(hv:∃a n c,v=.slice a n c):
  ∃steps:List eB,Sl 5 (whole W) v (steps.map eB.cells)/\(∀s∈steps,s.Ok)/\((∀n∈d.weights zQ 24,n<=reachBytes)->steps.length<4398046511104)/\(steps.length=0\/∃es sp,d=.slice es sp/\steps.length=es.length/\∀e∈es,∃ps,e=.agg ps/\ps.length=5):=by
 obtain⟨fuel,hf⟩:=h;have k5:Tryz.prog.cellsOf 35=5:=by kernel_rfl
 obtain⟨v',rs,hcs,XF,hw,hr⟩:=LV Tryz.underlying24 k5 zD hf;have MS:v'=v:=by
  obtain⟨a,n,c,rfl⟩:=hv;simpa[Value.cells]using hcs.symm
 subst MS;have hone:∀r∈rs,∃s:eB,r=s.cells/\s.Ok:=λr hm=>by
  obtain⟨i,hi,e⟩:=xba.1 hm;obtain⟨f,y,_,_,hy,_⟩:=hr i r (by rw[xaa hi,e]);exact EY (XF.1 r hm) hy
 have hex:∃steps:List eB,rs=steps.map eB.cells/\∀s∈steps,s.Ok:=by
  clear XF hw hr hcs;induction rs with
  |nil=>exact⟨[],rfl,by simp⟩
  |cons r rest ih=>
   obtain⟨l,h1,h2⟩:=ih λr hm=>hone r (by simp[hm]);obtain⟨s,h3,h4⟩:=hone r zI;exact⟨s::l,by simp[h1,h3],λm hm=>by rcases xaj.1 hm with rfl|hm;exact h4;exact h2 m hm⟩
 obtain⟨steps,rfl,hok⟩:=hex;refine⟨steps,XF,hok,λaG=>?_,?_⟩;rotate_left
 ·rcases hw with⟨h1,_⟩|⟨es,sp,h1,h2⟩
  ·exact .inl (by simpa using xch List.length h1)
  rw[xax]at h2;refine .inr ⟨es,sp,h1,h2.symm,λe he=>?_⟩;obtain⟨i,hi,rfl⟩:=xba.1 he;obtain⟨f,y,gP,sp2,hy,FK,hy2⟩:=hr i _ (xaa (by rw[xax];omega));have:es=gP:=by
   have e:=h1.symm.trans FK;simp only[DataW.slice.injEq]at e;exact e.1
  subst this;rw[xaa hi]at hy2;obtain⟨ps,h5,h6⟩:=P1 hy;exact⟨ps,(xbh hy2).trans h5,h6⟩
 rcases hw with⟨h1,_⟩|⟨es,sp,h1,h2⟩
 ·have:steps=[]:=by simpa using h1
  subst this;simp
 simp only at h1;have:=aG ((es.length+sp.length)*Tryz.prog.bytesOf 35) (by rw[h1,DataW.weights,Tryz.underlying24];exact xby ..);rw[show Tryz.prog.bytesOf 35=40 by kernel_rfl]at this;have h3:reachBytes=140737488351232:=rfl;rw[xax]at h2;omega
end
end
end Go.Proofs
namespace Go.Proofs.YtflhdclplgjbbaaGreat.X7
theorem one_le{H:Type}(d:DataW H):1<=Rows.uptoBulk d:=by
 cases d with
 |lit l=>cases l<;>simp[Rows.uptoBulk]
 |nil=>simp[Rows.uptoBulk]
 |ptr d=>simp[Rows.uptoBulk]
 |slice elems spare=>simp[Rows.uptoBulk]
 |agg parts=>simp[Rows.uptoBulk]
 |iface t d=>simp[Rows.uptoBulk]
 |map entries=>simp[Rows.uptoBulk]
 |held h=>simp[Rows.uptoBulk]
theorem Vd{H:Type}{d:DataW H}{l:List (DataW H)}(h:d∈l):Rows.uptoBulk d<=Rows.uptoBulkAll l:=by
 induction l with
 |nil=>cases h
 |cons x r ih=>
  simp only[Rows.uptoBulkAll];cases xaj.1 h with
  |inl e=>subst e;omega
  |inr e=>have:=ih e;omega
theorem append{H:Type}(l r:List (DataW H)):Rows.uptoBulkAll (l++r)=Rows.uptoBulkAll l+Rows.uptoBulkAll r:=by
 induction l with
 |nil=>simp[Rows.uptoBulkAll]
 |cons x l ih=>simp only[xaQ,Rows.uptoBulkAll,ih];omega
theorem length_le{H:Type}(l:List (DataW H)):l.length<=Rows.uptoBulkAll l:=by
 induction l with
 |nil=>simp[Rows.uptoBulkAll]
 |cons x r ih=>have:=one_le x;simp only[Rows.uptoBulkAll,xay];omega
theorem B7{H:Type}(elems spare:List (DataW H)):Rows.uptoBulkAll elems+1<=Rows.uptoBulk (.slice elems spare):=by
 simp only[Rows.uptoBulk];omega
theorem bound{H:Type}{l:List (DataW H)}(hk:Rows.uptoSmall H l=true):Rows.uptoBulkAll l<=1048576:=by
 simpa[Rows.uptoSmall]using hk
theorem ahx{H:Type}{es:List (DataW H)}(h:∀e∈es,∃ps,e=.agg ps/\ps.length=5):6*es.length<=Rows.uptoBulkAll es:=by
 induction es with
 |nil=>simp[Rows.uptoBulkAll]
 |cons x r ih=>
  obtain⟨ps,rfl,h5⟩:=h x zI;have h1:=ih λe he=>h e (by simp[he]);have h2:=length_le ps;simp only[Rows.uptoBulkAll,Rows.uptoBulk,xay];omega
theorem Yy{H:Type}{ds:List (DataW H)}(hk:Rows.uptoSmall H ds=true){d:DataW H}(hd:d∈ds){n:Nat}(h:n=0\/∃es sp,d=.slice es sp/\n=es.length/\∀e∈es,∃ps,e=.agg ps/\ps.length=5):n<=174762:=by
 rcases h with rfl|⟨es,sp,rfl,rfl,h⟩
 ·omega
 have h1:=bound hk;have h2:=Vd hd;have h3:=B7 es sp;have h4:=ahx h;omega
end Go.Proofs.YtflhdclplgjbbaaGreat.X7
