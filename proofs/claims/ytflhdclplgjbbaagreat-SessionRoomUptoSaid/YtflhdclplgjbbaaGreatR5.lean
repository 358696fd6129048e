import Derived.Test.YtflhdclplgjbbaaGreatR4
import Derived.Test.YtflhdclplgjbbaaGreatR3
import Derived.Test.YtflhdclplgjbbaaGreatR2
import Derived.Test.YtflhdclplgjbbaaGreatR1
set_option linter.unusedVariables false
set_option linter.unusedSimpArgs false
set_option linter.unusedSectionVars false
set_option maxRecDepth 100000
namespace Go.Proofs
open Go Go.Sx
open au
section
variable {kp bn:Nat} {K:Kd} {S:Nat->au.Fn} {ord ah tr:zL} {C:Hp}
theorem WZ(h:bP kp K S ord ah tr C)(hn:K.n<=16){r:Nat}(hr:live K.N r){X:Hp}{v0 v1:zV}(hv0:kC X v0 K.n (λ_=>false))(hv1:kC X v1 K.n (λ_=>true))(hbn:(bn,Obj.cells #[iv (K.n:Int)] 3 zZ)∈X):
  Fc zQ 179 #[ptr kp,u32 r,v0,v1,.func (.func 180) #[] #[ptr bn]] (X++C) (λv H=>∃N,H=N++(X++C)/\kC (N++X) v K.n (S r)):=by
 obtain⟨s0,rfl,o0⟩:=hv0.one;obtain⟨s1,rfl,o1⟩:=hv1.one;have hi:=h.ok.mid.int;refine aI λg=>IE λb1 _ b3 _ b5 _ b7 _ b9 _ mb _=>?_;refine az.q ?_;refine aF.bK (ke:=kr) (vr:=λv x=>v=x) (k:=0) (b:=mb) (x:=Value.agg #[iv (K.n:Int),s0]) cY gT aF.empty rfl λkB jN Gb=>⟨_,.head _,?_⟩;refine az.q ?_;refine aF.bK (ke:=kr) (vr:=λv x=>v=x) (k:=1) (b:=mb) (x:=Value.agg #[iv (K.n:Int),s1]) cY gT Gb rfl λgV iE Uq=>⟨_,.head _,?_⟩;intro BZ _;refine St.one (c':=#[.map (some mb)]) (by exact .head _) rfl zI rfl ?_;intro EM _;refine St.one (c':=#[.func (.func 235) #[] #[ptr BZ,ptr b1,ptr b7,ptr EM]]) (by exact .head _) rfl zI rfl ?_;refine Ld.q ?_;refine aE.of rfl zK ?_;obtain⟨Z0,Yj⟩:∃Z0:Hp,Z0=(EM,Obj.cells #[.func (.func 235) #[] #[ptr BZ,ptr b1,ptr b7,ptr EM]] 302 zZ)::(BZ,.cells #[.map (some mb)] 301 zZ)::(b7,.cells #[.func (.func 180) #[] #[ptr bn]] 240 zZ)::(b5,.cells (Value.cells (.agg #[iv (K.n:Int),s1])) 175 zZ)::(b3,.cells (Value.cells (.agg #[iv (K.n:Int),s0])) 175 zZ)::(b1,.cells #[ptr kp] 53 zZ)::X:=⟨_,rfl⟩;have hXZ:∀x∈X,x∈Z0:=λx hx=>by rw[Yj];exact .tail _ (.tail _ (.tail _ (.tail _ (.tail _ (.tail _ hx)))))
 refine aa.pre (H':=(b9,Obj.cells #[iv 0,.slice none 0 0] 175 zZ)::(mb,Obj.map gV iE)::(Z0++C)) (.perm ?_) ?_
 ·rw[Yj];simp only[xaQ];refine(List.Perm.cons _ (List.Perm.cons _ (List.Perm.swap _ _ _))).trans ?_;refine(List.Perm.cons _ (List.Perm.swap _ _ _)).trans ?_;refine(List.Perm.swap _ _ _).trans (.cons _ ?_);refine(List.Perm.cons _ (List.Perm.swap _ _ _)).trans ?_;exact List.Perm.swap _ _ _
 refine aa.fq (args:=#[u32 r,ptr BZ,ptr b1,ptr b7,ptr EM]) (aed (Z0:=Z0) (bn:=bn) h hn (by rw[Yj];exact .tail _ (.head _)) (by rw[Yj];exact .tail _ (.tail _ (.tail _ (.tail _ (.tail _ (.head _)))))) (by rw[Yj];exact .tail _ (.tail _ (.head _))) (by rw[Yj];exact .head _) (hXZ _ hbn) K.n r gV iE _ Z0 (xdt _ _) hr (λ_ h=>h) ⟨Uq,λr v hm=>?_,λr hr=>?_⟩) ?_
 ·rw[bL,bL]at hm;split at hm
  ·rename_i e;subst e;cases hm;have:=hv1.mono hXZ;rwa [show(λ_=>true)=S 1 from funext λx=>(hi.one x).symm]at this
  split at hm
  ·rename_i e;subst e;cases hm;have:=hv0.mono hXZ;rwa [show(λ_=>false)=S 0 from funext λx=>(hi.zero x).symm]at this
  simp[aG]at hm
 ·rw[bL,bL];have:r=0\/r=1:=by omega
  rcases this with rfl|rfl<;>simp
 rintro v H ⟨po,qR,m3,N,rfl,_,ht⟩;obtain⟨s3,rfl,o3⟩:=ht.one;refine St.p (cX o3) ?_;refine az.q ?_;refine aN.mk (.skip .tail) ⟨N++[(EM,Obj.cells #[.func (.func 235) #[] #[ptr BZ,ptr b1,ptr b7,ptr EM]] 302 zZ),(BZ,.cells #[.map (some mb)] 301 zZ),(b7,.cells #[.func (.func 180) #[] #[ptr bn]] 240 zZ),(b5,.cells (Value.cells (.agg #[iv (K.n:Int),s1])) 175 zZ),(b3,.cells (Value.cells (.agg #[iv (K.n:Int),s0])) 175 zZ),(b1,.cells #[ptr kp] 53 zZ)],by rw[Yj];simp,ht.mono λx hx=>?_⟩;rw[Yj]at hx;simpa using hx
theorem NF(h:bP kp K S ord ah tr C)(hn:K.n<=16){r:Nat}(hr:live K.N r):
  Fc zQ 116 #[ptr kp,u32 r] C (λv H=>∃N t,H=N++C/\v=.tuple #[t,iv 0]/\kC N t K.n (S r)):=by
 refine aI λg=>Js λb1 _=>?_;refine ax.int (e:=78) zK zK zK λbx=>?_;refine aa.px .here (wV (X:=[(bx,_),(b1,_)]) (rs:=[r]) h (dz.block (by exact .head _) zI) (λx hx=>by rw[xaw.1 hx];exact hr) zI) ?_;rintro w N0 rfl;refine ae.cD (Br.F (aa.eq (gR h.rep) λje _=>?_));refine St.one (c':=#[iv (K.n:Int)]) (by exact .head _) rfl zI rfl ?_;refine Ld.q ?_;refine ae.nE (b:=16) (Br.F (Ld.q ?_));refine aa.px (bH.left (C:=[]) (A:=_)) (yE hn false []) ?_;rintro w N1 ⟨t0,rfl,Wi⟩;rw[xaL]at Wi⊢;obtain⟨s0,rfl,o0⟩:=Wi.one;refine Ext.two λb26 _=>(St.p (cX o0) ?_);refine Ld.q ?_;refine aa.px (bH.left (C:=[]) (A:=_)) (yE hn true []) ?_;rintro w N2 ⟨t1,rfl,ht1⟩;rw[xaL]at ht1⊢;obtain⟨s1,rfl,o1⟩:=ht1.one;refine Ext.two λb34 _=>(St.p (cX o1) ?_);refine az.q ?_;refine az.q ?_;obtain⟨X,hX⟩:∃X:Hp,X=(b34,Obj.cells (List.toArray [iv (K.n:Int),s1]) 175 zZ)::(N2++((b26,Obj.cells (List.toArray [iv (K.n:Int),s0]) 175 zZ)::(N1++((je,Obj.cells #[iv (K.n:Int)] 3 zZ)::(N0++[(bx,Obj.cells (aA .u32 [(r:Int)]) 78 zZ)]))))):=⟨_,rfl⟩;refine aa.pre (H':=(b1,Obj.cells #[iv 0,.slice none 0 0] 175 zZ)::(X++C)) (.perm ?_) ?_
 ·rw[hX];have:=xaU (a:=(b1,Obj.cells #[Value.int .i64 0,.slice none 0 0] 175 zZ)) (l₂:=C) (l₁:=(b34,Obj.cells (List.toArray [Value.int .i64 (K.n:Int),s1]) 175 zZ)::(N2++((b26,Obj.cells (List.toArray [Value.int .i64 (K.n:Int),s0]) 175 zZ)::(N1++((je,Obj.cells #[Value.int .i64 (K.n:Int)] 3 zZ)::(N0++[(bx,Obj.cells (aA .u32 [(r:Int)]) 78 zZ)]))))));simpa only[xaQ,xai,xbS]using this
 refine aa.fq (WZ (X:=X) (bn:=je) h hn hr (Wi.mono λx hx=>?_) (ht1.mono λx hx=>?_) ?_) ?_
 ·rw[hX];exact .tail _ (xac _ (.tail _ (xae _ hx)))
 ·rw[hX];exact .tail _ (xae _ hx)
 ·rw[hX];exact .tail _ (xac _ (.tail _ (xac _ (.head _))))
 rintro v H ⟨N,rfl,ht⟩;obtain⟨s3,rfl,o3⟩:=ht.one;refine St.p (cX o3) ?_;refine az.q ?_;exact aN.mk .tail ⟨N++X,_,by rw[xai],rfl,ht⟩
def rts(K:Kd):zL:=(List.range K.ho.length).filter λr=>decide (0<K.hold r)
theorem Mv(h:bP kp K S ord ah tr C):Fc zQ 115 #[ptr kp] C (λr H=>∃N,H=N++C/\aS 78 .u32 r (iw (rts K)) N):=by
 obtain⟨b,hC,hO⟩:=h.rep;have hcap:=h.ok.mid.cap;have hle:=h.dR;have hfit:K.ho.length<=1048576:=by
  have:=hO.ul;omega
 refine aI λg=>Ju (ae.aL (Br.no ?_));have acy:∀z∈b.CH,z∈C:=by rw[hC];exact bH.sub (.cons (.app (.app (.app .left))))
 refine Nil.ptr (ai.mk (Ld.u (by rw[hC];exact .head _) ?_));refine hO.ho.bV ?_;rw[aq]
 let rk:Nat->zL:=λk=>(List.range k).filter λr=>decide (0<K.hold r)
 refine⟨λvs H=>∃(k:Nat) (w:zV) (N:Hp),vs=[w,iv (k:Int)]/\k<=K.ho.length/\H=N++C/\aS 78 .u32 w (iw (rk k)) N,λvs _=>K.ho.length-bN vs 1,JE.mk ⟨0,_,[],rfl,xaN _,rfl,aS.nil⟩,?_⟩;rintro w11 w12 H ⟨k,w,N,⟨⟩,hk,rfl,hN⟩ gs;refine ae.fC (Br.dec (λhlt=>?_) (λhlt=>?_))
 ·intro J hJ;have fin:∀w' N',aS 78 .u32 w' (iw (rk (k+1))) N'->J [w'] (N'++C):=λw' N' h'=>hJ _ _ λgs=>by
   exact ae.inc (aC.of (.refl _) ⟨k+1,w',N',rfl,hlt,rfl,h'⟩ (by simp only[bN];omega))
  have e:rk (k+1)=rk k++if 0<K.hold k then [k]else []:=by
   show(List.range (k+1)).filter _=_;rw[xci,xbU];congr 1;by_cases hp:0<K.hold k<;>simp[hp]
  refine hO.ho.ld (x:=((K.hold k:Nat):Int)) (bE hlt) (λz hz=>xac _ (acy z hz)) (ae.nE (b:=0) (Br.dec (λhp=>?_) (λhp=>?_)))
  ·rw[e,xad hp]at fin;refine br.q ?_;have Dv:(rk k).length<=k:=by
    have:=xb2 (λr=>decide (0<K.hold r)) (List.range k);rwa [xaK]at this
   refine ax.int (e:=78) zK zK zK λbx=>?_;refine hN.rZ (.cons .left) (by exact .head _) (by rw[aq];omega) (by rw[aq];omega) λv' N' cz=>?_;rw[cC]at fin;exact JE.of .tail (fin v' N' cz)
  rw[e,xab hp,xaL]at fin;exact JE.mk (fin w11 N hN)
 obtain rfl:k=K.ho.length:=by omega
 exact aN.here ⟨N,rfl,hN⟩
end
end Go.Proofs
namespace ak
open Go.Sx
def EK(c:Nat->Nat->Nat):Nat->zL->Nat
 |_,[]=>0
 |a,v::o=>c a v+EK c (aB a v true) o
def qg(a:Nat)(o:zL):Nat:=o.foldl (λa v=>aB a v true) a
theorem Cq(a:Nat)(o o':zL):qg a (o++o')=qg (qg a o) o':=xdm ..
theorem wM(c:Nat->Nat->Nat):∀(o o':zL) (a:Nat),EK c a (o++o')=EK c a o+EK c (qg a o) o'
 | [],o',a=>by simp[EK,qg]
 |v::o,o',a=>by rw[xaQ,EK,wM c o o',EK,xcK];rfl
theorem qV:∀(o:zL) (a u:Nat),(qg a o).testBit u=(a.testBit u||decide (u∈o))
 | [],a,u=>by simp[qg]
 |v::o,a,u=>by
  show(qg (aB a v true) o).testBit u=_;rw[qV o,aj];by_cases e:u=v
  ·simp[e]
  simp[e]
structure nr(n a:Nat)(o:zL):Prop where
 nd:o.Nodup
 mem:∀v,v∈o↔v∈bO n a
variable {n:Nat} {c:Nat->Nat->Nat}
theorem nr.nil{a:Nat}(h:nr n a []):bO n a=[]:=xcB.2 λv hv=>by simpa using(h.mem v).2 hv
theorem nr.tail{a v:Nat}{o:zL}(h:nr n a (v::o)):v∈bO n a/\nr n (aB a v true) o:=by
 have h1:=xaW.1 h.nd;refine⟨(h.mem v).1 zI,h1.2,λu=>?_⟩;rw[cO,aj];have hu:=h.mem u;rw[cO,xak]at hu;by_cases e:u=v
 ·subst e;simp[h1.1]
 simp only[e,false_or,xa2]at hu⊢;exact hu
theorem nr.cons{a v:Nat}{o:zL}(hv:v∈bO n a)(h:nr n (aB a v true) o):nr n a (v::o):=by
 have hm:=h.mem;refine⟨xaW.2 ⟨λhx=>?_,h.nd⟩,λu=>?_⟩
 ·have:=(hm v).1 hx;rw[cO,aj,xad rfl]at this;exact absurd this.2 zI
 rw[xak,hm,cO,cO,aj];rw[cO]at hv;by_cases e:u=v
 ·subst e;simp[hv]
 simp[e]
theorem Ev:∀(o:zL) (a:Nat),nr n a o->B n c a<=EK c a o
 | [],a,h=>by rw[LF h.nil];exact xaN _
 |v::o,a,h=>by
  obtain⟨h1,h2⟩:=h.tail;exact xbI (aev h1) (Nat.add_le_add_left (Ev o _ h2) _)
theorem Fv:∀(f a:Nat),(bO n a).length<=f->nr n a (ord n c f a)/\EK c a (ord n c f a)=B n c a
 |0,a,h=>by
  have hm:bO n a=[]:=xbW zO;rw[ord,LF hm];exact⟨⟨by simp,λv=>by rw[hm]⟩,rfl⟩
 |f+1,a,h=>by
  by_cases hm:bO n a=[]
  ·have:ord n c (f+1) a=[]:=by rw[ord,hm];rfl
   rw[this,LF hm];exact⟨⟨by simp,λv=>by rw[hm]⟩,rfl⟩
  obtain⟨v,hv,he,_,ho⟩:=vJ (c:=c) (f:=f) hm;have:=gP hv;obtain⟨h1,h2⟩:=Fv f (aB a v true) zO;rw[ho];exact⟨h1.cons hv,by rw[EK,h2,he]⟩
theorem o6(n:Nat):bO n 0=List.range n:=by
 unfold bO;rw[xcd.2];simp
end ak
namespace ak
open Go.Sx
def UY(n:Nat)(l:Fs)(vs:zL):Fs:=vs.foldl (λl v=>given n l v) l
theorem Si(A k:Nat):has (k+1) A=has k A++(if A.testBit k then [k]else []):=by
 unfold has;rw[xci,xbU];congr 1;rw[xby];simp
theorem u4(n:Nat)(l:Fs)(a b:zL):UY n l (a++b)=UY n (UY n l a) b:=xdm ..
theorem u7(n:Nat)(L:Fs)(A:Nat):∀k,st n L A k=UY n (mC L) (has k A)
 |0=>rfl
 |k+1=>by
  rw[st,Si,u4,<-u7 n L A k];split<;>rfl
def Sm(a b:Fs):Prop:=∀x,x∈a↔x∈b
theorem Sm.trans{a b c:Fs}(h:Sm a b)(h':Sm b c):Sm a c:=λx=>(h x).trans (h' x)
theorem Sm.symm{a b:Fs}(h:Sm a b):Sm b a:=λx=>(h x).symm
theorem Sm.refl(a:Fs):Sm a a:=λ_=>xcT
def AF(n:Nat)(l:Fs):Prop:=∀t∈l,eV n t
variable {n:Nat}
theorem tQ{a b:Fs}(h:Sm a b)(v:Nat):Sm (given n a v) (given n b v):=λx=>by
 rw[cg,cg];constructor
 ·rintro⟨t,ht,h'⟩;exact⟨t,(h t).1 ht,h'⟩
 rintro⟨t,ht,h'⟩;exact⟨t,(h t).2 ht,h'⟩
theorem SD(hn:n<=16)(l:Fs)(v:Nat):AF n (given n l v):=λt ht=>by
 obtain⟨u,_,b,rfl⟩:=cg.1 ht;exact eB hn
theorem D5{t:zL}{u v:Nat}{b c:Bool}(hf:eV n t)(hu:u<n)(hv:v<n)(h:u≠v):iI n (iI n t u b) v c=iI n (iI n t v c) u b:=
 (eB hf.x6).ext (eB hf.x6) λx hx=>by
  rw[eW (eB hf.x6) hv hx,eW hf hu (fZ hx hv),eW (eB hf.x6) hu hx,eW hf hv (fZ hx hu),di (xa9 h)]
theorem Gi{l:Fs}{u v:Nat}(hl:AF n l)(hu:u<n)(hv:v<n)(h:u≠v):Sm (given n (given n l u) v) (given n (given n l v) u):=λx=>by
 rw[cg,cg];constructor
 ·rintro⟨t,ht,c,rfl⟩;obtain⟨s,hs,b,rfl⟩:=cg.1 ht;exact⟨iI n s v c,cg.2 ⟨s,hs,c,rfl⟩,b,D5 (hl s hs) hu hv h⟩
 rintro⟨t,ht,c,rfl⟩;obtain⟨s,hs,b,rfl⟩:=cg.1 ht;exact⟨iI n s u c,cg.2 ⟨s,hs,c,rfl⟩,b,D5 (hl s hs) hv hu (xa9 h)⟩
theorem yH:∀(vs:zL) {a b:Fs},Sm a b->Sm (UY n a vs) (UY n b vs)
 | [],_,_,h=>h
 |v::vs,_,_,h=>yH vs (tQ h v)
theorem P6(hn:n<=16){vs vs':zL}(hp:vs.Perm vs'):(∀v∈vs,v<n)->∀l,AF n l->Sm (UY n l vs) (UY n l vs'):=by
 induction hp with
 |nil=>exact λ_ l _=>Sm.refl _
 |cons v _ ih=>exact λh l hl=>ih (λu hu=>h u (by simp[hu])) _ (SD hn l v)
 |swap x y r=>
  intro h l hl;by_cases e:x=y
  ·subst e;exact Sm.refl _
  exact yH r (Gi hl (h y zI) (h x zI) (xa9 e))
 |trans uJ _ ih1 ih2=>exact λh l hl=>(ih1 h l hl).trans (ih2 (λv hv=>h v (uJ.mem_iff.2 hv)) l hl)
theorem yG:∀(vs:zL) {l:Fs},l.Nodup->(UY n l vs).Nodup
 | [],_,h=>h
 |v::vs,_,_=>yG vs (om _ _ _)
theorem LZ{L:Fs}(h:AF n L):AF n (mC L):=λt ht=>h t (gu.1 ht)
theorem Fy{a b:Fs}(ha:a.Nodup)(hb:b.Nodup)(h:Sm a b)(v:Nat):(nodes n a v).length=(nodes n b v).length:=mM (jw ha hb h)
theorem zv(n a:Nat):(has n a).Nodup:=List.Pairwise.filter _ xbl
theorem Z9{a v:Nat}(h:v∈has n a):v<n:=(ry.1 h).1
theorem Sj{a v:Nat}(hv:v<n)(ha:a.testBit v=false):(has n (aB a v true)).Perm (has n a++[v]):=by
 refine(xcV (zv _ _) ?_).2 λu=>?_
 ·rw[xa3];refine⟨zv _ _,by simp,λx hx y hy=>?_⟩;simp at hy;subst hy;rintro rfl;rw[(ry.1 hx).2]at ha;cases ha
 rw[ry,xao,xaw,ry,aj];by_cases e:u=v
 ·subst e;simp[hv]
 simp[e]
theorem U4(hn:n<=16){L:Fs}(hL:AF n L){a v:Nat}(hv:v<n)(ha:a.testBit v=false):Sm (st n L (aB a v true) n) (given n (st n L a n) v):=by
 rw[u7,u7];have h:=P6 hn (Sj hv ha) (λu hu=>Z9 hu) _ (LZ hL);rw[u4]at h;exact h
variable {φ:zL->zL} {π:Nat->Nat}
def lay(n:Nat)(F:Nat->Nat):zL:=(List.range (wN n)).map λi=>F i&&&dL n
def neg(n:Nat)(ws:zL):zL:=lay n λi=>18446744073709551615-ws.getD i 0
end ak
namespace au
open ak
section
variable {n:Nat} {ord:zL} {L:ak.Fs}
theorem Fg(a:Nat)(o:zL)(v:Nat):qg a (o++[v])=aB (qg a o) v true:=by rw[Cq];rfl
theorem Ta(hn:n<=16)(hL:∀t∈L,eV n t)(hp:ord.Perm (List.range n)):∀k,k<=n->Sm (cur n ord L k) (st n L (qg 0 (ord.take k)) n)
 |0,_=>by
  have e:st n L (qg 0 (ord.take 0)) n=mC L:=by
   rw[u7];have:has n (qg 0 (ord.take 0))=[]:=by
    show has n 0=[];rw[xcB];intro v hv;have:=(ry.1 hv).2;rw[xcy]at this;cases this
   rw[this];rfl
  rw[e];exact .refl _
 |k+1,hk=>by
  have EF:ord.length=n:=by rw[hp.length_eq,xaK]
  have fD:ord.Nodup:=hp.nodup_iff.2 xbl;have hlt:k<ord.length:=by omega
  have hv:ord[k]<n:=xaM.1 (hp.mem_iff.1 (xaH hlt));have hg:ord.getD k 0=ord[k]:=by rw[xaq,xaa hlt];rfl
  have ht:ord.take (k+1)=ord.take k++[ord[k]]:=xa8 hlt;have hno:ord[k]∉ord.take k:=λhm=>by
   have h2:(ord.take (k+1)).Nodup:=fD.sublist (xdN _ _);rw[ht]at h2;exact(xa3.1 h2).2.2 _ hm _ zI rfl
  have hb:(qg 0 (ord.take k)).testBit ord[k]=false:=by
   rw[qV,xcy,xal hno];rfl
  rw[ht,Fg];refine Sm.trans ?_ (Sm.symm (U4 hn hL hv hb));rw[cur,hg];exact tQ (Ta hn hL hp k zO) _
theorem VW(hn:n<=16)(hL:∀t∈L,eV n t)(hp:ord.Perm (List.range n)){k:Nat}(hk:k<=n)(v:Nat):(nodes n (cur n ord L k) v).length=lvl n L (qg 0 (ord.take k)) v:=by
 unfold lvl;refine Fy (z6 k) ?_ (Ta hn hL hp k hk) v;rw[u7];exact yG _ (mB _)
theorem D2(hn:n<=16)(hL:∀t∈L,eV n t)(hp:ord.Perm (List.range n)):∀k,k<=n->EK (lvl n L) 0 (ord.take k)=kE n ord L k
 |0,_=>rfl
 |k+1,hk=>by
  have EF:ord.length=n:=by rw[hp.length_eq,xaK]
  have hlt:k<ord.length:=by omega
  have hg:ord.getD k 0=ord[k]:=by rw[xaq,xaa hlt];rfl
  rw[xa8 hlt,wM,D2 hn hL hp k zO,kE];congr 1;unfold FI;rw[VW hn hL hp zO,hg];simp[EK]
theorem z7(hn:n<=16)(hL:∀t∈L,eV n t)(hp:ord.Perm (List.range n)):EK (lvl n L) 0 ord=kE n ord L n:=by
 have EF:ord.length=n:=by rw[hp.length_eq,xaK]
 rw[<-D2 hn hL hp n (xaj n),<-EF,xbj]
theorem FR(hp:ord.Perm (List.range n)):nr n 0 ord:=⟨hp.nodup_iff.2 xbl,λv=>by rw[o6];exact hp.mem_iff⟩
theorem Fq(h:nr n 0 ord):ord.Perm (List.range n):=by
 refine(xcV h.nd xbl).2 λv=>?_;rw[h.mem,o6]
theorem s9(c:Nat->Nat->Nat):(ak.ord n c n 0).Perm (List.range n):=Fq (Fv n 0 (by rw[o6,xaK];exact xaj n)).1
theorem s8(hn:n<=16)(hL:∀t∈L,eV n t):kE n (ak.ord n (lvl n L) n 0) L n=B n (lvl n L) 0:=by
 rw[<-z7 hn hL (s9 _)];exact(Fv n 0 (by rw[o6,xaK];exact xaj n)).2
theorem Xf(hn:n<=16)(hL:∀t∈L,eV n t)(hp:ord.Perm (List.range n)):B n (lvl n L) 0<=kE n ord L n:=by
 rw[<-z7 hn hL hp];exact Ev ord 0 (FR hp)
end
end au
set_option maxRecDepth 100000
namespace Go.Proofs
open Go Go.Sx
open au
section
variable {kp:Nat} {K:Kd} {S:Nat->au.Fn} {ord tr:zL} {C:Hp}
theorem vg{n:Nat}{o:zL}:∀k,kE n o [] k=0:=by
  have hc:∀k,cur n o [] k=[]:=λk=>by
    induction k with
    |zero=>rfl
    |succ k ih=>rw[cur,ih];rfl
  intro k;induction k with
  |zero=>rfl
  |succ k ih=>rw[kE,ih];unfold FI;rw[hc];rfl
theorem E3{B:Hp}{v:zV}{n:Nat}{f:au.Fn}(h:kC B v n f):∃s ws,v=.agg #[iv (n:Int),s]/\Words B s ws/\ak.eV n ws/\pG n ws=f:=by
  obtain⟨ws,⟨s,rfl,hw⟩,hf,he⟩:=h;exact⟨s,ws,rfl,hw,hf,he⟩
def aic(kp:Nat)(K:Kd)(S:Nat->au.Fn)(ord tr:zL)(v:zV)(H:Hp):Prop:=
  ∃L:ak.Fs,(∀t∈L,ak.eV K.n t)/\K.held S=FT K.n L/\L.length<=1048576/\
   ((cG K S ord=ak.B K.n (ak.lvl K.n L) 0/\v=.tuple #[.agg #[iv ((cG K S ord:Nat):Int),iv ((cG K S ord:Nat):Int),iv 0,.bool true],iv 0]/\At kp K S ord tr H)\/
    (cG K S ord≠ak.B K.n (ak.lvl K.n L) 0/\∃o ls,o=ak.ord K.n (ak.lvl K.n L) K.n 0/\ls=path ord o/\
     (((rm K S).can ord ls=true/\v=.tuple #[.agg #[iv ((cG K S ord:Nat):Int),iv ((cG K S o:Nat):Int),iv ((ls.length:Nat):Int),.bool true],iv 0]/\At kp K S o (tr++ls) H)\/
      ((rm K S).can ord ls=false/\v=.tuple #[.agg #[iv ((cG K S ord:Nat):Int),iv ((cG K S ord:Nat):Int),iv ((2*((rm K S).dF 0 ls ord).length:Nat):Int),.bool false],iv 0]/\At kp K S ord tr H))))
theorem UF(h:At kp K S ord tr C)(hp:ord.Perm (List.range K.n))(hn:K.n<=12)(fh:tr.length<17317308137472):
    Fc zQ 82 #[ptr kp] C (λv H=>aic kp K S ord tr v H):=by
  have h0:=h;obtain⟨K',S',bR,hK,hk⟩:=h;have hKn:=hk.n;have fM:∀r,K'.hold r≠0->live K'.N r:=λr hr=>(.inr (hK.ok.mid.held r hr));have hcap:=hK.ok.mid.cap;have hle:=hK.dR;have Dv:(rts K').length<=1048576:=by
    obtain⟨b,_,hO⟩:=hK.rep;have:=hO.ul;have h2:=xb2 (λr=>decide (0<K'.hold r)) (List.range K'.ho.length);rw[xaK]at h2;show(List.filter _ _).length<=_;omega
  have wh:∀r,r∈rts K'↔K'.hold r≠0:=λr=>by
    unfold rts;rw[xbV,xaM,decide_eq_true_iff];constructor
    · rintro⟨_,h⟩;omega
    · intro h
      refine⟨xaD λh2=>h ?_,by omega⟩;unfold Kd.hold;rw[xaq,xaC zO];rfl
  refine aI λg=>Oi λb1 _=>?_;refine ae.aL (Br.no (aa.eq (m6 h0) (ae.nE (b:=12) (Br.F (aa.fq (Mv hK) ?_)))));rintro vr H ⟨NR,rfl,hR⟩;have WJ:dz .u32 NR vr (iw (rts K')):=hR.ints;refine hR.bV ?_;rw[aq];refine⟨λvs H=>∃(i:Nat) (s:zV) (L:ak.Fs) (CS N:Hp),vs=[s,iv (i:Int)]/\i<=(rts K').length/\H=(b1,.cells #[iv 0,iv 0,iv 0,.bool false] 97 zZ)::(CS++(N++C))/\(∀x∈NR,x∈N)/\r4 175 s (Ma K'.n L) CS N/\L.length=i/\(∀t∈L,ak.eV K'.n t)/\∀j t,L[j]? =some t->∃r,(rts K')[j]? =some r/\pG K'.n t=S' r,
    λvs _=>(rts K').length-bN vs 1,JE.mk ⟨0,_,[],[],NR,rfl,xaN _,rfl,λ_ h=>h,r4.nil,rfl,λt ht=>absurd ht (xaR),λj t (hj:([]:List (zL))[j]? =some t)=>absurd hj (by rw[List.getElem?_nil];exact nofun)⟩,?_⟩
  rintro w20 w21 H ⟨i,s,L,CS,N,⟨⟩,hi,rfl,hN,hT,hLl,Bl,hLr⟩ gs;refine ae.fC (Br.dec (λhlt=>?_) (λhge=>?_))
  · refine WJ.ld (n:=(((rts K')[i]:Nat):Int)) (dg (xaa hlt)) (λx hx=>.tail _ (xac _ (xae _ (hN x hx)))) ?_
    refine aa.fq (args:=#[ptr kp,u32 (rts K')[i]]) (NF hK zO (fM _ ((wh _).1 (xaH hlt)))) ?_;rintro w H ⟨Nt,t,rfl,rfl,ht⟩;obtain⟨sw,ws,rfl,hw,hf,he⟩:=E3 ht;refine Ext.two λb29 _=>(St.p (cX (bQ hw)) ?_);refine az.q ?_;refine wX λYw=>?_;have hT':r4 175 w20 (Ma K'.n L) CS (N++Nt):=hT.mono λ_ h=>xae _ h;refine r4.app hT' (A:=[(Yw,_),(b29,_),(b1,_)]) (B:=N++(Nt++C)) (t:=⟨(K'.n:Int),ws⟩) (by exact .head _) (hw.mono λ_ h=>xac _ h) (by rw[p7];omega) λv' CS' hT2=>?_;refine ae.inc (aC.of (.skip .tail) ⟨i+1,v',L++[ws],CS',N++Nt,rfl,hlt,by rw[xai];rfl,λx hx=>xae _ (hN x hx),by unfold Ma at hT2⊢;rw[xaB];exact hT2,by rw[xaf,hLl];rfl,λt ht=>?_,λj t hj=>?_⟩ (by simp only[bN];omega))
    · rcases xao.1 ht with ht|ht
      · exact Bl t ht
      · rw[xaw.1 ht];exact hf
    · by_cases ZW:j<L.length
      · rw[xaY ZW]at hj
        exact hLr j t hj
      · rw[xbQ zO]at hj
        have:j=i:=by
          have:=(xah.1 hj).1;rw[xb3]at this;omega
        subst this;rw[hLl,xc7]at hj;simp at hj;subst hj;exact⟨_,xaa hlt,he⟩
  have hi':i=(rts K').length:=by omega
  subst hi';rw[hKn]at hT Bl hLr;have oc:K.held S=FT K.n L:=by
    refine funext λg=>propext ?_;rw[<-hk.held g];constructor
    · rintro⟨r,hr,rfl⟩
      obtain⟨j,hj,e⟩:=xba.1 ((wh r).2 hr);obtain⟨r2,qx,he⟩:=hLr j L[j] (xaa zO);rw[xaa hj,e]at qx;cases qx;exact⟨L[j],xaH _,he.symm⟩
    · rintro⟨t,ht,rfl⟩
      obtain⟨j,hj,e⟩:=xba.1 ht;obtain⟨r2,qx,he⟩:=hLr j t (by rw[xaa hj,e]);exact⟨r2,(wh r2).1 (xav qx),he⟩
  have hlt:=Ko hp;have hkz:cG K S ord=kE K.n ord L K.n:=by
    unfold cG;rw[oc];exact XG Bl zO hlt
  have Sy:L.length<=1048576:=by omega
  refine aa.eq (cF h0) ?_;have hTb:jG (CS++N) w20 (Ma K.n L):=hT.afz (λ_ h=>xae _ h) (λ_ h=>xac _ h);rw[<-xai];refine aa.pq (Xe hTb (by rw[p7];omega)) ?_;intro w NB hB;obtain⟨so,Y,hY,rfl,hI⟩:∃so Y,NB++(CS++N)=Y/\w=.tuple #[iv ((ak.B K.n (ak.lvl K.n L) 0:Nat):Int),so,iv 0]/\(L≠[]->dz .i64 Y so (iw (ak.ord K.n (ak.lvl K.n L) K.n 0))):=by
    have hO:r5 (Ma K.n L):=CV Bl;rcases hB with⟨hno,_⟩|⟨_,n2,L2,e,hz,_,hf2,hB⟩
    · exact absurd hO hno
    by_cases jM:L=[]
    · subst jM
      have hL2:L2=[]:=by cases L2 with
        |nil=>rfl
        |cons a b=>simp[Ma]at e
      subst hL2;obtain rfl:=hz rfl;have hB0:ak.B K.n (ak.lvl K.n []) 0=0:=by rw[<-s8 zO zI];exact vg _
      rcases hB with⟨h,_⟩|⟨_,s2,C2,N2,rfl,_,_⟩
      · omega
      exact⟨s2,_,rfl,by rw[hB0];rfl,λh=>absurd rfl h⟩
    · have Wp:n2=K.n/\L2=L:=by
        cases L with
        |nil=>exact absurd rfl jM
        |cons a b=>
          cases L2 with
          |nil=>simp[Ma]at e
          |cons a2 b2=>
            simp only[Ma,xay,xau,Tb.mk.injEq]at e;obtain⟨⟨e1,e2⟩,e3⟩:=e;have e1:n2=K.n:=by omega
            subst e1;refine⟨rfl,?_⟩;rw[e2];congr 1;refine((List.map_inj_right (f:=λws=>(⟨(K.n:Int),ws⟩:Tb)) ?_).1 e3).symm;intro x y hxy;simpa using hxy
      obtain⟨rfl,rfl⟩:=Wp;rcases hB with⟨h,_⟩|⟨_,s2,C2,N2,rfl,hown,hH⟩
      · omega
      exact⟨s2,_,rfl,rfl,λ_=>by rw[hH];exact hown.ints.mono λ_ h=>xae _ h⟩
  rw[hY];clear hB;refine Ext.mk rfl (Ext.mk rfl (Ext.mk rfl (ae.dx (Br.dec (λheq=>?_) (λhne=>?_)))))
  · refine Build.mk (cs:=[iv ((cG K S ord:Nat):Int),iv ((cG K S ord:Nat):Int),iv 0,.bool true]) zK (St.q ?_)
    refine az.q ?_;exact aN.mk (.skip .right) ⟨L,Bl,oc,Sy,.inl ⟨heq,rfl,h0⟩⟩
  · have jM:L≠[]:=λe=>by
      subst e;refine hne ?_;rw[hkz,<-s8 zO zI,vg,vg]
    obtain⟨o,ho⟩:∃o,o=ak.ord K.n (ak.lvl K.n L) K.n 0:=⟨_,rfl⟩;have hop:o.Perm (List.range K.n):=by rw[ho];exact s9 _
    have hIo:=hI jM;rw[<-ho]at hIo;refine aa.fq (QT h0 hIo hp hop zO) ?_;rintro w H ⟨C2,rfl,hM⟩;have ZJ:=(AY (hop.nodup_iff.2 xbl) (hp.trans hop.symm)).1;rcases hM with⟨hc,rfl,hA⟩|⟨hc,rfl,hA⟩
    · rw[ZJ]at hA
      refine Ext.two (aa.eq (cF hA) (ae.gJ ?_));rw[xam rfl];refine Build.mk (cs:=[iv ((cG K S ord:Nat):Int),iv ((cG K S o:Nat):Int),iv (((path ord o).length:Nat):Int),.bool true]) zK (St.q ?_);refine az.q ?_;exact aN.mk (.skip .right) ⟨L,Bl,oc,Sy,.inr ⟨hne,o,_,ho,rfl,.inl ⟨hc,rfl,hA⟩⟩⟩
    · refine Ext.two (aa.eq (cF hA) (ae.gJ ?_))
      rw[xal zD];refine Build.mk (cs:=[iv ((cG K S ord:Nat):Int),iv ((cG K S ord:Nat):Int),iv ((2*((rm K S).dF 0 (path ord o) ord).length:Nat):Int),.bool false]) zK (St.q ?_);refine az.q ?_;exact aN.mk (.skip .right) ⟨L,Bl,oc,Sy,.inr ⟨hne,o,_,ho,rfl,.inr ⟨hc,rfl,hA⟩⟩⟩
end
section
variable {kp:Nat} {K:Kd} {S:Nat->au.Fn} {ord tr:zL} {C:Hp} {Q:zV->Hp->Prop}
theorem Qp{w:Nat}(hw:3<=w/\w<=5):Rd zQ 81 #[.int .u8 (w:Int)] C (· =iv ((w-1:Nat):Int)):=by
 refine aI λg=>Oj ?_;refine ae.ca (b:=3) (br.q (ae.fI (b:=2) (bc.mk (.refl _) ?_)));rw[show w-3+2=w-1 by omega]
theorem ir(h:At kp K S ord tr C){s gr:Nat}:Rd zQ 77 #[ptr kp,.int .u8 (s:Int),iv (gr:Int)] C (· =iv (if 6<s\/gr<100\/1000<gr then 1 else if s=6/\12<K.n then 6 else 0)):=by
 refine aI λg=>Ao ?_;refine ae.aL (Br.no (ae.nE (b:=6) (cS.or (a:=decide (6<s)) (decide (gr<100)) (λ_=>ae.fC (b:=100) ⟨rfl,rfl⟩) rfl λ_=>?_)));refine cS.or (a:=decide (6<s)||decide (gr<100)) (decide (1000<gr)) (λ_=>ae.nE (b:=1000) ⟨rfl,rfl⟩) rfl λ_=>?_;rw[<-xa4,<-xa4];refine Br.dec (λhb=>?_) (λhb=>?_)
 ·rw[xad zO];exact bc.mk (.refl _) rfl
 rw[xab zO];intro J9 h9;refine ae.dx (b:=6) ?_;by_cases hs:s=6
 ·rw[xam hs];refine Split.go rfl (aa.eq (m6 h) (ae.nE (b:=12) (aH.mk (JE.mk (h9 _ _ λ_=>?_)))));show Br (.bool (decide (12<K.n))) _ _;refine Br.dec (λKR=>?_) (λKR=>?_)
  ·rw[xad ⟨hs,KR⟩];exact bc.mk (.refl _) rfl
  rw[xab zO];exact bc.mk (.refl _) rfl
 rw[xal hs];refine Split.QL rfl (aH.mk (JE.mk (h9 _ _ λ_=>Br.no ?_)));rw[xab zO];exact bc.mk (.refl _) rfl
theorem oX(a b c:Int)(d:Bool):∀u∈[Value.int .i64 a,iv b,iv c,.bool d],u.oneCell'=true:=λu hu=>by
 simp only[xak,xaR,xbD]at hu;rcases hu with rfl|rfl|rfl|rfl<;>rfl
abbrev ur(a b c:Int)(d:Bool):zV:=.agg #[iv a,iv b,iv c,.bool d]
theorem Qr(h:At kp K S ord tr C){gr:Nat}(mz:100<=gr/\gr<=1000)(hn:12<K.n):Rd zQ 45 #[ptr kp,.int .u8 6,iv (gr:Int)] C (· =.tuple #[ur 0 0 0 false,iv 6]):=by
 refine aI λg=>iG ?_;intro b1 _;refine aa.eq (ir h (s:=6)) ?_;rw[xab zO,xad ⟨rfl,hn⟩];refine ae.cD (Br.T (Build.mk (cs:=[iv 0,iv 0,iv 0,.bool false]) zK ?_));refine St.q ?_;refine az.q ?_;exact bc.mk .tail rfl
theorem Qs(h:At kp K S ord tr C){gr:Nat}(mz:100<=gr/\gr<=1000)(hin:Fc zQ 78 #[ptr kp,iv (gr:Int)] C Q)(hQ:∀v H,Q v H->∃(a b c:Int) (d:Bool) (e:zV),v=.tuple #[ur a b c d,e]):
  Fc zQ 45 #[ptr kp,.int .u8 1,iv (gr:Int)] C Q:=by
 refine aI λg=>iG ?_;intro b1 _;refine aa.eq (ir h (s:=1)) ?_;rw[xab zO,xab zO];refine ae.cD (Br.F (ae.dx (a:=1) (b:=1) (Br.yes (aa.fq hin ?_))));intro v H hv;obtain⟨a,b,c,d,e,rfl⟩:=hQ v H hv;refine Ext.two (St.p (oX a b c d) ?_);refine az.q ?_;exact aN.mk .tail hv
theorem Fj(h:At kp K S ord tr C){gr:Nat}(mz:100<=gr/\gr<=1000)(hin:Fc zQ 79 #[ptr kp,iv (gr:Int)] C (λv H=>∃(a b c:Int) (d:Bool) (r:zV),v=.tuple #[ur a b c d,r,iv 0]/\Q (.tuple #[ur a b c d,iv 0]) H)):
  Fc zQ 45 #[ptr kp,.int .u8 2,iv (gr:Int)] C Q:=by
 refine aI λg=>iG ?_;intro b1 _;refine aa.eq (ir h (s:=2)) ?_;rw[xab zO,xab zO];refine ae.cD (Br.F (ae.dx (a:=2) (b:=1) (Br.no (ae.dx (a:=2) (b:=2) (Br.yes (aa.fq hin ?_))))));rintro v H ⟨a,b,c,d,r,rfl,hv⟩;refine Ext.mk rfl (Ext.mk rfl (Ext.mk rfl ?_));intro EM _;refine St.p (oX a b c d) ?_;refine az.q ?_;refine St.p (oX a b c d) ?_;refine az.q ?_;exact aN.mk (.skip .tail) hv
theorem Fi(h:At kp K S ord tr C){w gr:Nat}(hw:3<=w/\w<=5)(mz:100<=gr/\gr<=1000)(hin:Fc zQ 80 #[ptr kp,iv ((w-1:Nat):Int)] C Q)(hQ:∀v H,Q v H->∃(a b c:Int) (d:Bool) (e:zV),v=.tuple #[ur a b c d,e]):
  Fc zQ 45 #[ptr kp,.int .u8 (w:Int),iv (gr:Int)] C Q:=by
 refine aI λg=>iG ?_;intro b1 _;refine aa.eq (ir h (s:=w)) ?_;rw[xab zO,xab zO];refine ae.cD (Br.F (ae.dx (b:=1) (Br.F (ae.dx (b:=2) (Br.F ?_)))));intro J28 h28;have good:J28 [.bool true] ((b1,.cells #[iv 0,iv 0,iv 0,.bool false] 97 zZ)::C):=by
  refine h28 _ _ λ_=>Br.yes ?_;refine aa.eq (Qp hw) (aa.fq hin ?_);intro v H hv;obtain⟨a,b,c,d,e,rfl⟩:=hQ v H hv;refine Ext.two (St.p (oX a b c d) ?_);refine az.q ?_;exact aN.mk .tail hv
 refine ae.dx (b:=3) (Br.dec (λe=>?_) (λe=>?_))
 ·rw[xam e];exact JE.mk good
 refine ae.dx (b:=4) (Br.dec (λe=>?_) (λe=>?_))
 ·rw[xam e];exact JE.mk good
 refine ae.dx (b:=5) ?_;rw[xam zO];exact JE.mk good
theorem Mq(h:At kp K S ord tr C){gr:Nat}(hn:K.n<=12)(mz:100<=gr/\gr<=1000)(hin:Fc zQ 82 #[ptr kp] C Q)(hQ:∀v H,Q v H->∃(a b c:Int) (d:Bool) (e:zV),v=.tuple #[ur a b c d,e]):
  Fc zQ 45 #[ptr kp,.int .u8 6,iv (gr:Int)] C Q:=by
 refine aI λg=>iG ?_;intro b1 _;refine aa.eq (ir h (s:=6)) ?_;rw[xab zO,xab zO];refine ae.cD (Br.F (ae.dx (a:=6) (b:=1) (Br.no (ae.dx (a:=6) (b:=2) (Br.no ?_)))));intro J28 h28;refine ae.dx (a:=6) (b:=3) (Br.no (ae.dx (a:=6) (b:=4) (Br.no (ae.dx (a:=6) (b:=5) (JE.mk (h28 _ _ λ_=>Br.no ?_))))));refine ae.dx (a:=6) (b:=6) (Br.yes (aa.fq hin ?_));intro v H hv;obtain⟨a,b,c,d,e,rfl⟩:=hQ v H hv;refine Ext.two (St.p (oX a b c d) ?_);refine az.q ?_;exact aN.mk .tail hv
theorem Qu(h:At kp K S ord tr C){gr:Nat}(mz:100<=gr/\gr<=1000):Rd zQ 45 #[ptr kp,.int .u8 0,iv (gr:Int)] C (· =.tuple #[ur (cG K S ord:Nat) (cG K S ord:Nat) 0 false,iv 0]):=by
 refine aI λg=>iG ?_;intro b1 _;refine aa.eq (ir h (s:=0)) ?_;rw[xab zO,xab zO];refine ae.cD (Br.F (ae.dx (a:=0) (b:=1) (Br.no (ae.dx (a:=0) (b:=2) (Br.no ?_)))));intro J28 h28;refine ae.dx (a:=0) (b:=3) (Br.no (ae.dx (a:=0) (b:=4) (Br.no (ae.dx (a:=0) (b:=5) (JE.mk (h28 _ _ λ_=>Br.no ?_))))));refine ae.dx (a:=0) (b:=6) (Br.no (aa.eq (cF h) (aa.eq (cF h) (Build.mk (cs:=[iv ((cG K S ord:Nat):Int),iv ((cG K S ord:Nat):Int),iv 0,.bool false]) zK ?_))));refine St.q ?_;refine az.q ?_;exact bc.mk .tail rfl
end
section
variable {C:Hp}
def swB(n s:Nat):Nat->Nat
 |1=>3*n*(n-1)
 |2=>3*n*(n-1)*(s+1)
 |3=>(n-1)*2
 |4=>(n-2)*10
 |5=>(n-3)*46
 |6=>n*(n-1)
 |_=>0
end
end Go.Proofs
namespace au
section
variable {m:Rm} {g:Nat}
theorem Rm.zi(m:Rm)(ord path:zL):∀i,m.size (ay ord (path.take (m.keep ord path i)))=m.size ord->m.keep ord path i=0
 |0,_=>rfl
 |i+1,h=>by
  rw[keep]at h⊢;have h0:=m.v8 ord path i 0 (xaN _);have h0:m.size (ay ord (path.take (m.keep ord path i)))<=m.size ord:=h0;split at h
  ·omega
  rename_i hn;rw[xab hn];exact m.zi ord path i h
theorem Rm.ET(m:Rm)(w p:Nat)(ord:zL)(h:m.size (ay ord (m.visit w p ord).1)=m.size ord):(m.visit w p ord).1=[]:=by
 have:=m.zi ord (m.dF p (mi w) ord) (m.dF p (mi w) ord).length h;show List.take _ _=[];rw[this];rfl
theorem Rm.B4(m:Rm)(w p:Nat)(ord:zL):(m.visit w p ord).2<=2*(mi w).length:=by
 have h1:=m.l9 p (mi w) ord;show _+(_-_)<=_;omega
theorem Rm.Ae(m:Rm)(w:Nat)(ord:zL):∀i,(m.all w ord i).2<=i*(2*(mi w).length)
 |0=>xaN _
 |i+1=>by
  have h1:=m.Ae w ord i;have h2:=m.B4 w i (ay ord (m.all w ord i).1);show(m.all w ord i).2+(m.visit w i (ay ord (m.all w ord i).1)).2<=_;rw[xbu];omega
theorem vE{p q:zL}(hq:q.Nodup)(hp:p.Perm q):∀i,i<=q.length->2*(eu p q i).length+i*i<=i*(2*p.length-1)
 |0,_=>by simp[eu]
 |i+1,hi=>by
  have:=vE hq hp i zO;obtain⟨_,_,h3⟩:=jU hq hp i zO;have hl:=hp.length_eq;rw[eu,xaf,Bx];have h4:=(h3 zO).2;have e1:(i+1)*(i+1)=i*i+i+i+1:=by rw[xbu,Nat.mul_succ];omega
  have e2:(i+1)*(2*p.length-1)=i*(2*p.length-1)+(2*p.length-1):=xbu _ _;rw[e1,e2];omega
theorem Ft{p q:zL}{n:Nat}(hq:q.Nodup)(hp:p.Perm q)(hn:q.length=n):2*(path p q).length<=n*(n-1):=by
 have:=vE hq hp q.length (xaj _);have hl:=hp.length_eq;rw[hl,hn]at this;unfold path;rw[hn];cases n with
 |zero=>simpa using this
 |succ k=>
  rw[show 2*(k+1) -1=(k+1)+k by omega,xdz (k+1) (k+1) k]at this;show 2*(eu p q (k+1)).length<=(k+1)*k;omega
structure ue(m:Rm)(ord:zL)(ls:zL):Prop where
 mem:∀x∈ls,x+1<m.n
 le:m.size (ay ord ls)<=m.size ord
 len:ls.length+66*m.size (ay ord ls)<=66*m.size ord
theorem ue.nil{ord:zL}:ue m ord []:=⟨by simp,xaj _,by simp[ay]⟩
theorem ue.of{ord ls:zL}(h1:∀x∈ls,x+1<m.n)(h2:m.size (ay ord ls)<=m.size ord)(h3:m.size (ay ord ls)=m.size ord->ls=[])(h4:ls.length<=66):ue m ord ls:=by
 refine⟨h1,h2,?_⟩;by_cases e:m.size (ay ord ls)=m.size ord
 ·rw[h3 e];simp[ay]
 omega
theorem Co(hn:m.n<=64):∀{l ord:zL},ord.Perm (List.range m.n)->(∀v∈l,v<m.n)->(m.cm g ord l).1.length+66*m.size (ay ord (m.cm g ord l).1)<=66*m.size ord
 | [],ord,hp,hl=>by simp[Rm.cm,ay]
 |v::l,ord,hp,hl=>by
  have hv:=FV hp (hl v zI);obtain⟨a1,a2,a3,a4⟩:=m.AR g (ord:=ord) hv;have hin:=Kj hv a1;have ih:=Co hn (l:=l) (ord:=ay ord (road (ord.idxOf v) (m.su g ord (ord.idxOf v)).1)) (mE hp hin) (λx hx=>hl x (by simp[hx]));have Dv:=vq (ord.idxOf v) (m.su g ord (ord.idxOf v)).1;rw[Rm.cm];simp only;rw[cj,xaf];by_cases e:m.size (ay ord (road (ord.idxOf v) (m.su g ord (ord.idxOf v)).1))=m.size ord
  ·have e2:=a3 e;rw[e2,gC]at ih Dv⊢;simpa[ay]using ih
  omega
theorem qc{ord l:zL}(hp:ord.Perm (List.range m.n))(hl:l.Perm (List.range m.n))(hn:m.n<=64):ue m ord (m.cm g ord l).1/\(m.cm g ord l).2<=3*m.n*(m.n-1):=by
 have hlt:∀v∈l,v<m.n:=λv hv=>xaM.1 (hl.mem_iff.1 hv);have h:=mG (m:=m) (g:=g) (l:=l) hp hlt;have nk:l.length=m.n:=by rw[hl.length_eq,xaK]
 obtain⟨h1,h2,h3,h4,h5⟩:=h;rw[nk]at h4;exact⟨⟨h1,h2,Co hn hp hlt⟩,by rw[xcL,xcm m.n,<-xcL];exact h4⟩
theorem u5(hn:m.n<=64):∀{ls:List (zL)} {ord:zL},ord.Perm (List.range m.n)->(∀l∈ls,l.Perm (List.range m.n))->m.rO g ord ls->ue m ord (m.cM g ord ls).1
 | [],ord,hp,hl,hg=>hg.elim
 | [l],ord,hp,hl,hg=>by
  have e:(m.cM g ord [l]).1=(m.cm g ord l).1++[]:=rfl;rw[e,xaL];exact(qc hp (hl l zI) hn).1
 |l::l2::r,ord,hp,hl,hg=>by
  obtain⟨g1,g2⟩:=(qz zI).1 hg;have a:=(qc (g:=g) hp (hl l zI) hn).1;have ih:=u5 hn (ls:=l2::r) (mE hp a.mem) (λx hx=>hl x (by simp[xak.1 hx])) g2;have e:(m.cM g ord (l::l2::r)).1=(m.cm g ord l).1++(m.cM g (ay ord (m.cm g ord l).1) (l2::r)).1:=rfl;rw[e];have a1:=a.le;have a2:=a.len;have b1:=ih.le;have b2:=ih.len;refine⟨λx hx=>(xao.1 hx).elim (a.mem x) (ih.mem x),by rw[cj];omega,by rw[cj,xaf];omega⟩
theorem E4{ls:List (zL)}{ord:zL}(hp:ord.Perm (List.range m.n))(hl:∀l∈ls,l.Perm (List.range m.n))(hg:m.rO g ord ls):(m.cM g ord ls).2<=3*m.n*(m.n-1)*(m.size ord+1):=by
 have h:=Ka hp hl hg;have h1:=h.Y9.2;have h2:=h.pL;have e:3*(m.n-1)*m.n=3*m.n*(m.n-1):=by rw[xcL,xcm (m.n-1),<-xcL]
 rw[e]at h2;exact xbI h2 (xda _ zO)
theorem Rm.Ek(m:Rm)(w:Nat)(ord:zL):∀i,(m.all w ord i).1.length+66*m.size (ay ord (m.all w ord i).1)<=66*m.size ord
 |0=>by simp[Rm.all,ay]
 |i+1=>by
  have e:(m.all w ord (i+1)).1=(m.all w ord i).1++(m.visit w i (ay ord (m.all w ord i).1)).1:=rfl;have ih:=m.Ek w ord i;have h1:=m.B5 w i (ay ord (m.all w ord i).1);have h2:=m.ET w i (ay ord (m.all w ord i).1);have h3:=(m.sg w i (ay ord (m.all w ord i).1)).1;rw[e,cj,xaf];by_cases e2:m.size (ay (ay ord (m.all w ord i).1) (m.visit w i (ay ord (m.all w ord i).1)).1)=m.size (ay ord (m.all w ord i).1)
  ·rw[h2 e2];simpa[ay]using ih
  omega
theorem E6{w:Nat}{ord:zL}(hw:2<=w/\w<=4)(hn:m.n<=64):ue m ord (m.pass w ord).1/\(m.pass w ord).2<=(m.n+1-w)*(2*(mi w).length):=by
 refine⟨⟨λx hx=>?_,m.TL w ord _,m.Ek w ord _⟩,m.Ae w ord _⟩;by_cases e:m.n+1-w=0
 ·have hx:x∈(m.all w ord (m.n+1-w)).1:=hx;rw[e]at hx;exact absurd hx xaR
 have:=m.Lm hx;omega
end
end au
namespace au
open ak
variable {n:Nat}
def sat(n:Nat)(f:Fn):Nat:=(List.range (2^n)).countP f
def flip(v x:Nat):Nat:=aB x v (!x.testBit v)
theorem flip_flip(v x:Nat):flip v (flip v x)=x:=by
 unfold flip;rw[aj,xad rfl,oU];simpa using iq x v
theorem KV{v x:Nat}(hv:v<n)(hx:x<2^n):flip v x<2^n:=fZ hx hv
theorem Np{v:Nat}(hv:v<n):((List.range (2^n)).map (flip v)).Perm (List.range (2^n)):=by
 refine(xcV ?_ xbl).2 λx=>?_
 ·refine xbJ.2 (xbl.imp λ{a b} h e=>h ?_);rw[<-flip_flip v a,e,flip_flip]
 rw[xan];constructor
 ·rintro⟨y,hy,rfl⟩;exact xaM.2 (KV hv (xaM.1 hy))
 intro hx;exact⟨flip v x,xaM.2 (KV hv (xaM.1 hx)),flip_flip v x⟩
theorem wP{f g p q:Nat->Bool}(h:∀x,(p x).toNat+(q x).toNat=(f x).toNat+(g x).toNat):∀l:zL,l.countP p+l.countP q=l.countP f+l.countP g
 | []=>rfl
 |x::l=>by
  have:=h x;have:=wP h l;simp only[List.countP_cons];cases hp:p x<;>cases hq:q x<;>cases hf:f x<;>cases hg:g x<;>simp_all<;>omega
theorem Qo{v:Nat}(hv:v<n)(f:Fn):sat n (λx=>f (aB x v false))+sat n (λx=>f (aB x v true))=2*sat n f:=by
 unfold sat;rw[wP (f:=f) (g:=λx=>f (flip v x)) (λx=>?_)]
 ·have:List.countP (λx=>f (flip v x)) (List.range (2^n))=List.countP f (List.range (2^n)):=by
   have h:=(Np hv).countP_eq f;rw[xeB]at h;exact h
  omega
 unfold flip;have:=iq x v;cases hb:x.testBit v<;>rw[hb]at this<;>simp only[xcw,xcq]<;>rw[this]<;>omega
theorem sA:sat n (λ_=>false)=0:=by simp[sat]
theorem sat_true:sat n (λ_=>true)=2^n:=by simp[sat]
variable {N:eE} {S:Nat->Fn} {ah:Nat->Nat}
theorem Qn(h:WF n ah N)(hl:jI n ah)(hi:Interp N S){r a b:Nat}{d:Nd}(hd:N r=some d)(hv:d.v<n)(ha:a*2^dep n ah N d.lo=sat n (S d.lo))(hb:b*2^dep n ah N d.hi=sat n (S d.hi)):
  (a*2^(dep n ah N d.lo-ah d.v-1)+b*2^(dep n ah N d.hi-ah d.v-1))*2^dep n ah N r=sat n (S r):=by
 have h1:=(h.lo hd).2;have h2:=(h.hi hd).2;rw[an hd];have e1:(λx=>S r (aB x d.v false))=S d.lo:=by
  have:=(gj h hl hi (r:=r) (.inr ⟨d,hd⟩) hv (by rw[an hd];exact xaj _) false);rw[(kO hd).1]at this;exact(funext this.1).symm
 have e2:(λx=>S r (aB x d.v true))=S d.hi:=by
  have:=(gj h hl hi (r:=r) (.inr ⟨d,hd⟩) hv (by rw[an hd];exact xaj _) true);rw[(kO hd).2]at this;exact(funext this.1).symm
 have hh:=Qo hv (S r);rw[e1,e2,<-ha,<-hb]at hh;have p1:2^dep n ah N d.lo=2^(dep n ah N d.lo-ah d.v-1)*(2*2^ah d.v):=by
  rw[<-Nat.pow_succ',<-xdy];congr 1;omega
 have p2:2^dep n ah N d.hi=2^(dep n ah N d.hi-ah d.v-1)*(2*2^ah d.v):=by
  rw[<-Nat.pow_succ',<-xdy];congr 1;omega
 rw[p1,p2]at hh;rw[<-xcL a,<-xcL b,<-xeC,Nat.mul_left_comm]at hh;omega
end au
set_option maxRecDepth 100000
namespace Go.Proofs
open Go Go.Sx
section
open au
theorem Vo{P:Program}{f:FuncId}{args:Array zV}{B:Hp}{Q:zV->Prop}(h:Px P f args B (λv _=>Q v)):Rd P f args B Q:=λg=>(h g).mono λe H h=>by
 obtain⟨v,H2,rfl,he,hg,hq⟩:=h;exact⟨v,B,rfl,he.trans hg.dN,rfl,hq⟩
theorem ae.aeg{a b:Nat}{k:zV->Prop}(h:k (.int .u64 (((a+b)%18446744073709551616:Nat):Int))):ae .num .add (.int .u64 (a:Int)) (.int .u64 (b:Int)) k:=by
 refine ae.add ?_;rw[wrap_u64];have:(((a:Int)+(b:Int))%18446744073709551616)=((((a+b)%18446744073709551616:Nat)):Int):=by omega
 rw[this];exact h
section
variable {kp:Nat} {K:Kd} {S:Nat->au.Fn} {ord ah tr:zL} {C:Hp}
theorem pz(r:Nat)(B:Hp):Rd zQ 124 #[u32 r] B (· =.bool (decide (r<2))):=by
 refine aI λg=>Jk (ae.dx (b:=0) (cS.or (a:=decide (r=0)) (decide (r=1)) (λ_=>ae.dx (b:=1) ⟨rfl,rfl⟩) rfl λ_=>?_));refine bc.mk (.refl _) ?_;rw[<-xa4];congr 1;exact xaZ.2 zO
theorem Tm(h:bP kp K S ord ah tr C){r v:Nat}(hr:live K.N r)(hv:v<18446744073709551616):
  Rd zQ 87 #[ptr kp,u32 r,.int .u64 (v:Int)] C (· =.tuple #[.bool (S r v),iv 0]):=by
 have sP:K.n<=64:=h.aZ.lP;refine aI λg=>Of (ax.int (e:=78) zK zK zK λbx=>?_);refine aa.eh .here (Vo (wV (X:=[(bx,_)]) (rs:=[r]) h (dz.block (by exact .head _) zI) (λx hx=>by rw[xaw.1 hx];exact hr) zI)) (ae.cD (Br.F (⟨λvs H=>∃q:Nat,vs=[u32 q]/\H=C/\live K.N q/\S q v=S r v,λvs _=>K.n-dep K.n (lv ah) K.N (bN vs 0),JE.of .tail ⟨r,rfl,rfl,hr,rfl⟩,?_⟩)));rintro w H ⟨q,⟨⟩,rfl,hq,he⟩ gs;refine aa.eq (pz q _) (Un.not (Br.mk (λhb=>?_) (λhb=>?_)))
 ·have h2:2<=q:=by simpa using hb
  obtain⟨d,hN⟩:∃d,K.N q=some d:=by
   rcases hq with hq|hq
   ·omega
   exact hq
  have kA:=h.ok.mid.var hN;have hlo:=h.ok.wf.lo hN;have hhi:=h.ok.wf.hi hN;have hvl:=h.ok.lv.lt _ kA;refine aa.eh .here (Vo (wS (X:=[]) h hN)) λr9 _=>?_;refine St.p (fA d) ?_;refine Ld.f ?_;refine Ld.f ?_;refine ae.iK (by simpa[bG]using hv) (ae.jE (by simp[bG];exact xaA (xbm _ _) hv) zD (ae.dx (b:=1) ?_));rw[xbT];rw[Bs];have KE:=h.ok.mid.int.node hN v;refine Br.mk (λhb=>?_) (λhb=>?_)
  ·rw[hb,xad rfl]at KE;refine Ld.f ?_;refine aC.of .tail ⟨d.hi,rfl,rfl,hhi.1,KE.symm.trans he⟩ ?_;show K.n-dep K.n (lv ah) K.N d.hi<K.n-dep K.n (lv ah) K.N q;rw[an hN];omega
  rw[hb,xab zD]at KE;refine aC.of .tail ⟨d.lo,rfl,rfl,hlo.1,KE.symm.trans he⟩ ?_;show K.n-dep K.n (lv ah) K.N d.lo<K.n-dep K.n (lv ah) K.N q;rw[an hN];omega
 have h2:q<2:=by simpa using hb
 refine ae.dx (b:=1) (bc.mk (.refl _) ?_);rw[<-he];have hint:=h.ok.mid.int;have:q=0\/q=1:=by omega
 rcases this with rfl|rfl
 ·rw[hint.zero];rfl
 rw[hint.one];rfl
end
end
section
open au
section
variable {kp mb b1 b9 c9 c1 c3 NK:Nat} {K:Kd} {S:Nat->au.Fn} {ord ah tr:zL} {C Z:Hp}
abbrev BF:Nat:=18446744073709551616
abbrev u64(x:Nat):zV:=.int .u64 (x:Int)
theorem wR(h:bP kp K S ord ah tr C){r:Nat}{d:Nd}(hd:K.N r=some d):Rd zQ 125 #[ptr kp,u32 r] C (· =.agg (bt d).toArray):=Vo (wS (X:=[]) h hd)
theorem wU(h:bP kp K S ord ah tr C){X:Hp}{r b:Nat}(hm:(b,Obj.cells (aA .u32 [(r:Int)]) 78 zZ)∈X)(hr:live K.N r):Rd zQ 123 #[ptr kp,.slice (some ⟨b,0,none⟩) 1 1] (X++C) (· =iv 0):=
 Vo (wV (X:=X) (rs:=[r]) h (dz.block (xae _ hm) zI) (λx hx=>by rw[xaw.1 hx];exact hr) zI)
def cw(K:Kd)(ah:zL)(S:Nat->au.Fn)(r:Nat):Nat:=sat K.n (S r) /2^dep K.n (lv ah) K.N r
theorem rT(h:bP kp K S ord ah tr C){r:Nat}(hr:r<2):cw K ah S r=r:=by
 have hi:=h.ok.mid.int;have h0:K.N r=none:=by
  cases hN:K.N r with
  |none=>rfl
  |some d=>have:=h.ok.mid.two hN;omega
 unfold cw;rw[aT h0];have:r=0\/r=1:=by omega
 rcases this with rfl|rfl
 ·rw[show S 0=λ_=>false from funext hi.zero,sA,Nat.zero_div]
 rw[show S 1=λ_=>true from funext hi.one,sat_true,Nat.div_self (xbw _)]
theorem S9(h:bP kp K S ord ah tr C):∀(k r:Nat),K.n-dep K.n (lv ah) K.N r<=k->live K.N r->cw K ah S r*2^dep K.n (lv ah) K.N r=sat K.n (S r)/\
  (∀d,K.N r=some d->cw K ah S r=cw K ah S d.lo*2^(dep K.n (lv ah) K.N d.lo-lv ah d.v-1)+cw K ah S d.hi*2^(dep K.n (lv ah) K.N d.hi-lv ah d.v-1)):=by
 have hi:=h.ok.mid.int;intro k;induction k with
 |zero=>
  intro r hk hr;cases hN:K.N r with
  |some d=>
   rw[an hN]at hk;have:=h.ok.lv.lt _ (h.ok.mid.var hN);omega
  |none=>
   have h2:r<2:=by
    rcases hr with hr|⟨d,e⟩
    ·exact hr
    rw[hN]at e;cases e
   refine⟨?_,λd hd=>by cases hd⟩;rw[rT h h2,aT hN];have:r=0\/r=1:=by omega
   rcases this with rfl|rfl
   ·rw[show S 0=λ_=>false from funext hi.zero,sA,xdZ]
   rw[show S 1=λ_=>true from funext hi.one,sat_true,xdk]
 |succ k ih=>
  intro r hk hr;cases hN:K.N r with
  |none=>
   rw[aT hN]at*;have h2:r<2:=by
    rcases hr with hr|⟨d,e⟩
    ·exact hr
    rw[hN]at e;cases e
   refine⟨?_,λd hd=>by cases hd⟩;rw[rT h h2];have:r=0\/r=1:=by omega
   rcases this with rfl|rfl
   ·rw[show S 0=λ_=>false from funext hi.zero,sA,xdZ]
   rw[show S 1=λ_=>true from funext hi.one,sat_true,xdk]
  |some d=>
   have hlo:=h.ok.wf.lo hN;have hhi:=h.ok.wf.hi hN;have hvl:=h.ok.lv.lt _ (h.ok.mid.var hN);have e1:=an (n:=K.n) (ah:=lv ah) hN;have q:=Qn h.ok.wf h.ok.lv hi hN (h.ok.mid.var hN) (ih d.lo zO hlo.1).1 (ih d.hi zO hhi.1).1;have e2:cw K ah S r=cw K ah S d.lo*2^(dep K.n (lv ah) K.N d.lo-lv ah d.v-1)+cw K ah S d.hi*2^(dep K.n (lv ah) K.N d.hi-lv ah d.v-1):=by
    show sat K.n (S r) /_=_;rw[<-q,Nat.mul_div_cancel _ (xbw _)]
   exact⟨by rw[e2];exact q,λd' hd=>by cases hd;exact e2⟩
theorem sr(h:bP kp K S ord ah tr C){r:Nat}(hr:live K.N r)(h1:(b1,Obj.cells #[ptr kp] 53 zZ)∈Z):
  Rd zQ 126 #[u32 r,ptr b1] (Z++C) (· =iv ((dep K.n (lv ah) K.N r:Nat):Int)):=by
 have qy:=xae C h1;refine aI λg=>Ji (aa.eq (pz r _) (Br.mk (λhb=>?_) (λhb=>?_)))
 ·have h2:r<2:=xcb hb;refine Ld.mk qy rfl ?_;refine aa.eq (gR h.rep) (bc.mk (.refl _) ?_);have h0:K.N r=none:=by
   cases hN:K.N r with
   |none=>rfl
   |some d=>have:=h.ok.mid.two hN;omega
  rw[aT h0]
 have h2:¬r<2:=xdg hb;obtain⟨d,hN⟩:∃d,K.N r=some d:=by
  rcases hr with hr|hr
  ·omega
  exact hr
 have kA:=h.ok.mid.var hN;refine DR.of (.refl _) (Ld.mk qy rfl ?_);refine Ld.mk qy rfl ?_;intro F;refine aa.eq (args:=#[ptr kp,u32 r]) (wR h hN) (⟨.refl _,?_⟩);refine Az.mk (off:=0) (cs:=(bt d).toArray) (v:=iv (d.v:Int)) rfl ?_;intro F;refine aa.eq (args:=#[ptr kp,iv (d.v:Int)]) (l6 h.rep _) (⟨.refl _,?_⟩);rw[xad ⟨by omega,by omega⟩];refine Ext.two (bc.mk (.refl _) ?_);rw[an hN];rfl
theorem AQ(a k:Nat):((a%BF)<<<k)%BF=(a*2^k)%BF:=by
 rw[xcn,Nat.mod_mul_mod]
theorem Vi(h:bP kp K S ord ah tr C){r:Nat}{d:Nd}(hN:K.N r=some d)(h1:(b1,Obj.cells #[ptr kp] 53 zZ)∈Z)(h9:(b9,Obj.cells #[.func (.func 126) #[] #[ptr b1]] 182 zZ)∈Z):
  Rd zQ 128 #[.agg (bt d).toArray,u64 (cw K ah S d.lo%BF),u64 (cw K ah S d.hi%BF),ptr b1,ptr b9] (Z++C) (· =u64 (cw K ah S r%BF)):=by
 have qy:=xae C h1;have tO:=xae C h9;have kA:=h.ok.mid.var hN;have hlo:=h.ok.wf.lo hN;have hhi:=h.ok.wf.hi hN;have hn:=h.aZ.lP;have hdl:=h.ok.wf.iD h.ok.lv d.lo;have hdh:=h.ok.wf.iD h.ok.lv d.hi;refine aI λg=>Jg λc1 _=>?_;refine Ld.mk (.tail _ qy) rfl ?_;refine Ld.f (v:=iv (d.v:Int)) (aa.eq (l6 h.rep _) ?_);rw[xad ⟨by omega,by omega⟩];refine Ext.two (DR.of (.refl _) (Ld.mk (.tail _ tO) rfl ?_));refine Ld.f (v:=u32 d.lo) (Ld.mk (.tail _ tO) rfl ?_);refine Ld.f (v:=u32 d.hi) λF=>?_;refine aE.of rfl zK (aa.eq (args:=#[u32 d.lo,ptr b1]) (sr (Z:=Z) h hlo.1 h1) (⟨.refl _,?_⟩));rw[xbe];show ae _ _ (iv ((dep K.n (lv ah) K.N d.lo:Nat):Int)) (iv ((lv ah d.v:Nat):Int)) _;refine ae.ca (ae.ca (b:=1) (ae.nR λF=>(aE.of rfl zK (aa.eq (args:=#[u32 d.hi,ptr b1]) (sr (Z:=Z) h hhi.1 h1) ?_))));show ae _ _ (iv ((dep K.n (lv ah) K.N d.hi:Nat):Int)) (iv ((lv ah d.v:Nat):Int)) _;refine ae.ca (ae.ca (b:=1) (ae.nR (ae.aeg (bc.mk .tail ?_))));rw[AQ,AQ,<-Nat.add_mod,(S9 h K.n r (xdt _ _) (.inr ⟨d,hN⟩)).2 d hN]
structure KnS(K:Kd)(ah:zL)(S:Nat->au.Fn)(es:Array MapEntry)(ck:Nat)(m:List (Nat×Nat)):Prop where
 dN:aF kr (λv (x:Nat)=>v=u64 x) es ck m
 val:∀r x,aG m r=some x->x=cw K ah S r%BF
 low:∀r,r<2->aG m r≠none
theorem Mo(h:bP kp K S ord ah tr C)(h9:(c9,Obj.cells #[.map (some mb)] 254 zZ)∈Z)(h1:(c1,Obj.cells #[ptr kp] 53 zZ)∈Z)(h3:(c3,Obj.cells #[.func (.func 128) #[] #[ptr b1,ptr b9]] 187 zZ)∈Z)
 (KR:(NK,Obj.cells #[.func (.func 193) #[] #[ptr c9,ptr c1,ptr c3,ptr NK]] 255 zZ)∈Z)(hb1:(b1,Obj.cells #[ptr kp] 53 zZ)∈Z)(hb9:(b9,Obj.cells #[.func (.func 126) #[] #[ptr b1]] 182 zZ)∈Z):
  ∀(k r:Nat) (es:Array MapEntry) (ck:Nat) (m:List (Nat×Nat)),K.n-dep K.n (lv ah) K.N r<=k->live K.N r->KnS K ah S es ck m->
  Fc zQ 193 #[u32 r,ptr c9,ptr c1,ptr c3,ptr NK] ((mb,.map es ck)::(Z++C)) (λv H=>v=u64 (cw K ah S r%BF)/\∃es' bB m',H=(mb,.map es' bB)::(Z++C)/\KnS K ah S es' bB m'):=by
 have hit:∀{r:Nat} {es:Array MapEntry} {ck:Nat} {m:List (Nat×Nat)} {x:Nat},KnS K ah S es ck m->aG m r=some x->
   Fc zQ 193 #[u32 r,ptr c9,ptr c1,ptr c3,ptr NK] ((mb,.map es ck)::(Z++C)) (λv H=>v=u64 (cw K ah S r%BF)/\∃es' bB m',H=(mb,.map es' bB)::(Z++C)/\KnS K ah S es' bB m'):=by
  intro r es ck m x hm hv;refine aI λg=>xH (Ld.mk (v:=.map (some mb)) (.tail _ (xae _ h9)) rfl ?_);refine hm.dN.hit (k:=r) cY (b:=mb) (by exact .head _) hv λv' e=>?_;subst e;exact Ext.two (Br.yes (aN.mk (.refl _) ⟨by rw[hm.val r x hv],es,ck,m,rfl,hm⟩))
 intro k;induction k with
 |zero=>
  intro r es ck m hk hr hm;have qx:r<2:=by
   cases hN:K.N r with
   |some d=>
    rw[an hN]at hk;have:=h.ok.lv.lt _ (h.ok.mid.var hN);omega
   |none=>
    rcases hr with hr|⟨d,e⟩
    ·exact hr
    rw[hN]at e;cases e
  cases hv:aG m r with
  |none=>exact absurd hv (hm.low r qx)
  |some v=>exact hit hm hv
 |succ k ih=>
  intro r es ck m hk hr hm;cases hv:aG m r with
  |some v=>exact hit hm hv
  |none=>
  have qx:¬r<2:=λh2=>hm.low r h2 hv;obtain⟨d,hN⟩:∃d,K.N r=some d:=by
   rcases hr with hr|hr
   ·omega
   exact hr
  have hlo:=h.ok.wf.lo hN;have hhi:=h.ok.wf.hi hN;rw[an hN]at hk;have hvl:=h.ok.lv.lt _ (h.ok.mid.var hN);refine aI λg=>xH (Ld.mk (v:=.map (some mb)) (.tail _ (xae _ h9)) rfl ?_);refine hm.dN.bO (k:=r) cY (b:=mb) (by exact .head _) hv ?_;refine Ext.two (Br.no (Ld.mk (v:=ptr kp) (.tail _ (xae _ h1)) rfl ?_));refine aa.eq (args:=#[ptr kp,u32 r]) (wR h hN) λb8 _=>?_;refine St.p (fA d) ?_;refine DR.of (R:=(b8,Obj.cells (bt d).toArray 144 zZ)::Z) (.cons (.skip .left)) (Ld.mk (v:=.func (.func 128) #[] #[ptr b1,ptr b9]) (.tail _ h3) rfl ?_);refine az.q ?_;refine Ld.mk (v:=.func (.func 193) #[] #[ptr c9,ptr c1,ptr c3,ptr NK]) (.tail _ KR) rfl ?_;refine Ld.f (v:=u32 d.lo) (Ld.mk (v:=.func (.func 193) #[] #[ptr c9,ptr c1,ptr c3,ptr NK]) (.tail _ KR) rfl ?_);refine Ld.f (v:=u32 d.hi) λF=>?_;refine aE.of rfl zK (aa.fq (args:=#[u32 d.lo,ptr c9,ptr c1,ptr c3,ptr NK]) (ih d.lo es ck m zO hlo.1 hm) ?_);rintro v1 H ⟨rfl,kB,jN,m1,rfl,xU⟩;refine⟨.cons (.skip .left),?_⟩;intro F;refine aE.of rfl zK (aa.fq (args:=#[u32 d.hi,ptr c9,ptr c1,ptr c3,ptr NK]) (ih d.hi kB jN m1 zO hhi.1 xU) ?_);rintro v2 H ⟨rfl,gV,iE,m2,rfl,nj⟩;refine⟨.cons (.skip .left),?_⟩;intro F;refine aE.of rfl zK (aa.eq (args:=#[.agg (bt d).toArray,u64 (cw K ah S d.lo%BF),u64 (cw K ah S d.hi%BF),ptr b1,ptr b9]) (Vi (Z:=Z) h hN hb1 hb9) (Ld.mk (v:=.map (some mb)) (.tail _ (.tail _ (xae _ h9))) rfl ?_));refine nj.dN.bK (k:=r) (b:=mb) (x:=cw K ah S r%BF) cY gT rfl λpo qR he=>⟨_,.tail (.head _),?_⟩;refine aN.mk .tail ⟨rfl,po,qR,_,rfl,he,λr' x' n8=>?_,λr' hr'=>?_⟩
  ·rw[bL]at n8;split at n8
   ·rename_i e;subst e;cases n8;rfl
   exact nj.val r' x' n8
  rw[bL];split
  ·simp
  exact nj.low r' hr'
theorem Td(h:bP kp K S ord ah tr C){r:Nat}(hr:live K.N r):
  Rd zQ 89 #[ptr kp,u32 r] C (· =.tuple #[u64 (sat K.n (S r)%BF),iv 0]):=by
 have hi:=h.ok.mid.int;refine aI λg=>Od λb1 _=>?_;refine Ld.q ?_;refine ax.int (e:=78) zK zK zK λbx=>?_;refine aa.eh .here (wU (X:=[(bx,_),(b1,_)]) h (by exact .head _) hr) (ae.cD (Br.F λb9 _=>(St.one (c':=#[.func (.func 126) #[] #[ptr b1]]) (by exact .head _) rfl zI rfl ?_)));refine Ld.q ?_;refine aa.fq (args:=#[ptr kp,u32 r,u64 0,u64 1,.func (.func 128) #[] #[ptr b1,ptr b9]]) (C:=(b9,Obj.cells #[.func (.func 126) #[] #[ptr b1]] 182 zZ)::(bx,_)::(b1,Obj.cells #[ptr kp] 53 zZ)::C) (Q:=λv H=>v=u64 (cw K ah S r%BF)/\H=(b9,Obj.cells #[.func (.func 126) #[] #[ptr b1]] 182 zZ)::(bx,Obj.cells (aA .u32 [(r:Int)]) 78 zZ)::(b1,Obj.cells #[ptr kp] 53 zZ)::C) (aI λg=>Jh ?_) ?_
 ·intro c1 _ c3 _ mb _;refine aF.bK (ke:=kr) (vr:=λv (x:Nat)=>v=u64 x) (k:=0) (b:=mb) (x:=0) cY gT aF.empty rfl λkB jN Gb=>⟨_,.head _,?_⟩;refine aF.bK (ke:=kr) (vr:=λv (x:Nat)=>v=u64 x) (k:=1) (b:=mb) (x:=1) cY gT Gb rfl λgV iE Uq=>⟨_,.head _,?_⟩;intro c9 _;refine St.one (c':=#[.map (some mb)]) (by exact .head _) rfl zI rfl ?_;intro NK _;refine St.one (c':=#[.func (.func 193) #[] #[ptr c9,ptr c1,ptr c3,ptr NK]]) (by exact .head _) rfl zI rfl ?_;refine Ld.q ?_;refine aE.of rfl zK ?_;obtain⟨Z,hZ⟩:∃Z:Hp,Z=[(NK,Obj.cells #[.func (.func 193) #[] #[ptr c9,ptr c1,ptr c3,ptr NK]] 255 zZ),(c9,.cells #[.map (some mb)] 254 zZ),(c3,.cells #[.func (.func 128) #[] #[ptr b1,ptr b9]] 187 zZ),(c1,.cells #[ptr kp] 53 zZ),
   (b9,Obj.cells #[.func (.func 126) #[] #[ptr b1]] 182 zZ),(bx,Obj.cells (aA .u32 [(r:Int)]) 78 zZ),(b1,Obj.cells #[ptr kp] 53 zZ)]:=⟨_,rfl⟩
  refine aa.pre (H':=(mb,Obj.map gV iE)::(Z++C)) (.perm ?_) ?_
  ·rw[hZ];exact(List.Perm.cons _ (List.Perm.swap _ _ _)).trans (List.Perm.swap _ _ _)
  refine aa.fq (args:=#[u32 r,ptr c9,ptr c1,ptr c3,ptr NK]) (Mo (Z:=Z) (b1:=b1) (b9:=b9) h (by rw[hZ];exact .tail _ (.head _)) (by rw[hZ];exact .tail _ (.tail _ (.tail _ (.head _)))) (by rw[hZ];exact .tail _ (.tail _ (.head _))) (by rw[hZ];exact .head _) (by rw[hZ];exact .tail _ (.tail _ (.tail _ (.tail _ (.tail _ (.tail _ (.head _))))))) (by rw[hZ];exact .tail _ (.tail _ (.tail _ (.tail _ (.head _))))) K.n r gV iE _ (xdt _ _) hr ⟨Uq,λr' x hm=>?_,λr' hr'=>?_⟩) ?_
  ·rw[bL,bL]at hm;split at hm
   ·rename_i e;subst e;cases hm;rw[rT h zD];rfl
   split at hm
   ·rename_i e;subst e;cases hm;rw[rT h zD];rfl
   simp[aG]at hm
  ·rw[bL,bL];have:r'=0\/r'=1:=by omega
   rcases this with rfl|rfl<;>simp
  rintro v H ⟨rfl,po,qR,m3,rfl,_⟩;refine aN.mk ?_ ⟨rfl,rfl⟩;rw[hZ];exact .skip (.skip (.skip (.skip (.skip (.refl _)))))
 rintro v H ⟨rfl,rfl⟩;refine Ld.q ?_;refine aE.of rfl zK (aa.eh (args:=#[u32 r,ptr b1]) .here (sr (Z:=[(b9,_),(bx,_),(b1,_)]) h hr (by exact .tail _ (.tail _ (.head _)))) (ae.nR (bc.mk (.skip (.skip .tail)) ?_)));rw[AQ,(S9 h K.n r (xdt _ _) hr).1]
end
end
end Go.Proofs
namespace Go.Sx
open Go
section
variable {P:Program} {g:Gh} {H:Hp}
def wY:Nat->List (List zV)->List (Nat×zV)
 |_,[]=>[]
 |i,r::rs=>(i,.agg r.toArray)::wY (i+1) rs
theorem wG{k:Nat}:∀(rs:List (List zV)) (i:Nat) (pre aK:List zV),(∀r∈rs,r.length=k)->pre.length=i*k->aK.length=rs.length*k->pU (λi=>some (i*k,k)) (pre++aK) (wY i rs)=some (pre++rs.flatten)
 | [],i,pre,aK,_,_,hj=>by
  have:aK=[]:=xcN.1 (by simpa using hj);subst this;simp[wY,pU]
 |r::rs,i,pre,aK,hr,hp,hj=>by
  have hrk:=hr r (xbL ..);have Um:aK.length=k+rs.length*k:=by rw[hj,xaz,xbu,Nat.add_comm]
  simp only[wY,pU,Value.cells];have hb:(Nat.beq r.toArray.toList.length k&&Nat.ble (i*k+r.toArray.toList.length) (pre++aK).length)=true:=by
   have e1:r.toArray.toList.length=k:=hrk;rw[e1,xaf];simp;omega
  rw[hb,xap];have h1:=oZ r (pre++aK) (i*k) (by rw[xaf];omega);rw[mK]at h1;have h2:vI (pre++aK) (i*k) r=pre++r++aK.drop k:=by
   have:=xck Array.toList h1;simp only at this;rw[this,<-hp];simp[xeq,hrk,xes]
  show pU _ (vI (pre++aK) (i*k) r) _=_;rw[h2,wG rs (i+1) (pre++r) (aK.drop k) (λx hx=>hr x (xbt _ hx)) (by rw[xaf,hp,hrk,xbu]) (by rw[List.length_drop];omega)];simp
theorem ax.many{t e k:Nat}{z:zV}(rs:List (List zV)){len:Nat}{parts:List (Nat×zV)}{K:zV->Hp->Prop}(h1:P.underlying t=some (.slice e))(h2:dH P e=some k)(h3:fJ P e=some z)(hk:rs.length*k<=16777216)(hr:∀r∈rs,r.length=k)
 (hl:rs.length=len)(hp:wY 0 rs=parts)(h:∀b,K (.slice (some ⟨b,0,Option.none⟩) len len) ((b,.cells (rows rs) e zZ)::H)):ax P t len parts H K:=by
 subst hl hp;refine⟨rows rs,e,k,z,h1,h2,h3,by omega,?_,λb _=>h b⟩;have:((Array.range (rs.length*k)).map (z.cells[· %z.cells.size]!))=(((Array.range (rs.length*k)).map (z.cells[· %z.cells.size]!)).toList).toArray:=by rw[xdq]
 rw[this];generalize hc:((Array.range (rs.length*k)).map (z.cells[· %z.cells.size]!)).toList=c;have hlen:c.length=rs.length*k:=by rw[<-hc];simp
 refine mX _ _ _ ?_;have:=wG rs 0 [] c hr zI hlen;simpa using this
def kI(kd:IntKind)(a:Int):zV:=.int kd a
theorem cf(kd:IntKind)(a b:Int):Instr.sameNow (.int kd) (kI kd a) (kI kd b)=some (decide (a=b)):=by
 simp only[Instr.sameNow,kI,xa7,xar];rw[xbE];simp
theorem Ba(kd:IntKind)(a:Int):Instr.sameBits 10000 (kI kd a) (kI kd a)=true:=by simp[Instr.sameBits,kI]
theorem aF.look{κ β:Type}[DecidableEq κ]{ke:κ->zV}{vr:zV->β->Prop}{es:Array MapEntry}{ck b:Nat}{m:List (κ×β)}{kd:TypeDesc}{zero:zV}{ok:Bool}{k:κ}{K:zV->Prop}(hk:∀a b,Instr.sameNow kd (ke a) (ke b)=some (decide (a=b)))(h:aF ke vr es ck m)(hm:(b,Obj.map es ck)∈H)
 (h1:∀x v,aG m k=some x->vr v x->K (cond ok (.tuple #[v,.bool true]) v))(h2:aG m k=none->K (cond ok (.tuple #[zero,.bool false]) zero)):c6 kd zero ok H (.map (some b)) (ke k) K:=by
 cases hx:aG m k with
 |none=>exact h.bO hk hm hx (h2 hx)
 |some x=>exact h.hit hk hm hx λv hv=>h1 x v hx hv
end
end Go.Sx
set_option maxRecDepth 100000
namespace Go.Proofs
open Go Go.Sx
section
open au
section
variable {B:Hp}
abbrev i64(a:Int):zV:=iv a
abbrev eR(e h:Int)(n:Nat)(t:Int):zV:=.agg #[i64 e,i64 h,u64 n,i64 t]
theorem bI(e h:Int)(n:Nat)(t:Int):∀u∈[i64 e,i64 h,u64 n,i64 t],u.oneCell'=true:=λu hu=>by
 simp only[xak,xaR,xbD]at hu;rcases hu with rfl|rfl|rfl|rfl<;>rfl
theorem cy(e:Int)(B:Hp):Rd zQ 20 #[i64 e] B (· =eR e (-1) 0 0):=by
 refine aI λg=>O8 λb1 _=>?_;refine Build.mk (cs:=[i64 e,i64 (-1),u64 0,i64 0]) zK (St.p (bI _ _ _ _) ?_);refine az.q ?_;exact bc.mk .tail rfl
theorem dS(n:Nat)(e:Int)(B:Hp):Rd zQ 86 #[u64 n,i64 e] B (· =if e=0 then eR 0 (-1) n 0 else eR e (-1) 0 0):=by
 refine aI λg=>Og λb1 _=>?_;refine ae.neq ?_;by_cases he:e=0
 ·subst he;refine Br.no' rfl (Build.mk (cs:=[i64 0,i64 (-1),u64 n,i64 0]) zK (St.p (bI _ _ _ _) ?_));refine az.q ?_;exact bc.mk .tail rfl
 refine Br.UE (by simpa using he) (aa.eq (cy e _) (St.p (r:=[i64 e,i64 (-1),u64 0,i64 0]) (bI _ _ _ _) ?_));refine az.q ?_;exact bc.mk .tail (by rw[xab he])
theorem Kf(b:Bool)(B:Hp):Rd zQ 88 #[.bool b] B (· =u64 b.toNat):=by
 refine aI λg=>Oe ?_;cases b
 ·exact Br.no (bc.mk (.refl _) rfl)
 exact Br.yes (bc.mk (.refl _) rfl)
structure dD where
 op:Nat
 a:Int
 b:Int
 c:Int
 x:Nat
def dD.cells(s:dD):List zV:=[.int .u8 (s.op:Int),i64 s.a,i64 s.b,i64 s.c,u64 s.x]
abbrev dD.v(s:dD):zV:=.agg s.cells.toArray
theorem dD.one(s:dD):∀u∈s.cells,u.oneCell'=true:=λu hu=>by
 simp only[dD.cells,xak,xaR,xbD]at hu;rcases hu with rfl|rfl|rfl|rfl|rfl<;>rfl
structure dD.Ok(s:dD):Prop where
 op:s.op<256
 a: -9223372036854775808<=s.a/\s.a<=9223372036854775807
 b: -9223372036854775808<=s.b/\s.b<=9223372036854775807
 c: -9223372036854775808<=s.c/\s.c<=9223372036854775807
 x:s.x<18446744073709551616
structure Cf where
 n:Nat
 cap:Nat
 str:Nat
 gr:Nat
 rs:Nat
def Cf.cells(c:Cf):List zV:=[i64 c.n,i64 c.cap,.int .u8 (c.str:Int),i64 c.gr,i64 c.rs]
abbrev kF(sp:Nat)(c:Cf)(kp mb nx:Nat):Nat×Obj:=(sp,.cells (c.cells++[ptr kp,.map (some mb),i64 (nx:Int)]).toArray 58 zZ)
structure ia(kp nx:Nat)(c:Cf)(K:Kd)(S:Nat->au.Fn)(ord ah tr:zL)(hs:List (Int×Nat))(es:Array MapEntry)(ck:Nat)(C:Hp):Prop where
 ks:bP kp K S ord ah tr C
 n:K.n=c.n
 cap:K.cap=c.cap
 dN:aF (kI .i64) (λv (r:Nat)=>v=u32 r) es ck hs
 live:∀p∈hs,live K.N p.2
 hold:∀r,K.hold r=if 2<=r then(hs.map Prod.snd).count r else 0
 lt:∀p∈hs,0<=p.1/\p.1<nx
abbrev gS(sp:Nat)(c:Cf)(kp mb nx:Nat)(es:Array MapEntry)(ck:Nat)(C:Hp):Hp:=kF sp c kp mb nx::(mb,.map es ck)::C
end
section
variable {sp kp mb nx:Nat} {c:Cf} {K:Kd} {S:Nat->au.Fn} {ord ah tr:zL} {hs:List (Int×Nat)} {es:Array MapEntry} {ck:Nat} {C:Hp}
theorem eM(h:ia kp nx c K S ord ah tr hs es ck C)(a:Int):Rd zQ 76 #[ptr sp,i64 a] (gS sp c kp mb nx es ck C) (· =.bool (aG hs a).isSome):=by
 refine aI λg=>Oo (Ld.n (v:=.map (some mb)) ?_);refine h.dN.look (k:=a) (cf _) (by exact .tail _ (.head _)) (λx v hx hv=>?_) (λhx=>?_)
 ·exact Ext.two (bc.mk (.refl _) (by rw[hx];rfl))
 exact Ext.two (bc.mk (.refl _) (by rw[hx];rfl))
theorem B6(a:Int):Rd zQ 75 #[ptr sp,i64 a] (gS sp c kp mb nx es ck C) (· =.bool (decide (0<=a/\a<c.n))):=by
 refine aI λg=>Oq (ae.geq (cS.and (a:=decide (0<=a)) (decide (a<c.n)) (λ_=>?_) rfl λ_=>?_))
 ·exact Nil.ptr (ai.mk (Ld.f (v:=i64 c.n) (ae.lss ⟨rfl,rfl⟩)))
 exact bc.mk (.refl _) (by rw[<-xd3])
theorem KB(a:Int)(B:Hp):Rd zQ 74 #[i64 a] B (· =.bool (decide (a=0\/a=1))):=by
 refine aI λg=>Ot (ae.eql (cS.or (a:=a==0) (a==1) (λ_=>ae.eql ⟨rfl,rfl⟩) rfl λ_=>?_));refine bc.mk (.refl _) ?_;rw[xa4];rfl
def Ed(w:Nat)(x:dD):Bool:=decide (w&&&32≠0) && !decide (x.a=0\/x.a=1)
def GC(w:Nat)(x:dD):Bool:=decide (w&&&64≠0) && !decide (x.c=0\/x.c=1)
def CX(n w:Nat)(x:dD):Bool:=decide (w&&&8≠0) && !decide (0<=x.a/\x.a<n)
def CW(n w:Nat)(x:dD):Bool:=decide (w&&&16≠0) && !decide (0<=x.b/\x.b<n)
def Fx(n w:Nat)(x:dD):Bool:=decide (w&&&128≠0) &&decide (x.x>>>n≠0)
def wL(hs:List (Int×Nat))(w:Nat)(x:dD):Bool:=decide (w&&&1≠0) && !(aG hs x.a).isSome
def wK(hs:List (Int×Nat))(w:Nat)(x:dD):Bool:=decide (w&&&2≠0) && !(aG hs x.b).isSome
def z5(hs:List (Int×Nat))(w:Nat)(x:dD):Bool:=decide (w&&&4≠0) && !(aG hs x.c).isSome
def kK(n:Nat)(hs:List (Int×Nat))(w:Nat)(x:dD):Int:=
 if(Ed w x||GC w x)=true then 1 else if(CX n w x||CW n w x||Fx n w x)=true then 2 else if(wL hs w x||wK hs w x||z5 hs w x)=true then 3 else 0
theorem ae.has{w m:Nat}{k:zV->Prop}(hw:w<256)(hm:m<256)(h:k (.bool (decide (w&&&m≠0)))):ae .num .and (.int .u8 (w:Int)) (.int .u8 (m:Int)) λv=>ae .num .neq v (.int .u8 0) k:=by
 refine ae.jE (by simpa[bG]using hw) (by simpa[bG]using hm) (ae.neq ?_);have:(((w&&&m:Nat):Int) !=0)=decide (w&&&m≠0):=by
  rw[xbE];simp
 rw[this];exact h
theorem look_ok(h:ia kp nx c K S ord ah tr hs es ck C){x:dD}{w:Nat}(hw:w<256)(hx:x.x<18446744073709551616):Rd zQ 43 #[ptr sp,x.v,.int .u8 (w:Int)] (gS sp c kp mb nx es ck C) (· =i64 (kK c.n hs w x)):=by
 refine aI λg=>OP λb1 _ J3 h3=>?_;have S6:∀b:Bool,(Ed w x||GC w x)=b->J3 [.bool b] ((b1,.cells (Value.cells x.v) 35 zZ)::gS sp c kp mb nx es ck C):=λb hb=>by
  refine h3 _ _ λ_=>?_;cases b;rotate_left
  ·exact Br.yes (bc.mk .tail (by unfold kK;rw[xad hb]))
  refine Br.no λJ7 h7=>?_;have SZ:∀b:Bool,(CX c.n w x||CW c.n w x||Fx c.n w x)=b->J7 [.bool b] ((b1,.cells (Value.cells x.v) 35 zZ)::gS sp c kp mb nx es ck C):=λb' hb'=>by
   refine h7 _ _ λ_=>?_;cases b';rotate_left
   ·exact Br.yes (bc.mk .tail (by unfold kK;rw[hb,xab zD,xad hb']))
   refine Br.no λJ11 h11=>?_;have K8:∀b:Bool,(wL hs w x||wK hs w x||z5 hs w x)=b->J11 [.bool b] ((b1,.cells (Value.cells x.v) 35 zZ)::gS sp c kp mb nx es ck C):=λb2 tN=>by
    refine h11 _ _ λ_=>?_;cases b2
    ·exact Br.no (bc.mk .tail (by unfold kK;rw[hb,hb',tN];rfl))
    exact Br.yes (bc.mk .tail (by unfold kK;rw[hb,hb',xab zD,xab zD,xad tN]))
   intro J15 h15;have k15:∀b:Bool,wL hs w x=b->J15 [.bool b] ((b1,.cells (Value.cells x.v) 35 zZ)::gS sp c kp mb nx es ck C):=λb2 tN=>by
    refine h15 _ _ λ_=>?_;cases b2;rotate_left
    ·exact Br.yes (JE.mk (K8 true (by rw[tN];rfl)))
    refine Br.no λJ19 h19=>?_;have k19:∀b:Bool,wK hs w x=b->J19 [.bool b] ((b1,.cells (Value.cells x.v) 35 zZ)::gS sp c kp mb nx es ck C):=λb3 Sg=>by
     refine h19 _ _ λ_=>?_;cases b3;rotate_left
     ·exact Br.yes (JE.mk (K8 true (by rw[Sg,xdJ];rfl)))
     refine Br.no (ae.has (m:=4) hw zD (Split.mk (λe=>?_) (λe=>?_)))
     ·refine Ld.f (v:=i64 x.c) (aa.eq (eM h x.c) (Un.not (aH.mk (JE.mk (K8 _ ?_)))));rw[tN,Sg];unfold z5;rw[e];rfl
     refine aH.mk (JE.mk (K8 false ?_));rw[tN,Sg];unfold z5;rw[e];rfl
    refine ae.has (m:=2) hw zD (Split.mk (λe=>?_) (λe=>?_))
    ·refine Ld.f (v:=i64 x.b) (aa.eq (eM h x.b) (Un.not (aH.mk (JE.mk (k19 _ ?_)))));unfold wK;rw[e];rfl
    refine aH.mk (JE.mk (k19 false ?_));unfold wK;rw[e];rfl
   refine ae.has (m:=1) hw zD (Split.mk (λe=>?_) (λe=>?_))
   ·refine Ld.f (v:=i64 x.a) (aa.eq (eM h x.a) (Un.not (aH.mk (JE.mk (k15 _ ?_)))));unfold wL;rw[e];rfl
   refine aH.mk (JE.mk (k15 false ?_));unfold wL;rw[e];rfl
  intro J50 h50;have k50:∀b:Bool,CX c.n w x=b->J50 [.bool b] ((b1,.cells (Value.cells x.v) 35 zZ)::gS sp c kp mb nx es ck C):=λb2 tN=>by
   refine h50 _ _ λ_=>?_;cases b2;rotate_left
   ·exact Br.yes (JE.mk (SZ true (by rw[tN];rfl)))
   refine Br.no λJ54 h54=>?_;have k54:∀b:Bool,CW c.n w x=b->J54 [.bool b] ((b1,.cells (Value.cells x.v) 35 zZ)::gS sp c kp mb nx es ck C):=λb3 Sg=>by
    refine h54 _ _ λ_=>?_;cases b3;rotate_left
    ·exact Br.yes (JE.mk (SZ true (by rw[Sg,xdJ];rfl)))
    refine Br.no (ae.has (m:=128) hw zD (cS.and (decide (x.x>>>c.n≠0)) (λ_=>?_) rfl λgs=>?_))
    ·refine Ld.f (v:=u64 x.x) (Nil.ptr (ai.mk (Ld.f (v:=i64 c.n) (ae.iK (by simpa[bG]using hx) (ae.neq ⟨rfl,?_⟩)))));congr 1;generalize x.x>>>c.n=y;rw[xbE];simp
    refine JE.mk (SZ _ ?_);rw[tN,Sg];rfl
   refine ae.has (m:=16) hw zD (Split.mk (λe=>?_) (λe=>?_))
   ·refine Ld.f (v:=i64 x.b) (aa.eq (B6 x.b) (Un.not (aH.mk (JE.mk (k54 _ ?_)))));unfold CW;rw[e];rfl
   refine aH.mk (JE.mk (k54 false ?_));unfold CW;rw[e];rfl
  refine ae.has (m:=8) hw zD (Split.mk (λe=>?_) (λe=>?_))
  ·refine Ld.f (v:=i64 x.a) (aa.eq (B6 x.a) (Un.not (aH.mk (JE.mk (k50 _ ?_)))));unfold CX;rw[e];rfl
  refine aH.mk (JE.mk (k50 false ?_));unfold CX;rw[e];rfl
 intro J88 h88;have k88:∀b:Bool,Ed w x=b->J88 [.bool b] ((b1,.cells (Value.cells x.v) 35 zZ)::gS sp c kp mb nx es ck C):=λb hb=>by
  refine h88 _ _ λ_=>?_;cases b;rotate_left
  ·exact Br.yes (JE.mk (S6 true (by rw[hb];rfl)))
  refine Br.no (ae.has (m:=64) hw zD (Split.mk (λe=>?_) (λe=>?_)))
  ·refine Ld.f (v:=i64 x.c) (aE.of rfl zK (aa.eq (args:=#[i64 x.c]) (KB x.c _) (Un.not (aH.mk (JE.mk (S6 _ ?_))))));rw[hb];unfold GC;rw[e];rfl
  refine aH.mk (JE.mk (S6 false ?_));rw[hb];unfold GC;rw[e];rfl
 refine ae.has (m:=32) hw zD (Split.mk (λe=>?_) (λe=>?_))
 ·refine Ld.f (v:=i64 x.a) (aE.of rfl zK (aa.eq (args:=#[i64 x.a]) (KB x.a _) (Un.not (aH.mk (JE.mk (k88 _ ?_))))));unfold Ed;rw[e];rfl
 refine aH.mk (JE.mk (k88 false ?_));unfold Ed;rw[e];rfl
end
end
section
open au
section
theorem Ds{n:Int}(hn:n<0\/64<n)(B:Hp):Rd zQ 28 #[iv n] B (· =.tuple #[.slice none 0 0,iv 1]):=by
 refine aI λg=>Av (ae.lss (cS.or (a:=decide (n<0)) (decide (64<n)) (λ_=>ae.gtr ⟨rfl,rfl⟩) rfl λ_=>?_));rw[<-xa4,xam hn];exact Br.yes (bc.mk (.refl _) rfl)
theorem Zh{n cap:Int}(hb:n<1\/64<n\/cap<2\/1048576<cap):Rd zQ 19 #[i64 n,i64 cap] [] (· =.tuple #[.pointer none,i64 1]):=by
 refine aI λg=>Ax ?_;by_cases hn:n<0\/64<n
 ·refine aa.eq (Ds hn _) (Ext.two (ae.cD (cS.or true (λh=>absurd h zD) rfl λgs=>?_)));refine cS.or true (λh=>absurd h zD) rfl λgs=>?_;refine cS.or true (λh=>absurd h zD) rfl λgs=>Br.yes ?_;exact bc.mk (.refl _) rfl
 obtain⟨m,rfl⟩:∃m:Nat,n=m:=⟨n.toNat,by omega⟩;refine aa.fq (tM (n:=m) zO) ?_;rintro v CO ⟨s,rfl,hO⟩;refine Ext.two (ae.cD (cS.or (decide ((m:Int)<1)) (λ_=>ae.lss ⟨rfl,rfl⟩) rfl λgs=>?_));refine cS.or (decide (cap<2)) (λ_=>ae.lss ⟨rfl,rfl⟩) rfl λgs=>?_;refine cS.or (decide (1048576<cap)) (λ_=>ae.gtr ⟨rfl,rfl⟩) rfl λgs=>?_;exact Br.UE (by simp only[xbs,xaJ];omega) (bc.mk (λ_ _ h=>h.bg) rfl)
structure uS where
 n:Int
 cap:Int
 str:Nat
 gr:Int
 rs:Int
def uS.cells(c:uS):List zV:=[i64 c.n,i64 c.cap,.int .u8 (c.str:Int),i64 c.gr,i64 c.rs]
theorem uS.one(c:uS):∀u∈c.cells,u.oneCell'=true:=λu hu=>by
 simp only[uS.cells,xak,xaR,xbD]at hu;rcases hu with rfl|rfl|rfl|rfl|rfl<;>rfl
def gZ(c:uS):Bool:=decide (6<c.str)||decide (c.gr<100)||decide (1000<c.gr)||decide (c.rs<0)||decide (16<c.rs)
def iO(c:uS):Bool:=decide (c.n<1\/64<c.n\/c.cap<2\/1048576<c.cap)
def gO(c:uS):Int:=if gZ c=true then 1 else if iO c=true then 1 else if c.str=6/\12<c.n then 6 else 0
structure Cf.Ok(c:Cf):Prop where
 n:1<=c.n/\c.n<=64
 cap:2<=c.cap/\c.cap<=1048576
 str:c.str<=6
 gr:100<=c.gr/\c.gr<=1000
 rs:c.rs<=16
 ex:c.str=6->c.n<=12
def Cf.i(c:Cf):uS:=⟨c.n,c.cap,c.str,c.gr,c.rs⟩
theorem VH{c:uS}(h:gO c=0):∃d:Cf,c=d.i/\d.Ok:=by
 unfold gO at h;split at h
 ·cases h
 rename_i h1;split at h
 ·cases h
 rename_i h2;split at h
 ·cases h
 rename_i h3;simp only[gZ,iO,xbs,xaJ]at h1 h2;obtain⟨n,cap,str,gr,rs⟩:=c;simp only at h1 h2 h3;exact⟨⟨n.toNat,cap.toNat,str,gr.toNat,rs.toNat⟩,by simp only[Cf.i,uS.mk.injEq];exact⟨by omega,by omega,trivial,by omega,by omega⟩,⟨by simp only;omega,by simp only;omega,by simp only;omega,by simp only;omega,by simp only;omega,λe=>by simp only at e⊢;omega⟩⟩
theorem ve(c:uS){Q:zV->Hp->Prop}(hno:gO c≠0->Q (.tuple #[.pointer none,i64 (gO c)]) [])
 (hok:∀d:Cf,c=d.i->d.Ok->∀(sp kp mb:Nat) (C:Hp),bP kp (K0 d.n d.cap) S0 (List.range d.n) (List.range d.n) [] C->Q (.tuple #[ptr sp,i64 0]) (gS sp d kp mb 0 #[] 0 C)):
  Fc zQ 7 #[.agg c.cells.toArray] [] Q:=by
 refine aI λg=>T2 λb1 _ J3 h3=>?_;have jt:gZ c=true->J3 [.bool true] [(b1,.cells (Value.cells (.agg c.cells.toArray)) 23 zZ)]:=λhb=>by
  refine h3 _ _ λ_=>Br.yes ?_;have e:gO c=1:=by unfold gO;rw[xad hb]
  rw[e]at hno;exact aN.mk .tail (hno zD)
 have jf:gZ c=false->J3 [.bool false] [(b1,.cells (Value.cells (.agg c.cells.toArray)) 23 zZ)]:=λhb=>by
  refine h3 _ _ λ_=>Br.no ?_;refine Ld.f (v:=i64 c.n) (Ld.f (v:=i64 c.cap) ?_);cases tN:iO c;rotate_left
  ·refine aa.eh hnew (Zh (by simpa[iO]using tN)) (Ext.two (ae.cD (Br.T ?_)));have e:gO c=1:=by unfold gO;rw[hb,xab zD,xad tN]
   rw[e]at hno;exact aN.mk .tail (hno zD)
  simp only[iO,xbp]at tN;simp only[gZ,xaG,xbp]at hb;obtain⟨m,hm⟩:∃m:Nat,c.n=m:=⟨c.n.toNat,by omega⟩;obtain⟨q,hq⟩:∃q:Nat,c.cap=q:=⟨c.cap.toNat,by omega⟩;rw[hm,hq];refine aa.fn hnew (Zg (n:=m) (cap:=q) zO zO) ?_;rintro w C ⟨kp,rfl,hK⟩;refine Ext.two (ae.cD (Br.F (Ld.u (v:=.int .u8 (c.str:Int)) (xac _ (.head _)) ?_)));refine ae.dx (b:=6) (cS.and (decide (12<c.n)) (λ_=>?_) rfl λgs=>?_)
  ·exact Ld.u (v:=i64 c.n) (xac _ (.head _)) (ae.gtr ⟨rfl,rfl⟩)
  rw[<-xd3];refine Br.dec (λh6=>?_) (λh6=>?_)
  ·have e:gO c=6:=by
    unfold gO;rw[xab (by simp only[gZ,xbs,xaJ];omega),xab (by simp only[iO,xaJ];omega),xad h6]
   rw[e]at hno;exact aN.mk (λ_ _ h=>h.bg) (hno zD)
  have e:gO c=0:=by
   unfold gO;rw[xab (by simp only[gZ,xbs,xaJ];omega),xab (by simp only[iO,xaJ];omega),xab h6]
  obtain⟨d,rfl,hd⟩:=VH e;have em:m=d.n:=by simp only[Cf.i]at hm;omega
  have eq:q=d.cap:=by simp only[Cf.i]at hq;omega
  subst em eq;refine az.whole (r:=d.i.cells) (xac _ (.head _)) rfl ?_;intro mb _;refine Build.mk (cs:=d.cells++[ptr kp,.map (some mb),i64 ((0:Nat):Int)]) zK λsp _=>?_;refine aN.mk ?_ (hok d rfl hd sp kp mb C hK);exact .cons (.cons .left)
 refine Ld.f (v:=.int .u8 (c.str:Int)) (ae.nE (b:=6) (Br.dec (λh=>by rw[xam h];exact JE.mk (jt (by simp[gZ,h]))) (λh1=>?_)));refine Ld.f (v:=i64 c.gr) (ae.lss (Br.dec (λh=>by rw[xam h];exact JE.mk (jt (by simp[gZ,h]))) (λh2=>?_)));refine Ld.f (v:=i64 c.gr) (ae.gtr (Br.dec (λh=>by rw[xam h];exact JE.mk (jt (by simp[gZ,h]))) (λzx=>?_)));refine Ld.f (v:=i64 c.rs) (ae.lss (Br.dec (λh=>by rw[xam h];exact JE.mk (jt (by simp[gZ,h]))) (λh4=>?_)));refine Ld.f (v:=i64 c.rs) (ae.gtr ?_);cases hb:decide (16<c.rs)
 ·exact JE.mk (jf (by simp only[gZ,hb,xal h1,xal h2,xal zx,xal h4];rfl))
 exact JE.mk (jt (by simp only[gZ,hb,xdJ]))
end
section
variable {sp kp mb nx:Nat} {c:Cf} {K:Kd} {S:Nat->au.Fn} {ord ah tr:zL} {hs:List (Int×Nat)} {es:Array MapEntry} {ck:Nat} {C:Hp}
theorem Q2{κ β:Type}[DecidableEq κ]{m:List (κ×β)}{k:κ}{x:β}(h:k∉m.map Prod.fst):eo m k x=m++[(k,x)]:=by
 unfold eo;rw[xab h]
theorem zw(hE:aF (kI .i64) (λv (r:Nat)=>v=u32 r) es ck hs)(hk:(nx:Int)∉hs.map Prod.fst)(EG:nx+1<9223372036854775808)(r:Nat)(t:Int):
  Fc zQ 44 #[ptr sp,u32 r,i64 t] (gS sp c kp mb nx es ck C) (λv H=>v=eR 0 nx 0 t/\∃es' bB,H=gS sp c kp mb (nx+1) es' bB C/\aF (kI .i64) (λv (r:Nat)=>v=u32 r) es' bB (hs++[((nx:Int),r)])):=by
 refine aI λg=>OO λb1 _=>?_;refine Ld.n (v:=i64 (nx:Int)) (Ld.n (v:=i64 (nx:Int)) (ae.inc (Nil.ptr (ai.mk (St.one (c':=(c.cells++[ptr kp,.map (some mb),i64 ((nx+1:Nat):Int)]).toArray) (by exact .tail (.head _)) rfl (by simp[Cf.cells]) rfl ?_)))));refine Ld.n (v:=.map (some mb)) (hE.bK (k:=(nx:Int)) (b:=mb) (x:=r) (cf _) (Ba _) rfl λes' bB he=>⟨_,.tail (.tail (.head _)),?_⟩);rw[Q2 hk]at he;refine Build.mk (cs:=[i64 0,i64 (nx:Int),u64 0,i64 t]) zK (St.p (bI _ _ _ _) ?_);refine az.q ?_;exact aN.mk .tail ⟨rfl,es',bB,rfl,he⟩
def df(op:Nat):Option (Nat×Nat):=
 if op=11 then some (21,42)else if op=10 then some (129,41)else if op=9 then some (129,40)else if op=8 then some (81,39)else
 if op=7 then some (7,38)else if op=6 then some (3,37)else if op=5 then some (3,36)else if op=4 then some (3,35)else
 if op=3 then some (1,34)else if op=2 then some (32,33)else if op=1 then some (8,32)else none
def Kw(p:Nat×Nat):List zV:=[.int .u8 (p.1:Int),.func (.func p.2) #[] #[]]
theorem MM:Fc zQ 21 #[] [] (λv H=>∃b es ck m,v=.map (some b)/\H=[(b,.map es ck)]/\aF (kI .u8) (λv (p:Nat×Nat)=>v=.agg (Kw p).toArray) es ck m/\∀op:Nat,aG m (op:Int)=df op):=by
 refine aI λg=>O7 λb _=>?_;have bK:∀{k:Int} {p:Nat×Nat} {es:Array MapEntry} {ck:Nat} {m:List (Int×(Nat×Nat))} {Q:Hp->Prop},aF (kI .u8) (λv (p:Nat×Nat)=>v=.agg (Kw p).toArray) es ck m->(∀es' bB,aF (kI .u8) (λv (p:Nat×Nat)=>v=.agg (Kw p).toArray) es' bB (eo m k p)->Q [(b,.map es' bB)])->
   Build zQ 63 [(0,.int .u8 (p.1:Int)),(1,.func (.func p.2) #[] #[])] λv=>aW (.int .u8) [(b,.map es ck)] (.map (some b)) (kI .u8 k) v Q:=λ{k p es ck m Q} he hq=>by
  exact Build.mk (cs:=Kw p) zK (aF.bK (cf _) (Ba _) he rfl λes' bB he'=>⟨_,.head _,hq es' bB he'⟩)
 refine bK (k:=1) (p:=(8,32)) aF.empty λ_ _ h=>?_;refine bK (k:=2) (p:=(32,33)) h λ_ _ h=>?_;refine bK (k:=3) (p:=(1,34)) h λ_ _ h=>?_;refine bK (k:=4) (p:=(3,35)) h λ_ _ h=>?_;refine bK (k:=5) (p:=(3,36)) h λ_ _ h=>?_;refine bK (k:=6) (p:=(3,37)) h λ_ _ h=>?_;refine bK (k:=7) (p:=(7,38)) h λ_ _ h=>?_;refine bK (k:=8) (p:=(81,39)) h λ_ _ h=>?_;refine bK (k:=9) (p:=(129,40)) h λ_ _ h=>?_;refine bK (k:=10) (p:=(129,41)) h λ_ _ h=>?_;refine bK (k:=11) (p:=(21,42)) h λ_ _ h=>?_;refine aN.mk (.refl _) ⟨b,_,_,_,rfl,rfl,h,λop=>?_⟩;simp only[bL];have:∀j:Nat,((op:Int)=(j:Int))=(op=j):=λj=>propext zO;have e:=this 11;have e2:=this 10;have e3:=this 9;have e4:=this 8;have e5:=this 7;have e6:=this 6;have e7:=this 5;have e8:=this 4;have e9:=this 3;have e10:=this 2;have e11:=this 1
 simp only[Int.cast_ofNat_Int]at*;simp only[e,e2,e3,e4,e5,e6,e7,e8,e9,e10,e11];rfl
end
section
variable {sp kp mb nx:Nat} {c:Cf} {K K':Kd} {S S':Nat->au.Fn} {ord ah bR tr cE o:zL} {hs:List (Int×Nat)} {es:Array MapEntry} {ck:Nat} {C C':Hp}
theorem Kept.const(hK:bP kp K S ord ah tr C)(cZ:bP kp K' S' o bR cE C')(r:Nat)(hr:r<2):S' r=S r:=by
  have h1:=hK.ok.mid.int;have h2:=cZ.ok.mid.int;have:r=0\/r=1:=by omega
  rcases this with rfl|rfl
  · exact funext λx=>by rw[h1.zero,h2.zero]
  · exact funext λx=>by rw[h1.one,h2.one]
theorem ia.kept(h:ia kp nx c K S ord ah tr hs es ck C)(cZ:bP kp K' S' o bR cE C')(hk:Kept K S K' S'):ia kp nx c K' S' o bR cE hs es ck C'/\∀p∈hs,S' p.2=S p.2:=by
  have hh:∀p∈hs,2<=p.2->K.hold p.2≠0:=λp hp h2=>by
    rw[h.hold,xad h2];exact xdp (xbN.2 (xaT hp))
  refine⟨⟨cZ,hk.n.trans h.n,hk.cap.trans h.cap,h.dN,λp hp=>?_,λr=>by rw[hk.hold,h.hold],h.lt⟩,λp hp=>?_⟩
  · by_cases h2:2<=p.2
    · exact .inr (cZ.ok.mid.held p.2 (by rw[hk.hold];exact hh p hp h2))
    · exact .inl zO
  · by_cases h2:2<=p.2
    · exact hk.fn _ (hh p hp h2)
    · exact Kept.const h.ks cZ _ zO
theorem ia.key(h:ia kp nx c K S ord ah tr hs es ck C):(nx:Int)∉hs.map Prod.fst:=λhm=>by
  obtain⟨p,hp,e⟩:=xan.1 hm;have:=h.lt p hp;omega
theorem ia.grow(h:ia kp nx c K S ord ah tr hs es ck C){f:au.Fn}{r:Nat}{es':Array MapEntry}{bB:Nat}(cZ:bP kp K' S' o bR cE C')(hg:fY K S K' S' f r)(he:aF (kI .i64) (λv (r:Nat)=>v=u32 r) es' bB (hs++[((nx:Int),r)])):
    ia kp (nx+1) c K' S' o bR cE (hs++[((nx:Int),r)]) es' bB C'/\∀p∈hs,S' p.2=S p.2:=by
  refine⟨⟨cZ,hg.n.trans h.n,hg.cap.trans h.cap,he,λp hp=>?_,λs=>?_,λp hp=>?_⟩,λp hp=>hg.fn _ (h.live p hp)⟩
  · rcases xao.1 hp with hp|hp
    · exact bu hg.N (h.live p hp)
    · rw[xaw.1 hp];exact hg.live
  · rw[hg.hold,h.hold,xaB,xbf]
    by_cases e:s=r
    · subst e
      by_cases h2:2<=s
      · simp[h2]
      · simp[h2]
    · have:List.count s (List.map Prod.snd [((nx:Int),r)])=0:=by
        simp only[xay,xcl,xdI,xaw];exact e
      have e2:(if s=r/\2<=r then 1 else 0)=0:=xab λh=>e h.1;rw[this,e2];split<;>rfl
  · rcases xao.1 hp with hp|hp
    · have:=h.lt p hp;omega
    · rw[xaw.1 hp];simp only;omega
def nG(kp:Nat)(K:Kd)(S:Nat->au.Fn)(ord ah tr:zL)(f:au.Fn)(T:Nat->Prop)(w:zV)(H:Hp):Prop:=
  (∃r K' S',w=.tuple #[u32 r,i64 0]/\bP kp K' S' ord ah [] H/\fY K S K' S' f r/\T 0)\/
  (∃(e:Nat) (K':Kd) (S':Nat->au.Fn) (cE:zL),w=.tuple #[u32 0,i64 e]/\(e=8\/e=9)/\bP kp K' S' ord ah cE H/\(cE=[]\/cE=tr)/\Kept K S K' S'/\T e)
theorem nG.two{f:au.Fn}{T:Nat->Prop}{w:zV}{H:Hp}(h:nG kp K S ord ah tr f T w H):∃x y,w=.tuple #[x,y]:=by
  rcases h with⟨r,_,_,rfl,_⟩|⟨e,_,_,_,rfl,_⟩
  · exact⟨_,_,rfl⟩
  · exact⟨_,_,rfl⟩
inductive xm(T:zL->Nat->Prop)(R:zL->zL->Prop)(o:zL):Nat->zL->Prop
  |one:xm T R o 1 o
  |more {t:Nat} {p ls:zL}:xm T R o t p->T p 9->R p ls->xm T R o (t+1) (ay p ls)
def Lt(sp kp mb nx:Nat)(c:Cf)(S:Nat->au.Fn)(sz:zL->Nat)(ord tr:zL)(hs:List (Int×Nat))(f:au.Fn)(T:zL->Nat->Prop)(R:zL->zL->Prop)(v:zV)(H:Hp):Prop:=
  ∃(t:Nat) (o bR cE:zL) (K':Kd) (S':Nat->au.Fn) (es':Array MapEntry) (bB:Nat) (C':Hp),t<=c.rs+1/\xm T R ord t o/\(∀p∈hs,S' p.2=S p.2)/\
    ((∃r,v=eR 0 nx 0 t/\H=gS sp c kp mb (nx+1) es' bB C'/\ia kp (nx+1) c K' S' o bR cE (hs++[((nx:Int),r)]) es' bB C'/\S' r=f/\T o 0/\cE=[])\/
     (∃e:Nat,(e=8\/e=9)/\v=eR e (-1) 0 t/\H=gS sp c kp mb nx es' bB C'/\ia kp nx c K' S' o bR cE hs es' bB C'/\T o e/\(e=9->t=c.rs+1)/\cE.length+66*sz o<=tr.length+66*sz ord))
theorem VP{f w:Nat}{x:dD}{fn:au.Fn}{T:zL->Nat->Prop}{R:zL->zL->Prop}(fO:aU zQ f=true)(h:ia kp nx c K S ord ah tr hs es ck C)(hc:c.Ok)(EG:nx+1<9223372036854775808)(hw:w<256)(hx:x.x<18446744073709551616)(hl:kK c.n hs w x=0)
   (KI:∀{K':Kd} {S':Nat->au.Fn} {o bR cE:zL} {C':Hp},ia kp nx c K' S' o bR cE hs es ck C'->(∀p∈hs,S' p.2=S p.2)->Fc zQ f #[ptr sp,x.v] (gS sp c kp mb nx es ck C') (λv H=>∃C2,H=gS sp c kp mb nx es ck C2/\nG kp K' S' o bR cE fn (T o) v C2))
   (hrun:∀{K':Kd} {S':Nat->au.Fn} {o bR cE:zL} {C':Hp},T o 9->ia kp nx c K' S' o bR cE hs es ck C'->(∀p∈hs,S' p.2=S p.2)->cE.length<=tr.length+66*cG K S ord->
      Fc zQ 45 #[ptr kp,.int .u8 (c.str:Int),i64 c.gr] C' (λv H=>∃ls a b,v=.tuple #[a,b]/\R o ls/\At kp K' S' (ay o ls) (cE++ls) H/\ls.length+66*cG K' S' (ay o ls)<=66*cG K' S' o)):
    Fc zQ 22 #[ptr sp,x.v,.agg (Kw (w,f)).toArray] (gS sp c kp mb nx es ck C) (Lt sp kp mb nx c S (cG K S) ord tr hs fn T R):=by
  refine aI λg=>Aw λb1 _ b3 _ b5 _=>?_;refine az.q (r:=x.cells) (Ld.f (v:=.int .u8 (w:Int)) (aa.eq (look_ok h hw hx) ?_));rw[hl];refine ae.cD (Br.F ?_);refine⟨λvs H=>∃(t:Nat) (o bR cE:zL) (K':Kd) (S':Nat->au.Fn) (C':Hp),vs=[i64 (t:Int)]/\t<=c.rs+1/\H=(b5,.cells #[i64 0,i64 0,u64 0,i64 0] 37 zZ)::(b3,.cells (Kw (w,f)).toArray 63 zZ)::(b1,.cells x.cells.toArray 35 zZ)::gS sp c kp mb nx es ck C'/\
      ia kp nx c K' S' o bR cE hs es ck C'/\Kept K S K' S'/\xm T R ord t o/\cE.length+66*cG K S o<=tr.length+66*cG K S ord,λvs _=>20-bN vs 0,JE.mk ⟨1,ord,ah,tr,K,S,C,rfl,by omega,rfl,h,.refl _ _,.one,xaj _⟩,?_⟩
  rintro w0 H ⟨t,o,ab8,XF,K1,S1,C1,⟨⟩,ht,rfl,h1,uA,hT,hb⟩ gs;have Du:=hc.rs;have hsame:=(h.kept h1.ks uA).2;refine Ld.f (v:=.func (.func f) #[] #[]) (az.q (r:=x.cells) (aE.of rfl fO (aa.fq (args:=#[ptr sp,x.v]) (KI h1 hsame) ?_)));rintro w H ⟨C2,rfl,hQ⟩;rcases hQ with⟨r,K2,S2,rfl,cT,hg,h0⟩|⟨e,K2,S2,Ez,rfl,he,cT,uv,rK,Uv⟩
  · refine Ext.two (ae.gJ (Br.T (aa.fq (zw h1.dN h.key EG r t) ?_)))
    rintro w H ⟨rfl,gV,iE,rfl,hE⟩;refine St.p (r:=[i64 0,i64 nx,u64 0,i64 t]) (bI _ _ _ _) ?_;refine az.q ?_;obtain⟨h3,h4⟩:=h1.grow cT hg hE;exact aN.mk (.skip (.skip .tail)) ⟨t,o,ab8,[],K2,S2,gV,iE,C2,ht,hT,λp hp=>(h4 p hp).trans (hsame p hp),.inl ⟨r,rfl,rfl,h3,hg.is,h0,rfl⟩⟩
  · obtain⟨h3,h4⟩:=h1.kept cT rK
    have tN:Ez.length+66*cG K S o<=tr.length+66*cG K S ord:=by
      rcases uv with rfl|rfl
      · rw[xce];omega
      · exact hb
    have fin:(e=9->t=c.rs+1)->Lt sp kp mb nx c S (cG K S) ord tr hs fn T R (eR e (-1) 0 t) (gS sp c kp mb nx es ck C2):=λhet=>
      ⟨t,o,ab8,Ez,K2,S2,es,ck,C2,ht,hT,λp hp=>(h4 p hp).trans (hsame p hp),.inr ⟨e,he,rfl,rfl,h3,Uv,het,tN⟩⟩
    refine Ext.two (ae.gJ (Br.F (ae.cD (cS.or (decide (c.rs<t)) (λ_=>?_) rfl λgs=>?_))))
    · exact Nil.ptr (ai.mk (Ld.f (v:=i64 c.rs) (ae.nE ⟨rfl,rfl⟩)))
    rw[<-xa4];refine Br.dec (λKG=>?_) (λKG=>?_)
    · refine aa.eq (cy e _) λb44 _=>?_
      refine St.p (r:=[i64 e,i64 (-1),u64 0,i64 0]) (bI _ _ _ _) ?_;refine ai.mk (St.one (c':=#[i64 e,i64 (-1),u64 0,i64 t]) (by exact .head _) rfl zI rfl ?_);refine az.q (r:=[i64 e,i64 (-1),u64 0,i64 t]) (St.p (bI _ _ _ _) ?_);refine az.q ?_;exact aN.mk (.skip (.skip (.skip .tail))) (fin λ_=>by omega)
    · have he9:e=9:=by omega
      subst he9;refine DR.of (R:=(b5,.cells #[i64 0,i64 0,u64 0,i64 0] 37 zZ)::(b3,.cells (Kw (w,f)).toArray 63 zZ)::(b1,.cells x.cells.toArray 35 zZ)::gS sp c kp mb nx es ck C2) (.refl _) (Ld.n (v:=ptr kp) (Nil.ptr (ai.mk (Ld.f (v:=.int .u8 (c.str:Int)) (Nil.ptr (ai.mk (Ld.f (v:=i64 c.gr) λF=>?_)))))));refine aa.fq (hrun Uv h3 (λp hp=>(h4 p hp).trans (hsame p hp)) zO) ?_;rintro w2 H2 ⟨ls,a,b,rfl,hR,hA,hlen⟩;refine ae.inc ?_;obtain⟨K3,S3,afR,jZ,pO⟩:=hA;obtain⟨h5,h6⟩:=h3.kept jZ pO;rw[rH (uA.trans rK),rH (uA.trans rK)]at hlen;refine aC.mk ⟨t+1,ay o ls,afR,Ez++ls,K3,S3,H2,rfl,by omega,rfl,h5,(uA.trans rK).trans pO,.more hT Uv hR,by rw[xaf];omega⟩ (by simp only[bN];omega)
end
def HF(L:List au.Fn)(g:au.Fn):Prop:=g∈L/\∃v,bU g v
noncomputable def mh(L:List au.Fn)(f:au.Fn):Nat:=L.countP λg=> @decide (g=f) (Classical.propDecidable _)
def nt(L:List au.Fn)(f:au.Fn):Prop:=(∃v,bU f v)/\65535<=mh L f
def Tx(n cap:Nat)(L:List au.Fn)(f:au.Fn)(ord:zL)(e:Nat):Prop:=
 (e=0/\Fits (aD n ord (λg=>HF L g\/g=f)) cap/\¬nt L f)\/(e=9/\¬Fits (aD n ord (λg=>HF L g\/g=f)) cap)\/(e=8/\nt L f)
def Xy(n cap:Nat)(L:List au.Fn)(q:Bool)(mask:Nat)(f:au.Fn)(ord:zL)(i:Nat):Prop:=
 Fits (aD n ord (λg=>(HF L g\/(bitsOf mask i≠[]/\g=nI q (bitsOf mask i) f))\/g=qf q i (nI q (bitsOf mask i) f))) cap
def T6(L:List au.Fn)(q:Bool)(mask:Nat)(f:au.Fn)(i:Nat):Prop:=
 (∃v,bU (qf q i (nI q (bitsOf mask i) f)) v)/\65534<=mh L (qf q i (nI q (bitsOf mask i) f))/\((bitsOf mask i≠[]/\qf q i (nI q (bitsOf mask i) f)=nI q (bitsOf mask i) f)\/65535<=mh L (qf q i (nI q (bitsOf mask i) f)))
def Lz(n cap:Nat)(L:List au.Fn)(q:Bool)(mask:Nat)(f:au.Fn)(ord:zL)(i:Nat):Prop:=∀j,j<i->mask.testBit j=true->Xy n cap L q mask f ord j/\¬T6 L q mask f j
def pW(n cap:Nat)(L:List au.Fn)(q:Bool)(mask:Nat)(f:au.Fn)(ord:zL)(e:Nat):Prop:=
 (e=0/\(mask=0->¬nt L f)/\Lz n cap L q mask f ord n)\/
 (e=9/\∃i,i<n/\mask.testBit i=true/\¬Xy n cap L q mask f ord i/\Lz n cap L q mask f ord i)\/
 (e=8/\((mask=0/\nt L f)\/∃i,i<n/\mask.testBit i=true/\T6 L q mask f i/\Lz n cap L q mask f ord i))
def F1(n cap:Nat)(L:List au.Fn)(ord:zL)(lo:au.Fn):Prop:=Fits (aD n ord (λg=>HF L g\/g=lo)) cap
def F2(n cap:Nat)(L:List au.Fn)(ord:zL)(lo hi:au.Fn):Prop:=Fits (aD n ord (λg=>(HF L g\/g=lo)\/g=hi)) cap
def F3(n cap:Nat)(L:List au.Fn)(ord:zL)(lo hi f:au.Fn):Prop:=Fits (aD n ord (λg=>((HF L g\/g=lo)\/g=hi)\/g=f)) cap
def U1(L:List au.Fn)(lo:au.Fn):Prop:=(∃v,bU lo v)/\mh L lo=65535
def U2(L:List au.Fn)(lo hi:au.Fn):Prop:=(∃v,bU hi v)/\2<=mh L hi/\∃a,One (hi=lo) a/\mh L hi+a=65535
def U3(L:List au.Fn)(lo hi f:au.Fn):Prop:=(∃v,bU f v)/\2<=mh L f/\∃a b,One (f=lo) a/\One (f=hi) b/\mh L f+a+b=65535
def wQ(n cap:Nat)(L:List au.Fn)(lo hi f:au.Fn)(ord:zL)(e:Nat):Prop:=
 (e=0/\(F1 n cap L ord lo/\¬U1 L lo)/\(F2 n cap L ord lo hi/\¬U2 L lo hi)/\F3 n cap L ord lo hi f/\¬U3 L lo hi f)\/
 (e=9/\(¬F1 n cap L ord lo\/((F1 n cap L ord lo/\¬U1 L lo)/\¬F2 n cap L ord lo hi)\/((F1 n cap L ord lo/\¬U1 L lo)/\(F2 n cap L ord lo hi/\¬U2 L lo hi)/\¬F3 n cap L ord lo hi f)))\/
 (e=8/\(U1 L lo\/((F1 n cap L ord lo/\¬U1 L lo)/\U2 L lo hi)\/((F1 n cap L ord lo/\¬U1 L lo)/\(F2 n cap L ord lo hi/\¬U2 L lo hi)/\U3 L lo hi f)))
theorem VM{L:List au.Fn}{g:au.Fn}(h:0<mh L g):g∈L:=by
 obtain⟨a,h1,h2⟩:=List.countP_pos_iff.1 h;have:a=g:=by simpa using h2
 exact this▸h1
section
variable {kp:Nat} {K K':Kd} {S S':Nat->au.Fn} {ord ah bR tr cE o:zL} {C C':Hp} {L:List au.Fn}
structure cK(K:Kd)(S:Nat->au.Fn)(L:List au.Fn):Prop where
 held:K.held S=HF L
 count:∀r,live K.N r->2<=r->K.hold r=mh L (S r)
 all:∀g,g∈L->∃r,live K.N r/\S r=g
theorem cK.fits(h:cK K S L)(hK:bP kp K S ord ah tr C):Fits (aD K.n ord (HF L)) K.cap:=by
 have hc:=hK.ok.size hK.od;have hr:=hK.ok.mid.room;have h2:=hK.ok.mid.cap;rw[<-h.held];exact⟨K.used-2,hc,by omega⟩
theorem cK.find(h:cK K S L)(hK:bP kp K S ord ah tr C){g:au.Fn}(hv:∃v,bU g v)(hc:0<mh L g):∃x,2<=x/\live K.N x/\S x=g/\K.hold x=mh L g:=by
 obtain⟨x,hl,rfl⟩:=h.all g (VM hc);have h2:=(ct hK hl).2 hv;exact⟨x,h2,hl,rfl,h.count x hl h2⟩
theorem cK.Yq(h:cK K S L)(hK:bP kp K S ord ah tr C){r:Nat}(hr:live K.N r):(2<=r/\K.hold r=65535)↔nt L (S r):=by
 constructor
 ·rintro⟨h2,he⟩;exact⟨(ct hK hr).1 h2,by rw[<-h.count r hr h2,he];exact xaj _⟩
 rintro⟨hv,hc⟩;have h2:=(ct hK hr).2 hv;have:=h.count r hr h2;have:=hK.dR r;exact⟨h2,by omega⟩
theorem cK.Yp(h:cK K S L)(hK:bP kp K S ord ah tr C){q:Bool}{mask r i:Nat}:Lx K S q mask r i↔T6 L q mask (S r) i:=by
 constructor
 ·rintro⟨x,h2,hl,e,h3,h4⟩;have hc:=h.count x hl h2;rw[e]at hc;refine⟨by rw[<-e];exact(ct hK hl).1 h2,by omega,h4.imp (λh4=>⟨h4.1,by rw[<-e];exact h4.2⟩) λh4=>by omega⟩
 rintro⟨hv,h3,h4⟩;obtain⟨x,h2,hl,e,hc⟩:=h.find hK hv zO;have:=hK.dR x;exact⟨x,h2,hl,e,by omega,h4.imp (λh4=>⟨h4.1,by rw[e];exact h4.2⟩) λh4=>by omega⟩
theorem cK.ad1(h:cK K S L){q:Bool}{mask r i:Nat}:T7 K S ord q mask r i↔Xy K.n K.cap L q mask (S r) ord i:=by
 unfold T7 Xy;rw[h.held]
theorem cK.SY(h:cK K S L)(hK:bP kp K S ord ah tr C){q:Bool}{mask r i:Nat}:AB K S ord q mask r i↔Lz K.n K.cap L q mask (S r) ord i:=
 forall_congr' λj=>forall_congr' λ_=>forall_congr' λ_=>and_congr h.ad1 (xeA (h.Yp hK))
theorem cK.f1(h:cK K S L){lo:au.Fn}:UD K S ord lo↔F1 K.n K.cap L ord lo:=by unfold UD F1;rw[h.held]
theorem cK.f2(h:cK K S L){lo hi:au.Fn}:YF K S ord lo hi↔F2 K.n K.cap L ord lo hi:=by unfold YF F2;rw[h.held]
theorem cK.f3(h:cK K S L){lo hi f:au.Fn}:CF3 K S ord lo hi f↔F3 K.n K.cap L ord lo hi f:=by unfold CF3 F3;rw[h.held]
theorem One.le{p:Prop}{a:Nat}(h:One p a):a<=1:=by rcases h with⟨rfl,_⟩|⟨rfl,_⟩<;>omega
theorem cK.u1(h:cK K S L)(hK:bP kp K S ord ah tr C){lo:au.Fn}:XC K S lo↔U1 L lo:=by
 constructor
 ·rintro⟨x,h2,hl,rfl,hh⟩;exact⟨(ct hK hl).1 h2,by rw[<-h.count x hl h2,hh]⟩
 rintro⟨hv,hc⟩;obtain⟨x,h2,hl,e,hh⟩:=h.find hK hv zO;exact⟨x,h2,hl,e,by omega⟩
theorem cK.u2(h:cK K S L)(hK:bP kp K S ord ah tr C){lo hi:au.Fn}:CU2 K S lo hi↔U2 L lo hi:=by
 constructor
 ·rintro⟨x,a,h2,hl,ha,rfl,hh⟩;have:=h.count x hl h2;have:=ha.le;exact⟨(ct hK hl).1 h2,by omega,a,ha,by omega⟩
 rintro⟨hv,hc,a,ha,hh⟩;obtain⟨x,h2,hl,e,hx⟩:=h.find hK hv zO;exact⟨x,a,h2,hl,by rw[e];exact ha,e,by omega⟩
theorem cK.u3(h:cK K S L)(hK:bP kp K S ord ah tr C){lo hi f:au.Fn}:CU3 K S lo hi f↔U3 L lo hi f:=by
 constructor
 ·rintro⟨x,a,b,h2,hl,ha,hb,rfl,hh⟩;have:=h.count x hl h2;have:=ha.le;have:=hb.le;exact⟨(ct hK hl).1 h2,by omega,a,b,ha,hb,by omega⟩
 rintro⟨hv,hc,a,b,ha,hb,hh⟩;obtain⟨x,h2,hl,e,hx⟩:=h.find hK hv zO;exact⟨x,a,b,h2,hl,by rw[e];exact ha,by rw[e];exact hb,e,by omega⟩
theorem uh.to(h:cK K S L)(hK:bP kp K S ord ah tr C){q:Bool}{mask r:Nat}{w:zV}(hr:live K.N r)(hD:uh kp K S ord ah tr q mask r w C'):
  (∃x K' S',w=.tuple #[u32 x,iv 0]/\bP kp K' S' ord ah [] C'/\fY K S K' S' (nI q (bitsOf mask K.n) (S r)) x/\pW K.n K.cap L q mask (S r) ord 0)\/
  (∃(e:Nat) (K':Kd) (S':Nat->au.Fn) (cE:zL),w=.tuple #[u32 0,iv (e:Int)]/\(e=8\/e=9)/\bP kp K' S' ord ah cE C'/\(cE=[]\/cE=tr)/\Kept K S K' S'/\pW K.n K.cap L q mask (S r) ord e):=by
 rcases hD with⟨x,K',S',e1,h1,h2,h3,h4⟩|⟨e1,⟨K',S',cE,h1,h2,h3⟩,i,hi,hb,hf,hd⟩|⟨e1,⟨K',S',cE,h1,h2,h3⟩,h4⟩
 ·exact .inl ⟨x,K',S',e1,h1,h2,.inl ⟨rfl,λhz=>λhF=>h3 hz ((h.Yq hK hr).2 hF),(h.SY hK).1 h4⟩⟩
 ·exact .inr ⟨9,K',S',cE,e1,.inr rfl,h1,h2,h3,.inr (.inl ⟨rfl,i,hi,hb,λhF=>hf (h.ad1.2 hF),(h.SY hK).1 hd⟩)⟩
 refine .inr ⟨8,K',S',cE,e1,.inl rfl,h1,h2,h3,.inr (.inr ⟨rfl,?_⟩)⟩;rcases h4 with⟨hz,h4⟩|⟨i,hi,hb,hF,hd⟩
 ·exact .inl ⟨hz,(h.Yq hK hr).1 h4⟩
 exact .inr ⟨i,hi,hb,(h.Yp hK).1 hF,(h.SY hK).1 hd⟩
theorem LC.to(h:cK K S L)(hK:bP kp K S ord ah tr C){lo hi f:au.Fn}{w:zV}(hD:LC kp K S ord ah tr lo hi f w C'):
  (∃x K' S',w=.tuple #[u32 x,iv 0]/\bP kp K' S' ord ah [] C'/\fY K S K' S' f x/\wQ K.n K.cap L lo hi f ord 0)\/
  (∃(e:Nat) (K':Kd) (S':Nat->au.Fn) (cE:zL),w=.tuple #[u32 0,iv (e:Int)]/\(e=8\/e=9)/\bP kp K' S' ord ah cE C'/\(cE=[]\/cE=tr)/\Kept K S K' S'/\wQ K.n K.cap L lo hi f ord e):=by
 have a1:UD K S ord lo/\¬XC K S lo↔F1 K.n K.cap L ord lo/\¬U1 L lo:=and_congr h.f1 (xeA (h.u1 hK));have a2:YF K S ord lo hi/\¬CU2 K S lo hi↔F2 K.n K.cap L ord lo hi/\¬U2 L lo hi:=and_congr h.f2 (xeA (h.u2 hK));have a3:CF3 K S ord lo hi f/\¬CU3 K S lo hi f↔F3 K.n K.cap L ord lo hi f/\¬U3 L lo hi f:=and_congr h.f3 (xeA (h.u3 hK));rcases hD with⟨x,K',S',e1,h1,h2,h3,h4,h5⟩|⟨e1,⟨K',S',cE,h1,h2,h3⟩,h4⟩|⟨e1,⟨K',S',cE,h1,h2,h3⟩,h4⟩
 ·exact .inl ⟨x,K',S',e1,h1,h2,.inl ⟨rfl,a1.1 h3,a2.1 h4,a3.1 h5⟩⟩
 ·refine .inr ⟨9,K',S',cE,e1,.inr rfl,h1,h2,h3,.inr (.inl ⟨rfl,?_⟩)⟩;rcases h4 with h4|⟨b1,h4⟩|⟨b1,b2,h4⟩
  ·exact .inl λhF=>h4 (h.f1.2 hF)
  ·exact .inr (.inl ⟨a1.1 b1,λhF=>h4 (h.f2.2 hF)⟩)
  exact .inr (.inr ⟨a1.1 b1,a2.1 b2,λhF=>h4 (h.f3.2 hF)⟩)
 refine .inr ⟨8,K',S',cE,e1,.inl rfl,h1,h2,h3,.inr (.inr ⟨rfl,?_⟩)⟩;rcases h4 with h4|⟨b1,h4⟩|⟨b1,b2,h4⟩
 ·exact .inl ((h.u1 hK).1 h4)
 ·exact .inr (.inl ⟨a1.1 b1,(h.u2 hK).1 h4⟩)
 exact .inr (.inr ⟨a1.1 b1,a2.1 b2,(h.u3 hK).1 h4⟩)
end
section
def dy(n:Nat)(F:Int->au.Fn)(x:dD):au.Fn:=match x.op with
 |1=>λy=>y.testBit x.a.toNat
 |2=>λ_=>decide (x.a=1)
 |3=>λy=> !F x.a y
 |4=>λy=>F x.a y&&F x.b y
 |5=>λy=>F x.a y||F x.b y
 |6=>λy=>F x.a y^^F x.b y
 |7=>λy=>if F x.a y then F x.b y else F x.c y
 |8=>λy=>F x.a (ak.aB y x.b.toNat (decide (x.c=1)))
 |9=>nI true (bitsOf x.x n) (F x.a)
 |10=>nI false (bitsOf x.x n) (F x.a)
 |_=>λy=>if F x.c y then F x.a (ak.aB y x.b.toNat true)else F x.a (ak.aB y x.b.toNat false)
def lF(n cap:Nat)(L:List au.Fn)(F:Int->au.Fn)(x:dD)(ord:zL)(e:Nat):Prop:=
 if x.op=9 then pW n cap L true x.x (F x.a) ord e else if x.op=10 then pW n cap L false x.x (F x.a) ord e else
 if x.op=11 then wQ n cap L (λy=>F x.a (ak.aB y x.b.toNat false)) (λy=>F x.a (ak.aB y x.b.toNat true)) (dy n F x) ord e else Tx n cap L (dy n F x) ord e
def fL(S:Nat->au.Fn)(hs:List (Int×Nat)):List au.Fn:=hs.map λp=>S p.2
def bX(S:Nat->au.Fn)(hs:List (Int×Nat))(a:Int):au.Fn:=match aG hs a with|some r=>S r|none=>λ_=>false
variable {sp kp mb nx:Nat} {c:Cf} {K K':Kd} {S S':Nat->au.Fn} {ord ah bR tr cE o:zL} {hs:List (Int×Nat)} {es:Array MapEntry} {ck:Nat} {C C':Hp}
theorem W3(h:∀p∈hs,S' p.2=S p.2):fL S' hs=fL S hs:=xbh h
theorem bA{a:Int}{r:Nat}(h:aG hs a=some r):bX S hs a=S r:=by unfold bX;rw[h]
theorem ia.find(h:ia kp nx c K S ord ah tr hs es ck C){a:Int}{r:Nat}(hm:aG hs a=some r):(a,r)∈hs:=(dW h.dN.nd).1 hm
theorem No(fD:(hs.map Prod.fst).Nodup)(h:∀p∈hs,S' p.2=S p.2):bX S' hs=bX S hs:=funext λa=>by
 unfold bX;cases hm:aG hs a with
 |none=>rfl
 |some r=>exact h _ ((dW fD).1 hm)
theorem ia.same(h:ia kp nx c K S ord ah tr hs es ck C){a b:Nat}(ha:au.live K.N a)(hb:au.live K.N b):S a=S b↔a=b:=
 ⟨λe=>h.ks.ok.wf.same h.ks.ok.lv h.ks.ok.mid.int ha hb λx=>congrFun e x,λe=>by rw[e]⟩
theorem ia.held(h:ia kp nx c K S ord ah tr hs es ck C):K.held S=HF (fL S hs):=funext λg=>propext (by
 constructor
 ·rintro⟨s,hs0,rfl⟩;have h0:K.hold s≠0:=hs0;rw[h.hold]at h0;by_cases h2:2<=s
  ·rw[xad h2]at h0;obtain⟨p,hp,e⟩:=xan.1 (xbN.1 (xee h0));subst e;exact⟨xan.2 ⟨p,hp,rfl⟩,(ct h.ks (h.live p hp)).1 h2⟩
  rw[xab h2]at h0;exact absurd rfl h0
 rintro⟨hm,hv⟩;obtain⟨p,hp,rfl⟩:=xan.1 hm;have h2:=(ct h.ks (h.live p hp)).2 hv;refine⟨p.2,?_,rfl⟩;show K.hold p.2≠0;rw[h.hold,xad h2];exact xdp (xbN.2 (xaT hp)))
theorem ia.count(h:ia kp nx c K S ord ah tr hs es ck C){r:Nat}(hr:au.live K.N r)(h2:2<=r):K.hold r=mh (fL S hs) (S r):=by
 rw[h.hold,xad h2];unfold mh fL;rw[xeB,List.count,xeB];refine List.countP_congr λp hp=>?_;have:=h.same (h.live p hp) hr;simp only[Function.comp_apply,xcO,xaJ];exact this.symm
theorem ia.full(h:ia kp nx c K S ord ah tr hs es ck C){r:Nat}(hr:K.hold r=65535)(h2:2<=r):nt (fL S hs) (S r):=by
 have hl:au.live K.N r:=.inr (h.ks.ok.mid.held r zO);exact⟨(ct h.ks hl).1 h2,by rw[<-h.count hl h2,hr];exact xaj _⟩
theorem ia.done(h:ia kp nx c K S ord ah tr hs es ck C){f:au.Fn}{w:zV}(hD:j8 kp K S ord ah tr f w C'):nG kp K S ord ah tr f (Tx K.n K.cap (fL S hs) f ord) w C':=by
 rcases hD with(⟨x,K',S',rfl,cZ,hg⟩|⟨rfl,⟨K',S',cE,cZ,fh,hk⟩,hf⟩)|⟨rfl,⟨K',S',cE,cZ,fh,hk⟩,r,h2,hr,rfl⟩
 ·refine .inl ⟨x,K',S',rfl,cZ,hg,.inl ⟨rfl,by rw[<-h.held];exact hg.DT h.ks cZ,?_⟩⟩;rintro⟨hv,hc⟩;have FX:2<=x:=(ct cZ hg.live).2 (by rw[hg.is];exact hv);have hle:=cZ.dR x;rw[hg.hold,xad ⟨rfl,FX⟩]at hle;obtain⟨p,hp,e⟩:∃p∈hs,S p.2=f:=by
   have:0<mh (fL S hs) f:=by omega
   obtain⟨g,hg1,Uo⟩:=List.countP_pos_iff.1 this;obtain⟨p,hp,rfl⟩:=xan.1 hg1;exact⟨p,hp,by simpa using Uo⟩
  have hpx:p.2=x:=cZ.ok.wf.same cZ.ok.lv cZ.ok.mid.int (bu hg.N (h.live p hp)) hg.live λy=>by rw[hg.fn _ (h.live p hp),e,hg.is]
  subst hpx;have:=h.count (h.live p hp) FX;rw[e]at this;omega
 ·exact .inr ⟨9,K',S',cE,rfl,.inr rfl,cZ,fh,hk,.inr (.inl ⟨rfl,by rw[<-h.held];exact hf⟩)⟩
 exact .inr ⟨8,K',S',cE,rfl,.inl rfl,cZ,fh,hk,.inr (.inr ⟨rfl,h.full hr h2⟩)⟩
theorem ia.by(h:ia kp nx c K S ord ah tr hs es ck C):cK K S (fL S hs):=⟨h.held,λr hr h2=>h.count hr h2,λg hg=>by
 obtain⟨p,hp,rfl⟩:=xan.1 hg;exact⟨p.2,h.live p hp,rfl⟩⟩
theorem ia.each(h:ia kp nx c K S ord ah tr hs es ck C){q:Bool}{mask r:Nat}{w:zV}(hr:au.live K.N r)(hD:uh kp K S ord ah tr q mask r w C'):nG kp K S ord ah tr (nI q (bitsOf mask K.n) (S r)) (pW K.n K.cap (fL S hs) q mask (S r) ord) w C':=by
 rcases hD.to h.by h.ks hr with⟨x,K',S',rfl,cZ,hg,hT⟩|⟨e,K',S',cE,rfl,he,cZ,fh,hk,hT⟩
 ·exact .inl ⟨x,K',S',rfl,cZ,hg,hT⟩
 exact .inr ⟨e,K',S',cE,rfl,he,cZ,fh,hk,hT⟩
theorem ia.comp(h:ia kp nx c K S ord ah tr hs es ck C){lo hi f:au.Fn}{w:zV}(hD:LC kp K S ord ah tr lo hi f w C'):nG kp K S ord ah tr f (wQ K.n K.cap (fL S hs) lo hi f ord) w C':=by
 rcases hD.to h.by h.ks with⟨x,K',S',rfl,cZ,hg,hT⟩|⟨e,K',S',cE,rfl,he,cZ,fh,hk,hT⟩
 ·exact .inl ⟨x,K',S',rfl,cZ,hg,hT⟩
 exact .inr ⟨e,K',S',cE,rfl,he,cZ,fh,hk,hT⟩
end
section
variable {sp kp mb nx:Nat} {c:Cf} {K:Kd} {S:Nat->au.Fn} {ord ah tr:zL} {hs:List (Int×Nat)} {es:Array MapEntry} {ck:Nat} {C:Hp} {x:dD}
theorem NY(hK:bP kp K S ord ah tr C){a b:Nat}(ha:live K.N a)(hb:live K.N b):Fc zQ 66 #[ptr kp,u32 a,u32 b] C (j8 kp K S ord ah tr (λy=>S a y&&S b y)):=by
 refine aI λg=>OB (aa.fq (jF hK (op:=8) zD ha hb) ?_);intro w H hD;rw[show(λy=>XM 8 (S a y) (S b y))=λy=>S a y&&S b y from funext λy=>by cases S a y<;>cases S b y<;>rfl]at hD;obtain⟨x,e,rfl⟩:=hD.two;exact Ext.two (aN.here hD)
theorem TG(hK:bP kp K S ord ah tr C){a b:Nat}(ha:live K.N a)(hb:live K.N b):Fc zQ 67 #[ptr kp,u32 a,u32 b] C (j8 kp K S ord ah tr (λy=>S a y||S b y)):=by
 refine aI λg=>OA (aa.fq (jF hK (op:=14) zD ha hb) ?_);intro w H hD;rw[show(λy=>XM 14 (S a y) (S b y))=λy=>S a y||S b y from funext λy=>by cases S a y<;>cases S b y<;>rfl]at hD;obtain⟨x,e,rfl⟩:=hD.two;exact Ext.two (aN.here hD)
theorem NP(hK:bP kp K S ord ah tr C){a b:Nat}(ha:live K.N a)(hb:live K.N b):Fc zQ 68 #[ptr kp,u32 a,u32 b] C (j8 kp K S ord ah tr (λy=>S a y^^S b y)):=by
 refine aI λg=>Oz (aa.fq (jF hK (op:=6) zD ha hb) ?_);intro w H hD;rw[show(λy=>XM 6 (S a y) (S b y))=λy=>S a y^^S b y from funext λy=>by cases S a y<;>cases S b y<;>rfl]at hD;obtain⟨x,e,rfl⟩:=hD.two;exact Ext.two (aN.here hD)
theorem Ep(hK:bP kp K S ord ah tr C)(b:Bool):Fc zQ 64 #[ptr kp,.bool b] C (j8 kp K S ord ah tr (λ_=>b)):=by
 have hi:=hK.ok.mid.int;refine aI λg=>OD (ae.aL (Br.no ?_));intro J2 h2;have go:∀r:Nat,r<2->(S r=λ_=>b)->J2 [u32 r] C:=λr hr hf=>by
  refine h2 _ _ λ_=>?_;refine aa.fq (mR hK (r:=r) (.inl hr) (λh=>by omega)) ?_;rintro v H ⟨rfl,K',cZ,hm⟩;exact aN.here (.inl (.inl ⟨r,K',S,rfl,cZ,⟨hm.n,hm.cap,λs d h=>by rw[hm.N];exact h,λ_ _=>rfl,.inl hr,hf,λs=>by rw[hm.hold];split<;>rfl⟩⟩))
 cases b
 ·exact Br.no (JE.mk (go 0 zD (funext hi.zero)))
 exact Br.yes (JE.mk (go 1 zD (funext hi.one)))
theorem dk{n w:Nat}(h:kK n hs w x=0):(Ed w x=false/\GC w x=false)/\(CX n w x=false/\CW n w x=false/\Fx n w x=false)/\(wL hs w x=false/\wK hs w x=false/\z5 hs w x=false):=by
 unfold kK at h;split at h
 ·cases h
 split at h
 ·cases h
 split at h
 ·cases h
 rename_i h1 h2 h3;simp only[xel,xaG]at h1 h2 h3;exact⟨h1,⟨h2.1.1,h2.1.2,h2.2⟩,⟨h3.1.1,h3.1.2,h3.2⟩⟩
theorem eA{m:List (Int×Nat)}{a:Int}{p:Bool}(h:(p&& !(aG m a).isSome)=false)(hp:p=true):∃r,aG m a=some r:=by
 subst hp;cases hm:aG m a with
 |none=>rw[hm]at h;cases h
 |some r=>exact⟨r,rfl⟩
theorem EU{n:Nat}{a:Int}{p:Bool}(h:(p&& !decide (0<=a/\a<n))=false)(hp:p=true):∃v:Nat,a=v/\v<n:=by
 subst hp;have:0<=a/\a<n:=by simpa using h
 exact⟨a.toNat,by omega,by omega⟩
theorem kJ{n cap:Nat}{L:List au.Fn}{F:Int->au.Fn}(h:x.op<9):lF n cap L F x ord=Tx n cap L (dy n F x) ord:=funext λe=>by
 unfold lF;rw[xab zO,xab zO,xab zO]
theorem ab1{n cap:Nat}{L:List au.Fn}{F:Int->au.Fn}(h:x.op=9):lF n cap L F x ord=pW n cap L true x.x (F x.a) ord:=funext λe=>by
 unfold lF;rw[xad h]
theorem Ze{n cap:Nat}{L:List au.Fn}{F:Int->au.Fn}(h:x.op=10):lF n cap L F x ord=pW n cap L false x.x (F x.a) ord:=funext λe=>by
 unfold lF;rw[xab zO,xad h]
theorem Zd{n cap:Nat}{L:List au.Fn}{F:Int->au.Fn}(h:x.op=11):lF n cap L F x ord=wQ n cap L (λy=>F x.a (ak.aB y x.b.toNat false)) (λy=>F x.a (ak.aB y x.b.toNat true)) (dy n F x) ord:=funext λe=>by
 unfold lF;rw[xab zO,xab zO,xad h]
def jm(f:Nat)(op w:Nat):Prop:=∀{sp kp mb nx:Nat} {c:Cf} {K:Kd} {S:Nat->au.Fn} {ord ah tr:zL} {hs:List (Int×Nat)} {es:Array MapEntry} {ck:Nat} {C:Hp} {x:dD},ia kp nx c K S ord ah tr hs es ck C->x.op=op->x.x<18446744073709551616->kK c.n hs w x=0->
 Fc zQ f #[ptr sp,x.v] (gS sp c kp mb nx es ck C) (λv H=>∃C2,H=gS sp c kp mb nx es ck C2/\nG kp K S ord ah tr (dy c.n (bX S hs) x) (lF c.n c.cap (fL S hs) (bX S hs) x ord) v C2)
theorem qZ:jm 32 1 8:=by
 intro sp kp mb nx c K S ord ah tr hs es ck C x h hop Ug hl;obtain⟨⟨Ut,Us⟩,⟨RE,Pk,Pj⟩,Bh,KH,Pq⟩:=dk hl;obtain⟨v,hv,FZ⟩:=EU RE zD;refine aI λg=>O0 λb1 _=>?_;refine DR.of (R:=[(b1,.cells (Value.cells x.v) 35 zZ),kF sp c kp mb nx,(mb,.map es ck)]) (.cons (.cons (.cons λ_ _ h=>h.bg))) (Ld.n (v:=ptr kp) (Ld.f (v:=i64 x.a) ?_));rw[hv];intro F;refine aa.fq (NS h.ks (v:=v) (by rw[h.n];exact FZ)) ?_;rintro w H hD;have hQ:nG kp K S ord ah tr (dy c.n (bX S hs) x) (lF c.n c.cap (fL S hs) (bX S hs) x ord) w H:=by
  have hq:=h.done hD;rw[h.n,h.cap]at hq;rw[kJ zO];have e:dy c.n (bX S hs) x=λy=>y.testBit x.a.toNat:=by simp only[dy,hop]
  rw[e];simp only[hv,xbe];exact hq
 obtain⟨y,e,rfl⟩:=hQ.two;refine⟨.cons (.cons (.cons λ_ _ h=>h.bg)),?_⟩;exact Ext.two (aN.mk .tail ⟨_,rfl,hQ⟩)
theorem AS:jm 33 2 32:=by
 intro sp kp mb nx c K S ord ah tr hs es ck C x h hop Ug hl;obtain⟨⟨Ut,Us⟩,⟨RE,Pk,Pj⟩,Bh,KH,Pq⟩:=dk hl;refine aI λg=>OZ λb1 _=>?_;refine DR.of (R:=[(b1,.cells (Value.cells x.v) 35 zZ),kF sp c kp mb nx,(mb,.map es ck)]) (.cons (.cons (.cons λ_ _ h=>h.bg))) (Ld.n (v:=ptr kp) (Ld.f (v:=i64 x.a) (ae.gJ λF=>(aa.fq (Ep h.ks (decide (x.a=1))) ?_))));rintro w H hD;have hQ:nG kp K S ord ah tr (dy c.n (bX S hs) x) (lF c.n c.cap (fL S hs) (bX S hs) x ord) w H:=by
  have hq:=h.done hD;rw[h.n,h.cap]at hq;rw[kJ zO];have e:dy c.n (bX S hs) x=λ_=>decide (x.a=1):=by simp only[dy,hop]
  rw[e];exact hq
 obtain⟨y,e,rfl⟩:=hQ.two;refine⟨.cons (.cons (.cons λ_ _ h=>h.bg)),?_⟩;exact Ext.two (aN.mk .tail ⟨_,rfl,hQ⟩)
theorem Va:jm 34 3 1:=by
 intro sp kp mb nx c K S ord ah tr hs es ck C x h hop Ug hl;obtain⟨⟨Ut,Us⟩,⟨RE,Pk,Pj⟩,Bh,KH,Pq⟩:=dk hl;obtain⟨ra,ha⟩:=eA Bh zD;have la:=h.live _ (h.find ha);refine aI λg=>OY λb1 _=>?_;refine DR.of (R:=[(b1,.cells (Value.cells x.v) 35 zZ),kF sp c kp mb nx,(mb,.map es ck)]) (.cons (.cons (.cons λ_ _ h=>h.bg))) (Ld.n (v:=ptr kp) (Ld.n (v:=.map (some mb)) (Ld.f (v:=i64 x.a) (h.dN.hit (k:=x.a) (cf _) (b:=mb) (by exact .tail _ (.tail _ (.head _))) ha λv e=>?_))));subst e;intro F;refine aa.fq (NW h.ks la) ?_;rintro w H hD;have hQ:nG kp K S ord ah tr (dy c.n (bX S hs) x) (lF c.n c.cap (fL S hs) (bX S hs) x ord) w H:=by
  have hq:=h.done hD;rw[h.n,h.cap]at hq;rw[kJ zO];have e:dy c.n (bX S hs) x=λy=> !bX S hs x.a y:=by simp only[dy,hop]
  rw[e];simp only[bA ha];exact hq
 obtain⟨y,e,rfl⟩:=hQ.two;refine⟨.cons (.cons (.cons λ_ _ h=>h.bg)),?_⟩;exact Ext.two (aN.mk .tail ⟨_,rfl,hQ⟩)
theorem Kh:jm 35 4 3:=by
 intro sp kp mb nx c K S ord ah tr hs es ck C x h hop Ug hl;obtain⟨⟨Ut,Us⟩,⟨RE,Pk,Pj⟩,Bh,KH,Pq⟩:=dk hl;obtain⟨ra,ha⟩:=eA Bh zD;have la:=h.live _ (h.find ha);obtain⟨rb,hb⟩:=eA KH zD;have lb:=h.live _ (h.find hb);refine aI λg=>OX λb1 _=>?_;refine DR.of (R:=[(b1,.cells (Value.cells x.v) 35 zZ),kF sp c kp mb nx,(mb,.map es ck)]) (.cons (.cons (.cons λ_ _ h=>h.bg))) (Ld.n (v:=ptr kp) (Ld.n (v:=.map (some mb)) (Ld.f (v:=i64 x.a) (h.dN.hit (k:=x.a) (cf _) (b:=mb) (by exact .tail _ (.tail _ (.head _))) ha λv e=>?_))));subst e;refine Ld.n (v:=.map (some mb)) (Ld.f (v:=i64 x.b) (h.dN.hit (k:=x.b) (cf _) (b:=mb) (by exact .tail _ (.tail _ (.head _))) hb λv e=>?_));subst e;intro F;refine aa.fq (NY h.ks la lb) ?_;rintro w H hD;have hQ:nG kp K S ord ah tr (dy c.n (bX S hs) x) (lF c.n c.cap (fL S hs) (bX S hs) x ord) w H:=by
  have hq:=h.done hD;rw[h.n,h.cap]at hq;rw[kJ zO];have e:dy c.n (bX S hs) x=λy=>bX S hs x.a y&&bX S hs x.b y:=by simp only[dy,hop]
  rw[e];simp only[bA ha,bA hb];exact hq
 obtain⟨y,e,rfl⟩:=hQ.two;refine⟨.cons (.cons (.cons λ_ _ h=>h.bg)),?_⟩;exact Ext.two (aN.mk .tail ⟨_,rfl,hQ⟩)
theorem YT:jm 36 5 3:=by
 intro sp kp mb nx c K S ord ah tr hs es ck C x h hop Ug hl;obtain⟨⟨Ut,Us⟩,⟨RE,Pk,Pj⟩,Bh,KH,Pq⟩:=dk hl;obtain⟨ra,ha⟩:=eA Bh zD;have la:=h.live _ (h.find ha);obtain⟨rb,hb⟩:=eA KH zD;have lb:=h.live _ (h.find hb);refine aI λg=>OW λb1 _=>?_;refine DR.of (R:=[(b1,.cells (Value.cells x.v) 35 zZ),kF sp c kp mb nx,(mb,.map es ck)]) (.cons (.cons (.cons λ_ _ h=>h.bg))) (Ld.n (v:=ptr kp) (Ld.n (v:=.map (some mb)) (Ld.f (v:=i64 x.a) (h.dN.hit (k:=x.a) (cf _) (b:=mb) (by exact .tail _ (.tail _ (.head _))) ha λv e=>?_))));subst e;refine Ld.n (v:=.map (some mb)) (Ld.f (v:=i64 x.b) (h.dN.hit (k:=x.b) (cf _) (b:=mb) (by exact .tail _ (.tail _ (.head _))) hb λv e=>?_));subst e;intro F;refine aa.fq (TG h.ks la lb) ?_;rintro w H hD;have hQ:nG kp K S ord ah tr (dy c.n (bX S hs) x) (lF c.n c.cap (fL S hs) (bX S hs) x ord) w H:=by
  have hq:=h.done hD;rw[h.n,h.cap]at hq;rw[kJ zO];have e:dy c.n (bX S hs) x=λy=>bX S hs x.a y||bX S hs x.b y:=by simp only[dy,hop]
  rw[e];simp only[bA ha,bA hb];exact hq
 obtain⟨y,e,rfl⟩:=hQ.two;refine⟨.cons (.cons (.cons λ_ _ h=>h.bg)),?_⟩;exact Ext.two (aN.mk .tail ⟨_,rfl,hQ⟩)
theorem UT:jm 37 6 3:=by
 intro sp kp mb nx c K S ord ah tr hs es ck C x h hop Ug hl;obtain⟨⟨Ut,Us⟩,⟨RE,Pk,Pj⟩,Bh,KH,Pq⟩:=dk hl;obtain⟨ra,ha⟩:=eA Bh zD;have la:=h.live _ (h.find ha);obtain⟨rb,hb⟩:=eA KH zD;have lb:=h.live _ (h.find hb);refine aI λg=>OV λb1 _=>?_;refine DR.of (R:=[(b1,.cells (Value.cells x.v) 35 zZ),kF sp c kp mb nx,(mb,.map es ck)]) (.cons (.cons (.cons λ_ _ h=>h.bg))) (Ld.n (v:=ptr kp) (Ld.n (v:=.map (some mb)) (Ld.f (v:=i64 x.a) (h.dN.hit (k:=x.a) (cf _) (b:=mb) (by exact .tail _ (.tail _ (.head _))) ha λv e=>?_))));subst e;refine Ld.n (v:=.map (some mb)) (Ld.f (v:=i64 x.b) (h.dN.hit (k:=x.b) (cf _) (b:=mb) (by exact .tail _ (.tail _ (.head _))) hb λv e=>?_));subst e;intro F;refine aa.fq (NP h.ks la lb) ?_;rintro w H hD;have hQ:nG kp K S ord ah tr (dy c.n (bX S hs) x) (lF c.n c.cap (fL S hs) (bX S hs) x ord) w H:=by
  have hq:=h.done hD;rw[h.n,h.cap]at hq;rw[kJ zO];have e:dy c.n (bX S hs) x=λy=>bX S hs x.a y^^bX S hs x.b y:=by simp only[dy,hop]
  rw[e];simp only[bA ha,bA hb];exact hq
 obtain⟨y,e,rfl⟩:=hQ.two;refine⟨.cons (.cons (.cons λ_ _ h=>h.bg)),?_⟩;exact Ext.two (aN.mk .tail ⟨_,rfl,hQ⟩)
theorem Vc:jm 38 7 7:=by
 intro sp kp mb nx c K S ord ah tr hs es ck C x h hop Ug hl;obtain⟨⟨Ut,Us⟩,⟨RE,Pk,Pj⟩,Bh,KH,Pq⟩:=dk hl;obtain⟨ra,ha⟩:=eA Bh zD;have la:=h.live _ (h.find ha);obtain⟨rb,hb⟩:=eA KH zD;have lb:=h.live _ (h.find hb);obtain⟨rc,hc⟩:=eA Pq zD;have lc:=h.live _ (h.find hc);refine aI λg=>OU λb1 _=>?_;refine DR.of (R:=[(b1,.cells (Value.cells x.v) 35 zZ),kF sp c kp mb nx,(mb,.map es ck)]) (.cons (.cons (.cons λ_ _ h=>h.bg))) (Ld.n (v:=ptr kp) (Ld.n (v:=.map (some mb)) (Ld.f (v:=i64 x.a) (h.dN.hit (k:=x.a) (cf _) (b:=mb) (by exact .tail _ (.tail _ (.head _))) ha λv e=>?_))));subst e;refine Ld.n (v:=.map (some mb)) (Ld.f (v:=i64 x.b) (h.dN.hit (k:=x.b) (cf _) (b:=mb) (by exact .tail _ (.tail _ (.head _))) hb λv e=>?_));subst e;refine Ld.n (v:=.map (some mb)) (Ld.f (v:=i64 x.c) (h.dN.hit (k:=x.c) (cf _) (b:=mb) (by exact .tail _ (.tail _ (.head _))) hc λv e=>?_));subst e;intro F;refine aa.fq (Af h.ks la lb lc) ?_;rintro w H hD;have hQ:nG kp K S ord ah tr (dy c.n (bX S hs) x) (lF c.n c.cap (fL S hs) (bX S hs) x ord) w H:=by
  have hq:=h.done hD;rw[h.n,h.cap]at hq;rw[kJ zO];have e:dy c.n (bX S hs) x=λy=>if bX S hs x.a y then bX S hs x.b y else bX S hs x.c y:=by simp only[dy,hop]
  rw[e];simp only[bA ha,bA hb,bA hc];exact hq
 obtain⟨y,e,rfl⟩:=hQ.two;refine⟨.cons (.cons (.cons λ_ _ h=>h.bg)),?_⟩;exact Ext.two (aN.mk .tail ⟨_,rfl,hQ⟩)
theorem AM:jm 39 8 81:=by
 intro sp kp mb nx c K S ord ah tr hs es ck C x h hop Ug hl;obtain⟨⟨Ut,Us⟩,⟨RE,Pk,Pj⟩,Bh,KH,Pq⟩:=dk hl;obtain⟨ra,ha⟩:=eA Bh zD;have la:=h.live _ (h.find ha);obtain⟨v,hv,FZ⟩:=EU Pk zD;refine aI λg=>OT λb1 _=>?_;refine DR.of (R:=[(b1,.cells (Value.cells x.v) 35 zZ),kF sp c kp mb nx,(mb,.map es ck)]) (.cons (.cons (.cons λ_ _ h=>h.bg))) (Ld.n (v:=ptr kp) (Ld.n (v:=.map (some mb)) (Ld.f (v:=i64 x.a) (h.dN.hit (k:=x.a) (cf _) (b:=mb) (by exact .tail _ (.tail _ (.head _))) ha λv e=>?_))));subst e;refine Ld.f (v:=i64 x.b) (Ld.f (v:=i64 x.c) (ae.gJ ?_));rw[hv];intro F;refine aa.fq (vB h.ks la (v:=v) (by rw[h.n];exact FZ)) ?_;rintro w H hD;have hQ:nG kp K S ord ah tr (dy c.n (bX S hs) x) (lF c.n c.cap (fL S hs) (bX S hs) x ord) w H:=by
  have hq:=h.done hD;rw[h.n,h.cap]at hq;rw[kJ zO];have e:dy c.n (bX S hs) x=λy=>bX S hs x.a (ak.aB y x.b.toNat (decide (x.c=1))):=by simp only[dy,hop]
  rw[e];simp only[bA ha,hv,xbe];exact hq
 obtain⟨y,e,rfl⟩:=hQ.two;refine⟨.cons (.cons (.cons λ_ _ h=>h.bg)),?_⟩;exact Ext.two (aN.mk .tail ⟨_,rfl,hQ⟩)
theorem Ff:jm 40 9 129:=by
 intro sp kp mb nx c K S ord ah tr hs es ck C x h hop Ug hl;obtain⟨⟨Ut,Us⟩,⟨RE,Pk,Pj⟩,Bh,KH,Pq⟩:=dk hl;obtain⟨ra,ha⟩:=eA Bh zD;have la:=h.live _ (h.find ha);have hm:x.x<2^K.n:=by
  rw[h.n];have:x.x>>>c.n=0:=by simpa[Fx]using Pj
  rw[xa0]at this;exact(Nat.div_eq_zero_iff.1 this).resolve_left (xdp (xbw _))
 refine aI λg=>OS λb1 _=>?_;refine DR.of (R:=[(b1,.cells (Value.cells x.v) 35 zZ),kF sp c kp mb nx,(mb,.map es ck)]) (.cons (.cons (.cons λ_ _ h=>h.bg))) (Ld.n (v:=ptr kp) (Ld.n (v:=.map (some mb)) (Ld.f (v:=i64 x.a) (h.dN.hit (k:=x.a) (cf _) (b:=mb) (by exact .tail _ (.tail _ (.head _))) ha λv e=>?_))));subst e;refine Ld.f (v:=u64 x.x) λF=>?_;refine aa.fq (SP h.ks la hm) ?_;rintro w H hD;have hQ:nG kp K S ord ah tr (dy c.n (bX S hs) x) (lF c.n c.cap (fL S hs) (bX S hs) x ord) w H:=by
  have hq:=h.each la hD;rw[h.n,h.cap]at hq;rw[ab1 hop];have e:dy c.n (bX S hs) x=nI true (bitsOf x.x c.n) (bX S hs x.a):=by simp only[dy,hop]
  rw[e,bA ha];exact hq
 obtain⟨y,e,rfl⟩:=hQ.two;refine⟨.cons (.cons (.cons λ_ _ h=>h.bg)),?_⟩;exact Ext.two (aN.mk .tail ⟨_,rfl,hQ⟩)
theorem Fe:jm 41 10 129:=by
 intro sp kp mb nx c K S ord ah tr hs es ck C x h hop Ug hl;obtain⟨⟨Ut,Us⟩,⟨RE,Pk,Pj⟩,Bh,KH,Pq⟩:=dk hl;obtain⟨ra,ha⟩:=eA Bh zD;have la:=h.live _ (h.find ha);have hm:x.x<2^K.n:=by
  rw[h.n];have:x.x>>>c.n=0:=by simpa[Fx]using Pj
  rw[xa0]at this;exact(Nat.div_eq_zero_iff.1 this).resolve_left (xdp (xbw _))
 refine aI λg=>OR λb1 _=>?_;refine DR.of (R:=[(b1,.cells (Value.cells x.v) 35 zZ),kF sp c kp mb nx,(mb,.map es ck)]) (.cons (.cons (.cons λ_ _ h=>h.bg))) (Ld.n (v:=ptr kp) (Ld.n (v:=.map (some mb)) (Ld.f (v:=i64 x.a) (h.dN.hit (k:=x.a) (cf _) (b:=mb) (by exact .tail _ (.tail _ (.head _))) ha λv e=>?_))));subst e;refine Ld.f (v:=u64 x.x) λF=>?_;refine aa.fq (SL h.ks la hm) ?_;rintro w H hD;have hQ:nG kp K S ord ah tr (dy c.n (bX S hs) x) (lF c.n c.cap (fL S hs) (bX S hs) x ord) w H:=by
  have hq:=h.each la hD;rw[h.n,h.cap]at hq;rw[Ze hop];have e:dy c.n (bX S hs) x=nI false (bitsOf x.x c.n) (bX S hs x.a):=by simp only[dy,hop]
  rw[e,bA ha];exact hq
 obtain⟨y,e,rfl⟩:=hQ.two;refine⟨.cons (.cons (.cons λ_ _ h=>h.bg)),?_⟩;exact Ext.two (aN.mk .tail ⟨_,rfl,hQ⟩)
theorem Cr:jm 42 11 21:=by
 intro sp kp mb nx c K S ord ah tr hs es ck C x h hop Ug hl;obtain⟨⟨Ut,Us⟩,⟨RE,Pk,Pj⟩,Bh,KH,Pq⟩:=dk hl;obtain⟨ra,ha⟩:=eA Bh zD;have la:=h.live _ (h.find ha);obtain⟨rc,hc⟩:=eA Pq zD;have lc:=h.live _ (h.find hc);obtain⟨v,hv,FZ⟩:=EU Pk zD;refine aI λg=>OQ λb1 _=>?_;refine DR.of (R:=[(b1,.cells (Value.cells x.v) 35 zZ),kF sp c kp mb nx,(mb,.map es ck)]) (.cons (.cons (.cons λ_ _ h=>h.bg))) (Ld.n (v:=ptr kp) (Ld.n (v:=.map (some mb)) (Ld.f (v:=i64 x.a) (h.dN.hit (k:=x.a) (cf _) (b:=mb) (by exact .tail _ (.tail _ (.head _))) ha λv e=>?_))));subst e;refine Ld.f (v:=i64 x.b) ?_;rw[hv];refine Ld.n (v:=.map (some mb)) (Ld.f (v:=i64 x.c) (h.dN.hit (k:=x.c) (cf _) (b:=mb) (by exact .tail _ (.tail _ (.head _))) hc λv e=>?_));subst e;intro F;refine aa.fq (aaw h.ks la (v:=v) (by rw[h.n];exact FZ) lc) ?_;rintro w H hD;have hQ:nG kp K S ord ah tr (dy c.n (bX S hs) x) (lF c.n c.cap (fL S hs) (bX S hs) x ord) w H:=by
  have hq:=h.comp hD;rw[h.n,h.cap]at hq;rw[Zd hop];have e:dy c.n (bX S hs) x=λy=>if bX S hs x.c y then bX S hs x.a (ak.aB y x.b.toNat true)else bX S hs x.a (ak.aB y x.b.toNat false):=by simp only[dy,hop]
  rw[e];simp only[bA ha,bA hc,hv,xbe];exact hq
 obtain⟨y,e,rfl⟩:=hQ.two;refine⟨.cons (.cons (.cons λ_ _ h=>h.bg)),?_⟩;exact Ext.two (aN.mk .tail ⟨_,rfl,hQ⟩)
end
section
variable {sp kp mb nx:Nat} {c:Cf} {K:Kd} {S:Nat->au.Fn} {ord ah tr:zL} {hs:List (Int×Nat)} {es:Array MapEntry} {ck:Nat} {C:Hp} {x:dD}
theorem VQ{w f:Nat}(h:ia kp nx c K S ord ah tr hs es ck C)(hw:w<256)(hx:x.x<18446744073709551616)(hl:kK c.n hs w x≠0):
  Rd zQ 22 #[ptr sp,x.v,.agg (Kw (w,f)).toArray] (gS sp c kp mb nx es ck C) (· =eR (kK c.n hs w x) (-1) 0 0):=by
 refine aI λg=>Aw λb1 _ b3 _ b5 _=>?_;refine az.q (r:=x.cells) (Ld.f (v:=.int .u8 (w:Int)) (aa.eq (look_ok h hw hx) (ae.cD (Br.T ?_ hl))));refine aa.eq (cy _ _) (St.p (r:=[i64 (kK c.n hs w x),i64 (-1),u64 0,i64 0]) (bI _ _ _ _) ?_);refine az.q ?_;exact bc.mk (.skip (.skip .tail)) rfl
def m8(op:Nat):Option Nat:=
 if op=23 then some 57 else if op=22 then some 56 else if op=21 then some 55 else if op=20 then some 54 else
 if op=19 then some 53 else if op=18 then some 52 else if op=17 then some 51 else if op=16 then some 50 else
 if op=15 then some 49 else if op=14 then some 48 else if op=13 then some 47 else if op=12 then some 46 else none
theorem NU:Fc zQ 23 #[] [] (λv H=>∃b es ck m,v=.map (some b)/\H=[(b,.map es ck)]/\aF (kI .u8) (λv (p:Nat)=>v=.func (.func p) #[] #[]) es ck m/\∀op:Nat,aG m (op:Int)=m8 op):=by
 refine aI λg=>O6 λb _=>?_;have bK:∀{k:Int} {p:Nat} {es:Array MapEntry} {ck:Nat} {m:List (Int×Nat)} {Q:Hp->Prop},aF (kI .u8) (λv (p:Nat)=>v=.func (.func p) #[] #[]) es ck m->(∀es' bB,aF (kI .u8) (λv (p:Nat)=>v=.func (.func p) #[] #[]) es' bB (eo m k p)->Q [(b,.map es' bB)])->
   aW (.int .u8) [(b,.map es ck)] (.map (some b)) (kI .u8 k) (.func (.func p) #[] #[]) Q:=λ{k p es ck m Q} he hq=>
  aF.bK (cf _) (Ba _) he rfl λes' bB he'=>⟨_,.head _,hq es' bB he'⟩
 refine bK (k:=12) aF.empty λ_ _ h=>?_;refine bK (k:=13) h λ_ _ h=>?_;refine bK (k:=14) h λ_ _ h=>?_;refine bK (k:=15) h λ_ _ h=>?_;refine bK (k:=16) h λ_ _ h=>?_;refine bK (k:=17) h λ_ _ h=>?_;refine bK (k:=18) h λ_ _ h=>?_;refine bK (k:=19) h λ_ _ h=>?_;refine bK (k:=20) h λ_ _ h=>?_;refine bK (k:=21) h λ_ _ h=>?_;refine bK (k:=22) h λ_ _ h=>?_;refine bK (k:=23) h λ_ _ h=>?_;refine aN.mk (.refl _) ⟨b,_,_,_,rfl,rfl,h,λop=>?_⟩;simp only[bL];have:∀j:Nat,((op:Int)=(j:Int))=(op=j):=λj=>propext zO;have e:=this 12;have e2:=this 13;have e3:=this 14;have e4:=this 15;have e5:=this 16;have e6:=this 17;have e7:=this 18;have e8:=this 19;have e9:=this 20;have e10:=this 21;have e11:=this 22;have e12:=this 23
 simp only[Int.cast_ofNat_Int]at*;simp only[e,e2,e3,e4,e5,e6,e7,e8,e9,e10,e11,e12];rfl
def aaO(v:zV):Prop:=∃(e h:Int) (n:Nat) (t:Int),v=eR e h n t
set_option maxHeartbeats 1000000 in
theorem q5{C:Hp}{Q:zV->Hp->Prop}(hQ:∀v H,Q v H->aaO v)
 (h1:∀w f,df x.op=some (w,f)->Fc zQ 22 #[ptr sp,x.v,.agg (Kw (w,f)).toArray] C Q)
 (h2:∀f,df x.op=none->m8 x.op=some f->aU zQ f=true->Fc zQ f #[ptr sp,x.v] C Q)
 (h3:df x.op=none->m8 x.op=none->Q (eR 12 (-1) 0 0) C):Fc zQ 9 #[ptr sp,x.v] C Q:=by
 refine aI λg=>T0 λb1 _ b3 _=>?_;refine ae.aL (Br.no (DR.of (R:=(b1,.cells x.cells.toArray 35 zZ)::[]) (.skip (.cons λ_ _ h=>h.bg)) (Ld.f (v:=.int .u8 (x.op:Int)) λF=>?_)));refine aa.fn hnew MM ?_;rintro w H ⟨bm,kB,jN,m1,rfl,rfl,Uw,xU⟩;refine⟨.skip (.skip (.cons λ_ _ h=>h.bg)),?_⟩;refine⟨[(b1,.cells x.cells.toArray 35 zZ),(bm,.map kB jN)],(aM.perm (List.Perm.swap _ _ _)).trans (.skip ?_),.cons (λ_ _ h=>h.bg),?_⟩
 ·exact(aM.perm (List.Perm.swap _ _ _)).trans (.cons (.cons λ_ _ h=>h.bg))
 refine Uw.look (k:=(x.op:Int)) (cf _) (by exact .tail _ (.head _)) (λp v hp hv=>?_) (λhp=>?_)
 ·subst hv;obtain⟨w,f⟩:=p;rw[xU]at hp;refine Ext.two λxd _=>λF=>?_;refine St.p (r:=Kw (w,f)) (λu hu=>by simp only[Kw,xak,xaR,xbD]at hu;rcases hu with rfl|rfl<;>rfl) (⟨.skip ((aM.perm (List.Perm.swap _ _ _)).trans (.skip ((aM.perm (List.Perm.swap _ _ _)).trans (.cons (.cons λ_ _ h=>h.bg))))),?_⟩);refine Br.yes (az.q (r:=x.cells) (az.q (r:=Kw (w,f)) (aa.fq (h1 w f hp) ?_)));intro v H hv;obtain⟨e,h,n,t,rfl⟩:=hQ v H hv;refine St.p (r:=[i64 e,i64 h,u64 n,i64 t]) (bI _ _ _ _) ?_;refine az.q ?_;exact aN.mk (.skip (.skip (.skip .tail))) hv
 rw[xU]at hp;refine Ext.two λxd _=>λF=>?_;refine St.p (r:=[.int .u8 0,.nilFunc]) (by simp[Value.oneCell']) (⟨.skip ((aM.perm (List.Perm.swap _ _ _)).trans (.skip ((aM.perm (List.Perm.swap _ _ _)).trans (.cons (.cons λ_ _ h=>h.bg))))),?_⟩);refine Br.no (DR.of (R:=(b1,.cells x.cells.toArray 35 zZ)::[]) (.skip (.skip (.skip (.cons λ_ _ h=>h.bg)))) (Ld.f (v:=.int .u8 (x.op:Int)) λF=>?_));refine aa.fn hnew NU ?_;rintro w H ⟨ba,gV,iE,m2,rfl,rfl,sS,nj⟩;refine⟨.skip (.skip (.skip (.skip (.cons λ_ _ h=>h.bg)))),?_⟩;refine⟨[(b1,.cells x.cells.toArray 35 zZ),(ba,.map gV iE)],?_,.cons (λ_ _ h=>h.bg),?_⟩
 ·refine(aM.perm ((List.Perm.cons _ (List.Perm.cons _ (List.Perm.cons _ (List.Perm.swap _ _ _)))).trans ((List.Perm.cons _ (List.Perm.cons _ (List.Perm.swap _ _ _))).trans ((List.Perm.cons _ (List.Perm.swap _ _ _)).trans (List.Perm.swap _ _ _))))).trans ?_;exact .cons ((aM.perm (List.Perm.swap _ _ _)).trans (.skip ((aM.perm (List.Perm.swap _ _ _)).trans (.skip ((aM.perm (List.Perm.swap _ _ _)).trans (.skip (.cons λ_ _ h=>h.bg)))))))
 refine sS.look (k:=(x.op:Int)) (cf _) (by exact .tail _ (.head _)) (λf v hf hv=>?_) (λhf=>?_)
 ·subst hv;rw[nj]at hf;have fO:aU zQ f=true:=by
   unfold m8 at hf
   repeat' split at hf
   all_goals first|(cases hf;kernel_rfl)|cases hf
  refine Ext.two (Br.yes (az.q (r:=x.cells) (aE.of rfl fO (aa.fq (args:=#[ptr sp,x.v]) (h2 f hp hf fO) ?_))));intro v H hv;obtain⟨e,h,n,t,rfl⟩:=hQ v H hv;refine St.p (r:=[i64 e,i64 h,u64 n,i64 t]) (bI _ _ _ _) ?_;refine az.q ?_;exact aN.mk (.skip (.skip (.skip (.skip .tail)))) hv
 rw[nj]at hf;refine Ext.two (Br.no (aa.eq (cy _ _) (St.p (r:=[i64 12,i64 (-1),u64 0,i64 0]) (bI _ _ _ _) ?_)));refine az.q ?_;exact aN.mk (.skip (.skip (.skip (.skip .tail)))) (h3 hp hf)
end
section
variable {sp kp mb nx:Nat} {c:Cf} {K:Kd} {S:Nat->au.Fn} {ord ah tr:zL} {hs:List (Int×Nat)} {es:Array MapEntry} {ck:Nat} {C:Hp} {x:dD}
theorem Qk(h:ia kp nx c K S ord ah tr hs es ck C)(hx:x.x<18446744073709551616):
  Rd zQ 48 #[ptr sp,x.v] (gS sp c kp mb nx es ck C) (· =if(aG hs x.a).isSome then eR 0 (-1) (bX S hs x.a x.x).toNat 0 else eR 3 (-1) 0 0):=by
 refine aI λg=>ON λb1 _ b3 _=>?_;refine Ld.f (v:=i64 x.a) (aa.eq (eM h x.a) (Un.not ?_));cases hm:aG hs x.a with
 |none=>
  refine Br.yes (aa.eq (cy _ _) (St.p (r:=[i64 3,i64 (-1),u64 0,i64 0]) (bI _ _ _ _) ?_));refine az.q ?_;exact bc.mk (.skip .tail) rfl
 |some r=>
  apply Br.no;have hl:=h.live _ (h.find hm);refine DR.of (.refl _) (Ld.n (v:=ptr kp) (Ld.n (v:=.map (some mb)) (Ld.f (v:=i64 x.a) (h.dN.hit (k:=x.a) (cf _) (b:=mb) (by exact .tail _ (.tail _ (.tail _ (.head _)))) hm λv e=>?_))));subst e;refine Ld.f (v:=u64 x.x) λF=>?_;refine aa.eq (args:=#[ptr kp,u32 r,u64 x.x]) (Tm h.ks hl hx) (⟨.refl _,?_⟩);refine Ext.two (aa.eq (Kf _ _) (aa.eq (dS _ 0 _) (St.p (r:=[i64 0,i64 (-1),u64 (S r x.x).toNat,i64 0]) (bI _ _ _ _) ?_)));refine az.q ?_;exact bc.mk (.skip .tail) (by rw[bA hm];rfl)
theorem Qd(h:ia kp nx c K S ord ah tr hs es ck C):
  Rd zQ 49 #[ptr sp,x.v] (gS sp c kp mb nx es ck C) (λw=>w=if(aG hs x.a).isSome&& (aG hs x.b).isSome then eR 0 (-1) (@decide (bX S hs x.a=bX S hs x.b) (Classical.propDecidable _)).toNat 0 else eR 3 (-1) 0 0):=by
 refine aI λg=>OM λb1 _ b3 _ J5 h5=>?_;have no:((aG hs x.a).isSome&& (aG hs x.b).isSome)=false->J5 [.bool true] ((b3,.cells #[i64 0,i64 0,u64 0,i64 0] 37 zZ)::(b1,.cells (Value.cells x.v) 35 zZ)::gS sp c kp mb nx es ck C):=λhb=>by
  refine h5 _ _ λ_=>Br.yes ?_;refine aa.eq (cy _ _) (St.p (r:=[i64 3,i64 (-1),u64 0,i64 0]) (bI _ _ _ _) ?_);refine az.q ?_;exact bc.mk (.skip .tail) (by rw[hb];rfl)
 refine Ld.f (v:=i64 x.a) (aa.eq (eM h x.a) (Un.not ?_));cases hm:aG hs x.a with
 |none=>exact Split.QL rfl (aH.mk (JE.mk (no (by rw[hm];rfl))))
 |some r=>
 refine Split.go rfl (Ld.f (v:=i64 x.b) (aa.eq (eM h x.b) (Un.not (aH.mk ?_))));cases nj:aG hs x.b with
 |none=>exact JE.mk (no (by rw[nj];exact xeb _))
 |some q=>
 refine JE.mk (h5 _ _ λ_=>Br.no ?_);have hl:=h.live _ (h.find hm);have qP:=h.live _ (h.find nj);refine DR.of (.refl _) (Ld.n (v:=.map (some mb)) (Ld.f (v:=i64 x.a) (h.dN.hit (k:=x.a) (cf _) (b:=mb) (by exact .tail _ (.tail _ (.tail _ (.head _)))) hm λv e=>?_)));subst e;refine Ld.n (v:=.map (some mb)) (Ld.f (v:=i64 x.b) (h.dN.hit (k:=x.b) (cf _) (b:=mb) (by exact .tail _ (.tail _ (.tail _ (.head _)))) nj λv e=>?_));subst e;refine ae.dx ?_;have e:decide (r=q)= @decide (bX S hs x.a=bX S hs x.b) (Classical.propDecidable _):=by
  by_cases hq:r=q
  ·rw[xam hq];exact(@decide_eq_true _ (Classical.propDecidable _) (by rw[bA hm,bA nj];exact(h.same hl qP).2 hq)).symm
  rw[xal hq];exact(@decide_eq_false _ (Classical.propDecidable _) (by rw[bA hm,bA nj];exact λe=>hq ((h.same hl qP).1 e))).symm
 rw[e];intro F;refine aa.eq (Kf _ _) λF=>?_;refine aa.eq (dS _ 0 _) λF=>?_;refine St.p (r:=[i64 0,i64 (-1),u64 _,i64 0]) (bI _ _ _ _) ?_;refine az.q ?_;exact bc.mk (.skip .tail) (by rw[hm,nj];rfl)
theorem Qf(h:ia kp nx c K S ord ah tr hs es ck C):
  Rd zQ 52 #[ptr sp,x.v] (gS sp c kp mb nx es ck C) (· =eR 0 (-1) (cG K S ord) 0):=by
 have hle:=gv h.ks.aZ;refine aI λg=>OJ λb1 _ b3 _=>?_;refine Ld.n (v:=ptr kp) ?_;refine aa.eq (cF h.ks.aZ) (br.q (aa.eq (dS _ 0 _) (St.p (r:=[i64 0,i64 (-1),u64 (cG K S ord),i64 0]) (bI _ _ _ _) ?_)));refine az.q ?_;exact bc.mk (.skip .tail) rfl
theorem Md(h:ia kp nx c K S ord ah tr hs es ck C)(hv:x.a<0\/(c.n:Int)<=x.a):
  Rd zQ 55 #[ptr sp,x.v] (gS sp c kp mb nx es ck C) (· =eR 2 (-1) 0 0):=by
 refine aI λg=>Ar λb1 _ b3 _=>?_;refine DR.of (.refl _) (Ld.n (v:=ptr kp) (Ld.f (v:=i64 x.a) λF=>?_));refine aa.eq (args:=#[ptr kp,i64 x.a]) (Eg h.ks.aZ (by rw[h.n];exact hv)) (⟨.refl _,Ext.two ?_⟩);refine br.q (a:=0) (aa.eq (dS 0 2 _) (St.p (r:=[i64 2,i64 (-1),u64 0,i64 0]) (bI _ _ _ _) ?_));refine az.q ?_;exact bc.mk (.skip .tail) rfl
theorem Me(h:ia kp nx c K S ord ah tr hs es ck C){v:Nat}(hx:x.a=v)(hv:v<c.n):
  Rd zQ 55 #[ptr sp,x.v] (gS sp c kp mb nx es ck C) (λw=>∃p,p<c.n/\ord.getD p 0=v/\w=eR 0 (-1) p 0):=by
 have hn:=h.ks.aZ.lP;refine aI λg=>Ar λb1 _ b3 _=>?_;refine DR.of (.refl _) (Ld.n (v:=ptr kp) (Ld.f (v:=i64 x.a) ?_));rw[hx];intro F;refine aa.rq (args:=#[ptr kp,i64 (v:Int)]) (Eh h.ks.aZ (by rw[h.n];exact hv)) ?_;rintro w ⟨p,hp,hop,rfl⟩;refine⟨.refl _,Ext.two ?_⟩;refine br.q (aa.eq (dS p 0 _) (St.p (r:=[i64 0,i64 (-1),u64 p,i64 0]) (bI _ _ _ _) ?_));refine az.q ?_;exact bc.mk (.skip .tail) ⟨p,by rw[<-h.n];exact hp,hop,rfl⟩
theorem Qc(h:ia kp nx c K S ord ah tr hs es ck C){P:Nat->Int->Prop}(Sh:∀r,aG hs x.a=some r->Rd zQ 89 #[ptr kp,u32 r] C (λv=>∃n e,P n e/\v=.tuple #[u64 n,i64 e])):
  Rd zQ 50 #[ptr sp,x.v] (gS sp c kp mb nx es ck C) (λv=>((aG hs x.a).isSome=false/\v=eR 3 (-1) 0 0)\/((aG hs x.a).isSome=true/\∃n e,P n e/\v=if e=0 then eR 0 (-1) n 0 else eR e (-1) 0 0)):=by
 refine aI λg=>OL λb1 _ b3 _=>?_;refine Ld.f (v:=i64 x.a) (aa.eq (eM h x.a) (Un.not ?_));cases hm:aG hs x.a with
 |none=>
  refine Br.yes (aa.eq (cy _ _) (St.p (r:=[i64 3,i64 (-1),u64 0,i64 0]) (bI _ _ _ _) ?_));refine az.q ?_;exact bc.mk (.skip .tail) (.inl ⟨rfl,rfl⟩)
 |some r=>
  refine Br.no (DR.of (.refl _) (Ld.n (v:=ptr kp) (Ld.n (v:=.map (some mb)) (Ld.f (v:=i64 x.a) (h.dN.hit (k:=x.a) (cf _) (b:=mb) (by exact .tail _ (.tail _ (.tail _ (.head _)))) hm λv e=>?_)))));subst e;intro F;refine aa.rq (args:=#[ptr kp,u32 r]) (Sh r hm) ?_;rintro w ⟨n,e,hP,rfl⟩;refine⟨.refl _,?_⟩;refine Ext.two λF=>(aa.eq (dS n e _) ?_);intro F;by_cases he:e=0
  ·rw[xad he];refine St.p (r:=[i64 0,i64 (-1),u64 n,i64 0]) (bI _ _ _ _) ?_;refine az.q ?_;exact bc.mk (.skip .tail) (.inr ⟨rfl,n,e,hP,by rw[xad he]⟩)
  rw[xab he];refine St.p (r:=[i64 e,i64 (-1),u64 0,i64 0]) (bI _ _ _ _) ?_;refine az.q ?_;exact bc.mk (.skip .tail) (.inr ⟨rfl,n,e,hP,by rw[xab he]⟩)
theorem Mf(h:ia kp nx c K S ord ah tr hs es ck C){P:Nat->Int->Prop}(Sh:∀r,aG hs x.a=some r->Rd zQ 91 #[ptr kp,u32 r] C (λv=>∃n e,P n e/\v=.tuple #[u64 n,i64 e])):
  Rd zQ 53 #[ptr sp,x.v] (gS sp c kp mb nx es ck C) (λv=>((aG hs x.a).isSome=false/\v=eR 3 (-1) 0 0)\/((aG hs x.a).isSome=true/\∃n e,P n e/\v=if e=0 then eR 0 (-1) n 0 else eR e (-1) 0 0)):=by
 refine aI λg=>OI λb1 _ b3 _=>?_;refine Ld.f (v:=i64 x.a) (aa.eq (eM h x.a) (Un.not ?_));cases hm:aG hs x.a with
 |none=>
  refine Br.yes (aa.eq (cy _ _) (St.p (r:=[i64 3,i64 (-1),u64 0,i64 0]) (bI _ _ _ _) ?_));refine az.q ?_;exact bc.mk (.skip .tail) (.inl ⟨rfl,rfl⟩)
 |some r=>
  refine Br.no (DR.of (.refl _) (Ld.n (v:=ptr kp) (Ld.n (v:=.map (some mb)) (Ld.f (v:=i64 x.a) (h.dN.hit (k:=x.a) (cf _) (b:=mb) (by exact .tail _ (.tail _ (.tail _ (.head _)))) hm λv e=>?_)))));subst e;intro F;refine aa.rq (args:=#[ptr kp,u32 r]) (Sh r hm) ?_;rintro w ⟨n,e,hP,rfl⟩;refine⟨.refl _,?_⟩;refine Ext.two λF=>(aa.eq (dS n e _) ?_);intro F;by_cases he:e=0
  ·rw[xad he];refine St.p (r:=[i64 0,i64 (-1),u64 n,i64 0]) (bI _ _ _ _) ?_;refine az.q ?_;exact bc.mk (.skip .tail) (.inr ⟨rfl,n,e,hP,by rw[xad he]⟩)
  rw[xab he];refine St.p (r:=[i64 e,i64 (-1),u64 0,i64 0]) (bI _ _ _ _) ?_;refine az.q ?_;exact bc.mk (.skip .tail) (.inr ⟨rfl,n,e,hP,by rw[xab he]⟩)
theorem Cg(h:ia kp nx c K S ord ah tr hs es ck C){P:Nat->Int->Prop}(Sh:∀r,aG hs x.a=some r->Rd zQ 92 #[ptr kp,u32 r] C (λv=>∃n e,P n e/\v=.tuple #[u64 n,i64 e])):
  Rd zQ 54 #[ptr sp,x.v] (gS sp c kp mb nx es ck C) (λv=>((aG hs x.a).isSome=false/\v=eR 3 (-1) 0 0)\/((aG hs x.a).isSome=true/\∃n e,P n e/\v=if e=0 then eR 0 (-1) n 0 else eR e (-1) 0 0)):=by
 refine aI λg=>OH ?_;intro b1 _ b3 _;refine Ld.f (v:=i64 x.a) ?_;refine aa.eq (eM h x.a) (Un.not ?_);cases hm:aG hs x.a with
 |none=>
  refine Br.yes (aa.eq (cy _ _) (St.p (r:=[i64 3,i64 (-1),u64 0,i64 0]) (bI _ _ _ _) ?_));refine az.q ?_;exact bc.mk (.skip .tail) (.inl ⟨rfl,rfl⟩)
 |some r=>
  refine Br.no (DR.of (.refl _) (Ld.n (v:=ptr kp) ?_));refine Ld.n (v:=.map (some mb)) ?_;refine Ld.f (v:=i64 x.a) ?_;refine h.dN.hit (k:=x.a) (cf _) (b:=mb) (by exact .tail _ (.tail _ (.tail _ (.head _)))) hm λv e=>?_;subst e;intro F;refine aa.rq (args:=#[ptr kp,u32 r]) (Sh r hm) ?_;rintro w ⟨n,e,hP,rfl⟩;refine⟨.refl _,?_⟩;apply Ext.two;intro F;refine aa.eq (dS n e _) ?_;intro F;by_cases he:e=0
  ·rw[xad he];refine St.p (r:=[i64 0,i64 (-1),u64 n,i64 0]) (bI _ _ _ _) ?_;refine az.q ?_;exact bc.mk (.skip .tail) (.inr ⟨rfl,n,e,hP,by rw[xad he]⟩)
  rw[xab he];refine St.p (r:=[i64 e,i64 (-1),u64 0,i64 0]) (bI _ _ _ _) ?_;refine az.q ?_;exact bc.mk (.skip .tail) (.inr ⟨rfl,n,e,hP,by rw[xab he]⟩)
end
structure Rp where
 e:Int
 h:Int
 n:Nat
 t:Int
def Rp.cells(r:Rp):List zV:=[i64 r.e,i64 r.h,u64 r.n,i64 r.t]
abbrev Rp.v(r:Rp):zV:=.agg r.cells.toArray
def Rp.eq(a b:Rp):Bool:=decide (a.e=b.e) && (decide (a.h=b.h) && (decide (a.n=b.n) &&decide (a.t=b.t)))
theorem Rp.eq_iff{a b:Rp}:Rp.eq a b=true↔a=b:=by
 obtain⟨a1,a2,a3,a4⟩:=a;obtain⟨b1,b2,b3,b4⟩:=b;simp[Rp.eq]
theorem Rp.one(r:Rp):∀u∈r.cells,u.oneCell'=true:=bI _ _ _ _
theorem SO:(Tryz.prog.fieldsOf 37).toList.map (λf=>(f.name,f.type,f.offset))=[("E",27,0),("H",3,1),("N",33,2),("Tries",3,3)]:=by kernel_rfl
theorem Vd:Tryz.prog.underlying 3=some (.int .i64):=by kernel_rfl
theorem Vf:Tryz.prog.underlying 27=some (.int .i64):=by kernel_rfl
theorem UX:Tryz.prog.underlying 33=some (.int .u64):=by kernel_rfl
theorem afD{g:Gh}{H:Hp}{o:Oper}{ρ:Operand->zV}{k:zV->Prop}{neq:Bool}{x y:Operand}{a b:Rp}(ho:o.op=.binOp (cond neq .neq .eql) 37 x y 37)(hx:ρ x=a.v)(hy:ρ y=b.v)
 (hk:k (.bool (cond neq (!Rp.eq a b) (Rp.eq a b)))):jH zQ g o ρ H k:=by
 refine jH.struct (neq:=neq) ho hx hy zK zK zK (b:=Rp.eq a b) ?_ hk;intro w;have h:=SO;generalize (Tryz.prog.fieldsOf 37).toList=fs at h;rcases fs with _|⟨f1,_|⟨f2,_|⟨f3,_|⟨f4,_|⟨f5,fs⟩⟩⟩⟩⟩<;>simp only[xay,xcl,xau,xdv,xa1,reduceCtorEq,and_false]at h;obtain⟨⟨n1,t1,o1⟩,⟨n2,t2,o2⟩,⟨n3,t3,o3⟩,n4,t4,o4⟩:=h;have p1:∀(r:Rp) w,(part 27 r.cells.toArray 0).run zQ w=.ok (i64 r.e) w:=λr w=>run_part_plain (w:=w) zK rfl;have p2:∀(r:Rp) w,(part 3 r.cells.toArray 1).run zQ w=.ok (i64 r.h) w:=λr w=>run_part_plain (w:=w) zK rfl;have p3:∀(r:Rp) w,(part 33 r.cells.toArray 2).run zQ w=.ok (u64 r.n) w:=λr w=>run_part_plain (w:=w) zK rfl;have p4:∀(r:Rp) w,(part 3 r.cells.toArray 3).run zQ w=.ok (i64 r.t) w:=λr w=>run_part_plain (w:=w) zK rfl;have dq:∀x y:Int,(x==y)=decide (x=y):=λx y=>by rw[xbE];simp
 have q1:∀(x y:Int) w,(Op.equalIn 9999 27 (i64 x) (i64 y)).run zQ w=.ok (decide (x=y)) w:=λx y w=>by
  rw[run_equalIn_int w 9998 27 .i64 _ _ _ Vf,dq]
 have q2:∀(x y:Int) w,(Op.equalIn 9999 3 (i64 x) (i64 y)).run zQ w=.ok (decide (x=y)) w:=λx y w=>by
  rw[run_equalIn_int w 9998 3 .i64 _ _ _ Vd,dq]
 have q3:∀(x y:Nat) w,(Op.equalIn 9999 33 (u64 x) (u64 y)).run zQ w=.ok (decide (x=y)) w:=λx y w=>by
  rw[run_equalIn_int w 9998 33 .u64 _ _ _ UX,dq];congr 1;exact xaZ.2 Int.ofNat_inj
 show(Op.eqFields 9999 a.cells.toArray b.cells.toArray [f1,f2,f3,f4]).run zQ w=_;simp only[Op.eqFields,n1,n2,n3,n4,t1,t2,t3,t4,o1,o2,o3,o4,Sem.run_bind,p1,p2,p3,p4,q1,q2,q3,Result.andThen_ok,Sem.run_ite,Sem.run_pure];unfold Rp.eq;by_cases h1:a.e=b.e<;>by_cases h2:a.h=b.h<;>by_cases h3:a.n=b.n<;>by_cases h4:a.t=b.t<;>simp[h1,h2,h3,h4]
def q7:List Rp->List Rp->Bool
 | [],[]=>true
 |a::l,b::r=>Rp.eq a b&&q7 l r
 |_,_=>false
theorem lB:∀{l r:List Rp},q7 l r=true↔l=r
 | [],[]=>by simp[q7]
 | [],_::_=>by simp[q7]
 |_::_,[]=>by simp[q7]
 |a::l,b::r=>by simp[q7,Rp.eq_iff,lB]
theorem Mp{B:Hp}{va vb:zV}{l r:List Rp}(hl:Sl 4 B va (l.map Rp.cells))(hr:Sl 4 B vb (r.map Rp.cells))(cI:l.length<9223372036854775807):Rd zQ 10 #[va,vb] B (· =.bool (q7 l r)):=by
 refine aI λg=>Pb (hl.bV ?_);refine hr.bV ?_;rw[xaE,xaE];refine ae.x5 (Br.dec (λhne=>?_) (λheq=>?_))
 ·refine bc.mk (.refl _) ?_;cases he:q7 l r
  ·rfl
  rw[lB.1 he]at hne;exact absurd rfl hne
 have heq:l.length=r.length:=by simpa using heq
 refine⟨λvs H=>∃i:Nat,vs=[i64 (i:Int)]/\i<=l.length/\H=B/\l.take i=r.take i,λvs _=>l.length-bN vs 0,JE.mk ⟨0,rfl,xaN _,rfl,rfl⟩,?_⟩;rintro w H ⟨i,⟨⟩,hi,rfl,he⟩ gs;refine hl.bV ?_;rw[xaE];refine ae.fC (Br.dec (λhlt=>?_) (λhge=>?_))
 ·have hlr:i<r.length:=by omega
  refine av.sl hl (i:=i) (r:=l[i].cells) (by rw[xat,xaa hlt];rfl) λp hp=>?_;refine az.at hp rfl zD (λ_ h=>h) ?_;refine av.sl hr (i:=i) (r:=r[i].cells) (by rw[xat,xaa hlr];rfl) λp hp=>?_;refine az.at hp rfl zD (λ_ h=>h) ?_;refine afD (neq:=true) (x:=.tmp 20) (y:=.tmp 24) (a:=l[i]) (b:=r[i]) zK rfl rfl ?_;simp only[xap];refine Br.mk (λhb=>?_) (λhb=>?_)
  ·refine bc.mk (.refl _) ?_;cases Uq:q7 l r
   ·rfl
   have h2:=lB.1 Uq;have:Rp.eq l[i] r[i]=true:=Rp.eq_iff.2 (by subst h2;rfl);rw[this]at hb;cases hb
  have h2:l[i]=r[i]:=Rp.eq_iff.1 (by simpa using hb);refine ae.inc (aC.of (.refl _) ⟨i+1,rfl,hlt,rfl,?_⟩ (by simp only[bN];omega));rw[xbo,xbo,he,xaa hlt,xaa hlr,h2]
 refine bc.mk (.refl _) ?_;have h2:l=r:=by rwa [xcv zO,xcv zO]at he
 rw[lB.2 h2]
theorem CE(n:Nat)(B:Hp):Rd zQ 11 #[i64 (n:Int)] B (· =.agg (uS.cells ⟨n,1048576,0,100,0⟩).toArray):=by
 refine aI λg=>Pa λb1 _=>?_;refine Build.mk (cs:=uS.cells ⟨n,1048576,0,100,0⟩) zK (St.p (uS.one _) ?_);exact az.q (r:=uS.cells ⟨n,1048576,0,100,0⟩) (bc.mk .tail rfl)
theorem Cf.Ok.gO{d:Cf}(h:d.Ok):gO d.i=0:=by
 obtain⟨h1,h2,h3,h4,h5,h6⟩:=h;have a1:gZ d.i=false:=by
  show(decide (6<d.str)||decide ((d.gr:Int)<100)||decide (1000<(d.gr:Int))||decide ((d.rs:Int)<0)||decide (16<(d.rs:Int)))=false;simp only[xaG,xbp];omega
 have a2:iO d.i=false:=by
  show decide ((d.n:Int)<1\/64<(d.n:Int)\/(d.cap:Int)<2\/1048576<(d.cap:Int))=false;rw[xbp];omega
 have a3:¬(d.i.str=6/\12<d.i.n):=by
  show¬(d.str=6/\12<(d.n:Int));omega
 unfold Proofs.gO;rw[a1,a2,xab zD,xab zD,xab a3]
theorem Vr{c:uS}{steps:List dD}{sv:zV}{Y:Hp}(hs:Sl 5 Y sv (steps.map dD.cells))(cI:steps.length<4398046511104)(I:Nat->Nat->List Rp->Hp->Prop)
 (h0:∀d:Cf,c=d.i->d.Ok->∀(sp kp mb:Nat) (C:Hp),bP kp (K0 d.n d.cap) S0 (List.range d.n) (List.range d.n) [] C->I 0 sp [] (gS sp d kp mb 0 #[] 0 C))
 (hstep:∀(i sp:Nat) (l:List Rp) (H:Hp) (x:dD),gO c=0->steps[i]? =some x->I i sp l H->l.length=i->Fc zQ 9 #[ptr sp,x.v] H (λv H'=>∃r:Rp,v=r.v/\I (i+1) sp (l++[r]) H')):
  Fc zQ 8 #[.agg c.cells.toArray,sv] Y (λw H=>(gO c≠0/\w=.tuple #[.slice none 0 0,i64 (gO c)]/\H=Y)\/
   (gO c=0/\∃(sp:Nat) (l:List Rp) (s:zV) (CR HS:Hp),w=.tuple #[s,i64 0]/\H=CR++Y/\aV 37 4 s (l.map Rp.cells) CR/\l.length=steps.length/\I steps.length sp l HS)):=by
 refine aI λg=>T1 λb1 _=>?_;refine az.q (r:=c.cells) (aa.fn hnew (ve c (Q:=λv H=>(gO c≠0/\v=.tuple #[.pointer none,i64 (gO c)]/\H=[])\/(gO c=0/\∃sp,v=.tuple #[ptr sp,i64 0]/\I 0 sp [] H)) (λh=>.inl ⟨h,rfl,rfl⟩) (λd hd hok sp kp mb C hK=>.inr ⟨?_,sp,rfl,h0 d hd hok sp kp mb C hK⟩)) ?_)
 ·subst hd;exact hok.gO
 rintro w H (⟨hne,rfl,rfl⟩|⟨he,sp,rfl,hI⟩)
 ·refine Ext.two (ae.cD (Br.T ?_ hne));exact aN.mk (.tail) (.inl ⟨hne,rfl,rfl⟩)
 refine Ext.two (ae.cD (Br.F (hs.bV ?_)));rw[xaE];refine⟨λvs H'=>∃(i:Nat) (s:zV) (l:List Rp) (CR HS:Hp),vs=[s,i64 (i:Int)]/\i<=steps.length/\l.length=i/\H'=CR++(HS++((b1,.cells (Value.cells (.agg c.cells.toArray)) 23 zZ)::Y))/\aV 37 4 s (l.map Rp.cells) CR/\I i sp l HS,
  λvs _=>steps.length-bN vs 1,JE.mk ⟨0,_,[],[],H,rfl,xaN _,rfl,rfl,aV.nil _ _,hI⟩,?_⟩
 rintro w1 w2 H' ⟨i,s,l,CR,HS,⟨⟩,hi,hl,rfl,hR,hI⟩ gs;refine ae.fC (Br.dec (λhlt=>?_) (λhge=>?_))
 ·refine av.sl hs (i:=i) (r:=steps[i].cells) (by rw[xat,xaa hlt];rfl) λp hp=>?_;refine az.at hp rfl zD (λ_ h=>xac _ (xac _ (.tail _ h))) ?_;intro BZ _;refine St.p (r:=steps[i].cells) (dD.one _) (az.q (r:=steps[i].cells) (aa.fn (.cons (.app .left)) (hstep i sp l HS steps[i] he (xaa hlt) hI hl) ?_));rintro v HS' ⟨r,rfl,hI'⟩;refine ax.one (z:=.agg #[i64 0,i64 0,u64 0,i64 0]) (e:=37) (k:=4) (r:=r.cells) zK zK zK zD rfl λbx=>?_;refine aV.rZ (r:=r.cells) hR (.cons (.cons .left)) (by exact .head _) rfl (Rp.one r) ⟨[i64 0,i64 0,u64 0,i64 0],rfl,rfl⟩ (by rw[xaE];omega) (by rw[xaE];omega) λv' CR' WJ=>?_;refine ae.inc (aC.of (.skip .tail) ⟨i+1,v',l++[r],CR',HS',rfl,hlt,by rw[xaf,hl];rfl,rfl,by rw[xaB];exact WJ,hI'⟩ (by simp only[bN];omega))
 obtain rfl:i=steps.length:=by omega
 exact aN.mk (aM.de (aM.right.trans .tail) CR) (.inr ⟨he,sp,l,w1,CR,HS,rfl,rfl,hR,hl,hI⟩)
abbrev FS:=List (Int×au.Fn)
def j5(S:Nat->au.Fn)(hs:List (Int×Nat)):FS:=hs.map λp=>(p.1,S p.2)
def fF(F:FS)(a:Int):au.Fn:=match aG F a with|some f=>f|none=>λ_=>false
def mc(F:FS):List au.Fn:=F.map Prod.snd
def dY(F:FS)(a:Int):Bool:=(aG F a).isSome
theorem vS{S:Nat->au.Fn}{a:Int}:∀hs:List (Int×Nat),aG (j5 S hs) a=(aG hs a).map S
  | []=>rfl
  |p::hs=>by
    have ih:=vS (S:=S) (a:=a) hs;unfold aG j5 at*;rw[xay,xbv,xbv];by_cases e:p.1=a
    · simp[e]
    · simp only[e,xdn]
      exact ih
theorem m0{S:Nat->au.Fn}{hs:List (Int×Nat)}:fF (j5 S hs)=bX S hs:=funext λa=>by
  unfold fF bX;rw[vS];cases aG hs a<;>rfl
theorem mY{S:Nat->au.Fn}{hs:List (Int×Nat)}:mc (j5 S hs)=fL S hs:=by
  unfold mc j5 fL;rw[xb8];rfl
theorem eH{S:Nat->au.Fn}{hs:List (Int×Nat)}(a:Int):dY (j5 S hs) a=(aG hs a).isSome:=by
  unfold dY;rw[vS];cases aG hs a<;>rfl
theorem jO{S S':Nat->au.Fn}{hs:List (Int×Nat)}(h:∀p∈hs,S' p.2=S p.2):j5 S' hs=j5 S hs:=xbh λp hp=>by rw[h p hp]
def fe(n:Nat)(F:FS)(w:Nat)(x:dD):Int:=
  if(Ed w x||GC w x)=true then 1 else if(CX n w x||CW n w x||Fx n w x)=true then 2 else
  if((decide (w&&&1≠0) && !dY F x.a)||(decide (w&&&2≠0) && !dY F x.b)||(decide (w&&&4≠0) && !dY F x.c))=true then 3 else 0
theorem y6{S:Nat->au.Fn}{hs:List (Int×Nat)}{n w:Nat}{x:dD}:fe n (j5 S hs) w x=kK n hs w x:=by
  unfold fe kK wL wK z5;rw[eH,eH,eH]
noncomputable def tU(n:Nat)(F:FS)(ord:zL):Nat:=sz n ord (HF (mc F))
def k9(sp:Nat)(c:Cf)(nx:Nat)(F:FS)(ord tr:zL)(H:Hp):Prop:=
  ∃(kp mb:Nat) (K:Kd) (S:Nat->au.Fn) (ah:zL) (hs:List (Int×Nat)) (es:Array MapEntry) (ck:Nat) (C:Hp),H=gS sp c kp mb nx es ck C/\ia kp nx c K S ord ah tr hs es ck C/\j5 S hs=F
section
variable {sp nx:Nat} {c:Cf} {F:FS} {ord tr:zL} {H:Hp} {x:dD}
theorem ia.tU{kp:Nat}{K:Kd}{S:Nat->au.Fn}{ah:zL}{hs:List (Int×Nat)}{es:Array MapEntry}{ck:Nat}{C:Hp}(h:ia kp nx c K S ord ah tr hs es ck C)(o:zL):cG K S o=Proofs.tU c.n (j5 S hs) o:=by
  unfold cG Proofs.tU;rw[h.held,mY,h.n]
theorem Bc{d:Cf}{kp mb:Nat}{C:Hp}(hK:bP kp (K0 d.n d.cap) S0 (List.range d.n) (List.range d.n) [] C):k9 sp d 0 [] (List.range d.n) [] (gS sp d kp mb 0 #[] 0 C):=
  ⟨kp,mb,_,_,_,[],_,_,C,rfl,⟨hK,rfl,rfl,aF.empty,by simp,λr=>by
    show([]:zL).getD r 0=_;simp,by simp⟩,rfl⟩
def YA(sp:Nat)(c:Cf)(nx:Nat)(F:FS)(ord tr:zL)(x:dD)(R:zL->zL->Prop)(v:zV)(H:Hp):Prop:=
  ∃(t:Nat) (o cE:zL),t<=c.rs+1/\xm (lF c.n c.cap (mc F) (fF F) x) R ord t o/\
    ((v=eR 0 nx 0 t/\k9 sp c (nx+1) (F++[((nx:Int),dy c.n (fF F) x)]) o [] H/\lF c.n c.cap (mc F) (fF F) x o 0)\/
     (∃e:Nat,(e=8\/e=9)/\v=eR e (-1) 0 t/\k9 sp c nx F o cE H/\lF c.n c.cap (mc F) (fF F) x o e/\(e=9->t=c.rs+1)/\cE.length+66*tU c.n F o<=tr.length+66*tU c.n F ord))
theorem Xb{w f:Nat}(hm:df x.op=some (w,f)):jm f x.op w/\aU zQ f=true/\w<256:=by
  have nine:x.op=1\/x.op=2\/x.op=3\/x.op=4\/x.op=5\/x.op=6\/x.op=7\/x.op=8\/x.op=9\/x.op=10\/x.op=11:=by
    unfold df at hm
    repeat' split at hm
    all_goals first|omega|cases hm
  rcases nine with e|e|e|e|e|e|e|e|e|e|e<;>rw[e]at hm⊢ <;>cases hm
  · exact⟨qZ,by kernel_rfl,by decide⟩
  · exact⟨AS,by kernel_rfl,by decide⟩
  · exact⟨Va,by kernel_rfl,by decide⟩
  · exact⟨Kh,by kernel_rfl,by decide⟩
  · exact⟨YT,by kernel_rfl,by decide⟩
  · exact⟨UT,by kernel_rfl,by decide⟩
  · exact⟨Vc,by kernel_rfl,by decide⟩
  · exact⟨AM,by kernel_rfl,by decide⟩
  · exact⟨Ff,by kernel_rfl,by decide⟩
  · exact⟨Fe,by kernel_rfl,by decide⟩
  · exact⟨Cr,by kernel_rfl,by decide⟩
theorem rW(hx:x.op=1):jm 32 x.op 8/\aU zQ 32=true:=by
  rw[hx];exact⟨qZ,by kernel_rfl⟩
theorem D8(hx:x.op=4):jm 35 x.op 3/\aU zQ 35=true:=by
  rw[hx];exact⟨Kh,by kernel_rfl⟩
def TV(c:Cf)(nx:Nat)(F:FS)(T:zL->Nat->Prop)(R:zL->zL->Prop)(b:Nat):Prop:=
  ∀{kp:Nat} {K:Kd} {S:Nat->au.Fn} {o ah tr:zL} {hs:List (Int×Nat)} {es:Array MapEntry} {ck:Nat} {C:Hp},T o 9->ia kp nx c K S o ah tr hs es ck C->j5 S hs=F->tr.length<=b->
    Fc zQ 45 #[ptr kp,.int .u8 (c.str:Int),i64 c.gr] C (λv H=>∃ls a b,v=.tuple #[a,b]/\R o ls/\At kp K S (ay o ls) (tr++ls) H/\ls.length+66*cG K S (ay o ls)<=66*cG K S o)
theorem Ky{w f:Nat}{R:zL->zL->Prop}(h:k9 sp c nx F ord tr H)(hc:c.Ok)(EG:nx+1<9223372036854775808)(hx:x.x<18446744073709551616)(hf:jm f x.op w)(fO:aU zQ f=true)(hw:w<256)(hl:fe c.n F w x=0)
   (hrun:TV c nx F (lF c.n c.cap (mc F) (fF F) x) R (tr.length+66*tU c.n F ord)):
    Fc zQ 22 #[ptr sp,x.v,.agg (Kw (w,f)).toArray] H (YA sp c nx F ord tr x R):=by
  obtain⟨kp,mb,K,S,ah,hs,es,ck,C,rfl,h,rfl⟩:=h;rw[y6]at hl;rw[m0,mY,<-h.tU]at hrun;refine(VP fO h hc EG hw hx hl (fn:=dy c.n (bX S hs) x) (T:=lF c.n c.cap (fL S hs) (bX S hs) x) (R:=R) (λ{K' S' o bR cE C'} h' hS=>?_) (λ{K' S' o bR cE C'} hT h' hS hb=>?_)).mono ?_
  · have:=hf (sp:=sp) (mb:=mb) h' rfl hx hl
    rwa [W3 hS,No h.dN.nd hS]at this
  · exact hrun hT h' (jO hS) hb
  · rintro v H ⟨t,o,bR,cE,K',S',es',bB,C',ht,hT,hS,hq⟩
    unfold YA;have ez:tU c.n (j5 S hs)=cG K S:=funext λo=>(h.tU o).symm;rw[m0,mY,ez];refine⟨t,o,cE,ht,hT,?_⟩;rcases hq with⟨r,rfl,rfl,h',hr,h0,rfl⟩|⟨e,he,rfl,rfl,h',Uv,h9,hb⟩
    · refine .inl ⟨rfl,⟨kp,mb,K',S',bR,_,es',bB,C',rfl,h',?_⟩,h0⟩
      rw[<-jO hS];unfold j5;rw[xaB,<-hr];rfl
    · exact .inr ⟨e,he,rfl,⟨kp,mb,K',S',bR,_,es',bB,C',rfl,h',jO hS⟩,Uv,h9,hb⟩
theorem vW{w f:Nat}(h:k9 sp c nx F ord tr H)(hx:x.x<18446744073709551616)(hw:w<256)(hl:fe c.n F w x≠0):
    Rd zQ 22 #[ptr sp,x.v,.agg (Kw (w,f)).toArray] H (· =eR (fe c.n F w x) (-1) 0 0):=by
  obtain⟨kp,mb,K,S,ah,hs,es,ck,C,rfl,h,rfl⟩:=h;rw[y6]at hl⊢;exact VQ h hw hx hl
theorem K6(h:k9 sp c nx F ord tr H)(hx:x.x<18446744073709551616):Rd zQ 48 #[ptr sp,x.v] H (· =if dY F x.a then eR 0 (-1) (fF F x.a x.x).toNat 0 else eR 3 (-1) 0 0):=by
  obtain⟨kp,mb,K,S,ah,hs,es,ck,C,rfl,h,rfl⟩:=h;rw[eH,m0];exact Qk h hx
theorem Kg(h:k9 sp c nx F ord tr H):Rd zQ 50 #[ptr sp,x.v] H (· =if dY F x.a then eR 0 (-1) (sat c.n (fF F x.a)%BF) 0 else eR 3 (-1) 0 0):=by
  obtain⟨kp,mb,K,S,ah,hs,es,ck,C,rfl,h,rfl⟩:=h;rw[eH,m0];refine(Qc h (x:=x) (P:=λn e=>e=0/\n=sat c.n (bX S hs x.a)%BF) λr hr=>?_).mono λv H ⟨e,hv⟩=>⟨e,?_⟩
  · rw[bA hr,<-h.n]
    exact(Td h.ks (h.live _ (h.find hr))).mono λv H ⟨e,hv⟩=>⟨e,_,_,⟨rfl,rfl⟩,hv⟩
  · rcases hv with⟨h1,h2⟩|⟨h1,n,e,⟨rfl,rfl⟩,h2⟩
    · rw[h1];exact h2
    · rw[h1];exact h2
end
end
end Go.Proofs
namespace au
open ak
variable {n:Nat} {ord:zL}
def Yr(ord:zL)(L:List Fn):Nat->List Fn
 |0=>L
 |l+1=>(Yr ord L l).flatMap λf=>[λx=>f (aB x (ord.getD l 0) false),λx=>f (aB x (ord.getD l 0) true)]
theorem wB(L:List Fn):∀l,(Yr ord L l).length=L.length*2^l
 |0=>by simp[Yr]
 |l+1=>by
  rw[Yr,List.length_flatMap];simp only[xaz,xce];rw[List.map_const',List.sum_replicate_nat,wB L l,xd2,xcL]
theorem SH{F:Fn->Prop}{L:List Fn}(h:∀g,F g->g∈L):∀l g,fs ord F l g->g∈Yr ord L l
 |0,g,hg=>h g hg
 |l+1,g,⟨f,hf,b,e⟩=>by
  rw[Yr,List.mem_flatMap];refine⟨f,SH h l f hf,?_⟩;subst e;cases b<;>simp
def En(ord:zL)(L:List Fn):Nat->List Fn
 |0=>[]
 |k+1=>En ord L k++Yr ord L k
theorem ua{ord:zL}(L:List Fn):∀k,(En ord L k).length+L.length=L.length*2^k
 |0=>by simp[En]
 |k+1=>by
  have:=ua (ord:=ord) L k;rw[En,xaf,wB,xd2];have e:L.length*(2^k*2)=L.length*2^k+L.length*2^k:=by rw[<-xcL,Nat.mul_two]
  omega
theorem Dg{L:List Fn}{g:Fn}{l:Nat}(h:g∈Yr ord L l):∀k,l<k->g∈En ord L k
 |0,hk=>by omega
 |k+1,hk=>by
  rw[En,xao];by_cases e:l=k
  ·subst e;exact .inr h
  exact .inl (Dg h k zO)
theorem yS{F:Fn->Prop}{L:List Fn}(h:∀g,F g->g∈L):∀g,aD n ord F g->g∈En ord L n:=by
 rintro g ⟨l,hl,hg,_⟩;exact Dg (SH h l g hg) n hl
theorem C7:∀l:List Fn,∃l':List Fn,l'.Nodup/\l'.length<=l.length/\∀g,g∈l↔g∈l'
 | []=>⟨[],List.nodup_nil,xaj _,λ_=>xcT⟩
 |f::l=>by
  obtain⟨l',h1,h2,h3⟩:=C7 l;by_cases hm:f∈l'
  ·refine⟨l',h1,Nat.le_succ_of_le h2,λg=>?_⟩;rw[xak,h3];exact⟨λh=>h.elim (λe=>e▸hm) id,.inr⟩
  exact⟨f::l',xaW.2 ⟨hm,h1⟩,Nat.succ_le_succ h2,λg=>by rw[xak,xak,h3]⟩
theorem K9{U:Fn->Prop}{l:List Fn}(h:∀g,U g->g∈l):∃k,k<=l.length/\nw U k:=by
 classical
 obtain⟨l',h1,h2,h3⟩:=C7 l;refine⟨(l'.filter λg=>decide (U g)).length,xbI (xb2 _ _) h2,_,h1.filter _,rfl,λg=>?_⟩;rw[xbV,xaJ,<-h3];exact⟨λx=>⟨h g x,x⟩,λx=>x.2⟩
theorem Fz{F:Fn->Prop}{L:List Fn}{cap:Nat}(h:∀g,F g->g∈L)(hc:L.length*2^n+2<=cap):∃ku,nw (aD n ord F) ku/\ku+2<=cap:=by
 obtain⟨k,h1,h2⟩:=K9 (yS (n:=n) (ord:=ord) h);have:=ua (ord:=ord) L n;exact⟨k,h2,by omega⟩
end au
set_option maxRecDepth 100000
namespace Go.Proofs
open Go Go.Sx
open au
theorem XK{b k len:Nat}{rs:List (List zV)}{T:TypeId}(hr:∀r∈rs,r.length=k)(hk:0<k)(hl:rs.length=len):Sl k [(b,.cells (rows rs) T zZ)] (.slice (some ⟨b,0,none⟩) len len) rs:=by
 have h:=aV.mk' (T:=T) (k:=k) (b:=b) (rs:=rs) (aK:=[]) (n:=len) (c:=len) (by simpa using hr) hl.symm (by simp[hl]);rw[xaL]at h;exact Sl.rh h hk
section
variable {sp nx n cap:Nat} {c:Cf} {F:FS} {ord tr o:zL} {H:Hp} {x:dD}
theorem QW(h:((mc F).length+3)*2^n+2<=cap):¬lF n cap (mc F) (fF F) x o 9:=by
 have room:∀(L2:List au.Fn) (P:au.Fn->Prop),L2.length<=3->(∀g,P g->HF (mc F) g\/g∈L2)->Fits (aD n o P) cap:=λL2 P hl hP=>by
  refine Fz (L:=mc F++L2) (λg hg=>?_) ?_
  ·rcases hP g hg with h|h
   ·exact xae _ h.1
   exact xac _ h
  rw[xaf];exact xbI (Nat.add_le_add_right (xaX _ zO) 2) h
 unfold lF;split
 ·rintro(⟨h,_⟩|⟨_,i,_,_,hf,_⟩|⟨h,_⟩)
  ·cases h
  ·refine hf (room [nI true (bitsOf x.x i) (fF F x.a),qf true i (nI true (bitsOf x.x i) (fF F x.a))] _ zI λg hg=>?_);rcases hg with(h|⟨_,h⟩)|h
   ·exact .inl h
   ·exact .inr (by simp[h])
   exact .inr (by simp[h])
  cases h
 split
 ·rintro(⟨h,_⟩|⟨_,i,_,_,hf,_⟩|⟨h,_⟩)
  ·cases h
  ·refine hf (room [nI false (bitsOf x.x i) (fF F x.a),qf false i (nI false (bitsOf x.x i) (fF F x.a))] _ zI λg hg=>?_);rcases hg with(h|⟨_,h⟩)|h
   ·exact .inl h
   ·exact .inr (by simp[h])
   exact .inr (by simp[h])
  cases h
 split
 ·rintro(⟨h,_⟩|⟨_,hf|⟨_,hf⟩|⟨_,_,hf⟩⟩|⟨h,_⟩)
  ·cases h
  ·exact hf (room [_] _ zI λg hg=>hg.imp id λh=>by simpa using h)
  ·refine hf (room [λy=>fF F x.a (ak.aB y x.b.toNat false),λy=>fF F x.a (ak.aB y x.b.toNat true)] _ zI λg hg=>?_);rcases hg with(h|h)|h
   ·exact .inl h
   ·exact .inr (by simp[h])
   exact .inr (by simp[h])
  ·refine hf (room [λy=>fF F x.a (ak.aB y x.b.toNat false),λy=>fF F x.a (ak.aB y x.b.toNat true),dy n (fF F) x] _ zI λg hg=>?_);rcases hg with((h|h)|h)|h
   ·exact .inl h
   ·exact .inr (by simp[h])
   ·exact .inr (by simp[h])
   exact .inr (by simp[h])
  cases h
 rintro(⟨h,_⟩|⟨_,hf⟩|⟨h,_⟩)
 ·cases h
 ·exact hf (room [_] _ zI λg hg=>hg.imp id λh=>by simpa using h)
 cases h
theorem aax(L:List au.Fn)(g:au.Fn):mh L g<=L.length:=List.countP_le_length
theorem QX(h:lF n cap (mc F) (fF F) x o 8):∃g,65533<=mh (mc F) g:=by
 have big:∀g k,mh (mc F) g+k=65535->k<=2->∃g,65533<=mh (mc F) g:=λg k h hk=>⟨g,by omega⟩;have each:∀q,pW n cap (mc F) q x.x (fF F x.a) o 8->∃g,65533<=mh (mc F) g:=λq h=>by
  rcases h with⟨h,_⟩|⟨h,_⟩|⟨_,⟨_,h⟩|⟨i,_,_,h,_⟩⟩
  ·cases h
  ·cases h
  ·exact⟨_,xbI zD h.2⟩
  exact⟨_,xbI zD h.2.1⟩
 unfold lF at h;split at h
 ·exact each _ h
 split at h
 ·exact each _ h
 split at h
 ·rcases h with⟨h,_⟩|⟨h,_⟩|⟨_,⟨_,h⟩|⟨_,_,_,a,ha,h⟩|⟨_,_,_,_,a,b,ha,hb,h⟩⟩
  ·cases h
  ·cases h
  ·exact big _ 0 h zO
  ·exact big _ a h (by have:=ha.le;omega)
  exact big _ (a+b) (by rw[<-xcK];exact h) (by have:=ha.le;have:=hb.le;omega)
 rcases h with⟨h,_⟩|⟨h,_⟩|⟨_,h⟩
 ·cases h
 ·cases h
 exact⟨_,xbI zD h.2⟩
theorem VB(h:(mc F).length<65533):¬lF n cap (mc F) (fF F) x o 8:=λht=>by
 obtain⟨g,hg⟩:=QX ht;have:=aax (mc F) g;omega
theorem sI{w f:Nat}(h:k9 sp c nx F ord tr H)(hc:c.Ok)(EG:nx+1<9223372036854775808)(hx:x.x<18446744073709551616)(hm:df x.op=some (w,f))(hf:jm f x.op w)(fO:aU zQ f=true)(hw:w<256)(hl:fe c.n F w x=0)
 (hr:(F.length+3)*2^c.n+2<=c.cap)(h8:F.length<65533):
  Fc zQ 9 #[ptr sp,x.v] H (λv H'=>v=eR 0 nx 0 1/\k9 sp c (nx+1) (F++[((nx:Int),dy c.n (fF F) x)]) ord [] H'):=by
 have hlen:(mc F).length=F.length:=by unfold mc;rw[xaE]
 have no9:∀o,¬lF c.n c.cap (mc F) (fF F) x o 9:=λo=>QW (by rw[hlen];exact hr);refine q5 (λv H h=>?_) (λw' f' hm'=>?_) (λf hn=>by rw[hm]at hn;cases hn) (λhn=>by rw[hm]at hn;cases hn)
 ·obtain⟨rfl,_⟩:=h;exact⟨_,_,_,_,rfl⟩
 rw[hm]at hm';cases hm';refine(Ky (R:=λ_ _=>False) h hc EG hx hf fO hw hl λhT _ _=>absurd hT (no9 _)).mono ?_;rintro v H' ⟨t,o,cE,ht,hT,hq⟩;have h1:t=1/\o=ord:=by
  cases hT with
  |one=>exact⟨rfl,rfl⟩
  |more h h9 _=>exact absurd h9 (no9 _)
 obtain⟨rfl,rfl⟩:=h1;rcases hq with⟨rfl,h',_⟩|⟨e,he,_,_,Uv,_⟩
 ·exact⟨rfl,h'⟩
 rcases he with rfl|rfl
 ·exact absurd Uv (VB (by rw[hlen];exact h8))
 exact absurd Uv (no9 _)
theorem VO{w f:Nat}(h:k9 sp c nx F ord tr H)(hx:x.x<18446744073709551616)(hm:df x.op=some (w,f))(hw:w<256)(hl:fe c.n F w x≠0):
  Fc zQ 9 #[ptr sp,x.v] H (λv H'=>v=eR (fe c.n F w x) (-1) 0 0/\H'=H):=by
 refine q5 (λv H h=>?_) (λw' f' hm'=>?_) (λf hn=>by rw[hm]at hn;cases hn) (λhn=>by rw[hm]at hn;cases hn)
 ·obtain⟨rfl,_⟩:=h;exact⟨_,_,_,_,rfl⟩
 rw[hm]at hm';cases hm';exact Fc.mono (vW h hx hw hl) λv H ⟨e1,e2⟩=>⟨e2,e1⟩
theorem xe{f:Nat}{Q:zV->Hp->Prop}(hm:df x.op=none)(ha:m8 x.op=some f)(hQ:∀v H,Q v H->aaO v)(h:Fc zQ f #[ptr sp,x.v] H Q):Fc zQ 9 #[ptr sp,x.v] H Q:=
 q5 hQ (λw f hn=>by rw[hm]at hn;cases hn) (λf' _ dQ _=>by rw[ha]at dQ;cases dQ;exact h) (λ_ hn=>by rw[ha]at hn;cases hn)
end
def awS:List dD:=[⟨1,0,0,0,0⟩,⟨1,1,0,0,0⟩,⟨4,0,1,0,0⟩,⟨16,2,0,0,0⟩,⟨14,2,0,0,3⟩,⟨1,2,0,0,0⟩]
def awR:List Rp:=[⟨0,0,0,1⟩,⟨0,1,0,1⟩,⟨0,2,0,1⟩,⟨0, -1,1,0⟩,⟨0, -1,1,0⟩,⟨2, -1,0,0⟩]
def awF:FS:=[(0,λy=>y.testBit 0),(1,λy=>y.testBit 1),(2,λy=>y.testBit 0&&y.testBit 1)]
def Yx:Cf:=⟨2,1048576,0,100,0⟩
theorem BB:Yx.Ok:=⟨by decide,by decide,by decide,by decide,by decide,by decide⟩
theorem Xg{i sp:Nat}{H:Hp}{x:dD}(hx:awS[i]? =some x)(h:k9 sp Yx (min i 3) (awF.take i) [0,1] [] H):
  Fc zQ 9 #[ptr sp,x.v] H (λv H'=>∃r,awR[i]? =some r/\v=r.v/\k9 sp Yx (min (i+1) 3) (awF.take (i+1)) [0,1] [] H'):=by
 have hi:i<6:=(xah.1 hx).1;obtain rfl|rfl|rfl|rfl|rfl|rfl:i=0\/i=1\/i=2\/i=3\/i=4\/i=5:=by omega
 ·cases hx;refine(sI h BB zD zD (w:=8) rfl (rW rfl).1 (rW (x:=⟨1,0,0,0,0⟩) rfl).2 zD rfl zD zD).mono ?_;rintro v H' ⟨rfl,h'⟩;exact⟨_,rfl,rfl,h'⟩
 ·cases hx;refine(sI h BB zD zD (w:=8) rfl (rW rfl).1 (rW (x:=⟨1,1,0,0,0⟩) rfl).2 zD rfl zD zD).mono ?_;rintro v H' ⟨rfl,h'⟩;exact⟨_,rfl,rfl,h'⟩
 ·cases hx;refine(sI h BB zD zD (w:=3) rfl (D8 rfl).1 (D8 (x:=⟨4,0,1,0,0⟩) rfl).2 zD rfl zD zD).mono ?_;rintro v H' ⟨rfl,h'⟩;exact⟨_,rfl,rfl,h'⟩
 ·cases hx;refine xe (f:=50) rfl rfl (λv H h=>?_) (Fc.mono (Kg h) ?_)
  ·obtain⟨r,_,rfl,_⟩:=h;exact⟨_,_,_,_,rfl⟩
  rintro v H' ⟨rfl,rfl⟩;refine⟨_,rfl,?_,h⟩;have:sat 2 (λy=>y.testBit 0&&y.testBit 1)%BF=1:=by decide+kernel
  show eR 0 (-1) (sat 2 (λy=>y.testBit 0&&y.testBit 1)%BF) 0=_;rw[this];rfl
 ·cases hx;refine xe (f:=48) rfl rfl (λv H h=>?_) (Fc.mono (K6 h zD) ?_)
  ·obtain⟨r,_,rfl,_⟩:=h;exact⟨_,_,_,_,rfl⟩
  rintro v H' ⟨rfl,rfl⟩;exact⟨_,rfl,rfl,h⟩
 cases hx;refine(VO h zD (w:=8) rfl zD zD).mono ?_;rintro v H' ⟨rfl,rfl⟩;exact⟨_,rfl,rfl,h⟩
set_option maxHeartbeats 1000000 in
theorem GF(B:Hp):Rd zQ 6 #[] B (· =.bool true):=by
 refine aI λg=>T3 (aa.eq (CE 2 _) (Build.mk (cs:=dD.cells ⟨1,0,0,0,0⟩) zK ?_));refine Build.mk (cs:=dD.cells ⟨1,1,0,0,0⟩) zK (Build.mk (cs:=dD.cells ⟨4,0,1,0,0⟩) zK (Build.mk (cs:=dD.cells ⟨16,2,0,0,0⟩) zK (Build.mk (cs:=dD.cells ⟨14,2,0,0,3⟩) zK (Build.mk (cs:=dD.cells ⟨1,2,0,0,0⟩) zK ?_))));refine ax.many (e:=35) (k:=5) (z:=.agg #[.int .u8 0,i64 0,i64 0,i64 0,u64 0]) (awS.map dD.cells) zK zK zK zD zD rfl rfl λbx=>?_;refine aa.fn (bH.left (A:=B)) (Vr (c:=Yx.i) (steps:=awS) (Y:=[(bx,_)]) (XK zD zD rfl) zD (λi sp l H=>l=awR.take i/\k9 sp Yx (min i 3) (awF.take i) [0,1] [] H) (λd hd hok sp kp mb C hK=>?_) (λi sp l H x he hx hI hl=>?_)) ?_
 ·have:d=Yx:=by
   obtain⟨a1,a2,a3,a4,a5⟩:=d;simp only[Yx,Cf.i,uS.mk.injEq]at hd;simp only[Yx,Cf.mk.injEq];omega
  subst this;exact⟨rfl,Bc hK⟩
 ·obtain⟨rfl,hI⟩:=hI;refine(Xg hx hI).mono ?_;rintro v H' ⟨r,hr,rfl,h'⟩;exact⟨r,rfl,by rw[xbo,hr];rfl,h'⟩
 rintro w H (⟨hne,_⟩|⟨_,sp,l,s,CR,HS,rfl,rfl,hR,hl,hI⟩)
 ·exact absurd BB.gO hne
 have hl6:l=awR:=hI.1;subst hl6;refine Ext.two (Build.mk (cs:=Rp.cells ⟨0,0,0,1⟩) zK (Build.mk (cs:=Rp.cells ⟨0,1,0,1⟩) zK (Build.mk (cs:=Rp.cells ⟨0,2,0,1⟩) zK (Build.mk (cs:=Rp.cells ⟨0, -1,1,0⟩) zK (Build.mk (cs:=Rp.cells ⟨0, -1,1,0⟩) zK (Build.mk (cs:=Rp.cells ⟨2, -1,0,0⟩) zK ?_))))));refine ax.many (e:=37) (k:=4) (z:=.agg #[i64 0,i64 0,u64 0,i64 0]) (awR.map Rp.cells) zK zK zK zD zD rfl rfl λby'=>?_;intro J23 h23;refine ae.gJ (Split.go zD ?_);refine aa.eh .here (Mp (l:=awR) (r:=awR) ((Sl.rh hR zD).mono λ_ h=>?_) ((XK (T:=37) zD zD rfl).mono λ_ h=>?_) zD) ?_
 ·exact .tail _ (xae _ (xae _ h))
 ·rw[xaw.1 h];exact .head _
 rw[lB.2 rfl];refine aH.mk (JE.mk (h23 _ _ λ_=>?_));exact bc.mk (.skip aM.right) rfl
end Go.Proofs
namespace au
section
variable {n:Nat} {ah:Nat->Nat} {ord:zL} {N:eE} {S:Nat->Fn} {R:Nat->Prop}
theorem MR(h:WF n ah N)(hl:jI n ah)(ho:Ord n ah ord)(hi:Interp N S)(hR:∀r,R r->live N r)(hr:Reach N R){l:Nat}(zn:l<n)(g:Fn):(fs ord (Fs S R) l g/\bU g (ord.getD l 0))↔∃r d,N r=some d/\d.v=ord.getD l 0/\g=S r:=by
 obtain⟨v1,v2⟩:=ho.aZ l zn;constructor
 ·rintro⟨hf,x,hx⟩;obtain⟨r,ha,rfl⟩:=(DN h hl ho hi hR l zO g).1 hf;obtain⟨hlv,hle⟩:=qL h hR l r ha;by_cases e:dep n ah N r=l
  ·rcases hlv with hc|⟨d,hd⟩
   ·rw[aT (h.const hc)]at e;omega
   rw[an hd]at e;exact⟨r,d,hd,hl.inj _ _ (h.var hd) v1 zO,rfl⟩
  exact absurd (by rw[h.bJ hl hi hlv v1 zO,h.bJ hl hi hlv v1 zO]) hx
 rintro⟨r,d,hd,kA,rfl⟩;have hv:=h.var hd;have hlt:=hl.lt _ hv;have nk:ah d.v=l:=by rw[kA,v2]
 refine⟨(DN h hl ho hi hR _ zO _).2 ⟨r,by have:=Uc h hr _ r d hd (xaj _);rwa [nk]at this,rfl⟩,?_⟩;rw[<-kA];refine xaD λhno=>h.ne hd (h.same hl hi (h.lo hd).1 (h.hi hd).1 λx=>?_);have c1:=h.child hl hi hd x false;have c2:=h.child hl hi hd x true;simp only[xaO,xa2,xa7]at c1 c2;rw[<-c1,<-c2];exact xaD λhne=>hno ⟨x,hne⟩
theorem NH(h:WF n ah N)(hl:jI n ah)(hi:Interp N S){dom:zL}{v:Nat}(hd:dom.Nodup)(hm:∀r,r∈dom↔∃d,N r=some d/\d.v=v):nw (λg=>∃r d,N r=some d/\d.v=v/\g=S r) dom.length:=by
 refine⟨dom.map S,?_,by simp,λg=>?_⟩
 ·refine xbJ.2 (hd.imp_of_mem λ{a b} ha hb hne heq=>hne ?_);obtain⟨d1,h1,_⟩:=(hm a).1 ha;obtain⟨d2,h2,_⟩:=(hm b).1 hb;exact h.same hl hi (.inr ⟨d1,h1⟩) (.inr ⟨d2,h2⟩) λx=>by rw[heq]
 rw[xan];constructor
 ·rintro⟨r,d,h1,h2,rfl⟩;exact⟨r,(hm r).2 ⟨d,h1,h2⟩,rfl⟩
 rintro⟨r,h1,rfl⟩;obtain⟨d,h2,h3⟩:=(hm r).1 h1;exact⟨r,d,h2,h3,rfl⟩
end
theorem Ok.NG{K:Kd}{S:Nat->Fn}{ah:Nat->Nat}{ord:zL}(h:Ok K S ah)(ho:Ord K.n ah ord){j:Nat}(hj:j<K.n){l:List (Nd×Nat)}(fD:(l.map Prod.fst).Nodup)(hl:∀d r,(d,r)∈l↔K.T d=some r/\d.v=ord.getD j 0):nw (λg=>fs ord (K.held S) j g/\bU g (ord.getD j 0)) l.length:=by
 have hT:∀d r,K.T d=some r↔K.N r=some d:=λd r=>by
  rw[h.mid.kf];exact⟨λh=>h.1,λh=>⟨h,λe=>e⟩⟩
 have agX:∀r,r∈l.map Prod.snd↔∃d,K.N r=some d/\d.v=ord.getD j 0:=λr=>by
  rw[xan];constructor
  ·rintro⟨⟨d,r'⟩,h1,rfl⟩;obtain⟨h2,h3⟩:=(hl d r').1 h1;exact⟨d,(hT d r').1 h2,h3⟩
  rintro⟨d,h1,h2⟩;exact⟨(d,r),(hl d r).2 ⟨(hT d r).2 h1,h2⟩,rfl⟩
 have hdn:(l.map Prod.snd).Nodup:=by
  refine xbJ.2 ((xbJ.1 fD).imp_of_mem λ{a b} ha hb hne heq=>hne ?_);have h1:=(hT a.1 a.2).1 ((hl a.1 a.2).1 ha).1;have h2:=(hT b.1 b.2).1 ((hl b.1 b.2).1 hb).1;rw[heq,h2]at h1;exact(xbg h1).symm
 have c1:=NH h.wf h.lv h.mid.int hdn agX;rw[xaE]at c1;exact c1.congr λg=>(MR h.wf h.lv ho h.mid.int (λr hr=>.inr (h.mid.held r hr)) h.reach hj g).symm
end au
set_option maxRecDepth 100000
namespace Go.Proofs
open Go Go.Sx
section
open au PC
section
open Classical in
noncomputable def LM(n:Nat)(ord:zL)(F:au.Fn->Prop)(v:Nat):Nat:=
 if h:∃k,nw (λg=>∃j,j<n/\ord.getD j 0=v/\fs ord F j g/\bU g v) k then Classical.choose h else 0
theorem YI{n:Nat}{ord:zL}{F:au.Fn->Prop}{v k:Nat}(h:nw (λg=>∃j,j<n/\ord.getD j 0=v/\fs ord F j g/\bU g v) k):LM n ord F v=k:=by
 unfold LM;rw[xdW ⟨k,h⟩];exact(xcj (⟨k,h⟩:∃k,nw (λg=>∃j,j<n/\ord.getD j 0=v/\fs ord F j g/\bU g v) k)).uniq h
theorem LL{n:Nat}{ord:zL}{F G:au.Fn->Prop}(e:∀g,F g↔G g)(v:Nat):LM n ord F v=LM n ord G v:=by rw[show F=G from funext λg=>propext (e g)]
def QB(w:Nat->Nat)(v:Nat):It:=((v:Int),IntKind.i64.wrap (0-((w v:Nat):Int)))
def QS(w:Nat->Nat)(n:Nat)(l:zL):Prop:=l.Perm (List.range n)/\l.Pairwise λa b=>prec (QB w b) (QB w a)=false
variable {kp:Nat} {K:Kd} {S:Nat->au.Fn} {ord tr:zL} {C:Hp}
theorem NT(hA:At kp K S ord tr C){v:Nat}(hv:v<K.n):Rd zQ 165 #[ptr kp,iv (v:Int)] C (· =.tuple #[iv ((LM K.n ord (K.held S) v:Nat):Int),iv 0]):=by
 obtain⟨K',S',bR,h,hk⟩:=hA;have hn':=hk.n;refine(MW h.rep (by rw[hn'];exact hv)).mono ?_;rintro r H ⟨e,l,h1,h2,rfl⟩;refine⟨e,?_⟩;have kV:=h.od;have Dw:=kV.of h.ok.lv (v:=v) (by rw[hn'];exact hv);have Um:=h.ok.lv.lt v (by rw[hn'];exact hv);have hc:=h.ok.NG kV Um h1 (by rw[Dw];exact h2);have hu:LM K.n ord (K.held S) v=l.length:=by
  rw[<-hn',<-LL (λg=>hk.held g)];refine YI (hc.congr λg=>?_);rw[Dw];constructor
  ·rintro⟨a,b⟩;exact⟨lv bR v,Um,Dw,a,b⟩
  rintro⟨j,hj,e1,a,b⟩;have:j=lv bR v:=by
   have:=(kV.aZ j hj).2;rw[e1]at this;exact this.symm
  subst this;exact⟨a,b⟩
 rw[hu]
theorem Mz(h:At kp K S ord tr C):Fc zQ 110 #[ptr kp] C (λr H=>∃N l,H=N++C/\QS (LM K.n ord (K.held S)) K.n l/\aS 3 .i64 r (iw l) N):=by
 have hn:=h.lP;obtain⟨w,hw⟩:∃w,w=LM K.n ord (K.held S):=⟨_,rfl⟩;rw[<-hw];refine aI λg=>Jz ?_;refine ae.aL (Br.no ?_);refine aa.fq (Wo C) ?_;rintro w0 H ⟨bh,C0,rfl,rfl,F9⟩;refine aa.eq (m6 h) ?_;refine⟨λvs H=>∃(i:Nat) (l:List It) (C':Hp),vs=[iv (i:Int)]/\i<=K.n/\H=C'++C/\Xw (.pointer (some ⟨bh,0,none⟩)) l C'/\l.Perm ((List.range i).map (QB w)),λvs _=>K.n-bN vs 0,JE.mk ⟨0,[],C0,rfl,xaN _,rfl,F9,.refl _⟩,?_⟩;rintro w1 H ⟨i,l,C',⟨⟩,hi,rfl,hh,hp⟩ gs;have nk:l.length=i:=by have:=hp.length_eq;simpa using this
 refine ae.fC (Br.dec (λhlt=>?_) (λhge=>?_))
 ·refine aa.eq (NT h hlt) ?_;rw[<-hw];apply Ext.two;refine⟨_,rfl,?_⟩;refine aa.fq (RL hh zO _ _) ?_;rintro r C2 ⟨l2,hh2,⟨hin,_⟩|⟨_,rfl,dK⟩⟩
  ·exfalso;obtain⟨y,hy,e⟩:=xan.1 hin;obtain⟨z,hz,e2⟩:=xan.1 (hp.mem_iff.1 hy);rw[<-e2]at e;have:=xaM.1 hz;simp only[QB]at e;omega
  refine ae.inc ?_;refine aC.mk ⟨i+1,l2,C2,rfl,hlt,rfl,hh2,?_⟩ (by simp only[bN];omega);refine dK.trans ?_;rw[xci,xaB];exact(List.Perm.cons _ hp).trans (xdw _ _).symm
 obtain rfl:i=K.n:=by omega
 refine⟨λvs H=>∃(s:zV) (done:zL) (l:List It) (CS C':Hp),vs=[s]/\H=CS++(C'++C)/\Xw (.pointer (some ⟨bh,0,none⟩)) l C'/\aS 3 .i64 s (iw done) CS/\(done.map (QB w)++l).Perm ((List.range K.n).map (QB w))/\done.Pairwise (λa b=>prec (QB w b) (QB w a)=false)/\(∀a∈done,∀b∈l,prec b (QB w a)=false),λvs _=>K.n-sln vs,JE.mk ⟨_,[],l,[],C',rfl,rfl,hh,aS.nil,hp,List.Pairwise.nil,by simp⟩,?_⟩;clear hp hh nk;rintro w2 H ⟨s,done,l,CS,C',⟨⟩,rfl,hh,hs,hp,hpw,hpd⟩ gs;have hlen:done.length+l.length=K.n:=by have:=hp.length_eq;simpa using this
 refine aa.eq (Ws hh) ?_;refine ae.nE (b:=0) (Br.dec (λhlt=>?_) (λhge=>?_))
 ·refine aa.fq (Wm hh zO) ?_;rintro r C2 ⟨l2,hh2,⟨rfl,_⟩|⟨a,dK,hmin,rfl⟩⟩
  ·simp at hlt
  have Ps:a∈l:=dK.mem_iff.2 (.head _);obtain⟨x,hx,hxa⟩:=xan.1 (hp.mem_iff.1 (xac _ Ps));subst hxa;refine Ext.mk rfl (Ext.mk rfl (Ext.mk rfl ?_));refine ax.int (e:=3) (x:=(x:Int)) zK zK zK λbx=>?_;refine hs.rZ (x:=(x:Int)) (.cons .left) (by exact .head _) (by rw[aq];omega) (by rw[aq];omega) λs2 CS2 sO=>?_;have e1:∀{s:zV} {done:zL} {CS:Hp},aS 3 .i64 s (iw done) CS->sln [s]=done.length:=λ{s done CS} h=>by
   obtain⟨a,c,h⟩:=aV.len h;rw[h];simp[sln,iw]
  refine aC.of .tail ⟨s2,done++[x],l2,CS2,C2,rfl,rfl,hh2,by rw[cC];exact sO,?_,?_,?_⟩ ?_
  ·refine .trans ?_ hp;rw[xaB,xai];exact xbZ _ dK.symm
  ·refine List.pairwise_append.2 ⟨hpw,List.pairwise_singleton _ _,λd hd y hy=>?_⟩;rw[xaw.1 hy];exact hpd d hd _ Ps
  ·intro d hd b hb;have Ur:b∈l:=dK.mem_iff.2 (.tail _ hb);rcases xao.1 hd with hd|hd
   ·exact hpd d hd b Ur
   rw[xaw.1 hd];exact hmin b Ur
  rw[e1 (done:=done++[x]) (by rw[cC];exact sO),e1 hs,xaf,xb3];have:=dK.length_eq;rw[xaz]at this;omega
 have hl0:l=[]:=xcN.1 zO;subst hl0;rw[xaL]at hp;refine aN.mk (aM.de .right CS) ⟨CS,done,rfl,⟨?_,hpw⟩,hs⟩;have e:∀l:zL,(l.map (QB w)).map (λi=>i.1.toNat)=l:=λl=>by
  rw[xb8]
  conv=>rhs;rw[<-xeD l]
  exact xbh λx _=>by simp[QB]
 have:=hp.map λi=>i.1.toNat;rwa [e,e]at this
end
end
section
open au
def Fm(m:Rm)(g:Nat)(W:zL->Nat->Nat)(ord:zL):List (zL)->Prop
 | []=>True
 |l::r=>QS (W ord) m.n l/\Fm m g W (ay ord (m.cm g ord l).1) r
theorem tx{m:Rm}{g:Nat}{W:zL->Nat->Nat}{l:zL}:∀{ls:List (zL)} {ord:zL},Fm m g W ord ls->QS (W (ay ord (m.cM g ord ls).1)) m.n l->Fm m g W ord (ls++[l])
 | [],ord,_,h=>⟨h,trivial⟩
 |a::r,ord,h,h'=>⟨h.1,tx h.2 (by rw[Rm.cM]at h';simp only at h';rw[cj]at h';exact h')⟩
theorem nU{m:Rm}{g:Nat}{W:zL->Nat->Nat}:∀{ls:List (zL)} {ord:zL},Fm m g W ord ls->∀l∈ls,l.Perm (List.range m.n)
 |a::r,ord,h,l,hl=>by
  rcases xak.1 hl with rfl|hl
  ·exact h.1.1
  exact nU h.2 l hl
section
variable {kp v gr:Nat} {K:Kd} {S:Nat->au.Fn} {ord tr:zL} {C:Hp}
theorem Cu(h:At kp K S ord tr C)(hp:ord.Perm (List.range K.n))(mz:100<=gr/\gr<=1000)(fh:tr.length<17317308137472):
  Fc zQ 78 #[ptr kp,iv (gr:Int)] C (λv H=>∃l,QS (LM K.n ord (K.held S)) K.n l/\v=.tuple #[rep (cG K S ord) (cG K S (ay ord ((rm K S).cm gr ord l).1)) ((rm K S).cm gr ord l).2,iv 0]/\At kp K S (ay ord ((rm K S).cm gr ord l).1) (tr++((rm K S).cm gr ord l).1) H):=by
 have hn:=h.lP;have wh:(rm K S).n=K.n:=rfl;refine aI λg=>On λb1 _=>?_;refine aa.eq (qe kp (gr:=(gr:Int)) C) ?_;rw[xab zO];refine ae.cD (Br.F (aa.eq (cF h) (Build.mk (cs:=[iv ((cG K S ord:Nat):Int),iv 0,iv 0,.bool false]) zK λUz _=>?_)));refine St.q ?_;refine aa.fq (Mz h) ?_;rintro s H ⟨NQ,l,rfl,hqs,hQ⟩;have hl:=hqs.1;have nk:l.length=K.n:=by rw[hl.length_eq,xaK]
 refine hQ.bV ?_;rw[aq,nk];refine⟨λvs H=>∃(i:Nat) (C':Hp),vs=[iv (i:Int)]/\i<=K.n/\H=(Uz,.cells (List.toArray [iv ((cG K S ord:Nat):Int),iv 0,iv ((((rm K S).cm gr ord (l.take i)).2:Nat):Int),.bool false]) 97 zZ)::(b1,.cells #[iv 0,iv 0,iv 0,.bool false] 97 zZ)::(NQ++C')/\At kp K S (ay ord ((rm K S).cm gr ord (l.take i)).1) (tr++((rm K S).cm gr ord (l.take i)).1) C',
  λvs _=>K.n-bN vs 0,JE.mk ⟨0,C,rfl,xaN _,rfl,by simpa[Rm.cm,ay]using h⟩,?_⟩
 rintro w H ⟨i,C',⟨⟩,hi,rfl,hA⟩ gs;have hok:=mG (m:=rm K S) (g:=gr) (l:=l.take i) hp (λv hv=>xaM.1 (hl.mem_iff.1 (xcE hv)));have hlt:(l.take i).length<=64:=by rw[xbF];omega
 have h1:=hok.len;have h2:=hok.pL;have h3:(rm K S).n*(l.take i).length<=64*64:=xca hn hlt;have h4:3*((rm K S).n-1)*(l.take i).length<=(3*64)*64:=xca (xda _ (by rw[wh];omega)) hlt;have ZK:=mE hp hok.mem;refine ae.fC (Br.dec (λhlt=>?_) (λhge=>?_))
 ·have RW:i<l.length:=by omega
  have nB:l.take (i+1)=l.take i++[l[i]]:=xa8 RW;refine hQ.ld (x:=((l[i]:Nat):Int)) (dg (xaa RW)) (λ_ h=>.tail _ (.tail _ (xae _ h))) ?_;have FZ:l[i]<K.n:=xaM.1 (hl.mem_iff.1 (xaH RW));refine aa.fq (U9 hA ZK FZ mz (by rw[xaf];omega) rfl) ?_;rintro w C2 ⟨rfl,og⟩;have uI:=(rm K S).AR gr (ord:=ay ord ((rm K S).cm gr ord (l.take i)).1) (FV ZK FZ);have zl:=uI.pL;rw[wh]at zl;have Wj:=yK (m:=rm K S) (g:=gr) (v:=l[i]) (l:=l.take i) (ord:=ord);rw[<-nB]at Wj;rw[xai,<-cj]at og;refine Ext.two λb30 _=>(St.q ?_);refine Ld.f ?_;refine Ld.f ?_;refine ae.fI (ai.mk (St.one (c':=List.toArray [iv ((cG K S ord:Nat):Int),iv 0,iv ((((rm K S).cm gr ord (l.take (i+1))).2:Nat):Int),.bool false]) (by exact .tail (.head _)) rfl zI (by rw[Wj];rfl) ?_));exact ae.inc (aC.of .tail ⟨i+1,C2,rfl,hlt,rfl,by rw[Wj];exact og⟩ (by simp only[bN];omega))
 obtain rfl:i=K.n:=by omega
 rw[show l.take K.n=l from by rw[<-nk];exact xbj]at hA⊢;refine aa.eq (cF hA) (ai.mk (St.one (c':=List.toArray [iv ((cG K S ord:Nat):Int),iv ((cG K S (ay ord ((rm K S).cm gr ord l).1):Nat):Int),iv ((((rm K S).cm gr ord l).2:Nat):Int),.bool false]) (by exact .head _) rfl zI rfl ?_));refine az.q ?_;refine St.q ?_;refine az.q ?_;exact aN.mk (.skip (.skip .right)) ⟨l,hqs,rfl,hA⟩
theorem Ch(h:At kp K S ord tr C)(hp:ord.Perm (List.range K.n))(mz:100<=gr/\gr<=1000)(fh:tr.length<17042430230528):
  Fc zQ 79 #[ptr kp,iv (gr:Int)] C (λv H=>∃ls,Fm (rm K S) gr (λo=>LM K.n o (K.held S)) ord ls/\(rm K S).rO gr ord ls/\v=.tuple #[rep (cG K S ord) (cG K S (ay ord ((rm K S).cM gr ord ls).1)) ((rm K S).cM gr ord ls).2,iv ((ls.length:Nat):Int),iv 0]/\At kp K S (ay ord ((rm K S).cM gr ord ls).1) (tr++((rm K S).cM gr ord ls).1) H):=by
 have hn:=h.lP;have hsz:=gv h;have wh:(rm K S).n=K.n:=rfl;have Du:∀o,(rm K S).size o=cG K S o:=λ_=>rfl;refine aI λg=>Om λb1 _=>?_;refine aa.eq (qe kp (gr:=(gr:Int)) C) ?_;rw[xab zO];refine ae.cD (Br.F (aa.eq (cF h) (Build.mk (cs:=[iv ((cG K S ord:Nat):Int),iv 0,iv 0,.bool false]) zK λUz _=>?_)));refine St.q ?_;refine⟨λvs H=>∃(ls:List (zL)) (af:Int) (C':Hp),vs=[iv ((ls.length+1:Nat):Int)]/\Fm (rm K S) gr (λo=>LM K.n o (K.held S)) ord ls/\(rm K S).sV gr ord ls/\H=(Uz,.cells (List.toArray [iv ((cG K S ord:Nat):Int),iv af,iv ((((rm K S).cM gr ord ls).2:Nat):Int),.bool false]) 97 zZ)::(b1,.cells #[iv 0,iv 0,iv 0,.bool false] 97 zZ)::C'/\At kp K S (ay ord ((rm K S).cM gr ord ls).1) (tr++((rm K S).cM gr ord ls).1) C',
  λvs _=>cG K S ord+1-bN vs 0,JE.mk ⟨[],0,C,rfl,trivial,trivial,rfl,by simpa[Rm.cM,ay]using h⟩,?_⟩
 rintro w H ⟨ls,af,C',⟨⟩,hqq,hgd,rfl,hA⟩ gs;have hls:∀l∈ls,l.Perm (List.range K.n):=nU hqq;obtain⟨g1,g2,g3,g4⟩:=zy hp hls hgd;rw[wh]at g1 g3 g4;rw[Du,Du]at g2;have nk:ls.length<=1048576:=by omega
 have h3:3*(K.n-1)*K.n*ls.length<=(3*64*64)*1048576:=xca (xca (xda _ zO) hn) nk;have h4:K.n*K.n*ls.length<=(64*64)*1048576:=xca (xca hn hn) nk;have ZK:=mE hp g1;refine aa.fq (Cu hA ZK mz (by rw[xaf];omega)) ?_;rintro w C2 ⟨l,hql,rfl,og⟩;have hl:=hql.1;have hok:=mG (m:=rm K S) (g:=gr) (l:=l) ZK (λv hv=>xaM.1 (hl.mem_iff.1 hv));have zl:=hok.pL;have hlen:l.length=K.n:=by rw[hl.length_eq,xaK]
 have hle:=hok.le;rw[wh,hlen]at zl;rw[Du,Du]at hle;have h5:3*(K.n-1)*K.n<=3*64*64:=xca (xda _ zO) hn;have Wj:=yL (m:=rm K S) (g:=gr) (l:=l) (ls:=ls) (ord:=ord);have RO:=tx hqq hql;rw[xai,<-cj]at og;have KG:=tT (m:=rm K S) (g:=gr) (l:=l) hgd;have hge:=DL (m:=rm K S) (g:=gr) (l:=l) hgd;rw[Du,Du]at KG hge;generalize hx:(rm K S).cm gr (ay ord ((rm K S).cM gr ord ls).1) l=x at*;have e1:ay (ay ord ((rm K S).cM gr ord ls).1) x.1=ay ord ((rm K S).cM gr ord (ls++[l])).1:=by rw[Wj,cj]
 rw[e1]at KG hge hle;refine Ext.two λb24 _=>(St.q ?_);refine Ld.f ?_;refine Ld.f ?_;refine ae.fI (ai.mk (St.one (c':=List.toArray [iv ((cG K S ord:Nat):Int),iv af,iv ((((rm K S).cM gr ord (ls++[l])).2:Nat):Int),.bool false]) (by exact .tail (.head _)) rfl zI (by rw[Wj];rfl) ?_));refine Ld.f ?_;refine ai.mk (St.one (c':=List.toArray [iv ((cG K S ord:Nat):Int),iv ((cG K S (ay ord ((rm K S).cM gr ord (ls++[l])).1):Nat):Int),iv ((((rm K S).cM gr ord (ls++[l])).2:Nat):Int),.bool false]) (by exact .tail (.head _)) rfl zI (by rw[<-e1];rfl) ?_);refine Ld.f ?_;refine Ld.f ?_;rw[e1];refine ae.tS (Br.dec (λalN=>?_) (λhlt=>?_))
 ·refine az.q ?_;refine St.q ?_;refine az.q ?_;exact aN.mk (.skip (.skip .tail)) ⟨ls++[l],RO,hge zO,by rw[xaf];rfl,by rw[Wj];exact og⟩
 refine ae.inc (aC.of .tail ⟨ls++[l],_,C2,by rw[xaf];rfl,RO,KG zO,rfl,by rw[Wj];exact og⟩ ?_);simp only[bN];omega
end
section
variable {kp:Nat} {K:Kd} {S:Nat->au.Fn} {ord tr:zL} {C:Hp}
def aaF(m:Rm)(F:au.Fn->Prop)(ord:zL)(s gr:Nat)(ls:zL)(c:Nat)(d:Bool):Prop:=
 (s=0/\ls=[]/\c=0/\d=false)\/
 (s=1/\∃l,QS (LM m.n ord F) m.n l/\ls=(m.cm gr ord l).1/\c=(m.cm gr ord l).2/\d=false)\/
 (s=2/\∃lss,Fm m gr (λo=>LM m.n o F) ord lss/\m.rO gr ord lss/\ls=(m.cM gr ord lss).1/\c=(m.cM gr ord lss).2/\d=false)\/
 ((3<=s/\s<=5)/\ls=(m.pass (s-1) ord).1/\c=(m.pass (s-1) ord).2/\d=false)\/
 (s=6/\∃L:ak.Fs,(∀t∈L,ak.eV m.n t)/\F=FT m.n L/\((m.size ord=ak.B m.n (ak.lvl m.n L) 0/\ls=[]/\c=0/\d=true)\/
  (m.size ord≠ak.B m.n (ak.lvl m.n L) 0/\((m.can ord (path ord (ak.ord m.n (ak.lvl m.n L) m.n 0))=true/\ls=path ord (ak.ord m.n (ak.lvl m.n L) m.n 0)/\c=(path ord (ak.ord m.n (ak.lvl m.n L) m.n 0)).length/\d=true)\/
   (m.can ord (path ord (ak.ord m.n (ak.lvl m.n L) m.n 0))=false/\ls=[]/\c=2*(m.dF 0 (path ord (ak.ord m.n (ak.lvl m.n L) m.n 0)) ord).length/\d=false)))))
def Xq(kp:Nat)(K:Kd)(S:Nat->au.Fn)(ord tr:zL)(s gr:Nat)(v:zV)(H:Hp):Prop:=
 ∃(ls:zL) (c:Nat) (d:Bool),v=.tuple #[ur (cG K S ord:Nat) (cG K S (ay ord ls):Nat) (c:Nat) d,iv 0]/\At kp K S (ay ord ls) (tr++ls) H/\ue (rm K S) ord ls/\c<=swB K.n (cG K S ord) s/\(d=true->s=6)/\aaF (rm K S) (K.held S) ord s gr ls c d
theorem Xq.shape{s gr:Nat}{v:zV}{H:Hp}(h:Xq kp K S ord tr s gr v H):∃(a b c:Int) (d:Bool) (e:zV),v=.tuple #[ur a b c d,e]:=by
 obtain⟨ls,c,d,rfl,_⟩:=h;exact⟨_,_,_,_,_,rfl⟩
theorem Cy(h:At kp K S ord tr C)(hp:ord.Perm (List.range K.n)){s gr:Nat}(hs:s<=6)(mz:100<=gr/\gr<=1000)(hx:s=6->K.n<=12)(fh:tr.length<16492674416640):
  Fc zQ 45 #[ptr kp,.int .u8 (s:Int),iv (gr:Int)] C (Xq kp K S ord tr s gr):=by
 have hn:=h.lP;have hrn:(rm K S).n=K.n:=rfl;have Du:∀o,(rm K S).size o=cG K S o:=λ_=>rfl;have win:∀w:Nat,3<=w/\w<=5->Fc zQ 45 #[ptr kp,.int .u8 (w:Int),iv (gr:Int)] C (Xq kp K S ord tr w gr):=λw hw=>by
  refine Fi h hw mz ((Xm h (w:=w-1) zO zO).mono ?_) λv H h=>h.shape;rintro v H ⟨rfl,hA⟩;obtain⟨h1,h2⟩:=E6 (m:=rm K S) (w:=w-1) (ord:=ord) zO hn;refine⟨_,_,false,rfl,hA,h1,xbI h2 (Nat.le_of_eq ?_),nofun,.inr (.inr (.inr (.inl ⟨hw,rfl,rfl,rfl⟩)))⟩;rw[hrn];obtain rfl|rfl|rfl:w=3\/w=4\/w=5:=by omega
  ·rfl
  ·show(K.n+1-3)*10=(K.n-2)*10;rw[show K.n+1-3=K.n-2 by omega]
  show(K.n+1-4)*46=(K.n-3)*46;rw[show K.n+1-4=K.n-3 by omega]
 obtain rfl|rfl|rfl|h3|rfl:s=0\/s=1\/s=2\/(3<=s/\s<=5)\/s=6:=by omega
 ·refine Fc.mono (Qu h mz) ?_;rintro v H ⟨rfl,rfl⟩;exact⟨[],0,false,rfl,by rw[xaL];exact h,.nil,xaN _,nofun,.inl ⟨rfl,rfl,rfl,rfl⟩⟩
 ·refine Qs h mz ((Cu h hp mz zO).mono ?_) λv H h=>h.shape;rintro v H ⟨l,hl,rfl,hA⟩;obtain⟨h1,h2⟩:=qc (m:=rm K S) (g:=gr) hp hl.1 hn;exact⟨_,_,false,rfl,hA,h1,h2,nofun,.inr (.inl ⟨rfl,l,hl,rfl,rfl,rfl⟩)⟩
 ·refine Fj h mz ((Ch h hp mz zO).mono ?_);rintro v H ⟨lss,hqs,hg,rfl,hA⟩;have hls:=nU hqs;exact⟨_,_,_,false,_,rfl,_,_,false,rfl,hA,u5 hn hp hls hg,E4 hp hls hg,nofun,.inr (.inr (.inl ⟨rfl,lss,hqs,hg,rfl,rfl,rfl⟩))⟩
 ·exact win s h3
 have ux:=hx rfl;refine Mq h ux mz ((UF h hp ux zO).mono ?_) λv H h=>h.shape;rintro v H ⟨L,Bl,oc,Sy,hQ⟩;have hk:∀p:zL,p.Perm (List.range K.n)->cG K S p=kE K.n p L K.n:=λp hp=>by
  unfold cG;rw[oc];exact XG Bl zO (Ko hp)
 rcases hQ with⟨e,rfl,hA⟩|⟨hne,o,ls,ho,hls,hQ⟩
 ·exact⟨[],0,true,rfl,by rw[xaL];exact hA,.nil,xaN _,λ_=>rfl,.inr (.inr (.inr (.inr ⟨rfl,L,Bl,oc,.inl ⟨e,rfl,rfl,rfl⟩⟩)))⟩
 have hop:o.Perm (List.range K.n):=by rw[ho];exact s9 _
 have hoB:cG K S o=ak.B K.n (ak.lvl K.n L) 0:=by rw[hk o hop,ho];exact s8 zO Bl
 have hle:ak.B K.n (ak.lvl K.n L) 0<=cG K S ord:=by rw[hk ord hp];exact Xf zO Bl hp
 have acM:o.Nodup:=hop.nodup_iff.2 xbl;have EF:o.length=K.n:=by rw[hop.length_eq,xaK]
 have hdl:ord.length=K.n:=by rw[hp.length_eq,xaK]
 obtain⟨Pm,RM⟩:=AY acM (hp.trans hop.symm);have zl:=Ft acM (hp.trans hop.symm) EF;rw[<-hls]at Pm RM zl;have els:ls=path ord (ak.ord (rm K S).n (ak.lvl (rm K S).n L) (rm K S).n 0):=by rw[hls,ho];rfl
 have KO:K.n*(K.n-1)<=12*11:=xca ux zO;rcases hQ with⟨hc,rfl,hA⟩|⟨hc,rfl,hA⟩
 ·refine⟨ls,_,true,by rw[Pm],by rw[Pm];exact hA,.of (λx hx=>by have:=RM x hx;omega) ?_ ?_ zO,by show ls.length<=K.n*(K.n-1);omega,λ_=>rfl,.inr (.inr (.inr (.inr ⟨rfl,L,Bl,oc,.inr ⟨hne,.inl ⟨by rw[<-els];exact hc,els,by rw[<-els],rfl⟩⟩⟩)))⟩
  ·rw[Pm,Du,Du];omega
  rw[Pm,Du,Du];omega
 have hgl:=(rm K S).l9 0 ls ord;exact⟨[],_,false,rfl,by rw[xaL];exact hA,.nil,by show 2*_<=K.n*(K.n-1);omega,nofun,.inr (.inr (.inr (.inr ⟨rfl,L,Bl,oc,.inr ⟨hne,.inr ⟨by rw[<-els];exact hc,rfl,by rw[<-els],rfl⟩⟩⟩)))⟩
end
end
end Go.Proofs
namespace au
open ak
variable {n:Nat} {ah:Nat->Nat} {N:eE} {S:Nat->Fn} {ord:zL} {R:Nat->Prop} {V:zL}
inductive Rc(N:eE)(R:Nat->Prop):Nat->Prop
 |base {r:Nat}:R r->Rc N R r
 |lo {p:Nat} {d:Nd}:Rc N R p->N p=some d->Rc N R d.lo
 |hi {p:Nat} {d:Nd}:Rc N R p->N p=some d->Rc N R d.hi
def NZ(N:eE)(V:zL):Prop:=∀u∈V,∃d,N u=some d/\(d.lo<2\/d.lo∈V)/\(d.hi<2\/d.hi∈V)
theorem JO(h0:∀r,r<2->N r=none)(hV:NZ N V)(hR:∀r,R r->r<2\/r∈V):∀l r,A N ah n R l r->r<2\/r∈V
 |0,r,ha=>hR r ha
 |l+1,r,ha=>by
  rcases ha with⟨h1,_⟩|⟨p,d,h1,h2,_,h4⟩
  ·exact JO h0 hV hR l r h1
  rcases JO h0 hV hR l p h1 with hp|hp
  ·rw[h0 p hp]at h2;cases h2
  obtain⟨d',hd,a,b⟩:=hV p hp;rw[h2]at hd;cases hd;rcases h4 with rfl|rfl
  ·exact a
  exact b
theorem Rc.at(h:WF n ah N)(hR:∀r,R r->live N r){u:Nat}(hu:Rc N R u):∀d,N u=some d->A N ah n R (ah d.v) u:=by
 induction hu with
 |base hr=>
  intro d hd;have:=tj (N:=N) (ah:=ah) (n:=n) (ah d.v) 0 hr (by rw[an hd];omega);rwa [xa5]at this
 | @lo p e hp he ih=>
  intro d hd;have hlt:=(h.lo he).2;rw[an hd]at hlt;have hb:A N ah n R (ah e.v+1) e.lo:=.inr ⟨p,e,ih e he,he,rfl,.inl rfl⟩;have:=tj (ah d.v-(ah e.v+1)) _ hb (by rw[an hd];omega);rwa [show ah e.v+1+(ah d.v-(ah e.v+1))=ah d.v by omega]at this
 | @hi p e hp he ih=>
  intro d hd;have hlt:=(h.hi he).2;rw[an hd]at hlt;have hb:A N ah n R (ah e.v+1) e.hi:=.inr ⟨p,e,ih e he,he,rfl,.inr rfl⟩;have:=tj (ah d.v-(ah e.v+1)) _ hb (by rw[an hd];omega);rwa [show ah e.v+1+(ah d.v-(ah e.v+1))=ah d.v by omega]at this
theorem LQ(h:WF n ah N)(hl:jI n ah)(ho:Ord n ah ord)(hi:Interp N S)(hR:∀r,R r->live N r)(hV:NZ N V)(hRV:∀r,R r->r<2\/r∈V)(hVR:∀u∈V,Rc N R u)(g:Fn):aD n ord (Fs S R) g↔∃u∈V,g=S u:=by
 constructor
 ·rintro⟨l,zn,hf,x,hx⟩;obtain⟨v1,v2⟩:=ho.aZ l zn;obtain⟨r,ha,rfl⟩:=(DN h hl ho hi hR l zO g).1 hf;rcases JO (λr hr=>h.const hr) hV hRV l r ha with hc|hm
  ·exfalso;have:r=0\/r=1:=by omega
   rcases this with rfl|rfl
   ·exact hx (by rw[hi.zero,hi.zero])
   exact hx (by rw[hi.one,hi.one])
  exact⟨r,hm,rfl⟩
 rintro⟨u,hu,rfl⟩;obtain⟨d,hd,_⟩:=hV u hu;have hv:=h.var hd;refine⟨ah d.v,hl.lt _ hv,(DN h hl ho hi hR _ (xb7 (hl.lt _ hv)) _).2 ⟨u,(hVR u hu).at h hR d hd,rfl⟩,?_⟩;rw[ho.of hl hv];exact gn h hl hi hd
theorem UI(h:WF n ah N)(hl:jI n ah)(ho:Ord n ah ord)(hi:Interp N S)(hR:∀r,R r->live N r)(hV:NZ N V)(hRV:∀r,R r->r<2\/r∈V)(hVR:∀u∈V,Rc N R u)(nd:V.Nodup):nw (aD n ord (Fs S R)) V.length:=by
 have live':∀u∈V,live N u:=λu hu=>let ⟨d,hd,_⟩:=hV u hu;.inr ⟨d,hd⟩
 refine⟨V.map S,?_,by simp,λg=>?_⟩
 ·refine xbJ.2 (nd.imp_of_mem λ{a b} ha hb hne e=>hne ?_);exact h.same hl hi (live' a ha) (live' b hb) λx=>congrFun e x
 rw[LQ h hl ho hi hR hV hRV hVR,xan];exact⟨λ⟨u,hu,e⟩=>⟨u,hu,e.symm⟩,λ⟨u,hu,e⟩=>⟨u,hu,e.symm⟩⟩
theorem LR(h:WF n ah N)(hl:jI n ah)(hi:Interp N S)(hV:NZ N V){v:Nat}(hno:∀u∈V,∀d,N u=some d->d.v≠v):∀(k u:Nat),n-dep n ah N u<=k->u<2\/u∈V->∀x,S u (aB x v false)=S u (aB x v true):=by
 intro k;have const:∀u,u<2->∀x,S u (aB x v false)=S u (aB x v true):=λu hu x=>by
  have:u=0\/u=1:=by omega
  rcases this with rfl|rfl
  ·rw[hi.zero,hi.zero]
  rw[hi.one,hi.one]
 induction k with
 |zero=>
  intro u hk hu x;rcases hu with hu|hu
  ·exact const u hu x
  obtain⟨d,hd,_⟩:=hV u hu;rw[an hd]at hk;have:=hl.lt _ (h.var hd);omega
 |succ k ih=>
  intro u hk hu x;rcases hu with hu|hu
  ·exact const u hu x
  obtain⟨d,hd,a,b⟩:=hV u hu;have h1:=(h.lo hd).2;have h2:=(h.hi hd).2;have h3:=hl.lt _ (h.var hd);rw[an hd]at hk;have hne:=hno u hu d hd;rw[hi.node hd,hi.node hd,aj,aj,xab hne,xab hne,ih d.lo zO a,ih d.hi zO b]
theorem Rc.bU(h:WF n ah N)(hl:jI n ah)(hi:Interp N S){r u v:Nat}(hu:Rc N (λq=>q=r) u):bU (S u) v->bU (S r) v:=by
 have step:∀(p q:Nat) (d:Nd) (b:Bool),N p=some d->q=(if b then d.hi else d.lo)->au.bU (S q) v->au.bU (S p) v:=λp q d b hp hq hv=>by
  have Wl:live N q/\ah d.v+1<=dep n ah N q:=by
   cases b
   ·rw[hq];exact h.lo hp
   rw[hq];exact h.hi hp
  have ind:∀x c,S q (aB x d.v c)=S q x:=λx c=>h.bJ hl hi Wl.1 (h.var hp) zO x c;obtain⟨x,hx⟩:=hv;have hne:v≠d.v:=λe=>by
   subst e;exact hx (by rw[ind,ind])
  refine⟨aB x d.v b,?_⟩;have e:∀c,S p (aB (aB x d.v b) v c)=S q (aB x v c):=λc=>by
   have tb:(aB (aB x d.v b) v c).testBit d.v=b:=by rw[aj,xab (λe=>hne e.symm),aj,xad rfl]
   rw[hi.node hp,tb,di (λe=>hne e.symm),<-ind (aB x v c) b,hq];cases b<;>rfl
  rw[e,e];exact hx
 induction hu with
 |base hr=>rw[hr];exact id
 |lo _ he ih=>exact λhv=>ih (step _ _ _ false he rfl hv)
 |hi _ he ih=>exact λhv=>ih (step _ _ _ true he rfl hv)
theorem LS(h:WF n ah N)(hl:jI n ah)(hi:Interp N S){r:Nat}(hV:NZ N V)(hr:r<2\/r∈V)(hVR:∀u∈V,Rc N (λq=>q=r) u)(v:Nat):bU (S r) v↔∃u∈V,∃d,N u=some d/\d.v=v:=by
 constructor
 ·rintro⟨x,hx⟩;refine xaD λhno=>hx (LR h hl hi hV (λu hu d hd e=>hno ⟨u,hu,d,hd,e⟩) _ r (xaj _) hr x)
 rintro⟨u,hu,d,hd,rfl⟩;exact(hVR u hu).bU h hl hi (gn h hl hi hd)
end au
set_option maxRecDepth 100000
namespace Go.Proofs
open Go Go.Sx
section
open au
section
variable {kp mb b7 b1 b3 BA Uy:Nat} {cap:Array zV} {K:Kd} {S:Nat->au.Fn} {ord ah tr:zL} {C Z:Hp} {P:zL->Hp->Prop}
def yM(V:zL):List (Nat×Unit):=V.map λr=>(r,())
theorem vj{V:zL}{r:Nat}:aG (yM V) r=if r∈V then some ()else none:=by
 unfold yM;induction V with
 |nil=>rfl
 |cons a V ih=>
  unfold aG at*;rw[xay,xbv];by_cases e:a=r
  ·subst e;simp
  simp only[e,xdn];rw[ih];have:(r∈a::V)↔r∈V:=by simp[xa9 e]
  by_cases hv:r∈V
  ·rw[xad hv,xad (this.2 hv)]
  rw[xab hv,xab λh=>hv (this.1 h)]
theorem Qm{V:zL}{r:Nat}(h:r∉V):eo (yM V) r ()=yM (V++[r]):=by
 unfold eo yM;rw[xab (by rw[xb8];simpa using h),xaB];rfl
abbrev Er(es:Array MapEntry)(ck:Nat)(V:zL):Prop:=aF kr (λv (_:Unit)=>v=i64 1) es ck (yM V)
structure Walk(K:Kd)(V V':zL)(r:Nat):Prop where
 nd:V'.Nodup
 sub:∀u∈V,u∈V'
 has:r<2\/r∈V'
 shut:∀u∈V',u∉V->∃d,K.N u=some d/\(d.lo<2\/d.lo∈V')/\(d.hi<2\/d.hi∈V')
 rc:∀u∈V',u∉V->Rc K.N (λq=>q=r) u
def XA(Uy:Nat)(cap:Array zV)(K:Kd)(P:zL->Hp->Prop):Prop:=aU zQ Uy=true/\∀(V:zL) (r:Nat) (d:Nd) (G:Hp),K.N r=some d->P V G->Fc zQ Uy (#[.agg (bt d).toArray]++cap) G (λv G'=>v=.tuple #[]/\P (V++[r]) G')
theorem yO{N:eE}{r q u:Nat}(h1:Rc N (λx=>x=r) q)(h2:Rc N (λx=>x=q) u):Rc N (λx=>x=r) u:=by
 induction h2 with
 |base e=>rw[e];exact h1
 |lo _ hd ih=>exact .lo ih hd
 |hi _ hd ih=>exact .hi ih hd
theorem UH(h:bP kp K S ord ah tr C)(hd:XA Uy cap K P)(h7:(b7,Obj.cells #[.map (some mb)] 256 zZ)∈Z)(h1:(b1,Obj.cells #[ptr kp] 53 zZ)∈Z)(h3:(b3,Obj.cells #[.func (.func Uy) #[] cap] 189 zZ)∈Z)
 (h10:(BA,Obj.cells #[.func (.func 194) #[] #[ptr b7,ptr b1,ptr b3,ptr BA]] 183 zZ)∈Z):
  ∀(k r:Nat) (es:Array MapEntry) (ck:Nat) (V:zL) (G:Hp),K.n-dep K.n (lv ah) K.N r<=k->live K.N r->V.Nodup->Er es ck V->P V G->
  Fc zQ 194 #[u32 r,ptr b7,ptr b1,ptr b3,ptr BA] ((mb,.map es ck)::(G++(Z++C))) (λv H=>v=.tuple #[]/\∃es' bB V' G',H=(mb,.map es' bB)::(G'++(Z++C))/\Er es' bB V'/\P V' G'/\Walk K V V' r):=by
 have stop:∀{r:Nat} {es:Array MapEntry} {ck:Nat} {V:zL} {G:Hp},V.Nodup->Er es ck V->P V G->(r<2\/r∈V)->
   Fc zQ 194 #[u32 r,ptr b7,ptr b1,ptr b3,ptr BA] ((mb,.map es ck)::(G++(Z++C))) (λv H=>v=.tuple #[]/\∃es' bB V' G',H=(mb,.map es' bB)::(G'++(Z++C))/\Er es' bB V'/\P V' G'/\Walk K V V' r):=by
  intro r es ck V G fD hE hP hr;refine aI λg=>xG (aa.eq (pz r _) (cS.or (a:=decide (r<2)) (decide (r∈V)) (λ_=>?_) rfl λ_=>?_))
  ·refine Ld.mk (v:=.map (some mb)) (.tail _ (xac _ (xae _ h7))) rfl ?_;by_cases hm:r∈V
   ·refine hE.hit (k:=r) cY (b:=mb) (by exact .head _) (by rw[vj,xad hm]) λv e=>?_;subst e;exact ae.gtr ⟨rfl,by rw[xam hm];rfl⟩
   refine hE.bO (k:=r) cY (b:=mb) (by exact .head _) (by rw[vj,xab hm]) ?_;exact ae.gtr ⟨rfl,by rw[xal hm];rfl⟩
  rw[<-xa4,xam hr];refine Br.yes (aN.mk (.refl _) ⟨rfl,es,ck,V,G,rfl,hE,hP,⟨fD,λ_ h=>h,hr,λu h h'=>absurd h h',λu h h'=>absurd h h'⟩⟩)
 intro k;induction k with
 |zero=>
  intro r es ck V G hk hr fD hE hP;refine stop fD hE hP (.inl ?_);cases hN:K.N r with
  |some d=>
   rw[an hN]at hk;have:=h.ok.lv.lt _ (h.ok.mid.var hN);omega
  |none=>
   rcases hr with hr|⟨d,e⟩
   ·exact hr
   rw[hN]at e;cases e
 |succ k ih=>
  intro r es ck V G hk hr fD hE hP;by_cases hs:r<2\/r∈V
  ·exact stop fD hE hP hs
  have qx:¬r<2:=λh=>hs (.inl h);have ZF:r∉V:=λh=>hs (.inr h);obtain⟨d,hN⟩:∃d,K.N r=some d:=by
   rcases hr with hr|hr
   ·omega
   exact hr
  have hlo:=h.ok.wf.lo hN;have hhi:=h.ok.wf.hi hN;rw[an hN]at hk;have hvl:=h.ok.lv.lt _ (h.ok.mid.var hN);refine aI λg=>xG (aa.eq (pz r _) (cS.or (a:=decide (r<2)) false (λ_=>?_) rfl λ_=>?_))
  ·refine Ld.mk (v:=.map (some mb)) (.tail _ (xac _ (xae _ h7))) rfl ?_;refine hE.bO (k:=r) cY (b:=mb) (by exact .head _) (by rw[vj,xab ZF]) ?_;exact ae.gtr ⟨rfl,rfl⟩
  rw[xal qx];refine Br.no (Ld.mk (v:=.map (some mb)) (.tail _ (xac _ (xae _ h7))) rfl ?_);refine hE.bK (k:=r) (b:=mb) (x:=()) cY gT rfl λkB jN Gb=>⟨_,.head _,?_⟩;rw[Qm ZF]at Gb;refine Ld.mk (v:=ptr kp) (.tail _ (xac _ (xae _ h1))) rfl ?_;refine aa.eq (args:=#[ptr kp,u32 r]) (wR h hN) λje _=>?_;refine St.p (fA d) ?_;refine Ld.mk (v:=.func (.func Uy) #[] cap) (.tail _ (.tail _ (xac _ (xae _ h3)))) rfl ?_;refine az.q ?_;refine aE.of rfl hd.1 (aa.fn (.cons (.cons .left)) (by simpa using hd.2 V r d G hN hP) ?_);rintro v G1 ⟨rfl,hP1⟩;refine Ld.mk (v:=.func (.func 194) #[] #[ptr b7,ptr b1,ptr b3,ptr BA]) (.tail _ (.tail _ (xac _ (xae _ h10)))) rfl ?_;refine Ld.f (v:=u32 d.lo) (aE.of rfl zK ?_);have ags:(V++[r]).Nodup:=xa3.2 ⟨fD,by simp,λa ha b hb e=>ZF (by rw[xaw.1 hb]at e;rwa [<-e])⟩;refine aa.fq (args:=#[u32 d.lo,ptr b7,ptr b1,ptr b3,ptr BA]) (ih d.lo kB jN (V++[r]) G1 zO hlo.1 ags Gb hP1) ?_;rintro v H ⟨rfl,gV,iE,V2,G2,rfl,sS,hP2,w2⟩;refine Ld.mk (v:=.func (.func 194) #[] #[ptr b7,ptr b1,ptr b3,ptr BA]) (.tail _ (.tail _ (xac _ (xae _ h10)))) rfl ?_;refine Ld.f (v:=u32 d.hi) (aE.of rfl zK (aa.fq (args:=#[u32 d.hi,ptr b7,ptr b1,ptr b3,ptr BA]) (ih d.hi gV iE V2 G2 zO hhi.1 w2.nd sS hP2) ?_));rintro v H ⟨rfl,po,qR,V3,G3,rfl,Pv,hP3,w3⟩;have r2:r∈V2:=w2.sub r zI;refine aN.mk .tail ⟨rfl,po,qR,V3,G3,rfl,Pv,hP3,⟨w3.nd,λu hu=>w3.sub u (w2.sub u (xae _ hu)),.inr (w3.sub r r2),λu hu hn=>?_,λu hu hn=>?_⟩⟩
  ·by_cases We:u∈V2
   ·by_cases F0:u∈V++[r]
    ·rcases xao.1 F0 with h'|h'
     ·exact absurd h' hn
     rw[xaw.1 h'];exact⟨d,hN,w2.has.imp id (w3.sub _),w3.has⟩
    obtain⟨e,he,a,b⟩:=w2.shut u We F0;exact⟨e,he,a.imp id (w3.sub _),b.imp id (w3.sub _)⟩
   exact w3.shut u hu We
  by_cases We:u∈V2
  ·by_cases F0:u∈V++[r]
   ·rcases xao.1 F0 with h'|h'
    ·exact absurd h' hn
    exact .base (xaw.1 h')
   exact yO (Rc.lo (.base rfl) hN) (w2.rc u We F0)
  exact yO (Rc.hi (.base rfl) hN) (w3.rc u hu We)
theorem Eb(h:bP kp K S ord ah tr C)(hd:XA Uy cap K P){r b:Nat}{X G:Hp}(hr:live K.N r)(hP:P [] G)(hm:(b,Obj.cells (aA .u32 [(r:Int)]) 78 zZ)∈X):
  Fc zQ 129 #[ptr kp,.slice (some ⟨b,0,none⟩) 1 1,.func (.func Uy) #[] cap] (G++(X++C)) (λv H=>v=.tuple #[]/\∃V G',H=G'++(X++C)/\P V G'/\V.Nodup/\NZ K.N V/\(r<2\/r∈V)/\∀u∈V,Rc K.N (λq=>q=r) u):=by
 refine aI λg=>Jf λb1 _ b3 _ mb _ b7 _=>?_;refine St.one (c':=#[.map (some mb)]) (by exact .head _) rfl zI rfl ?_;intro BA _;refine St.one (c':=#[.func (.func 194) #[] #[ptr b7,ptr b1,ptr b3,ptr BA]]) (by exact .head _) rfl zI rfl ?_;refine aR.mk ?_;obtain⟨Z,hZ⟩:∃Z:Hp,Z=(BA,Obj.cells #[.func (.func 194) #[] #[ptr b7,ptr b1,ptr b3,ptr BA]] 183 zZ)::(b7,.cells #[.map (some mb)] 256 zZ)::(b3,.cells #[.func (.func Uy) #[] cap] 189 zZ)::(b1,.cells #[ptr kp] 53 zZ)::X:=⟨_,rfl⟩;have Pn:∀(e:Obj),List.Perm ((BA,Obj.cells #[.func (.func 194) #[] #[ptr b7,ptr b1,ptr b3,ptr BA]] 183 zZ)::(b7,.cells #[.map (some mb)] 256 zZ)::(mb,e)::(b3,.cells #[.func (.func Uy) #[] cap] 189 zZ)::(b1,.cells #[ptr kp] 53 zZ)::(G++(X++C))) ((mb,e)::(G++(Z++C))):=λe=>by
  rw[hZ];refine((List.Perm.cons _ (List.Perm.swap _ _ _)).trans (List.Perm.swap _ _ _)).trans (.cons _ ?_);have:∀(a b c d:Nat×Obj),(a::b::c::d::(G++(X++C))).Perm (G++(a::b::c::d::(X++C))):=λa b c d=>by
   have:=(xbb (l₁:=[a,b,c,d]) (l₂:=G)).append_right (X++C);simpa[xai]using this
  exact this _ _ _ _
 refine⟨λvs H=>∃(i:Nat) (es:Array MapEntry) (ck:Nat) (V:zL) (G':Hp),vs=[i64 (i:Int)]/\H=(mb,.map es ck)::(G'++(Z++C))/\Er es ck V/\P V G'/\((i=0/\V=[])\/(i=1/\Walk K [] V r)),λvs _=>1-bN vs 0,JE.of (.perm (Pn _)) ⟨0,#[],0,[],G,rfl,rfl,aF.empty,hP,.inl ⟨rfl,rfl⟩⟩,?_⟩;rintro w H ⟨i,es,ck,V,G',⟨⟩,rfl,hE,hPV,hi⟩ gs;have mZ:∀{x:Nat×Obj},x∈Z->x∈(mb,Obj.map es ck)::(G'++(Z++C)):=λhx=>.tail _ (xac _ (xae _ hx));rcases hi with⟨rfl,rfl⟩|⟨rfl,hw⟩
 ·refine ae.fC (b:=1) (Br.T (av.nat zD ?_));refine Ld.mk (v:=u32 r) (mZ (by rw[hZ];exact .tail _ (.tail _ (.tail _ (.tail _ hm))))) rfl ?_;refine Ld.mk (v:=.func (.func 194) #[] #[ptr b7,ptr b1,ptr b3,ptr BA]) (mZ (by rw[hZ];exact .head _)) rfl ?_;refine aE.of rfl zK (aa.fq (args:=#[u32 r,ptr b7,ptr b1,ptr b3,ptr BA]) (UH (Z:=Z) h hd (by rw[hZ];exact .tail _ (.head _)) (by rw[hZ];exact .tail _ (.tail _ (.tail _ (.head _)))) (by rw[hZ];exact .tail _ (.tail _ (.head _))) (by rw[hZ];exact .head _) K.n r es ck [] G' (xdt _ _) hr List.nodup_nil hE hPV) ?_);rintro v H ⟨rfl,gV,iE,V2,G2,rfl,sS,hP2,w2⟩;exact ae.inc (a:=0) (aC.mk ⟨1,gV,iE,V2,G2,rfl,rfl,sS,hP2,.inr ⟨rfl,w2⟩⟩ (by simp only[bN];decide))
 refine ae.fC (b:=1) (Br.F (aN.mk ?_ ⟨rfl,V,G',rfl,hPV,hw.nd,λu hu=>hw.shut u hu zI,hw.has,λu hu=>hw.rc u hu zI⟩));rw[hZ];exact .skip (.de (.skip (.skip (.skip .tail))) _)
theorem Bq(h:bP kp K S ord ah tr C)(b6:Nat):XA 132 #[ptr b6] K (λV G=>∃m:Nat,G=[(b6,.cells #[u64 m] 33 zZ)]/\m<18446744073709551616/\∀v,m.testBit v=true↔∃u∈V,∃d,K.N u=some d/\d.v=v):=by
 refine⟨by kernel_rfl,?_⟩;rintro V r d G hN ⟨m,rfl,hm,hv⟩;have hn:=h.aZ.lP;have kA:=h.ok.mid.var hN;refine aI λg=>Jd λb1 _=>?_;refine DR.of (.refl _) (Ld.mk (v:=u64 m) (.tail _ (.head _)) rfl ?_);refine Ld.f (v:=i64 (d.v:Int)) (ae.nR (a:=1) ?_);have e:(1<<<d.v)%18446744073709551616=2^d.v:=by
  rw[xcn,xdk];exact xbk (xaP (xbx zD (show d.v<64 by omega)) zD)
 rw[e];have h2:2^d.v<18446744073709551616:=xaP (xbx zD (show d.v<64 by omega)) zD;refine ae.Kq (by simpa[bG]using hm) (by simpa[bG]using h2) λF=>?_;refine St.one (c':=#[u64 (m|||2^d.v)]) (by exact .tail (.head _)) rfl zI rfl ?_;refine aN.mk .tail ⟨rfl,_,rfl,xbH (n:=64) hm h2,λv=>?_⟩;rw[xb1,xbs,hv,xbX,xaJ];constructor
 ·rintro(⟨u,hu,e,he,M8⟩|rfl)
  ·exact⟨u,xae _ hu,e,he,M8⟩
  exact⟨r,by simp,d,hN,rfl⟩
 rintro⟨u,hu,e,he,M8⟩;rcases xao.1 hu with hu|hu
 ·exact .inl ⟨u,hu,e,he,M8⟩
 rw[xaw.1 hu,hN]at he;cases he;exact .inr M8
def GM(f:au.Fn)(m:Nat):Prop:=m<18446744073709551616/\∀v,m.testBit v=true↔bU f v
theorem GM.uniq{f:au.Fn}{m m':Nat}(h:GM f m)(h':GM f m'):m=m':=xaV λv=>by
 rw[xbE,h.2,h'.2]
theorem D1(h:bP kp K S ord ah tr C){r:Nat}(hr:live K.N r):
  Rd zQ 92 #[ptr kp,u32 r] C (λv=>∃m,GM (S r) m/\v=.tuple #[u64 m,i64 0]):=by
 refine aI λg=>Ob (ax.int (e:=78) zK zK zK λbx=>?_);refine aa.eh .here (wU (X:=[(bx,_)]) h (by exact .head _) hr) (ae.cD (Br.F λb6 _=>(St.one (c':=#[u64 0]) (by exact .head _) rfl zI rfl ?_)));refine ax.int (e:=78) zK zK zK λby'=>?_;refine aa.pre (H':=[(b6,Obj.cells #[u64 0] 33 zZ)]++([(by',Obj.cells (aA .u32 [(r:Int)]) 78 zZ),(bx,Obj.cells (aA .u32 [(r:Int)]) 78 zZ)]++C)) (.perm (.swap _ _ _)) ?_;refine aa.fn .here (Eb (P:=λV G=>∃m:Nat,G=[(b6,.cells #[u64 m] 33 zZ)]/\m<18446744073709551616/\∀v,m.testBit v=true↔∃u∈V,∃d,K.N u=some d/\d.v=v) h (Bq h b6) hr ⟨0,rfl,by decide,λv=>by simp⟩ (by exact .head _)) ?_;rintro v H ⟨rfl,V,G,rfl,⟨m,rfl,hm,hv⟩,fD,hsh,ZF,hrc⟩;refine Ld.q ?_;refine bc.mk (.skip (.skip .tail)) ⟨m,⟨hm,λv=>?_⟩,rfl⟩;rw[hv,LS h.ok.wf h.ok.lv h.ok.mid.int hsh ZF hrc]
theorem NC(b4:Nat):XA 130 #[ptr b4] K (λV G=>∃x:Int,G=[(b4,.cells #[i64 x] 3 zZ)]/\(V.length<4611686018427387904->x=V.length)):=by
 refine⟨by kernel_rfl,?_⟩;rintro V r d G hN ⟨x,rfl,hx⟩;refine aI λg=>Je λb1 _=>?_;refine Ld.mk (v:=i64 x) (.tail _ (.head _)) rfl ?_;refine ae.add (St.one (c':=#[i64 (IntKind.i64.wrap (x+1))]) (by exact .tail (.head _)) rfl zI rfl ?_);refine aN.mk .tail ⟨rfl,_,rfl,λhl=>?_⟩;rw[xaf,xb3]at hl⊢;rw[hx zO,wrap_i64 zO];omega
theorem Tc(h:bP kp K S ord ah tr C){r b:Nat}{X:Hp}(hr:live K.N r)(hm:(b,Obj.cells (aA .u32 [(r:Int)]) 78 zZ)∈X):
  Rd zQ 90 #[ptr kp,.slice (some ⟨b,0,none⟩) 1 1] (X++C) (· =.tuple #[i64 ((sz K.n ord (λg=>g=S r):Nat):Int),i64 0]):=by
 refine aI λg=>Oc (aa.eq (wU (X:=X) h hm hr) (ae.cD (Br.F ?_)));intro b4 _;refine St.one (c':=#[i64 0]) (by exact .head _) rfl zI rfl ?_;refine aa.fn (C:=[(b4,Obj.cells #[i64 0] 3 zZ)]++(X++C)) .here (Eb (P:=λV G=>∃x:Int,G=[(b4,.cells #[i64 x] 3 zZ)]/\(V.length<4611686018427387904->x=V.length)) h (NC b4) hr ⟨0,rfl,λ_=>rfl⟩ hm) ?_;rintro v H ⟨rfl,V,G,rfl,⟨x,rfl,hx⟩,fD,hsh,ZF,hrc⟩;refine Ld.q ?_;refine bc.mk .tail ?_;have hc:=UI h.ok.wf h.ok.lv h.od h.ok.mid.int (R:=λq=>q=r) (λq hq=>by rw[hq];exact hr) hsh (λq hq=>by rw[hq];exact ZF) hrc fD;have hlen:V.length<=1048576:=by
  have:∀u∈V,u∈List.range 1048576:=λu hu=>by
   obtain⟨d,hd,_⟩:=hsh u hu;exact xaM.2 (h.bM (.inr ⟨d,hd⟩))
  have:=cu fD this;rwa [xaK]at this
 rw[hx zO,<-JX hc];have e:Fs S (λq=>q=r)=λg=>g=S r:=funext λg=>propext ⟨λ⟨q,hq,e⟩=>by rw[e,hq],λe=>⟨r,rfl,e⟩⟩;rw[e];rfl
end
end
section
open au
section
variable {C:Hp}
def Tl(p:Bool)(v:zV):Prop:=∃(n:Nat) (b:Bool),n<18446744073709551616/\v=.agg [u64 n,.bool b].toArray/\(b||decide (n≠0))=p
theorem p6(n:Nat)(b:Bool):∀u∈[u64 n,Value.bool b],u.oneCell'=true:=λu hu=>by
 rcases xak.1 hu with rfl|hu
 ·rfl
 rw[xaw.1 hu];rfl
theorem Tl.no:Tl false (.agg #[u64 0,.bool false]):=⟨0,false,by decide,rfl,rfl⟩
theorem Tl.yes:Tl true (.agg #[u64 1,.bool false]):=⟨1,false,by decide,rfl,rfl⟩
theorem yF{p:Bool}{v:zV}(h:Tl p v):Rd zQ 198 #[v,u64 0] C (· =.bool p):=by
 obtain⟨n,b,hn,rfl,hp⟩:=h;refine aI λg=>Im λb1 _=>?_;refine Ld.f (v:=.bool b) (cS.or (a:=b) (decide (n≠0)) (λ_=>?_) rfl λ_=>?_)
 ·exact Ld.f (v:=u64 n) (ae.nE (b:=0) ⟨rfl,by rw[xaZ.2 (show 0<n↔n≠0 by omega)]⟩)
 rw[hp];exact bc.mk .tail rfl
theorem B9{p q:Bool}{v w:zV}(h:Tl p v)(h':Tl q w):Rd zQ 258 #[v,w] C (Tl (p||q)):=by
 obtain⟨n,b,hn,rfl,hp⟩:=h;obtain⟨m,d,hm,rfl,hq⟩:=h';refine aI λg=>Hq λb1 _ b3 _ b5 _=>?_;refine Ld.f (v:=u64 n) (Ld.f (v:=u64 m) (ae.aeg (Ld.f (v:=.bool b) (cS.or (a:=b) d (λ_=>?_) rfl λ_=>?_))))
 ·exact Ld.f (v:=.bool d) (⟨rfl,rfl⟩)
 refine cS.or (a:=b||d) (decide ((n+m)%18446744073709551616<n)) (λ_=>?_) rfl λ_=>?_
 ·refine Ld.f (v:=u64 n) (ae.fC ⟨rfl,rfl⟩)
 refine Build.mk (cs:=[u64 ((n+m)%18446744073709551616),.bool (b||d||decide ((n+m)%18446744073709551616<n))]) zK ?_;refine St.p (r:=[u64 ((n+m)%18446744073709551616),.bool (b||d||decide ((n+m)%18446744073709551616<n))]) (p6 _ _) ?_;refine az.q ?_;refine bc.mk (.skip (.skip .tail)) ⟨_,_,xbB _ zD,rfl,?_⟩;rw[<-hp,<-hq];cases b<;>cases d<;>simp only[Bool.true_or,xdJ,xdx];rw[<-xa4,<-xa4];exact xaZ.2 zO
theorem L3{p:Bool}{v:zV}(h:Tl p v)(k:Nat):Rd zQ 256 #[v,i64 (k:Int)] C (Tl p):=by
 obtain⟨n,b,hn,rfl,hp⟩:=h;refine aI λg=>Hr λb1 _ b3 _=>?_;refine ae.dx (b:=0) (cS.or (a:=decide (k=0)) (decide (n=0)) (λ_=>?_) rfl λ_=>?_)
 ·exact Ld.f (v:=u64 n) (ae.dx (b:=0) ⟨rfl,rfl⟩)
 refine Br.mk (λhb=>?_) (λhb=>?_)
 ·refine az.whole (r:=[u64 n,.bool b]) (T:=261) (fz:=(0,0)) (by exact .tail _ (.head _)) rfl ?_;refine St.p (r:=[u64 n,.bool b]) (p6 _ _) ?_;refine az.q ?_;exact bc.mk (.skip .tail) ⟨n,b,hn,rfl,hp⟩
 rw[<-xa4]at hb;have hb:=xdg hb;refine Ld.f (v:=u64 n) (ae.nR λJ Nm=>?_);have fin:∀x:Bool,(x||decide ((n<<<k)%18446744073709551616≠0))=true->J [] ((b3,.cells [u64 ((n<<<k)%18446744073709551616),.bool x].toArray 261 zZ)::(b1,.cells (Value.cells (.agg [u64 n,.bool b].toArray)) 261 zZ)::C):=λx hx=>Nm _ λ_=>by
  refine az.q ?_;refine bc.mk (.skip .tail) ⟨_,x,xbB _ zD,rfl,?_⟩;rw[hx,<-hp];have:decide (n≠0)=true:=xam zO;rw[this,xdJ]
 refine DR.of (.refl _) (ae.dx (b:=0) (Br.mk (λhz=>?_) (λhz=>?_)))
 ·refine Build.mk (cs:=[u64 ((n<<<k)%18446744073709551616),.bool true]) zK λF=>?_;exact St.p (r:=[u64 ((n<<<k)%18446744073709551616),.bool true]) (p6 _ _) (JE.mk (fin true rfl))
 refine ae.iK (xbB _ zD) (Ld.f (v:=u64 n) (ae.x5 (aH.mk (Build.mk (cs:=[u64 ((n<<<k)%18446744073709551616),.bool (decide (((n<<<k)%18446744073709551616)>>>k≠n))]) zK λF=>?_))));refine St.p (r:=[u64 ((n<<<k)%18446744073709551616),.bool (decide (((n<<<k)%18446744073709551616)>>>k≠n))]) (p6 _ _) (JE.mk (fin _ ?_));rw[xam (p:=(n<<<k)%18446744073709551616≠0) (xdg hz),xdJ]
end
section
variable {kp d nm n f F V:Nat} {kz:zV} {K:Kd} {S:Nat->au.Fn} {ord ah tr:zL} {C Z:Hp}
abbrev ES(n f nm:Nat)(kz:zV)(F V:Nat):Array zV:=#[i64 (n:Int),u32 f,.map (some nm),kz,u64 F,u64 V]
theorem JR{v b:Nat}(hl:kz.oneCell'=true)(hv:v<64)(hb:b<=1)(hF:F<18446744073709551616)(hV:V<18446744073709551616):
  Fc zQ 199 #[ptr d,i64 (v:Int),u64 b] ((d,.cells (ES n f nm kz F V) 266 zZ)::C) (λw H=>w=.tuple #[]/\∃F' V',H=(d,.cells (ES n f nm kz F' V') 266 zZ)::C/\F'<18446744073709551616/\V'<18446744073709551616/\
   (∀j,F'.testBit j=(F.testBit j||decide (j=v)))/\∀j,V'.testBit j=if j=v then decide (b=1)else V.testBit j):=by
 have e1:(1<<<v)%18446744073709551616=2^v:=by
  rw[xcn,xdk];exact xbk (xaP (xbx zD hv) zD)
 have h2:2^v<18446744073709551616:=xaP (xbx zD hv) zD;have eb:(b<<<v)%18446744073709551616=b*2^v:=by
  rw[xcn];refine xbk (xaA (xaX _ hb) zO)
 have tN:b*2^v<18446744073709551616:=xaA (xaX _ hb) zO;have hVa:nf V (2^v)<18446744073709551616:=xaA (m9 _ _) hV;refine aI λg=>Il (DR.of (.refl _) (Ld.n (v:=u64 F) ?_));refine ae.nR (a:=1) ?_;rw[e1];refine ae.Kq (by simpa[bG]using hF) (by simpa[bG]using h2) (.ptr (.mk ?_));intro G;refine St.one (c':=ES n f nm kz (F|||2^v) V) (.head _) rfl zI rfl ?_;refine DR.of (.refl _) (Ld.n (v:=u64 V) (ae.nR (a:=1) ?_));rw[e1];refine ae.Ej (by simpa[bG]using hV) (by simpa[bG]using h2) (ae.nR ?_);rw[eb];refine ae.Kq (by simpa[bG]using hVa) (by simpa[bG]using tN) (.ptr (.mk ?_));intro G;refine St.one (c':=ES n f nm kz (F|||2^v) (nf V (2^v)|||b*2^v)) (.head _) rfl zI rfl ?_;refine aN.mk (.refl _) ⟨rfl,_,_,rfl,xbH (n:=64) hF h2,xbH (n:=64) hVa tN,λj=>?_,λj=>?_⟩
 ·rw[xb1,xbX];congr 1;exact xaZ.2 eq_comm
 rw[xb1,dG,xbX];have:b=0\/b=1:=by omega
 by_cases e:j=v
 ·rw[xad e,e,xam rfl];rcases this with rfl|rfl
  ·simp
  simp[xbX]
 rw[xab e,xal (xa9 e)];rcases this with rfl|rfl
 ·simp
 rw[xdk,xbX,xal (xa9 e)];simp
structure Fal(n:Nat)(ns:zL):Prop where
 len:ns.length=n+1
 le:∀a,a<=n->ns.getD a 0<=n+1
 step:∀a,a<n->ns.getD (a+1) 0<=ns.getD a 0
theorem Fal.mono{ns:zL}(h:Fal n ns){a:Nat}:∀k,a+k<=n->ns.getD (a+k) 0<=ns.getD a 0
 |0,_=>xaj _
 |k+1,hk=>xbI (h.step (a+k) zO) (Fal.mono h k zO)
theorem PK{ls:zL}(hd:(d,Obj.cells (ES n f nm kz F V) 266 zZ)∈Z)(hL:dz .i64 Z kz (iw ls))(hlen:ls.length=n)(hn:n<=64)(hlt:∀l∈ls,l<n)(hF:F<18446744073709551616):
  Fc zQ 253 #[ptr d] Z (λv H=>∃b ns,Fal n ns/\v=.slice (some ⟨b,0,none⟩) (n+1) (n+1)/\H=(b,.cells (aA .i64 (iw ns)) 3 zZ)::Z):=by
 refine aI λg=>Hu (Ld.v hd ?_);refine ae.inc (cU.ints zO zO λb=>?_);refine Ld.v (.tail _ hd) ?_;refine hL.bV ?_;rw[aq,hlen];have z0:List.replicate (n+1) (0:Int)=iw (List.replicate (n+1) 0):=by simp[iw]
 rw[z0];refine⟨λvs H=>∃(j:Nat) (ns:zL),vs=[i64 (j:Int)]/\j<=n/\H=(b,.cells (aA .i64 (iw ns)) 3 zZ)::Z/\ns.length=n+1/\∀a,ns.getD a 0<=1,λvs _=>n-bN vs 0,JE.mk ⟨0,_,rfl,by omega,rfl,by simp,λa=>?_⟩,?_⟩
 ·by_cases ha:a<n+1
  ·simp[List.getD,ha]
  simp[List.getD,ha]
 rintro w H ⟨j,ns,⟨⟩,hj,rfl,M4,h1⟩ gs;refine ae.fC (Br.dec (λiA=>?_) (λhge=>?_))
 ·intro J hJ;have back:∀ns':zL,ns'.length=n+1->(∀a,ns'.getD a 0<=1)->J [] ((b,.cells (aA .i64 (iw ns')) 3 zZ)::Z):=λns' hl' qy=>hJ _ λ_=>by
   exact ae.inc (aC.mk ⟨j+1,ns',rfl,by omega,rfl,hl',qy⟩ (by simp only[bN];omega))
  have hlj:j<ls.length:=by omega
  refine hL.ld (dg (xaa hlj)) (λ_ h=>.tail _ h) ?_;refine Ld.v (.tail _ hd) ?_;refine ae.iK (by simpa[bG]using hF) (ae.jE (by simp[bG];exact xaA (xbm _ _) hF) zD (ae.dx (b:=0) (Br.mk (λ_=>?_) (λ_=>JE.mk (back ns M4 h1)))));have hlv:=hlt ls[j] (xaH hlj);refine av.nat zO ?_;refine St.ints (.head _) (by rw[aq];omega) ?_;rw[show((1:Int))=((1:Nat):Int)from rfl,fg];refine JE.mk (back _ (by simpa using M4) λa=>?_);rw[List.getD,xbn];split
  ·split
   ·exact xaj _
   exact xaN _
  exact h1 a
 refine Ld.v (.tail _ hd) ?_;refine ae.lq (c:=(n:Int) -1) rfl zO ?_;refine⟨λvs H=>∃(j:Nat) (ns:zL),vs=[i64 ((j:Int) -1)]/\j<=n/\H=(b,.cells (aA .i64 (iw ns)) 3 zZ)::Z/\ns.length=n+1/\(∀a,a<j->ns.getD a 0<=1)/\(∀a,j<=a->a<=n->ns.getD a 0<=n+1-a)/\∀a,j<=a->a<n->ns.getD (a+1) 0<=ns.getD a 0,
  λvs _=>match vs with| [.int _ q]=>(q+1).toNat|_=>0,JE.mk ⟨n,ns,rfl,xaj _,rfl,M4,λa _=>h1 a,λa h h'=>xbI (h1 a) zO,λa h h'=>by omega⟩,?_⟩
 rintro w H ⟨j,ns,⟨⟩,hj,rfl,M4,g1,g2,g3⟩ gs;refine ae.geq (Br.dec (λhge=>?_) (λiA=>?_))
 ·obtain⟨i,rfl⟩:∃i,j=i+1:=⟨j-1,by omega⟩;have ei:(((i+1:Nat):Int) -1)=(i:Int):=by omega
  rw[ei];refine DR.of (.refl _) ?_;have hB:dz .i64 ((b,Obj.cells (aA .i64 (iw ns)) 3 zZ)::Z) (.slice (some ⟨b,0,none⟩) (iw ns).length (n+1)) (iw ns):=dz.block (.head _) (by rw[aq];omega);rw[aq,M4]at hB;have a1:=g1 i zO;have a2:=g2 (i+1) zO zO;refine hB.ld (bE zO) (λ_ h=>h) (ae.inc (hB.ld (bE zO) (λ_ h=>h) (ae.fI (av.nat zO ?_))));intro G;refine St.ints (.head _) (by rw[aq];omega) ?_;rw[fg];refine ae.lq (c:=(i:Int) -1) rfl zO ?_;have get:∀a,(ns.set i (ns.getD i 0+ns.getD (i+1) 0)).getD a 0=if a=i then ns.getD i 0+ns.getD (i+1) 0 else ns.getD a 0:=λa=>by
   rw[List.getD,xbn];by_cases e:i=a
   ·rw[xad e,xad zO,xad e.symm];rfl
   rw[xab e,xab (xa9 e)];rfl
  refine aC.mk ⟨i,_,rfl,by omega,rfl,by simpa using M4,λa ha=>?_,λa ha hn'=>?_,λa ha hn'=>?_⟩ ?_
  ·rw[get,xab zO];exact g1 a zO
  ·rw[get];split
   ·subst a;omega
   exact g2 a zO hn'
  ·rw[get,get];rw[xab (show a+1≠i by omega)];split
   ·subst a;omega
   exact g3 a zO hn'
  show((i:Int) -1+1).toNat<((i:Int)+1).toNat;omega
 obtain rfl:j=0:=by omega
 exact aN.mk (.refl _) ⟨b,ns,⟨M4,λa ha=>xbI (g2 a (xaN _) ha) zO,λa ha=>g3 a (xaN _) ha⟩,rfl,rfl⟩
end
section
variable {d0 b1 b8 k8 xd qS EL bf kb nm n f F V BY:Nat} {kz:zV} {K:Kd} {S:Nat->au.Fn} {ah ls ns:zL} {BX:Array MapEntry} {m:List (Nat×Nd)} {Z:Hp}
def ag(n F V x:Nat):Prop:=∀j,j<n->F.testBit j=true->x.testBit j=V.testBit j
noncomputable def qT(n F V:Nat)(g:au.Fn):Bool:= @decide (∃x,ag n F V x/\g x=true) (Classical.propDecidable _)
theorem qp{g:au.Fn}:qT n F V g=true↔∃x,ag n F V x/\g x=true:= @decide_eq_true_iff _ (Classical.propDecidable _)
theorem Vm:qT n F V (λ_=>false)=false:=by
 cases h:qT n F V (λ_=>false)with
 |false=>rfl
 |true=>obtain⟨x,_,e⟩:=qp.1 h;cases e
theorem Y6:qT n F V (λ_=>true)=true:=qp.2 ⟨V,λ_ _ _=>rfl,rfl⟩
theorem Aa(h:Ok K S (lv ah)){r:Nat}{d:Nd}(hN:K.N r=some d)(x:Nat)(b:Bool):S d.lo (ak.aB x d.v b)=S d.lo x/\S d.hi (ak.aB x d.v b)=S d.hi x:=by
 have e (c:Bool):=(gj h.wf h.lv h.mid.int (r:=r) (.inr ⟨d,hN⟩) (h.mid.var hN) (by rw[an hN];exact xaj _) c);have e1:=e false;have e2:=e true;rw[(kO hN).1]at e1;rw[(kO hN).2]at e2;constructor
 ·rw[e1.1,e1.1,au.oU]
 rw[e2.1,e2.1,au.oU]
theorem Vn(h:Ok K S (lv ah)){r:Nat}{d:Nd}(hN:K.N r=some d):
  qT K.n F V (S r)=((!F.testBit d.v|| !V.testBit d.v) &&qT K.n F V (S d.lo)||(!F.testBit d.v||V.testBit d.v) &&qT K.n F V (S d.hi)):=by
 have nd:=h.mid.int.node hN;have put:∀(x:Nat) (b:Bool),ag K.n F V x->(F.testBit d.v=true->V.testBit d.v=b)->ag K.n F V (ak.aB x d.v b):=λx b hx hb j hj hF=>by
  rw[ak.aj];split
  ·subst j;exact(hb hF).symm
  exact hx j hj hF
 have hv:=h.mid.var hN;rw[xbE,xbs,xaF,xaF,qp,qp,qp];constructor
 ·rintro⟨x,hx,hS⟩;have q:=nd x;have hxv:=hx d.v hv;cases hb:x.testBit d.v with
  |true=>
   rw[hb,xad rfl]at q;refine .inr ⟨?_,x,hx,by rw[<-q];exact hS⟩;cases hF:F.testBit d.v
   ·rfl
   rw[<-hxv hF,hb];rfl
  |false=>
   rw[hb,xab zD]at q;refine .inl ⟨?_,x,hx,by rw[<-q];exact hS⟩;cases hF:F.testBit d.v
   ·rfl
   rw[<-hxv hF,hb];rfl
 rintro(⟨hc,x,hx,hS⟩|⟨hc,x,hx,hS⟩)
 ·refine⟨ak.aB x d.v false,put x false hx λhF=>?_,?_⟩
  ·rw[hF]at hc;simpa using hc
  rw[nd,ak.aj,xad rfl,xab zD,(Aa h hN x false).1];exact hS
 refine⟨ak.aB x d.v true,put x true hx λhF=>?_,?_⟩
 ·rw[hF]at hc;simpa using hc
 rw[nd,ak.aj,xad rfl,xad rfl,(Aa h hN x true).2];exact hS
abbrev N5(es:Array MapEntry)(ck:Nat)(m:List (Nat×Nd)):Prop:=aF kr (λv (d:Nd)=>v=.agg (bt d).toArray) es ck m
structure Xp(K:Kd)(S:Nat->au.Fn)(ah ls:zL)(m:List (Nat×Nd))(n f F V d0 b1 nm:Nat)(kz:zV)(BX:Array MapEntry)(BY:Nat)(Z:Hp):Prop where
 ok:Ok K S (lv ah)
 lP:K.n<=64
 hn:n=K.n
 d:(d0,Obj.cells (ES n f nm kz F V) 266 zZ)∈Z
 hnm:(nm,Obj.map BX BY)∈Z
 dN:N5 BX BY m
 cov:∀u e,Rc K.N (λq=>q=f) u->K.N u=some e->aG m u=some e
 L:dz .i64 Z kz (iw ls)
 get:∀v,v<n->ls[v]? =some (lv ah v)
 F64:F<18446744073709551616
 V64:V<18446744073709551616
structure TcH(n d0 b1 b8 k8 xd qS EL bf kb:Nat)(ns:zL)(Z:Hp):Prop where
 h1:(b1,Obj.cells #[ptr d0] 258 zZ)∈Z
 h8:(b8,Obj.cells #[.slice (some ⟨bf,0,none⟩) (n+1) (n+1)] 43 zZ)∈Z
 hf:(bf,Obj.cells (aA .i64 (iw ns)) 3 zZ)∈Z
 Nm:(k8,Obj.cells #[.map (some kb)] 319 zZ)∈Z
 h20:(xd,Obj.cells #[.func (.func 254) #[] #[ptr b1]] 182 zZ)∈Z
 h23:(qS,Obj.cells #[.func (.func 257) #[] #[ptr k8,ptr b1,ptr EL]] 320 zZ)∈Z
 h25:(EL,Obj.cells #[.func (.func 255) #[] #[ptr qS,ptr b8,ptr xd]] 322 zZ)∈Z
 fal:Fal n ns
theorem LU(h:Xp K S ah ls m n f F V d0 b1 nm kz BX BY Z)(h1:(b1,Obj.cells #[ptr d0] 258 zZ)∈Z){r:Nat}(hr:live K.N r)(hR:Rc K.N (λq=>q=f) r):
  Rd zQ 254 #[u32 r,ptr b1] Z (· =i64 ((dep K.n (lv ah) K.N r:Nat):Int)):=by
 refine aI λg=>Ht (ae.BP (b:=1) (Br.dec (λh2=>?_) (λh2=>?_)))
 ·refine Ld.mk h1 rfl ?_;refine Ld.v (v:=i64 (n:Int)) h.d ?_;refine bc.mk (.refl _) ?_;have h0:K.N r=none:=by
   cases hN:K.N r with
   |none=>rfl
   |some d=>have:=h.ok.mid.two hN;omega
  rw[aT h0,h.hn]
 obtain⟨d,hN⟩:∃d,K.N r=some d:=by
  rcases hr with hr|hr
  ·omega
  exact hr
 have kA:=h.ok.mid.var hN;refine Ld.mk h1 rfl ?_;refine Ld.v h.d ?_;refine Ld.mk h1 rfl ?_;refine Ld.v h.d ?_;refine h.dN.hit (k:=r) cY (b:=nm) h.hnm (h.cov r d hR hN) λv e=>?_;subst e;refine Az.mk (off:=0) (cs:=(bt d).toArray) (v:=i64 (d.v:Int)) rfl ?_;refine h.L.ld (dg (h.get d.v (by rw[h.hn];exact kA))) (λ_ h=>h) ?_;refine bc.mk (.refl _) ?_;rw[an hN]
structure KnT(q:Nat->Bool)(es:Array MapEntry)(ck:Nat)(mm:List (Nat×Bool)):Prop where
 dN:aF kr (λv (x:Bool)=>Tl x v) es ck mm
 val:∀r x,aG mm r=some x->x=q r
 low:∀r,r<2->aG mm r≠none
abbrev XB(q:Nat->Bool)(kb:Nat)(Z:Hp)(r:Nat):zV->Hp->Prop:=λv H=>Tl (q r) v/\∃es' bB VJ,H=(kb,.map es' bB)::Z/\KnT q es' bB VJ
theorem oS{p:Bool}{v:zV}(h:Tl p v):∃r:List zV,v=.agg r.toArray/\r.length=2/\∀u∈r,u.oneCell'=true:=by
 obtain⟨n,b,_,rfl,_⟩:=h;exact⟨_,rfl,rfl,p6 _ _⟩
theorem si(h:Xp K S ah ls m n f F V d0 b1 nm kz BX BY Z)(t:TcH n d0 b1 b8 k8 xd qS EL bf kb ns Z){q:Nat->Bool}{r l:Nat}(hr:live K.N r)(hR:Rc K.N (λq=>q=f) r)(hl:l<=dep K.n (lv ah) K.N r){es:Array MapEntry}{ck:Nat}
 (hc:Fc zQ 257 #[u32 r,ptr k8,ptr b1,ptr EL] ((kb,.map es ck)::Z) (XB q kb Z r)):
  Fc zQ 255 #[u32 r,i64 (l:Int),ptr qS,ptr b8,ptr xd] ((kb,.map es ck)::Z) (XB q kb Z r):=by
 have hdl:=h.ok.wf.iD h.ok.lv r;have zn:=t.fal.len;have hB:dz .i64 Z (.slice (some ⟨bf,0,none⟩) (iw ns).length (n+1)) (iw ns):=dz.block t.hf (by rw[aq];omega);rw[aq,zn]at hB;have hn':=h.hn;have acS:=t.fal.mono (a:=l) (dep K.n (lv ah) K.N r-l) zO;rw[show l+(dep K.n (lv ah) K.N r-l)=dep K.n (lv ah) K.N r by omega]at acS;have hle:=t.fal.le l zO;have sP:=h.lP;refine aI λg=>Hs λc1 _=>?_;refine DR.of (R:=Z) (.skip .tail) (Ld.mk t.h23 rfl ?_);refine Ld.mk t.h8 rfl ?_;refine hB.ld (bE zO) (λ_ h=>h) (Ld.mk t.h8 rfl ?_);refine Ld.mk t.h20 rfl ?_;intro G;refine aE.of rfl zK (aa.fq (args:=#[u32 r,ptr k8,ptr b1,ptr EL]) hc ?_);rintro v1 H ⟨hv1,kB,jN,mm1,rfl,xU⟩;refine⟨.skip .tail,Z,.skip .tail,.refl _,?_⟩;intro G;refine aE.of rfl zK (aa.eq (args:=#[u32 r,ptr b1]) (LU (Z:=Z) h t.h1 hr hR) (⟨.skip .tail,Z,.skip .tail,.refl _,?_⟩));refine hB.ld (bE zO) (λ_ h=>h) (ae.ca λG=>(aa.rq (L3 (C:=Z) hv1 _) ?_));intro v2 hv2;intro G;have af4:=hv2;obtain⟨rr,rfl,xV,Pz⟩:=oS hv2;refine St.p (r:=rr) Pz ?_ (hr:=xV);refine az.q ?_ (hr:=xV);exact aN.mk .tail ⟨af4,kB,jN,mm1,rfl,xU⟩
end
section
variable {d0 b1 b8 k8 xd qS EL bf kb nm n f F V BY:Nat} {kz:zV} {K:Kd} {S:Nat->au.Fn} {ah ls ns:zL} {BX:Array MapEntry} {m:List (Nat×Nd)} {Z:Hp}
theorem vD(a k:Nat):decide ((a>>>k)%2=0)= !a.testBit k:=by
 rw[<-Bs];have:=Nat.mod_two_eq_zero_or_one (a>>>k);rcases this with e|e<;>rw[e]<;>rfl
theorem LV(h:Xp K S ah ls m n f F V d0 b1 nm kz BX BY Z)(t:TcH n d0 b1 b8 k8 xd qS EL bf kb ns Z):
  ∀(k r:Nat) (es:Array MapEntry) (ck:Nat) (mm:List (Nat×Bool)),K.n-dep K.n (lv ah) K.N r<=k->live K.N r->Rc K.N (λq=>q=f) r->KnT (λr=>qT K.n F V (S r)) es ck mm->
  Fc zQ 257 #[u32 r,ptr k8,ptr b1,ptr EL] ((kb,.map es ck)::Z) (XB (λr=>qT K.n F V (S r)) kb Z r):=by
 have hit:∀{r:Nat} {es:Array MapEntry} {ck:Nat} {mm:List (Nat×Bool)} {x:Bool},KnT (λr=>qT K.n F V (S r)) es ck mm->aG mm r=some x->
   Fc zQ 257 #[u32 r,ptr k8,ptr b1,ptr EL] ((kb,.map es ck)::Z) (XB (λr=>qT K.n F V (S r)) kb Z r):=by
  intro r es ck mm x hm hv;refine aI λg=>xx λc1 _=>?_;refine Ld.mk (v:=.map (some kb)) (.tail _ (.tail _ t.Nm)) rfl ?_;refine hm.dN.hit (k:=r) cY (b:=kb) (by exact .tail _ (.head _)) hv λv' e=>?_;have ex:=hm.val r x hv;have e':=e;obtain⟨rr,rfl,xV,Pz⟩:=oS e;refine Ext.two λc7 _=>(St.p (r:=rr) Pz ?_ (hr:=xV));refine Br.yes (az.q ?_ (hr:=xV));refine St.p (r:=rr) Pz ?_ (hr:=xV);refine az.q ?_ (hr:=xV);exact aN.mk (.skip .tail) ⟨by show Tl (qT K.n F V (S r)) _;rw[show qT K.n F V (S r)=x from ex.symm];exact e',es,ck,mm,rfl,hm⟩
 intro k;induction k with
 |zero=>
  intro r es ck mm hk hr hR hm;have qx:r<2:=by
   cases hN:K.N r with
   |some d=>
    rw[an hN]at hk;have:=h.ok.lv.lt _ (h.ok.mid.var hN);omega
   |none=>
    rcases hr with hr|⟨d,e⟩
    ·exact hr
    rw[hN]at e;cases e
  cases hv:aG mm r with
  |none=>exact absurd hv (hm.low r qx)
  |some v=>exact hit hm hv
 |succ k ih=>
  intro r es ck mm hk hr hR hm;cases hv:aG mm r with
  |some v=>exact hit hm hv
  |none=>
  have qx:¬r<2:=λh2=>hm.low r h2 hv;obtain⟨d,hN⟩:∃d,K.N r=some d:=by
   rcases hr with hr|hr
   ·omega
   exact hr
  have hlo:=h.ok.wf.lo hN;have hhi:=h.ok.wf.hi hN;rw[an hN]at hk;have kA:=h.ok.mid.var hN;have hvl:=h.ok.lv.lt _ kA;have sP:=h.lP;have WQ:=h.F64;have WG:=h.V64;have qn:=Vn (F:=F) (V:=V) h.ok hN;refine aI λg=>xx λc1 _=>?_;refine Ld.mk (v:=.map (some kb)) (.tail _ (.tail _ t.Nm)) rfl ?_;refine hm.dN.bO (k:=r) cY (b:=kb) (by exact .tail _ (.head _)) hv ?_;refine Ext.two λc7 _=>(St.p (r:=[u64 0,.bool false]) (p6 _ _) (Br.no ?_));have up:∀{x y z:Nat×Obj} {l:List (Nat×Obj)},l=Z->∀{w},w∈Z->w∈x::y::z::l:=λe w hw=>by subst e;exact .tail _ (.tail _ (.tail _ hw))
  refine Ld.mk (v:=ptr d0) (.tail _ (.tail _ (.tail _ t.h1))) rfl ?_;refine Ld.v (v:=.map (some nm)) (.tail _ (.tail _ (.tail _ h.d))) ?_;refine h.dN.hit (k:=r) cY (b:=nm) (.tail _ (.tail _ (.tail _ h.hnm))) (h.cov r d hR hN) λv e=>?_;subst e;intro c18 _;refine St.p (fA d) ?_;refine Ld.mk (v:=ptr d0) (.tail _ (.tail _ (.tail _ (.tail _ t.h1)))) rfl ?_;refine Ld.v (v:=kz) (.tail _ (.tail _ (.tail _ (.tail _ h.d)))) ?_;refine Ld.f (v:=i64 (d.v:Int)) (h.L.ld (dg (h.get d.v (by rw[h.hn];exact kA))) (λ_ h=>.tail _ (.tail _ (.tail _ (.tail _ h)))) ?_);refine ae.inc λc30 _=>?_;intro J32 KQ;have last:∀(p:Bool) (t30:List zV) (es':Array MapEntry) (bB:Nat) (VJ:List (Nat×Bool)),Tl p (.agg t30.toArray)->t30.length=2->(∀u∈t30,u.oneCell'=true)->KnT (λr=>qT K.n F V (S r)) es' bB VJ->p=((!F.testBit d.v|| !V.testBit d.v) &&qT K.n F V (S d.lo))->
    J32 [] ((c30,.cells t30.toArray 261 zZ)::(c18,.cells (bt d).toArray 144 zZ)::(c7,.cells [u64 0,.bool false].toArray 261 zZ)::(c1,.cells #[u64 0,.bool false] 261 zZ)::(kb,.map es' bB)::Z):=by
   intro p t30 es' bB VJ hp xV Pz hm' ep;refine KQ _ λ_=>?_;intro J35 h35;have fin:∀(p:Bool) (t30:List zV) (es':Array MapEntry) (bB:Nat) (VJ:List (Nat×Bool)),Tl p (.agg t30.toArray)->t30.length=2->(∀u∈t30,u.oneCell'=true)->KnT (λr=>qT K.n F V (S r)) es' bB VJ->p=qT K.n F V (S r)->
     J35 [] ((c30,.cells t30.toArray 261 zZ)::(c18,.cells (bt d).toArray 144 zZ)::(c7,.cells [u64 0,.bool false].toArray 261 zZ)::(c1,.cells #[u64 0,.bool false] 261 zZ)::(kb,.map es' bB)::Z):=by
    intro p t30 es' bB VJ hp xV Pz hm' ep;refine h35 _ λ_=>?_;refine Ld.mk (v:=.map (some kb)) (.tail _ (.tail _ (.tail _ (.tail _ (.tail _ t.Nm))))) rfl ?_;refine az.q ?_ (hr:=xV);refine hm'.dN.bK (k:=r) (b:=kb) (x:=p) cY gT hp λpo qR he=>⟨_,.tail (.tail (.tail (.tail (.head _)))),?_⟩;refine az.q ?_ (hr:=xV);refine St.p (r:=t30) Pz ?_ (hr:=xV);refine az.q ?_ (hr:=xV);refine aN.mk (.skip (.skip (.skip .tail))) ⟨by show Tl (qT K.n F V (S r)) _;rw[<-ep];exact hp,po,qR,_,rfl,he,λr' x' n8=>?_,λr' hr'=>?_⟩
    ·rw[bL]at n8;split at n8
     ·rename_i e;subst e;cases n8;exact ep
     exact hm'.val r' x' n8
    rw[bL];split
    ·simp
    exact hm'.low r' hr'
   refine Ld.mk (v:=ptr d0) (.tail _ (.tail _ (.tail _ (.tail _ (.tail _ t.h1))))) rfl ?_;refine Ld.v (v:=u64 F) (.tail _ (.tail _ (.tail _ (.tail _ (.tail _ h.d))))) ?_;refine Ld.f (v:=i64 (d.v:Int)) (ae.iK (by simpa[bG]using WQ) (ae.jE (by simp[bG];exact xaA (xbm _ _) WQ) zD (ae.dx (b:=0) ?_)));rw[xbT,vD];refine cS.or (a:= !F.testBit d.v) (V.testBit d.v) (λ_=>?_) rfl λ_=>?_
   ·refine Ld.mk (v:=ptr d0) (.tail _ (.tail _ (.tail _ (.tail _ (.tail _ t.h1))))) rfl ?_;refine Ld.v (v:=u64 V) (.tail _ (.tail _ (.tail _ (.tail _ (.tail _ h.d))))) ?_;refine Ld.f (v:=i64 (d.v:Int)) (ae.iK (by simpa[bG]using WG) (ae.jE (by simp[bG];exact xaA (xbm _ _) WG) zD (ae.dx (b:=1) ?_)));rw[xbT,Bs];exact⟨rfl,rfl⟩
   refine Br.mk (λhb=>?_) (λhb=>?_)
   ·refine DR.of (R:=(c30,.cells t30.toArray 261 zZ)::(c18,.cells (bt d).toArray 144 zZ)::Z) (.cons (.cons (.skip (.skip .tail)))) (az.q ?_ (hr:=xV));refine Ld.mk (v:=.func (.func 255) #[] #[ptr qS,ptr b8,ptr xd]) (.tail _ (.tail _ t.h25)) rfl ?_;refine Ld.f (v:=u32 d.hi) λG=>?_;refine aE.of rfl zK (aa.fq (args:=#[u32 d.hi,i64 ((lv ah d.v+1:Nat):Int),ptr qS,ptr b8,ptr xd]) (si (Z:=Z) h t hhi.1 (.hi hR hN) zO (ih d.hi es' bB VJ zO hhi.1 (.hi hR hN) hm')) ?_);rintro v2 H ⟨hv2,gV,iE,mm2,rfl,nj⟩;refine⟨.cons (.cons (.skip (.skip .tail))),?_⟩;intro G;refine aa.rq (B9 (C:=Z) hp hv2) ?_;intro v3 hv3;intro G;have Zz:=hv3;obtain⟨rr,rfl,h3l,h3o⟩:=oS hv3;refine St.p (r:=rr) h3o ?_ (hr:=h3l) (hs:=by simpa using xV);refine JE.mk (fin _ rr gV iE mm2 Zz h3l h3o nj ?_);rw[ep,qn,hb,xco]
   refine JE.mk (fin p t30 es' bB VJ hp xV Pz hm' ?_);rw[ep,qn,hb,xd8,xdu]
  refine Ld.mk (v:=ptr d0) (.tail _ (.tail _ (.tail _ (.tail _ (.tail _ t.h1))))) rfl ?_;refine Ld.v (v:=u64 F) (.tail _ (.tail _ (.tail _ (.tail _ (.tail _ h.d))))) ?_;refine Ld.f (v:=i64 (d.v:Int)) (ae.iK (by simpa[bG]using WQ) (ae.jE (by simp[bG];exact xaA (xbm _ _) WQ) zD (ae.dx (b:=0) ?_)));rw[xbT,vD];refine cS.or (a:= !F.testBit d.v) (!V.testBit d.v) (λ_=>?_) rfl λ_=>?_
  ·refine Ld.mk (v:=ptr d0) (.tail _ (.tail _ (.tail _ (.tail _ (.tail _ t.h1))))) rfl ?_;refine Ld.v (v:=u64 V) (.tail _ (.tail _ (.tail _ (.tail _ (.tail _ h.d))))) ?_;refine Ld.f (v:=i64 (d.v:Int)) (ae.iK (by simpa[bG]using WG) (ae.jE (by simp[bG];exact xaA (xbm _ _) WG) zD (ae.dx (b:=0) ?_)));rw[xbT,vD];exact⟨rfl,rfl⟩
  refine Br.mk (λhb=>?_) (λhb=>?_)
  ·refine DR.of (R:=(c30,.cells [u64 0,.bool false].toArray 261 zZ)::(c18,.cells (bt d).toArray 144 zZ)::Z) (.cons (.cons (.skip (.skip .tail)))) (az.q ?_);refine Ld.mk (v:=.func (.func 255) #[] #[ptr qS,ptr b8,ptr xd]) (.tail _ (.tail _ t.h25)) rfl ?_;refine Ld.f (v:=u32 d.lo) λG=>?_;refine aE.of rfl zK (aa.fq (args:=#[u32 d.lo,i64 ((lv ah d.v+1:Nat):Int),ptr qS,ptr b8,ptr xd]) (si (Z:=Z) h t hlo.1 (.lo hR hN) zO (ih d.lo es ck mm zO hlo.1 (.lo hR hN) hm)) ?_);rintro v2 H ⟨hv2,gV,iE,mm2,rfl,nj⟩;refine⟨.cons (.cons (.skip (.skip .tail))),?_⟩;intro G;refine aa.rq (B9 (C:=Z) Tl.no hv2) ?_;intro v3 hv3;intro G;have Zz:=hv3;obtain⟨rr,rfl,h3l,h3o⟩:=oS hv3;refine St.p (r:=rr) h3o ?_ (hr:=h3l);refine JE.mk (last _ rr gV iE mm2 Zz h3l h3o nj ?_);rw[hb,xco,xdx]
  refine JE.mk (last false [u64 0,.bool false] es ck mm Tl.no rfl (p6 _ _) hm ?_);rw[hb,xd8]
end
section
variable {d0 nm n f F V BY:Nat} {kz:zV} {K:Kd} {S:Nat->au.Fn} {ah ls:zL} {BX:Array MapEntry} {m:List (Nat×Nd)} {Z Z':Hp}
theorem Xp.more{b b':Nat}(h:Xp K S ah ls m n f F V d0 b nm kz BX BY Z)(hs:∀x∈Z,x∈Z'):Xp K S ah ls m n f F V d0 b' nm kz BX BY Z':=
 ⟨h.ok,h.lP,h.hn,hs _ h.d,hs _ h.hnm,h.dN,h.cov,h.L.mono hs,h.get,h.F64,h.V64⟩
theorem yD{b:Nat}(h:Xp K S ah ls m n f F V d0 b nm kz BX BY Z)(hlen:ls.length=n)(hf:live K.N f):Rd zQ 197 #[ptr d0] Z (Tl (qT K.n F V (S f))):=by
 have sP:=h.lP;have hn:=h.hn;have hi:=h.ok.mid.int;have hlt:∀l∈ls,l<n:=λl hl=>by
  obtain⟨i,hi,e⟩:=xba.1 hl;have q:=h.get i zO;rw[xaa hi,e]at q;cases q;rw[hn];exact h.ok.lv.lt _ zO
 refine aI λg=>Io λb1 _ b3 _=>?_;refine Ld.q ?_;refine aa.fq (PK (Z:=Z) h.d h.L hlen zO hlt h.F64) ?_;rintro v H ⟨bf,ns,agV,rfl,rfl⟩;intro b8 _;refine St.one (c':=#[.slice (some ⟨bf,0,none⟩) (n+1) (n+1)]) (by exact .head _) rfl zI rfl ?_;intro kb _;refine Build.mk (cs:=[u64 0,.bool false]) zK (aF.bK (ke:=kr) (vr:=λv (x:Bool)=>Tl x v) (k:=0) (b:=kb) (x:=false) cY gT aF.empty Tl.no λkB jN Gb=>⟨_,.head _,?_⟩);refine Build.mk (cs:=[u64 1,.bool false]) zK (aF.bK (ke:=kr) (vr:=λv (x:Bool)=>Tl x v) (k:=1) (b:=kb) (x:=true) cY gT Gb Tl.yes λgV iE Uq=>⟨_,.head _,?_⟩);intro k8 _;refine St.one (c':=#[.map (some kb)]) (by exact .head _) rfl zI rfl ?_;intro xd _;refine St.one (c':=#[.func (.func 254) #[] #[ptr b1]]) (by exact .head _) rfl zI rfl ?_;intro qS _ EL _;refine St.one (c':=#[.func (.func 255) #[] #[ptr qS,ptr b8,ptr xd]]) (by exact .head _) rfl zI rfl ?_;refine St.one (c':=#[.func (.func 257) #[] #[ptr k8,ptr b1,ptr EL]]) (by exact .tail (.head _)) rfl zI rfl ?_;obtain⟨Y,hY⟩:∃Y:Hp,Y=(EL,Obj.cells #[.func (.func 255) #[] #[ptr qS,ptr b8,ptr xd]] 322 zZ)::(qS,.cells #[.func (.func 257) #[] #[ptr k8,ptr b1,ptr EL]] 320 zZ)::(xd,.cells #[.func (.func 254) #[] #[ptr b1]] 182 zZ)::(k8,.cells #[.map (some kb)] 319 zZ)::
  (b8,.cells #[.slice (some ⟨bf,0,none⟩) (n+1) (n+1)] 43 zZ)::(b3,.cells #[u64 0,.bool false] 261 zZ)::(b1,.cells #[ptr d0] 258 zZ)::(bf,.cells (aA .i64 (iw ns)) 3 zZ)::Z:=⟨_,rfl⟩
 have hYs:∀x∈Z,x∈Y:=λx hx=>by rw[hY];exact .tail _ (.tail _ (.tail _ (.tail _ (.tail _ (.tail _ (.tail _ (.tail _ hx)))))))
 have hvw:Xp K S ah ls m n f F V d0 b1 nm kz BX BY Y:=h.more hYs;have ht:TcH n d0 b1 b8 k8 xd qS EL bf kb ns Y:=by
  refine⟨?_,?_,?_,?_,?_,?_,?_,agV⟩<;>rw[hY]<;>simp
 have hk:KnT (λr=>qT K.n F V (S r)) gV iE [(0,false),(1,true)]:=by
  refine⟨Uq,λr x hx=>?_,λr hr=>?_⟩
  ·unfold aG at hx;rw[xbv,xbv]at hx;by_cases e0:r=0
   ·subst e0;have:x=false:=by simpa using hx.symm
    rw[this,show S 0=λ_=>false from funext hi.zero];exact Vm.symm
   by_cases e1:r=1
   ·subst e1;have:x=true:=by simpa using hx.symm
    rw[this,show S 1=λ_=>true from funext hi.one];exact Y6.symm
   simp[xa9 e0,xa9 e1]at hx
  have:r=0\/r=1:=by omega
  rcases this with rfl|rfl<;>simp[aG]
 refine DR.of (R:=(EL,Obj.cells #[.func (.func 255) #[] #[ptr qS,ptr b8,ptr xd]] 322 zZ)::(b1,.cells #[ptr d0] 258 zZ)::Z) (.cons (.skip (.skip (.skip (.skip (.skip (.skip (.cons .tail)))))))) (Ld.q ?_);refine Ld.q ?_;refine Ld.v (v:=u32 f) (.tail _ (.tail _ h.d)) ?_;intro G;refine aE.of rfl zK (aa.pre (H':=(kb,Obj.map gV iE)::Y) (by rw[hY];exact .perm (xaU (l₁:=[_,_,_,_]))) (aa.fn (args:=#[u32 f,i64 ((0:Nat):Int),ptr qS,ptr b8,ptr xd]) .here (si hvw ht hf (.base rfl) (xaN _) (LV hvw ht K.n f gV iE _ (xdt _ _) hf (.base rfl) hk)) ?_));rintro v H ⟨hv,po,qR,mm3,rfl,pO⟩;intro G;have n8:=hv;obtain⟨rr,rfl,xV,Pz⟩:=oS hv;rw[hY];refine St.p (r:=rr) Pz ?_ (hr:=xV);refine az.q ?_ (hr:=xV);exact bc.mk (.skip (.skip (.skip (.skip (.skip (.skip (.skip (.skip .tail)))))))) n8
end
section
variable {kp mb b1 b9 GD NO n f:Nat} {kz:zV} {K:Kd} {S:Nat->au.Fn} {ord ah tr:zL} {C Z:Hp}
theorem tK(h:bP kp K S ord ah tr C){r:Nat}(hr:live K.N r):Rd zQ 195 #[ptr kp,u32 r] C (· =i64 (if r=0 then 10 else 0)):=by
 have hlt:=h.bM hr;refine aI λg=>Iq (ae.aL (Br.no (aa.eq (args:=#[ptr kp,u32 r]) (iQ h.rep zO) ?_)));rw[bZ.2 hr];refine Ext.two λb6 _=>(St.p (aP K.N r).2 ?_ (hr:=(aP K.N r).1));refine ae.cD (Br.F (ae.dx (b:=0) (Br.mk (λhb=>?_) (λhb=>?_))))
 ·rw[xad (xcb hb)];exact bc.mk .tail rfl
 rw[xab (xdg hb)];exact bc.mk .tail rfl
structure TU(K:Kd)(m m':List (Nat×Nd))(r:Nat):Prop where
 good:∀u d,aG m' u=some d->K.N u=some d
 sub:∀u,aG m u≠none->aG m' u≠none
 has:r<2\/aG m' r≠none
 shut:∀u,aG m' u≠none->aG m u=none->∃d,K.N u=some d/\(d.lo<2\/aG m' d.lo≠none)/\(d.hi<2\/aG m' d.hi≠none)
theorem TU.cov{m:List (Nat×Nd)}(h:TU K [] m f)(h2:∀u d,K.N u=some d->2<=u):∀u e,Rc K.N (λq=>q=f) u->K.N u=some e->aG m u=some e:=by
 have step:∀u,Rc K.N (λq=>q=f) u->u<2\/aG m u≠none:=λu hu=>by
  induction hu with
  |base e=>subst e;exact h.has
  |lo hp hN ih=>
   rcases ih with ih|ih
   ·have:=h2 _ _ hN;omega
   obtain⟨d,hd,a,b⟩:=h.shut _ ih rfl;rw[hN]at hd;cases hd;exact a
  |hi hp hN ih=>
   rcases ih with ih|ih
   ·have:=h2 _ _ hN;omega
   obtain⟨d,hd,a,b⟩:=h.shut _ ih rfl;rw[hN]at hd;cases hd;exact b
 intro u e hu hN;rcases step u hu with h'|h'
 ·have:=h2 _ _ hN;omega
 cases hm:aG m u with
 |none=>exact absurd hm h'
 |some d=>have:=h.good u d hm;rw[hN]at this;cases this;rfl
theorem Vg(h:bP kp K S ord ah tr C)(h9:(b9,Obj.cells (ES n f mb kz 0 0) 266 zZ)∈Z)(h11:(GD,Obj.cells #[ptr b9] 258 zZ)∈Z)(h1:(b1,Obj.cells #[ptr kp] 53 zZ)∈Z)
 (h48:(NO,Obj.cells #[.func (.func 252) #[] #[ptr GD,ptr b1,ptr NO]] 183 zZ)∈Z):
  ∀(k r:Nat) (es:Array MapEntry) (ck:Nat) (m:List (Nat×Nd)),K.n-dep K.n (lv ah) K.N r<=k->live K.N r->N5 es ck m->(∀u d,aG m u=some d->K.N u=some d)->
  Fc zQ 252 #[u32 r,ptr GD,ptr b1,ptr NO] ((mb,.map es ck)::(Z++C)) (λv H=>v=.tuple #[]/\∃es' bB m',H=(mb,.map es' bB)::(Z++C)/\N5 es' bB m'/\TU K m m' r):=by
 have tO:=xae C h9;have aan:=xae C h11;have qy:=xae C h1;have WS:=xae C h48;have two:=λ(u:Nat) (d:Nd) (e:K.N u=some d)=>(h.ok.mid.two e).1;have stop:∀{r:Nat} {es:Array MapEntry} {ck:Nat} {m:List (Nat×Nd)},N5 es ck m->(∀u d,aG m u=some d->K.N u=some d)->(r<2\/aG m r≠none)->
   Fc zQ 252 #[u32 r,ptr GD,ptr b1,ptr NO] ((mb,.map es ck)::(Z++C)) (λv H=>v=.tuple #[]/\∃es' bB m',H=(mb,.map es' bB)::(Z++C)/\N5 es' bB m'/\TU K m m' r):=by
  intro r es ck m hE hg hr;refine aI λg=>xy (Ld.mk (v:=ptr b9) (.tail _ aan) rfl ?_);refine Ld.v (v:=.map (some mb)) (.tail _ tO) ?_;have fin:TU K m m r:=⟨hg,λ_ h=>h,hr,λu h h'=>absurd h' h⟩;cases hv:aG m r with
  |some d=>
   refine hE.hit (k:=r) cY (b:=mb) (by exact .head _) hv λv e=>?_;subst e;refine Ext.two λb8 _=>(St.p (fA d) ?_);refine cS.or (a:=true) true (λe=>by cases e) rfl λ_=>?_;exact Br.yes (aN.mk .tail ⟨rfl,es,ck,m,rfl,hE,fin⟩)
  |none=>
   have h2:r<2:=hr.resolve_right λh=>h hv;refine hE.bO (k:=r) cY (b:=mb) (by exact .head _) hv ?_;refine Ext.two λb8 _=>(St.p (r:=[i64 0,u32 0,u32 0]) (by simp[u32,Value.oneCell']) (cS.or (a:=false) (decide (r<=1)) (λ_=>ae.BP (b:=1) ⟨rfl,rfl⟩) rfl λ_=>?_));rw[xam (show r<=1 by omega)];exact Br.yes (aN.mk .tail ⟨rfl,es,ck,m,rfl,hE,fin⟩)
 intro k;induction k with
 |zero=>
  intro r es ck m hk hr hE hg;refine stop hE hg (.inl ?_);cases hN:K.N r with
  |some d=>
   rw[an hN]at hk;have:=h.ok.lv.lt _ (h.ok.mid.var hN);omega
  |none=>
   rcases hr with hr|⟨d,e⟩
   ·exact hr
   rw[hN]at e;cases e
 |succ k ih=>
  intro r es ck m hk hr hE hg;by_cases hs:r<2\/aG m r≠none
  ·exact stop hE hg hs
  have qx:¬r<2:=λh=>hs (.inl h);have hv:aG m r=none:=xaD λh=>hs (.inr h);obtain⟨d,hN⟩:∃d,K.N r=some d:=by
   rcases hr with hr|hr
   ·omega
   exact hr
  have hlt:=h.bM (.inr ⟨d,hN⟩);have hlo:=h.ok.wf.lo hN;have hhi:=h.ok.wf.hi hN;rw[an hN]at hk;have hvl:=h.ok.lv.lt _ (h.ok.mid.var hN);refine aI λg=>xy (Ld.mk (v:=ptr b9) (.tail _ aan) rfl ?_);refine Ld.v (v:=.map (some mb)) (.tail _ tO) ?_;refine hE.bO (k:=r) cY (b:=mb) (by exact .head _) hv ?_;refine Ext.two λb8 _=>(St.p (r:=[i64 0,u32 0,u32 0]) (by simp[u32,Value.oneCell']) (cS.or (a:=false) (decide (r<=1)) (λ_=>ae.BP (b:=1) ⟨rfl,rfl⟩) rfl λ_=>?_));rw[xal (show¬r<=1 by omega)];refine Br.no (Ld.mk (v:=ptr kp) (.tail _ (.tail _ qy)) rfl ?_);refine aa.eq (args:=#[ptr kp,u32 r]) (iQ h.rep zO) ?_;rw[dZ hN (two r d hN)];refine Ext.two λBZ _=>(St.p (fA d) ?_);refine DR.of (.refl _) (Ld.mk (v:=ptr b9) (.tail _ (.tail _ (.tail _ aan))) rfl ?_);refine Ld.v (v:=.map (some mb)) (.tail _ (.tail _ (.tail _ tO))) ?_;refine az.q ?_;intro G;refine hE.bK (k:=r) (b:=mb) (x:=d) cY gT rfl λkB jN Gb=>⟨_,.tail (.tail (.head _)),?_⟩;have g1:∀u e,aG (eo m r d) u=some e->K.N u=some e:=λu e hu=>by
   rw[bL]at hu;split at hu
   ·cases hu;subst u;exact hN
   exact hg u e hu
  refine Ld.mk (v:=.func (.func 252) #[] #[ptr GD,ptr b1,ptr NO]) (.tail _ (.tail _ (.tail _ WS))) rfl ?_;refine Ld.f (v:=u32 d.lo) (aE.of rfl zK (aa.fq (args:=#[u32 d.lo,ptr GD,ptr b1,ptr NO]) (ih d.lo kB jN _ zO hlo.1 Gb g1) ?_));rintro v H ⟨rfl,gV,iE,m2,rfl,sS,w2⟩;refine Ld.mk (v:=.func (.func 252) #[] #[ptr GD,ptr b1,ptr NO]) (.tail _ (.tail _ (.tail _ WS))) rfl ?_;refine Ld.f (v:=u32 d.hi) (aE.of rfl zK (aa.fq (args:=#[u32 d.hi,ptr GD,ptr b1,ptr NO]) (ih d.hi gV iE m2 zO hhi.1 sS w2.good) ?_));rintro v H ⟨rfl,po,qR,m3,rfl,Pv,w3⟩;have r1:aG (eo m r d) r≠none:=by rw[bL,xad rfl];simp
  refine aN.mk (.skip .tail) ⟨rfl,po,qR,m3,rfl,Pv,⟨w3.good,λu hu=>w3.sub u (w2.sub u ?_),.inr (w3.sub r (w2.sub r r1)),λu hu hn=>?_⟩⟩
  ·rw[bL];split
   ·simp
   exact hu
  by_cases We:aG m2 u=none
  ·exact w3.shut u hu We
  by_cases F0:aG (eo m r d) u=none
  ·obtain⟨e,he,a,b⟩:=w2.shut u We F0;exact⟨e,he,a.imp id (w3.sub _),b.imp id (w3.sub _)⟩
  rw[bL]at F0;split at F0
  ·subst u;exact⟨d,hN,w2.has.imp id (w3.sub _),w3.has⟩
  exact absurd hn F0
end
section
variable {kp:Nat} {K:Kd} {S:Nat->au.Fn} {ord ah tr:zL} {C:Hp}
theorem YV(h:bP kp K S ord ah tr C){f:Nat}(hf:live K.N f):Fc zQ 196 #[ptr kp,u32 f] C (λv H=>∃d0 nm kz BX BY m B,v=ptr d0/\kz.oneCell'=true/\H=(d0,.cells (ES K.n f nm kz 0 0) 266 zZ)::((nm,.map BX BY)::(B++C))/\N5 BX BY m/\
  (∀u e,Rc K.N (λq=>q=f) u->K.N u=some e->aG m u=some e)/\dz .i64 B kz (iw ((List.range K.n).map (lv ah)))):=by
 have sP:=h.aZ.lP;refine aI λg=>Ip λb1 _=>?_;refine Ld.q ?_;refine aa.eq (gR h.rep) λnm _=>?_;refine Build.mk (cs:=[i64 (K.n:Int),u32 f,.map (some nm),.slice none 0 0,u64 0,u64 0]) zK λb9 _ GD _=>?_;refine St.one (c':=#[ptr b9]) (by exact .head _) rfl zI rfl ?_;refine Ld.q ?_;refine Ld.n (v:=i64 (K.n:Int)) ?_;refine⟨λvs H=>∃(j:Nat) (kz:zV) (CL:Hp),vs=[i64 (j:Int)]/\j<=K.n/\kz.oneCell'=true/\aS 3 .i64 kz (iw ((List.range j).map (lv ah))) CL/\
   H=(GD,.cells #[ptr b9] 258 zZ)::(b9,.cells (ES K.n f nm kz 0 0) 266 zZ)::(nm,.map #[] 0)::(b1,.cells #[ptr kp] 53 zZ)::(CL++C),λvs _=>K.n-bN vs 0,
  JE.mk ⟨0,.slice none 0 0,[],rfl,xaN _,rfl,aS.nil,rfl⟩,?_⟩
 rintro w H ⟨j,kz,CL,⟨⟩,hj,ho,hL,rfl⟩ gs;refine ae.fC (Br.dec (λhlt=>?_) (λhge=>?_))
 ·refine Ld.q ?_;refine aa.eq (l6 h.rep _) ?_;rw[xad ⟨by omega,by omega⟩];refine Ext.two (DR.of (R:=(GD,Obj.cells #[ptr b9] 258 zZ)::(b9,.cells (ES K.n f nm kz 0 0) 266 zZ)::C) (.cons (.cons (.skip (.skip .right)))) (Ld.q ?_));refine Ld.q ?_;refine Ld.n (v:=kz) λG=>?_;refine ax.int (e:=3) zK zK zK λbx=>?_;refine⟨.skip (.cons (.cons (.skip (.skip .right)))),?_⟩;intro G;refine hL.rZ (.cons (.cons (.cons (.cons (.cons .left))))) (by exact .head _) zP zP λv' N' cz=>?_;refine⟨.skip (.cons (.cons (.skip (.skip .right)))),?_⟩;refine .ptr (.mk ?_);intro G;have n8:v'.oneCell'=true:=by
   obtain⟨x,y,z,rfl⟩:∃x y z,v'=.slice x y z:=by
    rcases cz with⟨rfl,_⟩|⟨b,c,rfl,_⟩
    ·exact⟨_,_,_,rfl⟩
    exact⟨_,_,_,rfl⟩
   rfl
  refine St.one (c':=ES K.n f nm v' 0 0) (by exact .tail (.tail (.head _))) n8 zI rfl ?_;refine ae.inc (aC.of .tail ⟨j+1,v',N',rfl,hlt,n8,?_,rfl⟩ (by simp only[bN];omega));rw[xci,xaB,cC];rw[xbe]at cz;exact cz
 obtain rfl:j=K.n:=by omega
 intro NO _;refine St.one (c':=#[.func (.func 252) #[] #[ptr GD,ptr b1,ptr NO]]) (by exact .head _) rfl zI rfl ?_;refine Ld.q ?_;refine aE.of rfl zK ?_;obtain⟨Z,hZ⟩:∃Z:Hp,Z=(NO,Obj.cells #[.func (.func 252) #[] #[ptr GD,ptr b1,ptr NO]] 183 zZ)::(GD,.cells #[ptr b9] 258 zZ)::(b9,.cells (ES K.n f nm kz 0 0) 266 zZ)::(b1,.cells #[ptr kp] 53 zZ)::CL:=⟨_,rfl⟩;refine aa.pre (H':=(nm,Obj.map #[] 0)::(Z++C)) (by rw[hZ];exact .perm (xaU (l₁:=[_,_,_]))) (aa.fn (args:=#[u32 f,ptr GD,ptr b1,ptr NO]) .here (Vg (Z:=Z) (b9:=b9) (n:=K.n) (f:=f) (kz:=kz) h (by rw[hZ];simp) (by rw[hZ];simp) (by rw[hZ];simp) (by rw[hZ];simp) K.n f #[] 0 [] (xdt _ _) hf aF.empty (λu d e=>by cases e)) ?_);rintro v H ⟨rfl,es',bB,m',rfl,DF,w'⟩;refine Ld.mk (v:=ptr b9) (.tail _ (xae _ (by rw[hZ];exact .tail _ (.head _)))) rfl ?_;refine aN.mk ?_ ⟨b9,nm,kz,es',bB,m',CL,rfl,ho,rfl,DF,w'.cov (λu d e=>(h.ok.mid.two e).1),hL.ints⟩;rw[hZ];exact .trans (.cons (.skip (.skip (.cons .tail)))) .swap
def YB(n:Nat)(f:au.Fn)(V:Nat):Prop:=(∀j,n<=j->V.testBit j=false)/\∀v,v<n->(V.testBit v=true↔¬∃x:Nat,(∀j,v<j->j<n->x.testBit j=V.testBit j)/\x.testBit v=false/\f x=true)
theorem YB.uniq{n V V':Nat}{f:au.Fn}(h:YB n f V)(h':YB n f V'):V=V':=by
 have:∀k v,n<=v+k->V.testBit v=V'.testBit v:=by
  intro k;induction k with
  |zero=>intro v hv;rw[h.1 v hv,h'.1 v hv]
  |succ k ih=>
   intro v hv;by_cases FZ:n<=v
   ·rw[h.1 v FZ,h'.1 v FZ]
   rw[xbE,h.2 v zO,h'.2 v zO];have e:∀x:Nat,(∀j,v<j->j<n->x.testBit j=V.testBit j)↔(∀j,v<j->j<n->x.testBit j=V'.testBit j):=λx=>
    ⟨λq j a b=>by rw[q j a b];exact ih j zO,λq j a b=>by rw[q j a b];exact(ih j zO).symm⟩
   simp only[e]
 exact xaV λv=>this n v zO
theorem MB(h:bP kp K S ord ah tr C){f:Nat}(hf:live K.N f)(h0:f≠0):Rd zQ 91 #[ptr kp,u32 f] C (λv=>∃V,V<18446744073709551616/\YB K.n (S f) V/\v=.tuple #[u64 V,i64 0]):=by
 have sP:=h.aZ.lP;have abP:∃x,S f x=true:=by
  refine xaD λhno=>h0 ?_;have:S f=S 0:=funext λx=>by
   rw[h.ok.mid.int.zero];cases e:S f x with
   |false=>rfl
   |true=>exact absurd ⟨x,e⟩ hno
  exact h.ok.wf.same h.ok.lv h.ok.mid.int hf (.inl zD) λx=>congrFun this x
 refine aI λg=>Al (aa.rq (Q:=λv=>∃V,V<18446744073709551616/\YB K.n (S f) V/\v=.tuple #[u64 V,i64 0]) (aI λg=>xN ?_) ?_);rotate_left
 ·rintro v ⟨V,h1,h2,rfl⟩;exact Ext.two (bc.mk (.refl _) ⟨V,h1,h2,rfl⟩)
 refine aa.eq (tK h hf) ?_;rw[xab h0];refine ae.cD (Br.F (aa.fq (YV h hf) ?_));rintro v H ⟨d0,nm,kz,BX,BY,m,B,rfl,ho,rfl,hE,ag1,hL⟩;obtain⟨X,hX⟩:∃X:Hp,X=(nm,Obj.map BX BY)::(B++C):=⟨_,rfl⟩;rw[<-hX];have vw:∀F V,F<18446744073709551616->V<18446744073709551616->Xp K S ah ((List.range K.n).map (lv ah)) m K.n f F V d0 0 nm kz BX BY ((d0,.cells (ES K.n f nm kz F V) 266 zZ)::X):=λF V hF hV=>
  ⟨h.ok,sP,rfl,.head _,by rw[hX];exact .tail _ (.head _),hE,ag1,hL.mono λx hx=>by rw[hX];exact .tail _ (.tail _ (xae _ hx)),λv hv=>by simp[hv],hF,hV⟩
 refine aa.rq (yD (vw 0 0 zD zD) zI hf) ?_;intro t ht;refine aa.eq (yF (C:=X) ht) ?_;have e0:qT K.n 0 0 (S f)=true:=by
  obtain⟨x,hx⟩:=abP;exact qp.2 ⟨x,λj _ hj=>by simp at hj,hx⟩
 rw[e0];refine Un.not (Br.no (Ld.n (v:=i64 (K.n:Int)) (ae.lq (c:=(K.n:Int) -1) rfl zO ?_)));refine⟨λvs H=>∃(j F V:Nat),vs=[u64 0,i64 ((j:Int) -1)]/\j<=K.n/\F<18446744073709551616/\V<18446744073709551616/\H=(d0,.cells (ES K.n f nm kz F V) 266 zZ)::X/\(∀i,F.testBit i=(decide (j<=i) &&decide (i<K.n)))/\(∀i,i<j\/K.n<=i->V.testBit i=false)/\
   ∀v,j<=v->v<K.n->(V.testBit v=true↔¬∃x:Nat,(∀i,v<i->i<K.n->x.testBit i=V.testBit i)/\x.testBit v=false/\S f x=true),
  λvs _=>match vs with| [_,.int _ q]=>(q+1).toNat|_=>0,
  JE.mk ⟨K.n,0,0,rfl,xaj _,by decide,by decide,rfl,λi=>?_,λi _=>by simp,λv a b=>by omega⟩,?_⟩
 ·rw[xcy];by_cases e:K.n<=i
  ·rw[xal (show¬i<K.n by omega),xeb]
  rw[xal e,xd8]
 rintro w1 w2 H ⟨j,F,V,⟨⟩,hj,hF,hV,rfl,hFb,hV0,hVb⟩ gs;refine ae.geq (Br.dec (λhge=>?_) (λhlt=>?_))
 ·obtain⟨i,rfl⟩:∃i,j=i+1:=⟨j-1,by omega⟩;have ei:(((i+1:Nat):Int) -1)=(i:Int):=by omega
  rw[ei];intro J hJ;have back:∀F' V':Nat,F'<18446744073709551616->V'<18446744073709551616->(∀a,F'.testBit a=(decide (i<=a) &&decide (a<K.n)))->(∀a,a<i\/K.n<=a->V'.testBit a=false)->
    (∀v,i<=v->v<K.n->(V'.testBit v=true↔¬∃x:Nat,(∀a,v<a->a<K.n->x.testBit a=V'.testBit a)/\x.testBit v=false/\S f x=true))->J [u64 0] ((d0,.cells (ES K.n f nm kz F' V') 266 zZ)::X):=λF' V' a b c d e=>hJ _ _ λ_=>by
   refine ae.lq (c:=(i:Int) -1) rfl zO (aC.mk ⟨i,F',V',rfl,by omega,a,b,rfl,c,d,e⟩ ?_);show((i:Int) -1+1).toNat<((i:Int)+1).toNat;omega
  refine aa.fq (JR (C:=X) (b:=0) ho zO zD hF hV) ?_;rintro w H ⟨rfl,F1,V1,rfl,hF1,hV1,ahF,ahf⟩;have same:V1=V:=xaV λa=>by
   rw[ahf];split
   ·subst a;rw[hV0 i (.inl zO)];rfl
   rfl
  subst same;have fb:∀a,F1.testBit a=(decide (i<=a) &&decide (a<K.n)):=λa=>by
   rw[ahF,hFb];by_cases e:a=i
   ·subst e;rw[xam (show a<K.n by omega),xam rfl,xam (xaj a)];simp
   rw[xal e,xdu];congr 1;exact xaZ.2 zO
  refine aa.rq (yD (vw F1 V1 hF1 hV1) zI hf) ?_;intro t ht;intro b31 _;have ht':=ht;obtain⟨rr,rfl,xV,Pz⟩:=oS ht;refine St.p (r:=rr) Pz ?_ (hr:=xV);refine az.q ?_ (hr:=xV);refine aa.eq (yF (C:=X) ht') (Un.not ?_);have qi:qT K.n F1 V1 (S f)=true↔∃x:Nat,(∀a,i<a->a<K.n->x.testBit a=V1.testBit a)/\x.testBit i=false/\S f x=true:=by
   rw[qp];constructor
   ·rintro⟨x,hx,hS⟩;refine⟨x,λa ha hn=>hx a hn (by rw[fb,xam (show i<=a by omega),xam hn];rfl),?_,hS⟩;rw[hx i zO (by rw[fb,xam (xaj i),xam (show i<K.n by omega)];rfl)];exact hV0 i (.inl zO)
   rintro⟨x,hx,hxi,hS⟩;refine⟨x,λa hn hF=>?_,hS⟩;rw[fb,xaF,xaJ,xaJ]at hF;by_cases e:a=i
   ·subst e;rw[hxi];exact(hV0 a (.inl zO)).symm
   exact hx a zO hn
  refine Br.mk (λhb=>?_) (λhb=>?_)
  ·have hno:qT K.n F1 V1 (S f)=false:=by simpa using hb
   have hz:∃q,rr=[u64 0,q]:=by
    obtain⟨n,b,hn,e,hp⟩:=ht';rw[hno]at hp;have:rr=[u64 n,.bool b]:=by
     have:=Value.agg.inj e;simpa using this
    rw[xaG,xbp]at hp;have e0:n=0:=xaD hp.2;exact⟨.bool b,by rw[this,e0]⟩
   obtain⟨q,rfl⟩:=hz;refine Ld.f (v:=u64 0) (ae.xW (b:=0) zD (xaj _) (aa.pre .tail ?_));refine aa.fq (JR (C:=X) (b:=1) ho zO zD hF1 hV1) ?_;rintro w H ⟨rfl,F2,V2,rfl,hF2,hV2,ahE,adv⟩;have v2:∀a,a≠i->V2.testBit a=V1.testBit a:=λa ha=>by rw[adv,xab ha]
   refine JE.mk (back F2 V2 hF2 hV2 (λa=>?_) (λa ha=>?_) λv hv FZ=>?_)
   ·rw[ahE,fb];by_cases e:a=i
    ·subst e;rw[xam (show a<K.n by omega),xam rfl,xam (xaj a)];rfl
    rw[xal e,xdu]
   ·rw[v2 a zO];exact hV0 a zO
   have ah2:∀x:Nat,(∀a,v<a->a<K.n->x.testBit a=V2.testBit a)↔(∀a,v<a->a<K.n->x.testBit a=V1.testBit a):=λx=>
    ⟨λq a h1 h2=>by rw[q a h1 h2,v2 a zO],λq a h1 h2=>by rw[q a h1 h2,v2 a zO]⟩
   simp only[ah2];by_cases e:v=i
   ·subst e;rw[adv,xad rfl];have:=mt qi.2 (by rw[hno];decide);simp only[this,not_false_eq_true];decide
   rw[v2 v e];exact hVb v zO FZ
  have RC:qT K.n F1 V1 (S f)=true:=by simpa using hb
  refine JE.of .tail (back F1 V1 hF1 hV1 fb (λa ha=>hV0 a zO) λv hv FZ=>?_);by_cases e:v=i
  ·subst e;rw[hV0 v (.inl zO)];simp only[qi.1 RC,not_true_eq_false];decide
  exact hVb v zO FZ
 obtain rfl:j=0:=by omega
 refine Ld.n (v:=u64 V) (bc.mk ?_ ⟨V,hV,⟨λi hi=>hV0 i (.inr hi),λv hv=>hVb v (xaN _) hv⟩,rfl⟩);rw[hX];exact .skip (.skip .right)
theorem MC(h:bP kp K S ord ah tr C):Rd zQ 91 #[ptr kp,u32 0] C (· =.tuple #[u64 0,i64 10]):=by
 refine aI λg=>Al (aa.rq (Q:=λv=>v=.tuple #[u64 0,i64 10]) (aI λg=>xN ?_) ?_);rotate_left
 ·rintro v rfl;exact Ext.two (bc.mk (.refl _) rfl)
 refine aa.eq (tK h (.inl zD)) ?_;rw[xad rfl];exact ae.cD (Br.T (bc.mk (.refl _) rfl))
end
section
variable {sp kp mb nx:Nat} {c:Cf} {K:Kd} {S:Nat->au.Fn} {ord ah tr:zL} {hs:List (Int×Nat)} {es:Array MapEntry} {ck:Nat} {C:Hp} {x:dD}
theorem Qb(h:ia kp nx c K S ord ah tr hs es ck C):
  Rd zQ 51 #[ptr sp,x.v] (gS sp c kp mb nx es ck C) (· =if(aG hs x.a).isSome then eR 0 (-1) (sz c.n ord (λg=>g=bX S hs x.a)) 0 else eR 3 (-1) 0 0):=by
 refine aI λg=>OK λb1 _ b3 _=>?_;refine Ld.f (v:=i64 x.a) (aa.eq (eM h x.a) (Un.not ?_));cases hm:aG hs x.a with
 |none=>
  refine Br.yes (aa.eq (cy _ _) (St.p (r:=[i64 3,i64 (-1),u64 0,i64 0]) (bI _ _ _ _) ?_));refine az.q ?_;exact bc.mk (.skip .tail) rfl
 |some r=>
  apply Br.no;have hl:=h.live _ (h.find hm);refine DR.of (.refl _) (Ld.n (v:=ptr kp) (Ld.n (v:=.map (some mb)) (Ld.f (v:=i64 x.a) (h.dN.hit (k:=x.a) (cf _) (b:=mb) (by exact .tail _ (.tail _ (.tail _ (.head _)))) hm λv e=>?_))));subst e;intro F;refine ax.int (e:=78) (x:=(r:Int)) zK zK zK λbx=>?_;refine⟨.tail,?_⟩;intro F;refine aa.pre (H':=[(bx,Obj.cells (aA .u32 [(r:Int)]) 78 zZ),(b3,.cells #[i64 0,i64 0,u64 0,i64 0] 37 zZ),(b1,.cells (Value.cells x.v) 35 zZ),kF sp c kp mb nx,(mb,.map es ck)]++C) (.refl _) (aa.eq (args:=#[ptr kp,.slice (some ⟨bx,0,none⟩) 1 1]) (Tc h.ks hl (.head _)) (⟨.tail,?_⟩));refine Ext.two (br.of (m:=((sz K.n ord (λg=>g=S r):Nat):Int)) (eX (kd:=.u64) ?_) ?_)
  ·have hc:=h.ks.ok.size h.ks.od;have hroom:=h.ks.ok.mid.cap;have hcap:=h.ks.rep.cap;obtain⟨k,hk,l8⟩:=K9 (U:=aD K.n ord (λg=>g=S r)) (l:=En ord [S r] K.n) (yS zI);have hle:k<=1048576:=by
    by_cases h2:2<=r
    ·have oc:K.held S (S r):=⟨r,by show K.hold r≠0;rw[h.hold,xad h2];exact xdp (xbN.2 (xaT (f:=Prod.snd) (h.find hm))),rfl⟩;have alx:=l8.le hc λg hg=>bD (λg e=>by rw[e];exact oc) hg;omega
    have:k=0:=l8.uniq (nw.none.congr λg=>⟨False.elim,λhg=>jo (λv=>λhv=>h2 ((ct h.ks hl).2 ⟨v,hv⟩)) g hg⟩);omega
   rw[JX l8];exact xaA hle zD
  refine aa.eq (dS _ 0 _) (St.p (r:=[i64 0,i64 (-1),u64 (sz K.n ord (λg=>g=S r)),i64 0]) (bI _ _ _ _) ?_);refine az.q ?_;exact bc.mk (.skip (.skip .tail)) (by rw[bA hm,<-h.n];rfl)
theorem Ke(h:ia kp nx c K S ord ah tr hs es ck C)(hno:aG hs x.a=none\/∃r,aG hs x.a=some r/\2<=r/\K.hold r=65535):
  Rd zQ 46 #[ptr sp,x.v] (gS sp c kp mb nx es ck C) (· =if(aG hs x.a).isSome then eR 8 (-1) 0 0 else eR 3 (-1) 0 0):=by
 refine aI λg=>Au λb1 _ b3 _=>?_;refine Ld.n (v:=.map (some mb)) (Ld.f (v:=i64 x.a) (h.dN.look (k:=x.a) (cf _) (b:=mb) (by exact .tail _ (.tail _ (.tail _ (.head _)))) (λr v hr hv=>?_) (λhr=>?_)))
 ·subst hv;refine Ext.two (Un.not (Br.no (Ld.n (v:=ptr kp) ?_)));rcases hno with e|⟨q,hq,h2,hf⟩
  ·rw[hr]at e;cases e
  rw[hr]at hq;cases hq;refine aa.eq (args:=#[ptr kp,u32 r]) (o9 h.ks (h.live _ (h.find hr)) h2 hf) (ae.cD (Br.T (aa.eq (cy _ _) (St.p (r:=[i64 8,i64 (-1),u64 0,i64 0]) (bI _ _ _ _) ?_))));refine az.q ?_;exact bc.mk (.skip .tail) (by rw[hr];rfl)
 refine Ext.two (Un.not (Br.yes (aa.eq (cy _ _) (St.p (r:=[i64 3,i64 (-1),u64 0,i64 0]) (bI _ _ _ _) ?_))));refine az.q ?_;exact bc.mk (.skip .tail) (by rw[hr];rfl)
theorem Vh(h:ia kp nx c K S ord ah tr hs es ck C)(EG:nx+1<9223372036854775808){r:Nat}(hr:aG hs x.a=some r)(hf:2<=r->K.hold r<65535):
  Fc zQ 46 #[ptr sp,x.v] (gS sp c kp mb nx es ck C) (λv H=>v=eR 0 nx 0 0/\∃K' es' bB C',H=gS sp c kp mb (nx+1) es' bB C'/\ia kp (nx+1) c K' S ord ah [] (hs++[((nx:Int),r)]) es' bB C'):=by
 have hl:=h.live _ (h.find hr);refine aI λg=>Au λb1 _ b3 _=>?_;refine Ld.n (v:=.map (some mb)) (Ld.f (v:=i64 x.a) (h.dN.hit (k:=x.a) (cf _) (b:=mb) (by exact .tail _ (.tail _ (.tail _ (.head _)))) hr λv hv=>?_));subst hv;refine Ext.two (Un.not (Br.no (Ld.n (v:=ptr kp) (aa.fq (args:=#[ptr kp,u32 r]) (mR h.ks hl hf) ?_))));rintro v H ⟨rfl,K',cZ,hm⟩;refine ae.cD (Br.F (aa.fq (zw h.dN h.key EG r 0) ?_));rintro v H2 ⟨rfl,es',bB,rfl,he⟩;refine St.p (r:=[i64 0,i64 nx,u64 0,i64 0]) (bI _ _ _ _) ?_;refine az.q ?_;have hg:fY K S K' S (S r) r:=⟨hm.n,hm.cap,λs d hd=>by rw[hm.N];exact hd,λ_ _=>rfl,by rw[hm.N];exact hl,rfl,λs=>by rw[hm.hold];split<;>rfl⟩;exact aN.mk (.skip .tail) ⟨rfl,K',es',bB,H,rfl,(h.grow cZ hg he).1⟩
theorem count_erase{l:List (Int×Nat)}{a:Int}{r:Nat}(fD:(l.map Prod.fst).Nodup)(hm:(a,r)∈l)(s:Nat):((fS l a).map Prod.snd).count s=(l.map Prod.snd).count s-if s=r then 1 else 0:=by
 induction l with
 |nil=>cases hm
 |cons p l ih=>
  obtain⟨k,q⟩:=p;rw[xay,xaW]at fD;unfold fS at*;by_cases hk:k=a
  ·subst hk;have hq:q=r:=by
    rcases xak.1 hm with e|hm
    ·cases e;rfl
    exact absurd (xaT (f:=Prod.fst) hm) fD.1
   subst hq;have e:(l.filter λy=>decide ¬y.1=k)=l:=xcd.2 λy hy=>by
    have:y.1≠k:=λe=>fD.1 (by rw[<-e];exact xan.2 ⟨y,hy,rfl⟩);simpa using this
   rw[xby,xab zI,e,xay,xb5];by_cases hs:s=q
   ·subst hs;simp
   have:(q==s)=false:=by simpa using λe=>hs e.symm
   simp[hs,this]
  have hm':(a,r)∈l:=by
   rcases xak.1 hm with e|hm
   ·cases e;exact absurd rfl hk
   exact hm
  rw[xby,xad (by simpa using hk),xay,xay,xb5,xb5,ih fD.2 hm'];by_cases hs:s=r
  ·subst hs;have:0<(l.map Prod.snd).count s:=xbN.2 (xaT (f:=Prod.snd) hm');rw[xad rfl];omega
  rw[xab hs];rfl
theorem Qh(h:ia kp nx c K S ord ah tr hs es ck C){r:Nat}(hr:aG hs x.a=some r):
  Fc zQ 47 #[ptr sp,x.v] (gS sp c kp mb nx es ck C) (λv H=>v=eR 0 (-1) 0 0/\∃K' es' C',H=gS sp c kp mb nx es' ck C'/\ia kp nx c K' S ord ah [] (fS hs x.a) es' ck C'):=by
 have hmem:=h.find hr;have hl:=h.live _ hmem;have hlt:=h.ks.bM hl;have hh:2<=r->K.hold r≠0:=λh2=>by
  rw[h.hold,xad h2];exact xdp (xbN.2 (xaT (f:=Prod.snd) hmem))
 refine aI λg=>As λb1 _ b3 _=>?_;refine Ld.n (v:=.map (some mb)) (Ld.f (v:=i64 x.a) (h.dN.hit (k:=x.a) (cf _) (b:=mb) (by exact .tail _ (.tail _ (.tail _ (.head _)))) hr λv hv=>?_));subst hv;refine Ext.two (Un.not (Br.no (Ld.n (v:=ptr kp) (aa.fq (args:=#[ptr kp,u32 r]) (m4 h.ks zO hh) ?_))));rintro v H ⟨rfl,K',cZ,hm⟩;refine DR.of (.refl _) (Ld.n (v:=.map (some mb)) (Ld.f (v:=i64 x.a) λF=>?_));refine aF.del (k:=x.a) (cf _) h.dN (.tail _ (.tail _ (.tail _ (.head _)))) λes' he=>⟨_,.tail (.tail (.tail (.head _))),?_⟩;refine aa.eq (dS 0 0 _) (St.p (r:=[i64 0,i64 (-1),u64 0,i64 0]) (bI _ _ _ _) ?_);refine az.q ?_;have hsub:∀p,p∈fS hs x.a->p∈hs:=λp hp=>(xbV.1 hp).1;have Yb:∀s,K'.hold s=if 2<=s then((fS hs x.a).map Prod.snd).count s else 0:=λs=>by
  rw[hm.hold,h.hold,count_erase h.dN.nd hmem];by_cases h2:2<=s
  ·rw[xad h2,xad h2];by_cases e:s=r
   ·rw[xad ⟨e,by omega⟩,xad e]
   rw[xab (λh=>e h.1),xab e];rfl
  rw[xab h2,xab h2,xab (λh=>h2 zO)]
 refine aN.mk (.skip .tail) ⟨rfl,K',es',H,rfl,⟨cZ,hm.n.trans h.n,hm.cap.trans h.cap,he,λp hp=>?_,Yb,λp hp=>h.lt p (hsub p hp)⟩⟩;by_cases h2:2<=p.2
 ·refine .inr (cZ.ok.mid.held p.2 ?_);rw[Yb,xad h2];exact xdp (xbN.2 (xaT (f:=Prod.snd) hp))
 exact .inl zO
theorem Qi(h:ia kp nx c K S ord ah tr hs es ck C)(hr:aG hs x.a=none):
  Rd zQ 47 #[ptr sp,x.v] (gS sp c kp mb nx es ck C) (· =eR 3 (-1) 0 0):=by
 refine aI λg=>As λb1 _ b3 _=>?_;refine Ld.n (v:=.map (some mb)) (Ld.f (v:=i64 x.a) (h.dN.bO (k:=x.a) (cf _) (b:=mb) (by exact .tail _ (.tail _ (.tail _ (.head _)))) hr ?_));refine Ext.two (Un.not (Br.yes (aa.eq (cy _ _) (St.p (r:=[i64 3,i64 (-1),u64 0,i64 0]) (bI _ _ _ _) ?_))));refine az.q ?_;exact bc.mk (.skip .tail) rfl
theorem Cp{C0:Hp}{e:Int}(he:e≠0)(hex:Rd zQ 94 #[ptr kp,i64 x.a] C0 (· =i64 e)):
  Rd zQ 56 #[ptr sp,x.v] (gS sp c kp mb nx es ck C0) (· =eR e (-1) 0 0):=by
 refine aI λg=>Aq λb1 _ b3 _=>?_;refine DR.of (.refl _) (Ld.n (v:=ptr kp) (Ld.f (v:=i64 x.a) λF=>?_));refine aa.eq (args:=#[ptr kp,i64 x.a]) hex λF=>?_;refine aa.eq (dS 0 e _) λF=>?_;rw[xab he];refine St.p (r:=[i64 e,i64 (-1),u64 0,i64 0]) (bI _ _ _ _) ?_;refine az.q ?_;exact bc.mk (.skip .tail) rfl
theorem Qj{C0:Hp}{Q:Hp->Prop}(hex:Fc zQ 94 #[ptr kp,i64 x.a] C0 (λv H=>v=i64 0/\Q H)):
  Fc zQ 56 #[ptr sp,x.v] (gS sp c kp mb nx es ck C0) (λv H=>v=eR 0 (-1) 0 0/\∃C',H=gS sp c kp mb nx es ck C'/\Q C'):=by
 refine aI λg=>Aq λb1 _ b3 _=>?_;refine DR.of (R:=(b3,.cells #[i64 0,i64 0,u64 0,i64 0] 37 zZ)::(b1,.cells (Value.cells x.v) 35 zZ)::gS sp c kp mb nx es ck C0) (.refl _) (Ld.n (v:=ptr kp) (Ld.f (v:=i64 x.a) λF=>?_));refine aa.fq (args:=#[ptr kp,i64 x.a]) hex ?_;rintro v C' ⟨rfl,hQ⟩;intro F;refine aa.eq (dS 0 0 _) λF=>?_;refine St.p (r:=[i64 0,i64 (-1),u64 0,i64 0]) (bI _ _ _ _) ?_;refine az.q ?_;exact aN.mk (.skip .tail) ⟨rfl,C',rfl,hQ⟩
theorem AN{C0:Hp}(ha:x.a<0\/6<x.a):Rd zQ 57 #[ptr sp,x.v] (gS sp c kp mb nx es ck C0) (· =eR 1 (-1) 0 0):=by
 refine aI λg=>Ap λb1 _ b3 _=>?_;refine Ld.f (v:=i64 x.a) (ae.lss (cS.or (decide (6<x.a)) (λ_=>Ld.f (v:=i64 x.a) (ae.gtr ⟨rfl,rfl⟩)) rfl λ_=>?_));rw[<-xa4,xam ha];refine Br.yes (aa.eq (cy _ _) (St.p (r:=[i64 1,i64 (-1),u64 0,i64 0]) (bI _ _ _ _) ?_));refine az.q ?_;exact bc.mk (.skip .tail) rfl
theorem nP{C0:Hp}{s:Nat}(hs:x.a=s)(ZD:s<=6){Q:Int->Nat->Hp->Prop}(hrun:Fc zQ 45 #[ptr kp,.int .u8 (s:Int),i64 x.b] C0 (λv H=>∃(a b d:Int) (t:Bool) (e:Int),v=.tuple #[ur a b d t,i64 e]/\∃n,Q e n H/\Rd zQ 83 #[ptr kp] H (· =i64 ((n:Nat):Int))/\n<18446744073709551616)):
  Fc zQ 57 #[ptr sp,x.v] (gS sp c kp mb nx es ck C0) (λv H=>∃e n C',v=(if e=0 then eR 0 (-1) n 0 else eR e (-1) 0 0)/\H=gS sp c kp mb nx es ck C'/\Q e n C'):=by
 refine aI λg=>Ap λb1 _ b3 _=>?_;refine Ld.f (v:=i64 x.a) ?_;rw[hs];refine ae.lss (cS.or (decide (6<(s:Int))) (λ_=>Ld.f (v:=i64 x.a) (by rw[hs];exact ae.gtr ⟨rfl,rfl⟩)) rfl λ_=>?_);rw[<-xa4,xal zO];refine Br.no (DR.of (R:=[(b3,.cells #[i64 0,i64 0,u64 0,i64 0] 37 zZ),(b1,.cells (Value.cells x.v) 35 zZ),kF sp c kp mb nx]) (.cons (.cons (.cons λ_ _ h=>h.bg))) (Ld.n (v:=ptr kp) (Ld.f (v:=i64 x.a) ?_)));rw[hs];refine br.q (Ld.f (v:=i64 x.b) λF=>?_);refine aa.fq (args:=#[ptr kp,.int .u8 (s:Int),i64 x.b]) hrun ?_;rintro v H ⟨a,b,d,t,e,rfl,n,hQ,fM,hn⟩;refine⟨.cons (.cons (.cons λ_ _ h=>h.bg)),?_⟩;refine Ext.two λb31 _=>λF=>?_;refine St.p (r:=[i64 a,i64 b,i64 d,.bool t]) (oX _ _ _ _) (⟨.skip (.cons (.cons (.cons λ_ _ h=>h.bg))),?_⟩);refine Ld.n (v:=ptr kp) (aa.eq (args:=#[ptr kp]) fM (br.q (a:=n) ?_ (xaP hn zD)));refine aa.eq (dS n e _) ?_;by_cases he:e=0
 ·rw[xad he];refine St.p (r:=[i64 0,i64 (-1),u64 n,i64 0]) (bI _ _ _ _) ?_;refine az.q ?_;exact aN.mk (.skip (.skip .tail)) ⟨e,n,H,by rw[xad he],rfl,hQ⟩
 rw[xab he];refine St.p (r:=[i64 e,i64 (-1),u64 0,i64 0]) (bI _ _ _ _) ?_;refine az.q ?_;exact aN.mk (.skip (.skip .tail)) ⟨e,n,H,by rw[xab he],rfl,hQ⟩
end
section
variable {sp nx kp:Nat} {c:Cf} {F:FS} {ord tr:zL} {H C:Hp} {x:dD} {K:Kd} {S:Nat->au.Fn}
theorem TR{S:Nat->au.Fn}{hs:List (Int×Nat)}(a:Int):j5 S (fS hs a)=fS (j5 S hs) a:=by
 unfold j5 fS;rw[List.filter_map];rfl
theorem Vj(h:k9 sp c nx F ord tr H):Rd zQ 49 #[ptr sp,x.v] H (λw=>w=if dY F x.a&&dY F x.b then eR 0 (-1) (@decide (fF F x.a=fF F x.b) (Classical.propDecidable _)).toNat 0 else eR 3 (-1) 0 0):=by
 obtain⟨kp,mb,K,S,ah,hs,es,ck,C,rfl,h,rfl⟩:=h;rw[eH,eH,m0];exact Qd h
theorem VV(h:k9 sp c nx F ord tr H):Rd zQ 52 #[ptr sp,x.v] H (· =eR 0 (-1) (tU c.n F ord) 0):=by
 obtain⟨kp,mb,K,S,ah,hs,es,ck,C,rfl,h,rfl⟩:=h;rw[<-h.tU];exact Qf h
theorem Vb(h:k9 sp c nx F ord tr H):Rd zQ 51 #[ptr sp,x.v] H (· =if dY F x.a then eR 0 (-1) (sz c.n ord (λg=>g=fF F x.a)) 0 else eR 3 (-1) 0 0):=by
 obtain⟨kp,mb,K,S,ah,hs,es,ck,C,rfl,h,rfl⟩:=h;rw[eH,m0];exact Qb h
theorem Q7(h:k9 sp c nx F ord tr H):Rd zQ 55 #[ptr sp,x.v] H (λw=>((x.a<0\/(c.n:Int)<=x.a)/\w=eR 2 (-1) 0 0)\/((0<=x.a/\x.a<c.n)/\∃p,p<c.n/\ord.getD p 0=x.a.toNat/\w=eR 0 (-1) p 0)):=by
 obtain⟨kp,mb,K,S,ah,hs,es,ck,C,rfl,h,rfl⟩:=h;by_cases hv:x.a<0\/(c.n:Int)<=x.a
 ·exact(Md h hv).mono λv H ⟨h1,h2⟩=>⟨h1,.inl ⟨hv,h2⟩⟩
 obtain⟨v,hxv⟩:∃v:Nat,x.a=v:=⟨x.a.toNat,by omega⟩;refine(Me h hxv zO).mono λw H ⟨h1,p,hp,ho,h2⟩=>⟨h1,.inr ⟨by omega,p,hp,?_,h2⟩⟩;rw[hxv,xbe];exact ho
theorem E5(h:k9 sp c nx F ord tr H):Rd zQ 54 #[ptr sp,x.v] H (λw=>(dY F x.a=false/\w=eR 3 (-1) 0 0)\/(dY F x.a=true/\∃m,GM (fF F x.a) m/\w=eR 0 (-1) m 0)):=by
 obtain⟨kp,mb,K,S,ah,hs,es,ck,C,rfl,h,rfl⟩:=h;rw[eH,m0];refine(Cg h (x:=x) (P:=λn e=>e=0/\GM (bX S hs x.a) n) λr hr=>?_).mono λv H ⟨e,hv⟩=>⟨e,?_⟩
 ·rw[bA hr];exact(D1 h.ks (h.live _ (h.find hr))).mono λv H ⟨e,m,hm,hv⟩=>⟨e,m,0,⟨rfl,hm⟩,hv⟩
 rcases hv with h1|⟨h1,n,e,⟨rfl,hn⟩,h2⟩
 ·exact .inl h1
 exact .inr ⟨h1,n,hn,h2⟩
theorem aaq(h:k9 sp c nx F ord tr H)(EG:nx+1<9223372036854775808):Fc zQ 46 #[ptr sp,x.v] H (λw H'=>
  (dY F x.a=false/\w=eR 3 (-1) 0 0/\H'=H)\/(dY F x.a=true/\nt (mc F) (fF F x.a)/\w=eR 8 (-1) 0 0/\H'=H)\/
  (dY F x.a=true/\¬nt (mc F) (fF F x.a)/\w=eR 0 nx 0 0/\k9 sp c (nx+1) (F++[((nx:Int),fF F x.a)]) ord [] H')):=by
 obtain⟨kp,mb,K,S,ah,hs,es,ck,C,rfl,h,rfl⟩:=h;rw[eH,m0,mY];cases hm:aG hs x.a with
 |none=>
  refine Fc.mono (Ke h (x:=x) (.inl hm)) λv H ⟨h1,h2⟩=>.inl ⟨rfl,?_,h1⟩;rw[hm]at h2;exact h2
 |some r=>
  have hl:live K.N r:=h.live _ (h.find hm);have hle:=h.ks.dR r;rw[bA hm];by_cases hf:2<=r/\K.hold r=65535
  ·refine Fc.mono (Ke h (x:=x) (.inr ⟨r,hm,hf.1,hf.2⟩)) λv H ⟨h1,h2⟩=>.inr (.inl ⟨rfl,h.full hf.2 hf.1,?_,h1⟩);rw[hm]at h2;exact h2
  refine(Vh h EG hm (λh2=>by omega)).mono ?_;rintro v H ⟨rfl,K',es',bB,C',rfl,h'⟩;refine .inr (.inr ⟨rfl,?_,rfl,kp,mb,K',S,ah,_,es',bB,C',rfl,h',by unfold j5;rw[xaB];rfl⟩);rintro⟨hv,hc⟩;have h2:=(ct h.ks hl).2 hv;rw[<-h.count hl h2]at hc;omega
theorem KT(h:k9 sp c nx F ord tr H):Fc zQ 47 #[ptr sp,x.v] H (λw H'=>(dY F x.a=false/\w=eR 3 (-1) 0 0/\H'=H)\/(dY F x.a=true/\w=eR 0 (-1) 0 0/\k9 sp c nx (fS F x.a) ord [] H')):=by
 obtain⟨kp,mb,K,S,ah,hs,es,ck,C,rfl,h,rfl⟩:=h;rw[eH];cases hm:aG hs x.a with
 |none=>exact Fc.mono (Qi h (x:=x) hm) λv H ⟨h1,h2⟩=>.inl ⟨rfl,h2,h1⟩
 |some r=>
  refine(Qh h hm).mono ?_;rintro v H ⟨rfl,K',es',C',rfl,h'⟩;exact .inr ⟨rfl,rfl,kp,mb,K',S,ah,_,es',ck,C',rfl,h',TR _⟩
noncomputable def DM(n:Nat)(F:FS)(ord:zL)(l:Nat):Nat:=AE n ord l (HF (mc F))
theorem W4(h:k9 sp c nx F ord tr H)(fh:tr.length<17592186044416):Fc zQ 56 #[ptr sp,x.v] H (λw H'=>
  ((x.a<0\/(c.n:Int)<=x.a+1)/\w=eR 1 (-1) 0 0/\H'=H)\/(∃l:Nat,x.a=l/\l+1<c.n/\¬DM c.n F ord l+2<=c.cap/\w=eR 9 (-1) 0 0/\H'=H)\/
  (∃l:Nat,x.a=l/\l+1<c.n/\DM c.n F ord l+2<=c.cap/\w=eR 0 (-1) 0 0/\k9 sp c nx F (fK ord l) (tr++[l]) H')):=by
 obtain⟨kp,mb,K,S,ah,hs,es,ck,C,rfl,h,rfl⟩:=h;by_cases ha:x.a<0\/(c.n:Int)<=x.a+1
 ·exact Fc.mono (Cp (x:=x) (e:=1) zD (SQ h.ks (l:=x.a) (by rw[h.n];omega))) λv H ⟨h1,h2⟩=>.inl ⟨ha,h2,h1⟩
 obtain⟨l,hl⟩:∃l:Nat,x.a=l:=⟨x.a.toNat,by omega⟩;have zn:l+1<K.n:=by rw[h.n];omega
 have e:DM c.n (j5 S hs) ord l=AE K.n ord l (K.held S):=by unfold DM;rw[h.held,mY,h.n]
 by_cases hf:jb K S ord l
 ·refine(Qj (x:=x) (Q:=λC'=>At kp K S (fK ord l) (tr++[l]) C') (by rw[hl];exact uR h.ks.aZ zn fh hf)).mono ?_;rintro v H ⟨rfl,C',rfl,K',S',bR,cZ,hk⟩;obtain⟨h',hS⟩:=h.kept cZ hk;exact .inr (.inr ⟨l,hl,by omega,by rw[e,<-h.cap];exact hf,rfl,kp,mb,K',S',bR,hs,es,ck,C',rfl,h',jO hS⟩)
 refine Fc.mono (Cp (x:=x) (e:=9) zD (by rw[hl];exact m7 h.ks.aZ zn fh hf)) λv H ⟨h1,h2⟩=>.inr (.inl ⟨l,hl,by omega,?_,h2,h1⟩);rw[e,<-h.cap];exact hf
theorem vz(h:k9 sp c nx F ord tr H)(ha:x.a<0\/6<x.a):Rd zQ 57 #[ptr sp,x.v] H (· =eR 1 (-1) 0 0):=by
 obtain⟨kp,mb,K,S,ah,hs,es,ck,C,rfl,h,rfl⟩:=h;exact AN ha
theorem aaz(h:At kp K S ord tr C){s:Nat}{gr:Int}(hb:6<s\/gr<100\/1000<gr):Rd zQ 77 #[ptr kp,.int .u8 (s:Int),i64 gr] C (· =i64 1):=by
 refine aI λg=>Ao (ae.aL (Br.no (ae.nE (b:=6) (cS.or (a:=decide (6<s)) (decide (gr<100)) (λ_=>ae.lss ⟨rfl,rfl⟩) rfl λ_=>?_))));refine cS.or (a:=decide (6<s)||decide (gr<100)) (decide (1000<gr)) (λ_=>ae.gtr ⟨rfl,rfl⟩) rfl λ_=>?_;rw[<-xa4,<-xa4,xam zO];exact Br.yes (bc.mk (.refl _) rfl)
theorem Qv(h:At kp K S ord tr C){s:Nat}{gr:Int}(hb:6<s\/gr<100\/1000<gr):Rd zQ 45 #[ptr kp,.int .u8 (s:Int),i64 gr] C (· =.tuple #[ur 0 0 0 false,i64 1]):=by
 refine aI λg=>iG λb1 _=>?_;refine aa.eq (aaz h hb) (ae.cD (Br.T (Build.mk (cs:=[iv 0,iv 0,iv 0,.bool false]) zK (St.q ?_))));refine az.q ?_;exact bc.mk .tail rfl
theorem vy(h:k9 sp c nx F ord tr H){s:Nat}(hs:x.a=s)(ZD:s<=6)(hb:x.b<100\/1000<x.b):Fc zQ 57 #[ptr sp,x.v] H (λw H'=>w=eR 1 (-1) 0 0/\H'=H):=by
 obtain⟨kp,mb,K,S,ah,hs',es,ck,C,rfl,h,rfl⟩:=h;have hle:=gv h.ks.aZ;refine(nP (x:=x) hs ZD (Q:=λe _ H=>e=1/\H=C) (Fc.mono (Qv h.ks.aZ (s:=s) (.inr hb)) λv H ⟨h1,h2⟩=>?_)).mono ?_
 ·subst h1;exact⟨_,_,_,_,_,h2,_,⟨rfl,rfl⟩,cF h.ks.aZ,by omega⟩
 rintro v H ⟨e,n,C',rfl,rfl,rfl,rfl⟩;exact⟨rfl,rfl⟩
end
def g0:au.Fn:=λy=>y.testBit 0
def g1:au.Fn:=λy=>y.testBit 1
def g2:au.Fn:=λy=>y.testBit 0&&y.testBit 1
def g3:au.Fn:=λy=> !g2 y
def g4:au.Fn:=λ_=>decide ((0:Int)=1)
section
variable {sp nx kp:Nat} {c:Cf} {F F':FS} {ord tr:zL} {H C:Hp} {x:dD} {K:Kd} {S:Nat->au.Fn}
theorem Rb(h:k9 sp c nx F ord tr H):Rd zQ 53 #[ptr sp,x.v] H (λw=>(dY F x.a=false/\w=eR 3 (-1) 0 0)\/(dY F x.a=true/\fF F x.a=(λ_=>false)/\w=eR 10 (-1) 0 0)\/
  (dY F x.a=true/\fF F x.a≠(λ_=>false)/\∃V,V<18446744073709551616/\YB c.n (fF F x.a) V/\w=eR 0 (-1) V 0)):=by
 obtain⟨kp,mb,K,S,ah,hs,es,ck,C,rfl,h,rfl⟩:=h;rw[eH,m0];refine(Mf h (x:=x) (P:=λn e=>(bX S hs x.a=(λ_=>false)/\n=0/\e=10)\/(bX S hs x.a≠(λ_=>false)/\e=0/\n<18446744073709551616/\YB c.n (bX S hs x.a) n)) λr hr=>?_).mono λv H ⟨e,hv⟩=>⟨e,?_⟩
 ·rw[bA hr];have hl:=h.live _ (h.find hr);have ack:S r=(λ_=>false)↔r=0:=by
   rw[<-show S 0=λ_=>false from funext h.ks.ok.mid.int.zero];exact h.same hl (.inl zD)
  by_cases h0:r=0
  ·subst h0;exact(MC h.ks).mono λv H ⟨e,hv⟩=>⟨e,0,10,.inl ⟨ack.2 rfl,rfl,rfl⟩,hv⟩
  refine(MB h.ks hl h0).mono λv H ⟨e,V,hV,hL,hv⟩=>⟨e,V,0,.inr ⟨λe=>h0 (ack.1 e),rfl,hV,by rw[<-h.n];exact hL⟩,hv⟩
 rcases hv with h1|⟨h1,n,e,⟨a,rfl,rfl⟩|⟨a,rfl,hV,hL⟩,h2⟩
 ·exact .inl h1
 ·exact .inr (.inl ⟨h1,a,h2⟩)
 exact .inr (.inr ⟨h1,a,n,hV,hL,h2⟩)
def yz(n:Nat)(F:FS)(x:dD)(e:Int)(N:Nat):Prop:=
 (x.op=14\/x.op=15\/x.op=16\/x.op=19\/x.op=20)->
 if(dY F x.a&& (decide (x.op≠15)||dY F x.b))=true then
  (x.op=14->e=0/\N=(fF F x.a x.x).toNat)/\(x.op=15->e=0/\N=(@decide (fF F x.a=fF F x.b) (Classical.propDecidable _)).toNat)/\(x.op=16->e=0/\N=sat n (fF F x.a)%BF)/\
  (x.op=19->(fF F x.a=(λ_=>false)/\e=10/\N=0)\/(fF F x.a≠(λ_=>false)/\e=0/\YB n (fF F x.a) N))/\(x.op=20->e=0/\GM (fF F x.a) N)
 else e=3/\N=0
end
noncomputable def rmF(n cap:Nat)(P:au.Fn->Prop):Rm:=⟨n,λo=>sz n o P,λo l=> @decide (AE n o l P+2<=cap) (Nat.decLe _ _)⟩
theorem YY{K:Kd}{S:Nat->au.Fn}:rm K S=rmF K.n K.cap (K.held S):=rfl
def TW(c:Cf)(F:FS)(s gr:Nat)(o ls:zL)(k:Nat)(d:Bool):Prop:=aaF (rmF c.n c.cap (HF (mc F))) (HF (mc F)) o s gr ls k d
def RunT(c:Cf)(F:FS)(o ls:zL):Prop:=(∃k d,TW c F c.str c.gr o ls k d)/\Fits (aD c.n (ay o ls) (HF (mc F))) c.cap
section
variable {sp nx:Nat} {c:Cf} {F:FS} {ord tr:zL} {H:Hp} {x:dD}
theorem ia.rm{kp:Nat}{K:Kd}{S:Nat->au.Fn}{ah:zL}{hs:List (Int×Nat)}{es:Array MapEntry}{ck:Nat}{C:Hp}(h:ia kp nx c K S ord ah tr hs es ck C):Proofs.rm K S=rmF c.n c.cap (HF (mc (j5 S hs)))/\K.held S=HF (mc (j5 S hs)):=by
 rw[YY,h.held,mY,h.n,h.cap];exact⟨rfl,rfl⟩
theorem ia.U5{kp:Nat}{K:Kd}{S:Nat->au.Fn}{ah:zL}{hs:List (Int×Nat)}{es:Array MapEntry}{ck:Nat}{C:Hp}(h:ia kp nx c K S ord ah tr hs es ck C):Fits (aD c.n ord (HF (mc (j5 S hs)))) c.cap:=by
 have:=h.by.fits h.ks
 rwa [h.n,h.cap,<-mY]at this
theorem Qq{b:Nat}{T:zL->Nat->Prop}(hc:c.Ok)(hb:b<16000000000000):TV c nx F T (RunT c F) b:=by
 intro kp K S o ah tr hs' es ck C hT h hF fh;refine(Cy h.ks.aZ h.ks.perm hc.str hc.gr (λe=>by rw[h.n];exact hc.ex e) zO).mono ?_;rintro v H ⟨ls,d,t,rfl,hA,hS,_,_,hD⟩;obtain⟨e1,e2⟩:=h.rm;rw[e1,e2,hF]at hD;refine⟨ls,_,_,rfl,⟨⟨d,t,hD⟩,?_⟩,hA,hS.len⟩;obtain⟨K',S',bR,cZ,hk⟩:=hA;obtain⟨h',Nj⟩:=h.kept cZ hk;have:=h'.U5;rwa [jO Nj,hF]at this
end
section
variable {sp nx kp:Nat} {c:Cf} {F F':FS} {ord tr:zL} {H C:Hp} {x:dD}
theorem MQ{n w:Nat}:fe n F w x=0\/fe n F w x=1\/fe n F w x=2\/fe n F w x=3:=by
 unfold fe
 repeat' split
 all_goals simp
theorem Q5{op:Nat}{p:Nat×Nat}(hm:df op=some p):1<=op/\op<=11:=by
 unfold df at hm
 repeat' split at hm
 all_goals first|omega|cases hm
theorem Tz{op f:Nat}(hm:m8 op=some f):op=12\/op=13\/op=14\/op=15\/op=16\/op=17\/op=18\/op=19\/op=20\/op=21\/op=22\/op=23:=by
 refine xaD λhn=>?_;unfold m8 at hm;rw[xab zO,xab zO,xab zO,xab zO,xab zO,xab zO,xab zO,xab zO,xab zO,xab zO,xab zO,xab zO]at hm;cases hm
end
section
variable {sp nx:Nat} {c:Cf} {F:FS} {ord tr:zL} {H:Hp} {x:dD}
def yx(x:dD):Prop:=(x.a<0\/6<x.a)\/x.b<100\/1000<x.b
theorem Mx(h:k9 sp c nx F ord tr H)(fh:tr.length<16000000000000):Fc zQ 57 #[ptr sp,x.v] H (λw H'=>
  (yx x/\w=eR 1 (-1) 0 0/\H'=H)\/(¬yx x/\(x.a=6/\12<c.n)/\w=eR 6 (-1) 0 0/\k9 sp c nx F ord tr H')\/
  (¬yx x/\¬(x.a=6/\12<c.n)/\∃ls k d,TW c F x.a.toNat x.b.toNat ord ls k d/\w=eR 0 (-1) (tU c.n F (ay ord ls)) 0/\k9 sp c nx F (ay ord ls) (tr++ls) H'/\ls.length+66*tU c.n F (ay ord ls)<=66*tU c.n F ord)):=by
 by_cases ha:x.a<0\/6<x.a
 ·exact Fc.mono (vz h ha) λv H ⟨h1,h2⟩=>.inl ⟨.inl ha,h2,h1⟩
 obtain⟨s,hs⟩:∃s:Nat,x.a=s:=⟨x.a.toNat,by omega⟩;have ZD:s<=6:=by omega
 by_cases hb:x.b<100\/1000<x.b
 ·exact(vy h hs ZD hb).mono λv H ⟨h1,h2⟩=>.inl ⟨.inr hb,h1,h2⟩
 have hnb:¬yx x:=λh=>h.elim ha hb;obtain⟨g,hg⟩:∃g:Nat,x.b=g:=⟨x.b.toNat,by omega⟩;obtain⟨kp,mb,K,S,ah,hs',es,ck,C,rfl,h,rfl⟩:=h;have hle:=λ(o:zL) (tr:zL) (C:Hp) (h:At kp K S o tr C)=>gv h;have keep:∀(o cE:zL) (C':Hp),At kp K S o cE C'->k9 sp c nx (j5 S hs') o cE (gS sp c kp mb nx es ck C'):=λo cE C' hA=>by
  obtain⟨K',S',bR,cZ,hk⟩:=hA;obtain⟨h',hS⟩:=h.kept cZ hk;exact⟨kp,mb,K',S',bR,hs',es,ck,C',rfl,h',jO hS⟩
 by_cases hx:s=6/\12<c.n
 ·obtain⟨rfl,hn⟩:=hx;have hv:Rd zQ 45 #[ptr kp,.int .u8 6,i64 x.b] C (· =.tuple #[ur 0 0 0 false,iv 6]):=by rw[hg];exact Qr h.ks.aZ (gr:=g) zO (by rw[h.n];exact hn)
  refine(nP (x:=x) hs ZD (Q:=λe _ H=>e=6/\H=C) (Fc.mono hv λv H ⟨h1,h2⟩=>?_)).mono ?_
  ·subst h1;exact⟨_,_,_,_,_,h2,_,⟨rfl,rfl⟩,cF h.ks.aZ,by have:=hle _ _ _ h.ks.aZ;omega⟩
  rintro v H ⟨e,n,C',rfl,rfl,rfl,rfl⟩;exact .inr (.inl ⟨hnb,⟨by omega,hn⟩,rfl,keep _ _ _ h.ks.aZ⟩)
 refine(nP (x:=x) hs ZD (Q:=λe n H=>e=0/\∃ls k d,n=cG K S (ay ord ls)/\At kp K S (ay ord ls) (tr++ls) H/\ls.length+66*cG K S (ay ord ls)<=66*cG K S ord/\aaF (Proofs.rm K S) (K.held S) ord s g ls k d) (Fc.mono (by rw[hg];exact Cy h.ks.aZ h.ks.perm ZD (gr:=g) zO (λe=>by rw[h.n];omega) zO) ?_)).mono ?_
 ·rintro v H ⟨ls,d,t,rfl,hA,hS,_,_,hD⟩;exact⟨_,_,_,_,_,rfl,_,⟨rfl,ls,_,_,rfl,hA,hS.len,hD⟩,cF hA,by have:=hle _ _ _ hA;omega⟩
 rintro v H ⟨e,n,C',rfl,rfl,rfl,ls,k,d,rfl,hA,hlen,hD⟩;obtain⟨e1,e2⟩:=h.rm;rw[e1,e2]at hD;rw[h.tU,h.tU]at hlen;refine .inr (.inr ⟨hnb,by omega,ls,k,d,?_,?_,keep _ _ _ hA,hlen⟩)
 ·unfold TW;rw[show x.a.toNat=s by omega,show x.b.toNat=g by omega];exact hD
 rw[xad rfl,h.tU]
def EO(c:Cf)(nx:Nat)(F:FS)(ord:zL)(x:dD)(r:Rp)(F':FS)(AZ:Nat)(o:zL):Prop:=
 match df x.op with
 |some (w,_)=>if fe c.n F w x=0 then∃t e:Nat,t<=c.rs+1/\xm (lF c.n c.cap (mc F) (fF F) x) (RunT c F) ord t o/\lF c.n c.cap (mc F) (fF F) x o e/\(e=9->t=c.rs+1)/\
   ((e=0/\r=⟨0,nx,0,t⟩/\F'=F++[((nx:Int),dy c.n (fF F) x)]/\AZ=nx+1)\/(e≠0/\r=⟨e, -1,0,t⟩/\F'=F/\AZ=nx))
  else r=⟨fe c.n F w x, -1,0,0⟩/\F'=F/\AZ=nx/\o=ord
 |none=>
  if x.op=12 then o=ord/\if dY F x.a=true then(nt (mc F) (fF F x.a)/\r=⟨8, -1,0,0⟩/\F'=F/\AZ=nx)\/(¬nt (mc F) (fF F x.a)/\r=⟨0,nx,0,0⟩/\F'=F++[((nx:Int),fF F x.a)]/\AZ=nx+1)else r=⟨3, -1,0,0⟩/\F'=F/\AZ=nx
  else if x.op=13 then o=ord/\AZ=nx/\if dY F x.a=true then r=⟨0, -1,0,0⟩/\F'=fS F x.a else r=⟨3, -1,0,0⟩/\F'=F
  else F'=F/\AZ=nx/\
   if x.op=22 then if x.a<0\/(c.n:Int)<=x.a+1 then r=⟨1, -1,0,0⟩/\o=ord else(DM c.n F ord x.a.toNat+2<=c.cap/\r=⟨0, -1,0,0⟩/\o=fK ord x.a.toNat)\/(¬DM c.n F ord x.a.toNat+2<=c.cap/\r=⟨9, -1,0,0⟩/\o=ord)
   else if x.op=23 then(yx x/\r=⟨1, -1,0,0⟩/\o=ord)\/(¬yx x/\(x.a=6/\12<c.n)/\r=⟨6, -1,0,0⟩/\o=ord)\/(¬yx x/\¬(x.a=6/\12<c.n)/\∃ls k d,TW c F x.a.toNat x.b.toNat ord ls k d/\r=⟨0, -1,(tU c.n F (ay ord ls):Nat),0⟩/\o=ay ord ls)
   else o=ord/\∃(e:Int) (N:Nat),r=⟨e, -1,N,0⟩/\yz c.n F x e N/\
    (x.op=17->(dY F x.a=true/\e=0/\N=sz c.n ord (λg=>g=fF F x.a))\/(dY F x.a=false/\e=3/\N=0))/\
    (x.op=18->e=0/\N=tU c.n F ord)/\
    (x.op=21->((x.a<0\/(c.n:Int)<=x.a)/\e=2/\N=0)\/((0<=x.a/\x.a<c.n)/\e=0/\N<c.n/\ord.getD N 0=x.a.toNat))/\
    ((x.op=0\/23<x.op)->e=12/\N=0)
end
section
variable {sp nx:Nat} {c:Cf} {F F':FS} {ord tr:zL} {H:Hp} {x:dD}
def jl(sp:Nat)(c:Cf)(nx:Nat)(F:FS)(ord tr:zL)(x:dD)(v:zV)(H:Hp):Prop:=
 ∃(r:Rp) (F':FS) (AZ:Nat) (o cE:zL),v=r.v/\k9 sp c AZ F' o cE H/\cE.length<=tr.length+66*tU c.n F ord+1/\EO c nx F ord x r F' AZ o
theorem jl.rp{v:zV}(h:jl sp c nx F ord tr x v H):aaO v:=by
 obtain⟨r,_,_,_,_,e,_⟩:=h;exact⟨r.e,r.h,r.n,r.t,e⟩
theorem iV{v:zV}{H':Hp}(hm:df x.op=none)(ho:x.op≠12/\x.op≠13/\x.op≠22/\x.op≠23)(e:Int)(N:Nat)(hv:v=eR e (-1) N 0)(h':k9 sp c nx F ord tr H')(hA:yz c.n F x e N)
 (Nm:x.op=17->(dY F x.a=true/\e=0/\N=sz c.n ord (λg=>g=fF F x.a))\/(dY F x.a=false/\e=3/\N=0))(h18:x.op=18->e=0/\N=tU c.n F ord)
 (h21:x.op=21->((x.a<0\/(c.n:Int)<=x.a)/\e=2/\N=0)\/((0<=x.a/\x.a<c.n)/\e=0/\N<c.n/\ord.getD N 0=x.a.toNat))(h0:(x.op=0\/23<x.op)->e=12/\N=0):jl sp c nx F ord tr x v H':=by
 refine⟨⟨e, -1,N,0⟩,F,nx,ord,tr,hv,h',by omega,?_⟩;unfold EO;rw[hm];dsimp only;rw[xab ho.1,xab ho.2.1,xab ho.2.2.1,xab ho.2.2.2];exact⟨rfl,rfl,rfl,e,N,rfl,hA,Nm,h18,h21,h0⟩
theorem gN{r:Rp}{AZ:Nat}{o:zL}(hm:df x.op=none)(h:(x.op=12/\o=ord/\if dY F x.a=true then(nt (mc F) (fF F x.a)/\r=⟨8, -1,0,0⟩/\F'=F/\AZ=nx)\/(¬nt (mc F) (fF F x.a)/\r=⟨0,nx,0,0⟩/\F'=F++[((nx:Int),fF F x.a)]/\AZ=nx+1)else r=⟨3, -1,0,0⟩/\F'=F/\AZ=nx)\/
  (x.op=13/\o=ord/\AZ=nx/\if dY F x.a=true then r=⟨0, -1,0,0⟩/\F'=fS F x.a else r=⟨3, -1,0,0⟩/\F'=F)\/
  (x.op=22/\F'=F/\AZ=nx/\if x.a<0\/(c.n:Int)<=x.a+1 then r=⟨1, -1,0,0⟩/\o=ord else(DM c.n F ord x.a.toNat+2<=c.cap/\r=⟨0, -1,0,0⟩/\o=fK ord x.a.toNat)\/(¬DM c.n F ord x.a.toNat+2<=c.cap/\r=⟨9, -1,0,0⟩/\o=ord))\/
  (x.op=23/\F'=F/\AZ=nx/\((yx x/\r=⟨1, -1,0,0⟩/\o=ord)\/(¬yx x/\(x.a=6/\12<c.n)/\r=⟨6, -1,0,0⟩/\o=ord)\/(¬yx x/\¬(x.a=6/\12<c.n)/\∃ls k d,TW c F x.a.toNat x.b.toNat ord ls k d/\r=⟨0, -1,(tU c.n F (ay ord ls):Nat),0⟩/\o=ay ord ls)))):EO c nx F ord x r F' AZ o:=by
 unfold EO;rw[hm];dsimp only;rcases h with⟨e,h⟩|⟨e,h⟩|⟨e,h1,h2,h⟩|⟨e,h1,h2,h⟩
 ·rw[xad e];exact h
 ·rw[xab zO,xad e];exact h
 ·rw[xab zO,xab zO,xad e];exact⟨h1,h2,h⟩
 rw[xab zO,xab zO,xab zO,xad e];exact⟨h1,h2,h⟩
theorem E7(h:k9 sp c nx F ord tr H)(hc:c.Ok)(EG:nx+1<9223372036854775808)(hx:x.x<18446744073709551616)(fh:tr.length+66*tU c.n F ord<16000000000000):
  Fc zQ 9 #[ptr sp,x.v] H (jl sp c nx F ord tr x):=by
 refine q5 (λv H h=>h.rp) (λw f hm=>?_) (λf hm ha fO=>?_) (λhm ha=>?_)
 ·obtain⟨hf,fO,hw⟩:=Xb hm;by_cases hl:fe c.n F w x=0
  ·refine(Ky h hc EG hx hf fO hw hl (Qq hc zO)).mono ?_;rintro v H' ⟨t,o,cE,ht,hT,⟨rfl,h',h0⟩|⟨e,he,rfl,h',Uv,h9,hb⟩⟩
   ·refine⟨⟨0,nx,0,t⟩,_,_,o,[],rfl,h',by simp,?_⟩;unfold EO;rw[hm];dsimp only;rw[xad hl];exact⟨t,0,ht,hT,h0,λh=>absurd h zD,.inl ⟨rfl,rfl,rfl,rfl⟩⟩
   refine⟨⟨e, -1,0,t⟩,F,nx,o,cE,rfl,h',by omega,?_⟩;unfold EO;rw[hm];dsimp only;rw[xad hl];exact⟨t,e,ht,hT,Uv,h9,.inr ⟨by omega,rfl,rfl,rfl⟩⟩
  refine Fc.mono (vW h hx hw hl) λv H' ⟨e1,e2⟩=>?_;refine⟨⟨fe c.n F w x, -1,0,0⟩,F,nx,ord,tr,e2,by rw[e1];exact h,by omega,?_⟩;unfold EO;rw[hm];dsimp only;rw[xab hl];exact⟨rfl,rfl,rfl,rfl⟩
 ·rcases Tz ha with e|e|e|e|e|e|e|e|e|e|e|e
  ·have hd:Fc zQ 46 #[ptr sp,x.v] H (jl sp c nx F ord tr x):=by
    refine(aaq h EG).mono ?_;rintro v H' (⟨e1,rfl,rfl⟩|⟨e1,hF,e8,e9⟩|⟨e1,hF,rfl,h'⟩)
    ·exact⟨⟨3, -1,0,0⟩,F,nx,ord,tr,rfl,h,by omega,gN hm (.inl ⟨e,rfl,by rw[xab (by rw[e1];decide)];exact⟨rfl,rfl,rfl⟩⟩)⟩
    ·exact⟨⟨8, -1,0,0⟩,F,nx,ord,tr,e8,by rw[e9];exact h,by omega,gN hm (.inl ⟨e,rfl,by rw[xad e1];exact .inl ⟨hF,rfl,rfl,rfl⟩⟩)⟩
    exact⟨⟨0,nx,0,0⟩,_,_,ord,[],rfl,h',by simp,gN hm (.inl ⟨e,rfl,by rw[xad e1];exact .inr ⟨hF,rfl,rfl,rfl⟩⟩)⟩
   rw[e]at ha;cases ha;exact hd
  ·have hd:Fc zQ 47 #[ptr sp,x.v] H (jl sp c nx F ord tr x):=by
    refine(KT h).mono ?_;rintro v H' (⟨e1,rfl,rfl⟩|⟨e1,rfl,h'⟩)
    ·exact⟨⟨3, -1,0,0⟩,F,nx,ord,tr,rfl,h,by omega,gN hm (.inr (.inl ⟨e,rfl,rfl,by rw[xab (by rw[e1];decide)];exact⟨rfl,rfl⟩⟩))⟩
    exact⟨⟨0, -1,0,0⟩,_,_,ord,[],rfl,h',by simp,gN hm (.inr (.inl ⟨e,rfl,rfl,by rw[xad e1];exact⟨rfl,rfl⟩⟩))⟩
   rw[e]at ha;cases ha;exact hd
  ·have hd:Fc zQ 48 #[ptr sp,x.v] H (jl sp c nx F ord tr x):=by
    refine Fc.mono (K6 h hx) λv H' ⟨e1,e2⟩=>?_;subst e1;cases hb:dY F x.a with
    |true=>
     rw[hb,xad rfl]at e2;refine iV hm zO 0 _ e2 h (λ_=>?_) zO zO zO zO;rw[xad (by rw[hb,e];rfl)];exact⟨λ_=>⟨rfl,rfl⟩,by omega,by omega,by omega,by omega⟩
    |false=>
     rw[hb,xab zD]at e2;refine iV hm zO 3 0 e2 h (λ_=>?_) zO zO zO zO;rw[xab (by rw[hb];simp)];exact⟨rfl,rfl⟩
   rw[e]at ha;cases ha;exact hd
  ·have hd:Fc zQ 49 #[ptr sp,x.v] H (jl sp c nx F ord tr x):=by
    refine Fc.mono (Vj h) λv H' ⟨e1,e2⟩=>?_;subst e1;cases hb:dY F x.a&&dY F x.b with
    |true=>
     rw[hb,xad rfl]at e2;refine iV hm zO 0 _ e2 h (λ_=>?_) zO zO zO zO;rw[xad (by rw[e];simpa using hb)];exact⟨by omega,λ_=>⟨rfl,rfl⟩,by omega,by omega,by omega⟩
    |false=>
     rw[hb,xab zD]at e2;refine iV hm zO 3 0 e2 h (λ_=>?_) zO zO zO zO;rw[xab (by rw[e];simp only[ne_eq,not_true_eq_false,xdn,xdx];rw[hb];decide)];exact⟨rfl,rfl⟩
   rw[e]at ha;cases ha;exact hd
  ·have hd:Fc zQ 50 #[ptr sp,x.v] H (jl sp c nx F ord tr x):=by
    refine Fc.mono (Kg h) λv H' ⟨e1,e2⟩=>?_;subst e1;cases hb:dY F x.a with
    |true=>
     rw[hb,xad rfl]at e2;refine iV hm zO 0 _ e2 h (λ_=>?_) zO zO zO zO;rw[xad (by rw[hb,e];rfl)];exact⟨by omega,by omega,λ_=>⟨rfl,rfl⟩,by omega,by omega⟩
    |false=>
     rw[hb,xab zD]at e2;refine iV hm zO 3 0 e2 h (λ_=>?_) zO zO zO zO;rw[xab (by rw[hb];simp)];exact⟨rfl,rfl⟩
   rw[e]at ha;cases ha;exact hd
  ·have hd:Fc zQ 51 #[ptr sp,x.v] H (jl sp c nx F ord tr x):=by
    refine Fc.mono (Vb h) λv H' ⟨e1,e2⟩=>?_;subst e1;cases hb:dY F x.a with
    |true=>
     rw[hb,xad rfl]at e2;exact iV hm zO 0 _ e2 h (λ_=>by omega) (λ_=>.inl ⟨hb,rfl,rfl⟩) zO zO zO
    |false=>
     rw[hb,xab zD]at e2;exact iV hm zO 3 0 e2 h (λ_=>by omega) (λ_=>.inr ⟨hb,rfl,rfl⟩) zO zO zO
   rw[e]at ha;cases ha;exact hd
  ·have hd:Fc zQ 52 #[ptr sp,x.v] H (jl sp c nx F ord tr x):=by
    refine Fc.mono (VV h) λv H' ⟨e1,e2⟩=>?_;subst e1;exact iV hm zO 0 _ e2 h (λ_=>by omega) zO (λ_=>⟨rfl,rfl⟩) zO zO
   rw[e]at ha;cases ha;exact hd
  ·have hd:Fc zQ 53 #[ptr sp,x.v] H (jl sp c nx F ord tr x):=by
    refine Fc.mono (Rb h) λv H' ⟨e1,e2⟩=>?_;subst e1;rcases e2 with⟨hb,e2⟩|⟨hb,hf,e2⟩|⟨hb,hf,V,hV,hL,e2⟩
    ·refine iV hm zO 3 0 e2 h (λ_=>?_) zO zO zO zO;rw[xab (by rw[hb];simp)];exact⟨rfl,rfl⟩
    ·refine iV hm zO 10 0 e2 h (λ_=>?_) zO zO zO zO;rw[xad (by rw[hb,e];rfl)];exact⟨by omega,by omega,by omega,λ_=>.inl ⟨hf,rfl,rfl⟩,by omega⟩
    refine iV hm zO 0 V e2 h (λ_=>?_) zO zO zO zO;rw[xad (by rw[hb,e];rfl)];exact⟨by omega,by omega,by omega,λ_=>.inr ⟨hf,rfl,hL⟩,by omega⟩
   rw[e]at ha;cases ha;exact hd
  ·have hd:Fc zQ 54 #[ptr sp,x.v] H (jl sp c nx F ord tr x):=by
    refine Fc.mono (E5 h) λv H' ⟨e1,e2⟩=>?_;subst e1;rcases e2 with⟨hb,e2⟩|⟨hb,m,hm',e2⟩
    ·refine iV hm zO 3 0 e2 h (λ_=>?_) zO zO zO zO;rw[xab (by rw[hb];simp)];exact⟨rfl,rfl⟩
    refine iV hm zO 0 m e2 h (λ_=>?_) zO zO zO zO;rw[xad (by rw[hb,e];rfl)];exact⟨by omega,by omega,by omega,by omega,λ_=>⟨rfl,hm'⟩⟩
   rw[e]at ha;cases ha;exact hd
  ·have hd:Fc zQ 55 #[ptr sp,x.v] H (jl sp c nx F ord tr x):=by
    refine Fc.mono (Q7 h) λv H' ⟨e1,e2⟩=>?_;subst e1;rcases e2 with⟨h1,e2⟩|⟨h1,p,h2,h3,e2⟩
    ·exact iV hm zO 2 0 e2 h (λ_=>by omega) zO zO (λ_=>.inl ⟨h1,rfl,rfl⟩) zO
    exact iV hm zO 0 p e2 h (λ_=>by omega) zO zO (λ_=>.inr ⟨h1,rfl,h2,h3⟩) zO
   rw[e]at ha;cases ha;exact hd
  ·have hd:Fc zQ 56 #[ptr sp,x.v] H (jl sp c nx F ord tr x):=by
    refine(W4 h zO).mono ?_;rintro v H' (⟨h1,e2,rfl⟩|⟨l,hl,h1,h2,e2,rfl⟩|⟨l,hl,h1,h2,e2,h'⟩)
    ·exact⟨⟨1, -1,0,0⟩,F,nx,ord,tr,e2,h,by omega,gN hm (.inr (.inr (.inl ⟨e,rfl,rfl,by rw[xad h1];exact⟨rfl,rfl⟩⟩)))⟩
    ·refine⟨⟨9, -1,0,0⟩,F,nx,ord,tr,e2,h,by omega,gN hm (.inr (.inr (.inl ⟨e,rfl,rfl,?_⟩)))⟩;rw[xab zO,show x.a.toNat=l by omega];exact .inr ⟨h2,rfl,rfl⟩
    refine⟨⟨0, -1,0,0⟩,F,nx,fK ord l,_,e2,h',by rw[xaf,xb3];omega,gN hm (.inr (.inr (.inl ⟨e,rfl,rfl,?_⟩)))⟩;rw[xab zO,show x.a.toNat=l by omega];exact .inl ⟨h2,rfl,rfl⟩
   rw[e]at ha;cases ha;exact hd
  have hd:Fc zQ 57 #[ptr sp,x.v] H (jl sp c nx F ord tr x):=by
   refine(Mx h zO).mono ?_;rintro v H' (⟨h1,e2,rfl⟩|⟨h1,h2,e2,h'⟩|⟨h1,h2,ls,k,d,hR,e2,h',hb⟩)
   ·exact⟨⟨1, -1,0,0⟩,F,nx,ord,tr,e2,h,by omega,gN hm (.inr (.inr (.inr ⟨e,rfl,rfl,.inl ⟨h1,rfl,rfl⟩⟩)))⟩
   ·exact⟨⟨6, -1,0,0⟩,F,nx,ord,tr,e2,h',by omega,gN hm (.inr (.inr (.inr ⟨e,rfl,rfl,.inr (.inl ⟨h1,h2,rfl,rfl⟩)⟩)))⟩
   exact⟨⟨0, -1,tU c.n F (ay ord ls),0⟩,F,nx,ay ord ls,_,e2,h',by rw[xaf];omega,gN hm (.inr (.inr (.inr ⟨e,rfl,rfl,.inr (.inr ⟨h1,h2,ls,k,d,hR,rfl,rfl⟩)⟩)))⟩
  rw[e]at ha;cases ha;exact hd
 have hop:¬(1<=x.op/\x.op<=11):=λhop=>by
  have:x.op=1\/x.op=2\/x.op=3\/x.op=4\/x.op=5\/x.op=6\/x.op=7\/x.op=8\/x.op=9\/x.op=10\/x.op=11:=by omega
  rcases this with e|e|e|e|e|e|e|e|e|e|e<;>rw[e]at hm<;>cases hm
 have alq:¬(12<=x.op/\x.op<=23):=λhop=>by
  have:x.op=12\/x.op=13\/x.op=14\/x.op=15\/x.op=16\/x.op=17\/x.op=18\/x.op=19\/x.op=20\/x.op=21\/x.op=22\/x.op=23:=by omega
  rcases this with e|e|e|e|e|e|e|e|e|e|e|e<;>rw[e]at ha<;>cases ha
 exact iV hm zO 12 0 rfl h (λ_=>by omega) zO zO zO (λ_=>⟨rfl,rfl⟩)
end
section
variable {nx:Nat} {c:Cf} {F:FS} {ord:zL} {x:dD}
theorem TA{n:Nat}{e e':Int}{N N':Nat}(hop:x.op=14\/x.op=15\/x.op=16\/x.op=19\/x.op=20)(a:yz n F x e N)(b:yz n F x e' N'):e=e'/\N=N':=by
 have a:=a hop;have b:=b hop;split at a<;>rename_i hh
 ·rw[xad hh]at b;obtain⟨a1,a2,a3,a4,a5⟩:=a;obtain⟨b1,b2,b3,b4,b5⟩:=b;rcases hop with o|o|o|o|o
  ·obtain⟨rfl,rfl⟩:=a1 o;obtain⟨rfl,rfl⟩:=b1 o;exact⟨rfl,rfl⟩
  ·obtain⟨rfl,rfl⟩:=a2 o;obtain⟨rfl,rfl⟩:=b2 o;exact⟨rfl,rfl⟩
  ·obtain⟨rfl,rfl⟩:=a3 o;obtain⟨rfl,rfl⟩:=b3 o;exact⟨rfl,rfl⟩
  ·rcases a4 o with⟨x1,rfl,rfl⟩|⟨x1,rfl,x2⟩
   ·rcases b4 o with⟨y1,rfl,rfl⟩|⟨y1,_⟩
    ·exact⟨rfl,rfl⟩
    exact absurd x1 y1
   rcases b4 o with⟨y1,_⟩|⟨y1,rfl,y2⟩
   ·exact absurd y1 x1
   exact⟨rfl,x2.uniq y2⟩
  obtain⟨rfl,x1⟩:=a5 o;obtain⟨rfl,y1⟩:=b5 o;exact⟨rfl,x1.uniq y1⟩
 rw[xab hh]at b;obtain⟨rfl,rfl⟩:=a;obtain⟨rfl,rfl⟩:=b;exact⟨rfl,rfl⟩
end
def hT(to:zL)(a:Int):Int:=if 0<=a/\a<to.length then((to.getD a.toNat 0:Nat):Int)else-1
def tA(op:Nat):Bool:=decide (op=3\/op=4\/op=5\/op=6\/op=7\/op=8\/op=9\/op=10\/op=11\/op=12\/op=13\/op=14\/op=15\/op=16\/op=17\/op=19\/op=20)
def tB(op:Nat):Bool:=decide (op=4\/op=5\/op=6\/op=7\/op=15)
def tC(op:Nat):Bool:=decide (op=7\/op=11)
def ew(to:zL)(x:dD):dD:=⟨x.op,if tA x.op=true then hT to x.a else x.a,if tB x.op=true then hT to x.b else x.b,if tC x.op=true then hT to x.c else x.c,x.x⟩
structure Sync(to:zL)(nb:Nat)(Fa Fb:FS):Prop where
 e:Fb=Fa.map λp=>(hT to p.1,p.2)
 nd:to.Nodup
 lt:∀h∈to,h<nb
 rg:∀p∈Fa,0<=p.1/\p.1<to.length
theorem wy{to:zL}{a:Int}(h:0<=a/\a<to.length):∃i,∃hi:i<to.length,a=i/\hT to a=(to[i]:Nat):=by
 refine⟨a.toNat,by omega,by omega,?_⟩;unfold hT;rw[xad h,xaq,xaa zO];rfl
theorem Sr{to:zL}{a:Int}(h:¬(0<=a/\a<to.length)):hT to a= -1:=xab h
theorem Ss{to:zL}(nd:to.Nodup){a b:Int}(h:0<=a/\a<to.length):hT to a=hT to b↔a=b:=by
 refine⟨λe=>?_,λe=>by rw[e]⟩;obtain⟨i,hi,rfl,e1⟩:=wy h;by_cases hb:0<=b/\b<to.length
 ·obtain⟨j,hj,rfl,e2⟩:=wy hb;rw[e1,e2]at e;have:i=j:=(xer nd).1 zO;rw[this]
 rw[e1,Sr hb]at e;omega
theorem yX{β:Type}(p:Int×β)(L:List (Int×β))(a:Int):aG (p::L) a=if p.1=a then some p.2 else aG L a:=by
 unfold aG;rw[xbv];by_cases e:p.1=a
 ·simp[e]
 simp[e]
theorem yV{to:zL}(nd:to.Nodup)(a:Int):∀Fa:FS,(∀p∈Fa,0<=p.1/\p.1<to.length)->aG (Fa.map λp=>(hT to p.1,p.2)) (hT to a)=aG Fa a
 | [],_=>rfl
 |p::L,rg=>by
  rw[xay,yX,yX,yV nd a L λq hq=>rg q (.tail _ hq)];have:=Ss nd (b:=a) (rg p (.head _));by_cases e:p.1=a
  ·rw[xad e,xad (this.2 e)]
  rw[xab e,xab λh=>e (this.1 h)]
section
variable {to:zL} {nb n w:Nat} {Fa Fb:FS} {x:dD}
theorem Sync.get(h:Sync to nb Fa Fb)(a:Int):aG Fb (hT to a)=aG Fa a:=by rw[h.e];exact yV h.nd a Fa h.rg
theorem Sync.has(h:Sync to nb Fa Fb)(a:Int):dY Fb (hT to a)=dY Fa a:=by unfold dY;rw[h.get]
theorem Sync.fn(h:Sync to nb Fa Fb)(a:Int):fF Fb (hT to a)=fF Fa a:=by unfold fF;rw[h.get]
theorem Sync.ls(h:Sync to nb Fa Fb):mc Fb=mc Fa:=by rw[h.e];unfold mc;rw[xb8];rfl
theorem Sync.push(h:Sync to nb Fa Fb)(g:au.Fn):Sync (to++[nb]) (nb+1) (Fa++[((to.length:Int),g)]) (Fb++[((nb:Int),g)]):=by
 refine⟨?_,?_,λi hi=>?_,λp hp=>?_⟩
 ·rw[xaB,h.e];congr 1
  ·refine xbh λp hp=>?_;obtain⟨i,hi,e,e1⟩:=wy (h.rg p hp);obtain⟨j,hj,e',e2⟩:=wy (to:=to++[nb]) (a:=p.1) (by rw[xaf];have:=h.rg p hp;simp;omega);obtain rfl:i=j:=by omega
   rw[e1,e2,List.getElem_append_left hi]
  obtain⟨j,hj,e',e2⟩:=wy (to:=to++[nb]) (a:=to.length) (by rw[xaf];simp;omega);obtain rfl:to.length=j:=by omega
  simp only[xay,xcl,e2];simp
 ·rw[xa3];exact⟨h.nd,by simp,λa ha b hb=>by have:=h.lt a ha;simp only[xaw]at hb;omega⟩
 ·rcases xao.1 hi with hi|hi
  ·have:=h.lt i hi;omega
  simp only[xaw]at hi;omega
 rw[xaf];rcases xao.1 hp with hp|hp
 ·have:=h.rg p hp;simp;omega
 simp only[xaw]at hp;subst hp;simp;omega
theorem Sync.del(h:Sync to nb Fa Fb)(a:Int):Sync to nb (fS Fa a) (fS Fb (hT to a)):=by
 refine⟨?_,h.nd,h.lt,λp hp=>h.rg p (xbV.1 hp).1⟩;rw[h.e];unfold fS;rw[List.filter_map];congr 1;refine xcY λp hp=>?_;have:=Ss h.nd (b:=a) (h.rg p hp);simp only[Function.comp_apply,this]
theorem Sync.afx(h:Sync to nb Fa Fb)(g:au.Fn):dY (Fb++[((nb:Int),g)]) nb=true/\fS (Fb++[((nb:Int),g)]) (nb:Int)=Fb:=by
 have hl:∀p∈Fb,p.1≠(nb:Int):=λp hp=>by
  rw[h.e]at hp;obtain⟨q,hq,rfl⟩:=xan.1 hp;obtain⟨i,hi,e,e1⟩:=wy (h.rg q hq);have:=h.lt to[i] (xaH hi);simp only[e1];omega
 constructor
 ·unfold dY aG;rw[Option.isSome_map,List.find?_isSome];exact⟨_,xac _ (.head _),by simp⟩
 unfold fS;rw[xbU,xcd.2 λp hp=>by simpa using hl p hp];simp
theorem vL{op:Nat}{p:Nat×Nat}(hm:df op=some p):op=1\/op=2\/op=3\/op=4\/op=5\/op=6\/op=7\/op=8\/op=9\/op=10\/op=11:=by
 have:=Q5 hm;omega
theorem yQ(h:Sync to nb Fa Fb){p:Nat×Nat}(hm:df x.op=some p):dy n (fF Fb) (ew to x)=dy n (fF Fa) x:=by
 obtain⟨op,a,b,c,y⟩:=x;rcases vL hm with e|e|e|e|e|e|e|e|e|e|e<;>dsimp only at e<;>subst e<;>simp[ew,tA,tB,tC,dy,h.fn]
theorem QV(h:Sync to nb Fa Fb){p:Nat×Nat}(hm:df x.op=some p){cap e:Nat}{L:List au.Fn}{o:zL}:lF n cap L (fF Fb) (ew to x) o e↔lF n cap L (fF Fa) x o e:=by
 have hf:=yQ (n:=n) h hm;obtain⟨op,a,b,c,y⟩:=x;unfold lF;rw[hf];rcases vL hm with e|e|e|e|e|e|e|e|e|e|e<;>dsimp only at e<;>subst e<;>simp[ew,tA,tB,tC,h.fn]
theorem FH(h:Sync to nb Fa Fb){p:Nat×Nat}(hm:df x.op=some p):fe n Fb p.1 (ew to x)=fe n Fa p.1 x:=by
 obtain⟨op,a,b,c,y⟩:=x;rcases vL hm with e|e|e|e|e|e|e|e|e|e|e<;>dsimp only at e<;>subst e<;>(cases hm;simp[ew,tA,tB,tC,fe,Ed,GC,CX,CW,Fx,h.has])
end
section
variable {n cap cap':Nat} {L:List au.Fn} {o o':zL} {e e':Nat}
theorem Xh{f:au.Fn}(h:Tx n cap L f o e)(h':Tx n cap' L f o' e')(h9:e≠9)(tO:e'≠9):e=e':=by
 rcases h with⟨rfl,_,a⟩|⟨rfl,_⟩|⟨rfl,a⟩<;>rcases h' with⟨rfl,_,a'⟩|⟨rfl,_⟩|⟨rfl,a'⟩<;>first|rfl|exact absurd rfl h9|exact absurd rfl tO|exact absurd a a'|exact absurd a' a
theorem DY{q:Bool}{mask:Nat}{f:au.Fn}(h:pW n cap L q mask f o e)(h':pW n cap' L q mask f o' e')(h9:e≠9)(tO:e'≠9):e=e':=by
 rcases h with⟨rfl,a,b⟩|⟨rfl,_⟩|⟨rfl,⟨hz,a⟩|⟨i,hi,hb,hf,_⟩⟩<;>rcases h' with⟨rfl,a',b'⟩|⟨rfl,_⟩|⟨rfl,⟨hz',a'⟩|⟨i',hi',hb',Pp,_⟩⟩<;>
  first|rfl|exact absurd rfl h9|exact absurd rfl tO|exact absurd a' (a hz')|exact absurd a (a' hz)|exact absurd Pp (b _ hi' hb').2|exact absurd hf (b' _ hi hb).2
theorem Tf{lo hi f:au.Fn}(h:wQ n cap L lo hi f o e)(h':wQ n cap' L lo hi f o' e')(h9:e≠9)(tO:e'≠9):e=e':=by
 have key:∀{c d:Nat} {p q:zL},((F1 n c L p lo/\¬U1 L lo)/\(F2 n c L p lo hi/\¬U2 L lo hi)/\F3 n c L p lo hi f/\¬U3 L lo hi f)->(U1 L lo\/((F1 n d L q lo/\¬U1 L lo)/\U2 L lo hi)\/((F1 n d L q lo/\¬U1 L lo)/\(F2 n d L q lo hi/\¬U2 L lo hi)/\U3 L lo hi f))->False:=λ⟨⟨_,a⟩,⟨_,b⟩,_,c⟩ h=>by
  rcases h with h|⟨_,h⟩|⟨_,_,h⟩
  ·exact a h
  ·exact b h
  exact c h
 rcases h with⟨rfl,a⟩|⟨rfl,_⟩|⟨rfl,a⟩<;>rcases h' with⟨rfl,a'⟩|⟨rfl,_⟩|⟨rfl,a'⟩<;>first|rfl|exact absurd rfl h9|exact absurd rfl tO|exact(key a a').elim|exact(key a' a).elim
theorem VA{F:Int->au.Fn}{x:dD}(h:lF n cap L F x o e)(h':lF n cap' L F x o' e')(h9:e≠9)(tO:e'≠9):e=e':=by
 unfold lF at h h';split at h<;>rename_i h1
 ·rw[xad h1]at h';exact DY h h' h9 tO
 rw[xab h1]at h';split at h<;>rename_i h2
 ·rw[xad h2]at h';exact DY h h' h9 tO
 rw[xab h2]at h';split at h<;>rename_i h3
 ·rw[xad h3]at h';exact Tf h h' h9 tO
 rw[xab h3]at h';exact Xh h h' h9 tO
theorem Vz{F:Int->au.Fn}{x:dD}(h:lF n cap L F x o e):e=0\/e=8\/e=9:=by
 unfold lF at h;split at h
 ·rcases h with⟨h,_⟩|⟨h,_⟩|⟨h,_⟩<;>omega
 split at h
 ·rcases h with⟨h,_⟩|⟨h,_⟩|⟨h,_⟩<;>omega
 split at h
 ·rcases h with⟨h,_⟩|⟨h,_⟩|⟨h,_⟩<;>omega
 rcases h with⟨h,_⟩|⟨h,_⟩|⟨h,_⟩<;>omega
end
section
variable {to:zL} {nb XP Uf:Nat} {Fa Fb T8 YC:FS} {x:dD} {c d:Cf} {oa ob XN ob':zL} {r q:Rp}
theorem TC{n:Nat}(h:Sync to nb Fa Fb)(hop:x.op=14\/x.op=15\/x.op=16\/x.op=19\/x.op=20){e:Int}{N:Nat}(hA:yz n Fb (ew to x) e N):yz n Fa x e N:=by
 intro hop;have hB:=hA hop;obtain⟨op,a,b,cc,y⟩:=x;have key:yz n Fb ⟨15,hT to a,hT to b,cc,y⟩ e N->yz n Fa ⟨15,a,b,cc,y⟩ e N:=by
  unfold yz;dsimp only;rw[h.has,h.has,h.fn,h.fn];exact id
 dsimp only at hop;rcases hop with rfl|rfl|rfl|rfl|rfl
 ·simpa[ew,tA,tB,tC,h.has,h.fn]using hB
 ·exact key hA hop
 ·simpa[ew,tA,tB,tC,h.has,h.fn]using hB
 ·simpa[ew,tA,tB,tC,h.has,h.fn]using hB
 simpa[ew,tA,tB,tC,h.has,h.fn]using hB
theorem TD{n:Nat}{e:Int}{N:Nat}(hop:x.op=14\/x.op=15\/x.op=16\/x.op=19\/x.op=20)(hA:yz n Fa x e N):e≠9:=by
 have hB:=hA hop;split at hB
 ·obtain⟨a1,a2,a3,a4,a5⟩:=hB;rcases hop with o|o|o|o|o
  ·have:=(a1 o).1;omega
  ·have:=(a2 o).1;omega
  ·have:=(a3 o).1;omega
  ·rcases a4 o with⟨_,h,_⟩|⟨_,h,_⟩<;>omega
  have:=(a5 o).1;omega
 have:=hB.1;omega
inductive ah9(to:zL)(nb:Nat)(Fa Fb:FS)(x:dD)(r q:Rp)(XP Uf:Nat)(T8 YC:FS):Prop
 |nodes (h9:r.e=9) (hh:r.h= -1) (hn:XP=to.length) (hF:T8=Fa) (hq:(q.e=0/\q.h=nb/\Uf=nb+1/\∃g,YC=Fb++[((nb:Int),g)])\/((q.e=9\/q.e=8)/\Uf=nb/\YC=Fb))
 |out (h9:r.e≠9) (tO:q.e=9)
 |both (h9:r.e≠9) (tO:q.e≠9) (he:r.e=q.e) (hn:x.op≠17->x.op≠18->x.op≠21->r.n=q.n)
  (hq:(r.h=to.length/\q.h=nb/\XP=to.length+1/\Uf=nb+1/\Sync (to++[nb]) (nb+1) T8 YC)\/(r.h= -1/\XP=to.length/\Uf=nb/\Sync to nb T8 YC))
theorem Qx(h:Sync to nb Fa Fb)(hn:d.n=c.n)(hx:x.op≠22/\x.op≠23)(ha:EO c to.length Fa oa x r T8 XP XN)(hb:EO d nb Fb ob (ew to x) q YC Uf ob'):ah9 to nb Fa Fb x r q XP Uf T8 YC:=by
 unfold EO at ha hb;rw[show(ew to x).op=x.op from rfl]at hb;cases hm:df x.op with
 |some p=>
  obtain⟨w,f⟩:=p;rw[hm]at ha hb;dsimp only at ha hb;rw[FH (p:=(w,f)) h hm,hn]at hb;by_cases hl:fe c.n Fa w x=0
  ·rw[xad hl]at ha hb;obtain⟨t,e,_,_,a3,_,a5⟩:=ha;obtain⟨t',e',_,_,b3,_,b5⟩:=hb;rw[h.ls,QV h hm]at b3;rw[yQ h hm]at b5;by_cases h9:e=9
   ·subst h9;rcases a5 with⟨e0,_⟩|⟨_,rfl,rfl,rfl⟩
    ·cases e0
    refine .nodes rfl rfl rfl rfl ?_;rcases b5 with⟨rfl,rfl,rfl,rfl⟩|⟨hne,rfl,rfl,rfl⟩
    ·exact .inl ⟨rfl,rfl,rfl,_,rfl⟩
    refine .inr ⟨?_,rfl,rfl⟩;rcases Vz b3 with e|e|e
    ·exact absurd e hne
    ·subst e;exact .inr rfl
    subst e;exact .inl rfl
   by_cases tO:e'=9
   ·subst tO;rcases b5 with⟨e0,_⟩|⟨_,rfl,rfl,rfl⟩
    ·cases e0
    refine .out ?_ rfl;rcases a5 with⟨_,rfl,_⟩|⟨_,rfl,_⟩
    ·exact(show(0:Int)≠9 by decide)
    show(e:Int)≠9;omega
   obtain rfl:=VA a3 b3 h9 tO;rcases a5 with⟨e0,rfl,rfl,rfl⟩|⟨e0,rfl,rfl,rfl⟩<;>rcases b5 with⟨e0',rfl,rfl,rfl⟩|⟨e0',rfl,rfl,rfl⟩
   ·exact .both (show(0:Int)≠9 by decide) (show(0:Int)≠9 by decide) rfl (λ_ _ _=>rfl) (.inl ⟨rfl,rfl,rfl,rfl,h.push _⟩)
   ·exact absurd e0 e0'
   ·exact absurd e0' e0
   exact .both (by show(e:Int)≠9;omega) (by show(e:Int)≠9;omega) rfl (λ_ _ _=>rfl) (.inr ⟨rfl,rfl,rfl,h⟩)
  rw[xab hl]at ha hb;obtain⟨rfl,rfl,rfl,rfl⟩:=ha;obtain⟨rfl,rfl,rfl,rfl⟩:=hb;have:=MQ (n:=c.n) (F:=T8) (w:=w) (x:=x);exact .both (by show fe c.n T8 w x≠9;omega) (by show fe c.n T8 w x≠9;omega) rfl (λ_ _ _=>rfl) (.inr ⟨rfl,rfl,rfl,h⟩)
 |none=>
  rw[hm]at ha hb;dsimp only at ha hb;by_cases KR:x.op=12
  ·rw[xad KR]at ha hb;have ea:(ew to x).a=hT to x.a:=by unfold ew;rw[KR];rfl
   rw[ea,h.has,h.fn,h.ls]at hb;obtain⟨rfl,ha⟩:=ha;obtain⟨rfl,hb⟩:=hb;split at ha<;>rename_i hh
   ·rw[xad hh]at hb;rcases ha with⟨h1,rfl,rfl,rfl⟩|⟨h1,rfl,rfl,rfl⟩<;>rcases hb with⟨qy,rfl,rfl,rfl⟩|⟨qy,rfl,rfl,rfl⟩
    ·exact .both (by dsimp only;decide) (by dsimp only;decide) rfl (λ_ _ _=>rfl) (.inr ⟨rfl,rfl,rfl,h⟩)
    ·exact absurd h1 qy
    ·exact absurd qy h1
    exact .both (show(0:Int)≠9 by decide) (show(0:Int)≠9 by decide) rfl (λ_ _ _=>rfl) (.inl ⟨rfl,rfl,rfl,rfl,h.push _⟩)
   rw[xab hh]at hb;obtain⟨rfl,rfl,rfl⟩:=ha;obtain⟨rfl,rfl,rfl⟩:=hb;exact .both (by dsimp only;decide) (by dsimp only;decide) rfl (λ_ _ _=>rfl) (.inr ⟨rfl,rfl,rfl,h⟩)
  rw[xab KR]at ha hb;by_cases h13:x.op=13
  ·rw[xad h13]at ha hb;have ea:(ew to x).a=hT to x.a:=by unfold ew;rw[h13];rfl
   rw[ea,h.has]at hb;obtain⟨rfl,rfl,ha⟩:=ha;obtain⟨rfl,rfl,hb⟩:=hb;split at ha<;>rename_i hh
   ·rw[xad hh]at hb;obtain⟨rfl,rfl⟩:=ha;obtain⟨rfl,rfl⟩:=hb;exact .both (show(0:Int)≠9 by decide) (show(0:Int)≠9 by decide) rfl (λ_ _ _=>rfl) (.inr ⟨rfl,rfl,rfl,h.del _⟩)
   rw[xab hh]at hb;obtain⟨rfl,rfl⟩:=ha;obtain⟨rfl,rfl⟩:=hb;exact .both (by dsimp only;decide) (by dsimp only;decide) rfl (λ_ _ _=>rfl) (.inr ⟨rfl,rfl,rfl,h⟩)
  rw[xab h13,xab hx.1,xab hx.2]at ha hb;obtain⟨rfl,rfl,rfl,e,N,rfl,a0,a1,a2,a3,a4⟩:=ha;obtain⟨rfl,rfl,rfl,e',N',rfl,b0,b1,b2,b3,b4⟩:=hb;have no:¬(1<=x.op/\x.op<=11):=λh11=>by
   have:x.op=1\/x.op=2\/x.op=3\/x.op=4\/x.op=5\/x.op=6\/x.op=7\/x.op=8\/x.op=9\/x.op=10\/x.op=11:=by omega
   rcases this with e|e|e|e|e|e|e|e|e|e|e<;>rw[e]at hm<;>cases hm
  have key:e=e'/\e≠9/\(x.op≠17->x.op≠18->x.op≠21->N=N'):=by
   by_cases h14:x.op=14\/x.op=15\/x.op=16\/x.op=19\/x.op=20
   ·rw[hn]at b0;have:=TA h14 a0 (TC h h14 b0);exact⟨this.1,TD h14 a0,λ_ _ _=>this.2⟩
   by_cases Nm:x.op=17
   ·have ea:(ew to x).a=hT to x.a:=by unfold ew;rw[Nm];rfl
    have b1:=b1 Nm;rw[ea,h.has]at b1;refine⟨?_,?_,λh=>absurd Nm h⟩
    ·rcases a1 Nm with⟨hh,rfl,_⟩|⟨hh,rfl,_⟩<;>rcases b1 with⟨l7,rfl,_⟩|⟨l7,rfl,_⟩
     ·rfl
     ·rw[hh]at l7;cases l7
     ·rw[hh]at l7;cases l7
     rfl
    rcases a1 Nm with⟨_,rfl,_⟩|⟨_,rfl,_⟩<;>decide
   by_cases h18:x.op=18
   ·obtain⟨rfl,_⟩:=a2 h18;obtain⟨rfl,_⟩:=b2 h18;exact⟨rfl,by decide,λ_ h=>absurd h18 h⟩
   by_cases h21:x.op=21
   ·have ea:(ew to x).a=x.a:=by unfold ew;rw[h21];rfl
    have b3:=b3 h21;rw[ea,hn]at b3;refine⟨?_,?_,λ_ _ h=>absurd h21 h⟩
    ·rcases a3 h21 with⟨hh,rfl,_⟩|⟨hh,rfl,_⟩<;>rcases b3 with⟨l7,rfl,_⟩|⟨l7,rfl,_⟩<;>first|rfl|omega
    rcases a3 h21 with⟨_,rfl,_⟩|⟨_,rfl,_⟩<;>decide
   obtain⟨rfl,rfl⟩:=a4 zO;obtain⟨rfl,rfl⟩:=b4 (by show x.op=0\/23<x.op;omega);exact⟨rfl,by decide,λ_ _ _=>rfl⟩
  obtain⟨rfl,h9,hN⟩:=key;exact .both h9 h9 rfl hN (.inr ⟨rfl,rfl,rfl,h⟩)
end
theorem k9.SG{sp nx:Nat}{c:Cf}{F:FS}{ord tr:zL}{H:Hp}(h:k9 sp c nx F ord tr H):tU c.n F ord<=1048574:=by
 obtain⟨kp,mb,K,S,ah,hs,es,ck,C,rfl,h,rfl⟩:=h;rw[<-h.tU];exact gv h.ks.aZ
section
variable {c:Cf}
theorem EO.nx{nx n1:Nat}{F F1:FS}{o o1:zL}{x:dD}{r:Rp}(a:EO c nx F o x r F1 n1 o1):n1<=nx+1:=by
 unfold EO at a;split at a
 ·split at a
  ·obtain⟨t,e,_,_,_,_,⟨_,_,_,rfl⟩|⟨_,_,_,rfl⟩⟩:=a<;>omega
  obtain⟨_,_,rfl,_⟩:=a;omega
 split at a
 ·obtain⟨_,a⟩:=a;split at a
  ·rcases a with⟨_,_,_,rfl⟩|⟨_,_,_,rfl⟩<;>omega
  obtain⟨_,_,rfl⟩:=a;omega
 split at a
 ·obtain⟨_,rfl,_⟩:=a;omega
 obtain⟨_,rfl,_⟩:=a;omega
end
theorem Cf.acm{d c:Cf}(h:d.i=c.i):d=c:=by
 obtain⟨a1,a2,a3,a4,a5⟩:=d;obtain⟨b1,b2,b3,b4,b5⟩:=c;simp only[Cf.i,uS.mk.injEq]at h;simp only[Cf.mk.injEq];omega
section
variable {tp:Nat} {p q tv:zV} {to:zL} {B:Hp}
theorem PS{b:Nat}{T:TypeId}{fz:Nat×Nat}(hb:(b,Obj.cells #[ptr tp] T fz)∈B){T':TypeId}{fz':Nat×Nat}(ht:(tp,Obj.cells #[p,q,tv] T' fz')∈B)(hi:dz .i64 B tv (iw to))(a:Int):
  Rd zQ 24 #[i64 a,ptr b] B (· =i64 (hT to a)):=by
 refine aI λg=>O5 (ae.lss (cS.or (decide ((to.length:Int)<=a)) (λ_=>?_) rfl λ_=>?_))
 ·exact Ld.mk hb rfl (Ld.v ht (hi.bV (by rw[aq];exact ae.geq ⟨rfl,rfl⟩)))
 rw[<-xa4];refine Br.dec (λh=>?_) (λh=>?_)
 ·exact bc.mk (.refl _) (by rw[Sr zO])
 obtain⟨i,hi',rfl,e⟩:=wy (to:=to) (a:=a) zO;refine Ld.mk hb rfl (Ld.v ht (hi.ld (i:=i) (show(iw to)[i]? =some ((to[i]:Nat):Int)by rw[bE hi',xaq,xaa hi'];rfl) (λ_ h=>h) ?_));rw[e];exact bc.mk (.refl _) rfl
theorem L1{T':TypeId}{fz':Nat×Nat}(ht:(tp,Obj.cells #[p,q,tv] T' fz')∈B)(hi:dz .i64 B tv (iw to))(x:dD):
  Rd zQ 12 #[ptr tp,x.v] B (· =(ew to x).v):=by
 refine aI λg=>O9 λb1 _ b3 _ b5 _ J7 h7=>?_;have done:∀y:dD,ew to x=y->J7 [] ((b5,.cells #[.int .u8 0,i64 0,i64 0,i64 0,u64 0] 35 zZ)::(b3,.cells y.cells.toArray 35 zZ)::(b1,.cells #[ptr tp] 42 zZ)::B):=λy hy=>by
  refine h7 _ λ_=>?_;refine az.q (r:=y.cells) ?_;refine St.p (r:=y.cells) y.one ?_;refine az.q (r:=y.cells) ?_;exact bc.mk (.skip (.skip .tail)) (by rw[hy])
 have hc:∀(g:Gh) (y:dD) (a:Int) {K:zV->Hp->Prop} {KP:List PanicEntry->Hp->Prop},K (i64 (hT to a)) ((b5,.cells #[.int .u8 0,i64 0,i64 0,i64 0,u64 0] 35 zZ)::(b3,.cells y.cells.toArray 35 zZ)::(b1,.cells #[ptr tp] 42 zZ)::B)->
   aE zQ g (.func (.func 24) #[] #[ptr b1]) #[i64 a] ((b5,.cells #[.int .u8 0,i64 0,i64 0,i64 0,u64 0] 35 zZ)::(b3,.cells y.cells.toArray 35 zZ)::(b1,.cells #[ptr tp] 42 zZ)::B) K KP:=λg y a K KP h=>
  aE.of rfl zK (aa.eh .here (PS (.tail _ (.tail _ (.head _))) (.tail _ (.tail _ (.tail _ ht))) (hi.mono λ_ h=>.tail _ (.tail _ (.tail _ h))) a) h)
 refine Ld.f (v:=.int .u8 (x.op:Int)) ?_;intro J15 h15;have Rn:∀t:Bool,t=decide (x.op=3\/x.op=12\/x.op=13\/x.op=14\/x.op=16\/x.op=17\/x.op=19\/x.op=20\/x.op=8\/x.op=9\/x.op=10)->J15 [.bool t] ((b5,.cells #[.int .u8 0,i64 0,i64 0,i64 0,u64 0] 35 zZ)::(b3,.cells x.cells.toArray 35 zZ)::(b1,.cells #[ptr tp] 42 zZ)::B):=λt he=>by
  refine h15 _ _ λ_=>?_;rw[he];refine Br.dec (λe=>?_) (λne=>?_)
  ·refine Ld.f (v:=i64 x.a) (hc _ x x.a (ai.mk (St.one (by exact .tail (.head _)) rfl (by simp[dD.cells]) rfl (JE.mk (done ⟨x.op,hT to x.a,x.b,x.c,x.x⟩ ?_)))));unfold ew;rcases e with e|e|e|e|e|e|e|e|e|e|e<;>simp[e,tA,tB,tC]
  intro J25 h25;have j25:∀t:Bool,t=decide (x.op=4\/x.op=5\/x.op=6\/x.op=15)->J25 [.bool t] ((b5,.cells #[.int .u8 0,i64 0,i64 0,i64 0,u64 0] 35 zZ)::(b3,.cells x.cells.toArray 35 zZ)::(b1,.cells #[ptr tp] 42 zZ)::B):=λt he=>by
   refine h25 _ _ λ_=>?_;rw[he];refine Br.dec (λe=>?_) (λne2=>?_)
   ·refine DR.self (Ld.f (v:=i64 x.a) (Ld.f (v:=i64 x.b) λF=>hc _ x x.a ⟨.refl _,ai.mk λF=>hc _ x x.b λF=>?_⟩));refine St.one (c':=(dD.cells ⟨x.op,hT to x.a,x.b,x.c,x.x⟩).toArray) (by exact .tail (.head _)) rfl (by simp[dD.cells]) rfl (ai.mk λF=>St.one (by exact .tail (.head _)) rfl (by simp[dD.cells]) rfl (JE.mk (done ⟨x.op,hT to x.a,hT to x.b,x.c,x.x⟩ ?_)));unfold ew;rcases e with e|e|e|e<;>simp[e,tA,tB,tC]
   refine ae.dx (b:=7) (Br.dec (λe=>?_) (λne3=>?_))
   ·refine DR.self (Ld.f (v:=i64 x.a) (Ld.f (v:=i64 x.b) (Ld.f (v:=i64 x.c) λF=>hc _ x x.a ⟨.refl _,ai.mk λF=>hc _ x x.b ⟨.refl _,λF=>hc _ x x.c λF=>?_⟩⟩)));refine St.one (c':=(dD.cells ⟨x.op,hT to x.a,x.b,x.c,x.x⟩).toArray) (by exact .tail (.head _)) rfl (by simp[dD.cells]) rfl (ai.mk λF=>St.one (c':=(dD.cells ⟨x.op,hT to x.a,hT to x.b,x.c,x.x⟩).toArray) (by exact .tail (.head _)) rfl (by simp[dD.cells]) rfl ?_);refine ai.mk λF=>St.one (by exact .tail (.head _)) rfl (by simp[dD.cells]) rfl (JE.mk (done ⟨x.op,hT to x.a,hT to x.b,hT to x.c,x.x⟩ ?_));unfold ew;simp[e,tA,tB,tC]
   refine ae.dx (b:=11) (Br.dec (λe=>?_) (λne4=>?_))
   ·refine DR.self (Ld.f (v:=i64 x.a) (Ld.f (v:=i64 x.c) λF=>hc _ x x.a ⟨.refl _,ai.mk λF=>hc _ x x.c λF=>?_⟩));refine St.one (c':=(dD.cells ⟨x.op,hT to x.a,x.b,x.c,x.x⟩).toArray) (by exact .tail (.head _)) rfl (by simp[dD.cells]) rfl (ai.mk λF=>St.one (by exact .tail (.head _)) rfl (by simp[dD.cells]) rfl (JE.mk (done ⟨x.op,hT to x.a,x.b,hT to x.c,x.x⟩ ?_)));unfold ew;simp[e,tA,tB,tC]
   refine JE.mk (done x ?_);have e1:tA x.op=false:=xal zO;have e2:tB x.op=false:=xal zO;have e3:tC x.op=false:=xal zO;unfold ew;rw[e1,e2,e3];rfl
  refine ae.dx (b:=4) (Br.dec (λe=>JE.mk (j25 _ (by rw[xaZ];omega))) λe1=>?_);refine ae.dx (b:=5) (Br.dec (λe=>JE.mk (j25 _ (by rw[xaZ];omega))) λe2=>?_);refine ae.dx (b:=6) (Br.dec (λe=>JE.mk (j25 _ (by rw[xaZ];omega))) λe3=>?_);exact ae.dx (b:=15) (JE.mk (j25 _ (by rw[xaZ];omega)))
 refine ae.dx (b:=3) (Br.dec (λe=>JE.mk (Rn _ (by rw[xaZ];omega))) λe1=>?_);refine ae.dx (b:=12) (Br.dec (λe=>JE.mk (Rn _ (by rw[xaZ];omega))) λe2=>?_);refine ae.dx (b:=13) (Br.dec (λe=>JE.mk (Rn _ (by rw[xaZ];omega))) λe3=>?_);refine ae.dx (b:=14) (Br.dec (λe=>JE.mk (Rn _ (by rw[xaZ];omega))) λe4=>?_);refine ae.dx (b:=16) (Br.dec (λe=>JE.mk (Rn _ (by rw[xaZ];omega))) λe5=>?_);refine ae.dx (b:=17) (Br.dec (λe=>JE.mk (Rn _ (by rw[xaZ];omega))) λe6=>?_);refine ae.dx (b:=19) (Br.dec (λe=>JE.mk (Rn _ (by rw[xaZ];omega))) λe7=>?_);refine ae.dx (b:=20) (Br.dec (λe=>JE.mk (Rn _ (by rw[xaZ];omega))) λe8=>?_);refine ae.dx (b:=8) (Br.dec (λe=>JE.mk (Rn _ (by rw[xaZ];omega))) λe9=>?_);refine ae.dx (b:=9) (Br.dec (λe=>JE.mk (Rn _ (by rw[xaZ];omega))) λe10=>?_);exact ae.dx (b:=10) (JE.mk (Rn _ (by rw[xaZ];omega)))
end
theorem aap{sp nx:Nat}{c:Cf}{F:FS}{ord tr:zL}{H:Hp}{a:Int}(h:k9 sp c nx F ord tr H)(ha:dY F a=true):
  Fc zQ 9 #[ptr sp,(dD.mk 13 a 0 0 0).v] H (λv H'=>v=eR 0 (-1) 0 0/\k9 sp c nx (fS F a) ord [] H'):=by
 refine xe (x:=⟨13,a,0,0,0⟩) (f:=47) rfl rfl (λv H h=>⟨0, -1,0,0,h.1⟩) ((KT h).mono ?_);rintro v H' (⟨e1,_,_⟩|⟨_,rfl,h'⟩)
 ·rw[ha]at e1;cases e1
 exact⟨rfl,h'⟩
theorem EO.pL{c:Cf}{nx n1:Nat}{F F1:FS}{o o1:zL}{x:dD}{r:Rp}(hx:x.op=22\/x.op=23)(a:EO c nx F o x r F1 n1 o1):r.h= -1/\n1=nx/\F1=F:=by
 unfold EO at a;rcases hx with e|e
 ·rw[e]at a;obtain⟨rfl,rfl,a⟩:=a;rw[xad rfl]at a;split at a
  ·obtain⟨rfl,_⟩:=a;exact⟨rfl,rfl,rfl⟩
  rcases a with⟨_,rfl,_⟩|⟨_,rfl,_⟩<;>exact⟨rfl,rfl,rfl⟩
 rw[e]at a;obtain⟨rfl,rfl,a⟩:=a;rw[xab zD,xad rfl]at a;rcases a with⟨_,rfl,_⟩|⟨_,_,rfl,_⟩|⟨_,_,_,_,_,_,rfl,_⟩<;>exact⟨rfl,rfl,rfl⟩
end
end Go.Proofs
