import Derived.Test.YtgeffephefcdiaaGreatA2
import Derived.Sort.AssemblyPlain
import Derived.Test.YtgeffephefcdiaaGreatA1
import Derived.Test.YtgeffephefcdiaaGreatProg
import Derived.RangeFuncIn
import Derived.RangeFuncLeaves
import Derived.RangeFuncRecord
import Derived.RangeFuncSeq
set_option linter.unusedVariables false
set_option linter.unusedSimpArgs false
set_option linter.unusedSectionVars false
set_option maxRecDepth 100000
namespace Go.Proofs
open Go Go.Sx
section
open aA
theorem uj{pt n:Nat}{T:Nd->Option Nat}{C:Hp}{d:Nd}(h:ob pt n T C)(hv:d.v<n):
  Rd zQ 320 #[ptr pt,nK d] C (· =.tuple #[u32 ((T d).getD 0),.bool (T d).isSome]):=by
 have h0:=h;obtain⟨vs,Cs,ms,rfl,hs,ho⟩:=h;obtain⟨m,hm⟩:∃m,ms[d.v]? =some m:=⟨_,xaa (by rw[ho.len];exact hv)⟩;refine aF λg=>Hy ?_;intro b1 _;refine Ld.f ?_;refine aa.eq (k7 h0 hv) (ae.cG (Br.F (Nil.ptr ?_)));refine ai.mk (Ld.mk zM rfl ?_);refine Ld.f ?_;refine hs.WK (x:=.map (some m.b)) (by rw[xat,hm];rfl) (λ_ h=>by exact .tail _ (.tail _ (xad _ h))) ?_;refine ay.q ?_;have hmem:(m.b,Obj.map m.es m.ck)∈(b1,Obj.cells (Value.cells (nK d)) 226 (0,0))::(pt,.cells #[vs] 166 (0,0))::(Cs++ME ms):=.tail _ (.tail _ (xac _ (qL hm)));have hT:T d=aK m.l d:=by rw[ho.T,hm];rfl
 rw[hT];cases hg:aK m.l d with
 |some r=>
  refine aE.Fv (ke:=nK) (k:=d) qH mJ (ho.dG _ m hm) hmem hg ?_;rintro v rfl;exact Ext.mk rfl (Ext.mk rfl (bc.mk .tail rfl))
 |none=>
  refine aE.vi (ke:=nK) (k:=d) qH mJ (ho.dG _ m hm) hmem hg ?_;exact Ext.mk rfl (Ext.mk rfl (bc.mk .tail rfl))
theorem JX{pt n r:Nat}{T:Nd->Option Nat}{C:Hp}{d:Nd}(h:ob pt n T C)(hv:d.v<n)(hT:T d=none):
  Fc zQ 302 #[ptr pt,nK d,u32 r] C (λv C'=>v=iv 0/\ob pt n (qk T d (some r)) C'):=by
 have h0:=h;obtain⟨vs,Cs,ms,rfl,hs,ho⟩:=h;obtain⟨m,hm⟩:∃m,ms[d.v]? =some m:=⟨_,xaa (by rw[ho.len];exact hv)⟩;have hTm:aK m.l d=none:=by rw[ho.T,hm]at hT;exact hT
 refine aF λg=>HC ?_;intro b1 _;refine Ld.f ?_;refine aa.eq (k7 h0 hv) (ae.cG (Br.F (Nil.ptr ?_)));refine ai.mk (Ld.mk zM rfl ?_);refine Ld.f ?_;refine hs.WK (x:=.map (some m.b)) (by rw[xat,hm];rfl) (λ_ h=>by exact .tail _ (.tail _ (xad _ h))) ?_;refine ay.q ?_;have hmem:(m.b,Obj.map m.es m.ck)∈(b1,Obj.cells (Value.cells (nK d)) 226 (0,0))::(pt,.cells #[vs] 166 (0,0))::(Cs++ME ms):=.tail _ (.tail _ (xac _ (qL hm)));refine aE.vi (ke:=nK) (k:=d) qH mJ (ho.dG _ m hm) hmem hTm ?_;refine Ext.mk rfl (Ext.mk rfl (Br.no (DR.self (Nil.ptr ?_))));refine ai.mk (Ld.mk zM rfl ?_);refine Ld.f ?_;refine hs.WK (x:=.map (some m.b)) (by rw[xat,hm];rfl) (λ_ h=>by exact .tail _ (.tail _ (xad _ h))) ?_;refine ay.q ?_;refine aE.LV (ke:=nK) (k:=d) (vr:=OJ) (x:=r) qH mJ KB (ho.dG _ m hm) rfl λes' bB he=>⟨_,.tail (.tail ((Ai (l':=dZ m.l d r) hm).ca Cs)),?_⟩;exact aN.mk .tail ⟨rfl,vs,Cs,_,rfl,by rw[yo hm];exact hs;rfl,ho.add hm he⟩
theorem yd{pt n r:Nat}{T:Nd->Option Nat}{C:Hp}{d:Nd}(h:ob pt n T C)(hv:d.v<n)(hT:T d=some r):
  Fc zQ 288 #[ptr pt,nK d] C (λv C'=>v=iv 0/\ob pt n (qk T d none) C'):=by
 have h0:=h;obtain⟨vs,Cs,ms,rfl,hs,ho⟩:=h;obtain⟨m,hm⟩:∃m,ms[d.v]? =some m:=⟨_,xaa (by rw[ho.len];exact hv)⟩;have hTm:aK m.l d=some r:=by rw[ho.T,hm]at hT;exact hT
 refine aF λg=>HQ ?_;intro b1 _;refine Ld.f ?_;refine aa.eq (k7 h0 hv) (ae.cG (Br.F (Nil.ptr ?_)));refine ai.mk (Ld.mk zM rfl ?_);refine Ld.f ?_;refine hs.WK (x:=.map (some m.b)) (by rw[xat,hm];rfl) (λ_ h=>by exact .tail _ (.tail _ (xad _ h))) ?_;refine ay.q ?_;have hmem:(m.b,Obj.map m.es m.ck)∈(b1,Obj.cells (Value.cells (nK d)) 226 (0,0))::(pt,.cells #[vs] 166 (0,0))::(Cs++ME ms):=.tail _ (.tail _ (xac _ (qL hm)));refine aE.Fv (ke:=nK) (k:=d) qH mJ (ho.dG _ m hm) hmem hTm ?_;rintro v rfl;refine Ext.mk rfl (Ext.mk rfl (Un.not (Br.no (DR.of (R:=(b1,Obj.cells (Value.cells (nK d)) 226 (0,0))::(pt,.cells #[vs] 166 (0,0))::Cs) (.cons (.cons .left)) (Nil.ptr ?_)))));refine ai.mk (Ld.mk zM rfl ?_);refine Ld.f ?_;refine hs.WK (x:=.map (some m.b)) (by rw[xat,hm];rfl) (λ_ h=>by exact .tail _ (.tail _ h)) ?_;refine ay.q ?_;refine aE.agu (ke:=nK) (k:=d) qH mJ (ho.dG _ m hm) hmem λes' he=>⟨_,.tail (.tail ((Ai (l':=ia m.l d) hm).ca Cs)),?_⟩;exact⟨.cons (.cons .left),aN.mk .tail ⟨rfl,vs,Cs,_,rfl,by rw[yo hm];exact hs;rfl,ho.del hm he⟩⟩
theorem Tx.start(n:Nat)(bs:zL)(h:bs.length=n):Tx (bs.map λb=>⟨b,#[],0,[]⟩) n (λ_=>none) where
 len:=by simpa using h
 dG:=λv m hm=>by
  rw[xat]at hm;obtain⟨b,_,rfl⟩:=xdP.1 hm;exact aE.empty
 var:=λv m hm x hx=>by
  rw[xat]at hm;obtain⟨b,_,rfl⟩:=xdP.1 hm;simp at hx
 T:=λd=>by
  rw[xat];cases bs[d.v]? <;>simp[aK]
theorem Dk(x:zV):∀n:Nat,(List.replicate n [x]).flatten=List.replicate n x
 |0=>rfl
 |n+1=>by rw[xc8,xcX,xc8,Dk x n];rfl
theorem TM{n:Nat}(hn:1<=n/\n<=64):Fc zQ 69 #[iv (n:Int)] [] (λv H=>∃pt,v=.tuple #[ptr pt,iv 0]/\ob pt n (λ_=>none) H):=by
 refine aF λg=>On ?_;refine ae.lss ?_;rw[xal zO];refine cf.or false (λ_=>ae.gtr ⟨rfl,by rw[xal zO]⟩) rfl λ_=>Br.no ?_;refine⟨.i64,.i64,n,n,rfl,rfl,xaj _,by omega,by omega,?_⟩;intro bs _;refine Build.mk (cs:=[.slice (some ⟨bs,0,none⟩) n n]) zK ?_;intro pt _;have hz:madeCells (Value.cells (.map none)) (n*1)=rows ((List.replicate n [Value.map none])++[]):=by
  apply xde;apply xbd;intro i;have:=Dk (.map none) n;simp only[madeCells,rows,Value.cells,xdR,Array.toList_range,xat,xdB,xb1,xaL];rw[this,xdM];by_cases hi:i<n
  ·simp[hi,Nat.mod_one]
  simp[hi]
 rw[hz];have hs0:aV 167 1 (.slice (some ⟨bs,0,none⟩) n n) (List.replicate n [Value.map none]) [(bs,.cells (rows ((List.replicate n [Value.map none])++[])) 167 (0,0))]:=
  aV.mk' (λr hr=>by rw[xaL]at hr;rw[xbX hr];rfl) zI zI
 refine⟨λvs H=>∃(j:Nat) (bl:zL) (Cs:Hp),vs=[iv (j:Int)]/\bl.length=j/\j<=n/\H=(pt,.cells #[.slice (some ⟨bs,0,none⟩) n n] 166 (0,0))::(Cs++ME (bl.map λb=>⟨b,#[],0,[]⟩))/\
  aV 167 1 (.slice (some ⟨bs,0,none⟩) n n) ((bl.map λb=>[Value.map (some b)])++List.replicate (n-j) [Value.map none]) Cs,λvs _=>n-bL vs 0,JE.mk ⟨0,[],_,rfl,rfl,by omega,by simp only[ME,xb6,xaL];rfl,by simpa using hs0⟩,?_⟩
 rintro w H ⟨j,bl,Cs,hw,YS,hj,rfl,hs⟩ gs;simp only[xau,xa0]at hw;subst hw;refine ae.fi (Br.dec (λhlt=>?_) (λhlt=>?_))
 ·refine Nil.ptr (Ld.f ?_);intro b _;have hlen:((bl.map λb=>[Value.map (some b)])++List.replicate (n-j) [Value.map none]).length=n:=by simp;omega
  refine aV.aeh (A:=[_,_]) (B:=ME (bl.map λb=>⟨b,#[],0,[]⟩)) hs (i:=j) (y:=.map none) zO ?_ rfl λC' hs'=>?_
  ·rw[xbM (by simp[YS])];simp only[xax,YS,xc6];rw[xdM,xae zO]
  refine ae.inc ?_;have e:((bl.map λb=>[Value.map (some b)])++List.replicate (n-j) [Value.map none]).set j [Value.map (some b)]=((bl++[b]).map λb=>[Value.map (some b)])++List.replicate (n-(j+1)) [Value.map none]:=by
   rw[xcA _ _ (by simp[YS])];simp only[xax,YS,xc6];rw[show n-j=(n-(j+1))+1 by omega,xc8,xcy,xaJ];simp
  rw[e]at hs';refine aC.of ?_ ⟨j+1,bl++[b],C',rfl,by simp[YS],by omega,rfl,hs'⟩ (by show n-(((j+1:Nat):Int).toNat)<n-(((j:Nat):Int).toNat);omega);refine aM.perm ?_;simp only[xaR,xb2,ME,xaJ,xbQ];refine(List.Perm.swap _ _ _).trans (.cons _ ?_);rw[<-xai];exact(List.perm_append_singleton _ _).symm
 obtain rfl:j=n:=by omega
 refine aN.here ⟨pt,rfl,_,Cs,_,rfl,?_,Tx.start _ bl YS⟩;rw[xc6]at hs;simpa[xbQ,Function.comp_def]using hs
theorem Wf{n:Nat}(hn:2<=n/\n<=1048576):Fc zQ 119 #[iv (n:Int)] [] (λv H=>∃pa,v=.tuple #[ptr pa,iv 0]/\iX pa n 2 (λ_=>none) H):=by
 refine aF λg=>JL ?_;refine ae.lss ?_;rw[xal zO];refine cf.or false (λ_=>ae.gtr ⟨rfl,by rw[xal zO]⟩) rfl λ_=>Br.no ?_;refine Build.mk (cs:=[iv (n:Int),.slice none 0 0,.slice none 0 0,iv 2]) zK ?_;intro pa _;refine⟨λvs H=>∃(j:Nat) (vl:zV) (Cl:Hp),vs=[u32 j]/\j<=2/\H=(pa,.cells #[iv (n:Int),vl,.slice none 0 0,iv 2] 224 (0,0))::Cl/\
  aV 228 5 vl ((List.range j).map λr=>(o6.mk (-1) r r true 255).row) Cl,λvs _=>2-bL vs 0,JE.mk ⟨0,_,[],rfl,by omega,rfl,aV.nil _ _⟩,?_⟩
 rintro w H ⟨j,vl,Cl,hw,hj,rfl,hs⟩ gs;simp only[xau,xa0]at hw;subst hw;refine ae.fi (b:=2) (Br.dec (λhlt=>?_) (λhlt=>?_))
 ·refine Nil.ptr (Ld.f ?_);refine Build.mk (cs:=[iv (-1),u32 j,u32 j]) zK ?_;refine Build.mk (cs:=(o6.mk (-1) j j true 255).row) zK ?_;refine av.one (z:=.agg #[iv 0,.int .u32 0,.int .u32 0,.bool false,.int .u8 0]) (e:=228) (k:=5) zK zK zK zD rfl λbx=>?_;have e1:∀x y:Nat×Obj,x::y::Cl=[x,y]++(Cl++[]):=λx y=>by simp
  rw[e1];refine hs.Gg (A:=[_,_]) (B:=[]) (r:=(o6.mk (-1) j j true 255).row) (by exact .head _) rfl (row_one _) (by exact⟨[iv 0,.int .u32 0,.int .u32 0,.bool false,.int .u8 0],rfl,rfl⟩) zP zP λv' C' hs'=>?_;simp only[xaR,xb2,xaL];have hone:v'.oneCell'=true:=by obtain⟨a,c,e⟩:=hs'.len;rw[e];rfl
  refine Nil.ptr (ai.mk (St.one (by exact .tail (.head _)) hone zI rfl ?_));refine ae.inc (aC.of .tail ⟨j+1,v',C',rfl,by omega,rfl,?_⟩ (by show 2-(((j+1:Nat):Int).toNat)<2-(((j:Nat):Int).toNat);omega));rw[xcl,xaJ];exact hs'
 obtain rfl:j=2:=by omega
 refine aN.here ⟨pa,rfl,vl,_,[⟨-1,0,0,true,255⟩,⟨-1,1,1,true,255⟩],[],Cl,[],by rw[xaL];rfl,hs,aQ.nil,?_⟩;exact {
  cap:=by simp;omega
  two:=by simp
  const:=λr hr=>by
   have:r=0\/r=1:=by omega
   rcases this with rfl|rfl
   ·exact⟨_,rfl,rfl,rfl,rfl,rfl⟩
   exact⟨_,rfl,rfl,rfl,rfl,rfl⟩
  nd:=λr hr=>by rw[xaD zP];rfl
  n0:=λ_ _=>rfl
  nn:=λr p hr hp _=>by rw[xaD zP]at hp;cases hp
  Tu:=by simp
  Bi:=λr=>by
   simp only[xaS,false_iff,not_exists,not_and];intro p hp;have hlt:=(xah.1 hp).1;simp at hlt;have:r=0\/r=1:=by omega
   rcases this with rfl|rfl<;>(simp at hp;subst hp;simp)
  used:=rfl}
structure tV where
 pa:Nat
 pt:Nat
 vu:zV
 vh:zV
 vo:zV
 vl:zV
 vt:zV
 CA:Hp
 CT:Hp
 CU:Hp
 CH:Hp
 CO:Hp
 CL:Hp
 CR:Hp
def tV.cells(b:tV)(n:Nat):Array zV:=#[ptr b.pa,ptr b.pt,b.vu,b.vh,iv (n:Int),b.vo,b.vl,b.vt]
def tV.hp(b:tV)(kp n:Nat):Hp:=(kp,.cells (b.cells n) 141 (0,0))::(b.CA++(b.CT++(b.CU++(b.CH++(b.CO++(b.CL++b.CR))))))
structure ZC(b:tV)(K:Kd)(ord ah tr:zL):Prop where
 ar:iX b.pa K.cap K.used K.N b.CA
 ut:ob b.pt K.n K.T b.CT
 us:aQ 21 .i32 b.vu (iw K.us) b.CU
 ho:aQ 21 .i32 b.vh (iw K.ho) b.CH
 od:aQ 3 .i64 b.vo (iw ord) b.CO
 lv:aQ 3 .i64 b.vl (iw ah) b.CL
 tr:aQ 3 .i64 b.vt (iw tr) b.CR
 ul:K.us.length=K.ho.length/\K.us.length<=1048576
 lq:K.n<=64
 ol:ord.length=K.n/\ah.length=K.n
def cT(kp:Nat)(K:Kd)(ord ah tr:zL)(C:Hp):Prop:=∃b:tV,C=b.hp kp K.n/\ZC b K ord ah tr
section
variable {kp:Nat} {K:Kd} {ord ah tr:zL} {C:Hp}
theorem cT.cap(h:cT kp K ord ah tr C):K.cap<=1048576:=by
 obtain⟨b,rfl,hb⟩:=h;exact(hb.ar.lt (r:=0) (.inl zD)).2
theorem cT.lt(h:cT kp K ord ah tr C){r:Nat}(hr:live K.N r):r<1048576:=by
 obtain⟨b,rfl,hb⟩:=h;have:=hb.ar.lt hr;omega
theorem aR(N:eB)(r:Nat):(got N r).length=3/\∀x∈got N r,x.oneCell'=true:=by
 unfold got;split
 ·exact⟨rfl,by intro x hx;simp[u32]at hx;rcases hx with rfl|rfl|rfl<;>rfl⟩
 split
 ·exact⟨rfl,by intro x hx;simp[bu,u32]at hx;rcases hx with rfl|rfl|rfl<;>rfl⟩
 exact⟨rfl,by intro x hx;simp[u32]at hx;rcases hx with rfl|rfl|rfl<;>rfl⟩
theorem nQ(h:cT kp K ord ah tr C){r:Nat}(hr:r<4294967296):Rd zQ 197 #[ptr kp,u32 r] C (· =.bool (gD K.N r)):=by
 obtain⟨b,rfl,hb⟩:=h;refine aF λg=>IW ?_;refine Nil.ptr (Ld.f ?_);refine aa.eq (RZ hb.ar hr) (Ext.two ?_);intro b8 _;refine St.whole (r:=got K.N r) (by exact .head _) rfl (aR _ _).1 (aR _ _).2 ?_;refine ae.gU (bc.mk .tail ?_);cases gD K.N r<;>rfl
theorem nP(h:cT kp K ord ah tr C){r:Nat}(hr:r<4294967296):Rd zQ 287 #[ptr kp,u32 r] C (· =.agg (got K.N r).toArray):=by
 obtain⟨b,rfl,hb⟩:=h;refine aF λg=>HR ?_;intro b1 _;refine Nil.ptr (Ld.f ?_);refine aa.eq (RZ hb.ar hr) (Ext.two ?_);intro AT _;refine St.whole (r:=got K.N r) (by exact .head _) rfl (aR _ _).1 (aR _ _).2 ?_;refine ay.whole (r:=got K.N r) (by exact .head _) (aR _ _).1 ?_;refine St.whole (r:=got K.N r) (by exact .tail (.head _)) rfl (aR _ _).1 (aR _ _).2 ?_;refine ay.whole (r:=got K.N r) (by exact .tail _ (.head _)) (aR _ _).1 ?_;exact bc.mk (.skip .tail) rfl
theorem Cv(h:cT kp K ord ah tr C){m:Nat}(hm:m<=1099511627776)(hu:K.used<=1048576):Rd zQ 245 #[ptr kp,iv (m:Int)] C (· =.bool (decide (K.used+m<=K.cap))):=by
 obtain⟨b,rfl,hb⟩:=h;refine aF λg=>IC ?_;refine DR.self (Nil.ptr (Ld.f ?_));refine Nil.ptr (Ld.f ?_);refine aa.eq (DI hb.ar) (⟨.refl _,?_⟩);refine ae.fH (aa.eq (Gi hb.ar) (⟨.refl _,?_⟩));exact ae.xE (bc.mk (.refl _) rfl)
def sP(K:Kd)(r:Nat):zL:=if r<2 then K.us else K.us.set r (K.use r+1)
theorem jr(r:Nat):(sP K r).length=K.us.length:=by unfold sP;split<;>simp
theorem ny{r:Nat}(h2:2<=r)(hr:r<K.us.length):(sP K r).getD r 0=K.use r+1:=by
 unfold sP;rw[xab zO];simp[List.getD,hr]
theorem uA{r s:Nat}(h:s≠r):(sP K r).getD s 0=K.use s:=by
 unfold sP Kd.use;split
 ·rfl
 simp[List.getD,xbG (xa8 h)]
theorem Es(h:cT kp K ord ah tr C){r:Nat}(hr:r<2\/r<K.us.length)(hb:K.use r+1<2147483648):
  Fc zQ 300 #[ptr kp,u32 r] C (λv C'=>v=.tuple #[]/\cT kp {K with us:=sP K r} ord ah tr C'):=by
 obtain⟨b,rfl,hO⟩:=h;refine aF λg=>HE ?_;refine ae.m9 (b:=1) (Br.dec (λh1=>?_) (λh1=>?_))
 ·have hr':r<K.us.length:=by omega
  refine Nil.ptr (Ld.f ?_);refine hO.us.ld (x:=((K.use r:Nat):Int)) (bH hr') (bG.sub (.cons (.app (.app .left)))) ?_;refine ae.inc (hO.us.nj (.cons (.app (.app .left))) (by simpa using hr') λC' ho=>?_);refine aN.here ⟨rfl,{b with CU:=C'},rfl,?_⟩;have e:sP K r=K.us.set r (K.use r+1):=by unfold sP;rw[xab zO]
  exact {hO with us:=by rw[fj]at ho;rw[e];exact ho,ul:=by simp only[e,xbN];exact hO.ul}
 refine aN.here ⟨rfl,b,rfl,?_⟩;have e:sP K r=K.us:=by unfold sP;rw[xae zO]
 rw[e];exact hO
end
section
variable {kp:Nat} {K:Kd} {ord ah tr:zL} {C:Hp}
theorem gQ{l:zL}{r s x:Nat}(hr:r<l.length):(l.set r x).getD s 0=if s=r then x else l.getD s 0:=by
 simp only[List.getD,xbo];by_cases e:r=s
 ·subst e;simp[hr]
 rw[xab e,xab (xa8 e)]
theorem vQ(l:zL)(s:Nat):(l++[0]).getD s 0=l.getD s 0:=by
 simp only[List.getD,xdW];split
 ·rfl
 rename_i h;rw[xaD (by omega:l.length<=s)];cases hs:s-l.length<;>simp[hs]
def Pd:Hp->Nat
 |_::(_,Obj.cells c _ _)::_=>(match c[2]? with|some (Value.slice _ n _)=>n|_=>0)
 |_=>0
theorem Bu{b:tV}{x:Nat×Obj}{n m:Nat}{a:Option Addr}{cp:Nat}(h:b.vu=.slice a m cp):Pd (x::b.hp kp n)=m:=by simp[Pd,tV.hp,tV.cells,h]
theorem J0(h:cT kp K ord ah tr C){d:Nd}(hd:NOk K.N d)(hv:d.v<K.n)(hT:K.T d=none)(hroom:K.used<K.cap)(hlo:d.lo<2\/d.lo<K.us.length)(hhi:d.hi<2\/d.hi<K.us.length)
 (hb:∀s,K.use s+2<2147483648):
  Fc zQ 246 #[ptr kp,nK d] C (λv C'=>∃r dB cC,v=u32 r/\K.N r=none/\2<=r/\r<K.cap/\dB.length=cC.length/\r<dB.length/\K.us.length<=dB.length/\dB.getD r 0=0/\
   (∀s,2<=s->s≠r->dB.getD s 0=K.use s+e1 (some d) s)/\(∀s,s<2->dB.getD s 0=K.use s)/\cC.getD r 0=0/\(∀s,s≠r->cC.getD s 0=K.hold s)/\
   cT kp {K with N:=up K.N r (some d),T:=qk K.T d (some r),used:=K.used+1,us:=dB,ho:=cC} ord ah tr C'):=by
 have hcap:=h.cap;obtain⟨b,rfl,hO⟩:=h;have MS:=hO.ul;refine aF λg=>IB ?_;intro b1 _;refine DR.of (R:=(b1,.cells (Value.cells (nK d)) 226 (0,0))::(kp,.cells (b.cells K.n) 141 (0,0))::[]) (.cons (.cons .nil)) (Nil.ptr (Ld.f ?_));refine ay.q ?_;refine aa.fq (SN hO.ar hd hroom) ?_;rintro v CA' ⟨r,rfl,h2,hrc,hN,har⟩;refine⟨.cons (.cons .nil),Ext.mk rfl (Ext.mk rfl ?_)⟩;refine⟨λ_ H=>∃(b':tV) (dB cC:zL),H=(b1,.cells (Value.cells (nK d)) 226 (0,0))::b'.hp kp K.n/\ZC b' {K with N:=up K.N r (some d),used:=K.used+1,us:=dB,ho:=cC} ord ah tr/\
   K.us.length<=dB.length/\(∀s,dB.getD s 0=K.use s)/\∀s,cC.getD s 0=K.hold s,
  λ_ H=>r+1-Pd H,JE.mk ⟨{b with CA:=CA'},K.us,K.ho,rfl,{hO with ar:=har,ul:=MS},xaj _,λ_=>rfl,λ_=>rfl⟩,?_⟩
 rintro H ⟨b',dB,cC,rfl,xL,hle,hu,hh⟩ gs;have aa6:=xL.ul;simp only at aa6;refine br.q (Nil.ptr (Ld.f ?_));refine xL.us.bP ?_;rw[ak];refine ae.rI (Br.dec (λhge=>?_) (λhge=>?_))
 ·have hge:dB.length<=r:=hge;refine Nil.ptr (Ld.f ?_);refine av.int (e:=21) zK zK zK λbx=>?_;refine xL.us.rB (.cons (.cons (.cons (.app (.app .left))))) (by exact .head _) zP zP λvu' Tz Ar=>?_;refine Nil.ptr (ai.mk (St.one (by exact .tail (.tail (.head _))) Ar.one (by simp[tV.cells]) rfl ?_));refine Nil.ptr (Ld.f ?_);refine av.int (e:=21) zK zK zK λby'=>?_;refine xL.ho.rB (.cons (.cons (.cons (.cons (.app (.app (.app .left))))))) (by exact .head _) zP zP λvh' Td po=>?_;refine Nil.ptr (ai.mk (St.one (by exact .tail (.tail (.tail (.head _)))) po.one (by simp[tV.cells]) rfl ?_));have e0:∀l:zL,iw l++[0]=iw (l++[0]):=λl=>by rw[cj];rfl
  rw[e0]at Ar po;refine aC.of (.skip (.skip (.refl _))) ⟨{b' with vu:=vu',vh:=vh',CU:=Tz,CH:=Td},dB++[0],cC++[0],rfl,{xL with us:=Ar,ho:=po,ul:=by simp at aa6⊢;omega},by simp;omega,λs=>by rw[vQ,hu],λs=>by rw[vQ,hh]⟩ ?_;obtain⟨a1,c1,e1⟩:=aV.len xL.us;obtain⟨a2,c2,e2⟩:=aV.len Ar;have f1:=Bu (b:=b') (x:=(b1,.cells (Value.cells (nK d)) 226 (0,0))) (kp:=kp) (n:=K.n) e1;have f2:=Bu (b:={b' with vu:=vu',vh:=vh',CU:=Tz,CH:=Td}) (x:=(b1,.cells (Value.cells (nK d)) 226 (0,0))) (kp:=kp) (n:=K.n) e2;rw[f1];refine xaC (Nat.le_of_eq (xce (λz=>r+1-z) f2)) ?_;simp;omega
 have hge:¬dB.length<=r:=hge;have Q2:r<dB.length:=by omega
 have p7:r<cC.length:=by omega
 refine DR.of (R:=(kp,.cells (b'.cells K.n) 141 (0,0))::[]) (.skip (.cons .nil)) (Nil.ptr (Ld.f ?_));refine Nil.ptr (Ld.f ?_);refine xL.us.nj (x:=0) (.cons (.cons (.app (.app .left)))) (by simpa using Q2) λTz Ar=>?_;refine xL.ho.nj (x:=0) (.cons (.cons (.app (.app (.app .left))))) (by simpa using p7) λTd po=>?_;have e0:∀l:zL,(iw l).set r 0=iw (l.set r 0):=λl=>fj l r 0;rw[e0]at Ar po;have lor:d.lo≠r:=gf hd.lo h2 hN;have hir:d.hi≠r:=gf hd.hi h2 hN;refine Ld.f ?_;have u0:∀s,(dB.set r 0).getD s 0=if s=r then 0 else K.use s:=λs=>by rw[gQ Q2];split;rfl;exact hu s
 have h0:∀s,(cC.set r 0).getD s 0=if s=r then 0 else K.hold s:=λs=>by rw[gQ p7];split;rfl;exact hh s
 have eV:cT kp {K with N:=up K.N r (some d),used:=K.used+1,us:=dB.set r 0,ho:=cC.set r 0} ord ah tr (({b' with CU:=Tz,CH:=Td}:tV).hp kp K.n):=⟨_,rfl,{xL with us:=Ar,ho:=po,ul:=by simp;omega}⟩;refine aa.fq (Es eV zP (by have:=hb d.lo;show(dB.set r 0).getD d.lo 0+1<_;rw[u0,xab lor];omega)) ?_;rintro v C1 ⟨rfl,dk⟩;refine Ld.f ?_;have u1:∀s,(sP {K with N:=up K.N r (some d),used:=K.used+1,us:=dB.set r 0,ho:=cC.set r 0} d.lo).getD s 0=(if s=r then 0 else K.use s)+(if 2<=s/\s=d.lo then 1 else 0):=λs=>by
  by_cases e:s=d.lo
  ·by_cases h2:2<=s
   ·rw[xae (show 2<=s/\s=d.lo from⟨h2,e⟩),e,ny zO zP];show(dB.set r 0).getD d.lo 0+1=_;rw[u0]
   rw[xab (show¬(2<=s/\s=d.lo)by omega)];unfold sP;rw[xae zO];show(dB.set r 0).getD s 0=_;rw[u0];rfl
  rw[xab (show¬(2<=s/\s=d.lo)by omega),uA e];show(dB.set r 0).getD s 0=_;rw[u0];rfl
 refine aa.fq (Es dk (by rw[jr];simp;omega) (by
  have:=hb d.hi;show(sP _ d.lo).getD d.hi 0+1<_;rw[u1,xab hir];split<;>omega)) ?_
 rintro v C2 ⟨rfl,j8⟩;have akF:=j8;obtain⟨b3,rfl,hO3⟩:=j8;refine DR.self (Nil.ptr (Ld.f ?_));refine ay.q ?_;refine aa.fq (JX hO3.ut hv hT) ?_;rintro v ZL ⟨rfl,Yj⟩;have u2:∀s,(sP {K with N:=up K.N r (some d),used:=K.used+1,us:=sP {K with N:=up K.N r (some d),used:=K.used+1,us:=dB.set r 0,ho:=cC.set r 0} d.lo,ho:=cC.set r 0} d.hi).getD s 0=(if s=r then 0 else K.use s)+(if 2<=s/\s=d.lo then 1 else 0)+(if 2<=s/\s=d.hi then 1 else 0):=λs=>by
  by_cases e:s=d.hi
  ·by_cases h2:2<=s
   ·rw[xae (show 2<=s/\s=d.hi from⟨h2,e⟩),e,ny zO (by rw[jr];simp;omega)];show(sP _ d.lo).getD d.hi 0+1=_;rw[u1]
   rw[xab (show¬(2<=s/\s=d.hi)by omega)];unfold sP;rw[xae zO];show(sP _ d.lo).getD s 0=_;rw[u1];rfl
  rw[xab (show¬(2<=s/\s=d.hi)by omega),uA e];show(sP _ d.lo).getD s 0=_;rw[u1];rfl
 refine aN.mk .tail ⟨r,_,_,rfl,hN,h2,hrc,?_,?_,?_,?_,?_,?_,?_,?_,{b3 with CT:=ZL},rfl,{hO3 with ut:=Yj}⟩
 ·rw[jr,jr];simp;omega
 ·rw[jr,jr];simp;omega
 ·rw[jr,jr];simp;omega
 ·rw[u2,xae rfl,xab (show¬(2<=r/\r=d.lo)by omega),xab (show¬(2<=r/\r=d.hi)by omega)]
 ·intro s h2s hne;rw[u2,xab hne,ew];have c1:(2<=s/\s=d.lo)↔d.lo=s:=⟨λh=>h.2.symm,λh=>⟨h2s,h.symm⟩⟩;have c2:(2<=s/\s=d.hi)↔d.hi=s:=⟨λh=>h.2.symm,λh=>⟨h2s,h.symm⟩⟩;simp only[c1,c2];omega
 ·intro s hs;rw[u2,xab (show¬s=r by omega),xab (show¬(2<=s/\s=d.lo)by omega),xab (show¬(2<=s/\s=d.hi)by omega)];try simp
 ·rw[h0,xae rfl]
 intro s hne;rw[h0,xab hne]
end
section
variable {kp:Nat} {K:Kd} {ord ah tr:zL} {C:Hp} {S:Nat->aA.Fn}
theorem VL(B:Hp)(v:Int)(r:Nat)(kv:zV):Rd zQ 299 #[kv,iv v,u32 r,u32 r] B (· =u32 r):=by
 refine aF λg=>qe ?_;exact ae.eO (Br.T (bc.mk (.refl _) rfl))
theorem VN(h:cT kp K ord ah tr C){v lo hi r:Nat}(hne:lo≠hi)(hv:v<K.n)(hT:K.T ⟨v,lo,hi⟩=some r):
  Rd zQ 299 #[ptr kp,iv (v:Int),u32 lo,u32 hi] C (· =u32 r):=by
 obtain⟨b,rfl,hO⟩:=h;refine aF λg=>qe ?_;refine ae.eO (Br.Sh hne (Build.mk (cs:=bu ⟨v,lo,hi⟩) zK ?_));intro b3 _;refine St.p (λx hx=>by simp[bu,u32]at hx;rcases hx with rfl|rfl|rfl<;>rfl) ?_;refine DR.self (Nil.ptr (Ld.f ?_));refine ay.q ?_;refine aa.eq (uj (d:=⟨v,lo,hi⟩) hO.ut hv) ?_;rw[hT];exact⟨.refl _,Ext.mk rfl (Ext.mk rfl (Br.yes (bc.mk .tail rfl)))⟩
theorem VM(h:cT kp K ord ah tr C){d:Nd}(hne:d.lo≠d.hi)(hd:NOk K.N d)(hv:d.v<K.n)(hT:K.T d=none)(hroom:K.used<K.cap)(hlo:d.lo<2\/d.lo<K.us.length)(hhi:d.hi<2\/d.hi<K.us.length)
 (hb:∀s,K.use s+2<2147483648):
  Fc zQ 299 #[ptr kp,iv (d.v:Int),u32 d.lo,u32 d.hi] C (λv C'=>∃r dB cC,v=u32 r/\K.N r=none/\2<=r/\r<K.cap/\dB.length=cC.length/\r<dB.length/\K.us.length<=dB.length/\dB.getD r 0=0/\
   (∀s,2<=s->s≠r->dB.getD s 0=K.use s+e1 (some d) s)/\(∀s,s<2->dB.getD s 0=K.use s)/\cC.getD r 0=0/\(∀s,s≠r->cC.getD s 0=K.hold s)/\
   cT kp {K with N:=up K.N r (some d),T:=qk K.T d (some r),used:=K.used+1,us:=dB,ho:=cC} ord ah tr C'):=by
 have h0:=h;obtain⟨b,rfl,hO⟩:=h;refine aF λg=>qe ?_;refine ae.eO (Br.Sh hne (Build.mk (cs:=bu d) zK ?_));intro b3 _;refine St.p (λx hx=>by simp[bu,u32]at hx;rcases hx with rfl|rfl|rfl<;>rfl) ?_;refine DR.self (Nil.ptr (Ld.f ?_));refine ay.q ?_;refine aa.eq (uj (d:=d) hO.ut hv) ?_;rw[hT];refine⟨.refl _,Ext.mk rfl (Ext.mk rfl (Br.no ?_))⟩;refine ay.q ?_;refine aa.fq (J0 h0 hd hv hT hroom hlo hhi hb) ?_;rintro v C' ⟨r,dB,cC,rfl,hh⟩;exact aN.mk .tail ⟨r,dB,cC,rfl,hh⟩
structure xV(K' K:Kd):Prop where
 N:∀{s d},K'.N s=some d->K.N s=some d
 n:K'.n=K.n
 cap:K'.cap=K.cap
 ho:K'.ho=K.ho
 us:∀s,K'.use s<=K.use s
 idle:(∀s,K.N s=none->K.use s=0)->∀s,K'.N s=none->K'.use s=0
theorem xV.refl(K:Kd):xV K K:=⟨λh=>h,rfl,rfl,rfl,λ_=>xaj _,λh=>h⟩
theorem xV.trans{A B C:Kd}(h:xV A B)(h':xV B C):xV A C:=⟨λx=>h'.N (h.N x),h.n.trans h'.n,h.cap.trans h'.cap,h.ho.trans h'.ho,λs=>xbO (h.us s) (h'.us s),λhi=>h.idle (h'.idle hi)⟩
def PL(P:Nat->Nat)(N:eB):Prop:=∀t,2<=t->0<P t->∃d,N t=some d
def gV(P0:Nat->Nat)(l:zL):Nat->Nat:=λs=>P0 s+l.count s
theorem Nv{P0:Nat->Nat}{l:zL}{t:Nat}:up (gV P0 (l++[t])) t (gV P0 (l++[t]) t-1)=gV P0 l:=by
 funext s
 unfold up gV;split
 ·rename_i e;subst e;simp
 rename_i e;simp[xbf,xcH,xa8 e]
theorem mD{P0:Nat->Nat}(h:cT kp K ord ah tr C){r:Nat}(hm:jM K S iO (gV P0 [r]))(hp:Pos K)(hl:PL (gV P0 [r]) K.N)(hr:r<1048576)(hbu:∀s,K.use s<2147483648):
  Fc zQ 199 #[ptr kp,u32 r] C (λv C'=>v=.tuple #[]/\∃K',cT kp K' ord ah tr C'/\jM K' S iO P0/\Pos K'/\PL P0 K'.N/\xV K' K):=by
 refine aF λg=>IU ?_;refine av.int (e:=110) zK zK zK λbx=>?_;refine aaQ (λk vs H=>∃(w:zV) (Ct C':Hp) (todo:zL) (K':Kd),vs=[w]/\H=Ct++C'/\aQ 110 .u32 w (iw todo) Ct/\cT kp K' ord ah tr C'/\jM K' S iO (gV P0 todo)/\Pos K'/\PL (gV P0 todo) K'.N/\xV K' K/\(∀t∈todo,t<1048576)/\k=3*K'.used+todo.length/\k<=3*K.used+1)
  _ ⟨_,[_],C,[r],K,rfl,rfl,aQ.made [(r:Int)],h,hm,hp,hl,.refl K,by simpa using hr,rfl,by simp⟩ ?_
 rintro w H hJ gs;obtain⟨k,⟨w',Ct,C',todo,K',hw,rfl,ht,hK,hM,RR,OX,pz,hT,hk,hkb⟩,hkm⟩:=hJ.open;simp only[xau,xa0]at hw;subst hw;refine ht.bP ?_;rw[ak];refine ae.m9 (b:=0) (Br.dec (λhpos=>?_) (λhpos=>?_))
 ·have hc1:=hm.cap;obtain⟨pre,t,rfl⟩:∃pre t,todo=pre++[t]:=⟨todo.dropLast,todo.getLast (by intro e;simp[e]at hpos),(xd9 _).symm⟩;have htl:(pre++[t]).length=pre.length+1:=by simp
  have ZU:=hT t zI;refine ht.bP ?_;rw[ak,htl];refine ae.xx (b:=1) ?_ zO ?_
  ·simp[bF];omega
  rw[xb5];refine ht.ld (i:=pre.length) (x:=(t:Int)) (by rw[cj];simp[iw]) (bG.sub .left) ?_;refine ht.cut (i:=pre.length) zI λw' ht'=>?_;have WV:aQ 110 .u32 w' (iw pre) Ct:=by
   rw[cj,xez zI]at ht';exact ht'
  have hTp:∀s∈pre,s<1048576:=λs hs=>hT s (xad _ hs);refine ae.xE (b:=1) (Br.dec (λh1=>?_) (λh1=>?_))
  ·have hc:∀s,2<=s->gV P0 (pre++[t]) s=gV P0 pre s:=λs hs=>by
    unfold gV;rw[xbf,xcH];simp;omega
   exact oc.back (.refl _) hkm (3*K'.used+pre.length) ⟨w',Ct,C',pre,K',rfl,rfl,WV,hK,hM.congr (λ_=>xcT) hc,RR,λs hs h0=>OX s hs (by rw[hc s hs];exact h0),pz,hTp,rfl,by simp at hk;omega⟩ (by rw[hk];simp)
  have hPt:0<gV P0 (pre++[t]) t:=by unfold gV;simp;omega
  obtain⟨d,hd⟩:=OX t zO hPt;have hfit:=hM.fit hd;have Yt:=RR t d hd;obtain⟨b,rfl,hO⟩:=hK;refine Nil.ptr (Ld.f ?_);refine hO.us.ld (x:=((K'.use t:Nat):Int)) (bH hfit) (bG.sub (.app (.cons (.app (.app .left))))) ?_;refine ae.xx (b:=1) ?_ zO ?_
  ·have:=pz.us t;have:=hbu t;simp[bF];omega
  refine hO.us.nj (x:=((K'.use t-1:Nat):Int)) (.app (.cons (.app (.app .left)))) (by simpa using hfit) λTz Ar=>?_;rw[fj]at Ar;have g1:∀s,(K'.us.set t (K'.use t-1)).getD s 0=if s=t then K'.use t-1 else K'.use s:=λs=>gQ hfit
  have M5:=hM.less (r:=t) (dB:=K'.us.set t (K'.use t-1)) hPt zI (by rw[g1,xae rfl];omega) (λs hs=>by rw[g1,xab hs]);rw[Nv]at M5;have Xh:ZC {b with CU:=Tz} {K' with us:=K'.us.set t (K'.use t-1)} ord ah tr:={hO with us:=Ar,ul:=by simp;exact hO.ul};have RS:xV {K' with us:=K'.us.set t (K'.use t-1)} K:=⟨pz.N,pz.n,pz.cap,pz.ho,λs=>by
   show(K'.us.set t (K'.use t-1)).getD s 0<=_;rw[g1];have:=pz.us s;split
   ·rename_i e;subst e;omega
   ·exact this,λhi s hs=>by
   show(K'.us.set t (K'.use t-1)).getD s 0=0;have hs':K'.N s=none:=hs;rw[g1,xab (λe=>by subst e;rw[hd]at hs';cases hs')];exact pz.idle hi s hs'⟩
  have acd:PL (gV P0 pre) K'.N:=λs hs h0=>OX s hs (by unfold gV at h0⊢;rw[xbf];omega);refine Nil.ptr (Ld.f ?_);refine Ar.ld (x:=((K'.use t-1:Nat):Int)) (by rw[<-fj];simp[hfit]) (bG.sub (.app (.cons (.app (.app .left))))) ?_;refine ae.m9 (b:=0) (Br.dec (λh3=>?_) (λh3=>?_))
  ·refine oc.back (.refl _) hkm (3*K'.used+pre.length) ⟨w',Ct,_,pre,_,rfl,rfl,WV,⟨_,rfl,Xh⟩,M5,λs e hs=>?_,acd,RS,hTp,rfl,by simp at hk;omega⟩ (by rw[hk];simp);show 0<(K'.us.set t (K'.use t-1)).getD s 0;rw[g1];split
   ·exact h3
   exact RR s e hs
  have hu0:K'.use t=1:=by omega
  have eV:cT kp {K' with us:=K'.us.set t (K'.use t-1)} ord ah tr (({b with CU:=Tz}:tV).hp kp K'.n):=⟨_,rfl,Xh⟩;refine aa.eq (nP eV zO) ?_;have RV:2<=t:=by omega
  have afk:got K'.N t=bu d:=dX hd RV;show cy _ _ _;intro b32 _;rw[afk];refine St.p (λx hx=>by simp[bu,u32]at hx;rcases hx with rfl|rfl|rfl<;>rfl) ?_;refine DR.self (Nil.ptr (Ld.f ?_));refine ay.q ?_;have hTd:K'.T d=some t:=(hM.j5 d t).2 ⟨hd,λh=>h⟩;refine aa.fq (yd Xh.ut (hM.var hd) hTd) ?_;rintro v ZL ⟨rfl,Yj⟩;refine Nil.ptr (Ld.f ?_);refine aa.fq (SU Xh.ar ⟨d,hd⟩ RV) ?_;rintro v CA' ⟨rfl,har⟩;refine Ld.f ?_;refine Ld.f ?_;refine av.QL (e:=110) zK zK zK λbz=>?_;refine WV.Xr (.cons (.cons .left)) (dA.block (l:=[(d.lo:Int),(d.hi:Int)]) (by exact .head _) zI) (by simp at hk⊢;omega) (by simp at hk⊢;omega) λw2 Ct2 Q0=>?_;have e0:iw pre++[(d.lo:Int),(d.hi:Int)]=iw (pre++[d.lo,d.hi]):=by rw[cj];rfl
  rw[e0]at Q0;have Fq:({K' with us:=K'.us.set t (K'.use t-1)}:Kd).use t=0:=by show(K'.us.set t (K'.use t-1)).getD t 0=0;rw[g1,xae rfl];omega
  have KT:=M5.free (r:=t) (d:=d) hd (λh=>h) Fq;have hed:dx K'.N t K'.cap=0:=by have:=M5.use hd;rw[Fq]at this;exact(by have h5:dx K'.N t K'.cap+_+_=0:=this.symm;omega)
  have fN:=jV hed t (hM.two hd).2 d hd;have afX:gV P0 pre t=0:=by have:=M5.use hd;rw[Fq]at this;omega
  have hroom:0<K'.used:=by have:=hM.room;omega
  have hlt:∀x,live K'.N x->x<1048576:=λx hx=>eV.lt hx;have lY:∀s,2<=s->gV P0 pre s+e1 (some d) s=gV P0 (pre++[d.lo,d.hi]) s:=λs _=>by
   unfold gV;rw[ew,xbf,xb3,xb3,xdK];simp only[xcO];omega
  refine oc.back (.skip (.skip (.refl _))) hkm (3*(K'.used-1)+(pre++[d.lo,d.hi]).length) ⟨w2,Ct2,_,pre++[d.lo,d.hi],{K' with us:=K'.us.set t (K'.use t-1),N:=up K'.N t none,T:=qk K'.T d none,used:=K'.used-1},rfl,rfl,Q0,
   ⟨{b with CU:=Tz,CT:=ZL,CA:=CA'},rfl,{Xh with ar:=har,ut:=Yj}⟩,KT.congr (λ_=>xcT) lY,λs e hs=>?_,λs hs h0=>?_,⟨λ{s e} hs=>?_,RS.n,RS.cap,RS.ho,RS.us,λhi s hs=>?_⟩,λs hs=>?_,rfl,by simp at hk⊢;omega⟩ (by simp at hk⊢;omega)
  ·have hne:s≠t:=λe2=>by subst e2;have sg:up K'.N s none s=some e:=hs;rw[aP]at sg;cases sg
   show 0<(K'.us.set t (K'.use t-1)).getD s 0;rw[g1,xab hne];have sg:up K'.N t none s=some e:=hs;rw[aS hne]at sg;exact RR s e sg
  ·have hne:s≠t:=λe2=>by
    subst e2;rw[<-lY s hs,afX]at h0;rw[ew,xab fN.1,xab fN.2]at h0;omega
   show∃e,up K'.N t none s=some e;rw[aS hne];rw[<-lY s hs]at h0;by_cases h5:0<gV P0 pre s
   ·exact acd s hs h5
   rw[ew]at h0;have:d.lo=s\/d.hi=s:=by
    by_cases h6:d.lo=s
    ·exact .inl h6
    by_cases h7:d.hi=s
    ·exact .inr h7
    rw[xab h6,xab h7]at h0;omega
   rcases this with rfl|rfl
   ·rcases hM.lo hd with h8|h8
    ·omega
    exact h8
   rcases hM.hi hd with h8|h8
   ·omega
   exact h8
  ·have sg:up K'.N t none s=some e:=hs;by_cases e2:s=t
   ·subst e2;rw[aP]at sg;cases sg
   rw[aS e2]at sg;exact pz.N sg
  ·have sg:up K'.N t none s=none:=hs;show(K'.us.set t (K'.use t-1)).getD s 0=0;by_cases e2:s=t
   ·subst e2;rw[g1,xae rfl];omega
   rw[aS e2]at sg;exact RS.idle hi s sg
  rcases xan.1 hs with hs|hs
  ·exact hTp s hs
  simp at hs;rcases hs with rfl|rfl
  ·exact hlt _ (hM.lo hd)
  exact hlt _ (hM.hi hd)
 obtain rfl:todo=[]:=xbT zO;exact aN.mk .right ⟨rfl,K',hK,hM.congr (λ_=>xcT) (λs _=>by simp[gV]),RR,λs hs h0=>OX s hs (by simpa[gV]using h0),pz⟩
end
abbrev lv(ah:zL):Nat->Nat:=λv=>ah.getD v 0
section
variable {kp:Nat} {K:Kd} {ord ah tr:zL} {C:Hp} {S:Nat->aA.Fn}
theorem qQ(h:cT kp K ord ah tr C)(v:Int):Rd zQ 210 #[ptr kp,iv v] C (· =.bool (decide (0<=v/\v<K.n))):=by
 obtain⟨b,rfl,hO⟩:=h;refine aF λg=>II ?_;refine ae.geq (cf.and (decide (v<K.n)) (λ_=>?_) rfl λ_=>bc.mk (.refl _) (by rw[xdE]));refine Nil.ptr (Ld.f ?_);exact ae.lss ⟨rfl,rfl⟩
theorem yI(h:cT kp K ord ah tr C){r:Nat}(hl:live K.N r)(hv:∀d,K.N r=some d->d.v<K.n)(h01:r<2->K.N r=none):Rd zQ 319 #[ptr kp,u32 r] C (· =iv ((dep K.n (lv ah) K.N r:Nat):Int)):=by
 have h0:=h;have hr:=h.lt hl;obtain⟨b,rfl,hO⟩:=h;refine aF λg=>Hz ?_;refine Nil.ptr (ai.mk (aa.eq (nP h0 zO) ?_));intro b5 _;refine St.whole (r:=got K.N r) (by exact .head _) rfl (aR _ _).1 (aR _ _).2 ?_;by_cases h2:r<2
 ·rw[fG h2,aU (h01 h2)];refine Ld.f ?_;refine ae.geq (Br.no' zD (Nil.ptr (Ld.f ?_)));exact bc.mk .tail rfl
 obtain⟨d,hd⟩:∃d,K.N r=some d:=by rcases hl with hl|hl;omega;exact hl
 rw[dX hd zO,aq hd];have kX:=hv d hd;have hlen:=hO.ol.2;refine Ld.f ?_;refine ae.geq (Br.TA zI (Nil.ptr (Ld.f ?_)));refine Ld.f ?_;refine hO.lv.ld (x:=((ah.getD d.v 0:Nat):Int)) (bH zO) (bG.sub (.cons (.cons (.app (.app (.app (.app (.app .left)))))))) ?_;exact bc.mk .tail rfl
def pB(K:Kd)(ah:zL)(v:Int)(lo hi:Nat):Int:=
 if¬(0<=v/\v<K.n)then 2 else if gD K.N lo=false\/gD K.N hi=false then 3 else if lo≠hi/\min (dep K.n (lv ah) K.N lo) (dep K.n (lv ah) K.N hi)<=ah.getD v.toNat 0 then 4 else 0
theorem K7(h:cT kp K ord ah tr C)(v:Int){lo hi:Nat}(hlo:lo<4294967296)(hhi:hi<4294967296)(hv:∀r d,K.N r=some d->d.v<K.n/\2<=r):
  Rd zQ 243 #[ptr kp,iv v,u32 lo,u32 hi] C (· =iv (pB K ah v lo hi)):=by
 have h0:=h;have h01:∀r,r<2->K.N r=none:=λr hr=>by
  cases e:K.N r with
  |none=>rfl
  |some d=>have:=(hv r d e).2;omega
 obtain⟨b,rfl,hO⟩:=h;refine aF λg=>IE ?_;refine aa.eq (qQ h0 v) (Un.not ?_);by_cases MR:0<=v/\v<K.n;rotate_left
 ·rw[xal MR];exact Br.yes (bc.mk (.refl _) (by unfold pB;rw[xae MR]))
 rw[xam MR];apply Br.no;obtain⟨n,rfl⟩:∃n:Nat,v=n:=⟨v.toNat,by omega⟩;have hnv:n<K.n:=by omega
 intro J hJ;refine Nil.ptr (ai.mk (aa.eq (nQ h0 hlo) (Un.not ?_)));by_cases nw:gD K.N lo=true;rotate_left
 ·have abv:gD K.N lo=false:=by simpa using nw
  rw[abv];exact Split.Ut rfl (aI.mk (JE.mk (hJ _ _ λgs=>Br.yes (bc.mk (.refl _) (by unfold pB;rw[xab (by simpa using MR),xae (.inl abv)])))))
 rw[nw];refine Split.go rfl (Nil.ptr (ai.mk (aa.eq (nQ h0 hhi) (Un.not ?_))));by_cases hhl:gD K.N hi=true;rotate_left
 ·have abF:gD K.N hi=false:=by simpa using hhl
  rw[abF];exact aI.mk (JE.mk (hJ _ _ λgs=>Br.yes (bc.mk (.refl _) (by unfold pB;rw[xab (by simpa using MR),xae (.inr abF)]))))
 rw[hhl];refine aI.mk (JE.mk (hJ _ _ λgs=>Br.no ?_));intro J2 Bg;have hE:pB K ah n lo hi=if lo≠hi/\min (dep K.n (lv ah) K.N lo) (dep K.n (lv ah) K.N hi)<=ah.getD n 0 then 4 else 0:=by
  unfold pB;rw[xab (by simpa using MR),xab (by rw[nw,hhl];simp)];rfl
 refine DR.self (ae.tH ?_);by_cases hne:lo≠hi;rotate_left
 ·rw[xal hne];exact Br.no (JE.mk (Bg _ _ λgs=>Br.no (bc.mk (.refl _) (by rw[hE,xab (λh=>hne h.1)]))))
 rw[xam hne];refine Br.yes (Nil.ptr (Ld.f ?_));have hlen:=hO.ol.2;refine hO.lv.ld (x:=((ah.getD n 0:Nat):Int)) (bH zO) (bG.sub (.cons (.app (.app (.app (.app (.app .left))))))) ?_;intro F;refine aa.eq (yI h0 (bX.1 nw) (λd hd=>(hv _ _ hd).1) (h01 _)) (⟨.refl _,?_⟩);intro F2;refine aa.eq (yI h0 (bX.1 hhl) (λd hd=>(hv _ _ hd).1) (h01 _)) (⟨.refl _,?_⟩);refine⟨_,_,_,rfl,rfl,?_⟩;have hmin:(if((dep K.n (lv ah) K.N hi:Nat):Int)<((dep K.n (lv ah) K.N lo:Nat):Int)then((dep K.n (lv ah) K.N hi:Nat):Int)else((dep K.n (lv ah) K.N lo:Nat):Int))=((min (dep K.n (lv ah) K.N lo) (dep K.n (lv ah) K.N hi):Nat):Int):=by
  split<;>omega
 rw[hmin];refine ae.rI (aI.mk ?_);by_cases hm:min (dep K.n (lv ah) K.N lo) (dep K.n (lv ah) K.N hi)<=ah.getD n 0
 ·rw[xam hm];exact JE.mk (Bg _ _ λgs=>Br.yes (bc.mk (.refl _) (by rw[hE,xae ⟨hne,hm⟩])))
 rw[xal hm];exact JE.mk (Bg _ _ λgs=>Br.no (bc.mk (.refl _) (by rw[hE,xab (λh=>hm h.2)])))
theorem Kh(h:cT kp K ord ah tr C){v lo hi:Nat}(hv:v<K.n):
  Rd zQ 244 #[ptr kp,iv (v:Int),u32 lo,u32 hi] C (· =if lo=hi then .tuple #[u32 lo,.bool true]else .tuple #[u32 ((K.T ⟨v,lo,hi⟩).getD 0),.bool (K.T ⟨v,lo,hi⟩).isSome]):=by
 obtain⟨b,rfl,hO⟩:=h;refine aF λg=>ID ?_;refine ae.eO (Br.dec (λhe=>bc.mk (.refl _) (by rw[xae he])) (λhe=>?_));refine Nil.ptr (ai.mk (Ld.f ?_));refine Build.mk (cs:=bu ⟨v,lo,hi⟩) zK ?_;exact aa.eq (uj (d:=⟨v,lo,hi⟩) hO.ut hv) (Ext.mk rfl (Ext.mk rfl (bc.mk (.refl _) (by rw[xab he];rfl))))
theorem vA(h:cT kp K ord ah tr C){r:Nat}(hr:r<4294967296)(hb:∀s,K.hold s<2147483648):Rd zQ 198 #[ptr kp,u32 r] C (· =iv ((K.hold r:Nat):Int)):=by
 obtain⟨b,rfl,hO⟩:=h;refine aF λg=>IV ?_;refine ae.aD (cf.or (decide (K.ho.length<=r)) (λ_=>?_) zI λ_=>?_)
 ·refine br.q (Nil.ptr (ai.mk (Ld.f ?_)));refine hO.ho.bP ?_;rw[ak];exact ae.rI ⟨rfl,rfl⟩
 rw[xdw];refine Br.dec (λhge=>?_) (λhlt=>?_)
 ·refine bc.mk (.refl _) ?_;unfold Kd.hold;rw[List.getD,xaD hge];rfl
 refine Nil.ptr (ai.mk (Ld.f ?_));refine hO.ho.ld (x:=((K.hold r:Nat):Int)) (bH zO) (bG.sub (.cons (.app (.app (.app .left))))) ?_;exact br.nat (by have:=hb r;simp[bF];omega) (bc.mk (.refl _) rfl)
theorem UX(h:cT kp K ord ah tr C)(h2:2<=K.used)(hu:K.used<=1048576):Rd zQ 140 #[ptr kp] C (· =iv ((K.used-2:Nat):Int)):=by
 obtain⟨b,rfl,hO⟩:=h;refine aF λg=>Jp ?_;refine ae.aD (Br.no (Nil.ptr (ai.mk (Ld.f ?_))));exact aa.eq (DI hO.ar) (ae.xx (b:=2) (by simp[bF];omega) h2 (bc.mk (.refl _) rfl))
theorem MO(h:cT kp K ord ah tr C):Rd zQ 271 #[ptr kp] C (· =iv ((tr.length:Nat):Int)):=by
 obtain⟨b,rfl,hO⟩:=h;refine aF λg=>Ic ?_;refine ae.aD (Br.no (Nil.ptr (Ld.f ?_)));refine hO.tr.bP ?_;rw[ak];exact bc.mk (.refl _) rfl
theorem gM(h:cT kp K ord ah tr C):Rd zQ 185 #[ptr kp] C (· =iv ((K.n:Nat):Int)):=by
 obtain⟨b,rfl,hO⟩:=h;refine aF λg=>I8 ?_;refine ae.aD (Br.no (Nil.ptr (Ld.f ?_)));exact bc.mk (.refl _) rfl
theorem iS(h:cT kp K ord ah tr C){r:Nat}(hr:r<4294967296):Rd zQ 249 #[ptr kp,u32 r] C (· =.tuple #[.agg (got K.N r).toArray,iv (if gD K.N r then 0 else 3)]):=by
 have h0:=h;obtain⟨b,rfl,hO⟩:=h;refine aF λg=>Iy ?_;intro b1 _;refine ae.aD (Br.no (Nil.ptr (ai.mk (aa.eq (nQ h0 hr) (Un.not ?_)))));cases hb:gD K.N r with
 |false=>
  refine Br.yes (Build.mk (cs:=[iv 0,.int .u32 0,.int .u32 0]) zK ?_);refine St.q ?_;refine ay.q ?_;exact bc.mk .tail (by rw[C9 hb];rfl)
 |true=>
  refine Br.no (Nil.ptr (ai.mk (aa.eq (nP h0 hr) (St.whole (r:=got K.N r) (by exact .head _) rfl (aR _ _).1 (aR _ _).2 ?_))));refine ay.whole (r:=got K.N r) (by exact .head _) (aR _ _).1 ?_;exact bc.mk .tail rfl
end
theorem wj{B:Hp}{v:zV}{l:List Int}(h:dA .i64 B v l)(hl:l.length<=1099511627776):Fc zQ 71 #[v] B (λr H=>∃C,H=C++B/\aQ 3 .i64 r l C):=by
 refine aF λg=>Ol ?_;obtain⟨a,c,rfl,hc⟩:=h.shape;refine⟨.bool a.isNone,by simp[gY],?_⟩;refine Br.mk (λha=>?_) (λha=>?_)
 ·have:l=[]:=by
   rcases h.2 with⟨_,_,h1,h2⟩|⟨b,o,cap,cs,T,fz,h1,_⟩
   ·simpa using h2
   simp at h1;rw[h1.1]at ha;simp at ha
  subst this;exact aN.here ⟨[],rfl,aQ.nil⟩
 refine av.none (z:=iv 0) (e:=3) (k:=1) zK zK zK λb=>?_;refine(aQ.made (T:=3) (kd:=.i64) (b:=b) []).Xr (l2:=l) .left ((show dA .i64 B _ l from h).mono λ_ h=>.tail _ h) zP zP λv' C' ho=>?_;exact aN.here ⟨C',rfl,by simpa using ho⟩
theorem yC{kp:Nat}{K:Kd}{ord ah tr:zL}{C:Hp}(h:cT kp K ord ah tr C):Fc zQ 65 #[ptr kp] C (λr H=>∃N,H=N++C/\aQ 3 .i64 r (iw ord) N):=by
 obtain⟨b,rfl,hO⟩:=h;refine aF λg=>Oq ?_;refine ae.aD (Br.no (Nil.ptr (Ld.f ?_)));refine aa.fq (wj (hO.od.ints.mono (bG.sub (.cons (.app (.app (.app (.app .left))))))) (by have:=hO.ol.1;have:=hO.lq;simp;omega)) ?_;rintro v C' ⟨N,rfl,ho⟩;exact aN.here ⟨N,rfl,ho⟩
end
section
def zv(x r:Nat):Prop:=x<2^r/\(r=0\/2^(r-1)<=x)
theorem zv.up{x s t:Nat}(h:zv (x>>>s) t)(h0:s=0\/x>>>s≠0):zv x (s+t):=by
 rw[xaZ]at h h0;have hp:=xbw s;refine⟨?_,?_⟩
 ·have:=h.1;rw[Nat.div_lt_iff_lt_mul hp]at this;rw[xdx,xcn];exact this
 rcases h.2 with h2|h2
 ·subst h2;have:=h.1;rcases h0 with h0|h0
  ·exact .inl zO
  rw[Nat.pow_zero]at this;exact absurd (Nat.lt_one_iff.1 this) h0
 by_cases ht:t=0
 ·subst ht;rcases h0 with h0|h0
  ·exact .inl zO
  have:=h.1;rw[Nat.pow_zero]at this;exact absurd (Nat.lt_one_iff.1 this) h0
 right;have:=(Nat.le_div_iff_mul_le hp).1 h2;rw[show s+t-1=(t-1)+s by omega,xdx];exact this
theorem UR:∀y:Fin 256,∃b:UInt8,(ByteArray.mk #[0,1,2,2,3,3,3,3,4,4,4,4,4,4,4,4,5,5,5,5,5,5,5,5,5,5,5,5,5,5,5,5,6,6,6,6,6,6,6,6,6,6,6,6,6,6,6,6,6,6,6,6,6,6,6,6,6,6,6,6,6,6,6,6,7,7,7,7,7,7,7,7,7,7,7,7,7,7,7,7,7,7,7,7,7,7,7,7,7,7,7,7,7,7,7,7,7,7,7,7,7,7,7,7,7,7,7,7,7,7,7,7,7,7,7,7,7,7,7,7,7,7,7,7,7,7,7,7,8,8,8,8,8,8,8,8,8,8,8,8,8,8,8,8,8,8,8,8,8,8,8,8,8,8,8,8,8,8,8,8,8,8,8,8,8,8,8,8,8,8,8,8,8,8,8,8,8,8,8,8,8,8,8,8,8,8,8,8,8,8,8,8,8,8,8,8,8,8,8,8,8,8,8,8,8,8,8,8,8,8,8,8,8,8,8,8,8,8,8,8,8,8,8,8,8,8,8,8,8,8,8,8,8,8,8,8,8,8,8,8,8,8,8,8,8,8,8,8,8,8,8,8,8,8,8,8])[y.1]? =some b/\(y.1<2^b.toNat/\(b.toNat=0\/2^(b.toNat-1)<=y.1)):=by
 have h:∀y:Fin 256,(match(ByteArray.mk #[0,1,2,2,3,3,3,3,4,4,4,4,4,4,4,4,5,5,5,5,5,5,5,5,5,5,5,5,5,5,5,5,6,6,6,6,6,6,6,6,6,6,6,6,6,6,6,6,6,6,6,6,6,6,6,6,6,6,6,6,6,6,6,6,7,7,7,7,7,7,7,7,7,7,7,7,7,7,7,7,7,7,7,7,7,7,7,7,7,7,7,7,7,7,7,7,7,7,7,7,7,7,7,7,7,7,7,7,7,7,7,7,7,7,7,7,7,7,7,7,7,7,7,7,7,7,7,7,8,8,8,8,8,8,8,8,8,8,8,8,8,8,8,8,8,8,8,8,8,8,8,8,8,8,8,8,8,8,8,8,8,8,8,8,8,8,8,8,8,8,8,8,8,8,8,8,8,8,8,8,8,8,8,8,8,8,8,8,8,8,8,8,8,8,8,8,8,8,8,8,8,8,8,8,8,8,8,8,8,8,8,8,8,8,8,8,8,8,8,8,8,8,8,8,8,8,8,8,8,8,8,8,8,8,8,8,8,8,8,8,8,8,8,8,8,8,8,8,8,8,8,8,8,8,8,8])[y.1]? with|some b=>decide (y.1<2^b.toNat/\(b.toNat=0\/2^(b.toNat-1)<=y.1))|none=>false)=true:=by decide+kernel
 intro y;have:=h y;split at this
 ·rename_i b hb;exact⟨b,hb,by simpa using this⟩
 cases this
theorem Qx{x:Nat}(hx:x<18446744073709551616)(B:Hp):Rd zQ 222 #[.int .u64 (x:Int)] B (λv=>∃r:Nat,zv x r/\v=iv (r:Int)):=by
 refine aF λg=>IF ?_;intro J1 hJ1;have h1:∀s,s<=32->x>>>s<4294967296->(s=0\/x>>>s≠0)->J1 [.int .u64 ((x>>>s:Nat):Int),iv (s:Int)] B:=by
  intro s hs hlt h0;refine hJ1 _ _ _ λgs=>?_;intro J2 Bg;have h2:∀s,s<=48->x>>>s<65536->(s=0\/x>>>s≠0)->J2 [.int .u64 ((x>>>s:Nat):Int),iv (s:Int)] B:=by
   intro s hs hlt h0;refine Bg _ _ _ λgs=>?_;intro J3 hJ3;have h3:∀s,s<=56->x>>>s<256->(s=0\/x>>>s≠0)->J3 [.int .u64 ((x>>>s:Nat):Int),iv (s:Int)] B:=by
    intro s hs hlt h0;refine hJ3 _ _ _ λgs=>?_;refine br.nat (show x>>>s<256 from hlt) ?_;obtain⟨b,hb,hl⟩:=UR ⟨x>>>s,hlt⟩;refine⟨_,_,_,b,rfl,rfl,xdd _,by rw[xbe];exact hb,?_⟩;have YS:b.toNat<256:=b.toNat_lt;exact br.q (ae.fH (bc.mk (.refl _) ⟨s+b.toNat,zv.up (t:=b.toNat) hl h0,rfl⟩))
   refine ae.rI (b:=256) (Br.dec (λhge=>?_) (λhge=>JE.mk (h3 s zO zO h0)));refine ae.iL (b:=8) (by simp only[bF];omega) (ae.fH (b:=8) ?_);rw[<-xdH];have e:x>>>(s+8)=x>>>s/256:=by rw[xdH,xaZ (x>>>s) 8]
   exact JE.mk (h3 (s+8) zO zO (.inr zO))
  refine ae.rI (b:=65536) (Br.dec (λhge=>?_) (λhge=>JE.mk (h2 s zO zO h0)));refine ae.iL (b:=16) (by simp only[bF];omega) (ae.fH (b:=16) ?_);rw[<-xdH];have e:x>>>(s+16)=x>>>s/65536:=by rw[xdH,xaZ (x>>>s) 16]
  exact JE.mk (h2 (s+16) zO zO (.inr zO))
 refine ae.rI (b:=4294967296) (Br.dec (λhge=>?_) (λhge=>JE.mk (h1 0 zO zP (.inl rfl))));refine ae.iL (b:=32) (by simp only[bF];exact hx) ?_;have e:x>>>32=x/4294967296:=by rw[xaZ]
 exact JE.mk (h1 32 zO zO (.inr zO))
end
end Go.Proofs
namespace Go.Sx
open Go
section
variable {P:Program} {H C:Hp} {c:Hp->Hp}
theorem bG.re(h:bG C H c)(X:Hp):bG X (c X) c:=by
 induction h with
 |here=>exact .here
 |left=>exact .left
 |cons _ ih=>exact .cons ih
 |app _ ih=>exact .app ih
theorem swap_perm{l:List Int}{i j:Nat}{x y:Int}(hi:l[i]? =some x)(hj:l[j]? =some y):((l.set i y).set j x).Perm l:=by
 have h1:=(xah.1 hi).1;have h2:=(xah.1 hj).1;rw[xcu];intro a;by_cases e:i=j
 ·subst e;rw[hi]at hj;cases hj;rw[List.set_set];have:l.set i x=l:=by
   have hx:l[i]=x:=by rw[xaa h1]at hi;exact xbm hi
   rw[<-hx];exact List.set_getElem_self h1
  rw[this]
 have hx:l[i]=x:=by rw[xaa h1]at hi;exact xbm hi
 have hy:l[j]=y:=by rw[xaa h2]at hj;exact xbm hj
 rw[xdL (by simpa using h2),xdL h1];have:(l.set i y)[j]'(by simpa using h2)=y:=by rw[List.getElem_set_ne e];exact hy
 rw[this,hx];have c1:l.count x≥1:=List.one_le_count_iff.2 (hx▸xaG h1);have c2:l.count y≥1:=List.one_le_count_iff.2 (hy▸xaG h2);by_cases e1:x=a
 ·subst e1;by_cases e2:y=x
  ·subst e2;simp<;>omega
  simp[e2,xa8 e2]<;>omega
 by_cases e2:y=a
 ·subst e2;simp[e1]<;>omega
 simp[e1,e2]<;>omega
def up1(vs:List zV):Nat:=match vs with
 | .int _ q::_=>(q+1).toNat
 |_=>0
theorem zy{k:IntKind}{q:Int}{r:List zV}:up1 (.int k q::r)=(q+1).toNat:=rfl
end
end Go.Sx
namespace Go.Sx
open Go
abbrev cz:=Sort.ltInt
section
variable {P:Program} {H C:Hp} {c:Hp->Hp} {T:TypeId} {kd xF k1 k2 k3 k4:IntKind} {v:zV} {d:Array Int}
def Da(T:TypeId)(kd:IntKind)(v:zV)(d:Array Int)(C:Hp):Prop:=aQ T kd v d.toList C
theorem Zn(d:Array Int){i:Nat}(hi:i<d.size):d.toList[i]? =some d[i]! :=by
 rw[xbc,getElem!_pos d i hi];exact xbA hi
theorem Pr(d:Array Int)(i j:Nat):(Sort.swp d i j).toList=(d.toList.set i d[j]!).set j d[i]! :=by
 unfold Sort.swp;rw[Array.toList_setIfInBounds,Array.toList_setIfInBounds]
theorem Da.ld(h:Da T kd v d C)(hC:∀y∈C,y∈H){i:Nat}(hi:i<d.size){K:zV->Prop}(hk:K (.int kd d[i]!)):au 1 v (.int xF (i:Int)) λp=>Ld H p K:=
 aQ.ld h (Zn d hi) hC hk
theorem Da.WB(h:Da T kd v d C)(hh:bG C H c){i j:Nat}(hi:i<d.size)(hj:j<d.size){B:(zV->Prop)->Prop}
 (hB:∀k:zV->Prop,k (.int k2 (i:Int))->B k){K:Hp->Prop}(hk:∀C',Da T kd v (Sort.swp d i j) C'->K (c C')):
  au 1 v (.int k1 (j:Int)) λp1=>Ld H p1 λx=>B λu=>au 1 v u λp2=>Ld H p2 λy=>au 1 v (.int k3 (i:Int)) λp3=>St 1 H p3 x λH1=>au 1 v (.int k4 (j:Int)) λp4=>St 1 H1 p4 y K:=by
 refine h.ld hh.sub hj (hB _ ?_);refine h.ld hh.sub hi ?_;refine aQ.nj h hh (by rw[xcf];exact hi) λC1 h1=>?_;refine h1.nj (hh.re C1) (by rw[xbN,xcf];exact hj) λC2 h2=>?_;exact hk C2 (by unfold Da;rw[Pr];exact h2)
theorem Da.swap(h:Da T kd v d C)(hh:bG C H c){i j:Nat}(hi:i<d.size)(hj:j<d.size){K:Hp->Prop}(hk:∀C',Da T kd v (Sort.swp d i j) C'->K (c C')):
  au 1 v (.int k1 (j:Int)) λp1=>Ld H p1 λx=>au 1 v (.int k2 (i:Int)) λp2=>Ld H p2 λy=>au 1 v (.int k3 (i:Int)) λp3=>St 1 H p3 x λH1=>au 1 v (.int k4 (j:Int)) λp4=>St 1 H1 p4 y K:=
 h.WB (B:=λk=>k _) hh hi hj (λ_ h=>h) hk
end
theorem iZ{d:Array Int}{n i j:Nat}(h:d.size=n):(Sort.swp d i j).size=n:=(Sort.size_swp d i j).trans h
theorem QN{a j:Nat}{e:Array Int}(h:¬a<j):Sort.insInner cz a j e=e:=by
 cases j with
 |zero=>rfl
 |succ j=>rw[Sort.insInner,xab zP]
theorem QO{a j:Nat}{e:Array Int}(h:a<j):Sort.insInner cz a j e=if cz e[j]! e[j-1]! =true then Sort.insInner cz a (j-1) (Sort.swp e j (j-1))else e:=by
 obtain⟨j,rfl⟩:∃k,j=k+1:=⟨j-1,by omega⟩;rw[Sort.insInner,xam h,xcq];rfl
theorem Nn{j:Nat}{e:Array Int}(h:¬1<=j):Sort.shiftDown cz j e=e:=by
 obtain rfl:j=0:=by omega
 rfl
theorem sD{j:Nat}{e:Array Int}(h:1<=j):Sort.shiftDown cz j e=if(!cz e[j]! e[j-1]!)=true then e else Sort.shiftDown cz (j-1) (Sort.swp e j (j-1)):=by
 obtain⟨j,rfl⟩:∃k,j=k+1:=⟨j-1,by omega⟩;rw[Sort.shiftDown];rfl
theorem fA{p:Int->Bool}{d:Array Int}{i j:Nat}(h:0<j):Sort.scanDown p d i j=if(decide (i<=j) &&p d[j]!)=true then Sort.scanDown p d i (j-1)else j:=by
 obtain⟨j,rfl⟩:∃k,j=k+1:=⟨j-1,by omega⟩;rw[Sort.scanDown];rfl
theorem Ma{hi f r:Nat}{d:Array Int}(h:hi<=2*r+1):Sort.siftDown cz hi f r d=d:=by
 rw[Sort.siftDown,xd8 h]
theorem T9{hi f r c:Nat}{d:Array Int}(h:2*r+1<hi)(hc:c=if(decide (2*r+1+1<hi) &&cz d[f+(2*r+1)]! d[f+(2*r+1)+1]!)=true then 2*r+2 else 2*r+1):
  Sort.siftDown cz hi f r d=if(!cz d[f+r]! d[f+c]!)=true then d else Sort.siftDown cz hi f c (Sort.swp d (f+r) (f+c)):=by
 rw[Sort.siftDown,dif_neg zO];split at hc
 ·rename_i hb;subst hc;rw[xae hb];rw[xav,xaA]at hb;split
  ·rfl
  rw[xd8 hb.1]
 rename_i hb;subst hc;rw[xab hb]
theorem Ke(hi f r:Nat)(d:Array Int):(Sort.siftDown cz hi f r d).size=d.size:=by
 fun_induction Sort.siftDown cz hi f r d<;>simp_all[Sort.size_swp]
end Go.Sx
set_option maxRecDepth 100000
namespace Go.Proofs
open Go Go.Sx
section
structure Zv where
 nan:Nat
 less:Nat
 CB:Nat
 Mb:Nat
 heap:Nat
 rev:Nat
 pins:Nat
 uY:Nat
 part:Nat
 brk:Nat
 EV:Nat
 ZS:Nat
 E4:Nat
 piv:Nat
 XS:Nat
section
variable (zs:Zv)
variable {g:Gh} {a0 a1 a2 a3 a4 a5 a6 a7 a8 a9 tu tt a12 a13 a14 a15:zV} {H:Hp} {R:Rt}
def L9000:Y1:=λ_ a b c=>lN a a λa=>rt c a b
def L9001:Y2:=λa b c d e=>∀f:Jt,(∀g:zV,∀h:Hp,(∀_:Fr,
rt e g h)->f [g] h)->CF a zs.nan #[b] d (λd g=>Split d true (CF a zs.nan #[c] g (λa d=>Un .not a λa=>aI vT a vF λa=>Split a false (lL b c λa=>aI vF vT a λa=>JE f [a] d) (aI vT vT undef λa=>JE f [a] d)) (dz e)) (aI vF undef vF λa=>lL b c λb=>aI a vT b λa=>JE f [a] g)) (dz e)
def L9002:Y3:=λa b c d e f=>lA c (iv 1) λg=>∃(h:Jt) (i:Mt),JE h [g] e/\∀e:zV,∀g:Hp,h [e] g->∀_:Fr,
lL e d λd=>Br d (∃(d:Jt) (j:Mt),JE d [e] g/\∀k:zV,∀l:Hp,d [k] l->∀_:Fr,
∀m:Jt,(∀n:zV,∀o:Hp,(∀_:Fr,
Br n (DR o λp=>lS k (iv 1) λq=>lS k (iv 1) λr=>lI 1 b r p λr=>lI 1 b k p λp=>au 1 b k λs=>St 1 o s r λr=>au 1 b q λq=>St 1 r q p λp=>lS k (iv 1) λq=>aC d j [q] p [k] l) (lA e (iv 1) λd=>aC h i [d] o [e] g))->m [n] o)->DR l λd=>lG k c λc=>Br c (lI 1 b k d λc=>lS k (iv 1) λe=>lI 1 b e d λb=>∀d:Hp,
CF (a.add d) zs.less #[c,b] l (λa b=>aI vT a vF λa=>JE m [a] b) fI) (JE m [vF] l)) (rt f (.tuple #[]) g)
def L9003:Y4:=λa b c d e f g=>∃(h:Jt) (i:Mt),JE h [c] f/\∀c:zV,∀f:Hp,h [c] f->∀_:Fr,
ae .num .mul (iv 2) c λj=>lA j (iv 1) λj=>ae .num .geq j d λk=>Br k (rt g (.tuple #[]) f) (∀k:Jt,(∀l:zV,∀m:Hp,(∀_:Fr,
DR m λn=>lA e c λo=>lI 1 b o n λo=>lA e l λp=>lI 1 b p n λn=>CF a zs.less #[o,n] m (λn o=>Un .not n λn=>Br n (rt g (.tuple #[]) o) (DR o λg=>lA e c λn=>lA e l λp=>lA e l λq=>lI 1 b q g λq=>lA e c λr=>lI 1 b r g λg=>au 1 b n λn=>St 1 o n q λn=>au 1 b p λo=>St 1 n o g λg=>aC h i [l] g [c] f)) fI)->k [l] m)->∀c:Jt,(∀g:zV,∀h:Hp,(∀_:Fr,
Br g (lA j (iv 1) λi=>JE k [i] h) (JE k [j] h))->c [g] h)->DR f λg=>lA j (iv 1) λh=>lL h d λd=>Br d (lA e j λd=>lI 1 b d g λd=>lA e j λe=>lA e (iv 1) λe=>lI 1 b e g λb=>∀e:Hp,
CF (a.add e) zs.less #[d,b] f (λa b=>aI vT a vF λa=>JE c [a] b) fI) (JE c [vF] f))
def L9004:Y3:=λa b c d e f=>lS d c λd=>lS d (iv 1) λg=>ae .num .quo g (iv 2) λg=>∃(h:Jt) (i:Mt),JE h [g] e/\∀e:zV,∀g:Hp,h [e] g->∀_:Fr,
ae .num .geq e (iv 0) λj=>Br j (CF a zs.Mb #[b,e,d,c] g (λ_ j=>lS e (iv 1) λk=>aC h i [k] j [e] g) (dz f)) (lS d (iv 1) λd=>∃(e:Jt) (h:Mt),JE e [d] g/\∀d:zV,∀g:Hp,e [d] g->∀_:Fr,
ae .num .geq d (iv 0) λi=>Br i (DR g λi=>lA c d λj=>lA c d λk=>lI 1 b k i λk=>lI 1 b c i λi=>au 1 b c λl=>St 1 g l k λk=>au 1 b j λj=>St 1 k j i λi=>CF a zs.Mb #[b,(iv 0),d,c] i (λ_ a=>lS d (iv 1) λb=>aC e h [b] a [d] g) (dz f)) (rt f (.tuple #[]) g))
def L9005:Y3:=λ_ a b c d e=>lS c (iv 1) λc=>∃(f:Jt) (g:Mt),JE f [b,c] d/\∀b c:zV,∀d:Hp,f [b,c] d->∀_:Fr,
lL b c λh=>Br h (DR d λh=>lI 1 a c h λi=>lI 1 a b h λh=>au 1 a b λj=>St 1 d j i λi=>au 1 a c λa=>St 1 i a h λa=>lA b (iv 1) λh=>lS c (iv 1) λi=>aC f g [h,i] a [b,c] d) (rt e (.tuple #[]) d)
def L9006:Y3:=λa b c d e f=>lA c (iv 1) λg=>∃(h:Jt) (i:Mt),JE h [g,(iv 0)] e/\∀e g:zV,∀j:Hp,h [e,g] j->∀_:Fr,
lL g (iv 5) λk=>Br k (∀k:Jt,(∀l:zV,∀m:Hp,(∀_:Fr,
lA g (iv 1) λn=>aC h i [l,n] m [e,g] j)->k [l] m)->∃(g:Jt) (h:Mt),JE g [e] j/\∀e:zV,∀i:Hp,g [e] i->∀_:Fr,
∀l:Jt,(∀m:zV,∀n:Hp,(∀_:Fr,
Br m (lA e (iv 1) λo=>aC g h [o] n [e] i) (lE e d λg=>Br g (rt f vT n) (lS d c λg=>lL g (iv 50) λg=>Br g (rt f vF n) (DR n λg=>lS e (iv 1) λh=>lS e (iv 1) λo=>lI 1 b o g λo=>lI 1 b e g λg=>au 1 b e λp=>St 1 n p o λo=>au 1 b h λh=>St 1 o h g λg=>∀h:Jt,(∀o:Hp,(∀_:Fr,
lS d e λp=>ae .num .geq p (iv 2) λp=>Br p (lA e (iv 1) λp=>∃(q:Jt) (r:Mt),JE q [p] o/\∀p:zV,∀s:Hp,q [p] s->∀_:Fr,
lL p d λt=>Br t (DR s λt=>lI 1 b p t λu=>lS p (iv 1) λv=>lI 1 b v t λt=>CF a zs.less #[u,t] s (λt u=>Un .not t λt=>Br t (JE k [e] u) (DR u λt=>lS p (iv 1) λv=>lS p (iv 1) λw=>lI 1 b w t λw=>lI 1 b p t λt=>au 1 b p λx=>St 1 u x w λu=>au 1 b v λv=>St 1 u v t λt=>lA p (iv 1) λu=>aC q r [u] t [p] s)) fI) (JE k [e] s)) (JE k [e] o))->h [] o)->lS e c λc=>ae .num .geq c (iv 2) λc=>Br c (lS e (iv 1) λc=>∃(k:Jt) (o:Mt),JE k [c] g/\∀c:zV,∀p:Hp,k [c] p->∀_:Fr,
ae .num .geq c (iv 1) λq=>Br q (DR p λq=>lI 1 b c q λr=>lS c (iv 1) λs=>lI 1 b s q λq=>CF a zs.less #[r,q] p (λq r=>Un .not q λq=>Br q (JE h [] r) (DR r λq=>lS c (iv 1) λs=>lS c (iv 1) λt=>lI 1 b t q λt=>lI 1 b c q λq=>au 1 b c λu=>St 1 r u t λr=>au 1 b s λs=>St 1 r s q λq=>lS c (iv 1) λr=>aC k o [r] q [c] p)) fI) (JE h [] p)) (JE h [] g)))))->l [m] n)->DR i λc=>lL e d λd=>Br d (lI 1 b e c λd=>lS e (iv 1) λe=>lI 1 b e c λb=>∀c:Hp,
CF (a.add c) zs.less #[d,b] i (λa b=>Un .not a λa=>aI vT a vF λa=>JE l [a] b) fI) (JE l [vF] i)) (rt f vF j)
def L9007:Y4:=λa b c d e f g=>DR f λh=>lI 1 b e h λi=>lI 1 b c h λh=>au 1 b c λj=>St 1 f j i λf=>au 1 b e λe=>St 1 f e h λe=>lA c (iv 1) λf=>lS d (iv 1) λd=>∃(h:Jt) (i:Mt),JE h [f,d] e/\∀d e:zV,∀f:Hp,h [d,e] f->∀_:Fr,
∃(j:Jt) (k:Mt),JE j [d] f/\∀l:zV,∀m:Hp,j [l] m->∀_:Fr,
∀n:Jt,(∀o:zV,∀p:Hp,(∀_:Fr,
Br o (lA l (iv 1) λq=>aC j k [q] p [l] m) (∃(j:Jt) (k:Mt),JE j [e] p/\∀q:zV,∀r:Hp,j [q] r->∀_:Fr,
∀s:Jt,(∀t:zV,∀u:Hp,(∀_:Fr,
Br t (lS q (iv 1) λv=>aC j k [v] u [q] r) (lG l q λj=>Br j (rt g l u) (DR u λg=>lI 1 b q g λj=>lI 1 b l g λg=>au 1 b l λk=>St 1 u k j λj=>au 1 b q λk=>St 1 j k g λg=>lA l (iv 1) λj=>lS q (iv 1) λk=>aC h i [j,k] g [d,e] f)))->s [t] u)->DR r λd=>ae .num .leq l q λf=>Br f (lI 1 b c d λf=>lI 1 b q d λd=>∀g:Hp,
CF (a.add g) zs.less #[f,d] r (λd f=>aI vT d vF λd=>JE s [d] f) fI) (JE s [vF] r)))->n [o] p)->DR m λd=>ae .num .leq l e λe=>Br e (lI 1 b c d λc=>lI 1 b l d λb=>∀d:Hp,
CF (a.add d) zs.less #[c,b] m (λa b=>Un .not a λa=>aI vT a vF λa=>JE n [a] b) fI) (JE n [vF] m)
def L9008:Y4:=λa b c d e f g=>DR f λh=>lI 1 b e h λi=>lI 1 b c h λh=>au 1 b c λj=>St 1 f j i λf=>au 1 b e λe=>St 1 f e h λe=>lA c (iv 1) λf=>lS d (iv 1) λd=>∃(h:Jt) (i:Mt),JE h [f] e/\∀e:zV,∀f:Hp,h [e] f->∀_:Fr,
∀j:Jt,(∀k:zV,∀l:Hp,(∀_:Fr,
Br k (lA e (iv 1) λm=>aC h i [m] l [e] f) (∃(h:Jt) (i:Mt),JE h [d] l/\∀m:zV,∀n:Hp,h [m] n->∀_:Fr,
∀o:Jt,(∀p:zV,∀q:Hp,(∀_:Fr,
Br p (lS m (iv 1) λr=>aC h i [r] q [m] n) (lG e m λh=>Br h (DR q λh=>lI 1 b c h λi=>lI 1 b m h λh=>au 1 b m λr=>St 1 q r i λi=>au 1 b c λr=>St 1 i r h λh=>rt g (tP m vT) h) (DR q λh=>lI 1 b m h λi=>lI 1 b e h λh=>au 1 b e λr=>St 1 q r i λi=>au 1 b m λr=>St 1 i r h λh=>lA e (iv 1) λi=>lS m (iv 1) λr=>∃(s:Jt) (t:Mt),JE s [i,r] h/\∀h i:zV,∀r:Hp,s [h,i] r->∀_:Fr,
∃(u:Jt) (v:Mt),JE u [h] r/\∀w:zV,∀x:Hp,u [w] x->∀_:Fr,
∀y:Jt,(∀z:zV,∀A:Hp,(∀_:Fr,
Br z (lA w (iv 1) λB=>aC u v [B] A [w] x) (∃(u:Jt) (v:Mt),JE u [i] A/\∀B:zV,∀C:Hp,u [B] C->∀_:Fr,
∀D:Jt,(∀E:zV,∀F:Hp,(∀_:Fr,
Br E (lS B (iv 1) λG=>aC u v [G] F [B] C) (lG w B λu=>Br u (DR F λu=>lI 1 b c u λv=>lI 1 b B u λu=>au 1 b B λG=>St 1 F G v λv=>au 1 b c λG=>St 1 v G u λu=>rt g (tP B vF) u) (DR F λg=>lI 1 b B g λu=>lI 1 b w g λg=>au 1 b w λv=>St 1 F v u λu=>au 1 b B λv=>St 1 u v g λg=>lA w (iv 1) λu=>lS B (iv 1) λv=>aC s t [u,v] g [h,i] r)))->D [E] F)->DR C λg=>ae .num .leq w B λh=>Br h (lI 1 b B g λh=>lI 1 b c g λg=>∀r:Hp,
CF (a.add r) zs.less #[h,g] C (λg h=>Un .not g λg=>aI vT g vF λg=>JE D [g] h) fI) (JE D [vF] C)))->y [z] A)->DR x λg=>ae .num .leq w i λh=>Br h (lI 1 b w g λh=>lI 1 b c g λg=>∀i:Hp,
CF (a.add i) zs.less #[h,g] x (λg h=>aI vT g vF λg=>JE y [g] h) fI) (JE y [vF] x))))->o [p] q)->DR n λg=>ae .num .leq e m λh=>Br h (lI 1 b m g λh=>lI 1 b c g λg=>∀i:Hp,
CF (a.add i) zs.less #[h,g] n (λg h=>Un .not g λg=>aI vT g vF λg=>JE o [g] h) fI) (JE o [vF] n)))->j [k] l)->DR f λg=>ae .num .leq e d λd=>Br d (lI 1 b e g λd=>lI 1 b c g λb=>∀c:Hp,
CF (a.add c) zs.less #[d,b] f (λa b=>aI vT a vF λa=>JE j [a] b) fI) (JE j [vF] f)
def L9009:Y3:=λa b c d e f=>lS d c λd=>ae .num .geq d (iv 8) λg=>Br g (br .u64 d λg=>lQ 1 e #[(wi 0)] 371 g λg h=>CR f a 304 #[d] h λh i=>ae .num .quo d (iv 4) λj=>ae .num .mul j (iv 2) λj=>lA c j λj=>lS j (iv 1) λj=>∃(k:Jt) (l:Mt),JE k [j] i/\∀i:zV,∀j:Hp,k [i] j->∀_:Fr,
ae .num .quo d (iv 4) λm=>ae .num .mul m (iv 2) λm=>lA c m λm=>lA m (iv 1) λm=>ae .num .leq i m λm=>Br m (CR f a 305 #[(pt g)] j λa g=>lS h (wi 1) λh=>ae .num .and a h λa=>br .i64 a λa=>∀h:Jt,(∀m:zV,∀n:Hp,(∀_:Fr,
DR n λo=>lA c m λp=>lA c m λc=>lI 1 b c o λc=>lI 1 b i o λo=>au 1 b i λq=>St 1 n q c λc=>au 1 b p λb=>St 1 c b o λb=>lA i (iv 1) λc=>aC k l [c] b [i] j)->h [m] n)->ae .num .geq a d λb=>Br b (lS a d λb=>JE h [b] g) (JE h [a] g)) (rt f (.tuple #[]) j)) (rt f (.tuple #[]) e)
def L9010:Y4:=λa b c d e f g=>DR f λh=>lI 1 b d h λi=>lI 1 b c h λb=>CF a zs.less #[i,b] f (λa b=>Br a (Nil e λa=>Ld b a λa=>lA a (iv 1) λa=>Nil e λe=>St 1 b e a λa=>rt g (tP d c) a) (rt g (tP c d) b)) fI
def L9011:Y5:=λa b c d e f g h=>CF a zs.EV #[b,c,d,f] g (λc d=>lX c λc g=>CF a zs.EV #[b,g,e,f] d (λd e=>lX d λd _=>CF a zs.EV #[b,c,d,f] e (λa b=>lX a λ_ a=>rt h a b) (dz h)) (dz h)) (dz h)
def L9012:Y3:=λa b c d e f=>lS c (iv 1) λg=>lA c (iv 1) λh=>CF a zs.ZS #[b,g,c,h,d] e (λa b=>rt f a b) (dz f)
def L9013:Y3:=λa b c d e f=>lS d c λd=>lW e #[(iv 0)] 3 λe g=>ae .num .quo d (iv 4) λh=>ae .num .mul h (iv 1) λh=>lA c h λh=>ae .num .quo d (iv 4) λi=>ae .num .mul i (iv 2) λi=>lA c i λi=>ae .num .quo d (iv 4) λj=>ae .num .mul j (iv 3) λj=>lA c j λc=>∀j:Jt,(∀k:zV,∀l:Hp,(∀_:Fr,
Ld l (pt e) λm=>lE m (iv 0) λn=>Br n (rt f (tP k (iv 1)) l) (lE m (iv 12) λm=>Br m (rt f (tP k (iv 2)) l) (rt f (tP k (iv 0)) l)))->j [k] l)->ae .num .geq d (iv 8) λk=>Br k (∀k:Jt,(∀l m n:zV,∀o:Hp,(∀_:Fr,
CF a zs.ZS #[b,l,m,n,(pt e)] o (λp q=>JE j [p] q) (dz f))->k [l,m,n] o)->ae .num .geq d (iv 50) λd=>Br d (CF a zs.E4 #[b,h,(pt e)] g (λd l=>CF a zs.E4 #[b,i,(pt e)] l (λl m=>CF a zs.E4 #[b,c,(pt e)] m (λa b=>JE k [d,l,a] b) (dz f)) (dz f)) (dz f)) (JE k [h,i,c] g)) (JE j [i] g)
def L9014:Y4:=λa b c d e f g=>∃(h:Jt) (i:Mt),JE h [c,d,e,vT,vT] f/\∀c d e f j:zV,∀k:Hp,h [c,d,e,f,j] k->∀_:Fr,
lS d c λl=>ae .num .leq l (iv 12) λm=>Br m (CF a zs.CB #[b,c,d] k (λ_ m=>rt g (.tuple #[]) m) (dz g)) (lE e (iv 0) λm=>Br m (CF a zs.heap #[b,c,d] k (λ_ m=>rt g (.tuple #[]) m) (dz g)) (∀m:Jt,(∀n:zV,∀o:Hp,(∀_:Fr,
CF a zs.piv #[b,c,d] o (λp q=>lX p λp r=>∀s:Jt,(∀t u:zV,∀v:Hp,(∀_:Fr,
∀w:Jt,(∀x:Hp,(∀_:Fr,
∀y:Jt,(∀z:zV,∀A:Hp,(∀_:Fr,
Br z (CF a zs.uY #[b,c,d,t] A (λB C=>aC h i [B,d,n,f,j] C [c,d,e,f,j] k) (dz g)) (CF a zs.part #[b,c,d,t] A (λB C=>lX B λB D=>lS B c λE=>lS d B λF=>ae .num .quo l (iv 8) λl=>lL E F λG=>Br G (ae .num .geq E l λE=>CF a zs.XS #[b,c,B,n] C (λ_ G=>lA B (iv 1) λH=>aC h i [H,d,n,E,D] G [c,d,e,f,j] k) (dz g)) (ae .num .geq F l λl=>lA B (iv 1) λE=>CF a zs.XS #[b,E,d,n] C (λ_ C=>aC h i [c,B,n,l,D] C [c,d,e,f,j] k) (dz g))) (dz g)))->y [z] A)->DR x λh=>lG c (iv 0) λi=>Br i (lS c (iv 1) λi=>lI 1 b i h λi=>lI 1 b t h λh=>∀l:Hp,
CF (a.add l) zs.less #[i,h] x (λh i=>Un .not h λh=>aI vT h vF λh=>JE y [h] i) fI) (JE y [vF] x))->w [] x)->lU f (λh=>(lV v j h)) λh=>lU (Value.bool h) (λh=>lE u (iv 1) λi=>(lV v i h)) λh=>Br (Value.bool h) (CF a zs.pins #[b,c,d] v (λh i=>Br h (rt g (.tuple #[]) i) (JE w [] i)) (dz g)) (JE w [] v))->s [t,u] v)->lE r (iv 2) λh=>Br h (CF a zs.rev #[b,c,d] q (λ_ h=>lS d (iv 1) λi=>lS p c λj=>lS i j λi=>JE s [i,(iv 1)] h) (dz g)) (JE s [p,r] q)) (dz g))->m [n] o)->Un .not f λf=>Br f (CF a zs.brk #[b,c,d] k (λ_ a=>lS e (iv 1) λb=>JE m [b] a) (dz g)) (JE m [e] k)))
end
structure DW(zs:Zv):Prop where
 nan:∀{g:Gh} {a0:zV} {H:Hp} {R:Rt},L9000 g a0 H R->bC zQ g zs.nan #[a0] H R
 less:∀{g:Gh} {a0 a1:zV} {H:Hp} {R:Rt},L9001 zs g a0 a1 H R->bC zQ g zs.less #[a0,a1] H R
 CB:∀{g:Gh} {a0 a1 a2:zV} {H:Hp} {R:Rt},L9002 zs g a0 a1 a2 H R->bC zQ g zs.CB #[a0,a1,a2] H R
 Mb:∀{g:Gh} {a0 a1 a2 a3:zV} {H:Hp} {R:Rt},L9003 zs g a0 a1 a2 a3 H R->bC zQ g zs.Mb #[a0,a1,a2,a3] H R
 heap:∀{g:Gh} {a0 a1 a2:zV} {H:Hp} {R:Rt},L9004 zs g a0 a1 a2 H R->bC zQ g zs.heap #[a0,a1,a2] H R
 rev:∀{g:Gh} {a0 a1 a2:zV} {H:Hp} {R:Rt},L9005 g a0 a1 a2 H R->bC zQ g zs.rev #[a0,a1,a2] H R
 pins:∀{g:Gh} {a0 a1 a2:zV} {H:Hp} {R:Rt},L9006 zs g a0 a1 a2 H R->bC zQ g zs.pins #[a0,a1,a2] H R
 uY:∀{g:Gh} {a0 a1 a2 a3:zV} {H:Hp} {R:Rt},L9007 zs g a0 a1 a2 a3 H R->bC zQ g zs.uY #[a0,a1,a2,a3] H R
 part:∀{g:Gh} {a0 a1 a2 a3:zV} {H:Hp} {R:Rt},L9008 zs g a0 a1 a2 a3 H R->bC zQ g zs.part #[a0,a1,a2,a3] H R
 brk:∀{g:Gh} {a0 a1 a2:zV} {H:Hp} {R:Rt},L9009 g a0 a1 a2 H R->bC zQ g zs.brk #[a0,a1,a2] H R
 EV:∀{g:Gh} {a0 a1 a2 a3:zV} {H:Hp} {R:Rt},L9010 zs g a0 a1 a2 a3 H R->bC zQ g zs.EV #[a0,a1,a2,a3] H R
 ZS:∀{g:Gh} {a0 a1 a2 a3 a4:zV} {H:Hp} {R:Rt},L9011 zs g a0 a1 a2 a3 a4 H R->bC zQ g zs.ZS #[a0,a1,a2,a3,a4] H R
 E4:∀{g:Gh} {a0 a1 a2:zV} {H:Hp} {R:Rt},L9012 zs g a0 a1 a2 H R->bC zQ g zs.E4 #[a0,a1,a2] H R
 piv:∀{g:Gh} {a0 a1 a2:zV} {H:Hp} {R:Rt},L9013 zs g a0 a1 a2 H R->bC zQ g zs.piv #[a0,a1,a2] H R
 XS:∀{g:Gh} {a0 a1 a2 a3:zV} {H:Hp} {R:Rt},L9014 zs g a0 a1 a2 a3 H R->bC zQ g zs.XS #[a0,a1,a2,a3] H R
def zR:Zv:=⟨419,413,407,416,408,411,412,414,415,409,420,418,417,410,406⟩
theorem aas:DW zR:=⟨λh=>cq (hn:=.e) Tryz.func419 h zK,
 λh=>cq (hn:=(.n .e (.h 1 [4] [] .e .e))) Tryz.func413 h zK,
 λh=>cq (hn:=(.n .e (.n (.h 0 [6] [0,1,2] (.n .e (.n (.n (.n .e (.n (.h 0 [7] [0,1,2,6] (.n (.h 1 [30] [0,1,2,6,7] (.h 1 [] [] (.h 0 [0] [] (.h 0 [1] [] (.h 0 [2] [] (.h 2 [3] [] (.h 0 [4] [] (.h 0 [5] [] (.h 0 [6] [] (.h 0 [7] [] (.h 0 [8] [] (.h 0 [9] [] (.h 0 [10] [] (.h 0 [11] [] (.h 0 [12] [] (.h 0 [13] [] (.h 0 [14] [] .e .e) .e) .e) .e) .e) .e) .e) .e) .e) .e) .e) (.h 0 [4] [] (.h 0 [5] [] (.h 0 [6] [] (.h 0 [7] [] (.h 0 [8] [] (.h 0 [9] [] (.h 0 [10] [] (.h 0 [11] [] (.h 0 [12] [] (.h 0 [13] [] (.h 3 [14] [] .e .e) .e) .e) .e) .e) .e) .e) .e) .e) .e) .e)) .e) .e) .e) .e) .e) (.n (.n (.h 0 [0,1,2,3,4,5,6,7,8,9,10,11,12,13,14,15,16,17] [] .e .e) .e) .e)) .e) .e)) .e) .e)) .e) .e))) Tryz.func407 h zK,
 λh=>cq (hn:=(.n .e (.n (.h 0 [8] [0,2,3] (.n (.n .e (.n .e (.h 1 [9] [0,2,3,8] (.h 1 [36] [0,2,3,8,9] (.h 1 [] [] (.h 0 [0] [] (.h 0 [1] [] (.h 0 [2] [] (.h 0 [3] [] (.h 2 [4] [] (.h 0 [5] [] (.h 0 [6] [] (.h 0 [7] [] (.h 0 [8] [] (.h 0 [9] [] (.h 0 [10] [] (.h 0 [11] [] (.h 0 [12] [] (.h 0 [13] [] (.h 0 [14] [] (.h 0 [15] [] (.h 0 [16] [] (.h 0 [17] [] (.h 0 [18] [] (.h 0 [19] [] .e .e) .e) .e) .e) .e) .e) .e) .e) .e) .e) .e) .e) .e) .e) .e) (.h 0 [5] [] (.h 0 [6] [] (.h 0 [7] [] (.h 0 [8] [] (.h 0 [9] [] (.h 0 [10] [] (.h 0 [11] [] (.h 0 [12] [] (.h 0 [13] [] (.h 0 [14] [] (.h 0 [15] [] (.h 0 [16] [] (.h 0 [17] [] (.h 0 [18] [] (.h 3 [19] [] .e .e) .e) .e) .e) .e) .e) .e) .e) .e) .e) .e) .e) .e) .e) .e)) .e) .e) .e) .e) .e) .e) (.n (.n (.h 0 [0,1,2,3,4,5,6,7,8,9,10,11,12,13] [] .e .e) .e) (.n (.h 0 [0,1,2,3,4,5,6,7,8,9,10,11,12,13,14,15,16,17,18,19,20,21,22,23] [] .e .e) .e))))) .e) .e) .e))) Tryz.func416 h zK,
 λh=>cq (hn:=(.n .e (.n .e (.n .e (.n (.n .e (.n (.h 0 [9] [0,6,7,8] .e .e) .e)) (.n .e (.n (.h 0 [10] [0,6,7] (.n .e (.n (.n (.n (.h 0 [0,1,2,3,4,5,6,7,8,9,10,11,12,13,14,15,16,17,18,19] [] .e .e) .e) .e) .e)) .e) .e))))))) Tryz.func408 h zK,
 λh=>cq (hn:=(.n .e (.n .e (.n (.h 0 [6,7] [0] (.n .e (.n (.n (.h 0 [0,1,2,3,4,5,6,7,8,9,10,11,12,13,14,15] [] .e .e) .e) .e)) .e) .e)))) Tryz.func411 h zK,
 λh=>cq (hn:=(.n .e (.n .e (.n (.n .e (.n (.h 0 [7,8] [0,1,2] (.n .e (.h 1 [7] [0,1,2,8] (.n (.n (.n (.h 0 [7] [0,1,2,8] (.n (.h 1 [32] [0,1,2,7,8] (.h 1 [] [] (.h 0 [0] [] (.h 0 [1] [] (.h 0 [2] [] (.h 2 [3] [] (.h 0 [4] [] (.h 0 [5] [] (.h 0 [6] [] (.h 0 [7] [] (.h 0 [8] [] (.h 0 [9] [] (.h 0 [10] [] (.h 0 [11] [] (.h 0 [12] [] (.h 0 [13] [] (.h 0 [14] [] (.h 0 [15] [] .e .e) .e) .e) .e) .e) .e) .e) .e) .e) .e) .e) .e) (.h 0 [4] [] (.h 0 [5] [] (.h 0 [6] [] (.h 0 [7] [] (.h 0 [8] [] (.h 0 [9] [] (.h 0 [10] [] (.h 0 [11] [] (.h 0 [12] [] (.h 0 [13] [] (.h 0 [14] [] (.h 3 [15] [] .e .e) .e) .e) .e) .e) .e) .e) .e) .e) .e) .e) .e)) .e) .e) .e) .e) .e) .e) .e) .e) (.n .e (.n .e (.n (.h 0 [0,1,2,3,4,5,6,7,8,9,10,11,12,13,14,15,16,17] [] .e .e) (.h 1 [] [0,1,2,7,8] (.n .e (.n (.n .e (.n (.h 0 [9] [0,1,2,7,8] (.n .e (.n (.n (.n (.n (.h 0 [0,1,2,3,4,5,6,7,8,9,10] [] .e .e) .e) (.h 0 [0,1,2,3,4,5,6,7,8,9,10,11,12,13,14,15,16,17] [] .e .e)) .e) .e)) .e) .e)) .e)) (.n .e (.n (.n .e (.n (.h 0 [10] [0,1,2,7,8] (.n .e (.n (.n (.n (.n (.h 0 [0,1,2,3,4,5,6,7,8,9,10] [] .e .e) .e) (.h 0 [0,1,2,3,4,5,6,7,8,9,10,11,12,13,14,15,16,17] [] .e .e)) .e) .e)) .e) .e)) .e))))))) .e) .e)) .e) .e)) .e)))) Tryz.func412 h zK,
 λh=>cq (hn:=(.n .e (.n (.h 0 [0,1,2,3,4,5,6,7,8,9,10,11,12,13,14,15] [] .e .e) (.n .e (.n (.n (.h 0 [9,10] [0,1] (.n (.n (.n (.h 0 [9] [0,1,10] (.n (.h 1 [43] [0,1,9,10] (.h 1 [] [] (.h 0 [0] [] (.h 0 [1] [] (.h 0 [2] [] (.h 2 [3] [] (.h 0 [4] [] (.h 0 [5] [] (.h 0 [6] [] (.h 0 [7] [] (.h 0 [8] [] (.h 0 [9] [] (.h 0 [10] [] (.h 0 [11] [] (.h 0 [12] [] (.h 0 [13] [] (.h 0 [14] [] .e .e) .e) .e) .e) .e) .e) .e) .e) .e) .e) .e) (.h 0 [4] [] (.h 0 [5] [] (.h 0 [6] [] (.h 0 [7] [] (.h 0 [8] [] (.h 0 [9] [] (.h 0 [10] [] (.h 0 [11] [] (.h 0 [12] [] (.h 0 [13] [] (.h 3 [14] [] .e .e) .e) .e) .e) .e) .e) .e) .e) .e) .e) .e)) .e) .e) .e) .e) .e) .e) .e) .e) (.n (.n (.h 0 [10] [0,1,9] (.n (.h 1 [59] [0,1,9,10] (.h 1 [] [] (.h 0 [0] [] (.h 0 [1] [] (.h 0 [2] [] (.h 2 [3] [] (.h 0 [4] [] (.h 0 [5] [] (.h 0 [6] [] (.h 0 [7] [] (.h 0 [8] [] (.h 0 [9] [] (.h 0 [10] [] (.h 0 [11] [] (.h 0 [12] [] (.h 0 [13] [] .e .e) .e) .e) .e) .e) .e) .e) .e) .e) .e) (.h 0 [4] [] (.h 0 [5] [] (.h 0 [6] [] (.h 0 [7] [] (.h 0 [8] [] (.h 0 [9] [] (.h 0 [10] [] (.h 0 [11] [] (.h 0 [12] [] (.h 3 [13] [] .e .e) .e) .e) .e) .e) .e) .e) .e) .e) .e)) .e) .e) .e) .e) .e) .e) .e) .e) (.n .e (.n (.h 0 [0,1,2,3,4,5,6,7,8,9,10,11,12,13,14,15] [] .e .e) .e)))) .e) .e) .e) .e))))) Tryz.func414 h zK,
 λh=>cq (hn:=(.n .e (.n (.h 0 [0,1,2,3,4,5,6,7,8,9,10,11,12,13,14,15] [] .e .e) (.n .e (.n (.n (.h 0 [10] [0,1,11] (.n (.h 1 [43] [0,1,10,11] (.h 1 [] [] (.h 0 [0] [] (.h 0 [1] [] (.h 0 [2] [] (.h 2 [3] [] (.h 0 [4] [] (.h 0 [5] [] (.h 0 [6] [] (.h 0 [7] [] (.h 0 [8] [] (.h 0 [9] [] (.h 0 [10] [] (.h 0 [11] [] (.h 0 [12] [] (.h 0 [13] [] .e .e) .e) .e) .e) .e) .e) .e) .e) .e) .e) (.h 0 [4] [] (.h 0 [5] [] (.h 0 [6] [] (.h 0 [7] [] (.h 0 [8] [] (.h 0 [9] [] (.h 0 [10] [] (.h 0 [11] [] (.h 0 [12] [] (.h 3 [13] [] .e .e) .e) .e) .e) .e) .e) .e) .e) .e) .e)) .e) .e) .e) .e) .e) .e) .e) .e) (.n (.n (.h 0 [11] [0,1,10] (.n (.h 1 [60] [0,1,10,11] (.h 1 [] [] (.h 0 [0] [] (.h 0 [1] [] (.h 0 [2] [] (.h 2 [3] [] (.h 0 [4] [] (.h 0 [5] [] (.h 0 [6] [] (.h 0 [7] [] (.h 0 [8] [] (.h 0 [9] [] (.h 0 [10] [] (.h 0 [11] [] (.h 0 [12] [] (.h 0 [13] [] (.h 0 [14] [] .e .e) .e) .e) .e) .e) .e) .e) .e) .e) .e) .e) (.h 0 [4] [] (.h 0 [5] [] (.h 0 [6] [] (.h 0 [7] [] (.h 0 [8] [] (.h 0 [9] [] (.h 0 [10] [] (.h 0 [11] [] (.h 0 [12] [] (.h 0 [13] [] (.h 3 [14] [] .e .e) .e) .e) .e) .e) .e) .e) .e) .e) .e) .e)) .e) .e) .e) .e) .e) .e) .e) .e) (.n (.n .e (.n (.n (.h 0 [0,1,2,3,4,5,6,7,8,9,10,11,12,13,14,15] [] .e .e) .e) .e)) (.n (.h 0 [0,1,2,3,4,5,6,7,8,9,10,11,12,13,14,15] [] .e .e) (.n .e (.n .e (.n (.n (.h 0 [10,11] [0,1] (.n (.n (.n (.h 0 [10] [0,1,11] (.n (.h 1 [112] [0,1,10,11] (.h 1 [] [] (.h 0 [0] [] (.h 0 [1] [] (.h 0 [2] [] (.h 2 [3] [] (.h 0 [4] [] (.h 0 [5] [] (.h 0 [6] [] (.h 0 [7] [] (.h 0 [8] [] (.h 0 [9] [] (.h 0 [10] [] (.h 0 [11] [] (.h 0 [12] [] (.h 0 [13] [] .e .e) .e) .e) .e) .e) .e) .e) .e) .e) .e) (.h 0 [4] [] (.h 0 [5] [] (.h 0 [6] [] (.h 0 [7] [] (.h 0 [8] [] (.h 0 [9] [] (.h 0 [10] [] (.h 0 [11] [] (.h 0 [12] [] (.h 3 [13] [] .e .e) .e) .e) .e) .e) .e) .e) .e) .e) .e)) .e) .e) .e) .e) .e) .e) .e) .e) (.n (.n (.h 0 [11] [0,1,10] (.n (.h 1 [129] [0,1,10,11] (.h 1 [] [] (.h 0 [0] [] (.h 0 [1] [] (.h 0 [2] [] (.h 2 [3] [] (.h 0 [4] [] (.h 0 [5] [] (.h 0 [6] [] (.h 0 [7] [] (.h 0 [8] [] (.h 0 [9] [] (.h 0 [10] [] (.h 0 [11] [] (.h 0 [12] [] (.h 0 [13] [] (.h 0 [14] [] .e .e) .e) .e) .e) .e) .e) .e) .e) .e) .e) .e) (.h 0 [4] [] (.h 0 [5] [] (.h 0 [6] [] (.h 0 [7] [] (.h 0 [8] [] (.h 0 [9] [] (.h 0 [10] [] (.h 0 [11] [] (.h 0 [12] [] (.h 0 [13] [] (.h 3 [14] [] .e .e) .e) .e) .e) .e) .e) .e) .e) .e) .e) .e)) .e) .e) .e) .e) .e) .e) .e) .e) (.n .e (.n (.h 0 [0,1,2,3,4,5,6,7,8,9,10,11,12,13,14,15] [] .e .e) .e)))) .e) .e) .e) (.n (.h 0 [0,1,2,3,4,5,6,7,8,9,10,11,12,13,14,15] [] .e .e) .e)))))))))))) Tryz.func415 h zK,
 λh=>cq (hn:=(.n .e (.n .e (.n (.n .e (.n .e (.n .e (.n (.h 0 [9] [0,1,6,7,8] (.n .e (.n (.n (.n .e (.h 1 [10] [0,1,6,7,8,9] .e (.h 0 [0,1,2,3,4,5,6,7,8,9,10,11,12,13,14,15,16,17,18,19] [] .e .e))) .e) .e)) .e) .e)))) .e)))) Tryz.func409 h zK,
 λh=>cq (hn:=(.n .e (.n (.n (.h 0 [0,1,2,3,4,5,6,7,8] [] .e .e) .e) .e))) Tryz.func420 h zK,
 λh=>cq (hn:=.e) Tryz.func418 h zK,
 λh=>cq (hn:=.e) Tryz.func417 h zK,
 λh=>cq (hn:=(.n .e (.n .e (.n .e (.n .e (.n .e (.n .e (.h 1 [11] [9] (.n .e (.n (.h 1 [10,11,12] [0,9] .e .e) .e)) .e)))))))) Tryz.func410 h zK,
 λh=>cq (hn:=(.n .e (.n .e (.n (.h 0 [1,2,3,8,9] [0] (.n (.n .e (.n .e (.n .e (.h 1 [3] [0,1,2,8,9,10] .e (.n .e (.h 1 [11,12] [0,1,2,3,8,9,10] .e (.h 1 [] [0,1,2,3,8,9,10,11] (.n (.h 0 [] [1] .e .e) .e) (.n (.h 1 [87] [0,1,2,3,8,9,10,11] (.h 1 [] [] (.h 0 [0] [] (.h 0 [1] [] (.h 2 [2] [] (.h 0 [3] [] (.h 0 [4] [] (.h 0 [5] [] (.h 0 [6] [] (.h 0 [7] [] (.h 0 [8] [] (.h 0 [9] [] (.h 0 [10] [] (.h 0 [11] [] (.h 0 [12] [] (.h 0 [13] [] (.h 0 [14] [] .e .e) .e) .e) .e) .e) .e) .e) .e) .e) .e) .e) .e) (.h 0 [3] [] (.h 0 [4] [] (.h 0 [5] [] (.h 0 [6] [] (.h 0 [7] [] (.h 0 [8] [] (.h 0 [9] [] (.h 0 [10] [] (.h 0 [11] [] (.h 0 [12] [] (.h 0 [13] [] (.h 3 [14] [] .e .e) .e) .e) .e) .e) .e) .e) .e) .e) .e) .e) .e)) .e) .e) .e) .e) .e)))))))) .e) .e) .e)))) Tryz.func406 h zK⟩
def zJ:Zv:=⟨308,218,212,303,213,216,217,219,220,214,369,307,306,215,153⟩
theorem aat:DW zJ:=⟨λh=>cq (hn:=.e) Tryz.func308 h zK,
 λh=>cq (hn:=(.n .e (.h 1 [4] [] .e .e))) Tryz.func218 h zK,
 λh=>cq (hn:=(.n .e (.n (.h 0 [6] [0,1,2] (.n .e (.n (.n (.n .e (.n (.h 0 [7] [0,1,2,6] (.n (.h 1 [30] [0,1,2,6,7] (.h 1 [] [] (.h 0 [0] [] (.h 0 [1] [] (.h 0 [2] [] (.h 2 [3] [] (.h 0 [4] [] (.h 0 [5] [] (.h 0 [6] [] (.h 0 [7] [] (.h 0 [8] [] (.h 0 [9] [] (.h 0 [10] [] (.h 0 [11] [] (.h 0 [12] [] (.h 0 [13] [] (.h 0 [14] [] .e .e) .e) .e) .e) .e) .e) .e) .e) .e) .e) .e) (.h 0 [4] [] (.h 0 [5] [] (.h 0 [6] [] (.h 0 [7] [] (.h 0 [8] [] (.h 0 [9] [] (.h 0 [10] [] (.h 0 [11] [] (.h 0 [12] [] (.h 0 [13] [] (.h 3 [14] [] .e .e) .e) .e) .e) .e) .e) .e) .e) .e) .e) .e)) .e) .e) .e) .e) .e) (.n (.n (.h 0 [0,1,2,3,4,5,6,7,8,9,10,11,12,13,14,15,16,17] [] .e .e) .e) .e)) .e) .e)) .e) .e)) .e) .e))) Tryz.func212 h zK,
 λh=>cq (hn:=(.n .e (.n (.h 0 [8] [0,2,3] (.n (.n .e (.n .e (.h 1 [9] [0,2,3,8] (.h 1 [36] [0,2,3,8,9] (.h 1 [] [] (.h 0 [0] [] (.h 0 [1] [] (.h 0 [2] [] (.h 0 [3] [] (.h 2 [4] [] (.h 0 [5] [] (.h 0 [6] [] (.h 0 [7] [] (.h 0 [8] [] (.h 0 [9] [] (.h 0 [10] [] (.h 0 [11] [] (.h 0 [12] [] (.h 0 [13] [] (.h 0 [14] [] (.h 0 [15] [] (.h 0 [16] [] (.h 0 [17] [] (.h 0 [18] [] (.h 0 [19] [] .e .e) .e) .e) .e) .e) .e) .e) .e) .e) .e) .e) .e) .e) .e) .e) (.h 0 [5] [] (.h 0 [6] [] (.h 0 [7] [] (.h 0 [8] [] (.h 0 [9] [] (.h 0 [10] [] (.h 0 [11] [] (.h 0 [12] [] (.h 0 [13] [] (.h 0 [14] [] (.h 0 [15] [] (.h 0 [16] [] (.h 0 [17] [] (.h 0 [18] [] (.h 3 [19] [] .e .e) .e) .e) .e) .e) .e) .e) .e) .e) .e) .e) .e) .e) .e) .e)) .e) .e) .e) .e) .e) .e) (.n (.n (.h 0 [0,1,2,3,4,5,6,7,8,9,10,11,12,13] [] .e .e) .e) (.n (.h 0 [0,1,2,3,4,5,6,7,8,9,10,11,12,13,14,15,16,17,18,19,20,21,22,23] [] .e .e) .e))))) .e) .e) .e))) Tryz.func303 h zK,
 λh=>cq (hn:=(.n .e (.n .e (.n .e (.n (.n .e (.n (.h 0 [9] [0,6,7,8] .e .e) .e)) (.n .e (.n (.h 0 [10] [0,6,7] (.n .e (.n (.n (.n (.h 0 [0,1,2,3,4,5,6,7,8,9,10,11,12,13,14,15,16,17,18,19] [] .e .e) .e) .e) .e)) .e) .e))))))) Tryz.func213 h zK,
 λh=>cq (hn:=(.n .e (.n .e (.n (.h 0 [6,7] [0] (.n .e (.n (.n (.h 0 [0,1,2,3,4,5,6,7,8,9,10,11,12,13,14,15] [] .e .e) .e) .e)) .e) .e)))) Tryz.func216 h zK,
 λh=>cq (hn:=(.n .e (.n .e (.n (.n .e (.n (.h 0 [7,8] [0,1,2] (.n .e (.h 1 [7] [0,1,2,8] (.n (.n (.n (.h 0 [7] [0,1,2,8] (.n (.h 1 [32] [0,1,2,7,8] (.h 1 [] [] (.h 0 [0] [] (.h 0 [1] [] (.h 0 [2] [] (.h 2 [3] [] (.h 0 [4] [] (.h 0 [5] [] (.h 0 [6] [] (.h 0 [7] [] (.h 0 [8] [] (.h 0 [9] [] (.h 0 [10] [] (.h 0 [11] [] (.h 0 [12] [] (.h 0 [13] [] (.h 0 [14] [] (.h 0 [15] [] .e .e) .e) .e) .e) .e) .e) .e) .e) .e) .e) .e) .e) (.h 0 [4] [] (.h 0 [5] [] (.h 0 [6] [] (.h 0 [7] [] (.h 0 [8] [] (.h 0 [9] [] (.h 0 [10] [] (.h 0 [11] [] (.h 0 [12] [] (.h 0 [13] [] (.h 0 [14] [] (.h 3 [15] [] .e .e) .e) .e) .e) .e) .e) .e) .e) .e) .e) .e) .e)) .e) .e) .e) .e) .e) .e) .e) .e) (.n .e (.n .e (.n (.h 0 [0,1,2,3,4,5,6,7,8,9,10,11,12,13,14,15,16,17] [] .e .e) (.h 1 [] [0,1,2,7,8] (.n .e (.n (.n .e (.n (.h 0 [9] [0,1,2,7,8] (.n .e (.n (.n (.n (.n (.h 0 [0,1,2,3,4,5,6,7,8,9,10] [] .e .e) .e) (.h 0 [0,1,2,3,4,5,6,7,8,9,10,11,12,13,14,15,16,17] [] .e .e)) .e) .e)) .e) .e)) .e)) (.n .e (.n (.n .e (.n (.h 0 [10] [0,1,2,7,8] (.n .e (.n (.n (.n (.n (.h 0 [0,1,2,3,4,5,6,7,8,9,10] [] .e .e) .e) (.h 0 [0,1,2,3,4,5,6,7,8,9,10,11,12,13,14,15,16,17] [] .e .e)) .e) .e)) .e) .e)) .e))))))) .e) .e)) .e) .e)) .e)))) Tryz.func217 h zK,
 λh=>cq (hn:=(.n .e (.n (.h 0 [0,1,2,3,4,5,6,7,8,9,10,11,12,13,14,15] [] .e .e) (.n .e (.n (.n (.h 0 [9,10] [0,1] (.n (.n (.n (.h 0 [9] [0,1,10] (.n (.h 1 [43] [0,1,9,10] (.h 1 [] [] (.h 0 [0] [] (.h 0 [1] [] (.h 0 [2] [] (.h 2 [3] [] (.h 0 [4] [] (.h 0 [5] [] (.h 0 [6] [] (.h 0 [7] [] (.h 0 [8] [] (.h 0 [9] [] (.h 0 [10] [] (.h 0 [11] [] (.h 0 [12] [] (.h 0 [13] [] (.h 0 [14] [] .e .e) .e) .e) .e) .e) .e) .e) .e) .e) .e) .e) (.h 0 [4] [] (.h 0 [5] [] (.h 0 [6] [] (.h 0 [7] [] (.h 0 [8] [] (.h 0 [9] [] (.h 0 [10] [] (.h 0 [11] [] (.h 0 [12] [] (.h 0 [13] [] (.h 3 [14] [] .e .e) .e) .e) .e) .e) .e) .e) .e) .e) .e) .e)) .e) .e) .e) .e) .e) .e) .e) .e) (.n (.n (.h 0 [10] [0,1,9] (.n (.h 1 [59] [0,1,9,10] (.h 1 [] [] (.h 0 [0] [] (.h 0 [1] [] (.h 0 [2] [] (.h 2 [3] [] (.h 0 [4] [] (.h 0 [5] [] (.h 0 [6] [] (.h 0 [7] [] (.h 0 [8] [] (.h 0 [9] [] (.h 0 [10] [] (.h 0 [11] [] (.h 0 [12] [] (.h 0 [13] [] .e .e) .e) .e) .e) .e) .e) .e) .e) .e) .e) (.h 0 [4] [] (.h 0 [5] [] (.h 0 [6] [] (.h 0 [7] [] (.h 0 [8] [] (.h 0 [9] [] (.h 0 [10] [] (.h 0 [11] [] (.h 0 [12] [] (.h 3 [13] [] .e .e) .e) .e) .e) .e) .e) .e) .e) .e) .e)) .e) .e) .e) .e) .e) .e) .e) .e) (.n .e (.n (.h 0 [0,1,2,3,4,5,6,7,8,9,10,11,12,13,14,15] [] .e .e) .e)))) .e) .e) .e) .e))))) Tryz.func219 h zK,
 λh=>cq (hn:=(.n .e (.n (.h 0 [0,1,2,3,4,5,6,7,8,9,10,11,12,13,14,15] [] .e .e) (.n .e (.n (.n (.h 0 [10] [0,1,11] (.n (.h 1 [43] [0,1,10,11] (.h 1 [] [] (.h 0 [0] [] (.h 0 [1] [] (.h 0 [2] [] (.h 2 [3] [] (.h 0 [4] [] (.h 0 [5] [] (.h 0 [6] [] (.h 0 [7] [] (.h 0 [8] [] (.h 0 [9] [] (.h 0 [10] [] (.h 0 [11] [] (.h 0 [12] [] (.h 0 [13] [] .e .e) .e) .e) .e) .e) .e) .e) .e) .e) .e) (.h 0 [4] [] (.h 0 [5] [] (.h 0 [6] [] (.h 0 [7] [] (.h 0 [8] [] (.h 0 [9] [] (.h 0 [10] [] (.h 0 [11] [] (.h 0 [12] [] (.h 3 [13] [] .e .e) .e) .e) .e) .e) .e) .e) .e) .e) .e)) .e) .e) .e) .e) .e) .e) .e) .e) (.n (.n (.h 0 [11] [0,1,10] (.n (.h 1 [60] [0,1,10,11] (.h 1 [] [] (.h 0 [0] [] (.h 0 [1] [] (.h 0 [2] [] (.h 2 [3] [] (.h 0 [4] [] (.h 0 [5] [] (.h 0 [6] [] (.h 0 [7] [] (.h 0 [8] [] (.h 0 [9] [] (.h 0 [10] [] (.h 0 [11] [] (.h 0 [12] [] (.h 0 [13] [] (.h 0 [14] [] .e .e) .e) .e) .e) .e) .e) .e) .e) .e) .e) .e) (.h 0 [4] [] (.h 0 [5] [] (.h 0 [6] [] (.h 0 [7] [] (.h 0 [8] [] (.h 0 [9] [] (.h 0 [10] [] (.h 0 [11] [] (.h 0 [12] [] (.h 0 [13] [] (.h 3 [14] [] .e .e) .e) .e) .e) .e) .e) .e) .e) .e) .e) .e)) .e) .e) .e) .e) .e) .e) .e) .e) (.n (.n .e (.n (.n (.h 0 [0,1,2,3,4,5,6,7,8,9,10,11,12,13,14,15] [] .e .e) .e) .e)) (.n (.h 0 [0,1,2,3,4,5,6,7,8,9,10,11,12,13,14,15] [] .e .e) (.n .e (.n .e (.n (.n (.h 0 [10,11] [0,1] (.n (.n (.n (.h 0 [10] [0,1,11] (.n (.h 1 [112] [0,1,10,11] (.h 1 [] [] (.h 0 [0] [] (.h 0 [1] [] (.h 0 [2] [] (.h 2 [3] [] (.h 0 [4] [] (.h 0 [5] [] (.h 0 [6] [] (.h 0 [7] [] (.h 0 [8] [] (.h 0 [9] [] (.h 0 [10] [] (.h 0 [11] [] (.h 0 [12] [] (.h 0 [13] [] .e .e) .e) .e) .e) .e) .e) .e) .e) .e) .e) (.h 0 [4] [] (.h 0 [5] [] (.h 0 [6] [] (.h 0 [7] [] (.h 0 [8] [] (.h 0 [9] [] (.h 0 [10] [] (.h 0 [11] [] (.h 0 [12] [] (.h 3 [13] [] .e .e) .e) .e) .e) .e) .e) .e) .e) .e) .e)) .e) .e) .e) .e) .e) .e) .e) .e) (.n (.n (.h 0 [11] [0,1,10] (.n (.h 1 [129] [0,1,10,11] (.h 1 [] [] (.h 0 [0] [] (.h 0 [1] [] (.h 0 [2] [] (.h 2 [3] [] (.h 0 [4] [] (.h 0 [5] [] (.h 0 [6] [] (.h 0 [7] [] (.h 0 [8] [] (.h 0 [9] [] (.h 0 [10] [] (.h 0 [11] [] (.h 0 [12] [] (.h 0 [13] [] (.h 0 [14] [] .e .e) .e) .e) .e) .e) .e) .e) .e) .e) .e) .e) (.h 0 [4] [] (.h 0 [5] [] (.h 0 [6] [] (.h 0 [7] [] (.h 0 [8] [] (.h 0 [9] [] (.h 0 [10] [] (.h 0 [11] [] (.h 0 [12] [] (.h 0 [13] [] (.h 3 [14] [] .e .e) .e) .e) .e) .e) .e) .e) .e) .e) .e) .e)) .e) .e) .e) .e) .e) .e) .e) .e) (.n .e (.n (.h 0 [0,1,2,3,4,5,6,7,8,9,10,11,12,13,14,15] [] .e .e) .e)))) .e) .e) .e) (.n (.h 0 [0,1,2,3,4,5,6,7,8,9,10,11,12,13,14,15] [] .e .e) .e)))))))))))) Tryz.func220 h zK,
 λh=>cq (hn:=(.n .e (.n .e (.n (.n .e (.n .e (.n .e (.n (.h 0 [9] [0,1,6,7,8] (.n .e (.n (.n (.n .e (.h 1 [10] [0,1,6,7,8,9] .e (.h 0 [0,1,2,3,4,5,6,7,8,9,10,11,12,13,14,15,16,17,18,19] [] .e .e))) .e) .e)) .e) .e)))) .e)))) Tryz.func214 h zK,
 λh=>cq (hn:=(.n .e (.n (.n (.h 0 [0,1,2,3,4,5,6,7,8] [] .e .e) .e) .e))) Tryz.func369 h zK,
 λh=>cq (hn:=.e) Tryz.func307 h zK,
 λh=>cq (hn:=.e) Tryz.func306 h zK,
 λh=>cq (hn:=(.n .e (.n .e (.n .e (.n .e (.n .e (.n .e (.h 1 [11] [9] (.n .e (.n (.h 1 [10,11,12] [0,9] .e .e) .e)) .e)))))))) Tryz.func215 h zK,
 λh=>cq (hn:=(.n .e (.n .e (.n (.h 0 [1,2,3,8,9] [0] (.n (.n .e (.n .e (.n .e (.h 1 [3] [0,1,2,8,9,10] .e (.n .e (.h 1 [11,12] [0,1,2,3,8,9,10] .e (.h 1 [] [0,1,2,3,8,9,10,11] (.n (.h 0 [] [1] .e .e) .e) (.n (.h 1 [87] [0,1,2,3,8,9,10,11] (.h 1 [] [] (.h 0 [0] [] (.h 0 [1] [] (.h 2 [2] [] (.h 0 [3] [] (.h 0 [4] [] (.h 0 [5] [] (.h 0 [6] [] (.h 0 [7] [] (.h 0 [8] [] (.h 0 [9] [] (.h 0 [10] [] (.h 0 [11] [] (.h 0 [12] [] (.h 0 [13] [] (.h 0 [14] [] .e .e) .e) .e) .e) .e) .e) .e) .e) .e) .e) .e) .e) (.h 0 [3] [] (.h 0 [4] [] (.h 0 [5] [] (.h 0 [6] [] (.h 0 [7] [] (.h 0 [8] [] (.h 0 [9] [] (.h 0 [10] [] (.h 0 [11] [] (.h 0 [12] [] (.h 0 [13] [] (.h 3 [14] [] .e .e) .e) .e) .e) .e) .e) .e) .e) .e) .e) .e) .e)) .e) .e) .e) .e) .e)))))))) .e) .e) .e)))) Tryz.func153 h zK⟩
end
section
def SXZ(T:TypeId)(kd:IntKind)(v:zV)(d:Array Int):zV->Hp->Prop:=λr C'=>r=.tuple #[]/\Da T kd v d C'
section
variable {v:zV} {d:Array Int} {C:Hp} {T:TypeId} {kd:IntKind} {zs:Zv} (ok:DW zs)
include ok in
theorem UC(x:Int)(B:Hp):Rd zQ zs.nan #[.int kd x] B (· =.bool false):=by
 refine aF λg=>ok.nan ?_;exact ae.cG (bc.mk (.refl _) zI)
include ok in
theorem dJ(x y:Int)(B:Hp):Rd zQ zs.less #[.int kd x,.int kd y] B (· =.bool (cz x y)):=by
 refine aF λg=>ok.less ?_;intro J1 hJ1;exact aa.eq (UC ok x B) (Split.Ut rfl (aI.mk (ae.lss (aI.mk (JE.mk (hJ1 _ _ λgs=>bc.mk (.refl _) rfl))))))
include ok in
theorem yJ(h:Da T kd v d C){a b:Nat}(hab:a<=b)(hb:b<=d.size)(cA:d.size<1152921504606846976):Fc zQ zs.CB #[v,iv (a:Int),iv (b:Int)] C (SXZ T kd v (Sort.insertionSort cz d a b)):=by
 refine aF λg=>ok.CB ?_;refine ae.inc (⟨λvs H=>∃(i:Nat) (e:Array Int),vs=[iv (i:Int)]/\a<i/\e.size=d.size/\Sort.insOuter cz a b i e=Sort.insertionSort cz d a b/\Da T kd v e H,λvs _=>d.size-bL vs 0,JE.mk ⟨a+1,d,rfl,by omega,rfl,rfl,h⟩,?_⟩);rintro w H ⟨i,e,hw,hi,hs,he,hd⟩ gs;simp only[xau,xa0]at hw;subst hw;rw[Sort.insOuter]at he;refine ae.fi (Br.dec (λhlt=>?_) (λhge=>?_));rotate_left
 ·rw[xab hge]at he;exact aN.here ⟨rfl,by rw[<-he];exact hd⟩
 rw[xae hlt]at he;refine⟨λvs H=>∃(j:Nat) (e:Array Int),vs=[iv (j:Int)]/\a<=j/\j<=i/\e.size=d.size/\Sort.insOuter cz a b (i+1) (Sort.insInner cz a j e)=Sort.insertionSort cz d a b/\Da T kd v e H,λvs _=>bL vs 0,JE.mk ⟨i,e,rfl,by omega,xaj _,hs,he,hd⟩,?_⟩;clear hd he hs e;rintro w H ⟨j,e,hw,YV,YH,hs,he,hd⟩ gs;simp only[xau,xa0]at hw;subst hw;intro J hJ;have no:Sort.insInner cz a j e=e->J [.bool false] H:=λhi=>hJ _ _ λgs=>Br.no (ae.inc (aC.mk ⟨i+1,e,rfl,by omega,hs,by rw[hi]at he;exact he,hd⟩ (by simp[bL];omega)));have yes:a<j->Sort.insInner cz a j e=Sort.insInner cz a (j-1) (Sort.swp e j (j-1))->J [.bool true] H:=λYV hi=>hJ _ _ λgs=>Br.yes (DR.self (ae.bY (b:=1) (ae.bY (b:=1)
  (hd.swap .here zO zO λC' dP=>ae.bY (b:=1) (aC.mk ⟨j-1,_,rfl,by omega,by omega,iZ hs,by rw[<-hi];exact he,dP⟩ (by simp[bL];omega))))))
 refine DR.self (ae.m9 (Br.dec (λhgt=>?_) λhn=>JE.mk (no (QN hn))));refine hd.ld (λ_ h=>h) zO ?_;refine ae.bY (b:=1) (hd.ld (λ_ h=>h) zO ?_);intro F;refine aa.eq (dJ ok _ _ _) (aI.mk ?_);have hst:=QO (e:=e) hgt;cases hl:cz e[j]! e[j-1]!
 ·rw[hl]at hst;exact JE.mk (no hst)
 rw[hl]at hst;exact JE.mk (yes hgt hst)
include ok in
theorem Uf(h:Da T kd v d C){a b:Nat}(hab:a<b)(hb:b<=d.size)(cA:d.size<1152921504606846976):Fc zQ zs.rev #[v,iv (a:Int),iv (b:Int)] C (SXZ T kd v (Sort.reverseRange d a b)):=by
 refine aF λg=>ok.rev ?_;refine ae.bY (b:=1) (⟨λvs H=>∃(i j:Nat) (e:Array Int),vs=[iv (i:Int),iv (j:Int)]/\j<d.size/\e.size=d.size/\Sort.reverseLoop i j e=Sort.reverseRange d a b/\Da T kd v e H,λvs _=>bL vs 1-bL vs 0,JE.mk ⟨a,b-1,d,rfl,by omega,rfl,rfl,h⟩,?_⟩);rintro w w' H ⟨i,j,e,hw,hj,hs,he,hd⟩ gs;simp only[xau,xa0]at hw;obtain⟨rfl,rfl⟩:=hw;rw[Sort.reverseLoop]at he;refine ae.fi (Br.dec (λhlt=>?_) (λhge=>?_));rotate_left
 ·rw[xab hge]at he;exact aN.here ⟨rfl,by rw[<-he];exact hd⟩
 rw[xae hlt]at he;refine DR.self (hd.swap .here zO zO λC' dP=>?_);exact ae.inc (ae.bY (b:=1) (aC.mk ⟨i+1,j-1,_,rfl,by omega,iZ hs,he,dP⟩ (by simp[bL];omega)))
include ok in
theorem Qe(h:Da T kd v d C){a b:Nat}(hab:a<b)(hb:b<=d.size)(cA:d.size<1152921504606846976):Fc zQ zs.pins #[v,iv (a:Int),iv (b:Int)] C (λr C'=>r=.bool (Sort.partialInsertionSort cz d a b).2/\Da T kd v (Sort.partialInsertionSort cz d a b).1 C'):=by
 refine aF λg=>ok.pins ?_;refine ae.inc ?_;have fin:∀{e:Array Int} {t:Bool} {H:Hp},(e,t)=Sort.partialInsertionSort cz d a b->Da T kd v e H->aN (λr C'=>r=.bool (Sort.partialInsertionSort cz d a b).2/\Da T kd v (Sort.partialInsertionSort cz d a b).1 C') (.returned (.bool t)) H:=λhe hd=>by
  rw[<-he];exact aN.here ⟨rfl,hd⟩
 refine⟨λvs H=>∃(i k:Nat) (e:Array Int),vs=[iv (i:Int),iv (k:Int)]/\k<=5/\a<i/\i<=b/\e.size=d.size/\Sort.partialIns cz a b (5-k) i e=Sort.partialInsertionSort cz d a b/\Da T kd v e H,λvs _=>5-bL vs 1,JE.mk ⟨a+1,0,d,rfl,by omega,by omega,by omega,rfl,rfl,h⟩,?_⟩;rintro w w' H ⟨i0,k,e,hw,hk5,OV,yL,hs,he,hd⟩ gs;simp only[xau,xa0]at hw;obtain⟨rfl,rfl⟩:=hw;refine ae.fi (b:=5) (Br.dec (λhk=>?_) (λhk=>?_));rotate_left
 ·obtain rfl:k=5:=by omega
  exact fin he hd
 rw[show 5-k=(5-(k+1))+1 by omega,Sort.partialIns_succ]at he;intro J9 RT;refine⟨λvs H=>∃i:Nat,vs=[iv (i:Int)]/\a<i/\i<=b/\Sort.scanSorted cz e b i=Sort.scanSorted cz e b i0/\Da T kd v e H,λvs _=>b-bL vs 0,JE.mk ⟨i0,rfl,OV,yL,rfl,hd⟩,?_⟩;clear hd OV yL;rintro w H ⟨i,hw,OV,yL,hsc,hd⟩ gs;simp only[xau,xa0]at hw;subst hw;rw[<-hsc]at he;rw[Sort.scanSorted]at hsc;intro J19 acp;have yes:i<b->(!cz e[i]! e[i-1]!)=true->J19 [.bool true] H:=λhlt hl=>acp _ _ λgs=>Br.yes (ae.inc (aC.mk ⟨i+1,rfl,by omega,by omega,by rw[<-hsc,xam hlt,hl];rfl,hd⟩ (by simp[bL];omega)));have no:Sort.scanSorted cz e b i=i->J19 [.bool false] H:=λhi=>by
  rw[hi]at he;refine acp _ _ λgs=>Br.no ?_;refine ae.eO (Br.dec (λhz=>?_) (λhne=>?_))
  ·rw[xae hz]at he;exact fin he hd
  rw[xab hne]at he;refine ae.bY (ae.fi (b:=50) (Br.dec (λhz=>?_) (λhz=>?_)))
  ·rw[xae hz]at he;exact fin he hd
  rw[xab hz]at he;refine DR.self (ae.bY (b:=1) (ae.bY (b:=1) (hd.swap .here zO zO λC1 OU=>?_)));have uc:(Sort.swp e i (i-1)).size=d.size:=iZ hs;generalize Sort.swp e i (i-1)=e1 at OU uc he;intro ZE af2;have next:∀(f:Array Int) H',f.size=d.size->f=Sort.fixUp cz b i (Sort.fixDown cz a i e1)->Da T kd v f H'->J9 [iv (i:Int)] H':=λf H' h1 h2 dP=>RT _ _ λgs=>ae.inc (aC.mk ⟨i,k+1,f,rfl,by omega,OV,yL,h1,by rw[h2];exact he,dP⟩ (by simp[bL];omega))
  have tail:∀(f:Array Int) H',f.size=d.size->f=Sort.fixDown cz a i e1->Da T kd v f H'->ZE [] H':=λf H' h1 h2 dP=>by
   refine af2 _ λgs=>?_;rw[<-h2]at next
   unfold Sort.fixUp at next
   refine ae.bY (ae.rI (b:=2) (Br.dec (λh2=>?_) (λh2=>JE.mk (next f _ h1 (by rw[xab h2]) dP))));rw[xae h2]at next
   refine ae.inc (⟨λvs H=>∃(j:Nat) (q:Array Int),vs=[iv (j:Int)]/\0<j/\q.size=d.size/\Sort.shiftUp cz b j q=Sort.shiftUp cz b (i+1) f/\Da T kd v q H,λvs _=>b-bL vs 0,JE.mk ⟨i+1,f,rfl,by omega,h1,rfl,dP⟩,?_⟩);rintro w H ⟨j,q,hw,YI,Ym,hq,FB⟩ gs;simp only[xau,xa0]at hw;subst hw;rw[Sort.shiftUp]at hq;refine ae.fi (Br.dec (λhlt=>?_) (λhge=>?_));rotate_left
   ·rw[xab hge]at hq;exact JE.mk (next q _ Ym hq FB)
   rw[xae hlt]at hq;refine DR.self (FB.ld (λ_ h=>h) zO ?_);refine ae.bY (b:=1) (FB.ld (λ_ h=>h) zO ?_);refine aa.eq (dJ ok _ _ _) (Un.not ?_);cases hl:cz q[j]! q[j-1]!
   ·rw[hl]at hq;exact Br.yes (JE.mk (next q _ Ym hq FB))
   rw[hl]at hq;refine Br.no (DR.self (ae.bY (b:=1) (ae.bY (b:=1) (FB.swap .here zO zO λC2 xK=>?_))));exact ae.inc (aC.mk ⟨j+1,_,rfl,by omega,iZ Ym,hq,xK⟩ (by simp[bL];omega))
  unfold Sort.fixDown at tail;refine ae.bY (ae.rI (b:=2) (Br.dec (λh2=>?_) (λh2=>JE.mk (tail e1 _ uc (by rw[xab h2]) OU))));rw[xae h2]at tail;refine ae.bY (b:=1) (⟨λvs H=>∃(j:Nat) (q:Array Int),vs=[iv (j:Int)]/\j<d.size/\q.size=d.size/\Sort.shiftDown cz j q=Sort.shiftDown cz (i-1) e1/\Da T kd v q H,λvs _=>bL vs 0,JE.mk ⟨i-1,e1,rfl,by omega,uc,rfl,OU⟩,?_⟩);rintro w H ⟨j,q,hw,YI,Ym,hq,FB⟩ gs;simp only[xau,xa0]at hw;subst hw;refine ae.rI (b:=1) (Br.dec (λhlt=>?_) (λhge=>JE.mk (tail q _ Ym (by rw[<-hq,Nn hge]) FB)));rw[sD hlt]at hq;refine DR.self (FB.ld (λ_ h=>h) zO ?_);refine ae.bY (b:=1) (FB.ld (λ_ h=>h) zO ?_);refine aa.eq (dJ ok _ _ _) (Un.not ?_);cases hl:cz q[j]! q[j-1]!
  ·rw[hl]at hq;exact Br.yes (JE.mk (tail q _ Ym hq FB))
  rw[hl]at hq;refine Br.no (DR.self (ae.bY (b:=1) (ae.bY (b:=1) (FB.swap .here zO zO λC2 xK=>?_))));exact ae.bY (b:=1) (aC.mk ⟨j-1,_,rfl,by omega,iZ Ym,hq,xK⟩ (by simp[bL];omega))
 refine DR.self (ae.fi (Br.dec (λhlt=>?_) λhge=>JE.mk (no (by rw[Sort.scanSorted,xab zP]))));refine hd.ld (λ_ h=>h) zO ?_;refine ae.bY (b:=1) (hd.ld (λ_ h=>h) zO ?_);intro F;refine aa.eq (dJ ok _ _ _) (Un.not (aI.mk ?_));cases hl:cz e[i]! e[i-1]!
 ·exact JE.mk (yes hlt (by rw[hl];rfl))
 exact JE.mk (no (by rw[Sort.scanSorted,hl,xab zI]))
include ok in
theorem ET(h:Da T kd v d C){a b p:Nat}(hp:a<=p/\p<b)(hb:b<=d.size)(cA:d.size<1152921504606846976):Fc zQ zs.uY #[v,iv (a:Int),iv (b:Int),iv (p:Int)] C
  (λr C'=>r=iv ((Sort.partitionEqual cz d a b p).1:Nat)/\Da T kd v (Sort.partitionEqual cz d a b p).2 C'):=by
 refine aF λg=>ok.uY ?_;refine DR.self (h.swap .here zO zO λC1 hd=>?_);refine ae.inc (ae.bY (b:=1) (⟨λvs H=>∃(i j:Nat) (e:Array Int),vs=[iv (i:Int),iv (j:Int)]/\a<i/\i<=b/\a<=j/\j<b/\e.size=d.size/\Sort.partEqLoop cz a i j e=Sort.partitionEqual cz d a b p/\Da T kd v e H,λvs _=>b-bL vs 0,JE.mk ⟨a+1,b-1,_,rfl,by omega,by omega,by omega,by omega,iZ rfl,rfl,hd⟩,?_⟩));clear hd;rintro w w' H0 ⟨i0,j0,e,hw,OV,yL,YV,hjb,hs,he,hd⟩ gs;simp only[xau,xa0]at hw;obtain⟨rfl,rfl⟩:=hw;rw[Sort.partEqLoop_eq]at he;refine⟨λvs H=>∃i:Nat,vs=[iv (i:Int)]/\i0<=i/\i<=b/\Sort.scanUp (λx=> !cz e[a]! x) e j0 i=Sort.scanUp (λx=> !cz e[a]! x) e j0 i0/\Da T kd v e H,λvs _=>b-bL vs 0,JE.mk ⟨i0,rfl,xaj _,yL,rfl,hd⟩,?_⟩;clear hd yL;rintro w H ⟨i,hw,Fx,yL,hsc,hd⟩ gs;simp only[xau,xa0]at hw;subst hw;rw[<-hsc]at he;rw[Sort.scanUp]at hsc;intro J23 aco;have yes:i<=j0->(!cz e[a]! e[i]!)=true->J23 [.bool true] H:=λhle hl=>aco _ _ λgs=>Br.yes (ae.inc (aC.mk ⟨i+1,rfl,by omega,by omega,by rw[<-hsc,xam hle,hl];rfl,hd⟩ (by simp[bL];omega)));have no:Sort.scanUp (λx=> !cz e[a]! x) e j0 i=i->J23 [.bool false] H:=λhi=>by
  rw[hi]at he;refine aco _ _ λgs=>Br.no ?_;refine⟨λvs H=>∃j:Nat,vs=[iv (j:Int)]/\a<=j/\j<b/\Sort.scanDown (λx=>cz e[a]! x) e i j=Sort.scanDown (λx=>cz e[a]! x) e i j0/\Da T kd v e H,λvs _=>bL vs 0,JE.mk ⟨j0,rfl,YV,hjb,rfl,hd⟩,?_⟩;rintro w H' ⟨j,hw,afI,afb,Vd,dP⟩ gs;simp only[xau,xa0]at hw;subst hw;rw[<-Vd]at he;intro J33 VG;have LG:i<=j->cz e[a]! e[j]! =true->J33 [.bool true] H':=λhle hl=>VG _ _ λgs=>Br.yes (ae.bY (b:=1) (aC.mk ⟨j-1,rfl,by omega,by omega,by rw[<-Vd,fA (j:=j) zO,xam hle,hl];rfl,dP⟩ (by simp[bL];omega)));have WH:Sort.scanDown (λx=>cz e[a]! x) e i j=j->J33 [.bool false] H':=λhj=>by
   rw[hj]at he;refine VG _ _ λgs=>Br.no ?_;refine ae.m9 (Br.dec (λhgt=>?_) (λhle=>?_))
   ·rw[xae hgt]at he;exact aN.here (by rw[<-he];exact⟨rfl,dP⟩)
   rw[xab hle]at he;refine DR.self (dP.swap .here zO zO λC2 xK=>?_);exact ae.inc (ae.bY (b:=1) (aC.mk ⟨i+1,j-1,_,rfl,by omega,by omega,by omega,by omega,iZ hs,he,xK⟩ (by simp[bL];omega)))
  refine DR.self (ae.xE (Br.dec (λhle=>?_) λhgt=>JE.mk (WH ?_)));rotate_left
  ·by_cases h0:j=0
   ·subst h0;rfl
   rw[fA zO,xab zP]
  refine dP.ld (λ_ h=>h) zO ?_;refine dP.ld (λ_ h=>h) zO ?_;intro F;refine aa.eq (dJ ok _ _ _) (aI.mk ?_);cases hl:cz e[a]! e[j]!
  ·exact JE.mk (WH (by rw[fA zO,hl,xab zI]))
  exact JE.mk (LG hle hl)
 refine DR.self (ae.xE (Br.dec (λhle=>?_) λhgt=>JE.mk (no (by rw[Sort.scanUp,xab zP]))));refine hd.ld (λ_ h=>h) zO ?_;refine hd.ld (λ_ h=>h) zO ?_;intro F;refine aa.eq (dJ ok _ _ _) (Un.not (aI.mk ?_));cases hl:cz e[a]! e[i]!
 ·exact JE.mk (yes hle (by rw[hl];rfl))
 exact JE.mk (no (by rw[Sort.scanUp,hl,xab zI]))
end
section
variable {v:zV} {d:Array Int} {C:Hp} {T:TypeId} {kd:IntKind} {zs:Zv} (ok:DW zs)
include ok in
theorem Qg(h:Da T kd v d C){a b p:Nat}(hp:a<=p/\p<b)(hb:b<=d.size)(cA:d.size<1152921504606846976):Fc zQ zs.part #[v,iv (a:Int),iv (b:Int),iv (p:Int)] C
  (λr C'=>r=.tuple #[iv ((Sort.partition cz d a b p).1:Nat),.bool (Sort.partition cz d a b p).2.1]/\Da T kd v (Sort.partition cz d a b p).2.2 C'):=by
 obtain⟨R,hR⟩:∃R,R=Sort.partition cz d a b p:=⟨_,rfl⟩;rw[<-hR];refine aF λg=>ok.part ?_;refine DR.self (h.swap .here zO zO λC1 hd=>?_);have hs:(Sort.swp d a p).size=d.size:=iZ rfl;have fin:∀{m:Nat} {t:Bool} {e:Array Int} {H:Hp},(m,t,e)=R->Da T kd v e H->aN (λr C'=>r=.tuple #[iv (R.1:Nat),.bool R.2.1]/\Da T kd v R.2.2 C') (.returned (.tuple #[iv (m:Int),.bool t])) H:=λhe hd=>by
  rw[<-he];exact aN.here ⟨rfl,hd⟩
 unfold Sort.partition at hR;simp only at hR;generalize Sort.swp d a p=e at hd hs hR;refine ae.inc (ae.bY (b:=1) (⟨λvs H=>∃i:Nat,vs=[iv (i:Int)]/\a<i/\i<=b/\Sort.scanUp (λx=>cz x e[a]!) e (b-1) i=Sort.scanUp (λx=>cz x e[a]!) e (b-1) (a+1)/\Da T kd v e H,λvs _=>b-bL vs 0,JE.mk ⟨a+1,rfl,by omega,by omega,rfl,hd⟩,?_⟩));clear hd;rintro w H ⟨i,hw,OV,yL,hsc,hd⟩ gs;simp only[xau,xa0]at hw;subst hw;rw[<-hsc]at hR;rw[Sort.scanUp]at hsc;intro ZF FK;have yes:i<b->cz e[i]! e[a]! =true->ZF [.bool true] H:=λhle hl=>FK _ _ λgs=>Br.yes (ae.inc (aC.mk ⟨i+1,rfl,by omega,by omega,by rw[<-hsc,xam (show i<=b-1 by omega),hl];rfl,hd⟩ (by simp[bL];omega)));have no:Sort.scanUp (λx=>cz x e[a]!) e (b-1) i=i->ZF [.bool false] H:=λhi=>by
  rw[hi]at hR;refine FK _ _ λgs=>Br.no ?_;refine⟨λvs H=>∃j:Nat,vs=[iv (j:Int)]/\a<=j/\j<b/\Sort.scanDown (λx=> !cz x e[a]!) e i j=Sort.scanDown (λx=> !cz x e[a]!) e i (b-1)/\Da T kd v e H,λvs _=>bL vs 0,JE.mk ⟨b-1,rfl,by omega,by omega,rfl,hd⟩,?_⟩;clear hd;rintro w H ⟨j,hw,YV,hjb,Vd,hd⟩ gs;simp only[xau,xa0]at hw;subst hw;rw[<-Vd]at hR;intro J27 Za;have LG:i<=j->(!cz e[j]! e[a]!)=true->J27 [.bool true] H:=λhle hl=>Za _ _ λgs=>Br.yes (ae.bY (b:=1) (aC.mk ⟨j-1,rfl,by omega,by omega,by rw[<-Vd,fA (j:=j) zO,xam hle,hl];rfl,hd⟩ (by simp[bL];omega)));have WH:Sort.scanDown (λx=> !cz x e[a]!) e i j=j->J27 [.bool false] H:=λhj=>by
   rw[hj]at hR;refine Za _ _ λgs=>Br.no ?_;refine ae.m9 (Br.dec (λhgt=>?_) (λhle=>?_))
   ·rw[xae hgt]at hR;refine DR.self (hd.swap .here zO zO λC2 xK=>?_);exact fin hR.symm xK
   rw[xab hle]at hR;refine DR.self (hd.swap .here zO zO λC2 xK=>?_);refine ae.inc (ae.bY (b:=1) ?_);obtain⟨L,hL⟩:∃L,L=Sort.partLoop cz a (i+1) (j-1) (Sort.swp e i j):=⟨_,rfl⟩;rw[<-hL]at hR;have sg:(Sort.swp e i j).size=d.size:=iZ hs;generalize Sort.swp e i j=e0 at hL xK sg;refine⟨λvs H=>∃(i j:Nat) (e:Array Int),vs=[iv (i:Int),iv (j:Int)]/\a<i/\i<=b/\a<=j/\j<b/\e.size=d.size/\L=Sort.partLoop cz a i j e/\Da T kd v e H,λvs _=>b-bL vs 0,JE.mk ⟨i+1,j-1,e0,rfl,by omega,by omega,by omega,by omega,sg,hL,xK⟩,?_⟩;clear xK hd OV yL YV hjb hle LG Za J27 FK ZF yes hL sg hs hsc hi Vd hj;rintro w w' H0 ⟨i0,j0,e,hw,OV,yL,YV,hjb,hs,he,hd⟩ gs;simp only[xau,xa0]at hw;obtain⟨rfl,rfl⟩:=hw;rw[Sort.partLoop_eq]at he;refine⟨λvs H=>∃i:Nat,vs=[iv (i:Int)]/\i0<=i/\i<=b/\Sort.scanUp (λx=>cz x e[a]!) e j0 i=Sort.scanUp (λx=>cz x e[a]!) e j0 i0/\Da T kd v e H,λvs _=>b-bL vs 0,JE.mk ⟨i0,rfl,xaj _,yL,rfl,hd⟩,?_⟩;clear hd yL;rintro w H ⟨i,hw,Fx,yL,hsc,hd⟩ gs;simp only[xau,xa0]at hw;subst hw;rw[<-hsc]at he;rw[Sort.scanUp]at hsc;intro J64 acm;have yes:i<=j0->cz e[i]! e[a]! =true->J64 [.bool true] H:=λhle hl=>acm _ _ λgs=>Br.yes (ae.inc (aC.mk ⟨i+1,rfl,by omega,by omega,by rw[<-hsc,xam hle,hl];rfl,hd⟩ (by simp[bL];omega)));have no:Sort.scanUp (λx=>cz x e[a]!) e j0 i=i->J64 [.bool false] H:=λhi=>by
    rw[hi]at he;refine acm _ _ λgs=>Br.no ?_;refine⟨λvs H=>∃j:Nat,vs=[iv (j:Int)]/\a<=j/\j<b/\Sort.scanDown (λx=> !cz x e[a]!) e i j=Sort.scanDown (λx=> !cz x e[a]!) e i j0/\Da T kd v e H,λvs _=>bL vs 0,JE.mk ⟨j0,rfl,YV,hjb,rfl,hd⟩,?_⟩;rintro w H' ⟨j,hw,afI,afb,Vd,dP⟩ gs;simp only[xau,xa0]at hw;subst hw;rw[<-Vd]at he;intro J74 ack;have LG:i<=j->(!cz e[j]! e[a]!)=true->J74 [.bool true] H':=λhle hl=>ack _ _ λgs=>Br.yes (ae.bY (b:=1) (aC.mk ⟨j-1,rfl,by omega,by omega,by rw[<-Vd,fA (j:=j) zO,xam hle,hl];rfl,dP⟩ (by simp[bL];omega)));have WH:Sort.scanDown (λx=> !cz x e[a]!) e i j=j->J74 [.bool false] H':=λhj=>by
     rw[hj]at he;refine ack _ _ λgs=>Br.no ?_;refine ae.m9 (Br.dec (λhgt=>?_) (λhle=>?_))
     ·rw[xae hgt]at he;rw[he]at hR;refine DR.self (dP.swap .here zO zO λC2 xK=>?_);exact fin hR.symm xK
     rw[xab hle]at he;refine DR.self (dP.swap .here zO zO λC2 xK=>?_);exact ae.inc (ae.bY (b:=1) (aC.mk ⟨i+1,j-1,_,rfl,by omega,by omega,by omega,by omega,iZ hs,he,xK⟩ (by simp[bL];omega)))
    refine DR.self (ae.xE (Br.dec (λhle=>?_) λhgt=>JE.mk (WH ?_)));rotate_left
    ·by_cases h0:j=0
     ·subst h0;rfl
     rw[fA zO,xab zP]
    refine dP.ld (λ_ h=>h) zO ?_;refine dP.ld (λ_ h=>h) zO ?_;intro F;refine aa.eq (dJ ok _ _ _) (Un.not (aI.mk ?_));cases hl:cz e[j]! e[a]!
    ·exact JE.mk (LG hle (by rw[hl];rfl))
    exact JE.mk (WH (by rw[fA zO,hl,xab zI]))
   refine DR.self (ae.xE (Br.dec (λhle=>?_) λhgt=>JE.mk (no (by rw[Sort.scanUp,xab zP]))));refine hd.ld (λ_ h=>h) zO ?_;refine hd.ld (λ_ h=>h) zO ?_;intro F;refine aa.eq (dJ ok _ _ _) (aI.mk ?_);cases hl:cz e[i]! e[a]!
   ·exact JE.mk (no (by rw[Sort.scanUp,hl,xab zI]))
   exact JE.mk (yes hle hl)
  refine DR.self (ae.xE (Br.dec (λhle=>?_) λhgt=>JE.mk (WH ?_)));rotate_left
  ·by_cases h0:j=0
   ·subst h0;rfl
   rw[fA zO,xab zP]
  refine hd.ld (λ_ h=>h) zO ?_;refine hd.ld (λ_ h=>h) zO ?_;intro F;refine aa.eq (dJ ok _ _ _) (Un.not (aI.mk ?_));cases hl:cz e[j]! e[a]!
  ·exact JE.mk (LG hle (by rw[hl];rfl))
  exact JE.mk (WH (by rw[fA zO,hl,xab zI]))
 refine DR.self (ae.xE (Br.dec (λhle=>?_) λhgt=>JE.mk (no (by rw[Sort.scanUp,xab zP]))));refine hd.ld (λ_ h=>h) zO ?_;refine hd.ld (λ_ h=>h) zO ?_;intro F;refine aa.eq (dJ ok _ _ _) (aI.mk ?_);cases hl:cz e[i]! e[a]!
 ·exact JE.mk (no (by rw[Sort.scanUp,hl,xab zI]))
 exact JE.mk (yes zO hl)
include ok in
theorem BH(h:Da T kd v d C){lo hi f:Nat}(hlo:lo<=d.size)(hb:f+hi<=d.size)(cA:d.size<1152921504606846976):Fc zQ zs.Mb #[v,iv (lo:Int),iv (hi:Int),iv (f:Int)] C (SXZ T kd v (Sort.siftDown cz hi f lo d)):=by
 refine aF λg=>ok.Mb ?_;refine⟨λvs H=>∃(i:Nat) (e:Array Int),vs=[iv (i:Int)]/\i<=d.size/\e.size=d.size/\Sort.siftDown cz hi f i e=Sort.siftDown cz hi f lo d/\Da T kd v e H,λvs _=>d.size-bL vs 0,JE.mk ⟨lo,d,rfl,hlo,rfl,rfl,h⟩,?_⟩;rintro w H ⟨r,e,hw,hr,hs,he,hd⟩ gs;simp only[xau,xa0]at hw;subst hw;refine ae.xD (a:=2) (ae.inc (ae.rI (Br.dec (λhge=>?_) (λhlt=>?_))))
 ·rw[Ma hge]at he;exact aN.here ⟨rfl,by rw[<-he];exact hd⟩
 have KN:=λc=>T9 (c:=c) (d:=e) (f:=f) (show 2*r+1<hi by omega);intro J9 RT;have go:∀c:Nat,r<c->c<hi->(c=if(decide (2*r+1+1<hi) &&cz e[f+(2*r+1)]! e[f+(2*r+1)+1]!)=true then 2*r+2 else 2*r+1)->J9 [iv (c:Int)] H:=λc hrc akf hc=>by
  rw[KN c hc]at he;refine RT _ _ λgs=>?_;refine DR.self (ae.fH (hd.ld (λ_ h=>h) zO ?_));refine ae.fH (hd.ld (λ_ h=>h) zO ?_);refine aa.eq (dJ ok _ _ _) (Un.not ?_);cases hl:cz e[f+r]! e[f+c]!
  ·rw[hl]at he;exact Br.yes (aN.here ⟨rfl,by rw[<-he];exact hd⟩)
  rw[hl]at he;refine Br.no (DR.self (ae.fH (ae.fH (ae.fH (hd.WB .here (i:=f+r) (j:=f+c) (B:=λk=>ae .num .add (iv (f:Int)) (iv (r:Int)) k) zO zO (λk hk=>ae.fH hk) λC1 OU=>?_)))));exact aC.mk ⟨c,_,rfl,by omega,iZ hs,he,OU⟩ (by simp[bL];omega)
 intro J36 acn;have stay:(decide (2*r+1+1<hi) &&cz e[f+(2*r+1)]! e[f+(2*r+1)+1]!)=false->J36 [.bool false] H:=λhc=>acn _ _ λgs=>Br.no (JE.mk (go _ zO zO (by rw[hc];rfl)));refine DR.self (ae.inc (ae.fi (Br.dec (λhc=>?_) λhc=>JE.mk (stay (by rw[xal hc];rfl)))));refine ae.fH (hd.ld (λ_ h=>h) zO ?_);refine ae.fH (ae.inc (hd.ld (λ_ h=>h) zO ?_));intro F;refine aa.eq (dJ ok _ _ _) (aI.mk ?_);cases hl:cz e[f+(2*r+1)]! e[f+(2*r+1)+1]!
 ·exact JE.mk (stay (by rw[hl,xea]))
 exact JE.mk (acn _ _ λgs=>Br.yes (ae.inc (JE.mk (go _ zO hc (by rw[hl,xam hc];rfl)))))
include ok in
theorem MT(h:Da T kd v d C){a b:Nat}(hab:a<b)(hb:b<=d.size)(cA:d.size<1152921504606846976):Fc zQ zs.heap #[v,iv (a:Int),iv (b:Int)] C (SXZ T kd v (Sort.heapSort cz d a b)):=by
 refine aF λg=>ok.heap ?_;obtain⟨B,hB⟩:∃B,B=Sort.heapBuild cz (b-a) a ((b-a-1) /2+1) d:=⟨_,rfl⟩;have hH:Sort.heapSort cz d a b=Sort.heapPop cz a (b-a) B:=by rw[hB];rfl
 rw[hH];refine ae.bY (ae.bY (b:=1) (ae.FP (b:=2) (by simp[bF];omega) zO (⟨λvs H=>∃(q:Int) (e:Array Int),vs=[iv q]/\ -1<=q/\q<(b:Int) -a/\e.size=d.size/\B=Sort.heapBuild cz (b-a) a (q+1).toNat e/\Da T kd v e H,λvs _=>up1 vs,JE.mk ⟨(((b-a-1) /2:Nat):Int),d,rfl,by omega,by omega,rfl,hB,h⟩,?_⟩)));clear hB hH;rintro w H ⟨q,e,hw,Ve,hq2,hs,he,hd⟩ gs;simp only[xau,xa0]at hw;subst hw;refine ae.geq (Br.dec (λh0=>?_) (λhn=>?_))
 ·obtain⟨i,rfl⟩:∃i:Nat,q=i:=⟨q.toNat,by omega⟩;rw[show((i:Int)+1).toNat=i+1 by omega,Sort.heapBuild]at he;refine aa.fq (BH ok hd zO zO zO) ?_;rintro w C1 ⟨rfl,OU⟩;exact ae.kx (c:=(i:Int) -1) rfl zO (aC.mk ⟨(i:Int) -1,_,rfl,by omega,by omega,by rw[Ke];exact hs,by rw[show((i:Int) -1+1).toNat=i by omega];exact he,OU⟩ (by rw[zy,zy];omega))
 obtain rfl:q= -1:=by omega
 have he:B=e:=he;subst he;refine ae.bY (b:=1) (⟨λvs H=>∃(q:Int) (e:Array Int),vs=[iv q]/\ -1<=q/\q<(b:Int) -a/\e.size=d.size/\Sort.heapPop cz a (q+1).toNat e=Sort.heapPop cz a (b-a) B/\Da T kd v e H,λvs _=>up1 vs,JE.mk ⟨((b-a-1:Nat):Int),B,rfl,by omega,by omega,hs,by rw[show(((b-a-1:Nat):Int)+1).toNat=b-a by omega],hd⟩,?_⟩);clear hd hs hn;rintro w H ⟨q,e,hw,Ve,hq2,hs,he,hd⟩ gs;simp only[xau,xa0]at hw;subst hw;refine ae.geq (Br.dec (λh0=>?_) (λhn=>?_));rotate_left
 ·obtain rfl:q= -1:=by omega
  have he:e=Sort.heapPop cz a (b-a) B:=he;exact aN.here ⟨rfl,by rw[<-he];exact hd⟩
 obtain⟨i,rfl⟩:∃i:Nat,q=i:=⟨q.toNat,by omega⟩;rw[show((i:Int)+1).toNat=i+1 by omega,Sort.heapPop]at he;refine DR.self (ae.fH (ae.fH (hd.swap .here zO zO λC1 OU=>?_)));have uc:(Sort.swp e a (a+i)).size=d.size:=iZ hs;refine aa.fq (BH ok OU (lo:=0) zO zO zO) ?_;rintro w C2 ⟨rfl,xK⟩;exact ae.kx (c:=(i:Int) -1) rfl zO (aC.mk ⟨(i:Int) -1,_,rfl,by omega,by omega,by rw[Ke];exact uc,by rw[show((i:Int) -1+1).toNat=i by omega];exact he,xK⟩ (by rw[zy,zy];omega))
end
section
variable {v:zV} {d:Array Int} {C:Hp} {T:TypeId} {kd:IntKind} {zs:Zv} (ok:DW zs)
theorem xlt{a b:Nat}(ha:a<18446744073709551616)(hb:b<18446744073709551616):a^^^b<18446744073709551616:=Nat.xor_lt_two_pow (n:=64) ha hb
theorem O6(b x:Nat)(hx:x<18446744073709551616):Fc zQ 305 #[ptr b] [(b,.cells #[.int .u64 (x:Int)] 371 (0,0))]
  (λr H=>∃y:Nat,y<18446744073709551616/\r=.int .u64 (y:Int)/\H=[(b,.cells #[.int .u64 (y:Int)] 371 (0,0))]):=by
 refine aF λg=>HA ?_;refine DR.self (Nil.ptr (Ld.q ?_));refine Nil.ptr (Ld.q ?_);refine ae.nE (b:=13) (ae.XA hx (xbB _ zD) ?_);have h1:=xlt hx (xbB (x<<<13) (show 0<18446744073709551616 by decide));generalize x^^^x<<<13%18446744073709551616=x1 at h1;refine Nil.ptr (St.one (by exact .head _) rfl zI rfl ?_);refine DR.self (Nil.ptr (Ld.q ?_));refine Nil.ptr (Ld.q ?_);refine ae.iL (b:=7) h1 ?_;have h2:x1>>>7<18446744073709551616:=by rw[xaZ];omega
 refine ae.XA h1 h2 ?_;have h3:=xlt h1 h2;generalize x1^^^x1>>>7=x2 at h3;refine Nil.ptr (St.one (by exact .head _) rfl zI rfl ?_);refine DR.self (Nil.ptr (Ld.q ?_));refine Nil.ptr (Ld.q ?_);refine ae.nE (b:=17) (ae.XA h3 (xbB _ zD) ?_);have h4:=xlt h3 (xbB (x2<<<17) (show 0<18446744073709551616 by decide));generalize x2^^^x2<<<17%18446744073709551616=x3 at h4;refine Nil.ptr (St.one (by exact .head _) rfl zI rfl ?_);refine Nil.ptr (Ld.q ?_);exact aN.here ⟨x3,h4,rfl,rfl⟩
theorem AR{x:Nat}(hx:x<18446744073709551616)(B:Hp):Rd zQ 154 #[.int .u64 (x:Int)] B (λv=>∃r:Nat,zv x r/\v=iv (r:Int)):=by
 refine aF λg=>Ji ?_;refine Br.no (aa.rq (Qx hx B) ?_);rintro w hw;exact bc.mk (.refl _) hw
theorem Ux{x:Nat}(h0:0<x)(hx:x<1152921504606846976)(B:Hp):Rd zQ 304 #[iv (x:Int)] B (λv=>∃r:Nat,0<r/\r<=2*x/\v=.int .u64 (r:Int)):=by
 refine aF λg=>HB ?_;refine br.q (aa.rq (AR zO B) ?_);rintro w ⟨r,hr,rfl⟩;have Q2:0<r:=by
  rcases Nat.eq_zero_or_pos r with e|e
  ·subst e;have:=hr.1;omega
  exact e
 have h2:2^(r-1)<=x:=by
  rcases hr.2 with e|e
  ·omega
  exact e
 have h3:2^r=2*2^(r-1):=by
  obtain⟨k,rfl⟩:∃k,r=k+1:=⟨r-1,by omega⟩;rw[xb5,xd0];omega
 refine ae.nE (a:=1) ?_;have e:1<<<r%18446744073709551616=2^r:=by
  rw[xco,xdj];exact xbi zO
 rw[e];exact bc.mk (.refl _) ⟨2^r,xbw r,by omega,rfl⟩
include ok in
theorem V7(h:Da T kd v d C){a b:Nat}(hab:a<b)(hb:b<=d.size)(cA:d.size<1152921504606846976):Fc zQ zs.brk #[v,iv (a:Int),iv (b:Int)] C (λr C'=>r=.tuple #[]/\∃e,Sort.PermIn a b d e/\Da T kd v e C'):=by
 refine aF λg=>ok.brk ?_;refine ae.bY (ae.rI (b:=8) (Br.dec (λh8=>?_) (λ_=>aN.here ⟨rfl,d,Sort.permIn_refl _ _ _,h⟩)));refine br.q ?_;intro b4 _;refine St.one (by exact .head _) rfl zI rfl ?_;refine aa.rq (Ux zO zO C) ?_;rintro w ⟨m,hm0,hm,rfl⟩;refine ae.FP (b:=4) (by simp[bF];omega) zO (ae.xD (b:=2) (ae.fH (ae.bY (b:=1) ?_)));refine⟨λvs H=>∃(i x:Nat) (C':Hp) (e:Array Int),vs=[iv (i:Int)]/\a<=i/\x<18446744073709551616/\H=(b4,.cells #[.int .u64 (x:Int)] 371 (0,0))::C'/\Sort.PermIn a b d e/\Da T kd v e C',λvs _=>b-bL vs 0,
  JE.mk ⟨_,b-a,C,d,rfl,by omega,by omega,rfl,Sort.permIn_refl _ _ _,h⟩,?_⟩
 rintro w H ⟨i,x,C',e,hw,OV,hx,rfl,hp,hd⟩ gs;simp only[xau,xa0]at hw;subst hw;have hs:=hp.1;refine ae.FP (b:=4) (by simp[bF];omega) zO (ae.xD (b:=2) (ae.fH (ae.inc (ae.xE (Br.dec (λhle=>?_) (λ_=>aN.mk .tail ⟨rfl,e,hp,hd⟩))))));refine aa.fn (.left (A:=C')) (O6 b4 x hx) ?_;rintro w H' ⟨y,hy,rfl,rfl⟩;refine ae.bY (b:=1) (ae.jD (by simp[bF];omega) (by simp[bF];omega) ?_);have hand:y&&& (m-1)<m:=by have:=xc5 (n:=y) (m:=m-1);omega
 generalize y&&& (m-1)=z at hand;refine br.q ?_;intro J28 af5;have go:∀o:Nat,o<b-a->J28 [iv (o:Int)] ([(b4,Obj.cells #[.int .u64 (y:Int)] 371 (0,0))]++C'):=λo ho=>by
  refine af5 _ _ λgs=>?_;refine DR.self (ae.fH (ae.fH (hd.swap (.cons .here) zO zO λC1 OU=>?_)));exact ae.inc (aC.mk ⟨i+1,y,C1,_,rfl,by omega,hy,rfl,Sort.permIn_trans _ _ _ _ _ hp (Sort.swp_permIn _ a b i (a+o) OV zO zO zO zO),OU⟩ (by simp[bL];omega))
 refine ae.rI (Br.dec (λhge=>?_) (λhlt=>JE.mk (go z zO)));exact ae.bY (JE.mk (go _ zO))
def OQZ(b:Nat)(C:Hp)(i j:Nat):zV->Hp->Prop:=λr H=>(r=.tuple #[iv (i:Int),iv (j:Int)]\/r=.tuple #[iv (j:Int),iv (i:Int)])/\∃z:Int,H=(b,.cells #[iv z] 3 (0,0))::C
include ok in
theorem u4(h:Da T kd v d C){b:Nat}{z:Int}{i j:Nat}(hi:i<d.size)(hj:j<d.size):
  Fc zQ zs.EV #[v,iv (i:Int),iv (j:Int),ptr b] ((b,.cells #[iv z] 3 (0,0))::C) (OQZ b C i j):=by
 refine aF λg=>ok.EV ?_;refine DR.self (h.ld (λ_ h=>.tail _ h) hj ?_);refine h.ld (λ_ h=>.tail _ h) hi ?_;refine aa.eq (dJ ok _ _ _) (Br.mk (λ_=>?_) (λ_=>aN.here ⟨.inl rfl,z,rfl⟩));refine Nil.ptr (Ld.q ?_);refine ae.add (Nil.ptr (St.one (by exact .head _) rfl zI rfl ?_));exact aN.here ⟨.inr rfl,_,rfl⟩
def MQZ(b:Nat)(C:Hp)(p:Nat->Prop):zV->Hp->Prop:=λr H=>(∃m:Nat,r=iv (m:Int)/\p m)/\∃z:Int,H=(b,.cells #[iv z] 3 (0,0))::C
include ok in
theorem KD(h:Da T kd v d C){b:Nat}{z:Int}{i j k:Nat}(hi:i<d.size)(hj:j<d.size)(hk:k<d.size):
  Fc zQ zs.ZS #[v,iv (i:Int),iv (j:Int),iv (k:Int),ptr b] ((b,.cells #[iv z] 3 (0,0))::C) (MQZ b C λm=>m=i\/m=j\/m=k):=by
 refine aF λg=>ok.ZS ?_;refine aa.fq (u4 ok h hi hj) ?_;rintro w H ⟨hw,z1,rfl⟩;obtain⟨i1,j1,rfl,hij⟩:∃i1 j1:Nat,w=.tuple #[iv (i1:Int),iv (j1:Int)]/\((i1=i/\j1=j)\/(i1=j/\j1=i)):=by
  rcases hw with rfl|rfl
  ·exact⟨i,j,rfl,.inl ⟨rfl,rfl⟩⟩
  exact⟨j,i,rfl,.inr ⟨rfl,rfl⟩⟩
 refine Ext.two (aa.fq (u4 ok h (i:=j1) (j:=k) zO hk) ?_);rintro w H ⟨hw,z2,rfl⟩;obtain⟨j2,k2,rfl,Vn⟩:∃j2 k2:Nat,w=.tuple #[iv (j2:Int),iv (k2:Int)]/\((j2=j1/\k2=k)\/(j2=k/\k2=j1)):=by
  rcases hw with rfl|rfl
  ·exact⟨_,_,rfl,.inl ⟨rfl,rfl⟩⟩
  exact⟨_,_,rfl,.inr ⟨rfl,rfl⟩⟩
 refine Ext.two (aa.fq (u4 ok h (i:=i1) (j:=j2) zO zO) ?_);rintro w H ⟨hw,z3,rfl⟩;rcases hw with rfl|rfl
 ·exact Ext.mk rfl (Ext.mk rfl (aN.here ⟨⟨_,rfl,by omega⟩,_,rfl⟩))
 exact Ext.mk rfl (Ext.mk rfl (aN.here ⟨⟨_,rfl,by omega⟩,_,rfl⟩))
include ok in
theorem vk(h:Da T kd v d C){b:Nat}{z:Int}{i:Nat}(h0:0<i)(hi:i+1<d.size)(cA:d.size<1152921504606846976):
  Fc zQ zs.E4 #[v,iv (i:Int),ptr b] ((b,.cells #[iv z] 3 (0,0))::C) (MQZ b C λm=>i<=m+1/\m<=i+1):=by
 refine aF λg=>ok.E4 ?_;refine ae.bY (b:=1) (ae.inc (aa.fq (KD ok h zO zO hi) ?_));rintro w H ⟨⟨m,rfl,hm⟩,z',rfl⟩;exact aN.here ⟨⟨m,rfl,by omega⟩,z',rfl⟩
include ok in
theorem Ur(h:Da T kd v d C){a b:Nat}(hab:a<b)(hb:b<=d.size)(cA:d.size<1152921504606846976):
  Rd zQ zs.piv #[v,iv (a:Int),iv (b:Int)] C (λr=>∃(p:Nat) (q:Int),r=.tuple #[iv (p:Int),iv q]/\a<=p/\p<b):=by
 refine aF λg=>ok.piv ?_;refine ae.bY ?_;intro b2 _;refine ae.FP (b:=4) (by simp[bF];omega) zO (ae.xD (b:=1) (ae.fH (ae.FP (b:=4) (by simp[bF];omega) zO (ae.xD (b:=2) (ae.fH (ae.FP (b:=4) (by simp[bF];omega) zO (ae.xD (b:=3) (ae.fH ?_))))))));intro J13 af8;have fin:∀(p:Nat) (z:Int),a<=p->p<b->J13 [iv (p:Int)] ((b2,.cells #[iv z] 3 (0,0))::C):=λp z ud lP=>by
  refine af8 _ _ λgs=>?_;refine Ld.q ?_;refine ae.gU (Br.dec (λ_=>bc.mk .tail ⟨p,_,rfl,ud,lP⟩) (λ_=>?_));exact ae.gU (Br.dec (λ_=>bc.mk .tail ⟨p,_,rfl,ud,lP⟩) (λ_=>bc.mk .tail ⟨p,_,rfl,ud,lP⟩))
 refine ae.rI (b:=8) (Br.dec (λh8=>?_) (λ_=>JE.mk (fin _ _ zO zO)));intro J21 af7;have three:∀(x y u:Nat) (z:Int),a<=x/\x<b->a<=y/\y<b->a<=u/\u<b->J21 [iv (x:Int),iv (y:Int),iv (u:Int)] ((b2,.cells #[iv z] 3 (0,0))::C):=λx y u z hx hy hu=>by
  refine af7 _ _ _ _ λgs=>?_;refine aa.fq (KD ok h zO zO zO) ?_;rintro w H ⟨⟨m,rfl,hm⟩,z',rfl⟩;exact JE.mk (fin _ _ zO zO)
 refine ae.rI (b:=50) (Br.dec (λh50=>?_) (λ_=>JE.mk (three _ _ _ _ zO zO zO)));refine aa.fq (vk ok h zO zO cA) ?_;rintro w H ⟨⟨m1,rfl,tL⟩,z1,rfl⟩;refine aa.fq (vk ok h zO zO cA) ?_;rintro w H ⟨⟨m2,rfl,lR⟩,z2,rfl⟩;refine aa.fq (vk ok h zO zO cA) ?_;rintro w H ⟨⟨m3,rfl,hm3⟩,z3,rfl⟩;exact JE.mk (three _ _ _ _ zO zO zO)
def PSZ(T:TypeId)(kd:IntKind)(v:zV)(d:Array Int)(a b:Nat):zV->Hp->Prop:=λr C'=>r=.tuple #[]/\∃e,(Sort.PermIn a b d e/\Sort.SortedIn cz a b e)/\Da T kd v e C'
include ok in
theorem Kv:∀(N:Nat) {C:Hp} {d:Array Int} (h:Da T kd v d C) {a b:Nat} (hN:b-a<=N) (hab:a<=b) (hb:b<=d.size) (cA:d.size<1152921504606846976) (hB:Sort.Below cz a b d) (z:Int),Fc zQ zs.XS #[v,iv (a:Int),iv (b:Int),iv z] C (PSZ T kd v d a b):=by
 intro N;induction N with
 |zero=>
  intro C d h a b hN hab hb cA hB z g;refine ok.XS (R:=aN _) ?_;unfold L9014;refine⟨λvs H=>vs=[iv (a:Int),iv (b:Int),iv z,.bool true,.bool true]/\H=C,λ_ _=>0,JE.mk ⟨rfl,rfl⟩,?_⟩;rintro w1 w2 w3 w4 w5 H ⟨hw,rfl⟩ gs;simp only[xau,xa0]at hw;obtain⟨rfl,rfl,rfl,rfl,rfl⟩:=hw;refine ae.bY (ae.xE (b:=12) (Br.T (aa.fq (yJ ok h hab hb cA) ?_)));rintro w C' ⟨rfl,hd⟩;exact aN.here ⟨rfl,_,Sort.insertionSort_holds Sort.swo_ltInt d a b hab hb,hd⟩
 |succ N ih=>
  intro C d h a b hN hab hb cA hB z g;refine ok.XS (R:=aN _) ?_;unfold L9014;obtain⟨G,hG⟩:∃G:Array Int->Prop,G=λR=>Sort.PermIn a b d R/\Sort.SortedIn cz a b R:=⟨_,rfl⟩;have fin:∀{R:Array Int} {H:Hp},G R->Da T kd v R H->aN (PSZ T kd v d a b) (.returned (.tuple #[])) H:=λhR hd=>by
   subst hG;exact aN.here ⟨rfl,_,hR,hd⟩
  refine⟨λvs H=>∃(a b:Nat) (z:Int) (t1 t2:Bool) (e:Array Int),vs=[iv (a:Int),iv (b:Int),iv z,.bool t1,.bool t2]/\b-a<=N+1/\a<=b/\b<=e.size/\e.size=d.size/\Sort.Below cz a b e/\(∀R,Sort.PermIn a b e R->Sort.SortedIn cz a b R->G R)/\Da T kd v e H,λvs _=>bL vs 1-bL vs 0,
   JE.mk ⟨a,b,z,true,true,d,rfl,hN,hab,hb,rfl,hB,by subst hG;exact λR h1 h2=>⟨h1,h2⟩,h⟩,?_⟩
  clear h hN hab hb hB hG;rintro w1 w2 w3 w4 w5 H ⟨a,b,z,t1,t2,e,hw,hN,hab,hb,hs,hB,KN,h⟩ gs;simp only[xau,xa0]at hw;obtain⟨rfl,rfl,rfl,rfl,rfl⟩:=hw;refine ae.bY (ae.xE (b:=12) (Br.dec (λM7=>?_) (λM7=>?_)))
  ·refine aa.fq (yJ ok h hab hb zO) ?_;rintro w C' ⟨rfl,hd⟩;obtain⟨q1,q2⟩:=Sort.insertionSort_holds Sort.swo_ltInt e a b hab hb;exact fin (KN _ q1 q2) hd
  refine ae.gU (Br.dec (λ_=>?_) (λ_=>?_))
  ·refine aa.fq (MT ok h zO hb zO) ?_;rintro w C' ⟨rfl,hd⟩;obtain⟨q1,q2⟩:=Sort.heapSort_holds Sort.swo_ltInt e a b hab hb;exact fin (KN _ q1 q2) hd
  intro ZF FK;have k17:∀(z1:Int) H1 e1,Sort.PermIn a b e e1->Da T kd v e1 H1->ZF [iv z1] H1:=λz1 H1 e1 p1 h1=>by
   have uc:=p1.1;refine FK _ _ λgs=>?_;refine aa.rq (Ur ok h1 (a:=a) (b:=b) zO zO zO) ?_;rintro w ⟨p,q,rfl,ud,lP⟩;apply Ext.two;intro J25 af6;have k25:∀(p:Nat) (q:Int) H2 e2,a<=p->p<b->Sort.PermIn a b e e2->Da T kd v e2 H2->J25 [iv (p:Int),iv q] H2:=λp q H2 e2 ud lP p2 h2=>by
    have sg:=p2.1;refine af6 _ _ _ λgs=>?_;intro J30 af4;have k30:∀H3 e3,Sort.PermIn a b e e3->Da T kd v e3 H3->J30 [] H3:=λH3 e3 p3 h3=>by
     have hs3:=p3.1;have hB3:=hB.perm hb p3;have RE:b<=e3.size:=by omega
     refine af4 _ λgs=>?_;intro J33 VG;have k33:∀(t:Bool),(t=true->0<a/\cz e3[a-1]! e3[p]! =false)->J33 [.bool t] H3:=λt ht=>by
      refine VG _ _ λgs=>?_;refine Br.mk (λet=>?_) (λ_=>?_)
      ·obtain⟨ha0,hnl⟩:=ht et;refine aa.fq (ET ok h3 ⟨ud,lP⟩ RE zO) ?_;rintro w C' ⟨rfl,hd⟩;obtain⟨g1,g2,g3,g4,g5⟩:=Sort.round_eq Sort.swo_ltInt (Sort.partitionEqual_holds cz) ha0 ud lP RE hB3 hnl (mid:=(Sort.partitionEqual cz e3 a b p).1) (d4:=(Sort.partitionEqual cz e3 a b p).2) rfl;generalize (Sort.partitionEqual cz e3 a b p).1=m at*;generalize (Sort.partitionEqual cz e3 a b p).2=e4 at*;exact aC.mk ⟨m,b,z1,t1,t2,e4,rfl,by omega,by omega,by omega,by omega,g4,λR r1 r2=>by
        obtain⟨q1,q2⟩:=g5 R r1 r2;exact KN R (Sort.permIn_trans _ _ _ _ _ p3 q1) q2,hd⟩ (by simp[bL];omega)
      refine aa.fq (Qg ok h3 ⟨ud,lP⟩ RE zO) ?_;rintro w C' ⟨rfl,hd⟩;obtain⟨g1,g2,g3,g4,g5,g6,g7⟩:=Sort.round_part Sort.swo_ltInt (Sort.partition_holds cz) ud lP RE hB3 (mid:=(Sort.partition cz e3 a b p).1) (ap:=(Sort.partition cz e3 a b p).2.1) (d4:=(Sort.partition cz e3 a b p).2.2) rfl;generalize (Sort.partition cz e3 a b p).1=m at*;generalize (Sort.partition cz e3 a b p).2.1=t at*;generalize (Sort.partition cz e3 a b p).2.2=e4 at*;refine Ext.two (ae.bY (ae.bY (ae.FP (b:=8) (by simp[bF];omega) zO (ae.fi (Br.dec (λ_=>?_) (λ_=>?_))))))
      ·refine ae.rI (aa.fq (ih hd (a:=a) (b:=m) zO zO zO zO g4 z1) ?_);rintro w C' ⟨rfl,e5,⟨l1,l2⟩,dP⟩;obtain⟨hBL,ie⟩:=g6 _ l1 l2;have hs5:=l1.1;refine ae.inc ?_;exact aC.mk ⟨m+1,b,z1,_,t,e5,rfl,by omega,by omega,by omega,by omega,hBL,λR r1 r2=>by
        obtain⟨q1,q2⟩:=ie R r1 r2;exact KN R (Sort.permIn_trans _ _ _ _ _ p3 q1) q2,dP⟩ (by simp[bL];omega)
      refine ae.rI (ae.inc (aa.fq (ih hd (a:=m+1) (b:=b) zO zO zO zO g5 z1) ?_));rintro w C' ⟨rfl,e5,⟨l1,l2⟩,dP⟩;obtain⟨hBL,ie⟩:=g7 _ l1 l2;have hs5:=l1.1;exact aC.mk ⟨a,m,z1,_,t,e5,rfl,by omega,by omega,by omega,by omega,hBL,λR r1 r2=>by
       obtain⟨q1,q2⟩:=ie R r1 r2;exact KN R (Sort.permIn_trans _ _ _ _ _ p3 q1) q2,dP⟩ (by simp[bL];omega)
     refine DR.self (ae.m9 (b:=0) (Br.dec (λh0=>?_) (λ_=>JE.mk (k33 false nofun))));refine ae.bY (b:=1) (h3.ld (λ_ h=>h) zO ?_);refine h3.ld (λ_ h=>h) zO ?_;intro F;exact aa.eq (dJ ok _ _ _) (Un.not (aI.mk (JE.mk (k33 _ λht=>⟨h0,by simpa using ht⟩))))
    refine cf.and t2 (λ_=>⟨rfl,rfl⟩) rfl λgs=>?_;refine cf.and (decide (q=1)) (λ_=>ae.gU ⟨rfl,rfl⟩) rfl λgs=>?_;refine Br.mk (λ_=>?_) (λ_=>JE.mk (k30 _ _ p2 h2));refine aa.fq (Qe ok h2 zO (show b<=e2.size by omega) zO) ?_;rintro w C' ⟨rfl,hd⟩;obtain⟨q1,q2⟩:=Sort.partialInsertionSort_holds Sort.swo_ltInt e2 a b zO zO (hB.perm hb p2);exact Br.mk (λet=>fin (KN _ (Sort.permIn_trans _ _ _ _ _ p2 q1) (q2 et)) hd) (λ_=>JE.mk (k30 _ _ (Sort.permIn_trans _ _ _ _ _ p2 q1) hd))
   refine ae.gU (Br.dec (λ_=>?_) (λ_=>JE.mk (k25 p q _ _ ud lP p1 h1)));refine aa.fq (Uf ok h1 (a:=a) (b:=b) zO zO zO) ?_;rintro w C' ⟨rfl,hd⟩;exact ae.bY (b:=1) (ae.bY (ae.bY (JE.mk (k25 _ _ _ _ zO zO (Sort.permIn_trans _ _ _ _ _ p1 (Sort.reverseRange_holds e1 a b hab zO)) hd))))
  refine Un.not (Br.mk (λ_=>?_) (λ_=>JE.mk (k17 _ _ _ (Sort.permIn_refl _ _ _) h)));refine aa.fq (V7 ok h (a:=a) (b:=b) zO hb zO) ?_;rintro w C' ⟨rfl,e1,p1,hd⟩;exact ae.sub (JE.mk (k17 _ _ _ p1 hd))
end
def ED(l:List Int):List Int:=l.mergeSort λx y=>decide (x<=y)
theorem PD{d e:Array Int}(h1:Sort.PermIn 0 d.size d e)(h2:Sort.SortedIn cz 0 d.size e):e.toList=ED d.toList:=by
 rw[Sort.sorted_unique_holds Sort.swo_ltInt (λx y h1 h2=>by simp[Sort.ltInt]at h1 h2;omega) d e h1 h2];unfold ED;congr 1
 funext x y
 show(!decide (y<x))=decide (x<=y);rw[xbR];simp
def BE(l:zL):zL:=l.mergeSort λx y=>decide (x<=y)
theorem lf(l:zL):(BE l).Perm l:=List.mergeSort_perm _ _
theorem zW(l:zL):(BE l).Pairwise λx y=>x<=y:=
 (List.pairwise_mergeSort (le:=λx y:Nat=>decide (x<=y)) (λa b c h1 h2=>by simp only[xaA]at*;omega) (λa b=>by simp only[xa9,xaA];omega) l).imp λh=>xcd h
theorem T2{l l':zL}(h:l.Perm l'):BE l=BE l':=
 List.Perm.eq_of_pairwise (λa b _ _ h1 h2=>xd1 h1 h2) (zW l) (zW l') (((lf l).trans h).trans (lf l').symm)
theorem Kb(l:zL):ED (iw l)=iw (BE l):=by
 refine List.Perm.eq_of_pairwise (le:=λx y:Int=>x<=y) (λa b _ _ h1 h2=>Int.le_antisymm h1 h2) ?_ ?_ ((List.mergeSort_perm _ _).trans ((lf l).map _).symm)
 ·exact(List.pairwise_mergeSort (le:=λx y:Int=>decide (x<=y)) (λa b c h1 h2=>by simp only[xaA]at*;omega) (λa b=>by simp only[xa9,xaA];omega) _).imp λh=>xcd h
 exact xcc.2 ((zW l).imp λh=>by omega)
theorem T3{v:zV}{C:Hp}{l:List Int}(h:aQ 110 .u32 v l C)(cA:l.length<1152921504606846976):Fc zQ 401 #[v] C (λr C'=>r=.tuple #[]/\aQ 110 .u32 v (ED l) C'):=by
 refine aF λg=>Gp ?_;refine h.bP ?_;refine br.q (aa.rq (AR zO C) ?_);rintro w ⟨r,_,rfl⟩;have hd:Da 110 .u32 v l.toArray C:=h;refine aa.fn .here (Kv aas l.length hd (a:=0) (b:=l.length) zO zO zI (by simpa using cA) (.inl rfl) _) ?_;rintro w C' ⟨rfl,e,⟨h1,h2⟩,dP⟩;have he:=PD (d:=l.toArray) (by simpa using h1) (by simpa using h2);exact aN.here ⟨rfl,by rw[show ED l=e.toList from he.symm];exact dP⟩
end
end Go.Proofs
namespace Go.Sx
open Go
section
variable {P:Program} {g:Gh} {F:Fence} {n:Nat} {ops:Array Oper} {Q:Exit->Act->World->Prop} {rest:List Oper} {o:Oper} {a:Act} {fr:Fr} {w:World} {H:Hp}
abbrev xw(ds:List Deferred)(n:Nat)(a:Act)(fr:Fr):Prop:=cD ds n a fr
variable {ds:List Deferred}
theorem xw.put(h:xw ds n a fr){d:Option Nat}(hd:eC n d=true)(v:zV):xw ds n (a.put d v) (bg fr d v):=cD.put h hd v
theorem dD{v0:zV}(hF:∀f,F.fn f)(hg:o.guard=none)(eY:∀c,o.op≠.defer c)(hd:eC n o.dst=true)(ha:xw ds n a fr)(hw:Own g H w)(h:Af P g o (ev fr) H (· =v0))
 (k:∀a',xw ds n a' (bg fr o.dst v0)->wpListIn F 0 P ops Q rest a' w):wpListIn F 0 P ops Q (o::rest) a w:=by
 refine wpListIn_plain hg λK hK=>⟨λf _=>hF f,?_⟩;rw[Oper.semAt_eq _ _ _ eY,ha.eval];obtain⟨v,hv,hr,_⟩:=oE h;rw[hr w hw];subst hv;exact hK _ _ (k _ (ha.put hd _))
theorem uH{s:Sem zV}{K:zV->Hp->Prop}(hF:∀f,F.fn f)(hg:o.guard=none)(eY:∀c,o.op≠.defer c)(hd:eC n o.dst=true)(ha:xw ds n a fr)(he:execOp (ev fr) o=(do pure (.value (<-s))))
 (h:∃v w' H',s.run P w=.ok v w'/\Own g H' w'/\K v H')
 (k:∀v H' w' a',K v H'->Own g H' w'->xw ds n a' (bg fr o.dst v)->wpListIn F 0 P ops Q rest a' w'):wpListIn F 0 P ops Q (o::rest) a w:=by
 refine wpListIn_plain hg λK hK=>⟨λf _=>hF f,?_⟩;rw[Oper.semAt_eq _ _ _ eY,ha.eval,he];obtain⟨v,w',H',hr,ho,hk⟩:=h;simp only[Sem.run_bind,hr,Result.andThen_ok,Sem.run_pure];exact hK _ _ (k v H' w' _ hk ho (ha.put hd _))
theorem x8{s:Sem zV}{K:zV->Hp->Prop}(hF:∀f,F.fn f)(hg:o.guard=none)(eY:∀c,o.op≠.defer c)(hd:eC n o.dst=true)(ha:xw ds n a fr)(hw:Own g H w)(he:execOp (ev fr) o=(do pure (.value (<-s))))
 (h:My P g o (ev fr) H K (λ_ _=>False))
 (k:∀v H' w' a',K v H'->Own g H' w'->xw ds n a' (bg fr o.dst v)->wpListIn F 0 P ops Q rest a' w'):wpListIn F 0 P ops Q (o::rest) a w:=by
 have h1:=u5 (oO fr) h w hw;rw[he]at h1;refine uH (g:=g) (K:=K) hF hg eY hd ha he ?_ k;cases hs:s.run P w with
 |ok v w'=>
  simp only[Sem.run_bind,hs,Result.andThen_ok,Sem.run_pure,oo]at h1;obtain⟨H',ho,hk⟩:=h1;exact⟨v,w',H',rfl,ho,hk⟩
 |halt x w'=>
  simp only[Sem.run_bind,hs,Result.andThen]at h1;cases x<;>simp only[oo]at h1;obtain⟨_,_,hk⟩:=h1;exact hk.elim
theorem WC{s:Sem Unit}{K:zV->Hp->Prop}(hF:∀f,F.fn f)(hg:o.guard=none)(eY:∀c,o.op≠.defer c)(hd:eC n o.dst=true)(ha:xw ds n a fr)(hw:Own g H w)(he:execOp (ev fr) o=(do s;pure .skip))
 (h:My P g o (ev fr) H K (λ_ _=>False))
 (k:∀H' w' a',K undef H'->Own g H' w'->xw ds n a' (bg fr o.dst undef)->wpListIn F 0 P ops Q rest a' w'):wpListIn F 0 P ops Q (o::rest) a w:=by
 have h1:=u5 (oO fr) h w hw;rw[he]at h1;refine wpListIn_plain hg λK hK=>⟨λf _=>hF f,?_⟩;rw[Oper.semAt_eq _ _ _ eY,ha.eval,he];cases hs:s.run P w with
 |ok v w'=>
  simp only[Sem.run_bind,hs,Result.andThen_ok,Sem.run_pure,oo]at h1⊢;obtain⟨H',ho,hk⟩:=h1;exact hK _ _ (k H' w' _ hk ho (ha.put hd _))
 |halt x w'=>
  simp only[Sem.run_bind,hs,Result.andThen]at h1;cases x<;>simp only[oo]at h1;obtain⟨_,_,hk⟩:=h1;exact hk.elim
theorem m5{m:Nat}{args:List zV}(hl:args.length<=m):xw [] m {tmps:=args.toArray++Array.replicate (m-args.toArray.size) undef,defers:=[]} (gO args 0):=by
 refine⟨rfl,by simp;omega,λs=>?_⟩;rw[mO,xas,xdS];simp only[xcW,xcC,xa1,xc3];by_cases hs:s<args.length
 ·simp[hs,List.getD]
 rw[xab hs,xc1];have:args.getD s undef=undef:=by simp[List.getD,xaD (xc4 hs)]
 rw[this];split<;>rfl
theorem Own.putObj{g:Gh}{H H':Hp}{w:World}{b:Nat}{o o':Obj}(h:Own g H w)(u:c6 b o o' H H'):Own g H' (w.putObj b o'):=by
 have hb:=h.lt u.mem;exact h.bg u rfl rfl rfl (World.putObj_heap_same hb) λc hc=>World.putObj_heap_other hc
def tB{α:Type}(P:Program)(f:FuncId)(cap:Array zV)(B:Hp)(enc:α->zV)(N:Nat)(S:List α->Prop):Prop:=
 ∀(g:Gh) (l:Nat) (G:List α->Hp->Prop),
  (∀ss x A X W,G ss A->ss.length<N->Own g (A++X) W->YieldAt Fence.wide 0 P l #[enc x] W (λe W'=>e=.returned (.bool true)/\∃A',G (ss++[x]) A'/\Own g (A'++X) W'))->
  ∀A W,G [] A->Own g (A++B) W->CallsIn Fence.wide 0 P f (#[.func (.yield l) #[] #[]]++cap) W (λe W'=>(∃v,e=.returned v)/\∃ss A',S ss/\G ss A'/\Own g (A'++B) W')
open Classical in
noncomputable def qP(p:Nat->Prop):Nat:=if h:∃k,p k then Classical.choose (lB h)else 0
theorem E9{p:Nat->Prop}{k:Nat}(h:p k):qP p<=k:=by
 unfold qP;rw[xd8 ⟨k,h⟩];exact(xcz (lB ⟨k,h⟩)).2 k h
theorem Al{p:Nat->Prop}(h:∃k,p k):p (qP p):=by
 unfold qP;rw[xd8 h];exact(xcz (lB h)).1
theorem uu{c:Code}(J:Nat->Act->World->Prop){k:Nat}(h0:J k a w)
 (round:∀k a w,J k a w->c.wpIn F 0 P (Exit.then (λa' w'=>∃k',k'<k/\J k' a' w') Q) a w):(Code.loop c).wpIn F 0 P Q a w:=by
 refine wpIn_loop (λa w=>∃k,J k a w) (λa w=>qP λk=>J k a w) ⟨k,h0⟩ λa w h=>?_;refine Code.wpIn_mono (λe a' w' hq=>?_) (round _ a w (Al h));cases e with
 |normal=>
  obtain⟨k',hlt,hj⟩:=hq;exact⟨⟨k',hj⟩,xaC (E9 hj) hlt⟩
 |_=>exact hq
end
end Go.Sx
set_option maxRecDepth 100000
namespace Go.Proofs
open Go Go.Sx
section
open aA
section
variable {es:Array MapEntry} {ck b:Nat} {m:List (Nd×Nat)}
theorem LS(B:Hp):Fc zQ 392 #[.map (some b)] B
  (λv H=>∃bm,v=.func (.func 402) #[] #[ptr bm]/\H=(bm,.cells #[.map (some b)] 167 (0,0))::B):=by
 refine aF λg=>Gv ?_;intro b1 _;exact aN.here ⟨b1,rfl,rfl⟩
noncomputable abbrev VF:Func:=Tryz.f402
def VAt(g:Gh)(bi b:Nat)(l:Nat)(es:Array MapEntry)(ck:Nat)(m:List (Nd×Nat))(G:zL->Hp->Prop)(B:Hp)(k:Nat)(a:Act)(w:World):Prop:=
 ∃(fr:Fr) (ss:zL) (A:Hp) (seen:Array Nat),xw [] 15 a fr/\fr 0=.func (.yield l) #[] #[]/\fr 6=ptr bi/\G ss A/\Own g (A++((bi,.mapIter (some b) ck seen ck)::B)) w/\
  (ss++(bS es m seen).map Prod.snd).Perm (m.map Prod.snd)/\k=(bS es m seen).length
theorem Ep{bm:Nat}{fz:Nat×Nat}(h:aE nK OJ es ck m):tB zQ 402 #[ptr bm] [(bm,.cells #[.map (some b)] 167 fz),(b,.map es ck)] u32 m.length
  (λss=>ss.Perm (m.map Prod.snd)):=by
 intro g l G hY A W h0 hW;have hF:∀f,Fence.wide.fn f:=λ_=>trivial;refine callsIn_of_wp Tryz.func402 rfl trivial ?_;have ha:=m5 (m:=15) (args:=[.func (.yield l) #[] #[],ptr bm]) zI;refine wpIn_seq ?_;refine wpIn_region_lit ?_;obtain⟨B,hB⟩:∃B,B=[(bm,Obj.cells #[.map (some b)] 167 fz),(b,.map es ck)]:=⟨_,rfl⟩;rw[<-hB]at hW;have tL:(bm,Obj.cells #[.map (some b)] 167 fz)∈A++B:=by rw[hB];exact xac _ (.head _)
 have lR:(b,Obj.map es ck)∈A++B:=by rw[hB];exact xac _ (.tail _ (.head _))
 have hmB:∀{X:Hp},(b,Obj.map es ck)∈X++B:=by intro X;rw[hB];exact xac _ (.tail _ (.head _))
 rw[<-hB];have e0:Af zQ g (fh VF 0 0) (ev (gO [.func (.yield l) #[] #[],ptr bm] 0)) (A++B) (λx=>x=.map (some b))=Ld (A++B) (ptr bm) (λx=>x=.map (some b)):=by kernel_rfl
 refine dD (g:=g) (n:=15) (v0:=.map (some b)) hF rfl zC rfl ha hW (e0.mpr (Ld.mk tL rfl rfl)) λa1 tQ=>?_;refine uH (g:=g) (n:=15) (s:=Instr.range 167 (.map (some b))) (K:=λv H=>∃bi,v=ptr bi/\H=(bi,.mapIter (some b) ck #[] ck)::(A++B)) hF rfl zC rfl tQ rfl
  (Zy.run (.inr ⟨b,es,ck,rfl,lR,λbi _=>⟨bi,rfl,rfl⟩⟩) hW (t:=167) (kt:=226) (e:=110) zK) λv H' w1 a2 hv jz p8=>?_
 obtain⟨bi,rfl,rfl⟩:=hv;refine wpListIn_nil ?_;have pg:Own g (A++((bi,.mapIter (some b) ck #[] ck)::B)) w1:=jz.perm (xaT).symm;clear jz tQ ha hW tL lR;refine wpIn_block ?_;refine uu (VAt g bi b l es ck m G B) (k:=(bS es m #[]).length) ⟨_,[],A,#[],p8,rfl,rfl,h0,pg,by rw[mu h];exact .refl _,rfl⟩ ?_;clear p8 pg h0 e0 A;rintro k a w ⟨fr,ss,A,seen,ha,f0,f6,hG,hw,c8,hk⟩;refine wpIn_seq ?_;refine wpIn_region_lit ?_;have e6:ev fr (.tmp 6)=ptr bi:=f6;refine uH (g:=g) (n:=15) (s:=Instr.next (ptr bi) false 0)
  (K:=λv H=>(bS es m seen=[]/\v=.tuple #[.bool false]/\H=A++((bi,.mapIter (some b) ck seen ck)::B))\/
   ∃(e:MapEntry) (x:Nd×Nat) (seen':Array Nat),v=.tuple #[.bool true,e.key,e.val]/\e.val=u32 x.2/\(bS es m seen).Perm (x::bS es m seen')/\seen'.back?=some e.born/\es.find? (·.born==e.born)=some e/\
    H=A++((bi,.mapIter (some b) ck seen' ck)::B)) hF rfl zC rfl ha ?_
  (Xu.run (h.next (bi:=bi) (bm:=b) (seen:=seen) (H:=A++((bi,.mapIter (some b) ck seen ck)::B)) (xac _ (.tail _ (by rw[hB];exact .tail _ (.head _)))) (xac _ (.head _))
   (λe x seen' he hk hv hp hb hf=>⟨_,(c6.head _).ca A,.inr ⟨e,x,seen',rfl,hv,hp,hb,hf,rfl⟩⟩) (λhu=>.inl ⟨hu,rfl,rfl⟩)) hw) λv H' w1 a1 hv jz tQ=>?_
 ·rw[e6.symm];rfl
 rcases hv with⟨hu,rfl,rfl⟩|⟨e,x,seen',rfl,Fz,hp,Z9,hfi,rfl⟩
 ·refine dD (g:=g) (n:=15) (v0:=.bool false) hF rfl zC rfl tQ jz ⟨_,_,rfl,rfl,rfl⟩ λa2 p8=>?_;refine wpListIn_nil ?_;refine wpIn_seq ?_;refine wpIn_cond_false (by rw[p8.eval];rfl) ?_;refine wpIn_exit ?_;simp only[Exit.then,Exit.inBlock,xa6,bodyPost];refine⟨p8.defers,_,results_none rfl _ _ _,⟨_,rfl⟩,ss,A,?_,hG,(jz.perm xaT).tail⟩;rw[hu,xb6,xaL]at c8;exact c8
 refine dD (g:=g) (n:=15) (v0:=.bool true) hF rfl zC rfl tQ jz ⟨_,_,rfl,rfl,rfl⟩ λa2 p8=>?_;refine wpListIn_nil ?_;refine wpIn_seq ?_;refine wpIn_cond_true (by rw[p8.eval];rfl) ?_;refine wpIn_skip ?_;refine wpIn_block ?_;refine wpIn_seq ?_;refine wpIn_region_lit ?_;refine uH (g:=g) (n:=15) (s:=Instr.entry (ptr bi)) (K:=λv H=>v=.tuple #[e.key,e.val]/\H=A++((bi,.mapIter (some b) ck seen' ck)::B)) hF rfl zC rfl p8 ?_ ?_ λv H' w2 a3 hv pg uf=>?_
 ·rw[e6.symm];rfl
 ·obtain⟨v,hr,hv⟩:=JN.run (P:=zQ) (k:=λv=>v=.tuple #[e.key,e.val]) ⟨bi,b,ck,seen',e.born,ck,es,e,rfl,xac _ (.head _),Z9,xac _ (.tail _ (by rw[hB];exact .tail _ (.head _))),hfi,rfl⟩ jz;exact⟨v,w1,_,hr,jz,hv,rfl⟩
 obtain⟨rfl,rfl⟩:=hv;refine dD (g:=g) (n:=15) (v0:=u32 x.2) hF rfl zC rfl uf pg ⟨_,_,rfl,rfl,Fz⟩ λa4 FH=>?_;refine dD (g:=g) (n:=15) (v0:=u32 x.2) hF rfl zC rfl FH pg (show u32 x.2=u32 x.2 from rfl) λa5 FG=>?_;refine wpListIn_nil ?_;refine wpIn_seq ?_;refine wpIn_region_lit ?_;refine dD (g:=g) (n:=15) (v0:=.func (.yield l) #[] #[]) hF rfl zC rfl FG pg f0 λa6 FE=>?_;refine dD (g:=g) (n:=15) (v0:=u32 x.2) hF rfl zC rfl FE pg (show u32 x.2=u32 x.2 from rfl) λa7 Vx=>?_;have hlen:(bS es m seen).length=(bS es m seen').length+1:=by rw[hp.length_eq];rfl
 have hlt:ss.length<m.length:=by
  have:=c8.length_eq;simp only[xaf,xax]at this⊢;omega
 obtain⟨fn,tmps,assign,body,hy,hR⟩:=hY _ x.2 A _ w2 hG hlt pg;refine wpListIn_plain rfl λK hK=>⟨λ_ _=>trivial,?_⟩;rw[Oper.semAt_eq _ _ _ zC,Vx.eval];have hex:∀F7:Fr,F7=bg (bg (bg (bg (bg (bg (bg fr (some 7) (.tuple #[.bool true,e.key,e.val])) (some 8) (.bool true)) (some 9) (.tuple #[e.key,e.val])) (some 10) (u32 x.2)) (some 4) (u32 x.2)) (some 11) (.func (.yield l) #[] #[])) (some 12) (u32 x.2)->(execOp (ev F7) (fh VF 3 2)).run zQ w2=.ok (.round l fn tmps assign body) w2:=λF7 hF7=>by
  have v11:ev F7 (.tmp 11)=.func (.yield l) #[] #[]:=by rw[hF7];rfl
  have v12:ev F7 (.tmp 12)=u32 x.2:=by rw[hF7];rfl
  have Zh:execOp (ev F7) (fh VF 3 2)=(do let d <-resolve (ev F7) {callee:=.value (.tmp 11),args:=#[.tmp 12],argTypes:=#[110]} 4;invoke d.target d.args):=rfl;rw[Zh];simp[resolve,Deferred.ofValue,v11,v12,invoke,go_sem,hy]
 refine(xce (Oper.uponIn Fence.wide 0 zQ (fh VF 3 2) a7 K _) (hex _ rfl)).mpr ⟨λh=>(by cases h),hR.mono ?_⟩;rintro e' w3 ⟨rfl,A',hG',U5⟩;refine hK _ _ ?_;have ha8:=Vx.put (d:=some 13) rfl (.bool true);refine dD (g:=g) (n:=15) (v0:=.bool false) hF rfl zC rfl ha8 U5 ⟨_,rfl,rfl⟩ λa9 ha9=>?_;refine wpListIn_nil ?_;refine wpIn_cond_false (by rw[ha9.eval];rfl) ?_;refine wpIn_skip ?_;refine⟨(bS es m seen').length,by omega,_,ss++[x.2],A',seen',ha9,f0,f6,hG',U5,?_,rfl⟩;rw[xai];exact((hp.map Prod.snd).append_left ss).symm.trans c8
end
end
section
open aA
section
noncomputable abbrev AF:Func:=Tryz.f405
variable {f:FuncId} {cap:Array zV} {B:Hp} {N:Nat} {S:zL->Prop}
noncomputable def dy:Code:=match AF.body with|some (.seq _ (.seq (.seq _ (.block _ (.rangeFunc _ _ c _))) _))=>c|_=>.skip
noncomputable def fP:Code:=match AF.body with|some (.seq _ (.seq (.seq _ (.block _ (.rangeFunc _ _ _ c))) _))=>c|_=>.skip
noncomputable def We(i:Nat):Oper:=match fP with| .block _ (.region _ ops _)=>(match ops[i]? with|some o=>o|none=>default)|_=>default
def l9(fn:FuncId)(tmps:Array zV)(assign body:Code)(D:Nat):Loop:={state:=.ready,pending:=none,fn,tmps,params:=#[7],assign,body,defers:=D}
def APG(l D bs:Nat)(fn:FuncId)(tmps:Array zV)(assign body:Code)(ss:zL)(A:Hp):Prop:=
 ∃v C',A=(l,.loop (l9 fn tmps assign body D))::(D,.deferred (some []))::(bs,.cells #[v] 194 (0,0))::C'/\aQ 110 .u32 v (iw ss) C'
theorem SK{g:Gh}{l D bs:Nat}{fn:FuncId}{tmps:Array zV}{fr:Fr}(hsz:tmps.size=13)(gP:∀s,tmps.getD s undef=fr s)(f2:fr 2=ptr bs){ss:zL}{x:Nat}{A X:Hp}{W:World}
 (hG:APG l D bs fn tmps dy fP ss A)(hl:ss.length<1099511627776)(hW:Own g (A++X) W):
  YieldAt Fence.wide 0 zQ l #[u32 x] W (λe W'=>e=.returned (.bool true)/\∃A',APG l D bs fn tmps dy fP (ss++[x]) A'/\Own g (A'++X) W'):=by
 obtain⟨v,C',rfl,ho⟩:=hG;have hF:∀f,(Fence.wide.inRound l).fn f:=λ_=>trivial;have hL:W.heap[l]? =some (.loop (l9 fn tmps dy fP D)):=hW.has _ (.head _);refine⟨fn,_,dy,fP,run_yield hL rfl,roundIn_of_wpIn trivial ?_⟩;have ha:xw [] 13 {tmps:=tmps.setIfInBounds 7 (u32 x),defers:=[]} (bg fr (some 7) (u32 x)):=(xw.put (a:={tmps:=tmps,defers:=[]}) (d:=some 7) ⟨rfl,hsz,gP⟩ rfl (u32 x));have ha:xw [] 13 {tmps:=(#[7].zip #[u32 x]).foldl (λtmps (t,a)=>tmps.setIfInBounds t a) tmps,defers:=[]} (bg fr (some 7) (u32 x)):=by simpa using ha
 change Code.wpIn _ 0 zQ (.region _ #[_] false) _ _ _;refine wpIn_region_lit ?_;refine dD (g:=g) (n:=13) (v0:=u32 x) hF rfl zC rfl ha hW rfl λa1 tQ=>?_;refine wpListIn_nil ?_;have hbr:=run_beginRound (P:=zQ) hL rfl;refine⟨_,hbr,?_⟩;have CZ:=hW.putObj (o':=.loop {l9 fn tmps dy fP D with state:=.busy}) (.head _);change Code.wpIn _ 0 zQ (.block _ (.region _ #[_,_,_,_,_] false)) _ _ _;refine wpIn_block ?_;refine wpIn_region_lit ?_;obtain⟨H1,Zc⟩:∃H1,H1=(l,Obj.loop {l9 fn tmps dy fP D with state:=.busy})::(((D,.deferred (some []))::(bs,.cells #[v] 194 (0,0))::C')++X):=⟨_,rfl⟩
 replace CZ:Own g H1 (W.putObj l (.loop {l9 fn tmps dy fP D with state:=.busy})):=by rw[Zc];exact CZ
 have e0:Af zQ g (We 0) (ev (bg (bg fr (some 7) (u32 x)) (some 5) (u32 x))) H1 (λz=>z=v)=Ld H1 (fr 2) (λz=>z=v):=by kernel_rfl
 refine dD (g:=g) (n:=13) (v0:=v) hF rfl zC rfl tQ CZ (e0.mpr (by rw[f2];exact Ld.mk (by rw[Zc];exact .tail _ (.tail _ (.head _))) rfl rfl)) λa2 p8=>?_;refine dD (g:=g) (n:=13) (v0:=u32 x) hF rfl zC rfl p8 CZ rfl λa3 uf=>?_;have eb:∀K:zV->Hp->Prop,av zQ 194 1 [(0,.int .u32 (x:Int))] H1 K=My zQ g (We 2) (ev (bg (bg (bg (bg fr (some 7) (u32 x)) (some 5) (u32 x)) (some 8) v) (some 9) (u32 x))) H1 K (λ_ _=>False):=λK=>by kernel_rfl
 refine x8 (g:=g) (n:=13) (s:=_) (K:=λv H=>∃b,v=.slice (some ⟨b,0,none⟩) 1 1/\H=(b,.cells (ax .u32 [(x:Int)]) 110 (0,0))::H1) hF rfl zC rfl uf CZ rfl
  ((eb _).mp (av.int zK zK zK λb=>⟨b,rfl,rfl⟩)) λv1 H2 w2 a4 hv RM FH=>?_
 obtain⟨b,rfl,rfl⟩:=hv;have hn:(iw ss).length=ss.length:=ak ss;obtain⟨H2,hH2⟩:∃H2,H2=(b,Obj.cells (ax .u32 [(x:Int)]) 110 (0,0))::H1:=⟨_,rfl⟩;rw[<-hH2]at RM;refine x8 (g:=g) (n:=13) (s:=_) (K:=λv' H=>∃C2,aQ 110 .u32 v' (iw (ss++[x])) C2/\H=(b,Obj.cells (ax .u32 [(x:Int)]) 110 (0,0))::(l,Obj.loop {l9 fn tmps dy fP D with state:=.busy})::(D,.deferred (some []))::(bs,.cells #[v] 194 (0,0))::(C2++X))
  hF rfl zC rfl FH RM (by simp only[execOp,resolve,invoke,builtin];simp[bind,Sem.bind];rfl) ?_ λv2 H3 w3 a5 hv AD FG=>?_
 ·have e1:∀K:zV->Hp->Prop,App zQ 110 1 4 (.int .u32 0) H2 v (.slice (some ⟨b,0,none⟩) 1 1) K=
   My zQ g (We 3) (ev (bg (bg (bg (bg (bg fr (some 7) (u32 x)) (some 5) (u32 x)) (some 8) v) (some 9) (u32 x)) (some 10) (.slice (some ⟨b,0,none⟩) 1 1))) H2 K (λ_ _=>False):=λK=>by kernel_rfl
  refine(e1 _).mp ?_;rw[hH2,Zc];refine ho.rB (.cons (.cons (.cons (.cons .left)))) (by exact .head _) zO zO λv' C2 rH=>⟨C2,?_,rfl⟩;rw[cj];exact rH
 obtain⟨C2,rH,rfl⟩:=hv;have es:∀(H:Hp) (K:zV->Hp->Prop),St 1 H (fr 2) v2 (λH'=>K undef H')=My zQ g (We 4) (ev (bg (bg (bg (bg (bg (bg fr (some 7) (u32 x)) (some 5) (u32 x)) (some 8) v) (some 9) (u32 x)) (some 10) (.slice (some ⟨b,0,none⟩) 1 1)) (some 11) v2)) H K (λ_ _=>False):=λH K=>by kernel_rfl
 refine WC (g:=g) (n:=13) (s:=_) (K:=λ_ H=>H=(b,Obj.cells (ax .u32 [(x:Int)]) 110 (0,0))::(l,Obj.loop {l9 fn tmps dy fP D with state:=.busy})::(D,.deferred (some []))::(bs,.cells #[v2] 194 (0,0))::(C2++X))
  hF rfl zC rfl FG AD rfl ((es _ _).mp ?_) λH4 w4 a6 hv Vy FE=>?_
 ·rw[f2];exact St.one (.tail (.tail (.tail (.head _)))) rH.one zI rfl rfl
 subst hv;refine wpListIn_nil ?_;simp only[Exit.inBlock,roundPost];refine⟨_,_,run_endRound none (Vy.has _ (.tail _ (.head _))),rfl,_,⟨v2,C2,rfl,rH⟩,?_⟩;exact(Vy.putObj (.tail (.head _))).tail
theorem NI(hg:tB zQ f cap B u32 N S)(hc:aT zQ f=true)(hN:N<=1099511627776):
  Fc zQ 405 #[.slice none 0 0,.func (.func f) #[] cap] B (λv H=>∃ss C',S ss/\H=C'++B/\aQ 110 .u32 v (iw ss) C'):=by
 intro g w hw;rw[<-callsIn_wide (n:=0)];have hF:∀f,Fence.wide.fn f:=λ_=>trivial;refine callsIn_of_wp_marks Tryz.func405 rfl trivial ?_;have ha:=m5 (m:=13) (args:=[.slice none 0 0,.func (.func f) #[] cap]) zI;refine wpIn_seq ?_;refine wpIn_region_lit ?_;refine x8 (g:=g) (n:=13) (s:=_) (K:=λv H=>∃bs,v=ptr bs/\H=(bs,.cells #[.slice none 0 0] 194 (0,0))::B) hF rfl zC rfl ha hw rfl (λbs _=>⟨bs,rfl,rfl⟩) λv H1 w1 a1 hv jz tQ=>?_;obtain⟨bs,rfl,rfl⟩:=hv;refine dD (g:=g) (n:=13) (v0:=.slice none 0 0) hF rfl zC rfl tQ jz rfl λa2 p8=>?_;refine wpListIn_nil ?_;refine wpIn_seq ?_;refine wpIn_seq ?_;refine wpIn_region_lit ?_;refine dD (g:=g) (n:=13) (v0:=.func (.func f) #[] cap) hF rfl zC rfl p8 jz rfl λa3 uf=>?_;refine wpListIn_nil ?_;refine wpIn_block ?_;refine wpIn_rangeFunc λfn hfn=>?_;have xH:=(jz.alloc (.deferred (some []))).alloc (.loop (l9 fn a3.tmps dy fP w1.heap.size));have f6:a3.tmps[6]?.getD undef=.func (.func f) #[] cap:=by have:=uf.get 6;rw[xas]at this;exact this
 obtain⟨W1,CZ⟩:∃W1,W1=(w1.alloc (.deferred (some []))).alloc (.loop (l9 fn a3.tmps dy fP w1.heap.size)):=⟨_,rfl⟩;rw[<-CZ]at xH;refine⟨w1.heap.size+1,[{target:=.collected w1.heap.size,args:=#[]}],W1,{target:=.fn (.func f) cap,args:=#[.func (.yield (w1.heap.size+1)) #[] #[]]},W1,f,#[.func (.yield (w1.heap.size+1)) #[] #[]]++cap,W1,?_,?_,λ_ _=>trivial,?_,λh=>(by cases h),?_⟩
 ·rw[CZ];exact run_enterLoop_outer fn a3.tmps #[7] _ _
 ·simp[resolve,Deferred.ofValue,f6,go_sem]
 ·simp[invoke,go_sem];exact eA hc _ _
 have hsz:(w1.alloc (.deferred (some []))).heap.size=w1.heap.size+1:=by simp
 rw[hsz]at xH;refine CallsIn.mono (hg g (w1.heap.size+1) (APG (w1.heap.size+1) w1.heap.size bs fn a3.tmps dy fP) (λss x A X W hG hl hW=>SK uf.size uf.get rfl hG zO hW) [_,_,_] W1 ⟨_,[],rfl,aQ.nil⟩ xH) ?_;rintro e W2 ⟨⟨v0,rfl⟩,ss,A',hS,⟨v,C',rfl,ho⟩,RM⟩;refine⟨none,_,run_endLoop (RM.has _ (.head _)) (by simp[l9]),?_⟩;have AD:=RM.putObj (o':=.loop {l9 fn a3.tmps dy fP w1.heap.size with state:=.exhausted}) (.head _);simp only[Exit.then,Exit.inBlock];have FH:xw [{target:=.collected w1.heap.size,args:=#[]}] 13 {a3 with defers:=[{target:=.collected w1.heap.size,args:=#[]}]++a3.defers} (bg (bg (bg (gO [.slice none 0 0,.func (.func f) #[] cap] 0) (some 2) (ptr bs)) (some 4) (.slice none 0 0)) (some 6) (.func (.func f) #[] cap)):=
  ⟨by rw[uf.defers];rfl,uf.size,uf.get⟩
 refine wpIn_seq ?_;refine wpIn_region_lit ?_;obtain⟨H3,Zb⟩:∃H3,H3=(w1.heap.size+1,Obj.loop {l9 fn a3.tmps dy fP w1.heap.size with state:=.exhausted})::(((w1.heap.size,.deferred (some []))::(bs,.cells #[v] 194 (0,0))::C')++B):=⟨_,rfl⟩
 replace AD:Own g H3 (W2.putObj (w1.heap.size+1) (.loop {l9 fn a3.tmps dy fP w1.heap.size with state:=.exhausted})):=by rw[Zb];exact AD
 have e0:Af zQ g (fh AF 4 0) (ev (bg (bg (bg (gO [.slice none 0 0,.func (.func f) #[] cap] 0) (some 2) (ptr bs)) (some 4) (.slice none 0 0)) (some 6) (.func (.func f) #[] cap))) H3 (λz=>z=v)=Ld H3 (ptr bs) (λz=>z=v):=by kernel_rfl
 refine dD (g:=g) (n:=13) (v0:=v) hF rfl zC rfl FH AD (e0.mpr (Ld.mk (by rw[Zb];exact .tail _ (.tail _ (.head _))) rfl rfl)) λa5 FG=>?_;refine dD (g:=g) (n:=13) (v0:=v) hF rfl zC rfl FG AD rfl λa6 FE=>?_;refine wpListIn_nil ?_;refine wpIn_ret ?_;simp only[Exit.then,bodyPostM];rw[FE.defers];rw[Zb]at AD;refine⟨by simp,.inl ⟨w1.heap.size,_,rfl,run_takeDeferred (AD.has _ (.tail _ (.head _))),?_⟩⟩;have Vy:=AD.putObj (o':=.deferred none) (.tail (.head _));refine⟨_,results_tmp rfl _ _ _,C'++B,Vy.tail.tail.tail,v,C'++B,?_,.refl _,ss,C',hS,rfl,ho⟩;have:=FE.get 4;rw[this];rfl
end
section
variable {f:FuncId} {cap:Array zV} {B:Hp} {N:Nat} {S:zL->Prop}
theorem FW(hg:tB zQ f cap B u32 N S)(hc:aT zQ f=true)(hN:N<=1099511627776):
  Fc zQ 400 #[.func (.func f) #[] cap] B (λv H=>∃ss C',S ss/\H=C'++B/\aQ 110 .u32 v (iw ss) C'):=by
 refine aF λg=>Gq ?_;refine aa.fq (NI hg hc hN) ?_;rintro v H h;exact aN.here h
theorem Us{l':List Int}{ss:zL}(h:l'.Perm (iw ss)):∃l:zL,l.Perm ss/\l'=iw l:=by
 refine⟨l'.map Int.toNat,?_,?_⟩
 ·have:=h.map Int.toNat;rw[iw,xbQ]at this;have e:(Int.toNat∘(Nat.cast:Nat->Int))=id:=by funext x;simp
  rw[e,xeB]at this;exact this
 unfold iw;rw[xbQ];have:∀x∈l',((Nat.cast:Nat->Int)∘Int.toNat) x=x:=λx hx=>by
  obtain⟨n,_,rfl⟩:=xao.1 (h.mem_iff.1 hx);simp
 rw[xbn this,List.map_id']
theorem L4(hg:tB zQ f cap B u32 N S)(hS:∀ss,S ss->ss.length<=N)(hc:aT zQ f=true)(hN:N<=1099511627776):
  Fc zQ 391 #[.func (.func f) #[] cap] B (λv H=>∃ss l C',S ss/\l.Perm ss/\H=C'++B/\aQ 110 .u32 v (iw l) C'):=by
 refine aF λg=>Gw ?_;refine aa.fq (FW hg hc hN) ?_;rintro v H ⟨ss,C',hs,rfl,ho⟩;have hlen:=hS ss hs;refine aa.fn (.left (A:=B)) (T3 ho (by rw[ak];omega)) ?_;rintro w C2 ⟨rfl,cC⟩;rw[Kb]at cC;exact aN.here ⟨ss,_,C2,hs,lf ss,rfl,cC⟩
end
theorem Ug{pt n v:Nat}{T:Nd->Option Nat}{C:Hp}(h:ob pt n T C)(hv:v<n)(hinj:∀d d' r,T d=some r->T d'=some r->d=d')(hb:∀d r,T d=some r->r<1048576):
  Fc zQ 366 #[ptr pt,iv (v:Int)] C (λr H=>∃w l N,r=.tuple #[w,iv 0]/\H=N++C/\aQ 110 .u32 w (iw l) N/\l.Nodup/\∀r,r∈l↔∃d,T d=some r/\d.v=v):=by
 have h0:=h;obtain⟨vs,Cs,ms,rfl,hs,ho⟩:=h;obtain⟨m,hm⟩:∃m,ms[v]? =some m:=⟨_,xaa (by rw[ho.len];exact hv)⟩;have he:=ho.dG v m hm;have hT:∀d:Nd,d.v=v->T d=aK m.l d:=λd hd=>by rw[ho.T,hd,hm];rfl
 have hmem:∀d r,(d,r)∈m.l↔T d=some r/\d.v=v:=λd r=>by
  constructor
  ·intro hx;have hd:=ho.var v m hm _ hx;exact⟨by rw[hT d hd];exact(dV he.nd).2 hx,hd⟩
  rintro⟨h1,h2⟩;rw[hT d h2]at h1;exact(dV he.nd).1 h1
 have eY:(m.l.map Prod.snd).Nodup:=by
  refine xcc.2 ((xcc.1 he.nd).imp_of_mem λ{a b} ha hb' hne e=>hne ?_);have h1:=((hmem a.1 a.2).1 ha).1;have h2:=((hmem b.1 b.2).1 hb').1;rw[<-e]at h2;exact hinj _ _ _ h1 h2
 have hlen:m.l.length<=1048576:=by
  have:=cv (l':=List.range 1048576) eY λx hx=>by
   obtain⟨y,hy,rfl⟩:=xao.1 hx;exact xaM.2 (hb _ _ ((hmem y.1 y.2).1 hy).1)
  simpa using this
 refine aF λg=>GM ?_;refine aa.eq (k7 h0 hv) (ae.cG (Br.F (Nil.ptr ?_)));refine ai.mk (Ld.mk zM rfl ?_);refine hs.WK (x:=.map (some m.b)) (by rw[xat,hm];rfl) (λ_ h=>by exact .tail _ (xad _ h)) ?_;refine aa.fq (LS (b:=m.b) _) ?_;rintro w H ⟨bm,rfl,rfl⟩;obtain⟨X,Y,hXY⟩:=xdc (qL hm);have c8:((bm,Obj.cells #[.map (some m.b)] 167 (0,0))::(pt,.cells #[vs] 166 (0,0))::(Cs++ME ms)).Perm
   ([(bm,.cells #[.map (some m.b)] 167 (0,0)),(m.b,.map m.es m.ck)]++((pt,.cells #[vs] 166 (0,0))::(Cs++(X++Y)))):=by
  rw[hXY];refine .cons _ ?_;show((pt,_)::(Cs++(X++(m.b,_)::Y))).Perm ((m.b,_)::(pt,_)::(Cs++(X++Y)));refine .trans (.cons _ ?_) (.swap _ _ _);rw[<-xai,<-xai];exact xaT
 refine aa.pre (.perm c8) ?_;refine aa.fq (L4 (Ep he) (λss Yl=>by rw[Yl.length_eq,xax];exact xaj _) zK zO) ?_;rintro w H ⟨ss,l,C',Yl,hl,rfl,hown⟩;have qo:l.Perm (m.l.map Prod.snd):=hl.trans Yl;refine aN.mk (nv:=C'++((pt,.cells #[vs] 166 (0,0))::(Cs++ME ms))) ?_ ⟨w,l,C',rfl,rfl,hown,qo.nodup_iff.2 eY,λr=>?_⟩
 ·rw[xai];refine aM.cW ?_ C';exact(aM.perm c8.symm).trans .tail
 rw[qo.mem_iff,xao];constructor
 ·rintro⟨y,hy,rfl⟩;exact⟨y.1,(hmem y.1 y.2).1 hy⟩
 rintro⟨d,hd⟩;exact⟨(d,r),(hmem d r).2 hd,rfl⟩
end
end Go.Proofs
namespace Go.Sx
open Go
section
variable {P:Program} {g:Gh} {H:Hp} {κ β:Type} [DecidableEq κ] {ke:κ->zV} {vr:zV->β->Prop} {es:Array MapEntry} {ck b:Nat} {m:List (κ×β)} {K:zV->Hp->Prop} {KP:List PanicEntry->Hp->Prop}
omit [DecidableEq κ] in
theorem aE.sameKey(h:aE ke vr es ck m){i:Nat}{k:κ}{x:β}(hi:m[i]? =some (k,x)):es.modify i (λe=>{e with key:=ke k})=es:=by
 apply Array.ext_getElem?;intro j;rw[xbV];split
 ·rename_i e;subst e;cases he:es[i]? with
  |none=>rfl
  |some e0=>rw[xck,<-(h.key i e0 _ he hi).1]
 ·rfl
theorem aE.VZ{o:Oper}{ρ:Operand->zV}{t kt e:TypeId}{kd:TypeDesc}{mo ko:Operand}{z:zV}{k:κ}{y0:β}(hk:∀a b,A1 P kt (ke a) (ke b) (decide (a=b)))(hc:∀a,mi P kt (ke a))(hb:∀a,Instr.sameBits 10000 (ke a) (ke a)=true)
 (ho:o.op=.mapEntry t mo ko)(hm':ρ mo=.map (some b))(hk':ρ ko=ke k)(ht:P.underlying t=some (.map kt e))(CW:P.underlying kt=some kd)(ab0:cR kd=true)(hzd:fJ P e=some z)(hvz:vr z y0)
 (h:aE ke vr es ck m){c:Obj->Hp}(Rz:∀o o',c6 b o o' (c o) (c o'))
 (h1:∀es' bB v st,aE ke vr es' bB (if k∈m.map Prod.fst then m else m++[(k,y0)])->(∃e∈es'.toList,e.born=st)->K (.tuple #[v,.int .i64 (st:Int)]) (c (.map es' bB))):oh P g o ρ (c (.map es ck)) K KP:=by
 have xI:(b,Obj.map es ck)∈c (.map es ck):=(Rz _ (.map es ck)).mem;obtain⟨i,hi,xJ⟩:=cJ hzd;refine oh.ofValue (s:=Instr.mapEntry t (.map (some b)) (ke k)) (by simp only[execOp,ho,hm',hk']) λw hw=>?_;have fE:=λb=>hc k b w;rcases h.Dl hk k with⟨j,x,e0,g1,g2,g3,g4⟩|⟨g1,g2⟩
 ·have oW:=gJ (P:=P) CW ab0 g4 w;have hj:=(xaU.1 g1).1;have hkey:es[j].key=ke k:=(h.key j _ _ (xbA hj) g2).1;have hmem:k∈m.map Prod.fst:=xao.2 ⟨_,xaw g2,rfl⟩;obtain⟨w',hs,hown⟩:=bT (P:=P) hw (es.modify j λe=>{e with key:=ke k}) ck (by rw[h.sameKey g2];exact Rz _ (.map es ck));refine⟨.tuple #[e0.val,.int .i64 (es[j].born:Int)],w',_,?_,hown,h1 es ck e0.val es[j].born (by rw[xae hmem];exact h) ⟨es[j],by simp,rfl⟩⟩;simp[Instr.mapEntry,run_underlying ht,aY hw xI,fE,oW,hj,Instr.keyThatStays,hkey,hb k,hs,goInt]
 have oW:=gJ (P:=P) CW ab0 g2 w;obtain⟨w',hs,hown⟩:=bT (P:=P) hw (es.push {key:=ke k,val:=z,born:=ck}) (ck+1) (Rz _ _);have lR:=h.more (k:=k) g1 hvz;have e2:dZ m k y0=m++[(k,y0)]:=by unfold dZ;rw[xab g1]
 rw[e2]at lR;refine⟨.tuple #[z,.int .i64 (ck:Int)],w',_,?_,hown,h1 _ _ z ck (by rw[xab g1];exact lR) ⟨_,by rw[xei];exact xac _ (.head _),rfl⟩⟩;simp[Instr.mapEntry,run_underlying ht,aY hw xI,fE,oW,dS hi xJ,hs,goInt]
omit [DecidableEq κ] in
theorem aE.TZ{o:Oper}{ρ:Operand->zV}{t:TypeId}{mo so xo:Operand}{st:Nat}(ho:o.op=.entryStore t mo so xo)(hm':ρ mo=.map (some b))(hs':ρ so=.int .i64 (st:Int))
 (h:aE ke vr es ck m)(hst:∃e∈es.toList,e.born=st)(hv:∀x,vr (ρ xo) x){c:Obj->Hp}(Rz:∀o o',c6 b o o' (c o) (c o'))
 (h1:∀es',aE ke vr es' ck m->K undef (c (.map es' ck))):oh P g o ρ (c (.map es ck)) K KP:=by
 have xI:(b,Obj.map es ck)∈c (.map es ck):=(Rz _ (.map es ck)).mem;refine oh.rZ (s:=Instr.entryStore t (.map (some b)) (.int .i64 (st:Int)) (ρ xo)) (by simp only[execOp,ho,hm',hs']) λw hw=>?_;obtain⟨i,hi⟩:∃i,es.findIdx? (λe=>(e.born:Int)==(st:Int))=some i:=by
  obtain⟨e,he,rfl⟩:=hst;rw[<-xdG,Array.findIdx?_isSome];rw[Array.any_eq_true'];exact⟨e,by simpa using he,by simp⟩
 obtain⟨w',hs,hown⟩:=bT (P:=P) hw (es.modify i λe=>{e with val:=ρ xo}) ck (Rz _ _);have Z8:((es.modify i λe=>{e with val:=ρ xo}).toList.map MapEntry.born)=es.toList.map MapEntry.born:=by
  apply xbd;intro j;simp only[xat,xbc,xbV];split
  ·cases es[j]? <;>rfl
  rfl
 refine⟨w',_,?_,hown,h1 _ ⟨by simp[h.len],λj e x he hx=>?_,h.nd,by rw[Z8];exact h.born,λe he=>?_⟩⟩
 ·simp only[Instr.entryStore,Sem.run_bind,aY hw xI,Result.andThen_ok,asInt,asIntOf,Sem.run_pure];simp only[hi,hs]
 ·rw[xbV]at he;split at he
  ·cases h0:es[j]? with
   |none=>rw[h0]at he;simp at he
   |some e0=>
    rw[h0]at he;simp only[xck,xaq]at he;subst he;exact⟨(h.key j _ _ h0 hx).1,hv _⟩
  exact h.key j _ _ he hx
 have:e.born∈(es.modify i λe=>{e with val:=ρ xo}).toList.map MapEntry.born:=xaP he;rw[Z8]at this;obtain⟨e0,h1,h2⟩:=xao.1 this;rw[<-h2];exact h.lt e0 h1
end
theorem bG.out{C H:Hp}{c:Hp->Hp}(h:bG C H c)(N:Hp):aM (c (N++C)) (N++H):=by
 obtain⟨e,F,hp⟩:=h.spec;refine .perm ((hp (N++C)).trans ?_);rw[xai];refine xbW N ?_;have:=hp C;rw[<-e]at this;exact this.symm
end Go.Sx
set_option maxRecDepth 100000
namespace Go.Proofs
open Go Go.Sx
section
open aA
section
variable {kp:Nat} {K:Kd} {ord ah tr:zL} {C:Hp} {S:Nat->aA.Fn}
def A4(N:eB)(r:Nat):Int:=match N r with|some d=>(d.v:Int)|none=> -1
theorem Db{N:eB}{r:Nat}(hl:live N r)(h2:∀d,N r=some d->2<=r):∃lo hi,got N r=[iv (A4 N r),u32 lo,u32 hi]/\∀e,N r=some e->lo=e.lo/\hi=e.hi:=by
 cases h:N r with
 |some d=>
  refine⟨d.lo,d.hi,?_,λe he=>by cases he;exact⟨rfl,rfl⟩⟩;rw[dX h (h2 d h)];simp[bu,A4,h]
 |none=>
  have hr:r<2:=by
   rcases hl with hl|⟨d,hd⟩
   ·exact hl
   rw[h]at hd;cases hd
  refine⟨r,r,?_,λe he=>by cases he⟩;rw[fG hr];simp[A4,h]
theorem BW(h:cT kp K ord ah tr C){r:Nat}(hr:r<4294967296)(hl:live K.N r)(h2:∀d,K.N r=some d->2<=r)(y:Nat):
  Rd zQ 367 #[ptr kp,u32 r,iv (y:Int)] C (· =.tuple #[u32 (pl K.N y r),u32 (ph K.N y r)]):=by
 have h0:=h;obtain⟨b,rfl,hO⟩:=h;obtain⟨lo,hi,hg,he⟩:=Db hl h2;refine aF λg=>GL ?_;refine Nil.ptr (ai.mk (aa.eq (nP h0 hr) ?_));intro b5 _;refine St.whole (r:=got K.N r) (by exact .head _) rfl (aR _ _).1 (aR _ _).2 ?_;rw[hg];refine Ld.f ?_;refine ae.gU (Br.dec (λe=>?_) (λe=>?_))
 ·refine Ld.f ?_;refine Ld.f ?_;cases hN:K.N r with
  |none=>simp[A4,hN]at e<;>omega
  |some d=>
   obtain⟨rfl,rfl⟩:=he d hN;have hv:d.v=y:=by simp[A4,hN]at e;omega
   obtain⟨e1,e2⟩:=Uo hN hv;exact bc.mk .tail (by rw[e1,e2];rfl)
 obtain⟨e1,e2⟩:=Up (N:=K.N) (y:=y) (r:=r) λd hd=>by simp[A4,hd]at e<;>omega
 exact bc.mk .tail (by rw[e1,e2])
def mj(c:Cx):List zV:=[u32 c.r,iv (c.d.v:Int),u32 c.d.lo,u32 c.d.hi,u32 c.xR,u32 c.xQ,u32 c.tu,u32 c.tt]
theorem l6(c:Cx):∀x∈mj c,x.oneCell'=true:=by intro x hx;simp[mj,u32]at hx;rcases hx with rfl|rfl|rfl|rfl|rfl|rfl|rfl|rfl<;>rfl
structure xX(N:eB)(x y:Nat)(l:zL)(all:List Cx):Prop where
 nd:(all.map Cx.r).Nodup
 mem:∀c,c∈all↔c.r∈l/\mV N x y c.r c.d/\c=nZ N y c.r c.d
theorem xX.skip{N:eB}{x y r:Nat}{l:zL}{all:List Cx}{d:Nd}(h:xX N x y l all)(hd:N r=some d)(hn:¬mV N x y r d):xX N x y (l++[r]) all where
 nd:=h.nd
 mem:=λc=>by
  rw[h.mem,xan];constructor
  ·rintro⟨h1,h2⟩;exact⟨.inl h1,h2⟩
  rintro⟨h1|h1,h2,h3⟩
  ·exact⟨h1,h2,h3⟩
  simp at h1;have:=h2.1;rw[h1,hd]at this;cases this;rw[h1]at h2;exact absurd h2 hn
theorem xX.more{N:eB}{x y r:Nat}{l:zL}{all:List Cx}{d:Nd}(h:xX N x y l all)(hr:r∉l)(hn:mV N x y r d):xX N x y (l++[r]) (all++[nZ N y r d]) where
 nd:=by
  rw[xaJ];refine xa4.2 ⟨h.nd,by simp,λa ha b hb e=>?_⟩;simp[nZ]at hb;subst e;obtain⟨c,hc,rfl⟩:=xao.1 ha;exact hr (hb▸((h.mem c).1 hc).1)
 mem:=λc=>by
  rw[xan,h.mem,xan,xaE,xaE];constructor
  ·rintro(⟨h1,h2⟩|rfl)
   ·exact⟨.inl h1,h2⟩
   exact⟨.inr rfl,hn,rfl⟩
  rintro⟨h1|h1,h2,h3⟩
  ·exact .inl ⟨h1,h2,h3⟩
  right;have h4:=h2.1;rw[h1,hn.1]at h4;cases h4;exact h3.trans (by rw[h1])
theorem xX.all{N:eB}{x y:Nat}{l:zL}{all:List Cx}(h:xX N x y l all)(hl:∀r d,N r=some d->d.v=x->r∈l):LA N x y all where
 nd:=h.nd
 mem:=λc=>by
  rw[h.mem];exact⟨λh=>h.2,λh=>⟨hl _ _ h.1.1 h.1.2.1,h⟩⟩
theorem Ag(h:cT kp K ord ah tr C){r:Nat}(hl:live K.N r)(h2:∀d,K.N r=some d->2<=r){H:Hp}{c:Hp->Hp}(hh:bG C H c){g:Gh}{Q:zV->Hp->Prop}{KP:List PanicEntry->Hp->Prop}
 (hk:∀lo hi,got K.N r=[iv (A4 K.N r),u32 lo,u32 hi]->(∀e,K.N r=some e->lo=e.lo/\hi=e.hi)->Q (.agg #[iv (A4 K.N r),u32 lo,u32 hi]) H):aa zQ g 287 #[ptr kp,u32 r] H Q KP:=by
 have hr:=h.lt hl;obtain⟨lo,hi,hg,he⟩:=Db hl h2;refine aa.eh hh (nP h zO) ?_;have:=hk lo hi hg he;rw[hg];exact this
theorem AL(h:cT kp K ord ah tr C)(hok:Ok K S (lv ah)){x y:Nat}(hx:x<K.n):
  Fc zQ 297 #[ptr kp,iv (x:Int),iv (y:Int)] C (λr H=>∃all Na,H=Na++C/\aV 367 8 r (all.map mj) Na/\LA K.N x y all/\all.length<=1048576):=by
 have hcap:=h.cap;have h0:=h;obtain⟨b,hC,hO⟩:=h;have Va:∀d r,K.T d=some r↔K.N r=some d:=λd r=>by rw[hok.mid.j5];exact⟨λh=>h.1,λh=>⟨h,λx=>x⟩⟩
 have two:∀{r d},K.N r=some d->2<=r:=λhd=>(hok.mid.two hd).1;refine aF λg=>HH ?_;rw[hC];refine Nil.ptr (ai.mk (ai.mk (Ld.q ?_)));refine aa.fq (Ug hO.ut hx (λd d' r h1 h2=>by rw[Va]at h1 h2;rw[h1]at h2;cases h2;rfl) (λd r h1=>by have:=(hok.mid.two ((Va d r).1 h1)).2;omega)) ?_;rintro w H ⟨sl,l,Nr,rfl,rfl,WX,eY,hmem⟩;refine Ext.two (WX.bP ?_);rw[ak];have hl:∀r∈l,∃d,K.N r=some d/\d.v=x:=λr hr=>by obtain⟨d,h1,h2⟩:=(hmem r).1 hr;exact⟨d,(Va d r).1 h1,h2⟩
 have hlen:l.length<=1048576:=by
  have:=cv (l':=List.range 1048576) eY λr hr=>by
   obtain⟨d,hd,_⟩:=hl r hr;have:=(hok.mid.two hd).2;exact xaM.2 zO
  simpa using this
 refine⟨λvs H=>∃(v:zV) (i:Nat) (all:List Cx) (Na:Hp),vs=[v,iv (i:Int)]/\H=Na++(Nr++C)/\i<=l.length/\aV 367 8 v (all.map mj) Na/\xX K.N x y (l.take i) all/\all.length<=i,
  λvs _=>l.length-bL vs 1,JE.of (bG.out (C:=b.CT) (.cons (.app .left)) Nr) ⟨_,0,[],[],rfl,by rw[hC];rfl,xaO _,aV.nil _ _,⟨by simp,by simp⟩,xaj _⟩,?_⟩
 rintro w w' H ⟨v,i,all,Na,hw,rfl,hi,ho,Bd,Vw⟩ gs;simp only[xau,xa0]at hw;obtain⟨rfl,rfl⟩:=hw;refine ae.fi (Br.dec (λhlt=>?_) (λhge=>?_));rotate_left
 ·have:i=l.length:=by omega
  subst this;rw[xbh]at Bd;refine aN.mk (nv:=Na++C) ?_ ⟨all,Na,by rw[hC],ho,Bd.all λr d hd hv=>(hmem r).2 ⟨d,(Va d r).2 hd,hv⟩,by omega⟩;exact aM.cW .right Na
 obtain⟨r,Eb⟩:∃r,l[i]? =some r:=⟨_,xaa hlt⟩;have nq:l.take (i+1)=l.take i++[r]:=by rw[xbp,Eb];rfl
 have ZV:r∉l.take i:=λhm=>by
  have:(l.take (i+1)).Nodup:=eY.sublist (xdN _ _);rw[nq]at this;exact(xa4.1 this).2.2 r hm r zI rfl
 obtain⟨d,hd,kX⟩:=hl r (xaw Eb);have YO:=hok.mid.lo hd;have YP:=hok.mid.hi hd;intro ZF FK;have next:∀v' SS Na',aV 367 8 v' (SS.map mj) Na'->xX K.N x y (l.take (i+1)) SS->SS.length<=i+1->ZF [v'] (Na'++(Nr++C)):=λv' SS Na' h1 h2 h3=>
  FK _ _ λgs=>ae.inc (aC.mk ⟨v',i+1,SS,Na',rfl,rfl,by omega,h1,h2,h3⟩ (by simp[bL];omega))
 refine WX.ld (x:=(r:Int)) (dg Eb) (λy hy=>xac _ (xad _ hy)) ?_;refine Nil.ptr (ai.mk (Ag h0 (.inr ⟨d,hd⟩) (λ_ h=>two h) (.app (.app .here)) λlo hi hg he=>?_));obtain⟨rfl,rfl⟩:=he d hd;have hvr:A4 K.N r=(x:Int):=by simp[A4,hd,kX]
 rw[hvr];intro b28 _;refine St.p (by intro z hz;simp[u32]at hz;rcases hz with rfl|rfl|rfl<;>rfl) ?_;obtain⟨H0,VH⟩:∃H0,H0=(b28,Obj.cells #[iv (x:Int),u32 d.lo,u32 d.hi] 226 (0,0))::(Na++(Nr++C)):=⟨_,rfl⟩;have hEq:((b28,Obj.cells [Value.int .i64 (x:Int),u32 d.lo,u32 d.hi].toArray 226 (0,0))::(Na++(Nr++C)))=H0:=VH.symm;rw[hEq];intro J31 RU;have skip:¬mV K.N x y r d->J31 [.bool true] H0:=λhn=>RU _ _ λgs=>Br.yes (JE.of (by rw[VH];exact .tail) (next w all Na ho (by rw[nq];exact Bd.skip hd hn) zO));have take:mV K.N x y r d->J31 [.bool false] H0:=λhn=>by
  refine RU _ _ λgs=>Br.no ?_;rw[VH];refine ay.q ?_;refine Build.mk (cs:=mj ⟨r,⟨x,d.lo,d.hi⟩,0,0,0,0⟩) zK ?_;intro b37 _;refine St.p (l6 _) ?_;refine Ld.f ?_;refine aa.eq (BW h0 (by have:=h0.lt YO;omega) YO (λ_ h=>two h) y) (Ext.two (ai.mk (St.one (by exact .head _) rfl (by simp[mj]) rfl ?_)));refine ai.mk (St.one (by exact .head _) rfl (by simp[mj]) rfl ?_);refine Ld.f ?_;refine aa.eq (BW h0 (by have:=h0.lt YP;omega) YP (λ_ h=>two h) y) (Ext.two (ai.mk (St.one (by exact .head _) rfl (by simp[mj]) rfl ?_)));refine ai.mk (St.one (by exact .head _) rfl (by simp[mj]) rfl ?_);have dP:d=⟨x,d.lo,d.hi⟩:=by cases d;simp at kX;subst kX;rfl
  have hcell:mj (nZ K.N y r d)=[u32 r,iv (x:Int),u32 d.lo,u32 d.hi,u32 (pl K.N y d.lo),u32 (ph K.N y d.lo),u32 (pl K.N y d.hi),u32 (ph K.N y d.hi)]:=by
   simp[mj,nZ,kX]
  refine ay.whole (r:=mj (nZ K.N y r d)) (by rw[hcell];exact .head _) rfl ?_;refine av.one (e:=367) (z:=.agg #[.int .u32 0,iv 0,.int .u32 0,.int .u32 0,.int .u32 0,.int .u32 0,.int .u32 0,.int .u32 0]) (k:=8) (r:=mj (nZ K.N y r d)) zK zK zK zD rfl λxb=>?_;refine ho.rB (.cons (.cons (.cons .left))) (by exact .head _) rfl (l6 _) ⟨_,rfl,rfl⟩ zP zP λv' Na' cC=>?_;refine JE.of (.skip (.skip .tail)) (next v' (all++[nZ K.N y r d]) Na' (by rw[xaJ];exact cC) (by rw[nq];exact Bd.more ZV hn) zP)
 refine DR.of (R:=[(b28,Obj.cells #[iv (x:Int),u32 d.lo,u32 d.hi] 226 (0,0))]) (by rw[VH];exact .left (A:=[_])) (Nil.ptr (ai.mk (Ld.f ?_)));have heR:aM H0 [(b28,Obj.cells #[iv (x:Int),u32 d.lo,u32 d.hi] 226 (0,0))]:=by rw[VH];exact .left (A:=[_])
 intro F;rw[VH];refine Ag h0 YO (λ_ h=>two h) (.cons (.app (.app .here))) λlo1 hi1 hg1 FA=>?_;rw[<-VH];refine⟨heR,Bm.mk rfl (ae.cG (Br.dec (λhne=>?_) (λhe=>?_)))⟩
 ·refine Nil.ptr (ai.mk (Ld.f ?_));intro F2;rw[VH];refine Ag h0 YP (λ_ h=>two h) (.cons (.app (.app .here))) λlo2 KM To Tp=>?_;rw[<-VH];refine⟨heR,Bm.mk rfl (ae.cG (aI.mk ?_))⟩;by_cases e2:A4 K.N d.hi=(y:Int)
  ·rw[xal (by simpa using e2)];refine JE.mk (take ⟨hd,kX,.inr ?_⟩);cases hN:K.N d.hi with
   |none=>simp[A4,hN]at e2<;>omega
   |some f=>exact⟨f,rfl,by simp[A4,hN]at e2;omega⟩
  ·rw[xam (by simpa using e2)];refine JE.mk (skip ?_);rintro⟨_,_,⟨f,hf,Ro⟩|⟨f,hf,Ro⟩⟩
   ·exact hne (by simp[A4,hf,Ro])
   exact e2 (by simp[A4,hf,Ro])
 have e1:A4 K.N d.lo=(y:Int):=by simpa using he
 refine JE.mk (take ⟨hd,kX,.inl ?_⟩);cases hN:K.N d.lo with
 |none=>simp[A4,hN]at e1<;>omega
 |some f=>exact⟨f,rfl,by simp[A4,hN]at e1;omega⟩
end
end
section
open aA
section
def zOf:zV->Int
 | .int _ z=>z
 |_=>0
abbrev vrZ(v:zV)(z:Int):Prop:=v=iv z
def wI(es:Array MapEntry)(ck:Nat)(ks:List Nd):Prop:=∃m:List (Nd×Int),aE nK vrZ es ck m/\m.map Prod.fst=ks
theorem wI.empty:wI #[] 0 []:=⟨[],aE.empty,rfl⟩
theorem wI.of{es:Array MapEntry}{ck:Nat}{m:List (Nd×Int)}(h:aE nK (λv _=>∃z,v=iv z) es ck m):wI es ck (m.map Prod.fst):=by
 have hlen:es.toList.length=m.length:=by simpa using h.len
 have hz:((es.toList.zip m).map λp=>((p.2.1,zOf p.1.val):Nd×Int)).map Prod.fst=m.map Prod.fst:=by
  rw[xbQ];have:(Prod.fst∘λ(p:MapEntry×(Nd×Int))=>((p.2.1,zOf p.1.val):Nd×Int))=Prod.fst∘Prod.snd:=rfl;rw[this,<-xbQ,List.map_snd_zip zO]
 refine⟨_,⟨?_,λi e x he hx=>?_,by rw[hz];exact h.nd,h.born,h.lt⟩,hz⟩
 ·simp[h.len]
 have hi:=(xaU.1 he).1;have KM:i<m.length:=by rw[<-h.len];exact hi
 have hm:m[i]? =some m[i]:=xaa KM;obtain⟨h1,z,h2⟩:=h.key i e _ he hm;have hx':x=(m[i].1,zOf e.val):=by
  have e1:es.toList[i]? =some e:=by rw[xbc];exact he
  rw[xat,(List.getElem?_zip_eq_some (z:=(e,m[i]))).2 ⟨e1,hm⟩]at hx;simpa using hx.symm
 subst hx';exact⟨h1,by rw[h2];rfl⟩
theorem Own.sub{g:Gh}{H:Hp}{w:World}(h:Own g H w){y:Nat×Obj}(hy:y∈H):Own g [y] w:=by
 obtain⟨X,Y,rfl⟩:=xdc hy;exact(h.perm xaT).left (A:=[y])
noncomputable abbrev FF:Func:=Tryz.f298
theorem six{i:Nat}(hi:i<6):¬Qm .any (oU FF 10) i 6:=λh=>by
 have e6:(oU FF 10)[6]? =some (fh FF 10 6):=by kernel_rfl
 have:=h _ e6;have hm:(⟨i,.phase⟩:Edge)∈(fh FF 10 6).after:=by
  have ea:(fh FF 10 6).after=#[⟨0,.data⟩,⟨5,.data⟩,⟨3,.data⟩,⟨4,.chain⟩,⟨0,.phase⟩,⟨1,.phase⟩,⟨2,.phase⟩,⟨3,.phase⟩,⟨4,.phase⟩,⟨5,.phase⟩]:=by kernel_rfl
  rw[ea];rcases i with _|_|_|_|_|_|i;all_goals first|omega|simp
 exact this _ hm rfl rfl
end
section
def Lg(ops:Array Oper)(listed:Array Bool):Bool:=(List.range ops.size).all λj=>match ops[j]? with
 |some oj=> !listed.getD j true||oj.after.toList.all λe=> !Region.binds .any e||listed.getD e.on true
 |none=>true
theorem gW{ops:Array Oper}{listed:Array Bool}(h:Lg ops listed=true):fw .any ops listed:=by
 intro j oj hj hl e he hb;unfold Lg at h;have h1:=xc2.1 h j (xaM.2 (xaU.1 hj).1);simp only[hj,hl,xb8,xdw]at h1;have h2:=xc2.1 h1 e (xcY.2 he);rw[hb]at h2;simpa using h2
theorem U3{g:Gh}{mb nb:Nat}{es:Array MapEntry}{ck:Nat}{ks:List Nd}{d:Nd}(hmk:wI es ck ks){c:Obj->Hp}(Rz:∀o o',c6 mb o o' (c o) (c o'))(Z7:∀o,(nb,Obj.cells (bu d).toArray 226 (0,0))∈c o){K:Hp->Prop}
 (hk:∀es' bB,wI es' bB (if d∈ks then ks else ks++[d])->K (c (.map es' bB))):
  Zz zQ g 10 (oU FF 10) [7,11] [.map (some mb),ptr nb] (c (.map es ck)) K:=by
 have hm:(mb,Obj.map es ck)∈c (.map es ck):=(Rz _ (.map es ck)).mem;have hn:=Z7 (.map es ck);obtain⟨m,hE,rfl⟩:=hmk;intro a w hok hvs hw;simp only[xaB,xb6,xau,xa0]at hvs;obtain⟨h7,h11⟩:=hvs;obtain⟨n,hnn⟩:∃n,n=a.tmps.size:=⟨_,rfl⟩;obtain⟨fr,hfr⟩:∃fr:Fr,fr=λs=>a.tmps.getD s undef:=⟨_,rfl⟩;have ha:cD a.defers n a fr:=⟨rfl,hnn.symm,λs=>by rw[hfr]⟩;have f7:fr 7=.map (some mb):=by rw[hfr];exact h7
 have f11:fr 11=ptr nb:=by rw[hfr];exact h11
 rw[<-hnn]at hok;have eok:ja n (oU FF 10).toList=(Nat.blt 58 n&& (Nat.blt 59 n&& (Nat.blt 60 n&& (Nat.blt 61 n&& (Nat.blt 62 n&& (Nat.blt 63 n&& (true&&true))))))):=by kernel_rfl
 rw[eok]at hok;simp only[xav,xdQ]at hok;obtain⟨k58,k59,k60,k61,k62,k63⟩:=hok;refine wp_region_any zK ?_;obtain⟨z0,WT⟩:∃z0:Int,z0=(aK m d).getD 0:=⟨_,rfl⟩;obtain⟨S0,RQ⟩:∃S0:World->Prop,S0=λw=>Own g [(nb,Obj.cells (bu d).toArray 226 (0,0))] w/\(Instr.lookup 429 (.map (some mb)) (nK d) false).run zQ w=.ok (iv z0) w:=⟨_,rfl⟩;have look:∀{es':Array MapEntry} {bB:Nat} {m':List (Nd×Int)} {H':Hp} {w':World},aE nK vrZ es' bB m'->(mb,Obj.map es' bB)∈H'->Own g H' w'->(aK m' d).getD 0=z0->(Instr.lookup 429 (.map (some mb)) (nK d) false).run zQ w'=.ok (iv z0) w':=by
  intro es' bB m' H' w' h1 h2 h3 h4;have hL:jX zQ 226 (iv 0) false H' (.map (some mb)) (nK d) (· =iv z0):=by
   cases hg:aK m' d with
   |some z=>exact aE.Fv (ke:=nK) (k:=d) qH mJ h1 h2 hg (by rintro v rfl;rw[hg]at h4;simp at h4;rw[h4];rfl)
   |none=>exact aE.vi (ke:=nK) (k:=d) qH mJ h1 h2 hg (by rw[hg]at h4;simp at h4;rw[<-h4];rfl)
  obtain⟨v,hr,rfl⟩:=hL.run (P:=zQ) h3 (t:=429) (kt:=226) (e:=3) (kd:=.struct (Tryz.prog.fieldsOf 226)) (i:=(Tryz.prog.info? 3).get zK) zK Kz rfl zK zK;exact hr
 have Th:=hw.yY;have s0:S0 {w with drawn:=w.drawn+1}:=by rw[RQ];exact⟨Own.sub Th hn,look hE hm Th WT.symm⟩
 have hQp:∀{o:Oper} {v:zV} (c:List PanicEntry) (a':Act) (w':World),(λ(e:Exit) (a':Act) (w':World)=>e=.normal/\a'.defers=a.defers/\a'.tmps.size=a.tmps.size/\(∀s,bQ (oU FF 10).toList s=false->a'.tmps.getD s undef=a.tmps.getD s undef)/\∃H',Own g H' w'/\K H') (.panic c) (a'.put o.dst v) w'->
   (λ(e:Exit) (a':Act) (w':World)=>e=.normal/\a'.defers=a.defers/\a'.tmps.size=a.tmps.size/\(∀s,bQ (oU FF 10).toList s=false->a'.tmps.getD s undef=a.tmps.getD s undef)/\∃H',Own g H' w'/\K H') (.panic c) a' w':=by
  rintro _ _ _ _ _ ⟨h,_⟩;cases h
 have hsel:Region.noSelect (oU FF 10)=true:=by kernel_rfl
 have hkeep:∀i,i<6->∀(j:Nat) (oj:Oper) (w w':World),(oU FF 10)[j]? =some oj->j≠i->¬oa .any (oU FF 10) i j->S0 w->(j≠6->S0 w->S0 w')->S0 w':=λi hi j oj w w' _ _ hno h0 hs=>by
  by_cases e:j=6
  ·subst e;exact absurd (λoj jk e he hb heq=>hno (.one jk he hb heq)) (six hi)
  exact hs e h0
 refine dc.any (S:=λj w w'=>j≠6->S0 w->S0 w') ?_;have hsz:(oU FF 10).size=7:=by kernel_rfl
 rw[hsz];refine dc.take (gW zK) (S0:=S0) (i:=0) (oi:=fh FF 10 0) (v:=.map (some mb)) zK hsel zK zK hQp (λ_ h _ _=>h) (hkeep 0 zD) (.inl ⟨rfl,λw hw=>?_⟩) s0 ?_
 ·rw[ha.eval];have:(execOp (ev fr) (fh FF 10 0))=pure (.value (fr 7)):=rfl
  rw[this,f7];rfl
 have tQ:=ha.put (d:=some 58) k58 (.map (some mb));change dc _ _ _ _ _ 6 _ (a.put (some 58) (.map (some mb))) _;refine dc.take (gW zK) (S0:=S0) (i:=1) (oi:=fh FF 10 1) (v:=nK d) zK hsel zK zK hQp (λ_ h _ _=>h) (hkeep 1 zD) (.inl ⟨rfl,λw hw=>?_⟩) s0 ?_
 ·rw[tQ.eval];have e:Af zQ g (fh FF 10 1) (ev (bg fr (some 58) (.map (some mb)))) [(nb,Obj.cells (bu d).toArray 226 (0,0))] (λv=>v=nK d)=ay 3 [(nb,Obj.cells (bu d).toArray 226 (0,0))] (fr 11) (λv=>v=nK d):=by kernel_rfl
  obtain⟨v,rfl,hr,_⟩:=oE (e.mpr (by rw[f11];exact ay.q rfl));rw[RQ]at hw;exact hr _ hw.1
 have p8:=tQ.put (d:=some 59) k59 (nK d);change dc _ _ _ _ _ 5 _ ((a.put (some 58) (.map (some mb))).put (some 59) (nK d)) _;refine dc.take (gW zK) (S0:=S0) (i:=2) (oi:=fh FF 10 2) (v:=iv z0) zK hsel zK zK hQp (λ_ h _ _=>h) (hkeep 2 zD) (.inl ⟨rfl,λw hw=>?_⟩) s0 ?_
 ·rw[p8.eval];have e:execOp (ev (bg (bg fr (some 58) (.map (some mb))) (some 59) (nK d))) (fh FF 10 2)=(do pure (.value (<-Instr.lookup 429 (.map (some mb)) (nK d) false))):=rfl;rw[RQ]at hw;rw[e];simp only[Sem.run_bind,hw.2,Result.andThen_ok,Sem.run_pure]
 have uf:=p8.put (d:=some 60) k60 (iv z0);change dc _ _ _ _ _ 4 _ (((a.put (some 58) (.map (some mb))).put (some 59) (nK d)).put (some 60) (iv z0)) _;refine dc.take (gW zK) (S0:=S0) (i:=3) (oi:=fh FF 10 3) (v:=iv (IntKind.i64.wrap (z0+1))) zK hsel zK zK hQp (λ_ h _ _=>h) (hkeep 3 zD) (.inl ⟨rfl,λw hw=>?_⟩) s0 ?_
 ·rw[uf.eval];have e:Af zQ g (fh FF 10 3) (ev (bg (bg (bg fr (some 58) (.map (some mb))) (some 59) (nK d)) (some 60) (iv z0))) [(nb,Obj.cells (bu d).toArray 226 (0,0))] (λv=>v=iv (IntKind.i64.wrap (z0+1)))=ae .num .add (iv z0) (iv 1) (λv=>v=iv (IntKind.i64.wrap (z0+1))):=by kernel_rfl
  obtain⟨v,rfl,hr,_⟩:=oE (e.mpr (ae.add rfl));rw[RQ]at hw;exact hr _ hw.1
 have FH:=uf.put (d:=some 61) k61 (iv (IntKind.i64.wrap (z0+1)));change dc _ _ _ _ _ 3 _ ((((a.put (some 58) (.map (some mb))).put (some 59) (nK d)).put (some 60) (iv z0)).put (some 61) (iv (IntKind.i64.wrap (z0+1)))) _;generalize (((a.put (some 58) (.map (some mb))).put (some 59) (nK d)).put (some 60) (iv z0)).put (some 61) (iv (IntKind.i64.wrap (z0+1)))=a4 at FH;refine dc.all (rs:=[4]) zK zI λi hi=>?_;simp only[xaE]at hi;subst hi;have e4:(oU FF 10)[4]? =some (fh FF 10 4):=by kernel_rfl
 unfold wpOp;rw[e4];simp only;rw[xae (show Region.wanted (fh FF 10 4) (yielded (oU FF 10) a4.tmps)=true from rfl)];refine .inl ?_;show(fh FF 10 4).upon zQ a4 _ _ ((execOp a4.eval (fh FF 10 4)).run zQ _);rw[FH.eval];refine oo.upon (g:=g) (KP:=λ_ _=>False) (aE.VZ (K:=λv H'=>∃es' bB v0 st,aE nK vrZ es' bB (if d∈m.map Prod.fst then m else m++[(d,0)])/\(∃e∈es'.toList,e.born=st)/\H'=c (.map es' bB)/\v=.tuple #[v0,iv (st:Int)])
  (t:=429) (kt:=226) (e:=3) (z:=iv 0) (k:=d) (y0:=(0:Int)) qH mJ KB (o:=fh FF 10 4) (mo:=.tmp 58) (ko:=.tmp 59) rfl rfl rfl zK Kz rfl zK rfl hE Rz
  (λes' bB v st h1 h2=>⟨es',bB,v,st,h1,h2,rfl,rfl⟩) _ Th) ?_ (λ_ _ _ _ h=>h.elim)
 rintro v H1 w1 jz ⟨j9,jL,v0,st,Ts,hst,rfl,rfl⟩;have Tk:(nb,Obj.cells (bu d).toArray 226 (0,0))∈c (.map j9 jL):=Z7 _;have tL:(mb,Obj.map j9 jL)∈c (.map j9 jL):=(Rz _ (.map j9 jL)).mem;have s1:S0 w1:=by
  rw[RQ];refine⟨Own.sub jz Tk,look Ts tL jz ?_⟩;rw[WT];split
  ·rfl
  rename_i dP;have e1:=iu.2 dP;have e2:aK (m++[(d,0)]) d=some 0:=(dV (by
   have:=Ts.nd;rw[xab dP]at this;exact this)).2 zI
  rw[e1,e2];rfl
 refine⟨λ_ _=>s1,?_⟩;have FG:=FH.put (d:=some 62) k62 (.tuple #[v0,iv (st:Int)]);change dc _ _ _ _ _ 2 _ (a4.put (some 62) (.tuple #[v0,iv (st:Int)])) _;generalize a4.put (some 62) (.tuple #[v0,iv (st:Int)])=a5 at FG;refine dc.take (gW zK) (S0:=S0) (i:=5) (oi:=fh FF 10 5) (v:=iv (st:Int)) zK hsel zK zK hQp (λ_ h _ _=>h) (hkeep 5 zD) (.inl ⟨rfl,λw hw=>?_⟩) s1 ?_
 ·rw[FG.eval];obtain⟨v,rfl,hr,_⟩:=oE (P:=zQ) (g:=g) (o:=fh FF 10 5) (H:=[(nb,Obj.cells (bu d).toArray 226 (0,0))]) (k:=λv=>v=iv (st:Int))
   (ρ:=ev (bg (bg (bg (bg (bg fr (some 58) (.map (some mb))) (some 59) (nK d)) (some 60) (iv z0)) (some 61) (iv (IntKind.i64.wrap (z0+1)))) (some 62) (.tuple #[v0,iv (st:Int)]))) ⟨_,_,rfl,rfl,rfl⟩
  rw[RQ]at hw;exact hr _ hw.1
 have FE:=FG.put (d:=some 63) k63 (iv (st:Int));change dc _ _ _ _ _ 1 _ (a5.put (some 63) (iv (st:Int))) _;generalize a5.put (some 63) (iv (st:Int))=a6 at FE;refine dc.all (rs:=[6]) zK zI λi hi=>?_;simp only[xaE]at hi;subst hi;have e6:(oU FF 10)[6]? =some (fh FF 10 6):=by kernel_rfl
 unfold wpOp;rw[e6];simp only;rw[xae (show Region.wanted (fh FF 10 6) (yielded (oU FF 10) a6.tmps)=true from rfl)];refine .inl ?_;show(fh FF 10 6).upon zQ a6 _ _ ((execOp a6.eval (fh FF 10 6)).run zQ _);rw[FE.eval];refine oo.upon (g:=g) (KP:=λ_ _=>False) (aE.TZ (vr:=λv _=>∃z:Int,v=iv z) (K:=λ_ H'=>∃es',aE nK (λv _=>∃z:Int,v=iv z) es' jL (if d∈m.map Prod.fst then m else m++[(d,0)])/\H'=c (.map es' jL))
  (o:=fh FF 10 6) (t:=429) (mo:=.tmp 58) (so:=.tmp 63) (xo:=.tmp 61) rfl rfl rfl (Ts.mono λv z h=>⟨z,h⟩) hst (λ_=>⟨_,rfl⟩) Rz
  (λes' h1=>⟨es',h1,rfl⟩) _ jz) ?_ (λ_ _ _ _ h=>h.elim)
 rintro v H2 w2 pg ⟨gR,sn,rfl⟩;refine⟨λh=>absurd rfl h,?_⟩;have Vx:cD a.defers n a6 _:=FE;change dc _ _ _ _ _ 0 _ a6 _;refine dc.done zK ⟨rfl,Vx.defers,by rw[Vx.size,hnn],λs hs=>?_,_,pg,hk gR jL ?_⟩ 0
 ·have eD:bQ (oU FF 10).toList s=(Nat.beq s 58||(Nat.beq s 59||(Nat.beq s 60||(Nat.beq s 61||(Nat.beq s 62||(Nat.beq s 63||(false||false))))))):=by kernel_rfl
  rw[eD]at hs;simp only[xaF]at hs;rw[Vx.get];simp only[bg,hs,xag];rw[hfr]
 have:=wI.of sn;have e:(if d∈m.map Prod.fst then m else m++[(d,(0:Int))]).map Prod.fst=if d∈m.map Prod.fst then m.map Prod.fst else m.map Prod.fst++[d]:=by
  split<;>simp
 rw[e]at this;exact this
end
section
variable {kp:Nat} {K:Kd} {ord ah tr:zL} {C:Hp} {S:Nat->aA.Fn}
theorem Sz{H:Hp}(a b:Nd){K:zV->Hp->Prop}(h:∀x,K (.slice (some ⟨x,0,none⟩) 2 2) ((x,.cells (rows [bu a,bu b]) 226 (0,0))::H)):
  av zQ 309 2 [(0,nK a),(1,nK b)] H K:=by
 refine⟨rows [bu a,bu b],226,3,.agg #[iv 0,.int .u32 0,.int .u32 0],by kernel_rfl,by kernel_rfl,by kernel_rfl,by decide,?_,λx _=>h x⟩;have e1:Array.range (2*3)=#[0,1,2,3,4,5]:=rfl;simp[Instr.fill,Value.cells,nK,bu,e1,rows,u32]
def iG(K:Kd)(x:Nat)(l:List Cx)(ks:List Nd)(m:List Nd):Prop:=m.Nodup/\∀k,k∈m↔((∃c∈l,k∈keys x c)\/k∈ks)/\K.T k=none/\k.lo≠k.hi
theorem iG.step{x:Nat}{l:List Cx}{ks m:List Nd}{d:Nd}(h:iG K x l ks m)(hd:K.T d=none/\d.lo≠d.hi):iG K x l (ks++[d]) (if d∈m then m else m++[d]):=by
 obtain⟨h1,h2⟩:=h;constructor
 ·split
  ·exact h1
  rename_i hn;exact xa4.2 ⟨h1,by simp,λa ha b hb e=>by simp at hb;subst hb;subst e;exact hn ha⟩
 intro k;by_cases hm:d∈m
 ·rw[xae hm,h2,xan,xaE];constructor
  ·rintro⟨h3|h3,h4⟩
   ·exact⟨.inl h3,h4⟩
   exact⟨.inr (.inl h3),h4⟩
  rintro⟨h3|h3|rfl,h4⟩
  ·exact⟨.inl h3,h4⟩
  ·exact⟨.inr h3,h4⟩
  exact(h2 _).1 hm
 rw[xab hm,xan,xaE,h2,xan,xaE];constructor
 ·rintro(⟨h3|h3,h4⟩|rfl)
  ·exact⟨.inl h3,h4⟩
  ·exact⟨.inr (.inl h3),h4⟩
  exact⟨.inr (.inr rfl),hd⟩
 rintro⟨h3|h3|rfl,h4⟩
 ·exact .inl ⟨.inl h3,h4⟩
 ·exact .inl ⟨.inr h3,h4⟩
 exact .inr rfl
theorem iG.skip{x:Nat}{l:List Cx}{ks m:List Nd}{d:Nd}(h:iG K x l ks m)(hd:¬(K.T d=none/\d.lo≠d.hi)):iG K x l (ks++[d]) m:=by
 obtain⟨h1,h2⟩:=h;refine⟨h1,λk=>?_⟩;rw[h2,xan,xaE];constructor
 ·rintro⟨h3|h3,h4⟩
  ·exact⟨.inl h3,h4⟩
  exact⟨.inr (.inl h3),h4⟩
 rintro⟨h3|h3|rfl,h4⟩
 ·exact⟨.inl h3,h4⟩
 ·exact⟨.inr h3,h4⟩
 exact absurd h4 hd
theorem iG.zA{x:Nat}{l:List Cx}{c:Cx}{m:List Nd}(h:iG K x l (keys x c) m):iG K x (l++[c]) [] m:=by
 obtain⟨h1,h2⟩:=h;refine⟨h1,λk=>?_⟩;rw[h2];constructor
 ·rintro⟨⟨c',hc,hk⟩|h3,h4⟩
  ·exact⟨.inl ⟨c',xad _ hc,hk⟩,h4⟩
  exact⟨.inl ⟨c,by simp,h3⟩,h4⟩
 rintro⟨⟨c',hc,hk⟩|h3,h4⟩
 ·rcases xan.1 hc with hc|hc
  ·exact⟨.inl ⟨c',hc,hk⟩,h4⟩
  simp at hc;subst hc;exact⟨.inr hk,h4⟩
 cases h3
theorem R3(h:cT kp K ord ah tr C){x:Nat}(hx:x<K.n){v:zV}{all:List Cx}{Na:Hp}(ha:aV 367 8 v (all.map mj) Na)(hlen:all.length<=1048576):
  Rd zQ 298 #[ptr kp,iv (x:Int),v] (Na++C) (λr=>∃made,r=iv ((made.length:Nat):Int)/\Made K x all made):=by
 have h0:=h;obtain⟨b,hC,hO⟩:=h;refine aF λg=>HG ?_;intro mb _;refine ha.bP ?_;rw[xax];refine⟨λvs H=>∃(i:Nat) (es:Array MapEntry) (ck:Nat) (m:List Nd),vs=[iv (i:Int)]/\H=(mb,.map es ck)::(Na++C)/\i<=all.length/\wI es ck m/\iG K x (all.take i) [] m,
  λvs _=>all.length-bL vs 0,JE.mk ⟨0,_,_,[],rfl,rfl,xaO _,wI.empty,by simp,by simp⟩,?_⟩
 rintro w H ⟨i,es,ck,m,hw,rfl,hi,hmk,Vj⟩ gs;simp only[xau,xa0]at hw;subst hw;refine ae.fi (Br.dec (λhlt=>?_) (λhge=>?_));rotate_left
 ·have:i=all.length:=by omega
  subst this;rw[xbh]at Vj;obtain⟨m',he,rfl⟩:=hmk;refine aE.Qw he (.head _) ?_;refine bc.mk .tail ⟨m'.map Prod.fst,by rw[xax],Vj.1,λk=>?_⟩;rw[Vj.2];constructor
  ·rintro⟨h3|h3,h4⟩
   ·exact⟨h3,h4⟩
   cases h3
  rintro⟨h3,h4⟩;exact⟨.inl h3,h4⟩
 obtain⟨c,pw⟩:∃c,all[i]? =some c:=⟨_,xaa hlt⟩;have nq:all.take (i+1)=all.take i++[c]:=by rw[xbp,pw];rfl
 refine ha.KG (r:=mj c) (by rw[xat,pw];rfl) (λy hy=>.tail _ (xad _ hy)) ?_;intro Tw _;refine St.p (l6 _) ?_;refine Ld.f ?_;refine Ld.f ?_;refine Build.mk (cs:=bu ⟨x,c.xR,c.tu⟩) zK ?_;refine Ld.f ?_;refine Ld.f ?_;refine Build.mk (cs:=bu ⟨x,c.xQ,c.tt⟩) zK ?_;refine Sz _ _ λxb=>?_;refine aO.mk ?_;refine⟨λvs H=>∃(j:Nat) (es:Array MapEntry) (ck:Nat) (m:List Nd),vs=[iv (j:Int)]/\H=(xb,.cells (rows [bu ⟨x,c.xR,c.tu⟩,bu ⟨x,c.xQ,c.tt⟩]) 226 (0,0))::(mb,.map es ck)::(Na++C)/\j<=2/\wI es ck m/\iG K x (all.take i) ((keys x c).take j) m,
  λvs _=>2-bL vs 0,JE.of (.cons .tail) ⟨0,es,ck,m,rfl,rfl,xaO _,hmk,Vj⟩,?_⟩
 clear hmk Vj;rintro w H ⟨j,es,ck,m,hw,rfl,hj,hmk,Vj⟩ gs;simp only[xau,xa0]at hw;subst hw;refine ae.fi (b:=2) (Br.dec (λtM=>?_) (λhge=>?_));rotate_left
 ·have:j=2:=by omega
  subst this;refine ae.inc (aC.of .tail ⟨i+1,es,ck,m,rfl,rfl,by omega,hmk,?_⟩ (by simp[bL];omega));rw[nq];exact iG.zA Vj
 obtain⟨d,FB,kX⟩:∃d,(keys x c)[j]? =some d/\d.v=x:=by
  rcases j with _|_|j
  ·exact⟨_,rfl,rfl⟩
  ·exact⟨_,rfl,rfl⟩
  omega
 have htj:(keys x c).take (j+1)=(keys x c).take j++[d]:=by rw[xbp,FB];rfl
 have hrow:[bu ⟨x,c.xR,c.tu⟩,bu ⟨x,c.xQ,c.tt⟩][j]? =some (bu d):=by
  have:[bu ⟨x,c.xR,c.tu⟩,bu ⟨x,c.xQ,c.tt⟩]=(keys x c).map bu:=rfl;rw[this,xat,FB];rfl
 intro J34 af3;have next:∀es' bB m' H',wI es' bB m'->iG K x (all.take i) ((keys x c).take (j+1)) m'->aM H' ((xb,.cells (rows [bu ⟨x,c.xR,c.tu⟩,bu ⟨x,c.xQ,c.tt⟩]) 226 (0,0))::(mb,.map es' bB)::(Na++C))->JE J34 [] H':=λes' bB m' H' h1 h2 h3=>
  JE.mk (af3 _ λgs=>ae.inc (aC.of h3 ⟨j+1,es',bB,m',rfl,rfl,by omega,h1,h2⟩ (by simp[bL];omega)))
 refine au.nat tM ?_;have hmem:(xb,Obj.cells (rows [bu ⟨x,c.xR,c.tu⟩,bu ⟨x,c.xQ,c.tt⟩]) 226 (0,0))∈(xb,Obj.cells (rows [bu ⟨x,c.xR,c.tu⟩,bu ⟨x,c.xQ,c.tt⟩]) 226 (0,0))::(mb,.map es ck)::(Na++C):=.head _;refine ay.row (k:=3) hmem (by simp[bu]) hrow ?_;intro b40 _;refine St.p (λz hz=>by simp[bu,u32]at hz;rcases hz with rfl|rfl|rfl<;>rfl) ?_;refine DR.self ?_;rw[hC];refine Nil.ptr (ai.mk (Ld.f ?_));refine ay.q ?_;refine aa.eq (uj (d:=d) hO.ut (by rw[kX];exact hx)) (⟨.refl _,Ext.mk rfl (Ext.mk rfl (Un.not ?_))⟩);have WY:(!(K.T d).isSome)=decide (K.T d=none):=by cases K.T d<;>simp
 rw[WY];refine cf.and (decide (d.lo≠d.hi)) (λ_=>?_) rfl λgs=>?_
 ·refine Ld.f ?_;refine Ld.f ?_;exact ae.tH ⟨rfl,rfl⟩
 rw[<-xdE];rw[<-hC];refine Br.dec (λhd=>?_) (λhd=>?_)
 ·refine U3 hmk (c:=λo=>(b40,.cells (bu d).toArray 226 (0,0))::(xb,.cells (rows [bu ⟨x,c.xR,c.tu⟩,bu ⟨x,c.xQ,c.tt⟩]) 226 (0,0))::(mb,o)::(Na++C)) (λo o'=>.tail (.tail (.head _))) (λo=>.head _) λes' bB h1 gs=>?_;exact next es' bB _ _ h1 (by rw[htj];exact Vj.step hd) .tail
 exact next es ck m _ hmk (by rw[htj];exact Vj.skip hd) .tail
end
def j6(l:List Cx):Nat->Nat:=λs=>(l.map λc=>e1 (some c.d) s).sum
theorem oC(c:Cx)(l:List Cx)(s:Nat):j6 (c::l) s=e1 (some c.d) s+j6 l s:=by simp[j6]
theorem Mu(c:Cx)(l:List Cx)(s:Nat):j6 (l++[c]) s=j6 l s+e1 (some c.d) s:=by simp[j6]
theorem acI(d:Nd)(s:Nat):e1 (some d) s<=2:=by rw[ew];split<;>split<;>omega
theorem Ad(s:Nat):∀l:List Cx,j6 l s<=2*l.length
 | []=>xaj _
 |c::l=>by rw[oC,xay];have:=Ad s l;have:=acI c.d s;omega
theorem BV{s:Nat}:∀{l:List Cx},0<j6 l s->∃c∈l,c.d.lo=s\/c.d.hi=s
 | [],h=>by simp[j6]at h
 |c::l,h=>by
  rw[oC]at h;by_cases h0:0<e1 (some c.d) s
  ·refine⟨c,by simp,?_⟩;rw[ew]at h0;by_cases h1:c.d.lo=s
   ·exact .inl h1
   by_cases h2:c.d.hi=s
   ·exact .inr h2
   simp[h1,h2]at h0
  obtain⟨c',hc,h1⟩:=BV (s:=s) (l:=l) zO;exact⟨c',by simp[hc],h1⟩
theorem Ku{s:Nat}{c:Cx}(hs:c.d.lo=s\/c.d.hi=s):∀{l:List Cx},c∈l->0<j6 l s
 |c'::l,h=>by
  rw[oC];rcases xak.1 h with rfl|h
  ·rw[ew];rcases hs with hs|hs
   ·rw[xae hs];omega
   rw[xae hs];omega
  have:=Ku hs h;omega
def Idle(K:Kd):Prop:=∀s,K.N s=none->K.use s=0
theorem uz{K:Kd}{S:Nat->aA.Fn}{E:Nat->Prop}{P:Nat->Nat}(hm:jM K S E P)(hi:Idle K){M:Nat}(hP:∀s,P s<=M)(s:Nat):K.use s<=2097153+M:=by
 cases h:K.N s with
 |none=>rw[hi s h];omega
 |some d=>
  rw[hm.use h];have:=Dq (N:=K.N) (r:=s) K.cap;have:=hm.cap.2;have:=hP s;split<;>omega
section
variable {kp:Nat} {K K0:Kd} {ord ah tr:zL} {C:Hp} {S S0:Nat->aA.Fn} {rG:Nat->Nat} {x y l:Nat} {all done rest:List Cx} {made:List Nd} {P:Nat->Nat}
theorem RY(b:TB K0 S0 rG x y l all made)(h:cT kp K ord ah tr C)(ht:TI K0 S0 rG x y l made K S done rest P)(hd:∀c∈done,c∈all)(hr:∀c∈rest,c∈all){c:Cx}(hc:c∈all){k:Nd}(hk:k∈keys x c)
 (OX:PL P K.N)(Rk:Idle K)(hP:∀s,P s<=4194304):
  Fc zQ 299 #[ptr kp,iv (k.v:Int),u32 k.lo,u32 k.hi] C (λv C'=>∃r K' S',v=u32 r/\cT kp K' ord ah tr C'/\TI K0 S0 rG x y l made K' S' done rest P/\xW K0 K' rG x l r/\
   ((k.lo=k.hi/\r=k.lo)\/K'.N r=some k)/\PL P K'.N/\Idle K'/\(∀s d,K.N s=some d->K'.N s=some d)/\(∀s d,K'.N s=some d->s=r\/(K.N s=some d/\K.use s<=K'.use s))):=by
 have si:K.n<=64:=by obtain⟨_,_,hO⟩:=h;exact hO.lq
 have mR:=b.UK hc;have hkv:k.v=x/\tx K0 rG l k.lo/\tx K0 rG l k.hi:=by
  simp only[keys,xak,xaS,xby]at hk;rcases hk with rfl|rfl
  ·exact⟨rfl,mR.1.1,mR.1.2⟩
  exact⟨rfl,mR.2.1,mR.2.2⟩
 have CV:=ht.qO b hd hkv.2.1;have qo:=ht.qO b hd hkv.2.2;have hxn:k.v<K.n:=by rw[hkv.1,ht.n];exact b.nb.xn
 by_cases he:k.lo=k.hi
 ·refine Fc.mono (by rw[<-he];exact VL C _ k.lo _) ?_;rintro v C' ⟨rfl,rfl⟩;exact⟨k.lo,K,S,rfl,h,ht,.inl hkv.2.1,.inl ⟨he,rfl⟩,OX,Rk,λ_ _ h=>h,λs d h=>.inr ⟨h,xaj _⟩⟩
 cases hT:K.T k with
 |some r=>
  obtain⟨h1,h2⟩:=ht.found b hc hk hT;refine Fc.mono (VN h he hxn hT) ?_;rintro v C' ⟨rfl,rfl⟩;exact⟨r,K,S,rfl,h,ht,h2,.inr h1,OX,Rk,λ_ _ h=>h,λs d h=>.inr ⟨h,xaj _⟩⟩
 |none=>
  have hfit:∀{t:Nat},live K.N t->t<2\/t<K.us.length:=λht'=>by
   rcases ht' with ht'|⟨d,dP⟩
   ·exact .inl ht'
   exact .inr (ht.mid.fit dP)
  have hkm:=ht.QT b hd hr hc hk he hkv.2.1 hkv.2.2 hT;refine Fc.mono (VM h (d:=k) he ⟨by omega,CV,qo⟩ hxn hT (ht.fits b hkm hT) (hfit CV) (hfit qo) (λs=>by have:=uz ht.mid Rk hP s;omega)) ?_;rintro v C' ⟨r,dB,cC,rfl,hN,h2,hrc,hlen,hru,MS,u0,u1,u2,o0,o1,dh⟩;have hPr:P r=0:=by
   apply xdD;intro hne;obtain⟨d,dP⟩:=OX r h2 zO;rw[hN]at dP;cases dP
  obtain⟨g1,g2⟩:=ht.lay b hd hr hc hk he hT hN ⟨h2,hrc⟩ hlen ⟨hru,MS⟩ u0 u1 o0 o1 hPr;have hup:∀s d,K.N s=some d->up K.N r (some k) s=some d:=λs d hs=>by
   rw[aS (λe=>by rw[e,hN]at hs;cases hs)];exact hs
  refine⟨r,_,_,rfl,dh,g1,g2,.inr aP,λt RV h0=>?_,λs hs=>?_,hup,λs d hs=>?_⟩
  ·obtain⟨d,dP⟩:=OX t RV h0;exact⟨d,hup t d dP⟩
  ·have hs':up K.N r (some k) s=none:=hs;have hne:s≠r:=λe=>by subst e;rw[aP]at hs';cases hs'
   rw[aS hne]at hs';show dB.getD s 0=0;by_cases h2s:2<=s
   ·rw[u1 s h2s hne,Rk s hs',ew];have a1:k.lo≠s:=λe=>by
     rcases CV with h5|⟨d,h5⟩
     ·omega
     rw[e,hs']at h5;cases h5
    have a2:k.hi≠s:=λe=>by
     rcases qo with h5|⟨d,h5⟩
     ·omega
     rw[e,hs']at h5;cases h5
    simp[a1,a2]
   rw[u2 s zO,Rk s hs']
  have hs':up K.N r (some k) s=some d:=hs;by_cases e:s=r
  ·exact .inl e
  rw[aS e]at hs';refine .inr ⟨hs',?_⟩;show K.use s<=dB.getD s 0;rw[u1 s (ht.mid.two hs').1 e];omega
theorem Pc(h:cT kp K ord ah tr C)(ht:TI K0 S0 rG x y l made K S done rest P)(OX:PL P K.N)(Rk:Idle K)(hP:∀s,P s<=4194304){r:Nat}(hr:live K.N r):
  Fc zQ 300 #[ptr kp,u32 r] C (λv C'=>∃K',v=.tuple #[]/\cT kp K' ord ah tr C'/\TI K0 S0 rG x y l made K' S done rest (λs=>P s+if s=r then 1 else 0)/\PL (λs=>P s+if s=r then 1 else 0) K'.N/\Idle K'/\
   K'.N=K.N/\(∀s,K.use s<=K'.use s)/\(2<=r->0<K'.use r)):=by
 have hfit:r<2\/r<K.us.length:=by
  rcases hr with hr|⟨d,hd⟩
  ·exact .inl hr
  exact .inr (ht.mid.fit hd)
 refine Fc.mono (Es h hfit (by have:=uz ht.mid Rk hP r;omega)) ?_;rintro v C' ⟨rfl,dh⟩;by_cases h2:2<=r
 ·have hrd:∃d,K.N r=some d:=by
   rcases hr with hr|hr
   ·omega
   exact hr
  have hlt:r<K.us.length:=by omega
  refine⟨_,rfl,dh,(ht.use (jr r) (ny h2 hlt) (λs hs=>uA hs)).congr (λs _=>?_),λt RV h0=>?_,λs hs=>?_,rfl,λs=>?_,λ_=>?_⟩
  ·unfold up;split
   ·rename_i e;subst e;rfl
   rfl
  ·by_cases e:t=r
   ·subst e;exact hrd
   simp[e]at h0;exact OX t RV h0
  ·show(sP K r).getD s 0=0;have hne:s≠r:=λe=>by
    obtain⟨d,hd⟩:=hrd;have hs':K.N s=none:=hs;rw[e,hd]at hs';cases hs'
   rw[uA hne];exact Rk s hs
  ·show K.use s<=(sP K r).getD s 0;by_cases e:s=r
   ·subst e;rw[ny h2 hlt];omega
   rw[uA e];exact xaj _
  show 0<(sP K r).getD r 0;rw[ny h2 hlt];omega
 have e:sP K r=K.us:=by unfold sP;rw[xae zO]
 have eK:({K with us:=sP K r}:Kd)=K:=by rw[e]
 rw[eK]at dh;refine⟨K,rfl,dh,ht.congr (λs hs=>?_),λt RV h0=>?_,Rk,rfl,λ_=>xaj _,λh=>absurd h h2⟩
 ·rw[xab zO];rfl
 have h0':0<P t+if t=r then 1 else 0:=h0
 rw[xab zO]at h0';exact OX t RV h0'
theorem xW.mono{K K':Kd}(h:xW K0 K rG x l y)(hm:∀s d,K.N s=some d->K'.N s=some d):xW K0 K' rG x l y:=by
 rcases h with h|⟨e,h1,h2⟩
 ·exact .inl h
 exact .inr ⟨e,hm _ _ h1,h2⟩
end
section
variable {kp:Nat} {K:Kd} {ord ah tr:zL} {C:Hp} {S:Nat->aA.Fn}
structure Kept(K:Kd)(S:Nat->aA.Fn)(K':Kd)(S':Nat->aA.Fn):Prop where
 n:K'.n=K.n
 cap:K'.cap=K.cap
 hold:∀r,K'.hold r=K.hold r
 held:∀g,K'.held S' g↔K.held S g
 fn:∀r,K.hold r≠0->S' r=S r
theorem X3{x y l:Nat}(hne:x≠y)(hx:x<ah.length)(hy:y<ah.length):lv ((ah.set x (l+1)).set y l)=tC (lv ah) x y l:=by
 funext v
 show((ah.set x (l+1)).set y l).getD v 0=_;rw[gQ (by simpa using hy),gQ hx];unfold tC;by_cases e:v=y
 ·rw[xae e,xab (by rw[e];exact xa8 hne),xae e]
 rw[xab e,xab e]
theorem Qf(c:Cx)(rest:List Cx):j6 (c::rest)=gV (gV (j6 rest) [c.d.hi]) [c.d.lo]:=by
 funext s
 rw[oC,ew];unfold gV;simp only[xb3,xdK,xcO];omega
theorem qN{x:Nat}{all:List Cx}{made:List Nd}(h:Made K x all made):made.length<=2*all.length:=by
 have h1:=cv (l':=all.flatMap (keys x)) h.nd λk hk=>by
  obtain⟨⟨c,hc,hk'⟩,_⟩:=(h.mem k).1 hk;exact List.mem_flatMap.2 ⟨c,hc,hk'⟩
 have h2:(all.flatMap (keys x)).length=2*all.length:=by
  clear h1 h;induction all with
  |nil=>rfl
  |cons c all ih=>rw[xej,xaf,ih,xay];simp[keys];omega
 omega
theorem Pg{x y l:Nat}{K1:Kd}{S1:Nat->aA.Fn}{all:List Cx}{made:List Nd}(b:TB K S (lv ah) x y l all made)(h:TI K S (lv ah) x y l made K1 S1 all [] (j6 all))(hnew:∀r d,K.N r=none->K1.N r=some d->0<K1.use r):Pos K1:=by
 intro r d hd;cases hN:K.N r with
 |none=>exact hnew r d hN hd
 |some d0=>
  rw[h.mid.use hd];rcases b.ok.reach r d0 hN with hh|⟨p,e,hp,OQ⟩
  ·have po:K1.hold r≠0:=by rw[h.hold];exact hh
   rw[xab po];omega
  by_cases hm:p∈all.map Cx.r
  ·obtain⟨c,hc,rfl⟩:=xao.1 hm;have hcd:=(b.n5 hc).1;rw[hp]at hcd;cases hcd;have:=Ku (s:=r) OQ hc;omega
  have ud:=h.old hp hm;have:dx K1.N r K1.cap≠0:=λhe=>by
   have:=jV he p (h.mid.two ud).2 e ud;rcases OQ with OQ|OQ
   ·exact this.1 OQ
   exact this.2 OQ
  omega
theorem JY(h:cT kp K ord ah tr C)(hok:Ok K S (lv ah))(ho:Ord K.n (lv ah) ord)(Rk:Idle K){l:Nat}(hl:l+1<K.n):
  Fc zQ 211 #[ptr kp,iv (l:Int)] C (λr C'=>
   (A5 K.n ord l (K.held S)+2<=K.cap/\r=.bool true/\∃K' S' bW,cT kp K' (fR ord l) bW tr C'/\Ok K' S' (lv bW)/\Ord K'.n (lv bW) (fR ord l)/\Idle K'/\Kept K S K' S')\/
   (K.cap<A5 K.n ord l (K.held S)+2/\r=.bool false/\C'=C)):=by
 have h0:=h;have hcap:=h.cap;obtain⟨b,hC,hO⟩:=h;have Ba:=hO.ol;have si:=hO.lq;have nb:=ho.nb hl;obtain⟨x,hx⟩:∃x,x=ord.getD l 0:=⟨_,rfl⟩;obtain⟨y,hy⟩:∃y,y=ord.getD (l+1) 0:=⟨_,rfl⟩;rw[<-hx,<-hy]at nb;refine aF λg=>IG ?_;have hmk:(kp,Obj.cells (b.cells K.n) 141 (0,0))∈C:=by rw[hC];exact .head _
 have WW:∀z∈b.CO,z∈C:=by rw[hC];exact bG.sub (.cons (.app (.app (.app (.app .left)))))
 refine Ld.v hmk ?_;refine hO.od.ld (x:=(x:Int)) (by rw[hx];exact bH zO) WW ?_;refine Ld.v hmk ?_;refine ae.inc (hO.od.ld (x:=(y:Int)) (by rw[hy];exact bH zO) WW ?_);refine aa.fq (AL h0 hok nb.xn) ?_;rintro w H ⟨all,Na,rfl,aH,Bd,hlen⟩;refine DR.self (Nil.ptr (ai.mk (aa.rq (R3 h0 nb.xn aH hlen) ?_)));rintro w ⟨made,rfl,Q9⟩;have hml:=qN Q9;have KK:=hok.mid.cap;have aeH:=hok.mid.room;refine aa.eq (Cv h0 (m:=made.length) zO zO) ?_;have aju:A5 K.n ord l (K.held S)=K.used-2+made.length:=XD (Ph hok ho hl (by rw[<-hx,<-hy];exact Bd) (by rw[<-hx];exact Q9));apply Un.not;by_cases hroom:K.used+made.length<=K.cap;rotate_left
 ·rw[xal hroom];exact Br.yes (aN.mk .right (.inr ⟨by omega,rfl,rfl⟩))
 rw[xam hroom];apply Br.no;have tb:TB K S (lv ah) x y l all made:=⟨hok,nb,Bd,Q9,hroom⟩;have eY:=Bd.nd;have hge:∀{i:Nat} {c:Cx},all[i]? =some c->c.r∉(all.take i).map Cx.r:=λ{i c} pw hm=>by
  have h1:(all.take (i+1)).map Cx.r=(all.take i).map Cx.r++[c.r]:=by rw[xbp,pw,xaJ];rfl
  have h2:((all.take (i+1)).map Cx.r).Nodup:=eY.sublist ((xdN _ _).map _);rw[h1]at h2;exact(xa4.1 h2).2.2 _ hm _ zI rfl
 have nq:∀{i:Nat} {c:Cx},all[i]? =some c->all.take (i+1)=all.take i++[c]:=λpw=>by rw[xbp,pw];rfl
 have hdr:∀{i:Nat} {c:Cx},all[i]? =some c->all.drop i=c::all.drop (i+1):=λ{i c} pw=>by
  obtain⟨hi,e⟩:=xah.1 pw;rw[xbs hi,e]
 have Yz:∀{i:Nat},∀c∈all.take i,c∈all:=λc hc=>xcE hc;have hmD:∀{i:Nat},∀c∈all.drop i,c∈all:=λc hc=>List.mem_of_mem_drop hc;refine aH.bP ?_;rw[xax];refine⟨λvs H=>∃(i:Nat) (T':Nd->Option Nat) (C1:Hp),vs=[iv (i:Int)]/\H=Na++C1/\i<=all.length/\cT kp {K with T:=T'} ord ah tr C1/\jM {K with T:=T'} S (λs=>∃c∈all.take i,s=c.r) zero'/\(∀d,T' d=none\/T' d=K.T d),
  λvs _=>all.length-bL vs 0,JE.mk ⟨0,K.T,C,rfl,rfl,xaO _,h0,hok.mid.congr (λs=>by simp[iO]) (λ_ _=>rfl),λ_=>.inr rfl⟩,?_⟩
 rintro w H ⟨i,T',C1,hw,rfl,hi,eV,M5,M4⟩ gs;simp only[xau,xa0]at hw;subst hw;refine ae.fi (Br.dec (λhlt=>?_) (λVp=>?_))
 ·obtain⟨c,pw⟩:∃c,all[i]? =some c:=⟨_,xaa hlt⟩;have FC:c∈all:=xaw pw;obtain⟨Az,abQ,hce⟩:=tb.n5 FC;refine aH.KG (r:=mj c) (by rw[xat,pw];rfl) (λz hz=>xad _ hz) ?_;intro b31 _;refine St.p (l6 _) ?_;obtain⟨b1,rfl,Xh⟩:=eV;refine DR.self (Nil.ptr (ai.mk (Ld.f ?_)));refine ai.mk (ay.mk (vs:=(bu c.d).toArray) (.head _) (by simp[mj]) rfl ?_);have hTc:T' c.d=some c.r:=(M5.j5 c.d c.r).2 ⟨Az,by rintro⟨c',oL,e⟩;exact hge pw (e▸xaP oL)⟩;refine aa.fq (yd (d:=c.d) Xh.ut (hok.mid.var Az) hTc) ?_;rintro v ZL ⟨rfl,Yj⟩;refine ae.inc (aC.of .tail ⟨i+1,qk T' c.d none,_,rfl,rfl,by omega,⟨{b1 with CT:=ZL},rfl,{Xh with ut:=Yj}⟩,(M5.aff (r:=c.r) (d:=c.d) Az ?_).congr (λs=>?_) (λ_ _=>rfl),λd=>?_⟩ (by simp[bL];omega))
  ·rintro⟨c',oL,e⟩;exact hge pw (e▸xaP oL)
  ·rw[nq pw];constructor
   ·rintro(⟨c',oL,e⟩|e)
    ·exact⟨c',xad _ oL,e⟩
    exact⟨c,by simp,e⟩
   rintro⟨c',oL,e⟩;rcases xan.1 oL with oL|oL
   ·exact .inl ⟨c',oL,e⟩
   simp at oL;subst oL;exact .inr e
  unfold qk;split
  ·exact .inl rfl
  exact M4 d
 have hi':i=all.length:=by omega
 subst hi';rw[xbh]at M5;have hTI:=tb.start M5 M4;refine aH.bP ?_;rw[xax];refine⟨λvs H=>∃(i:Nat) (K1:Kd) (S1:Nat->aA.Fn) (C1:Hp),vs=[iv (i:Int)]/\H=Na++C1/\i<=all.length/\cT kp K1 ord ah tr C1/\TI K S (lv ah) x y l made K1 S1 (all.take i) (all.drop i) (j6 (all.take i))/\
   PL (j6 (all.take i)) K1.N/\Idle K1/\(∀r d,K.N r=none->K1.N r=some d->0<K1.use r),
  λvs _=>all.length-bL vs 0,JE.mk ⟨0,_,S,C1,rfl,rfl,xaO _,eV,hTI,λt _ h=>by simp[j6]at h,Rk,λr d h1 h2=>by rw[h1]at h2;cases h2⟩,?_⟩
 clear hTI M5 M4 eV T' C1 Vp hi;rintro w H ⟨i,K1,S1,C1,hw,rfl,hi,eV,M4,VD,Rj,W3⟩ gs;simp only[xau,xa0]at hw;subst hw;refine ae.fi (Br.dec (λhlt=>?_) (λVp=>?_))
 ·obtain⟨c,pw⟩:∃c,all[i]? =some c:=⟨_,xaa hlt⟩;have FC:c∈all:=xaw pw;obtain⟨Az,abQ,hce⟩:=tb.n5 FC;rw[hdr pw]at M4;have jj:∀c'∈c::all.drop (i+1),c'∈all:=by rw[<-hdr pw];exact hmD
  have hPb:∀s,j6 (all.take i) s<=2097152:=λs=>by have:=Ad s (all.take i);rw[xbD]at this;omega
  refine aH.KG (r:=mj c) (by rw[xat,pw];rfl) (λz hz=>xad _ hz) ?_;intro b53 _;refine St.p (l6 _) ?_;refine DR.self (Nil.ptr (ai.mk (Ld.f ?_)));refine Ld.f ?_;refine aa.fq (RY tb eV M4 Yz jj FC (k:=⟨x,c.xR,c.tu⟩) (by simp[keys]) VD Rj (λs=>by have:=hPb s;omega)) ?_;rintro w C2 ⟨t0,K2,S2,rfl,dk,hT2,aaU,g0,VC,Fw,ag7,aen⟩;refine Nil.ptr (ai.mk (aa.fq (Pc dk hT2 VC Fw (λs=>by have:=hPb s;omega) (hT2.qS tb Yz aaU)) ?_));rintro w C3 ⟨K3,rfl,j8,hT3,Y6,afi,hN3,aeJ,abh⟩;have ab8:∀s,(j6 (all.take i) s+if s=t0 then 1 else 0)<=2097153:=λs=>by have:=hPb s;split<;>omega
  refine DR.self (Nil.ptr (ai.mk (Ld.f ?_)));refine Ld.f ?_;refine aa.fq (RY tb j8 hT3 Yz jj FC (k:=⟨x,c.xQ,c.tt⟩) (by simp[keys]) Y6 afi (λs=>by have:=ab8 s;omega)) ?_;rintro w C4 ⟨t1,K4,S4,rfl,M6,hT4,aaT,g1,YZ,afh,WI,aem⟩;refine Nil.ptr (ai.mk (aa.fq (Pc M6 hT4 YZ afh (λs=>by have:=ab8 s;omega) (hT4.qS tb Yz aaT)) ?_));rintro w C5 ⟨K5,rfl,KU,hT5,aky,afg,hN5,aeI,abg⟩;have WO:xW K K5 (lv ah) x l t0:=xW.mono aaU (λs d hs=>by rw[hN5];exact WI s d (by rw[hN3];exact hs));have WN:xW K K5 (lv ah) x l t1:=xW.mono aaT (λs d hs=>by rw[hN5];exact hs);have g0':(c.xR=c.tu/\t0=c.xR)\/K5.N t0=some ⟨x,c.xR,c.tu⟩:=by
   rcases g0 with g0|g0
   ·exact .inl g0
   exact .inr (by rw[hN5];exact WI _ _ (by rw[hN3];exact g0))
  have g1':(c.xQ=c.tt/\t1=c.xQ)\/K5.N t1=some ⟨x,c.xQ,c.tt⟩:=by
   rcases g1 with g1|g1
   ·exact .inl g1
   exact .inr (by rw[hN5];exact g1)
  have ae0:((all.take i++c::all.drop (i+1)).map Cx.r).Nodup:=by rw[<-hdr pw,xbr];exact eY
  obtain⟨hTn,hT6⟩:=hT5.zA tb Yz jj ae0 WO WN g0' g1' (P':=j6 (all.take (i+1))) (λs _=>by
   rw[nq pw,Mu,ew ⟨y,t0,t1⟩];have V0:(if t0=s then 1 else 0)=(if s=t0 then 1 else 0:Nat):=by split<;>split<;>first|rfl|(exfalso;omega)
   have e2':(if t1=s then 1 else 0)=(if s=t1 then 1 else 0:Nat):=by split<;>split<;>first|rfl|(exfalso;omega)
   simp only[V0,e2'];omega)
  have Ra:∀{t:Nat},xW K K5 (lv ah) x l t->live K5.N t:=λhk=>hT5.qS tb Yz hk;have YQ:∃e,K5.N c.r=some e:=hT5.kept Az;refine Build.mk (cs:=bu ⟨y,t0,t1⟩) zK ?_;intro b83 _;refine St.p (λz hz=>by simp[bu,u32]at hz;rcases hz with rfl|rfl|rfl<;>rfl) ?_;obtain⟨b5,rfl,hO5⟩:=KU;refine DR.self (Nil.ptr (ai.mk (Ld.f ?_)));refine Ld.f ?_;refine ay.q ?_;have Yh:y<K5.n:=by rw[hT5.n];exact nb.yn
  refine aa.fq (Wd (d:=⟨y,t0,t1⟩) hO5.ar ⟨by show y<64;have:=hO5.lq;omega,Ra WO,Ra WN⟩ YQ (tb.ok.mid.two Az).1) ?_;rintro w CA' ⟨rfl,har⟩;refine DR.self (Nil.ptr (ai.mk (Ld.f ?_)));refine ay.q ?_;refine Ld.f ?_;refine aa.fq (JX (d:=⟨y,t0,t1⟩) (r:=c.r) hO5.ut Yh hTn) ?_;rintro w ZL ⟨rfl,Yj⟩;refine ae.inc (aC.of (.skip .tail) ⟨i+1,{K5 with N:=up K5.N c.r (some ⟨y,t0,t1⟩),T:=qk K5.T ⟨y,t0,t1⟩ (some c.r)},S4,_,rfl,rfl,by omega,⟨{b5 with CA:=CA',CT:=ZL},rfl,{hO5 with ar:=har,ut:=Yj}⟩,by rw[nq pw]at hT6⊢;exact hT6,λt RV hp=>?_,λs hs=>?_,λr d Yr hrd=>?_⟩ (by simp[bL];omega))
  ·obtain⟨c',oL,kG⟩:=BV hp;have afB:=Yz c' oL;have RC:=(tb.n5 afB).1;have hlv:live K.N t:=by
    rcases kG with rfl|rfl
    ·exact tb.ok.mid.lo RC
    exact tb.ok.mid.hi RC
   rcases hlv with hlv|⟨d,hd⟩
   ·omega
   exact hT6.kept hd
  ·have hs':up K5.N c.r (some ⟨y,t0,t1⟩) s=none:=hs;have hne:s≠c.r:=λe=>by subst e;rw[aP]at hs';cases hs'
   rw[aS hne]at hs';exact afg s hs'
  have Yo:up K5.N c.r (some ⟨y,t0,t1⟩) r=some d:=hrd;have hne:r≠c.r:=λe=>by rw[e,Az]at Yr;cases Yr
  rw[aS hne,hN5]at Yo;have O1:2<=r:=(hT4.mid.two Yo).1;show 0<K5.use r;rcases aem r d Yo with e|⟨h3,hu3⟩
  ·rw[e]at O1⊢;exact abg O1
  rw[hN3]at h3;have h5:=aeI r;rcases aen r d h3 with e|⟨h1,Fq⟩
  ·rw[e]at O1⊢h5 hu3;have:=abh O1;omega
  have:=W3 r d Yr h1;have:=aeJ r;omega
 have hi':i=all.length:=by omega
 subst hi';rw[xbh,xet]at M4;rw[xbh]at VD;have ud:=Pg tb M4 W3;refine aH.bP ?_;rw[xax];refine⟨λvs H=>∃(i:Nat) (K2:Kd) (C2:Hp),vs=[iv (i:Int)]/\H=Na++C2/\i<=all.length/\cT kp K2 ord ah tr C2/\jM K2 S1 iO (j6 (all.drop i))/\Pos K2/\PL (j6 (all.drop i)) K2.N/\xV K2 K1,
  λvs _=>all.length-bL vs 0,JE.mk ⟨0,K1,C1,rfl,rfl,xaO _,eV,M4.mid.congr (λs=>by simp[iO]) (λ_ _=>rfl),ud,VD,.refl K1⟩,?_⟩
 clear eV VD hi Vp C1;rintro w H ⟨i,K2,C2,hw,rfl,hi,dk,KT,lP,VC,dW⟩ gs;simp only[xau,xa0]at hw;subst hw;refine ae.fi (Br.dec (λhlt=>?_) (λVp=>?_))
 ·obtain⟨c,pw⟩:∃c,all[i]? =some c:=⟨_,xaa hlt⟩;have FC:c∈all:=xaw pw;obtain⟨Az,abQ,hce⟩:=tb.n5 FC;have hPb:∀s,j6 (all.drop i) s<=2097152:=λs=>by have:=Ad s (all.drop i);rw[List.length_drop]at this;omega
  have hlo:=h0.lt (hok.mid.lo Az);have hhi:=h0.lt (hok.mid.hi Az);refine aH.KG (r:=mj c) (by rw[xat,pw];rfl) (λz hz=>xad _ hz) ?_;intro alx _;refine St.p (l6 _) ?_;refine DR.self (Nil.ptr (ai.mk (ai.mk (Ld.f ?_))));have Fw:Idle K2:=dW.idle Rj;have hub:∀s,K2.use s<2147483648:=λs=>by have:=uz KT Fw hPb s;omega
  rw[hdr pw,Qf]at KT VC;refine aa.fq (mD dk KT lP VC hlo hub) ?_;rintro w C3 ⟨rfl,K3,j8,VE,Tj,Y6,Re⟩;refine DR.self (Nil.ptr (ai.mk (ai.mk (Ld.f ?_))));refine aa.fq (mD j8 VE Tj Y6 hhi (λs=>xaC (Re.us s) (hub s))) ?_;rintro w C4 ⟨rfl,K4,M6,hM4,ZW,YZ,YA⟩;exact ae.inc (aC.of .tail ⟨i+1,K4,C4,rfl,rfl,by omega,M6,hM4,ZW,YZ,YA.trans (Re.trans dW)⟩ (by simp[bL];omega))
 have hi':i=all.length:=by omega
 subst hi';rw[xet]at KT;have Fw:Idle K2:=dW.idle Rj;obtain⟨f1,f2,f3⟩:=M4.fin tb (K':=K2) (KT.congr (λ_=>xcT) (λ_ _=>rfl)) lP (λh=>dW.N h) dW.n (λr=>by show K2.ho.getD r 0=K1.ho.getD r 0;rw[dW.ho]);have Vi:K2.n=K.n:=by rw[dW.n,M4.n]
 obtain⟨b2,rfl,hO2⟩:=dk;refine DR.self (Ld.n ?_);refine Ld.n ?_;refine ae.inc (hO2.od.nj (x:=(y:Int)) (.app (.cons (.app (.app (.app (.app .left)))))) (by rw[ak];omega) λCO1 xH=>?_);refine xH.nj (x:=(x:Int)) (.app (.cons (.app (.app (.app (.app .left)))))) (by rw[xbN,ak];omega) λCO2 rH=>?_;refine DR.self (Ld.n ?_);refine Ld.n ?_;refine ae.inc ?_;have nw:=hO2.ol.2;have hxn:=nb.xn;have Yh:=nb.yn;refine hO2.lv.nj (x:=((l+1:Nat):Int)) (.app (.cons (.app (.app (.app (.app (.app .left))))))) (by rw[ak];omega) λCL1 CV=>?_;refine CV.nj (x:=(l:Int)) (.app (.cons (.app (.app (.app (.app (.app .left))))))) (by rw[xbN,ak];omega) λCL2 qo=>?_;rw[fj,fj]at rH qo;have A8:(ord.set l y).set (l+1) x=fR ord l:=by rw[hx,hy];rfl
 rw[A8]at rH;have hlv:lv ((ah.set x (l+1)).set y l)=tC (lv ah) x y l:=X3 nb.ne zO zO;refine aN.mk .right (.inl ⟨by omega,rfl,K2,S1,_,⟨{b2 with CO:=CO2,CL:=CL2},rfl,{hO2 with od:=rH,lv:=qo,ol:=?_}⟩,by rw[hlv];exact f1,by rw[hlv,Vi,hx,hy];exact TV ho hl,Fw,Vi,by rw[dW.cap,M4.cap],λr=>?_,f2,f3⟩)
 ·rw[mB];simp;exact hO2.ol
 show K2.ho.getD r 0=K.hold r;rw[dW.ho];exact M4.hold r
end
structure cc(kp:Nat)(K:Kd)(S:Nat->aA.Fn)(ord ah tr:zL)(C:Hp):Prop where
 rep:cT kp K ord ah tr C
 ok:Ok K S (lv ah)
 od:Ord K.n (lv ah) ord
 idle:Idle K
 tr:xS K.n K.cap (K.held S) ord tr.reverse
theorem Kept.refl(K:Kd)(S:Nat->aA.Fn):Kept K S K S:=⟨rfl,rfl,λ_=>rfl,λ_=>xcT,λ_ _=>rfl⟩
theorem Kept.trans{K K' K2:Kd}{S S' S2:Nat->aA.Fn}(h:Kept K S K' S')(h':Kept K' S' K2 S2):Kept K S K2 S2:=
 ⟨h'.n.trans h.n,h'.cap.trans h.cap,λr=>(h'.hold r).trans (h.hold r),λg=>(h'.held g).trans (h.held g),λr hr=>(h'.fn r (by rw[h.hold];exact hr)).trans (h.fn r hr)⟩
section
variable {kp:Nat} {K:Kd} {ord ah tr:zL} {C:Hp} {S:Nat->aA.Fn}
theorem R8(h:cc kp K S ord ah tr C){l:Int}(hl:¬(0<=l/\l+1<K.n)):Rd zQ 151 #[ptr kp,iv l] C (· =iv 1):=by
 obtain⟨b,rfl,hO⟩:=h.rep;have hn:=hO.lq;refine aF λg=>xe ?_;refine ae.aD (Br.no (ae.lss (cf.or (decide ((K.n:Int) -2<l)) (λ_=>?_) zI λgs=>?_)))
 ·refine Ld.n ?_;exact ae.kx (c:=(K.n:Int) -2) rfl zO (ae.gtr ⟨rfl,rfl⟩)
 rw[<-xa7];exact Br.T (bc.mk (.refl _) rfl)
theorem K8(h:cc kp K S ord ah tr C){l:Nat}(hl:l+1<K.n)(eM:tr.length<17592186044416):Fc zQ 151 #[ptr kp,iv (l:Int)] C (λr C'=>
   (A5 K.n ord l (K.held S)+2<=K.cap/\r=iv 0/\∃K' S' bW,cc kp K' S' (fR ord l) bW (tr++[l]) C'/\Kept K S K' S')\/
   (K.cap<A5 K.n ord l (K.held S)+2/\r=iv 9/\C'=C)):=by
 have h0:=h;obtain⟨b,hC,hO⟩:=h.rep;have hn:=hO.lq;refine aF λg=>xe ?_;refine ae.aD (Br.no (ae.lss (cf.or (decide ((K.n:Int) -2<l)) (λ_=>?_) zI λgs=>?_)))
 ·refine Ld.v (by rw[hC];exact .head _) ?_;exact ae.kx (c:=(K.n:Int) -2) rfl zO (ae.gtr ⟨rfl,rfl⟩)
 rw[<-xa7];refine Br.F (aa.fq (JY h.rep h.ok h.od h.idle hl) ?_);rintro w C' (⟨hfit,rfl,K',S',bW,dh,Au,Yx,vL,qX⟩|⟨hno,rfl,rfl⟩)
 ·refine Un.not (Br.no ?_);obtain⟨b',rfl,xL⟩:=dh;refine Ld.n ?_;refine av.int (e:=3) zK zK zK λbx=>?_;refine xL.tr.rB (.cons (.cons (.app (.app (.app (.app (.app (.app .here)))))))) (by exact .head _) (by rw[ak];omega) (by rw[ak];omega) λv' CR' cC=>?_;refine Nil.ptr (ai.mk (St.one (by exact .tail (.head _)) cC.one (by simp[tV.cells]) rfl ?_));refine aN.mk .tail (.inl ⟨hfit,rfl,K',S',bW,⟨⟨{b' with vt:=v',CR:=CR'},rfl,{xL with tr:=by rw[cj];exact cC}⟩,Au,Yx,vL,?_⟩,qX⟩);rw[qX.n,qX.cap];exact(xS.agn hO.ol.1 hl hfit h.tr).congr λg=>(qX.held g).symm
 exact Un.not (Br.yes (aN.here (.inr ⟨hno,rfl,rfl⟩)))
theorem TN{l:Nat}(h:cc kp K S ord ah (tr++[l]) C)(eM:tr.length<17592186044416):Fc zQ 338 #[ptr kp] C (λr C'=>
   r=.tuple #[iv (l:Int),iv 0]/\l+1<K.n/\∃K' S' bW,cc kp K' S' (fR ord l) bW tr C'/\Kept K S K' S'):=by
 have h0:=h;obtain⟨b,hC,hO⟩:=h.rep;have hn:=hO.lq;have QY:=h.tr;rw[List.reverse_append]at QY;obtain⟨hl,hfit,tJ⟩:l+1<K.n/\A5 K.n ord l (K.held S)+2<=K.cap/\xS K.n K.cap (K.held S) (fR ord l) tr.reverse:=QY;have hmk:(kp,Obj.cells (b.cells K.n) 141 (0,0))∈C:=by rw[hC];exact .head _
 refine aF λg=>Hg ?_;refine ae.aD (cf.or false (λ_=>?_) rfl λgs=>Br.no ?_)
 ·refine Ld.v hmk ?_;refine hO.tr.bP ?_;refine ae.gU ⟨rfl,?_⟩;rw[xal];rw[ak,xaf];simp;omega
 refine Ld.v hmk ?_;refine hO.tr.bP ?_;rw[ak,xaf];refine ae.bY (a:=tr.length+1) (b:=1) ?_;rw[xb5];refine Ld.v hmk ?_;refine hO.tr.ld (i:=tr.length) (x:=(l:Int)) (by rw[cj];simp[iw]) (by rw[hC];exact bG.sub (.cons (.app (.app (.app (.app (.app (.app .here)))))))) ?_;refine aa.fq (JY h.rep h.ok h.od h.idle hl) ?_;rintro w C' (⟨_,rfl,K',S',bW,dh,Au,Yx,vL,qX⟩|⟨hno,rfl,rfl⟩);rotate_left
 ·omega
 obtain⟨b',rfl,xL⟩:=dh;refine Ld.n ?_;refine xL.tr.cut (i:=tr.length) (by rw[ak];simp) λv' nR=>?_;refine Nil.ptr (ai.mk (St.one (by exact .head _) nR.one (by simp[tV.cells]) rfl ?_));refine aN.here ⟨rfl,hl,K',S',bW,⟨⟨{b' with vt:=v'},rfl,{xL with tr:=by rw[cj,xez zI]at nR;exact nR}⟩,Au,Yx,vL,?_⟩,qX⟩;rw[qX.n,qX.cap];exact tJ.congr λg=>(qX.held g).symm
theorem cc.bK(h:cc kp K S ord ah tr C){r:Nat}(hl:live K.N r):r<1048576:=h.rep.lt hl
theorem cc.gg(h:cc kp K S ord ah tr C)(r:Nat):K.hold r<=65535:=h.ok.mid.mx r
theorem cc.Et(h:cc kp K S ord ah tr C)(r:Nat):K.use r<=2097153:=by have:=uz h.ok.mid h.idle (M:=0) (λ_=>xaj _) r;omega
structure Wo(K K':Kd)(r:Nat):Prop where
 n:K'.n=K.n
 cap:K'.cap=K.cap
 used:K'.used=K.used
 N:K'.N=K.N
 hold:∀s,K'.hold s=if s=r/\2<=r then K.hold s+1 else K.hold s
theorem oJ(h:cc kp K S ord ah tr C){r:Nat}(hl:live K.N r)(h2:2<=r)(hf:K.hold r=65535):Rd zQ 141 #[ptr kp,u32 r] C (· =iv 8):=by
 have hr:=h.bK hl;obtain⟨b,hC,hO⟩:=h.rep;have hfit:r<K.ho.length:=by
  rcases hl with hl|⟨d,hd⟩
  ·omega
  rw[<-hO.ul.1];exact h.ok.mid.fit hd
 refine aF λg=>xh ?_;refine ae.aD (Br.no (Nil.ptr (ai.mk (aa.eq (nQ h.rep zO) ?_))));rw[bX.2 hl];refine Un.not (Br.no ?_);intro J7 _;refine ae.m9 (b:=1) (Br.T (Nil.ptr (ai.mk (Ld.u (by rw[hC];exact .head _) ?_))));refine hO.ho.ld (x:=((K.hold r:Nat):Int)) (bH hfit) (by rw[hC];exact bG.sub (.cons (.app (.app (.app .left))))) ?_;rw[hf];exact ae.gU (Br.T (bc.mk (.refl _) rfl))
theorem Cy(h:cT kp K ord ah tr C)(hM0:jM K S iO zero')(Vo:Idle K){r:Nat}(hl:live K.N r)(hf:2<=r->K.hold r<65535):Fc zQ 141 #[ptr kp,u32 r] C (λv C'=>v=iv 0/\∃K',cT kp K' ord ah [] C'/\
  jM K' S iO zero'/\Idle K'/\Wo K K' r/\(∀s,K.use s<=K'.use s)/\(2<=r->0<K'.use r)):=by
 have hr:=h.lt hl;have h0:=h;obtain⟨b,hC,hO⟩:=h;refine aF λg=>xh ?_;refine ae.aD (Br.no (Nil.ptr (ai.mk (aa.eq (nQ h0 zO) ?_))));rw[bX.2 hl];refine Un.not (Br.no ?_);intro J7 hJ7;have fin:∀(K':Kd) C1,cT kp K' ord ah tr C1->jM K' S iO zero'->Idle K'->Wo K K' r->(∀s,K.use s<=K'.use s)->(2<=r->0<K'.use r)->J7 [] C1:=λK' C1 dh Au vL hm hu hp=>by
  refine hJ7 _ λgs=>?_;obtain⟨b',rfl,xL⟩:=dh;refine Nil.ptr (ai.mk (St.one (by exact .head _) rfl (by simp[tV.cells]) rfl ?_));refine aN.mk (nv:=({b' with vt:=.slice none 0 0,CR:=[]}:tV).hp kp K'.n) ?_ ⟨rfl,K',⟨{b' with vt:=.slice none 0 0,CR:=[]},rfl,{xL with tr:=aQ.nil}⟩,Au,vL,hm,hu,hp⟩;refine .cons (.cW (.cW (.cW (.cW (.cW (.cW .nil _) _) _) _) _) _)
 refine ae.m9 (b:=1) (Br.dec (λh2=>?_) (λh2=>?_));rotate_left
 ·refine JE.mk (fin K C h0 hM0 Vo ⟨rfl,rfl,rfl,rfl,λs=>?_⟩ (λ_=>xaj _) (λh=>by omega));rw[xab zO]
 have oM:2<=r:=by omega
 have Rq:=hf oM;obtain⟨d,hd⟩:∃d,K.N r=some d:=by
  rcases hl with hl|hl
  ·omega
  exact hl
 have hfu:=hM0.fit hd;have MS:=hO.ul;have hfit:r<K.ho.length:=by omega
 subst hC;refine Nil.ptr (ai.mk (Ld.f ?_));refine hO.ho.ld (x:=((K.hold r:Nat):Int)) (bH hfit) (bG.sub (.cons (.app (.app (.app .left))))) ?_;refine ae.gU (Br.F (Nil.ptr (ai.mk (Ld.f ?_))));refine hO.ho.ld (x:=((K.hold r:Nat):Int)) (bH hfit) (bG.sub (.cons (.app (.app (.app .left))))) ?_;refine ae.inc (hO.ho.nj (x:=((K.hold r+1:Nat):Int)) (.cons (.app (.app (.app .left)))) (by rw[ak];exact hfit) λTd po=>?_);rw[fj]at po;have g1:∀s,(K.ho.set r (K.hold r+1)).getD s 0=if s=r then K.hold r+1 else K.hold s:=λs=>gQ hfit
 refine Nil.ptr (ai.mk (Ld.f ?_));refine po.ld (x:=((K.hold r+1:Nat):Int)) (by rw[bH (by simpa using hfit),g1,xae rfl]) (bG.sub (.cons (.app (.app (.app .left))))) ?_;refine ae.eO (b:=1) (Br.dec (λh3=>?_) (λh3=>?_))
 ·refine Nil.ptr (ai.mk (Ld.f ?_));refine hO.us.ld (x:=((K.use r:Nat):Int)) (bH hfu) (bG.sub (.cons (.app (.app .left)))) ?_;have hub:=uz hM0 Vo (M:=0) (λ_=>xaj _) r;refine ae.inc (hO.us.nj (x:=((K.use r+1:Nat):Int)) (.cons (.app (.app .left))) (by rw[ak];exact hfu) λTz Ar=>?_);rw[fj]at Ar;have g2:∀s,(K.us.set r (K.use r+1)).getD s 0=if s=r then K.use r+1 else K.use s:=λs=>gQ hfu
  have hM:=hM0.keep (r:=r) (dB:=K.us.set r (K.use r+1)) (cC:=K.ho.set r (K.hold r+1)) ⟨d,hd⟩ Rq zI (by rw[g1,xae rfl]) (λs hs=>by rw[g1,xab hs]) (by rw[g2,xae rfl,xae zO]) (λs hs=>by rw[g2,xab hs]);refine JE.mk (fin {K with us:=K.us.set r (K.use r+1),ho:=K.ho.set r (K.hold r+1)} _ ⟨{b with CU:=Tz,CH:=Td},rfl,{hO with us:=Ar,ho:=po,ul:=by simp;exact MS}⟩ hM (λs hs=>?_) ⟨rfl,rfl,rfl,rfl,λs=>?_⟩ (λs=>?_) (λ_=>?_))
  ·show(K.us.set r (K.use r+1)).getD s 0=0;have hs':K.N s=none:=hs;rw[g2,xab (λe=>by rw[e,hd]at hs';cases hs')];exact Vo s hs'
  ·show(K.ho.set r (K.hold r+1)).getD s 0=_;rw[g1];by_cases e:s=r
   ·subst e;rw[xae rfl,xae ⟨rfl,oM⟩]
   rw[xab e,xab (λh=>e h.1)]
  ·show K.use s<=(K.us.set r (K.use r+1)).getD s 0;rw[g2];split
   ·rename_i e;subst e;omega
   exact xaj _
  show 0<(K.us.set r (K.use r+1)).getD r 0;rw[g2,xae rfl];omega
 have hM:=hM0.keep (r:=r) (dB:=K.us) (cC:=K.ho.set r (K.hold r+1)) ⟨d,hd⟩ Rq zI (by rw[g1,xae rfl]) (λs hs=>by rw[g1,xab hs]) (by show K.use r=_;rw[xab zO];rfl) (λs hs=>rfl);refine JE.mk (fin {K with ho:=K.ho.set r (K.hold r+1)} _ ⟨{b with CH:=Td},rfl,{hO with ho:=po,ul:=by simp;exact MS}⟩ hM Vo ⟨rfl,rfl,rfl,rfl,λs=>?_⟩ (λ_=>xaj _) (λ_=>?_));rotate_left
 ·show 0<K.use r;rw[hM0.use hd,xab zO];omega
 show(K.ho.set r (K.hold r+1)).getD s 0=_;rw[g1];by_cases e:s=r
 ·subst e;rw[xae rfl,xae ⟨rfl,oM⟩]
 rw[xab e,xab (λh=>e h.1)]
theorem mM(h:cc kp K S ord ah tr C){r:Nat}(hl:live K.N r)(hf:2<=r->K.hold r<65535):Fc zQ 141 #[ptr kp,u32 r] C (λv C'=>v=iv 0/\∃K',cc kp K' S ord ah [] C'/\Wo K K' r):=by
 refine(Cy h.rep h.ok.mid h.idle hl hf).mono ?_;rintro v C' ⟨rfl,K',dh,Y9,vL,hm,hu,hp⟩;refine⟨rfl,K',⟨dh,⟨Y9,λs d hs=>?_,by rw[hm.n];exact h.ok.lv,by rw[hm.n,hm.N];exact h.ok.wf⟩,by rw[hm.n];exact h.od,vL,trivial⟩,hm⟩;rw[hm.N]at hs;exact xaQ (h.ok.pos s d hs) (hu s)
end
section
variable {kp:Nat} {K:Kd} {ord ah tr:zL} {C:Hp} {S:Nat->aA.Fn}
theorem KF{K':Kd}{P:Nat->Nat}(hw:WF K.n (lv ah) K.N)(hM:jM K' S iO P)(hN:∀{s d},K'.N s=some d->K.N s=some d)(hn:K'.n=K.n):WF K'.n (lv ah) K'.N:=by
 have same:∀{t},live K'.N t->dep K'.n (lv ah) K'.N t=dep K.n (lv ah) K.N t:=λ{t} ht=>by
  cases e:K'.N t with
  |some f=>rw[aq e,aq (hN e)]
  |none=>
   have WV:t<2:=by
    rcases ht with ht|⟨f,hf⟩
    ·exact ht
    rw[e]at hf;cases hf
   rw[aU e,aU (hw.const WV),hn]
 refine hM.wf λ{s d} hs=>?_;rw[same (hM.lo hs),same (hM.hi hs)];exact⟨(hw.lo (hN hs)).2,(hw.hi (hN hs)).2⟩
structure zw(K K':Kd)(r:Nat):Prop where
 n:K'.n=K.n
 cap:K'.cap=K.cap
 N:∀s d,K'.N s=some d->K.N s=some d
 hold:∀s,K'.hold s=if s=r/\2<=r then K.hold s-1 else K.hold s
theorem acJ(h:cc kp K S ord ah tr C){r:Nat}(hr:r<4294967296)(h2:2<=r)(h0:K.hold r=0):Rd zQ 142 #[ptr kp,u32 r] C (· =iv 3):=by
 refine aF λg=>xg ?_;refine ae.aD (Br.no ?_);intro J2 _;refine ae.m9 (b:=1) (Br.T (aa.eq (vA h.rep hr (λs=>by have:=h.gg s;omega)) ?_));rw[h0];exact ae.gU (Br.T (bc.mk (.refl _) rfl))
theorem mU(h:cc kp K S ord ah tr C){r:Nat}(hr:r<4294967296)(hh:2<=r->K.hold r≠0):Fc zQ 142 #[ptr kp,u32 r] C (λv C'=>v=iv 0/\∃K',cc kp K' S ord ah [] C'/\zw K K' r):=by
 have h0:=h;obtain⟨b,hC,hO⟩:=h.rep;refine aF λg=>xg ?_;refine ae.aD (Br.no ?_);intro J2 Bg;have fin:∀(K':Kd) C1,cT kp K' ord ah tr C1->Ok K' S (lv ah)->Idle K'->zw K K' r->J2 [] C1:=λK' C1 dh Au vL hm=>by
  refine Bg _ λgs=>?_;obtain⟨b',rfl,xL⟩:=dh;refine Nil.ptr (ai.mk (St.one (by exact .head _) rfl (by simp[tV.cells]) rfl ?_));have mQ:Ord K'.n (lv ah) ord:=by rw[hm.n];exact h.od
  refine aN.mk (nv:=({b' with vt:=.slice none 0 0,CR:=[]}:tV).hp kp K'.n) ?_ ⟨rfl,K',⟨⟨{b' with vt:=.slice none 0 0,CR:=[]},rfl,{xL with tr:=aQ.nil}⟩,Au,mQ,vL,trivial⟩,hm⟩;refine .cons (.cW (.cW (.cW (.cW (.cW (.cW .nil _) _) _) _) _) _)
 refine ae.m9 (b:=1) (Br.dec (λh2=>?_) (λh2=>?_));rotate_left
 ·exact JE.mk (fin K C h.rep h.ok h.idle ⟨rfl,rfl,λ_ _ h=>h,λs=>by rw[xab zO]⟩)
 have oM:2<=r:=by omega
 have po:=hh oM;obtain⟨d,hd⟩:=h.ok.mid.held r po;have hfu:=h.ok.mid.fit hd;have MS:=hO.ul;have hfit:r<K.ho.length:=by omega
 have hle:=h.gg r;refine aa.eq (vA h.rep hr (λs=>by have:=h.gg s;omega)) (ae.gU (Br.F ?_));subst hC;refine Nil.ptr (ai.mk (Ld.f ?_));refine hO.ho.ld (x:=((K.hold r:Nat):Int)) (bH hfit) (bG.sub (.cons (.app (.app (.app .left))))) ?_;refine ae.bY (b:=1) (hO.ho.nj (x:=((K.hold r-1:Nat):Int)) (.cons (.app (.app (.app .left)))) (by rw[ak];exact hfit) λTd YK=>?_);rw[fj]at YK;have g1:∀s,(K.ho.set r (K.hold r-1)).getD s 0=if s=r then K.hold r-1 else K.hold s:=λs=>gQ hfit
 have hM:=h.ok.mid.drop (r:=r) (cC:=K.ho.set r (K.hold r-1)) zO zI (by rw[g1,xae rfl];omega) (λs hs=>by rw[g1,xab hs]);have eV:cT kp {K with ho:=K.ho.set r (K.hold r-1)} ord ah tr (({b with CH:=Td}:tV).hp kp K.n):=⟨_,rfl,{hO with ho:=YK,ul:=by simp;exact MS}⟩;have hho:∀s,(K.ho.set r (K.hold r-1)).getD s 0=if s=r/\2<=r then K.hold s-1 else K.hold s:=λs=>by
  rw[g1];by_cases e:s=r
  ·subst e;rw[xae rfl,xae ⟨rfl,oM⟩]
  rw[xab e,xab (λh=>e h.1)]
 refine Nil.ptr (ai.mk (Ld.f ?_));refine YK.ld (x:=((K.hold r-1:Nat):Int)) (by rw[bH (by simpa using hfit),g1,xae rfl]) (bG.sub (.cons (.app (.app (.app .left))))) ?_;refine ae.eO (b:=0) (Br.dec (λh3=>?_) (λh3=>?_));rotate_left
 ·rw[xab zO]at hM;exact JE.mk (fin {K with ho:=K.ho.set r (K.hold r-1)} _ eV ⟨hM,h.ok.pos,h.ok.lv,h.ok.wf⟩ h.idle ⟨rfl,rfl,λ_ _ h=>h,hho⟩)
 rw[xae zO]at hM;refine Nil.ptr (ai.mk ?_);have KT:jM {K with ho:=K.ho.set r (K.hold r-1)} S iO (gV zero' [r]):=hM.congr (λ_=>xcT) λs _=>by
  unfold up gV zero';by_cases e:s=r
  ·subst e;simp
  simp[e,xa8 e]
 refine aa.fq (mD (P0:=zero') eV KT h.ok.pos (λt RV h0=>?_) (h.bK (.inr ⟨d,hd⟩)) (λs=>by have:=h.Et s;show K.use s<_;omega)) ?_
 ·by_cases e:t=r
  ·subst e;exact⟨d,hd⟩
  have h0':0<zero' t+[r].count t:=h0;simp[zero',xa8 e]at h0'
 rintro w C2 ⟨rfl,K2,dk,VE,Tj,_,dW⟩;refine JE.mk (fin K2 _ dk ⟨VE,Tj,by rw[dW.n];exact h.ok.lv,KF h.ok.wf VE (λh=>dW.N h) dW.n⟩ (dW.idle h.idle) ⟨dW.n,dW.cap,λs e hs=>dW.N hs,λs=>?_⟩);show K2.ho.getD s 0=_;rw[dW.ho];exact hho s
structure pE(K:Kd)(S:Nat->aA.Fn)(K':Kd)(S':Nat->aA.Fn)(f:aA.Fn)(r:Nat):Prop where
 n:K'.n=K.n
 cap:K'.cap=K.cap
 used:K'.used<=K.used+1
 N:∀s d,K.N s=some d->K'.N s=some d
 fn:∀s,live K.N s->S' s=S s
 live:live K'.N r
 is:S' r=f
 hold:∀s,K'.hold s=if s=r/\2<=r then K.hold s+1 else K.hold s
theorem Aj(h:cc kp K S ord ah tr C){v lo hi:Nat}(hv:v<K.n)(hlo:live K.N lo)(hhi:live K.N hi)(hlt:lo=hi\/(lv ah v<dep K.n (lv ah) K.N lo/\lv ah v<dep K.n (lv ah) K.N hi)):
  Fc zQ 175 #[ptr kp,iv (v:Int),u32 lo,u32 hi] C (λw C'=>
   (∃r K' S',w=.tuple #[u32 r,iv 0]/\cc kp K' S' ord ah [] C'/\pE K S K' S' (ite S ⟨v,lo,hi⟩) r)\/
   (∃r,w=.tuple #[u32 0,iv 8]/\C'=C/\live K.N r/\2<=r/\K.hold r=65535/\S r=ite S ⟨v,lo,hi⟩)\/
   (w=.tuple #[u32 0,iv 9]/\C'=C/\K.cap<=K.used/\lo≠hi/\K.T ⟨v,lo,hi⟩=none)):=by
 have h0:=h;have ae9:=h.bK hlo;have afj:=h.bK hhi;have CV:=bX.2 hlo;have qo:=bX.2 hhi;have hfe:pB K ah (v:Int) lo hi=0:=by
  unfold pB;rw[xab zO,xab (by rw[CV,qo];simp),xab];rintro⟨hne,hmin⟩;rcases hlt with e|⟨a,b⟩
  ·exact hne e
  simp only[xbe,lv]at hmin a b;omega
 refine aF λg=>Jh ?_;refine ae.aD (Br.no (aa.eq (K7 h.rep (v:Int) zO zO (λr d hd=>⟨h.ok.mid.var hd,(h.ok.mid.two hd).1⟩)) ?_));rw[hfe];refine ae.cG (Br.F (aa.rq (Kh h.rep (lo:=lo) (hi:=hi) hv) ?_));rintro w hw;have there:∀(J9:List zV->Hp->Prop),(∀w12:zV,∀H11:Hp,(∀ak8:Fr,aa zQ g 141 #[ptr kp,w12] H11 (λv13 H14=>ae .num .neq v13 (Value.int .i64 0) λv15=>Br v15
   (aN (λw C'=>(∃r K' S',w=.tuple #[u32 r,iv 0]/\cc kp K' S' ord ah [] C'/\pE K S K' S' (ite S ⟨v,lo,hi⟩) r)\/
   (∃r,w=.tuple #[u32 0,iv 8]/\C'=C/\live K.N r/\2<=r/\K.hold r=65535/\S r=ite S ⟨v,lo,hi⟩)\/
   (w=.tuple #[u32 0,iv 9]/\C'=C/\K.cap<=K.used/\lo≠hi/\K.T ⟨v,lo,hi⟩=none)) (.returned (.tuple #[(Value.int .u32 0),v13])) H14) (aN (λw C'=>(∃r K' S',w=.tuple #[u32 r,iv 0]/\cc kp K' S' ord ah [] C'/\pE K S K' S' (ite S ⟨v,lo,hi⟩) r)\/
   (∃r,w=.tuple #[u32 0,iv 8]/\C'=C/\live K.N r/\2<=r/\K.hold r=65535/\S r=ite S ⟨v,lo,hi⟩)\/
   (w=.tuple #[u32 0,iv 9]/\C'=C/\K.cap<=K.used/\lo≠hi/\K.T ⟨v,lo,hi⟩=none)) (.returned (.tuple #[w12,(Value.int .i64 0)])) H14)) (dz (aN (λw C'=>(∃r K' S',w=.tuple #[u32 r,iv 0]/\cc kp K' S' ord ah [] C'/\pE K S K' S' (ite S ⟨v,lo,hi⟩) r)\/
   (∃r,w=.tuple #[u32 0,iv 8]/\C'=C/\live K.N r/\2<=r/\K.hold r=65535/\S r=ite S ⟨v,lo,hi⟩)\/
   (w=.tuple #[u32 0,iv 9]/\C'=C/\K.cap<=K.used/\lo≠hi/\K.T ⟨v,lo,hi⟩=none)))))->J9 [w12] H11)->
   ∀r,live K.N r->S r=ite S ⟨v,lo,hi⟩->J9 [u32 r] C:=λJ9 RT r hr hS=>by
  refine RT _ _ λgs=>?_;by_cases hf:2<=r/\K.hold r=65535
  ·exact aa.eq (oJ h hr hf.1 hf.2) (ae.cG (Br.T (aN.here (.inr (.inl ⟨r,rfl,rfl,hr,hf.1,hf.2,hS⟩)))))
  refine aa.fq (mM h hr (λh2=>by have:=h.gg r;omega)) ?_;rintro w C' ⟨rfl,K',dh,hm⟩;refine ae.cG (Br.F (aN.here (.inl ⟨r,K',S,rfl,dh,⟨hm.n,hm.cap,by rw[hm.used];omega,λs d hs=>by rw[hm.N];exact hs,λ_ _=>rfl,by rw[hm.N];exact hr,hS,hm.hold⟩⟩)))
 by_cases he:lo=hi
 ·rw[xae he]at hw;subst hw;apply Ext.two;intro J9 RT;refine Un.not (Br.no (JE.mk (there J9 RT lo hlo ?_)))
  funext z
  unfold aA.ite;simp[he]
 rw[xab he]at hw;have iB:lv ah v<dep K.n (lv ah) K.N lo/\lv ah v<dep K.n (lv ah) K.N hi:=by
  rcases hlt with e|e
  ·exact absurd e he
  exact e
 obtain⟨o,ho⟩:∃o,o=K.T ⟨v,lo,hi⟩:=⟨_,rfl⟩;cases o with
 |some r=>
  have hT:K.T ⟨v,lo,hi⟩=some r:=ho.symm;rw[hT]at hw;subst hw;apply Ext.two;intro J9 RT;have hN:=((h.ok.mid.j5 _ r).1 hT).1;refine Un.not (Br.no (JE.mk (there J9 RT r (.inr ⟨_,hN⟩) ?_)))
  funext z
  rw[h.ok.mid.int.node hN];rfl
 |none=>
  have hT:K.T ⟨v,lo,hi⟩=none:=ho.symm;rw[hT]at hw;subst hw;apply Ext.two;intro J9 RT;refine Un.not (Br.yes (Nil.ptr (ai.mk ?_)));have hcap:=h.ok.mid.cap;refine aa.eq (Cv h.rep (m:=1) zO zO) (Un.not ?_);by_cases hroom:K.used+1<=K.cap;rotate_left
  ·rw[xal hroom];exact Br.yes (aN.here (.inr (.inr ⟨rfl,rfl,by omega,he,hT⟩)))
  rw[xam hroom];refine Br.no (Nil.ptr (ai.mk (Build.mk (cs:=bu ⟨v,lo,hi⟩) zK ?_)));have hfit:∀{t:Nat},live K.N t->t<2\/t<K.us.length:=λht'=>by
   rcases ht' with ht'|⟨d,dP⟩
   ·exact .inl ht'
   exact .inr (h.ok.mid.fit dP)
  have si:K.n<=64:=by obtain⟨_,_,hO⟩:=h.rep;exact hO.lq
  refine aa.fq (J0 h.rep (d:=⟨v,lo,hi⟩) ⟨by show v<64;omega,hlo,hhi⟩ hv hT zO (hfit hlo) (hfit hhi) (λs=>by have:=h.Et s;omega)) ?_;rintro w C1 ⟨r,dB,cC,rfl,hN,h2,hrc,hlen,hru,MS,u0,u1,u2,o0,o1,eV⟩;have M5:=h.ok.mid.lay (r:=r) (d:=⟨v,lo,hi⟩) hN ⟨h2,hrc⟩ hv he hlo hhi hT (λh=>h) rfl zO hlen ⟨hru,MS⟩ u0 u1 o0 o1;have afZ:∀s d,K.N s=some d->up K.N r (some ⟨v,lo,hi⟩) s=some d:=λs d hs=>by rw[aS (λe=>by rw[e,hN]at hs;cases hs)];exact hs
  have hne:∀{t:Nat},live K.N t->t≠r:=λht=>gf ht h2 hN;have Rj:Idle {K with N:=up K.N r (some ⟨v,lo,hi⟩),T:=qk K.T ⟨v,lo,hi⟩ (some r),used:=K.used+1,us:=dB,ho:=cC}:=λs hs=>by
   have hs':up K.N r (some ⟨v,lo,hi⟩) s=none:=hs;have Q1:s≠r:=λe=>by subst e;rw[aP]at hs';cases hs'
   rw[aS Q1]at hs';show dB.getD s 0=0;by_cases h2s:2<=s
   ·rw[u1 s h2s Q1,h.idle s hs',ew];have a1:lo≠s:=λe=>by
     rcases hlo with h5|⟨d,h5⟩
     ·omega
     rw[e,hs']at h5;cases h5
    have a2:hi≠s:=λe=>by
     rcases hhi with h5|⟨d,h5⟩
     ·omega
     rw[e,hs']at h5;cases h5
    simp[a1,a2]
   rw[u2 s zO,h.idle s hs']
  refine JE.mk (RT _ _ λgs=>?_);refine aa.fq (Cy eV M5 Rj (r:=r) (.inr ⟨_,aP⟩) (λ_=>by show cC.getD r 0<65535;rw[o0];omega)) ?_;rintro w C2 ⟨rfl,K2,dk,KT,Fw,hm,hu,hp⟩;refine ae.cG (Br.F ?_);have Vi:K2.n=K.n:=hm.n;have Y8:K2.N=up K.N r (some ⟨v,lo,hi⟩):=hm.N;have hpos:Pos K2:=λs d hs=>by
   by_cases e:s=r
   ·rw[e];exact hp h2
   rw[Y8,aS e]at hs;have h3:=hu s;have h4:({K with N:=up K.N r (some ⟨v,lo,hi⟩),T:=qk K.T ⟨v,lo,hi⟩ (some r),used:=K.used+1,us:=dB,ho:=cC}:Kd).use s=dB.getD s 0:=rfl;rw[h4,u1 s (h.ok.mid.two hs).1 e]at h3;have:=h.ok.pos s d hs;omega
  have Ax:∀{t:Nat},live K.N t->dep K2.n (lv ah) K2.N t=dep K.n (lv ah) K.N t:=λ{t} ht=>by
   rw[Y8,Vi];unfold dep;rw[aS (hne ht)]
  have aeD:WF K2.n (lv ah) K2.N:=KT.wf λ{s d} hs=>by
   rw[Y8]at hs;by_cases e:s=r
   ·rw[e,aP]at hs;cases hs;rw[Ax hlo,Ax hhi];exact iB
   rw[aS e]at hs;rw[Ax (h.ok.wf.lo hs).1,Ax (h.ok.wf.hi hs).1];exact⟨(h.ok.wf.lo hs).2,(h.ok.wf.hi hs).2⟩
  have hS:∀s,live K.N s->up S r (ite S ⟨v,lo,hi⟩) s=S s:=λs hs=>aS (hne hs);refine aN.here (.inl ⟨r,K2,up S r (ite S ⟨v,lo,hi⟩),rfl,⟨dk,⟨KT,hpos,by rw[Vi];exact h.ok.lv,aeD⟩,by rw[Vi];exact h.od,Fw,trivial⟩,⟨Vi,hm.cap,by rw[hm.used];exact xaj _,λs d hs=>by rw[Y8];exact afZ s d hs,hS,.inr ⟨_,by rw[Y8];exact aP⟩,aP,λs=>?_⟩⟩);rw[hm.hold];show(if s=r/\2<=r then cC.getD s 0+1 else cC.getD s 0)=_;by_cases e:s=r
  ·subst e;rw[xae ⟨rfl,h2⟩,xae ⟨rfl,h2⟩,o0];have:K.hold s=0:=by
    apply xdD;intro hne;obtain⟨d,hd⟩:=h.ok.mid.held s hne;rw[hN]at hd;cases hd
   omega
  rw[xab (λh=>e h.1),xab (λh=>e h.1),o1 s e]
end
theorem hnew{H:Hp}:bG [] H (λX=>X++H):=bG.left
theorem QU{n:Nat}(hn:n<=64):Fc zQ 118 #[iv (n:Int)] [] (λv H=>aQ 3 .i64 v (iw (List.range n)) H):=by
 refine aF λg=>JM ?_;refine cU.ints zO zO λb=>?_;have h0:aQ 3 .i64 (.slice (some ⟨b,0,none⟩) n n) (List.replicate n 0) [(b,.cells (ax .i64 (List.replicate n 0)) 3 (0,0))]:=by
  have:=aQ.made (T:=3) (kd:=.i64) (b:=b) (List.replicate n (0:Int));rw[xdT]at this;exact this
 refine⟨λvs H=>∃j:Nat,vs=[iv (j:Int)]/\j<=n/\aQ 3 .i64 (.slice (some ⟨b,0,none⟩) n n) (iw (List.range j)++List.replicate (n-j) 0) H,λvs _=>n-bL vs 0,JE.mk ⟨0,rfl,by omega,by simpa[iw]using h0⟩,?_⟩;rintro w H ⟨j,hw,hj,hs⟩ gs;simp only[xau,xa0]at hw;subst hw;refine ae.fi (Br.dec (λhlt=>?_) (λhlt=>?_))
 ·refine hs.nj (x:=(j:Int)) .here zP λC' hs'=>?_;refine ae.inc ?_;have e:(iw (List.range j)++List.replicate (n-j) 0).set j (j:Int)=iw (List.range (j+1))++List.replicate (n-(j+1)) 0:=by
   rw[xcA _ _ zI];rw[show n-j=(n-(j+1))+1 by omega,xc8,xcl,cj];simp[iw]
  rw[e]at hs';exact aC.of (.refl _) ⟨j+1,rfl,by omega,hs'⟩ (by show n-(((j+1:Nat):Int).toNat)<n-(((j:Nat):Int).toNat);omega)
 obtain rfl:j=n:=by omega
 exact aN.here (by simpa using hs)
theorem s8{n:Nat}(hn:n<=64):Fc zQ 68 #[iv (n:Int)] [] (λv H=>∃s,v=.tuple #[s,iv 0]/\aQ 3 .i64 s (iw (List.range n)) H):=by
 refine aF λg=>zo ?_;refine ae.lss ?_;rw[xal zO];refine cf.or false (λ_=>ae.gtr ⟨rfl,by rw[xal zO]⟩) rfl λ_=>Br.no ?_;refine aa.fq (QU hn) ?_;intro s H hs;exact aN.here ⟨s,rfl,hs⟩
def K0(n cap:Nat):Kd:=⟨n,cap,2,λ_=>none,λ_=>none,[],[]⟩
def S0:Nat->aA.Fn:=λr _=>decide (r=1)
theorem nN{n v:Nat}(hv:v<n):lv (List.range n) v=v:=by
 show(List.range n).getD v 0=v;simp[List.getD,hv]
theorem ac3{n cap:Nat}(hc:2<=cap/\cap<=1048576):Ok (K0 n cap) S0 (lv (List.range n)):=by
 have c0:∀k,nt (λ_=>none) k=0:=λk=>by induction k with|zero=>rfl|succ k ih=>rw[nt,ih];rfl
 have hm:jM (K0 n cap) S0 iO zero':={
  two:=λh=>nomatch h
  var:=λh=>nomatch h
  ne:=λh=>nomatch h
  lo:=λh=>nomatch h
  hi:=λh=>nomatch h
  int:=⟨λ_=>rfl,λ_=>rfl,λh=>nomatch h⟩
  j5:=λd r=>⟨λh=>(nomatch h),λh=>nomatch h.1⟩
  use:=λh=>nomatch h
  len:=rfl
  fit:=λh=>nomatch h
  held:=λr h=>absurd (by simp[Kd.hold,K0]) h
  mx:=λr=>by simp[Kd.hold,K0]
  room:=by show 2=2+nt (λ_=>none) _;rw[c0]
  cap:=hc}
 refine⟨hm,λr d h=>(nomatch h),⟨λv hv=>?_,λu v hu hv h=>?_⟩,⟨λh=>(nomatch h),λh=>(nomatch h),λh=>(nomatch h),λh=>(nomatch h),λh=>(nomatch h),λh=>(nomatch h)⟩⟩
 ·have nR:v<n:=hv;rw[nN nR];exact hv
 have Ar:u<n:=hu;have nR:v<n:=hv;rwa [nN Ar,nN nR]at h
theorem Cb{pt n cap:Nat}{CT:Hp}(hu:ob pt n (λ_=>none) CT)(hc:2<=cap/\cap<=1048576):Fc zQ 70 #[iv (cap:Int),ptr pt] CT (λv H=>∃pa CA,v=.tuple #[.agg #[ptr pa,ptr pt,.slice none 0 0,.slice none 0 0],iv 0]/\iX pa cap 2 (λ_=>none) CA/\H=CA++CT):=by
 refine aF λg=>Om ?_;intro b1 _;refine aa.fn hnew (Wf hc) ?_;rintro v C ⟨pa,rfl,hA⟩;refine Ext.two (Build.mk (cs:=[ptr pa,ptr pt,.slice none 0 0,.slice none 0 0]) zK ?_);refine St.q ?_;refine ay.q ?_;exact aN.mk (.cW .tail _) ⟨pa,C,rfl,hA,rfl⟩
theorem X0{n cap:Nat}(hn:1<=n/\n<=64)(hc:2<=cap/\cap<=1048576):Fc zQ 40 #[iv (n:Int),iv (cap:Int)] [] (λv C=>∃kp,v=.tuple #[ptr kp,iv 0]/\cc kp (K0 n cap) S0 (List.range n) (List.range n) [] C):=by
 refine aF λg=>zu ?_;refine aa.fq (s8 hn.2) ?_;rintro v CO ⟨s,rfl,hO⟩;obtain⟨sa,sl,sc,hse⟩:∃a l c,s=Value.slice a l c:=by obtain⟨a,c,h⟩:=aV.len hO;exact⟨a,_,c,h⟩
 refine Ext.two (ae.cG (cf.or false (λ_=>ae.lss ⟨rfl,by rw[xal zO]⟩) rfl λgs=>?_));refine cf.or false (λ_=>ae.lss ⟨rfl,by rw[xal zO]⟩) rfl λgs=>?_;refine cf.or false (λ_=>ae.gtr ⟨rfl,by rw[xal zO]⟩) rfl λgs=>Br.no ?_;refine aa.fn hnew (TM hn) ?_;rintro v CT ⟨pt,rfl,hT⟩;refine Ext.two (ae.cG (Br.no (aa.fq (Cb hT hc) ?_)));rintro v H ⟨pa,CA,rfl,hA,rfl⟩;apply Ext.two;intro b24 _;refine St.q ?_;refine ae.cG (Br.no (DR.self (ay.q ?_)));refine aa.fq (wj (hO.ints.mono λ_ h=>h) zP) ?_;rintro v H ⟨CL,rfl,hL⟩;obtain⟨la,ll,lc,hle⟩:∃a l c,v=Value.slice a l c:=by obtain⟨a,c,h⟩:=aV.len hL;exact⟨a,_,c,h⟩
 refine⟨(.cons (.cW .right _)),?_⟩;subst hse hle;refine Build.mk (cs:=[ptr pa,ptr pt,.slice none 0 0,.slice none 0 0,iv (n:Int),.slice sa sl sc,.slice la ll lc,.slice none 0 0]) zK ?_;intro Xp _;refine⟨(.skip (.cons (.cW .right _))),?_⟩
 let kb:tV:=⟨pa,pt,.slice none 0 0,.slice none 0 0,.slice sa sl sc,.slice la ll lc,.slice none 0 0,CA,CT,[],[],CO,CL,[]⟩
 refine aN.mk (nv:=kb.hp Xp n) ?_ ⟨Xp,rfl,⟨kb,rfl,⟨hA,hT,aQ.nil,aQ.nil,hO,hL,aQ.nil,⟨rfl,by simp[K0]⟩,hn.2,by simp[K0]⟩⟩,ac3 hc,⟨by simp[K0],λl hl=>?_⟩,λs _=>by simp[Kd.use,K0],trivial⟩
 ·refine .cons (.skip ((aM.assoc).trans ?_));show aM (CA++(CT++(CL++CO))) (CA++(CT++([]++([]++(CO++(CL++[]))))));simp only[xb2,xaL];exact .cW (.cW (.perm xbb) _) _
 have hl':l<n:=hl;have e:(List.range n).getD l 0=l:=nN hl';rw[e];exact⟨hl,nN hl'⟩
end
end Go.Proofs
namespace aA
def az(ord path:zL):zL:=path.foldl fR ord
theorem gA{ord path:zL}{l:Nat}:az ord (path++[l])=fR (az ord path) l:=by simp[az]
theorem cr{ord path q:zL}:az ord (path++q)=az (az ord path) q:=by simp[az]
theorem fQ{ord:zL}:∀{path:zL},(az ord path).length=ord.length:=by
 intro path;unfold az;induction path generalizing ord with
 |nil=>rfl
 |cons l r ih=>rw[xcF,ih];simp[fR]
def l7:Nat->zL
 |2=>[0]
 |3=>[1,0,1,0,1]
 |4=>[2,1,0,2,0,1,2,0,2,1,0,2,0,1,2,0,2,1,0,2,0,1,2]
 |_=>[]
structure Rm where
 n:Nat
 size:zL->Nat
 fit:zL->Nat->Bool
def Rm.dL(m:Rm)(p:Nat):zL->zL->zL
 | [],_=>[]
 |c::cs,ord=>if m.fit ord (p+c)then(p+c)::m.dL p cs (fR ord (p+c))else []
def Rm.keep(m:Rm)(ord path:zL):Nat->Nat
 |0=>0
 |i+1=>if m.size (az ord (path.take (i+1)))<m.size (az ord (path.take (m.keep ord path i)))then i+1 else m.keep ord path i
def Rm.visit(m:Rm)(w p:Nat)(ord:zL):zL×Nat:=
 let path:=m.dL p (l7 w) ord
 let k:=m.keep ord path path.length
 (path.take k,path.length+(path.length-k))
def Rm.all(m:Rm)(w:Nat)(ord:zL):Nat->zL×Nat
 |0=>([],0)
 |i+1=>let a:=m.all w ord i;let b:=m.visit w i (az ord a.1);(a.1++b.1,a.2+b.2)
def Rm.pass(m:Rm)(w:Nat)(ord:zL):zL×Nat:=m.all w ord (m.n+1-w)
theorem Rm.lZ(m:Rm)(p:Nat):∀cs ord,(m.dL p cs ord).length<=cs.length
 | [],_=>by simp[dL]
 |c::cs,ord=>by
  rw[dL];split
  ·have:=m.lZ p cs (fR ord (p+c));simp only[xay];omega
  simp
theorem Rm.q5(m:Rm)(p:Nat):∀cs ord i,i<(m.dL p cs ord).length->(m.dL p cs ord)[i]? =(cs[i]?).map (p+ ·)/\∃c,cs[i]? =some c/\m.fit (az ord ((m.dL p cs ord).take i)) (p+c)=true
 | [],_,i,h=>by simp[dL]at h
 |c::cs,ord,i,h=>by
  by_cases hf:m.fit ord (p+c)=true
  ·rw[dL,xae hf]at h⊢;cases i with
   |zero=>exact⟨by simp,c,rfl,hf⟩
   |succ i=>
    obtain⟨h1,c',h2,h3⟩:=m.q5 p cs (fR ord (p+c)) i (by simpa using h);exact⟨by simpa using h1,c',by simpa using h2,by simpa[az]using h3⟩
  rw[dL,xab hf]at h;simp at h
theorem Rm.vP(m:Rm)(p:Nat):∀cs ord c,cs[(m.dL p cs ord).length]? =some c->m.fit (az ord (m.dL p cs ord)) (p+c)=false
 | [],_,c,h=>by simp at h
 |c'::cs,ord,c,h=>by
  by_cases hf:m.fit ord (p+c')=true
  ·rw[dL,xae hf]at h⊢;have:=m.vP p cs (fR ord (p+c')) c (by simpa using h);simpa[az]using this
  rw[dL,xab hf]at h⊢;simp only[xch,xcL,xaq]at h;subst h;simpa[az]using hf
theorem Rm.Dd(m:Rm)(p:Nat){cs ord:zL}{l:Nat}(h:l∈m.dL p cs ord):∃c∈cs,l=p+c:=by
 obtain⟨i,hi,e⟩:=List.getElem_of_mem h;obtain⟨h1,c,h2,_⟩:=m.q5 p cs ord i hi;rw[xaa hi,e,h2]at h1;exact⟨c,xaw h2,by simpa using h1⟩
theorem Rm.An(m:Rm)(ord path:zL):∀i,m.keep ord path i<=i
 |0=>xaj _
 |i+1=>by rw[keep];split;omega;have:=m.An ord path i;omega
theorem Rm.vC(m:Rm)(ord path:zL):∀i j,j<=i->m.size (az ord (path.take (m.keep ord path i)))<=m.size (az ord (path.take j))
 |0,j,h=>by
  obtain rfl:j=0:=by omega
  exact xaj _
 |i+1,j,h=>by
  by_cases e:j=i+1
  ·subst e;rw[keep];split<;>omega
  have:=m.vC ord path i j zO;rw[keep];split<;>omega
theorem FY{w c:Nat}(h:c∈l7 w):c+2<=w:=by
 unfold l7 at h;split at h
 ·simp at h;omega
 ·simp at h;omega
 ·simp at h;omega
 simp at h
theorem Lh(w:Nat):(l7 w).length<=23:=by
 unfold l7;split<;>simp
theorem Rm.LM(m:Rm){w p:Nat}{ord:zL}{l:Nat}(h:l∈(m.visit w p ord).1):l+2<=p+w:=by
 obtain⟨c,hc,rfl⟩:=m.Dd p (xcE h);have:=FY hc;omega
theorem Rm.rL(m:Rm)(w p:Nat)(ord:zL):(m.visit w p ord).1.length<=23/\(m.visit w p ord).2<=46:=by
 have h1:=m.lZ p (l7 w) ord;have h2:=Lh w;have h3:=m.An ord (m.dL p (l7 w) ord) (m.dL p (l7 w) ord).length;constructor
 ·show(List.take _ _).length<=23;rw[xbD];omega
 show _+(_-_)<=46;omega
theorem Rm.Bq(m:Rm)(w p:Nat)(ord:zL):m.size (az ord (m.visit w p ord).1)<=m.size ord:=by
 have:=m.vC ord (m.dL p (l7 w) ord) (m.dL p (l7 w) ord).length 0 (xaO _);simpa[visit,az]using this
theorem Rm.SO(m:Rm)(w:Nat)(ord:zL):∀i,m.size (az ord (m.all w ord i).1)<=m.size ord
 |0=>xaj _
 |i+1=>by
  have h1:=m.SO w ord i;have h2:=m.Bq w i (az ord (m.all w ord i).1);show m.size (az ord (_++_))<=_;rw[cr];exact xbO h2 h1
theorem Rm.Lr(m:Rm)(w:Nat)(ord:zL):∀i,(m.all w ord i).1.length<=23*i/\(m.all w ord i).2<=46*i
 |0=>⟨xaj _,xaj _⟩
 |i+1=>by
  have h1:=m.Lr w ord i;have h2:=m.rL w i (az ord (m.all w ord i).1);constructor
  ·show((m.all w ord i).1++(m.visit w i (az ord (m.all w ord i).1)).1).length<=_;rw[xaf];omega
  show(m.all w ord i).2+(m.visit w i (az ord (m.all w ord i).1)).2<=_;omega
theorem Rm.Lq(m:Rm){w:Nat}{ord:zL}{l:Nat}:∀{i},l∈(m.all w ord i).1->l+3<=i+w
 |0,h=>by simp[all]at h
 |i+1,h=>by
  rcases xan.1 h with h|h
  ·have:=m.Lq h;omega
  have:=m.LM h;omega
theorem Rm.all_succ(m:Rm)(w:Nat)(ord:zL)(i:Nat):m.all w ord (i+1)=((m.all w ord i).1++(m.visit w i (az ord (m.all w ord i).1)).1,(m.all w ord i).2+(m.visit w i (az ord (m.all w ord i).1)).2):=rfl
end aA
set_option maxRecDepth 100000
namespace Go.Proofs
open Go Go.Sx
open aA
def At(kp:Nat)(K:Kd)(S:Nat->aA.Fn)(ord tr:zL)(C:Hp):Prop:=∃K' S' bW,cc kp K' S' ord bW tr C/\Kept K S K' S'
noncomputable def cI(K:Kd)(S:Nat->aA.Fn)(ord:zL):Nat:=sz K.n ord (K.held S)
def jb(K:Kd)(S:Nat->aA.Fn)(ord:zL)(l:Nat):Prop:=A5 K.n ord l (K.held S)+2<=K.cap
section
variable {kp:Nat} {K:Kd} {S:Nat->aA.Fn} {ord tr:zL} {C:Hp}
theorem cc.aZ{ah:zL}(h:cc kp K S ord ah tr C):At kp K S ord tr C:=⟨K,S,ah,h,.refl _ _⟩
theorem Cu{ah:zL}(h:cc kp K S ord ah tr C):K.used=cI K S ord+2:=by
 have h1:=J4 (h.ok.size h.od);have h2:=h.ok.mid.room;unfold cI;omega
theorem qU{K':Kd}{S':Nat->aA.Fn}(h:Kept K S K' S')(ord:zL):cI K' S' ord=cI K S ord:=by
 unfold cI;rw[h.n];exact Po h.held
theorem yG{K':Kd}{S':Nat->aA.Fn}(h:Kept K S K' S')(ord:zL)(l:Nat):jb K' S' ord l↔jb K S ord l:=by
 unfold jb;rw[h.n,h.cap,LU h.held]
theorem At.len(h:At kp K S ord tr C):ord.length=K.n:=by
 obtain⟨K',S',bW,h,hk⟩:=h;rw[<-hk.n];exact h.od.len
theorem gu(h:At kp K S ord tr C):cI K S ord<=1048574:=by
 obtain⟨K',S',bW,h,hk⟩:=h;rw[<-qU hk];have:=Cu h;have:=h.ok.mid.cap;omega
theorem At.lq(h:At kp K S ord tr C):K.n<=64:=by
 obtain⟨K',S',bW,h,hk⟩:=h;obtain⟨b,_,hO⟩:=h.rep;rw[<-hk.n];exact hO.lq
theorem cH(h:At kp K S ord tr C):Rd zQ 140 #[ptr kp] C (· =iv ((cI K S ord:Nat):Int)):=by
 obtain⟨K',S',bW,h,hk⟩:=h;have hs:=Cu h;have hc:=h.ok.mid.cap;refine(UX h.rep zO zO).mono ?_;rintro v H ⟨rfl,rfl⟩;exact⟨rfl,by rw[hs,qU hk];rfl⟩
theorem rA(h:At kp K S ord tr C):Rd zQ 271 #[ptr kp] C (· =iv ((tr.length:Nat):Int)):=by
 obtain⟨K',S',bW,h,hk⟩:=h;exact MO h.rep
theorem mW(h:At kp K S ord tr C):Rd zQ 185 #[ptr kp] C (· =iv ((K.n:Nat):Int)):=by
 obtain⟨K',S',bW,h,hk⟩:=h;rw[<-hk.n];exact gM h.rep
theorem DK(h:At kp K S ord tr C):Fc zQ 65 #[ptr kp] C (λr H=>∃N,H=N++C/\aQ 3 .i64 r (iw ord) N):=by
 obtain⟨K',S',bW,h,hk⟩:=h;exact yC h.rep
theorem ur(h:At kp K S ord tr C){l:Nat}(hl:l+1<K.n)(eM:tr.length<17592186044416)(hf:jb K S ord l):Fc zQ 151 #[ptr kp,iv (l:Int)] C (λr C'=>r=iv 0/\At kp K S (fR ord l) (tr++[l]) C'):=by
 obtain⟨K',S',bW,h,hk⟩:=h;refine(K8 h (by rw[hk.n];exact hl) eM).mono ?_;rintro v C' (⟨_,rfl,K2,S2,X4,h2,qY⟩|⟨hno,_,_⟩)
 ·exact⟨rfl,K2,S2,X4,h2,hk.trans qY⟩
 have:=(yG hk ord l).2 hf;unfold jb at this;omega
theorem mX(h:At kp K S ord tr C){l:Nat}(hl:l+1<K.n)(eM:tr.length<17592186044416)(hf:¬jb K S ord l):Rd zQ 151 #[ptr kp,iv (l:Int)] C (· =iv 9):=by
 obtain⟨K',S',bW,h,hk⟩:=h;refine(K8 h (by rw[hk.n];exact hl) eM).mono ?_;rintro v C' (⟨QV,_⟩|⟨hno,rfl,rfl⟩)
 ·exact absurd ((yG hk ord l).1 QV) hf
 exact⟨rfl,rfl⟩
theorem AV{l:Nat}(h:At kp K S ord (tr++[l]) C)(eM:tr.length<17592186044416):Fc zQ 338 #[ptr kp] C (λr C'=>r=.tuple #[iv (l:Int),iv 0]/\At kp K S (fR ord l) tr C'):=by
 obtain⟨K',S',bW,h,hk⟩:=h;refine(TN h eM).mono ?_;rintro v C' ⟨rfl,_,K2,S2,X4,h2,qY⟩;exact⟨rfl,K2,S2,X4,h2,hk.trans qY⟩
theorem XE(h:At kp K S ord tr C){l:Nat}(hl:l+1<K.n)(eM:tr.length<17592186044416)(hf:jb K S ord l):Fc zQ 272 #[ptr kp,iv (l:Int)] C (λr C'=>
   r=.tuple #[.agg #[iv (l:Int),iv ((cI K S ord:Nat):Int),iv ((cI K S (fR ord l):Nat):Int)],iv 0]/\At kp K S (fR ord l) (tr++[l]) C'):=by
 refine aF λg=>wW ?_;intro b1 _;refine aa.eq (cH h) (Build.mk (cs:=[iv (l:Int),iv ((cI K S ord:Nat):Int),iv 0]) zK ?_);intro b6 _;refine St.q ?_;refine aa.fq (ur h hl eM hf) ?_;rintro v C' ⟨rfl,h'⟩;refine ae.cG (Br.F (aa.eq (cH h') (ai.mk (St.one (by exact .head _) rfl zI rfl ?_))));refine ay.q ?_;refine St.q ?_;refine ay.q ?_;exact aN.mk (.skip .tail) ⟨rfl,h'⟩
theorem XF(h:At kp K S ord tr C){l:Nat}(hl:l+1<K.n)(eM:tr.length<17592186044416)(hf:¬jb K S ord l):Rd zQ 272 #[ptr kp,iv (l:Int)] C (· =.tuple #[.agg #[iv 0,iv 0,iv 0],iv 9]):=by
 refine aF λg=>wW ?_;intro b1 _;refine aa.eq (cH h) (Build.mk (cs:=[iv (l:Int),iv ((cI K S ord:Nat):Int),iv 0]) zK ?_);intro b6 _;refine St.q ?_;refine aa.eq (mX h hl eM hf) (ae.cG (Br.T (Build.mk (cs:=[iv 0,iv 0,iv 0]) zK ?_)));refine St.q ?_;refine ay.q ?_;exact bc.mk (.skip .tail) rfl
theorem Lm{path:zL}(h:At kp K S (az ord path) (tr++path) C)(hp:∀l∈path,l+1<K.n){k:Nat}(hk:k<=path.length)(eM:(tr++path).length<17592186044416):Fc zQ 273 #[ptr kp,iv ((tr.length+k:Nat):Int)] C (λr C'=>
   r=.tuple #[iv ((path.length-k:Nat):Int),iv 0]/\At kp K S (az ord (path.take k)) (tr++path.take k) C'):=by
 have hlen:=h.len;rw[fQ]at hlen;rw[xaf]at eM;refine aF λg=>Ib ?_;refine ae.aD (Br.no ?_);intro J2 Bg;refine ae.lss ?_;rw[xal zO];refine Split.go rfl (aa.eq (rA h) (ae.gtr ?_));rw[xal (by rw[xaf];omega)];refine aI.mk (JE.mk (Bg _ _ λgs=>Br.no ?_));refine⟨λvs H=>∃m,m<=path.length/\k<=m/\vs=[iv ((path.length-m:Nat):Int)]/\At kp K S (az ord (path.take m)) (tr++path.take m) H,λvs _=>path.length-bL vs 0,JE.mk ⟨path.length,xaj _,hk,by simp,by simpa using h⟩,?_⟩;rintro w H ⟨m,hm,hkm,hw,Be⟩ gs;simp only[xau,xa0]at hw;subst hw;refine aa.eq (rA Be) (ae.m9 (Br.dec (λhlt=>?_) (λhlt=>?_)))
 ·rw[xaf,xbD]at hlt;obtain⟨m,rfl⟩:∃m',m=m'+1:=⟨m-1,by omega⟩;have e:path.take (m+1)=path.take m++[path[m]]:=by rw[xbp,xaa zO];rfl
  rw[e,<-xai,gA]at Be;refine aa.fq (AV Be zP) ?_;rintro v C' ⟨rfl,h'⟩;rw[qx (by rw[fQ,hlen];exact hp _ (xaG _))]at h';refine ae.inc (aC.of (.refl _) ⟨m,by omega,by omega,by rw[show path.length-(m+1)+1=path.length-m by omega],h'⟩ ?_);show path.length-(((path.length-(m+1)+1:Nat):Int).toNat)<path.length-(((path.length-(m+1):Nat):Int).toNat);omega
 rw[xaf,xbD]at hlt;obtain rfl:m=k:=by omega
 exact aN.here ⟨rfl,Be⟩
end
theorem FZ{w:Nat}(hw:2<=w/\w<=4):Fc zQ 269 #[iv (w:Int)] [] (λv H=>∃s,v=.tuple #[s,iv 0]/\aQ 3 .i64 s (iw (l7 w)) H):=by
 refine aF λg=>Ig ?_;obtain rfl|rfl|rfl:w=2\/w=3\/w=4:=by omega
 ·refine ae.gU (Br.T (av.int (e:=3) zK zK zK λbx=>?_));exact aN.here ⟨_,rfl,aQ.made [0]⟩
 ·refine ae.gU (Br.F (ae.gU (Br.T (⟨ax .i64 (iw (l7 3)),3,1,iv 0,by kernel_rfl,by kernel_rfl,by kernel_rfl,by decide,by kernel_rfl,λbx _=>?_⟩))));exact aN.here ⟨_,rfl,aQ.made (iw (l7 3))⟩
 refine ae.gU (Br.F (ae.gU (Br.F (ae.gU (Br.T (⟨ax .i64 (iw (l7 4)),3,1,iv 0,by kernel_rfl,by kernel_rfl,by kernel_rfl,by decide,by kernel_rfl,λbx _=>?_⟩))))));exact aN.here ⟨_,rfl,aQ.made (iw (l7 4))⟩
end Go.Proofs
namespace Go.Sx
open Go
section
variable {P:Program} {g:Gh} {H:Hp}
theorem iY.nat{len size b o j:Nat}{kd:IntKind}{k:zV->Prop}(h1:j<len)(h:k (.pointer (some ⟨b,o+j*size,none⟩))):iY len size (.pointer (some ⟨b,o,none⟩)) (.int kd (j:Int)) k:=
 ⟨b,o,kd,(j:Int),rfl,rfl,by omega,by omega,by simpa using h⟩
theorem jG.acT{o:Oper}{ρ:Operand->zV}{k:zV->Prop}{t e:TypeId}{q kd:IntKind}{n j:Nat}{x i:Operand}{l:List Int}{z:Int}(ho:o.op=.index t x i)(hx:ρ x=.agg (ax q l))(hi:ρ i=.int kd (j:Int))
 (ht:P.underlying t=some (.array n e))(hu:P.underlying e=some (.int q))(hz:dI P e=some 1)(hj:j<n)(hl:l[j]? =some z)(hk:k (.int q z)):jG P g o ρ H k:=by
 obtain⟨inf,afd,hs⟩:=bE hz;refine⟨_,λw _=>?_,hk⟩;have hp:=qE (P:=P) hu hl w;have RA:(0:Int)<=(j:Int)/\(j:Int)<(n:Int):=by omega
 simp only[execOp,ho,Instr.index,hx,hi,asIntOf,Sem.run_bind,Sem.run_pure,Result.andThen_ok,run_underlying ht,run_sizeOf afd,hs,xae RA,xbe,xb1,hp]
end
end Go.Sx
namespace aA
open an
def clr(m v:Nat):Nat:=if m.testBit v then m^^^2^v else m
def rest(m:Nat)(ord:zL):Nat->Nat
 |0=>m
 |k+1=>clr (rest m ord k) (ord.getD k 0)
section
variable {n m o:Nat} {ord:zL} {F:Fn->Prop}
theorem getD_inj(hn:ord.Nodup){i j:Nat}(hi:i<ord.length)(hj:j<ord.length)(e:ord.getD i 0=ord.getD j 0):i=j:=by
 rw[xar,xar,xaa hi,xaa hj]at e;exact(List.getElem_inj hn).1 e
theorem Pq{l:Nat}(hl:l+1<ord.length):(fR ord l).Perm ord:=by
 unfold fR;have e1:ord=ord.take l++ord.getD l 0::ord.getD (l+1) 0::ord.drop (l+2):=by
  conv=>lhs;rw[<-xbr l ord]
  congr 1;rw[xbs zO,xbs zO];simp[List.getD,xaa (show l<ord.length by omega),xaa hl]
 have ht:(ord.take l).length=l:=by simp;omega
 have e2:(ord.set l (ord.getD (l+1) 0)).set (l+1) (ord.getD l 0)=ord.take l++ord.getD (l+1) 0::ord.getD l 0::ord.drop (l+2):=by
  generalize hx:ord.getD l 0=x at*;generalize hy:ord.getD (l+1) 0=y at*
  conv=>lhs;rw[e1]
  rw[xcA _ _ zO,ht,xc6,xcy,xcA _ _ zO,ht,Nat.add_sub_cancel_left,xed,xcy]
 rw[e2]
 conv=>rhs;rw[e1]
 exact xbW _ (List.Perm.swap _ _ _)
theorem k8:∀{path:zL} {ord:zL},(∀l∈path,l+1<ord.length)->(az ord path).Perm ord
 | [],_,_=>.refl _
 |l::r,ord,h=>by
  show(az (fR ord l) r).Perm ord;have h1:=h l zI;exact(k8 λx hx=>by rw[mB];exact h x (by simp[hx])).trans (Pq h1)
end
def flat(n s:Nat):Rm:=⟨n,λ_=>s,λ_ _=>true⟩
end aA
namespace aA
def F6(i:Nat):Nat->zL
 |0=>[]
 |j+1=>if i<=j then j::F6 i j else []
theorem AQ{i j:Nat}(h:j<=i):F6 i j=[]:=by
 cases j with
 |zero=>rfl
 |succ j=>rw[F6,xab zO]
theorem rz{i j:Nat}(h:i<=j):F6 i (j+1)=j::F6 i j:=by rw[F6,xae h]
theorem Li{i l:Nat}:∀{j},l∈F6 i j->i<=l/\l<j
 |0,h=>by simp[F6]at h
 |j+1,h=>by
  by_cases e:i<=j
  ·rw[rz e]at h;rcases xak.1 h with rfl|h
   ·omega
   have:=Li h;omega
  rw[AQ zO]at h;simp at h
theorem AP(i:Nat):∀j,(F6 i j).length=j-i
 |0=>by simp[F6]
 |j+1=>by
  by_cases e:i<=j
  ·rw[rz e,xay,AP i j];omega
  rw[AQ zO];simp;omega
theorem Lj{i k:Nat}:∀{j:Nat} {a:zL},i<=j->j<a.length->(k<=i->(az a (F6 i j)).getD k 0=if k=i then a.getD j 0 else a.getD k 0)
 |0,a,hi,hj,hk=>by
  obtain rfl:i=0:=by omega
  obtain rfl:k=0:=by omega
  simp[F6,az]
 |j+1,a,hi,hj,hk=>by
  by_cases e:i<=j
  ·rw[rz e];show(az (fR a j) (F6 i j)).getD k 0=_;rw[Lj (j:=j) e (by rw[mB];omega) hk,fx zO,fx zO];by_cases h:k=i
   ·subst h;simp
   rw[xab h,xab h,xab zO,xab zO]
  obtain rfl:i=j+1:=by omega
  rw[AQ (xaj _)];show a.getD k 0=_;split
  ·rename_i h;rw[h]
  rfl
def ZQ(p:zL)(x:Nat):Nat:=p.idxOf x
def eo(p q:zL):Nat->zL
 |0=>[]
 |i+1=>eo p q i++F6 i (ZQ (az p (eo p q i)) (q.getD i 0))
def path(p q:zL):zL:=eo p q q.length
theorem Qa{p:zL}{x:Nat}(h:x∈p):ZQ p x<p.length:=List.idxOf_lt_length_iff.2 h
theorem Ks{p:zL}{x:Nat}(h:x∈p):p.getD (ZQ p x) 0=x:=by
 have h1:=Qa h;rw[xar,xaa h1];show p[p.idxOf x]=x;exact List.getElem_idxOf h1
section
variable {p q:zL}
theorem jQ(hq:q.Nodup)(hp:p.Perm q):∀i,i<=q.length->(∀l∈eo p q i,l+1<p.length)/\(∀k,k<i->(az p (eo p q i)).getD k 0=q.getD k 0)/\(i<q.length->i<=ZQ (az p (eo p q i)) (q.getD i 0)/\ZQ (az p (eo p q i)) (q.getD i 0)<p.length)
 |i,hi=>by
  have hlen:=hp.length_eq;have base:(∀l∈eo p q i,l+1<p.length)/\(∀k,k<i->(az p (eo p q i)).getD k 0=q.getD k 0):=by
   cases i with
   |zero=>exact⟨λl hl=>by simp[eo]at hl,λk hk=>absurd hk (xcC _)⟩
   |succ i=>
    obtain⟨h1,h2,h3⟩:=jQ hq hp i zO;obtain⟨h4,h5⟩:=h3 zO;have hm:q.getD i 0∈az p (eo p q i):=by
     have:q.getD i 0∈q:=by rw[xar,xaa (show i<q.length by omega)];exact xaG _
     exact((k8 h1).trans hp).mem_iff.2 this
    refine⟨λl hl=>?_,λk hk=>?_⟩
    ·rcases xan.1 hl with hl|hl
     ·exact h1 l hl
     have:=Li hl;omega
    rw[eo,cr,Lj h4 (by rw[fQ];exact h5) zO];split
    ·rename_i e;subst e;exact Ks hm
    exact h2 k zO
  refine⟨base.1,base.2,λhlt=>?_⟩;have hm:q.getD i 0∈az p (eo p q i):=by
   have:q.getD i 0∈q:=by rw[xar,xaa hlt];exact xaG _
   exact((k8 base.1).trans hp).mem_iff.2 this
  have h5:=Qa hm;rw[fQ]at h5;refine⟨?_,h5⟩;refine xaK λtM=>?_;have:=base.2 _ (Nat.lt_of_not_le tM);rw[Ks hm]at this;have:=getD_inj hq hlt zO this;omega
theorem Ae(hq:q.Nodup)(hp:p.Perm q):az p (path p q)=q/\∀l∈path p q,l+1<p.length:=by
 obtain⟨h1,h2,_⟩:=jQ hq hp q.length (xaj _);refine⟨Dn (by rw[fQ];exact hp.length_eq) λi hi=>h2 i ?_,h1⟩;rw[fQ,hp.length_eq]at hi;exact hi
theorem rY(hq:q.Nodup)(hp:p.Perm q):∀i,i<=q.length->(eo p q i).length<=i*p.length
 |0,_=>by simp[eo]
 |i+1,hi=>by
  have:=rY hq hp i zO;obtain⟨_,_,h3⟩:=jQ hq hp i zO;rw[eo,xaf,AP,xbu];have:=(h3 zO).2;omega
end
end aA
namespace aA
open an
section
variable {n l:Nat} {ord:zL} {F G:Fn->Prop} {f c:Fn}
theorem yS:∀l g,fs ord (λg=>F g\/G g) l g↔fs ord F l g\/fs ord G l g
 |0,g=>xcT
 |l+1,g=>by
  constructor
  ·rintro⟨f,hf,b,rfl⟩;rcases(yS l f).1 hf with h|h
   ·exact .inl ⟨f,h,b,rfl⟩
   exact .inr ⟨f,h,b,rfl⟩
  rintro(⟨f,hf,b,rfl⟩|⟨f,hf,b,rfl⟩)
  ·exact⟨f,(yS l f).2 (.inl hf),b,rfl⟩
  exact⟨f,(yS l f).2 (.inr hf),b,rfl⟩
theorem B9(g:Fn):aG n ord (λg=>F g\/G g) g↔aG n ord F g\/aG n ord G g:=by
 constructor
 ·rintro⟨l,hl,hf,hh⟩;rcases(yS l g).1 hf with h|h
  ·exact .inl ⟨l,hl,h,hh⟩
  exact .inr ⟨l,hl,h,hh⟩
 rintro(⟨l,hl,hf,hh⟩|⟨l,hl,hf,hh⟩)
 ·exact⟨l,hl,(yS l g).2 (.inl hf),hh⟩
 exact⟨l,hl,(yS l g).2 (.inr hf),hh⟩
theorem cN{v:Nat}(h:¬cF f v)(x:Nat)(b:Bool):f (aB x v b)=f x:=by
 have h0:f (aB x v false)=f (aB x v true):=xaK λhne=>h ⟨x,hne⟩;have h1:=iq x v
 conv=>rhs;rw[<-h1]
 cases b<;>cases x.testBit v<;>simp[h0]
theorem AH(hi:∀j,j<l->¬cF f (ord.getD j 0)):∀k,k<=l->fs ord (λg=>g=f) k f
 |0,_=>rfl
 |k+1,hk=>⟨f,AH hi k zO,false,funext λx=>(cN (hi k zO) x false).symm⟩
theorem ug(hi:∀j,j<l->¬cF f (ord.getD j 0)):∀k,k<=l->∀g,fs ord (λg=>g=f) k g->g=f
 |0,_,g,h=>h
 |k+1,hk,g,h=>by
  obtain⟨f',hf,b,rfl⟩:=h;obtain rfl:=ug hi k zO f' hf;exact funext λx=>cN (hi k zO) x b
theorem jI(hi:∀j,j<l->¬cF f (ord.getD j 0)){b:Bool}(hc:c=λx=>f (aB x (ord.getD l 0) b)):
  (∀j,j<l+1->¬cF c (ord.getD j 0))/\∀g,aG n ord (λg=>g=c) g->aG n ord (λg=>g=f) g:=by
 have h1:fs ord (λg=>g=f) (l+1) c:=⟨f,AH hi l (xaj _),b,hc⟩;have h2:∀j,j<l+1->¬cF c (ord.getD j 0):=λj hj=>vS (l+1) c h1 j hj;refine⟨h2,?_⟩;rintro g ⟨m,hm,hf,hh⟩;by_cases e:m<l+1
 ·obtain rfl:=ug h2 m zO g hf;exact absurd hh (h2 m e)
 have key:∀d g,fs ord (λg=>g=c) (l+1+d) g->fs ord (λg=>g=f) (l+1+d) g:=λd=>by
  induction d with
  |zero=>intro g hg;obtain rfl:=ug h2 (l+1) (xaj _) g hg;exact h1
  |succ d ih=>rintro g ⟨f',Rq,b',rfl⟩;exact⟨f',ih f' Rq,b',rfl⟩
 obtain⟨d,rfl⟩:∃d,m=l+1+d:=⟨m-(l+1),by omega⟩;exact⟨_,hm,key d g hf,hh⟩
theorem oz(hi:∀j,j<l->¬cF f (ord.getD j 0))(hl:l<n)(hh:cF f (ord.getD l 0)):aG n ord (λg=>g=f) f:=⟨l,hl,AH hi l (xaj _),hh⟩
end
section
variable {K:Kd} {S:Nat->Fn} {ah:Nat->Nat} {ord:zL}
theorem Ok.below(h:Ok K S ah)(ho:Ord K.n ah ord){r l:Nat}(hr:live K.N r)(hl:l<=K.n)(hi:∀j,j<l->¬cF (S r) (ord.getD j 0)):l<=dep K.n ah K.N r:=by
 cases e:K.N r with
 |none=>rw[aU e];exact hl
 |some d=>
  rw[aq e];refine xaK λhlt=>?_;have iB:ah d.v<l:=Nat.lt_of_not_le hlt;have:=hi _ iB;rw[ho.of h.lv (h.mid.var e)]at this;exact this (gm h.wf h.lv h.mid.int e)
theorem Ok.roomFor(h:Ok K S ah)(ho:Ord K.n ah ord){U:Fn->Prop}{k:Nat}(hk:o7 U k)(hfit:k+2<=K.cap)(hU:∀g,aG K.n ord (K.held S) g->U g){d:Nd}
 (hlo:live K.N d.lo)(hhi:live K.N d.hi)(hne:d.lo≠d.hi)(hv:d.v<K.n)(hlt:ah d.v<dep K.n ah K.N d.lo/\ah d.v<dep K.n ah K.N d.hi)(hg:U (ite S d))(hT:K.T d=none):K.used<K.cap:=by
 have hs:=h.size ho;have hu:=h.mid.room;obtain⟨l1,a1,a2,a3⟩:=hs;have Yy:ite S d∉l1:=λhm=>by
  obtain⟨r,e,hr,he⟩:=(nJ h.wf h.lv ho h.mid.int (λr hr=>.inr (h.mid.held r hr)) h.reach (ite S d)).1 ((a3 _).2 hm);have hTd:¬K.N r=some d:=λhN=>by
   have:=(h.mid.j5 d r).2 ⟨hN,λx=>x⟩;rw[hT]at this;cases this
  apply hTd;have Q1:S r=ite S d:=he.symm;have QW:e.v=d.v:=by
   have e1:=h.lv.lt e.v (h.mid.var hr);have e2:=h.lv.lt d.v hv;rcases xcJ (ah e.v) (ah d.v)with hh|hh|hh
   ·exfalso;obtain⟨z,hz⟩:=gm h.wf h.lv h.mid.int hr;rw[Q1]at hz;apply hz;unfold ite;have i1:=h.wf.bN h.lv h.mid.int hlo (h.mid.var hr) zO;have i2:=h.wf.bN h.lv h.mid.int hhi (h.mid.var hr) zO;have Fz:d.v≠e.v:=λpo=>by rw[po]at hh;omega
    simp only[aj,xab Fz,i1,i2]
   ·exact h.lv.inj _ _ (h.mid.var hr) hv hh
   exfalso;have hx:=h.wf.bN h.lv h.mid.int (r:=r) (.inr ⟨e,hr⟩) hv (by rw[aq hr];exact hh);apply hne;refine h.wf.same h.lv h.mid.int hlo hhi λx=>?_;have i1:=h.wf.bN h.lv h.mid.int hlo hv hlt.1;have i2:=h.wf.bN h.lv h.mid.int hhi hv hlt.2;have q1:=hx x false;have q2:=hx x true;rw[Q1]at q1 q2;have q3:=q1.trans q2.symm;unfold ite at q3;simp only[aj,xa6,i1,i2,xaN,xa1]at q3;exact q3
  have kG:∀(b:Bool) x,S (if b then e.hi else e.lo) x=S (if b then d.hi else d.lo) x:=λb x=>by
   rw[<-h.wf.child h.lv h.mid.int hr x b,Q1,QW];have i1:=h.wf.bN h.lv h.mid.int hlo hv hlt.1;have i2:=h.wf.bN h.lv h.mid.int hhi hv hlt.2;unfold ite;rw[aj,xae rfl,i1,i2];cases b<;>rfl
  have e1:e.lo=d.lo:=h.wf.same h.lv h.mid.int (h.mid.lo hr) hlo λx=>kG false x;have e2:e.hi=d.hi:=h.wf.same h.lv h.mid.int (h.mid.hi hr) hhi λx=>kG true x;have hed:∀a b:Nd,a.v=b.v->a.lo=b.lo->a.hi=b.hi->a=b:=λa b h1 h2 h3=>by
   cases a;cases b;cases h1;cases h2;cases h3;rfl
  rw[hr,hed e d QW e1 e2]
 obtain⟨l2,b1,b2,b3⟩:=hk;have:=cv (l:=ite S d::l1) (l':=l2) (xaV.2 ⟨Yy,a1⟩) λg W8=>by
  rcases xak.1 W8 with rfl|W8
  ·exact(b3 _).1 hg
  exact(b3 _).1 (hU g ((a3 g).2 W8))
 rw[xay]at this;omega
end
end aA
namespace aA
open an
def dY(N:eB)(v:Nat)(b:Bool)(r:Nat):Nat:=match N r with
 |some d=>if d.v=v then(if b then d.hi else d.lo)else r
 |none=>r
def iW(N:eB)(v:Nat)(b:Bool)(q:zL):zL:=q.map (dY N v b)
structure tU(n:Nat)(ah:Nat->Nat)(N:eB)(q:zL)(v:Nat):Prop where
 lt:v<n
 ex:∃r∈q,∃d,N r=some d/\d.v=v
 le:∀r∈q,ah v<=dep n ah N r
inductive Tree(n:Nat)(ah:Nat->Nat)(N:eB):zL->Nat->Prop
 |leaf {q:zL} (h:∀r∈q,N r=none):Tree n ah N q 0
 |node {q:zL} {v a b:Nat} (h:tU n ah N q v) (ha:Tree n ah N (iW N v false q) a) (hb:Tree n ah N (iW N v true q) b):Tree n ah N q (a+b+1)
def tS(t:Bool->Bool->Bool->Bool)(S:Nat->Fn)(q:zL):Fn:=λx=>t (S (q.getD 0 0) x) (S (q.getD 1 0) x) (S (q.getD 2 0) x)
section
variable {n:Nat} {ah:Nat->Nat} {N:eB} {S:Nat->Fn} {q:zL} {v:Nat}
theorem tU.uniq(hl:jY n ah){u:Nat}(h:tU n ah N q v)(h':tU n ah N q u):v=u:=by
 obtain⟨r,hr,d,hd,rfl⟩:=h.ex;obtain⟨s,hs,e,he,rfl⟩:=h'.ex;have a:=h.le s hs;have b:=h'.le r hr;rw[aq he]at a;rw[aq hd]at b;exact hl.inj _ _ h.lt h'.lt zO
theorem gi(h:WF n ah N)(hl:jY n ah)(hi:Interp N S){r:Nat}(hr:live N r)(hv:v<n)(hle:ah v<=dep n ah N r)(b:Bool):
  (∀x,S (dY N v b r) x=S r (aB x v b))/\live N (dY N v b r)/\ah v+1<=dep n ah N (dY N v b r):=by
 have hlt:=hl.lt v hv;unfold dY;cases e:N r with
 |none=>
  simp only;refine⟨λx=>?_,hr,by rw[aU e];omega⟩;exact(h.bN hl hi hr hv (by rw[aU e];exact hlt) x b).symm
 |some d=>
  simp only;rw[aq e]at hle;by_cases ev:d.v=v
  ·rw[xae ev];subst ev;refine⟨λx=>(h.child hl hi e x b).symm,?_,?_⟩
   ·cases b
    ·exact(h.lo e).1
    exact(h.hi e).1
   cases b
   ·exact(h.lo e).2
   exact(h.hi e).2
  rw[xab ev];have hne:ah v≠ah d.v:=λe2=>ev (hl.inj _ _ (h.var e) hv e2.symm);refine⟨λx=>(h.bN hl hi hr hv (by rw[aq e];omega) x b).symm,hr,by rw[aq e];omega⟩
theorem Sq(b:Bool):(iW N v b q).length=q.length:=by simp[iW]
theorem Sr{b:Bool}{i:Nat}(hi:i<q.length):(iW N v b q).getD i 0=dY N v b (q.getD i 0):=by
 simp[iW,List.getD,xaa hi]
theorem oR(h:WF n ah N)(hl:jY n ah)(hi:Interp N S)(hq:∀r∈q,live N r)(ht:tU n ah N q v)(b:Bool):
  (∀r∈iW N v b q,live N r)/\(∀r∈iW N v b q,ah v+1<=dep n ah N r):=by
 constructor
 ·intro r hr;obtain⟨s,hs,rfl⟩:=xao.1 hr;exact(gi h hl hi (hq s hs) ht.lt (ht.le s hs) b).2.1
 intro r hr;obtain⟨s,hs,rfl⟩:=xao.1 hr;exact(gi h hl hi (hq s hs) ht.lt (ht.le s hs) b).2.2
theorem K9(h:WF n ah N)(hl:jY n ah)(hi:Interp N S)(h3:q.length=3)(hq:∀r∈q,live N r)(ht:tU n ah N q v)(t:Bool->Bool->Bool->Bool)(b:Bool):tS t S (iW N v b q)=λx=>tS t S q (aB x v b):=by
 funext x
 have key:∀i,i<3->S ((iW N v b q).getD i 0) x=S (q.getD i 0) (aB x v b):=λi YJ=>by
  have hi':i<q.length:=by omega
  rw[Sr hi'];have hm:q.getD i 0∈q:=by rw[xar,xaa hi'];exact xaG _
  exact(gi h hl hi (hq _ hm) ht.lt (ht.le _ hm) b).1 x
 unfold tS;rw[key 0 zO,key 1 zO,key 2 zO]
theorem yV(h:WF n ah N)(hl:jY n ah)(hi:Interp N S){ord:zL}(ho:Ord n ah ord)(h3:q.length=3)(hq:∀r∈q,live N r){l:Nat}(Bb:l<=n)(hle:∀r∈q,l<=dep n ah N r)(t:Bool->Bool->Bool->Bool):∀j,j<l->¬cF (tS t S q) (ord.getD j 0):=by
 rintro j hj ⟨x,hx⟩;apply hx;obtain⟨o1,o2⟩:=ho.aZ j zO;have key:∀i,i<3->∀b,S (q.getD i 0) (aB x (ord.getD j 0) b)=S (q.getD i 0) x:=λi YJ b=>by
  have hi':i<q.length:=by omega
  have hm:q.getD i 0∈q:=by rw[xar,xaa hi'];exact xaG _
  exact h.bN hl hi (hq _ hm) o1 (by rw[o2];exact xaQ hj (hle _ hm)) x b
 unfold tS;simp only[key 0 zO,key 1 zO,key 2 zO]
theorem Ni(hi:Interp N S)(h3:q.length=3)(hq:∀r∈q,r<2)(t:Bool->Bool->Bool->Bool)(x:Nat):tS t S q x=t (decide (q.getD 0 0=1)) (decide (q.getD 1 0=1)) (decide (q.getD 2 0=1)):=by
 have key:∀i,i<3->S (q.getD i 0) x=decide (q.getD i 0=1):=λi YJ=>by
  have hi':i<q.length:=by omega
  have hm:q.getD i 0∈q:=by rw[xar,xaa hi'];exact xaG _
  have:=hq _ hm;have h2:q.getD i 0=0\/q.getD i 0=1:=by omega
  rcases h2 with e|e<;>rw[e]
  ·rw[hi.zero];rfl
  rw[hi.one];rfl
 unfold tS;rw[key 0 zO,key 1 zO,key 2 zO]
theorem Pk(h:WF n ah N):∀{q:zL},(∃r∈q,∃d,N r=some d)->(hl:jY n ah)->∃v,tU n ah N q v
 | [],he,_=>by obtain⟨r,hr,_⟩:=he;cases hr
 |s::q,he,hl=>by
  by_cases hq:∃r∈q,∃d,N r=some d
  ·obtain⟨v,hv⟩:=Pk h hq hl;cases es:N s with
   |none=>
    refine⟨v,hv.lt,?_,λr hr=>?_⟩
    ·obtain⟨r,hr,x⟩:=hv.ex;exact⟨r,by simp[hr],x⟩
    rcases xak.1 hr with rfl|hr
    ·rw[aU es];exact xb7 (hl.lt v hv.lt)
    exact hv.le r hr
   |some d=>
    by_cases hlt:ah d.v<=ah v
    ·refine⟨d.v,h.var es,⟨s,by simp,d,es,rfl⟩,λr hr=>?_⟩;rcases xak.1 hr with rfl|hr
     ·rw[aq es];exact xaj _
     exact xbO hlt (hv.le r hr)
    refine⟨v,hv.lt,?_,λr hr=>?_⟩
    ·obtain⟨r,hr,x⟩:=hv.ex;exact⟨r,by simp[hr],x⟩
    rcases xak.1 hr with rfl|hr
    ·rw[aq es];omega
    exact hv.le r hr
  obtain⟨r,hr,d,hd⟩:=he;rcases xak.1 hr with rfl|hr
  ·refine⟨d.v,h.var hd,⟨r,by simp,d,hd,rfl⟩,λs hs=>?_⟩;rcases xak.1 hs with rfl|hs
   ·rw[aq hd];exact xaj _
   have:N s=none:=by
    cases e:N s with
    |none=>rfl
    |some d'=>exact absurd ⟨s,hs,d',e⟩ hq
   rw[aU this];exact xb7 (hl.lt _ (h.var hd))
  exact absurd ⟨r,hr,d,hd⟩ hq
theorem TS(h:WF n ah N)(hl:jY n ah)(hi:Interp N S):∀(k l:Nat) (q:zL),n-l<=k->l<=n->(∀r∈q,live N r)->(∀r∈q,l<=dep n ah N r)->∃c,Tree n ah N q c/\c+1<=2^(n-l):=by
 intro k;induction k with
 |zero=>
  intro l q hk Bb hq hd;refine⟨0,.leaf λr hr=>?_,xef⟩;cases e:N r with
  |none=>rfl
  |some d=>have:=hd r hr;rw[aq e]at this;have:=hl.lt _ (h.var e);omega
 |succ k ih=>
  intro l q hk Bb hq hd;by_cases he:∃r∈q,∃d,N r=some d
  ·obtain⟨v,hv⟩:=Pk h he hl;have hlv:=hl.lt v hv.lt;have nw:l<=ah v:=by
    obtain⟨r,hr,d,dP,rfl⟩:=hv.ex;have:=hd r hr;rwa [aq dP]at this
   obtain⟨f1,f2⟩:=oR (S:=S) h hl hi hq hv false;obtain⟨t1,t2⟩:=oR (S:=S) h hl hi hq hv true;obtain⟨a,ha,p8⟩:=ih (ah v+1) _ zO hlv f1 f2;obtain⟨b,hb,ta⟩:=ih (ah v+1) _ zO hlv t1 t2;refine⟨a+b+1,.node hv ha hb,?_⟩;have e1:2^(n-ah v)=2*2^(n-(ah v+1)):=by
    rw[show n-ah v=(n-(ah v+1))+1 by omega,xd0,xcn]
   have e2:2^(n-ah v)<=2^(n-l):=xaz zD zO;omega
  refine⟨0,.leaf λr hr=>?_,xef⟩;cases e:N r with
  |none=>rfl
  |some d=>exact absurd ⟨r,hr,d,e⟩ he
def mK(N:eB)(v:Nat)(b:Bool)(q:zL)(i:Nat):zL:=(iW N v b q).take i++q.drop i
theorem Ce{b:Bool}{i:Nat}(hi:i<=q.length):(mK N v b q i).length=q.length:=by simp[mK,iW];omega
theorem yh(b:Bool):mK N v b q 0=q:=by simp[mK]
theorem Qr(b:Bool):mK N v b q q.length=iW N v b q:=by
 unfold mK;rw[xca (by rw[Sq];exact xaj _),xet,xaL]
theorem r4{b:Bool}{i r:Nat}(hr:q[i]? =some r):(mK N v b q i).set i (dY N v b r)=mK N v b q (i+1):=by
 have hi:=(xah.1 hr).1;have he:=(xah.1 hr).2;have hl:((iW N v b q).take i).length=i:=by simp[iW];omega
 have hc:(iW N v b q)[i]? =some (dY N v b r):=by simp[iW,hr]
 unfold mK;rw[xcA _ _ zO,hl,xc6,xbs hi,xcy,xbp,hc,xai];rfl
theorem yj{b:Bool}{i r:Nat}(hr:q[i]? =some r)(h:dY N v b r=r):mK N v b q (i+1)=mK N v b q i:=by
 rw[<-r4 hr,h];have hi:=(xah.1 hr).1;have he:=(xah.1 hr).2;have hl:((iW N v b q).take i).length=i:=by simp[iW];omega
 unfold mK;rw[xcA _ _ zO,hl,xc6,xbs hi,xcy,he]
end
end aA
set_option maxRecDepth 100000
namespace Go.Proofs
open Go Go.Sx
section
open aA
noncomputable instance {K:Kd}{S:Nat->aA.Fn}{ord:zL}{l:Nat}:Decidable (jb K S ord l):=Nat.decLe _ _
noncomputable def rm(K:Kd)(S:Nat->aA.Fn):Rm:=⟨K.n,cI K S,λord l=>decide (jb K S ord l)⟩
theorem pS{K:Kd}{S:Nat->aA.Fn}{ord:zL}{l:Nat}:(rm K S).fit ord l=true↔jb K S ord l:=by
 show decide (jb K S ord l)=true↔_;exact decide_eq_true_iff
def Box(kp b1 l8:Nat)(cs:zL)(B:Hp):Prop:=∃vc Cc,B=(b1,.cells #[ptr kp] 85 (0,0))::(l8,.cells #[vc] 43 (0,0))::Cc/\aQ 3 .i64 vc (iw cs) Cc
section
variable {kp b1 l8 w p:Nat} {K:Kd} {S:Nat->aA.Fn} {ord tr:zL} {B C:Hp}
theorem Pa(hB:Box kp b1 l8 (l7 w) B)(h:At kp K S ord tr C)(hp:p+w<=K.n)(eM:tr.length<17454747090944):
  Fc zQ 270 #[iv (p:Int),ptr b1,ptr l8] (B++C) (λv H=>v=iv ((((rm K S).visit w p ord).2:Nat):Int)/\∃C',H=B++C'/\At kp K S (az ord ((rm K S).visit w p ord).1) (tr++((rm K S).visit w p ord).1) C'):=by
 obtain⟨vc,Cc,rfl,hc⟩:=hB;have hn:=h.lq;have hlen:=h.len;have fN:=Lh w
 let m:=rm K S
 let path:=m.dL p (l7 w) ord
 have yK:path.length<=(l7 w).length:=m.lZ p _ _;have Q6:∀l∈path,l+1<K.n:=λl hl=>by
  obtain⟨c,hc,rfl⟩:=m.Dd p hl;have:=FY hc;omega
 let P0:Hp->Hp:=λX=>(b1,.cells #[ptr kp] 85 (0,0))::(l8,.cells #[vc] 43 (0,0))::(Cc++X)
 refine aF λg=>Ie ?_;rw[xaR,xaR];refine DR.self (Ld.q ?_);refine Ld.q ?_;refine aa.eq (rA h) (⟨.refl _,?_⟩);refine aa.eq (cH h) (⟨.refl _,?_⟩);intro J8 hJ8;have fin:∀C2,At kp K S (az ord path) (tr++path) C2->J8 [iv ((m.keep ord path path.length:Nat):Int),iv ((path.length:Nat):Int)] (P0 C2):=λC2 h2=>by
  refine hJ8 _ _ _ λgs=>?_;refine Ld.q ?_;have hk:=m.An ord path path.length;refine ae.fH (aa.fq (Lm h2 Q6 hk (by rw[xaf];omega)) ?_);rintro v C' ⟨rfl,h3⟩;exact Ext.two (ae.fH (aN.here ⟨rfl,C',by simp only[xaR],h3⟩))
 refine Ld.q ?_;refine hc.bP ?_;rw[ak];refine⟨λvs H=>∃i C2,i<=path.length/\vs=[iv ((cI K S (az ord (path.take (m.keep ord path i))):Nat):Int),iv ((m.keep ord path i:Nat):Int),iv (i:Int),iv (i:Int)]/\H=P0 C2/\At kp K S (az ord (path.take i)) (tr++path.take i) C2,
  λvs _=>(l7 w).length-bL vs 3,JE.mk ⟨0,C,xaO _,rfl,rfl,by simpa[az]using h⟩,?_⟩
 rintro w26 w27 w28 w29 H ⟨i,C2,hi,hw,rfl,h2⟩ gs;simp only[xau,xa0]at hw;obtain⟨rfl,rfl,rfl,rfl⟩:=hw;refine ae.fi (Br.dec (λhlt=>?_) (λhlt=>?_));rotate_left
 ·obtain rfl:i=path.length:=by omega
  rw[xbh]at h2;exact JE.mk (fin C2 h2)
 intro J31 RU;have pw:(l7 w)[i]? =some (l7 w)[i]:=xaa hlt;have FC:(l7 w)[i]+2<=w:=FY (xaG _);refine hc.ld (x:=(((l7 w)[i]:Nat):Int)) (by rw[bH hlt,List.getD,pw];rfl) (bG.sub (.cons (.cons .left))) ?_;refine Ld.q ?_;refine ae.fH ?_;by_cases Aw:i=path.length
 ·-- no room
  subst Aw;rw[xbh]at h2;have hno:¬jb K S (az ord path) (p+(l7 w)[path.length]):=λhf=>by
   have:=m.vP p (l7 w) ord _ pw;have h9:=pS.2 hf;rw[show(rm K S).fit (az ord path) (p+(l7 w)[path.length])=false from this]at h9;cases h9
  refine aa.eq (XF h2 zO (by rw[xaf];omega) hno) (Ext.two ?_);intro b46 _;refine St.q ?_;exact ae.cG (Br.T (JE.of .tail (fin C2 h2)))
 have Ri:i<path.length:=by omega
 obtain⟨e1,c',e2,hf⟩:=m.q5 p (l7 w) ord i Ri;rw[pw]at e1 e2;cases e2;have QV:jb K S (az ord (path.take i)) (p+(l7 w)[i]):=pS.1 hf;have nq:path.take (i+1)=path.take i++[p+(l7 w)[i]]:=by
  rw[xbp,show path[i]? =some (p+(l7 w)[i])from e1];rfl
 refine aa.fq (XE h2 zO (by rw[xaf,xbD];omega) QV) ?_;rintro v C3 ⟨rfl,h3⟩;rw[<-gA,xai,<-nq]at h3;apply Ext.two;intro b46 _;refine St.q ?_;refine ae.cG (Br.F (ae.inc (Ld.f ?_)));rw[<-gA,<-nq];refine ae.fi (Br.dec (λtM=>?_) (λtM=>?_))
 ·have hk:m.keep ord path (i+1)=i+1:=by rw[Rm.keep];exact xae tM
  refine ai.mk (Ld.mk (v:=iv ((cI K S (az ord (path.take (i+1))):Nat):Int)) (by exact .head _) rfl ?_);refine JE.mk (RU _ _ _ _ λgs=>?_);refine ae.inc (aC.of .tail ⟨i+1,C3,Ri,by rw[hk],rfl,h3⟩ ?_);show(l7 w).length-(((i+1:Nat):Int).toNat)<(l7 w).length-(((i:Nat):Int).toNat);omega
 have hk:m.keep ord path (i+1)=m.keep ord path i:=by rw[Rm.keep];exact xab tM
 refine JE.mk (RU _ _ _ _ λgs=>?_);refine ae.inc (aC.of .tail ⟨i+1,C3,Ri,by rw[hk],rfl,h3⟩ ?_);show(l7 w).length-(((i+1:Nat):Int).toNat)<(l7 w).length-(((i:Nat):Int).toNat);omega
end
end
section
open aA
def rep(b a s:Nat):zV:=.agg #[iv (b:Int),iv (a:Int),iv (s:Int),.bool false]
def mF(b1 l8 b a s:Nat):Array zV:=#[.func (.func 270) #[] #[ptr b1,ptr l8],iv (b:Int),iv (a:Int),iv (s:Int),.bool false]
def Pass(pp kp w b a s:Nat)(B:Hp):Prop:=∃b1 l8 B',B=(pp,.cells (mF b1 l8 b a s) 252 (0,0))::B'/\Box kp b1 l8 (l7 w) B'
section
variable {pp kp w p bf af sw:Nat} {K:Kd} {S:Nat->aA.Fn} {ord tr:zL} {B C:Hp}
theorem LK(kp:Nat)(w:Int)(C:Hp):Rd zQ 189 #[ptr kp,iv w] C (· =iv (if w<2\/4<w then 1 else 0)):=by
 refine aF λg=>I4 ?_;refine ae.aD (Br.no (ae.lss (cf.or (decide (4<w)) (λ_=>ae.gtr ⟨rfl,rfl⟩) zI λgs=>?_)));rw[<-xa7];exact Br.dec (λh=>bc.mk (.refl _) (by rw[xae h])) (λh=>bc.mk (.refl _) (by rw[xab h]))
theorem SG(h:At kp K S ord tr C)(hw:2<=w/\w<=4):Fc zQ 190 #[ptr kp,iv (w:Int)] C (λv H=>∃pp B,v=ptr pp/\H=B++C/\Pass pp kp w (cI K S ord) (cI K S ord) 0 B):=by
 refine aF λg=>I3 ?_;intro b1 _;refine DR.self (Ld.q ?_);refine Ld.q ?_;refine aa.eq (cH h) (⟨.refl _,?_⟩);refine aa.eq (cH h) (⟨.refl _,?_⟩);refine Build.mk (cs:=[iv ((cI K S ord:Nat):Int),iv ((cI K S ord:Nat):Int),iv 0,.bool false]) zK ?_;refine Build.mk (cs:=[.nilFunc,iv ((cI K S ord:Nat):Int),iv ((cI K S ord:Nat):Int),iv 0,.bool false]) zK ?_;intro Tw _;refine⟨.tail,?_⟩;refine aa.fn hnew (FZ hw) ?_;rintro v Cc ⟨s,rfl,hc⟩;obtain⟨sa,sl,sc,rfl⟩:∃a l c,s=Value.slice a l c:=by obtain⟨a,c,h⟩:=aV.len hc;exact⟨a,_,c,h⟩
 apply Ext.two;intro l8 _;refine St.one (c':=#[.slice sa sl sc]) (by exact .head _) rfl zI rfl ?_;refine Nil.ptr (ai.mk (St.one (c':=mF b1 l8 (cI K S ord) (cI K S ord) 0) (by repeat (first|exact c6.head _|apply c6.tail|apply c6.ca)) rfl (by simp[Value.cells]) rfl ?_));refine aN.mk (nv:=((Tw,.cells (mF b1 l8 (cI K S ord) (cI K S ord) 0) 252 (0,0))::(b1,.cells #[ptr kp] 85 (0,0))::(l8,.cells #[.slice sa sl sc] 43 (0,0))::Cc)++C) (.perm ?_) ⟨Tw,_,rfl,rfl,b1,l8,_,rfl,_,Cc,rfl,hc⟩;refine(List.Perm.cons _ (xaT.trans (List.Perm.cons _ xaT))).trans ?_;refine(List.Perm.swap _ _ _).trans (List.Perm.cons _ (List.Perm.swap _ _ _))
theorem acK(hB:Pass pp kp w bf af sw B)(h:At kp K S ord tr C)(hp:p+w<=K.n)(eM:tr.length<17454747090944)(hs:sw<4611686018427387904):
  Fc zQ 274 #[ptr pp,ptr kp,iv (p:Int)] (B++C) (λv H=>v=.tuple #[]/\∃B' C',H=B'++C'/\Pass pp kp w bf (cI K S (az ord ((rm K S).visit w p ord).1)) (sw+((rm K S).visit w p ord).2) B'/\At kp K S (az ord ((rm K S).visit w p ord).1) (tr++((rm K S).visit w p ord).1) C'):=by
 obtain⟨b1,l8,B',rfl,hb⟩:=hB;have hv:=((rm K S).rL w p ord).2;refine aF λg=>Ia ?_;refine DR.of (R:=[(pp,.cells (mF b1 l8 bf af sw) 252 (0,0))]) (.cons .nil) (Nil.ptr (ai.mk (Ld.f ?_)));refine Ld.n ?_;refine aL.of rfl zK (aa.fq (args:=#[iv (p:Int),ptr b1,ptr l8]) (Pa hb h hp eM) ?_);rintro v H ⟨rfl,C',rfl,h'⟩;refine⟨.cons .nil,?_⟩;refine ae.fH (Nil.ptr (ai.mk (ai.mk (St.one (c':=mF b1 l8 bf af (sw+((rm K S).visit w p ord).2)) (by exact .head _) rfl (by simp[mF]) rfl ?_))));refine aa.eq (cH h') (Nil.ptr (ai.mk (ai.mk (St.one (c':=mF b1 l8 bf (cI K S (az ord ((rm K S).visit w p ord).1)) (sw+((rm K S).visit w p ord).2)) (by exact .head _) rfl (by simp[mF]) rfl ?_))));exact aN.here ⟨rfl,_::B',C',rfl,⟨b1,l8,B',rfl,hb⟩,h'⟩
theorem TD(hB:Pass pp kp w bf (cI K S ord) sw B)(h:At kp K S ord tr C)(hw:2<=w/\w<=4)(eM:tr.length<17317308137472)(hs:sw<2305843009213693952):
  Fc zQ 191 #[ptr pp,ptr kp,iv (w:Int)] (B++C) (λv H=>v=.tuple #[]/\∃B' C',H=B'++C'/\Pass pp kp w bf (cI K S (az ord ((rm K S).pass w ord).1)) (sw+((rm K S).pass w ord).2) B'/\At kp K S (az ord ((rm K S).pass w ord).1) (tr++((rm K S).pass w ord).1) C'):=by
 have hn:=h.lq;refine aF λg=>I2 ?_;refine⟨λvs H=>∃i B' C',i<=K.n+1-w/\vs=[iv ((i:Nat):Int)]/\H=B'++C'/\Pass pp kp w bf (cI K S (az ord ((rm K S).all w ord i).1)) (sw+((rm K S).all w ord i).2) B'/\At kp K S (az ord ((rm K S).all w ord i).1) (tr++((rm K S).all w ord i).1) C',
  λvs _=>K.n+1-bL vs 0,JE.mk ⟨0,B,C,xaO _,rfl,rfl,by simpa[Rm.all,az]using hB,by simpa[Rm.all,az]using h⟩,?_⟩
 rintro w5 H ⟨i,B',C',hi,⟨⟩,rfl,hp,ha⟩ gs;have Vw:=(rm K S).Lr w ord i;refine ae.fH (aa.eq (mW ha) (ae.xE (Br.dec (λhle=>?_) (λhle=>?_))))
 ·refine aa.fq (acK hp ha zO (by rw[xaf];omega) zO) ?_;rintro v H ⟨rfl,B2,C2,rfl,lP,p8⟩;rw[<-cr,xai,xcU]at*;refine ae.inc (aC.of (.refl _) ⟨i+1,B2,C2,by omega,rfl,rfl,by rw[Rm.all_succ];exact lP,by rw[Rm.all_succ];exact p8⟩ ?_);show K.n+1-(((i+1:Nat):Int).toNat)<K.n+1-(((i:Nat):Int).toNat);omega
 obtain rfl:i=K.n+1-w:=by omega
 exact aN.here ⟨rfl,B',C',rfl,hp,ha⟩
end
section
variable {pp kp w p bf af sw:Nat} {K:Kd} {S:Nat->aA.Fn} {ord tr:zL} {B C:Hp}
theorem Wg(h:At kp K S ord tr C)(hw:2<=w/\w<=4)(eM:tr.length<17317308137472):
  Fc zQ 137 #[ptr kp,iv (w:Int)] C (λv H=>v=.tuple #[rep (cI K S ord) (cI K S (az ord ((rm K S).pass w ord).1)) ((rm K S).pass w ord).2,iv 0]/\At kp K S (az ord ((rm K S).pass w ord).1) (tr++((rm K S).pass w ord).1) H):=by
 have hn:=h.lq;refine aF λg=>Js ?_;intro b1 _;refine aa.eq (LK kp w C) ?_;rw[xab zO];refine ae.cG (Br.F (aa.fq (SG h hw) ?_));rintro v H ⟨pp,B,rfl,rfl,hB⟩;refine aa.fq (TD hB h hw eM zO) ?_;rintro v H ⟨rfl,B',C',rfl,hB',h'⟩;rw[xa3]at hB';obtain⟨x1,x18,B2,rfl,hb⟩:=hB';refine Nil.ptr (ai.mk (ay.mk (vs:=#[iv ((cI K S ord:Nat):Int),iv ((cI K S (az ord ((rm K S).pass w ord).1):Nat):Int),iv ((((rm K S).pass w ord).2:Nat):Int),.bool false]) (by exact .tail _ (.head _)) (by simp[mF]) rfl ?_));refine St.q ?_;refine ay.q ?_;exact aN.mk (.skip .right) ⟨rfl,h'⟩
end
theorem bH{ws:zL}{i:Nat}(h:i<ws.length):(iw ws)[i]? =some ((ws.getD i 0:Nat):Int):=by
 rw[dg (w:=ws.getD i 0)];rw[xar,xaa h];rfl
def aaV(n:Nat)(p:List Int):Prop:=p.length=n/\∀v:Nat,v<n->p.count (v:Int)=1
instance (n:Nat)(p:List Int):Decidable (aaV n p):=by unfold aaV;infer_instance
theorem CD{p:List Int}{x:Int}{i:Nat}(h:x∉p.take i)(hi:i<p.length)(he:p[i]=x):p.idxOf x=i:=by
 have e:p=p.take i++p[i]::p.drop (i+1):=by
  conv=>lhs;rw[<-xbr i p]
  rw[xbs hi]
 conv=>lhs;rw[e]
 rw[List.idxOf_append,xab h,he,List.idxOf_cons_self,xbD];omega
theorem Qc{B:Hp}{v:zV}{p:List Int}{x:Int}(h:dA .i64 B v p)(cA:p.length<4611686018427387904):Rd zQ 67 #[v,iv x] B (· =iv (if x∈p then((p.idxOf x:Nat):Int)else-1)):=by
 refine aF λg=>Oo ?_;refine h.bP ?_;refine⟨λvs H=>∃i:Nat,vs=[iv (i:Int)]/\H=B/\i<=p.length/\x∉p.take i,λvs _=>p.length-bL vs 0,JE.mk ⟨0,rfl,rfl,xaO _,by simp⟩,?_⟩;rintro w H ⟨i,⟨⟩,rfl,hi,hq⟩ gs;refine ae.fi (Br.dec (λhlt=>?_) (λhlt=>?_))
 ·refine h.ld (xaa hlt) (λ_ h=>h) ?_;refine ae.gU (Br.dec (λhe=>bc.mk (.refl _) ?_) (λhe=>?_))
  ·rw[xae (by rw[<-he];exact xaG hlt),CD hq hlt he]
  refine ae.inc (aC.of (.refl _) ⟨i+1,rfl,rfl,hlt,?_⟩ (by show p.length-(((i+1:Nat):Int).toNat)<p.length-(((i:Nat):Int).toNat);omega));rw[xa2 hlt,xan,xaE];rintro(h|h)
  ·exact hq h
  exact he h.symm
 refine bc.mk (.refl _) ?_;rw[xca zO]at hq;rw[xab hq]
def kK(p:List Int):Prop:=∀v:Nat,v<p.length->(v:Int)∈p
theorem Ds{B:Hp}{v:zV}{p:List Int}(h:dA .i64 B v p)(cA:p.length<4611686018427387904):Rd zQ 30 #[v] B (λr=>(r=iv 0/\kK p/\p.length<=64)\/(r=iv 13/\kK p/\64<p.length)\/(r=iv 4/\¬kK p)):=by
 refine aF λg=>Oy ?_;refine⟨λvs H=>∃i:Nat,vs=[iv (i:Int)]/\H=B/\i<=p.length/\∀v:Nat,v<i->(v:Int)∈p,λvs _=>p.length-bL vs 0,JE.mk ⟨0,rfl,rfl,xaO _,λj hj=>absurd hj (xcC _)⟩,?_⟩;rintro w H ⟨i,⟨⟩,rfl,hi,hq⟩ gs;refine h.bP (ae.fi (Br.dec (λhlt=>?_) (λhlt=>?_)))
 ·refine aa.eq (Qc h cA) ?_;by_cases hm:(i:Int)∈p
  ·rw[xae hm];refine ae.lss (Br.F (ae.inc (aC.of (.refl _) ⟨i+1,rfl,rfl,hlt,λv hv=>?_⟩ (by show p.length-(((i+1:Nat):Int).toNat)<p.length-(((i:Nat):Int).toNat);omega))));by_cases e:v=i
   ·subst e;exact hm
   exact hq v zO
  rw[xab hm];exact ae.lss (Br.T (bc.mk (.refl _) (.inr (.inr ⟨rfl,λha=>hm (ha i hlt)⟩))))
 obtain rfl:i=p.length:=by omega
 refine h.bP (ae.m9 (b:=64) (Br.dec (λhg=>bc.mk (.refl _) (.inr (.inl ⟨rfl,hq,hg⟩))) (λhg=>bc.mk (.refl _) (.inl ⟨rfl,hq,by omega⟩))))
theorem wC{p:zL}{n:Nat}(hp:p.Perm (List.range n)):kK (iw p):=λv hv=>by
 rw[ak,hp.length_eq,xaI]at hv;exact xao.2 ⟨v,hp.mem_iff.2 (xaM.2 hv),rfl⟩
theorem Qs{q:zL}{x:Nat}:(x:Int)∈iw q↔x∈q:=by
 unfold iw;rw[xao];exact⟨λ⟨y,hy,e⟩=>by rw[<-Int.ofNat.inj e];exact hy,λh=>⟨x,h,rfl⟩⟩
theorem Yg(q:zL)(x:Nat):(iw q).idxOf (x:Int)=q.idxOf x:=by
 induction q with
 |nil=>rfl
 |cons y q ih=>
  show(((y:Nat):Int)::iw q).idxOf (x:Int)=_;rw[List.idxOf_cons,List.idxOf_cons,ih];have:(((y:Nat):Int)==(x:Int))=(y==x):=by
   rw[xbR];simp[xex]
  rw[this]
theorem AK(a k:Nat):decide ((a>>>k)%2=1)=a.testBit k:=by
 cases hb:a.testBit k
 ·rw[xal];rw[an.Lk,hb];simp
 rw[xam];rw[an.Lk,hb]
theorem R2{ord:zL}{F G:aA.Fn->Prop}(h:∀g,F g->G g):∀l g,fs ord F l g->fs ord G l g
 |0,g,hg=>h g hg
 |l+1,g,⟨f,hf,b,e⟩=>⟨f,R2 h l f hf,b,e⟩
theorem cK{n:Nat}{ord:zL}{F G:aA.Fn->Prop}(h:∀g,F g->G g){g:aA.Fn}(hg:aG n ord F g):aG n ord G g:=let ⟨l,a,b,c⟩:=hg;⟨l,a,R2 h l g b,c⟩
structure kO(K:Kd)(S:Nat->aA.Fn)(K':Kd)(S':Nat->aA.Fn)(f:aA.Fn)(r:Nat):Prop where
 n:K'.n=K.n
 cap:K'.cap=K.cap
 N:∀s d,K.N s=some d->K'.N s=some d
 fn:∀s,live K.N s->S' s=S s
 live:live K'.N r
 is:S' r=f
 hold:∀s,K'.hold s=K.hold s+if s=r/\2<=r then 1 else 0
theorem cu{N N':eB}(h:∀s d,N s=some d->N' s=some d){s:Nat}(hs:live N s):live N' s:=by
 rcases hs with hs|⟨d,hd⟩
 ·exact .inl hs
 exact .inr ⟨d,h s d hd⟩
theorem jT{K K5:Kd}{S S5:Nat->aA.Fn}{ah:Nat->Nat}(hK:Ok K S ah)(KU:Ok K5 S5 ah)(hold:∀s,K.hold s≠0->K5.hold s≠0)(h3:∀s d d',K.N s=some d->K5.N s=some d'->d'=d):
  ∀(k s:Nat) (d:Nd),K.N s=some d->ah d.v<=k->K5.N s=some d:=by
 intro k;induction k with
 |zero=>
  intro s d hd hl;have fin:live K5.N s->K5.N s=some d:=λhs=>by
   rcases hs with hs|⟨d',dP⟩
   ·have:=(hK.mid.two hd).1;omega
   rw[dP,h3 s d d' hd dP]
  rcases hK.reach s d hd with h|⟨p,e,hp,he⟩
  ·exact fin (.inr (KU.mid.held s (hold s h)))
  have h1:=hK.wf.lo hp;have h2:=hK.wf.hi hp;rcases he with rfl|rfl
  ·have:=h1.2;rw[aq hd]at this;omega
  have:=h2.2;rw[aq hd]at this;omega
 |succ k ih=>
  intro s d hd hl;have fin:live K5.N s->K5.N s=some d:=λhs=>by
   rcases hs with hs|⟨d',dP⟩
   ·have:=(hK.mid.two hd).1;omega
   rw[dP,h3 s d d' hd dP]
  rcases hK.reach s d hd with h|⟨p,e,hp,he⟩
  ·exact fin (.inr (KU.mid.held s (hold s h)))
  have h1:=hK.wf.lo hp;have h2:=hK.wf.hi hp;rcases he with rfl|rfl
  ·have:=h1.2;rw[aq hd]at this;exact fin (KU.mid.lo (ih p e hp zO))
  have:=h2.2;rw[aq hd]at this;exact fin (KU.mid.hi (ih p e hp zO))
theorem kO.held{K K':Kd}{S S':Nat->aA.Fn}{f:aA.Fn}{r:Nat}(h:kO K S K' S' f r)(hm:∀s,K.hold s≠0->aA.live K.N s)(g:aA.Fn)(hg:K'.held S' g):K.held S g\/g=f:=by
 obtain⟨s,hs,rfl⟩:=hg;by_cases h0:K.hold s=0
 ·right;have:=h.hold s;have hs':K'.hold s≠0:=hs;rw[h0]at this;by_cases e:s=r/\2<=r
  ·rw[e.1];exact h.is
  rw[xab e]at this;omega
 exact .inl ⟨s,h0,h.fn s (hm s h0)⟩
end
end Go.Proofs
namespace aA
open an
section
variable {K:Kd} {S:Nat->Fn} {ah:Nat->Nat}
theorem Ok.Uz(h:Ok K S ah){d e:Nd}{r:Nat}
 (hlo:live K.N d.lo)(hhi:live K.N d.hi)(hne:d.lo≠d.hi)(hv:d.v<K.n)(hlt:ah d.v<dep K.n ah K.N d.lo/\ah d.v<dep K.n ah K.N d.hi)(hr:K.N r=some e)(Q1:S r=ite S d):e=d:=by
 have QW:e.v=d.v:=by
  have e1:=h.lv.lt e.v (h.mid.var hr);have e2:=h.lv.lt d.v hv;rcases xcJ (ah e.v) (ah d.v)with hh|hh|hh
  ·exfalso;obtain⟨z,hz⟩:=gm h.wf h.lv h.mid.int hr;rw[Q1]at hz;apply hz;unfold ite;have i1:=h.wf.bN h.lv h.mid.int hlo (h.mid.var hr) zO;have i2:=h.wf.bN h.lv h.mid.int hhi (h.mid.var hr) zO;have Fz:d.v≠e.v:=λpo=>by rw[po]at hh;omega
   simp only[aj,xab Fz,i1,i2]
  ·exact h.lv.inj _ _ (h.mid.var hr) hv hh
  exfalso;have hx:=h.wf.bN h.lv h.mid.int (r:=r) (.inr ⟨e,hr⟩) hv (by rw[aq hr];exact hh);apply hne;refine h.wf.same h.lv h.mid.int hlo hhi λx=>?_;have i1:=h.wf.bN h.lv h.mid.int hlo hv hlt.1;have i2:=h.wf.bN h.lv h.mid.int hhi hv hlt.2;have q1:=hx x false;have q2:=hx x true;rw[Q1]at q1 q2;have q3:=q1.trans q2.symm;unfold ite at q3;simp only[aj,xa6,i1,i2,xaN,xa1]at q3;exact q3
 have kG:∀(b:Bool) x,S (if b then e.hi else e.lo) x=S (if b then d.hi else d.lo) x:=λb x=>by
  rw[<-h.wf.child h.lv h.mid.int hr x b,Q1,QW];have i1:=h.wf.bN h.lv h.mid.int hlo hv hlt.1;have i2:=h.wf.bN h.lv h.mid.int hhi hv hlt.2;unfold ite;rw[aj,xae rfl,i1,i2];cases b<;>rfl
 have e1:e.lo=d.lo:=h.wf.same h.lv h.mid.int (h.mid.lo hr) hlo λx=>kG false x;have e2:e.hi=d.hi:=h.wf.same h.lv h.mid.int (h.mid.hi hr) hhi λx=>kG true x;have hed:∀a b:Nd,a.v=b.v->a.lo=b.lo->a.hi=b.hi->a=b:=λa b h1 h2 h3=>by
  cases a;cases b;cases h1;cases h2;cases h3;rfl
 exact hed e d QW e1 e2
end
end aA
set_option maxRecDepth 100000
namespace Go.Proofs
open Go Go.Sx
open aA
def gy(bw kp:Nat)(vl vm:zV):Nat×Obj:=(bw,.cells #[ptr kp,vl,vm] 305 (0,0))
abbrev Q3:=Nat×Nat×Nat
def l3(q:Q3):zL:=[q.1,q.2.1,q.2.2]
def kq(q:Q3):zV:=.agg (ax .u32 (iw (l3 q)))
theorem U1{a b:zL}(h:iw a=iw b):a=b:=by
 induction a generalizing b with
 |nil=>cases b with
  |nil=>rfl
  |cons y b=>simp[iw]at h
 |cons x a ih=>cases b with
  |nil=>simp[iw]at h
  |cons y b=>
   simp only[iw,xaB,xau]at h;rw[Int.ofNat.inj h.1,ih h.2]
theorem X9{a b:Q3}(h:l3 a=l3 b):a=b:=by
 obtain⟨a1,a2,a3⟩:=a;obtain⟨b1,b2,b3⟩:=b;simp[l3]at h;rw[h.1,h.2.1,h.2.2]
theorem vz(a b:Q3):A1 zQ 236 (kq a) (kq b) (decide (a=b)):=by
 have:=A1.array (P:=zQ) (t:=236) (e:=110) (q:=.u32) (n:=3) zK zK zK (iw (l3 a)) (iw (l3 b)) rfl rfl;have e:decide (iw (l3 a)=iw (l3 b))=decide (a=b):=xcp.2 ⟨λh=>X9 (U1 h),λh=>by rw[h]⟩;rw[e]at this;exact this
theorem p6(a:Q3):mi zQ 236 (kq a):=mi.array (P:=zQ) (t:=236) (e:=110) (q:=.u32) (n:=3) zK zK zK _ rfl
theorem Am(a:Q3):Instr.sameBits 10000 (kq a) (kq a)=true:=kP 9998 λx hx=>.inl (by simp[ax]at hx;obtain⟨n,_,rfl⟩:=hx;exact⟨_,_,rfl⟩)
section
variable {kp bw:Nat} {vl vm:zV} {K:Kd} {S:Nat->aA.Fn} {ord ah tr:zL} {C:Hp}
theorem Ny{H:Hp}{r:List zV}{K:zV->Hp->Prop}(hl:r.length=3)(h:∀b,K (.slice (some ⟨b,0,none⟩) 1 1) ((b,.cells r.toArray 226 (0,0))::H)):av zQ 309 1 [(0,.agg r.toArray)] H K:=
 av.one (r:=r) (e:=226) (k:=3) (z:=.agg #[iv 0,.int .u32 0,.int .u32 0]) zK zK zK zD hl h
theorem y9{X Y:Hp}(h:cT kp K ord ah tr C)(q:Q3)(hq:∀r∈l3 q,r<4294967296):
  Fc zQ 253 #[ptr bw,kq q] (gy bw kp vl vm::(X++(Y++C))) (λv H=>∃CN,H=CN++(gy bw kp vl vm::(X++(Y++C)))/\aV 226 3 v ((l3 q).map (got K.N)) CN):=by
 have hlen:(l3 q).length=3:=rfl;refine aF λg=>Iw ?_;intro b1 _;refine ay.q ?_;refine⟨λvs H=>∃(i:Nat) (u:zV) (CN:Hp),vs=[u,iv (i:Int)]/\i<=3/\H=CN++((b1,.cells (ax .u32 (iw (l3 q))) 236 (0,0))::(gy bw kp vl vm::(X++(Y++C))))/\aV 226 3 u (((l3 q).take i).map (got K.N)) CN,λvs _=>3-bL vs 1,
  JE.mk ⟨0,_,[],rfl,by omega,rfl,aV.nil _ _⟩,?_⟩
 rintro w8 w9 H ⟨i,u,CN,⟨⟩,hi,rfl,hN⟩ gs;refine ae.fi (b:=3) (Br.dec (λhlt=>?_) (λhlt=>?_))
 ·have iB:i<(l3 q).length:=hlt;obtain⟨r,hr⟩:∃r,(l3 q)[i]? =some r:=⟨_,xaa iB⟩;have Yq:=hq r (xaw hr);refine jG.acT (t:=236) (e:=110) (q:=.u32) (x:=.tmp 10) (i:=.tmp 11) (l:=iw (l3 q)) (z:=(r:Int)) (kd:=.i64) (n:=3) (j:=i) zK rfl rfl zK zK zK hlt (dg hr) ?_;refine Ld.n ?_;refine aa.eq (args:=#[ptr kp,u32 r]) (iS h Yq) (Ext.two ?_);intro Bl _;refine St.whole (r:=got K.N r) (by exact .head _) rfl (aR _ _).1 (aR _ _).2 ?_;refine ay.whole (r:=got K.N r) (by exact .head _) (aR _ _).1 ?_;refine Ny (aR _ _).1 λbx=>?_;refine hN.rB (r:=got K.N r) (.cons (.cons .left)) (by exact .head _) (aR _ _).1 (aR _ _).2 ⟨[iv 0,.int .u32 0,.int .u32 0],rfl,rfl⟩ zP zP λv' C' ho=>?_;refine ae.inc (aC.of (.skip .tail) ⟨i+1,v',C',rfl,by omega,rfl,?_⟩ (by simp only[bL];omega));rw[xbp,hr,xaJ];exact ho
 obtain rfl:i=3:=by omega
 rw[xca (by rw[hlen];exact xaj _)]at hN;exact aN.mk (.cW .tail _) ⟨CN,rfl,hN⟩
theorem Ln{n:Nat}{rG:Nat->Nat}{N:eB}{B:Hp}{vn:zV}{lvl:zL}(hw:gy bw kp vl vm∈B)(hl:dA .i64 B vl (iw lvl))(nw:lvl.length=n)(hlv:∀v,v<n->lvl.getD v 0=rG v)(q:Q3)(hn:Sl 3 B vn ((l3 q).map (got N)))
 (h:WF n rG N)(hL:jY n rG)(hq:∀r∈l3 q,live N r)(si:n<=64):
  Rd zQ 254 #[ptr bw,vn] B (λr=>((∀s∈l3 q,N s=none)/\r=iv (-1))\/∃v,tU n rG N (l3 q) v/\r=iv (v:Int)):=by
 have hlen:(l3 q).length=3:=rfl;refine aF λg=>Iv ?_;refine hn.bP ?_;rw[xax,hlen];refine⟨λvs H=>∃(i:Nat) (w:Int),vs=[iv w,iv (i:Int)]/\i<=3/\H=B/\(((∀s∈(l3 q).take i,N s=none)/\w= -1)\/∃v:Nat,tU n rG N ((l3 q).take i) v/\w=(v:Int)),λvs _=>3-bL vs 1,
  JE.mk ⟨0, -1,rfl,by omega,rfl,.inl ⟨by simp,rfl⟩⟩,?_⟩
 rintro w6 w7 H ⟨i,w,⟨⟩,hi,rfl,hw6⟩ gs;refine ae.fi (b:=3) (Br.dec (λhlt=>?_) (λhlt=>?_))
 ·intro J hJ;have iB:i<(l3 q).length:=hlt;obtain⟨r,hr⟩:∃r,(l3 q)[i]? =some r:=⟨_,xaa iB⟩;have nq:(l3 q).take (i+1)=(l3 q).take i++[r]:=by rw[xbp,hr];rfl
  have fin:∀(w':Int) (Z:Hp),((∀s∈(l3 q).take (i+1),N s=none)/\w'= -1)\/(∃v:Nat,tU n rG N ((l3 q).take (i+1)) v/\w'=(v:Int))->J [iv w'] (Z++H):=λw' Z h'=>hJ _ _ λgs=>by
   exact ae.inc (aC.of .right ⟨i+1,w',rfl,by omega,rfl,h'⟩ (by simp only[bL];omega))
  have hrow:((l3 q).map (got N))[i]? =some (got N r):=by rw[xat,hr];rfl
  refine au.sl hn hrow λp hp=>?_;refine ay.at hp (aR _ _).1 zD (λ_ h=>h) ?_;intro rJ _;refine St.whole (r:=got N r) (by exact .head _) rfl (aR _ _).1 (aR _ _).2 ?_;have hlr:=hq r (xaw hr);cases hN:N r with
  |none=>
   have p7:r<2:=by rcases hlr with h2|⟨d,hd⟩;exact h2;rw[hN]at hd;cases hd
   have eg:got N r=[iv (-1),u32 r,u32 r]:=fG p7;rw[eg];refine Ld.f ?_;refine ae.geq (cf.mk false (λh=>by simp at h) (λ_=>rfl) λgs=>Br.no ?_);refine JE.mk (fin w [_] ?_);rcases hw6 with⟨h1,h2⟩|⟨v,h1,h2⟩
   ·refine .inl ⟨λs hs=>?_,h2⟩;rw[nq,xan,xaE]at hs;rcases hs with hs|rfl
    ·exact h1 s hs
    exact hN
   refine .inr ⟨v,⟨h1.lt,?_,λs hs=>?_⟩,h2⟩
   ·obtain⟨s,hs,x⟩:=h1.ex;exact⟨s,by rw[nq];exact xad _ hs,x⟩
   rw[nq,xan,xaE]at hs;rcases hs with hs|rfl
   ·exact h1.le s hs
   rw[aU hN];exact xb7 (hL.lt v h1.lt)
  |some d=>
   have h2:=h.two hN;have kX:=h.var hN;have eg:got N r=bu d:=dX hN h2;rw[eg];refine Ld.f ?_;refine ae.geq ?_;rw[xam zO];have Bz:(∀s∈(l3 q).take i,rG d.v<=dep n rG N s)->∃v:Nat,tU n rG N ((l3 q).take (i+1)) v/\(d.v:Int)=(v:Int):=λhle=>by
    refine⟨d.v,⟨kX,⟨r,by rw[nq];simp,d,hN,rfl⟩,λs hs=>?_⟩,rfl⟩;rw[nq,xan,xaE]at hs;rcases hs with hs|rfl
    ·exact hle s hs
    rw[aq hN];exact xaj _
   rcases hw6 with⟨h1,rfl⟩|⟨v,h1,rfl⟩
   ·refine cf.and true (λ_=>?_) rfl λgs=>Br.yes ?_
    ·exact ae.lss (cf.mk true (λh=>by simp at h) (λ_=>rfl) λgs=>⟨rfl,rfl⟩)
    refine Ld.f ?_;refine JE.mk (fin (d.v:Int) [_] (.inr (Bz λs hs=>?_)));rw[aU (h1 s hs)];exact xb7 (hL.lt _ kX)
   have g1:(iw lvl)[d.v]? =some ((rG d.v:Nat):Int):=by rw[<-hlv d.v kX];exact bH zO
   have g2:(iw lvl)[v]? =some ((rG v:Nat):Int):=by rw[<-hlv v h1.lt];exact bH (by have:=h1.lt;omega)
   refine cf.and (decide (rG d.v<rG v)) (λ_=>?_) rfl λgs=>?_
   ·refine ae.lss ?_;rw[xal zO];refine cf.or (decide (rG d.v<rG v)) (λ_=>?_) rfl λgs=>⟨rfl,by simp⟩;refine Ld.v (.tail _ hw) ?_;refine Ld.f ?_;refine hl.ld g1 (λ_ h=>.tail _ h) ?_;refine Ld.v (.tail _ hw) ?_;refine hl.ld g2 (λ_ h=>.tail _ h) ?_;exact ae.fi ⟨rfl,rfl⟩
   rw[xcq];refine Br.dec (λtM=>?_) (λtM=>?_)
   ·refine Ld.f ?_;refine JE.mk (fin (d.v:Int) [_] (.inr (Bz λs hs=>?_)));have:=h1.le s hs;omega
   refine JE.mk (fin (v:Int) [_] (.inr ⟨v,⟨h1.lt,?_,λs hs=>?_⟩,rfl⟩))
   ·obtain⟨s,hs,x⟩:=h1.ex;exact⟨s,by rw[nq];exact xad _ hs,x⟩
   rw[nq,xan,xaE]at hs;rcases hs with hs|rfl
   ·exact h1.le s hs
   rw[aq hN];omega
 obtain rfl:i=3:=by omega
 rw[xca (by rw[hlen];exact xaj _)]at hw6;refine bc.mk (.refl _) ?_;rcases hw6 with⟨h1,rfl⟩|⟨v,h1,rfl⟩
 ·exact .inl ⟨h1,rfl⟩
 exact .inr ⟨v,h1,rfl⟩
theorem MP(h:cc kp K S ord ah tr C){v lo hi:Nat}(hv:v<K.n)(hlo:live K.N lo)(hhi:live K.N hi)(hlt:lv ah v<dep K.n (lv ah) K.N lo/\lv ah v<dep K.n (lv ah) K.N hi):
  Rd zQ 323 #[ptr kp,iv (v:Int),u32 lo,u32 hi] C (· =if lo=hi then .tuple #[u32 lo,.bool true]else .tuple #[u32 ((K.T ⟨v,lo,hi⟩).getD 0),.bool (K.T ⟨v,lo,hi⟩).isSome]):=by
 have ae9:=h.bK hlo;have afj:=h.bK hhi;have CV:=bX.2 hlo;have qo:=bX.2 hhi;have hfe:pB K ah (v:Int) lo hi=0:=by
  unfold pB;rw[xab zO,xab (by rw[CV,qo];simp),xab];rintro⟨hne,hmin⟩;simp only[xbe,lv]at hmin hlt;omega
 refine aF λg=>Hv ?_;intro J hJ;refine ae.aD (Split.go rfl (aa.eq (K7 h.rep (v:Int) zO zO (λr d hd=>⟨h.ok.mid.var hd,(h.ok.mid.two hd).1⟩)) ?_));rw[hfe];refine ae.cG (aI.mk (JE.mk (hJ _ _ λgs=>?_)));rw[xal zI];refine Br.no (aa.rq (Kh h.rep (lo:=lo) (hi:=hi) hv) ?_);rintro w hw;subst hw;by_cases he:lo=hi
 ·rw[xae he];exact Ext.mk rfl (Ext.mk rfl (bc.mk (.refl _) rfl))
 rw[xab he];exact Ext.mk rfl (Ext.mk rfl (bc.mk (.refl _) rfl))
theorem vB(h:cc kp K S ord ah tr C){v lo hi r:Nat}(hv:v<K.n)(hlo:live K.N lo)(hhi:live K.N hi)(hlt:lv ah v<dep K.n (lv ah) K.N lo/\lv ah v<dep K.n (lv ah) K.N hi)(hr:live K.N r)(h2:2<=r)(hS:S r=ite S ⟨v,lo,hi⟩):
  Rd zQ 323 #[ptr kp,iv (v:Int),u32 lo,u32 hi] C (· =.tuple #[u32 r,.bool true]):=by
 refine(MP h hv hlo hhi hlt).mono ?_;rintro w H ⟨e,rfl⟩;refine⟨e,?_⟩;by_cases he:lo=hi
 ·subst he;rw[xae rfl,h.ok.wf.same h.ok.lv h.ok.mid.int hr hlo λx=>by rw[hS];unfold aA.ite;split<;>rfl]
 rw[xab he];obtain⟨d,hd⟩:∃d,K.N r=some d:=by
  rcases hr with h3|h3
  ·omega
  exact h3
 have hdd:d=⟨v,lo,hi⟩:=h.ok.Uz (d:=⟨v,lo,hi⟩) hlo hhi he hv hlt hd hS;subst hdd;rw[(h.ok.mid.j5 _ r).2 ⟨hd,λe=>e⟩];rfl
theorem Gk(r v:Nat)(B:Hp):Rd zQ 255 #[ptr bw,iv (v:Int),u32 r,u32 r] B (· =.tuple #[u32 r,iv 0]):=by
 refine aF λg=>wY ?_;exact ae.gU (Br.T (bc.mk (.refl _) rfl))
theorem SM{CM X:Hp}{made:zL}(h:cc kp K S ord ah tr C){v lo hi:Nat}(hv:v<K.n)(hlo:live K.N lo)(hhi:live K.N hi)(hne:lo≠hi)(hlt:lv ah v<dep K.n (lv ah) K.N lo/\lv ah v<dep K.n (lv ah) K.N hi)
 (hM:aQ 110 .u32 vm (iw made) CM)(hlen:made.length<=1099511627776):
  Fc zQ 255 #[ptr bw,iv (v:Int),u32 lo,u32 hi] (gy bw kp vl vm::(X++(CM++C))) (λw H=>
   (∃r K' S' C' XC ZM,w=.tuple #[u32 r,iv 0]/\H=gy bw kp vl XC::(X++(ZM++C'))/\cc kp K' S' ord ah [] C'/\pE K S K' S' (ite S ⟨v,lo,hi⟩) r/\aQ 110 .u32 XC (iw (made++[r])) ZM)\/
   (w=.tuple #[u32 0,iv 9]/\H=gy bw kp vl vm::(X++(CM++C))/\K.cap<=K.used/\K.T ⟨v,lo,hi⟩=none)\/
   (∃r,w=.tuple #[u32 r,iv 0]/\H=gy bw kp vl vm::(X++(CM++C))/\live K.N r/\2<=r/\K.hold r=65535/\S r=ite S ⟨v,lo,hi⟩)):=by
 refine aF λg=>wY ?_;refine ae.eO (Br.Sh hne (Ld.n ?_));refine aa.fq (Aj h hv hlo hhi (.inr hlt)) ?_;rintro w C' (⟨r,K',S',rfl,dh,mk⟩|⟨r,rfl,rfl,hlr,O1,hfull,FI⟩|⟨rfl,rfl,hcap,_,hT⟩)
 ·apply Ext.two;intro J hJ;refine ae.gU (Br.T (Ld.n ?_));refine av.int (e:=110) zK zK zK λbx=>?_;refine hM.rB (x:=(r:Int)) (.cons (.cons (.app .left))) (by exact .head _) (by rw[ak];omega) (by rw[ak];omega) λXC ZM Y9=>?_;have h1:=Y9.one;refine Nil.ptr (ai.mk (St.one (by exact .tail (.head _)) h1 zI rfl ?_));refine aN.mk .tail (.inl ⟨r,K',S',C',XC,ZM,rfl,rfl,dh,mk,?_⟩);rw[cj];exact Y9
 ·apply Ext.two;intro J hJ;refine ae.gU (Br.F (ae.gU (Br.T (Ld.n ?_))));exact aa.eq (vB h hv hlo hhi hlt hlr O1 FI) (Ext.mk rfl (Ext.mk rfl (Br.yes (aN.here (.inr (.inr ⟨r,rfl,rfl,hlr,O1,hfull,FI⟩))))))
 apply Ext.two;intro J hJ;exact ae.gU (Br.F (ae.gU (Br.F (JE.mk (hJ _ λgs=>aN.here (.inr (.inl ⟨rfl,rfl,hcap,hT⟩)))))))
end
end Go.Proofs
