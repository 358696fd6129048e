import Derived.Test.YtflhdclplgjbbaaGreatP2
import Derived.Sort.AssemblyPlain
import Derived.Test.YtflhdclplgjbbaaGreatP1
import Derived.Test.YtflhdclplgjbbaaGreatProg
import Derived.RangeFuncIn
import Derived.RangeFuncLeaves
import Derived.RangeFuncRecord
import Derived.RangeFuncSeq
set_option linter.unusedVariables false
set_option linter.unusedSimpArgs false
set_option linter.unusedSectionVars false
set_option maxRecDepth 100000
namespace Go.Proofs
open Go Go.Sx Tryz
section
open aq
abbrev lv(ah:zL):Nat->Nat:=λv=>ah.getD v 0
section
variable {kp:Nat} {K:Kd} {ord ah tr:zL} {C:Hp} {S:Nat->aq.Fn}
theorem rB(h:cQ kp K ord ah tr C)(v:Int):Rd zQ 133 #[ptr kp,iv v] C (· =.bool (decide (0<=v/\v<K.n))):=by
 obtain⟨b,rfl,hO⟩:=h;refine aF λg=>I3 (ae.geq (c6.and (decide (v<K.n)) (λ_=>?_) rfl λ_=>bg.mk (.refl _) (by rw[xd8])));refine Nil.ptr (Ld.f ?_);exact ae.lss ⟨rfl,rfl⟩
theorem yX(h:cQ kp K ord ah tr C){r:Nat}(hl:live K.N r)(hv:∀d,K.N r=some d->d.v<K.n)(h01:r<2->K.N r=none):Rd zQ 212 #[ptr kp,u32 r] C (· =iv ((dep K.n (lv ah) K.N r:Nat):Int)):=by
 have h0:=h;have hr:=h.lt hl;obtain⟨b,rfl,hO⟩:=h;refine aF λg=>HW (Nil.ptr (ai.mk (aa.eq (n5 h0 zO) ?_)));intro b5 _;refine St.whole (r:=got K.N r) (by exact .head _) rfl (aP _ _).1 (aP _ _).2 ?_;by_cases h2:r<2
 ·rw[fC h2,aS (h01 h2)];refine Ld.f ?_;refine ae.geq (Br.no' zD (Nil.ptr (Ld.f ?_)));exact bg.mk .tail rfl
 obtain⟨d,hd⟩:∃d,K.N r=some d:=by rcases hl with hl|hl;omega;exact hl
 rw[dU hd zO,an hd];have kB:=hv d hd;have hlen:=hO.ol.2;refine Ld.f ?_;refine ae.geq (Br.Ul zI (Nil.ptr (Ld.f ?_)));refine Ld.f ?_;exact hO.lv.ld (x:=((ah.getD d.v 0:Nat):Int)) (bH zO) (bG.sub (.cons (.cons (.app (.app (.app (.app (.app .left)))))))) (bg.mk .tail rfl)
def pR(K:Kd)(ah:zL)(v:Int)(lo hi:Nat):Int:=
 if¬(0<=v/\v<K.n)then 2 else if gA K.N lo=false\/gA K.N hi=false then 3 else if lo≠hi/\min (dep K.n (lv ah) K.N lo) (dep K.n (lv ah) K.N hi)<=ah.getD v.toNat 0 then 4 else 0
theorem KQ(h:cQ kp K ord ah tr C)(v:Int){lo hi:Nat}(hlo:lo<4294967296)(hhi:hi<4294967296)(hv:∀r d,K.N r=some d->d.v<K.n/\2<=r):
  Rd zQ 146 #[ptr kp,iv v,u32 lo,u32 hi] C (· =iv (pR K ah v lo hi)):=by
 have h0:=h;have h01:∀r,r<2->K.N r=none:=λr hr=>by
  cases e:K.N r with
  |none=>rfl
  |some d=>have:=(hv r d e).2;omega
 obtain⟨b,rfl,hO⟩:=h;refine aF λg=>I0 (aa.eq (rB h0 v) (Un.not ?_));by_cases MS:0<=v/\v<K.n;rotate_left
 ·rw[xal MS];exact Br.yes (bg.mk (.refl _) (by unfold pR;rw[xad MS]))
 rw[xam MS];apply Br.no;obtain⟨n,rfl⟩:∃n:Nat,v=n:=⟨v.toNat,by omega⟩;have hnv:n<K.n:=by omega
 intro J hJ;refine Nil.ptr (ai.mk (aa.eq (n6 h0 hlo) (Un.not ?_)));by_cases ni:gA K.N lo=true;rotate_left
 ·have acm:gA K.N lo=false:=by simpa using ni
  rw[acm];exact Split.Mv rfl (aL.mk (JE.mk (hJ _ _ λgs=>Br.yes (bg.mk (.refl _) (by unfold pR;rw[xac (by simpa using MS),xad (.inl acm)])))))
 rw[ni];refine Split.go rfl (Nil.ptr (ai.mk (aa.eq (n6 h0 hhi) (Un.not ?_))));by_cases hhl:gA K.N hi=true;rotate_left
 ·have acy:gA K.N hi=false:=by simpa using hhl
  rw[acy];exact aL.mk (JE.mk (hJ _ _ λgs=>Br.yes (bg.mk (.refl _) (by unfold pR;rw[xac (by simpa using MS),xad (.inr acy)]))))
 rw[hhl];refine aL.mk (JE.mk (hJ _ _ λgs=>Br.no ?_));intro J2 BJ;have hE:pR K ah n lo hi=if lo≠hi/\min (dep K.n (lv ah) K.N lo) (dep K.n (lv ah) K.N hi)<=ah.getD n 0 then 4 else 0:=by
  unfold pR;rw[xac (by simpa using MS),xac (by rw[ni,hhl];simp)];rfl
 refine DR.self (ae.CJ ?_);by_cases hne:lo≠hi;rotate_left
 ·rw[xal hne];exact Br.no (JE.mk (BJ _ _ λgs=>Br.no (bg.mk (.refl _) (by rw[hE,xac (λh=>hne h.1)]))))
 rw[xam hne];refine Br.yes (Nil.ptr (Ld.f ?_));have hlen:=hO.ol.2;refine hO.lv.ld (x:=((ah.getD n 0:Nat):Int)) (bH zO) (bG.sub (.cons (.app (.app (.app (.app (.app .left))))))) λF=>?_;refine aa.eq (yX h0 (ca.1 ni) (λd hd=>(hv _ _ hd).1) (h01 _)) (⟨.refl _,?_⟩);intro F2;refine aa.eq (yX h0 (ca.1 hhl) (λd hd=>(hv _ _ hd).1) (h01 _)) (⟨.refl _,?_⟩);refine⟨_,_,_,rfl,rfl,?_⟩;have hmin:(if((dep K.n (lv ah) K.N hi:Nat):Int)<((dep K.n (lv ah) K.N lo:Nat):Int)then((dep K.n (lv ah) K.N hi:Nat):Int)else((dep K.n (lv ah) K.N lo:Nat):Int))=((min (dep K.n (lv ah) K.N lo) (dep K.n (lv ah) K.N hi):Nat):Int):=by
  split<;>omega
 rw[hmin];refine ae.tJ (aL.mk ?_);by_cases hm:min (dep K.n (lv ah) K.N lo) (dep K.n (lv ah) K.N hi)<=ah.getD n 0
 ·rw[xam hm];exact JE.mk (BJ _ _ λgs=>Br.yes (bg.mk (.refl _) (by rw[hE,xad ⟨hne,hm⟩])))
 rw[xal hm];exact JE.mk (BJ _ _ λgs=>Br.no (bg.mk (.refl _) (by rw[hE,xac (λh=>hm h.2)])))
theorem JV(h:cQ kp K ord ah tr C){v lo hi:Nat}(hv:v<K.n):
  Rd zQ 147 #[ptr kp,iv (v:Int),u32 lo,u32 hi] C (· =if lo=hi then .tuple #[u32 lo,.bool true]else .tuple #[u32 ((K.T ⟨v,lo,hi⟩).getD 0),.bool (K.T ⟨v,lo,hi⟩).isSome]):=by
 obtain⟨b,rfl,hO⟩:=h;refine aF λg=>IZ (ae.eL (Br.dec (λhe=>bg.mk (.refl _) (by rw[xad he])) (λhe=>?_)));refine Nil.ptr (ai.mk (Ld.f ?_));exact Build.mk (cs:=bu ⟨v,lo,hi⟩) zK (aa.eq (uE (d:=⟨v,lo,hi⟩) hO.ut hv) (Ext.mk rfl (Ext.mk rfl (bg.mk (.refl _) (by rw[xac he];rfl)))))
theorem vP(h:cQ kp K ord ah tr C){r:Nat}(hr:r<4294967296)(hb:∀s,K.hold s<2147483648):Rd zQ 121 #[ptr kp,u32 r] C (· =iv ((K.hold r:Nat):Int)):=by
 obtain⟨b,rfl,hO⟩:=h;refine aF λg=>Je (ae.aI (c6.or (decide (K.ho.length<=r)) (λ_=>?_) zI λ_=>?_))
 ·refine br.q (Nil.ptr (ai.mk (Ld.f ?_)));refine hO.ho.bX ?_;rw[au];exact ae.tJ ⟨rfl,rfl⟩
 rw[xdA];refine Br.dec (λhge=>?_) (λhlt=>?_)
 ·refine bg.mk (.refl _) ?_;unfold Kd.hold;rw[List.getD,xaB hge];rfl
 refine Nil.ptr (ai.mk (Ld.f ?_));exact hO.ho.ld (x:=((K.hold r:Nat):Int)) (bH zO) (bG.sub (.cons (.app (.app (.app .left))))) (br.nat (by have:=hb r;simp[bF];omega) (bg.mk (.refl _) rfl))
theorem VG(h:cQ kp K ord ah tr C)(h2:2<=K.used)(hu:K.used<=1048576):Rd zQ 83 #[ptr kp] C (· =iv ((K.used-2:Nat):Int)):=by
 obtain⟨b,rfl,hO⟩:=h;refine aF λg=>Ob (ae.aI (Br.no (Nil.ptr (ai.mk (Ld.f ?_)))));exact aa.eq (D3 hO.ar) (ae.xK (b:=2) (by simp[bF];omega) h2 (bg.mk (.refl _) rfl))
theorem MP(h:cQ kp K ord ah tr C):Rd zQ 174 #[ptr kp] C (· =iv ((tr.length:Nat):Int)):=by
 obtain⟨b,rfl,hO⟩:=h;refine aF λg=>Iz (ae.aI (Br.no (Nil.ptr (Ld.f ?_))));refine hO.tr.bX ?_;rw[au];exact bg.mk (.refl _) rfl
theorem gM(h:cQ kp K ord ah tr C):Rd zQ 108 #[ptr kp] C (· =iv ((K.n:Nat):Int)):=by
 obtain⟨b,rfl,hO⟩:=h;refine aF λg=>Jr (ae.aI (Br.no (Nil.ptr (Ld.f ?_))));exact bg.mk (.refl _) rfl
theorem iP(h:cQ kp K ord ah tr C){r:Nat}(hr:r<4294967296):Rd zQ 152 #[ptr kp,u32 r] C (· =.tuple #[.agg (got K.N r).toArray,iv (if gA K.N r then 0 else 3)]):=by
 have h0:=h;obtain⟨b,rfl,hO⟩:=h;refine aF λg=>IU λb1 _=>?_;refine ae.aI (Br.no (Nil.ptr (ai.mk (aa.eq (n6 h0 hr) (Un.not ?_)))));cases hb:gA K.N r with
 |false=>
  refine Br.yes (Build.mk (cs:=[iv 0,.int .u32 0,.int .u32 0]) zK (St.q ?_));refine az.q ?_;exact bg.mk .tail (by rw[Dw hb];rfl)
 |true=>
  refine Br.no (Nil.ptr (ai.mk (aa.eq (n5 h0 hr) (St.whole (r:=got K.N r) (by exact .head _) rfl (aP _ _).1 (aP _ _).2 ?_))));refine az.whole (r:=got K.N r) (by exact .head _) (aP _ _).1 ?_;exact bg.mk .tail rfl
end
theorem wH{B:Hp}{v:zV}{l:List Int}(h:dI .i64 B v l)(hl:l.length<=1099511627776):Fc zQ 31 #[v] B (λr H=>∃C,H=C++B/\aT 3 .i64 r l C):=by
 refine aF λg=>OV ?_;obtain⟨a,c,rfl,hc⟩:=h.shape;refine⟨.bool a.isNone,by simp[gV],?_⟩;refine Br.mk (λha=>?_) (λha=>?_)
 ·have:l=[]:=by
   rcases h.2 with⟨_,_,h1,h2⟩|⟨b,o,cap,cs,T,fz,h1,_⟩
   ·simpa using h2
   simp at h1;rw[h1.1]at ha;simp at ha
  subst this;exact aN.here ⟨[],rfl,aT.nil⟩
 refine ax.none (z:=iv 0) (e:=3) (k:=1) zK zK zK λb=>?_;refine(aT.made (T:=3) (kd:=.i64) (b:=b) []).Ya (l2:=l) .left ((show dI .i64 B _ l from h).mono λ_ h=>.tail _ h) zP zP λv' C' ho=>?_;exact aN.here ⟨C',rfl,by simpa using ho⟩
theorem yQ{kp:Nat}{K:Kd}{ord ah tr:zL}{C:Hp}(h:cQ kp K ord ah tr C):Fc zQ 27 #[ptr kp] C (λr H=>∃N,H=N++C/\aT 3 .i64 r (iw ord) N):=by
 obtain⟨b,rfl,hO⟩:=h;refine aF λg=>OY (ae.aI (Br.no (Nil.ptr (Ld.f ?_))));refine aa.fq (wH (hO.od.ints.mono (bG.sub (.cons (.app (.app (.app (.app .left))))))) (by have:=hO.ol.1;have:=hO.lT;simp;omega)) ?_;rintro v C' ⟨N,rfl,ho⟩;exact aN.here ⟨N,rfl,ho⟩
end
section
def Ai(x r:Nat):Prop:=x<2^r/\(r=0\/2^(r-1)<=x)
theorem Ai.up{x s t:Nat}(h:Ai (x>>>s) t)(h0:s=0\/x>>>s≠0):Ai x (s+t):=by
 rw[xa0]at h h0;have hp:=xbv s;refine⟨?_,?_⟩
 ·have:=h.1;rw[Nat.div_lt_iff_lt_mul hp]at this;rw[xdB,xci];exact this
 rcases h.2 with h2|h2
 ·subst h2;have:=h.1;rcases h0 with h0|h0
  ·exact .inl zO
  rw[Nat.pow_zero]at this;exact absurd (Nat.lt_one_iff.1 this) h0
 by_cases ht:t=0
 ·subst ht;rcases h0 with h0|h0
  ·exact .inl zO
  have:=h.1;rw[Nat.pow_zero]at this;exact absurd (Nat.lt_one_iff.1 this) h0
 right;have:=(Nat.le_div_iff_mul_le hp).1 h2;rw[show s+t-1=(t-1)+s by omega,xdB];exact this
theorem VA:∀y:Fin 256,∃b:UInt8, zX[y.1]? =some b/\(y.1<2^b.toNat/\(b.toNat=0\/2^(b.toNat-1)<=y.1)):=by
 have h:∀y:Fin 256,(match zX[y.1]? with|some b=>decide (y.1<2^b.toNat/\(b.toNat=0\/2^(b.toNat-1)<=y.1))|none=>false)=true:=by decide+kernel
 intro y;have:=h y;split at this
 ·rename_i b hb;exact⟨b,hb,by simpa using this⟩
 cases this
theorem QZ{x:Nat}(hx:x<18446744073709551616)(B:Hp):Rd zQ 145 #[.int .u64 (x:Int)] B (λv=>∃r:Nat,Ai x r/\v=iv (r:Int)):=by
 refine aF λg=>I1 λJ1 hJ1=>?_;have h1:∀s,s<=32->x>>>s<4294967296->(s=0\/x>>>s≠0)->J1 [.int .u64 ((x>>>s:Nat):Int),iv (s:Int)] B:=by
  intro s hs hlt h0;refine hJ1 _ _ _ λgs=>?_;intro J2 BJ;have h2:∀s,s<=48->x>>>s<65536->(s=0\/x>>>s≠0)->J2 [.int .u64 ((x>>>s:Nat):Int),iv (s:Int)] B:=by
   intro s hs hlt h0;refine BJ _ _ _ λgs=>?_;intro J3 hJ3;have h3:∀s,s<=56->x>>>s<256->(s=0\/x>>>s≠0)->J3 [.int .u64 ((x>>>s:Nat):Int),iv (s:Int)] B:=by
    intro s hs hlt h0;refine hJ3 _ _ _ λgs=>?_;refine br.nat (show x>>>s<256 from hlt) ?_;obtain⟨b,hb,hl⟩:=VA ⟨x>>>s,hlt⟩;refine⟨_,_,_,b,rfl,rfl,xdf _,by rw[xbd];exact hb,?_⟩;have T7:b.toNat<256:=b.toNat_lt;exact br.q (ae.fE (bg.mk (.refl _) ⟨s+b.toNat,Ai.up (t:=b.toNat) hl h0,rfl⟩))
   refine ae.tJ (b:=256) (Br.dec (λhge=>?_) (λhge=>JE.mk (h3 s zO zO h0)));refine ae.iI (b:=8) (by simp only[bF];omega) (ae.fE (b:=8) ?_);rw[<-xdM];have e:x>>>(s+8)=x>>>s/256:=by rw[xdM,xa0 (x>>>s) 8]
   exact JE.mk (h3 (s+8) zO zO (.inr zO))
  refine ae.tJ (b:=65536) (Br.dec (λhge=>?_) (λhge=>JE.mk (h2 s zO zO h0)));refine ae.iI (b:=16) (by simp only[bF];omega) (ae.fE (b:=16) ?_);rw[<-xdM];have e:x>>>(s+16)=x>>>s/65536:=by rw[xdM,xa0 (x>>>s) 16]
  exact JE.mk (h2 (s+16) zO zO (.inr zO))
 refine ae.tJ (b:=4294967296) (Br.dec (λhge=>?_) (λhge=>JE.mk (h1 0 zO zP (.inl rfl))));refine ae.iI (b:=32) (by simp only[bF];exact hx) ?_;have e:x>>>32=x/4294967296:=by rw[xa0]
 exact JE.mk (h1 32 zO zO (.inr zO))
end
end Go.Proofs
namespace Go.Sx
open Go
section
variable {P:Program} {H C:Hp} {c:Hp->Hp}
theorem bG.re(h:bG C H c)(X:Hp):bG X (c X) c:=by
 induction h with
 |here=>exact .here
 |left=>exact .left
 |cons _ ih=>exact .cons ih
 |app _ ih=>exact .app ih
theorem swap_perm{l:List Int}{i j:Nat}{x y:Int}(hi:l[i]? =some x)(hj:l[j]? =some y):((l.set i y).set j x).Perm l:=by
 have h1:=(xag.1 hi).1;have h2:=(xag.1 hj).1;rw[xcu];intro a;by_cases e:i=j
 ·subst e;rw[hi]at hj;cases hj;rw[List.set_set];have:l.set i x=l:=by
   have hx:l[i]=x:=by rw[xaa h1]at hi;exact xbh hi
   rw[<-hx];exact List.set_getElem_self h1
  rw[this]
 have hx:l[i]=x:=by rw[xaa h1]at hi;exact xbh hi
 have hy:l[j]=y:=by rw[xaa h2]at hj;exact xbh hj
 rw[xdQ (by simpa using h2),xdQ h1];have:(l.set i y)[j]'(by simpa using h2)=y:=by rw[List.getElem_set_ne e];exact hy
 rw[this,hx];have c1:l.count x≥1:=List.one_le_count_iff.2 (hx▸xaJ h1);have c2:l.count y≥1:=List.one_le_count_iff.2 (hy▸xaJ h2);by_cases e1:x=a
 ·subst e1;by_cases e2:y=x
  ·subst e2;simp<;>omega
  simp[e2,xa8 e2]<;>omega
 by_cases e2:y=a
 ·subst e2;simp[e1]<;>omega
 simp[e1,e2]<;>omega
def up1(vs:List zV):Nat:=match vs with
 | .int _ q::_=>(q+1).toNat
 |_=>0
theorem An{k:IntKind}{q:Int}{r:List zV}:up1 (.int k q::r)=(q+1).toNat:=rfl
end
end Go.Sx
namespace Go.Sx
open Go
abbrev cv:=Sort.ltInt
section
variable {P:Program} {H C:Hp} {c:Hp->Hp} {T:TypeId} {kd xR k1 k2 k3 k4:IntKind} {v:zV} {d:Array Int}
def Da(T:TypeId)(kd:IntKind)(v:zV)(d:Array Int)(C:Hp):Prop:=aT T kd v d.toList C
theorem Z7(d:Array Int){i:Nat}(hi:i<d.size):d.toList[i]? =some d[i]! :=by
 rw[xbb,getElem!_pos d i hi];exact xbA hi
theorem PU(d:Array Int)(i j:Nat):(Sort.swp d i j).toList=(d.toList.set i d[j]!).set j d[i]! :=by
 unfold Sort.swp;rw[Array.toList_setIfInBounds,Array.toList_setIfInBounds]
theorem Da.ld(h:Da T kd v d C)(hC:∀y∈C,y∈H){i:Nat}(hi:i<d.size){K:zV->Prop}(hk:K (.int kd d[i]!)):av 1 v (.int xR (i:Int)) λp=>Ld H p K:=
 aT.ld h (Z7 d hi) hC hk
theorem Da.Xl(h:Da T kd v d C)(hh:bG C H c){i j:Nat}(hi:i<d.size)(hj:j<d.size){B:(zV->Prop)->Prop}
 (hB:∀k:zV->Prop,k (.int k2 (i:Int))->B k){K:Hp->Prop}(hk:∀C',Da T kd v (Sort.swp d i j) C'->K (c C')):
  av 1 v (.int k1 (j:Int)) λp1=>Ld H p1 λx=>B λu=>av 1 v u λp2=>Ld H p2 λy=>av 1 v (.int k3 (i:Int)) λp3=>St 1 H p3 x λH1=>av 1 v (.int k4 (j:Int)) λp4=>St 1 H1 p4 y K:=by
 refine h.ld hh.sub hj (hB _ ?_);refine h.ld hh.sub hi ?_;refine aT.nu h hh (by rw[xb9];exact hi) λC1 h1=>?_;refine h1.nu (hh.re C1) (by rw[xbQ,xb9];exact hj) λC2 h2=>?_;exact hk C2 (by unfold Da;rw[PU];exact h2)
theorem Da.swap(h:Da T kd v d C)(hh:bG C H c){i j:Nat}(hi:i<d.size)(hj:j<d.size){K:Hp->Prop}(hk:∀C',Da T kd v (Sort.swp d i j) C'->K (c C')):
  av 1 v (.int k1 (j:Int)) λp1=>Ld H p1 λx=>av 1 v (.int k2 (i:Int)) λp2=>Ld H p2 λy=>av 1 v (.int k3 (i:Int)) λp3=>St 1 H p3 x λH1=>av 1 v (.int k4 (j:Int)) λp4=>St 1 H1 p4 y K:=
 h.Xl (B:=λk=>k _) hh hi hj (λ_ h=>h) hk
end
theorem iX{d:Array Int}{n i j:Nat}(h:d.size=n):(Sort.swp d i j).size=n:=(Sort.size_swp d i j).trans h
theorem Rh{a j:Nat}{e:Array Int}(h:¬a<j):Sort.insInner cv a j e=e:=by
 cases j with
 |zero=>rfl
 |succ j=>rw[Sort.insInner,xac zP]
theorem Ri{a j:Nat}{e:Array Int}(h:a<j):Sort.insInner cv a j e=if cv e[j]! e[j-1]! =true then Sort.insInner cv a (j-1) (Sort.swp e j (j-1))else e:=by
 obtain⟨j,rfl⟩:∃k,j=k+1:=⟨j-1,by omega⟩;rw[Sort.insInner,xam h,xcn];rfl
theorem Nq{j:Nat}{e:Array Int}(h:¬1<=j):Sort.shiftDown cv j e=e:=by
 obtain rfl:j=0:=by omega
 rfl
theorem sW{j:Nat}{e:Array Int}(h:1<=j):Sort.shiftDown cv j e=if(!cv e[j]! e[j-1]!)=true then e else Sort.shiftDown cv (j-1) (Sort.swp e j (j-1)):=by
 obtain⟨j,rfl⟩:∃k,j=k+1:=⟨j-1,by omega⟩;rw[Sort.shiftDown];rfl
theorem fm{p:Int->Bool}{d:Array Int}{i j:Nat}(h:0<j):Sort.scanDown p d i j=if(decide (i<=j) &&p d[j]!)=true then Sort.scanDown p d i (j-1)else j:=by
 obtain⟨j,rfl⟩:∃k,j=k+1:=⟨j-1,by omega⟩;rw[Sort.scanDown];rfl
theorem L5{hi f r:Nat}{d:Array Int}(h:hi<=2*r+1):Sort.siftDown cv hi f r d=d:=by
 rw[Sort.siftDown,xd1 h]
theorem UR{hi f r c:Nat}{d:Array Int}(h:2*r+1<hi)(hc:c=if(decide (2*r+1+1<hi) &&cv d[f+(2*r+1)]! d[f+(2*r+1)+1]!)=true then 2*r+2 else 2*r+1):
  Sort.siftDown cv hi f r d=if(!cv d[f+r]! d[f+c]!)=true then d else Sort.siftDown cv hi f c (Sort.swp d (f+r) (f+c)):=by
 rw[Sort.siftDown,dif_neg zO];split at hc
 ·rename_i hb;subst hc;rw[xad hb];rw[xaI,xaK]at hb;split
  ·rfl
  rw[xd1 hb.1]
 rename_i hb;subst hc;rw[xac hb]
theorem JS(hi f r:Nat)(d:Array Int):(Sort.siftDown cv hi f r d).size=d.size:=by
 fun_induction Sort.siftDown cv hi f r d<;>simp_all[Sort.size_swp]
end Go.Sx
set_option maxRecDepth 100000
namespace Go.Proofs
open Go Go.Sx Tryz
section
structure Srt where
 nan:Nat
 less:Nat
 Df:Nat
 Ma:Nat
 heap:Nat
 rev:Nat
 pins:Nat
 vx:Nat
 part:Nat
 brk:Nat
 Fi:Nat
 med:Nat
 Fq:Nat
 piv:Nat
 YE:Nat
section
variable (zs:Srt)
variable {g:Gh} {a0 a1 a2 a3 a4 a5 a6 a7 a8 a9 tT tS a12 a13 a14 a15:zV} {H:Hp} {R:Rt}
def L9000:Y1:=λ_ a b c=>lN a a λa=>rt c a b
def L9001:Y2:=λa b c d e=>jB (λf g=>rt e f g) λf=>CF a zs.nan #[b] d (λd g=>Split d true (CF a zs.nan #[c] g (λa d=>Un .not a λa=>aL vT a vF λa=>Split a false (lL b c λa=>aL vF vT a λa=>JE f [a] d) (aL vT vT undef λa=>JE f [a] d)) (dm e)) (aL vF undef vF λa=>lL b c λb=>aL a vT b λa=>JE f [a] g)) (dm e)
def L9002:Y3:=λa b c d e f=>lA c i1 λg=>yA [g] e λe g h i=>lL h d λd=>Br d (yA [h] i λd j k l=>jB (λm n=>Br m (DR n λm=>lS k i1 λo=>lS k i1 λp=>lI 1 b p m λp=>lI 1 b k m λm=>av 1 b k λq=>St 1 n q p λp=>av 1 b o λo=>St 1 p o m λm=>lS k i1 λo=>aC d j [o] m [k] l) (lA h i1 λd=>aC e g [d] n [h] i)) λd=>DR l λe=>lG k c λc=>Br c (lI 1 b k e λc=>lS k i1 λg=>lI 1 b g e λb=>∀e:Hp,
CF (a.add e) zs.less #[c,b] l (λa b=>aL vT a vF λa=>JE d [a] b) fG) (JE d [vF] l)) (rt f (.tuple #[]) i)
def L9003:Y4:=λa b c d e f g=>yA [c] f λc f h i=>oM (iv 2) h λj=>lA j i1 λj=>oG j d λk=>Br k (rt g (.tuple #[]) i) (jB (λk l=>DR l λm=>lA e h λn=>lI 1 b n m λn=>lA e k λo=>lI 1 b o m λm=>CF a zs.less #[n,m] l (λl m=>Un .not l λl=>Br l (rt g (.tuple #[]) m) (DR m λg=>lA e h λl=>lA e k λn=>lA e k λo=>lI 1 b o g λo=>lA e h λp=>lI 1 b p g λg=>av 1 b l λl=>St 1 m l o λl=>av 1 b n λm=>St 1 l m g λg=>aC c f [k] g [h] i)) fG) λc=>jB (λf g=>Br f (lA j i1 λf=>JE c [f] g) (JE c [j] g)) λc=>DR i λf=>lA j i1 λg=>lL g d λd=>Br d (lA e j λd=>lI 1 b d f λd=>lA e j λe=>lA e i1 λe=>lI 1 b e f λb=>∀e:Hp,
CF (a.add e) zs.less #[d,b] i (λa b=>aL vT a vF λa=>JE c [a] b) fG) (JE c [vF] i))
def L9004:Y3:=λa b c d e f=>lS d c λd=>lS d i1 λg=>ae .num .quo g (iv 2) λg=>yA [g] e λe g h i=>oG h i0 λj=>Br j (CF a zs.Ma #[b,h,d,c] i (λ_ j=>lS h i1 λk=>aC e g [k] j [h] i) (dm f)) (lS d i1 λd=>yA [d] i λd e g h=>oG g i0 λi=>Br i (DR h λi=>lA c g λj=>lA c g λk=>lI 1 b k i λk=>lI 1 b c i λi=>av 1 b c λl=>St 1 h l k λk=>av 1 b j λj=>St 1 k j i λi=>CF a zs.Ma #[b,i0,g,c] i (λ_ a=>lS g i1 λb=>aC d e [b] a [g] h) (dm f)) (rt f (.tuple #[]) h))
def L9005:Y3:=λ_ a b c d e=>lS c i1 λc=>yB [b,c] d λb c d f g=>lL d f λh=>Br h (DR g λh=>lI 1 a f h λi=>lI 1 a d h λh=>av 1 a d λj=>St 1 g j i λi=>av 1 a f λa=>St 1 i a h λa=>lA d i1 λh=>lS f i1 λi=>aC b c [h,i] a [d,f] g) (rt e (.tuple #[]) g)
def L9006:Y3:=λa b c d e f=>lA c i1 λg=>yB [g,i0] e λe g h i j=>lL i (iv 5) λk=>Br k (jB (λk l=>lA i i1 λm=>aC e g [k,m] l [h,i] j) λe=>yA [h] j λg h i k=>jB (λl m=>Br l (lA i i1 λl=>aC g h [l] m [i] k) (lE i d λg=>Br g (rt f vT m) (lS d c λg=>lL g (iv 50) λg=>Br g (rt f vF m) (DR m λg=>lS i i1 λh=>lS i i1 λl=>lI 1 b l g λl=>lI 1 b i g λg=>av 1 b i λn=>St 1 m n l λl=>av 1 b h λh=>St 1 l h g λg=>jA (λh=>lS d i λl=>oG l (iv 2) λl=>Br l (lA i i1 λl=>yA [l] h λl m n o=>lL n d λp=>Br p (DR o λp=>lI 1 b n p λq=>lS n i1 λr=>lI 1 b r p λp=>CF a zs.less #[q,p] o (λp q=>Un .not p λp=>Br p (JE e [i] q) (DR q λp=>lS n i1 λr=>lS n i1 λs=>lI 1 b s p λs=>lI 1 b n p λp=>av 1 b n λt=>St 1 q t s λq=>av 1 b r λr=>St 1 q r p λp=>lA n i1 λq=>aC l m [q] p [n] o)) fG) (JE e [i] o)) (JE e [i] h)) λe=>lS i c λc=>oG c (iv 2) λc=>Br c (lS i i1 λc=>yA [c] g λc h l m=>oG l i1 λn=>Br n (DR m λn=>lI 1 b l n λo=>lS l i1 λp=>lI 1 b p n λn=>CF a zs.less #[o,n] m (λn o=>Un .not n λn=>Br n (JE e [] o) (DR o λn=>lS l i1 λp=>lS l i1 λq=>lI 1 b q n λq=>lI 1 b l n λn=>av 1 b l λr=>St 1 o r q λo=>av 1 b p λp=>St 1 o p n λn=>lS l i1 λo=>aC c h [o] n [l] m)) fG) (JE e [] m)) (JE e [] g))))) λc=>DR k λe=>lL i d λd=>Br d (lI 1 b i e λd=>lS i i1 λg=>lI 1 b g e λb=>∀e:Hp,
CF (a.add e) zs.less #[d,b] k (λa b=>Un .not a λa=>aL vT a vF λa=>JE c [a] b) fG) (JE c [vF] k)) (rt f vF j)
def L9007:Y4:=λa b c d e f g=>DR f λh=>lI 1 b e h λi=>lI 1 b c h λh=>av 1 b c λj=>St 1 f j i λf=>av 1 b e λe=>St 1 f e h λe=>lA c i1 λf=>lS d i1 λd=>yB [f,d] e λd e f h i=>yA [f] i λj k l m=>jB (λn o=>Br n (lA l i1 λn=>aC j k [n] o [l] m) (yA [h] o λj k n o=>jB (λp q=>Br p (lS n i1 λp=>aC j k [p] q [n] o) (lG l n λj=>Br j (rt g l q) (DR q λg=>lI 1 b n g λj=>lI 1 b l g λg=>av 1 b l λk=>St 1 q k j λj=>av 1 b n λk=>St 1 j k g λg=>lA l i1 λj=>lS n i1 λk=>aC d e [j,k] g [f,h] i))) λd=>DR o λe=>oQ l n λf=>Br f (lI 1 b c e λf=>lI 1 b n e λe=>∀g:Hp,
CF (a.add g) zs.less #[f,e] o (λe f=>aL vT e vF λe=>JE d [e] f) fG) (JE d [vF] o))) λd=>DR m λe=>oQ l h λf=>Br f (lI 1 b c e λc=>lI 1 b l e λb=>∀e:Hp,
CF (a.add e) zs.less #[c,b] m (λa b=>Un .not a λa=>aL vT a vF λa=>JE d [a] b) fG) (JE d [vF] m)
def L9008:Y4:=λa b c d e f g=>DR f λh=>lI 1 b e h λi=>lI 1 b c h λh=>av 1 b c λj=>St 1 f j i λf=>av 1 b e λe=>St 1 f e h λe=>lA c i1 λf=>lS d i1 λd=>yA [f] e λe f h i=>jB (λj k=>Br j (lA h i1 λj=>aC e f [j] k [h] i) (yA [d] k λe f j k=>jB (λl m=>Br l (lS j i1 λl=>aC e f [l] m [j] k) (lG h j λe=>Br e (DR m λe=>lI 1 b c e λf=>lI 1 b j e λe=>av 1 b j λl=>St 1 m l f λf=>av 1 b c λl=>St 1 f l e λe=>rt g (tP j vT) e) (DR m λe=>lI 1 b j e λf=>lI 1 b h e λe=>av 1 b h λl=>St 1 m l f λf=>av 1 b j λl=>St 1 f l e λe=>lA h i1 λf=>lS j i1 λl=>yB [f,l] e λe f l m n=>yA [l] n λo p q r=>jB (λs t=>Br s (lA q i1 λs=>aC o p [s] t [q] r) (yA [m] t λo p s t=>jB (λu v=>Br u (lS s i1 λu=>aC o p [u] v [s] t) (lG q s λo=>Br o (DR v λo=>lI 1 b c o λp=>lI 1 b s o λo=>av 1 b s λu=>St 1 v u p λp=>av 1 b c λu=>St 1 p u o λo=>rt g (tP s vF) o) (DR v λg=>lI 1 b s g λo=>lI 1 b q g λg=>av 1 b q λp=>St 1 v p o λo=>av 1 b s λp=>St 1 o p g λg=>lA q i1 λo=>lS s i1 λp=>aC e f [o,p] g [l,m] n))) λe=>DR t λf=>oQ q s λg=>Br g (lI 1 b s f λg=>lI 1 b c f λf=>∀l:Hp,
CF (a.add l) zs.less #[g,f] t (λf g=>Un .not f λf=>aL vT f vF λf=>JE e [f] g) fG) (JE e [vF] t))) λe=>DR r λf=>oQ q m λg=>Br g (lI 1 b q f λg=>lI 1 b c f λf=>∀l:Hp,
CF (a.add l) zs.less #[g,f] r (λf g=>aL vT f vF λf=>JE e [f] g) fG) (JE e [vF] r)))) λe=>DR k λf=>oQ h j λg=>Br g (lI 1 b j f λg=>lI 1 b c f λf=>∀j:Hp,
CF (a.add j) zs.less #[g,f] k (λf g=>Un .not f λf=>aL vT f vF λf=>JE e [f] g) fG) (JE e [vF] k))) λe=>DR i λf=>oQ h d λd=>Br d (lI 1 b h f λd=>lI 1 b c f λb=>∀c:Hp,
CF (a.add c) zs.less #[d,b] i (λa b=>aL vT a vF λa=>JE e [a] b) fG) (JE e [vF] i)
def L9009:Y3:=λa b c d e f=>lS d c λd=>oG d (iv 8) λg=>Br g (br .u64 d λg=>lQ 1 e #[(wi 0)] 276 g λg h=>CR f a 207 #[d] h λh i=>ae .num .quo d (iv 4) λj=>oM j (iv 2) λj=>lA c j λj=>lS j i1 λj=>yA [j] i λi j k l=>ae .num .quo d (iv 4) λm=>oM m (iv 2) λm=>lA c m λm=>lA m i1 λm=>oQ k m λm=>Br m (CR f a 208 #[(pt g)] l λa g=>lS h (wi 1) λh=>oA a h λa=>br .i64 a λa=>jB (λh m=>DR m λn=>lA c h λo=>lA c h λc=>lI 1 b c n λc=>lI 1 b k n λh=>av 1 b k λn=>St 1 m n c λc=>av 1 b o λb=>St 1 c b h λb=>lA k i1 λc=>aC i j [c] b [k] l) λb=>oG a d λc=>Br c (lS a d λc=>JE b [c] g) (JE b [a] g)) (rt f (.tuple #[]) l)) (rt f (.tuple #[]) e)
def L9010:Y4:=λa b c d e f g=>DR f λh=>lI 1 b d h λi=>lI 1 b c h λb=>CF a zs.less #[i,b] f (λa b=>Br a (Nil e λa=>Ld b a λa=>lA a i1 λa=>Nil e λe=>St 1 b e a λa=>rt g (tP d c) a) (rt g (tP c d) b)) fG
def L9011:Y5:=λa b c d e f g h=>CF a zs.Fi #[b,c,d,f] g (λc d=>lX c λc g=>CF a zs.Fi #[b,g,e,f] d (λd e=>lX d λd _=>CF a zs.Fi #[b,c,d,f] e (λa b=>lX a λ_ a=>rt h a b) (dm h)) (dm h)) (dm h)
def L9012:Y3:=λa b c d e f=>lS c i1 λg=>lA c i1 λh=>CF a zs.med #[b,g,c,h,d] e (λa b=>rt f a b) (dm f)
def L9013:Y3:=λa b c d e f=>lS d c λd=>lW e #[i0] 3 λe g=>ae .num .quo d (iv 4) λh=>oM h i1 λh=>lA c h λh=>ae .num .quo d (iv 4) λi=>oM i (iv 2) λi=>lA c i λi=>ae .num .quo d (iv 4) λj=>oM j (iv 3) λj=>lA c j λc=>jB (λj k=>Ld k (pt e) λl=>lE l i0 λm=>Br m (rt f (tP j i1) k) (lE l (iv 12) λl=>Br l (rt f (tP j (iv 2)) k) (rt f (tP j i0) k))) λj=>oG d (iv 8) λk=>Br k (∀k:Jt,(∀l m n:zV,∀o:Hp,(∀_:Fr,
CF a zs.med #[b,l,m,n,(pt e)] o (λp q=>JE j [p] q) (dm f))->k [l,m,n] o)->oG d (iv 50) λd=>Br d (CF a zs.Fq #[b,h,(pt e)] g (λd l=>CF a zs.Fq #[b,i,(pt e)] l (λl m=>CF a zs.Fq #[b,c,(pt e)] m (λa b=>JE k [d,l,a] b) (dm f)) (dm f)) (dm f)) (JE k [h,i,c] g)) (JE j [i] g)
def L9014:Y4:=λa b c d e f g=>∃(h:Jt) (i:Mt),JE h [c,d,e,vT,vT] f/\∀c d e f j:zV,∀k:Hp,h [c,d,e,f,j] k->∀_:Fr,
lS d c λl=>oQ l (iv 12) λm=>Br m (CF a zs.Df #[b,c,d] k (λ_ m=>rt g (.tuple #[]) m) (dm g)) (lE e i0 λm=>Br m (CF a zs.heap #[b,c,d] k (λ_ m=>rt g (.tuple #[]) m) (dm g)) (jB (λm n=>CF a zs.piv #[b,c,d] n (λn o=>lX n λn p=>jC (λq r s=>jA (λt=>jB (λu v=>Br u (CF a zs.vx #[b,c,d,q] v (λu w=>aC h i [u,d,m,f,j] w [c,d,e,f,j] k) (dm g)) (CF a zs.part #[b,c,d,q] v (λu v=>lX u λu w=>lS u c λx=>lS d u λy=>ae .num .quo l (iv 8) λl=>lL x y λz=>Br z (oG x l λx=>CF a zs.YE #[b,c,u,m] v (λ_ z=>lA u i1 λA=>aC h i [A,d,m,x,w] z [c,d,e,f,j] k) (dm g)) (oG y l λl=>lA u i1 λx=>CF a zs.YE #[b,x,d,m] v (λ_ v=>aC h i [c,u,m,l,w] v [c,d,e,f,j] k) (dm g))) (dm g))) λh=>DR t λi=>lG c i0 λl=>Br l (lS c i1 λl=>lI 1 b l i λl=>lI 1 b q i λi=>∀m:Hp,
CF (a.add m) zs.less #[l,i] t (λi l=>Un .not i λi=>aL vT i vF λi=>JE h [i] l) fG) (JE h [vF] t)) λh=>lU f (λi=>(lV s j i)) λi=>lU (Value.bool i) (λi=>lE r i1 λj=>(lV s j i)) λi=>Br (Value.bool i) (CF a zs.pins #[b,c,d] s (λi j=>Br i (rt g (.tuple #[]) j) (JE h [] j)) (dm g)) (JE h [] s)) λh=>lE p (iv 2) λi=>Br i (CF a zs.rev #[b,c,d] o (λ_ i=>lS d i1 λj=>lS n c λl=>lS j l λj=>JE h [j,i1] i) (dm g)) (JE h [n,p] o)) (dm g)) λh=>Un .not f λf=>Br f (CF a zs.brk #[b,c,d] k (λ_ a=>lS e i1 λb=>JE h [b] a) (dm g)) (JE h [e] k)))
end
structure Li(zs:Srt):Prop where
 nan:∀{g:Gh} {a0:zV} {H:Hp} {R:Rt},L9000 g a0 H R->bD zQ g zs.nan #[a0] H R
 less:∀{g:Gh} {a0 a1:zV} {H:Hp} {R:Rt},L9001 zs g a0 a1 H R->bD zQ g zs.less #[a0,a1] H R
 Df:∀{g:Gh} {a0 a1 a2:zV} {H:Hp} {R:Rt},L9002 zs g a0 a1 a2 H R->bD zQ g zs.Df #[a0,a1,a2] H R
 Ma:∀{g:Gh} {a0 a1 a2 a3:zV} {H:Hp} {R:Rt},L9003 zs g a0 a1 a2 a3 H R->bD zQ g zs.Ma #[a0,a1,a2,a3] H R
 heap:∀{g:Gh} {a0 a1 a2:zV} {H:Hp} {R:Rt},L9004 zs g a0 a1 a2 H R->bD zQ g zs.heap #[a0,a1,a2] H R
 rev:∀{g:Gh} {a0 a1 a2:zV} {H:Hp} {R:Rt},L9005 g a0 a1 a2 H R->bD zQ g zs.rev #[a0,a1,a2] H R
 pins:∀{g:Gh} {a0 a1 a2:zV} {H:Hp} {R:Rt},L9006 zs g a0 a1 a2 H R->bD zQ g zs.pins #[a0,a1,a2] H R
 vx:∀{g:Gh} {a0 a1 a2 a3:zV} {H:Hp} {R:Rt},L9007 zs g a0 a1 a2 a3 H R->bD zQ g zs.vx #[a0,a1,a2,a3] H R
 part:∀{g:Gh} {a0 a1 a2 a3:zV} {H:Hp} {R:Rt},L9008 zs g a0 a1 a2 a3 H R->bD zQ g zs.part #[a0,a1,a2,a3] H R
 brk:∀{g:Gh} {a0 a1 a2:zV} {H:Hp} {R:Rt},L9009 g a0 a1 a2 H R->bD zQ g zs.brk #[a0,a1,a2] H R
 Fi:∀{g:Gh} {a0 a1 a2 a3:zV} {H:Hp} {R:Rt},L9010 zs g a0 a1 a2 a3 H R->bD zQ g zs.Fi #[a0,a1,a2,a3] H R
 med:∀{g:Gh} {a0 a1 a2 a3 a4:zV} {H:Hp} {R:Rt},L9011 zs g a0 a1 a2 a3 a4 H R->bD zQ g zs.med #[a0,a1,a2,a3,a4] H R
 Fq:∀{g:Gh} {a0 a1 a2:zV} {H:Hp} {R:Rt},L9012 zs g a0 a1 a2 H R->bD zQ g zs.Fq #[a0,a1,a2] H R
 piv:∀{g:Gh} {a0 a1 a2:zV} {H:Hp} {R:Rt},L9013 zs g a0 a1 a2 H R->bD zQ g zs.piv #[a0,a1,a2] H R
 YE:∀{g:Gh} {a0 a1 a2 a3:zV} {H:Hp} {R:Rt},L9014 zs g a0 a1 a2 a3 H R->bD zQ g zs.YE #[a0,a1,a2,a3] H R
def zR:Srt:=⟨299,293,287,296,288,291,292,294,295,289,300,298,297,290,286⟩
theorem abd:Li zR:=⟨λh=>fK (hn:=.e) func299 h zK,
 λh=>fK (hn:=(.n .e (.h 1 [4] [] .e .e))) func293 h zK,
 λh=>fK (hn:=(.n .e (.n (.h 0 [6] [0,1,2] (.n .e (.n (.n (.n .e (.n (.h 0 [7] [0,1,2,6] (.n (.h 1 [30] [0,1,2,6,7] (.h 1 [] [] (.h 0 [0] [] (.h 0 [1] [] (.h 0 [2] [] (.h 2 [3] [] (.h 0 [4] [] (.h 0 [5] [] (.h 0 [6] [] (.h 0 [7] [] (.h 0 [8] [] (.h 0 [9] [] (.h 0 [10] [] (.h 0 [11] [] (.h 0 [12] [] (.h 0 [13] [] (.h 0 [14] [] .e .e) .e) .e) .e) .e) .e) .e) .e) .e) .e) .e) (.h 0 [4] [] (.h 0 [5] [] (.h 0 [6] [] (.h 0 [7] [] (.h 0 [8] [] (.h 0 [9] [] (.h 0 [10] [] (.h 0 [11] [] (.h 0 [12] [] (.h 0 [13] [] (.h 3 [14] [] .e .e) .e) .e) .e) .e) .e) .e) .e) .e) .e) .e)) .e) .e) .e) .e) .e) (.n (.n (.h 0 [0,1,2,3,4,5,6,7,8,9,10,11,12,13,14,15,16,17] [] .e .e) .e) .e)) .e) .e)) .e) .e)) .e) .e))) func287 h zK,
 λh=>fK (hn:=(.n .e (.n (.h 0 [8] [0,2,3] (.n (.n .e (.n .e (.h 1 [9] [0,2,3,8] (.h 1 [36] [0,2,3,8,9] (.h 1 [] [] (.h 0 [0] [] (.h 0 [1] [] (.h 0 [2] [] (.h 0 [3] [] (.h 2 [4] [] (.h 0 [5] [] (.h 0 [6] [] (.h 0 [7] [] (.h 0 [8] [] (.h 0 [9] [] (.h 0 [10] [] (.h 0 [11] [] (.h 0 [12] [] (.h 0 [13] [] (.h 0 [14] [] (.h 0 [15] [] (.h 0 [16] [] (.h 0 [17] [] (.h 0 [18] [] (.h 0 [19] [] .e .e) .e) .e) .e) .e) .e) .e) .e) .e) .e) .e) .e) .e) .e) .e) (.h 0 [5] [] (.h 0 [6] [] (.h 0 [7] [] (.h 0 [8] [] (.h 0 [9] [] (.h 0 [10] [] (.h 0 [11] [] (.h 0 [12] [] (.h 0 [13] [] (.h 0 [14] [] (.h 0 [15] [] (.h 0 [16] [] (.h 0 [17] [] (.h 0 [18] [] (.h 3 [19] [] .e .e) .e) .e) .e) .e) .e) .e) .e) .e) .e) .e) .e) .e) .e) .e)) .e) .e) .e) .e) .e) .e) (.n (.n (.h 0 [0,1,2,3,4,5,6,7,8,9,10,11,12,13] [] .e .e) .e) (.n (.h 0 [0,1,2,3,4,5,6,7,8,9,10,11,12,13,14,15,16,17,18,19,20,21,22,23] [] .e .e) .e))))) .e) .e) .e))) func296 h zK,
 λh=>fK (hn:=(.n .e (.n .e (.n .e (.n (.n .e (.n (.h 0 [9] [0,6,7,8] .e .e) .e)) (.n .e (.n (.h 0 [10] [0,6,7] (.n .e (.n (.n (.n (.h 0 [0,1,2,3,4,5,6,7,8,9,10,11,12,13,14,15,16,17,18,19] [] .e .e) .e) .e) .e)) .e) .e))))))) func288 h zK,
 λh=>fK (hn:=(.n .e (.n .e (.n (.h 0 [6,7] [0] (.n .e (.n (.n (.h 0 [0,1,2,3,4,5,6,7,8,9,10,11,12,13,14,15] [] .e .e) .e) .e)) .e) .e)))) func291 h zK,
 λh=>fK (hn:=(.n .e (.n .e (.n (.n .e (.n (.h 0 [7,8] [0,1,2] (.n .e (.h 1 [7] [0,1,2,8] (.n (.n (.n (.h 0 [7] [0,1,2,8] (.n (.h 1 [32] [0,1,2,7,8] (.h 1 [] [] (.h 0 [0] [] (.h 0 [1] [] (.h 0 [2] [] (.h 2 [3] [] (.h 0 [4] [] (.h 0 [5] [] (.h 0 [6] [] (.h 0 [7] [] (.h 0 [8] [] (.h 0 [9] [] (.h 0 [10] [] (.h 0 [11] [] (.h 0 [12] [] (.h 0 [13] [] (.h 0 [14] [] (.h 0 [15] [] .e .e) .e) .e) .e) .e) .e) .e) .e) .e) .e) .e) .e) (.h 0 [4] [] (.h 0 [5] [] (.h 0 [6] [] (.h 0 [7] [] (.h 0 [8] [] (.h 0 [9] [] (.h 0 [10] [] (.h 0 [11] [] (.h 0 [12] [] (.h 0 [13] [] (.h 0 [14] [] (.h 3 [15] [] .e .e) .e) .e) .e) .e) .e) .e) .e) .e) .e) .e) .e)) .e) .e) .e) .e) .e) .e) .e) .e) (.n .e (.n .e (.n (.h 0 [0,1,2,3,4,5,6,7,8,9,10,11,12,13,14,15,16,17] [] .e .e) (.h 1 [] [0,1,2,7,8] (.n .e (.n (.n .e (.n (.h 0 [9] [0,1,2,7,8] (.n .e (.n (.n (.n (.n (.h 0 [0,1,2,3,4,5,6,7,8,9,10] [] .e .e) .e) (.h 0 [0,1,2,3,4,5,6,7,8,9,10,11,12,13,14,15,16,17] [] .e .e)) .e) .e)) .e) .e)) .e)) (.n .e (.n (.n .e (.n (.h 0 [10] [0,1,2,7,8] (.n .e (.n (.n (.n (.n (.h 0 [0,1,2,3,4,5,6,7,8,9,10] [] .e .e) .e) (.h 0 [0,1,2,3,4,5,6,7,8,9,10,11,12,13,14,15,16,17] [] .e .e)) .e) .e)) .e) .e)) .e))))))) .e) .e)) .e) .e)) .e)))) func292 h zK,
 λh=>fK (hn:=(.n .e (.n (.h 0 [0,1,2,3,4,5,6,7,8,9,10,11,12,13,14,15] [] .e .e) (.n .e (.n (.n (.h 0 [9,10] [0,1] (.n (.n (.n (.h 0 [9] [0,1,10] (.n (.h 1 [43] [0,1,9,10] (.h 1 [] [] (.h 0 [0] [] (.h 0 [1] [] (.h 0 [2] [] (.h 2 [3] [] (.h 0 [4] [] (.h 0 [5] [] (.h 0 [6] [] (.h 0 [7] [] (.h 0 [8] [] (.h 0 [9] [] (.h 0 [10] [] (.h 0 [11] [] (.h 0 [12] [] (.h 0 [13] [] (.h 0 [14] [] .e .e) .e) .e) .e) .e) .e) .e) .e) .e) .e) .e) (.h 0 [4] [] (.h 0 [5] [] (.h 0 [6] [] (.h 0 [7] [] (.h 0 [8] [] (.h 0 [9] [] (.h 0 [10] [] (.h 0 [11] [] (.h 0 [12] [] (.h 0 [13] [] (.h 3 [14] [] .e .e) .e) .e) .e) .e) .e) .e) .e) .e) .e) .e)) .e) .e) .e) .e) .e) .e) .e) .e) (.n (.n (.h 0 [10] [0,1,9] (.n (.h 1 [59] [0,1,9,10] (.h 1 [] [] (.h 0 [0] [] (.h 0 [1] [] (.h 0 [2] [] (.h 2 [3] [] (.h 0 [4] [] (.h 0 [5] [] (.h 0 [6] [] (.h 0 [7] [] (.h 0 [8] [] (.h 0 [9] [] (.h 0 [10] [] (.h 0 [11] [] (.h 0 [12] [] (.h 0 [13] [] .e .e) .e) .e) .e) .e) .e) .e) .e) .e) .e) (.h 0 [4] [] (.h 0 [5] [] (.h 0 [6] [] (.h 0 [7] [] (.h 0 [8] [] (.h 0 [9] [] (.h 0 [10] [] (.h 0 [11] [] (.h 0 [12] [] (.h 3 [13] [] .e .e) .e) .e) .e) .e) .e) .e) .e) .e) .e)) .e) .e) .e) .e) .e) .e) .e) .e) (.n .e (.n (.h 0 [0,1,2,3,4,5,6,7,8,9,10,11,12,13,14,15] [] .e .e) .e)))) .e) .e) .e) .e))))) func294 h zK,
 λh=>fK (hn:=(.n .e (.n (.h 0 [0,1,2,3,4,5,6,7,8,9,10,11,12,13,14,15] [] .e .e) (.n .e (.n (.n (.h 0 [10] [0,1,11] (.n (.h 1 [43] [0,1,10,11] (.h 1 [] [] (.h 0 [0] [] (.h 0 [1] [] (.h 0 [2] [] (.h 2 [3] [] (.h 0 [4] [] (.h 0 [5] [] (.h 0 [6] [] (.h 0 [7] [] (.h 0 [8] [] (.h 0 [9] [] (.h 0 [10] [] (.h 0 [11] [] (.h 0 [12] [] (.h 0 [13] [] .e .e) .e) .e) .e) .e) .e) .e) .e) .e) .e) (.h 0 [4] [] (.h 0 [5] [] (.h 0 [6] [] (.h 0 [7] [] (.h 0 [8] [] (.h 0 [9] [] (.h 0 [10] [] (.h 0 [11] [] (.h 0 [12] [] (.h 3 [13] [] .e .e) .e) .e) .e) .e) .e) .e) .e) .e) .e)) .e) .e) .e) .e) .e) .e) .e) .e) (.n (.n (.h 0 [11] [0,1,10] (.n (.h 1 [60] [0,1,10,11] (.h 1 [] [] (.h 0 [0] [] (.h 0 [1] [] (.h 0 [2] [] (.h 2 [3] [] (.h 0 [4] [] (.h 0 [5] [] (.h 0 [6] [] (.h 0 [7] [] (.h 0 [8] [] (.h 0 [9] [] (.h 0 [10] [] (.h 0 [11] [] (.h 0 [12] [] (.h 0 [13] [] (.h 0 [14] [] .e .e) .e) .e) .e) .e) .e) .e) .e) .e) .e) .e) (.h 0 [4] [] (.h 0 [5] [] (.h 0 [6] [] (.h 0 [7] [] (.h 0 [8] [] (.h 0 [9] [] (.h 0 [10] [] (.h 0 [11] [] (.h 0 [12] [] (.h 0 [13] [] (.h 3 [14] [] .e .e) .e) .e) .e) .e) .e) .e) .e) .e) .e) .e)) .e) .e) .e) .e) .e) .e) .e) .e) (.n (.n .e (.n (.n (.h 0 [0,1,2,3,4,5,6,7,8,9,10,11,12,13,14,15] [] .e .e) .e) .e)) (.n (.h 0 [0,1,2,3,4,5,6,7,8,9,10,11,12,13,14,15] [] .e .e) (.n .e (.n .e (.n (.n (.h 0 [10,11] [0,1] (.n (.n (.n (.h 0 [10] [0,1,11] (.n (.h 1 [112] [0,1,10,11] (.h 1 [] [] (.h 0 [0] [] (.h 0 [1] [] (.h 0 [2] [] (.h 2 [3] [] (.h 0 [4] [] (.h 0 [5] [] (.h 0 [6] [] (.h 0 [7] [] (.h 0 [8] [] (.h 0 [9] [] (.h 0 [10] [] (.h 0 [11] [] (.h 0 [12] [] (.h 0 [13] [] .e .e) .e) .e) .e) .e) .e) .e) .e) .e) .e) (.h 0 [4] [] (.h 0 [5] [] (.h 0 [6] [] (.h 0 [7] [] (.h 0 [8] [] (.h 0 [9] [] (.h 0 [10] [] (.h 0 [11] [] (.h 0 [12] [] (.h 3 [13] [] .e .e) .e) .e) .e) .e) .e) .e) .e) .e) .e)) .e) .e) .e) .e) .e) .e) .e) .e) (.n (.n (.h 0 [11] [0,1,10] (.n (.h 1 [129] [0,1,10,11] (.h 1 [] [] (.h 0 [0] [] (.h 0 [1] [] (.h 0 [2] [] (.h 2 [3] [] (.h 0 [4] [] (.h 0 [5] [] (.h 0 [6] [] (.h 0 [7] [] (.h 0 [8] [] (.h 0 [9] [] (.h 0 [10] [] (.h 0 [11] [] (.h 0 [12] [] (.h 0 [13] [] (.h 0 [14] [] .e .e) .e) .e) .e) .e) .e) .e) .e) .e) .e) .e) (.h 0 [4] [] (.h 0 [5] [] (.h 0 [6] [] (.h 0 [7] [] (.h 0 [8] [] (.h 0 [9] [] (.h 0 [10] [] (.h 0 [11] [] (.h 0 [12] [] (.h 0 [13] [] (.h 3 [14] [] .e .e) .e) .e) .e) .e) .e) .e) .e) .e) .e) .e)) .e) .e) .e) .e) .e) .e) .e) .e) (.n .e (.n (.h 0 [0,1,2,3,4,5,6,7,8,9,10,11,12,13,14,15] [] .e .e) .e)))) .e) .e) .e) (.n (.h 0 [0,1,2,3,4,5,6,7,8,9,10,11,12,13,14,15] [] .e .e) .e)))))))))))) func295 h zK,
 λh=>fK (hn:=(.n .e (.n .e (.n (.n .e (.n .e (.n .e (.n (.h 0 [9] [0,1,6,7,8] (.n .e (.n (.n (.n .e (.h 1 [10] [0,1,6,7,8,9] .e (.h 0 [0,1,2,3,4,5,6,7,8,9,10,11,12,13,14,15,16,17,18,19] [] .e .e))) .e) .e)) .e) .e)))) .e)))) func289 h zK,
 λh=>fK (hn:=(.n .e (.n (.n (.h 0 [0,1,2,3,4,5,6,7,8] [] .e .e) .e) .e))) func300 h zK,
 λh=>fK (hn:=.e) func298 h zK,
 λh=>fK (hn:=.e) func297 h zK,
 λh=>fK (hn:=(.n .e (.n .e (.n .e (.n .e (.n .e (.n .e (.h 1 [11] [9] (.n .e (.n (.h 1 [10,11,12] [0,9] .e .e) .e)) .e)))))))) func290 h zK,
 λh=>fK (hn:=(.n .e (.n .e (.n (.h 0 [1,2,3,8,9] [0] (.n (.n .e (.n .e (.n .e (.h 1 [3] [0,1,2,8,9,10] .e (.n .e (.h 1 [11,12] [0,1,2,3,8,9,10] .e (.h 1 [] [0,1,2,3,8,9,10,11] (.n (.h 0 [] [1] .e .e) .e) (.n (.h 1 [87] [0,1,2,3,8,9,10,11] (.h 1 [] [] (.h 0 [0] [] (.h 0 [1] [] (.h 2 [2] [] (.h 0 [3] [] (.h 0 [4] [] (.h 0 [5] [] (.h 0 [6] [] (.h 0 [7] [] (.h 0 [8] [] (.h 0 [9] [] (.h 0 [10] [] (.h 0 [11] [] (.h 0 [12] [] (.h 0 [13] [] (.h 0 [14] [] .e .e) .e) .e) .e) .e) .e) .e) .e) .e) .e) .e) .e) (.h 0 [3] [] (.h 0 [4] [] (.h 0 [5] [] (.h 0 [6] [] (.h 0 [7] [] (.h 0 [8] [] (.h 0 [9] [] (.h 0 [10] [] (.h 0 [11] [] (.h 0 [12] [] (.h 0 [13] [] (.h 3 [14] [] .e .e) .e) .e) .e) .e) .e) .e) .e) .e) .e) .e) .e)) .e) .e) .e) .e) .e)))))))) .e) .e) .e)))) func286 h zK⟩
end
section
def SXZ(T:TypeId)(kd:IntKind)(v:zV)(d:Array Int):zV->Hp->Prop:=λr C'=>r=.tuple #[]/\Da T kd v d C'
section
variable {v:zV} {d:Array Int} {C:Hp} {T:TypeId} {kd:IntKind} {zs:Srt} (ok:Li zs)
include ok in
theorem Vm(x:Int)(B:Hp):Rd zQ zs.nan #[.int kd x] B (· =.bool false):=by
 refine aF λg=>ok.nan ?_;exact ae.cK (bg.mk (.refl _) zI)
include ok in
theorem dA(x y:Int)(B:Hp):Rd zQ zs.less #[.int kd x,.int kd y] B (· =.bool (cv x y)):=by
 refine aF λg=>ok.less ?_;intro J1 hJ1;exact aa.eq (Vm ok x B) (Split.Mv rfl (aL.mk (ae.lss (aL.mk (JE.mk (hJ1 _ _ λgs=>bg.mk (.refl _) rfl))))))
include ok in
theorem yY(h:Da T kd v d C){a b:Nat}(hab:a<=b)(hb:b<=d.size)(cB:d.size<1152921504606846976):Fc zQ zs.Df #[v,iv (a:Int),iv (b:Int)] C (SXZ T kd v (Sort.insertionSort cv d a b)):=by
 refine aF λg=>ok.Df ?_;refine ae.inc (⟨λvs H=>∃(i:Nat) (e:Array Int),vs=[iv (i:Int)]/\a<i/\e.size=d.size/\Sort.insOuter cv a b i e=Sort.insertionSort cv d a b/\Da T kd v e H,λvs _=>d.size-bN vs 0,JE.mk ⟨a+1,d,rfl,by omega,rfl,rfl,h⟩,?_⟩);rintro w H ⟨i,e,hw,hi,hs,he,hd⟩ gs;simp only[xav,xaW]at hw;subst hw;rw[Sort.insOuter]at he;refine ae.fy (Br.dec (λhlt=>?_) (λhge=>?_));rotate_left
 ·rw[xac hge]at he;exact aN.here ⟨rfl,by rw[<-he];exact hd⟩
 rw[xad hlt]at he;refine⟨λvs H=>∃(j:Nat) (e:Array Int),vs=[iv (j:Int)]/\a<=j/\j<=i/\e.size=d.size/\Sort.insOuter cv a b (i+1) (Sort.insInner cv a j e)=Sort.insertionSort cv d a b/\Da T kd v e H,λvs _=>bN vs 0,JE.mk ⟨i,e,rfl,by omega,xai _,hs,he,hd⟩,?_⟩;clear hd he hs e;rintro w H ⟨j,e,hw,ZL,Zy,hs,he,hd⟩ gs;simp only[xav,xaW]at hw;subst hw;intro J hJ;have no:Sort.insInner cv a j e=e->J [.bool false] H:=λhi=>hJ _ _ λgs=>Br.no (ae.inc (aC.mk ⟨i+1,e,rfl,by omega,hs,by rw[hi]at he;exact he,hd⟩ (by simp[bN];omega)));have yes:a<j->Sort.insInner cv a j e=Sort.insInner cv a (j-1) (Sort.swp e j (j-1))->J [.bool true] H:=λZL hi=>hJ _ _ λgs=>Br.yes (DR.self (ae.cc (b:=1) (ae.cc (b:=1)
  (hd.swap .here zO zO λC' dF=>ae.cc (b:=1) (aC.mk ⟨j-1,_,rfl,by omega,by omega,iX hs,by rw[<-hi];exact he,dF⟩ (by simp[bN];omega))))))
 refine DR.self (ae.nB (Br.dec (λhgt=>?_) λhn=>JE.mk (no (Rh hn))));refine hd.ld (λ_ h=>h) zO (ae.cc (b:=1) (hd.ld (λ_ h=>h) zO λF=>?_));refine aa.eq (dA ok _ _ _) (aL.mk ?_);have hst:=Ri (e:=e) hgt;cases hl:cv e[j]! e[j-1]!
 ·rw[hl]at hst;exact JE.mk (no hst)
 rw[hl]at hst;exact JE.mk (yes hgt hst)
include ok in
theorem UY(h:Da T kd v d C){a b:Nat}(hab:a<b)(hb:b<=d.size)(cB:d.size<1152921504606846976):Fc zQ zs.rev #[v,iv (a:Int),iv (b:Int)] C (SXZ T kd v (Sort.reverseRange d a b)):=by
 refine aF λg=>ok.rev ?_;refine ae.cc (b:=1) (⟨λvs H=>∃(i j:Nat) (e:Array Int),vs=[iv (i:Int),iv (j:Int)]/\j<d.size/\e.size=d.size/\Sort.reverseLoop i j e=Sort.reverseRange d a b/\Da T kd v e H,λvs _=>bN vs 1-bN vs 0,JE.mk ⟨a,b-1,d,rfl,by omega,rfl,rfl,h⟩,?_⟩);rintro w w' H ⟨i,j,e,hw,hj,hs,he,hd⟩ gs;simp only[xav,xaW]at hw;obtain⟨rfl,rfl⟩:=hw;rw[Sort.reverseLoop]at he;refine ae.fy (Br.dec (λhlt=>?_) (λhge=>?_));rotate_left
 ·rw[xac hge]at he;exact aN.here ⟨rfl,by rw[<-he];exact hd⟩
 rw[xad hlt]at he;refine DR.self (hd.swap .here zO zO λC' dF=>?_);exact ae.inc (ae.cc (b:=1) (aC.mk ⟨i+1,j-1,_,rfl,by omega,iX hs,he,dF⟩ (by simp[bN];omega)))
include ok in
theorem QA(h:Da T kd v d C){a b:Nat}(hab:a<b)(hb:b<=d.size)(cB:d.size<1152921504606846976):Fc zQ zs.pins #[v,iv (a:Int),iv (b:Int)] C (λr C'=>r=.bool (Sort.partialInsertionSort cv d a b).2/\Da T kd v (Sort.partialInsertionSort cv d a b).1 C'):=by
 refine aF λg=>ok.pins ?_;refine ae.inc ?_;have fin:∀{e:Array Int} {t:Bool} {H:Hp},(e,t)=Sort.partialInsertionSort cv d a b->Da T kd v e H->aN (λr C'=>r=.bool (Sort.partialInsertionSort cv d a b).2/\Da T kd v (Sort.partialInsertionSort cv d a b).1 C') (.returned (.bool t)) H:=λhe hd=>by
  rw[<-he];exact aN.here ⟨rfl,hd⟩
 refine⟨λvs H=>∃(i k:Nat) (e:Array Int),vs=[iv (i:Int),iv (k:Int)]/\k<=5/\a<i/\i<=b/\e.size=d.size/\Sort.partialIns cv a b (5-k) i e=Sort.partialInsertionSort cv d a b/\Da T kd v e H,λvs _=>5-bN vs 1,JE.mk ⟨a+1,0,d,rfl,by omega,by omega,by omega,rfl,rfl,h⟩,?_⟩;rintro w w' H ⟨i0,k,e,hw,hk5,Ua,y5,hs,he,hd⟩ gs;simp only[xav,xaW]at hw;obtain⟨rfl,rfl⟩:=hw;refine ae.fy (b:=5) (Br.dec (λhk=>?_) (λhk=>?_));rotate_left
 ·obtain rfl:k=5:=by omega
  exact fin he hd
 rw[show 5-k=(5-(k+1))+1 by omega,Sort.partialIns_succ]at he;intro J9 Sh;refine⟨λvs H=>∃i:Nat,vs=[iv (i:Int)]/\a<i/\i<=b/\Sort.scanSorted cv e b i=Sort.scanSorted cv e b i0/\Da T kd v e H,λvs _=>b-bN vs 0,JE.mk ⟨i0,rfl,Ua,y5,rfl,hd⟩,?_⟩;clear hd Ua y5;rintro w H ⟨i,hw,Ua,y5,hsc,hd⟩ gs;simp only[xav,xaW]at hw;subst hw;rw[<-hsc]at he;rw[Sort.scanSorted]at hsc;intro J19 adh;have yes:i<b->(!cv e[i]! e[i-1]!)=true->J19 [.bool true] H:=λhlt hl=>adh _ _ λgs=>Br.yes (ae.inc (aC.mk ⟨i+1,rfl,by omega,by omega,by rw[<-hsc,xam hlt,hl];rfl,hd⟩ (by simp[bN];omega)));have no:Sort.scanSorted cv e b i=i->J19 [.bool false] H:=λhi=>by
  rw[hi]at he;refine adh _ _ λgs=>Br.no ?_;refine ae.eL (Br.dec (λhz=>?_) (λhne=>?_))
  ·rw[xad hz]at he;exact fin he hd
  rw[xac hne]at he;refine ae.cc (ae.fy (b:=50) (Br.dec (λhz=>?_) (λhz=>?_)))
  ·rw[xad hz]at he;exact fin he hd
  rw[xac hz]at he;refine DR.self (ae.cc (b:=1) (ae.cc (b:=1) (hd.swap .here zO zO λC1 Ph=>?_)));have uz:(Sort.swp e i (i-1)).size=d.size:=iX hs;generalize Sort.swp e i (i-1)=e1 at Ph uz he;intro J38 agX;have next:∀(f:Array Int) H',f.size=d.size->f=Sort.fixUp cv b i (Sort.fixDown cv a i e1)->Da T kd v f H'->J9 [iv (i:Int)] H':=λf H' h1 h2 dF=>Sh _ _ λgs=>ae.inc (aC.mk ⟨i,k+1,f,rfl,by omega,Ua,y5,h1,by rw[h2];exact he,dF⟩ (by simp[bN];omega))
  have tail:∀(f:Array Int) H',f.size=d.size->f=Sort.fixDown cv a i e1->Da T kd v f H'->J38 [] H':=λf H' h1 h2 dF=>by
   refine agX _ λgs=>?_;rw[<-h2]at next
   unfold Sort.fixUp at next
   refine ae.cc (ae.tJ (b:=2) (Br.dec (λh2=>?_) (λh2=>JE.mk (next f _ h1 (by rw[xac h2]) dF))));rw[xad h2]at next
   refine ae.inc (⟨λvs H=>∃(j:Nat) (q:Array Int),vs=[iv (j:Int)]/\0<j/\q.size=d.size/\Sort.shiftUp cv b j q=Sort.shiftUp cv b (i+1) f/\Da T kd v q H,λvs _=>b-bN vs 0,JE.mk ⟨i+1,f,rfl,by omega,h1,rfl,dF⟩,?_⟩);rintro w H ⟨j,q,hw,Zz,Ze,hq,FY⟩ gs;simp only[xav,xaW]at hw;subst hw;rw[Sort.shiftUp]at hq;refine ae.fy (Br.dec (λhlt=>?_) (λhge=>?_));rotate_left
   ·rw[xac hge]at hq;exact JE.mk (next q _ Ze hq FY)
   rw[xad hlt]at hq;refine DR.self (FY.ld (λ_ h=>h) zO (ae.cc (b:=1) (FY.ld (λ_ h=>h) zO (aa.eq (dA ok _ _ _) (Un.not ?_)))));cases hl:cv q[j]! q[j-1]!
   ·rw[hl]at hq;exact Br.yes (JE.mk (next q _ Ze hq FY))
   rw[hl]at hq;refine Br.no (DR.self (ae.cc (b:=1) (ae.cc (b:=1) (FY.swap .here zO zO λC2 xX=>?_))));exact ae.inc (aC.mk ⟨j+1,_,rfl,by omega,iX Ze,hq,xX⟩ (by simp[bN];omega))
  unfold Sort.fixDown at tail;refine ae.cc (ae.tJ (b:=2) (Br.dec (λh2=>?_) (λh2=>JE.mk (tail e1 _ uz (by rw[xac h2]) Ph))));rw[xad h2]at tail;refine ae.cc (b:=1) (⟨λvs H=>∃(j:Nat) (q:Array Int),vs=[iv (j:Int)]/\j<d.size/\q.size=d.size/\Sort.shiftDown cv j q=Sort.shiftDown cv (i-1) e1/\Da T kd v q H,λvs _=>bN vs 0,JE.mk ⟨i-1,e1,rfl,by omega,uz,rfl,Ph⟩,?_⟩);rintro w H ⟨j,q,hw,Zz,Ze,hq,FY⟩ gs;simp only[xav,xaW]at hw;subst hw;refine ae.tJ (b:=1) (Br.dec (λhlt=>?_) (λhge=>JE.mk (tail q _ Ze (by rw[<-hq,Nq hge]) FY)));rw[sW hlt]at hq;refine DR.self (FY.ld (λ_ h=>h) zO (ae.cc (b:=1) (FY.ld (λ_ h=>h) zO (aa.eq (dA ok _ _ _) (Un.not ?_)))));cases hl:cv q[j]! q[j-1]!
  ·rw[hl]at hq;exact Br.yes (JE.mk (tail q _ Ze hq FY))
  rw[hl]at hq;refine Br.no (DR.self (ae.cc (b:=1) (ae.cc (b:=1) (FY.swap .here zO zO λC2 xX=>?_))));exact ae.cc (b:=1) (aC.mk ⟨j-1,_,rfl,by omega,iX Ze,hq,xX⟩ (by simp[bN];omega))
 refine DR.self (ae.fy (Br.dec (λhlt=>?_) λhge=>JE.mk (no (by rw[Sort.scanSorted,xac zP]))));refine hd.ld (λ_ h=>h) zO (ae.cc (b:=1) (hd.ld (λ_ h=>h) zO λF=>?_));refine aa.eq (dA ok _ _ _) (Un.not (aL.mk ?_));cases hl:cv e[i]! e[i-1]!
 ·exact JE.mk (yes hlt (by rw[hl];rfl))
 exact JE.mk (no (by rw[Sort.scanSorted,hl,xac zI]))
include ok in
theorem Fg(h:Da T kd v d C){a b p:Nat}(hp:a<=p/\p<b)(hb:b<=d.size)(cB:d.size<1152921504606846976):Fc zQ zs.vx #[v,iv (a:Int),iv (b:Int),iv (p:Int)] C
  (λr C'=>r=iv ((Sort.partitionEqual cv d a b p).1:Nat)/\Da T kd v (Sort.partitionEqual cv d a b p).2 C'):=by
 refine aF λg=>ok.vx ?_;refine DR.self (h.swap .here zO zO λC1 hd=>?_);refine ae.inc (ae.cc (b:=1) (⟨λvs H=>∃(i j:Nat) (e:Array Int),vs=[iv (i:Int),iv (j:Int)]/\a<i/\i<=b/\a<=j/\j<b/\e.size=d.size/\Sort.partEqLoop cv a i j e=Sort.partitionEqual cv d a b p/\Da T kd v e H,λvs _=>b-bN vs 0,JE.mk ⟨a+1,b-1,_,rfl,by omega,by omega,by omega,by omega,iX rfl,rfl,hd⟩,?_⟩));clear hd;rintro w w' H0 ⟨i0,j0,e,hw,Ua,y5,ZL,hjb,hs,he,hd⟩ gs;simp only[xav,xaW]at hw;obtain⟨rfl,rfl⟩:=hw;rw[Sort.partEqLoop_eq]at he;refine⟨λvs H=>∃i:Nat,vs=[iv (i:Int)]/\i0<=i/\i<=b/\Sort.scanUp (λx=> !cv e[a]! x) e j0 i=Sort.scanUp (λx=> !cv e[a]! x) e j0 i0/\Da T kd v e H,λvs _=>b-bN vs 0,JE.mk ⟨i0,rfl,xai _,y5,rfl,hd⟩,?_⟩;clear hd y5;rintro w H ⟨i,hw,FV,y5,hsc,hd⟩ gs;simp only[xav,xaW]at hw;subst hw;rw[<-hsc]at he;rw[Sort.scanUp]at hsc;intro J23 adg;have yes:i<=j0->(!cv e[a]! e[i]!)=true->J23 [.bool true] H:=λhle hl=>adg _ _ λgs=>Br.yes (ae.inc (aC.mk ⟨i+1,rfl,by omega,by omega,by rw[<-hsc,xam hle,hl];rfl,hd⟩ (by simp[bN];omega)));have no:Sort.scanUp (λx=> !cv e[a]! x) e j0 i=i->J23 [.bool false] H:=λhi=>by
  rw[hi]at he;refine adg _ _ λgs=>Br.no ?_;refine⟨λvs H=>∃j:Nat,vs=[iv (j:Int)]/\a<=j/\j<b/\Sort.scanDown (λx=>cv e[a]! x) e i j=Sort.scanDown (λx=>cv e[a]! x) e i j0/\Da T kd v e H,λvs _=>bN vs 0,JE.mk ⟨j0,rfl,ZL,hjb,rfl,hd⟩,?_⟩;rintro w H' ⟨j,hw,agD,af5,VV,dF⟩ gs;simp only[xav,xaW]at hw;subst hw;rw[<-VV]at he;intro J33 Wo;have Ly:i<=j->cv e[a]! e[j]! =true->J33 [.bool true] H':=λhle hl=>Wo _ _ λgs=>Br.yes (ae.cc (b:=1) (aC.mk ⟨j-1,rfl,by omega,by omega,by rw[<-VV,fm (j:=j) zO,xam hle,hl];rfl,dF⟩ (by simp[bN];omega)));have Xq:Sort.scanDown (λx=>cv e[a]! x) e i j=j->J33 [.bool false] H':=λhj=>by
   rw[hj]at he;refine Wo _ _ λgs=>Br.no ?_;refine ae.nB (Br.dec (λhgt=>?_) (λhle=>?_))
   ·rw[xad hgt]at he;exact aN.here (by rw[<-he];exact⟨rfl,dF⟩)
   rw[xac hle]at he;refine DR.self (dF.swap .here zO zO λC2 xX=>?_);exact ae.inc (ae.cc (b:=1) (aC.mk ⟨i+1,j-1,_,rfl,by omega,by omega,by omega,by omega,iX hs,he,xX⟩ (by simp[bN];omega)))
  refine DR.self (ae.BB (Br.dec (λhle=>?_) λhgt=>JE.mk (Xq ?_)));rotate_left
  ·by_cases h0:j=0
   ·subst h0;rfl
   rw[fm zO,xac zP]
  refine dF.ld (λ_ h=>h) zO ?_;refine dF.ld (λ_ h=>h) zO ?_;intro F;refine aa.eq (dA ok _ _ _) (aL.mk ?_);cases hl:cv e[a]! e[j]!
  ·exact JE.mk (Xq (by rw[fm zO,hl,xac zI]))
  exact JE.mk (Ly hle hl)
 refine DR.self (ae.BB (Br.dec (λhle=>?_) λhgt=>JE.mk (no (by rw[Sort.scanUp,xac zP]))));refine hd.ld (λ_ h=>h) zO (hd.ld (λ_ h=>h) zO λF=>?_);refine aa.eq (dA ok _ _ _) (Un.not (aL.mk ?_));cases hl:cv e[a]! e[i]!
 ·exact JE.mk (yes hle (by rw[hl];rfl))
 exact JE.mk (no (by rw[Sort.scanUp,hl,xac zI]))
end
section
variable {v:zV} {d:Array Int} {C:Hp} {T:TypeId} {kd:IntKind} {zs:Srt} (ok:Li zs)
include ok in
theorem QC(h:Da T kd v d C){a b p:Nat}(hp:a<=p/\p<b)(hb:b<=d.size)(cB:d.size<1152921504606846976):Fc zQ zs.part #[v,iv (a:Int),iv (b:Int),iv (p:Int)] C
  (λr C'=>r=.tuple #[iv ((Sort.partition cv d a b p).1:Nat),.bool (Sort.partition cv d a b p).2.1]/\Da T kd v (Sort.partition cv d a b p).2.2 C'):=by
 obtain⟨R,hR⟩:∃R,R=Sort.partition cv d a b p:=⟨_,rfl⟩;rw[<-hR];refine aF λg=>ok.part ?_;refine DR.self (h.swap .here zO zO λC1 hd=>?_);have hs:(Sort.swp d a p).size=d.size:=iX rfl;have fin:∀{m:Nat} {t:Bool} {e:Array Int} {H:Hp},(m,t,e)=R->Da T kd v e H->aN (λr C'=>r=.tuple #[iv (R.1:Nat),.bool R.2.1]/\Da T kd v R.2.2 C') (.returned (.tuple #[iv (m:Int),.bool t])) H:=λhe hd=>by
  rw[<-he];exact aN.here ⟨rfl,hd⟩
 unfold Sort.partition at hR;simp only at hR;generalize Sort.swp d a p=e at hd hs hR;refine ae.inc (ae.cc (b:=1) (⟨λvs H=>∃i:Nat,vs=[iv (i:Int)]/\a<i/\i<=b/\Sort.scanUp (λx=>cv x e[a]!) e (b-1) i=Sort.scanUp (λx=>cv x e[a]!) e (b-1) (a+1)/\Da T kd v e H,λvs _=>b-bN vs 0,JE.mk ⟨a+1,rfl,by omega,by omega,rfl,hd⟩,?_⟩));clear hd;rintro w H ⟨i,hw,Ua,y5,hsc,hd⟩ gs;simp only[xav,xaW]at hw;subst hw;rw[<-hsc]at hR;rw[Sort.scanUp]at hsc;intro J17 F8;have yes:i<b->cv e[i]! e[a]! =true->J17 [.bool true] H:=λhle hl=>F8 _ _ λgs=>Br.yes (ae.inc (aC.mk ⟨i+1,rfl,by omega,by omega,by rw[<-hsc,xam (show i<=b-1 by omega),hl];rfl,hd⟩ (by simp[bN];omega)));have no:Sort.scanUp (λx=>cv x e[a]!) e (b-1) i=i->J17 [.bool false] H:=λhi=>by
  rw[hi]at hR;refine F8 _ _ λgs=>Br.no ?_;refine⟨λvs H=>∃j:Nat,vs=[iv (j:Int)]/\a<=j/\j<b/\Sort.scanDown (λx=> !cv x e[a]!) e i j=Sort.scanDown (λx=> !cv x e[a]!) e i (b-1)/\Da T kd v e H,λvs _=>bN vs 0,JE.mk ⟨b-1,rfl,by omega,by omega,rfl,hd⟩,?_⟩;clear hd;rintro w H ⟨j,hw,ZL,hjb,VV,hd⟩ gs;simp only[xav,xaW]at hw;subst hw;rw[<-VV]at hR;intro J27 ZV;have Ly:i<=j->(!cv e[j]! e[a]!)=true->J27 [.bool true] H:=λhle hl=>ZV _ _ λgs=>Br.yes (ae.cc (b:=1) (aC.mk ⟨j-1,rfl,by omega,by omega,by rw[<-VV,fm (j:=j) zO,xam hle,hl];rfl,hd⟩ (by simp[bN];omega)));have Xq:Sort.scanDown (λx=> !cv x e[a]!) e i j=j->J27 [.bool false] H:=λhj=>by
   rw[hj]at hR;refine ZV _ _ λgs=>Br.no ?_;refine ae.nB (Br.dec (λhgt=>?_) (λhle=>?_))
   ·rw[xad hgt]at hR;refine DR.self (hd.swap .here zO zO λC2 xX=>?_);exact fin hR.symm xX
   rw[xac hle]at hR;refine DR.self (hd.swap .here zO zO λC2 xX=>?_);refine ae.inc (ae.cc (b:=1) ?_);obtain⟨L,hL⟩:∃L,L=Sort.partLoop cv a (i+1) (j-1) (Sort.swp e i j):=⟨_,rfl⟩;rw[<-hL]at hR;have sK:(Sort.swp e i j).size=d.size:=iX hs;generalize Sort.swp e i j=e0 at hL xX sK;refine⟨λvs H=>∃(i j:Nat) (e:Array Int),vs=[iv (i:Int),iv (j:Int)]/\a<i/\i<=b/\a<=j/\j<b/\e.size=d.size/\L=Sort.partLoop cv a i j e/\Da T kd v e H,λvs _=>b-bN vs 0,JE.mk ⟨i+1,j-1,e0,rfl,by omega,by omega,by omega,by omega,sK,hL,xX⟩,?_⟩;clear xX hd Ua y5 ZL hjb hle Ly ZV J27 F8 J17 yes hL sK hs hsc hi VV hj;rintro w w' H0 ⟨i0,j0,e,hw,Ua,y5,ZL,hjb,hs,he,hd⟩ gs;simp only[xav,xaW]at hw;obtain⟨rfl,rfl⟩:=hw;rw[Sort.partLoop_eq]at he;refine⟨λvs H=>∃i:Nat,vs=[iv (i:Int)]/\i0<=i/\i<=b/\Sort.scanUp (λx=>cv x e[a]!) e j0 i=Sort.scanUp (λx=>cv x e[a]!) e j0 i0/\Da T kd v e H,λvs _=>b-bN vs 0,JE.mk ⟨i0,rfl,xai _,y5,rfl,hd⟩,?_⟩;clear hd y5;rintro w H ⟨i,hw,FV,y5,hsc,hd⟩ gs;simp only[xav,xaW]at hw;subst hw;rw[<-hsc]at he;rw[Sort.scanUp]at hsc;intro J64 ade;have yes:i<=j0->cv e[i]! e[a]! =true->J64 [.bool true] H:=λhle hl=>ade _ _ λgs=>Br.yes (ae.inc (aC.mk ⟨i+1,rfl,by omega,by omega,by rw[<-hsc,xam hle,hl];rfl,hd⟩ (by simp[bN];omega)));have no:Sort.scanUp (λx=>cv x e[a]!) e j0 i=i->J64 [.bool false] H:=λhi=>by
    rw[hi]at he;refine ade _ _ λgs=>Br.no ?_;refine⟨λvs H=>∃j:Nat,vs=[iv (j:Int)]/\a<=j/\j<b/\Sort.scanDown (λx=> !cv x e[a]!) e i j=Sort.scanDown (λx=> !cv x e[a]!) e i j0/\Da T kd v e H,λvs _=>bN vs 0,JE.mk ⟨j0,rfl,ZL,hjb,rfl,hd⟩,?_⟩;rintro w H' ⟨j,hw,agD,af5,VV,dF⟩ gs;simp only[xav,xaW]at hw;subst hw;rw[<-VV]at he;intro J74 adb;have Ly:i<=j->(!cv e[j]! e[a]!)=true->J74 [.bool true] H':=λhle hl=>adb _ _ λgs=>Br.yes (ae.cc (b:=1) (aC.mk ⟨j-1,rfl,by omega,by omega,by rw[<-VV,fm (j:=j) zO,xam hle,hl];rfl,dF⟩ (by simp[bN];omega)));have Xq:Sort.scanDown (λx=> !cv x e[a]!) e i j=j->J74 [.bool false] H':=λhj=>by
     rw[hj]at he;refine adb _ _ λgs=>Br.no ?_;refine ae.nB (Br.dec (λhgt=>?_) (λhle=>?_))
     ·rw[xad hgt]at he;rw[he]at hR;refine DR.self (dF.swap .here zO zO λC2 xX=>?_);exact fin hR.symm xX
     rw[xac hle]at he;refine DR.self (dF.swap .here zO zO λC2 xX=>?_);exact ae.inc (ae.cc (b:=1) (aC.mk ⟨i+1,j-1,_,rfl,by omega,by omega,by omega,by omega,iX hs,he,xX⟩ (by simp[bN];omega)))
    refine DR.self (ae.BB (Br.dec (λhle=>?_) λhgt=>JE.mk (Xq ?_)));rotate_left
    ·by_cases h0:j=0
     ·subst h0;rfl
     rw[fm zO,xac zP]
    refine dF.ld (λ_ h=>h) zO ?_;refine dF.ld (λ_ h=>h) zO ?_;intro F;refine aa.eq (dA ok _ _ _) (Un.not (aL.mk ?_));cases hl:cv e[j]! e[a]!
    ·exact JE.mk (Ly hle (by rw[hl];rfl))
    exact JE.mk (Xq (by rw[fm zO,hl,xac zI]))
   refine DR.self (ae.BB (Br.dec (λhle=>?_) λhgt=>JE.mk (no (by rw[Sort.scanUp,xac zP]))));refine hd.ld (λ_ h=>h) zO (hd.ld (λ_ h=>h) zO λF=>?_);refine aa.eq (dA ok _ _ _) (aL.mk ?_);cases hl:cv e[i]! e[a]!
   ·exact JE.mk (no (by rw[Sort.scanUp,hl,xac zI]))
   exact JE.mk (yes hle hl)
  refine DR.self (ae.BB (Br.dec (λhle=>?_) λhgt=>JE.mk (Xq ?_)));rotate_left
  ·by_cases h0:j=0
   ·subst h0;rfl
   rw[fm zO,xac zP]
  refine hd.ld (λ_ h=>h) zO (hd.ld (λ_ h=>h) zO λF=>?_);refine aa.eq (dA ok _ _ _) (Un.not (aL.mk ?_));cases hl:cv e[j]! e[a]!
  ·exact JE.mk (Ly hle (by rw[hl];rfl))
  exact JE.mk (Xq (by rw[fm zO,hl,xac zI]))
 refine DR.self (ae.BB (Br.dec (λhle=>?_) λhgt=>JE.mk (no (by rw[Sort.scanUp,xac zP]))));refine hd.ld (λ_ h=>h) zO (hd.ld (λ_ h=>h) zO λF=>?_);refine aa.eq (dA ok _ _ _) (aL.mk ?_);cases hl:cv e[i]! e[a]!
 ·exact JE.mk (no (by rw[Sort.scanUp,hl,xac zI]))
 exact JE.mk (yes zO hl)
include ok in
theorem B8(h:Da T kd v d C){lo hi f:Nat}(hlo:lo<=d.size)(hb:f+hi<=d.size)(cB:d.size<1152921504606846976):Fc zQ zs.Ma #[v,iv (lo:Int),iv (hi:Int),iv (f:Int)] C (SXZ T kd v (Sort.siftDown cv hi f lo d)):=by
 refine aF λg=>ok.Ma ?_;refine⟨λvs H=>∃(i:Nat) (e:Array Int),vs=[iv (i:Int)]/\i<=d.size/\e.size=d.size/\Sort.siftDown cv hi f i e=Sort.siftDown cv hi f lo d/\Da T kd v e H,λvs _=>d.size-bN vs 0,JE.mk ⟨lo,d,rfl,hlo,rfl,rfl,h⟩,?_⟩;rintro w H ⟨r,e,hw,hr,hs,he,hd⟩ gs;simp only[xav,xaW]at hw;subst hw;refine ae.xQ (a:=2) (ae.inc (ae.tJ (Br.dec (λhge=>?_) (λhlt=>?_))))
 ·rw[L5 hge]at he;exact aN.here ⟨rfl,by rw[<-he];exact hd⟩
 have KB:=λc=>UR (c:=c) (d:=e) (f:=f) (show 2*r+1<hi by omega);intro J9 Sh;have go:∀c:Nat,r<c->c<hi->(c=if(decide (2*r+1+1<hi) &&cv e[f+(2*r+1)]! e[f+(2*r+1)+1]!)=true then 2*r+2 else 2*r+1)->J9 [iv (c:Int)] H:=λc hrc ak6 hc=>by
  rw[KB c hc]at he;refine Sh _ _ λgs=>?_;refine DR.self (ae.fE (hd.ld (λ_ h=>h) zO (ae.fE (hd.ld (λ_ h=>h) zO (aa.eq (dA ok _ _ _) (Un.not ?_))))));cases hl:cv e[f+r]! e[f+c]!
  ·rw[hl]at he;exact Br.yes (aN.here ⟨rfl,by rw[<-he];exact hd⟩)
  rw[hl]at he;refine Br.no (DR.self (ae.fE (ae.fE (ae.fE (hd.Xl .here (i:=f+r) (j:=f+c) (B:=λk=>ae .num .add (iv (f:Int)) (iv (r:Int)) k) zO zO (λk hk=>ae.fE hk) λC1 Ph=>?_)))));exact aC.mk ⟨c,_,rfl,by omega,iX hs,he,Ph⟩ (by simp[bN];omega)
 intro J36 adf;have stay:(decide (2*r+1+1<hi) &&cv e[f+(2*r+1)]! e[f+(2*r+1)+1]!)=false->J36 [.bool false] H:=λhc=>adf _ _ λgs=>Br.no (JE.mk (go _ zO zO (by rw[hc];rfl)));refine DR.self (ae.inc (ae.fy (Br.dec (λhc=>?_) λhc=>JE.mk (stay (by rw[xal hc];rfl)))));refine ae.fE (hd.ld (λ_ h=>h) zO (ae.fE (ae.inc (hd.ld (λ_ h=>h) zO λF=>?_))));refine aa.eq (dA ok _ _ _) (aL.mk ?_);cases hl:cv e[f+(2*r+1)]! e[f+(2*r+1)+1]!
 ·exact JE.mk (stay (by rw[hl,xeh]))
 exact JE.mk (adf _ _ λgs=>Br.yes (ae.inc (JE.mk (go _ zO hc (by rw[hl,xam hc];rfl)))))
include ok in
theorem MU(h:Da T kd v d C){a b:Nat}(hab:a<b)(hb:b<=d.size)(cB:d.size<1152921504606846976):Fc zQ zs.heap #[v,iv (a:Int),iv (b:Int)] C (SXZ T kd v (Sort.heapSort cv d a b)):=by
 refine aF λg=>ok.heap ?_;obtain⟨B,hB⟩:∃B,B=Sort.heapBuild cv (b-a) a ((b-a-1) /2+1) d:=⟨_,rfl⟩;have hH:Sort.heapSort cv d a b=Sort.heapPop cv a (b-a) B:=by rw[hB];rfl
 rw[hH];refine ae.cc (ae.cc (b:=1) (ae.Gd (b:=2) (by simp[bF];omega) zO (⟨λvs H=>∃(q:Int) (e:Array Int),vs=[iv q]/\ -1<=q/\q<(b:Int) -a/\e.size=d.size/\B=Sort.heapBuild cv (b-a) a (q+1).toNat e/\Da T kd v e H,λvs _=>up1 vs,JE.mk ⟨(((b-a-1) /2:Nat):Int),d,rfl,by omega,by omega,rfl,hB,h⟩,?_⟩)));clear hB hH;rintro w H ⟨q,e,hw,VW,hq2,hs,he,hd⟩ gs;simp only[xav,xaW]at hw;subst hw;refine ae.geq (Br.dec (λh0=>?_) (λhn=>?_))
 ·obtain⟨i,rfl⟩:∃i:Nat,q=i:=⟨q.toNat,by omega⟩;rw[show((i:Int)+1).toNat=i+1 by omega,Sort.heapBuild]at he;refine aa.fq (B8 ok hd zO zO zO) ?_;rintro w C1 ⟨rfl,Ph⟩;exact ae.lH (c:=(i:Int) -1) rfl zO (aC.mk ⟨(i:Int) -1,_,rfl,by omega,by omega,by rw[JS];exact hs,by rw[show((i:Int) -1+1).toNat=i by omega];exact he,Ph⟩ (by rw[An,An];omega))
 obtain rfl:q= -1:=by omega
 have he:B=e:=he;subst he;refine ae.cc (b:=1) (⟨λvs H=>∃(q:Int) (e:Array Int),vs=[iv q]/\ -1<=q/\q<(b:Int) -a/\e.size=d.size/\Sort.heapPop cv a (q+1).toNat e=Sort.heapPop cv a (b-a) B/\Da T kd v e H,λvs _=>up1 vs,JE.mk ⟨((b-a-1:Nat):Int),B,rfl,by omega,by omega,hs,by rw[show(((b-a-1:Nat):Int)+1).toNat=b-a by omega],hd⟩,?_⟩);clear hd hs hn;rintro w H ⟨q,e,hw,VW,hq2,hs,he,hd⟩ gs;simp only[xav,xaW]at hw;subst hw;refine ae.geq (Br.dec (λh0=>?_) (λhn=>?_));rotate_left
 ·obtain rfl:q= -1:=by omega
  have he:e=Sort.heapPop cv a (b-a) B:=he;exact aN.here ⟨rfl,by rw[<-he];exact hd⟩
 obtain⟨i,rfl⟩:∃i:Nat,q=i:=⟨q.toNat,by omega⟩;rw[show((i:Int)+1).toNat=i+1 by omega,Sort.heapPop]at he;refine DR.self (ae.fE (ae.fE (hd.swap .here zO zO λC1 Ph=>?_)));have uz:(Sort.swp e a (a+i)).size=d.size:=iX hs;refine aa.fq (B8 ok Ph (lo:=0) zO zO zO) ?_;rintro w C2 ⟨rfl,xX⟩;exact ae.lH (c:=(i:Int) -1) rfl zO (aC.mk ⟨(i:Int) -1,_,rfl,by omega,by omega,by rw[JS];exact uz,by rw[show((i:Int) -1+1).toNat=i by omega];exact he,xX⟩ (by rw[An,An];omega))
end
section
variable {v:zV} {d:Array Int} {C:Hp} {T:TypeId} {kd:IntKind} {zs:Srt} (ok:Li zs)
theorem xlt{a b:Nat}(ha:a<18446744073709551616)(hb:b<18446744073709551616):a^^^b<18446744073709551616:=Nat.xor_lt_two_pow (n:=64) ha hb
theorem Pw(b x:Nat)(hx:x<18446744073709551616):Fc zQ 208 #[ptr b] [(b,.cells #[.int .u64 (x:Int)] 276 zZ)]
  (λr H=>∃y:Nat,y<18446744073709551616/\r=.int .u64 (y:Int)/\H=[(b,.cells #[.int .u64 (y:Int)] 276 zZ)]):=by
 refine aF λg=>HX (DR.self (Nil.ptr (Ld.q ?_)));refine Nil.ptr (Ld.q ?_);refine ae.nP (b:=13) (ae.Yi hx (xbC _ zD) ?_);have h1:=xlt hx (xbC (x<<<13) (show 0<18446744073709551616 by decide));generalize x^^^x<<<13%18446744073709551616=x1 at h1;refine Nil.ptr (St.one (by exact .head _) rfl zI rfl ?_);refine DR.self (Nil.ptr (Ld.q ?_));refine Nil.ptr (Ld.q ?_);refine ae.iI (b:=7) h1 ?_;have h2:x1>>>7<18446744073709551616:=by rw[xa0];omega
 refine ae.Yi h1 h2 ?_;have h3:=xlt h1 h2;generalize x1^^^x1>>>7=x2 at h3;refine Nil.ptr (St.one (by exact .head _) rfl zI rfl ?_);refine DR.self (Nil.ptr (Ld.q ?_));refine Nil.ptr (Ld.q ?_);refine ae.nP (b:=17) (ae.Yi h3 (xbC _ zD) ?_);have h4:=xlt h3 (xbC (x2<<<17) (show 0<18446744073709551616 by decide));generalize x2^^^x2<<<17%18446744073709551616=x3 at h4;refine Nil.ptr (St.one (by exact .head _) rfl zI rfl ?_);refine Nil.ptr (Ld.q ?_);exact aN.here ⟨x3,h4,rfl,rfl⟩
theorem K8{x:Nat}(hx:x<18446744073709551616)(B:Hp):Rd zQ 97 #[.int .u64 (x:Int)] B (λv=>∃r:Nat,Ai x r/\v=iv (r:Int)):=by
 refine aF λg=>NZ (Br.no (aa.rq (QZ hx B) ?_));rintro w hw;exact bg.mk (.refl _) hw
theorem Vh{x:Nat}(h0:0<x)(hx:x<1152921504606846976)(B:Hp):Rd zQ 207 #[iv (x:Int)] B (λv=>∃r:Nat,0<r/\r<=2*x/\v=.int .u64 (r:Int)):=by
 refine aF λg=>HY (br.q (aa.rq (K8 zO B) ?_));rintro w ⟨r,hr,rfl⟩;have Rx:0<r:=by
  rcases Nat.eq_zero_or_pos r with e|e
  ·subst e;have:=hr.1;omega
  exact e
 have h2:2^(r-1)<=x:=by
  rcases hr.2 with e|e
  ·omega
  exact e
 have h3:2^r=2*2^(r-1):=by
  obtain⟨k,rfl⟩:∃k,r=k+1:=⟨r-1,by omega⟩;rw[xb4,xd7];omega
 refine ae.nP (a:=1) ?_;have e:1<<<r%18446744073709551616=2^r:=by
  rw[xck,xdl];exact xbk zO
 rw[e];exact bg.mk (.refl _) ⟨2^r,xbv r,by omega,rfl⟩
include ok in
theorem WN(h:Da T kd v d C){a b:Nat}(hab:a<b)(hb:b<=d.size)(cB:d.size<1152921504606846976):Fc zQ zs.brk #[v,iv (a:Int),iv (b:Int)] C (λr C'=>r=.tuple #[]/\∃e,Sort.PermIn a b d e/\Da T kd v e C'):=by
 refine aF λg=>ok.brk ?_;refine ae.cc (ae.tJ (b:=8) (Br.dec (λh8=>?_) (λ_=>aN.here ⟨rfl,d,Sort.permIn_refl _ _ _,h⟩)));refine br.q λb4 _=>(St.one (by exact .head _) rfl zI rfl ?_);refine aa.rq (Vh zO zO C) ?_;rintro w ⟨m,hm0,hm,rfl⟩;refine ae.Gd (b:=4) (by simp[bF];omega) zO (ae.xQ (b:=2) (ae.fE (ae.cc (b:=1) ?_)));refine⟨λvs H=>∃(i x:Nat) (C':Hp) (e:Array Int),vs=[iv (i:Int)]/\a<=i/\x<18446744073709551616/\H=(b4,.cells #[.int .u64 (x:Int)] 276 zZ)::C'/\Sort.PermIn a b d e/\Da T kd v e C',λvs _=>b-bN vs 0,
  JE.mk ⟨_,b-a,C,d,rfl,by omega,by omega,rfl,Sort.permIn_refl _ _ _,h⟩,?_⟩
 rintro w H ⟨i,x,C',e,hw,Ua,hx,rfl,hp,hd⟩ gs;simp only[xav,xaW]at hw;subst hw;have hs:=hp.1;refine ae.Gd (b:=4) (by simp[bF];omega) zO (ae.xQ (b:=2) (ae.fE (ae.inc (ae.BB (Br.dec (λhle=>?_) (λ_=>aN.mk .tail ⟨rfl,e,hp,hd⟩))))));refine aa.fn (.left (A:=C')) (Pw b4 x hx) ?_;rintro w H' ⟨y,hy,rfl,rfl⟩;refine ae.cc (b:=1) (ae.jD (by simp[bF];omega) (by simp[bF];omega) ?_);have hand:y&&& (m-1)<m:=by have:=xc7 (n:=y) (m:=m-1);omega
 generalize y&&& (m-1)=z at hand;refine br.q λJ28 ag0=>?_;have go:∀o:Nat,o<b-a->J28 [iv (o:Int)] ([(b4,Obj.cells #[.int .u64 (y:Int)] 276 zZ)]++C'):=λo ho=>by
  refine ag0 _ _ λgs=>?_;refine DR.self (ae.fE (ae.fE (hd.swap (.cons .here) zO zO λC1 Ph=>?_)));exact ae.inc (aC.mk ⟨i+1,y,C1,_,rfl,by omega,hy,rfl,Sort.permIn_trans _ _ _ _ _ hp (Sort.swp_permIn _ a b i (a+o) Ua zO zO zO zO),Ph⟩ (by simp[bN];omega))
 refine ae.tJ (Br.dec (λhge=>?_) (λhlt=>JE.mk (go z zO)));exact ae.cc (JE.mk (go _ zO))
def OQZ(b:Nat)(C:Hp)(i j:Nat):zV->Hp->Prop:=λr H=>(r=.tuple #[iv (i:Int),iv (j:Int)]\/r=.tuple #[iv (j:Int),iv (i:Int)])/\∃z:Int,H=(b,.cells #[iv z] 3 zZ)::C
include ok in
theorem vA(h:Da T kd v d C){b:Nat}{z:Int}{i j:Nat}(hi:i<d.size)(hj:j<d.size):
  Fc zQ zs.Fi #[v,iv (i:Int),iv (j:Int),ptr b] ((b,.cells #[iv z] 3 zZ)::C) (OQZ b C i j):=by
 refine aF λg=>ok.Fi ?_;refine DR.self (h.ld (λ_ h=>.tail _ h) hj (h.ld (λ_ h=>.tail _ h) hi (aa.eq (dA ok _ _ _) (Br.mk (λ_=>?_) (λ_=>aN.here ⟨.inl rfl,z,rfl⟩)))));refine Nil.ptr (Ld.q ?_);refine ae.add (Nil.ptr (St.one (by exact .head _) rfl zI rfl ?_));exact aN.here ⟨.inr rfl,_,rfl⟩
def MQZ(b:Nat)(C:Hp)(p:Nat->Prop):zV->Hp->Prop:=λr H=>(∃m:Nat,r=iv (m:Int)/\p m)/\∃z:Int,H=(b,.cells #[iv z] 3 zZ)::C
include ok in
theorem Kr(h:Da T kd v d C){b:Nat}{z:Int}{i j k:Nat}(hi:i<d.size)(hj:j<d.size)(hk:k<d.size):
  Fc zQ zs.med #[v,iv (i:Int),iv (j:Int),iv (k:Int),ptr b] ((b,.cells #[iv z] 3 zZ)::C) (MQZ b C λm=>m=i\/m=j\/m=k):=by
 refine aF λg=>ok.med ?_;refine aa.fq (vA ok h hi hj) ?_;rintro w H ⟨hw,z1,rfl⟩;obtain⟨i1,j1,rfl,hij⟩:∃i1 j1:Nat,w=.tuple #[iv (i1:Int),iv (j1:Int)]/\((i1=i/\j1=j)\/(i1=j/\j1=i)):=by
  rcases hw with rfl|rfl
  ·exact⟨i,j,rfl,.inl ⟨rfl,rfl⟩⟩
  exact⟨j,i,rfl,.inr ⟨rfl,rfl⟩⟩
 refine Ext.two (aa.fq (vA ok h (i:=j1) (j:=k) zO hk) ?_);rintro w H ⟨hw,z2,rfl⟩;obtain⟨j2,k2,rfl,V8⟩:∃j2 k2:Nat,w=.tuple #[iv (j2:Int),iv (k2:Int)]/\((j2=j1/\k2=k)\/(j2=k/\k2=j1)):=by
  rcases hw with rfl|rfl
  ·exact⟨_,_,rfl,.inl ⟨rfl,rfl⟩⟩
  exact⟨_,_,rfl,.inr ⟨rfl,rfl⟩⟩
 refine Ext.two (aa.fq (vA ok h (i:=i1) (j:=j2) zO zO) ?_);rintro w H ⟨hw,z3,rfl⟩;rcases hw with rfl|rfl
 ·exact Ext.mk rfl (Ext.mk rfl (aN.here ⟨⟨_,rfl,by omega⟩,_,rfl⟩))
 exact Ext.mk rfl (Ext.mk rfl (aN.here ⟨⟨_,rfl,by omega⟩,_,rfl⟩))
include ok in
theorem vJ(h:Da T kd v d C){b:Nat}{z:Int}{i:Nat}(h0:0<i)(hi:i+1<d.size)(cB:d.size<1152921504606846976):
  Fc zQ zs.Fq #[v,iv (i:Int),ptr b] ((b,.cells #[iv z] 3 zZ)::C) (MQZ b C λm=>i<=m+1/\m<=i+1):=by
 refine aF λg=>ok.Fq ?_;refine ae.cc (b:=1) (ae.inc (aa.fq (Kr ok h zO zO hi) ?_));rintro w H ⟨⟨m,rfl,hm⟩,z',rfl⟩;exact aN.here ⟨⟨m,rfl,by omega⟩,z',rfl⟩
include ok in
theorem Vb(h:Da T kd v d C){a b:Nat}(hab:a<b)(hb:b<=d.size)(cB:d.size<1152921504606846976):
  Rd zQ zs.piv #[v,iv (a:Int),iv (b:Int)] C (λr=>∃(p:Nat) (q:Int),r=.tuple #[iv (p:Int),iv q]/\a<=p/\p<b):=by
 refine aF λg=>ok.piv ?_;refine ae.cc λb2 _=>(ae.Gd (b:=4) (by simp[bF];omega) zO (ae.xQ (b:=1) (ae.fE (ae.Gd (b:=4) (by simp[bF];omega) zO (ae.xQ (b:=2) (ae.fE (ae.Gd (b:=4) (by simp[bF];omega) zO (ae.xQ (b:=3) (ae.fE ?_)))))))));intro J13 ag3;have fin:∀(p:Nat) (z:Int),a<=p->p<b->J13 [iv (p:Int)] ((b2,.cells #[iv z] 3 zZ)::C):=λp z uA mT=>by
  refine ag3 _ _ λgs=>?_;refine Ld.q ?_;refine ae.ia (Br.dec (λ_=>bg.mk .tail ⟨p,_,rfl,uA,mT⟩) (λ_=>?_));exact ae.ia (Br.dec (λ_=>bg.mk .tail ⟨p,_,rfl,uA,mT⟩) (λ_=>bg.mk .tail ⟨p,_,rfl,uA,mT⟩))
 refine ae.tJ (b:=8) (Br.dec (λh8=>?_) (λ_=>JE.mk (fin _ _ zO zO)));intro J21 ag2;have three:∀(x y u:Nat) (z:Int),a<=x/\x<b->a<=y/\y<b->a<=u/\u<b->J21 [iv (x:Int),iv (y:Int),iv (u:Int)] ((b2,.cells #[iv z] 3 zZ)::C):=λx y u z hx hy hu=>by
  refine ag2 _ _ _ _ λgs=>?_;refine aa.fq (Kr ok h zO zO zO) ?_;rintro w H ⟨⟨m,rfl,hm⟩,z',rfl⟩;exact JE.mk (fin _ _ zO zO)
 refine ae.tJ (b:=50) (Br.dec (λh50=>?_) (λ_=>JE.mk (three _ _ _ _ zO zO zO)));refine aa.fq (vJ ok h zO zO cB) ?_;rintro w H ⟨⟨m1,rfl,xH⟩,z1,rfl⟩;refine aa.fq (vJ ok h zO zO cB) ?_;rintro w H ⟨⟨m2,rfl,nh⟩,z2,rfl⟩;refine aa.fq (vJ ok h zO zO cB) ?_;rintro w H ⟨⟨m3,rfl,hm3⟩,z3,rfl⟩;exact JE.mk (three _ _ _ _ zO zO zO)
def PSZ(T:TypeId)(kd:IntKind)(v:zV)(d:Array Int)(a b:Nat):zV->Hp->Prop:=λr C'=>r=.tuple #[]/\∃e,(Sort.PermIn a b d e/\Sort.SortedIn cv a b e)/\Da T kd v e C'
include ok in
theorem Vc:∀(N:Nat) {C:Hp} {d:Array Int} (h:Da T kd v d C) {a b:Nat} (hN:b-a<=N) (hab:a<=b) (hb:b<=d.size) (cB:d.size<1152921504606846976) (hB:Sort.Below cv a b d) (z:Int),Fc zQ zs.YE #[v,iv (a:Int),iv (b:Int),iv z] C (PSZ T kd v d a b):=by
 intro N;induction N with
 |zero=>
  intro C d h a b hN hab hb cB hB z g;refine ok.YE (R:=aN _) ?_;unfold L9014;refine⟨λvs H=>vs=[iv (a:Int),iv (b:Int),iv z,.bool true,.bool true]/\H=C,λ_ _=>0,JE.mk ⟨rfl,rfl⟩,?_⟩;rintro w1 w2 w3 w4 w5 H ⟨hw,rfl⟩ gs;simp only[xav,xaW]at hw;obtain⟨rfl,rfl,rfl,rfl,rfl⟩:=hw;refine ae.cc (ae.BB (b:=12) (Br.T (aa.fq (yY ok h hab hb cB) ?_)));rintro w C' ⟨rfl,hd⟩;exact aN.here ⟨rfl,_,Sort.insertionSort_holds Sort.swo_ltInt d a b hab hb,hd⟩
 |succ N ih=>
  intro C d h a b hN hab hb cB hB z g;refine ok.YE (R:=aN _) ?_;unfold L9014;obtain⟨G,hG⟩:∃G:Array Int->Prop,G=λR=>Sort.PermIn a b d R/\Sort.SortedIn cv a b R:=⟨_,rfl⟩;have fin:∀{R:Array Int} {H:Hp},G R->Da T kd v R H->aN (PSZ T kd v d a b) (.returned (.tuple #[])) H:=λhR hd=>by
   subst hG;exact aN.here ⟨rfl,_,hR,hd⟩
  refine⟨λvs H=>∃(a b:Nat) (z:Int) (t1 t2:Bool) (e:Array Int),vs=[iv (a:Int),iv (b:Int),iv z,.bool t1,.bool t2]/\b-a<=N+1/\a<=b/\b<=e.size/\e.size=d.size/\Sort.Below cv a b e/\(∀R,Sort.PermIn a b e R->Sort.SortedIn cv a b R->G R)/\Da T kd v e H,λvs _=>bN vs 1-bN vs 0,
   JE.mk ⟨a,b,z,true,true,d,rfl,hN,hab,hb,rfl,hB,by subst hG;exact λR h1 h2=>⟨h1,h2⟩,h⟩,?_⟩
  clear h hN hab hb hB hG;rintro w1 w2 w3 w4 w5 H ⟨a,b,z,t1,t2,e,hw,hN,hab,hb,hs,hB,KB,h⟩ gs;simp only[xav,xaW]at hw;obtain⟨rfl,rfl,rfl,rfl,rfl⟩:=hw;refine ae.cc (ae.BB (b:=12) (Br.dec (λNc=>?_) (λNc=>?_)))
  ·refine aa.fq (yY ok h hab hb zO) ?_;rintro w C' ⟨rfl,hd⟩;obtain⟨q1,q2⟩:=Sort.insertionSort_holds Sort.swo_ltInt e a b hab hb;exact fin (KB _ q1 q2) hd
  refine ae.ia (Br.dec (λ_=>?_) (λ_=>?_))
  ·refine aa.fq (MU ok h zO hb zO) ?_;rintro w C' ⟨rfl,hd⟩;obtain⟨q1,q2⟩:=Sort.heapSort_holds Sort.swo_ltInt e a b hab hb;exact fin (KB _ q1 q2) hd
  intro J17 F8;have k17:∀(z1:Int) H1 e1,Sort.PermIn a b e e1->Da T kd v e1 H1->J17 [iv z1] H1:=λz1 H1 e1 p1 h1=>by
   have uz:=p1.1;refine F8 _ _ λgs=>?_;refine aa.rq (Vb ok h1 (a:=a) (b:=b) zO zO zO) ?_;rintro w ⟨p,q,rfl,uA,mT⟩;refine Ext.two λJ25 ag1=>?_;have k25:∀(p:Nat) (q:Int) H2 e2,a<=p->p<b->Sort.PermIn a b e e2->Da T kd v e2 H2->J25 [iv (p:Int),iv q] H2:=λp q H2 e2 uA mT p2 h2=>by
    have sK:=p2.1;refine ag1 _ _ _ λgs=>?_;intro J30 agZ;have k30:∀H3 e3,Sort.PermIn a b e e3->Da T kd v e3 H3->J30 [] H3:=λH3 e3 p3 h3=>by
     have hs3:=p3.1;have hB3:=hB.perm hb p3;have R4:b<=e3.size:=by omega
     refine agZ _ λgs=>?_;intro J33 Wo;have k33:∀(t:Bool),(t=true->0<a/\cv e3[a-1]! e3[p]! =false)->J33 [.bool t] H3:=λt ht=>by
      refine Wo _ _ λgs=>?_;refine Br.mk (λet=>?_) (λ_=>?_)
      ·obtain⟨ha0,hnl⟩:=ht et;refine aa.fq (Fg ok h3 ⟨uA,mT⟩ R4 zO) ?_;rintro w C' ⟨rfl,hd⟩;obtain⟨g1,g2,g3,g4,g5⟩:=Sort.round_eq Sort.swo_ltInt (Sort.partitionEqual_holds cv) ha0 uA mT R4 hB3 hnl (mid:=(Sort.partitionEqual cv e3 a b p).1) (d4:=(Sort.partitionEqual cv e3 a b p).2) rfl;generalize (Sort.partitionEqual cv e3 a b p).1=m at*;generalize (Sort.partitionEqual cv e3 a b p).2=e4 at*;exact aC.mk ⟨m,b,z1,t1,t2,e4,rfl,by omega,by omega,by omega,by omega,g4,λR r1 r2=>by
        obtain⟨q1,q2⟩:=g5 R r1 r2;exact KB R (Sort.permIn_trans _ _ _ _ _ p3 q1) q2,hd⟩ (by simp[bN];omega)
      refine aa.fq (QC ok h3 ⟨uA,mT⟩ R4 zO) ?_;rintro w C' ⟨rfl,hd⟩;obtain⟨g1,g2,g3,g4,g5,g6,g7⟩:=Sort.round_part Sort.swo_ltInt (Sort.partition_holds cv) uA mT R4 hB3 (mid:=(Sort.partition cv e3 a b p).1) (ap:=(Sort.partition cv e3 a b p).2.1) (d4:=(Sort.partition cv e3 a b p).2.2) rfl;generalize (Sort.partition cv e3 a b p).1=m at*;generalize (Sort.partition cv e3 a b p).2.1=t at*;generalize (Sort.partition cv e3 a b p).2.2=e4 at*;refine Ext.two (ae.cc (ae.cc (ae.Gd (b:=8) (by simp[bF];omega) zO (ae.fy (Br.dec (λ_=>?_) (λ_=>?_))))))
      ·refine ae.tJ (aa.fq (ih hd (a:=a) (b:=m) zO zO zO zO g4 z1) ?_);rintro w C' ⟨rfl,e5,⟨l1,l2⟩,dF⟩;obtain⟨hBL,g8⟩:=g6 _ l1 l2;have hs5:=l1.1;refine ae.inc ?_;exact aC.mk ⟨m+1,b,z1,_,t,e5,rfl,by omega,by omega,by omega,by omega,hBL,λR r1 r2=>by
        obtain⟨q1,q2⟩:=g8 R r1 r2;exact KB R (Sort.permIn_trans _ _ _ _ _ p3 q1) q2,dF⟩ (by simp[bN];omega)
      refine ae.tJ (ae.inc (aa.fq (ih hd (a:=m+1) (b:=b) zO zO zO zO g5 z1) ?_));rintro w C' ⟨rfl,e5,⟨l1,l2⟩,dF⟩;obtain⟨hBL,g8⟩:=g7 _ l1 l2;have hs5:=l1.1;exact aC.mk ⟨a,m,z1,_,t,e5,rfl,by omega,by omega,by omega,by omega,hBL,λR r1 r2=>by
       obtain⟨q1,q2⟩:=g8 R r1 r2;exact KB R (Sort.permIn_trans _ _ _ _ _ p3 q1) q2,dF⟩ (by simp[bN];omega)
     refine DR.self (ae.nB (b:=0) (Br.dec (λh0=>?_) (λ_=>JE.mk (k33 false nofun))));refine ae.cc (b:=1) (h3.ld (λ_ h=>h) zO (h3.ld (λ_ h=>h) zO λF=>?_));exact aa.eq (dA ok _ _ _) (Un.not (aL.mk (JE.mk (k33 _ λht=>⟨h0,by simpa using ht⟩))))
    refine c6.and t2 (λ_=>⟨rfl,rfl⟩) rfl λgs=>?_;refine c6.and (decide (q=1)) (λ_=>ae.ia ⟨rfl,rfl⟩) rfl λgs=>?_;refine Br.mk (λ_=>?_) (λ_=>JE.mk (k30 _ _ p2 h2));refine aa.fq (QA ok h2 zO (show b<=e2.size by omega) zO) ?_;rintro w C' ⟨rfl,hd⟩;obtain⟨q1,q2⟩:=Sort.partialInsertionSort_holds Sort.swo_ltInt e2 a b zO zO (hB.perm hb p2);exact Br.mk (λet=>fin (KB _ (Sort.permIn_trans _ _ _ _ _ p2 q1) (q2 et)) hd) (λ_=>JE.mk (k30 _ _ (Sort.permIn_trans _ _ _ _ _ p2 q1) hd))
   refine ae.ia (Br.dec (λ_=>?_) (λ_=>JE.mk (k25 p q _ _ uA mT p1 h1)));refine aa.fq (UY ok h1 (a:=a) (b:=b) zO zO zO) ?_;rintro w C' ⟨rfl,hd⟩;exact ae.cc (b:=1) (ae.cc (ae.cc (JE.mk (k25 _ _ _ _ zO zO (Sort.permIn_trans _ _ _ _ _ p1 (Sort.reverseRange_holds e1 a b hab zO)) hd))))
  refine Un.not (Br.mk (λ_=>?_) (λ_=>JE.mk (k17 _ _ _ (Sort.permIn_refl _ _ _) h)));refine aa.fq (WN ok h (a:=a) (b:=b) zO hb zO) ?_;rintro w C' ⟨rfl,e1,p1,hd⟩;exact ae.sub (JE.mk (k17 _ _ _ p1 hd))
end
def P7(l:List Int):List Int:=l.mergeSort λx y=>decide (x<=y)
theorem Yt{d e:Array Int}(h1:Sort.PermIn 0 d.size d e)(h2:Sort.SortedIn cv 0 d.size e):e.toList=P7 d.toList:=by
 rw[Sort.sorted_unique_holds Sort.swo_ltInt (λx y h1 h2=>by simp[Sort.ltInt]at h1 h2;omega) d e h1 h2];unfold P7;congr 1
 funext x y
 show(!decide (y<x))=decide (x<=y);rw[xbE];simp
def Yu(l:zL):zL:=l.mergeSort λx y=>decide (x<=y)
theorem ym(l:zL):(Yu l).Perm l:=List.mergeSort_perm _ _
theorem UJ(l:zL):(Yu l).Pairwise λx y=>x<=y:=
 (List.pairwise_mergeSort (le:=λx y:Nat=>decide (x<=y)) (λa b c h1 h2=>by simp only[xaK]at*;omega) (λa b=>by simp only[xbs,xaK];omega) l).imp λh=>xb8 h
theorem UI(l:zL):P7 (iw l)=iw (Yu l):=by
 refine List.Perm.eq_of_pairwise (le:=λx y:Int=>x<=y) (λa b _ _ h1 h2=>Int.le_antisymm h1 h2) ?_ ?_ ((List.mergeSort_perm _ _).trans ((ym l).map _).symm)
 ·exact(List.pairwise_mergeSort (le:=λx y:Int=>decide (x<=y)) (λa b c h1 h2=>by simp only[xaK]at*;omega) (λa b=>by simp only[xbs,xaK];omega) _).imp λh=>xb8 h
 exact xbI.2 ((UJ l).imp λh=>by omega)
theorem UK{v:zV}{C:Hp}{l:List Int}(h:aT 78 .u32 v l C)(cB:l.length<1152921504606846976):Fc zQ 282 #[v] C (λr C'=>r=.tuple #[]/\aT 78 .u32 v (P7 l) C'):=by
 refine aF λg=>GI (h.bX ?_);refine br.q (aa.rq (K8 zO C) ?_);rintro w ⟨r,_,rfl⟩;have hd:Da 78 .u32 v l.toArray C:=h;refine aa.fn .here (Vc abd l.length hd (a:=0) (b:=l.length) zO zO zI (by simpa using cB) (.inl rfl) _) ?_;rintro w C' ⟨rfl,e,⟨h1,h2⟩,dF⟩;have he:=Yt (d:=l.toArray) (by simpa using h1) (by simpa using h2);exact aN.here ⟨rfl,by rw[show P7 l=e.toList from he.symm];exact dF⟩
end
end Go.Proofs
namespace Go.Sx
open Go
section
variable {P:Program} {g:Gh} {F:Fence} {n:Nat} {ops:Array Oper} {Q:Exit->Act->World->Prop} {rest:List Oper} {o:Oper} {a:Act} {fr:Fr} {w:World} {H:Hp}
abbrev En(ds:List Deferred)(n:Nat)(a:Act)(fr:Fr):Prop:=cz ds n a fr
variable {ds:List Deferred}
theorem En.put(h:En ds n a fr){d:Option Nat}(hd:eu n d=true)(v:zV):En ds n (a.put d v) (bK fr d v):=cz.put h hd v
theorem jS{v0:zV}(hF:∀f,F.fn f)(hg:o.guard=none)(fA:∀c,o.op≠.defer c)(hd:eu n o.dst=true)(ha:En ds n a fr)(hw:Own g H w)(h:Eu P g o (ev fr) H (· =v0))
 (k:∀a',En ds n a' (bK fr o.dst v0)->wpListIn F 0 P ops Q rest a' w):wpListIn F 0 P ops Q (o::rest) a w:=by
 refine wpListIn_plain hg λK hK=>⟨λf _=>hF f,?_⟩;rw[Oper.semAt_eq _ _ _ fA,ha.eval];obtain⟨v,hv,hr,_⟩:=oY h;rw[hr w hw];subst hv;exact hK _ _ (k _ (ha.put hd _))
theorem JP{s:Sem zV}{K:zV->Hp->Prop}(hF:∀f,F.fn f)(hg:o.guard=none)(fA:∀c,o.op≠.defer c)(hd:eu n o.dst=true)(ha:En ds n a fr)(he:execOp (ev fr) o=(do pure (.value (<-s))))
 (h:∃v w' H',s.run P w=.ok v w'/\Own g H' w'/\K v H')
 (k:∀v H' w' a',K v H'->Own g H' w'->En ds n a' (bK fr o.dst v)->wpListIn F 0 P ops Q rest a' w'):wpListIn F 0 P ops Q (o::rest) a w:=by
 refine wpListIn_plain hg λK hK=>⟨λf _=>hF f,?_⟩;rw[Oper.semAt_eq _ _ _ fA,ha.eval,he];obtain⟨v,w',H',hr,ho,hk⟩:=h;simp only[Sem.run_bind,hr,Result.andThen_ok,Sem.run_pure];exact hK _ _ (k v H' w' _ hk ho (ha.put hd _))
theorem P2{s:Sem zV}{K:zV->Hp->Prop}(hF:∀f,F.fn f)(hg:o.guard=none)(fA:∀c,o.op≠.defer c)(hd:eu n o.dst=true)(ha:En ds n a fr)(hw:Own g H w)(he:execOp (ev fr) o=(do pure (.value (<-s))))
 (h:TW P g o (ev fr) H K (λ_ _=>False))
 (k:∀v H' w' a',K v H'->Own g H' w'->En ds n a' (bK fr o.dst v)->wpListIn F 0 P ops Q rest a' w'):wpListIn F 0 P ops Q (o::rest) a w:=by
 have h1:=vB (pn fr) h w hw;rw[he]at h1;refine JP (g:=g) (K:=K) hF hg fA hd ha he ?_ k;cases hs:s.run P w with
 |ok v w'=>
  simp only[Sem.run_bind,hs,Result.andThen_ok,Sem.run_pure,oI]at h1;obtain⟨H',ho,hk⟩:=h1;exact⟨v,w',H',rfl,ho,hk⟩
 |halt x w'=>
  simp only[Sem.run_bind,hs,Result.andThen]at h1;cases x<;>simp only[oI]at h1;obtain⟨_,_,hk⟩:=h1;exact hk.elim
theorem abi{s:Sem Unit}{K:zV->Hp->Prop}(hF:∀f,F.fn f)(hg:o.guard=none)(fA:∀c,o.op≠.defer c)(hd:eu n o.dst=true)(ha:En ds n a fr)(hw:Own g H w)(he:execOp (ev fr) o=(do s;pure .skip))
 (h:TW P g o (ev fr) H K (λ_ _=>False))
 (k:∀H' w' a',K undef H'->Own g H' w'->En ds n a' (bK fr o.dst undef)->wpListIn F 0 P ops Q rest a' w'):wpListIn F 0 P ops Q (o::rest) a w:=by
 have h1:=vB (pn fr) h w hw;rw[he]at h1;refine wpListIn_plain hg λK hK=>⟨λf _=>hF f,?_⟩;rw[Oper.semAt_eq _ _ _ fA,ha.eval,he];cases hs:s.run P w with
 |ok v w'=>
  simp only[Sem.run_bind,hs,Result.andThen_ok,Sem.run_pure,oI]at h1⊢;obtain⟨H',ho,hk⟩:=h1;exact hK _ _ (k H' w' _ hk ho (ha.put hd _))
 |halt x w'=>
  simp only[Sem.run_bind,hs,Result.andThen]at h1;cases x<;>simp only[oI]at h1;obtain⟨_,_,hk⟩:=h1;exact hk.elim
theorem wV{m:Nat}{args:List zV}(hl:args.length<=m):En [] m {tmps:=args.toArray++Array.replicate (m-args.toArray.size) undef,defers:=[]} (jZ args 0):=by
 refine⟨rfl,by simp;omega,λs=>?_⟩;rw[mR,xas,xdX];simp only[xcY,xcF,xa1,xc5];by_cases hs:s<args.length
 ·simp[hs,List.getD]
 rw[xac hs,xc3];have:args.getD s undef=undef:=by simp[List.getD,xaB (xc6 hs)]
 rw[this];split<;>rfl
theorem Own.putObj{g:Gh}{H H':Hp}{w:World}{b:Nat}{o o':Obj}(h:Own g H w)(u:cZ b o o' H H'):Own g H' (w.putObj b o'):=by
 have hb:=h.lt u.mem;exact h.bK u rfl rfl rfl (World.putObj_heap_same hb) λc hc=>World.putObj_heap_other hc
def Lq{α:Type}(P:Program)(f:FuncId)(cap:Array zV)(B:Hp)(enc:α->zV)(N:Nat)(S:List α->Prop):Prop:=
 ∀(g:Gh) (l:Nat) (G:List α->Hp->Prop),
  (∀ss x A X W,G ss A->ss.length<N->Own g (A++X) W->YieldAt Fence.wide 0 P l #[enc x] W (λe W'=>e=.returned (.bool true)/\∃A',G (ss++[x]) A'/\Own g (A'++X) W'))->
  ∀A W,G [] A->Own g (A++B) W->CallsIn Fence.wide 0 P f (#[.func (.yield l) #[] #[]]++cap) W (λe W'=>(∃v,e=.returned v)/\∃ss A',S ss/\G ss A'/\Own g (A'++B) W')
open Classical in
noncomputable def rA(p:Nat->Prop):Nat:=if h:∃k,p k then Classical.choose (l5 h)else 0
theorem Fx{p:Nat->Prop}{k:Nat}(h:p k):rA p<=k:=by
 unfold rA;rw[xd1 ⟨k,h⟩];exact(xcf (l5 ⟨k,h⟩)).2 k h
theorem AR{p:Nat->Prop}(h:∃k,p k):p (rA p):=by
 unfold rA;rw[xd1 h];exact(xcf (l5 h)).1
theorem EI{c:Code}(J:Nat->Act->World->Prop){k:Nat}(h0:J k a w)
 (round:∀k a w,J k a w->c.wpIn F 0 P (Exit.then (λa' w'=>∃k',k'<k/\J k' a' w') Q) a w):(Code.loop c).wpIn F 0 P Q a w:=by
 refine wpIn_loop (λa w=>∃k,J k a w) (λa w=>rA λk=>J k a w) ⟨k,h0⟩ λa w h=>?_;refine Code.wpIn_mono (λe a' w' hq=>?_) (round _ a w (AR h));cases e with
 |normal=>
  obtain⟨k',hlt,hj⟩:=hq;exact⟨⟨k',hj⟩,xaz (Fx hj) hlt⟩
 |_=>exact hq
end
end Go.Sx
set_option maxRecDepth 100000
namespace Go.Proofs
open Go Go.Sx Tryz
section
open aq
section
variable {es:Array MapEntry} {ck b:Nat} {m:List (Nd×Nat)}
theorem LO(B:Hp):Fc zQ 276 #[.map (some b)] B
  (λv H=>∃bm,v=.func (.func 283) #[] #[ptr bm]/\H=(bm,.cells #[.map (some b)] 105 zZ)::B):=by
 refine aF λg=>GO λb1 _=>?_;exact aN.here ⟨b1,rfl,rfl⟩
noncomputable abbrev VF:Func:=Tryz.f283
def VAt(g:Gh)(bi b:Nat)(l:Nat)(es:Array MapEntry)(ck:Nat)(m:List (Nd×Nat))(G:zL->Hp->Prop)(B:Hp)(k:Nat)(a:Act)(w:World):Prop:=
 ∃(fr:Fr) (ss:zL) (A:Hp) (seen:Array Nat),En [] 15 a fr/\fr 0=.func (.yield l) #[] #[]/\fr 6=ptr bi/\G ss A/\Own g (A++((bi,.mapIter (some b) ck seen ck)::B)) w/\
  (ss++(cU es m seen).map Prod.snd).Perm (m.map Prod.snd)/\k=(cU es m seen).length
theorem EM{bm:Nat}{fz:Nat×Nat}(h:aE nK O7 es ck m):Lq zQ 283 #[ptr bm] [(bm,.cells #[.map (some b)] 105 fz),(b,.map es ck)] u32 m.length
  (λss=>ss.Perm (m.map Prod.snd)):=by
 intro g l G hY A W h0 hW;have hF:∀f,Fence.wide.fn f:=λ_=>trivial;refine callsIn_of_wp func283 rfl trivial ?_;have ha:=wV (m:=15) (args:=[.func (.yield l) #[] #[],ptr bm]) zI;refine wpIn_seq ?_;refine wpIn_region_lit ?_;obtain⟨B,hB⟩:∃B,B=[(bm,Obj.cells #[.map (some b)] 105 fz),(b,.map es ck)]:=⟨_,rfl⟩;rw[<-hB]at hW;have xH:(bm,Obj.cells #[.map (some b)] 105 fz)∈A++B:=by rw[hB];exact xab _ (.head _)
 have nh:(b,Obj.map es ck)∈A++B:=by rw[hB];exact xab _ (.tail _ (.head _))
 have hmB:∀{X:Hp},(b,Obj.map es ck)∈X++B:=by intro X;rw[hB];exact xab _ (.tail _ (.head _))
 rw[<-hB];have e0:Eu zQ g (gE VF 0 0) (ev (jZ [.func (.yield l) #[] #[],ptr bm] 0)) (A++B) (λx=>x=.map (some b))=Ld (A++B) (ptr bm) (λx=>x=.map (some b)):=by kernel_rfl
 refine jS (g:=g) (n:=15) (v0:=.map (some b)) hF rfl zC rfl ha hW (e0.mpr (Ld.mk xH rfl rfl)) λa1 F4=>?_;refine JP (g:=g) (n:=15) (s:=Instr.range 105 (.map (some b))) (K:=λv H=>∃bi,v=ptr bi/\H=(bi,.mapIter (some b) ck #[] ck)::(A++B)) hF rfl zC rfl F4 rfl
  (Rng.run (.inr ⟨b,es,ck,rfl,nh,λbi _=>⟨bi,rfl,rfl⟩⟩) hW (t:=105) (kt:=144) (e:=78) zK) λv H' w1 a2 hv nI BH=>?_
 obtain⟨bi,rfl,rfl⟩:=hv;refine wpListIn_nil ?_;have vV:Own g (A++((bi,.mapIter (some b) ck #[] ck)::B)) w1:=nI.perm (xaU).symm;clear nI F4 ha hW xH nh;refine wpIn_block ?_;refine EI (VAt g bi b l es ck m G B) (k:=(cU es m #[]).length) ⟨_,[],A,#[],BH,rfl,rfl,h0,vV,by rw[pY h];exact .refl _,rfl⟩ ?_;clear BH vV h0 e0 A;rintro k a w ⟨fr,ss,A,seen,ha,f0,f6,hG,hw,dD,hk⟩;refine wpIn_seq ?_;refine wpIn_region_lit ?_;have e6:ev fr (.tmp 6)=ptr bi:=f6;refine JP (g:=g) (n:=15) (s:=Instr.next (ptr bi) false 0)
  (K:=λv H=>(cU es m seen=[]/\v=.tuple #[.bool false]/\H=A++((bi,.mapIter (some b) ck seen ck)::B))\/
   ∃(e:MapEntry) (x:Nd×Nat) (seen':Array Nat),v=.tuple #[.bool true,e.key,e.val]/\e.val=u32 x.2/\(cU es m seen).Perm (x::cU es m seen')/\seen'.back?=some e.born/\es.find? (·.born==e.born)=some e/\
    H=A++((bi,.mapIter (some b) ck seen' ck)::B)) hF rfl zC rfl ha ?_
  (Nxt.run (h.next (bi:=bi) (bm:=b) (seen:=seen) (H:=A++((bi,.mapIter (some b) ck seen ck)::B)) (xab _ (.tail _ (by rw[hB];exact .tail _ (.head _)))) (xab _ (.head _))
   (λe x seen' he hk hv hp hb hf=>⟨_,(cZ.head _).cq A,.inr ⟨e,x,seen',rfl,hv,hp,hb,hf,rfl⟩⟩) (λhu=>.inl ⟨hu,rfl,rfl⟩)) hw) λv H' w1 a1 hv nI F4=>?_
 ·rw[e6.symm];rfl
 rcases hv with⟨hu,rfl,rfl⟩|⟨e,x,seen',rfl,M0,hp,hbk,hfi,rfl⟩
 ·refine jS (g:=g) (n:=15) (v0:=.bool false) hF rfl zC rfl F4 nI ⟨_,_,rfl,rfl,rfl⟩ λa2 BH=>?_;refine wpListIn_nil ?_;refine wpIn_seq ?_;refine wpIn_cond_false (by rw[BH.eval];rfl) ?_;refine wpIn_exit ?_;simp only[Exit.then,Exit.inBlock,xa5,bodyPost];refine⟨BH.defers,_,results_none rfl _ _ _,⟨_,rfl⟩,ss,A,?_,hG,(nI.perm xaU).tail⟩;rw[hu,xcv,xaL]at dD;exact dD
 refine jS (g:=g) (n:=15) (v0:=.bool true) hF rfl zC rfl F4 nI ⟨_,_,rfl,rfl,rfl⟩ λa2 BH=>?_;refine wpListIn_nil ?_;refine wpIn_seq ?_;refine wpIn_cond_true (by rw[BH.eval];rfl) ?_;refine wpIn_skip ?_;refine wpIn_block ?_;refine wpIn_seq ?_;refine wpIn_region_lit ?_;refine JP (g:=g) (n:=15) (s:=Instr.entry (ptr bi)) (K:=λv H=>v=.tuple #[e.key,e.val]/\H=A++((bi,.mapIter (some b) ck seen' ck)::B)) hF rfl zC rfl BH ?_ ?_ λv H' w2 a3 hv vV M5=>?_
 ·rw[e6.symm];rfl
 ·obtain⟨v,hr,hv⟩:=O5.run (P:=zQ) (k:=λv=>v=.tuple #[e.key,e.val]) ⟨bi,b,ck,seen',e.born,ck,es,e,rfl,xab _ (.head _),hbk,xab _ (.tail _ (by rw[hB];exact .tail _ (.head _))),hfi,rfl⟩ nI;exact⟨v,w1,_,hr,nI,hv,rfl⟩
 obtain⟨rfl,rfl⟩:=hv;refine jS (g:=g) (n:=15) (v0:=u32 x.2) hF rfl zC rfl M5 vV ⟨_,_,rfl,rfl,M0⟩ λa4 Wh=>?_;refine jS (g:=g) (n:=15) (v0:=u32 x.2) hF rfl zC rfl Wh vV (show u32 x.2=u32 x.2 from rfl) λa5 Wg=>?_;refine wpListIn_nil ?_;refine wpIn_seq ?_;refine wpIn_region_lit ?_;refine jS (g:=g) (n:=15) (v0:=.func (.yield l) #[] #[]) hF rfl zC rfl Wg vV f0 λa6 Wf=>?_;refine jS (g:=g) (n:=15) (v0:=u32 x.2) hF rfl zC rfl Wf vV (show u32 x.2=u32 x.2 from rfl) λa7 ha7=>?_;have hlen:(cU es m seen).length=(cU es m seen').length+1:=by rw[hp.length_eq];rfl
 have hlt:ss.length<m.length:=by
  have:=dD.length_eq;simp only[xaf,xax]at this⊢;omega
 obtain⟨fn,tmps,assign,body,hy,hR⟩:=hY _ x.2 A _ w2 hG hlt vV;refine wpListIn_plain rfl λK hK=>⟨λ_ _=>trivial,?_⟩;rw[Oper.semAt_eq _ _ _ zC,ha7.eval];have hex:∀F7:Fr,F7=bK (bK (bK (bK (bK (bK (bK fr (some 7) (.tuple #[.bool true,e.key,e.val])) (some 8) (.bool true)) (some 9) (.tuple #[e.key,e.val])) (some 10) (u32 x.2)) (some 4) (u32 x.2)) (some 11) (.func (.yield l) #[] #[])) (some 12) (u32 x.2)->(execOp (ev F7) (gE VF 3 2)).run zQ w2=.ok (.round l fn tmps assign body) w2:=λF7 hF7=>by
  have v11:ev F7 (.tmp 11)=.func (.yield l) #[] #[]:=by rw[hF7];rfl
  have v12:ev F7 (.tmp 12)=u32 x.2:=by rw[hF7];rfl
  have e11:execOp (ev F7) (gE VF 3 2)=(do let d <-resolve (ev F7) {callee:=.value (.tmp 11),args:=#[.tmp 12],argTypes:=#[78]} 4;invoke d.target d.args):=rfl;rw[e11];simp[resolve,Deferred.ofValue,v11,v12,invoke,go_sem,hy]
 refine(xch (Oper.uponIn Fence.wide 0 zQ (gE VF 3 2) a7 K _) (hex _ rfl)).mpr ⟨λh=>(by cases h),hR.mono ?_⟩;rintro e' w3 ⟨rfl,A',hG',hw3⟩;refine hK _ _ ?_;have ha8:=ha7.put (d:=some 13) rfl (.bool true);refine jS (g:=g) (n:=15) (v0:=.bool false) hF rfl zC rfl ha8 hw3 ⟨_,rfl,rfl⟩ λa9 ha9=>?_;refine wpListIn_nil ?_;refine wpIn_cond_false (by rw[ha9.eval];rfl) ?_;refine wpIn_skip ?_;refine⟨(cU es m seen').length,by omega,_,ss++[x.2],A',seen',ha9,f0,f6,hG',hw3,?_,rfl⟩;rw[xak];exact((hp.map Prod.snd).append_left ss).symm.trans dD
end
end
section
open aq
section
noncomputable abbrev AF:Func:=Tryz.f285
variable {f:FuncId} {cap:Array zV} {B:Hp} {N:Nat} {S:zL->Prop}
noncomputable def dk:Code:=match AF.body with|some (.seq _ (.seq (.seq _ (.block _ (.rangeFunc _ _ c _))) _))=>c|_=>.skip
noncomputable def fO:Code:=match AF.body with|some (.seq _ (.seq (.seq _ (.block _ (.rangeFunc _ _ _ c))) _))=>c|_=>.skip
noncomputable def WW(i:Nat):Oper:=match fO with| .block _ (.region _ ops _)=>(match ops[i]? with|some o=>o|none=>default)|_=>default
def mr(fn:FuncId)(tmps:Array zV)(assign body:Code)(D:Nat):Loop:={state:=.ready,pending:=none,fn,tmps,params:=#[7],assign,body,defers:=D}
def APG(l D bs:Nat)(fn:FuncId)(tmps:Array zV)(assign body:Code)(ss:zL)(A:Hp):Prop:=
 ∃v C',A=(l,.loop (mr fn tmps assign body D))::(D,.deferred (some []))::(bs,.cells #[v] 133 zZ)::C'/\aT 78 .u32 v (iw ss) C'
theorem Tn{g:Gh}{l D bs:Nat}{fn:FuncId}{tmps:Array zV}{fr:Fr}(hsz:tmps.size=13)(iy:∀s,tmps.getD s undef=fr s)(f2:fr 2=ptr bs){ss:zL}{x:Nat}{A X:Hp}{W:World}
 (hG:APG l D bs fn tmps dk fO ss A)(hl:ss.length<1099511627776)(hW:Own g (A++X) W):
  YieldAt Fence.wide 0 zQ l #[u32 x] W (λe W'=>e=.returned (.bool true)/\∃A',APG l D bs fn tmps dk fO (ss++[x]) A'/\Own g (A'++X) W'):=by
 obtain⟨v,C',rfl,ho⟩:=hG;have hF:∀f,(Fence.wide.inRound l).fn f:=λ_=>trivial;have hL:W.heap[l]? =some (.loop (mr fn tmps dk fO D)):=hW.has _ (.head _);refine⟨fn,_,dk,fO,run_yield hL rfl,roundIn_of_wpIn trivial ?_⟩;have ha:En [] 13 {tmps:=tmps.setIfInBounds 7 (u32 x),defers:=[]} (bK fr (some 7) (u32 x)):=(En.put (a:={tmps:=tmps,defers:=[]}) (d:=some 7) ⟨rfl,hsz,iy⟩ rfl (u32 x));have ha:En [] 13 {tmps:=(#[7].zip #[u32 x]).foldl (λtmps (t,a)=>tmps.setIfInBounds t a) tmps,defers:=[]} (bK fr (some 7) (u32 x)):=by simpa using ha
 change Code.wpIn _ 0 zQ (.region _ #[_] false) _ _ _;refine wpIn_region_lit ?_;refine jS (g:=g) (n:=13) (v0:=u32 x) hF rfl zC rfl ha hW rfl λa1 F4=>?_;refine wpListIn_nil ?_;have hbr:=run_beginRound (P:=zQ) hL rfl;refine⟨_,hbr,?_⟩;have XV:=hW.putObj (o':=.loop {mr fn tmps dk fO D with state:=.busy}) (.head _);change Code.wpIn _ 0 zQ (.block _ (.region _ #[_,_,_,_,_] false)) _ _ _;refine wpIn_block ?_;refine wpIn_region_lit ?_;obtain⟨H1,hH1⟩:∃H1,H1=(l,Obj.loop {mr fn tmps dk fO D with state:=.busy})::(((D,.deferred (some []))::(bs,.cells #[v] 133 zZ)::C')++X):=⟨_,rfl⟩
 replace XV:Own g H1 (W.putObj l (.loop {mr fn tmps dk fO D with state:=.busy})):=by rw[hH1];exact XV
 have e0:Eu zQ g (WW 0) (ev (bK (bK fr (some 7) (u32 x)) (some 5) (u32 x))) H1 (λz=>z=v)=Ld H1 (fr 2) (λz=>z=v):=by kernel_rfl
 refine jS (g:=g) (n:=13) (v0:=v) hF rfl zC rfl F4 XV (e0.mpr (by rw[f2];exact Ld.mk (by rw[hH1];exact .tail _ (.tail _ (.head _))) rfl rfl)) λa2 BH=>?_;refine jS (g:=g) (n:=13) (v0:=u32 x) hF rfl zC rfl BH XV rfl λa3 M5=>?_;have eb:∀K:zV->Hp->Prop,ax zQ 133 1 [(0,.int .u32 (x:Int))] H1 K=TW zQ g (WW 2) (ev (bK (bK (bK (bK fr (some 7) (u32 x)) (some 5) (u32 x)) (some 8) v) (some 9) (u32 x))) H1 K (λ_ _=>False):=λK=>by kernel_rfl
 refine P2 (g:=g) (n:=13) (s:=_) (K:=λv H=>∃b,v=.slice (some ⟨b,0,none⟩) 1 1/\H=(b,.cells (aA .u32 [(x:Int)]) 78 zZ)::H1) hF rfl zC rfl M5 XV rfl
  ((eb _).mp (ax.int zK zK zK λb=>⟨b,rfl,rfl⟩)) λv1 H2 w2 a4 hv hW2 Wh=>?_
 obtain⟨b,rfl,rfl⟩:=hv;have hn:(iw ss).length=ss.length:=au ss;obtain⟨H2,hH2⟩:∃H2,H2=(b,Obj.cells (aA .u32 [(x:Int)]) 78 zZ)::H1:=⟨_,rfl⟩;rw[<-hH2]at hW2;refine P2 (g:=g) (n:=13) (s:=_) (K:=λv' H=>∃C2,aT 78 .u32 v' (iw (ss++[x])) C2/\H=(b,Obj.cells (aA .u32 [(x:Int)]) 78 zZ)::(l,Obj.loop {mr fn tmps dk fO D with state:=.busy})::(D,.deferred (some []))::(bs,.cells #[v] 133 zZ)::(C2++X))
  hF rfl zC rfl Wh hW2 (by simp only[execOp,resolve,invoke,builtin];simp[bind,Sem.bind];rfl) ?_ λv2 H3 w3 a5 hv Wi Wg=>?_
 ·have e1:∀K:zV->Hp->Prop,App zQ 78 1 4 (.int .u32 0) H2 v (.slice (some ⟨b,0,none⟩) 1 1) K=
   TW zQ g (WW 3) (ev (bK (bK (bK (bK (bK fr (some 7) (u32 x)) (some 5) (u32 x)) (some 8) v) (some 9) (u32 x)) (some 10) (.slice (some ⟨b,0,none⟩) 1 1))) H2 K (λ_ _=>False):=λK=>by kernel_rfl
  refine(e1 _).mp ?_;rw[hH2,hH1];refine ho.rV (.cons (.cons (.cons (.cons .left)))) (by exact .head _) zO zO λv' C2 xU=>⟨C2,?_,rfl⟩;rw[cG];exact xU
 obtain⟨C2,xU,rfl⟩:=hv;have es:∀(H:Hp) (K:zV->Hp->Prop),St 1 H (fr 2) v2 (λH'=>K undef H')=TW zQ g (WW 4) (ev (bK (bK (bK (bK (bK (bK fr (some 7) (u32 x)) (some 5) (u32 x)) (some 8) v) (some 9) (u32 x)) (some 10) (.slice (some ⟨b,0,none⟩) 1 1)) (some 11) v2)) H K (λ_ _=>False):=λH K=>by kernel_rfl
 refine abi (g:=g) (n:=13) (s:=_) (K:=λ_ H=>H=(b,Obj.cells (aA .u32 [(x:Int)]) 78 zZ)::(l,Obj.loop {mr fn tmps dk fO D with state:=.busy})::(D,.deferred (some []))::(bs,.cells #[v2] 133 zZ)::(C2++X))
  hF rfl zC rfl Wg Wi rfl ((es _ _).mp ?_) λH4 w4 a6 hv hW4 Wf=>?_
 ·rw[f2];exact St.one (.tail (.tail (.tail (.head _)))) xU.one zI rfl rfl
 subst hv;refine wpListIn_nil ?_;simp only[Exit.inBlock,roundPost];refine⟨_,_,run_endRound none (hW4.has _ (.tail _ (.head _))),rfl,_,⟨v2,C2,rfl,xU⟩,?_⟩;exact(hW4.putObj (.tail (.head _))).tail
theorem NN(hg:Lq zQ f cap B u32 N S)(hc:aW zQ f=true)(hN:N<=1099511627776):
  Fc zQ 285 #[.slice none 0 0,.func (.func f) #[] cap] B (λv H=>∃ss C',S ss/\H=C'++B/\aT 78 .u32 v (iw ss) C'):=by
 intro g w hw;rw[<-callsIn_wide (n:=0)];have hF:∀f,Fence.wide.fn f:=λ_=>trivial;refine callsIn_of_wp_marks func285 rfl trivial ?_;have ha:=wV (m:=13) (args:=[.slice none 0 0,.func (.func f) #[] cap]) zI;refine wpIn_seq ?_;refine wpIn_region_lit ?_;refine P2 (g:=g) (n:=13) (s:=_) (K:=λv H=>∃bs,v=ptr bs/\H=(bs,.cells #[.slice none 0 0] 133 zZ)::B) hF rfl zC rfl ha hw rfl (λbs _=>⟨bs,rfl,rfl⟩) λv H1 w1 a1 hv nI F4=>?_;obtain⟨bs,rfl,rfl⟩:=hv;refine jS (g:=g) (n:=13) (v0:=.slice none 0 0) hF rfl zC rfl F4 nI rfl λa2 BH=>?_;refine wpListIn_nil ?_;refine wpIn_seq ?_;refine wpIn_seq ?_;refine wpIn_region_lit ?_;refine jS (g:=g) (n:=13) (v0:=.func (.func f) #[] cap) hF rfl zC rfl BH nI rfl λa3 M5=>?_;refine wpListIn_nil ?_;refine wpIn_block ?_;refine wpIn_rangeFunc λfn hfn=>?_;have Dn:=(nI.alloc (.deferred (some []))).alloc (.loop (mr fn a3.tmps dk fO w1.heap.size));have f6:a3.tmps[6]?.getD undef=.func (.func f) #[] cap:=by have:=M5.get 6;rw[xas]at this;exact this
 obtain⟨W1,XV⟩:∃W1,W1=(w1.alloc (.deferred (some []))).alloc (.loop (mr fn a3.tmps dk fO w1.heap.size)):=⟨_,rfl⟩;rw[<-XV]at Dn;refine⟨w1.heap.size+1,[{target:=.collected w1.heap.size,args:=#[]}],W1,{target:=.fn (.func f) cap,args:=#[.func (.yield (w1.heap.size+1)) #[] #[]]},W1,f,#[.func (.yield (w1.heap.size+1)) #[] #[]]++cap,W1,?_,?_,λ_ _=>trivial,?_,λh=>(by cases h),?_⟩
 ·rw[XV];exact run_enterLoop_outer fn a3.tmps #[7] _ _
 ·simp[resolve,Deferred.ofValue,f6,go_sem]
 ·simp[invoke,go_sem];exact fD hc _ _
 have hsz:(w1.alloc (.deferred (some []))).heap.size=w1.heap.size+1:=by simp
 rw[hsz]at Dn;refine CallsIn.mono (hg g (w1.heap.size+1) (APG (w1.heap.size+1) w1.heap.size bs fn a3.tmps dk fO) (λss x A X W hG hl hW=>Tn M5.size M5.get rfl hG zO hW) [_,_,_] W1 ⟨_,[],rfl,aT.nil⟩ Dn) ?_;rintro e W2 ⟨⟨v0,rfl⟩,ss,A',hS,⟨v,C',rfl,ho⟩,hW2⟩;refine⟨none,_,run_endLoop (hW2.has _ (.head _)) (by simp[mr]),?_⟩;have Wi:=hW2.putObj (o':=.loop {mr fn a3.tmps dk fO w1.heap.size with state:=.exhausted}) (.head _);simp only[Exit.then,Exit.inBlock];have Wh:En [{target:=.collected w1.heap.size,args:=#[]}] 13 {a3 with defers:=[{target:=.collected w1.heap.size,args:=#[]}]++a3.defers} (bK (bK (bK (jZ [.slice none 0 0,.func (.func f) #[] cap] 0) (some 2) (ptr bs)) (some 4) (.slice none 0 0)) (some 6) (.func (.func f) #[] cap)):=
  ⟨by rw[M5.defers];rfl,M5.size,M5.get⟩
 refine wpIn_seq ?_;refine wpIn_region_lit ?_;obtain⟨H3,hH3⟩:∃H3,H3=(w1.heap.size+1,Obj.loop {mr fn a3.tmps dk fO w1.heap.size with state:=.exhausted})::(((w1.heap.size,.deferred (some []))::(bs,.cells #[v] 133 zZ)::C')++B):=⟨_,rfl⟩
 replace Wi:Own g H3 (W2.putObj (w1.heap.size+1) (.loop {mr fn a3.tmps dk fO w1.heap.size with state:=.exhausted})):=by rw[hH3];exact Wi
 have e0:Eu zQ g (gE AF 4 0) (ev (bK (bK (bK (jZ [.slice none 0 0,.func (.func f) #[] cap] 0) (some 2) (ptr bs)) (some 4) (.slice none 0 0)) (some 6) (.func (.func f) #[] cap))) H3 (λz=>z=v)=Ld H3 (ptr bs) (λz=>z=v):=by kernel_rfl
 refine jS (g:=g) (n:=13) (v0:=v) hF rfl zC rfl Wh Wi (e0.mpr (Ld.mk (by rw[hH3];exact .tail _ (.tail _ (.head _))) rfl rfl)) λa5 Wg=>?_;refine jS (g:=g) (n:=13) (v0:=v) hF rfl zC rfl Wg Wi rfl λa6 Wf=>?_;refine wpListIn_nil ?_;refine wpIn_ret ?_;simp only[Exit.then,bodyPostM];rw[Wf.defers];rw[hH3]at Wi;refine⟨by simp,.inl ⟨w1.heap.size,_,rfl,run_takeDeferred (Wi.has _ (.tail _ (.head _))),?_⟩⟩;have hW4:=Wi.putObj (o':=.deferred none) (.tail (.head _));refine⟨_,results_tmp rfl _ _ _,C'++B,hW4.tail.tail.tail,v,C'++B,?_,.refl _,ss,C',hS,rfl,ho⟩;have:=Wf.get 4;rw[this];rfl
end
section
variable {f:FuncId} {cap:Array zV} {B:Hp} {N:Nat} {S:zL->Prop}
theorem Gj(hg:Lq zQ f cap B u32 N S)(hc:aW zQ f=true)(hN:N<=1099511627776):
  Fc zQ 281 #[.func (.func f) #[] cap] B (λv H=>∃ss C',S ss/\H=C'++B/\aT 78 .u32 v (iw ss) C'):=by
 refine aF λg=>GJ (aa.fq (NN hg hc hN) ?_);rintro v H h;exact aN.here h
theorem LY(hg:Lq zQ f cap B u32 N S)(hS:∀ss,S ss->ss.length<=N)(hc:aW zQ f=true)(hN:N<=1099511627776):
  Fc zQ 275 #[.func (.func f) #[] cap] B (λv H=>∃ss l C',S ss/\l.Perm ss/\H=C'++B/\aT 78 .u32 v (iw l) C'):=by
 refine aF λg=>GP (aa.fq (Gj hg hc hN) ?_);rintro v H ⟨ss,C',hs,rfl,ho⟩;have hlen:=hS ss hs;refine aa.fn (.left (A:=B)) (UK ho (by rw[au];omega)) ?_;rintro w C2 ⟨rfl,cC⟩;rw[UI]at cC;exact aN.here ⟨ss,_,C2,hs,ym ss,rfl,cC⟩
end
theorem UZ{pt n v:Nat}{T:Nd->Option Nat}{C:Hp}(h:oB pt n T C)(hv:v<n)(hinj:∀d d' r,T d=some r->T d'=some r->d=d')(hb:∀d r,T d=some r->r<1048576):
  Fc zQ 259 #[ptr pt,iv (v:Int)] C (λr H=>∃w l N,r=.tuple #[w,iv 0]/\H=N++C/\aT 78 .u32 w (iw l) N/\l.Nodup/\∀r,r∈l↔∃d,T d=some r/\d.v=v):=by
 have h0:=h;obtain⟨vs,Cs,ms,rfl,hs,ho⟩:=h;obtain⟨m,hm⟩:∃m,ms[v]? =some m:=⟨_,xaa (by rw[ho.len];exact hv)⟩;have he:=ho.dJ v m hm;have hT:∀d:Nd,d.v=v->T d=aK m.l d:=λd hd=>by rw[ho.T,hd,hm];rfl
 have hmem:∀d r,(d,r)∈m.l↔T d=some r/\d.v=v:=λd r=>by
  constructor
  ·intro hx;have hd:=ho.var v m hm _ hx;exact⟨by rw[hT d hd];exact(dR he.nd).2 hx,hd⟩
  rintro⟨h1,h2⟩;rw[hT d h2]at h1;exact(dR he.nd).1 h1
 have fA:(m.l.map Prod.snd).Nodup:=by
  refine xbI.2 ((xbI.1 he.nd).imp_of_mem λ{a b} ha hb' hne e=>hne ?_);have h1:=((hmem a.1 a.2).1 ha).1;have h2:=((hmem b.1 b.2).1 hb').1;rw[<-e]at h2;exact hinj _ _ _ h1 h2
 have hlen:m.l.length<=1048576:=by
  have:=ct (l':=List.range 1048576) fA λx hx=>by
   obtain⟨y,hy,rfl⟩:=xan.1 hx;exact xaM.2 (hb _ _ ((hmem y.1 y.2).1 hy).1)
  simpa using this
 refine aF λg=>G8 (aa.eq (lz h0 hv) (ae.cK (Br.F (Nil.ptr ?_))));refine ai.mk (Ld.mk zM rfl ?_);refine hs.Xt (x:=.map (some m.b)) (by rw[xat,hm];rfl) (λ_ h=>by exact .tail _ (xae _ h)) ?_;refine aa.fq (LO (b:=m.b) _) ?_;rintro w H ⟨bm,rfl,rfl⟩;obtain⟨X,Y,hXY⟩:=xde (rj hm);have dD:((bm,Obj.cells #[.map (some m.b)] 105 zZ)::(pt,.cells #[vs] 104 zZ)::(Cs++ME ms)).Perm
   ([(bm,.cells #[.map (some m.b)] 105 zZ),(m.b,.map m.es m.ck)]++((pt,.cells #[vs] 104 zZ)::(Cs++(X++Y)))):=by
  rw[hXY];refine .cons _ ?_;show((pt,_)::(Cs++(X++(m.b,_)::Y))).Perm ((m.b,_)::(pt,_)::(Cs++(X++Y)));refine .trans (.cons _ ?_) (.swap _ _ _);rw[<-xak,<-xak];exact xaU
 refine aa.pre (.perm dD) ?_;refine aa.fq (LY (EM he) (λss hss=>by rw[hss.length_eq,xax];exact xai _) zK zO) ?_;rintro w H ⟨ss,l,C',hss,hl,rfl,hown⟩;have qM:l.Perm (m.l.map Prod.snd):=hl.trans hss;refine aN.mk (nG:=C'++((pt,.cells #[vs] 104 zZ)::(Cs++ME ms))) ?_ ⟨w,l,C',rfl,rfl,hown,qM.nodup_iff.2 fA,λr=>?_⟩
 ·rw[xak];refine aM.dc ?_ C';exact(aM.perm dD.symm).trans .tail
 rw[qM.mem_iff,xan];constructor
 ·rintro⟨y,hy,rfl⟩;exact⟨y.1,(hmem y.1 y.2).1 hy⟩
 rintro⟨d,hd⟩;exact⟨(d,r),(hmem d r).2 hd,rfl⟩
end
end Go.Proofs
namespace Go.Sx
open Go
section
variable {P:Program} {g:Gh} {H:Hp} {κ β:Type} [DecidableEq κ] {ke:κ->zV} {vr:zV->β->Prop} {es:Array MapEntry} {ck b:Nat} {m:List (κ×β)} {K:zV->Hp->Prop} {KP:List PanicEntry->Hp->Prop}
omit [DecidableEq κ] in
theorem aE.sameKey(h:aE ke vr es ck m){i:Nat}{k:κ}{x:β}(hi:m[i]? =some (k,x)):es.modify i (λe=>{e with key:=ke k})=es:=by
 apply Array.ext_getElem?;intro j;rw[xbU];split
 ·rename_i e;subst e;cases he:es[i]? with
  |none=>rfl
  |some e0=>rw[xcd,<-(h.key i e0 _ he hi).1]
 ·rfl
theorem aE.WI{o:Oper}{ρ:Operand->zV}{t kt e:TypeId}{kd:TypeDesc}{mo ko:Operand}{z:zV}{k:κ}{y0:β}(hk:∀a b,Bv P kt (ke a) (ke b) (decide (a=b)))(hc:∀a,mz P kt (ke a))(hb:∀a,Instr.sameBits 10000 (ke a) (ke a)=true)
 (ho:o.op=.mapEntry t mo ko)(hm':ρ mo=.map (some b))(hk':ρ ko=ke k)(ht:P.underlying t=some (.map kt e))(Ds:P.underlying kt=some kd)(acT:cO kd=true)(hzd:fH P e=some z)(hvz:vr z y0)
 (h:aE ke vr es ck m){c:Obj->Hp}(RY:∀o o',cZ b o o' (c o) (c o'))
 (h1:∀es' bC v st,aE ke vr es' bC (if k∈m.map Prod.fst then m else m++[(k,y0)])->(∃e∈es'.toList,e.born=st)->K (.tuple #[v,.int .i64 (st:Int)]) (c (.map es' bC))):oF P g o ρ (c (.map es ck)) K KP:=by
 have xV:(b,Obj.map es ck)∈c (.map es ck):=(RY _ (.map es ck)).mem;obtain⟨i,hi,xW⟩:=cF hzd;refine oF.ofValue (s:=Instr.mapEntry t (.map (some b)) (ke k)) (by simp only[execOp,ho,hm',hk']) λw hw=>?_;have fB:=λb=>hc k b w;rcases h.DJ hk k with⟨j,x,e0,g1,g2,g3,g4⟩|⟨g1,g2⟩
 ·have pE:=gH (P:=P) Ds acT g4 w;have hj:=(xaS.1 g1).1;have hkey:es[j].key=ke k:=(h.key j _ _ (xbA hj) g2).1;have hmem:k∈m.map Prod.fst:=xan.2 ⟨_,xau g2,rfl⟩;obtain⟨w',hs,hown⟩:=bW (P:=P) hw (es.modify j λe=>{e with key:=ke k}) ck (by rw[h.sameKey g2];exact RY _ (.map es ck));refine⟨.tuple #[e0.val,.int .i64 (es[j].born:Int)],w',_,?_,hown,h1 es ck e0.val es[j].born (by rw[xad hmem];exact h) ⟨es[j],by simp,rfl⟩⟩;simp[Instr.mapEntry,run_underlying ht,aZ hw xV,fB,pE,hj,Instr.keyThatStays,hkey,hb k,hs,goInt]
 have pE:=gH (P:=P) Ds acT g2 w;obtain⟨w',hs,hown⟩:=bW (P:=P) hw (es.push {key:=ke k,val:=z,born:=ck}) (ck+1) (RY _ _);have nh:=h.more (k:=k) g1 hvz;have e2:dW m k y0=m++[(k,y0)]:=by unfold dW;rw[xac g1]
 rw[e2]at nh;refine⟨.tuple #[z,.int .i64 (ck:Int)],w',_,?_,hown,h1 _ _ z ck (by rw[xac g1];exact nh) ⟨_,by rw[xeo];exact xab _ (.head _),rfl⟩⟩;simp[Instr.mapEntry,run_underlying ht,aZ hw xV,fB,pE,dP hi xW,hs,goInt]
omit [DecidableEq κ] in
theorem aE.UF{o:Oper}{ρ:Operand->zV}{t:TypeId}{mo so xo:Operand}{st:Nat}(ho:o.op=.entryStore t mo so xo)(hm':ρ mo=.map (some b))(hs':ρ so=.int .i64 (st:Int))
 (h:aE ke vr es ck m)(hst:∃e∈es.toList,e.born=st)(hv:∀x,vr (ρ xo) x){c:Obj->Hp}(RY:∀o o',cZ b o o' (c o) (c o'))
 (h1:∀es',aE ke vr es' ck m->K undef (c (.map es' ck))):oF P g o ρ (c (.map es ck)) K KP:=by
 have xV:(b,Obj.map es ck)∈c (.map es ck):=(RY _ (.map es ck)).mem;refine oF.sB (s:=Instr.entryStore t (.map (some b)) (.int .i64 (st:Int)) (ρ xo)) (by simp only[execOp,ho,hm',hs']) λw hw=>?_;obtain⟨i,hi⟩:∃i,es.findIdx? (λe=>(e.born:Int)==(st:Int))=some i:=by
  obtain⟨e,he,rfl⟩:=hst;rw[<-xdK,Array.findIdx?_isSome];rw[Array.any_eq_true'];exact⟨e,by simpa using he,by simp⟩
 obtain⟨w',hs,hown⟩:=bW (P:=P) hw (es.modify i λe=>{e with val:=ρ xo}) ck (RY _ _);have hbn:((es.modify i λe=>{e with val:=ρ xo}).toList.map MapEntry.born)=es.toList.map MapEntry.born:=by
  apply xbc;intro j;simp only[xat,xbb,xbU];split
  ·cases es[j]? <;>rfl
  rfl
 refine⟨w',_,?_,hown,h1 _ ⟨by simp[h.len],λj e x he hx=>?_,h.nd,by rw[hbn];exact h.born,λe he=>?_⟩⟩
 ·simp only[Instr.entryStore,Sem.run_bind,aZ hw xV,Result.andThen_ok,asInt,asIntOf,Sem.run_pure];simp only[hi,hs]
 ·rw[xbU]at he;split at he
  ·cases h0:es[j]? with
   |none=>rw[h0]at he;simp at he
   |some e0=>
    rw[h0]at he;simp only[xcd,xar]at he;subst he;exact⟨(h.key j _ _ h0 hx).1,hv _⟩
  exact h.key j _ _ he hx
 have:e.born∈(es.modify i λe=>{e with val:=ρ xo}).toList.map MapEntry.born:=xaT he;rw[hbn]at this;obtain⟨e0,h1,h2⟩:=xan.1 this;rw[<-h2];exact h.lt e0 h1
end
theorem bG.out{C H:Hp}{c:Hp->Hp}(h:bG C H c)(N:Hp):aM (c (N++C)) (N++H):=by
 obtain⟨e,F,hp⟩:=h.spec;refine .perm ((hp (N++C)).trans ?_);rw[xak];refine xbV N ?_;have:=hp C;rw[<-e]at this;exact this.symm
end Go.Sx
set_option maxRecDepth 100000
namespace Go.Proofs
open Go Go.Sx Tryz
section
open aq
section
variable {kp:Nat} {K:Kd} {ord ah tr:zL} {C:Hp} {S:Nat->aq.Fn}
def By(N:er)(r:Nat):Int:=match N r with|some d=>(d.v:Int)|none=> -1
theorem Dx{N:er}{r:Nat}(hl:live N r)(h2:∀d,N r=some d->2<=r):∃lo hi,got N r=[iv (By N r),u32 lo,u32 hi]/\∀e,N r=some e->lo=e.lo/\hi=e.hi:=by
 cases h:N r with
 |some d=>
  refine⟨d.lo,d.hi,?_,λe he=>by cases he;exact⟨rfl,rfl⟩⟩;rw[dU h (h2 d h)];simp[bu,By,h]
 |none=>
  have hr:r<2:=by
   rcases hl with hl|⟨d,hd⟩
   ·exact hl
   rw[h]at hd;cases hd
  refine⟨r,r,?_,λe he=>by cases he⟩;rw[fC hr];simp[By,h]
theorem Cv(h:cQ kp K ord ah tr C){r:Nat}(hr:r<4294967296)(hl:live K.N r)(h2:∀d,K.N r=some d->2<=r)(y:Nat):
  Rd zQ 260 #[ptr kp,u32 r,iv (y:Int)] C (· =.tuple #[u32 (pl K.N y r),u32 (ph K.N y r)]):=by
 have h0:=h;obtain⟨b,rfl,hO⟩:=h;obtain⟨lo,hi,hg,he⟩:=Dx hl h2;refine aF λg=>G7 (Nil.ptr (ai.mk (aa.eq (n5 h0 hr) ?_)));intro b5 _;refine St.whole (r:=got K.N r) (by exact .head _) rfl (aP _ _).1 (aP _ _).2 ?_;rw[hg];refine Ld.f ?_;refine ae.ia (Br.dec (λe=>?_) (λe=>?_))
 ·refine Ld.f ?_;refine Ld.f ?_;cases hN:K.N r with
  |none=>simp[By,hN]at e<;>omega
  |some d=>
   obtain⟨rfl,rfl⟩:=he d hN;have hv:d.v=y:=by simp[By,hN]at e;omega
   obtain⟨e1,e2⟩:=U8 hN hv;exact bg.mk .tail (by rw[e1,e2];rfl)
 obtain⟨e1,e2⟩:=U9 (N:=K.N) (y:=y) (r:=r) λd hd=>by simp[By,hd]at e<;>omega
 exact bg.mk .tail (by rw[e1,e2])
def mA(c:Cx):List zV:=[u32 c.r,iv (c.d.v:Int),u32 c.d.lo,u32 c.d.hi,u32 c.x7,u32 c.x6,u32 c.tT,u32 c.tS]
theorem mi(c:Cx):∀x∈mA c,x.oneCell'=true:=by intro x hx;simp[mA,u32]at hx;rcases hx with rfl|rfl|rfl|rfl|rfl|rfl|rfl|rfl<;>rfl
structure yc(N:er)(x y:Nat)(l:zL)(all:List Cx):Prop where
 nd:(all.map Cx.r).Nodup
 mem:∀c,c∈all↔c.r∈l/\m0 N x y c.r c.d/\c=om N y c.r c.d
theorem yc.skip{N:er}{x y r:Nat}{l:zL}{all:List Cx}{d:Nd}(h:yc N x y l all)(hd:N r=some d)(hn:¬m0 N x y r d):yc N x y (l++[r]) all where
 nd:=h.nd
 mem:=λc=>by
  rw[h.mem,xao];constructor
  ·rintro⟨h1,h2⟩;exact⟨.inl h1,h2⟩
  rintro⟨h1|h1,h2,h3⟩
  ·exact⟨h1,h2,h3⟩
  simp at h1;have:=h2.1;rw[h1,hd]at this;cases this;rw[h1]at h2;exact absurd h2 hn
theorem yc.more{N:er}{x y r:Nat}{l:zL}{all:List Cx}{d:Nd}(h:yc N x y l all)(hr:r∉l)(hn:m0 N x y r d):yc N x y (l++[r]) (all++[om N y r d]) where
 nd:=by
  rw[xaA];refine xa3.2 ⟨h.nd,by simp,λa ha b hb e=>?_⟩;simp[om]at hb;subst e;obtain⟨c,hc,rfl⟩:=xan.1 ha;exact hr (hb▸((h.mem c).1 hc).1)
 mem:=λc=>by
  rw[xao,h.mem,xao,xaE,xaE];constructor
  ·rintro(⟨h1,h2⟩|rfl)
   ·exact⟨.inl h1,h2⟩
   exact⟨.inr rfl,hn,rfl⟩
  rintro⟨h1|h1,h2,h3⟩
  ·exact .inl ⟨h1,h2,h3⟩
  right;have h4:=h2.1;rw[h1,hn.1]at h4;cases h4;exact h3.trans (by rw[h1])
theorem yc.all{N:er}{x y:Nat}{l:zL}{all:List Cx}(h:yc N x y l all)(hl:∀r d,N r=some d->d.v=x->r∈l):Lt N x y all where
 nd:=h.nd
 mem:=λc=>by
  rw[h.mem];exact⟨λh=>h.2,λh=>⟨hl _ _ h.1.1 h.1.2.1,h⟩⟩
theorem AM(h:cQ kp K ord ah tr C){r:Nat}(hl:live K.N r)(h2:∀d,K.N r=some d->2<=r){H:Hp}{c:Hp->Hp}(hh:bG C H c){g:Gh}{Q:zV->Hp->Prop}{KP:List PanicEntry->Hp->Prop}
 (hk:∀lo hi,got K.N r=[iv (By K.N r),u32 lo,u32 hi]->(∀e,K.N r=some e->lo=e.lo/\hi=e.hi)->Q (.agg #[iv (By K.N r),u32 lo,u32 hi]) H):aa zQ g 190 #[ptr kp,u32 r] H Q KP:=by
 have hr:=h.lt hl;obtain⟨lo,hi,hg,he⟩:=Dx hl h2;refine aa.eh hh (n5 h zO) ?_;have:=hk lo hi hg he;rw[hg];exact this
theorem Bf(h:cQ kp K ord ah tr C)(hok:Ok K S (lv ah)){x y:Nat}(hx:x<K.n):
  Fc zQ 200 #[ptr kp,iv (x:Int),iv (y:Int)] C (λr H=>∃all Na,H=Na++C/\aU 272 8 r (all.map mA) Na/\Lt K.N x y all/\all.length<=1048576):=by
 have hcap:=h.cap;have h0:=h;obtain⟨b,hC,hO⟩:=h;have VS:∀d r,K.T d=some r↔K.N r=some d:=λd r=>by rw[hok.mid.kg];exact⟨λh=>h.1,λh=>⟨h,λx=>x⟩⟩
 have two:∀{r d},K.N r=some d->2<=r:=λhd=>(hok.mid.two hd).1;refine aF λg=>H9 ?_;rw[hC];refine Nil.ptr (ai.mk (ai.mk (Ld.q ?_)));refine aa.fq (UZ hO.ut hx (λd d' r h1 h2=>by rw[VS]at h1 h2;rw[h1]at h2;cases h2;rfl) (λd r h1=>by have:=(hok.mid.two ((VS d r).1 h1)).2;omega)) ?_;rintro w H ⟨sl,l,Nr,rfl,rfl,XF,fA,hmem⟩;refine Ext.two (XF.bX ?_);rw[au];have hl:∀r∈l,∃d,K.N r=some d/\d.v=x:=λr hr=>by obtain⟨d,h1,h2⟩:=(hmem r).1 hr;exact⟨d,(VS d r).1 h1,h2⟩
 have hlen:l.length<=1048576:=by
  have:=ct (l':=List.range 1048576) fA λr hr=>by
   obtain⟨d,hd,_⟩:=hl r hr;have:=(hok.mid.two hd).2;exact xaM.2 zO
  simpa using this
 refine⟨λvs H=>∃(v:zV) (i:Nat) (all:List Cx) (Na:Hp),vs=[v,iv (i:Int)]/\H=Na++(Nr++C)/\i<=l.length/\aU 272 8 v (all.map mA) Na/\yc K.N x y (l.take i) all/\all.length<=i,
  λvs _=>l.length-bN vs 1,JE.of (bG.out (C:=b.CT) (.cons (.app .left)) Nr) ⟨_,0,[],[],rfl,by rw[hC];rfl,xaO _,aU.nil _ _,⟨by simp,by simp⟩,xai _⟩,?_⟩
 rintro w w' H ⟨v,i,all,Na,hw,rfl,hi,ho,BF,Pj⟩ gs;simp only[xav,xaW]at hw;obtain⟨rfl,rfl⟩:=hw;refine ae.fy (Br.dec (λhlt=>?_) (λhge=>?_));rotate_left
 ·have:i=l.length:=by omega
  subst this;rw[xa9]at BF;refine aN.mk (nG:=Na++C) ?_ ⟨all,Na,by rw[hC],ho,BF.all λr d hd hv=>(hmem r).2 ⟨d,(VS d r).2 hd,hv⟩,by omega⟩;exact aM.dc .right Na
 obtain⟨r,Ex⟩:∃r,l[i]? =some r:=⟨_,xaa hlt⟩;have ny:l.take (i+1)=l.take i++[r]:=by rw[xbf,Ex];rfl
 have hrn:r∉l.take i:=λhm=>by
  have:(l.take (i+1)).Nodup:=fA.sublist (xdS _ _);rw[ny]at this;exact(xa3.1 this).2.2 r hm r zI rfl
 obtain⟨d,hd,kB⟩:=hl r (xau Ex);have ZF:=hok.mid.lo hd;have ZG:=hok.mid.hi hd;intro J17 F8;have next:∀v' Tv Na',aU 272 8 v' (Tv.map mA) Na'->yc K.N x y (l.take (i+1)) Tv->Tv.length<=i+1->J17 [v'] (Na'++(Nr++C)):=λv' Tv Na' h1 h2 h3=>
  F8 _ _ λgs=>ae.inc (aC.mk ⟨v',i+1,Tv,Na',rfl,rfl,by omega,h1,h2,h3⟩ (by simp[bN];omega))
 refine XF.ld (x:=(r:Int)) (de Ex) (λy hy=>xab _ (xae _ hy)) (Nil.ptr (ai.mk (AM h0 (.inr ⟨d,hd⟩) (λ_ h=>two h) (.app (.app .here)) λlo hi hg he=>?_)));obtain⟨rfl,rfl⟩:=he d hd;have hvr:By K.N r=(x:Int):=by simp[By,hd,kB]
 rw[hvr];intro b28 _;refine St.p (by intro z hz;simp[u32]at hz;rcases hz with rfl|rfl|rfl<;>rfl) ?_;obtain⟨H0,Wp⟩:∃H0,H0=(b28,Obj.cells #[iv (x:Int),u32 d.lo,u32 d.hi] 144 zZ)::(Na++(Nr++C)):=⟨_,rfl⟩;have hEq:((b28,Obj.cells [Value.int .i64 (x:Int),u32 d.lo,u32 d.hi].toArray 144 zZ)::(Na++(Nr++C)))=H0:=Wp.symm;rw[hEq];intro J31 Si;have skip:¬m0 K.N x y r d->J31 [.bool true] H0:=λhn=>Si _ _ λgs=>Br.yes (JE.of (by rw[Wp];exact .tail) (next w all Na ho (by rw[ny];exact BF.skip hd hn) zO));have take:m0 K.N x y r d->J31 [.bool false] H0:=λhn=>by
  refine Si _ _ λgs=>Br.no ?_;rw[Wp];refine az.q ?_;refine Build.mk (cs:=mA ⟨r,⟨x,d.lo,d.hi⟩,0,0,0,0⟩) zK λb37 _=>?_;refine St.p (mi _) ?_;refine Ld.f ?_;refine aa.eq (Cv h0 (by have:=h0.lt ZF;omega) ZF (λ_ h=>two h) y) (Ext.two (ai.mk (St.one (by exact .head _) rfl (by simp[mA]) rfl ?_)));refine ai.mk (St.one (by exact .head _) rfl (by simp[mA]) rfl ?_);refine Ld.f ?_;refine aa.eq (Cv h0 (by have:=h0.lt ZG;omega) ZG (λ_ h=>two h) y) (Ext.two (ai.mk (St.one (by exact .head _) rfl (by simp[mA]) rfl ?_)));refine ai.mk (St.one (by exact .head _) rfl (by simp[mA]) rfl ?_);have dF:d=⟨x,d.lo,d.hi⟩:=by cases d;simp at kB;subst kB;rfl
  have hcell:mA (om K.N y r d)=[u32 r,iv (x:Int),u32 d.lo,u32 d.hi,u32 (pl K.N y d.lo),u32 (ph K.N y d.lo),u32 (pl K.N y d.hi),u32 (ph K.N y d.hi)]:=by
   simp[mA,om,kB]
  refine az.whole (r:=mA (om K.N y r d)) (by rw[hcell];exact .head _) rfl ?_;refine ax.one (e:=272) (z:=.agg #[.int .u32 0,iv 0,.int .u32 0,.int .u32 0,.int .u32 0,.int .u32 0,.int .u32 0,.int .u32 0]) (k:=8) (r:=mA (om K.N y r d)) zK zK zK zD rfl λxb=>?_;refine ho.rV (.cons (.cons (.cons .left))) (by exact .head _) rfl (mi _) ⟨_,rfl,rfl⟩ zP zP λv' Na' cC=>?_;refine JE.of (.skip (.skip .tail)) (next v' (all++[om K.N y r d]) Na' (by rw[xaA];exact cC) (by rw[ny];exact BF.more hrn hn) zP)
 refine DR.of (R:=[(b28,Obj.cells #[iv (x:Int),u32 d.lo,u32 d.hi] 144 zZ)]) (by rw[Wp];exact .left (A:=[_])) (Nil.ptr (ai.mk (Ld.f ?_)));have heR:aM H0 [(b28,Obj.cells #[iv (x:Int),u32 d.lo,u32 d.hi] 144 zZ)]:=by rw[Wp];exact .left (A:=[_])
 intro F;rw[Wp];refine AM h0 ZF (λ_ h=>two h) (.cons (.app (.app .here))) λlo1 hi1 hg1 FX=>?_;rw[<-Wp];refine⟨heR,BP.mk rfl (ae.cK (Br.dec (λhne=>?_) (λhe=>?_)))⟩
 ·refine Nil.ptr (ai.mk (Ld.f ?_));intro F2;rw[Wp];refine AM h0 ZG (λ_ h=>two h) (.cons (.app (.app .here))) λlo2 KA T4 T6=>?_;rw[<-Wp];refine⟨heR,BP.mk rfl (ae.cK (aL.mk ?_))⟩;by_cases e2:By K.N d.hi=(y:Int)
  ·rw[xal (by simpa using e2)];refine JE.mk (take ⟨hd,kB,.inr ?_⟩);cases hN:K.N d.hi with
   |none=>simp[By,hN]at e2<;>omega
   |some f=>exact⟨f,rfl,by simp[By,hN]at e2;omega⟩
  ·rw[xam (by simpa using e2)];refine JE.mk (skip ?_);rintro⟨_,_,⟨f,hf,RP⟩|⟨f,hf,RP⟩⟩
   ·exact hne (by simp[By,hf,RP])
   exact e2 (by simp[By,hf,RP])
 have e1:By K.N d.lo=(y:Int):=by simpa using he
 refine JE.mk (take ⟨hd,kB,.inl ?_⟩);cases hN:K.N d.lo with
 |none=>simp[By,hN]at e1<;>omega
 |some f=>exact⟨f,rfl,by simp[By,hN]at e1;omega⟩
end
end
section
open aq
section
def zOf:zV->Int
 | .int _ z=>z
 |_=>0
abbrev vrZ(v:zV)(z:Int):Prop:=v=iv z
def wZ(es:Array MapEntry)(ck:Nat)(ks:List Nd):Prop:=∃m:List (Nd×Int),aE nK vrZ es ck m/\m.map Prod.fst=ks
theorem wZ.empty:wZ #[] 0 []:=⟨[],aE.empty,rfl⟩
theorem wZ.of{es:Array MapEntry}{ck:Nat}{m:List (Nd×Int)}(h:aE nK (λv _=>∃z,v=iv z) es ck m):wZ es ck (m.map Prod.fst):=by
 have hlen:es.toList.length=m.length:=by simpa using h.len
 have hz:((es.toList.zip m).map λp=>((p.2.1,zOf p.1.val):Nd×Int)).map Prod.fst=m.map Prod.fst:=by
  rw[xcl];have:(Prod.fst∘λ(p:MapEntry×(Nd×Int))=>((p.2.1,zOf p.1.val):Nd×Int))=Prod.fst∘Prod.snd:=rfl;rw[this,<-xcl,List.map_snd_zip zO]
 refine⟨_,⟨?_,λi e x he hx=>?_,by rw[hz];exact h.nd,h.born,h.lt⟩,hz⟩
 ·simp[h.len]
 have hi:=(xaS.1 he).1;have KA:i<m.length:=by rw[<-h.len];exact hi
 have hm:m[i]? =some m[i]:=xaa KA;obtain⟨h1,z,h2⟩:=h.key i e _ he hm;have hx':x=(m[i].1,zOf e.val):=by
  have e1:es.toList[i]? =some e:=by rw[xbb];exact he
  rw[xat,(List.getElem?_zip_eq_some (z:=(e,m[i]))).2 ⟨e1,hm⟩]at hx;simpa using hx.symm
 subst hx';exact⟨h1,by rw[h2];rfl⟩
theorem Own.sub{g:Gh}{H:Hp}{w:World}(h:Own g H w){y:Nat×Obj}(hy:y∈H):Own g [y] w:=by
 obtain⟨X,Y,rfl⟩:=xde hy;exact(h.perm xaU).left (A:=[y])
noncomputable abbrev FF:Func:=Tryz.f201
theorem six{i:Nat}(hi:i<6):¬QL .any (pB FF 10) i 6:=λh=>by
 have e6:(pB FF 10)[6]? =some (gE FF 10 6):=by kernel_rfl
 have:=h _ e6;have hm:(⟨i,.phase⟩:Edge)∈(gE FF 10 6).after:=by
  have ea:(gE FF 10 6).after=#[⟨0,.data⟩,⟨5,.data⟩,⟨3,.data⟩,⟨4,.chain⟩,⟨0,.phase⟩,⟨1,.phase⟩,⟨2,.phase⟩,⟨3,.phase⟩,⟨4,.phase⟩,⟨5,.phase⟩]:=by kernel_rfl
  rw[ea];rcases i with _|_|_|_|_|_|i;all_goals first|omega|simp
 exact this _ hm rfl rfl
end
section
def KY(ops:Array Oper)(listed:Array Bool):Bool:=(List.range ops.size).all λj=>match ops[j]? with
 |some oj=> !listed.getD j true||oj.after.toList.all λe=> !Region.binds .any e||listed.getD e.on true
 |none=>true
theorem gT{ops:Array Oper}{listed:Array Bool}(h:KY ops listed=true):fi .any ops listed:=by
 intro j oj hj hl e he hb;unfold KY at h;have h1:=xc4.1 h j (xaM.2 (xaS.1 hj).1);simp only[hj,hl,xcz,xdA]at h1;have h2:=xc4.1 h1 e (xc0.2 he);rw[hb]at h2;simpa using h2
theorem VM{g:Gh}{mb nb:Nat}{es:Array MapEntry}{ck:Nat}{ks:List Nd}{d:Nd}(hmk:wZ es ck ks){c:Obj->Hp}(RY:∀o o',cZ mb o o' (c o) (c o'))(hcn:∀o,(nb,Obj.cells (bu d).toArray 144 zZ)∈c o){K:Hp->Prop}
 (hk:∀es' bC,wZ es' bC (if d∈ks then ks else ks++[d])->K (c (.map es' bC))):
  aah zQ g 10 (pB FF 10) [7,11] [.map (some mb),ptr nb] (c (.map es ck)) K:=by
 have hm:(mb,Obj.map es ck)∈c (.map es ck):=(RY _ (.map es ck)).mem;have hn:=hcn (.map es ck);obtain⟨m,hE,rfl⟩:=hmk;intro a w hok hvs hw;simp only[xaC,xcv,xav,xaW]at hvs;obtain⟨h7,Wt⟩:=hvs;obtain⟨n,hnn⟩:∃n,n=a.tmps.size:=⟨_,rfl⟩;obtain⟨fr,hfr⟩:∃fr:Fr,fr=λs=>a.tmps.getD s undef:=⟨_,rfl⟩;have ha:cz a.defers n a fr:=⟨rfl,hnn.symm,λs=>by rw[hfr]⟩;have f7:fr 7=.map (some mb):=by rw[hfr];exact h7
 have f11:fr 11=ptr nb:=by rw[hfr];exact Wt
 rw[<-hnn]at hok;have eok:iY n (pB FF 10).toList=(Nat.blt 58 n&& (Nat.blt 59 n&& (Nat.blt 60 n&& (Nat.blt 61 n&& (Nat.blt 62 n&& (Nat.blt 63 n&& (true&&true))))))):=by kernel_rfl
 rw[eok]at hok;simp only[xaI,xdV]at hok;obtain⟨k58,k59,k60,k61,k62,k63⟩:=hok;refine wp_region_any zK ?_;obtain⟨z0,XB⟩:∃z0:Int,z0=(aK m d).getD 0:=⟨_,rfl⟩;obtain⟨S0,Se⟩:∃S0:World->Prop,S0=λw=>Own g [(nb,Obj.cells (bu d).toArray 144 zZ)] w/\(Instr.lookup 329 (.map (some mb)) (nK d) false).run zQ w=.ok (iv z0) w:=⟨_,rfl⟩;have look:∀{es':Array MapEntry} {bC:Nat} {m':List (Nd×Int)} {H':Hp} {w':World},aE nK vrZ es' bC m'->(mb,Obj.map es' bC)∈H'->Own g H' w'->(aK m' d).getD 0=z0->(Instr.lookup 329 (.map (some mb)) (nK d) false).run zQ w'=.ok (iv z0) w':=by
  intro es' bC m' H' w' h1 h2 h3 h4;have hL:j8 zQ 144 (iv 0) false H' (.map (some mb)) (nK d) (· =iv z0):=by
   cases hg:aK m' d with
   |some z=>exact aE.FR (ke:=nK) (k:=d) q8 mM h1 h2 hg (by rintro v rfl;rw[hg]at h4;simp at h4;rw[h4];rfl)
   |none=>exact aE.vH (ke:=nK) (k:=d) q8 mM h1 h2 hg (by rw[hg]at h4;simp at h4;rw[<-h4];rfl)
  obtain⟨v,hr,rfl⟩:=hL.run (P:=zQ) h3 (t:=329) (kt:=144) (e:=3) (kd:=.struct (Tryz.prog.fieldsOf 144)) (i:=(Tryz.prog.info? 3).get zK) zK Km rfl zK zK;exact hr
 have TY:=hw.zk;have s0:S0 {w with drawn:=w.drawn+1}:=by rw[Se];exact⟨Own.sub TY hn,look hE hm TY XB.symm⟩
 have hQp:∀{o:Oper} {v:zV} (c:List PanicEntry) (a':Act) (w':World),(λ(e:Exit) (a':Act) (w':World)=>e=.normal/\a'.defers=a.defers/\a'.tmps.size=a.tmps.size/\(∀s,bS (pB FF 10).toList s=false->a'.tmps.getD s undef=a.tmps.getD s undef)/\∃H',Own g H' w'/\K H') (.panic c) (a'.put o.dst v) w'->
   (λ(e:Exit) (a':Act) (w':World)=>e=.normal/\a'.defers=a.defers/\a'.tmps.size=a.tmps.size/\(∀s,bS (pB FF 10).toList s=false->a'.tmps.getD s undef=a.tmps.getD s undef)/\∃H',Own g H' w'/\K H') (.panic c) a' w':=by
  rintro _ _ _ _ _ ⟨h,_⟩;cases h
 have hsel:Region.noSelect (pB FF 10)=true:=by kernel_rfl
 have hkeep:∀i,i<6->∀(j:Nat) (oj:Oper) (w w':World),(pB FF 10)[j]? =some oj->j≠i->¬oz .any (pB FF 10) i j->S0 w->(j≠6->S0 w->S0 w')->S0 w':=λi hi j oj w w' _ _ hno h0 hs=>by
  by_cases e:j=6
  ·subst e;exact absurd (λoj jh e he hb heq=>hno (.one jh he hb heq)) (six hi)
  exact hs e h0
 refine c8.any (S:=λj w w'=>j≠6->S0 w->S0 w') ?_;have hsz:(pB FF 10).size=7:=by kernel_rfl
 rw[hsz];refine c8.take (gT zK) (S0:=S0) (i:=0) (oi:=gE FF 10 0) (v:=.map (some mb)) zK hsel zK zK hQp (λ_ h _ _=>h) (hkeep 0 zD) (.inl ⟨rfl,λw hw=>?_⟩) s0 ?_
 ·rw[ha.eval];have:(execOp (ev fr) (gE FF 10 0))=pure (.value (fr 7)):=rfl
  rw[this,f7];rfl
 have F4:=ha.put (d:=some 58) k58 (.map (some mb));change c8 _ _ _ _ _ 6 _ (a.put (some 58) (.map (some mb))) _;refine c8.take (gT zK) (S0:=S0) (i:=1) (oi:=gE FF 10 1) (v:=nK d) zK hsel zK zK hQp (λ_ h _ _=>h) (hkeep 1 zD) (.inl ⟨rfl,λw hw=>?_⟩) s0 ?_
 ·rw[F4.eval];have e:Eu zQ g (gE FF 10 1) (ev (bK fr (some 58) (.map (some mb)))) [(nb,Obj.cells (bu d).toArray 144 zZ)] (λv=>v=nK d)=az 3 [(nb,Obj.cells (bu d).toArray 144 zZ)] (fr 11) (λv=>v=nK d):=by kernel_rfl
  obtain⟨v,rfl,hr,_⟩:=oY (e.mpr (by rw[f11];exact az.q rfl));rw[Se]at hw;exact hr _ hw.1
 have BH:=F4.put (d:=some 59) k59 (nK d);change c8 _ _ _ _ _ 5 _ ((a.put (some 58) (.map (some mb))).put (some 59) (nK d)) _;refine c8.take (gT zK) (S0:=S0) (i:=2) (oi:=gE FF 10 2) (v:=iv z0) zK hsel zK zK hQp (λ_ h _ _=>h) (hkeep 2 zD) (.inl ⟨rfl,λw hw=>?_⟩) s0 ?_
 ·rw[BH.eval];have e:execOp (ev (bK (bK fr (some 58) (.map (some mb))) (some 59) (nK d))) (gE FF 10 2)=(do pure (.value (<-Instr.lookup 329 (.map (some mb)) (nK d) false))):=rfl;rw[Se]at hw;rw[e];simp only[Sem.run_bind,hw.2,Result.andThen_ok,Sem.run_pure]
 have M5:=BH.put (d:=some 60) k60 (iv z0);change c8 _ _ _ _ _ 4 _ (((a.put (some 58) (.map (some mb))).put (some 59) (nK d)).put (some 60) (iv z0)) _;refine c8.take (gT zK) (S0:=S0) (i:=3) (oi:=gE FF 10 3) (v:=iv (IntKind.i64.wrap (z0+1))) zK hsel zK zK hQp (λ_ h _ _=>h) (hkeep 3 zD) (.inl ⟨rfl,λw hw=>?_⟩) s0 ?_
 ·rw[M5.eval];have e:Eu zQ g (gE FF 10 3) (ev (bK (bK (bK fr (some 58) (.map (some mb))) (some 59) (nK d)) (some 60) (iv z0))) [(nb,Obj.cells (bu d).toArray 144 zZ)] (λv=>v=iv (IntKind.i64.wrap (z0+1)))=ae .num .add (iv z0) (iv 1) (λv=>v=iv (IntKind.i64.wrap (z0+1))):=by kernel_rfl
  obtain⟨v,rfl,hr,_⟩:=oY (e.mpr (ae.add rfl));rw[Se]at hw;exact hr _ hw.1
 have Wh:=M5.put (d:=some 61) k61 (iv (IntKind.i64.wrap (z0+1)));change c8 _ _ _ _ _ 3 _ ((((a.put (some 58) (.map (some mb))).put (some 59) (nK d)).put (some 60) (iv z0)).put (some 61) (iv (IntKind.i64.wrap (z0+1)))) _;generalize (((a.put (some 58) (.map (some mb))).put (some 59) (nK d)).put (some 60) (iv z0)).put (some 61) (iv (IntKind.i64.wrap (z0+1)))=a4 at Wh;refine c8.all (rs:=[4]) zK zI λi hi=>?_;simp only[xaE]at hi;subst hi;have e4:(pB FF 10)[4]? =some (gE FF 10 4):=by kernel_rfl
 unfold wpOp;rw[e4];simp only;rw[xad (show Region.wanted (gE FF 10 4) (yielded (pB FF 10) a4.tmps)=true from rfl)];refine .inl ?_;show(gE FF 10 4).upon zQ a4 _ _ ((execOp a4.eval (gE FF 10 4)).run zQ _);rw[Wh.eval];refine oI.upon (g:=g) (KP:=λ_ _=>False) (aE.WI (K:=λv H'=>∃es' bC v0 st,aE nK vrZ es' bC (if d∈m.map Prod.fst then m else m++[(d,0)])/\(∃e∈es'.toList,e.born=st)/\H'=c (.map es' bC)/\v=.tuple #[v0,iv (st:Int)])
  (t:=329) (kt:=144) (e:=3) (z:=iv 0) (k:=d) (y0:=(0:Int)) q8 mM Kp (o:=gE FF 10 4) (mo:=.tmp 58) (ko:=.tmp 59) rfl rfl rfl zK Km rfl zK rfl hE RY
  (λes' bC v st h1 h2=>⟨es',bC,v,st,h1,h2,rfl,rfl⟩) _ TY) ?_ (λ_ _ _ _ h=>h.elim)
 rintro v H1 w1 nI ⟨kC,jO,v0,st,Uc,hst,rfl,rfl⟩;have T1:(nb,Obj.cells (bu d).toArray 144 zZ)∈c (.map kC jO):=hcn _;have xH:(mb,Obj.map kC jO)∈c (.map kC jO):=(RY _ (.map kC jO)).mem;have s1:S0 w1:=by
  rw[Se];refine⟨Own.sub nI T1,look Uc xH nI ?_⟩;rw[XB];split
  ·rfl
  rename_i dF;have e1:=ik.2 dF;have e2:aK (m++[(d,0)]) d=some 0:=(dR (by
   have:=Uc.nd;rw[xac dF]at this;exact this)).2 zI
  rw[e1,e2];rfl
 refine⟨λ_ _=>s1,?_⟩;have Wg:=Wh.put (d:=some 62) k62 (.tuple #[v0,iv (st:Int)]);change c8 _ _ _ _ _ 2 _ (a4.put (some 62) (.tuple #[v0,iv (st:Int)])) _;generalize a4.put (some 62) (.tuple #[v0,iv (st:Int)])=a5 at Wg;refine c8.take (gT zK) (S0:=S0) (i:=5) (oi:=gE FF 10 5) (v:=iv (st:Int)) zK hsel zK zK hQp (λ_ h _ _=>h) (hkeep 5 zD) (.inl ⟨rfl,λw hw=>?_⟩) s1 ?_
 ·rw[Wg.eval];obtain⟨v,rfl,hr,_⟩:=oY (P:=zQ) (g:=g) (o:=gE FF 10 5) (H:=[(nb,Obj.cells (bu d).toArray 144 zZ)]) (k:=λv=>v=iv (st:Int))
   (ρ:=ev (bK (bK (bK (bK (bK fr (some 58) (.map (some mb))) (some 59) (nK d)) (some 60) (iv z0)) (some 61) (iv (IntKind.i64.wrap (z0+1)))) (some 62) (.tuple #[v0,iv (st:Int)]))) ⟨_,_,rfl,rfl,rfl⟩
  rw[Se]at hw;exact hr _ hw.1
 have Wf:=Wg.put (d:=some 63) k63 (iv (st:Int));change c8 _ _ _ _ _ 1 _ (a5.put (some 63) (iv (st:Int))) _;generalize a5.put (some 63) (iv (st:Int))=a6 at Wf;refine c8.all (rs:=[6]) zK zI λi hi=>?_;simp only[xaE]at hi;subst hi;have e6:(pB FF 10)[6]? =some (gE FF 10 6):=by kernel_rfl
 unfold wpOp;rw[e6];simp only;rw[xad (show Region.wanted (gE FF 10 6) (yielded (pB FF 10) a6.tmps)=true from rfl)];refine .inl ?_;show(gE FF 10 6).upon zQ a6 _ _ ((execOp a6.eval (gE FF 10 6)).run zQ _);rw[Wf.eval];refine oI.upon (g:=g) (KP:=λ_ _=>False) (aE.UF (vr:=λv _=>∃z:Int,v=iv z) (K:=λ_ H'=>∃es',aE nK (λv _=>∃z:Int,v=iv z) es' jO (if d∈m.map Prod.fst then m else m++[(d,0)])/\H'=c (.map es' jO))
  (o:=gE FF 10 6) (t:=329) (mo:=.tmp 58) (so:=.tmp 63) (xo:=.tmp 61) rfl rfl rfl (Uc.mono λv z h=>⟨z,h⟩) hst (λ_=>⟨_,rfl⟩) RY
  (λes' h1=>⟨es',h1,rfl⟩) _ nI) ?_ (λ_ _ _ _ h=>h.elim)
 rintro v H2 w2 vV ⟨gP,sO,rfl⟩;refine⟨λh=>absurd rfl h,?_⟩;have ha7:cz a.defers n a6 _:=Wf;change c8 _ _ _ _ _ 0 _ a6 _;refine c8.done zK ⟨rfl,ha7.defers,by rw[ha7.size,hnn],λs hs=>?_,_,vV,hk gP jO ?_⟩ 0
 ·have eD:bS (pB FF 10).toList s=(Nat.beq s 58||(Nat.beq s 59||(Nat.beq s 60||(Nat.beq s 61||(Nat.beq s 62||(Nat.beq s 63||(false||false))))))):=by kernel_rfl
  rw[eD]at hs;simp only[xaF]at hs;rw[ha7.get];simp only[bK,hs,xah];rw[hfr]
 have:=wZ.of sO;have e:(if d∈m.map Prod.fst then m else m++[(d,(0:Int))]).map Prod.fst=if d∈m.map Prod.fst then m.map Prod.fst else m.map Prod.fst++[d]:=by
  split<;>simp
 rw[e]at this;exact this
end
section
variable {kp:Nat} {K:Kd} {ord ah tr:zL} {C:Hp} {S:Nat->aq.Fn}
theorem S8{H:Hp}(a b:Nd){K:zV->Hp->Prop}(h:∀x,K (.slice (some ⟨x,0,none⟩) 2 2) ((x,.cells (rows [bu a,bu b]) 144 zZ)::H)):
  ax zQ 213 2 [(0,nK a),(1,nK b)] H K:=by
 refine⟨rows [bu a,bu b],144,3,.agg #[iv 0,.int .u32 0,.int .u32 0],by kernel_rfl,by kernel_rfl,by kernel_rfl,by decide,?_,λx _=>h x⟩;have e1:Array.range (2*3)=#[0,1,2,3,4,5]:=rfl;simp[Instr.fill,Value.cells,nK,bu,e1,rows,u32]
def iC(K:Kd)(x:Nat)(l:List Cx)(ks:List Nd)(m:List Nd):Prop:=m.Nodup/\∀k,k∈m↔((∃c∈l,k∈keys x c)\/k∈ks)/\K.T k=none/\k.lo≠k.hi
theorem iC.step{x:Nat}{l:List Cx}{ks m:List Nd}{d:Nd}(h:iC K x l ks m)(hd:K.T d=none/\d.lo≠d.hi):iC K x l (ks++[d]) (if d∈m then m else m++[d]):=by
 obtain⟨h1,h2⟩:=h;constructor
 ·split
  ·exact h1
  rename_i hn;exact xa3.2 ⟨h1,by simp,λa ha b hb e=>by simp at hb;subst hb;subst e;exact hn ha⟩
 intro k;by_cases hm:d∈m
 ·rw[xad hm,h2,xao,xaE];constructor
  ·rintro⟨h3|h3,h4⟩
   ·exact⟨.inl h3,h4⟩
   exact⟨.inr (.inl h3),h4⟩
  rintro⟨h3|h3|rfl,h4⟩
  ·exact⟨.inl h3,h4⟩
  ·exact⟨.inr h3,h4⟩
  exact(h2 _).1 hm
 rw[xac hm,xao,xaE,h2,xao,xaE];constructor
 ·rintro(⟨h3|h3,h4⟩|rfl)
  ·exact⟨.inl h3,h4⟩
  ·exact⟨.inr (.inl h3),h4⟩
  exact⟨.inr (.inr rfl),hd⟩
 rintro⟨h3|h3|rfl,h4⟩
 ·exact .inl ⟨.inl h3,h4⟩
 ·exact .inl ⟨.inr h3,h4⟩
 exact .inr rfl
theorem iC.skip{x:Nat}{l:List Cx}{ks m:List Nd}{d:Nd}(h:iC K x l ks m)(hd:¬(K.T d=none/\d.lo≠d.hi)):iC K x l (ks++[d]) m:=by
 obtain⟨h1,h2⟩:=h;refine⟨h1,λk=>?_⟩;rw[h2,xao,xaE];constructor
 ·rintro⟨h3|h3,h4⟩
  ·exact⟨.inl h3,h4⟩
  exact⟨.inr (.inl h3),h4⟩
 rintro⟨h3|h3|rfl,h4⟩
 ·exact⟨.inl h3,h4⟩
 ·exact⟨.inr h3,h4⟩
 exact absurd h4 hd
theorem iC.Ap{x:Nat}{l:List Cx}{c:Cx}{m:List Nd}(h:iC K x l (keys x c) m):iC K x (l++[c]) [] m:=by
 obtain⟨h1,h2⟩:=h;refine⟨h1,λk=>?_⟩;rw[h2];constructor
 ·rintro⟨⟨c',hc,hk⟩|h3,h4⟩
  ·exact⟨.inl ⟨c',xae _ hc,hk⟩,h4⟩
  exact⟨.inl ⟨c,by simp,h3⟩,h4⟩
 rintro⟨⟨c',hc,hk⟩|h3,h4⟩
 ·rcases xao.1 hc with hc|hc
  ·exact⟨.inl ⟨c',hc,hk⟩,h4⟩
  simp at hc;subst hc;exact⟨.inr hk,h4⟩
 cases h3
theorem Su(h:cQ kp K ord ah tr C){x:Nat}(hx:x<K.n){v:zV}{all:List Cx}{Na:Hp}(ha:aU 272 8 v (all.map mA) Na)(hlen:all.length<=1048576):
  Rd zQ 201 #[ptr kp,iv (x:Int),v] (Na++C) (λr=>∃made,r=iv ((made.length:Nat):Int)/\Made K x all made):=by
 have h0:=h;obtain⟨b,hC,hO⟩:=h;refine aF λg=>H8 λmb _=>?_;refine ha.bX ?_;rw[xax];refine⟨λvs H=>∃(i:Nat) (es:Array MapEntry) (ck:Nat) (m:List Nd),vs=[iv (i:Int)]/\H=(mb,.map es ck)::(Na++C)/\i<=all.length/\wZ es ck m/\iC K x (all.take i) [] m,
  λvs _=>all.length-bN vs 0,JE.mk ⟨0,_,_,[],rfl,rfl,xaO _,wZ.empty,by simp,by simp⟩,?_⟩
 rintro w H ⟨i,es,ck,m,hw,rfl,hi,hmk,V4⟩ gs;simp only[xav,xaW]at hw;subst hw;refine ae.fy (Br.dec (λhlt=>?_) (λhge=>?_));rotate_left
 ·have:i=all.length:=by omega
  subst this;rw[xa9]at V4;obtain⟨m',he,rfl⟩:=hmk;refine aE.QY he (.head _) ?_;refine bg.mk .tail ⟨m'.map Prod.fst,by rw[xax],V4.1,λk=>?_⟩;rw[V4.2];constructor
  ·rintro⟨h3|h3,h4⟩
   ·exact⟨h3,h4⟩
   cases h3
  rintro⟨h3,h4⟩;exact⟨.inl h3,h4⟩
 obtain⟨c,pc⟩:∃c,all[i]? =some c:=⟨_,xaa hlt⟩;have ny:all.take (i+1)=all.take i++[c]:=by rw[xbf,pc];rfl
 refine ha.Kv (r:=mA c) (by rw[xat,pc];rfl) (λy hy=>.tail _ (xae _ hy)) ?_;intro Ug _;refine St.p (mi _) ?_;refine Ld.f ?_;refine Ld.f ?_;refine Build.mk (cs:=bu ⟨x,c.x7,c.tT⟩) zK (Ld.f ?_);refine Ld.f ?_;refine Build.mk (cs:=bu ⟨x,c.x6,c.tS⟩) zK (S8 _ _ λxb=>?_);refine aR.mk ?_;refine⟨λvs H=>∃(j:Nat) (es:Array MapEntry) (ck:Nat) (m:List Nd),vs=[iv (j:Int)]/\H=(xb,.cells (rows [bu ⟨x,c.x7,c.tT⟩,bu ⟨x,c.x6,c.tS⟩]) 144 zZ)::(mb,.map es ck)::(Na++C)/\j<=2/\wZ es ck m/\iC K x (all.take i) ((keys x c).take j) m,
  λvs _=>2-bN vs 0,JE.of (.cons .tail) ⟨0,es,ck,m,rfl,rfl,xaO _,hmk,V4⟩,?_⟩
 clear hmk V4;rintro w H ⟨j,es,ck,m,hw,rfl,hj,hmk,V4⟩ gs;simp only[xav,xaW]at hw;subst hw;refine ae.fy (b:=2) (Br.dec (λug=>?_) (λhge=>?_));rotate_left
 ·have:j=2:=by omega
  subst this;refine ae.inc (aC.of .tail ⟨i+1,es,ck,m,rfl,rfl,by omega,hmk,?_⟩ (by simp[bN];omega));rw[ny];exact iC.Ap V4
 obtain⟨d,FY,kB⟩:∃d,(keys x c)[j]? =some d/\d.v=x:=by
  rcases j with _|_|j
  ·exact⟨_,rfl,rfl⟩
  ·exact⟨_,rfl,rfl⟩
  omega
 have htj:(keys x c).take (j+1)=(keys x c).take j++[d]:=by rw[xbf,FY];rfl
 have hrow:[bu ⟨x,c.x7,c.tT⟩,bu ⟨x,c.x6,c.tS⟩][j]? =some (bu d):=by
  have:[bu ⟨x,c.x7,c.tT⟩,bu ⟨x,c.x6,c.tS⟩]=(keys x c).map bu:=rfl;rw[this,xat,FY];rfl
 intro J34 agY;have next:∀es' bC m' H',wZ es' bC m'->iC K x (all.take i) ((keys x c).take (j+1)) m'->aM H' ((xb,.cells (rows [bu ⟨x,c.x7,c.tT⟩,bu ⟨x,c.x6,c.tS⟩]) 144 zZ)::(mb,.map es' bC)::(Na++C))->JE J34 [] H':=λes' bC m' H' h1 h2 h3=>
  JE.mk (agY _ λgs=>ae.inc (aC.of h3 ⟨j+1,es',bC,m',rfl,rfl,by omega,h1,h2⟩ (by simp[bN];omega)))
 refine av.nat ug ?_;have hmem:(xb,Obj.cells (rows [bu ⟨x,c.x7,c.tT⟩,bu ⟨x,c.x6,c.tS⟩]) 144 zZ)∈(xb,Obj.cells (rows [bu ⟨x,c.x7,c.tT⟩,bu ⟨x,c.x6,c.tS⟩]) 144 zZ)::(mb,.map es ck)::(Na++C):=.head _;refine az.row (k:=3) hmem (by simp[bu]) hrow ?_;intro b40 _;refine St.p (λz hz=>by simp[bu,u32]at hz;rcases hz with rfl|rfl|rfl<;>rfl) ?_;refine DR.self ?_;rw[hC];refine Nil.ptr (ai.mk (Ld.f ?_));refine az.q ?_;refine aa.eq (uE (d:=d) hO.ut (by rw[kB];exact hx)) (⟨.refl _,Ext.mk rfl (Ext.mk rfl (Un.not ?_))⟩);have XG:(!(K.T d).isSome)=decide (K.T d=none):=by cases K.T d<;>simp
 rw[XG];refine c6.and (decide (d.lo≠d.hi)) (λ_=>?_) rfl λgs=>?_
 ·refine Ld.f ?_;refine Ld.f ?_;exact ae.CJ ⟨rfl,rfl⟩
 rw[<-xd8];rw[<-hC];refine Br.dec (λhd=>?_) (λhd=>?_)
 ·refine VM hmk (c:=λo=>(b40,.cells (bu d).toArray 144 zZ)::(xb,.cells (rows [bu ⟨x,c.x7,c.tT⟩,bu ⟨x,c.x6,c.tS⟩]) 144 zZ)::(mb,o)::(Na++C)) (λo o'=>.tail (.tail (.head _))) (λo=>.head _) λes' bC h1 gs=>?_;exact next es' bC _ _ h1 (by rw[htj];exact V4.step hd) .tail
 exact next es ck m _ hmk (by rw[htj];exact V4.skip hd) .tail
end
def kz(l:List Cx):Nat->Nat:=λs=>(l.map λc=>e1 (some c.d) s).sum
theorem oW(c:Cx)(l:List Cx)(s:Nat):kz (c::l) s=e1 (some c.d) s+kz l s:=by simp[kz]
theorem Mu(c:Cx)(l:List Cx)(s:Nat):kz (l++[c]) s=kz l s+e1 (some c.d) s:=by simp[kz]
theorem adx(d:Nd)(s:Nat):e1 (some d) s<=2:=by rw[eo];split<;>split<;>omega
theorem AJ(s:Nat):∀l:List Cx,kz l s<=2*l.length
 | []=>xai _
 |c::l=>by rw[oW,xay];have:=AJ s l;have:=adx c.d s;omega
theorem Cu{s:Nat}:∀{l:List Cx},0<kz l s->∃c∈l,c.d.lo=s\/c.d.hi=s
 | [],h=>by simp[kz]at h
 |c::l,h=>by
  rw[oW]at h;by_cases h0:0<e1 (some c.d) s
  ·refine⟨c,by simp,?_⟩;rw[eo]at h0;by_cases h1:c.d.lo=s
   ·exact .inl h1
   by_cases h2:c.d.hi=s
   ·exact .inr h2
   simp[h1,h2]at h0
  obtain⟨c',hc,h1⟩:=Cu (s:=s) (l:=l) zO;exact⟨c',by simp[hc],h1⟩
theorem Kh{s:Nat}{c:Cx}(hs:c.d.lo=s\/c.d.hi=s):∀{l:List Cx},c∈l->0<kz l s
 |c'::l,h=>by
  rw[oW];rcases xaj.1 h with rfl|h
  ·rw[eo];rcases hs with hs|hs
   ·rw[xad hs];omega
   rw[xad hs];omega
  have:=Kh hs h;omega
def Idle(K:Kd):Prop:=∀s,K.N s=none->K.use s=0
theorem uN{K:Kd}{S:Nat->aq.Fn}{E:Nat->Prop}{P:Nat->Nat}(hm:jQ K S E P)(hi:Idle K){M:Nat}(hP:∀s,P s<=M)(s:Nat):K.use s<=2097153+M:=by
 cases h:K.N s with
 |none=>rw[hi s h];omega
 |some d=>
  rw[hm.use h];have:=DM (N:=K.N) (r:=s) K.cap;have:=hm.cap.2;have:=hP s;split<;>omega
section
variable {kp:Nat} {K K0:Kd} {ord ah tr:zL} {C:Hp} {S S0:Nat->aq.Fn} {r4:Nat->Nat} {x y l:Nat} {all done rest:List Cx} {made:List Nd} {P:Nat->Nat}
theorem So(b:TB K0 S0 r4 x y l all made)(h:cQ kp K ord ah tr C)(ht:TI K0 S0 r4 x y l made K S done rest P)(hd:∀c∈done,c∈all)(hr:∀c∈rest,c∈all){c:Cx}(hc:c∈all){k:Nd}(hk:k∈keys x c)
 (Pm:PL P K.N)(RM:Idle K)(hP:∀s,P s<=4194304):
  Fc zQ 202 #[ptr kp,iv (k.v:Int),u32 k.lo,u32 k.hi] C (λv C'=>∃r K' S',v=u32 r/\cQ kp K' ord ah tr C'/\TI K0 S0 r4 x y l made K' S' done rest P/\yb K0 K' r4 x l r/\
   ((k.lo=k.hi/\r=k.lo)\/K'.N r=some k)/\PL P K'.N/\Idle K'/\(∀s d,K.N s=some d->K'.N s=some d)/\(∀s d,K'.N s=some d->s=r\/(K.N s=some d/\K.use s<=K'.use s))):=by
 have sL:K.n<=64:=by obtain⟨_,_,hO⟩:=h;exact hO.lT
 have mU:=b.Vu hc;have hkv:k.v=x/\tV K0 r4 l k.lo/\tV K0 r4 l k.hi:=by
  simp only[keys,xaj,xaR,xbl]at hk;rcases hk with rfl|rfl
  ·exact⟨rfl,mU.1.1,mU.1.2⟩
  exact⟨rfl,mU.2.1,mU.2.2⟩
 have Dr:=ht.rz b hd hkv.2.1;have qM:=ht.rz b hd hkv.2.2;have hxn:k.v<K.n:=by rw[hkv.1,ht.n];exact b.nb.xn
 by_cases he:k.lo=k.hi
 ·refine Fc.mono (by rw[<-he];exact Wu C _ k.lo _) ?_;rintro v C' ⟨rfl,rfl⟩;exact⟨k.lo,K,S,rfl,h,ht,.inl hkv.2.1,.inl ⟨he,rfl⟩,Pm,RM,λ_ _ h=>h,λs d h=>.inr ⟨h,xai _⟩⟩
 cases hT:K.T k with
 |some r=>
  obtain⟨h1,h2⟩:=ht.found b hc hk hT;refine Fc.mono (Ww h he hxn hT) ?_;rintro v C' ⟨rfl,rfl⟩;exact⟨r,K,S,rfl,h,ht,h2,.inr h1,Pm,RM,λ_ _ h=>h,λs d h=>.inr ⟨h,xai _⟩⟩
 |none=>
  have hfit:∀{t:Nat},live K.N t->t<2\/t<K.us.length:=λht'=>by
   rcases ht' with ht'|⟨d,dF⟩
   ·exact .inl ht'
   exact .inr (ht.mid.fit dF)
  have hkm:=ht.Rl b hd hr hc hk he hkv.2.1 hkv.2.2 hT;refine Fc.mono (Wv h (d:=k) he ⟨by omega,Dr,qM⟩ hxn hT (ht.fits b hkm hT) (hfit Dr) (hfit qM) (λs=>by have:=uN ht.mid RM hP s;omega)) ?_;rintro v C' ⟨r,dr,cC,rfl,hN,h2,hrc,hlen,hru,MT,u0,u1,u2,o0,o1,cX⟩;have hPr:P r=0:=by
   apply xdG;intro hne;obtain⟨d,dF⟩:=Pm r h2 zO;rw[hN]at dF;cases dF
  obtain⟨g1,g2⟩:=ht.lay b hd hr hc hk he hT hN ⟨h2,hrc⟩ hlen ⟨hru,MT⟩ u0 u1 o0 o1 hPr;have hup:∀s d,K.N s=some d->up K.N r (some k) s=some d:=λs d hs=>by
   rw[aQ (λe=>by rw[e,hN]at hs;cases hs)];exact hs
  refine⟨r,_,_,rfl,cX,g1,g2,.inr aO,λt Sj h0=>?_,λs hs=>?_,hup,λs d hs=>?_⟩
  ·obtain⟨d,dF⟩:=Pm t Sj h0;exact⟨d,hup t d dF⟩
  ·have hs':up K.N r (some k) s=none:=hs;have hne:s≠r:=λe=>by subst e;rw[aO]at hs';cases hs'
   rw[aQ hne]at hs';show dr.getD s 0=0;by_cases h2s:2<=s
   ·rw[u1 s h2s hne,RM s hs',eo];have a1:k.lo≠s:=λe=>by
     rcases Dr with h5|⟨d,h5⟩
     ·omega
     rw[e,hs']at h5;cases h5
    have a2:k.hi≠s:=λe=>by
     rcases qM with h5|⟨d,h5⟩
     ·omega
     rw[e,hs']at h5;cases h5
    simp[a1,a2]
   rw[u2 s zO,RM s hs']
  have hs':up K.N r (some k) s=some d:=hs;by_cases e:s=r
  ·exact .inl e
  rw[aQ e]at hs';refine .inr ⟨hs',?_⟩;show K.use s<=dr.getD s 0;rw[u1 s (ht.mid.two hs').1 e];omega
theorem PD(h:cQ kp K ord ah tr C)(ht:TI K0 S0 r4 x y l made K S done rest P)(Pm:PL P K.N)(RM:Idle K)(hP:∀s,P s<=4194304){r:Nat}(hr:live K.N r):
  Fc zQ 203 #[ptr kp,u32 r] C (λv C'=>∃K',v=.tuple #[]/\cQ kp K' ord ah tr C'/\TI K0 S0 r4 x y l made K' S done rest (λs=>P s+if s=r then 1 else 0)/\PL (λs=>P s+if s=r then 1 else 0) K'.N/\Idle K'/\
   K'.N=K.N/\(∀s,K.use s<=K'.use s)/\(2<=r->0<K'.use r)):=by
 have hfit:r<2\/r<K.us.length:=by
  rcases hr with hr|⟨d,hd⟩
  ·exact .inl hr
  exact .inr (ht.mid.fit hd)
 refine Fc.mono (EO h hfit (by have:=uN ht.mid RM hP r;omega)) ?_;rintro v C' ⟨rfl,cX⟩;by_cases h2:2<=r
 ·have hrd:∃d,K.N r=some d:=by
   rcases hr with hr|hr
   ·omega
   exact hr
  have hlt:r<K.us.length:=by omega
  refine⟨_,rfl,cX,(ht.use (jm r) (nJ h2 hlt) (λs hs=>uO hs)).congr (λs _=>?_),λt Sj h0=>?_,λs hs=>?_,rfl,λs=>?_,λ_=>?_⟩
  ·unfold up;split
   ·rename_i e;subst e;rfl
   rfl
  ·by_cases e:t=r
   ·subst e;exact hrd
   simp[e]at h0;exact Pm t Sj h0
  ·show(ti K r).getD s 0=0;have hne:s≠r:=λe=>by
    obtain⟨d,hd⟩:=hrd;have hs':K.N s=none:=hs;rw[e,hd]at hs';cases hs'
   rw[uO hne];exact RM s hs
  ·show K.use s<=(ti K r).getD s 0;by_cases e:s=r
   ·subst e;rw[nJ h2 hlt];omega
   rw[uO e];exact xai _
  show 0<(ti K r).getD r 0;rw[nJ h2 hlt];omega
 have e:ti K r=K.us:=by unfold ti;rw[xad zO]
 have eK:({K with us:=ti K r}:Kd)=K:=by rw[e]
 rw[eK]at cX;refine⟨K,rfl,cX,ht.congr (λs hs=>?_),λt Sj h0=>?_,RM,rfl,λ_=>xai _,λh=>absurd h h2⟩
 ·rw[xac zO];rfl
 have h0':0<P t+if t=r then 1 else 0:=h0
 rw[xac zO]at h0';exact Pm t Sj h0'
theorem yb.mono{K K':Kd}(h:yb K0 K r4 x l y)(hm:∀s d,K.N s=some d->K'.N s=some d):yb K0 K' r4 x l y:=by
 rcases h with h|⟨e,h1,h2⟩
 ·exact .inl h
 exact .inr ⟨e,hm _ _ h1,h2⟩
end
section
variable {kp:Nat} {K:Kd} {ord ah tr:zL} {C:Hp} {S:Nat->aq.Fn}
structure Kept(K:Kd)(S:Nat->aq.Fn)(K':Kd)(S':Nat->aq.Fn):Prop where
 n:K'.n=K.n
 cap:K'.cap=K.cap
 hold:∀r,K'.hold r=K.hold r
 held:∀g,K'.held S' g↔K.held S g
 fn:∀r,K.hold r≠0->S' r=S r
theorem YQ{x y l:Nat}(hne:x≠y)(hx:x<ah.length)(hy:y<ah.length):lv ((ah.set x (l+1)).set y l)=tY (lv ah) x y l:=by
 funext v
 show((ah.set x (l+1)).set y l).getD v 0=_;rw[gO (by simpa using hy),gO hx];unfold tY;by_cases e:v=y
 ·rw[xad e,xac (by rw[e];exact xa8 hne),xad e]
 rw[xac e,xac e]
theorem QB(c:Cx)(rest:List Cx):kz (c::rest)=gR (gR (kz rest) [c.d.hi]) [c.d.lo]:=by
 funext s
 rw[oW,eo];unfold gR;simp only[xb2,xdP,xcR];omega
theorem ry{x:Nat}{all:List Cx}{made:List Nd}(h:Made K x all made):made.length<=2*all.length:=by
 have h1:=ct (l':=all.flatMap (keys x)) h.nd λk hk=>by
  obtain⟨⟨c,hc,hk'⟩,_⟩:=(h.mem k).1 hk;exact List.mem_flatMap.2 ⟨c,hc,hk'⟩
 have h2:(all.flatMap (keys x)).length=2*all.length:=by
  clear h1 h;induction all with
  |nil=>rfl
  |cons c all ih=>rw[xep,xaf,ih,xay];simp[keys];omega
 omega
theorem PI{x y l:Nat}{K1:Kd}{S1:Nat->aq.Fn}{all:List Cx}{made:List Nd}(b:TB K S (lv ah) x y l all made)(h:TI K S (lv ah) x y l made K1 S1 all [] (kz all))(hnew:∀r d,K.N r=none->K1.N r=some d->0<K1.use r):Pos K1:=by
 intro r d hd;cases hN:K.N r with
 |none=>exact hnew r d hN hd
 |some d0=>
  rw[h.mid.use hd];rcases b.ok.reach r d0 hN with hh|⟨p,e,hp,Pd⟩
  ·have pD:K1.hold r≠0:=by rw[h.hold];exact hh
   rw[xac pD];omega
  by_cases hm:p∈all.map Cx.r
  ·obtain⟨c,hc,rfl⟩:=xan.1 hm;have hcd:=(b.oo hc).1;rw[hp]at hcd;cases hcd;have:=Kh (s:=r) Pd hc;omega
  have uA:=h.old hp hm;have:dj K1.N r K1.cap≠0:=λhe=>by
   have:=j5 he p (h.mid.two uA).2 e uA;rcases Pd with Pd|Pd
   ·exact this.1 Pd
   exact this.2 Pd
  omega
theorem JL(h:cQ kp K ord ah tr C)(hok:Ok K S (lv ah))(ho:Ord K.n (lv ah) ord)(RM:Idle K){l:Nat}(hl:l+1<K.n):
  Fc zQ 134 #[ptr kp,iv (l:Int)] C (λr C'=>
   (Am K.n ord l (K.held S)+2<=K.cap/\r=.bool true/\∃K' S' bR,cQ kp K' (fI ord l) bR tr C'/\Ok K' S' (lv bR)/\Ord K'.n (lv bR) (fI ord l)/\Idle K'/\Kept K S K' S')\/
   (K.cap<Am K.n ord l (K.held S)+2/\r=.bool false/\C'=C)):=by
 have h0:=h;have hcap:=h.cap;obtain⟨b,hC,hO⟩:=h;have Ey:=hO.ol;have sL:=hO.lT;have nb:=ho.nb hl;obtain⟨x,hx⟩:∃x,x=ord.getD l 0:=⟨_,rfl⟩;obtain⟨y,hy⟩:∃y,y=ord.getD (l+1) 0:=⟨_,rfl⟩;rw[<-hx,<-hy]at nb;refine aF λg=>I2 ?_;have hmk:(kp,Obj.cells (b.cells K.n) 91 zZ)∈C:=by rw[hC];exact .head _
 have XE:∀z∈b.CO,z∈C:=by rw[hC];exact bG.sub (.cons (.app (.app (.app (.app .left)))))
 refine Ld.v hmk ?_;refine hO.od.ld (x:=(x:Int)) (by rw[hx];exact bH zO) XE (Ld.v hmk ?_);refine ae.inc (hO.od.ld (x:=(y:Int)) (by rw[hy];exact bH zO) XE (aa.fq (Bf h0 hok nb.xn) ?_));rintro w H ⟨all,Na,rfl,aG,BF,hlen⟩;refine DR.self (Nil.ptr (ai.mk (aa.rq (Su h0 nb.xn aG hlen) ?_)));rintro w ⟨made,rfl,RD⟩;have hml:=ry RD;have Ky:=hok.mid.cap;have afy:=hok.mid.room;refine aa.eq (Db h0 (m:=made.length) zO zO) ?_;have akr:Am K.n ord l (K.held S)=K.used-2+made.length:=Ym (PJ hok ho hl (by rw[<-hx,<-hy];exact BF) (by rw[<-hx];exact RD));apply Un.not;by_cases hroom:K.used+made.length<=K.cap;rotate_left
 ·rw[xal hroom];exact Br.yes (aN.mk .right (.inr ⟨by omega,rfl,rfl⟩))
 rw[xam hroom];apply Br.no;have tb:TB K S (lv ah) x y l all made:=⟨hok,nb,BF,RD,hroom⟩;have fA:=BF.nd;have hge:∀{i:Nat} {c:Cx},all[i]? =some c->c.r∉(all.take i).map Cx.r:=λ{i c} pc hm=>by
  have h1:(all.take (i+1)).map Cx.r=(all.take i).map Cx.r++[c.r]:=by rw[xbf,pc,xaA];rfl
  have h2:((all.take (i+1)).map Cx.r).Nodup:=fA.sublist ((xdS _ _).map _);rw[h1]at h2;exact(xa3.1 h2).2.2 _ hm _ zI rfl
 have ny:∀{i:Nat} {c:Cx},all[i]? =some c->all.take (i+1)=all.take i++[c]:=λpc=>by rw[xbf,pc];rfl
 have hdr:∀{i:Nat} {c:Cx},all[i]? =some c->all.drop i=c::all.drop (i+1):=λ{i c} pc=>by
  obtain⟨hi,e⟩:=xag.1 pc;rw[xbr hi,e]
 have Zr:∀{i:Nat},∀c∈all.take i,c∈all:=λc hc=>xcH hc;have hmD:∀{i:Nat},∀c∈all.drop i,c∈all:=λc hc=>List.mem_of_mem_drop hc;refine aG.bX ?_;rw[xax];refine⟨λvs H=>∃(i:Nat) (T':Nd->Option Nat) (C1:Hp),vs=[iv (i:Int)]/\H=Na++C1/\i<=all.length/\cQ kp {K with T:=T'} ord ah tr C1/\jQ {K with T:=T'} S (λs=>∃c∈all.take i,s=c.r) zero'/\(∀d,T' d=none\/T' d=K.T d),
  λvs _=>all.length-bN vs 0,JE.mk ⟨0,K.T,C,rfl,rfl,xaO _,h0,hok.mid.congr (λs=>by simp[iL]) (λ_ _=>rfl),λ_=>.inr rfl⟩,?_⟩
 rintro w H ⟨i,T',C1,hw,rfl,hi,dL,M8,M6⟩ gs;simp only[xav,xaW]at hw;subst hw;refine ae.fy (Br.dec (λhlt=>?_) (λWa=>?_))
 ·obtain⟨c,pc⟩:∃c,all[i]? =some c:=⟨_,xaa hlt⟩;have FZ:c∈all:=xau pc;obtain⟨A4,acI,hce⟩:=tb.oo FZ;refine aG.Kv (r:=mA c) (by rw[xat,pc];rfl) (λz hz=>xae _ hz) ?_;intro b31 _;refine St.p (mi _) ?_;obtain⟨b1,rfl,XX⟩:=dL;refine DR.self (Nil.ptr (ai.mk (Ld.f ?_)));refine ai.mk (az.mk (vs:=(bu c.d).toArray) (.head _) (by simp[mA]) rfl ?_);have hTc:T' c.d=some c.r:=(M8.kg c.d c.r).2 ⟨A4,by rintro⟨c',pe,e⟩;exact hge pc (e▸xaT pe)⟩;refine aa.fq (yx (d:=c.d) XX.ut (hok.mid.var A4) hTc) ?_;rintro v CT' ⟨rfl,Zc⟩;refine ae.inc (aC.of .tail ⟨i+1,qJ T' c.d none,_,rfl,rfl,by omega,⟨{b1 with CT:=CT'},rfl,{XX with ut:=Zc}⟩,(M8.af9 (r:=c.r) (d:=c.d) A4 ?_).congr (λs=>?_) (λ_ _=>rfl),λd=>?_⟩ (by simp[bN];omega))
  ·rintro⟨c',pe,e⟩;exact hge pc (e▸xaT pe)
  ·rw[ny pc];constructor
   ·rintro(⟨c',pe,e⟩|e)
    ·exact⟨c',xae _ pe,e⟩
    exact⟨c,by simp,e⟩
   rintro⟨c',pe,e⟩;rcases xao.1 pe with pe|pe
   ·exact .inl ⟨c',pe,e⟩
   simp at pe;subst pe;exact .inr e
  unfold qJ;split
  ·exact .inl rfl
  exact M6 d
 have hi':i=all.length:=by omega
 subst hi';rw[xa9]at M8;have hTI:=tb.start M8 M6;refine aG.bX ?_;rw[xax];refine⟨λvs H=>∃(i:Nat) (K1:Kd) (S1:Nat->aq.Fn) (C1:Hp),vs=[iv (i:Int)]/\H=Na++C1/\i<=all.length/\cQ kp K1 ord ah tr C1/\TI K S (lv ah) x y l made K1 S1 (all.take i) (all.drop i) (kz (all.take i))/\
   PL (kz (all.take i)) K1.N/\Idle K1/\(∀r d,K.N r=none->K1.N r=some d->0<K1.use r),
  λvs _=>all.length-bN vs 0,JE.mk ⟨0,_,S,C1,rfl,rfl,xaO _,dL,hTI,λt _ h=>by simp[kz]at h,RM,λr d h1 h2=>by rw[h1]at h2;cases h2⟩,?_⟩
 clear hTI M8 M6 dL T' C1 Wa hi;rintro w H ⟨i,K1,S1,C1,hw,rfl,hi,dL,M6,Wm,RL,XJ⟩ gs;simp only[xav,xaW]at hw;subst hw;refine ae.fy (Br.dec (λhlt=>?_) (λWa=>?_))
 ·obtain⟨c,pc⟩:∃c,all[i]? =some c:=⟨_,xaa hlt⟩;have FZ:c∈all:=xau pc;obtain⟨A4,acI,hce⟩:=tb.oo FZ;rw[hdr pc]at M6;have jg:∀c'∈c::all.drop (i+1),c'∈all:=by rw[<-hdr pc];exact hmD
  have hPb:∀s,kz (all.take i) s<=2097152:=λs=>by have:=AJ s (all.take i);rw[xbF]at this;omega
  refine aG.Kv (r:=mA c) (by rw[xat,pc];rfl) (λz hz=>xae _ hz) ?_;intro b53 _;refine St.p (mi _) ?_;refine DR.self (Nil.ptr (ai.mk (Ld.f ?_)));refine Ld.f ?_;refine aa.fq (So tb dL M6 Zr jg FZ (k:=⟨x,c.x7,c.tT⟩) (by simp[keys]) Wm RL (λs=>by have:=hPb s;omega)) ?_;rintro w C2 ⟨t0,K2,S2,rfl,cR,hT2,abG,g0,Wl,FU,ahX,aff⟩;refine Nil.ptr (ai.mk (aa.fq (PD cR hT2 Wl FU (λs=>by have:=hPb s;omega) (hT2.rD tb Zr abG)) ?_));rintro w C3 ⟨K3,rfl,j3,hT3,ZQ,agc,hN3,afA,ab5⟩;have ac2:∀s,(kz (all.take i) s+if s=t0 then 1 else 0)<=2097153:=λs=>by have:=hPb s;split<;>omega
  refine DR.self (Nil.ptr (ai.mk (Ld.f ?_)));refine Ld.f ?_;refine aa.fq (So tb j3 hT3 Zr jg FZ (k:=⟨x,c.x6,c.tS⟩) (by simp[keys]) ZQ agc (λs=>by have:=ac2 s;omega)) ?_;rintro w C4 ⟨t1,K4,S4,rfl,M9,hT4,abF,g1,ZP,agb,Xr,afe⟩;refine Nil.ptr (ai.mk (aa.fq (PD M9 hT4 ZP agb (λs=>by have:=ac2 s;omega) (hT4.rD tb Zr abF)) ?_));rintro w C5 ⟨K5,rfl,KI,hT5,alq,aga,hN5,afz,ab4⟩;have Xx:yb K K5 (lv ah) x l t0:=yb.mono abG (λs d hs=>by rw[hN5];exact Xr s d (by rw[hN3];exact hs));have Xw:yb K K5 (lv ah) x l t1:=yb.mono abF (λs d hs=>by rw[hN5];exact hs);have g0':(c.x7=c.tT/\t0=c.x7)\/K5.N t0=some ⟨x,c.x7,c.tT⟩:=by
   rcases g0 with g0|g0
   ·exact .inl g0
   exact .inr (by rw[hN5];exact Xr _ _ (by rw[hN3];exact g0))
  have g1':(c.x6=c.tS/\t1=c.x6)\/K5.N t1=some ⟨x,c.x6,c.tS⟩:=by
   rcases g1 with g1|g1
   ·exact .inl g1
   exact .inr (by rw[hN5];exact g1)
  have afU:((all.take i++c::all.drop (i+1)).map Cx.r).Nodup:=by rw[<-hdr pc,xbq];exact fA
  obtain⟨hTn,hT6⟩:=hT5.Ap tb Zr jg afU Xx Xw g0' g1' (P':=kz (all.take (i+1))) (λs _=>by
   rw[ny pc,Mu,eo ⟨y,t0,t1⟩];have WJ:(if t0=s then 1 else 0)=(if s=t0 then 1 else 0:Nat):=by split<;>split<;>first|rfl|(exfalso;omega)
   have e2':(if t1=s then 1 else 0)=(if s=t1 then 1 else 0:Nat):=by split<;>split<;>first|rfl|(exfalso;omega)
   simp only[WJ,e2'];omega)
  have RE:∀{t:Nat},yb K K5 (lv ah) x l t->live K5.N t:=λhk=>hT5.rD tb Zr hk;have ZH:∃e,K5.N c.r=some e:=hT5.kept A4;refine Build.mk (cs:=bu ⟨y,t0,t1⟩) zK λb83 _=>?_;refine St.p (λz hz=>by simp[bu,u32]at hz;rcases hz with rfl|rfl|rfl<;>rfl) ?_;obtain⟨b5,rfl,hO5⟩:=KI;refine DR.self (Nil.ptr (ai.mk (Ld.f ?_)));refine Ld.f ?_;refine az.q ?_;have Za:y<K5.n:=by rw[hT5.n];exact nb.yn
  refine aa.fq (WV (d:=⟨y,t0,t1⟩) hO5.ar ⟨by show y<64;have:=hO5.lT;omega,RE Xx,RE Xw⟩ ZH (tb.ok.mid.two A4).1) ?_;rintro w CA' ⟨rfl,har⟩;refine DR.self (Nil.ptr (ai.mk (Ld.f ?_)));refine az.q ?_;refine Ld.f ?_;refine aa.fq (JK (d:=⟨y,t0,t1⟩) (r:=c.r) hO5.ut Za hTn) ?_;rintro w CT' ⟨rfl,Zc⟩;refine ae.inc (aC.of (.skip .tail) ⟨i+1,{K5 with N:=up K5.N c.r (some ⟨y,t0,t1⟩),T:=qJ K5.T ⟨y,t0,t1⟩ (some c.r)},S4,_,rfl,rfl,by omega,⟨{b5 with CA:=CA',CT:=CT'},rfl,{hO5 with ar:=har,ut:=Zc}⟩,by rw[ny pc]at hT6⊢;exact hT6,λt Sj hp=>?_,λs hs=>?_,λr d Zj hrd=>?_⟩ (by simp[bN];omega))
  ·obtain⟨c',pe,kx⟩:=Cu hp;have agx:=Zr c' pe;have R2:=(tb.oo agx).1;have hlv:live K.N t:=by
    rcases kx with rfl|rfl
    ·exact tb.ok.mid.lo R2
    exact tb.ok.mid.hi R2
   rcases hlv with hlv|⟨d,hd⟩
   ·omega
   exact hT6.kept hd
  ·have hs':up K5.N c.r (some ⟨y,t0,t1⟩) s=none:=hs;have hne:s≠c.r:=λe=>by subst e;rw[aO]at hs';cases hs'
   rw[aQ hne]at hs';exact aga s hs'
  have Zg:up K5.N c.r (some ⟨y,t0,t1⟩) r=some d:=hrd;have hne:r≠c.r:=λe=>by rw[e,A4]at Zj;cases Zj
  rw[aQ hne,hN5]at Zg;have Pq:2<=r:=(hT4.mid.two Zg).1;show 0<K5.use r;rcases afe r d Zg with e|⟨h3,hu3⟩
  ·rw[e]at Pq⊢;exact ab4 Pq
  rw[hN3]at h3;have h5:=afz r;rcases aff r d h3 with e|⟨h1,FN⟩
  ·rw[e]at Pq⊢h5 hu3;have:=ab5 Pq;omega
  have:=XJ r d Zj h1;have:=afA r;omega
 have hi':i=all.length:=by omega
 subst hi';rw[xa9,xeA]at M6;rw[xa9]at Wm;have uA:=PI tb M6 XJ;refine aG.bX ?_;rw[xax];refine⟨λvs H=>∃(i:Nat) (K2:Kd) (C2:Hp),vs=[iv (i:Int)]/\H=Na++C2/\i<=all.length/\cQ kp K2 ord ah tr C2/\jQ K2 S1 iL (kz (all.drop i))/\Pos K2/\PL (kz (all.drop i)) K2.N/\ya K2 K1,
  λvs _=>all.length-bN vs 0,JE.mk ⟨0,K1,C1,rfl,rfl,xaO _,dL,M6.mid.congr (λs=>by simp[iL]) (λ_ _=>rfl),uA,Wm,.refl K1⟩,?_⟩
 clear dL Wm hi Wa C1;rintro w H ⟨i,K2,C2,hw,rfl,hi,cR,KH,mT,Wl,dS⟩ gs;simp only[xav,xaW]at hw;subst hw;refine ae.fy (Br.dec (λhlt=>?_) (λWa=>?_))
 ·obtain⟨c,pc⟩:∃c,all[i]? =some c:=⟨_,xaa hlt⟩;have FZ:c∈all:=xau pc;obtain⟨A4,acI,hce⟩:=tb.oo FZ;have hPb:∀s,kz (all.drop i) s<=2097152:=λs=>by have:=AJ s (all.drop i);rw[List.length_drop]at this;omega
  have hlo:=h0.lt (hok.mid.lo A4);have hhi:=h0.lt (hok.mid.hi A4);refine aG.Kv (r:=mA c) (by rw[xat,pc];rfl) (λz hz=>xae _ hz) ?_;intro amo _;refine St.p (mi _) ?_;refine DR.self (Nil.ptr (ai.mk (ai.mk (Ld.f ?_))));have FU:Idle K2:=dS.idle RL;have hub:∀s,K2.use s<2147483648:=λs=>by have:=uN KH FU hPb s;omega
  rw[hdr pc,QB]at KH Wl;refine aa.fq (mI cR KH mT Wl hlo hub) ?_;rintro w C3 ⟨rfl,K3,j3,Wn,T0,ZQ,RG⟩;refine DR.self (Nil.ptr (ai.mk (ai.mk (Ld.f ?_))));refine aa.fq (mI j3 Wn T0 ZQ hhi (λs=>xaz (RG.us s) (hub s))) ?_;rintro w C4 ⟨rfl,K4,M9,hM4,hp4,ZP,Zs⟩;exact ae.inc (aC.of .tail ⟨i+1,K4,C4,rfl,rfl,by omega,M9,hM4,hp4,ZP,Zs.trans (RG.trans dS)⟩ (by simp[bN];omega))
 have hi':i=all.length:=by omega
 subst hi';rw[xeA]at KH;have FU:Idle K2:=dS.idle RL;obtain⟨f1,f2,f3⟩:=M6.fin tb (K':=K2) (KH.congr (λ_=>xcW) (λ_ _=>rfl)) mT (λh=>dS.N h) dS.n (λr=>by show K2.ho.getD r 0=K1.ho.getD r 0;rw[dS.ho]);have V0:K2.n=K.n:=by rw[dS.n,M6.n]
 obtain⟨b2,rfl,hO2⟩:=cR;refine DR.self (Ld.n ?_);refine Ld.n ?_;refine ae.inc (hO2.od.nu (x:=(y:Int)) (.app (.cons (.app (.app (.app (.app .left)))))) (by rw[au];omega) λCO1 Dn=>?_);refine Dn.nu (x:=(x:Int)) (.app (.cons (.app (.app (.app (.app .left)))))) (by rw[xbQ,au];omega) λCO2 xU=>?_;refine DR.self (Ld.n ?_);refine Ld.n ?_;refine ae.inc ?_;have ni:=hO2.ol.2;have hxn:=nb.xn;have Za:=nb.yn;refine hO2.lv.nu (x:=((l+1:Nat):Int)) (.app (.cons (.app (.app (.app (.app (.app .left))))))) (by rw[au];omega) λCL1 Dr=>?_;refine Dr.nu (x:=(l:Int)) (.app (.cons (.app (.app (.app (.app (.app .left))))))) (by rw[xbQ,au];omega) λCL2 qM=>?_;rw[eY,eY]at xU qM;have BC:(ord.set l y).set (l+1) x=fI ord l:=by rw[hx,hy];rfl
 rw[BC]at xU;have hlv:lv ((ah.set x (l+1)).set y l)=tY (lv ah) x y l:=YQ nb.ne zO zO;refine aN.mk .right (.inl ⟨by omega,rfl,K2,S1,_,⟨{b2 with CO:=CO2,CL:=CL2},rfl,{hO2 with od:=xU,lv:=qM,ol:=?_}⟩,by rw[hlv];exact f1,by rw[hlv,V0,hx,hy];exact UB ho hl,FU,V0,by rw[dS.cap,M6.cap],λr=>?_,f2,f3⟩)
 ·rw[mG];simp;exact hO2.ol
 show K2.ho.getD r 0=K.hold r;rw[dS.ho];exact M6.hold r
end
structure bP(kp:Nat)(K:Kd)(S:Nat->aq.Fn)(ord ah tr:zL)(C:Hp):Prop where
 rep:cQ kp K ord ah tr C
 ok:Ok K S (lv ah)
 od:Ord K.n (lv ah) ord
 idle:Idle K
 tr:x8 K.n K.cap (K.held S) ord tr.reverse
theorem Kept.refl(K:Kd)(S:Nat->aq.Fn):Kept K S K S:=⟨rfl,rfl,λ_=>rfl,λ_=>xcW,λ_ _=>rfl⟩
theorem Kept.trans{K K' K2:Kd}{S S' S2:Nat->aq.Fn}(h:Kept K S K' S')(h':Kept K' S' K2 S2):Kept K S K2 S2:=
 ⟨h'.n.trans h.n,h'.cap.trans h.cap,λr=>(h'.hold r).trans (h.hold r),λg=>(h'.held g).trans (h.held g),λr hr=>(h'.fn r (by rw[h.hold];exact hr)).trans (h.fn r hr)⟩
section
variable {kp:Nat} {K:Kd} {ord ah tr:zL} {C:Hp} {S:Nat->aq.Fn}
theorem SC(h:bP kp K S ord ah tr C){l:Int}(hl:¬(0<=l/\l+1<K.n)):Rd zQ 94 #[ptr kp,iv l] C (· =iv 1):=by
 obtain⟨b,rfl,hO⟩:=h.rep;have hn:=hO.lT;refine aF λg=>z5 (ae.aI (Br.no (ae.lss (c6.or (decide ((K.n:Int) -2<l)) (λ_=>?_) zI λgs=>?_))))
 ·refine Ld.n ?_;exact ae.lH (c:=(K.n:Int) -2) rfl zO (ae.gtr ⟨rfl,rfl⟩)
 rw[<-xa6];exact Br.T (bg.mk (.refl _) rfl)
theorem KR(h:bP kp K S ord ah tr C){l:Nat}(hl:l+1<K.n)(eU:tr.length<17592186044416):Fc zQ 94 #[ptr kp,iv (l:Int)] C (λr C'=>
   (Am K.n ord l (K.held S)+2<=K.cap/\r=iv 0/\∃K' S' bR,bP kp K' S' (fI ord l) bR (tr++[l]) C'/\Kept K S K' S')\/
   (K.cap<Am K.n ord l (K.held S)+2/\r=iv 9/\C'=C)):=by
 have h0:=h;obtain⟨b,hC,hO⟩:=h.rep;have hn:=hO.lT;refine aF λg=>z5 (ae.aI (Br.no (ae.lss (c6.or (decide ((K.n:Int) -2<l)) (λ_=>?_) zI λgs=>?_))))
 ·refine Ld.v (by rw[hC];exact .head _) ?_;exact ae.lH (c:=(K.n:Int) -2) rfl zO (ae.gtr ⟨rfl,rfl⟩)
 rw[<-xa6];refine Br.F (aa.fq (JL h.rep h.ok h.od h.idle hl) ?_);rintro w C' (⟨hfit,rfl,K',S',bR,cX,A0,Zp,v7,rG⟩|⟨hno,rfl,rfl⟩)
 ·refine Un.not (Br.no ?_);obtain⟨b',rfl,xY⟩:=cX;refine Ld.n ?_;refine ax.int (e:=3) zK zK zK λbx=>?_;refine xY.tr.rV (.cons (.cons (.app (.app (.app (.app (.app (.app .here)))))))) (by exact .head _) (by rw[au];omega) (by rw[au];omega) λv' CR' cC=>?_;refine Nil.ptr (ai.mk (St.one (by exact .tail (.head _)) cC.one (by simp[ur.cells]) rfl ?_));refine aN.mk .tail (.inl ⟨hfit,rfl,K',S',bR,⟨⟨{b' with vt:=v',CR:=CR'},rfl,{xY with tr:=by rw[cG];exact cC}⟩,A0,Zp,v7,?_⟩,rG⟩);rw[rG.n,rG.cap];exact(x8.ahh hO.ol.1 hl hfit h.tr).congr λg=>(rG.held g).symm
 exact Un.not (Br.yes (aN.here (.inr ⟨hno,rfl,rfl⟩)))
theorem Uv{l:Nat}(h:bP kp K S ord ah (tr++[l]) C)(eU:tr.length<17592186044416):Fc zQ 231 #[ptr kp] C (λr C'=>
   r=.tuple #[iv (l:Int),iv 0]/\l+1<K.n/\∃K' S' bR,bP kp K' S' (fI ord l) bR tr C'/\Kept K S K' S'):=by
 have h0:=h;obtain⟨b,hC,hO⟩:=h.rep;have hn:=hO.lT;have FO:=h.tr;rw[List.reverse_append]at FO;obtain⟨hl,hfit,ue⟩:l+1<K.n/\Am K.n ord l (K.held S)+2<=K.cap/\x8 K.n K.cap (K.held S) (fI ord l) tr.reverse:=FO;have hmk:(kp,Obj.cells (b.cells K.n) 91 zZ)∈C:=by rw[hC];exact .head _
 refine aF λg=>HD (ae.aI (c6.or false (λ_=>?_) rfl λgs=>Br.no ?_))
 ·refine Ld.v hmk ?_;refine hO.tr.bX (ae.ia ⟨rfl,?_⟩);rw[xal];rw[au,xaf];simp;omega
 refine Ld.v hmk ?_;refine hO.tr.bX ?_;rw[au,xaf];refine ae.cc (a:=tr.length+1) (b:=1) ?_;rw[xb4];refine Ld.v hmk ?_;refine hO.tr.ld (i:=tr.length) (x:=(l:Int)) (by rw[cG];simp[iw]) (by rw[hC];exact bG.sub (.cons (.app (.app (.app (.app (.app (.app .here)))))))) (aa.fq (JL h.rep h.ok h.od h.idle hl) ?_);rintro w C' (⟨_,rfl,K',S',bR,cX,A0,Zp,v7,rG⟩|⟨hno,rfl,rfl⟩);rotate_left
 ·omega
 obtain⟨b',rfl,xY⟩:=cX;refine Ld.n ?_;refine xY.tr.cut (i:=tr.length) (by rw[au];simp) λv' n7=>?_;refine Nil.ptr (ai.mk (St.one (by exact .head _) n7.one (by simp[ur.cells]) rfl ?_));refine aN.here ⟨rfl,hl,K',S',bR,⟨⟨{b' with vt:=v'},rfl,{xY with tr:=by rw[cG,xeG zI]at n7;exact n7}⟩,A0,Zp,v7,?_⟩,rG⟩;rw[rG.n,rG.cap];exact ue.congr λg=>(rG.held g).symm
theorem bP.bM(h:bP kp K S ord ah tr C){r:Nat}(hl:live K.N r):r<1048576:=h.rep.lt hl
theorem bP.dN(h:bP kp K S ord ah tr C)(r:Nat):K.hold r<=65535:=h.ok.mid.mx r
theorem bP.EP(h:bP kp K S ord ah tr C)(r:Nat):K.use r<=2097153:=by have:=uN h.ok.mid h.idle (M:=0) (λ_=>xai _) r;omega
structure W7(K K':Kd)(r:Nat):Prop where
 n:K'.n=K.n
 cap:K'.cap=K.cap
 used:K'.used=K.used
 N:K'.N=K.N
 hold:∀s,K'.hold s=if s=r/\2<=r then K.hold s+1 else K.hold s
theorem o8(h:bP kp K S ord ah tr C){r:Nat}(hl:live K.N r)(h2:2<=r)(hf:K.hold r=65535):Rd zQ 84 #[ptr kp,u32 r] C (· =iv 8):=by
 have hr:=h.bM hl;obtain⟨b,hC,hO⟩:=h.rep;have hfit:r<K.ho.length:=by
  rcases hl with hl|⟨d,hd⟩
  ·omega
  rw[<-hO.ul.1];exact h.ok.mid.fit hd
 refine aF λg=>z8 (ae.aI (Br.no (Nil.ptr (ai.mk (aa.eq (n6 h.rep zO) ?_)))));rw[ca.2 hl];refine Un.not (Br.no λJ7 _=>(ae.nB (b:=1) (Br.T (Nil.ptr (ai.mk (Ld.u (by rw[hC];exact .head _) ?_))))));refine hO.ho.ld (x:=((K.hold r:Nat):Int)) (bH hfit) (by rw[hC];exact bG.sub (.cons (.app (.app (.app .left))))) ?_;rw[hf];exact ae.ia (Br.T (bg.mk (.refl _) rfl))
theorem Dd(h:cQ kp K ord ah tr C)(hM0:jQ K S iL zero')(V9:Idle K){r:Nat}(hl:live K.N r)(hf:2<=r->K.hold r<65535):Fc zQ 84 #[ptr kp,u32 r] C (λv C'=>v=iv 0/\∃K',cQ kp K' ord ah [] C'/\
  jQ K' S iL zero'/\Idle K'/\W7 K K' r/\(∀s,K.use s<=K'.use s)/\(2<=r->0<K'.use r)):=by
 have hr:=h.lt hl;have h0:=h;obtain⟨b,hC,hO⟩:=h;refine aF λg=>z8 (ae.aI (Br.no (Nil.ptr (ai.mk (aa.eq (n6 h0 zO) ?_)))));rw[ca.2 hl];refine Un.not (Br.no λJ7 hJ7=>?_);have fin:∀(K':Kd) C1,cQ kp K' ord ah tr C1->jQ K' S iL zero'->Idle K'->W7 K K' r->(∀s,K.use s<=K'.use s)->(2<=r->0<K'.use r)->J7 [] C1:=λK' C1 cX A0 v7 hm hu hp=>by
  refine hJ7 _ λgs=>?_;obtain⟨b',rfl,xY⟩:=cX;refine Nil.ptr (ai.mk (St.one (by exact .head _) rfl (by simp[ur.cells]) rfl ?_));refine aN.mk (nG:=({b' with vt:=.slice none 0 0,CR:=[]}:ur).hp kp K'.n) ?_ ⟨rfl,K',⟨{b' with vt:=.slice none 0 0,CR:=[]},rfl,{xY with tr:=aT.nil}⟩,A0,v7,hm,hu,hp⟩;refine .cons (.dc (.dc (.dc (.dc (.dc (.dc .nil _) _) _) _) _) _)
 refine ae.nB (b:=1) (Br.dec (λh2=>?_) (λh2=>?_));rotate_left
 ·refine JE.mk (fin K C h0 hM0 V9 ⟨rfl,rfl,rfl,rfl,λs=>?_⟩ (λ_=>xai _) (λh=>by omega));rw[xac zO]
 have me:2<=r:=by omega
 have MY:=hf me;obtain⟨d,hd⟩:∃d,K.N r=some d:=by
  rcases hl with hl|hl
  ·omega
  exact hl
 have hfu:=hM0.fit hd;have MT:=hO.ul;have hfit:r<K.ho.length:=by omega
 subst hC;refine Nil.ptr (ai.mk (Ld.f ?_));refine hO.ho.ld (x:=((K.hold r:Nat):Int)) (bH hfit) (bG.sub (.cons (.app (.app (.app .left))))) (ae.ia (Br.F (Nil.ptr (ai.mk (Ld.f ?_)))));refine hO.ho.ld (x:=((K.hold r:Nat):Int)) (bH hfit) (bG.sub (.cons (.app (.app (.app .left))))) (ae.inc (hO.ho.nu (x:=((K.hold r+1:Nat):Int)) (.cons (.app (.app (.app .left)))) (by rw[au];exact hfit) λTS pD=>?_));rw[eY]at pD;have g1:∀s,(K.ho.set r (K.hold r+1)).getD s 0=if s=r then K.hold r+1 else K.hold s:=λs=>gO hfit
 refine Nil.ptr (ai.mk (Ld.f ?_));refine pD.ld (x:=((K.hold r+1:Nat):Int)) (by rw[bH (by simpa using hfit),g1,xad rfl]) (bG.sub (.cons (.app (.app (.app .left))))) ?_;refine ae.eL (b:=1) (Br.dec (λh3=>?_) (λh3=>?_))
 ·refine Nil.ptr (ai.mk (Ld.f ?_));refine hO.us.ld (x:=((K.use r:Nat):Int)) (bH hfu) (bG.sub (.cons (.app (.app .left)))) ?_;have hub:=uN hM0 V9 (M:=0) (λ_=>xai _) r;refine ae.inc (hO.us.nu (x:=((K.use r+1:Nat):Int)) (.cons (.app (.app .left))) (by rw[au];exact hfu) λUj AY=>?_);rw[eY]at AY;have g2:∀s,(K.us.set r (K.use r+1)).getD s 0=if s=r then K.use r+1 else K.use s:=λs=>gO hfu
  have hM:=hM0.keep (r:=r) (dr:=K.us.set r (K.use r+1)) (cC:=K.ho.set r (K.hold r+1)) ⟨d,hd⟩ MY zI (by rw[g1,xad rfl]) (λs hs=>by rw[g1,xac hs]) (by rw[g2,xad rfl,xad zO]) (λs hs=>by rw[g2,xac hs]);refine JE.mk (fin {K with us:=K.us.set r (K.use r+1),ho:=K.ho.set r (K.hold r+1)} _ ⟨{b with CU:=Uj,CH:=TS},rfl,{hO with us:=AY,ho:=pD,ul:=by simp;exact MT}⟩ hM (λs hs=>?_) ⟨rfl,rfl,rfl,rfl,λs=>?_⟩ (λs=>?_) (λ_=>?_))
  ·show(K.us.set r (K.use r+1)).getD s 0=0;have hs':K.N s=none:=hs;rw[g2,xac (λe=>by rw[e,hd]at hs';cases hs')];exact V9 s hs'
  ·show(K.ho.set r (K.hold r+1)).getD s 0=_;rw[g1];by_cases e:s=r
   ·subst e;rw[xad rfl,xad ⟨rfl,me⟩]
   rw[xac e,xac (λh=>e h.1)]
  ·show K.use s<=(K.us.set r (K.use r+1)).getD s 0;rw[g2];split
   ·rename_i e;subst e;omega
   exact xai _
  show 0<(K.us.set r (K.use r+1)).getD r 0;rw[g2,xad rfl];omega
 have hM:=hM0.keep (r:=r) (dr:=K.us) (cC:=K.ho.set r (K.hold r+1)) ⟨d,hd⟩ MY zI (by rw[g1,xad rfl]) (λs hs=>by rw[g1,xac hs]) (by show K.use r=_;rw[xac zO];rfl) (λs hs=>rfl);refine JE.mk (fin {K with ho:=K.ho.set r (K.hold r+1)} _ ⟨{b with CH:=TS},rfl,{hO with ho:=pD,ul:=by simp;exact MT}⟩ hM V9 ⟨rfl,rfl,rfl,rfl,λs=>?_⟩ (λ_=>xai _) (λ_=>?_));rotate_left
 ·show 0<K.use r;rw[hM0.use hd,xac zO];omega
 show(K.ho.set r (K.hold r+1)).getD s 0=_;rw[g1];by_cases e:s=r
 ·subst e;rw[xad rfl,xad ⟨rfl,me⟩]
 rw[xac e,xac (λh=>e h.1)]
theorem mP(h:bP kp K S ord ah tr C){r:Nat}(hl:live K.N r)(hf:2<=r->K.hold r<65535):Fc zQ 84 #[ptr kp,u32 r] C (λv C'=>v=iv 0/\∃K',bP kp K' S ord ah [] C'/\W7 K K' r):=by
 refine(Dd h.rep h.ok.mid h.idle hl hf).mono ?_;rintro v C' ⟨rfl,K',cX,ZT,v7,hm,hu,hp⟩;refine⟨rfl,K',⟨cX,⟨ZT,λs d hs=>?_,by rw[hm.n];exact h.ok.lv,by rw[hm.n,hm.N];exact h.ok.wf⟩,by rw[hm.n];exact h.od,v7,trivial⟩,hm⟩;rw[hm.N]at hs;exact xaN (h.ok.pos s d hs) (hu s)
end
section
variable {kp:Nat} {K:Kd} {ord ah tr:zL} {C:Hp} {S:Nat->aq.Fn}
theorem Ku{K':Kd}{P:Nat->Nat}(hw:WF K.n (lv ah) K.N)(hM:jQ K' S iL P)(hN:∀{s d},K'.N s=some d->K.N s=some d)(hn:K'.n=K.n):WF K'.n (lv ah) K'.N:=by
 have same:∀{t},live K'.N t->dep K'.n (lv ah) K'.N t=dep K.n (lv ah) K.N t:=λ{t} ht=>by
  cases e:K'.N t with
  |some f=>rw[an e,an (hN e)]
  |none=>
   have XD:t<2:=by
    rcases ht with ht|⟨f,hf⟩
    ·exact ht
    rw[e]at hf;cases hf
   rw[aS e,aS (hw.const XD),hn]
 refine hM.wf λ{s d} hs=>?_;rw[same (hM.lo hs),same (hM.hi hs)];exact⟨(hw.lo (hN hs)).2,(hw.hi (hN hs)).2⟩
structure Aj(K K':Kd)(r:Nat):Prop where
 n:K'.n=K.n
 cap:K'.cap=K.cap
 N:∀s d,K'.N s=some d->K.N s=some d
 hold:∀s,K'.hold s=if s=r/\2<=r then K.hold s-1 else K.hold s
theorem adz(h:bP kp K S ord ah tr C){r:Nat}(hr:r<4294967296)(h2:2<=r)(h0:K.hold r=0):Rd zQ 85 #[ptr kp,u32 r] C (· =iv 3):=by
 refine aF λg=>z7 (ae.aI (Br.no ?_));intro J2 _;refine ae.nB (b:=1) (Br.T (aa.eq (vP h.rep hr (λs=>by have:=h.dN s;omega)) ?_));rw[h0];exact ae.ia (Br.T (bg.mk (.refl _) rfl))
theorem mY(h:bP kp K S ord ah tr C){r:Nat}(hr:r<4294967296)(hh:2<=r->K.hold r≠0):Fc zQ 85 #[ptr kp,u32 r] C (λv C'=>v=iv 0/\∃K',bP kp K' S ord ah [] C'/\Aj K K' r):=by
 have h0:=h;obtain⟨b,hC,hO⟩:=h.rep;refine aF λg=>z7 (ae.aI (Br.no ?_));intro J2 BJ;have fin:∀(K':Kd) C1,cQ kp K' ord ah tr C1->Ok K' S (lv ah)->Idle K'->Aj K K' r->J2 [] C1:=λK' C1 cX A0 v7 hm=>by
  refine BJ _ λgs=>?_;obtain⟨b',rfl,xY⟩:=cX;refine Nil.ptr (ai.mk (St.one (by exact .head _) rfl (by simp[ur.cells]) rfl ?_));have kZ:Ord K'.n (lv ah) ord:=by rw[hm.n];exact h.od
  refine aN.mk (nG:=({b' with vt:=.slice none 0 0,CR:=[]}:ur).hp kp K'.n) ?_ ⟨rfl,K',⟨⟨{b' with vt:=.slice none 0 0,CR:=[]},rfl,{xY with tr:=aT.nil}⟩,A0,kZ,v7,trivial⟩,hm⟩;refine .cons (.dc (.dc (.dc (.dc (.dc (.dc .nil _) _) _) _) _) _)
 refine ae.nB (b:=1) (Br.dec (λh2=>?_) (λh2=>?_));rotate_left
 ·exact JE.mk (fin K C h.rep h.ok h.idle ⟨rfl,rfl,λ_ _ h=>h,λs=>by rw[xac zO]⟩)
 have me:2<=r:=by omega
 have pD:=hh me;obtain⟨d,hd⟩:=h.ok.mid.held r pD;have hfu:=h.ok.mid.fit hd;have MT:=hO.ul;have hfit:r<K.ho.length:=by omega
 have hle:=h.dN r;refine aa.eq (vP h.rep hr (λs=>by have:=h.dN s;omega)) (ae.ia (Br.F ?_));subst hC;refine Nil.ptr (ai.mk (Ld.f ?_));refine hO.ho.ld (x:=((K.hold r:Nat):Int)) (bH hfit) (bG.sub (.cons (.app (.app (.app .left))))) (ae.cc (b:=1) (hO.ho.nu (x:=((K.hold r-1:Nat):Int)) (.cons (.app (.app (.app .left)))) (by rw[au];exact hfit) λTS ZB=>?_));rw[eY]at ZB;have g1:∀s,(K.ho.set r (K.hold r-1)).getD s 0=if s=r then K.hold r-1 else K.hold s:=λs=>gO hfit
 have hM:=h.ok.mid.drop (r:=r) (cC:=K.ho.set r (K.hold r-1)) zO zI (by rw[g1,xad rfl];omega) (λs hs=>by rw[g1,xac hs]);have dL:cQ kp {K with ho:=K.ho.set r (K.hold r-1)} ord ah tr (({b with CH:=TS}:ur).hp kp K.n):=⟨_,rfl,{hO with ho:=ZB,ul:=by simp;exact MT}⟩;have hho:∀s,(K.ho.set r (K.hold r-1)).getD s 0=if s=r/\2<=r then K.hold s-1 else K.hold s:=λs=>by
  rw[g1];by_cases e:s=r
  ·subst e;rw[xad rfl,xad ⟨rfl,me⟩]
  rw[xac e,xac (λh=>e h.1)]
 refine Nil.ptr (ai.mk (Ld.f ?_));refine ZB.ld (x:=((K.hold r-1:Nat):Int)) (by rw[bH (by simpa using hfit),g1,xad rfl]) (bG.sub (.cons (.app (.app (.app .left))))) (ae.eL (b:=0) (Br.dec (λh3=>?_) (λh3=>?_)));rotate_left
 ·rw[xac zO]at hM;exact JE.mk (fin {K with ho:=K.ho.set r (K.hold r-1)} _ dL ⟨hM,h.ok.pos,h.ok.lv,h.ok.wf⟩ h.idle ⟨rfl,rfl,λ_ _ h=>h,hho⟩)
 rw[xad zO]at hM;refine Nil.ptr (ai.mk ?_);have KH:jQ {K with ho:=K.ho.set r (K.hold r-1)} S iL (gR zero' [r]):=hM.congr (λ_=>xcW) λs _=>by
  unfold up gR zero';by_cases e:s=r
  ·subst e;simp
  simp[e,xa8 e]
 refine aa.fq (mI (P0:=zero') dL KH h.ok.pos (λt Sj h0=>?_) (h.bM (.inr ⟨d,hd⟩)) (λs=>by have:=h.EP s;show K.use s<_;omega)) ?_
 ·by_cases e:t=r
  ·subst e;exact⟨d,hd⟩
  have h0':0<zero' t+[r].count t:=h0;simp[zero',xa8 e]at h0'
 rintro w C2 ⟨rfl,K2,cR,Wn,T0,_,dS⟩;refine JE.mk (fin K2 _ cR ⟨Wn,T0,by rw[dS.n];exact h.ok.lv,Ku h.ok.wf Wn (λh=>dS.N h) dS.n⟩ (dS.idle h.idle) ⟨dS.n,dS.cap,λs e hs=>dS.N hs,λs=>?_⟩);show K2.ho.getD s 0=_;rw[dS.ho];exact hho s
structure pV(K:Kd)(S:Nat->aq.Fn)(K':Kd)(S':Nat->aq.Fn)(f:aq.Fn)(r:Nat):Prop where
 n:K'.n=K.n
 cap:K'.cap=K.cap
 used:K'.used<=K.used+1
 N:∀s d,K.N s=some d->K'.N s=some d
 fn:∀s,live K.N s->S' s=S s
 live:live K'.N r
 is:S' r=f
 hold:∀s,K'.hold s=if s=r/\2<=r then K.hold s+1 else K.hold s
theorem AP(h:bP kp K S ord ah tr C){v lo hi:Nat}(hv:v<K.n)(hlo:live K.N lo)(hhi:live K.N hi)(hlt:lo=hi\/(lv ah v<dep K.n (lv ah) K.N lo/\lv ah v<dep K.n (lv ah) K.N hi)):
  Fc zQ 98 #[ptr kp,iv (v:Int),u32 lo,u32 hi] C (λw C'=>
   (∃r K' S',w=.tuple #[u32 r,iv 0]/\bP kp K' S' ord ah [] C'/\pV K S K' S' (ite S ⟨v,lo,hi⟩) r)\/
   (∃r,w=.tuple #[u32 0,iv 8]/\C'=C/\live K.N r/\2<=r/\K.hold r=65535/\S r=ite S ⟨v,lo,hi⟩)\/
   (w=.tuple #[u32 0,iv 9]/\C'=C/\K.cap<=K.used/\lo≠hi/\K.T ⟨v,lo,hi⟩=none)):=by
 have h0:=h;have af3:=h.bM hlo;have agd:=h.bM hhi;have Dr:=ca.2 hlo;have qM:=ca.2 hhi;have hfe:pR K ah (v:Int) lo hi=0:=by
  unfold pR;rw[xac zO,xac (by rw[Dr,qM];simp),xac];rintro⟨hne,hmin⟩;rcases hlt with e|⟨a,b⟩
  ·exact hne e
  simp only[xbd,lv]at hmin a b;omega
 refine aF λg=>NY (ae.aI (Br.no (aa.eq (KQ h.rep (v:Int) zO zO (λr d hd=>⟨h.ok.mid.var hd,(h.ok.mid.two hd).1⟩)) ?_)));rw[hfe];refine ae.cK (Br.F (aa.rq (JV h.rep (lo:=lo) (hi:=hi) hv) ?_));rintro w hw;have there:∀(J9:List zV->Hp->Prop),(∀w12:zV,∀H11:Hp,(∀al1:Fr,aa zQ g 84 #[ptr kp,w12] H11 (λv13 H14=>ae .num .neq v13 (Value.int .i64 0) λv15=>Br v15
   (aN (λw C'=>(∃r K' S',w=.tuple #[u32 r,iv 0]/\bP kp K' S' ord ah [] C'/\pV K S K' S' (ite S ⟨v,lo,hi⟩) r)\/
   (∃r,w=.tuple #[u32 0,iv 8]/\C'=C/\live K.N r/\2<=r/\K.hold r=65535/\S r=ite S ⟨v,lo,hi⟩)\/
   (w=.tuple #[u32 0,iv 9]/\C'=C/\K.cap<=K.used/\lo≠hi/\K.T ⟨v,lo,hi⟩=none)) (.returned (.tuple #[(Value.int .u32 0),v13])) H14) (aN (λw C'=>(∃r K' S',w=.tuple #[u32 r,iv 0]/\bP kp K' S' ord ah [] C'/\pV K S K' S' (ite S ⟨v,lo,hi⟩) r)\/
   (∃r,w=.tuple #[u32 0,iv 8]/\C'=C/\live K.N r/\2<=r/\K.hold r=65535/\S r=ite S ⟨v,lo,hi⟩)\/
   (w=.tuple #[u32 0,iv 9]/\C'=C/\K.cap<=K.used/\lo≠hi/\K.T ⟨v,lo,hi⟩=none)) (.returned (.tuple #[w12,(Value.int .i64 0)])) H14)) (dm (aN (λw C'=>(∃r K' S',w=.tuple #[u32 r,iv 0]/\bP kp K' S' ord ah [] C'/\pV K S K' S' (ite S ⟨v,lo,hi⟩) r)\/
   (∃r,w=.tuple #[u32 0,iv 8]/\C'=C/\live K.N r/\2<=r/\K.hold r=65535/\S r=ite S ⟨v,lo,hi⟩)\/
   (w=.tuple #[u32 0,iv 9]/\C'=C/\K.cap<=K.used/\lo≠hi/\K.T ⟨v,lo,hi⟩=none)))))->J9 [w12] H11)->
   ∀r,live K.N r->S r=ite S ⟨v,lo,hi⟩->J9 [u32 r] C:=λJ9 Sh r hr hS=>by
  refine Sh _ _ λgs=>?_;by_cases hf:2<=r/\K.hold r=65535
  ·exact aa.eq (o8 h hr hf.1 hf.2) (ae.cK (Br.T (aN.here (.inr (.inl ⟨r,rfl,rfl,hr,hf.1,hf.2,hS⟩)))))
  refine aa.fq (mP h hr (λh2=>by have:=h.dN r;omega)) ?_;rintro w C' ⟨rfl,K',cX,hm⟩;refine ae.cK (Br.F (aN.here (.inl ⟨r,K',S,rfl,cX,⟨hm.n,hm.cap,by rw[hm.used];omega,λs d hs=>by rw[hm.N];exact hs,λ_ _=>rfl,by rw[hm.N];exact hr,hS,hm.hold⟩⟩)))
 by_cases he:lo=hi
 ·rw[xad he]at hw;subst hw;refine Ext.two λJ9 Sh=>(Un.not (Br.no (JE.mk (there J9 Sh lo hlo ?_))))
  funext z
  unfold aq.ite;simp[he]
 rw[xac he]at hw;have iu:lv ah v<dep K.n (lv ah) K.N lo/\lv ah v<dep K.n (lv ah) K.N hi:=by
  rcases hlt with e|e
  ·exact absurd e he
  exact e
 obtain⟨o,ho⟩:∃o,o=K.T ⟨v,lo,hi⟩:=⟨_,rfl⟩;cases o with
 |some r=>
  have hT:K.T ⟨v,lo,hi⟩=some r:=ho.symm;rw[hT]at hw;subst hw;refine Ext.two λJ9 Sh=>?_;have hN:=((h.ok.mid.kg _ r).1 hT).1;refine Un.not (Br.no (JE.mk (there J9 Sh r (.inr ⟨_,hN⟩) ?_)))
  funext z
  rw[h.ok.mid.int.node hN];rfl
 |none=>
  have hT:K.T ⟨v,lo,hi⟩=none:=ho.symm;rw[hT]at hw;subst hw;refine Ext.two λJ9 Sh=>(Un.not (Br.yes (Nil.ptr (ai.mk ?_))));have hcap:=h.ok.mid.cap;refine aa.eq (Db h.rep (m:=1) zO zO) (Un.not ?_);by_cases hroom:K.used+1<=K.cap;rotate_left
  ·rw[xal hroom];exact Br.yes (aN.here (.inr (.inr ⟨rfl,rfl,by omega,he,hT⟩)))
  rw[xam hroom];refine Br.no (Nil.ptr (ai.mk (Build.mk (cs:=bu ⟨v,lo,hi⟩) zK ?_)));have hfit:∀{t:Nat},live K.N t->t<2\/t<K.us.length:=λht'=>by
   rcases ht' with ht'|⟨d,dF⟩
   ·exact .inl ht'
   exact .inr (h.ok.mid.fit dF)
  have sL:K.n<=64:=by obtain⟨_,_,hO⟩:=h.rep;exact hO.lT
  refine aa.fq (JN h.rep (d:=⟨v,lo,hi⟩) ⟨by show v<64;omega,hlo,hhi⟩ hv hT zO (hfit hlo) (hfit hhi) (λs=>by have:=h.EP s;omega)) ?_;rintro w C1 ⟨r,dr,cC,rfl,hN,h2,hrc,hlen,hru,MT,u0,u1,u2,o0,o1,dL⟩;have M8:=h.ok.mid.lay (r:=r) (d:=⟨v,lo,hi⟩) hN ⟨h2,hrc⟩ hv he hlo hhi hT (λh=>h) rfl zO hlen ⟨hru,MT⟩ u0 u1 o0 o1;have agU:∀s d,K.N s=some d->up K.N r (some ⟨v,lo,hi⟩) s=some d:=λs d hs=>by rw[aQ (λe=>by rw[e,hN]at hs;cases hs)];exact hs
  have hne:∀{t:Nat},live K.N t->t≠r:=λht=>fZ ht h2 hN;have RL:Idle {K with N:=up K.N r (some ⟨v,lo,hi⟩),T:=qJ K.T ⟨v,lo,hi⟩ (some r),used:=K.used+1,us:=dr,ho:=cC}:=λs hs=>by
   have hs':up K.N r (some ⟨v,lo,hi⟩) s=none:=hs;have Rw:s≠r:=λe=>by subst e;rw[aO]at hs';cases hs'
   rw[aQ Rw]at hs';show dr.getD s 0=0;by_cases h2s:2<=s
   ·rw[u1 s h2s Rw,h.idle s hs',eo];have a1:lo≠s:=λe=>by
     rcases hlo with h5|⟨d,h5⟩
     ·omega
     rw[e,hs']at h5;cases h5
    have a2:hi≠s:=λe=>by
     rcases hhi with h5|⟨d,h5⟩
     ·omega
     rw[e,hs']at h5;cases h5
    simp[a1,a2]
   rw[u2 s zO,h.idle s hs']
  refine JE.mk (Sh _ _ λgs=>?_);refine aa.fq (Dd dL M8 RL (r:=r) (.inr ⟨_,aO⟩) (λ_=>by show cC.getD r 0<65535;rw[o0];omega)) ?_;rintro w C2 ⟨rfl,K2,cR,KH,FU,hm,hu,hp⟩;refine ae.cK (Br.F ?_);have V0:K2.n=K.n:=hm.n;have ZS:K2.N=up K.N r (some ⟨v,lo,hi⟩):=hm.N;have hpos:Pos K2:=λs d hs=>by
   by_cases e:s=r
   ·rw[e];exact hp h2
   rw[ZS,aQ e]at hs;have h3:=hu s;have h4:({K with N:=up K.N r (some ⟨v,lo,hi⟩),T:=qJ K.T ⟨v,lo,hi⟩ (some r),used:=K.used+1,us:=dr,ho:=cC}:Kd).use s=dr.getD s 0:=rfl;rw[h4,u1 s (h.ok.mid.two hs).1 e]at h3;have:=h.ok.pos s d hs;omega
  have A2:∀{t:Nat},live K.N t->dep K2.n (lv ah) K2.N t=dep K.n (lv ah) K.N t:=λ{t} ht=>by
   rw[ZS,V0];unfold dep;rw[aQ (hne ht)]
  have afu:WF K2.n (lv ah) K2.N:=KH.wf λ{s d} hs=>by
   rw[ZS]at hs;by_cases e:s=r
   ·rw[e,aO]at hs;cases hs;rw[A2 hlo,A2 hhi];exact iu
   rw[aQ e]at hs;rw[A2 (h.ok.wf.lo hs).1,A2 (h.ok.wf.hi hs).1];exact⟨(h.ok.wf.lo hs).2,(h.ok.wf.hi hs).2⟩
  have hS:∀s,live K.N s->up S r (ite S ⟨v,lo,hi⟩) s=S s:=λs hs=>aQ (hne hs);refine aN.here (.inl ⟨r,K2,up S r (ite S ⟨v,lo,hi⟩),rfl,⟨cR,⟨KH,hpos,by rw[V0];exact h.ok.lv,afu⟩,by rw[V0];exact h.od,FU,trivial⟩,⟨V0,hm.cap,by rw[hm.used];exact xai _,λs d hs=>by rw[ZS];exact agU s d hs,hS,.inr ⟨_,by rw[ZS];exact aO⟩,aO,λs=>?_⟩⟩);rw[hm.hold];show(if s=r/\2<=r then cC.getD s 0+1 else cC.getD s 0)=_;by_cases e:s=r
  ·subst e;rw[xad ⟨rfl,h2⟩,xad ⟨rfl,h2⟩,o0];have:K.hold s=0:=by
    apply xdG;intro hne;obtain⟨d,hd⟩:=h.ok.mid.held s hne;rw[hN]at hd;cases hd
   omega
  rw[xac (λh=>e h.1),xac (λh=>e h.1),o1 s e]
end
theorem hnew{H:Hp}:bG [] H (λX=>X++H):=bG.left
theorem Ro{n:Nat}(hn:n<=64):Fc zQ 61 #[iv (n:Int)] [] (λv H=>aT 3 .i64 v (iw (List.range n)) H):=by
 refine aF λg=>OA (cS.ints zO zO λb=>?_);have h0:aT 3 .i64 (.slice (some ⟨b,0,none⟩) n n) (List.replicate n 0) [(b,.cells (aA .i64 (List.replicate n 0)) 3 zZ)]:=by
  have:=aT.made (T:=3) (kd:=.i64) (b:=b) (List.replicate n (0:Int));rw[xdY]at this;exact this
 refine⟨λvs H=>∃j:Nat,vs=[iv (j:Int)]/\j<=n/\aT 3 .i64 (.slice (some ⟨b,0,none⟩) n n) (iw (List.range j)++List.replicate (n-j) 0) H,λvs _=>n-bN vs 0,JE.mk ⟨0,rfl,by omega,by simpa[iw]using h0⟩,?_⟩;rintro w H ⟨j,hw,hj,hs⟩ gs;simp only[xav,xaW]at hw;subst hw;refine ae.fy (Br.dec (λhlt=>?_) (λhlt=>?_))
 ·refine hs.nu (x:=(j:Int)) .here zP λC' hs'=>?_;refine ae.inc ?_;have e:(iw (List.range j)++List.replicate (n-j) 0).set j (j:Int)=iw (List.range (j+1))++List.replicate (n-(j+1)) 0:=by
   rw[xcD _ _ zI];rw[show n-j=(n-(j+1))+1 by omega,xda,xce,cG];simp[iw]
  rw[e]at hs';exact aC.of (.refl _) ⟨j+1,rfl,by omega,hs'⟩ (by show n-(((j+1:Nat):Int).toNat)<n-(((j:Nat):Int).toNat);omega)
 obtain rfl:j=n:=by omega
 exact aN.here (by simpa using hs)
theorem tF{n:Nat}(hn:n<=64):Fc zQ 28 #[iv (n:Int)] [] (λv H=>∃s,v=.tuple #[s,iv 0]/\aT 3 .i64 s (iw (List.range n)) H):=by
 refine aF λg=>Af (ae.lss ?_);rw[xal zO];refine c6.or false (λ_=>ae.gtr ⟨rfl,by rw[xal zO]⟩) rfl λ_=>Br.no ?_;refine aa.fq (Ro hn) ?_;intro s H hs;exact aN.here ⟨s,rfl,hs⟩
def K0(n cap:Nat):Kd:=⟨n,cap,2,λ_=>none,λ_=>none,[],[]⟩
def S0:Nat->aq.Fn:=λr _=>decide (r=1)
theorem nY{n v:Nat}(hv:v<n):lv (List.range n) v=v:=by
 show(List.range n).getD v 0=v;simp[List.getD,hv]
theorem adS{n cap:Nat}(hc:2<=cap/\cap<=1048576):Ok (K0 n cap) S0 (lv (List.range n)):=by
 have c0:∀k,nE (λ_=>none) k=0:=λk=>by induction k with|zero=>rfl|succ k ih=>rw[nE,ih];rfl
 have hm:jQ (K0 n cap) S0 iL zero':={
  two:=λh=>nomatch h
  var:=λh=>nomatch h
  ne:=λh=>nomatch h
  lo:=λh=>nomatch h
  hi:=λh=>nomatch h
  int:=⟨λ_=>rfl,λ_=>rfl,λh=>nomatch h⟩
  kg:=λd r=>⟨λh=>(nomatch h),λh=>nomatch h.1⟩
  use:=λh=>nomatch h
  len:=rfl
  fit:=λh=>nomatch h
  held:=λr h=>absurd (by simp[Kd.hold,K0]) h
  mx:=λr=>by simp[Kd.hold,K0]
  room:=by show 2=2+nE (λ_=>none) _;rw[c0]
  cap:=hc}
 refine⟨hm,λr d h=>(nomatch h),⟨λv hv=>?_,λu v hu hv h=>?_⟩,⟨λh=>(nomatch h),λh=>(nomatch h),λh=>(nomatch h),λh=>(nomatch h),λh=>(nomatch h),λh=>(nomatch h)⟩⟩
 ·have n7:v<n:=hv;rw[nY n7];exact hv
 have AY:u<n:=hu;have n7:v<n:=hv;rwa [nY AY,nY n7]at h
theorem CI{pt n cap:Nat}{CT:Hp}(hu:oB pt n (λ_=>none) CT)(hc:2<=cap/\cap<=1048576):Fc zQ 30 #[iv (cap:Int),ptr pt] CT (λv H=>∃pa CA,v=.tuple #[.agg #[ptr pa,ptr pt,.slice none 0 0,.slice none 0 0],iv 0]/\iV pa cap 2 (λ_=>none) CA/\H=CA++CT):=by
 refine aF λg=>OW λb1 _=>?_;refine aa.fn hnew (WX hc) ?_;rintro v C ⟨pa,rfl,hA⟩;refine Ext.two (Build.mk (cs:=[ptr pa,ptr pt,.slice none 0 0,.slice none 0 0]) zK (St.q ?_));refine az.q ?_;exact aN.mk (.dc .tail _) ⟨pa,C,rfl,hA,rfl⟩
theorem YM{n cap:Nat}(hn:1<=n/\n<=64)(hc:2<=cap/\cap<=1048576):Fc zQ 19 #[iv (n:Int),iv (cap:Int)] [] (λv C=>∃kp,v=.tuple #[ptr kp,iv 0]/\bP kp (K0 n cap) S0 (List.range n) (List.range n) [] C):=by
 refine aF λg=>Ah (aa.fq (tF hn.2) ?_);rintro v CO ⟨s,rfl,hO⟩;obtain⟨sa,sl,sc,hse⟩:∃a l c,s=Value.slice a l c:=by obtain⟨a,c,h⟩:=aU.len hO;exact⟨a,_,c,h⟩
 refine Ext.two (ae.cK (c6.or false (λ_=>ae.lss ⟨rfl,by rw[xal zO]⟩) rfl λgs=>?_));refine c6.or false (λ_=>ae.lss ⟨rfl,by rw[xal zO]⟩) rfl λgs=>?_;refine c6.or false (λ_=>ae.gtr ⟨rfl,by rw[xal zO]⟩) rfl λgs=>Br.no ?_;refine aa.fn hnew (Uu hn) ?_;rintro v CT ⟨pt,rfl,hT⟩;refine Ext.two (ae.cK (Br.no (aa.fq (CI hT hc) ?_)));rintro v H ⟨pa,CA,rfl,hA,rfl⟩;refine Ext.two λb24 _=>(St.q ?_);refine ae.cK (Br.no (DR.self (az.q ?_)));refine aa.fq (wH (hO.ints.mono λ_ h=>h) zP) ?_;rintro v H ⟨CL,rfl,hL⟩;obtain⟨la,ll,lc,hle⟩:∃a l c,v=Value.slice a l c:=by obtain⟨a,c,h⟩:=aU.len hL;exact⟨a,_,c,h⟩
 refine⟨(.cons (.dc .right _)),?_⟩;subst hse hle;refine Build.mk (cs:=[ptr pa,ptr pt,.slice none 0 0,.slice none 0 0,iv (n:Int),.slice sa sl sc,.slice la ll lc,.slice none 0 0]) zK λX8 _=>?_;refine⟨(.skip (.cons (.dc .right _))),?_⟩
 let kb:ur:=⟨pa,pt,.slice none 0 0,.slice none 0 0,.slice sa sl sc,.slice la ll lc,.slice none 0 0,CA,CT,[],[],CO,CL,[]⟩
 refine aN.mk (nG:=kb.hp X8 n) ?_ ⟨X8,rfl,⟨kb,rfl,⟨hA,hT,aT.nil,aT.nil,hO,hL,aT.nil,⟨rfl,by simp[K0]⟩,hn.2,by simp[K0]⟩⟩,adS hc,⟨by simp[K0],λl hl=>?_⟩,λs _=>by simp[Kd.use,K0],trivial⟩
 ·refine .cons (.skip ((aM.assoc).trans ?_));show aM (CA++(CT++(CL++CO))) (CA++(CT++([]++([]++(CO++(CL++[]))))));simp only[xb0,xaL];exact .dc (.dc (.perm xbj) _) _
 have hl':l<n:=hl;have e:(List.range n).getD l 0=l:=nY hl';rw[e];exact⟨hl,nY hl'⟩
end
end Go.Proofs
namespace aq
def ay(ord path:zL):zL:=path.foldl fI ord
theorem gx{ord path:zL}{l:Nat}:ay ord (path++[l])=fI (ay ord path) l:=by simp[ay]
theorem cg{ord path q:zL}:ay ord (path++q)=ay (ay ord path) q:=by simp[ay]
theorem fP{ord:zL}:∀{path:zL},(ay ord path).length=ord.length:=by
 intro path;unfold ay;induction path generalizing ord with
 |nil=>rfl
 |cons l r ih=>rw[xcI,ih];simp[fI]
def mj:Nat->zL
 |2=>[0]
 |3=>[1,0,1,0,1]
 |4=>[2,1,0,2,0,1,2,0,2,1,0,2,0,1,2,0,2,1,0,2,0,1,2]
 |_=>[]
structure Rm where
 n:Nat
 size:zL->Nat
 fit:zL->Nat->Bool
def Rm.dx(m:Rm)(p:Nat):zL->zL->zL
 | [],_=>[]
 |c::cs,ord=>if m.fit ord (p+c)then(p+c)::m.dx p cs (fI ord (p+c))else []
def Rm.keep(m:Rm)(ord path:zL):Nat->Nat
 |0=>0
 |i+1=>if m.size (ay ord (path.take (i+1)))<m.size (ay ord (path.take (m.keep ord path i)))then i+1 else m.keep ord path i
def Rm.visit(m:Rm)(w p:Nat)(ord:zL):zL×Nat:=
 let path:=m.dx p (mj w) ord
 let k:=m.keep ord path path.length
 (path.take k,path.length+(path.length-k))
def Rm.all(m:Rm)(w:Nat)(ord:zL):Nat->zL×Nat
 |0=>([],0)
 |i+1=>let a:=m.all w ord i;let b:=m.visit w i (ay ord a.1);(a.1++b.1,a.2+b.2)
def Rm.pass(m:Rm)(w:Nat)(ord:zL):zL×Nat:=m.all w ord (m.n+1-w)
theorem Rm.mg(m:Rm)(p:Nat):∀cs ord,(m.dx p cs ord).length<=cs.length
 | [],_=>by simp[dx]
 |c::cs,ord=>by
  rw[dx];split
  ·have:=m.mg p cs (fI ord (p+c));simp only[xay];omega
  simp
theorem Rm.rJ(m:Rm)(p:Nat):∀cs ord i,i<(m.dx p cs ord).length->(m.dx p cs ord)[i]? =(cs[i]?).map (p+ ·)/\∃c,cs[i]? =some c/\m.fit (ay ord ((m.dx p cs ord).take i)) (p+c)=true
 | [],_,i,h=>by simp[dx]at h
 |c::cs,ord,i,h=>by
  by_cases hf:m.fit ord (p+c)=true
  ·rw[dx,xad hf]at h⊢;cases i with
   |zero=>exact⟨by simp,c,rfl,hf⟩
   |succ i=>
    obtain⟨h1,c',h2,h3⟩:=m.rJ p cs (fI ord (p+c)) i (by simpa using h);exact⟨by simpa using h1,c',by simpa using h2,by simpa[ay]using h3⟩
  rw[dx,xac hf]at h;simp at h
theorem Rm.we(m:Rm)(p:Nat):∀cs ord c,cs[(m.dx p cs ord).length]? =some c->m.fit (ay ord (m.dx p cs ord)) (p+c)=false
 | [],_,c,h=>by simp at h
 |c'::cs,ord,c,h=>by
  by_cases hf:m.fit ord (p+c')=true
  ·rw[dx,xad hf]at h⊢;have:=m.we p cs (fI ord (p+c')) c (by simpa using h);simpa[ay]using this
  rw[dx,xac hf]at h⊢;simp only[xca,xcP,xar]at h;subst h;simpa[ay]using hf
theorem Rm.Dz(m:Rm)(p:Nat){cs ord:zL}{l:Nat}(h:l∈m.dx p cs ord):∃c∈cs,l=p+c:=by
 obtain⟨i,hi,e⟩:=List.getElem_of_mem h;obtain⟨h1,c,h2,_⟩:=m.rJ p cs ord i hi;rw[xaa hi,e,h2]at h1;exact⟨c,xau h2,by simpa using h1⟩
theorem Rm.AT(m:Rm)(ord path:zL):∀i,m.keep ord path i<=i
 |0=>xai _
 |i+1=>by rw[keep];split;omega;have:=m.AT ord path i;omega
theorem Rm.vR(m:Rm)(ord path:zL):∀i j,j<=i->m.size (ay ord (path.take (m.keep ord path i)))<=m.size (ay ord (path.take j))
 |0,j,h=>by
  obtain rfl:j=0:=by omega
  exact xai _
 |i+1,j,h=>by
  by_cases e:j=i+1
  ·subst e;rw[keep];split<;>omega
  have:=m.vR ord path i j zO;rw[keep];split<;>omega
theorem Gl{w c:Nat}(h:c∈mj w):c+2<=w:=by
 unfold mj at h;split at h
 ·simp at h;omega
 ·simp at h;omega
 ·simp at h;omega
 simp at h
theorem KZ(w:Nat):(mj w).length<=23:=by
 unfold mj;split<;>simp
theorem Rm.LI(m:Rm){w p:Nat}{ord:zL}{l:Nat}(h:l∈(m.visit w p ord).1):l+2<=p+w:=by
 obtain⟨c,hc,rfl⟩:=m.Dz p (xcH h);have:=Gl hc;omega
theorem Rm.r7(m:Rm)(w p:Nat)(ord:zL):(m.visit w p ord).1.length<=23/\(m.visit w p ord).2<=46:=by
 have h1:=m.mg p (mj w) ord;have h2:=KZ w;have h3:=m.AT ord (m.dx p (mj w) ord) (m.dx p (mj w) ord).length;constructor
 ·show(List.take _ _).length<=23;rw[xbF];omega
 show _+(_-_)<=46;omega
theorem Rm.BT(m:Rm)(w p:Nat)(ord:zL):m.size (ay ord (m.visit w p ord).1)<=m.size ord:=by
 have:=m.vR ord (m.dx p (mj w) ord) (m.dx p (mj w) ord).length 0 (xaO _);simpa[visit,ay]using this
theorem Rm.Tr(m:Rm)(w:Nat)(ord:zL):∀i,m.size (ay ord (m.all w ord i).1)<=m.size ord
 |0=>xai _
 |i+1=>by
  have h1:=m.Tr w ord i;have h2:=m.BT w i (ay ord (m.all w ord i).1);show m.size (ay ord (_++_))<=_;rw[cg];exact xbN h2 h1
theorem Rm.Lg(m:Rm)(w:Nat)(ord:zL):∀i,(m.all w ord i).1.length<=23*i/\(m.all w ord i).2<=46*i
 |0=>⟨xai _,xai _⟩
 |i+1=>by
  have h1:=m.Lg w ord i;have h2:=m.r7 w i (ay ord (m.all w ord i).1);constructor
  ·show((m.all w ord i).1++(m.visit w i (ay ord (m.all w ord i).1)).1).length<=_;rw[xaf];omega
  show(m.all w ord i).2+(m.visit w i (ay ord (m.all w ord i).1)).2<=_;omega
theorem Rm.Lf(m:Rm){w:Nat}{ord:zL}{l:Nat}:∀{i},l∈(m.all w ord i).1->l+3<=i+w
 |0,h=>by simp[all]at h
 |i+1,h=>by
  rcases xao.1 h with h|h
  ·have:=m.Lf h;omega
  have:=m.LI h;omega
theorem Rm.all_succ(m:Rm)(w:Nat)(ord:zL)(i:Nat):m.all w ord (i+1)=((m.all w ord i).1++(m.visit w i (ay ord (m.all w ord i).1)).1,(m.all w ord i).2+(m.visit w i (ay ord (m.all w ord i).1)).2):=rfl
end aq
set_option maxRecDepth 100000
namespace Go.Proofs
open Go Go.Sx Tryz
open aq
def At(kp:Nat)(K:Kd)(S:Nat->aq.Fn)(ord tr:zL)(C:Hp):Prop:=∃K' S' bR,bP kp K' S' ord bR tr C/\Kept K S K' S'
noncomputable def cE(K:Kd)(S:Nat->aq.Fn)(ord:zL):Nat:=sz K.n ord (K.held S)
def iZ(K:Kd)(S:Nat->aq.Fn)(ord:zL)(l:Nat):Prop:=Am K.n ord l (K.held S)+2<=K.cap
section
variable {kp:Nat} {K:Kd} {S:Nat->aq.Fn} {ord tr:zL} {C:Hp}
theorem bP.bc{ah:zL}(h:bP kp K S ord ah tr C):At kp K S ord tr C:=⟨K,S,ah,h,.refl _ _⟩
theorem C9{ah:zL}(h:bP kp K S ord ah tr C):K.used=cE K S ord+2:=by
 have h1:=JO (h.ok.size h.od);have h2:=h.ok.mid.room;unfold cE;omega
theorem rE{K':Kd}{S':Nat->aq.Fn}(h:Kept K S K' S')(ord:zL):cE K' S' ord=cE K S ord:=by
 unfold cE;rw[h.n];exact PR h.held
theorem yV{K':Kd}{S':Nat->aq.Fn}(h:Kept K S K' S')(ord:zL)(l:Nat):iZ K' S' ord l↔iZ K S ord l:=by
 unfold iZ;rw[h.n,h.cap,LP h.held]
theorem At.len(h:At kp K S ord tr C):ord.length=K.n:=by
 obtain⟨K',S',bR,h,hk⟩:=h;rw[<-hk.n];exact h.od.len
theorem gm(h:At kp K S ord tr C):cE K S ord<=1048574:=by
 obtain⟨K',S',bR,h,hk⟩:=h;rw[<-rE hk];have:=C9 h;have:=h.ok.mid.cap;omega
theorem At.lT(h:At kp K S ord tr C):K.n<=64:=by
 obtain⟨K',S',bR,h,hk⟩:=h;obtain⟨b,_,hO⟩:=h.rep;rw[<-hk.n];exact hO.lT
theorem cD(h:At kp K S ord tr C):Rd zQ 83 #[ptr kp] C (· =iv ((cE K S ord:Nat):Int)):=by
 obtain⟨K',S',bR,h,hk⟩:=h;have hs:=C9 h;have hc:=h.ok.mid.cap;refine(VG h.rep zO zO).mono ?_;rintro v H ⟨rfl,rfl⟩;exact⟨rfl,by rw[hs,rE hk];rfl⟩
theorem rU(h:At kp K S ord tr C):Rd zQ 174 #[ptr kp] C (· =iv ((tr.length:Nat):Int)):=by
 obtain⟨K',S',bR,h,hk⟩:=h;exact MP h.rep
theorem m4(h:At kp K S ord tr C):Rd zQ 108 #[ptr kp] C (· =iv ((K.n:Nat):Int)):=by
 obtain⟨K',S',bR,h,hk⟩:=h;rw[<-hk.n];exact gM h.rep
theorem Tj(h:At kp K S ord tr C):Fc zQ 27 #[ptr kp] C (λr H=>∃N,H=N++C/\aT 3 .i64 r (iw ord) N):=by
 obtain⟨K',S',bR,h,hk⟩:=h;exact yQ h.rep
theorem uI(h:At kp K S ord tr C){l:Nat}(hl:l+1<K.n)(eU:tr.length<17592186044416)(hf:iZ K S ord l):Fc zQ 94 #[ptr kp,iv (l:Int)] C (λr C'=>r=iv 0/\At kp K S (fI ord l) (tr++[l]) C'):=by
 obtain⟨K',S',bR,h,hk⟩:=h;refine(KR h (by rw[hk.n];exact hl) eU).mono ?_;rintro v C' (⟨_,rfl,K2,S2,YR,h2,rH⟩|⟨hno,_,_⟩)
 ·exact⟨rfl,K2,S2,YR,h2,hk.trans rH⟩
 have:=(yV hk ord l).2 hf;unfold iZ at this;omega
theorem m5(h:At kp K S ord tr C){l:Nat}(hl:l+1<K.n)(eU:tr.length<17592186044416)(hf:¬iZ K S ord l):Rd zQ 94 #[ptr kp,iv (l:Int)] C (· =iv 9):=by
 obtain⟨K',S',bR,h,hk⟩:=h;refine(KR h (by rw[hk.n];exact hl) eU).mono ?_;rintro v C' (⟨Rq,_⟩|⟨hno,rfl,rfl⟩)
 ·exact absurd ((yV hk ord l).1 Rq) hf
 exact⟨rfl,rfl⟩
theorem Bo{l:Nat}(h:At kp K S ord (tr++[l]) C)(eU:tr.length<17592186044416):Fc zQ 231 #[ptr kp] C (λr C'=>r=.tuple #[iv (l:Int),iv 0]/\At kp K S (fI ord l) tr C'):=by
 obtain⟨K',S',bR,h,hk⟩:=h;refine(Uv h eU).mono ?_;rintro v C' ⟨rfl,_,K2,S2,YR,h2,rH⟩;exact⟨rfl,K2,S2,YR,h2,hk.trans rH⟩
theorem Yn(h:At kp K S ord tr C){l:Nat}(hl:l+1<K.n)(eU:tr.length<17592186044416)(hf:iZ K S ord l):Fc zQ 175 #[ptr kp,iv (l:Int)] C (λr C'=>
   r=.tuple #[.agg #[iv (l:Int),iv ((cE K S ord:Nat):Int),iv ((cE K S (fI ord l):Nat):Int)],iv 0]/\At kp K S (fI ord l) (tr++[l]) C'):=by
 refine aF λg=>xw λb1 _=>?_;refine aa.eq (cD h) (Build.mk (cs:=[iv (l:Int),iv ((cE K S ord:Nat):Int),iv 0]) zK λb6 _=>?_);refine St.q ?_;refine aa.fq (uI h hl eU hf) ?_;rintro v C' ⟨rfl,h'⟩;refine ae.cK (Br.F (aa.eq (cD h') (ai.mk (St.one (by exact .head _) rfl zI rfl ?_))));refine az.q ?_;refine St.q ?_;refine az.q ?_;exact aN.mk (.skip .tail) ⟨rfl,h'⟩
theorem Yo(h:At kp K S ord tr C){l:Nat}(hl:l+1<K.n)(eU:tr.length<17592186044416)(hf:¬iZ K S ord l):Rd zQ 175 #[ptr kp,iv (l:Int)] C (· =.tuple #[.agg #[iv 0,iv 0,iv 0],iv 9]):=by
 refine aF λg=>xw λb1 _=>?_;refine aa.eq (cD h) (Build.mk (cs:=[iv (l:Int),iv ((cE K S ord:Nat):Int),iv 0]) zK λb6 _=>?_);refine St.q ?_;refine aa.eq (m5 h hl eU hf) (ae.cK (Br.T (Build.mk (cs:=[iv 0,iv 0,iv 0]) zK (St.q ?_))));refine az.q ?_;exact bg.mk (.skip .tail) rfl
theorem Lb{path:zL}(h:At kp K S (ay ord path) (tr++path) C)(hp:∀l∈path,l+1<K.n){k:Nat}(hk:k<=path.length)(eU:(tr++path).length<17592186044416):Fc zQ 176 #[ptr kp,iv ((tr.length+k:Nat):Int)] C (λr C'=>
   r=.tuple #[iv ((path.length-k:Nat):Int),iv 0]/\At kp K S (ay ord (path.take k)) (tr++path.take k) C'):=by
 have hlen:=h.len;rw[fP]at hlen;rw[xaf]at eU;refine aF λg=>Iy (ae.aI (Br.no ?_));intro J2 BJ;refine ae.lss ?_;rw[xal zO];refine Split.go rfl (aa.eq (rU h) (ae.gtr ?_));rw[xal (by rw[xaf];omega)];refine aL.mk (JE.mk (BJ _ _ λgs=>Br.no ?_));refine⟨λvs H=>∃m,m<=path.length/\k<=m/\vs=[iv ((path.length-m:Nat):Int)]/\At kp K S (ay ord (path.take m)) (tr++path.take m) H,λvs _=>path.length-bN vs 0,JE.mk ⟨path.length,xai _,hk,by simp,by simpa using h⟩,?_⟩;rintro w H ⟨m,hm,hkm,hw,BG⟩ gs;simp only[xav,xaW]at hw;subst hw;refine aa.eq (rU BG) (ae.nB (Br.dec (λhlt=>?_) (λhlt=>?_)))
 ·rw[xaf,xbF]at hlt;obtain⟨m,rfl⟩:∃m',m=m'+1:=⟨m-1,by omega⟩;have e:path.take (m+1)=path.take m++[path[m]]:=by rw[xbf,xaa zO];rfl
  rw[e,<-xak,gx]at BG;refine aa.fq (Bo BG zP) ?_;rintro v C' ⟨rfl,h'⟩;rw[qU (by rw[fP,hlen];exact hp _ (xaJ _))]at h';refine ae.inc (aC.of (.refl _) ⟨m,by omega,by omega,by rw[show path.length-(m+1)+1=path.length-m by omega],h'⟩ ?_);show path.length-(((path.length-(m+1)+1:Nat):Int).toNat)<path.length-(((path.length-(m+1):Nat):Int).toNat);omega
 rw[xaf,xbF]at hlt;obtain rfl:m=k:=by omega
 exact aN.here ⟨rfl,BG⟩
end
theorem Gm{w:Nat}(hw:2<=w/\w<=4):Fc zQ 172 #[iv (w:Int)] [] (λv H=>∃s,v=.tuple #[s,iv 0]/\aT 3 .i64 s (iw (mj w)) H):=by
 refine aF λg=>IB ?_;obtain rfl|rfl|rfl:w=2\/w=3\/w=4:=by omega
 ·refine ae.ia (Br.T (ax.int (e:=3) zK zK zK λbx=>?_));exact aN.here ⟨_,rfl,aT.made [0]⟩
 ·refine ae.ia (Br.F (ae.ia (Br.T (⟨aA .i64 (iw (mj 3)),3,1,iv 0,by kernel_rfl,by kernel_rfl,by kernel_rfl,by decide,by kernel_rfl,λbx _=>?_⟩))));exact aN.here ⟨_,rfl,aT.made (iw (mj 3))⟩
 refine ae.ia (Br.F (ae.ia (Br.F (ae.ia (Br.T (⟨aA .i64 (iw (mj 4)),3,1,iv 0,by kernel_rfl,by kernel_rfl,by kernel_rfl,by decide,by kernel_rfl,λbx _=>?_⟩))))));exact aN.here ⟨_,rfl,aT.made (iw (mj 4))⟩
end Go.Proofs
namespace Go.Sx
open Go
section
variable {P:Program} {g:Gh} {H:Hp}
theorem iW.nat{len size b o j:Nat}{kd:IntKind}{k:zV->Prop}(h1:j<len)(h:k (.pointer (some ⟨b,o+j*size,none⟩))):iW len size (.pointer (some ⟨b,o,none⟩)) (.int kd (j:Int)) k:=
 ⟨b,o,kd,(j:Int),rfl,rfl,by omega,by omega,by simpa using h⟩
theorem jG.adJ{o:Oper}{ρ:Operand->zV}{k:zV->Prop}{t e:TypeId}{q kd:IntKind}{n j:Nat}{x i:Operand}{l:List Int}{z:Int}(ho:o.op=.index t x i)(hx:ρ x=.agg (aA q l))(hi:ρ i=.int kd (j:Int))
 (ht:P.underlying t=some (.array n e))(hu:P.underlying e=some (.int q))(hz:dz P e=some 1)(hj:j<n)(hl:l[j]? =some z)(hk:k (.int q z)):jG P g o ρ H k:=by
 obtain⟨inf,af7,hs⟩:=bE hz;refine⟨_,λw _=>?_,hk⟩;have hp:=q6 (P:=P) hu hl w;have RZ:(0:Int)<=(j:Int)/\(j:Int)<(n:Int):=by omega
 simp only[execOp,ho,Instr.index,hx,hi,asIntOf,Sem.run_bind,Sem.run_pure,Result.andThen_ok,run_underlying ht,run_sizeOf af7,hs,xad RZ,xbd,xbZ,hp]
end
end Go.Sx
namespace aq
open ak
def clr(m v:Nat):Nat:=if m.testBit v then m^^^2^v else m
def rest(m:Nat)(ord:zL):Nat->Nat
 |0=>m
 |k+1=>clr (rest m ord k) (ord.getD k 0)
section
variable {n m o:Nat} {ord:zL} {F:Fn->Prop}
theorem getD_inj(hn:ord.Nodup){i j:Nat}(hi:i<ord.length)(hj:j<ord.length)(e:ord.getD i 0=ord.getD j 0):i=j:=by
 rw[xaq,xaq,xaa hi,xaa hj]at e;exact(xey hn).1 e
theorem PT{l:Nat}(hl:l+1<ord.length):(fI ord l).Perm ord:=by
 unfold fI;have e1:ord=ord.take l++ord.getD l 0::ord.getD (l+1) 0::ord.drop (l+2):=by
  conv=>lhs;rw[<-xbq l ord]
  congr 1;rw[xbr zO,xbr zO];simp[List.getD,xaa (show l<ord.length by omega),xaa hl]
 have ht:(ord.take l).length=l:=by simp;omega
 have e2:(ord.set l (ord.getD (l+1) 0)).set (l+1) (ord.getD l 0)=ord.take l++ord.getD (l+1) 0::ord.getD l 0::ord.drop (l+2):=by
  generalize hx:ord.getD l 0=x at*;generalize hy:ord.getD (l+1) 0=y at*
  conv=>lhs;rw[e1]
  rw[xcD _ _ zO,ht,xc8,xcC,xcD _ _ zO,ht,Nat.add_sub_cancel_left,xej,xcC]
 rw[e2]
 conv=>rhs;rw[e1]
 exact xbV _ (List.Perm.swap _ _ _)
theorem lB:∀{path:zL} {ord:zL},(∀l∈path,l+1<ord.length)->(ay ord path).Perm ord
 | [],_,_=>.refl _
 |l::r,ord,h=>by
  show(ay (fI ord l) r).Perm ord;have h1:=h l zI;exact(lB λx hx=>by rw[mG];exact h x (by simp[hx])).trans (PT h1)
end
def flat(n s:Nat):Rm:=⟨n,λ_=>s,λ_ _=>true⟩
end aq
namespace aq
def Gq(i:Nat):Nat->zL
 |0=>[]
 |j+1=>if i<=j then j::Gq i j else []
theorem Bk{i j:Nat}(h:j<=i):Gq i j=[]:=by
 cases j with
 |zero=>rfl
 |succ j=>rw[Gq,xac zO]
theorem rT{i j:Nat}(h:i<=j):Gq i (j+1)=j::Gq i j:=by rw[Gq,xad h]
theorem K6{i l:Nat}:∀{j},l∈Gq i j->i<=l/\l<j
 |0,h=>by simp[Gq]at h
 |j+1,h=>by
  by_cases e:i<=j
  ·rw[rT e]at h;rcases xaj.1 h with rfl|h
   ·omega
   have:=K6 h;omega
  rw[Bk zO]at h;simp at h
theorem Bj(i:Nat):∀j,(Gq i j).length=j-i
 |0=>by simp[Gq]
 |j+1=>by
  by_cases e:i<=j
  ·rw[rT e,xay,Bj i j];omega
  rw[Bk zO];simp;omega
theorem K7{i k:Nat}:∀{j:Nat} {a:zL},i<=j->j<a.length->(k<=i->(ay a (Gq i j)).getD k 0=if k=i then a.getD j 0 else a.getD k 0)
 |0,a,hi,hj,hk=>by
  obtain rfl:i=0:=by omega
  obtain rfl:k=0:=by omega
  simp[Gq,ay]
 |j+1,a,hi,hj,hk=>by
  by_cases e:i<=j
  ·rw[rT e];show(ay (fI a j) (Gq i j)).getD k 0=_;rw[K7 (j:=j) e (by rw[mG];omega) hk,fj zO,fj zO];by_cases h:k=i
   ·subst h;simp
   rw[xac h,xac h,xac zO,xac zO]
  obtain rfl:i=j+1:=by omega
  rw[Bk (xai _)];show a.getD k 0=_;split
  ·rename_i h;rw[h]
  rfl
def plc(p:zL)(x:Nat):Nat:=p.idxOf x
def dY(p q:zL):Nat->zL
 |0=>[]
 |i+1=>dY p q i++Gq i (plc (ay p (dY p q i)) (q.getD i 0))
def path(p q:zL):zL:=dY p q q.length
theorem Qw{p:zL}{x:Nat}(h:x∈p):plc p x<p.length:=List.idxOf_lt_length_iff.2 h
theorem Ke{p:zL}{x:Nat}(h:x∈p):p.getD (plc p x) 0=x:=by
 have h1:=Qw h;rw[xaq,xaa h1];show p[p.idxOf x]=x;exact List.getElem_idxOf h1
section
variable {p q:zL}
theorem jV(hq:q.Nodup)(hp:p.Perm q):∀i,i<=q.length->(∀l∈dY p q i,l+1<p.length)/\(∀k,k<i->(ay p (dY p q i)).getD k 0=q.getD k 0)/\(i<q.length->i<=plc (ay p (dY p q i)) (q.getD i 0)/\plc (ay p (dY p q i)) (q.getD i 0)<p.length)
 |i,hi=>by
  have hlen:=hp.length_eq;have base:(∀l∈dY p q i,l+1<p.length)/\(∀k,k<i->(ay p (dY p q i)).getD k 0=q.getD k 0):=by
   cases i with
   |zero=>exact⟨λl hl=>by simp[dY]at hl,λk hk=>absurd hk (xcF _)⟩
   |succ i=>
    obtain⟨h1,h2,h3⟩:=jV hq hp i zO;obtain⟨h4,h5⟩:=h3 zO;have hm:q.getD i 0∈ay p (dY p q i):=by
     have:q.getD i 0∈q:=by rw[xaq,xaa (show i<q.length by omega)];exact xaJ _
     exact((lB h1).trans hp).mem_iff.2 this
    refine⟨λl hl=>?_,λk hk=>?_⟩
    ·rcases xao.1 hl with hl|hl
     ·exact h1 l hl
     have:=K6 hl;omega
    rw[dY,cg,K7 h4 (by rw[fP];exact h5) zO];split
    ·rename_i e;subst e;exact Ke hm
    exact h2 k zO
  refine⟨base.1,base.2,λhlt=>?_⟩;have hm:q.getD i 0∈ay p (dY p q i):=by
   have:q.getD i 0∈q:=by rw[xaq,xaa hlt];exact xaJ _
   exact((lB base.1).trans hp).mem_iff.2 this
  have h5:=Qw hm;rw[fP]at h5;refine⟨?_,h5⟩;refine xaD λug=>?_;have:=base.2 _ (Nat.lt_of_not_le ug);rw[Ke hm]at this;have:=getD_inj hq hlt zO this;omega
theorem AK(hq:q.Nodup)(hp:p.Perm q):ay p (path p q)=q/\∀l∈path p q,l+1<p.length:=by
 obtain⟨h1,h2,_⟩:=jV hq hp q.length (xai _);refine⟨DL (by rw[fP];exact hp.length_eq) λi hi=>h2 i ?_,h1⟩;rw[fP,hp.length_eq]at hi;exact hi
theorem sA(hq:q.Nodup)(hp:p.Perm q):∀i,i<=q.length->(dY p q i).length<=i*p.length
 |0,_=>by simp[dY]
 |i+1,hi=>by
  have:=sA hq hp i zO;obtain⟨_,_,h3⟩:=jV hq hp i zO;rw[dY,xaf,Bj,xbu];have:=(h3 zO).2;omega
end
end aq
namespace aq
open ak
section
variable {n l:Nat} {ord:zL} {F G:Fn->Prop} {f c:Fn}
theorem zf:∀l g,fs ord (λg=>F g\/G g) l g↔fs ord F l g\/fs ord G l g
 |0,g=>xcW
 |l+1,g=>by
  constructor
  ·rintro⟨f,hf,b,rfl⟩;rcases(zf l f).1 hf with h|h
   ·exact .inl ⟨f,h,b,rfl⟩
   exact .inr ⟨f,h,b,rfl⟩
  rintro(⟨f,hf,b,rfl⟩|⟨f,hf,b,rfl⟩)
  ·exact⟨f,(zf l f).2 (.inl hf),b,rfl⟩
  exact⟨f,(zf l f).2 (.inr hf),b,rfl⟩
theorem lR(g:Fn):aD n ord (λg=>F g\/G g) g↔aD n ord F g\/aD n ord G g:=by
 constructor
 ·rintro⟨l,hl,hf,hh⟩;rcases(zf l g).1 hf with h|h
  ·exact .inl ⟨l,hl,h,hh⟩
  exact .inr ⟨l,hl,h,hh⟩
 rintro(⟨l,hl,hf,hh⟩|⟨l,hl,hf,hh⟩)
 ·exact⟨l,hl,(zf l g).2 (.inl hf),hh⟩
 exact⟨l,hl,(zf l g).2 (.inr hf),hh⟩
theorem cJ{v:Nat}(h:¬bT f v)(x:Nat)(b:Bool):f (aB x v b)=f x:=by
 have h0:f (aB x v false)=f (aB x v true):=xaD λhne=>h ⟨x,hne⟩;have h1:=ie x v
 conv=>rhs;rw[<-h1]
 cases b<;>cases x.testBit v<;>simp[h0]
theorem Ba(hi:∀j,j<l->¬bT f (ord.getD j 0)):∀k,k<=l->fs ord (λg=>g=f) k f
 |0,_=>rfl
 |k+1,hk=>⟨f,Ba hi k zO,false,funext λx=>(cJ (hi k zO) x false).symm⟩
theorem uC(hi:∀j,j<l->¬bT f (ord.getD j 0)):∀k,k<=l->∀g,fs ord (λg=>g=f) k g->g=f
 |0,_,g,h=>h
 |k+1,hk,g,h=>by
  obtain⟨f',hf,b,rfl⟩:=h;obtain rfl:=uC hi k zO f' hf;exact funext λx=>cJ (hi k zO) x b
theorem jJ(hi:∀j,j<l->¬bT f (ord.getD j 0)){b:Bool}(hc:c=λx=>f (aB x (ord.getD l 0) b)):
  (∀j,j<l+1->¬bT c (ord.getD j 0))/\∀g,aD n ord (λg=>g=c) g->aD n ord (λg=>g=f) g:=by
 have h1:fs ord (λg=>g=f) (l+1) c:=⟨f,Ba hi l (xai _),b,hc⟩;have h2:∀j,j<l+1->¬bT c (ord.getD j 0):=λj hj=>wj (l+1) c h1 j hj;refine⟨h2,?_⟩;rintro g ⟨m,hm,hf,hh⟩;by_cases e:m<l+1
 ·obtain rfl:=uC h2 m zO g hf;exact absurd hh (h2 m e)
 have key:∀d g,fs ord (λg=>g=c) (l+1+d) g->fs ord (λg=>g=f) (l+1+d) g:=λd=>by
  induction d with
  |zero=>intro g hg;obtain rfl:=uC h2 (l+1) (xai _) g hg;exact h1
  |succ d ih=>rintro g ⟨f',MY,b',rfl⟩;exact⟨f',ih f' MY,b',rfl⟩
 obtain⟨d,rfl⟩:∃d,m=l+1+d:=⟨m-(l+1),by omega⟩;exact⟨_,hm,key d g hf,hh⟩
theorem oT(hi:∀j,j<l->¬bT f (ord.getD j 0))(hl:l<n)(hh:bT f (ord.getD l 0)):aD n ord (λg=>g=f) f:=⟨l,hl,Ba hi l (xai _),hh⟩
end
section
variable {K:Kd} {S:Nat->Fn} {ah:Nat->Nat} {ord:zL}
theorem Ok.below(h:Ok K S ah)(ho:Ord K.n ah ord){r l:Nat}(hr:live K.N r)(hl:l<=K.n)(hi:∀j,j<l->¬bT (S r) (ord.getD j 0)):l<=dep K.n ah K.N r:=by
 cases e:K.N r with
 |none=>rw[aS e];exact hl
 |some d=>
  rw[an e];refine xaD λhlt=>?_;have iu:ah d.v<l:=Nat.lt_of_not_le hlt;have:=hi _ iu;rw[ho.of h.lv (h.mid.var e)]at this;exact this (gj h.wf h.lv h.mid.int e)
theorem Ok.roomFor(h:Ok K S ah)(ho:Ord K.n ah ord){U:Fn->Prop}{k:Nat}(hk:nt U k)(hfit:k+2<=K.cap)(hU:∀g,aD K.n ord (K.held S) g->U g){d:Nd}
 (hlo:live K.N d.lo)(hhi:live K.N d.hi)(hne:d.lo≠d.hi)(hv:d.v<K.n)(hlt:ah d.v<dep K.n ah K.N d.lo/\ah d.v<dep K.n ah K.N d.hi)(hg:U (ite S d))(hT:K.T d=none):K.used<K.cap:=by
 have hs:=h.size ho;have hu:=h.mid.room;obtain⟨l1,a1,a2,a3⟩:=hs;have Zq:ite S d∉l1:=λhm=>by
  obtain⟨r,e,hr,he⟩:=(nV h.wf h.lv ho h.mid.int (λr hr=>.inr (h.mid.held r hr)) h.reach (ite S d)).1 ((a3 _).2 hm);have hTd:¬K.N r=some d:=λhN=>by
   have:=(h.mid.kg d r).2 ⟨hN,λx=>x⟩;rw[hT]at this;cases this
  apply hTd;have Rw:S r=ite S d:=he.symm;have Rr:e.v=d.v:=by
   have e1:=h.lv.lt e.v (h.mid.var hr);have e2:=h.lv.lt d.v hv;rcases xcq (ah e.v) (ah d.v)with hh|hh|hh
   ·exfalso;obtain⟨z,hz⟩:=gj h.wf h.lv h.mid.int hr;rw[Rw]at hz;apply hz;unfold ite;have i1:=h.wf.bJ h.lv h.mid.int hlo (h.mid.var hr) zO;have i2:=h.wf.bJ h.lv h.mid.int hhi (h.mid.var hr) zO;have M0:d.v≠e.v:=λpD=>by rw[pD]at hh;omega
    simp only[aj,xac M0,i1,i2]
   ·exact h.lv.inj _ _ (h.mid.var hr) hv hh
   exfalso;have hx:=h.wf.bJ h.lv h.mid.int (r:=r) (.inr ⟨e,hr⟩) hv (by rw[an hr];exact hh);apply hne;refine h.wf.same h.lv h.mid.int hlo hhi λx=>?_;have i1:=h.wf.bJ h.lv h.mid.int hlo hv hlt.1;have i2:=h.wf.bJ h.lv h.mid.int hhi hv hlt.2;have q1:=hx x false;have q2:=hx x true;rw[Rw]at q1 q2;have q3:=q1.trans q2.symm;unfold ite at q3;simp only[aj,xa5,i1,i2,xaP,xa1]at q3;exact q3
  have kx:∀(b:Bool) x,S (if b then e.hi else e.lo) x=S (if b then d.hi else d.lo) x:=λb x=>by
   rw[<-h.wf.child h.lv h.mid.int hr x b,Rw,Rr];have i1:=h.wf.bJ h.lv h.mid.int hlo hv hlt.1;have i2:=h.wf.bJ h.lv h.mid.int hhi hv hlt.2;unfold ite;rw[aj,xad rfl,i1,i2];cases b<;>rfl
  have e1:e.lo=d.lo:=h.wf.same h.lv h.mid.int (h.mid.lo hr) hlo λx=>kx false x;have e2:e.hi=d.hi:=h.wf.same h.lv h.mid.int (h.mid.hi hr) hhi λx=>kx true x;have hed:∀a b:Nd,a.v=b.v->a.lo=b.lo->a.hi=b.hi->a=b:=λa b h1 h2 h3=>by
   cases a;cases b;cases h1;cases h2;cases h3;rfl
  rw[hr,hed e d Rr e1 e2]
 obtain⟨l2,b1,b2,b3⟩:=hk;have:=ct (l:=ite S d::l1) (l':=l2) (xaX.2 ⟨Zq,a1⟩) λg KC=>by
  rcases xaj.1 KC with rfl|KC
  ·exact(b3 _).1 hg
  exact(b3 _).1 (hU g ((a3 g).2 KC))
 rw[xay]at this;omega
end
end aq
namespace aq
open ak
def dV(N:er)(v:Nat)(b:Bool)(r:Nat):Nat:=match N r with
 |some d=>if d.v=v then(if b then d.hi else d.lo)else r
 |none=>r
def iT(N:er)(v:Nat)(b:Bool)(q:zL):zL:=q.map (dV N v b)
structure uo(n:Nat)(ah:Nat->Nat)(N:er)(q:zL)(v:Nat):Prop where
 lt:v<n
 ex:∃r∈q,∃d,N r=some d/\d.v=v
 le:∀r∈q,ah v<=dep n ah N r
inductive Tree(n:Nat)(ah:Nat->Nat)(N:er):zL->Nat->Prop
 |leaf {q:zL} (h:∀r∈q,N r=none):Tree n ah N q 0
 |node {q:zL} {v a b:Nat} (h:uo n ah N q v) (ha:Tree n ah N (iT N v false q) a) (hb:Tree n ah N (iT N v true q) b):Tree n ah N q (a+b+1)
def uk(t:Bool->Bool->Bool->Bool)(S:Nat->Fn)(q:zL):Fn:=λx=>t (S (q.getD 0 0) x) (S (q.getD 1 0) x) (S (q.getD 2 0) x)
section
variable {n:Nat} {ah:Nat->Nat} {N:er} {S:Nat->Fn} {q:zL} {v:Nat}
theorem uo.uniq(hl:jH n ah){u:Nat}(h:uo n ah N q v)(h':uo n ah N q u):v=u:=by
 obtain⟨r,hr,d,hd,rfl⟩:=h.ex;obtain⟨s,hs,e,he,rfl⟩:=h'.ex;have a:=h.le s hs;have b:=h'.le r hr;rw[an he]at a;rw[an hd]at b;exact hl.inj _ _ h.lt h'.lt zO
theorem gg(h:WF n ah N)(hl:jH n ah)(hi:Interp N S){r:Nat}(hr:live N r)(hv:v<n)(hle:ah v<=dep n ah N r)(b:Bool):
  (∀x,S (dV N v b r) x=S r (aB x v b))/\live N (dV N v b r)/\ah v+1<=dep n ah N (dV N v b r):=by
 have hlt:=hl.lt v hv;unfold dV;cases e:N r with
 |none=>
  simp only;refine⟨λx=>?_,hr,by rw[aS e];omega⟩;exact(h.bJ hl hi hr hv (by rw[aS e];exact hlt) x b).symm
 |some d=>
  simp only;rw[an e]at hle;by_cases ev:d.v=v
  ·rw[xad ev];subst ev;refine⟨λx=>(h.child hl hi e x b).symm,?_,?_⟩
   ·cases b
    ·exact(h.lo e).1
    exact(h.hi e).1
   cases b
   ·exact(h.lo e).2
   exact(h.hi e).2
  rw[xac ev];have hne:ah v≠ah d.v:=λe2=>ev (hl.inj _ _ (h.var e) hv e2.symm);refine⟨λx=>(h.bJ hl hi hr hv (by rw[an e];omega) x b).symm,hr,by rw[an e];omega⟩
theorem SV(b:Bool):(iT N v b q).length=q.length:=by simp[iT]
theorem SW{b:Bool}{i:Nat}(hi:i<q.length):(iT N v b q).getD i 0=dV N v b (q.getD i 0):=by
 simp[iT,List.getD,xaa hi]
theorem py(h:WF n ah N)(hl:jH n ah)(hi:Interp N S)(hq:∀r∈q,live N r)(ht:uo n ah N q v)(b:Bool):
  (∀r∈iT N v b q,live N r)/\(∀r∈iT N v b q,ah v+1<=dep n ah N r):=by
 constructor
 ·intro r hr;obtain⟨s,hs,rfl⟩:=xan.1 hr;exact(gg h hl hi (hq s hs) ht.lt (ht.le s hs) b).2.1
 intro r hr;obtain⟨s,hs,rfl⟩:=xan.1 hr;exact(gg h hl hi (hq s hs) ht.lt (ht.le s hs) b).2.2
theorem KS(h:WF n ah N)(hl:jH n ah)(hi:Interp N S)(h3:q.length=3)(hq:∀r∈q,live N r)(ht:uo n ah N q v)(t:Bool->Bool->Bool->Bool)(b:Bool):uk t S (iT N v b q)=λx=>uk t S q (aB x v b):=by
 funext x
 have key:∀i,i<3->S ((iT N v b q).getD i 0) x=S (q.getD i 0) (aB x v b):=λi ZA=>by
  have hi':i<q.length:=by omega
  rw[SW hi'];have hm:q.getD i 0∈q:=by rw[xaq,xaa hi'];exact xaJ _
  exact(gg h hl hi (hq _ hm) ht.lt (ht.le _ hm) b).1 x
 unfold uk;rw[key 0 zO,key 1 zO,key 2 zO]
theorem zi(h:WF n ah N)(hl:jH n ah)(hi:Interp N S){ord:zL}(ho:Ord n ah ord)(h3:q.length=3)(hq:∀r∈q,live N r){l:Nat}(y4:l<=n)(hle:∀r∈q,l<=dep n ah N r)(t:Bool->Bool->Bool->Bool):∀j,j<l->¬bT (uk t S q) (ord.getD j 0):=by
 rintro j hj ⟨x,hx⟩;apply hx;obtain⟨o1,o2⟩:=ho.bc j zO;have key:∀i,i<3->∀b,S (q.getD i 0) (aB x (ord.getD j 0) b)=S (q.getD i 0) x:=λi ZA b=>by
  have hi':i<q.length:=by omega
  have hm:q.getD i 0∈q:=by rw[xaq,xaa hi'];exact xaJ _
  exact h.bJ hl hi (hq _ hm) o1 (by rw[o2];exact xaN hj (hle _ hm)) x b
 unfold uk;simp only[key 0 zO,key 1 zO,key 2 zO]
theorem Nk(hi:Interp N S)(h3:q.length=3)(hq:∀r∈q,r<2)(t:Bool->Bool->Bool->Bool)(x:Nat):uk t S q x=t (decide (q.getD 0 0=1)) (decide (q.getD 1 0=1)) (decide (q.getD 2 0=1)):=by
 have key:∀i,i<3->S (q.getD i 0) x=decide (q.getD i 0=1):=λi ZA=>by
  have hi':i<q.length:=by omega
  have hm:q.getD i 0∈q:=by rw[xaq,xaa hi'];exact xaJ _
  have:=hq _ hm;have h2:q.getD i 0=0\/q.getD i 0=1:=by omega
  rcases h2 with e|e<;>rw[e]
  ·rw[hi.zero];rfl
  rw[hi.one];rfl
 unfold uk;rw[key 0 zO,key 1 zO,key 2 zO]
theorem PM(h:WF n ah N):∀{q:zL},(∃r∈q,∃d,N r=some d)->(hl:jH n ah)->∃v,uo n ah N q v
 | [],he,_=>by obtain⟨r,hr,_⟩:=he;cases hr
 |s::q,he,hl=>by
  by_cases hq:∃r∈q,∃d,N r=some d
  ·obtain⟨v,hv⟩:=PM h hq hl;cases es:N s with
   |none=>
    refine⟨v,hv.lt,?_,λr hr=>?_⟩
    ·obtain⟨r,hr,x⟩:=hv.ex;exact⟨r,by simp[hr],x⟩
    rcases xaj.1 hr with rfl|hr
    ·rw[aS es];exact xb5 (hl.lt v hv.lt)
    exact hv.le r hr
   |some d=>
    by_cases hlt:ah d.v<=ah v
    ·refine⟨d.v,h.var es,⟨s,by simp,d,es,rfl⟩,λr hr=>?_⟩;rcases xaj.1 hr with rfl|hr
     ·rw[an es];exact xai _
     exact xbN hlt (hv.le r hr)
    refine⟨v,hv.lt,?_,λr hr=>?_⟩
    ·obtain⟨r,hr,x⟩:=hv.ex;exact⟨r,by simp[hr],x⟩
    rcases xaj.1 hr with rfl|hr
    ·rw[an es];omega
    exact hv.le r hr
  obtain⟨r,hr,d,hd⟩:=he;rcases xaj.1 hr with rfl|hr
  ·refine⟨d.v,h.var hd,⟨r,by simp,d,hd,rfl⟩,λs hs=>?_⟩;rcases xaj.1 hs with rfl|hs
   ·rw[an hd];exact xai _
   have:N s=none:=by
    cases e:N s with
    |none=>rfl
    |some d'=>exact absurd ⟨s,hs,d',e⟩ hq
   rw[aS this];exact xb5 (hl.lt _ (h.var hd))
  exact absurd ⟨r,hr,d,hd⟩ hq
theorem Uy(h:WF n ah N)(hl:jH n ah)(hi:Interp N S):∀(k l:Nat) (q:zL),n-l<=k->l<=n->(∀r∈q,live N r)->(∀r∈q,l<=dep n ah N r)->∃c,Tree n ah N q c/\c+1<=2^(n-l):=by
 intro k;induction k with
 |zero=>
  intro l q hk y4 hq hd;refine⟨0,.leaf λr hr=>?_,xel⟩;cases e:N r with
  |none=>rfl
  |some d=>have:=hd r hr;rw[an e]at this;have:=hl.lt _ (h.var e);omega
 |succ k ih=>
  intro l q hk y4 hq hd;by_cases he:∃r∈q,∃d,N r=some d
  ·obtain⟨v,hv⟩:=PM h he hl;have hlv:=hl.lt v hv.lt;have ni:l<=ah v:=by
    obtain⟨r,hr,d,dF,rfl⟩:=hv.ex;have:=hd r hr;rwa [an dF]at this
   obtain⟨f1,f2⟩:=py (S:=S) h hl hi hq hv false;obtain⟨t1,t2⟩:=py (S:=S) h hl hi hq hv true;obtain⟨a,ha,BH⟩:=ih (ah v+1) _ zO hlv f1 f2;obtain⟨b,hb,tG⟩:=ih (ah v+1) _ zO hlv t1 t2;refine⟨a+b+1,.node hv ha hb,?_⟩;have e1:2^(n-ah v)=2*2^(n-(ah v+1)):=by
    rw[show n-ah v=(n-(ah v+1))+1 by omega,xd7,xci]
   have e2:2^(n-ah v)<=2^(n-l):=xaw zD zO;omega
  refine⟨0,.leaf λr hr=>?_,xel⟩;cases e:N r with
  |none=>rfl
  |some d=>exact absurd ⟨r,hr,d,e⟩ he
def mN(N:er)(v:Nat)(b:Bool)(q:zL)(i:Nat):zL:=(iT N v b q).take i++q.drop i
theorem CQ{b:Bool}{i:Nat}(hi:i<=q.length):(mN N v b q i).length=q.length:=by simp[mN,iT];omega
theorem yE(b:Bool):mN N v b q 0=q:=by simp[mN]
theorem QT(b:Bool):mN N v b q q.length=iT N v b q:=by
 unfold mN;rw[xcy (by rw[SV];exact xai _),xeA,xaL]
theorem sC{b:Bool}{i r:Nat}(hr:q[i]? =some r):(mN N v b q i).set i (dV N v b r)=mN N v b q (i+1):=by
 have hi:=(xag.1 hr).1;have he:=(xag.1 hr).2;have hl:((iT N v b q).take i).length=i:=by simp[iT];omega
 have hc:(iT N v b q)[i]? =some (dV N v b r):=by simp[iT,hr]
 unfold mN;rw[xcD _ _ zO,hl,xc8,xbr hi,xcC,xbf,hc,xak];rfl
theorem yF{b:Bool}{i r:Nat}(hr:q[i]? =some r)(h:dV N v b r=r):mN N v b q (i+1)=mN N v b q i:=by
 rw[<-sC hr,h];have hi:=(xag.1 hr).1;have he:=(xag.1 hr).2;have hl:((iT N v b q).take i).length=i:=by simp[iT];omega
 unfold mN;rw[xcD _ _ zO,hl,xc8,xbr hi,xcC,he]
end
end aq
set_option maxRecDepth 100000
namespace Go.Proofs
open Go Go.Sx Tryz
section
open aq
noncomputable instance {K:Kd}{S:Nat->aq.Fn}{ord:zL}{l:Nat}:Decidable (iZ K S ord l):=Nat.decLe _ _
noncomputable def rm(K:Kd)(S:Nat->aq.Fn):Rm:=⟨K.n,cE K S,λord l=>decide (iZ K S ord l)⟩
theorem qj{K:Kd}{S:Nat->aq.Fn}{ord:zL}{l:Nat}:(rm K S).fit ord l=true↔iZ K S ord l:=by
 show decide (iZ K S ord l)=true↔_;exact decide_eq_true_iff
def Box(kp b1 mq:Nat)(cs:zL)(B:Hp):Prop:=∃vc Cc,B=(b1,.cells #[ptr kp] 53 zZ)::(mq,.cells #[vc] 43 zZ)::Cc/\aT 3 .i64 vc (iw cs) Cc
section
variable {kp b1 mq w p:Nat} {K:Kd} {S:Nat->aq.Fn} {ord tr:zL} {B C:Hp}
theorem PB(hB:Box kp b1 mq (mj w) B)(h:At kp K S ord tr C)(hp:p+w<=K.n)(eU:tr.length<17454747090944):
  Fc zQ 173 #[iv (p:Int),ptr b1,ptr mq] (B++C) (λv H=>v=iv ((((rm K S).visit w p ord).2:Nat):Int)/\∃C',H=B++C'/\At kp K S (ay ord ((rm K S).visit w p ord).1) (tr++((rm K S).visit w p ord).1) C'):=by
 obtain⟨vc,Cc,rfl,hc⟩:=hB;have hn:=h.lT;have hlen:=h.len;have fM:=KZ w
 let m:=rm K S
 let path:=m.dx p (mj w) ord
 have yZ:path.length<=(mj w).length:=m.mg p _ _;have RA:∀l∈path,l+1<K.n:=λl hl=>by
  obtain⟨c,hc,rfl⟩:=m.Dz p hl;have:=Gl hc;omega
 let P0:Hp->Hp:=λX=>(b1,.cells #[ptr kp] 53 zZ)::(mq,.cells #[vc] 43 zZ)::(Cc++X)
 refine aF λg=>IA ?_;rw[xaQ,xaQ];refine DR.self (Ld.q ?_);refine Ld.q ?_;refine aa.eq (rU h) (⟨.refl _,?_⟩);refine aa.eq (cD h) (⟨.refl _,?_⟩);intro J8 hJ8;have fin:∀C2,At kp K S (ay ord path) (tr++path) C2->J8 [iv ((m.keep ord path path.length:Nat):Int),iv ((path.length:Nat):Int)] (P0 C2):=λC2 h2=>by
  refine hJ8 _ _ _ λgs=>?_;refine Ld.q ?_;have hk:=m.AT ord path path.length;refine ae.fE (aa.fq (Lb h2 RA hk (by rw[xaf];omega)) ?_);rintro v C' ⟨rfl,h3⟩;exact Ext.two (ae.fE (aN.here ⟨rfl,C',by simp only[xaQ],h3⟩))
 refine Ld.q ?_;refine hc.bX ?_;rw[au];refine⟨λvs H=>∃i C2,i<=path.length/\vs=[iv ((cE K S (ay ord (path.take (m.keep ord path i))):Nat):Int),iv ((m.keep ord path i:Nat):Int),iv (i:Int),iv (i:Int)]/\H=P0 C2/\At kp K S (ay ord (path.take i)) (tr++path.take i) C2,
  λvs _=>(mj w).length-bN vs 3,JE.mk ⟨0,C,xaO _,rfl,rfl,by simpa[ay]using h⟩,?_⟩
 rintro w26 w27 w28 w29 H ⟨i,C2,hi,hw,rfl,h2⟩ gs;simp only[xav,xaW]at hw;obtain⟨rfl,rfl,rfl,rfl⟩:=hw;refine ae.fy (Br.dec (λhlt=>?_) (λhlt=>?_));rotate_left
 ·obtain rfl:i=path.length:=by omega
  rw[xa9]at h2;exact JE.mk (fin C2 h2)
 intro J31 Si;have pc:(mj w)[i]? =some (mj w)[i]:=xaa hlt;have FZ:(mj w)[i]+2<=w:=Gl (xaJ _);refine hc.ld (x:=(((mj w)[i]:Nat):Int)) (by rw[bH hlt,List.getD,pc];rfl) (bG.sub (.cons (.cons .left))) (Ld.q ?_);refine ae.fE ?_;by_cases A1:i=path.length
 ·-- no room
  subst A1;rw[xa9]at h2;have hno:¬iZ K S (ay ord path) (p+(mj w)[path.length]):=λhf=>by
   have:=m.we p (mj w) ord _ pc;have h9:=qj.2 hf;rw[show(rm K S).fit (ay ord path) (p+(mj w)[path.length])=false from this]at h9;cases h9
  refine aa.eq (Yo h2 zO (by rw[xaf];omega) hno) (Ext.two λb46 _=>(St.q ?_));exact ae.cK (Br.T (JE.of .tail (fin C2 h2)))
 have RK:i<path.length:=by omega
 obtain⟨e1,c',e2,hf⟩:=m.rJ p (mj w) ord i RK;rw[pc]at e1 e2;cases e2;have Rq:iZ K S (ay ord (path.take i)) (p+(mj w)[i]):=qj.1 hf;have ny:path.take (i+1)=path.take i++[p+(mj w)[i]]:=by
  rw[xbf,show path[i]? =some (p+(mj w)[i])from e1];rfl
 refine aa.fq (Yn h2 zO (by rw[xaf,xbF];omega) Rq) ?_;rintro v C3 ⟨rfl,h3⟩;rw[<-gx,xak,<-ny]at h3;refine Ext.two λb46 _=>(St.q ?_);refine ae.cK (Br.F (ae.inc (Ld.f ?_)));rw[<-gx,<-ny];refine ae.fy (Br.dec (λug=>?_) (λug=>?_))
 ·have hk:m.keep ord path (i+1)=i+1:=by rw[Rm.keep];exact xad ug
  refine ai.mk (Ld.mk (v:=iv ((cE K S (ay ord (path.take (i+1))):Nat):Int)) (by exact .head _) rfl ?_);refine JE.mk (Si _ _ _ _ λgs=>?_);refine ae.inc (aC.of .tail ⟨i+1,C3,RK,by rw[hk],rfl,h3⟩ ?_);show(mj w).length-(((i+1:Nat):Int).toNat)<(mj w).length-(((i:Nat):Int).toNat);omega
 have hk:m.keep ord path (i+1)=m.keep ord path i:=by rw[Rm.keep];exact xac ug
 refine JE.mk (Si _ _ _ _ λgs=>?_);refine ae.inc (aC.of .tail ⟨i+1,C3,RK,by rw[hk],rfl,h3⟩ ?_);show(mj w).length-(((i+1:Nat):Int).toNat)<(mj w).length-(((i:Nat):Int).toNat);omega
end
end
section
open aq
def rep(b a s:Nat):zV:=.agg #[iv (b:Int),iv (a:Int),iv (s:Int),.bool false]
def mJ(b1 mq b a s:Nat):Array zV:=#[.func (.func 173) #[] #[ptr b1,ptr mq],iv (b:Int),iv (a:Int),iv (s:Int),.bool false]
def Pass(pp kp w b a s:Nat)(B:Hp):Prop:=∃b1 mq B',B=(pp,.cells (mJ b1 mq b a s) 170 zZ)::B'/\Box kp b1 mq (mj w) B'
section
variable {pp kp w p bf af sw:Nat} {K:Kd} {S:Nat->aq.Fn} {ord tr:zL} {B C:Hp}
theorem LG(kp:Nat)(w:Int)(C:Hp):Rd zQ 112 #[ptr kp,iv w] C (· =iv (if w<2\/4<w then 1 else 0)):=by
 refine aF λg=>Jn (ae.aI (Br.no (ae.lss (c6.or (decide (4<w)) (λ_=>ae.gtr ⟨rfl,rfl⟩) zI λgs=>?_))));rw[<-xa6];exact Br.dec (λh=>bg.mk (.refl _) (by rw[xad h])) (λh=>bg.mk (.refl _) (by rw[xac h]))
theorem Tg(h:At kp K S ord tr C)(hw:2<=w/\w<=4):Fc zQ 113 #[ptr kp,iv (w:Int)] C (λv H=>∃pp B,v=ptr pp/\H=B++C/\Pass pp kp w (cE K S ord) (cE K S ord) 0 B):=by
 refine aF λg=>Jm λb1 _=>?_;refine DR.self (Ld.q ?_);refine Ld.q ?_;refine aa.eq (cD h) (⟨.refl _,?_⟩);refine aa.eq (cD h) (⟨.refl _,?_⟩);refine Build.mk (cs:=[iv ((cE K S ord:Nat):Int),iv ((cE K S ord:Nat):Int),iv 0,.bool false]) zK (Build.mk (cs:=[.nilFunc,iv ((cE K S ord:Nat):Int),iv ((cE K S ord:Nat):Int),iv 0,.bool false]) zK λUg _=>?_);refine⟨.tail,?_⟩;refine aa.fn hnew (Gm hw) ?_;rintro v Cc ⟨s,rfl,hc⟩;obtain⟨sa,sl,sc,rfl⟩:∃a l c,s=Value.slice a l c:=by obtain⟨a,c,h⟩:=aU.len hc;exact⟨a,_,c,h⟩
 refine Ext.two λmq _=>(St.one (c':=#[.slice sa sl sc]) (by exact .head _) rfl zI rfl ?_);refine Nil.ptr (ai.mk (St.one (c':=mJ b1 mq (cE K S ord) (cE K S ord) 0) (by repeat (first|exact cZ.head _|apply cZ.tail|apply cZ.cq)) rfl (by simp[Value.cells]) rfl ?_));refine aN.mk (nG:=((Ug,.cells (mJ b1 mq (cE K S ord) (cE K S ord) 0) 170 zZ)::(b1,.cells #[ptr kp] 53 zZ)::(mq,.cells #[.slice sa sl sc] 43 zZ)::Cc)++C) (.perm ?_) ⟨Ug,_,rfl,rfl,b1,mq,_,rfl,_,Cc,rfl,hc⟩;refine(List.Perm.cons _ (xaU.trans (List.Perm.cons _ xaU))).trans ?_;refine(List.Perm.swap _ _ _).trans (List.Perm.cons _ (List.Perm.swap _ _ _))
theorem adA(hB:Pass pp kp w bf af sw B)(h:At kp K S ord tr C)(hp:p+w<=K.n)(eU:tr.length<17454747090944)(hs:sw<4611686018427387904):
  Fc zQ 177 #[ptr pp,ptr kp,iv (p:Int)] (B++C) (λv H=>v=.tuple #[]/\∃B' C',H=B'++C'/\Pass pp kp w bf (cE K S (ay ord ((rm K S).visit w p ord).1)) (sw+((rm K S).visit w p ord).2) B'/\At kp K S (ay ord ((rm K S).visit w p ord).1) (tr++((rm K S).visit w p ord).1) C'):=by
 obtain⟨b1,mq,B',rfl,hb⟩:=hB;have hv:=((rm K S).r7 w p ord).2;refine aF λg=>Ix (DR.of (R:=[(pp,.cells (mJ b1 mq bf af sw) 170 zZ)]) (.cons .nil) (Nil.ptr (ai.mk (Ld.f ?_))));refine Ld.n ?_;refine aJ.of rfl zK (aa.fq (args:=#[iv (p:Int),ptr b1,ptr mq]) (PB hb h hp eU) ?_);rintro v H ⟨rfl,C',rfl,h'⟩;refine⟨.cons .nil,?_⟩;refine ae.fE (Nil.ptr (ai.mk (ai.mk (St.one (c':=mJ b1 mq bf af (sw+((rm K S).visit w p ord).2)) (by exact .head _) rfl (by simp[mJ]) rfl ?_))));refine aa.eq (cD h') (Nil.ptr (ai.mk (ai.mk (St.one (c':=mJ b1 mq bf (cE K S (ay ord ((rm K S).visit w p ord).1)) (sw+((rm K S).visit w p ord).2)) (by exact .head _) rfl (by simp[mJ]) rfl ?_))));exact aN.here ⟨rfl,_::B',C',rfl,⟨b1,mq,B',rfl,hb⟩,h'⟩
theorem Uo(hB:Pass pp kp w bf (cE K S ord) sw B)(h:At kp K S ord tr C)(hw:2<=w/\w<=4)(eU:tr.length<17317308137472)(hs:sw<2305843009213693952):
  Fc zQ 114 #[ptr pp,ptr kp,iv (w:Int)] (B++C) (λv H=>v=.tuple #[]/\∃B' C',H=B'++C'/\Pass pp kp w bf (cE K S (ay ord ((rm K S).pass w ord).1)) (sw+((rm K S).pass w ord).2) B'/\At kp K S (ay ord ((rm K S).pass w ord).1) (tr++((rm K S).pass w ord).1) C'):=by
 have hn:=h.lT;refine aF λg=>Jl ?_;refine⟨λvs H=>∃i B' C',i<=K.n+1-w/\vs=[iv ((i:Nat):Int)]/\H=B'++C'/\Pass pp kp w bf (cE K S (ay ord ((rm K S).all w ord i).1)) (sw+((rm K S).all w ord i).2) B'/\At kp K S (ay ord ((rm K S).all w ord i).1) (tr++((rm K S).all w ord i).1) C',
  λvs _=>K.n+1-bN vs 0,JE.mk ⟨0,B,C,xaO _,rfl,rfl,by simpa[Rm.all,ay]using hB,by simpa[Rm.all,ay]using h⟩,?_⟩
 rintro w5 H ⟨i,B',C',hi,⟨⟩,rfl,hp,ha⟩ gs;have Pj:=(rm K S).Lg w ord i;refine ae.fE (aa.eq (m4 ha) (ae.BB (Br.dec (λhle=>?_) (λhle=>?_))))
 ·refine aa.fq (adA hp ha zO (by rw[xaf];omega) zO) ?_;rintro v H ⟨rfl,B2,C2,rfl,mT,BH⟩;rw[<-cg,xak,xcN]at*;refine ae.inc (aC.of (.refl _) ⟨i+1,B2,C2,by omega,rfl,rfl,by rw[Rm.all_succ];exact mT,by rw[Rm.all_succ];exact BH⟩ ?_);show K.n+1-(((i+1:Nat):Int).toNat)<K.n+1-(((i:Nat):Int).toNat);omega
 obtain rfl:i=K.n+1-w:=by omega
 exact aN.here ⟨rfl,B',C',rfl,hp,ha⟩
end
section
variable {pp kp w p bf af sw:Nat} {K:Kd} {S:Nat->aq.Fn} {ord tr:zL} {B C:Hp}
theorem WY(h:At kp K S ord tr C)(hw:2<=w/\w<=4)(eU:tr.length<17317308137472):
  Fc zQ 80 #[ptr kp,iv (w:Int)] C (λv H=>v=.tuple #[rep (cE K S ord) (cE K S (ay ord ((rm K S).pass w ord).1)) ((rm K S).pass w ord).2,iv 0]/\At kp K S (ay ord ((rm K S).pass w ord).1) (tr++((rm K S).pass w ord).1) H):=by
 have hn:=h.lT;refine aF λg=>Oe λb1 _=>?_;refine aa.eq (LG kp w C) ?_;rw[xac zO];refine ae.cK (Br.F (aa.fq (Tg h hw) ?_));rintro v H ⟨pp,B,rfl,rfl,hB⟩;refine aa.fq (Uo hB h hw eU zO) ?_;rintro v H ⟨rfl,B',C',rfl,hB',h'⟩;rw[xa2]at hB';obtain⟨x1,x18,B2,rfl,hb⟩:=hB';refine Nil.ptr (ai.mk (az.mk (vs:=#[iv ((cE K S ord:Nat):Int),iv ((cE K S (ay ord ((rm K S).pass w ord).1):Nat):Int),iv ((((rm K S).pass w ord).2:Nat):Int),.bool false]) (by exact .tail _ (.head _)) (by simp[mJ]) rfl ?_));refine St.q ?_;refine az.q ?_;exact aN.mk (.skip .right) ⟨rfl,h'⟩
end
theorem bH{ws:zL}{i:Nat}(h:i<ws.length):(iw ws)[i]? =some ((ws.getD i 0:Nat):Int):=by
 rw[de (w:=ws.getD i 0)];rw[xaq,xaa h];rfl
def abH(n:Nat)(p:List Int):Prop:=p.length=n/\∀v:Nat,v<n->p.count (v:Int)=1
instance (n:Nat)(p:List Int):Decidable (abH n p):=by unfold abH;infer_instance
theorem Rn{p:List Int}{x:Int}{i:Nat}(h:x∉p.take i)(hi:i<p.length)(he:p[i]=x):p.idxOf x=i:=by
 have e:p=p.take i++p[i]::p.drop (i+1):=by
  conv=>lhs;rw[<-xbq i p]
  rw[xbr hi]
 conv=>lhs;rw[e]
 rw[List.idxOf_append,xac h,he,List.idxOf_cons_self,xbF];omega
def tQ(p:List Int):Prop:=∀v:Nat,v<p.length->(v:Int)∈p
theorem wT{p:zL}{n:Nat}(hp:p.Perm (List.range n)):tQ (iw p):=λv hv=>by
 rw[au,hp.length_eq,xaH]at hv;exact xan.2 ⟨v,hp.mem_iff.2 (xaM.2 hv),rfl⟩
theorem YO{q:zL}{x:Nat}:(x:Int)∈iw q↔x∈q:=by
 unfold iw;rw[xan];exact⟨λ⟨y,hy,e⟩=>by rw[<-Int.ofNat.inj e];exact hy,λh=>⟨x,h,rfl⟩⟩
theorem Y9(q:zL)(x:Nat):(iw q).idxOf (x:Int)=q.idxOf x:=by
 induction q with
 |nil=>rfl
 |cons y q ih=>
  show(((y:Nat):Int)::iw q).idxOf (x:Int)=_;rw[List.idxOf_cons,List.idxOf_cons,ih];have:(((y:Nat):Int)==(x:Int))=(y==x):=by
   rw[xbE];simp[xeE]
  rw[this]
theorem Be(a k:Nat):decide ((a>>>k)%2=1)=a.testBit k:=by
 cases hb:a.testBit k
 ·rw[xal];rw[ak.K9,hb];simp
 rw[xam];rw[ak.K9,hb]
theorem Ss{ord:zL}{F G:aq.Fn->Prop}(h:∀g,F g->G g):∀l g,fs ord F l g->fs ord G l g
 |0,g,hg=>h g hg
 |l+1,g,⟨f,hf,b,e⟩=>⟨f,Ss h l f hf,b,e⟩
theorem aV{n:Nat}{ord:zL}{F G:aq.Fn->Prop}(h:∀g,F g->G g){g:aq.Fn}(hg:aD n ord F g):aD n ord G g:=let ⟨l,a,b,c⟩:=hg;⟨l,a,Ss h l g b,c⟩
structure fW(K:Kd)(S:Nat->aq.Fn)(K':Kd)(S':Nat->aq.Fn)(f:aq.Fn)(r:Nat):Prop where
 n:K'.n=K.n
 cap:K'.cap=K.cap
 N:∀s d,K.N s=some d->K'.N s=some d
 fn:∀s,live K.N s->S' s=S s
 live:live K'.N r
 is:S' r=f
 hold:∀s,K'.hold s=K.hold s+if s=r/\2<=r then 1 else 0
theorem bA{N N':er}(h:∀s d,N s=some d->N' s=some d){s:Nat}(hs:live N s):live N' s:=by
 rcases hs with hs|⟨d,hd⟩
 ·exact .inl hs
 exact .inr ⟨d,h s d hd⟩
theorem jY{K K5:Kd}{S S5:Nat->aq.Fn}{ah:Nat->Nat}(hK:Ok K S ah)(KI:Ok K5 S5 ah)(hold:∀s,K.hold s≠0->K5.hold s≠0)(h3:∀s d d',K.N s=some d->K5.N s=some d'->d'=d):
  ∀(k s:Nat) (d:Nd),K.N s=some d->ah d.v<=k->K5.N s=some d:=by
 intro k;induction k with
 |zero=>
  intro s d hd hl;have fin:live K5.N s->K5.N s=some d:=λhs=>by
   rcases hs with hs|⟨d',dF⟩
   ·have:=(hK.mid.two hd).1;omega
   rw[dF,h3 s d d' hd dF]
  rcases hK.reach s d hd with h|⟨p,e,hp,he⟩
  ·exact fin (.inr (KI.mid.held s (hold s h)))
  have h1:=hK.wf.lo hp;have h2:=hK.wf.hi hp;rcases he with rfl|rfl
  ·have:=h1.2;rw[an hd]at this;omega
  have:=h2.2;rw[an hd]at this;omega
 |succ k ih=>
  intro s d hd hl;have fin:live K5.N s->K5.N s=some d:=λhs=>by
   rcases hs with hs|⟨d',dF⟩
   ·have:=(hK.mid.two hd).1;omega
   rw[dF,h3 s d d' hd dF]
  rcases hK.reach s d hd with h|⟨p,e,hp,he⟩
  ·exact fin (.inr (KI.mid.held s (hold s h)))
  have h1:=hK.wf.lo hp;have h2:=hK.wf.hi hp;rcases he with rfl|rfl
  ·have:=h1.2;rw[an hd]at this;exact fin (KI.mid.lo (ih p e hp zO))
  have:=h2.2;rw[an hd]at this;exact fin (KI.mid.hi (ih p e hp zO))
theorem fW.held{K K':Kd}{S S':Nat->aq.Fn}{f:aq.Fn}{r:Nat}(h:fW K S K' S' f r)(hm:∀s,K.hold s≠0->aq.live K.N s)(g:aq.Fn)(hg:K'.held S' g):K.held S g\/g=f:=by
 obtain⟨s,hs,rfl⟩:=hg;by_cases h0:K.hold s=0
 ·right;have:=h.hold s;have hs':K'.hold s≠0:=hs;rw[h0]at this;by_cases e:s=r/\2<=r
  ·rw[e.1];exact h.is
  rw[xac e]at this;omega
 exact .inl ⟨s,h0,h.fn s (hm s h0)⟩
end
end Go.Proofs
namespace aq
open ak
section
variable {K:Kd} {S:Nat->Fn} {ah:Nat->Nat}
theorem Ok.Vj(h:Ok K S ah){d e:Nd}{r:Nat}
 (hlo:live K.N d.lo)(hhi:live K.N d.hi)(hne:d.lo≠d.hi)(hv:d.v<K.n)(hlt:ah d.v<dep K.n ah K.N d.lo/\ah d.v<dep K.n ah K.N d.hi)(hr:K.N r=some e)(Rw:S r=ite S d):e=d:=by
 have Rr:e.v=d.v:=by
  have e1:=h.lv.lt e.v (h.mid.var hr);have e2:=h.lv.lt d.v hv;rcases xcq (ah e.v) (ah d.v)with hh|hh|hh
  ·exfalso;obtain⟨z,hz⟩:=gj h.wf h.lv h.mid.int hr;rw[Rw]at hz;apply hz;unfold ite;have i1:=h.wf.bJ h.lv h.mid.int hlo (h.mid.var hr) zO;have i2:=h.wf.bJ h.lv h.mid.int hhi (h.mid.var hr) zO;have M0:d.v≠e.v:=λpD=>by rw[pD]at hh;omega
   simp only[aj,xac M0,i1,i2]
  ·exact h.lv.inj _ _ (h.mid.var hr) hv hh
  exfalso;have hx:=h.wf.bJ h.lv h.mid.int (r:=r) (.inr ⟨e,hr⟩) hv (by rw[an hr];exact hh);apply hne;refine h.wf.same h.lv h.mid.int hlo hhi λx=>?_;have i1:=h.wf.bJ h.lv h.mid.int hlo hv hlt.1;have i2:=h.wf.bJ h.lv h.mid.int hhi hv hlt.2;have q1:=hx x false;have q2:=hx x true;rw[Rw]at q1 q2;have q3:=q1.trans q2.symm;unfold ite at q3;simp only[aj,xa5,i1,i2,xaP,xa1]at q3;exact q3
 have kx:∀(b:Bool) x,S (if b then e.hi else e.lo) x=S (if b then d.hi else d.lo) x:=λb x=>by
  rw[<-h.wf.child h.lv h.mid.int hr x b,Rw,Rr];have i1:=h.wf.bJ h.lv h.mid.int hlo hv hlt.1;have i2:=h.wf.bJ h.lv h.mid.int hhi hv hlt.2;unfold ite;rw[aj,xad rfl,i1,i2];cases b<;>rfl
 have e1:e.lo=d.lo:=h.wf.same h.lv h.mid.int (h.mid.lo hr) hlo λx=>kx false x;have e2:e.hi=d.hi:=h.wf.same h.lv h.mid.int (h.mid.hi hr) hhi λx=>kx true x;have hed:∀a b:Nd,a.v=b.v->a.lo=b.lo->a.hi=b.hi->a=b:=λa b h1 h2 h3=>by
  cases a;cases b;cases h1;cases h2;cases h3;rfl
 exact hed e d Rr e1 e2
end
end aq
set_option maxRecDepth 100000
namespace Go.Proofs
open Go Go.Sx Tryz
section
open aq
def gv(bw kp:Nat)(vl vm:zV):Nat×Obj:=(bw,.cells #[ptr kp,vl,vm] 209 zZ)
abbrev Q3:=Nat×Nat×Nat
def l3(q:Q3):zL:=[q.1,q.2.1,q.2.2]
def kq(q:Q3):zV:=.agg (aA .u32 (iw (l3 q)))
theorem VK{a b:zL}(h:iw a=iw b):a=b:=by
 induction a generalizing b with
 |nil=>cases b with
  |nil=>rfl
  |cons y b=>simp[iw]at h
 |cons x a ih=>cases b with
  |nil=>simp[iw]at h
  |cons y b=>
   simp only[iw,xaC,xav]at h;rw[Int.ofNat.inj h.1,ih h.2]
theorem YW{a b:Q3}(h:l3 a=l3 b):a=b:=by
 obtain⟨a1,a2,a3⟩:=a;obtain⟨b1,b2,b3⟩:=b;simp[l3]at h;rw[h.1,h.2.1,h.2.2]
theorem vO(a b:Q3):Bv zQ 154 (kq a) (kq b) (decide (a=b)):=by
 have:=Bv.array (P:=zQ) (t:=154) (e:=78) (q:=.u32) (n:=3) zK zK zK (iw (l3 a)) (iw (l3 b)) rfl rfl;have e:decide (iw (l3 a)=iw (l3 b))=decide (a=b):=xcm.2 ⟨λh=>YW (VK h),λh=>by rw[h]⟩;rw[e]at this;exact this
theorem qu(a:Q3):mz zQ 154 (kq a):=mz.array (P:=zQ) (t:=154) (e:=78) (q:=.u32) (n:=3) zK zK zK _ rfl
theorem AS(a:Q3):Instr.sameBits 10000 (kq a) (kq a)=true:=kV 9998 λx hx=>.inl (by simp[aA]at hx;obtain⟨n,_,rfl⟩:=hx;exact⟨_,_,rfl⟩)
section
variable {kp bw:Nat} {vl vm:zV} {K:Kd} {S:Nat->aq.Fn} {ord ah tr:zL} {C:Hp}
theorem ND{H:Hp}{r:List zV}{K:zV->Hp->Prop}(hl:r.length=3)(h:∀b,K (.slice (some ⟨b,0,none⟩) 1 1) ((b,.cells r.toArray 144 zZ)::H)):ax zQ 213 1 [(0,.agg r.toArray)] H K:=
 ax.one (r:=r) (e:=144) (k:=3) (z:=.agg #[iv 0,.int .u32 0,.int .u32 0]) zK zK zK zD hl h
theorem zy{X Y:Hp}(h:cQ kp K ord ah tr C)(q:Q3)(hq:∀r∈l3 q,r<4294967296):
  Fc zQ 156 #[ptr bw,kq q] (gv bw kp vl vm::(X++(Y++C))) (λv H=>∃CN,H=CN++(gv bw kp vl vm::(X++(Y++C)))/\aU 144 3 v ((l3 q).map (got K.N)) CN):=by
 have hlen:(l3 q).length=3:=rfl;refine aF λg=>IS λb1 _=>?_;refine az.q ?_;refine⟨λvs H=>∃(i:Nat) (u:zV) (CN:Hp),vs=[u,iv (i:Int)]/\i<=3/\H=CN++((b1,.cells (aA .u32 (iw (l3 q))) 154 zZ)::(gv bw kp vl vm::(X++(Y++C))))/\aU 144 3 u (((l3 q).take i).map (got K.N)) CN,λvs _=>3-bN vs 1,
  JE.mk ⟨0,_,[],rfl,by omega,rfl,aU.nil _ _⟩,?_⟩
 rintro w8 w9 H ⟨i,u,CN,⟨⟩,hi,rfl,hN⟩ gs;refine ae.fy (b:=3) (Br.dec (λhlt=>?_) (λhlt=>?_))
 ·have iu:i<(l3 q).length:=hlt;obtain⟨r,hr⟩:∃r,(l3 q)[i]? =some r:=⟨_,xaa iu⟩;have Zi:=hq r (xau hr);refine jG.adJ (t:=154) (e:=78) (q:=.u32) (x:=.tmp 10) (i:=.tmp 11) (l:=iw (l3 q)) (z:=(r:Int)) (kd:=.i64) (n:=3) (j:=i) zK rfl rfl zK zK zK hlt (de hr) ?_;refine Ld.n ?_;refine aa.eq (args:=#[ptr kp,u32 r]) (iP h Zi) (Ext.two λBO _=>(St.whole (r:=got K.N r) (by exact .head _) rfl (aP _ _).1 (aP _ _).2 ?_));refine az.whole (r:=got K.N r) (by exact .head _) (aP _ _).1 ?_;refine ND (aP _ _).1 λbx=>?_;refine hN.rV (r:=got K.N r) (.cons (.cons .left)) (by exact .head _) (aP _ _).1 (aP _ _).2 ⟨[iv 0,.int .u32 0,.int .u32 0],rfl,rfl⟩ zP zP λv' C' ho=>?_;refine ae.inc (aC.of (.skip .tail) ⟨i+1,v',C',rfl,by omega,rfl,?_⟩ (by simp only[bN];omega));rw[xbf,hr,xaA];exact ho
 obtain rfl:i=3:=by omega
 rw[xcy (by rw[hlen];exact xai _)]at hN;exact aN.mk (.dc .tail _) ⟨CN,rfl,hN⟩
theorem Lc{n:Nat}{r4:Nat->Nat}{N:er}{B:Hp}{vn:zV}{lvl:zL}(hw:gv bw kp vl vm∈B)(hl:dI .i64 B vl (iw lvl))(ni:lvl.length=n)(hlv:∀v,v<n->lvl.getD v 0=r4 v)(q:Q3)(hn:Sl 3 B vn ((l3 q).map (got N)))
 (h:WF n r4 N)(hL:jH n r4)(hq:∀r∈l3 q,live N r)(sL:n<=64):
  Rd zQ 157 #[ptr bw,vn] B (λr=>((∀s∈l3 q,N s=none)/\r=iv (-1))\/∃v,uo n r4 N (l3 q) v/\r=iv (v:Int)):=by
 have hlen:(l3 q).length=3:=rfl;refine aF λg=>IQ (hn.bX ?_);rw[xax,hlen];refine⟨λvs H=>∃(i:Nat) (w:Int),vs=[iv w,iv (i:Int)]/\i<=3/\H=B/\(((∀s∈(l3 q).take i,N s=none)/\w= -1)\/∃v:Nat,uo n r4 N ((l3 q).take i) v/\w=(v:Int)),λvs _=>3-bN vs 1,
  JE.mk ⟨0, -1,rfl,by omega,rfl,.inl ⟨by simp,rfl⟩⟩,?_⟩
 rintro w6 w7 H ⟨i,w,⟨⟩,hi,rfl,hw6⟩ gs;refine ae.fy (b:=3) (Br.dec (λhlt=>?_) (λhlt=>?_))
 ·intro J hJ;have iu:i<(l3 q).length:=hlt;obtain⟨r,hr⟩:∃r,(l3 q)[i]? =some r:=⟨_,xaa iu⟩;have ny:(l3 q).take (i+1)=(l3 q).take i++[r]:=by rw[xbf,hr];rfl
  have fin:∀(w':Int) (Z:Hp),((∀s∈(l3 q).take (i+1),N s=none)/\w'= -1)\/(∃v:Nat,uo n r4 N ((l3 q).take (i+1)) v/\w'=(v:Int))->J [iv w'] (Z++H):=λw' Z h'=>hJ _ _ λgs=>by
   exact ae.inc (aC.of .right ⟨i+1,w',rfl,by omega,rfl,h'⟩ (by simp only[bN];omega))
  have hrow:((l3 q).map (got N))[i]? =some (got N r):=by rw[xat,hr];rfl
  refine av.sl hn hrow λp hp=>?_;refine az.at hp (aP _ _).1 zD (λ_ h=>h) ?_;intro r5 _;refine St.whole (r:=got N r) (by exact .head _) rfl (aP _ _).1 (aP _ _).2 ?_;have hlr:=hq r (xau hr);cases hN:N r with
  |none=>
   have qv:r<2:=by rcases hlr with h2|⟨d,hd⟩;exact h2;rw[hN]at hd;cases hd
   have eg:got N r=[iv (-1),u32 r,u32 r]:=fC qv;rw[eg];refine Ld.f ?_;refine ae.geq (c6.mk false (λh=>by simp at h) (λ_=>rfl) λgs=>Br.no ?_);refine JE.mk (fin w [_] ?_);rcases hw6 with⟨h1,h2⟩|⟨v,h1,h2⟩
   ·refine .inl ⟨λs hs=>?_,h2⟩;rw[ny,xao,xaE]at hs;rcases hs with hs|rfl
    ·exact h1 s hs
    exact hN
   refine .inr ⟨v,⟨h1.lt,?_,λs hs=>?_⟩,h2⟩
   ·obtain⟨s,hs,x⟩:=h1.ex;exact⟨s,by rw[ny];exact xae _ hs,x⟩
   rw[ny,xao,xaE]at hs;rcases hs with hs|rfl
   ·exact h1.le s hs
   rw[aS hN];exact xb5 (hL.lt v h1.lt)
  |some d=>
   have h2:=h.two hN;have kB:=h.var hN;have eg:got N r=bu d:=dU hN h2;rw[eg];refine Ld.f ?_;refine ae.geq ?_;rw[xam zO];have BZ:(∀s∈(l3 q).take i,r4 d.v<=dep n r4 N s)->∃v:Nat,uo n r4 N ((l3 q).take (i+1)) v/\(d.v:Int)=(v:Int):=λhle=>by
    refine⟨d.v,⟨kB,⟨r,by rw[ny];simp,d,hN,rfl⟩,λs hs=>?_⟩,rfl⟩;rw[ny,xao,xaE]at hs;rcases hs with hs|rfl
    ·exact hle s hs
    rw[an hN];exact xai _
   rcases hw6 with⟨h1,rfl⟩|⟨v,h1,rfl⟩
   ·refine c6.and true (λ_=>?_) rfl λgs=>Br.yes ?_
    ·exact ae.lss (c6.mk true (λh=>by simp at h) (λ_=>rfl) λgs=>⟨rfl,rfl⟩)
    refine Ld.f ?_;refine JE.mk (fin (d.v:Int) [_] (.inr (BZ λs hs=>?_)));rw[aS (h1 s hs)];exact xb5 (hL.lt _ kB)
   have g1:(iw lvl)[d.v]? =some ((r4 d.v:Nat):Int):=by rw[<-hlv d.v kB];exact bH zO
   have g2:(iw lvl)[v]? =some ((r4 v:Nat):Int):=by rw[<-hlv v h1.lt];exact bH (by have:=h1.lt;omega)
   refine c6.and (decide (r4 d.v<r4 v)) (λ_=>?_) rfl λgs=>?_
   ·refine ae.lss ?_;rw[xal zO];refine c6.or (decide (r4 d.v<r4 v)) (λ_=>?_) rfl λgs=>⟨rfl,by simp⟩;refine Ld.v (.tail _ hw) ?_;refine Ld.f ?_;refine hl.ld g1 (λ_ h=>.tail _ h) (Ld.v (.tail _ hw) ?_);exact hl.ld g2 (λ_ h=>.tail _ h) (ae.fy ⟨rfl,rfl⟩)
   rw[xcn];refine Br.dec (λug=>?_) (λug=>?_)
   ·refine Ld.f ?_;refine JE.mk (fin (d.v:Int) [_] (.inr (BZ λs hs=>?_)));have:=h1.le s hs;omega
   refine JE.mk (fin (v:Int) [_] (.inr ⟨v,⟨h1.lt,?_,λs hs=>?_⟩,rfl⟩))
   ·obtain⟨s,hs,x⟩:=h1.ex;exact⟨s,by rw[ny];exact xae _ hs,x⟩
   rw[ny,xao,xaE]at hs;rcases hs with hs|rfl
   ·exact h1.le s hs
   rw[an hN];omega
 obtain rfl:i=3:=by omega
 rw[xcy (by rw[hlen];exact xai _)]at hw6;refine bg.mk (.refl _) ?_;rcases hw6 with⟨h1,rfl⟩|⟨v,h1,rfl⟩
 ·exact .inl ⟨h1,rfl⟩
 exact .inr ⟨v,h1,rfl⟩
theorem MQ(h:bP kp K S ord ah tr C){v lo hi:Nat}(hv:v<K.n)(hlo:live K.N lo)(hhi:live K.N hi)(hlt:lv ah v<dep K.n (lv ah) K.N lo/\lv ah v<dep K.n (lv ah) K.N hi):
  Rd zQ 216 #[ptr kp,iv (v:Int),u32 lo,u32 hi] C (· =if lo=hi then .tuple #[u32 lo,.bool true]else .tuple #[u32 ((K.T ⟨v,lo,hi⟩).getD 0),.bool (K.T ⟨v,lo,hi⟩).isSome]):=by
 have af3:=h.bM hlo;have agd:=h.bM hhi;have Dr:=ca.2 hlo;have qM:=ca.2 hhi;have hfe:pR K ah (v:Int) lo hi=0:=by
  unfold pR;rw[xac zO,xac (by rw[Dr,qM];simp),xac];rintro⟨hne,hmin⟩;simp only[xbd,lv]at hmin hlt;omega
 refine aF λg=>HR λJ hJ=>?_;refine ae.aI (Split.go rfl (aa.eq (KQ h.rep (v:Int) zO zO (λr d hd=>⟨h.ok.mid.var hd,(h.ok.mid.two hd).1⟩)) ?_));rw[hfe];refine ae.cK (aL.mk (JE.mk (hJ _ _ λgs=>?_)));rw[xal zI];refine Br.no (aa.rq (JV h.rep (lo:=lo) (hi:=hi) hv) ?_);rintro w hw;subst hw;by_cases he:lo=hi
 ·rw[xad he];exact Ext.mk rfl (Ext.mk rfl (bg.mk (.refl _) rfl))
 rw[xac he];exact Ext.mk rfl (Ext.mk rfl (bg.mk (.refl _) rfl))
theorem vQ(h:bP kp K S ord ah tr C){v lo hi r:Nat}(hv:v<K.n)(hlo:live K.N lo)(hhi:live K.N hi)(hlt:lv ah v<dep K.n (lv ah) K.N lo/\lv ah v<dep K.n (lv ah) K.N hi)(hr:live K.N r)(h2:2<=r)(hS:S r=ite S ⟨v,lo,hi⟩):
  Rd zQ 216 #[ptr kp,iv (v:Int),u32 lo,u32 hi] C (· =.tuple #[u32 r,.bool true]):=by
 refine(MQ h hv hlo hhi hlt).mono ?_;rintro w H ⟨e,rfl⟩;refine⟨e,?_⟩;by_cases he:lo=hi
 ·subst he;rw[xad rfl,h.ok.wf.same h.ok.lv h.ok.mid.int hr hlo λx=>by rw[hS];unfold aq.ite;split<;>rfl]
 rw[xac he];obtain⟨d,hd⟩:∃d,K.N r=some d:=by
  rcases hr with h3|h3
  ·omega
  exact h3
 have hdd:d=⟨v,lo,hi⟩:=h.ok.Vj (d:=⟨v,lo,hi⟩) hlo hhi he hv hlt hd hS;subst hdd;rw[(h.ok.mid.kg _ r).2 ⟨hd,λe=>e⟩];rfl
theorem GB(r v:Nat)(B:Hp):Rd zQ 158 #[ptr bw,iv (v:Int),u32 r,u32 r] B (· =.tuple #[u32 r,iv 0]):=by
 exact aF λg=>xy (ae.ia (Br.T (bg.mk (.refl _) rfl)))
theorem Tp{CM X:Hp}{made:zL}(h:bP kp K S ord ah tr C){v lo hi:Nat}(hv:v<K.n)(hlo:live K.N lo)(hhi:live K.N hi)(hne:lo≠hi)(hlt:lv ah v<dep K.n (lv ah) K.N lo/\lv ah v<dep K.n (lv ah) K.N hi)
 (hM:aT 78 .u32 vm (iw made) CM)(hlen:made.length<=1099511627776):
  Fc zQ 158 #[ptr bw,iv (v:Int),u32 lo,u32 hi] (gv bw kp vl vm::(X++(CM++C))) (λw H=>
   (∃r K' S' C' Yl CM',w=.tuple #[u32 r,iv 0]/\H=gv bw kp vl Yl::(X++(CM'++C'))/\bP kp K' S' ord ah [] C'/\pV K S K' S' (ite S ⟨v,lo,hi⟩) r/\aT 78 .u32 Yl (iw (made++[r])) CM')\/
   (w=.tuple #[u32 0,iv 9]/\H=gv bw kp vl vm::(X++(CM++C))/\K.cap<=K.used/\K.T ⟨v,lo,hi⟩=none)\/
   (∃r,w=.tuple #[u32 r,iv 0]/\H=gv bw kp vl vm::(X++(CM++C))/\live K.N r/\2<=r/\K.hold r=65535/\S r=ite S ⟨v,lo,hi⟩)):=by
 refine aF λg=>xy (ae.eL (Br.SN hne (Ld.n ?_)));refine aa.fq (AP h hv hlo hhi (.inr hlt)) ?_;rintro w C' (⟨r,K',S',rfl,cX,mk⟩|⟨r,rfl,rfl,hlr,Pq,hfull,F5⟩|⟨rfl,rfl,hcap,_,hT⟩)
 ·refine Ext.two λJ hJ=>(ae.ia (Br.T (Ld.n ?_)));refine ax.int (e:=78) zK zK zK λbx=>?_;refine hM.rV (x:=(r:Int)) (.cons (.cons (.app .left))) (by exact .head _) (by rw[au];omega) (by rw[au];omega) λYl CM' ZT=>?_;have h1:=ZT.one;refine Nil.ptr (ai.mk (St.one (by exact .tail (.head _)) h1 zI rfl ?_));refine aN.mk .tail (.inl ⟨r,K',S',C',Yl,CM',rfl,rfl,cX,mk,?_⟩);rw[cG];exact ZT
 ·refine Ext.two λJ hJ=>(ae.ia (Br.F (ae.ia (Br.T (Ld.n ?_)))));exact aa.eq (vQ h hv hlo hhi hlt hlr Pq F5) (Ext.mk rfl (Ext.mk rfl (Br.yes (aN.here (.inr (.inr ⟨r,rfl,rfl,hlr,Pq,hfull,F5⟩))))))
 exact Ext.two λJ hJ=>(ae.ia (Br.F (ae.ia (Br.F (JE.mk (hJ _ λgs=>aN.here (.inr (.inl ⟨rfl,rfl,hcap,hT⟩))))))))
end
end
section
open aq
structure k9(K0:Kd)(S0:Nat->aq.Fn)(U:aq.Fn->Prop)(ord:zL)(K:Kd)(S:Nat->aq.Fn)(made:zL):Prop where
 n:K.n=K0.n
 cap:K.cap=K0.cap
 N:∀s d,K0.N s=some d->K.N s=some d
 fn:∀s,live K0.N s->S s=S0 s
 hold:∀s,K.hold s=K0.hold s+made.count s
 two:∀s∈made,2<=s
 U:∀g,aD K0.n ord (K.held S) g->U g
theorem k9.refl{K0:Kd}{S0:Nat->aq.Fn}{U:aq.Fn->Prop}{ord:zL}(h:∀g,aD K0.n ord (K0.held S0) g->U g):k9 K0 S0 U ord K0 S0 []:=⟨rfl,rfl,λ_ _ h=>h,λ_ _=>rfl,λs=>by simp,by simp,h⟩
def Fits(U:aq.Fn->Prop)(cap:Nat):Prop:=∃ku,nt U ku/\ku+2<=cap
section
variable {kp:Nat} {K0 K:Kd} {S0 S:Nat->aq.Fn} {U:aq.Fn->Prop} {ord ah tr:zL} {made:zL} {C:Hp}
theorem k9.ir(h:k9 K0 S0 U ord K S made)(hK:bP kp K S ord ah tr C){s:Nat}(hs:s∈made):live K.N s:=by
 refine .inr (hK.ok.mid.held s ?_);rw[h.hold];have:=xbL.2 hs;omega
theorem yO{b:Nat}:∀(m:Nat) (l:zL),(∀x∈l,x<m)->(∀x,l.count x<=b)->l.length<=m*b
 |0,l,h1,_=>by
  cases l with
  |nil=>simp
  |cons x l=>exact absurd (h1 x (xby ..)) (xcF _)
 |m+1,l,h1,h2=>by
  have ih:=yO m (l.filter λx=> !(x==m)) (λx hx=>by
   obtain⟨hx,hne⟩:=xb1.1 hx;have:=h1 x hx;have:x≠m:=by simpa using hne
   omega) (λx=>xbN (List.filter_sublist.count_le x) (h2 x))
  have e:=List.length_eq_countP_add_countP (λx=>x==m) (l:=l);have h3:=h2 m;rw[List.count]at h3;rw[List.countP_eq_length_filter (l:=l) (p:=λa=>decide ¬(a==m)=true)]at e;rw[xbu];have e2:(l.filter λa=>decide ¬(a==m)=true)=l.filter λx=> !(x==m):=xdn λx _=>by cases x==m<;>rfl
  rw[e2]at e;omega
theorem k9.ry(h:k9 K0 S0 U ord K S made)(hK:bP kp K S ord ah tr C):made.length<=1048576*65535:=
 yO _ _ (λx hx=>by
  have hc:=xbL.2 hx;have:=h.hold x;obtain⟨d,hd⟩:=hK.ok.mid.held x zO;have:=(hK.ok.mid.two hd).2;have:=hK.ok.mid.cap;omega) (λx=>by have:=h.hold x;have:=hK.ok.mid.mx x;omega)
theorem k9.full(h:k9 K0 S0 U ord K S made){r:Nat}(hr:K.hold r=65535):r∈made\/K0.hold r=65535:=by
 by_cases hm:r∈made
 ·exact .inl hm
 have:=h.hold r;rw[xdN.2 hm]at this;exact .inr zO
theorem k9.live(h:k9 K0 S0 U ord K S made){s:Nat}(hs:live K0.N s):live K.N s:=bA h.N hs
theorem k9.step(h:k9 K0 S0 U ord K S made)(hK:bP kp K S ord ah tr C){K':Kd}{S':Nat->aq.Fn}{f:aq.Fn}{r:Nat}(m:pV K S K' S' f r)(h2:2<=r)(hU:∀g,aD K0.n ord (λg=>g=f) g->U g):k9 K0 S0 U ord K' S' (made++[r]):=by
 refine⟨m.n.trans h.n,m.cap.trans h.cap,λs d hd=>m.N s d (h.N s d hd),λs hs=>(m.fn s (h.live hs)).trans (h.fn s hs),λs=>?_,λs hs=>?_,λg hg=>?_⟩
 ·rw[m.hold,xbe,xcK,h.hold];by_cases e:s=r
  ·subst e;simp[h2];omega
  have:(r==s)=false:=by simpa using λe'=>e e'.symm
  simp[e,this]
 ·rcases xao.1 hs with hs|hs
  ·exact h.two s hs
  simp at hs;subst hs;exact h2
 have mB:∀g,K'.held S' g->K.held S g\/g=f:=by
  rintro g ⟨s,hs,rfl⟩;have hs':K'.hold s≠0:=hs;rw[m.hold]at hs';by_cases e:s=r/\2<=r
  ·right;rw[e.1];exact m.is
  rw[xac e]at hs';exact .inl ⟨s,hs',m.fn s (.inr (hK.ok.mid.held s hs'))⟩
 rcases(lR g).1 (aV mB hg)with h1|h1
 ·exact h.U g h1
 exact hU g h1
end
def Bi(jc b1 b5 r5:Nat):zV:=.func (.func 155) #[] #[ptr jc,ptr b1,ptr b5,ptr r5]
structure Bu(fv:zV)(LB:Hp)(t:Bool->Bool->Bool->Bool):Prop where
 is:∃f first cap,fv=.func (.func f) first cap/\aW zQ f=true/\∀x y z:Bool,Rd zQ f (first++ #[.bool x,.bool y,.bool z]++cap) LB (· =.bool (t x y z))
def adQ(K0:Kd)(S0 S:Nat->aq.Fn)(t:Bool->Bool->Bool->Bool)(made:zL)(m:List (Q3×Nat)):Prop:=∀y∈m,S y.2=uk t S0 (l3 y.1)/\(y.2<2\/y.2∈made\/K0.hold y.2=65535)
section
variable {kp jc b1 b5 r5 bm bw:Nat} {vl fv:zV} {LB CL:Hp} {lvl:zL} {K0:Kd} {S0:Nat->aq.Fn} {U:aq.Fn->Prop} {ord ah:zL} {t:Bool->Bool->Bool->Bool}
abbrev X0(jc b1 b5 r5 bm bw kp:Nat)(fv vl vm:zV)(LB CL CM C:Hp)(es:Array MapEntry)(ck:Nat):Hp:=
 (jc,.cells #[.map (some bm)] 211 zZ)::(b1,.cells #[ptr bw] 149 zZ)::(b5,.cells #[fv] 155 zZ)::(r5,.cells #[Bi jc b1 b5 r5] 212 zZ)::
 (LB++((bm,.map es ck)::(gv bw kp vl vm::(CL++(CM++C)))))
structure Stp(kp:Nat)(K0:Kd)(S0:Nat->aq.Fn)(U:aq.Fn->Prop)(ord ah Yp:zL)(t:Bool->Bool->Bool->Bool)(K:Kd)(S:Nat->aq.Fn)(made:zL)(es:Array MapEntry)(ck:Nat)(vm:zV)(CM C:Hp):Prop where
 ks:∃tr,bP kp K S ord ah tr C/\(tr=[]\/(tr=Yp/\made=[]))
 cT:k9 K0 S0 U ord K S made
 mde:aT 78 .u32 vm (iw made) CM
 kn:∃m,aE kq O7 es ck m/\adQ K0 S0 S t made m
structure gu(K:Kd)(S:Nat->aq.Fn)(made:zL)(K':Kd)(S':Nat->aq.Fn)(made':zL)(c:Nat):Prop where
 N:∀s d,K.N s=some d->K'.N s=some d
 fn:∀s,live K.N s->S' s=S s
 ext:∃ext,made'=made++ext/\ext.length<=c
theorem gu.refl{K:Kd}{S:Nat->aq.Fn}{made:zL}{c:Nat}:gu K S made K S made c:=⟨λ_ _ h=>h,λ_ _=>rfl,[],by simp,xaO _⟩
section
variable {K K' K2:Kd} {S S' S2:Nat->aq.Fn} {made made' fR:zL} {c c':Nat}
theorem gu.LC(h:gu K S made K' S' made' c)(hc:c<=c'):gu K S made K' S' made' c':=⟨h.N,h.fn,let ⟨e,h1,h2⟩:=h.ext;⟨e,h1,by omega⟩⟩
theorem gu.mem{s:Nat}(h:gu K S made K' S' made' c)(hs:s∈made):s∈made':=by
 obtain⟨e,rfl,_⟩:=h.ext;exact xae _ hs
theorem gu.count(h:gu K S made K' S' made' c)(s:Nat):made'.count s<=made.count s+c/\made'.length<=made.length+c:=by
 obtain⟨e,rfl,he⟩:=h.ext;have:=List.count_le_length (a:=s) (l:=e);rw[xbe,xaf];omega
theorem gu.trans(h:gu K S made K' S' made' c)(h':gu K' S' made' K2 S2 fR c'):gu K S made K2 S2 fR (c+c'):=by
 obtain⟨e,rfl,he⟩:=h.ext;obtain⟨e',rfl,he'⟩:=h'.ext;exact⟨λs d hd=>h'.N s d (h.N s d hd),λs hs=>(h'.fn s (bA h.N hs)).trans (h.fn s hs),e++e',by rw[xak],by rw[xaf];omega⟩
end
theorem nW{κ β:Type}[DecidableEq κ]{m:List (κ×β)}{k:κ}{x:β}{y:κ×β}(h:y∈dW m k x):y=(k,x)\/y∈m:=by
 unfold dW at h;split at h
 ·obtain⟨z,hz,rfl⟩:=xan.1 h;split
  ·exact .inl rfl
  exact .inr hz
 rcases xao.1 h with h|h
 ·exact .inr h
 simp at h;exact .inl h
def Cr(N:er)(v:Nat)(b:Bool)(q:Q3):Q3:=(dV N v b q.1,dV N v b q.2.1,dV N v b q.2.2)
theorem VC(N:er)(v:Nat)(b:Bool)(q:Q3):l3 (Cr N v b q)=iT N v b (l3 q):=rfl
theorem oc{N N':er}(hN:∀s d,N s=some d->N' s=some d)(h2:∀r,r<2->N r=none)(me:∀r,r<2->N' r=none){r:Nat}(hr:live N r):got N' r=got N r:=by
 rcases hr with hr|⟨d,hd⟩
 ·rw[fC hr,fC hr]
 by_cases h:r<2
 ·rw[h2 r h]at hd;cases hd
 rw[dU hd zO,dU (hN r d hd) zO]
def Ans(kp jc b1 b5 r5 bm bw:Nat)(fv vl:zV)(LB CL:Hp)(K0:Kd)(S0:Nat->aq.Fn)(U:aq.Fn->Prop)(ord ah Yp:zL)(t:Bool->Bool->Bool->Bool)(ql:zL)(c:Nat)(K:Kd)(S:Nat->aq.Fn)(made:zL)(r:zV)(H:Hp):Prop:=
 ∃K' S' made' es' bC Yl CM' C',H=X0 jc b1 b5 r5 bm bw kp fv vl Yl LB CL CM' C' es' bC/\Stp kp K0 S0 U ord ah Yp t K' S' made' es' bC Yl CM' C'/\gu K S made K' S' made' c/\
   ((∃x:Nat,r=.tuple #[u32 x,iv 0]/\S' x=uk t S0 ql/\(x<2\/x∈made'\/K0.hold x=65535))\/(r=.tuple #[u32 0,iv 9]/\¬Fits U K0.cap))
theorem ZY(fM:aW zQ 155=true)(A7:Bu fv LB t)(XY:aT 3 .i64 vl (iw lvl) CL)(ni:lvl.length=K0.n)(hlv:∀v,v<K0.n->lvl.getD v 0=lv ah v)(sL:K0.n<=64)(lj:WF K0.n (lv ah) K0.N)(pG:Interp K0.N S0)(jM:jH K0.n (lv ah))(Po:∀r,live K0.N r->r<4294967296)(hh0:∀s,K0.hold s=65535->live K0.N s){Yp:zL}:
  ∀(ql:zL) (c:Nat),Tree K0.n (lv ah) K0.N ql c->∀(q:Q3),l3 q=ql->∀(K:Kd) (S:Nat->aq.Fn) (made:zL) (es:Array MapEntry) (ck:Nat) (vm:zV) (CM C:Hp),Stp kp K0 S0 U ord ah Yp t K S made es ck vm CM C->
  (∀r∈ql,live K0.N r)->(∀g,aD K0.n ord (λg=>g=uk t S0 ql) g->U g)->
  Fc zQ 155 #[kq q,ptr jc,ptr b1,ptr b5,ptr r5] (X0 jc b1 b5 r5 bm bw kp fv vl vm LB CL CM C es ck) (λr H=>Ans kp jc b1 b5 r5 bm bw fv vl LB CL K0 S0 U ord ah Yp t ql c K S made r H):=by
 have hc0:∀r,r<2->K0.N r=none:=λr hr=>lj.const hr;intro ql c hT;induction hT with
 | @leaf ql hnone=>
  intro q hq K S made es ck vm CM C hS fJ hU g;subst hq;obtain⟨tr,hK,eU⟩:=hS.ks;obtain⟨m,hE,hkn⟩:=hS.kn;have KF:∀r,r<2->K.N r=none:=λr hr=>hK.ok.wf.const hr;refine xz (R:=aN _) ?_;unfold L155;intro bq _;refine Ld.q ?_;refine az.q ?_;have xV:(bm,Obj.map es ck)∈(bq,Obj.cells (aA .u32 (iw (l3 q))) 154 zZ)::X0 jc b1 b5 r5 bm bw kp fv vl vm LB CL CM C es ck:=.tail _ (.tail _ (.tail _ (.tail _ (.tail _ (xab _ (.head _))))));cases hg:aK m q with
  |some x=>
   refine aE.FR (ke:=kq) (k:=q) vO qu hE xV hg ?_;rintro v rfl;obtain⟨h1,h2⟩:=hkn _ ((dR hE.nd).1 hg);exact Ext.mk rfl (Ext.mk rfl (Br.yes (aN.mk .tail ⟨K,S,made,es,ck,vm,CM,C,rfl,hS,.refl,.inl ⟨x,rfl,h1,h2⟩⟩)))
  |none=>
   refine aE.vH (ke:=kq) (k:=q) vO qu hE xV hg ?_;refine Ext.mk rfl (Ext.mk rfl (Br.no (Ld.q ?_)));refine az.q ?_;refine aa.fq (args:=#[ptr bw,kq q]) (zy hK.rep q (λr hr=>Po r (fJ r hr))) ?_;rintro vn H ⟨CN,rfl,hN⟩;have eN:(l3 q).map (got K.N)=(l3 q).map (got K0.N):=xbn λr hr=>oc hS.cT.N hc0 KF (fJ r hr);rw[eN]at hN;refine Ld.q ?_;refine aa.rq (Lc (bw:=bw) (kp:=kp) (vl:=vl) (vm:=vm) (lvl:=lvl) (n:=K0.n) (r4:=lv ah) (N:=K0.N) (.tail _ (.tail _ (.tail _ (.tail _ (.tail _ (xab _ (.tail _ (xab _ (.head _))))))))) (XY.ints.mono λ_ h=>.tail _ (.tail _ (.tail _ (.tail _ (.tail _ (xab _ (.tail _ (xab _ (.tail _ (xae _ h)))))))))) ni hlv q ((Sl.nU hN zD).mono λ_ h=>.tail _ (.tail _ (.tail _ (.tail _ (.tail _ (xab _ (.tail _ (xae _ h)))))))) lj jM fJ sL) ?_;rintro w (⟨_,rfl⟩|⟨v,hv,rfl⟩);rotate_left
   ·obtain⟨s,hs,d,hd,_⟩:=hv.ex;rw[hnone s hs]at hd;cases hd
   refine ae.lss (Br.T ?_);have M1:∀r∈l3 q,r<2:=λr hr=>by
    rcases fJ r hr with h|⟨d,hd⟩
    ·exact h
    rw[hnone r hr]at hd;cases hd
   obtain⟨f,first,cap,RP,hfc,hL⟩:=A7.is;refine Ld.q ?_;refine iW.nat (j:=0) zD (Ld.q ?_);refine ae.eL (b:=1) (iW.nat (j:=1) zD (Ld.q ?_));refine ae.eL (b:=1) (iW.nat (j:=2) zD (Ld.q ?_));refine ae.eL (b:=1) (aJ.of RP hfc ?_);refine aa.eq (hL _ _ _) ?_;have M0:=λx=>Nk pG (q:=l3 q) rfl M1 t x;have hint:=hK.ok.mid.int;have XO:aM ((bq,Obj.cells (aA .u32 (iw (l3 q))) 154 zZ)::(jc,.cells #[.map (some bm)] 211 zZ)::(b1,.cells #[ptr bw] 149 zZ)::(b5,.cells #[fv] 155 zZ)::(r5,.cells #[Bi jc b1 b5 r5] 212 zZ)::(LB++((bm,.map es ck)::(CN++(gv bw kp vl vm::(CL++(CM++C))))))) (X0 jc b1 b5 r5 bm bw kp fv vl vm LB CL CM C es ck):=
    .skip (.cons (.cons (.cons (.cons (.dc (.cons .right) _)))))
   refine Br.mk (λhb=>?_) (λhb=>?_)
   ·refine aN.mk XO ⟨K,S,made,es,ck,vm,CM,C,rfl,hS,.refl,.inl ⟨1,rfl,funext λx=>?_,.inl zO⟩⟩;rw[hint.one,M0 x];exact hb.symm
   refine aN.mk XO ⟨K,S,made,es,ck,vm,CM,C,rfl,hS,.refl,.inl ⟨0,rfl,funext λx=>?_,.inl zO⟩⟩;rw[hint.zero,M0 x];exact hb.symm
 | @node ql v a b hv ha hb iha ihb=>
  intro q hq K S made es ck vm CM C hS fJ hU g;subst hq;obtain⟨tr,hK,eU⟩:=hS.ks;obtain⟨m,hE,hkn⟩:=hS.kn;have KF:∀r,r<2->K.N r=none:=λr hr=>hK.ok.wf.const hr;refine xz (R:=aN _) ?_;unfold L155;intro bq _;refine Ld.q ?_;refine az.q ?_;have xV:(bm,Obj.map es ck)∈(bq,Obj.cells (aA .u32 (iw (l3 q))) 154 zZ)::X0 jc b1 b5 r5 bm bw kp fv vl vm LB CL CM C es ck:=.tail _ (.tail _ (.tail _ (.tail _ (.tail _ (xab _ (.head _))))));cases hg:aK m q with
  |some x=>
   refine aE.FR (ke:=kq) (k:=q) vO qu hE xV hg ?_;rintro v rfl;obtain⟨h1,h2⟩:=hkn _ ((dR hE.nd).1 hg);exact Ext.mk rfl (Ext.mk rfl (Br.yes (aN.mk .tail ⟨K,S,made,es,ck,vm,CM,C,rfl,hS,.refl,.inl ⟨x,rfl,h1,h2⟩⟩)))
  |none=>
  refine aE.vH (ke:=kq) (k:=q) vO qu hE xV hg ?_;refine Ext.mk rfl (Ext.mk rfl (Br.no (Ld.q ?_)));refine az.q ?_;refine aa.fq (args:=#[ptr bw,kq q]) (zy hK.rep q (λr hr=>Po r (fJ r hr))) ?_;rintro vn H ⟨CN,rfl,hN⟩;have eN:(l3 q).map (got K.N)=(l3 q).map (got K0.N):=xbn λr hr=>oc hS.cT.N hc0 KF (fJ r hr);rw[eN]at hN;refine Ld.q ?_;refine aa.rq (Lc (bw:=bw) (kp:=kp) (vl:=vl) (vm:=vm) (lvl:=lvl) (n:=K0.n) (r4:=lv ah) (N:=K0.N) (.tail _ (.tail _ (.tail _ (.tail _ (.tail _ (xab _ (.tail _ (xab _ (.head _))))))))) (XY.ints.mono λ_ h=>.tail _ (.tail _ (.tail _ (.tail _ (.tail _ (xab _ (.tail _ (xab _ (.tail _ (xae _ h)))))))))) ni hlv q ((Sl.nU hN zD).mono λ_ h=>.tail _ (.tail _ (.tail _ (.tail _ (.tail _ (xab _ (.tail _ (xae _ h)))))))) lj jM fJ sL) ?_;rintro w (⟨aG,_⟩|⟨v',n7,rfl⟩)
  ·obtain⟨s,hs,d,hd,_⟩:=hv.ex;rw[aG s hs]at hd;cases hd
  obtain rfl:v'=v:=n7.uniq jM hv;refine ae.lss (Br.F (DR.of (R:=[(bq,Obj.cells (aA .u32 (iw (l3 q))) 154 zZ)]) (aM.left (A:=[_])) (az.q ?_)));refine az.q ?_;intro b31 _ X8 _ F35;have hone:∀x∈(iw (l3 q)).map λn=>Value.int .u32 n,x.oneCell'=true:=λx hx=>by obtain⟨n,_,rfl⟩:=xan.1 hx;rfl
  refine St.p hone ?_;refine⟨.skip (.skip (aM.left (A:=[_]))),?_⟩;intro F37;refine St.p hone ?_;refine hN.bX ?_;rw[xax];refine⟨λvs H=>∃i:Nat,vs=[iv (i:Int)]/\i<=3/\H=(X8,.cells (aA .u32 (iw (mN K0.N v' true (l3 q) i))) 154 zZ)::(b31,.cells (aA .u32 (iw (mN K0.N v' false (l3 q) i))) 154 zZ)::
    (bq,Obj.cells (aA .u32 (iw (l3 q))) 154 zZ)::(jc,.cells #[.map (some bm)] 211 zZ)::(b1,.cells #[ptr bw] 149 zZ)::(b5,.cells #[fv] 155 zZ)::(r5,.cells #[Bi jc b1 b5 r5] 212 zZ)::(LB++((bm,.map es ck)::(CN++(gv bw kp vl vm::(CL++(CM++C)))))),
   λvs _=>3-bN vs 0,JE.mk ⟨0,rfl,by omega,by rw[yE,yE];rfl⟩,?_⟩
  rintro w44 H ⟨i,hvs,hi,rfl⟩ gs;simp only[xav,xaW]at hvs;subst hvs;have hl3:(l3 q).length=3:=rfl;refine ae.fy (b:=3) (Br.dec (λhlt=>?_) (λhlt=>?_))
  ·-- a part of the question
   intro J hJ;obtain⟨r,hr⟩:∃r,(l3 q)[i]? =some r:=⟨_,xaa (show i<(l3 q).length from hlt)⟩;have hlr:=fJ r (xau hr);have hrow:((l3 q).map (got K0.N))[i]? =some (got K0.N r):=by rw[xat,hr];rfl
   refine av.sl (Sl.nU hN zD) hrow λp hp=>?_;refine az.at hp (aP _ _).1 zD (λ_ h=>.tail _ (.tail _ (.tail _ (.tail _ (.tail _ (.tail _ (.tail _ (xab _ (.tail _ (xae _ h)))))))))) ?_;intro b52 _;refine St.whole (r:=got K0.N r) (by exact .head _) rfl (aP _ _).1 (aP _ _).2 ?_;have stay:dV K0.N v' false r=r->dV K0.N v' true r=r->∀Z:Hp,JE J [] (Z++((X8,.cells (aA .u32 (iw (mN K0.N v' true (l3 q) i))) 154 zZ)::(b31,.cells (aA .u32 (iw (mN K0.N v' false (l3 q) i))) 154 zZ)::
    (bq,Obj.cells (aA .u32 (iw (l3 q))) 154 zZ)::(jc,.cells #[.map (some bm)] 211 zZ)::(b1,.cells #[ptr bw] 149 zZ)::(b5,.cells #[fv] 155 zZ)::(r5,.cells #[Bi jc b1 b5 r5] 212 zZ)::(LB++((bm,.map es ck)::(CN++(gv bw kp vl vm::(CL++(CM++C)))))))):=λe1 e2 Z=>by
    refine JE.of .right (hJ _ λgs=>?_);exact ae.inc (aC.of (.refl _) ⟨i+1,rfl,by omega,by rw[yF hr e1,yF hr e2]⟩ (by simp only[bN];omega))
   cases ZR:K0.N r with
   |none=>
    have qv:r<2:=by rcases hlr with h2|⟨d,hd⟩;exact h2;rw[ZR]at hd;cases hd
    rw[fC qv];refine Ld.f ?_;refine ae.ia (Br.F ?_);have ec:∀b,dV K0.N v' b r=r:=λb=>by unfold dV;rw[ZR]
    exact stay (ec false) (ec true) [_]
   |some d=>
    have h2:=lj.two ZR;rw[dU ZR h2];refine Ld.f ?_;refine ae.eL (Br.dec (λkB=>?_) (λkB=>?_))
    ·refine DR.of (R:=[(b52,Obj.cells (bu d).toArray 144 zZ)]) (aM.left (A:=[_])) (Ld.f ?_);refine Ld.f ?_;have elo:dV K0.N v' false r=d.lo:=by unfold dV;rw[ZR];simp[kB]
     have ehi:dV K0.N v' true r=d.hi:=by unfold dV;rw[ZR];simp[kB]
     refine iW.nat hlt ?_;refine St.ints (l:=iw (mN K0.N v' false (l3 q) i)) (x:=(d.lo:Int)) (by exact .tail (.tail (.head _))) (by rw[au,CQ zO];omega) ?_;refine⟨aM.left (A:=[_]),?_⟩;refine iW.nat hlt ?_;refine St.ints (l:=iw (mN K0.N v' true (l3 q) i)) (x:=(d.hi:Int)) (by exact .tail (.head _)) (by rw[au,CQ zO];omega) ?_;rw[eY,eY,<-elo,<-ehi,sC hr,sC hr];refine JE.of .tail (hJ _ λgs=>?_);exact ae.inc (aC.of (.refl _) ⟨i+1,rfl,by omega,rfl⟩ (by simp only[bN];omega))
    have ec:∀b,dV K0.N v' b r=r:=λb=>by unfold dV;rw[ZR];simp[kB]
    exact stay (ec false) (ec true) [_]
  obtain rfl:i=3:=by omega
  have em:∀b,mN K0.N v' b (l3 q) 3=l3 (Cr K0.N v' b q):=λb=>by rw[VC,<-QT];rfl
  rw[em,em];obtain⟨f1,f2⟩:=py (S:=S0) lj jM pG fJ hv false;obtain⟨t1,t2⟩:=py (S:=S0) lj jM pG fJ hv true;have ec:∀b,uk t S0 (iT K0.N v' b (l3 q))=λx=>uk t S0 (l3 q) (ak.aB x v' b):=λb=>KS lj jM pG rfl fJ hv t b;have kZ:Ord K0.n (lv ah) ord:=by rw[<-hS.cT.n];exact hK.od
  have iu:=jM.lt v' hv.lt;have Dl:=kZ.of jM hv.lt;have sN:=zi lj jM pG kZ (q:=l3 q) rfl fJ (xb5 iu) hv.le t;obtain⟨i1,PW⟩:=jJ (n:=K0.n) (ord:=ord) (c:=uk t S0 (iT K0.N v' false (l3 q))) sN (b:=false) (by rw[Dl];exact ec false);obtain⟨i2,PV⟩:=jJ (n:=K0.n) (ord:=ord) (c:=uk t S0 (iT K0.N v' true (l3 q))) sN (b:=true) (by rw[Dl];exact ec true);refine Ld.q ?_;refine az.q ?_;refine aJ.of rfl fM ?_;refine aa.pre (H':=(X8,.cells (aA .u32 (iw (l3 (Cr K0.N v' true q)))) 154 zZ)::(b31,.cells (aA .u32 (iw (l3 (Cr K0.N v' false q)))) 154 zZ)::(bq,Obj.cells (aA .u32 (iw (l3 q))) 154 zZ)::X0 jc b1 b5 r5 bm bw kp fv vl vm LB CL CM C es ck) (.cons (.cons (.cons (.cons (.cons (.cons (.cons (.dc (.cons .right) _)))))))) ?_;refine aa.fq (args:=#[kq (Cr K0.N v' false q),ptr jc,ptr b1,ptr b5,ptr r5]) (iha (Cr K0.N v' false q) rfl K S made es ck vm CM C hS f1 (λg hg=>hU g (PW g hg))) ?_;rintro w H ⟨K1,S1,yL,kC,jO,vm1,CM1,C1,rfl,Ez,Wr,R8⟩;rcases R8 with⟨x1,rfl,hx1,xH⟩|⟨rfl,hno⟩;rotate_left
  ·exact Ext.mk rfl (Ext.mk rfl (ae.cK (Br.T (aN.mk (.skip (.skip .tail)) ⟨K1,S1,yL,kC,jO,vm1,CM1,C1,rfl,Ez,Wr.LC zO,.inr ⟨rfl,hno⟩⟩))))
  refine Ext.mk rfl (Ext.mk rfl (ae.cK (Br.F (Ld.q ?_))));refine az.q ?_;refine aJ.of rfl fM ?_;have hc1:=λs=>Wr.count s;have hh1:∀s,K1.hold s<=K.hold s+a:=λs=>by rw[Ez.cT.hold,hS.cT.hold];have:=(hc1 s).1;omega
  refine aa.fq (args:=#[kq (Cr K0.N v' true q),ptr jc,ptr b1,ptr b5,ptr r5]) (ihb (Cr K0.N v' true q) rfl K1 S1 yL kC jO vm1 CM1 C1 Ez t1 (λg hg=>hU g (PV g hg))) ?_;rintro w H ⟨K2,S2,fR,gP,iB,vm2,CM2,C2,rfl,jy,ob,R8⟩;have xZ:=Wr.trans ob;rcases R8 with⟨x2,rfl,FK,nh⟩|⟨rfl,hno⟩;rotate_left
  ·exact Ext.mk rfl (Ext.mk rfl (ae.cK (Br.T (aN.mk (.skip (.skip .tail)) ⟨K2,S2,fR,gP,iB,vm2,CM2,C2,rfl,jy,xZ.LC zO,.inr ⟨rfl,hno⟩⟩))))
  refine Ext.mk rfl (Ext.mk rfl (ae.cK (Br.F (Ld.q ?_))));obtain⟨Xi,dL,VR⟩:=Ez.ks;obtain⟨Er,cR,ue⟩:=jy.ks;have acu:=cR.ok.mid.int;have l11:live K1.N x1:=by rcases xH with h|h|h;exact .inl h;exact Ez.cT.ir dL h;exact Ez.cT.live (hh0 _ h)
  have e1:S2 x1=uk t S0 (iT K0.N v' false (l3 q)):=(ob.fn x1 l11).trans hx1;have l1:live K2.N x1:=by rcases xH with h|h|h;exact .inl h;exact jy.cT.ir cR (ob.mem h);exact jy.cT.live (hh0 _ h)
  have l2:live K2.N x2:=by rcases nh with h|h|h;exact .inl h;exact jy.cT.ir cR h;exact jy.cT.live (hh0 _ h)
  have n2:=jy.cT.n;have sM:ite S2 ⟨v',x1,x2⟩=uk t S0 (l3 q):=by
   funext x
   unfold aq.ite;rw[e1,FK,ec,ec]
   conv=>rhs;rw[<-ak.ie x v']
   simp only;cases x.testBit v'<;>rfl
  obtain⟨m2,sO,V7⟩:=jy.kn;have hkl:∀y∈m2,live K2.N y.2:=λy hy=>by
   rcases(V7 y hy).2 with h|h|h
   ·exact .inl h
   ·exact jy.cT.ir cR h
   exact jy.cT.live (hh0 _ h)
  by_cases hx:x1=x2
  ·subst hx;refine aa.eq (GB x1 v' _) (Ext.two λJ hJ=>(ae.ia (Br.T (Ld.q ?_))));refine az.q ?_;refine aE.LQ (ke:=kq) (k:=q) (vr:=O7) (x:=x1) vO qu AS sO rfl λes' bC he=>⟨_,.tail (.tail (.tail (.tail (.tail (.tail (.tail ((cZ.head _).cq LB))))))),?_⟩;refine JE.mk (hJ _ λgs=>?_);have hr:S2 x1=uk t S0 (l3 q):=by
    rw[<-sM]
    funext x
    unfold aq.ite;split<;>rfl
   have vX:x1<2\/x1∈fR\/K0.hold x1=65535:=nh;exact aN.mk (.skip (.skip .tail)) ⟨K2,S2,fR,es',bC,vm2,CM2,C2,rfl,⟨jy.ks,jy.cT,jy.mde,_,he,λy hy=>(nW hy).elim (λe=>by rw[e];exact⟨hr,vX⟩) (λhy=>V7 y hy)⟩,xZ.LC zO,.inl ⟨x1,rfl,hr,vX⟩⟩
  have y6:bT (uk t S0 (l3 q)) (ord.getD (lv ah v') 0):=by
   rw[Dl];refine xaD λhno=>hx ?_;refine cR.ok.wf.same cR.ok.lv acu l1 l2 λx=>?_;rw[e1,FK,ec,ec];exact(cJ hno x false).trans (cJ hno x true).symm
  have b1':=cR.ok.below cR.od (l:=lv ah v'+1) l1 zO (by rw[e1];exact i1);have b2':=cR.ok.below cR.od (l:=lv ah v'+1) l2 zO (by rw[FK];exact i2);have Sc:∀g,aD K0.n ord (λg=>g=ite S2 ⟨v',x1,x2⟩) g->U g:=by rw[sM];exact hU
  refine aa.fq (args:=#[ptr bw,iv (v':Int),u32 x1,u32 x2]) (Tp cR (v:=v') (by rw[n2];exact hv.lt) l1 l2 hx ⟨by omega,by omega⟩ jy.mde (by have:=jy.cT.ry cR;omega)) ?_;rintro w H (⟨r,K3,S3,C3,vm3,CM3,rfl,rfl,j3,mk,Wn⟩|⟨rfl,rfl,ZH,hT⟩|⟨r,rfl,rfl,hlr,Pq,hfull,F5⟩)
  ·refine Ext.two λJ hJ=>(ae.ia (Br.T (Ld.q ?_)));refine az.q ?_;refine aE.LQ (ke:=kq) (k:=q) (vr:=O7) (x:=r) vO qu AS sO rfl λes' bC he=>⟨_,.tail (.tail (.tail (.tail (.tail (.tail (.tail ((cZ.head _).cq LB))))))),?_⟩;refine JE.mk (hJ _ λgs=>?_);have hr:S3 r=uk t S0 (l3 q):=mk.is.trans sM;have qv:2<=r:=xc6 λh=>by
    obtain⟨x,hx⟩:=y6;apply hx;rw[<-hr];have ZA:=j3.ok.mid.int;have:r=0\/r=1:=by omega
    rcases this with rfl|rfl
    ·rw[ZA.zero,ZA.zero]
    rw[ZA.one,ZA.one]
   have kj:=jy.cT.step cR mk qv Sc;have EA:gu K2 S2 fR K3 S3 (fR++[r]) 1:=⟨mk.N,mk.fn,[r],rfl,xai _⟩;have vX:r<2\/r∈fR++[r]\/K0.hold r=65535:=.inr (.inl zI);refine aN.mk (.skip (.skip .tail)) ⟨K3,S3,fR++[r],es',bC,vm3,CM3,C3,rfl,⟨⟨[],j3,.inl rfl⟩,kj,Wn,_,he,λy hy=>(nW hy).elim (λe=>by rw[e];exact⟨hr,vX⟩) (λhy=>?_)⟩,(xZ.trans EA).LC zO,.inl ⟨r,rfl,hr,vX⟩⟩;obtain⟨k1,k2⟩:=V7 y hy;exact⟨by rw[EA.fn y.2 (hkl y hy),k1],k2.imp id (Or.imp EA.mem id)⟩
  ·refine Ext.two λJ hJ=>(ae.ia (Br.F (JE.mk (hJ _ λgs=>?_))));refine aN.mk (.skip (.skip .tail)) ⟨K2,S2,fR,gP,iB,vm2,CM2,C2,rfl,jy,xZ.LC zO,.inr ⟨rfl,?_⟩⟩;rintro⟨ku,RI,hfit⟩;have:=cR.ok.roomFor cR.od RI (by rw[jy.cT.cap];exact hfit) (by rw[n2];exact jy.cT.U) (d:=⟨v',x1,x2⟩) l1 l2 hx (by rw[n2];exact hv.lt) ⟨by show lv ah v'<dep K2.n (lv ah) K2.N x1;omega,by show lv ah v'<dep K2.n (lv ah) K2.N x2;omega⟩ (Sc _ (by rw[sM];exact oT sN iu y6)) hT;omega
  refine Ext.two λJ hJ=>(ae.ia (Br.T (Ld.q ?_)));refine az.q ?_;refine aE.LQ (ke:=kq) (k:=q) (vr:=O7) (x:=r) vO qu AS sO rfl λes' bC he=>⟨_,.tail (.tail (.tail (.tail (.tail (.tail (.tail ((cZ.head _).cq LB))))))),?_⟩;refine JE.mk (hJ _ λgs=>?_);have hr:S2 r=uk t S0 (l3 q):=F5.trans sM;have vX:r<2\/r∈fR\/K0.hold r=65535:=.inr (jy.cT.full hfull);exact aN.mk (.skip (.skip .tail)) ⟨K2,S2,fR,es',bC,vm2,CM2,C2,rfl,⟨jy.ks,jy.cT,jy.mde,_,he,λy hy=>(nW hy).elim (λe=>by rw[e];exact⟨hr,vX⟩) (λhy=>V7 y hy)⟩,xZ.LC zO,.inl ⟨r,rfl,hr,vX⟩⟩
end
section
variable {kp bw:Nat} {vl vm:zV} {K:Kd} {S:Nat->aq.Fn} {ord ah tr:zL} {C:Hp}
theorem zN{Y:Hp}{vr:zV}{refs:zL}(hK:bP kp K S ord ah tr C)(hr:dI .u32 Y vr (iw refs))(hl:∀r∈refs,live K.N r)(cB:refs.length<=1048576):
  Fc zQ 100 #[ptr kp,vr] (Y++C) (λw H=>∃bw vl CL lvl,w=.tuple #[ptr bw,iv 0]/\H=gv bw kp vl (.slice none 0 0)::(CL++(Y++C))/\aT 3 .i64 vl (iw lvl) CL/\lvl.length=K.n/\∀v,v<K.n->lvl.getD v 0=lv ah v):=by
 have hn:K.n<=64:=hK.bc.lT;have kZ:=hK.od;refine aF λg=>Jz (ae.aI (Br.no (hr.bX ?_)));rw[au];refine⟨λvs H=>∃i:Nat,vs=[iv (i:Int)]/\i<=refs.length/\H=Y++C,λvs _=>refs.length-bN vs 0,JE.mk ⟨0,rfl,xaO _,rfl⟩,?_⟩;rintro w7 H ⟨i,⟨⟩,hi,rfl⟩ gs;refine ae.fy (Br.dec (λhlt=>?_) (λhlt=>?_))
 ·have hlr:=hl _ (xaJ hlt);refine hr.ld (n:=((refs[i]:Nat):Int)) (de (xaa hlt)) (λ_ h=>xae _ h) ?_;refine aa.eq (args:=#[ptr kp,u32 refs[i]]) (iP hK.rep (by have:=hK.bM hlr;omega)) ?_;rw[ca.2 hlr];refine Ext.two λb15 _=>(St.whole (r:=got K.N refs[i]) (by exact .head _) rfl (aP _ _).1 (aP _ _).2 ?_);exact ae.cK (Br.F (ae.inc (aC.of .tail ⟨i+1,rfl,hlt,rfl⟩ (by simp only[bN];omega))))
 refine aa.eq (gM hK.rep) (cS.ints zO zO λbl=>?_);refine Build.mk (cs:=[ptr kp,.slice (some ⟨bl,0,none⟩) K.n K.n,.slice none 0 0]) zK λbw _=>?_;refine aa.fq (yQ hK.rep) ?_;rintro vo H ⟨N,rfl,ho⟩;refine ho.bX ?_;rw[au,kZ.len];have hz:List.replicate K.n (0:Int)=iw (List.replicate K.n 0):=by simp[iw]
 have hm:=aT.made (T:=3) (kd:=.i64) (b:=bl) (iw (List.replicate K.n 0));rw[au,xdY]at hm;rw[hz];generalize hvl:Value.slice (some ⟨bl,0,none⟩) K.n K.n=vl at*;refine⟨λvs H=>∃(i:Nat) (L:zL) (CL:Hp),vs=[iv (i:Int)]/\i<=K.n/\H=gv bw kp vl (.slice none 0 0)::(CL++(Y++(N++C)))/\aT 3 .i64 vl (iw L) CL/\L.length=K.n/\∀j,j<i->L.getD (ord.getD j 0) 0=j,λvs _=>K.n-bN vs 0,
  JE.mk ⟨0,_,_,rfl,xaO _,rfl,hm,by simp,λj hj=>absurd hj (xcF _)⟩,?_⟩
 rintro w34 H ⟨i,L,CL,⟨⟩,hi,rfl,hL,hLl,hLo⟩ gs;refine ae.fy (Br.dec (λhlt=>?_) (λhlt=>?_))
 ·have o9:=(kZ.bc i hlt).1;refine ho.ld (x:=((ord.getD i 0:Nat):Int)) (bH (by rw[kZ.len];exact hlt)) (λ_ h=>.tail _ (xab _ (xab _ (xae _ h)))) (Ld.n ?_);refine hL.nu (x:=(i:Int)) (.cons .left) (by rw[au];omega) λCL' ZU=>?_;rw[eY]at ZU;refine ae.inc (aC.mk ⟨i+1,L.set (ord.getD i 0) i,CL',rfl,hlt,rfl,ZU,by simp[hLl],λj hj=>?_⟩ (by simp only[bN];omega));by_cases e:j=i
  ·subst e;rw[xaq,xbK zO];rfl
  have hj':j<i:=by omega
  have hne:ord.getD i 0≠ord.getD j 0:=λh=>by
   have a:=(kZ.bc i hlt).2;have b:=(kZ.bc j zO).2;rw[h,b]at a;exact e a
  rw[xaq,xbJ hne,<-xaq,hLo j hj']
 obtain rfl:i=K.n:=by omega
 refine aN.mk (.cons (.dc (.dc .right _) _)) ⟨bw,vl,CL,L,rfl,rfl,hL,hLl,λv hv=>?_⟩;have h1:=hLo (lv ah v) (hK.ok.lv.lt v hv);rwa [kZ.of hK.ok.lv hv]at h1
structure Ls(K K':Kd)(made:zL)(x:Nat)(ok:Bool):Prop where
 n:K'.n=K.n
 cap:K'.cap=K.cap
 N:∀s d,K'.N s=some d->K.N s=some d
 hold:∀s,K'.hold s+made.count s=K.hold s+if ok=true/\s=x/\2<=x then 1 else 0
theorem WZ{X CM:Hp}{made:zL}{x:Nat}{ok fu:Bool}(hK:bP kp K S ord ah tr C)(hM:aT 78 .u32 vm (iw made) CM)(hc:∀s,made.count s<=K.hold s)(h2:∀s∈made,2<=s)(Po:∀s∈made,s<4294967296)(hx:ok=true->((x<2\/x∈made)↔fu=false))(cB:made.length<=1099511627776):
  Fc zQ 154 #[ptr bw,u32 x,iv (if ok then 0 else 9)] (gv bw kp vl vm::(X++(CM++C))) (λw H=>∃K' C' cu,w=.tuple #[u32 (if ok&& !fu then x else 0),iv (if ok then(if fu then 8 else 0)else 9)]/\H=gv bw kp vl (.slice none 0 0)::(X++(CM++C'))/\bP kp K' S ord ah cu C'/\(cu=[]\/(cu=tr/\((ok&& !fu)=true->made≠[])))/\Ls K K' made x (ok&& !fu)):=by
 refine aF λg=>IT (ae.eL (b:=0) (c6.or (decide (x=1)) (λ_=>ae.eL (b:=1) ⟨rfl,rfl⟩) zI λgs=>?_));rw[<-xa6];refine Ld.n (hM.bX ?_);rw[au];refine⟨λvs H=>∃(i:Nat) (Ki:Kd) (Ci:Hp) (Xh:zL) (kept:Bool),vs=[.bool kept,iv (i:Int)]/\i<=made.length/\H=gv bw kp vl vm::(X++(CM++Ci))/\bP kp Ki S ord ah Xh Ci/\(Xh=[]\/Xh=tr)/\Ki.n=K.n/\Ki.cap=K.cap/\(∀s d,Ki.N s=some d->K.N s=some d)/\
   (∀s,Ki.hold s+(made.take i).count s=K.hold s+if kept=true/\s=x/\2<=x then 1 else 0)/\(x<2->kept=true)/\(kept=true->x<2\/(ok=true/\x∈made.take i))/\(ok=true->x∈made.take i->kept=true),λvs _=>made.length-bN vs 1,
  JE.mk ⟨0,K,C,tr,_,rfl,xaO _,rfl,hK,.inr rfl,rfl,rfl,λ_ _ h=>h,λs=>?_,λh=>xam zO,λh=>.inl (by have:=xb8 h;omega),λ_ h=>by simp at h⟩,?_⟩
 ·rw[xei,xdP,xac (λh=>by have:=xb8 h.1;omega)]
 rintro w13 w14 H ⟨i,Ki,Ci,Xh,kept,⟨⟩,hi,rfl,hKi,VQ,hn,hcap,hN,hh,uj,rH,pN⟩ gs;refine ae.fy (Br.dec (λhlt=>?_) (λhlt=>?_))
 ·intro J hJ;have ny:made.take (i+1)=made.take i++[made[i]]:=xa7 hlt;have hfm:made[i]∈made:=xaJ hlt;have mc:(made.take i).count made[i]+1<=made.count made[i]:=by
   have h1:=(xdS (i+1) made).count_le made[i];rw[ny,xbe,List.count_singleton_self]at h1;exact h1
  refine hM.ld (x:=((made[i]:Nat):Int)) (de (xaa hlt)) (λ_ h=>.tail _ (xab _ (xae _ h))) ?_;generalize hf:made[i]=f at*;refine ae.eL (c6.and (!kept) (λ_=>Un.not ⟨rfl,rfl⟩) zI λgs=>?_);refine c6.and ok (λ_=>ae.ia ⟨rfl,by cases ok<;>rfl⟩) zI λgs=>?_;refine Br.mk (λhb=>?_) (λhb=>?_)
  ·simp only[xaI,xaK,xbG]at hb;obtain⟨⟨rfl,hkf⟩,hok⟩:=hb;refine JE.mk (hJ _ _ λgs=>?_);refine ae.inc (aC.mk ⟨i+1,Ki,Ci,Xh,true,rfl,hlt,rfl,hKi,VQ,hn,hcap,hN,λs=>?_,λ_=>rfl,λ_=>.inr ⟨hok,by rw[ny];simp⟩,λ_ _=>rfl⟩ (by simp only[bN];omega));have h0:=hh s;rw[ny,xbe,xcK];rw[xac (λh=>by rw[hkf]at h;cases h.1)]at h0;by_cases e:s=f
   ·subst e;have:=h2 s hfm;simp[this];omega
   have:(f==s)=false:=by simpa using λe'=>e e'.symm
   simp[e,this];omega
  refine Ld.n ?_;have hhf:Ki.hold f≠0:=by
   have h0:=hh f;have:=hc f;split at h0<;>omega
  refine aa.fq (args:=#[ptr kp,u32 f]) (mY hKi (r:=f) (Po f hfm) (λ_=>hhf)) ?_;rintro w C2 ⟨rfl,K2,cR,f2⟩;refine JE.mk (hJ _ _ λgs=>?_);refine ae.inc (aC.mk ⟨i+1,K2,C2,[],kept,rfl,hlt,rfl,cR,.inl rfl,f2.n.trans hn,f2.cap.trans hcap,λs d hd=>hN s d (f2.N s d hd),λs=>?_,uj,λh=>(rH h).imp id (λh=>⟨h.1,by rw[ny];exact xae _ h.2⟩),λh1 h3=>?_⟩ (by simp only[bN];omega))
  ·have h0:=hh s;rw[f2.hold,ny,xbe,xcK];by_cases e:s=f
   ·subst e;have:=h2 s hfm;simp[this];omega
   have:(f==s)=false:=by simpa using λe'=>e e'.symm
   simp[e,this];omega
  rw[ny,xao,xaE]at h3;rcases h3 with h3|h3
  ·exact pN h1 h3
  subst h3;cases hkk:kept
  ·rw[hkk,h1]at hb;simp at hb
  rfl
 obtain rfl:i=made.length:=by omega
 rw[xa9]at hh rH pN;refine Nil.ptr (ai.mk (St.one (by exact .head _) rfl zI rfl ?_));intro J hJ;refine ae.cK ?_;cases ok with
 |false=>
  refine Br.T ?_;have hE:Ls K Ki made x false:=⟨hn,hcap,hN,λs=>by
   have h0:=hh s;rw[xac (λh=>by cases h.1)];rw[xac (λh=>by
    rcases rH h.1 with h3|h3
    ·omega
    cases h3.1)]at h0
   exact h0⟩
  refine aN.here ⟨Ki,Ci,Xh,?_,rfl,hKi,VQ.imp id λh=>⟨h,λh=>by cases h⟩,hE⟩;rfl
 |true=>
  have hx:=hx rfl;cases fu with
  |true=>
   have hkf:kept=false:=by
    cases hkk:kept
    ·rfl
    have:(true=false):=hx.1 ((rH hkk).imp id λh=>h.2);cases this
   refine Br.F ?_;rw[hkf];refine Un.not (Br.yes (aN.here ⟨Ki,Ci,Xh,rfl,rfl,hKi,VQ.imp id λh=>⟨h,λh=>by cases h⟩,⟨hn,hcap,hN,λs=>?_⟩⟩));have h0:=hh s;rw[hkf]at h0;rw[xac (λh=>by cases h.1)]at h0⊢;exact h0
  |false=>
  have hx:=hx.2 rfl;have Ds:kept=true:=by
   rcases hx with h|h
   ·exact uj h
   exact pN rfl h
  refine Br.F ?_;rw[Ds];refine Un.not (Br.no ?_);have hE:∀K3:Kd,K3.n=Ki.n->K3.cap=Ki.cap->K3.N=Ki.N->(∀s,K3.hold s=Ki.hold s)->Ls K K3 made x true:=λK3 a1 a2 a3 a4=>⟨a1.trans hn,a2.trans hcap,by rw[a3];exact hN,λs=>by rw[a4,hh s,Ds]⟩;refine ae.eL (b:=0) (c6.or (decide (x=1)) (λ_=>ae.eL (b:=1) ⟨rfl,rfl⟩) zI λgs=>?_);rw[<-xa6];refine Br.dec (λM1=>?_) (λM1=>?_)
  ·refine Ld.n ?_;refine aa.fq (mP hKi (r:=x) (.inl zO) (λh=>by omega)) ?_;rintro w C3 ⟨rfl,K3,j3,mo⟩;refine JE.mk (hJ _ λgs=>aN.here ⟨K3,C3,[],by simp,rfl,j3,.inl rfl,hE K3 mo.n mo.cap mo.N λs=>?_⟩);rw[mo.hold,xac zO]
  refine JE.mk (hJ _ λgs=>aN.here ⟨Ki,Ci,Xh,by simp,rfl,hKi,VQ.imp id λh=>⟨h,λ_ hm=>?_⟩,hE Ki rfl rfl rfl λ_=>rfl⟩);rcases hx with h|h
  ·omega
  rw[hm]at h;cases h
end
theorem abq{α:Type}(a b c d e f g h:α)(L R:List α):(a::b::c::d::e::f::g::h::(L++R)).Perm (g::d::e::b::h::f::a::(L++c::R)):=by
 classical
 rw[xcu];intro x;simp only[xbe,xb2];omega
def aaq(kp:Nat)(K:Kd)(S:Nat->aq.Fn)(ord ah tr:zL)(f:aq.Fn)(w:zV)(H:Hp):Prop:=
 (∃x K' S',w=.tuple #[u32 x,iv 0]/\bP kp K' S' ord ah [] H/\fW K S K' S' f x)\/
 (w=.tuple #[u32 0,iv 9]/\(∃K' S' cu,bP kp K' S' ord ah cu H/\(cu=[]\/cu=tr)/\Kept K S K' S')/\¬Fits (aD K.n ord (λg=>K.held S g\/g=f)) K.cap)
def j9(kp:Nat)(K:Kd)(S:Nat->aq.Fn)(ord ah tr:zL)(f:aq.Fn)(w:zV)(H:Hp):Prop:=
 aaq kp K S ord ah tr f w H\/(w=.tuple #[u32 0,iv 8]/\(∃K' S' cu,bP kp K' S' ord ah cu H/\(cu=[]\/cu=tr)/\Kept K S K' S')/\∃r,2<=r/\K.hold r=65535/\S r=f)
section
variable {kp bw:Nat} {vl fv:zV} {K:Kd} {S:Nat->aq.Fn} {ord ah tr lvl:zL} {LB CL C:Hp} {t:Bool->Bool->Bool->Bool}
theorem Le(hK:bP kp K S ord ah tr C)(A7:Bu fv LB t)(XY:aT 3 .i64 vl (iw lvl) CL)(ni:lvl.length=K.n)(hlv:∀v,v<K.n->lvl.getD v 0=lv ah v)(q:Q3)(hq:∀r∈l3 q,live K.N r){c:Nat}(hT:Tree K.n (lv ah) K.N (l3 q) c):
  Fc zQ 101 #[ptr bw,kq q,fv] (LB++(gv bw kp vl (.slice none 0 0)::(CL++C))) (j9 kp K S ord ah tr (uk t S (l3 q))):=by
 have hrb:aW zQ 155=true:=by kernel_rfl
 obtain⟨fl,ahf,al7,RP,hfr⟩:=A7.is;refine aF λg=>Jy λb1 _ b3 _ b5 _ b7 _ b9 _ bm _ jc _=>?_;refine St.one (by exact .head _) rfl zI rfl ?_;intro r5 _;refine St.one (by exact .head _) rfl zI rfl ?_;refine Ld.q ?_;refine az.q ?_;refine aJ.of rfl hrb (aa.pre (H':=(b9,.cells #[iv 0] 27 zZ)::(b7,.cells #[.int .u32 0] 78 zZ)::X0 jc b1 b5 r5 bm bw kp fv vl (.slice none 0 0) LB CL [] C #[] 0) ?_ ?_)
 ·rw[RP];exact(aM.perm (abq _ _ _ _ _ _ _ _ _ _)).trans .tail
 have kZ:=hK.od;have lj:=hK.ok.wf;have jM:=hK.ok.lv;have pG:=hK.ok.mid.int;have hS:Stp kp K S (aD K.n ord (λg=>K.held S g\/g=uk t S (l3 q))) ord ah tr t K S [] #[] 0 (.slice none 0 0) [] C:=
  ⟨⟨tr,hK,.inr ⟨rfl,rfl⟩⟩,.refl λg hg=>aV (λg h=>.inl h) hg,aT.nil,[],aE.empty,λy hy=>by cases hy⟩
 refine aa.fq (args:=#[kq q,ptr jc,ptr b1,ptr b5,ptr r5]) (ZY hrb A7 XY ni hlv hK.bc.lT lj pG jM (λr hr=>by have:=hK.bM hr;omega) (λs hs=>.inr (hK.ok.mid.held s zO)) (Yp:=tr) (l3 q) c hT q rfl K S [] #[] 0 (.slice none 0 0) [] C hS hq (λg hg=>aV (λg h=>.inr h) hg)) ?_;rintro w H ⟨K1,S1,made,es,ck,vm,CM,C1,rfl,Ez,hA,R8⟩;obtain⟨Xi,dL,VR⟩:=Ez.ks;have kj:=Ez.cT;have hmx:=kj.ry dL;have afY:∀s∈made,s<4294967296:=λs hs=>by have:=dL.bM (kj.ir dL hs);omega
 have hmc:∀s,made.count s<=K1.hold s:=λs=>by rw[kj.hold];omega
 have fin:∀(x:Nat) (ok fu:Bool),w=.tuple #[u32 (if ok then x else 0),iv (if ok then 0 else 9)]->(ok=true->((x<2\/x∈made)↔fu=false))->(∀K2 C2 Er,bP kp K2 S1 ord ah Er C2->(Er=[]\/(Er=Xi/\((ok&& !fu)=true->made≠[])))->Ls K1 K2 made (if ok then x else 0) (ok&& !fu)->j9 kp K S ord ah tr (uk t S (l3 q)) (.tuple #[u32 (if ok&& !fu then(if ok then x else 0)else 0),iv (if ok then(if fu then 8 else 0)else 9)]) C2)->(ok=false->x=0)->
   Ext 0 w λv23=>Ext 1 w λv24=>St 1 ((b9,.cells #[iv 0] 27 zZ)::(b7,.cells #[.int .u32 0] 78 zZ)::X0 jc b1 b5 r5 bm bw kp fv vl vm LB CL CM C1 es ck) (ptr b7) v23 λH25=>St 1 H25 (ptr b9) v24 λH26=>
   kf zQ g 153 #[ptr b1,ptr b7,ptr b9] H26 λH27=>Ld H27 (ptr b7) λv28=>Ld H27 (ptr b9) λv29=>aN (j9 kp K S ord ah tr (uk t S (l3 q))) (.returned (.tuple #[v28,v29])) H27:=by
  intro x ok fu hw hx hd h0;subst hw;refine Ext.two (St.one (by exact .tail (.head _)) rfl zI rfl ?_);refine St.one (by exact .head _) rfl zI rfl ?_;refine Ej (R:=_) ?_;unfold L153;refine Ld.q ?_;refine Ld.q ?_;refine Ld.q ?_;refine aa.fq (WZ (X:=CL) (x:=if ok then x else 0) (ok:=ok) (fu:=fu) dL Ez.mde hmc kj.two afY (λh=>by rw[xad h];exact hx h) zO) ?_;rintro w H ⟨K2,C2,Er,rfl,rfl,cR,ue,hE⟩;refine Ext.two (St.one (by exact .tail (.head _)) rfl zI rfl ?_);refine St.one (by exact .head _) rfl zI rfl ?_;refine⟨⟨_,rfl⟩,?_⟩;refine Ld.q ?_;refine Ld.q ?_;exact aN.mk (.skip (.skip (.skip (.skip (.skip (.skip (aM.right.trans (.skip (.skip (aM.right.trans .right)))))))))) (hd K2 C2 Er cR ue hE)
 have qL:∀s,K.hold s≠0->live K.N s:=λs hs=>.inr (hK.ok.mid.held s hs);rcases R8 with⟨x,rfl,hx,hxm⟩|⟨rfl,hno⟩
 ·by_cases hxk:x<2\/x∈made;rotate_left
  ·have FK:2<=x:=by omega
   have hfull:K.hold x=65535:=by
    rcases hxm with h|h|h
    ·exact absurd (.inl h) hxk
    ·exact absurd (.inr h) hxk
    exact h
   refine fin x true true rfl (λ_=>⟨λh=>absurd h hxk,λh=>by cases h⟩) (λK2 C2 Er cR ue hE=>.inr ⟨rfl,⟨K2,S1,Er,cR,?_,?_⟩,x,FK,hfull,?_⟩) (λh=>by cases h)
   ·rcases ue with h|⟨h,_⟩
    ·exact .inl h
    rcases VR with h2|⟨h2,_⟩
    ·exact .inl (h.trans h2)
    exact .inr (h.trans h2)
   ·have fS:∀s,K2.hold s=K.hold s:=λs=>by
     have a:=hE.hold s;have b:=kj.hold s;rw[xac (λh=>by cases h.1)]at a;omega
    refine⟨hE.n.trans kj.n,hE.cap.trans kj.cap,fS,λg=>?_,λr hr=>kj.fn r (qL r hr)⟩;constructor
    ·rintro⟨s,hs,rfl⟩;have hs':K.hold s≠0:=by rw[<-fS];exact hs
     exact⟨s,hs',kj.fn s (qL s hs')⟩
    rintro⟨s,hs,rfl⟩;exact⟨s,by show K2.hold s≠0;rw[fS];exact hs,(kj.fn s (qL s hs)).symm⟩
   rw[<-hx];exact(kj.fn x (qL x zO)).symm
  refine fin x true false rfl (λ_=>⟨λ_=>rfl,λ_=>hxk⟩) (λK2 C2 Er cR ue hE=>.inl (.inl ⟨x,K2,S1,rfl,?_,?_⟩)) (λh=>by cases h)
  ·have:Er=[]:=by
    rcases ue with h|⟨h,h'⟩
    ·exact h
    rcases VR with h2|⟨_,h2⟩
    ·rw[h,h2]
    exact absurd h2 (h' rfl)
   rw[this]at cR;exact cR
  have fS:∀s,K2.hold s=K.hold s+if s=x/\2<=x then 1 else 0:=λs=>by
   have a:=hE.hold s;have b:=kj.hold s;simp only[xcp,xdV,xa5,xcj]at a;omega
  have hl:live K2.N x:=by
   by_cases h2:x<2
   ·exact .inl h2
   refine .inr (cR.ok.mid.held x ?_);rw[fS,xad ⟨rfl,by omega⟩];omega
  exact⟨hE.n.trans kj.n,hE.cap.trans kj.cap,λs d hs=>jY hK.ok cR.ok (λs h=>by rw[fS];omega) (λs d d' h h'=>by
   have a:=hE.N s d' h';rw[kj.N s d h]at a;exact(xbh a).symm) _ s d hs (xai _),λs hs=>kj.fn s hs,hl,hx,fS⟩
 refine fin 0 false false rfl (λh=>by cases h) (λK2 C2 Er cR ue hE=>.inl (.inr ⟨rfl,⟨K2,S1,Er,cR,?_,?_⟩,hno⟩)) (λ_=>rfl)
 ·rcases ue with h|⟨h,_⟩
  ·exact .inl h
  rcases VR with h2|⟨h2,_⟩
  ·exact .inl (h.trans h2)
  exact .inr (h.trans h2)
 have fS:∀s,K2.hold s=K.hold s:=λs=>by
  have a:=hE.hold s;have b:=kj.hold s;rw[xac (λh=>by cases h.1)]at a;omega
 refine⟨hE.n.trans kj.n,hE.cap.trans kj.cap,fS,λg=>?_,λr hr=>kj.fn r (qL r hr)⟩;constructor
 ·rintro⟨s,hs,rfl⟩;have hs':K.hold s≠0:=by rw[<-fS];exact hs
  exact⟨s,hs',kj.fn s (qL s hs')⟩
 rintro⟨s,hs,rfl⟩;exact⟨s,by show K2.hold s≠0;rw[fS];exact hs,(kj.fn s (qL s hs)).symm⟩
end
end
end Go.Proofs
namespace Go.Sx
open Go
section
variable {P:Program} {g:Gh}
theorem Build.three{t e:TypeId}{q:IntKind}{x y z:Int}{K:zV->Prop}(ht:P.underlying t=some (.array 3 e))(hz:dz P e=some 1)(h0:fH P t=some (.agg (aA q [0,0,0])))(h:K (.agg (aA q [x,y,z]))):
  Build P t [(0,.int q x),(1,.int q y),(2,.int q z)] K:=by
 refine⟨_,λw=>?_,h⟩;obtain⟨i,hi,hs⟩:=bE hz;obtain⟨i0,FV,XB⟩:=cF h0;simp only[Instr.build,Sem.run_bind,dP FV XB,Result.andThen_ok,run_underlying ht,run_sizeOf hi,hs];simp[Instr.fill,Value.cells,aA]
theorem Build.abf{t e:TypeId}{q:IntKind}{x y:Int}{K:zV->Prop}(ht:P.underlying t=some (.array 3 e))(hz:dz P e=some 1)(h0:fH P t=some (.agg (aA q [0,0,0])))(h:K (.agg (aA q [x,y,0]))):
  Build P t [(0,.int q x),(1,.int q y)] K:=by
 refine⟨_,λw=>?_,h⟩;obtain⟨i,hi,hs⟩:=bE hz;obtain⟨i0,FV,XB⟩:=cF h0;simp only[Instr.build,Sem.run_bind,dP FV XB,Result.andThen_ok,run_underlying ht,run_sizeOf hi,hs];simp[Instr.fill,Value.cells,aA]
end
end Go.Sx
set_option maxRecDepth 100000
namespace Go.Proofs
open Go Go.Sx Tryz
open aq
theorem Lh(x:Bool)(B:Hp):Rd zQ 151 #[.bool x] B (· =.int .u8 ((x.toNat:Nat):Int)):=by
 refine aF λg=>IV ?_;cases x
 ·exact Br.no (bg.mk (.refl _) rfl)
 exact Br.yes (bg.mk (.refl _) rfl)
def Xp(op:Nat)(a b:Bool):Bool:=op.testBit (2*a.toNat+b.toNat)
abbrev My(b op:Nat):Hp:=[(b,.cells #[.int .u8 (op:Int)] 5 zZ)]
theorem Gs{b op:Nat}(hop:op<16):Bu (.func (.func 150) #[] #[ptr b]) (My b op) (λx y _=>Xp op x y):=by
 refine⟨_,_,_,rfl,by kernel_rfl,λx y z=>?_⟩;refine aF λg=>IW (DR.of (R:=My b op) (.refl _) (Ld.q ?_));refine aa.eq (Lh x _) (⟨.refl _,?_⟩);have hx:x.toNat<=1:=by cases x<;>decide
 have hy:y.toNat<=1:=by cases y<;>decide
 refine ae.xQ (a:=2) (aa.eq (Lh y _) (⟨.refl _,?_⟩));refine ae.fE (ae.iI (by simp[bF];omega) (ae.jD (b:=1) (by simp[bF];exact xaz (xbm _ _) zO) (by simp[bF]) (ae.eL (b:=1) (bg.mk (.refl _) ?_))));congr 1;unfold Xp;rw[xbR];rw[xc9,xa0]
theorem FE:Bu (.func (.func 102) #[] #[]) [] (λx y z=>if x then y else z):=by
 refine⟨_,_,_,rfl,by kernel_rfl,λx y z=>?_⟩;refine aF λg=>Jx ?_;cases x
 ·refine c6.mk false (λh=>by simp at h) (λ_=>rfl) λgs=>?_;refine c6.mk (by exact z) (λ_=>Un.not (c6.and z (λ_=>⟨rfl,rfl⟩) zI λgs=>⟨rfl,by simp⟩)) (λh=>by simp at h) λgs=>?_;exact bg.mk (.refl _) rfl
 refine c6.and y (λ_=>⟨rfl,rfl⟩) zI λgs=>?_;refine c6.or false (λ_=>Un.not (c6.and z (λ_=>⟨rfl,rfl⟩) zI λgs=>⟨rfl,by simp⟩)) zI λgs=>?_;refine bg.mk (.refl _) ?_;cases y<;>rfl
section
variable {kp:Nat} {K:Kd} {S:Nat->aq.Fn} {ord ah tr:zL} {C:Hp}
theorem abt{α:Type}(w a b:α)(L R:List α):(w::(L++(a::b::R))).Perm (a::([b]++w::(L++R))):=by
 classical
 rw[xcu];intro x;simp only[xbe,xb2,xdP];omega
theorem D4(hK:bP kp K S ord ah tr C){q:zL}(hq:∀r∈q,live K.N r):∃c,Tree K.n (lv ah) K.N q c:=by
 obtain⟨c,h1,_⟩:=Uy (S:=S) hK.ok.wf hK.ok.lv hK.ok.mid.int K.n 0 q zO zO hq (λr _=>xaO _);exact⟨c,h1⟩
theorem j9.two{f:aq.Fn}{w:zV}{H:Hp}(h:j9 kp K S ord ah tr f w H):∃x e,w=.tuple #[x,e]:=by
 rcases h with(⟨x,K',S',rfl,_⟩|⟨rfl,_⟩)|⟨rfl,_⟩
 ·exact⟨_,_,rfl⟩
 ·exact⟨_,_,rfl⟩
 exact⟨_,_,rfl⟩
theorem jE(hK:bP kp K S ord ah tr C){op a b:Nat}(hop:op<16)(ha:live K.N a)(hb:live K.N b):
  Fc zQ 99 #[ptr kp,.int .u8 (op:Int),u32 a,u32 b] C (j9 kp K S ord ah tr (λx=>Xp op (S a x) (S b x))):=by
 refine aF λg=>NX λb1 _=>?_;refine ae.aI (Br.no (Ld.q ?_));refine ae.nB (b:=15) (Br.F (ax.Rf (e:=78) (x:=(a:Int)) (y:=(b:Int)) zK zK zK λbs=>?_));have hq:∀r∈l3 (a,b,0),live K.N r:=λr hr=>by
  simp only[l3,xaj,xaR,xbl]at hr;rcases hr with rfl|rfl|rfl
  ·exact ha
  ·exact hb
  exact .inl zO
 have hI:dI .u32 ((bs,Obj.cells (aA .u32 [(a:Int),(b:Int)]) 78 zZ)::My b1 op) (.slice (some ⟨bs,0,none⟩) 2 2) (iw [a,b]):=(aT.made (T:=78) (kd:=.u32) (b:=bs) (iw [a,b])).ints.mono λ_ h=>xae (My b1 op) h;refine aa.fq (args:=#[ptr kp,.slice (some ⟨bs,0,none⟩) 2 2]) (C:=((bs,Obj.cells (aA .u32 [(a:Int),(b:Int)]) 78 zZ)::My b1 op)++C) (zN hK hI (λr hr=>?_) (by show 2<=1048576;omega)) ?_
 ·simp only[xaj,xaR,xbl]at hr;rcases hr with rfl|rfl
  ·exact ha
  exact hb
 rintro w H ⟨bw,vl,CL,lvl,rfl,rfl,XY,ni,hlv⟩;refine Ext.mk rfl (Ext.mk rfl (ae.cK (Br.F (Build.abf (e:=78) (q:=.u32) (x:=(a:Int)) (y:=(b:Int)) zK zK zK ?_))));obtain⟨c,hT⟩:=D4 hK hq;refine aa.pre (H':=(bs,Obj.cells (aA .u32 [(a:Int),(b:Int)]) 78 zZ)::(My b1 op++gv bw kp vl (.slice none 0 0)::(CL++C))) (.perm (abt _ _ _ _ _)) (aa.fq (args:=#[ptr bw,kq (a,b,0),.func (.func 150) #[] #[ptr b1]]) (Le (t:=λx y _=>Xp op x y) hK (Gs hop) XY ni hlv (a,b,0) hq hT) ?_);intro w H hD;obtain⟨x,e,rfl⟩:=hD.two;exact Ext.mk rfl (Ext.mk rfl (aN.mk .tail hD))
theorem NO(hK:bP kp K S ord ah tr C){a:Nat}(ha:live K.N a):
  Fc zQ 65 #[ptr kp,u32 a] C (j9 kp K S ord ah tr (λx=> !S a x)):=by
 refine aF λg=>Ow (aa.fq (args:=#[ptr kp,.int .u8 ((3:Nat):Int),u32 a,u32 0]) (jE hK (op:=3) zD ha (.inl zO)) ?_);intro w H hD;have e:(λx=>Xp 3 (S a x) (S 0 x))=λx=> !S a x:=by
  funext x
  rw[hK.ok.mid.int.zero];cases S a x<;>rfl
 rw[e]at hD;obtain⟨x,e,rfl⟩:=hD.two;exact Ext.mk rfl (Ext.mk rfl (aN.mk (.refl _) hD))
theorem abp{α:Type}(w a:α)(L R:List α):(w::(L++(a::R))).Perm (a::([]++w::(L++R))):=by
 classical
 rw[xcu];intro x;simp only[xbe,xb2,xdP];omega
theorem zG(hK:bP kp K S ord ah tr C){a b c:Nat}(ha:live K.N a)(hb:live K.N b)(hc:live K.N c):
  Fc zQ 69 #[ptr kp,u32 a,u32 b,u32 c] C (j9 kp K S ord ah tr (λx=>if S a x then S b x else S c x)):=by
 refine aF λg=>Oq (ax.abJ (e:=78) (x:=(a:Int)) (y:=(b:Int)) (z:=(c:Int)) zK zK zK λbs=>?_);have hq:∀r∈l3 (a,b,c),live K.N r:=λr hr=>by
  simp only[l3,xaj,xaR,xbl]at hr;rcases hr with rfl|rfl|rfl
  ·exact ha
  ·exact hb
  exact hc
 refine aa.fq (args:=#[ptr kp,.slice (some ⟨bs,0,none⟩) 3 3]) (C:=[(bs,Obj.cells (aA .u32 [(a:Int),(b:Int),(c:Int)]) 78 zZ)]++C) (zN hK (refs:=l3 (a,b,c)) ((aT.made (T:=78) (kd:=.u32) (b:=bs) (iw (l3 (a,b,c)))).ints) hq (by show 3<=1048576;omega)) ?_;rintro w H ⟨bw,vl,CL,lvl,rfl,rfl,XY,ni,hlv⟩;refine Ext.mk rfl (Ext.mk rfl (ae.cK (Br.F (Build.three (e:=78) (q:=.u32) (x:=(a:Int)) (y:=(b:Int)) (z:=(c:Int)) zK zK zK ?_))));obtain⟨k,hT⟩:=D4 hK hq;refine aa.pre (H':=(bs,Obj.cells (aA .u32 [(a:Int),(b:Int),(c:Int)]) 78 zZ)::([]++gv bw kp vl (.slice none 0 0)::(CL++C))) (.perm (abp _ _ _ _)) (aa.fq (args:=#[ptr bw,kq (a,b,c),.func (.func 102) #[] #[]]) (Le (t:=λx y z=>if x then y else z) hK FE XY ni hlv (a,b,c) hq hT) ?_);intro w H hD;obtain⟨x,e,rfl⟩:=hD.two;exact Ext.mk rfl (Ext.mk rfl (aN.mk .tail hD))
theorem pV.grow(hK:bP kp K S ord ah tr C){K':Kd}{S':Nat->aq.Fn}{f:aq.Fn}{r:Nat}{C':Hp}{cu:zL}(h:pV K S K' S' f r)(cX:bP kp K' S' ord ah cu C')(hl:r<2\/2<=r):fW K S K' S' f r:=
 ⟨h.n,h.cap,h.N,h.fn,by
  by_cases h2:r<2
  ·exact .inl h2
  refine .inr (cX.ok.mid.held r ?_);rw[h.hold,xad ⟨rfl,by omega⟩];omega,h.is,λs=>by rw[h.hold];split<;>omega⟩
theorem NK(hK:bP kp K S ord ah tr C){v:Nat}(hv:v<K.n):
  Fc zQ 63 #[ptr kp,iv (v:Int)] C (j9 kp K S ord ah tr (λx=>x.testBit v)):=by
 refine aF λg=>Oy (ae.aI (Br.no ?_));have hint:=hK.ok.mid.int;have hL:=hK.ok.lv;have kZ:=hK.od;have h0:live K.N 0:=.inl zO;have h1:live K.N 1:=.inl zO;have d0:dep K.n (lv ah) K.N 0=K.n:=aS (hK.ok.wf.const zO);have d1:dep K.n (lv ah) K.N 1=K.n:=aS (hK.ok.wf.const zO);have hl:=hL.lt v hv;have eI:ite S ⟨v,0,1⟩=λx=>x.testBit v:=by
  funext x
  unfold aq.ite;simp only[hint.zero,hint.one];cases x.testBit v<;>rfl
 refine aa.fq (args:=#[ptr kp,iv (v:Int),u32 0,u32 1]) (AP hK hv h0 h1 (.inr ⟨by rw[d0];exact hl,by rw[d1];exact hl⟩)) ?_;rintro w C' (⟨r,K',S',rfl,cX,mk⟩|⟨r,rfl,rfl,_,Pq,hfull,F5⟩|⟨rfl,rfl,hcap,hne,hT⟩)
 ·rw[eI]at mk;exact Ext.mk rfl (Ext.mk rfl (aN.mk (.refl _) (.inl (.inl ⟨r,K',S',rfl,cX,mk.grow hK cX zO⟩))))
 ·exact Ext.mk rfl (Ext.mk rfl (aN.mk (.refl _) (.inr ⟨rfl,⟨K,S,tr,hK,.inr rfl,.refl K S⟩,r,Pq,hfull,by rw[F5,eI]⟩)))
 refine Ext.mk rfl (Ext.mk rfl (aN.mk (.refl _) (.inl (.inr ⟨rfl,⟨K,S,tr,hK,.inr rfl,.refl K S⟩,?_⟩))));rintro⟨ku,RI,hfit⟩;have Dl:=kZ.of hL hv;have sN:∀j,j<lv ah v->¬bT (λx:Nat=>x.testBit v) (ord.getD j 0):=by
  rintro j hj ⟨x,hx⟩;apply hx;have T2:j<K.n:=by omega
  obtain⟨o1,o2⟩:=kZ.bc j T2;show Nat.testBit _ v=Nat.testBit _ v;rw[ak.aj,ak.aj,xac (λh=>by rw[h]at hj;omega),xac (λh=>by rw[h]at hj;omega)]
 have hh:bT (λx:Nat=>x.testBit v) (ord.getD (lv ah v) 0):=by
  rw[Dl];exact⟨0,by show Nat.testBit _ v≠Nat.testBit _ v;rw[ak.aj,ak.aj,xad rfl,xad rfl];decide⟩
 have:=hK.ok.roomFor kZ RI hfit (λg hg=>aV (λg h=>.inl h) hg) (d:=⟨v,0,1⟩) h0 h1 (show(0:Nat)≠1 by omega) hv ⟨by rw[d0];exact hl,by rw[d1];exact hl⟩ (aV (λg h=>.inr h) (by rw[eI];exact oT sN hl hh)) hT;omega
end
end Go.Proofs
namespace Go.Sx
open Go
section
variable {κ β:Type} [DecidableEq κ] {ke:κ->zV} {vr:zV->β->Prop} {es:Array MapEntry} {ck:Nat} {m:List (κ×β)} {H:Hp} {b:Nat}
theorem aE.del{kd:TypeDesc}{k:κ}{K:Hp->Prop}(hk:∀a b,Instr.sameNow kd (ke a) (ke b)=some (decide (a=b)))(h:aE ke vr es ck m)(hm:(b,Obj.map es ck)∈H)
 (h1:∀es',aE ke vr es' ck (iO m k)->∃H',cZ b (.map es ck) (.map es' ck) H H'/\K H'):oH kd H (.map (some b)) (ke k) K:=by
 refine .inr ?_;rcases h.findNow hk k with⟨i,y,e,g1,g2,g3,g4⟩|⟨g1,g2⟩
 ·refine⟨b,es,ck,_,rfl,g4,?_⟩;have:=h.less i;rw[<-vK h.nd g2]at this;exact h1 _ this
 refine⟨b,es,ck,_,rfl,g2,hm,?_⟩;have e:iO m k=m:=by
  unfold iO;rw[xct];intro w hw;simp only[decide_not,xbG,xbp];intro e;exact g1 (xan.2 ⟨w,hw,e⟩)
 obtain⟨H',hu,hK⟩:=h1 es (by rw[e];exact h);have:∀{H H':Hp},cZ b (.map es ck) (.map es ck) H H'->H'=H:=by
  intro H H' hu;generalize ho:Obj.map es ck=o at hu;induction hu with
  |head R=>rfl
  |tail _ ih=>rw[ih]
 rw[this hu]at hK;exact hK
end
def kN(kd:IntKind)(r:Nat):zV:=.int kd (r:Int)
theorem ju{kd:IntKind}(a b:Nat):Instr.sameNow (.int kd) (kN kd a) (kN kd b)=some (decide (a=b)):=by
 simp only[kN,Instr.sameNow,xa5,xar];by_cases e:a=b
 ·subst e;simp
 have:¬(a:Int)=(b:Int):=by omega
 simp[e,this]
theorem Kx{kd:IntKind}(a:Nat):Instr.sameBits 10000 (kN kd a) (kN kd a)=true:=by
 simp[kN,Instr.sameBits]
end Go.Sx
namespace aq
open ak
def QF(t:Bool->Bool->Bool)(v:Nat)(f:Fn):Fn:=λx=>t (f (aB x v false)) (f (aB x v true))
section
variable {t:Bool->Bool->Bool} {v u:Nat} {f:Fn}
theorem oS{x v:Nat}{b c:Bool}:aB (aB x v b) v c=aB x v c:=by
 apply xaV;intro k;rw[aj,aj,aj];split<;>rfl
theorem TG(h:u≠v)(b:Bool):QF t v (λx=>f (aB x u b))=λx=>QF t v f (aB x u b):=by
 funext x
 unfold QF;simp only[dg h]
theorem TE(h:¬bT f u):¬bT (QF t v f) u:=by
 rintro⟨x,hx⟩;by_cases e:u=v
 ·subst e;apply hx;unfold QF;simp only[oS]
 apply hx;unfold QF;simp only[dg e];have key:∀y,f (aB y u false)=f (aB y u true):=λy=>xaD λhn=>h ⟨y,hn⟩;rw[key,key]
theorem W6(ht:∀a,t a a=a)(h:¬bT f v):QF t v f=f:=by
 funext x
 unfold QF;have key:∀b,f (aB x v b)=f x:=λb=>cJ h x b;rw[key,key,ht]
end
def jt3(e:Bool):Bool->Bool->Bool->Bool:=λx y _=>if e then x||y else x&&y
def jf(e:Bool)(S:Nat->Fn)(a b:Nat):Fn:=uk (jt3 e) S [a,b,0]
theorem sG(e:Bool)(S:Nat->Fn)(a b x:Nat):jf e S a b x=if e then S a x||S b x else S a x&&S b x:=rfl
theorem AW(e:Bool)(S:Nat->Fn)(a b:Nat):jf e S a b=jf e S b a:=by
 funext x;rw[sG,sG];cases e<;>cases S a x<;>cases S b x<;>rfl
theorem Xy(e:Bool)(S:Nat->Fn)(a b:Nat):jf e S (min a b) (max a b)=jf e S a b:=by
 by_cases h:a<=b
 ·rw[xcG h,Nat.max_eq_right h]
 rw[xdv zO,Nat.max_eq_left zO,AW]
theorem VJ(e:Bool)(S:Nat->Fn)(a:Nat):jf e S a a=S a:=by
 funext x;rw[sG];cases e<;>cases S a x<;>rfl
section
variable {N:er} {S:Nat->Fn} {n:Nat} {ah:Nat->Nat}
theorem Q9(hi:Interp N S)(e:Bool)(a:Nat):jf e S e.toNat a=S e.toNat:=by
 funext x;rw[sG];cases e
 ·show(S 0 x&&S a x)=S 0 x;rw[hi.zero];rfl
 show(S 1 x||S a x)=S 1 x;rw[hi.one];rfl
theorem Q8(hi:Interp N S)(e:Bool)(a:Nat):jf e S (!e).toNat a=S a:=by
 funext x;rw[sG];cases e
 ·show(S 1 x&&S a x)=S a x;rw[hi.one];cases S a x<;>rfl
 show(S 0 x||S a x)=S a x;rw[hi.zero];cases S a x<;>rfl
theorem uG(h:WF n ah N)(hl:jH n ah){r v:Nat}(hd:ah v<dep n ah N r)(b:Bool):dV N v b r=r:=by
 unfold dV;cases e:N r with
 |none=>rfl
 |some d=>
  rw[an e]at hd;simp only;rw[xac (λe2=>by rw[e2]at hd;omega)]
theorem kR{r:Nat}{d:Nd}(e:N r=some d):dV N d.v false r=d.lo/\dV N d.v true r=d.hi:=by
 unfold dV;rw[e];simp
theorem wy{N':er}(hN:∀s d,N s=some d->N' s=some d)(hc:∀r,r<2->N' r=none)(h0:∀r,r<2->N r=none){r:Nat}(hr:live N r):dep n ah N' r=dep n ah N r:=by
 rcases hr with hr|⟨d,hd⟩
 ·rw[aS (hc r hr),aS (h0 r hr)]
 rw[an hd,an (hN r d hd)]
theorem DU(v:Nat)(bb:Bool)(a b:Nat)(h0:N 0=none):iT N v bb [a,b,0]=[dV N v bb a,dV N v bb b,0]:=by
 have:dV N v bb 0=0:=by unfold dV;rw[h0]
 simp[iT,this]
theorem ae2(h:WF n ah N)(hl:jH n ah){a b:Nat}(h0:N 0=none)(hlt:min (dep n ah N a) (dep n ah N b)<n):
  ∃v,uo n ah N [a,b,0] v/\ah v=min (dep n ah N a) (dep n ah N b):=by
 have hd0:dep n ah N 0=n:=aS h0;have node:∀r,dep n ah N r<n->∃d,N r=some d:=λr hr=>by
  cases e:N r with
  |none=>rw[aS e]at hr;omega
  |some d=>exact⟨d,rfl⟩
 by_cases hab:dep n ah N b<dep n ah N a
 ·obtain⟨d,hd⟩:=node b zO;have e:=an (n:=n) (ah:=ah) hd;refine⟨d.v,⟨h.var hd,⟨b,by simp,d,hd,rfl⟩,λr hr=>?_⟩,by omega⟩;simp only[xaj,xaR,xbl]at hr;rcases hr with rfl|rfl|rfl<;>omega
 obtain⟨d,hd⟩:=node a zO;have e:=an (n:=n) (ah:=ah) hd;refine⟨d.v,⟨h.var hd,⟨a,by simp,d,hd,rfl⟩,λr hr=>?_⟩,by omega⟩;simp only[xaj,xaR,xbl]at hr;rcases hr with rfl|rfl|rfl<;>omega
end
end aq
set_option maxRecDepth 100000
namespace Go.Proofs
open Go Go.Sx Tryz
section
open aq
section
variable {kp:Nat} {K:Kd} {ord ah tr:zL} {C:Hp} {S:Nat->aq.Fn}
theorem l9(h:cQ kp K ord ah tr C)(v:Int):Rd zQ 93 #[ptr kp,iv v] C (· =if 0<=v/\v<K.n then .tuple #[iv ((ah.getD v.toNat 0:Nat):Int),iv 0]else .tuple #[iv 0,iv 2]):=by
 have h0:=h;obtain⟨b,rfl,hO⟩:=h;refine aF λg=>td (ae.aI (Br.no (aa.eq (rB h0 v) (Un.not ?_))));by_cases MS:0<=v/\v<K.n
 ·rw[xam MS,xad MS];refine Br.no (Nil.ptr (Ld.f ?_));have hlen:=hO.ol.2;obtain⟨n,rfl⟩:∃n:Nat,v=n:=⟨v.toNat,by omega⟩;exact hO.lv.ld (x:=((ah.getD n 0:Nat):Int)) (bH zO) (bG.sub (.cons (.app (.app (.app (.app (.app .left))))))) (bg.mk (.refl _) rfl)
 rw[xal MS,xac MS];exact Br.yes (bg.mk (.refl _) rfl)
end
end
section
open aq
def Kb(bq kp bm:Nat)(ok:Bool):Nat×Obj:=(bq,.cells #[ptr kp,.map (some bm),iv (if ok then 0 else 9)] 285 zZ)
abbrev ux(bq kp bm:Nat)(ok:Bool)(es:Array MapEntry)(ck:Nat)(C:Hp):Hp:=Kb bq kp bm ok::(bm,.map es ck)::C
abbrev vr1(v:zV)(_:Unit):Prop:=v=iv 1
abbrev BA(made:zL):List (Nat×Unit):=made.map λr=>(r,())
theorem q9(made:zL):(BA made).map Prod.fst=made:=by
 induction made with
 |nil=>rfl
 |cons a l ih=>simp only[BA,xaC,xav,xcj]at ih⊢;exact ih
structure x9(kp:Nat)(K0:Kd)(S0:Nat->aq.Fn)(U:aq.Fn->Prop)(ord ah:zL)(K:Kd)(S:Nat->aq.Fn)(made:zL)(es:Array MapEntry)(ck:Nat)(C:Hp)(ok:Bool):Prop where
 ks:bP kp K S ord ah [] C
 cT:k9 K0 S0 U ord K S made
 dJ:aE (kN .u32) vr1 es ck (BA made)
 bad:ok=false->¬Fits U K0.cap
theorem x9.nd{kp:Nat}{K0:Kd}{S0:Nat->aq.Fn}{U:aq.Fn->Prop}{ord ah:zL}{K:Kd}{S:Nat->aq.Fn}{made:zL}{es:Array MapEntry}{ck:Nat}{C:Hp}{ok:Bool}(h:x9 kp K0 S0 U ord ah K S made es ck C ok):made.Nodup:=by
 have:=h.dJ.nd;rwa [q9]at this
structure EH(K:Kd)(S:Nat->aq.Fn)(made:zL)(K':Kd)(S':Nat->aq.Fn)(made':zL):Prop where
 N:∀s d,K.N s=some d->K'.N s=some d
 fn:∀s,live K.N s->S' s=S s
 mem:∀s∈made,s∈made'
theorem EH.refl{K:Kd}{S:Nat->aq.Fn}{made:zL}:EH K S made K S made:=⟨λ_ _ h=>h,λ_ _=>rfl,λ_ h=>h⟩
theorem EH.trans{K K' K2:Kd}{S S' S2:Nat->aq.Fn}{made made' fR:zL}(h:EH K S made K' S' made')(h':EH K' S' made' K2 S2 fR):EH K S made K2 S2 fR:=
 ⟨λs d hd=>h'.N s d (h.N s d hd),λs hs=>(h'.fn s (bA h.N hs)).trans (h.fn s hs),λs hs=>h'.mem s (h.mem s hs)⟩
section
variable {kp bq bm:Nat} {K K0:Kd} {S S0:Nat->aq.Fn} {U:aq.Fn->Prop} {ord ah made:zL} {es:Array MapEntry} {ck:Nat} {C:Hp} {ok:Bool}
theorem Mq{tr:zL}{r:Nat}(h:bP kp K S ord ah tr C)(hr:live K.N r):Rd zQ 263 #[ptr bq,.agg (got K.N r).toArray] (ux bq kp bm ok es ck C) (· =iv ((dep K.n (lv ah) K.N r:Nat):Int)):=by
 have hlen:=(aP K.N r).1;refine aF λg=>G5 λb1 _=>?_;cases hN:K.N r with
 |none=>
  have h2:r<2:=by rcases hr with h|⟨d,hd⟩;exact h;rw[hN]at hd;cases hd
  have eg:got K.N r=[iv (-1),u32 r,u32 r]:=fC h2;rw[eg];refine Ld.f ?_;refine ae.lss (Br.T (Ld.n ?_));refine aa.eq (gM h.rep) ?_;rw[aS hN];exact bg.mk .tail rfl
 |some d=>
  have h2:=h.ok.wf.two hN;have hv:=h.ok.wf.var hN;rw[dU hN h2];refine Ld.f ?_;refine ae.lss (Br.F (DR.of (R:=(b1,Obj.cells (bu d).toArray 144 zZ)::ux bq kp bm ok es ck C) (.refl _) (Ld.n ?_)));refine Ld.f ?_;refine aa.rq (l9 h.rep (d.v:Int)) ?_;rw[xad zO];rintro w rfl;refine⟨.refl _,?_⟩;apply Ext.two;rw[an hN];exact bg.mk .tail rfl
theorem Fa{tr:zL}{r:Nat}(h:bP kp K S ord ah tr C)(hr:live K.N r):Rd zQ 219 #[ptr bq,u32 r] (ux bq kp bm ok es ck C) (· =.tuple #[.agg (got K.N r).toArray,iv ((dep K.n (lv ah) K.N r:Nat):Int)]):=by
 refine aF λg=>HN λb1 _=>?_;refine Ld.n ?_;refine aa.rq (iP h.rep (by have:=h.bM hr;omega)) ?_;rw[ca.2 hr];rintro w rfl;refine Ext.two λBm _=>(St.whole (r:=got K.N r) (by exact .head _) rfl (aP _ _).1 (aP _ _).2 ?_);refine DR.of (R:=[(Bm,Obj.cells (got K.N r).toArray 144 zZ)]) (aM.left (A:=[_])) (az.whole (r:=got K.N r) (by exact .head _) (aP _ _).1 ?_);refine az.whole (r:=got K.N r) (by exact .head _) (aP _ _).1 ?_;refine aa.eq (Mq h hr) (⟨aM.left (A:=[_]),?_⟩);refine St.whole (r:=got K.N r) (by exact .tail (.head _)) rfl (aP _ _).1 (aP _ _).2 ?_;refine⟨aM.left (A:=[_]),?_⟩;refine az.whole (r:=got K.N r) (by exact .tail _ (.head _)) (aP _ _).1 ?_;exact bg.mk (.skip .tail) rfl
theorem yC(v:zV)(a b:zV)(B:Hp):Rd zQ 220 #[ptr bq,v,a,b] (Kb bq kp bm false::B) (· =u32 0):=by
 refine aF λg=>xm (Ld.n ?_);exact ae.cK (Br.T (bg.mk (.refl _) rfl))
theorem k9.abj(h:k9 K0 S0 U ord K S made)(hK:bP kp K S ord ah [] C){K':Kd}{S':Nat->aq.Fn}{f:aq.Fn}{r:Nat}(m:pV K S K' S' f r)(h2:2<=r)(hU:∀g,aD K0.n ord (λg=>g=f) g->U g):k9 K0 S0 U ord K' S' (made++[r]):=h.step hK m h2 hU
theorem k9.again(h:k9 K0 S0 U ord K S made)(hK:bP kp K S ord ah [] C){K' K2:Kd}{S':Nat->aq.Fn}{f:aq.Fn}{r:Nat}{C2:Hp}(m:pV K S K' S' f r)(hf:Aj K' K2 r)(cR:bP kp K2 S' ord ah [] C2):k9 K0 S0 U ord K2 S' made/\(∀s d,K.N s=some d->K2.N s=some d):=by
 have hold:∀s,K2.hold s=K.hold s:=λs=>by
  rw[hf.hold,m.hold];by_cases e:s=r/\2<=r
  ·rw[xad e,xad e];omega
  rw[xac e,xac e]
 have hN:∀s d,K.N s=some d->K2.N s=some d:=λs d hs=>jY hK.ok cR.ok (λs h=>by rw[hold];exact h) (λs d d' h1 h2=>by
  have a:=hf.N s d' h2;rw[m.N s d h1]at a;exact(xbh a).symm) _ s d hs (xai _)
 refine⟨⟨hf.n.trans (m.n.trans h.n),hf.cap.trans (m.cap.trans h.cap),λs d hd=>hN s d (h.N s d hd),λs hs=>(m.fn s (h.live hs)).trans (h.fn s hs),λs=>by rw[hold,h.hold],h.two,λg hg=>h.U g (aV (λg=>?_) hg)⟩,hN⟩;rintro⟨s,hs,rfl⟩;have hs':K.hold s≠0:=by rw[<-hold];exact hs
 exact⟨s,hs',m.fn s (.inr (hK.ok.mid.held s hs'))⟩
theorem QO{made:zL}{r:Nat}(h:r∉made):dW (BA made) r ()=BA (made++[r]):=by
 unfold dW;rw[xac (by rw[q9];exact h)];simp[BA]
theorem o7{made:zL}{r:Nat}:(r∈made->aK (BA made) r=some ())/\(r∉made->aK (BA made) r=none):=by
 refine⟨λh=>?_,λh=>ik.2 (by rw[q9];exact h)⟩;cases e:aK (BA made) r with
 |none=>have:=ik.1 e;rw[q9]at this;exact absurd h this
 |some u=>rfl
theorem Cp(hq:x9 kp K0 S0 U ord ah K S made es ck C true){v lo hi:Nat}(hv:v<K.n)(hlo:live K.N lo)(hhi:live K.N hi)(hlt:lv ah v<dep K.n (lv ah) K.N lo/\lv ah v<dep K.n (lv ah) K.N hi)
 (hU:∀g,aD K0.n ord (λg=>g=ite S ⟨v,lo,hi⟩) g->U g)(iR:lo≠hi->U (ite S ⟨v,lo,hi⟩))(hf:∀s,K0.hold s=65535->live K0.N s):
  Fc zQ 220 #[ptr bq,iv (v:Int),u32 lo,u32 hi] (ux bq kp bm true es ck C) (λw H=>∃r K' S' made' es' bC C' nw,w=u32 r/\H=ux bq kp bm nw es' bC C'/\x9 kp K0 S0 U ord ah K' S' made' es' bC C' nw/\EH K S made K' S' made'/\
   (nw=true->S' r=ite S ⟨v,lo,hi⟩/\(live K0.N r\/r∈made'))):=by
 have hK:=hq.ks;have fA:=hq.nd;refine aF λg=>xm (Ld.n ?_);refine ae.cK (Br.F (Ld.n ?_));refine aa.fq (AP hK hv hlo hhi (.inr hlt)) ?_;rintro w C' (⟨r,K',S',rfl,cX,mk⟩|⟨r,rfl,rfl,hlr,Pq,hfull,F5⟩|⟨rfl,rfl,hcap,hne,hT⟩)
 ·refine Ext.two λJ hJ=>(ae.ia (Br.F (ae.cK (Br.F (ae.BB (b:=1) ?_)))));have Zi:r<4294967296:=by have:=cX.bM mk.live;omega
  have hA:EH K S made K' S' made:=⟨mk.N,mk.fn,λ_ h=>h⟩;have drop:(r<2\/r∈made)->Nil (ptr bq) λv36=>ai 0 v36 λv37=>Ld (Kb bq kp bm true::(bm,Obj.map es ck)::C') v37 λv38=>aa zQ g 85 #[v38,u32 r] (Kb bq kp bm true::(bm,Obj.map es ck)::C') (λv39 H40=>JE J [u32 r] H40) (dm (aN λw H=>∃r K' S' made' es' bC C' nw,w=u32 r/\H=ux bq kp bm nw es' bC C'/\x9 kp K0 S0 U ord ah K' S' made' es' bC C' nw/\EH K S made K' S' made'/\
   (nw=true->S' r=ite S ⟨v,lo,hi⟩/\(live K0.N r\/r∈made')))):=λhr=>by
   refine Ld.n ?_;refine aa.fq (mY cX (r:=r) Zi (λh2=>by rw[mk.hold,xad ⟨rfl,h2⟩];omega)) ?_;rintro w C2 ⟨rfl,K2,cR,f2⟩;obtain⟨vV,ZS⟩:=hq.cT.again hK mk f2 cR;refine JE.mk (hJ _ _ λgs=>?_);exact aN.here ⟨r,K2,S',made,es,ck,C2,true,rfl,rfl,⟨cR,vV,hq.dJ,λh=>by cases h⟩,⟨ZS,mk.fn,λ_ h=>h⟩,λ_=>⟨mk.is,hr.imp (λh=>.inl h) id⟩⟩
  by_cases h2:r<2
  ·rw[xam zO];refine c6.or (a:=true) true (λh=>by cases h) zI λgs=>Br.yes ?_;exact drop (.inl h2)
  rw[xal zO];refine c6.or (a:=false) (decide (r∈made)) (λ_=>?_) zI λgs=>?_
  ·refine Ld.n ?_;by_cases hm:r∈made
   ·refine aE.hit (k:=r) (x:=()) ju hq.dJ (.tail _ (.head _)) (o7.1 hm) ?_;rintro v rfl;exact ae.gtr ⟨rfl,by rw[xam hm];rfl⟩
   refine aE.bO (k:=r) ju hq.dJ (.tail _ (.head _)) (o7.2 hm) ?_;exact ae.gtr ⟨rfl,by rw[xal hm];rfl⟩
  rw[xdA];refine Br.dec (λhm=>drop (.inr hm)) (λhm=>?_);refine Ld.n ?_;refine aE.bK (k:=r) (x:=()) ju Kx hq.dJ rfl λes' bC he=>⟨_,.tail (.head _),?_⟩;rw[QO hm]at he;refine JE.mk (hJ _ _ λgs=>?_);exact aN.here ⟨r,K',S',made++[r],es',bC,C',true,rfl,rfl,⟨cX,hq.cT.abj hK mk zO hU,he,λh=>by cases h⟩,⟨mk.N,mk.fn,λ_ h=>xae _ h⟩,λ_=>⟨mk.is,.inr zI⟩⟩
 ·refine Ext.two λJ hJ=>(ae.ia (Br.T (Ld.n ?_)));refine aa.eq (vQ hK hv hlo hhi hlt hlr Pq F5) (Ext.two (JE.mk (hJ _ _ λgs=>?_)));exact aN.here ⟨r,K,S,made,es,ck,_,true,rfl,rfl,hq,.refl,λ_=>⟨F5,(hq.cT.full hfull).elim .inr λh=>.inl (hf r h)⟩⟩
 refine Ext.two λJ hJ=>(ae.ia (Br.F (ae.cK (Br.T (Nil.ptr (ai.mk (St.one (by exact .head _) rfl zI rfl ?_)))))));refine JE.mk (hJ _ _ λgs=>?_);refine aN.here ⟨0,K,S,made,es,ck,C',false,rfl,rfl,⟨hK,hq.cT,hq.dJ,λ_=>?_⟩,.refl,λh=>by cases h⟩;rintro⟨ku,RI,hfit⟩;have:=hK.ok.roomFor hK.od RI (by rw[hq.cT.cap];exact hfit) (by rw[hq.cT.n];exact hq.cT.U) (d:=⟨v,lo,hi⟩) hlo hhi hne hv hlt (iR hne) hT;omega
end
end
end Go.Proofs
