import Derived.Test.YtflhdclplgjbbaaGreatDoorX4
import Derived.Test.YtflhdclplgjbbaaGreatDoorX2
import Derived.Test.YtflhdclplgjbbaaGreatDoorX1
import Derived.Lib.Builder
import Derived.Lib.AppendStr
import Derived.Lib.UnsafeStr
import Derived.Laws.Externs
set_option linter.unusedVariables false
set_option linter.unusedSimpArgs false
set_option linter.unusedSectionVars false
namespace Go.Sx
open Go
section
variable {P:Program} {g:Gh} {H:Hp}
def sR:Nat->List (List zV)->List (Nat×zV)
 |_,[]=>[]
 |i,r::rs=>(i,.agg r.toArray)::sR (i+1) rs
theorem sJ{k:Nat}:∀(rs:List (List zV)) (i:Nat) (pre aC:List zV),(∀r∈rs,r.length=k)->pre.length=i*k->aC.length=rs.length*k->jF (λi=>some (i*k,k)) (pre++aC) (sR i rs)=some (pre++rs.flatten)
 | [],i,pre,aC,_,_,hj=>by
  have:aC=[]:=xcr.1 (by simpa using hj);subst this;simp[sR,jF]
 |r::rs,i,pre,aC,hr,hp,hj=>by
  have XQ:=hr r (xbq ..);have Oe:aC.length=k+rs.length*k:=by rw[hj,xar,xbr,xc1]
  simp only[sR,jF,Value.cells];have hb:(Nat.beq r.toArray.toList.length k&&Nat.ble (i*k+r.toArray.toList.length) (pre++aC).length)=true:=by
   have e1:r.toArray.toList.length=k:=XQ;rw[e1,xai];simp;omega
  rw[hb,xaw];have h1:=jZ r (pre++aC) (i*k) (by rw[xai];omega);rw[ij]at h1;have h2:qk (pre++aC) (i*k) r=pre++r++aC.drop k:=by
   have:=xbL Array.toList h1;simp only at this;rw[this,<-hp];simp[xdX,XQ,xdx]
  show jF _ (qk (pre++aC) (i*k) r) _=_;rw[h2,sJ rs (i+1) (pre++r) (aC.drop k) (λx hx=>hr x (xbz _ hx)) (by rw[xai,hp,XQ,xbr]) (by rw[xct];omega)];simp
theorem ai.many{t e k:Nat}{z:zV}(rs:List (List zV)){len:Nat}{parts:List (Nat×zV)}{K:zV->Hp->Prop}(h1:P.underlying t=some (.slice e))(h2:cy P e=some k)(h3:dG P e=some z)(hk:rs.length*k<=16777216)(hr:∀r∈rs,r.length=k)
 (hl:rs.length=len)(hp:sR 0 rs=parts)(h:∀b,K (.slice (some ⟨b,0,Option.none⟩) len len) ((b,.cells (rows rs) e zZ)::H)):ai P t len parts H K:=by
 subst hl hp;refine⟨rows rs,e,k,z,h1,h2,h3,by omega,?_,λb _=>h b⟩;have:((Array.range (rs.length*k)).map (z.cells[· %z.cells.size]!))=(((Array.range (rs.length*k)).map (z.cells[· %z.cells.size]!)).toList).toArray:=by rw[xcE]
 rw[this];generalize hc:((Array.range (rs.length*k)).map (z.cells[· %z.cells.size]!)).toList=c;have hlen:c.length=rs.length*k:=by rw[<-hc];simp
 refine iz _ _ _ ?_;have:=sJ rs 0 [] c hr zI hlen;simpa using this
end
end Go.Sx
set_option maxRecDepth 100000
namespace Go.Proofs
open Go Go.Sx Tryz
open Fm
def Fm.Tok.cells(t:Tok):List zV:=[nI t.k,nI t.p,nI t.v]
theorem Fm.Tok.one(t:Tok):∀u∈t.cells,u.oneCell'=true:=λu hu=>by
 simp only[Tok.cells,xaf,xao,xaQ]at hu;rcases hu with rfl|rfl|rfl<;>rfl
def Pt(s:List UInt8×Nat):List zV:=[bI s.1,nI s.2]
theorem Jf(B:Hp):Fc zQ 98 #[] B (λv H=>∃N,H=N++B/\aH 167 2 v (eG.map Pt) N):=by
 refine aS λg=>GK ?_;refine Build.mk (cs:=[bI [60,45,62],nI 9]) zK (Build.mk (cs:=[bI [45,62],nI 8]) zK (Build.mk (cs:=[bI [48],nI 1]) zK (Build.mk (cs:=[bI [49],nI 2]) zK ?_)));refine Build.mk (cs:=[bI [33],nI 4]) zK (Build.mk (cs:=[bI [38],nI 5]) zK (Build.mk (cs:=[bI [94],nI 6]) zK (Build.mk (cs:=[bI [124],nI 7]) zK ?_)));refine Build.mk (cs:=[bI [40],nI 10]) zK (Build.mk (cs:=[bI [41],nI 11]) zK (Build.mk (cs:=[bI [91],nI 12]) zK (Build.mk (cs:=[bI [63],nI 13]) zK ?_)));refine Build.mk (cs:=[bI [58],nI 14]) zK (Build.mk (cs:=[bI [93],nI 15]) zK ?_);refine ai.many (e:=167) (k:=2) (z:=.agg #[bI [],nI 0]) (eG.map Pt) zK zK zK zD zD rfl rfl λbw=>?_;exact aN.mk (.refl _) ⟨[_],rfl,aH.made (T:=167) (k:=2) (b:=bw) (eG.map Pt) zD⟩
def qt(l:List UInt8)(j:Nat):Option (Nat×Nat×Nat):=
 match kT l with
 |some (n,w)=>some (3,n,w)
 |none=>(wX l (eG.take j)).map λq=>(q.1,0,q.2)
def Lr(p:Nat):Option (Nat×Nat×Nat)->Tok
 |some q=>⟨q.1,p,q.2.1⟩
 |none=>⟨16,p,0⟩
def qM:Option (Nat×Nat×Nat)->Nat
 |some q=>q.2.2
 |none=>0
theorem Eo(l:List UInt8)(p:Nat):Lr p (qt l 14)=⟨(cX l).1,p,(cX l).2.1⟩/\qM (qt l 14)=(cX l).2.2:=by
 unfold qt cX;cases kT l with
 |some q=>exact⟨rfl,rfl⟩
 |none=>
  simp only[show eG.take 14=eG from rfl];cases wX l eG with
  |some q=>exact⟨rfl,rfl⟩
  |none=>exact⟨rfl,rfl⟩
theorem rH(l:List UInt8)(s:List UInt8×Nat):∀L:List (List UInt8×Nat),wX l (L++[s])=match wX l L with|some q=>some q|none=>if s.1.isPrefixOf l=true then some (s.2,s.1.length)else none
 | []=>by simp only[xaW,wX]
 |a::L=>by
  rw[xaN];unfold wX;split
  ·rfl
  exact rH l s L
theorem Lq{l:List UInt8}{j:Nat}(h:qM (qt l j)=0):qt l j=none:=by
 unfold qt at h⊢;cases hx:kT l with
 |some q=>
  obtain⟨n,w⟩:=q;rw[hx]at h;exfalso;cases l with
  |nil=>simp[kT]at hx
  |cons b r=>
   by_cases hb:b=120/\0<(num 0 0 r).2
   ·rw[show kT (b::r)=some ((num 0 0 r).1,(num 0 0 r).2+1)from xae hb]at hx;cases hx;simp[qM]at h
   rw[show kT (b::r)=none from xad hb]at hx;cases hx
 |none=>
  rw[hx]at h;simp only at h⊢;cases hs:wX l (eG.take j)with
  |none=>rfl
  |some q=>
   rw[hs]at h;have:=(Av (eG.take j) (λs hs=>(show∀s∈eG,s.1≠[]/\∀b∈s.1,b.toNat<128 by decide) s (xci hs)) q hs).1;simp only[xbn,qM]at h;omega
theorem Lp{l:List UInt8}{j:Nat}(hj:j<14){s:List UInt8×Nat}(hs:eG[j]? =some s):qt l (j+1)=if qM (qt l j)=0/\s.1.isPrefixOf l=true then some (s.2,0,s.1.length)else qt l j:=by
 by_cases h0:qM (qt l j)=0
 ·have hn:=Lq h0;unfold qt at hn⊢;cases hx:kT l with
  |some q=>rw[hx]at hn;cases hn
  |none=>
   rw[hx]at hn;simp only at hn⊢;rw[xby,hs];simp only[Option.toList_some];rw[rH];have hn':wX l (eG.take j)=none:=by simpa using hn
   rw[hn'];simp only[xcW,qM,xb1];split<;>rfl
 rw[xad λh=>h0 h.1];unfold qt at h0⊢;cases hx:kT l with
 |some q=>rfl
 |none=>
  rw[hx]at h0;simp only at h0⊢;cases hq:wX l (eG.take j)with
  |none=>rw[hq]at h0;simp[qM]at h0
  |some q=>
   rw[xby,hs];simp only[Option.toList_some];rw[rH,hq]
def Rj:Hp->Nat
 | []=>0
 |x::r=>match x.2 with
  | .stringIter _ p=>p
  |_=>Rj r
theorem wh{T:TypeId}{k:Nat}{v:zV}{rs:List (List zV)}{C B:Hp}{b p:Nat}{s:ByteArray}(h:aH T k v rs C):Rj (C++((b,.stringIter s p)::B))=p:=by
 rcases h with⟨_,_,rfl⟩|⟨c,j,_,rfl,_⟩<;>rfl
theorem Fm.eA.at{l:List UInt8}{p:Nat}(hp:p<l.length):∃c,l[p]? =some c/\l.drop p=c::l.drop (p+1):=⟨l[p],xab hp,xa8 hp⟩
theorem Nc{l:List UInt8}(h:(cX l).1=16):(cX l).2.1=0:=by
 unfold cX at h⊢;cases hx:kT l with
 |some q=>rw[hx]at h;cases h
 |none=>
  simp only;cases wX l eG with
  |some q=>rfl
  |none=>rfl
set_option maxHeartbeats 2000000 in
theorem Lg(l:List UInt8)(hl:l.length<=65536)(B:Hp):Fc zQ 57 #[bI l] B (λv H=>∃(o:List Tok) (N:Hp),H=N++B/\eA 0 l o/\o.length<=l.length+1/\aH 162 3 v (o.map Tok.cells) N):=by
 refine aS λg=>Hw ?_;refine dF.Jh rfl zK rfl λb=>?_;refine⟨λvs H=>∃(p q:Nat) (acc:List Tok) (C:Hp) (v:zV),vs=[v,nI q]/\p<=l.length/\q<=l.length/\acc.length<=max p q/\(∀o,eA (max p q) (l.drop (max p q)) o->eA 0 l (acc++o))/\(∀j,p<=j->j<q->∃c,l[j]? =some c/\c.toNat<128)/\aH 162 3 v (acc.map Tok.cells) C/\H=C++((b,.stringIter ⟨l.toArray⟩ p)::B),λvs H=>l.length-Rj H,JE.mk ⟨0,0,[],[],_,rfl,xaK _,xaK _,xaK _,λo h=>h,λj h1 h2=>absurd h2 zO,aH.nil _ _,rfl⟩,?_⟩;rintro w7 w8 H ⟨p,q,acc,C,v,⟨⟩,hp,hq,ha,hT,hb,hs,rfl⟩ gs;have hz:∃z:List zV,(Value.agg #[iv 0,iv 0,iv 0]).cells=z.toArray/\z.length=3:=⟨[_,_,_],rfl,rfl⟩;refine dF.PA (C:=B) (c:=λX=>C++(X++B)) rfl rfl (.app (.left (C:=[_]))) (λhlt=>?_) (λhge=>?_);rotate_left
 ·have mP:p=l.length:=by omega
  subst mP;refine Ext.mk rfl (Br.no (dR.of (Build.mk (cs:=(⟨0,l.length,0⟩:Tok).cells) zK (ai.one (e:=162) (z:=.agg #[iv 0,iv 0,iv 0]) (k:=3) zK zK zK zD rfl λbs=>?_))));refine hs.kx (.cons .left) (.head _) rfl (Tok.one _) hz (by simp only[xaz];omega) (by simp only[xaz];omega) λv' C' ho=>?_;refine aN.mk (gp:=C'++B) (.skip (.cM .tail _)) ⟨acc++[⟨0,l.length,0⟩],C',rfl,hT _ ?_,?_,by rw[xaG];exact ho⟩
  ·rw[show max l.length q=l.length by omega,xc9];exact .fin
  simp only[xai,xbP];omega
 obtain⟨c,hc,hd⟩:=eA.at hlt;obtain⟨D1,D2,hD⟩:∃D1 D2,Utf8.decode ⟨l.toArray⟩ p=(D1,D2):=⟨_,_,rfl⟩;have hlo:c.toNat<128->D1=c.toNat/\D2=1:=λh=>by
  have:=u5 hc h;rw[hD]at this;cases this;exact⟨rfl,rfl⟩
 have hhi:128<=c.toNat->128<=D1/\D1<2147483648:=λh=>by
  have:=u6 hc h;rw[hD]at this;exact⟨this.1,this.2.1⟩
 rw[hD];refine Ext.mk rfl (Br.yes (Ext.mk rfl (Ext.mk rfl ?_)));refine ae.fe (dr.or (decide (D1=32)) (λ_=>ae.bA (b:=32) ⟨rfl,rfl⟩) rfl λ_=>?_);rw[<-xbO];refine Br.dec (λhy=>?_) (λhn=>?_)
 ·have Om:c.toNat<128:=by
   rcases hy with h|h
   ·obtain⟨c',e,h'⟩:=hb p (xak _) h;rw[hc]at e;cases e;exact h'
   rcases xdh c.toNat 128 with h'|h'
   ·exact h'
   have:=hhi h';omega
  obtain⟨e1,rfl⟩:=hlo Om;refine az.of (.refl _) ⟨p+1,q,acc,C,w7,rfl,hlt,hq,by omega,λo ho=>hT o ?_,λj h1 h2=>hb j zO h2,hs,rfl⟩ ?_
  ·by_cases hpq:p<q
   ·rw[show max p q=max (p+1) q by omega];exact ho
   rw[show max p q=p by omega,hd];rw[show max (p+1) q=p+1 by omega]at ho;have:c=32:=UInt8.toNat_inj.1 (by show c.toNat=32;omega);rw[this];exact .blank ho
  show l.length-Rj (C++((b,.stringIter ⟨l.toArray⟩ (p+1))::B))<l.length-Rj (C++((b,.stringIter ⟨l.toArray⟩ p)::B));rw[wh hs,wh hs];omega
 have hpq:¬p<q:=λh=>hn (.inl h);have Zf:D1≠32:=λh=>hn (.inr h);rw[show max p q=p by omega]at hT ha;have UZ:c≠32:=λh=>by
  subst h;exact Zf (hlo zD).1
 obtain⟨l',hl'⟩:∃l',l.drop p=l':=⟨_,rfl⟩;rw[hl']at hT hd;have uQ:l'.length=l.length-p:=by rw[<-hl',xct]
 refine Build.mk (cs:=(⟨16,p,0⟩:Tok).cells) zK λtb _=>St.whole (r:=(⟨16,p,0⟩:Tok).cells) (.head _) rfl rfl (Tok.one _) λJ22 WI=>?_;have main:J22 [nI (qM (qt l' 0))] ((tb,.cells (Lr p (qt l' 0)).cells.toArray 162 zZ)::(C++([(b,.stringIter ⟨l.toArray⟩ (p+D2))]++B))):=by
  refine WI _ _ λ_=>?_;refine aa.fq (Jf _) ?_;rintro sv _ ⟨N,rfl,PY⟩;refine PY.bH ?_;refine⟨λvs H=>∃j,j<=14/\vs=[nI (qM (qt l' j)),nI j]/\H=N++((tb,.cells (Lr p (qt l' j)).cells.toArray 162 zZ)::(C++([(b,.stringIter ⟨l.toArray⟩ (p+D2))]++B))),λvs _=>14-bL vs 1,JE.mk ⟨0,by decide,rfl,rfl⟩,?_⟩;rintro w33 w34 H ⟨j,hj,⟨⟩,rfl⟩ gs;have e14:((eG.map Pt).length:Int)=14:=rfl;rw[e14];refine ae.fe (b:=14) (Br.dec (λWJ=>λSo Vw=>?_) (λWJ=>?_))
  ·obtain⟨s,hsj⟩:∃s,eG[j]? =some s:=⟨_,xab WJ⟩;have next:So [nI (qM (qt l' (j+1)))] (N++((tb,.cells (Lr p (qt l' (j+1))).cells.toArray 162 zZ)::(C++([(b,.stringIter ⟨l.toArray⟩ (p+D2))]++B)))):=by
    refine Vw _ _ λ_=>ae.inc (az.of (.refl _) ⟨j+1,WJ,rfl,rfl⟩ ?_);simp only[bL];omega
   have kR:=Lp (l:=l') WJ hsj;refine PY.r7 (r:=Pt s) (by rw[xat,hsj];rfl) (λy hy=>xac _ hy) ?_;refine λsb _=>St.whole (r:=Pt s) (.head _) rfl rfl (by intro v hv;simp only[Pt,xaf,xao,xaQ]at hv;rcases hv with rfl|rfl<;>rfl) λJ46 h46=>?_;have Z9:∀t:Bool,t=(decide (qM (qt l' j)=0) &&s.1.isPrefixOf l')->JE J46 [.bool t] ((sb,.cells (Pt s).toArray 167 zZ)::(N++((tb,.cells (Lr p (qt l' j)).cells.toArray 162 zZ)::(C++([(b,.stringIter ⟨l.toArray⟩ (p+D2))]++B))))):=λt ht=>by
    refine JE.mk (h46 _ _ λ_=>?_);cases t with
    |true=>
     have hh:=ht.symm;rw[xay,xaO]at hh;rw[xae hh]at kR;refine Br.yes (DR.of (.qJ (.head _)) (Ld.u (.head _) (Build.mk (cs:=(⟨s.2,p,0⟩:Tok).cells) zK (Ld.u (.head _) (dR.of (St.whole (r:=(⟨s.2,p,0⟩:Tok).cells) (.tail (.bB (.head _) N)) rfl rfl (Tok.one _) ⟨?_,JE.of .tail ?_⟩))))))
     ·exact .qJ (.head _)
     rw[kR]at next;exact next
    |false=>
     have hh:=ht.symm;have:qt l' (j+1)=qt l' j:=by
      rw[kR];refine xad λh=>?_;rw[xaA h.1,h.2]at hh;cases hh
     rw[this]at next
     exact Br.no (JE.of .tail next)
   refine DR.self (ae.bA (b:=0) (Br.dec (λh0=>?_) (λh0=>?_)))
   ·refine bS.vK (l:=l) (i:=p) (j:=l.length) rfl zK rfl (.inr ⟨_,.i64,rfl,rfl⟩) (.inl ⟨rfl,rfl⟩) hp (xak _) ?_;rw[xbh,hl'];refine Ld.u (.head _) λ_=>aa.eq (QI _ _ _) (aB.mk ?_);refine(show(cond (s.1.isPrefixOf l') (Value.bool true) (.bool false))=.bool (s.1.isPrefixOf l')by cases s.1.isPrefixOf l'<;>rfl)▸Z9 _ ?_;rw[xaA h0];rfl
   exact Z9 false (by rw[xas h0];rfl)
  have Yc:j=14:=by omega
  subst Yc;rw[(Eo l' p).1,(Eo l' p).2];refine av.whole (r:=(⟨(cX l').1,p,(cX l').2.1⟩:Tok).cells) (xaa _ (.head _)) rfl ?_;refine ai.one (e:=162) (z:=.agg #[iv 0,iv 0,iv 0]) (k:=3) zK zK zK zD rfl λbs=>?_;refine hs.kx (.cons (.app (.cons .left))) (.head _) rfl (Tok.one _) hz (by simp only[xaz];omega) (by simp only[xaz];omega) λv' C' ho=>?_;refine Ld.u (.tail _ (xaa _ (.head _))) (ae.bA (b:=16) (Br.dec (λyF=>?_) (λyF=>?_)))
  ·have yF:(cX l').1=16:=yF;refine aN.mk (gp:=C'++B) (.skip (.eE (.skip (.cM .tail _)))) ⟨acc++[⟨(cX l').1,p,(cX l').2.1⟩],C',rfl,hT _ ?_,?_,by rw[xaG];exact ho⟩
   ·have Vy:=Nc yF;rw[hd]at yF Vy⊢;rw[yF,Vy];exact .wrong UZ yF
   simp only[xai,xbP];omega
  have yF:(cX l').1≠16:=yF;have X6:=vH yF;have Om:c.toNat<128:=by
   rcases xdh c.toNat 128 with h'|h'
   ·exact h'
   exact absurd (by rw[hd];exact M9 h') yF
  refine ae.fE (az.of (.skip (.eE (.skip (.refl _)))) ⟨p+D2,p+(cX l').2.2,acc++[⟨(cX l').1,p,(cX l').2.1⟩],C',v',rfl,?_,?_,?_,?_,?_,by rw[xaG];exact ho,rfl⟩ ?_)
  ·rw[(hlo Om).2];exact hlt
  ·omega
  ·simp only[xai,xbP];omega
  ·intro o ho;rw[xaj];refine hT _ ?_;rw[(hlo Om).2]at ho;rw[show max (p+1) (p+(cX l').2.2)=p+(cX l').2.2 by omega,<-List.drop_drop,hl']at ho;rw[hd]at yF ho⊢;exact .tok UZ yF ho
  ·intro j h1 h2;obtain⟨c',e,h'⟩:=X6.2.2 (j-p) zO;rw[<-hl',List.getElem?_drop,show p+(j-p)=j by omega]at e;exact⟨c',e,h'⟩
  show l.length-Rj (C'++((b,.stringIter ⟨l.toArray⟩ (p+D2))::B))<l.length-Rj (C++((b,.stringIter ⟨l.toArray⟩ p)::B));rw[wh hs,wh ho,(hlo Om).2];omega
 have none_:kT l'=none->JE J22 [nI 0] ((tb,.cells (⟨16,p,0⟩:Tok).cells.toArray 162 zZ)::(C++([(b,.stringIter ⟨l.toArray⟩ (p+D2))]++B))):=λhx=>by
  have:qt l' 0=none:=by unfold qt;rw[hx];rfl
  rw[this]at main;exact JE.mk main
 refine ae.bA (b:=120) (Br.dec (λhx=>?_) (λhx=>?_))
 ·have Om:c.toNat<128:=by
   rcases xdh c.toNat 128 with h'|h'
   ·exact h'
   have:=hhi h';omega
  have wB:c=120:=UInt8.toNat_inj.1 (by show c.toNat=120;have:=(hlo Om).1;omega);refine ae.inc (bS.vK (l:=l) (i:=p+1) (j:=l.length) rfl zK rfl (.inr ⟨_,.i64,rfl,rfl⟩) (.inl ⟨rfl,rfl⟩) hlt (xak _) ?_);rw[xbh];refine aa.eq (OS (l.drop (p+1)) (by rw[xct];omega) _) (Ext.mk rfl (Ext.mk rfl (ae.kG (b:=0) (Br.dec (λh0=>?_) (λh0=>?_)))))
  ·have hf:qt l' 0=some (3,(num 0 0 (l.drop (p+1))).1,1+(num 0 0 (l.drop (p+1))).2):=by
    unfold qt;rw[hd,wB,show kT ((120:UInt8)::l.drop (p+1))=some ((num 0 0 (l.drop (p+1))).1,(num 0 0 (l.drop (p+1))).2+1)from xae ⟨rfl,h0⟩,xc1 1]
   have hnm:=(rT (l.drop (p+1)) 0 0).2.1;rw[xct]at hnm;rw[hf]at main;exact Build.mk (cs:=(⟨3,p,(num 0 0 (l.drop (p+1))).1⟩:Tok).cells) zK (ae.zq (a:=1) (by simp only[bM];omega) (St.whole (r:=(⟨3,p,(num 0 0 (l.drop (p+1))).1⟩:Tok).cells) (.head _) rfl rfl (Tok.one _) (JE.mk main)))
  refine none_ ?_;rw[hd,wB];exact xad λh=>h0 h.2
 refine none_ ?_;rw[hd];refine xad λh=>hx ?_;rw[(hlo (by rw[h.1];decide)).1,h.1];rfl
end Go.Proofs
namespace Go.Sx
open Go
section
variable {P:Program} {g:Gh} {H:Hp} {K:zV->Hp->Prop} {KP:List PanicEntry->Hp->Prop}
def qR(Q:zV->Hp->Prop)(QP:List PanicEntry->Hp->Prop):Ending->Hp->Prop:=λe H'=>(∃v gp,e=.returned v/\aG H' gp/\Q v gp)\/∃c gp,e=.panicked c/\aG H' gp/\QP c gp
def Sr(P:Program)(f:FuncId)(args:Array zV)(C:Hp)(Q:zV->Hp->Prop)(QP:List PanicEntry->Hp->Prop):Prop:=∀g,aR P g f args C (qR Q QP)
theorem VC{f:FuncId}{args:Array zV}{C:Hp}{Q:zV->Hp->Prop}{QP:List PanicEntry->Hp->Prop}(h:∀g,aR P g f args C (qR Q QP)):Sr P f args C Q QP:=h
theorem qR.ret{Q:zV->Hp->Prop}{QP:List PanicEntry->Hp->Prop}{v:zV}{H gp:Hp}(he:aG H gp)(h:Q v gp):qR Q QP (.returned v) H:=.inl ⟨v,gp,rfl,he,h⟩
theorem qR.AJ{Q:zV->Hp->Prop}{QP:List PanicEntry->Hp->Prop}{c:List PanicEntry}{H gp:Hp}(he:aG H gp)(h:QP c gp):cK (qR Q QP) c H:=λ_=>.inr ⟨c,gp,rfl,he,h⟩
theorem aa.fp{f:FuncId}{args:Array zV}{C H:Hp}{c:Hp->Hp}{Q:zV->Hp->Prop}{QP:List PanicEntry->Hp->Prop}(hh:aU C H c)(hc:Sr P f args C Q QP)
 (hk:∀v C',Q v C'->K v (c C'))(hp:∀ch C',QP ch C'->KP ch (c C')):aa P g f args H K KP:=
 (aR.hole hh hc).post λe H' ⟨C',h1,h⟩=>by
  rcases h with⟨v,V2,h2,h3,h4⟩|⟨v,V2,h2,h3,h4⟩
  ·exact⟨c V2,by rw[h1];exact hh.cS h3,by subst h2;exact hk _ _ h4⟩
  exact⟨c V2,by rw[h1];exact hh.cS h3,by subst h2;exact hp _ _ h4⟩
theorem dD.tail{k:Nat}{B:Hp}{v:zV}{r:List zV}{rs:List (List zV)}{K:zV->Prop}(h:Sl k B v (r::rs))(hk:∀v',Sl k B v' rs->K v'):dD k v (some (.int .i64 1)) none K:=by
 obtain⟨h0,h⟩:=h;rcases h with⟨_,_,_,h⟩|⟨b,o,cap,c,T,fz,rfl,h2,h3,h4,h5⟩
 ·cases h
 have hl:(r::rs).length=rs.length+1:=rfl;refine⟨some ⟨b,o,none⟩,(r::rs).length,cap,1,(((r::rs).length:Nat):Int),rfl,rfl,rfl,by decide,by omega,by omega,hk _ ⟨λx hx=>h0 x (.tail _ hx),?_⟩⟩;rw[show(((r::rs).length:Nat):Int).toNat-(1:Int).toNat=rs.length by omega];by_cases h1:cap=1
 ·have hn:rs=[]:=xcr.1 zO;subst hn;exact .inl ⟨_,_,rfl,rfl⟩
 rw[xad (by show¬cap=1;exact h1)];refine .inr ⟨b,o+1*k,cap-1,c,T,fz,?_,?_,h3,?_,λi r' hr j v hj=>?_⟩
 ·simp[Addr.add]
 ·show rs.length<=cap-1;omega
 ·rw[hl,xbr]at h4;omega
 have:=h5 (i+1) r' (by simpa using hr) j v hj;rw[xbr]at this;rw[<-this];congr 1;omega
def cI:Nat->List zV->List (Nat×zV)
 |_,[]=>[]
 |i,x::rs=>(i,x)::cI (i+1) rs
theorem tL{x:zV}(hx:x.oneCell'=true):x.cells=#[x]:=by cases x<;>first|rfl|(simp[Value.oneCell']at hx)
theorem qv:∀(rs:List zV) (i:Nat) (pre aC:List zV),(∀r∈rs,r.oneCell'=true)->pre.length=i->aC.length=rs.length->jF (λi=>some (i*1,1)) (pre++aC) (cI i rs)=some (pre++rs)
 | [],i,pre,aC,_,_,hj=>by
  have:aC=[]:=xcr.1 hj;subst this;simp[cI,jF]
 |r::rs,i,pre,aC,hr,hp,hj=>by
  have hc:=tL (hr r (.head _));cases aC with
  |nil=>simp at hj
  |cons y aC=>
   simp only[cI,jF,hc,xb6];have hb:(Nat.beq (#[r]:Array zV).toList.length 1&&Nat.ble (i+(#[r]:Array zV).toList.length) (pre++y::aC).length)=true:=by
    have e1:(#[r]:Array zV).toList.length=1:=rfl;rw[e1,xai,xar];simp;omega
   rw[hb,xaw];have h2:qk (pre++y::aC) i (#[r]:Array zV).toList=(pre++[r])++aC:=by
    subst hp;have h1:=jZ [r] (pre++y::aC) pre.length zI;rw[ij]at h1;have:=xbL Array.toList h1;simp only at this;rw[this];simp
   have:=qv rs (i+1) (pre++[r]) aC (λx hx=>hr x (.tail _ hx)) (by simp[hp]) (by simpa using hj);simp only[xb6]at this;rw[h2,this];simp
theorem ai.pU{t e:TypeId}{z:zV}(rs:List zV){len:Nat}{parts:List (Nat×zV)}{K:zV->Hp->Prop}(h1:P.underlying t=some (.slice e))(h2:cy P e=some 1)(h3:dG P e=some z)(hk:rs.length<=16777216)(hr:∀r∈rs,r.oneCell'=true)
 (hl:rs.length=len)(hp:cI 0 rs=parts)(h:∀b,K (.slice (some ⟨b,0,Option.none⟩) len len) ((b,.cells rs.toArray e zZ)::H)):ai P t len parts H K:=by
 subst hl hp;refine⟨rs.toArray,e,1,z,h1,h2,h3,by omega,?_,λb _=>h b⟩;have:((Array.range (rs.length*1)).map (z.cells[· %z.cells.size]!))=(((Array.range (rs.length*1)).map (z.cells[· %z.cells.size]!)).toList).toArray:=by rw[xcE]
 rw[this];refine iz _ _ _ ?_;exact qv rs 0 [] _ hr rfl zI
def Jd(P:Program)(T:TypeId):Bool:=match P.underlying T with
 |some (.interface _)=>false
 |some _=>true
 |Option.none=>false
theorem bS.O9{o:Oper}{ρ:Operand->zV}{k:zV->Prop}{x:Operand}{xT T:TypeId}{v:zV}(ho:o.op=.typeAssert x xT T true)(hx:ρ x=.iface T v)(hd:Jd P T=true)
 (hk:k (.tuple #[v,.bool true])):bS P g o ρ H k:=by
 unfold Jd at hd;cases hu:P.underlying T with
 |none=>rw[hu]at hd;cases hd
 |some d=>
  refine bS.assert ho hx hu (λm h=>?_) hk;subst h;rw[hu]at hd;cases hd
end
end Go.Sx
namespace Go.Proofs.Fm
inductive Tr
 |c(k:Nat)
 |v(n:Nat)
 |no(a:Tr)
 |bin(k:Nat)(a b:Tr)
 |ite(a b c:Tr)
inductive Rs
 |ok(t:Tr)(l:List Tok)
 |bad(p e:Nat)
inductive Gl
 |kB(lv dp:Nat)(l:List Tok)
 |more(lv dp:Nat)(a:Tr)(l:List Tok)
 |tight(dp:Nat)(l:List Tok)
inductive Pl
 |done(r:Rs)
 |call(g:Gl)(k:Rs->Pl)
def Rs.thn(r:Rs)(f:Tr->List Tok->Pl):Pl:=
 match r with
 | .ok t l=>f t l
 | .bad p e=>.done (.bad p e)
def Rs.eW(r:Rs)(k:Nat)(f:Tr->List Tok->Pl):Pl:=r.thn λt l=>
 match l with
 | []=>.done (.bad 0 14)
 |x::l'=>if x.k=k then f t l' else .done (.bad x.p 14)
def iH:Nat->Nat
 |0=>9
 |1=>8
 |2=>7
 |3=>6
 |_=>5
def jX(n:Nat):Gl->Pl
 | .kB lv dp l=>if lv=5 then .call (.tight dp l) .done else .call (.kB (lv+1) dp l) λr=>r.thn λa l1=>.call (.more lv dp a l1) .done
 | .more lv dp a []=>.done (.bad 0 14)
 | .more lv dp a (x::l)=>
  if x.k=iH lv then
   if iH lv=8 then .call (.kB lv dp l) λr=>r.thn λb l2=>.done (.ok (.bin 8 a b) l2)
   else .call (.kB (lv+1) dp l) λr=>r.thn λb l2=>.call (.more lv dp (.bin (iH lv) a b) l2) .done
  else .done (.ok a (x::l))
 | .tight dp []=>.done (.bad 0 14)
 | .tight dp (x::l)=>
  if x.k=1\/x.k=2 then .done (.ok (.c x.k) l)
  else if x.k=3 then(if n<=x.v then .done (.bad x.p 2)else .done (.ok (.v x.v) l))
  else if x.k=4 then(if 1000<=dp then .done (.bad x.p 7)else .call (.tight (dp+1) l) λr=>r.thn λa l2=>.done (.ok (.no a) l2))
  else if x.k=10 then(if 1000<=dp then .done (.bad x.p 7)else .call (.kB 0 (dp+1) l) λr=>r.eW 11 λa l2=>.done (.ok a l2))
  else if x.k=12 then(if 1000<=dp then .done (.bad x.p 7)else .call (.kB 0 (dp+1) l) λr=>r.eW 13 λa l2=>.call (.kB 0 (dp+1) l2) λr=>r.eW 14 λb l3=>.call (.kB 0 (dp+1) l3) λr=>r.eW 15 λc l4=>.done (.ok (.ite a b c) l4))
  else .done (.bad x.p 14)
inductive Ev(n:Nat):Pl->Rs->Prop
 |done {r:Rs}:Ev n (.done r) r
 |call {g:Gl} {k:Rs->Pl} {r r2:Rs}:Ev n (jX n g) r->Ev n (k r) r2->Ev n (.call g k) r2
theorem Ev.uniq{n:Nat}{p:Pl}{r r':Rs}(h:Ev n p r)(h':Ev n p r'):r=r':=by
 induction h generalizing r' with
 |done=>cases h';rfl
 |call _ _ i1 i2=>
  cases h' with
  |call a b=>
   have:=i1 a;subst this;exact i2 b
def Rs.fit:Rs->Prop
 | .ok _ _=>True
 | .bad _ e=>e≠0
inductive Pl.Fit:Pl->Prop
 |done {r:Rs}:r.fit->Fit (.done r)
 |call {g:Gl} {k:Rs->Pl}:(∀r,r.fit->Fit (k r))->Fit (.call g k)
theorem Pl.Fit.thn{r:Rs}{f:Tr->List Tok->Pl}(hr:r.fit)(h:∀t l,Fit (f t l)):Fit (r.thn f):=by
 cases r with
 |ok t l=>exact h t l
 |bad p e=>exact .done hr
theorem Pl.Fit.eW{r:Rs}{k:Nat}{f:Tr->List Tok->Pl}(hr:r.fit)(h:∀t l,Fit (f t l)):Fit (r.eW k f):=by
 refine .thn hr λt l=>?_;cases l with
 |nil=>exact .done (by show(14:Nat)≠0;decide)
 |cons x l=>
  show Fit (if x.k=k then _ else _);split
  ·exact h t l
  exact .done (by show(14:Nat)≠0;decide)
theorem Jm(n:Nat)(g:Gl):(jX n g).Fit:=by
 have D:∀(p e:Nat),e≠0->Pl.Fit (.done (.bad p e)):=λp e h=>.done h;have O:∀t l,Pl.Fit (.done (.ok t l)):=λt l=>.done trivial;cases g with
 |kB lv dp l=>
  show Pl.Fit (if lv=5 then _ else _);split
  ·exact .call λr h=>.done h
  exact .call λr h=>.thn h λt l=>.call λr h=>.done h
 |more lv dp a l=>
  cases l with
  |nil=>exact D _ _ zD
  |cons x l=>
   show Pl.Fit (if x.k=iH lv then(if iH lv=8 then _ else _)else _);split
   ·split
    ·exact .call λr h=>.thn h λt l=>O _ _
    exact .call λr h=>.thn h λt l=>.call λr h=>.done h
   exact O _ _
 |tight dp l=>
  cases l with
  |nil=>exact D _ _ zD
  |cons x l=>
   unfold jX
   repeat' split
   all_goals first
    |exact O _ _
    |exact D _ _ zD
    |exact .call λr h=>.thn h λt l=>O _ _
    |exact .call λr h=>.eW h λt l=>O _ _
    |exact .call λr h=>.eW h λt l=>.call λr h=>.eW h λt l=>.call λr h=>.eW h λt l=>O _ _
    |exact .call λr h=>.done h
    |exact .call λr h=>.thn h λt l=>.call λr h=>.done h
theorem Ev.fit{n:Nat}{p:Pl}{r:Rs}(h:Ev n p r)(hp:p.Fit):r.fit:=by
 induction h with
 |done=>cases hp with|done h=>exact h
 |call _ _ i1 i2=>cases hp with|call h=>exact i2 (h _ (i1 (Jm n _)))
def o7(l:List Tok):Prop:=∃i t,l=i++[t]/\(t.k=0\/t.k=16)/\∀u∈i,u.k≠0/\u.k≠16
theorem o7.tail{x:Tok}{l:List Tok}(h:o7 (x::l))(h0:x.k≠0)(h1:x.k≠16):o7 l:=by
 obtain⟨i,t,e,ht,hi⟩:=h;cases i with
 |nil=>
  simp only[xaW,xau]at e;obtain⟨rfl,rfl⟩:=e;omega
 |cons y i=>
  simp only[xaN,xau]at e;obtain⟨rfl,rfl⟩:=e;exact⟨i,t,rfl,ht,λu hu=>hi u (.tail _ hu)⟩
theorem o7.split{l:List Tok}(h:o7 l):∃x l',l=x::l':=by
 obtain⟨i,t,rfl,_⟩:=h;cases i with
 |nil=>exact⟨_,_,rfl⟩
 |cons y i=>exact⟨_,_,rfl⟩
inductive Reads(n:Nat)(l:List UInt8):Rs->Prop
 |JJ:65536<l.length->Reads n l (.bad 0 13)
 |mk {o:List Tok} {r:Rs}:l.length<=65536->eA 0 l o->Ev n (.call (.kB 0 0 o) λr=>r.eW 0 λt l'=>.done (.ok t l')) r->Reads n l r
theorem Reads.fit{n:Nat}{l:List UInt8}{p e:Nat}(h:Reads n l (.bad p e)):e≠0:=by
 cases h with
 |JJ _=>decide
 |mk _ _ h=>exact h.fit (.call λr hr=>.eW hr λt l=>.done trivial)
theorem Reads.uniq{n:Nat}{l:List UInt8}{r r':Rs}(h:Reads n l r)(h':Reads n l r'):r=r':=by
 cases h with
 |JJ h=>
  cases h' with
  |JJ _=>rfl
  |mk h' _ _=>omega
 |mk h h1 h2=>
  cases h' with
  |JJ h'=>omega
  |mk _ h3 h4=>
   have:=h1.uniq h3;subst this;exact h2.uniq h4
end Go.Proofs.Fm
set_option maxRecDepth 100000
namespace Go.Proofs
open Go Go.Sx Tryz
section
open Fm
abbrev xF(rb:Nat)(v:zV)(n:Nat):Nat×Obj:=(rb,.cells #[v,nI n] 127 zZ)
abbrev bE(b:Nat):zV:=.pointer (some ⟨b,0,none⟩)
def Te(p e:Nat):List PanicEntry:=[{v:=.iface 121 (.agg #[nI p,nI e]),recovered:=false}]
inductive pZ(H:Hp):Tr->zV->Prop
 |c {k b:Nat}:(b,.cells #[nI k,nI 0,.slice none 0 0] 134 zZ)∈H->pZ H (.c k) (bE b)
 |v {n b:Nat}:(b,.cells #[nI 3,nI n,.slice none 0 0] 134 zZ)∈H->pZ H (.v n) (bE b)
 |no {a:Tr} {b d x:Nat}:(b,.cells #[nI 4,nI 0,.slice (some ⟨d,0,none⟩) 1 1] 134 zZ)∈H->(d,.cells #[bE x] 76 zZ)∈H->pZ H a (bE x)->pZ H (.no a) (bE b)
 |bin {k:Nat} {a a':Tr} {b d x y:Nat}:(b,.cells #[nI k,nI 0,.slice (some ⟨d,0,none⟩) 2 2] 134 zZ)∈H->(d,.cells #[bE x,bE y] 76 zZ)∈H->pZ H a (bE x)->pZ H a' (bE y)->pZ H (.bin k a a') (bE b)
 |ite {a a' a2:Tr} {b d x y z:Nat}:(b,.cells #[nI 12,nI 0,.slice (some ⟨d,0,none⟩) 3 3] 134 zZ)∈H->(d,.cells #[bE x,bE y,bE z] 76 zZ)∈H->pZ H a (bE x)->pZ H a' (bE y)->pZ H a2 (bE z)->pZ H (.ite a a' a2) (bE b)
theorem pZ.ptr{H:Hp}{t:Tr}{p:zV}(h:pZ H t p):∃b,p=bE b:=by cases h<;>exact⟨_,rfl⟩
theorem pZ.mono{H H':Hp}{t:Tr}{p:zV}(h:pZ H t p)(hs:∀x∈H,x∈H'):pZ H' t p:=by
 induction h with
 |c h=>exact .c (hs _ h)
 |v h=>exact .v (hs _ h)
 |no h1 h2 _ i1=>exact .no (hs _ h1) (hs _ h2) i1
 |bin h1 h2 _ _ i1 i2=>exact .bin (hs _ h1) (hs _ h2) i1 i2
 |ite h1 h2 _ _ _ i1 i2 i3=>exact .ite (hs _ h1) (hs _ h2) i1 i2 i3
section
variable {rb n:Nat} {B:Hp} {v:zV} {x:Tok} {l:List Tok}
theorem Lo(h:Sl 3 B v ((x::l).map Tok.cells)):Rd zQ 102 #[bE rb] (xF rb v n::B) (· =.agg x.cells.toArray):=by
 refine aS λg=>Ds λb1 _=>Nil.ptr (Ld.u (.tail _ (.head _)) ?_);refine aj.sl (i:=0) h rfl λp hp=>?_;refine av.at hp rfl zD (λy hy=>.tail _ (.tail _ hy)) (St.whole (.head _) rfl rfl (Tok.one _) (av.whole (.head _) rfl (bX.mk .tail rfl)))
theorem sE(h:Sl 3 B v ((x::l).map Tok.cells)):Fc zQ 103 #[bE rb] (xF rb v n::B) (λr H=>r=.agg x.cells.toArray/\∃v',H=xF rb v' n::B/\Sl 3 B v' (l.map Tok.cells)):=by
 refine aS λg=>Dr λb1 _=>Nil.ptr (Ld.u (.tail _ (.head _)) ?_);refine aj.sl (i:=0) h rfl λp hp=>?_;refine av.at hp rfl zD (λy hy=>.tail _ (.tail _ hy)) λb8 _=>St.whole (.head _) rfl rfl (Tok.one _) (Nil.ptr (Ld.u (.tail _ (.tail _ (.head _))) ?_));refine dD.tail h λv' h'=>Nil.ptr (.mk (St.one (c':=#[v',nI n]) (.tail (.tail (.head _))) (by obtain⟨a,c,rfl,_⟩:=h'.shape;rfl) zI rfl ?_));exact av.whole (.head _) rfl (St.whole (.tail (.head _)) rfl rfl (Tok.one _) (av.whole (.tail _ (.head _)) rfl (aN.mk (.skip .tail) ⟨rfl,v',rfl,h'⟩)))
theorem oF(x:Tok)(e:Nat)(B:Hp):Sr zQ 104 #[.agg x.cells.toArray,nI e] B (λ_ _=>False) (λc H=>H=B/\c=Te x.p e):=by
 refine VC λg=>Dq λb1 _=>Ld.u (.head _) (Build.mk (cs:=[nI x.p,nI e]) zK ?_);exact dF.panic rfl rfl (qR.AJ .tail ⟨rfl,rfl⟩)
theorem Lx(x:Tok)(dp:Nat)(hd:dp<=1000)(B:Hp):Sr zQ 133 #[.agg x.cells.toArray,nI dp] B (λr H=>¬1000<=dp/\H=B/\r=nI (dp+1)) (λc H=>1000<=dp/\H=B/\c=Te x.p 7):=by
 refine VC λg=>CI λb1 _ J3 h3=>ae.pN (b:=1000) (Br.dec (λh=>?_) (λh=>?_))
 ·refine av.whole (.head _) rfl (aa.fp .here (oF x 7 _) (λv C' h=>h.elim) λch C' h'=>?_);obtain⟨rfl,rfl⟩:=h';exact qR.AJ .tail ⟨h,rfl,rfl⟩
 exact JE.mk (h3 _ λ_=>ae.inc (qR.ret .tail ⟨h,rfl,rfl⟩))
theorem yS(k:Nat)(h:Sl 3 B v ((x::l).map Tok.cells)):Sr zQ 59 #[bE rb,nI k] (xF rb v n::B) (λr H=>x.k=k/\∃v',H=xF rb v' n::B/\Sl 3 B v' (l.map Tok.cells)) (λc H=>x.k≠k/\H=B/\c=Te x.p 14):=by
 refine VC λg=>Hu (aa.fn .here (sE h) ?_);rintro _ _ ⟨rfl,v',rfl,h'⟩;refine λb3 _=>St.whole (.head _) rfl rfl (Tok.one _) (Ld.u (.head _) (ae.nU (Br.dec (λhk=>?_) (λhk=>?_))))
 ·refine av.whole (.head _) rfl (aa.fp .here (oF x 14 _) (λv C' h=>h.elim) λch C' hc=>?_);obtain⟨rfl,rfl⟩:=hc;exact qR.AJ (.skip .tail) ⟨hk,rfl,rfl⟩
 exact qR.ret .tail ⟨Decidable.not_not.1 hk,v',rfl,h'⟩
theorem Lh(lv:Nat)(hl:lv<5)(B:Hp):Rd zQ 101 #[nI lv] B (· =nI (iH lv)):=by
 refine aS λg=>Dt ?_;refine ai.pU (e:=130) (z:=nI 0) [nI 9,nI 8,nI 7,nI 6,nI 5] zK zK zK zD zD rfl rfl λb=>?_;refine aj.nat hl (Ld.mk (v:=nI (iH lv)) (.head _) ?_ (bX.mk .tail rfl))
 match lv,hl with
 |0,_=>rfl
 |1,_=>rfl
 |2,_=>rfl
 |3,_=>rfl
 |4,_=>rfl
end
end
section
open Fm
def PQ(n rb:Nat)(B:Hp)(l:List Tok)(g:Gl)(p:zV)(H:Hp):Prop:=∃t l' v' N,Ev n (jX n g) (.ok t l')/\o7 l'/\l'.length<=l.length/\Sl 3 B v' (l'.map Tok.cells)/\H=N++(xF rb v' n::B)/\pZ N t p
def PB(n:Nat)(B:Hp)(g:Gl)(c:List PanicEntry)(H:Hp):Prop:=∃p e,Ev n (jX n g) (.bad p e)/\H=B/\c=Te p e
def TX(m:Nat):Prop:=∀(n lv dp rb:Nat) (l:List Tok) (v:zV) (B:Hp),l.length*8+(6-lv)<=m->lv<=5->dp<=1000->o7 l->Sl 3 B v (l.map Tok.cells)->
 Sr zQ 58 #[bE rb,nI lv,nI dp] (xF rb v n::B) (PQ n rb B l (.kB lv dp l)) (PB n B (.kB lv dp l))
def TG(m:Nat):Prop:=∀(n dp rb:Nat) (l:List Tok) (v:zV) (B:Hp),l.length*8<=m->dp<=1000->o7 l->Sl 3 B v (l.map Tok.cells)->
 Sr zQ 100 #[bE rb,nI dp] (xF rb v n::B) (PQ n rb B l (.tight dp l)) (PB n B (.tight dp l))
def Np:Hp->Nat
 |(_,.cells c _ _)::_=>(match(c[0]? :Option zV)with
  |some (Value.slice _ k _)=>k
  |_=>0)
 |_=>0
theorem DL{rb n:Nat}{v:zV}{l:List Tok}{B X:Hp}(h:Sl 3 B v (l.map Tok.cells)):Np (xF rb v n::X)=l.length:=by
 obtain⟨a,c,rfl,_⟩:=h.shape;show(l.map Tok.cells).length=_;simp
theorem DI(lv:Nat):iH lv≠0/\iH lv≠16:=by
 match lv with
 |0=>decide
 |1=>decide
 |2=>decide
 |3=>decide
 |n+4=>exact⟨by show(5:Nat)≠0;decide,by show(5:Nat)≠16;decide⟩
theorem Fm.Ev.more{n lv dp:Nat}{l:List Tok}{a:Tr}{l1:List Tok}(hl:lv≠5)(h:Ev n (jX n (.kB (lv+1) dp l)) (.ok a l1)){r:Rs}(h2:Ev n (jX n (.more lv dp a l1)) r):Ev n (jX n (.kB lv dp l)) r:=by
 show Ev n (if lv=5 then _ else _) r;rw[xad hl];exact .call h (.call h2 .done)
theorem rO(N B:Hp)(x:Nat×Obj):aG (x::(N++B)) (N++(x::B)):=.perm (xa6.symm)
theorem pz(N B:Hp)(x:Nat×Obj):aG (N++(x::B)) (x::(N++B)):=.perm xa6
set_option maxHeartbeats 1000000 in
theorem Fe(m:Nat)(hx:TX m)(hg:TG m):TX (m+1):=by
 intro n lv dp rb l v B hm hlv Oj hf hs;refine VC λg=>Hv ?_;refine ae.bA (b:=5) (Br.dec (λh5=>?_) (λh5=>?_))
 ·subst h5;refine aa.fp .here (hg n dp rb l v B zO Oj hf hs) ?_ ?_
  ·rintro p _ ⟨t,l',v',N,h1,h2,h3,h4,rfl,h5⟩;exact qR.ret (.refl _) ⟨t,l',v',N,.call h1 .done,h2,h3,h4,rfl,h5⟩
  rintro c _ ⟨p,e,h1,rfl,rfl⟩;exact qR.AJ (.refl _) ⟨p,e,.call h1 .done,rfl,rfl⟩
 have hl5:lv<5:=by omega
 refine aa.eq (Lh lv hl5 _) (ae.inc ?_);refine aa.fp .here (hx n (lv+1) dp rb l v B zO zO Oj hf hs) ?_ ?_;rotate_left
 ·rintro c _ ⟨p,e,h1,rfl,rfl⟩;refine qR.AJ (.refl _) ⟨p,e,?_,rfl,rfl⟩;show Ev n (if lv=5 then _ else _) _;rw[xad h5];exact .call h1 .done
 rintro p _ ⟨t,l',v',N,h1,h2,h3,h4,rfl,h6⟩;refine⟨λvs H=>∃a l1 v1 N p,vs=[p]/\H=xF rb v1 n::(N++B)/\pZ N a p/\o7 l1/\l1.length<=l.length/\Sl 3 B v1 (l1.map Tok.cells)/\(∀r,Ev n (jX n (.more lv dp a l1)) r->Ev n (jX n (.kB lv dp l)) r),
  λ_ H=>Np H,JE.of (pz N B _) ⟨t,l',v',N,p,rfl,rfl,h6,h2,h3,h4,λr hr=>Ev.more h5 h1 hr⟩,?_⟩
 clear h1 h2 h3 h4 h6;rintro W3 H ⟨a,l1,v1,N,_,⟨⟩,rfl,ha,Ir,xd,hs1,wz⟩ gs;obtain⟨x,l2,rfl⟩:=Ir.split;refine aa.eq (Lo (n:=n) (rb:=rb) (hs1.mono (B':=N++B) λy hy=>xaa _ hy)) (Iz.mk rfl (ae.bA (Br.dec (λhk=>?_) (λhk=>?_))));rotate_left
 ·refine qR.ret (rO N B _) ⟨a,x::l2,v1,N,wz _ ?_,Ir,xd,hs1,rfl,ha⟩;show Ev n (if x.k=iH lv then _ else _) _;rw[xad hk];exact .done
 have A3:o7 l2:=Ir.tail (by rw[hk];exact(DI lv).1) (by rw[hk];exact(DI lv).2);have qp:l2.length+1<=l.length:=xd;refine aa.pre (rO N B _) (aa.fn (.app .here) (sE hs1) ?_);rintro _ _ ⟨rfl,v2,rfl,mZ⟩;refine ae.bA (b:=8) (Br.dec (λh8=>?_) (λh8=>?_))
 ·refine aa.fp (.app .here) (hx n lv dp rb l2 v2 B zO hlv Oj A3 mZ) ?_ ?_;rotate_left
  ·rintro c _ ⟨p,e,h1,rfl,rfl⟩;refine qR.AJ .right ⟨p,e,wz _ ?_,rfl,rfl⟩;show Ev n (if x.k=iH lv then _ else _) _;rw[xae hk,xae h8];exact .call h1 .done
  rintro p _ ⟨b,l3,v3,N2,h1,h2,h3,h4,rfl,h6⟩;obtain⟨pa,rfl⟩:=ha.ptr;obtain⟨pb,rfl⟩:=h6.ptr;refine ai.pU (e:=76) (z:=.pointer none) [bE pa,bE pb] zK zK zK (show(2:Nat)<=16777216 by decide) (by simp[Value.oneCell']) rfl rfl λbd=>?_;refine Build.mk (cs:=[nI 8,nI 0,.slice (some ⟨bd,0,none⟩) 2 2]) zK λbt _=>?_;refine qR.ret (.refl _) ⟨.bin 8 a b,l3,v3,(bt,_)::(bd,_)::(N++N2),wz _ ?_,h2,by omega,h4,by simp;rfl,.bin (.head _) (.tail _ (.head _)) (ha.mono λy hy=>?_) (h6.mono λy hy=>?_)⟩
  ·show Ev n (if x.k=iH lv then _ else _) _;rw[xae hk,xae h8];exact .call h1 .done
  ·exact .tail _ (.tail _ (xac _ hy))
  exact .tail _ (.tail _ (xaa _ hy))
 refine ae.inc (aa.fp (.app .here) (hx n (lv+1) dp rb l2 v2 B zO zO Oj A3 mZ) ?_ ?_);rotate_left
 ·rintro c _ ⟨p,e,h1,rfl,rfl⟩;refine qR.AJ .right ⟨p,e,wz _ ?_,rfl,rfl⟩;show Ev n (if x.k=iH lv then _ else _) _;rw[xae hk,xad h8];exact .call h1 .done
 rintro p _ ⟨b,l3,v3,N2,h1,h2,h3,h4,rfl,h6⟩;obtain⟨pa,rfl⟩:=ha.ptr;obtain⟨pb,rfl⟩:=h6.ptr;refine ai.pU (e:=76) (z:=.pointer none) [bE pa,bE pb] zK zK zK (show(2:Nat)<=16777216 by decide) (by simp[Value.oneCell']) rfl rfl λbd=>?_;refine Build.mk (cs:=[nI (iH lv),nI 0,.slice (some ⟨bd,0,none⟩) 2 2]) zK λbt _=>?_;refine az.of (H':=xF rb v3 n::(((bt,.cells #[nI (iH lv),nI 0,.slice (some ⟨bd,0,none⟩) 2 2] 134 zZ)::(bd,.cells #[bE pa,bE pb] 76 zZ)::(N++N2))++B)) (.trans ?_ (pz _ B _)) ⟨.bin (iH lv) a b,l3,v3,_,_,rfl,rfl,.bin (.head _) (.tail _ (.head _)) (ha.mono λy hy=>?_) (h6.mono λy hy=>?_),h2,by omega,h4,λr hr=>wz _ ?_⟩ ?_
 ·simp only[xaN,xaj];exact .refl _
 ·exact .tail _ (.tail _ (xac _ hy))
 ·exact .tail _ (.tail _ (xaa _ hy))
 ·show Ev n (if x.k=iH lv then _ else _) _;rw[xae hk,xad h8];exact .call h1 (.call hr .done)
 rw[DL h4,DL hs1];simp only[xar];omega
set_option maxHeartbeats 1600000 in
theorem Aq(m:Nat)(hx:TX m)(hg:TG m):TG (m+1):=by
 intro n dp rb l v B hm Oj hf hs;obtain⟨x,l,rfl⟩:=hf.split;have hlen:(x::l).length=l.length+1:=rfl;refine VC λg=>Du (aa.fn .here (sE hs) ?_);rintro _ _ ⟨rfl,v1,rfl,hs1⟩;refine λb3 _=>St.whole (r:=x.cells) (.head _) rfl rfl (Tok.one _) (Ld.u (.head _) λJ8 h8=>?_);have ret:∀(t:Tr) (l':List Tok) (v':zV) (N:Hp) (p:zV) (H:Hp),Ev n (jX n (.tight dp (x::l))) (.ok t l')->o7 l'->l'.length<=l.length->Sl 3 B v' (l'.map Tok.cells)->aG H (N++(xF rb v' n::B))->pZ N t p->qR (PQ n rb B (x::l) (.tight dp (x::l))) (PB n B (.tight dp (x::l))) (.returned p) H:=
  λt l' v' N p H h1 h2 h3 h4 h5 h6=>qR.ret h5 ⟨t,l',v',N,h1,h2,Nat.le_succ_of_le h3,h4,rfl,h6⟩
 have AJ:∀(c:List PanicEntry) (p e:Nat) (H:Hp),Ev n (jX n (.tight dp (x::l))) (.bad p e)->aG H B->c=Te p e->cK (qR (PQ n rb B (x::l) (.tight dp (x::l))) (PB n B (.tight dp (x::l)))) c H:=
  λc p e H h1 h2 h3=>qR.AJ h2 ⟨p,e,h1,rfl,h3⟩
 have main:∀t,t=decide (x.k=1\/x.k=2)->JE J8 [.bool t] ((b3,.cells x.cells.toArray 162 zZ)::(xF rb v1 n::B)):=by
  rintro _ rfl;refine JE.mk (h8 _ _ λ_=>Br.dec (λhk=>?_) (λhk=>?_))
  ·refine Ld.u (.head _) (Build.mk (cs:=[nI x.k,nI 0,.slice none 0 0]) zK λbt _=>?_);refine ret (.c x.k) l v1 [_] _ _ ?_ (hf.tail zO zO) (xak _) hs1 (.trans aG.swap .tail) (.c (.head _));show Ev n (if x.k=1\/x.k=2 then _ else _) _;rw[xae hk];exact .done
  have pl:∀q,(if x.k=3 then(if n<=x.v then Pl.done (.bad x.p 2)else .done (.ok (.v x.v) l))
   else if x.k=4 then(if 1000<=dp then .done (.bad x.p 7)else .call (.tight (dp+1) l) λr=>r.thn λa l2=>.done (.ok (.no a) l2))
   else if x.k=10 then(if 1000<=dp then .done (.bad x.p 7)else .call (.kB 0 (dp+1) l) λr=>r.eW 11 λa l2=>.done (.ok a l2))
   else if x.k=12 then(if 1000<=dp then .done (.bad x.p 7)else .call (.kB 0 (dp+1) l) λr=>r.eW 13 λa l2=>.call (.kB 0 (dp+1) l2) λr=>r.eW 14 λb l3=>.call (.kB 0 (dp+1) l3) λr=>r.eW 15 λc l4=>.done (.ok (.ite a b c) l4))
   else .done (.bad x.p 14))=q->jX n (.tight dp (x::l))=q:=λq hq=>by
   rw[<-hq];show(if x.k=1\/x.k=2 then _ else _)=_;rw[xad hk]
  clear h8;refine ae.bA (b:=3) (Br.dec (λh3=>?_) (λh3=>?_))
  ·rw[xae h3]at pl;refine λJ18 h18=>Ld.u (.head _) (Nil.ptr (Ld.u (.tail _ (.head _)) (ae.pN (Br.dec (λhv=>?_) (λhv=>?_)))))
   ·refine av.whole (.head _) rfl (aa.fp .here (oF x 2 _) (λv C' h=>h.elim) λch C' h'=>?_);obtain⟨rfl,rfl⟩:=h';refine AJ _ x.p 2 _ ?_ (.skip .tail) rfl;rw[pl _ rfl,xae hv];exact .done
   refine JE.mk (h18 _ λ_=>Ld.u (.head _) (Build.mk (cs:=[nI 3,nI x.v,.slice none 0 0]) zK λbt _=>?_));refine ret (.v x.v) l v1 [_] _ _ ?_ (hf.tail zO zO) (xak _) hs1 (.trans aG.swap .tail) (.v (.head _));rw[pl _ rfl,xad hv];exact .done
  rw[xad h3]at pl;have deep:∀{KK:zV->Hp->Prop},(x.k=4\/x.k=10\/x.k=12)->(¬1000<=dp->KK (nI (dp+1)) ((b3,.cells x.cells.toArray 162 zZ)::(xF rb v1 n::B)))->aa zQ g 133 #[.agg x.cells.toArray,nI dp] ((b3,.cells x.cells.toArray 162 zZ)::(xF rb v1 n::B)) KK (cK (qR (PQ n rb B (x::l) (.tight dp (x::l))) (PB n B (.tight dp (x::l))))):=by
   intro KK hk4 hK;refine aa.fp .here (Lx x dp Oj _) ?_ ?_
   ·rintro r _ ⟨h1,rfl,rfl⟩;exact hK h1
   rintro c _ ⟨h1,rfl,rfl⟩;refine AJ _ x.p 7 _ ?_ (.skip .tail) rfl;rw[pl _ rfl];rcases hk4 with h|h|h<;>rw[h]<;>simp[h1]<;>exact .done
  have hft:x.k≠0->x.k≠16->o7 l:=λh0 h1=>hf.tail h0 h1;refine ae.bA (b:=4) (Br.dec (λh4=>?_) (λh4=>?_))
  ·rw[xae h4]at pl;refine av.whole (.head _) rfl (deep (.inl h4) λhd=>?_);rw[xad hd]at pl;refine aa.fp (.cons .here) (hg n (dp+1) rb l v1 B zO zO (hft zO zO) hs1) ?_ ?_;rotate_left
   ·rintro c _ ⟨p,e,h1,rfl,rfl⟩;refine AJ _ p e _ ?_ .tail rfl;rw[pl _ rfl];exact .call h1 .done
   rintro p _ ⟨a,l',v',N,h1,h2,h3,h5,rfl,h6⟩;obtain⟨pa,rfl⟩:=h6.ptr;refine ai.pU (e:=76) (z:=.pointer none) [bE pa] zK zK zK (show(1:Nat)<=16777216 by decide) (by simp[Value.oneCell']) rfl rfl λbd=>?_;refine Build.mk (cs:=[nI 4,nI 0,.slice (some ⟨bd,0,none⟩) 1 1]) zK λbt _=>?_;refine ret (.no a) l' v' ((bt,_)::(bd,_)::N) _ _ ?_ h2 h3 h5 (.cons (.cons .tail)) (.no (.head _) (.tail _ (.head _)) (h6.mono λy hy=>.tail _ (.tail _ hy)));rw[pl _ rfl];exact .call h1 .done
  rw[xad h4]at pl
  /- one part, and the sign behind it -/
  have part:∀(k:Nat) (l0:List Tok) (v0:zV) (N0:Hp) (f:Tr->List Tok->Pl) (KK:zV->Hp->Prop),k≠0->k≠16->¬1000<=dp->o7 l0->l0.length<=l.length->Sl 3 B v0 (l0.map Tok.cells)->
   (∀(r:Rs),Ev n (.call (.kB 0 (dp+1) l0) λr=>r.eW k f) r->Ev n (jX n (.tight dp (x::l))) r)->
   (∀a l' v' N p,(∀r,Ev n (f a l') r->Ev n (.call (.kB 0 (dp+1) l0) λr=>r.eW k f) r)->o7 l'->l'.length<=l0.length->Sl 3 B v' (l'.map Tok.cells)->pZ N a p->KK p (N0++(N++(xF rb v' n::B))))->
   aa zQ g 58 #[bE rb,nI 0,nI (dp+1)] (N0++(xF rb v0 n::B)) (λp H=>aa zQ g 59 #[bE rb,nI k] H (λ_ H'=>KK p H') (cK (qR (PQ n rb B (x::l) (.tight dp (x::l))) (PB n B (.tight dp (x::l))))))
    (cK (qR (PQ n rb B (x::l) (.tight dp (x::l))) (PB n B (.tight dp (x::l))))):=by
   intro k l0 v0 N0 f KK k0 k16 hd hf0 hl0 hs0 wz hK;refine aa.fp (.app .here) (hx n 0 (dp+1) rb l0 v0 B zO zO zO hf0 hs0) ?_ ?_;rotate_left
   ·rintro c _ ⟨p,e,h1,rfl,rfl⟩;exact AJ _ p e _ (wz _ (.call h1 .done)) .right rfl
   rintro p _ ⟨a,l',v',N,h1,h2,h3,h5,rfl,h6⟩;obtain⟨y,l2,rfl⟩:=h2.split;refine aa.fp (.app (.app .here)) (yS k h5) ?_ ?_;rotate_left
   ·rintro c _ ⟨hk,rfl,rfl⟩;refine AJ _ y.p 14 _ (wz _ (.call h1 ?_)) (.eE .right) rfl;show Ev n (if y.k=k then _ else _) _;rw[xad hk];exact .done
   rintro r _ ⟨hk,v2,rfl,mZ⟩;refine hK a l2 v2 N p (λr hr=>.call h1 ?_) (h2.tail zO zO) (by have:=h3;simp only[xar]at this;omega) mZ h6;show Ev n (if y.k=k then _ else _) _;rw[xae hk];exact hr
  refine ae.bA (b:=10) (Br.dec (λh10=>?_) (λh10=>?_))
  ·rw[xae h10]at pl;refine av.whole (.head _) rfl (deep (.inr (.inl h10)) λhd=>?_);rw[xad hd]at pl;refine part 11 l v1 [_] (λa l2=>.done (.ok a l2)) _ zD zD hd (hft zO zO) (xak _) hs1 (λr hr=>by rw[pl _ rfl];exact hr) λa l' v' N p wz wy hl' hs' ht=>?_;refine ret a l' v' N _ _ ?_ wy hl' hs' .tail ht;rw[pl _ rfl];exact wz _ .done
  rw[xad h10]at pl;refine ae.bA (b:=12) (Br.dec (λh12=>?_) (λh12=>?_))
  ·rw[xae h12]at pl;refine av.whole (.head _) rfl (deep (.inr (.inr h12)) λhd=>?_);rw[xad hd]at pl;refine part 13 l v1 [_] _ _ zD zD hd (hft zO zO) (xak _) hs1 (λr hr=>by rw[pl _ rfl];exact hr) λa l2 v2 N p Zs A3 qp mZ N8=>?_;rw[<-xaj];refine part 14 l2 v2 _ _ _ zD zD hd A3 qp mZ (λr hr=>by rw[pl _ rfl];exact Zs _ hr) λb l3 v3 N2 p2 ev2 Yv X8 Wi Kf=>?_;rw[<-xaj];refine part 15 l3 v3 _ _ _ zD zD hd Yv zO Wi (λr hr=>by rw[pl _ rfl];exact Zs _ (ev2 _ hr)) λc l4 v4 N3 p3 ev3 ML hl4 hs4 D9=>?_;obtain⟨pa,rfl⟩:=N8.ptr;obtain⟨pb,rfl⟩:=Kf.ptr;obtain⟨pc,rfl⟩:=D9.ptr;refine ai.pU (e:=76) (z:=.pointer none) [bE pa,bE pb,bE pc] zK zK zK (show(3:Nat)<=16777216 by decide) (by simp[Value.oneCell']) rfl rfl λbd=>?_;refine Build.mk (cs:=[nI 12,nI 0,.slice (some ⟨bd,0,none⟩) 3 3]) zK λbt _=>?_;refine ret (.ite a b c) l4 v4 ((bt,_)::(bd,_)::(N++(N2++N3))) _ _ ?_ ML zO hs4 ?_ (.ite (.head _) (.tail _ (.head _)) (N8.mono λy hy=>?_) (Kf.mono λy hy=>?_) (D9.mono λy hy=>?_))
   ·rw[pl _ rfl];exact Zs _ (ev2 _ (ev3 _ .done))
   ·simp only[xaN,xaj,xaW];exact .cons (.cons .tail)
   ·exact .tail _ (.tail _ (xac _ hy))
   ·exact .tail _ (.tail _ (xaa _ (xac _ hy)))
   exact .tail _ (.tail _ (xaa _ (xaa _ hy)))
  rw[xad h12]at pl;refine av.whole (.head _) rfl (aa.fp .here (oF x 14 _) (λv C' h=>h.elim) λch C' h'=>?_);obtain⟨rfl,rfl⟩:=h';refine AJ _ x.p 14 _ ?_ (.skip .tail) rfl;rw[pl _ rfl];exact .done
 refine ae.bA (b:=1) (Br.dec (λh1=>?_) (λh1=>?_))
 ·exact main _ (by simp[h1])
 exact ae.bA (b:=2) (main _ (by simp[h1]))
theorem xu:∀m,TX m/\TG m
 |0=>⟨λn lv dp rb l v B hm hlv _ hf _=>by omega,λn dp rb l v B hm _ hf _=>by
   obtain⟨x,l,rfl⟩:=hf.split;simp only[xar]at hm;omega⟩
 |m+1=>⟨Fe m (xu m).1 (xu m).2,Aq m (xu m).1 (xu m).2⟩
def Sj(g:Gh)(a0 a1 a2 v3:zV)(H:Hp)(K:Hp->Prop):Prop:=
bS zQ g (bY Tryz.f56 1 1) (ev (λs=>cond (Nat.beq s 7) v3 (undef))) H λv5=>
Br v5 (
bS zQ g (bY Tryz.f56 2 1) (ev (λs=>cond (Nat.beq s 10) v3 (undef))) H λv6=>
Ext 0 v6 λv7=>
Ext 1 v6 λv8=>
By H (.cells #[(Value.int .i64 0),(Value.int .i64 0)] 121 zZ) λb9 ZK=>
St 2 ZK (.pointer (some ⟨b9,0,none⟩)) v7 λVX=>
∀WV:Jt,(∀Tu:Hp,(∀adJ:Fr,
DR Tu λWT=>
ah 0 (.pointer (some ⟨b9,0,none⟩)) λv16=>
Ld WT v16 λW8=>
ah 1 (.pointer (some ⟨b9,0,none⟩)) λZT=>
Ld WT ZT λv19=>
St 1 Tu a0 (.pointer none) λH20=>
aG H20 WT/\
St 1 H20 a1 W8 λH21=>
aG H21 WT/\
St 1 H21 a2 v19 λH22=>
K H22)->WV [] Tu)->
Un .not v8 λW7=>
Br W7 (
dF zQ g (bY Tryz.f56 4 1) (ev (λs=>cond (Nat.beq s 16) v3 (undef))) VX (λZS ZJ=>
JE WV [] ZJ) (λ_ _=>∀_:Fr,False)) (
JE WV [] VX)) (
K H)
theorem D0{g:Gh}{a0 a1 a2 v:zV}{u u':FrameMode}{H:Hp}{K:Hp->Prop}(hu:(u=.returning/\v=.nilIface/\u'=.returning)\/(u=.panicking [{v,recovered:=false}]/\u'=.panicking [{v,recovered:=true}]))
 (h:Sj g a0 a1 a2 v H K):iJ zQ 56 g #[a0,a1,a2] u H K:=by
 refine iJ.rec (args:=[a0,a1,a2]) (hn:=(.n .e (.n (.n .e (.h 1 [] [0,1,2,4] .e (.h 0 [0,1,2,3,4,5,6] [] .e .e))) .e))) func56 rfl rfl rfl rfl rfl rfl rfl rfl rfl rfl rfl hu ?_;refine Eq.mpr (?_:_=Sj g a0 a1 a2 v H K) h;kernel_rfl
theorem JI{g:Gh}{b4 b6 b8 at_ e:Nat}{x4 x6 x8:zV}{X B:Hp}{K:Hp->Prop}
 (hk:∀b9,K ((b9,.cells #[nI at_,nI e] 121 zZ)::(X++((b8,.cells #[nI e] 33 zZ)::(b6,.cells #[nI at_] 3 zZ)::(b4,.cells #[.pointer none] 76 zZ)::B)))):
  Sj g (bE b4) (bE b6) (bE b8) (.iface 121 (.agg #[nI at_,nI e])) (X++((b8,.cells #[x8] 33 zZ)::(b6,.cells #[x6] 3 zZ)::(b4,.cells #[x4] 76 zZ)::B)) K:=by
 refine bS.wm rfl rfl rfl ⟨#[],by kernel_rfl⟩ (.inr ⟨_,_,rfl,rfl⟩) (Br.yes ?_);refine bS.O9 rfl rfl zK (Ext.mk rfl (Ext.mk rfl λb9 _=>St.whole (r:=[nI at_,nI e]) (.head _) rfl rfl (by simp[Value.oneCell']) λWV h12=>?_));refine Un.not (Br.no (JE.mk (h12 _ λ_=>?_)));refine DR.of (.qJ (.head _)) (Ld.u (.head _) (Ld.u (.head _) ?_));refine St.one (c':=#[.pointer none]) (.tail (.bB (.tail (.tail (.head _))) _)) rfl (show(0:Nat)<1 by decide) rfl ⟨.qJ (.head _),?_⟩;refine St.one (c':=#[nI at_]) (.tail (.bB (.tail (.head _)) _)) rfl (show(0:Nat)<1 by decide) rfl ⟨.qJ (.head _),?_⟩;exact St.one (c':=#[nI e]) (.tail (.bB (.head _) _)) rfl (show(0:Nat)<1 by decide) rfl (hk b9)
set_option maxHeartbeats 1000000 in
theorem uX(l:List UInt8)(n:Nat)(B:Hp):Fc zQ 26 #[bI l,nI n] B (λr H=>∃N,H=N++B/\((∃t l' p,Reads n l (.ok t l')/\r=.tuple #[p,nI 0,nI 0]/\pZ N t p)\/∃at_ e,Reads n l (.bad at_ e)/\r=.tuple #[.pointer none,nI at_,nI e])):=by
 refine aS λg=>HW λb4 _ b6 _ b8 _=>dR.of (ae.kG (b:=65536) (Br.dec (λhl=>?_) (λhl=>?_)))
 ·refine St.one (c':=#[.pointer none]) (.tail (.tail (.head _))) rfl (show(0:Nat)<1 by decide) rfl ?_;refine St.one (c':=#[nI 0]) (.tail (.head _)) rfl (show(0:Nat)<1 by decide) rfl ?_;refine St.one (c':=#[nI 13]) (.head _) rfl (show(0:Nat)<1 by decide) rfl (Ld.mk (.tail _ (.tail _ (.head _))) rfl (Ld.mk (.tail _ (.head _)) rfl (Ld.mk (.head _) rfl ?_)));exact aN.mk (.skip (.skip .tail)) ⟨[],rfl,.inr ⟨0,13,.JJ hl,rfl⟩⟩
 have hl:l.length<=65536:=by omega
 refine aa.fn .here (Lg l hl _) ?_;rintro tv _ ⟨o,N,rfl,ht,hlen,hs⟩;obtain⟨a,c,rfl⟩:=hs.len;refine Build.mk (cs:=[.slice a (o.map Tok.cells).length c,nI n]) zK λWN _=>?_;obtain⟨i,t,ho,hk,hi⟩:=ht.last;have fail:∀(ch:List PanicEntry) (X:Hp) (x4 x6 x8:zV) (at_ e:Nat),ch=Te at_ e->Reads n l (.bad at_ e)->∀R:Rt,R=aN (λr H=>∃N,H=N++B/\((∃t l' p,Reads n l (.ok t l')/\r=.tuple #[p,nI 0,nI 0]/\pZ N t p)\/∃at_ e,Reads n l (.bad at_ e)/\r=.tuple #[.pointer none,nI at_,nI e]))->
   iJ zQ 56 g #[bE b4,bE b6,bE b8] (.panicking ch) (X++((b8,.cells #[x8] 33 zZ)::(b6,.cells #[x6] 3 zZ)::(b4,.cells #[x4] 76 zZ)::B)) (λH=>Ld H (bE b4) λv1=>Ld H (bE b6) λv2=>Ld H (bE b8) λv3=>R (.returned (.tuple #[v1,v2,v3])) H):=by
  rintro _ X x4 x6 x8 at_ e rfl hr _ rfl;refine D0 (.inr ⟨rfl,rfl⟩) (JI λb9=>?_);refine Ld.mk (.tail _ (xaa _ (.tail _ (.tail _ (.head _))))) rfl (Ld.mk (.tail _ (xaa _ (.tail _ (.head _)))) rfl (Ld.mk (.tail _ (xaa _ (.head _))) rfl ?_));exact aN.mk (.skip (.eE (.skip (.skip .tail)))) ⟨[],rfl,.inr ⟨at_,e,hr,rfl⟩⟩
 refine aa.fp .left ((xu _).1 n 0 0 WN o _ N (xak _) zD zD ⟨i,t,ho,hk,hi⟩ (.iO hs zD)) ?_ ?_;rotate_left
 ·rintro ch _ ⟨p,e,h1,rfl,rfl⟩ _;exact fail _ _ _ _ _ p e rfl (.mk hl ht (.call h1 .done)) _ rfl
 rintro p _ ⟨t,l',v',N2,h1,h2,h3,h4,rfl,h6⟩;obtain⟨pt,rfl⟩:=h6.ptr;refine St.one (c':=#[bE pt]) (.bB (.tail (.tail (.head _))) _) rfl (show(0:Nat)<1 by decide) rfl ?_;obtain⟨y,l2,rfl⟩:=h2.split;refine aa.pre aG.assoc (aa.fp (.app .left) (yS 0 h4) ?_ ?_);rotate_left
 ·rintro ch _ ⟨Od,rfl,rfl⟩ _;rw[<-xaj];refine fail _ _ _ _ _ y.p 14 rfl (.mk hl ht (.call h1 ?_)) _ rfl;show Ev n (if y.k=0 then _ else _) _;rw[xad Od];exact .done
 rintro _ _ ⟨Od,v2,rfl,mZ⟩;refine Ld.mk (xaa _ (xaa _ (.tail _ (.tail _ (.head _))))) rfl ?_;refine St.one (c':=#[bE pt]) (.bB (.bB (.tail (.tail (.head _))) _) _) rfl (show(0:Nat)<1 by decide) rfl ?_;refine St.one (c':=#[nI 0]) (.bB (.bB (.tail (.head _)) _) _) rfl (show(0:Nat)<1 by decide) rfl ?_;refine St.one (c':=#[nI 0]) (.bB (.bB (.head _) _) _) rfl (show(0:Nat)<1 by decide) rfl ?_;refine D0 (v:=.nilIface) (u':=.returning) (.inl ⟨rfl,rfl,rfl⟩) (bS.wm rfl rfl rfl ⟨#[],by kernel_rfl⟩ (.inl ⟨rfl,rfl,_,rfl⟩) (Br.no ?_));refine Ld.mk (xaa _ (xaa _ (.tail _ (.tail _ (.head _))))) rfl (Ld.mk (xaa _ (xaa _ (.tail _ (.head _)))) rfl (Ld.mk (xaa _ (xaa _ (.head _))) rfl ?_));refine aN.mk (.cM (.eE (.skip (.skip .tail))) N2) ⟨N2,rfl,.inl ⟨t,l2,bE pt,.mk hl ht (.call h1 ?_),rfl,h6⟩⟩;show Ev n (if y.k=0 then _ else _) _;rw[xae Od];exact .done
end
end Go.Proofs
namespace Go.Proofs.Fm
def Tr.kids:Tr->List Tr
 | .no a=>[a]
 | .bin _ a b=>[a,b]
 | .ite a b d=>[a,b,d]
 |_=>[]
def Tr.kd:Tr->Nat
 | .c k=>k
 | .v _=>3
 | .no _=>4
 | .bin k _ _=>k
 | .ite .. =>12
def Tr.vl:Tr->Nat
 | .v n=>n
 |_=>0
def QU(k:Nat):Nat:=if k=5 then 8 else if k=6 then 6 else if k=7 then 14 else if k=8 then 11 else 9
def Tr.fn:Tr->Nat->Bool
 | .c k=>λ_=>decide (k=2)
 | .v n=>λx=>x.testBit n
 | .no a=>λx=> !a.fn x
 | .bin k a b=>λx=>(QU k).testBit (2*(a.fn x).toNat+(b.fn x).toNat)
 | .ite a b d=>λx=>if a.fn x then b.fn x else d.fn x
def Tr.Fit(n:Nat):Tr->Prop
 | .c k=>k=1\/k=2
 | .v m=>m<n
 | .no a=>a.Fit n
 | .bin k a b=>(5<=k/\k<=9)/\a.Fit n/\b.Fit n
 | .ite a b d=>a.Fit n/\b.Fit n/\d.Fit n
def Tr.fS:Tr->Nat
 | .c _=>1
 | .v _=>1
 | .no a=>a.fS
 | .bin _ a b=>a.fS+b.fS
 | .ite a b d=>a.fS+b.fS+d.fS
theorem Tr.gK:∀t:Tr,1<=t.fS
 | .c _=>xak _
 | .v _=>xak _
 | .no a=>a.gK
 | .bin _ a b=>xbN a.gK (by show a.fS<=a.fS+b.fS;omega)
 | .ite a b d=>xbN a.gK (by show a.fS<=a.fS+b.fS+d.fS;omega)
def Tr.jT:Tr->(Nat->Bool)->Prop
 | .c k=>λg=>g=(Tr.c k).fn
 | .v n=>λg=>g=(Tr.v n).fn
 | .no a=>λg=>g=(Tr.no a).fn\/a.jT g
 | .bin k a b=>λg=>g=(Tr.bin k a b).fn\/a.jT g\/b.jT g
 | .ite a b d=>λg=>g=(Tr.ite a b d).fn\/a.jT g\/b.jT g\/d.jT g
theorem Tr.uo(t:Tr):t.jT t.fn:=by
 cases t<;>first|exact rfl|exact Or.inl rfl
theorem Tr.xy{t k:Tr}(h:k∈t.kids){g:Nat->Bool}(hg:k.jT g):t.jT g:=by
 cases t with
 |c=>cases h
 |v=>cases h
 |no a=>
  simp only[Tr.kids,xaf,xao,xaQ]at h;subst h;exact Or.inr hg
 |bin k a b=>
  simp only[Tr.kids,xaf,xao,xaQ]at h;rcases h with rfl|rfl
  ·exact Or.inr (Or.inl hg)
  exact Or.inr (Or.inr hg)
 |ite a b d=>
  simp only[Tr.kids,xaf,xao,xaQ]at h;rcases h with rfl|rfl|rfl
  ·exact Or.inr (Or.inl hg)
  ·exact Or.inr (Or.inr (Or.inl hg))
  exact Or.inr (Or.inr (Or.inr hg))
def Gl.pre(n:Nat):Gl->Prop
 | .more _ _ a _=>a.Fit n
 |_=>True
def Gl.cap:Gl->Nat
 | .kB _ _ l=>l.length+1
 | .more _ _ a l=>2*a.fS+l.length
 | .tight _ l=>l.length+1
def Rs.good(n c:Nat):Rs->Prop
 | .ok t l=>t.Fit n/\2*t.fS+l.length<=c
 | .bad _ _=>True
inductive Pl.Wt(n:Nat):Nat->Pl->Prop
 |done {c:Nat} {r:Rs}:r.good n c->Wt n c (.done r)
 |call {c:Nat} {g:Gl} {k:Rs->Pl}:g.pre n->(∀r,r.good n g.cap->Wt n c (k r))->Wt n c (.call g k)
theorem Pl.Wt.thn{n c c':Nat}{r:Rs}{f:Tr->List Tok->Pl}(hr:r.good n c')(h:∀t l,t.Fit n->2*t.fS+l.length<=c'->Wt n c (f t l)):Wt n c (r.thn f):=by
 cases r with
 |ok t l=>exact h t l hr.1 hr.2
 |bad p e=>exact .done trivial
theorem Pl.Wt.eW{n c c' k:Nat}{r:Rs}{f:Tr->List Tok->Pl}(hr:r.good n c')(h:∀t l,t.Fit n->2*t.fS+l.length+1<=c'->Wt n c (f t l)):Wt n c (r.eW k f):=by
 refine .thn hr λt l h1 h2=>?_;cases l with
 |nil=>exact .done trivial
 |cons x l=>
  show Wt n c (if x.k=k then _ else _);split
  ·exact h t l h1 h2
  exact .done trivial
theorem DJ(lv:Nat):5<=iH lv/\iH lv<=9:=by
 match lv with
 |0=>decide
 |1=>decide
 |2=>decide
 |3=>decide
 |n+4=>exact⟨xak 5,by show 5<=9;decide⟩
theorem Nu(n:Nat)(g:Gl)(hp:g.pre n):Pl.Wt n g.cap (jX n g):=by
 cases g with
 |kB lv dp l=>
  show Pl.Wt n _ (if lv=5 then _ else _);split
  ·exact .call trivial λr h=>.done h
  exact .call trivial λr h=>.thn h λt l1 h1 h2=>.call h1 λr h=>.done (by
   cases r with
   |ok t' l'=>exact⟨h.1,xbN h.2 h2⟩
   |bad=>trivial)
 |more lv dp a l=>
  cases l with
  |nil=>exact .done trivial
  |cons x l=>
   show Pl.Wt n _ (if x.k=iH lv then(if iH lv=8 then _ else _)else _);split
   ·split
    ·refine .call trivial λr h=>.thn h λt l1 h1 h2=>.done ⟨⟨by decide,hp,h1⟩,?_⟩;simp only[Tr.fS,Gl.cap,xar]at h2⊢;omega
    refine .call trivial λr h=>.thn h λt l1 h1 h2=>.call ⟨DJ lv,hp,h1⟩ λr h=>.done ?_;cases r with
    |ok t' l'=>
     refine⟨h.1,?_⟩;have:=h.2;simp only[Tr.fS,Gl.cap,xar]at h2 this⊢;omega
    |bad=>trivial
   ·exact .done ⟨hp,xak _⟩
 |tight dp l=>
  cases l with
  |nil=>exact .done trivial
  |cons x l=>
   have hc:Gl.cap (.tight dp (x::l))=l.length+2:=rfl;rw[hc];show Pl.Wt n _ (if x.k=1\/x.k=2 then _ else if x.k=3 then(if n<=x.v then _ else _)else if x.k=4 then(if 1000<=dp then _ else _)else if x.k=10 then(if 1000<=dp then _ else _)else if x.k=12 then(if 1000<=dp then _ else _)else _);split
   ·rename_i h;exact .done ⟨h,by simp only[Tr.fS];omega⟩
   split
   ·split
    ·exact .done trivial
    exact .done ⟨by show x.v<n;omega,by simp only[Tr.fS];omega⟩
   split
   ·split
    ·exact .done trivial
    exact .call trivial λr h=>.thn h λt l1 h1 h2=>.done ⟨h1,by simp only[Tr.fS,Gl.cap]at h2⊢;omega⟩
   split
   ·split
    ·exact .done trivial
    exact .call trivial λr h=>.eW h λt l1 h1 h2=>.done ⟨h1,by simp only[Gl.cap]at h2⊢;omega⟩
   split
   ·split
    ·exact .done trivial
    refine .call trivial λr h=>.eW h λt l1 h1 h2=>.call trivial λr h=>.eW h λt2 l2 h3 h4=>.call trivial λr h=>.eW h λt3 l3 h5 h6=>.done ⟨⟨h1,h3,h5⟩,?_⟩;simp only[Tr.fS,Gl.cap]at h2 h4 h6⊢;omega
   exact .done trivial
theorem Ev.wt{n c:Nat}{p:Pl}{r:Rs}(h:Ev n p r)(hp:p.Wt n c):r.good n c:=by
 induction h generalizing c with
 |done=>cases hp with|done h=>exact h
 |call _ _ i1 i2=>cases hp with|call h0 h=>exact i2 (h _ (i1 (Nu n _ h0)))
theorem Reads.wt{n:Nat}{l:List UInt8}{t:Tr}{l':List Tok}(h:Reads n l (.ok t l'))(hlen:∀o,eA 0 l o->o.length<=l.length+1):t.Fit n/\t.fS<=32769:=by
 cases h with
 |mk hl ht h=>
  have h1:=hlen _ ht;have:=h.wt (c:=l.length+2) (.call trivial λr hr=>.eW hr λt l2 h2 h3=>.done ⟨h2,by simp only[Gl.cap]at h3;omega⟩);exact⟨this.1,by have:=this.2;omega⟩
end Go.Proofs.Fm
set_option maxRecDepth 100000
namespace Go.Proofs
open Go Go.Sx Tryz
section
open Fm aq
section
variable {kp:Nat} {K K1 K2:Kd} {S S1 S2:Nat->aq.Fn} {ord af tr:zL} {C:Hp}
structure bW(K:Kd)(S:Nat->aq.Fn)(K':Kd)(S':Nat->aq.Fn)(xs:zL):Prop where
 n:K'.n=K.n
 cap:K'.cap=K.cap
 fn:∀s,K.hold s≠0->S' s=S s
 hold:∀s,K'.hold s=K.hold s+if 2<=s then xs.count s else 0
theorem bW.refl:bW K S K S []:=⟨rfl,rfl,λ_ _=>rfl,λs=>by simp⟩
theorem bW.grow{xs:zL}{f:aq.Fn}{x:Nat}(h:bW K S K1 S1 xs)(hl:∀s,K1.hold s≠0->aq.live K1.N s)(hg:dS K1 S1 K2 S2 f x):bW K S K2 S2 (xs++[x]):=
 ⟨hg.n.trans h.n,hg.cap.trans h.cap,λs hs=>by
  rw[hg.fn s (hl s (by rw[h.hold];omega)),h.fn s hs],λs=>by
  rw[hg.hold,h.hold,xaX,xbB];by_cases h2:2<=s
  ·by_cases hx:s=x
   ·subst hx;simp[h2];omega
   have:(x==s)=false:=by simp;exact λh=>hx h.symm
   simp[h2,hx,this]
  have:¬(s=x/\2<=x):=λh=>h2 (h.1▸h.2);simp[h2,this]⟩
theorem bW.more{xs ys:zL}(h:bW K S K1 S1 xs)(h':bW K1 S1 K2 S2 ys):bW K S K2 S2 (xs++ys):=
 ⟨h'.n.trans h.n,h'.cap.trans h.cap,λs hs=>by rw[h'.fn s (by rw[h.hold];omega),h.fn s hs],λs=>by
  rw[h'.hold,h.hold,xaX];split<;>omega⟩
theorem bW.kept{xs:zL}(h:bW K S K1 S1 xs)(hk:Kept K1 S1 K2 S2):bW K S K2 S2 xs:=
 ⟨hk.n.trans h.n,hk.cap.trans h.cap,λs hs=>by rw[hk.fn s (by rw[h.hold];omega),h.fn s hs],λs=>by rw[hk.hold,h.hold]⟩
theorem bW.VB{r:Nat}{xs:zL}(h:bW K S K1 S1 (r::xs))(hf:tw K1 K2 r):bW K S K2 S1 xs:=
 ⟨hf.n.trans h.n,hf.cap.trans h.cap,h.fn,λs=>by
  rw[hf.hold,h.hold,xck];by_cases h2:2<=s
  ·by_cases hx:s=r
   ·subst hx;simp[h2]
   have:(r==s)=false:=by simp;exact λh=>hx h.symm
   simp[h2,hx,this]
  have:¬(s=r/\2<=r):=λh=>h2 (h.1▸h.2);simp[h2,this]⟩
theorem bW.held{xs:zL}(h:bW K S K1 S1 xs){P:aq.Fn->Prop}(hx:∀x∈xs,P (S1 x))(g:aq.Fn)(hg:K1.held S1 g):K.held S g\/P g:=by
 obtain⟨s,hs,rfl⟩:=hg;by_cases h0:K.hold s=0
 ·right;have hs':K1.hold s≠0:=hs;rw[h.hold,h0]at hs';by_cases h2:2<=s
  ·rw[xae h2]at hs';exact hx s (xce.1 zO)
  rw[xad h2]at hs';exact absurd rfl hs'
 left;exact⟨s,h0,h.fn s h0⟩
theorem bW.le{xs:zL}(h:bW K S K1 S1 xs)(s:Nat):K1.hold s<=K.hold s+xs.length:=by
 rw[h.hold];have:=xda (a:=s) (l:=xs);split<;>omega
theorem Lw{b3 b1:Nat}{v:zV}{L M:Hp}{xs ys:zL}(hv:aL 27 .u32 v (iw xs) L)(hh:bW K S K1 S1 (xs++ys))(hK:br kp K1 S1 ord af tr C)(hl:∀x∈xs,x<4294967296)(hm:xs.length<=3):
  ZL zQ 60 #[ptr b3,ptr b1] ((b3,.cells #[v] 37 zZ)::(b1,.cells #[ptr kp] 36 zZ)::(L++(M++C))) (λ_ H=>∃K2 C2 nT,H=(b3,.cells #[v] 37 zZ)::(b1,.cells #[ptr kp] 36 zZ)::(L++(M++C2))/\br kp K2 S1 ord af nT C2/\bW K S K2 S1 ys):=by
 refine λg=>BB (Ld.mk (.head _) rfl (hv.bH ?_));refine⟨λvs H=>∃(i:Nat) (K2:Kd) (C2:Hp) (nT:zL),vs=[nI i]/\i<=xs.length/\H=(b3,.cells #[v] 37 zZ)::(b1,.cells #[ptr kp] 36 zZ)::(L++(M++C2))/\br kp K2 S1 ord af nT C2/\bW K S K2 S1 (xs.drop i++ys),λvs _=>xs.length-bL vs 0,JE.mk ⟨0,K1,C,tr,rfl,xaK _,rfl,hK,hh⟩,?_⟩;rintro w7 H ⟨i,K2,C2,nT,⟨⟩,hi,rfl,bN,xe⟩ gs;rw[ag];refine ae.fe (Br.dec (λh=>?_) (λh=>?_))
 ·have hg:xs[i]? =some xs[i]:=xab h;refine hv.ld (cc hg) (λy hy=>.tail _ (.tail _ (xac _ hy))) (Ld.mk (.tail _ (.head _)) rfl ?_);rw[xa8 h,xaN]at xe;refine aa.fn (args:=#[ptr kp,u32 xs[i]]) (.cons (.cons (.app (.app .here)))) (ki bN (hl _ (xaB h)) (λh2=>by rw[xe.hold,xae h2,List.count_cons_self];omega)) ?_;rintro _ C3 ⟨rfl,K3,fG,hf⟩;exact ae.inc (az.of (.refl _) ⟨i+1,K3,C3,[],rfl,h,rfl,fG,xe.VB hf⟩ (by simp only[bL];omega))
 have:i=xs.length:=by omega
 subst this;rw[xc9,xaW]at xe;exact aN.mk (.refl _) ⟨K2,C2,nT,rfl,bN,xe⟩
def MC(kp:Nat)(K:Kd)(S:Nat->aq.Fn)(ord af:zL)(f:aq.Fn)(P:aq.Fn->Prop)(w:zV)(H:Hp):Prop:=
 (∃x K' S' di,w=.tuple #[u32 x,nI 0]/\br kp K' S' ord af di H/\bW K S K' S' [x]/\aq.live K'.N x/\S' x=f)\/
 (w=.tuple #[u32 0,nI 9]/\(∃K' S' di,br kp K' S' ord af di H/\bW K S K' S' [])/\¬Fits (aA K.n ord (λg=>K.held S g\/P g)) K.cap)
end
end
section
open Fm aq
section
variable {kp:Nat} {K K1 K2:Kd} {S S1 S2:Nat->aq.Fn} {ord af tr:zL} {C:Hp}
theorem OT(hK:br kp K S ord af tr C){a b:Nat}(ha:aq.live K.N a)(hb:aq.live K.N b)(hB:∀s,K.hold s+2^K.n<=65535):Fc zQ 65 #[ptr kp,u32 a,u32 b] C (kA kp K S ord af tr (λy=>xN 8 (S a y) (S b y))):=by
 refine aS λg=>Hq (aa.fq (fP hK (op:=8) zD ha hb hB) ?_);intro w H hD;obtain⟨x,e,rfl⟩:=hD.two;exact Ext.two (aN.here hD)
theorem R6(hK:br kp K S ord af tr C){a b:Nat}(ha:aq.live K.N a)(hb:aq.live K.N b)(hB:∀s,K.hold s+2^K.n<=65535):Fc zQ 67 #[ptr kp,u32 a,u32 b] C (kA kp K S ord af tr (λy=>xN 14 (S a y) (S b y))):=by
 refine aS λg=>Hl (aa.fq (fP hK (op:=14) zD ha hb hB) ?_);intro w H hD;obtain⟨x,e,rfl⟩:=hD.two;exact Ext.two (aN.here hD)
theorem OM(hK:br kp K S ord af tr C){a b:Nat}(ha:aq.live K.N a)(hb:aq.live K.N b)(hB:∀s,K.hold s+2^K.n<=65535):Fc zQ 66 #[ptr kp,u32 a,u32 b] C (kA kp K S ord af tr (λy=>xN 6 (S a y) (S b y))):=by
 refine aS λg=>Ho (aa.fq (fP hK (op:=6) zD ha hb hB) ?_);intro w H hD;obtain⟨x,e,rfl⟩:=hD.two;exact Ext.two (aN.here hD)
theorem Gp(hK:br kp K S ord af tr C)(b:Bool):Fc zQ 62 #[ptr kp,.bool b] C (kA kp K S ord af tr (λ_=>b)):=by
 have hi:=hK.ok.mid.int;refine aS λg=>Ht (ae.bf (Br.no ?_));intro J2 h2;have go:∀r:Nat,r<2->(S r=λ_=>b)->J2 [u32 r] C:=λr hr hf=>by
  refine h2 _ _ λ_=>?_;refine aa.fq (mE hK (r:=r) (.inl hr) (λh=>by omega)) ?_;rintro v H ⟨rfl,K',dc,hm⟩;exact aN.here (.inl ⟨r,K',S,rfl,dc,⟨hm.n,hm.cap,λs d h=>by rw[hm.N];exact h,λ_ _=>rfl,.inl hr,hf,λs=>by rw[hm.hold];split<;>rfl⟩⟩)
 cases b
 ·exact Br.no (JE.mk (go 0 zD (funext hi.zero)))
 exact Br.yes (JE.mk (go 1 zD (funext hi.one)))
theorem uG(cj:br kp K1 S1 ord af tr C){nT:zL}{C2:Hp}(bN:br kp K2 S2 ord af nT C2){ys:zL}(h:bW K1 S1 K2 S2 ys){x:Nat}(hx:2<=x->K1.hold x≠0):aq.live K2.N x/\S2 x=S1 x:=by
 by_cases h2:2<=x
 ·exact⟨.inr (bN.ok.mid.held x (by rw[h.hold];have:=hx h2;omega)),h.fn x (hx h2)⟩
 refine⟨.inl zO,?_⟩;have Em:x=0\/x=1:=by omega
 rcases Em with rfl|rfl
 ·rw[funext cj.ok.mid.int.zero,funext bN.ok.mid.int.zero]
 rw[funext cj.ok.mid.int.one,funext bN.ok.mid.int.one]
theorem br.yz(hK:br kp K S ord af tr C):∀s,K.hold s≠0->aq.live K.N s:=λs hs=>.inr (hK.ok.mid.held s hs)
theorem pZ.node{M:Hp}{t:Tr}{p:zV}(h:pZ M t p):∃(b:Nat) (sl:zV) (ps:zL),p=bE b/\(b,.cells #[nI t.kd,nI t.vl,sl] 134 zZ)∈M/\Sl 1 M sl (ps.map λq=>[bE q])/\ps.length=t.kids.length/\∀(i:Nat) (k:Tr) (q:Nat),t.kids[i]? =some k->ps[i]? =some q->pZ M k (bE q):=by
 cases h with
 | @c k b h=>exact⟨b,_,[],rfl,h,Sl.nil _ _,rfl,λi k q h1=>by simp[Tr.kids]at h1⟩
 | @v n b h=>exact⟨b,_,[],rfl,h,Sl.nil _ _,rfl,λi k q h1=>by simp[Tr.kids]at h1⟩
 | @no a b d x h h2 h3=>exact⟨b,_,[x],rfl,h,(Sl.iO (T:=76) (aH.made [[bE x]] (λr hr=>by simp only[xaf,xao,xaQ]at hr;first|(rcases hr with rfl|rfl|rfl<;>rfl)|(rcases hr with rfl|rfl<;>rfl)|(subst hr;rfl))) zD).mono (λy hy=>by cases hy with|head=>exact h2|tail _ h=>cases h),rfl,λi k q h1 h2=>by rcases i with _|_|_|i<;>simp[Tr.kids]at h1 h2<;>(obtain rfl:=h1;obtain rfl:=h2;assumption)⟩
 | @bin k a a' b d x y h h2 h3 h4=>exact⟨b,_,[x,y],rfl,h,(Sl.iO (T:=76) (aH.made [[bE x],[bE y]] (λr hr=>by simp only[xaf,xao,xaQ]at hr;first|(rcases hr with rfl|rfl|rfl<;>rfl)|(rcases hr with rfl|rfl<;>rfl)|(subst hr;rfl))) zD).mono (λy hy=>by cases hy with|head=>exact h2|tail _ h=>cases h),rfl,λi k q h1 h2=>by rcases i with _|_|_|i<;>simp[Tr.kids]at h1 h2<;>(obtain rfl:=h1;obtain rfl:=h2;assumption)⟩
 | @ite a a' a2 b d x y z h h2 h3 h4 h5=>exact⟨b,_,[x,y,z],rfl,h,(Sl.iO (T:=76) (aH.made [[bE x],[bE y],[bE z]] (λr hr=>by simp only[xaf,xao,xaQ]at hr;first|(rcases hr with rfl|rfl|rfl<;>rfl)|(rcases hr with rfl|rfl<;>rfl)|(subst hr;rfl))) zD).mono (λy hy=>by cases hy with|head=>exact h2|tail _ h=>cases h),rfl,λi k q h1 h2=>by rcases i with _|_|_|i<;>simp[Tr.kids]at h1 h2<;>(obtain rfl:=h1;obtain rfl:=h2;assumption)⟩
end
def wU(t:Tr):Prop:=∀{kp:Nat} {K:Kd} {S:Nat->aq.Fn} {ord af tr:zL} {C M:Hp} {p:zV},br kp K S ord af tr C->pZ M t p->t.Fit K.n->(∀s,K.hold s+t.fS+2^K.n<=65535)->
 Fc zQ 27 #[ptr kp,p] (M++C) (λw H=>∃C',H=M++C'/\MC kp K S ord af t.fn t.jT w C')
theorem Fm.Tr.ya(t:Tr):t.kids.length<=t.fS/\t.kids.length<=3/\∀i k,t.kids[i]? =some k->i+k.fS<=t.fS:=by
 cases t with
 |c k=>exact⟨xaK _,xaK _,λi k h=>by simp[Tr.kids]at h⟩
 |v k=>exact⟨xaK _,xaK _,λi k h=>by simp[Tr.kids]at h⟩
 |no a=>
  refine⟨a.gK,by show 1<=3;decide,λi k h=>?_⟩;rcases i with _|i<;>simp[Tr.kids]at h;subst h;show 0+a.fS<=a.fS;omega
 |bin k a b=>
  have h1:=a.gK;have h2:=b.gK;refine⟨by show 2<=a.fS+b.fS;omega,by show 2<=3;decide,λi k h=>?_⟩;rcases i with _|_|i<;>simp[Tr.kids]at h
  ·subst h;show 0+a.fS<=a.fS+b.fS;omega
  subst h;show 0+1+b.fS<=a.fS+b.fS;omega
 |ite a b d=>
  have h1:=a.gK;have h2:=b.gK;have h3:=d.gK;refine⟨by show 3<=a.fS+b.fS+d.fS;omega,by show 3<=3;decide,λi k h=>?_⟩;rcases i with _|_|_|i<;>simp[Tr.kids]at h
  ·subst h;show 0+a.fS<=a.fS+b.fS+d.fS;omega
  ·subst h;show 0+1+b.fS<=a.fS+b.fS+d.fS;omega
  subst h;show 0+1+1+d.fS<=a.fS+b.fS+d.fS;omega
theorem Fm.Tr.yb{t:Tr}{n:Nat}(h:t.Fit n):∀k∈t.kids,k.Fit n:=by
 intro k hk;cases t with
 |c=>cases hk
 |v=>cases hk
 |no a=>simp only[Tr.kids,xaf,xao,xaQ]at hk;subst hk;exact h
 |bin k a b=>simp only[Tr.kids,xaf,xao,xaQ]at hk;rcases hk with rfl|rfl;exact h.2.1;exact h.2.2
 |ite a b d=>simp only[Tr.kids,xaf,xao,xaQ]at hk;rcases hk with rfl|rfl|rfl;exact h.1;exact h.2.1;exact h.2.2
set_option maxHeartbeats 2000000 in
theorem iD(t:Tr)(ih:∀k∈t.kids,wU k):wU t:=by
 intro kp K S ord af tr C M p hK ht hf hB;obtain⟨b,sl,ps,rfl,hn,AX,mP,hps⟩:=ht.node;obtain⟨X9,nW,hkv⟩:=t.ya;refine aS λg=>HV λb1 _ b3 _=>Nil.ptr (Ld.u (.tail _ (.tail _ (xac _ hn))) (AX.bH ?_));rw[xaz];refine⟨λvs H=>∃(i:Nat) (K1:Kd) (S1:Nat->aq.Fn) (IU:zL) (C1:Hp) (xs:zL) (v:zV) (L:Hp),vs=[nI i]/\i<=ps.length/\xs.length=i/\H=(b3,.cells #[v] 37 zZ)::(b1,.cells #[ptr kp] 36 zZ)::(L++(M++C1))/\aL 27 .u32 v (iw xs) L/\br kp K1 S1 ord af IU C1/\bW K S K1 S1 xs/\(∀(j x:Nat) (k:Tr),xs[j]? =some x->t.kids[j]? =some k->aq.live K1.N x/\S1 x=k.fn),λvs _=>ps.length-bL vs 0,
  JE.mk ⟨0,K,S,tr,C,[],_,[],rfl,xaK _,rfl,rfl,aL.nil,hK,.refl,λj x k h=>by simp at h⟩,?_⟩
 rintro W3 H ⟨i,K1,S1,IU,C1,xs,v,L,⟨⟩,hi,hxs,rfl,hv,cj,tU,wo⟩ gs;have yE:∀s,K1.hold s<=K.hold s+i:=λs=>by have:=tU.le s;omega
 have Wc:∀x∈xs,x<4294967296:=λx hx=>by
  obtain⟨j,hj,rfl⟩:=List.getElem_of_mem hx;have:=cj.bp (wo j xs[j] (t.kids[j]' zO) (xab hj) (xab _)).1;omega
 have hsub:∀x∈xs,t.jT (S1 x):=λx hx=>by
  obtain⟨j,hj,rfl⟩:=List.getElem_of_mem hx;rw[(wo j xs[j] (t.kids[j]' zO) (xab hj) (xab _)).2];exact Tr.xy (xaB _) (Tr.uo _)
 /- the parts let go, and out -/
 have leave:∀(K2:Kd) (S2:Nat->aq.Fn) (nT:zL) (C2:Hp) (ys:zL) (Kc:Hp->Prop),br kp K2 S2 ord af nT C2->bW K S K2 S2 (xs++ys)->(∀K3 C3 tB,br kp K3 S2 ord af tB C3->bW K S K3 S2 ys->Kc ((b3,.cells #[v] 37 zZ)::(b1,.cells #[ptr kp] 36 zZ)::(L++(M++C3))))->
   dL zQ g 60 #[ptr b3,ptr b1] ((b3,.cells #[v] 37 zZ)::(b1,.cells #[ptr kp] 36 zZ)::(L++(M++C2))) Kc:=λK2 S2 nT C2 ys Kc bN xe hk=>by
  refine dL.fn .here (Lw hv xe bN Wc zO) ?_;rintro _ _ ⟨K3,C3,tB,rfl,fG,ow⟩;exact hk K3 C3 tB fG ow
 have bad:∀(C3:Hp) (w:zV),MC kp K S ord af t.fn t.jT w C3->aN (λw H=>∃C',H=M++C'/\MC kp K S ord af t.fn t.jT w C') (.returned w) ((b3,.cells #[v] 37 zZ)::(b1,.cells #[ptr kp] 36 zZ)::(L++(M++C3))):=λC3 w h=>aN.mk (.skip (.skip .right)) ⟨C3,rfl,h⟩;refine ae.fe (Br.dec (λhlt=>?_) (λhge=>?_))
 ·have hq:ps[i]? =some ps[i]:=xab hlt;have MJ:t.kids[i]? =some (t.kids[i]' zO):=xab _;generalize (t.kids[i]' zO)=k at MJ;have hkm:k∈t.kids:=xax MJ;refine aj.sl AX (r:=[bE ps[i]]) (by rw[xat,hq];rfl) λa ha=>Ld.at ha (λy hy=>.tail _ (.tail _ (xaa _ (xac _ hy)))) (Ld.mk (.tail _ (.head _)) rfl ?_);have acB:=hkv i k MJ;refine aa.fn (.cons (.cons (.app .here))) (ih k hkm cj (hps i k _ MJ hq) (by rw[tU.n];exact Tr.yb hf k hkm) (λs=>by rw[tU.n];have:=hB s;have:=yE s;omega)) ?_;rintro w _ ⟨C2,rfl,hb⟩;rcases hb with⟨x,K2,S2,nT,rfl,bN,xe,qp,mZ⟩|⟨rfl,⟨K2,S2,nT,bN,xe⟩,hfit⟩
  ·refine Ext.mk rfl (Ext.mk rfl (ae.nU (b:=0) (Br.F (Ld.mk (.head _) rfl ?_))));refine ai.int (e:=27) zK zK zK λbx=>?_;refine hv.kx (x:=(x:Int)) (.cons (.cons (.cons .left))) (by exact .head _) (by rw[ag];omega) (by rw[ag];omega) λv' L' tQ=>?_;refine St.one (c':=#[v']) (.tail (.head _)) tQ.one (show(0:Nat)<1 by decide) rfl (ae.inc (az.of .tail ⟨i+1,K2,S2,nT,C2,xs++[x],v',L',rfl,hlt,by simp[hxs],rfl,by rw[bV];exact tQ,bN,tU.more xe,?_⟩ (by simp only[bL];omega)));intro j y k' hy hk';by_cases hj:j<xs.length
   ·rw[xaH hj]at hy;obtain⟨h1,h2⟩:=wo j y k' hy hk';have:=uG cj bN xe (x:=y) (λhy2=>by
     rw[tU.hold,xae hy2];have:=xce.2 (xax hy);omega)
    exact⟨this.1,this.2.trans h2⟩
   have Og:j=i:=by
    have:=(xag.1 hy).1;simp only[xai,xbP]at this;omega
   subst Og;rw[xaU zO,hxs,xbT]at hy;rw[MJ]at hk';cases hy;cases hk';exact⟨qp,mZ⟩
  refine Ext.mk rfl (Ext.mk rfl (ae.nU (b:=0) (Br.T ?_)));refine leave K2 S2 nT C2 [] _ bN (tU.more xe) λK3 C3 tB fG ow=>?_;refine bad C3 _ (.inr ⟨rfl,⟨K3,S2,tB,fG,ow⟩,λhF=>hfit ?_⟩);rw[tU.n,tU.cap];exact Fits.mono (λg hg=>aJ (λg h=>by
   rcases h with h|h
   ·exact tU.held hsub g h
   exact .inr (Tr.xy hkm h)) hg) hF
 have SP:i=ps.length:=by omega
 subst SP;have Qh:∀s,K1.hold s+2^K1.n<=65535:=λs=>by rw[tU.n];have:=hB s;have:=yE s;omega
 /- the operation done -/
 have fin:∀(w:zV) (C2:Hp) (R:Hp),aG ((b3,.cells #[v] 37 zZ)::(b1,.cells #[ptr kp] 36 zZ)::(L++(M++C2))) R->kA kp K1 S1 ord af IU t.fn w C2->
   aG ((b3,.cells #[v] 37 zZ)::(b1,.cells #[ptr kp] 36 zZ)::(L++(M++C2))) R/\Ext 0 w λx=>Ext 1 w λe=>dL zQ g 60 #[ptr b3,ptr b1] ((b3,.cells #[v] 37 zZ)::(b1,.cells #[ptr kp] 36 zZ)::(L++(M++C2))) λH=>aN (λw H=>∃C',H=M++C'/\MC kp K S ord af t.fn t.jT w C') (.returned (.tuple #[x,e])) H:=by
  intro w C2 R he hD;refine⟨he,?_⟩;rcases hD with⟨x,K2,S2,rfl,bN,hg⟩|⟨rfl,⟨K2,S2,nT,bN,_,hk⟩,hfit⟩
  ·refine Ext.mk rfl (Ext.mk rfl (leave K2 S2 [] C2 [x] _ bN (tU.grow cj.yz hg) λK3 C3 tB fG ow=>bad C3 _ (.inl ⟨x,K3,S2,tB,rfl,fG,ow,?_,hg.is⟩)));by_cases h2:2<=x
   ·exact .inr (fG.ok.mid.held x (by rw[ow.hold,xae h2];simp))
   exact .inl zO
  refine Ext.mk rfl (Ext.mk rfl (leave K2 S2 nT C2 [] _ bN (by rw[xaP];exact tU.kept hk) λK3 C3 tB fG ow=>bad C3 _ (.inr ⟨rfl,⟨K3,S2,tB,fG,ow⟩,λhF=>hfit ?_⟩)));rw[tU.n,tU.cap];exact Fits.mono (λg hg=>aJ (λg h=>by
   rcases h with h|h
   ·exact tU.held hsub g h
   subst h;exact .inr (Tr.uo t)) hg) hF
 have cS:∀C2:Hp,aG ((b3,.cells #[v] 37 zZ)::(b1,.cells #[ptr kp] 36 zZ)::(L++(M++C2))) ((b3,.cells #[v] 37 zZ)::(b1,.cells #[ptr kp] 36 zZ)::(L++M)):=λC2=>.cons (.cons (.cM .left L));have FX:(b,Obj.cells #[nI t.kd,nI t.vl,sl] 134 zZ)∈(b3,Obj.cells #[v] 37 zZ)::(b1,Obj.cells #[ptr kp] 36 zZ)::(L++M):=.tail _ (.tail _ (xaa _ hn));refine Nil.ptr (Ld.u (.tail _ (.tail _ (xaa _ (xac _ hn)))) λSo Vw=>?_);have get:∀{j x:Nat} {Kc:zV->Prop},xs[j]? =some x->Kc (u32 x)->aj 1 v (iv ((j:Nat):Int)) λp=>Ld ((b3,.cells #[v] 37 zZ)::(b1,.cells #[ptr kp] 36 zZ)::(L++M)) p Kc:=λhx hk=>hv.ld (cc hx) (λy hy=>.tail _ (.tail _ (xac _ hy))) hk;have T3:So [.bool (decide (t.kd=1\/t.kd=2))] ((b3,.cells #[v] 37 zZ)::(b1,.cells #[ptr kp] 36 zZ)::(L++(M++C1))):=by
  refine Vw _ _ λ_=>?_;have hole:∀Z:Hp,aU Z ((b3,Obj.cells #[v] 37 zZ)::(b1,Obj.cells #[ptr kp] 36 zZ)::(L++(M++Z))) (λX=>(b3,Obj.cells #[v] 37 zZ)::(b1,Obj.cells #[ptr kp] 36 zZ)::(L++(M++X))):=λZ=>.cons (.cons (.app (.app .here)));have iT:(b1,Obj.cells #[ptr kp] 36 zZ)∈(b3,Obj.cells #[v] 37 zZ)::(b1,Obj.cells #[ptr kp] 36 zZ)::(L++M):=.tail _ (.head _);have ov:(b3,Obj.cells #[v] 37 zZ)∈(b3,Obj.cells #[v] 37 zZ)::(b1,Obj.cells #[ptr kp] 36 zZ)::(L++M):=.head _;cases t with
  |c k=>
   refine Br.R9 hf (DR.of (cS C1) (Ld.mk iT rfl (Nil.ptr (Ld.u FX (ae.bA (b:=2) (aa.fn (hole C1) (Gp cj _) λw C2 hD=>fin w C2 _ (cS C2) hD))))))
  |v m=>
   dsimp only[Tr.kd,Tr.vl]at FX⊢;refine Br.F (ae.bA (b:=3) (Br.T (DR.of (cS C1) (Ld.mk iT rfl (Nil.ptr (Ld.u FX (aa.fn (hole C1) (EG cj (v:=m) (by rw[tU.n];exact hf) (λs=>by have:=Qh s;have:1<=2^K1.n:=xbE;omega)) λw C2 hD=>fin w C2 _ (cS C2) hD)))))))
  |no a=>
   obtain⟨x,hx⟩:∃x,xs[0]? =some x:=⟨_,xab (by rw[hxs,mP];show 0<1;decide)⟩;obtain⟨l1,s1⟩:=wo 0 x a hx rfl;dsimp only[Tr.kd,Tr.vl]at FX⊢;refine Br.F (ae.bA (b:=3) (Br.F (ae.bA (b:=4) (Br.T (DR.of (cS C1) (Ld.mk iT rfl (Ld.mk ov rfl (get (j:=0) hx (aa.fn (hole C1) (EJ cj l1 Qh) λw C2 hD=>fin w C2 _ (cS C2) (by rw[s1]at hD;exact hD))))))))))
  |bin k a b'=>
   obtain⟨x,hx⟩:∃x,xs[0]? =some x:=⟨_,xab (by rw[hxs,mP];show 0<2;decide)⟩;obtain⟨y,hy⟩:∃y,xs[1]? =some y:=⟨_,xab (by rw[hxs,mP];show 1<2;decide)⟩;obtain⟨l1,s1⟩:=wo 0 x a hx rfl;obtain⟨l2,s2⟩:=wo 1 y b' hy rfl;have Ya:=hf.1;have Bi:k=5\/k=6\/k=7\/k=8\/k=9:=by omega
   dsimp only[Tr.kd,Tr.vl]at FX⊢;rcases Bi with rfl|rfl|rfl|rfl|rfl
   ·refine Br.F (ae.bA (b:=3) (Br.F (ae.bA (b:=4) (Br.F (ae.bA (b:=5) (Br.T (DR.of (cS C1) (Ld.mk iT rfl (Ld.mk ov rfl (get (j:=0) hx (Ld.mk ov rfl (get (j:=1) hy (aa.fn (hole C1) (OT cj l1 l2 Qh) λw C2 hD=>fin w C2 _ (cS C2) (by rw[s1,s2]at hD;exact hD))))))))))))))
   ·refine Br.F (ae.bA (b:=3) (Br.F (ae.bA (b:=4) (Br.F (ae.bA (b:=5) (Br.F (ae.bA (b:=6) (Br.T (DR.of (cS C1) (Ld.mk iT rfl (Ld.mk ov rfl (get (j:=0) hx (Ld.mk ov rfl (get (j:=1) hy (aa.fn (hole C1) (OM cj l1 l2 Qh) λw C2 hD=>fin w C2 _ (cS C2) (by rw[s1,s2]at hD;exact hD))))))))))))))))
   ·refine Br.F (ae.bA (b:=3) (Br.F (ae.bA (b:=4) (Br.F (ae.bA (b:=5) (Br.F (ae.bA (b:=6) (Br.F (ae.bA (b:=7) (Br.T (DR.of (cS C1) (Ld.mk iT rfl (Ld.mk ov rfl (get (j:=0) hx (Ld.mk ov rfl (get (j:=1) hy (aa.fn (hole C1) (R6 cj l1 l2 Qh) λw C2 hD=>fin w C2 _ (cS C2) (by rw[s1,s2]at hD;exact hD))))))))))))))))))
   ·refine Br.F (ae.bA (b:=3) (Br.F (ae.bA (b:=4) (Br.F (ae.bA (b:=5) (Br.F (ae.bA (b:=6) (Br.F (ae.bA (b:=7) (Br.F (ae.bA (b:=8) (Br.T (DR.of (cS C1) (Ld.mk iT rfl (Ld.mk ov rfl (get (j:=0) hx (Ld.mk ov rfl (get (j:=1) hy (aa.fn (hole C1) (fP cj (op:=11) zD l1 l2 Qh) λw C2 hD=>fin w C2 _ (cS C2) (by rw[s1,s2]at hD;exact hD))))))))))))))))))))
   refine Br.F (ae.bA (b:=3) (Br.F (ae.bA (b:=4) (Br.F (ae.bA (b:=5) (Br.F (ae.bA (b:=6) (Br.F (ae.bA (b:=7) (Br.F (ae.bA (b:=8) (Br.F (ae.bA (b:=9) (Br.T (DR.of (cS C1) (Ld.mk iT rfl (Ld.mk ov rfl (get (j:=0) hx (Ld.mk ov rfl (get (j:=1) hy (aa.fn (hole C1) (fP cj (op:=9) zD l1 l2 Qh) λw C2 hD=>fin w C2 _ (cS C2) (by rw[s1,s2]at hD;exact hD))))))))))))))))))))))
  |ite a b' d=>
   obtain⟨x,hx⟩:∃x,xs[0]? =some x:=⟨_,xab (by rw[hxs,mP];show 0<3;decide)⟩;obtain⟨y,hy⟩:∃y,xs[1]? =some y:=⟨_,xab (by rw[hxs,mP];show 1<3;decide)⟩;obtain⟨z,hz⟩:∃z,xs[2]? =some z:=⟨_,xab (by rw[hxs,mP];show 2<3;decide)⟩;obtain⟨l1,s1⟩:=wo 0 x a hx rfl;obtain⟨l2,s2⟩:=wo 1 y b' hy rfl;obtain⟨l3,s3⟩:=wo 2 z d hz rfl;dsimp only[Tr.kd,Tr.vl]at FX⊢;refine Br.F (ae.bA (b:=3) (Br.F (ae.bA (b:=4) (Br.F (ae.bA (b:=5) (Br.F (ae.bA (b:=6) (Br.F (ae.bA (b:=7) (Br.F (ae.bA (b:=8) (Br.F (ae.bA (b:=9) (Br.F (DR.of (cS C1) (Ld.mk iT rfl (Ld.mk ov rfl (get (j:=0) hx (Ld.mk ov rfl (get (j:=1) hy (Ld.mk ov rfl (get (j:=2) hz (aa.fn (hole C1) (EK cj l1 l2 l3 Qh) λw C2 hD=>fin w C2 _ (cS C2) (by rw[s1,s2,s3]at hD;exact hD))))))))))))))))))))))))
 refine ae.bA (b:=1) (Br.dec (λh1=>?_) (λh1=>?_))
 ·rw[show(decide (t.kd=1))=decide (t.kd=1\/t.kd=2)by simp[h1]];exact JE.mk T3
 refine ae.bA (b:=2) ?_;rw[show(decide (t.kd=2))=decide (t.kd=1\/t.kd=2)by simp[h1]];exact JE.mk T3
theorem LR(t:Tr):wU t:=by
 induction t with
 |c k=>exact iD _ λa ha=>by cases ha
 |v k=>exact iD _ λa ha=>by cases ha
 |no a i1=>
  exact iD _ λk hk=>by
   simp only[Tr.kids,xaf,xao,xaQ]at hk;subst hk;exact i1
 |bin n a b i1 i2=>
  exact iD _ λk hk=>by
   simp only[Tr.kids,xaf,xao,xaQ]at hk;rcases hk with rfl|rfl
   ·exact i1
   exact i2
 |ite a b d i1 i2 i3=>
  exact iD _ λk hk=>by
   simp only[Tr.kids,xaf,xao,xaQ]at hk;rcases hk with rfl|rfl|rfl
   ·exact i1
   ·exact i2
   exact i3
def Mm(t:Tr):Prop:=∀{n:Nat} {B:Hp} {p:zV},pZ B t p->t.Fit n->n<=16->Px zQ 28 #[nI n,p] B (λv H=>bZ H v n t.fn)
theorem bZ.cell{B:Hp}{v:zV}{n:Nat}{f:aq.Fn}(h:bZ B v n f):∃s,v=.agg #[nI n,s]/\s.oneCell'=true:=by
 obtain⟨ws,⟨s,rfl,hw⟩,_⟩:=h;refine⟨s,rfl,?_⟩;obtain⟨a,c,rfl,_⟩:=hw.1.shape;rfl
set_option maxHeartbeats 2000000 in
theorem g9(t:Tr)(ih:∀k∈t.kids,Mm k):Mm t:=by
 intro n B p ht hf yu;obtain⟨b,sl,ps,rfl,hn,AX,mP,hps⟩:=ht.node;obtain⟨X9,nW,hkv⟩:=t.ya;refine aS λg=>HU λb1 _=>Nil.ptr (Ld.u (.tail _ hn) (AX.bH ?_));rw[xaz];refine⟨λvs H=>∃(i:Nat) (rs:List (List zV)) (v:zV) (C N:Hp),vs=[v,nI i]/\i<=ps.length/\rs.length=i/\H=(b1,.cells #[iv 0,.slice none 0 0] 30 zZ)::(C++(N++B))/\aH 30 2 v rs C/\(∀(j:Nat) (r:List zV) (k:Tr),rs[j]? =some r->t.kids[j]? =some k->bZ (N++B) (.agg r.toArray) n k.fn),λvs _=>ps.length-bL vs 1,
  JE.mk ⟨0,[],_,[],[],rfl,xaK _,rfl,rfl,aH.nil _ _,λj x k h=>by simp at h⟩,?_⟩
 rintro W4 V3 H ⟨i,rs,v,C,N,⟨⟩,hi,yl,rfl,hv,wo⟩ gs;refine ae.fe (Br.dec (λhlt=>?_) (λhge=>?_))
 ·have hq:ps[i]? =some ps[i]:=xab hlt;have MJ:t.kids[i]? =some (t.kids[i]' zO):=xab _;generalize (t.kids[i]' zO)=k at MJ;have hkm:k∈t.kids:=xax MJ;refine aj.sl AX (r:=[bE ps[i]]) (by rw[xat,hq];rfl) λa ha=>Ld.at ha (λy hy=>.tail _ (xaa _ (xaa _ hy))) ?_;refine aa.px (.cons (.app .here)) (ih k hkm (n:=n) ((hps i k _ MJ hq).mono (λy hy=>xaa N hy)) (Tr.yb hf k hkm) yu) ?_;intro tv N' hT;obtain⟨s,rfl,hs1⟩:=hT.cell;have h1:∀u∈[nI n,s],u.oneCell'=true:=λu hu=>by
   simp only[xaf,xao,xaQ]at hu;rcases hu with rfl|rfl
   ·rfl
   exact hs1
  refine ai.one (e:=30) (z:=.agg #[iv 0,.slice none 0 0]) (k:=2) (r:=[nI n,s]) zK zK zK zD rfl λbx=>?_;refine hv.kx (r:=[nI n,s]) (.cons (.cons .left)) (.head _) rfl h1 ⟨[iv 0,.slice none 0 0],rfl,rfl⟩ zO zO λv' C' tQ=>?_;refine ae.inc (az.of .tail ⟨i+1,rs++[[nI n,s]],v',C',N'++N,rfl,hlt,by simp[yl],by simp[xaj],tQ,?_⟩ (by simp only[bL];omega));intro j r k' hr hk';rw[xaj];by_cases hj:j<rs.length
  ·rw[xaH hj]at hr;exact(wo j r k' hr hk').mono λy hy=>xaa _ hy
  have Og:j=i:=by
   have:=(xag.1 hr).1;simp only[xai,xbP]at this;omega
  subst Og;rw[xaU zO,yl,xbT]at hr;rw[MJ]at hk';cases hr;cases hk';exact hT
 have SP:i=ps.length:=by omega
 subst SP;refine λve _ Tq h27=>?_;have hole:∀Z:Hp,aU Z ((ve,Obj.cells #[iv 0,.slice none 0 0] 30 zZ)::(b1,Obj.cells #[iv 0,.slice none 0 0] 30 zZ)::(C++Z)) (λX=>(ve,Obj.cells #[iv 0,.slice none 0 0] 30 zZ)::(b1,Obj.cells #[iv 0,.slice none 0 0] 30 zZ)::(C++X)):=λZ=>.cons (.cons (.app .here));have FX:(b,Obj.cells #[nI t.kd,nI t.vl,sl] 134 zZ)∈(ve,Obj.cells #[iv 0,.slice none 0 0] 30 zZ)::(b1,Obj.cells #[iv 0,.slice none 0 0] 30 zZ)::(C++(N++B)):=.tail _ (.tail _ (xaa _ (xaa _ hn)));have Gm:∀(w:zV) (N2 R:Hp),(∃tv,w=.tuple #[tv,iv 0]/\bZ (N2++(N++B)) tv n t.fn)->(∀x5:zV,aG ((ve,Obj.cells #[nI n,x5] 30 zZ)::(b1,Obj.cells #[iv 0,.slice none 0 0] 30 zZ)::(C++(N2++(N++B)))) R)->
   Ext 0 w λx=>Ext 1 w λe=>St 2 ((ve,Obj.cells #[iv 0,.slice none 0 0] 30 zZ)::(b1,Obj.cells #[iv 0,.slice none 0 0] 30 zZ)::(C++(N2++(N++B)))) (.pointer (some ⟨ve,0,none⟩)) x λH=>aG H R/\JE Tq [] H:=by
  rintro w N2 R ⟨tv,rfl,hT⟩ hR;obtain⟨s,rfl,hs1⟩:=hT.cell;have h1:∀u∈[nI n,s],u.oneCell'=true:=λu hu=>by
   simp only[xaf,xao,xaQ]at hu;rcases hu with rfl|rfl
   ·rfl
   exact hs1
  refine Ext.mk rfl (Ext.mk rfl (St.whole (r:=[nI n,s]) (.head _) rfl rfl h1 ⟨hR s,JE.mk (h27 _ λ_=>?_)⟩));refine av.whole (r:=[nI n,s]) (.head _) rfl (St.whole (r:=[nI n,s]) (.tail (.head _)) rfl rfl h1 (av.whole (r:=[nI n,s]) (.tail _ (.head _)) rfl ?_));exact Aj.mk (by repeat (first|exact bh.refl _|apply bh.cons|apply bh.app)) (hT.mono λy hy=>.tail _ (.tail _ (xaa _ hy)))
 have fin:∀(w:zV) (N2:Hp),(∃tv,w=.tuple #[tv,iv 0]/\bZ (N2++(N++B)) tv n t.fn)->
   Ext 0 w λx=>Ext 1 w λe=>St 2 ((ve,Obj.cells #[iv 0,.slice none 0 0] 30 zZ)::(b1,Obj.cells #[iv 0,.slice none 0 0] 30 zZ)::(C++(N2++(N++B)))) (.pointer (some ⟨ve,0,none⟩)) x λH=>JE Tq [] H:=by
  rintro w N2 ⟨tv,rfl,hT⟩;obtain⟨s,rfl,hs1⟩:=hT.cell;have h1:∀u∈[nI n,s],u.oneCell'=true:=λu hu=>by
   simp only[xaf,xao,xaQ]at hu;rcases hu with rfl|rfl
   ·rfl
   exact hs1
  refine Ext.mk rfl (Ext.mk rfl (St.whole (r:=[nI n,s]) (.head _) rfl rfl h1 (JE.mk (h27 _ λ_=>?_))));refine av.whole (r:=[nI n,s]) (.head _) rfl (St.whole (r:=[nI n,s]) (.tail (.head _)) rfl rfl h1 (av.whole (r:=[nI n,s]) (.tail _ (.head _)) rfl ?_));exact Aj.mk (by repeat (first|exact bh.refl _|apply bh.cons|apply bh.app)) (hT.mono λy hy=>.tail _ (.tail _ (xaa _ hy)))
 refine Nil.ptr (Ld.u (.tail _ (.tail _ (xaa _ (xaa _ hn)))) λSo Vw=>?_);have Zm:∀{j:Nat} {r:List zV} {Kc:zV->Prop},rs[j]? =some r->Kc (.agg r.toArray)->aj 2 W4 (iv ((j:Nat):Int)) λp=>av 2 ((ve,Obj.cells #[iv 0,.slice none 0 0] 30 zZ)::(b1,Obj.cells #[iv 0,.slice none 0 0] 30 zZ)::(C++(N++B))) p Kc:=λhx hk=>hv.r7 hx (λy hy=>.tail _ (.tail _ (xac _ hy))) hk;have get:∀{j:Nat} {r:List zV} {Kc:zV->Prop},rs[j]? =some r->Kc (.agg r.toArray)->aj 2 W4 (iv ((j:Nat):Int)) λp=>av 2 C p Kc:=λhx hk=>hv.r7 hx (λy hy=>hy) hk;have cS:∀(z:Array zV) (Z:Hp),aG ((ve,Obj.cells z 30 zZ)::(b1,Obj.cells #[iv 0,.slice none 0 0] 30 zZ)::(C++Z)) C:=λz Z=>.skip (.skip .left);have T3:So [.bool (decide (t.kd=1\/t.kd=2))] ((ve,Obj.cells #[iv 0,.slice none 0 0] 30 zZ)::(b1,Obj.cells #[iv 0,.slice none 0 0] 30 zZ)::(C++(N++B))):=by
  refine Vw _ _ λ_=>?_;cases t with
  |c k=>
   exact Br.R9 hf (Nil.ptr (Ld.u FX (ae.bA (b:=2) (aa.px (hole _) (jm yu _ _) λw N2 hD=>fin w N2 hD))))
  |v m=>
   dsimp only[Tr.kd,Tr.vl]at FX⊢;exact Br.F (ae.bA (b:=3) (Br.T (Nil.ptr (Ld.u FX (aa.px (hole _) (vD yu hf _) λw N2 hD=>fin w N2 hD)))))
  |no a=>
   obtain⟨x,hx⟩:∃x,rs[0]? =some x:=⟨_,xab (by rw[yl,mP];show 0<1;decide)⟩;have s1:=wo 0 x a hx rfl;dsimp only[Tr.kd,Tr.vl]at FX⊢;exact Br.F (ae.bA (b:=3) (Br.F (ae.bA (b:=4) (Br.T (Zm (j:=0) hx (aa.px (hole _) (DD s1) λw N2 hD=>fin w N2 hD))))))
  |bin k a b'=>
   obtain⟨x,hx⟩:∃x,rs[0]? =some x:=⟨_,xab (by rw[yl,mP];show 0<2;decide)⟩;obtain⟨y,hy⟩:∃y,rs[1]? =some y:=⟨_,xab (by rw[yl,mP];show 1<2;decide)⟩;have s1:=wo 0 x a hx rfl;have s2:=wo 1 y b' hy rfl;have Ya:=hf.1;have Bi:k=5\/k=6\/k=7\/k=8\/k=9:=by omega
   dsimp only[Tr.kd,Tr.vl]at FX⊢;rcases Bi with rfl|rfl|rfl|rfl|rfl
   ·exact Br.F (ae.bA (b:=3) (Br.F (ae.bA (b:=4) (Br.F (ae.bA (b:=5) (Br.T (DR.of (cS _ _) (get (j:=0) hx (get (j:=1) hy (aa.px (hole _) (iL (op:=8) zD s1 s2) λw N2 hD=>⟨cS _ _,Gm w N2 _ hD λ_=>cS _ _⟩))))))))))
   ·exact Br.F (ae.bA (b:=3) (Br.F (ae.bA (b:=4) (Br.F (ae.bA (b:=5) (Br.F (ae.bA (b:=6) (Br.T (DR.of (cS _ _) (get (j:=0) hx (get (j:=1) hy (aa.px (hole _) (iL (op:=6) zD s1 s2) λw N2 hD=>⟨cS _ _,Gm w N2 _ hD λ_=>cS _ _⟩))))))))))))
   ·exact Br.F (ae.bA (b:=3) (Br.F (ae.bA (b:=4) (Br.F (ae.bA (b:=5) (Br.F (ae.bA (b:=6) (Br.F (ae.bA (b:=7) (Br.T (DR.of (cS _ _) (get (j:=0) hx (get (j:=1) hy (aa.px (hole _) (iL (op:=14) zD s1 s2) λw N2 hD=>⟨cS _ _,Gm w N2 _ hD λ_=>cS _ _⟩))))))))))))))
   ·exact Br.F (ae.bA (b:=3) (Br.F (ae.bA (b:=4) (Br.F (ae.bA (b:=5) (Br.F (ae.bA (b:=6) (Br.F (ae.bA (b:=7) (Br.F (ae.bA (b:=8) (Br.T (DR.of (cS _ _) (get (j:=0) hx (get (j:=1) hy (aa.px (hole _) (iL (op:=11) zD s1 s2) λw N2 hD=>⟨cS _ _,Gm w N2 _ hD λ_=>cS _ _⟩))))))))))))))))
   exact Br.F (ae.bA (b:=3) (Br.F (ae.bA (b:=4) (Br.F (ae.bA (b:=5) (Br.F (ae.bA (b:=6) (Br.F (ae.bA (b:=7) (Br.F (ae.bA (b:=8) (Br.F (ae.bA (b:=9) (Br.T (DR.of (cS _ _) (get (j:=0) hx (get (j:=1) hy (aa.px (hole _) (iL (op:=9) zD s1 s2) λw N2 hD=>⟨cS _ _,Gm w N2 _ hD λ_=>cS _ _⟩))))))))))))))))))
  |ite a b' d=>
   obtain⟨x,hx⟩:∃x,rs[0]? =some x:=⟨_,xab (by rw[yl,mP];show 0<3;decide)⟩;obtain⟨y,hy⟩:∃y,rs[1]? =some y:=⟨_,xab (by rw[yl,mP];show 1<3;decide)⟩;obtain⟨z,hz⟩:∃z,rs[2]? =some z:=⟨_,xab (by rw[yl,mP];show 2<3;decide)⟩;have s1:=wo 0 x a hx rfl;have s2:=wo 1 y b' hy rfl;have s3:=wo 2 z d hz rfl;dsimp only[Tr.kd,Tr.vl]at FX⊢;exact Br.F (ae.bA (b:=3) (Br.F (ae.bA (b:=4) (Br.F (ae.bA (b:=5) (Br.F (ae.bA (b:=6) (Br.F (ae.bA (b:=7) (Br.F (ae.bA (b:=8) (Br.F (ae.bA (b:=9) (Br.F (DR.of (cS _ _) (get (j:=0) hx (get (j:=1) hy (get (j:=2) hz (aa.px (hole _) (qV s1 s2 s3) λw N2 hD=>⟨cS _ _,Gm w N2 _ hD λ_=>cS _ _⟩)))))))))))))))))))
 refine ae.bA (b:=1) (Br.dec (λh1=>?_) (λh1=>?_))
 ·rw[show(decide (t.kd=1))=decide (t.kd=1\/t.kd=2)by simp[h1]];exact JE.mk T3
 refine ae.bA (b:=2) ?_;rw[show(decide (t.kd=2))=decide (t.kd=1\/t.kd=2)by simp[h1]];exact JE.mk T3
theorem I1(t:Tr):Mm t:=by
 induction t with
 |c k=>exact g9 _ λa ha=>by cases ha
 |v k=>exact g9 _ λa ha=>by cases ha
 |no a i1=>
  exact g9 _ λk hk=>by
   simp only[Tr.kids,xaf,xao,xaQ]at hk;subst hk;exact i1
 |bin n a b i1 i2=>
  exact g9 _ λk hk=>by
   simp only[Tr.kids,xaf,xao,xaQ]at hk;rcases hk with rfl|rfl
   ·exact i1
   exact i2
 |ite a b d i1 i2 i3=>
  exact g9 _ λk hk=>by
   simp only[Tr.kids,xaf,xao,xaQ]at hk;rcases hk with rfl|rfl|rfl
   ·exact i1
   ·exact i2
   exact i3
theorem Fm.eA.len{p:Nat}{l:List UInt8}{o:List Tok}(h:eA p l o):o.length<=l.length+1:=by
 induction h with
 |fin=>simp
 |blank _ ih=>simp only[xar];omega
 |wrong=>simp
 |tok hb h _ ih=>
  have:=vH h;simp only[xar,xct]at ih this⊢;omega
theorem sF{kp:Nat}{K:Kd}{S:Nat->aq.Fn}{ord af tr:zL}{C:Hp}(hK:br kp K S ord af tr C)(l:List UInt8)(hB:∀s,K.hold s+32769+2^K.n<=65535):
  Fc zQ 9 #[ptr kp,bI l] C (λr H=>(H=C/\∃at_ e,Reads K.n l (.bad at_ e)/\r=.tuple #[u32 0,nI at_,nI e])\/∃t l' x e,Reads K.n l (.ok t l')/\r=.tuple #[u32 x,nI 0,nI e]/\MC kp K S ord af t.fn t.jT (.tuple #[u32 x,nI e]) H):=by
 refine aS λg=>Mq (ae.bf (Br.no (aa.eq (fw hK.rep) (aa.fn .here (uX l K.n C) ?_))));rintro r _ ⟨N,rfl,h|h⟩
 ·obtain⟨t,l',p,hr,rfl,ht⟩:=h;obtain⟨hf,hl⟩:=hr.wt λo ho=>ho.len;refine Ext.mk rfl (Ext.mk rfl (Ext.mk rfl (ae.nU (b:=0) (Br.F ?_))));refine aa.fn .here (LR t hK ht hf λs=>by have:=hB s;omega) ?_;rintro w _ ⟨C',rfl,hb⟩;rcases hb with⟨x,K',S',di,rfl,h1⟩|⟨rfl,h1⟩
  ·exact Ext.mk rfl (Ext.mk rfl (aN.mk .right (.inr ⟨t,l',x,0,hr,rfl,.inl ⟨x,K',S',di,rfl,h1⟩⟩)))
  exact Ext.mk rfl (Ext.mk rfl (aN.mk .right (.inr ⟨t,l',0,9,hr,rfl,.inr ⟨rfl,h1⟩⟩)))
 obtain⟨a,e,hr,rfl⟩:=h;have he:=hr.fit;exact Ext.mk rfl (Ext.mk rfl (Ext.mk rfl (ae.nU (b:=0) (Br.T (aN.mk .right (.inl ⟨rfl,a,e,hr,rfl⟩)) he))))
theorem uV{n:Nat}(hn:n<=16)(l:List UInt8)(B:Hp):
  Fc zQ 10 #[nI n,bI l] B (λr H=>∃N,H=N++B/\((∃at_ e,Reads n l (.bad at_ e)/\r=.tuple #[.agg #[nI 0,.slice none 0 0],nI at_,nI e])\/∃t l' v,Reads n l (.ok t l')/\r=.tuple #[v,nI 0,nI 0]/\bZ (N++B) v n t.fn)):=by
 refine aS λg=>Ik λb1 _=>ae.fe (b:=0) (Br.F (ae.kG (b:=16) (Br.F (aa.fn .here (uX l n _) ?_))));rintro r _ ⟨N,rfl,h|h⟩
 ·obtain⟨t,l',p,hr,rfl,ht⟩:=h;obtain⟨hf,hl⟩:=hr.wt λo ho=>ho.len;refine Ext.mk rfl (Ext.mk rfl (Ext.mk rfl (ae.nU (b:=0) (Br.F ?_))));refine aa.pre (pz N B _) (aa.px (.cons .here) (I1 t (ht.mono λy hy=>xac B hy) hf hn) ?_);intro v N2 hT;obtain⟨s,rfl,hs1⟩:=hT.cell;have h1:∀u∈[nI n,s],u.oneCell'=true:=λu hu=>by
   simp only[xaf,xao,xaQ]at hu;rcases hu with rfl|rfl
   ·rfl
   exact hs1
  refine St.whole (r:=[nI n,s]) (.head _) rfl rfl h1 (av.whole (r:=[nI n,s]) (.head _) rfl ?_);exact aN.mk .tail ⟨N2++N,by rw[xaj],.inr ⟨t,l',_,hr,rfl,by rw[xaj];exact hT⟩⟩
 obtain⟨a,e,hr,rfl⟩:=h;have he:=hr.fit;refine Ext.mk rfl (Ext.mk rfl (Ext.mk rfl (ae.nU (b:=0) (Br.T ?_ he))));refine Build.mk (cs:=[nI 0,.slice none 0 0]) zK (St.whole (r:=[nI 0,.slice none 0 0]) (.bB (.head _) _) rfl rfl (by simp[Value.oneCell']) (av.whole (r:=[nI 0,.slice none 0 0]) (xaa _ (.head _)) rfl ?_));exact aN.mk (.eE .tail) ⟨[],rfl,.inl ⟨a,e,hr,rfl⟩⟩
end
end Go.Proofs
namespace Go.Sx
open Go
section
variable {P:Program} {g:Gh} {H:Hp} {K:zV->Hp->Prop} {KP:List PanicEntry->Hp->Prop}
theorem bS.QX{o:Oper}{ρ:Operand->zV}{k:zV->Prop}{x y:Operand}{t yt te:TypeId}{a:Addr}{n:Nat}(ho:o.op=.binOp .neq t x y yt)(hx:ρ x=.pointer (some a))(hy:ρ y=.pointer (some a))(hd:P.underlying t=some (.pointer te))(hj:cy P te=some n)
 (hk:k (.bool false)):bS P g o ρ H k:=by
 obtain⟨j,hj,_⟩:=aV hj;refine⟨_,λw _=>?_,hk⟩;have e1:eqGuard .neq t x y (.pointer (some a)) (.pointer (some a))=pure ():=rfl;have e2:=Lib.run_neq_ptr_same (P:=P) w a hd hj;simp only[execOp,ho,hx,hy,e1,Sem.run_bind,Sem.run_pure,Result.andThen_ok,e2]
theorem bS.toUnsafe{o:Oper}{ρ:Operand->zV}{k:zV->Prop}{x:Operand}{src dst t T:TypeId}{b:Nat}{c:Array zV}{fz:Nat×Nat}{n:Nat}(ho:o.op=.convert src dst x)(hx:ρ x=.pointer (some ⟨b,0,none⟩))(hm:(b,Obj.cells c T fz)∈H)(hc:0<c.size)
 (hs:P.underlying src=some (.pointer t))(hd:P.underlying dst=some .unsafePointer)(hj:cy P t=some n)(hz:n≠0)(hk:k (.pointer (some ⟨b,0,none⟩))):bS P g o ρ H k:=by
 obtain⟨j,hj',rfl⟩:=aV hj;refine⟨_,λw hw=>?_,hk⟩;have:=Lib.run_to_unsafe (P:=P) w ⟨b,0,none⟩ hs hd hj' hz (hw.shape hm) hc;simp only[execOp,ho,hx,Sem.run_bind,this,Result.andThen_ok,Sem.run_pure]
theorem bS.Jz{o:Oper}{ρ:Operand->zV}{k:zV->Prop}{x:Operand}{src dst u T:TypeId}{b:Nat}{c:Array zV}{fz:Nat×Nat}{n:Nat}(ho:o.op=.convert src dst x)(hx:ρ x=.pointer (some ⟨b,0,none⟩))(hm:(b,Obj.cells c T fz)∈H)
 (hs:P.underlying src=some .unsafePointer)(hd:P.underlying dst=some (.pointer u))(hj:cy P u=some n)(hl:liesAt P P.depth T (c.size/P.cellsOf T) 0 u 1=true)(hk:k (.pointer (some ⟨b,0,none⟩))):bS P g o ρ H k:=by
 obtain⟨j,hj,_⟩:=aV hj;refine⟨_,λw hw=>?_,hk⟩;have:=Lib.run_from_unsafe (P:=P) w ⟨b,0,none⟩ hs hd hj (hw.shape hm) hl;simp only[execOp,ho,hx,Sem.run_bind,this,Result.andThen_ok,Sem.run_pure]
theorem dF.same{o:Oper}{ρ:Operand->zV}{x:Operand}{f:FuncId}{fn:Func}{ts:Array TypeId}(ho:o.op=.call ⟨.value (.func f),#[x],ts⟩)(hf:P.funcs[f]? =some fn)(hname:(fn.name== "runtime.NumGoroutine")=false)
 (hb:fn.body.isNone=true)(hn:Extern.findNext fn=none)(he:Extern.find fn=some Extern.AbiNoEscape.same)(hr:∀f,ρ (.func f)=.func (.func f) #[] #[])(hk:K (ρ x) H):dF P g o ρ H K KP:=by
 intro w hw;have e:=run_callFunc_extern (P:=P) hf hname hb hn he #[ρ x] w;rw[Lib.run_noEscape]at e;have:(execOp ρ o).run P w=.ok (.value (ρ x)) w:=by
  simp only[execOp,ho,resolve,hr];simpa[Deferred.ofValue,invoke]using e
 rw[this];exact⟨H,hw,hk⟩
theorem oT(l:List UInt8):∀r∈cf l,r.length=1:=λr hr=>by
 unfold cf at hr;obtain⟨b,_,rfl⟩:=xaq.1 hr;rfl
theorem vc(l:List UInt8):(cf l).flatten=l.map λb=>Value.int .u8 b.toNat:=by
 have:=po l;unfold rows at this;exact xbL Array.toList this
theorem strCells_eq(l:List UInt8):Lib.strCells ⟨l.toArray⟩=(cf l).flatten:=by rw[vc];rfl
theorem Lu:∀(rs:List (List zV)),(∀r∈rs,r.length=1)->rs.flatten.length=rs.length
 | [],_=>rfl
 |r::rs,h=>by
  rw[xcl,xai,Lu rs λx hx=>h x (.tail _ hx),h r (.head _),xar,xc1]
theorem dF.Sf{o:Oper}{ρ:Operand->zV}{x y:Operand}{t u e:TypeId}{v:zV}{rs:List (List zV)}{l:List UInt8}{C:Hp}{c:Hp->Hp}(ho:o.op=.call ⟨.builtin .append,#[x,y],#[t,u]⟩)
 (ht:P.underlying t=some (.slice e))(hu:P.underlying u=some .string)(hi:(P.info? e).map (λi=>(i.size,i.bytes,i.zero))=some (1,1,some (.int .u8 0)))
 (hx:ρ x=v)(hy:ρ y=bI l)(h:aH e 1 v rs C)(hh:aU C H c)(hl:l≠[])(hb:rs.length+l.length<=1099511627776)
 (hk:∀v' C',aH e 1 v' (rs++cf l) C'->K v' (c C')):dF P g o ρ H K KP:=by
 obtain⟨i,hi,e0⟩:=xds.1 hi;obtain⟨h1,hby,hz⟩:i.size=1/\i.bytes=1/\i.zero=some (.int .u8 0):=by simpa using e0
 have hpos:0<l.length:=xdI.2 hl;obtain⟨hH,F,hF⟩:=hh.spec;have sz:(⟨l.toArray⟩:ByteArray).size=l.length:=by simp[ByteArray.size]
 refine dF.ofValue (s:=Builtin.append_ #[t,u] o.type #[v,bI l]) (by simp[execOp,ho,hx,hy,resolve,invoke,builtin,bind,Sem.bind];rfl) λw hw=>?_;rw[hH]at hw;have gD:=hw.perm (hF C);have Pn:∀m,Builtin.zeroCells (Value.int .u8 0).cells m=rows (List.replicate m [Value.int .u8 0]):=λm=>kS [Value.int .u8 0] rfl m;have hnew:(⟨l.toArray⟩:ByteArray).data.map (λb=>Value.int .u8 b.toNat)=rows (cf l):=by
  rw[po];simp
 have KO:(cf l).length=l.length:=by simp[cf]
 have TN:∀m,∀r∈List.replicate m [Value.int .u8 0],r.length=1:=λm r hr=>by rw[xbM hr];rfl
 have Mh:∀(a b':List (List zV)),(∀r∈a,r.length=1)->(∀r∈b',r.length=1)->∀r∈a++b',r.length=1:=λa b' ha hb r hr=>(xal.1 hr).elim (ha r) (hb r);rcases h with⟨rfl,rfl,rfl⟩|⟨b,aC,rfl,rfl,aI⟩
 ·have hge:=grownCap_ge w l.length 0 e;have hr:=run_append_nil_string (P:=P) w t u o.type e i _ ht hu hi hz ⟨l.toArray⟩ (by rw[sz];exact hpos) (by rw[sz];simp only[xbe]at hb;omega) (by rw[sz,hby];simp only[xbe]at hb;omega);rw[hnew,Pn,cq,sz]at hr;refine⟨_,_,_,hr,(Own.perm (gD.drew.alloc _) (hF [(w.heap.size,_)]).symm),hk _ _ (.inr ⟨w.heap.size,_,?_,rfl,?_⟩)⟩
  ·simp only[xaW,KO,xcz];congr 1;omega
  exact Mh _ _ (oT l) (TN _)
 have yl:∀r∈rs,r.length=1:=λr hr=>aI r (xac _ hr);have hju:∀r∈aC,r.length=1:=λr hr=>aI r (xaa _ hr);have hfl:=Lu rs yl;have hg:=gD.has _ (xac _ (xaL.2 rfl));by_cases hroom:l.length<=aC.length
 ·have hr:=Lib.run_append_room_string (P:=P) w t u o.type e i ht hu hi h1 b rs.length (rs.length+aC.length) _ hg ⟨l.toArray⟩ (by rw[sz];omega) (by rw[sz,aZ aI,xai];omega);have hc:((rows (rs++aC)).toList.take rs.length++Lib.strCells ⟨l.toArray⟩++(rows (rs++aC)).toList.drop (rs.length+(⟨l.toArray⟩:ByteArray).size)).toArray=rows (rs++cf l++aC.drop l.length):=by
   rw[strCells_eq,sz];unfold rows;simp only[xbu];have e1:(rs.flatten++aC.flatten).take rs.length=rs.flatten:=by rw[<-hfl,xdn]
   have e2:(rs.flatten++aC.flatten).drop (rs.length+l.length)=(aC.drop l.length).flatten:=by
    rw[<-hfl,xdx,List.drop_of_length_le zO,xaW,show rs.flatten.length+l.length-rs.flatten.length=l.length by omega]
    conv=>lhs;rw[<-xbk l.length aC,xbu]
    have e3:=Lu (aC.take l.length) λr hr=>hju r (xci hr);rw[xbw,xch hroom]at e3;exact List.drop_left' e3
   rw[e1,e2]
  rw[hc,sz]at hr;have tE:cT b (.cells (rows (rs++aC)) e zZ) (.cells (rows (rs++cf l++aC.drop l.length)) e zZ) ([(b,.cells (rows (rs++aC)) e zZ)]++F) ([(b,.cells (rows (rs++cf l++aC.drop l.length)) e zZ)]++F):=cT.head _;have cg:Own g ([(b,.cells (rows (rs++cf l++aC.drop l.length)) e zZ)]++F) (w.setRow b (rows (rs++cf l++aC.drop l.length))):=by
   refine gD.bJ tE rfl rfl rfl (setRow_heap _ _ _ _ _ _ hg) λk hk=>?_;unfold World.setRow;rw[xbs,xad (xbp hk)]
  refine⟨_,_,_,hr,cg.perm (hF [_]).symm,hk _ _ (.inr ⟨b,aC.drop l.length,?_,rfl,?_⟩)⟩
  ·simp only[xai,KO,xct];congr 1;omega
  exact Mh _ _ (Mh _ _ yl (oT l)) λr hr=>hju r (List.mem_of_mem_drop hr)
 have hge:=grownCap_ge w (rs.length+l.length) (rs.length+aC.length) e;have hr:=Lib.run_append_grow_string (P:=P) w t u o.type e i _ ht hu hi hz ⟨b,0,none⟩ rs.length (rs.length+aC.length) rs.flatten (by rw[hfl,h1,xb6]) (λj v hv=>by
  have hj:j<rs.flatten.length:=(xag.1 hv).1;have:=gD.cell (xac _ (xaL.2 rfl)) j;rw[Addr.add_lit,xa1,this];unfold rows;rw[xcd,xbu,xaH hj,hv]) ⟨l.toArray⟩ (by rw[sz];omega) (by rw[sz];omega) (growslice_fits (by rw[sz];omega) (by rw[sz,hby];omega))
 have hc:(rs.flatten.toArray++(Lib.strCells ⟨l.toArray⟩).toArray++Builtin.zeroCells (Value.int .u8 0).cells (grownCap w (rs.length+(⟨l.toArray⟩:ByteArray).size) (rs.length+aC.length) e-(rs.length+(⟨l.toArray⟩:ByteArray).size)))=rows (rs++cf l++List.replicate (grownCap w (rs.length+l.length) (rs.length+aC.length) e-(rs.length+l.length)) [Value.int .u8 0]):=by
  rw[strCells_eq,Pn,sz];show rows rs++rows (cf l)++_=_;rw[cq,cq]
 rw[hc,sz]at hr;have cg:=(Own.perm (gD.drew.alloc (.cells (rows (rs++cf l++List.replicate (grownCap w (rs.length+l.length) (rs.length+aC.length) e-(rs.length+l.length)) [Value.int .u8 0])) e)) (List.Perm.swap _ _ _)).tail;refine⟨_,_,_,hr,Own.perm cg (hF [(w.heap.size,_)]).symm,hk _ _ (.inr ⟨w.heap.size,_,?_,rfl,?_⟩)⟩
 ·simp only[xai,KO,xcz];congr 1;omega
 exact Mh _ _ (Mh _ _ yl (oT l)) (TN _)
theorem dF.Fh{o:Oper}{ρ:Operand->zV}{x:Operand}{t:TypeId}{a:Addr}{n c:Nat}(ho:o.op=.call ⟨.builtin .unsafeSliceData,#[x],#[t]⟩)(hx:ρ x=.slice (some a) n c)(hc:c≠0)(hk:K (.pointer (some a)) H):dF P g o ρ H K KP:=by
 refine dF.ofValue (s:=Builtin.unsafeSliceData_ #[t] o.type #[.slice (some a) n c]) (by simp[execOp,ho,hx,resolve,invoke,builtin,bind,Sem.bind];rfl) λw hw=>?_;exact⟨_,w,H,Lib.run_unsafeSliceData_row w _ _ _ _ _ hc,hw,hk⟩
theorem dF.unsafeString{o:Oper}{ρ:Operand->zV}{x y:Operand}{pt it e:TypeId}{b:Nat}{l:List UInt8}{aC:List (List zV)}{c:Hp->Hp}(ho:o.op=.call ⟨.builtin .unsafeString,#[x,y],#[pt,it]⟩)
 (hp:P.underlying pt=some (.pointer e))(Wu:P.cellsOf e=1)(hx:ρ x=.pointer (some ⟨b,0,none⟩))(hy:ρ y=.int .i64 (l.length:Int))(hl:l≠[])(hj:∀r∈aC,r.length=1)(h63:l.length<=9223372036854775807)
 (hh:aU [(b,.cells (rows (cf l++aC)) e zZ)] H c)(hk:K (bI l) (c [(b,.cells (rows (cf l++aC)) e (0,l.length))])):dF P g o ρ H K KP:=by
 obtain⟨hH,F,hF⟩:=hh.spec;have hl0:l.length≠0:=by simpa using hl
 refine dF.ofValue (s:=Builtin.unsafeString_ #[pt,it] o.type #[.pointer (some ⟨b,0,none⟩),.int .i64 (l.length:Int)]) (by simp[execOp,ho,hx,hy,resolve,invoke,builtin,bind,Sem.bind];rfl) λw hw=>?_;rw[hH]at hw;have gD:=hw.perm (hF _);have hm:(b,Obj.cells (rows (cf l++aC)) e zZ)∈[(b,Obj.cells (rows (cf l++aC)) e zZ)]++F:=xac _ (.head _);have aI:∀r∈cf l++aC,r.length=1:=λr hr=>(xal.1 hr).elim (oT l r) (hj r);have hsz:(rows (cf l++aC)).size=l.length+aC.length:=by rw[aZ aI,xai];simp[cf]
 have hr:=Lib.run_unsafeString_row (P:=P) w pt it o.type e hp Wu b _ (gD.shape hm) l hl (by rw[hsz];omega) h63 (λj u hu=>by
  rw[Addr.add_lit,xa1,gD.cell hm j];unfold rows;have hb:=vc l;have Oe:j<(cf l).flatten.length:=by rw[hb,xaz];exact(xag.1 hu).1
  rw[xcd,xbu,xaH Oe,hb,xat,hu];rfl)
 have tE:cT b (.cells (rows (cf l++aC)) e zZ) (.cells (rows (cf l++aC)) e (0,l.length)) ([(b,.cells (rows (cf l++aC)) e zZ)]++F) ([(b,.cells (rows (cf l++aC)) e (0,l.length))]++F):=cT.head _;have hg:=gD.has _ hm;have cg:Own g ([(b,.cells (rows (cf l++aC)) e (0,l.length))]++F) (w.freeze ⟨b,0,none⟩ l.length):=by
  unfold World.freeze;rw[xad hl0];refine gD.bJ tE rfl rfl rfl ?_ λk hk=>?_
  ·show(w.heap.modify b _)[b]? =_;rw[xbs,xae rfl];simp only at hg;rw[hg];simp
  show(w.heap.modify b _)[k]? =_;rw[xbs,xad (xbp hk)]
 exact⟨_,_,_,hr,cg.perm (hF [_]).symm,hk⟩
end
end Go.Sx
set_option maxRecDepth 100000
namespace Go.Proofs
open Go Go.Sx Tryz
section
variable {bb:Nat} {a buf:zV} {L:Hp} {l:List UInt8} {B:Hp}
abbrev WM(bb:Nat)(a buf:zV):Nat×Obj:=(bb,.cells #[a,buf] 68 zZ)
theorem zi(ha:a=.pointer none\/a=bE bb)(h1:buf.oneCell'=true):Fc zQ 92 #[bE bb] [WM bb a buf] (λ_ H=>H=[WM bb (bE bb) buf]):=by
 refine aS λg=>GQ (Nil.ptr (Ld.u (.head _) ?_));rcases ha with rfl|rfl
 ·refine⟨.bool true,by simp[fD],?_⟩;refine Br.yes (bS.toUnsafe (t:=68) rfl rfl (.head _) (show 0<2 by decide) zK zK zK (n:=2) zD ?_);refine dF.same rfl func128 zK zK zK zK (λ_=>rfl) ?_;refine bS.Jz (u:=68) rfl rfl (.head _) zK zK (n:=2) zK zK (Nil.ptr (.mk ?_));exact St.one (c':=#[bE bb,buf]) (.head _) rfl (show 0<2 by decide) rfl (aN.mk (.refl _) rfl)
 refine ae.bf (Br.no (Nil.ptr (Ld.u (.head _) ?_)));exact bS.QX (te:=68) rfl rfl rfl zK (n:=2) zK (Br.no (aN.mk (.refl _) rfl))
theorem zg(l m:List UInt8):cf (l++m)=cf l++cf m:=by unfold cf;rw[xaG]
structure Qr(bb:Nat)(l:List UInt8)(H:Hp):Prop where
 is:∃a buf L,H=WM bb a buf::L/\aH 5 1 buf (cf l) L/\(a=.pointer none\/a=bE bb)
theorem oV(h:Qr bb l B)(c:UInt8)(hm:l.length<1099511627776):Fc zQ 46 #[bE bb,.int .u8 (c.toNat:Int)] B (λ_ H=>Qr bb (l++[c]) H):=by
 obtain⟨a,buf,L,rfl,hs,ha⟩:=h.is;have h1:buf.oneCell'=true:=by obtain⟨a',c',e⟩:=hs.len;rw[e];rfl
 have hlen:(cf l).length=l.length:=by simp[cf]
 refine aS λg=>HD (aa.fn (.left (C:=[_])) (zi ha h1) ?_);rintro _ _ rfl;refine Nil.ptr (Ld.u (.head _) ?_);refine ai.pU (e:=5) (z:=.int .u8 0) [.int .u8 (c.toNat:Int)] zK zK zK (show 1<=16777216 by decide) (by simp[Value.oneCell']) rfl rfl λbx=>?_;refine hs.kx (r:=[.int .u8 (c.toNat:Int)]) (.cons (.app .here)) (.head _) rfl (by simp[Value.oneCell']) ⟨[.int .u8 0],rfl,rfl⟩ zO zO λv' L' hs'=>?_;refine Nil.ptr (.mk (St.one (c':=#[bE bb,v']) (.tail (.head _)) (by obtain⟨a',c',e⟩:=hs'.len;rw[e];rfl) (show 1<2 by decide) rfl ?_));exact aN.mk .tail ⟨_,v',L',rfl,by rw[zg];exact hs',.inr rfl⟩
theorem O0(h:Qr bb l B)(s:List UInt8)(h0:s≠[])(hm:l.length+s.length<1099511627776):Fc zQ 47 #[bE bb,bI s] B (λ_ H=>Qr bb (l++s) H):=by
 obtain⟨a,buf,L,rfl,hs,ha⟩:=h.is;have h1:buf.oneCell'=true:=by obtain⟨a',c',e⟩:=hs.len;rw[e];rfl
 have hlen:(cf l).length=l.length:=by simp[cf]
 refine aS λg=>HC (aa.fn (.left (C:=[_])) (zi ha h1) ?_);rintro _ _ rfl;refine Nil.ptr (Ld.u (.head _) ?_);refine dF.Sf rfl zK zK (e:=5) zK rfl rfl hs (.app .here) h0 zO λv' L' hs'=>?_;refine Nil.ptr (.mk (St.one (c':=#[bE bb,v']) (.head _) (by obtain⟨a',c',e⟩:=hs'.len;rw[e];rfl) (show 1<2 by decide) rfl (dR.of ?_)));exact aN.mk (.refl _) ⟨_,v',L',rfl,by rw[zg];exact hs',.inr rfl⟩
theorem oH(h:Qr bb l B):Rd zQ 19 #[bE bb] B (· =nI l.length):=by
 obtain⟨a,buf,L,rfl,hs,ha⟩:=h.is;have hlen:(cf l).length=l.length:=by simp[cf]
 refine aS λg=>Ib (Nil.ptr (Ld.u (.head _) (hs.bH (bX.mk (.refl _) ?_))));rw[hlen]
theorem Bm(h:Qr bb l B)(h0:l≠[])(hm:l.length<1099511627776):Fc zQ 20 #[bE bb] B (λv H=>v=bI l):=by
 obtain⟨a,buf,L,rfl,hs,ha⟩:=h.is;have hlen:(cf l).length=l.length:=by simp[cf]
 have hpos:=xdI.2 h0;rcases hs with⟨_,e,_⟩|⟨b,aC,rfl,rfl,aI⟩
 ·rw[e]at hlen;simp at hlen;omega
 refine aS λg=>Ia (DR.of (.qJ (.head _)) (Nil.ptr (Ld.u (.head _) (Nil.ptr (Ld.u (.head _) (aX.mk ?_))))));refine dF.Fh rfl rfl zO ⟨.qJ (.head _),?_⟩;refine dF.unsafeString rfl zK zK (e:=5) (l:=l) rfl (by rw[hlen];rfl) h0 (λr hr=>aI r (xaa _ hr)) zO (.cons .here) ⟨.qJ (.head _),?_⟩;exact aN.mk (.refl _) rfl
end
end Go.Proofs
namespace Go.Proofs.Fm
def ef:Tr->List UInt8
 | .c k=>[if k=2 then 49 else 48]
 | .ite (.v n) a b=>([91,120]++[UInt8.ofNat (48+n)]++[63])++ef a++[58]++ef b++[93]
 |_=>[]
inductive Wr:Tr->Prop
 |c0:Wr (.c 1)
 |c1:Wr (.c 2)
 |n {v:Nat} {a b:Tr}:v<10->Wr a->Wr b->Wr (.ite (.v v) a b)
def Tr.Ah:Tr->Nat
 | .ite _ a b=>max a.Ah b.Ah+1
 |_=>0
def z7:Tr->Nat->List Tok
 | .c k,p=>[⟨k,p,0⟩]
 | .ite (.v n) a b,p=>⟨12,p,0⟩::⟨3,p+1,n⟩::⟨13,p+3,0⟩::(z7 a (p+4)++(⟨14,p+4+(ef a).length,0⟩::(z7 b (p+5+(ef a).length)++[⟨15,p+5+(ef a).length+(ef b).length,0⟩])))
 |_,_=>[]
theorem eA.step{p k v w:Nat}{b:UInt8}{r:List UInt8}{o:List Tok}(h:cX (b::r)=(k,v,w))(hb:b≠32)(hk:k≠16)(ht:eA (p+w) ((b::r).drop w) o):eA p (b::r) (⟨k,p,v⟩::o):=by
 have:=eA.tok (p:=p) (b:=b) (r:=r) (o:=o) hb (by rw[h];exact hk) (by rw[h];exact ht);rw[h]at this;exact this
theorem Xg(r:List UInt8):cX (48::r)=(1,0,1):=rfl
theorem Xf(r:List UInt8):cX (49::r)=(2,0,1):=rfl
theorem Xc(r:List UInt8):cX (91::r)=(12,0,1):=rfl
theorem Xd(r:List UInt8):cX (63::r)=(13,0,1):=rfl
theorem Xe(r:List UInt8):cX (58::r)=(14,0,1):=rfl
theorem Xb(r:List UInt8):cX (93::r)=(15,0,1):=rfl
theorem tkx{n:Nat}(hn:n<10)(r:List UInt8):cX (120::UInt8.ofNat (48+n)::63::r)=(3,n,2):=by
 have:n=0\/n=1\/n=2\/n=3\/n=4\/n=5\/n=6\/n=7\/n=8\/n=9:=by omega
 rcases this with rfl|rfl|rfl|rfl|rfl|rfl|rfl|rfl|rfl|rfl<;>rfl
theorem IC{t:Tr}(ht:Wr t):∀(p:Nat) (r:List UInt8) (o:List Tok),eA (p+(ef t).length) r o->eA p (ef t++r) (z7 t p++o):=by
 induction ht with
 |c0=>exact λp r o h=>eA.step (Xg r) zD zD h
 |c1=>exact λp r o h=>eA.step (Xf r) zD zD h
 | @n v a b hv _ _ ia ib=>
  intro p r o h;have e:ef (.ite (.v v) a b)++r=91::120::UInt8.ofNat (48+v)::63::(ef a++(58::(ef b++(93::r)))):=by simp[ef]
  have el:(ef (.ite (.v v) a b)).length=6+(ef a).length+(ef b).length:=by simp only[ef,xai,xar,xbe];omega
  have et:z7 (.ite (.v v) a b) p++o=⟨12,p,0⟩::⟨3,p+1,v⟩::⟨13,p+3,0⟩::(z7 a (p+4)++(⟨14,p+4+(ef a).length,0⟩::(z7 b (p+5+(ef a).length)++(⟨15,p+5+(ef a).length+(ef b).length,0⟩::o)))):=by simp[z7]
  rw[e,et];rw[el]at h;refine eA.step (Xc _) zD zD (eA.step (tkx hv _) zD zD (eA.step (Xd _) zD zD (ia (p+4) _ _ (eA.step (Xe _) zD zD ?_))));rw[show p+4+(ef a).length+1=p+5+(ef a).length by omega];refine ib _ _ _ (eA.step (Xb _) zD zD ?_);rw[show p+5+(ef a).length+(ef b).length+1=p+(6+(ef a).length+(ef b).length)by omega];exact h
theorem Ev.kB{n dp:Nat}{t:Tr}{l:List Tok}{x:Tok}{l':List Tok}(h:Ev n (jX n (.tight dp l)) (.ok t (x::l')))(hx:x.k<5\/10<=x.k):∀j lv,lv+j=5->Ev n (jX n (.kB lv dp l)) (.ok t (x::l'))
 |0,lv,e=>by
  have:lv=5:=by omega
  subst this;exact .call h .done
 |j+1,lv,e=>by
  have h2:=Ev.kB h hx j (lv+1) zO;show Ev n (if lv=5 then _ else _) _;rw[xad zO];refine .call h2 (.call ?_ .done);show Ev n (if x.k=iH lv then _ else _) _;have:=DJ lv;rw[xad zO];exact .done
theorem Ev.eW{n k:Nat}{t:Tr}{x:Tok}{l:List Tok}{f:Tr->List Tok->Pl}{r:Rs}(hk:x.k=k)(h:Ev n (f t l) r):Ev n ((Rs.ok t (x::l)).eW k f) r:=by
 show Ev n (if x.k=k then _ else _) r;rw[xae hk];exact h
theorem Qv{n:Nat}{t:Tr}(ht:Wr t):∀(p dp:Nat) (x:Tok) (l:List Tok),t.Fit n->dp+t.Ah<=1000->Ev n (jX n (.tight dp (z7 t p++x::l))) (.ok t (x::l)):=by
 induction ht with
 |c0=>exact λp dp x l _ _=>.done
 |c1=>exact λp dp x l _ _=>.done
 | @n v a b hv _ _ ia ib=>
  intro p dp x l hf hd;have et:z7 (.ite (.v v) a b) p++x::l=⟨12,p,0⟩::⟨3,p+1,v⟩::⟨13,p+3,0⟩::(z7 a (p+4)++(⟨14,p+4+(ef a).length,0⟩::(z7 b (p+5+(ef a).length)++(⟨15,p+5+(ef a).length+(ef b).length,0⟩::x::l)))):=by simp[z7]
  rw[et];have cV:dp+(max a.Ah b.Ah+1)<=1000:=hd;have hvn:v<n:=hf.1;show Ev n (if 1000<=dp then _ else _) _;rw[xad zO];have ev:Ev n (jX n (.tight (dp+1) (⟨3,p+1,v⟩::⟨13,p+3,0⟩::(z7 a (p+4)++(⟨14,p+4+(ef a).length,0⟩::(z7 b (p+5+(ef a).length)++(⟨15,p+5+(ef a).length+(ef b).length,0⟩::x::l))))))) (.ok (.v v) (⟨13,p+3,0⟩::(z7 a (p+4)++(⟨14,p+4+(ef a).length,0⟩::(z7 b (p+5+(ef a).length)++(⟨15,p+5+(ef a).length+(ef b).length,0⟩::x::l)))))):=by
   show Ev n (if n<=v then _ else _) _;rw[xad zO];exact .done
  refine .call (Ev.kB ev (.inr (by show 10<=13;decide)) 5 0 rfl) (Ev.eW rfl ?_);refine .call (Ev.kB (ia (p+4) (dp+1) _ _ hf.2.1 zO) (.inr (by show 10<=14;decide)) 5 0 rfl) (Ev.eW rfl ?_);exact .call (Ev.kB (ib _ (dp+1) _ _ hf.2.2 zO) (.inr (by show 10<=15;decide)) 5 0 rfl) (Ev.eW rfl .done)
theorem EZ{n:Nat}{t:Tr}(ht:Wr t)(hf:t.Fit n)(hd:t.Ah<=1000)(hl:(ef t).length<=65536):Reads n (ef t) (.ok t []):=by
 have h1:=IC ht 0 [] [⟨0,0+(ef t).length,0⟩] .fin;rw[xaP]at h1;refine .mk hl h1 (.call (Ev.kB (Qv ht 0 0 _ _ hf zO) (.inl (by show 0<5;decide)) 5 0 rfl) (Ev.eW rfl .done))
theorem ID{n:Nat}:∀{t:Tr},Wr t->t.Fit n->∀k,t.Ah<=k->∃L:List (Nat->Bool),L.length+1<=2^k/\(∀g∈L,t.jT g)/\∀g,t.jT g->g∈L\/(∃b:Bool,g=λ_=>b)\/∃v,v<n/\g=λx=>x.testBit v:=by
 intro t ht;induction ht with
 |c0=>exact λ_ k _=>⟨[],xbE,nofun,λg hg=>.inr (.inl ⟨false,hg⟩)⟩
 |c1=>exact λ_ k _=>⟨[],xbE,nofun,λg hg=>.inr (.inl ⟨true,hg⟩)⟩
 | @n v a b hv _ _ ia ib=>
  intro hf k hk;have hk':max a.Ah b.Ah+1<=k:=hk;obtain⟨j,rfl⟩:∃j,k=j+1:=⟨k-1,by omega⟩;obtain⟨La,a1,a2,a3⟩:=ia hf.2.1 j zO;obtain⟨Lb,b1,b2,b3⟩:=ib hf.2.2 j zO;refine⟨(Tr.ite (.v v) a b).fn::(La++Lb),?_,?_,?_⟩
  ·rw[xar,xai,xc4];omega
  ·intro g hg;rcases xaf.1 hg with rfl|hg
   ·exact Or.inl rfl
   rcases xal.1 hg with hg|hg
   ·exact Or.inr (Or.inr (Or.inl (a2 g hg)))
   exact Or.inr (Or.inr (Or.inr (b2 g hg)))
  rintro g (hg|hg|hg|hg)
  ·subst hg;exact .inl (.head _)
  ·exact .inr (.inr ⟨v,hf.1,hg⟩)
  ·rcases a3 g hg with h|h
   ·exact .inl (.tail _ (xac _ h))
   exact .inr h
  rcases b3 g hg with h|h
  ·exact .inl (.tail _ (xaa _ h))
  exact .inr h
theorem MX{t:Tr}(ht:Wr t):∀k,t.Ah<=k->(ef t).length+6<=7*2^k:=by
 induction ht with
 |c0=>intro k _;show 1+6<=7*2^k;have:1<=2^k:=xbE;omega
 |c1=>intro k _;show 1+6<=7*2^k;have:1<=2^k:=xbE;omega
 | @n v a b hv _ _ ia ib=>
  intro k hk;have hk':max a.Ah b.Ah+1<=k:=hk;obtain⟨j,rfl⟩:∃j,k=j+1:=⟨k-1,by omega⟩;have h1:=ia j zO;have h2:=ib j zO;have el:(ef (.ite (.v v) a b)).length=6+(ef a).length+(ef b).length:=by simp only[ef,xai,xar,xbe];omega
  rw[el,xc4];omega
end Go.Proofs.Fm
set_option maxRecDepth 100000
namespace Go.Proofs
open Go Go.Sx Tryz
section
open Fm aq
def Zw:List UInt8:=[48,49,50,51,52,53,54,55,56,57,97,98,99,100,101,102,103,104,105,106,107,108,109,110,111,112,113,114,115,116,117,118,119,120,121,122]
theorem Gg{n:Nat}(hn:n<10)(B:Hp):Rd zQ 155 #[nI n] B (· =bI [UInt8.ofNat (48+n)]):=by
 refine aS λg=>Ch (ae.fe (b:=10) (Br.T (ae.inc ?_)));refine bS.vK (l:=Zw) (i:=n) (j:=n+1) rfl zK rfl (.inr ⟨_,.i64,rfl,rfl⟩) (.inr ⟨_,.i64,rfl,rfl⟩) (Nat.le_succ _) (by show n+1<=36;omega) (bX.mk (.refl _) ?_);have:n=0\/n=1\/n=2\/n=3\/n=4\/n=5\/n=6\/n=7\/n=8\/n=9:=by omega
 rcases this with rfl|rfl|rfl|rfl|rfl|rfl|rfl|rfl|rfl|rfl<;>rfl
theorem A8{n:Nat}(hn:n<10)(B:Hp):Rd zQ 129 #[nI n,nI 10] B (· =bI [UInt8.ofNat (48+n)]):=by
 refine aS λg=>CV (ae.bA (a:=10) (b:=10) (Br.T (ae.wZ (a:=0) (dr.and (decide (n<100)) (λ_=>ae.fe (b:=100) ⟨rfl,rfl⟩) rfl λ_=>?_))));rw[xaA (xaK n),xaA (show n<100 by omega)];exact Br.yes (aa.eh .here (Gg hn B) (bX.mk (.refl _) rfl))
theorem Gk{n:Nat}(hn:n<10)(B:Hp):Rd zQ 93 #[nI n] B (· =bI [UInt8.ofNat (48+n)]):=by
 exact aS λg=>GP (aa.eh .here (A8 hn B) (bX.mk (.refl _) rfl))
theorem Lv{n:Nat}(hn:n<10)(B:Hp):Rd zQ 48 #[nI n] B (· =bI [UInt8.ofNat (48+n)]):=by
 exact aS λg=>HB (aa.eh .here (Gk hn B) (bX.mk (.refl _) rfl))
inductive mi(N:dA):Nat->Tr->Prop
 |c0:mi N 0 (.c 1)
 |c1:mi N 1 (.c 2)
 |n {r:Nat} {d:Nd} {a b:Tr}:N r=some d->2<=r->mi N d.hi a->mi N d.lo b->mi N r (.ite (.v d.v) a b)
section
variable {kp bb:Nat} {K:Kd} {S:Nat->aq.Fn} {ord af tr:zL} {C:Hp}
theorem II(hK:br kp K S ord af tr C)(hv:∀r d,K.N r=some d->d.v<10){r:Nat}{t:Tr}(ht:mi K.N r t):∀(l:List UInt8) (B:Hp),Qr bb l B->l.length+(ef t).length<=65536->
  Fc zQ 18 #[ptr kp,bE bb,u32 r] (B++C) (λ_ H=>∃B',H=B'++C/\Qr bb (l++ef t) B'):=by
 induction ht with
 |c0=>
  intro l B hB hl;refine aS λg=>p5 λJ1 h1=>aa.rd .left (oH hB) ?_;rintro _ rfl;refine ae.kG (b:=65536) (Br.F (JE.mk (h1 _ λ_=>?_)));refine ae.wZ (a:=0) (b:=1) (Br.T (aO.nat (a:=0) zD (ae.zq (a:=48) zD (aa.fn .left (oV hB 48 zO) ?_))));intro v B' R4;exact aN.mk (.refl _) ⟨B',rfl,R4⟩
 |c1=>
  intro l B hB hl;refine aS λg=>p5 λJ1 h1=>aa.rd .left (oH hB) ?_;rintro _ rfl;refine ae.kG (b:=65536) (Br.F (JE.mk (h1 _ λ_=>?_)));refine ae.wZ (a:=1) (b:=1) (Br.T (aO.nat (a:=1) zD (ae.zq (a:=48) zD (aa.fn .left (oV hB 49 zO) ?_))));intro v B' R4;exact aN.mk (.refl _) ⟨B',rfl,R4⟩
 | @n r d a b hd h2 ha hb ia ib=>
  intro l B hB hl;have hlen:(ef (.ite (.v d.v) a b)).length=6+(ef a).length+(ef b).length:=by
   simp only[ef,xai,xar,xbe];omega
  have hlr:live K.N r:=.inr ⟨d,hd⟩;refine aS λg=>p5 λJ1 h1=>aa.rd .left (oH hB) ?_;rintro _ rfl;refine ae.kG (b:=65536) (Br.F (JE.mk (h1 _ λ_=>?_)));refine ae.wZ (a:=r) (b:=1) (Br.F ?_);refine aa.eh (args:=#[ptr kp,u32 r]) (.app .here) (gg hK.rep (by have:=hK.bp hlr;omega)) ?_;rw[de hd h2];refine Ext.mk rfl (Ext.mk rfl λgz _=>St.whole (r:=aY d) (.head _) rfl rfl (by intro v hv;simp only[aY,xaf,xao,xaQ]at hv;rcases hv with rfl|rfl|rfl<;>rfl) (Ld.u (.head _) ?_));refine aa.eh .here (Lv (hv r d hd) _) (ae.I9 (a:=[91,120]) zI (ae.I9 (b:=[63]) zI ?_));refine aa.fn (.cons .left) (O0 hB _ zI zP) ?_;intro _ B1 yE;refine Ld.u (.head _) (aa.fn (.cons .here) (ia _ B1 yE (by simp only[xai,xar,xbe];omega)) ?_);rintro _ _ ⟨B2,rfl,hB2⟩;refine aa.fn (.cons .left) (oV hB2 58 (by simp only[xai,xar,xbe];omega)) ?_;intro _ B3 WH;refine Ld.u (.head _) (aa.fn (.cons .here) (ib _ B3 WH (by simp only[xai,xar,xbe];omega)) ?_);rintro _ _ ⟨B4,rfl,hB4⟩;refine aa.fn (.cons .left) (oV hB4 93 (by simp only[xai,xar,xbe];omega)) ?_;intro _ B5 hB5;refine aN.mk .tail ⟨B5,rfl,?_⟩;have e:l++ef (.ite (.v d.v) a b)=l++([91,120]++[UInt8.ofNat (48+d.v)]++[63])++ef a++[58]++ef b++[93]:=by
   simp only[ef,xaj]
  rw[e];exact hB5
end
end
section
open Fm aq
def Qp(g:Gh)(a0 a1 v3:zV)(H:Hp)(K:Hp->Prop):Prop:=
bS zQ g (bY Tryz.f17 1 1) (ev (λs=>cond (Nat.beq s 6) v3 (undef))) H λv5=>
Br v5 (
∀J6:Jt,(∀H8:Hp,(∀gs7:Fr,
St 1 H8 a0 (.string (ByteArray.mk #[])) λH9=>
St 1 H9 a1 (Value.int .i64 13) λZK=>
K ZK)->J6 [] H8)->
bS zQ g (bY Tryz.f17 2 1) (ev (λs=>cond (Nat.beq s 9) v3 (undef))) H λv11=>
Ext 0 v11 λTx=>
Ext 1 v11 λV5=>
By H (.cells #[] 64 zZ) λpW H15=>
St 0 H15 (.pointer (some ⟨pW,0,none⟩)) Tx λH16=>
Un .not V5 λW8=>
Br W8 (
dF zQ g (bY Tryz.f17 4 1) (ev (λs=>cond (Nat.beq s 15) v3 (undef))) H16 (λZT H19=>
JE J6 [] H19) (λ_ _=>∀_:Fr,False)) (
JE J6 [] H16)) (
K H)
theorem JH{g:Gh}{a0 a1 v:zV}{u u':FrameMode}{H:Hp}{K:Hp->Prop}(hu:(u=.returning/\v=.nilIface/\u'=.returning)\/(u=.panicking [{v,recovered:=false}]/\u'=.panicking [{v,recovered:=true}]))
 (h:Qp g a0 a1 v H K):iJ zQ 17 g #[a0,a1] u H K:=by
 refine iJ.rec (args:=[a0,a1]) (hn:=(.n .e (.n (.h 1 [] [0,1] .e .e) .e))) func17 rfl rfl rfl rfl rfl rfl rfl rfl rfl rfl rfl hu ?_;refine Eq.mpr (?_:_=Qp g a0 a1 v H K) h;kernel_rfl
theorem mi.live{N:dA}{r:Nat}{t:Tr}(h:mi N r t):live N r:=by
 cases h with
 |c0=>exact .inl zD
 |c1=>exact .inl zD
 |n h _ _ _=>exact .inr ⟨_,h⟩
theorem Qu{N:dA}{r:Nat}{t:Tr}(h:mi N r t):ef t≠[]:=by
 cases h with
 |c0=>simp[ef]
 |c1=>simp[ef]
 |n h _ _ _=>simp[ef]
theorem Gf{kp:Nat}{K:Kd}{S:Nat->aq.Fn}{ord af tr:zL}{C:Hp}(hK:br kp K S ord af tr C)(hv:∀r d,K.N r=some d->d.v<10){r:Nat}{t:Tr}(ht:mi K.N r t)(hl:(ef t).length<=65536):
  Rd zQ 6 #[ptr kp,u32 r] C (· =.tuple #[bI (ef t),nI 0]):=by
 refine aS λg=>Mu λb4 _ b6 _=>ae.bf (Br.no ?_);refine aa.eh (args:=#[ptr kp,u32 r]) (.cons (.cons .here)) (gg hK.rep (by have:=hK.bp ht.live;omega)) ?_;rw[bF.2 ht.live];obtain⟨h3,h1⟩:=aF K.N r;refine Ext.mk rfl (Ext.mk rfl λZE _=>St.whole (r:=got K.N r) (.head _) rfl h3 h1 (ae.nU (b:=0) (Br.F λb46 _=>?_)));refine aa.pre (rO [_,_,_] C _) (aa.fn (.cons (.cons (.cons .here))) (II hK hv ht [] [WM b46 (.pointer none) (.slice none 0 0)] ⟨_,_,[],rfl,aH.nil _ _,.inl rfl⟩ (by simpa using hl)) ?_);rintro _ _ ⟨B',rfl,R4⟩;rw[xaW]at R4;refine aa.rd (.cons (.cons (.cons .left))) (oH R4) ?_;rintro _ rfl;refine ae.kG (b:=65536) (Br.F (aa.fn (.cons (.cons (.cons .left))) (Bm R4 (Qu ht) zO) ?_));rintro _ X rfl;refine St.one (c':=#[bI (ef t)]) (.tail (.tail (.head _))) rfl (show 0<1 by decide) rfl ?_;refine St.one (c':=#[nI 0]) (.tail (.head _)) rfl (show 0<1 by decide) rfl ?_;refine JH (v:=.nilIface) (u':=.returning) (.inl ⟨rfl,rfl,rfl⟩) (bS.wm rfl rfl rfl ⟨#[],by kernel_rfl⟩ (.inl ⟨rfl,rfl,_,rfl⟩) (Br.no ?_));refine Ld.mk (.tail _ (.tail _ (.head _))) rfl (Ld.mk (.tail _ (.head _)) rfl ?_);exact bX.mk (.skip (.skip (.skip .right))) rfl
section
variable {kp:Nat} {K:Kd} {S:Nat->aq.Fn} {ord af tr:zL} {C:Hp}
theorem No(hK:br kp K S ord af tr C)(hn:K.n<=10):∀(k r:Nat),K.n-dep K.n (lv af) K.N r<=k->live K.N r->∃t,mi K.N r t/\Wr t/\t.Fit K.n/\t.Ah<=k/\t.fn=S r:=by
 have hi:=hK.ok.mid.int;have hw:=hK.ok.wf;intro k;induction k with
 |zero=>
  intro r hk hr;by_cases h2:r<2
  ·have Em:r=0\/r=1:=by omega
   rcases Em with rfl|rfl
   ·exact⟨_,.c0,.c0,.inl rfl,xak _,by rw[funext hi.zero];rfl⟩
   exact⟨_,.c1,.c1,.inr rfl,xak _,by rw[funext hi.one];rfl⟩
  obtain⟨d,hd⟩:=hr.resolve_left h2;have h1:=hw.lo hd;have h3:=hw.iC hK.ok.lv d.lo;rw[an hd]at hk;omega
 |succ k ih=>
  intro r hk hr;by_cases h2:r<2
  ·have Em:r=0\/r=1:=by omega
   rcases Em with rfl|rfl
   ·exact⟨_,.c0,.c0,.inl rfl,xaK _,by rw[funext hi.zero];rfl⟩
   exact⟨_,.c1,.c1,.inr rfl,xaK _,by rw[funext hi.one];rfl⟩
  obtain⟨d,hd⟩:=hr.resolve_left h2;have h1:=hw.lo hd;have h3:=hw.hi hd;rw[an hd]at hk;obtain⟨a,a1,a2,a3,a4,a5⟩:=ih d.hi zO h3.1;obtain⟨b,b1,b2,b3,b4,b5⟩:=ih d.lo zO h1.1;have hv:=hw.var hd;refine⟨.ite (.v d.v) a b,.n hd zO a1 b1,.n zO a2 b2,⟨hv,a3,b3⟩,by show max a.Ah b.Ah+1<=k+1;omega,?_⟩
  funext x
  show(if x.testBit d.v then a.fn x else b.fn x)=_;rw[a5,b5,hi.node hd]
end
def SE(f:Nat->Bool):Nat->Nat
 |0=>0
 |m+1=>SE f m+if f m then 2^m else 0
theorem JF(f:Nat->Bool):∀m,SE f m<2^m
 |0=>by show 0<1;decide
 |m+1=>by
  have:=JF f m;unfold SE;rw[xc4];split<;>omega
theorem DY(f:Nat->Bool):∀m j,j<m->(SE f m).testBit j=f j
 |m+1,j,h=>by
  have hl:=JF f m;unfold SE;by_cases hj:j=m
  ·subst hj;cases hf:f j with
   |true=>simp only[xa0];rw[xc1,Nat.testBit_two_pow_add_eq,xbJ hl];rfl
   |false=>simp only[xaE,xaS,xbS];exact xbJ hl
  ·have ih:=DY f m j zO;cases hf:f m with
   |true=>simp only[xa0];rw[xc1,Nat.testBit_two_pow_add_gt zO];exact ih
   |false=>simp only[xaE,xaS,xbS];exact ih
theorem QA{n:Nat}(hn:n<=6){f:aq.Fn}(hf:∀x,f (x%2^n)=f x):∃ws,ax.dZ n ws/\eB n ws=f:=by
 refine⟨r8 n λ_=>SE f (2^n),gW zO,jE (λx hx=>?_) hf⟩;have tY:2^n<=2^6:=xav zD hn;rw[xbv zO];exact DY f _ x hx
theorem Fi{n:Nat}{ord:zL}{L:List (zL)}(hn:n<=6)(sr:1<=n)(hf:∀t∈L,ax.dZ n t)(hp:ord.Perm (List.range n)):dI n ord L n<=31*L.length+2:=by
 have h1:=gV n ord L (n-1);have h2:=xY (L:=L) hf zO sr hp;have h4:2^(n-1)*L.length<=32*L.length:=xa4 _ (xbN (xav zD (show n-1<=5 by omega)) zD);have e:dI n ord L n=dI n ord L (n-1)+(jc n ord L (n-1)).length:=by
  obtain⟨m,rfl⟩:∃m,n=m+1:=⟨n-1,by omega⟩;rfl
 rw[e];omega
theorem Gj{n:Nat}{ord:zL}(hn:n<=6)(sr:1<=n)(hp:ord.Perm (List.range n))(L:List aq.Fn)(hL:∀f∈L,∀x,f (x%2^n)=f x)(hl:L.length<=120){P:aq.Fn->Prop}(hP:∀g,P g->g∈L):Fits (aA n ord P) 4000:=by
 have key:∀L:List aq.Fn,(∀f∈L,∀x,f (x%2^n)=f x)->∃Ts:List (zL),Ts.length=L.length/\(∀t∈Ts,ax.dZ n t)/\∀g∈L,FT n Ts g:=by
  intro L;induction L with
  |nil=>exact λ_=>⟨[],rfl,nofun,nofun⟩
  |cons f L ih=>
   intro h;obtain⟨Ts,h1,h2,h3⟩:=ih λg hg=>h g (.tail _ hg);obtain⟨ws,hw,e⟩:=QA hn (h f (.head _));refine⟨ws::Ts,by simp[h1],λt ht=>?_,λg hg=>?_⟩
   ·rcases xaf.1 ht with rfl|ht
    ·exact hw
    exact h2 t ht
   rcases xaf.1 hg with rfl|hg
   ·exact⟨ws,.head _,e.symm⟩
   obtain⟨t,ht,e'⟩:=h3 g hg;exact⟨t,.tail _ ht,e'⟩
 obtain⟨Ts,h1,h2,h3⟩:=key L hL;have hs:=Fi (ord:=ord) hn sr h2 hp;refine Fits.mono (λg hg=>aJ (G:=FT n Ts) (λg h=>h3 g (hP g h)) hg) ⟨_,Bg h2 zO (DP hp),?_⟩;omega
theorem Fm.Tr.gy{n:Nat}:∀{t:Tr},t.Fit n->∀x,t.fn (x%2^n)=t.fn x
 | .c k,_,x=>rfl
 | .v m,h,x=>by
  have hm:m<n:=h;show(x%2^n).testBit m=x.testBit m;rw[xa5];simp[hm]
 | .no a,h,x=>by show(!a.fn (x%2^n))= !a.fn x;rw[gy (t:=a) h]
 | .bin k a b,h,x=>by
  show(QU k).testBit (2*(a.fn (x%2^n)).toNat+(b.fn (x%2^n)).toNat)=(QU k).testBit (2*(a.fn x).toNat+(b.fn x).toNat);rw[gy (t:=a) h.2.1,gy (t:=b) h.2.2]
 | .ite a b d,h,x=>by
  show(if a.fn (x%2^n)then b.fn (x%2^n)else d.fn (x%2^n))=if a.fn x then b.fn x else d.fn x
  rw[gy (t:=a) h.1,gy (t:=b) h.2.1,gy (t:=d) h.2.2]
theorem Fm.Tr.ic{n:Nat}{g:Nat->Bool}:∀{t:Tr},t.Fit n->t.jT g->∀x,g (x%2^n)=g x
 | .c k,h,hg,x=>by subst hg;exact Tr.gy (t:=.c k) h x
 | .v m,h,hg,x=>by subst hg;exact Tr.gy (t:=.v m) h x
 | .no a,h,hg,x=>by
  rcases hg with rfl|hg
  ·exact Tr.gy (t:=.no a) h x
  exact ic (t:=a) h hg x
 | .bin k a b,h,hg,x=>by
  rcases hg with rfl|hg|hg
  ·exact Tr.gy (t:=.bin k a b) h x
  ·exact ic (t:=a) h.2.1 hg x
  exact ic (t:=b) h.2.2 hg x
 | .ite a b d,h,hg,x=>by
  rcases hg with rfl|hg|hg|hg
  ·exact Tr.gy (t:=.ite a b d) h x
  ·exact ic (t:=a) h.1 hg x
  ·exact ic (t:=b) h.2.1 hg x
  exact ic (t:=d) h.2.2 hg x
theorem IE{K:Kd}{S:Nat->aq.Fn}{ord refs:zL}{fs:List (zL)}(hg:tG K S refs fs)(hn:K.n<=6)(sr:1<=K.n)(hcap:K.cap=4000)(hl:refs.length<=36)(hp:ord.Perm (List.range K.n)){t:Tr}(hw:Wr t)(hf:t.Fit K.n)(hd:t.Ah<=K.n):Fits (aA K.n ord (λg=>K.held S g\/t.jT g)) K.cap:=by
 obtain⟨L,h1,h2,h3⟩:=ID hw hf K.n hd;rw[hcap];have tY:2^K.n<=2^6:=xav zD hn;refine Gj hn sr hp (fs.map (eB K.n)++(L++([λ_=>false,λ_=>true]++(List.range K.n).map λv=>λx:Nat=>x.testBit v))) ?_ ?_ ?_
 ·intro f wy;rcases xal.1 wy with h|h
  ·obtain⟨ws,_,rfl⟩:=xaq.1 h;exact λx=>kf x
  rcases xal.1 h with h|h
  ·exact Tr.ic hf (h2 f h)
  rcases xal.1 h with h|h
  ·simp only[xaf,xao,xaQ]at h;rcases h with rfl|rfl<;>exact λ_=>rfl
  obtain⟨v,hv,rfl⟩:=xaq.1 h;exact Tr.gy (t:=.v v) (xaV.1 hv)
 ·simp only[xai,xaz,xaT,xar,xbe];have:=hg.len;omega
 rintro g (h|h)
 ·obtain⟨ws,We,rfl⟩:=(hg.held g).1 h;exact xac _ (xaq.2 ⟨ws,We,rfl⟩)
 refine xaa _ ?_;rcases h3 g h with h|⟨b,rfl⟩|⟨v,hv,rfl⟩
 ·exact xac _ h
 ·refine xaa _ (xac _ ?_);cases b<;>simp
 exact xaa _ (xaa _ (xaq.2 ⟨v,xaV.2 hv,rfl⟩))
end
end Go.Proofs
namespace aq
def dst(x y:Nat):Nat:=(x-y)+(y-x)
end aq
namespace ax
open Go.Sx
def PD:zL->Nat
 | []=>0
 |x::r=>r.foldl min x
def AM(n a:Nat):zL:=(List.range n).filter λv=> !a.testBit v
def has(n a:Nat):zL:=(List.range n).filter λv=>a.testBit v
def bel(n:Nat)(c:Nat->Nat->Nat):Nat->Nat->Nat
 |0,_=>0
 |f+1,a=>PD ((AM n a).map λv=>c a v+bel n c f (ay a v true))
def par(n:Nat)(c:Nat->Nat->Nat):Nat->Nat->Nat
 |0,_=>0
 |f+1,s=>PD ((has n s).map λv=>c (ay s v false) v+par n c f (ay s v false))
def B(n:Nat)(c:Nat->Nat->Nat)(a:Nat):Nat:=bel n c n a
def W(n:Nat)(c:Nat->Nat->Nat)(s:Nat):Nat:=par n c n s
structure Used(n:Nat)(c:Nat->Nat->Nat)(U:Nat):Prop where
 zero:∀a v,v<n->a.testBit v=false->U.testBit v=false->c a v=0
 mask:∀a v,v<n->a.testBit v=false->c a v=c (a&&&U) v
def ord(n:Nat)(c:Nat->Nat->Nat):Nat->Nat->zL
 |0,_=>[]
 |f+1,a=>match(AM n a).find? λv=>c a v+B n c (ay a v true)==B n c a with
  |some v=>v::ord n c f (ay a v true)
  |none=>[]
end ax
namespace ax
open Go.Sx
theorem cY{x u v:Nat}{b c:Bool}(h:u≠v):ay (ay x u b) v c=ay (ay x v c) u b:=by
 apply xa3;intro k;rw[ak,ak,ak,ak];by_cases e1:k=u<;>by_cases e2:k=v
 ·exact absurd (e1.symm.trans e2) h
 ·simp[e1,h]
 ·simp[e2,xbp h]
 simp[e1,e2]
end ax
set_option maxRecDepth 100000
namespace Go.Proofs
open Go Go.Sx Tryz
def kp(x:Nat×Nat):zV:=.agg (au .i64 [(x.1:Int),(x.2:Int)])
end Go.Proofs
namespace WW
abbrev It:=Int×Int
def prec(a b:It):Bool:=decide (a.2<b.2)||(a.2==b.2&&decide (a.1<b.1))
theorem xI{a b:It}:prec a b=true↔a.2<b.2\/a.2=b.2/\a.1<b.1:=by simp[prec]
theorem rM{a b:It}:prec a b=false↔¬(a.2<b.2\/a.2=b.2/\a.1<b.1):=by rw[<-xI];simp
theorem qh(a:It):prec a a=false:=by rw[rM];omega
theorem rN{a b:It}(h:prec a b=true):prec b a=false:=by rw[xI]at h;rw[rM];omega
def ON(V:Nat->It)(i:Nat)(b:It):Nat->It:=λj=>if j=i then b else V j
def E(V:Nat->It)(j:Nat):Prop:=prec (V j) (V ((j-1) /2))=false
def Exc(n:Nat)(V:Nat->It)(i:Nat):Prop:=
 (∀j,0<j->j<n->(j-1) /2≠i->E V j)/\(∀j,0<j->j<n->(j-1) /2=i->0<i->prec (V j) (V ((i-1) /2))=false)
def Ord(n:Nat)(V:Nat->It):Prop:=∀j,0<j->j<n->E V j
def AR(n:Nat)(V:Nat->It)(i:Nat):Nat:=if(decide (2*i+1+1<n) &&prec (V (2*i+1+1)) (V (2*i+1)))=true then 2*i+1+1 else 2*i+1
theorem FO(n:Nat)(V:Nat->It)(i:Nat):AR n V i=2*i+1\/AR n V i=2*i+2/\2*i+2<n:=by
 unfold AR;split
 ·rename_i h;simp only[xay,xaO]at h;right;omega
 left;rfl
theorem FN{n i j:Nat}{V:Nat->It}(j0:0<j)(jn:j<n)(jp:(j-1) /2=i):prec (V j) (V (AR n V i))=false:=by
 unfold AR;split
 ·rename_i h;simp only[xay,xaO]at h;rcases(show j=2*i+1\/j=2*i+1+1 by omega)with rfl|rfl
  ·exact rN h.2
  exact qh _
 rename_i h;rcases(show j=2*i+1\/j=2*i+1+1 by omega)with rfl|rfl
 ·exact qh _
 cases hh:prec (V (2*i+1+1)) (V (2*i+1))
 ·rfl
 exact absurd (by simp[hh,jn]) h
theorem u4{n i:Nat}{V:Nat->It}(h:Exc n V i)(hk:AR n V i<n)(ha:prec (V (AR n V i)) (V i)=true):
  Exc n (ON (ON V i (V (AR n V i))) (AR n V i) (V i)) (AR n V i):=by
 have hl:∀j,0<j->j<n->(j-1) /2=i->prec (V j) (V (AR n V i))=false:=λj=>FN;have hkc:=FO n V i;generalize AR n V i=c at*;obtain⟨h1,h2⟩:=h;have Yy:(c-1) /2=i:=by omega
 have hc0:0<c:=by omega
 have o8:c≠i:=by omega
 refine⟨?_,?_⟩
 ·intro j j0 jn jp;unfold E ON;rw[xad jp];by_cases e1:j=c
  ·rw[xae e1,xae (by rw[e1];exact Yy)];exact rN ha
  rw[xad e1];by_cases e2:j=i
  ·rw[xae e2];have:(j-1) /2≠i:=by omega
   rw[xad this,e2];exact h2 c hc0 hk Yy zO
  rw[xad e2];by_cases e3:(j-1) /2=i
  ·rw[xae e3];exact hl j j0 jn e3
  rw[xad e3];exact h1 j j0 jn e3
 intro j j0 jn jp _;unfold ON;rw[Yy];have:j≠c:=by omega
 have e2:j≠i:=by omega
 rw[xad this,xad e2,xad (λe=>o8 e.symm),xae rfl];have:=h1 j j0 jn zO;unfold E at this;rwa [jp]at this
def at'(l:List It)(j:Nat):It:=l.getD j (0,0)
end WW
namespace WW
open Go Go.Sx
def enc(kd:IntKind)(a:It):List zV:=[.int kd a.1,.int .i64 a.2]
end WW
namespace ax
open Go.Sx WW
def nn(s k:Nat):It:=((s:Int),(k:Int))
variable {n:Nat} {c:Nat->Nat->Nat} {T:Nat} {D:zL} {l l':List It} {s i:Nat}
end ax
set_option maxRecDepth 100000
namespace Go.Proofs
open Go Go.Sx Tryz
section
theorem ae.pw{kd:IntKind}{a b:Nat}{k:zV->Prop}(hb:b≠0)(h:k (.int kd ((a%b:Nat):Int))):ae .num .rem (.int kd a) (.int kd b) k:=
 ae.Pu zO rfl (by have:((a:Int)).tmod (b:Int)=((a%b:Nat):Int):=rfl;rw[this];exact h)
end
section
open aq
section
variable {kp mb xh b1 b7 Bs bn:Nat} {K:Kd} {S:Nat->aq.Fn} {ord af tr:zL} {C:Hp}
def kr(r:Nat):zV:=u32 r
theorem r9(a b:Nat):Instr.sameNow (.int .u32) (kr a) (kr b)=some (decide (a=b)):=by
 simp only[Instr.sameNow,kr,u32,xa0,xap];rw[xcA];simp;omega
theorem wc(a:Nat):Instr.sameBits 10000 (kr a) (kr a)=true:=by simp[Instr.sameBits,kr,u32]
structure Kn(n:Nat)(S:Nat->aq.Fn)(es:Array MapEntry)(ck:Nat)(m:List (Nat×zV))(Y:Hp):Prop where
 cS:aM kr (λv x=>v=x) es ck m
 iG:∀r v,c8 m r=some v->bZ Y v n (S r)
 low:∀r,r<2->c8 m r≠none
theorem Kn.mono{n:Nat}{S:Nat->aq.Fn}{es:Array MapEntry}{ck:Nat}{m:List (Nat×zV)}{Y Y':Hp}(h:Kn n S es ck m Y)(hs:∀x∈Y,x∈Y'):Kn n S es ck m Y':=⟨h.cS,λr v hm=>(h.iG r v hm).mono hs,h.low⟩
theorem bZ.one{B:Hp}{v:zV}{n:Nat}{f:aq.Fn}(h:bZ B v n f):∃s,v=.agg #[iv (n:Int),s]/\s.oneCell'=true:=by
 obtain⟨ws,⟨s,rfl,hw⟩,_,_⟩:=h;exact⟨s,rfl,aK hw⟩
theorem cE{n:Nat}{s:zV}(h:s.oneCell'=true):∀u∈[Value.int .i64 (n:Int),s],u.oneCell'=true:=λu hu=>by
 simp only[xaf,xao,xaQ]at hu;rcases hu with rfl|rfl
 ·rfl
 exact h
theorem pC(d:Nd):∀u∈aY d,u.oneCell'=true:=λu hu=>by
 simp only[aY,xaf,xao,xaQ]at hu;rcases hu with rfl|rfl|rfl<;>rfl
theorem LL{X:Hp}(h:br kp K S ord af tr C){r:Nat}{d:Nd}(hd:K.N r=some d):Px zQ 73 #[ptr kp,u32 r] (X++C) (λv _=>v=.agg (aY d).toArray):=by
 have hlt:=h.bp (.inr ⟨d,hd⟩);refine aS λg=>He λb1 _=>?_;refine aa.eq (args:=#[ptr kp,u32 r]) (gg h.rep zO) ?_;rw[de hd (h.ok.mid.two hd).1];refine Ext.two λb7 _=>(St.p (pC d) ?_);refine av.q ?_;refine St.p (pC d) ?_;refine av.q ?_;exact Aj.mk (by repeat (first|exact bh.refl _|apply bh.cons|apply bh.app)) rfl
theorem LN{X:Hp}{v:zV}(h:br kp K S ord af tr C){rs:zL}(hv:cR .u32 (X++C) v (iw rs))(hr:∀r∈rs,live K.N r)(hl:rs.length<4611686018427387904):Px zQ 29 #[ptr kp,v] (X++C) (λw _=>w=iv 0):=by
 refine aS λg=>HT (ae.bf (Br.no (hv.bH ?_)));rw[ag];refine⟨λvs H=>∃(i:Nat) (N:Hp),vs=[iv (i:Int)]/\i<=rs.length/\H=N++(X++C),λvs _=>rs.length-bL vs 0,JE.mk ⟨0,[],rfl,xaK _,rfl⟩,?_⟩;rintro w H ⟨i,N,hw,hi,rfl⟩ gs;simp only[xau,xaY]at hw;subst hw;refine ae.fe (Br.dec (λhlt=>?_) (λhge=>?_))
 ·have Ad:=hr _ (xaB hlt);have su:=h.bp Ad;refine hv.ld (n:=((rs[i]:Nat):Int)) (cc (xab hlt)) (λ_ h=>xaa _ h) ?_;refine aa.eq (args:=#[ptr kp,u32 rs[i]]) (gg h.rep zO) ?_;rw[xae (bF.2 Ad)];refine Ext.two λb15 _=>(St.whole (r:=got K.N rs[i]) (by exact .head _) rfl (aF _ _).1 (aF _ _).2 ?_);exact ae.dz (Br.F (ae.inc (az.mk ⟨i+1,_::N,rfl,hlt,rfl⟩ (by simp only[bL];omega))))
 exact Aj.mk (by repeat (first|exact bh.refl _|apply bh.cons|apply bh.app)) rfl
theorem Ln{X:Hp}{n:Nat}(hn:n<=16){d:Nd}(hd:d.v<n){v1 v2:zV}{f1 f2:aq.Fn}(h1:bZ X v1 n f1)(h2:bZ X v2 n f2)(hm:(bn,Obj.cells #[iv (n:Int)] 3 zZ)∈X):
  Px zQ 31 #[.agg (aY d).toArray,v1,v2,ptr bn] X (λw H=>bZ H w n (λx=>if x.testBit d.v then f2 x else f1 x)):=by
 obtain⟨s1,rfl,o1⟩:=h1.one;obtain⟨s2,rfl,o2⟩:=h2.one;refine aS λg=>HR λc1 _ c3 _ c5 _ c7 _=>?_;refine Ld.mk (v:=iv (n:Int)) (by exact .tail _ (.tail _ (.tail _ (.tail _ hm)))) rfl ?_;refine Ld.f ?_;refine aa.px (aU.left (C:=[]) (A:=_)) (vD hn hd []) ?_;rintro w N ⟨t,rfl,ht⟩;rw[xaP]at ht⊢;obtain⟨s3,rfl,o3⟩:=ht.one;refine Ext.two λQm _=>(St.p (cE o3) ?_);refine av.q ?_;refine av.q ?_;refine av.q ?_;refine aa.pre (.perm (.cons _ (xa6.trans (.cons _ (xa6.trans (.cons _ (xa6.trans (.cons _ xa6)))))))) ?_;refine aa.pq (qV (B:=N++X) (ht.mono λ_ h=>xac _ h) (h2.mono λ_ h=>xaa _ h) (h1.mono λ_ h=>xaa _ h)) ?_;rintro w N2 ⟨t4,rfl,ht4⟩;obtain⟨s4,rfl,o4⟩:=ht4.one;refine Ext.two λc26 _=>(St.p (cE o4) ?_);refine av.q ?_;refine St.p (cE o4) ?_;refine av.q ?_;refine Aj.mk (by repeat (first|exact bh.refl _|apply bh.cons|apply bh.app)) (ht4.mono ?_);intro x hx;repeat (first|exact hx|apply xbz)
theorem VM(h:br kp K S ord af tr C)(hn:K.n<=16){Z0:Hp}(Zk:(xh,Obj.cells #[.map (some mb)] 143 zZ)∈Z0)(h1:(b1,Obj.cells #[ptr kp] 36 zZ)∈Z0)(h7:(b7,Obj.cells #[.func (.func 31) #[] #[ptr bn]] 86 zZ)∈Z0)
 (WI:(Bs,Obj.cells #[.func (.func 72) #[] #[ptr xh,ptr b1,ptr b7,ptr Bs]] 144 zZ)∈Z0)(SV:(bn,Obj.cells #[iv (K.n:Int)] 3 zZ)∈Z0):
  ∀(k r:Nat) (es:Array MapEntry) (ck:Nat) (m:List (Nat×zV)) (Z:Hp),K.n-dep K.n (lv af) K.N r<=k->live K.N r->(∀x∈Z0,x∈Z)->Kn K.n S es ck m Z->
  Fc zQ 72 #[u32 r,ptr xh,ptr b1,ptr b7,ptr Bs] ((mb,.map es ck)::(Z++C)) (λv H=>∃es' cm m' N,H=(mb,.map es' cm)::(N++(Z++C))/\Kn K.n S es' cm m' (N++Z)/\bZ (N++Z) v K.n (S r)):=by
 have hit:∀{r:Nat} {es:Array MapEntry} {ck:Nat} {m:List (Nat×zV)} {Z:Hp} {v:zV},(∀x∈Z0,x∈Z)->Kn K.n S es ck m Z->c8 m r=some v->
   Fc zQ 72 #[u32 r,ptr xh,ptr b1,ptr b7,ptr Bs] ((mb,.map es ck)::(Z++C)) (λv H=>∃es' cm m' N,H=(mb,.map es' cm)::(N++(Z++C))/\Kn K.n S es' cm m' (N++Z)/\bZ (N++Z) v K.n (S r)):=by
  intro r es ck m Z v hZ hm hv g;obtain⟨s,rfl,hs⟩:=(hm.iG r v hv).one;refine vv (R:=aN _) ?_;unfold L72;intro c1 _;refine Ld.mk (v:=.map (some mb)) (by exact .tail _ (.tail _ (xac _ (hZ _ Zk)))) rfl ?_;refine hm.cS.hit (k:=r) r9 (b:=mb) (by exact .tail _ (.head _)) hv λv' e=>?_;subst e;refine Ext.two λc7 _=>(St.p (cE hs) ?_);refine Br.yes (av.q ?_);refine St.p (cE hs) ?_;refine av.q ?_;exact aN.mk (.skip .tail) ⟨es,ck,m,[],rfl,hm,hm.iG r _ hv⟩
 intro k;induction k with
 |zero=>
  intro r es ck m Z hk hr hZ hm;have wu:r<2:=by
   cases hN:K.N r with
   |some d=>
    have:=h.ok.wf.iC h.ok.lv r;rw[an hN]at hk;have:=h.ok.lv.lt _ (h.ok.mid.var hN);omega
   |none=>
    rcases hr with hr|⟨d,e⟩
    ·exact hr
    rw[hN]at e;cases e
  cases hv:c8 m r with
  |none=>exact absurd hv (hm.low r wu)
  |some v=>exact hit hZ hm hv
 |succ k ih=>
  intro r es ck m Z hk hr hZ hm;cases hv:c8 m r with
  |some v=>exact hit hZ hm hv
  |none=>
  have wu:¬r<2:=λh2=>hm.low r h2 hv;obtain⟨d,hN⟩:∃d,K.N r=some d:=by
   rcases hr with hr|hr
   ·omega
   exact hr
  have m0:=h.ok.mid.var hN;have hlo:=h.ok.wf.lo hN;have hhi:=h.ok.wf.hi hN;have hdl:=h.ok.wf.iC h.ok.lv r;rw[an hN]at hk;have hvl:=h.ok.lv.lt _ m0;have yD:S r=λx=>if x.testBit d.v then S d.hi x else S d.lo x:=funext λx=>h.ok.mid.int.node hN x
  refine aS λg=>vv λc1 _=>?_;refine Ld.mk (v:=.map (some mb)) (by exact .tail _ (.tail _ (xac _ (hZ _ Zk)))) rfl ?_;refine hm.cS.AM (k:=r) r9 (b:=mb) (by exact .tail _ (.head _)) hv ?_;refine Ext.two λc7 _=>(St.q ?_);refine Br.no (Ld.mk (v:=ptr kp) (by exact .tail _ (.tail _ (.tail _ (xac _ (hZ _ h1))))) rfl ?_);refine aa.pq (args:=#[ptr kp,u32 r]) (LL (X:=Z) h hN) ?_;rintro w N0 rfl;intro Qm _;refine St.p (pC d) ?_;obtain⟨Z1,U8⟩:∃Z1,Z1=(Qm,Obj.cells (aY d).toArray 60 zZ)::(N0++Z):=⟨_,rfl⟩;have KS:∀x∈Z,x∈Z1:=λx hx=>by rw[U8];exact .tail _ (xaa _ hx)
  have KB:aG (Z1++C) ((Qm,Obj.cells (aY d).toArray 60 zZ)::Z):=by rw[U8];exact aG.left.trans (.cons .right)
  have uP:((Qm,Obj.cells (aY d).toArray 60 zZ)::(c7,.cells (List.toArray [iv 0,.slice none 0 0]) 30 zZ)::(c1,.cells #[iv 0,.slice none 0 0] 30 zZ)::(mb,Obj.map es ck)::(N0++(Z++C))).Perm
    ((c1,.cells #[iv 0,.slice none 0 0] 30 zZ)::(c7,.cells (List.toArray [iv 0,.slice none 0 0]) 30 zZ)::(mb,Obj.map es ck)::(Z1++C)):=by
   rw[U8,xaN,xaj];refine(List.Perm.swap _ _ _).trans ?_;refine(List.Perm.cons _ (List.Perm.swap _ _ _)).trans ?_;refine(List.Perm.swap _ _ _).trans (.cons _ (.cons _ (.swap _ _ _)))
  have hR0:aG ((Qm,Obj.cells (aY d).toArray 60 zZ)::(c7,.cells (List.toArray [iv 0,.slice none 0 0]) 30 zZ)::(c1,.cells #[iv 0,.slice none 0 0] 30 zZ)::(mb,Obj.map es ck)::(N0++(Z++C))) ((Qm,Obj.cells (aY d).toArray 60 zZ)::Z):=
   .cons (.skip (.skip (.skip (.eE .left))))
  refine DR.of hR0 (Ld.mk (v:=.func (.func 31) #[] #[ptr bn]) (by exact .tail _ (hZ _ h7)) rfl ?_);refine av.q ?_;refine Ld.mk (v:=.func (.func 72) #[] #[ptr xh,ptr b1,ptr b7,ptr Bs]) (by exact .tail _ (hZ _ WI)) rfl ?_;refine Ld.f ?_;refine Ld.mk (v:=.func (.func 72) #[] #[ptr xh,ptr b1,ptr b7,ptr Bs]) (by exact .tail _ (hZ _ WI)) rfl ?_;refine Ld.f ?_;intro F;refine bQ.of rfl zK (aa.pre (.perm uP) ?_);refine aa.fq (args:=#[u32 d.lo,ptr xh,ptr b1,ptr b7,ptr Bs]) (ih d.lo es ck m Z1 zO hlo.1 (λx hx=>KS _ (hZ x hx)) (hm.mono KS)) ?_;rintro v1 H ⟨Ex,zc,m1,N1,rfl,MI,N8⟩;refine⟨.skip (.skip (.skip (.eE KB))),?_⟩;rw[<-xaj];intro F;refine bQ.of rfl zK (aa.fq (args:=#[u32 d.hi,ptr xh,ptr b1,ptr b7,ptr Bs]) (ih d.hi Ex zc m1 (N1++Z1) zO hhi.1 (λx hx=>xaa _ (KS _ (hZ x hx))) MI) ?_);rintro v2 H ⟨Gt,LP,m2,N2,rfl,FZ,Kf⟩;refine⟨.skip (.skip (.skip (.eE (aG.assoc.trans (.eE KB))))),?_⟩;rw[<-xaj];intro F;refine bQ.of rfl zK (aa.pq (args:=#[.agg (aY d).toArray,v1,v2,ptr bn]) (Ln (bn:=bn) hn m0 (N8.mono λ_ h=>xaa _ h) Kf (xaa _ (xaa _ (KS _ (hZ _ SV))))) ?_);intro v3 N3 D9;rw[<-yD]at D9;refine⟨.skip (.skip (.skip (aG.assoc.trans (.eE (aG.assoc.trans (.eE (aG.assoc.trans (.eE KB)))))))),?_⟩;obtain⟨s3,rfl,o3⟩:=D9.one;intro c37 _;intro F;refine St.p (cE o3) ?_;refine Ld.mk (v:=.map (some mb)) (by exact .tail _ (.tail _ (.tail _ (.tail _ (xac _ (xaa _ (xaa _ (xaa _ (KS _ (hZ _ Zk)))))))))) rfl ?_;refine av.q ?_;refine FZ.cS.bJ (k:=r) (b:=mb) (x:=.agg #[iv (K.n:Int),s3]) r9 wc rfl λsK wP he=>⟨_,.tail (.tail (.tail (.head _))),?_⟩;refine av.q ?_;refine St.p (cE o3) ?_;refine av.q ?_;have hmem:∀x∈N3++(N2++(N1++Z1)),x∈(N3++(N2++(N1++((Qm,Obj.cells (aY d).toArray 60 zZ)::N0))))++Z:=λx hx=>by
   rw[U8]at hx;simpa only[xaj,xaN]using hx
  refine aN.mk (.skip (.skip .tail)) ⟨sK,wP,gf m2 r (.agg #[iv (K.n:Int),s3]),N3++(N2++(N1++((Qm,Obj.cells (aY d).toArray 60 zZ)::N0))),by rw[U8];simp only[xaj,xaN],⟨he,λr' v' tQ=>?_,λr' hr'=>?_⟩,D9.mono hmem⟩
  ·rw[fc]at tQ;split at tQ
   ·rename_i e;subst e;cases tQ;exact D9.mono hmem
   exact(FZ.iG r' v' tQ).mono λx hx=>hmem x (xaa _ hx)
  rw[fc];split
  ·simp
  exact FZ.low r' hr'
end
section
variable {kp bn:Nat} {K:Kd} {S:Nat->aq.Fn} {ord af tr:zL} {C:Hp}
theorem OR(h:br kp K S ord af tr C)(hn:K.n<=16){r:Nat}(hr:live K.N r){X:Hp}{v0 v1:zV}(hv0:bZ X v0 K.n (λ_=>false))(hv1:bZ X v1 K.n (λ_=>true))(SV:(bn,Obj.cells #[iv (K.n:Int)] 3 zZ)∈X):
  Fc zQ 30 #[ptr kp,u32 r,v0,v1,.func (.func 31) #[] #[ptr bn]] (X++C) (λv H=>∃N,H=N++(X++C)/\bZ (N++X) v K.n (S r)):=by
 obtain⟨s0,rfl,o0⟩:=hv0.one;obtain⟨s1,rfl,o1⟩:=hv1.one;have hi:=h.ok.mid.int;refine aS λg=>HS λb1 _ b3 _ b5 _ b7 _ b9 _ mb _=>?_;refine av.q ?_;refine aM.bJ (ke:=kr) (vr:=λv x=>v=x) (k:=0) (b:=mb) (x:=Value.agg #[iv (K.n:Int),s0]) r9 wc aM.empty rfl λEx zc MM=>⟨_,.head _,?_⟩;refine av.q ?_;refine aM.bJ (ke:=kr) (vr:=λv x=>v=x) (k:=1) (b:=mb) (x:=Value.agg #[iv (K.n:Int),s1]) r9 wc MM rfl λGt LP SS=>⟨_,.head _,?_⟩;intro xh _;refine St.one (c':=#[.map (some mb)]) (by exact .head _) rfl zI rfl ?_;intro Bs _;refine St.one (c':=#[.func (.func 72) #[] #[ptr xh,ptr b1,ptr b7,ptr Bs]]) (by exact .head _) rfl zI rfl ?_;refine Ld.q ?_;refine bQ.of rfl zK ?_;obtain⟨Z0,Qa⟩:∃Z0:Hp,Z0=(Bs,Obj.cells #[.func (.func 72) #[] #[ptr xh,ptr b1,ptr b7,ptr Bs]] 144 zZ)::(xh,.cells #[.map (some mb)] 143 zZ)::(b7,.cells #[.func (.func 31) #[] #[ptr bn]] 86 zZ)::(b5,.cells (Value.cells (.agg #[iv (K.n:Int),s1])) 30 zZ)::(b3,.cells (Value.cells (.agg #[iv (K.n:Int),s0])) 30 zZ)::(b1,.cells #[ptr kp] 36 zZ)::X:=⟨_,rfl⟩;have YK:∀x∈X,x∈Z0:=λx hx=>by rw[Qa];exact .tail _ (.tail _ (.tail _ (.tail _ (.tail _ (.tail _ hx)))))
 refine aa.pre (H':=(b9,Obj.cells #[iv 0,.slice none 0 0] 30 zZ)::(mb,Obj.map Gt LP)::(Z0++C)) (.perm ?_) ?_
 ·rw[Qa];simp only[xaN];refine(List.Perm.cons _ (List.Perm.cons _ (List.Perm.swap _ _ _))).trans ?_;refine(List.Perm.cons _ (List.Perm.swap _ _ _)).trans ?_;refine(List.Perm.swap _ _ _).trans (.cons _ ?_);refine(List.Perm.cons _ (List.Perm.swap _ _ _)).trans ?_;exact List.Perm.swap _ _ _
 refine aa.fq (args:=#[u32 r,ptr xh,ptr b1,ptr b7,ptr Bs]) (VM (Z0:=Z0) (bn:=bn) h hn (by rw[Qa];exact .tail _ (.head _)) (by rw[Qa];exact .tail _ (.tail _ (.tail _ (.tail _ (.tail _ (.head _)))))) (by rw[Qa];exact .tail _ (.tail _ (.head _))) (by rw[Qa];exact .head _) (YK _ SV) K.n r Gt LP _ Z0 (Nat.sub_le _ _) hr (λ_ h=>h) ⟨SS,λr v hm=>?_,λr hr=>?_⟩) ?_
 ·rw[fc,fc]at hm;split at hm
  ·rename_i e;subst e;cases hm;have:=hv1.mono YK;rwa [show(λ_=>true)=S 1 from funext λx=>(hi.one x).symm]at this
  split at hm
  ·rename_i e;subst e;cases hm;have:=hv0.mono YK;rwa [show(λ_=>false)=S 0 from funext λx=>(hi.zero x).symm]at this
  simp[c8]at hm
 ·rw[fc,fc];have:r=0\/r=1:=by omega
  rcases this with rfl|rfl<;>simp
 rintro v H ⟨sK,wP,m3,N,rfl,_,ht⟩;obtain⟨s3,rfl,o3⟩:=ht.one;refine St.p (cE o3) ?_;refine av.q ?_;refine aN.mk (.skip .tail) ⟨N++[(Bs,Obj.cells #[.func (.func 72) #[] #[ptr xh,ptr b1,ptr b7,ptr Bs]] 144 zZ),(xh,.cells #[.map (some mb)] 143 zZ),(b7,.cells #[.func (.func 31) #[] #[ptr bn]] 86 zZ),(b5,.cells (Value.cells (.agg #[iv (K.n:Int),s1])) 30 zZ),(b3,.cells (Value.cells (.agg #[iv (K.n:Int),s0])) 30 zZ),(b1,.cells #[ptr kp] 36 zZ)],by rw[Qa];simp,ht.mono λx hx=>?_⟩;rw[Qa]at hx;simpa using hx
theorem Gz(h:br kp K S ord af tr C)(hn:K.n<=16){r:Nat}(hr:live K.N r):
  Fc zQ 12 #[ptr kp,u32 r] C (λv H=>∃N t,H=N++C/\v=.tuple #[t,iv 0]/\bZ N t K.n (S r)):=by
 refine aS λg=>Ii λb1 _=>?_;refine ai.int (e:=27) zK zK zK λbx=>?_;refine aa.px .here (LN (X:=[(bx,_),(b1,_)]) (rs:=[r]) h (cR.block (by exact .head _) zI) (λx hx=>by rw[xaL.1 hx];exact hr) zI) ?_;rintro w N0 rfl;refine ae.dz (Br.F (aa.eq (fw h.rep) λgz _=>?_));refine St.one (c':=#[iv (K.n:Int)]) (by exact .head _) rfl zI rfl ?_;refine Ld.q ?_;refine ae.kG (b:=16) (Br.F (Ld.q ?_));refine aa.px (aU.left (C:=[]) (A:=_)) (jm hn false []) ?_;rintro w N1 ⟨t0,rfl,N9⟩;rw[xaP]at N9⊢;obtain⟨s0,rfl,o0⟩:=N9.one;refine Ext.two λZE _=>(St.p (cE o0) ?_);refine Ld.q ?_;refine aa.px (aU.left (C:=[]) (A:=_)) (jm hn true []) ?_;rintro w N2 ⟨t1,rfl,N8⟩;rw[xaP]at N8⊢;obtain⟨s1,rfl,o1⟩:=N8.one;refine Ext.two λWN _=>(St.p (cE o1) ?_);refine av.q ?_;refine av.q ?_;obtain⟨X,hX⟩:∃X:Hp,X=(WN,Obj.cells (List.toArray [iv (K.n:Int),s1]) 30 zZ)::(N2++((ZE,Obj.cells (List.toArray [iv (K.n:Int),s0]) 30 zZ)::(N1++((gz,Obj.cells #[iv (K.n:Int)] 3 zZ)::(N0++[(bx,Obj.cells (au .u32 [(r:Int)]) 27 zZ)]))))):=⟨_,rfl⟩;refine aa.pre (H':=(b1,Obj.cells #[iv 0,.slice none 0 0] 30 zZ)::(X++C)) (.perm ?_) ?_
 ·rw[hX];have:=xa6 (a:=(b1,Obj.cells #[Value.int .i64 0,.slice none 0 0] 30 zZ)) (l₂:=C) (l₁:=(WN,Obj.cells (List.toArray [Value.int .i64 (K.n:Int),s1]) 30 zZ)::(N2++((ZE,Obj.cells (List.toArray [Value.int .i64 (K.n:Int),s0]) 30 zZ)::(N1++((gz,Obj.cells #[Value.int .i64 (K.n:Int)] 3 zZ)::(N0++[(bx,Obj.cells (au .u32 [(r:Int)]) 27 zZ)]))))));simpa only[xaN,xaj,xaW]using this
 refine aa.fq (OR (X:=X) (bn:=gz) h hn hr (N9.mono λx hx=>?_) (N8.mono λx hx=>?_) ?_) ?_
 ·rw[hX];exact .tail _ (xaa _ (.tail _ (xac _ hx)))
 ·rw[hX];exact .tail _ (xac _ hx)
 ·rw[hX];exact .tail _ (xaa _ (.tail _ (xaa _ (.head _))))
 rintro v H ⟨N,rfl,ht⟩;obtain⟨s3,rfl,o3⟩:=ht.one;refine St.p (cE o3) ?_;refine av.q ?_;exact aN.mk .tail ⟨N++X,_,by rw[xaj],rfl,ht⟩
end
end
section
open Fm aq
section
variable {kp gb n:Nat} {vr vf:zV} {refs:zL} {fs:List (zL)} {K:Kd} {S:Nat->aq.Fn} {ord af tr:zL} {C B M G:Hp}
theorem Jp(hG:kI gb kp K.n vr vf refs fs M G)(hg:tG K S refs fs)(hK:br kp K S ord af tr C)(hn:K.n<=16)(hm:refs.length<1048576){a:Nat}(ha:a<256):
  ZH zQ 5 #[ptr gb,.int .u8 (a:Int)] M G (λw H=>∃r t,w=.tuple #[u32 r,t]/\(r<2\/r∈refs)/\bZ H t K.n (S r)):=by
 have hint:=hK.ok.mid.int;refine aS λg=>zw λb1 _=>?_;refine aO.q (Ld.v (by exact .tail _ (xaa _ hG.cell)) ?_);refine hG.rf.bH ?_;rw[ag];refine ae.fE (b:=2) (ae.pw zO ?_);have hlt:=xaZ a (show 0<refs.length+2 by omega);generalize a%(refs.length+2)=i at*;refine ae.fe (b:=2) (Br.dec (λh2=>?_) (λh2=>?_))
 ·refine Ld.v (by exact .tail _ (xaa _ hG.cell)) ?_;refine ae.bA (b:=1) (aa.pq (jm hn (decide (i=1)) M) ?_);rintro w N ⟨v,rfl,ws,⟨s,rfl,hw⟩,hf,he⟩;refine Ext.two λxh _=>?_;have h1:∀x∈[Value.int .i64 (K.n:Int),s],x.oneCell'=true:=by have:=aK hw;simpa[Value.oneCell']using this
  refine St.p h1 ?_;refine DR.self (aO.q (av.q ?_));refine St.p h1 ?_;refine av.q ?_;refine aN.here ⟨_::_::(N++M),rfl,.cons (.cons (.app (.refl _))),i,_,rfl,.inl h2,ws,⟨s,rfl,hw.mono zS⟩,hf,he.trans ?_⟩;have:i=0\/i=1:=by omega
  rcases this with rfl|rfl
  ·exact funext λx=>(hint.zero x).symm
  exact funext λx=>(hint.one x).symm
 refine DR.self (Ld.v (by exact .tail _ (xaa _ hG.cell)) ?_);refine ae.bP (b:=2) ?_;have hi:i-2<refs.length:=by omega
 refine hG.rf.ld (n:=((refs.getD (i-2) 0:Nat):Int)) (bc hi) (λ_ h=>.tail _ (xaa _ h)) (Ld.v (by exact .tail _ (xaa _ hG.cell)) ?_);refine ae.bP (b:=2) ?_;have hi':i-2<fs.length:=by rw[<-hg.len];exact hi
 have e':fs.getD (i-2) []=fs[i-2]:=by rw[xah,xab hi'];rfl
 obtain⟨rs,WA,hE⟩:=hG.fn;obtain⟨row,hrow,s,rfl,hw⟩:=hE.get (i:=i-2) (x:=⟨K.n,fs[i-2]⟩) (by rw[xat,xab hi'];rfl);refine aj.sl WA hrow λp hp=>?_;refine av.at hp rfl zD (λ_ h=>.tail _ (xaa _ h)) ?_;have h1:∀x∈[Value.int .i64 (K.n:Int),s],x.oneCell'=true:=by have:=aK hw;simpa[Value.oneCell']using this
 refine St.p h1 ?_;refine av.q ?_;obtain⟨kF,h3⟩:=hg.is (i-2) hi;have hmem:refs.getD (i-2) 0∈refs:=by rw[xah,xab hi];exact xaB hi
 exact aN.here ⟨_::M,rfl,.cons (.refl _),refs.getD (i-2) 0,_,rfl,.inr hmem,fs[i-2],⟨s,rfl,hw.mono zS⟩,hg.pP _ (xaB hi'),by rw[<-e'];exact h3⟩
end
section
variable {kp gb n:Nat} {vr vf:zV} {refs:zL} {fs:List (zL)} {K:Kd} {S:Nat->aq.Fn} {ord af tr:zL} {C Z Y:Hp}
set_option maxHeartbeats 4000000 in
theorem ry{a x:Nat}{sv nF:zV}{ops:List rp}{l:zL}{kB:List UInt8}(ha:a<256)(hx:x<256)(hs:Sl 6 Y sv (ops.map rp.cells))(ho:∀o∈ops,o.Ok)(cO:ops.length<9223372036854775808)(hl:cR .u8 Y nF (iw l))(h8:∀x∈l,x<256)(SN:l.length<9223372036854775808)(hYn:(Y.map Prod.fst).Nodup):
  Rd zQ 3 #[.int .u8 (a:Int),sv,.int .u8 (x:Int),nF,bI kB] Y (· =.bool true):=by
 refine aS λg=>Mw (aO.q (ae.pw (b:=6) zD ?_));have hn6:=xaZ a (show 0<6 by decide);refine ae.fE (a:=1) ?_;obtain⟨n,hn⟩:∃n,n=1+a%6:=⟨_,rfl⟩;rw[<-hn];refine aa.fq (K7 (n:=n) ⟨by omega,by omega⟩ hs ho cO) ?_;rintro w H ⟨gb,kp,K,S,refs,fs,vr,vf,M,CR,CF,C,rs,tr,rfl,rfl,hY,hG,rfl,hcap,Ea,wu,rfl⟩;have Vj:1<=K.n:=by omega
 have R1:K.n<=6:=by omega
 refine ae.bf (Br.no (aa.fq (C:=M++gG gb kp K.n vr vf CR CF C) (Jp hG.look hG.yO hG.ks zO zO hx) ?_));rintro w H ⟨M',rfl,jM,r,tv,rfl,hr,hT⟩;have hZe:M'++gG gb kp K.n vr vf CR CF C=(M'++(fA gb kp K.n vr vf::(CR++CF)))++C:=by simp[xaj]
 rw[hZe];obtain⟨Z,hZ⟩:∃Z,Z=M'++(fA gb kp K.n vr vf::(CR++CF)):=⟨_,rfl⟩;rw[<-hZ];have hcell:fA gb kp K.n vr vf∈Z:=by rw[hZ];exact xaa _ (.head _)
 have hT:bZ Z tv K.n (S r):=hT.mono λy hy=>by rw[hZ];exact xac _ hy
 have YJ:∀y∈Y,y∈Z:=λy hy=>by rw[hZ];exact xac _ (jM.sub _ (hY.sub _ hy))
 have hg:=hG.yO;have hK:=hG.ks;clear hG hZ hZe jM hY;have Kx:∀s,s<2\/s∈refs->2<=s->K.hold s≠0:=λs h h2=>hg.mem.2 (h.resolve_left zO);have hlr:live K.N r:=by
  by_cases h2:r<2
  ·exact .inl h2
  exact hK.yz r (Kx r hr zO)
 have UH:∀s,K.hold s<=36:=λs=>by rw[hg.hold];have:=xda (a:=s) (l:=refs);omega
 have tY:2^K.n<=2^6:=xav zD R1;obtain⟨T,t1,t2,t3,t4,t5⟩:=No hK zO K.n r zO hlr;have tl:(ef T).length<=65536:=by have:=MX t2 K.n t4;omega
 obtain⟨s0,rfl,hs0⟩:=hT.cell;have h1:∀u∈[nI K.n,s0],u.oneCell'=true:=λu hu=>by
  simp only[xaf,xao,xaQ]at hu;rcases hu with rfl|rfl
  ·rfl
  exact hs0
 refine Ext.two λWR _=>St.whole (r:=[nI K.n,s0]) (.head _) rfl rfl h1 ?_;refine Ld.v (.tail _ (xac _ hcell)) ?_;refine aa.eh (args:=#[ptr kp,u32 r]) (.cons (.app .here)) (Gf hK (λs d hd=>by have:=hK.ok.wf.var hd;omega) t1 tl) ?_;refine Ext.two (DR.of (R:=[fA gb kp K.n vr vf]) (.qJ (.tail _ (xac _ hcell))) (Ld.v (.head _) ?_));refine aa.fq (Fb (n:=K.n) zO (B:=(WR,.cells [nI K.n,s0].toArray 30 zZ)::(Z++C)) (hl.mono λ_ h=>.tail _ (xac _ (YJ _ h))) h8 SN) ?_;rintro w H ⟨p,N,rfl,hp,hN⟩;refine⟨.qJ (xaa _ (.tail _ (xac _ hcell))),?_⟩;obtain⟨Z2,U7⟩:∃Z2,Z2=N++((WR,.cells [nI K.n,s0].toArray 30 zZ)::Z):=⟨_,rfl⟩;have e2:N++((WR,.cells [nI K.n,s0].toArray 30 zZ)::(Z++C))=Z2++C:=by rw[U7];simp
 rw[e2];have YG:∀y∈Z,y∈Z2:=λy hy=>by rw[U7];exact xaa _ (.tail _ hy)
 have YD:(WR,Obj.cells #[nI K.n,s0] 30 zZ)∈Z2:=by rw[U7];exact xaa _ (.head _)
 have hv7:cR .i64 Z2 w (iw p):=hN.ints.mono λ_ h=>by rw[U7];exact xac _ h
 have sB:=YG _ hcell;have YI:∀y∈Y,y∈Z2:=λy hy=>YG _ (YJ y hy);have Wz:bZ Z2 (.agg #[nI K.n,s0]) K.n (S r):=hT.mono YG;clear U7 e2 hT hcell YJ hN;have mP:p.length=K.n:=by rw[hp.length_eq,xaT]
 have XU:p.Nodup:=hp.nodup_iff.2 xcs;refine aa.fq (args:=#[ptr kp,w]) (Jv hK.at' hv7 (.refl _) hp zI) ?_;rintro w2 H ⟨C1,rfl,hM⟩;obtain⟨Um,SK⟩:=DS XU ((List.Perm.refl (List.range K.n)).trans hp.symm);have hcan:=OZ hg R1 Vj hcap zO (List.Perm.refl (List.range K.n)) (ls:=path (List.range K.n) p) (λx hx=>by have:=SK x hx;rw[xaT]at this;exact this);rcases hM with⟨_,rfl,MR⟩|⟨h0,_,_⟩;rotate_left
 ·rw[hcan]at h0;cases h0
 rw[Um,xaW]at MR;obtain⟨K1,S1,abH,cj,iT⟩:=MR;have hg1:=hg.kept iT;have Kv:∀s,K1.hold s<=36:=λs=>by rw[iT.hold];exact UH s
 refine⟨.qJ (xac _ sB),Ext.two (Ld.v (xac _ sB) ?_)⟩;have wq:Reads K.n (ef T) (.ok T []):=EZ t2 t3 zO tl;refine aa.fn (args:=#[ptr kp,bI (ef T)]) (.app .here) (sF cj (ef T) (λs=>by rw[iT.n];have:=Kv s;omega)) ?_;rw[iT.n];rintro w3 C2 (⟨_,at_,e,hb,_⟩|⟨T',l',y,e,hr',rfl,hb⟩)
 ·exact absurd (wq.uniq hb) nofun
 obtain⟨rfl,_⟩:T=T'/\l'=[]:=by have:=wq.uniq hr';cases this;exact⟨rfl,rfl⟩
 have VA:=IE (ord:=p) hg1 (by rw[iT.n];exact R1) (by rw[iT.n];exact Vj) (iT.cap.trans hcap) zO (by rw[iT.n];exact hp) t2 (by rw[iT.n];exact t3) (by rw[iT.n];exact t4);rcases hb with⟨y',K2,S2,nT,ee,bN,xe,hly,hSy⟩|⟨_,_,hno⟩;rotate_left
 ·exact absurd VA hno
 obtain⟨rfl,rfl⟩:y'=y/\e=0:=by
  simp only[Value.tuple.injEq,Array.mk.injEq,xau,u32,nI,Value.int.injEq,xb1,xaY]at ee;omega
 clear ee;have FY:K2.n=K.n:=xe.n.trans iT.n;have Uy:=uG cj bN xe (x:=r) (λh2=>by rw[iT.hold];exact Kx r hr h2);have yD:S2 r=S r:=by
  rw[Uy.2];by_cases h2:2<=r
  ·exact iT.fn r (Kx r hr h2)
  have Em:r=0\/r=1:=by omega
  rcases Em with rfl|rfl
  ·rw[funext hK.ok.mid.int.zero,funext cj.ok.mid.int.zero]
  rw[funext hK.ok.mid.int.one,funext cj.ok.mid.int.one]
 obtain rfl:y'=r:=bN.ok.wf.canon bN.ok.lv bN.ok.mid.int _ y' r (xak _) hly Uy.1 (λz=>by rw[hSy,t5,yD]);have Ku:∀s,K2.hold s<=37:=λs=>by have:=xe.le s;have:=Kv s;simp only[xbP]at*;omega
 refine Ext.mk rfl (Ext.mk rfl (Ext.mk rfl ?_));refine aa.fn .here (uV (n:=K.n) zO (ef T) _) ?_;rintro w4 _ ⟨N3,rfl,⟨at_,e,hb,_⟩|⟨T',l',v3,hr3,rfl,Wy⟩⟩
 ·exact absurd (wq.uniq hb) nofun
 obtain⟨rfl,_⟩:T=T'/\l'=[]:=by have:=wq.uniq hr3;cases this;exact⟨rfl,rfl⟩
 obtain⟨s3,rfl,Wi⟩:=Wy.cell;have h13:∀u∈[nI K.n,s3],u.oneCell'=true:=λu hu=>by
  simp only[xaf,xao,xaQ]at hu;rcases hu with rfl|rfl
  ·rfl
  exact Wi
 refine Ext.mk rfl (Ext.mk rfl (Ext.mk rfl λO4 _=>St.whole (r:=[nI K.n,s3]) (.head _) rfl rfl h13 λJ47 h47=>?_));have main:J47 [.bool false] ((O4,.cells [nI K.n,s3].toArray 30 zZ)::(N3++(Z2++C2))):=by
  refine h47 _ _ λ_=>Br.no ?_;refine aa.fn (.left (C:=[])) (uV (n:=K.n) zO kB []) ?_;rintro w5 _ ⟨N4,rfl,SX⟩;rw[xaP]at SX⊢;have ZB:∀(X:Hp) (t:Bool),t=true->(∀y∈Y,y∈X)->aN (λv H=>H=Y/\v=.bool true) (.returned (.bool t)) X:=λX t ht hX=>bX.mk (aG.sub hYn hX) (by rw[ht]);have YH:∀(A:Hp) (C':Hp),∀y∈Y,y∈A++((O4,Obj.cells [nI K.n,s3].toArray 30 zZ)::(N3++(Z2++C'))):=λA C' y hy=>xaa _ (.tail _ (xaa _ (xac _ (YI y hy))));rcases SX with⟨at_,e,SX,rfl⟩|⟨T5,l5,v5,hr5,rfl,RU⟩
  ·have he:=SX.fit;refine Ext.mk rfl (Ext.mk rfl (Ext.mk rfl λb56 _=>St.whole (r:=[nI 0,.slice none 0 0]) (.head _) rfl rfl (by simp[Value.oneCell']) ?_));refine Ld.v (.tail _ (xaa _ (.tail _ (xaa _ (xac _ sB))))) ?_;refine aa.fn (args:=#[ptr kp,bI kB]) (.cons (.app (.cons (.app (.app .here))))) (sF bN kB (λs=>by rw[FY];have:=Ku s;omega)) ?_;rw[FY];rintro w6 C3 (⟨rfl,at6,e6,SW,rfl⟩|⟨T6,l6,y6,e6,XS,rfl,SW⟩);rotate_left
   ·exact absurd (SX.uniq XS) nofun
   obtain⟨rfl,rfl⟩:at_=at6/\e=e6:=by have:=SX.uniq SW;cases this;exact⟨rfl,rfl⟩
   refine Ext.mk rfl (Ext.mk rfl (Ext.mk rfl (ae.nU ?_)));rw[xas (show¬(e≠e)from λh=>h rfl)];refine dr.or false (λ_=>?_) rfl λ_=>Br.no ?_
   ·refine ae.nU ?_;rw[xas (show¬(at_≠at_)from λh=>h rfl)];exact dr.and false (λh=>absurd h zD) rfl λ_=>⟨rfl,rfl⟩
   refine ae.nU (b:=0) (Br.T ?_ he);exact ae.bA (a:=0) (b:=0) (ZB _ _ rfl λy hy=>.tail _ (YH N4 _ y hy))
  obtain⟨s5,rfl,XO⟩:=RU.cell;have h15:∀u∈[nI K.n,s5],u.oneCell'=true:=λu hu=>by
   simp only[xaf,xao,xaQ]at hu;rcases hu with rfl|rfl
   ·rfl
   exact XO
  refine Ext.mk rfl (Ext.mk rfl (Ext.mk rfl λb56 _=>St.whole (r:=[nI K.n,s5]) (.head _) rfl rfl h15 ?_));refine Ld.v (.tail _ (xaa _ (.tail _ (xaa _ (xac _ sB))))) ?_;refine aa.fn (args:=#[ptr kp,bI kB]) (.cons (.app (.cons (.app (.app .here))))) (sF bN kB (λs=>by rw[FY];have:=Ku s;omega)) ?_;rw[FY];rintro w6 C3 (⟨_,at_,e,SW,_⟩|⟨T6,l6,y6,e6,XS,rfl,SW⟩)
  ·exact absurd (hr5.uniq SW) nofun
  obtain⟨rfl,_⟩:T5=T6/\l6=l5:=by have:=hr5.uniq XS;cases this;exact⟨rfl,rfl⟩
  rcases SW with⟨y7,K3,S3,tB,ee,fG,ow,X8,Oz⟩|⟨ee,_,_⟩
  ·obtain⟨rfl,rfl⟩:y7=y6/\e6=0:=by
    simp only[Value.tuple.injEq,Array.mk.injEq,xau,u32,nI,Value.int.injEq,xb1,xaY]at ee;omega
   have Rz:K3.n=K.n:=ow.n.trans FY;refine Ext.mk rfl (Ext.mk rfl (Ext.mk rfl (ae.nU (a:=0) (b:=0) (dr.or false (λ_=>ae.nU (a:=0) (b:=0) (dr.and false (λh=>absurd h zD) rfl λ_=>⟨rfl,rfl⟩)) rfl λ_=>?_))));refine Br.no (ae.nU (a:=0) (b:=0) (Br.F ?_));refine Ld.v (.tail _ (xaa _ (.tail _ (xaa _ (xac _ sB))))) ?_;refine aa.fn (args:=#[ptr kp,u32 y7]) (.cons (.app (.cons (.app (.app .here))))) (Gz fG zO X8) ?_;rintro w7 _ ⟨N5,t7,rfl,rfl,YP⟩;obtain⟨s7,rfl,hs7⟩:=YP.cell;have h17:∀u∈[nI K3.n,s7],u.oneCell'=true:=λu hu=>by
    simp only[xaf,xao,xaQ]at hu;rcases hu with rfl|rfl
    ·rfl
    exact hs7
   rw[Rz]at YP h17⊢;refine Ext.two λb87 _=>St.whole (r:=[nI K.n,s7]) (.head _) rfl rfl h17 λJ90 h90=>?_;refine ae.bA (a:=0) (b:=0) (Split.go zD ?_);refine av.whole (r:=[nI K.n,s7]) (.head _) rfl (av.whole (r:=[nI K.n,s5]) (.tail _ (.head _)) rfl ?_);refine aa.rd .here (n6 (YP.mono λy hy=>.tail _ (.tail _ (xaa _ (.tail _ (xaa _ (xaa _ (xac _ hy))))))) (RU.mono λy hy=>.tail _ (.tail _ (xac _ hy)))) ?_;rintro _ ⟨t,rfl,ht⟩;obtain rfl:t=true:=ht.2 Oz;exact aB.mk (JE.mk (h90 _ _ λ_=>ZB _ _ rfl λy hy=>.tail _ (.tail _ (YH N4 _ y hy))))
  obtain⟨rfl,rfl⟩:y6=0/\e6=9:=by
   simp only[Value.tuple.injEq,Array.mk.injEq,xau,u32,nI,Value.int.injEq,xb1,xaY]at ee;omega
  refine Ext.mk rfl (Ext.mk rfl (Ext.mk rfl (ae.nU (a:=0) (b:=9) (dr.or false (λh=>absurd h zD) rfl λ_=>Br.yes ?_))));exact ae.bA (a:=9) (b:=9) (dr.and true (λ_=>ae.bA (a:=0) (b:=0) ⟨rfl,rfl⟩) rfl λ_=>ZB _ _ rfl λy hy=>.tail _ (YH N4 _ y hy))
 refine ae.nU (a:=0) (b:=0) (Split.go zD (ae.nU (a:=0) (b:=0) (aB.mk (Split.go zD (ae.nU (a:=0) (b:=0) (aB.mk (Split.go zD ?_)))))));refine ae.nU (a:=0) (b:=0) (aB.mk (Split.go zD (ae.nU (a:=0) (b:=0) (aB.mk (Split.go zD ?_)))));refine ae.nU (a:=y') (b:=y') (aB.mk (Split.go zI ?_));refine av.whole (r:=[nI K.n,s3]) (.head _) rfl (av.whole (r:=[nI K.n,s0]) (.tail _ (xaa _ (xac _ YD))) rfl ?_);refine aa.rd .here (n6 (Wy.mono λy hy=>.tail _ hy) (Wz.mono λy hy=>.tail _ (xaa _ (xac _ hy)))) ?_;rintro _ ⟨t,rfl,ht⟩;obtain rfl:t=true:=ht.2 t5;exact Un.not (aB.mk (JE.mk main))
end
end
end Go.Proofs
