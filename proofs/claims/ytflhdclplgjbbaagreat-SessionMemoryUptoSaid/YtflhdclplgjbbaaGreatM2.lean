import Derived.Test.YtflhdclplgjbbaaGreatM1
import Derived.Laws.StructEq
import Derived.ChangeKeysEq
import Derived.Defers
import Derived.Test.YtflhdclplgjbbaaGreatProg
set_option linter.defProp false
set_option linter.unusedVariables false
set_option linter.unusedSimpArgs false
set_option linter.unusedSectionVars false
namespace Go.Sx
open Go
variable{P:Program}{g:Gh}{H:Hp}
section
def xP(P:Program)(t:TypeId)(x y:zV):Prop:=
 (∃q a b,P.underlying t=some (.int q)/\x=.int q a/\y=.int q b)\/(∃a b,P.underlying t=some .bool/\x=.bool a/\y=.bool b)
def xP.eq{t:TypeId}{x y:zV}(h:xP P t x y)(d:Nat)(w:World):∃b,(Op.equalIn (d+1) t x y).run P w=.ok b w/\(b=true↔x=y):=by
 rcases h with⟨q,a,b,hu,rfl,rfl⟩|⟨a,b,hu,rfl,rfl⟩
 ·exact⟨a==b,by simp[Op.equalIn,run_underlying hu],by simp⟩
 exact⟨a==b,by simp[Op.equalIn,run_underlying hu],by simp⟩
variable{xs:Array zV}
def qY{t:TypeId}{o:Nat}{x:zV}(hu:(∃q,P.underlying t=some (.int q))\/P.underlying t=some .bool)(h:xs[o]? =some x)(w:World):(part t xs o).run P w=.ok x w:=by rcases hu with⟨q,hu⟩|hu<;>simp[part,isAgg,run_underlying hu,h]
def qv(d:Nat)(xs ys:Array zV)(w:World):∀fs:List Field,(∀f∈fs,f.name≠ "_" /\∃x y,xs[f.offset]? =some x/\ys[f.offset]? =some y/\xP P f.type x y)->
  ∃b,(Op.eqFields (d+1) xs ys fs).run P w=.ok b w/\(b=true↔∀f∈fs,xs[f.offset]? =ys[f.offset]?)
 | [],_=>⟨true,by simp[Op.eqFields],by simp⟩
 |f::fs,h=>by
  obtain⟨hn,x,y,hx,hy,hp⟩:=h f zI;obtain⟨b',ih,hb'⟩:=qv d xs ys w fs λg hg=>h g (by simp[hg]);have hu:(∃q,P.underlying f.type=some (.int q))\/P.underlying f.type=some .bool:=by
   rcases hp with⟨q,_,_,hu,_⟩|⟨_,_,hu,_⟩
   ·exact .inl ⟨q,hu⟩
   exact .inr hu
  obtain⟨b,hr,hb⟩:=hp.eq d w;have p1:=qY hu hx w;have p2:=qY hu hy w;cases b with
  |false=>
   refine⟨false,by simp[Op.eqFields,hn,p1,p2,hr],?_⟩;simp only[xaR,xak,forall_eq_or_imp,false_iff,hx,hy,xat];exact λhh=>absurd (hb.2 hh.1) zD
  |true=>
   refine⟨b',by simp[Op.eqFields,hn,p1,p2,hr,ih],?_⟩;rw[hb'];simp only[xak,forall_eq_or_imp,hx,hy,xat,hb.1 rfl,xco]
def Cn.flat{t:TypeId}{fs:Array Field}(ht:P.underlying t=some (.struct fs))(hp:P.stoodInHeld t=false){ys:Array zV}{p:Prop}[Decidable p]
 (h:∀f∈fs.toList,f.name≠ "_" /\∃x y,xs[f.offset]? =some x/\ys[f.offset]? =some y/\xP P f.type x y)(he:(∀f∈fs.toList,xs[f.offset]? =ys[f.offset]?)↔p):Cn P t (.agg xs) (.agg ys) (decide p):=by
 have e:P.fieldsOf t=fs:=by simp[Program.fieldsOf,ht]
 intro w;show(Op.equalIn (9998+1+1) t _ _).run P w=_;rw[run_equalIn_struct w (9998+1) t xs ys (by rw[e];exact ht) hp,e];obtain⟨b,hr,hb⟩:=qv (P:=P) 9998 xs ys w fs.toList h;rw[hr];congr 1;rw[xbH,hb,he,xaM]
def mO.flat{t:TypeId}{fs:Array Field}(ht:P.underlying t=some (.struct fs)){xs:Array zV}
 (h:∀f∈fs.toList,f.name≠ "_" /\∃x,xs[f.offset]? =some x/\xP P f.type x x):mO P t (.agg xs):=by
 intro b w;have gen:∀d,(Instr.checkKey b (d+1+1) t (.agg xs)).run P w=.ok () w:=by
  intro d;unfold Instr.checkKey;simp only[Sem.run_bind,run_underlying ht,Result.andThen_ok];rw[<-Array.forIn_toList];clear ht;generalize fs.toList=l at h;induction l with
  |nil=>simp
  |cons f l ih=>
   obtain⟨hn,x,hx,hp⟩:=h f zI;have hu:(∃q,P.underlying f.type=some (.int q))\/P.underlying f.type=some .bool:=by
    rcases hp with⟨q,_,_,hu,_⟩|⟨_,_,hu,_⟩
    ·exact .inl ⟨q,hu⟩
    exact .inr hu
   have p1:=qY hu hx w;have p2:(Instr.checkKey b (d+1) f.type x).run P w=.ok () w:=by
    rcases hp with⟨q,a,_,hu,rfl,_⟩|⟨a,_,hu,rfl,_⟩
    ·simp only[Instr.checkKey,Sem.run_bind,run_underlying hu,Result.andThen_ok,Sem.run_pure]
    simp only[Instr.checkKey,Sem.run_bind,run_underlying hu,Result.andThen_ok,Sem.run_pure]
   have:=ih λg hg=>h g (by simp[hg]);simp only[xeH,Sem.run_bind];simp[hn,p1,p2];simpa using this
 exact gen 9998
def lj(n:Nat)(h:∀x∈xs.toList,(∃q a,x=.int q a)\/∃a,x=.bool a):Instr.sameBits (n+1+1) (.agg xs) (.agg xs)=true:=by
 simp only[Instr.sameBits,xeA,xcr,xc8];intro x hx;obtain⟨a,b⟩:=x;have h1:=xdJ hx;have e:a=b:=by
  obtain⟨i,hi,he⟩:=xbc.1 hx;simp at he;exact he.1.symm.trans he.2
 subst e;rcases h a h1.1 with⟨q,z,rfl⟩|⟨z,rfl⟩<;>simp[Instr.sameBits]
end
variable{b:Nat}
section
variable{κ:Type}[DecidableEq κ]{β:Type}{ke:κ->zV}{vr:zV->β->Prop}{es:Array MapEntry}{ck:Nat}{m:List (κ×β)}
def iJ(m:List (κ×β))(k:κ):List (κ×β):=m.filter λy=>¬y.1=k
def zn{k k':κ}:aN (iJ m k) k'=if k'=k then none else aN m k':=by
 unfold aN iJ;rw[List.find?_filter];by_cases e:k'=k
 ·rw[xae e];rw[xcV.2]
  ·rfl
  intro x _;simp;intro h1 h2;exact h1 (h2.trans e)
 rw[xac e];congr 1;congr 1
 funext y
 by_cases e2:y.1=k'
 ·have:¬y.1=k:=λe3=>e (e2.symm.trans e3);simp[e2,this,e]
 simp[e2]
def bP{k k':κ}{x:β}:aN (eu m k x) k'=if k'=k then some x else aN m k':=by
 unfold aN eu;by_cases hk:k∈m.map Prod.fst
 ·rw[xae hk];by_cases e:k'=k
  ·subst e;rw[xae rfl];induction m with
   |nil=>simp at hk
   |cons y m ih=>
    rw[xay,xbG];by_cases ey:y.1=k'
    ·simp[ey]
    rw[xac ey];simp only[ey,xdt];rw[ih];rw[xay]at hk;rcases xak.1 hk with h|h
    ·exact absurd h.symm ey
    simpa using h
  rw[xac e];have:∀l:List (κ×β),(List.find? (λy=>decide (y.1=k')) (l.map λy=>if y.1=k then(k,x)else y)).map Prod.snd=(List.find? (λy=>decide (y.1=k')) l).map Prod.snd:=by
   intro l;induction l with
   |nil=>rfl
   |cons y l ih=>
    rw[xay,xbG,xbG];by_cases ey:y.1=k
    ·have h1:decide (k=k')=false:=by simpa using λh=>e h.symm
     have h2:decide (y.1=k')=false:=by rw[ey];exact h1
     simp only[xae ey,h1,h2];exact ih
    simp only[xac ey];cases decide (y.1=k')with
    |true=>rfl
    |false=>exact ih
  exact this m
 rw[xac hk];rw[List.find?_append];by_cases e:k'=k
 ·subst e;have:List.find? (λy=>decide (y.1=k')) m=none:=by
   rw[xcV];intro y hy;simp;intro h;exact hk (xal.2 ⟨y,hy,h⟩)
  simp[this]
 have:¬k=k':=λh=>e h.symm;rw[xac e];cases List.find? (λy=>decide (y.1=k')) m<;>simp[this]
def wD(nd:(m.map Prod.fst).Nodup){i:Nat}{k:κ}{y:β}(hi:m[i]? =some (k,y)):iJ m k=m.eraseIdx i:=by
 unfold iJ;induction m generalizing i with
 |nil=>simp at hi
 |cons z m ih=>
  rw[xay,xaX]at nd;cases i with
  |zero=>
   simp at hi;subst hi;rw[List.eraseIdx_cons_zero,List.filter_cons_of_neg zI];rw[xcx];intro w hw;simp only[decide_not,xbL,xbq];intro e;exact nd.1 (xal.2 ⟨w,hw,e⟩)
  |succ i=>
   simp at hi;have hz:¬z.1=k:=λe=>nd.1 (xal.2 ⟨_,xav hi,e.symm⟩);rw[List.eraseIdx_cons_succ,List.filter_cons_of_pos (by simpa using hz),ih nd.2 hi]
omit [DecidableEq κ] in
def aI.less(h:aI ke vr es ck m)(i:Nat):aI ke vr (es.eraseIdxIfInBounds i) ck (m.eraseIdx i):=by
 have hl:(es.eraseIdxIfInBounds i).toList=es.toList.eraseIdx i:=by
  unfold Array.eraseIdxIfInBounds;split
  ·simp
  rename_i hh;rw[List.eraseIdx_of_length_le (by simpa using hh)]
 refine⟨?_,λj e x he hx=>?_,?_,?_,λe he=>?_⟩
 ·have:=xch List.length hl;rw[xb3,List.length_eraseIdx]at this;rw[this,List.length_eraseIdx,xb3,h.len]
 ·rw[<-xbd,hl,List.getElem?_eraseIdx]at he;rw[List.getElem?_eraseIdx]at hx;split at he
  ·rename_i hh;rw[xae hh]at hx;exact h.key j e x (by simpa using he) hx
  rename_i hh;rw[xac hh]at hx;exact h.key (j+1) e x (by simpa using he) hx
 ·rw[<-ie];exact h.nd.sublist (xd6 _ _)
 ·rw[hl,<-ie];exact h.born.sublist (xd6 _ _)
 rw[hl]at he;exact h.lt e (List.mem_of_mem_eraseIdx he)
def aI.ajc{P:Program}{kt:TypeId}{k:κ}{K:Hp->Prop}(hk:∀a b,Cn P kt (ke a) (ke b) (decide (a=b)))(hc:∀a,mO P kt (ke a))(h:aI ke vr es ck m)(hm:(b,Obj.map es ck)∈H)
 (h1:∀τ,aI ke vr τ ck (iJ m k)->∃H',df b (.map es ck) (.map τ ck) H H'/\K H'):sL P kt H (.map (some b)) (ke k) K:=by
 refine⟨hc k,.inr ?_⟩;rcases h.Ez hk k with⟨i,y,e,g1,g2,g3,g4⟩|⟨g1,g2⟩
 ·refine⟨b,es,ck,_,rfl,g4,?_⟩;have:=h.less i;rw[<-wD h.nd g2]at this;exact h1 _ this
 refine⟨b,es,ck,_,rfl,g2,hm,?_⟩;have e:iJ m k=m:=by
  unfold iJ;rw[xcx];intro w hw;simp only[decide_not,xbL,xbq];intro e;exact g1 (xal.2 ⟨w,hw,e⟩)
 obtain⟨H',hu,hK⟩:=h1 es (by rw[e];exact h);have:∀{H H':Hp},df b (.map es ck) (.map es ck) H H'->H'=H:=by
  intro H H' hu;generalize ho:Obj.map es ck=o at hu;induction hu with
  |head R=>rfl
  |tail _ ih=>rw[ih]
 rw[this hu]at hK;exact hK
end
section
variable{k i:Nat}{rs:List (List zV)}{C:Hp}{kd:IntKind}{r:List zV}{K:zV->Prop}
def aU.LG{T:TypeId}{v:zV}(hs:aU T k v rs C)(hr:rs[i]? =some r)(hC:∀y∈C,y∈H)(hk:K (.agg r.toArray)):
  ay k v (.int kd (i:Int)) λp=>aB k H p K:=by have hi:=(xah.1 hr).1;obtain⟨b',aF,rfl,rfl,aH⟩:=hs.pos zO;exact ay.nat hi (aB.row (hC _ (List.Mem.head _)) aH (by rw[xaZ hi];exact hr) hk)
def aU.aao{T:TypeId}{v x:zV}(hs:aU T k v rs C){j:Nat}(hr:rs[i]? =some r)(hj:r[j]? =some x)(hC:∀y∈C,y∈H)(hk:K x):
  ay k v (.int kd (i:Int)) λp=>aj j p λq=>Ld H q K:=by have hi:=(xah.1 hr).1;obtain⟨b',aF,rfl,rfl,aH⟩:=hs.pos zO;exact ay.nat hi (aj.mk (Ld.row (hC _ (List.Mem.head _)) aH (by rw[xaZ hi];exact hr) hj hk))
def aU.Vv{T:TypeId}{v x:zV}(hs:aU T 1 v rs C)(hr:rs[i]? =some [x])(hC:∀y∈C,y∈H)(hk:K x):
  ay 1 v (.int kd (i:Int)) λp=>Ld H p K:=by have hi:=(xah.1 hr).1;obtain⟨b',aF,rfl,rfl,aH⟩:=hs.pos zO;exact ay.nat hi (Ld.acZ (l:=rs++aF) (hC _ (List.Mem.head _)) aH (by rw[xaZ hi];exact hr) hk)
def aU.aan{T:TypeId}{k n:Nat}{v:zV}(hs:aU T k v rs C)(hr:rs[i]? =some r)(hn:0<n/\n<=k)(hC:∀y∈C,y∈H)(hk:K (.agg (r.take n).toArray)):
  ay k v (.int kd (i:Int)) λp=>aj 0 p λq=>aB n H q K:=by
 have hi:=(xah.1 hr).1;obtain⟨b',aF,rfl,rfl,aH⟩:=hs.pos zO;have Ea:r.length=k:=aH r (xad _ (xav hr));refine ay.nat hi (aj.mk ?_);have CE:At H (.pointer (some ⟨b',0+i*k+0,none⟩)) (r.take n):=⟨b',_,_,_,_,rfl,hC _ (List.Mem.head _),λj x hj=>by
  have VC:j<n:=by have:=(xah.1 hj).1;simp at this;omega
  rw[List.getElem?_take,xae VC]at hj;rw[xcB,xa1,iX aH zO,xaZ hi,hr];exact hj⟩
 exact aB.at CE zP hn.1 (λ_ h=>h) hk
def Ns{k:Nat}{l:List (List zV)}(h:∀r∈l,r.length=k){i:Nat}{r xs:List zV}(hi:l[i]? =some r)(hx:xs.length<=k):jo (ψ l) (i*k) xs=ψ (l.set i (xs++r.drop xs.length)):=by
 have η:=(xah.1 hi).1;have hr:=h r (xav hi);have key:∀(xs:List zV) (j:Nat) (l:List (List zV)) (r:List zV),(∀r∈l,r.length=k)->l[i]? =some r->j+xs.length<=k->jo (ψ l) (i*k+j) xs=ψ (l.set i (r.take j++xs++r.drop (j+xs.length))):=by
  intro xs;induction xs with
  |nil=>
   intro j l r h hi _;have η:=(xah.1 hi).1;simp only[jo,xaI,xbF,xcB,xbs];congr 1;apply xba;intro m;rw[xbp];by_cases e:i=m
   ·subst e;rw[xae rfl,hi,xae η]
   rw[xac e]
  |cons x xs ih=>
   intro j l r h hi hj;have hr:=h r (xav hi);have η:=(xah.1 hi).1;simp only[xax]at hj;rw[jo,qj h hi zO,xcq];rw[ih (j+1) (l.set i (r.set j x)) (r.set j x) (λy hy=>by
    rcases xb2 hy with hy|rfl
    ·exact h y hy
    simpa using hr) (by simp[η]) zO]
   rw[List.set_set];congr 2;have e1:(r.set j x).take (j+1)=r.take j++[x]:=by
    rw[xc6,xae zO,xeC];simp[List.take_take,show min (j+1) j=j by omega,show j+1-min j r.length=1 by omega]
   have e2:(r.set j x).drop (j+1+xs.length)=r.drop (j+(x::xs).length):=by
    rw[List.drop_set,xae zO];congr 1;simp;omega
   rw[e1,e2];simp
 have:=key xs 0 l r h hi zO;simpa using this
def aU.WB{T:TypeId}{k n:Nat}{v:zV}{C A B:Hp}(hs:aU T k v rs C){xs:List zV}(hr:rs[i]? =some r)(hx:xs.length=n/\n<=k)(h1:∀x∈xs,x.oneCell'=true){K:Hp->Prop}
 (hk:∀C',aU T k v (rs.set i (xs++r.drop n)) C'->K (A++(C'++B))):ay k v (.int kd (i:Int)) λp=>aj 0 p λq=>St n (A++(C++B)) q (.agg xs.toArray) K:=by
 have hi:=(xah.1 hr).1;obtain⟨b',aF,rfl,rfl,aH⟩:=hs.pos zO;refine ay.nat hi (aj.mk ?_);have hg:(rs++aF)[i]? =some r:=by rw[xaZ hi];exact hr
 have e:(rs++aF).set i (xs++r.drop xs.length)=rs.set i (xs++r.drop n)++aF:=by rw[xc5 _ _ hi,hx.1]
 refine St.mk (c':=ψ (rs.set i (xs++r.drop n)++aF)) (H':=A++([(b',.cells (ψ (rs.set i (xs++r.drop n)++aF)) T zZ)]++B)) (((df.head _).append B).cf A) (by simpa[Value.cells]using hx.1) ?_ (by simpa[Value.cells]using h1) ?_ ?_
 ·rw[bK aH,xa1,xcB,xaf];have:=xaY k (xcO hi);rw[xbr]at this;have h2:rs.length*k<=(rs.length+aF.length)*k:=xaY k zO;omega
 ·simp only[Value.cells,xa1,xcB];rw[Ns aH hg zO,e]
 have Ea:r.length=k:=aH r (xad _ (xav hr));refine hk _ (aU.mk' (aF:=aF) (λy hy=>?_) zI zI);rcases xao.1 hy with hy|hy
 ·rcases xb2 hy with hy|rfl
  ·exact aH y (xad _ hy)
  simp;omega
 exact aH y (xaa _ hy)
def aU.Ge{T:TypeId}{v:zV}{C A B:Hp}(hs:aU T k v rs C){xs:List zV}(hi:i<rs.length)(hx:xs.length=k)(h1:∀x∈xs,x.oneCell'=true){K:Hp->Prop}
 (hk:∀C',aU T k v (rs.set i xs) C'->K (A++(C'++B))):ay k v (.int kd (i:Int)) λp=>St k (A++(C++B)) p (.agg xs.toArray) K:=by
 obtain⟨b',aF,rfl,rfl,aH⟩:=hs.pos zO;refine ay.nat hi (St.row (l:=rs++aF) (((df.head _).append B).cf A) aH zP hx h1 ?_);have e:(rs++aF).set i xs=rs.set i xs++aF:=by rw[xc5 _ _ hi]
 rw[e];refine hk [(b',_)] (aU.mk' (aF:=aF) (λy hy=>?_) zI zI);rcases xao.1 hy with hy|hy
 ·rcases xb2 hy with hy|rfl
  ·exact aH y (xad _ hy)
  exact hx
 exact aH y (xaa _ hy)
variable{yD:IntKind}{l:List Int}
def aL.ld{T:TypeId}{v:zV}(hs:aL T kd v l C){x:Int}(hx:l[i]? =some x)(hC:∀y∈C,y∈H)(hk:K (.int kd x)):ay 1 v (.int yD (i:Int)) λp=>Ld H p K:=
 aU.Vv hs (x:=.int kd x) (by simp[hx]) hC hk
def aL.put{T:TypeId}{v:zV}{C A B:Hp}(hs:aL T kd v l C){x:Int}(hi:i<l.length){K:Hp->Prop}
 (hk:∀C',aL T kd v (l.set i x) C'->K (A++(C'++B))):ay 1 v (.int yD (i:Int)) λp=>St 1 (A++(C++B)) p (.int kd x) K:=by
 have hi':i<(l.map λn=>[Value.int kd n]).length:=by simpa using hi
 obtain⟨b',aF,rfl,rfl,aH⟩:=aU.pos hs zO;apply ay.nat hi';refine St.cell (l:=l.map (λn=>[Value.int kd n])++aF) (i:=i) (k:=1) (j:=0) (r:=[.int kd l[i]]) (((df.head _).append B).cf A) aH (by rw[xaZ hi'];simp[hi]) zO rfl ?_;have e:(l.map (λn=>[Value.int kd n])++aF).set i ([Value.int kd l[i]].set 0 (.int kd x))=(l.set i x).map (λn=>[Value.int kd n])++aF:=by
  rw[xc5 _ _ hi',xcC];rfl
 rw[e];refine hk [(b',_)] (aU.mk' (aF:=aF) (λr hr'=>?_) zI zI);rcases xao.1 hr' with hr'|hr'
 ·obtain⟨y,_,rfl⟩:=xal.1 hr';rfl
 exact aH r (xaa _ hr')
def aO.nil:aO H []:=λ_ _ h=>h.bA
def aU.cut{T:TypeId}{v:zV}(hs:aU T k v rs C)(hi:i<=rs.length)(hk:∀v',aU T k v' (rs.take i) C->K v'):
  gD k v none (some (.int kd (i:Int))) K:=by
 by_cases hp:0<rs.length
 ·obtain⟨b',aF,rfl,rfl,aH⟩:=hs.pos hp;refine gD.upto zO (hk _ ?_);have e:rs++aF=rs.take i++(rs.drop i++aF):=by rw[<-xag,xbs]
  rw[e]at aH⊢;exact aU.mk' aH zP zP
 obtain rfl:rs=[]:=xbO zO;obtain rfl:i=0:=by simpa using hi
 obtain⟨a,c,rfl⟩:=hs.len;exact gD.upto (xaL _) (hk _ (by simpa using hs))
def aL.cut{T:TypeId}{v:zV}(hs:aL T kd v l C)(hi:i<=l.length)(hk:∀v',aL T kd v' (l.take i) C->K v'):
  gD 1 v none (some (.int yD (i:Int))) K:=
 aU.cut hs (by simpa using hi) λv' h=>hk v' (by unfold aL;rw[List.map_take];exact h)
end
variable{C:Hp}
section
variable{c:Hp->Hp}
def bE.split(h:bE C H c):∃A B,∀X,c X=A++(X++B):=by
 induction h with
 |here=>exact⟨[],[],λX=>by simp⟩
 | @left A=>exact⟨[],A,λX=>rfl⟩
 | @cons x H c h ih=>
  obtain⟨A,B,e⟩:=ih;exact⟨x::A,B,λX=>by show x::c X=_;rw[e];rfl⟩
 | @app A' H c h ih=>
  obtain⟨A,B,e⟩:=ih;exact⟨A'++A,B,λX=>by show A'++c X=_;rw[e,xag]⟩
def bE.sub(h:bE C H c):∀x∈C,x∈H:=λx hx=>by
 obtain⟨A,B,e⟩:=h.split;rw[h.spec.1,e];exact xaa _ (xad _ hx)
variable{K:zV->Hp->Prop}
def aU.qd{elem k bytes:Nat}{zero:zV}{v:zV}{rs:List (List zV)}(h:aU elem k v rs C)(hh:bE C H c){xb:Nat}{r:List zV}{xT:TypeId}{fz:Nat×Nat}{xc:Nat}
 (hx:(xb,Obj.cells r.toArray xT fz)∈H)(hr:r.length=k)(h1:∀u∈r,u.oneCell'=true)(hz:∃z:List zV,zero.cells=z.toArray/\z.length=k)
 (hb:(rs.length+1)*bytes<=140737488355328)(cB:rs.length+1<=9223372036854775807)
 (hk:∀v' C',aU elem k v' (rs++[r]) C'->K v' (c C')):App P elem k bytes zero H v (.slice (some ⟨xb,0,none⟩) 1 xc) K:=by obtain⟨A,B,e⟩:=hh.split;have e2:=hh.spec.1;rw[e]at e2;subst e2;exact h.HK hx hr h1 hz hb cB λv' C' ho=>by have:=hk v' C' ho;rwa [e]at this
variable{kd:IntKind}
def aU.WA{T:TypeId}{k:Nat}{v:zV}{rs:List (List zV)}(hs:aU T k v rs C)(hh:bE C H c){i:Nat}{xs:List zV}(hi:i<rs.length)(hx:xs.length=k)(h1:∀x∈xs,x.oneCell'=true){K:Hp->Prop}
 (hk:∀C',aU T k v (rs.set i xs) C'->K (c C')):ay k v (.int kd (i:Int)) λp=>St k H p (.agg xs.toArray) K:=by obtain⟨A,B,e⟩:=hh.split;have e2:=hh.spec.1;rw[e]at e2;subst e2;exact hs.Ge hi hx h1 λC' ho=>by have:=hk C' ho;rwa [e]at this
variable{l:List Int}
def aL.qd{T:TypeId}{v:zV}{bytes:Nat}(h:aL T kd v l C)(hh:bE C H c){xb xc:Nat}{x:Int}{xT:TypeId}{fz:Nat×Nat}(hx:(xb,Obj.cells (az kd [x]) xT fz)∈H)
 (hb:(l.length+1)*bytes<=140737488355328)(hm:l.length+1<=9223372036854775807)(hk:∀v' C',aL T kd v' (l++[x]) C'->K v' (c C')):App P T 1 bytes (.int kd 0) H v (.slice (some ⟨xb,0,none⟩) 1 xc) K:=by obtain⟨A,B,e⟩:=hh.split;have e2:=hh.spec.1;rw[e]at e2;subst e2;exact h.app hx hb hm λv' C' ho=>by have:=hk v' C' ho;rwa [e]at this
def aL.E3{T:TypeId}{v x:zV}{l2:List Int}{bytes:Nat}(h:aL T kd v l C)(hh:bE C H c)(hx:di kd H x l2)
 (hb:(l.length+l2.length)*bytes<=140737488355328)(hm:l.length+l2.length<=9223372036854775807)(hk:∀v' C',aL T kd v' (l++l2) C'->K v' (c C')):App P T 1 bytes (.int kd 0) H v x K:=by obtain⟨A,B,e⟩:=hh.split;have e2:=hh.spec.1;rw[e]at e2;subst e2;exact h.apps hx hb hm λv' C' ho=>by have:=hk v' C' ho;rwa [e]at this
def aL.mh{T:TypeId}{yD:IntKind}{v:zV}(hs:aL T kd v l C)(hh:bE C H c){i:Nat}{x:Int}(hi:i<l.length){K:Hp->Prop}
 (hk:∀C',aL T kd v (l.set i x) C'->K (c C')):ay 1 v (.int yD (i:Int)) λp=>St 1 H p (.int kd x) K:=by obtain⟨A,B,e⟩:=hh.split;have e2:=hh.spec.1;rw[e]at e2;subst e2;exact hs.put hi λC' ho=>by have:=hk C' ho;rwa [e]at this
def aL.one{T:TypeId}{v:zV}(h:aL T kd v l C):v.oneCell'=true:=by obtain⟨a,c,e⟩:=aU.len h;rw[e];rfl
def fA(l:zL)(i x:Nat):(iw l).set i (x:Int)=iw (l.set i x):=by unfold iw;rw[xcC]
def cH(a b:zL):iw (a++b)=iw a++iw b:=by unfold iw;rw[xaz]
def bM{l:zL}{i:Nat}(h:i<l.length):(iw l)[i]? =some ((l.getD i 0:Nat):Int):=by rw[dk (xab h)];simp[List.getD,xab h]
end
def mw{p:Nat->Prop}(h:∃k,p k):∃k,p k/\∀j,p j->k<=j:=by
 obtain⟨k,hk⟩:=h;induction k using Nat.strongRecOn with
 |_ k ih=>
  by_cases e:∃j,j<k/\p j
  ·obtain⟨j,hj,hp⟩:=e;exact ih j hj hp
  exact⟨k,hk,λj hp=>xc9 λη=>e ⟨j,η,hp⟩⟩
open Classical in
noncomputable def ow(J:Nat->List zV->Hp->Prop)(vs:List zV)(H:Hp):Nat:=if h:∃k,J k vs H then Classical.choose (mw h)else 0
variable{J:Nat->List zV->Hp->Prop}{vs:List zV}
def NY{k:Nat}(h:J k vs H):ow J vs H<=k:=by unfold ow;rw[xd8 ⟨k,h⟩];exact(xck (mw ⟨k,h⟩)).2 k h
def D0(h:∃k,J k vs H):J (ow J vs H) vs H:=by unfold ow;rw[xd8 h];exact(xck (mw h)).1
def pe(J:Nat->List zV->Hp->Prop):List zV->Hp->Prop:=λvs H=>∃k,J k vs H
def pe.open(h:pe J vs H):∃k,J k vs H/\k=ow J vs H:=⟨_,D0 h,rfl⟩
def pe.mk(k:Nat)(h:J k vs H):JE (pe J) vs H:=JE.mk ⟨k,h⟩
def pe.back{vs':List zV}{H' H0:Hp}{k:Nat}(e:aO H H')(hk:k=ow J vs H0)(k':Nat)(h:J k' vs' H')(η:k'<k):aD (pe J) (ow J) vs' H vs H0:=
 aD.of e ⟨k',h⟩ (xaC (NY h) zO)
def adh{Q:(List zV->Hp->Prop)->(List zV->Hp->Nat)->Prop}(J:Nat->List zV->Hp->Prop)(k:Nat)(h:J k vs H)(hq:Q (pe J) (ow J)):
  ∃(I:List zV->Hp->Prop) (m:List zV->Hp->Nat),JE I vs H/\Q I m:=⟨_,_,pe.mk k h,hq⟩
section
def aq.SH{t e:Nat}{kd:IntKind}{x y:Int}{K:zV->Hp->Prop}(h1:P.underlying t=some (.slice e))(h2:dm P e=some 1)(h3:fh P e=some (.int kd 0))
 (h:∀b,K (.slice (some ⟨b,0,Option.none⟩) 2 2) ((b,.cells (az kd [x,y]) e zZ)::H)):aq P t 2 [(0,.int kd x),(1,.int kd y)] H K:=by refine⟨az kd [x,y],e,1,_,h1,h2,h3,by decide,?_,λb _=>h b⟩;have e1:Array.range (2*1)=#[0,1]:=rfl;simp[Instr.fill,Value.cells,az,e1]
def zg(kd:IntKind)(l:List Int):ψ (l.map λn=>[Value.int kd n])=az kd l:=by
 unfold ψ az;congr 1;induction l with
 |nil=>rfl
 |cons x l ih=>rw[xay,xc2,ih];rfl
def aL.made{T:TypeId}{kd:IntKind}(l:List Int):aL T kd (.slice (some ⟨b,0,none⟩) l.length l.length) l [(b,.cells (az kd l) T zZ)]:=by
 have:=aU.mk' (T:=T) (k:=1) (b:=b) (n:=l.length) (c:=l.length) (rs:=l.map λn=>[Value.int kd n]) (aF:=[]) (λr hr=>by
  rw[xaI]at hr;obtain⟨x,_,rfl⟩:=xal.1 hr;rfl) zI zI
 rw[xaI,zg]at this;exact this
end
section
structure QY where
 f:FuncId
 l:List zV
def lf(P:Program)(g:Gh)(f:FuncId)(args:Array zV)(H:Hp)(R:Ending->Hp->Prop):Prop:=
 ∀w,Own g H w->∀u,CallsD P f args u w λe u' w'=>u'=u/\∃H',Own g H' w'/\R e H'
def kJ(P:Program)(g:Gh)(f:FuncId)(args:Array zV)(H:Hp)(K:Hp->Prop):Prop:=lf P g f args H λe H'=>(∃v,e=.returned v)/\K H'
def Q8(P:Program)(g:Gh)(K:Hp->Prop):List QY->Hp->Prop
 | [],H=>K H
 |x::r,H=>kJ P g x.f x.l.toArray H (Q8 P g K r)
def abV(P:Program)(o:Oper)(ρ:Operand->zV)(k:QY->Prop):Prop:=
 match o.op with
 | .defer c=>match c.callee with
  | .value x=>match ρ x with
   | .func (.func f) first cap=>cond (aW P f) (k ⟨f,first.toList++(c.args.toList.map ρ++cap.toList)⟩) False
   |_=>False
  |_=>False
 |_=>False
def SF:Code->Option (Array Oper×Oper)
 | .region _ ζ false=>match ζ.toList.getLast? with
  |some o=>match o.op with
   | .defer _=>some (ζ,o)
   |_=>none
  |none=>none
 |_=>none
def Uk(P:Program)(g:Gh)(fn:Func)(R:Ending->Hp->Prop)(dl:List QY):Exit->Fr->Hp->Prop
 | .normal,fr,H=>Q8 P g (λH'=>vY P fr H' fn.results.toList λvs=>R (.returned (FO vs)) H') dl H
 | .ret,fr,H=>Q8 P g (λH'=>vY P fr H' fn.results.toList λvs=>R (.returned (FO vs)) H') dl H
 |_,_,_=>False
def Hq(P:Program)(g:Gh)(n:Nat)(E:List QY->Exit->Fr->Hp->Prop):Code->Hn->List QY->Fr->Hp->Prop
 | .seq x y,hn,dl,fr,H=>
  match SF x with
  |some (ζ,o)=>cond (o.dst.isNone&&o.guard.isNone)
    (fg P g n ζ false (ζ.toList.length+1) false none [] ζ.toList.dropLast fr H (λ_ σ H'=>abV P o (ev σ) λd=>Hq P g n E y hn.b (d::dl) σ H') (λ_ _=>False)) False
  |none=>match hn.m with
   |0=>den P g n x hn.a (Di (Hq P g n E y hn.b dl) (E dl)) fr H
   |_=>cond (WQ x hn.I)
    (afw hn.L.length (λvs H'=>∀gs,Hq P g n E y hn.b dl (mix hn.L vs hn.I fr gs) H') λJ=>den P g n x hn.a (Di (λσ H'=>JE J (Fy σ hn.L) H') (E dl)) fr H) False
 |c,hn,dl,fr,H=>den P g n c hn (E dl) fr H
def Us(P:Program)(g:Gh)(fn:Func)(hn:Hn)(args:List zV)(H:Hp)(R:Ending->Hp->Prop):Prop:=
 match fn.body with
 |some c=>cond (Nat.ble args.length fn.ntmps) (Hq P g fn.ntmps (Uk P g fn R) c hn [] (g8 args 0) H) False
 |none=>False
def O6:List PanicEntry->Hp->Prop:=λ_ _=>∀_:Fr,False
def DOK(P:Program)(x:QY)(d:Deferred):Prop:=∃cap args,d={target:=.fn (.func x.f) cap,args:=args}/\args++cap=x.l.toArray/\aW P x.f=true
inductive KK(P:Program):List QY->List Deferred->Prop
 |nil:KK P [] []
 |cons {x d l ds} (h:DOK P x d) (hr:KK P l ds):KK P (x::l) (d::ds)
def vH{fn:Func}{tmps:Array zV}{K:Hp->Prop}{R:Ending->World->Prop}(hK:∀H w,Own g H w->K H->∃v,(results fn tmps).run P w=.ok v w/\R (.returned v) w):
  ∀{dl:List QY} {ds:List Deferred},KK P dl ds->∀H w,Own g H w->Q8 P g K dl H->Leaves P fn tmps R ds .returning w
 |_,_,.nil,H,w,hw,h=>hK H w hw h
 |_,_,.cons ⟨cap,args,hd,ha,hc⟩ hr,H,w,hw,h=>by
  subst hd;refine leaves_cons zI ?_ ((h w hw .returning).mono ?_)
  ·show(callFunc _ (args++cap)).run P w=_;rw[ha];exact eL hc _ w
  rintro e u' w' ⟨rfl,H',ho,⟨v,rfl⟩,hk⟩;exact vH hK hr H' w' ho hk
variable{fn:Func}{R:Ending->Hp->Prop}
def rh{n:Nat}{dl:List QY}{ds:List Deferred}(hd:KK P dl ds){e:Exit}{fr:Fr}{a:Act}{w:World}(ha:cF ds n a fr)(hw:Own g H w)(h:Uk P g fn R dl e fr H):
  bodyPostD P fn (λe w'=>∃H',Own g H' w'/\R e H') e a w:=by
 have key:∀{H},Own g H w->Q8 P g (λH'=>vY P fr H' fn.results.toList λvs=>R (.returned (FO vs)) H') dl H->Leaves P fn a.tmps (λe w'=>∃H',Own g H' w'/\R e H') a.defers .returning w:=λhw h=>by
  rw[ha.defers];refine vH (λH w hw h=>?_) hd _ _ hw h;obtain⟨vs,hr,hk⟩:=iY ha hw h;exact⟨_,hr,H,hw,hk⟩
 cases e with
 |normal=>exact key hw h
 |ret=>exact key hw h
 |panic ch=>exact h.elim
 |exit id=>exact h.elim
 |goto l=>exact h.elim
 |outgrown=>exact h.elim
def GK{c:Code}{ζ:Array Oper}{o:Oper}(h:SF c=some (ζ,o)):∃id d,c=.region id ζ false/\ζ.toList=ζ.toList.dropLast++[o]/\o.op=.defer d:=by
 unfold SF at h;split at h
 ·rename_i id ops';split at h
  ·rename_i o' ho;split at h
   ·rename_i d hd;simp only[xat,xdf]at h;obtain⟨rfl,rfl⟩:=h;refine⟨id,d,rfl,?_,hd⟩;obtain⟨ξ,e⟩:=List.getLast?_eq_some_iff.1 ho;rw[e];simp
   cases h
  cases h
 cases h
def Vq{o:Oper}{fr:Fr}{k:QY->Prop}(h:abV P o (ev fr) k):∃x d,k x/\DOK P x d/\∀w,(execOp (ev fr) o).run P w=.ok (.defer d) w:=by
 unfold abV at h;split at h<;>try exact h.elim
 rename_i c Δ;split at h<;>try exact h.elim
 rename_i x hc;split at h<;>try exact h.elim
 rename_i f first cap hx
 cases fX:aW P f<;>simp only[fX,xap,xaj]at h;refine⟨_,{target:=.fn (.func f) cap,args:=first++c.args.map (ev fr)},h,⟨cap,_,rfl,?_,fX⟩,λw=>?_⟩
 ·apply xc4;simp
 simp only[execOp,Δ,resolve,hc,hx,Deferred.ofValue,Sem.run_bind,Sem.run_pure,Result.andThen_ok]
def Ho{n:Nat}:∀(c:Code) (hn:Hn) (dl:List QY) (fr:Fr) (H:Hp),Hq P g n (Uk P g fn R) c hn dl fr H->∀(ds:List Deferred),KK P dl ds->∀(a:Act) (w:World),cF ds n a fr->Own g H w->
  c.wp P (bodyPostD P fn λe w'=>∃H',Own g H' w'/\R e H') a w:=by
 have plain:∀(c:Code) (hn:Hn) (dl:List QY) (fr:Fr) (H:Hp),den P g n c hn (Uk P g fn R dl) fr H->∀(ds:List Deferred),KK P dl ds->∀(a:Act) (w:World),cF ds n a fr->Own g H w->
   c.wp P (bodyPostD P fn λe w'=>∃H',Own g H' w'/\R e H') a w:=λc hn dl fr H h ds hd a w ha hw=>
  wp_mono (mG c hn _ fr H h a w ha hw) λe a' w' ⟨σ,H',dS,eX,_,hq⟩=>rh hd dS eX hq
 intro c;induction c with
 |seq x y _ ih=>
  intro hn dl fr H h ds hd a w ha hw;unfold Hq at h;split at h
  ·rename_i ζ o hx;obtain⟨id,d,rfl,hl,Δ⟩:=GK hx;cases hc:(o.dst.isNone&&o.guard.isNone)<;>simp only[hc,xap,xaj]at h;simp only[xaJ,Option.isNone_iff_eq_none]at hc;refine wp_seq (wp_region_list ?_);rw[hl];refine cN _ _ _ _ _ fr H _ _ h trivial (jy.nil fr) a w ha hw [o] _ ?_ ?_
   ·intro a' w' rB σ H' dS eX _ _ hk;refine wpList_plain hc.2 λK hK=>?_;obtain⟨x,dd,hx,hok,hrun⟩:=Vq hk;show o.upon P a' K _ ((execOp a'.eval o).run P w');rw[dS.eval,hrun];apply hK _ _;refine ih _ _ σ H' hx (dd::ds) (.cons hok hd) _ _ ?_ eX;rw[hc.1];exact⟨xch _ dS.defers,dS.size,dS.get⟩
   intro ch a' w' σ H' _ _ hk;exact hk.elim
  split at h
  ·refine wp_seq (wp_mono (mG x _ _ fr H h a w ha hw) ?_);rintro e a' w' ⟨σ,H',dS,eX,ho,hq⟩;cases e with
   |normal=>exact ih _ _ σ H' hq ds hd a' w' dS eX
   |ret=>exact rh (e:=.ret) hd dS eX hq
   |exit id=>exact hq.elim
   |goto l=>exact hq.elim
   |panic ch=>exact hq.elim
   |outgrown=>exact hq.elim
  ·cases Γ:WQ x hn.I<;>simp only[Γ,xap,xaj]at h;have h':=h (λvs H'=>∀gs,Hq P g n (Uk P g fn R) y hn.b dl (mix hn.L vs hn.I fr gs) H') (yg.intro (λvs H' hh=>hh) _);refine wp_seq (wp_mono (mG x _ _ fr H h' a w ha hw) ?_);rintro e a' w' ⟨σ,H',dS,eX,ho,hq⟩;cases e with
   |normal=>
    obtain⟨Hj,wV,hq⟩:=hq;have hq':=hq σ;rw[wz λs hs=>ho rfl s (wx Γ s hs)]at hq';exact ih _ _ σ Hj hq' ds hd a' w' dS (wV _ _ eX)
   |ret=>exact rh (e:=.ret) hd dS eX hq
   |exit id=>exact hq.elim
   |goto l=>exact hq.elim
   |panic ch=>exact hq.elim
   |outgrown=>exact hq.elim
 |_=>intro hn dl fr H h;exact plain _ hn dl fr H h
variable{args:List zV}
def SL{m:Nat}(hle:args.length<=m):cF [] m {tmps:=args.toArray++Array.replicate (m-args.toArray.size) undef,defers:=[]} (g8 args 0):=by
 refine⟨rfl,by simp;omega,λs=>?_⟩;rw[nj,xau,xd4];simp only[xc1,xb9,xa2,xcU];by_cases hs:s<args.length
 ·simp[hs,List.getD]
 rw[xac hs,xc7];have:args.getD s undef=undef:=by simp[List.getD,xaB (xc9 hs)]
 rw[this];split<;>rfl
variable{hn:Hn}
def EF{f:FuncId}(hf:P.funcs[f]? =some fn)(h:Us P g fn hn args H R):bG P g f args.toArray H R:=by
 intro w hw;unfold Us at h;split at h<;>try exact h.elim
 rename_i c hc;cases hl:Nat.ble args.length fn.ntmps<;>simp only[hl,xap,xaj]at h;exact calls_of_wp_defers hf hc (Ho c hn [] _ H h [] .nil _ w (SL (xcY hl)) hw)
def EE{f:FuncId}(hf:P.funcs[f]? =some fn)(h:Hs P g fn hn args H R):lf P g f args.toArray H R:=by
 intro w hw u;unfold Hs at h;split at h<;>try exact h.elim
 rename_i c hc;cases hl:Nat.ble args.length fn.ntmps<;>simp only[hl,xap,xaj]at h;refine callsD_of_wp hf hc (wp_mono (mG c hn _ _ H h _ w (SL (xcY hl)) hw) ?_);rintro e a' w' ⟨σ,H',dS,eX,_,hq⟩;cases e with
 |normal=>obtain⟨vs,hr,hk⟩:=iY dS eX hq;exact⟨dS.defers,_,hr,H',eX,hk⟩
 |ret=>obtain⟨vs,hr,hk⟩:=iY dS eX hq;exact⟨dS.defers,_,hr,H',eX,hk⟩
 |panic ch=>exact⟨dS.defers,H',eX,hq⟩
 |exit id=>exact hq.elim
 |goto l=>exact hq.elim
 |outgrown=>exact hq.elim
abbrev Jt:=List zV->Hp->Prop
abbrev Mt:=List zV->Hp->Nat
abbrev Rt:=Ending->Hp->Prop
abbrev Hn.n(a b:Hn):Hn:=.h 0 [] [] a b
def cu{f:FuncId}{R:Rt}{L:Prop}(hf:P.funcs[f]? =some fn)(h:L)(e:Hs P g fn hn args H R=L):bG P g f args.toArray H R:=Hr hf (e.mpr h)
def Bd{f:FuncId}{R:Rt}{L:Prop}(hf:P.funcs[f]? =some fn)(h:L)(e:Us P g fn hn args H R=L):bG P g f args.toArray H R:=EF hf (e.mpr h)
def Be{f:FuncId}{R:Rt}{L:Prop}(hf:P.funcs[f]? =some fn)(h:L)(e:Hs P g fn hn args H R=L):lf P g f args.toArray H R:=EE hf (e.mpr h)
end
end Go.Sx
set_option maxRecDepth 100000
namespace Go.Proofs
open Go Go.Sx Tryz
variable {g:Gh} {a0 a1 a2 a3 a4 a5 a6 a7 a8 a9 uB uA a12 a13 a14 a15:zV} {H:Hp} {R:Rt}
abbrev pt(b:Nat):zV:=.pointer (some ⟨b,0,none⟩)
noncomputable abbrev zQ:=Tryz.prog
abbrev CF:=ae Tryz.prog
abbrev iv(n:Int):zV:=.int .i64 n
abbrev ui(n:Int):zV:=.int .u32 n
abbrev wi(n:Int):zV:=.int .u64 n
abbrev bi(n:Int):zV:=.int .u8 n
abbrev vT:zV:=.bool true
abbrev vF:zV:=.bool false
abbrev lE:=ah .num .eql
abbrev lN:=ah .num .neq
abbrev lL:=ah .num .lss
abbrev lG:=ah .num .gtr
abbrev lA:=ah .num .add
abbrev lS:=ah .num .sub
abbrev lD(n:Nat)(p:zV)(H:Hp)(k:zV->Prop):Prop:=aj n p λv=>Ld H v k
abbrev lM(n:Nat)(p:zV)(H:Hp)(k:zV->Prop):Prop:=Nil p λq=>aj n q λv=>Ld H v k
abbrev lI(e:Nat)(p i:zV)(H:Hp)(k:zV->Prop):Prop:=ay e p i λv=>Ld H v k
abbrev lX(v:zV)(k:zV->zV->Prop):Prop:=Ext 0 v λx=>Ext 1 v λy=>k x y
abbrev rt(R:Rt)(v:zV)(H:Hp):Prop:=R (.returned v) H
abbrev tP(a b:zV):zV:=.tuple #[a,b]
abbrev lW(H:Hp)(c:Array zV)(t:Nat)(k:Nat->Hp->Prop):Prop:=O7 H (.cells c t zZ) k
abbrev lO(a:zV)(i:Bool->Prop)(k:Bool->Prop):Prop:=dh a false i (λt=>vT=Value.bool t) λt=>∀_:Fr,k t
abbrev lU(a:zV)(i:Bool->Prop)(k:Bool->Prop):Prop:=dh a true i (λt=>vF=Value.bool t) λt=>∀_:Fr,k t
abbrev lV(H:Hp)(v:zV)(t:Bool):Prop:=H=H/\v=Value.bool t
abbrev lC(n:Nat)(p:zV)(k:zV->Prop):Prop:=Nil p λq=>aj n q k
abbrev lQ(n:Nat)(H:Hp)(c:Array zV)(t:Nat)(v:zV)(k:Nat->Hp->Prop):Prop:=O7 H (.cells c t zZ) λb H=>St n H (pt b) v λH=>k b H
abbrev sc:=bG Tryz.prog
def sd{f:FuncId}{fn:Func}(hn:Hn){args:List zV}{L:Prop}(hf:Tryz.prog.funcs[f]? =some fn)(h:L)(e:Hs Tryz.prog g fn hn args H R=L:=by kernel_rfl):sc g f args.toArray H R:=cu hf h e
abbrev Y0:=Gh->Hp->Rt->Prop
abbrev Y1:=Gh->zV->Hp->Rt->Prop
abbrev Y2:=Gh->zV->zV->Hp->Rt->Prop
abbrev Y3:=Gh->zV->zV->zV->Hp->Rt->Prop
abbrev Y4:=Gh->zV->zV->zV->zV->Hp->Rt->Prop
abbrev Y5:=Gh->zV->zV->zV->zV->zV->Hp->Rt->Prop
abbrev CR(R:Rt)(g:Gh)(f:Nat)(a:Array zV)(H:Hp)(K:zV->Hp->Prop):Prop:=ae Tryz.prog g f a H K (dy R)
abbrev CN(g:Gh)(f:Nat)(a:Array zV)(H:Hp)(K:zV->Hp->Prop):Prop:=ae Tryz.prog g f a H K fU
abbrev lK(H:Hp)(v:zV)(t:Nat)(k:Nat->Hp->Prop):Prop:=O7 H (.cells (Value.cells v) t zZ) k
abbrev i0:zV:=iv 0
abbrev i1:zV:=iv 1
abbrev oG:=ah .num .geq
abbrev oA:=ah .num .and
abbrev oR:=ah .num .shr
abbrev oL:=ah .num .shl
abbrev oO:=ah .num .or
abbrev oQ:=ah .num .leq
abbrev oM:=ah .num .mul
abbrev oP(a:zV)(k:zV->Prop):Prop:=ah .γ .eql a (.pointer none) k
abbrev jA(A:Hp->Prop)(B:Jt->Prop):Prop:=∀J:Jt,(∀H,(∀_:Fr,A H)->J [] H)->B J
abbrev jB(A:zV->Hp->Prop)(B:Jt->Prop):Prop:=∀J:Jt,(∀w H,(∀_:Fr,A w H)->J [w] H)->B J
abbrev jC(A:zV->zV->Hp->Prop)(B:Jt->Prop):Prop:=∀J:Jt,(∀w x H,(∀_:Fr,A w x H)->J [w,x] H)->B J
abbrev yA(l:List zV)(H:Hp)(K:Jt->Mt->zV->Hp->Prop):Prop:=∃(I:Jt) (m:Mt),JE I l H/\∀w H,I [w] H->∀_:Fr,K I m w H
abbrev yB(l:List zV)(H:Hp)(K:Jt->Mt->zV->zV->Hp->Prop):Prop:=∃(I:Jt) (m:Mt),JE I l H/\∀w x H,I [w,x] H->∀_:Fr,K I m w x H
abbrev nC:Array zV:=#[i0,ui 0,ui 0]
abbrev sZ:zV:=.slice none 0 0
abbrev qA(L:Y0)(f:Nat):Prop:=∀{g H R},L g H R->sc g f #[] H R
abbrev qB(L:Y1)(f:Nat):Prop:=∀{g a H R},L g a H R->sc g f #[a] H R
abbrev qC(L:Y2)(f:Nat):Prop:=∀{g a b H R},L g a b H R->sc g f #[a,b] H R
abbrev qD(L:Y3)(f:Nat):Prop:=∀{g a b c H R},L g a b c H R->sc g f #[a,b,c] H R
abbrev qE(L:Y4)(f:Nat):Prop:=∀{g a b c d H R},L g a b c d H R->sc g f #[a,b,c,d] H R
abbrev qF(L:Y5)(f:Nat):Prop:=∀{g a b c d e H R},L g a b c d e H R->sc g f #[a,b,c,d,e] H R
def hr(m:Nat)(T:zL):Nat->Nat->Hn->Hn
 |_,0,x=>x
 |i,k+1,x=>.h m [i] T (hr m T (i+1) k x) .e
def hN:Nat->Hn->Hn
 |0,x=>x
 |k+1,x=>.n .e (hN k x)
def zA(x:Hn):Hn:=.n .e x
def zB(x:Hn):Hn:=.n x .e
def zE(m:Nat)(A T:zL)(x:Hn):Hn:=.h m A T x .e
def zF(m:Nat)(A T:zL):Hn:=.h m A T .e .e
def yR:Nat->zL:=List.range
def L5:Y2:=λa b c d e=>lK d b 23 λb d=>CR e a 6 #[] d λd f=>Un .not d λd=>Br d (rt e vF f) (aq Tryz.prog 24 0 [] f λd f=>App Tryz.prog 35 5 40 (.agg #[(bi 0),i0,i0,i0,(wi 0)]) f d c λd f=>aB 5 f (pt b) λg=>CR e a 8 #[g,c] f λf g=>lX f λf h=>aB 5 g (pt b) λi=>CR e a 8 #[i,c] g λg i=>lX g λg j=>aP c λk=>yA [i0] i λi l m n=>lL m k λk=>Br k (ay 5 c m λk=>aB 5 n k λk=>ay 5 d m λd=>aB 5 n d λd=>iQ Tryz.prog a (eZ Tryz.f5 9 8) (ev (λo=>cond (Nat.beq o 48) k (cond (Nat.beq o 52) d (undef)))) n λd=>Br d (rt e vF n) (lA m i1 λd=>aD i l [d] n [m] n)) (jB (λd i=>Br d (jB (λd k=>rt e d k) λd=>lE h j λk=>Split k true (CR e a 10 #[f,g] i λk l=>aG vT k vF λk=>JE d [k] l) (aG vF undef vF λk=>JE d [k] i)) (aq Tryz.prog 30 0 [] i λd i=>App Tryz.prog 37 4 32 (.agg #[i0,i0,(wi 0),i0]) i d g λd i=>aP f λk=>yA [i0] i λi l m o=>lL m k λk=>Br k (Build Tryz.prog 37 [(1,(iv 99))] λk=>ay 4 f m λp=>St 4 o p k λk=>lA m i1 λp=>aD i l [p] k [m] o) (Build Tryz.prog 37 [] λi=>aq Tryz.prog 30 1 [(0,i)] o λi k=>App Tryz.prog 37 4 32 (.agg #[i0,i0,(wi 0),i0]) k f i λi k=>CR e a 10 #[g,d] k λd k=>Un .not d λd=>lO d (λd=>aP i λi=>aP f λl=>lA l i1 λl=>lN i l λi=>(lV k i d)) λd=>Br (Value.bool d) (rt e vF k) (aB 5 k (pt b) λb=>CR e a 7 #[b] k λb d=>lX b λb i=>lN i i0 λi=>Br i (rt e vF d) (aP c λi=>yA [i0] d λd k l m=>lL l i λi=>Br i (ay 5 c l λc=>aB 5 m c λc=>lQ 5 m #[(bi 0),i0,i0,i0,(wi 0)] 35 c λc i=>aB 5 i (pt c) λc=>CR e a 9 #[b,c] i λ_ c=>lA l i1 λi=>aD d k [i] c [l] m) (CR e a 13 #[b] m λc d=>CR e a 14 #[b] d λd i=>CR e a 13 #[b] i λi k=>CR e a 14 #[b] k λk l=>CR e a 15 #[c] l λl m=>CR e a 15 #[d] m λm o=>CR e a 16 #[c] o λ_ o=>CR e a 16 #[d] o λ_ o=>jB (λp q=>rt e p q) λp=>CR e a 17 #[i,l] o λo q=>Split o true (CR e a 17 #[k,m] q λo r=>aG vT o vF λo=>Split o true (CR e a 13 #[b] r λo s=>CR e a 17 #[o,l] s λl o=>aG vT l vF λl=>Split l true (CR e a 14 #[b] o λb l=>CR e a 17 #[b,m] l λb l=>aG vT b vF λb=>Split b true (aq Tryz.prog 52 4 [(0,c),(1,d),(2,i),(3,k)] l λb c=>CR e a 18 #[b] c λb c=>aG vT b vF λb=>JE p [b] c) (aG vF undef vF λb=>JE p [b] l)) (aG vF undef vF λb=>aG b undef vF λb=>JE p [b] o)) (aG vF undef vF λb=>aG b undef vF λb=>aG b undef vF λb=>JE p [b] r)) (aG vF undef vF λb=>aG b undef vF λb=>aG b undef vF λb=>aG b undef vF λb=>JE p [b] q))))))) λb=>lN h j λc=>Split c false (CR e a 10 #[f,g] n λa c=>Un .not a λa=>aG vF vT a λa=>Split a false (lN h i0 λa=>aG vF vT a λa=>JE b [a] c) (aG vT vT undef λa=>JE b [a] c)) (aG vT vT undef λa=>aG a vT undef λa=>JE b [a] n)))
def Vn:qC L5 5:=λh=>sd (hN 5 (.n (zA (zB (zF 0 [42] [1,2,5,6,7,8,9,41]))) (.n (.h 1 [67] [1,2,6,7,8,9] .e (zB (zF 1 [4] []))) (zA (.n (zA (zB (zF 0 [81] [1,2,6,8,11,80]))) (zA (.n (zB (zF 0 [] [1])) (zA (zA (.n (zA (zB (zF 0 [114] [14,112,113]))) (hN 5 (zF 1 [4] [])))))))))))) func5 h
def L6:Y0:=λa b c=>CR c a 11 #[(iv 2)] b λb d=>Build Tryz.prog 35 [(0,(bi 1))] λe=>Build Tryz.prog 35 [(0,(bi 1)),(1,i1)] λf=>Build Tryz.prog 35 [(0,(bi 4)),(1,i0),(2,i1)] λg=>Build Tryz.prog 35 [(0,(bi 16)),(1,(iv 2))] λh=>Build Tryz.prog 35 [(0,(bi 14)),(1,(iv 2)),(4,(wi 3))] λi=>Build Tryz.prog 35 [(0,(bi 1)),(1,(iv 2))] λj=>aq Tryz.prog 24 6 [(0,e),(1,f),(2,g),(3,h),(4,i),(5,j)] d λd e=>CR c a 8 #[b,d] e λb d=>lX b λb e=>Build Tryz.prog 37 [(1,i0),(3,i1)] λf=>Build Tryz.prog 37 [(1,i1),(3,i1)] λg=>Build Tryz.prog 37 [(1,(iv 2)),(3,i1)] λh=>Build Tryz.prog 37 [(1,(iv (-1))),(2,(wi 1))] λi=>Build Tryz.prog 37 [(1,(iv (-1))),(2,(wi 1))] λj=>Build Tryz.prog 37 [(0,(iv 2)),(1,(iv (-1)))] λk=>aq Tryz.prog 30 6 [(0,f),(1,g),(2,h),(3,i),(4,j),(5,k)] d λd f=>jB (λg h=>rt c g h) λg=>lE e i0 λe=>Split e true (CR c a 10 #[b,d] f λa b=>aG vT a vF λa=>JE g [a] b) (aG vF undef vF λa=>JE g [a] f)
def Vm:qA L6 6:=λh=>sd (hN 3 (zF 1 [0] [])) func6 h
def L7:Y1:=λa b c d=>lK c b 23 λb c=>jB (λe f=>Br e (rt d (tP (.pointer none) i1) f) (lD 0 (pt b) f λe=>lD 1 (pt b) f λg=>CR d a 19 #[e,g] f λa e=>lX a λa f=>lN f i0 λg=>Br g (rt d (tP (.pointer none) f) e) (lD 2 (pt b) e λf=>lE f (bi 6) λf=>lU f (λf=>lD 0 (pt b) e λg=>lG g (iv 12) λg=>(lV e g f)) λf=>Br (Value.bool f) (rt d (tP (.pointer none) (iv 6)) e) (aB 5 e (pt b) λf=>gO e λe g=>Build Tryz.prog 58 [(0,f),(1,a),(2,e)] λa=>lK g a 58 λa e=>rt d (tP (pt a) i0) e)))) λa=>lD 2 (pt b) c λd=>lG d (bi 6) λd=>Br d (JE a [d] c) (lD 3 (pt b) c λd=>lL d (iv 100) λd=>Br d (JE a [d] c) (lD 3 (pt b) c λd=>lG d (iv 1000) λd=>Br d (JE a [d] c) (lD 4 (pt b) c λd=>lL d i0 λd=>Br d (JE a [d] c) (lD 4 (pt b) c λb=>lG b (iv 16) λb=>JE a [b] c))))
def Vl:qB L7 7:=λh=>sd (zA (.n (zB (zF 1 [6] [1])) (zA (zA (zB (zB (zF 0 [] [1]))))))) func7 h
def L8:Y2:=λa b c d e=>lK d b 23 λb d=>aB 5 d (pt b) λb=>CR e a 7 #[b] d λb d=>lX b λb f=>lN f i0 λg=>Br g (rt e (tP sZ f) d) (aP c λf=>yB [sZ,i0] d λd g h i j=>lL i f λf=>Br f (ay 5 c i λc=>aB 5 j c λc=>lQ 5 j #[(bi 0),i0,i0,i0,(wi 0)] 35 c λc f=>aB 5 f (pt c) λc=>CR e a 9 #[b,c] f λa b=>aq Tryz.prog 30 1 [(0,a)] b λa b=>App Tryz.prog 37 4 32 (.agg #[i0,i0,(wi 0),i0]) b h a λa b=>lA i i1 λc=>aD d g [a,c] b [h,i] j) (rt e (tP h i0) j))
def Vk:qC L8 8:=λh=>sd (hN 4 (zB (zA (zB (zF 0 [8,21] [6,19,20]))))) func8 h
def L9:Y2:=λa b c d e=>lK d c 35 λc d=>lW d #[i0,i0,(wi 0),i0] 37 λd f=>oP b λg=>Br g (CR e a 20 #[(iv 10)] f λg h=>St 4 h (pt d) g λg=>aB 4 g (pt d) λh=>rt e h g) (DR f λg=>lD 0 (pt c) g λh=>∀i:Hp,
CN (a.add i) 21 #[] f λf i=>aO i g/\
DR2 i g λg=>dg (.int .u8) (.agg #[(bi 0),.nilFunc]) true g f h λf=>lX f λf h=>lW i #[(bi 0),.nilFunc] 63 λi j=>∀_:Hp,
St 2 j (pt i) f λf=>aO f g/\
Br h (aB 5 f (pt c) λg=>aB 2 f (pt i) λh=>CR e a 22 #[b,g,h] f λg h=>St 4 h (pt d) g λg=>aB 4 g (pt d) λh=>rt e h g) (DR f λg=>lD 0 (pt c) g λh=>∀i:Hp,
CN (a.add i) 23 #[] f λf i=>aO i g/\
DR2 i g λg=>dg (.int .u8) .nilFunc true g f h λf=>lX f λf g=>Br g (aB 5 i (pt c) λc=>aM Tryz.prog a f #[b,c] i (λb c=>St 4 c (pt d) b λb=>aB 4 b (pt d) λc=>rt e c b) (dy e)) (CR e a 20 #[(iv 12)] i λa b=>St 4 b (pt d) a λa=>aB 4 a (pt d) λb=>rt e b a)))
def Vj:qC L9 9:=λh=>sd (zA (zA (.n (zB (zE 1 [] [] (hr 0 [1] 1 2 (zE 1 [7] [1] (zE 0 [0] [1] (zE 4 [] [] (hr 0 [1] 3 7 .e))))))) (zB (zB (zE 1 [] [] (hr 0 [1] 1 2 (zE 0 [0] [1] (zE 4 [] [] (hr 0 [1] 3 6 .e)))))))))) func9 h
def L10:Y2:=λa b c d e=>aP b λf=>aP c λg=>lN f g λf=>Br f (rt e vF d) (yA [i0] d λd f g h=>aP b λi=>lL g i λi=>Br i (ay 4 b g λb=>aB 4 h b λb=>ay 4 c g λc=>aB 4 h c λc=>iQ Tryz.prog a (eZ Tryz.f10 6 8) (ev (λa=>cond (Nat.beq a 20) b (cond (Nat.beq a 24) c (undef)))) h λa=>Br a (rt e vF h) (lA g i1 λa=>aD d f [a] h [g] h)) (rt e vT h))
def Qp:qC L10 10:=λh=>sd (zA (zA (zB (zA (zB (zF 0 [5] [0,1])))))) func10 h
def L11:Y1:=λ_ a b c=>lW b #[i0,i0,(bi 0),i0,i0] 23 λb d=>Build Tryz.prog 23 [(0,a),(1,(iv 1048576)),(2,(bi 0)),(3,(iv 100))] λa=>St 5 d (pt b) a λa=>aB 5 a (pt b) λb=>rt c b a
def Qo:qB L11 11:=λh=>sd .e func11 h
def L13:Y1:=λa b c d=>oP b λe=>Br e (rt d sZ c) (lM 6 b c λb=>CR d a 26 #[b] c λb c=>CR d a 25 #[b] c λa b=>rt d a b)
def Qn:qB L13 13:=λh=>sd .e func13 h
def L14:Y1:=λa b c d=>oP b λe=>Br e (rt d sZ c) (lM 5 b c λb=>CR d a 27 #[b] c λa b=>rt d a b)
def Qm:qB L14 14:=λh=>sd .e func14 h
def L15:Y1:=λa b c d=>aP b λe=>cJ 3 1 8 i0 c e e λc e=>mR Tryz.prog a (eZ Tryz.f15 2 2) (ev (λa=>cond (Nat.beq a 7) c (cond (Nat.beq a 8) b (undef)))) e (λ_ a=>rt d c a) (dy d)
def Ql:qB L15 15:=λh=>sd .e func15 h
def L16:Y1:=λ_ a b c=>yA [i0] b λb d e f=>aP a λg=>lL e g λg=>Br g (lI 1 a e f λg=>oM (iv 3) g λg=>lS (iv 7) g λg=>lS g e λg=>ay 1 a e λa=>St 1 f a g λa=>lA e i1 λg=>aD b d [g] a [e] f) (rt c (.tuple #[]) f)
def Qk:qB L16 16:=λh=>sd (zA (zB (zF 0 [2] [0]))) func16 h
def L17:Y2:=λ_ a b c d=>aP a λe=>aP b λf=>lN e f λe=>Br e (rt d vF c) (yA [i0] c λc e f g=>aP a λh=>lL f h λh=>Br h (lI 1 a f g λa=>lI 1 b f g λb=>lN a b λa=>Br a (rt d vF g) (lA f i1 λa=>aD c e [a] g [f] g)) (rt d vT g))
def Qj:qC L17 17:=λh=>sd (zA (zA (zB (zA (zB (zF 0 [5] [0,1])))))) func17 h
def L18:Y1:=λ_ a b c=>yA [i1] b λb d e f=>oQ e (iv 2) λg=>Br g (yA [i0] f λg h i j=>aP a λk=>lL i k λk=>Br k (yA [i0] j λk l m n=>lI 1 a i n λo=>aP o λo=>lL m o λo=>Br o (lI 1 a i n λo=>oM e (iv 100000) λp=>oM i (iv 1000) λq=>lA p q λp=>oM m e λq=>lA p q λp=>ay 1 o m λo=>St 1 n o p λo=>lA m i1 λp=>aD k l [p] o [m] n) (lA i i1 λk=>aD g h [k] n [i] j)) (yB [sZ,i0] j λg h i j k=>aP a λl=>lL j l λl=>Br l (lI 1 a j k λl=>yB [l,i0] k λl m n o p=>lL o (iv 30) λq=>Br q (oM e (iv 100000) λq=>oM j (iv 1000) λr=>lA q r λq=>lI 1 a j p λr=>aP r λr=>lA r o λr=>oM r e λr=>lA q r λq=>aq Tryz.prog 43 1 [(0,q)] p λq r=>App Tryz.prog 3 1 8 i0 r n q λq r=>lA o i1 λs=>aD l m [q,s] r [n,o] p) (aq Tryz.prog 52 1 [(0,n)] p λl m=>App Tryz.prog 43 1 24 sZ m i l λl m=>lA j i1 λn=>aD g h [l,n] m [i,j] k)) (yA [i0] k λg h j k=>aP a λl=>lL j l λl=>Br l (yA [i0] k λl m n o=>lI 1 i j o λp=>aP p λp=>lL n p λp=>Br p (oM e (iv 100000) λp=>oM j (iv 1000) λq=>lA p q λp=>oM n e λq=>lA p q λp=>lI 1 i j o λi=>lI 1 i n o λi=>lN i p λi=>lO i (λi=>lI 1 a j o λq=>aP q λq=>lL n q λq=>dh q true (λq=>lI 1 a j o λa=>lI 1 a n o λa=>lN a p λa=>(lV o a q)) (λq=>vF=Value.bool q) λq=>∀_:Fr,
(lV o (Value.bool q) i)) λi=>Br (Value.bool i) (rt c vF o) (lA n i1 λa=>aD l m [a] o [n] o)) (lA j i1 λa=>aD g h [a] o [j] k)) (lA e i1 λa=>aD b d [a] k [e] f)))) (rt c vT f)
def Qi:qB L18 18:=λh=>sd (zA (zB (zA (zB (zE 0 [3] [0] (zA (zB (zB (.n (zA (zB (zE 0 [4] [0,3] (zA (zB (zB (zA (zB (zF 0 [5] [0,3,4]))))))))) (zA (.n (zA (zB (zE 0 [6,7] [0,3] (zA (zB (zB (zA (zB (zA (zB (zF 0 [8,9] [0,3,6,7]))))))))))) (zA (zB (zE 0 [10] [0,3,6] (zA (zB (zB (zA (zB (zE 0 [11] [0,3,6,10] (zA (zB (zB (zA (zB (zF 0 [] [1])))))))))))))))))))))))))) func18 h
def L19:Y2:=λa b c d e=>CR e a 28 #[b] d λd f=>lX d λd g=>lN g i0 λg=>lO g (λg=>lL b i1 λh=>(lV f h g)) λg=>lO (Value.bool g) (λg=>lL c (iv 2) λh=>(lV f h g)) λg=>lO (Value.bool g) (λg=>lG c (iv 1048576) λh=>(lV f h g)) λg=>Br (Value.bool g) (rt e (tP (.pointer none) i1) f) (CR e a 29 #[b] f λf g=>lX f λf h=>lN h i0 λi=>Br i (rt e (tP (.pointer none) h) g) (CR e a 30 #[c,f] g λc f=>lX c λc g=>lQ 4 f #[(.pointer none),(.pointer none),sZ,sZ] 87 c λc f=>lN g i0 λh=>Br h (rt e (tP (.pointer none) g) f) (DR f λg=>aB 4 g (pt c) λc=>CN a 31 #[d] f λa f=>aO f g/\
Build Tryz.prog 91 [(0,c),(1,b),(2,d),(3,a)] λa=>lK f a 91 λa b=>aO b g/\
rt e (tP (pt a) i0) b)))
def AX:qC L19 19:=λh=>sd (zA (zA (.n (zB (zF 0 [] [1])) (hN 4 (zB (zF 0 (yR 9) [])))))) func19 h
def L20:Y1:=λ_ a b c=>lW b #[i0,i0,(wi 0),i0] 37 λb d=>Build Tryz.prog 37 [(0,a),(1,(iv (-1)))] λa=>St 4 d (pt b) a λa=>aB 4 a (pt b) λb=>rt c b a
def Qh:qB L20 20:=λh=>sd .e func20 h
def L21:Y0:=λ_ a b=>gO a λa c=>Build Tryz.prog 63 [(0,(bi 8)),(1,(.func (.func 32) #[] #[]))] λd=>aY (.int .u8) c a (bi 1) d λc=>Build Tryz.prog 63 [(0,(bi 32)),(1,(.func (.func 33) #[] #[]))] λd=>aY (.int .u8) c a (bi 2) d λc=>Build Tryz.prog 63 [(0,(bi 1)),(1,(.func (.func 34) #[] #[]))] λd=>aY (.int .u8) c a (bi 3) d λc=>Build Tryz.prog 63 [(0,(bi 3)),(1,(.func (.func 35) #[] #[]))] λd=>aY (.int .u8) c a (bi 4) d λc=>Build Tryz.prog 63 [(0,(bi 3)),(1,(.func (.func 36) #[] #[]))] λd=>aY (.int .u8) c a (bi 5) d λc=>Build Tryz.prog 63 [(0,(bi 3)),(1,(.func (.func 37) #[] #[]))] λd=>aY (.int .u8) c a (bi 6) d λc=>Build Tryz.prog 63 [(0,(bi 7)),(1,(.func (.func 38) #[] #[]))] λd=>aY (.int .u8) c a (bi 7) d λc=>Build Tryz.prog 63 [(0,(bi 81)),(1,(.func (.func 39) #[] #[]))] λd=>aY (.int .u8) c a (bi 8) d λc=>Build Tryz.prog 63 [(0,(bi 129)),(1,(.func (.func 40) #[] #[]))] λd=>aY (.int .u8) c a (bi 9) d λc=>Build Tryz.prog 63 [(0,(bi 129)),(1,(.func (.func 41) #[] #[]))] λd=>aY (.int .u8) c a (bi 10) d λc=>Build Tryz.prog 63 [(0,(bi 21)),(1,(.func (.func 42) #[] #[]))] λd=>aY (.int .u8) c a (bi 11) d λc=>rt b a c
def Qg:qA L21 21:=λh=>sd .e func21 h
def L22:Y3:=λa b c d e f=>lK e c 35 λc e=>lK e d 63 λd e=>lW e #[i0,i0,(wi 0),i0] 37 λe g=>aB 5 g (pt c) λh=>lD 0 (pt d) g λi=>CR f a 43 #[b,h,i] g λg h=>lN g i0 λi=>Br i (CR f a 20 #[g] h λg i=>St 4 i (pt e) g λg=>aB 4 g (pt e) λi=>rt f i g) (yA [i1] h λg h i j=>lD 1 (pt d) j λd=>aB 5 j (pt c) λc=>aM Tryz.prog a d #[b,c] j (λc d=>lX c λc k=>lE k i0 λl=>Br l (CR f a 44 #[b,c,i] d λc l=>St 4 l (pt e) c λc=>aB 4 c (pt e) λl=>rt f l c) (lN k (iv 9) λc=>lO c (λc=>lC 0 b λl=>aj 4 l λl=>Ld d l λl=>lG i l λl=>(lV d l c)) λc=>Br (Value.bool c) (CR f a 20 #[k] d λc k=>lQ 4 k #[i0,i0,(wi 0),i0] 37 c λc k=>aj 3 (pt c) λl=>St 1 k l i λk=>aB 4 k (pt c) λc=>St 4 k (pt e) c λc=>aB 4 c (pt e) λe=>rt f e c) (DR d λc=>lM 5 b c λe=>lC 0 b λk=>aj 2 k λk=>Ld c k λk=>lC 0 b λb=>aj 3 b λb=>Ld c b λb=>∀c:Hp,
CN (a.add c) 45 #[e,k,b] d λ_ a=>lA i i1 λb=>aD g h [b] a [i] j))) (dy f))
def AW:qD L22 22:=λh=>sd (hN 3 (zB (zE 0 [8] [0,4,5,6] (zB (zB (zA (.n (zB (zA (zA (zB (zF 0 [] [1]))))) (zE 1 [] [] (hr 0 [1] 0 15 .e))))))))) func22 h
def L23:Y0:=λ_ a b=>gO a λa c=>aY (.int .u8) c a (bi 12) (.func (.func 46) #[] #[]) λc=>aY (.int .u8) c a (bi 13) (.func (.func 47) #[] #[]) λc=>aY (.int .u8) c a (bi 14) (.func (.func 48) #[] #[]) λc=>aY (.int .u8) c a (bi 15) (.func (.func 49) #[] #[]) λc=>aY (.int .u8) c a (bi 16) (.func (.func 50) #[] #[]) λc=>aY (.int .u8) c a (bi 17) (.func (.func 51) #[] #[]) λc=>aY (.int .u8) c a (bi 18) (.func (.func 52) #[] #[]) λc=>aY (.int .u8) c a (bi 19) (.func (.func 53) #[] #[]) λc=>aY (.int .u8) c a (bi 20) (.func (.func 54) #[] #[]) λc=>aY (.int .u8) c a (bi 21) (.func (.func 55) #[] #[]) λc=>aY (.int .u8) c a (bi 22) (.func (.func 56) #[] #[]) λc=>aY (.int .u8) c a (bi 23) (.func (.func 57) #[] #[]) λc=>rt b a c
def Qf:qA L23 23:=λh=>sd .e func23 h
def L25:Y1:=λa b c d=>CR d a 58 #[b] c λb c=>CR d a 59 #[b] c λ_ a=>rt d b a
def Qe:qB L25 25:=λh=>sd .e func25 h
def L26:Y1:=λ_ a b c=>lK b a 56 λa b=>c (.returned (.func (.func 60) #[] #[(pt a)])) b
def Qd:qB L26 26:=λh=>sd .e func26 h
def L27:Y1:=λa b c d=>oP b λe=>Br e (rt d sZ c) (lM 5 b c λb=>CR d a 31 #[b] c λa b=>rt d a b)
def Qc:qB L27 27:=λh=>sd .e func27 h
def L28:Y1:=λa b c d=>lL b i0 λe=>lO e (λe=>lG b (iv 64) λf=>(lV c f e)) λe=>Br (Value.bool e) (rt d (tP sZ i1) c) (CR d a 61 #[b] c λa b=>rt d (tP a i0) b)
def AV:qB L28 28:=λh=>sd (zA (zB (zB (zF 0 [] [1])))) func28 h
def L29:Y1:=λ_ a b c=>lL a i1 λd=>lO d (λd=>lG a (iv 64) λe=>(lV b e d)) λd=>Br (Value.bool d) (rt c (tP (.pointer none) i1) b) (cJ 105 1 8 (.map none) b a a λb d=>Build Tryz.prog 104 [(0,b)] λb=>lK d b 104 λb d=>yA [i0] d λd e f g=>lL f a λa=>Br a (lM 0 (pt b) g λa=>gO g λh i=>ay 1 a f λa=>St 1 i a h λa=>lA f i1 λh=>aD d e [h] a [f] g) (rt c (tP (pt b) i0) g))
def Qb:qB L29 29:=λh=>sd (zA (.n (zB (zF 0 [] [1])) (zA (zB (zA (zB (zF 0 [17] [4,16]))))))) func29 h
def L30:Y2:=λa b c d e=>lW d #[(.pointer none),(.pointer none),sZ,sZ] 87 λd f=>CR e a 62 #[b] f λa b=>lX a λa f=>Build Tryz.prog 87 [(0,a),(1,c)] λa=>St 4 b (pt d) a λa=>aB 4 a (pt d) λb=>rt e (tP b f) a
def Qa:qC L30 30:=λh=>sd .e func30 h
def L31:Y1:=λ_ a b c=>ah .slice .eql a sZ λd=>Br d (rt c sZ b) (aq Tryz.prog 43 0 [] b λb d=>App Tryz.prog 3 1 8 i0 d b a λa b=>rt c a b)
def P9:qB L31 31:=λh=>sd .e func31 h
def L32:Y2:=λa b c d e=>lK d c 35 λc d=>DR d λf=>lM 5 b f λb=>lD 1 (pt c) f λc=>∀g:Hp,
CN (a.add g) 63 #[b,c] d λa b=>aO b f/\
lX a λa c=>rt e (tP a c) b
def P8:qC L32 32:=λh=>sd (zA (zB (zE 1 [] [] (hr 0 [1] 0 11 .e)))) func32 h
def L33:Y2:=λa b c d e=>lK d c 35 λc d=>DR d λf=>lM 5 b f λb=>lD 1 (pt c) f λc=>lE c i1 λc=>∀g:Hp,
CN (a.add g) 64 #[b,c] d λa b=>aO b f/\
lX a λa c=>rt e (tP a c) b
def P7:qC L33 33:=λh=>sd (zA (zB (zE 1 [] [] (hr 0 [1] 0 12 .e)))) func33 h
def L34:Y2:=λa b c d e=>lK d c 35 λc d=>DR d λf=>lM 5 b f λg=>lM 6 b f λb=>lD 1 (pt c) f λc=>dg (.int .i64) (ui 0) false f b c λb=>∀c:Hp,
CN (a.add c) 65 #[g,b] d λa b=>aO b f/\
lX a λa c=>rt e (tP a c) b
def P6:qC L34 34:=λh=>sd (zA (zB (zE 1 [] [] (hr 0 [1] 0 16 .e)))) func34 h
def L35:Y2:=λa b c d e=>lK d c 35 λc d=>DR d λf=>lM 5 b f λg=>lM 6 b f λh=>lD 1 (pt c) f λi=>dg (.int .i64) (ui 0) false f h i λh=>lM 6 b f λb=>lD 2 (pt c) f λc=>dg (.int .i64) (ui 0) false f b c λb=>∀c:Hp,
CN (a.add c) 66 #[g,h,b] d λa b=>aO b f/\
lX a λa c=>rt e (tP a c) b
def P5:qC L35 35:=λh=>sd (zA (zB (zE 1 [] [] (hr 0 [1] 0 23 .e)))) func35 h
def L36:Y2:=λa b c d e=>lK d c 35 λc d=>DR d λf=>lM 5 b f λg=>lM 6 b f λh=>lD 1 (pt c) f λi=>dg (.int .i64) (ui 0) false f h i λh=>lM 6 b f λb=>lD 2 (pt c) f λc=>dg (.int .i64) (ui 0) false f b c λb=>∀c:Hp,
CN (a.add c) 67 #[g,h,b] d λa b=>aO b f/\
lX a λa c=>rt e (tP a c) b
def P4:qC L36 36:=λh=>sd (zA (zB (zE 1 [] [] (hr 0 [1] 0 23 .e)))) func36 h
def L37:Y2:=λa b c d e=>lK d c 35 λc d=>DR d λf=>lM 5 b f λg=>lM 6 b f λh=>lD 1 (pt c) f λi=>dg (.int .i64) (ui 0) false f h i λh=>lM 6 b f λb=>lD 2 (pt c) f λc=>dg (.int .i64) (ui 0) false f b c λb=>∀c:Hp,
CN (a.add c) 68 #[g,h,b] d λa b=>aO b f/\
lX a λa c=>rt e (tP a c) b
def P3:qC L37 37:=λh=>sd (zA (zB (zE 1 [] [] (hr 0 [1] 0 23 .e)))) func37 h
def L38:Y2:=λa b c d e=>lK d c 35 λc d=>DR d λf=>lM 5 b f λg=>lM 6 b f λh=>lD 1 (pt c) f λi=>dg (.int .i64) (ui 0) false f h i λh=>lM 6 b f λi=>lD 2 (pt c) f λj=>dg (.int .i64) (ui 0) false f i j λi=>lM 6 b f λb=>lD 3 (pt c) f λc=>dg (.int .i64) (ui 0) false f b c λb=>∀c:Hp,
CN (a.add c) 69 #[g,h,i,b] d λa b=>aO b f/\
lX a λa c=>rt e (tP a c) b
def P2:qC L38 38:=λh=>sd (zA (zB (zE 1 [] [] (hr 0 [1] 0 30 .e)))) func38 h
def L39:Y2:=λa b c d e=>lK d c 35 λc d=>DR d λf=>lM 5 b f λg=>lM 6 b f λb=>lD 1 (pt c) f λh=>dg (.int .i64) (ui 0) false f b h λb=>lD 2 (pt c) f λh=>lD 3 (pt c) f λc=>lE c i1 λc=>∀i:Hp,
CN (a.add i) 70 #[g,b,h,c] d λa b=>aO b f/\
lX a λa c=>rt e (tP a c) b
def P1:qC L39 39:=λh=>sd (zA (zB (zE 1 [] [] (hr 0 [1] 0 21 .e)))) func39 h
def L40:Y2:=λa b c d e=>lK d c 35 λc d=>DR d λf=>lM 5 b f λg=>lM 6 b f λb=>lD 1 (pt c) f λh=>dg (.int .i64) (ui 0) false f b h λb=>lD 4 (pt c) f λc=>∀h:Hp,
CN (a.add h) 71 #[g,b,c] d λa b=>aO b f/\
lX a λa c=>rt e (tP a c) b
def PZ:qC L40 40:=λh=>sd (zA (zB (zE 1 [] [] (hr 0 [1] 0 18 .e)))) func40 h
def L41:Y2:=λa b c d e=>lK d c 35 λc d=>DR d λf=>lM 5 b f λg=>lM 6 b f λb=>lD 1 (pt c) f λh=>dg (.int .i64) (ui 0) false f b h λb=>lD 4 (pt c) f λc=>∀h:Hp,
CN (a.add h) 72 #[g,b,c] d λa b=>aO b f/\
lX a λa c=>rt e (tP a c) b
def PY:qC L41 41:=λh=>sd (zA (zB (zE 1 [] [] (hr 0 [1] 0 18 .e)))) func41 h
def L42:Y2:=λa b c d e=>lK d c 35 λc d=>DR d λf=>lM 5 b f λg=>lM 6 b f λh=>lD 1 (pt c) f λi=>dg (.int .i64) (ui 0) false f h i λh=>lD 2 (pt c) f λi=>lM 6 b f λb=>lD 3 (pt c) f λc=>dg (.int .i64) (ui 0) false f b c λb=>∀c:Hp,
CN (a.add c) 73 #[g,h,i,b] d λa b=>aO b f/\
lX a λa c=>rt e (tP a c) b
def PX:qC L42 42:=λh=>sd (zA (zB (zE 1 [] [] (hr 0 [1] 0 25 .e)))) func42 h
def L43:Y3:=λa b c d e f=>lK e c 35 λc e=>jB (λg h=>Br g (rt f i1 h) (jB (λg i=>Br g (rt f (iv 2) i) (jB (λg j=>Br g (rt f (iv 3) j) (rt f i0 j)) λg=>jB (λj k=>Br j (JE g [j] k) (jB (λj l=>Br j (JE g [j] l) (oA d (bi 4) λj=>lN j (bi 0) λj=>Split j true (lD 3 (pt c) l λj=>CR f a 76 #[b,j] l λj m=>Un .not j λj=>aG vT j vF λj=>JE g [j] m) (aG vF undef vF λj=>JE g [j] l))) λg=>oA d (bi 2) λj=>lN j (bi 0) λj=>Split j true (lD 2 (pt c) k λj=>CR f a 76 #[b,j] k λj l=>Un .not j λj=>aG vT j vF λj=>JE g [j] l) (aG vF undef vF λj=>JE g [j] k))) λg=>oA d (bi 1) λj=>lN j (bi 0) λj=>Split j true (lD 1 (pt c) i λj=>CR f a 76 #[b,j] i λj k=>Un .not j λj=>aG vT j vF λj=>JE g [j] k) (aG vF undef vF λj=>JE g [j] i))) λg=>jB (λi j=>Br i (JE g [i] j) (jB (λi k=>Br i (JE g [i] k) (oA d (bi 128) λi=>lN i (bi 0) λi=>lU i (λi=>lD 4 (pt c) k λl=>lC 0 b λm=>aj 0 m λm=>Ld k m λm=>oR l m λl=>lN l (wi 0) λl=>(lV k l i)) λi=>JE g [(Value.bool i)] k)) λg=>oA d (bi 16) λi=>lN i (bi 0) λi=>Split i true (lD 2 (pt c) j λi=>CR f a 75 #[b,i] j λi k=>Un .not i λi=>aG vT i vF λi=>JE g [i] k) (aG vF undef vF λi=>JE g [i] j))) λg=>oA d (bi 8) λi=>lN i (bi 0) λi=>Split i true (lD 1 (pt c) h λi=>CR f a 75 #[b,i] h λb i=>Un .not b λb=>aG vT b vF λb=>JE g [b] i) (aG vF undef vF λb=>JE g [b] h))) λb=>jB (λg h=>Br g (JE b [g] h) (oA d (bi 64) λg=>lN g (bi 0) λg=>Split g true (lD 3 (pt c) h λg=>aM Tryz.prog a (.func (.func 74) #[] #[]) #[g] h (λg i=>Un .not g λg=>aG vT g vF λg=>JE b [g] i) (dy f)) (aG vF undef vF λg=>JE b [g] h))) λb=>oA d (bi 32) λd=>lN d (bi 0) λd=>Split d true (lD 1 (pt c) e λc=>aM Tryz.prog a (.func (.func 74) #[] #[]) #[c] e (λa c=>Un .not a λa=>aG vT a vF λa=>JE b [a] c) (dy f)) (aG vF undef vF λa=>JE b [a] e)
def PW:qD L43 43:=λh=>sd (zA (zA (zB (zB (.h 1 [8] [0,2,4] (zF 1 [8] [0,2,4,7]) (zA (.h 1 [29] [0,2,4] (.h 1 [29] [0,2,4] .e (zA (zF 1 [29] [0,2,4]))) (zA (zE 1 [64] [] (.h 1 [64] [0,2,4] .e (zA (zF 1 [64] [0,2,4])))))))))))) func43 h
variable {g:Gh} {a0 a1 a2 a3 a4 a5 a6 a7 a8 a9 uB uA a12 a13 a14 a15:zV} {H:Hp} {R:Rt}
def L44:Y3:=λ_ a b c d e=>lW d #[i0,i0,(wi 0),i0] 37 λd f=>lM 7 a f λg=>lM 7 a f λh=>lA h i1 λh=>lC 7 a λi=>St 1 f i h λf=>lM 6 a f λa=>aY (.int .i64) f a g b λa=>Build zQ 37 [(1,g),(3,c)] λb=>St 4 a (pt d) b λa=>aB 4 a (pt d) λb=>rt e b a
def PV:qD L44 44:=λh=>sd .e func44 h
def L45:Y3:=λa b c d e f=>lW e #[i0,i0,i0,vF] 97 λe g=>CR f a 77 #[b,c,d] g λg h=>lN g i0 λi=>Br i (Build zQ 97 [] λi=>St 4 h (pt e) i λi=>aB 4 i (pt e) λj=>rt f (tP j g) i) (lE c (bi 1) λg=>Br g (CR f a 78 #[b,d] h λg i=>lX g λg j=>St 4 i (pt e) g λg=>aB 4 g (pt e) λi=>rt f (tP i j) g) (lE c (bi 2) λg=>Br g (CR f a 79 #[b,d] h λd g=>lX d λi _=>Ext 2 d λd=>lQ 4 g #[i0,i0,i0,vF] 97 i λg i=>aB 4 i (pt g) λg=>St 4 i (pt e) g λg=>aB 4 g (pt e) λi=>rt f (tP i d) g) (jB (λd g=>Br d (CR f a 81 #[c] g λd i=>CR f a 80 #[b,d] i λd i=>lX d λd j=>St 4 i (pt e) d λd=>aB 4 d (pt e) λi=>rt f (tP i j) d) (lE c (bi 6) λd=>Br d (CR f a 82 #[b] g λd i=>lX d λd j=>St 4 i (pt e) d λd=>aB 4 d (pt e) λi=>rt f (tP i j) d) (CR f a 83 #[b] g λd g=>CR f a 83 #[b] g λa b=>Build zQ 97 [(0,d),(1,a)] λa=>St 4 b (pt e) a λa=>aB 4 a (pt e) λb=>rt f (tP b i0) a))) λa=>lE c (bi 3) λb=>Br b (JE a [b] h) (lE c (bi 4) λb=>Br b (JE a [b] h) (lE c (bi 5) λb=>JE a [b] h)))))
def iS:qD L45 45:=λh=>sd (zA (zA (zB (zA (zB (hN 4 (zF 1 [39] [0,1,6,20]))))))) func45 h
def L46:Y2:=λa b c d e=>lK d c 35 λc d=>lW d #[i0,i0,(wi 0),i0] 37 λd f=>lM 6 b f λg=>lD 1 (pt c) f λc=>dg (.int .i64) (ui 0) true f g c λc=>lX c λc g=>Un .not g λg=>Br g (CR e a 20 #[(iv 3)] f λg h=>St 4 h (pt d) g λg=>aB 4 g (pt d) λh=>rt e h g) (lM 5 b f λg=>CR e a 84 #[g,c] f λf g=>lN f i0 λh=>Br h (CR e a 20 #[f] g λf h=>St 4 h (pt d) f λf=>aB 4 f (pt d) λh=>rt e h f) (CR e a 44 #[b,c,i0] g λa b=>St 4 b (pt d) a λa=>aB 4 a (pt d) λb=>rt e b a))
def AU:qC L46 46:=λh=>sd .e func46 h
def L47:Y2:=λa b c d e=>lK d c 35 λc d=>lW d #[i0,i0,(wi 0),i0] 37 λd f=>lM 6 b f λg=>lD 1 (pt c) f λh=>dg (.int .i64) (ui 0) true f g h λg=>lX g λg h=>Un .not h λh=>Br h (CR e a 20 #[(iv 3)] f λh i=>St 4 i (pt d) h λh=>aB 4 h (pt d) λi=>rt e i h) (lM 5 b f λh=>CR e a 85 #[h,g] f λ_ f=>DR f λg=>lM 6 b g λb=>lD 1 (pt c) g λc=>∀_:Hp,
po (.int .i64) f b c λb=>CR e a 86 #[(wi 0),i0] b λa b=>St 4 b (pt d) a λa=>aB 4 a (pt d) λb=>rt e b a)
def AT:qC L47 47:=λh=>sd (hN 4 (zB (zE 1 [] [] (hr 0 [1] 0 7 .e)))) func47 h
def L48:Y2:=λa b c d e=>lK d c 35 λc d=>lW d #[i0,i0,(wi 0),i0] 37 λd f=>lD 1 (pt c) f λg=>CR e a 76 #[b,g] f λf g=>Un .not f λf=>Br f (CR e a 20 #[(iv 3)] g λf h=>St 4 h (pt d) f λf=>aB 4 f (pt d) λh=>rt e h f) (DR g λf=>lM 5 b f λh=>lM 6 b f λb=>lD 1 (pt c) f λi=>dg (.int .i64) (ui 0) false f b i λb=>lD 4 (pt c) f λc=>∀i:Hp,
CN (a.add i) 87 #[h,b,c] g λb c=>aO c f/\
lX b λb f=>CR e a 88 #[b] c λb c=>CR e a 86 #[b,f] c λa b=>St 4 b (pt d) a λa=>aB 4 a (pt d) λb=>rt e b a)
def PU:qC L48 48:=λh=>sd (zA (zA (zB (zE 1 [] [] (hr 0 [1] 0 19 .e))))) func48 h
def L49:Y2:=λa b c d e=>lK d c 35 λc d=>lW d #[i0,i0,(wi 0),i0] 37 λd f=>jB (λg h=>Br g (CR e a 20 #[(iv 3)] h λg i=>St 4 i (pt d) g λg=>aB 4 g (pt d) λi=>rt e i g) (DR h λg=>lM 6 b g λi=>lD 1 (pt c) g λj=>dg (.int .i64) (ui 0) false g i j λi=>lM 6 b g λj=>lD 2 (pt c) g λk=>dg (.int .i64) (ui 0) false g j k λg=>lE i g λg=>∀i:Hp,
CN (a.add i) 88 #[g] h λg h=>∀i:Hp,
CN (a.add i) 86 #[g,i0] h λg h=>∀_:Hp,
St 4 h (pt d) g λg=>aB 4 g (pt d) λd=>rt e d g)) λd=>lD 1 (pt c) f λg=>CR e a 76 #[b,g] f λf g=>Un .not f λf=>Split f false (lD 2 (pt c) g λc=>CR e a 76 #[b,c] g λa b=>Un .not a λa=>aG vF vT a λa=>JE d [a] b) (aG vT vT undef λa=>JE d [a] g)
def PT:qC L49 49:=λh=>sd (zA (.n (zF 1 [16] [0,3,4]) (zB (zE 1 [] [] (hr 0 [1] 0 18 .e))))) func49 h
def L50:Y2:=λa b c d e=>lK d c 35 λc d=>lW d #[i0,i0,(wi 0),i0] 37 λd f=>lD 1 (pt c) f λg=>CR e a 76 #[b,g] f λf g=>Un .not f λf=>Br f (CR e a 20 #[(iv 3)] g λf h=>St 4 h (pt d) f λf=>aB 4 f (pt d) λh=>rt e h f) (DR g λf=>lM 5 b f λh=>lM 6 b f λb=>lD 1 (pt c) f λc=>dg (.int .i64) (ui 0) false f b c λb=>∀c:Hp,
CN (a.add c) 89 #[h,b] g λb c=>aO c f/\
lX b λb f=>∀g:Hp,
CN (a.add g) 86 #[b,f] c λa b=>∀_:Hp,
St 4 b (pt d) a λa=>aB 4 a (pt d) λb=>rt e b a)
def PR:qC L50 50:=λh=>sd (zA (zA (zB (zE 1 [] [] (hr 0 [1] 0 16 .e))))) func50 h
def L51:Y2:=λa b c d e=>lK d c 35 λc d=>lW d #[i0,i0,(wi 0),i0] 37 λd f=>lD 1 (pt c) f λg=>CR e a 76 #[b,g] f λf g=>Un .not f λf=>Br f (CR e a 20 #[(iv 3)] g λf h=>St 4 h (pt d) f λf=>aB 4 f (pt d) λh=>rt e h f) (DR g λf=>lM 5 b f λh=>lM 6 b f λb=>lD 1 (pt c) f λc=>dg (.int .i64) (ui 0) false f b c λb=>∀_:Hp,
aq zQ 133 1 [(0,b)] g λb c=>aO c f/\
∀g:Hp,
CN (a.add g) 90 #[h,b] c λb c=>aO c f/\
lX b λb f=>bu .u64 b λb=>CR e a 86 #[b,f] c λa b=>St 4 b (pt d) a λa=>aB 4 a (pt d) λb=>rt e b a)
def PO:qC L51 51:=λh=>sd (zA (zA (zB (zE 1 [] [] (hr 0 [1] 0 18 .e))))) func51 h
def L52:Y2:=λa b c d e=>lK d c 35 λ_ c=>lW c #[i0,i0,(wi 0),i0] 37 λc d=>lM 5 b d λb=>CR e a 83 #[b] d λb d=>bu .u64 b λb=>CR e a 86 #[b,i0] d λa b=>St 4 b (pt c) a λa=>aB 4 a (pt c) λb=>rt e b a
def PN:qC L52 52:=λh=>sd .e func52 h
def L53:Y2:=λa b c d e=>lK d c 35 λc d=>lW d #[i0,i0,(wi 0),i0] 37 λd f=>lD 1 (pt c) f λg=>CR e a 76 #[b,g] f λf g=>Un .not f λf=>Br f (CR e a 20 #[(iv 3)] g λf h=>St 4 h (pt d) f λf=>aB 4 f (pt d) λh=>rt e h f) (DR g λf=>lM 5 b f λh=>lM 6 b f λb=>lD 1 (pt c) f λc=>dg (.int .i64) (ui 0) false f b c λb=>∀c:Hp,
CN (a.add c) 91 #[h,b] g λb c=>aO c f/\
lX b λb f=>∀g:Hp,
CN (a.add g) 86 #[b,f] c λa b=>∀_:Hp,
St 4 b (pt d) a λa=>aB 4 a (pt d) λb=>rt e b a)
def PM:qC L53 53:=λh=>sd (zA (zA (zB (zE 1 [] [] (hr 0 [1] 0 16 .e))))) func53 h
def L54:Y2:=λa b c d e=>lK d c 35 λc d=>lW d #[i0,i0,(wi 0),i0] 37 λd f=>lD 1 (pt c) f λg=>CR e a 76 #[b,g] f λf g=>Un .not f λf=>Br f (CR e a 20 #[(iv 3)] g λf h=>St 4 h (pt d) f λf=>aB 4 f (pt d) λh=>rt e h f) (DR g λf=>lM 5 b f λh=>lM 6 b f λb=>lD 1 (pt c) f λc=>dg (.int .i64) (ui 0) false f b c λb=>∀c:Hp,
CN (a.add c) 92 #[h,b] g λb c=>aO c f/\
lX b λb f=>∀g:Hp,
CN (a.add g) 86 #[b,f] c λa b=>∀_:Hp,
St 4 b (pt d) a λa=>aB 4 a (pt d) λb=>rt e b a)
def PK:qC L54 54:=λh=>sd (zA (zA (zB (zE 1 [] [] (hr 0 [1] 0 16 .e))))) func54 h
def L55:Y2:=λa b c d e=>lK d c 35 λc d=>lW d #[i0,i0,(wi 0),i0] 37 λd f=>DR f λg=>lM 5 b g λb=>lD 1 (pt c) g λc=>∀h:Hp,
CN (a.add h) 93 #[b,c] f λb c=>aO c g/\
lX b λb f=>bu .u64 b λb=>CR e a 86 #[b,f] c λa b=>St 4 b (pt d) a λa=>aB 4 a (pt d) λb=>rt e b a
def AS:qC L55 55:=λh=>sd (zA (zB (zE 1 [] [] (hr 0 [1] 0 12 .e)))) func55 h
def L56:Y2:=λa b c d e=>lK d c 35 λc d=>lW d #[i0,i0,(wi 0),i0] 37 λd f=>DR f λg=>lM 5 b g λb=>lD 1 (pt c) g λc=>∀g:Hp,
CN (a.add g) 94 #[b,c] f λb c=>∀f:Hp,
CN (a.add f) 86 #[(wi 0),b] c λa b=>∀_:Hp,
St 4 b (pt d) a λa=>aB 4 a (pt d) λb=>rt e b a
def AR:qC L56 56:=λh=>sd (zA (zB (zE 1 [] [] (hr 0 [1] 0 9 .e)))) func56 h
def L57:Y2:=λa b c d e=>lK d c 35 λc d=>lW d #[i0,i0,(wi 0),i0] 37 λd f=>lD 1 (pt c) f λg=>lL g i0 λg=>lO g (λg=>lD 1 (pt c) f λh=>lG h (iv 6) λh=>(lV f h g)) λg=>Br (Value.bool g) (CR e a 20 #[i1] f λg h=>St 4 h (pt d) g λg=>aB 4 g (pt d) λh=>rt e h g) (DR f λg=>lM 5 b g λh=>lD 1 (pt c) g λi=>bu .u8 i λi=>lD 2 (pt c) g λc=>∀j:Hp,
CN (a.add j) 45 #[h,i,c] f λc f=>aO f g/\
lX c λc h=>lW f #[i0,i0,i0,vF] 97 λf i=>∀_:Hp,
St 4 i (pt f) c λc=>aO c g/\
lM 5 b c λb=>CR e a 83 #[b] c λb c=>bu .u64 b λb=>CR e a 86 #[b,h] c λa b=>St 4 b (pt d) a λa=>aB 4 a (pt d) λb=>rt e b a)
def AQ:qC L57 57:=λh=>sd (zA (.n (zB (zF 0 [] [1])) (zB (zE 1 [] [] (hr 0 [1] 0 9 (zE 1 [13] [1] (hr 0 [1] 9 7 .e))))))) func57 h
def L58:Y1:=λa b c d=>CR d a 95 #[sZ,b] c λa b=>rt d a b
def PJ:qB L58 58:=λh=>sd .e func58 h
def L59:Y1:=λa b c d=>aP b λe=>bu .u64 e λf=>CR d a 97 #[f] c λc f=>CR d a 96 #[b,i0,e,c] f λ_ a=>rt d (.tuple #[]) a
def PI:qB L59 59:=λh=>sd .e func59 h
def L61:Y1:=λ_ a b c=>cJ 3 1 8 i0 b a a λb d=>yA [i0] d λd e f g=>lL f a λa=>Br a (ay 1 b f λa=>St 1 g a f λa=>lA f i1 λh=>aD d e [h] a [f] g) (rt c b g)
def PG:qB L61 61:=λh=>sd (zA (zA (zB (zA (zB (zF 0 [8] [3,7])))))) func61 h
def L62:Y1:=λ_ a b c=>lL a (iv 2) λd=>lO d (λd=>lG a (iv 1048576) λe=>(lV b e d)) λd=>Br (Value.bool d) (rt c (tP (.pointer none) i1) b) (Build zQ 142 [(0,a),(3,(iv 2))] λa=>lK b a 142 λa b=>yA [(ui 0)] b λb d e f=>lL e (ui 2) λg=>Br g (lM 1 (pt a) f λg=>Build zQ 144 [(0,(iv (-1))),(1,e),(2,e)] λh=>Build zQ 146 [(0,h),(1,vT),(2,(bi 255))] λh=>aq zQ 140 1 [(0,h)] f λh i=>App zQ 146 5 24 (.agg #[i0,(ui 0),(ui 0),vF,(bi 0)]) i g h λg h=>lC 1 (pt a) λi=>St 1 h i g λg=>lA e (ui 1) λh=>aD b d [h] g [e] f) (rt c (tP (pt a) i0) f))
def PF:qB L62 62:=λh=>sd (zA (.n (zB (zF 0 [] [1])) (zA (zB (zA (zB (zF 0 [15] [4]))))))) func62 h
def L63:Y2:=λa b c d e=>oP b λf=>Br f (rt e (tP (ui 0) (iv 10)) d) (CR e a 98 #[b,c,(ui 0),(ui 1)] d λa b=>lX a λa c=>rt e (tP a c) b)
def PE:qC L63 63:=λh=>sd .e func63 h
def L64:Y2:=λa b c d e=>oP b λf=>Br f (rt e (tP (ui 0) (iv 10)) d) (jB (λf g=>CR e a 84 #[b,f] g λa b=>rt e (tP f a) b) λa=>Br c (JE a [(ui 1)] d) (JE a [(ui 0)] d))
def PD:qC L64 64:=λh=>sd (hN 3 (zF 1 [6] [0])) func64 h
def L65:Y2:=λa b c d e=>CR e a 99 #[b,(bi 3),c,(ui 0)] d λa b=>lX a λa c=>rt e (tP a c) b
def PC:qC L65 65:=λh=>sd .e func65 h
def L66:Y3:=λa b c d e f=>CR f a 99 #[b,(bi 8),c,d] e λa b=>lX a λa c=>rt f (tP a c) b
def PB:qD L66 66:=λh=>sd .e func66 h
def L67:Y3:=λa b c d e f=>CR f a 99 #[b,(bi 14),c,d] e λa b=>lX a λa c=>rt f (tP a c) b
def PA:qD L67 67:=λh=>sd .e func67 h
def L68:Y3:=λa b c d e f=>CR f a 99 #[b,(bi 6),c,d] e λa b=>lX a λa c=>rt f (tP a c) b
def Pz:qD L68 68:=λh=>sd .e func68 h
def L69:Y4:=λa b c d e f g=>aq zQ 133 3 [(0,c),(1,d),(2,e)] f λf h=>CR g a 100 #[b,f] h λb f=>lX b λb h=>lN h i0 λi=>Br i (rt g (tP (ui 0) h) f) (Build zQ 154 [(0,c),(1,d),(2,e)] λc=>CR g a 101 #[b,c,(.func (.func 102) #[] #[])] f λa b=>lX a λa c=>rt g (tP a c) b)
def Py:qE L69 69:=λh=>sd .e func69 h
def L70:Y4:=λa b c d e f g=>CR g a 103 #[b,d] f λf h=>lX f λf i=>ah .γ .neq b (.pointer none) λj=>lU j (λj=>Un .not i λi=>(lV h i j)) λj=>Br (Value.bool j) (rt g (tP (ui 0) (iv 2)) h) (aq zQ 133 1 [(0,c)] h λh i=>CR g a 104 #[b,f,h] i λf h=>lN f i0 λi=>Br i (rt g (tP (ui 0) f) h) (CR g a 106 #[b,c,d,e] h λb c=>lX b λd e=>Ext 2 b λb=>CR g a 105 #[d,e,b] c λa b=>lX a λa c=>rt g (tP a c) b))
def Pw:qE L70 70:=λh=>sd (zA (zA (zB (zB (zF 0 [] [1]))))) func70 h
def L71:Y3:=λa b c d e f=>CR f a 107 #[b,c,d,vT] e λa b=>lX a λa c=>rt f (tP a c) b
def Pv:qD L71 71:=λh=>sd .e func71 h
def L72:Y3:=λa b c d e f=>CR f a 107 #[b,c,d,vF] e λa b=>lX a λa c=>rt f (tP a c) b
def Pu:qD L72 72:=λh=>sd .e func72 h
def L73:Y4:=λa b c d e f g=>CF a 103 #[b,d] f (λf h=>lX f λf i=>ah .γ .neq b (.pointer none) λj=>lU j (λj=>Un .not i λi=>(lV h i j)) λj=>Br (Value.bool j) (rt g (tP (ui 0) (iv 2)) h) (aq zQ 133 2 [(0,c),(1,e)] h λh i=>CF a 104 #[b,f,h] i (λf h=>lN f i0 λi=>Br i (rt g (tP (ui 0) f) h) (CF a 106 #[b,c,d,vF] h (λf h=>lX f λi j=>Ext 2 f λf=>CF a 105 #[i,j,f] h (λf h=>lX f λf i=>lN i i0 λj=>Br j (rt g (tP (ui 0) i) h) (CF a 106 #[b,c,d,vT] h (λc d=>lX c λh i=>Ext 2 c λc=>CF a 105 #[h,i,c] d (λc d=>lX c λc h=>lN h i0 λi=>Br i (kJ zQ a 85 #[b,f] d λi=>rt g (tP (ui 0) h) i) (CF a 69 #[b,e,c,f] d (λd e=>lX d λd h=>kJ zQ a 85 #[b,c] e λc=>kJ zQ a 85 #[b,f] c λa=>rt g (tP d h) a) O6)) O6) O6)) O6) O6)) O6)) O6
def Pt(h:L73 g a0 a1 a2 a3 H R):sc g 73 #[a0,a1,a2,a3] H R:=
 Bd (hn:=(zA (zA (.n (zB (zF 0 [] [1])) (hN 7 .e))))) func73 h zK
def L74:Y1:=λ_ a b c=>lE a i0 λd=>lO d (λd=>lE a i1 λa=>(lV b a d)) λd=>rt c (Value.bool d) b
def Ps:qB L74 74:=λh=>sd (zA (zB (zF 0 [] [1]))) func74 h
def L75:Y2:=λ_ a b c d=>oG b i0 λe=>lU e (λe=>lC 0 a λa=>aj 0 a λa=>Ld c a λa=>lL b a λa=>(lV c a e)) λe=>rt d (Value.bool e) c
def Pr:qC L75 75:=λh=>sd (zA (zB (zF 0 [] [1]))) func75 h
def L76:Y2:=λ_ a b c d=>lM 6 a c λa=>dg (.int .i64) (ui 0) true c a b λa=>lX a λ_ a=>rt d a c
def Pq:qC L76 76:=λh=>sd .e func76 h
def L77:Y3:=λa b c d e f=>oP b λg=>Br g (rt f (iv 10) e) (lG c (bi 6) λg=>lO g (λg=>lL d (iv 100) λh=>(lV e h g)) λg=>lO (Value.bool g) (λg=>lG d (iv 1000) λd=>(lV e d g)) λg=>Br (Value.bool g) (rt f i1 e) (jB (λd g=>Br d (rt f (iv 6) g) (rt f i0 g)) λd=>lE c (bi 6) λc=>Split c true (CR f a 108 #[b] e λa b=>lG a (iv 12) λa=>aG vT a vF λa=>JE d [a] b) (aG vF undef vF λa=>JE d [a] e)))
def AP:qD L77 77:=λh=>sd (zA (zB (zB (zA (zA (.n (zF 0 [] [1]) (zA (zF 1 [21] [])))))))) func77 h
def L78:Y2:=λa b c d e=>lW d #[i0,i0,i0,vF] 97 λd f=>CR e a 109 #[b,c] f λf g=>lN f i0 λh=>Br h (Build zQ 97 [] λh=>St 4 g (pt d) h λh=>aB 4 h (pt d) λi=>rt e (tP i f) h) (CR e a 83 #[b] g λf g=>Build zQ 97 [(0,f)] λf=>lQ 4 g #[i0,i0,i0,vF] 97 f λf g=>CR e a 110 #[b] g λg h=>aP g λi=>yA [i0] h λh j k l=>lL k i λi=>Br i (lI 1 g k l λg=>CR e a 111 #[b,g,c] l λc g=>lX c λc _=>lQ 4 g #[i0,i0,i0,vF] 97 c λc g=>lD 2 (pt f) g λi=>lD 2 (pt c) g λc=>lA i c λc=>aj 2 (pt f) λi=>St 1 g i c λc=>lA k i1 λg=>aD h j [g] c [k] l) (CR e a 83 #[b] l λa b=>aj 1 (pt f) λc=>St 1 b c a λa=>aB 4 a (pt f) λb=>St 4 a (pt d) b λa=>aB 4 a (pt d) λb=>rt e (tP b i0) a))
def Pp:qC L78 78:=λh=>sd (hN 3 (zB (zA (zB (zF 0 [25] [0,1,4,7,23,24]))))) func78 h
def L79:Y2:=λa b c d e=>lW d #[i0,i0,i0,vF] 97 λd f=>CR e a 109 #[b,c] f λf g=>lN f i0 λh=>Br h (Build zQ 97 [] λh=>St 4 g (pt d) h λh=>aB 4 h (pt d) λi=>rt e (.tuple #[i,i0,f]) h) (CR e a 83 #[b] g λf g=>Build zQ 97 [(0,f)] λf=>lQ 4 g #[i0,i0,i0,vF] 97 f λf g=>yA [i1] g λg h i j=>CR e a 78 #[b,c] j λa b=>lX a λa _=>lQ 4 b #[i0,i0,i0,vF] 97 a λa b=>lD 2 (pt f) b λc=>lD 2 (pt a) b λk=>lA c k λc=>aj 2 (pt f) λk=>St 1 b k c λb=>lD 1 (pt a) b λc=>aj 1 (pt f) λk=>St 1 b k c λb=>lD 1 (pt a) b λc=>lD 0 (pt a) b λa=>oG c a λa=>Br a (aB 4 b (pt f) λa=>St 4 b (pt d) a λa=>aB 4 a (pt d) λc=>rt e (.tuple #[c,i,i0]) a) (lA i i1 λa=>aD g h [a] b [i] j))
def Po:qC L79 79:=λh=>sd (hN 4 (zB (zF 0 [9] [0,1,4,8]))) func79 h
def L80:Y2:=λa b c d e=>lW d #[i0,i0,i0,vF] 97 λd f=>CR e a 112 #[b,c] f λf g=>lN f i0 λh=>Br h (Build zQ 97 [] λh=>St 4 g (pt d) h λh=>aB 4 h (pt d) λi=>rt e (tP i f) h) (CR e a 113 #[b,c] g λf g=>CR e a 114 #[f,b,c] g λ_ a=>lC 1 f λb=>aB 4 a b λb=>St 4 a (pt d) b λa=>aB 4 a (pt d) λb=>rt e (tP b i0) a)
def Pn:qC L80 80:=λh=>sd .e func80 h
def L81:Y1:=λ_ a b c=>lS a (bi 3) λa=>bu .i64 a λa=>lA a (iv 2) λa=>rt c a b
def Pm:qB L81 81:=λh=>sd .e func81 h
def L82:Y1:=λa b c d=>lW c #[i0,i0,i0,vF] 97 λc e=>oP b λf=>Br f (Build zQ 97 [] λf=>St 4 e (pt c) f λf=>aB 4 f (pt c) λg=>rt d (tP g (iv 10)) f) (CR d a 108 #[b] e λe f=>lG e (iv 12) λe=>Br e (Build zQ 97 [] λe=>St 4 f (pt c) e λe=>aB 4 e (pt c) λg=>rt d (tP g (iv 6)) e) (CR d a 115 #[b] f λe f=>aP e λg=>yB [sZ,i0] f λf h i j k=>lL j g λg=>Br g (lI 1 e j k λe=>CR d a 116 #[b,e] k λe g=>lX e λe _=>lQ 2 g #[i0,sZ] 175 e λe g=>aB 2 g (pt e) λe=>aq zQ 171 1 [(0,e)] g λe g=>App zQ 175 2 32 (.agg #[i0,sZ]) g i e λe g=>lA j i1 λl=>aD f h [e,l] g [i,j] k) (CR d a 83 #[b] k λe f=>CR d a 117 #[i] f λf g=>lX f λh i=>Ext 2 f λ_=>lE e h λf=>Br f (Build zQ 97 [(0,e),(1,e),(3,vT)] λf=>St 4 g (pt c) f λf=>aB 4 f (pt c) λh=>rt d (tP h i0) f) (CR d a 118 #[b,i] g λf g=>lX f λf h=>CR d a 83 #[b] g λa b=>lE h i0 λg=>Build zQ 97 [(0,e),(1,a),(2,f),(3,g)] λa=>St 4 b (pt c) a λa=>aB 4 a (pt c) λb=>rt d (tP b i0) a))))
def Pk:qB L82 82:=λh=>sd (hN 4 (zB (zA (zB (zF 0 [4,25] [0,2,23,24]))))) func82 h
def L83:Y1:=λa b c d=>oP b λe=>Br e (rt d i0 c) (lC 0 b λb=>aj 0 b λb=>Ld c b λb=>CR d a 119 #[b] c λa b=>lS a (iv 2) λa=>rt d a b)
def Pj:qB L83 83:=λh=>sd .e func83 h
def L84:Y2:=λa b c d e=>oP b λf=>Br f (rt e (iv 10) d) (lC 0 b λf=>CR e a 120 #[f,c] d λa d=>Un .not a λa=>Br a (rt e (iv 3) d) (jA (λa=>lC 7 b λf=>St 1 a f sZ λa=>rt e i0 a) λa=>lG c (ui 1) λf=>Br f (lC 0 b λf=>aj 3 f λf=>Ld d f λf=>lI 1 f c d λf=>lE f (Value.int .i32 65535) λf=>Br f (rt e (iv 8) d) (lC 0 b λe=>aj 3 e λe=>Ld d e λe=>lI 1 e c d λf=>lA f (Value.int .i32 1) λf=>ay 1 e c λe=>St 1 d e f λe=>lC 0 b λf=>aj 3 f λf=>Ld e f λf=>lI 1 f c e λf=>lE f (Value.int .i32 1) λf=>Br f (lC 0 b λb=>aj 2 b λb=>Ld e b λb=>lI 1 b c e λf=>lA f (Value.int .i32 1) λf=>ay 1 b c λb=>St 1 e b f λb=>JE a [] b) (JE a [] e))) (JE a [] d)))
def AO:qC L84 84:=λh=>sd (zA (zA (zF 1 [] [0]))) func84 h
def L85:Y2:=λa b c d e=>oP b λf=>Br f (rt e (iv 10) d) (jA (λf=>lC 7 b λg=>St 1 f g sZ λf=>rt e i0 f) λf=>lG c (ui 1) λg=>Br g (CR e a 121 #[b,c] d λg h=>lE g i0 λg=>Br g (rt e (iv 3) h) (lC 0 b λg=>aj 3 g λg=>Ld h g λg=>lI 1 g c h λi=>lS i (Value.int .i32 1) λi=>ay 1 g c λg=>St 1 h g i λg=>lC 0 b λh=>aj 3 h λh=>Ld g h λh=>lI 1 h c g λh=>lE h (Value.int .i32 0) λh=>Br h (lC 0 b λb=>CR e a 122 #[b,c] g λ_ a=>JE f [] a) (JE f [] g))) (JE f [] d))
def AN:qC L85 85:=λh=>sd (zA (zA (zF 1 [] [0]))) func85 h
def HU(h:L85 g a0 a1 H R):lf zQ g 85 #[a0,a1] H R:=
 Be (hn:=(zA (zA (zF 1 [] [0])))) func85 h zK
def L86:Y2:=λa b c d e=>lW d #[i0,i0,(wi 0),i0] 37 λd f=>lN c i0 λg=>Br g (CR e a 20 #[c] f λa c=>St 4 c (pt d) a λa=>aB 4 a (pt d) λc=>rt e c a) (Build zQ 37 [(1,(iv (-1))),(2,b)] λa=>St 4 f (pt d) a λa=>aB 4 a (pt d) λb=>rt e b a)
def Ph:qC L86 86:=λh=>sd .e func86 h
def L87:Y3:=λa b c d e f=>aq zQ 133 1 [(0,c)] e λe g=>CR f a 123 #[b,e] g λe g=>lN e i0 λh=>Br h (rt f (tP vF e) g) (yA [c] g λc e g h=>CR f a 124 #[g] h λi j=>Un .not i λi=>Br i (CR f a 125 #[b,g] j λa b=>lQ 3 b nC 144 a λa b=>lD 1 (pt a) b λi=>lD 0 (pt a) b λk=>oR d k λd=>oA d (wi 1) λd=>lE d (wi 1) λd=>Br d (lD 2 (pt a) b λa=>aD c e [a] b [g] h) (aD c e [i] b [g] h)) (lE g (ui 1) λa=>rt f (tP a i0) j))
def Pg:qD L87 87:=λh=>sd (zA (zA (zB (zB (zF 0 [1] [0,2]))))) func87 h
def L88:Y1:=λ_ a b c=>Br a (rt c (wi 1) b) (rt c (wi 0) b)
def Pf:qB L88 88:=λh=>sd .e func88 h
def L89:Y2:=λa b c d e=>lK d b 53 λb d=>Ld d (pt b) λf=>aq zQ 133 1 [(0,c)] d λd g=>CR e a 123 #[f,d] g λd f=>lN d i0 λg=>Br g (rt e (tP (wi 0) d) f) (lW f #[.nilFunc] 182 λd f=>St 1 f (pt d) (.func (.func 126) #[] #[(pt b)]) λf=>Ld f (pt b) λg=>CR e a 127 #[g,c,(wi 0),(wi 1),(.func (.func 128) #[] #[(pt b),(pt d)])] f λb f=>Ld f (pt d) λd=>aM zQ a d #[c] f (λa c=>oL b a λa=>rt e (tP a i0) c) (dy e))
def Pe:qC L89 89:=λh=>sd .e func89 h
def L90:Y2:=λa b c d e=>CR e a 123 #[b,c] d λd f=>lN d i0 λg=>Br g (rt e (tP i0 d) f) (lQ 1 f #[i0] 3 i0 λd f=>CR e a 129 #[b,c,(.func (.func 130) #[] #[(pt d)])] f λ_ a=>Ld a (pt d) λb=>rt e (tP b i0) a)
def Pd:qC L90 90:=λh=>sd .e func90 h
def L91:Y2:=λa b c d e=>CR e a 131 #[b,c,(wi 0)] d λa b=>lX a λa c=>rt e (tP a c) b
def AM:qC L91 91:=λh=>sd .e func91 h
def L92:Y2:=λa b c d e=>aq zQ 133 1 [(0,c)] d λd f=>CR e a 123 #[b,d] f λd f=>lN d i0 λg=>Br g (rt e (tP (wi 0) d) f) (lQ 1 f #[(wi 0)] 33 (wi 0) λd f=>aq zQ 133 1 [(0,c)] f λc f=>CR e a 129 #[b,c,(.func (.func 132) #[] #[(pt d)])] f λ_ a=>Ld a (pt d) λb=>rt e (tP b i0) a)
def Pb:qC L92 92:=λh=>sd .e func92 h
def L93:Y2:=λa b c d e=>oP b λf=>Br f (rt e (tP i0 (iv 10)) d) (CR e a 133 #[b,c] d λa d=>Un .not a λa=>Br a (rt e (tP i0 (iv 2)) d) (lM 6 b d λa=>lI 1 a c d λa=>rt e (tP a i0) d))
def tM:qC L93 93:=λh=>sd .e func93 h
def L94:Y2:=λa b c d e=>oP b λf=>Br f (rt e (iv 10) d) (lL c i0 λf=>lO f (λf=>lM 4 b d λg=>lS g (iv 2) λg=>lG c g λg=>(lV d g f)) λf=>Br (Value.bool f) (rt e i1 d) (CR e a 134 #[b,c] d λa d=>Un .not a λa=>Br a (rt e (iv 9) d) (lM 7 b d λa=>aq zQ 43 1 [(0,c)] d λc d=>App zQ 3 1 8 i0 d a c λa c=>lC 7 b λb=>St 1 c b a λa=>rt e i0 a)))
def AL:qC L94 94:=λh=>sd (zA (zB (zB (zA (zA (zB (zF 0 [] [1]))))))) func94 h
def L97:Y1:=λa b c d=>Br vF (bu .u32 b λe=>CR d a 144 #[e] c λe f=>rt d e f) (CR d a 145 #[b] c λa b=>rt d a b)
def Pa:qB L97 97:=λh=>sd .e func97 h
def L98:Y4:=λa b c d e f g=>oP b λh=>Br h (rt g (tP (ui 0) (iv 10)) f) (CR g a 146 #[b,c,d,e] f λf h=>lN f i0 λi=>Br i (rt g (tP (ui 0) f) h) (CR g a 147 #[b,c,d,e] h λf h=>lX f λf i=>jB (λj k=>CR g a 84 #[b,j] k λk l=>lN k i0 λm=>Br m (rt g (tP (ui 0) k) l) (rt g (tP j i0) l)) λj=>Un .not i λi=>Br i (lC 0 b λi=>CR g a 148 #[i,i1] h λi k=>Un .not i λi=>Br i (rt g (tP (ui 0) (iv 9)) k) (lC 0 b λb=>Build zQ 144 [(0,c),(1,d),(2,e)] λc=>CR g a 149 #[b,c] k λa b=>JE j [a] b)) (JE j [f] h)))
def O9:qE L98 98:=λh=>sd (hN 4 (zF 1 [11] [0])) func98 h
def L99:Y4:=λa b c d e f g=>lK f c 5 λc f=>oP b λh=>Br h (rt g (tP (ui 0) (iv 10)) f) (Ld f (pt c) λh=>lG h (bi 15) λh=>Br h (rt g (tP (ui 0) i1) f) (aq zQ 133 2 [(0,d),(1,e)] f λf h=>CR g a 100 #[b,f] h λb f=>lX b λb h=>lN h i0 λi=>Br i (rt g (tP (ui 0) h) f) (Build zQ 154 [(0,d),(1,e)] λd=>CR g a 101 #[b,d,(.func (.func 150) #[] #[(pt c)])] f λa b=>lX a λa c=>rt g (tP a c) b)))
def O8:qE L99 99:=λh=>sd .e func99 h
def L100:Y2:=λa b c d e=>oP b λf=>Br f (rt e (tP (.pointer none) (iv 10)) d) (aP c λf=>yA [i0] d λd g h i=>lL h f λf=>Br f (lI 1 c h i λc=>CR e a 152 #[b,c] i λc f=>lX c λc j=>lQ 3 f nC 144 c λ_ c=>lN j i0 λf=>Br f (rt e (tP (.pointer none) j) c) (lA h i1 λf=>aD d g [f] c [h] i)) (CR e a 108 #[b] i λc d=>cJ 3 1 8 i0 d c c λc d=>Build zQ 209 [(0,b),(1,c)] λc=>lK d c 209 λc d=>CR e a 27 #[b] d λa b=>aP a λd=>yA [i0] b λb f g h=>lL g d λd=>Br d (lI 1 a g h λa=>lM 1 (pt c) h λd=>ay 1 d a λa=>St 1 h a g λa=>lA g i1 λd=>aD b f [d] a [g] h) (rt e (tP (pt c) i0) h)))
def KI:qC L100 100:=λh=>sd (zA (zA (.n (zA (zB (zF 0 [17] [0,15,16]))) (zA (zB (zA (zB (zF 0 [40] [10,38,39])))))))) func100 h
def L101:Y3:=λa b c d e f=>lK e b 149 λb e=>lK e c 154 λc e=>lK e d 155 λd e=>lW e #[(ui 0)] 78 λe g=>lW g #[i0] 27 λg h=>gO h λh i=>lQ 1 i #[(.map none)] 211 h λh i=>lW i #[.nilFunc] 212 λi j=>St 1 j (pt i) (.func (.func 155) #[] #[(pt h),(pt b),(pt d),(pt i)]) λd=>Ld d (pt i) λh=>aB 3 d (pt c) λc=>aM zQ a h #[c] d (λc d=>lX c λc h=>St 1 d (pt e) c λc=>St 1 c (pt g) h λc=>kJ zQ a 153 #[(pt b),(pt e),(pt g)] c λa=>Ld a (pt e) λb=>Ld a (pt g) λc=>rt f (tP b c) a) O6
def KH(h:L101 g a0 a1 a2 H R):sc g 101 #[a0,a1,a2] H R:=
 Bd (hn:=(zA (zA .e))) func101 h zK
def L102:Y3:=λ_ a b c d e=>lU a (λf=>(lV d b f)) λf=>lO (Value.bool f) (λb=>Un .not a λa=>dh a true (λa=>(lV d c a)) (λa=>vF=Value.bool a) λa=>∀_:Fr,
(lV d (Value.bool a) b)) λb=>rt e (Value.bool b) d
def KG:qD L102 102:=λh=>sd (zA (zB (zF 0 [] [1]))) func102 h
def L103:Y2:=λa b c d e=>jB (λf g=>Br f (rt e (tP (wi 0) vF) g) (oL (wi 1) c λf=>rt e (tP f vT) g)) λf=>lL c i0 λg=>Split g false (ah .γ .neq b (.pointer none) λg=>Split g true (CR e a 108 #[b] d λa b=>oG c a λa=>aG vT a vF λa=>aG vF vT a λa=>JE f [a] b) (aG vF undef vF λa=>aG vF vT a λa=>JE f [a] d)) (aG vT vT undef λa=>JE f [a] d)
def KF:qC L103 103:=λh=>sd (zA (zB (zF 1 [17] [1]))) func103 h
def L104:Y3:=λa b c d e f=>oP b λg=>Br g (rt f (iv 10) e) (CR f a 108 #[b] e λe g=>oR c e λc=>lN c (wi 0) λc=>Br c (rt f (iv 2) g) (aP d λc=>yA [i0] g λe g h i=>lL h c λc=>Br c (lI 1 d h i λc=>CR f a 152 #[b,c] i λa b=>lX a λa c=>lQ 3 b nC 144 a λ_ a=>lN c i0 λb=>Br b (rt f (iv 3) a) (lA h i1 λb=>aD e g [b] a [h] i)) (rt f i0 i)))
def KE:qD L104 104:=λh=>sd (hN 3 (zB (zA (zB (zF 0 [20] [0,18,19]))))) func104 h
def L105:Y3:=λ_ a b c d e=>lN c i0 λf=>Br f (rt e (tP (ui 0) c) d) (Un .not b λb=>Br b (rt e (tP (ui 0) (iv 8)) d) (rt e (tP a i0) d))
def ru:qD L105 105:=λh=>sd .e func105 h
def L106:Y4:=λa b c d e f g=>lK f c 78 λc f=>lK f d 3 λd f=>lK f e 4 λe f=>CR g a 159 #[b,(.func (.func 160) #[] #[(pt c),(pt d),(pt e)])] f λa b=>lX a λc d=>Ext 2 a λa=>rt g (.tuple #[c,d,a]) b
def KD:qE L106 106:=λh=>sd .e func106 h
def L107:Y4:=λa b c d e f g=>aq zQ 133 1 [(0,c)] f λf h=>CR g a 104 #[b,d,f] h λf h=>lN f i0 λi=>Br i (rt g (tP (ui 0) f) h) (lE d (wi 0) λf=>Br f (CR g a 84 #[b,c] h λf i=>lN f i0 λj=>Br j (rt g (tP (ui 0) f) i) (rt g (tP c i0) i)) (CR g a 108 #[b] h λf h=>∃(i:Jt) (j:Mt),JE i [c,vF,i0] h/\∀c h k:zV,∀l:Hp,i [c,h,k] l->∀_:Fr,
lL k f λf=>Br f (jC (λf m n=>lA k i1 λo=>aD i j [f,m,o] n [c,h,k] l) λf=>oR d k λd=>oA d (wi 1) λd=>lE d (wi 0) λd=>Br d (JE f [c,h] l) (CR g a 163 #[b,c,k,e] l λd e=>lX d λi j=>Ext 2 d λd=>CR g a 105 #[i,j,d] e λd e=>lX d λd i=>jA (λj=>lN i i0 λk=>Br k (rt g (tP (ui 0) i) j) (JE f [d,vT] j)) λd=>Br h (CR g a 85 #[b,c] e λ_ a=>JE d [] a) (JE d [] e))) (rt g (tP c i0) l)))
def KC:qE L107 107:=λh=>sd (hN 4 (zB (zA (zB (zE 0 [12,13,37] [0,2,3,36] (zA (zA (zE 1 [12,13] [0,2,3,36,37] (zB (hN 3 (zF 1 [] [0,2,3,15,16,36,37]))))))))))) func107 h
variable {g:Gh} {a0 a1 a2 a3 a4 a5 a6 a7 a8 a9 uB uA a12 a13 a14 a15:zV} {H:Hp} {R:Rt}
def L108:Y1:=λ_ a b c=>oP a λd=>Br d (rt c i0 b) (lM 4 a b λa=>rt c a b)
def KB:qB L108 108:=λh=>sd .e func108 h
def L109:Y2:=λ_ a b c d=>oP a λa=>Br a (rt d (iv 10) c) (lL b (iv 100) λa=>lO a (λa=>lG b (iv 1000) λb=>(lV c b a)) λa=>Br (Value.bool a) (rt d i1 c) (rt d i0 c))
def KA:qC L109 109:=λh=>sd (zA (zB (zB (zA (zA (zB (zF 0 [] [1]))))))) func109 h
def L110:Y1:=λa b c d=>oP b λe=>Br e (rt d sZ c) (CR d a 164 #[] c λc e=>CR d a 108 #[b] e λe f=>yA [i0] f λf g h i=>lL h e λe=>Br e (CR d a 165 #[b,h] i λb e=>lX b λb _=>Un .neg b λb=>CR d a 166 #[c,h,b] e λ_ b=>lA h i1 λe=>aD f g [e] b [h] i) (yA [sZ] i λb e f g=>CR d a 167 #[c] g λh i=>lG h i0 λh=>Br h (CR d a 168 #[c] i λa c=>lX a λh _=>Ext 2 a λ_=>aq zQ 43 1 [(0,h)] c λa c=>App zQ 3 1 8 i0 c f a λa c=>aD b e [a] c [f] g) (rt d f i)))
def Kz:qB L110 110:=λh=>sd (hN 3 (.n (zA (zB (zF 0 [16] [0,3,15]))) (zA (zB (zB (zF 0 [7] [3])))))) func110 h
def L111:Y3:=λa b c d e f=>lW e #[i0,i0,i0,vF] 97 λe g=>CR f a 109 #[b,d] g λg h=>lN g i0 λi=>Br i (Build zQ 97 [] λi=>St 4 h (pt e) i λi=>aB 4 i (pt e) λj=>rt f (tP j g) i) (CR f a 93 #[b,c] h λc g=>lX c λc h=>lN h i0 λi=>Br i (Build zQ 97 [] λi=>St 4 g (pt e) i λi=>aB 4 i (pt e) λj=>rt f (tP j h) i) (CR f a 83 #[b] g λg h=>Build zQ 97 [(0,g)] λg=>lQ 4 h #[i0,i0,i0,vF] 97 g λg h=>lD 0 (pt g) h λi=>Build zQ 228 [(0,b),(1,c),(2,i),(3,c),(4,d)] λd=>lK h d 228 λd h=>CR f a 108 #[b] h λh i=>lS h i1 λh=>lS h c λh=>oQ h c λh=>CR f a 169 #[(pt d),h] i λ_ i=>CR f a 170 #[(pt d)] i λ_ i=>CR f a 171 #[(pt d),c] i λ_ i=>lM 3 (pt d) i λj=>Un .not h λk=>CR f a 169 #[(pt d),k] i λ_ i=>CR f a 170 #[(pt d)] i λ_ i=>jA (λk=>DR k λl=>lM 5 (pt d) l λm=>∀n:Hp,
CN (a.add n) 83 #[b] k λb k=>aO k l/\
aj 1 (pt g) λn=>∀_:Hp,
St 1 k n b λb=>aO b l/\
aj 2 (pt g) λk=>∀_:Hp,
St 1 b k m λb=>aB 4 b (pt g) λg=>St 4 b (pt e) g λb=>aB 4 b (pt e) λe=>rt f (tP e i0) b) λb=>lM 3 (pt d) i λe=>lN e j λe=>Br e (lM 3 (pt d) i λe=>CR f a 171 #[(pt d),e] i λ_ e=>JE b [] e) (CR f a 171 #[(pt d),c] i λ_ c=>CR f a 169 #[(pt d),h] c λ_ c=>∃(e:Jt) (f:Mt),JE e [] c/\∀c:Hp,e [] c->∀_:Fr,
jB (λg h=>Br g (aD e f [] h [] c) (JE b [] h)) λb=>DR c λe=>lM 1 (pt d) e λf=>lM 3 (pt d) e λg=>lN f g λf=>Br f (lM 7 (pt d) e λd=>∀e:Hp,
aM zQ (a.add e) d #[] c (λa d=>lE a i0 λa=>aG vT a vF λa=>JE b [a] d) fU) (JE b [vF] c))))
def Ky:qD L111 111:=λh=>sd (hN 13 (.h 1 [] [0,6,11,12] (hN 4 (zB (zE 0 [] [0,6,11,12] (zB (zE 1 [102] [0,6,11,12] (zE 1 [] [] (hr 0 [1] 0 9 (.h 2 [9] [] (hr 0 [1] 10 7 .e) (hr 0 [1] 10 6 (zF 3 [16] [1])))))))))) (zB (zE 1 [] [] (zE 0 [0] [1] (hr 0 [1] 2 4 (zE 0 [1] [1] (hr 0 [1] 6 4 .e)))))))) func111 h
def L112:Y2:=λ_ a b c d=>oP a λa=>Br a (rt d (iv 10) c) (lL b (iv 2) λa=>lO a (λa=>lG b (iv 4) λb=>(lV c b a)) λa=>Br (Value.bool a) (rt d i1 c) (rt d i0 c))
def Kx:qC L112 112:=λh=>sd (zA (zB (zB (zA (zA (zB (zF 0 [] [1]))))))) func112 h
def L113:Y2:=λa b c d e=>lK d b 53 λb d=>DR d λf=>Ld f (pt b) λg=>Ld f (pt b) λh=>CN a 83 #[g] d λd g=>aO g f/\
CN a 83 #[h] g λg h=>aO h f/\
Build zQ 97 [(0,d),(1,g)] λd=>Build zQ 170 [(1,d)] λd=>lK h d 170 λd g=>aO g f/\
CR e a 172 #[c] g λa c=>lX a λa _=>lQ 1 c #[sZ] 43 a λa c=>lC 0 (pt d) λf=>St 1 c f (.func (.func 173) #[] #[(pt b),(pt a)]) λa=>rt e (pt d) a
def Kw:qC L113 113:=λh=>sd (zA (zB (zF 0 [0,2,1,3,4,5,6,7] []))) func113 h
def L114:Y3:=λa b c d e f=>yA [i0] e λe g h i=>lA h d λd=>CR f a 108 #[c] i λj k=>oQ d j λd=>Br d (CR f a 177 #[b,c,h] k λ_ a=>lA h i1 λb=>aD e g [b] a [h] i) (rt f (.tuple #[]) k)
def Kv:qD L114 114:=λh=>sd (zA (zB (zF 0 [6] [0,1,2]))) func114 h
def L115:Y1:=λ_ a b c=>oP a λd=>Br d (rt c sZ b) (lC 0 a λa=>aj 3 a λa=>Ld b a λa=>aP a λd=>yB [sZ,i0] b λb e f g h=>lL g d λd=>Br d (jB (λd i=>lA g i1 λj=>aD b e [d,j] i [f,g] h) λb=>lI 1 a g h λa=>lG a (Value.int .i32 0) λa=>Br a (bu .u32 g λa=>aq zQ 133 1 [(0,a)] h λa d=>App zQ 78 1 4 (ui 0) d f a λa d=>JE b [a] d) (JE b [f] h)) (rt c f h))
def Ku:qB L115 115:=λh=>sd (hN 3 (zB (zA (zB (zE 0 [3,14] [12,13] (zA (zA (zF 1 [3] [12,13,14])))))))) func115 h
def L116:Y2:=λa b c d e=>lW d #[i0,sZ] 175 λd f=>aq zQ 133 1 [(0,c)] f λf g=>CR e a 123 #[b,f] g λf g=>lN f i0 λh=>Br h (Build zQ 175 [] λh=>St 2 g (pt d) h λh=>aB 2 h (pt d) λi=>rt e (tP i f) h) (CR e a 108 #[b] g λf g=>lQ 1 g #[i0] 3 f λf g=>Ld g (pt f) λh=>lG h (iv 16) λh=>Br h (Build zQ 175 [] λh=>St 2 g (pt d) h λh=>aB 2 h (pt d) λi=>rt e (tP i (iv 6)) h) (Ld g (pt f) λh=>CR e a 178 #[h,vF] g λg h=>lX g λg _=>lQ 2 h #[i0,sZ] 175 g λg h=>Ld h (pt f) λi=>CR e a 178 #[i,vT] h λh i=>lX h λh _=>lQ 2 i #[i0,sZ] 175 h λh i=>aB 2 i (pt g) λg=>aB 2 i (pt h) λh=>CR e a 179 #[b,c,g,h,(.func (.func 180) #[] #[(pt f)])] i λa b=>St 2 b (pt d) a λa=>aB 2 a (pt d) λb=>rt e (tP b i0) a))
def Kt:qC L116 116:=λh=>sd .e func116 h
def L117:Y1:=λa b c d=>CR d a 183 #[b] c λb c=>lX b λb e=>lN e i0 λf=>Br f (rt d (.tuple #[i0,sZ,e]) c) (lM 1 b c λe=>lG e (iv 12) λe=>Br e (rt d (.tuple #[i0,sZ,(iv 6)]) c) (yB [sZ,i0] c λc e f g h=>aP f λi=>lM 1 b h λj=>lL i j λi=>Br i (lM 1 b h λi=>∃(j:Jt) (k:Mt),JE j [f,g,i0] h/\∀l m n:zV,∀o:Hp,j [l,m,n] o->∀_:Fr,
lL n i λi=>Br i (jB (λi p=>Br i (aq zQ 43 1 [(0,n)] p λi q=>App zQ 3 1 8 i0 q l i λi q=>oL i1 n λr=>oO m r λr=>aD c e [i,r] q [f,g] h) (lA n i1 λi=>aD j k [l,m,i] p [l,m,n] o)) λi=>DR o λ_=>oR m n λj=>oA j i1 λj=>lE j i0 λj=>Br j (oL i1 n λj=>oO m j λj=>∀k:Hp,
CN (a.add k) 184 #[b,m,n] o λk n=>∀p:Hp,
CN (a.add p) 185 #[b,j] n λj n=>lA k j λj=>∀k:Hp,
CN (a.add k) 185 #[b,m] n λk n=>lE j k λj=>aG vT j vF λj=>JE i [j] n) (JE i [vF] o)) (aD c e [l,m] o [f,g] h)) (CR d a 185 #[b,i0] h λa b=>rt d (.tuple #[a,f,i0]) b)))
def Ks:qB L117 117:=λh=>sd (hN 6 (zB (zB (zE 0 [7,8] [5] (zA (zB (zA (zB (zE 0 [7,8,34] [5,33] (zA (zA (zB (zB (zA (zE 1 [58] [5,7,8,9,33,34] (zE 1 [] [] (hr 0 [] 0 5 (.h 2 [5] [] (hr 0 [] 6 3 (hr 0 [] 10 5 (hr 0 [] 17 2 (zE 0 [9] [] (hr 0 [] 15 2 (hr 0 [] 19 3 .e)))))) (hr 0 [] 6 15 (zF 3 [21] [])))))))))))))))))))) func117 h
def L118:Y2:=λa b c d e=>oP b λf=>Br f (rt e (tP i0 (iv 10)) d) (jB (λf g=>Br f (rt e (tP i0 (iv 4)) g) (CR e a 27 #[b] g λf g=>CR e a 187 #[f,c] g λf g=>lX f λf h=>lN h i0 λi=>Br i (rt e (tP i0 h) g) (CR e a 188 #[b,f] g λf g=>lX f λf h=>rt e (tP f h) g))) λf=>CR e a 186 #[c] d λd g=>lN d i0 λd=>Split d false (aP c λc=>CR e a 108 #[b] g λa b=>lN c a λa=>aG vF vT a λa=>JE f [a] b) (aG vT vT undef λa=>JE f [a] g))
def Kr:qC L118 118:=λh=>sd (zA (zA (zB (zF 1 [19] [0,1])))) func118 h
def L119:Y1:=λ_ a b c=>oP a λd=>Br d (rt c i0 b) (lM 3 a b λa=>rt c a b)
def Kq:qB L119 119:=λh=>sd .e func119 h
def L120:Y2:=λa b c d e=>lM 0 b d λb=>CR e a 189 #[b,c] d λa b=>lX a λa c=>lQ 3 b nC 144 a λ_ a=>lE c i0 λb=>rt e b a
def Kp:qC L120 120:=λh=>sd .e func120 h
def L121:Y2:=λ_ a b c d=>oP a λe=>lO e (λe=>bu .i64 b λf=>lC 0 a λg=>aj 3 g λg=>Ld c g λg=>aP g λg=>oG f g λf=>(lV c f e)) λe=>Br (Value.bool e) (rt d i0 c) (lC 0 a λa=>aj 3 a λa=>Ld c a λa=>lI 1 a b c λa=>bu .i64 a λa=>rt d a c)
def Ko:qC L121 121:=λh=>sd (zA (zB (zB (zF 0 [] [1])))) func121 h
def L122:Y2:=λa b c d e=>aq zQ 133 1 [(0,c)] d λc d=>yA [c] d λc d f g=>aP f λh=>lG h i0 λh=>Br h (aP f λh=>lS h i1 λh=>lI 1 f h g λi=>gD 1 f none (some h) λh=>oQ i (ui 1) λj=>Br j (aD c d [h] g [f] g) (lM 2 b g λj=>lI 1 j i g λk=>lS k (Value.int .i32 1) λk=>ay 1 j i λj=>St 1 g j k λj=>lM 2 b j λk=>lI 1 k i j λk=>lG k (Value.int .i32 0) λk=>Br k (aD c d [h] j [f] g) (CR e a 190 #[b,i] j λj k=>lQ 3 k nC 144 j λj k=>DR k λl=>lM 1 b l λm=>aB 3 l (pt j) λl=>CN a 191 #[m,l] k λ_ k=>lM 0 b k λb=>CR e a 192 #[b,i] k λ_ a=>lD 1 (pt j) a λb=>lD 2 (pt j) a λi=>aq zQ 133 2 [(0,b),(1,i)] a λa b=>App zQ 78 1 4 (ui 0) b h a λa b=>aD c d [a] b [f] g))) (rt e (.tuple #[]) g)
def Km:qC L122 122:=λh=>sd (zA (zB (zE 0 [4] [0] (zA (zB (hN 6 (zB (zF 0 (yR 6) [])))))))) func122 h
def L123:Y2:=λa b c d e=>oP b λf=>Br f (rt e (iv 10) d) (aP c λf=>yA [i0] d λd g h i=>lL h f λf=>Br f (lI 1 c h i λc=>CR e a 152 #[b,c] i λa b=>lX a λa c=>lQ 3 b nC 144 a λ_ a=>lN c i0 λb=>Br b (rt e c a) (lA h i1 λb=>aD d g [b] a [h] i)) (rt e i0 i))
def Kl:qC L123 123:=λh=>sd (zA (zA (zB (zA (zB (zF 0 [13] [0,11,12])))))) func123 h
def L124:Y1:=λ_ a b c=>lE a (ui 0) λd=>lO d (λd=>lE a (ui 1) λa=>(lV b a d)) λd=>rt c (Value.bool d) b
def Kk:qB L124 124:=λh=>sd (zA (zB (zF 0 [] [1]))) func124 h
def L125:Y2:=λa b c d e=>lW d nC 144 λd f=>CR e a 152 #[b,c] f λa b=>lX a λa _=>lQ 3 b nC 144 a λa b=>aB 3 b (pt a) λa=>St 3 b (pt d) a λa=>aB 3 a (pt d) λb=>rt e b a
def Kj:qC L125 125:=λh=>sd .e func125 h
def L126:Y2:=λa b c d e=>CR e a 124 #[b] d λd f=>Br d (Ld f c λd=>CR e a 108 #[d] f λd g=>rt e d g) (DR f λd=>Ld d c λg=>Ld d c λc=>∀h:Hp,
CN (a.add h) 125 #[c,b] f λb c=>aO c d/\
CY 0 b λb=>∀f:Hp,
CN (a.add f) 93 #[g,b] c λa b=>aO b d/\
lX a λa _=>rt e a b)
def Kh:qC L126 126:=λh=>sd (zA (zA (zB (zE 1 [] [] (hr 0 [1] 0 11 .e))))) func126 h
def L127:Y5:=λa b c d e f g h=>lK g b 53 λb g=>lK g f 187 λf g=>gO g λg i=>aY (.int .u32) i g (ui 0) d λd=>aY (.int .u32) d g (ui 1) e λd=>lQ 1 d #[(.map none)] 254 g λd e=>lW e #[.nilFunc] 255 λe g=>St 1 g (pt e) (.func (.func 193) #[] #[(pt d),(pt b),(pt f),(pt e)]) λb=>Ld b (pt e) λd=>aM zQ a d #[c] b (λa b=>rt h a b) (dy h)
def Kg:qF L127 127:=λh=>sd .e func127 h
def L128:Y5:=λa b c d e f g h=>lK g b 144 λb g=>Ld g e λe=>lD 0 (pt b) g λi=>CR h a 93 #[e,i] g λe g=>lX e λe _=>DR g λi=>Ld i f λj=>lD 1 (pt b) i λk=>Ld i f λf=>lD 2 (pt b) i λb=>∀l:Hp,
aM zQ (a.add l) j #[k] g (λg j=>aO j i/\
lS g e λg=>lS g i1 λg=>oL c g λc=>∀g:Hp,
aM zQ (a.add g) f #[b] j (λa b=>lS a e λa=>lS a i1 λa=>oL d a λa=>lA c a λa=>rt h a b) fU) fU
def Kf:qF L128 128:=λh=>sd (zA (zA (zB (zE 1 [] [] (hr 0 [1] 0 4 (zE 0 [5] [1] (hr 0 [1] 9 4 (zE 0 [14] [1] (zE 0 [4] [1] (hr 0 [1] 6 3 (zE 0 [13] [1] (hr 0 [1] 15 5 .e)))))))))))) func128 h
def L129:Y3:=λa b c d e f=>lK e b 53 λb e=>lK e d 189 λd e=>gO e λe g=>lQ 1 g #[(.map none)] 256 e λe g=>lW g #[.nilFunc] 183 λg h=>St 1 h (pt g) (.func (.func 194) #[] #[(pt e),(pt b),(pt d),(pt g)]) λb=>aP c λd=>yA [i0] b λb e h i=>lL h d λd=>Br d (lI 1 c h i λc=>Ld i (pt g) λd=>aM zQ a d #[c] i (λ_ a=>lA h i1 λc=>aD b e [c] a [h] i) (dy f)) (rt f (.tuple #[]) i)
def Ke:qD L129 129:=λh=>sd (hN 5 (zB (zF 0 [14] [7,12,13]))) func129 h
def L130:Y2:=λ_ a b c d=>lK c a 144 λ_ a=>Ld a b λc=>lA c i1 λc=>St 1 a b c λa=>rt d (.tuple #[]) a
def Kb:qC L130 130:=λh=>sd .e func130 h
def L131:Y3:=λa b c d e f=>CR f a 195 #[b,c] e λe g=>lN e i0 λh=>Br h (rt f (tP (wi 0) e) g) (CR f a 196 #[b,c] g λb c=>CR f a 197 #[b] c λc e=>CR f a 198 #[c,d] e λc e=>Un .not c λc=>Br c (rt f (tP (wi 0) (iv 10)) e) (lM 0 b e λc=>lS c i1 λc=>yB [d,c] e λc d e g h=>oG g i0 λi=>Br i (jB (λi j=>lS g i1 λk=>aD c d [i,k] j [e,g] h) λc=>CR f a 199 #[b,g,(wi 0)] h λ_ d=>CR f a 197 #[b] d λd i=>lQ 2 i #[(wi 0),vF] 261 d λd i=>aB 2 i (pt d) λj=>CR f a 198 #[j,e] i λi j=>Un .not i λi=>Br i (lD 0 (pt d) j λd=>lS e d λd=>CR f a 199 #[b,g,(wi 1)] j λ_ a=>JE c [d] a) (JE c [e] j)) (lM 5 b h λa=>rt f (tP a i0) h)))
def yd:qD L131 131:=λh=>sd (hN 4 (zB (zA (zB (zE 0 [2,10] [9] (zA (zF 1 [2] [9,10]))))))) func131 h
def L132:Y2:=λ_ a b c d=>lK c a 144 λa c=>DR c λe=>Ld e b λf=>lD 0 (pt a) e λa=>oL (wi 1) a λa=>oO f a λa=>∀_:Hp,
St 1 c b a λa=>rt d (.tuple #[]) a
def Ka:qC L132 132:=λh=>sd (zA (zE 1 [] [] (hr 0 [1] 0 6 .e))) func132 h
def L133:Y2:=λ_ a b c d=>oG b i0 λe=>lU e (λe=>lM 4 a c λa=>lL b a λa=>(lV c a e)) λe=>rt d (Value.bool e) c
def J4:qC L133 133:=λh=>sd (zA (zB (zF 0 [] [1]))) func133 h
def L134:Y2:=λa b c d e=>lM 5 b d λf=>lI 1 f c d λf=>lM 5 b d λg=>lA c i1 λh=>lI 1 g h d λg=>CR e a 200 #[b,f,g] d λd h=>DR h λ_=>lC 0 b λi=>CN a 201 #[b,f,d] h λh j=>CN a 148 #[i,h] j λh i=>Un .not h λh=>Br h (rt e vF i) (aP d λh=>yA [i0] i λi j k l=>lL k h λh=>Br h (ay 8 d k λh=>aB 8 l h λh=>lQ 8 l #[(ui 0),i0,(ui 0),(ui 0),(ui 0),(ui 0),(ui 0),(ui 0)] 272 h λh m=>DR m λn=>lC 0 b λo=>aj 1 o λo=>Ld n o λo=>aj 1 (pt h) λh=>aB 3 n h λh=>CN a 191 #[o,h] m λ_ h=>lA k i1 λm=>aD i j [m] h [k] l) (aP d λh=>yA [i0] l λi j k l=>lL k h λh=>Br h (ay 8 d k λh=>aB 8 l h λh=>lQ 8 l #[(ui 0),i0,(ui 0),(ui 0),(ui 0),(ui 0),(ui 0),(ui 0)] 272 h λh m=>DR m λn=>lC 0 b λo=>lD 4 (pt h) n λp=>lD 6 (pt h) n λn=>CN a 202 #[o,f,p,n] m λm n=>lC 0 b λo=>CR e a 203 #[o,m] n λ_ n=>DR n λo=>lC 0 b λp=>lD 5 (pt h) o λq=>lD 7 (pt h) o λo=>CN a 202 #[p,f,q,o] n λn o=>lC 0 b λp=>CR e a 203 #[p,n] o λ_ o=>Build zQ 144 [(0,g),(1,m),(2,n)] λm=>lQ 3 o nC 144 m λm n=>DR n λo=>lC 0 b λp=>aj 0 p λp=>Ld o p λp=>lD 0 (pt h) o λq=>aB 3 o (pt m) λo=>CN a 204 #[p,q,o] n λ_ n=>DR n λo=>lC 0 b λp=>aj 1 p λp=>Ld o p λp=>aB 3 o (pt m) λm=>lD 0 (pt h) o λh=>CN a 205 #[p,m,h] n λ_ h=>lA k i1 λm=>aD i j [m] h [k] l) (aP d λh=>yA [i0] l λi j k l=>lL k h λh=>Br h (ay 8 d k λd=>aB 8 l d λd=>lQ 8 l #[(ui 0),i0,(ui 0),(ui 0),(ui 0),(ui 0),(ui 0),(ui 0)] 272 d λd h=>DR h λm=>lC 0 b λn=>aj 1 (pt d) λo=>aj 1 o λo=>Ld m o λm=>CN a 122 #[n,m] h λ_ h=>DR h λm=>lC 0 b λn=>aj 1 (pt d) λd=>aj 2 d λd=>Ld m d λd=>CN a 122 #[n,d] h λ_ a=>lA k i1 λd=>aD i j [d] a [k] l) (DR l λa=>lM 5 b a λd=>lM 5 b a λa=>lA c i1 λh=>ay 1 d c λd=>St 1 l d g λd=>ay 1 a h λa=>St 1 d a f λa=>DR a λd=>lM 6 b d λh=>lM 6 b d λb=>lA c i1 λd=>ay 1 h f λf=>St 1 a f d λa=>ay 1 b g λb=>St 1 a b c λa=>rt e vT a))))
def J0:qC L134 134:=λh=>sd (hN 3 (.n (zB (zF 0 (yR 9) [])) (.n (zA (zB (zE 0 [47] [0,1,5,6,7,45,46] (zA (zA (zB (zB (zA (zF 0 (yR 8) []))))))))) (.n (zA (zB (zE 0 [62] [0,1,5,6,7,60,61] (zA (zA (zB (zB (zA (.n (zF 0 (yR 10) []) (zA (.n (zF 0 (yR 10) []) (zA (zA (.n (zF 0 (yR 9) []) (zF 0 (yR 9) []))))))))))))))) (.n (zA (zB (zE 0 [119] [0,1,5,6,117,118] (zA (zA (zB (zB (zA (.n (zF 0 (yR 7) []) (zF 0 (yR 7) [])))))))))) (.n (zF 0 (yR 17) []) (zB (zF 0 (yR 17) [])))))))) func134 h
def L145:Y1:=λ_ a b c=>jC (λd e f=>jC (λg h i=>jC (λj k l=>bu .u8 j λj=>ZC (.string  zX) j λj=>bu .i64 j λj=>lA k j λj=>rt c j l) λc=>oG g (wi 256) λj=>Br j (oR g (wi 8) λj=>lA h (iv 8) λk=>JE c [j,k] i) (JE c [g,h] i)) λc=>oG d (wi 65536) λg=>Br g (oR d (wi 16) λg=>lA e (iv 16) λh=>JE c [g,h] f) (JE c [d,e] f)) λc=>oG a (wi 4294967296) λd=>Br d (oR a (wi 32) λd=>JE c [d,(iv 32)] b) (JE c [a,i0] b)
def JZ:qB L145 145:=λh=>sd (zA (.h 1 [0,2] [] .e (.h 1 [0,2] [] .e (zF 1 [0,2] [])))) func145 h
def L146:Y4:=λa b c d e f g=>CR g a 133 #[b,c] f λf h=>Un .not f λf=>Br f (rt g (iv 2) h) (jB (λf i=>Br f (rt g (iv 3) i) (jB (λf j=>Br f (rt g (iv 4) j) (rt g i0 j)) λf=>DR i λj=>lN d e λk=>Br k (lM 6 b j λk=>lI 1 k c j λc=>∀k:Hp,
CN (a.add k) 212 #[b,d] i λk l=>aO l j/\
∀m:Hp,
CN (a.add m) 212 #[b,e] l λl m=>aO m j/\
abN k l λj=>oG c j λc=>aG vT c vF λc=>JE f [c] m) (JE f [vF] i))) λc=>lC 0 b λf=>CR g a 120 #[f,d] h λd f=>Un .not d λd=>Split d false (lC 0 b λb=>CR g a 120 #[b,e] f λa b=>Un .not a λa=>aG vF vT a λa=>JE c [a] b) (aG vT vT undef λa=>JE c [a] f))
def JY:qE L146 146:=λh=>sd (zA (zB (zB (zA (zA (.h 1 [14] [0,1,2,3] .e (zA (zE 1 [29] [] (zE 1 [] [] (hr 0 [] 0 3 (.h 2 [3] [] (hr 0 [] 4 9 (hr 0 [] 14 2 (zE 0 [13] [] (hr 0 [] 16 5 .e)))) (hr 0 [] 4 15 (hr 3 [] 19 2 .e))))))))))))) func146 h
def L147:Y4:=λa b c d e f g=>lE d e λh=>Br h (rt g (tP d vT) f) (lC 0 b λb=>aj 1 b λb=>Ld f b λb=>Build zQ 144 [(0,c),(1,d),(2,e)] λc=>CR g a 213 #[b,c] f λa b=>lX a λa c=>rt g (tP a c) b)
def JX:qE L147 147:=λh=>sd .e func147 h
def L148:Y2:=λa b c d e=>DR d λf=>lM 0 b f λg=>lM 0 b f λb=>CN a 119 #[g] d λd g=>aO g f/\
lA d c λc=>CN a 214 #[b] g λa b=>aO b f/\
oQ c a λa=>rt e a b
def JW:qC L148 148:=λh=>sd (zA (zB (zF 0 [0,1,2,3,5,7,8,9,10,4,6,11,12,13] []))) func148 h
variable {g:Gh} {a0 a1 a2 a3 a4 a5 a6 a7 a8 a9 uB uA a12 a13 a14 a15:zV} {H:Hp} {R:Rt}
def L149:Y2:=λa b c d e=>lK d c 144 λc d=>DR d λf=>lM 0 b f λg=>aB 3 f (pt c) λh=>CN a 215 #[g,h] d λd g=>aO g f/\
lX d λd _=>∃(f:Jt) (h:Mt),JE f [] g/\∀g:Hp,f [] g->∀_:Fr,
bu .i64 d λi=>lM 2 b g λj=>aP j λj=>oG i j λi=>Br i (lM 2 b g λi=>aq zQ 85 1 [(0,(Value.int .i32 0))] g λj k=>App zQ 21 1 4 (Value.int .i32 0) k i j λi j=>lC 2 b λk=>St 1 j k i λi=>lM 3 b i λj=>aq zQ 85 1 [(0,(Value.int .i32 0))] i λi k=>App zQ 21 1 4 (Value.int .i32 0) k j i λi j=>lC 3 b λk=>St 1 j k i λi=>aD f h [] i [] g) (DR g λf=>lM 2 b f λh=>lM 3 b f λf=>ay 1 h d λh=>St 1 g h (Value.int .i32 0) λg=>ay 1 f d λf=>St 1 g f (Value.int .i32 0) λf=>lD 1 (pt c) f λg=>CR e a 203 #[b,g] f λ_ f=>lD 2 (pt c) f λg=>CR e a 203 #[b,g] f λ_ f=>DR f λg=>lM 1 b g λb=>aB 3 g (pt c) λc=>CN a 205 #[b,c,d] f λ_ a=>rt e d a)
def JV:qC L149 149:=λh=>sd (zA (.n (zF 0 (yR 11) []) (.n (zB (zF 0 [] [0,3,5])) (.n (zF 0 (yR 14) []) (zA (zA (zB (zF 0 (yR 7) [])))))))) func149 h
def L150:Y4:=λa b c _ d e f=>DR e λg=>Ld g d λd=>CN a 151 #[b] e λb e=>aO e g/\
oM (bi 2) b λb=>CN a 151 #[c] e λa c=>aO c g/\
lA b a λa=>oR d a λa=>oA a (bi 1) λa=>lE a (bi 1) λa=>rt f a c
def JU:qE L150 150:=λh=>sd (zA (zB (zF 0 [0,1,4,2,3,5,6,7,8,9,10] []))) func150 h
def L151:Y1:=λ_ a b c=>Br a (rt c (bi 1) b) (rt c (bi 0) b)
def JT:qB L151 151:=λh=>sd .e func151 h
def L152:Y2:=λa b c d e=>lW d nC 144 λd f=>oP b λg=>Br g (Build zQ 144 [] λg=>St 3 f (pt d) g λg=>aB 3 g (pt d) λh=>rt e (tP h (iv 10)) g) (lC 0 b λg=>CR e a 120 #[g,c] f λf g=>Un .not f λf=>Br f (Build zQ 144 [] λf=>St 3 g (pt d) f λf=>aB 3 f (pt d) λh=>rt e (tP h (iv 3)) f) (lC 0 b λb=>CR e a 190 #[b,c] g λa b=>St 3 b (pt d) a λa=>aB 3 a (pt d) λb=>rt e (tP b i0) a))
def JS:qC L152 152:=λh=>sd .e func152 h
def L153:Y3:=λa b c d e f=>Ld e b λb=>Ld e c λg=>Ld e d λh=>CR f a 154 #[b,g,h] e λa b=>lX a λa e=>St 1 b c a λa=>St 1 a d e λa=>rt f (.tuple #[]) a
def Fg(h:L153 g a0 a1 a2 H R):lf zQ g 153 #[a0,a1,a2] H R:=
 Be (hn:=.e) func153 h zK
def L154:Y3:=λa b c d e f=>lE c (ui 0) λg=>lO g (λg=>lE c (ui 1) λh=>(lV e h g)) λg=>lM 2 b e λh=>aP h λi=>yB [(Value.bool g),i0] e λe g j k l=>lL k i λi=>Br i (jB (λi m=>lA k i1 λn=>aD e g [i,n] m [j,k] l) λe=>lI 1 h k l λg=>lE g c λh=>lU h (λh=>Un .not j λi=>(lV l i h)) λh=>lU (Value.bool h) (λh=>lE d i0 λi=>(lV l i h)) λh=>Br (Value.bool h) (JE e [vT] l) (lM 0 b l λh=>CR f a 85 #[h,g] l λ_ g=>JE e [j] g)) (lC 2 b λe=>St 1 l e sZ λe=>jA (λg=>rt f (tP c i0) g) λg=>lN d i0 λh=>Br h (rt f (tP (ui 0) d) e) (Un .not j λd=>Br d (rt f (tP (ui 0) (iv 8)) e) (lE c (ui 0) λd=>lO d (λd=>lE c (ui 1) λh=>(lV e h d)) λd=>Br (Value.bool d) (lM 0 b e λb=>CR f a 84 #[b,c] e λ_ a=>JE g [] a) (JE g [] e))))
def JR:qD L154 154:=λh=>sd (zA (.n (zF 0 [] [1]) (.n (zA (zB (zE 0 [8,22] [0,1,2,20,21] (zA (zA (zE 1 [8] [0,1,2,20,21,22] (zB (zA (zB (zB (zF 0 [] [1]))))))))))) (zA (zE 1 [] [1] (zB (hN 4 (zB (zF 0 [] [1]))))))))) func154 h
def L155:Y5:=λa b c d e f g h=>lK g b 154 λb g=>Ld g c λi=>aB 3 g (pt b) λj=>kG zQ 154 (ui 0) true g i j λi=>lX i λi j=>Br j (rt h (tP i i0) g) (Ld g d λi=>aB 3 g (pt b) λj=>CR h a 156 #[i,j] g λg i=>Ld i d λj=>CR h a 157 #[j,g] i λi j=>lL i i0 λk=>Br k (Ld j e λe=>jl 3 1 (pt b) i0 λk=>Ld j k λk=>lE k (ui 1) λk=>jl 3 1 (pt b) i1 λl=>Ld j l λl=>lE l (ui 1) λl=>jl 3 1 (pt b) (iv 2) λm=>Ld j m λm=>lE m (ui 1) λm=>aM zQ a e #[k,l,m] j (λe k=>Br e (rt h (tP (ui 1) i0) k) (rt h (tP (ui 0) i0) k)) (dy h)) (DR j λe=>aB 3 e (pt b) λk=>aB 3 e (pt b) λl=>lW j #[(ui 0),(ui 0),(ui 0)] 154 λj m=>lW m #[(ui 0),(ui 0),(ui 0)] 154 λm n=>∀_:Hp,
St 3 n (pt j) k λk=>aO k e/\
∀_:Hp,
St 3 k (pt m) l λe=>aP g λk=>yA [i0] e λe l n o=>lL n k λk=>Br k (jA (λk=>lA n i1 λp=>aD e l [p] k [n] o) λe=>ay 3 g n λg=>aB 3 o g λg=>lQ 3 o nC 144 g λg k=>lD 0 (pt g) k λl=>lE l i λl=>Br l (DR k λl=>lD 1 (pt g) l λp=>lD 2 (pt g) l λg=>jl 3 1 (pt j) n λq=>St 1 k q p λp=>aO p l/\
jl 3 1 (pt m) n λl=>St 1 p l g λg=>JE e [] g) (JE e [] k)) (Ld o f λe=>aB 3 o (pt j) λg=>aM zQ a e #[g] o (λe g=>lX e λe j=>lN j i0 λk=>Br k (rt h (tP (ui 0) j) g) (Ld g f λf=>aB 3 g (pt m) λj=>aM zQ a f #[j] g (λf g=>lX f λf j=>lN j i0 λk=>Br k (rt h (tP (ui 0) j) g) (Ld g d λd=>CR h a 158 #[d,i,e,f] g λa d=>lX a λa e=>jA (λf=>rt h (tP a e) f) λf=>lE e i0 λe=>Br e (Ld d c λc=>aB 3 d (pt b) λb=>iV zQ 154 d c b a λa=>JE f [] a) (JE f [] d))) (dy h))) (dy h))))
def yc:qF L155 155:=λh=>sd (hN 5 (.n (zE 1 [] [] (hr 0 [] 0 2 (hr 1 [] 2 2 (hr 0 [] 2 4 .e)))) (.n (zA (zB (zE 0 [51] [1,2,4,5,11,12,13,49,50] (zA (zA (zE 1 [] [1,2,4,5,11,12,13,49,50,51] (zB (zA (zA (zB (zF 0 (yR 10) []))))))))))) (hN 5 (zF 1 [] [17,19]))))) func155 h
def L156:Y2:=λa b c d e=>lK d c 154 λc d=>aB 3 d (pt c) λc=>yB [sZ,i0] d λd f g h i=>lL h (iv 3) λj=>Br j (iQ zQ a (eZ Tryz.f156 4 0) (ev (λj=>cond (Nat.beq j 10) c (cond (Nat.beq j 11) h (undef)))) i λc=>lM 0 b i λb=>CR e a 152 #[b,c] i λa b=>lX a λa _=>lQ 3 b nC 144 a λa b=>aB 3 b (pt a) λa=>aq zQ 213 1 [(0,a)] b λa b=>App zQ 144 3 16 (.agg nC) b g a λa b=>lA h i1 λc=>aD d f [a,c] b [g,h] i) (rt e g i)
def JQ:qC L156 156:=λh=>sd (zA (zA (zB (zA (zB (zF 0 [5,11] [0,10])))))) func156 h
def L157:Y2:=λ_ a b c d=>aP b λe=>yB [(iv (-1)),i0] c λc f g h i=>lL h e λe=>Br e (jB (λe j=>lA h i1 λk=>aD c f [e,k] j [g,h] i) λc=>ay 3 b h λb=>aB 3 i b λb=>lQ 3 i nC 144 b λb e=>lD 0 (pt b) e λf=>oG f i0 λf=>lU f (λf=>lL g i0 λh=>dh h false (λh=>lM 1 a e λj=>lD 0 (pt b) e λk=>lI 1 j k e λj=>lM 1 a e λa=>lI 1 a g e λa=>lL j a λa=>(lV e a h)) (λh=>vT=Value.bool h) λh=>∀_:Fr,
(lV e (Value.bool h) f)) λf=>Br (Value.bool f) (lD 0 (pt b) e λa=>JE c [a] e) (JE c [g] e)) (rt d g i)
def JP:qC L157 157:=λh=>sd (zA (zA (zB (zA (zB (zE 0 [5,10] [0,8,9] (zA (zA (zF 1 [5] [0,8,9,10]))))))))) func157 h
def L158:Y4:=λa b c d e f g=>lE d e λh=>Br h (rt g (tP d i0) f) (lM 0 b f λh=>CR g a 98 #[h,c,d,e] f λf h=>lX f λf i=>jA (λj=>rt g (tP (ui 0) i) j) λj=>lE i i0 λk=>Br k (lM 2 b h λk=>aq zQ 133 1 [(0,f)] h λl m=>App zQ 78 1 4 (ui 0) m k l λk l=>lC 2 b λm=>St 1 l m k λk=>rt g (tP f i0) k) (lE i (iv 8) λf=>Br f (lM 0 b h λb=>CR g a 216 #[b,c,d,e] h λa b=>lX a λa c=>Br c (rt g (tP a i0) b) (JE j [] b)) (JE j [] h)))
def yb:qE L158 158:=λh=>sd (hN 3 (zF 1 [] [11])) func158 h
def L159:Y2:=λa b c d e=>lK d b 53 λb d=>Ld d (pt b) λf=>gO d λd g=>Build zQ 285 [(0,f),(1,d)] λd=>lK g d 285 λd f=>lQ 1 f #[(.pointer none)] 217 (pt d) λd f=>Ld f (pt b) λg=>CF a 84 #[g,(ui 1)] f (λ_ f=>Ld f (pt d) λg=>aM zQ a c #[g] f (λc f=>Ld f (pt d) λg=>lM 2 g f λg=>lN g i0 λg=>Br g (Ld f (pt d) λg=>lM 2 g f λg=>kJ zQ a 217 #[(pt d),(pt b)] f λh=>rt e (.tuple #[(ui 0),vF,g]) h) (Ld f (pt d) λg=>lM 1 g f λg=>dg (.int .u32) i0 false f g c λg=>lG g i0 λg=>Br g (Ld f (pt d) λg=>lM 1 g f λg=>po (.int .u32) f g c λg=>kJ zQ a 217 #[(pt d),(pt b)] g λg=>rt e (.tuple #[c,vT,i0]) g) (Ld f (pt b) λg=>CF a 84 #[g,c] f (λf g=>lE f i0 λf=>kJ zQ a 217 #[(pt d),(pt b)] g λa=>rt e (.tuple #[c,f,i0]) a) O6))) O6) O6
def JO(h:L159 g a0 a1 H R):sc g 159 #[a0,a1] H R:=
 Bd (hn:=(hN 4 .e)) func159 h zK
def L160:Y4:=λa b c d e f g=>Ld f c λc=>Ld f d λd=>CR g a 161 #[b,c,d,(.func (.func 162) #[] #[e])] f λa b=>rt g a b
def JN:qE L160 160:=λh=>sd .e func160 h
def L161:Y4:=λa b c d e f g=>lK f b 217 λb f=>lK f e 204 λe f=>Ld f (pt b) λh=>lM 0 h f λh=>CR g a 93 #[h,d] f λd f=>lX d λd _=>lQ 1 f #[i0] 3 d λd f=>gO f λf h=>lQ 1 h #[(.map none)] 286 f λf h=>lW h #[.nilFunc] 287 λh i=>St 1 i (pt h) (.func (.func 218) #[] #[(pt b),(pt d),(pt f),(pt e),(pt h)]) λb=>Ld b (pt h) λd=>aM zQ a d #[c] b (λa b=>rt g a b) (dy g)
def JM:qE L161 161:=λh=>sd .e func161 h
def L162:Y2:=λ_ a b c d=>lK c a 144 λa c=>Ld c b λb=>Br b (lD 2 (pt a) c λb=>rt d b c) (lD 1 (pt a) c λa=>rt d a c)
def JL:qC L162 162:=λh=>sd .e func162 h
def L163:Y4:=λa b c d e f g=>lK f c 78 λc f=>lK f d 3 λd f=>lK f e 4 λe f=>CR g a 159 #[b,(.func (.func 221) #[] #[(pt c),(pt d),(pt e)])] f λa b=>lX a λc d=>Ext 2 a λa=>rt g (.tuple #[c,d,a]) b
def JK:qE L163 163:=λh=>sd .e func163 h
def L164:Y0:=λ_ a b=>Build zQ 293 [] λc=>lK a c 293 λa c=>rt b (pt a) c
def JJ:qA L164 164:=λh=>sd .e func164 h
def L165:Y2:=λa b c d e=>oP b λf=>Br f (rt e (tP i0 (iv 10)) d) (CR e a 133 #[b,c] d λd f=>Un .not d λd=>Br d (rt e (tP i0 (iv 2)) f) (lC 0 b λb=>aj 1 b λb=>Ld f b λb=>CR e a 224 #[b,c] f λa b=>lX a λa c=>rt e (tP a c) b))
def JI:qC L165 165:=λh=>sd .e func165 h
def L166:Y3:=λa b c d e f=>oP b λg=>Br g (rt f (iv 10) e) (lM 1 b e λg=>dg (.int .i64) i0 true e g c λg=>lX g λ_ g=>Br g (rt f (iv 11) e) (jA (λg=>lM 0 b g λh=>Build zQ 295 [(0,c),(1,d)] λc=>aq zQ 291 1 [(0,c)] g λc d=>App zQ 295 2 16 (.agg #[i0,i0]) d h c λc d=>lC 0 b λg=>St 1 d g c λc=>lM 0 b c λd=>aP d λd=>lS d i1 λd=>CR f a 225 #[b,d] c λ_ a=>rt f i0 a) λa=>lM 1 b e λc=>ah .map .eql c (.map none) λc=>Br c (gO e λc d=>lC 1 b λb=>St 1 d b c λb=>JE a [] b) (JE a [] e)))
def JH:qD L166 166:=λh=>sd (hN 3 (zF 1 [] [0,1,2])) func166 h
def L167:Y1:=λ_ a b c=>oP a λd=>Br d (rt c i0 b) (lM 0 a b λa=>aP a λa=>rt c a b)
def JG:qB L167 167:=λh=>sd .e func167 h
def L168:Y1:=λa b c d=>oP b λe=>lO e (λe=>lM 0 b c λf=>aP f λf=>lE f i0 λf=>(lV c f e)) λe=>Br (Value.bool e) (rt d (.tuple #[i0,i0,(iv 10)]) c) (lM 0 b c λe=>ay 2 e i0 λe=>aB 2 c e λe=>lQ 2 c #[i0,i0] 295 e λc e=>lM 0 b e λf=>aP f λf=>lS f i1 λf=>lM 0 b e λg=>ay 2 g f λg=>aB 2 e g λg=>lQ 2 e #[i0,i0] 295 g λe g=>lM 0 b g λh=>gD 2 h none (some f) λh=>lC 0 b λi=>St 1 g i h λg=>DR g λh=>lM 1 b h λi=>lD 0 (pt c) h λh=>po (.int .i64) g i h λg=>jA (λh=>lD 0 (pt c) h λi=>lD 1 (pt c) h λc=>rt d (.tuple #[i,c,i0]) h) λc=>lG f i0 λf=>Br f (aB 2 g (pt e) λe=>CR d a 226 #[b,i0,e] g λ_ e=>CR d a 227 #[b,i0] e λ_ a=>JE c [] a) (JE c [] g))
def ya:qB L168 168:=λh=>sd (zA (zA (.n (zB (zF 0 [] [1])) (hN 4 (.n (zF 0 (yR 7) []) (zF 1 [] [6])))))) func168 h
def L169:Y2:=λa b c d e=>lK d b 225 λb d=>Br c (DR d λc=>Ld c (pt b) λf=>Ld c (pt b) λg=>lM 0 g c λg=>∀h:Hp,
CN (a.add h) 108 #[g] d λa g=>aO g c/\
lS a i1 λa=>lC 6 f λc=>∀_:Hp,
St 1 g c a λa=>Ld a (pt b) λc=>lC 7 c λc=>St 1 a c (.func (.func 228) #[] #[(pt b)]) λa=>rt e (.tuple #[]) a) (Ld d (pt b) λa=>lC 6 a λa=>St 1 d a i0 λa=>Ld a (pt b) λc=>lC 7 c λc=>St 1 a c (.func (.func 230) #[] #[(pt b)]) λa=>rt e (.tuple #[]) a)
def JF:qC L169 169:=λh=>sd (zA (zA (zB (zB (zE 1 [] [] (hr 0 [1] 0 10 .e)))))) func169 h
def L170:Y1:=λa b c d=>∃(e:Jt) (f:Mt),JE e [] c/\∀c:Hp,e [] c->∀_:Fr,
jB (λg h=>Br g (lM 0 b h λg=>CR d a 83 #[g] h λg i=>jA (λj=>oM g (iv 100) λk=>lM 2 b j λl=>lM 4 b j λm=>oM l m λl=>lG k l λk=>Br k (rt d (.tuple #[]) j) (aD e f [] j [] c)) λe=>lM 2 b i λf=>lL g f λf=>Br f (lM 1 b i λf=>lC 2 b λj=>St 1 i j g λg=>lC 3 b λj=>St 1 g j f λf=>JE e [] f) (JE e [] i)) (rt d (.tuple #[]) h)) λd=>DR c λe=>lM 1 b e λf=>lM 6 b e λg=>lN f g λf=>Br f (lM 7 b e λb=>∀e:Hp,
aM zQ (a.add e) b #[] c (λa b=>lE a i0 λa=>aG vT a vF λa=>JE d [a] b) fU) (JE d [vF] c)
def JD:qB L170 170:=λh=>sd (zB (zE 0 [] [0] (.n (zE 1 [19] [0] (zE 1 [] [] (hr 0 [1] 0 9 (.h 2 [9] [] (hr 0 [1] 10 7 .e) (hr 0 [1] 10 6 (zF 3 [16] [1])))))) (zB (zA (zF 1 [] [0,2])))))) func170 h
def L171:Y2:=λa b c d e=>∃(f:Jt) (g:Mt),JE f [] d/\∀d:Hp,f [] d->∀_:Fr,
lM 1 b d λh=>lN h c λc=>Br c (lM 0 b d λc=>CR e a 231 #[c] d λa c=>lX a λa _=>lM 5 b c λh=>lA h i1 λh=>lC 5 b λi=>St 1 c i h λc=>lM 1 b c λh=>lL a h λh=>Br h (lC 1 b λh=>St 1 c h a λh=>aD f g [] h [] d) (lA a i1 λa=>lC 1 b λb=>St 1 c b a λa=>aD f g [] a [] d)) (rt e (.tuple #[]) d)
def JC:qC L171 171:=λh=>sd (zB (zF 0 [] [0,1])) func171 h
def L172:Y1:=λ_ a b c=>lE a (iv 2) λd=>Br d (aq zQ 43 1 [(0,i0)] b λd e=>rt c (tP d i0) e) (lE a (iv 3) λd=>Br d (aq zQ 43 5 [(0,i1),(1,i0),(2,i1),(3,i0),(4,i1)] b λd e=>rt c (tP d i0) e) (lE a (iv 4) λa=>Br a (aq zQ 43 23 [(0,(iv 2)),(1,i1),(2,i0),(3,(iv 2)),(4,i0),(5,i1),(6,(iv 2)),(7,i0),(8,(iv 2)),(9,i1),(10,i0),(11,(iv 2)),(12,i0),(13,i1),(14,(iv 2)),(15,i0),(16,(iv 2)),(17,i1),(18,i0),(19,(iv 2)),(20,i0),(21,i1),(22,(iv 2))] b λa d=>rt c (tP a i0) d) (rt c (tP sZ i1) b)))
def JB:qB L172 172:=λh=>sd .e func172 h
def L173:Y3:=λa b c d e f=>DR e λg=>Ld g c λh=>Ld g c λi=>CN a 174 #[h] e λe h=>aO h g/\
CN a 83 #[i] h λh i=>aO i g/\
jC (λg j k=>Ld k c λl=>lA e g λe=>CR f a 176 #[l,e] k λe g=>lX e λe _=>lA j e λe=>rt f e g) λe=>Ld i d λd=>aP d λg=>∃(j:Jt) (k:Mt),JE j [h,i0,i0,i0] i/\∀h i l m:zV,∀n:Hp,j [h,i,l,m] n->∀_:Fr,
lL m g λg=>Br g (∀g:Jt,(∀o p q:zV,∀r:Hp,(∀_:Fr,
lA m i1 λs=>aD j k [o,p,q,s] r [h,i,l,m] n)->g [o,p,q] r)->lI 1 d m n λd=>Ld n c λc=>lA b d λb=>CR f a 175 #[c,b] n λa b=>lX a λa c=>lQ 3 b #[i0,i0,i0] 232 a λa b=>lN c i0 λc=>Br c (JE e [i,l] b) (lA l i1 λc=>lD 2 (pt a) b λd=>lL d h λd=>Br d (lD 2 (pt a) b λa=>JE g [a,c,c] b) (JE g [h,i,c] b))) (JE e [i,l] n)
def JA:qD L173 173:=λh=>sd (zA (.n (zF 0 [0,2,1,3,4,5,6,7] []) (zE 1 [7,8] [1,5] (zA (zB (zE 0 [6,7,8,21] [0,1,5,19,20] (zA (zA (zF 1 [6,7,8] [0,1,5,19,20,21]))))))))) func173 h
def L174:Y1:=λ_ a b c=>oP a λd=>Br d (rt c i0 b) (lM 7 a b λa=>aP a λa=>rt c a b)
def Jz:qB L174 174:=λh=>sd .e func174 h
def L175:Y2:=λa b c d e=>lW d #[i0,i0,i0] 232 λd f=>CR e a 83 #[b] f λf g=>Build zQ 232 [(0,c),(1,f)] λf=>lQ 3 g #[i0,i0,i0] 232 f λf g=>CR e a 94 #[b,c] g λc g=>lN c i0 λh=>Br h (Build zQ 232 [] λh=>St 3 g (pt d) h λh=>aB 3 h (pt d) λi=>rt e (tP i c) h) (CR e a 83 #[b] g λa b=>aj 2 (pt f) λc=>St 1 b c a λa=>aB 3 a (pt f) λb=>St 3 a (pt d) b λa=>aB 3 a (pt d) λb=>rt e (tP b i0) a)
def x9:qC L175 175:=λh=>sd .e func175 h
def L176:Y2:=λa b c d e=>oP b λf=>Br f (rt e (tP i0 (iv 10)) d) (jB (λf g=>Br f (rt e (tP i0 i1) g) (yA [i0] g λf g h i=>CR e a 174 #[b] i λj k=>lG j c λj=>Br j (CR e a 231 #[b] k λ_ j=>lA h i1 λl=>aD f g [l] j [h] i) (rt e (tP h i0) k))) λf=>lL c i0 λg=>Split g false (CR e a 174 #[b] d λa b=>lG c a λa=>aG vF vT a λa=>JE f [a] b) (aG vT vT undef λa=>JE f [a] d))
def Jy:qC L176 176:=λh=>sd (zA (zA (.n (zF 1 [16] [0,1]) (zA (zB (zB (zF 0 [6] [0,1]))))))) func176 h
def L177:Y3:=λa b c d e f=>DR e λg=>lC 1 b λh=>aj 2 h λh=>Ld g h λh=>lM 0 b g λi=>aM zQ a i #[d] e (λd e=>aO e g/\
lA h d λd=>lC 1 b λg=>aj 2 g λg=>St 1 e g d λd=>CR f a 83 #[c] d λa c=>lC 1 b λb=>aj 1 b λb=>St 1 c b a λa=>rt f (.tuple #[]) a) fU
def Jx:qD L177 177:=λh=>sd (zB (zF 0 (yR 16) [])) func177 h
def L178:Y2:=λa b c d e=>lK d c 4 λc d=>lW d #[i0,sZ] 175 λd f=>CR e a 232 #[b] f λf g=>lN f i0 λh=>Br h (Build zQ 175 [] λh=>St 2 g (pt d) h λh=>aB 2 h (pt d) λi=>rt e (tP i f) h) (CR e a 233 #[b,(.func (.func 234) #[] #[(pt c)])] g λa b=>St 2 b (pt d) a λa=>aB 2 a (pt d) λb=>rt e (tP b i0) a)
def Jw:qC L178 178:=λh=>sd .e func178 h
def L179:Y5:=λa b c d e f g h=>lK g b 53 λb g=>lK g d 175 λd g=>lK g e 175 λe g=>lK g f 240 λf g=>lW g #[i0,sZ] 175 λg i=>gO i λi j=>aB 2 j (pt d) λd=>aY (.int .u32) j i (ui 0) d λd=>aB 2 d (pt e) λe=>aY (.int .u32) d i (ui 1) e λd=>lQ 1 d #[(.map none)] 301 i λd e=>lW e #[.nilFunc] 302 λe i=>St 1 i (pt e) (.func (.func 235) #[] #[(pt d),(pt b),(pt f),(pt e)]) λb=>Ld b (pt e) λd=>aM zQ a d #[c] b (λa b=>St 2 b (pt g) a λa=>aB 2 a (pt g) λb=>rt h b a) (dy h)
def Jv:qF L179 179:=λh=>sd .e func179 h
def L180:Y4:=λa b c d e f g=>lK f b 144 λb f=>lK f c 175 λc f=>lK f d 175 λd f=>lW f #[i0,sZ] 175 λf h=>Ld h e λe=>lD 0 (pt b) h λb=>CR g a 181 #[e,b] h λb e=>lX b λb _=>lQ 2 e #[i0,sZ] 175 b λb e=>aB 2 e (pt b) λb=>aB 2 e (pt d) λd=>aB 2 e (pt c) λc=>CR g a 182 #[b,d,c] e λa b=>lX a λa _=>lQ 2 b #[i0,sZ] 175 a λa b=>aB 2 b (pt a) λa=>St 2 b (pt f) a λa=>aB 2 a (pt f) λb=>rt g b a
def Ju:qE L180 180:=λh=>sd .e func180 h
def L181:Y2:=λa b c d e=>lK d c 3 λc d=>lW d #[i0,sZ] 175 λd f=>CR e a 232 #[b] f λf g=>lN f i0 λh=>Br h (Build zQ 175 [] λh=>St 2 g (pt d) h λh=>aB 2 h (pt d) λi=>rt e (tP i f) h) (Ld g (pt c) λf=>lL f i0 λf=>lO f (λf=>Ld g (pt c) λh=>oG h b λh=>(lV g h f)) λf=>Br (Value.bool f) (Build zQ 175 [] λf=>St 2 g (pt d) f λf=>aB 2 f (pt d) λh=>rt e (tP h (iv 2)) f) (CR e a 233 #[b,(.func (.func 236) #[] #[(pt c)])] g λa b=>St 2 b (pt d) a λa=>aB 2 a (pt d) λb=>rt e (tP b i0) a))
def Js:qC L181 181:=λh=>sd (zA (zA (zB (zB (zF 0 [] [1]))))) func181 h
def L182:Y3:=λa b c d e f=>lK e b 175 λb e=>lK e c 175 λc e=>lK e d 175 λd e=>lW e #[i0,sZ] 175 λe g=>aB 2 g (pt b) λh=>aB 2 g (pt c) λi=>aB 2 g (pt d) λj=>aq zQ 171 3 [(0,h),(1,i),(2,j)] g λg h=>CR f a 238 #[g] h λg h=>Un .not g λg=>Br g (Build zQ 175 [] λg=>St 2 h (pt e) g λg=>aB 2 g (pt e) λi=>rt f (tP i (iv 5)) g) (lD 0 (pt b) h λg=>CR f a 233 #[g,(.func (.func 239) #[] #[(pt b),(pt c),(pt d)])] h λa b=>St 2 b (pt e) a λa=>aB 2 a (pt e) λb=>rt f (tP b i0) a)
def Jr:qD L182 182:=λh=>sd .e func182 h
def L183:Y1:=λa b c d=>gO c λc e=>gO e λe f=>Build zQ 247 [(0,b),(3,c),(4,e)] λc=>lK f c 247 λc e=>aP b λf=>lE f i0 λf=>Br f (rt d (tP (pt c) i0) e) (CR d a 240 #[b] e λe f=>lX e λ_ e=>lN e i0 λg=>Br g (rt d (tP (.pointer none) e) f) (ay 2 b i0 λe=>aj 0 e λe=>Ld f e λe=>lC 1 (pt c) λg=>St 1 f g e λe=>aP b λf=>yA [i0] e λe g h i=>lL h f λf=>Br f (ay 2 b h λb=>aB 2 i b λb=>lQ 2 i #[i0,sZ] 175 b λb f=>aB 2 f (pt b) λb=>CR d a 241 #[b] f λa b=>lX a λa _=>lM 2 (pt c) b λf=>bu .i64 a λa=>oO f a λa=>lC 2 (pt c) λf=>St 1 b f a λa=>lA h i1 λb=>aD e g [b] a [h] i) (rt d (tP (pt c) i0) i)))
def Jq:qB L183 183:=λh=>sd (hN 5 (zB (zA (zB (zF 0 [37] [4,35,36]))))) func183 h
def L184:Y3:=λa b c d e f=>lM 2 b e λg=>oR g d λg=>oA g i1 λg=>lE g i0 λg=>Br g (rt f i0 e) (lM 2 b e λg=>oA c g λc=>Build zQ 309 [(0,c),(1,d)] λc=>lQ 2 e #[i0,i0] 309 c λc e=>lM 3 b e λg=>aB 2 e (pt c) λh=>kG zQ 309 i0 true e g h λg=>lX g λg h=>jB (λi j=>rt f i j) λf=>Un .not h λh=>Br h (DR e λh=>lM 0 b h λi=>jl 2 1 (pt c) i0 λj=>Ld h j λj=>bu .u64 j λj=>CN a 242 #[i,j,d] e λa d=>aO d h/\
lX a λa _=>DR d λh=>lM 3 b h λb=>aB 2 h (pt c) λc=>iV zQ 309 d b c a λb=>JE f [a] b) (JE f [g] e))
def Jp:qD L184 184:=λh=>sd (hN 4 (zE 1 [8] [] (zA (zB (.n (zF 0 (yR 13) []) (zF 0 (yR 7) [])))))) func184 h
def L185:Y2:=λa b c d e=>lM 2 b d λf=>oA c f λc=>lM 2 b d λf=>lE c f λf=>Br f (rt e i0 d) (lM 4 b d λf=>dg (.int .i64) i0 true d f c λf=>lX f λf g=>Br g (rt e f d) (lM 1 b d λf=>yB [(iv (-1)),i0] d λd g h i j=>lL i f λf=>Br f (jB (λf k=>lA i i1 λl=>aD d g [f,l] k [h,i] j) λd=>lM 2 b j λf=>Un .xor f λf=>oO c f λf=>oR f i λf=>oA f i1 λf=>lE f i1 λf=>Br f (JE d [h] j) (DR j λ_=>oL i1 i λf=>oO c f λf=>CN a 184 #[b,c,i] j λg i=>CN a 185 #[b,f] i λa f=>lA g a λa=>lL h i0 λg=>lO g (λg=>lL a h λi=>(lV f i g)) λg=>Br (Value.bool g) (JE d [a] f) (JE d [h] f))) (lM 4 b j λa=>aY (.int .i64) j a c h λa=>rt e h a)))
def x8:qC L185 185:=λh=>sd (hN 5 (zB (zA (zB (zE 0 [7,37] [0,1,36] (zA (zA (zE 1 [7] [0,1,36,37] (zB (zA (zA (.n (zF 0 [0,1,2,4,5,6,7,8,3,9,10,11] []) (zB (zF 0 [] [1])))))))))))))) func185 h
def L186:Y1:=λ_ a b c=>aP a λd=>cJ 4 1 1 vF b d d λb d=>aP a λe=>yA [i0] d λd f g h=>lL g e λe=>Br e (lI 1 a g h λe=>lL e i0 λi=>lO i (λi=>aP a λj=>oG e j λj=>(lV h j i)) λi=>lO (Value.bool i) (λi=>lI 1 b e h λj=>(lV h j i)) λi=>Br (Value.bool i) (rt c (iv 4) h) (ay 1 b e λb=>St 1 h b vT λb=>lA g i1 λe=>aD d f [e] b [g] h)) (aP a λa=>lG a (iv 64) λa=>Br a (rt c (iv 13) h) (rt c i0 h))
def Jo:qB L186 186:=λh=>sd (zA (zA (zB (zA (zB (zE 0 [11] [0,3,9,10] (zA (zA (zB (zB (zA (zB (zB (zF 0 [] [1])))))))))))))) func186 h
def L187:Y2:=λa b c d e=>CR e a 243 #[b,c] d λd f=>lN d i0 λg=>Br g (rt e (tP sZ d) f) (CR e a 31 #[b] f λb d=>aP c λf=>yB [sZ,i0] d λd g h i j=>lL i f λf=>Br f (lI 1 c i j λc=>CR e a 244 #[b,c] j λa c=>yB [h,a] c λa c f k l=>lG k i λm=>Br m (DR l λm=>lS k i1 λn=>lI 1 b k m λo=>lS k i1 λp=>lI 1 b p m λm=>ay 1 b n λn=>St 1 l n o λn=>ay 1 b k λb=>St 1 n b m λb=>lS k i1 λm=>aq zQ 43 1 [(0,m)] b λb m=>App zQ 3 1 8 i0 m f b λb m=>lS k i1 λn=>aD a c [b,n] m [f,k] l) (lA i i1 λa=>aD d g [f,a] l [h,i] j)) (rt e (tP h i0) j))
def Jn:qC L187 187:=λh=>sd (hN 4 (zB (zA (zB (zE 0 [8,22] [7,20,21] (zA (zA (zB (zB (zA (zA (zB (zE 0 [8,11] [7,9,20,21,22] (zA (zB (zB (zB (zF 0 (yR 18) [])))))))))))))))))) func187 h
def L188:Y2:=λa b c d e=>lW d #[i0] 3 λd f=>CF a 245 #[b] f (λb f=>lQ 1 f #[(.pointer none)] 314 b λb f=>aP c λg=>yA [i0] f λf h i j=>lL i g λg=>Br g (lI 1 c i j λc=>Ld j (pt b) λg=>CF a 248 #[g,c] j (λc g=>lN c i0 λk=>Br k (St 1 g (pt d) i0 λk=>kJ zQ a 246 #[(pt b),(pt d)] k λk=>Ld k (pt d) λl=>rt e (tP l c) k) (lA i i1 λc=>aD f h [c] g [i] j)) O6) (Ld j (pt b) λc=>lC 3 c λc=>St 1 j c vT λc=>St 1 c (pt d) i0 λc=>kJ zQ a 246 #[(pt b),(pt d)] c λa=>Ld a (pt d) λb=>rt e (tP b i0) a)) O6
def Jm(h:L188 g a0 a1 H R):sc g 188 #[a0,a1] H R:=
 Bd (hn:=(hN 3 (zB (zA (zB (zF 0 [14] [4,6,12,13])))))) func188 h zK
def L189:Y2:=λa b c d e=>lW d nC 144 λd f=>oP b λg=>Br g (Build zQ 144 [] λg=>St 3 f (pt d) g λg=>aB 3 g (pt d) λh=>rt e (tP h (iv 10)) g) (CR e a 249 #[b,c] f λa f=>Un .not a λa=>Br a (Build zQ 144 [] λa=>St 3 f (pt d) a λa=>aB 3 a (pt d) λg=>rt e (tP g (iv 3)) a) (lM 1 b f λa=>ay 5 a c λa=>aj 0 a λa=>aB 3 f a λa=>St 3 f (pt d) a λa=>aB 3 a (pt d) λb=>rt e (tP b i0) a))
def Jl:qC L189 189:=λh=>sd .e func189 h
def L190:Y2:=λa b c d e=>lW d nC 144 λd f=>lM 0 b f λb=>CR e a 189 #[b,c] f λa b=>lX a λa _=>lQ 3 b nC 144 a λa b=>aB 3 b (pt a) λa=>St 3 b (pt d) a λa=>aB 3 a (pt d) λb=>rt e b a
def Jk:qC L190 190:=λh=>sd .e func190 h
def L191:Y2:=λa b c d e=>lK d c 144 λc d=>lD 0 (pt c) d λf=>CR e a 250 #[b,f] d λa d=>lN a i0 λf=>Br f (rt e a d) (lM 0 b d λa=>lD 0 (pt c) d λf=>lI 1 a f d λa=>aB 3 d (pt c) λf=>kG zQ 144 (ui 0) true d a f λa=>lX a λ_ a=>Un .not a λa=>Br a (rt e (iv 10) d) (DR d λa=>lM 0 b a λb=>lD 0 (pt c) a λf=>lI 1 b f a λb=>aB 3 a (pt c) λc=>sL zQ 144 d b c λb=>aO b a/\
rt e i0 b))
def Jj:qC L191 191:=λh=>sd (hN 3 (zB (zF 0 (yR 10) []))) func191 h
def L192:Y2:=λa b c d e=>oP b λf=>Br f (rt e (iv 10) d) (CR e a 251 #[b,c] d λa d=>lN a i0 λf=>Br f (rt e a d) (lM 1 b d λa=>Build zQ 146 [] λf=>ay 5 a c λa=>St 5 d a f λa=>lM 2 b a λd=>aq zQ 133 1 [(0,c)] a λa c=>App zQ 78 1 4 (ui 0) c d a λa c=>lC 2 b λd=>St 1 c d a λa=>lM 3 b a λc=>lS c i1 λc=>lC 3 b λb=>St 1 a b c λa=>rt e i0 a))
def Ji:qC L192 192:=λh=>sd .e func192 h
def L193:Y5:=λa b c d e f g h=>Ld g c λi=>dg (.int .u32) (wi 0) true g i b λi=>lX i λi j=>Br j (rt h i g) (Ld g d λd=>CR h a 125 #[d,b] g λd g=>lQ 3 g nC 144 d λd g=>DR g λi=>Ld i e λe=>aB 3 i (pt d) λj=>Ld i f λk=>lD 1 (pt d) i λl=>Ld i f λf=>lD 2 (pt d) i λd=>∀m:Hp,
aM zQ (a.add m) k #[l] g (λg k=>aO k i/\
∀l:Hp,
aM zQ (a.add l) f #[d] k (λd f=>aO f i/\
∀i:Hp,
aM zQ (a.add i) e #[j,g,d] f (λa d=>Ld d c λc=>aY (.int .u32) d c b a λb=>rt h a b) fU) fU) fU)
def x7:qF L193 193:=λh=>sd (hN 3 (zB (zE 1 [] [] (hr 0 [1] 0 5 (hr 0 [1] 6 3 (zE 0 [5] [1] (hr 0 [1] 9 3 .e))))))) func193 h
def L194:Y5:=λa b c d e f g h=>CR h a 124 #[b] g λg i=>lO g (λg=>Ld i c λj=>dg (.int .u32) i0 false i j b λj=>lG j i0 λj=>(lV i j g)) λg=>Br (Value.bool g) (rt h (.tuple #[]) i) (Ld i c λc=>aY (.int .u32) i c b i1 λc=>Ld c d λd=>CR h a 125 #[d,b] c λb c=>lQ 3 c nC 144 b λb c=>Ld c e λd=>aB 3 c (pt b) λe=>aM zQ a d #[e] c (λ_ c=>Ld c f λd=>lD 1 (pt b) c λe=>aM zQ a d #[e] c (λ_ c=>Ld c f λd=>lD 2 (pt b) c λb=>aM zQ a d #[b] c (λ_ a=>rt h (.tuple #[]) a) (dy h)) (dy h)) (dy h))
def x6:qF L194 194:=λh=>sd (zB (zB (zF 0 [] [1]))) func194 h
def L195:Y2:=λa b c d e=>oP b λf=>Br f (rt e (iv 10) d) (CR e a 152 #[b,c] d λa b=>lX a λa d=>lQ 3 b nC 144 a λ_ a=>lN d i0 λb=>Br b (rt e d a) (lE c (ui 0) λb=>Br b (rt e (iv 10) a) (rt e i0 a)))
def Jh:qC L195 195:=λh=>sd .e func195 h
def L196:Y2:=λa b c d e=>lK d b 53 λb d=>Ld d (pt b) λf=>CR e a 108 #[f] d λd f=>gO f λf g=>Build zQ 266 [(0,d),(1,c),(2,f)] λd=>lK g d 266 λd f=>lQ 1 f #[(.pointer none)] 258 (pt d) λd f=>Ld f (pt d) λg=>lM 0 g f λg=>yA [i0] f λf h i j=>lL i g λg=>Br g (Ld j (pt b) λg=>CR e a 93 #[g,i] j λg k=>lX g λg _=>DR k λl=>Ld l (pt d) λm=>Ld l (pt d) λn=>lM 3 n l λn=>∀_:Hp,
aq zQ 43 1 [(0,g)] k λg k=>aO k l/\
∀_:Hp,
App zQ 3 1 8 i0 k n g λg k=>aO k l/\
lC 3 m λl=>∀_:Hp,
St 1 k l g λg=>lA i i1 λk=>aD f h [k] g [i] j) (lW j #[.nilFunc] 183 λf g=>St 1 g (pt f) (.func (.func 252) #[] #[(pt d),(pt b),(pt f)]) λb=>Ld b (pt f) λf=>aM zQ a f #[c] b (λ_ a=>Ld a (pt d) λb=>rt e b a) (dy e))
def Jg:qC L196 196:=λh=>sd (zA (zA (zB (zA (zB (zE 0 [20] [1,2,5,19] (zA (zA (zB (zB (zA (zA (zE 1 [] [] (hr 0 [1] 0 11 .e)))))))))))))) func196 h
def L197:Y1:=λa b c d=>lK c b 258 λb c=>lW c #[(wi 0),vF] 261 λc e=>Ld e (pt b) λf=>CR d a 253 #[f] e λe f=>lQ 1 f #[sZ] 43 e λe f=>gO f λf g=>Build zQ 261 [] λh=>aY (.int .u32) g f (ui 0) h λg=>Build zQ 261 [(0,(wi 1))] λh=>aY (.int .u32) g f (ui 1) h λg=>lQ 1 g #[(.map none)] 319 f λf g=>lW g #[.nilFunc] 182 λg h=>St 1 h (pt g) (.func (.func 254) #[] #[(pt b)]) λh=>lW h #[.nilFunc] 320 λh i=>lW i #[.nilFunc] 322 λi j=>St 1 j (pt i) (.func (.func 255) #[] #[(pt h),(pt e),(pt g)]) λe=>St 1 e (pt h) (.func (.func 257) #[] #[(pt f),(pt b),(pt i)]) λe=>DR e λf=>Ld f (pt i) λg=>Ld f (pt b) λb=>lM 1 b f λb=>∀f:Hp,
aM zQ (a.add f) g #[b,i0] e (λa b=>∀_:Hp,
St 2 b (pt c) a λa=>aB 2 a (pt c) λb=>rt d b a) fU
def Jf:qB L197 197:=λh=>sd (hN 7 (zB (zE 1 [] [] (hr 0 [1] 0 7 .e)))) func197 h
def L198:Y2:=λ_ a b c d=>lK c a 261 λa c=>lD 1 (pt a) c λe=>lO e (λe=>lD 0 (pt a) c λa=>lG a b λa=>(lV c a e)) λe=>rt d (Value.bool e) c
def Je:qC L198 198:=λh=>sd (zA (zB (zF 0 [] [1]))) func198 h
def L199:Y3:=λ_ a b c d e=>DR d λf=>lM 4 a f λf=>oL (wi 1) b λg=>oO f g λf=>lC 4 a λg=>∀_:Hp,
St 1 d g f λd=>DR d λf=>lM 5 a f λf=>oL (wi 1) b λg=>ah .num .andNot f g λf=>oL c b λb=>oO f b λb=>lC 5 a λa=>∀_:Hp,
St 1 d a b λa=>rt e (.tuple #[]) a
def Jd:qD L199 199:=λh=>sd (.n (zE 1 [] [] (hr 0 [1] 0 10 .e)) (zE 1 [] [] (hr 0 [1] 0 15 .e))) func199 h
def L200:Y3:=λa b c d e f=>lC 0 b λg=>aj 1 g λg=>Ld e g λg=>CR f a 259 #[g,c] e λc e=>lX c λc _=>aP c λg=>yB [sZ,i0] e λe h i j k=>lL j g λg=>Br g (jB (λg l=>lA j i1 λm=>aD e h [g,m] l [i,j] k) λe=>lI 1 c j k λc=>lC 0 b λg=>CR f a 190 #[g,c] k λg h=>lQ 3 h nC 144 g λg h=>jB (λj l=>Br j (JE e [i] l) (aB 3 l (pt g) λj=>Build zQ 272 [(0,c),(1,j)] λc=>lQ 8 l #[(ui 0),i0,(ui 0),(ui 0),(ui 0),(ui 0),(ui 0),(ui 0)] 272 c λc j=>lD 1 (pt g) j λl=>CR f a 260 #[b,l,d] j λj l=>lX j λj m=>aj 4 (pt c) λn=>St 1 l n j λj=>aj 5 (pt c) λl=>St 1 j l m λj=>lD 2 (pt g) j λl=>CR f a 260 #[b,l,d] j λj l=>lX j λj m=>aj 6 (pt c) λn=>St 1 l n j λj=>aj 7 (pt c) λl=>St 1 j l m λj=>aB 8 j (pt c) λc=>aq zQ 268 1 [(0,c)] j λc j=>App zQ 272 8 40 (.agg #[(ui 0),i0,(ui 0),(ui 0),(ui 0),(ui 0),(ui 0),(ui 0)]) j i c λc j=>JE e [c] j)) λc=>DR h λe=>lC 0 b λj=>lD 1 (pt g) e λl=>∀m:Hp,
CN (a.add m) 190 #[j,l] h λh j=>aO j e/\
CY 0 h λh=>lN h d λh=>Br h (lC 0 b λb=>lD 2 (pt g) e λg=>∀h:Hp,
CN (a.add h) 190 #[b,g] j λa b=>aO b e/\
CY 0 a λa=>lN a d λa=>aG vT a vF λa=>JE c [a] b) (JE c [vF] j)) (rt f i k)
def Jc:qD L200 200:=λh=>sd (hN 3 (zB (zA (zB (zE 0 [7,26] [0,2,24,25] (zA (zA (zE 1 [7] [0,2,24,25,26] (zB (zA (zA (zB (zE 1 [54] [0,2,7,11,12,24,25,26] (zE 1 [] [] (hr 0 [] 0 5 (zE 0 [7] [] (hr 0 [] 5 2 (zE 0 [8] [] (.h 2 [9] [] (hr 0 [] 10 5 (zE 0 [17] [] (hr 0 [] 15 2 (hr 0 [] 18 2 .e)))) (hr 0 [] 10 9 (zF 3 [19] []))))))))))))))))))))) func200 h
variable {g:Gh} {a0 a1 a2 a3 a4 a5 a6 a7 a8 a9 uB uA a12 a13 a14 a15:zV} {H:Hp} {R:Rt}
def L201:Y3:=λa b c d e f=>gO e λe g=>aP d λh=>yA [i0] g λg i j k=>lL j h λh=>Br h (ay 8 d j λd=>aB 8 k d λd=>lQ 8 k #[(ui 0),i0,(ui 0),(ui 0),(ui 0),(ui 0),(ui 0),(ui 0)] 272 d λd h=>lD 4 (pt d) h λl=>lD 6 (pt d) h λm=>Build zQ 144 [(0,c),(1,l),(2,m)] λl=>lD 5 (pt d) h λm=>lD 7 (pt d) h λd=>Build zQ 144 [(0,c),(1,m),(2,d)] λc=>aq zQ 213 2 [(0,l),(1,c)] h λc d=>aP c λh=>yA [i0] d λd l m n=>lL m h λh=>Br h (jA (λh=>lA m i1 λo=>aD d l [o] h [m] n) λd=>ay 3 c m λc=>aB 3 n c λc=>lQ 3 n nC 144 c λc h=>DR h λl=>lC 0 b λb=>aj 1 b λb=>Ld l b λb=>aB 3 l (pt c) λm=>CN a 213 #[b,m] h λb h=>aO h l/\
lX b λ_ b=>Un .not b λb=>lU b (λb=>lD 1 (pt c) h λl=>lD 2 (pt c) h λm=>lN l m λl=>(lV h l b)) λb=>Br (Value.bool b) (abM zQ a 10 (pY Tryz.f201 10) [7,11] [e,(pt c)] h λa=>∀_:Fr,
JE d [] a) (JE d [] h)) (lA j i1 λa=>aD g i [a] n [j] k)) (Cj k e λa=>rt f a k)
def Jb:qD L201 201:=λh=>sd (zA (zA (zB (zA (zB (zE 0 [17] [0,1,7,15,16] (zA (zA (zB (zB (zA (zA (zB (zE 0 [35] [0,1,7,15,16,17,33,34] (zA (zA (zE 1 [] [0,1,7,15,16,17,33,34,35] (zB (zA (.n (zF 0 (yR 12) []) (.n (zF 0 [] [1]) (zB (zF 9 [7,11] []))))))))))))))))))))))) func201 h
def L202:Y4:=λa b c d e f g=>lE d e λh=>Br h (rt g d f) (Build zQ 144 [(0,c),(1,d),(2,e)] λc=>lQ 3 f nC 144 c λc d=>DR d λe=>lM 1 b e λf=>aB 3 e (pt c) λh=>CN a 213 #[f,h] d λd f=>aO f e/\
lX d λd e=>Br e (rt g d f) (aB 3 f (pt c) λc=>CR g a 149 #[b,c] f λa b=>rt g a b))
def rj:qE L202 202:=λh=>sd (hN 3 (zB (zB (zF 0 (yR 11) [])))) func202 h
def L203:Y2:=λ_ a b c d=>lG b (ui 1) λe=>Br e (lM 2 a c λa=>lI 1 a b c λe=>lA e (Value.int .i32 1) λe=>ay 1 a b λa=>St 1 c a e λa=>rt d (.tuple #[]) a) (rt d (.tuple #[]) c)
def Ja:qC L203 203:=λh=>sd .e func203 h
def L204:Y3:=λa b c d e f=>lK e d 144 λd e=>oP b λg=>Br g (rt f (iv 10) e) (aB 3 e (pt d) λg=>CR f a 261 #[b,g] e λe g=>lN e i0 λh=>Br h (rt f e g) (CR f a 251 #[b,c] g λa e=>lN a i0 λg=>Br g (rt f a e) (DR e λa=>lM 1 b a λb=>aB 3 a (pt d) λa=>ay 5 b c λb=>aj 0 b λb=>St 3 e b a λa=>rt f i0 a)))
def I9:qD L204 204:=λh=>sd (hN 4 (zB (zF 0 (yR 9) []))) func204 h
def L205:Y3:=λa b c d e f=>lK e c 144 λc e=>lD 0 (pt c) e λg=>CR f a 250 #[b,g] e λa e=>lN a i0 λg=>Br g (rt f a e) (lM 0 b e λa=>lD 0 (pt c) e λg=>lI 1 a g e λa=>aB 3 e (pt c) λg=>kG zQ 144 (ui 0) true e a g λa=>lX a λ_ a=>Br a (rt f (iv 11) e) (DR e λa=>lM 0 b a λb=>lD 0 (pt c) a λg=>lI 1 b g a λb=>aB 3 a (pt c) λa=>iV zQ 144 e b a d λa=>rt f i0 a))
def I8:qD L205 205:=λh=>sd (hN 3 (zB (zF 0 (yR 11) []))) func205 h
def L207:Y1:=λa b c d=>bu .u64 b λb=>CR d a 97 #[b] c λa b=>oL (wi 1) a λa=>rt d a b
def I7:qB L207 207:=λh=>sd .e func207 h
def L208:Y1:=λ_ a b c=>DR b λd=>Nil a λe=>Ld d e λe=>Nil a λf=>Ld d f λd=>oL d (wi 13) λd=>ah .num .xor e d λd=>Nil a λe=>St 1 b e d λb=>DR b λd=>Nil a λe=>Ld d e λe=>Nil a λf=>Ld d f λd=>oR d (wi 7) λd=>ah .num .xor e d λd=>Nil a λe=>St 1 b e d λb=>DR b λd=>Nil a λe=>Ld d e λe=>Nil a λf=>Ld d f λd=>oL d (wi 17) λd=>ah .num .xor e d λd=>Nil a λe=>St 1 b e d λb=>Nil a λa=>Ld b a λa=>rt c a b
def I6:qB L208 208:=λh=>sd (zA (.n (zF 0 (yR 10) []) (.n (zF 0 (yR 10) []) (zB (zF 0 (yR 10) []))))) func208 h
def L212:Y2:=λa b c d e=>lC 0 b λf=>CR e a 190 #[f,c] d λa c=>lQ 3 c nC 144 a λa c=>lD 0 (pt a) c λd=>oG d i0 λd=>Br d (lM 6 b c λd=>lD 0 (pt a) c λa=>lI 1 d a c λa=>rt e a c) (lM 4 b c λa=>rt e a c)
def I5:qC L212 212:=λh=>sd .e func212 h
def L213:Y2:=λa b c d e=>lK d c 144 λc d=>lD 0 (pt c) d λf=>CR e a 250 #[b,f] d λa d=>lN a i0 λa=>Br a (rt e (tP (ui 0) vF) d) (lM 0 b d λa=>lD 0 (pt c) d λb=>lI 1 a b d λa=>aB 3 d (pt c) λb=>kG zQ 144 (ui 0) true d a b λa=>lX a λa b=>rt e (tP a b) d)
def I4:qC L213 213:=λh=>sd .e func213 h
def L214:Y1:=λ_ a b c=>oP a λd=>Br d (rt c i0 b) (lM 0 a b λa=>rt c a b)
def I3:qB L214 214:=λh=>sd .e func214 h
def L215:Y2:=λa b c d e=>lK d c 144 λc d=>oP b λf=>Br f (rt e (tP (ui 0) (iv 10)) d) (aB 3 d (pt c) λf=>CR e a 261 #[b,f] d λa d=>lN a i0 λf=>Br f (rt e (tP (ui 0) a) d) (lM 2 b d λa=>aP a λa=>lG a i0 λf=>Br f (lM 2 b d λf=>lS a i1 λg=>lI 1 f g d λf=>lM 2 b d λg=>lS a i1 λa=>gD 1 g none (some a) λa=>lC 2 b λg=>St 1 d g a λa=>DR a λg=>lM 1 b g λh=>aB 3 g (pt c) λg=>Build zQ 146 [(0,g),(1,vT)] λg=>ay 5 h f λh=>St 5 a h g λa=>lM 3 b a λg=>lA g i1 λg=>lC 3 b λh=>St 1 a h g λa=>rt e (tP f i0) a) (lM 1 b d λa=>aP a λa=>lM 0 b d λf=>oG a f λa=>Br a (rt e (tP (ui 0) (iv 9)) d) (DR d λa=>lM 1 b a λf=>aB 3 a (pt c) λc=>Build zQ 146 [(0,c),(1,vT)] λc=>aq zQ 140 1 [(0,c)] d λc d=>aO d a/\
App zQ 146 5 24 (.agg #[i0,(ui 0),(ui 0),vF,(bi 0)]) d f c λc d=>aO d a/\
lC 1 b λa=>St 1 d a c λa=>lM 3 b a λc=>lA c i1 λc=>lC 3 b λd=>St 1 a d c λa=>lM 1 b a λb=>aP b λb=>lS b i1 λb=>bu .u32 b λb=>rt e (tP b i0) a))))
def I2:qC L215 215:=λh=>sd (hN 3 (.n (zA (zA (zB (zA (zA (zB (zF 0 (yR 9) []))))))) (zA (zB (zF 0 (yR 12) []))))) func215 h
def L216:Y4:=λa b c d e f g=>jB (λh i=>Br h (rt g (tP (ui 0) vF) i) (CR g a 147 #[b,c,d,e] i λh i=>lX h λh j=>rt g (tP h j) i)) λh=>oP b λi=>Split i false (CR g a 146 #[b,c,d,e] f λa b=>lN a i0 λa=>aG vF vT a λa=>JE h [a] b) (aG vT vT undef λa=>JE h [a] f)
def I1:qE L216 216:=λh=>sd (zA (zB (zF 1 [19] [0,1,2,3]))) func216 h
def L217:Y2:=λa b c d e=>Ld d b λb=>lM 1 b d λb=>Rng d b λb d=>∃(f:Jt) (g:Mt),JE f [] d/\∀d:Hp,f [] d->∀_:Fr,
ZD d b λh i=>Ext 0 h λh=>Br h (KJ i b λb=>Ext 0 b λb=>Ld i c λc=>CR e a 85 #[c,b] i λ_ a=>aD f g [] a [] d) (rt e (.tuple #[]) i)
def Ff(h:L217 g a0 a1 H R):lf zQ g 217 #[a0,a1] H R:=
 Be (hn:=(zA (zB (zF 0 [] [1,7])))) func217 h zK
def L218(g:Gh)(a0 a1 a2 a3 a4 a5:zV)(H:Hp)(R:Rt):Prop:=
Ld H a1 λa=>
CR R g 219 #[a,a0] H λa b=>
lX a λa c=>
lQ 3 b nC 144 a λa b=>
Ld b a2 λd=>
lG c d λd=>
lO d (λd=>
Ld b a1 λe=>
lM 2 e b λe=>
lN e i0 λe=>
(lV b e d)) λd=>
Br (Value.bool d) (
rt R a0 b) (
Ld b a3 λd=>
dg (.int .u32) (ui 0) true b d a0 λd=>
lX d λd e=>
Br e (
rt R d b) (
jB (λd e=>
Ld e a3 λf=>
aY (.int .u32) e f a0 d λe=>
rt R d e) λd=>
Ld b a2 λe=>
lE c e λc=>
Br c (
Ld b a4 λc=>
aB 3 b (pt a) λe=>
aM zQ g c #[e] b (λc e=>
JE d [c] e) (dy R)) (
Ld b a5 λc=>
lD 1 (pt a) b λe=>
aM zQ g c #[e] b (λb c=>
DR c λe=>
Ld e a1 λf=>
lD 0 (pt a) e λh=>
Ld e a5 λi=>
lD 2 (pt a) e λa=>
aM zQ g i #[a] c (λa c=>
aO c e/\
CN g 220 #[f,h,b,a] c λa b=>
aO b e/\
JE d [a] b) fU) (dy R))))
def I0(h:L218 g a0 a1 a2 a3 a4 a5 H R):sc g 218 #[a0,a1,a2,a3,a4,a5] H R:=sd (zA (zA (.n (zB (zF 0 [] [1])) (zA (zA (zE 1 [12] [0,3] (hN 3 (zF 0 (yR 10) [])))))))) func218 h
def L219:Y2:=λa b c d e=>lW d nC 144 λd f=>lM 0 b f λg=>CR e a 152 #[g,c] f λc f=>lX c λc _=>lQ 3 f nC 144 c λc f=>DR f λg=>aB 3 g (pt c) λh=>aB 3 g (pt c) λc=>CN a 263 #[b,c] f λa b=>aO b g/\
St 3 b (pt d) h λb=>aO b g/\
aB 3 b (pt d) λc=>rt e (tP c a) b
def IZ:qC L219 219:=λh=>sd (zA (zA (zB (zF 0 (yR 6) [])))) func219 h
def L220:Y4:=λa b c d e f g=>lM 2 b f λh=>lN h i0 λh=>Br h (rt g (ui 0) f) (lM 0 b f λh=>CR g a 98 #[h,c,d,e] f λf h=>lX f λf i=>jB (λj k=>rt g j k) λj=>lE i (iv 8) λk=>Br k (lM 0 b h λk=>CR g a 216 #[k,c,d,e] h λc d=>lX c λc _=>JE j [c] d) (lN i i0 λc=>Br c (lC 2 b λc=>St 1 h c i λc=>JE j [f] c) (oQ f (ui 1) λc=>lO c (λc=>lM 1 b h λd=>dg (.int .u32) i0 false h d f λd=>lG d i0 λd=>(lV h d c)) λc=>Br (Value.bool c) (lM 0 b h λc=>CR g a 85 #[c,f] h λ_ a=>JE j [f] a) (lM 1 b h λa=>aY (.int .u32) h a f i1 λa=>JE j [f] a))))
def x5:qE L220 220:=λh=>sd (hN 3 (zE 1 [9] [] (zB (hN 4 (zB (zF 0 [] [1])))))) func220 h
def L221:Y4:=λa b c d e f g=>lK f b 217 λb f=>Ld f (pt b) λh=>Ld f c λc=>Ld f d λd=>CR g a 161 #[h,c,d,(.func (.func 222) #[] #[(pt b),e])] f λa b=>rt g a b
def IY:qE L221 221:=λh=>sd .e func221 h
def L222:Y3:=λa b c d e f=>lK e b 144 λb e=>Ld e c λc=>lD 1 (pt b) e λg=>lD 2 (pt b) e λb=>Ld e d λd=>CR f a 223 #[c,g,b,d] e λa b=>rt f a b
def IX:qD L222 222:=λh=>sd .e func222 h
def L223:Y4:=λa b c d e f g=>lK f b 217 λb f=>lW f #[(ui 0)] 78 λf h=>lW h #[(ui 0)] 78 λh i=>St 1 i (pt f) (ui 0) λi=>St 1 i (pt h) (ui 1) λi=>jA (λj=>gO j λj k=>lQ 1 k #[(.map none)] 334 j λj k=>lW k #[.nilFunc] 335 λk l=>St 1 l (pt k) (.func (.func 264) #[] #[(pt f),(pt h),(pt b),(pt j),(pt k)]) λb=>Ld b (pt k) λj=>aM zQ a j #[c,d] b (λa b=>rt g a b) (dy g)) λa=>Br e (St 1 i (pt f) (ui 1) λb=>St 1 b (pt h) (ui 0) λb=>JE a [] b) (JE a [] i)
def IW:qE L223 223:=λh=>sd (zA (zA (zF 1 [] [1,2,4,9,10]))) func223 h
def L224:Y2:=λa b c d e=>CR e a 250 #[b,c] d λa d=>lN a i0 λf=>Br f (rt e (tP i0 a) d) (lM 0 b d λa=>lI 1 a c d λa=>Cj d a λa=>rt e (tP a i0) d)
def IV:qC L224 224:=λh=>sd .e func224 h
def L225:Y2:=λa b c d e=>lM 0 b d λf=>ay 2 f c λf=>aB 2 d f λf=>lQ 2 d #[i0,i0] 295 f λd f=>yA [c] f λc f g h=>jB (λi j=>Br i (lM 0 b j λi=>lS g i1 λk=>ah .num .quo k (iv 2) λk=>ay 2 i k λi=>aB 2 j i λi=>CR e a 226 #[b,g,i] j λ_ i=>lS g i1 λk=>ah .num .quo k (iv 2) λk=>aD c f [k] i [g] h) (aB 2 j (pt d) λc=>CR e a 226 #[b,g,c] j λ_ c=>rt e (.tuple #[]) c)) λc=>DR h λe=>lG g i0 λf=>Br f (aB 2 e (pt d) λd=>lM 0 b e λb=>lS g i1 λf=>ah .num .quo f (iv 2) λf=>ay 2 b f λb=>aB 2 e b λb=>∀f:Hp,
CN (a.add f) 265 #[d,b] h λa b=>aO b e/\
aG vT a vF λa=>JE c [a] b) (JE c [vF] h)
def IU:qC L225 225:=λh=>sd (zA (zB (zB (zE 0 [1] [0,4] (zB (zE 1 [26] [0,1,4] (zE 1 [] [] (hr 0 [] 0 2 (.h 2 [2] [] (hr 0 [] 3 12 .e) (hr 0 [] 3 11 (zF 3 [14] []))))))))))) func225 h
def L226:Y3:=λ_ a b c d e=>lK d c 295 λc d=>DR d λf=>lM 0 a f λg=>aB 2 f (pt c) λf=>ay 2 g b λg=>St 2 d g f λd=>DR d λf=>lM 1 a f λa=>lD 0 (pt c) f λc=>aY (.int .i64) d a c b λa=>rt e (.tuple #[]) a
def IT:qD L226 226:=λh=>sd (zA (.n (zF 0 (yR 8) []) (zF 0 (yR 8) []))) func226 h
def L227:Y2:=λa b c d e=>lM 0 b d λf=>ay 2 f c λf=>aB 2 d f λf=>lQ 2 d #[i0,i0] 295 f λd f=>yA [c] f λc f g h=>oM (iv 2) g λi=>lA i i1 λi=>jB (λj k=>jB (λl m=>Br l (aB 2 m (pt d) λl=>CR e a 226 #[b,g,l] m λ_ l=>rt e (.tuple #[]) l) (lM 0 b m λl=>ay 2 l j λl=>aB 2 m l λl=>CR e a 226 #[b,g,l] m λ_ e=>aD c f [j] e [g] h)) λc=>DR k λe=>lM 0 b e λf=>aP f λf=>oG j f λf=>Br f (JE c [vT] k) (lM 0 b e λf=>ay 2 f j λf=>aB 2 e f λf=>aB 2 e (pt d) λd=>∀g:Hp,
CN (a.add g) 265 #[f,d] k λd f=>aO f e/\
Un .not d λd=>aG vF vT d λd=>JE c [d] f)) λc=>jB (λd e=>Br d (lA i i1 λd=>JE c [d] e) (JE c [i] e)) λc=>DR h λd=>lA i i1 λe=>lM 0 b d λf=>aP f λf=>lL e f λe=>Br e (lM 0 b d λe=>lA i i1 λf=>ay 2 e f λe=>aB 2 d e λe=>lM 0 b d λb=>ay 2 b i λb=>aB 2 d b λb=>∀f:Hp,
CN (a.add f) 265 #[e,b] h λa b=>aO b d/\
aG vT a vF λa=>JE c [a] b) (JE c [vF] h)
def IS:qC L227 227:=λh=>sd (zA (zB (zB (zE 0 [1] [0,4] (zB (zA (.h 1 [5] [0,1,4] (zE 1 [41] [0,1,4,5] (zE 1 [] [] (hr 0 [] 0 8 (.h 2 [8] [] (hr 0 [] 9 17 .e) (hr 0 [] 9 16 (zF 3 [25] [])))))) (zB (zE 1 [62] [0,1,4,5] (zE 1 [] [] (hr 0 [] 0 7 (.h 2 [7] [] (hr 0 [] 8 10 (zF 3 [18] [])) (hr 0 [] 8 11 .e))))))))))))) func227 h
def L228:Y1:=λa b c d=>DR c λe=>Ld e b λf=>Ld e b λb=>lM 1 b e λb=>∀e:Hp,
CN (a.add e) 229 #[f,b,i1] c λa b=>rt d a b
def x4:qB L228 228:=λh=>sd (zA (zB (zE 1 [] [] (hr 0 [1] 0 7 .e)))) func228 h
def L229:Y3:=λa b c d e f=>lM 0 b e λg=>CR f a 94 #[g,c] e λa c=>jA (λe=>rt f a e) λe=>lE a i0 λa=>Br a (lM 5 b c λa=>lA a i1 λa=>lC 5 b λf=>St 1 c f a λa=>lM 1 b a λf=>lA f d λd=>lC 1 b λb=>St 1 a b d λa=>JE e [] a) (JE e [] c)
def xZ:qD L229 229:=λh=>sd (zA (zA (zF 1 [] [7]))) func229 h
def L230:Y1:=λa b c d=>DR c λe=>Ld e b λf=>Ld e b λb=>lM 1 b e λb=>lS b i1 λb=>∀e:Hp,
CN (a.add e) 229 #[f,b,(iv (-1))] c λa b=>rt d a b
def xY:qB L230 230:=λh=>sd (zA (zB (zE 1 [] [] (hr 0 [1] 0 8 .e)))) func230 h
def L231:Y1:=λa b c d=>oP b λe=>lO e (λe=>lM 7 b c λf=>aP f λf=>lE f i0 λf=>(lV c f e)) λe=>Br (Value.bool e) (rt d (tP i0 (iv 10)) c) (lM 7 b c λe=>aP e λe=>lS e i1 λe=>lM 7 b c λf=>lI 1 f e c λf=>CR d a 134 #[b,f] c λ_ a=>lM 7 b a λc=>gD 1 c none (some e) λc=>lC 7 b λb=>St 1 a b c λa=>rt d (tP f i0) a)
def IQ:qB L231 231:=λh=>sd (zA (zB (zB (zF 0 [] [1])))) func231 h
def L232:Y1:=λ_ a b c=>lL a i0 λd=>Br d (rt c i1 b) (lG a (iv 16) λa=>Br a (rt c (iv 6) b) (rt c i0 b))
def IP:qB L232 232:=λh=>sd .e func232 h
def L233:Y2:=λa b c d e=>lW d #[i0,sZ] 175 λd f=>CR e a 266 #[b] f λf g=>cJ 33 1 8 (wi 0) g f f λf g=>Build zQ 175 [(0,b),(1,f)] λf=>lQ 2 g #[i0,sZ] 175 f λf g=>lD 1 (pt f) g λh=>aP h λh=>yA [i0] g λg i j k=>lL j h λh=>Br h (DR k λh=>lD 1 (pt f) h λl=>aM zQ a c #[j] k (λc m=>aO m h/\
CN a 267 #[b] m λa b=>aO b h/\
oA c a λa=>ay 1 l j λc=>St 1 b c a λa=>lA j i1 λb=>aD g i [b] a [j] k) fU) (aB 2 k (pt f) λa=>St 2 k (pt d) a λa=>aB 2 a (pt d) λb=>rt e b a)
def IN:qC L233 233:=λh=>sd (zA (zA (zB (zA (zB (zE 0 [15] [0,1,4,5,14] (zA (zA (zB (zB (zA (zF 0 [0,1,2,3,4,6,5,7,8,9,10] [])))))))))))) func233 h
def L234:Y2:=λ_ _ a b c=>Ld b a λa=>Br a (rt c (wi 18446744073709551615) b) (rt c (wi 0) b)
def IM:qC L234 234:=λh=>sd .e func234 h
def L235:Y5:=λa b c d e f g h=>lW g #[i0,sZ] 175 λg i=>Ld i c λj=>dg (.int .u32) (.agg #[i0,sZ]) true i j b λj=>lX j λj k=>lQ 2 i #[i0,sZ] 175 j λi j=>Br k (aB 2 j (pt i) λi=>St 2 j (pt g) i λi=>aB 2 i (pt g) λk=>rt h k i) (Ld j d λd=>CR h a 125 #[d,b] j λd i=>lQ 3 i nC 144 d λd i=>DR i λj=>Ld j e λe=>aB 3 j (pt d) λk=>Ld j f λl=>lD 1 (pt d) j λm=>Ld j f λf=>lD 2 (pt d) j λd=>∀n:Hp,
aM zQ (a.add n) l #[m] i (λi l=>aO l j/\
∀m:Hp,
aM zQ (a.add m) f #[d] l (λd f=>aO f j/\
∀l:Hp,
aM zQ (a.add l) e #[k,i,d] f (λa d=>aO d j/\
lW d #[i0,sZ] 175 λd e=>∀_:Hp,
St 2 e (pt d) a λa=>Ld a c λc=>aB 2 a (pt d) λe=>aY (.int .u32) a c b e λa=>aB 2 a (pt d) λb=>St 2 a (pt g) b λa=>aB 2 a (pt g) λb=>rt h b a) fU) fU) fU)
def xX:qF L235 235:=λh=>sd (hN 3 (zB (zE 1 [] [] (hr 0 [] 0 5 (hr 0 [] 6 3 (zE 1 [11] [] (zE 0 [5] [] (hr 0 [] 9 4 .e)))))))) func235 h
def L236:Y2:=λa b c d e=>Ld d c λc=>CR e a 237 #[c,b] d λa b=>rt e a b
def IL:qC L236 236:=λh=>sd .e func236 h
def L237:Y2:=λ_ a b c d=>oG a (iv 6) λe=>Br e (bu .u64 b λb=>lS a (iv 6) λe=>oR b e λb=>oA b (wi 1) λb=>Un .neg b λb=>rt d b c) (yB [(wi 0),i0] c λb c e f g=>lL f (iv 64) λh=>Br h (oR f a λa=>oA a i1 λa=>bu .u64 a λa=>oL a f λa=>oO e a λa=>lA f i1 λh=>aD b c [a,h] g [e,f] g) (rt d e g))
def IK:qC L237 237:=λh=>sd (hN 3 (zB (zA (zB (zF 0 [5,16] [0]))))) func237 h
def L238:Y1:=λa b c d=>aP b λe=>yA [i0] c λc f g h=>lL g e λe=>Br e (ay 2 b g λe=>aB 2 h e λe=>lQ 2 h #[i0,sZ] 175 e λe i=>jB (λj k=>Br j (rt d vF k) (lA g i1 λj=>aD c f [j] k [g] h)) λc=>DR i λf=>aB 2 f (pt e) λg=>∀j:Hp,
CN (a.add j) 268 #[g] i λa g=>aO g f/\
Un .not a λa=>Br a (JE c [vT] g) (lD 0 (pt e) f λa=>ay 2 b i0 λb=>aj 0 b λb=>Ld f b λb=>lN a b λa=>aG vF vT a λa=>JE c [a] g)) (rt d vT h)
def IJ:qB L238 238:=λh=>sd (zA (zB (zA (zB (zE 0 [7] [0,5,6] (zA (zA (zB (zB (zA (zE 1 [22] [0,5,6,7] (zE 1 [] [] (hr 0 [] 0 3 (.h 2 [3] [] (hr 0 [] 4 7 (zF 3 [11] [])) (hr 0 [] 4 8 .e))))))))))))))) func238 h
def L239:Y4:=λ_ a b c d e f=>aj 1 b λg=>Ld e g λg=>lI 1 g a e λg=>aj 1 c λc=>Ld e c λc=>lI 1 c a e λc=>oA g c λc=>aj 1 b λb=>Ld e b λb=>lI 1 b a e λb=>Un .xor b λb=>aj 1 d λd=>Ld e d λd=>lI 1 d a e λa=>oA b a λa=>oO c a λa=>rt f a e
def II:qE L239 239:=λh=>sd .e func239 h
def L240:Y1:=λa b c d=>CR d a 269 #[b] c λc e=>Un .not c λc=>Br c (rt d (tP sZ (iv 5)) e) (aP b λc=>lE c i0 λc=>Br c (rt d (tP sZ i0) e) (ay 2 b i0 λc=>aj 0 c λc=>Ld e c λc=>cJ 33 1 8 (wi 0) e c c λc e=>aP b λf=>yA [i0] e λe g h i=>lL h f λf=>Br f (ay 2 b h λb=>aB 2 i b λb=>lQ 2 i #[i0,sZ] 175 b λb f=>aB 2 f (pt b) λb=>CR d a 241 #[b] f λa b=>lX a λa _=>aP c λf=>yA [i0] b λb j k l=>lL k f λf=>Br f (jA (λf=>lA k i1 λm=>aD b j [m] f [k] l) λb=>oR a k λf=>oA f (wi 1) λf=>lE f (wi 1) λf=>Br f (DR l λf=>lI 1 c k f λf=>oL (wi 1) k λj=>ah .num .andNot a j λa=>oO f a λa=>ay 1 c k λf=>St 1 l f a λa=>JE b [] a) (JE b [] l)) (lA h i1 λa=>aD e g [a] l [h] i)) (rt d (tP c i0) i)))
def IG:qB L240 240:=λh=>sd (hN 4 (zB (zA (zB (zE 0 [23] [4,21,22] (zA (zA (zB (zB (hN 3 (zB (zE 0 [34] [4,7,21,22,23,33] (zA (zA (zE 1 [] [4,7,21,22,23,33,34] (zB (zA (zA (zB (zF 0 (yR 11) [])))))))))))))))))))) func240 h
def L241:Y1:=λa b c d=>lK c b 175 λb c=>aB 2 c (pt b) λe=>aq zQ 171 1 [(0,e)] c λc e=>CR d a 238 #[c] e λc e=>Un .not c λc=>Br c (rt d (tP (wi 0) (iv 5)) e) (lD 0 (pt b) e λc=>yB [(wi 0),i0] e λe f g h i=>lL h c λc=>Br c (jB (λc j=>lA h i1 λk=>aD e f [c,k] j [g,h] i) λc=>DR i λe=>aB 2 e (pt b) λf=>aB 2 e (pt b) λb=>CN a 271 #[f,h,vF] i λf j=>aO j e/\
CY 1 f λf=>CN a 271 #[b,h,vT] j λb j=>aO j e/\
CY 1 b λb=>CN a 270 #[f,b] j λa b=>aO b e/\
Un .not a λa=>Br a (oL (wi 1) h λa=>oO g a λa=>JE c [a] b) (JE c [g] b)) (rt d (tP g i0) i))
def IF:qB L241 241:=λh=>sd (hN 3 (zB (zA (zB (zE 0 [4,12] [1,11] (zA (zA (zE 1 [4] [1,11,12] (zB (zA (zB (zF 0 [0,1,4,5,2,3,6,7,8,9] [])))))))))))) func241 h
def L242:Y3:=λa b c d e f=>CR f a 269 #[b] e λe g=>Un .not e λe=>Br e (rt f (tP i0 (iv 5)) g) (jB (λe h=>lL d i0 λi=>lO i (λi=>oG d e λj=>(lV h j i)) λi=>lO (Value.bool i) (λi=>oR c e λj=>lN j (wi 0) λj=>(lV h j i)) λi=>Br (Value.bool i) (rt f (tP i0 (iv 2)) h) (oR c d λi=>oA i (wi 1) λi=>lE i (wi 1) λi=>Br i (rt f (tP i0 (iv 4)) h) (CR f a 272 #[b] h λh i=>yB [h,i0] i λh i j k l=>lL k e λe=>Br e (jB (λe m=>lA k i1 λn=>aD h i [e,n] m [j,k] l) λe=>oR c k λc=>oA c (wi 1) λc=>lE c (wi 1) λc=>Br c (CR f a 273 #[j,k] l λc h=>lX c λc _=>JE e [c] h) (JE e [j] l)) (CR f a 273 #[j,d] l λa c=>lX a λ_ a=>rt f (tP a i0) c)))) λa=>aP b λc=>lG c i0 λc=>Br c (ay 2 b i0 λb=>aj 0 b λb=>Ld g b λb=>JE a [b] g) (JE a [(iv 16)] g))
def IE:qD L242 242:=λh=>sd (hN 3 (.h 1 [8] [0,1,2] .e (.n (zB (zF 0 [] [1])) (zA (zA (zB (zA (zB (zE 0 [9,44] [1,2,43] (zA (zA (zF 1 [9] [1,2,43,44])))))))))))) func242 h
def L243:Y2:=λa b c d e=>CR e a 186 #[b] d λd f=>CR e a 186 #[c] f λa f=>lE d (iv 4) λg=>lO g (λg=>lE a (iv 4) λh=>(lV f h g)) λg=>lO (Value.bool g) (λg=>aP b λb=>aP c λc=>lN b c λb=>(lV f b g)) λg=>Br (Value.bool g) (rt e (iv 4) f) (Yw d a λa=>rt e a f)
def ID:qC L243 243:=λh=>sd (zA (zA (zB (zB (zF 0 [] [1]))))) func243 h
def L244:Y2:=λ_ a b c d=>aP a λe=>yA [i0] c λc f g h=>lL g e λe=>Br e (lI 1 a g h λa=>lE b a λa=>Br a (rt d g h) (lA g i1 λa=>aD c f [a] h [g] h)) (d (.returned (iv (-1))) h)
def IC:qC L244 244:=λh=>sd (zA (zB (zA (zB (zF 0 [8] [0,1,7]))))) func244 h
def L245:Y1:=λa b c d=>CR d a 174 #[b] c λa c=>Build zQ 317 [(0,b),(1,a)] λa=>lK c a 317 λa b=>rt d (pt a) b
def IB:qB L245 245:=λh=>sd .e func245 h
def L246:Y2:=λa b c d e=>Ld d b λf=>CR e a 247 #[f] d λ_ a=>Ld a b λb=>lM 2 b a λb=>St 1 a c b λa=>rt e (.tuple #[]) a
def uE(h:L246 g a0 a1 H R):lf zQ g 246 #[a0,a1] H R:=
 Be (hn:=.e) func246 h zK
def L247:Y1:=λa b c d=>lM 3 b c λe=>Un .not e λe=>Br e (CR d a 274 #[b] c λ_ a=>rt d (.tuple #[]) a) (rt d (.tuple #[]) c)
def xW:qB L247 247:=λh=>sd .e func247 h
def L248:Y2:=λa b c d e=>lM 0 b d λf=>CR e a 94 #[f,c] d λa c=>jA (λd=>rt e a d) λd=>lE a i0 λa=>Br a (lM 2 b c λa=>lA a i1 λa=>lC 2 b λb=>St 1 c b a λa=>JE d [] a) (JE d [] c)
def xV:qC L248 248:=λh=>sd (zA (zA (zF 1 [] [5]))) func248 h
def L249:Y2:=λ_ a b c d=>bu .i64 b λe=>lM 1 a c λf=>aP f λf=>lL e f λe=>lU e (λe=>lM 1 a c λa=>ay 5 a b λa=>aj 3 a λa=>Ld c a λa=>(lV c a e)) λe=>rt d (Value.bool e) c
def IA:qC L249 249:=λh=>sd (zA (zB (zF 0 [] [1]))) func249 h
def L250:Y2:=λ_ a b c d=>oP a λe=>Br e (rt d (iv 10) c) (lL b i0 λe=>lO e (λe=>lM 0 a c λa=>aP a λa=>oG b a λa=>(lV c a e)) λe=>Br (Value.bool e) (rt d (iv 2) c) (rt d i0 c))
def Iz:qC L250 250:=λh=>sd (zA (zB (zB (zA (zA (zB (zF 0 [] [1]))))))) func250 h
def L251:Y2:=λa b c d e=>jB (λf g=>Br f (rt e (iv 3) g) (rt e i0 g)) λf=>oQ c (ui 1) λg=>Split g false (CR e a 249 #[b,c] d λa b=>Un .not a λa=>aG vF vT a λa=>JE f [a] b) (aG vT vT undef λa=>JE f [a] d)
def Iy:qC L251 251:=λh=>sd (zA (zB (zF 1 [12] []))) func251 h
def L252:Y4:=λa b c d e f g=>Ld f c λh=>lM 2 h f λh=>dg (.int .u32) (.agg nC) true f h b λh=>lX h λh i=>lQ 3 f nC 144 h λ_ f=>lO i (λh=>oQ b (ui 1) λi=>(lV f i h)) λh=>Br (Value.bool h) (rt g (.tuple #[]) f) (Ld f d λd=>CR g a 152 #[d,b] f λd f=>lX d λd _=>lQ 3 f nC 144 d λd f=>DR f λh=>Ld h c λc=>lM 2 c h λc=>aB 3 h (pt d) λh=>∀_:Hp,
aY (.int .u32) f c b h λb=>Ld b e λc=>lD 1 (pt d) b λf=>aM zQ a c #[f] b (λ_ b=>Ld b e λc=>lD 2 (pt d) b λd=>aM zQ a c #[d] b (λ_ a=>rt g (.tuple #[]) a) (dy g)) (dy g))
def xU:qE L252 252:=λh=>sd (.n (zA (zB (zF 0 [] [1]))) (zA (zB (zE 1 [] [] (hr 0 [1] 0 7 .e))))) func252 h
def L253:Y1:=λ_ a b c=>lM 0 a b λd=>lA d i1 λd=>cJ 3 1 8 i0 b d d λb d=>lM 3 a d λe=>aP e λf=>yA [i0] d λd g h i=>lL h f λf=>Br f (jA (λf=>lA h i1 λj=>aD d g [j] f [h] i) λd=>lI 1 e h i λe=>lM 4 a i λf=>oR f h λf=>oA f (wi 1) λf=>lE f (wi 0) λf=>Br f (ay 1 b e λe=>St 1 i e i1 λe=>JE d [] e) (JE d [] i)) (lM 0 a i λa=>lS a i1 λa=>yA [a] i λa d e f=>oG e i0 λg=>Br g (DR f λg=>lI 1 b e g λh=>lA e i1 λi=>lI 1 b i g λg=>lA h g λg=>ay 1 b e λh=>∀_:Hp,
St 1 f h g λg=>lS e i1 λh=>aD a d [h] g [e] f) (rt c b f))
def Ix:qB L253 253:=λh=>sd (zA (zA (.n (zA (zB (zE 0 [18] [0,3,16,17] (zA (zA (zF 1 [] [0,3,16,17,18])))))) (zB (zA (zB (zE 0 [6] [3] (zA (zB (zB (zE 1 [] [] (hr 0 [1] 0 12 .e)))))))))))) func253 h
def L254:Y2:=λ_ a b c d=>oQ a (ui 1) λe=>Br e (Ld c b λe=>lM 0 e c λe=>rt d e c) (Ld c b λe=>lM 3 e c λe=>Ld c b λb=>lM 2 b c λb=>dg (.int .u32) (.agg nC) false c b a λa=>CY 0 a λa=>lI 1 e a c λa=>rt d a c)
def Iw:qC L254 254:=λh=>sd .e func254 h
def L255:Y5:=λa b c d e f g h=>lW g #[(wi 0),vF] 261 λg i=>DR i λj=>Ld j d λd=>Ld j e λk=>lI 1 k c j λc=>Ld j e λe=>Ld j f λf=>∀k:Hp,
aM zQ (a.add k) d #[b] i (λd i=>aO i j/\
DR2 i j λj=>∀k:Hp,
aM zQ (a.add k) f #[b] i (λb f=>aO f j/\
DR2 f j λi=>lI 1 e b i λb=>lS c b λb=>∀c:Hp,
CN (a.add c) 256 #[d,b] f λa b=>∀_:Hp,
St 2 b (pt g) a λa=>aB 2 a (pt g) λb=>rt h b a) fU) fU
def Iv:qF L255 255:=λh=>sd (zA (zB (zE 1 [] [] (hr 0 [1] 0 2 (hr 0 [1] 3 7 (zE 0 [2] [1] (zE 4 [] [] (zE 0 [10] [1] (zE 4 [] [] (hr 0 [1] 11 5 .e)))))))))) func255 h
def L256:Y2:=λ_ a b c d=>lK c a 261 λa c=>lW c #[(wi 0),vF] 261 λc e=>lE b i0 λf=>lO f (λf=>lD 0 (pt a) e λg=>lE g (wi 0) λg=>(lV e g f)) λf=>Br (Value.bool f) (aB 2 e (pt a) λf=>St 2 e (pt c) f λf=>aB 2 f (pt c) λg=>rt d g f) (lD 0 (pt a) e λf=>oL f b λf=>jA (λg=>aB 2 g (pt c) λh=>rt d h g) λd=>DR e λg=>lE f (wi 0) λh=>Br h (Build zQ 261 [(0,f),(1,vT)] λh=>∀_:Hp,
St 2 e (pt c) h λh=>JE d [] h) (oR f b λb=>lD 0 (pt a) g λa=>lN b a λa=>aG vF vT a λa=>Build zQ 261 [(0,f),(1,a)] λa=>∀_:Hp,
St 2 e (pt c) a λa=>JE d [] a))
def Iu:qC L256 256:=λh=>sd (zA (.n (zB (zF 0 [] [1])) (zA (zE 1 [] [4] (zE 1 [] [] (hr 0 [1] 0 3 (.h 2 [3] [] (hr 0 [1] 4 6 (zE 3 [10] [1] (hr 0 [1] 11 2 .e))) (hr 0 [1] 4 9 .e)))))))) func256 h
def L257:Y4:=λa b c d e f g=>lW f #[(wi 0),vF] 261 λf h=>Ld h c λi=>dg (.int .u32) (.agg #[(wi 0),vF]) true h i b λi=>lX i λi j=>lQ 2 h #[(wi 0),vF] 261 i λh i=>Br j (aB 2 i (pt h) λh=>St 2 i (pt f) h λh=>aB 2 h (pt f) λj=>rt g j h) (Ld i d λh=>lM 2 h i λh=>dg (.int .u32) (.agg nC) false i h b λh=>lQ 3 i nC 144 h λh i=>Ld i d λj=>lM 3 j i λj=>lD 0 (pt h) i λk=>lI 1 j k i λj=>lA j i1 λj=>lW i #[(wi 0),vF] 261 λi k=>jA (λl=>jA (λm=>Ld m c λc=>aB 2 m (pt i) λn=>aY (.int .u32) m c b n λb=>aB 2 b (pt i) λc=>St 2 b (pt f) c λb=>aB 2 b (pt f) λc=>rt g c b) λb=>Ld l d λc=>lM 4 c l λc=>lD 0 (pt h) l λf=>oR c f λc=>oA c (wi 1) λc=>lE c (wi 0) λc=>lO c (λc=>Ld l d λf=>lM 5 f l λf=>lD 0 (pt h) l λg=>oR f g λf=>oA f (wi 1) λf=>lE f (wi 1) λf=>(lV l f c)) λc=>Br (Value.bool c) (DR l λc=>aB 2 c (pt i) λf=>Ld c e λg=>lD 2 (pt h) c λm=>∀n:Hp,
aM zQ (a.add n) g #[m,j] l (λg m=>aO m c/\
∀c:Hp,
CN (a.add c) 258 #[f,g] m λc f=>∀_:Hp,
St 2 f (pt i) c λc=>JE b [] c) fU) (JE b [] l)) λb=>Ld k d λc=>lM 4 c k λc=>lD 0 (pt h) k λf=>oR c f λc=>oA c (wi 1) λc=>lE c (wi 0) λc=>lO c (λc=>Ld k d λd=>lM 5 d k λd=>lD 0 (pt h) k λf=>oR d f λd=>oA d (wi 1) λd=>lE d (wi 0) λd=>(lV k d c)) λc=>Br (Value.bool c) (DR k λc=>aB 2 c (pt i) λd=>Ld c e λe=>lD 1 (pt h) c λf=>∀g:Hp,
aM zQ (a.add g) e #[f,j] k (λe f=>aO f c/\
∀c:Hp,
CN (a.add c) 258 #[d,e] f λa c=>∀_:Hp,
St 2 c (pt i) a λa=>JE b [] a) fU) (JE b [] k))
def xS:qE L257 257:=λh=>sd (hN 5 (.h 1 [] [0,1,2,3,5,8,9,10] (zA (zB (zE 1 [] [] (hr 0 [1] 0 8 .e)))) (zE 1 [] [0,1,5,10] (zA (zB (zE 1 [] [] (hr 0 [1] 0 8 .e))))))) func257 h
variable {g:Gh} {a0 a1 a2 a3 a4 a5 a6 a7 a8 a9 uB uA a12 a13 a14 a15:zV} {H:Hp} {R:Rt}
def L258:Y2:=λ_ a b c d=>lK c a 261 λa c=>lK c b 261 λb c=>lW c #[(wi 0),vF] 261 λc e=>lD 0 (pt a) e λf=>lD 0 (pt b) e λg=>lA f g λf=>lD 1 (pt a) e λg=>lO g (λg=>lD 1 (pt b) e λb=>(lV e b g)) λg=>lO (Value.bool g) (λb=>lD 0 (pt a) e λa=>lL f a λa=>(lV e a b)) λb=>Build zQ 261 [(0,f),(1,(Value.bool b))] λa=>St 2 e (pt c) a λa=>aB 2 a (pt c) λb=>rt d b a
def Is:qC L258 258:=λh=>sd (zA (zA (zB (zF 0 [] [1])))) func258 h
def L259:Y2:=λa b c d e=>CR e a 250 #[b,c] d λd f=>lN d i0 λg=>Br g (rt e (tP sZ d) f) (lM 0 b f λb=>lI 1 b c f λb=>CR e a 276 #[b] f λb c=>CR e a 275 #[b] c λa b=>rt e (tP a i0) b)
def Ir:qC L259 259:=λh=>sd .e func259 h
def L260:Y3:=λa b c d e f=>lC 0 b λb=>CR f a 190 #[b,c] e λa b=>lQ 3 b nC 144 a λa b=>lD 0 (pt a) b λe=>lE e d λd=>Br d (lD 1 (pt a) b λd=>lD 2 (pt a) b λa=>rt f (tP d a) b) (rt f (tP c c) b)
def Iq:qD L260 260:=λh=>sd .e func260 h
def L261:Y2:=λa b c d e=>lK d c 144 λc d=>lD 0 (pt c) d λf=>lL f i0 λf=>lO f (λf=>lD 0 (pt c) d λg=>oG g (iv 64) λg=>(lV d g f)) λf=>Br (Value.bool f) (rt e (iv 2) d) (jB (λf g=>Br f (rt e (iv 3) g) (rt e i0 g)) λf=>lD 1 (pt c) d λg=>CR e a 249 #[b,g] d λd g=>Un .not d λd=>Split d false (lD 2 (pt c) g λc=>CR e a 249 #[b,c] g λa b=>Un .not a λa=>aG vF vT a λa=>JE f [a] b) (aG vT vT undef λa=>JE f [a] g))
def Ip:qC L261 261:=λh=>sd (zA (zB (zB (.n (zF 0 [] [1]) (zA (zF 1 [14] [])))))) func261 h
def L263:Y2:=λa b c d e=>lK d c 144 λc d=>lD 0 (pt c) d λf=>lL f i0 λf=>Br f (lM 0 b d λf=>CR e a 108 #[f] d λf g=>rt e f g) (DR d λf=>lM 0 b f λb=>lD 0 (pt c) f λc=>CN a 93 #[b,c] d λa b=>aO b f/\
lX a λa _=>rt e a b)
def Io:qC L263 263:=λh=>sd (zA (zA (zB (zF 0 (yR 12) [])))) func263 h
def L264(g:Gh)(a0 a1 a2 a3 a4 a5 a6:zV)(H:Hp)(R:Rt):Prop:=
Ld H a2 λa=>
lE a0 a λa=>
lO a (λa=>
Ld H a2 λb=>
lE a1 b λb=>
(lV H b a)) λa=>
Br (Value.bool a) (
Ld H a2 λa=>
rt R a H) (
Ld H a3 λa=>
lE a0 a λa=>
lO a (λa=>
lE a0 a1 λb=>
(lV H b a)) λa=>
Br (Value.bool a) (
rt R a1 H) (
Ld H a3 λa=>
lE a1 a λa=>
Br a (
rt R a0 H) (
Ld H a4 λa=>
lM 2 a H λa=>
lN a i0 λa=>
Br a (
rt R (ui 0) H) (
abN a0 a1 λa=>
Yw a0 a1 λb=>
Build zQ 337 [(0,a),(1,b)] λa=>
lQ 2 H #[(ui 0),(ui 0)] 337 a λa b=>
Ld b a5 λc=>
aB 2 b (pt a) λd=>
kG zQ 337 (ui 0) true b c d λc=>
lX c λc d=>
Br d (
rt R c b) (
Ld b a4 λc=>
CR R g 219 #[c,a0] b λb c=>
lX b λb d=>
lQ 3 c nC 144 b λb c=>
Ld c a4 λe=>
CR R g 219 #[e,a1] c λc e=>
lX c λc f=>
lQ 3 e nC 144 c λc e=>
lD 0 (pt b) e λh=>
jB (λi j=>
jA (λk=>
jA (λl=>
Ld l a6 λm=>
lD 1 (pt b) l λn=>
lD 1 (pt c) l λo=>
aM zQ g m #[n,o] l (λl m=>
DR m λn=>
Ld n a4 λo=>
Ld n a6 λp=>
lD 2 (pt b) n λq=>
lD 2 (pt c) n λr=>
aM zQ g p #[q,r] m (λm p=>
aO p n/\
CN g 220 #[o,i,l,m] p λi l=>
aO l n/\
Ld l a5 λm=>
aB 2 l (pt a) λa=>
iV zQ 337 l m a i λa=>
rt R i a) fU) (dy R)) λa=>
lG f d λi=>
Br i (
aj 1 (pt c) λi=>
St 1 k i a1 λi=>
aj 2 (pt c) λl=>
St 1 i l a1 λi=>
JE a [] i) (
JE a [] k)) λa=>
lG d f λi=>
Br i (
aj 1 (pt b) λi=>
St 1 j i a0 λi=>
aj 2 (pt b) λb=>
St 1 i b a0 λb=>
JE a [] b) (
JE a [] j)) λa=>
lL f d λb=>
Br b (
lD 0 (pt c) e λb=>
JE a [b] e) (
JE a [h] e))))))
def Im(h:L264 g a0 a1 a2 a3 a4 a5 a6 H R):sc g 264 #[a0,a1,a2,a3,a4,a5,a6] H R:=sd (zA (.n (zB (.n (zF 0 [] [1]) (zA (zB (zF 0 [] [1]))))) (hN 5 (.h 1 [17] [0,1,4,5,6,10,13,14,15,16] .e (.h 1 [] [1,4,5,6,10,13,14,15,16,17] .e (.h 1 [] [4,5,6,10,13,15,17] .e (zA (zB (zF 0 (yR 11) []))))))))) func264 h
def L265:Y2:=λ_ a b c d=>lK c a 295 λa c=>lK c b 295 λb c=>lD 1 (pt a) c λe=>lD 1 (pt b) c λf=>lL e f λe=>lO e (λe=>lD 1 (pt a) c λf=>lD 1 (pt b) c λg=>lE f g λf=>dh f true (λf=>lD 0 (pt a) c λa=>lD 0 (pt b) c λb=>lL a b λa=>(lV c a f)) (λf=>vF=Value.bool f) λf=>∀_:Fr,
(lV c (Value.bool f) e)) λe=>rt d (Value.bool e) c
def Il:qC L265 265:=λh=>sd (zA (zB (zF 0 [] [1]))) func265 h
def L266:Y1:=λ_ a b c=>oL i1 a λa=>oR a (wi 6) λa=>Yw i1 a λa=>rt c a b
def Ik:qB L266 266:=λh=>sd .e func266 h
def L267:Y1:=λ_ a b c=>oG a (iv 6) λd=>Br d (rt c (wi 18446744073709551615) b) (oL (wi 1) a λa=>oL (wi 1) a λa=>lS a (wi 1) λa=>rt c a b)
def Ij:qB L267 267:=λh=>sd .e func267 h
def L268:Y1:=λa b c d=>lK c b 175 λb c=>jB (λe f=>Br e (rt d vF f) (DR f λe=>lD 1 (pt b) e λg=>lD 1 (pt b) e λh=>aP h λh=>lS h i1 λh=>lI 1 g h e λg=>lD 0 (pt b) e λh=>CN a 267 #[h] f λf h=>aO h e/\
ah .num .andNot g f λe=>lE e (wi 0) λe=>rt d e h)) λd=>DR c λe=>lD 0 (pt b) e λf=>lL f i0 λf=>Br f (JE d [vT] c) (lD 0 (pt b) e λf=>lG f (iv 16) λf=>aG vF vT f λf=>Br f (JE d [vT] c) (lD 1 (pt b) e λf=>aP f λf=>lD 0 (pt b) e λb=>∀g:Hp,
CN (a.add g) 266 #[b] c λa b=>aO b e/\
lN f a λa=>aG vF vT a λa=>JE d [a] b))
def Ii:qB L268 268:=λh=>sd (zA (.n (zE 1 [19] [1] (zE 1 [] [] (hr 0 [] 0 3 (.h 2 [3] [] (hr 0 [] 4 3 (hr 3 [] 7 2 (hr 0 [] 9 7 (zF 3 [16] [])))) (hr 0 [] 4 4 (.h 2 [8] [] (hr 0 [] 9 7 (zF 3 [16] [])) (hr 0 [] 9 8 .e))))))) (zB (zF 0 (yR 14) [])))) func268 h
def L269:Y1:=λa b c d=>aP b λe=>yA [i0] c λc f g h=>lL g e λe=>Br e (ay 2 b g λe=>aB 2 h e λe=>lQ 2 h #[i0,sZ] 175 e λe i=>jB (λj k=>Br j (rt d vF k) (lA g i1 λj=>aD c f [j] k [g] h)) λc=>DR i λf=>aB 2 f (pt e) λg=>∀j:Hp,
CN (a.add j) 268 #[g] i λa g=>aO g f/\
Un .not a λa=>Br a (JE c [vT] g) (lD 0 (pt e) f λa=>ay 2 b i0 λb=>aj 0 b λb=>Ld f b λb=>lN a b λa=>aG vF vT a λa=>JE c [a] g)) (rt d vT h)
def Ih:qB L269 269:=λh=>sd (zA (zB (zA (zB (zE 0 [7] [0,5,6] (zA (zA (zB (zB (zA (zE 1 [22] [0,5,6,7] (zE 1 [] [] (hr 0 [] 0 3 (.h 2 [3] [] (hr 0 [] 4 7 (zF 3 [11] [])) (hr 0 [] 4 8 .e))))))))))))))) func269 h
def L270:Y2:=λ_ a b c d=>aP a λe=>aP b λf=>lN e f λe=>Br e (rt d vF c) (aP a λe=>yA [i0] c λc f g h=>lL g e λe=>Br e (lI 1 a g h λa=>lI 1 b g h λb=>lN a b λa=>Br a (rt d vF h) (lA g i1 λa=>aD c f [a] h [g] h)) (rt d vT h))
def Ig:qC L270 270:=λh=>sd (zA (zA (zB (zA (zB (zF 0 [13] [0,1,12])))))) func270 h
def L271:Y3:=λa b c d e f=>lK e b 175 λb e=>lK e c 3 λc e=>lK e d 4 λd e=>lW e #[i0,sZ] 175 λe g=>lD 0 (pt b) g λh=>CR f a 233 #[h,(.func (.func 277) #[] #[(pt c),(pt d),(pt b)])] g λa b=>St 2 b (pt e) a λa=>aB 2 a (pt e) λb=>rt f b a
def Ie:qD L271 271:=λh=>sd .e func271 h
def L272:Y1:=λa b c d=>gO c λc e=>aP b λf=>yA [i0] e λe g h i=>lL h f λf=>Br f (ay 2 b h λb=>aB 2 i b λb=>lQ 2 i #[i0,sZ] 175 b λb f=>aB 2 f (pt b) λb=>CR d a 278 #[c,b] f λ_ a=>lA h i1 λb=>aD e g [b] a [h] i) (rt d c i)
def Ic:qB L272 272:=λh=>sd (zA (zA (zB (zA (zB (zF 0 [9] [3,7,8])))))) func272 h
def L273:Y2:=λa b c d e=>gO d λd f=>Rng f b λb f=>yA [i0] f λf g h i=>ZD i b λj k=>Ext 0 j λj=>Br j (KJ k b λb=>Ext 1 b λb=>lQ 2 k #[i0,sZ] 175 b λb j=>aB 2 j (pt b) λl=>CR e a 279 #[l,c,vF] j λj l=>lX j λj _=>lQ 2 l #[i0,sZ] 175 j λj l=>aB 2 l (pt b) λb=>CR e a 279 #[b,c,vT] l λb c=>lX b λb _=>lQ 2 c #[i0,sZ] 175 b λb c=>DR c λl=>aB 2 l (pt j) λm=>aB 2 l (pt b) λn=>CN a 280 #[m] c λc m=>aO m l/\
CN a 280 #[n] m λa m=>aO m l/\
jB (λl n=>DR n λo=>aB 2 o (pt j) λj=>aB 2 o (pt b) λb=>aY (.string) n d c j λj=>aO j o/\
aY (.string) j d a b λb=>aD f g [l] b [h] i) λb=>ah .str .neq c a λa=>Br a (lA h i1 λa=>JE b [a] m) (JE b [h] m)) (rt e (tP d h) k)
def Ib:qC L273 273:=λh=>sd (zA (zA (zB (zA (zB (zE 0 [7] [1,6,18] (zA (zA (zB (hN 3 (.n (zF 0 [0,2,1,3,4,5] []) (.h 1 [7] [1,6,10,12,14,15,18] .e (zF 0 (yR 8) []))))))))))))) func273 h
def L274:Y1:=λa b c d=>DR c λe=>lM 0 b e λf=>lM 1 b e λg=>CN a 176 #[f,g] c λa c=>aO c e/\
lX a λa _=>lM 2 b c λe=>lA e a λa=>lC 2 b λb=>St 1 c b a λa=>rt d (.tuple #[]) a
def Ia:qB L274 274:=λh=>sd (zB (zF 0 (yR 14) [])) func274 h
def L275:Y1:=λa b c d=>CR d a 281 #[b] c λb c=>CR d a 282 #[b] c λ_ a=>rt d b a
def H9:qB L275 275:=λh=>sd .e func275 h
def L276:Y1:=λ_ a b c=>lK b a 105 λa b=>c (.returned (.func (.func 283) #[] #[(pt a)])) b
def H8:qB L276 276:=λh=>sd .e func276 h
def L277:Y4:=λa b c d e f g=>Ld f c λh=>oG h (iv 6) λh=>Br h (Ld f c λh=>lS h (iv 6) λh=>oL i1 h λh=>ah .num .andNot b h λh=>jB (λi j=>aj 1 e λk=>Ld j k λk=>lI 1 k i j λi=>rt g i j) λi=>Ld f d λj=>Br j (Ld f c λj=>lS j (iv 6) λj=>oL i1 j λj=>oO h j λj=>JE i [j] f) (JE i [h] f)) (DR f λh=>Ld h c λi=>Ld h c λc=>oL i1 c λc=>CN a 237 #[i,i0] f λa f=>aO f h/\
Ld f d λd=>Br d (aj 1 e λd=>Ld f d λd=>lI 1 d b f λd=>oA d a λd=>oR d c λh=>oO d h λd=>rt g d f) (aj 1 e λd=>Ld f d λd=>lI 1 d b f λb=>ah .num .andNot b a λa=>oL a c λb=>oO a b λa=>rt g a f))
def H7:qE L277 277:=λh=>sd (zA (.n (zA (zB (zA (zF 1 [6] [3])))) (zB (zF 0 [0,2,3,1,4,5] [])))) func277 h
def L278:Y2:=λa b c d e=>lK d c 175 λc d=>DR d λf=>aB 2 f (pt c) λg=>aB 2 f (pt c) λc=>CN a 280 #[g] d λa d=>aO d f/\
aY (.string) d b a c λa=>rt e (.tuple #[]) a
def H6:qC L278 278:=λh=>sd (zA (zF 0 [0,1,3,2,4] [])) func278 h
def L279:Y3:=λa b c d e f=>lK e b 175 λb e=>lW e #[i0,sZ] 175 λe g=>aB 2 g (pt b) λh=>CR f a 284 #[h,c] g λg h=>lN g i0 λi=>Br i (Build zQ 175 [] λi=>St 2 h (pt e) i λi=>aB 2 i (pt e) λj=>rt f (tP j g) i) (aB 2 h (pt b) λb=>CR f a 271 #[b,c,d] h λa b=>St 2 b (pt e) a λa=>aB 2 a (pt e) λb=>rt f (tP b i0) a)
def HZ:qD L279 279:=λh=>sd .e func279 h
def L280:Y1:=λ_ a b c=>lK b a 175 λa b=>lD 1 (pt a) b λa=>aP a λd=>yB [sZ,i0] b λb e f g h=>lL g d λd=>Br d (lI 1 a g h λa=>yB [f,i0] h λd i j k l=>lL k (iv 8) λm=>Br m (oM (iv 8) k λm=>oR a m λa=>bu .u8 a λa=>aq zQ 357 1 [(0,a)] l λa m=>App zQ 5 1 1 (bi 0) m j a λa m=>lA k i1 λn=>aD d i [a,n] m [j,k] l) (lA g i1 λa=>aD b e [j,a] l [f,g] h)) (lT h f λa=>rt c a h)
def HY:qB L280 280:=λh=>sd (zA (zA (zB (zA (zB (zE 0 [3,10] [8,9] (zA (zA (zB (zB (zA (zA (zB (zF 0 [3,14] [5,8,9,10])))))))))))))) func280 h
def L281:Y1:=λa b c d=>CR d a 285 #[sZ,b] c λa b=>rt d a b
def HX:qB L281 281:=λh=>sd .e func281 h
def L282:Y1:=λa b c d=>aP b λe=>bu .u64 e λf=>CR d a 97 #[f] c λc f=>CR d a 286 #[b,i0,e,c] f λ_ a=>rt d (.tuple #[]) a
def HW:qB L282 282:=λh=>sd .e func282 h
def L284:Y2:=λa b c d e=>lK d b 175 λb d=>aB 2 d (pt b) λf=>aq zQ 171 1 [(0,f)] d λd f=>CR e a 238 #[d] f λa d=>Un .not a λa=>Br a (rt e (iv 5) d) (lL c i0 λa=>lO a (λa=>lD 0 (pt b) d λb=>oG c b λb=>(lV d b a)) λa=>Br (Value.bool a) (rt e (iv 2) d) (rt e i0 d))
def HV:qC L284 284:=λh=>sd (zA (zB (zB (zA (zA (zB (zF 0 [] [1]))))))) func284 h
end Go.Proofs
namespace Go.Sx
open Go
variable{P:Program}{g:Gh}{H:Hp}
section
variable{args:Array zV}{Q:zV->Hp->Prop}
def aJ{f:FuncId}{C:Hp}(h:∀g,bG P g f args C (aQ Q)):Fc P f args C Q:=h
variable{b ο:Nat}{c:Array zV}{fz:Nat×Nat}{k:zV->Prop}
def Ld.q{T:TypeId}{v:zV}(h:k v)(hm:(b,Obj.cells c T fz)∈H:=by repeat (first|exact List.Mem.head _|apply List.Mem.tail|apply xaa))(hc:c[ο]? =some v:=by rfl):Ld H (.pointer (some ⟨b,ο,none⟩)) k:=.mk hm hc h
variable{o:Nat}
def Ld.f{T:TypeId}{v:zV}(h:k v)(hm:(b,Obj.cells c T fz)∈H:=by repeat (first|exact List.Mem.head _|apply List.Mem.tail|apply xaa))(hc:c[o+ο]? =some v:=by rfl):aj ο (.pointer (some ⟨b,o,none⟩)) λp=>Ld H p k:=.mk (.mk hm hc h)
def Ld.n{T:TypeId}{v:zV}(h:k v)(hm:(b,Obj.cells c T fz)∈H:=by repeat (first|exact List.Mem.head _|apply List.Mem.tail|apply xaa))(hc:c[o+ο]? =some v:=by rfl):Nil (.pointer (some ⟨b,o,none⟩)) λq=>aj ο q λp=>Ld H p k:=.γ (.mk (.mk hm hc h))
def Ld.u{T:TypeId}{v:zV}(hm:(b,Obj.cells c T fz)∈H)(h:k v)(hc:c[o+ο]? =some v:=by rfl):aj ο (.pointer (some ⟨b,o,none⟩)) λp=>Ld H p k:=.mk (.mk hm hc h)
def Ld.v{T:TypeId}{v:zV}(hm:(b,Obj.cells c T fz)∈H)(h:k v)(hc:c[o+ο]? =some v:=by rfl):Nil (.pointer (some ⟨b,o,none⟩)) λq=>aj ο q λp=>Ld H p k:=.γ (.mk (.mk hm hc h))
def aB.q{b n:Nat}{r:List zV}{T:TypeId}{K:zV->Prop}(h:K (.agg r.toArray))(hm:(b,Obj.cells r.toArray T fz)∈H:=by repeat (first|exact List.Mem.head _|apply List.Mem.tail|apply xaa))(hr:r.length=n:=by rfl):aB n H (.pointer (some ⟨b,0,none⟩)) K:=.whole hm hr h
def St.q{b n:Nat}{T:TypeId}{r:List zV}{H':Hp}{K:Hp->Prop}(h:K H')(hu:df b (.cells c T zZ) (.cells r.toArray T zZ) H H':=by repeat (first|exact df.head _|apply df.tail|apply df.cf))(hs:c.size=n:=by rfl)(hr:r.length=n:=by rfl)(h1:∀v∈r,v.oneCell'=true:=by simp[Value.oneCell']):
  St n H (.pointer (some ⟨b,0,none⟩)) (.agg r.toArray) K:=.whole hu hs hr h1 h
def St.p{b n:Nat}{T:TypeId}{r:List zV}{H':Hp}{K:Hp->Prop}(h1:∀v∈r,v.oneCell'=true)(h:K H')(hu:df b (.cells c T zZ) (.cells r.toArray T zZ) H H':=by repeat (first|exact df.head _|apply df.tail|apply df.cf))(hs:c.size=n:=by rfl)(hr:r.length=n:=by rfl):
  St n H (.pointer (some ⟨b,0,none⟩)) (.agg r.toArray) K:=.whole hu hs hr h1 h
section
variable {kd yD:IntKind} {a b:Nat} {k:zV->Prop}
def ah.fT(h:k (.int kd ((a+b:Nat):Int)))(hr:a+b<bI kd:=by first|(simp[bI];omega)|(simp only[bI];omega)|simp[bI]):ah .num .add (.int kd a) (.int kd b) k:=.Ce hr h
def ah.inc(h:k (.int kd ((a+1:Nat):Int)))(hr:a+1<bI kd:=by first|(simp[bI];omega)|(simp only[bI];omega)|simp[bI]):ah .num .add (.int kd a) (.int kd 1) k:=.Ce hr h
def ah.cj(h:k (.int kd ((a-b:Nat):Int)))(ha:a<bI kd:=by first|(simp[bI];omega)|(simp only[bI];omega)|simp[bI])(hb:b<=a:=by omega):ah .num .sub (.int kd a) (.int kd b) k:=.yp ha hb h
def ah.yC(h:k (.int kd ((a*b:Nat):Int)))(hr:a*b<bI kd:=by first|(simp[bI];omega)|(simp only[bI];omega)|simp[bI]):ah .num .mul (.int kd a) (.int kd b) k:=.Gs hr h
def bu.q(h:k (.int kd (a:Int)))(ha:a<bI kd:=by first|(simp[bI];omega)|(simp only[bI];omega)|simp[bI]):bu kd (.int yD a) k:=.nat ha h
end
def Br.T{p:Prop}[Decidable p]{t f:Prop}(h:t)(hp:p:=by first|omega|decide|simp):Br (.bool (decide p)) t f:=.afe hp h
def Br.F{p:Prop}[Decidable p]{t f:Prop}(h:f)(hp:¬p:=by first|omega|decide|simp):Br (.bool (decide p)) t f:=.Ut hp h
variable{K:zV->Hp->Prop}{KP:List PanicEntry->Hp->Prop}
def ae.fq{f:FuncId}{C:Hp}{c:Hp->Hp}(hc:Fc P f args C Q)
 (hk:∀v C',Q v C'->K v (c C'))(hh:bE C H c:=by repeat (first|exact bE.here|exact bE.left|apply bE.cons|apply bE.app)):ae P g f args H K KP:=.fn hh hc hk
variable{B:Hp}
def ae.rq{f:FuncId}{c:Hp->Hp}{Q:zV->Prop}(hc:Rd P f args B Q)
 (hk:∀v,Q v->K v H)(hh:bE B H c:=by repeat (first|exact bE.here|exact bE.left|apply bE.cons|apply bE.app)):ae P g f args H K KP:=.rd hh hc hk
def ae.eq{f:FuncId}{c:Hp->Hp}{v:zV}(hc:Rd P f args B (· =v))
 (hk:K v H)(hh:bE B H c:=by repeat (first|exact bE.here|exact bE.left|apply bE.cons|apply bE.app)):ae P g f args H K KP:=.rd hh hc λ_ h=>by subst h;exact hk
def ae.eh{f:FuncId}{c:Hp->Hp}{v:zV}(hh:bE B H c)(hc:Rd P f args B (· =v))
 (hk:K v H):ae P g f args H K KP:=.rd hh hc λ_ h=>by subst h;exact hk
def ae.pq{f:FuncId}{c:Hp->Hp}(hc:Px P f args B Q)
 (hk:∀v N,Q v (N++B)->K v (c (N++B)))(hh:bE B H c:=by repeat (first|exact bE.here|exact bE.left|apply bE.cons|apply bE.app)):ae P g f args H K KP:=.px hh hc hk
def Ext.two{x y:zV}{k:zV->zV->Prop}(h:k x y):Ext 0 (.tuple #[x,y]) λa=>Ext 1 (.tuple #[x,y]) λb=>k a b:=.mk rfl (.mk rfl h)
end
end Go.Sx
set_option maxRecDepth 100000
namespace Go.Proofs
open Go Go.Sx Tryz
section
def xE{B:Hp}{s:zV}{n:Int}{K:zV->Hp->Prop}(h:∀b,K (.slice (some ⟨b,0,none⟩) 1 1) ((b,.cells #[iv n,s] 175 zZ)::B)):
  aq zQ 171 1 [(0,.agg #[iv n,s])] B K:=
 aq.one (r:=[iv n,s]) (e:=175) (k:=2) (z:=.agg #[iv 0,.slice none 0 0]) zK zK zK zD rfl h
variable{G:Nat->Nat}
def Gc{W:Nat}:((List.range W).map λk=>if k<W then G k else 0)=(List.range W).map G:=by apply xbn;intro k hk;rw[xae (xaN.1 hk)]
def vj{n:Nat}{ws:zL}(h:an.eU n ws):ws.length<=4294967296:=by have:=h.len;have:=an.yY h.yz;omega
def bT{B:Hp}{s:zV}{ws:zL}(h:Words B s ws):s.oneCell'=true:=by obtain⟨a,c,rfl,_⟩:=h.1.shape;rfl
def Ny{W i:Nat}(hi:i<W):(iw ((List.range W).map λk=>if k<i then G k else 0)).set i ((G i:Nat):Int)=iw ((List.range W).map λk=>if k<i+1 then G k else 0):=by
 apply xba;intro j;unfold iw;by_cases e:i=j
 ·subst e;simp[hi]
 rw[xbw e];by_cases hj:j<W
 ·simp only[xaq,xdH hj,xcj];by_cases h2:j<i
  ·rw[xae h2,xae zO]
  rw[xac h2,xac zO]
 rw[xaB zP,xaB zP]
def range_zero{W:Nat}:List.replicate W (0:Int)=iw ((List.range W).map λk=>if k<0 then G k else 0):=by
 apply xba;intro j;unfold iw;by_cases hj:j<W
 ·simp[hj]
 rw[xaB zP,xaB zP]
def lJ{n:Nat}(hn:n<=16):an.wN n<=9223372036854775807/\an.wN n*8<=281474976710656:=by have:=an.yY hn;omega
end
section
def fE(l:List Bool):Array zV:=(l.map Value.bool).toArray
def HC(l:List Bool)(i:Nat)(b:Bool):(fE l).setIfInBounds i (.bool b)=fE (l.set i b):=by simp[fE,xcC]
def Gx(n:Nat):madeCells (Value.cells (.bool false)) (n*1)=fE (List.replicate n false):=by
 apply Array.ext
 ·simp[madeCells,fE]
 intro i h1 h2;simp[madeCells,fE,Value.cells,Nat.mod_one]
def Fi(B:Hp)(v:zV)(l:List Bool):Prop:=Sl 1 B v (l.map λb=>[Value.bool b])
def Fi.block{B:Hp}{b cap:Nat}{l:List Bool}{T:TypeId}{fz:Nat×Nat}(hm:(b,Obj.cells (fE l) T fz)∈B)(hc:l.length<=cap):Fi B (.slice (some ⟨b,0,none⟩) l.length cap) l:=by
 refine⟨λr hr=>by obtain⟨b,_,rfl⟩:=xal.1 hr;rfl,.inr ⟨b,0,cap,_,T,fz,by simp,by simpa using hc,hm,by simp[fE],λi r hi j v hj=>?_⟩⟩;rw[xaq]at hi;cases hl:l[i]? with
 |none=>rw[hl]at hi;simp at hi
 |some n=>
  rw[hl]at hi;simp only[xcj,xat]at hi;subst hi;cases j with
  |zero=>
   simp only[xcR,xat]at hj;subst hj;simp[fE,hl]
  |succ j=>simp at hj
def Fi.ld{kd:IntKind}{B H:Hp}{v:zV}{l:List Bool}(h:Fi B v l){i:Nat}{b:Bool}(hi:l[i]? =some b)(hs:∀x∈B,x∈H){K:zV->Prop}(hk:K (.bool b)):ay 1 v (.int kd (i:Int)) (λp=>Ld H p K):=
 ay.sl h (by rw[xaq,hi];rfl) λp hp=>Ld.at hp hs hk
def cJ.UJ{H:Hp}{T:TypeId}{kl:IntKind}{n:Nat}{K:zV->Hp->Prop}(cB:n<=281474976710656)
 (h:∀b,K (.slice (some ⟨b,0,none⟩) n n) ((b,.cells (fE (List.replicate n false)) T zZ)::H)):cJ T 1 1 (.bool false) H (.int kl n) (.int kl n) K:=
 ⟨kl,kl,n,n,rfl,rfl,xai _,by omega,by omega,λb _=>by rw[Gx];exact h b⟩
def St.UJ{H:Hp}{b i:Nat}{l:List Bool}{x:Bool}{T:TypeId}{H':Hp}{K:Hp->Prop}(hu:df b (.cells (fE l) T zZ) (.cells (fE (l.set i x)) T zZ) H H')(hi:i<l.length)(h:K H'):
  St 1 H (.pointer (some ⟨b,0+i*1,none⟩)) (.bool x) K:=
 St.one (c:=fE l) (c':=fE (l.set i x)) hu rfl (by simpa[fE]using hi) (by rw[xa1,xb8];exact HC l i x) h
def M7(n:Nat)(L:List (zL)):List Tb:=L.map λws=>⟨n,ws⟩
def qH(n:Nat)(L:List (zL)):(M7 n L).length=L.length:=by simp[M7]
end
end Go.Proofs
namespace ax
open an
def dx{x u v:Nat}{b c:Bool}(h:u≠v):aC (aC x u b) v c=aC (aC x v c) u b:=by
 apply xaV;intro k;rw[ak,ak,ak,ak];by_cases e1:k=u<;>by_cases e2:k=v
 ·exact absurd (e1.symm.trans e2) h
 ·simp[e1,h]
 ·simp[e2,xa9 h]
 simp[e1,e2]
structure Nd where
 v:Nat
 lo:Nat
 hi:Nat
deriving DecidableEq
abbrev eM:=Nat->Option Nd
abbrev Fn:=Nat->Bool
def live(N:eM)(r:Nat):Prop:=r<2\/∃d,N r=some d
def ι(n:Nat)(ai:Nat->Nat)(N:eM)(r:Nat):Nat:=match N r with|some d=>ai d.v|none=>n
structure WF(n:Nat)(ai:Nat->Nat)(N:eM):Prop where
 two:∀{r d},N r=some d->2<=r
 var:∀{r d},N r=some d->d.v<n
 ne:∀{r d},N r=some d->d.lo≠d.hi
 lo:∀{r d},N r=some d->live N d.lo/\ai d.v<ι n ai N d.lo
 hi:∀{r d},N r=some d->live N d.hi/\ai d.v<ι n ai N d.hi
 uq:∀{r r' d},N r=some d->N r'=some d->r=r'
structure jY(n:Nat)(ai:Nat->Nat):Prop where
 lt:∀v,v<n->ai v<n
 inj:∀u v,u<n->v<n->ai u=ai v->u=v
structure Interp(N:eM)(S:Nat->Fn):Prop where
 zero:∀x,S 0 x=false
 one:∀x,S 1 x=true
 node:∀{r d},N r=some d->∀x,S r x=if x.testBit d.v then S d.hi x else S d.lo x
variable {n:Nat} {ai:Nat->Nat} {N:eM} {S:Nat->Fn}
variable{r:Nat}
def aV(h:N r=none):ι n ai N r=n:=by unfold ι;rw[h]
variable{d:Nd}
def au(h:N r=some d):ι n ai N r=ai d.v:=by unfold ι;rw[h]
def WF.iN(h:WF n ai N)(hl:jY n ai)(r:Nat):ι n ai N r<=n:=by
 cases e:N r with
 |none=>rw[aV e];exact xai _
 |some d=>rw[au e];exact xce (hl.lt _ (h.var e))
def WF.const(h:WF n ai N)(hr:r<2):N r=none:=by
 cases e:N r with
 |none=>rfl
 |some d=>have:=h.two e;omega
def WF.indep(h:WF n ai N)(hl:jY n ai)(hi:Interp N S):∀(k r:Nat),n-ι n ai N r<=k->live N r->∀v,v<n->ai v<ι n ai N r->∀x b,S r (aC x v b)=S r x:=by
 intro k;induction k with
 |zero=>
  intro r hk hr v hv η x b;rcases hr with hr|⟨d,hd⟩
  ·have:r=0\/r=1:=by omega
   rcases this with rfl|rfl
   ·rw[hi.zero,hi.zero]
   rw[hi.one,hi.one]
  have h1:=hl.lt _ (h.var hd);rw[au hd]at hk;omega
 |succ k ih=>
  intro r hk hr v hv η x b;rcases hr with hr|⟨d,hd⟩
  ·have:r=0\/r=1:=by omega
   rcases this with rfl|rfl
   ·rw[hi.zero,hi.zero]
   rw[hi.one,hi.one]
  rw[au hd]at hk η;have h1:=hl.lt _ (h.var hd);obtain⟨l1,l2⟩:=h.lo hd;obtain⟨m1,m2⟩:=h.hi hd;have ξ:d.v≠v:=λe=>by rw[e]at η;omega
  rw[hi.node hd,hi.node hd,ak,xac ξ,ih d.lo zO l1 v hv zO,ih d.hi zO m1 v hv zO]
def WF.bO(h:WF n ai N)(hl:jY n ai)(hi:Interp N S)(hr:live N r){v:Nat}(hv:v<n)(η:ai v<ι n ai N r)(x:Nat)(b:Bool):S r (aC x v b)=S r x:=
 h.indep hl hi _ r (xai _) hr v hv η x b
def WF.child(h:WF n ai N)(hl:jY n ai)(hi:Interp N S)(hd:N r=some d)(x:Nat)(b:Bool):S r (aC x d.v b)=S (if b then d.hi else d.lo) x:=by
 obtain⟨l1,l2⟩:=h.lo hd;obtain⟨m1,m2⟩:=h.hi hd;rw[hi.node hd,ak,xae rfl];cases b
 ·simp only[xaR,xa2];exact h.bO hl hi l1 (h.var hd) l2 x false
 simp only[xa5];exact h.bO hl hi m1 (h.var hd) m2 x true
def WF.canon(h:WF n ai N)(hl:jY n ai)(hi:Interp N S):∀(k r r':Nat),(n-ι n ai N r)+(n-ι n ai N r')<=k->live N r->live N r'->(∀x,S r x=S r' x)->r=r':=by
 intro k;induction k with
 |zero=>
  intro r r' hk hr hr' he;have hc:∀{r},n-ι n ai N r=0->live N r->r<2:=by
   intro r hk hr;rcases hr with hr|⟨d,hd⟩
   ·exact hr
   have h1:=hl.lt _ (h.var hd);rw[au hd]at hk;omega
  have h1:=hc zO hr;have h2:=hc zO hr';have e0:=he 0;have:r=0\/r=1:=by omega
  have h3:r'=0\/r'=1:=by omega
  rcases this with rfl|rfl<;>rcases h3 with rfl|rfl<;>simp[hi.zero,hi.one]at e0<;>rfl
 |succ k ih=>
  have Va:∀r r',(n-ι n ai N r)+(n-ι n ai N r')<=k+1->live N r'->(∀x,S r x=S r' x)->∀d,N r=some d->ai d.v<ι n ai N r'->False:=by
   intro r r' hk hr' he d hd η;obtain⟨l1,l2⟩:=h.lo hd;obtain⟨m1,m2⟩:=h.hi hd;have hv:=h.var hd;have h1:=hl.lt _ hv;have d1:=h.iN hl d.lo;have d2:=h.iN hl d.hi;have d3:=h.iN hl r';rw[au hd]at hk;have a1:d.lo=r':=ih d.lo r' zO l1 hr' λx=>by
    have:=h.child hl hi hd x false;simp only[xaR,xa2]at this;rw[<-this,he,h.bO hl hi hr' hv η]
   have a2:d.hi=r':=ih d.hi r' zO m1 hr' λx=>by
    have:=h.child hl hi hd x true;simp only[xa5]at this;rw[<-this,he,h.bO hl hi hr' hv η]
   exact h.ne hd (a1.trans a2.symm)
  intro r r' hk hr hr' he;rcases hr with hr|⟨d,hd⟩
  ·rcases hr' with hr'|⟨d',dF⟩
   ·have e0:=he 0;have:r=0\/r=1:=by omega
    have h3:r'=0\/r'=1:=by omega
    rcases this with rfl|rfl<;>rcases h3 with rfl|rfl<;>simp[hi.zero,hi.one]at e0<;>rfl
   refine(Va r' r zO (.inl hr) (λx=>(he x).symm) d' dF ?_).elim;rw[aV (h.const hr)];exact hl.lt _ (h.var dF)
  rcases xcu (ai d.v) (ι n ai N r')with η|heq|hgt
  ·exact(Va r r' hk hr' he d hd η).elim
  ·rcases hr' with hr'|⟨d',dF⟩
   ·rw[aV (h.const hr')]at heq;have:=hl.lt _ (h.var hd);omega
   rw[au dF]at heq;have hv:=hl.inj _ _ (h.var hd) (h.var dF) heq;obtain⟨l1,l2⟩:=h.lo hd;obtain⟨m1,m2⟩:=h.hi hd;obtain⟨l1',l2'⟩:=h.lo dF;obtain⟨m1',m2'⟩:=h.hi dF;have h1:=hl.lt _ (h.var hd);have d1:=h.iN hl d.lo;have d2:=h.iN hl d.hi;have d1':=h.iN hl d'.lo;have d2':=h.iN hl d'.hi;rw[au hd,au dF]at hk;have c1:=λx=>h.child hl hi hd x false;have c2:=λx=>h.child hl hi hd x true;have c1':=λx=>h.child hl hi dF x false;have c2':=λx=>h.child hl hi dF x true;simp only[xaR,xa2,xa5]at c1 c2 c1' c2';have a1:d.lo=d'.lo:=ih d.lo d'.lo zO l1 l1' λx=>by rw[<-c1,<-c1',he,hv]
   have a2:d.hi=d'.hi:=ih d.hi d'.hi zO m1 m1' λx=>by rw[<-c2,<-c2',he,hv]
   have:d=d':=by cases d;cases d';simp_all
   subst this;exact h.uq hd dF
  rcases hr' with hr'|⟨d',dF⟩
  ·rw[aV (h.const hr')]at hgt;have:=hl.lt _ (h.var hd);omega
  rw[au dF]at hgt;refine(Va r' r zO (.inr ⟨d,hd⟩) (λx=>(he x).symm) d' dF ?_).elim;rw[au hd];exact hgt
def WF.same(h:WF n ai N)(hl:jY n ai)(hi:Interp N S){r':Nat}(hr:live N r)(hr':live N r')(he:∀x,S r x=S r' x):r=r':=h.canon hl hi _ r r' (xai _) hr hr' he
variable {n:Nat} {ai:Nat->Nat} {N:eM} {S:Nat->Fn} {θ:zL}
def bW(g:Fn)(v:Nat):Prop:=∃x,g (aC x v false)≠g (aC x v true)
def fs(θ:zL)(F:Fn->Prop):Nat->Fn->Prop
 |0,g=>F g
 |l+1,g=>∃f,fs θ F l f/\∃b,g=λx=>f (aC x (θ.getD l 0) b)
def aE(n:Nat)(θ:zL)(F:Fn->Prop)(g:Fn):Prop:=∃l,l<n/\fs θ F l g/\bW g (θ.getD l 0)
structure Ord(n:Nat)(ai:Nat->Nat)(θ:zL):Prop where
 len:θ.length=n
 bg:∀l,l<n->θ.getD l 0<n/\ai (θ.getD l 0)=l
def Ord.of(h:Ord n ai θ)(hl:jY n ai){v:Nat}(hv:v<n):θ.getD (ai v) 0=v:=by obtain⟨h1,h2⟩:=h.bg _ (hl.lt v hv);exact hl.inj _ _ h1 hv h2
def Fs(S:Nat->Fn)(R:Nat->Prop)(g:Fn):Prop:=∃r,R r/\g=S r
def A(N:eM)(ai:Nat->Nat)(n:Nat)(R:Nat->Prop):Nat->Nat->Prop
 |0,r=>R r
 |l+1,r=>(A N ai n R l r/\ι n ai N r≠l)\/∃p d,A N ai n R l p/\N p=some d/\ai d.v=l/\(r=d.lo\/r=d.hi)
variable {R:Nat->Prop}
def rz(h:WF n ai N)(hR:∀r,R r->live N r):∀l r,A N ai n R l r->live N r/\l<=ι n ai N r
 |0,r,ha=>⟨hR r ha,xaL _⟩
 |l+1,r,ha=>by
  rcases ha with⟨h1,h2⟩|⟨p,d,h1,h2,h3,h4⟩
  ·have:=rz h hR l r h1;exact⟨this.1,by omega⟩
  rcases h4 with rfl|rfl
  ·have:=h.lo h2;exact⟨this.1,by omega⟩
  have:=h.hi h2;exact⟨this.1,by omega⟩
def tO{r:Nat}:∀k l,A N ai n R l r->l+k<=ι n ai N r->A N ai n R (l+k) r
 |0,l,ha,_=>ha
 |k+1,l,ha,hk=>by
  have h1:=tO k l ha zO;have h2:ι n ai N r≠l+k:=by omega
  exact .inl ⟨h1,h2⟩
def Reach(N:eM)(R:Nat->Prop):Prop:=∀r d,N r=some d->R r\/∃p e,N p=some e/\(e.lo=r\/e.hi=r)
def Vt(h:WF n ai N)(hr:Reach N R):∀k r d,N r=some d->ai d.v<=k->A N ai n R (ai d.v) r:=by
 intro k;induction k with
 |zero=>
  intro r d hd hk;rcases hr r d hd with h1|⟨p,e,h1,h2⟩
  ·rw[show ai d.v=0 by omega];exact h1
  have:=h.lo h1;have h3:=h.hi h1;rcases h2 with rfl|rfl
  ·rw[au hd]at this;omega
  rw[au hd]at h3;omega
 |succ k ih=>
  intro r d hd hk;rcases hr r d hd with h1|⟨p,e,h1,h2⟩
  ·have:=tO (N:=N) (ai:=ai) (n:=n) (R:=R) (r:=r) (ai d.v) 0 h1 (by rw[au hd];omega);rwa [xa1]at this
  have η:ai e.v<ai d.v:=by
   have:=h.lo h1;have h3:=h.hi h1;rcases h2 with rfl|rfl
   ·rw[au hd]at this;omega
   rw[au hd]at h3;omega
  have ha:=ih p e h1 zO;have hb:A N ai n R (ai e.v+1) r:=.inr ⟨p,e,ha,h1,rfl,by rcases h2 with rfl|rfl;exact .inl rfl;exact .inr rfl⟩;have:=tO (ai d.v-(ai e.v+1)) _ hb (by rw[au hd];omega);rwa [show ai e.v+1+(ai d.v-(ai e.v+1))=ai d.v by omega]at this
def Et(h:WF n ai N)(hl:jY n ai)(ho:Ord n ai θ)(hi:Interp N S)(hR:∀r,R r->live N r):∀l,l<=n->∀g,fs θ (Fs S R) l g↔∃r,A N ai n R l r/\g=S r
 |0,_,g=>xcZ
 |l+1,yI,g=>by
  obtain⟨v1,v2⟩:=ho.bg l yI;have ih:=Et h hl ho hi hR l zO;constructor
  ·rintro⟨f,hf,b,rfl⟩;obtain⟨r,ha,rfl⟩:=(ih f).1 hf;obtain⟨hlv,hle⟩:=rz h hR l r ha;by_cases e:ι n ai N r=l
   ·rcases hlv with hc|⟨d,hd⟩
    ·rw[aV (h.const hc)]at e;omega
    rw[au hd]at e;have hv:d.v=θ.getD l 0:=hl.inj _ _ (h.var hd) v1 zO;refine⟨if b then d.hi else d.lo,.inr ⟨r,d,ha,hd,e,by cases b<;>simp⟩,?_⟩
    funext x
    rw[<-hv];exact h.child hl hi hd x b
   refine⟨r,.inl ⟨ha,e⟩,?_⟩
   funext x
   exact h.bO hl hi hlv v1 zO x b
  rintro⟨r,ha,rfl⟩;rcases ha with⟨h1,h2⟩|⟨p,d,h1,h2,h3,h4⟩
  ·obtain⟨hlv,hle⟩:=rz h hR l r h1;refine⟨S r,(ih _).2 ⟨r,h1,rfl⟩,false,?_⟩
   funext x
   exact(h.bO hl hi hlv v1 zO x false).symm
  have hv:d.v=θ.getD l 0:=hl.inj _ _ (h.var h2) v1 zO;rcases h4 with rfl|rfl
  ·refine⟨S p,(ih _).2 ⟨p,h1,rfl⟩,false,?_⟩
   funext x
   rw[<-hv];exact(h.child hl hi h2 x false).symm
  refine⟨S p,(ih _).2 ⟨p,h1,rfl⟩,true,?_⟩
  funext x
  rw[<-hv];exact(h.child hl hi h2 x true).symm
def oo(h:WF n ai N)(hl:jY n ai)(ho:Ord n ai θ)(hi:Interp N S)(hR:∀r,R r->live N r)(hr:Reach N R)(g:Fn):aE n θ (Fs S R) g↔∃r d,N r=some d/\g=S r:=by
 constructor
 ·rintro⟨l,yI,hf,x,hx⟩;obtain⟨v1,v2⟩:=ho.bg l yI;obtain⟨r,ha,rfl⟩:=(Et h hl ho hi hR l zO g).1 hf;obtain⟨hlv,hle⟩:=rz h hR l r ha;by_cases e:ι n ai N r=l
  ·rcases hlv with hc|⟨d,hd⟩
   ·rw[aV (h.const hc)]at e;omega
   exact⟨r,d,hd,rfl⟩
  exact absurd (by rw[h.bO hl hi hlv v1 zO,h.bO hl hi hlv v1 zO]) hx
 rintro⟨r,d,hd,rfl⟩;have hv:=h.var hd;have η:=hl.lt _ hv;refine⟨ai d.v,η,(Et h hl ho hi hR _ zO _).2 ⟨r,Vt h hr _ r d hd (xai _),rfl⟩,?_⟩;rw[ho.of hl hv];refine xaD λΓ=>h.ne hd (h.same hl hi (h.lo hd).1 (h.hi hd).1 λx=>?_);have c1:=h.child hl hi hd x false;have c2:=h.child hl hi hd x true;simp only[xaR,xa2,xa5]at c1 c2;rw[<-c1,<-c2];exact xaD λξ=>Γ ⟨x,ξ⟩
def nQ(P:Fn->Prop)(k:Nat):Prop:=∃l:List Fn,l.Nodup/\l.length=k/\∀g,P g↔g∈l
variable{P Q:Fn->Prop}{k:Nat}
def nQ.congr(h:nQ P k)(e:∀g,P g↔Q g):nQ Q k:=let ⟨l,h1,h2,h3⟩:=h;⟨l,h1,h2,λg=>(e g).symm.trans (h3 g)⟩
def cz{α:Type}:∀{l l':List α},l.Nodup->(∀x∈l,x∈l')->l.length<=l'.length
 | [],l',_,_=>xaL _
 |x::l,l',hn,hs=>by
  obtain⟨h1,h2⟩:=xaX.1 hn;obtain⟨a,b,rfl⟩:=xdh (hs x zI);have:=cz (l':=a++b) h2 λy hy=>by
   have:=hs y (by simp[hy]);rcases xao.1 this with h|h
   ·exact xad _ h
   rcases xak.1 h with rfl|h
   ·exact absurd hy h1
   exact xaa _ h
  simp at this⊢;omega
def nQ.le{k':Nat}(h:nQ P k)(h':nQ Q k')(e:∀g,P g->Q g):k<=k':=by obtain⟨l,h1,h2,h3⟩:=h;obtain⟨l',qs,lZ,vg⟩:=h';rw[<-h2,<-lZ];exact cz h1 λx hx=>(vg x).1 (e x ((h3 x).2 hx))
def nQ.uniq{k':Nat}(h:nQ P k)(h':nQ P k'):k=k':=xef (h.le h' λ_=>id) (h'.le h λ_=>id)
def nQ.none:nQ (λ_=>False) 0:=⟨[],by simp,rfl,by simp⟩
def nQ.or{k':Nat}(h:nQ P k)(h':nQ Q k')(e:∀g,P g->¬Q g):nQ (λg=>P g\/Q g) (k+k'):=by obtain⟨l,h1,h2,h3⟩:=h;obtain⟨l',qs,lZ,vg⟩:=h';refine⟨l++l',xa3.2 ⟨h1,qs,λa ha b hb e'=>?_⟩,by rw[xaf,h2,lZ],λg=>by rw[xao,<-h3,<-vg]⟩;subst e';exact e a ((h3 a).2 ha) ((vg a).2 hb)
def Av(h:WF n ai N)(hl:jY n ai)(hi:Interp N S){dom:zL}(hd:dom.Nodup)(hm:∀r,r∈dom↔∃d,N r=some d):nQ (λg=>∃r d,N r=some d/\g=S r) dom.length:=by
 refine⟨dom.map S,?_,by simp,λg=>?_⟩
 ·refine xbN.2 (hd.imp_of_mem λ{a b} ha hb ξ heq=>ξ ?_);exact h.same hl hi (.inr ((hm a).1 ha)) (.inr ((hm b).1 hb)) λx=>by rw[heq]
 rw[xal];constructor
 ·rintro⟨r,d,h1,rfl⟩;exact⟨r,(hm r).2 ⟨d,h1⟩,rfl⟩
 rintro⟨r,h1,rfl⟩;obtain⟨d,h2⟩:=(hm r).1 h1;exact⟨r,d,h2,rfl⟩
def up{α:Type}(N:Nat->α)(r:Nat)(o:α):Nat->α:=λs=>if s=r then o else N s
@[simp] theorem aR{α:Type}{N:Nat->α}{o:α}:up N r o r=o:=xae rfl
variable{s:Nat}
def aT{α:Type}{N:Nat->α}{o:α}(h:s≠r):up N r o s=N s:=xac h
def rA(T:Nd->Option Nat)(d:Nd)(o:Option Nat):Nd->Option Nat:=λe=>if e=d then o else T e
@[simp] theorem kf{T:Nd->Option Nat}{o:Option Nat}:rA T d o d=o:=xae rfl
def qz{T:Nd->Option Nat}{e:Nd}{o:Option Nat}(h:e≠d):rA T d o e=T e:=xac h
def e1:Option Nd->Nat->Nat
 |none,_=>0
 |some d,r=>(if d.lo=r then 1 else 0)+(if d.hi=r then 1 else 0)
def eJ(d:Nd)(r:Nat):e1 (some d) r=(if d.lo=r then 1 else 0)+(if d.hi=r then 1 else 0):=rfl
def dB(N:eM)(r:Nat):Nat->Nat
 |0=>0
 |k+1=>dB N r k+e1 (N k) r
def nX(N:eM):Nat->Nat
 |0=>0
 |k+1=>nX N k+(if(N k).isSome then 1 else 0)
def Ao{N:eM}{s r:Nat}{o:Option Nd}:∀{k},(s<k->dB (up N s o) r k+e1 (N s) r=dB N r k+e1 o r)/\(k<=s->dB (up N s o) r k=dB N r k)
 |0=>⟨λh=>by omega,λ_=>rfl⟩
 |k+1=>by
  obtain⟨i1,i2⟩:=Ao (N:=N) (s:=s) (r:=r) (o:=o) (k:=k);refine⟨λh=>?_,λh=>?_⟩
  ·rw[dB,dB];by_cases e:s=k
   ·subst e;rw[aR,i2 (xai _)];omega
   have:=i1 zO;rw[aT (λh=>e h.symm)];omega
  rw[dB,dB,i2 zO,aT zO]
def xk{o:Option Nd}(h:s<k):dB (up N s o) r k+e1 (N s) r=dB N r k+e1 o r:=Ao.1 h
def sE{N:eM}{s:Nat}{o:Option Nd}:∀{k},(s<k->nX (up N s o) k+(if(N s).isSome then 1 else 0)=nX N k+(if o.isSome then 1 else 0))/\(k<=s->nX (up N s o) k=nX N k)
 |0=>⟨λh=>by omega,λ_=>rfl⟩
 |k+1=>by
  obtain⟨i1,i2⟩:=sE (N:=N) (s:=s) (o:=o) (k:=k);refine⟨λh=>?_,λh=>?_⟩
  ·rw[nX,nX];by_cases e:s=k
   ·subst e;rw[aR,i2 (xai _)];omega
   have:=i1 zO;rw[aT (λh=>e h.symm)];omega
  rw[nX,nX,i2 zO,aT zO]
def kE{N:eM}{r:Nat}:∀{k},dB N r k=0->∀s,s<k->∀d,N s=some d->d.lo≠r/\d.hi≠r
 |0,_,s,hs,_,_=>by omega
 |k+1,h,s,hs,d,hd=>by
  rw[dB]at h;by_cases e:s=k
  ·subst e;rw[hd,eJ]at h;constructor
   ·intro h1;rw[xae h1]at h;omega
   intro h1;rw[xae h1]at h;omega
  exact kE (k:=k) zO s zO d hd
def tD{N:eM}{r:Nat}:∀{k},0<dB N r k->∃s d,s<k/\N s=some d/\(d.lo=r\/d.hi=r)
 |0,h=>by simp[dB]at h
 |k+1,h=>by
  rw[dB]at h;by_cases hk:0<dB N r k
  ·obtain⟨s,d,h1,h2,h3⟩:=tD hk;exact⟨s,d,by omega,h2,h3⟩
  cases hd:N k with
  |none=>rw[hd]at h;simp[e1]at h;omega
  |some d=>
   refine⟨k,d,by omega,hd,?_⟩;rw[hd,eJ]at h;by_cases h1:d.lo=r
   ·exact .inl h1
   by_cases h2:d.hi=r
   ·exact .inr h2
   rw[xac h1,xac h2]at h;omega
def EC{N:eM}{r:Nat}:∀k,dB N r k<=2*k
 |0=>xai _
 |k+1=>by
  have:=EC (N:=N) (r:=r) k;rw[dB];have:e1 (N k) r<=2:=by
   cases N k with
   |none=>simp[e1]
   |some d=>rw[eJ];split<;>split<;>omega
  omega
def EM(N:eM):∀k,((List.range k).filter λr=>(N r).isSome).length=nX N k
 |0=>rfl
 |k+1=>by
  rw[xbZ,xcb,xaf,EM N k,nX];congr 1;cases h:N k<;>simp[h]
structure Kd where
 n:Nat
 cap:Nat
 used:Nat
 N:eM
 T:Nd->Option Nat
 us:zL
 ho:zL
def Kd.hold(K:Kd)(r:Nat):Nat:=K.ho.getD r 0
def Kd.use(K:Kd)(r:Nat):Nat:=K.us.getD r 0
structure j9(K:Kd)(S:Nat->Fn)(E:Nat->Prop)(P:Nat->Nat):Prop where
 two:∀{r d},K.N r=some d->2<=r/\r<K.cap
 var:∀{r d},K.N r=some d->d.v<K.n
 ne:∀{r d},K.N r=some d->d.lo≠d.hi
 lo:∀{r d},K.N r=some d->live K.N d.lo
 hi:∀{r d},K.N r=some d->live K.N d.hi
 int:Interp K.N S
 kK:∀d r,K.T d=some r↔K.N r=some d/\¬E r
 use:∀{r d},K.N r=some d->K.use r=dB K.N r K.cap+(if K.hold r=0 then 0 else 1)+P r
 len:K.us.length=K.ho.length
 fit:∀{r d},K.N r=some d->r<K.us.length
 held:∀r,K.hold r≠0->∃d,K.N r=some d
 mx:∀r,K.hold r<=65535
 room:K.used=2+nX K.N K.cap
 cap:K.used<=K.cap/\K.cap<=1048576
variable {K:Kd} {S:Nat->Fn} {E:Nat->Prop} {P:Nat->Nat}
def kZ(h:live N s):live (up N r (some d)) s:=by
 rcases h with h|⟨e,h⟩
 ·exact .inl h
 by_cases e2:s=r
 ·subst e2;exact .inr ⟨d,aR⟩
 exact .inr ⟨e,by rw[aT e2];exact h⟩
def zy(h:live N s)(ξ:s≠r):live (up N r none) s:=by
 rcases h with h|⟨e,h⟩
 ·exact .inl h
 exact .inr ⟨e,by rw[aT ξ];exact h⟩
def Pos(K:Kd):Prop:=∀r d,K.N r=some d->0<K.use r
variable{dG:zL}
def j9.less(h:j9 K S E P)(hP:0<P r)(hl:dG.length=K.us.length)(h1:dG.getD r 0+1=K.use r)(h2:∀s,s≠r->dG.getD s 0=K.use s):
  j9 {K with us:=dG} S E (up P r (P r-1)) where
 two:=h.two
 var:=h.var
 ne:=h.ne
 lo:=h.lo
 hi:=h.hi
 int:=h.int
 kK:=h.kK
 use:=λ{s d} hd=>by
  have:=h.use hd;show dG.getD s 0=dB K.N s K.cap+(if K.hold s=0 then 0 else 1)+up P r (P r-1) s;by_cases e:s=r
  ·subst e;rw[aR];omega
  rw[h2 s e,aT e];exact this
 len:=by show dG.length=_;rw[hl];exact h.len
 fit:=λ{s d} hd=>by show s<dG.length;rw[hl];exact h.fit hd
 held:=h.held
 mx:=h.mx
 room:=h.room
 cap:=h.cap
def j9.free(h:j9 K S E P)(hd:K.N r=some d)(hE:¬E r)(h0:K.use r=0):
  j9 {K with N:=up K.N r none,T:=rA K.T d none,used:=K.used-1} S E (λs=>P s+e1 (some d) s) where
 two:=λ{s e} hs=>by
  have μ:up K.N r none s=some e:=hs;by_cases e2:s=r
  ·subst e2;rw[aR]at μ;cases μ
  rw[aT e2]at μ;exact h.two μ
 var:=λ{s e} hs=>by
  have μ:up K.N r none s=some e:=hs;by_cases e2:s=r
  ·subst e2;rw[aR]at μ;cases μ
  rw[aT e2]at μ;exact h.var μ
 ne:=λ{s e} hs=>by
  have μ:up K.N r none s=some e:=hs;by_cases e2:s=r
  ·subst e2;rw[aR]at μ;cases μ
  rw[aT e2]at μ;exact h.ne μ
 lo:=λ{s e} hs=>by
  have μ:up K.N r none s=some e:=hs;by_cases e2:s=r
  ·subst e2;rw[aR]at μ;cases μ
  rw[aT e2]at μ;have hu:=h.use hd;exact zy (h.lo μ) (kE zO s (h.two μ).2 e μ).1
 hi:=λ{s e} hs=>by
  have μ:up K.N r none s=some e:=hs;by_cases e2:s=r
  ·subst e2;rw[aR]at μ;cases μ
  rw[aT e2]at μ;have hu:=h.use hd;exact zy (h.hi μ) (kE zO s (h.two μ).2 e μ).2
 int:=⟨h.int.zero,h.int.one,λ{s e} hs x=>by
  have μ:up K.N r none s=some e:=hs;by_cases e2:s=r
  ·subst e2;rw[aR]at μ;cases μ
  rw[aT e2]at μ;exact h.int.node μ x⟩
 kK:=λe s=>by
  show rA K.T d none e=some s↔up K.N r none s=some e/\_;by_cases e2:e=d
  ·subst e2;rw[kf];constructor
   ·intro h;cases h
   rintro⟨h1,h2⟩;by_cases e3:s=r
   ·subst e3;rw[aR]at h1;cases h1
   rw[aT e3]at h1;have a:=(h.kK e s).2 ⟨h1,h2⟩;have b:=(h.kK e r).2 ⟨hd,hE⟩;rw[a]at b;cases b;exact absurd rfl e3
  rw[qz e2,h.kK];by_cases e3:s=r
  ·subst e3;rw[aR];constructor
   ·rintro⟨h1,_⟩;rw[hd]at h1;cases h1;exact absurd rfl e2
   rintro⟨h1,_⟩;cases h1
  rw[aT e3]
 use:=λ{s e} hs=>by
  have μ:up K.N r none s=some e:=hs;by_cases e2:s=r
  ·subst e2;rw[aR]at μ;cases μ
  rw[aT e2]at μ;have hu:=h.use μ;have he:=xk (N:=K.N) (s:=r) (r:=s) (k:=K.cap) (o:=none) (h.two hd).2;show K.use s=dB (up K.N r none) s K.cap+(if K.hold s=0 then 0 else 1)+(P s+e1 (some d) s);rw[hd]at he;have:e1 none s=0:=rfl;omega
 len:=h.len
 fit:=λ{s e} hs=>by
  have μ:up K.N r none s=some e:=hs;by_cases e2:s=r
  ·subst e2;rw[aR]at μ;cases μ
  rw[aT e2]at μ;exact h.fit μ
 held:=λs hs=>by
  obtain⟨e,he⟩:=h.held s hs;have ξ:s≠r:=λe2=>by
   subst e2;have hu:=h.use hd;have μ:K.hold s≠0:=hs;rw[xac μ]at hu;omega
  exact⟨e,by show up K.N r none s=_;rw[aT ξ];exact he⟩
 mx:=h.mx
 room:=by
  have:=(sE (N:=K.N) (s:=r) (o:=none) (k:=K.cap)).1 (h.two hd).2;have hr:=h.room;rw[hd]at this;show K.used-1=2+nX (up K.N r none) K.cap;simp at this;omega
 cap:=⟨by have:=h.cap.1;show K.used-1<=K.cap;omega,h.cap.2⟩
def j9.more(h:j9 K S E P)(hl:dG.length=K.us.length)(h1:dG.getD r 0=K.use r+1)(h2:∀s,s≠r->dG.getD s 0=K.use s):
  j9 {K with us:=dG} S E (up P r (P r+1)) where
 two:=h.two
 var:=h.var
 ne:=h.ne
 lo:=h.lo
 hi:=h.hi
 int:=h.int
 kK:=h.kK
 use:=λ{s d} hd=>by
  have:=h.use hd;show dG.getD s 0=dB K.N s K.cap+(if K.hold s=0 then 0 else 1)+up P r (P r+1) s;by_cases e:s=r
  ·subst e;rw[aR];omega
  rw[h2 s e,aT e];exact this
 len:=by show dG.length=_;rw[hl];exact h.len
 fit:=λ{s d} hd=>by show s<dG.length;rw[hl];exact h.fit hd
 held:=h.held
 mx:=h.mx
 room:=h.room
 cap:=h.cap
variable {K:Kd} {S:Nat->Fn} {E:Nat->Prop} {P:Nat->Nat}
def ite(S:Nat->Fn)(d:Nd):Fn:=λx=>if x.testBit d.v then S d.hi x else S d.lo x
def gw(h:live N s)(h2:2<=r)(hr:N r=none):s≠r:=λe=>by
 subst e;rcases h with h|⟨d,h⟩
 ·omega
 rw[hr]at h;cases h
def j9.lay(h:j9 K S E P){cA:zL}(hr:K.N r=none)(h2:2<=r/\r<K.cap)(hv:d.v<K.n)(ξ:d.lo≠d.hi)(hlo:live K.N d.lo)(hhi:live K.N d.hi)(hT:K.T d=none)(hE:¬E r)
 (hP:P r=0)(hro:K.used<K.cap)(hl:dG.length=cA.length)(hf:r<dG.length/\K.us.length<=dG.length)(u0:dG.getD r 0=0)(u1:∀s,2<=s->s≠r->dG.getD s 0=K.use s+e1 (some d) s)(o0:cA.getD r 0=0)(o1:∀s,s≠r->cA.getD s 0=K.hold s):
  j9 {K with N:=up K.N r (some d),T:=rA K.T d (some r),used:=K.used+1,us:=dG,ho:=cA} (up S r (ite S d)) E P where
 two:=λ{s e} hs=>by
  have μ:up K.N r (some d) s=some e:=hs;by_cases e2:s=r
  ·subst e2;exact h2
  rw[aT e2]at μ;exact h.two μ
 var:=λ{s e} hs=>by
  have μ:up K.N r (some d) s=some e:=hs;by_cases e2:s=r
  ·subst e2;rw[aR]at μ;cases μ;exact hv
  rw[aT e2]at μ;exact h.var μ
 ne:=λ{s e} hs=>by
  have μ:up K.N r (some d) s=some e:=hs;by_cases e2:s=r
  ·subst e2;rw[aR]at μ;cases μ;exact ξ
  rw[aT e2]at μ;exact h.ne μ
 lo:=λ{s e} hs=>by
  have μ:up K.N r (some d) s=some e:=hs;by_cases e2:s=r
  ·subst e2;rw[aR]at μ;cases μ;exact kZ hlo
  rw[aT e2]at μ;exact kZ (h.lo μ)
 hi:=λ{s e} hs=>by
  have μ:up K.N r (some d) s=some e:=hs;by_cases e2:s=r
  ·subst e2;rw[aR]at μ;cases μ;exact kZ hhi
  rw[aT e2]at μ;exact kZ (h.hi μ)
 int:=⟨λx=>by rw[aT zO];exact h.int.zero x,λx=>by rw[aT zO];exact h.int.one x,λ{s e} hs x=>by
  have μ:up K.N r (some d) s=some e:=hs;by_cases e2:s=r
  ·subst e2;rw[aR]at μ;cases μ;rw[aR,aT (gw hlo h2.1 hr),aT (gw hhi h2.1 hr)];rfl
  rw[aT e2]at μ;rw[aT e2,aT (gw (h.lo μ) h2.1 hr),aT (gw (h.hi μ) h2.1 hr)];exact h.int.node μ x⟩
 kK:=λe s=>by
  show rA K.T d (some r) e=some s↔up K.N r (some d) s=some e/\_;by_cases e2:e=d
  ·subst e2;rw[kf];constructor
   ·intro h;cases h;exact⟨aR,hE⟩
   rintro⟨h1,lZ⟩;by_cases e3:s=r
   ·rw[e3]
   rw[aT e3]at h1;have a:=(h.kK e s).2 ⟨h1,lZ⟩;rw[hT]at a;cases a
  rw[qz e2,h.kK];by_cases e3:s=r
  ·subst e3;rw[aR,hr];constructor
   ·rintro⟨h1,_⟩;cases h1
   rintro⟨h1,_⟩;cases h1;exact absurd rfl e2
  rw[aT e3]
 use:=λ{s e} hs=>by
  have μ:up K.N r (some d) s=some e:=hs;have he:=xk (N:=K.N) (s:=r) (r:=s) (k:=K.cap) (o:=some d) h2.2;rw[hr]at he;have h0:e1 none s=0:=rfl;show dG.getD s 0=dB (up K.N r (some d)) s K.cap+(if cA.getD s 0=0 then 0 else 1)+P s;by_cases e2:s=r
  ·subst e2;have hz:dB K.N s K.cap=0:=by
    refine Nat.eq_zero_of_not_pos λhp=>?_;obtain⟨t,e',_,ht,hc⟩:=tD hp;have Cz:=gw (h.lo ht) h2.1 hr;have q8:=gw (h.hi ht) h2.1 hr;rcases hc with hc|hc
    ·exact Cz hc
    exact q8 hc
   have hd0:e1 (some d) s=0:=by
    rw[eJ,xac (gw hlo h2.1 hr),xac (gw hhi h2.1 hr)]
   rw[u0,o0,xae rfl];omega
  rw[aT e2]at μ;have hu:=h.use μ;have h3:cA.getD s 0=K.hold s:=o1 s e2;rw[u1 s (h.two μ).1 e2,h3];omega
 len:=hl
 fit:=λ{s e} hs=>by
  have μ:up K.N r (some d) s=some e:=hs;show s<dG.length;by_cases e2:s=r
  ·subst e2;exact hf.1
  rw[aT e2]at μ;exact xaP (h.fit μ) hf.2
 held:=λs hs=>by
  have μ:cA.getD s 0≠0:=hs;by_cases e2:s=r
  ·subst e2;exact⟨d,aR⟩
  rw[o1 s e2]at μ;obtain⟨e,he⟩:=h.held s μ;exact⟨e,by show up K.N r (some d) s=_;rw[aT e2];exact he⟩
 mx:=λs=>by
  show cA.getD s 0<=65535;by_cases e2:s=r
  ·subst e2;rw[o0];decide
  rw[o1 s e2];exact h.mx s
 room:=by
  have:=(sE (N:=K.N) (s:=r) (o:=some d) (k:=K.cap)).1 h2.2;have hr':=h.room;rw[hr]at this;show K.used+1=2+nX (up K.N r (some d)) K.cap;simp at this;omega
 cap:=⟨by show K.used+1<=K.cap;omega,h.cap.2⟩
def j9.ahS(h:j9 K S E P)(hd:K.N r=some d)(hE:¬E r):j9 {K with T:=rA K.T d none} S (λs=>E s\/s=r) P where
 two:=h.two
 var:=h.var
 ne:=h.ne
 lo:=h.lo
 hi:=h.hi
 int:=h.int
 kK:=λe s=>by
  show rA K.T d none e=some s↔_;by_cases e2:e=d
  ·subst e2;rw[kf];constructor
   ·intro h;cases h
   rintro⟨h1,h2⟩;have a:=(h.kK e s).2 ⟨h1,λx=>h2 (.inl x)⟩;have b:=(h.kK e r).2 ⟨hd,hE⟩;rw[a]at b;cases b;exact absurd (.inr rfl) h2
  rw[qz e2,h.kK];constructor
  ·rintro⟨h1,h2⟩;refine⟨h1,λx=>?_⟩;rcases x with x|rfl
   ·exact h2 x
   have qs:K.N s=some e:=h1;rw[hd]at qs;cases qs;exact e2 rfl
  rintro⟨h1,h2⟩;exact⟨h1,λx=>h2 (.inl x)⟩
 use:=h.use
 len:=h.len
 fit:=h.fit
 held:=h.held
 mx:=h.mx
 room:=h.room
 cap:=h.cap
variable{P':Nat->Nat}
def j9.A5(h:j9 K S E P){d':Nd}(hd:K.N r=some d)(hE:E r)(hv:d'.v<K.n)(ξ:d'.lo≠d'.hi)(hlo:live K.N d'.lo)(hhi:live K.N d'.hi)(hT:K.T d'=none)(hS:∀x,S r x=ite S d' x)
 (hP:∀s,2<=s->P' s+e1 (some d') s=P s+e1 (some d) s):j9 {K with N:=up K.N r (some d'),T:=rA K.T d' (some r)} S (λs=>E s/\s≠r) P' where
 two:=λ{s e} hs=>by
  have μ:up K.N r (some d') s=some e:=hs;by_cases e2:s=r
  ·subst e2;exact h.two hd
  rw[aT e2]at μ;exact h.two μ
 var:=λ{s e} hs=>by
  have μ:up K.N r (some d') s=some e:=hs;by_cases e2:s=r
  ·subst e2;rw[aR]at μ;cases μ;exact hv
  rw[aT e2]at μ;exact h.var μ
 ne:=λ{s e} hs=>by
  have μ:up K.N r (some d') s=some e:=hs;by_cases e2:s=r
  ·subst e2;rw[aR]at μ;cases μ;exact ξ
  rw[aT e2]at μ;exact h.ne μ
 lo:=λ{s e} hs=>by
  have μ:up K.N r (some d') s=some e:=hs;by_cases e2:s=r
  ·subst e2;rw[aR]at μ;cases μ;exact kZ hlo
  rw[aT e2]at μ;exact kZ (h.lo μ)
 hi:=λ{s e} hs=>by
  have μ:up K.N r (some d') s=some e:=hs;by_cases e2:s=r
  ·subst e2;rw[aR]at μ;cases μ;exact kZ hhi
  rw[aT e2]at μ;exact kZ (h.hi μ)
 int:=⟨h.int.zero,h.int.one,λ{s e} hs x=>by
  have μ:up K.N r (some d') s=some e:=hs;by_cases e2:s=r
  ·subst e2;rw[aR]at μ;cases μ;exact hS x
  rw[aT e2]at μ;exact h.int.node μ x⟩
 kK:=λe s=>by
  show rA K.T d' (some r) e=some s↔up K.N r (some d') s=some e/\¬(E s/\s≠r);by_cases e2:e=d'
  ·subst e2;rw[kf];constructor
   ·intro h;cases h;exact⟨aR,λx=>x.2 rfl⟩
   rintro⟨h1,lZ⟩;by_cases e3:s=r
   ·rw[e3]
   rw[aT e3]at h1;have a:=(h.kK e s).2 ⟨h1,λx=>lZ ⟨x,e3⟩⟩;rw[hT]at a;cases a
  rw[qz e2,h.kK];by_cases e3:s=r
  ·subst e3;rw[aR];constructor
   ·rintro⟨_,h1⟩;exact absurd hE h1
   rintro⟨h1,_⟩;cases h1;exact absurd rfl e2
  rw[aT e3];constructor
  ·rintro⟨h1,h2⟩;exact⟨h1,λx=>h2 x.1⟩
  rintro⟨h1,h2⟩;exact⟨h1,λx=>h2 ⟨x,e3⟩⟩
 use:=λ{s e} hs=>by
  have μ:up K.N r (some d') s=some e:=hs;have he:=xk (N:=K.N) (s:=r) (r:=s) (k:=K.cap) (o:=some d') (h.two hd).2;rw[hd]at he;show K.use s=dB (up K.N r (some d')) s K.cap+(if K.hold s=0 then 0 else 1)+P' s;by_cases e2:s=r
  ·subst e2;have hu:=h.use hd;have:=hP s (h.two hd).1;omega
  rw[aT e2]at μ;have hu:=h.use μ;have:=hP s (h.two μ).1;omega
 len:=h.len
 fit:=λ{s e} hs=>by
  have μ:up K.N r (some d') s=some e:=hs;by_cases e2:s=r
  ·subst e2;exact h.fit hd
  rw[aT e2]at μ;exact h.fit μ
 held:=λs hs=>by
  obtain⟨e,he⟩:=h.held s hs;by_cases e2:s=r
  ·subst e2;exact⟨d',aR⟩
  exact⟨e,by show up K.N r (some d') s=_;rw[aT e2];exact he⟩
 mx:=h.mx
 room:=by
  have:=(sE (N:=K.N) (s:=r) (o:=some d') (k:=K.cap)).1 (h.two hd).2;have hr':=h.room;rw[hd]at this;show K.used=2+nX (up K.N r (some d')) K.cap;simp at this;omega
 cap:=h.cap
def j9.keep(h:j9 K S E P){cA:zL}(hr:∃d,K.N r=some d)(hm:K.hold r<65535)(hl:dG.length=K.us.length/\cA.length=K.ho.length)(o0:cA.getD r 0=K.hold r+1)(o1:∀s,s≠r->cA.getD s 0=K.hold s)
 (u0:dG.getD r 0=K.use r+(if K.hold r=0 then 1 else 0))(u1:∀s,s≠r->dG.getD s 0=K.use s):j9 {K with us:=dG,ho:=cA} S E P where
 two:=h.two
 var:=h.var
 ne:=h.ne
 lo:=h.lo
 hi:=h.hi
 int:=h.int
 kK:=h.kK
 use:=λ{s e} hs=>by
  have hu:=h.use hs;show dG.getD s 0=dB K.N s K.cap+(if cA.getD s 0=0 then 0 else 1)+P s;by_cases e2:s=r
  ·subst e2;rw[u0,o0,xac (by omega:¬K.hold s+1=0)];by_cases e3:K.hold s=0
   ·rw[xae e3]at hu⊢;omega
   rw[xac e3]at hu⊢;omega
  rw[u1 s e2,o1 s e2];exact hu
 len:=by show dG.length=cA.length;rw[hl.1,hl.2];exact h.len
 fit:=λ{s e} hs=>by show s<dG.length;rw[hl.1];exact h.fit hs
 held:=λs hs=>by
  have μ:cA.getD s 0≠0:=hs;by_cases e2:s=r
  ·subst e2;exact hr
  rw[o1 s e2]at μ;exact h.held s μ
 mx:=λs=>by
  show cA.getD s 0<=65535;by_cases e2:s=r
  ·subst e2;rw[o0];omega
  rw[o1 s e2];exact h.mx s
 room:=h.room
 cap:=h.cap
def j9.drop(h:j9 K S E P){cA:zL}(hr:0<K.hold r)(hl:cA.length=K.ho.length)(o0:cA.getD r 0+1=K.hold r)(o1:∀s,s≠r->cA.getD s 0=K.hold s):
  j9 {K with ho:=cA} S E (if K.hold r=1 then up P r (P r+1)else P) where
 two:=h.two
 var:=h.var
 ne:=h.ne
 lo:=h.lo
 hi:=h.hi
 int:=h.int
 kK:=h.kK
 use:=λ{s e} hs=>by
  have hu:=h.use hs;show K.use s=dB K.N s K.cap+(if cA.getD s 0=0 then 0 else 1)+(if K.hold r=1 then up P r (P r+1)else P) s;by_cases e2:s=r
  ·subst e2;rw[xac (by omega:¬K.hold s=0)]at hu;by_cases e3:K.hold s=1
   ·rw[xae e3,aR,xae zO];omega
   rw[xac e3,xac zO];omega
  rw[o1 s e2];by_cases e3:K.hold r=1
  ·rw[xae e3,aT e2];exact hu
  rw[xac e3];exact hu
 len:=by show K.us.length=cA.length;rw[hl];exact h.len
 fit:=h.fit
 held:=λs hs=>by
  have μ:cA.getD s 0≠0:=hs;by_cases e2:s=r
  ·subst e2;exact h.held s zO
  rw[o1 s e2]at μ;exact h.held s μ
 mx:=λs=>by
  show cA.getD s 0<=65535;have:=h.mx r;by_cases e2:s=r
  ·subst e2;omega
  rw[o1 s e2];exact h.mx s
 room:=h.room
 cap:=h.cap
def j9.congr(h:j9 K S E P){E':Nat->Prop}(hE:∀s,E s↔E' s)(hP:∀s,2<=s->P s=P' s):j9 K S E' P' where
 two:=h.two
 var:=h.var
 ne:=h.ne
 lo:=h.lo
 hi:=h.hi
 int:=h.int
 kK:=λd r=>by rw[h.kK,hE]
 use:=λ{s e} hs=>by rw[<-hP s (h.two hs).1];exact h.use hs
 len:=h.len
 fit:=h.fit
 held:=h.held
 mx:=h.mx
 room:=h.room
 cap:=h.cap
def iZ:Nat->Prop:=λ_=>False
def zero':Nat->Nat:=λ_=>0
structure Ok(K:Kd)(S:Nat->Fn)(ai:Nat->Nat):Prop where
 mid:j9 K S iZ zero'
 pos:Pos K
 lv:jY K.n ai
 wf:WF K.n ai K.N
def j9.uq(h:j9 K S iZ P){r':Nat}(h1:K.N r=some d)(h2:K.N r'=some d):r=r':=by have a:=(h.kK d r).2 ⟨h1,λx=>x⟩;have b:=(h.kK d r').2 ⟨h2,λx=>x⟩;rw[a]at b;cases b;rfl
def j9.wf(h:j9 K S iZ P)(hl:∀{r d},K.N r=some d->ai d.v<ι K.n ai K.N d.lo/\ai d.v<ι K.n ai K.N d.hi):WF K.n ai K.N:=
 ⟨λhd=>(h.two hd).1,h.var,h.ne,λhd=>⟨h.lo hd,(hl hd).1⟩,λhd=>⟨h.hi hd,(hl hd).2⟩,h.uq⟩
def Ok.reach(h:Ok K S ai):Reach K.N (λr=>K.hold r≠0):=λr d hd=>by
 have hu:=h.mid.use hd;have hp:=h.pos r d hd;by_cases e:K.hold r=0
 ·rw[xae e]at hu;have:zero' r=0:=rfl;obtain⟨s,e',_,h1,h2⟩:=tD (N:=K.N) (r:=r) (k:=K.cap) zO;exact .inr ⟨s,e',h1,h2⟩
 exact .inl e
def Ok.dom(h:Ok K S ai):∃dom:zL,dom.Nodup/\dom.length+2=K.used/\∀r,r∈dom↔∃d,K.N r=some d:=by refine⟨(List.range K.cap).filter λr=>(K.N r).isSome,xbh.filter _,by rw[EM,h.mid.room];omega,λr=>?_⟩;rw[xb0,xaN,xdP];exact⟨λh=>h.2,λ⟨d,hd⟩=>⟨(h.mid.two hd).2,d,hd⟩⟩
def Kd.held(K:Kd)(S:Nat->Fn):Fn->Prop:=Fs S λr=>K.hold r≠0
def Ok.size(h:Ok K S ai)(ho:Ord K.n ai θ):nQ (aE K.n θ (K.held S)) (K.used-2):=by obtain⟨dom,h1,h2,h3⟩:=h.dom;have hc:=Av h.wf h.lv h.mid.int h1 h3;rw[show dom.length=K.used-2 by omega]at hc;refine hc.congr λg=>?_;exact(oo h.wf h.lv ho h.mid.int (λr hr=>.inr (h.mid.held r hr)) h.reach g).symm
variable {n:Nat} {ai:Nat->Nat} {N:eM} {S:Nat->Fn} {θ:zL} {K:Kd}
def pl(N:eM)(y r:Nat):Nat:=match N r with|some e=>if e.v=y then e.lo else r|none=>r
def ph(N:eM)(y r:Nat):Nat:=match N r with|some e=>if e.v=y then e.hi else r|none=>r
variable{y:Nat}
def WD{e:Nd}(h:N r=some e)(hv:e.v=y):pl N y r=e.lo/\ph N y r=e.hi:=by simp[pl,ph,h,hv]
def WE(h:∀e,N r=some e->e.v≠y):pl N y r=r/\ph N y r=r:=by
 unfold pl ph;cases hr:N r with
 |none=>exact⟨rfl,rfl⟩
 |some e=>simp[h e hr]
def WF.half(h:WF n ai N)(hl:jY n ai)(hi:Interp N S){l:Nat}(hy:y<n/\ai y=l+1)(hr:live N r)(hd:l<ι n ai N r):
  (live N (pl N y r)/\l+1<ι n ai N (pl N y r))/\(live N (ph N y r)/\l+1<ι n ai N (ph N y r))/\∀z,S r z=if z.testBit y then S (ph N y r) z else S (pl N y r) z:=by
 by_cases e:∃e,N r=some e/\e.v=y
 ·obtain⟨e,he,hv⟩:=e;obtain⟨p1,p2⟩:=WD he hv;rw[p1,p2];have h1:=h.lo he;have h2:=h.hi he;rw[hv,hy.2]at h1 h2;exact⟨h1,h2,λz=>by rw[hi.node he,hv]⟩
 have ho:∀e',N r=some e'->e'.v≠y:=λe' h1 h2=>e ⟨e',h1,h2⟩;obtain⟨p1,p2⟩:=WE ho;rw[p1,p2];have yK:l+1<ι n ai N r:=by
  rcases hr with hr|⟨e',he⟩
  ·rw[aV (h.const hr)];have:=hl.lt y hy.1;omega
  rw[au he]at hd⊢;have h1:=ho e' he;refine Nat.lt_of_le_of_ne hd λe2=>h1 (hl.inj _ _ (h.var he) hy.1 zO)
 exact⟨⟨hr,yK⟩,⟨hr,yK⟩,λz=>by split<;>rfl⟩
def WF.XJ(h:WF n ai N)(hl:jY n ai)(hi:Interp N S){l a b:Nat}(hy:y<n/\ai y=l+1)(ha:live N a)(hb:live N b)(da:l<ι n ai N a)(db:l<ι n ai N b)
 (h1:pl N y a=pl N y b)(h2:ph N y a=ph N y b):a=b:=by refine h.same hl hi ha hb λz=>?_;rw[(h.half hl hi hy ha da).2.2 z,(h.half hl hi hy hb db).2.2 z,h1,h2]
structure Cx where
 r:Nat
 d:Nd
 yQ:Nat
 yP:Nat
 uB:Nat
 uA:Nat
def nw(N:eM)(x y r:Nat)(d:Nd):Prop:=N r=some d/\d.v=x/\((∃e,N d.lo=some e/\e.v=y)\/∃e,N d.hi=some e/\e.v=y)
def oU(N:eM)(y r:Nat)(d:Nd):Cx:=⟨r,d,pl N y d.lo,ph N y d.lo,pl N y d.hi,ph N y d.hi⟩
structure ME(N:eM)(x y:Nat)(l:List Cx):Prop where
 nd:(l.map Cx.r).Nodup
 mem:∀c,c∈l↔nw N x y c.r c.d/\c=oU N y c.r c.d
def keys(x:Nat)(c:Cx):List Nd:=[⟨x,c.yQ,c.uB⟩,⟨x,c.yP,c.uA⟩]
structure Made(K:Kd)(x:Nat)(l:List Cx)(ν:List Nd):Prop where
 nd:ν.Nodup
 mem:∀k,k∈ν↔(∃c∈l,k∈keys x c)/\K.T k=none/\k.lo≠k.hi
structure Nb(n:Nat)(ai:Nat->Nat)(x y l:Nat):Prop where
 xn:x<n
 yn:y<n
 lx:ai x=l
 ly:ai y=l+1
variable {x y l:Nat}
def Nb.ne(h:Nb n ai x y l):x≠y:=λe=>by have h1:=h.lx;have h2:=h.ly;rw[e]at h1;omega
def Nb.yy(h:Nb n ai x y l):y<n/\ai y=l+1:=⟨h.yn,h.ly⟩
def mA(h:WF n ai N)(hl:jY n ai)(hi:Interp N S)(hb:Nb n ai x y l)(hd:N r=some d)(hx:d.v=x){k:Nd}(hk:k∈keys x (oU N y r d)):
  k.v=x/\(live N k.lo/\l+1<ι n ai N k.lo)/\(live N k.hi/\l+1<ι n ai N k.hi):=by
 have h1:=h.lo hd;have h2:=h.hi hd;rw[hx,hb.lx]at h1 h2;have a:=h.half hl hi hb.yy h1.1 h1.2;have b:=h.half hl hi hb.yy h2.1 h2.2;simp only[keys,oU,xak,xaQ,xbi]at hk;rcases hk with rfl|rfl
 ·exact⟨rfl,a.1,b.1⟩
 exact⟨rfl,a.2.1,b.2.1⟩
def xu(h:WF n ai N)(hl:jY n ai)(hi:Interp N S)(hb:Nb n ai x y l)(hd:N r=some d)(hx:d.v=x)(z:Nat):
  S r z=if z.testBit y then ite S ⟨x,ph N y d.lo,ph N y d.hi⟩ z else ite S ⟨x,pl N y d.lo,pl N y d.hi⟩ z:=by have h1:=h.lo hd;have h2:=h.hi hd;rw[hx,hb.lx]at h1 h2;have a:=(h.half hl hi hb.yy h1.1 h1.2).2.2 z;have b:=(h.half hl hi hb.yy h2.1 h2.2).2.2 z;rw[hi.node hd,hx,a,b];unfold ite;simp only;cases z.testBit x<;>cases z.testBit y<;>rfl
def jP(h:WF n ai N)(hl:jY n ai)(hi:Interp N S)(hb:Nb n ai x y l){k:Nd}(hk:k.v=x)(h1:live N k.lo/\l+1<ι n ai N k.lo)(h2:live N k.hi/\l+1<ι n ai N k.hi)(z:Nat)(b:Bool):
  ite S k (aC z x b)=S (if b then k.hi else k.lo) z:=by
 unfold ite;rw[hk,ak,xae rfl];cases b
 ·simp only[xaR,xa2];exact h.bO hl hi h1.1 hb.xn (by rw[hb.lx];omega) z false
 simp only[xa5];exact h.bO hl hi h2.1 hb.xn (by rw[hb.lx];omega) z true
def j4(h:WF n ai N)(hl:jY n ai)(hi:Interp N S)(hb:Nb n ai x y l){k:Nd}(hk:k.v=x)(h1:live N k.lo/\l+1<ι n ai N k.lo)(h2:live N k.hi/\l+1<ι n ai N k.hi){u:Nat}(hu:u<n)(Oe:ai u<=l+1)(ξ:u≠x)(z:Nat)(b:Bool):
  ite S k (aC z u b)=ite S k z:=by unfold ite;rw[hk,ak,xac (xa9 ξ),h.bO hl hi h1.1 hu zO,h.bO hl hi h2.1 hu zO]
def gA(h:WF n ai N)(hl:jY n ai)(hi:Interp N S)(hd:N r=some d):∃z,S r (aC z d.v false)≠S r (aC z d.v true):=by refine xaD λΓ=>h.ne hd (h.same hl hi (h.lo hd).1 (h.hi hd).1 λz=>?_);have c1:=h.child hl hi hd z false;have c2:=h.child hl hi hd z true;simp only[xaR,xa2,xa5]at c1 c2;rw[<-c1,<-c2];exact xaD λξ=>Γ ⟨z,ξ⟩
def SD(h:WF n ai N)(hl:jY n ai)(hi:Interp N S)(hb:Nb n ai x y l){k:Nd}(hk:k.v=x)(ξ:k.lo≠k.hi)(h1:live N k.lo/\l+1<ι n ai N k.lo)(h2:live N k.hi/\l+1<ι n ai N k.hi)
 (hd:N r=some d)(he:ite S k=S r):d=k:=by
 have hv:=h.var hd;have hvx:d.v=x:=by
  rcases xcu (ai d.v) l with η|heq|hgt
  ·obtain⟨z,hz⟩:=gA h hl hi hd;have adP:d.v≠x:=λe=>by rw[e,hb.lx]at η;omega
   rw[<-he,j4 h hl hi hb hk h1 h2 hv zO adP,j4 h hl hi hb hk h1 h2 hv zO adP]at hz;exact absurd rfl hz
  ·exact hl.inj _ _ hv hb.xn (by rw[hb.lx];exact heq)
  refine absurd (h.same hl hi h1.1 h2.1 λz=>?_) ξ;have c1:=jP h hl hi hb hk h1 h2 z false;have c2:=jP h hl hi hb hk h1 h2 z true;simp only[xaR,xa2,xa5]at c1 c2;have hdp:ai x<ι n ai N r:=by rw[au hd,hb.lx];exact hgt
  rw[<-c1,<-c2,he,h.bO hl hi (.inr ⟨d,hd⟩) hb.xn hdp,h.bO hl hi (.inr ⟨d,hd⟩) hb.xn hdp]
 have c:∀(b:Bool) z,S (if b then k.hi else k.lo) z=S (if b then d.hi else d.lo) z:=λ(b:Bool) z=>by
  rw[<-jP h hl hi hb hk h1 h2 z b,he,<-hvx,h.child hl hi hd z b]
 have e1:=h.same hl hi h1.1 (h.lo hd).1 (λz=>by simpa using c false z);have e2:=h.same hl hi h2.1 (h.hi hd).1 (λz=>by simpa using c true z);cases d;cases k;simp_all
def Xi(h:WF n ai N)(hl:jY n ai)(hi:Interp N S)(hb:Nb n ai x y l){k k':Nd}(hk:k.v=x)(hk':k'.v=x)(h1:live N k.lo/\l+1<ι n ai N k.lo)(h2:live N k.hi/\l+1<ι n ai N k.hi)
 (qs:live N k'.lo/\l+1<ι n ai N k'.lo)(lZ:live N k'.hi/\l+1<ι n ai N k'.hi)(he:ite S k=ite S k'):k=k':=by
 have c:∀(b:Bool) z,S (if b then k.hi else k.lo) z=S (if b then k'.hi else k'.lo) z:=λ(b:Bool) z=>by
  rw[<-jP h hl hi hb hk h1 h2 z b,he,jP h hl hi hb hk' qs lZ z b]
 have e1:=h.same hl hi h1.1 qs.1 (λz=>by simpa using c false z);have e2:=h.same hl hi h2.1 lZ.1 (λz=>by simpa using c true z);cases k;cases k';simp_all
def fV(θ:zL)(l:Nat):zL:=(θ.set l (θ.getD (l+1) 0)).set (l+1) (θ.getD l 0)
def mY(θ:zL)(l:Nat):(fV θ l).length=θ.length:=by simp[fV]
def fI{i:Nat}(hl:l+1<θ.length):(fV θ l).getD i 0=if i=l then θ.getD (l+1) 0 else if i=l+1 then θ.getD l 0 else θ.getD i 0:=by
 unfold fV;rw[xas,xbp,xbp];by_cases e1:l+1=i
 ·subst e1;rw[xae rfl,xae zP,xac zO,xae rfl];rfl
 rw[xac e1];by_cases e2:l=i
 ·subst e2;rw[xae rfl,xae zO,xae rfl];rfl
 rw[xac e2,xac (λe=>e2 e.symm),xac (λe=>e1 e.symm),<-xas]
def uH(ai:Nat->Nat)(x y l:Nat):Nat->Nat:=λv=>if v=x then l+1 else if v=y then l else ai v
def We(hl:jY n ai)(hb:Nb n ai x y l):jY n (uH ai x y l):=by
 have hyn:=hl.lt y hb.yn;rw[hb.ly]at hyn;have key:∀v,v<n->v≠x->v≠y->ai v≠l/\ai v≠l+1:=λv hv h1 h2=>⟨λe=>h1 (hl.inj _ _ hv hb.xn (by rw[hb.lx];exact e)),λe=>h2 (hl.inj _ _ hv hb.yn (by rw[hb.ly];exact e))⟩;refine⟨λv hv=>?_,λu v hu hv he=>?_⟩
 ·unfold uH;split
  ·exact hyn
  split
  ·omega
  exact hl.lt v hv
 unfold uH at he;by_cases u1:u=x
 ·by_cases v1:v=x
  ·rw[u1,v1]
  rw[xae u1,xac v1]at he;by_cases v2:v=y
  ·rw[xae v2]at he;omega
  rw[xac v2]at he;exact absurd he.symm (key v hv v1 v2).2
 rw[xac u1]at he;by_cases u2:u=y
 ·rw[xae u2]at he;by_cases v1:v=x
  ·rw[xae v1]at he;omega
  rw[xac v1]at he;by_cases v2:v=y
  ·rw[u2,v2]
  rw[xac v2]at he;exact absurd he.symm (key v hv v1 v2).1
 rw[xac u2]at he;by_cases v1:v=x
 ·rw[xae v1]at he;exact absurd he (key u hu u1 u2).2
 rw[xac v1]at he;by_cases v2:v=y
 ·rw[xae v2]at he;exact absurd he (key u hu u1 u2).1
 rw[xac v2]at he;exact hl.inj _ _ hu hv he
def Ord.nb(ho:Ord n ai θ)(hl:l+1<n):Nb n ai (θ.getD l 0) (θ.getD (l+1) 0) l:=
 ⟨(ho.bg l zO).1,(ho.bg (l+1) hl).1,(ho.bg l zO).2,(ho.bg (l+1) hl).2⟩
def Wd(ho:Ord n ai θ)(hl:l+1<n):Ord n (uH ai (θ.getD l 0) (θ.getD (l+1) 0) l) (fV θ l):=by
 have hb:=ho.nb hl;refine⟨by rw[mY,ho.len],λi hi=>?_⟩;rw[fI (by rw[ho.len];exact hl)];unfold uH;by_cases e1:i=l
 ·subst e1;rw[xae rfl];refine⟨hb.yn,?_⟩;rw[xac (xa9 hb.ne),xae rfl]
 rw[xac e1];by_cases e2:i=l+1
 ·subst e2;rw[xae rfl];refine⟨hb.xn,?_⟩;rw[xae rfl]
 rw[xac e2];obtain⟨h1,h2⟩:=ho.bg i hi;refine⟨h1,?_⟩;rw[xac,xac]
 ·exact h2
 ·intro e;rw[e,hb.ly]at h2;omega
 intro e;rw[e,hb.lx]at h2;omega
variable {F:Fn->Prop}
def Hg(hl:l+1<θ.length)(ξ:θ.getD l 0≠θ.getD (l+1) 0):∀m,m≠l+1->∀g,fs (fV θ l) F m g↔fs θ F m g
 |0,_,g=>xcZ
 |m+1,hm,g=>by
  by_cases e:m=l+1
  ·subst e;have g1:(fV θ l).getD (l+1) 0=θ.getD l 0:=by rw[fI hl,xac zO,xae rfl]
   have g2:(fV θ l).getD l 0=θ.getD (l+1) 0:=by rw[fI hl,xae rfl]
   have ih:=Hg hl ξ l zO;constructor
   ·rintro⟨f,⟨f',h,b,rfl⟩,b',rfl⟩;refine⟨_,⟨f',(ih f').1 h,b',rfl⟩,b,?_⟩
    funext z
    rw[g1,g2];show f' _=f' _;rw[dx ξ]
   rintro⟨f,⟨f',h,b,rfl⟩,b',rfl⟩;refine⟨_,⟨f',(ih f').2 h,b',rfl⟩,b,?_⟩
   funext z
   rw[g1,g2];show f' _=f' _;rw[dx (xa9 ξ)]
  have ih:=Hg hl ξ m e;have hg:(fV θ l).getD m 0=θ.getD m 0:=by rw[fI hl,xac zO,xac e]
  constructor
  ·rintro⟨f,h,b,rfl⟩;exact⟨f,(ih f).1 h,b,by rw[hg]⟩
  rintro⟨f,h,b,rfl⟩;exact⟨f,(ih f).2 h,b,by rw[hg]⟩
def Rb(h:Ok K S ai)(ho:Ord K.n ai θ)(yI:l+1<K.n){all:List Cx}(hc:ME K.N (θ.getD l 0) (θ.getD (l+1) 0) all){ν:List Nd}(hm:Made K (θ.getD l 0) all ν):
  nQ (λg=>aE K.n θ (K.held S) g\/aE K.n (fV θ l) (K.held S) g) (K.used-2+ν.length):=by
 have hb:=ho.nb yI;have Ξ:l+1<θ.length:=by rw[ho.len];exact yI
 have hw:=h.wf;have hlv:=h.lv;have hi:=h.mid.int;have hR:∀r,K.hold r≠0->live K.N r:=λr hr=>.inr (h.mid.held r hr);generalize hx:θ.getD l 0=x at*;generalize hy:θ.getD (l+1) 0=y at*;have nr:∀k∈ν,k.v=x/\(live K.N k.lo/\l+1<ι K.n ai K.N k.lo)/\(live K.N k.hi/\l+1<ι K.n ai K.N k.hi):=λk hk=>by
  obtain⟨⟨c,G4,hkc⟩,_⟩:=(hm.mem k).1 hk;obtain⟨⟨hd,Tu,_⟩,e⟩:=(hc.mem c).1 G4;rw[e]at hkc;exact mA hw hlv hi hb hd Tu hkc
 obtain⟨dom,d1,d2,d3⟩:=h.dom;have c1:=Av hw hlv hi d1 d3;rw[show dom.length=K.used-2 by omega]at c1;have c2:nQ (λg=>∃k∈ν,g=ite S k) ν.length:=by
  refine⟨ν.map (ite S),?_,by simp,λg=>?_⟩
  ·refine xbN.2 (hm.nd.imp_of_mem λ{a b} ha hb' ξ heq=>ξ ?_);obtain⟨a1,a2,a3⟩:=nr a ha;obtain⟨b1,b2,b3⟩:=nr b hb';exact Xi hw hlv hi hb a1 b1 a2 a3 b2 b3 heq
  rw[xal];constructor
  ·rintro⟨k,hk,rfl⟩;exact⟨k,hk,rfl⟩
  rintro⟨k,hk,rfl⟩;exact⟨k,hk,rfl⟩
 refine(c1.or c2 ?_).congr λg=>?_
 ·rintro g ⟨r,d,hd,rfl⟩ ⟨k,hk,he⟩;obtain⟨a1,a2,a3⟩:=nr k hk;obtain⟨_,hT,ξ⟩:=(hm.mem k).1 hk;have:=SD hw hlv hi hb a1 ξ a2 a3 hd he.symm;subst this;rw[(h.mid.kK d r).2 ⟨hd,λx=>x⟩]at hT;cases hT
 have Og:=oo hw hlv ho hi hR h.reach;have rE:=λm (hmn:m<=K.n) g=>Et hw hlv ho hi hR m hmn g;have ξ:θ.getD l 0≠θ.getD (l+1) 0:=by rw[hx,hy];exact hb.ne
 have Cw:=Hg (F:=K.held S) Ξ ξ;have gl:(fV θ l).getD l 0=y:=by rw[fI Ξ,xae rfl,hy]
 have gl1:(fV θ l).getD (l+1) 0=x:=by rw[fI Ξ,xac zO,xae rfl,hx]
 have go:∀m,m≠l->m≠l+1->(fV θ l).getD m 0=θ.getD m 0:=λm h1 h2=>by rw[fI Ξ,xac h1,xac h2]
 constructor
 ·rintro(⟨r,d,hd,rfl⟩|⟨k,hk,rfl⟩)
  ·exact .inl ((Og _).2 ⟨r,d,hd,rfl⟩)
  obtain⟨a1,a2,a3⟩:=nr k hk;obtain⟨⟨c,G4,hkc⟩,hT,aaV⟩:=(hm.mem k).1 hk;obtain⟨⟨hd,Tu,_⟩,e⟩:=(hc.mem c).1 G4;refine .inr ⟨l+1,yI,?_,?_⟩
  ·have hA:=Vt hw h.reach _ c.r c.d hd (xai _);rw[Tu,hb.lx]at hA;refine⟨S c.r,(Cw l zO _).2 ((rE l zO _).2 ⟨c.r,hA,rfl⟩),?_⟩;have XG:=xu hw hlv hi hb hd Tu;rw[e]at hkc;simp only[keys,oU,xak,xaQ,xbi]at hkc;rw[gl];rcases hkc with rfl|rfl
   ·refine⟨false,?_⟩
    funext z
    rw[XG,ak,xae rfl,xac zI,j4 hw hlv hi hb rfl a2 a3 hb.yn (by rw[hb.ly];exact xai _) (xa9 hb.ne)]
   refine⟨true,?_⟩
   funext z
   rw[XG,ak,xae rfl,xae rfl,j4 hw hlv hi hb rfl a2 a3 hb.yn (by rw[hb.ly];exact xai _) (xa9 hb.ne)]
  rw[gl1];refine xaD λΓ=>aaV (hw.same hlv hi a2.1 a3.1 λz=>?_);have c1:=jP hw hlv hi hb a1 a2 a3 z false;have c2:=jP hw hlv hi hb a1 a2 a3 z true;simp only[xaR,xa2,xa5]at c1 c2;rw[<-c1,<-c2];exact xaD λξ=>Γ ⟨z,ξ⟩
 rintro(hg|⟨m,hmn,hf,hh⟩)
 ·exact .inl ((Og g).1 hg)
 by_cases e1:m=l+1
 ·subst e1;rw[gl1]at hh;obtain⟨f,hf,b,rfl⟩:=hf;rw[gl]at hh⊢;obtain⟨r,hA,rfl⟩:=(rE l zO f).1 ((Cw l zO f).1 hf);obtain⟨hlr,hle⟩:=rz hw hR l r hA;have hgt:ι K.n ai K.N r=l:=by
   refine xef (xc9 λη=>?_) hle;obtain⟨z,hz⟩:=hh;apply hz;show S r (aC (aC z x false) y b)=S r (aC (aC z x true) y b);rw[dx hb.ne,dx hb.ne,hw.bO hlv hi hlr hb.xn (by rw[hb.lx];exact η),hw.bO hlv hi hlr hb.xn (by rw[hb.lx];exact η)]
  rcases hlr with Om|⟨d,hd⟩
  ·rw[aV (hw.const Om)]at hgt;omega
  rw[au hd]at hgt;have Tu:d.v=x:=hlv.inj _ _ (hw.var hd) hb.xn (by rw[hb.lx];exact hgt);have XG:=xu hw hlv hi hb hd Tu;have hkk:∃k∈keys x (oU K.N y r d),(λz=>S r (aC z y b))=ite S k:=by
   cases b
   ·refine⟨_,xbA,?_⟩;obtain⟨a1,a2,a3⟩:=mA hw hlv hi hb hd Tu (k:=⟨x,pl K.N y d.lo,pl K.N y d.hi⟩) xbA
    funext z
    rw[XG,ak,xae rfl,xac zI,j4 hw hlv hi hb rfl a2 a3 hb.yn (by rw[hb.ly];exact xai _) (xa9 hb.ne)];rfl
   refine⟨_,xbv _ xbA,?_⟩;obtain⟨a1,a2,a3⟩:=mA hw hlv hi hb hd Tu (k:=⟨x,ph K.N y d.lo,ph K.N y d.hi⟩) (xbv _ xbA)
   funext z
   rw[XG,ak,xae rfl,xae rfl,j4 hw hlv hi hb rfl a2 a3 hb.yn (by rw[hb.ly];exact xai _) (xa9 hb.ne)];rfl
  obtain⟨k,hkm,hke⟩:=hkk;obtain⟨a1,a2,a3⟩:=mA hw hlv hi hb hd Tu hkm;rw[hke]at hh⊢;have aaV:k.lo≠k.hi:=λe=>by
   obtain⟨z,hz⟩:=hh;have c1:=jP hw hlv hi hb a1 a2 a3 z false;have c2:=jP hw hlv hi hb a1 a2 a3 z true;simp only[xaR,xa2,xa5]at c1 c2;rw[c1,c2,e]at hz;exact hz rfl
  cases hT:K.T k with
  |some s=>
   have hs:=((h.mid.kK k s).1 hT).1;refine .inl ⟨s,k,hs,?_⟩
   funext z
   exact(hi.node hs z).symm
  |none=>
   by_cases hcr:nw K.N x y r d
   ·exact .inr ⟨k,(hm.mem k).2 ⟨⟨oU K.N y r d,(hc.mem _).2 ⟨hcr,rfl⟩,hkm⟩,hT,aaV⟩,rfl⟩
   have Γ:∀t,t=d.lo\/t=d.hi->pl K.N y t=t/\ph K.N y t=t:=λt ht=>WE λe he hv=>hcr ⟨hd,Tu,by
    rcases ht with rfl|rfl
    ·exact .inl ⟨e,he,hv⟩
    exact .inr ⟨e,he,hv⟩⟩
   have e1:=Γ d.lo (.inl rfl);have e2:=Γ d.hi (.inr rfl);have:k=d:=by
    simp only[keys,oU,e1.1,e1.2,e2.1,e2.2,xak,xaQ,xbi,or_self]at hkm;rw[hkm,<-Tu]
   rw[this,(h.mid.kK d r).2 ⟨hd,λx=>x⟩]at hT;cases hT
 by_cases e2:m=l
 ·subst e2;rw[gl]at hh;obtain⟨r,hA,rfl⟩:=(rE m zO g).1 ((Cw m e1 g).1 hf);obtain⟨hlr,hle⟩:=rz hw hR m r hA;rcases hlr with Om|⟨d,hd⟩
  ·obtain⟨z,hz⟩:=hh;have:∀z,S r z=S r 0:=λz=>by
    have:r=0\/r=1:=by omega
    rcases this with rfl|rfl
    ·rw[hi.zero,hi.zero]
    rw[hi.one,hi.one]
   rw[this (aC z y false),this (aC z y true)]at hz;exact absurd rfl hz
  exact .inl ⟨r,d,hd,rfl⟩
 refine .inl ((Og g).1 ⟨m,hmn,(Cw m e1 g).1 hf,?_⟩);rw[go m e2 e1]at hh;exact hh
def uD(K:Kd)(ai:Nat->Nat)(l t:Nat):Prop:=live K.N t/\l+1<ι K.n ai K.N t
def yV(K0 K:Kd)(ai:Nat->Nat)(x l t:Nat):Prop:=uD K0 ai l t\/∃e,K.N t=some e/\e.v=x/\uD K0 ai l e.lo/\uD K0 ai l e.hi
structure TI(K0:Kd)(S0:Nat->Fn)(ai:Nat->Nat)(x y l:Nat)(ν:List Nd)(K:Kd)(S:Nat->Fn)(done rest:List Cx)(P:Nat->Nat):Prop where
 mid:j9 K S (λs=>∃c∈rest,s=c.r) P
 n:K.n=K0.n
 cap:K.cap=K0.cap
 hold:∀r,K.hold r=K0.hold r
 ext:∀r,live K0.N r->S r=S0 r
 old:∀{r d},K0.N r=some d->r∉done.map Cx.r->K.N r=some d
 kept:∀{r d},K0.N r=some d->∃d',K.N r=some d'
 new:∀{r d},K.N r=some d->(K0.N r=some d/\r∉done.map Cx.r)\/(r∈done.map Cx.r/\d.v=y/\yV K0 K ai x l d.lo/\yV K0 K ai x l d.hi)\/(K0.N r=none/\d.v=x/\uD K0 ai l d.lo/\uD K0 ai l d.hi)
 used:K.used=K0.used+(ν.filter λk=>(K.T k).isSome).length
structure TB(K0:Kd)(S0:Nat->Fn)(ai:Nat->Nat)(x y l:Nat)(all:List Cx)(ν:List Nd):Prop where
 ok:Ok K0 S0 ai
 nb:Nb K0.n ai x y l
 cx:ME K0.N x y all
 mad:Made K0 x all ν
 room:K0.used+ν.length<=K0.cap
variable{K:Kd}{S:Nat->Fn}{ai:Nat->Nat}{x y l:Nat}
section
variable{K0:Kd}{S0:Nat->Fn}{ν:List Nd}{done rest all:List Cx}{P:Nat->Nat}
variable{c:Cx}
def TB.oV(b:TB K0 S0 ai x y l all ν)(hc:c∈all):K0.N c.r=some c.d/\c.d.v=x/\c=oU K0.N y c.r c.d:=by obtain⟨⟨h1,h2,_⟩,h3⟩:=(b.cx.mem c).1 hc;exact⟨h1,h2,h3⟩
def TB.W0(b:TB K0 S0 ai x y l all ν)(hc:c∈all):(uD K0 ai l c.yQ/\uD K0 ai l c.uB)/\(uD K0 ai l c.yP/\uD K0 ai l c.uA):=by obtain⟨h1,h2,h3⟩:=b.oV hc;have k1:=mA b.ok.wf b.ok.lv b.ok.mid.int b.nb h1 h2 (k:=⟨x,pl K0.N y c.d.lo,pl K0.N y c.d.hi⟩) xbA;have k2:=mA b.ok.wf b.ok.lv b.ok.mid.int b.nb h1 h2 (k:=⟨x,ph K0.N y c.d.lo,ph K0.N y c.d.hi⟩) (xbv _ xbA);rw[h3];exact⟨⟨k1.2.1,k1.2.2⟩,⟨k2.2.1,k2.2.2⟩⟩
def TB.level(b:TB K0 S0 ai x y l all ν)(hc:c∈all):ι K0.n ai K0.N c.r=l:=by obtain⟨h1,h2,_⟩:=b.oV hc;rw[au h1,h2,b.nb.lx]
def TB.start(b:TB K0 S0 ai x y l all ν){T:Nd->Option Nat}(hm:j9 {K0 with T:=T} S0 (λs=>∃c∈all,s=c.r) zero')(hT:∀d,T d=none\/T d=K0.T d):
  TI K0 S0 ai x y l ν {K0 with T:=T} S0 [] all zero' where
 mid:=hm
 n:=rfl
 cap:=rfl
 hold:=λ_=>rfl
 ext:=λ_ _=>rfl
 old:=λh _=>h
 kept:=λh=>⟨_,h⟩
 new:=λh=>.inl ⟨h,by simp⟩
 used:=by
  have:ν.filter (λk=>(T k).isSome)=[]:=by
   rw[xdo];intro k hk;have h1:=((b.mad.mem k).1 hk).2.1;rcases hT k with h2|h2
   ·rw[h2];simp
   rw[h2,h1];simp
  show K0.used=K0.used+(ν.filter (λk=>(T k).isSome)).length;rw[this];simp
def TI.W4(b:TB K0 S0 ai x y l all ν)(h:TI K0 S0 ai x y l ν K S done rest P)(hd:∀c∈done,c∈all){t:Nat}(ht:uD K0 ai l t):K.N t=K0.N t:=by
 rcases ht with⟨ht|⟨d,dF⟩,η⟩
 ·cases e:K.N t with
  |none=>rw[b.ok.wf.const ht]
  |some d=>have:=(h.mid.two e).1;omega
 ·rw[dF];refine h.old dF λhm=>?_;obtain⟨c,hc,e⟩:=xal.1 hm;have:=b.level (hd c hc);rw[e]at this;omega
variable{t:Nat}
def TI.r4(b:TB K0 S0 ai x y l all ν)(h:TI K0 S0 ai x y l ν K S done rest P)(hd:∀c∈done,c∈all)(ht:uD K0 ai l t):live K.N t:=by
 have e:=h.W4 b hd ht;rcases ht.1 with ht|⟨d,dF⟩
 ·exact .inl ht
 exact .inr ⟨d,by rw[e];exact dF⟩
def TI.r8(b:TB K0 S0 ai x y l all ν)(h:TI K0 S0 ai x y l ν K S done rest P)(hd:∀c∈done,c∈all)(ht:yV K0 K ai x l t):live K.N t:=by
 rcases ht with ht|⟨e,he,_⟩
 ·exact h.r4 b hd ht
 exact .inr ⟨e,he⟩
def TI.use(h:TI K0 S0 ai x y l ν K S done rest P)(hl:dG.length=K.us.length)(h1:dG.getD r 0=K.use r+1)(h2:∀s,s≠r->dG.getD s 0=K.use s):
  TI K0 S0 ai x y l ν {K with us:=dG} S done rest (up P r (P r+1)) where
 mid:=h.mid.more hl h1 h2
 n:=h.n
 cap:=h.cap
 hold:=h.hold
 ext:=h.ext
 old:=h.old
 kept:=h.kept
 new:=h.new
 used:=h.used
def TI.congr(h:TI K0 S0 ai x y l ν K S done rest P)(hP:∀s,2<=s->P s=P' s):TI K0 S0 ai x y l ν K S done rest P' where
 mid:=h.mid.congr (λ_=>xcZ) hP
 n:=h.n
 cap:=h.cap
 hold:=h.hold
 ext:=h.ext
 old:=h.old
 kept:=h.kept
 new:=h.new
 used:=h.used
def filter_lt{α:Type}{p:α->Bool}{k:α}:∀{m:List α},k∈m->p k=false->(m.filter p).length<m.length
 | [],h,_=>by simp at h
 |z::m,h,hp=>by
  rcases xak.1 h with rfl|h
  ·rw[xbz,xac (by simp[hp])];have:=xbU p m;simp;omega
  have:=filter_lt h hp;rw[xbz];split
  ·rw[xax,xax];omega
  rw[xax];omega
def TI.fits(b:TB K0 S0 ai x y l all ν)(h:TI K0 S0 ai x y l ν K S done rest P){k:Nd}(hk:k∈ν)(hT:K.T k=none):K.used<K.cap:=by have h1:=filter_lt (p:=λk=>(K.T k).isSome) hk (by rw[hT];rfl);have h2:=h.used;have h3:=b.room;have h4:=h.cap;omega
def oN{T:Nd->Option Nat}{k:Nd}{r:Nat}:∀{m:List Nd},m.Nodup->T k=none->(m.filter λd=>(rA T k (some r) d).isSome).length=(m.filter λd=>(T d).isSome).length+(if k∈m then 1 else 0)
 | [],_,_=>rfl
 |z::m,hn,hT=>by
  obtain⟨h1,h2⟩:=xaX.1 hn;have ih:=oN (r:=r) h2 hT;rw[xbz,xbz];by_cases e:z=k
  ·subst e;rw[kf,hT];simp only[Option.isSome_some,xa5,Option.isSome_none,xaR,xa2,xax,ih,xac h1,xak,xen]
  rw[qz e];have e2:(k∈z::m)↔k∈m:=by rw[xak];exact⟨λh=>h.resolve_left (λh=>e h.symm),.inr⟩
  simp only[e2];split
  ·simp only[xax,ih];omega
  exact ih
def TB.Bw(b:TB K0 S0 ai x y l all ν)(ht:uD K0 ai l t){e:Nd}(he:K0.N t=some e):l+1<ai e.v:=by have:=ht.2;rwa [au he]at this
def TB.DN(b:TB K0 S0 ai x y l all ν)(hc:c∈all)(h1:uD K0 ai l c.d.lo)(h2:uD K0 ai l c.d.hi):False:=by
 obtain⟨⟨_,_,h3⟩,_⟩:=(b.cx.mem c).1 hc;have hy:=b.nb.ly;rcases h3 with⟨e,he,hv⟩|⟨e,he,hv⟩
 ·have:=b.Bw h1 he;rw[hv]at this;omega
 have:=b.Bw h2 he;rw[hv]at this;omega
def TI.SN(b:TB K0 S0 ai x y l all ν)(h:TI K0 S0 ai x y l ν K S done rest P)(hd:∀c∈done,c∈all)(hr:∀c∈rest,c∈all)(hc:c∈all){k:Nd}(hk:k∈keys x c)(ξ:k.lo≠k.hi)(h1:uD K0 ai l k.lo)(h2:uD K0 ai l k.hi)(hT:K.T k=none):k∈ν:=by
 refine(b.mad.mem k).2 ⟨⟨c,hc,hk⟩,?_,ξ⟩;cases e:K0.T k with
 |none=>rfl
 |some s=>
  have hs:=((b.ok.mid.kK k s).1 e).1;have Γ:∀c'∈all,s≠c'.r:=λc' pP e'=>by
   have h3:=(b.oV pP).1;rw[<-e',hs]at h3;cases h3;exact b.DN pP h1 h2
  have u5:K.N s=some k:=by
   refine h.old hs λhm=>?_;obtain⟨c',pP,e'⟩:=xal.1 hm;exact Γ c' (hd c' pP) e'.symm
  have:=(h.mid.kK k s).2 ⟨u5,by rintro⟨c',pP,e'⟩;exact Γ c' (hr c' pP) e'⟩;rw[hT]at this;cases this
def TI.lay(b:TB K0 S0 ai x y l all ν)(h:TI K0 S0 ai x y l ν K S done rest P)(hd:∀c∈done,c∈all)(hr:∀c∈rest,c∈all){c:Cx}(hc:c∈all){k:Nd}(hk:k∈keys x c)(ξ:k.lo≠k.hi)(hT:K.T k=none)
 {r:Nat}{dG cA:zL}(hN:K.N r=none)(h2:2<=r/\r<K.cap)(hl:dG.length=cA.length)(hf:r<dG.length/\K.us.length<=dG.length)(u0:dG.getD r 0=0)(u1:∀s,2<=s->s≠r->dG.getD s 0=K.use s+e1 (some k) s)(o0:cA.getD r 0=0)(o1:∀s,s≠r->cA.getD s 0=K.hold s)(hP:P r=0):
  TI K0 S0 ai x y l ν {K with N:=up K.N r (some k),T:=rA K.T k (some r),used:=K.used+1,us:=dG,ho:=cA} (up S r (ite S k)) done rest P/\yV K0 {K with N:=up K.N r (some k),T:=rA K.T k (some r),used:=K.used+1,us:=dG,ho:=cA} ai x l r:=by
 have nr:=b.W0 hc;have hkv:k.v=x/\uD K0 ai l k.lo/\uD K0 ai l k.hi:=by
  simp only[keys,xak,xaQ,xbi]at hk;rcases hk with rfl|rfl
  ·exact⟨rfl,nr.1.1,nr.1.2⟩
  exact⟨rfl,nr.2.1,nr.2.2⟩
 have hkN:K0.N r=none:=by
  cases e:K0.N r with
  |none=>rfl
  |some d=>obtain⟨d',dF⟩:=h.kept e;rw[hN]at dF;cases dF
 have hkm:=h.SN b hd hr hc hk ξ hkv.2.1 hkv.2.2 hT;have hE:¬∃c∈rest,r=c.r:=by
  rintro⟨c',pP,rfl⟩;have:=(b.oV (hr c' pP)).1;rw[hkN]at this;cases this
 have GS:∀{t},yV K0 K ai x l t->yV K0 {K with N:=up K.N r (some k),T:=rA K.T k (some r),used:=K.used+1,us:=dG,ho:=cA} ai x l t:=λht=>by
  rcases ht with ht|⟨e,he,h3⟩
  ·exact .inl ht
  refine .inr ⟨e,?_,h3⟩;show up K.N r (some k) _=_;rw[aT (λe2=>by rw[e2,hN]at he;cases he)];exact he
 refine⟨⟨h.mid.lay hN h2 (by rw[hkv.1,h.n];exact b.nb.xn) ξ (h.r4 b hd hkv.2.1) (h.r4 b hd hkv.2.2) hT hE hP (h.fits b hkm hT) hl hf u0 u1 o0 o1,h.n,h.cap,λs=>?_,λs hs=>?_,λ{s d} hs hm=>?_,λ{s d} hs=>?_,λ{s d} hs=>?_,?_⟩,?_⟩
 ·show cA.getD s 0=_;rw[<-h.hold];by_cases e:s=r
  ·subst e;rw[o0];refine(xaD λΓ=>?_);obtain⟨d,dF⟩:=h.mid.held s (λe=>Γ e.symm);rw[hN]at dF;cases dF
  exact o1 s e
 ·rw[aT (gw hs h2.1 hkN)];exact h.ext s hs
 ·show up K.N r (some k) s=_;rw[aT (λe=>by rw[e,hkN]at hs;cases hs)];exact h.old hs hm
 ·obtain⟨d',dF⟩:=h.kept hs;exact⟨d',by show up K.N r (some k) s=_;rw[aT (λe=>by rw[e,hkN]at hs;cases hs)];exact dF⟩
 ·have μ:up K.N r (some k) s=some d:=hs;by_cases e:s=r
  ·subst e;rw[aR]at μ;cases μ;exact .inr (.inr ⟨hkN,hkv⟩)
  rw[aT e]at μ;rcases h.new μ with h1|⟨h1,lZ,h3,h4⟩|h1
  ·exact .inl h1
  ·exact .inr (.inl ⟨h1,lZ,GS h3,GS h4⟩)
  exact .inr (.inr h1)
 ·show K.used+1=K0.used+(ν.filter λd=>(rA K.T k (some r) d).isSome).length;rw[oN b.mad.nd hT,xae hkm,h.used];omega
 exact .inr ⟨k,aR,hkv⟩
def TI.found(b:TB K0 S0 ai x y l all ν)(h:TI K0 S0 ai x y l ν K S done rest P)(hc:c∈all){k:Nd}(hk:k∈keys x c)(hT:K.T k=some r):K.N r=some k/\yV K0 K ai x l r:=by
 have nr:=b.W0 hc;have hN:=((h.mid.kK k r).1 hT).1;simp only[keys,xak,xaQ,xbi]at hk;rcases hk with rfl|rfl
 ·exact⟨hN,.inr ⟨_,hN,rfl,nr.1.1,nr.1.2⟩⟩
 exact⟨hN,.inr ⟨_,hN,rfl,nr.2.1,nr.2.2⟩⟩
def TI.YR(b:TB K0 S0 ai x y l all ν)(h:TI K0 S0 ai x y l ν K S done rest P){a a':Nat}(la:uD K0 ai l a)(GC:uD K0 ai l a')(g:(a=a'/\t=a)\/K.N t=some ⟨x,a,a'⟩)(z:Nat):S t z=ite S0 ⟨x,a,a'⟩ z:=by
 rcases g with⟨rfl,rfl⟩|g
 ·rw[h.ext t la.1];unfold ite;simp
 rw[h.mid.int.node g];unfold ite;simp only;rw[h.ext a la.1,h.ext a' GC.1]
def TI.W3(b:TB K0 S0 ai x y l all ν)(h:TI K0 S0 ai x y l ν K S done rest P)(hd:∀c∈done,c∈all){a a':Nat}(ht:uD K0 ai l t)(g:K.N t=some ⟨x,a,a'⟩):False:=by rw[h.W4 b hd ht]at g;have:=b.Bw ht g;have hx:=b.nb.lx;simp only at this;omega
def TI.A5(b:TB K0 S0 ai x y l all ν){c:Cx}(h:TI K0 S0 ai x y l ν K S done (c::rest) P)(hd:∀c∈done,c∈all)(hr:∀c'∈c::rest,c'∈all)(hn:((done++c::rest).map Cx.r).Nodup){t0 t1:Nat}
 (k0:yV K0 K ai x l t0)(k1:yV K0 K ai x l t1)(g0:(c.yQ=c.uB/\t0=c.yQ)\/K.N t0=some ⟨x,c.yQ,c.uB⟩)(g1:(c.yP=c.uA/\t1=c.yP)\/K.N t1=some ⟨x,c.yP,c.uA⟩){P':Nat->Nat}(hP:∀s,2<=s->P' s+e1 (some ⟨y,t0,t1⟩) s=P s+e1 (some c.d) s):
  K.T ⟨y,t0,t1⟩=none/\TI K0 S0 ai x y l ν {K with N:=up K.N c.r (some ⟨y,t0,t1⟩),T:=rA K.T ⟨y,t0,t1⟩ (some c.r)} S (done++[c]) rest P':=by
 have hc:=hr c zI;obtain⟨BM,CD,hce⟩:=b.oV hc;obtain⟨⟨l00,l10⟩,⟨l01,l11⟩⟩:=b.W0 hc;have w:=b.ok.wf;have hi:=b.ok.mid.int;have hlo:=w.lo BM;have hhi:=w.hi BM;rw[CD,b.nb.lx]at hlo hhi;have ep:c.yQ=pl K0.N y c.d.lo/\c.yP=ph K0.N y c.d.lo/\c.uB=pl K0.N y c.d.hi/\c.uA=ph K0.N y c.d.hi:=by rw[hce];exact⟨rfl,rfl,rfl,rfl⟩
 have both:c.yQ=c.uB->c.yP=c.uA->False:=λe1 e2=>by
  rw[ep.1,ep.2.2.1]at e1;rw[ep.2.1,ep.2.2.2]at e2;exact w.ne BM (w.XJ b.ok.lv hi b.nb.yy hlo.1 hhi.1 hlo.2 hhi.2 e1 e2)
 have hrn:c.r∉done.map Cx.r:=by
  rw[xaz,xa3]at hn;intro hm;exact hn.2.2 _ hm _ zI rfl
 have LR:=h.old BM hrn;have fn0:=λz=>h.YR b l00 l10 g0 z;have fn1:=λz=>h.YR b l01 l11 g1 z;have hS:∀z,S c.r z=ite S ⟨y,t0,t1⟩ z:=λz=>by
  rw[h.ext c.r (.inr ⟨_,BM⟩),xu w b.ok.lv hi b.nb BM CD z];unfold ite;simp only;have a0:=fn0 z;have a1:=fn1 z;unfold ite at a0 a1;simp only at a0 a1;rw[a0,a1,ep.1,ep.2.1,ep.2.2.1,ep.2.2.2]
 have ξ:t0≠t1:=λe=>by
  subst e;rcases g0 with⟨e1,e2⟩|g0
  ·rcases g1 with⟨e3,e4⟩|g1
   ·exact both e1 e3
   rw[e2]at g1;exact h.W3 b hd l00 g1
  rcases g1 with⟨e3,e4⟩|g1
  ·rw[e4]at g0;exact h.W3 b hd l01 g0
  rw[g0]at g1;simp only[xat,Nd.mk.injEq,xco]at g1;obtain⟨q1,q2⟩:=g1;obtain⟨⟨_,_,hcr⟩,_⟩:=(b.cx.mem c).1 hc;rw[ep.1,ep.2.1]at q1;rw[ep.2.2.1,ep.2.2.2]at q2;rcases hcr with⟨e,he,hv⟩|⟨e,he,hv⟩
  ·have:=WD he hv;rw[this.1,this.2]at q1;exact w.ne he q1
  have:=WD he hv;rw[this.1,this.2]at q2;exact w.ne he q2
 have hT:K.T ⟨y,t0,t1⟩=none:=by
  cases e:K.T ⟨y,t0,t1⟩with
  |none=>rfl
  |some s=>
   obtain⟨hs,SY⟩:=(h.mid.kK _ s).1 e;rcases h.new hs with⟨h1,_⟩|⟨h1,_⟩|⟨_,h1,_⟩
   ·have q1:=w.lo h1;have q2:=w.hi h1;simp only at q1 q2;rw[b.nb.ly]at q1 q2;have p1:c.yQ=c.uB:=by
     rcases g0 with⟨e1,_⟩|g0
     ·exact e1
     exact(h.W3 b hd q1 g0).elim
    have p2:c.yP=c.uA:=by
     rcases g1 with⟨e1,_⟩|g1
     ·exact e1
     exact(h.W3 b hd q2 g1).elim
    exact(both p1 p2).elim
   ·obtain⟨c',pP,e'⟩:=xal.1 h1;have TC:=(b.oV (hd c' pP)).1;have:c'.r=c.r:=w.same b.ok.lv hi (.inr ⟨_,TC⟩) (.inr ⟨_,BM⟩) λz=>by
     rw[<-h.ext c'.r (.inr ⟨_,TC⟩),<-h.ext c.r (.inr ⟨_,BM⟩),hS z,e',h.mid.int.node hs z];rfl
    exact absurd (xal.2 ⟨c',pP,this⟩) hrn
   exact absurd h1 (xa9 b.nb.ne)
 have GS:∀{t},yV K0 K ai x l t->yV K0 {K with N:=up K.N c.r (some ⟨y,t0,t1⟩),T:=rA K.T ⟨y,t0,t1⟩ (some c.r)} ai x l t:=λht=>by
  rcases ht with ht|⟨e,he,h3⟩
  ·exact .inl ht
  refine .inr ⟨e,?_,h3⟩;show up K.N c.r (some ⟨y,t0,t1⟩) _=_;refine(aT λe2=>?_).trans he;rw[e2,LR]at he;cases he;exact b.DN hc h3.2.1 h3.2.2
 have hml:∀s,s∈(done++[c]).map Cx.r↔s∈done.map Cx.r\/s=c.r:=λs=>by simp[xao]
 refine⟨hT,⟨(h.mid.A5 LR ⟨c,by simp,rfl⟩ (by rw[h.n];exact b.nb.yn) ξ (h.r8 b hd k0) (h.r8 b hd k1) hT hS hP).congr (λs=>?_) (λ_ _=>rfl),h.n,h.cap,h.hold,h.ext,λ{s d} hs hm=>?_,λ{s d} hs=>?_,λ{s d} hs=>?_,?_⟩⟩
 ·constructor
  ·rintro⟨⟨c',pP,rfl⟩,h2⟩;rcases xak.1 pP with rfl|pP
   ·exact absurd rfl h2
   exact⟨c',pP,rfl⟩
  rintro⟨c',pP,rfl⟩;refine⟨⟨c',xbv _ pP,rfl⟩,λe=>?_⟩;rw[xaz,xa3]at hn;have:=hn.2.1;rw[xay,xaX]at this;exact this.1 (xal.2 ⟨c',pP,e⟩)
 ·have Ω:=λx=>hm ((hml s).2 x);show up K.N c.r _ s=_;rw[aT (λe=>Ω (.inr e))];exact h.old hs (λx=>Ω (.inl x))
 ·by_cases e:s=c.r
  ·exact⟨⟨y,t0,t1⟩,by show up K.N c.r (some _) s=_;rw[e,aR]⟩
  obtain⟨d',dF⟩:=h.kept hs;exact⟨d',by show up K.N c.r (some _) s=_;rw[aT e];exact dF⟩
 ·have μ:up K.N c.r (some ⟨y,t0,t1⟩) s=some d:=hs;by_cases e:s=c.r
  ·rw[e,aR]at μ;cases μ;exact .inr (.inl ⟨(hml s).2 (.inr e),rfl,GS k0,GS k1⟩)
  rw[aT e]at μ;rcases h.new μ with⟨h1,h2⟩|⟨h1,h2,h3,h4⟩|h1
  ·exact .inl ⟨h1,λhm=>((hml s).1 hm).elim h2 e⟩
  ·exact .inr (.inl ⟨(hml s).2 (.inl h1),h2,GS h3,GS h4⟩)
  exact .inr (.inr h1)
 show K.used=K0.used+(ν.filter λd=>(rA K.T ⟨y,t0,t1⟩ (some c.r) d).isSome).length;have hnm:(⟨y,t0,t1⟩:Nd)∉ν:=λhm=>by
  obtain⟨⟨c',pP,hk⟩,_⟩:=(b.mad.mem _).1 hm;simp only[keys,xak,xaQ,xbi,Nd.mk.injEq]at hk;rcases hk with⟨e,_⟩|⟨e,_⟩
  ·exact b.nb.ne e.symm
  exact b.nb.ne e.symm
 rw[oN b.mad.nd hT,xac hnm,h.used];rfl
def TI.levels(b:TB K0 S0 ai x y l all ν)(h:TI K0 S0 ai x y l ν K S all [] P){s:Nat}{d:Nd}(hs:K.N s=some d):
  uH ai x y l d.v<ι K0.n (uH ai x y l) K.N d.lo/\uH ai x y l d.v<ι K0.n (uH ai x y l) K.N d.hi:=by
 have w:=b.ok.wf;have hd:∀c∈all,c∈all:=λ_ h=>h;have hyn:l+1<K0.n:=by have:=b.ok.lv.lt y b.nb.yn;rw[b.nb.ly]at this;exact this
 have sx:uH ai x y l x=l+1:=by simp[uH]
 have sy:uH ai x y l y=l:=by unfold uH;rw[xac (xa9 b.nb.ne),xae rfl]
 have so:∀v,v<K0.n->ai v≠l->ai v≠l+1->uH ai x y l v=ai v:=λv hv h1 h2=>by
  unfold uH;rw[xac (λe=>h1 (by rw[e];exact b.nb.lx)),xac (λe=>h2 (by rw[e];exact b.nb.ly))]
 have low:∀{t},uD K0 ai l t->l+1<ι K0.n (uH ai x y l) K.N t:=λ{t} ht=>by
  have e:=h.W4 b hd ht;cases e2:K0.N t with
  |none=>rw[aV (by rw[e,e2])];exact hyn
  |some e'=>
   have:=b.Bw ht e2;rw[au (by rw[e,e2]),so _ (w.var e2) zO zO];exact this
 have z5:∀{t},yV K0 K ai x l t->l<ι K0.n (uH ai x y l) K.N t:=λ{t} ht=>by
  rcases ht with ht|⟨e,he,hx,_⟩
  ·have:=low ht;omega
  rw[au he,hx,sx];omega
 rcases h.new hs with⟨h1,h2⟩|⟨_,h2,h3,h4⟩|⟨_,h2,h3,h4⟩
 ·have hv:=w.var h1;have q1:=w.lo h1;have q2:=w.hi h1;rcases xcu (ai d.v) l with η|heq|hgt
  ·rw[so _ hv zO zO];have up':∀{t},live K0.N t->ai d.v<ι K0.n ai K0.N t->ai d.v<ι K0.n (uH ai x y l) K.N t:=λ{t} ht iL=>by
    cases e:K.N t with
    |none=>rw[aV e];exact xaP iL (w.iN b.ok.lv t)
    |some e'=>
     rw[au e];rcases h.new e with⟨g1,_⟩|⟨_,g2,_⟩|⟨g1,_⟩
     ·rw[au g1]at iL;have hve:=w.var g1;by_cases e1:ai e'.v=l
      ·have:e'.v=x:=b.ok.lv.inj _ _ hve b.nb.xn (by rw[b.nb.lx];exact e1);rw[this,sx];omega
      by_cases e2:ai e'.v=l+1
      ·have:e'.v=y:=b.ok.lv.inj _ _ hve b.nb.yn (by rw[b.nb.ly];exact e2);rw[this,sy];exact η
      rw[so _ hve e1 e2];exact iL
     ·rw[g2,sy];exact η
     rcases ht with ht|⟨f,hf⟩
     ·have:=(h.mid.two e).1;omega
     rw[g1]at hf;cases hf
   exact⟨up' q1.1 q1.2,up' q2.1 q2.2⟩
  ·have hx:d.v=x:=b.ok.lv.inj _ _ hv b.nb.xn (by rw[b.nb.lx];exact heq);rw[hx,sx];have nc:∀t,t=d.lo\/t=d.hi->∀e,K0.N t=some e->e.v≠y:=λt ht e he hv=>h2 (xal.2 ⟨oU K0.N y s d,(b.cx.mem _).2 ⟨⟨h1,hx,by
    rcases ht with rfl|rfl
    ·exact .inl ⟨e,he,hv⟩
    exact .inr ⟨e,he,hv⟩⟩,rfl⟩,rfl⟩)
   have lw:∀t,t=d.lo\/t=d.hi->live K0.N t->ai d.v<ι K0.n ai K0.N t->uD K0 ai l t:=λt ht hlv η=>by
    refine⟨hlv,?_⟩;have:=(w.half b.ok.lv b.ok.mid.int b.nb.yy hlv (by omega:l<ι K0.n ai K0.N t)).1.2;rwa [(WE (nc t ht)).1]at this
   exact⟨low (lw _ (.inl rfl) q1.1 q1.2),low (lw _ (.inr rfl) q2.1 q2.2)⟩
  by_cases e:ai d.v=l+1
  ·have hy:d.v=y:=b.ok.lv.inj _ _ hv b.nb.yn (by rw[b.nb.ly];exact e);rw[hy,sy];have a1:=low ⟨q1.1,by omega⟩;have a2:=low ⟨q2.1,by omega⟩;exact⟨by omega,by omega⟩
  rw[so _ hv zO e];have deep:∀{t},live K0.N t->ai d.v<ι K0.n ai K0.N t->ai d.v<ι K0.n (uH ai x y l) K.N t:=λ{t} ht iL=>by
   have hl:uD K0 ai l t:=⟨ht,by omega⟩;have e':=h.W4 b hd hl;cases e2:K0.N t with
   |none=>rw[aV (by rw[e',e2])];exact b.ok.lv.lt _ hv
   |some f=>
    rw[au e2]at iL;rw[au (by rw[e',e2]),so _ (w.var e2) zO zO];exact iL
  exact⟨deep q1.1 q1.2,deep q2.1 q2.2⟩
 ·rw[h2,sy];exact⟨z5 h3,z5 h4⟩
 rw[h2,sx];exact⟨low h3,low h4⟩
def TI.fin(b:TB K0 S0 ai x y l all ν)(h:TI K0 S0 ai x y l ν K S all [] P){K':Kd}(hm:j9 K' S iZ zero')(hp:Pos K')(hN:∀{s d},K'.N s=some d->K.N s=some d)(hn:K'.n=K.n)(hh:∀r,K'.hold r=K.hold r):
  Ok K' S (uH ai x y l)/\(∀g,K'.held S g↔K0.held S0 g)/\∀r,K0.hold r≠0->S r=S0 r:=by
 have G9:∀r,K0.hold r≠0->S r=S0 r:=λr hr=>h.ext r (.inr (b.ok.mid.held r hr));refine⟨⟨hm,hp,by rw[hn,h.n];exact We b.ok.lv b.nb,hm.wf λ{s d} hs=>?_⟩,λg=>?_,G9⟩
 ·have hl:=h.levels b (hN hs);have same:∀{t},live K'.N t->ι K'.n (uH ai x y l) K'.N t=ι K0.n (uH ai x y l) K.N t:=λ{t} ht=>by
   cases e:K'.N t with
   |some f=>rw[au e,au (hN e)]
   |none=>
    have Y7:t<2:=by
     rcases ht with ht|⟨f,hf⟩
     ·exact ht
     rw[e]at hf;cases hf
    have:K.N t=none:=by
     cases e2:K.N t with
     |none=>rfl
     |some f=>have:=(h.mid.two e2).1;omega
    rw[aV e,aV this,hn,h.n]
  rw[same (hm.lo hs),same (hm.hi hs)];exact hl
 constructor
 ·rintro⟨r,hr,rfl⟩;have hr':K0.hold r≠0:=by rw[<-h.hold,<-hh];exact hr
  exact⟨r,hr',G9 r hr'⟩
 rintro⟨r,hr,rfl⟩;exact⟨r,by show K'.hold r≠0;rw[hh,h.hold];exact hr,(G9 r hr).symm⟩
end
variable {n cap l:Nat} {θ:zL} {F G:Fn->Prop}
open Classical in
noncomputable def sz(n:Nat)(θ:zL)(F:Fn->Prop):Nat:=if h:∃k,nQ (aE n θ F) k then Classical.choose h else 0
def KY(h:nQ (aE n θ F) k):sz n θ F=k:=by unfold sz;rw[xd8 ⟨k,h⟩];exact(xck (⟨k,h⟩:∃k,nQ (aE n θ F) k)).uniq h
def Qr(n:Nat)(θ:zL)(l:Nat)(F:Fn->Prop):Fn->Prop:=λg=>aE n θ F g\/aE n (fV θ l) F g
open Classical in
noncomputable def A2(n:Nat)(θ:zL)(l:Nat)(F:Fn->Prop):Nat:=if h:∃k,nQ (Qr n θ l F) k then Classical.choose h else 0
def ZO(h:nQ (Qr n θ l F) k):A2 n θ l F=k:=by unfold A2;rw[xd8 ⟨k,h⟩];exact(xck (⟨k,h⟩:∃k,nQ (Qr n θ l F) k)).uniq h
def Ri(e:∀g,F g↔G g):sz n θ F=sz n θ G:=by have:F=G:=funext λg=>propext (e g);rw[this]
def M0(e:∀g,F g↔G g):A2 n θ l F=A2 n θ l G:=by have:F=G:=funext λg=>propext (e g);rw[this]
def EB{a b:zL}(hl:a.length=b.length)(h:∀i,i<a.length->a.getD i 0=b.getD i 0):a=b:=by refine List.ext_getElem hl λi h1 h2=>?_;have:=h i h1;simpa[List.getD,xab h1,xab h2]using this
def rJ(hl:l+1<θ.length):fV (fV θ l) l=θ:=by
 refine EB (by rw[mY,mY]) λi _=>?_;have h2:l+1<(fV θ l).length:=by rw[mY];exact hl
 rw[fI h2,fI hl,fI hl,fI hl];by_cases e:i=l
 ·subst e;simp
 by_cases e2:i=l+1
 ·subst e2;simp
 simp[e,e2]
def V0(hl:l+1<θ.length):A2 n (fV θ l) l F=A2 n θ l F:=by
 have:Qr n (fV θ l) l F=Qr n θ l F:=by
  funext g
  unfold Qr;rw[rJ hl];exact propext or_comm
 unfold A2;rw[this]
def yS(n cap:Nat)(F:Fn->Prop):zL->zL->Prop
 |_,[]=>True
 |θ,l::r=>l+1<n/\A2 n θ l F+2<=cap/\yS n cap F (fV θ l) r
def yS.congr(e:∀g,F g↔G g):∀{tr θ:zL},yS n cap F θ tr->yS n cap G θ tr:=by have:F=G:=funext λg=>propext (e g);subst this;exact λ{tr θ} h=>h
def yS.ai5(Ξ:θ.length=n)(hl:l+1<n)(hfit:A2 n θ l F+2<=cap){tr:zL}(h:yS n cap F θ tr.reverse):yS n cap F (fV θ l) (tr++[l]).reverse:=by rw[List.reverse_append];exact⟨hl,by rw[V0 zO];exact hfit,by rw[rJ zO];exact h⟩
variable {n l:Nat} {θ:zL} {L:an.Fs} {F:Fn->Prop}
def nW(n:Nat)(ws:zL):Fn:=λx=>bit ws (x%2^n)
def oe{x v n:Nat}{b:Bool}(hv:v<n):aC x v b%2^n=aC (x%2^n) v b:=by
 apply xaV;intro k;rw[xbC,ak,ak,xbC];by_cases e:k=v
 ·subst e;simp[hv]
 simp[e]
def LY{v:Nat}{ws:zL}(hf:eU n ws)(hv:v<n)(b:Bool):nW n (iU n ws v b)=λx=>nW n ws (aC x v b):=by
 funext x
 unfold nW;rw[fj hf hv (xbJ _ (xbx n)),oe hv]
def Ud{ws:zL}(h:x<2^n):nW n ws x=bit ws x:=by unfold nW;rw[xbl h]
def BV{a b:zL}(ha:eU n a)(hb:eU n b)(h:nW n a=nW n b):a=b:=ha.ext hb λx hx=>by rw[<-Ud hx,<-Ud hx,h]
def Al{v:Nat}{ws:zL}(hf:eU n ws)(hv:v<n):bW (nW n ws) v↔an.ι n ws v=true:=by
 rw[vp hf hv];constructor
 ·rintro⟨x,hx⟩;refine⟨x%2^n,xbJ _ (xbx n),?_⟩;unfold nW at hx;rwa [oe hv,oe hv]at hx
 rintro⟨x,hx,ξ⟩;refine⟨x,?_⟩;unfold nW;rwa [oe hv,oe hv,xbl hx]
def cur(n:Nat)(θ:zL)(L:an.Fs):Nat->an.Fs
 |0=>mV L
 |k+1=>given n (cur n θ L k) (θ.getD k 0)
def FT(n:Nat)(L:an.Fs):Fn->Prop:=λg=>∃t∈L,g=nW n t
def Ar:∀k,(cur n θ L k).Nodup
 |0=>jL L
 |k+1=>k7 _ _ _
def sD(hL:∀t∈L,eU n t)(hn:n<=16):∀k,∀t∈cur n θ L k,eU n t
 |0,t,h=>hL t (eG.1 h)
 |k+1,t,h=>by obtain⟨u,_,b,rfl⟩:=bX.1 h;exact eH hn
def Hh(hL:∀t∈L,eU n t)(hn:n<=16)(ho:∀i,i<n->θ.getD i 0<n):∀k,k<=n->∀g,fs θ (FT n L) k g↔∃t∈cur n θ L k,g=nW n t
 |0,_,g=>by
  show(∃t∈L,g=nW n t)↔_;constructor
  ·rintro⟨t,h,e⟩;exact⟨t,eG.2 h,e⟩
  rintro⟨t,h,e⟩;exact⟨t,eG.1 h,e⟩
 |k+1,hk,g=>by
  have ih:=Hh hL hn ho k zO;constructor
  ·rintro⟨f,hf,b,rfl⟩;obtain⟨t,ht,rfl⟩:=(ih f).1 hf;exact⟨iU n t (θ.getD k 0) b,bX.2 ⟨t,ht,b,rfl⟩,(LY (sD hL hn k t ht) (ho k zO) b).symm⟩
  rintro⟨t,ht,rfl⟩;obtain⟨u,hu,b,rfl⟩:=bX.1 ht;exact⟨nW n u,(ih _).2 ⟨u,hu,rfl⟩,b,LY (sD hL hn k u hu) (ho k zO) b⟩
def xd:∀k g,fs θ F k g->∀j,j<k->¬bW g (θ.getD j 0)
 |0,_,_,_,h=>absurd h (xb9 _)
 |k+1,g,h,j,hj=>by
  obtain⟨f,hf,b,rfl⟩:=h;rintro⟨x,hx⟩;apply hx;by_cases e:θ.getD j 0=θ.getD k 0
  ·show f (aC (aC x _ false) _ b)=f (aC (aC x _ true) _ b);congr 1;apply xaV;intro i;simp only[ak,e];split<;>rfl
  have η:j<k:=by
   rcases xdQ.1 hj with h|h
   ·exact h
   subst h;exact(e rfl).elim
  have:=xd k f hf j η;show f (aC (aC x _ false) _ b)=f (aC (aC x _ true) _ b);rw[dx e,dx e];exact xaD λξ=>this ⟨_,ξ⟩
def Gz(n:Nat)(θ:zL)(L:an.Fs)(k:Nat):an.Fs:=nodes n (cur n θ L k) (θ.getD k 0)
def kU(n:Nat)(θ:zL)(L:an.Fs):Nat->Nat
 |0=>0
 |k+1=>kU n θ L k+(Gz n θ L k).length
def HP(n:Nat)(θ:zL)(L:an.Fs):Nat->an.Fs
 |0=>[]
 |k+1=>HP n θ L k++Gz n θ L k
def uy:∀k,(HP n θ L k).length=kU n θ L k
 |0=>rfl
 |k+1=>by rw[HP,kU,xaf,uy k]
def rU{t:zL}:t∈Gz n θ L k↔t∈cur n θ L k/\an.ι n t (θ.getD k 0)=true:=by unfold Gz nodes;rw[xb0]
def E6(hL:∀t∈L,eU n t)(hn:n<=16):∀k,∀t∈HP n θ L k,eU n t
 |0,t,h=>by cases h
 |k+1,t,h=>by
  rcases xao.1 h with h|h
  ·exact E6 hL hn k t h
  exact sD hL hn k t (rU.1 h).1
def xK(hL:∀t∈L,eU n t)(hn:n<=16)(ho:∀i,i<n->θ.getD i 0<n):∀m,m<=n->∀g,(∃k,k<m/\fs θ (FT n L) k g/\bW g (θ.getD k 0))↔∃t∈HP n θ L m,g=nW n t
 |0,_,g=>by simp[HP]
 |m+1,hm,g=>by
  have ih:=xK hL hn ho m zO g;have ai:(fs θ (FT n L) m g/\bW g (θ.getD m 0))↔∃t∈Gz n θ L m,g=nW n t:=by
   rw[Hh hL hn ho m zO];constructor
   ·rintro⟨⟨t,ht,rfl⟩,hh⟩;exact⟨t,rU.2 ⟨ht,(Al (sD hL hn m t ht) (ho m zO)).1 hh⟩,rfl⟩
   rintro⟨t,ht,rfl⟩;obtain⟨h1,h2⟩:=rU.1 ht;exact⟨⟨t,h1,rfl⟩,(Al (sD hL hn m t h1) (ho m zO)).2 h2⟩
  constructor
  ·rintro⟨k,hk,h1,h2⟩;by_cases e:k=m
   ·subst e;obtain⟨t,ht,rfl⟩:=ai.1 ⟨h1,h2⟩;exact⟨t,xaa _ ht,rfl⟩
   obtain⟨t,ht,rfl⟩:=ih.1 ⟨k,by omega,h1,h2⟩;exact⟨t,xad _ ht,rfl⟩
  rintro⟨t,ht,rfl⟩;rcases xao.1 ht with ht|ht
  ·obtain⟨k,hk,h⟩:=ih.2 ⟨t,ht,rfl⟩;exact⟨k,by omega,h⟩
  exact⟨m,by omega,ai.2 ⟨t,ht,rfl⟩⟩
def xJ(hL:∀t∈L,eU n t)(hn:n<=16)(ho:∀i,i<n->θ.getD i 0<n):∀m,m<=n->(HP n θ L m).Nodup
 |0,_=>List.nodup_nil
 |m+1,hm=>by
  refine xa3.2 ⟨xJ hL hn ho m zO,(Ar m).filter _,λa ha b hb e=>?_⟩;subst e;obtain⟨k,hk,h1,h2⟩:=(xK hL hn ho m zO (nW n a)).2 ⟨a,ha,rfl⟩;have h3:=(Hh hL hn ho m zO (nW n a)).2 ⟨a,(rU.1 hb).1,rfl⟩;exact xd m _ h3 k hk h2
def UC{P:Fn->Prop}{l:an.Fs}(hf:∀t∈l,eU n t)(hn:l.Nodup)(h:∀g,P g↔∃t∈l,g=nW n t):nQ P l.length:=by
 refine⟨l.map (nW n),?_,by simp,λg=>?_⟩
 ·refine xbN.2 (hn.imp_of_mem λ{a b} ha hb ξ heq=>ξ (BV (hf a ha) (hf b hb) heq))
 rw[h,xal];constructor
 ·rintro⟨t,ht,rfl⟩;exact⟨t,ht,rfl⟩
 rintro⟨t,ht,rfl⟩;exact⟨t,ht,rfl⟩
def abC(hL:∀t∈L,eU n t)(hn:n<=16)(ho:∀i,i<n->θ.getD i 0<n):nQ (aE n θ (FT n L)) (kU n θ L n):=by rw[<-uy];exact UC (E6 hL hn n) (xJ hL hn ho n (xai _)) (xK hL hn ho n (xai _))
def YH(hL:∀t∈L,eU n t)(hn:n<=16)(ho:∀i,i<n->θ.getD i 0<n):sz n θ (FT n L)=kU n θ L n:=KY (abC hL hn ho)
end ax
set_option maxRecDepth 100000
namespace Go.Proofs
open Go Go.Sx Tryz
section
open ax
def δ(r:Nat):zV:=.int .u32 (r:Int)
def bB(d:Nd):List zV:=[iv (d.v:Int),δ d.lo,δ d.hi]
structure qe where
 v:Int
 lo:Nat
 hi:Nat
 tk:Bool
 c:Nat
def qe.row(p:qe):List zV:=[iv p.v,δ p.lo,δ p.hi,.bool p.tk,.int .u8 (p.c:Int)]
def gL(N:eM)(r:Nat):Bool:=decide (r<2)||(N r).isSome
variable{N:eM}{r:Nat}
def cg:gL N r=true↔live N r:=by unfold gL live;rw[xbu,xaM,xdP]
def got(N:eM)(r:Nat):List zV:=
 if r<2 then [iv (-1),δ r,δ r]else match N r with|some d=>bB d|none=>[iv 0,δ 0,δ 0]
def eo{d:Nd}(h:N r=some d)(h2:2<=r):got N r=bB d:=by unfold got;rw[xac zO,h]
def fS(h2:r<2):got N r=[iv (-1),δ r,δ r]:=by unfold got;rw[xae h2]
def El(h:gL N r=false):got N r=[iv 0,δ 0,δ 0]:=by
 unfold gL at h;rw[xaG,xbq]at h;unfold got;rw[xac h.1];cases hN:N r with
 |none=>rfl
 |some d=>rw[hN]at h;simp at h
def NN(p:qe):Option Nd:=if p.tk then some ⟨p.v.toNat,p.lo,p.hi⟩else none
structure Cp(l:List qe)(fr:zL)(cap used:Nat)(N:eM):Prop where
 cap:l.length<=cap/\cap<=1048576
 two:2<=l.length
 const:∀r,r<2->∃p,l[r]? =some p/\p.v= -1/\p.lo=r/\p.hi=r/\p.tk=true
 nd:∀r,2<=r->N r=(l[r]?).bind NN
 n0:∀r,r<2->N r=none
 nn:∀(r:Nat) p,2<=r->l[r]? =some p->p.tk=true->0<=p.v
 VO:fr.Nodup
 CQ:∀r,r∈fr↔∃p,l[r]? =some p/\p.tk=false
 used:used+fr.length=l.length
def Cp.DZ{l:List qe}{fr:zL}{cap used:Nat}(h:Cp l fr cap used N)(r:Nat):gL N r=(match l[r]? with|some p=>p.tk|none=>false):=by
 unfold gL;by_cases h2:r<2
 ·obtain⟨p,hp,_,_,_,ht⟩:=h.const r h2;simp[h2,hp,ht]
 rw[h.nd r zO];cases hl:l[r]? with
 |none=>simp[h2]
 |some p=>cases ht:p.tk<;>simp[h2,NN,ht]
def Cp.ai0{l:List qe}{fr:zL}{cap used:Nat}(h:Cp l fr cap used N){p:qe}(hp:l[r]? =some p)(ht:p.tk=true):got N r=p.row.take 3:=by
 by_cases h2:r<2
 ·obtain⟨p',hp',h1,lZ,h3,_⟩:=h.const r h2;rw[hp]at hp';cases hp';rw[fS h2];simp[qe.row,h1,lZ,h3]
 have hn:=h.nn r p zO hp ht;rw[eo (d:=⟨p.v.toNat,p.lo,p.hi⟩) (by rw[h.nd r zO,hp];simp[NN,ht]) zO];simp[bB,qe.row,Int.toNat_of_nonneg hn]
def Cp.lt{l:List qe}{fr:zL}{cap used:Nat}(h:Cp l fr cap used N)(hr:live N r):r<l.length:=by
 have:=cg.2 hr;rw[h.DZ]at this;cases hl:l[r]? with
 |none=>rw[hl]at this;simp at this
 |some p=>exact(xah.1 hl).1
def jk(pa cap used:Nat)(N:eM)(C:Hp):Prop:=
 ∃vl vf l fr Cl Cf,C=(pa,.cells #[iv (cap:Int),vl,vf,iv (used:Int)] 142 zZ)::(Cl++Cf)/\
  aU 146 5 vl (l.map qe.row) Cl/\aL 78 .u32 vf (fr.map (Nat.cast:Nat->Int)) Cf/\Cp l fr cap used N
abbrev γ(b:Nat):zV:=.pointer (some ⟨b,0,none⟩)
def row_one(p:qe):∀x∈p.row,x.oneCell'=true:=by intro x hx;simp[qe.row,δ]at hx;rcases hx with rfl|rfl|rfl|rfl|rfl<;>rfl
variable{C:Hp}
def rI{pa cap used r:Nat}(h:jk pa cap used N C)(hr:r<4294967296):
  Rd zQ 249 #[γ pa,δ r] C (· =.bool (gL N r)):=by
 obtain⟨vl,vf,l,fr,Cl,Cf,rfl,hl,hf,ho⟩:=h;refine aJ λg=>IA (bu.q (Nil.γ ?_));refine aj.mk (Ld.mk zM rfl ?_);refine hl.bL (ah.eA ?_);rw[xar];rw[ho.DZ r];refine dh.and (match l[r]? with|some p=>p.tk|none=>false) (λη=>?_) rfl λ_=>br.mk (.refl _) ?_
 ·have iL:=xb5 η;apply Nil.γ;refine aj.mk (Ld.mk zM rfl ?_);have hg:l[r]? =some l[r]:=xab iL;refine hl.aao (r:=l[r].row) (x:=.bool l[r].tk) (by rw[xaq,hg];rfl) rfl (λ_ h=>by exact .tail _ (xad _ h)) ?_;exact⟨rfl,by rw[hg]⟩
 congr 1;by_cases η:r<l.length
 ·simp[η]
 rw[xaB zO];simp
theorem T4{pa cap used r:Nat}(h:jk pa cap used N C)(hr:r<4294967296):
  Rd zQ 189 #[γ pa,δ r] C (· =.tuple #[.agg (got N r).toArray,iv (if gL N r then 0 else 3)]):=by
 have h0:=h;obtain⟨vl,vf,l,fr,Cl,Cf,rfl,hl,hf,ho⟩:=h;refine aJ λg=>Jl λb1 _=>?_;refine ah.aK (Br.no (ae.eq (rI h0 hr) (Un.not (Br.mk (λhb=>?_) (λhb=>?_)))))
 ·have hb':gL N r=false:=by simpa using hb
  refine Build.mk (cs:=[iv 0,.int .u32 0,.int .u32 0]) zK (St.q ?_);refine aB.q ?_;exact br.mk .tail (by rw[El hb',hb'];rfl)
 have hb':gL N r=true:=by simpa using hb
 have hx:=hb';rw[ho.DZ]at hx;cases hg:l[r]? with
 |none=>rw[hg]at hx;simp at hx
 |some p=>
 rw[hg]at hx;simp only at hx;apply Nil.γ;refine aj.mk (Ld.mk zM rfl ?_);refine hl.aan (r:=p.row) (by rw[xaq,hg];rfl) zD (λ_ h=>by exact .tail _ (.tail _ (xad _ h))) ?_;refine St.p (λx hx=>row_one p x (xcK hx)) ?_;refine aB.q ?_;exact br.mk .tail (by rw[ho.ai0 hg hx,hb'];rfl)
structure NOk(N:eM)(d:Nd):Prop where
 v:d.v<64
 lo:live N d.lo
 hi:live N d.hi
def jk.lt{pa cap used r:Nat}(h:jk pa cap used N C)(hr:live N r):r<cap/\cap<=1048576:=by obtain⟨vl,vf,l,fr,Cl,Cf,rfl,hl,hf,ho⟩:=h;exact⟨xaP (ho.lt hr) ho.cap.1,ho.cap.2⟩
theorem AH{pa cap used:Nat}{d:Nd}(h:jk pa cap used N C)(hd:NOk N d):
  Rd zQ 261 #[γ pa,.agg (bB d).toArray] C (· =iv 0):=by
 have hlo:=h.lt hd.lo;have hhi:=h.lt hd.hi;refine aJ λg=>Ip λb1 _=>?_;refine Ld.f ?_;refine ah.lss (dh.or (decide (64<=d.v)) (λ_=>?_) rfl λ_=>?_)
 ·refine Ld.f ?_;exact ah.uo (b:=64) ⟨rfl,rfl⟩
 have hv:=hd.v;refine Br.no' zP λJ hJ=>?_;refine Ld.f ?_;refine ae.eq (rI h zO) ?_;rw[cg.2 hd.lo];refine Un.not (Split.go rfl (Ld.f ?_));refine ae.eq (rI h zO) ?_;rw[cg.2 hd.hi];refine Un.not (aG.mk (JE.mk (hJ _ _ λgs=>Br.no (br.mk .tail rfl))))
def R9{pa cap used r:Nat}(h:jk pa cap used N C)(hr:∃d,N r=some d)(h2:2<=r):
  Rd zQ 251 #[γ pa,δ r] C (· =iv 0):=by have hl:=h.lt (.inr hr);refine aJ λg=>Iy λJ hJ=>?_;refine ah.By (b:=1) (Split.go zP ?_);apply ae.eq (rI h zO);rw[cg.2 (.inr hr)];refine Un.not (aG.mk (JE.mk (hJ _ _ λgs=>Br.no (br.mk (.refl _) rfl))))
def EU{pa cap used:Nat}(h:jk pa cap used N C):Rd zQ 119 #[γ pa] C (· =iv (used:Int)):=by obtain⟨vl,vf,l,fr,Cl,Cf,rfl,hl,hf,ho⟩:=h;refine aJ λg=>Kq (ah.aK (Br.no (Nil.γ ?_)));refine aj.mk (Ld.mk zM rfl ?_);exact br.mk (.refl _) rfl
def HL{pa cap used:Nat}(h:jk pa cap used N C):Rd zQ 214 #[γ pa] C (· =iv (cap:Int)):=by obtain⟨vl,vf,l,fr,Cl,Cf,rfl,hl,hf,ho⟩:=h;refine aJ λg=>I3 (ah.aK (Br.no (Nil.γ ?_)));refine aj.mk (Ld.mk zM rfl ?_);exact br.mk (.refl _) rfl
end
section
open ax
section
variable {l:List qe} {fr:zL} {cap used:Nat} {N:eM}
def Gr(d:Nd){c:Nat}:NN ⟨(d.v:Int),d.lo,d.hi,true,c⟩=some d:=by simp[NN]
def Cp.reuse(h:Cp l fr cap used N){r:Nat}(hr:r∈fr){σ:zL}(hf:fr.Perm (r::σ))(d:Nd):
  2<=r/\r<cap/\N r=none/\Cp (l.set r ⟨(d.v:Int),d.lo,d.hi,true,0⟩) σ cap (used+1) (up N r (some d)):=by
 obtain⟨p,hp,ht⟩:=(h.CQ r).1 hr;have η:=(xah.1 hp).1;have h2:2<=r:=by
  apply xdK;intro hn;obtain⟨p',hp',_,_,_,ht'⟩:=h.const r zO;rw[hp]at hp';cases hp';rw[ht]at ht';cases ht'
 have fQ:=hf.nodup_iff.1 h.VO;rw[xaX]at fQ;refine⟨h2,xaP η h.cap.1,by rw[h.nd r h2,hp];simp[NN,ht],?_⟩;have g9:∀s,s≠r->(l.set r ⟨(d.v:Int),d.lo,d.hi,true,0⟩)[s]? =l[s]? :=λs hs=>xbw (xa9 hs);have mQ:(l.set r ⟨(d.v:Int),d.lo,d.hi,true,0⟩)[r]? =some ⟨(d.v:Int),d.lo,d.hi,true,0⟩:=xbo η;exact {
  cap:=by simpa using h.cap
  two:=by simpa using h.two
  const:=λs hs=>by rw[g9 s zO];exact h.const s hs
  nd:=λs hs=>by
   by_cases e:s=r
   ·subst e;rw[aR,mQ];exact(Gr d).symm
   rw[aT e,g9 s e];exact h.nd s hs
  n0:=λs hs=>by rw[aT zO];exact h.n0 s hs
  nn:=λs q hs hq SZ=>by
   by_cases e:s=r
   ·subst e;rw[mQ]at hq;cases hq;exact xdi _
   rw[g9 s e]at hq;exact h.nn s q hs hq SZ
  VO:=fQ.2
  CQ:=λs=>by
   by_cases e:s=r
   ·subst e;rw[mQ];simp[fQ.1]
   rw[g9 s e,<-h.CQ s,hf.mem_iff];simp[e]
  used:=by have:=h.used;have:=hf.length_eq;simp only[xax,xbE]at*;omega}
def Cp.grow(h:Cp l [] cap used N)(η:l.length<cap)(d:Nd):
  2<=l.length/\N l.length=none/\Cp (l++[⟨(d.v:Int),d.lo,d.hi,true,0⟩]) [] cap (used+1) (up N l.length (some d)):=by
 have h2:=h.two;refine⟨h2,by rw[h.nd _ h2,xaB (xai _)];rfl,?_⟩;have g9:∀s,s≠l.length->(l++[(⟨(d.v:Int),d.lo,d.hi,true,0⟩:qe)])[s]? =l[s]? :=λs hs=>by
  rw[xd9];split
  ·rfl
  rw[xaB zP,xaB zO]
 have mQ:(l++[(⟨(d.v:Int),d.lo,d.hi,true,0⟩:qe)])[l.length]? =some ⟨(d.v:Int),d.lo,d.hi,true,0⟩:=by simp
 exact {
  cap:=by simp;exact⟨η,h.cap.2⟩
  two:=by simp;omega
  const:=λs hs=>by rw[g9 s zO];exact h.const s hs
  nd:=λs hs=>by
   by_cases e:s=l.length
   ·subst e;rw[aR,mQ];exact(Gr d).symm
   rw[aT e,g9 s e];exact h.nd s hs
  n0:=λs hs=>by rw[aT zO];exact h.n0 s hs
  nn:=λs q hs hq SZ=>by
   by_cases e:s=l.length
   ·subst e;rw[mQ]at hq;cases hq;exact xdi _
   rw[g9 s e]at hq;exact h.nn s q hs hq SZ
  VO:=h.VO
  CQ:=λs=>by
   by_cases e:s=l.length
   ·subst e;rw[mQ];simp
   rw[g9 s e];exact h.CQ s
  used:=by have:=h.used;simp at*;omega}
def Cp.A5(h:Cp l fr cap used N){r:Nat}{p:qe}(h2:2<=r)(hp:l[r]? =some p)(ht:p.tk=true)(d:Nd):
  Cp (l.set r ⟨(d.v:Int),d.lo,d.hi,true,p.c⟩) fr cap used (up N r (some d)):=by
 have η:=(xah.1 hp).1;have g9:∀s,s≠r->(l.set r ⟨(d.v:Int),d.lo,d.hi,true,p.c⟩)[s]? =l[s]? :=λs hs=>xbw (xa9 hs);have mQ:(l.set r ⟨(d.v:Int),d.lo,d.hi,true,p.c⟩)[r]? =some ⟨(d.v:Int),d.lo,d.hi,true,p.c⟩:=xbo η;exact {
  cap:=by simpa using h.cap
  two:=by simpa using h.two
  const:=λs hs=>by rw[g9 s zO];exact h.const s hs
  nd:=λs hs=>by
   by_cases e:s=r
   ·subst e;rw[aR,mQ];exact(Gr d).symm
   rw[aT e,g9 s e];exact h.nd s hs
  n0:=λs hs=>by rw[aT zO];exact h.n0 s hs
  nn:=λs q hs hq SZ=>by
   by_cases e:s=r
   ·subst e;rw[mQ]at hq;cases hq;exact xdi _
   rw[g9 s e]at hq;exact h.nn s q hs hq SZ
  VO:=h.VO
  CQ:=λs=>by
   by_cases e:s=r
   ·subst e;rw[h.CQ,mQ,hp];simp[ht]
   rw[g9 s e];exact h.CQ s
  used:=by simpa using h.used}
def Cp.free(h:Cp l fr cap used N){r:Nat}{p:qe}(h2:2<=r)(hp:l[r]? =some p)(ht:p.tk=true):
  Cp (l.set r ⟨0,0,0,false,0⟩) (fr++[r]) cap (used-1) (up N r none)/\0<used:=by
 have η:=(xah.1 hp).1;have g9:∀s,s≠r->(l.set r ⟨0,0,0,false,0⟩)[s]? =l[s]? :=λs hs=>xbw (xa9 hs);have mQ:(l.set r ⟨0,0,0,false,0⟩)[r]? =some ⟨0,0,0,false,0⟩:=xbo η;have hnf:r∉fr:=λhm=>by obtain⟨q,hq,SZ⟩:=(h.CQ r).1 hm;rw[hp]at hq;cases hq;rw[ht]at SZ;cases SZ
 have hu:fr.length<l.length:=by
  have hn:(r::fr).Nodup:=xaX.2 ⟨hnf,h.VO⟩;have:=cz (l:=r::fr) (l':=List.range l.length) hn λs hs=>by
   rw[xaN];rcases xak.1 hs with rfl|hs
   ·exact η
   obtain⟨q,hq,_⟩:=(h.CQ s).1 hs;exact(xah.1 hq).1
  rw[xaF]at this;exact this
 have Xm:=h.used;refine⟨?_,by omega⟩;exact {
  cap:=by simpa using h.cap
  two:=by simpa using h.two
  const:=λs hs=>by rw[g9 s zO];exact h.const s hs
  nd:=λs hs=>by
   by_cases e:s=r
   ·subst e;rw[aR,mQ];rfl
   rw[aT e,g9 s e];exact h.nd s hs
  n0:=λs hs=>by rw[aT zO];exact h.n0 s hs
  nn:=λs q hs hq SZ=>by
   by_cases e:s=r
   ·subst e;rw[mQ]at hq;cases hq;cases SZ
   rw[g9 s e]at hq;exact h.nn s q hs hq SZ
  VO:=by rw[xa3];exact⟨h.VO,by simp,λa ha c hc=>by simp at hc;subst hc;intro e;subst e;exact hnf ha⟩
  CQ:=λs=>by
   rw[xao,xaE];by_cases e:s=r
   ·subst e;rw[mQ];simp
   rw[g9 s e,<-h.CQ];simp[e]
  used:=by simp;omega}
end
def ot(l:List qe)(r:Nat)(p:qe):(l.map qe.row).set r p.row=(l.set r p).map qe.row:=by rw[xcC]
variable{C:Hp}{d:Nd}
theorem UZ{pa cap used:Nat}{N:eM}(h:jk pa cap used N C)(hd:NOk N d)(hroom:used<cap):
  Fc zQ 215 #[γ pa,.agg (bB d).toArray] C (λv C'=>∃r,v=.tuple #[δ r,iv 0]/\2<=r/\r<cap/\N r=none/\jk pa cap (used+1) (up N r (some d)) C'):=by
 have h0:=h;obtain⟨vl,vf,l,fr,Cl,Cf,rfl,hl,hf,ho⟩:=h;have hcap:=ho.cap;have LJ:=ho.used;refine aJ λg=>I2 λb1 _=>?_;refine ah.aK (Br.no (aB.q ?_));refine ae.eq (AH h0 hd) (ah.cM (Br.F (Nil.γ ?_)));refine aj.mk (Ld.mk zM rfl ?_);refine hf.bL ?_;rw[xar];refine ah.nV (b:=0) (Br.dec (λhp=>?_) (λhp=>?_))
 ·obtain⟨σ,r,rfl⟩:∃σ r,fr=σ++[r]:=⟨fr.dropLast,fr.getLast (by intro e;simp[e]at hp),(xeo _).symm⟩;simp only[xaf,xax,xbF]at hp LJ⊢;obtain⟨g1,g2,g3,hok⟩:=ho.reuse (r:=r) zI (σ:=σ) (by exact xdC _ _) d;apply Nil.γ;refine aj.mk (Ld.mk zM rfl ?_);refine ah.cj (a:=σ.length+1) (b:=1) ?_;rw[xcc];refine hf.ld (i:=σ.length) (x:=(r:Int)) zI (λ_ h=>by exact .tail _ (.tail _ (xaa _ h))) (Nil.γ ?_);refine aj.mk (Ld.mk zM rfl ?_);refine ah.cj (a:=σ.length+1) (b:=1) ?_;rw[xcc];refine hf.cut (i:=σ.length) zI λv' Oj=>?_;have hf2:aL 78 .u32 v' (σ.map (Nat.cast:Nat->Int)) Cf:=by
   rw[xaz,xeK zI]at Oj;exact Oj
  have hone:v'.oneCell'=true:=by obtain⟨a,c,e⟩:=aU.len hf2;rw[e];rfl
  refine Nil.γ (aj.mk (St.one (by exact .tail (.head _)) hone zI rfl ?_));refine DR.self (Nil.γ (Ld.f ?_));refine aB.q ?_;refine Build.mk (cs:=(qe.mk (d.v:Int) d.lo d.hi true 0).row) zK (hl.Ge (A:=[_,_]) (B:=Cf) (i:=r) (by rw[xar];have:=(ho.CQ r).1 zI;obtain⟨p,hp,_⟩:=this;exact(xah.1 hp).1) rfl (row_one _) λC' hl'=>?_);rw[ot]at hl';simp only[xaS,xbR];refine Nil.γ (Ld.f ?_);refine ah.inc (Nil.γ (aj.mk (St.one (by exact .tail (.head _)) rfl zI rfl ?_)));exact aQ.mk .tail ⟨r,rfl,g1,g2,g3,vl,v',_,σ,C',Cf,rfl,hl',hf2,hok⟩
 obtain rfl:fr=[]:=xbO zO;simp only[xbF]at LJ;obtain⟨g1,g3,hok⟩:=ho.grow zO d;apply Nil.γ;refine aj.mk (Ld.mk zM rfl ?_);refine hl.bL ?_;rw[xar];apply Nil.γ;refine aj.mk (Ld.mk zM rfl ?_);refine ah.uo (Br.F (DR.of (R:=(b1,.cells (List.toArray (bB d)) 144 zZ)::(pa,.cells #[iv (cap:Int),vl,vf,iv (used:Int)] 142 zZ)::[]) (.cons (.cons .nil)) (Nil.γ ?_)));refine aj.mk (Ld.mk zM rfl ?_);refine aB.q ?_;refine Build.mk (cs:=(qe.mk (d.v:Int) d.lo d.hi true 0).row) zK (aq.one (z:=.agg #[iv 0,.int .u32 0,.int .u32 0,.bool false,.int .u8 0]) (e:=146) (k:=5) zK zK zK zD rfl λbx=>?_);refine⟨.skip (.cons (.cons .nil)),?_⟩;refine hl.HK (A:=[_,_,_]) (B:=Cf) (r:=(qe.mk (d.v:Int) d.lo d.hi true 0).row) (by exact .head _) rfl (row_one _) (by exact⟨[iv 0,.int .u32 0,.int .u32 0,.bool false,.int .u8 0],rfl,rfl⟩) zP zP λv' C' hl'=>?_;have q8:aU 146 5 v' ((l++[(⟨(d.v:Int),d.lo,d.hi,true,0⟩:qe)]).map qe.row) C':=by rw[xaz];exact hl'
 simp only[xaS,xbR];refine⟨.skip (.cons (.cons .nil)),?_⟩;have hone:v'.oneCell'=true:=by obtain⟨a,c,e⟩:=q8.len;rw[e];rfl
 refine Nil.γ (aj.mk (St.one (by exact .tail (.tail (.head _))) hone zI rfl ?_));refine Nil.γ (Ld.f ?_);refine ah.inc (Nil.γ (aj.mk (St.one (by exact .tail (.tail (.head _))) rfl zI rfl ?_)));refine Nil.γ (Ld.f ?_);refine q8.bL (ah.yp (b:=1) (by simp[bI];omega) zI (bu.q (aQ.mk (.skip .tail) ⟨l.length,by simp[δ],g1,by omega,g3,v',vf,_,[],C',Cf,rfl,q8,hf,hok⟩)))
theorem Ym{pa cap used r:Nat}{N:eM}{C:Hp}{d:Nd}(h:jk pa cap used N C)(hd:NOk N d)(hr:∃e,N r=some e)(h2:2<=r):
  Fc zQ 204 #[γ pa,δ r,.agg (bB d).toArray] C (λv C'=>v=iv 0/\jk pa cap used (up N r (some d)) C'):=by
 have h0:=h;obtain⟨vl,vf,l,fr,Cl,Cf,rfl,hl,hf,ho⟩:=h;have hx:=cg.2 (.inr hr:live N r);rw[ho.DZ]at hx;obtain⟨p,hg,hx⟩:∃p,l[r]? =some p/\p.tk=true:=by
  cases hg:l[r]? with
  |none=>rw[hg]at hx;simp at hx
  |some p=>rw[hg]at hx;exact⟨p,rfl,hx⟩
 refine aJ λg=>I9 λb1 _=>?_;refine ah.aK (Br.no (aB.q ?_));refine ae.eq (AH h0 hd) (ah.cM (Br.F (ae.eq (R9 h0 hr h2) (ah.cM (Br.F (DR.self (Nil.γ ?_)))))));refine aj.mk (Ld.mk zM rfl ?_);refine aB.q ?_;refine hl.WB (A:=[_,_]) (B:=Cf) (r:=p.row) (xs:=bB d) (n:=3) (by rw[xaq,hg];rfl) ⟨rfl,by omega⟩ (by intro x hx;simp[bB,δ]at hx;rcases hx with rfl|rfl|rfl<;>rfl) λC' hl'=>?_;have e:(bB d++p.row.drop 3)=(qe.mk (d.v:Int) d.lo d.hi true p.c).row:=by simp[bB,qe.row,hx]
 rw[e,ot]at hl';exact aQ.mk .tail ⟨rfl,vl,vf,_,fr,C',Cf,rfl,hl',hf,ho.A5 h2 hg hx d⟩
def U8{pa cap used r:Nat}{N:eM}{C:Hp}(h:jk pa cap used N C)(hr:∃e,N r=some e)(h2:2<=r):
  Fc zQ 192 #[γ pa,δ r] C (λv C'=>v=iv 0/\jk pa cap (used-1) (up N r none) C'):=by
 have h0:=h;obtain⟨vl,vf,l,fr,Cl,Cf,rfl,hl,hf,ho⟩:=h;have hx:=cg.2 (.inr hr:live N r);rw[ho.DZ]at hx;obtain⟨p,hg,hx⟩:∃p,l[r]? =some p/\p.tk=true:=by
  cases hg:l[r]? with
  |none=>rw[hg]at hx;simp at hx
  |some p=>rw[hg]at hx;exact⟨p,rfl,hx⟩
 obtain⟨hok,hu0⟩:=ho.free h2 hg hx;have hcap:=ho.cap;have LJ:=ho.used;refine aJ λg=>Ji (ah.aK (Br.no (ae.eq (R9 h0 hr h2) (ah.cM (Br.F (Nil.γ ?_))))));refine aj.mk (Ld.mk zM rfl ?_);refine Build.mk (cs:=(qe.mk 0 0 0 false 0).row) zK (hl.Ge (A:=[_]) (B:=Cf) (i:=r) (by rw[xar];exact(xah.1 hg).1) rfl (row_one _) λC' hl'=>?_);rw[ot]at hl';simp only[xaS,xbR];refine Nil.γ (Ld.f ?_);refine aq.int (e:=78) zK zK zK λbx=>?_;have e1:(bx,Obj.cells (az .u32 [(r:Int)]) 78 zZ)::(pa,Obj.cells #[iv (cap:Int),vl,vf,iv (used:Int)] 142 zZ)::(C'++Cf)=(bx,Obj.cells (az .u32 [(r:Int)]) 78 zZ)::(pa,Obj.cells #[iv (cap:Int),vl,vf,iv (used:Int)] 142 zZ)::C'++(Cf++[]):=by simp
 rw[e1];refine hf.app (x:=(r:Int)) (B:=[]) (by exact .head _) zP zP λv' Cf' Oj=>?_;have hf2:aL 78 .u32 v' ((fr++[r]).map (Nat.cast:Nat->Int)) Cf':=by rw[xaz];exact Oj
 have hone:v'.oneCell'=true:=by obtain⟨a,c,e⟩:=aU.len hf2;rw[e];rfl
 simp only[xaS,xaI];refine Nil.γ (aj.mk (St.one (by exact .tail (.head _)) hone zI rfl ?_));refine Nil.γ (Ld.f ?_);refine ah.cj (b:=1) (Nil.γ (aj.mk (St.one (by exact .tail (.head _)) rfl zI rfl ?_)));exact aQ.mk .tail ⟨rfl,vl,v',_,_,C',Cf',rfl,hl',hf2,hok⟩
def nK(d:Nd):zV:=.agg (bB d).toArray
abbrev Qs(v:zV)(r:Nat):Prop:=v=δ r
def Lw:Tryz.prog.underlying 144=some (.struct (Tryz.prog.fieldsOf 144)):=by kernel_rfl
def rS(a b:Nd):Cn zQ 144 (nK a) (nK b) (decide (a=b)):=by
 refine Cn.flat (fs:=#[⟨"Var",3,0,false, "", "",0⟩,⟨"Lo",78,1,false, "", "",8⟩,⟨"Hi",78,2,false, "", "",12⟩]) zK zK ?_ ?_
 ·intro f hf;simp only[xak,xaQ,xbi]at hf;rcases hf with rfl|rfl|rfl
  ·exact⟨by decide,_,_,rfl,rfl,.inl ⟨.i64,_,_,by kernel_rfl,rfl,rfl⟩⟩
  ·exact⟨by decide,_,_,rfl,rfl,.inl ⟨.u32,_,_,by kernel_rfl,rfl,rfl⟩⟩
  exact⟨by decide,_,_,rfl,rfl,.inl ⟨.u32,_,_,by kernel_rfl,rfl,rfl⟩⟩
 obtain⟨a1,a2,a3⟩:=a;obtain⟨b1,b2,b3⟩:=b;simp[bB,δ];omega
def m9(a:Nd):mO zQ 144 (nK a):=by
 apply mO.flat (fs:=#[⟨"Var",3,0,false, "", "",0⟩,⟨"Lo",78,1,false, "", "",8⟩,⟨"Hi",78,2,false, "", "",12⟩]) zK;intro f hf;simp only[xak,xaQ,xbi]at hf;rcases hf with rfl|rfl|rfl
 ·exact⟨by decide,_,rfl,.inl ⟨.i64,_,_,by kernel_rfl,rfl,rfl⟩⟩
 ·exact⟨by decide,_,rfl,.inl ⟨.u32,_,_,by kernel_rfl,rfl,rfl⟩⟩
 exact⟨by decide,_,rfl,.inl ⟨.u32,_,_,by kernel_rfl,rfl,rfl⟩⟩
def Ly(a:Nd):Instr.sameBits 10000 (nK a) (nK a)=true:=lj 9998 (by intro x hx;simp[bB,δ]at hx;rcases hx with rfl|rfl|rfl<;>exact .inl ⟨_,_,rfl⟩)
structure UM where
 b:Nat
 es:Array MapEntry
 ck:Nat
 l:List (Nd×Nat)
def NS(ms:List UM):Hp:=ms.map λm=>(m.b,.map m.es m.ck)
structure VR(ms:List UM)(n:Nat)(T:Nd->Option Nat):Prop where
 len:ms.length=n
 dO:∀(v:Nat) m,ms[v]? =some m->aI nK Qs m.es m.ck m.l
 var:∀(v:Nat) m,ms[v]? =some m->∀x∈m.l,x.1.v=v
 T:∀d,T d=(ms[d.v]?).bind λm=>aN m.l d
def pc(pt n:Nat)(T:Nd->Option Nat)(C:Hp):Prop:=
 ∃vs Cs ms,C=(pt,.cells #[vs] 104 zZ)::(Cs++NS ms)/\aU 105 1 vs (ms.map λm=>[.map (some m.b)]) Cs/\VR ms n T
variable{ms:List UM}{m:UM}
def rX{v:Nat}(h:ms[v]? =some m):(m.b,Obj.map m.es m.ck)∈NS ms:=xal.2 ⟨m,xav h,rfl⟩
def Bu{τ:Array MapEntry}{bF:Nat}{l':List (Nd×Nat)}:∀{ms:List UM} {v:Nat} {m:UM},ms[v]? =some m->df m.b (.map m.es m.ck) (.map τ bF) (NS ms) (NS (ms.set v ⟨m.b,τ,bF,l'⟩))
 | [],v,m,h=>by simp at h
 |x::ms,0,m,h=>by simp at h;subst h;exact .head _
 |x::ms,v+1,m,h=>by simp at h;exact .tail (Bu h)
def zq{v:Nat}{m':UM}(h:ms[v]? =some m)(hb:m'.b=m.b):(ms.set v m').map (λm=>[Value.map (some m.b)])=ms.map λm=>[Value.map (some m.b)]:=by
 rw[xcC];apply xba;intro j;rw[xbp];split
 ·rename_i e;subst e;have η:=(xah.1 h).1;have e2:ms[v]=m:=by rw[xab η]at h;exact xbb h
  simp[hb,η,e2]
 rfl
variable{r:Nat}
def VR.add{n:Nat}{T:Nd->Option Nat}(h:VR ms n T)(hm:ms[d.v]? =some m){τ:Array MapEntry}{bF:Nat}(he:aI nK Qs τ bF (eu m.l d r)):VR (ms.set d.v ⟨m.b,τ,bF,eu m.l d r⟩) n (rA T d (some r)) where
 len:=by rw[xbE];exact h.len
 dO:=λv m' Ω=>by
  rw[xbp]at Ω;split at Ω
  ·split at Ω
   ·cases Ω;exact he
   cases Ω
  exact h.dO v m' Ω
 var:=λv m' Ω x hx=>by
  rw[xbp]at Ω;split at Ω
  ·rename_i e;split at Ω
   ·cases Ω;subst e;simp only[eu]at hx;split at hx
    ·obtain⟨y,hy,rfl⟩:=xal.1 hx;split
     ·rfl
     exact h.var _ m hm y hy
    rcases xao.1 hx with hx|hx
    ·exact h.var _ m hm x hx
    simp at hx;subst hx;rfl
   cases Ω
  exact h.var v m' Ω x hx
 T:=λe=>by
  have η:=(xah.1 hm).1;by_cases ee:e=d
  ·subst ee;rw[kf,xbo η];simp[bP]
  rw[qz ee,h.T e];by_cases ev:d.v=e.v
  ·rw[<-ev,xbo η,hm];simp[bP,ee]
  rw[xbw ev]
def VR.del{n:Nat}{T:Nd->Option Nat}(h:VR ms n T)(hm:ms[d.v]? =some m){τ:Array MapEntry}{bF:Nat}(he:aI nK Qs τ bF (iJ m.l d)):VR (ms.set d.v ⟨m.b,τ,bF,iJ m.l d⟩) n (rA T d none) where
 len:=by rw[xbE];exact h.len
 dO:=λv m' Ω=>by
  rw[xbp]at Ω;split at Ω
  ·split at Ω
   ·cases Ω;exact he
   cases Ω
  exact h.dO v m' Ω
 var:=λv m' Ω x hx=>by
  rw[xbp]at Ω;split at Ω
  ·rename_i e;split at Ω
   ·cases Ω;subst e;exact h.var _ m hm x (xb0.1 hx|>.1)
   cases Ω
  exact h.var v m' Ω x hx
 T:=λe=>by
  have η:=(xah.1 hm).1;by_cases ee:e=d
  ·subst ee;rw[kf,xbo η];simp[zn]
  rw[qz ee,h.T e];by_cases ev:d.v=e.v
  ·rw[<-ev,xbo η,hm];simp[zn,ee]
  rw[xbw ev]
def l7{pt n v:Nat}{T:Nd->Option Nat}(h:pc pt n T C)(hv:v<n):Rd zQ 250 #[γ pt,iv (v:Int)] C (· =iv 0):=by obtain⟨vs,Cs,ms,rfl,hs,ho⟩:=h;refine aJ λg=>Iz (ah.aK (Br.no (ah.lss ?_)));rw[xan (by omega:¬((v:Int)<0))];refine dh.or false (λ_=>?_) rfl λ_=>Br.no (br.mk (.refl _) rfl);apply Nil.γ;refine aj.mk (Ld.mk zM rfl ?_);apply hs.bL;rw[xar,ho.len];exact ah.uo ⟨rfl,by rw[xan zO]⟩
theorem vk{pt n:Nat}{T:Nd->Option Nat}(h:pc pt n T C)(hv:d.v<n):
  Rd zQ 213 #[γ pt,nK d] C (· =.tuple #[δ ((T d).getD 0),.bool (T d).isSome]):=by
 have h0:=h;obtain⟨vs,Cs,ms,rfl,hs,ho⟩:=h;obtain⟨m,hm⟩:∃m,ms[d.v]? =some m:=⟨_,xab (by rw[ho.len];exact hv)⟩;refine aJ λg=>I4 λb1 _=>?_;refine Ld.f ?_;refine ae.eq (l7 h0 hv) (ah.cM (Br.F (Nil.γ ?_)));refine aj.mk (Ld.mk zM rfl ?_);refine Ld.f ?_;refine hs.Vv (x:=.map (some m.b)) (by rw[xaq,hm];rfl) (λ_ h=>by exact .tail _ (.tail _ (xad _ h))) ?_;refine aB.q ?_;have hmem:(m.b,Obj.map m.es m.ck)∈(b1,Obj.cells (Value.cells (nK d)) 144 zZ)::(pt,.cells #[vs] 104 zZ)::(Cs++NS ms):=.tail _ (.tail _ (xaa _ (rX hm)));have hT:T d=aN m.l d:=by rw[ho.T,hm];rfl
 rw[hT];cases hg:aN m.l d with
 |some r=>
  refine aI.GU (ke:=nK) (k:=d) rS m9 (ho.dO _ m hm) hmem hg ?_;rintro v rfl;exact Ext.mk rfl (Ext.mk rfl (br.mk .tail rfl))
 |none=>
  refine aI.wA (ke:=nK) (k:=d) rS m9 (ho.dO _ m hm) hmem hg ?_;exact Ext.mk rfl (Ext.mk rfl (br.mk .tail rfl))
theorem KU{pt n r:Nat}{T:Nd->Option Nat}(h:pc pt n T C)(hv:d.v<n)(hT:T d=none):
  Fc zQ 205 #[γ pt,nK d,δ r] C (λv C'=>v=iv 0/\pc pt n (rA T d (some r)) C'):=by
 have h0:=h;obtain⟨vs,Cs,ms,rfl,hs,ho⟩:=h;obtain⟨m,hm⟩:∃m,ms[d.v]? =some m:=⟨_,xab (by rw[ho.len];exact hv)⟩;have hTm:aN m.l d=none:=by rw[ho.T,hm]at hT;exact hT
 refine aJ λg=>I8 λb1 _=>?_;refine Ld.f ?_;refine ae.eq (l7 h0 hv) (ah.cM (Br.F (Nil.γ ?_)));refine aj.mk (Ld.mk zM rfl ?_);refine Ld.f ?_;refine hs.Vv (x:=.map (some m.b)) (by rw[xaq,hm];rfl) (λ_ h=>by exact .tail _ (.tail _ (xad _ h))) ?_;refine aB.q ?_;have hmem:(m.b,Obj.map m.es m.ck)∈(b1,Obj.cells (Value.cells (nK d)) 144 zZ)::(pt,.cells #[vs] 104 zZ)::(Cs++NS ms):=.tail _ (.tail _ (xaa _ (rX hm)));refine aI.wA (ke:=nK) (k:=d) rS m9 (ho.dO _ m hm) hmem hTm ?_;refine Ext.mk rfl (Ext.mk rfl (Br.no (DR.self (Nil.γ ?_))));refine aj.mk (Ld.mk zM rfl ?_);refine Ld.f ?_;refine hs.Vv (x:=.map (some m.b)) (by rw[xaq,hm];rfl) (λ_ h=>by exact .tail _ (.tail _ (xad _ h))) ?_;refine aB.q ?_;refine aI.M1 (ke:=nK) (k:=d) (vr:=Qs) (x:=r) rS m9 Ly (ho.dO _ m hm) rfl λτ bF he=>⟨_,.tail (.tail ((Bu (l':=eu m.l d r) hm).cf Cs)),?_⟩;exact aQ.mk .tail ⟨rfl,vs,Cs,_,rfl,by rw[zq hm];exact hs;rfl,ho.add hm he⟩
theorem zh{pt n r:Nat}{T:Nd->Option Nat}(h:pc pt n T C)(hv:d.v<n)(hT:T d=some r):
  Fc zQ 191 #[γ pt,nK d] C (λv C'=>v=iv 0/\pc pt n (rA T d none) C'):=by
 have h0:=h;obtain⟨vs,Cs,ms,rfl,hs,ho⟩:=h;obtain⟨m,hm⟩:∃m,ms[d.v]? =some m:=⟨_,xab (by rw[ho.len];exact hv)⟩;have hTm:aN m.l d=some r:=by rw[ho.T,hm]at hT;exact hT
 refine aJ λg=>Jj λb1 _=>?_;refine Ld.f ?_;refine ae.eq (l7 h0 hv) (ah.cM (Br.F (Nil.γ ?_)));refine aj.mk (Ld.mk zM rfl ?_);refine Ld.f ?_;refine hs.Vv (x:=.map (some m.b)) (by rw[xaq,hm];rfl) (λ_ h=>by exact .tail _ (.tail _ (xad _ h))) ?_;refine aB.q ?_;have hmem:(m.b,Obj.map m.es m.ck)∈(b1,Obj.cells (Value.cells (nK d)) 144 zZ)::(pt,.cells #[vs] 104 zZ)::(Cs++NS ms):=.tail _ (.tail _ (xaa _ (rX hm)));refine aI.GU (ke:=nK) (k:=d) rS m9 (ho.dO _ m hm) hmem hTm ?_;rintro v rfl;refine Ext.mk rfl (Ext.mk rfl (Un.not (Br.no (DR.of (R:=(b1,Obj.cells (Value.cells (nK d)) 144 zZ)::(pt,.cells #[vs] 104 zZ)::Cs) (.cons (.cons .left)) (Nil.γ ?_)))));refine aj.mk (Ld.mk zM rfl ?_);refine Ld.f ?_;refine hs.Vv (x:=.map (some m.b)) (by rw[xaq,hm];rfl) (λ_ h=>by exact .tail _ (.tail _ h)) ?_;refine aB.q ?_;refine aI.ajc (ke:=nK) (k:=d) rS m9 (ho.dO _ m hm) hmem λτ he=>⟨_,.tail (.tail ((Bu (l':=iJ m.l d) hm).cf Cs)),?_⟩;exact⟨.cons (.cons .left),aQ.mk .tail ⟨rfl,vs,Cs,_,rfl,by rw[zq hm];exact hs;rfl,ho.del hm he⟩⟩
def VR.start(n:Nat)(bs:zL)(h:bs.length=n):VR (bs.map λb=>⟨b,#[],0,[]⟩) n (λ_=>none) where
 len:=by simpa using h
 dO:=λv m hm=>by
  rw[xaq]at hm;obtain⟨b,_,rfl⟩:=xdp.1 hm;exact aI.empty
 var:=λv m hm x hx=>by
  rw[xaq]at hm;obtain⟨b,_,rfl⟩:=xdp.1 hm;simp at hx
 T:=λd=>by
  rw[xaq];cases bs[d.v]? <;>simp[aN]
def Ex(x:zV):∀n:Nat,(List.replicate n [x]).flatten=List.replicate n x
 |0=>rfl
 |n+1=>by rw[xdc,xc2,xdc,Ex x n];rfl
theorem V6{n:Nat}(hn:1<=n/\n<=64):Fc zQ 29 #[iv (n:Int)] [] (λv H=>∃pt,v=.tuple #[γ pt,iv 0]/\pc pt n (λ_=>none) H):=by
 refine aJ λg=>Qb (ah.lss ?_);rw[xan zO];refine dh.or false (λ_=>ah.gtr ⟨rfl,by rw[xan zO]⟩) rfl λ_=>Br.no ?_;refine⟨.i64,.i64,n,n,rfl,rfl,xai _,by omega,by omega,?_⟩;intro bs _;refine Build.mk (cs:=[.slice (some ⟨bs,0,none⟩) n n]) zK λpt _=>?_;have hz:madeCells (Value.cells (.map none)) (n*1)=ψ ((List.replicate n [Value.map none])++[]):=by
  apply xc4;apply xba;intro i;have:=Ex (.map none) n;simp only[madeCells,ψ,Value.cells,xd3,Array.toList_range,xaq,xdd,xb8,xaI];rw[this,xdY];by_cases hi:i<n
  ·simp[hi,Nat.mod_one]
  simp[hi]
 rw[hz];have hs0:aU 105 1 (.slice (some ⟨bs,0,none⟩) n n) (List.replicate n [Value.map none]) [(bs,.cells (ψ ((List.replicate n [Value.map none])++[])) 105 zZ)]:=
  aU.mk' (λr hr=>by rw[xaI]at hr;rw[xbS hr];rfl) zI zI
 refine⟨λvs H=>∃(j:Nat) (bl:zL) (Cs:Hp),vs=[iv (j:Int)]/\bl.length=j/\j<=n/\H=(pt,.cells #[.slice (some ⟨bs,0,none⟩) n n] 104 zZ)::(Cs++NS (bl.map λb=>⟨b,#[],0,[]⟩))/\
  aU 105 1 (.slice (some ⟨bs,0,none⟩) n n) ((bl.map λb=>[Value.map (some b)])++List.replicate (n-j) [Value.map none]) Cs,λvs _=>n-bH vs 0,JE.mk ⟨0,[],_,rfl,rfl,by omega,by simp only[NS,xcd,xaI];rfl,by simpa using hs0⟩,?_⟩
 rintro w H ⟨j,bl,Cs,hw,VH,hj,rfl,hs⟩ gs;simp only[xaw,xaW]at hw;subst hw;refine ah.eA (Br.dec (λη=>?_) (λη=>?_))
 ·refine Nil.γ (Ld.f ?_);intro b _;have Ξ:((bl.map λb=>[Value.map (some b)])++List.replicate (n-j) [Value.map none]).length=n:=by simp;omega
  refine aU.agR (A:=[_,_]) (B:=NS (bl.map λb=>⟨b,#[],0,[]⟩)) hs (i:=j) (y:=.map none) zO ?_ rfl λC' μ=>?_
  ·rw[xbW (by simp[VH])];simp only[xar,VH,xcX];rw[xdY,xae zO]
  refine ah.inc ?_;have e:((bl.map λb=>[Value.map (some b)])++List.replicate (n-j) [Value.map none]).set j [Value.map (some b)]=((bl++[b]).map λb=>[Value.map (some b)])++List.replicate (n-(j+1)) [Value.map none]:=by
   rw[xcl _ _ (by simp[VH])];simp only[xar,VH,xcX];rw[show n-j=(n-(j+1))+1 by omega,xdc,xcH,xaz];simp
  rw[e]at μ;refine aD.of ?_ ⟨j+1,bl++[b],C',rfl,by simp[VH],by omega,rfl,μ⟩ (by show n-(((j+1:Nat):Int).toNat)<n-(((j:Nat):Int).toNat);omega);refine aO.perm ?_;simp only[xaS,xbR,NS,xaz,xbY];refine(List.Perm.swap _ _ _).trans (.cons _ ?_);rw[<-xag];exact(xdC _ _).symm
 obtain rfl:j=n:=by omega
 refine aQ.here ⟨pt,rfl,_,Cs,_,rfl,?_,VR.start _ bl VH⟩;rw[xcX]at hs;simpa[xbY,Function.comp_def]using hs
theorem Yo{n:Nat}(hn:2<=n/\n<=1048576):Fc zQ 62 #[iv (n:Int)] [] (λv H=>∃pa,v=.tuple #[γ pa,iv 0]/\jk pa n 2 (λ_=>none) H):=by
 refine aJ λg=>PF (ah.lss ?_);rw[xan zO];refine dh.or false (λ_=>ah.gtr ⟨rfl,by rw[xan zO]⟩) rfl λ_=>Br.no ?_;refine Build.mk (cs:=[iv (n:Int),.slice none 0 0,.slice none 0 0,iv 2]) zK λpa _=>?_;refine⟨λvs H=>∃(j:Nat) (vl:zV) (Cl:Hp),vs=[δ j]/\j<=2/\H=(pa,.cells #[iv (n:Int),vl,.slice none 0 0,iv 2] 142 zZ)::Cl/\
  aU 146 5 vl ((List.range j).map λr=>(qe.mk (-1) r r true 255).row) Cl,λvs _=>2-bH vs 0,JE.mk ⟨0,_,[],rfl,by omega,rfl,aU.nil _ _⟩,?_⟩
 rintro w H ⟨j,vl,Cl,hw,hj,rfl,hs⟩ gs;simp only[xaw,xaW]at hw;subst hw;refine ah.eA (b:=2) (Br.dec (λη=>?_) (λη=>?_))
 ·refine Nil.γ (Ld.f ?_);refine Build.mk (cs:=[iv (-1),δ j,δ j]) zK (Build.mk (cs:=(qe.mk (-1) j j true 255).row) zK (aq.one (z:=.agg #[iv 0,.int .u32 0,.int .u32 0,.bool false,.int .u8 0]) (e:=146) (k:=5) zK zK zK zD rfl λbx=>?_));have e1:∀x y:Nat×Obj,x::y::Cl=[x,y]++(Cl++[]):=λx y=>by simp
  rw[e1];refine hs.HK (A:=[_,_]) (B:=[]) (r:=(qe.mk (-1) j j true 255).row) (by exact .head _) rfl (row_one _) (by exact⟨[iv 0,.int .u32 0,.int .u32 0,.bool false,.int .u8 0],rfl,rfl⟩) zP zP λv' C' μ=>?_;simp only[xaS,xbR,xaI];have hone:v'.oneCell'=true:=by obtain⟨a,c,e⟩:=μ.len;rw[e];rfl
  refine Nil.γ (aj.mk (St.one (by exact .tail (.head _)) hone zI rfl ?_));refine ah.inc (aD.of .tail ⟨j+1,v',C',rfl,by omega,rfl,?_⟩ (by show 2-(((j+1:Nat):Int).toNat)<2-(((j:Nat):Int).toNat);omega));rw[xbZ,xaz];exact μ
 obtain rfl:j=2:=by omega
 refine aQ.here ⟨pa,rfl,vl,_,[⟨-1,0,0,true,255⟩,⟨-1,1,1,true,255⟩],[],Cl,[],by rw[xaI];rfl,hs,aL.nil,?_⟩;exact {
  cap:=by simp;omega
  two:=by simp
  const:=λr hr=>by
   have:r=0\/r=1:=by omega
   rcases this with rfl|rfl
   ·exact⟨_,rfl,rfl,rfl,rfl,rfl⟩
   exact⟨_,rfl,rfl,rfl,rfl,rfl⟩
  nd:=λr hr=>by rw[xaB zP];rfl
  n0:=λ_ _=>rfl
  nn:=λr p hr hp _=>by rw[xaB zP]at hp;cases hp
  VO:=by simp
  CQ:=λr=>by
   simp only[xaQ,false_iff,not_exists,not_and];intro p hp;have η:=(xah.1 hp).1;simp at η;have:r=0\/r=1:=by omega
   rcases this with rfl|rfl<;>(simp at hp;subst hp;simp)
  used:=rfl}
structure uW where
 pa:Nat
 pt:Nat
 vu:zV
 vh:zV
 vo:zV
 vl:zV
 vt:zV
 CA:Hp
 CT:Hp
 CU:Hp
 CH:Hp
 CO:Hp
 CL:Hp
 CR:Hp
def uW.cells(b:uW)(n:Nat):Array zV:=#[γ b.pa,γ b.pt,b.vu,b.vh,iv (n:Int),b.vo,b.vl,b.vt]
def uW.hp(b:uW)(kp n:Nat):Hp:=(kp,.cells (b.cells n) 91 zZ)::(b.CA++(b.CT++(b.CU++(b.CH++(b.CO++(b.CL++b.CR))))))
structure abP(b:uW)(K:Kd)(θ ai tr:zL):Prop where
 ar:jk b.pa K.cap K.used K.N b.CA
 ut:pc b.pt K.n K.T b.CT
 us:aL 21 .i32 b.vu (iw K.us) b.CU
 ho:aL 21 .i32 b.vh (iw K.ho) b.CH
 od:aL 3 .i64 b.vo (iw θ) b.CO
 lv:aL 3 .i64 b.vl (iw ai) b.CL
 tr:aL 3 .i64 b.vt (iw tr) b.CR
 ul:K.us.length=K.ho.length/\K.us.length<=1048576
 mq:K.n<=64
 ol:θ.length=K.n/\ai.length=K.n
def cX(kp:Nat)(K:Kd)(θ ai tr:zL)(C:Hp):Prop:=∃b:uW,C=b.hp kp K.n/\abP b K θ ai tr
section
variable {kp:Nat} {K:Kd} {θ ai tr:zL} {C:Hp}
def cX.cap(h:cX kp K θ ai tr C):K.cap<=1048576:=by obtain⟨b,rfl,hb⟩:=h;exact(hb.ar.lt (r:=0) (.inl zD)).2
def cX.lt(h:cX kp K θ ai tr C)(hr:live K.N r):r<1048576:=by obtain⟨b,rfl,hb⟩:=h;have:=hb.ar.lt hr;omega
def aS(N:eM)(r:Nat):(got N r).length=3/\∀x∈got N r,x.oneCell'=true:=by
 unfold got;split
 ·exact⟨rfl,by intro x hx;simp[δ]at hx;rcases hx with rfl|rfl|rfl<;>rfl⟩
 split
 ·exact⟨rfl,by intro x hx;simp[bB,δ]at hx;rcases hx with rfl|rfl|rfl<;>rfl⟩
 exact⟨rfl,by intro x hx;simp[δ]at hx;rcases hx with rfl|rfl|rfl<;>rfl⟩
def oB(h:cX kp K θ ai tr C)(hr:r<4294967296):Rd zQ 120 #[γ kp,δ r] C (· =.bool (gL K.N r)):=by obtain⟨b,rfl,hb⟩:=h;refine aJ λg=>Kp (Nil.γ (Ld.f ?_));refine ae.eq (T4 hb.ar hr) (Ext.two λb8 _=>(St.whole (r:=got K.N r) (by exact .head _) rfl (aS _ _).1 (aS _ _).2 ?_));refine ah.iD (br.mk .tail ?_);cases gL K.N r<;>rfl
theorem oz(h:cX kp K θ ai tr C)(hr:r<4294967296):Rd zQ 190 #[γ kp,δ r] C (· =.agg (got K.N r).toArray):=by
 obtain⟨b,rfl,hb⟩:=h;refine aJ λg=>Jk λb1 _=>?_;refine Nil.γ (Ld.f ?_);refine ae.eq (T4 hb.ar hr) (Ext.two λB8 _=>(St.whole (r:=got K.N r) (by exact .head _) rfl (aS _ _).1 (aS _ _).2 ?_));refine aB.whole (r:=got K.N r) (by exact .head _) (aS _ _).1 ?_;refine St.whole (r:=got K.N r) (by exact .tail (.head _)) rfl (aS _ _).1 (aS _ _).2 ?_;refine aB.whole (r:=got K.N r) (by exact .tail _ (.head _)) (aS _ _).1 ?_;exact br.mk (.skip .tail) rfl
def D2(h:cX kp K θ ai tr C){m:Nat}(hm:m<=1099511627776)(hu:K.used<=1048576):Rd zQ 148 #[γ kp,iv (m:Int)] C (· =.bool (decide (K.used+m<=K.cap))):=by obtain⟨b,rfl,hb⟩:=h;refine aJ λg=>JW (DR.self (Nil.γ (Ld.f ?_)));refine Nil.γ (Ld.f ?_);refine ae.eq (EU hb.ar) (⟨.refl _,?_⟩);refine ah.fT (ae.eq (HL hb.ar) (⟨.refl _,?_⟩));exact ah.By (br.mk (.refl _) rfl)
def tR(K:Kd)(r:Nat):zL:=if r<2 then K.us else K.us.set r (K.use r+1)
def jK(r:Nat):(tR K r).length=K.us.length:=by unfold tR;split<;>simp
def n7(h2:2<=r)(hr:r<K.us.length):(tR K r).getD r 0=K.use r+1:=by unfold tR;rw[xac zO];simp[List.getD,hr]
def vG{s:Nat}(h:s≠r):(tR K r).getD s 0=K.use s:=by
 unfold tR Kd.use;split
 ·rfl
 simp[List.getD,xbw (xa9 h)]
def FL(h:cX kp K θ ai tr C)(hr:r<2\/r<K.us.length)(hb:K.use r+1<2147483648):
  Fc zQ 203 #[γ kp,δ r] C (λv C'=>v=.tuple #[]/\cX kp {K with us:=tR K r} θ ai tr C'):=by
 obtain⟨b,rfl,hO⟩:=h;refine aJ λg=>Ja (ah.nV (b:=1) (Br.dec (λh1=>?_) (λh1=>?_)))
 ·have hr':r<K.us.length:=by omega
  refine Nil.γ (Ld.f ?_);refine hO.us.ld (x:=((K.use r:Nat):Int)) (bM hr') (bE.sub (.cons (.app (.app .left)))) (ah.inc (hO.us.mh (.cons (.app (.app .left))) (by simpa using hr') λC' ho=>?_));refine aQ.here ⟨rfl,{b with CU:=C'},rfl,?_⟩;have e:tR K r=K.us.set r (K.use r+1):=by unfold tR;rw[xac zO]
  exact {hO with us:=by rw[fA]at ho;rw[e];exact ho,ul:=by simp only[e,xbE];exact hO.ul}
 refine aQ.here ⟨rfl,b,rfl,?_⟩;have e:tR K r=K.us:=by unfold tR;rw[xae zO]
 rw[e];exact hO
end
section
variable {kp:Nat} {K:Kd} {θ ai tr:zL} {C:Hp}
def ia{l:zL}{s x:Nat}(hr:r<l.length):(l.set r x).getD s 0=if s=r then x else l.getD s 0:=by
 simp only[List.getD,xbp];by_cases e:r=s
 ·subst e;simp[hr]
 rw[xac e,xac (xa9 e)]
def wY(l:zL)(s:Nat):(l++[0]).getD s 0=l.getD s 0:=by
 simp only[List.getD,xd9];split
 ·rfl
 rename_i h;rw[xaB (by omega:l.length<=s)];cases hs:s-l.length<;>simp[hs]
def Q7:Hp->Nat
 |_::(_,Obj.cells c _ _)::_=>(match c[2]? with|some (Value.slice _ n _)=>n|_=>0)
 |_=>0
def De{b:uW}{x:Nat×Obj}{n m:Nat}{a:Option Addr}{cp:Nat}(h:b.vu=.slice a m cp):Q7 (x::b.hp kp n)=m:=by simp[Q7,uW.hp,uW.cells,h]
theorem KX(h:cX kp K θ ai tr C)(hd:NOk K.N d)(hv:d.v<K.n)(hT:K.T d=none)(hroom:K.used<K.cap)(hlo:d.lo<2\/d.lo<K.us.length)(hhi:d.hi<2\/d.hi<K.us.length)
 (hb:∀s,K.use s+2<2147483648):
  Fc zQ 149 #[γ kp,nK d] C (λv C'=>∃r dG cA,v=δ r/\K.N r=none/\2<=r/\r<K.cap/\dG.length=cA.length/\r<dG.length/\K.us.length<=dG.length/\dG.getD r 0=0/\
   (∀s,2<=s->s≠r->dG.getD s 0=K.use s+e1 (some d) s)/\(∀s,s<2->dG.getD s 0=K.use s)/\cA.getD r 0=0/\(∀s,s≠r->cA.getD s 0=K.hold s)/\
   cX kp {K with N:=up K.N r (some d),T:=rA K.T d (some r),used:=K.used+1,us:=dG,ho:=cA} θ ai tr C'):=by
 have hcap:=h.cap;obtain⟨b,rfl,hO⟩:=h;have Oe:=hO.ul;refine aJ λg=>JV λb1 _=>?_;refine DR.of (R:=(b1,.cells (Value.cells (nK d)) 144 zZ)::(kp,.cells (b.cells K.n) 91 zZ)::[]) (.cons (.cons .nil)) (Nil.γ (Ld.f ?_));refine aB.q ?_;refine ae.fq (UZ hO.ar hd hroom) ?_;rintro v CA' ⟨r,rfl,h2,hrc,hN,har⟩;refine⟨.cons (.cons .nil),Ext.mk rfl (Ext.mk rfl ?_)⟩;refine⟨λ_ H=>∃(b':uW) (dG cA:zL),H=(b1,.cells (Value.cells (nK d)) 144 zZ)::b'.hp kp K.n/\abP b' {K with N:=up K.N r (some d),used:=K.used+1,us:=dG,ho:=cA} θ ai tr/\
   K.us.length<=dG.length/\(∀s,dG.getD s 0=K.use s)/\∀s,cA.getD s 0=K.hold s,
  λ_ H=>r+1-Q7 H,JE.mk ⟨{b with CA:=CA'},K.us,K.ho,rfl,{hO with ar:=har,ul:=Oe},xai _,λ_=>rfl,λ_=>rfl⟩,?_⟩
 rintro H ⟨b',dG,cA,rfl,yL,hle,hu,hh⟩ gs;have adv:=yL.ul;simp only at adv;refine bu.q (Nil.γ (Ld.f ?_));refine yL.us.bL ?_;rw[av];refine ah.uo (Br.dec (λhge=>?_) (λhge=>?_))
 ·have hge:dG.length<=r:=hge;refine Nil.γ (Ld.f ?_);refine aq.int (e:=21) zK zK zK λbx=>?_;refine yL.us.qd (.cons (.cons (.cons (.app (.app .left))))) (by exact .head _) zP zP λvu' VT BF=>?_;refine Nil.γ (aj.mk (St.one (by exact .tail (.tail (.head _))) BF.one (by simp[uW.cells]) rfl ?_));refine Nil.γ (Ld.f ?_);refine aq.int (e:=21) zK zK zK λby'=>?_;refine yL.ho.qd (.cons (.cons (.cons (.cons (.app (.app (.app .left))))))) (by exact .head _) zP zP λvh' Vr p6=>?_;refine Nil.γ (aj.mk (St.one (by exact .tail (.tail (.tail (.head _)))) p6.one (by simp[uW.cells]) rfl ?_));have e0:∀l:zL,iw l++[0]=iw (l++[0]):=λl=>by rw[cH];rfl
  rw[e0]at BF p6;refine aD.of (.skip (.skip (.refl _))) ⟨{b' with vu:=vu',vh:=vh',CU:=VT,CH:=Vr},dG++[0],cA++[0],rfl,{yL with us:=BF,ho:=p6,ul:=by simp at adv⊢;omega},by simp;omega,λs=>by rw[wY,hu],λs=>by rw[wY,hh]⟩ ?_;obtain⟨a1,c1,e1⟩:=aU.len yL.us;obtain⟨a2,c2,e2⟩:=aU.len BF;have f1:=De (b:=b') (x:=(b1,.cells (Value.cells (nK d)) 144 zZ)) (kp:=kp) (n:=K.n) e1;have f2:=De (b:={b' with vu:=vu',vh:=vh',CU:=VT,CH:=Vr}) (x:=(b1,.cells (Value.cells (nK d)) 144 zZ)) (kp:=kp) (n:=K.n) e2;rw[f1];refine xaC (Nat.le_of_eq (xch (λz=>r+1-z) f2)) ?_;simp;omega
 have hge:¬dG.length<=r:=hge;have Qz:r<dG.length:=by omega
 have q7:r<cA.length:=by omega
 refine DR.of (R:=(kp,.cells (b'.cells K.n) 91 zZ)::[]) (.skip (.cons .nil)) (Nil.γ (Ld.f ?_));refine Nil.γ (Ld.f ?_);refine yL.us.mh (x:=0) (.cons (.cons (.app (.app .left)))) (by simpa using Qz) λVT BF=>?_;refine yL.ho.mh (x:=0) (.cons (.cons (.app (.app (.app .left))))) (by simpa using q7) λVr p6=>?_;have e0:∀l:zL,(iw l).set r 0=iw (l.set r 0):=λl=>fA l r 0;rw[e0]at BF p6;have lor:d.lo≠r:=gw hd.lo h2 hN;have hir:d.hi≠r:=gw hd.hi h2 hN;refine Ld.f ?_;have u0:∀s,(dG.set r 0).getD s 0=if s=r then 0 else K.use s:=λs=>by rw[ia Qz];split;rfl;exact hu s
 have h0:∀s,(cA.set r 0).getD s 0=if s=r then 0 else K.hold s:=λs=>by rw[ia q7];split;rfl;exact hh s
 have dR:cX kp {K with N:=up K.N r (some d),used:=K.used+1,us:=dG.set r 0,ho:=cA.set r 0} θ ai tr (({b' with CU:=VT,CH:=Vr}:uW).hp kp K.n):=⟨_,rfl,{yL with us:=BF,ho:=p6,ul:=by simp;omega}⟩;refine ae.fq (FL dR zP (by have:=hb d.lo;show(dG.set r 0).getD d.lo 0+1<_;rw[u0,xac lor];omega)) ?_;rintro v C1 ⟨rfl,cY⟩;refine Ld.f ?_;have u1:∀s,(tR {K with N:=up K.N r (some d),used:=K.used+1,us:=dG.set r 0,ho:=cA.set r 0} d.lo).getD s 0=(if s=r then 0 else K.use s)+(if 2<=s/\s=d.lo then 1 else 0):=λs=>by
  by_cases e:s=d.lo
  ·by_cases h2:2<=s
   ·rw[xae (show 2<=s/\s=d.lo from⟨h2,e⟩),e,n7 zO zP];show(dG.set r 0).getD d.lo 0+1=_;rw[u0]
   rw[xac (show¬(2<=s/\s=d.lo)by omega)];unfold tR;rw[xae zO];show(dG.set r 0).getD s 0=_;rw[u0];rfl
  rw[xac (show¬(2<=s/\s=d.lo)by omega),vG e];show(dG.set r 0).getD s 0=_;rw[u0];rfl
 refine ae.fq (FL cY (by rw[jK];simp;omega) (by
  have:=hb d.hi;show(tR _ d.lo).getD d.hi 0+1<_;rw[u1,xac hir];split<;>omega)) ?_
 rintro v C2 ⟨rfl,kB⟩;have anA:=kB;obtain⟨b3,rfl,hO3⟩:=kB;refine DR.self (Nil.γ (Ld.f ?_));refine aB.q ?_;refine ae.fq (KU hO3.ut hv hT) ?_;rintro v CT' ⟨rfl,hut⟩;have u2:∀s,(tR {K with N:=up K.N r (some d),used:=K.used+1,us:=tR {K with N:=up K.N r (some d),used:=K.used+1,us:=dG.set r 0,ho:=cA.set r 0} d.lo,ho:=cA.set r 0} d.hi).getD s 0=(if s=r then 0 else K.use s)+(if 2<=s/\s=d.lo then 1 else 0)+(if 2<=s/\s=d.hi then 1 else 0):=λs=>by
  by_cases e:s=d.hi
  ·by_cases h2:2<=s
   ·rw[xae (show 2<=s/\s=d.hi from⟨h2,e⟩),e,n7 zO (by rw[jK];simp;omega)];show(tR _ d.lo).getD d.hi 0+1=_;rw[u1]
   rw[xac (show¬(2<=s/\s=d.hi)by omega)];unfold tR;rw[xae zO];show(tR _ d.lo).getD s 0=_;rw[u1];rfl
  rw[xac (show¬(2<=s/\s=d.hi)by omega),vG e];show(tR _ d.lo).getD s 0=_;rw[u1];rfl
 refine aQ.mk .tail ⟨r,_,_,rfl,hN,h2,hrc,?_,?_,?_,?_,?_,?_,?_,?_,{b3 with CT:=CT'},rfl,{hO3 with ut:=hut}⟩
 ·rw[jK,jK];simp;omega
 ·rw[jK,jK];simp;omega
 ·rw[jK,jK];simp;omega
 ·rw[u2,xae rfl,xac (show¬(2<=r/\r=d.lo)by omega),xac (show¬(2<=r/\r=d.hi)by omega)]
 ·intro s h2s ξ;rw[u2,xac ξ,eJ];have c1:(2<=s/\s=d.lo)↔d.lo=s:=⟨λh=>h.2.symm,λh=>⟨h2s,h.symm⟩⟩;have c2:(2<=s/\s=d.hi)↔d.hi=s:=⟨λh=>h.2.symm,λh=>⟨h2s,h.symm⟩⟩;simp only[c1,c2];omega
 ·intro s hs;rw[u2,xac (show¬s=r by omega),xac (show¬(2<=s/\s=d.lo)by omega),xac (show¬(2<=s/\s=d.hi)by omega)];try simp
 ·rw[h0,xae rfl]
 intro s ξ;rw[h0,xac ξ]
end
end
end Go.Proofs
