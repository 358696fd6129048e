import Derived.Test.YtflhdclplgjbbaaGreatDoorX1
import Derived.Laws.StructEq
import Derived.ChangeKeysEq
import Derived.Defers
import Derived.Recover
import Derived.Test.YtflhdclplgjbbaaGreatDoorProg
set_option linter.unusedVariables false
set_option linter.unusedSimpArgs false
set_option linter.unusedSectionVars false
namespace Go.Sx
open Go
section
variable {P:Program} {g:Gh} {H:Hp}
def td(P:Program)(t:TypeId)(x y:zV):Prop:=
 (∃q a b,P.underlying t=some (.int q)/\x=.int q a/\y=.int q b)\/(∃a b,P.underlying t=some .bool/\x=.bool a/\y=.bool b)
theorem td.eq{t:TypeId}{x y:zV}(h:td P t x y)(d:Nat)(w:World):∃b,(Op.equalIn (d+1) t x y).run P w=.ok b w/\(b=true↔x=y):=by
 rcases h with⟨q,a,b,hu,rfl,rfl⟩|⟨a,b,hu,rfl,rfl⟩
 ·exact⟨a==b,by simp[Op.equalIn,run_underlying hu],by simp⟩
 exact⟨a==b,by simp[Op.equalIn,run_underlying hu],by simp⟩
theorem nD{t:TypeId}{xs:Array zV}{o:Nat}{x:zV}(hu:(∃q,P.underlying t=some (.int q))\/P.underlying t=some .bool)(h:xs[o]? =some x)(w:World):(part t xs o).run P w=.ok x w:=by
 rcases hu with⟨q,hu⟩|hu<;>simp[part,isAgg,run_underlying hu,h]
theorem ng(d:Nat)(xs ys:Array zV)(w:World):∀fs:List Field,(∀f∈fs,f.name≠ "_" /\∃x y,xs[f.offset]? =some x/\ys[f.offset]? =some y/\td P f.type x y)->
  ∃b,(Op.eqFields (d+1) xs ys fs).run P w=.ok b w/\(b=true↔∀f∈fs,xs[f.offset]? =ys[f.offset]?)
 | [],_=>⟨true,by simp[Op.eqFields],by simp⟩
 |f::fs,h=>by
  obtain⟨hn,x,y,hx,hy,hp⟩:=h f zI;obtain⟨b',ih,hb'⟩:=ng d xs ys w fs λg hg=>h g (by simp[hg]);have hu:(∃q,P.underlying f.type=some (.int q))\/P.underlying f.type=some .bool:=by
   rcases hp with⟨q,_,_,hu,_⟩|⟨_,_,hu,_⟩
   ·exact .inl ⟨q,hu⟩
   exact .inr hu
  obtain⟨b,hr,hb⟩:=hp.eq d w;have p1:=nD hu hx w;have p2:=nD hu hy w;cases b with
  |false=>
   refine⟨false,by simp[Op.eqFields,hn,p1,p2,hr],?_⟩;simp only[xaE,xaf,forall_eq_or_imp,false_iff,hx,hy,xap];exact λhh=>absurd (hb.2 hh.1) zD
  |true=>
   refine⟨b',by simp[Op.eqFields,hn,p1,p2,hr,ih],?_⟩;rw[hb'];simp only[xaf,forall_eq_or_imp,hx,hy,xap,hb.1 rfl,xb1]
theorem zz.flat{t:TypeId}{fs:Array Field}(ht:P.underlying t=some (.struct fs))(hp:P.stoodInHeld t=false){xs ys:Array zV}{p:Prop}[Decidable p]
 (h:∀f∈fs.toList,f.name≠ "_" /\∃x y,xs[f.offset]? =some x/\ys[f.offset]? =some y/\td P f.type x y)(he:(∀f∈fs.toList,xs[f.offset]? =ys[f.offset]?)↔p):zz P t (.agg xs) (.agg ys) (decide p):=by
 have e:P.fieldsOf t=fs:=by simp[Program.fieldsOf,ht]
 intro w;show(Op.equalIn (9998+1+1) t _ _).run P w=_;rw[run_equalIn_struct w (9998+1) t xs ys (by rw[e];exact ht) hp,e];obtain⟨b,hr,hb⟩:=ng (P:=P) 9998 xs ys w fs.toList h;rw[hr];congr 1;rw[xcA,hb,he,xaO]
theorem kP.flat{t:TypeId}{fs:Array Field}(ht:P.underlying t=some (.struct fs)){xs:Array zV}
 (h:∀f∈fs.toList,f.name≠ "_" /\∃x,xs[f.offset]? =some x/\td P f.type x x):kP P t (.agg xs):=by
 intro b w;have gen:∀d,(Instr.checkKey b (d+1+1) t (.agg xs)).run P w=.ok () w:=by
  intro d;unfold Instr.checkKey;simp only[Sem.run_bind,run_underlying ht,Result.andThen_ok];rw[<-Array.forIn_toList];clear ht;generalize fs.toList=l at h;induction l with
  |nil=>simp
  |cons f l ih=>
   obtain⟨hn,x,hx,hp⟩:=h f zI;have hu:(∃q,P.underlying f.type=some (.int q))\/P.underlying f.type=some .bool:=by
    rcases hp with⟨q,_,_,hu,_⟩|⟨_,_,hu,_⟩
    ·exact .inl ⟨q,hu⟩
    exact .inr hu
   have p1:=nD hu hx w;have p2:(Instr.checkKey b (d+1) f.type x).run P w=.ok () w:=by
    rcases hp with⟨q,a,_,hu,rfl,_⟩|⟨a,_,hu,rfl,_⟩
    ·simp only[Instr.checkKey,Sem.run_bind,run_underlying hu,Result.andThen_ok,Sem.run_pure]
    simp only[Instr.checkKey,Sem.run_bind,run_underlying hu,Result.andThen_ok,Sem.run_pure]
   have:=ih λg hg=>h g (by simp[hg]);simp only[xd1,Sem.run_bind];simp[hn,p1,p2];simpa using this
 exact gen 9998
theorem ja(n:Nat){xs:Array zV}(h:∀x∈xs.toList,(∃q a,x=.int q a)\/∃a,x=.bool a):Instr.sameBits (n+1+1) (.agg xs) (.agg xs)=true:=by
 simp only[Instr.sameBits,beq_self_eq_true,xdu,xc6];intro x hx;obtain⟨a,b⟩:=x;have h1:=xd4 hx;have e:a=b:=by
  obtain⟨i,hi,he⟩:=xbg.1 hx;simp at he;exact he.1.symm.trans he.2
 subst e;rcases h a h1.1 with⟨q,z,rfl⟩|⟨z,rfl⟩<;>simp[Instr.sameBits]
end
section
variable {κ:Type} [DecidableEq κ] {β:Type} {ke:κ->zV} {vr:zV->β->Prop} {es:Array MapEntry} {ck b:Nat} {m:List (κ×β)} {P:Program} {H:Hp}
def nE(m:List (κ×β))(k:κ):List (κ×β):=m.filter λy=>¬y.1=k
theorem uB{k k':κ}:c8 (nE m k) k'=if k'=k then none else c8 m k':=by
 unfold c8 nE;rw[List.find?_filter];by_cases e:k'=k
 ·rw[xae e];rw[xdN.2]
  ·rfl
  intro x _;simp;intro h1 h2;exact h1 (h2.trans e)
 rw[xad e];congr 1;congr 1
 funext y
 by_cases e2:y.1=k'
 ·have:¬y.1=k:=λe3=>e (e2.symm.trans e3);simp[e2,this,e]
 simp[e2]
theorem fc{k k':κ}{x:β}:c8 (gf m k x) k'=if k'=k then some x else c8 m k':=by
 unfold c8 gf;by_cases hk:k∈m.map Prod.fst
 ·rw[xae hk];by_cases e:k'=k
  ·subst e;rw[xae rfl];induction m with
   |nil=>simp at hk
   |cons y m ih=>
    rw[xaM,xdF];by_cases ey:y.1=k'
    ·simp[ey]
    rw[xad ey];simp only[ey,decide_false];rw[ih];rw[xaM]at hk;rcases xaf.1 hk with h|h
    ·exact absurd h.symm ey
    simpa using h
  rw[xad e];have:∀l:List (κ×β),(List.find? (λy=>decide (y.1=k')) (l.map λy=>if y.1=k then(k,x)else y)).map Prod.snd=(List.find? (λy=>decide (y.1=k')) l).map Prod.snd:=by
   intro l;induction l with
   |nil=>rfl
   |cons y l ih=>
    rw[xaM,xdF,xdF];by_cases ey:y.1=k
    ·have h1:decide (k=k')=false:=by simpa using λh=>e h.symm
     have h2:decide (y.1=k')=false:=by rw[ey];exact h1
     simp only[xae ey,h1,h2];exact ih
    simp only[xad ey];cases decide (y.1=k')with
    |true=>rfl
    |false=>exact ih
  exact this m
 rw[xad hk];rw[List.find?_append];by_cases e:k'=k
 ·subst e;have:List.find? (λy=>decide (y.1=k')) m=none:=by
   rw[xdN];intro y hy;simp;intro h;exact hk (xaq.2 ⟨y,hy,h⟩)
  simp[this]
 have:¬k=k':=λh=>e h.symm;rw[xad e];cases List.find? (λy=>decide (y.1=k')) m<;>simp[this]
theorem rZ(nd:(m.map Prod.fst).Nodup){i:Nat}{k:κ}{y:β}(hi:m[i]? =some (k,y)):nE m k=m.eraseIdx i:=by
 unfold nE;induction m generalizing i with
 |nil=>simp at hi
 |cons z m ih=>
  rw[xaM,xbd]at nd;cases i with
  |zero=>
   simp at hi;subst hi;rw[List.eraseIdx_cons_zero,List.filter_cons_of_neg zI];rw[xdd];intro w hw;simp only[decide_not,xbx,xbl];intro e;exact nd.1 (xaq.2 ⟨w,hw,e⟩)
  |succ i=>
   simp at hi;have hz:¬z.1=k:=λe=>nd.1 (xaq.2 ⟨_,xax hi,e.symm⟩);rw[List.eraseIdx_cons_succ,List.filter_cons_of_pos (by simpa using hz),ih nd.2 hi]
omit [DecidableEq κ] in
theorem aM.less(h:aM ke vr es ck m)(i:Nat):aM ke vr (es.eraseIdxIfInBounds i) ck (m.eraseIdx i):=by
 have hl:(es.eraseIdxIfInBounds i).toList=es.toList.eraseIdx i:=by
  unfold Array.eraseIdxIfInBounds;split
  ·simp
  rename_i hh;rw[List.eraseIdx_of_length_le (by simpa using hh)]
 refine⟨?_,λj e x he hx=>?_,?_,?_,λe he=>?_⟩
 ·have:=xbL List.length hl;rw[xbW,List.length_eraseIdx]at this;rw[this,List.length_eraseIdx,xbW,h.len]
 ·rw[<-xba,hl,List.getElem?_eraseIdx]at he;rw[List.getElem?_eraseIdx]at hx;split at he
  ·rename_i hh;rw[xae hh]at hx;exact h.key j e x (by simpa using he) hx
  rename_i hh;rw[xad hh]at hx;exact h.key (j+1) e x (by simpa using he) hx
 ·rw[<-kg];exact h.nd.sublist (List.eraseIdx_sublist _ _)
 ·rw[hl,<-kg];exact h.born.sublist (List.eraseIdx_sublist _ _)
 rw[hl]at he;exact h.lt e (List.mem_of_mem_eraseIdx he)
theorem aM.Zy{P:Program}{kt:TypeId}{k:κ}{K:Hp->Prop}(hk:∀a b,zz P kt (ke a) (ke b) (decide (a=b)))(hc:∀a,kP P kt (ke a))(h:aM ke vr es ck m)(hm:(b,Obj.map es ck)∈H)
 (h1:∀es',aM ke vr es' ck (nE m k)->∃H',cT b (.map es ck) (.map es' ck) H H'/\K H'):o6 P kt H (.map (some b)) (ke k) K:=by
 refine⟨hc k,.inr ?_⟩;rcases h.yU hk k with⟨i,y,e,g1,g2,g3,g4⟩|⟨g1,g2⟩
 ·refine⟨b,es,ck,_,rfl,g4,?_⟩;have:=h.less i;rw[<-rZ h.nd g2]at this;exact h1 _ this
 refine⟨b,es,ck,_,rfl,g2,hm,?_⟩;have e:nE m k=m:=by
  unfold nE;rw[xdd];intro w hw;simp only[decide_not,xbx,xbl];intro e;exact g1 (xaq.2 ⟨w,hw,e⟩)
 obtain⟨H',hu,hK⟩:=h1 es (by rw[e];exact h);have:∀{H H':Hp},cT b (.map es ck) (.map es ck) H H'->H'=H:=by
  intro H H' hu;generalize ho:Obj.map es ck=o at hu;induction hu with
  |head R=>rfl
  |tail _ ih=>rw[ih]
 rw[this hu]at hK;exact hK
end
section
variable {P:Program} {H:Hp}
theorem aH.r7{T:TypeId}{k:Nat}{v:zV}{rs:List (List zV)}{C:Hp}(hs:aH T k v rs C){i:Nat}{kd:IntKind}{r:List zV}(hr:rs[i]? =some r)(hC:∀y∈C,y∈H){K:zV->Prop}(hk:K (.agg r.toArray)):
  aj k v (.int kd (i:Int)) λp=>av k H p K:=by
 have hi:=(xag.1 hr).1;obtain⟨b',aC,rfl,rfl,aI⟩:=hs.pos zO;exact aj.nat hi (av.row (hC _ (List.Mem.head _)) aI (by rw[xaH hi];exact hr) hk)
theorem aH.Q6{T:TypeId}{k:Nat}{v x:zV}{rs:List (List zV)}{C:Hp}(hs:aH T k v rs C){i j:Nat}{kd:IntKind}{r:List zV}(hr:rs[i]? =some r)(hj:r[j]? =some x)(hC:∀y∈C,y∈H){K:zV->Prop}(hk:K x):
  aj k v (.int kd (i:Int)) λp=>ah j p λq=>Ld H q K:=by
 have hi:=(xag.1 hr).1;obtain⟨b',aC,rfl,rfl,aI⟩:=hs.pos zO;exact aj.nat hi (ah.mk (Ld.row (hC _ (List.Mem.head _)) aI (by rw[xaH hi];exact hr) hj hk))
theorem aH.Q9{T:TypeId}{v x:zV}{rs:List (List zV)}{C:Hp}(hs:aH T 1 v rs C){i:Nat}{kd:IntKind}(hr:rs[i]? =some [x])(hC:∀y∈C,y∈H){K:zV->Prop}(hk:K x):
  aj 1 v (.int kd (i:Int)) λp=>Ld H p K:=by
 have hi:=(xag.1 hr).1;obtain⟨b',aC,rfl,rfl,aI⟩:=hs.pos zO;exact aj.nat hi (Ld.TL (l:=rs++aC) (hC _ (List.Mem.head _)) aI (by rw[xaH hi];exact hr) hk)
theorem aH.Q5{T:TypeId}{k n:Nat}{v:zV}{rs:List (List zV)}{C:Hp}(hs:aH T k v rs C){i:Nat}{kd:IntKind}{r:List zV}(hr:rs[i]? =some r)(hn:0<n/\n<=k)(hC:∀y∈C,y∈H){K:zV->Prop}(hk:K (.agg (r.take n).toArray)):
  aj k v (.int kd (i:Int)) λp=>ah 0 p λq=>av n H q K:=by
 have hi:=(xag.1 hr).1;obtain⟨b',aC,rfl,rfl,aI⟩:=hs.pos zO;have MH:r.length=k:=aI r (xac _ (xax hr));refine aj.nat hi (ah.mk ?_);have SY:At H (.pointer (some ⟨b',0+i*k+0,none⟩)) (r.take n):=⟨b',_,_,_,_,rfl,hC _ (List.Mem.head _),λj x hj=>by
  have P2:j<n:=by have:=(xag.1 hj).1;simp at this;omega
  rw[List.getElem?_take,xae P2]at hj;rw[xbS,xa1,fY aI zO,xaH hi,hr];exact hj⟩
 exact av.at SY zP hn.1 (λ_ h=>h) hk
theorem Fq{k:Nat}{l:List (List zV)}(h:∀r∈l,r.length=k){i:Nat}{r xs:List zV}(hi:l[i]? =some r)(hx:xs.length<=k):over (rows l) (i*k) xs=rows (l.set i (xs++r.drop xs.length)):=by
 have hlt:=(xag.1 hi).1;have hr:=h r (xax hi);have key:∀(xs:List zV) (j:Nat) (l:List (List zV)) (r:List zV),(∀r∈l,r.length=k)->l[i]? =some r->j+xs.length<=k->over (rows l) (i*k+j) xs=rows (l.set i (r.take j++xs++r.drop (j+xs.length))):=by
  intro xs;induction xs with
  |nil=>
   intro j l r h hi _;have hlt:=(xag.1 hi).1;simp only[over,xaP,xbe,xbS,xbk];congr 1;apply xbo;intro m;rw[xbU];by_cases e:i=m
   ·subst e;rw[xae rfl,hi,xae hlt]
   rw[xad e]
  |cons x xs ih=>
   intro j l r h hi hj;have hr:=h r (xax hi);have hlt:=(xag.1 hi).1;simp only[xar]at hj;rw[over,mW h hi zO,xdt];rw[ih (j+1) (l.set i (r.set j x)) (r.set j x) (λy hy=>by
    rcases xcf hy with hy|rfl
    ·exact h y hy
    simpa using hr) (by simp[hlt]) zO]
   rw[List.set_set];congr 2;have e1:(r.set j x).take (j+1)=r.take j++[x]:=by
    rw[xcI,xae zO,xdX];simp[List.take_take,show min (j+1) j=j by omega,show j+1-min j r.length=1 by omega]
   have e2:(r.set j x).drop (j+1+xs.length)=r.drop (j+(x::xs).length):=by
    rw[List.drop_set,xae zO];congr 1;simp;omega
   rw[e1,e2];simp
 have:=key xs 0 l r h hi zO;simpa using this
theorem aH.Nt{T:TypeId}{k n:Nat}{v:zV}{rs:List (List zV)}{C A B:Hp}(hs:aH T k v rs C){i:Nat}{kd:IntKind}{r xs:List zV}(hr:rs[i]? =some r)(hx:xs.length=n/\n<=k)(h1:∀x∈xs,x.oneCell'=true){K:Hp->Prop}
 (hk:∀C',aH T k v (rs.set i (xs++r.drop n)) C'->K (A++(C'++B))):aj k v (.int kd (i:Int)) λp=>ah 0 p λq=>St n (A++(C++B)) q (.agg xs.toArray) K:=by
 have hi:=(xag.1 hr).1;obtain⟨b',aC,rfl,rfl,aI⟩:=hs.pos zO;refine aj.nat hi (ah.mk ?_);have hg:(rs++aC)[i]? =some r:=by rw[xaH hi];exact hr
 have e:(rs++aC).set i (xs++r.drop xs.length)=rs.set i (xs++r.drop n)++aC:=by rw[xcH _ _ hi,hx.1]
 refine St.mk (c':=rows (rs.set i (xs++r.drop n)++aC)) (H':=A++([(b',.cells (rows (rs.set i (xs++r.drop n)++aC)) T zZ)]++B)) (((cT.head _).append B).bB A) (by simpa[Value.cells]using hx.1) ?_ (by simpa[Value.cells]using h1) ?_ ?_
 ·rw[aZ aI,xa1,xbS,xai];have:=xa4 k (xcm hi);rw[xbr]at this;have h2:rs.length*k<=(rs.length+aC.length)*k:=xa4 k zO;omega
 ·simp only[Value.cells,xa1,xbS];rw[Fq aI hg zO,e]
 have MH:r.length=k:=aI r (xac _ (xax hr));refine hk _ (aH.mk' (aC:=aC) (λy hy=>?_) zI zI);rcases xal.1 hy with hy|hy
 ·rcases xcf hy with hy|rfl
  ·exact aI y (xac _ hy)
  simp;omega
 exact aI y (xaa _ hy)
theorem aH.Jj{T:TypeId}{k:Nat}{v:zV}{rs:List (List zV)}{C A B:Hp}(hs:aH T k v rs C){i:Nat}{kd:IntKind}{xs:List zV}(hi:i<rs.length)(hx:xs.length=k)(h1:∀x∈xs,x.oneCell'=true){K:Hp->Prop}
 (hk:∀C',aH T k v (rs.set i xs) C'->K (A++(C'++B))):aj k v (.int kd (i:Int)) λp=>St k (A++(C++B)) p (.agg xs.toArray) K:=by
 obtain⟨b',aC,rfl,rfl,aI⟩:=hs.pos zO;refine aj.nat hi (St.row (l:=rs++aC) (((cT.head _).append B).bB A) aI zP hx h1 ?_);have e:(rs++aC).set i xs=rs.set i xs++aC:=by rw[xcH _ _ hi]
 rw[e];refine hk [(b',_)] (aH.mk' (aC:=aC) (λy hy=>?_) zI zI);rcases xal.1 hy with hy|hy
 ·rcases xcf hy with hy|rfl
  ·exact aI y (xac _ hy)
  exact hx
 exact aI y (xaa _ hy)
theorem aL.ld{T:TypeId}{kd tM:IntKind}{v:zV}{l:List Int}{C:Hp}(hs:aL T kd v l C){i:Nat}{x:Int}(hx:l[i]? =some x)(hC:∀y∈C,y∈H){K:zV->Prop}(hk:K (.int kd x)):aj 1 v (.int tM (i:Int)) λp=>Ld H p K:=
 aH.Q9 hs (x:=.int kd x) (by simp[hx]) hC hk
theorem aL.put{T:TypeId}{kd tM:IntKind}{v:zV}{l:List Int}{C A B:Hp}(hs:aL T kd v l C){i:Nat}{x:Int}(hi:i<l.length){K:Hp->Prop}
 (hk:∀C',aL T kd v (l.set i x) C'->K (A++(C'++B))):aj 1 v (.int tM (i:Int)) λp=>St 1 (A++(C++B)) p (.int kd x) K:=by
 have hi':i<(l.map λn=>[Value.int kd n]).length:=by simpa using hi
 obtain⟨b',aC,rfl,rfl,aI⟩:=aH.pos hs zO;refine aj.nat hi' ?_;refine St.cell (l:=l.map (λn=>[Value.int kd n])++aC) (i:=i) (k:=1) (j:=0) (r:=[.int kd l[i]]) (((cT.head _).append B).bB A) aI (by rw[xaH hi'];simp[hi]) zO rfl ?_;have e:(l.map (λn=>[Value.int kd n])++aC).set i ([Value.int kd l[i]].set 0 (.int kd x))=(l.set i x).map (λn=>[Value.int kd n])++aC:=by
  rw[xcH _ _ hi',xdj];rfl
 rw[e];refine hk [(b',_)] (aH.mk' (aC:=aC) (λr hr'=>?_) zI zI);rcases xal.1 hr' with hr'|hr'
 ·obtain⟨y,_,rfl⟩:=xaq.1 hr';rfl
 exact aI r (xaa _ hr')
theorem aG.nil{H:Hp}:aG H []:=λ_ _ h=>h.jU
theorem aH.cut{T:TypeId}{k i:Nat}{v:zV}{rs:List (List zV)}{C:Hp}(hs:aH T k v rs C)(hi:i<=rs.length){kd:IntKind}{K:zV->Prop}(hk:∀v',aH T k v' (rs.take i) C->K v'):
  dD k v none (some (.int kd (i:Int))) K:=by
 by_cases hp:0<rs.length
 ·obtain⟨b',aC,rfl,rfl,aI⟩:=hs.pos hp;refine dD.upto zO (hk _ ?_);have e:rs++aC=rs.take i++(rs.drop i++aC):=by rw[<-xaj,xbk]
  rw[e]at aI⊢;exact aH.mk' aI zP zP
 obtain rfl:rs=[]:=xcq zO;obtain rfl:i=0:=by simpa using hi
 obtain⟨a,c,rfl⟩:=hs.len;exact dD.upto (xaK _) (hk _ (by simpa using hs))
theorem aL.cut{T:TypeId}{kd tM:IntKind}{i:Nat}{v:zV}{l:List Int}{C:Hp}(hs:aL T kd v l C)(hi:i<=l.length){K:zV->Prop}(hk:∀v',aL T kd v' (l.take i) C->K v'):
  dD 1 v none (some (.int tM (i:Int))) K:=
 aH.cut hs (by simpa using hi) λv' h=>hk v' (by unfold aL;rw[List.map_take];exact h)
end
end Go.Sx
namespace Go.Sx
open Go
section
variable {P:Program} {H C:Hp} {c:Hp->Hp}
theorem aU.split(h:aU C H c):∃A B,∀X,c X=A++(X++B):=by
 induction h with
 |here=>exact⟨[],[],λX=>by simp⟩
 | @left A=>exact⟨[],A,λX=>rfl⟩
 | @cons x H c h ih=>
  obtain⟨A,B,e⟩:=ih;exact⟨x::A,B,λX=>by show x::c X=_;rw[e];rfl⟩
 | @app A' H c h ih=>
  obtain⟨A,B,e⟩:=ih;exact⟨A'++A,B,λX=>by show A'++c X=_;rw[e,xaj]⟩
theorem aU.sub(h:aU C H c):∀x∈C,x∈H:=λx hx=>by
 obtain⟨A,B,e⟩:=h.split;rw[h.spec.1,e];exact xaa _ (xac _ hx)
theorem aU.bJ{b:Nat}{o o':Obj}{C':Hp}(h:aU C H c)(u:cT b o o' C C'):cT b o o' H (c C'):=by
 obtain⟨A,B,e⟩:=h.split;rw[h.spec.1,e,e];exact(u.append B).bB A
theorem aH.kx{elem k bytes:Nat}{zero:zV}{v:zV}{rs:List (List zV)}(h:aH elem k v rs C)(hh:aU C H c){xb:Nat}{r:List zV}{xT:TypeId}{fz:Nat×Nat}{xc:Nat}
 (hx:(xb,Obj.cells r.toArray xT fz)∈H)(hr:r.length=k)(h1:∀u∈r,u.oneCell'=true)(hz:∃z:List zV,zero.cells=z.toArray/\z.length=k)
 (hb:(rs.length+1)*bytes<=140737488355328)(cO:rs.length+1<=9223372036854775807){K:zV->Hp->Prop}
 (hk:∀v' C',aH elem k v' (rs++[r]) C'->K v' (c C')):App P elem k bytes zero H v (.slice (some ⟨xb,0,none⟩) 1 xc) K:=by
 obtain⟨A,B,e⟩:=hh.split;have e2:=hh.spec.1;rw[e]at e2;subst e2;exact h.Ma hx hr h1 hz hb cO λv' C' ho=>by have:=hk v' C' ho;rwa [e]at this
theorem aL.kx{T:TypeId}{kd:IntKind}{v:zV}{l:List Int}{bytes:Nat}(h:aL T kd v l C)(hh:aU C H c){xb xc:Nat}{x:Int}{xT:TypeId}{fz:Nat×Nat}(hx:(xb,Obj.cells (au kd [x]) xT fz)∈H)
 (hb:(l.length+1)*bytes<=140737488355328)(hm:l.length+1<=9223372036854775807){K:zV->Hp->Prop}(hk:∀v' C',aL T kd v' (l++[x]) C'->K v' (c C')):App P T 1 bytes (.int kd 0) H v (.slice (some ⟨xb,0,none⟩) 1 xc) K:=by
 obtain⟨A,B,e⟩:=hh.split;have e2:=hh.spec.1;rw[e]at e2;subst e2;exact h.app hx hb hm λv' C' ho=>by have:=hk v' C' ho;rwa [e]at this
theorem aL.zm{T:TypeId}{kd:IntKind}{v x:zV}{l l2:List Int}{bytes:Nat}(h:aL T kd v l C)(hh:aU C H c)(hx:cR kd H x l2)
 (hb:(l.length+l2.length)*bytes<=140737488355328)(hm:l.length+l2.length<=9223372036854775807){K:zV->Hp->Prop}(hk:∀v' C',aL T kd v' (l++l2) C'->K v' (c C')):App P T 1 bytes (.int kd 0) H v x K:=by
 obtain⟨A,B,e⟩:=hh.split;have e2:=hh.spec.1;rw[e]at e2;subst e2;exact h.apps hx hb hm λv' C' ho=>by have:=hk v' C' ho;rwa [e]at this
theorem aL.jW{T:TypeId}{kd tM:IntKind}{v:zV}{l:List Int}(hs:aL T kd v l C)(hh:aU C H c){i:Nat}{x:Int}(hi:i<l.length){K:Hp->Prop}
 (hk:∀C',aL T kd v (l.set i x) C'->K (c C')):aj 1 v (.int tM (i:Int)) λp=>St 1 H p (.int kd x) K:=by
 obtain⟨A,B,e⟩:=hh.split;have e2:=hh.spec.1;rw[e]at e2;subst e2;exact hs.put hi λC' ho=>by have:=hk C' ho;rwa [e]at this
theorem aL.one{T:TypeId}{kd:IntKind}{v:zV}{l:List Int}(h:aL T kd v l C):v.oneCell'=true:=by obtain⟨a,c,e⟩:=aH.len h;rw[e];rfl
theorem er(l:zL)(i x:Nat):(iw l).set i (x:Int)=iw (l.set i x):=by unfold iw;rw[xdj]
theorem bV(a b:zL):iw (a++b)=iw a++iw b:=by unfold iw;rw[xaG]
theorem bc{l:zL}{i:Nat}(h:i<l.length):(iw l)[i]? =some ((l.getD i 0:Nat):Int):=by
 rw[cc (xab h)];simp[List.getD,xab h]
end
end Go.Sx
namespace Go.Sx
open Go
theorem ju{p:Nat->Prop}(h:∃k,p k):∃k,p k/\∀j,p j->k<=j:=by
 obtain⟨k,hk⟩:=h;induction k using Nat.strongRecOn with
 |_ k ih=>
  by_cases e:∃j,j<k/\p j
  ·obtain⟨j,hj,hp⟩:=e;exact ih j hj hp
  exact⟨k,hk,λj hp=>xcM λhlt=>e ⟨j,hlt,hp⟩⟩
open Classical in
noncomputable def lB(J:Nat->List zV->Hp->Prop)(vs:List zV)(H:Hp):Nat:=if h:∃k,J k vs H then Classical.choose (ju h)else 0
theorem FI{J:Nat->List zV->Hp->Prop}{vs:List zV}{H:Hp}{k:Nat}(h:J k vs H):lB J vs H<=k:=by
 unfold lB;rw[xdU ⟨k,h⟩];exact(xcB (ju ⟨k,h⟩)).2 k h
theorem x7{J:Nat->List zV->Hp->Prop}{vs:List zV}{H:Hp}(h:∃k,J k vs H):J (lB J vs H) vs H:=by
 unfold lB;rw[xdU h];exact(xcB (ju h)).1
def mh(J:Nat->List zV->Hp->Prop):List zV->Hp->Prop:=λvs H=>∃k,J k vs H
theorem mh.open{J:Nat->List zV->Hp->Prop}{vs:List zV}{H:Hp}(h:mh J vs H):∃k,J k vs H/\k=lB J vs H:=⟨_,x7 h,rfl⟩
theorem mh.mk{J:Nat->List zV->Hp->Prop}{vs:List zV}{H:Hp}(k:Nat)(h:J k vs H):JE (mh J) vs H:=JE.mk ⟨k,h⟩
theorem mh.back{J:Nat->List zV->Hp->Prop}{vs vs':List zV}{H H' H0:Hp}{k:Nat}(e:aG H H')(hk:k=lB J vs H0)(k':Nat)(h:J k' vs' H')(hlt:k'<k):az (mh J) (lB J) vs' H vs H0:=
 az.of e ⟨k',h⟩ (xaR (FI h) zO)
theorem TZ{vs:List zV}{H:Hp}{Q:(List zV->Hp->Prop)->(List zV->Hp->Nat)->Prop}(J:Nat->List zV->Hp->Prop)(k:Nat)(h:J k vs H)(hq:Q (mh J) (lB J)):
  ∃(I:List zV->Hp->Prop) (m:List zV->Hp->Nat),JE I vs H/\Q I m:=⟨_,_,mh.mk k h,hq⟩
section
variable {P:Program} {H:Hp}
theorem ai.JW{t e:Nat}{kd:IntKind}{x y:Int}{K:zV->Hp->Prop}(h1:P.underlying t=some (.slice e))(h2:cy P e=some 1)(h3:dG P e=some (.int kd 0))
 (h:∀b,K (.slice (some ⟨b,0,Option.none⟩) 2 2) ((b,.cells (au kd [x,y]) e zZ)::H)):ai P t 2 [(0,.int kd x),(1,.int kd y)] H K:=by
 refine⟨au kd [x,y],e,1,_,h1,h2,h3,by decide,?_,λb _=>h b⟩;have e1:Array.range (2*1)=#[0,1]:=rfl;simp[Instr.fill,Value.cells,au,e1]
theorem Ft(kd:IntKind)(l:List Int):rows (l.map λn=>[Value.int kd n])=au kd l:=by
 unfold rows au;congr 1;induction l with
 |nil=>rfl
 |cons x l ih=>rw[xaM,xcl,ih];rfl
theorem aL.made{T:TypeId}{kd:IntKind}{b:Nat}(l:List Int):aL T kd (.slice (some ⟨b,0,none⟩) l.length l.length) l [(b,.cells (au kd l) T zZ)]:=by
 have:=aH.mk' (T:=T) (k:=1) (b:=b) (n:=l.length) (c:=l.length) (rs:=l.map λn=>[Value.int kd n]) (aC:=[]) (λr hr=>by
  rw[xaP]at hr;obtain⟨x,_,rfl⟩:=xaq.1 hr;rfl) zI zI
 rw[xaP,Ft]at this;exact this
end
end Go.Sx
namespace Go.Sx
open Go
section
variable {P:Program} {g:Gh}
structure tx where
 f:FuncId
 l:List zV
def gR(P:Program)(g:Gh)(f:FuncId)(args:Array zV)(H:Hp)(R:Ending->Hp->Prop):Prop:=
 ∀w,Own g H w->∀u,CallsD P f args u w λe u' w'=>u'=u/\∃H',Own g H' w'/\R e H'
def dL(P:Program)(g:Gh)(f:FuncId)(args:Array zV)(H:Hp)(K:Hp->Prop):Prop:=gR P g f args H λe H'=>(∃v,e=.returned v)/\K H'
def IP(P:Program)(g:Gh)(K:Hp->Prop):List tx->Hp->Prop
 | [],H=>K H
 |x::r,H=>dL P g x.f x.l.toArray H (IP P g K r)
def Pm(P:Program)(o:Oper)(ρ:Operand->zV)(k:tx->Prop):Prop:=
 match o.op with
 | .defer c=>match c.callee with
  | .value x=>match ρ x with
   | .func (.func f) first cap=>cond (bg P f) (k ⟨f,first.toList++(c.args.toList.map ρ++cap.toList)⟩) False
   |_=>False
  |_=>False
 |_=>False
def D6:Code->Option (Array Oper×Oper)
 | .region _ ops false=>match ops.toList.getLast? with
  |some o=>match o.op with
   | .defer _=>some (ops,o)
   |_=>none
  |none=>none
 |_=>none
def LA(P:Program)(g:Gh)(fn:Func)(R:Ending->Hp->Prop)(dl:List tx):Exit->Fr->Hp->Prop
 | .normal,fr,H=>IP P g (λH'=>nx P fr H' fn.results.toList λvs=>R (.returned (rD vs)) H') dl H
 | .ret,fr,H=>IP P g (λH'=>nx P fr H' fn.results.toList λvs=>R (.returned (rD vs)) H') dl H
 |_,_,_=>False
def Bc(P:Program)(g:Gh)(n:Nat)(E:List tx->Exit->Fr->Hp->Prop):Code->Hn->List tx->Fr->Hp->Prop
 | .seq x y,hn,dl,fr,H=>
  match D6 x with
  |some (ops,o)=>cond (o.dst.isNone&&o.guard.isNone)
    (df P g n ops false (ops.toList.length+1) false none [] ops.toList.dropLast fr H (λ_ fr' H'=>Pm P o (ev fr') λd=>Bc P g n E y hn.b (d::dl) fr' H') (λ_ _=>False)) False
  |none=>match hn.m with
   |0=>den P g n x hn.a (xw (Bc P g n E y hn.b dl) (E dl)) fr H
   |_=>cond (ND x hn.I)
    (VW hn.L.length (λvs H'=>∀gs,Bc P g n E y hn.b dl (mix hn.L vs hn.I fr gs) H') λJ=>den P g n x hn.a (xw (λfr' H'=>JE J (Ag fr' hn.L) H') (E dl)) fr H) False
 |c,hn,dl,fr,H=>den P g n c hn (E dl) fr H
def LI(P:Program)(g:Gh)(fn:Func)(hn:Hn)(args:List zV)(H:Hp)(R:Ending->Hp->Prop):Prop:=
 match fn.body with
 |some c=>cond (Nat.ble args.length fn.ntmps) (Bc P g fn.ntmps (LA P g fn R) c hn [] (eX args 0) H) False
 |none=>False
def EN:List PanicEntry->Hp->Prop:=λ_ _=>∀_:Fr,False
def ZN(P:Program)(x:tx)(d:Deferred):Prop:=∃cap args,d={target:=.fn (.func x.f) cap,args:=args}/\args++cap=x.l.toArray/\bg P x.f=true
inductive p7(P:Program):List tx->List Deferred->Prop
 |nil:p7 P [] []
 |cons {x d l ds} (h:ZN P x d) (hr:p7 P l ds):p7 P (x::l) (d::ds)
theorem rC{fn:Func}{tmps:Array zV}{K:Hp->Prop}{R:Ending->World->Prop}(hK:∀H w,Own g H w->K H->∃v,(results fn tmps).run P w=.ok v w/\R (.returned v) w):
  ∀{dl:List tx} {ds:List Deferred},p7 P dl ds->∀H w,Own g H w->IP P g K dl H->Leaves P fn tmps R ds .returning w
 |_,_,.nil,H,w,hw,h=>hK H w hw h
 |_,_,.cons ⟨cap,args,hd,ha,hc⟩ hr,H,w,hw,h=>by
  subst hd;refine leaves_cons zI ?_ ((h w hw .returning).mono ?_)
  ·show(callFunc _ (args++cap)).run P w=_;rw[ha];exact dn hc _ w
  rintro e u' w' ⟨rfl,H',ho,⟨v,rfl⟩,hk⟩;exact rC hK hr H' w' ho hk
theorem nL{fn:Func}{R:Ending->Hp->Prop}{n:Nat}{dl:List tx}{ds:List Deferred}(hd:p7 P dl ds){e:Exit}{fr:Fr}{H:Hp}{a:Act}{w:World}(ha:bD ds n a fr)(hw:Own g H w)(h:LA P g fn R dl e fr H):
  bodyPostD P fn (λe w'=>∃H',Own g H' w'/\R e H') e a w:=by
 have key:∀{H},Own g H w->IP P g (λH'=>nx P fr H' fn.results.toList λvs=>R (.returned (rD vs)) H') dl H->Leaves P fn a.tmps (λe w'=>∃H',Own g H' w'/\R e H') a.defers .returning w:=λhw h=>by
  rw[ha.defers];refine rC (λH w hw h=>?_) hd _ _ hw h;obtain⟨vs,hr,hk⟩:=e9 ha hw h;exact⟨_,hr,H,hw,hk⟩
 cases e with
 |normal=>exact key hw h
 |ret=>exact key hw h
 |panic ch=>exact h.elim
 |exit id=>exact h.elim
 |goto l=>exact h.elim
 |outgrown=>exact h.elim
theorem sn{c:Code}{ops:Array Oper}{o:Oper}(h:D6 c=some (ops,o)):∃id d,c=.region id ops false/\ops.toList=ops.toList.dropLast++[o]/\o.op=.defer d:=by
 unfold D6 at h;split at h
 ·rename_i id ops';split at h
  ·rename_i o' ho;split at h
   ·rename_i d hd;simp only[xap,xcR]at h;obtain⟨rfl,rfl⟩:=h;refine⟨id,d,rfl,?_,hd⟩;obtain⟨hne,e⟩:=List.getLast?_eq_some_iff.1 ho;rw[e];simp
   cases h
  cases h
 cases h
theorem zN{o:Oper}{fr:Fr}{k:tx->Prop}(h:Pm P o (ev fr) k):∃x d,k x/\ZN P x d/\∀w,(execOp (ev fr) o).run P w=.ok (.defer d) w:=by
 unfold Pm at h;split at h<;>try exact h.elim
 rename_i c hop;split at h<;>try exact h.elim
 rename_i x hc;split at h<;>try exact h.elim
 rename_i f first cap hx
 cases fU:bg P f<;>simp only[fU,xaw,xam]at h;refine⟨_,{target:=.fn (.func f) cap,args:=first++c.args.map (ev fr)},h,⟨cap,_,rfl,?_,fU⟩,λw=>?_⟩
 ·apply xc7;simp
 simp only[execOp,hop,resolve,hc,hx,Deferred.ofValue,Sem.run_bind,Sem.run_pure,Result.andThen_ok]
theorem Bb{n:Nat}{fn:Func}{R:Ending->Hp->Prop}:∀(c:Code) (hn:Hn) (dl:List tx) (fr:Fr) (H:Hp),Bc P g n (LA P g fn R) c hn dl fr H->∀(ds:List Deferred),p7 P dl ds->∀(a:Act) (w:World),bD ds n a fr->Own g H w->
  c.wp P (bodyPostD P fn λe w'=>∃H',Own g H' w'/\R e H') a w:=by
 have plain:∀(c:Code) (hn:Hn) (dl:List tx) (fr:Fr) (H:Hp),den P g n c hn (LA P g fn R dl) fr H->∀(ds:List Deferred),p7 P dl ds->∀(a:Act) (w:World),bD ds n a fr->Own g H w->
   c.wp P (bodyPostD P fn λe w'=>∃H',Own g H' w'/\R e H') a w:=λc hn dl fr H h ds hd a w ha hw=>
  wp_mono (gY c hn _ fr H h a w ha hw) λe a' w' ⟨fr',H',cL,hw',_,hq⟩=>nL hd cL hw' hq
 intro c;induction c with
 |seq x y _ ih=>
  intro hn dl fr H h ds hd a w ha hw;unfold Bc at h;split at h
  ·rename_i ops o hx;obtain⟨id,d,rfl,hl,hop⟩:=sn hx;cases hc:(o.dst.isNone&&o.guard.isNone)<;>simp only[hc,xaw,xam]at h;simp only[xay,Option.isNone_iff_eq_none]at hc;refine wp_seq (wp_region_list ?_);rw[hl];refine bO _ _ _ _ _ fr H _ _ h trivial (fR.nil fr) a w ha hw [o] _ ?_ ?_
   ·intro a' w' mX fr' H' cL hw' _ _ hk;refine wpList_plain hc.2 λK hK=>?_;obtain⟨x,dd,hx,hok,hrun⟩:=zN hk;show o.upon P a' K _ ((execOp a'.eval o).run P w');rw[cL.eval,hrun];refine hK _ _ ?_;refine ih _ _ fr' H' hx (dd::ds) (.cons hok hd) _ _ ?_ hw';rw[hc.1];exact⟨xbL _ cL.defers,cL.size,cL.get⟩
   intro ch a' w' fr' H' _ _ hk;exact hk.elim
  split at h
  ·refine wp_seq (wp_mono (gY x _ _ fr H h a w ha hw) ?_);rintro e a' w' ⟨fr',H',cL,hw',ho,hq⟩;cases e with
   |normal=>exact ih _ _ fr' H' hq ds hd a' w' cL hw'
   |ret=>exact nL (e:=.ret) hd cL hw' hq
   |exit id=>exact hq.elim
   |goto l=>exact hq.elim
   |panic ch=>exact hq.elim
   |outgrown=>exact hq.elim
  ·cases hno:ND x hn.I<;>simp only[hno,xaw,xam]at h;have h':=h (λvs H'=>∀gs,Bc P g n (LA P g fn R) y hn.b dl (mix hn.L vs hn.I fr gs) H') (tA.intro (λvs H' hh=>hh) _);refine wp_seq (wp_mono (gY x _ _ fr H h' a w ha hw) ?_);rintro e a' w' ⟨fr',H',cL,hw',ho,hq⟩;cases e with
   |normal=>
    obtain⟨Hj,hent,hq⟩:=hq;have Wk:=hq fr';rw[rX λs hs=>ho rfl s (rV hno s hs)]at Wk;exact ih _ _ fr' Hj Wk ds hd a' w' cL (hent _ _ hw')
   |ret=>exact nL (e:=.ret) hd cL hw' hq
   |exit id=>exact hq.elim
   |goto l=>exact hq.elim
   |panic ch=>exact hq.elim
   |outgrown=>exact hq.elim
 |_=>intro hn dl fr H h;exact plain _ hn dl fr H h
theorem wj{args:List zV}{m:Nat}(hle:args.length<=m):bD [] m {tmps:=args.toArray++Array.replicate (m-args.toArray.size) undef,defers:=[]} (eX args 0):=by
 refine⟨rfl,by simp;omega,λs=>?_⟩;rw[j7,xan,xdz];simp only[xcD,xcg,xaS,xdi];by_cases hs:s<args.length
 ·simp[hs,List.getD]
 rw[xad hs,xcL];have:args.getD s undef=undef:=by simp[List.getD,xaF (xcM hs)]
 rw[this];split<;>rfl
theorem y3{f:FuncId}{fn:Func}{hn:Hn}{args:List zV}{H:Hp}{R:Ending->Hp->Prop}(hf:P.funcs[f]? =some fn)(h:LI P g fn hn args H R):aR P g f args.toArray H R:=by
 intro w hw;unfold LI at h;split at h<;>try exact h.elim
 rename_i c hc;cases hl:Nat.ble args.length fn.ntmps<;>simp only[hl,xaw,xam]at h;exact calls_of_wp_defers hf hc (Bb c hn [] _ H h [] .nil _ w (wj (xbY hl)) hw)
theorem yZ{f:FuncId}{fn:Func}{hn:Hn}{args:List zV}{H:Hp}{R:Ending->Hp->Prop}(hf:P.funcs[f]? =some fn)(h:Be P g fn hn args H R):gR P g f args.toArray H R:=by
 intro w hw u;unfold Be at h;split at h<;>try exact h.elim
 rename_i c hc;cases hl:Nat.ble args.length fn.ntmps<;>simp only[hl,xaw,xam]at h;refine callsD_of_wp hf hc (wp_mono (gY c hn _ _ H h _ w (wj (xbY hl)) hw) ?_);rintro e a' w' ⟨fr',H',cL,hw',_,hq⟩;cases e with
 |normal=>obtain⟨vs,hr,hk⟩:=e9 cL hw' hq;exact⟨cL.defers,_,hr,H',hw',hk⟩
 |ret=>obtain⟨vs,hr,hk⟩:=e9 cL hw' hq;exact⟨cL.defers,_,hr,H',hw',hk⟩
 |panic ch=>exact⟨cL.defers,H',hw',hq⟩
 |exit id=>exact hq.elim
 |goto l=>exact hq.elim
 |outgrown=>exact hq.elim
abbrev Jt:=List zV->Hp->Prop
abbrev Mt:=List zV->Hp->Nat
abbrev Rt:=Ending->Hp->Prop
abbrev Hn.n(a b:Hn):Hn:=.h 0 [] [] a b
theorem eo{f:FuncId}{fn:Func}{hn:Hn}{args:List zV}{H:Hp}{R:Rt}{L:Prop}(hf:P.funcs[f]? =some fn)(h:L)(e:Be P g fn hn args H R=L):aR P g f args.toArray H R:=Bd hf (e.mpr h)
theorem rF{f:FuncId}{fn:Func}{hn:Hn}{args:List zV}{H:Hp}{R:Rt}{L:Prop}(hf:P.funcs[f]? =some fn)(h:L)(e:LI P g fn hn args H R=L):aR P g f args.toArray H R:=y3 hf (e.mpr h)
theorem rG{f:FuncId}{fn:Func}{hn:Hn}{args:List zV}{H:Hp}{R:Rt}{L:Prop}(hf:P.funcs[f]? =some fn)(h:L)(e:Be P g fn hn args H R=L):gR P g f args.toArray H R:=yZ hf (e.mpr h)
end
end Go.Sx
namespace Go.Sx
open Go
section
variable {P:Program} {g:Gh} {H:Hp}
def ZL(P:Program)(f:FuncId)(args:Array zV)(C:Hp)(Q:zV->Hp->Prop):Prop:=∀g,gR P g f args C (aN Q)
theorem dL.fn{f:FuncId}{args:Array zV}{C H:Hp}{c:Hp->Hp}{Q:zV->Hp->Prop}{K:Hp->Prop}(hh:aU C H c)(hc:ZL P f args C Q)(hk:∀v C',Q v C'->K (c C')):dL P g f args H K:=by
 intro w hw u;obtain⟨rfl,F,hp⟩:=hh.spec;have hw':Own g (C++F) w:=aG.perm (hp C) g w hw;refine((hc (g.add F)) w (Own.dP.1 hw') u).mono ?_;rintro e u' w' ⟨rfl,H',ho,v,C',rfl,he,hq⟩;have h1:Own g (H'++F) w':=Own.dP.2 ho;have h2:Own g (c H') w':=aG.perm (hp H').symm g w' h1;exact⟨rfl,c C',hh.cS he g w' h2,⟨v,rfl⟩,hk _ _ hq⟩
end
end Go.Sx
namespace Go.Sx
open Go
section
variable {P:Program} {g:Gh}
def iJ(P:Program)(f:FuncId)(g:Gh)(args:Array zV)(u:FrameMode)(H:Hp)(K:Hp->Prop):Prop:=
 ∀w,Own g H w->CallsD P f args u w λe u' w'=>(∃v,e=.returned v)/\settle u'=.returning/\∃H',Own g H' w'/\K H'
def E8(P:Program)(g:Gh)(K:Hp->Prop):List tx->Hp->Prop
 | [],H=>K H
 |x::r,H=>iJ P x.f g x.l.toArray .returning H (E8 P g K r)
def Gv(P:Program)(g:Gh)(fn:Func)(R:Ending->Hp->Prop)(dl:List tx):Exit->Fr->Hp->Prop
 | .normal,fr,H=>E8 P g (λH'=>nx P fr H' fn.results.toList λvs=>R (.returned (rD vs)) H') dl H
 | .ret,fr,H=>E8 P g (λH'=>nx P fr H' fn.results.toList λvs=>R (.returned (rD vs)) H') dl H
 | .panic ch,fr,H=>match dl with
  | []=>R (.panicked ch) H
  |x::r=>iJ P x.f g x.l.toArray (.panicking ch) H (E8 P g (λH'=>nx P fr H' fn.results.toList λvs=>R (.returned (rD vs)) H') r)
 |_,_,_=>False
def wI(P:Program)(g:Gh)(n:Nat)(E:List tx->Exit->Fr->Hp->Prop):Code->(List tx->Fr->Hp->Prop)->List tx->Fr->Hp->Prop
 | .skip,k,dl,fr,H=>k dl fr H
 | .ret,_,dl,fr,H=>E dl .ret fr H
 | .seq x y,k,dl,fr,H=>wI P g n E x (wI P g n E y k) dl fr H
 | .cond c x y,k,dl,fr,H=>Br (ev fr c) (wI P g n E x k dl fr H) (wI P g n E y k dl fr H)
 | .region id ops draw,k,dl,fr,H=>
  cond draw False
  (match D6 (.region id ops false)with
  |some (_,o)=>cond (o.dst.isNone&&o.guard.isNone)
    (df P g n ops false (ops.toList.length+1) false none [] ops.toList.dropLast fr H (λ_ fr' H'=>Pm P o (ev fr') λd=>k (d::dl) fr' H') (λ_ _=>False)) False
  |none=>df P g n ops false (ops.toList.length+1) false none [] ops.toList fr H (λ_ fr' H'=>k dl fr' H') (λch H'=>∀gs,E dl (.panic ch) (pO ops.toList gs fr) H'))
 |_,_,_,_,_=>False
def LH(P:Program)(g:Gh)(fn:Func)(args:List zV)(H:Hp)(R:Ending->Hp->Prop):Prop:=
 match fn.body with
 |some c=>cond (Nat.ble args.length fn.ntmps) (wI P g fn.ntmps (Gv P g fn R) c (λdl fr H'=>Gv P g fn R dl .normal fr H') [] (eX args 0) H) False
 |none=>False
def kz(l:List Oper)(a a':Act):Prop:=∀s,aQ l s=false->a'.tmps.getD s undef=a.tmps.getD s undef
theorem kz.put{L:List Oper}{a0 a:Act}(h:kz L a0 a){o:Oper}(ho:∀s,aQ L s=false->aQ [({(default:Oper)with dst:=o.dst})] s=false)(v:zV):kz L a0 (a.put o.dst v):=by
 intro s hs;rw[<-h s hs];have:=ho s hs;cases hd:o.dst with
 |none=>rfl
 |some d=>
  rw[hd]at this;simp only[aQ,xdP]at this;have hne:d≠s:=λe=>by subst e;simp at this
  simp only[Act.put,xan,xbj hne]
theorem LetsOut.and{Q Q':Exit->Act->World->Prop}(hq:∀a w,Q .outgrown a w->Q' .outgrown a w)(h:LetsOut Q):LetsOut Q':=by
 obtain⟨a,w,h⟩:=h;exact⟨a,w,hq _ _ h⟩
theorem dh{ops:Array Oper}{Q:Exit->Act->World->Prop}{L:List Oper}{a0:Act}:∀(rest:List Oper),(∀s,aQ L s=false->aQ rest s=false)->∀(a:Act) (w:World),kz L a0 a->wpList P ops Q rest a w->
  wpList P ops (λe a' w'=>Q e a' w'/\(oq e=true->kz L a0 a')) rest a w
 | [],_,a,w,hs,h=>⟨h,λe=>by cases e⟩
 |o::r,hL,a,w,hs,h=>by
  have ho:∀s,aQ L s=false->aQ [({(default:Oper)with dst:=o.dst})] s=false:=λs h=>by
   have:=hL s h;rw[cu,xaD]at this;exact this.1
  have hr:∀s,aQ L s=false->aQ r s=false:=λs h=>by
   have:=hL s h;rw[cu,xaD]at this;exact this.2
  have hout:LetsOut Q->LetsOut (λe a' w'=>Q e a' w'/\(oq e=true->kz L a0 a')):=LetsOut.and λa w h=>⟨h,λe=>by cases e⟩;unfold wpList at h⊢;split at h<;>rename_i hw
  ·rw[xae hw];rcases h with h|⟨h1,h2⟩
   ·left;unfold Oper.wp at h⊢;generalize (execOp a.eval o).run P w=res at h⊢;cases res with
    |ok n w'=>
     cases n<;>simp only[Oper.upon]at h⊢ <;>first|exact h|skip
     case value v=>exact dh r hr _ _ (hs.put ho v) h
     case skip=>exact dh r hr _ _ (hs.put ho undef) h
     case defer d=>exact dh r hr _ _ (kz.put (a:={a with defers:=d::a.defers}) hs ho undef) h
     case enter f args=>
      refine h.mono λe w'' he=>?_;cases e with
      |returned v=>exact dh r hr _ _ (hs.put ho v) he
      |panicked ch=>exact⟨he,λ_=>hs⟩
      |outgrown=>exact hout he
     case row row args=>exact h.mono λv w'' he=>dh r hr _ _ (hs.put ho v) he
    |halt x w'=>
     cases x<;>simp only[Oper.upon]at h⊢ <;>first|exact⟨h,λ_=>hs⟩|exact h
   exact .inr ⟨h1,hout h2⟩
  rw[xad hw];exact dh r hr _ _ (hs.put ho undef) h
def VP(P:Program)(g:Gh)(n:Nat)(fn:Func)(R:Ending->Hp->Prop)(k:List tx->Fr->Hp->Prop):Exit->Act->World->Prop
 | .normal,a,w=>∃dl ds fr H,p7 P dl ds/\bD ds n a fr/\Own g H w/\k dl fr H
 |e,a,w=>∃dl ds fr H,p7 P dl ds/\bD ds n a fr/\Own g H w/\Gv P g fn R dl e fr H
theorem OJ{l:List Oper}{fr fr':Fr}(h:∀s,aQ l s=false->fr' s=fr s):pO l fr' fr=fr':=by
 funext s
 unfold pO;cases hb:aQ l s
 ·exact(h s hb).symm
 rfl
theorem Ba{n:Nat}{fn:Func}{R:Ending->Hp->Prop}:∀(c:Code) (k:List tx->Fr->Hp->Prop) (dl:List tx) (fr:Fr) (H:Hp),wI P g n (Gv P g fn R) c k dl fr H->∀(ds:List Deferred),p7 P dl ds->∀(a:Act) (w:World),bD ds n a fr->Own g H w->
  c.wp P (VP P g n fn R k) a w:=by
 intro c;induction c with
 |skip=>intro k dl fr H h ds hd a w ha hw;exact wp_skip ⟨dl,ds,fr,H,hd,ha,hw,h⟩
 |ret=>intro k dl fr H h ds hd a w ha hw;exact wp_ret ⟨dl,ds,fr,H,hd,ha,hw,h⟩
 |seq x y PS PR=>
  intro k dl fr H h ds hd a w ha hw;unfold wI at h;refine wp_seq (wp_mono (PS _ dl fr H h ds hd a w ha hw) ?_);rintro e a' w' hq;cases e with
  |normal=>
   obtain⟨dl',ds',fr',H',cV,cL,hw',hq⟩:=hq;exact PR _ dl' fr' H' hq ds' cV a' w' cL hw'
  |exit id=>exact hq
  |goto l=>exact hq
  |ret=>exact hq
  |panic ch=>exact hq
  |outgrown=>exact hq
 |cond c x y PS PR=>
  intro k dl fr H h ds hd a w ha hw;unfold wI at h;obtain⟨b,hb,ht,hf⟩:=h;exact wp_cond_split (t:=b) (by rw[ha.eval];exact hb) (λe=>PS _ dl fr H (ht e) ds hd a w ha hw) (λe=>PR _ dl fr H (hf e) ds hd a w ha hw)
 |region id ops draw=>
  intro k dl fr H h ds hd a w ha hw;unfold wI at h;cases draw<;>simp only[xaw,xam]at h;split at h
  ·rename_i ops' o hx;obtain⟨id',d,e1,hl,hop⟩:=sn hx;simp only[Code.region.injEq]at e1;obtain⟨rfl,rfl,_⟩:=e1;cases hc:(o.dst.isNone&&o.guard.isNone)<;>simp only[hc,xaw,xam]at h;simp only[xay,Option.isNone_iff_eq_none]at hc;refine wp_region_list ?_;rw[hl];refine bO _ _ _ _ _ fr H _ _ h trivial (fR.nil fr) a w ha hw [o] _ ?_ ?_
   ·intro a' w' mX fr' H' cL hw' _ _ hk;refine wpList_plain hc.2 λK hK=>?_;obtain⟨x,dd,hx,hok,hrun⟩:=zN hk;show o.upon P a' K _ ((execOp a'.eval o).run P w');rw[cL.eval,hrun];refine hK _ _ ?_;refine⟨x::dl,dd::ds,fr',H',.cons hok hd,?_,hw',hx⟩;rw[hc.1];exact⟨xbL _ cL.defers,cL.size,cL.get⟩
   intro ch a' w' fr' H' _ _ hk;exact hk.elim
  have h1:=bO (rest:=[]) _ _ _ _ _ fr H _ _ h trivial (fR.nil fr) a w ha hw (λe a' w'=>match e with
   | .normal=>∃fr' H',bD ds n a' fr'/\Own g H' w'/\k dl fr' H'
   | .panic ch=>∃fr' H',bD ds n a' fr'/\Own g H' w'/\∀gs,Gv P g fn R dl (.panic ch) (pO ops.toList gs fr) H'
   |_=>False) (λa' w' mX fr' H' cL hw' _ _ hk=>⟨fr',H',cL,hw',hk⟩) (λch a' w' fr' H' cL hw' hk=>⟨fr',H',cL,hw',hk⟩)
  rw[xaP]at h1;refine wp_mono (wp_region_list (dh (L:=ops.toList) (a0:=a) ops.toList (λs h=>h) a w (λs _=>rfl) h1)) ?_;rintro e a' w' ⟨hq,hs⟩;cases e with
  |normal=>
   obtain⟨fr',H',cL,hw',hk⟩:=hq;exact⟨dl,ds,fr',H',hd,cL,hw',hk⟩
  |panic ch=>
   obtain⟨fr',H',cL,hw',hk⟩:=hq;refine⟨dl,ds,fr',H',hd,cL,hw',?_⟩;have:=hk fr';rwa [OJ λs h=>by rw[<-cL.get,<-ha.get];exact hs rfl s h]at this
  |exit id=>exact hq.elim
  |goto l=>exact hq.elim
  |ret=>exact hq.elim
  |outgrown=>exact hq.elim
 |_=>intro k dl fr H h;exact h.elim
theorem iJ.cons{x:tx}{d:Deferred}{ds:List Deferred}{fn:Func}{tmps:Array zV}{u:FrameMode}{H:Hp}{w:World}{K:Hp->Prop}{R:Ending->World->Prop}(hu:u≠.run)(hd:ZN P x d)(hw:Own g H w)(h:iJ P x.f g x.l.toArray u H K)
 (hk:∀H' w',Own g H' w'->K H'->Leaves P fn tmps R ds .returning w'):Leaves P fn tmps R (d::ds) u w:=by
 obtain⟨cap,args,rfl,ha,hc⟩:=hd;refine leaves_cons hu ?_ ((h w hw).mono ?_)
 ·show(callFunc _ (args++cap)).run P w=_;rw[ha];exact dn hc _ w
 rintro e u' w' ⟨⟨v,rfl⟩,tE,H',ho,hk'⟩;show Leaves _ _ _ _ _ (settle u') w';rw[tE];exact hk _ _ ho hk'
theorem qd{fn:Func}{tmps:Array zV}{K:Hp->Prop}{R:Ending->World->Prop}(hK:∀H w,Own g H w->K H->∃v,(results fn tmps).run P w=.ok v w/\R (.returned v) w):
  ∀{dl:List tx} {ds:List Deferred},p7 P dl ds->∀H w,Own g H w->E8 P g K dl H->Leaves P fn tmps R ds .returning w
 |_,_,.nil,H,w,hw,h=>hK H w hw h
 |_,_,.cons hx hr,H,w,hw,h=>iJ.cons zI hx hw h λH' w' ho hk=>qd hK hr H' w' ho hk
theorem nJ{fn:Func}{R:Ending->Hp->Prop}{n:Nat}{dl:List tx}{ds:List Deferred}(hd:p7 P dl ds){e:Exit}{fr:Fr}{H:Hp}{a:Act}{w:World}(ha:bD ds n a fr)(hw:Own g H w)(h:Gv P g fn R dl e fr H):
  bodyPostD P fn (λe w'=>∃H',Own g H' w'/\R e H') e a w:=by
 have fin:∀{dl ds H w},p7 P dl ds->Own g H w->E8 P g (λH'=>nx P fr H' fn.results.toList λvs=>R (.returned (rD vs)) H') dl H->Leaves P fn a.tmps (λe w'=>∃H',Own g H' w'/\R e H') ds .returning w:=λhd hw h=>by
  exact qd (λH w hw h=>by
   obtain⟨vs,hr,hk⟩:=e9 ha hw h;exact⟨_,hr,H,hw,hk⟩) hd _ _ hw h
 cases e with
 |normal=>show Leaves _ _ _ _ a.defers _ _;rw[ha.defers];exact fin hd hw h
 |ret=>show Leaves _ _ _ _ a.defers _ _;rw[ha.defers];exact fin hd hw h
 |panic ch=>
  show Leaves _ _ _ _ a.defers _ _;rw[ha.defers];cases hd with
  |nil=>exact⟨H,hw,h⟩
  |cons hx hr=>exact iJ.cons zI hx hw h λH' w' ho hk=>fin hr ho hk
 |exit id=>exact h.elim
 |goto l=>exact h.elim
 |outgrown=>exact h.elim
theorem y2{f:FuncId}{fn:Func}{args:List zV}{H:Hp}{R:Ending->Hp->Prop}(hf:P.funcs[f]? =some fn)(h:LH P g fn args H R):aR P g f args.toArray H R:=by
 intro w hw;unfold LH at h;split at h<;>try exact h.elim
 rename_i c hc;cases hl:Nat.ble args.length fn.ntmps<;>simp only[hl,xaw,xam]at h;refine calls_of_wp_defers hf hc (wp_mono (Ba c _ [] _ H h [] .nil _ w (wj (xbY hl)) hw) ?_);intro e a' w' hq;cases e with
 |normal=>obtain⟨dl,ds,fr,H',hd,ha,ho,hk⟩:=hq;exact nJ (e:=.normal) hd ha ho hk
 |ret=>obtain⟨dl,ds,fr,H',hd,ha,ho,hk⟩:=hq;exact nJ (e:=.ret) hd ha ho hk
 |panic ch=>obtain⟨dl,ds,fr,H',hd,ha,ho,hk⟩:=hq;exact nJ (e:=.panic ch) hd ha ho hk
 |exit id=>obtain⟨dl,ds,fr,H',hd,ha,ho,hk⟩:=hq;exact hk.elim
 |goto l=>obtain⟨dl,ds,fr,H',hd,ha,ho,hk⟩:=hq;exact hk.elim
 |outgrown=>obtain⟨dl,ds,fr,H',hd,ha,ho,hk⟩:=hq;exact hk.elim
theorem Jc{f:FuncId}{fn:Func}{args:List zV}{H:Hp}{R:Rt}{L:Prop}(hf:P.funcs[f]? =some fn)(h:L)(e:LH P g fn args H R=L):aR P g f args.toArray H R:=y2 hf (e.mpr h)
theorem iJ.rec{f:FuncId}{fn:Func}{id d0 d1:Nat}{o0 o1:Oper}{rest:Code}{hn:Hn}{args:List zV}{u u':FrameMode}{v:zV}{H:Hp}{K:Hp->Prop}(hf:P.funcs[f]? =some fn)(hb:fn.body=some (.seq (.region id #[o0,o1] false) rest))
 (h0:o0.op=.call ⟨.builtin .recover,#[],#[]⟩)(g0:o0.guard=none)(e0:o0.dst=some d0)(h1:o1.op=.assign (.tmp d0))(g1:o1.guard=none)(e1:o1.dst=some d1)(hr:fn.results=#[])
 (hl:Nat.ble args.length fn.ntmps=true)(b0:Nat.blt d0 fn.ntmps=true)(b1:Nat.blt d1 fn.ntmps=true)
 (hu:(u=.returning/\v=.nilIface/\u'=.returning)\/(u=.panicking [{v,recovered:=false}]/\u'=.panicking [{v,recovered:=true}]))
 (h:den P g fn.ntmps rest hn (λe _ H'=>match e with| .normal=>K H'| .ret=>K H'|_=>False) (bJ (bJ (eX args 0) (some d0) v) (some d1) v) H):iJ P f g args.toArray u H K:=by
 intro w hw;have hs:settle u'=.returning:=by
  rcases hu with⟨_,_,rfl⟩|⟨_,rfl⟩<;>rfl
 refine callsD_of_wpS (R:=λe u' w'=>(∃v,e=.returned v)/\settle u'=.returning/\∃H',Own g H' w'/\K H') hf hb λc₀ cs hc=>?_;refine wpS_seq (wpS_region ?_);have FV:(match recoverD (c₀::cs)with|some (v',cs')=>(v',cs')|none=>(.nilIface,c₀::cs))=(v,{c₀ with mode:=u'}::cs):=by
  rcases hu with⟨h1,rfl,rfl⟩|⟨h1,rfl⟩
  ·rw[h1]at hc;unfold recoverD;simp only[hc];rw[<-hc]
  rw[h1]at hc;unfold recoverD;simp only[hc]
 have hA:=wj (args:=args) (m:=fn.ntmps) (xbY hl);have Rn:∀t,Region.wanted o0 t=true:=λt=>by unfold Region.wanted;rw[g0]
 have gD:∀t,Region.wanted o1 t=true:=λt=>by unfold Region.wanted;rw[g1]
 have key:wpOpsS P #[o0,o1] (Exit.thenS (rest.wpS P (bodyPostS P fn c₀ cs λe u' w'=>(∃v,e=.returned v)/\settle u'=.returning/\∃H',Own g H' w'/\K H')) (bodyPostS P fn c₀ cs λe u' w'=>(∃v,e=.returned v)/\settle u'=.returning/\∃H',Own g H' w'/\K H')) [0,1]
   {tmps:=args.toArray++Array.replicate (fn.ntmps-args.toArray.size) undef,defers:=[]} (c₀::cs) w:=by
  generalize Zh:({tmps:=args.toArray++Array.replicate (fn.ntmps-args.toArray.size) undef,defers:=[]}:Act)=A0 at hA⊢;have a1:bD [] fn.ntmps (A0.put o0.dst v) (bJ (eX args 0) (some d0) v):=by rw[e0];exact hA.put (d:=some d0) (by simpa[c6]using b0) v
  have a2:bD [] fn.ntmps ((A0.put o0.dst v).put o1.dst v) (bJ (bJ (eX args 0) (some d0) v) (some d1) v):=by rw[e1];exact a1.put (d:=some d1) (by simpa[c6]using b1) v
  have Ps:wpOpsS P #[o0,o1] (Exit.thenS (rest.wpS P (bodyPostS P fn c₀ cs λe u' w'=>(∃v,e=.returned v)/\settle u'=.returning/\∃H',Own g H' w'/\K H')) (bodyPostS P fn c₀ cs λe u' w'=>(∃v,e=.returned v)/\settle u'=.returning/\∃H',Own g H' w'/\K H')) [1] (A0.put o0.dst v) ({c₀ with mode:=u'}::cs) w:=by
   simp only[wpOpsS,xcd,List.getElem?_cons_succ,xbR,gD,xa0];have hx:execOp (A0.put o0.dst v).eval o1=pure (.value v):=by
    rw[a1.eval];simp only[execOp,h1,ev];simp[bJ]
   rw[hx];simp only[Sem.run_pure,Oper.upon];refine wpS_of_wp (wp_mono (gY rest hn _ _ H h _ w a2 hw) ?_);rintro e a' w' ⟨fr',H',cL,hw',_,hq⟩;cases e with
   |normal=>
    refine⟨cL.defers,u',rfl,.tuple #[],?_,⟨_,rfl⟩,hs,H',hw',hq⟩;simp[results,hr]
   |ret=>
    refine⟨cL.defers,u',rfl,.tuple #[],?_,⟨_,rfl⟩,hs,H',hw',hq⟩;simp[results,hr]
   |exit id=>exact hq.elim
   |goto l=>exact hq.elim
   |panic ch=>exact hq.elim
   |outgrown=>exact hq.elim
  unfold wpOpsS;simp only[xcd,xbR,Rn,xa0];have hx:execOp A0.eval o0=pure .recover:=by
   simp[execOp,h0,resolve,invoke,builtin]
  rw[hx];simp only[Sem.run_pure];cases hq:recoverD (c₀::cs)with
  |none=>
   rw[hq]at FV;simp only[xcR]at FV;obtain⟨rfl,hcs⟩:=FV;simp only;rw[hcs];exact Ps
  |some p=>
   obtain⟨v',cs'⟩:=p;rw[hq]at FV;simp only[xcR]at FV;obtain⟨rfl,rfl⟩:=FV;exact Ps
 exact key
end
end Go.Sx
set_option maxRecDepth 100000
namespace Go.Proofs
open Go Go.Sx Tryz
variable {g:Gh} {a0 a1 a2 a3 a4 a5 a6 a7 a8 a9 qy qx Tl Tk Tj Ti:zV} {H:Hp} {R:Rt}
abbrev pt(b:Nat):zV:=.pointer (some ⟨b,0,none⟩)
noncomputable abbrev zQ:=Tryz.prog
abbrev CF:=aa Tryz.prog
abbrev iv(n:Int):zV:=.int .i64 n
abbrev ui(n:Int):zV:=.int .u32 n
abbrev wi(n:Int):zV:=.int .u64 n
abbrev bi(n:Int):zV:=.int .u8 n
abbrev vT:zV:=.bool true
abbrev vF:zV:=.bool false
abbrev lE:=ae .num .eql
abbrev lN:=ae .num .neq
abbrev lL:=ae .num .lss
abbrev lG:=ae .num .gtr
abbrev lA:=ae .num .add
abbrev lS:=ae .num .sub
abbrev lD(n:Nat)(p:zV)(H:Hp)(k:zV->Prop):Prop:=ah n p λv=>Ld H v k
abbrev lM(n:Nat)(p:zV)(H:Hp)(k:zV->Prop):Prop:=Nil p λq=>ah n q λv=>Ld H v k
abbrev lI(e:Nat)(p i:zV)(H:Hp)(k:zV->Prop):Prop:=aj e p i λv=>Ld H v k
abbrev lX(v:zV)(k:zV->zV->Prop):Prop:=Ext 0 v λx=>Ext 1 v λy=>k x y
abbrev rt(R:Rt)(v:zV)(H:Hp):Prop:=R (.returned v) H
abbrev tP(a b:zV):zV:=.tuple #[a,b]
abbrev lW(H:Hp)(c:Array zV)(t:Nat)(k:Nat->Hp->Prop):Prop:=By H (.cells c t zZ) k
abbrev lO(a:zV)(i:Bool->Prop)(k:Bool->Prop):Prop:=dr a false i (λt=>vT=Value.bool t) λt=>∀_:Fr,k t
abbrev lU(a:zV)(i:Bool->Prop)(k:Bool->Prop):Prop:=dr a true i (λt=>vF=Value.bool t) λt=>∀_:Fr,k t
abbrev lV(H:Hp)(v:zV)(t:Bool):Prop:=H=H/\v=Value.bool t
abbrev lC(n:Nat)(p:zV)(k:zV->Prop):Prop:=Nil p λq=>ah n q k
abbrev lQ(n:Nat)(H:Hp)(c:Array zV)(t:Nat)(v:zV)(k:Nat->Hp->Prop):Prop:=By H (.cells c t zZ) λb H=>St n H (pt b) v λH=>k b H
abbrev sc:=aR Tryz.prog
theorem sd{g:Gh}{f:FuncId}{fn:Func}(hn:Hn){args:List zV}{H:Hp}{R:Rt}{L:Prop}(hf:Tryz.prog.funcs[f]? =some fn)(h:L)(e:Be Tryz.prog g fn hn args H R=L:=by kernel_rfl):sc g f args.toArray H R:=eo hf h e
abbrev Y0:=Gh->Hp->Rt->Prop
abbrev Y1:=Gh->zV->Hp->Rt->Prop
abbrev Y2:=Gh->zV->zV->Hp->Rt->Prop
abbrev Y3:=Gh->zV->zV->zV->Hp->Rt->Prop
abbrev Y4:=Gh->zV->zV->zV->zV->Hp->Rt->Prop
abbrev Y5:=Gh->zV->zV->zV->zV->zV->Hp->Rt->Prop
abbrev CR(R:Rt)(g:Gh)(f:Nat)(a:Array zV)(H:Hp)(K:zV->Hp->Prop):Prop:=aa Tryz.prog g f a H K (cK R)
abbrev CN(g:Gh)(f:Nat)(a:Array zV)(H:Hp)(K:zV->Hp->Prop):Prop:=aa Tryz.prog g f a H K iE
abbrev lK(H:Hp)(v:zV)(t:Nat)(k:Nat->Hp->Prop):Prop:=By H (.cells (Value.cells v) t zZ) k
abbrev i0:zV:=iv 0
abbrev i1:zV:=iv 1
abbrev oG:=ae .num .geq
abbrev oA:=ae .num .and
abbrev oR:=ae .num .shr
abbrev oL:=ae .num .shl
abbrev oO:=ae .num .or
abbrev oQ:=ae .num .leq
abbrev oM:=ae .num .mul
abbrev oP(a:zV)(k:zV->Prop):Prop:=ae .ptr .eql a (.pointer none) k
abbrev jA(A:Hp->Prop)(B:Jt->Prop):Prop:=∀J:Jt,(∀H,(∀_:Fr,A H)->J [] H)->B J
abbrev jB(A:zV->Hp->Prop)(B:Jt->Prop):Prop:=∀J:Jt,(∀w H,(∀_:Fr,A w H)->J [w] H)->B J
abbrev jC(A:zV->zV->Hp->Prop)(B:Jt->Prop):Prop:=∀J:Jt,(∀w x H,(∀_:Fr,A w x H)->J [w,x] H)->B J
abbrev yA(l:List zV)(H:Hp)(K:Jt->Mt->zV->Hp->Prop):Prop:=∃(I:Jt) (m:Mt),JE I l H/\∀w H,I [w] H->∀_:Fr,K I m w H
abbrev yB(l:List zV)(H:Hp)(K:Jt->Mt->zV->zV->Hp->Prop):Prop:=∃(I:Jt) (m:Mt),JE I l H/\∀w x H,I [w,x] H->∀_:Fr,K I m w x H
abbrev nC:Array zV:=#[i0,ui 0,ui 0]
abbrev sZ:zV:=.slice none 0 0
abbrev qA(L:Y0)(f:Nat):Prop:=∀{g H R},L g H R->sc g f #[] H R
abbrev qB(L:Y1)(f:Nat):Prop:=∀{g a H R},L g a H R->sc g f #[a] H R
abbrev qC(L:Y2)(f:Nat):Prop:=∀{g a b H R},L g a b H R->sc g f #[a,b] H R
abbrev qD(L:Y3)(f:Nat):Prop:=∀{g a b c H R},L g a b c H R->sc g f #[a,b,c] H R
abbrev qE(L:Y4)(f:Nat):Prop:=∀{g a b c d H R},L g a b c d H R->sc g f #[a,b,c,d] H R
abbrev qF(L:Y5)(f:Nat):Prop:=∀{g a b c d e H R},L g a b c d e H R->sc g f #[a,b,c,d,e] H R
def hr(m:Nat)(T:zL):Nat->Nat->Hn->Hn
 |_,0,x=>x
 |i,k+1,x=>.h m [i] T (hr m T (i+1) k x) .e
def hN:Nat->Hn->Hn
 |0,x=>x
 |k+1,x=>.n .e (hN k x)
def zA(x:Hn):Hn:=.n .e x
def zB(x:Hn):Hn:=.n x .e
def zE(m:Nat)(A T:zL)(x:Hn):Hn:=.h m A T x .e
def zF(m:Nat)(A T:zL):Hn:=.h m A T .e .e
def yR:Nat->zL:=List.range
def L3:Y5:=λa b c d e f g h=>aO .i64 b λb=>ae .num .rem b (iv 6) λb=>lA i1 b λb=>CR h a 4 #[b,c] g λc g=>oP c λi=>Br i (rt h vF g) (CR h a 5 #[c,d] g λd g=>lX d λd i=>lQ 2 g #[i0,sZ] 30 i λg i=>lM 0 c i λj=>CR h a 6 #[j,d] i λi j=>lX i λi k=>DR j λl=>lM 0 c l λm=>CN a 8 #[b,e] j λe j=>aG j l/\
CN a 7 #[m,e] j λe j=>aG j l/\
lX e λ_ e=>lM 0 c j λl=>CR h a 9 #[l,i] j λj l=>lX j λm n=>Ext 2 j λj=>CR h a 10 #[b,i] l λi l=>lX i λo _=>Ext 2 i λi=>lQ 2 l #[i0,sZ] 30 o λl o=>jB (λp q=>Br p (rt h vF q) (CR h a 10 #[b,f] q λb p=>lX b λq r=>Ext 2 b λb=>lQ 2 p #[i0,sZ] 30 q λp q=>lM 0 c q λs=>CR h a 9 #[s,f] q λf q=>lX f λs t=>Ext 2 f λf=>lN b f λu=>lO u (λu=>lN r t λr=>dr r true (λr=>lN b i0 λt=>(lV q t r)) (λr=>vF=Value.bool r) λr=>∀_:Fr,
(lV q (Value.bool r) u)) λu=>Br (Value.bool u) (lE f (iv 9) λr=>lU r (λr=>lE b i0 λb=>(lV q b r)) λr=>rt h (Value.bool r) q) (lN f i0 λb=>Br b (lE s (ui 0) λb=>rt h b q) (lM 0 c q λb=>CR h a 12 #[b,s] q λb c=>lX b λb f=>lQ 2 c #[i0,sZ] 30 b λb c=>jB (λq r=>rt h q r) λq=>lE f i0 λf=>Split f true (av 2 c (pt b) λb=>av 2 c (pt p) λf=>CR h a 11 #[b,f] c λb f=>aB vT b vF λb=>JE q [b] f) (aB vF undef vF λb=>JE q [b] c))))) λb=>lN k i0 λc=>Split c false (lN e i0 λc=>aB vF vT c λc=>Split c false (lN j i0 λc=>aB vF vT c λc=>Split c false (lN i i0 λc=>aB vF vT c λc=>Split c false (lN n i0 λc=>aB vF vT c λc=>Split c false (lN m d λc=>aB vF vT c λc=>Split c false (av 2 o (pt l) λc=>av 2 o (pt g) λd=>CR h a 11 #[c,d] o λa c=>Un .not a λa=>aB vF vT a λa=>JE b [a] c) (aB vT vT undef λa=>JE b [a] o)) (aB vT vT undef λa=>aB a vT undef λa=>JE b [a] o)) (aB vT vT undef λa=>aB a vT undef λa=>aB a vT undef λa=>JE b [a] o)) (aB vT vT undef λa=>aB a vT undef λa=>aB a vT undef λa=>aB a vT undef λa=>JE b [a] o)) (aB vT vT undef λa=>aB a vT undef λa=>aB a vT undef λa=>aB a vT undef λa=>aB a vT undef λa=>JE b [a] o)) (aB vT vT undef λa=>aB a vT undef λa=>aB a vT undef λa=>aB a vT undef λa=>aB a vT undef λa=>aB a vT undef λa=>JE b [a] o))
theorem Mw:qF L3 3:=λh=>sd (hN 6 (.n (zF 0 (yR 13) []) (zA (zA (.n (zF 1 [113] [4,11,12]) (zA (zA (.n (.n (zF 0 [] [1]) (zB (zB (zF 0 [] [1])))) (zA (zA (zF 1 [10] []))))))))))) func3 h
def L4:Y2:=λa b c d e=>CR e a 13 #[b,(iv 4000)] d λd f=>oP d λg=>Br g (rt e (.pointer none) f) (yA [i0] f λf g h i=>lL h b λj=>Br j (aO .u8 h λj=>Build Tryz.prog 57 [(0,(bi 0)),(1,j)] λj=>CR e a 14 #[d,j] i λj k=>Un .not j λj=>Br j (rt e (.pointer none) k) (lA h i1 λj=>az f g [j] k [h] i)) (lM 2 d i λf=>aX f λf=>lN f b λb=>Br b (rt e (.pointer none) i) (yA [i0] i λb f g h=>aX c λi=>lL g i λi=>lU i (λi=>lL g (iv 30) λj=>(lV h j i)) λi=>Br (Value.bool i) (aj 6 c g λc=>av 6 h c λc=>CR e a 14 #[d,c] h λa c=>Un .not a λa=>Br a (rt e (.pointer none) c) (lA g i1 λa=>az b f [a] c [g] h)) (rt e d h))))
theorem Mv:qC L4 4:=λh=>sd (hN 3 (.n (zA (zB (zF 0 [6] [0,1,5]))) (zA (zB (zA (zB (zE 0 [7] [1,5] (zB (zB (zF 0 [] [1])))))))))) func4 h
def L5:Y2:=λa b c d e=>lW d #[i0,sZ] 30 λd f=>aO .i64 c λc=>lM 2 b f λg=>aX g λg=>lA g (iv 2) λg=>ae .num .rem c g λc=>lL c (iv 2) λg=>Br g (lM 1 b f λg=>lE c i1 λh=>CR e a 15 #[g,h] f λa g=>lX a λa _=>lQ 2 g #[i0,sZ] 30 a λa g=>DR g λh=>aO .u32 c λi=>av 2 h (pt a) λa=>St 2 g (pt d) a λa=>av 2 a (pt d) λg=>rt e (tP i g) a) (DR f λa=>lM 2 b a λg=>lS c (iv 2) λh=>lI 1 g h a λg=>lM 3 b a λb=>lS c (iv 2) λc=>aj 2 b c λb=>av 2 a b λa=>St 2 f (pt d) a λa=>av 2 a (pt d) λb=>rt e (tP g b) a)
theorem zw:qC L5 5:=λh=>sd (zA (zA (.n (zA (zB (zA (zB (zF 0 (yR 5) []))))) (zB (zF 0 (yR 18) []))))) func5 h
def L6:Y2:=λa b c d e=>lW d #[(.string (ByteArray.mk #[]))] 9 λd f=>lW f #[i0] 33 λf g=>oP b λh=>Br h (St 1 g (pt d) (.string (ByteArray.mk #[])) λh=>St 1 h (pt f) (iv 10) λh=>Ld h (pt d) λi=>Ld h (pt f) λj=>rt e (tP i j) h) (CF a 16 #[b,c] g (λg h=>lX g λg i=>lQ 3 h nC 60 g λ_ g=>lN i i0 λh=>Br h (St 1 g (pt d) (.string (ByteArray.mk #[])) λh=>St 1 h (pt f) i λh=>Ld h (pt d) λi=>Ld h (pt f) λj=>rt e (tP i j) h) (lW g #[(.pointer none),sZ] 68 λg h=>CF a 18 #[b,(pt g),c] h (λ_ b=>CF a 19 #[(pt g)] b (λb c=>lG b (iv 65536) λb=>Br b (St 1 c (pt d) (.string (ByteArray.mk #[])) λb=>St 1 b (pt f) (iv 13) λb=>iJ Tryz.prog 17 a #[(pt d),(pt f)] .returning b λb=>Ld b (pt d) λh=>Ld b (pt f) λi=>rt e (tP h i) b) (CF a 20 #[(pt g)] c (λb c=>St 1 c (pt d) b λb=>St 1 b (pt f) i0 λb=>iJ Tryz.prog 17 a #[(pt d),(pt f)] .returning b λb=>Ld b (pt d) λc=>Ld b (pt f) λg=>rt e (tP c g) b) (λb c=>∀_:Fr,iJ Tryz.prog 17 a #[(pt d),(pt f)] (.panicking b) c λb=>Ld b (pt d) λc=>Ld b (pt f) λg=>rt e (tP c g) b))) (λb c=>∀_:Fr,iJ Tryz.prog 17 a #[(pt d),(pt f)] (.panicking b) c λb=>Ld b (pt d) λc=>Ld b (pt f) λg=>rt e (tP c g) b)) (λb c=>∀_:Fr,iJ Tryz.prog 17 a #[(pt d),(pt f)] (.panicking b) c λa=>Ld a (pt d) λb=>Ld a (pt f) λc=>rt e (tP b c) a))) (λa b=>∀_:Fr,e (.panicked a) b))
theorem Mu(h:L6 g a0 a1 H R):sc g 6 #[a0,a1] H R:=
 Jc func6 h zK
def L7:Y2:=λa b c d e=>oP b λf=>Br f (rt e (tP i0 (iv 10)) d) (jB (λf g=>Br f (rt e (tP i0 (iv 4)) g) (CR e a 24 #[b] g λf g=>CR e a 23 #[f,c] g λf g=>lX f λf h=>lN h i0 λi=>Br i (rt e (tP i0 h) g) (CR e a 25 #[b,f] g λf g=>lX f λf h=>rt e (tP f h) g))) λf=>CR e a 21 #[c] d λd g=>lN d i0 λd=>Split d false (aX c λc=>CR e a 22 #[b] g λa b=>lN c a λa=>aB vF vT a λa=>JE f [a] b) (aB vT vT undef λa=>JE f [a] g))
theorem Ms:qC L7 7:=λh=>sd (zA (zA (zB (zF 1 [19] [0,1])))) func7 h
def L8:Y2:=λ_ a b c d=>yB [sZ,i0] c λc e f g h=>lL g a λi=>Br i (ai Tryz.prog 43 1 [(0,g)] h λi j=>App Tryz.prog 3 1 8 i0 j f i λi j=>lA g i1 λk=>az c e [i,k] j [f,g] h) (∃(c:Jt) (e:Mt),JE c [f,sZ,i0] h/\∀f g h:zV,∀i:Hp,c [f,g,h] i->∀_:Fr,
lL h a λa=>Br a (jB (λa j=>lI 1 f a j λk=>ai Tryz.prog 43 1 [(0,k)] j λj k=>App Tryz.prog 3 1 8 i0 k g j λj k=>aX f λl=>lS l i1 λl=>lI 1 f l k λl=>aj 1 f a λa=>St 1 k a l λa=>aX f λk=>lS k i1 λk=>dD 1 f none (some k) λk=>lA h i1 λl=>az c e [k,j,l] a [f,g,h] i) λa=>aX b λc=>lL h c λc=>Br c (lI 1 b h i λb=>aO .i64 b λb=>aX f λc=>ae .num .rem b c λb=>JE a [b] i) (JE a [i0] i)) (rt d g i))
theorem Mr:qC L8 8:=λh=>sd (zA (zA (.n (zA (zB (zF 0 [5,6] [0,1]))) (zA (zB (zA (zB (zE 0 [5,7,8] [0,1] (zA (zB (zB (zA (zF 1 [9] [0,1,5,7,8]))))))))))))) func8 h
def L9:Y2:=λa b c d e=>oP b λf=>Br f (rt e (.tuple #[(ui 0),i0,(iv 10)]) d) (CR e a 22 #[b] d λd f=>CR e a 26 #[c,d] f λc d=>lX c λf g=>Ext 2 c λc=>lN c i0 λh=>Br h (rt e (.tuple #[(ui 0),g,c]) d) (CR e a 27 #[b,f] d λa b=>lX a λa c=>rt e (.tuple #[a,i0,c]) b))
theorem Mq:qC L9 9:=λh=>sd .e func9 h
def L10:Y2:=λa b c d e=>lW d #[i0,sZ] 30 λd f=>lL b i0 λg=>Br g (Build Tryz.prog 30 [] λg=>St 2 f (pt d) g λg=>av 2 g (pt d) λh=>rt e (.tuple #[h,i0,i1]) g) (lG b (iv 16) λg=>Br g (Build Tryz.prog 30 [] λg=>St 2 f (pt d) g λg=>av 2 g (pt d) λh=>rt e (.tuple #[h,i0,(iv 6)]) g) (CR e a 26 #[c,b] f λc f=>lX c λg h=>Ext 2 c λc=>lN c i0 λi=>Br i (Build Tryz.prog 30 [] λi=>St 2 f (pt d) i λi=>av 2 i (pt d) λj=>rt e (.tuple #[j,h,c]) i) (CR e a 28 #[b,g] f λa b=>St 2 b (pt d) a λa=>av 2 a (pt d) λb=>rt e (.tuple #[b,i0,i0]) a)))
theorem Ik:qC L10 10:=λh=>sd .e func10 h
def L11:Y2:=λ_ a b c d=>lK c a 30 λa c=>lK c b 30 λb c=>lD 0 (pt a) c λe=>lD 0 (pt b) c λf=>lN e f λe=>lO e (λe=>lD 1 (pt a) c λf=>aX f λf=>lD 1 (pt b) c λg=>aX g λg=>lN f g λf=>(lV c f e)) λe=>Br (Value.bool e) (rt d vF c) (yA [i0] c λc e f g=>lD 1 (pt a) g λh=>aX h λh=>lL f h λh=>Br h (lD 1 (pt a) g λa=>lI 1 a f g λa=>lD 1 (pt b) g λb=>lI 1 b f g λb=>lN a b λa=>Br a (rt d vF g) (lA f i1 λa=>az c e [a] g [f] g)) (rt d vT g))
theorem Ij:qC L11 11:=λh=>sd (zA (.n (zB (zF 0 [] [1])) (zB (zA (zB (zF 0 [5] [2,3])))))) func11 h
def L12:Y2:=λa b c d e=>lW d #[i0,sZ] 30 λd f=>ai Tryz.prog 37 1 [(0,c)] f λf g=>CR e a 29 #[b,f] g λf g=>lN f i0 λh=>Br h (Build Tryz.prog 30 [] λh=>St 2 g (pt d) h λh=>av 2 h (pt d) λi=>rt e (tP i f) h) (CR e a 22 #[b] g λf g=>lQ 1 g #[i0] 3 f λf g=>Ld g (pt f) λh=>lG h (iv 16) λh=>Br h (Build Tryz.prog 30 [] λh=>St 2 g (pt d) h λh=>av 2 h (pt d) λi=>rt e (tP i (iv 6)) h) (Ld g (pt f) λh=>CR e a 15 #[h,vF] g λg h=>lX g λg _=>lQ 2 h #[i0,sZ] 30 g λg h=>Ld h (pt f) λi=>CR e a 15 #[i,vT] h λh i=>lX h λh _=>lQ 2 i #[i0,sZ] 30 h λh i=>av 2 i (pt g) λg=>av 2 i (pt h) λh=>CR e a 30 #[b,c,g,h,(.func (.func 31) #[] #[(pt f)])] i λa b=>St 2 b (pt d) a λa=>av 2 a (pt d) λb=>rt e (tP b i0) a))
theorem Ii:qC L12 12:=λh=>sd .e func12 h
def L13:Y2:=λa b c d e=>CR e a 34 #[b,c] d λd f=>lX d λd g=>jB (λh i=>Br h (rt e (.pointer none) i) (Build Tryz.prog 40 [(0,d),(1,b)] λh=>lK i h 40 λh i=>rt e (pt h) i)) λh=>lN g i0 λg=>Split g false (oP d λg=>aB vF vT g λg=>Split g false (CR e a 22 #[d] f λg i=>lN g b λb=>aB vF vT b λb=>Split b false (CR e a 35 #[d] i λb g=>lN b c λb=>aB vF vT b λb=>Split b false (CR e a 36 #[d] g λa b=>lN a i0 λa=>aB vF vT a λa=>JE h [a] b) (aB vT vT undef λa=>JE h [a] g)) (aB vT vT undef λa=>aB a vT undef λa=>JE h [a] i)) (aB vT vT undef λa=>aB a vT undef λa=>aB a vT undef λa=>JE h [a] f)) (aB vT vT undef λa=>aB a vT undef λa=>aB a vT undef λa=>aB a vT undef λa=>JE h [a] f)
theorem Ih:qC L13 13:=λh=>sd (zA (zA (zB (zF 1 [35] [0,5])))) func13 h
def L14:Y2:=λa b c d e=>lK d c 57 λc d=>lD 2 (pt c) d λf=>CR e a 5 #[b,f] d λd f=>lX d λd g=>lQ 2 f #[i0,sZ] 30 g λf g=>lD 3 (pt c) g λh=>CR e a 5 #[b,h] g λg h=>lX g λg i=>lQ 2 h #[i0,sZ] 30 i λh i=>lD 4 (pt c) i λj=>CR e a 5 #[b,j] i λi j=>lX i λi k=>lQ 2 j #[i0,sZ] 30 k λj k=>av 6 k (pt c) λl=>av 2 k (pt f) λf=>av 2 k (pt h) λh=>av 2 k (pt j) λj=>CR e a 37 #[b,l,f,h,j] k λf h=>lX f λf j=>lQ 2 h #[i0,sZ] 30 f λf h=>av 6 h (pt c) λk=>CR e a 38 #[b,k,d,g,i] h λd g=>lX d λd h=>lN j i0 λi=>Br i (rt e vF g) (DR g λi=>av 2 i (pt f) λj=>lM 0 b i λk=>ai Tryz.prog 38 1 [(0,j)] g λg j=>aG j i/\
CN a 39 #[b,g] j λg j=>aG j i/\
lA g (iv 2) λg=>CN a 35 #[k] j λj k=>aG k i/\
oQ g j λg=>lE h (iv 9) λi=>Br i (lE d (ui 0) λi=>lU i (λi=>Un .not g λj=>dr j false (λj=>lD 0 (pt c) k λc=>ae .num .rem c (bi 9) λc=>lE c (bi 8) λc=>(lV k c j)) (λj=>vT=Value.bool j) λj=>∀_:Fr,
(lV k (Value.bool j) i)) λi=>rt e (Value.bool i) k) (lN h i0 λc=>lO c (λc=>Un .not g λg=>(lV k g c)) λc=>Br (Value.bool c) (rt e vF k) (av 2 k (pt f) λc=>CR e a 40 #[b,d,c] k λ_ a=>rt e vT a)))
theorem Ig:qC L14 14:=λh=>sd (hN 7 (.n (zF 0 [0,1,5,6,7,8,2,3,4,9,10,11] []) (.n (zA (zB (zB (zF 0 [] [1])))) (zB (zB (zF 0 [] [1])))))) func14 h
def L15:Y2:=λa b c d e=>lK d c 4 λc d=>lW d #[i0,sZ] 30 λd f=>CR e a 41 #[b] f λf g=>lN f i0 λh=>Br h (Build Tryz.prog 30 [] λh=>St 2 g (pt d) h λh=>av 2 h (pt d) λi=>rt e (tP i f) h) (CR e a 42 #[b,(.func (.func 43) #[] #[(pt c)])] g λa b=>St 2 b (pt d) a λa=>av 2 a (pt d) λb=>rt e (tP b i0) a)
theorem Ie:qC L15 15:=λh=>sd .e func15 h
def L16:Y2:=λa b c d e=>lW d nC 60 λd f=>oP b λg=>Br g (Build Tryz.prog 60 [] λg=>St 3 f (pt d) g λg=>av 3 g (pt d) λh=>rt e (tP h (iv 10)) g) (lC 0 b λg=>CR e a 44 #[g,c] f λf g=>Un .not f λf=>Br f (Build Tryz.prog 60 [] λf=>St 3 g (pt d) f λf=>av 3 f (pt d) λh=>rt e (tP h (iv 3)) f) (lC 0 b λb=>CR e a 45 #[b,c] g λa b=>St 3 b (pt d) a λa=>av 3 a (pt d) λb=>rt e (tP b i0) a))
theorem Ic:qC L16 16:=λh=>sd .e func16 h
def L18:Y3:=λa b c d e f=>jA (λg=>oQ d (ui 1) λh=>Br h (aO .u8 d λh=>lA (bi 48) h λh=>CR f a 46 #[c,h] g λ_ h=>rt f (.tuple #[]) h) (CR f a 16 #[b,d] g λd g=>lX d λd _=>lQ 3 g nC 60 d λd g=>lD 0 (pt d) g λh=>CR f a 48 #[h] g λg h=>ae .str .add (.string (ByteArray.mk #[91,120])) g λg=>ae .str .add g (.string (ByteArray.mk #[63])) λg=>CR f a 47 #[c,g] h λ_ g=>lD 2 (pt d) g λh=>CR f a 18 #[b,c,h] g λ_ g=>CR f a 46 #[c,(bi 58)] g λ_ g=>lD 1 (pt d) g λd=>CR f a 18 #[b,c,d] g λ_ b=>CR f a 46 #[c,(bi 93)] b λ_ b=>rt f (.tuple #[]) b)) λb=>CR f a 19 #[c] e λc d=>lG c (iv 65536) λc=>Br c (Build Tryz.prog 64 [] λc=>dF Tryz.prog a (bY Tryz.f18 1 2) (ev (λa=>cond (Nat.beq a 12) (.iface 64 c) (undef))) d (λ_ a=>JE b [] a) (cK f)) (JE b [] d)
theorem p5:qD L18 18:=λh=>sd (zF 1 [] [0,1,2]) func18 h
def L19:Y1:=λ_ a b c=>lM 1 a b λa=>aX a λa=>rt c a b
theorem Ib:qB L19 19:=λh=>sd .e func19 h
def L20:Y1:=λa b c d=>DR c λe=>lM 1 b e λf=>lM 1 b e λb=>aX b λb=>dF Tryz.prog a (bY Tryz.f20 1 4) (ev (λg=>cond (Nat.beq g 6) f (undef))) c (λc f=>aG f e/\
dF Tryz.prog a (bY Tryz.f20 1 10) (ev (λg=>cond (Nat.beq g 7) c (cond (Nat.beq g 12) b (undef)))) f (λa b=>aG b e/\
rt d a b) iE) iE
theorem Ia:qB L20 20:=λh=>sd (zA (zB (zF 0 [0,1,2,3,5,6,7,8,9,4,10,11] []))) func20 h
def L21:Y1:=λ_ a b c=>aX a λd=>cW 4 1 1 vF b d d λb d=>aX a λe=>yA [i0] d λd f g h=>lL g e λe=>Br e (lI 1 a g h λe=>lL e i0 λi=>lO i (λi=>aX a λj=>oG e j λj=>(lV h j i)) λi=>lO (Value.bool i) (λi=>lI 1 b e h λj=>(lV h j i)) λi=>Br (Value.bool i) (rt c (iv 4) h) (aj 1 b e λb=>St 1 h b vT λb=>lA g i1 λe=>az d f [e] b [g] h)) (aX a λa=>lG a (iv 64) λa=>Br a (rt c (iv 13) h) (rt c i0 h))
theorem H7:qB L21 21:=λh=>sd (zA (zA (zB (zA (zB (zE 0 [11] [0,3,9,10] (zA (zA (zB (zB (zA (zB (zB (zF 0 [] [1])))))))))))))) func21 h
def L22:Y1:=λ_ a b c=>oP a λd=>Br d (rt c i0 b) (lM 4 a b λa=>rt c a b)
theorem H6:qB L22 22:=λh=>sd .e func22 h
def L23:Y2:=λa b c d e=>CR e a 49 #[b,c] d λd f=>lN d i0 λg=>Br g (rt e (tP sZ d) f) (CR e a 50 #[b] f λb d=>aX c λf=>yB [sZ,i0] d λd g h i j=>lL i f λf=>Br f (lI 1 c i j λc=>CR e a 51 #[b,c] j λa c=>yB [h,a] c λa c f k l=>lG k i λm=>Br m (DR l λm=>lS k i1 λn=>lI 1 b k m λo=>lS k i1 λp=>lI 1 b p m λm=>aj 1 b n λn=>St 1 l n o λn=>aj 1 b k λb=>St 1 n b m λb=>lS k i1 λm=>ai Tryz.prog 43 1 [(0,m)] b λb m=>App Tryz.prog 3 1 8 i0 m f b λb m=>lS k i1 λn=>az a c [b,n] m [f,k] l) (lA i i1 λa=>az d g [f,a] l [h,i] j)) (rt e (tP h i0) j))
theorem HZ:qC L23 23:=λh=>sd (hN 4 (zB (zA (zB (zE 0 [8,22] [7,20,21] (zA (zA (zB (zB (zA (zA (zB (zE 0 [8,11] [7,9,20,21,22] (zA (zB (zB (zB (zF 0 (yR 18) [])))))))))))))))))) func23 h
def L24:Y1:=λa b c d=>oP b λe=>Br e (rt d sZ c) (lM 5 b c λb=>CR d a 50 #[b] c λa b=>rt d a b)
theorem HY:qB L24 24:=λh=>sd .e func24 h
def L25:Y2:=λa b c d e=>lW d #[i0] 3 λd f=>CF a 52 #[b] f (λb f=>lQ 1 f #[(.pointer none)] 116 b λb f=>aX c λg=>yA [i0] f λf h i j=>lL i g λg=>Br g (lI 1 c i j λc=>Ld j (pt b) λg=>CF a 55 #[g,c] j (λc g=>lN c i0 λk=>Br k (St 1 g (pt d) i0 λk=>dL Tryz.prog a 53 #[(pt b),(pt d)] k λk=>Ld k (pt d) λl=>rt e (tP l c) k) (lA i i1 λc=>az f h [c] g [i] j)) EN) (Ld j (pt b) λc=>lC 3 c λc=>St 1 j c vT λc=>St 1 c (pt d) i0 λc=>dL Tryz.prog a 53 #[(pt b),(pt d)] c λa=>Ld a (pt d) λb=>rt e (tP b i0) a)) EN
theorem HX(h:L25 g a0 a1 H R):sc g 25 #[a0,a1] H R:=
 rF (hn:=(hN 3 (zB (zA (zB (zF 0 [14] [4,6,12,13])))))) func25 h zK
def L26:Y2:=λa b c d e=>lW d #[(.pointer none)] 76 λd f=>lW f #[i0] 3 λf g=>lW g #[i0] 33 λg h=>dR b λi=>lG i (iv 65536) λi=>Br i (St 1 h (pt d) (.pointer none) λi=>St 1 i (pt f) i0 λi=>St 1 i (pt g) (iv 13) λi=>Ld i (pt d) λj=>Ld i (pt f) λk=>Ld i (pt g) λl=>rt e (.tuple #[j,k,l]) i) (CF a 57 #[b] h (λb h=>Build Tryz.prog 127 [(0,b),(1,c)] λb=>lK h b 127 λb c=>CF a 58 #[(pt b),i0,i0] c (λc h=>St 1 h (pt d) c λc=>CF a 59 #[(pt b),i0] c (λ_ b=>Ld b (pt d) λc=>St 1 b (pt d) c λb=>St 1 b (pt f) i0 λb=>St 1 b (pt g) i0 λb=>iJ Tryz.prog 56 a #[(pt d),(pt f),(pt g)] .returning b λb=>Ld b (pt d) λc=>Ld b (pt f) λh=>Ld b (pt g) λi=>rt e (.tuple #[c,h,i]) b) (λb c=>∀_:Fr,iJ Tryz.prog 56 a #[(pt d),(pt f),(pt g)] (.panicking b) c λb=>Ld b (pt d) λc=>Ld b (pt f) λh=>Ld b (pt g) λi=>rt e (.tuple #[c,h,i]) b)) (λb c=>∀_:Fr,iJ Tryz.prog 56 a #[(pt d),(pt f),(pt g)] (.panicking b) c λb=>Ld b (pt d) λc=>Ld b (pt f) λh=>Ld b (pt g) λi=>rt e (.tuple #[c,h,i]) b)) (λb c=>∀_:Fr,iJ Tryz.prog 56 a #[(pt d),(pt f),(pt g)] (.panicking b) c λa=>Ld a (pt d) λb=>Ld a (pt f) λc=>Ld a (pt g) λd=>rt e (.tuple #[b,c,d]) a))
theorem HW(h:L26 g a0 a1 H R):sc g 26 #[a0,a1] H R:=
 Jc func26 h zK
def L27:Y2:=λa b c d e=>lK d b 36 λb d=>lW d #[sZ] 37 λd f=>lM 2 c f λg=>aX g λh=>yA [i0] f λf i j k=>lL j h λh=>Br h (lI 1 g j k λg=>Ld k (pt b) λh=>CF a 27 #[h,g] k (λg h=>lX g λg l=>lN l i0 λm=>Br m (dL Tryz.prog a 60 #[(pt d),(pt b)] h λm=>rt e (tP (ui 0) l) m) (Ld h (pt d) λl=>ai Tryz.prog 37 1 [(0,g)] h λg h=>App Tryz.prog 27 1 4 (ui 0) h l g λg h=>St 1 h (pt d) g λg=>lA j i1 λh=>az f i [h] g [j] k)) EN) (lM 0 c k λf=>jB (λg h=>Br g (DR h λg=>Ld g (pt b) λi=>lM 0 c g λj=>lE j (iv 2) λj=>CN a 62 #[i,j] h λi j=>aG j g/\
lX i λg i=>dL Tryz.prog a 60 #[(pt d),(pt b)] j λj=>rt e (tP g i) j) (lE f (iv 3) λg=>Br g (DR h λg=>Ld g (pt b) λi=>lM 1 c g λc=>CN a 63 #[i,c] h λc i=>aG i g/\
lX c λc g=>dL Tryz.prog a 60 #[(pt d),(pt b)] i λi=>rt e (tP c g) i) (lE f (iv 4) λc=>Br c (DR h λc=>Ld c (pt b) λg=>Ld c (pt d) λi=>lI 1 i i0 c λi=>CN a 64 #[g,i] h λg i=>aG i c/\
lX g λc g=>dL Tryz.prog a 60 #[(pt d),(pt b)] i λi=>rt e (tP c g) i) (lE f (iv 5) λc=>Br c (DR h λc=>Ld c (pt b) λg=>Ld c (pt d) λi=>lI 1 i i0 c λi=>Ld c (pt d) λj=>lI 1 j i1 c λj=>CN a 65 #[g,i,j] h λg i=>aG i c/\
lX g λc g=>dL Tryz.prog a 60 #[(pt d),(pt b)] i λi=>rt e (tP c g) i) (lE f (iv 6) λc=>Br c (DR h λc=>Ld c (pt b) λg=>Ld c (pt d) λi=>lI 1 i i0 c λi=>Ld c (pt d) λj=>lI 1 j i1 c λj=>CN a 66 #[g,i,j] h λg i=>aG i c/\
lX g λc g=>dL Tryz.prog a 60 #[(pt d),(pt b)] i λi=>rt e (tP c g) i) (lE f (iv 7) λc=>Br c (DR h λc=>Ld c (pt b) λg=>Ld c (pt d) λi=>lI 1 i i0 c λi=>Ld c (pt d) λj=>lI 1 j i1 c λj=>CN a 67 #[g,i,j] h λg i=>aG i c/\
lX g λc g=>dL Tryz.prog a 60 #[(pt d),(pt b)] i λi=>rt e (tP c g) i) (lE f (iv 8) λc=>Br c (DR h λc=>Ld c (pt b) λg=>Ld c (pt d) λi=>lI 1 i i0 c λi=>Ld c (pt d) λj=>lI 1 j i1 c λj=>CN a 68 #[g,(bi 11),i,j] h λg i=>aG i c/\
lX g λc g=>dL Tryz.prog a 60 #[(pt d),(pt b)] i λi=>rt e (tP c g) i) (lE f (iv 9) λc=>Br c (DR h λc=>Ld c (pt b) λg=>Ld c (pt d) λi=>lI 1 i i0 c λi=>Ld c (pt d) λj=>lI 1 j i1 c λj=>CN a 68 #[g,(bi 9),i,j] h λg i=>aG i c/\
lX g λc g=>dL Tryz.prog a 60 #[(pt d),(pt b)] i λi=>rt e (tP c g) i) (DR h λc=>Ld c (pt b) λg=>Ld c (pt d) λi=>lI 1 i i0 c λi=>Ld c (pt d) λj=>lI 1 j i1 c λj=>Ld c (pt d) λl=>lI 1 l (iv 2) c λl=>CN a 69 #[g,i,j,l] h λg h=>aG h c/\
lX g λc g=>dL Tryz.prog a 60 #[(pt d),(pt b)] h λa=>rt e (tP c g) a))))))))) λa=>lE f i1 λb=>Br b (JE a [b] k) (lE f (iv 2) λb=>JE a [b] k))
theorem HV(h:L27 g a0 a1 H R):sc g 27 #[a0,a1] H R:=
 rF (hn:=(hN 3 (.n (zA (zB (zF 0 [17] [1,2,6,15,16]))) (.n (zA (zB (.h 1 [39] [1,2,6,38] .e (.n (zB (zF 0 (yR 11) [])) (zA (.n (zB (zF 0 (yR 10) [])) (zA (.n (zB (zF 0 (yR 9) [])) (zA (.n (zB (zF 0 (yR 12) [])) (zA (.n (zB (zF 0 (yR 12) [])) (zA (.n (zB (zF 0 (yR 12) [])) (zA (.n (zB (zF 0 (yR 12) [])) (zA (zB (zB (zF 0 (yR 12) [])))))))))))))))))))) (zB (zF 0 (yR 15) [])))))) func27 h zK
def L28:Y2:=λa b c d e=>lW d #[i0,sZ] 30 λd f=>lM 2 c f λg=>aX g λh=>yB [sZ,i0] f λf i j k l=>lL k h λh=>Br h (lI 1 g k l λg=>CR e a 28 #[b,g] l λg h=>ai Tryz.prog 38 1 [(0,g)] h λg h=>App Tryz.prog 30 2 32 (.agg #[i0,sZ]) h j g λg h=>lA k i1 λm=>az f i [g,m] h [j,k] l) (lW l #[i0,sZ] 30 λf g=>jA (λh=>av 2 h (pt f) λi=>St 2 h (pt d) i λh=>av 2 h (pt d) λd=>rt e d h) λd=>lM 0 c g λh=>jB (λi k=>Br i (lM 0 c k λi=>lE i (iv 2) λi=>CR e a 15 #[b,i] k λi l=>lX i λi _=>St 2 l (pt f) i λi=>JE d [] i) (lE h (iv 3) λi=>Br i (lM 1 c k λc=>CR e a 32 #[b,c] k λb c=>lX b λb _=>St 2 c (pt f) b λb=>JE d [] b) (lE h (iv 4) λb=>Br b (aj 2 j i0 λb=>av 2 k b λb=>CR e a 70 #[b] k λb c=>lX b λb _=>St 2 c (pt f) b λb=>JE d [] b) (lE h (iv 5) λb=>Br b (DR k λb=>aj 2 j i0 λc=>av 2 b c λc=>aj 2 j i1 λe=>av 2 b e λe=>CN a 71 #[(bi 8),c,e] k λc e=>aG e b/\
lX c λc _=>St 2 e (pt f) c λc=>aG c b/\
JE d [] c) (lE h (iv 6) λb=>Br b (DR k λb=>aj 2 j i0 λc=>av 2 b c λc=>aj 2 j i1 λe=>av 2 b e λe=>CN a 71 #[(bi 6),c,e] k λc e=>aG e b/\
lX c λc _=>St 2 e (pt f) c λc=>aG c b/\
JE d [] c) (lE h (iv 7) λb=>Br b (DR k λb=>aj 2 j i0 λc=>av 2 b c λc=>aj 2 j i1 λe=>av 2 b e λe=>CN a 71 #[(bi 14),c,e] k λc e=>aG e b/\
lX c λc _=>St 2 e (pt f) c λc=>aG c b/\
JE d [] c) (lE h (iv 8) λb=>Br b (DR k λb=>aj 2 j i0 λc=>av 2 b c λc=>aj 2 j i1 λe=>av 2 b e λe=>CN a 71 #[(bi 11),c,e] k λc e=>aG e b/\
lX c λc _=>St 2 e (pt f) c λc=>aG c b/\
JE d [] c) (lE h (iv 9) λb=>Br b (DR k λb=>aj 2 j i0 λc=>av 2 b c λc=>aj 2 j i1 λe=>av 2 b e λe=>CN a 71 #[(bi 9),c,e] k λc e=>aG e b/\
lX c λc _=>St 2 e (pt f) c λc=>aG c b/\
JE d [] c) (DR k λb=>aj 2 j i0 λc=>av 2 b c λc=>aj 2 j i1 λe=>av 2 b e λe=>aj 2 j (iv 2) λi=>av 2 b i λi=>CN a 33 #[c,e,i] k λa c=>aG c b/\
lX a λa _=>St 2 c (pt f) a λa=>aG a b/\
JE d [] a))))))))) λa=>lE h i1 λb=>Br b (JE a [b] g) (lE h (iv 2) λb=>JE a [b] g))
theorem HU:qC L28 28:=λh=>sd (zA (zA (.n (zA (zB (zF 0 [5,14] [0,1,4,12,13]))) (zA (zE 1 [] [4,8] (zA (zB (.h 1 [42] [0,1,4,5,8,28] .e (hN 6 (.n (zF 0 (yR 11) []) (zA (.n (zF 0 (yR 11) []) (zA (.n (zF 0 (yR 11) []) (zA (.n (zF 0 (yR 11) []) (zA (.n (zF 0 (yR 11) []) (zF 0 (yR 14) []))))))))))))))))))) func28 h
variable {g:Gh} {a0 a1 a2 a3 a4 a5 a6 a7 a8 a9 qy qx Tl Tk Tj Ti:zV} {H:Hp} {R:Rt}
def L29:Y2:=λa b c d e=>oP b λf=>Br f (rt e (iv 10) d) (aX c λf=>yA [i0] d λd g h i=>lL h f λf=>Br f (lI 1 c h i λc=>CR e a 16 #[b,c] i λa b=>lX a λa c=>lQ 3 b nC 60 a λ_ a=>lN c i0 λb=>Br b (rt e c a) (lA h i1 λb=>az d g [b] a [h] i)) (rt e i0 i))
theorem HT:qC L29 29:=λh=>sd (zA (zA (zB (zA (zB (zF 0 [13] [0,11,12])))))) func29 h
def L30:Y5:=λa b c d e f g h=>lK g b 36 λb g=>lK g d 30 λd g=>lK g e 30 λe g=>lK g f 86 λf g=>lW g #[i0,sZ] 30 λg i=>ni i λi j=>av 2 j (pt d) λd=>fF (.int .u32) j i (ui 0) d λd=>av 2 d (pt e) λe=>fF (.int .u32) d i (ui 1) e λd=>lQ 1 d #[(.map none)] 143 i λd e=>lW e #[.nilFunc] 144 λe i=>St 1 i (pt e) (.func (.func 72) #[] #[(pt d),(pt b),(pt f),(pt e)]) λb=>Ld b (pt e) λd=>bQ zQ a d #[c] b (λa b=>St 2 b (pt g) a λa=>av 2 a (pt g) λb=>rt h b a) (cK h)
theorem HS:qF L30 30:=λh=>sd .e func30 h
def L31:Y4:=λa b c d e f g=>lK f b 60 λb f=>lK f c 30 λc f=>lK f d 30 λd f=>lW f #[i0,sZ] 30 λf h=>Ld h e λe=>lD 0 (pt b) h λb=>CR g a 32 #[e,b] h λb e=>lX b λb _=>lQ 2 e #[i0,sZ] 30 b λb e=>av 2 e (pt b) λb=>av 2 e (pt d) λd=>av 2 e (pt c) λc=>CR g a 33 #[b,d,c] e λa b=>lX a λa _=>lQ 2 b #[i0,sZ] 30 a λa b=>av 2 b (pt a) λa=>St 2 b (pt f) a λa=>av 2 a (pt f) λb=>rt g b a
theorem HR:qE L31 31:=λh=>sd .e func31 h
def L32:Y2:=λa b c d e=>lK d c 3 λc d=>lW d #[i0,sZ] 30 λd f=>CR e a 41 #[b] f λf g=>lN f i0 λh=>Br h (Build zQ 30 [] λh=>St 2 g (pt d) h λh=>av 2 h (pt d) λi=>rt e (tP i f) h) (Ld g (pt c) λf=>lL f i0 λf=>lO f (λf=>Ld g (pt c) λh=>oG h b λh=>(lV g h f)) λf=>Br (Value.bool f) (Build zQ 30 [] λf=>St 2 g (pt d) f λf=>av 2 f (pt d) λh=>rt e (tP h (iv 2)) f) (CR e a 42 #[b,(.func (.func 74) #[] #[(pt c)])] g λa b=>St 2 b (pt d) a λa=>av 2 a (pt d) λb=>rt e (tP b i0) a))
theorem HQ:qC L32 32:=λh=>sd (zA (zA (zB (zB (zF 0 [] [1]))))) func32 h
def L33:Y3:=λa b c d e f=>lK e b 30 λb e=>lK e c 30 λc e=>lK e d 30 λd e=>lW e #[i0,sZ] 30 λe g=>av 2 g (pt b) λh=>av 2 g (pt c) λi=>av 2 g (pt d) λj=>ai zQ 38 3 [(0,h),(1,i),(2,j)] g λg h=>CR f a 76 #[g] h λg h=>Un .not g λg=>Br g (Build zQ 30 [] λg=>St 2 h (pt e) g λg=>av 2 g (pt e) λi=>rt f (tP i (iv 5)) g) (lD 0 (pt b) h λg=>CR f a 42 #[g,(.func (.func 77) #[] #[(pt b),(pt c),(pt d)])] h λa b=>St 2 b (pt e) a λa=>av 2 a (pt e) λb=>rt f (tP b i0) a)
theorem HP:qD L33 33:=λh=>sd .e func33 h
def L34:Y2:=λa b c d e=>CR e a 78 #[b] d λd f=>lX d λd g=>lN g i0 λg=>lO g (λg=>lL b i1 λh=>(lV f h g)) λg=>lO (Value.bool g) (λg=>lL c (iv 2) λh=>(lV f h g)) λg=>lO (Value.bool g) (λg=>lG c (iv 1048576) λh=>(lV f h g)) λg=>Br (Value.bool g) (rt e (tP (.pointer none) i1) f) (CR e a 79 #[b] f λf g=>lX f λf h=>lN h i0 λi=>Br i (rt e (tP (.pointer none) h) g) (CR e a 80 #[c,f] g λc f=>lX c λc g=>lQ 4 f #[(.pointer none),(.pointer none),sZ,sZ] 101 c λc f=>lN g i0 λh=>Br h (rt e (tP (.pointer none) g) f) (DR f λg=>av 4 g (pt c) λc=>CN a 50 #[d] f λa f=>aG f g/\
Build zQ 103 [(0,c),(1,b),(2,d),(3,a)] λa=>lK f a 103 λa b=>aG b g/\
rt e (tP (pt a) i0) b)))
theorem HO:qC L34 34:=λh=>sd (zA (zA (.n (zB (zF 0 [] [1])) (hN 4 (zB (zF 0 (yR 9) [])))))) func34 h
def L35:Y1:=λa b c d=>oP b λe=>Br e (rt d i0 c) (lC 0 b λb=>ah 0 b λb=>Ld c b λb=>CR d a 81 #[b] c λa b=>rt d a b)
theorem HN:qB L35 35:=λh=>sd .e func35 h
def L36:Y1:=λa b c d=>oP b λe=>Br e (rt d i0 c) (lC 0 b λb=>ah 0 b λb=>Ld c b λb=>CR d a 82 #[b] c λa b=>lS a (iv 2) λa=>rt d a b)
theorem HM:qB L36 36:=λh=>sd .e func36 h
def L37:Y5:=λa b c d e f g h=>lK g c 57 λc g=>lK g d 30 λd g=>lK g e 30 λe g=>lK g f 30 λf g=>lW g #[i0,sZ] 30 λg i=>lD 1 (pt c) i λj=>aO .i64 j λj=>lM 1 b i λk=>ae .num .rem j k λj=>lM 1 b i λb=>CR h a 32 #[b,j] i λb i=>lX b λb _=>lQ 2 i #[i0,sZ] 30 b λb i=>av 2 i (pt d) λk=>CR h a 83 #[k,j,vF] i λi k=>lX i λi _=>lQ 2 k #[i0,sZ] 30 i λi k=>av 2 k (pt d) λl=>CR h a 83 #[l,j,vT] k λk l=>lX k λk _=>lQ 2 l #[i0,sZ] 30 k λk l=>lD 0 (pt c) l λm=>ae .num .rem m (bi 9) λm=>lE m (bi 0) λn=>Br n (av 2 l (pt b) λb=>St 2 l (pt g) b λb=>av 2 b (pt g) λn=>rt h (tP n i0) b) (lE m (bi 1) λb=>Br b (av 2 l (pt d) λb=>CR h a 70 #[b] l λb n=>lX b λb o=>St 2 n (pt g) b λb=>av 2 b (pt g) λn=>rt h (tP n o) b) (jB (λb n=>Br b (lD 5 (pt c) n λb=>ae .num .rem b (wi 16) λb=>aO .u8 b λb=>av 2 n (pt d) λo=>av 2 n (pt e) λp=>CR h a 71 #[b,o,p] n λb o=>lX b λb p=>St 2 o (pt g) b λb=>av 2 b (pt g) λo=>rt h (tP o p) b) (lE m (bi 4) λb=>Br b (av 2 n (pt d) λb=>av 2 n (pt e) λo=>av 2 n (pt f) λf=>CR h a 33 #[b,o,f] n λb f=>lX b λb o=>St 2 f (pt g) b λb=>av 2 b (pt g) λf=>rt h (tP f o) b) (lE m (bi 5) λb=>Br b (av 2 n (pt d) λb=>lD 5 (pt c) n λc=>ae .num .rem c (wi 2) λc=>lE c (wi 1) λc=>CR h a 83 #[b,j,c] n λb c=>lX b λb d=>St 2 c (pt g) b λb=>av 2 b (pt g) λc=>rt h (tP c d) b) (lE m (bi 6) λb=>Br b (av 2 n (pt i) λb=>av 2 n (pt k) λc=>CR h a 71 #[(bi 14),b,c] n λb c=>lX b λb d=>St 2 c (pt g) b λb=>av 2 b (pt g) λc=>rt h (tP c d) b) (lE m (bi 7) λb=>Br b (av 2 n (pt i) λb=>av 2 n (pt k) λc=>CR h a 71 #[(bi 8),b,c] n λb c=>lX b λb d=>St 2 c (pt g) b λb=>av 2 b (pt g) λc=>rt h (tP c d) b) (av 2 n (pt e) λb=>av 2 n (pt k) λc=>av 2 n (pt i) λd=>CR h a 33 #[b,c,d] n λa b=>lX a λa c=>St 2 b (pt g) a λa=>av 2 a (pt g) λb=>rt h (tP b c) a)))))) λa=>lE m (bi 2) λb=>Br b (JE a [b] l) (lE m (bi 3) λb=>JE a [b] l)))
theorem HL:qF L37 37:=λh=>sd (hN 5 (zB (zA (zB (hN 4 (zF 1 [60] [6,7,8,9,10,12,15,17,50])))))) func37 h
def L38:Y5:=λa b c d e f g h=>lK g c 57 λc g=>lD 1 (pt c) g λi=>aO .i64 i λi=>lM 1 b g λj=>ae .num .rem i j λi=>lD 0 (pt c) g λj=>ae .num .rem j (bi 9) λj=>lE j (bi 0) λk=>Br k (lM 0 b g λk=>CR h a 63 #[k,i] g λk l=>lX k λk m=>rt h (tP k m) l) (lE j (bi 1) λk=>Br k (lM 0 b g λk=>CR h a 64 #[k,d] g λk l=>lX k λk m=>rt h (tP k m) l) (jB (λk l=>Br k (DR l λk=>lM 0 b k λm=>lD 5 (pt c) k λn=>ae .num .rem n (wi 16) λn=>aO .u8 n λn=>CN a 68 #[m,n,d,e] l λm n=>aG n k/\
lX m λk m=>rt h (tP k m) n) (lE j (bi 4) λk=>Br k (lM 0 b l λk=>CR h a 69 #[k,d,e,f] l λf k=>lX f λf m=>rt h (tP f m) k) (lE j (bi 5) λf=>Br f (DR l λf=>lM 0 b f λk=>lD 5 (pt c) f λc=>ae .num .rem c (wi 2) λc=>lE c (wi 1) λc=>CN a 84 #[k,d,i,c] l λc k=>aG k f/\
lX c λc f=>rt h (tP c f) k) (lE j (bi 6) λc=>Br c (DR l λc=>lM 0 b c λf=>oL (wi 1) i λk=>CN a 85 #[f,d,k] l λf k=>aG k c/\
lX f λc f=>rt h (tP c f) k) (lE j (bi 7) λc=>Br c (DR l λc=>lM 0 b c λf=>oL (wi 1) i λk=>CN a 86 #[f,d,k] l λf k=>aG k c/\
lX f λc f=>rt h (tP c f) k) (lM 0 b l λb=>CR h a 87 #[b,d,i,e] l λa b=>lX a λa c=>rt h (tP a c) b)))))) λa=>lE j (bi 2) λb=>Br b (JE a [b] g) (lE j (bi 3) λb=>JE a [b] g)))
theorem HK:qF L38 38:=λh=>sd (zA (zA (zB (zA (zB (hN 4 (.h 1 [44] [0,2,3,4,6,12,23] .e (.n (zB (zF 0 (yR 15) [])) (hN 3 (.n (zB (zF 0 (yR 15) [])) (zA (.n (zB (zF 0 (yR 12) [])) (zA (zB (zB (zF 0 (yR 12) [])))))))))))))))) func38 h
def L39:Y2:=λa b c d e=>ai zQ 38 0 [] d λd f=>lM 3 b f λg=>App zQ 30 2 32 (.agg #[i0,sZ]) f d g λd f=>App zQ 30 2 32 (.agg #[i0,sZ]) f d c λc d=>lM 0 b d λb=>CR e a 24 #[b] d λb d=>CR e a 88 #[c,b] d λa b=>lX a λa c=>lN c i0 λc=>Br c (e (.returned (iv (-1))) b) (rt e a b)
theorem HJ:qC L39 39:=λh=>sd .e func39 h
def L40:Y3:=λ_ a b c d e=>lK d c 30 λc d=>lG b (ui 1) λf=>Br f (lM 2 a d λf=>ai zQ 37 1 [(0,b)] d λb g=>App zQ 27 1 4 (ui 0) g f b λb f=>lC 2 a λg=>St 1 f g b λb=>DR b λf=>lM 3 a f λg=>av 2 f (pt c) λc=>ai zQ 38 1 [(0,c)] b λb c=>aG c f/\
App zQ 30 2 32 (.agg #[i0,sZ]) c g b λb c=>aG c f/\
lC 3 a λa=>St 1 c a b λa=>rt e (.tuple #[]) a) (rt e (.tuple #[]) d)
theorem vz:qD L40 40:=λh=>sd (zA (zA (zB (zA (zF 0 (yR 11) []))))) func40 h
def L41:Y1:=λ_ a b c=>lL a i0 λd=>Br d (rt c i1 b) (lG a (iv 16) λa=>Br a (rt c (iv 6) b) (rt c i0 b))
theorem HI:qB L41 41:=λh=>sd .e func41 h
def L42:Y2:=λa b c d e=>lW d #[i0,sZ] 30 λd f=>CR e a 89 #[b] f λf g=>cW 55 1 8 (wi 0) g f f λf g=>Build zQ 30 [(0,b),(1,f)] λf=>lQ 2 g #[i0,sZ] 30 f λf g=>lD 1 (pt f) g λh=>aX h λh=>yA [i0] g λg i j k=>lL j h λh=>Br h (DR k λh=>lD 1 (pt f) h λl=>bQ zQ a c #[j] k (λc m=>aG m h/\
CN a 90 #[b] m λa b=>aG b h/\
oA c a λa=>aj 1 l j λc=>St 1 b c a λa=>lA j i1 λb=>az g i [b] a [j] k) iE) (av 2 k (pt f) λa=>St 2 k (pt d) a λa=>av 2 a (pt d) λb=>rt e b a)
theorem HH:qC L42 42:=λh=>sd (zA (zA (zB (zA (zB (zE 0 [15] [0,1,4,5,14] (zA (zA (zB (zB (zA (zF 0 [0,1,2,3,4,6,5,7,8,9,10] [])))))))))))) func42 h
def L43:Y2:=λ_ _ a b c=>Ld b a λa=>Br a (rt c (wi 18446744073709551615) b) (rt c (wi 0) b)
theorem HG:qC L43 43:=λh=>sd .e func43 h
def L44:Y2:=λa b c d e=>lM 0 b d λb=>CR e a 91 #[b,c] d λa b=>lX a λa c=>lQ 3 b nC 60 a λ_ a=>lE c i0 λb=>rt e b a
theorem HF:qC L44 44:=λh=>sd .e func44 h
def L45:Y2:=λa b c d e=>lW d nC 60 λd f=>lM 0 b f λb=>CR e a 91 #[b,c] f λa b=>lX a λa _=>lQ 3 b nC 60 a λa b=>av 3 b (pt a) λa=>St 3 b (pt d) a λa=>av 3 a (pt d) λb=>rt e b a
theorem HE:qC L45 45:=λh=>sd .e func45 h
def L46:Y2:=λa b c d e=>CR e a 92 #[b] d λ_ a=>lM 1 b a λd=>ai zQ 23 1 [(0,c)] a λa c=>App zQ 5 1 1 (bi 0) c d a λa c=>lC 1 b λb=>St 1 c b a λa=>rt e .nilIface a
theorem HD:qC L46 46:=λh=>sd .e func46 h
def L47:Y2:=λa b c d e=>CR e a 92 #[b] d λ_ d=>lM 1 b d λf=>dF zQ a (bY Tryz.f47 2 6) (ev (λa=>cond (Nat.beq a 12) f (cond (Nat.beq a 13) c (undef)))) d (λa d=>lC 1 b λb=>St 1 d b a λa=>dR c λb=>rt e (tP b .nilIface) a) (cK e)
theorem HC:qC L47 47:=λh=>sd .e func47 h
def L48:Y1:=λa b c d=>CR d a 93 #[b] c λa b=>rt d a b
theorem HB:qB L48 48:=λh=>sd .e func48 h
def L49:Y2:=λa b c d e=>CR e a 21 #[b] d λd f=>CR e a 21 #[c] f λa f=>lE d (iv 4) λg=>lO g (λg=>lE a (iv 4) λh=>(lV f h g)) λg=>lO (Value.bool g) (λg=>aX b λb=>aX c λc=>lN b c λb=>(lV f b g)) λg=>Br (Value.bool g) (rt e (iv 4) f) (Pj d a λa=>rt e a f)
theorem HA:qC L49 49:=λh=>sd (zA (zA (zB (zB (zF 0 [] [1]))))) func49 h
def L50:Y1:=λ_ a b c=>ae .slice .eql a sZ λd=>Br d (rt c sZ b) (ai zQ 43 0 [] b λb d=>App zQ 3 1 8 i0 d b a λa b=>rt c a b)
theorem Hz:qB L50 50:=λh=>sd .e func50 h
def L51:Y2:=λ_ a b c d=>aX a λe=>yA [i0] c λc f g h=>lL g e λe=>Br e (lI 1 a g h λa=>lE b a λa=>Br a (rt d g h) (lA g i1 λa=>az c f [a] h [g] h)) (d (.returned (iv (-1))) h)
theorem Hy:qC L51 51:=λh=>sd (zA (zB (zA (zB (zF 0 [8] [0,1,7]))))) func51 h
def L52:Y1:=λa b c d=>CR d a 94 #[b] c λa c=>Build zQ 119 [(0,b),(1,a)] λa=>lK c a 119 λa b=>rt d (pt a) b
theorem Hx:qB L52 52:=λh=>sd .e func52 h
def L53:Y2:=λa b c d e=>Ld d b λf=>CR e a 54 #[f] d λ_ a=>Ld a b λb=>lM 2 b a λb=>St 1 a c b λa=>rt e (.tuple #[]) a
theorem th(h:L53 g a0 a1 H R):gR zQ g 53 #[a0,a1] H R:=
 rG (hn:=.e) func53 h zK
def L54:Y1:=λa b c d=>lM 3 b c λe=>Un .not e λe=>Br e (CR d a 95 #[b] c λ_ a=>rt d (.tuple #[]) a) (rt d (.tuple #[]) c)
theorem vy:qB L54 54:=λh=>sd .e func54 h
def L55:Y2:=λa b c d e=>lM 0 b d λf=>CR e a 96 #[f,c] d λa c=>jA (λd=>rt e a d) λd=>lE a i0 λa=>Br a (lM 2 b c λa=>lA a i1 λa=>lC 2 b λb=>St 1 c b a λa=>JE d [] a) (JE d [] c)
theorem vx:qC L55 55:=λh=>sd (zA (zA (zF 1 [] [5]))) func55 h
def L57:Y1:=λa b c d=>dF zQ a (bY Tryz.f57 3 1) (ev (λe=>cond (Nat.beq e 13) b (undef))) c (λc f=>yB [sZ,i0] f λf g h i j=>dF zQ a (bY Tryz.f57 4 0) (ev (λe=>cond (Nat.beq e 14) c (undef))) j (λc k=>Ext 0 c λl=>Br l (Ext 1 c λl=>Ext 2 c λc=>lL l i λm=>lO m (λm=>lE c (Value.int .i32 32) λn=>(lV k n m)) λm=>Br (Value.bool m) (az f g [h,i] k [h,i] j) (Build zQ 162 [(0,(iv 16)),(1,l),(2,i0)] λm=>lQ 3 k #[i0,i0,i0] 162 m λm n=>jB (λo p=>CR d a 98 #[] p λp q=>aX p λr=>yB [o,i0] q λo q s t u=>lL t r λr=>Br r (jB (λr v=>lA t i1 λw=>az o q [r,w] v [s,t] u) λo=>aj 2 p t λp=>av 2 u p λp=>lQ 2 u #[(.string (ByteArray.mk #[])),i0] 167 p λp q=>jB (λr t=>Br r (DR t λr=>lD 1 (pt p) r λv=>Build zQ 162 [(0,v),(1,l),(2,i0)] λv=>lD 0 (pt p) r λw=>dR w λw=>St 3 t (pt m) v λv=>aG v r/\
JE o [w] v) (JE o [s] t)) λo=>DR q λr=>lE s i0 λt=>Br t (bS zQ a (bY Tryz.f57 15 5) (ev (λe=>cond (Nat.beq e 54) b (cond (Nat.beq e 55) l (undef)))) r λt=>lD 0 (pt p) r λp=>∀r:Hp,
CN (a.add r) 99 #[t,p] q λp r=>aB vT p vF λp=>JE o [p] r) (JE o [vF] q)) (av 3 u (pt m) λo=>ai zQ 124 1 [(0,o)] u λo p=>App zQ 162 3 24 (.agg #[i0,i0,i0]) p h o λo p=>lD 0 (pt m) p λq=>lE q (iv 16) λq=>Br q (rt d o p) (lA l s λq=>az f g [o,q] p [h,i] j))) λf=>lE c (Value.int .i32 120) λc=>Br c (lA l i1 λc=>bS zQ a (bY Tryz.f57 9 3) (ev (λe=>cond (Nat.beq e 31) b (cond (Nat.beq e 33) c (undef)))) n λc=>CR d a 97 #[c] n λa c=>lX a λa e=>lG e i0 λg=>Br g (Build zQ 162 [(0,(iv 3)),(1,l),(2,a)] λa=>lA i1 e λe=>St 3 c (pt m) a λa=>JE f [e] a) (JE f [i0] c)) (JE f [i0] n))) (dR b λa=>Build zQ 162 [(0,i0),(1,a),(2,i0)] λa=>ai zQ 124 1 [(0,a)] k λa b=>App zQ 162 3 24 (.agg #[i0,i0,i0]) b h a λa b=>rt d a b)) (cK d)) (cK d)
theorem Hw:qB L57 57:=λh=>sd (hN 3 (zB (zA (zB (zE 0 [3,4] [0,14] (zA (zA (zB (zA (.n (zB (zF 0 [] [1])) (zA (.h 1 [8] [0,3,5,7,14] .e (zB (zA (zB (zE 0 [8,47] [0,3,5,7,14,45,46] (zA (zA (zE 1 [8] [0,3,5,7,14,45,46,47] (zB (zA (.h 1 [60] [0,3,5,7,8,12,14,45,46,47] (zE 1 [] [] (hr 0 [] 0 2 (.h 2 [2] [] (hr 0 [] 3 7 .e) (hr 0 [] 3 6 (zF 3 [9] []))))) (zB (zF 0 (yR 9) [])))))))))))))))))))))))) func57 h
def L58:Y3:=λa b c d e f=>lE c (iv 5) λg=>Br g (CR f a 100 #[b,d] e λg h=>rt f g h) (CR f a 101 #[c] e λe g=>lA c i1 λh=>CR f a 58 #[b,h,d] g λg h=>yA [g] h λg h i j=>CR f a 102 #[b] j λk l=>Iz 0 k λk=>lE k e λk=>Br k (CR f a 103 #[b] l λ_ k=>lE e (iv 8) λm=>Br m (CR f a 58 #[b,c,d] k λm n=>ai zQ 132 2 [(0,i),(1,m)] n λm n=>Build zQ 134 [(0,(iv 8)),(2,m)] λm=>lK n m 134 λm n=>rt f (pt m) n) (lA c i1 λc=>CR f a 58 #[b,c,d] k λa b=>ai zQ 132 2 [(0,i),(1,a)] b λa b=>Build zQ 134 [(0,e),(2,a)] λa=>lK b a 134 λa b=>az g h [(pt a)] b [i] j)) (rt f i l))
theorem Hv:qD L58 58:=λh=>sd (hN 4 (zB (zB (zF 0 [8] [0,1,2,7])))) func58 h
def L59:Y2:=λa b c d e=>CR e a 103 #[b] d λb d=>lQ 3 d #[i0,i0,i0] 162 b λb d=>lD 0 (pt b) d λf=>lN f c λc=>Br c (av 3 d (pt b) λb=>CR e a 104 #[b,(iv 14)] d λ_ a=>rt e (.tuple #[]) a) (rt e (.tuple #[]) d)
theorem Hu:qC L59 59:=λh=>sd .e func59 h
def L60:Y2:=λa b c d e=>Ld d b λb=>aX b λf=>yA [i0] d λd g h i=>lL h f λf=>Br f (lI 1 b h i λb=>Ld i c λc=>CR e a 61 #[c,b] i λ_ a=>lA h i1 λb=>az d g [b] a [h] i) (rt e (.tuple #[]) i)
theorem BB(h:L60 g a0 a1 H R):gR zQ g 60 #[a0,a1] H R:=
 rG (hn:=(zA (zB (zF 0 [6] [1,4,5])))) func60 h zK
def L61:Y2:=λa b c d e=>oP b λf=>Br f (rt e (iv 10) d) (jA (λf=>lC 7 b λg=>St 1 f g sZ λf=>rt e i0 f) λf=>lG c (ui 1) λg=>Br g (CR e a 105 #[b,c] d λg h=>lE g i0 λg=>Br g (rt e (iv 3) h) (lC 0 b λg=>ah 3 g λg=>Ld h g λg=>lI 1 g c h λi=>lS i (Value.int .i32 1) λi=>aj 1 g c λg=>St 1 h g i λg=>lC 0 b λh=>ah 3 h λh=>Ld g h λh=>lI 1 h c g λh=>lE h (Value.int .i32 0) λh=>Br h (lC 0 b λb=>CR e a 106 #[b,c] g λ_ a=>JE f [] a) (JE f [] g))) (JE f [] d))
theorem vw:qC L61 61:=λh=>sd (zA (zA (zF 1 [] [0]))) func61 h
theorem BA(h:L61 g a0 a1 H R):gR zQ g 61 #[a0,a1] H R:=
 rG (hn:=(zA (zA (zF 1 [] [0])))) func61 h zK
def L62:Y2:=λa b c d e=>oP b λf=>Br f (rt e (tP (ui 0) (iv 10)) d) (jB (λf g=>CR e a 107 #[b,f] g λa b=>rt e (tP f a) b) λa=>Br c (JE a [(ui 1)] d) (JE a [(ui 0)] d))
theorem Ht:qC L62 62:=λh=>sd (hN 3 (zF 1 [6] [0])) func62 h
def L63:Y2:=λa b c d e=>oP b λf=>Br f (rt e (tP (ui 0) (iv 10)) d) (CR e a 108 #[b,c,(ui 0),(ui 1)] d λa b=>lX a λa c=>rt e (tP a c) b)
theorem Hs:qC L63 63:=λh=>sd .e func63 h
def L64:Y2:=λa b c d e=>CR e a 68 #[b,(bi 3),c,(ui 0)] d λa b=>lX a λa c=>rt e (tP a c) b
theorem Hr:qC L64 64:=λh=>sd .e func64 h
def L65:Y3:=λa b c d e f=>CR f a 68 #[b,(bi 8),c,d] e λa b=>lX a λa c=>rt f (tP a c) b
theorem Hq:qD L65 65:=λh=>sd .e func65 h
def L66:Y3:=λa b c d e f=>CR f a 68 #[b,(bi 6),c,d] e λa b=>lX a λa c=>rt f (tP a c) b
theorem Ho:qD L66 66:=λh=>sd .e func66 h
def L67:Y3:=λa b c d e f=>CR f a 68 #[b,(bi 14),c,d] e λa b=>lX a λa c=>rt f (tP a c) b
theorem Hl:qD L67 67:=λh=>sd .e func67 h
def L68:Y4:=λa b c d e f g=>lK f c 5 λc f=>oP b λh=>Br h (rt g (tP (ui 0) (iv 10)) f) (Ld f (pt c) λh=>lG h (bi 15) λh=>Br h (rt g (tP (ui 0) i1) f) (ai zQ 37 2 [(0,d),(1,e)] f λf h=>CR g a 109 #[b,f] h λb f=>lX b λb h=>lN h i0 λi=>Br i (rt g (tP (ui 0) h) f) (Build zQ 181 [(0,d),(1,e)] λd=>CR g a 110 #[b,d,(.func (.func 111) #[] #[(pt c)])] f λa b=>lX a λa c=>rt g (tP a c) b)))
theorem Hi:qE L68 68:=λh=>sd .e func68 h
def L69:Y4:=λa b c d e f g=>ai zQ 37 3 [(0,c),(1,d),(2,e)] f λf h=>CR g a 109 #[b,f] h λb f=>lX b λb h=>lN h i0 λi=>Br i (rt g (tP (ui 0) h) f) (Build zQ 181 [(0,c),(1,d),(2,e)] λc=>CR g a 110 #[b,c,(.func (.func 113) #[] #[])] f λa b=>lX a λa c=>rt g (tP a c) b)
theorem Hh:qE L69 69:=λh=>sd .e func69 h
def L70:Y1:=λa b c d=>lK c b 30 λb c=>lW c #[i0,sZ] 30 λc e=>av 2 e (pt b) λf=>ai zQ 38 1 [(0,f)] e λe f=>CR d a 76 #[e] f λe f=>Un .not e λe=>Br e (Build zQ 30 [] λe=>St 2 f (pt c) e λe=>av 2 e (pt c) λg=>rt d (tP g (iv 5)) e) (lD 0 (pt b) f λe=>CR d a 42 #[e,(.func (.func 114) #[] #[(pt b)])] f λa b=>St 2 b (pt c) a λa=>av 2 a (pt c) λb=>rt d (tP b i0) a)
theorem Hg:qB L70 70:=λh=>sd .e func70 h
def L71:Y3:=λa b c d e f=>lK e b 5 λb e=>lK e c 30 λc e=>lK e d 30 λd e=>lW e #[i0,sZ] 30 λe g=>Ld g (pt b) λh=>lG h (bi 15) λh=>Br h (Build zQ 30 [] λh=>St 2 g (pt e) h λh=>av 2 h (pt e) λi=>rt f (tP i i1) h) (av 2 g (pt c) λh=>av 2 g (pt d) λi=>ai zQ 38 2 [(0,h),(1,i)] g λg h=>CR f a 76 #[g] h λg h=>Un .not g λg=>Br g (Build zQ 30 [] λg=>St 2 h (pt e) g λg=>av 2 g (pt e) λi=>rt f (tP i (iv 5)) g) (lD 0 (pt c) h λg=>CR f a 42 #[g,(.func (.func 115) #[] #[(pt c),(pt d),(pt b)])] h λa b=>St 2 b (pt e) a λa=>av 2 a (pt e) λb=>rt f (tP b i0) a))
theorem Hf:qD L71 71:=λh=>sd .e func71 h
def L72:Y5:=λa b c d e f g h=>lW g #[i0,sZ] 30 λg i=>Ld i c λj=>qP (.int .u32) (.agg #[i0,sZ]) true i j b λj=>lX j λj k=>lQ 2 i #[i0,sZ] 30 j λi j=>Br k (av 2 j (pt i) λi=>St 2 j (pt g) i λi=>av 2 i (pt g) λk=>rt h k i) (Ld j d λd=>CR h a 73 #[d,b] j λd i=>lQ 3 i nC 60 d λd i=>DR i λj=>Ld j e λe=>av 3 j (pt d) λk=>Ld j f λl=>lD 1 (pt d) j λm=>Ld j f λf=>lD 2 (pt d) j λd=>∀n:Hp,
bQ zQ (a.add n) l #[m] i (λi l=>aG l j/\
∀m:Hp,
bQ zQ (a.add m) f #[d] l (λd f=>aG f j/\
∀l:Hp,
bQ zQ (a.add l) e #[k,i,d] f (λa d=>aG d j/\
lW d #[i0,sZ] 30 λd e=>∀_:Hp,
St 2 e (pt d) a λa=>Ld a c λc=>av 2 a (pt d) λe=>fF (.int .u32) a c b e λa=>av 2 a (pt d) λb=>St 2 a (pt g) b λa=>av 2 a (pt g) λb=>rt h b a) iE) iE) iE)
theorem vv:qF L72 72:=λh=>sd (hN 3 (zB (zE 1 [] [] (hr 0 [] 0 5 (hr 0 [] 6 3 (zE 1 [11] [] (zE 0 [5] [] (hr 0 [] 9 4 .e)))))))) func72 h
def L73:Y2:=λa b c d e=>lW d nC 60 λd f=>CR e a 16 #[b,c] f λa b=>lX a λa _=>lQ 3 b nC 60 a λa b=>av 3 b (pt a) λa=>St 3 b (pt d) a λa=>av 3 a (pt d) λb=>rt e b a
theorem He:qC L73 73:=λh=>sd .e func73 h
def L74:Y2:=λa b c d e=>Ld d c λc=>CR e a 75 #[c,b] d λa b=>rt e a b
theorem G9:qC L74 74:=λh=>sd .e func74 h
variable {g:Gh} {a0 a1 a2 a3 a4 a5 a6 a7 a8 a9 qy qx Tl Tk Tj Ti:zV} {H:Hp} {R:Rt}
def L75:Y2:=λ_ a b c d=>oG a (iv 6) λe=>Br e (aO .u64 b λb=>lS a (iv 6) λe=>oR b e λb=>oA b (wi 1) λb=>Un .neg b λb=>rt d b c) (yB [(wi 0),i0] c λb c e f g=>lL f (iv 64) λh=>Br h (oR f a λa=>oA a i1 λa=>aO .u64 a λa=>oL a f λa=>oO e a λa=>lA f i1 λh=>az b c [a,h] g [e,f] g) (rt d e g))
theorem G8:qC L75 75:=λh=>sd (hN 3 (zB (zA (zB (zF 0 [5,16] [0]))))) func75 h
def L76:Y1:=λa b c d=>aX b λe=>yA [i0] c λc f g h=>lL g e λe=>Br e (aj 2 b g λe=>av 2 h e λe=>lQ 2 h #[i0,sZ] 30 e λe i=>jB (λj k=>Br j (rt d vF k) (lA g i1 λj=>az c f [j] k [g] h)) λc=>DR i λf=>av 2 f (pt e) λg=>∀j:Hp,
CN (a.add j) 116 #[g] i λa g=>aG g f/\
Un .not a λa=>Br a (JE c [vT] g) (lD 0 (pt e) f λa=>aj 2 b i0 λb=>ah 0 b λb=>Ld f b λb=>lN a b λa=>aB vF vT a λa=>JE c [a] g)) (rt d vT h)
theorem G7:qB L76 76:=λh=>sd (zA (zB (zA (zB (zE 0 [7] [0,5,6] (zA (zA (zB (zB (zA (zE 1 [22] [0,5,6,7] (zE 1 [] [] (hr 0 [] 0 3 (.h 2 [3] [] (hr 0 [] 4 7 (zF 3 [11] [])) (hr 0 [] 4 8 .e))))))))))))))) func76 h
def L77:Y4:=λ_ a b c d e f=>ah 1 b λg=>Ld e g λg=>lI 1 g a e λg=>ah 1 c λc=>Ld e c λc=>lI 1 c a e λc=>oA g c λc=>ah 1 b λb=>Ld e b λb=>lI 1 b a e λb=>Un .xor b λb=>ah 1 d λd=>Ld e d λd=>lI 1 d a e λa=>oA b a λa=>oO c a λa=>rt f a e
theorem G6:qE L77 77:=λh=>sd .e func77 h
def L78:Y1:=λa b c d=>lL b i0 λe=>lO e (λe=>lG b (iv 64) λf=>(lV c f e)) λe=>Br (Value.bool e) (rt d (tP sZ i1) c) (CR d a 117 #[b] c λa b=>rt d (tP a i0) b)
theorem G5:qB L78 78:=λh=>sd (zA (zB (zB (zF 0 [] [1])))) func78 h
def L79:Y1:=λ_ a b c=>lL a i1 λd=>lO d (λd=>lG a (iv 64) λe=>(lV b e d)) λd=>Br (Value.bool d) (rt c (tP (.pointer none) i1) b) (cW 189 1 8 (.map none) b a a λb d=>Build zQ 188 [(0,b)] λb=>lK d b 188 λb d=>yA [i0] d λd e f g=>lL f a λa=>Br a (lM 0 (pt b) g λa=>ni g λh i=>aj 1 a f λa=>St 1 i a h λa=>lA f i1 λh=>az d e [h] a [f] g) (rt c (tP (pt b) i0) g))
theorem G4:qB L79 79:=λh=>sd (zA (.n (zB (zF 0 [] [1])) (zA (zB (zA (zB (zF 0 [17] [4,16]))))))) func79 h
def L80:Y2:=λa b c d e=>lW d #[(.pointer none),(.pointer none),sZ,sZ] 101 λd f=>CR e a 118 #[b] f λa b=>lX a λa f=>Build zQ 101 [(0,a),(1,c)] λa=>St 4 b (pt d) a λa=>av 4 a (pt d) λb=>rt e (tP b f) a
theorem G3:qC L80 80:=λh=>sd .e func80 h
def L81:Y1:=λ_ a b c=>oP a λd=>Br d (rt c i0 b) (lM 0 a b λa=>rt c a b)
theorem G2:qB L81 81:=λh=>sd .e func81 h
def L82:Y1:=λ_ a b c=>oP a λd=>Br d (rt c i0 b) (lM 3 a b λa=>rt c a b)
theorem G1:qB L82 82:=λh=>sd .e func82 h
def L83:Y3:=λa b c d e f=>lK e b 30 λb e=>lW e #[i0,sZ] 30 λe g=>av 2 g (pt b) λh=>CR f a 119 #[h,c] g λg h=>lN g i0 λi=>Br i (Build zQ 30 [] λi=>St 2 h (pt e) i λi=>av 2 i (pt e) λj=>rt f (tP j g) i) (av 2 h (pt b) λb=>CR f a 120 #[b,c,d] h λa b=>St 2 b (pt e) a λa=>av 2 a (pt e) λb=>rt f (tP b i0) a)
theorem G0:qD L83 83:=λh=>sd .e func83 h
def L84:Y4:=λa b c d e f g=>CR g a 121 #[b,d] f λf h=>lX f λf i=>ae .ptr .neq b (.pointer none) λj=>lU j (λj=>Un .not i λi=>(lV h i j)) λj=>Br (Value.bool j) (rt g (tP (ui 0) (iv 2)) h) (ai zQ 37 1 [(0,c)] h λh i=>CR g a 122 #[b,f,h] i λf h=>lN f i0 λi=>Br i (rt g (tP (ui 0) f) h) (CR g a 124 #[b,c,d,e] h λb c=>lX b λd e=>Ext 2 b λb=>CR g a 123 #[d,e,b] c λa b=>lX a λa c=>rt g (tP a c) b))
theorem GZ:qE L84 84:=λh=>sd (zA (zA (zB (zB (zF 0 [] [1]))))) func84 h
def L85:Y3:=λa b c d e f=>CR f a 125 #[b,c,d,vT] e λa b=>lX a λa c=>rt f (tP a c) b
theorem GY:qD L85 85:=λh=>sd .e func85 h
def L86:Y3:=λa b c d e f=>CR f a 125 #[b,c,d,vF] e λa b=>lX a λa c=>rt f (tP a c) b
theorem GX:qD L86 86:=λh=>sd .e func86 h
def L87:Y4:=λa b c d e f g=>CF a 121 #[b,d] f (λf h=>lX f λf i=>ae .ptr .neq b (.pointer none) λj=>lU j (λj=>Un .not i λi=>(lV h i j)) λj=>Br (Value.bool j) (rt g (tP (ui 0) (iv 2)) h) (ai zQ 37 2 [(0,c),(1,e)] h λh i=>CF a 122 #[b,f,h] i (λf h=>lN f i0 λi=>Br i (rt g (tP (ui 0) f) h) (CF a 124 #[b,c,d,vF] h (λf h=>lX f λi j=>Ext 2 f λf=>CF a 123 #[i,j,f] h (λf h=>lX f λf i=>lN i i0 λj=>Br j (rt g (tP (ui 0) i) h) (CF a 124 #[b,c,d,vT] h (λc d=>lX c λh i=>Ext 2 c λc=>CF a 123 #[h,i,c] d (λc d=>lX c λc h=>lN h i0 λi=>Br i (dL zQ a 61 #[b,f] d λi=>rt g (tP (ui 0) h) i) (CF a 69 #[b,e,c,f] d (λd e=>lX d λd h=>dL zQ a 61 #[b,c] e λc=>dL zQ a 61 #[b,f] c λa=>rt g (tP d h) a) EN)) EN) EN)) EN) EN)) EN)) EN
theorem GW(h:L87 g a0 a1 a2 a3 H R):sc g 87 #[a0,a1,a2,a3] H R:=
 rF (hn:=(zA (zA (.n (zB (zF 0 [] [1])) (hN 7 .e))))) func87 h zK
def L88:Y2:=λa b c d e=>CR e a 126 #[b,c] d λa b=>lX a λa c=>aX a λd=>yB [i0,i0] b λb f g h i=>lL h d λd=>Br d (lI 1 a h i λa=>lA g a λa=>lA h i1 λd=>az b f [a,d] i [g,h] i) (rt e (tP g c) i)
theorem GV:qC L88 88:=λh=>sd (hN 3 (zB (zA (zB (zF 0 [8,19] [7,17,18]))))) func88 h
def L89:Y1:=λ_ a b c=>oL i1 a λa=>oR a (wi 6) λa=>Pj i1 a λa=>rt c a b
theorem GU:qB L89 89:=λh=>sd .e func89 h
def L90:Y1:=λ_ a b c=>oG a (iv 6) λd=>Br d (rt c (wi 18446744073709551615) b) (oL (wi 1) a λa=>oL (wi 1) a λa=>lS a (wi 1) λa=>rt c a b)
theorem GS:qB L90 90:=λh=>sd .e func90 h
def L91:Y2:=λa b c d e=>lW d nC 60 λd f=>oP b λg=>Br g (Build zQ 60 [] λg=>St 3 f (pt d) g λg=>av 3 g (pt d) λh=>rt e (tP h (iv 10)) g) (CR e a 127 #[b,c] f λa f=>Un .not a λa=>Br a (Build zQ 60 [] λa=>St 3 f (pt d) a λa=>av 3 a (pt d) λg=>rt e (tP g (iv 3)) a) (lM 1 b f λa=>aj 5 a c λa=>ah 0 a λa=>av 3 f a λa=>St 3 f (pt d) a λa=>av 3 a (pt d) λb=>rt e (tP b i0) a))
theorem GR:qC L91 91:=λh=>sd .e func91 h
def L92:Y1:=λa b c d=>lM 0 b c λe=>oP e λe=>Br e (bS zQ a (bY Tryz.f92 1 2) (ev (λe=>cond (Nat.beq e 8) b (undef))) c λf=>dF zQ a (bY Tryz.f92 1 3) (ev (λe=>cond (Nat.beq e 9) f (undef))) c (λf g=>bS zQ a (bY Tryz.f92 1 4) (ev (λe=>cond (Nat.beq e 10) f (undef))) g λf=>lC 0 b λh=>St 1 g h f λf=>rt d (.tuple #[]) f) (cK d)) (lM 0 b c λf=>bS zQ a (bY Tryz.f92 2 5) (ev (λe=>cond (Nat.beq e 17) f (cond (Nat.beq e 18) b (undef)))) c λa=>Br a (False) (rt d (.tuple #[]) c))
theorem GQ:qB L92 92:=λh=>sd .e func92 h
def L93:Y1:=λa b c d=>CR d a 129 #[b,(iv 10)] c λa b=>rt d a b
theorem GP:qB L93 93:=λh=>sd .e func93 h
def L94:Y1:=λ_ a b c=>oP a λd=>Br d (rt c i0 b) (lM 7 a b λa=>aX a λa=>rt c a b)
theorem GO:qB L94 94:=λh=>sd .e func94 h
def L95:Y1:=λa b c d=>DR c λe=>lM 0 b e λf=>lM 1 b e λg=>CN a 130 #[f,g] c λa c=>aG c e/\
lX a λa _=>lM 2 b c λe=>lA e a λa=>lC 2 b λb=>St 1 c b a λa=>rt d (.tuple #[]) a
theorem GN:qB L95 95:=λh=>sd (zB (zF 0 (yR 14) [])) func95 h
def L96:Y2:=λa b c d e=>oP b λf=>Br f (rt e (iv 10) d) (lL c i0 λf=>lO f (λf=>lM 4 b d λg=>lS g (iv 2) λg=>lG c g λg=>(lV d g f)) λf=>Br (Value.bool f) (rt e i1 d) (CR e a 131 #[b,c] d λa d=>Un .not a λa=>Br a (rt e (iv 9) d) (lM 7 b d λa=>ai zQ 43 1 [(0,c)] d λc d=>App zQ 3 1 8 i0 d a c λa c=>lC 7 b λb=>St 1 c b a λa=>rt e i0 a)))
theorem GM:qC L96 96:=λh=>sd (zA (zB (zB (zA (zA (zB (zF 0 [] [1]))))))) func96 h
def L97:Y1:=λa b c d=>jC (λe f g=>rt d (tP e f) g) λe=>dF zQ a (bY Tryz.f97 2 1) (ev (λf=>cond (Nat.beq f 8) b (undef))) c (λb c=>yB [i0,i0] c λc g h i j=>dF zQ a (bY Tryz.f97 3 0) (ev (λf=>cond (Nat.beq f 9) b (undef))) j (λa b=>Ext 0 a λf=>Br f (Ext 2 a λa=>lL a (Value.int .i32 48) λf=>lO f (λf=>lG a (Value.int .i32 57) λk=>(lV b k f)) λf=>lO (Value.bool f) (λf=>lE i i1 λk=>dr k true (λk=>lE h i0 λl=>(lV b l k)) (λk=>vF=Value.bool k) λk=>∀_:Fr,
(lV b (Value.bool k) f)) λf=>Br (Value.bool f) (JE e [h,i] b) (oM (iv 10) h λf=>lS a (Value.int .i32 48) λa=>aO .i64 a λa=>lA f a λa=>Bz a (iv 1048576) λa=>lA i i1 λf=>az c g [a,f] b [h,i] j)) (JE e [h,i] b)) (cK d)) (cK d)
theorem GL:qB L97 97:=λh=>sd (zA (zA (zE 1 [4,5] [] (zA (zB (zE 0 [4,5] [9] (zA (zA (zB (zA (zB (zB (zF 0 [] [1]))))))))))))) func97 h
def L98:Y0:=λ_ a b=>Build zQ 167 [(0,(.string (ByteArray.mk #[60,45,62]))),(1,(iv 9))] λc=>Build zQ 167 [(0,(.string (ByteArray.mk #[45,62]))),(1,(iv 8))] λd=>Build zQ 167 [(0,(.string (ByteArray.mk #[48]))),(1,i1)] λe=>Build zQ 167 [(0,(.string (ByteArray.mk #[49]))),(1,(iv 2))] λf=>Build zQ 167 [(0,(.string (ByteArray.mk #[33]))),(1,(iv 4))] λg=>Build zQ 167 [(0,(.string (ByteArray.mk #[38]))),(1,(iv 5))] λh=>Build zQ 167 [(0,(.string (ByteArray.mk #[94]))),(1,(iv 6))] λi=>Build zQ 167 [(0,(.string (ByteArray.mk #[124]))),(1,(iv 7))] λj=>Build zQ 167 [(0,(.string (ByteArray.mk #[40]))),(1,(iv 10))] λk=>Build zQ 167 [(0,(.string (ByteArray.mk #[41]))),(1,(iv 11))] λl=>Build zQ 167 [(0,(.string (ByteArray.mk #[91]))),(1,(iv 12))] λm=>Build zQ 167 [(0,(.string (ByteArray.mk #[63]))),(1,(iv 13))] λn=>Build zQ 167 [(0,(.string (ByteArray.mk #[58]))),(1,(iv 14))] λo=>Build zQ 167 [(0,(.string (ByteArray.mk #[93]))),(1,(iv 15))] λp=>ai zQ 165 14 [(0,c),(1,d),(2,e),(3,f),(4,g),(5,h),(6,i),(7,j),(8,k),(9,l),(10,m),(11,n),(12,o),(13,p)] a λa c=>rt b a c
theorem GK:qA L98 98:=λh=>sd .e func98 h
def L99:Y2:=λa b c d e=>CR e a 132 #[b,c] d λa b=>rt e a b
theorem GJ:qC L99 99:=λh=>sd .e func99 h
def L100:Y2:=λa b c d e=>CR e a 103 #[b] d λd f=>lQ 3 f #[i0,i0,i0] 162 d λd f=>lD 0 (pt d) f λg=>jB (λh i=>Br h (lD 0 (pt d) i λh=>Build zQ 134 [(0,h)] λh=>lK i h 134 λh j=>rt e (pt h) j) (lE g (iv 3) λh=>Br h (jA (λh=>lD 2 (pt d) h λj=>Build zQ 134 [(0,(iv 3)),(1,j)] λj=>lK h j 134 λh j=>rt e (pt h) j) λh=>lD 2 (pt d) i λj=>lM 1 b i λk=>oG j k λj=>Br j (av 3 i (pt d) λj=>CR e a 104 #[j,(iv 2)] i λ_ j=>JE h [] j) (JE h [] i)) (lE g (iv 4) λh=>Br h (av 3 i (pt d) λh=>CR e a 133 #[h,c] i λh j=>CR e a 100 #[b,h] j λh j=>ai zQ 132 1 [(0,h)] j λh j=>Build zQ 134 [(0,(iv 4)),(2,h)] λh=>lK j h 134 λh j=>rt e (pt h) j) (lE g (iv 10) λh=>Br h (av 3 i (pt d) λh=>CR e a 133 #[h,c] i λh j=>CR e a 58 #[b,i0,h] j λh j=>CR e a 59 #[b,(iv 11)] j λ_ j=>rt e h j) (lE g (iv 12) λh=>Br h (av 3 i (pt d) λh=>CR e a 133 #[h,c] i λc h=>CR e a 58 #[b,i0,c] h λh j=>CR e a 59 #[b,(iv 13)] j λ_ j=>CR e a 58 #[b,i0,c] j λj k=>CR e a 59 #[b,(iv 14)] k λ_ k=>CR e a 58 #[b,i0,c] k λc k=>CR e a 59 #[b,(iv 15)] k λ_ b=>ai zQ 132 3 [(0,h),(1,j),(2,c)] b λb c=>Build zQ 134 [(0,(iv 12)),(2,b)] λb=>lK c b 134 λb c=>rt e (pt b) c) (av 3 i (pt d) λb=>CR e a 104 #[b,(iv 14)] i λ_ a=>rt e (.pointer none) a)))))) λa=>lE g i1 λb=>Br b (JE a [b] f) (lE g (iv 2) λb=>JE a [b] f)
theorem Du:qC L100 100:=λh=>sd (zA (zA (zB (zA (zB (.h 1 [14] [0,1,5,13] .e (zA (zA (zB (zF 1 [] [5])))))))))) func100 h
def L101:Y1:=λ_ a b c=>ai zQ 214 5 [(0,(iv 9)),(1,(iv 8)),(2,(iv 7)),(3,(iv 6)),(4,(iv 5))] b λb d=>lI 1 b a d λa=>rt c a d
theorem Dt:qB L101 101:=λh=>sd .e func101 h
def L102:Y1:=λ_ a b c=>lW b #[i0,i0,i0] 162 λb d=>lM 0 a d λa=>aj 3 a i0 λa=>av 3 d a λa=>St 3 d (pt b) a λa=>av 3 a (pt b) λb=>rt c b a
theorem Ds:qB L102 102:=λh=>sd .e func102 h
def L103:Y1:=λ_ a b c=>lW b #[i0,i0,i0] 162 λb d=>lM 0 a d λe=>aj 3 e i0 λe=>av 3 d e λe=>lQ 3 d #[i0,i0,i0] 162 e λd e=>lM 0 a e λf=>dD 3 f (some i1) none λf=>lC 0 a λa=>St 1 e a f λa=>av 3 a (pt d) λd=>St 3 a (pt b) d λa=>av 3 a (pt b) λb=>rt c b a
theorem Dr:qB L103 103:=λh=>sd .e func103 h
def L104:Y2:=λa b c d e=>lK d b 162 λb d=>lD 1 (pt b) d λb=>Build zQ 121 [(0,b),(1,c)] λb=>dF zQ a (bY Tryz.f104 1 5) (ev (λa=>cond (Nat.beq a 8) (.iface 121 b) (undef))) d (λ_ a=>rt e (.tuple #[]) a) (cK e)
theorem Dq:qC L104 104:=λh=>sd .e func104 h
def L105:Y2:=λ_ a b c d=>oP a λe=>lO e (λe=>aO .i64 b λf=>lC 0 a λg=>ah 3 g λg=>Ld c g λg=>aX g λg=>oG f g λf=>(lV c f e)) λe=>Br (Value.bool e) (rt d i0 c) (lC 0 a λa=>ah 3 a λa=>Ld c a λa=>lI 1 a b c λa=>aO .i64 a λa=>rt d a c)
theorem Dp:qC L105 105:=λh=>sd (zA (zB (zB (zF 0 [] [1])))) func105 h
def L106:Y2:=λa b c d e=>ai zQ 37 1 [(0,c)] d λc d=>yA [c] d λc d f g=>aX f λh=>lG h i0 λh=>Br h (aX f λh=>lS h i1 λh=>lI 1 f h g λi=>dD 1 f none (some h) λh=>oQ i (ui 1) λj=>Br j (az c d [h] g [f] g) (lM 2 b g λj=>lI 1 j i g λk=>lS k (Value.int .i32 1) λk=>aj 1 j i λj=>St 1 g j k λj=>lM 2 b j λk=>lI 1 k i j λk=>lG k (Value.int .i32 0) λk=>Br k (az c d [h] j [f] g) (CR e a 45 #[b,i] j λj k=>lQ 3 k nC 60 j λj k=>DR k λl=>lM 1 b l λm=>av 3 l (pt j) λl=>CN a 134 #[m,l] k λ_ k=>lM 0 b k λb=>CR e a 135 #[b,i] k λ_ a=>lD 1 (pt j) a λb=>lD 2 (pt j) a λi=>ai zQ 37 2 [(0,b),(1,i)] a λa b=>App zQ 27 1 4 (ui 0) b h a λa b=>az c d [a] b [f] g))) (rt e (.tuple #[]) g)
theorem Dn:qC L106 106:=λh=>sd (zA (zB (zE 0 [4] [0] (zA (zB (hN 6 (zB (zF 0 (yR 6) [])))))))) func106 h
def L107:Y2:=λa b c d e=>oP b λf=>Br f (rt e (iv 10) d) (lC 0 b λf=>CR e a 44 #[f,c] d λa d=>Un .not a λa=>Br a (rt e (iv 3) d) (jA (λa=>lC 7 b λf=>St 1 a f sZ λa=>rt e i0 a) λa=>lG c (ui 1) λf=>Br f (lC 0 b λf=>ah 3 f λf=>Ld d f λf=>lI 1 f c d λf=>lE f (Value.int .i32 65535) λf=>Br f (rt e (iv 8) d) (lC 0 b λe=>ah 3 e λe=>Ld d e λe=>lI 1 e c d λf=>lA f (Value.int .i32 1) λf=>aj 1 e c λe=>St 1 d e f λe=>lC 0 b λf=>ah 3 f λf=>Ld e f λf=>lI 1 f c e λf=>lE f (Value.int .i32 1) λf=>Br f (lC 0 b λb=>ah 2 b λb=>Ld e b λb=>lI 1 b c e λf=>lA f (Value.int .i32 1) λf=>aj 1 b c λb=>St 1 e b f λb=>JE a [] b) (JE a [] e))) (JE a [] d)))
theorem tu:qC L107 107:=λh=>sd (zA (zA (zF 1 [] [0]))) func107 h
def L108:Y4:=λa b c d e f g=>oP b λh=>Br h (rt g (tP (ui 0) (iv 10)) f) (CR g a 136 #[b,c,d,e] f λf h=>lN f i0 λi=>Br i (rt g (tP (ui 0) f) h) (CR g a 137 #[b,c,d,e] h λf h=>lX f λf i=>jB (λj k=>CR g a 107 #[b,j] k λk l=>lN k i0 λm=>Br m (rt g (tP (ui 0) k) l) (rt g (tP j i0) l)) λj=>Un .not i λi=>Br i (lC 0 b λi=>CR g a 138 #[i,i1] h λi k=>Un .not i λi=>Br i (rt g (tP (ui 0) (iv 9)) k) (lC 0 b λb=>Build zQ 60 [(0,c),(1,d),(2,e)] λc=>CR g a 139 #[b,c] k λa b=>JE j [a] b)) (JE j [f] h)))
theorem Dm:qE L108 108:=λh=>sd (hN 4 (zF 1 [11] [0])) func108 h
def L109:Y2:=λa b c d e=>oP b λf=>Br f (rt e (tP (.pointer none) (iv 10)) d) (aX c λf=>yA [i0] d λd g h i=>lL h f λf=>Br f (lI 1 c h i λc=>CR e a 16 #[b,c] i λc f=>lX c λc j=>lQ 3 f nC 60 c λ_ c=>lN j i0 λf=>Br f (rt e (tP (.pointer none) j) c) (lA h i1 λf=>az d g [f] c [h] i)) (CR e a 22 #[b] i λc d=>cW 3 1 8 i0 d c c λc d=>Build zQ 221 [(0,b),(1,c)] λc=>lK d c 221 λc d=>CR e a 24 #[b] d λa b=>aX a λd=>yA [i0] b λb f g h=>lL g d λd=>Br d (lI 1 a g h λa=>lM 1 (pt c) h λd=>aj 1 d a λa=>St 1 h a g λa=>lA g i1 λd=>az b f [d] a [g] h) (rt e (tP (pt c) i0) h)))
theorem Dl:qC L109 109:=λh=>sd (zA (zA (.n (zA (zB (zF 0 [17] [0,15,16]))) (zA (zB (zA (zB (zF 0 [40] [10,38,39])))))))) func109 h
def L110:Y3:=λa b c d e f=>lK e b 176 λb e=>lK e c 181 λc e=>lK e d 183 λd e=>lW e #[(ui 0)] 27 λe g=>lW g #[i0] 33 λg h=>ni h λh i=>lQ 1 i #[(.map none)] 223 h λh i=>lW i #[.nilFunc] 224 λi j=>St 1 j (pt i) (.func (.func 142) #[] #[(pt h),(pt b),(pt d),(pt i)]) λd=>Ld d (pt i) λh=>av 3 d (pt c) λc=>bQ zQ a h #[c] d (λc d=>lX c λc h=>St 1 d (pt e) c λc=>St 1 c (pt g) h λc=>dL zQ a 140 #[(pt b),(pt e),(pt g)] c λa=>Ld a (pt e) λb=>Ld a (pt g) λc=>rt f (tP b c) a) EN
theorem Dk(h:L110 g a0 a1 a2 H R):sc g 110 #[a0,a1,a2] H R:=
 rF (hn:=(zA (zA .e))) func110 h zK
def L111:Y4:=λa b c _ d e f=>DR e λg=>Ld g d λd=>CN a 112 #[b] e λb e=>aG e g/\
oM (bi 2) b λb=>CN a 112 #[c] e λa c=>aG c g/\
lA b a λa=>oR d a λa=>oA a (bi 1) λa=>lE a (bi 1) λa=>rt f a c
theorem Dj:qE L111 111:=λh=>sd (zA (zB (zF 0 [0,1,4,2,3,5,6,7,8,9,10] []))) func111 h
def L112:Y1:=λ_ a b c=>Br a (rt c (bi 1) b) (rt c (bi 0) b)
theorem Di:qB L112 112:=λh=>sd .e func112 h
def L113:Y3:=λ_ a b c d e=>lU a (λf=>(lV d b f)) λf=>lO (Value.bool f) (λb=>Un .not a λa=>dr a true (λa=>(lV d c a)) (λa=>vF=Value.bool a) λa=>∀_:Fr,
(lV d (Value.bool a) b)) λb=>rt e (Value.bool b) d
theorem Dh:qD L113 113:=λh=>sd (zA (zB (zF 0 [] [1]))) func113 h
def L114:Y2:=λ_ a b c d=>ah 1 b λb=>Ld c b λb=>lI 1 b a c λa=>Un .xor a λa=>rt d a c
theorem Dg:qC L114 114:=λh=>sd .e func114 h
def L115:Y4:=λ_ a b c d e f=>ah 1 b λb=>Ld e b λb=>lI 1 b a e λb=>ah 1 c λc=>Ld e c λc=>lI 1 c a e λa=>Un .xor b λc=>Un .xor a λg=>oA c g λc=>Un .xor b λg=>oA g a λg=>Un .xor a λh=>oA b h λh=>oA b a λa=>ai zQ 28 4 [(0,c),(1,g),(2,h),(3,a)] e λa b=>aX a λc=>yB [(wi 0),i0] b λb e g h i=>lL h c λc=>Br c (jB (λc j=>lA h i1 λk=>az b e [c,k] j [g,h] i) λb=>lI 1 a h i λa=>Ld i d λc=>oR c h λc=>oA c (bi 1) λc=>lE c (bi 1) λc=>Br c (oO g a λa=>JE b [a] i) (JE b [g] i)) (rt f g i)
theorem Df:qE L115 115:=λh=>sd (hN 3 (zB (zA (zB (zE 0 [8,39] [3,37,38] (zA (zA (zF 1 [8] [3,37,38,39])))))))) func115 h
def L116:Y1:=λa b c d=>lK c b 30 λb c=>jB (λe f=>Br e (rt d vF f) (DR f λe=>lD 1 (pt b) e λg=>lD 1 (pt b) e λh=>aX h λh=>lS h i1 λh=>lI 1 g h e λg=>lD 0 (pt b) e λh=>CN a 90 #[h] f λf h=>aG h e/\
ae .num .andNot g f λe=>lE e (wi 0) λe=>rt d e h)) λd=>DR c λe=>lD 0 (pt b) e λf=>lL f i0 λf=>Br f (JE d [vT] c) (lD 0 (pt b) e λf=>lG f (iv 16) λf=>aB vF vT f λf=>Br f (JE d [vT] c) (lD 1 (pt b) e λf=>aX f λf=>lD 0 (pt b) e λb=>∀g:Hp,
CN (a.add g) 89 #[b] c λa b=>aG b e/\
lN f a λa=>aB vF vT a λa=>JE d [a] b))
theorem De:qB L116 116:=λh=>sd (zA (.n (zE 1 [19] [1] (zE 1 [] [] (hr 0 [] 0 3 (.h 2 [3] [] (hr 0 [] 4 3 (hr 3 [] 7 2 (hr 0 [] 9 7 (zF 3 [16] [])))) (hr 0 [] 4 4 (.h 2 [8] [] (hr 0 [] 9 7 (zF 3 [16] [])) (hr 0 [] 9 8 .e))))))) (zB (zF 0 (yR 14) [])))) func116 h
def L117:Y1:=λ_ a b c=>cW 3 1 8 i0 b a a λb d=>yA [i0] d λd e f g=>lL f a λa=>Br a (aj 1 b f λa=>St 1 g a f λa=>lA f i1 λh=>az d e [h] a [f] g) (rt c b g)
theorem Dd:qB L117 117:=λh=>sd (zA (zA (zB (zA (zB (zF 0 [8] [3,7])))))) func117 h
def L118:Y1:=λ_ a b c=>lL a (iv 2) λd=>lO d (λd=>lG a (iv 1048576) λe=>(lV b e d)) λd=>Br (Value.bool d) (rt c (tP (.pointer none) i1) b) (Build zQ 194 [(0,a),(3,(iv 2))] λa=>lK b a 194 λa b=>yA [(ui 0)] b λb d e f=>lL e (ui 2) λg=>Br g (lM 1 (pt a) f λg=>Build zQ 60 [(0,(iv (-1))),(1,e),(2,e)] λh=>Build zQ 207 [(0,h),(1,vT),(2,(bi 255))] λh=>ai zQ 192 1 [(0,h)] f λh i=>App zQ 207 5 24 (.agg #[i0,(ui 0),(ui 0),vF,(bi 0)]) i g h λg h=>lC 1 (pt a) λi=>St 1 h i g λg=>lA e (ui 1) λh=>az b d [h] g [e] f) (rt c (tP (pt a) i0) f))
theorem Dc:qB L118 118:=λh=>sd (zA (.n (zB (zF 0 [] [1])) (zA (zB (zA (zB (zF 0 [15] [4]))))))) func118 h
def L119:Y2:=λa b c d e=>lK d b 30 λb d=>av 2 d (pt b) λf=>ai zQ 38 1 [(0,f)] d λd f=>CR e a 76 #[d] f λa d=>Un .not a λa=>Br a (rt e (iv 5) d) (lL c i0 λa=>lO a (λa=>lD 0 (pt b) d λb=>oG c b λb=>(lV d b a)) λa=>Br (Value.bool a) (rt e (iv 2) d) (rt e i0 d))
theorem Db:qC L119 119:=λh=>sd (zA (zB (zB (zA (zA (zB (zF 0 [] [1]))))))) func119 h
def L120:Y3:=λa b c d e f=>lK e b 30 λb e=>lK e c 3 λc e=>lK e d 4 λd e=>lW e #[i0,sZ] 30 λe g=>lD 0 (pt b) g λh=>CR f a 42 #[h,(.func (.func 146) #[] #[(pt c),(pt d),(pt b)])] g λa b=>St 2 b (pt e) a λa=>av 2 a (pt e) λb=>rt f b a
theorem C9:qD L120 120:=λh=>sd .e func120 h
def L121:Y2:=λa b c d e=>jB (λf g=>Br f (rt e (tP (wi 0) vF) g) (oL (wi 1) c λf=>rt e (tP f vT) g)) λf=>lL c i0 λg=>Split g false (ae .ptr .neq b (.pointer none) λg=>Split g true (CR e a 22 #[b] d λa b=>oG c a λa=>aB vT a vF λa=>aB vF vT a λa=>JE f [a] b) (aB vF undef vF λa=>aB vF vT a λa=>JE f [a] d)) (aB vT vT undef λa=>JE f [a] d)
theorem C7:qC L121 121:=λh=>sd (zA (zB (zF 1 [17] [1]))) func121 h
def L122:Y3:=λa b c d e f=>oP b λg=>Br g (rt f (iv 10) e) (CR f a 22 #[b] e λe g=>oR c e λc=>lN c (wi 0) λc=>Br c (rt f (iv 2) g) (aX d λc=>yA [i0] g λe g h i=>lL h c λc=>Br c (lI 1 d h i λc=>CR f a 16 #[b,c] i λa b=>lX a λa c=>lQ 3 b nC 60 a λ_ a=>lN c i0 λb=>Br b (rt f (iv 3) a) (lA h i1 λb=>az e g [b] a [h] i)) (rt f i0 i)))
theorem C6:qD L122 122:=λh=>sd (hN 3 (zB (zA (zB (zF 0 [20] [0,18,19]))))) func122 h
def L123:Y3:=λ_ a b c d e=>lN c i0 λf=>Br f (rt e (tP (ui 0) c) d) (Un .not b λb=>Br b (rt e (tP (ui 0) (iv 8)) d) (rt e (tP a i0) d))
theorem nP:qD L123 123:=λh=>sd .e func123 h
def L124:Y4:=λa b c d e f g=>lK f c 27 λc f=>lK f d 3 λd f=>lK f e 4 λe f=>CR g a 147 #[b,(.func (.func 148) #[] #[(pt c),(pt d),(pt e)])] f λa b=>lX a λc d=>Ext 2 a λa=>rt g (.tuple #[c,d,a]) b
theorem CZ:qE L124 124:=λh=>sd .e func124 h
def L125:Y4:=λa b c d e f g=>ai zQ 37 1 [(0,c)] f λf h=>CR g a 122 #[b,d,f] h λf h=>lN f i0 λi=>Br i (rt g (tP (ui 0) f) h) (lE d (wi 0) λf=>Br f (CR g a 107 #[b,c] h λf i=>lN f i0 λj=>Br j (rt g (tP (ui 0) f) i) (rt g (tP c i0) i)) (CR g a 22 #[b] h λf h=>∃(i:Jt) (j:Mt),JE i [c,vF,i0] h/\∀c h k:zV,∀l:Hp,i [c,h,k] l->∀_:Fr,
lL k f λf=>Br f (jC (λf m n=>lA k i1 λo=>az i j [f,m,o] n [c,h,k] l) λf=>oR d k λd=>oA d (wi 1) λd=>lE d (wi 0) λd=>Br d (JE f [c,h] l) (CR g a 151 #[b,c,k,e] l λd e=>lX d λi j=>Ext 2 d λd=>CR g a 123 #[i,j,d] e λd e=>lX d λd i=>jA (λj=>lN i i0 λk=>Br k (rt g (tP (ui 0) i) j) (JE f [d,vT] j)) λd=>Br h (CR g a 61 #[b,c] e λ_ a=>JE d [] a) (JE d [] e))) (rt g (tP c i0) l)))
theorem CY:qE L125 125:=λh=>sd (hN 4 (zB (zA (zB (zE 0 [12,13,37] [0,2,3,36] (zA (zA (zE 1 [12,13] [0,2,3,36,37] (zB (hN 3 (zF 1 [] [0,2,3,15,16,36,37]))))))))))) func125 h
variable {g:Gh} {a0 a1 a2 a3 a4 a5 a6 a7 a8 a9 qy qx Tl Tk Tj Ti:zV} {H:Hp} {R:Rt}
def L126:Y2:=λa b c d e=>CR e a 152 #[b] d λd f=>Un .not d λd=>Br d (rt e (tP sZ (iv 5)) f) (jB (λd g=>Br d (rt e (tP sZ (iv 4)) g) (aX c λd=>lG d (iv 16) λd=>Br d (rt e (tP sZ (iv 6)) g) (CR e a 153 #[b] g λd g=>aX c λh=>∃(i:Jt) (j:Mt),JE i [sZ,d,i0] g/\∀d g k:zV,∀l:Hp,i [d,g,k] l->∀_:Fr,
lL k h λh=>Br h (lI 1 c k l λh=>CR e a 154 #[g,h] l λh m=>lX h λh n=>ai zQ 43 1 [(0,n)] m λm n=>App zQ 3 1 8 i0 n d m λm n=>lA k i1 λo=>az i j [m,h,o] n [d,g,k] l) (rt e (tP d i0) l)))) λd=>aX b λg=>lG g i0 λg=>Split g true (aX c λg=>aj 2 b i0 λb=>ah 0 b λb=>Ld f b λb=>lN g b λb=>aB vT b vF λb=>Split b false (CR e a 21 #[c] f λb g=>lE b (iv 4) λb=>aB vF vT b λb=>JE d [b] g) (aB vT vT undef λb=>JE d [b] f)) (aB vF undef vF λb=>CR e a 21 #[c] f λa c=>lE a (iv 4) λa=>aB b vT a λa=>JE d [a] c))
theorem CX:qC L126 126:=λh=>sd (zA (zA (.n (zF 1 [31] [0,1]) (hN 3 (zB (zA (zB (zF 0 [6,7,39] [37,38])))))))) func126 h
def L127:Y2:=λ_ a b c d=>aO .i64 b λe=>lM 1 a c λf=>aX f λf=>lL e f λe=>lU e (λe=>lM 1 a c λa=>aj 5 a b λa=>ah 3 a λa=>Ld c a λa=>(lV c a e)) λe=>rt d (Value.bool e) c
theorem CW:qC L127 127:=λh=>sd (zA (zB (zF 0 [] [1]))) func127 h
def L129:Y2:=λa b c d e=>lE c (iv 10) λf=>Br f (oQ i0 b λf=>lU f (λf=>lL b (iv 100) λg=>(lV d g f)) λf=>Br (Value.bool f) (CR e a 155 #[b] d λf g=>rt e f g) (lW d #[(bi 0),(bi 0),(bi 0),(bi 0),(bi 0),(bi 0),(bi 0),(bi 0),(bi 0),(bi 0),(bi 0),(bi 0),(bi 0),(bi 0),(bi 0),(bi 0),(bi 0),(bi 0),(bi 0),(bi 0),(bi 0),(bi 0),(bi 0),(bi 0)] 238 λf g=>aO .u64 b λh=>jB (λi j=>CR e a 156 #[i] j λj k=>lA i1 j λl=>bS zQ a (bY Tryz.f129 9 2) (ev (λm=>cond (Nat.beq m 5) (pt f) (cond (Nat.beq m 29) l (undef)))) k λl=>CR e a 157 #[l,i] k λ_ i=>lL b i0 λk=>Br k (gm 24 1 (pt f) i0 λk=>St 1 i k (bi 45) λk=>lA i1 j λl=>bS zQ a (bY Tryz.f129 12 2) (ev (λm=>cond (Nat.beq m 5) (pt f) (cond (Nat.beq m 37) l (undef)))) k λl=>gB k l λl=>rt e l k) (lA i1 j λj=>bS zQ a (bY Tryz.f129 13 2) (ev (λm=>cond (Nat.beq m 5) (pt f) (cond (Nat.beq m 41) j (undef)))) i λf=>gB i f λf=>rt e f i)) λf=>lL b i0 λi=>Br i (Un .neg h λi=>JE f [i] g) (JE f [h] g))) (aO .u64 b λf=>lL b i0 λb=>CR e a 158 #[sZ,f,c,b,vF] d λa b=>lX a λ_ a=>rt e a b)
theorem CV:qC L129 129:=λh=>sd (zA (zB (zA (zB (.n (zB (zF 0 [] [1])) (zA (zA (zF 1 [6] [0,5])))))))) func129 h
def L130:Y2:=λa b c d e=>oP b λf=>Br f (rt e (tP i0 (iv 10)) d) (jB (λf g=>Br f (rt e (tP i0 i1) g) (yA [i0] g λf g h i=>CR e a 94 #[b] i λj k=>lG j c λj=>Br j (CR e a 159 #[b] k λ_ j=>lA h i1 λl=>az f g [l] j [h] i) (rt e (tP h i0) k))) λf=>lL c i0 λg=>Split g false (CR e a 94 #[b] d λa b=>lG c a λa=>aB vF vT a λa=>JE f [a] b) (aB vT vT undef λa=>JE f [a] d))
theorem CQ:qC L130 130:=λh=>sd (zA (zA (.n (zF 1 [16] [0,1]) (zA (zB (zB (zF 0 [6] [0,1]))))))) func130 h
def L131:Y2:=λa b c d e=>lM 5 b d λf=>lI 1 f c d λf=>lM 5 b d λg=>lA c i1 λh=>lI 1 g h d λg=>CR e a 160 #[b,f,g] d λd h=>DR h λ_=>lC 0 b λi=>CN a 161 #[b,f,d] h λh j=>CN a 138 #[i,h] j λh i=>Un .not h λh=>Br h (rt e vF i) (aX d λh=>yA [i0] i λi j k l=>lL k h λh=>Br h (aj 8 d k λh=>av 8 l h λh=>lQ 8 l #[(ui 0),i0,(ui 0),(ui 0),(ui 0),(ui 0),(ui 0),(ui 0)] 248 h λh m=>DR m λn=>lC 0 b λo=>ah 1 o λo=>Ld n o λo=>ah 1 (pt h) λh=>av 3 n h λh=>CN a 134 #[o,h] m λ_ h=>lA k i1 λm=>az i j [m] h [k] l) (aX d λh=>yA [i0] l λi j k l=>lL k h λh=>Br h (aj 8 d k λh=>av 8 l h λh=>lQ 8 l #[(ui 0),i0,(ui 0),(ui 0),(ui 0),(ui 0),(ui 0),(ui 0)] 248 h λh m=>DR m λn=>lC 0 b λo=>lD 4 (pt h) n λp=>lD 6 (pt h) n λn=>CN a 162 #[o,f,p,n] m λm n=>lC 0 b λo=>CR e a 163 #[o,m] n λ_ n=>DR n λo=>lC 0 b λp=>lD 5 (pt h) o λq=>lD 7 (pt h) o λo=>CN a 162 #[p,f,q,o] n λn o=>lC 0 b λp=>CR e a 163 #[p,n] o λ_ o=>Build zQ 60 [(0,g),(1,m),(2,n)] λm=>lQ 3 o nC 60 m λm n=>DR n λo=>lC 0 b λp=>ah 0 p λp=>Ld o p λp=>lD 0 (pt h) o λq=>av 3 o (pt m) λo=>CN a 164 #[p,q,o] n λ_ n=>DR n λo=>lC 0 b λp=>ah 1 p λp=>Ld o p λp=>av 3 o (pt m) λm=>lD 0 (pt h) o λh=>CN a 165 #[p,m,h] n λ_ h=>lA k i1 λm=>az i j [m] h [k] l) (aX d λh=>yA [i0] l λi j k l=>lL k h λh=>Br h (aj 8 d k λd=>av 8 l d λd=>lQ 8 l #[(ui 0),i0,(ui 0),(ui 0),(ui 0),(ui 0),(ui 0),(ui 0)] 248 d λd h=>DR h λm=>lC 0 b λn=>ah 1 (pt d) λo=>ah 1 o λo=>Ld m o λm=>CN a 106 #[n,m] h λ_ h=>DR h λm=>lC 0 b λn=>ah 1 (pt d) λd=>ah 2 d λd=>Ld m d λd=>CN a 106 #[n,d] h λ_ a=>lA k i1 λd=>az i j [d] a [k] l) (DR l λa=>lM 5 b a λd=>lM 5 b a λa=>lA c i1 λh=>aj 1 d c λd=>St 1 l d g λd=>aj 1 a h λa=>St 1 d a f λa=>DR a λd=>lM 6 b d λh=>lM 6 b d λb=>lA c i1 λd=>aj 1 h f λf=>St 1 a f d λa=>aj 1 b g λb=>St 1 a b c λa=>rt e vT a))))
theorem CK:qC L131 131:=λh=>sd (hN 3 (.n (zB (zF 0 (yR 9) [])) (.n (zA (zB (zE 0 [47] [0,1,5,6,7,45,46] (zA (zA (zB (zB (zA (zF 0 (yR 8) []))))))))) (.n (zA (zB (zE 0 [62] [0,1,5,6,7,60,61] (zA (zA (zB (zB (zA (.n (zF 0 (yR 10) []) (zA (.n (zF 0 (yR 10) []) (zA (zA (.n (zF 0 (yR 9) []) (zF 0 (yR 9) []))))))))))))))) (.n (zA (zB (zE 0 [119] [0,1,5,6,117,118] (zA (zA (zB (zB (zA (.n (zF 0 (yR 7) []) (zF 0 (yR 7) [])))))))))) (.n (zF 0 (yR 17) []) (zB (zF 0 (yR 17) [])))))))) func131 h
def L132:Y2:=λa b c d e=>dR b λf=>dR c λg=>oG f g λf=>lU f (λf=>dR c λg=>bS zQ a (bY Tryz.f132 1 9) (ev (λa=>cond (Nat.beq a 11) b (cond (Nat.beq a 13) g (undef)))) d λa=>ae .str .eql a c λa=>(lV d a f)) λf=>rt e (Value.bool f) d
theorem CJ:qC L132 132:=λh=>sd (zA (zB (zF 0 [] [1]))) func132 h
def L133:Y2:=λa b c d e=>lK d b 162 λb d=>jA (λf=>lA c i1 λg=>rt e g f) λf=>oG c (iv 1000) λc=>Br c (av 3 d (pt b) λb=>CR e a 104 #[b,(iv 7)] d λ_ a=>JE f [] a) (JE f [] d)
theorem CI:qC L133 133:=λh=>sd (zA (zF 1 [] [1])) func133 h
def L134:Y2:=λa b c d e=>lK d c 60 λc d=>lD 0 (pt c) d λf=>CR e a 166 #[b,f] d λa d=>lN a i0 λf=>Br f (rt e a d) (lM 0 b d λa=>lD 0 (pt c) d λf=>lI 1 a f d λa=>av 3 d (pt c) λf=>iZ zQ 60 (ui 0) true d a f λa=>lX a λ_ a=>Un .not a λa=>Br a (rt e (iv 10) d) (DR d λa=>lM 0 b a λb=>lD 0 (pt c) a λf=>lI 1 b f a λb=>av 3 a (pt c) λc=>o6 zQ 60 d b c λb=>aG b a/\
rt e i0 b))
theorem CG:qC L134 134:=λh=>sd (hN 3 (zB (zF 0 (yR 10) []))) func134 h
def L135:Y2:=λa b c d e=>oP b λf=>Br f (rt e (iv 10) d) (CR e a 167 #[b,c] d λa d=>lN a i0 λf=>Br f (rt e a d) (lM 1 b d λa=>Build zQ 207 [] λf=>aj 5 a c λa=>St 5 d a f λa=>lM 2 b a λd=>ai zQ 37 1 [(0,c)] a λa c=>App zQ 27 1 4 (ui 0) c d a λa c=>lC 2 b λd=>St 1 c d a λa=>lM 3 b a λc=>lS c i1 λc=>lC 3 b λb=>St 1 a b c λa=>rt e i0 a))
theorem CE:qC L135 135:=λh=>sd .e func135 h
def L136:Y4:=λa b c d e f g=>CR g a 168 #[b,c] f λf h=>Un .not f λf=>Br f (rt g (iv 2) h) (jB (λf i=>Br f (rt g (iv 3) i) (jB (λf j=>Br f (rt g (iv 4) j) (rt g i0 j)) λf=>DR i λj=>lN d e λk=>Br k (lM 6 b j λk=>lI 1 k c j λc=>∀k:Hp,
CN (a.add k) 169 #[b,d] i λk l=>aG l j/\
∀m:Hp,
CN (a.add m) 169 #[b,e] l λl m=>aG m j/\
Bz k l λj=>oG c j λc=>aB vT c vF λc=>JE f [c] m) (JE f [vF] i))) λc=>lC 0 b λf=>CR g a 44 #[f,d] h λd f=>Un .not d λd=>Split d false (lC 0 b λb=>CR g a 44 #[b,e] f λa b=>Un .not a λa=>aB vF vT a λa=>JE c [a] b) (aB vT vT undef λa=>JE c [a] f))
theorem CD:qE L136 136:=λh=>sd (zA (zB (zB (zA (zA (.h 1 [14] [0,1,2,3] .e (zA (zE 1 [29] [] (zE 1 [] [] (hr 0 [] 0 3 (.h 2 [3] [] (hr 0 [] 4 9 (hr 0 [] 14 2 (zE 0 [13] [] (hr 0 [] 16 5 .e)))) (hr 0 [] 4 15 (hr 3 [] 19 2 .e))))))))))))) func136 h
def L137:Y4:=λa b c d e f g=>lE d e λh=>Br h (rt g (tP d vT) f) (lC 0 b λb=>ah 1 b λb=>Ld f b λb=>Build zQ 60 [(0,c),(1,d),(2,e)] λc=>CR g a 170 #[b,c] f λa b=>lX a λa c=>rt g (tP a c) b)
theorem CC:qE L137 137:=λh=>sd .e func137 h
def L138:Y2:=λa b c d e=>DR d λf=>lM 0 b f λg=>lM 0 b f λb=>CN a 82 #[g] d λd g=>aG g f/\
lA d c λc=>CN a 81 #[b] g λa b=>aG b f/\
oQ c a λa=>rt e a b
theorem CB:qC L138 138:=λh=>sd (zA (zB (zF 0 [0,1,2,3,5,7,8,9,10,4,6,11,12,13] []))) func138 h
def L139:Y2:=λa b c d e=>lK d c 60 λc d=>DR d λf=>lM 0 b f λg=>av 3 f (pt c) λh=>CN a 171 #[g,h] d λd g=>aG g f/\
lX d λd _=>∃(f:Jt) (h:Mt),JE f [] g/\∀g:Hp,f [] g->∀_:Fr,
aO .i64 d λi=>lM 2 b g λj=>aX j λj=>oG i j λi=>Br i (lM 2 b g λi=>ai zQ 99 1 [(0,(Value.int .i32 0))] g λj k=>App zQ 21 1 4 (Value.int .i32 0) k i j λi j=>lC 2 b λk=>St 1 j k i λi=>lM 3 b i λj=>ai zQ 99 1 [(0,(Value.int .i32 0))] i λi k=>App zQ 21 1 4 (Value.int .i32 0) k j i λi j=>lC 3 b λk=>St 1 j k i λi=>az f h [] i [] g) (DR g λf=>lM 2 b f λh=>lM 3 b f λf=>aj 1 h d λh=>St 1 g h (Value.int .i32 0) λg=>aj 1 f d λf=>St 1 g f (Value.int .i32 0) λf=>lD 1 (pt c) f λg=>CR e a 163 #[b,g] f λ_ f=>lD 2 (pt c) f λg=>CR e a 163 #[b,g] f λ_ f=>DR f λg=>lM 1 b g λb=>av 3 g (pt c) λc=>CN a 165 #[b,c,d] f λ_ a=>rt e d a)
theorem Cz:qC L139 139:=λh=>sd (zA (.n (zF 0 (yR 11) []) (.n (zB (zF 0 [] [0,3,5])) (.n (zF 0 (yR 14) []) (zA (zA (zB (zF 0 (yR 7) [])))))))) func139 h
def L140:Y3:=λa b c d e f=>Ld e b λb=>Ld e c λg=>Ld e d λh=>CR f a 141 #[b,g,h] e λa b=>lX a λa e=>St 1 b c a λa=>St 1 a d e λa=>rt f (.tuple #[]) a
theorem zy(h:L140 g a0 a1 a2 H R):gR zQ g 140 #[a0,a1,a2] H R:=
 rG (hn:=.e) func140 h zK
def L141:Y3:=λa b c d e f=>lE c (ui 0) λg=>lO g (λg=>lE c (ui 1) λh=>(lV e h g)) λg=>lM 2 b e λh=>aX h λi=>yB [(Value.bool g),i0] e λe g j k l=>lL k i λi=>Br i (jB (λi m=>lA k i1 λn=>az e g [i,n] m [j,k] l) λe=>lI 1 h k l λg=>lE g c λh=>lU h (λh=>Un .not j λi=>(lV l i h)) λh=>lU (Value.bool h) (λh=>lE d i0 λi=>(lV l i h)) λh=>Br (Value.bool h) (JE e [vT] l) (lM 0 b l λh=>CR f a 61 #[h,g] l λ_ g=>JE e [j] g)) (lC 2 b λe=>St 1 l e sZ λe=>jA (λg=>rt f (tP c i0) g) λg=>lN d i0 λh=>Br h (rt f (tP (ui 0) d) e) (Un .not j λd=>Br d (rt f (tP (ui 0) (iv 8)) e) (lE c (ui 0) λd=>lO d (λd=>lE c (ui 1) λh=>(lV e h d)) λd=>Br (Value.bool d) (lM 0 b e λb=>CR f a 107 #[b,c] e λ_ a=>JE g [] a) (JE g [] e))))
theorem Cy:qD L141 141:=λh=>sd (zA (.n (zF 0 [] [1]) (.n (zA (zB (zE 0 [8,22] [0,1,2,20,21] (zA (zA (zE 1 [8] [0,1,2,20,21,22] (zB (zA (zB (zB (zF 0 [] [1]))))))))))) (zA (zE 1 [] [1] (zB (hN 4 (zB (zF 0 [] [1]))))))))) func141 h
def L142:Y5:=λa b c d e f g h=>lK g b 181 λb g=>Ld g c λi=>av 3 g (pt b) λj=>iZ zQ 181 (ui 0) true g i j λi=>lX i λi j=>Br j (rt h (tP i i0) g) (Ld g d λi=>av 3 g (pt b) λj=>CR h a 143 #[i,j] g λg i=>Ld i d λj=>CR h a 144 #[j,g] i λi j=>lL i i0 λk=>Br k (Ld j e λe=>gm 3 1 (pt b) i0 λk=>Ld j k λk=>lE k (ui 1) λk=>gm 3 1 (pt b) i1 λl=>Ld j l λl=>lE l (ui 1) λl=>gm 3 1 (pt b) (iv 2) λm=>Ld j m λm=>lE m (ui 1) λm=>bQ zQ a e #[k,l,m] j (λe k=>Br e (rt h (tP (ui 1) i0) k) (rt h (tP (ui 0) i0) k)) (cK h)) (DR j λe=>av 3 e (pt b) λk=>av 3 e (pt b) λl=>lW j #[(ui 0),(ui 0),(ui 0)] 181 λj m=>lW m #[(ui 0),(ui 0),(ui 0)] 181 λm n=>∀_:Hp,
St 3 n (pt j) k λk=>aG k e/\
∀_:Hp,
St 3 k (pt m) l λe=>aX g λk=>yA [i0] e λe l n o=>lL n k λk=>Br k (jA (λk=>lA n i1 λp=>az e l [p] k [n] o) λe=>aj 3 g n λg=>av 3 o g λg=>lQ 3 o nC 60 g λg k=>lD 0 (pt g) k λl=>lE l i λl=>Br l (DR k λl=>lD 1 (pt g) l λp=>lD 2 (pt g) l λg=>gm 3 1 (pt j) n λq=>St 1 k q p λp=>aG p l/\
gm 3 1 (pt m) n λl=>St 1 p l g λg=>JE e [] g) (JE e [] k)) (Ld o f λe=>av 3 o (pt j) λg=>bQ zQ a e #[g] o (λe g=>lX e λe j=>lN j i0 λk=>Br k (rt h (tP (ui 0) j) g) (Ld g f λf=>av 3 g (pt m) λj=>bQ zQ a f #[j] g (λf g=>lX f λf j=>lN j i0 λk=>Br k (rt h (tP (ui 0) j) g) (Ld g d λd=>CR h a 145 #[d,i,e,f] g λa d=>lX a λa e=>jA (λf=>rt h (tP a e) f) λf=>lE e i0 λe=>Br e (Ld d c λc=>av 3 d (pt b) λb=>gS zQ 181 d c b a λa=>JE f [] a) (JE f [] d))) (cK h))) (cK h))))
theorem tt:qF L142 142:=λh=>sd (hN 5 (.n (zE 1 [] [] (hr 0 [] 0 2 (hr 1 [] 2 2 (hr 0 [] 2 4 .e)))) (.n (zA (zB (zE 0 [51] [1,2,4,5,11,12,13,49,50] (zA (zA (zE 1 [] [1,2,4,5,11,12,13,49,50,51] (zB (zA (zA (zB (zF 0 (yR 10) []))))))))))) (hN 5 (zF 1 [] [17,19]))))) func142 h
def L143:Y2:=λa b c d e=>lK d c 181 λc d=>av 3 d (pt c) λc=>yB [sZ,i0] d λd f g h i=>lL h (iv 3) λj=>Br j (bS zQ a (bY Tryz.f143 4 0) (ev (λj=>cond (Nat.beq j 10) c (cond (Nat.beq j 11) h (undef)))) i λc=>lM 0 b i λb=>CR e a 16 #[b,c] i λa b=>lX a λa _=>lQ 3 b nC 60 a λa b=>av 3 b (pt a) λa=>ai zQ 225 1 [(0,a)] b λa b=>App zQ 60 3 16 (.agg nC) b g a λa b=>lA h i1 λc=>az d f [a,c] b [g,h] i) (rt e g i)
theorem Cw:qC L143 143:=λh=>sd (zA (zA (zB (zA (zB (zF 0 [5,11] [0,10])))))) func143 h
def L144:Y2:=λ_ a b c d=>aX b λe=>yB [(iv (-1)),i0] c λc f g h i=>lL h e λe=>Br e (jB (λe j=>lA h i1 λk=>az c f [e,k] j [g,h] i) λc=>aj 3 b h λb=>av 3 i b λb=>lQ 3 i nC 60 b λb e=>lD 0 (pt b) e λf=>oG f i0 λf=>lU f (λf=>lL g i0 λh=>dr h false (λh=>lM 1 a e λj=>lD 0 (pt b) e λk=>lI 1 j k e λj=>lM 1 a e λa=>lI 1 a g e λa=>lL j a λa=>(lV e a h)) (λh=>vT=Value.bool h) λh=>∀_:Fr,
(lV e (Value.bool h) f)) λf=>Br (Value.bool f) (lD 0 (pt b) e λa=>JE c [a] e) (JE c [g] e)) (rt d g i)
theorem Cv:qC L144 144:=λh=>sd (zA (zA (zB (zA (zB (zE 0 [5,10] [0,8,9] (zA (zA (zF 1 [5] [0,8,9,10]))))))))) func144 h
def L145:Y4:=λa b c d e f g=>lE d e λh=>Br h (rt g (tP d i0) f) (lM 0 b f λh=>CR g a 108 #[h,c,d,e] f λf h=>lX f λf i=>jA (λj=>rt g (tP (ui 0) i) j) λj=>lE i i0 λk=>Br k (lM 2 b h λk=>ai zQ 37 1 [(0,f)] h λl m=>App zQ 27 1 4 (ui 0) m k l λk l=>lC 2 b λm=>St 1 l m k λk=>rt g (tP f i0) k) (lE i (iv 8) λf=>Br f (lM 0 b h λb=>CR g a 172 #[b,c,d,e] h λa b=>lX a λa c=>Br c (rt g (tP a i0) b) (JE j [] b)) (JE j [] h)))
theorem tq:qE L145 145:=λh=>sd (hN 3 (zF 1 [] [11])) func145 h
def L146:Y4:=λa b c d e f g=>Ld f c λh=>oG h (iv 6) λh=>Br h (Ld f c λh=>lS h (iv 6) λh=>oL i1 h λh=>ae .num .andNot b h λh=>jB (λi j=>ah 1 e λk=>Ld j k λk=>lI 1 k i j λi=>rt g i j) λi=>Ld f d λj=>Br j (Ld f c λj=>lS j (iv 6) λj=>oL i1 j λj=>oO h j λj=>JE i [j] f) (JE i [h] f)) (DR f λh=>Ld h c λi=>Ld h c λc=>oL i1 c λc=>CN a 75 #[i,i0] f λa f=>aG f h/\
Ld f d λd=>Br d (ah 1 e λd=>Ld f d λd=>lI 1 d b f λd=>oA d a λd=>oR d c λh=>oO d h λd=>rt g d f) (ah 1 e λd=>Ld f d λd=>lI 1 d b f λb=>ae .num .andNot b a λa=>oL a c λb=>oO a b λa=>rt g a f))
theorem Cu:qE L146 146:=λh=>sd (zA (.n (zA (zB (zA (zF 1 [6] [3])))) (zB (zF 0 [0,2,3,1,4,5] [])))) func146 h
def L147:Y2:=λa b c d e=>lK d b 36 λb d=>Ld d (pt b) λf=>ni d λd g=>Build zQ 256 [(0,f),(1,d)] λd=>lK g d 256 λd f=>lQ 1 f #[(.pointer none)] 229 (pt d) λd f=>Ld f (pt b) λg=>CF a 107 #[g,(ui 1)] f (λ_ f=>Ld f (pt d) λg=>bQ zQ a c #[g] f (λc f=>Ld f (pt d) λg=>lM 2 g f λg=>lN g i0 λg=>Br g (Ld f (pt d) λg=>lM 2 g f λg=>dL zQ a 173 #[(pt d),(pt b)] f λh=>rt e (.tuple #[(ui 0),vF,g]) h) (Ld f (pt d) λg=>lM 1 g f λg=>qP (.int .u32) i0 false f g c λg=>lG g i0 λg=>Br g (Ld f (pt d) λg=>lM 1 g f λg=>tg (.int .u32) f g c λg=>dL zQ a 173 #[(pt d),(pt b)] g λg=>rt e (.tuple #[c,vT,i0]) g) (Ld f (pt b) λg=>CF a 107 #[g,c] f (λf g=>lE f i0 λf=>dL zQ a 173 #[(pt d),(pt b)] g λa=>rt e (.tuple #[c,f,i0]) a) EN))) EN) EN
theorem Cr(h:L147 g a0 a1 H R):sc g 147 #[a0,a1] H R:=
 rF (hn:=(hN 4 .e)) func147 h zK
def L148:Y4:=λa b c d e f g=>Ld f c λc=>Ld f d λd=>CR g a 149 #[b,c,d,(.func (.func 150) #[] #[e])] f λa b=>rt g a b
theorem Cq:qE L148 148:=λh=>sd .e func148 h
def L149:Y4:=λa b c d e f g=>lK f b 229 λb f=>lK f e 219 λe f=>Ld f (pt b) λh=>lM 0 h f λh=>CR g a 174 #[h,d] f λd f=>lX d λd _=>lQ 1 f #[i0] 3 d λd f=>ni f λf h=>lQ 1 h #[(.map none)] 258 f λf h=>lW h #[.nilFunc] 259 λh i=>St 1 i (pt h) (.func (.func 175) #[] #[(pt b),(pt d),(pt f),(pt e),(pt h)]) λb=>Ld b (pt h) λd=>bQ zQ a d #[c] b (λa b=>rt g a b) (cK g)
theorem Cp:qE L149 149:=λh=>sd .e func149 h
def L150:Y2:=λ_ a b c d=>lK c a 60 λa c=>Ld c b λb=>Br b (lD 2 (pt a) c λb=>rt d b c) (lD 1 (pt a) c λa=>rt d a c)
theorem Co:qC L150 150:=λh=>sd .e func150 h
def L151:Y4:=λa b c d e f g=>lK f c 27 λc f=>lK f d 3 λd f=>lK f e 4 λe f=>CR g a 147 #[b,(.func (.func 178) #[] #[(pt c),(pt d),(pt e)])] f λa b=>lX a λc d=>Ext 2 a λa=>rt g (.tuple #[c,d,a]) b
theorem Cn:qE L151 151:=λh=>sd .e func151 h
def L152:Y1:=λa b c d=>aX b λe=>yA [i0] c λc f g h=>lL g e λe=>Br e (aj 2 b g λe=>av 2 h e λe=>lQ 2 h #[i0,sZ] 30 e λe i=>jB (λj k=>Br j (rt d vF k) (lA g i1 λj=>az c f [j] k [g] h)) λc=>DR i λf=>av 2 f (pt e) λg=>∀j:Hp,
CN (a.add j) 116 #[g] i λa g=>aG g f/\
Un .not a λa=>Br a (JE c [vT] g) (lD 0 (pt e) f λa=>aj 2 b i0 λb=>ah 0 b λb=>Ld f b λb=>lN a b λa=>aB vF vT a λa=>JE c [a] g)) (rt d vT h)
theorem Cm:qB L152 152:=λh=>sd (zA (zB (zA (zB (zE 0 [7] [0,5,6] (zA (zA (zB (zB (zA (zE 1 [22] [0,5,6,7] (zE 1 [] [] (hr 0 [] 0 3 (.h 2 [3] [] (hr 0 [] 4 7 (zF 3 [11] [])) (hr 0 [] 4 8 .e))))))))))))))) func152 h
def L153:Y1:=λa b c d=>ni c λc e=>aX b λf=>yA [i0] e λe g h i=>lL h f λf=>Br f (aj 2 b h λb=>av 2 i b λb=>lQ 2 i #[i0,sZ] 30 b λb f=>av 2 f (pt b) λb=>CR d a 181 #[c,b] f λ_ a=>lA h i1 λb=>az e g [b] a [h] i) (rt d c i)
theorem Ck:qB L153 153:=λh=>sd (zA (zA (zB (zA (zB (zF 0 [9] [3,7,8])))))) func153 h
def L154:Y2:=λa b c d e=>ni d λd f=>Tn f b λb f=>yA [i0] f λf g h i=>Si i b λj k=>Ext 0 j λj=>Br j (Il k b λb=>Ext 1 b λb=>lQ 2 k #[i0,sZ] 30 b λb j=>av 2 j (pt b) λl=>CR e a 83 #[l,c,vF] j λj l=>lX j λj _=>lQ 2 l #[i0,sZ] 30 j λj l=>av 2 l (pt b) λb=>CR e a 83 #[b,c,vT] l λb c=>lX b λb _=>lQ 2 c #[i0,sZ] 30 b λb c=>DR c λl=>av 2 l (pt j) λm=>av 2 l (pt b) λn=>CN a 182 #[m] c λc m=>aG m l/\
CN a 182 #[n] m λa m=>aG m l/\
jB (λl n=>DR n λo=>av 2 o (pt j) λj=>av 2 o (pt b) λb=>fF (.string) n d c j λj=>aG j o/\
fF (.string) j d a b λb=>az f g [l] b [h] i) λb=>ae .str .neq c a λa=>Br a (lA h i1 λa=>JE b [a] m) (JE b [h] m)) (rt e (tP d h) k)
theorem Cj:qC L154 154:=λh=>sd (zA (zA (zB (zA (zB (zE 0 [7] [1,6,18] (zA (zA (zB (hN 3 (.n (zF 0 [0,2,1,3,4,5] []) (.h 1 [7] [1,6,10,12,14,15,18] .e (zF 0 (yR 8) []))))))))))))) func154 h
def L155:Y1:=λa b c d=>lL b (iv 10) λe=>Br e (lA b i1 λe=>bS zQ a (bY Tryz.f155 2 3) (ev (λf=>cond (Nat.beq f 5) b (cond (Nat.beq f 7) e (undef)))) c λe=>rt d e c) (oM b (iv 2) λe=>oM b (iv 2) λb=>lA b (iv 2) λb=>bS zQ a (bY Tryz.f155 3 5) (ev (λf=>cond (Nat.beq f 10) e (cond (Nat.beq f 13) b (undef)))) c λa=>rt d a c)
theorem Ch:qB L155 155:=λh=>sd .e func155 h
variable {g:Gh} {a0 a1 a2 a3 a4 a5 a6 a7 a8 a9 qy qx Tl Tk Tj Ti:zV} {H:Hp} {R:Rt}
def L159:Y1:=λa b c d=>oP b λe=>lO e (λe=>lM 7 b c λf=>aX f λf=>lE f i0 λf=>(lV c f e)) λe=>Br (Value.bool e) (rt d (tP i0 (iv 10)) c) (lM 7 b c λe=>aX e λe=>lS e i1 λe=>lM 7 b c λf=>lI 1 f e c λf=>CR d a 131 #[b,f] c λ_ a=>lM 7 b a λc=>dD 1 c none (some e) λc=>lC 7 b λb=>St 1 a b c λa=>rt d (tP f i0) a)
theorem Cg:qB L159 159:=λh=>sd (zA (zB (zB (zF 0 [] [1])))) func159 h
def L160:Y3:=λa b c d e f=>lC 0 b λg=>ah 1 g λg=>Ld e g λg=>CR f a 188 #[g,c] e λc e=>lX c λc _=>aX c λg=>yB [sZ,i0] e λe h i j k=>lL j g λg=>Br g (jB (λg l=>lA j i1 λm=>az e h [g,m] l [i,j] k) λe=>lI 1 c j k λc=>lC 0 b λg=>CR f a 45 #[g,c] k λg h=>lQ 3 h nC 60 g λg h=>jB (λj l=>Br j (JE e [i] l) (av 3 l (pt g) λj=>Build zQ 248 [(0,c),(1,j)] λc=>lQ 8 l #[(ui 0),i0,(ui 0),(ui 0),(ui 0),(ui 0),(ui 0),(ui 0)] 248 c λc j=>lD 1 (pt g) j λl=>CR f a 189 #[b,l,d] j λj l=>lX j λj m=>ah 4 (pt c) λn=>St 1 l n j λj=>ah 5 (pt c) λl=>St 1 j l m λj=>lD 2 (pt g) j λl=>CR f a 189 #[b,l,d] j λj l=>lX j λj m=>ah 6 (pt c) λn=>St 1 l n j λj=>ah 7 (pt c) λl=>St 1 j l m λj=>av 8 j (pt c) λc=>ai zQ 244 1 [(0,c)] j λc j=>App zQ 248 8 40 (.agg #[(ui 0),i0,(ui 0),(ui 0),(ui 0),(ui 0),(ui 0),(ui 0)]) j i c λc j=>JE e [c] j)) λc=>DR h λe=>lC 0 b λj=>lD 1 (pt g) e λl=>∀m:Hp,
CN (a.add m) 45 #[j,l] h λh j=>aG j e/\
Iz 0 h λh=>lN h d λh=>Br h (lC 0 b λb=>lD 2 (pt g) e λg=>∀h:Hp,
CN (a.add h) 45 #[b,g] j λa b=>aG b e/\
Iz 0 a λa=>lN a d λa=>aB vT a vF λa=>JE c [a] b) (JE c [vF] j)) (rt f i k)
theorem Ce:qD L160 160:=λh=>sd (hN 3 (zB (zA (zB (zE 0 [7,26] [0,2,24,25] (zA (zA (zE 1 [7] [0,2,24,25,26] (zB (zA (zA (zB (zE 1 [54] [0,2,7,11,12,24,25,26] (zE 1 [] [] (hr 0 [] 0 5 (zE 0 [7] [] (hr 0 [] 5 2 (zE 0 [8] [] (.h 2 [9] [] (hr 0 [] 10 5 (zE 0 [17] [] (hr 0 [] 15 2 (hr 0 [] 18 2 .e)))) (hr 0 [] 10 9 (zF 3 [19] []))))))))))))))))))))) func160 h
def L161:Y3:=λa b c d e f=>ni e λe g=>aX d λh=>yA [i0] g λg i j k=>lL j h λh=>Br h (aj 8 d j λd=>av 8 k d λd=>lQ 8 k #[(ui 0),i0,(ui 0),(ui 0),(ui 0),(ui 0),(ui 0),(ui 0)] 248 d λd h=>lD 4 (pt d) h λl=>lD 6 (pt d) h λm=>Build zQ 60 [(0,c),(1,l),(2,m)] λl=>lD 5 (pt d) h λm=>lD 7 (pt d) h λd=>Build zQ 60 [(0,c),(1,m),(2,d)] λc=>ai zQ 225 2 [(0,l),(1,c)] h λc d=>aX c λh=>yA [i0] d λd l m n=>lL m h λh=>Br h (jA (λh=>lA m i1 λo=>az d l [o] h [m] n) λd=>aj 3 c m λc=>av 3 n c λc=>lQ 3 n nC 60 c λc h=>DR h λl=>lC 0 b λb=>ah 1 b λb=>Ld l b λb=>av 3 l (pt c) λm=>CN a 170 #[b,m] h λb h=>aG h l/\
lX b λ_ b=>Un .not b λb=>lU b (λb=>lD 1 (pt c) h λl=>lD 2 (pt c) h λm=>lN l m λl=>(lV h l b)) λb=>Br (Value.bool b) (Sh zQ a 10 (mM Tryz.f161 10) [7,11] [e,(pt c)] h λa=>∀_:Fr,
JE d [] a) (JE d [] h)) (lA j i1 λa=>az g i [a] n [j] k)) (zv k e λa=>rt f a k)
theorem Cd:qD L161 161:=λh=>sd (zA (zA (zB (zA (zB (zE 0 [17] [0,1,7,15,16] (zA (zA (zB (zB (zA (zA (zB (zE 0 [35] [0,1,7,15,16,17,33,34] (zA (zA (zE 1 [] [0,1,7,15,16,17,33,34,35] (zB (zA (.n (zF 0 (yR 12) []) (.n (zF 0 [] [1]) (zB (zF 9 [7,11] []))))))))))))))))))))))) func161 h
def L162:Y4:=λa b c d e f g=>lE d e λh=>Br h (rt g d f) (Build zQ 60 [(0,c),(1,d),(2,e)] λc=>lQ 3 f nC 60 c λc d=>DR d λe=>lM 1 b e λf=>av 3 e (pt c) λh=>CN a 170 #[f,h] d λd f=>aG f e/\
lX d λd e=>Br e (rt g d f) (av 3 f (pt c) λc=>CR g a 139 #[b,c] f λa b=>rt g a b))
theorem nO:qE L162 162:=λh=>sd (hN 3 (zB (zB (zF 0 (yR 11) [])))) func162 h
def L163:Y2:=λ_ a b c d=>lG b (ui 1) λe=>Br e (lM 2 a c λa=>lI 1 a b c λe=>lA e (Value.int .i32 1) λe=>aj 1 a b λa=>St 1 c a e λa=>rt d (.tuple #[]) a) (rt d (.tuple #[]) c)
theorem Cc:qC L163 163:=λh=>sd .e func163 h
def L164:Y3:=λa b c d e f=>lK e d 60 λd e=>oP b λg=>Br g (rt f (iv 10) e) (av 3 e (pt d) λg=>CR f a 190 #[b,g] e λe g=>lN e i0 λh=>Br h (rt f e g) (CR f a 167 #[b,c] g λa e=>lN a i0 λg=>Br g (rt f a e) (DR e λa=>lM 1 b a λb=>av 3 a (pt d) λa=>aj 5 b c λb=>ah 0 b λb=>St 3 e b a λa=>rt f i0 a)))
theorem Cb:qD L164 164:=λh=>sd (hN 4 (zB (zF 0 (yR 9) []))) func164 h
def L165:Y3:=λa b c d e f=>lK e c 60 λc e=>lD 0 (pt c) e λg=>CR f a 166 #[b,g] e λa e=>lN a i0 λg=>Br g (rt f a e) (lM 0 b e λa=>lD 0 (pt c) e λg=>lI 1 a g e λa=>av 3 e (pt c) λg=>iZ zQ 60 (ui 0) true e a g λa=>lX a λ_ a=>Br a (rt f (iv 11) e) (DR e λa=>lM 0 b a λb=>lD 0 (pt c) a λg=>lI 1 b g a λb=>av 3 a (pt c) λa=>gS zQ 60 e b a d λa=>rt f i0 a))
theorem Ca:qD L165 165:=λh=>sd (hN 3 (zB (zF 0 (yR 11) []))) func165 h
def L166:Y2:=λ_ a b c d=>oP a λe=>Br e (rt d (iv 10) c) (lL b i0 λe=>lO e (λe=>lM 0 a c λa=>aX a λa=>oG b a λa=>(lV c a e)) λe=>Br (Value.bool e) (rt d (iv 2) c) (rt d i0 c))
theorem B9:qC L166 166:=λh=>sd (zA (zB (zB (zA (zA (zB (zF 0 [] [1]))))))) func166 h
def L167:Y2:=λa b c d e=>jB (λf g=>Br f (rt e (iv 3) g) (rt e i0 g)) λf=>oQ c (ui 1) λg=>Split g false (CR e a 127 #[b,c] d λa b=>Un .not a λa=>aB vF vT a λa=>JE f [a] b) (aB vT vT undef λa=>JE f [a] d)
theorem B8:qC L167 167:=λh=>sd (zA (zB (zF 1 [12] []))) func167 h
def L168:Y2:=λ_ a b c d=>oG b i0 λe=>lU e (λe=>lM 4 a c λa=>lL b a λa=>(lV c a e)) λe=>rt d (Value.bool e) c
theorem B7:qC L168 168:=λh=>sd (zA (zB (zF 0 [] [1]))) func168 h
def L169:Y2:=λa b c d e=>lC 0 b λf=>CR e a 45 #[f,c] d λa c=>lQ 3 c nC 60 a λa c=>lD 0 (pt a) c λd=>oG d i0 λd=>Br d (lM 6 b c λd=>lD 0 (pt a) c λa=>lI 1 d a c λa=>rt e a c) (lM 4 b c λa=>rt e a c)
theorem B6:qC L169 169:=λh=>sd .e func169 h
def L170:Y2:=λa b c d e=>lK d c 60 λc d=>lD 0 (pt c) d λf=>CR e a 166 #[b,f] d λa d=>lN a i0 λa=>Br a (rt e (tP (ui 0) vF) d) (lM 0 b d λa=>lD 0 (pt c) d λb=>lI 1 a b d λa=>av 3 d (pt c) λb=>iZ zQ 60 (ui 0) true d a b λa=>lX a λa b=>rt e (tP a b) d)
theorem B0:qC L170 170:=λh=>sd .e func170 h
def L171:Y2:=λa b c d e=>lK d c 60 λc d=>oP b λf=>Br f (rt e (tP (ui 0) (iv 10)) d) (av 3 d (pt c) λf=>CR e a 190 #[b,f] d λa d=>lN a i0 λf=>Br f (rt e (tP (ui 0) a) d) (lM 2 b d λa=>aX a λa=>lG a i0 λf=>Br f (lM 2 b d λf=>lS a i1 λg=>lI 1 f g d λf=>lM 2 b d λg=>lS a i1 λa=>dD 1 g none (some a) λa=>lC 2 b λg=>St 1 d g a λa=>DR a λg=>lM 1 b g λh=>av 3 g (pt c) λg=>Build zQ 207 [(0,g),(1,vT)] λg=>aj 5 h f λh=>St 5 a h g λa=>lM 3 b a λg=>lA g i1 λg=>lC 3 b λh=>St 1 a h g λa=>rt e (tP f i0) a) (lM 1 b d λa=>aX a λa=>lM 0 b d λf=>oG a f λa=>Br a (rt e (tP (ui 0) (iv 9)) d) (DR d λa=>lM 1 b a λf=>av 3 a (pt c) λc=>Build zQ 207 [(0,c),(1,vT)] λc=>ai zQ 192 1 [(0,c)] d λc d=>aG d a/\
App zQ 207 5 24 (.agg #[i0,(ui 0),(ui 0),vF,(bi 0)]) d f c λc d=>aG d a/\
lC 1 b λa=>St 1 d a c λa=>lM 3 b a λc=>lA c i1 λc=>lC 3 b λd=>St 1 a d c λa=>lM 1 b a λb=>aX b λb=>lS b i1 λb=>aO .u32 b λb=>rt e (tP b i0) a))))
theorem BZ:qC L171 171:=λh=>sd (hN 3 (.n (zA (zA (zB (zA (zA (zB (zF 0 (yR 9) []))))))) (zA (zB (zF 0 (yR 12) []))))) func171 h
def L172:Y4:=λa b c d e f g=>jB (λh i=>Br h (rt g (tP (ui 0) vF) i) (CR g a 137 #[b,c,d,e] i λh i=>lX h λh j=>rt g (tP h j) i)) λh=>oP b λi=>Split i false (CR g a 136 #[b,c,d,e] f λa b=>lN a i0 λa=>aB vF vT a λa=>JE h [a] b) (aB vT vT undef λa=>JE h [a] f)
theorem BY:qE L172 172:=λh=>sd (zA (zB (zF 1 [19] [0,1,2,3]))) func172 h
def L173:Y2:=λa b c d e=>Ld d b λb=>lM 1 b d λb=>Tn d b λb d=>∃(f:Jt) (g:Mt),JE f [] d/\∀d:Hp,f [] d->∀_:Fr,
Si d b λh i=>Ext 0 h λh=>Br h (Il i b λb=>Ext 0 b λb=>Ld i c λc=>CR e a 61 #[c,b] i λ_ a=>az f g [] a [] d) (rt e (.tuple #[]) i)
theorem zx(h:L173 g a0 a1 H R):gR zQ g 173 #[a0,a1] H R:=
 rG (hn:=(zA (zB (zF 0 [] [1,7])))) func173 h zK
def L174:Y2:=λa b c d e=>oP b λf=>Br f (rt e (tP i0 (iv 10)) d) (CR e a 168 #[b,c] d λa d=>Un .not a λa=>Br a (rt e (tP i0 (iv 2)) d) (lM 6 b d λa=>lI 1 a c d λa=>rt e (tP a i0) d))
theorem BX:qC L174 174:=λh=>sd .e func174 h
def L175(g:Gh)(a0 a1 a2 a3 a4 a5:zV)(H:Hp)(R:Rt):Prop:=
Ld H a1 λa=>
CR R g 176 #[a,a0] H λa b=>
lX a λa c=>
lQ 3 b nC 60 a λa b=>
Ld b a2 λd=>
lG c d λd=>
lO d (λd=>
Ld b a1 λe=>
lM 2 e b λe=>
lN e i0 λe=>
(lV b e d)) λd=>
Br (Value.bool d) (
rt R a0 b) (
Ld b a3 λd=>
qP (.int .u32) (ui 0) true b d a0 λd=>
lX d λd e=>
Br e (
rt R d b) (
jB (λd e=>
Ld e a3 λf=>
fF (.int .u32) e f a0 d λe=>
rt R d e) λd=>
Ld b a2 λe=>
lE c e λc=>
Br c (
Ld b a4 λc=>
av 3 b (pt a) λe=>
bQ zQ g c #[e] b (λc e=>
JE d [c] e) (cK R)) (
Ld b a5 λc=>
lD 1 (pt a) b λe=>
bQ zQ g c #[e] b (λb c=>
DR c λe=>
Ld e a1 λf=>
lD 0 (pt a) e λh=>
Ld e a5 λi=>
lD 2 (pt a) e λa=>
bQ zQ g i #[a] c (λa c=>
aG c e/\
CN g 177 #[f,h,b,a] c λa b=>
aG b e/\
JE d [a] b) iE) (cK R))))
theorem BW(h:L175 g a0 a1 a2 a3 a4 a5 H R):sc g 175 #[a0,a1,a2,a3,a4,a5] H R:=sd (zA (zA (.n (zB (zF 0 [] [1])) (zA (zA (zE 1 [12] [0,3] (hN 3 (zF 0 (yR 10) [])))))))) func175 h
def L176:Y2:=λa b c d e=>lW d nC 60 λd f=>lM 0 b f λg=>CR e a 16 #[g,c] f λc f=>lX c λc _=>lQ 3 f nC 60 c λc f=>DR f λg=>av 3 g (pt c) λh=>av 3 g (pt c) λc=>CN a 191 #[b,c] f λa b=>aG b g/\
St 3 b (pt d) h λb=>aG b g/\
av 3 b (pt d) λc=>rt e (tP c a) b
theorem BV:qC L176 176:=λh=>sd (zA (zA (zB (zF 0 (yR 6) [])))) func176 h
def L177:Y4:=λa b c d e f g=>lM 2 b f λh=>lN h i0 λh=>Br h (rt g (ui 0) f) (lM 0 b f λh=>CR g a 108 #[h,c,d,e] f λf h=>lX f λf i=>jB (λj k=>rt g j k) λj=>lE i (iv 8) λk=>Br k (lM 0 b h λk=>CR g a 172 #[k,c,d,e] h λc d=>lX c λc _=>JE j [c] d) (lN i i0 λc=>Br c (lC 2 b λc=>St 1 h c i λc=>JE j [f] c) (oQ f (ui 1) λc=>lO c (λc=>lM 1 b h λd=>qP (.int .u32) i0 false h d f λd=>lG d i0 λd=>(lV h d c)) λc=>Br (Value.bool c) (lM 0 b h λc=>CR g a 61 #[c,f] h λ_ a=>JE j [f] a) (lM 1 b h λa=>fF (.int .u32) h a f i1 λa=>JE j [f] a))))
theorem tj:qE L177 177:=λh=>sd (hN 3 (zE 1 [9] [] (zB (hN 4 (zB (zF 0 [] [1])))))) func177 h
def L178:Y4:=λa b c d e f g=>lK f b 229 λb f=>Ld f (pt b) λh=>Ld f c λc=>Ld f d λd=>CR g a 149 #[h,c,d,(.func (.func 179) #[] #[(pt b),e])] f λa b=>rt g a b
theorem BU:qE L178 178:=λh=>sd .e func178 h
def L179:Y3:=λa b c d e f=>lK e b 60 λb e=>Ld e c λc=>lD 1 (pt b) e λg=>lD 2 (pt b) e λb=>Ld e d λd=>CR f a 180 #[c,g,b,d] e λa b=>rt f a b
theorem BT:qD L179 179:=λh=>sd .e func179 h
def L180:Y4:=λa b c d e f g=>lK f b 229 λb f=>lW f #[(ui 0)] 27 λf h=>lW h #[(ui 0)] 27 λh i=>St 1 i (pt f) (ui 0) λi=>St 1 i (pt h) (ui 1) λi=>jA (λj=>ni j λj k=>lQ 1 k #[(.map none)] 275 j λj k=>lW k #[.nilFunc] 276 λk l=>St 1 l (pt k) (.func (.func 192) #[] #[(pt f),(pt h),(pt b),(pt j),(pt k)]) λb=>Ld b (pt k) λj=>bQ zQ a j #[c,d] b (λa b=>rt g a b) (cK g)) λa=>Br e (St 1 i (pt f) (ui 1) λb=>St 1 b (pt h) (ui 0) λb=>JE a [] b) (JE a [] i)
theorem BS:qE L180 180:=λh=>sd (zA (zA (zF 1 [] [1,2,4,9,10]))) func180 h
def L181:Y2:=λa b c d e=>lK d c 30 λc d=>DR d λf=>av 2 f (pt c) λg=>av 2 f (pt c) λc=>CN a 182 #[g] d λa d=>aG d f/\
fF (.string) d b a c λa=>rt e (.tuple #[]) a
theorem BR:qC L181 181:=λh=>sd (zA (zF 0 [0,1,3,2,4] [])) func181 h
def L182:Y1:=λ_ a b c=>lK b a 30 λa b=>lD 1 (pt a) b λa=>aX a λd=>yB [sZ,i0] b λb e f g h=>lL g d λd=>Br d (lI 1 a g h λa=>yB [f,i0] h λd i j k l=>lL k (iv 8) λm=>Br m (oM (iv 8) k λm=>oR a m λa=>aO .u8 a λa=>ai zQ 23 1 [(0,a)] l λa m=>App zQ 5 1 1 (bi 0) m j a λa m=>lA k i1 λn=>az d i [a,n] m [j,k] l) (lA g i1 λa=>az b e [j,a] l [f,g] h)) (gB h f λa=>rt c a h)
theorem BQ:qB L182 182:=λh=>sd (zA (zA (zB (zA (zB (zE 0 [3,10] [8,9] (zA (zA (zB (zB (zA (zA (zB (zF 0 [3,14] [5,8,9,10])))))))))))))) func182 h
def L184:Y1:=λ_ a b c=>jC (λd e f=>jC (λg h i=>jC (λj k l=>aO .u8 j λj=>Qn (.string  zX) j λj=>aO .i64 j λj=>lA k j λj=>rt c j l) λc=>oG g (wi 256) λj=>Br j (oR g (wi 8) λj=>lA h (iv 8) λk=>JE c [j,k] i) (JE c [g,h] i)) λc=>oG d (wi 65536) λg=>Br g (oR d (wi 16) λg=>lA e (iv 16) λh=>JE c [g,h] f) (JE c [d,e] f)) λc=>oG a (wi 4294967296) λd=>Br d (oR a (wi 32) λd=>JE c [d,(iv 32)] b) (JE c [a,i0] b)
theorem BP:qB L184 184:=λh=>sd (zA (.h 1 [0,2] [] .e (.h 1 [0,2] [] .e (zF 1 [0,2] [])))) func184 h
def L188:Y2:=λa b c d e=>CR e a 166 #[b,c] d λd f=>lN d i0 λg=>Br g (rt e (tP sZ d) f) (lM 0 b f λb=>lI 1 b c f λb=>CR e a 196 #[b] f λb c=>CR e a 195 #[b] c λa b=>rt e (tP a i0) b)
theorem BO:qC L188 188:=λh=>sd .e func188 h
def L189:Y3:=λa b c d e f=>lC 0 b λb=>CR f a 45 #[b,c] e λa b=>lQ 3 b nC 60 a λa b=>lD 0 (pt a) b λe=>lE e d λd=>Br d (lD 1 (pt a) b λd=>lD 2 (pt a) b λa=>rt f (tP d a) b) (rt f (tP c c) b)
theorem BN:qD L189 189:=λh=>sd .e func189 h
def L190:Y2:=λa b c d e=>lK d c 60 λc d=>lD 0 (pt c) d λf=>lL f i0 λf=>lO f (λf=>lD 0 (pt c) d λg=>oG g (iv 64) λg=>(lV d g f)) λf=>Br (Value.bool f) (rt e (iv 2) d) (jB (λf g=>Br f (rt e (iv 3) g) (rt e i0 g)) λf=>lD 1 (pt c) d λg=>CR e a 127 #[b,g] d λd g=>Un .not d λd=>Split d false (lD 2 (pt c) g λc=>CR e a 127 #[b,c] g λa b=>Un .not a λa=>aB vF vT a λa=>JE f [a] b) (aB vT vT undef λa=>JE f [a] g))
theorem BM:qC L190 190:=λh=>sd (zA (zB (zB (.n (zF 0 [] [1]) (zA (zF 1 [14] [])))))) func190 h
def L191:Y2:=λa b c d e=>lK d c 60 λc d=>lD 0 (pt c) d λf=>lL f i0 λf=>Br f (lM 0 b d λf=>CR e a 22 #[f] d λf g=>rt e f g) (DR d λf=>lM 0 b f λb=>lD 0 (pt c) f λc=>CN a 174 #[b,c] d λa b=>aG b f/\
lX a λa _=>rt e a b)
theorem BL:qC L191 191:=λh=>sd (zA (zA (zB (zF 0 (yR 12) [])))) func191 h
def L192(g:Gh)(a0 a1 a2 a3 a4 a5 a6:zV)(H:Hp)(R:Rt):Prop:=
Ld H a2 λa=>
lE a0 a λa=>
lO a (λa=>
Ld H a2 λb=>
lE a1 b λb=>
(lV H b a)) λa=>
Br (Value.bool a) (
Ld H a2 λa=>
rt R a H) (
Ld H a3 λa=>
lE a0 a λa=>
lO a (λa=>
lE a0 a1 λb=>
(lV H b a)) λa=>
Br (Value.bool a) (
rt R a1 H) (
Ld H a3 λa=>
lE a1 a λa=>
Br a (
rt R a0 H) (
Ld H a4 λa=>
lM 2 a H λa=>
lN a i0 λa=>
Br a (
rt R (ui 0) H) (
Bz a0 a1 λa=>
Pj a0 a1 λb=>
Build zQ 278 [(0,a),(1,b)] λa=>
lQ 2 H #[(ui 0),(ui 0)] 278 a λa b=>
Ld b a5 λc=>
av 2 b (pt a) λd=>
iZ zQ 278 (ui 0) true b c d λc=>
lX c λc d=>
Br d (
rt R c b) (
Ld b a4 λc=>
CR R g 176 #[c,a0] b λb c=>
lX b λb d=>
lQ 3 c nC 60 b λb c=>
Ld c a4 λe=>
CR R g 176 #[e,a1] c λc e=>
lX c λc f=>
lQ 3 e nC 60 c λc e=>
lD 0 (pt b) e λh=>
jB (λi j=>
jA (λk=>
jA (λl=>
Ld l a6 λm=>
lD 1 (pt b) l λn=>
lD 1 (pt c) l λo=>
bQ zQ g m #[n,o] l (λl m=>
DR m λn=>
Ld n a4 λo=>
Ld n a6 λp=>
lD 2 (pt b) n λq=>
lD 2 (pt c) n λr=>
bQ zQ g p #[q,r] m (λm p=>
aG p n/\
CN g 177 #[o,i,l,m] p λi l=>
aG l n/\
Ld l a5 λm=>
av 2 l (pt a) λa=>
gS zQ 278 l m a i λa=>
rt R i a) iE) (cK R)) λa=>
lG f d λi=>
Br i (
ah 1 (pt c) λi=>
St 1 k i a1 λi=>
ah 2 (pt c) λl=>
St 1 i l a1 λi=>
JE a [] i) (
JE a [] k)) λa=>
lG d f λi=>
Br i (
ah 1 (pt b) λi=>
St 1 j i a0 λi=>
ah 2 (pt b) λb=>
St 1 i b a0 λb=>
JE a [] b) (
JE a [] j)) λa=>
lL f d λb=>
Br b (
lD 0 (pt c) e λb=>
JE a [b] e) (
JE a [h] e))))))
theorem BJ(h:L192 g a0 a1 a2 a3 a4 a5 a6 H R):sc g 192 #[a0,a1,a2,a3,a4,a5,a6] H R:=sd (zA (.n (zB (.n (zF 0 [] [1]) (zA (zB (zF 0 [] [1]))))) (hN 5 (.h 1 [17] [0,1,4,5,6,10,13,14,15,16] .e (.h 1 [] [1,4,5,6,10,13,14,15,16,17] .e (.h 1 [] [4,5,6,10,13,15,17] .e (zA (zB (zF 0 (yR 11) []))))))))) func192 h
def L195:Y1:=λa b c d=>CR d a 197 #[b] c λb c=>CR d a 198 #[b] c λ_ a=>rt d b a
theorem BI:qB L195 195:=λh=>sd .e func195 h
def L196:Y1:=λ_ a b c=>lK b a 189 λa b=>c (.returned (.func (.func 199) #[] #[(pt a)])) b
theorem BH:qB L196 196:=λh=>sd .e func196 h
def L197:Y1:=λa b c d=>CR d a 200 #[sZ,b] c λa b=>rt d a b
theorem BG:qB L197 197:=λh=>sd .e func197 h
def L198:Y1:=λa b c d=>aX b λe=>aO .u64 e λf=>CR d a 202 #[f] c λc f=>CR d a 201 #[b,i0,e,c] f λ_ a=>rt d (.tuple #[]) a
theorem BF:qB L198 198:=λh=>sd .e func198 h
def L202:Y1:=λa b c d=>Br vF (aO .u32 b λe=>CR d a 212 #[e] c λe f=>rt d e f) (CR d a 184 #[b] c λa b=>rt d a b)
theorem BE:qB L202 202:=λh=>sd .e func202 h
variable {g:Gh} {a0 a1 a2 a3 a4 a5 a6 a7 a8 a9 qy qx Tl Tk Tj Ti:zV} {H:Hp} {R:Rt}
def L214:Y1:=λa b c d=>aO .u64 b λb=>CR d a 202 #[b] c λa b=>oL (wi 1) a λa=>rt d a b
theorem BD:qB L214 214:=λh=>sd .e func214 h
def L215:Y1:=λ_ a b c=>DR b λd=>Nil a λe=>Ld d e λe=>Nil a λf=>Ld d f λd=>oL d (wi 13) λd=>ae .num .xor e d λd=>Nil a λe=>St 1 b e d λb=>DR b λd=>Nil a λe=>Ld d e λe=>Nil a λf=>Ld d f λd=>oR d (wi 7) λd=>ae .num .xor e d λd=>Nil a λe=>St 1 b e d λb=>DR b λd=>Nil a λe=>Ld d e λe=>Nil a λf=>Ld d f λd=>oL d (wi 17) λd=>ae .num .xor e d λd=>Nil a λe=>St 1 b e d λb=>Nil a λa=>Ld b a λa=>rt c a b
theorem BC:qB L215 215:=λh=>sd (zA (.n (zF 0 (yR 10) []) (.n (zF 0 (yR 10) []) (zB (zF 0 (yR 10) []))))) func215 h
end Go.Proofs
namespace Go.Sx
open Go
section
variable {P:Program} {g:Gh} {H:Hp}
theorem aS{f:FuncId}{args:Array zV}{C:Hp}{Q:zV->Hp->Prop}(h:∀g,aR P g f args C (aN Q)):Fc P f args C Q:=h
theorem Ld.q{b off:Nat}{c:Array zV}{T:TypeId}{fz:Nat×Nat}{v:zV}{k:zV->Prop}(h:k v)(hm:(b,Obj.cells c T fz)∈H:=by repeat (first|exact List.Mem.head _|apply List.Mem.tail|apply xaa))(hc:c[off]? =some v:=by rfl):Ld H (.pointer (some ⟨b,off,none⟩)) k:=.mk hm hc h
theorem Ld.f{b o off:Nat}{c:Array zV}{T:TypeId}{fz:Nat×Nat}{v:zV}{k:zV->Prop}(h:k v)(hm:(b,Obj.cells c T fz)∈H:=by repeat (first|exact List.Mem.head _|apply List.Mem.tail|apply xaa))(hc:c[o+off]? =some v:=by rfl):ah off (.pointer (some ⟨b,o,none⟩)) λp=>Ld H p k:=.mk (.mk hm hc h)
theorem Ld.n{b o off:Nat}{c:Array zV}{T:TypeId}{fz:Nat×Nat}{v:zV}{k:zV->Prop}(h:k v)(hm:(b,Obj.cells c T fz)∈H:=by repeat (first|exact List.Mem.head _|apply List.Mem.tail|apply xaa))(hc:c[o+off]? =some v:=by rfl):Nil (.pointer (some ⟨b,o,none⟩)) λq=>ah off q λp=>Ld H p k:=.ptr (.mk (.mk hm hc h))
theorem Ld.u{b o off:Nat}{c:Array zV}{T:TypeId}{fz:Nat×Nat}{v:zV}{k:zV->Prop}(hm:(b,Obj.cells c T fz)∈H)(h:k v)(hc:c[o+off]? =some v:=by rfl):ah off (.pointer (some ⟨b,o,none⟩)) λp=>Ld H p k:=.mk (.mk hm hc h)
theorem Ld.v{b o off:Nat}{c:Array zV}{T:TypeId}{fz:Nat×Nat}{v:zV}{k:zV->Prop}(hm:(b,Obj.cells c T fz)∈H)(h:k v)(hc:c[o+off]? =some v:=by rfl):Nil (.pointer (some ⟨b,o,none⟩)) λq=>ah off q λp=>Ld H p k:=.ptr (.mk (.mk hm hc h))
theorem av.q{b n:Nat}{r:List zV}{T:TypeId}{fz:Nat×Nat}{K:zV->Prop}(h:K (.agg r.toArray))(hm:(b,Obj.cells r.toArray T fz)∈H:=by repeat (first|exact List.Mem.head _|apply List.Mem.tail|apply xaa))(hr:r.length=n:=by rfl):av n H (.pointer (some ⟨b,0,none⟩)) K:=.whole hm hr h
theorem St.q{b n:Nat}{c:Array zV}{T:TypeId}{r:List zV}{H':Hp}{K:Hp->Prop}(h:K H')(hu:cT b (.cells c T zZ) (.cells r.toArray T zZ) H H':=by repeat (first|exact cT.head _|apply cT.tail|apply cT.bB))(hs:c.size=n:=by rfl)(hr:r.length=n:=by rfl)(h1:∀v∈r,v.oneCell'=true:=by simp[Value.oneCell']):
  St n H (.pointer (some ⟨b,0,none⟩)) (.agg r.toArray) K:=.whole hu hs hr h1 h
theorem St.p{b n:Nat}{c:Array zV}{T:TypeId}{r:List zV}{H':Hp}{K:Hp->Prop}(h1:∀v∈r,v.oneCell'=true)(h:K H')(hu:cT b (.cells c T zZ) (.cells r.toArray T zZ) H H':=by repeat (first|exact cT.head _|apply cT.tail|apply cT.bB))(hs:c.size=n:=by rfl)(hr:r.length=n:=by rfl):
  St n H (.pointer (some ⟨b,0,none⟩)) (.agg r.toArray) K:=.whole hu hs hr h1 h
section
variable {kd tM:IntKind} {a b:Nat} {k:zV->Prop}
theorem ae.fE(h:k (.int kd ((a+b:Nat):Int)))(hr:a+b<bM kd:=by first|(simp[bM];omega)|(simp only[bM];omega)|simp[bM]):ae .num .add (.int kd a) (.int kd b) k:=.zq hr h
theorem ae.inc(h:k (.int kd ((a+1:Nat):Int)))(hr:a+1<bM kd:=by first|(simp[bM];omega)|(simp only[bM];omega)|simp[bM]):ae .num .add (.int kd a) (.int kd 1) k:=.zq hr h
theorem ae.bP(h:k (.int kd ((a-b:Nat):Int)))(ha:a<bM kd:=by first|(simp[bM];omega)|(simp only[bM];omega)|simp[bM])(hb:b<=a:=by omega):ae .num .sub (.int kd a) (.int kd b) k:=.tH ha hb h
theorem ae.xU(h:k (.int kd ((a*b:Nat):Int)))(hr:a*b<bM kd:=by first|(simp[bM];omega)|(simp only[bM];omega)|simp[bM]):ae .num .mul (.int kd a) (.int kd b) k:=.TV hr h
theorem aO.q(h:k (.int kd (a:Int)))(ha:a<bM kd:=by first|(simp[bM];omega)|(simp only[bM];omega)|simp[bM]):aO kd (.int tM a) k:=.nat ha h
end
theorem Br.T{p:Prop}[Decidable p]{t f:Prop}(h:t)(hp:p:=by first|omega|decide|simp):Br (.bool (decide p)) t f:=.R9 hp h
theorem Br.F{p:Prop}[Decidable p]{t f:Prop}(h:f)(hp:¬p:=by first|omega|decide|simp):Br (.bool (decide p)) t f:=.OX hp h
theorem aa.fq{f:FuncId}{args:Array zV}{C H:Hp}{c:Hp->Hp}{Q:zV->Hp->Prop}{K:zV->Hp->Prop}{KP:List PanicEntry->Hp->Prop}(hc:Fc P f args C Q)
 (hk:∀v C',Q v C'->K v (c C'))(hh:aU C H c:=by repeat (first|exact aU.here|exact aU.left|apply aU.cons|apply aU.app)):aa P g f args H K KP:=.fn hh hc hk
theorem aa.rq{f:FuncId}{args:Array zV}{B H:Hp}{c:Hp->Hp}{Q:zV->Prop}{K:zV->Hp->Prop}{KP:List PanicEntry->Hp->Prop}(hc:Rd P f args B Q)
 (hk:∀v,Q v->K v H)(hh:aU B H c:=by repeat (first|exact aU.here|exact aU.left|apply aU.cons|apply aU.app)):aa P g f args H K KP:=.rd hh hc hk
theorem aa.eq{f:FuncId}{args:Array zV}{B H:Hp}{c:Hp->Hp}{v:zV}{K:zV->Hp->Prop}{KP:List PanicEntry->Hp->Prop}(hc:Rd P f args B (· =v))
 (hk:K v H)(hh:aU B H c:=by repeat (first|exact aU.here|exact aU.left|apply aU.cons|apply aU.app)):aa P g f args H K KP:=.rd hh hc λ_ h=>by subst h;exact hk
theorem aa.eh{f:FuncId}{args:Array zV}{B H:Hp}{c:Hp->Hp}{v:zV}{K:zV->Hp->Prop}{KP:List PanicEntry->Hp->Prop}(hh:aU B H c)(hc:Rd P f args B (· =v))
 (hk:K v H):aa P g f args H K KP:=.rd hh hc λ_ h=>by subst h;exact hk
theorem aa.pq{f:FuncId}{args:Array zV}{B H:Hp}{c:Hp->Hp}{Q:zV->Hp->Prop}{K:zV->Hp->Prop}{KP:List PanicEntry->Hp->Prop}(hc:Px P f args B Q)
 (hk:∀v N,Q v (N++B)->K v (c (N++B)))(hh:aU B H c:=by repeat (first|exact aU.here|exact aU.left|apply aU.cons|apply aU.app)):aa P g f args H K KP:=.px hh hc hk
theorem Ext.two{x y:zV}{k:zV->zV->Prop}(h:k x y):Ext 0 (.tuple #[x,y]) λa=>Ext 1 (.tuple #[x,y]) λb=>k a b:=.mk rfl (.mk rfl h)
end
end Go.Sx
set_option maxRecDepth 100000
namespace Go.Proofs
open Go Go.Sx Tryz
section
theorem oN{B:Hp}{s:zV}{n:Int}{K:zV->Hp->Prop}(h:∀b,K (.slice (some ⟨b,0,none⟩) 1 1) ((b,.cells #[iv n,s] 30 zZ)::B)):
  ai zQ 38 1 [(0,.agg #[iv n,s])] B K:=
 ai.one (r:=[iv n,s]) (e:=30) (k:=2) (z:=.agg #[iv 0,.slice none 0 0]) zK zK zK zD rfl h
theorem AA{G:Nat->Nat}{W:Nat}:((List.range W).map λk=>if k<W then G k else 0)=(List.range W).map G:=by
 apply xbV;intro k hk;rw[xae (xaV.1 hk)]
theorem wG{n:Nat}{ws:zL}(h:ax.dZ n ws):ws.length<=4294967296:=by have:=h.len;have:=ax.rz h.Ac;omega
theorem aK{B:Hp}{s:zV}{ws:zL}(h:Words B s ws):s.oneCell'=true:=by obtain⟨a,c,rfl,_⟩:=h.1.shape;rfl
theorem Fv{G:Nat->Nat}{W i:Nat}(hi:i<W):(iw ((List.range W).map λk=>if k<i then G k else 0)).set i ((G i:Nat):Int)=iw ((List.range W).map λk=>if k<i+1 then G k else 0):=by
 apply xbo;intro j;unfold iw;by_cases e:i=j
 ·subst e;simp[hi]
 rw[xbA e];by_cases hj:j<W
 ·simp only[xat,xcP hj,xbn];by_cases h2:j<i
  ·rw[xae h2,xae zO]
  rw[xad h2,xad zO]
 rw[xaF zP,xaF zP]
theorem range_zero{G:Nat->Nat}{W:Nat}:List.replicate W (0:Int)=iw ((List.range W).map λk=>if k<0 then G k else 0):=by
 apply xbo;intro j;unfold iw;by_cases hj:j<W
 ·simp[hj]
 rw[xaF zP,xaF zP]
theorem jh{n:Nat}(hn:n<=16):ax.wN n<=9223372036854775807/\ax.wN n*8<=281474976710656:=by have:=ax.rz hn;omega
end
section
def cI(l:List Bool):Array zV:=(l.map Value.bool).toArray
theorem Bq(l:List Bool)(i:Nat)(b:Bool):(cI l).setIfInBounds i (.bool b)=cI (l.set i b):=by simp[cI,xdj]
theorem AO(n:Nat):madeCells (Value.cells (.bool false)) (n*1)=cI (List.replicate n false):=by
 apply Array.ext
 ·simp[madeCells,cI]
 intro i h1 h2;simp[madeCells,cI,Value.cells,xd6]
def zY(B:Hp)(v:zV)(l:List Bool):Prop:=Sl 1 B v (l.map λb=>[Value.bool b])
theorem zY.block{B:Hp}{b cap:Nat}{l:List Bool}{T:TypeId}{fz:Nat×Nat}(hm:(b,Obj.cells (cI l) T fz)∈B)(hc:l.length<=cap):zY B (.slice (some ⟨b,0,none⟩) l.length cap) l:=by
 refine⟨λr hr=>by obtain⟨b,_,rfl⟩:=xaq.1 hr;rfl,.inr ⟨b,0,cap,_,T,fz,by simp,by simpa using hc,hm,by simp[cI],λi r hi j v hj=>?_⟩⟩;rw[xat]at hi;cases hl:l[i]? with
 |none=>rw[hl]at hi;simp at hi
 |some n=>
  rw[hl]at hi;simp only[xbn,xap]at hi;subst hi;cases j with
  |zero=>
   simp only[xbR,xap]at hj;subst hj;simp[cI,hl]
  |succ j=>simp at hj
theorem zY.ld{kd:IntKind}{B H:Hp}{v:zV}{l:List Bool}(h:zY B v l){i:Nat}{b:Bool}(hi:l[i]? =some b)(hs:∀x∈B,x∈H){K:zV->Prop}(hk:K (.bool b)):aj 1 v (.int kd (i:Int)) (λp=>Ld H p K):=
 aj.sl h (by rw[xat,hi];rfl) λp hp=>Ld.at hp hs hk
theorem cW.LW{H:Hp}{T:TypeId}{kl:IntKind}{n:Nat}{K:zV->Hp->Prop}(cO:n<=281474976710656)
 (h:∀b,K (.slice (some ⟨b,0,none⟩) n n) ((b,.cells (cI (List.replicate n false)) T zZ)::H)):cW T 1 1 (.bool false) H (.int kl n) (.int kl n) K:=
 ⟨kl,kl,n,n,rfl,rfl,xak _,by omega,by omega,λb _=>by rw[AO];exact h b⟩
theorem St.LW{H:Hp}{b i:Nat}{l:List Bool}{x:Bool}{T:TypeId}{H':Hp}{K:Hp->Prop}(hu:cT b (.cells (cI l) T zZ) (.cells (cI (l.set i x)) T zZ) H H')(hi:i<l.length)(h:K H'):
  St 1 H (.pointer (some ⟨b,0+i*1,none⟩)) (.bool x) K:=
 St.one (c:=cI l) (c':=cI (l.set i x)) hu rfl (by simpa[cI]using hi) (by rw[xa1,xb6];exact Bq l i x) h
theorem E9(L:List (zL)):(ax.kV L).length<=L.length:=by
 have:=ax.fN (λa l=>ax.add l a) 1 (λa l=>ax.nN l a) L [];simpa[ax.kV]using this
theorem Lc(n u:Nat)(L:List (zL)):(ax.given n L u).length<=2*L.length:=by
 have h:=ax.fN (λt acc=>ax.add (ax.add acc (ax.jg n t u false)) (ax.jg n t u true)) 2 (λa l=>by have h1:=ax.nN (ax.add l (ax.jg n a u false)) (ax.jg n a u true);have h2:=ax.nN l (ax.jg n a u false);omega) L [];simpa[ax.given]using h
end
end Go.Proofs
namespace aq
open ax
theorem cY{x u v:Nat}{b c:Bool}(h:u≠v):ay (ay x u b) v c=ay (ay x v c) u b:=by
 apply xa3;intro k;rw[ak,ak,ak,ak];by_cases e1:k=u<;>by_cases e2:k=v
 ·exact absurd (e1.symm.trans e2) h
 ·simp[e1,h]
 ·simp[e2,xbp h]
 simp[e1,e2]
structure Nd where
 v:Nat
 lo:Nat
 hi:Nat
deriving DecidableEq
abbrev dA:=Nat->Option Nd
abbrev Fn:=Nat->Bool
def live(N:dA)(r:Nat):Prop:=r<2\/∃d,N r=some d
def dep(n:Nat)(af:Nat->Nat)(N:dA)(r:Nat):Nat:=match N r with|some d=>af d.v|none=>n
structure WF(n:Nat)(af:Nat->Nat)(N:dA):Prop where
 two:∀{r d},N r=some d->2<=r
 var:∀{r d},N r=some d->d.v<n
 ne:∀{r d},N r=some d->d.lo≠d.hi
 lo:∀{r d},N r=some d->live N d.lo/\af d.v<dep n af N d.lo
 hi:∀{r d},N r=some d->live N d.hi/\af d.v<dep n af N d.hi
 uq:∀{r r' d},N r=some d->N r'=some d->r=r'
structure jI(n:Nat)(af:Nat->Nat):Prop where
 lt:∀v,v<n->af v<n
 inj:∀u v,u<n->v<n->af u=af v->u=v
structure Interp(N:dA)(S:Nat->Fn):Prop where
 zero:∀x,S 0 x=false
 one:∀x,S 1 x=true
 node:∀{r d},N r=some d->∀x,S r x=if x.testBit d.v then S d.hi x else S d.lo x
variable {n:Nat} {af:Nat->Nat} {N:dA} {S:Nat->Fn}
theorem aT{r:Nat}(h:N r=none):dep n af N r=n:=by unfold dep;rw[h]
theorem an{r:Nat}{d:Nd}(h:N r=some d):dep n af N r=af d.v:=by unfold dep;rw[h]
theorem WF.iC(h:WF n af N)(hl:jI n af)(r:Nat):dep n af N r<=n:=by
 cases e:N r with
 |none=>rw[aT e];exact xak _
 |some d=>rw[an e];exact xb8 (hl.lt _ (h.var e))
theorem WF.const(h:WF n af N){r:Nat}(hr:r<2):N r=none:=by
 cases e:N r with
 |none=>rfl
 |some d=>have:=h.two e;omega
theorem WF.indep(h:WF n af N)(hl:jI n af)(hi:Interp N S):∀(k r:Nat),n-dep n af N r<=k->live N r->∀v,v<n->af v<dep n af N r->∀x b,S r (ay x v b)=S r x:=by
 intro k;induction k with
 |zero=>
  intro r hk hr v hv hlt x b;rcases hr with hr|⟨d,hd⟩
  ·have:r=0\/r=1:=by omega
   rcases this with rfl|rfl
   ·rw[hi.zero,hi.zero]
   rw[hi.one,hi.one]
  have h1:=hl.lt _ (h.var hd);rw[an hd]at hk;omega
 |succ k ih=>
  intro r hk hr v hv hlt x b;rcases hr with hr|⟨d,hd⟩
  ·have:r=0\/r=1:=by omega
   rcases this with rfl|rfl
   ·rw[hi.zero,hi.zero]
   rw[hi.one,hi.one]
  rw[an hd]at hk hlt;have h1:=hl.lt _ (h.var hd);obtain⟨l1,l2⟩:=h.lo hd;obtain⟨m1,m2⟩:=h.hi hd;have hne:d.v≠v:=λe=>by rw[e]at hlt;omega
  rw[hi.node hd,hi.node hd,ak,xad hne,ih d.lo zO l1 v hv zO,ih d.hi zO m1 v hv zO]
theorem WF.bu(h:WF n af N)(hl:jI n af)(hi:Interp N S){r:Nat}(hr:live N r){v:Nat}(hv:v<n)(hlt:af v<dep n af N r)(x:Nat)(b:Bool):S r (ay x v b)=S r x:=
 h.indep hl hi _ r (xak _) hr v hv hlt x b
theorem WF.child(h:WF n af N)(hl:jI n af)(hi:Interp N S){r:Nat}{d:Nd}(hd:N r=some d)(x:Nat)(b:Bool):S r (ay x d.v b)=S (if b then d.hi else d.lo) x:=by
 obtain⟨l1,l2⟩:=h.lo hd;obtain⟨m1,m2⟩:=h.hi hd;rw[hi.node hd,ak,xae rfl];cases b
 ·simp only[xaE,xaS];exact h.bu hl hi l1 (h.var hd) l2 x false
 simp only[xa0];exact h.bu hl hi m1 (h.var hd) m2 x true
theorem WF.canon(h:WF n af N)(hl:jI n af)(hi:Interp N S):∀(k r r':Nat),(n-dep n af N r)+(n-dep n af N r')<=k->live N r->live N r'->(∀x,S r x=S r' x)->r=r':=by
 intro k;induction k with
 |zero=>
  intro r r' hk hr hr' he;have hc:∀{r},n-dep n af N r=0->live N r->r<2:=by
   intro r hk hr;rcases hr with hr|⟨d,hd⟩
   ·exact hr
   have h1:=hl.lt _ (h.var hd);rw[an hd]at hk;omega
  have h1:=hc zO hr;have h2:=hc zO hr';have e0:=he 0;have:r=0\/r=1:=by omega
  have h3:r'=0\/r'=1:=by omega
  rcases this with rfl|rfl<;>rcases h3 with rfl|rfl<;>simp[hi.zero,hi.one]at e0<;>rfl
 |succ k ih=>
  have Ml:∀r r',(n-dep n af N r)+(n-dep n af N r')<=k+1->live N r'->(∀x,S r x=S r' x)->∀d,N r=some d->af d.v<dep n af N r'->False:=by
   intro r r' hk hr' he d hd hlt;obtain⟨l1,l2⟩:=h.lo hd;obtain⟨m1,m2⟩:=h.hi hd;have hv:=h.var hd;have h1:=hl.lt _ hv;have d1:=h.iC hl d.lo;have d2:=h.iC hl d.hi;have d3:=h.iC hl r';rw[an hd]at hk;have a1:d.lo=r':=ih d.lo r' zO l1 hr' λx=>by
    have:=h.child hl hi hd x false;simp only[xaE,xaS]at this;rw[<-this,he,h.bu hl hi hr' hv hlt]
   have a2:d.hi=r':=ih d.hi r' zO m1 hr' λx=>by
    have:=h.child hl hi hd x true;simp only[xa0]at this;rw[<-this,he,h.bu hl hi hr' hv hlt]
   exact h.ne hd (a1.trans a2.symm)
  intro r r' hk hr hr' he;rcases hr with hr|⟨d,hd⟩
  ·rcases hr' with hr'|⟨d',cV⟩
   ·have e0:=he 0;have:r=0\/r=1:=by omega
    have h3:r'=0\/r'=1:=by omega
    rcases this with rfl|rfl<;>rcases h3 with rfl|rfl<;>simp[hi.zero,hi.one]at e0<;>rfl
   refine(Ml r' r zO (.inl hr) (λx=>(he x).symm) d' cV ?_).elim;rw[aT (h.const hr)];exact hl.lt _ (h.var cV)
  rcases xc0 (af d.v) (dep n af N r')with hlt|heq|hgt
  ·exact(Ml r r' hk hr' he d hd hlt).elim
  ·rcases hr' with hr'|⟨d',cV⟩
   ·rw[aT (h.const hr')]at heq;have:=hl.lt _ (h.var hd);omega
   rw[an cV]at heq;have hv:=hl.inj _ _ (h.var hd) (h.var cV) heq;obtain⟨l1,l2⟩:=h.lo hd;obtain⟨m1,m2⟩:=h.hi hd;obtain⟨Rc,l2'⟩:=h.lo cV;obtain⟨Xq,m2'⟩:=h.hi cV;have h1:=hl.lt _ (h.var hd);have d1:=h.iC hl d.lo;have d2:=h.iC hl d.hi;have d1':=h.iC hl d'.lo;have d2':=h.iC hl d'.hi;rw[an hd,an cV]at hk;have c1:=λx=>h.child hl hi hd x false;have c2:=λx=>h.child hl hi hd x true;have c1':=λx=>h.child hl hi cV x false;have c2':=λx=>h.child hl hi cV x true;simp only[xaE,xaS,xa0]at c1 c2 c1' c2';have a1:d.lo=d'.lo:=ih d.lo d'.lo zO l1 Rc λx=>by rw[<-c1,<-c1',he,hv]
   have a2:d.hi=d'.hi:=ih d.hi d'.hi zO m1 Xq λx=>by rw[<-c2,<-c2',he,hv]
   have:d=d':=by cases d;cases d';simp_all
   subst this;exact h.uq hd cV
  rcases hr' with hr'|⟨d',cV⟩
  ·rw[aT (h.const hr')]at hgt;have:=hl.lt _ (h.var hd);omega
  rw[an cV]at hgt;refine(Ml r' r zO (.inr ⟨d,hd⟩) (λx=>(he x).symm) d' cV ?_).elim;rw[an hd];exact hgt
theorem WF.same(h:WF n af N)(hl:jI n af)(hi:Interp N S){r r':Nat}(hr:live N r)(hr':live N r')(he:∀x,S r x=S r' x):r=r':=h.canon hl hi _ r r' (xak _) hr hr' he
end aq
namespace aq
open ax
variable {n:Nat} {af:Nat->Nat} {N:dA} {S:Nat->Fn} {ord:zL}
def cF(g:Fn)(v:Nat):Prop:=∃x,g (ay x v false)≠g (ay x v true)
def fs(ord:zL)(F:Fn->Prop):Nat->Fn->Prop
 |0,g=>F g
 |l+1,g=>∃f,fs ord F l f/\∃b,g=λx=>f (ay x (ord.getD l 0) b)
def aA(n:Nat)(ord:zL)(F:Fn->Prop)(g:Fn):Prop:=∃l,l<n/\fs ord F l g/\cF g (ord.getD l 0)
structure Ord(n:Nat)(af:Nat->Nat)(ord:zL):Prop where
 len:ord.length=n
 at':∀l,l<n->ord.getD l 0<n/\af (ord.getD l 0)=l
theorem Ord.of(h:Ord n af ord)(hl:jI n af){v:Nat}(hv:v<n):ord.getD (af v) 0=v:=by
 obtain⟨h1,h2⟩:=h.at' _ (hl.lt v hv);exact hl.inj _ _ h1 hv h2
def Fs(S:Nat->Fn)(R:Nat->Prop)(g:Fn):Prop:=∃r,R r/\g=S r
def A(N:dA)(af:Nat->Nat)(n:Nat)(R:Nat->Prop):Nat->Nat->Prop
 |0,r=>R r
 |l+1,r=>(A N af n R l r/\dep n af N r≠l)\/∃p d,A N af n R l p/\N p=some d/\af d.v=l/\(r=d.lo\/r=d.hi)
variable {R:Nat->Prop}
theorem p8(h:WF n af N)(hR:∀r,R r->live N r):∀l r,A N af n R l r->live N r/\l<=dep n af N r
 |0,r,ha=>⟨hR r ha,xaK _⟩
 |l+1,r,ha=>by
  rcases ha with⟨h1,h2⟩|⟨p,d,h1,h2,h3,h4⟩
  ·have:=p8 h hR l r h1;exact⟨this.1,by omega⟩
  rcases h4 with rfl|rfl
  ·have:=h.lo h2;exact⟨this.1,by omega⟩
  have:=h.hi h2;exact⟨this.1,by omega⟩
theorem Dx{r:Nat}:∀k l,A N af n R l r->l+k<=dep n af N r->A N af n R (l+k) r
 |0,l,ha,_=>ha
 |k+1,l,ha,hk=>by
  have h1:=Dx k l ha zO;have h2:dep n af N r≠l+k:=by omega
  exact .inl ⟨h1,h2⟩
def Reach(N:dA)(R:Nat->Prop):Prop:=∀r d,N r=some d->R r\/∃p e,N p=some e/\(e.lo=r\/e.hi=r)
theorem Qs(h:WF n af N)(hr:Reach N R):∀k r d,N r=some d->af d.v<=k->A N af n R (af d.v) r:=by
 intro k;induction k with
 |zero=>
  intro r d hd hk;rcases hr r d hd with h1|⟨p,e,h1,h2⟩
  ·rw[show af d.v=0 by omega];exact h1
  have:=h.lo h1;have h3:=h.hi h1;rcases h2 with rfl|rfl
  ·rw[an hd]at this;omega
  rw[an hd]at h3;omega
 |succ k ih=>
  intro r d hd hk;rcases hr r d hd with h1|⟨p,e,h1,h2⟩
  ·have:=Dx (N:=N) (af:=af) (n:=n) (R:=R) (r:=r) (af d.v) 0 h1 (by rw[an hd];omega);rwa [xa1]at this
  have hlt:af e.v<af d.v:=by
   have:=h.lo h1;have h3:=h.hi h1;rcases h2 with rfl|rfl
   ·rw[an hd]at this;omega
   rw[an hd]at h3;omega
  have ha:=ih p e h1 zO;have hb:A N af n R (af e.v+1) r:=.inr ⟨p,e,ha,h1,rfl,by rcases h2 with rfl|rfl;exact .inl rfl;exact .inr rfl⟩;have:=Dx (af d.v-(af e.v+1)) _ hb (by rw[an hd];omega);rwa [show af e.v+1+(af d.v-(af e.v+1))=af d.v by omega]at this
theorem OO(h:WF n af N)(hl:jI n af)(ho:Ord n af ord)(hi:Interp N S)(hR:∀r,R r->live N r):∀l,l<=n->∀g,fs ord (Fs S R) l g↔∃r,A N af n R l r/\g=S r
 |0,_,g=>xdb
 |l+1,Kl,g=>by
  obtain⟨v1,v2⟩:=ho.at' l Kl;have ih:=OO h hl ho hi hR l zO;constructor
  ·rintro⟨f,hf,b,rfl⟩;obtain⟨r,ha,rfl⟩:=(ih f).1 hf;obtain⟨hlv,hle⟩:=p8 h hR l r ha;by_cases e:dep n af N r=l
   ·rcases hlv with hc|⟨d,hd⟩
    ·rw[aT (h.const hc)]at e;omega
    rw[an hd]at e;have hv:d.v=ord.getD l 0:=hl.inj _ _ (h.var hd) v1 zO;refine⟨if b then d.hi else d.lo,.inr ⟨r,d,ha,hd,e,by cases b<;>simp⟩,?_⟩
    funext x
    rw[<-hv];exact h.child hl hi hd x b
   refine⟨r,.inl ⟨ha,e⟩,?_⟩
   funext x
   exact h.bu hl hi hlv v1 zO x b
  rintro⟨r,ha,rfl⟩;rcases ha with⟨h1,h2⟩|⟨p,d,h1,h2,h3,h4⟩
  ·obtain⟨hlv,hle⟩:=p8 h hR l r h1;refine⟨S r,(ih _).2 ⟨r,h1,rfl⟩,false,?_⟩
   funext x
   exact(h.bu hl hi hlv v1 zO x false).symm
  have hv:d.v=ord.getD l 0:=hl.inj _ _ (h.var h2) v1 zO;rcases h4 with rfl|rfl
  ·refine⟨S p,(ih _).2 ⟨p,h1,rfl⟩,false,?_⟩
   funext x
   rw[<-hv];exact(h.child hl hi h2 x false).symm
  refine⟨S p,(ih _).2 ⟨p,h1,rfl⟩,true,?_⟩
  funext x
  rw[<-hv];exact(h.child hl hi h2 x true).symm
theorem k7(h:WF n af N)(hl:jI n af)(ho:Ord n af ord)(hi:Interp N S)(hR:∀r,R r->live N r)(hr:Reach N R)(g:Fn):aA n ord (Fs S R) g↔∃r d,N r=some d/\g=S r:=by
 constructor
 ·rintro⟨l,Kl,hf,x,hx⟩;obtain⟨v1,v2⟩:=ho.at' l Kl;obtain⟨r,ha,rfl⟩:=(OO h hl ho hi hR l zO g).1 hf;obtain⟨hlv,hle⟩:=p8 h hR l r ha;by_cases e:dep n af N r=l
  ·rcases hlv with hc|⟨d,hd⟩
   ·rw[aT (h.const hc)]at e;omega
   exact⟨r,d,hd,rfl⟩
  exact absurd (by rw[h.bu hl hi hlv v1 zO,h.bu hl hi hlv v1 zO]) hx
 rintro⟨r,d,hd,rfl⟩;have hv:=h.var hd;have hlt:=hl.lt _ hv;refine⟨af d.v,hlt,(OO h hl ho hi hR _ zO _).2 ⟨r,Qs h hr _ r d hd (xak _),rfl⟩,?_⟩;rw[ho.of hl hv];refine xaI λhno=>h.ne hd (h.same hl hi (h.lo hd).1 (h.hi hd).1 λx=>?_);have c1:=h.child hl hi hd x false;have c2:=h.child hl hi hd x true;simp only[xaE,xaS,xa0]at c1 c2;rw[<-c1,<-c2];exact xaI λhne=>hno ⟨x,hne⟩
def qS(P:Fn->Prop)(k:Nat):Prop:=∃l:List Fn,l.Nodup/\l.length=k/\∀g,P g↔g∈l
theorem qS.congr{P Q:Fn->Prop}{k:Nat}(h:qS P k)(e:∀g,P g↔Q g):qS Q k:=let ⟨l,h1,h2,h3⟩:=h;⟨l,h1,h2,λg=>(e g).symm.trans (h3 g)⟩
theorem bG{α:Type}:∀{l l':List α},l.Nodup->(∀x∈l,x∈l')->l.length<=l'.length
 | [],l',_,_=>xaK _
 |x::l,l',hn,hs=>by
  obtain⟨h1,h2⟩:=xbd.1 hn;obtain⟨a,b,rfl⟩:=xcT (hs x zI);have:=bG (l':=a++b) h2 λy hy=>by
   have:=hs y (by simp[hy]);rcases xal.1 this with h|h
   ·exact xac _ h
   rcases xaf.1 h with rfl|h
   ·exact absurd hy h1
   exact xaa _ h
  simp at this⊢;omega
theorem qS.le{P Q:Fn->Prop}{k k':Nat}(h:qS P k)(h':qS Q k')(e:∀g,P g->Q g):k<=k':=by
 obtain⟨l,h1,h2,h3⟩:=h;obtain⟨l',yG,kF,xg⟩:=h';rw[<-h2,<-kF];exact bG h1 λx hx=>(xg x).1 (e x ((h3 x).2 hx))
theorem qS.uniq{P:Fn->Prop}{k k':Nat}(h:qS P k)(h':qS P k'):k=k':=Nat.le_antisymm (h.le h' λ_=>id) (h'.le h λ_=>id)
theorem qS.or{P Q:Fn->Prop}{k k':Nat}(h:qS P k)(h':qS Q k')(e:∀g,P g->¬Q g):qS (λg=>P g\/Q g) (k+k'):=by
 obtain⟨l,h1,h2,h3⟩:=h;obtain⟨l',yG,kF,xg⟩:=h';refine⟨l++l',xbb.2 ⟨h1,yG,λa ha b hb e'=>?_⟩,by rw[xai,h2,kF],λg=>by rw[xal,<-h3,<-xg]⟩;subst e';exact e a ((h3 a).2 ha) ((xg a).2 hb)
theorem vb(h:WF n af N)(hl:jI n af)(hi:Interp N S){dom:zL}(hd:dom.Nodup)(hm:∀r,r∈dom↔∃d,N r=some d):qS (λg=>∃r d,N r=some d/\g=S r) dom.length:=by
 refine⟨dom.map S,?_,by simp,λg=>?_⟩
 ·refine xb2.2 (hd.imp_of_mem λ{a b} ha hb hne heq=>hne ?_);exact h.same hl hi (.inr ((hm a).1 ha)) (.inr ((hm b).1 hb)) λx=>by rw[heq]
 rw[xaq];constructor
 ·rintro⟨r,d,h1,rfl⟩;exact⟨r,(hm r).2 ⟨d,h1⟩,rfl⟩
 rintro⟨r,h1,rfl⟩;obtain⟨d,h2⟩:=(hm r).1 h1;exact⟨r,d,h2,rfl⟩
end aq
namespace aq
open ax
def up{α:Type}(N:Nat->α)(r:Nat)(o:α):Nat->α:=λs=>if s=r then o else N s
@[simp] theorem aD{α:Type}{N:Nat->α}{r:Nat}{o:α}:up N r o r=o:=xae rfl
theorem aE{α:Type}{N:Nat->α}{r s:Nat}{o:α}(h:s≠r):up N r o s=N s:=xad h
def nS(T:Nd->Option Nat)(d:Nd)(o:Option Nat):Nd->Option Nat:=λe=>if e=d then o else T e
@[simp] theorem g8{T:Nd->Option Nat}{d:Nd}{o:Option Nat}:nS T d o d=o:=xae rfl
theorem nq{T:Nd->Option Nat}{d e:Nd}{o:Option Nat}(h:e≠d):nS T d o e=T e:=xad h
def e1:Option Nd->Nat->Nat
 |none,_=>0
 |some d,r=>(if d.lo=r then 1 else 0)+(if d.hi=r then 1 else 0)
theorem dm(d:Nd)(r:Nat):e1 (some d) r=(if d.lo=r then 1 else 0)+(if d.hi=r then 1 else 0):=rfl
def cH(N:dA)(r:Nat):Nat->Nat
 |0=>0
 |k+1=>cH N r k+e1 (N k) r
def kO(N:dA):Nat->Nat
 |0=>0
 |k+1=>kO N k+(if(N k).isSome then 1 else 0)
theorem uZ{N:dA}{s r:Nat}{o:Option Nd}:∀{k},(s<k->cH (up N s o) r k+e1 (N s) r=cH N r k+e1 o r)/\(k<=s->cH (up N s o) r k=cH N r k)
 |0=>⟨λh=>by omega,λ_=>rfl⟩
 |k+1=>by
  obtain⟨i1,i2⟩:=uZ (N:=N) (s:=s) (r:=r) (o:=o) (k:=k);refine⟨λh=>?_,λh=>?_⟩
  ·rw[cH,cH];by_cases e:s=k
   ·subst e;rw[aD,i2 (xak _)];omega
   have:=i1 zO;rw[aE (λh=>e h.symm)];omega
  rw[cH,cH,i2 zO,aE zO]
theorem sM{N:dA}{s r k:Nat}{o:Option Nd}(h:s<k):cH (up N s o) r k+e1 (N s) r=cH N r k+e1 o r:=uZ.1 h
theorem oK{N:dA}{s:Nat}{o:Option Nd}:∀{k},(s<k->kO (up N s o) k+(if(N s).isSome then 1 else 0)=kO N k+(if o.isSome then 1 else 0))/\(k<=s->kO (up N s o) k=kO N k)
 |0=>⟨λh=>by omega,λ_=>rfl⟩
 |k+1=>by
  obtain⟨i1,i2⟩:=oK (N:=N) (s:=s) (o:=o) (k:=k);refine⟨λh=>?_,λh=>?_⟩
  ·rw[kO,kO];by_cases e:s=k
   ·subst e;rw[aD,i2 (xak _)];omega
   have:=i1 zO;rw[aE (λh=>e h.symm)];omega
  rw[kO,kO,i2 zO,aE zO]
theorem iB{N:dA}{r:Nat}:∀{k},cH N r k=0->∀s,s<k->∀d,N s=some d->d.lo≠r/\d.hi≠r
 |0,_,s,hs,_,_=>by omega
 |k+1,h,s,hs,d,hd=>by
  rw[cH]at h;by_cases e:s=k
  ·subst e;rw[hd,dm]at h;constructor
   ·intro h1;rw[xae h1]at h;omega
   intro h1;rw[xae h1]at h;omega
  exact iB (k:=k) zO s zO d hd
theorem pT{N:dA}{r:Nat}:∀{k},0<cH N r k->∃s d,s<k/\N s=some d/\(d.lo=r\/d.hi=r)
 |0,h=>by simp[cH]at h
 |k+1,h=>by
  rw[cH]at h;by_cases hk:0<cH N r k
  ·obtain⟨s,d,h1,h2,h3⟩:=pT hk;exact⟨s,d,by omega,h2,h3⟩
  cases hd:N k with
  |none=>rw[hd]at h;simp[e1]at h;omega
  |some d=>
   refine⟨k,d,by omega,hd,?_⟩;rw[hd,dm]at h;by_cases h1:d.lo=r
   ·exact .inl h1
   by_cases h2:d.hi=r
   ·exact .inr h2
   rw[xad h1,xad h2]at h;omega
theorem yY{N:dA}{r:Nat}:∀k,cH N r k<=2*k
 |0=>xak _
 |k+1=>by
  have:=yY (N:=N) (r:=r) k;rw[cH];have:e1 (N k) r<=2:=by
   cases N k with
   |none=>simp[e1]
   |some d=>rw[dm];split<;>split<;>omega
  omega
theorem y9(N:dA):∀k,((List.range k).filter λr=>(N r).isSome).length=kO N k
 |0=>rfl
 |k+1=>by
  rw[xcC,xcy,xai,y9 N k,kO];congr 1;cases h:N k<;>simp[h]
structure Kd where
 n:Nat
 cap:Nat
 used:Nat
 N:dA
 T:Nd->Option Nat
 us:zL
 ho:zL
def Kd.hold(K:Kd)(r:Nat):Nat:=K.ho.getD r 0
def Kd.use(K:Kd)(r:Nat):Nat:=K.us.getD r 0
structure gZ(K:Kd)(S:Nat->Fn)(E:Nat->Prop)(P:Nat->Nat):Prop where
 two:∀{r d},K.N r=some d->2<=r/\r<K.cap
 var:∀{r d},K.N r=some d->d.v<K.n
 ne:∀{r d},K.N r=some d->d.lo≠d.hi
 lo:∀{r d},K.N r=some d->live K.N d.lo
 hi:∀{r d},K.N r=some d->live K.N d.hi
 int:Interp K.N S
 iG:∀d r,K.T d=some r↔K.N r=some d/\¬E r
 use:∀{r d},K.N r=some d->K.use r=cH K.N r K.cap+(if K.hold r=0 then 0 else 1)+P r
 len:K.us.length=K.ho.length
 fit:∀{r d},K.N r=some d->r<K.us.length
 held:∀r,K.hold r≠0->∃d,K.N r=some d
 mx:∀r,K.hold r<=65535
 room:K.used=2+kO K.N K.cap
 cap:K.used<=K.cap/\K.cap<=1048576
variable {K:Kd} {S:Nat->Fn} {E:Nat->Prop} {P:Nat->Nat}
theorem iQ{N:dA}{r s:Nat}{d:Nd}(h:live N s):live (up N r (some d)) s:=by
 rcases h with h|⟨e,h⟩
 ·exact .inl h
 by_cases e2:s=r
 ·subst e2;exact .inr ⟨d,aD⟩
 exact .inr ⟨e,by rw[aE e2];exact h⟩
theorem uH{N:dA}{r s:Nat}(h:live N s)(hne:s≠r):live (up N r none) s:=by
 rcases h with h|⟨e,h⟩
 ·exact .inl h
 exact .inr ⟨e,by rw[aE hne];exact h⟩
def Pos(K:Kd):Prop:=∀r d,K.N r=some d->0<K.use r
theorem gZ.less(h:gZ K S E P){r:Nat}{cN:zL}(hP:0<P r)(hl:cN.length=K.us.length)(h1:cN.getD r 0+1=K.use r)(h2:∀s,s≠r->cN.getD s 0=K.use s):
  gZ {K with us:=cN} S E (up P r (P r-1)) where
 two:=h.two
 var:=h.var
 ne:=h.ne
 lo:=h.lo
 hi:=h.hi
 int:=h.int
 iG:=h.iG
 use:=λ{s d} hd=>by
  have:=h.use hd;show cN.getD s 0=cH K.N s K.cap+(if K.hold s=0 then 0 else 1)+up P r (P r-1) s;by_cases e:s=r
  ·subst e;rw[aD];omega
  rw[h2 s e,aE e];exact this
 len:=by show cN.length=_;rw[hl];exact h.len
 fit:=λ{s d} hd=>by show s<cN.length;rw[hl];exact h.fit hd
 held:=h.held
 mx:=h.mx
 room:=h.room
 cap:=h.cap
theorem gZ.free(h:gZ K S E P){r:Nat}{d:Nd}(hd:K.N r=some d)(hE:¬E r)(h0:K.use r=0):
  gZ {K with N:=up K.N r none,T:=nS K.T d none,used:=K.used-1} S E (λs=>P s+e1 (some d) s) where
 two:=λ{s e} hs=>by
  have hs':up K.N r none s=some e:=hs;by_cases e2:s=r
  ·subst e2;rw[aD]at hs';cases hs'
  rw[aE e2]at hs';exact h.two hs'
 var:=λ{s e} hs=>by
  have hs':up K.N r none s=some e:=hs;by_cases e2:s=r
  ·subst e2;rw[aD]at hs';cases hs'
  rw[aE e2]at hs';exact h.var hs'
 ne:=λ{s e} hs=>by
  have hs':up K.N r none s=some e:=hs;by_cases e2:s=r
  ·subst e2;rw[aD]at hs';cases hs'
  rw[aE e2]at hs';exact h.ne hs'
 lo:=λ{s e} hs=>by
  have hs':up K.N r none s=some e:=hs;by_cases e2:s=r
  ·subst e2;rw[aD]at hs';cases hs'
  rw[aE e2]at hs';have hu:=h.use hd;exact uH (h.lo hs') (iB zO s (h.two hs').2 e hs').1
 hi:=λ{s e} hs=>by
  have hs':up K.N r none s=some e:=hs;by_cases e2:s=r
  ·subst e2;rw[aD]at hs';cases hs'
  rw[aE e2]at hs';have hu:=h.use hd;exact uH (h.hi hs') (iB zO s (h.two hs').2 e hs').2
 int:=⟨h.int.zero,h.int.one,λ{s e} hs x=>by
  have hs':up K.N r none s=some e:=hs;by_cases e2:s=r
  ·subst e2;rw[aD]at hs';cases hs'
  rw[aE e2]at hs';exact h.int.node hs' x⟩
 iG:=λe s=>by
  show nS K.T d none e=some s↔up K.N r none s=some e/\_;by_cases e2:e=d
  ·subst e2;rw[g8];constructor
   ·intro h;cases h
   rintro⟨h1,h2⟩;by_cases e3:s=r
   ·subst e3;rw[aD]at h1;cases h1
   rw[aE e3]at h1;have a:=(h.iG e s).2 ⟨h1,h2⟩;have b:=(h.iG e r).2 ⟨hd,hE⟩;rw[a]at b;cases b;exact absurd rfl e3
  rw[nq e2,h.iG];by_cases e3:s=r
  ·subst e3;rw[aD];constructor
   ·rintro⟨h1,_⟩;rw[hd]at h1;cases h1;exact absurd rfl e2
   rintro⟨h1,_⟩;cases h1
  rw[aE e3]
 use:=λ{s e} hs=>by
  have hs':up K.N r none s=some e:=hs;by_cases e2:s=r
  ·subst e2;rw[aD]at hs';cases hs'
  rw[aE e2]at hs';have hu:=h.use hs';have he:=sM (N:=K.N) (s:=r) (r:=s) (k:=K.cap) (o:=none) (h.two hd).2;show K.use s=cH (up K.N r none) s K.cap+(if K.hold s=0 then 0 else 1)+(P s+e1 (some d) s);rw[hd]at he;have:e1 none s=0:=rfl;omega
 len:=h.len
 fit:=λ{s e} hs=>by
  have hs':up K.N r none s=some e:=hs;by_cases e2:s=r
  ·subst e2;rw[aD]at hs';cases hs'
  rw[aE e2]at hs';exact h.fit hs'
 held:=λs hs=>by
  obtain⟨e,he⟩:=h.held s hs;have hne:s≠r:=λe2=>by
   subst e2;have hu:=h.use hd;have hs':K.hold s≠0:=hs;rw[xad hs']at hu;omega
  exact⟨e,by show up K.N r none s=_;rw[aE hne];exact he⟩
 mx:=h.mx
 room:=by
  have:=(oK (N:=K.N) (s:=r) (o:=none) (k:=K.cap)).1 (h.two hd).2;have hr:=h.room;rw[hd]at this;show K.used-1=2+kO (up K.N r none) K.cap;simp at this;omega
 cap:=⟨by have:=h.cap.1;show K.used-1<=K.cap;omega,h.cap.2⟩
theorem gZ.more(h:gZ K S E P){r:Nat}{cN:zL}(hl:cN.length=K.us.length)(h1:cN.getD r 0=K.use r+1)(h2:∀s,s≠r->cN.getD s 0=K.use s):
  gZ {K with us:=cN} S E (up P r (P r+1)) where
 two:=h.two
 var:=h.var
 ne:=h.ne
 lo:=h.lo
 hi:=h.hi
 int:=h.int
 iG:=h.iG
 use:=λ{s d} hd=>by
  have:=h.use hd;show cN.getD s 0=cH K.N s K.cap+(if K.hold s=0 then 0 else 1)+up P r (P r+1) s;by_cases e:s=r
  ·subst e;rw[aD];omega
  rw[h2 s e,aE e];exact this
 len:=by show cN.length=_;rw[hl];exact h.len
 fit:=λ{s d} hd=>by show s<cN.length;rw[hl];exact h.fit hd
 held:=h.held
 mx:=h.mx
 room:=h.room
 cap:=h.cap
end aq
namespace aq
open ax
variable {K:Kd} {S:Nat->Fn} {E:Nat->Prop} {P:Nat->Nat}
def ite(S:Nat->Fn)(d:Nd):Fn:=λx=>if x.testBit d.v then S d.hi x else S d.lo x
theorem eP{N:dA}{r s:Nat}(h:live N s)(h2:2<=r)(hr:N r=none):s≠r:=λe=>by
 subst e;rcases h with h|⟨d,h⟩
 ·omega
 rw[hr]at h;cases h
theorem gZ.lay(h:gZ K S E P){r:Nat}{d:Nd}{cN cg:zL}(hr:K.N r=none)(h2:2<=r/\r<K.cap)(hv:d.v<K.n)(hne:d.lo≠d.hi)(hlo:live K.N d.lo)(hhi:live K.N d.hi)(hT:K.T d=none)(hE:¬E r)
 (hP:P r=0)(hro:K.used<K.cap)(hl:cN.length=cg.length)(hf:r<cN.length/\K.us.length<=cN.length)(u0:cN.getD r 0=0)(u1:∀s,2<=s->s≠r->cN.getD s 0=K.use s+e1 (some d) s)(o0:cg.getD r 0=0)(o1:∀s,s≠r->cg.getD s 0=K.hold s):
  gZ {K with N:=up K.N r (some d),T:=nS K.T d (some r),used:=K.used+1,us:=cN,ho:=cg} (up S r (ite S d)) E P where
 two:=λ{s e} hs=>by
  have hs':up K.N r (some d) s=some e:=hs;by_cases e2:s=r
  ·subst e2;exact h2
  rw[aE e2]at hs';exact h.two hs'
 var:=λ{s e} hs=>by
  have hs':up K.N r (some d) s=some e:=hs;by_cases e2:s=r
  ·subst e2;rw[aD]at hs';cases hs';exact hv
  rw[aE e2]at hs';exact h.var hs'
 ne:=λ{s e} hs=>by
  have hs':up K.N r (some d) s=some e:=hs;by_cases e2:s=r
  ·subst e2;rw[aD]at hs';cases hs';exact hne
  rw[aE e2]at hs';exact h.ne hs'
 lo:=λ{s e} hs=>by
  have hs':up K.N r (some d) s=some e:=hs;by_cases e2:s=r
  ·subst e2;rw[aD]at hs';cases hs';exact iQ hlo
  rw[aE e2]at hs';exact iQ (h.lo hs')
 hi:=λ{s e} hs=>by
  have hs':up K.N r (some d) s=some e:=hs;by_cases e2:s=r
  ·subst e2;rw[aD]at hs';cases hs';exact iQ hhi
  rw[aE e2]at hs';exact iQ (h.hi hs')
 int:=⟨λx=>by rw[aE zO];exact h.int.zero x,λx=>by rw[aE zO];exact h.int.one x,λ{s e} hs x=>by
  have hs':up K.N r (some d) s=some e:=hs;by_cases e2:s=r
  ·subst e2;rw[aD]at hs';cases hs';rw[aD,aE (eP hlo h2.1 hr),aE (eP hhi h2.1 hr)];rfl
  rw[aE e2]at hs';rw[aE e2,aE (eP (h.lo hs') h2.1 hr),aE (eP (h.hi hs') h2.1 hr)];exact h.int.node hs' x⟩
 iG:=λe s=>by
  show nS K.T d (some r) e=some s↔up K.N r (some d) s=some e/\_;by_cases e2:e=d
  ·subst e2;rw[g8];constructor
   ·intro h;cases h;exact⟨aD,hE⟩
   rintro⟨h1,kF⟩;by_cases e3:s=r
   ·rw[e3]
   rw[aE e3]at h1;have a:=(h.iG e s).2 ⟨h1,kF⟩;rw[hT]at a;cases a
  rw[nq e2,h.iG];by_cases e3:s=r
  ·subst e3;rw[aD,hr];constructor
   ·rintro⟨h1,_⟩;cases h1
   rintro⟨h1,_⟩;cases h1;exact absurd rfl e2
  rw[aE e3]
 use:=λ{s e} hs=>by
  have hs':up K.N r (some d) s=some e:=hs;have he:=sM (N:=K.N) (s:=r) (r:=s) (k:=K.cap) (o:=some d) h2.2;rw[hr]at he;have h0:e1 none s=0:=rfl;show cN.getD s 0=cH (up K.N r (some d)) s K.cap+(if cg.getD s 0=0 then 0 else 1)+P s;by_cases e2:s=r
  ·subst e2;have hz:cH K.N s K.cap=0:=by
    refine Nat.eq_zero_of_not_pos λhp=>?_;obtain⟨t,e',_,ht,hc⟩:=pT hp;have xd:=eP (h.lo ht) h2.1 hr;have qp:=eP (h.hi ht) h2.1 hr;rcases hc with hc|hc
    ·exact xd hc
    exact qp hc
   have hd0:e1 (some d) s=0:=by
    rw[dm,xad (eP hlo h2.1 hr),xad (eP hhi h2.1 hr)]
   rw[u0,o0,xae rfl];omega
  rw[aE e2]at hs';have hu:=h.use hs';have h3:cg.getD s 0=K.hold s:=o1 s e2;rw[u1 s (h.two hs').1 e2,h3];omega
 len:=hl
 fit:=λ{s e} hs=>by
  have hs':up K.N r (some d) s=some e:=hs;show s<cN.length;by_cases e2:s=r
  ·subst e2;exact hf.1
  rw[aE e2]at hs';exact xa2 (h.fit hs') hf.2
 held:=λs hs=>by
  have hs':cg.getD s 0≠0:=hs;by_cases e2:s=r
  ·subst e2;exact⟨d,aD⟩
  rw[o1 s e2]at hs';obtain⟨e,he⟩:=h.held s hs';exact⟨e,by show up K.N r (some d) s=_;rw[aE e2];exact he⟩
 mx:=λs=>by
  show cg.getD s 0<=65535;by_cases e2:s=r
  ·subst e2;rw[o0];decide
  rw[o1 s e2];exact h.mx s
 room:=by
  have:=(oK (N:=K.N) (s:=r) (o:=some d) (k:=K.cap)).1 h2.2;have hr':=h.room;rw[hr]at this;show K.used+1=2+kO (up K.N r (some d)) K.cap;simp at this;omega
 cap:=⟨by show K.used+1<=K.cap;omega,h.cap.2⟩
theorem gZ.Yg(h:gZ K S E P){r:Nat}{d:Nd}(hd:K.N r=some d)(hE:¬E r):gZ {K with T:=nS K.T d none} S (λs=>E s\/s=r) P where
 two:=h.two
 var:=h.var
 ne:=h.ne
 lo:=h.lo
 hi:=h.hi
 int:=h.int
 iG:=λe s=>by
  show nS K.T d none e=some s↔_;by_cases e2:e=d
  ·subst e2;rw[g8];constructor
   ·intro h;cases h
   rintro⟨h1,h2⟩;have a:=(h.iG e s).2 ⟨h1,λx=>h2 (.inl x)⟩;have b:=(h.iG e r).2 ⟨hd,hE⟩;rw[a]at b;cases b;exact absurd (.inr rfl) h2
  rw[nq e2,h.iG];constructor
  ·rintro⟨h1,h2⟩;refine⟨h1,λx=>?_⟩;rcases x with x|rfl
   ·exact h2 x
   have yG:K.N s=some e:=h1;rw[hd]at yG;cases yG;exact e2 rfl
  rintro⟨h1,h2⟩;exact⟨h1,λx=>h2 (.inl x)⟩
 use:=h.use
 len:=h.len
 fit:=h.fit
 held:=h.held
 mx:=h.mx
 room:=h.room
 cap:=h.cap
theorem gZ.vE(h:gZ K S E P){r:Nat}{d d':Nd}{P':Nat->Nat}(hd:K.N r=some d)(hE:E r)(hv:d'.v<K.n)(hne:d'.lo≠d'.hi)(hlo:live K.N d'.lo)(hhi:live K.N d'.hi)(hT:K.T d'=none)(hS:∀x,S r x=ite S d' x)
 (hP:∀s,2<=s->P' s+e1 (some d') s=P s+e1 (some d) s):gZ {K with N:=up K.N r (some d'),T:=nS K.T d' (some r)} S (λs=>E s/\s≠r) P' where
 two:=λ{s e} hs=>by
  have hs':up K.N r (some d') s=some e:=hs;by_cases e2:s=r
  ·subst e2;exact h.two hd
  rw[aE e2]at hs';exact h.two hs'
 var:=λ{s e} hs=>by
  have hs':up K.N r (some d') s=some e:=hs;by_cases e2:s=r
  ·subst e2;rw[aD]at hs';cases hs';exact hv
  rw[aE e2]at hs';exact h.var hs'
 ne:=λ{s e} hs=>by
  have hs':up K.N r (some d') s=some e:=hs;by_cases e2:s=r
  ·subst e2;rw[aD]at hs';cases hs';exact hne
  rw[aE e2]at hs';exact h.ne hs'
 lo:=λ{s e} hs=>by
  have hs':up K.N r (some d') s=some e:=hs;by_cases e2:s=r
  ·subst e2;rw[aD]at hs';cases hs';exact iQ hlo
  rw[aE e2]at hs';exact iQ (h.lo hs')
 hi:=λ{s e} hs=>by
  have hs':up K.N r (some d') s=some e:=hs;by_cases e2:s=r
  ·subst e2;rw[aD]at hs';cases hs';exact iQ hhi
  rw[aE e2]at hs';exact iQ (h.hi hs')
 int:=⟨h.int.zero,h.int.one,λ{s e} hs x=>by
  have hs':up K.N r (some d') s=some e:=hs;by_cases e2:s=r
  ·subst e2;rw[aD]at hs';cases hs';exact hS x
  rw[aE e2]at hs';exact h.int.node hs' x⟩
 iG:=λe s=>by
  show nS K.T d' (some r) e=some s↔up K.N r (some d') s=some e/\¬(E s/\s≠r);by_cases e2:e=d'
  ·subst e2;rw[g8];constructor
   ·intro h;cases h;exact⟨aD,λx=>x.2 rfl⟩
   rintro⟨h1,kF⟩;by_cases e3:s=r
   ·rw[e3]
   rw[aE e3]at h1;have a:=(h.iG e s).2 ⟨h1,λx=>kF ⟨x,e3⟩⟩;rw[hT]at a;cases a
  rw[nq e2,h.iG];by_cases e3:s=r
  ·subst e3;rw[aD];constructor
   ·rintro⟨_,h1⟩;exact absurd hE h1
   rintro⟨h1,_⟩;cases h1;exact absurd rfl e2
  rw[aE e3];constructor
  ·rintro⟨h1,h2⟩;exact⟨h1,λx=>h2 x.1⟩
  rintro⟨h1,h2⟩;exact⟨h1,λx=>h2 ⟨x,e3⟩⟩
 use:=λ{s e} hs=>by
  have hs':up K.N r (some d') s=some e:=hs;have he:=sM (N:=K.N) (s:=r) (r:=s) (k:=K.cap) (o:=some d') (h.two hd).2;rw[hd]at he;show K.use s=cH (up K.N r (some d')) s K.cap+(if K.hold s=0 then 0 else 1)+P' s;by_cases e2:s=r
  ·subst e2;have hu:=h.use hd;have:=hP s (h.two hd).1;omega
  rw[aE e2]at hs';have hu:=h.use hs';have:=hP s (h.two hs').1;omega
 len:=h.len
 fit:=λ{s e} hs=>by
  have hs':up K.N r (some d') s=some e:=hs;by_cases e2:s=r
  ·subst e2;exact h.fit hd
  rw[aE e2]at hs';exact h.fit hs'
 held:=λs hs=>by
  obtain⟨e,he⟩:=h.held s hs;by_cases e2:s=r
  ·subst e2;exact⟨d',aD⟩
  exact⟨e,by show up K.N r (some d') s=_;rw[aE e2];exact he⟩
 mx:=h.mx
 room:=by
  have:=(oK (N:=K.N) (s:=r) (o:=some d') (k:=K.cap)).1 (h.two hd).2;have hr':=h.room;rw[hd]at this;show K.used=2+kO (up K.N r (some d')) K.cap;simp at this;omega
 cap:=h.cap
theorem gZ.keep(h:gZ K S E P){r:Nat}{cN cg:zL}(hr:∃d,K.N r=some d)(hm:K.hold r<65535)(hl:cN.length=K.us.length/\cg.length=K.ho.length)(o0:cg.getD r 0=K.hold r+1)(o1:∀s,s≠r->cg.getD s 0=K.hold s)
 (u0:cN.getD r 0=K.use r+(if K.hold r=0 then 1 else 0))(u1:∀s,s≠r->cN.getD s 0=K.use s):gZ {K with us:=cN,ho:=cg} S E P where
 two:=h.two
 var:=h.var
 ne:=h.ne
 lo:=h.lo
 hi:=h.hi
 int:=h.int
 iG:=h.iG
 use:=λ{s e} hs=>by
  have hu:=h.use hs;show cN.getD s 0=cH K.N s K.cap+(if cg.getD s 0=0 then 0 else 1)+P s;by_cases e2:s=r
  ·subst e2;rw[u0,o0,xad (by omega:¬K.hold s+1=0)];by_cases e3:K.hold s=0
   ·rw[xae e3]at hu⊢;omega
   rw[xad e3]at hu⊢;omega
  rw[u1 s e2,o1 s e2];exact hu
 len:=by show cN.length=cg.length;rw[hl.1,hl.2];exact h.len
 fit:=λ{s e} hs=>by show s<cN.length;rw[hl.1];exact h.fit hs
 held:=λs hs=>by
  have hs':cg.getD s 0≠0:=hs;by_cases e2:s=r
  ·subst e2;exact hr
  rw[o1 s e2]at hs';exact h.held s hs'
 mx:=λs=>by
  show cg.getD s 0<=65535;by_cases e2:s=r
  ·subst e2;rw[o0];omega
  rw[o1 s e2];exact h.mx s
 room:=h.room
 cap:=h.cap
theorem gZ.drop(h:gZ K S E P){r:Nat}{cg:zL}(hr:0<K.hold r)(hl:cg.length=K.ho.length)(o0:cg.getD r 0+1=K.hold r)(o1:∀s,s≠r->cg.getD s 0=K.hold s):
  gZ {K with ho:=cg} S E (if K.hold r=1 then up P r (P r+1)else P) where
 two:=h.two
 var:=h.var
 ne:=h.ne
 lo:=h.lo
 hi:=h.hi
 int:=h.int
 iG:=h.iG
 use:=λ{s e} hs=>by
  have hu:=h.use hs;show K.use s=cH K.N s K.cap+(if cg.getD s 0=0 then 0 else 1)+(if K.hold r=1 then up P r (P r+1)else P) s;by_cases e2:s=r
  ·subst e2;rw[xad (by omega:¬K.hold s=0)]at hu;by_cases e3:K.hold s=1
   ·rw[xae e3,aD,xae zO];omega
   rw[xad e3,xad zO];omega
  rw[o1 s e2];by_cases e3:K.hold r=1
  ·rw[xae e3,aE e2];exact hu
  rw[xad e3];exact hu
 len:=by show K.us.length=cg.length;rw[hl];exact h.len
 fit:=h.fit
 held:=λs hs=>by
  have hs':cg.getD s 0≠0:=hs;by_cases e2:s=r
  ·subst e2;exact h.held s zO
  rw[o1 s e2]at hs';exact h.held s hs'
 mx:=λs=>by
  show cg.getD s 0<=65535;have:=h.mx r;by_cases e2:s=r
  ·subst e2;omega
  rw[o1 s e2];exact h.mx s
 room:=h.room
 cap:=h.cap
theorem gZ.congr(h:gZ K S E P){E':Nat->Prop}{P':Nat->Nat}(hE:∀s,E s↔E' s)(hP:∀s,2<=s->P s=P' s):gZ K S E' P' where
 two:=h.two
 var:=h.var
 ne:=h.ne
 lo:=h.lo
 hi:=h.hi
 int:=h.int
 iG:=λd r=>by rw[h.iG,hE]
 use:=λ{s e} hs=>by rw[<-hP s (h.two hs).1];exact h.use hs
 len:=h.len
 fit:=h.fit
 held:=h.held
 mx:=h.mx
 room:=h.room
 cap:=h.cap
def fZ:Nat->Prop:=λ_=>False
def zero':Nat->Nat:=λ_=>0
structure Ok(K:Kd)(S:Nat->Fn)(af:Nat->Nat):Prop where
 mid:gZ K S fZ zero'
 pos:Pos K
 lv:jI K.n af
 wf:WF K.n af K.N
theorem gZ.uq(h:gZ K S fZ P){r r':Nat}{d:Nd}(h1:K.N r=some d)(h2:K.N r'=some d):r=r':=by
 have a:=(h.iG d r).2 ⟨h1,λx=>x⟩;have b:=(h.iG d r').2 ⟨h2,λx=>x⟩;rw[a]at b;cases b;rfl
theorem gZ.wf(h:gZ K S fZ P){af:Nat->Nat}(hl:∀{r d},K.N r=some d->af d.v<dep K.n af K.N d.lo/\af d.v<dep K.n af K.N d.hi):WF K.n af K.N:=
 ⟨λhd=>(h.two hd).1,h.var,h.ne,λhd=>⟨h.lo hd,(hl hd).1⟩,λhd=>⟨h.hi hd,(hl hd).2⟩,h.uq⟩
theorem Ok.reach{af:Nat->Nat}(h:Ok K S af):Reach K.N (λr=>K.hold r≠0):=λr d hd=>by
 have hu:=h.mid.use hd;have hp:=h.pos r d hd;by_cases e:K.hold r=0
 ·rw[xae e]at hu;have:zero' r=0:=rfl;obtain⟨s,e',_,h1,h2⟩:=pT (N:=K.N) (r:=r) (k:=K.cap) zO;exact .inr ⟨s,e',h1,h2⟩
 exact .inl e
theorem Ok.dom{af:Nat->Nat}(h:Ok K S af):∃dom:zL,dom.Nodup/\dom.length+2=K.used/\∀r,r∈dom↔∃d,K.N r=some d:=by
 refine⟨(List.range K.cap).filter λr=>(K.N r).isSome,xcs.filter _,by rw[y9,h.mid.room];omega,λr=>?_⟩;rw[xcj,xaV,xdk];exact⟨λh=>h.2,λ⟨d,hd⟩=>⟨(h.mid.two hd).2,d,hd⟩⟩
def Kd.held(K:Kd)(S:Nat->Fn):Fn->Prop:=Fs S λr=>K.hold r≠0
theorem Ok.size{af:Nat->Nat}{ord:zL}(h:Ok K S af)(ho:Ord K.n af ord):qS (aA K.n ord (K.held S)) (K.used-2):=by
 obtain⟨dom,h1,h2,h3⟩:=h.dom;have hc:=vb h.wf h.lv h.mid.int h1 h3;rw[show dom.length=K.used-2 by omega]at hc;refine hc.congr λg=>?_;exact(k7 h.wf h.lv ho h.mid.int (λr hr=>.inr (h.mid.held r hr)) h.reach g).symm
end aq
namespace aq
open ax
variable {n:Nat} {af:Nat->Nat} {N:dA} {S:Nat->Fn} {ord:zL} {K:Kd}
def pl(N:dA)(y r:Nat):Nat:=match N r with|some e=>if e.v=y then e.lo else r|none=>r
def ph(N:dA)(y r:Nat):Nat:=match N r with|some e=>if e.v=y then e.hi else r|none=>r
theorem Nv{y r:Nat}{e:Nd}(h:N r=some e)(hv:e.v=y):pl N y r=e.lo/\ph N y r=e.hi:=by simp[pl,ph,h,hv]
theorem Nw{y r:Nat}(h:∀e,N r=some e->e.v≠y):pl N y r=r/\ph N y r=r:=by
 unfold pl ph;cases hr:N r with
 |none=>exact⟨rfl,rfl⟩
 |some e=>simp[h e hr]
theorem WF.half(h:WF n af N)(hl:jI n af)(hi:Interp N S){y l r:Nat}(hy:y<n/\af y=l+1)(hr:live N r)(hd:l<dep n af N r):
  (live N (pl N y r)/\l+1<dep n af N (pl N y r))/\(live N (ph N y r)/\l+1<dep n af N (ph N y r))/\∀z,S r z=if z.testBit y then S (ph N y r) z else S (pl N y r) z:=by
 by_cases e:∃e,N r=some e/\e.v=y
 ·obtain⟨e,he,hv⟩:=e;obtain⟨p1,p2⟩:=Nv he hv;rw[p1,p2];have h1:=h.lo he;have h2:=h.hi he;rw[hv,hy.2]at h1 h2;exact⟨h1,h2,λz=>by rw[hi.node he,hv]⟩
 have ho:∀e',N r=some e'->e'.v≠y:=λe' h1 h2=>e ⟨e',h1,h2⟩;obtain⟨p1,p2⟩:=Nw ho;rw[p1,p2];have uU:l+1<dep n af N r:=by
  rcases hr with hr|⟨e',he⟩
  ·rw[aT (h.const hr)];have:=hl.lt y hy.1;omega
  rw[an he]at hd⊢;have h1:=ho e' he;refine Nat.lt_of_le_of_ne hd λe2=>h1 (hl.inj _ _ (h.var he) hy.1 zO)
 exact⟨⟨hr,uU⟩,⟨hr,uU⟩,λz=>by split<;>rfl⟩
theorem WF.Ot(h:WF n af N)(hl:jI n af)(hi:Interp N S){y l a b:Nat}(hy:y<n/\af y=l+1)(ha:live N a)(hb:live N b)(da:l<dep n af N a)(db:l<dep n af N b)
 (h1:pl N y a=pl N y b)(h2:ph N y a=ph N y b):a=b:=by
 refine h.same hl hi ha hb λz=>?_;rw[(h.half hl hi hy ha da).2.2 z,(h.half hl hi hy hb db).2.2 z,h1,h2]
structure Cx where
 r:Nat
 d:Nd
 ud:Nat
 uc:Nat
 qy:Nat
 qx:Nat
def kj(N:dA)(x y r:Nat)(d:Nd):Prop:=N r=some d/\d.v=x/\((∃e,N d.lo=some e/\e.v=y)\/∃e,N d.hi=some e/\e.v=y)
def lZ(N:dA)(y r:Nat)(d:Nd):Cx:=⟨r,d,pl N y d.lo,ph N y d.lo,pl N y d.hi,ph N y d.hi⟩
structure EV(N:dA)(x y:Nat)(l:List Cx):Prop where
 nd:(l.map Cx.r).Nodup
 mem:∀c,c∈l↔kj N x y c.r c.d/\c=lZ N y c.r c.d
def keys(x:Nat)(c:Cx):List Nd:=[⟨x,c.ud,c.qy⟩,⟨x,c.uc,c.qx⟩]
structure Made(K:Kd)(x:Nat)(l:List Cx)(made:List Nd):Prop where
 nd:made.Nodup
 mem:∀k,k∈made↔(∃c∈l,k∈keys x c)/\K.T k=none/\k.lo≠k.hi
structure Nb(n:Nat)(af:Nat->Nat)(x y l:Nat):Prop where
 xn:x<n
 yn:y<n
 lx:af x=l
 ly:af y=l+1
variable {x y l:Nat}
theorem Nb.ne(h:Nb n af x y l):x≠y:=λe=>by have h1:=h.lx;have h2:=h.ly;rw[e]at h1;omega
theorem Nb.yy(h:Nb n af x y l):y<n/\af y=l+1:=⟨h.yn,h.ly⟩
theorem jx(h:WF n af N)(hl:jI n af)(hi:Interp N S)(hb:Nb n af x y l){r:Nat}{d:Nd}(hd:N r=some d)(hx:d.v=x){k:Nd}(hk:k∈keys x (lZ N y r d)):
  k.v=x/\(live N k.lo/\l+1<dep n af N k.lo)/\(live N k.hi/\l+1<dep n af N k.hi):=by
 have h1:=h.lo hd;have h2:=h.hi hd;rw[hx,hb.lx]at h1 h2;have a:=h.half hl hi hb.yy h1.1 h1.2;have b:=h.half hl hi hb.yy h2.1 h2.2;simp only[keys,lZ,xaf,xao,xaQ]at hk;rcases hk with rfl|rfl
 ·exact⟨rfl,a.1,b.1⟩
 exact⟨rfl,a.2.1,b.2.1⟩
theorem sO(h:WF n af N)(hl:jI n af)(hi:Interp N S)(hb:Nb n af x y l){r:Nat}{d:Nd}(hd:N r=some d)(hx:d.v=x)(z:Nat):
  S r z=if z.testBit y then ite S ⟨x,ph N y d.lo,ph N y d.hi⟩ z else ite S ⟨x,pl N y d.lo,pl N y d.hi⟩ z:=by
 have h1:=h.lo hd;have h2:=h.hi hd;rw[hx,hb.lx]at h1 h2;have a:=(h.half hl hi hb.yy h1.1 h1.2).2.2 z;have b:=(h.half hl hi hb.yy h2.1 h2.2).2.2 z;rw[hi.node hd,hx,a,b];unfold ite;simp only;cases z.testBit x<;>cases z.testBit y<;>rfl
theorem gN(h:WF n af N)(hl:jI n af)(hi:Interp N S)(hb:Nb n af x y l){k:Nd}(hk:k.v=x)(h1:live N k.lo/\l+1<dep n af N k.lo)(h2:live N k.hi/\l+1<dep n af N k.hi)(z:Nat)(b:Bool):
  ite S k (ay z x b)=S (if b then k.hi else k.lo) z:=by
 unfold ite;rw[hk,ak,xae rfl];cases b
 ·simp only[xaE,xaS];exact h.bu hl hi h1.1 hb.xn (by rw[hb.lx];omega) z false
 simp only[xa0];exact h.bu hl hi h2.1 hb.xn (by rw[hb.lx];omega) z true
theorem gX(h:WF n af N)(hl:jI n af)(hi:Interp N S)(hb:Nb n af x y l){k:Nd}(hk:k.v=x)(h1:live N k.lo/\l+1<dep n af N k.lo)(h2:live N k.hi/\l+1<dep n af N k.hi){u:Nat}(hu:u<n)(FR:af u<=l+1)(hne:u≠x)(z:Nat)(b:Bool):
  ite S k (ay z u b)=ite S k z:=by
 unfold ite;rw[hk,ak,xad (xbp hne),h.bu hl hi h1.1 hu zO,h.bu hl hi h2.1 hu zO]
theorem iq(h:WF n af N)(hl:jI n af)(hi:Interp N S){r:Nat}{d:Nd}(hd:N r=some d):∃z,S r (ay z d.v false)≠S r (ay z d.v true):=by
 refine xaI λhno=>h.ne hd (h.same hl hi (h.lo hd).1 (h.hi hd).1 λz=>?_);have c1:=h.child hl hi hd z false;have c2:=h.child hl hi hd z true;simp only[xaE,xaS,xa0]at c1 c2;rw[<-c1,<-c2];exact xaI λhne=>hno ⟨z,hne⟩
theorem JU(h:WF n af N)(hl:jI n af)(hi:Interp N S)(hb:Nb n af x y l){k:Nd}(hk:k.v=x)(hne:k.lo≠k.hi)(h1:live N k.lo/\l+1<dep n af N k.lo)(h2:live N k.hi/\l+1<dep n af N k.hi)
 {r:Nat}{d:Nd}(hd:N r=some d)(he:ite S k=S r):d=k:=by
 have hv:=h.var hd;have hvx:d.v=x:=by
  rcases xc0 (af d.v) l with hlt|heq|hgt
  ·obtain⟨z,hz⟩:=iq h hl hi hd;have Uu:d.v≠x:=λe=>by rw[e,hb.lx]at hlt;omega
   rw[<-he,gX h hl hi hb hk h1 h2 hv zO Uu,gX h hl hi hb hk h1 h2 hv zO Uu]at hz;exact absurd rfl hz
  ·exact hl.inj _ _ hv hb.xn (by rw[hb.lx];exact heq)
  refine absurd (h.same hl hi h1.1 h2.1 λz=>?_) hne;have c1:=gN h hl hi hb hk h1 h2 z false;have c2:=gN h hl hi hb hk h1 h2 z true;simp only[xaE,xaS,xa0]at c1 c2;have Oj:af x<dep n af N r:=by rw[an hd,hb.lx];exact hgt
  rw[<-c1,<-c2,he,h.bu hl hi (.inr ⟨d,hd⟩) hb.xn Oj,h.bu hl hi (.inr ⟨d,hd⟩) hb.xn Oj]
 have c:∀(b:Bool) z,S (if b then k.hi else k.lo) z=S (if b then d.hi else d.lo) z:=λ(b:Bool) z=>by
  rw[<-gN h hl hi hb hk h1 h2 z b,he,<-hvx,h.child hl hi hd z b]
 have e1:=h.same hl hi h1.1 (h.lo hd).1 (λz=>by simpa using c false z);have e2:=h.same hl hi h2.1 (h.hi hd).1 (λz=>by simpa using c true z);cases d;cases k;simp_all
theorem NU(h:WF n af N)(hl:jI n af)(hi:Interp N S)(hb:Nb n af x y l){k k':Nd}(hk:k.v=x)(hk':k'.v=x)(h1:live N k.lo/\l+1<dep n af N k.lo)(h2:live N k.hi/\l+1<dep n af N k.hi)
 (yG:live N k'.lo/\l+1<dep n af N k'.lo)(kF:live N k'.hi/\l+1<dep n af N k'.hi)(he:ite S k=ite S k'):k=k':=by
 have c:∀(b:Bool) z,S (if b then k.hi else k.lo) z=S (if b then k'.hi else k'.lo) z:=λ(b:Bool) z=>by
  rw[<-gN h hl hi hb hk h1 h2 z b,he,gN h hl hi hb hk' yG kF z b]
 have e1:=h.same hl hi h1.1 yG.1 (λz=>by simpa using c false z);have e2:=h.same hl hi h2.1 kF.1 (λz=>by simpa using c true z);cases k;cases k';simp_all
def ej(ord:zL)(l:Nat):zL:=(ord.set l (ord.getD (l+1) 0)).set (l+1) (ord.getD l 0)
theorem jS(ord:zL)(l:Nat):(ej ord l).length=ord.length:=by simp[ej]
theorem dH{i:Nat}(hl:l+1<ord.length):(ej ord l).getD i 0=if i=l then ord.getD (l+1) 0 else if i=l+1 then ord.getD l 0 else ord.getD i 0:=by
 unfold ej;rw[xah,xbU,xbU];by_cases e1:l+1=i
 ·subst e1;rw[xae rfl,xae zP,xad zO,xae rfl];rfl
 rw[xad e1];by_cases e2:l=i
 ·subst e2;rw[xae rfl,xae zO,xae rfl];rfl
 rw[xad e2,xad (λe=>e2 e.symm),xad (λe=>e1 e.symm),<-xah]
def qG(af:Nat->Nat)(x y l:Nat):Nat->Nat:=λv=>if v=x then l+1 else if v=y then l else af v
theorem Ng(hl:jI n af)(hb:Nb n af x y l):jI n (qG af x y l):=by
 have Rl:=hl.lt y hb.yn;rw[hb.ly]at Rl;have key:∀v,v<n->v≠x->v≠y->af v≠l/\af v≠l+1:=λv hv h1 h2=>⟨λe=>h1 (hl.inj _ _ hv hb.xn (by rw[hb.lx];exact e)),λe=>h2 (hl.inj _ _ hv hb.yn (by rw[hb.ly];exact e))⟩;refine⟨λv hv=>?_,λu v hu hv he=>?_⟩
 ·unfold qG;split
  ·exact Rl
  split
  ·omega
  exact hl.lt v hv
 unfold qG at he;by_cases u1:u=x
 ·by_cases v1:v=x
  ·rw[u1,v1]
  rw[xae u1,xad v1]at he;by_cases v2:v=y
  ·rw[xae v2]at he;omega
  rw[xad v2]at he;exact absurd he.symm (key v hv v1 v2).2
 rw[xad u1]at he;by_cases u2:u=y
 ·rw[xae u2]at he;by_cases v1:v=x
  ·rw[xae v1]at he;omega
  rw[xad v1]at he;by_cases v2:v=y
  ·rw[u2,v2]
  rw[xad v2]at he;exact absurd he.symm (key v hv v1 v2).1
 rw[xad u2]at he;by_cases v1:v=x
 ·rw[xae v1]at he;exact absurd he (key u hu u1 u2).2
 rw[xad v1]at he;by_cases v2:v=y
 ·rw[xae v2]at he;exact absurd he (key u hu u1 u2).1
 rw[xad v2]at he;exact hl.inj _ _ hu hv he
theorem Ord.nb(ho:Ord n af ord)(hl:l+1<n):Nb n af (ord.getD l 0) (ord.getD (l+1) 0) l:=
 ⟨(ho.at' l zO).1,(ho.at' (l+1) hl).1,(ho.at' l zO).2,(ho.at' (l+1) hl).2⟩
theorem Nf(ho:Ord n af ord)(hl:l+1<n):Ord n (qG af (ord.getD l 0) (ord.getD (l+1) 0) l) (ej ord l):=by
 have hb:=ho.nb hl;refine⟨by rw[jS,ho.len],λi hi=>?_⟩;rw[dH (by rw[ho.len];exact hl)];unfold qG;by_cases e1:i=l
 ·subst e1;rw[xae rfl];refine⟨hb.yn,?_⟩;rw[xad (xbp hb.ne),xae rfl]
 rw[xad e1];by_cases e2:i=l+1
 ·subst e2;rw[xae rfl];refine⟨hb.xn,?_⟩;rw[xae rfl]
 rw[xad e2];obtain⟨h1,h2⟩:=ho.at' i hi;refine⟨h1,?_⟩;rw[xad,xad]
 ·exact h2
 ·intro e;rw[e,hb.ly]at h2;omega
 intro e;rw[e,hb.lx]at h2;omega
variable {F:Fn->Prop}
theorem A6(hl:l+1<ord.length)(hne:ord.getD l 0≠ord.getD (l+1) 0):∀m,m≠l+1->∀g,fs (ej ord l) F m g↔fs ord F m g
 |0,_,g=>xdb
 |m+1,hm,g=>by
  by_cases e:m=l+1
  ·subst e;have g1:(ej ord l).getD (l+1) 0=ord.getD l 0:=by rw[dH hl,xad zO,xae rfl]
   have g2:(ej ord l).getD l 0=ord.getD (l+1) 0:=by rw[dH hl,xae rfl]
   have ih:=A6 hl hne l zO;constructor
   ·rintro⟨f,⟨f',h,b,rfl⟩,b',rfl⟩;refine⟨_,⟨f',(ih f').1 h,b',rfl⟩,b,?_⟩
    funext z
    rw[g1,g2];show f' _=f' _;rw[cY hne]
   rintro⟨f,⟨f',h,b,rfl⟩,b',rfl⟩;refine⟨_,⟨f',(ih f').2 h,b',rfl⟩,b,?_⟩
   funext z
   rw[g1,g2];show f' _=f' _;rw[cY (xbp hne)]
  have ih:=A6 hl hne m e;have hg:(ej ord l).getD m 0=ord.getD m 0:=by rw[dH hl,xad zO,xad e]
  constructor
  ·rintro⟨f,h,b,rfl⟩;exact⟨f,(ih f).1 h,b,by rw[hg]⟩
  rintro⟨f,h,b,rfl⟩;exact⟨f,(ih f).2 h,b,by rw[hg]⟩
theorem IT(h:Ok K S af)(ho:Ord K.n af ord)(Kl:l+1<K.n){all:List Cx}(hc:EV K.N (ord.getD l 0) (ord.getD (l+1) 0) all){made:List Nd}(hm:Made K (ord.getD l 0) all made):
  qS (λg=>aA K.n ord (K.held S) g\/aA K.n (ej ord l) (K.held S) g) (K.used-2+made.length):=by
 have hb:=ho.nb Kl;have hlen:l+1<ord.length:=by rw[ho.len];exact Kl
 have hw:=h.wf;have hlv:=h.lv;have hi:=h.mid.int;have hR:∀r,K.hold r≠0->live K.N r:=λr hr=>.inr (h.mid.held r hr);generalize hx:ord.getD l 0=x at*;generalize hy:ord.getD (l+1) 0=y at*;have j9:∀k∈made,k.v=x/\(live K.N k.lo/\l+1<dep K.n af K.N k.lo)/\(live K.N k.hi/\l+1<dep K.n af K.N k.hi):=λk hk=>by
  obtain⟨⟨c,Ef,hkc⟩,_⟩:=(hm.mem k).1 hk;obtain⟨⟨hd,KE,_⟩,e⟩:=(hc.mem c).1 Ef;rw[e]at hkc;exact jx hw hlv hi hb hd KE hkc
 obtain⟨dom,d1,d2,d3⟩:=h.dom;have c1:=vb hw hlv hi d1 d3;rw[show dom.length=K.used-2 by omega]at c1;have c2:qS (λg=>∃k∈made,g=ite S k) made.length:=by
  refine⟨made.map (ite S),?_,by simp,λg=>?_⟩
  ·refine xb2.2 (hm.nd.imp_of_mem λ{a b} ha hb' hne heq=>hne ?_);obtain⟨a1,a2,a3⟩:=j9 a ha;obtain⟨b1,b2,b3⟩:=j9 b hb';exact NU hw hlv hi hb a1 b1 a2 a3 b2 b3 heq
  rw[xaq];constructor
  ·rintro⟨k,hk,rfl⟩;exact⟨k,hk,rfl⟩
  rintro⟨k,hk,rfl⟩;exact⟨k,hk,rfl⟩
 refine(c1.or c2 ?_).congr λg=>?_
 ·rintro g ⟨r,d,hd,rfl⟩ ⟨k,hk,he⟩;obtain⟨a1,a2,a3⟩:=j9 k hk;obtain⟨_,hT,hne⟩:=(hm.mem k).1 hk;have:=JU hw hlv hi hb a1 hne a2 a3 hd he.symm;subst this;rw[(h.mid.iG d r).2 ⟨hd,λx=>x⟩]at hT;cases hT
 have XZ:=k7 hw hlv ho hi hR h.reach;have kR:=λm (hmn:m<=K.n) g=>OO hw hlv ho hi hR m hmn g;have hne:ord.getD l 0≠ord.getD (l+1) 0:=by rw[hx,hy];exact hb.ne
 have SI:=A6 (F:=K.held S) hlen hne;have gl:(ej ord l).getD l 0=y:=by rw[dH hlen,xae rfl,hy]
 have gl1:(ej ord l).getD (l+1) 0=x:=by rw[dH hlen,xad zO,xae rfl,hx]
 have go:∀m,m≠l->m≠l+1->(ej ord l).getD m 0=ord.getD m 0:=λm h1 h2=>by rw[dH hlen,xad h1,xad h2]
 constructor
 ·rintro(⟨r,d,hd,rfl⟩|⟨k,hk,rfl⟩)
  ·exact .inl ((XZ _).2 ⟨r,d,hd,rfl⟩)
  obtain⟨a1,a2,a3⟩:=j9 k hk;obtain⟨⟨c,Ef,hkc⟩,hT,RD⟩:=(hm.mem k).1 hk;obtain⟨⟨hd,KE,_⟩,e⟩:=(hc.mem c).1 Ef;refine .inr ⟨l+1,Kl,?_,?_⟩
  ·have hA:=Qs hw h.reach _ c.r c.d hd (xak _);rw[KE,hb.lx]at hA;refine⟨S c.r,(SI l zO _).2 ((kR l zO _).2 ⟨c.r,hA,rfl⟩),?_⟩;have Ol:=sO hw hlv hi hb hd KE;rw[e]at hkc;simp only[keys,lZ,xaf,xao,xaQ]at hkc;rw[gl];rcases hkc with rfl|rfl
   ·refine⟨false,?_⟩
    funext z
    rw[Ol,ak,xae rfl,xad zI,gX hw hlv hi hb rfl a2 a3 hb.yn (by rw[hb.ly];exact xak _) (xbp hb.ne)]
   refine⟨true,?_⟩
   funext z
   rw[Ol,ak,xae rfl,xae rfl,gX hw hlv hi hb rfl a2 a3 hb.yn (by rw[hb.ly];exact xak _) (xbp hb.ne)]
  rw[gl1];refine xaI λhno=>RD (hw.same hlv hi a2.1 a3.1 λz=>?_);have c1:=gN hw hlv hi hb a1 a2 a3 z false;have c2:=gN hw hlv hi hb a1 a2 a3 z true;simp only[xaE,xaS,xa0]at c1 c2;rw[<-c1,<-c2];exact xaI λhne=>hno ⟨z,hne⟩
 rintro(hg|⟨m,hmn,hf,hh⟩)
 ·exact .inl ((XZ g).1 hg)
 by_cases e1:m=l+1
 ·subst e1;rw[gl1]at hh;obtain⟨f,hf,b,rfl⟩:=hf;rw[gl]at hh⊢;obtain⟨r,hA,rfl⟩:=(kR l zO f).1 ((SI l zO f).1 hf);obtain⟨hlr,hle⟩:=p8 hw hR l r hA;have hgt:dep K.n af K.N r=l:=by
   refine Nat.le_antisymm (xcM λhlt=>?_) hle;obtain⟨z,hz⟩:=hh;refine hz ?_;show S r (ay (ay z x false) y b)=S r (ay (ay z x true) y b);rw[cY hb.ne,cY hb.ne,hw.bu hlv hi hlr hb.xn (by rw[hb.lx];exact hlt),hw.bu hlv hi hlr hb.xn (by rw[hb.lx];exact hlt)]
  rcases hlr with F5|⟨d,hd⟩
  ·rw[aT (hw.const F5)]at hgt;omega
  rw[an hd]at hgt;have KE:d.v=x:=hlv.inj _ _ (hw.var hd) hb.xn (by rw[hb.lx];exact hgt);have Ol:=sO hw hlv hi hb hd KE;have hkk:∃k∈keys x (lZ K.N y r d),(λz=>S r (ay z y b))=ite S k:=by
   cases b
   ·refine⟨_,xbq,?_⟩;obtain⟨a1,a2,a3⟩:=jx hw hlv hi hb hd KE (k:=⟨x,pl K.N y d.lo,pl K.N y d.hi⟩) xbq
    funext z
    rw[Ol,ak,xae rfl,xad zI,gX hw hlv hi hb rfl a2 a3 hb.yn (by rw[hb.ly];exact xak _) (xbp hb.ne)];rfl
   refine⟨_,xbz _ xbq,?_⟩;obtain⟨a1,a2,a3⟩:=jx hw hlv hi hb hd KE (k:=⟨x,ph K.N y d.lo,ph K.N y d.hi⟩) (xbz _ xbq)
   funext z
   rw[Ol,ak,xae rfl,xae rfl,gX hw hlv hi hb rfl a2 a3 hb.yn (by rw[hb.ly];exact xak _) (xbp hb.ne)];rfl
  obtain⟨k,hkm,hke⟩:=hkk;obtain⟨a1,a2,a3⟩:=jx hw hlv hi hb hd KE hkm;rw[hke]at hh⊢;have RD:k.lo≠k.hi:=λe=>by
   obtain⟨z,hz⟩:=hh;have c1:=gN hw hlv hi hb a1 a2 a3 z false;have c2:=gN hw hlv hi hb a1 a2 a3 z true;simp only[xaE,xaS,xa0]at c1 c2;rw[c1,c2,e]at hz;exact hz rfl
  cases hT:K.T k with
  |some s=>
   have hs:=((h.mid.iG k s).1 hT).1;refine .inl ⟨s,k,hs,?_⟩
   funext z
   exact(hi.node hs z).symm
  |none=>
   by_cases RP:kj K.N x y r d
   ·exact .inr ⟨k,(hm.mem k).2 ⟨⟨lZ K.N y r d,(hc.mem _).2 ⟨RP,rfl⟩,hkm⟩,hT,RD⟩,rfl⟩
   have hno:∀t,t=d.lo\/t=d.hi->pl K.N y t=t/\ph K.N y t=t:=λt ht=>Nw λe he hv=>RP ⟨hd,KE,by
    rcases ht with rfl|rfl
    ·exact .inl ⟨e,he,hv⟩
    exact .inr ⟨e,he,hv⟩⟩
   have e1:=hno d.lo (.inl rfl);have e2:=hno d.hi (.inr rfl);have:k=d:=by
    simp only[keys,lZ,e1.1,e1.2,e2.1,e2.2,xaf,xao,xaQ,or_self]at hkm;rw[hkm,<-KE]
   rw[this,(h.mid.iG d r).2 ⟨hd,λx=>x⟩]at hT;cases hT
 by_cases e2:m=l
 ·subst e2;rw[gl]at hh;obtain⟨r,hA,rfl⟩:=(kR m zO g).1 ((SI m e1 g).1 hf);obtain⟨hlr,hle⟩:=p8 hw hR m r hA;rcases hlr with F5|⟨d,hd⟩
  ·obtain⟨z,hz⟩:=hh;have:∀z,S r z=S r 0:=λz=>by
    have:r=0\/r=1:=by omega
    rcases this with rfl|rfl
    ·rw[hi.zero,hi.zero]
    rw[hi.one,hi.one]
   rw[this (ay z y false),this (ay z y true)]at hz;exact absurd rfl hz
  exact .inl ⟨r,d,hd,rfl⟩
 refine .inl ((XZ g).1 ⟨m,hmn,(SI m e1 g).1 hf,?_⟩);rw[go m e2 e1]at hh;exact hh
end aq
namespace aq
open ax
def qz(K:Kd)(af:Nat->Nat)(l t:Nat):Prop:=live K.N t/\l+1<dep K.n af K.N t
def uh(K0 K:Kd)(af:Nat->Nat)(x l t:Nat):Prop:=qz K0 af l t\/∃e,K.N t=some e/\e.v=x/\qz K0 af l e.lo/\qz K0 af l e.hi
structure TI(K0:Kd)(S0:Nat->Fn)(af:Nat->Nat)(x y l:Nat)(made:List Nd)(K:Kd)(S:Nat->Fn)(done rest:List Cx)(P:Nat->Nat):Prop where
 mid:gZ K S (λs=>∃c∈rest,s=c.r) P
 n:K.n=K0.n
 cap:K.cap=K0.cap
 hold:∀r,K.hold r=K0.hold r
 ext:∀r,live K0.N r->S r=S0 r
 old:∀{r d},K0.N r=some d->r∉done.map Cx.r->K.N r=some d
 kept:∀{r d},K0.N r=some d->∃d',K.N r=some d'
 new:∀{r d},K.N r=some d->(K0.N r=some d/\r∉done.map Cx.r)\/(r∈done.map Cx.r/\d.v=y/\uh K0 K af x l d.lo/\uh K0 K af x l d.hi)\/(K0.N r=none/\d.v=x/\qz K0 af l d.lo/\qz K0 af l d.hi)
 used:K.used=K0.used+(made.filter λk=>(K.T k).isSome).length
structure TB(K0:Kd)(S0:Nat->Fn)(af:Nat->Nat)(x y l:Nat)(all:List Cx)(made:List Nd):Prop where
 ok:Ok K0 S0 af
 nb:Nb K0.n af x y l
 cx:EV K0.N x y all
 TW:Made K0 x all made
 room:K0.used+made.length<=K0.cap
section
variable {K0 K:Kd} {S0 S:Nat->Fn} {af:Nat->Nat} {x y l:Nat} {made:List Nd} {done rest all:List Cx} {P:Nat->Nat}
theorem TB.l7(b:TB K0 S0 af x y l all made){c:Cx}(hc:c∈all):K0.N c.r=some c.d/\c.d.v=x/\c=lZ K0.N y c.r c.d:=by
 obtain⟨⟨h1,h2,_⟩,h3⟩:=(b.cx.mem c).1 hc;exact⟨h1,h2,h3⟩
theorem TB.NI(b:TB K0 S0 af x y l all made){c:Cx}(hc:c∈all):(qz K0 af l c.ud/\qz K0 af l c.qy)/\(qz K0 af l c.uc/\qz K0 af l c.qx):=by
 obtain⟨h1,h2,h3⟩:=b.l7 hc;have k1:=jx b.ok.wf b.ok.lv b.ok.mid.int b.nb h1 h2 (k:=⟨x,pl K0.N y c.d.lo,pl K0.N y c.d.hi⟩) xbq;have k2:=jx b.ok.wf b.ok.lv b.ok.mid.int b.nb h1 h2 (k:=⟨x,ph K0.N y c.d.lo,ph K0.N y c.d.hi⟩) (xbz _ xbq);rw[h3];exact⟨⟨k1.2.1,k1.2.2⟩,⟨k2.2.1,k2.2.2⟩⟩
theorem TB.level(b:TB K0 S0 af x y l all made){c:Cx}(hc:c∈all):dep K0.n af K0.N c.r=l:=by
 obtain⟨h1,h2,_⟩:=b.l7 hc;rw[an h1,h2,b.nb.lx]
theorem TB.start(b:TB K0 S0 af x y l all made){T:Nd->Option Nat}(hm:gZ {K0 with T:=T} S0 (λs=>∃c∈all,s=c.r) zero')(hT:∀d,T d=none\/T d=K0.T d):
  TI K0 S0 af x y l made {K0 with T:=T} S0 [] all zero' where
 mid:=hm
 n:=rfl
 cap:=rfl
 hold:=λ_=>rfl
 ext:=λ_ _=>rfl
 old:=λh _=>h
 kept:=λh=>⟨_,h⟩
 new:=λh=>.inl ⟨h,by simp⟩
 used:=by
  have:made.filter (λk=>(T k).isSome)=[]:=by
   rw[xcY];intro k hk;have h1:=((b.TW.mem k).1 hk).2.1;rcases hT k with h2|h2
   ·rw[h2];simp
   rw[h2,h1];simp
  show K0.used=K0.used+(made.filter (λk=>(T k).isSome)).length;rw[this];simp
theorem TI.NK(b:TB K0 S0 af x y l all made)(h:TI K0 S0 af x y l made K S done rest P)(hd:∀c∈done,c∈all){t:Nat}(ht:qz K0 af l t):K.N t=K0.N t:=by
 rcases ht with⟨ht|⟨d,cV⟩,hlt⟩
 ·cases e:K.N t with
  |none=>rw[b.ok.wf.const ht]
  |some d=>have:=(h.mid.two e).1;omega
 ·rw[cV];refine h.old cV λhm=>?_;obtain⟨c,hc,e⟩:=xaq.1 hm;have:=b.level (hd c hc);rw[e]at this;omega
theorem TI.og(b:TB K0 S0 af x y l all made)(h:TI K0 S0 af x y l made K S done rest P)(hd:∀c∈done,c∈all){t:Nat}(ht:qz K0 af l t):live K.N t:=by
 have e:=h.NK b hd ht;rcases ht.1 with ht|⟨d,cV⟩
 ·exact .inl ht
 exact .inr ⟨d,by rw[e];exact cV⟩
theorem TI.oo(b:TB K0 S0 af x y l all made)(h:TI K0 S0 af x y l made K S done rest P)(hd:∀c∈done,c∈all){t:Nat}(ht:uh K0 K af x l t):live K.N t:=by
 rcases ht with ht|⟨e,he,_⟩
 ·exact h.og b hd ht
 exact .inr ⟨e,he⟩
theorem TI.use(h:TI K0 S0 af x y l made K S done rest P){r:Nat}{cN:zL}(hl:cN.length=K.us.length)(h1:cN.getD r 0=K.use r+1)(h2:∀s,s≠r->cN.getD s 0=K.use s):
  TI K0 S0 af x y l made {K with us:=cN} S done rest (up P r (P r+1)) where
 mid:=h.mid.more hl h1 h2
 n:=h.n
 cap:=h.cap
 hold:=h.hold
 ext:=h.ext
 old:=h.old
 kept:=h.kept
 new:=h.new
 used:=h.used
theorem TI.congr(h:TI K0 S0 af x y l made K S done rest P){P':Nat->Nat}(hP:∀s,2<=s->P s=P' s):TI K0 S0 af x y l made K S done rest P' where
 mid:=h.mid.congr (λ_=>xdb) hP
 n:=h.n
 cap:=h.cap
 hold:=h.hold
 ext:=h.ext
 old:=h.old
 kept:=h.kept
 new:=h.new
 used:=h.used
theorem filter_lt{α:Type}{p:α->Bool}{k:α}:∀{m:List α},k∈m->p k=false->(m.filter p).length<m.length
 | [],h,_=>by simp at h
 |z::m,h,hp=>by
  rcases xaf.1 h with rfl|h
  ·rw[xcb,xad (by simp[hp])];have:=xc2 p m;simp;omega
  have:=filter_lt h hp;rw[xcb];split
  ·rw[xar,xar];omega
  rw[xar];omega
theorem TI.fits(b:TB K0 S0 af x y l all made)(h:TI K0 S0 af x y l made K S done rest P){k:Nd}(hk:k∈made)(hT:K.T k=none):K.used<K.cap:=by
 have h1:=filter_lt (p:=λk=>(K.T k).isSome) hk (by rw[hT];rfl);have h2:=h.used;have h3:=b.room;have h4:=h.cap;omega
theorem lY{T:Nd->Option Nat}{k:Nd}{r:Nat}:∀{m:List Nd},m.Nodup->T k=none->(m.filter λd=>(nS T k (some r) d).isSome).length=(m.filter λd=>(T d).isSome).length+(if k∈m then 1 else 0)
 | [],_,_=>rfl
 |z::m,hn,hT=>by
  obtain⟨h1,h2⟩:=xbd.1 hn;have ih:=lY (r:=r) h2 hT;rw[xcb,xcb];by_cases e:z=k
  ·subst e;rw[g8,hT];simp only[Option.isSome_some,xa0,xcV,xaE,xaS,xar,ih,xad h1,xaf,true_or]
  rw[nq e];have e2:(k∈z::m)↔k∈m:=by rw[xaf];exact⟨λh=>h.resolve_left (λh=>e h.symm),.inr⟩
  simp only[e2];split
  ·simp only[xar,ih];omega
  exact ih
theorem TB.vZ(b:TB K0 S0 af x y l all made){t:Nat}(ht:qz K0 af l t){e:Nd}(he:K0.N t=some e):l+1<af e.v:=by
 have:=ht.2;rwa [an he]at this
theorem TB.xQ(b:TB K0 S0 af x y l all made){c:Cx}(hc:c∈all)(h1:qz K0 af l c.d.lo)(h2:qz K0 af l c.d.hi):False:=by
 obtain⟨⟨_,_,h3⟩,_⟩:=(b.cx.mem c).1 hc;have hy:=b.nb.ly;rcases h3 with⟨e,he,hv⟩|⟨e,he,hv⟩
 ·have:=b.vZ h1 he;rw[hv]at this;omega
 have:=b.vZ h2 he;rw[hv]at this;omega
theorem TI.J4(b:TB K0 S0 af x y l all made)(h:TI K0 S0 af x y l made K S done rest P)(hd:∀c∈done,c∈all)(hr:∀c∈rest,c∈all){c:Cx}(hc:c∈all){k:Nd}(hk:k∈keys x c)(hne:k.lo≠k.hi)(h1:qz K0 af l k.lo)(h2:qz K0 af l k.hi)(hT:K.T k=none):k∈made:=by
 refine(b.TW.mem k).2 ⟨⟨c,hc,hk⟩,?_,hne⟩;cases e:K0.T k with
 |none=>rfl
 |some s=>
  have hs:=((b.ok.mid.iG k s).1 e).1;have hno:∀c'∈all,s≠c'.r:=λc' jN e'=>by
   have h3:=(b.l7 jN).1;rw[<-e',hs]at h3;cases h3;exact b.xQ jN h1 h2
  have hs1:K.N s=some k:=by
   refine h.old hs λhm=>?_;obtain⟨c',jN,e'⟩:=xaq.1 hm;exact hno c' (hd c' jN) e'.symm
  have:=(h.mid.iG k s).2 ⟨hs1,by rintro⟨c',jN,e'⟩;exact hno c' (hr c' jN) e'⟩;rw[hT]at this;cases this
theorem TI.lay(b:TB K0 S0 af x y l all made)(h:TI K0 S0 af x y l made K S done rest P)(hd:∀c∈done,c∈all)(hr:∀c∈rest,c∈all){c:Cx}(hc:c∈all){k:Nd}(hk:k∈keys x c)(hne:k.lo≠k.hi)(hT:K.T k=none)
 {r:Nat}{cN cg:zL}(hN:K.N r=none)(h2:2<=r/\r<K.cap)(hl:cN.length=cg.length)(hf:r<cN.length/\K.us.length<=cN.length)(u0:cN.getD r 0=0)(u1:∀s,2<=s->s≠r->cN.getD s 0=K.use s+e1 (some k) s)(o0:cg.getD r 0=0)(o1:∀s,s≠r->cg.getD s 0=K.hold s)(hP:P r=0):
  TI K0 S0 af x y l made {K with N:=up K.N r (some k),T:=nS K.T k (some r),used:=K.used+1,us:=cN,ho:=cg} (up S r (ite S k)) done rest P/\uh K0 {K with N:=up K.N r (some k),T:=nS K.T k (some r),used:=K.used+1,us:=cN,ho:=cg} af x l r:=by
 have j9:=b.NI hc;have hkv:k.v=x/\qz K0 af l k.lo/\qz K0 af l k.hi:=by
  simp only[keys,xaf,xao,xaQ]at hk;rcases hk with rfl|rfl
  ·exact⟨rfl,j9.1.1,j9.1.2⟩
  exact⟨rfl,j9.2.1,j9.2.2⟩
 have UC:K0.N r=none:=by
  cases e:K0.N r with
  |none=>rfl
  |some d=>obtain⟨d',cV⟩:=h.kept e;rw[hN]at cV;cases cV
 have hkm:=h.J4 b hd hr hc hk hne hkv.2.1 hkv.2.2 hT;have hE:¬∃c∈rest,r=c.r:=by
  rintro⟨c',jN,rfl⟩;have:=(b.l7 (hr c' jN)).1;rw[UC]at this;cases this
 have AZ:∀{t},uh K0 K af x l t->uh K0 {K with N:=up K.N r (some k),T:=nS K.T k (some r),used:=K.used+1,us:=cN,ho:=cg} af x l t:=λht=>by
  rcases ht with ht|⟨e,he,h3⟩
  ·exact .inl ht
  refine .inr ⟨e,?_,h3⟩;show up K.N r (some k) _=_;rw[aE (λe2=>by rw[e2,hN]at he;cases he)];exact he
 refine⟨⟨h.mid.lay hN h2 (by rw[hkv.1,h.n];exact b.nb.xn) hne (h.og b hd hkv.2.1) (h.og b hd hkv.2.2) hT hE hP (h.fits b hkm hT) hl hf u0 u1 o0 o1,h.n,h.cap,λs=>?_,λs hs=>?_,λ{s d} hs hm=>?_,λ{s d} hs=>?_,λ{s d} hs=>?_,?_⟩,?_⟩
 ·show cg.getD s 0=_;rw[<-h.hold];by_cases e:s=r
  ·subst e;rw[o0];refine(xaI λhno=>?_);obtain⟨d,cV⟩:=h.mid.held s (λe=>hno e.symm);rw[hN]at cV;cases cV
  exact o1 s e
 ·rw[aE (eP hs h2.1 UC)];exact h.ext s hs
 ·show up K.N r (some k) s=_;rw[aE (λe=>by rw[e,UC]at hs;cases hs)];exact h.old hs hm
 ·obtain⟨d',cV⟩:=h.kept hs;exact⟨d',by show up K.N r (some k) s=_;rw[aE (λe=>by rw[e,UC]at hs;cases hs)];exact cV⟩
 ·have hs':up K.N r (some k) s=some d:=hs;by_cases e:s=r
  ·subst e;rw[aD]at hs';cases hs';exact .inr (.inr ⟨UC,hkv⟩)
  rw[aE e]at hs';rcases h.new hs' with h1|⟨h1,kF,h3,h4⟩|h1
  ·exact .inl h1
  ·exact .inr (.inl ⟨h1,kF,AZ h3,AZ h4⟩)
  exact .inr (.inr h1)
 ·show K.used+1=K0.used+(made.filter λd=>(nS K.T k (some r) d).isSome).length;rw[lY b.TW.nd hT,xae hkm,h.used];omega
 exact .inr ⟨k,aD,hkv⟩
theorem TI.found(b:TB K0 S0 af x y l all made)(h:TI K0 S0 af x y l made K S done rest P){c:Cx}(hc:c∈all){k:Nd}(hk:k∈keys x c){r:Nat}(hT:K.T k=some r):K.N r=some k/\uh K0 K af x l r:=by
 have j9:=b.NI hc;have hN:=((h.mid.iG k r).1 hT).1;simp only[keys,xaf,xao,xaQ]at hk;rcases hk with rfl|rfl
 ·exact⟨hN,.inr ⟨_,hN,rfl,j9.1.1,j9.1.2⟩⟩
 exact⟨hN,.inr ⟨_,hN,rfl,j9.2.1,j9.2.2⟩⟩
theorem TI.PJ(b:TB K0 S0 af x y l all made)(h:TI K0 S0 af x y l made K S done rest P){a a' t:Nat}(la:qz K0 af l a)(JN:qz K0 af l a')(g:(a=a'/\t=a)\/K.N t=some ⟨x,a,a'⟩)(z:Nat):S t z=ite S0 ⟨x,a,a'⟩ z:=by
 rcases g with⟨rfl,rfl⟩|g
 ·rw[h.ext t la.1];unfold ite;simp
 rw[h.mid.int.node g];unfold ite;simp only;rw[h.ext a la.1,h.ext a' JN.1]
theorem TI.NJ(b:TB K0 S0 af x y l all made)(h:TI K0 S0 af x y l made K S done rest P)(hd:∀c∈done,c∈all){a a' t:Nat}(ht:qz K0 af l t)(g:K.N t=some ⟨x,a,a'⟩):False:=by
 rw[h.NK b hd ht]at g;have:=b.vZ ht g;have hx:=b.nb.lx;simp only at this;omega
theorem TI.vE(b:TB K0 S0 af x y l all made){c:Cx}(h:TI K0 S0 af x y l made K S done (c::rest) P)(hd:∀c∈done,c∈all)(hr:∀c'∈c::rest,c'∈all)(hn:((done++c::rest).map Cx.r).Nodup){t0 t1:Nat}
 (k0:uh K0 K af x l t0)(k1:uh K0 K af x l t1)(g0:(c.ud=c.qy/\t0=c.ud)\/K.N t0=some ⟨x,c.ud,c.qy⟩)(g1:(c.uc=c.qx/\t1=c.uc)\/K.N t1=some ⟨x,c.uc,c.qx⟩){P':Nat->Nat}(hP:∀s,2<=s->P' s+e1 (some ⟨y,t0,t1⟩) s=P s+e1 (some c.d) s):
  K.T ⟨y,t0,t1⟩=none/\TI K0 S0 af x y l made {K with N:=up K.N c.r (some ⟨y,t0,t1⟩),T:=nS K.T ⟨y,t0,t1⟩ (some c.r)} S (done++[c]) rest P':=by
 have hc:=hr c zI;obtain⟨wC,wB,hce⟩:=b.l7 hc;obtain⟨⟨Z4,l10⟩,⟨Z3,Xv⟩⟩:=b.NI hc;have w:=b.ok.wf;have hi:=b.ok.mid.int;have hlo:=w.lo wC;have hhi:=w.hi wC;rw[wB,b.nb.lx]at hlo hhi;have ep:c.ud=pl K0.N y c.d.lo/\c.uc=ph K0.N y c.d.lo/\c.qy=pl K0.N y c.d.hi/\c.qx=ph K0.N y c.d.hi:=by rw[hce];exact⟨rfl,rfl,rfl,rfl⟩
 have both:c.ud=c.qy->c.uc=c.qx->False:=λe1 e2=>by
  rw[ep.1,ep.2.2.1]at e1;rw[ep.2.1,ep.2.2.2]at e2;exact w.ne wC (w.Ot b.ok.lv hi b.nb.yy hlo.1 hhi.1 hlo.2 hhi.2 e1 e2)
 have Wj:c.r∉done.map Cx.r:=by
  rw[xaG,xbb]at hn;intro hm;exact hn.2.2 _ hm _ zI rfl
 have Eg:=h.old wC Wj;have fn0:=λz=>h.PJ b Z4 l10 g0 z;have fn1:=λz=>h.PJ b Z3 Xv g1 z;have hS:∀z,S c.r z=ite S ⟨y,t0,t1⟩ z:=λz=>by
  rw[h.ext c.r (.inr ⟨_,wC⟩),sO w b.ok.lv hi b.nb wC wB z];unfold ite;simp only;have a0:=fn0 z;have a1:=fn1 z;unfold ite at a0 a1;simp only at a0 a1;rw[a0,a1,ep.1,ep.2.1,ep.2.2.1,ep.2.2.2]
 have hne:t0≠t1:=λe=>by
  subst e;rcases g0 with⟨e1,e2⟩|g0
  ·rcases g1 with⟨e3,e4⟩|g1
   ·exact both e1 e3
   rw[e2]at g1;exact h.NJ b hd Z4 g1
  rcases g1 with⟨e3,e4⟩|g1
  ·rw[e4]at g0;exact h.NJ b hd Z3 g0
  rw[g0]at g1;simp only[xap,Nd.mk.injEq,xb1]at g1;obtain⟨q1,q2⟩:=g1;obtain⟨⟨_,_,RP⟩,_⟩:=(b.cx.mem c).1 hc;rw[ep.1,ep.2.1]at q1;rw[ep.2.2.1,ep.2.2.2]at q2;rcases RP with⟨e,he,hv⟩|⟨e,he,hv⟩
  ·have:=Nv he hv;rw[this.1,this.2]at q1;exact w.ne he q1
  have:=Nv he hv;rw[this.1,this.2]at q2;exact w.ne he q2
 have hT:K.T ⟨y,t0,t1⟩=none:=by
  cases e:K.T ⟨y,t0,t1⟩with
  |none=>rfl
  |some s=>
   obtain⟨hs,Kg⟩:=(h.mid.iG _ s).1 e;rcases h.new hs with⟨h1,_⟩|⟨h1,_⟩|⟨_,h1,_⟩
   ·have q1:=w.lo h1;have q2:=w.hi h1;simp only at q1 q2;rw[b.nb.ly]at q1 q2;have p1:c.ud=c.qy:=by
     rcases g0 with⟨e1,_⟩|g0
     ·exact e1
     exact(h.NJ b hd q1 g0).elim
    have p2:c.uc=c.qx:=by
     rcases g1 with⟨e1,_⟩|g1
     ·exact e1
     exact(h.NJ b hd q2 g1).elim
    exact(both p1 p2).elim
   ·obtain⟨c',jN,e'⟩:=xaq.1 h1;have KM:=(b.l7 (hd c' jN)).1;have:c'.r=c.r:=w.same b.ok.lv hi (.inr ⟨_,KM⟩) (.inr ⟨_,wC⟩) λz=>by
     rw[<-h.ext c'.r (.inr ⟨_,KM⟩),<-h.ext c.r (.inr ⟨_,wC⟩),hS z,e',h.mid.int.node hs z];rfl
    exact absurd (xaq.2 ⟨c',jN,this⟩) Wj
   exact absurd h1 (xbp b.nb.ne)
 have AZ:∀{t},uh K0 K af x l t->uh K0 {K with N:=up K.N c.r (some ⟨y,t0,t1⟩),T:=nS K.T ⟨y,t0,t1⟩ (some c.r)} af x l t:=λht=>by
  rcases ht with ht|⟨e,he,h3⟩
  ·exact .inl ht
  refine .inr ⟨e,?_,h3⟩;show up K.N c.r (some ⟨y,t0,t1⟩) _=_;refine(aE λe2=>?_).trans he;rw[e2,Eg]at he;cases he;exact b.xQ hc h3.2.1 h3.2.2
 have hml:∀s,s∈(done++[c]).map Cx.r↔s∈done.map Cx.r\/s=c.r:=λs=>by simp[xal]
 refine⟨hT,⟨(h.mid.vE Eg ⟨c,by simp,rfl⟩ (by rw[h.n];exact b.nb.yn) hne (h.oo b hd k0) (h.oo b hd k1) hT hS hP).congr (λs=>?_) (λ_ _=>rfl),h.n,h.cap,h.hold,h.ext,λ{s d} hs hm=>?_,λ{s d} hs=>?_,λ{s d} hs=>?_,?_⟩⟩
 ·constructor
  ·rintro⟨⟨c',jN,rfl⟩,h2⟩;rcases xaf.1 jN with rfl|jN
   ·exact absurd rfl h2
   exact⟨c',jN,rfl⟩
  rintro⟨c',jN,rfl⟩;refine⟨⟨c',xbz _ jN,rfl⟩,λe=>?_⟩;rw[xaG,xbb]at hn;have:=hn.2.1;rw[xaM,xbd]at this;exact this.1 (xaq.2 ⟨c',jN,e⟩)
 ·have hm':=λx=>hm ((hml s).2 x);show up K.N c.r _ s=_;rw[aE (λe=>hm' (.inr e))];exact h.old hs (λx=>hm' (.inl x))
 ·by_cases e:s=c.r
  ·exact⟨⟨y,t0,t1⟩,by show up K.N c.r (some _) s=_;rw[e,aD]⟩
  obtain⟨d',cV⟩:=h.kept hs;exact⟨d',by show up K.N c.r (some _) s=_;rw[aE e];exact cV⟩
 ·have hs':up K.N c.r (some ⟨y,t0,t1⟩) s=some d:=hs;by_cases e:s=c.r
  ·rw[e,aD]at hs';cases hs';exact .inr (.inl ⟨(hml s).2 (.inr e),rfl,AZ k0,AZ k1⟩)
  rw[aE e]at hs';rcases h.new hs' with⟨h1,h2⟩|⟨h1,h2,h3,h4⟩|h1
  ·exact .inl ⟨h1,λhm=>((hml s).1 hm).elim h2 e⟩
  ·exact .inr (.inl ⟨(hml s).2 (.inl h1),h2,AZ h3,AZ h4⟩)
  exact .inr (.inr h1)
 show K.used=K0.used+(made.filter λd=>(nS K.T ⟨y,t0,t1⟩ (some c.r) d).isSome).length;have hnm:(⟨y,t0,t1⟩:Nd)∉made:=λhm=>by
  obtain⟨⟨c',jN,hk⟩,_⟩:=(b.TW.mem _).1 hm;simp only[keys,xaf,xao,xaQ,Nd.mk.injEq]at hk;rcases hk with⟨e,_⟩|⟨e,_⟩
  ·exact b.nb.ne e.symm
  exact b.nb.ne e.symm
 rw[lY b.TW.nd hT,xad hnm,h.used];rfl
theorem TI.levels(b:TB K0 S0 af x y l all made)(h:TI K0 S0 af x y l made K S all [] P){s:Nat}{d:Nd}(hs:K.N s=some d):
  qG af x y l d.v<dep K0.n (qG af x y l) K.N d.lo/\qG af x y l d.v<dep K0.n (qG af x y l) K.N d.hi:=by
 have w:=b.ok.wf;have hd:∀c∈all,c∈all:=λ_ h=>h;have Rl:l+1<K0.n:=by have:=b.ok.lv.lt y b.nb.yn;rw[b.nb.ly]at this;exact this
 have sx:qG af x y l x=l+1:=by simp[qG]
 have sy:qG af x y l y=l:=by unfold qG;rw[xad (xbp b.nb.ne),xae rfl]
 have so:∀v,v<K0.n->af v≠l->af v≠l+1->qG af x y l v=af v:=λv hv h1 h2=>by
  unfold qG;rw[xad (λe=>h1 (by rw[e];exact b.nb.lx)),xad (λe=>h2 (by rw[e];exact b.nb.ly))]
 have low:∀{t},qz K0 af l t->l+1<dep K0.n (qG af x y l) K.N t:=λ{t} ht=>by
  have e:=h.NK b hd ht;cases e2:K0.N t with
  |none=>rw[aT (by rw[e,e2])];exact Rl
  |some e'=>
   have:=b.vZ ht e2;rw[an (by rw[e,e2]),so _ (w.var e2) zO zO];exact this
 have AR:∀{t},uh K0 K af x l t->l<dep K0.n (qG af x y l) K.N t:=λ{t} ht=>by
  rcases ht with ht|⟨e,he,hx,_⟩
  ·have:=low ht;omega
  rw[an he,hx,sx];omega
 rcases h.new hs with⟨h1,h2⟩|⟨_,h2,h3,h4⟩|⟨_,h2,h3,h4⟩
 ·have hv:=w.var h1;have q1:=w.lo h1;have q2:=w.hi h1;rcases xc0 (af d.v) l with hlt|heq|hgt
  ·rw[so _ hv zO zO];have ZU:∀{t},live K0.N t->af d.v<dep K0.n af K0.N t->af d.v<dep K0.n (qG af x y l) K.N t:=λ{t} ht gv=>by
    cases e:K.N t with
    |none=>rw[aT e];exact xa2 gv (w.iC b.ok.lv t)
    |some e'=>
     rw[an e];rcases h.new e with⟨g1,_⟩|⟨_,g2,_⟩|⟨g1,_⟩
     ·rw[an g1]at gv;have XF:=w.var g1;by_cases e1:af e'.v=l
      ·have:e'.v=x:=b.ok.lv.inj _ _ XF b.nb.xn (by rw[b.nb.lx];exact e1);rw[this,sx];omega
      by_cases e2:af e'.v=l+1
      ·have:e'.v=y:=b.ok.lv.inj _ _ XF b.nb.yn (by rw[b.nb.ly];exact e2);rw[this,sy];exact hlt
      rw[so _ XF e1 e2];exact gv
     ·rw[g2,sy];exact hlt
     rcases ht with ht|⟨f,hf⟩
     ·have:=(h.mid.two e).1;omega
     rw[g1]at hf;cases hf
   exact⟨ZU q1.1 q1.2,ZU q2.1 q2.2⟩
  ·have hx:d.v=x:=b.ok.lv.inj _ _ hv b.nb.xn (by rw[b.nb.lx];exact heq);rw[hx,sx];have nc:∀t,t=d.lo\/t=d.hi->∀e,K0.N t=some e->e.v≠y:=λt ht e he hv=>h2 (xaq.2 ⟨lZ K0.N y s d,(b.cx.mem _).2 ⟨⟨h1,hx,by
    rcases ht with rfl|rfl
    ·exact .inl ⟨e,he,hv⟩
    exact .inr ⟨e,he,hv⟩⟩,rfl⟩,rfl⟩)
   have lw:∀t,t=d.lo\/t=d.hi->live K0.N t->af d.v<dep K0.n af K0.N t->qz K0 af l t:=λt ht hlv hlt=>by
    refine⟨hlv,?_⟩;have:=(w.half b.ok.lv b.ok.mid.int b.nb.yy hlv (by omega:l<dep K0.n af K0.N t)).1.2;rwa [(Nw (nc t ht)).1]at this
   exact⟨low (lw _ (.inl rfl) q1.1 q1.2),low (lw _ (.inr rfl) q2.1 q2.2)⟩
  by_cases e:af d.v=l+1
  ·have hy:d.v=y:=b.ok.lv.inj _ _ hv b.nb.yn (by rw[b.nb.ly];exact e);rw[hy,sy];have a1:=low ⟨q1.1,by omega⟩;have a2:=low ⟨q2.1,by omega⟩;exact⟨by omega,by omega⟩
  rw[so _ hv zO e];have deep:∀{t},live K0.N t->af d.v<dep K0.n af K0.N t->af d.v<dep K0.n (qG af x y l) K.N t:=λ{t} ht gv=>by
   have hl:qz K0 af l t:=⟨ht,by omega⟩;have e':=h.NK b hd hl;cases e2:K0.N t with
   |none=>rw[aT (by rw[e',e2])];exact b.ok.lv.lt _ hv
   |some f=>
    rw[an e2]at gv;rw[an (by rw[e',e2]),so _ (w.var e2) zO zO];exact gv
  exact⟨deep q1.1 q1.2,deep q2.1 q2.2⟩
 ·rw[h2,sy];exact⟨AR h3,AR h4⟩
 rw[h2,sx];exact⟨low h3,low h4⟩
theorem TI.fin(b:TB K0 S0 af x y l all made)(h:TI K0 S0 af x y l made K S all [] P){K':Kd}(hm:gZ K' S fZ zero')(hp:Pos K')(hN:∀{s d},K'.N s=some d->K.N s=some d)(hn:K'.n=K.n)(hh:∀r,K'.hold r=K.hold r):
  Ok K' S (qG af x y l)/\(∀g,K'.held S g↔K0.held S0 g)/\∀r,K0.hold r≠0->S r=S0 r:=by
 have yD:∀r,K0.hold r≠0->S r=S0 r:=λr hr=>h.ext r (.inr (b.ok.mid.held r hr));refine⟨⟨hm,hp,by rw[hn,h.n];exact Ng b.ok.lv b.nb,hm.wf λ{s d} hs=>?_⟩,λg=>?_,yD⟩
 ·have hl:=h.levels b (hN hs);have same:∀{t},live K'.N t->dep K'.n (qG af x y l) K'.N t=dep K0.n (qG af x y l) K.N t:=λ{t} ht=>by
   cases e:K'.N t with
   |some f=>rw[an e,an (hN e)]
   |none=>
    have Kf:t<2:=by
     rcases ht with ht|⟨f,hf⟩
     ·exact ht
     rw[e]at hf;cases hf
    have:K.N t=none:=by
     cases e2:K.N t with
     |none=>rfl
     |some f=>have:=(h.mid.two e2).1;omega
    rw[aT e,aT this,hn,h.n]
  rw[same (hm.lo hs),same (hm.hi hs)];exact hl
 constructor
 ·rintro⟨r,hr,rfl⟩;have hr':K0.hold r≠0:=by rw[<-h.hold,<-hh];exact hr
  exact⟨r,hr',yD r hr'⟩
 rintro⟨r,hr,rfl⟩;exact⟨r,by show K'.hold r≠0;rw[hh,h.hold];exact hr,(yD r hr).symm⟩
end
end aq
namespace aq
open ax
variable {n cap l:Nat} {ord:zL} {F G:Fn->Prop}
open Classical in
noncomputable def sz(n:Nat)(ord:zL)(F:Fn->Prop):Nat:=if h:∃k,qS (aA n ord F) k then Classical.choose h else 0
def Dw(n:Nat)(ord:zL)(l:Nat)(F:Fn->Prop):Fn->Prop:=λg=>aA n ord F g\/aA n (ej ord l) F g
open Classical in
noncomputable def xm(n:Nat)(ord:zL)(l:Nat)(F:Fn->Prop):Nat:=if h:∃k,qS (Dw n ord l F) k then Classical.choose h else 0
theorem IK{k:Nat}(h:qS (Dw n ord l F) k):xm n ord l F=k:=by
 unfold xm;rw[xdU ⟨k,h⟩];exact(xcB (⟨k,h⟩:∃k,qS (Dw n ord l F) k)).uniq h
theorem E7(e:∀g,F g↔G g):xm n ord l F=xm n ord l G:=by
 have:F=G:=funext λg=>propext (e g);rw[this]
theorem yW{a b:zL}(hl:a.length=b.length)(h:∀i,i<a.length->a.getD i 0=b.getD i 0):a=b:=by
 refine List.ext_getElem hl λi h1 h2=>?_;have:=h i h1;simpa[List.getD,xab h1,xab h2]using this
theorem vJ(hl:l+1<ord.length):ej (ej ord l) l=ord:=by
 refine yW (by rw[jS,jS]) λi _=>?_;have h2:l+1<(ej ord l).length:=by rw[jS];exact hl
 rw[dH h2,dH hl,dH hl,dH hl];by_cases e:i=l
 ·subst e;simp
 by_cases e2:i=l+1
 ·subst e2;simp
 simp[e,e2]
theorem MY(hl:l+1<ord.length):xm n (ej ord l) l F=xm n ord l F:=by
 have:Dw n (ej ord l) l F=Dw n ord l F:=by
  funext g
  unfold Dw;rw[vJ hl];exact propext or_comm
 unfold xm;rw[this]
def ue(n cap:Nat)(F:Fn->Prop):zL->zL->Prop
 |_,[]=>True
 |ord,l::r=>l+1<n/\xm n ord l F+2<=cap/\ue n cap F (ej ord l) r
theorem ue.congr(e:∀g,F g↔G g):∀{tr ord:zL},ue n cap F ord tr->ue n cap G ord tr:=by
 have:F=G:=funext λg=>propext (e g);subst this;exact λ{tr ord} h=>h
theorem ue.Zr(hlen:ord.length=n)(hl:l+1<n)(hfit:xm n ord l F+2<=cap){tr:zL}(h:ue n cap F ord tr.reverse):ue n cap F (ej ord l) (tr++[l]).reverse:=by
 rw[List.reverse_append];exact⟨hl,by rw[MY zO];exact hfit,by rw[vJ zO];exact h⟩
end aq
namespace aq
open ax
variable {n l:Nat} {ord:zL} {L:ax.Fs} {F:Fn->Prop}
def eB(n:Nat)(ws:zL):Fn:=λx=>bit ws (x%2^n)
theorem kX{x v n:Nat}{b:Bool}(hv:v<n):ay x v b%2^n=ay (x%2^n) v b:=by
 apply xa3;intro k;rw[xa5,ak,ak,xa5];by_cases e:k=v
 ·subst e;simp[hv]
 simp[e]
theorem mG{v:Nat}{ws:zL}(hf:dZ n ws)(hv:v<n)(b:Bool):eB n (jg n ws v b)=λx=>eB n ws (ay x v b):=by
 funext x
 unfold eB;rw[oU hf hv (xaZ _ (xb4 n)),kX hv]
theorem Ls{ws:zL}{x:Nat}(h:x<2^n):eB n ws x=bit ws x:=by unfold eB;rw[xbv h]
theorem wH{a b:zL}(ha:dZ n a)(hb:dZ n b)(h:eB n a=eB n b):a=b:=ha.ext hb λx hx=>by rw[<-Ls hx,<-Ls hx,h]
theorem pR{v:Nat}{ws:zL}(hf:dZ n ws)(hv:v<n):cF (eB n ws) v↔ax.dep n ws v=true:=by
 rw[OW hf hv];constructor
 ·rintro⟨x,hx⟩;refine⟨x%2^n,xaZ _ (xb4 n),?_⟩;unfold eB at hx;rwa [kX hv,kX hv]at hx
 rintro⟨x,hx,hne⟩;refine⟨x,?_⟩;unfold eB;rwa [kX hv,kX hv,xbv hx]
def cur(n:Nat)(ord:zL)(L:ax.Fs):Nat->ax.Fs
 |0=>kV L
 |k+1=>given n (cur n ord L k) (ord.getD k 0)
def FT(n:Nat)(L:ax.Fs):Fn->Prop:=λg=>∃t∈L,g=eB n t
theorem mI:∀k,(cur n ord L k).Nodup
 |0=>jQ L
 |k+1=>yN _ _ _
theorem mJ(hL:∀t∈L,dZ n t)(hn:n<=16):∀k,∀t∈cur n ord L k,dZ n t
 |0,t,h=>hL t (dk.1 h)
 |k+1,t,h=>by obtain⟨u,_,b,rfl⟩:=mC.1 h;exact fV hn
theorem wF(hL:∀t∈L,dZ n t)(hn:n<=16)(ho:∀i,i<n->ord.getD i 0<n):∀k,k<=n->∀g,fs ord (FT n L) k g↔∃t∈cur n ord L k,g=eB n t
 |0,_,g=>by
  show(∃t∈L,g=eB n t)↔_;constructor
  ·rintro⟨t,h,e⟩;exact⟨t,dk.2 h,e⟩
  rintro⟨t,h,e⟩;exact⟨t,dk.1 h,e⟩
 |k+1,hk,g=>by
  have ih:=wF hL hn ho k zO;constructor
  ·rintro⟨f,hf,b,rfl⟩;obtain⟨t,ht,rfl⟩:=(ih f).1 hf;exact⟨jg n t (ord.getD k 0) b,mC.2 ⟨t,ht,b,rfl⟩,(mG (mJ hL hn k t ht) (ho k zO) b).symm⟩
  rintro⟨t,ht,rfl⟩;obtain⟨u,hu,b,rfl⟩:=mC.1 ht;exact⟨eB n u,(ih _).2 ⟨u,hu,rfl⟩,b,mG (mJ hL hn k u hu) (ho k zO) b⟩
theorem oE:∀k g,fs ord F k g->∀j,j<k->¬cF g (ord.getD j 0)
 |0,_,_,_,h=>absurd h (xcg _)
 |k+1,g,h,j,hj=>by
  obtain⟨f,hf,b,rfl⟩:=h;rintro⟨x,hx⟩;apply hx;by_cases e:ord.getD j 0=ord.getD k 0
  ·show f (ay (ay x _ false) _ b)=f (ay (ay x _ true) _ b);congr 1;apply xa3;intro i;simp only[ak,e];split<;>rfl
  have hlt:j<k:=by
   rcases xdl.1 hj with h|h
   ·exact h
   subst h;exact(e rfl).elim
  have:=oE k f hf j hlt;show f (ay (ay x _ false) _ b)=f (ay (ay x _ true) _ b);rw[cY e,cY e];exact xaI λhne=>this ⟨_,hne⟩
def jc(n:Nat)(ord:zL)(L:ax.Fs)(k:Nat):ax.Fs:=nodes n (cur n ord L k) (ord.getD k 0)
def dI(n:Nat)(ord:zL)(L:ax.Fs):Nat->Nat
 |0=>0
 |k+1=>dI n ord L k+(jc n ord L k).length
def sY(n:Nat)(ord:zL)(L:ax.Fs):Nat->ax.Fs
 |0=>[]
 |k+1=>sY n ord L k++jc n ord L k
theorem iX:∀k,(sY n ord L k).length=dI n ord L k
 |0=>rfl
 |k+1=>by rw[sY,dI,xai,iX k]
theorem lg{k:Nat}{t:zL}:t∈jc n ord L k↔t∈cur n ord L k/\ax.dep n t (ord.getD k 0)=true:=by
 unfold jc nodes;rw[xcj]
theorem oY(hL:∀t∈L,dZ n t)(hn:n<=16):∀k,∀t∈sY n ord L k,dZ n t
 |0,t,h=>by cases h
 |k+1,t,h=>by
  rcases xal.1 h with h|h
  ·exact oY hL hn k t h
  exact mJ hL hn k t (lg.1 h).1
theorem mc(hL:∀t∈L,dZ n t)(hn:n<=16)(ho:∀i,i<n->ord.getD i 0<n):∀m,m<=n->∀g,(∃k,k<m/\fs ord (FT n L) k g/\cF g (ord.getD k 0))↔∃t∈sY n ord L m,g=eB n t
 |0,_,g=>by simp[sY]
 |m+1,hm,g=>by
  have ih:=mc hL hn ho m zO g;have af:(fs ord (FT n L) m g/\cF g (ord.getD m 0))↔∃t∈jc n ord L m,g=eB n t:=by
   rw[wF hL hn ho m zO];constructor
   ·rintro⟨⟨t,ht,rfl⟩,hh⟩;exact⟨t,lg.2 ⟨ht,(pR (mJ hL hn m t ht) (ho m zO)).1 hh⟩,rfl⟩
   rintro⟨t,ht,rfl⟩;obtain⟨h1,h2⟩:=lg.1 ht;exact⟨⟨t,h1,rfl⟩,(pR (mJ hL hn m t h1) (ho m zO)).2 h2⟩
  constructor
  ·rintro⟨k,hk,h1,h2⟩;by_cases e:k=m
   ·subst e;obtain⟨t,ht,rfl⟩:=af.1 ⟨h1,h2⟩;exact⟨t,xaa _ ht,rfl⟩
   obtain⟨t,ht,rfl⟩:=ih.1 ⟨k,by omega,h1,h2⟩;exact⟨t,xac _ ht,rfl⟩
  rintro⟨t,ht,rfl⟩;rcases xal.1 ht with ht|ht
  ·obtain⟨k,hk,h⟩:=ih.2 ⟨t,ht,rfl⟩;exact⟨k,by omega,h⟩
  exact⟨m,by omega,af.2 ⟨t,ht,rfl⟩⟩
theorem sX(hL:∀t∈L,dZ n t)(hn:n<=16)(ho:∀i,i<n->ord.getD i 0<n):∀m,m<=n->(sY n ord L m).Nodup
 |0,_=>List.nodup_nil
 |m+1,hm=>by
  refine xbb.2 ⟨sX hL hn ho m zO,(mI m).filter _,λa ha b hb e=>?_⟩;subst e;obtain⟨k,hk,h1,h2⟩:=(mc hL hn ho m zO (eB n a)).2 ⟨a,ha,rfl⟩;have h3:=(wF hL hn ho m zO (eB n a)).2 ⟨a,(lg.1 hb).1,rfl⟩;exact oE m _ h3 k hk h2
theorem y8{P:Fn->Prop}{l:ax.Fs}(hf:∀t∈l,dZ n t)(hn:l.Nodup)(h:∀g,P g↔∃t∈l,g=eB n t):qS P l.length:=by
 refine⟨l.map (eB n),?_,by simp,λg=>?_⟩
 ·refine xb2.2 (hn.imp_of_mem λ{a b} ha hb hne heq=>hne (wH (hf a ha) (hf b hb) heq))
 rw[h,xaq];constructor
 ·rintro⟨t,ht,rfl⟩;exact⟨t,ht,rfl⟩
 rintro⟨t,ht,rfl⟩;exact⟨t,ht,rfl⟩
theorem Bg(hL:∀t∈L,dZ n t)(hn:n<=16)(ho:∀i,i<n->ord.getD i 0<n):qS (aA n ord (FT n L)) (dI n ord L n):=by
 rw[<-iX];exact y8 (oY hL hn n) (sX hL hn ho n (xak _)) (mc hL hn ho n (xak _))
def LV(n:Nat)(ord:zL)(l:Nat)(L:ax.Fs):ax.Fs:=kV (sY n ord L n++sY n (ej ord l) L n)
theorem QC(hl:l+1<n)(hlen:ord.length=n)(ho:∀i,i<n->ord.getD i 0<n):∀i,i<n->(ej ord l).getD i 0<n:=λi hi=>by
 rw[dH zO];split
 ·exact ho _ hl
 split
 ·exact ho _ zO
 exact ho i hi
theorem Qy(hL:∀t∈L,dZ n t)(hn:n<=16)(ho:∀i,i<n->ord.getD i 0<n)(hl:l+1<n)(hlen:ord.length=n):xm n ord l (FT n L)=(LV n ord l L).length:=by
 have cg:=QC hl hlen ho;refine IK (y8 (n:=n) (λt ht=>?_) (jQ _) λg=>?_)
 ·rcases xal.1 (dk.1 ht)with h|h
  ·exact oY hL hn n t h
  exact oY hL hn n t h
 unfold Dw LV;rw[show aA n ord (FT n L) g↔_ from mc hL hn ho n (xak _) g,show aA n (ej ord l) (FT n L) g↔_ from mc hL hn cg n (xak _) g];constructor
 ·rintro(⟨t,h,rfl⟩|⟨t,h,rfl⟩)
  ·exact⟨t,dk.2 (xac _ h),rfl⟩
  exact⟨t,dk.2 (xaa _ h),rfl⟩
 rintro⟨t,h,rfl⟩;rcases xal.1 (dk.1 h)with h|h
 ·exact .inl ⟨t,h,rfl⟩
 exact .inr ⟨t,h,rfl⟩
end aq
set_option maxRecDepth 100000
namespace Go.Proofs
open Go Go.Sx Tryz
section
open aq
def u32(r:Nat):zV:=.int .u32 (r:Int)
def aY(d:Nd):List zV:=[iv (d.v:Int),u32 d.lo,u32 d.hi]
structure mU where
 v:Int
 lo:Nat
 hi:Nat
 tk:Bool
 c:Nat
def mU.row(p:mU):List zV:=[iv p.v,u32 p.lo,u32 p.hi,.bool p.tk,.int .u8 (p.c:Int)]
def fg(N:dA)(r:Nat):Bool:=decide (r<2)||(N r).isSome
theorem bF{N:dA}{r:Nat}:fg N r=true↔live N r:=by
 unfold fg live;rw[xbX,xaO,xdk]
def got(N:dA)(r:Nat):List zV:=
 if r<2 then [iv (-1),u32 r,u32 r]else match N r with|some d=>aY d|none=>[iv 0,u32 0,u32 0]
theorem de{N:dA}{r:Nat}{d:Nd}(h:N r=some d)(h2:2<=r):got N r=aY d:=by unfold got;rw[xad zO,h]
theorem dY{N:dA}{r:Nat}(h2:r<2):got N r=[iv (-1),u32 r,u32 r]:=by unfold got;rw[xae h2]
theorem yH{N:dA}{r:Nat}(h:fg N r=false):got N r=[iv 0,u32 0,u32 0]:=by
 unfold fg at h;rw[xaD,xbl]at h;unfold got;rw[xad h.1];cases hN:N r with
 |none=>rfl
 |some d=>rw[hN]at h;simp at h
def FB(p:mU):Option Nd:=if p.tk then some ⟨p.v.toNat,p.lo,p.hi⟩else none
structure wV(l:List mU)(fr:zL)(cap used:Nat)(N:dA):Prop where
 cap:l.length<=cap/\cap<=1048576
 two:2<=l.length
 const:∀r,r<2->∃p,l[r]? =some p/\p.v= -1/\p.lo=r/\p.hi=r/\p.tk=true
 nd:∀r,2<=r->N r=(l[r]?).bind FB
 n0:∀r,r<2->N r=none
 nn:∀(r:Nat) p,2<=r->l[r]? =some p->p.tk=true->0<=p.v
 MT:fr.Nodup
 pP:∀r,r∈fr↔∃p,l[r]? =some p/\p.tk=false
 used:used+fr.length=l.length
theorem wV.xX{l:List mU}{fr:zL}{cap used:Nat}{N:dA}(h:wV l fr cap used N)(r:Nat):fg N r=(match l[r]? with|some p=>p.tk|none=>false):=by
 unfold fg;by_cases h2:r<2
 ·obtain⟨p,hp,_,_,_,ht⟩:=h.const r h2;simp[h2,hp,ht]
 rw[h.nd r zO];cases hl:l[r]? with
 |none=>simp[h2]
 |some p=>cases ht:p.tk<;>simp[h2,FB,ht]
theorem wV.Zl{l:List mU}{fr:zL}{cap used:Nat}{N:dA}(h:wV l fr cap used N){r:Nat}{p:mU}(hp:l[r]? =some p)(ht:p.tk=true):got N r=p.row.take 3:=by
 by_cases h2:r<2
 ·obtain⟨p',hp',h1,kF,h3,_⟩:=h.const r h2;rw[hp]at hp';cases hp';rw[dY h2];simp[mU.row,h1,kF,h3]
 have hn:=h.nn r p zO hp ht;rw[de (d:=⟨p.v.toNat,p.lo,p.hi⟩) (by rw[h.nd r zO,hp];simp[FB,ht]) zO];simp[aY,mU.row,Int.toNat_of_nonneg hn]
theorem wV.lt{l:List mU}{fr:zL}{cap used:Nat}{N:dA}(h:wV l fr cap used N){r:Nat}(hr:live N r):r<l.length:=by
 have:=bF.2 hr;rw[h.xX]at this;cases hl:l[r]? with
 |none=>rw[hl]at this;simp at this
 |some p=>exact(xag.1 hl).1
def gk(pa cap used:Nat)(N:dA)(C:Hp):Prop:=
 ∃vl vf l fr Cl Cf,C=(pa,.cells #[iv (cap:Int),vl,vf,iv (used:Int)] 194 zZ)::(Cl++Cf)/\
  aH 207 5 vl (l.map mU.row) Cl/\aL 27 .u32 vf (fr.map (Nat.cast:Nat->Int)) Cf/\wV l fr cap used N
abbrev ptr(b:Nat):zV:=.pointer (some ⟨b,0,none⟩)
theorem row_one(p:mU):∀x∈p.row,x.oneCell'=true:=by intro x hx;simp[mU.row,u32]at hx;rcases hx with rfl|rfl|rfl|rfl|rfl<;>rfl
theorem nY{pa cap used r:Nat}{N:dA}{C:Hp}(h:gk pa cap used N C)(hr:r<4294967296):
  Rd zQ 127 #[ptr pa,u32 r] C (· =.bool (fg N r)):=by
 obtain⟨vl,vf,l,fr,Cl,Cf,rfl,hl,hf,ho⟩:=h;refine aS λg=>CW (aO.q (Nil.ptr ?_));refine ah.mk (Ld.mk zM rfl ?_);refine hl.bH (ae.fe ?_);rw[xaz];rw[ho.xX r];refine dr.and (match l[r]? with|some p=>p.tk|none=>false) (λhlt=>?_) rfl λ_=>bX.mk (.refl _) ?_
 ·have gv:=xbK hlt;apply Nil.ptr;refine ah.mk (Ld.mk zM rfl ?_);have hg:l[r]? =some l[r]:=xab gv;refine hl.Q6 (r:=l[r].row) (x:=.bool l[r].tk) (by rw[xat,hg];rfl) rfl (λ_ h=>by exact .tail _ (xac _ h)) ?_;exact⟨rfl,by rw[hg]⟩
 congr 1;by_cases hlt:r<l.length
 ·simp[hlt]
 rw[xaF zO];simp
theorem Lf{pa cap used r:Nat}{N:dA}{C:Hp}(h:gk pa cap used N C)(hr:r<4294967296):
  Rd zQ 91 #[ptr pa,u32 r] C (· =.tuple #[.agg (got N r).toArray,iv (if fg N r then 0 else 3)]):=by
 have h0:=h;obtain⟨vl,vf,l,fr,Cl,Cf,rfl,hl,hf,ho⟩:=h;refine aS λg=>GR λb1 _=>?_;refine ae.bf (Br.no (aa.eq (nY h0 hr) (Un.not (Br.mk (λhb=>?_) (λhb=>?_)))))
 ·have hb':fg N r=false:=by simpa using hb
  refine Build.mk (cs:=[iv 0,.int .u32 0,.int .u32 0]) zK (St.q ?_);refine av.q ?_;exact bX.mk .tail (by rw[yH hb',hb'];rfl)
 have hb':fg N r=true:=by simpa using hb
 have hx:=hb';rw[ho.xX]at hx;cases hg:l[r]? with
 |none=>rw[hg]at hx;simp at hx
 |some p=>
 rw[hg]at hx;simp only at hx;apply Nil.ptr;refine ah.mk (Ld.mk zM rfl ?_);refine hl.Q5 (r:=p.row) (by rw[xat,hg];rfl) zD (λ_ h=>by exact .tail _ (.tail _ (xac _ h))) ?_;refine St.p (λx hx=>row_one p x (xci hx)) ?_;refine av.q ?_;exact bX.mk .tail (by rw[ho.Zl hg hx,hb'];rfl)
structure VS(N:dA)(d:Nd):Prop where
 v:d.v<64
 lo:live N d.lo
 hi:live N d.hi
theorem gk.lt{pa cap used r:Nat}{N:dA}{C:Hp}(h:gk pa cap used N C)(hr:live N r):r<cap/\cap<=1048576:=by
 obtain⟨vl,vf,l,fr,Cl,Cf,rfl,hl,hf,ho⟩:=h;exact⟨xa2 (ho.lt hr) ho.cap.1,ho.cap.2⟩
theorem vk{pa cap used:Nat}{N:dA}{C:Hp}{d:Nd}(h:gk pa cap used N C)(hd:VS N d):
  Rd zQ 190 #[ptr pa,.agg (aY d).toArray] C (· =iv 0):=by
 have hlo:=h.lt hd.lo;have hhi:=h.lt hd.hi;refine aS λg=>BM λb1 _=>?_;refine Ld.f ?_;refine ae.lss (dr.or (decide (64<=d.v)) (λ_=>?_) rfl λ_=>?_)
 ·refine Ld.f ?_;exact ae.pN (b:=64) ⟨rfl,rfl⟩
 have hv:=hd.v;refine Br.ZX zP λJ hJ=>?_;refine Ld.f ?_;refine aa.eq (nY h zO) ?_;rw[bF.2 hd.lo];refine Un.not (Split.go rfl (Ld.f ?_));refine aa.eq (nY h zO) ?_;rw[bF.2 hd.hi];refine Un.not (aB.mk (JE.mk (hJ _ _ λgs=>Br.no (bX.mk .tail rfl))))
theorem Ju{pa cap used r:Nat}{N:dA}{C:Hp}(h:gk pa cap used N C)(hr:∃d,N r=some d)(h2:2<=r):
  Rd zQ 167 #[ptr pa,u32 r] C (· =iv 0):=by
 have hl:=h.lt (.inr hr);refine aS λg=>B8 λJ hJ=>?_;refine ae.wZ (b:=1) (Split.go zP ?_);refine aa.eq (nY h zO) ?_;rw[bF.2 (.inr hr)];refine Un.not (aB.mk (JE.mk (hJ _ _ λgs=>Br.no (bX.mk (.refl _) rfl))))
theorem zj{pa cap used:Nat}{N:dA}{C:Hp}(h:gk pa cap used N C):Rd zQ 82 #[ptr pa] C (· =iv (used:Int)):=by
 obtain⟨vl,vf,l,fr,Cl,Cf,rfl,hl,hf,ho⟩:=h;refine aS λg=>G1 (ae.bf (Br.no (Nil.ptr ?_)));refine ah.mk (Ld.mk zM rfl ?_);exact bX.mk (.refl _) rfl
theorem sV{pa cap used:Nat}{N:dA}{C:Hp}(h:gk pa cap used N C):Rd zQ 81 #[ptr pa] C (· =iv (cap:Int)):=by
 obtain⟨vl,vf,l,fr,Cl,Cf,rfl,hl,hf,ho⟩:=h;refine aS λg=>G2 (ae.bf (Br.no (Nil.ptr ?_)));refine ah.mk (Ld.mk zM rfl ?_);exact bX.mk (.refl _) rfl
end
section
open aq
section
variable {l:List mU} {fr:zL} {cap used:Nat} {N:dA}
theorem AL(d:Nd){c:Nat}:FB ⟨(d.v:Int),d.lo,d.hi,true,c⟩=some d:=by simp[FB]
theorem wV.reuse(h:wV l fr cap used N){r:Nat}(hr:r∈fr){fr':zL}(hf:fr.Perm (r::fr'))(d:Nd):
  2<=r/\r<cap/\N r=none/\wV (l.set r ⟨(d.v:Int),d.lo,d.hi,true,0⟩) fr' cap (used+1) (up N r (some d)):=by
 obtain⟨p,hp,ht⟩:=(h.pP r).1 hr;have hlt:=(xag.1 hp).1;have h2:2<=r:=by
  apply xde;intro hn;obtain⟨p',hp',_,_,_,ht'⟩:=h.const r zO;rw[hp]at hp';cases hp';rw[ht]at ht';cases ht'
 have iu:=hf.nodup_iff.1 h.MT;rw[xbd]at iu;refine⟨h2,xa2 hlt h.cap.1,by rw[h.nd r h2,hp];simp[FB,ht],?_⟩;have fM:∀s,s≠r->(l.set r ⟨(d.v:Int),d.lo,d.hi,true,0⟩)[s]? =l[s]? :=λs hs=>xbA (xbp hs);have jM:(l.set r ⟨(d.v:Int),d.lo,d.hi,true,0⟩)[r]? =some ⟨(d.v:Int),d.lo,d.hi,true,0⟩:=xbD hlt;exact {
  cap:=by simpa using h.cap
  two:=by simpa using h.two
  const:=λs hs=>by rw[fM s zO];exact h.const s hs
  nd:=λs hs=>by
   by_cases e:s=r
   ·subst e;rw[aD,jM];exact(AL d).symm
   rw[aE e,fM s e];exact h.nd s hs
  n0:=λs hs=>by rw[aE zO];exact h.n0 s hs
  nn:=λs q hs hq Kh=>by
   by_cases e:s=r
   ·subst e;rw[jM]at hq;cases hq;exact xcU _
   rw[fM s e]at hq;exact h.nn s q hs hq Kh
  MT:=iu.2
  pP:=λs=>by
   by_cases e:s=r
   ·subst e;rw[jM];simp[iu.1]
   rw[fM s e,<-h.pP s,hf.mem_iff];simp[e]
  used:=by have:=h.used;have:=hf.length_eq;simp only[xar,xbG]at*;omega}
theorem wV.grow(h:wV l [] cap used N)(hlt:l.length<cap)(d:Nd):
  2<=l.length/\N l.length=none/\wV (l++[⟨(d.v:Int),d.lo,d.hi,true,0⟩]) [] cap (used+1) (up N l.length (some d)):=by
 have h2:=h.two;refine⟨h2,by rw[h.nd _ h2,xaF (xak _)];rfl,?_⟩;have fM:∀s,s≠l.length->(l++[(⟨(d.v:Int),d.lo,d.hi,true,0⟩:mU)])[s]? =l[s]? :=λs hs=>by
  rw[xdB];split
  ·rfl
  rw[xaF zP,xaF zO]
 have jM:(l++[(⟨(d.v:Int),d.lo,d.hi,true,0⟩:mU)])[l.length]? =some ⟨(d.v:Int),d.lo,d.hi,true,0⟩:=by simp
 exact {
  cap:=by simp;exact⟨hlt,h.cap.2⟩
  two:=by simp;omega
  const:=λs hs=>by rw[fM s zO];exact h.const s hs
  nd:=λs hs=>by
   by_cases e:s=l.length
   ·subst e;rw[aD,jM];exact(AL d).symm
   rw[aE e,fM s e];exact h.nd s hs
  n0:=λs hs=>by rw[aE zO];exact h.n0 s hs
  nn:=λs q hs hq Kh=>by
   by_cases e:s=l.length
   ·subst e;rw[jM]at hq;cases hq;exact xcU _
   rw[fM s e]at hq;exact h.nn s q hs hq Kh
  MT:=h.MT
  pP:=λs=>by
   by_cases e:s=l.length
   ·subst e;rw[jM];simp
   rw[fM s e];exact h.pP s
  used:=by have:=h.used;simp at*;omega}
theorem wV.vE(h:wV l fr cap used N){r:Nat}{p:mU}(h2:2<=r)(hp:l[r]? =some p)(ht:p.tk=true)(d:Nd):
  wV (l.set r ⟨(d.v:Int),d.lo,d.hi,true,p.c⟩) fr cap used (up N r (some d)):=by
 have hlt:=(xag.1 hp).1;have fM:∀s,s≠r->(l.set r ⟨(d.v:Int),d.lo,d.hi,true,p.c⟩)[s]? =l[s]? :=λs hs=>xbA (xbp hs);have jM:(l.set r ⟨(d.v:Int),d.lo,d.hi,true,p.c⟩)[r]? =some ⟨(d.v:Int),d.lo,d.hi,true,p.c⟩:=xbD hlt;exact {
  cap:=by simpa using h.cap
  two:=by simpa using h.two
  const:=λs hs=>by rw[fM s zO];exact h.const s hs
  nd:=λs hs=>by
   by_cases e:s=r
   ·subst e;rw[aD,jM];exact(AL d).symm
   rw[aE e,fM s e];exact h.nd s hs
  n0:=λs hs=>by rw[aE zO];exact h.n0 s hs
  nn:=λs q hs hq Kh=>by
   by_cases e:s=r
   ·subst e;rw[jM]at hq;cases hq;exact xcU _
   rw[fM s e]at hq;exact h.nn s q hs hq Kh
  MT:=h.MT
  pP:=λs=>by
   by_cases e:s=r
   ·subst e;rw[h.pP,jM,hp];simp[ht]
   rw[fM s e];exact h.pP s
  used:=by simpa using h.used}
theorem wV.free(h:wV l fr cap used N){r:Nat}{p:mU}(h2:2<=r)(hp:l[r]? =some p)(ht:p.tk=true):
  wV (l.set r ⟨0,0,0,false,0⟩) (fr++[r]) cap (used-1) (up N r none)/\0<used:=by
 have hlt:=(xag.1 hp).1;have fM:∀s,s≠r->(l.set r ⟨0,0,0,false,0⟩)[s]? =l[s]? :=λs hs=>xbA (xbp hs);have jM:(l.set r ⟨0,0,0,false,0⟩)[r]? =some ⟨0,0,0,false,0⟩:=xbD hlt;have hnf:r∉fr:=λhm=>by obtain⟨q,hq,Kh⟩:=(h.pP r).1 hm;rw[hp]at hq;cases hq;rw[ht]at Kh;cases Kh
 have hu:fr.length<l.length:=by
  have hn:(r::fr).Nodup:=xbd.2 ⟨hnf,h.MT⟩;have:=bG (l:=r::fr) (l':=List.range l.length) hn λs hs=>by
   rw[xaV];rcases xaf.1 hs with rfl|hs
   ·exact hlt
   obtain⟨q,hq,_⟩:=(h.pP s).1 hs;exact(xag.1 hq).1
  rw[xaT]at this;exact this
 have hu2:=h.used;refine⟨?_,by omega⟩;exact {
  cap:=by simpa using h.cap
  two:=by simpa using h.two
  const:=λs hs=>by rw[fM s zO];exact h.const s hs
  nd:=λs hs=>by
   by_cases e:s=r
   ·subst e;rw[aD,jM];rfl
   rw[aE e,fM s e];exact h.nd s hs
  n0:=λs hs=>by rw[aE zO];exact h.n0 s hs
  nn:=λs q hs hq Kh=>by
   by_cases e:s=r
   ·subst e;rw[jM]at hq;cases hq;cases Kh
   rw[fM s e]at hq;exact h.nn s q hs hq Kh
  MT:=by rw[xbb];exact⟨h.MT,by simp,λa ha c hc=>by simp at hc;subst hc;intro e;subst e;exact hnf ha⟩
  pP:=λs=>by
   rw[xal,xaL];by_cases e:s=r
   ·subst e;rw[jM];simp
   rw[fM s e,<-h.pP];simp[e]
  used:=by simp;omega}
end
theorem lj(l:List mU)(r:Nat)(p:mU):(l.map mU.row).set r p.row=(l.set r p).map mU.row:=by rw[xdj]
theorem Me{pa cap used:Nat}{N:dA}{C:Hp}{d:Nd}(h:gk pa cap used N C)(hd:VS N d)(hroom:used<cap):
  Fc zQ 171 #[ptr pa,.agg (aY d).toArray] C (λv C'=>∃r,v=.tuple #[u32 r,iv 0]/\2<=r/\r<cap/\N r=none/\gk pa cap (used+1) (up N r (some d)) C'):=by
 have h0:=h;obtain⟨vl,vf,l,fr,Cl,Cf,rfl,hl,hf,ho⟩:=h;have hcap:=ho.cap;have D8:=ho.used;refine aS λg=>BZ λb1 _=>?_;refine ae.bf (Br.no (av.q ?_));refine aa.eq (vk h0 hd) (ae.dz (Br.F (Nil.ptr ?_)));refine ah.mk (Ld.mk zM rfl ?_);refine hf.bH ?_;rw[xaz];refine ae.kG (b:=0) (Br.dec (λhp=>?_) (λhp=>?_))
 ·obtain⟨fr',r,rfl⟩:∃fr' r,fr=fr'++[r]:=⟨fr.dropLast,fr.getLast (by intro e;simp[e]at hp),(xc3 _).symm⟩;simp only[xai,xar,xbe]at hp D8⊢;obtain⟨g1,g2,g3,hok⟩:=ho.reuse (r:=r) zI (fr':=fr') (by exact List.perm_append_singleton _ _) d;apply Nil.ptr;refine ah.mk (Ld.mk zM rfl ?_);refine ae.bP (a:=fr'.length+1) (b:=1) ?_;rw[xbQ];refine hf.ld (i:=fr'.length) (x:=(r:Int)) zI (λ_ h=>by exact .tail _ (.tail _ (xaa _ h))) (Nil.ptr ?_);refine ah.mk (Ld.mk zM rfl ?_);refine ae.bP (a:=fr'.length+1) (b:=1) ?_;rw[xbQ];refine hf.cut (i:=fr'.length) zI λv' wy=>?_;have A3:aL 27 .u32 v' (fr'.map (Nat.cast:Nat->Int)) Cf:=by
   rw[xaG,xdf zI]at wy;exact wy
  have hone:v'.oneCell'=true:=by obtain⟨a,c,e⟩:=aH.len A3;rw[e];rfl
  refine Nil.ptr (ah.mk (St.one (by exact .tail (.head _)) hone zI rfl ?_));refine DR.self (Nil.ptr (Ld.f ?_));refine av.q ?_;refine Build.mk (cs:=(mU.mk (d.v:Int) d.lo d.hi true 0).row) zK (hl.Jj (A:=[_,_]) (B:=Cf) (i:=r) (by rw[xaz];have:=(ho.pP r).1 zI;obtain⟨p,hp,_⟩:=this;exact(xag.1 hp).1) rfl (row_one _) λC' hl'=>?_);rw[lj]at hl';simp only[xaN,xaW];refine Nil.ptr (Ld.f ?_);refine ae.inc (Nil.ptr (ah.mk (St.one (by exact .tail (.head _)) rfl zI rfl ?_)));exact aN.mk .tail ⟨r,rfl,g1,g2,g3,vl,v',_,fr',C',Cf,rfl,hl',A3,hok⟩
 obtain rfl:fr=[]:=xcq zO;simp only[xbe]at D8;obtain⟨g1,g3,hok⟩:=ho.grow zO d;apply Nil.ptr;refine ah.mk (Ld.mk zM rfl ?_);refine hl.bH ?_;rw[xaz];apply Nil.ptr;refine ah.mk (Ld.mk zM rfl ?_);refine ae.pN (Br.F (DR.of (R:=(b1,.cells (List.toArray (aY d)) 60 zZ)::(pa,.cells #[iv (cap:Int),vl,vf,iv (used:Int)] 194 zZ)::[]) (.cons (.cons .nil)) (Nil.ptr ?_)));refine ah.mk (Ld.mk zM rfl ?_);refine av.q ?_;refine Build.mk (cs:=(mU.mk (d.v:Int) d.lo d.hi true 0).row) zK (ai.one (z:=.agg #[iv 0,.int .u32 0,.int .u32 0,.bool false,.int .u8 0]) (e:=207) (k:=5) zK zK zK zD rfl λbx=>?_);refine⟨.skip (.cons (.cons .nil)),?_⟩;refine hl.Ma (A:=[_,_,_]) (B:=Cf) (r:=(mU.mk (d.v:Int) d.lo d.hi true 0).row) (by exact .head _) rfl (row_one _) (by exact⟨[iv 0,.int .u32 0,.int .u32 0,.bool false,.int .u8 0],rfl,rfl⟩) zP zP λv' C' hl'=>?_;have qp:aH 207 5 v' ((l++[(⟨(d.v:Int),d.lo,d.hi,true,0⟩:mU)]).map mU.row) C':=by rw[xaG];exact hl'
 simp only[xaN,xaW];refine⟨.skip (.cons (.cons .nil)),?_⟩;have hone:v'.oneCell'=true:=by obtain⟨a,c,e⟩:=qp.len;rw[e];rfl
 refine Nil.ptr (ah.mk (St.one (by exact .tail (.tail (.head _))) hone zI rfl ?_));refine Nil.ptr (Ld.f ?_);refine ae.inc (Nil.ptr (ah.mk (St.one (by exact .tail (.tail (.head _))) rfl zI rfl ?_)));refine Nil.ptr (Ld.f ?_);refine qp.bH (ae.tH (b:=1) (by simp[bM];omega) zI (aO.q (aN.mk (.skip .tail) ⟨l.length,by simp[u32],g1,by omega,g3,v',vf,_,[],C',Cf,rfl,qp,hf,hok⟩)))
theorem Pa{pa cap used r:Nat}{N:dA}{C:Hp}{d:Nd}(h:gk pa cap used N C)(hd:VS N d)(hr:∃e,N r=some e)(h2:2<=r):
  Fc zQ 164 #[ptr pa,u32 r,.agg (aY d).toArray] C (λv C'=>v=iv 0/\gk pa cap used (up N r (some d)) C'):=by
 have h0:=h;obtain⟨vl,vf,l,fr,Cl,Cf,rfl,hl,hf,ho⟩:=h;have hx:=bF.2 (.inr hr:live N r);rw[ho.xX]at hx;obtain⟨p,hg,hx⟩:∃p,l[r]? =some p/\p.tk=true:=by
  cases hg:l[r]? with
  |none=>rw[hg]at hx;simp at hx
  |some p=>rw[hg]at hx;exact⟨p,rfl,hx⟩
 refine aS λg=>Cb λb1 _=>?_;refine ae.bf (Br.no (av.q ?_));refine aa.eq (vk h0 hd) (ae.dz (Br.F (aa.eq (Ju h0 hr h2) (ae.dz (Br.F (DR.self (Nil.ptr ?_)))))));refine ah.mk (Ld.mk zM rfl ?_);refine av.q ?_;refine hl.Nt (A:=[_,_]) (B:=Cf) (r:=p.row) (xs:=aY d) (n:=3) (by rw[xat,hg];rfl) ⟨rfl,by omega⟩ (by intro x hx;simp[aY,u32]at hx;rcases hx with rfl|rfl|rfl<;>rfl) λC' hl'=>?_;have e:(aY d++p.row.drop 3)=(mU.mk (d.v:Int) d.lo d.hi true p.c).row:=by simp[aY,mU.row,hx]
 rw[e,lj]at hl';exact aN.mk .tail ⟨rfl,vl,vf,_,fr,C',Cf,rfl,hl',hf,ho.vE h2 hg hx d⟩
theorem Mj{pa cap used r:Nat}{N:dA}{C:Hp}(h:gk pa cap used N C)(hr:∃e,N r=some e)(h2:2<=r):
  Fc zQ 135 #[ptr pa,u32 r] C (λv C'=>v=iv 0/\gk pa cap (used-1) (up N r none) C'):=by
 have h0:=h;obtain⟨vl,vf,l,fr,Cl,Cf,rfl,hl,hf,ho⟩:=h;have hx:=bF.2 (.inr hr:live N r);rw[ho.xX]at hx;obtain⟨p,hg,hx⟩:∃p,l[r]? =some p/\p.tk=true:=by
  cases hg:l[r]? with
  |none=>rw[hg]at hx;simp at hx
  |some p=>rw[hg]at hx;exact⟨p,rfl,hx⟩
 obtain⟨hok,hu0⟩:=ho.free h2 hg hx;have hcap:=ho.cap;have D8:=ho.used;refine aS λg=>CE (ae.bf (Br.no (aa.eq (Ju h0 hr h2) (ae.dz (Br.F (Nil.ptr ?_))))));refine ah.mk (Ld.mk zM rfl ?_);refine Build.mk (cs:=(mU.mk 0 0 0 false 0).row) zK (hl.Jj (A:=[_]) (B:=Cf) (i:=r) (by rw[xaz];exact(xag.1 hg).1) rfl (row_one _) λC' hl'=>?_);rw[lj]at hl';simp only[xaN,xaW];refine Nil.ptr (Ld.f ?_);refine ai.int (e:=27) zK zK zK λbx=>?_;have e1:(bx,Obj.cells (au .u32 [(r:Int)]) 27 zZ)::(pa,Obj.cells #[iv (cap:Int),vl,vf,iv (used:Int)] 194 zZ)::(C'++Cf)=(bx,Obj.cells (au .u32 [(r:Int)]) 27 zZ)::(pa,Obj.cells #[iv (cap:Int),vl,vf,iv (used:Int)] 194 zZ)::C'++(Cf++[]):=by simp
 rw[e1];refine hf.app (x:=(r:Int)) (B:=[]) (by exact .head _) zP zP λv' Cf' wy=>?_;have A3:aL 27 .u32 v' ((fr++[r]).map (Nat.cast:Nat->Int)) Cf':=by rw[xaG];exact wy
 have hone:v'.oneCell'=true:=by obtain⟨a,c,e⟩:=aH.len A3;rw[e];rfl
 simp only[xaN,xaP];refine Nil.ptr (ah.mk (St.one (by exact .tail (.head _)) hone zI rfl ?_));refine Nil.ptr (Ld.f ?_);refine ae.bP (b:=1) (Nil.ptr (ah.mk (St.one (by exact .tail (.head _)) rfl zI rfl ?_)));exact aN.mk .tail ⟨rfl,vl,v',_,_,C',Cf',rfl,hl',A3,hok⟩
def nK(d:Nd):zV:=.agg (aY d).toArray
abbrev Im(v:zV)(r:Nat):Prop:=v=u32 r
theorem DV:Tryz.prog.underlying 60=some (.struct (Tryz.prog.fieldsOf 60)):=by kernel_rfl
theorem ob(a b:Nd):zz zQ 60 (nK a) (nK b) (decide (a=b)):=by
 refine zz.flat (fs:=#[⟨"Var",3,0,false, "", "",0⟩,⟨"Lo",27,1,false, "", "",8⟩,⟨"Hi",27,2,false, "", "",12⟩]) zK zK ?_ ?_
 ·intro f hf;simp only[xaf,xao,xaQ]at hf;rcases hf with rfl|rfl|rfl
  ·exact⟨by decide,_,_,rfl,rfl,.inl ⟨.i64,_,_,by kernel_rfl,rfl,rfl⟩⟩
  ·exact⟨by decide,_,_,rfl,rfl,.inl ⟨.u32,_,_,by kernel_rfl,rfl,rfl⟩⟩
  exact⟨by decide,_,_,rfl,rfl,.inl ⟨.u32,_,_,by kernel_rfl,rfl,rfl⟩⟩
 obtain⟨a1,a2,a3⟩:=a;obtain⟨b1,b2,b3⟩:=b;simp[aY,u32];omega
theorem j4(a:Nd):kP zQ 60 (nK a):=by
 refine kP.flat (fs:=#[⟨"Var",3,0,false, "", "",0⟩,⟨"Lo",27,1,false, "", "",8⟩,⟨"Hi",27,2,false, "", "",12⟩]) zK ?_;intro f hf;simp only[xaf,xao,xaQ]at hf;rcases hf with rfl|rfl|rfl
 ·exact⟨by decide,_,rfl,.inl ⟨.i64,_,_,by kernel_rfl,rfl,rfl⟩⟩
 ·exact⟨by decide,_,rfl,.inl ⟨.u32,_,_,by kernel_rfl,rfl,rfl⟩⟩
 exact⟨by decide,_,rfl,.inl ⟨.u32,_,_,by kernel_rfl,rfl,rfl⟩⟩
theorem DX(a:Nd):Instr.sameBits 10000 (nK a) (nK a)=true:=ja 9998 (by intro x hx;simp[aY,u32]at hx;rcases hx with rfl|rfl|rfl<;>exact .inl ⟨_,_,rfl⟩)
structure UM where
 b:Nat
 es:Array MapEntry
 ck:Nat
 l:List (Nd×Nat)
def FG(ms:List UM):Hp:=ms.map λm=>(m.b,.map m.es m.ck)
structure MU(ms:List UM)(n:Nat)(T:Nd->Option Nat):Prop where
 len:ms.length=n
 cS:∀(v:Nat) m,ms[v]? =some m->aM nK Im m.es m.ck m.l
 var:∀(v:Nat) m,ms[v]? =some m->∀x∈m.l,x.1.v=v
 T:∀d,T d=(ms[d.v]?).bind λm=>c8 m.l d
def nh(pt n:Nat)(T:Nd->Option Nat)(C:Hp):Prop:=
 ∃vs Cs ms,C=(pt,.cells #[vs] 188 zZ)::(Cs++FG ms)/\aH 189 1 vs (ms.map λm=>[.map (some m.b)]) Cs/\MU ms n T
theorem qY{ms:List UM}{v:Nat}{m:UM}(h:ms[v]? =some m):(m.b,Obj.map m.es m.ck)∈FG ms:=xaq.2 ⟨m,xax h,rfl⟩
theorem vX{es':Array MapEntry}{cm:Nat}{l':List (Nd×Nat)}:∀{ms:List UM} {v:Nat} {m:UM},ms[v]? =some m->cT m.b (.map m.es m.ck) (.map es' cm) (FG ms) (FG (ms.set v ⟨m.b,es',cm,l'⟩))
 | [],v,m,h=>by simp at h
 |x::ms,0,m,h=>by simp at h;subst h;exact .head _
 |x::ms,v+1,m,h=>by simp at h;exact .tail (vX h)
theorem uD{ms:List UM}{v:Nat}{m m':UM}(h:ms[v]? =some m)(hb:m'.b=m.b):(ms.set v m').map (λm=>[Value.map (some m.b)])=ms.map λm=>[Value.map (some m.b)]:=by
 rw[xdj];apply xbo;intro j;rw[xbU];split
 ·rename_i e;subst e;have hlt:=(xag.1 h).1;have e2:ms[v]=m:=by rw[xab hlt]at h;exact xbt h
  simp[hb,hlt,e2]
 rfl
theorem MU.add{ms:List UM}{n:Nat}{T:Nd->Option Nat}(h:MU ms n T){d:Nd}{m:UM}(hm:ms[d.v]? =some m){es':Array MapEntry}{cm r:Nat}(he:aM nK Im es' cm (gf m.l d r)):MU (ms.set d.v ⟨m.b,es',cm,gf m.l d r⟩) n (nS T d (some r)) where
 len:=by rw[xbG];exact h.len
 cS:=λv m' hm'=>by
  rw[xbU]at hm';split at hm'
  ·split at hm'
   ·cases hm';exact he
   cases hm'
  exact h.cS v m' hm'
 var:=λv m' hm' x hx=>by
  rw[xbU]at hm';split at hm'
  ·rename_i e;split at hm'
   ·cases hm';subst e;simp only[gf]at hx;split at hx
    ·obtain⟨y,hy,rfl⟩:=xaq.1 hx;split
     ·rfl
     exact h.var _ m hm y hy
    rcases xal.1 hx with hx|hx
    ·exact h.var _ m hm x hx
    simp at hx;subst hx;rfl
   cases hm'
  exact h.var v m' hm' x hx
 T:=λe=>by
  have hlt:=(xag.1 hm).1;by_cases ee:e=d
  ·subst ee;rw[g8,xbD hlt];simp[fc]
  rw[nq ee,h.T e];by_cases ev:d.v=e.v
  ·rw[<-ev,xbD hlt,hm];simp[fc,ee]
  rw[xbA ev]
theorem MU.del{ms:List UM}{n:Nat}{T:Nd->Option Nat}(h:MU ms n T){d:Nd}{m:UM}(hm:ms[d.v]? =some m){es':Array MapEntry}{cm:Nat}(he:aM nK Im es' cm (nE m.l d)):MU (ms.set d.v ⟨m.b,es',cm,nE m.l d⟩) n (nS T d none) where
 len:=by rw[xbG];exact h.len
 cS:=λv m' hm'=>by
  rw[xbU]at hm';split at hm'
  ·split at hm'
   ·cases hm';exact he
   cases hm'
  exact h.cS v m' hm'
 var:=λv m' hm' x hx=>by
  rw[xbU]at hm';split at hm'
  ·rename_i e;split at hm'
   ·cases hm';subst e;exact h.var _ m hm x (xcj.1 hx|>.1)
   cases hm'
  exact h.var v m' hm' x hx
 T:=λe=>by
  have hlt:=(xag.1 hm).1;by_cases ee:e=d
  ·subst ee;rw[g8,xbD hlt];simp[uB]
  rw[nq ee,h.T e];by_cases ev:d.v=e.v
  ·rw[<-ev,xbD hlt,hm];simp[uB,ee]
  rw[xbA ev]
theorem mr{pt n v:Nat}{T:Nd->Option Nat}{C:Hp}(h:nh pt n T C)(hv:v<n):Rd zQ 166 #[ptr pt,iv (v:Int)] C (· =iv 0):=by
 obtain⟨vs,Cs,ms,rfl,hs,ho⟩:=h;refine aS λg=>B9 (ae.bf (Br.no (ae.lss ?_)));rw[xas (by omega:¬((v:Int)<0))];refine dr.or false (λ_=>?_) rfl λ_=>Br.no (bX.mk (.refl _) rfl);apply Nil.ptr;refine ah.mk (Ld.mk zM rfl ?_);refine hs.bH ?_;rw[xaz,ho.len];exact ae.pN ⟨rfl,by rw[xas zO]⟩
theorem q9{pt n:Nat}{T:Nd->Option Nat}{C:Hp}{d:Nd}(h:nh pt n T C)(hv:d.v<n):
  Rd zQ 170 #[ptr pt,nK d] C (· =.tuple #[u32 ((T d).getD 0),.bool (T d).isSome]):=by
 have h0:=h;obtain⟨vs,Cs,ms,rfl,hs,ho⟩:=h;obtain⟨m,hm⟩:∃m,ms[d.v]? =some m:=⟨_,xab (by rw[ho.len];exact hv)⟩;refine aS λg=>B0 λb1 _=>?_;refine Ld.f ?_;refine aa.eq (mr h0 hv) (ae.dz (Br.F (Nil.ptr ?_)));refine ah.mk (Ld.mk zM rfl ?_);refine Ld.f ?_;refine hs.Q9 (x:=.map (some m.b)) (by rw[xat,hm];rfl) (λ_ h=>by exact .tail _ (.tail _ (xac _ h))) ?_;refine av.q ?_;have hmem:(m.b,Obj.map m.es m.ck)∈(b1,Obj.cells (Value.cells (nK d)) 60 zZ)::(pt,.cells #[vs] 188 zZ)::(Cs++FG ms):=.tail _ (.tail _ (xaa _ (qY hm)));have hT:T d=c8 m.l d:=by rw[ho.T,hm];rfl
 rw[hT];cases hg:c8 m.l d with
 |some r=>
  refine aM.F1 (ke:=nK) (k:=d) ob j4 (ho.cS _ m hm) hmem hg ?_;rintro v rfl;exact Ext.mk rfl (Ext.mk rfl (bX.mk .tail rfl))
 |none=>
  refine aM.uA (ke:=nK) (k:=d) ob j4 (ho.cS _ m hm) hmem hg ?_;exact Ext.mk rfl (Ext.mk rfl (bX.mk .tail rfl))
theorem DB{pt n r:Nat}{T:Nd->Option Nat}{C:Hp}{d:Nd}(h:nh pt n T C)(hv:d.v<n)(hT:T d=none):
  Fc zQ 165 #[ptr pt,nK d,u32 r] C (λv C'=>v=iv 0/\nh pt n (nS T d (some r)) C'):=by
 have h0:=h;obtain⟨vs,Cs,ms,rfl,hs,ho⟩:=h;obtain⟨m,hm⟩:∃m,ms[d.v]? =some m:=⟨_,xab (by rw[ho.len];exact hv)⟩;have YM:c8 m.l d=none:=by rw[ho.T,hm]at hT;exact hT
 refine aS λg=>Ca λb1 _=>?_;refine Ld.f ?_;refine aa.eq (mr h0 hv) (ae.dz (Br.F (Nil.ptr ?_)));refine ah.mk (Ld.mk zM rfl ?_);refine Ld.f ?_;refine hs.Q9 (x:=.map (some m.b)) (by rw[xat,hm];rfl) (λ_ h=>by exact .tail _ (.tail _ (xac _ h))) ?_;refine av.q ?_;have hmem:(m.b,Obj.map m.es m.ck)∈(b1,Obj.cells (Value.cells (nK d)) 60 zZ)::(pt,.cells #[vs] 188 zZ)::(Cs++FG ms):=.tail _ (.tail _ (xaa _ (qY hm)));refine aM.uA (ke:=nK) (k:=d) ob j4 (ho.cS _ m hm) hmem YM ?_;refine Ext.mk rfl (Ext.mk rfl (Br.no (DR.self (Nil.ptr ?_))));refine ah.mk (Ld.mk zM rfl ?_);refine Ld.f ?_;refine hs.Q9 (x:=.map (some m.b)) (by rw[xat,hm];rfl) (λ_ h=>by exact .tail _ (.tail _ (xac _ h))) ?_;refine av.q ?_;refine aM.IN (ke:=nK) (k:=d) (vr:=Im) (x:=r) ob j4 DX (ho.cS _ m hm) rfl λes' cm he=>⟨_,.tail (.tail ((vX (l':=gf m.l d r) hm).bB Cs)),?_⟩;exact aN.mk .tail ⟨rfl,vs,Cs,_,rfl,by rw[uD hm];exact hs;rfl,ho.add hm he⟩
theorem uv{pt n r:Nat}{T:Nd->Option Nat}{C:Hp}{d:Nd}(h:nh pt n T C)(hv:d.v<n)(hT:T d=some r):
  Fc zQ 134 #[ptr pt,nK d] C (λv C'=>v=iv 0/\nh pt n (nS T d none) C'):=by
 have h0:=h;obtain⟨vs,Cs,ms,rfl,hs,ho⟩:=h;obtain⟨m,hm⟩:∃m,ms[d.v]? =some m:=⟨_,xab (by rw[ho.len];exact hv)⟩;have YM:c8 m.l d=some r:=by rw[ho.T,hm]at hT;exact hT
 refine aS λg=>CG λb1 _=>?_;refine Ld.f ?_;refine aa.eq (mr h0 hv) (ae.dz (Br.F (Nil.ptr ?_)));refine ah.mk (Ld.mk zM rfl ?_);refine Ld.f ?_;refine hs.Q9 (x:=.map (some m.b)) (by rw[xat,hm];rfl) (λ_ h=>by exact .tail _ (.tail _ (xac _ h))) ?_;refine av.q ?_;have hmem:(m.b,Obj.map m.es m.ck)∈(b1,Obj.cells (Value.cells (nK d)) 60 zZ)::(pt,.cells #[vs] 188 zZ)::(Cs++FG ms):=.tail _ (.tail _ (xaa _ (qY hm)));refine aM.F1 (ke:=nK) (k:=d) ob j4 (ho.cS _ m hm) hmem YM ?_;rintro v rfl;refine Ext.mk rfl (Ext.mk rfl (Un.not (Br.no (DR.of (R:=(b1,Obj.cells (Value.cells (nK d)) 60 zZ)::(pt,.cells #[vs] 188 zZ)::Cs) (.cons (.cons .left)) (Nil.ptr ?_)))));refine ah.mk (Ld.mk zM rfl ?_);refine Ld.f ?_;refine hs.Q9 (x:=.map (some m.b)) (by rw[xat,hm];rfl) (λ_ h=>by exact .tail _ (.tail _ h)) ?_;refine av.q ?_;refine aM.Zy (ke:=nK) (k:=d) ob j4 (ho.cS _ m hm) hmem λes' he=>⟨_,.tail (.tail ((vX (l':=nE m.l d) hm).bB Cs)),?_⟩;exact⟨.cons (.cons .left),aN.mk .tail ⟨rfl,vs,Cs,_,rfl,by rw[uD hm];exact hs;rfl,ho.del hm he⟩⟩
theorem MU.start(n:Nat)(bs:zL)(h:bs.length=n):MU (bs.map λb=>⟨b,#[],0,[]⟩) n (λ_=>none) where
 len:=by simpa using h
 cS:=λv m hm=>by
  rw[xat]at hm;obtain⟨b,_,rfl⟩:=xds.1 hm;exact aM.empty
 var:=λv m hm x hx=>by
  rw[xat]at hm;obtain⟨b,_,rfl⟩:=xds.1 hm;simp at hx
 T:=λd=>by
  rw[xat];cases bs[d.v]? <;>simp[c8]
theorem yT(x:zV):∀n:Nat,(List.replicate n [x]).flatten=List.replicate n x
 |0=>rfl
 |n+1=>by rw[xcO,xcl,xcO,yT x n];rfl
theorem MZ{n:Nat}(hn:1<=n/\n<=64):Fc zQ 79 #[iv (n:Int)] [] (λv H=>∃pt,v=.tuple #[ptr pt,iv 0]/\nh pt n (λ_=>none) H):=by
 refine aS λg=>G4 (ae.lss ?_);rw[xas zO];refine dr.or false (λ_=>ae.gtr ⟨rfl,by rw[xas zO]⟩) rfl λ_=>Br.no ?_;refine⟨.i64,.i64,n,n,rfl,rfl,xak _,by omega,by omega,?_⟩;intro bs _;refine Build.mk (cs:=[.slice (some ⟨bs,0,none⟩) n n]) zK λpt _=>?_;have hz:madeCells (Value.cells (.map none)) (n*1)=rows ((List.replicate n [Value.map none])++[]):=by
  apply xc7;apply xbo;intro i;have:=yT (.map none) n;simp only[madeCells,rows,Value.cells,xdv,Array.toList_range,xat,xdH,xb6,xaP];rw[this,xdp];by_cases hi:i<n
  ·simp[hi,xd6]
  simp[hi]
 rw[hz];have hs0:aH 189 1 (.slice (some ⟨bs,0,none⟩) n n) (List.replicate n [Value.map none]) [(bs,.cells (rows ((List.replicate n [Value.map none])++[])) 189 zZ)]:=
  aH.mk' (λr hr=>by rw[xaP]at hr;rw[xbM hr];rfl) zI zI
 refine⟨λvs H=>∃(j:Nat) (bl:zL) (Cs:Hp),vs=[iv (j:Int)]/\bl.length=j/\j<=n/\H=(pt,.cells #[.slice (some ⟨bs,0,none⟩) n n] 188 zZ)::(Cs++FG (bl.map λb=>⟨b,#[],0,[]⟩))/\
  aH 189 1 (.slice (some ⟨bs,0,none⟩) n n) ((bl.map λb=>[Value.map (some b)])++List.replicate (n-j) [Value.map none]) Cs,λvs _=>n-bL vs 0,JE.mk ⟨0,[],_,rfl,rfl,by omega,by simp only[FG,xcu,xaP];rfl,by simpa using hs0⟩,?_⟩
 rintro w H ⟨j,bl,Cs,hw,KO,hj,rfl,hs⟩ gs;simp only[xau,xaY]at hw;subst hw;refine ae.fe (Br.dec (λhlt=>?_) (λhlt=>?_))
 ·refine Nil.ptr (Ld.f ?_);intro b _;have hlen:((bl.map λb=>[Value.map (some b)])++List.replicate (n-j) [Value.map none]).length=n:=by simp;omega
  refine aH.Xh (A:=[_,_]) (B:=FG (bl.map λb=>⟨b,#[],0,[]⟩)) hs (i:=j) (y:=.map none) zO ?_ rfl λC' hs'=>?_
  ·rw[xaU (by simp[KO])];simp only[xaz,KO,xbT];rw[xdp,xae zO]
  refine ae.inc ?_;have e:((bl.map λb=>[Value.map (some b)])++List.replicate (n-j) [Value.map none]).set j [Value.map (some b)]=((bl++[b]).map λb=>[Value.map (some b)])++List.replicate (n-(j+1)) [Value.map none]:=by
   rw[xbZ _ _ (by simp[KO])];simp only[xaz,KO,xbT];rw[show n-j=(n-(j+1))+1 by omega,xcO,xcv,xaG];simp
  rw[e]at hs';refine az.of ?_ ⟨j+1,bl++[b],C',rfl,by simp[KO],by omega,rfl,hs'⟩ (by show n-(((j+1:Nat):Int).toNat)<n-(((j:Nat):Int).toNat);omega);refine aG.perm ?_;simp only[xaN,xaW,FG,xaG,xcx];refine(List.Perm.swap _ _ _).trans (.cons _ ?_);rw[<-xaj];exact(List.perm_append_singleton _ _).symm
 obtain rfl:j=n:=by omega
 refine aN.here ⟨pt,rfl,_,Cs,_,rfl,?_,MU.start _ bl KO⟩;rw[xbT]at hs;simpa[xcx,Function.comp_def]using hs
theorem Pc{n:Nat}(hn:2<=n/\n<=1048576):Fc zQ 118 #[iv (n:Int)] [] (λv H=>∃pa,v=.tuple #[ptr pa,iv 0]/\gk pa n 2 (λ_=>none) H):=by
 refine aS λg=>Dc (ae.lss ?_);rw[xas zO];refine dr.or false (λ_=>ae.gtr ⟨rfl,by rw[xas zO]⟩) rfl λ_=>Br.no ?_;refine Build.mk (cs:=[iv (n:Int),.slice none 0 0,.slice none 0 0,iv 2]) zK λpa _=>?_;refine⟨λvs H=>∃(j:Nat) (vl:zV) (Cl:Hp),vs=[u32 j]/\j<=2/\H=(pa,.cells #[iv (n:Int),vl,.slice none 0 0,iv 2] 194 zZ)::Cl/\
  aH 207 5 vl ((List.range j).map λr=>(mU.mk (-1) r r true 255).row) Cl,λvs _=>2-bL vs 0,JE.mk ⟨0,_,[],rfl,by omega,rfl,aH.nil _ _⟩,?_⟩
 rintro w H ⟨j,vl,Cl,hw,hj,rfl,hs⟩ gs;simp only[xau,xaY]at hw;subst hw;refine ae.fe (b:=2) (Br.dec (λhlt=>?_) (λhlt=>?_))
 ·refine Nil.ptr (Ld.f ?_);refine Build.mk (cs:=[iv (-1),u32 j,u32 j]) zK (Build.mk (cs:=(mU.mk (-1) j j true 255).row) zK (ai.one (z:=.agg #[iv 0,.int .u32 0,.int .u32 0,.bool false,.int .u8 0]) (e:=207) (k:=5) zK zK zK zD rfl λbx=>?_));have e1:∀x y:Nat×Obj,x::y::Cl=[x,y]++(Cl++[]):=λx y=>by simp
  rw[e1];refine hs.Ma (A:=[_,_]) (B:=[]) (r:=(mU.mk (-1) j j true 255).row) (by exact .head _) rfl (row_one _) (by exact⟨[iv 0,.int .u32 0,.int .u32 0,.bool false,.int .u8 0],rfl,rfl⟩) zP zP λv' C' hs'=>?_;simp only[xaN,xaW,xaP];have hone:v'.oneCell'=true:=by obtain⟨a,c,e⟩:=hs'.len;rw[e];rfl
  refine Nil.ptr (ah.mk (St.one (by exact .tail (.head _)) hone zI rfl ?_));refine ae.inc (az.of .tail ⟨j+1,v',C',rfl,by omega,rfl,?_⟩ (by show 2-(((j+1:Nat):Int).toNat)<2-(((j:Nat):Int).toNat);omega));rw[xcC,xaG];exact hs'
 obtain rfl:j=2:=by omega
 refine aN.here ⟨pa,rfl,vl,_,[⟨-1,0,0,true,255⟩,⟨-1,1,1,true,255⟩],[],Cl,[],by rw[xaP];rfl,hs,aL.nil,?_⟩;exact {
  cap:=by simp;omega
  two:=by simp
  const:=λr hr=>by
   have:r=0\/r=1:=by omega
   rcases this with rfl|rfl
   ·exact⟨_,rfl,rfl,rfl,rfl,rfl⟩
   exact⟨_,rfl,rfl,rfl,rfl,rfl⟩
  nd:=λr hr=>by rw[xaF zP];rfl
  n0:=λ_ _=>rfl
  nn:=λr p hr hp _=>by rw[xaF zP]at hp;cases hp
  MT:=by simp
  pP:=λr=>by
   simp only[xao,false_iff,not_exists,not_and];intro p hp;have hlt:=(xag.1 hp).1;simp at hlt;have:r=0\/r=1:=by omega
   rcases this with rfl|rfl<;>(simp at hp;subst hp;simp)
  used:=rfl}
structure qQ where
 pa:Nat
 pt:Nat
 vu:zV
 vh:zV
 vo:zV
 vl:zV
 vt:zV
 CA:Hp
 CT:Hp
 CU:Hp
 CH:Hp
 CO:Hp
 CL:Hp
 CR:Hp
def qQ.cells(b:qQ)(n:Nat):Array zV:=#[ptr b.pa,ptr b.pt,b.vu,b.vh,iv (n:Int),b.vo,b.vl,b.vt]
def qQ.hp(b:qQ)(kp n:Nat):Hp:=(kp,.cells (b.cells n) 103 zZ)::(b.CA++(b.CT++(b.CU++(b.CH++(b.CO++(b.CL++b.CR))))))
structure Sk(b:qQ)(K:Kd)(ord af tr:zL):Prop where
 ar:gk b.pa K.cap K.used K.N b.CA
 ut:nh b.pt K.n K.T b.CT
 us:aL 21 .i32 b.vu (iw K.us) b.CU
 ho:aL 21 .i32 b.vh (iw K.ho) b.CH
 od:aL 3 .i64 b.vo (iw ord) b.CO
 lv:aL 3 .i64 b.vl (iw af) b.CL
 tr:aL 3 .i64 b.vt (iw tr) b.CR
 ul:K.us.length=K.ho.length/\K.us.length<=1048576
 Ab:K.n<=64
 ol:ord.length=K.n/\af.length=K.n
def cv(kp:Nat)(K:Kd)(ord af tr:zL)(C:Hp):Prop:=∃b:qQ,C=b.hp kp K.n/\Sk b K ord af tr
section
variable {kp:Nat} {K:Kd} {ord af tr:zL} {C:Hp}
theorem cv.cap(h:cv kp K ord af tr C):K.cap<=1048576:=by
 obtain⟨b,rfl,hb⟩:=h;exact(hb.ar.lt (r:=0) (.inl zD)).2
theorem cv.lt(h:cv kp K ord af tr C){r:Nat}(hr:live K.N r):r<1048576:=by
 obtain⟨b,rfl,hb⟩:=h;have:=hb.ar.lt hr;omega
theorem aF(N:dA)(r:Nat):(got N r).length=3/\∀x∈got N r,x.oneCell'=true:=by
 unfold got;split
 ·exact⟨rfl,by intro x hx;simp[u32]at hx;rcases hx with rfl|rfl|rfl<;>rfl⟩
 split
 ·exact⟨rfl,by intro x hx;simp[aY,u32]at hx;rcases hx with rfl|rfl|rfl<;>rfl⟩
 exact⟨rfl,by intro x hx;simp[u32]at hx;rcases hx with rfl|rfl|rfl<;>rfl⟩
theorem lH(h:cv kp K ord af tr C){r:Nat}(hr:r<4294967296):Rd zQ 44 #[ptr kp,u32 r] C (· =.bool (fg K.N r)):=by
 obtain⟨b,rfl,hb⟩:=h;refine aS λg=>HF (Nil.ptr (Ld.f ?_));refine aa.eq (Lf hb.ar hr) (Ext.two λb8 _=>(St.whole (r:=got K.N r) (by exact .head _) rfl (aF _ _).1 (aF _ _).2 ?_));refine ae.kH (bX.mk .tail ?_);cases fg K.N r<;>rfl
theorem lF(h:cv kp K ord af tr C){r:Nat}(hr:r<4294967296):Rd zQ 45 #[ptr kp,u32 r] C (· =.agg (got K.N r).toArray):=by
 obtain⟨b,rfl,hb⟩:=h;refine aS λg=>HE λb1 _=>?_;refine Nil.ptr (Ld.f ?_);refine aa.eq (Lf hb.ar hr) (Ext.two λb10 _=>(St.whole (r:=got K.N r) (by exact .head _) rfl (aF _ _).1 (aF _ _).2 ?_));refine av.whole (r:=got K.N r) (by exact .head _) (aF _ _).1 ?_;refine St.whole (r:=got K.N r) (by exact .tail (.head _)) rfl (aF _ _).1 (aF _ _).2 ?_;refine av.whole (r:=got K.N r) (by exact .tail _ (.head _)) (aF _ _).1 ?_;exact bX.mk (.skip .tail) rfl
theorem x9(h:cv kp K ord af tr C){m:Nat}(hm:m<=1099511627776)(hu:K.used<=1048576):Rd zQ 138 #[ptr kp,iv (m:Int)] C (· =.bool (decide (K.used+m<=K.cap))):=by
 obtain⟨b,rfl,hb⟩:=h;refine aS λg=>CB (DR.self (Nil.ptr (Ld.f ?_)));refine Nil.ptr (Ld.f ?_);refine aa.eq (zj hb.ar) (⟨.refl _,?_⟩);refine ae.fE (aa.eq (sV hb.ar) (⟨.refl _,?_⟩));exact ae.wZ (bX.mk (.refl _) rfl)
def qc(K:Kd)(r:Nat):zL:=if r<2 then K.us else K.us.set r (K.use r+1)
theorem gH(r:Nat):(qc K r).length=K.us.length:=by unfold qc;split<;>simp
theorem kU{r:Nat}(h2:2<=r)(hr:r<K.us.length):(qc K r).getD r 0=K.use r+1:=by
 unfold qc;rw[xad zO];simp[List.getD,hr]
theorem rB{r s:Nat}(h:s≠r):(qc K r).getD s 0=K.use s:=by
 unfold qc Kd.use;split
 ·rfl
 simp[List.getD,xbA (xbp h)]
theorem An(h:cv kp K ord af tr C){r:Nat}(hr:r<2\/r<K.us.length)(hb:K.use r+1<2147483648):
  Fc zQ 163 #[ptr kp,u32 r] C (λv C'=>v=.tuple #[]/\cv kp {K with us:=qc K r} ord af tr C'):=by
 obtain⟨b,rfl,hO⟩:=h;refine aS λg=>Cc (ae.kG (b:=1) (Br.dec (λh1=>?_) (λh1=>?_)))
 ·have hr':r<K.us.length:=by omega
  refine Nil.ptr (Ld.f ?_);refine hO.us.ld (x:=((K.use r:Nat):Int)) (bc hr') (aU.sub (.cons (.app (.app .left)))) (ae.inc (hO.us.jW (.cons (.app (.app .left))) (by simpa using hr') λC' ho=>?_));refine aN.here ⟨rfl,{b with CU:=C'},rfl,?_⟩;have e:qc K r=K.us.set r (K.use r+1):=by unfold qc;rw[xad zO]
  exact {hO with us:=by rw[er]at ho;rw[e];exact ho,ul:=by simp only[e,xbG];exact hO.ul}
 refine aN.here ⟨rfl,b,rfl,?_⟩;have e:qc K r=K.us:=by unfold qc;rw[xae zO]
 rw[e];exact hO
end
end
end Go.Proofs
