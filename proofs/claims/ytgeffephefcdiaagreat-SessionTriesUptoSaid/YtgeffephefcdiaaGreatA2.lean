import Derived.Test.YtgeffephefcdiaaGreatA1
import Derived.Laws.StructEq
import Derived.ChangeKeysEq
import Derived.Defers
import Derived.Test.YtgeffephefcdiaaGreatProg
set_option linter.unusedVariables false
set_option linter.unusedSimpArgs false
set_option linter.unusedSectionVars false
namespace Go.Sx
open Go
section
variable {P:Program} {g:Gh} {H:Hp}
def wH(P:Program)(t:TypeId)(x y:zV):Prop:=
 (∃q a b,P.underlying t=some (.int q)/\x=.int q a/\y=.int q b)\/(∃a b,P.underlying t=some .bool/\x=.bool a/\y=.bool b)
theorem wH.eq{t:TypeId}{x y:zV}(h:wH P t x y)(d:Nat)(w:World):∃b,(Op.equalIn (d+1) t x y).run P w=.ok b w/\(b=true↔x=y):=by
 rcases h with⟨q,a,b,hu,rfl,rfl⟩|⟨a,b,hu,rfl,rfl⟩
 ·exact⟨a==b,by simp[Op.equalIn,run_underlying hu],by simp⟩
 exact⟨a==b,by simp[Op.equalIn,run_underlying hu],by simp⟩
theorem pY{t:TypeId}{xs:Array zV}{o:Nat}{x:zV}(hu:(∃q,P.underlying t=some (.int q))\/P.underlying t=some .bool)(h:xs[o]? =some x)(w:World):(part t xs o).run P w=.ok x w:=by
 rcases hu with⟨q,hu⟩|hu<;>simp[part,isAgg,run_underlying hu,h]
theorem pD(d:Nat)(xs ys:Array zV)(w:World):∀fs:List Field,(∀f∈fs,f.name≠ "_" /\∃x y,xs[f.offset]? =some x/\ys[f.offset]? =some y/\wH P f.type x y)->
  ∃b,(Op.eqFields (d+1) xs ys fs).run P w=.ok b w/\(b=true↔∀f∈fs,xs[f.offset]? =ys[f.offset]?)
 | [],_=>⟨true,by simp[Op.eqFields],by simp⟩
 |f::fs,h=>by
  obtain⟨hn,x,y,hx,hy,hp⟩:=h f zI;obtain⟨b',ih,hb'⟩:=pD d xs ys w fs λg hg=>h g (by simp[hg]);have hu:(∃q,P.underlying f.type=some (.int q))\/P.underlying f.type=some .bool:=by
   rcases hp with⟨q,_,_,hu,_⟩|⟨_,_,hu,_⟩
   ·exact .inl ⟨q,hu⟩
   exact .inr hu
  obtain⟨b,hr,hb⟩:=hp.eq d w;have p1:=pY hu hx w;have p2:=pY hu hy w;cases b with
  |false=>
   refine⟨false,by simp[Op.eqFields,hn,p1,p2,hr],?_⟩;simp only[xaN,xak,forall_eq_or_imp,false_iff,hx,hy,xaq];exact λhh=>absurd (hb.2 hh.1) zD
  |true=>
   refine⟨b',by simp[Op.eqFields,hn,p1,p2,hr,ih],?_⟩;rw[hb'];simp only[xak,forall_eq_or_imp,hx,hy,xaq,hb.1 rfl,xcs]
theorem A1.flat{t:TypeId}{fs:Array Field}(ht:P.underlying t=some (.struct fs))(hp:P.stoodInHeld t=false){xs ys:Array zV}{p:Prop}[Decidable p]
 (h:∀f∈fs.toList,f.name≠ "_" /\∃x y,xs[f.offset]? =some x/\ys[f.offset]? =some y/\wH P f.type x y)(he:(∀f∈fs.toList,xs[f.offset]? =ys[f.offset]?)↔p):A1 P t (.agg xs) (.agg ys) (decide p):=by
 have e:P.fieldsOf t=fs:=by simp[Program.fieldsOf,ht]
 intro w;show(Op.equalIn (9998+1+1) t _ _).run P w=_;rw[run_equalIn_struct w (9998+1) t xs ys (by rw[e];exact ht) hp,e];obtain⟨b,hr,hb⟩:=pD (P:=P) 9998 xs ys w fs.toList h;rw[hr];congr 1;rw[xbR,hb,he,xaA]
theorem mi.flat{t:TypeId}{fs:Array Field}(ht:P.underlying t=some (.struct fs)){xs:Array zV}
 (h:∀f∈fs.toList,f.name≠ "_" /\∃x,xs[f.offset]? =some x/\wH P f.type x x):mi P t (.agg xs):=by
 intro b w;have gen:∀d,(Instr.checkKey b (d+1+1) t (.agg xs)).run P w=.ok () w:=by
  intro d;unfold Instr.checkKey;simp only[Sem.run_bind,run_underlying ht,Result.andThen_ok];rw[<-Array.forIn_toList];clear ht;generalize fs.toList=l at h;induction l with
  |nil=>simp
  |cons f l ih=>
   obtain⟨hn,x,hx,hp⟩:=h f zI;have hu:(∃q,P.underlying f.type=some (.int q))\/P.underlying f.type=some .bool:=by
    rcases hp with⟨q,_,_,hu,_⟩|⟨_,_,hu,_⟩
    ·exact .inl ⟨q,hu⟩
    exact .inr hu
   have p1:=pY hu hx w;have p2:(Instr.checkKey b (d+1) f.type x).run P w=.ok () w:=by
    rcases hp with⟨q,a,_,hu,rfl,_⟩|⟨a,_,hu,rfl,_⟩
    ·simp only[Instr.checkKey,Sem.run_bind,run_underlying hu,Result.andThen_ok,Sem.run_pure]
    simp only[Instr.checkKey,Sem.run_bind,run_underlying hu,Result.andThen_ok,Sem.run_pure]
   have:=ih λg hg=>h g (by simp[hg]);simp only[xev,Sem.run_bind];simp[hn,p1,p2];simpa using this
 exact gen 9998
theorem kP(n:Nat){xs:Array zV}(h:∀x∈xs.toList,(∃q a,x=.int q a)\/∃a,x=.bool a):Instr.sameBits (n+1+1) (.agg xs) (.agg xs)=true:=by
 simp only[Instr.sameBits,xep,xcq,xc2];intro x hx;obtain⟨a,b⟩:=x;have h1:=xdC hx;have e:a=b:=by
  obtain⟨i,hi,he⟩:=xba.1 hx;simp at he;exact he.1.symm.trans he.2
 subst e;rcases h a h1.1 with⟨q,z,rfl⟩|⟨z,rfl⟩<;>simp[Instr.sameBits]
end
section
variable {κ:Type} [DecidableEq κ] {β:Type} {ke:κ->zV} {vr:zV->β->Prop} {es:Array MapEntry} {ck b:Nat} {m:List (κ×β)} {P:Program} {H:Hp}
def ia(m:List (κ×β))(k:κ):List (κ×β):=m.filter λy=>¬y.1=k
theorem yl{k k':κ}:aK (ia m k) k'=if k'=k then none else aK m k':=by
 unfold aK ia;rw[List.find?_filter];by_cases e:k'=k
 ·rw[xae e];rw[xcP.2]
  ·rfl
  intro x _;simp;intro h1 h2;exact h1 (h2.trans e)
 rw[xab e];congr 1;congr 1
 funext y
 by_cases e2:y.1=k'
 ·have:¬y.1=k:=λe3=>e (e2.symm.trans e3);simp[e2,this,e]
 simp[e2]
theorem bJ{k k':κ}{x:β}:aK (dZ m k x) k'=if k'=k then some x else aK m k':=by
 unfold aK dZ;by_cases hk:k∈m.map Prod.fst
 ·rw[xae hk];by_cases e:k'=k
  ·subst e;rw[xae rfl];induction m with
   |nil=>simp at hk
   |cons y m ih=>
    rw[xaB,xbv];by_cases ey:y.1=k'
    ·simp[ey]
    rw[xab ey];simp only[ey,xdn];rw[ih];rw[xaB]at hk;rcases xak.1 hk with h|h
    ·exact absurd h.symm ey
    simpa using h
  rw[xab e];have:∀l:List (κ×β),(List.find? (λy=>decide (y.1=k')) (l.map λy=>if y.1=k then(k,x)else y)).map Prod.snd=(List.find? (λy=>decide (y.1=k')) l).map Prod.snd:=by
   intro l;induction l with
   |nil=>rfl
   |cons y l ih=>
    rw[xaB,xbv,xbv];by_cases ey:y.1=k
    ·have h1:decide (k=k')=false:=by simpa using λh=>e h.symm
     have h2:decide (y.1=k')=false:=by rw[ey];exact h1
     simp only[xae ey,h1,h2];exact ih
    simp only[xab ey];cases decide (y.1=k')with
    |true=>rfl
    |false=>exact ih
  exact this m
 rw[xab hk];rw[List.find?_append];by_cases e:k'=k
 ·subst e;have:List.find? (λy=>decide (y.1=k')) m=none:=by
   rw[xcP];intro y hy;simp;intro h;exact hk (xao.2 ⟨y,hy,h⟩)
  simp[this]
 have:¬k=k':=λh=>e h.symm;rw[xab e];cases List.find? (λy=>decide (y.1=k')) m<;>simp[this]
theorem vp(nd:(m.map Prod.fst).Nodup){i:Nat}{k:κ}{y:β}(hi:m[i]? =some (k,y)):ia m k=m.eraseIdx i:=by
 unfold ia;induction m generalizing i with
 |nil=>simp at hi
 |cons z m ih=>
  rw[xaB,xaV]at nd;cases i with
  |zero=>
   simp at hi;subst hi;rw[List.eraseIdx_cons_zero,List.filter_cons_of_neg zI];rw[xcg];intro w hw;simp only[decide_not,xbE,xbq];intro e;exact nd.1 (xao.2 ⟨w,hw,e⟩)
  |succ i=>
   simp at hi;have hz:¬z.1=k:=λe=>nd.1 (xao.2 ⟨_,xaw hi,e.symm⟩);rw[List.eraseIdx_cons_succ,List.filter_cons_of_pos (by simpa using hz),ih nd.2 hi]
omit [DecidableEq κ] in
theorem aE.less(h:aE ke vr es ck m)(i:Nat):aE ke vr (es.eraseIdxIfInBounds i) ck (m.eraseIdx i):=by
 have hl:(es.eraseIdxIfInBounds i).toList=es.toList.eraseIdx i:=by
  unfold Array.eraseIdxIfInBounds;split
  ·simp
  rename_i hh;rw[List.eraseIdx_of_length_le (by simpa using hh)]
 refine⟨?_,λj e x he hx=>?_,?_,?_,λe he=>?_⟩
 ·have:=xce List.length hl;rw[xcf,List.length_eraseIdx]at this;rw[this,List.length_eraseIdx,xcf,h.len]
 ·rw[<-xbc,hl,List.getElem?_eraseIdx]at he;rw[List.getElem?_eraseIdx]at hx;split at he
  ·rename_i hh;rw[xae hh]at hx;exact h.key j e x (by simpa using he) hx
  rename_i hh;rw[xab hh]at hx;exact h.key (j+1) e x (by simpa using he) hx
 ·rw[<-gT];exact h.nd.sublist (xdU _ _)
 ·rw[hl,<-gT];exact h.born.sublist (xdU _ _)
 rw[hl]at he;exact h.lt e (List.mem_of_mem_eraseIdx he)
theorem aE.agu{P:Program}{kt:TypeId}{k:κ}{K:Hp->Prop}(hk:∀a b,A1 P kt (ke a) (ke b) (decide (a=b)))(hc:∀a,mi P kt (ke a))(h:aE ke vr es ck m)(hm:(b,Obj.map es ck)∈H)
 (h1:∀es',aE ke vr es' ck (ia m k)->∃H',c6 b (.map es ck) (.map es' ck) H H'/\K H'):rF P kt H (.map (some b)) (ke k) K:=by
 refine⟨hc k,.inr ?_⟩;rcases h.Dl hk k with⟨i,y,e,g1,g2,g3,g4⟩|⟨g1,g2⟩
 ·refine⟨b,es,ck,_,rfl,g4,?_⟩;have:=h.less i;rw[<-vp h.nd g2]at this;exact h1 _ this
 refine⟨b,es,ck,_,rfl,g2,hm,?_⟩;have e:ia m k=m:=by
  unfold ia;rw[xcg];intro w hw;simp only[decide_not,xbE,xbq];intro e;exact g1 (xao.2 ⟨w,hw,e⟩)
 obtain⟨H',hu,hK⟩:=h1 es (by rw[e];exact h);have:∀{H H':Hp},c6 b (.map es ck) (.map es ck) H H'->H'=H:=by
  intro H H' hu;generalize ho:Obj.map es ck=o at hu;induction hu with
  |head R=>rfl
  |tail _ ih=>rw[ih]
 rw[this hu]at hK;exact hK
end
section
variable {P:Program} {H:Hp}
theorem aV.KG{T:TypeId}{k:Nat}{v:zV}{rs:List (List zV)}{C:Hp}(hs:aV T k v rs C){i:Nat}{kd:IntKind}{r:List zV}(hr:rs[i]? =some r)(hC:∀y∈C,y∈H){K:zV->Prop}(hk:K (.agg r.toArray)):
  au k v (.int kd (i:Int)) λp=>ay k H p K:=by
 have hi:=(xah.1 hr).1;obtain⟨b',aJ,rfl,rfl,aH⟩:=hs.pos zO;exact au.nat hi (ay.row (hC _ (List.Mem.head _)) aH (by rw[xaW hi];exact hr) hk)
theorem aV.X7{T:TypeId}{k:Nat}{v x:zV}{rs:List (List zV)}{C:Hp}(hs:aV T k v rs C){i j:Nat}{kd:IntKind}{r:List zV}(hr:rs[i]? =some r)(hj:r[j]? =some x)(hC:∀y∈C,y∈H){K:zV->Prop}(hk:K x):
  au k v (.int kd (i:Int)) λp=>ai j p λq=>Ld H q K:=by
 have hi:=(xah.1 hr).1;obtain⟨b',aJ,rfl,rfl,aH⟩:=hs.pos zO;exact au.nat hi (ai.mk (Ld.row (hC _ (List.Mem.head _)) aH (by rw[xaW hi];exact hr) hj hk))
theorem aV.WK{T:TypeId}{v x:zV}{rs:List (List zV)}{C:Hp}(hs:aV T 1 v rs C){i:Nat}{kd:IntKind}(hr:rs[i]? =some [x])(hC:∀y∈C,y∈H){K:zV->Prop}(hk:K x):
  au 1 v (.int kd (i:Int)) λp=>Ld H p K:=by
 have hi:=(xah.1 hr).1;obtain⟨b',aJ,rfl,rfl,aH⟩:=hs.pos zO;exact au.nat hi (Ld.aaB (l:=rs++aJ) (hC _ (List.Mem.head _)) aH (by rw[xaW hi];exact hr) hk)
theorem aV.X6{T:TypeId}{k n:Nat}{v:zV}{rs:List (List zV)}{C:Hp}(hs:aV T k v rs C){i:Nat}{kd:IntKind}{r:List zV}(hr:rs[i]? =some r)(hn:0<n/\n<=k)(hC:∀y∈C,y∈H){K:zV->Prop}(hk:K (.agg (r.take n).toArray)):
  au k v (.int kd (i:Int)) λp=>ai 0 p λq=>ay n H q K:=by
 have hi:=(xah.1 hr).1;obtain⟨b',aJ,rfl,rfl,aH⟩:=hs.pos zO;have CI:r.length=k:=aH r (xad _ (xaw hr));refine au.nat hi (ai.mk ?_);have Be:At H (.pointer (some ⟨b',0+i*k+0,none⟩)) (r.take n):=⟨b',_,_,_,_,rfl,hC _ (List.Mem.head _),λj x hj=>by
  have Tn:j<n:=by have:=(xah.1 hj).1;simp at this;omega
  rw[List.getElem?_take,xae Tn]at hj;rw[xcw,xa3,iM aH zO,xaW hi,hr];exact hj⟩
 exact ay.at Be zP hn.1 (λ_ h=>h) hk
theorem Mj{k:Nat}{l:List (List zV)}(h:∀r∈l,r.length=k){i:Nat}{r xs:List zV}(hi:l[i]? =some r)(hx:xs.length<=k):jR (rows l) (i*k) xs=rows (l.set i (xs++r.drop xs.length)):=by
 have hlt:=(xah.1 hi).1;have hr:=h r (xaw hi);have key:∀(xs:List zV) (j:Nat) (l:List (List zV)) (r:List zV),(∀r∈l,r.length=k)->l[i]? =some r->j+xs.length<=k->jR (rows l) (i*k+j) xs=rows (l.set i (r.take j++xs++r.drop (j+xs.length))):=by
  intro xs;induction xs with
  |nil=>
   intro j l r h hi _;have hlt:=(xah.1 hi).1;simp only[jR,xaL,xch,xcw,xbr];congr 1;apply xbd;intro m;rw[xbo];by_cases e:i=m
   ·subst e;rw[xae rfl,hi,xae hlt]
   rw[xab e]
  |cons x xs ih=>
   intro j l r h hi hj;have hr:=h r (xaw hi);have hlt:=(xah.1 hi).1;simp only[xay]at hj;rw[jR,pc h hi zO,xcU];rw[ih (j+1) (l.set i (r.set j x)) (r.set j x) (λy hy=>by
    rcases xci hy with hy|rfl
    ·exact h y hy
    simpa using hr) (by simp[hlt]) zO]
   rw[List.set_set];congr 2;have e1:(r.set j x).take (j+1)=r.take j++[x]:=by
    rw[xc0,xae zO,xer];simp[List.take_take,show min (j+1) j=j by omega,show j+1-min j r.length=1 by omega]
   have e2:(r.set j x).drop (j+1+xs.length)=r.drop (j+(x::xs).length):=by
    rw[List.drop_set,xae zO];congr 1;simp;omega
   rw[e1,e2];simp
 have:=key xs 0 l r h hi zO;simpa using this
theorem aV.Uk{T:TypeId}{k n:Nat}{v:zV}{rs:List (List zV)}{C A B:Hp}(hs:aV T k v rs C){i:Nat}{kd:IntKind}{r xs:List zV}(hr:rs[i]? =some r)(hx:xs.length=n/\n<=k)(h1:∀x∈xs,x.oneCell'=true){K:Hp->Prop}
 (hk:∀C',aV T k v (rs.set i (xs++r.drop n)) C'->K (A++(C'++B))):au k v (.int kd (i:Int)) λp=>ai 0 p λq=>St n (A++(C++B)) q (.agg xs.toArray) K:=by
 have hi:=(xah.1 hr).1;obtain⟨b',aJ,rfl,rfl,aH⟩:=hs.pos zO;refine au.nat hi (ai.mk ?_);have hg:(rs++aJ)[i]? =some r:=by rw[xaW hi];exact hr
 have e:(rs++aJ).set i (xs++r.drop xs.length)=rs.set i (xs++r.drop n)++aJ:=by rw[xcZ _ _ hi,hx.1]
 refine St.mk (c':=rows (rs.set i (xs++r.drop n)++aJ)) (H':=A++([(b',.cells (rows (rs.set i (xs++r.drop n)++aJ)) T (0,0))]++B)) (((c6.head _).append B).ca A) (by simpa[Value.cells]using hx.1) ?_ (by simpa[Value.cells]using h1) ?_ ?_
 ·rw[bR aH,xa3,xcw,xaf];have:=xaY k (xcI hi);rw[xbu]at this;have h2:rs.length*k<=(rs.length+aJ.length)*k:=xaY k zO;omega
 ·simp only[Value.cells,xa3,xcw];rw[Mj aH hg zO,e]
 have CI:r.length=k:=aH r (xad _ (xaw hr));refine hk _ (aV.mk' (aJ:=aJ) (λy hy=>?_) zI zI);rcases xan.1 hy with hy|hy
 ·rcases xci hy with hy|rfl
  ·exact aH y (xad _ hy)
  simp;omega
 exact aH y (xac _ hy)
theorem aV.P7{T:TypeId}{k:Nat}{v:zV}{rs:List (List zV)}{C A B:Hp}(hs:aV T k v rs C){i:Nat}{kd:IntKind}{xs:List zV}(hi:i<rs.length)(hx:xs.length=k)(h1:∀x∈xs,x.oneCell'=true){K:Hp->Prop}
 (hk:∀C',aV T k v (rs.set i xs) C'->K (A++(C'++B))):au k v (.int kd (i:Int)) λp=>St k (A++(C++B)) p (.agg xs.toArray) K:=by
 obtain⟨b',aJ,rfl,rfl,aH⟩:=hs.pos zO;refine au.nat hi (St.row (l:=rs++aJ) (((c6.head _).append B).ca A) aH zP hx h1 ?_);have e:(rs++aJ).set i xs=rs.set i xs++aJ:=by rw[xcZ _ _ hi]
 rw[e];refine hk [(b',_)] (aV.mk' (aJ:=aJ) (λy hy=>?_) zI zI);rcases xan.1 hy with hy|hy
 ·rcases xci hy with hy|rfl
  ·exact aH y (xad _ hy)
  exact hx
 exact aH y (xac _ hy)
theorem aQ.ld{T:TypeId}{kd xF:IntKind}{v:zV}{l:List Int}{C:Hp}(hs:aQ T kd v l C){i:Nat}{x:Int}(hx:l[i]? =some x)(hC:∀y∈C,y∈H){K:zV->Prop}(hk:K (.int kd x)):au 1 v (.int xF (i:Int)) λp=>Ld H p K:=
 aV.WK hs (x:=.int kd x) (by simp[hx]) hC hk
theorem aQ.put{T:TypeId}{kd xF:IntKind}{v:zV}{l:List Int}{C A B:Hp}(hs:aQ T kd v l C){i:Nat}{x:Int}(hi:i<l.length){K:Hp->Prop}
 (hk:∀C',aQ T kd v (l.set i x) C'->K (A++(C'++B))):au 1 v (.int xF (i:Int)) λp=>St 1 (A++(C++B)) p (.int kd x) K:=by
 have hi':i<(l.map λn=>[Value.int kd n]).length:=by simpa using hi
 obtain⟨b',aJ,rfl,rfl,aH⟩:=aV.pos hs zO;refine au.nat hi' ?_;refine St.cell (l:=l.map (λn=>[Value.int kd n])++aJ) (i:=i) (k:=1) (j:=0) (r:=[.int kd l[i]]) (((c6.head _).append B).ca A) aH (by rw[xaW hi'];simp[hi]) zO rfl ?_;have e:(l.map (λn=>[Value.int kd n])++aJ).set i ([Value.int kd l[i]].set 0 (.int kd x))=(l.set i x).map (λn=>[Value.int kd n])++aJ:=by
  rw[xcZ _ _ hi',xcQ];rfl
 rw[e];refine hk [(b',_)] (aV.mk' (aJ:=aJ) (λr hr'=>?_) zI zI);rcases xan.1 hr' with hr'|hr'
 ·obtain⟨y,_,rfl⟩:=xao.1 hr';rfl
 exact aH r (xac _ hr')
theorem aM.nil{H:Hp}:aM H []:=λ_ _ h=>h.bt
theorem aV.cut{T:TypeId}{k i:Nat}{v:zV}{rs:List (List zV)}{C:Hp}(hs:aV T k v rs C)(hi:i<=rs.length){kd:IntKind}{K:zV->Prop}(hk:∀v',aV T k v' (rs.take i) C->K v'):
  gw k v none (some (.int kd (i:Int))) K:=by
 by_cases hp:0<rs.length
 ·obtain⟨b',aJ,rfl,rfl,aH⟩:=hs.pos hp;refine gw.upto zO (hk _ ?_);have e:rs++aJ=rs.take i++(rs.drop i++aJ):=by rw[<-xai,xbr]
  rw[e]at aH⊢;exact aV.mk' aH zP zP
 obtain rfl:rs=[]:=xbT zO;obtain rfl:i=0:=by simpa using hi
 obtain⟨a,c,rfl⟩:=hs.len;exact gw.upto (xaO _) (hk _ (by simpa using hs))
theorem aQ.cut{T:TypeId}{kd xF:IntKind}{i:Nat}{v:zV}{l:List Int}{C:Hp}(hs:aQ T kd v l C)(hi:i<=l.length){K:zV->Prop}(hk:∀v',aQ T kd v' (l.take i) C->K v'):
  gw 1 v none (some (.int xF (i:Int))) K:=
 aV.cut hs (by simpa using hi) λv' h=>hk v' (by unfold aQ;rw[List.map_take];exact h)
end
end Go.Sx
namespace Go.Sx
open Go
section
variable {P:Program} {H C:Hp} {c:Hp->Hp}
theorem bG.split(h:bG C H c):∃A B,∀X,c X=A++(X++B):=by
 induction h with
 |here=>exact⟨[],[],λX=>by simp⟩
 | @left A=>exact⟨[],A,λX=>rfl⟩
 | @cons x H c h ih=>
  obtain⟨A,B,e⟩:=ih;exact⟨x::A,B,λX=>by show x::c X=_;rw[e];rfl⟩
 | @app A' H c h ih=>
  obtain⟨A,B,e⟩:=ih;exact⟨A'++A,B,λX=>by show A'++c X=_;rw[e,xai]⟩
theorem bG.sub(h:bG C H c):∀x∈C,x∈H:=λx hx=>by
 obtain⟨A,B,e⟩:=h.split;rw[h.spec.1,e];exact xac _ (xad _ hx)
theorem aV.rB{elem k bytes:Nat}{zero:zV}{v:zV}{rs:List (List zV)}(h:aV elem k v rs C)(hh:bG C H c){xb:Nat}{r:List zV}{xT:TypeId}{fz:Nat×Nat}{xc:Nat}
 (hx:(xb,Obj.cells r.toArray xT fz)∈H)(hr:r.length=k)(h1:∀u∈r,u.oneCell'=true)(hz:∃z:List zV,zero.cells=z.toArray/\z.length=k)
 (hb:(rs.length+1)*bytes<=140737488355328)(cA:rs.length+1<=9223372036854775807){K:zV->Hp->Prop}
 (hk:∀v' C',aV elem k v' (rs++[r]) C'->K v' (c C')):App P elem k bytes zero H v (.slice (some ⟨xb,0,none⟩) 1 xc) K:=by
 obtain⟨A,B,e⟩:=hh.split;have e2:=hh.spec.1;rw[e]at e2;subst e2;exact h.Gg hx hr h1 hz hb cA λv' C' ho=>by have:=hk v' C' ho;rwa [e]at this
theorem aQ.rB{T:TypeId}{kd:IntKind}{v:zV}{l:List Int}{bytes:Nat}(h:aQ T kd v l C)(hh:bG C H c){xb xc:Nat}{x:Int}{xT:TypeId}{fz:Nat×Nat}(hx:(xb,Obj.cells (ax kd [x]) xT fz)∈H)
 (hb:(l.length+1)*bytes<=140737488355328)(hm:l.length+1<=9223372036854775807){K:zV->Hp->Prop}(hk:∀v' C',aQ T kd v' (l++[x]) C'->K v' (c C')):App P T 1 bytes (.int kd 0) H v (.slice (some ⟨xb,0,none⟩) 1 xc) K:=by
 obtain⟨A,B,e⟩:=hh.split;have e2:=hh.spec.1;rw[e]at e2;subst e2;exact h.app hx hb hm λv' C' ho=>by have:=hk v' C' ho;rwa [e]at this
theorem aQ.Xr{T:TypeId}{kd:IntKind}{v x:zV}{l l2:List Int}{bytes:Nat}(h:aQ T kd v l C)(hh:bG C H c)(hx:dA kd H x l2)
 (hb:(l.length+l2.length)*bytes<=140737488355328)(hm:l.length+l2.length<=9223372036854775807){K:zV->Hp->Prop}(hk:∀v' C',aQ T kd v' (l++l2) C'->K v' (c C')):App P T 1 bytes (.int kd 0) H v x K:=by
 obtain⟨A,B,e⟩:=hh.split;have e2:=hh.spec.1;rw[e]at e2;subst e2;exact h.apps hx hb hm λv' C' ho=>by have:=hk v' C' ho;rwa [e]at this
theorem aQ.nj{T:TypeId}{kd xF:IntKind}{v:zV}{l:List Int}(hs:aQ T kd v l C)(hh:bG C H c){i:Nat}{x:Int}(hi:i<l.length){K:Hp->Prop}
 (hk:∀C',aQ T kd v (l.set i x) C'->K (c C')):au 1 v (.int xF (i:Int)) λp=>St 1 H p (.int kd x) K:=by
 obtain⟨A,B,e⟩:=hh.split;have e2:=hh.spec.1;rw[e]at e2;subst e2;exact hs.put hi λC' ho=>by have:=hk C' ho;rwa [e]at this
theorem aQ.one{T:TypeId}{kd:IntKind}{v:zV}{l:List Int}(h:aQ T kd v l C):v.oneCell'=true:=by obtain⟨a,c,e⟩:=aV.len h;rw[e];rfl
theorem fj(l:zL)(i x:Nat):(iw l).set i (x:Int)=iw (l.set i x):=by unfold iw;rw[xcQ]
theorem cj(a b:zL):iw (a++b)=iw a++iw b:=by unfold iw;rw[xaJ]
theorem bH{l:zL}{i:Nat}(h:i<l.length):(iw l)[i]? =some ((l.getD i 0:Nat):Int):=by
 rw[dg (xaa h)];simp[List.getD,xaa h]
end
end Go.Sx
namespace Go.Sx
open Go
theorem lB{p:Nat->Prop}(h:∃k,p k):∃k,p k/\∀j,p j->k<=j:=by
 obtain⟨k,hk⟩:=h;induction k using Nat.strongRecOn with
 |_ k ih=>
  by_cases e:∃j,j<k/\p j
  ·obtain⟨j,hj,hp⟩:=e;exact ih j hj hp
  exact⟨k,hk,λj hp=>xc4 λhlt=>e ⟨j,hlt,hp⟩⟩
open Classical in
noncomputable def nO(J:Nat->List zV->Hp->Prop)(vs:List zV)(H:Hp):Nat:=if h:∃k,J k vs H then Classical.choose (lB h)else 0
theorem MJ{J:Nat->List zV->Hp->Prop}{vs:List zV}{H:Hp}{k:Nat}(h:J k vs H):nO J vs H<=k:=by
 unfold nO;rw[xd8 ⟨k,h⟩];exact(xcz (lB ⟨k,h⟩)).2 k h
theorem Cr{J:Nat->List zV->Hp->Prop}{vs:List zV}{H:Hp}(h:∃k,J k vs H):J (nO J vs H) vs H:=by
 unfold nO;rw[xd8 h];exact(xcz (lB h)).1
def oc(J:Nat->List zV->Hp->Prop):List zV->Hp->Prop:=λvs H=>∃k,J k vs H
theorem oc.open{J:Nat->List zV->Hp->Prop}{vs:List zV}{H:Hp}(h:oc J vs H):∃k,J k vs H/\k=nO J vs H:=⟨_,Cr h,rfl⟩
theorem oc.mk{J:Nat->List zV->Hp->Prop}{vs:List zV}{H:Hp}(k:Nat)(h:J k vs H):JE (oc J) vs H:=JE.mk ⟨k,h⟩
theorem oc.back{J:Nat->List zV->Hp->Prop}{vs vs':List zV}{H H' H0:Hp}{k:Nat}(e:aM H H')(hk:k=nO J vs H0)(k':Nat)(h:J k' vs' H')(hlt:k'<k):aC (oc J) (nO J) vs' H vs H0:=
 aC.of e ⟨k',h⟩ (xaC (MJ h) zO)
theorem aaQ{vs:List zV}{H:Hp}{Q:(List zV->Hp->Prop)->(List zV->Hp->Nat)->Prop}(J:Nat->List zV->Hp->Prop)(k:Nat)(h:J k vs H)(hq:Q (oc J) (nO J)):
  ∃(I:List zV->Hp->Prop) (m:List zV->Hp->Nat),JE I vs H/\Q I m:=⟨_,_,oc.mk k h,hq⟩
section
variable {P:Program} {H:Hp}
theorem av.QL{t e:Nat}{kd:IntKind}{x y:Int}{K:zV->Hp->Prop}(h1:P.underlying t=some (.slice e))(h2:dI P e=some 1)(h3:fJ P e=some (.int kd 0))
 (h:∀b,K (.slice (some ⟨b,0,Option.none⟩) 2 2) ((b,.cells (ax kd [x,y]) e (0,0))::H)):av P t 2 [(0,.int kd x),(1,.int kd y)] H K:=by
 refine⟨ax kd [x,y],e,1,_,h1,h2,h3,by decide,?_,λb _=>h b⟩;have e1:Array.range (2*1)=#[0,1]:=rfl;simp[Instr.fill,Value.cells,ax,e1]
theorem Ml(kd:IntKind)(l:List Int):rows (l.map λn=>[Value.int kd n])=ax kd l:=by
 unfold rows ax;congr 1;induction l with
 |nil=>rfl
 |cons x l ih=>rw[xaB,xcX,ih];rfl
theorem aQ.made{T:TypeId}{kd:IntKind}{b:Nat}(l:List Int):aQ T kd (.slice (some ⟨b,0,none⟩) l.length l.length) l [(b,.cells (ax kd l) T (0,0))]:=by
 have:=aV.mk' (T:=T) (k:=1) (b:=b) (n:=l.length) (c:=l.length) (rs:=l.map λn=>[Value.int kd n]) (aJ:=[]) (λr hr=>by
  rw[xaL]at hr;obtain⟨x,_,rfl⟩:=xao.1 hr;rfl) zI zI
 rw[xaL,Ml]at this;exact this
end
end Go.Sx
namespace Go.Sx
open Go
section
variable {P:Program} {g:Gh}
structure O5 where
 f:FuncId
 l:List zV
def kL(P:Program)(g:Gh)(f:FuncId)(args:Array zV)(H:Hp)(R:Ending->Hp->Prop):Prop:=
 ∀w,Own g H w->∀u,CallsD P f args u w λe u' w'=>u'=u/\∃H',Own g H' w'/\R e H'
def j3(P:Program)(g:Gh)(f:FuncId)(args:Array zV)(H:Hp)(K:Hp->Prop):Prop:=kL P g f args H λe H'=>(∃v,e=.returned v)/\K H'
def Pe(P:Program)(g:Gh)(K:Hp->Prop):List O5->Hp->Prop
 | [],H=>K H
 |x::r,H=>j3 P g x.f x.l.toArray H (Pe P g K r)
def ZI(P:Program)(o:Oper)(ρ:Operand->zV)(k:O5->Prop):Prop:=
 match o.op with
 | .defer c=>match c.callee with
  | .value x=>match ρ x with
   | .func (.func f) first cap=>cond (aT P f) (k ⟨f,first.toList++(c.args.toList.map ρ++cap.toList)⟩) False
   |_=>False
  |_=>False
 |_=>False
def QK:Code->Option (Array Oper×Oper)
 | .region _ ops false=>match ops.toList.getLast? with
  |some o=>match o.op with
   | .defer _=>some (ops,o)
   |_=>none
  |none=>none
 |_=>none
def Sb(P:Program)(g:Gh)(fn:Func)(R:Ending->Hp->Prop)(dl:List O5):Exit->Fr->Hp->Prop
 | .normal,fr,H=>Pe P g (λH'=>uP P fr H' fn.results.toList λvs=>R (.returned (Ev vs)) H') dl H
 | .ret,fr,H=>Pe P g (λH'=>uP P fr H' fn.results.toList λvs=>R (.returned (Ev vs)) H') dl H
 |_,_,_=>False
def FR(P:Program)(g:Gh)(n:Nat)(E:List O5->Exit->Fr->Hp->Prop):Code->Hn->List O5->Fr->Hp->Prop
 | .seq x y,hn,dl,fr,H=>
  match QK x with
  |some (ops,o)=>cond (o.dst.isNone&&o.guard.isNone)
    (eS P g n ops false (ops.toList.length+1) false none [] ops.toList.dropLast fr H (λ_ fr' H'=>ZI P o (ev fr') λd=>FR P g n E y hn.b (d::dl) fr' H') (λ_ _=>False)) False
  |none=>match hn.m with
   |0=>den P g n x hn.a (By (FR P g n E y hn.b dl) (E dl)) fr H
   |_=>cond (UA x hn.I)
    (ac4 hn.L.length (λvs H'=>∀gs,FR P g n E y hn.b dl (mix hn.L vs hn.I fr gs) H') λJ=>den P g n x hn.a (By (λfr' H'=>JE J (Ef fr' hn.L) H') (E dl)) fr H) False
 |c,hn,dl,fr,H=>den P g n c hn (E dl) fr H
def Sg(P:Program)(g:Gh)(fn:Func)(hn:Hn)(args:List zV)(H:Hp)(R:Ending->Hp->Prop):Prop:=
 match fn.body with
 |some c=>cond (Nat.ble args.length fn.ntmps) (FR P g fn.ntmps (Sb P g fn R) c hn [] (gO args 0) H) False
 |none=>False
def NS:List PanicEntry->Hp->Prop:=λ_ _=>∀_:Fr,False
def DOK(P:Program)(x:O5)(d:Deferred):Prop:=∃cap args,d={target:=.fn (.func x.f) cap,args:=args}/\args++cap=x.l.toArray/\aT P x.f=true
inductive JO(P:Program):List O5->List Deferred->Prop
 |nil:JO P [] []
 |cons {x d l ds} (h:DOK P x d) (hr:JO P l ds):JO P (x::l) (d::ds)
theorem uB{fn:Func}{tmps:Array zV}{K:Hp->Prop}{R:Ending->World->Prop}(hK:∀H w,Own g H w->K H->∃v,(results fn tmps).run P w=.ok v w/\R (.returned v) w):
  ∀{dl:List O5} {ds:List Deferred},JO P dl ds->∀H w,Own g H w->Pe P g K dl H->Leaves P fn tmps R ds .returning w
 |_,_,.nil,H,w,hw,h=>hK H w hw h
 |_,_,.cons ⟨cap,args,hd,ha,hc⟩ hr,H,w,hw,h=>by
  subst hd;refine leaves_cons zI ?_ ((h w hw .returning).mono ?_)
  ·show(callFunc _ (args++cap)).run P w=_;rw[ha];exact eA hc _ w
  rintro e u' w' ⟨rfl,H',ho,⟨v,rfl⟩,hk⟩;exact uB hK hr H' w' ho hk
theorem qc{fn:Func}{R:Ending->Hp->Prop}{n:Nat}{dl:List O5}{ds:List Deferred}(hd:JO P dl ds){e:Exit}{fr:Fr}{H:Hp}{a:Act}{w:World}(ha:cD ds n a fr)(hw:Own g H w)(h:Sb P g fn R dl e fr H):
  bodyPostD P fn (λe w'=>∃H',Own g H' w'/\R e H') e a w:=by
 have key:∀{H},Own g H w->Pe P g (λH'=>uP P fr H' fn.results.toList λvs=>R (.returned (Ev vs)) H') dl H->Leaves P fn a.tmps (λe w'=>∃H',Own g H' w'/\R e H') a.defers .returning w:=λhw h=>by
  rw[ha.defers];refine uB (λH w hw h=>?_) hd _ _ hw h;obtain⟨vs,hr,hk⟩:=iN ha hw h;exact⟨_,hr,H,hw,hk⟩
 cases e with
 |normal=>exact key hw h
 |ret=>exact key hw h
 |panic ch=>exact h.elim
 |exit id=>exact h.elim
 |goto l=>exact h.elim
 |outgrown=>exact h.elim
theorem Fk{c:Code}{ops:Array Oper}{o:Oper}(h:QK c=some (ops,o)):∃id d,c=.region id ops false/\ops.toList=ops.toList.dropLast++[o]/\o.op=.defer d:=by
 unfold QK at h;split at h
 ·rename_i id ops';split at h
  ·rename_i o' ho;split at h
   ·rename_i d hd;simp only[xaq,xdv]at h;obtain⟨rfl,rfl⟩:=h;refine⟨id,d,rfl,?_,hd⟩;obtain⟨hne,e⟩:=List.getLast?_eq_some_iff.1 ho;rw[e];simp
   cases h
  cases h
 cases h
theorem Tc{o:Oper}{fr:Fr}{k:O5->Prop}(h:ZI P o (ev fr) k):∃x d,k x/\DOK P x d/\∀w,(execOp (ev fr) o).run P w=.ok (.defer d) w:=by
 unfold ZI at h;split at h<;>try exact h.elim
 rename_i c hop;split at h<;>try exact h.elim
 rename_i x hc;split at h<;>try exact h.elim
 rename_i f first cap hx
 cases fN:aT P f<;>simp only[fN,xap,xag]at h;refine⟨_,{target:=.fn (.func f) cap,args:=first++c.args.map (ev fr)},h,⟨cap,_,rfl,?_,fN⟩,λw=>?_⟩
 ·apply xde;simp
 simp only[execOp,hop,resolve,hc,hx,Deferred.ofValue,Sem.run_bind,Sem.run_pure,Result.andThen_ok]
theorem FQ{n:Nat}{fn:Func}{R:Ending->Hp->Prop}:∀(c:Code) (hn:Hn) (dl:List O5) (fr:Fr) (H:Hp),FR P g n (Sb P g fn R) c hn dl fr H->∀(ds:List Deferred),JO P dl ds->∀(a:Act) (w:World),cD ds n a fr->Own g H w->
  c.wp P (bodyPostD P fn λe w'=>∃H',Own g H' w'/\R e H') a w:=by
 have plain:∀(c:Code) (hn:Hn) (dl:List O5) (fr:Fr) (H:Hp),den P g n c hn (Sb P g fn R dl) fr H->∀(ds:List Deferred),JO P dl ds->∀(a:Act) (w:World),cD ds n a fr->Own g H w->
   c.wp P (bodyPostD P fn λe w'=>∃H',Own g H' w'/\R e H') a w:=λc hn dl fr H h ds hd a w ha hw=>
  wp_mono (l5 c hn _ fr H h a w ha hw) λe a' w' ⟨fr',H',ef,eL,_,hq⟩=>qc hd ef eL hq
 intro c;induction c with
 |seq x y _ ih=>
  intro hn dl fr H h ds hd a w ha hw;unfold FR at h;split at h
  ·rename_i ops o hx;obtain⟨id,d,rfl,hl,hop⟩:=Fk hx;cases hc:(o.dst.isNone&&o.guard.isNone)<;>simp only[hc,xap,xag]at h;simp only[xav,Option.isNone_iff_eq_none]at hc;refine wp_seq (wp_region_list ?_);rw[hl];refine cL _ _ _ _ _ fr H _ _ h trivial (jg.nil fr) a w ha hw [o] _ ?_ ?_
   ·intro a' w' qm fr' H' ef eL _ _ hk;refine wpList_plain hc.2 λK hK=>?_;obtain⟨x,dd,hx,hok,hrun⟩:=Tc hk;show o.upon P a' K _ ((execOp a'.eval o).run P w');rw[ef.eval,hrun];refine hK _ _ ?_;refine ih _ _ fr' H' hx (dd::ds) (.cons hok hd) _ _ ?_ eL;rw[hc.1];exact⟨xce _ ef.defers,ef.size,ef.get⟩
   intro ch a' w' fr' H' _ _ hk;exact hk.elim
  split at h
  ·refine wp_seq (wp_mono (l5 x _ _ fr H h a w ha hw) ?_);rintro e a' w' ⟨fr',H',ef,eL,ho,hq⟩;cases e with
   |normal=>exact ih _ _ fr' H' hq ds hd a' w' ef eL
   |ret=>exact qc (e:=.ret) hd ef eL hq
   |exit id=>exact hq.elim
   |goto l=>exact hq.elim
   |panic ch=>exact hq.elim
   |outgrown=>exact hq.elim
  ·cases hno:UA x hn.I<;>simp only[hno,xap,xag]at h;have h':=h (λvs H'=>∀gs,FR P g n (Sb P g fn R) y hn.b dl (mix hn.L vs hn.I fr gs) H') (xk.intro (λvs H' hh=>hh) _);refine wp_seq (wp_mono (l5 x _ _ fr H h' a w ha hw) ?_);rintro e a' w' ⟨fr',H',ef,eL,ho,hq⟩;cases e with
   |normal=>
    obtain⟨Hj,vN,hq⟩:=hq;have hq':=hq fr';rw[vg λs hs=>ho rfl s (u7 hno s hs)]at hq';exact ih _ _ fr' Hj hq' ds hd a' w' ef (vN _ _ eL)
   |ret=>exact qc (e:=.ret) hd ef eL hq
   |exit id=>exact hq.elim
   |goto l=>exact hq.elim
   |panic ch=>exact hq.elim
   |outgrown=>exact hq.elim
 |_=>intro hn dl fr H h;exact plain _ hn dl fr H h
theorem QR{args:List zV}{m:Nat}(hle:args.length<=m):cD [] m {tmps:=args.toArray++Array.replicate (m-args.toArray.size) undef,defers:=[]} (gO args 0):=by
 refine⟨rfl,by simp;omega,λs=>?_⟩;rw[mO,xas,xdS];simp only[xcW,xcC,xa1,xc3];by_cases hs:s<args.length
 ·simp[hs,List.getD]
 rw[xab hs,xc1];have:args.getD s undef=undef:=by simp[List.getD,xaD (xc4 hs)]
 rw[this];split<;>rfl
theorem Du{f:FuncId}{fn:Func}{hn:Hn}{args:List zV}{H:Hp}{R:Ending->Hp->Prop}(hf:P.funcs[f]? =some fn)(h:Sg P g fn hn args H R):bC P g f args.toArray H R:=by
 intro w hw;unfold Sg at h;split at h<;>try exact h.elim
 rename_i c hc;cases hl:Nat.ble args.length fn.ntmps<;>simp only[hl,xap,xag]at h;exact calls_of_wp_defers hf hc (FQ c hn [] _ H h [] .nil _ w (QR (xcS hl)) hw)
theorem Dt{f:FuncId}{fn:Func}{hn:Hn}{args:List zV}{H:Hp}{R:Ending->Hp->Prop}(hf:P.funcs[f]? =some fn)(h:FV P g fn hn args H R):kL P g f args.toArray H R:=by
 intro w hw u;unfold FV at h;split at h<;>try exact h.elim
 rename_i c hc;cases hl:Nat.ble args.length fn.ntmps<;>simp only[hl,xap,xag]at h;refine callsD_of_wp hf hc (wp_mono (l5 c hn _ _ H h _ w (QR (xcS hl)) hw) ?_);rintro e a' w' ⟨fr',H',ef,eL,_,hq⟩;cases e with
 |normal=>obtain⟨vs,hr,hk⟩:=iN ef eL hq;exact⟨ef.defers,_,hr,H',eL,hk⟩
 |ret=>obtain⟨vs,hr,hk⟩:=iN ef eL hq;exact⟨ef.defers,_,hr,H',eL,hk⟩
 |panic ch=>exact⟨ef.defers,H',eL,hq⟩
 |exit id=>exact hq.elim
 |goto l=>exact hq.elim
 |outgrown=>exact hq.elim
abbrev Jt:=List zV->Hp->Prop
abbrev Mt:=List zV->Hp->Nat
abbrev Rt:=Ending->Hp->Prop
abbrev Hn.n(a b:Hn):Hn:=.h 0 [] [] a b
theorem cq{f:FuncId}{fn:Func}{hn:Hn}{args:List zV}{H:Hp}{R:Rt}{L:Prop}(hf:P.funcs[f]? =some fn)(h:L)(e:FV P g fn hn args H R=L):bC P g f args.toArray H R:=FU hf (e.mpr h)
theorem zZ{f:FuncId}{fn:Func}{hn:Hn}{args:List zV}{H:Hp}{R:Rt}{L:Prop}(hf:P.funcs[f]? =some fn)(h:L)(e:Sg P g fn hn args H R=L):bC P g f args.toArray H R:=Du hf (e.mpr h)
theorem z5{f:FuncId}{fn:Func}{hn:Hn}{args:List zV}{H:Hp}{R:Rt}{L:Prop}(hf:P.funcs[f]? =some fn)(h:L)(e:FV P g fn hn args H R=L):kL P g f args.toArray H R:=Dt hf (e.mpr h)
end
end Go.Sx
set_option maxRecDepth 100000
namespace Go.Proofs
open Go Go.Sx
variable {g:Gh} {a0 a1 a2 a3 a4 a5 a6 a7 a8 a9 tu tt a12 a13 a14 a15:zV} {H:Hp} {R:Rt}
abbrev pt(b:Nat):zV:=.pointer (some ⟨b,0,none⟩)
noncomputable abbrev zQ:=Tryz.prog
abbrev CF:=aa Tryz.prog
abbrev iv(n:Int):zV:=.int .i64 n
abbrev ui(n:Int):zV:=.int .u32 n
abbrev wi(n:Int):zV:=.int .u64 n
abbrev bi(n:Int):zV:=.int .u8 n
abbrev vT:zV:=.bool true
abbrev vF:zV:=.bool false
abbrev lE:=ae .num .eql
abbrev lN:=ae .num .neq
abbrev lL:=ae .num .lss
abbrev lG:=ae .num .gtr
abbrev lA:=ae .num .add
abbrev lS:=ae .num .sub
abbrev lD(n:Nat)(p:zV)(H:Hp)(k:zV->Prop):Prop:=ai n p λv=>Ld H v k
abbrev lM(n:Nat)(p:zV)(H:Hp)(k:zV->Prop):Prop:=Nil p λq=>ai n q λv=>Ld H v k
abbrev lI(e:Nat)(p i:zV)(H:Hp)(k:zV->Prop):Prop:=au e p i λv=>Ld H v k
abbrev lX(v:zV)(k:zV->zV->Prop):Prop:=Ext 0 v λx=>Ext 1 v λy=>k x y
abbrev rt(R:Rt)(v:zV)(H:Hp):Prop:=R (.returned v) H
abbrev tP(a b:zV):zV:=.tuple #[a,b]
abbrev lW(H:Hp)(c:Array zV)(t:Nat)(k:Nat->Hp->Prop):Prop:=cy H (.cells c t (0,0)) k
abbrev lO(a:zV)(i:Bool->Prop)(k:Bool->Prop):Prop:=cf a false i (λt=>vT=Value.bool t) λt=>∀_:Fr,k t
abbrev lU(a:zV)(i:Bool->Prop)(k:Bool->Prop):Prop:=cf a true i (λt=>vF=Value.bool t) λt=>∀_:Fr,k t
abbrev lV(H:Hp)(v:zV)(t:Bool):Prop:=H=H/\v=Value.bool t
abbrev lC(n:Nat)(p:zV)(k:zV->Prop):Prop:=Nil p λq=>ai n q k
abbrev lQ(n:Nat)(H:Hp)(c:Array zV)(t:Nat)(v:zV)(k:Nat->Hp->Prop):Prop:=cy H (.cells c t (0,0)) λb H=>St n H (pt b) v λH=>k b H
abbrev sc:=bC Tryz.prog
theorem sd{g:Gh}{f:FuncId}{fn:Func}(hn:Hn){args:List zV}{H:Hp}{R:Rt}{L:Prop}(hf:Tryz.prog.funcs[f]? =some fn)(h:L)(e:FV Tryz.prog g fn hn args H R=L:=by kernel_rfl):sc g f args.toArray H R:=cq hf h e
abbrev Y0:=Gh->Hp->Rt->Prop
abbrev Y1:=Gh->zV->Hp->Rt->Prop
abbrev Y2:=Gh->zV->zV->Hp->Rt->Prop
abbrev Y3:=Gh->zV->zV->zV->Hp->Rt->Prop
abbrev Y4:=Gh->zV->zV->zV->zV->Hp->Rt->Prop
abbrev Y5:=Gh->zV->zV->zV->zV->zV->Hp->Rt->Prop
abbrev CR(R:Rt)(g:Gh)(f:Nat)(a:Array zV)(H:Hp)(K:zV->Hp->Prop):Prop:=aa Tryz.prog g f a H K (dz R)
abbrev CN(g:Gh)(f:Nat)(a:Array zV)(H:Hp)(K:zV->Hp->Prop):Prop:=aa Tryz.prog g f a H K fI
def hr(m:Nat)(T:zL):Nat->Nat->Hn->Hn
 |_,0,x=>x
 |i,k+1,x=>.h m [i] T (hr m T (i+1) k x) .e
def hN:Nat->Hn->Hn
 |0,x=>x
 |k+1,x=>.n .e (hN k x)
def L10:Y2:=λa b c d e=>cy d (.cells (Value.cells b) 23 (0,0)) λb d=>CR e a 13 #[] d λd f=>Un .not d λd=>Br d (rt e vF f) (ay 5 f (pt b) λd=>CR e a 14 #[d] f λd f=>lX d λd g=>lN g (iv 0) λg=>Br g (ae .ptr .eql d (.pointer none) λg=>rt e g f) (aO c λg=>∃(h:Jt) (i:Mt),JE h [(iv 0),(iv 0),(iv 0)] f/\∀f j k:zV,∀l:Hp,h [f,j,k] l->∀_:Fr,
lL k g λg=>Br g (au 5 c k λc=>ay 5 l c λc=>lQ 5 l #[(bi 0),(iv 0),(iv 0),(iv 0),(wi 0)] 35 c λc g=>ay 5 g (pt c) λm=>CR e a 16 #[d,m] g λg m=>lQ 4 m #[(iv 0),(iv 0),(wi 0),(iv 0)] 37 g λg m=>lD 0 (pt g) m λn=>lE n (iv 0) λn=>lU n (λn=>lD 0 (pt c) m λo=>ae .num .geq o (bi 1) λo=>(lV m o n)) λn=>lU (Value.bool n) (λn=>lD 0 (pt c) m λo=>ae .num .leq o (bi 12) λo=>(lV m o n)) λn=>lU (Value.bool n) (λo=>lD 1 (pt g) m λp=>lN p f λp=>(lV m p o)) λo=>lO (Value.bool o) (λo=>Un .not (Value.bool n) λp=>cf p true (λp=>lD 1 (pt g) m λq=>lN q (iv (-1)) λq=>(lV m q p)) (λp=>vF=Value.bool p) λp=>∀_:Fr,
(lV m (Value.bool p) o)) λo=>lO (Value.bool o) (λo=>lD 0 (pt g) m λp=>lN p (iv 0) λp=>cf p true (λp=>lD 2 (pt g) m λq=>lN q (wi 0) λq=>(lV m q p)) (λp=>vF=Value.bool p) λp=>∀_:Fr,
(lV m (Value.bool p) o)) λo=>lO (Value.bool o) (λo=>lD 0 (pt c) m λp=>ae .num .leq p (bi 17) λp=>cf p true (λp=>lD 0 (pt c) m λq=>lN q (bi 14) λq=>(lV m q p)) (λp=>vF=Value.bool p) λp=>∀_:Fr,
cf (Value.bool p) true (λp=>lD 0 (pt c) m λq=>lN q (bi 15) λq=>(lV m q p)) (λp=>vF=Value.bool p) λp=>∀_:Fr,
cf (Value.bool p) true (λp=>lD 0 (pt c) m λq=>lN q (bi 16) λq=>(lV m q p)) (λp=>vF=Value.bool p) λp=>∀_:Fr,
cf (Value.bool p) true (λp=>lD 0 (pt c) m λq=>lN q (bi 17) λq=>(lV m q p)) (λp=>vF=Value.bool p) λp=>∀_:Fr,
cf (Value.bool p) true (λp=>lD 2 (pt g) m λq=>lN q (wi 0) λq=>(lV m q p)) (λp=>vF=Value.bool p) λp=>∀_:Fr,
(lV m (Value.bool p) o)) λo=>Br (Value.bool o) (rt e vF m) (∀o:Jt,(∀p q:zV,∀r:Hp,(∀_:Fr,
∀s:Jt,(∀t:zV,∀u:Hp,(∀_:Fr,
lD 0 (pt c) u λv=>ae .num .geq v (bi 1) λv=>lU v (λv=>lD 0 (pt c) u λw=>ae .num .leq w (bi 11) λw=>(lV u w v)) λv=>lU (Value.bool v) (λv=>lD 0 (pt g) u λw=>lN w (iv 1) λw=>(lV u w v)) λv=>lU (Value.bool v) (λv=>lD 0 (pt g) u λw=>lN w (iv 2) λw=>(lV u w v)) λv=>lU (Value.bool v) (λv=>lD 0 (pt g) u λw=>lN w (iv 3) λw=>(lV u w v)) λv=>lU (Value.bool v) (λw=>lD 3 (pt g) u λx=>lL x (iv 1) λx=>cf x false (λx=>lD 3 (pt g) u λy=>lD 4 (pt b) u λz=>lA z (iv 1) λz=>lG y z λy=>(lV u y x)) (λx=>vT=Value.bool x) λx=>∀_:Fr,
(lV u (Value.bool x) w)) λw=>lO (Value.bool w) (λw=>Un .not (Value.bool v) λx=>cf x true (λx=>lD 3 (pt g) u λy=>lN y (iv 0) λy=>(lV u y x)) (λx=>vF=Value.bool x) λx=>∀_:Fr,
(lV u (Value.bool x) w)) λw=>lO (Value.bool w) (λw=>cf (Value.bool v) true (λv=>lD 0 (pt g) u λx=>lE x (iv 9) λx=>(lV u x v)) (λv=>vF=Value.bool v) λv=>∀_:Fr,
cf (Value.bool v) true (λv=>lD 3 (pt g) u λx=>lD 4 (pt b) u λy=>lA y (iv 1) λy=>lN x y λx=>(lV u x v)) (λv=>vF=Value.bool v) λv=>∀_:Fr,
(lV u (Value.bool v) w)) λw=>Br (Value.bool w) (rt e vF u) (∀v:Jt,(∀w:zV,∀x:Hp,(∀_:Fr,
Br w (rt e vF x) (lA k (iv 1) λy=>aC h i [p,t,y] x [f,j,k] l))->v [w] x)->DR u λh=>∀i:Hp,
CN (a.add i) 27 #[d] u λi k=>aM k h/\
DR2 k h λh=>∀w:Hp,
CN (a.add w) 30 #[i] k λi k=>aM k h/\
DR2 k h λh=>lN i (iv 0) λi=>Br i (JE v [vT] k) (lD 0 (pt b) h λb=>∀i:Hp,
CN (a.add i) 27 #[d] k λi k=>aM k h/\
aO i λi=>lN i b λb=>aI vF vT b λb=>Br b (JE v [vT] k) (∀b:Hp,
CN (a.add b) 20 #[d] k λa b=>aM b h/\
aO a λa=>lN a t λa=>aI vF vT a λa=>JE v [a] b))))->s [t] u)->lD 0 (pt c) r λa=>lE a (bi 13) λa=>lU a (λa=>lD 0 (pt g) r λb=>lE b (iv 0) λb=>(lV r b a)) λa=>Br (Value.bool a) (lS q (iv 1) λa=>JE s [a] r) (JE s [q] r))->o [p,q] r)->Br (Value.bool n) (lA f (iv 1) λa=>lA j (iv 1) λb=>JE o [a,b] m) (JE o [f,j] m))) (rt e vT l)))
theorem OH(h:L10 g a0 a1 H R):sc g 10 #[a0,a1] H R:=sd (hN 5 (.n (.n .e (.n (.h 0 [7,8,27] [2,5,25,26] (.n .e (.n .e (.n (.n (.n .e (.n .e (.n (.h 0 [] [1] .e .e) (.n (.n (.h 0 [] [1] .e .e) .e) (.h 1 [7,8] [2,5,10,11,25,26,27] .e (.h 1 [8] [2,5,7,10,11,25,26,27] (.n (.h 0 [] [1] .e .e) .e) (.n (.h 0 [] [1] .e .e) (.n (.n (.h 0 [] [1] .e .e) .e) (.h 1 [198] [2,5,7,8,25,26,27] (.h 1 [] [] (hr 0 [1] 0 2 (.h 4 [] [] (.h 0 [2] [1] (.h 4 [] [] (.h 0 [3] [1] (.h 2 [4] [] (hr 0 [1] 5 6 (hr 3 [1] 11 2 (hr 0 [1] 13 5 (.h 3 [18] [1] .e .e)))) (.h 0 [5] [1] (hr 0 [1] 8 2 (hr 0 [1] 6 2 (hr 0 [1] 10 2 (.h 2 [12] [] (hr 0 [1] 13 5 (.h 3 [18] [1] .e .e)) (.h 0 [13] [1] (.h 0 [16] [1] (hr 0 [1] 14 2 (hr 0 [1] 17 2 .e)) .e) .e))))) .e)) .e) .e) .e) .e)) .e) .e))))))))) .e) .e))) .e) .e)) .e)) Tryz.func10 h
def L13:Y0:=λa b c=>CR c a 18 #[(iv 2)] b λb d=>Build Tryz.prog 35 [(0,(bi 1))] λe=>Build Tryz.prog 35 [(0,(bi 1)),(1,(iv 1))] λf=>Build Tryz.prog 35 [(0,(bi 4)),(1,(iv 0)),(2,(iv 1))] λg=>Build Tryz.prog 35 [(0,(bi 16)),(1,(iv 2))] λh=>Build Tryz.prog 35 [(0,(bi 14)),(1,(iv 2)),(4,(wi 3))] λi=>Build Tryz.prog 35 [(0,(bi 1)),(1,(iv 2))] λj=>av Tryz.prog 24 6 [(0,e),(1,f),(2,g),(3,h),(4,i),(5,j)] d λd e=>CR c a 15 #[b,d] e λb d=>lX b λb e=>Build Tryz.prog 37 [(1,(iv 0)),(3,(iv 1))] λf=>Build Tryz.prog 37 [(1,(iv 1)),(3,(iv 1))] λg=>Build Tryz.prog 37 [(1,(iv 2)),(3,(iv 1))] λh=>Build Tryz.prog 37 [(1,(iv (-1))),(2,(wi 1))] λi=>Build Tryz.prog 37 [(1,(iv (-1))),(2,(wi 1))] λj=>Build Tryz.prog 37 [(0,(iv 2)),(1,(iv (-1)))] λk=>av Tryz.prog 30 6 [(0,f),(1,g),(2,h),(3,i),(4,j),(5,k)] d λd f=>∀g:Jt,(∀h:zV,∀i:Hp,(∀_:Fr,
rt c h i)->g [h] i)->lE e (iv 0) λe=>Split e true (CR c a 17 #[b,d] f λa b=>aI vT a vF λa=>JE g [a] b) (aI vF undef vF λa=>JE g [a] f)
theorem OG(h:L13 g H R):sc g 13 #[] H R:=sd (hN 3 (.h 1 [0] [] .e .e)) Tryz.func13 h
def L14:Y1:=λa b c d=>cy c (.cells (Value.cells b) 23 (0,0)) λb c=>∀e:Jt,(∀f:zV,∀g:Hp,(∀_:Fr,
Br f (rt d (tP (.pointer none) (iv 1)) g) (lD 0 (pt b) g λh=>lD 1 (pt b) g λi=>CR d a 40 #[h,i] g λa h=>lX a λa i=>lN i (iv 0) λj=>Br j (rt d (tP (.pointer none) i) h) (lD 2 (pt b) h λi=>lE i (bi 6) λi=>lU i (λi=>lD 0 (pt b) h λj=>lG j (iv 12) λj=>(lV h j i)) λi=>Br (Value.bool i) (rt d (tP (.pointer none) (iv 6)) h) (ay 5 h (pt b) λi=>gG h λh j=>Build Tryz.prog 90 [(0,i),(1,a),(2,h)] λa=>cy j (.cells (Value.cells a) 90 (0,0)) λa h=>rt d (tP (pt a) (iv 0)) h))))->e [f] g)->lD 2 (pt b) c λa=>lG a (bi 6) λa=>Br a (JE e [a] c) (lD 3 (pt b) c λa=>lL a (iv 100) λa=>Br a (JE e [a] c) (lD 3 (pt b) c λa=>lG a (iv 1000) λa=>Br a (JE e [a] c) (lD 4 (pt b) c λa=>lL a (iv 0) λa=>Br a (JE e [a] c) (lD 4 (pt b) c λa=>lG a (iv 16) λa=>JE e [a] c))))
theorem OF(h:L14 g a0 H R):sc g 14 #[a0] H R:=sd (.n .e (.n (.n (.h 1 [6] [1] .e .e) .e) (.n .e (.n .e (.n (.n (.h 0 [] [1] .e .e) .e) .e))))) Tryz.func14 h
def L15:Y2:=λa b c d e=>cy d (.cells (Value.cells b) 23 (0,0)) λb d=>ay 5 d (pt b) λb=>CR e a 14 #[b] d λb d=>lX b λb f=>lN f (iv 0) λg=>Br g (rt e (tP (.slice none 0 0) f) d) (aO c λf=>∃(g:Jt) (h:Mt),JE g [(.slice none 0 0),(iv 0)] d/\∀d i:zV,∀j:Hp,g [d,i] j->∀_:Fr,
lL i f λf=>Br f (au 5 c i λc=>ay 5 j c λc=>lQ 5 j #[(bi 0),(iv 0),(iv 0),(iv 0),(wi 0)] 35 c λc f=>ay 5 f (pt c) λc=>CR e a 16 #[b,c] f λa b=>av Tryz.prog 30 1 [(0,a)] b λa b=>App Tryz.prog 37 4 32 (.agg #[(iv 0),(iv 0),(wi 0),(iv 0)]) b d a λa b=>lA i (iv 1) λc=>aC g h [a,c] b [d,i] j) (rt e (tP d (iv 0)) j))
theorem OE(h:L15 g a0 a1 H R):sc g 15 #[a0,a1] H R:=sd (hN 4 (.n (.n .e (.n (.h 0 [8,21] [6,19,20] .e .e) .e)) .e)) Tryz.func15 h
def L16:Y2:=λa b c d e=>cy d (.cells (Value.cells c) 35 (0,0)) λc d=>lW d #[(iv 0),(iv 0),(wi 0),(iv 0)] 37 λd f=>ae .ptr .eql b (.pointer none) λg=>Br g (CR e a 41 #[(iv 10)] f λg h=>St 4 h (pt d) g λg=>ay 4 g (pt d) λh=>rt e h g) (DR f λg=>lD 0 (pt c) g λh=>∀i:Hp,
CN (a.add i) 42 #[] f λf i=>aM i g/\
DR2 i g λg=>cZ (.int .u8) (.agg #[(bi 0),.nilFunc]) true g f h λf=>lX f λf h=>lW i #[(bi 0),.nilFunc] 95 λi j=>∀_:Hp,
St 2 j (pt i) f λf=>aM f g/\
Br h (ay 5 f (pt c) λg=>ay 2 f (pt i) λh=>CR e a 43 #[b,g,h] f λg h=>St 4 h (pt d) g λg=>ay 4 g (pt d) λh=>rt e h g) (DR f λg=>lD 0 (pt c) g λh=>∀i:Hp,
CN (a.add i) 44 #[] f λf i=>aM i g/\
DR2 i g λg=>cZ (.int .u8) .nilFunc true g f h λf=>lX f λf g=>Br g (ay 5 i (pt c) λc=>aL Tryz.prog a f #[b,c] i (λb c=>St 4 c (pt d) b λb=>ay 4 b (pt d) λc=>rt e c b) (dz e)) (CR e a 41 #[(iv 12)] i λa b=>St 4 b (pt d) a λa=>ay 4 a (pt d) λb=>rt e b a)))
theorem OD(h:L16 g a0 a1 H R):sc g 16 #[a0,a1] H R:=sd (.n .e (.n .e (.n (.n (.h 1 [] [] (hr 0 [1] 1 2 (.h 1 [7] [1] (.h 0 [0] [1] (.h 4 [] [] (hr 0 [1] 3 7 .e) .e) .e) .e)) .e) .e) (.n (.n (.h 1 [] [] (hr 0 [1] 1 2 (.h 0 [0] [1] (.h 4 [] [] (hr 0 [1] 3 6 .e) .e) .e)) .e) .e) .e)))) Tryz.func16 h
def L17:Y2:=λa b c d e=>aO b λf=>aO c λg=>lN f g λf=>Br f (rt e vF d) (∃(f:Jt) (g:Mt),JE f [(iv 0)] d/\∀d:zV,∀h:Hp,f [d] h->∀_:Fr,
aO b λi=>lL d i λi=>Br i (au 4 b d λb=>ay 4 h b λb=>au 4 c d λc=>ay 4 h c λc=>jG Tryz.prog a (fh Tryz.f17 6 8) (ev (λa=>cond (Nat.beq a 20) b (cond (Nat.beq a 24) c (undef)))) h λa=>Br a (rt e vF h) (lA d (iv 1) λa=>aC f g [a] h [d] h)) (rt e vT h))
theorem OC(h:L17 g a0 a1 H R):sc g 17 #[a0,a1] H R:=sd (.n .e (.n .e (.n (.n .e (.n (.h 0 [5] [0,1] .e .e) .e)) .e))) Tryz.func17 h
def L18:Y1:=λ_ a b c=>lW b #[(iv 0),(iv 0),(bi 0),(iv 0),(iv 0)] 23 λb d=>Build Tryz.prog 23 [(0,a),(1,(iv 1048576)),(2,(bi 0)),(3,(iv 100))] λa=>St 5 d (pt b) a λa=>ay 5 a (pt b) λb=>rt c b a
theorem OB(h:L18 g a0 H R):sc g 18 #[a0] H R:=sd .e Tryz.func18 h
def L20:Y1:=λa b c d=>ae .ptr .eql b (.pointer none) λe=>Br e (rt d (.slice none 0 0) c) (lM 6 b c λb=>CR d a 47 #[b] c λb c=>CR d a 46 #[b] c λa b=>rt d a b)
theorem OA(h:L20 g a0 H R):sc g 20 #[a0] H R:=sd .e Tryz.func20 h
def L27:Y1:=λa b c d=>ae .ptr .eql b (.pointer none) λe=>Br e (rt d (.slice none 0 0) c) (lM 5 b c λb=>CR d a 65 #[b] c λa b=>rt d a b)
theorem Oz(h:L27 g a0 H R):sc g 27 #[a0] H R:=sd .e Tryz.func27 h
variable {g:Gh} {a0 a1 a2 a3 a4 a5 a6 a7 a8 a9 tu tt a12 a13 a14 a15:zV} {H:Hp} {R:Rt}
def L30:Y1:=λa b c d=>∃(e:Jt) (f:Mt),JE e [(iv 0)] c/\∀c:zV,∀g:Hp,e [c] g->∀_:Fr,
aO b λh=>lL c h λh=>Br h (CR d a 67 #[b,c] g λa h=>lL a (iv 0) λa=>Br a (rt d (iv 4) h) (lA c (iv 1) λa=>aC e f [a] h [c] g)) (aO b λa=>lG a (iv 64) λa=>Br a (rt d (iv 13) g) (rt d (iv 0) g))
theorem Oy(h:L30 g a0 H R):sc g 30 #[a0] H R:=sd (.n .e (.n (.n .e (.n (.h 0 [3] [0] .e .e) .e)) .e)) Tryz.func30 h
def L40:Y2:=λa b c d e=>CR e a 68 #[b] d λd f=>lX d λd g=>lN g (iv 0) λg=>lO g (λg=>lL b (iv 1) λh=>(lV f h g)) λg=>lO (Value.bool g) (λg=>lL c (iv 2) λh=>(lV f h g)) λg=>lO (Value.bool g) (λg=>lG c (iv 1048576) λh=>(lV f h g)) λg=>Br (Value.bool g) (rt e (tP (.pointer none) (iv 1)) f) (CR e a 69 #[b] f λf g=>lX f λf h=>lN h (iv 0) λi=>Br i (rt e (tP (.pointer none) h) g) (CR e a 70 #[c,f] g λc f=>lX c λc g=>lQ 4 f #[(.pointer none),(.pointer none),(.slice none 0 0),(.slice none 0 0)] 137 c λc f=>lN g (iv 0) λh=>Br h (rt e (tP (.pointer none) g) f) (DR f λg=>ay 4 g (pt c) λc=>CN a 71 #[d] f λa f=>aM f g/\
Build zQ 141 [(0,c),(1,b),(2,d),(3,a)] λa=>cy f (.cells (Value.cells a) 141 (0,0)) λa b=>aM b g/\
rt e (tP (pt a) (iv 0)) b)))
theorem zu(h:L40 g a0 a1 H R):sc g 40 #[a0,a1] H R:=sd (.n .e (.n .e (.n (.n (.h 0 [] [1] .e .e) .e) (hN 4 (.n (.h 0 [0,1,2,3,4,5,6,7,8] [] .e .e) .e))))) Tryz.func40 h
def L41:Y1:=λ_ a b c=>lW b #[(iv 0),(iv 0),(wi 0),(iv 0)] 37 λb d=>Build zQ 37 [(0,a),(1,(iv (-1)))] λa=>St 4 d (pt b) a λa=>ay 4 a (pt b) λb=>rt c b a
theorem Ox(h:L41 g a0 H R):sc g 41 #[a0] H R:=sd .e Tryz.func41 h
def L42:Y0:=λ_ a b=>gG a λa c=>Build zQ 95 [(0,(bi 8)),(1,(.func (.func 72) #[] #[]))] λd=>aW (.int .u8) c a (bi 1) d λc=>Build zQ 95 [(0,(bi 32)),(1,(.func (.func 73) #[] #[]))] λd=>aW (.int .u8) c a (bi 2) d λc=>Build zQ 95 [(0,(bi 1)),(1,(.func (.func 74) #[] #[]))] λd=>aW (.int .u8) c a (bi 3) d λc=>Build zQ 95 [(0,(bi 3)),(1,(.func (.func 75) #[] #[]))] λd=>aW (.int .u8) c a (bi 4) d λc=>Build zQ 95 [(0,(bi 3)),(1,(.func (.func 76) #[] #[]))] λd=>aW (.int .u8) c a (bi 5) d λc=>Build zQ 95 [(0,(bi 3)),(1,(.func (.func 77) #[] #[]))] λd=>aW (.int .u8) c a (bi 6) d λc=>Build zQ 95 [(0,(bi 7)),(1,(.func (.func 78) #[] #[]))] λd=>aW (.int .u8) c a (bi 7) d λc=>Build zQ 95 [(0,(bi 81)),(1,(.func (.func 79) #[] #[]))] λd=>aW (.int .u8) c a (bi 8) d λc=>Build zQ 95 [(0,(bi 129)),(1,(.func (.func 80) #[] #[]))] λd=>aW (.int .u8) c a (bi 9) d λc=>Build zQ 95 [(0,(bi 129)),(1,(.func (.func 81) #[] #[]))] λd=>aW (.int .u8) c a (bi 10) d λc=>Build zQ 95 [(0,(bi 21)),(1,(.func (.func 82) #[] #[]))] λd=>aW (.int .u8) c a (bi 11) d λc=>rt b a c
theorem Ow(h:L42 g H R):sc g 42 #[] H R:=sd .e Tryz.func42 h
def L43:Y3:=λa b c d e f=>cy e (.cells (Value.cells c) 35 (0,0)) λc e=>cy e (.cells (Value.cells d) 95 (0,0)) λd e=>lW e #[(iv 0),(iv 0),(wi 0),(iv 0)] 37 λe g=>ay 5 g (pt c) λh=>lD 0 (pt d) g λi=>CR f a 83 #[b,h,i] g λg h=>lN g (iv 0) λi=>Br i (CR f a 41 #[g] h λg i=>St 4 i (pt e) g λg=>ay 4 g (pt e) λi=>rt f i g) (∃(g:Jt) (i:Mt),JE g [(iv 1)] h/\∀h:zV,∀j:Hp,g [h] j->∀_:Fr,
lD 1 (pt d) j λd=>ay 5 j (pt c) λc=>aL zQ a d #[b,c] j (λc d=>lX c λc k=>lE k (iv 0) λl=>Br l (CR f a 84 #[b,c,h] d λc l=>St 4 l (pt e) c λc=>ay 4 c (pt e) λl=>rt f l c) (lN k (iv 9) λc=>lO c (λc=>lC 0 b λl=>ai 4 l λl=>Ld d l λl=>lG h l λl=>(lV d l c)) λc=>Br (Value.bool c) (CR f a 41 #[k] d λc k=>lQ 4 k #[(iv 0),(iv 0),(wi 0),(iv 0)] 37 c λc k=>ai 3 (pt c) λl=>St 1 k l h λk=>ay 4 k (pt c) λc=>St 4 k (pt e) c λc=>ay 4 c (pt e) λe=>rt f e c) (DR d λc=>lM 5 b c λe=>lC 0 b λk=>ai 2 k λk=>Ld c k λk=>lC 0 b λb=>ai 3 b λb=>Ld c b λb=>∀c:Hp,
CN (a.add c) 85 #[e,k,b] d λ_ a=>lA h (iv 1) λb=>aC g i [b] a [h] j))) (dz f))
theorem zq(h:L43 g a0 a1 a2 H R):sc g 43 #[a0,a1,a2] H R:=sd (hN 3 (.n (.h 0 [8] [0,4,5,6] (.n (.n (.n .e (.n (.n (.n .e (.n .e (.n (.h 0 [] [1] .e .e) .e))) .e) (.h 1 [] [] (hr 0 [1] 0 15 .e) .e))) .e) .e) .e) .e)) Tryz.func43 h
def L44:Y0:=λ_ a b=>gG a λa c=>aW (.int .u8) c a (bi 12) (.func (.func 86) #[] #[]) λc=>aW (.int .u8) c a (bi 13) (.func (.func 87) #[] #[]) λc=>aW (.int .u8) c a (bi 14) (.func (.func 88) #[] #[]) λc=>aW (.int .u8) c a (bi 15) (.func (.func 89) #[] #[]) λc=>aW (.int .u8) c a (bi 16) (.func (.func 90) #[] #[]) λc=>aW (.int .u8) c a (bi 17) (.func (.func 91) #[] #[]) λc=>aW (.int .u8) c a (bi 18) (.func (.func 92) #[] #[]) λc=>aW (.int .u8) c a (bi 19) (.func (.func 93) #[] #[]) λc=>aW (.int .u8) c a (bi 20) (.func (.func 94) #[] #[]) λc=>aW (.int .u8) c a (bi 21) (.func (.func 95) #[] #[]) λc=>aW (.int .u8) c a (bi 22) (.func (.func 96) #[] #[]) λc=>aW (.int .u8) c a (bi 23) (.func (.func 97) #[] #[]) λc=>rt b a c
theorem Ov(h:L44 g H R):sc g 44 #[] H R:=sd .e Tryz.func44 h
def L46:Y1:=λa b c d=>CR d a 98 #[b] c λb c=>CR d a 99 #[b] c λ_ a=>rt d b a
theorem Ou(h:L46 g a0 H R):sc g 46 #[a0] H R:=sd .e Tryz.func46 h
def L47:Y1:=λ_ a b c=>cy b (.cells (Value.cells a) 88 (0,0)) λa b=>c (.returned (.func (.func 100) #[] #[(pt a)])) b
theorem Ot(h:L47 g a0 H R):sc g 47 #[a0] H R:=sd .e Tryz.func47 h
def L65:Y1:=λa b c d=>ae .ptr .eql b (.pointer none) λe=>Br e (rt d (.slice none 0 0) c) (lM 5 b c λb=>CR d a 71 #[b] c λa b=>rt d a b)
theorem Oq(h:L65 g a0 H R):sc g 65 #[a0] H R:=sd .e Tryz.func65 h
def L67:Y2:=λ_ a b c d=>aO a λe=>∃(f:Jt) (g:Mt),JE f [(iv 0)] c/\∀c:zV,∀h:Hp,f [c] h->∀_:Fr,
lL c e λe=>Br e (lI 1 a c h λa=>lE a b λa=>Br a (rt d c h) (lA c (iv 1) λa=>aC f g [a] h [c] h)) (d (.returned (iv (-1))) h)
theorem Oo(h:L67 g a0 a1 H R):sc g 67 #[a0,a1] H R:=sd (.n .e (.n (.n .e (.n (.h 0 [9] [1,7,8] .e .e) .e)) .e)) Tryz.func67 h
def L68:Y1:=λa b c d=>lL b (iv 0) λe=>lO e (λe=>lG b (iv 64) λf=>(lV c f e)) λe=>Br (Value.bool e) (rt d (tP (.slice none 0 0) (iv 1)) c) (CR d a 118 #[b] c λa b=>rt d (tP a (iv 0)) b)
theorem zo(h:L68 g a0 H R):sc g 68 #[a0] H R:=sd (.n .e (.n (.n (.h 0 [] [1] .e .e) .e) .e)) Tryz.func68 h
def L69:Y1:=λ_ a b c=>lL a (iv 1) λd=>lO d (λd=>lG a (iv 64) λe=>(lV b e d)) λd=>Br (Value.bool d) (rt c (tP (.pointer none) (iv 1)) b) (cU 167 1 8 (.map none) b a a λb d=>Build zQ 166 [(0,b)] λb=>cy d (.cells (Value.cells b) 166 (0,0)) λb d=>∃(e:Jt) (f:Mt),JE e [(iv 0)] d/\∀d:zV,∀g:Hp,e [d] g->∀_:Fr,
lL d a λa=>Br a (lM 0 (pt b) g λa=>gG g λh i=>au 1 a d λa=>St 1 i a h λa=>lA d (iv 1) λh=>aC e f [h] a [d] g) (rt c (tP (pt b) (iv 0)) g))
theorem On(h:L69 g a0 H R):sc g 69 #[a0] H R:=sd (.n .e (.n (.n (.h 0 [] [1] .e .e) .e) (.n .e (.n (.n .e (.n (.h 0 [17] [4,16] .e .e) .e)) .e)))) Tryz.func69 h
def L70:Y2:=λa b c d e=>lW d #[(.pointer none),(.pointer none),(.slice none 0 0),(.slice none 0 0)] 137 λd f=>CR e a 119 #[b] f λa b=>lX a λa f=>Build zQ 137 [(0,a),(1,c)] λa=>St 4 b (pt d) a λa=>ay 4 a (pt d) λb=>rt e (tP b f) a
theorem Om(h:L70 g a0 a1 H R):sc g 70 #[a0,a1] H R:=sd .e Tryz.func70 h
def L71:Y1:=λ_ a b c=>ae .slice .eql a (.slice none 0 0) λd=>Br d (rt c (.slice none 0 0) b) (av zQ 43 0 [] b λb d=>App zQ 3 1 8 (iv 0) d b a λa b=>rt c a b)
theorem Ol(h:L71 g a0 H R):sc g 71 #[a0] H R:=sd .e Tryz.func71 h
def L72:Y2:=λa b c d e=>cy d (.cells (Value.cells c) 35 (0,0)) λc d=>DR d λf=>lM 5 b f λb=>lD 1 (pt c) f λc=>∀g:Hp,
CN (a.add g) 120 #[b,c] d λa b=>aM b f/\
lX a λa c=>rt e (tP a c) b
theorem Oj(h:L72 g a0 a1 H R):sc g 72 #[a0,a1] H R:=sd (.n .e (.n (.h 1 [] [] (hr 0 [1] 0 11 .e) .e) .e)) Tryz.func72 h
def L73:Y2:=λa b c d e=>cy d (.cells (Value.cells c) 35 (0,0)) λc d=>DR d λf=>lM 5 b f λb=>lD 1 (pt c) f λc=>lE c (iv 1) λc=>∀g:Hp,
CN (a.add g) 121 #[b,c] d λa b=>aM b f/\
lX a λa c=>rt e (tP a c) b
theorem Oi(h:L73 g a0 a1 H R):sc g 73 #[a0,a1] H R:=sd (.n .e (.n (.h 1 [] [] (hr 0 [1] 0 12 .e) .e) .e)) Tryz.func73 h
def L74:Y2:=λa b c d e=>cy d (.cells (Value.cells c) 35 (0,0)) λc d=>DR d λf=>lM 5 b f λg=>lM 6 b f λb=>lD 1 (pt c) f λc=>cZ (.int .i64) (ui 0) false f b c λb=>∀c:Hp,
CN (a.add c) 122 #[g,b] d λa b=>aM b f/\
lX a λa c=>rt e (tP a c) b
theorem Oh(h:L74 g a0 a1 H R):sc g 74 #[a0,a1] H R:=sd (.n .e (.n (.h 1 [] [] (hr 0 [1] 0 16 .e) .e) .e)) Tryz.func74 h
def L75:Y2:=λa b c d e=>cy d (.cells (Value.cells c) 35 (0,0)) λc d=>DR d λf=>lM 5 b f λg=>lM 6 b f λh=>lD 1 (pt c) f λi=>cZ (.int .i64) (ui 0) false f h i λh=>lM 6 b f λb=>lD 2 (pt c) f λc=>cZ (.int .i64) (ui 0) false f b c λb=>∀c:Hp,
CN (a.add c) 123 #[g,h,b] d λa b=>aM b f/\
lX a λa c=>rt e (tP a c) b
theorem Og(h:L75 g a0 a1 H R):sc g 75 #[a0,a1] H R:=sd (.n .e (.n (.h 1 [] [] (hr 0 [1] 0 23 .e) .e) .e)) Tryz.func75 h
def L76:Y2:=λa b c d e=>cy d (.cells (Value.cells c) 35 (0,0)) λc d=>DR d λf=>lM 5 b f λg=>lM 6 b f λh=>lD 1 (pt c) f λi=>cZ (.int .i64) (ui 0) false f h i λh=>lM 6 b f λb=>lD 2 (pt c) f λc=>cZ (.int .i64) (ui 0) false f b c λb=>∀c:Hp,
CN (a.add c) 124 #[g,h,b] d λa b=>aM b f/\
lX a λa c=>rt e (tP a c) b
theorem Of(h:L76 g a0 a1 H R):sc g 76 #[a0,a1] H R:=sd (.n .e (.n (.h 1 [] [] (hr 0 [1] 0 23 .e) .e) .e)) Tryz.func76 h
def L77:Y2:=λa b c d e=>cy d (.cells (Value.cells c) 35 (0,0)) λc d=>DR d λf=>lM 5 b f λg=>lM 6 b f λh=>lD 1 (pt c) f λi=>cZ (.int .i64) (ui 0) false f h i λh=>lM 6 b f λb=>lD 2 (pt c) f λc=>cZ (.int .i64) (ui 0) false f b c λb=>∀c:Hp,
CN (a.add c) 125 #[g,h,b] d λa b=>aM b f/\
lX a λa c=>rt e (tP a c) b
theorem Oe(h:L77 g a0 a1 H R):sc g 77 #[a0,a1] H R:=sd (.n .e (.n (.h 1 [] [] (hr 0 [1] 0 23 .e) .e) .e)) Tryz.func77 h
def L78:Y2:=λa b c d e=>cy d (.cells (Value.cells c) 35 (0,0)) λc d=>DR d λf=>lM 5 b f λg=>lM 6 b f λh=>lD 1 (pt c) f λi=>cZ (.int .i64) (ui 0) false f h i λh=>lM 6 b f λi=>lD 2 (pt c) f λj=>cZ (.int .i64) (ui 0) false f i j λi=>lM 6 b f λb=>lD 3 (pt c) f λc=>cZ (.int .i64) (ui 0) false f b c λb=>∀c:Hp,
CN (a.add c) 126 #[g,h,i,b] d λa b=>aM b f/\
lX a λa c=>rt e (tP a c) b
theorem Od(h:L78 g a0 a1 H R):sc g 78 #[a0,a1] H R:=sd (.n .e (.n (.h 1 [] [] (hr 0 [1] 0 30 .e) .e) .e)) Tryz.func78 h
def L79:Y2:=λa b c d e=>cy d (.cells (Value.cells c) 35 (0,0)) λc d=>DR d λf=>lM 5 b f λg=>lM 6 b f λb=>lD 1 (pt c) f λh=>cZ (.int .i64) (ui 0) false f b h λb=>lD 2 (pt c) f λh=>lD 3 (pt c) f λc=>lE c (iv 1) λc=>∀i:Hp,
CN (a.add i) 127 #[g,b,h,c] d λa b=>aM b f/\
lX a λa c=>rt e (tP a c) b
theorem Oc(h:L79 g a0 a1 H R):sc g 79 #[a0,a1] H R:=sd (.n .e (.n (.h 1 [] [] (hr 0 [1] 0 21 .e) .e) .e)) Tryz.func79 h
def L80:Y2:=λa b c d e=>cy d (.cells (Value.cells c) 35 (0,0)) λc d=>DR d λf=>lM 5 b f λg=>lM 6 b f λb=>lD 1 (pt c) f λh=>cZ (.int .i64) (ui 0) false f b h λb=>lD 4 (pt c) f λc=>∀h:Hp,
CN (a.add h) 128 #[g,b,c] d λa b=>aM b f/\
lX a λa c=>rt e (tP a c) b
theorem Ob(h:L80 g a0 a1 H R):sc g 80 #[a0,a1] H R:=sd (.n .e (.n (.h 1 [] [] (hr 0 [1] 0 18 .e) .e) .e)) Tryz.func80 h
def L81:Y2:=λa b c d e=>cy d (.cells (Value.cells c) 35 (0,0)) λc d=>DR d λf=>lM 5 b f λg=>lM 6 b f λb=>lD 1 (pt c) f λh=>cZ (.int .i64) (ui 0) false f b h λb=>lD 4 (pt c) f λc=>∀h:Hp,
CN (a.add h) 129 #[g,b,c] d λa b=>aM b f/\
lX a λa c=>rt e (tP a c) b
theorem Oa(h:L81 g a0 a1 H R):sc g 81 #[a0,a1] H R:=sd (.n .e (.n (.h 1 [] [] (hr 0 [1] 0 18 .e) .e) .e)) Tryz.func81 h
def L82:Y2:=λa b c d e=>cy d (.cells (Value.cells c) 35 (0,0)) λc d=>DR d λf=>lM 5 b f λg=>lM 6 b f λh=>lD 1 (pt c) f λi=>cZ (.int .i64) (ui 0) false f h i λh=>lD 2 (pt c) f λi=>lM 6 b f λb=>lD 3 (pt c) f λc=>cZ (.int .i64) (ui 0) false f b c λb=>∀c:Hp,
CN (a.add c) 130 #[g,h,i,b] d λa b=>aM b f/\
lX a λa c=>rt e (tP a c) b
theorem N9(h:L82 g a0 a1 H R):sc g 82 #[a0,a1] H R:=sd (.n .e (.n (.h 1 [] [] (hr 0 [1] 0 25 .e) .e) .e)) Tryz.func82 h
def L83:Y3:=λa b c d e f=>cy e (.cells (Value.cells c) 35 (0,0)) λc e=>∀g:Jt,(∀h:zV,∀i:Hp,(∀_:Fr,
Br h (rt f (iv 1) i) (∀j:Jt,(∀k:zV,∀l:Hp,(∀_:Fr,
Br k (rt f (iv 2) l) (∀m:Jt,(∀n:zV,∀o:Hp,(∀_:Fr,
Br n (rt f (iv 3) o) (rt f (iv 0) o))->m [n] o)->∀n:Jt,(∀o:zV,∀p:Hp,(∀_:Fr,
Br o (JE m [o] p) (∀q:Jt,(∀r:zV,∀s:Hp,(∀_:Fr,
Br r (JE m [r] s) (ae .num .and d (bi 4) λt=>lN t (bi 0) λt=>Split t true (lD 3 (pt c) s λt=>CR f a 133 #[b,t] s λt u=>Un .not t λt=>aI vT t vF λt=>JE m [t] u) (aI vF undef vF λt=>JE m [t] s)))->q [r] s)->ae .num .and d (bi 2) λm=>lN m (bi 0) λm=>Split m true (lD 2 (pt c) p λm=>CR f a 133 #[b,m] p λm r=>Un .not m λm=>aI vT m vF λm=>JE q [m] r) (aI vF undef vF λm=>JE q [m] p)))->n [o] p)->ae .num .and d (bi 1) λm=>lN m (bi 0) λm=>Split m true (lD 1 (pt c) l λm=>CR f a 133 #[b,m] l λm o=>Un .not m λm=>aI vT m vF λm=>JE n [m] o) (aI vF undef vF λm=>JE n [m] l)))->j [k] l)->∀k:Jt,(∀l:zV,∀m:Hp,(∀_:Fr,
Br l (JE j [l] m) (∀n:Jt,(∀o:zV,∀p:Hp,(∀_:Fr,
Br o (JE j [o] p) (ae .num .and d (bi 128) λq=>lN q (bi 0) λq=>lU q (λq=>lD 4 (pt c) p λr=>lC 0 b λs=>ai 0 s λs=>Ld p s λs=>ae .num .shr r s λr=>lN r (wi 0) λr=>(lV p r q)) λq=>JE j [(Value.bool q)] p))->n [o] p)->ae .num .and d (bi 16) λj=>lN j (bi 0) λj=>Split j true (lD 2 (pt c) m λj=>CR f a 132 #[b,j] m λj o=>Un .not j λj=>aI vT j vF λj=>JE n [j] o) (aI vF undef vF λj=>JE n [j] m)))->k [l] m)->ae .num .and d (bi 8) λj=>lN j (bi 0) λj=>Split j true (lD 1 (pt c) i λj=>CR f a 132 #[b,j] i λb j=>Un .not b λb=>aI vT b vF λb=>JE k [b] j) (aI vF undef vF λb=>JE k [b] i)))->g [h] i)->∀b:Jt,(∀h:zV,∀i:Hp,(∀_:Fr,
Br h (JE g [h] i) (ae .num .and d (bi 64) λj=>lN j (bi 0) λj=>Split j true (lD 3 (pt c) i λj=>aL zQ a (.func (.func 131) #[] #[]) #[j] i (λj k=>Un .not j λj=>aI vT j vF λj=>JE g [j] k) (dz f)) (aI vF undef vF λj=>JE g [j] i)))->b [h] i)->ae .num .and d (bi 32) λd=>lN d (bi 0) λd=>Split d true (lD 1 (pt c) e λc=>aL zQ a (.func (.func 131) #[] #[]) #[c] e (λa c=>Un .not a λa=>aI vT a vF λa=>JE b [a] c) (dz f)) (aI vF undef vF λa=>JE b [a] e)
theorem N8(h:L83 g a0 a1 a2 H R):sc g 83 #[a0,a1,a2] H R:=sd (.n .e (.n .e (.n (.n (.h 1 [8] [0,2,4] (.h 1 [8] [0,2,4,7] .e .e) (.n .e (.h 1 [29] [0,2,4] (.h 1 [29] [0,2,4] .e (.n .e (.h 1 [29] [0,2,4] .e .e))) (.n .e (.h 1 [64] [] (.h 1 [64] [0,2,4] .e (.n .e (.h 1 [64] [0,2,4] .e .e))) .e))))) .e) .e))) Tryz.func83 h
def L84:Y3:=λ_ a b c d e=>lW d #[(iv 0),(iv 0),(wi 0),(iv 0)] 37 λd f=>lM 7 a f λg=>lM 7 a f λh=>lA h (iv 1) λh=>lC 7 a λi=>St 1 f i h λf=>lM 6 a f λa=>aW (.int .i64) f a g b λa=>Build zQ 37 [(1,g),(3,c)] λb=>St 4 a (pt d) b λa=>ay 4 a (pt d) λb=>rt e b a
theorem N7(h:L84 g a0 a1 a2 H R):sc g 84 #[a0,a1,a2] H R:=sd .e Tryz.func84 h
def L85:Y3:=λa b c d e f=>lW e #[(iv 0),(iv 0),(iv 0),vF] 147 λe g=>CR f a 134 #[b,c,d] g λg h=>lN g (iv 0) λi=>Br i (Build zQ 147 [] λi=>St 4 h (pt e) i λi=>ay 4 i (pt e) λj=>rt f (tP j g) i) (lE c (bi 1) λg=>Br g (CR f a 135 #[b,d] h λg i=>lX g λg j=>St 4 i (pt e) g λg=>ay 4 g (pt e) λi=>rt f (tP i j) g) (lE c (bi 2) λg=>Br g (CR f a 136 #[b,d] h λd g=>lX d λi _=>Ext 2 d λd=>lQ 4 g #[(iv 0),(iv 0),(iv 0),vF] 147 i λg i=>ay 4 i (pt g) λg=>St 4 i (pt e) g λg=>ay 4 g (pt e) λi=>rt f (tP i d) g) (∀d:Jt,(∀g:zV,∀i:Hp,(∀_:Fr,
Br g (CR f a 138 #[c] i λj k=>CR f a 137 #[b,j] k λj k=>lX j λj l=>St 4 k (pt e) j λj=>ay 4 j (pt e) λk=>rt f (tP k l) j) (lE c (bi 6) λj=>Br j (CR f a 139 #[b] i λj k=>lX j λj l=>St 4 k (pt e) j λj=>ay 4 j (pt e) λk=>rt f (tP k l) j) (CR f a 140 #[b] i λj k=>CR f a 140 #[b] k λa b=>Build zQ 147 [(0,j),(1,a)] λa=>St 4 b (pt e) a λa=>ay 4 a (pt e) λb=>rt f (tP b (iv 0)) a)))->d [g] i)->lE c (bi 3) λa=>Br a (JE d [a] h) (lE c (bi 4) λa=>Br a (JE d [a] h) (lE c (bi 5) λa=>JE d [a] h)))))
theorem iH(h:L85 g a0 a1 a2 H R):sc g 85 #[a0,a1,a2] H R:=sd (.n .e (.n .e (.n (.n .e (.n (hN 4 (.h 1 [39] [0,1,6,20] .e .e)) .e)) .e))) Tryz.func85 h
def L86:Y2:=λa b c d e=>cy d (.cells (Value.cells c) 35 (0,0)) λc d=>lW d #[(iv 0),(iv 0),(wi 0),(iv 0)] 37 λd f=>lM 6 b f λg=>lD 1 (pt c) f λc=>cZ (.int .i64) (ui 0) true f g c λc=>lX c λc g=>Un .not g λg=>Br g (CR e a 41 #[(iv 3)] f λg h=>St 4 h (pt d) g λg=>ay 4 g (pt d) λh=>rt e h g) (lM 5 b f λg=>CR e a 141 #[g,c] f λf g=>lN f (iv 0) λh=>Br h (CR e a 41 #[f] g λf h=>St 4 h (pt d) f λf=>ay 4 f (pt d) λh=>rt e h f) (CR e a 84 #[b,c,(iv 0)] g λa b=>St 4 b (pt d) a λa=>ay 4 a (pt d) λb=>rt e b a))
theorem zn(h:L86 g a0 a1 H R):sc g 86 #[a0,a1] H R:=sd .e Tryz.func86 h
def L87:Y2:=λa b c d e=>cy d (.cells (Value.cells c) 35 (0,0)) λc d=>lW d #[(iv 0),(iv 0),(wi 0),(iv 0)] 37 λd f=>lM 6 b f λg=>lD 1 (pt c) f λh=>cZ (.int .i64) (ui 0) true f g h λg=>lX g λg h=>Un .not h λh=>Br h (CR e a 41 #[(iv 3)] f λh i=>St 4 i (pt d) h λh=>ay 4 h (pt d) λi=>rt e i h) (lM 5 b f λh=>CR e a 142 #[h,g] f λ_ f=>DR f λg=>lM 6 b g λb=>lD 1 (pt c) g λc=>∀_:Hp,
om (.int .i64) f b c λb=>CR e a 143 #[(wi 0),(iv 0)] b λa b=>St 4 b (pt d) a λa=>ay 4 a (pt d) λb=>rt e b a)
theorem zm(h:L87 g a0 a1 H R):sc g 87 #[a0,a1] H R:=sd (hN 4 (.n (.h 1 [] [] (hr 0 [1] 0 7 .e) .e) .e)) Tryz.func87 h
def L88:Y2:=λa b c d e=>cy d (.cells (Value.cells c) 35 (0,0)) λc d=>lW d #[(iv 0),(iv 0),(wi 0),(iv 0)] 37 λd f=>lD 1 (pt c) f λg=>CR e a 133 #[b,g] f λf g=>Un .not f λf=>Br f (CR e a 41 #[(iv 3)] g λf h=>St 4 h (pt d) f λf=>ay 4 f (pt d) λh=>rt e h f) (DR g λf=>lM 5 b f λh=>lM 6 b f λb=>lD 1 (pt c) f λi=>cZ (.int .i64) (ui 0) false f b i λb=>lD 4 (pt c) f λc=>∀i:Hp,
CN (a.add i) 144 #[h,b,c] g λb c=>aM c f/\
lX b λb f=>CR e a 145 #[b] c λb c=>CR e a 143 #[b,f] c λa b=>St 4 b (pt d) a λa=>ay 4 a (pt d) λb=>rt e b a)
theorem N6(h:L88 g a0 a1 H R):sc g 88 #[a0,a1] H R:=sd (.n .e (.n .e (.n (.h 1 [] [] (hr 0 [1] 0 19 .e) .e) .e))) Tryz.func88 h
def L89:Y2:=λa b c d e=>cy d (.cells (Value.cells c) 35 (0,0)) λc d=>lW d #[(iv 0),(iv 0),(wi 0),(iv 0)] 37 λd f=>∀g:Jt,(∀h:zV,∀i:Hp,(∀_:Fr,
Br h (CR e a 41 #[(iv 3)] i λj k=>St 4 k (pt d) j λj=>ay 4 j (pt d) λk=>rt e k j) (DR i λj=>lM 6 b j λk=>lD 1 (pt c) j λl=>cZ (.int .i64) (ui 0) false j k l λk=>lM 6 b j λl=>lD 2 (pt c) j λm=>cZ (.int .i64) (ui 0) false j l m λj=>lE k j λj=>∀k:Hp,
CN (a.add k) 145 #[j] i λj k=>∀l:Hp,
CN (a.add l) 143 #[j,(iv 0)] k λj k=>∀_:Hp,
St 4 k (pt d) j λj=>ay 4 j (pt d) λd=>rt e d j))->g [h] i)->lD 1 (pt c) f λd=>CR e a 133 #[b,d] f λd f=>Un .not d λd=>Split d false (lD 2 (pt c) f λc=>CR e a 133 #[b,c] f λa b=>Un .not a λa=>aI vF vT a λa=>JE g [a] b) (aI vT vT undef λa=>JE g [a] f)
theorem N5(h:L89 g a0 a1 H R):sc g 89 #[a0,a1] H R:=sd (.n .e (.n (.h 1 [16] [0,3,4] .e .e) (.n (.h 1 [] [] (hr 0 [1] 0 18 .e) .e) .e))) Tryz.func89 h
def L90:Y2:=λa b c d e=>cy d (.cells (Value.cells c) 35 (0,0)) λc d=>lW d #[(iv 0),(iv 0),(wi 0),(iv 0)] 37 λd f=>lD 1 (pt c) f λg=>CR e a 133 #[b,g] f λf g=>Un .not f λf=>Br f (CR e a 41 #[(iv 3)] g λf h=>St 4 h (pt d) f λf=>ay 4 f (pt d) λh=>rt e h f) (DR g λf=>lM 5 b f λh=>lM 6 b f λb=>lD 1 (pt c) f λc=>cZ (.int .i64) (ui 0) false f b c λb=>∀c:Hp,
CN (a.add c) 146 #[h,b] g λb c=>aM c f/\
lX b λb f=>∀g:Hp,
CN (a.add g) 143 #[b,f] c λa b=>∀_:Hp,
St 4 b (pt d) a λa=>ay 4 a (pt d) λb=>rt e b a)
theorem NZ(h:L90 g a0 a1 H R):sc g 90 #[a0,a1] H R:=sd (.n .e (.n .e (.n (.h 1 [] [] (hr 0 [1] 0 16 .e) .e) .e))) Tryz.func90 h
def L91:Y2:=λa b c d e=>cy d (.cells (Value.cells c) 35 (0,0)) λc d=>lW d #[(iv 0),(iv 0),(wi 0),(iv 0)] 37 λd f=>lD 1 (pt c) f λg=>CR e a 133 #[b,g] f λf g=>Un .not f λf=>Br f (CR e a 41 #[(iv 3)] g λf h=>St 4 h (pt d) f λf=>ay 4 f (pt d) λh=>rt e h f) (DR g λf=>lM 5 b f λh=>lM 6 b f λb=>lD 1 (pt c) f λc=>cZ (.int .i64) (ui 0) false f b c λb=>∀_:Hp,
av zQ 194 1 [(0,b)] g λb c=>aM c f/\
∀g:Hp,
CN (a.add g) 147 #[h,b] c λb c=>aM c f/\
lX b λb f=>br .u64 b λb=>CR e a 143 #[b,f] c λa b=>St 4 b (pt d) a λa=>ay 4 a (pt d) λb=>rt e b a)
theorem NY(h:L91 g a0 a1 H R):sc g 91 #[a0,a1] H R:=sd (.n .e (.n .e (.n (.h 1 [] [] (hr 0 [1] 0 18 .e) .e) .e))) Tryz.func91 h
def L92:Y2:=λa b c d e=>cy d (.cells (Value.cells c) 35 (0,0)) λ_ c=>lW c #[(iv 0),(iv 0),(wi 0),(iv 0)] 37 λc d=>lM 5 b d λb=>CR e a 140 #[b] d λb d=>br .u64 b λb=>CR e a 143 #[b,(iv 0)] d λa b=>St 4 b (pt c) a λa=>ay 4 a (pt c) λb=>rt e b a
theorem NX(h:L92 g a0 a1 H R):sc g 92 #[a0,a1] H R:=sd .e Tryz.func92 h
def L93:Y2:=λa b c d e=>cy d (.cells (Value.cells c) 35 (0,0)) λc d=>lW d #[(iv 0),(iv 0),(wi 0),(iv 0)] 37 λd f=>lD 1 (pt c) f λg=>CR e a 133 #[b,g] f λf g=>Un .not f λf=>Br f (CR e a 41 #[(iv 3)] g λf h=>St 4 h (pt d) f λf=>ay 4 f (pt d) λh=>rt e h f) (DR g λf=>lM 5 b f λh=>lM 6 b f λb=>lD 1 (pt c) f λc=>cZ (.int .i64) (ui 0) false f b c λb=>∀c:Hp,
CN (a.add c) 148 #[h,b] g λb c=>aM c f/\
lX b λb f=>∀g:Hp,
CN (a.add g) 143 #[b,f] c λa b=>∀_:Hp,
St 4 b (pt d) a λa=>ay 4 a (pt d) λb=>rt e b a)
theorem NW(h:L93 g a0 a1 H R):sc g 93 #[a0,a1] H R:=sd (.n .e (.n .e (.n (.h 1 [] [] (hr 0 [1] 0 16 .e) .e) .e))) Tryz.func93 h
def L94:Y2:=λa b c d e=>cy d (.cells (Value.cells c) 35 (0,0)) λc d=>lW d #[(iv 0),(iv 0),(wi 0),(iv 0)] 37 λd f=>lD 1 (pt c) f λg=>CR e a 133 #[b,g] f λf g=>Un .not f λf=>Br f (CR e a 41 #[(iv 3)] g λf h=>St 4 h (pt d) f λf=>ay 4 f (pt d) λh=>rt e h f) (DR g λf=>lM 5 b f λh=>lM 6 b f λb=>lD 1 (pt c) f λc=>cZ (.int .i64) (ui 0) false f b c λb=>∀c:Hp,
CN (a.add c) 149 #[h,b] g λb c=>aM c f/\
lX b λb f=>∀g:Hp,
CN (a.add g) 143 #[b,f] c λa b=>∀_:Hp,
St 4 b (pt d) a λa=>ay 4 a (pt d) λb=>rt e b a)
theorem NV(h:L94 g a0 a1 H R):sc g 94 #[a0,a1] H R:=sd (.n .e (.n .e (.n (.h 1 [] [] (hr 0 [1] 0 16 .e) .e) .e))) Tryz.func94 h
def L95:Y2:=λa b c d e=>cy d (.cells (Value.cells c) 35 (0,0)) λc d=>lW d #[(iv 0),(iv 0),(wi 0),(iv 0)] 37 λd f=>DR f λg=>lM 5 b g λb=>lD 1 (pt c) g λc=>∀h:Hp,
CN (a.add h) 150 #[b,c] f λb c=>aM c g/\
lX b λb f=>br .u64 b λb=>CR e a 143 #[b,f] c λa b=>St 4 b (pt d) a λa=>ay 4 a (pt d) λb=>rt e b a
theorem zl(h:L95 g a0 a1 H R):sc g 95 #[a0,a1] H R:=sd (.n .e (.n (.h 1 [] [] (hr 0 [1] 0 12 .e) .e) .e)) Tryz.func95 h
def L96:Y2:=λa b c d e=>cy d (.cells (Value.cells c) 35 (0,0)) λc d=>lW d #[(iv 0),(iv 0),(wi 0),(iv 0)] 37 λd f=>DR f λg=>lM 5 b g λb=>lD 1 (pt c) g λc=>∀g:Hp,
CN (a.add g) 151 #[b,c] f λb c=>∀f:Hp,
CN (a.add f) 143 #[(wi 0),b] c λa b=>∀_:Hp,
St 4 b (pt d) a λa=>ay 4 a (pt d) λb=>rt e b a
theorem zk(h:L96 g a0 a1 H R):sc g 96 #[a0,a1] H R:=sd (.n .e (.n (.h 1 [] [] (hr 0 [1] 0 9 .e) .e) .e)) Tryz.func96 h
def L97:Y2:=λa b c d e=>cy d (.cells (Value.cells c) 35 (0,0)) λc d=>lW d #[(iv 0),(iv 0),(wi 0),(iv 0)] 37 λd f=>lD 1 (pt c) f λg=>lL g (iv 0) λg=>lO g (λg=>lD 1 (pt c) f λh=>lG h (iv 6) λh=>(lV f h g)) λg=>Br (Value.bool g) (CR e a 41 #[(iv 1)] f λg h=>St 4 h (pt d) g λg=>ay 4 g (pt d) λh=>rt e h g) (DR f λg=>lM 5 b g λh=>lD 1 (pt c) g λi=>br .u8 i λi=>lD 2 (pt c) g λc=>∀j:Hp,
CN (a.add j) 85 #[h,i,c] f λc f=>aM f g/\
lX c λc h=>lW f #[(iv 0),(iv 0),(iv 0),vF] 147 λf i=>∀_:Hp,
St 4 i (pt f) c λc=>aM c g/\
lM 5 b c λb=>CR e a 140 #[b] c λb c=>br .u64 b λb=>CR e a 143 #[b,h] c λa b=>St 4 b (pt d) a λa=>ay 4 a (pt d) λb=>rt e b a)
theorem zj(h:L97 g a0 a1 H R):sc g 97 #[a0,a1] H R:=sd (.n .e (.n (.n (.h 0 [] [1] .e .e) .e) (.n (.h 1 [] [] (hr 0 [1] 0 9 (.h 1 [13] [1] (hr 0 [1] 9 7 .e) .e)) .e) .e))) Tryz.func97 h
def L98:Y1:=λa b c d=>CR d a 152 #[(.slice none 0 0),b] c λa b=>rt d a b
theorem NU(h:L98 g a0 H R):sc g 98 #[a0] H R:=sd .e Tryz.func98 h
def L99:Y1:=λa b c d=>aO b λe=>br .u64 e λf=>CR d a 154 #[f] c λc f=>CR d a 153 #[b,(iv 0),e,c] f λ_ a=>rt d (.tuple #[]) a
theorem NT(h:L99 g a0 H R):sc g 99 #[a0] H R:=sd .e Tryz.func99 h
variable {g:Gh} {a0 a1 a2 a3 a4 a5 a6 a7 a8 a9 tu tt a12 a13 a14 a15:zV} {H:Hp} {R:Rt}
def L118:Y1:=λ_ a b c=>cU 3 1 8 (iv 0) b a a λb d=>∃(e:Jt) (f:Mt),JE e [(iv 0)] d/\∀d:zV,∀g:Hp,e [d] g->∀_:Fr,
lL d a λa=>Br a (au 1 b d λa=>St 1 g a d λa=>lA d (iv 1) λh=>aC e f [h] a [d] g) (rt c b g)
theorem JM(h:L118 g a0 H R):sc g 118 #[a0] H R:=sd (.n .e (.n .e (.n (.n .e (.n (.h 0 [8] [3,7] .e .e) .e)) .e))) Tryz.func118 h
def L119:Y1:=λ_ a b c=>lL a (iv 2) λd=>lO d (λd=>lG a (iv 1048576) λe=>(lV b e d)) λd=>Br (Value.bool d) (rt c (tP (.pointer none) (iv 1)) b) (Build zQ 224 [(0,a),(3,(iv 2))] λa=>cy b (.cells (Value.cells a) 224 (0,0)) λa b=>∃(d:Jt) (e:Mt),JE d [(ui 0)] b/\∀b:zV,∀f:Hp,d [b] f->∀_:Fr,
lL b (ui 2) λg=>Br g (lM 1 (pt a) f λg=>Build zQ 226 [(0,(iv (-1))),(1,b),(2,b)] λh=>Build zQ 228 [(0,h),(1,vT),(2,(bi 255))] λh=>av zQ 222 1 [(0,h)] f λh i=>App zQ 228 5 24 (.agg #[(iv 0),(ui 0),(ui 0),vF,(bi 0)]) i g h λg h=>lC 1 (pt a) λi=>St 1 h i g λg=>lA b (ui 1) λh=>aC d e [h] g [b] f) (rt c (tP (pt a) (iv 0)) f))
theorem JL(h:L119 g a0 H R):sc g 119 #[a0] H R:=sd (.n .e (.n (.n (.h 0 [] [1] .e .e) .e) (.n .e (.n (.n .e (.n (.h 0 [15] [4] .e .e) .e)) .e)))) Tryz.func119 h
def L120:Y2:=λa b c d e=>ae .ptr .eql b (.pointer none) λf=>Br f (rt e (tP (ui 0) (iv 10)) d) (CR e a 175 #[b,c,(ui 0),(ui 1)] d λa b=>lX a λa c=>rt e (tP a c) b)
theorem JK(h:L120 g a0 a1 H R):sc g 120 #[a0,a1] H R:=sd .e Tryz.func120 h
def L121:Y2:=λa b c d e=>ae .ptr .eql b (.pointer none) λf=>Br f (rt e (tP (ui 0) (iv 10)) d) (∀f:Jt,(∀g:zV,∀h:Hp,(∀_:Fr,
CR e a 141 #[b,g] h λa b=>rt e (tP g a) b)->f [g] h)->Br c (JE f [(ui 1)] d) (JE f [(ui 0)] d))
theorem JJ(h:L121 g a0 a1 H R):sc g 121 #[a0,a1] H R:=sd (hN 3 (.h 1 [6] [0] .e .e)) Tryz.func121 h
def L122:Y2:=λa b c d e=>CR e a 176 #[b,(bi 3),c,(ui 0)] d λa b=>lX a λa c=>rt e (tP a c) b
theorem JI(h:L122 g a0 a1 H R):sc g 122 #[a0,a1] H R:=sd .e Tryz.func122 h
def L123:Y3:=λa b c d e f=>CR f a 176 #[b,(bi 8),c,d] e λa b=>lX a λa c=>rt f (tP a c) b
theorem JH(h:L123 g a0 a1 a2 H R):sc g 123 #[a0,a1,a2] H R:=sd .e Tryz.func123 h
def L124:Y3:=λa b c d e f=>CR f a 176 #[b,(bi 14),c,d] e λa b=>lX a λa c=>rt f (tP a c) b
theorem JG(h:L124 g a0 a1 a2 H R):sc g 124 #[a0,a1,a2] H R:=sd .e Tryz.func124 h
def L125:Y3:=λa b c d e f=>CR f a 176 #[b,(bi 6),c,d] e λa b=>lX a λa c=>rt f (tP a c) b
theorem JF(h:L125 g a0 a1 a2 H R):sc g 125 #[a0,a1,a2] H R:=sd .e Tryz.func125 h
def L126:Y4:=λa b c d e f g=>av zQ 194 3 [(0,c),(1,d),(2,e)] f λf h=>CR g a 177 #[b,f] h λb f=>lX b λb h=>lN h (iv 0) λi=>Br i (rt g (tP (ui 0) h) f) (Build zQ 236 [(0,c),(1,d),(2,e)] λc=>CR g a 178 #[b,c,(.func (.func 179) #[] #[])] f λa b=>lX a λa c=>rt g (tP a c) b)
theorem JD(h:L126 g a0 a1 a2 a3 H R):sc g 126 #[a0,a1,a2,a3] H R:=sd .e Tryz.func126 h
def L127:Y4:=λa b c d e f g=>CR g a 180 #[b,d] f λf h=>lX f λf i=>ae .ptr .neq b (.pointer none) λj=>lU j (λj=>Un .not i λi=>(lV h i j)) λj=>Br (Value.bool j) (rt g (tP (ui 0) (iv 2)) h) (av zQ 194 1 [(0,c)] h λh i=>CR g a 181 #[b,f,h] i λf h=>lN f (iv 0) λi=>Br i (rt g (tP (ui 0) f) h) (CR g a 183 #[b,c,d,e] h λb c=>lX b λd e=>Ext 2 b λb=>CR g a 182 #[d,e,b] c λa b=>lX a λa c=>rt g (tP a c) b))
theorem JC(h:L127 g a0 a1 a2 a3 H R):sc g 127 #[a0,a1,a2,a3] H R:=sd (.n .e (.n .e (.n (.n (.h 0 [] [1] .e .e) .e) .e))) Tryz.func127 h
def L128:Y3:=λa b c d e f=>CR f a 184 #[b,c,d,vT] e λa b=>lX a λa c=>rt f (tP a c) b
theorem JB(h:L128 g a0 a1 a2 H R):sc g 128 #[a0,a1,a2] H R:=sd .e Tryz.func128 h
def L129:Y3:=λa b c d e f=>CR f a 184 #[b,c,d,vF] e λa b=>lX a λa c=>rt f (tP a c) b
theorem JA(h:L129 g a0 a1 a2 H R):sc g 129 #[a0,a1,a2] H R:=sd .e Tryz.func129 h
def L130:Y4:=λa b c d e f g=>CF a 180 #[b,d] f (λf h=>lX f λf i=>ae .ptr .neq b (.pointer none) λj=>lU j (λj=>Un .not i λi=>(lV h i j)) λj=>Br (Value.bool j) (rt g (tP (ui 0) (iv 2)) h) (av zQ 194 2 [(0,c),(1,e)] h λh i=>CF a 181 #[b,f,h] i (λf h=>lN f (iv 0) λi=>Br i (rt g (tP (ui 0) f) h) (CF a 183 #[b,c,d,vF] h (λf h=>lX f λi j=>Ext 2 f λf=>CF a 182 #[i,j,f] h (λf h=>lX f λf i=>lN i (iv 0) λj=>Br j (rt g (tP (ui 0) i) h) (CF a 183 #[b,c,d,vT] h (λc d=>lX c λh i=>Ext 2 c λc=>CF a 182 #[h,i,c] d (λc d=>lX c λc h=>lN h (iv 0) λi=>Br i (j3 zQ a 142 #[b,f] d λi=>rt g (tP (ui 0) h) i) (CF a 126 #[b,e,c,f] d (λd e=>lX d λd h=>j3 zQ a 142 #[b,c] e λc=>j3 zQ a 142 #[b,f] c λa=>rt g (tP d h) a) NS)) NS) NS)) NS) NS)) NS)) NS
theorem Jz(h:L130 g a0 a1 a2 a3 H R):sc g 130 #[a0,a1,a2,a3] H R:=
 zZ (hn:=(.n .e (.n .e (.n (.n (.h 0 [] [1] .e .e) .e) (hN 7 .e))))) Tryz.func130 h zK
def L131:Y1:=λ_ a b c=>lE a (iv 0) λd=>lO d (λd=>lE a (iv 1) λa=>(lV b a d)) λd=>rt c (Value.bool d) b
theorem Jy(h:L131 g a0 H R):sc g 131 #[a0] H R:=sd (.n .e (.n (.h 0 [] [1] .e .e) .e)) Tryz.func131 h
def L132:Y2:=λ_ a b c d=>ae .num .geq b (iv 0) λe=>lU e (λe=>lC 0 a λa=>ai 0 a λa=>Ld c a λa=>lL b a λa=>(lV c a e)) λe=>rt d (Value.bool e) c
theorem Jx(h:L132 g a0 a1 H R):sc g 132 #[a0,a1] H R:=sd (.n .e (.n (.h 0 [] [1] .e .e) .e)) Tryz.func132 h
def L133:Y2:=λ_ a b c d=>lM 6 a c λa=>cZ (.int .i64) (ui 0) true c a b λa=>lX a λ_ a=>rt d a c
theorem Jw(h:L133 g a0 a1 H R):sc g 133 #[a0,a1] H R:=sd .e Tryz.func133 h
def L134:Y3:=λa b c d e f=>ae .ptr .eql b (.pointer none) λg=>Br g (rt f (iv 10) e) (lG c (bi 6) λg=>lO g (λg=>lL d (iv 100) λh=>(lV e h g)) λg=>lO (Value.bool g) (λg=>lG d (iv 1000) λd=>(lV e d g)) λg=>Br (Value.bool g) (rt f (iv 1) e) (∀d:Jt,(∀g:zV,∀h:Hp,(∀_:Fr,
Br g (rt f (iv 6) h) (rt f (iv 0) h))->d [g] h)->lE c (bi 6) λc=>Split c true (CR f a 185 #[b] e λa b=>lG a (iv 12) λa=>aI vT a vF λa=>JE d [a] b) (aI vF undef vF λa=>JE d [a] e)))
theorem xj(h:L134 g a0 a1 a2 H R):sc g 134 #[a0,a1,a2] H R:=sd (.n .e (.n (.n (.n .e (.n .e (.n (.h 0 [] [1] .e .e) (.n .e (.h 1 [21] [] .e .e))))) .e) .e)) Tryz.func134 h
def L135:Y2:=λa b c d e=>lW d #[(iv 0),(iv 0),(iv 0),vF] 147 λd f=>CR e a 186 #[b,c] f λf g=>lN f (iv 0) λh=>Br h (Build zQ 147 [] λh=>St 4 g (pt d) h λh=>ay 4 h (pt d) λi=>rt e (tP i f) h) (CR e a 140 #[b] g λf g=>Build zQ 147 [(0,f)] λf=>lQ 4 g #[(iv 0),(iv 0),(iv 0),vF] 147 f λf g=>CR e a 187 #[b] g λg h=>aO g λi=>∃(j:Jt) (k:Mt),JE j [(iv 0)] h/\∀h:zV,∀l:Hp,j [h] l->∀_:Fr,
lL h i λi=>Br i (lI 1 g h l λg=>CR e a 188 #[b,g,c] l λc g=>lX c λc _=>lQ 4 g #[(iv 0),(iv 0),(iv 0),vF] 147 c λc g=>lD 2 (pt f) g λi=>lD 2 (pt c) g λc=>lA i c λc=>ai 2 (pt f) λi=>St 1 g i c λc=>lA h (iv 1) λg=>aC j k [g] c [h] l) (CR e a 140 #[b] l λa b=>ai 1 (pt f) λc=>St 1 b c a λa=>ay 4 a (pt f) λb=>St 4 a (pt d) b λa=>ay 4 a (pt d) λb=>rt e (tP b (iv 0)) a))
theorem Jv(h:L135 g a0 a1 H R):sc g 135 #[a0,a1] H R:=sd (hN 3 (.n (.n .e (.n (.h 0 [25] [0,1,4,7,23,24] .e .e) .e)) .e)) Tryz.func135 h
def L136:Y2:=λa b c d e=>lW d #[(iv 0),(iv 0),(iv 0),vF] 147 λd f=>CR e a 186 #[b,c] f λf g=>lN f (iv 0) λh=>Br h (Build zQ 147 [] λh=>St 4 g (pt d) h λh=>ay 4 h (pt d) λi=>rt e (.tuple #[i,(iv 0),f]) h) (CR e a 140 #[b] g λf g=>Build zQ 147 [(0,f)] λf=>lQ 4 g #[(iv 0),(iv 0),(iv 0),vF] 147 f λf g=>∃(h:Jt) (i:Mt),JE h [(iv 1)] g/\∀g:zV,∀j:Hp,h [g] j->∀_:Fr,
CR e a 135 #[b,c] j λa b=>lX a λa _=>lQ 4 b #[(iv 0),(iv 0),(iv 0),vF] 147 a λa b=>lD 2 (pt f) b λc=>lD 2 (pt a) b λk=>lA c k λc=>ai 2 (pt f) λk=>St 1 b k c λb=>lD 1 (pt a) b λc=>ai 1 (pt f) λk=>St 1 b k c λb=>lD 1 (pt a) b λc=>lD 0 (pt a) b λa=>ae .num .geq c a λa=>Br a (ay 4 b (pt f) λa=>St 4 b (pt d) a λa=>ay 4 a (pt d) λc=>rt e (.tuple #[c,g,(iv 0)]) a) (lA g (iv 1) λa=>aC h i [a] b [g] j))
theorem Ju(h:L136 g a0 a1 H R):sc g 136 #[a0,a1] H R:=sd (hN 4 (.n (.h 0 [9] [0,1,4,8] .e .e) .e)) Tryz.func136 h
def L137:Y2:=λa b c d e=>lW d #[(iv 0),(iv 0),(iv 0),vF] 147 λd f=>CR e a 189 #[b,c] f λf g=>lN f (iv 0) λh=>Br h (Build zQ 147 [] λh=>St 4 g (pt d) h λh=>ay 4 h (pt d) λi=>rt e (tP i f) h) (CR e a 190 #[b,c] g λf g=>CR e a 191 #[f,b,c] g λ_ a=>lC 1 f λb=>ay 4 a b λb=>St 4 a (pt d) b λa=>ay 4 a (pt d) λb=>rt e (tP b (iv 0)) a)
theorem Js(h:L137 g a0 a1 H R):sc g 137 #[a0,a1] H R:=sd .e Tryz.func137 h
def L138:Y1:=λ_ a b c=>lS a (bi 3) λa=>br .i64 a λa=>lA a (iv 2) λa=>rt c a b
theorem Jr(h:L138 g a0 H R):sc g 138 #[a0] H R:=sd .e Tryz.func138 h
def L139:Y1:=λa b c d=>lW c #[(iv 0),(iv 0),(iv 0),vF] 147 λc e=>ae .ptr .eql b (.pointer none) λf=>Br f (Build zQ 147 [] λf=>St 4 e (pt c) f λf=>ay 4 f (pt c) λg=>rt d (tP g (iv 10)) f) (CR d a 185 #[b] e λe f=>lG e (iv 12) λe=>Br e (Build zQ 147 [] λe=>St 4 f (pt c) e λe=>ay 4 e (pt c) λg=>rt d (tP g (iv 6)) e) (CR d a 192 #[b] f λe f=>aO e λg=>∃(h:Jt) (i:Mt),JE h [(.slice none 0 0),(iv 0)] f/\∀f j:zV,∀k:Hp,h [f,j] k->∀_:Fr,
lL j g λg=>Br g (lI 1 e j k λe=>CR d a 193 #[b,e] k λe g=>lX e λe _=>lQ 2 g #[(iv 0),(.slice none 0 0)] 116 e λe g=>ay 2 g (pt e) λe=>av zQ 66 1 [(0,e)] g λe g=>App zQ 116 2 32 (.agg #[(iv 0),(.slice none 0 0)]) g f e λe g=>lA j (iv 1) λl=>aC h i [e,l] g [f,j] k) (CR d a 140 #[b] k λe g=>CR d a 194 #[f] g λf g=>lX f λh i=>Ext 2 f λ_=>lE e h λf=>Br f (Build zQ 147 [(0,e),(1,e),(3,vT)] λf=>St 4 g (pt c) f λf=>ay 4 f (pt c) λh=>rt d (tP h (iv 0)) f) (CR d a 195 #[b,i] g λf g=>lX f λf h=>CR d a 140 #[b] g λa b=>lE h (iv 0) λg=>Build zQ 147 [(0,e),(1,a),(2,f),(3,g)] λa=>St 4 b (pt c) a λa=>ay 4 a (pt c) λb=>rt d (tP b (iv 0)) a))))
theorem Jq(h:L139 g a0 H R):sc g 139 #[a0] H R:=sd (hN 4 (.n (.n .e (.n (.h 0 [4,25] [0,2,23,24] .e .e) .e)) .e)) Tryz.func139 h
def L140:Y1:=λa b c d=>ae .ptr .eql b (.pointer none) λe=>Br e (rt d (iv 0) c) (lC 0 b λb=>ai 0 b λb=>Ld c b λb=>CR d a 196 #[b] c λa b=>lS a (iv 2) λa=>rt d a b)
theorem Jp(h:L140 g a0 H R):sc g 140 #[a0] H R:=sd .e Tryz.func140 h
def L141:Y2:=λa b c d e=>ae .ptr .eql b (.pointer none) λf=>Br f (rt e (iv 10) d) (lC 0 b λf=>CR e a 197 #[f,c] d λa d=>Un .not a λa=>Br a (rt e (iv 3) d) (∀a:Jt,(∀f:Hp,(∀_:Fr,
lC 7 b λg=>St 1 f g (.slice none 0 0) λg=>rt e (iv 0) g)->a [] f)->lG c (ui 1) λf=>Br f (lC 0 b λf=>ai 3 f λf=>Ld d f λf=>lI 1 f c d λf=>lE f (Value.int .i32 65535) λf=>Br f (rt e (iv 8) d) (lC 0 b λe=>ai 3 e λe=>Ld d e λe=>lI 1 e c d λf=>lA f (Value.int .i32 1) λf=>au 1 e c λe=>St 1 d e f λe=>lC 0 b λf=>ai 3 f λf=>Ld e f λf=>lI 1 f c e λf=>lE f (Value.int .i32 1) λf=>Br f (lC 0 b λb=>ai 2 b λb=>Ld e b λb=>lI 1 b c e λf=>lA f (Value.int .i32 1) λf=>au 1 b c λb=>St 1 e b f λb=>JE a [] b) (JE a [] e))) (JE a [] d)))
theorem xh(h:L141 g a0 a1 H R):sc g 141 #[a0,a1] H R:=sd (.n .e (.n .e (.h 1 [] [0] .e .e))) Tryz.func141 h
def L142:Y2:=λa b c d e=>ae .ptr .eql b (.pointer none) λf=>Br f (rt e (iv 10) d) (∀f:Jt,(∀g:Hp,(∀_:Fr,
lC 7 b λh=>St 1 g h (.slice none 0 0) λh=>rt e (iv 0) h)->f [] g)->lG c (ui 1) λg=>Br g (CR e a 198 #[b,c] d λg h=>lE g (iv 0) λg=>Br g (rt e (iv 3) h) (lC 0 b λg=>ai 3 g λg=>Ld h g λg=>lI 1 g c h λi=>lS i (Value.int .i32 1) λi=>au 1 g c λg=>St 1 h g i λg=>lC 0 b λh=>ai 3 h λh=>Ld g h λh=>lI 1 h c g λh=>lE h (Value.int .i32 0) λh=>Br h (lC 0 b λb=>CR e a 199 #[b,c] g λ_ a=>JE f [] a) (JE f [] g))) (JE f [] d))
theorem xg(h:L142 g a0 a1 H R):sc g 142 #[a0,a1] H R:=sd (.n .e (.n .e (.h 1 [] [0] .e .e))) Tryz.func142 h
theorem D0(h:L142 g a0 a1 H R):kL zQ g 142 #[a0,a1] H R:=
 z5 (hn:=(.n .e (.n .e (.h 1 [] [0] .e .e)))) Tryz.func142 h zK
def L143:Y2:=λa b c d e=>lW d #[(iv 0),(iv 0),(wi 0),(iv 0)] 37 λd f=>lN c (iv 0) λg=>Br g (CR e a 41 #[c] f λa c=>St 4 c (pt d) a λa=>ay 4 a (pt d) λc=>rt e c a) (Build zQ 37 [(1,(iv (-1))),(2,b)] λa=>St 4 f (pt d) a λa=>ay 4 a (pt d) λb=>rt e b a)
theorem Jo(h:L143 g a0 a1 H R):sc g 143 #[a0,a1] H R:=sd .e Tryz.func143 h
def L144:Y3:=λa b c d e f=>av zQ 194 1 [(0,c)] e λe g=>CR f a 200 #[b,e] g λe g=>lN e (iv 0) λh=>Br h (rt f (tP vF e) g) (∃(e:Jt) (h:Mt),JE e [c] g/\∀c:zV,∀g:Hp,e [c] g->∀_:Fr,
CR f a 201 #[c] g λi j=>Un .not i λi=>Br i (CR f a 202 #[b,c] j λa b=>lQ 3 b #[(iv 0),(ui 0),(ui 0)] 226 a λa b=>lD 1 (pt a) b λi=>lD 0 (pt a) b λk=>ae .num .shr d k λd=>ae .num .and d (wi 1) λd=>lE d (wi 1) λd=>Br d (lD 2 (pt a) b λa=>aC e h [a] b [c] g) (aC e h [i] b [c] g)) (lE c (ui 1) λa=>rt f (tP a (iv 0)) j))
theorem Jn(h:L144 g a0 a1 a2 H R):sc g 144 #[a0,a1,a2] H R:=sd (.n .e (.n .e (.n (.n (.h 0 [1] [0,2] .e .e) .e) .e))) Tryz.func144 h
def L145:Y1:=λ_ a b c=>Br a (rt c (wi 1) b) (rt c (wi 0) b)
theorem Jm(h:L145 g a0 H R):sc g 145 #[a0] H R:=sd .e Tryz.func145 h
def L146:Y2:=λa b c d e=>cy d (.cells (Value.cells b) 85 (0,0)) λb d=>Ld d (pt b) λf=>av zQ 194 1 [(0,c)] d λd g=>CR e a 200 #[f,d] g λd f=>lN d (iv 0) λg=>Br g (rt e (tP (wi 0) d) f) (lW f #[.nilFunc] 260 λd f=>St 1 f (pt d) (.func (.func 203) #[] #[(pt b)]) λf=>Ld f (pt b) λg=>CR e a 204 #[g,c,(wi 0),(wi 1),(.func (.func 205) #[] #[(pt b),(pt d)])] f λb f=>Ld f (pt d) λd=>aL zQ a d #[c] f (λa c=>ae .num .shl b a λa=>rt e (tP a (iv 0)) c) (dz e))
theorem Jl(h:L146 g a0 a1 H R):sc g 146 #[a0,a1] H R:=sd .e Tryz.func146 h
def L147:Y2:=λa b c d e=>CR e a 200 #[b,c] d λd f=>lN d (iv 0) λg=>Br g (rt e (tP (iv 0) d) f) (lQ 1 f #[(iv 0)] 3 (iv 0) λd f=>CR e a 206 #[b,c,(.func (.func 207) #[] #[(pt d)])] f λ_ a=>Ld a (pt d) λb=>rt e (tP b (iv 0)) a)
theorem Jk(h:L147 g a0 a1 H R):sc g 147 #[a0,a1] H R:=sd .e Tryz.func147 h
def L148:Y2:=λa b c d e=>CR e a 208 #[b,c,(wi 0)] d λa b=>lX a λa c=>rt e (tP a c) b
theorem xf(h:L148 g a0 a1 H R):sc g 148 #[a0,a1] H R:=sd .e Tryz.func148 h
def L149:Y2:=λa b c d e=>av zQ 194 1 [(0,c)] d λd f=>CR e a 200 #[b,d] f λd f=>lN d (iv 0) λg=>Br g (rt e (tP (wi 0) d) f) (lQ 1 f #[(wi 0)] 33 (wi 0) λd f=>av zQ 194 1 [(0,c)] f λc f=>CR e a 206 #[b,c,(.func (.func 209) #[] #[(pt d)])] f λ_ a=>Ld a (pt d) λb=>rt e (tP b (iv 0)) a)
theorem Jj(h:L149 g a0 a1 H R):sc g 149 #[a0,a1] H R:=sd .e Tryz.func149 h
def L150:Y2:=λa b c d e=>ae .ptr .eql b (.pointer none) λf=>Br f (rt e (tP (iv 0) (iv 10)) d) (CR e a 210 #[b,c] d λa d=>Un .not a λa=>Br a (rt e (tP (iv 0) (iv 2)) d) (lM 6 b d λa=>lI 1 a c d λa=>rt e (tP a (iv 0)) d))
theorem qh(h:L150 g a0 a1 H R):sc g 150 #[a0,a1] H R:=sd .e Tryz.func150 h
def L151:Y2:=λa b c d e=>ae .ptr .eql b (.pointer none) λf=>Br f (rt e (iv 10) d) (lL c (iv 0) λf=>lO f (λf=>lM 4 b d λg=>lS g (iv 2) λg=>lG c g λg=>(lV d g f)) λf=>Br (Value.bool f) (rt e (iv 1) d) (CR e a 211 #[b,c] d λa d=>Un .not a λa=>Br a (rt e (iv 9) d) (lM 7 b d λa=>av zQ 43 1 [(0,c)] d λc d=>App zQ 3 1 8 (iv 0) d a c λa c=>lC 7 b λb=>St 1 c b a λa=>rt e (iv 0) a)))
theorem xe(h:L151 g a0 a1 H R):sc g 151 #[a0,a1] H R:=sd (.n .e (.n (.n (.n .e (.n .e (.n (.h 0 [] [1] .e .e) .e))) .e) .e)) Tryz.func151 h
def L154:Y1:=λa b c d=>Br vF (br .u32 b λe=>CR d a 221 #[e] c λe f=>rt d e f) (CR d a 222 #[b] c λa b=>rt d a b)
theorem Ji(h:L154 g a0 H R):sc g 154 #[a0] H R:=sd .e Tryz.func154 h
def L175:Y4:=λa b c d e f g=>ae .ptr .eql b (.pointer none) λh=>Br h (rt g (tP (ui 0) (iv 10)) f) (CR g a 243 #[b,c,d,e] f λf h=>lN f (iv 0) λi=>Br i (rt g (tP (ui 0) f) h) (CR g a 244 #[b,c,d,e] h λf h=>lX f λf i=>∀j:Jt,(∀k:zV,∀l:Hp,(∀_:Fr,
CR g a 141 #[b,k] l λm n=>lN m (iv 0) λo=>Br o (rt g (tP (ui 0) m) n) (rt g (tP k (iv 0)) n))->j [k] l)->Un .not i λi=>Br i (lC 0 b λi=>CR g a 245 #[i,(iv 1)] h λi k=>Un .not i λi=>Br i (rt g (tP (ui 0) (iv 9)) k) (lC 0 b λb=>Build zQ 226 [(0,c),(1,d),(2,e)] λc=>CR g a 246 #[b,c] k λa b=>JE j [a] b)) (JE j [f] h)))
theorem Jh(h:L175 g a0 a1 a2 a3 H R):sc g 175 #[a0,a1,a2,a3] H R:=sd (hN 4 (.h 1 [11] [0] .e .e)) Tryz.func175 h
def L176:Y4:=λa b c d e f g=>cy f (.cells (Value.cells c) 5 (0,0)) λc f=>ae .ptr .eql b (.pointer none) λh=>Br h (rt g (tP (ui 0) (iv 10)) f) (Ld f (pt c) λh=>lG h (bi 15) λh=>Br h (rt g (tP (ui 0) (iv 1)) f) (av zQ 194 2 [(0,d),(1,e)] f λf h=>CR g a 177 #[b,f] h λb f=>lX b λb h=>lN h (iv 0) λi=>Br i (rt g (tP (ui 0) h) f) (Build zQ 236 [(0,d),(1,e)] λd=>CR g a 178 #[b,d,(.func (.func 247) #[] #[(pt c)])] f λa b=>lX a λa c=>rt g (tP a c) b)))
theorem Jg(h:L176 g a0 a1 a2 a3 H R):sc g 176 #[a0,a1,a2,a3] H R:=sd .e Tryz.func176 h
def L177:Y2:=λa b c d e=>ae .ptr .eql b (.pointer none) λf=>Br f (rt e (tP (.pointer none) (iv 10)) d) (aO c λf=>∃(g:Jt) (h:Mt),JE g [(iv 0)] d/\∀d:zV,∀i:Hp,g [d] i->∀_:Fr,
lL d f λf=>Br f (lI 1 c d i λc=>CR e a 249 #[b,c] i λc f=>lX c λc j=>lQ 3 f #[(iv 0),(ui 0),(ui 0)] 226 c λ_ c=>lN j (iv 0) λf=>Br f (rt e (tP (.pointer none) j) c) (lA d (iv 1) λf=>aC g h [f] c [d] i)) (CR e a 185 #[b] i λc d=>cU 3 1 8 (iv 0) d c c λc d=>Build zQ 305 [(0,b),(1,c)] λc=>cy d (.cells (Value.cells c) 305 (0,0)) λc d=>CR e a 65 #[b] d λa b=>aO a λd=>∃(f:Jt) (g:Mt),JE f [(iv 0)] b/\∀b:zV,∀h:Hp,f [b] h->∀_:Fr,
lL b d λd=>Br d (lI 1 a b h λa=>lM 1 (pt c) h λd=>au 1 d a λa=>St 1 h a b λa=>lA b (iv 1) λd=>aC f g [d] a [b] h) (rt e (tP (pt c) (iv 0)) h)))
theorem Jf(h:L177 g a0 a1 H R):sc g 177 #[a0,a1] H R:=sd (.n .e (.n .e (.n (.n .e (.n (.h 0 [17] [0,15,16] .e .e) .e)) (.n .e (.n (.n .e (.n (.h 0 [40] [10,38,39] .e .e) .e)) .e))))) Tryz.func177 h
def L178:Y3:=λa b c d e f=>cy e (.cells (Value.cells b) 231 (0,0)) λb e=>cy e (.cells (Value.cells c) 236 (0,0)) λc e=>cy e (.cells (Value.cells d) 237 (0,0)) λd e=>lW e #[(ui 0)] 110 λe g=>lW g #[(iv 0)] 27 λg h=>gG h λh i=>lQ 1 i #[(.map none)] 307 h λh i=>lW i #[.nilFunc] 308 λi j=>St 1 j (pt i) (.func (.func 252) #[] #[(pt h),(pt b),(pt d),(pt i)]) λd=>Ld d (pt i) λh=>ay 3 d (pt c) λc=>aL zQ a h #[c] d (λc d=>lX c λc h=>St 1 d (pt e) c λc=>St 1 c (pt g) h λc=>j3 zQ a 250 #[(pt b),(pt e),(pt g)] c λa=>Ld a (pt e) λb=>Ld a (pt g) λc=>rt f (tP b c) a) NS
theorem Je(h:L178 g a0 a1 a2 H R):sc g 178 #[a0,a1,a2] H R:=
 zZ (hn:=(.n .e (.n .e .e))) Tryz.func178 h zK
def L179:Y3:=λ_ a b c d e=>lU a (λf=>(lV d b f)) λf=>lO (Value.bool f) (λb=>Un .not a λa=>cf a true (λa=>(lV d c a)) (λa=>vF=Value.bool a) λa=>∀_:Fr,
(lV d (Value.bool a) b)) λb=>rt e (Value.bool b) d
theorem Jd(h:L179 g a0 a1 a2 H R):sc g 179 #[a0,a1,a2] H R:=sd (.n .e (.n (.h 0 [] [1] .e .e) .e)) Tryz.func179 h
def L180:Y2:=λa b c d e=>∀f:Jt,(∀g:zV,∀h:Hp,(∀_:Fr,
Br g (rt e (tP (wi 0) vF) h) (ae .num .shl (wi 1) c λi=>rt e (tP i vT) h))->f [g] h)->lL c (iv 0) λg=>Split g false (ae .ptr .neq b (.pointer none) λg=>Split g true (CR e a 185 #[b] d λa b=>ae .num .geq c a λa=>aI vT a vF λa=>aI vF vT a λa=>JE f [a] b) (aI vF undef vF λa=>aI vF vT a λa=>JE f [a] d)) (aI vT vT undef λa=>JE f [a] d)
theorem Jc(h:L180 g a0 a1 H R):sc g 180 #[a0,a1] H R:=sd (.n .e (.n (.h 1 [17] [1] .e .e) .e)) Tryz.func180 h
def L181:Y3:=λa b c d e f=>ae .ptr .eql b (.pointer none) λg=>Br g (rt f (iv 10) e) (CR f a 185 #[b] e λe g=>ae .num .shr c e λc=>lN c (wi 0) λc=>Br c (rt f (iv 2) g) (aO d λc=>∃(e:Jt) (h:Mt),JE e [(iv 0)] g/\∀g:zV,∀i:Hp,e [g] i->∀_:Fr,
lL g c λc=>Br c (lI 1 d g i λc=>CR f a 249 #[b,c] i λa b=>lX a λa c=>lQ 3 b #[(iv 0),(ui 0),(ui 0)] 226 a λ_ a=>lN c (iv 0) λb=>Br b (rt f (iv 3) a) (lA g (iv 1) λb=>aC e h [b] a [g] i)) (rt f (iv 0) i)))
theorem Jb(h:L181 g a0 a1 a2 H R):sc g 181 #[a0,a1,a2] H R:=sd (hN 3 (.n (.n .e (.n (.h 0 [20] [0,18,19] .e .e) .e)) .e)) Tryz.func181 h
def L182:Y3:=λ_ a b c d e=>lN c (iv 0) λf=>Br f (rt e (tP (ui 0) c) d) (Un .not b λb=>Br b (rt e (tP (ui 0) (iv 8)) d) (rt e (tP a (iv 0)) d))
theorem qg(h:L182 g a0 a1 a2 H R):sc g 182 #[a0,a1,a2] H R:=sd .e Tryz.func182 h
def L183:Y4:=λa b c d e f g=>cy f (.cells (Value.cells c) 110 (0,0)) λc f=>cy f (.cells (Value.cells d) 3 (0,0)) λd f=>cy f (.cells (Value.cells e) 4 (0,0)) λe f=>CR g a 256 #[b,(.func (.func 257) #[] #[(pt c),(pt d),(pt e)])] f λa b=>lX a λc d=>Ext 2 a λa=>rt g (.tuple #[c,d,a]) b
theorem Ja(h:L183 g a0 a1 a2 a3 H R):sc g 183 #[a0,a1,a2,a3] H R:=sd .e Tryz.func183 h
def L184:Y4:=λa b c d e f g=>av zQ 194 1 [(0,c)] f λf h=>CR g a 181 #[b,d,f] h λf h=>lN f (iv 0) λi=>Br i (rt g (tP (ui 0) f) h) (lE d (wi 0) λf=>Br f (CR g a 141 #[b,c] h λf i=>lN f (iv 0) λj=>Br j (rt g (tP (ui 0) f) i) (rt g (tP c (iv 0)) i)) (CR g a 185 #[b] h λf h=>∃(i:Jt) (j:Mt),JE i [c,vF,(iv 0)] h/\∀c h k:zV,∀l:Hp,i [c,h,k] l->∀_:Fr,
lL k f λf=>Br f (∀f:Jt,(∀m n:zV,∀o:Hp,(∀_:Fr,
lA k (iv 1) λp=>aC i j [m,n,p] o [c,h,k] l)->f [m,n] o)->ae .num .shr d k λd=>ae .num .and d (wi 1) λd=>lE d (wi 0) λd=>Br d (JE f [c,h] l) (CR g a 260 #[b,c,k,e] l λd e=>lX d λi j=>Ext 2 d λd=>CR g a 182 #[i,j,d] e λd e=>lX d λd i=>∀j:Jt,(∀k:Hp,(∀_:Fr,
lN i (iv 0) λm=>Br m (rt g (tP (ui 0) i) k) (JE f [d,vT] k))->j [] k)->Br h (CR g a 142 #[b,c] e λ_ a=>JE j [] a) (JE j [] e))) (rt g (tP c (iv 0)) l)))
theorem I9(h:L184 g a0 a1 a2 a3 H R):sc g 184 #[a0,a1,a2,a3] H R:=sd (hN 4 (.n (.n .e (.n (.h 0 [12,13,37] [0,2,3,36] (.n .e (.n .e (.h 1 [12,13] [0,2,3,36,37] (.n (hN 3 (.h 1 [] [0,2,3,15,16,36,37] .e .e)) .e) .e))) .e) .e)) .e)) Tryz.func184 h
def L185:Y1:=λ_ a b c=>ae .ptr .eql a (.pointer none) λd=>Br d (rt c (iv 0) b) (lM 4 a b λa=>rt c a b)
theorem I8(h:L185 g a0 H R):sc g 185 #[a0] H R:=sd .e Tryz.func185 h
def L186:Y2:=λ_ a b c d=>ae .ptr .eql a (.pointer none) λa=>Br a (rt d (iv 10) c) (lL b (iv 100) λa=>lO a (λa=>lG b (iv 1000) λb=>(lV c b a)) λa=>Br (Value.bool a) (rt d (iv 1) c) (rt d (iv 0) c))
theorem I7(h:L186 g a0 a1 H R):sc g 186 #[a0,a1] H R:=sd (.n .e (.n (.n (.n .e (.n .e (.n (.h 0 [] [1] .e .e) .e))) .e) .e)) Tryz.func186 h
def L187:Y1:=λa b c d=>ae .ptr .eql b (.pointer none) λe=>Br e (rt d (.slice none 0 0) c) (CR d a 261 #[] c λc e=>CR d a 185 #[b] e λe f=>∃(g:Jt) (h:Mt),JE g [(iv 0)] f/\∀f:zV,∀i:Hp,g [f] i->∀_:Fr,
lL f e λe=>Br e (CR d a 262 #[b,f] i λb e=>lX b λb _=>Un .neg b λb=>CR d a 263 #[c,f,b] e λ_ b=>lA f (iv 1) λe=>aC g h [e] b [f] i) (∃(b:Jt) (e:Mt),JE b [(.slice none 0 0)] i/\∀f:zV,∀g:Hp,b [f] g->∀_:Fr,
CR d a 264 #[c] g λh i=>lG h (iv 0) λh=>Br h (CR d a 265 #[c] i λa c=>lX a λh _=>Ext 2 a λ_=>av zQ 43 1 [(0,h)] c λa c=>App zQ 3 1 8 (iv 0) c f a λa c=>aC b e [a] c [f] g) (rt d f i)))
theorem I6(h:L187 g a0 H R):sc g 187 #[a0] H R:=sd (hN 3 (.n (.n .e (.n (.h 0 [16] [0,3,15] .e .e) .e)) (.n .e (.n (.n (.h 0 [7] [3] .e .e) .e) .e)))) Tryz.func187 h
def L188:Y3:=λa b c d e f=>lW e #[(iv 0),(iv 0),(iv 0),vF] 147 λe g=>CR f a 186 #[b,d] g λg h=>lN g (iv 0) λi=>Br i (Build zQ 147 [] λi=>St 4 h (pt e) i λi=>ay 4 i (pt e) λj=>rt f (tP j g) i) (CR f a 150 #[b,c] h λc g=>lX c λc h=>lN h (iv 0) λi=>Br i (Build zQ 147 [] λi=>St 4 g (pt e) i λi=>ay 4 i (pt e) λj=>rt f (tP j h) i) (CR f a 140 #[b] g λg h=>Build zQ 147 [(0,g)] λg=>lQ 4 h #[(iv 0),(iv 0),(iv 0),vF] 147 g λg h=>lD 0 (pt g) h λi=>Build zQ 324 [(0,b),(1,c),(2,i),(3,c),(4,d)] λd=>cy h (.cells (Value.cells d) 324 (0,0)) λd h=>CR f a 185 #[b] h λh i=>lS h (iv 1) λh=>lS h c λh=>ae .num .leq h c λh=>CR f a 266 #[(pt d),h] i λ_ i=>CR f a 267 #[(pt d)] i λ_ i=>CR f a 268 #[(pt d),c] i λ_ i=>lM 3 (pt d) i λj=>Un .not h λk=>CR f a 266 #[(pt d),k] i λ_ i=>CR f a 267 #[(pt d)] i λ_ i=>∀k:Jt,(∀l:Hp,(∀_:Fr,
DR l λm=>lM 5 (pt d) m λn=>∀o:Hp,
CN (a.add o) 140 #[b] l λb o=>aM o m/\
ai 1 (pt g) λp=>∀_:Hp,
St 1 o p b λb=>aM b m/\
ai 2 (pt g) λm=>∀_:Hp,
St 1 b m n λb=>ay 4 b (pt g) λg=>St 4 b (pt e) g λb=>ay 4 b (pt e) λe=>rt f (tP e (iv 0)) b)->k [] l)->lM 3 (pt d) i λb=>lN b j λb=>Br b (lM 3 (pt d) i λb=>CR f a 268 #[(pt d),b] i λ_ b=>JE k [] b) (CR f a 268 #[(pt d),c] i λ_ b=>CR f a 266 #[(pt d),h] b λ_ b=>∃(c:Jt) (e:Mt),JE c [] b/\∀b:Hp,c [] b->∀_:Fr,
∀f:Jt,(∀g:zV,∀h:Hp,(∀_:Fr,
Br g (aC c e [] h [] b) (JE k [] h))->f [g] h)->DR b λc=>lM 1 (pt d) c λe=>lM 3 (pt d) c λg=>lN e g λe=>Br e (lM 7 (pt d) c λc=>∀d:Hp,
aL zQ (a.add d) c #[] b (λa c=>lE a (iv 0) λa=>aI vT a vF λa=>JE f [a] c) fI) (JE f [vF] b))))
theorem I5(h:L188 g a0 a1 a2 H R):sc g 188 #[a0,a1,a2] H R:=sd (hN 13 (.h 1 [] [0,6,11,12] (hN 4 (.n (.h 0 [] [0,6,11,12] (.n (.h 1 [102] [0,6,11,12] (.h 1 [] [] (hr 0 [1] 0 9 (.h 2 [9] [] (hr 0 [1] 10 7 .e) (hr 0 [1] 10 6 (.h 3 [16] [1] .e .e)))) .e) .e) .e) .e) .e)) (.n (.h 1 [] [] (.h 0 [0] [1] (hr 0 [1] 2 4 (.h 0 [1] [1] (hr 0 [1] 6 4 .e) .e)) .e) .e) .e))) Tryz.func188 h
def L189:Y2:=λ_ a b c d=>ae .ptr .eql a (.pointer none) λa=>Br a (rt d (iv 10) c) (lL b (iv 2) λa=>lO a (λa=>lG b (iv 4) λb=>(lV c b a)) λa=>Br (Value.bool a) (rt d (iv 1) c) (rt d (iv 0) c))
theorem I4(h:L189 g a0 a1 H R):sc g 189 #[a0,a1] H R:=sd (.n .e (.n (.n (.n .e (.n .e (.n (.h 0 [] [1] .e .e) .e))) .e) .e)) Tryz.func189 h
def L190:Y2:=λa b c d e=>cy d (.cells (Value.cells b) 85 (0,0)) λb d=>DR d λf=>Ld f (pt b) λg=>Ld f (pt b) λh=>CN a 140 #[g] d λd g=>aM g f/\
CN a 140 #[h] g λg h=>aM h f/\
Build zQ 147 [(0,d),(1,g)] λd=>Build zQ 252 [(1,d)] λd=>cy h (.cells (Value.cells d) 252 (0,0)) λd g=>aM g f/\
CR e a 269 #[c] g λa c=>lX a λa _=>lQ 1 c #[(.slice none 0 0)] 43 a λa c=>lC 0 (pt d) λf=>St 1 c f (.func (.func 270) #[] #[(pt b),(pt a)]) λa=>rt e (pt d) a
theorem I3(h:L190 g a0 a1 H R):sc g 190 #[a0,a1] H R:=sd (.n .e (.n (.h 0 [0,2,1,3,4,5,6,7] [] .e .e) .e)) Tryz.func190 h
def L191:Y3:=λa b c d e f=>∃(g:Jt) (h:Mt),JE g [(iv 0)] e/\∀e:zV,∀i:Hp,g [e] i->∀_:Fr,
lA e d λd=>CR f a 185 #[c] i λj k=>ae .num .leq d j λd=>Br d (CR f a 274 #[b,c,e] k λ_ a=>lA e (iv 1) λb=>aC g h [b] a [e] i) (rt f (.tuple #[]) k)
theorem I2(h:L191 g a0 a1 a2 H R):sc g 191 #[a0,a1,a2] H R:=sd (.n .e (.n (.h 0 [6] [0,1,2] .e .e) .e)) Tryz.func191 h
def L192:Y1:=λ_ a b c=>ae .ptr .eql a (.pointer none) λd=>Br d (rt c (.slice none 0 0) b) (lC 0 a λa=>ai 3 a λa=>Ld b a λa=>aO a λd=>∃(e:Jt) (f:Mt),JE e [(.slice none 0 0),(iv 0)] b/\∀b g:zV,∀h:Hp,e [b,g] h->∀_:Fr,
lL g d λd=>Br d (∀d:Jt,(∀i:zV,∀j:Hp,(∀_:Fr,
lA g (iv 1) λk=>aC e f [i,k] j [b,g] h)->d [i] j)->lI 1 a g h λa=>lG a (Value.int .i32 0) λa=>Br a (br .u32 g λa=>av zQ 194 1 [(0,a)] h λa e=>App zQ 110 1 4 (ui 0) e b a λa e=>JE d [a] e) (JE d [b] h)) (rt c b h))
theorem I1(h:L192 g a0 H R):sc g 192 #[a0] H R:=sd (hN 3 (.n (.n .e (.n (.h 0 [3,14] [12,13] (.n .e (.n .e (.h 1 [3] [12,13,14] .e .e))) .e) .e)) .e)) Tryz.func192 h
def L193:Y2:=λa b c d e=>lW d #[(iv 0),(.slice none 0 0)] 116 λd f=>av zQ 194 1 [(0,c)] f λf g=>CR e a 200 #[b,f] g λf g=>lN f (iv 0) λh=>Br h (Build zQ 116 [] λh=>St 2 g (pt d) h λh=>ay 2 h (pt d) λi=>rt e (tP i f) h) (CR e a 185 #[b] g λf g=>lQ 1 g #[(iv 0)] 3 f λf g=>Ld g (pt f) λh=>lG h (iv 16) λh=>Br h (Build zQ 116 [] λh=>St 2 g (pt d) h λh=>ay 2 h (pt d) λi=>rt e (tP i (iv 6)) h) (Ld g (pt f) λh=>CR e a 275 #[h,vF] g λg h=>lX g λg _=>lQ 2 h #[(iv 0),(.slice none 0 0)] 116 g λg h=>Ld h (pt f) λi=>CR e a 275 #[i,vT] h λh i=>lX h λh _=>lQ 2 i #[(iv 0),(.slice none 0 0)] 116 h λh i=>ay 2 i (pt g) λg=>ay 2 i (pt h) λh=>CR e a 276 #[b,c,g,h,(.func (.func 277) #[] #[(pt f)])] i λa b=>St 2 b (pt d) a λa=>ay 2 a (pt d) λb=>rt e (tP b (iv 0)) a))
theorem I0(h:L193 g a0 a1 H R):sc g 193 #[a0,a1] H R:=sd .e Tryz.func193 h
def L194:Y1:=λa b c d=>CR d a 280 #[b] c λb c=>lX b λb e=>lN e (iv 0) λf=>Br f (rt d (.tuple #[(iv 0),(.slice none 0 0),e]) c) (lM 1 b c λe=>lG e (iv 12) λe=>Br e (rt d (.tuple #[(iv 0),(.slice none 0 0),(iv 6)]) c) (∃(e:Jt) (f:Mt),JE e [(.slice none 0 0),(iv 0)] c/\∀c g:zV,∀h:Hp,e [c,g] h->∀_:Fr,
aO c λi=>lM 1 b h λj=>lL i j λi=>Br i (lM 1 b h λi=>∃(j:Jt) (k:Mt),JE j [c,g,(iv 0)] h/\∀l m n:zV,∀o:Hp,j [l,m,n] o->∀_:Fr,
lL n i λi=>Br i (∀i:Jt,(∀p:zV,∀q:Hp,(∀_:Fr,
Br p (av zQ 43 1 [(0,n)] q λr s=>App zQ 3 1 8 (iv 0) s l r λr s=>ae .num .shl (iv 1) n λt=>ae .num .or m t λt=>aC e f [r,t] s [c,g] h) (lA n (iv 1) λr=>aC j k [l,m,r] q [l,m,n] o))->i [p] q)->DR o λ_=>ae .num .shr m n λj=>ae .num .and j (iv 1) λj=>lE j (iv 0) λj=>Br j (ae .num .shl (iv 1) n λj=>ae .num .or m j λj=>∀k:Hp,
CN (a.add k) 281 #[b,m,n] o λk n=>∀p:Hp,
CN (a.add p) 282 #[b,j] n λj n=>lA k j λj=>∀k:Hp,
CN (a.add k) 282 #[b,m] n λk n=>lE j k λj=>aI vT j vF λj=>JE i [j] n) (JE i [vF] o)) (aC e f [l,m] o [c,g] h)) (CR d a 282 #[b,(iv 0)] h λa b=>rt d (.tuple #[a,c,(iv 0)]) b)))
theorem IZ(h:L194 g a0 H R):sc g 194 #[a0] H R:=sd (hN 6 (.n (.n (.h 0 [7,8] [5] (.n .e (.n (.n .e (.n (.h 0 [7,8,34] [5,33] (.n .e (.n .e (.n (.n (.n .e (.h 1 [58] [5,7,8,9,33,34] (.h 1 [] [] (hr 0 [] 0 5 (.h 2 [5] [] (hr 0 [] 6 3 (hr 0 [] 10 5 (hr 0 [] 17 2 (.h 0 [9] [] (hr 0 [] 15 2 (hr 0 [] 19 3 .e)) .e)))) (hr 0 [] 6 15 (.h 3 [21] [] .e .e)))) .e) .e)) .e) .e))) .e) .e)) .e)) .e) .e) .e)) Tryz.func194 h
variable {g:Gh} {a0 a1 a2 a3 a4 a5 a6 a7 a8 a9 tu tt a12 a13 a14 a15:zV} {H:Hp} {R:Rt}
def L195:Y2:=λa b c d e=>ae .ptr .eql b (.pointer none) λf=>Br f (rt e (tP (iv 0) (iv 10)) d) (∀f:Jt,(∀g:zV,∀h:Hp,(∀_:Fr,
Br g (rt e (tP (iv 0) (iv 4)) h) (CR e a 65 #[b] h λi j=>CR e a 284 #[i,c] j λi j=>lX i λi k=>lN k (iv 0) λl=>Br l (rt e (tP (iv 0) k) j) (CR e a 285 #[b,i] j λi j=>lX i λi k=>rt e (tP i k) j)))->f [g] h)->CR e a 283 #[c] d λd g=>lN d (iv 0) λd=>Split d false (aO c λc=>CR e a 185 #[b] g λa b=>lN c a λa=>aI vF vT a λa=>JE f [a] b) (aI vT vT undef λa=>JE f [a] g))
theorem IY(h:L195 g a0 a1 H R):sc g 195 #[a0,a1] H R:=sd (.n .e (.n .e (.n (.h 1 [19] [0,1] .e .e) .e))) Tryz.func195 h
def L196:Y1:=λ_ a b c=>ae .ptr .eql a (.pointer none) λd=>Br d (rt c (iv 0) b) (lM 3 a b λa=>rt c a b)
theorem IX(h:L196 g a0 H R):sc g 196 #[a0] H R:=sd .e Tryz.func196 h
def L197:Y2:=λa b c d e=>lM 0 b d λb=>CR e a 286 #[b,c] d λa b=>lX a λa c=>lQ 3 b #[(iv 0),(ui 0),(ui 0)] 226 a λ_ a=>lE c (iv 0) λb=>rt e b a
theorem IW(h:L197 g a0 a1 H R):sc g 197 #[a0,a1] H R:=sd .e Tryz.func197 h
def L198:Y2:=λ_ a b c d=>ae .ptr .eql a (.pointer none) λe=>lO e (λe=>br .i64 b λf=>lC 0 a λg=>ai 3 g λg=>Ld c g λg=>aO g λg=>ae .num .geq f g λf=>(lV c f e)) λe=>Br (Value.bool e) (rt d (iv 0) c) (lC 0 a λa=>ai 3 a λa=>Ld c a λa=>lI 1 a b c λa=>br .i64 a λa=>rt d a c)
theorem IV(h:L198 g a0 a1 H R):sc g 198 #[a0,a1] H R:=sd (.n .e (.n (.n (.h 0 [] [1] .e .e) .e) .e)) Tryz.func198 h
def L199:Y2:=λa b c d e=>av zQ 194 1 [(0,c)] d λc d=>∃(f:Jt) (g:Mt),JE f [c] d/\∀c:zV,∀d:Hp,f [c] d->∀_:Fr,
aO c λh=>lG h (iv 0) λh=>Br h (aO c λh=>lS h (iv 1) λh=>lI 1 c h d λi=>gw 1 c none (some h) λh=>ae .num .leq i (ui 1) λj=>Br j (aC f g [h] d [c] d) (lM 2 b d λj=>lI 1 j i d λk=>lS k (Value.int .i32 1) λk=>au 1 j i λj=>St 1 d j k λj=>lM 2 b j λk=>lI 1 k i j λk=>lG k (Value.int .i32 0) λk=>Br k (aC f g [h] j [c] d) (CR e a 287 #[b,i] j λj k=>lQ 3 k #[(iv 0),(ui 0),(ui 0)] 226 j λj k=>DR k λl=>lM 1 b l λm=>ay 3 l (pt j) λl=>CN a 288 #[m,l] k λ_ k=>lM 0 b k λb=>CR e a 289 #[b,i] k λ_ a=>lD 1 (pt j) a λb=>lD 2 (pt j) a λi=>av zQ 194 2 [(0,b),(1,i)] a λa b=>App zQ 110 1 4 (ui 0) b h a λa b=>aC f g [a] b [c] d))) (rt e (.tuple #[]) d)
theorem IU(h:L199 g a0 a1 H R):sc g 199 #[a0,a1] H R:=sd (.n .e (.n (.h 0 [4] [0] (.n .e (.n (hN 6 (.n (.h 0 [0,1,2,3,4,5] [] .e .e) .e)) .e)) .e) .e)) Tryz.func199 h
def L200:Y2:=λa b c d e=>ae .ptr .eql b (.pointer none) λf=>Br f (rt e (iv 10) d) (aO c λf=>∃(g:Jt) (h:Mt),JE g [(iv 0)] d/\∀d:zV,∀i:Hp,g [d] i->∀_:Fr,
lL d f λf=>Br f (lI 1 c d i λc=>CR e a 249 #[b,c] i λa b=>lX a λa c=>lQ 3 b #[(iv 0),(ui 0),(ui 0)] 226 a λ_ a=>lN c (iv 0) λb=>Br b (rt e c a) (lA d (iv 1) λb=>aC g h [b] a [d] i)) (rt e (iv 0) i))
theorem IT(h:L200 g a0 a1 H R):sc g 200 #[a0,a1] H R:=sd (.n .e (.n .e (.n (.n .e (.n (.h 0 [13] [0,11,12] .e .e) .e)) .e))) Tryz.func200 h
def L201:Y1:=λ_ a b c=>lE a (ui 0) λd=>lO d (λd=>lE a (ui 1) λa=>(lV b a d)) λd=>rt c (Value.bool d) b
theorem IS(h:L201 g a0 H R):sc g 201 #[a0] H R:=sd (.n .e (.n (.h 0 [] [1] .e .e) .e)) Tryz.func201 h
def L202:Y2:=λa b c d e=>lW d #[(iv 0),(ui 0),(ui 0)] 226 λd f=>CR e a 249 #[b,c] f λa b=>lX a λa _=>lQ 3 b #[(iv 0),(ui 0),(ui 0)] 226 a λa b=>ay 3 b (pt a) λa=>St 3 b (pt d) a λa=>ay 3 a (pt d) λb=>rt e b a
theorem IQ(h:L202 g a0 a1 H R):sc g 202 #[a0,a1] H R:=sd .e Tryz.func202 h
def L203:Y2:=λa b c d e=>CR e a 201 #[b] d λd f=>Br d (Ld f c λd=>CR e a 185 #[d] f λd g=>rt e d g) (DR f λd=>Ld d c λg=>Ld d c λc=>∀h:Hp,
CN (a.add h) 202 #[c,b] f λb c=>aM c d/\
Bm 0 b λb=>∀f:Hp,
CN (a.add f) 150 #[g,b] c λa b=>aM b d/\
lX a λa _=>rt e a b)
theorem IP(h:L203 g a0 a1 H R):sc g 203 #[a0,a1] H R:=sd (.n .e (.n .e (.n (.h 1 [] [] (hr 0 [1] 0 11 .e) .e) .e))) Tryz.func203 h
def L204:Y5:=λa b c d e f g h=>cy g (.cells (Value.cells b) 85 (0,0)) λb g=>cy g (.cells (Value.cells f) 265 (0,0)) λf g=>gG g λg i=>aW (.int .u32) i g (ui 0) d λd=>aW (.int .u32) d g (ui 1) e λd=>lQ 1 d #[(.map none)] 349 g λd e=>lW e #[.nilFunc] 350 λe g=>St 1 g (pt e) (.func (.func 290) #[] #[(pt d),(pt b),(pt f),(pt e)]) λb=>Ld b (pt e) λd=>aL zQ a d #[c] b (λa b=>rt h a b) (dz h)
theorem IN(h:L204 g a0 a1 a2 a3 a4 H R):sc g 204 #[a0,a1,a2,a3,a4] H R:=sd .e Tryz.func204 h
def L205:Y5:=λa b c d e f g h=>cy g (.cells (Value.cells b) 226 (0,0)) λb g=>Ld g e λe=>lD 0 (pt b) g λi=>CR h a 150 #[e,i] g λe g=>lX e λe _=>DR g λi=>Ld i f λj=>lD 1 (pt b) i λk=>Ld i f λf=>lD 2 (pt b) i λb=>∀l:Hp,
aL zQ (a.add l) j #[k] g (λg j=>aM j i/\
lS g e λg=>lS g (iv 1) λg=>ae .num .shl c g λc=>∀g:Hp,
aL zQ (a.add g) f #[b] j (λa b=>lS a e λa=>lS a (iv 1) λa=>ae .num .shl d a λa=>lA c a λa=>rt h a b) fI) fI
theorem IM(h:L205 g a0 a1 a2 a3 a4 H R):sc g 205 #[a0,a1,a2,a3,a4] H R:=sd (.n .e (.n .e (.n (.h 1 [] [] (hr 0 [1] 0 4 (.h 0 [5] [1] (hr 0 [1] 9 4 (.h 0 [14] [1] (.h 0 [4] [1] (hr 0 [1] 6 3 (.h 0 [13] [1] (hr 0 [1] 15 5 .e) .e)) .e) .e)) .e)) .e) .e))) Tryz.func205 h
def L206:Y3:=λa b c d e f=>cy e (.cells (Value.cells b) 85 (0,0)) λb e=>cy e (.cells (Value.cells d) 267 (0,0)) λd e=>gG e λe g=>lQ 1 g #[(.map none)] 351 e λe g=>lW g #[.nilFunc] 261 λg h=>St 1 h (pt g) (.func (.func 291) #[] #[(pt e),(pt b),(pt d),(pt g)]) λb=>aO c λd=>∃(e:Jt) (h:Mt),JE e [(iv 0)] b/\∀b:zV,∀i:Hp,e [b] i->∀_:Fr,
lL b d λd=>Br d (lI 1 c b i λc=>Ld i (pt g) λd=>aL zQ a d #[c] i (λ_ a=>lA b (iv 1) λc=>aC e h [c] a [b] i) (dz f)) (rt f (.tuple #[]) i)
theorem IL(h:L206 g a0 a1 a2 H R):sc g 206 #[a0,a1,a2] H R:=sd (hN 5 (.n (.h 0 [14] [7,12,13] .e .e) .e)) Tryz.func206 h
def L207:Y2:=λ_ a b c d=>cy c (.cells (Value.cells a) 226 (0,0)) λ_ a=>Ld a b λc=>lA c (iv 1) λc=>St 1 a b c λa=>rt d (.tuple #[]) a
theorem IK(h:L207 g a0 a1 H R):sc g 207 #[a0,a1] H R:=sd .e Tryz.func207 h
def L208:Y3:=λa b c d e f=>CR f a 292 #[b,c] e λe g=>lN e (iv 0) λh=>Br h (rt f (tP (wi 0) e) g) (CR f a 293 #[b,c] g λb c=>CR f a 294 #[b] c λc e=>CR f a 295 #[c,d] e λc e=>Un .not c λc=>Br c (rt f (tP (wi 0) (iv 10)) e) (lM 0 b e λc=>lS c (iv 1) λc=>∃(g:Jt) (h:Mt),JE g [d,c] e/\∀c d:zV,∀e:Hp,g [c,d] e->∀_:Fr,
ae .num .geq d (iv 0) λi=>Br i (∀i:Jt,(∀j:zV,∀k:Hp,(∀_:Fr,
lS d (iv 1) λl=>aC g h [j,l] k [c,d] e)->i [j] k)->CR f a 296 #[b,d,(wi 0)] e λ_ g=>CR f a 294 #[b] g λg h=>lQ 2 h #[(wi 0),vF] 356 g λg h=>ay 2 h (pt g) λj=>CR f a 295 #[j,c] h λh j=>Un .not h λh=>Br h (lD 0 (pt g) j λg=>lS c g λg=>CR f a 296 #[b,d,(wi 1)] j λ_ a=>JE i [g] a) (JE i [c] j)) (lM 5 b e λa=>rt f (tP a (iv 0)) e)))
theorem xd(h:L208 g a0 a1 a2 H R):sc g 208 #[a0,a1,a2] H R:=sd (hN 4 (.n (.n .e (.n (.h 0 [2,10] [9] (.n .e (.h 1 [2] [9,10] .e .e)) .e) .e)) .e)) Tryz.func208 h
def L209:Y2:=λ_ a b c d=>cy c (.cells (Value.cells a) 226 (0,0)) λa c=>DR c λe=>Ld e b λf=>lD 0 (pt a) e λa=>ae .num .shl (wi 1) a λa=>ae .num .or f a λa=>∀_:Hp,
St 1 c b a λa=>rt d (.tuple #[]) a
theorem IJ(h:L209 g a0 a1 H R):sc g 209 #[a0,a1] H R:=sd (.n .e (.h 1 [] [] (hr 0 [1] 0 6 .e) .e)) Tryz.func209 h
def L210:Y2:=λ_ a b c d=>ae .num .geq b (iv 0) λe=>lU e (λe=>lM 4 a c λa=>lL b a λa=>(lV c a e)) λe=>rt d (Value.bool e) c
theorem II(h:L210 g a0 a1 H R):sc g 210 #[a0,a1] H R:=sd (.n .e (.n (.h 0 [] [1] .e .e) .e)) Tryz.func210 h
def L211:Y2:=λa b c d e=>lM 5 b d λf=>lI 1 f c d λf=>lM 5 b d λg=>lA c (iv 1) λh=>lI 1 g h d λg=>CR e a 297 #[b,f,g] d λd h=>DR h λ_=>lC 0 b λi=>CN a 298 #[b,f,d] h λh j=>CN a 245 #[i,h] j λh i=>Un .not h λh=>Br h (rt e vF i) (aO d λh=>∃(j:Jt) (k:Mt),JE j [(iv 0)] i/\∀i:zV,∀l:Hp,j [i] l->∀_:Fr,
lL i h λh=>Br h (au 8 d i λh=>ay 8 l h λh=>lQ 8 l #[(ui 0),(iv 0),(ui 0),(ui 0),(ui 0),(ui 0),(ui 0),(ui 0)] 367 h λh m=>DR m λn=>lC 0 b λo=>ai 1 o λo=>Ld n o λo=>ai 1 (pt h) λh=>ay 3 n h λh=>CN a 288 #[o,h] m λ_ h=>lA i (iv 1) λm=>aC j k [m] h [i] l) (aO d λh=>∃(i:Jt) (j:Mt),JE i [(iv 0)] l/\∀k:zV,∀l:Hp,i [k] l->∀_:Fr,
lL k h λh=>Br h (au 8 d k λh=>ay 8 l h λh=>lQ 8 l #[(ui 0),(iv 0),(ui 0),(ui 0),(ui 0),(ui 0),(ui 0),(ui 0)] 367 h λh m=>DR m λn=>lC 0 b λo=>lD 4 (pt h) n λp=>lD 6 (pt h) n λn=>CN a 299 #[o,f,p,n] m λm n=>lC 0 b λo=>CR e a 300 #[o,m] n λ_ n=>DR n λo=>lC 0 b λp=>lD 5 (pt h) o λq=>lD 7 (pt h) o λo=>CN a 299 #[p,f,q,o] n λn o=>lC 0 b λp=>CR e a 300 #[p,n] o λ_ o=>Build zQ 226 [(0,g),(1,m),(2,n)] λm=>lQ 3 o #[(iv 0),(ui 0),(ui 0)] 226 m λm n=>DR n λo=>lC 0 b λp=>ai 0 p λp=>Ld o p λp=>lD 0 (pt h) o λq=>ay 3 o (pt m) λo=>CN a 301 #[p,q,o] n λ_ n=>DR n λo=>lC 0 b λp=>ai 1 p λp=>Ld o p λp=>ay 3 o (pt m) λm=>lD 0 (pt h) o λh=>CN a 302 #[p,m,h] n λ_ h=>lA k (iv 1) λm=>aC i j [m] h [k] l) (aO d λh=>∃(i:Jt) (j:Mt),JE i [(iv 0)] l/\∀k:zV,∀l:Hp,i [k] l->∀_:Fr,
lL k h λh=>Br h (au 8 d k λd=>ay 8 l d λd=>lQ 8 l #[(ui 0),(iv 0),(ui 0),(ui 0),(ui 0),(ui 0),(ui 0),(ui 0)] 367 d λd h=>DR h λm=>lC 0 b λn=>ai 1 (pt d) λo=>ai 1 o λo=>Ld m o λm=>CN a 199 #[n,m] h λ_ h=>DR h λm=>lC 0 b λn=>ai 1 (pt d) λd=>ai 2 d λd=>Ld m d λd=>CN a 199 #[n,d] h λ_ a=>lA k (iv 1) λd=>aC i j [d] a [k] l) (DR l λa=>lM 5 b a λd=>lM 5 b a λa=>lA c (iv 1) λh=>au 1 d c λd=>St 1 l d g λd=>au 1 a h λa=>St 1 d a f λa=>DR a λd=>lM 6 b d λh=>lM 6 b d λb=>lA c (iv 1) λd=>au 1 h f λf=>St 1 a f d λa=>au 1 b g λb=>St 1 a b c λa=>rt e vT a))))
theorem IG(h:L211 g a0 a1 H R):sc g 211 #[a0,a1] H R:=sd (hN 3 (.n (.n (.h 0 [0,1,2,3,4,5,6,7,8] [] .e .e) .e) (.n (.n .e (.n (.h 0 [47] [0,1,5,6,7,45,46] (.n .e (.n .e (.n (.n (.n .e (.h 0 [0,1,2,3,4,5,6,7] [] .e .e)) .e) .e))) .e) .e)) (.n (.n .e (.n (.h 0 [62] [0,1,5,6,7,60,61] (.n .e (.n .e (.n (.n (.n .e (.n (.h 0 [0,1,2,3,4,5,6,7,8,9] [] .e .e) (.n .e (.n (.h 0 [0,1,2,3,4,5,6,7,8,9] [] .e .e) (.n .e (.n .e (.n (.h 0 [0,1,2,3,4,5,6,7,8] [] .e .e) (.h 0 [0,1,2,3,4,5,6,7,8] [] .e .e)))))))) .e) .e))) .e) .e)) (.n (.n .e (.n (.h 0 [119] [0,1,5,6,117,118] (.n .e (.n .e (.n (.n (.n .e (.n (.h 0 [0,1,2,3,4,5,6] [] .e .e) (.h 0 [0,1,2,3,4,5,6] [] .e .e))) .e) .e))) .e) .e)) (.n (.h 0 [0,1,2,3,4,5,6,7,8,9,10,11,12,13,14,15,16] [] .e .e) (.n (.h 0 [0,1,2,3,4,5,6,7,8,9,10,11,12,13,14,15,16] [] .e .e) .e))))))) Tryz.func211 h
def L222:Y1:=λ_ a b c=>∀d:Jt,(∀e f:zV,∀g:Hp,(∀_:Fr,
∀h:Jt,(∀i j:zV,∀k:Hp,(∀_:Fr,
∀l:Jt,(∀m n:zV,∀o:Hp,(∀_:Fr,
br .u8 m λp=>Xt (.string (ByteArray.mk #[0,1,2,2,3,3,3,3,4,4,4,4,4,4,4,4,5,5,5,5,5,5,5,5,5,5,5,5,5,5,5,5,6,6,6,6,6,6,6,6,6,6,6,6,6,6,6,6,6,6,6,6,6,6,6,6,6,6,6,6,6,6,6,6,7,7,7,7,7,7,7,7,7,7,7,7,7,7,7,7,7,7,7,7,7,7,7,7,7,7,7,7,7,7,7,7,7,7,7,7,7,7,7,7,7,7,7,7,7,7,7,7,7,7,7,7,7,7,7,7,7,7,7,7,7,7,7,7,8,8,8,8,8,8,8,8,8,8,8,8,8,8,8,8,8,8,8,8,8,8,8,8,8,8,8,8,8,8,8,8,8,8,8,8,8,8,8,8,8,8,8,8,8,8,8,8,8,8,8,8,8,8,8,8,8,8,8,8,8,8,8,8,8,8,8,8,8,8,8,8,8,8,8,8,8,8,8,8,8,8,8,8,8,8,8,8,8,8,8,8,8,8,8,8,8,8,8,8,8,8,8,8,8,8,8,8,8,8,8,8,8,8,8,8,8,8,8,8,8,8,8,8,8,8,8,8])) p λp=>br .i64 p λp=>lA n p λp=>rt c p o)->l [m,n] o)->ae .num .geq i (wi 256) λc=>Br c (ae .num .shr i (wi 8) λc=>lA j (iv 8) λm=>JE l [c,m] k) (JE l [i,j] k))->h [i,j] k)->ae .num .geq e (wi 65536) λc=>Br c (ae .num .shr e (wi 16) λc=>lA f (iv 16) λi=>JE h [c,i] g) (JE h [e,f] g))->d [e,f] g)->ae .num .geq a (wi 4294967296) λc=>Br c (ae .num .shr a (wi 32) λc=>JE d [c,(iv 32)] b) (JE d [a,(iv 0)] b)
theorem IF(h:L222 g a0 H R):sc g 222 #[a0] H R:=sd (.n .e (.h 1 [0,2] [] .e (.h 1 [0,2] [] .e (.h 1 [0,2] [] .e .e)))) Tryz.func222 h
def L243:Y4:=λa b c d e f g=>CR g a 210 #[b,c] f λf h=>Un .not f λf=>Br f (rt g (iv 2) h) (∀f:Jt,(∀i:zV,∀j:Hp,(∀_:Fr,
Br i (rt g (iv 3) j) (∀k:Jt,(∀l:zV,∀m:Hp,(∀_:Fr,
Br l (rt g (iv 4) m) (rt g (iv 0) m))->k [l] m)->DR j λl=>lN d e λm=>Br m (lM 6 b l λm=>lI 1 m c l λc=>∀m:Hp,
CN (a.add m) 319 #[b,d] j λm n=>aM n l/\
∀o:Hp,
CN (a.add o) 319 #[b,e] n λn o=>aM o l/\
ZA m n λl=>ae .num .geq c l λc=>aI vT c vF λc=>JE k [c] o) (JE k [vF] j)))->f [i] j)->lC 0 b λc=>CR g a 197 #[c,d] h λc d=>Un .not c λc=>Split c false (lC 0 b λb=>CR g a 197 #[b,e] d λa b=>Un .not a λa=>aI vF vT a λa=>JE f [a] b) (aI vT vT undef λa=>JE f [a] d))
theorem IE(h:L243 g a0 a1 a2 a3 H R):sc g 243 #[a0,a1,a2,a3] H R:=sd (.n .e (.n (.n (.n .e (.n .e (.h 1 [14] [0,1,2,3] .e (.n .e (.h 1 [29] [] (.h 1 [] [] (hr 0 [] 0 3 (.h 2 [3] [] (hr 0 [] 4 9 (hr 0 [] 14 2 (.h 0 [13] [] (hr 0 [] 16 5 .e) .e))) (hr 0 [] 4 15 (hr 3 [] 19 2 .e)))) .e) .e))))) .e) .e)) Tryz.func243 h
def L244:Y4:=λa b c d e f g=>lE d e λh=>Br h (rt g (tP d vT) f) (lC 0 b λb=>ai 1 b λb=>Ld f b λb=>Build zQ 226 [(0,c),(1,d),(2,e)] λc=>CR g a 320 #[b,c] f λa b=>lX a λa c=>rt g (tP a c) b)
theorem ID(h:L244 g a0 a1 a2 a3 H R):sc g 244 #[a0,a1,a2,a3] H R:=sd .e Tryz.func244 h
def L245:Y2:=λa b c d e=>DR d λf=>lM 0 b f λg=>lM 0 b f λb=>CN a 196 #[g] d λd g=>aM g f/\
lA d c λc=>CN a 321 #[b] g λa b=>aM b f/\
ae .num .leq c a λa=>rt e a b
theorem IC(h:L245 g a0 a1 H R):sc g 245 #[a0,a1] H R:=sd (.n .e (.n (.h 0 [0,1,2,3,5,7,8,9,10,4,6,11,12,13] [] .e .e) .e)) Tryz.func245 h
def L246:Y2:=λa b c d e=>cy d (.cells (Value.cells c) 226 (0,0)) λc d=>DR d λf=>lM 0 b f λg=>ay 3 f (pt c) λh=>CN a 322 #[g,h] d λd g=>aM g f/\
lX d λd _=>∃(f:Jt) (h:Mt),JE f [] g/\∀g:Hp,f [] g->∀_:Fr,
br .i64 d λi=>lM 2 b g λj=>aO j λj=>ae .num .geq i j λi=>Br i (lM 2 b g λi=>av zQ 135 1 [(0,(Value.int .i32 0))] g λj k=>App zQ 21 1 4 (Value.int .i32 0) k i j λi j=>lC 2 b λk=>St 1 j k i λi=>lM 3 b i λj=>av zQ 135 1 [(0,(Value.int .i32 0))] i λi k=>App zQ 21 1 4 (Value.int .i32 0) k j i λi j=>lC 3 b λk=>St 1 j k i λi=>aC f h [] i [] g) (DR g λf=>lM 2 b f λh=>lM 3 b f λf=>au 1 h d λh=>St 1 g h (Value.int .i32 0) λg=>au 1 f d λf=>St 1 g f (Value.int .i32 0) λf=>lD 1 (pt c) f λg=>CR e a 300 #[b,g] f λ_ f=>lD 2 (pt c) f λg=>CR e a 300 #[b,g] f λ_ f=>DR f λg=>lM 1 b g λb=>ay 3 g (pt c) λc=>CN a 302 #[b,c,d] f λ_ a=>rt e d a)
theorem IB(h:L246 g a0 a1 H R):sc g 246 #[a0,a1] H R:=sd (.n .e (.n (.h 0 [0,1,2,3,4,5,6,7,8,9,10] [] .e .e) (.n (.n (.h 0 [] [0,3,5] .e .e) .e) (.n (.h 0 [0,1,2,3,4,5,6,7,8,9,10,11,12,13] [] .e .e) (.n .e (.n .e (.n (.h 0 [0,1,2,3,4,5,6] [] .e .e) .e))))))) Tryz.func246 h
def L247:Y4:=λa b c _ d e f=>DR e λg=>Ld g d λd=>CN a 248 #[b] e λb e=>aM e g/\
ae .num .mul (bi 2) b λb=>CN a 248 #[c] e λa c=>aM c g/\
lA b a λa=>ae .num .shr d a λa=>ae .num .and a (bi 1) λa=>lE a (bi 1) λa=>rt f a c
theorem IA(h:L247 g a0 a1 a2 a3 H R):sc g 247 #[a0,a1,a2,a3] H R:=sd (.n .e (.n (.h 0 [0,1,4,2,3,5,6,7,8,9,10] [] .e .e) .e)) Tryz.func247 h
def L248:Y1:=λ_ a b c=>Br a (rt c (bi 1) b) (rt c (bi 0) b)
theorem Iz(h:L248 g a0 H R):sc g 248 #[a0] H R:=sd .e Tryz.func248 h
def L249:Y2:=λa b c d e=>lW d #[(iv 0),(ui 0),(ui 0)] 226 λd f=>ae .ptr .eql b (.pointer none) λg=>Br g (Build zQ 226 [] λg=>St 3 f (pt d) g λg=>ay 3 g (pt d) λh=>rt e (tP h (iv 10)) g) (lC 0 b λg=>CR e a 197 #[g,c] f λf g=>Un .not f λf=>Br f (Build zQ 226 [] λf=>St 3 g (pt d) f λf=>ay 3 f (pt d) λh=>rt e (tP h (iv 3)) f) (lC 0 b λb=>CR e a 287 #[b,c] g λa b=>St 3 b (pt d) a λa=>ay 3 a (pt d) λb=>rt e (tP b (iv 0)) a))
theorem Iy(h:L249 g a0 a1 H R):sc g 249 #[a0,a1] H R:=sd .e Tryz.func249 h
def L250:Y3:=λa b c d e f=>Ld e b λb=>Ld e c λg=>Ld e d λh=>CR f a 251 #[b,g,h] e λa b=>lX a λa e=>St 1 b c a λa=>St 1 a d e λa=>rt f (.tuple #[]) a
theorem DZ(h:L250 g a0 a1 a2 H R):kL zQ g 250 #[a0,a1,a2] H R:=
 z5 (hn:=.e) Tryz.func250 h zK
def L251:Y3:=λa b c d e f=>lE c (ui 0) λg=>lO g (λg=>lE c (ui 1) λh=>(lV e h g)) λg=>lM 2 b e λh=>aO h λi=>∃(j:Jt) (k:Mt),JE j [(Value.bool g),(iv 0)] e/\∀e g:zV,∀l:Hp,j [e,g] l->∀_:Fr,
lL g i λi=>Br i (∀i:Jt,(∀m:zV,∀n:Hp,(∀_:Fr,
lA g (iv 1) λo=>aC j k [m,o] n [e,g] l)->i [m] n)->lI 1 h g l λg=>lE g c λh=>lU h (λh=>Un .not e λj=>(lV l j h)) λh=>lU (Value.bool h) (λh=>lE d (iv 0) λj=>(lV l j h)) λh=>Br (Value.bool h) (JE i [vT] l) (lM 0 b l λh=>CR f a 142 #[h,g] l λ_ g=>JE i [e] g)) (lC 2 b λg=>St 1 l g (.slice none 0 0) λg=>∀h:Jt,(∀i:Hp,(∀_:Fr,
rt f (tP c (iv 0)) i)->h [] i)->lN d (iv 0) λi=>Br i (rt f (tP (ui 0) d) g) (Un .not e λd=>Br d (rt f (tP (ui 0) (iv 8)) g) (lE c (ui 0) λd=>lO d (λd=>lE c (ui 1) λe=>(lV g e d)) λd=>Br (Value.bool d) (lM 0 b g λb=>CR f a 141 #[b,c] g λ_ a=>JE h [] a) (JE h [] g))))
theorem Ix(h:L251 g a0 a1 a2 H R):sc g 251 #[a0,a1,a2] H R:=sd (.n .e (.n (.h 0 [] [1] .e .e) (.n (.n .e (.n (.h 0 [8,22] [0,1,2,20,21] (.n .e (.n .e (.h 1 [8] [0,1,2,20,21,22] (.n (.n .e (.n (.n (.h 0 [] [1] .e .e) .e) .e)) .e) .e))) .e) .e)) (.n .e (.h 1 [] [1] (.n (hN 4 (.n (.h 0 [] [1] .e .e) .e)) .e) .e))))) Tryz.func251 h
def L252:Y5:=λa b c d e f g h=>cy g (.cells (Value.cells b) 236 (0,0)) λb g=>Ld g c λi=>ay 3 g (pt b) λj=>jX zQ 236 (ui 0) true g i j λi=>lX i λi j=>Br j (rt h (tP i (iv 0)) g) (Ld g d λi=>ay 3 g (pt b) λj=>CR h a 253 #[i,j] g λg i=>Ld i d λj=>CR h a 254 #[j,g] i λi j=>lL i (iv 0) λk=>Br k (Ld j e λe=>iY 3 1 (pt b) (iv 0) λk=>Ld j k λk=>lE k (ui 1) λk=>iY 3 1 (pt b) (iv 1) λl=>Ld j l λl=>lE l (ui 1) λl=>iY 3 1 (pt b) (iv 2) λm=>Ld j m λm=>lE m (ui 1) λm=>aL zQ a e #[k,l,m] j (λe k=>Br e (rt h (tP (ui 1) (iv 0)) k) (rt h (tP (ui 0) (iv 0)) k)) (dz h)) (DR j λe=>ay 3 e (pt b) λk=>ay 3 e (pt b) λl=>lW j #[(ui 0),(ui 0),(ui 0)] 236 λj m=>lW m #[(ui 0),(ui 0),(ui 0)] 236 λm n=>∀_:Hp,
St 3 n (pt j) k λk=>aM k e/\
∀_:Hp,
St 3 k (pt m) l λe=>aO g λk=>∃(l:Jt) (n:Mt),JE l [(iv 0)] e/\∀e:zV,∀o:Hp,l [e] o->∀_:Fr,
lL e k λk=>Br k (∀k:Jt,(∀p:Hp,(∀_:Fr,
lA e (iv 1) λq=>aC l n [q] p [e] o)->k [] p)->au 3 g e λg=>ay 3 o g λg=>lQ 3 o #[(iv 0),(ui 0),(ui 0)] 226 g λg l=>lD 0 (pt g) l λn=>lE n i λn=>Br n (DR l λn=>lD 1 (pt g) n λp=>lD 2 (pt g) n λg=>iY 3 1 (pt j) e λq=>St 1 l q p λp=>aM p n/\
iY 3 1 (pt m) e λe=>St 1 p e g λe=>JE k [] e) (JE k [] l)) (Ld o f λe=>ay 3 o (pt j) λg=>aL zQ a e #[g] o (λe g=>lX e λe j=>lN j (iv 0) λk=>Br k (rt h (tP (ui 0) j) g) (Ld g f λf=>ay 3 g (pt m) λj=>aL zQ a f #[j] g (λf g=>lX f λf j=>lN j (iv 0) λk=>Br k (rt h (tP (ui 0) j) g) (Ld g d λd=>CR h a 255 #[d,i,e,f] g λa d=>lX a λa e=>∀f:Jt,(∀g:Hp,(∀_:Fr,
rt h (tP a e) g)->f [] g)->lE e (iv 0) λe=>Br e (Ld d c λc=>ay 3 d (pt b) λb=>iK zQ 236 d c b a λa=>JE f [] a) (JE f [] d))) (dz h))) (dz h))))
theorem wZ(h:L252 g a0 a1 a2 a3 a4 H R):sc g 252 #[a0,a1,a2,a3,a4] H R:=sd (hN 5 (.n (.h 1 [] [] (hr 0 [] 0 2 (hr 1 [] 2 2 (hr 0 [] 2 4 .e))) .e) (.n (.n .e (.n (.h 0 [51] [1,2,4,5,11,12,13,49,50] (.n .e (.n .e (.h 1 [] [1,2,4,5,11,12,13,49,50,51] (.n (.n .e (.n .e (.n (.h 0 [0,1,2,3,4,5,6,7,8,9] [] .e .e) .e))) .e) .e))) .e) .e)) (hN 5 (.h 1 [] [17,19] .e .e))))) Tryz.func252 h
def L253:Y2:=λa b c d e=>cy d (.cells (Value.cells c) 236 (0,0)) λc d=>ay 3 d (pt c) λc=>∃(f:Jt) (g:Mt),JE f [(.slice none 0 0),(iv 0)] d/\∀d h:zV,∀i:Hp,f [d,h] i->∀_:Fr,
lL h (iv 3) λj=>Br j (jG zQ a (fh Tryz.f253 4 0) (ev (λj=>cond (Nat.beq j 10) c (cond (Nat.beq j 11) h (undef)))) i λc=>lM 0 b i λb=>CR e a 249 #[b,c] i λa b=>lX a λa _=>lQ 3 b #[(iv 0),(ui 0),(ui 0)] 226 a λa b=>ay 3 b (pt a) λa=>av zQ 309 1 [(0,a)] b λa b=>App zQ 226 3 16 (.agg #[(iv 0),(ui 0),(ui 0)]) b d a λa b=>lA h (iv 1) λc=>aC f g [a,c] b [d,h] i) (rt e d i)
theorem Iw(h:L253 g a0 a1 H R):sc g 253 #[a0,a1] H R:=sd (.n .e (.n .e (.n (.n .e (.n (.h 0 [5,11] [0,10] .e .e) .e)) .e))) Tryz.func253 h
def L254:Y2:=λ_ a b c d=>aO b λe=>∃(f:Jt) (g:Mt),JE f [(iv (-1)),(iv 0)] c/\∀c h:zV,∀i:Hp,f [c,h] i->∀_:Fr,
lL h e λe=>Br e (∀e:Jt,(∀j:zV,∀k:Hp,(∀_:Fr,
lA h (iv 1) λl=>aC f g [j,l] k [c,h] i)->e [j] k)->au 3 b h λb=>ay 3 i b λb=>lQ 3 i #[(iv 0),(ui 0),(ui 0)] 226 b λb f=>lD 0 (pt b) f λg=>ae .num .geq g (iv 0) λg=>lU g (λg=>lL c (iv 0) λh=>cf h false (λh=>lM 1 a f λj=>lD 0 (pt b) f λk=>lI 1 j k f λj=>lM 1 a f λa=>lI 1 a c f λa=>lL j a λa=>(lV f a h)) (λh=>vT=Value.bool h) λh=>∀_:Fr,
(lV f (Value.bool h) g)) λg=>Br (Value.bool g) (lD 0 (pt b) f λa=>JE e [a] f) (JE e [c] f)) (rt d c i)
theorem Iv(h:L254 g a0 a1 H R):sc g 254 #[a0,a1] H R:=sd (.n .e (.n .e (.n (.n .e (.n (.h 0 [5,10] [0,8,9] (.n .e (.n .e (.h 1 [5] [0,8,9,10] .e .e))) .e) .e)) .e))) Tryz.func254 h
def L255:Y4:=λa b c d e f g=>lE d e λh=>Br h (rt g (tP d (iv 0)) f) (lM 0 b f λh=>CR g a 175 #[h,c,d,e] f λf h=>lX f λf i=>∀j:Jt,(∀k:Hp,(∀_:Fr,
rt g (tP (ui 0) i) k)->j [] k)->lE i (iv 0) λk=>Br k (lM 2 b h λk=>av zQ 194 1 [(0,f)] h λl m=>App zQ 110 1 4 (ui 0) m k l λk l=>lC 2 b λm=>St 1 l m k λk=>rt g (tP f (iv 0)) k) (lE i (iv 8) λf=>Br f (lM 0 b h λb=>CR g a 323 #[b,c,d,e] h λa b=>lX a λa c=>Br c (rt g (tP a (iv 0)) b) (JE j [] b)) (JE j [] h)))
theorem wY(h:L255 g a0 a1 a2 a3 H R):sc g 255 #[a0,a1,a2,a3] H R:=sd (hN 3 (.h 1 [] [11] .e .e)) Tryz.func255 h
def L256:Y2:=λa b c d e=>cy d (.cells (Value.cells b) 85 (0,0)) λb d=>Ld d (pt b) λf=>gG d λd g=>Build zQ 387 [(0,f),(1,d)] λd=>cy g (.cells (Value.cells d) 387 (0,0)) λd f=>lQ 1 f #[(.pointer none)] 313 (pt d) λd f=>Ld f (pt b) λg=>CF a 141 #[g,(ui 1)] f (λ_ f=>Ld f (pt d) λg=>aL zQ a c #[g] f (λc f=>Ld f (pt d) λg=>lM 2 g f λg=>lN g (iv 0) λg=>Br g (Ld f (pt d) λg=>lM 2 g f λg=>j3 zQ a 324 #[(pt d),(pt b)] f λh=>rt e (.tuple #[(ui 0),vF,g]) h) (Ld f (pt d) λg=>lM 1 g f λg=>cZ (.int .u32) (iv 0) false f g c λg=>lG g (iv 0) λg=>Br g (Ld f (pt d) λg=>lM 1 g f λg=>om (.int .u32) f g c λg=>j3 zQ a 324 #[(pt d),(pt b)] g λg=>rt e (.tuple #[c,vT,(iv 0)]) g) (Ld f (pt b) λg=>CF a 141 #[g,c] f (λf g=>lE f (iv 0) λf=>j3 zQ a 324 #[(pt d),(pt b)] g λa=>rt e (.tuple #[c,f,(iv 0)]) a) NS))) NS) NS
theorem Iu(h:L256 g a0 a1 H R):sc g 256 #[a0,a1] H R:=
 zZ (hn:=(hN 4 .e)) Tryz.func256 h zK
def L257:Y4:=λa b c d e f g=>Ld f c λc=>Ld f d λd=>CR g a 258 #[b,c,d,(.func (.func 259) #[] #[e])] f λa b=>rt g a b
theorem Is(h:L257 g a0 a1 a2 a3 H R):sc g 257 #[a0,a1,a2,a3] H R:=sd .e Tryz.func257 h
def L258:Y4:=λa b c d e f g=>cy f (.cells (Value.cells b) 313 (0,0)) λb f=>cy f (.cells (Value.cells e) 300 (0,0)) λe f=>Ld f (pt b) λh=>lM 0 h f λh=>CR g a 150 #[h,d] f λd f=>lX d λd _=>lQ 1 f #[(iv 0)] 3 d λd f=>gG f λf h=>lQ 1 h #[(.map none)] 388 f λf h=>lW h #[.nilFunc] 389 λh i=>St 1 i (pt h) (.func (.func 325) #[] #[(pt b),(pt d),(pt f),(pt e),(pt h)]) λb=>Ld b (pt h) λd=>aL zQ a d #[c] b (λa b=>rt g a b) (dz g)
theorem Ir(h:L258 g a0 a1 a2 a3 H R):sc g 258 #[a0,a1,a2,a3] H R:=sd .e Tryz.func258 h
def L259:Y2:=λ_ a b c d=>cy c (.cells (Value.cells a) 226 (0,0)) λa c=>Ld c b λb=>Br b (lD 2 (pt a) c λb=>rt d b c) (lD 1 (pt a) c λa=>rt d a c)
theorem Iq(h:L259 g a0 a1 H R):sc g 259 #[a0,a1] H R:=sd .e Tryz.func259 h
def L260:Y4:=λa b c d e f g=>cy f (.cells (Value.cells c) 110 (0,0)) λc f=>cy f (.cells (Value.cells d) 3 (0,0)) λd f=>cy f (.cells (Value.cells e) 4 (0,0)) λe f=>CR g a 256 #[b,(.func (.func 328) #[] #[(pt c),(pt d),(pt e)])] f λa b=>lX a λc d=>Ext 2 a λa=>rt g (.tuple #[c,d,a]) b
theorem Ip(h:L260 g a0 a1 a2 a3 H R):sc g 260 #[a0,a1,a2,a3] H R:=sd .e Tryz.func260 h
def L261:Y0:=λ_ a b=>Build zQ 395 [] λc=>cy a (.cells (Value.cells c) 395 (0,0)) λa c=>rt b (pt a) c
theorem Io(h:L261 g H R):sc g 261 #[] H R:=sd .e Tryz.func261 h
def L262:Y2:=λa b c d e=>ae .ptr .eql b (.pointer none) λf=>Br f (rt e (tP (iv 0) (iv 10)) d) (CR e a 210 #[b,c] d λd f=>Un .not d λd=>Br d (rt e (tP (iv 0) (iv 2)) f) (lC 0 b λb=>ai 1 b λb=>Ld f b λb=>CR e a 331 #[b,c] f λa b=>lX a λa c=>rt e (tP a c) b))
theorem Im(h:L262 g a0 a1 H R):sc g 262 #[a0,a1] H R:=sd .e Tryz.func262 h
def L263:Y3:=λa b c d e f=>ae .ptr .eql b (.pointer none) λg=>Br g (rt f (iv 10) e) (lM 1 b e λg=>cZ (.int .i64) (iv 0) true e g c λg=>lX g λ_ g=>Br g (rt f (iv 11) e) (∀g:Jt,(∀h:Hp,(∀_:Fr,
lM 0 b h λi=>Build zQ 397 [(0,c),(1,d)] λc=>av zQ 393 1 [(0,c)] h λc d=>App zQ 397 2 16 (.agg #[(iv 0),(iv 0)]) d i c λc d=>lC 0 b λi=>St 1 d i c λc=>lM 0 b c λd=>aO d λd=>lS d (iv 1) λd=>CR f a 332 #[b,d] c λ_ a=>rt f (iv 0) a)->g [] h)->lM 1 b e λa=>ae .map .eql a (.map none) λa=>Br a (gG e λa c=>lC 1 b λb=>St 1 c b a λa=>JE g [] a) (JE g [] e)))
theorem Il(h:L263 g a0 a1 a2 H R):sc g 263 #[a0,a1,a2] H R:=sd (hN 3 (.h 1 [] [0,1,2] .e .e)) Tryz.func263 h
def L264:Y1:=λ_ a b c=>ae .ptr .eql a (.pointer none) λd=>Br d (rt c (iv 0) b) (lM 0 a b λa=>aO a λa=>rt c a b)
theorem Ik(h:L264 g a0 H R):sc g 264 #[a0] H R:=sd .e Tryz.func264 h
def L265:Y1:=λa b c d=>ae .ptr .eql b (.pointer none) λe=>lO e (λe=>lM 0 b c λf=>aO f λf=>lE f (iv 0) λf=>(lV c f e)) λe=>Br (Value.bool e) (rt d (.tuple #[(iv 0),(iv 0),(iv 10)]) c) (lM 0 b c λe=>au 2 e (iv 0) λe=>ay 2 c e λe=>lQ 2 c #[(iv 0),(iv 0)] 397 e λc e=>lM 0 b e λf=>aO f λf=>lS f (iv 1) λf=>lM 0 b e λg=>au 2 g f λg=>ay 2 e g λg=>lQ 2 e #[(iv 0),(iv 0)] 397 g λe g=>lM 0 b g λh=>gw 2 h none (some f) λh=>lC 0 b λi=>St 1 g i h λg=>DR g λh=>lM 1 b h λi=>lD 0 (pt c) h λh=>om (.int .i64) g i h λg=>∀h:Jt,(∀i:Hp,(∀_:Fr,
lD 0 (pt c) i λj=>lD 1 (pt c) i λc=>rt d (.tuple #[j,c,(iv 0)]) i)->h [] i)->lG f (iv 0) λc=>Br c (ay 2 g (pt e) λc=>CR d a 333 #[b,(iv 0),c] g λ_ c=>CR d a 334 #[b,(iv 0)] c λ_ a=>JE h [] a) (JE h [] g))
theorem wX(h:L265 g a0 H R):sc g 265 #[a0] H R:=sd (.n .e (.n .e (.n (.n (.h 0 [] [1] .e .e) .e) (hN 4 (.n (.h 0 [0,1,2,3,4,5,6] [] .e .e) (.h 1 [] [6] .e .e)))))) Tryz.func265 h
variable {g:Gh} {a0 a1 a2 a3 a4 a5 a6 a7 a8 a9 tu tt a12 a13 a14 a15:zV} {H:Hp} {R:Rt}
def L266:Y2:=λa b c d e=>cy d (.cells (Value.cells b) 321 (0,0)) λb d=>Br c (DR d λc=>Ld c (pt b) λf=>Ld c (pt b) λg=>lM 0 g c λg=>∀h:Hp,
CN (a.add h) 185 #[g] d λa g=>aM g c/\
lS a (iv 1) λa=>lC 6 f λc=>∀_:Hp,
St 1 g c a λa=>Ld a (pt b) λc=>lC 7 c λc=>St 1 a c (.func (.func 335) #[] #[(pt b)]) λa=>rt e (.tuple #[]) a) (Ld d (pt b) λa=>lC 6 a λa=>St 1 d a (iv 0) λa=>Ld a (pt b) λc=>lC 7 c λc=>St 1 a c (.func (.func 337) #[] #[(pt b)]) λa=>rt e (.tuple #[]) a)
theorem Ij(h:L266 g a0 a1 H R):sc g 266 #[a0,a1] H R:=sd (.n .e (.n .e (.n (.n (.h 1 [] [] (hr 0 [1] 0 10 .e) .e) .e) .e))) Tryz.func266 h
def L267:Y1:=λa b c d=>∃(e:Jt) (f:Mt),JE e [] c/\∀c:Hp,e [] c->∀_:Fr,
∀g:Jt,(∀h:zV,∀i:Hp,(∀_:Fr,
Br h (lM 0 b i λj=>CR d a 140 #[j] i λj k=>∀l:Jt,(∀m:Hp,(∀_:Fr,
ae .num .mul j (iv 100) λn=>lM 2 b m λo=>lM 4 b m λp=>ae .num .mul o p λo=>lG n o λn=>Br n (rt d (.tuple #[]) m) (aC e f [] m [] c))->l [] m)->lM 2 b k λe=>lL j e λe=>Br e (lM 1 b k λe=>lC 2 b λf=>St 1 k f j λf=>lC 3 b λj=>St 1 f j e λe=>JE l [] e) (JE l [] k)) (rt d (.tuple #[]) i))->g [h] i)->DR c λd=>lM 1 b d λe=>lM 6 b d λf=>lN e f λe=>Br e (lM 7 b d λb=>∀d:Hp,
aL zQ (a.add d) b #[] c (λa b=>lE a (iv 0) λa=>aI vT a vF λa=>JE g [a] b) fI) (JE g [vF] c)
theorem Ii(h:L267 g a0 H R):sc g 267 #[a0] H R:=sd (.n (.h 0 [] [0] (.n (.h 1 [19] [0] (.h 1 [] [] (hr 0 [1] 0 9 (.h 2 [9] [] (hr 0 [1] 10 7 .e) (hr 0 [1] 10 6 (.h 3 [16] [1] .e .e)))) .e) .e) (.n (.n .e (.h 1 [] [0,2] .e .e)) .e)) .e) .e) Tryz.func267 h
def L268:Y2:=λa b c d e=>∃(f:Jt) (g:Mt),JE f [] d/\∀d:Hp,f [] d->∀_:Fr,
lM 1 b d λh=>lN h c λc=>Br c (lM 0 b d λc=>CR e a 338 #[c] d λa c=>lX a λa _=>lM 5 b c λh=>lA h (iv 1) λh=>lC 5 b λi=>St 1 c i h λc=>lM 1 b c λh=>lL a h λh=>Br h (lC 1 b λh=>St 1 c h a λh=>aC f g [] h [] d) (lA a (iv 1) λa=>lC 1 b λb=>St 1 c b a λa=>aC f g [] a [] d)) (rt e (.tuple #[]) d)
theorem Ih(h:L268 g a0 a1 H R):sc g 268 #[a0,a1] H R:=sd (.n (.h 0 [] [0,1] .e .e) .e) Tryz.func268 h
def L269:Y1:=λ_ a b c=>lE a (iv 2) λd=>Br d (av zQ 43 1 [(0,(iv 0))] b λd e=>rt c (tP d (iv 0)) e) (lE a (iv 3) λd=>Br d (av zQ 43 5 [(0,(iv 1)),(1,(iv 0)),(2,(iv 1)),(3,(iv 0)),(4,(iv 1))] b λd e=>rt c (tP d (iv 0)) e) (lE a (iv 4) λa=>Br a (av zQ 43 23 [(0,(iv 2)),(1,(iv 1)),(2,(iv 0)),(3,(iv 2)),(4,(iv 0)),(5,(iv 1)),(6,(iv 2)),(7,(iv 0)),(8,(iv 2)),(9,(iv 1)),(10,(iv 0)),(11,(iv 2)),(12,(iv 0)),(13,(iv 1)),(14,(iv 2)),(15,(iv 0)),(16,(iv 2)),(17,(iv 1)),(18,(iv 0)),(19,(iv 2)),(20,(iv 0)),(21,(iv 1)),(22,(iv 2))] b λa d=>rt c (tP a (iv 0)) d) (rt c (tP (.slice none 0 0) (iv 1)) b)))
theorem Ig(h:L269 g a0 H R):sc g 269 #[a0] H R:=sd .e Tryz.func269 h
def L270:Y3:=λa b c d e f=>DR e λg=>Ld g c λh=>Ld g c λi=>CN a 271 #[h] e λe h=>aM h g/\
CN a 140 #[i] h λh i=>aM i g/\
∀g:Jt,(∀j k:zV,∀l:Hp,(∀_:Fr,
Ld l c λm=>lA e j λe=>CR f a 273 #[m,e] l λe m=>lX e λe _=>lA k e λe=>rt f e m)->g [j,k] l)->Ld i d λd=>aO d λe=>∃(j:Jt) (k:Mt),JE j [h,(iv 0),(iv 0),(iv 0)] i/\∀h i l m:zV,∀n:Hp,j [h,i,l,m] n->∀_:Fr,
lL m e λe=>Br e (∀e:Jt,(∀o p q:zV,∀r:Hp,(∀_:Fr,
lA m (iv 1) λs=>aC j k [o,p,q,s] r [h,i,l,m] n)->e [o,p,q] r)->lI 1 d m n λd=>Ld n c λc=>lA b d λb=>CR f a 272 #[c,b] n λa b=>lX a λa c=>lQ 3 b #[(iv 0),(iv 0),(iv 0)] 328 a λa b=>lN c (iv 0) λc=>Br c (JE g [i,l] b) (lA l (iv 1) λc=>lD 2 (pt a) b λd=>lL d h λd=>Br d (lD 2 (pt a) b λa=>JE e [a,c,c] b) (JE e [h,i,c] b))) (JE g [i,l] n)
theorem Ie(h:L270 g a0 a1 a2 H R):sc g 270 #[a0,a1,a2] H R:=sd (.n .e (.n (.h 0 [0,2,1,3,4,5,6,7] [] .e .e) (.h 1 [7,8] [1,5] (.n .e (.n (.h 0 [6,7,8,21] [0,1,5,19,20] (.n .e (.n .e (.h 1 [6,7,8] [0,1,5,19,20,21] .e .e))) .e) .e)) .e))) Tryz.func270 h
def L271:Y1:=λ_ a b c=>ae .ptr .eql a (.pointer none) λd=>Br d (rt c (iv 0) b) (lM 7 a b λa=>aO a λa=>rt c a b)
theorem Ic(h:L271 g a0 H R):sc g 271 #[a0] H R:=sd .e Tryz.func271 h
def L272:Y2:=λa b c d e=>lW d #[(iv 0),(iv 0),(iv 0)] 328 λd f=>CR e a 140 #[b] f λf g=>Build zQ 328 [(0,c),(1,f)] λf=>lQ 3 g #[(iv 0),(iv 0),(iv 0)] 328 f λf g=>CR e a 151 #[b,c] g λc g=>lN c (iv 0) λh=>Br h (Build zQ 328 [] λh=>St 3 g (pt d) h λh=>ay 3 h (pt d) λi=>rt e (tP i c) h) (CR e a 140 #[b] g λa b=>ai 2 (pt f) λc=>St 1 b c a λa=>ay 3 a (pt f) λb=>St 3 a (pt d) b λa=>ay 3 a (pt d) λb=>rt e (tP b (iv 0)) a)
theorem wW(h:L272 g a0 a1 H R):sc g 272 #[a0,a1] H R:=sd .e Tryz.func272 h
def L273:Y2:=λa b c d e=>ae .ptr .eql b (.pointer none) λf=>Br f (rt e (tP (iv 0) (iv 10)) d) (∀f:Jt,(∀g:zV,∀h:Hp,(∀_:Fr,
Br g (rt e (tP (iv 0) (iv 1)) h) (∃(i:Jt) (j:Mt),JE i [(iv 0)] h/\∀k:zV,∀l:Hp,i [k] l->∀_:Fr,
CR e a 271 #[b] l λm n=>lG m c λm=>Br m (CR e a 338 #[b] n λ_ m=>lA k (iv 1) λo=>aC i j [o] m [k] l) (rt e (tP k (iv 0)) n)))->f [g] h)->lL c (iv 0) λg=>Split g false (CR e a 271 #[b] d λa b=>lG c a λa=>aI vF vT a λa=>JE f [a] b) (aI vT vT undef λa=>JE f [a] d))
theorem Ib(h:L273 g a0 a1 H R):sc g 273 #[a0,a1] H R:=sd (.n .e (.n .e (.n (.h 1 [16] [0,1] .e .e) (.n .e (.n (.n (.h 0 [6] [0,1] .e .e) .e) .e))))) Tryz.func273 h
def L274:Y3:=λa b c d e f=>DR e λg=>lC 1 b λh=>ai 2 h λh=>Ld g h λh=>lM 0 b g λi=>aL zQ a i #[d] e (λd e=>aM e g/\
lA h d λd=>lC 1 b λg=>ai 2 g λg=>St 1 e g d λd=>CR f a 140 #[c] d λa c=>lC 1 b λb=>ai 1 b λb=>St 1 c b a λa=>rt f (.tuple #[]) a) fI
theorem Ia(h:L274 g a0 a1 a2 H R):sc g 274 #[a0,a1,a2] H R:=sd (.n (.h 0 [0,1,2,3,4,5,6,7,8,9,10,11,12,13,14,15] [] .e .e) .e) Tryz.func274 h
def L275:Y2:=λa b c d e=>cy d (.cells (Value.cells c) 4 (0,0)) λc d=>lW d #[(iv 0),(.slice none 0 0)] 116 λd f=>CR e a 339 #[b] f λf g=>lN f (iv 0) λh=>Br h (Build zQ 116 [] λh=>St 2 g (pt d) h λh=>ay 2 h (pt d) λi=>rt e (tP i f) h) (CR e a 340 #[b,(.func (.func 341) #[] #[(pt c)])] g λa b=>St 2 b (pt d) a λa=>ay 2 a (pt d) λb=>rt e (tP b (iv 0)) a)
theorem H9(h:L275 g a0 a1 H R):sc g 275 #[a0,a1] H R:=sd .e Tryz.func275 h
def L276:Y5:=λa b c d e f g h=>cy g (.cells (Value.cells b) 85 (0,0)) λb g=>cy g (.cells (Value.cells d) 116 (0,0)) λd g=>cy g (.cells (Value.cells e) 116 (0,0)) λe g=>cy g (.cells (Value.cells f) 336 (0,0)) λf g=>lW g #[(iv 0),(.slice none 0 0)] 116 λg i=>gG i λi j=>ay 2 j (pt d) λd=>aW (.int .u32) j i (ui 0) d λd=>ay 2 d (pt e) λe=>aW (.int .u32) d i (ui 1) e λd=>lQ 1 d #[(.map none)] 403 i λd e=>lW e #[.nilFunc] 404 λe i=>St 1 i (pt e) (.func (.func 342) #[] #[(pt d),(pt b),(pt f),(pt e)]) λb=>Ld b (pt e) λd=>aL zQ a d #[c] b (λa b=>St 2 b (pt g) a λa=>ay 2 a (pt g) λb=>rt h b a) (dz h)
theorem H8(h:L276 g a0 a1 a2 a3 a4 H R):sc g 276 #[a0,a1,a2,a3,a4] H R:=sd .e Tryz.func276 h
def L277:Y4:=λa b c d e f g=>cy f (.cells (Value.cells b) 226 (0,0)) λb f=>cy f (.cells (Value.cells c) 116 (0,0)) λc f=>cy f (.cells (Value.cells d) 116 (0,0)) λd f=>lW f #[(iv 0),(.slice none 0 0)] 116 λf h=>Ld h e λe=>lD 0 (pt b) h λb=>CR g a 278 #[e,b] h λb e=>lX b λb _=>lQ 2 e #[(iv 0),(.slice none 0 0)] 116 b λb e=>ay 2 e (pt b) λb=>ay 2 e (pt d) λd=>ay 2 e (pt c) λc=>CR g a 279 #[b,d,c] e λa b=>lX a λa _=>lQ 2 b #[(iv 0),(.slice none 0 0)] 116 a λa b=>ay 2 b (pt a) λa=>St 2 b (pt f) a λa=>ay 2 a (pt f) λb=>rt g b a
theorem H7(h:L277 g a0 a1 a2 a3 H R):sc g 277 #[a0,a1,a2,a3] H R:=sd .e Tryz.func277 h
def L278:Y2:=λa b c d e=>cy d (.cells (Value.cells c) 3 (0,0)) λc d=>lW d #[(iv 0),(.slice none 0 0)] 116 λd f=>CR e a 339 #[b] f λf g=>lN f (iv 0) λh=>Br h (Build zQ 116 [] λh=>St 2 g (pt d) h λh=>ay 2 h (pt d) λi=>rt e (tP i f) h) (Ld g (pt c) λf=>lL f (iv 0) λf=>lO f (λf=>Ld g (pt c) λh=>ae .num .geq h b λh=>(lV g h f)) λf=>Br (Value.bool f) (Build zQ 116 [] λf=>St 2 g (pt d) f λf=>ay 2 f (pt d) λh=>rt e (tP h (iv 2)) f) (CR e a 340 #[b,(.func (.func 343) #[] #[(pt c)])] g λa b=>St 2 b (pt d) a λa=>ay 2 a (pt d) λb=>rt e (tP b (iv 0)) a))
theorem H6(h:L278 g a0 a1 H R):sc g 278 #[a0,a1] H R:=sd (.n .e (.n .e (.n (.n (.h 0 [] [1] .e .e) .e) .e))) Tryz.func278 h
def L279:Y3:=λa b c d e f=>cy e (.cells (Value.cells b) 116 (0,0)) λb e=>cy e (.cells (Value.cells c) 116 (0,0)) λc e=>cy e (.cells (Value.cells d) 116 (0,0)) λd e=>lW e #[(iv 0),(.slice none 0 0)] 116 λe g=>ay 2 g (pt b) λh=>ay 2 g (pt c) λi=>ay 2 g (pt d) λj=>av zQ 66 3 [(0,h),(1,i),(2,j)] g λg h=>CR f a 345 #[g] h λg h=>Un .not g λg=>Br g (Build zQ 116 [] λg=>St 2 h (pt e) g λg=>ay 2 g (pt e) λi=>rt f (tP i (iv 5)) g) (lD 0 (pt b) h λg=>CR f a 340 #[g,(.func (.func 346) #[] #[(pt b),(pt c),(pt d)])] h λa b=>St 2 b (pt e) a λa=>ay 2 a (pt e) λb=>rt f (tP b (iv 0)) a)
theorem HZ(h:L279 g a0 a1 a2 H R):sc g 279 #[a0,a1,a2] H R:=sd .e Tryz.func279 h
def L280:Y1:=λa b c d=>gG c λc e=>gG e λe f=>Build zQ 343 [(0,b),(3,c),(4,e)] λc=>cy f (.cells (Value.cells c) 343 (0,0)) λc e=>aO b λf=>lE f (iv 0) λf=>Br f (rt d (tP (pt c) (iv 0)) e) (CR d a 347 #[b] e λe f=>lX e λ_ e=>lN e (iv 0) λg=>Br g (rt d (tP (.pointer none) e) f) (au 2 b (iv 0) λe=>ai 0 e λe=>Ld f e λe=>lC 1 (pt c) λg=>St 1 f g e λe=>aO b λf=>∃(g:Jt) (h:Mt),JE g [(iv 0)] e/\∀e:zV,∀i:Hp,g [e] i->∀_:Fr,
lL e f λf=>Br f (au 2 b e λb=>ay 2 i b λb=>lQ 2 i #[(iv 0),(.slice none 0 0)] 116 b λb f=>ay 2 f (pt b) λb=>CR d a 348 #[b] f λa b=>lX a λa _=>lM 2 (pt c) b λf=>br .i64 a λa=>ae .num .or f a λa=>lC 2 (pt c) λf=>St 1 b f a λa=>lA e (iv 1) λb=>aC g h [b] a [e] i) (rt d (tP (pt c) (iv 0)) i)))
theorem HY(h:L280 g a0 H R):sc g 280 #[a0] H R:=sd (hN 5 (.n (.n .e (.n (.h 0 [37] [4,35,36] .e .e) .e)) .e)) Tryz.func280 h
def L281:Y3:=λa b c d e f=>lM 2 b e λg=>ae .num .shr g d λg=>ae .num .and g (iv 1) λg=>lE g (iv 0) λg=>Br g (rt f (iv 0) e) (lM 2 b e λg=>ae .num .and c g λc=>Build zQ 411 [(0,c),(1,d)] λc=>lQ 2 e #[(iv 0),(iv 0)] 411 c λc e=>lM 3 b e λg=>ay 2 e (pt c) λh=>jX zQ 411 (iv 0) true e g h λg=>lX g λg h=>∀i:Jt,(∀j:zV,∀k:Hp,(∀_:Fr,
rt f j k)->i [j] k)->Un .not h λf=>Br f (DR e λf=>lM 0 b f λh=>iY 2 1 (pt c) (iv 0) λj=>Ld f j λj=>br .u64 j λj=>CN a 349 #[h,j,d] e λa d=>aM d f/\
lX a λa _=>DR d λf=>lM 3 b f λb=>ay 2 f (pt c) λc=>iK zQ 411 d b c a λb=>JE i [a] b) (JE i [g] e))
theorem HX(h:L281 g a0 a1 a2 H R):sc g 281 #[a0,a1,a2] H R:=sd (hN 4 (.h 1 [8] [] (.n .e (.n (.n (.h 0 [0,1,2,3,4,5,6,7,8,9,10,11,12] [] .e .e) (.h 0 [0,1,2,3,4,5,6] [] .e .e)) .e)) .e)) Tryz.func281 h
def L282:Y2:=λa b c d e=>lM 2 b d λf=>ae .num .and c f λc=>lM 2 b d λf=>lE c f λf=>Br f (rt e (iv 0) d) (lM 4 b d λf=>cZ (.int .i64) (iv 0) true d f c λf=>lX f λf g=>Br g (rt e f d) (lM 1 b d λf=>∃(g:Jt) (h:Mt),JE g [(iv (-1)),(iv 0)] d/\∀d i:zV,∀j:Hp,g [d,i] j->∀_:Fr,
lL i f λf=>Br f (∀f:Jt,(∀k:zV,∀l:Hp,(∀_:Fr,
lA i (iv 1) λm=>aC g h [k,m] l [d,i] j)->f [k] l)->lM 2 b j λg=>Un .xor g λg=>ae .num .or c g λg=>ae .num .shr g i λg=>ae .num .and g (iv 1) λg=>lE g (iv 1) λg=>Br g (JE f [d] j) (DR j λ_=>ae .num .shl (iv 1) i λg=>ae .num .or c g λg=>CN a 281 #[b,c,i] j λh i=>CN a 282 #[b,g] i λa g=>lA h a λa=>lL d (iv 0) λh=>lO h (λh=>lL a d λi=>(lV g i h)) λh=>Br (Value.bool h) (JE f [a] g) (JE f [d] g))) (lM 4 b j λa=>aW (.int .i64) j a c d λa=>rt e d a)))
theorem wV(h:L282 g a0 a1 H R):sc g 282 #[a0,a1] H R:=sd (hN 5 (.n (.n .e (.n (.h 0 [7,37] [0,1,36] (.n .e (.n .e (.h 1 [7] [0,1,36,37] (.n (.n .e (.n .e (.n (.h 0 [0,1,2,4,5,6,7,8,3,9,10,11] [] .e .e) (.n (.h 0 [] [1] .e .e) .e)))) .e) .e))) .e) .e)) .e)) Tryz.func282 h
def L283:Y1:=λ_ a b c=>aO a λd=>cU 4 1 1 vF b d d λb d=>aO a λe=>∃(f:Jt) (g:Mt),JE f [(iv 0)] d/\∀d:zV,∀h:Hp,f [d] h->∀_:Fr,
lL d e λe=>Br e (lI 1 a d h λe=>lL e (iv 0) λi=>lO i (λi=>aO a λj=>ae .num .geq e j λj=>(lV h j i)) λi=>lO (Value.bool i) (λi=>lI 1 b e h λj=>(lV h j i)) λi=>Br (Value.bool i) (rt c (iv 4) h) (au 1 b e λb=>St 1 h b vT λb=>lA d (iv 1) λe=>aC f g [e] b [d] h)) (aO a λa=>lG a (iv 64) λa=>Br a (rt c (iv 13) h) (rt c (iv 0) h))
theorem HW(h:L283 g a0 H R):sc g 283 #[a0] H R:=sd (.n .e (.n .e (.n (.n .e (.n (.h 0 [11] [0,3,9,10] (.n .e (.n .e (.n (.n (.n .e (.n (.n (.h 0 [] [1] .e .e) .e) .e)) .e) .e))) .e) .e)) .e))) Tryz.func283 h
def L284:Y2:=λa b c d e=>CR e a 350 #[b,c] d λd f=>lN d (iv 0) λg=>Br g (rt e (tP (.slice none 0 0) d) f) (CR e a 71 #[b] f λb d=>aO c λf=>∃(g:Jt) (h:Mt),JE g [(.slice none 0 0),(iv 0)] d/\∀d i:zV,∀j:Hp,g [d,i] j->∀_:Fr,
lL i f λf=>Br f (lI 1 c i j λc=>CR e a 351 #[b,c] j λa c=>∃(f:Jt) (k:Mt),JE f [d,a] c/\∀a c:zV,∀l:Hp,f [a,c] l->∀_:Fr,
lG c i λm=>Br m (DR l λm=>lS c (iv 1) λn=>lI 1 b c m λo=>lS c (iv 1) λp=>lI 1 b p m λm=>au 1 b n λn=>St 1 l n o λn=>au 1 b c λb=>St 1 n b m λb=>lS c (iv 1) λm=>av zQ 43 1 [(0,m)] b λb m=>App zQ 3 1 8 (iv 0) m a b λb m=>lS c (iv 1) λn=>aC f k [b,n] m [a,c] l) (lA i (iv 1) λb=>aC g h [a,b] l [d,i] j)) (rt e (tP d (iv 0)) j))
theorem HV(h:L284 g a0 a1 H R):sc g 284 #[a0,a1] H R:=sd (hN 4 (.n (.n .e (.n (.h 0 [8,22] [7,20,21] (.n .e (.n .e (.n (.n (.n .e (.n .e (.n (.h 0 [8,11] [7,9,20,21,22] (.n .e (.n (.n (.n (.h 0 [0,1,2,3,4,5,6,7,8,9,10,11,12,13,14,15,16,17] [] .e .e) .e) .e) .e)) .e) .e))) .e) .e))) .e) .e)) .e)) Tryz.func284 h
def L285:Y2:=λa b c d e=>lW d #[(iv 0)] 3 λd f=>CF a 352 #[b] f (λb f=>lQ 1 f #[(.pointer none)] 414 b λb f=>aO c λg=>∃(h:Jt) (i:Mt),JE h [(iv 0)] f/\∀f:zV,∀j:Hp,h [f] j->∀_:Fr,
lL f g λg=>Br g (lI 1 c f j λc=>Ld j (pt b) λg=>CF a 355 #[g,c] j (λc g=>lN c (iv 0) λk=>Br k (St 1 g (pt d) (iv 0) λk=>j3 zQ a 353 #[(pt b),(pt d)] k λk=>Ld k (pt d) λl=>rt e (tP l c) k) (lA f (iv 1) λc=>aC h i [c] g [f] j)) NS) (Ld j (pt b) λc=>lC 3 c λc=>St 1 j c vT λc=>St 1 c (pt d) (iv 0) λc=>j3 zQ a 353 #[(pt b),(pt d)] c λa=>Ld a (pt d) λb=>rt e (tP b (iv 0)) a)) NS
theorem HU(h:L285 g a0 a1 H R):sc g 285 #[a0,a1] H R:=
 zZ (hn:=(hN 3 (.n (.n .e (.n (.h 0 [14] [4,6,12,13] .e .e) .e)) .e))) Tryz.func285 h zK
def L286:Y2:=λa b c d e=>lW d #[(iv 0),(ui 0),(ui 0)] 226 λd f=>ae .ptr .eql b (.pointer none) λg=>Br g (Build zQ 226 [] λg=>St 3 f (pt d) g λg=>ay 3 g (pt d) λh=>rt e (tP h (iv 10)) g) (CR e a 356 #[b,c] f λa f=>Un .not a λa=>Br a (Build zQ 226 [] λa=>St 3 f (pt d) a λa=>ay 3 a (pt d) λg=>rt e (tP g (iv 3)) a) (lM 1 b f λa=>au 5 a c λa=>ai 0 a λa=>ay 3 f a λa=>St 3 f (pt d) a λa=>ay 3 a (pt d) λb=>rt e (tP b (iv 0)) a))
theorem HT(h:L286 g a0 a1 H R):sc g 286 #[a0,a1] H R:=sd .e Tryz.func286 h
def L287:Y2:=λa b c d e=>lW d #[(iv 0),(ui 0),(ui 0)] 226 λd f=>lM 0 b f λb=>CR e a 286 #[b,c] f λa b=>lX a λa _=>lQ 3 b #[(iv 0),(ui 0),(ui 0)] 226 a λa b=>ay 3 b (pt a) λa=>St 3 b (pt d) a λa=>ay 3 a (pt d) λb=>rt e b a
theorem HR(h:L287 g a0 a1 H R):sc g 287 #[a0,a1] H R:=sd .e Tryz.func287 h
def L288:Y2:=λa b c d e=>cy d (.cells (Value.cells c) 226 (0,0)) λc d=>lD 0 (pt c) d λf=>CR e a 357 #[b,f] d λa d=>lN a (iv 0) λf=>Br f (rt e a d) (lM 0 b d λa=>lD 0 (pt c) d λf=>lI 1 a f d λa=>ay 3 d (pt c) λf=>jX zQ 226 (ui 0) true d a f λa=>lX a λ_ a=>Un .not a λa=>Br a (rt e (iv 10) d) (DR d λa=>lM 0 b a λb=>lD 0 (pt c) a λf=>lI 1 b f a λb=>ay 3 a (pt c) λc=>rF zQ 226 d b c λb=>aM b a/\
rt e (iv 0) b))
theorem HQ(h:L288 g a0 a1 H R):sc g 288 #[a0,a1] H R:=sd (hN 3 (.n (.h 0 [0,1,2,3,4,5,6,7,8,9] [] .e .e) .e)) Tryz.func288 h
def L289:Y2:=λa b c d e=>ae .ptr .eql b (.pointer none) λf=>Br f (rt e (iv 10) d) (CR e a 358 #[b,c] d λa d=>lN a (iv 0) λf=>Br f (rt e a d) (lM 1 b d λa=>Build zQ 228 [] λf=>au 5 a c λa=>St 5 d a f λa=>lM 2 b a λd=>av zQ 194 1 [(0,c)] a λa c=>App zQ 110 1 4 (ui 0) c d a λa c=>lC 2 b λd=>St 1 c d a λa=>lM 3 b a λc=>lS c (iv 1) λc=>lC 3 b λb=>St 1 a b c λa=>rt e (iv 0) a))
theorem HP(h:L289 g a0 a1 H R):sc g 289 #[a0,a1] H R:=sd .e Tryz.func289 h
def L290:Y5:=λa b c d e f g h=>Ld g c λi=>cZ (.int .u32) (wi 0) true g i b λi=>lX i λi j=>Br j (rt h i g) (Ld g d λd=>CR h a 202 #[d,b] g λd g=>lQ 3 g #[(iv 0),(ui 0),(ui 0)] 226 d λd g=>DR g λi=>Ld i e λe=>ay 3 i (pt d) λj=>Ld i f λk=>lD 1 (pt d) i λl=>Ld i f λf=>lD 2 (pt d) i λd=>∀m:Hp,
aL zQ (a.add m) k #[l] g (λg k=>aM k i/\
∀l:Hp,
aL zQ (a.add l) f #[d] k (λd f=>aM f i/\
∀i:Hp,
aL zQ (a.add i) e #[j,g,d] f (λa d=>Ld d c λc=>aW (.int .u32) d c b a λb=>rt h a b) fI) fI) fI)
theorem wU(h:L290 g a0 a1 a2 a3 a4 H R):sc g 290 #[a0,a1,a2,a3,a4] H R:=sd (hN 3 (.n (.h 1 [] [] (hr 0 [1] 0 5 (hr 0 [1] 6 3 (.h 0 [5] [1] (hr 0 [1] 9 3 .e) .e))) .e) .e)) Tryz.func290 h
def L291:Y5:=λa b c d e f g h=>CR h a 201 #[b] g λg i=>lO g (λg=>Ld i c λj=>cZ (.int .u32) (iv 0) false i j b λj=>lG j (iv 0) λj=>(lV i j g)) λg=>Br (Value.bool g) (rt h (.tuple #[]) i) (Ld i c λc=>aW (.int .u32) i c b (iv 1) λc=>Ld c d λd=>CR h a 202 #[d,b] c λb c=>lQ 3 c #[(iv 0),(ui 0),(ui 0)] 226 b λb c=>Ld c e λd=>ay 3 c (pt b) λe=>aL zQ a d #[e] c (λ_ c=>Ld c f λd=>lD 1 (pt b) c λe=>aL zQ a d #[e] c (λ_ c=>Ld c f λd=>lD 2 (pt b) c λb=>aL zQ a d #[b] c (λ_ a=>rt h (.tuple #[]) a) (dz h)) (dz h)) (dz h))
theorem wT(h:L291 g a0 a1 a2 a3 a4 H R):sc g 291 #[a0,a1,a2,a3,a4] H R:=sd (.n (.n (.h 0 [] [1] .e .e) .e) .e) Tryz.func291 h
def L292:Y2:=λa b c d e=>ae .ptr .eql b (.pointer none) λf=>Br f (rt e (iv 10) d) (CR e a 249 #[b,c] d λa b=>lX a λa d=>lQ 3 b #[(iv 0),(ui 0),(ui 0)] 226 a λ_ a=>lN d (iv 0) λb=>Br b (rt e d a) (lE c (ui 0) λb=>Br b (rt e (iv 10) a) (rt e (iv 0) a)))
theorem HN(h:L292 g a0 a1 H R):sc g 292 #[a0,a1] H R:=sd .e Tryz.func292 h
def L293:Y2:=λa b c d e=>cy d (.cells (Value.cells b) 85 (0,0)) λb d=>Ld d (pt b) λf=>CR e a 185 #[f] d λd f=>gG f λf g=>Build zQ 361 [(0,d),(1,c),(2,f)] λd=>cy g (.cells (Value.cells d) 361 (0,0)) λd f=>lQ 1 f #[(.pointer none)] 353 (pt d) λd f=>Ld f (pt d) λg=>lM 0 g f λg=>∃(h:Jt) (i:Mt),JE h [(iv 0)] f/\∀f:zV,∀j:Hp,h [f] j->∀_:Fr,
lL f g λg=>Br g (Ld j (pt b) λg=>CR e a 150 #[g,f] j λg k=>lX g λg _=>DR k λl=>Ld l (pt d) λm=>Ld l (pt d) λn=>lM 3 n l λn=>∀_:Hp,
av zQ 43 1 [(0,g)] k λg k=>aM k l/\
∀_:Hp,
App zQ 3 1 8 (iv 0) k n g λg k=>aM k l/\
lC 3 m λl=>∀_:Hp,
St 1 k l g λg=>lA f (iv 1) λk=>aC h i [k] g [f] j) (lW j #[.nilFunc] 261 λf g=>St 1 g (pt f) (.func (.func 359) #[] #[(pt d),(pt b),(pt f)]) λb=>Ld b (pt f) λf=>aL zQ a f #[c] b (λ_ a=>Ld a (pt d) λb=>rt e b a) (dz e))
theorem HM(h:L293 g a0 a1 H R):sc g 293 #[a0,a1] H R:=sd (.n .e (.n .e (.n (.n .e (.n (.h 0 [20] [1,2,5,19] (.n .e (.n .e (.n (.n (.n .e (.n .e (.h 1 [] [] (hr 0 [1] 0 11 .e) .e))) .e) .e))) .e) .e)) .e))) Tryz.func293 h
def L294:Y1:=λa b c d=>cy c (.cells (Value.cells b) 353 (0,0)) λb c=>lW c #[(wi 0),vF] 356 λc e=>Ld e (pt b) λf=>CR d a 360 #[f] e λe f=>lQ 1 f #[(.slice none 0 0)] 43 e λe f=>gG f λf g=>Build zQ 356 [] λh=>aW (.int .u32) g f (ui 0) h λg=>Build zQ 356 [(0,(wi 1))] λh=>aW (.int .u32) g f (ui 1) h λg=>lQ 1 g #[(.map none)] 419 f λf g=>lW g #[.nilFunc] 260 λg h=>St 1 h (pt g) (.func (.func 361) #[] #[(pt b)]) λh=>lW h #[.nilFunc] 420 λh i=>lW i #[.nilFunc] 422 λi j=>St 1 j (pt i) (.func (.func 362) #[] #[(pt h),(pt e),(pt g)]) λe=>St 1 e (pt h) (.func (.func 364) #[] #[(pt f),(pt b),(pt i)]) λe=>DR e λf=>Ld f (pt i) λg=>Ld f (pt b) λb=>lM 1 b f λb=>∀f:Hp,
aL zQ (a.add f) g #[b,(iv 0)] e (λa b=>∀_:Hp,
St 2 b (pt c) a λa=>ay 2 a (pt c) λb=>rt d b a) fI
theorem HL(h:L294 g a0 H R):sc g 294 #[a0] H R:=sd (hN 7 (.n (.h 1 [] [] (hr 0 [1] 0 7 .e) .e) .e)) Tryz.func294 h
def L295:Y2:=λ_ a b c d=>cy c (.cells (Value.cells a) 356 (0,0)) λa c=>lD 1 (pt a) c λe=>lO e (λe=>lD 0 (pt a) c λa=>lG a b λa=>(lV c a e)) λe=>rt d (Value.bool e) c
theorem HK(h:L295 g a0 a1 H R):sc g 295 #[a0,a1] H R:=sd (.n .e (.n (.h 0 [] [1] .e .e) .e)) Tryz.func295 h
def L296:Y3:=λ_ a b c d e=>DR d λf=>lM 4 a f λf=>ae .num .shl (wi 1) b λg=>ae .num .or f g λf=>lC 4 a λg=>∀_:Hp,
St 1 d g f λd=>DR d λf=>lM 5 a f λf=>ae .num .shl (wi 1) b λg=>ae .num .andNot f g λf=>ae .num .shl c b λb=>ae .num .or f b λb=>lC 5 a λa=>∀_:Hp,
St 1 d a b λa=>rt e (.tuple #[]) a
theorem HJ(h:L296 g a0 a1 a2 H R):sc g 296 #[a0,a1,a2] H R:=sd (.n (.h 1 [] [] (hr 0 [1] 0 10 .e) .e) (.h 1 [] [] (hr 0 [1] 0 15 .e) .e)) Tryz.func296 h
def L297:Y3:=λa b c d e f=>lC 0 b λg=>ai 1 g λg=>Ld e g λg=>CR f a 366 #[g,c] e λc e=>lX c λc _=>aO c λg=>∃(h:Jt) (i:Mt),JE h [(.slice none 0 0),(iv 0)] e/\∀e j:zV,∀k:Hp,h [e,j] k->∀_:Fr,
lL j g λg=>Br g (∀g:Jt,(∀l:zV,∀m:Hp,(∀_:Fr,
lA j (iv 1) λn=>aC h i [l,n] m [e,j] k)->g [l] m)->lI 1 c j k λc=>lC 0 b λh=>CR f a 287 #[h,c] k λh i=>lQ 3 i #[(iv 0),(ui 0),(ui 0)] 226 h λh i=>∀j:Jt,(∀l:zV,∀m:Hp,(∀_:Fr,
Br l (JE g [e] m) (ay 3 m (pt h) λn=>Build zQ 367 [(0,c),(1,n)] λc=>lQ 8 m #[(ui 0),(iv 0),(ui 0),(ui 0),(ui 0),(ui 0),(ui 0),(ui 0)] 367 c λc n=>lD 1 (pt h) n λo=>CR f a 367 #[b,o,d] n λn o=>lX n λn p=>ai 4 (pt c) λq=>St 1 o q n λn=>ai 5 (pt c) λo=>St 1 n o p λn=>lD 2 (pt h) n λo=>CR f a 367 #[b,o,d] n λn o=>lX n λn p=>ai 6 (pt c) λq=>St 1 o q n λn=>ai 7 (pt c) λo=>St 1 n o p λn=>ay 8 n (pt c) λc=>av zQ 363 1 [(0,c)] n λc n=>App zQ 367 8 40 (.agg #[(ui 0),(iv 0),(ui 0),(ui 0),(ui 0),(ui 0),(ui 0),(ui 0)]) n e c λc n=>JE g [c] n))->j [l] m)->DR i λc=>lC 0 b λg=>lD 1 (pt h) c λl=>∀m:Hp,
CN (a.add m) 287 #[g,l] i λg i=>aM i c/\
Bm 0 g λg=>lN g d λg=>Br g (lC 0 b λb=>lD 2 (pt h) c λg=>∀h:Hp,
CN (a.add h) 287 #[b,g] i λa b=>aM b c/\
Bm 0 a λa=>lN a d λa=>aI vT a vF λa=>JE j [a] b) (JE j [vF] i)) (rt f e k)
theorem HH(h:L297 g a0 a1 a2 H R):sc g 297 #[a0,a1,a2] H R:=sd (hN 3 (.n (.n .e (.n (.h 0 [7,26] [0,2,24,25] (.n .e (.n .e (.h 1 [7] [0,2,24,25,26] (.n (.n .e (.n .e (.n (.h 1 [54] [0,2,7,11,12,24,25,26] (.h 1 [] [] (hr 0 [] 0 5 (.h 0 [7] [] (hr 0 [] 5 2 (.h 0 [8] [] (.h 2 [9] [] (hr 0 [] 10 5 (.h 0 [17] [] (hr 0 [] 15 2 (hr 0 [] 18 2 .e)) .e)) (hr 0 [] 10 9 (.h 3 [19] [] .e .e))) .e)) .e)) .e) .e) .e))) .e) .e))) .e) .e)) .e)) Tryz.func297 h
def L298:Y3:=λa b c d e f=>gG e λe g=>aO d λh=>∃(i:Jt) (j:Mt),JE i [(iv 0)] g/\∀g:zV,∀k:Hp,i [g] k->∀_:Fr,
lL g h λh=>Br h (au 8 d g λd=>ay 8 k d λd=>lQ 8 k #[(ui 0),(iv 0),(ui 0),(ui 0),(ui 0),(ui 0),(ui 0),(ui 0)] 367 d λd h=>lD 4 (pt d) h λl=>lD 6 (pt d) h λm=>Build zQ 226 [(0,c),(1,l),(2,m)] λl=>lD 5 (pt d) h λm=>lD 7 (pt d) h λd=>Build zQ 226 [(0,c),(1,m),(2,d)] λc=>av zQ 309 2 [(0,l),(1,c)] h λc d=>aO c λh=>∃(l:Jt) (m:Mt),JE l [(iv 0)] d/\∀d:zV,∀n:Hp,l [d] n->∀_:Fr,
lL d h λh=>Br h (∀h:Jt,(∀o:Hp,(∀_:Fr,
lA d (iv 1) λp=>aC l m [p] o [d] n)->h [] o)->au 3 c d λc=>ay 3 n c λc=>lQ 3 n #[(iv 0),(ui 0),(ui 0)] 226 c λc d=>DR d λl=>lC 0 b λb=>ai 1 b λb=>Ld l b λb=>ay 3 l (pt c) λm=>CN a 320 #[b,m] d λb d=>aM d l/\
lX b λ_ b=>Un .not b λb=>lU b (λb=>lD 1 (pt c) d λl=>lD 2 (pt c) d λm=>lN l m λl=>(lV d l b)) λb=>Br (Value.bool b) (Zz zQ a 10 (oU Tryz.f298 10) [7,11] [e,(pt c)] d λa=>∀_:Fr,
JE h [] a) (JE h [] d)) (lA g (iv 1) λa=>aC i j [a] n [g] k)) (AZ k e λa=>rt f a k)
theorem HG(h:L298 g a0 a1 a2 H R):sc g 298 #[a0,a1,a2] H R:=sd (.n .e (.n .e (.n (.n .e (.n (.h 0 [17] [0,1,7,15,16] (.n .e (.n .e (.n (.n (.n .e (.n .e (.n (.h 0 [35] [0,1,7,15,16,17,33,34] (.n .e (.n .e (.h 1 [] [0,1,7,15,16,17,33,34,35] (.n (.n .e (.n (.h 0 [0,1,2,3,4,5,6,7,8,9,10,11] [] .e .e) (.n (.h 0 [] [1] .e .e) (.n (.h 9 [7,11] [] .e .e) .e)))) .e) .e))) .e) .e))) .e) .e))) .e) .e)) .e))) Tryz.func298 h
def L299:Y4:=λa b c d e f g=>lE d e λh=>Br h (rt g d f) (Build zQ 226 [(0,c),(1,d),(2,e)] λc=>lQ 3 f #[(iv 0),(ui 0),(ui 0)] 226 c λc d=>DR d λe=>lM 1 b e λf=>ay 3 e (pt c) λh=>CN a 320 #[f,h] d λd f=>aM f e/\
lX d λd e=>Br e (rt g d f) (ay 3 f (pt c) λc=>CR g a 246 #[b,c] f λa b=>rt g a b))
theorem qe(h:L299 g a0 a1 a2 a3 H R):sc g 299 #[a0,a1,a2,a3] H R:=sd (hN 3 (.n (.n (.h 0 [0,1,2,3,4,5,6,7,8,9,10] [] .e .e) .e) .e)) Tryz.func299 h
def L300:Y2:=λ_ a b c d=>lG b (ui 1) λe=>Br e (lM 2 a c λa=>lI 1 a b c λe=>lA e (Value.int .i32 1) λe=>au 1 a b λa=>St 1 c a e λa=>rt d (.tuple #[]) a) (rt d (.tuple #[]) c)
theorem HE(h:L300 g a0 a1 H R):sc g 300 #[a0,a1] H R:=sd .e Tryz.func300 h
def L301:Y3:=λa b c d e f=>cy e (.cells (Value.cells d) 226 (0,0)) λd e=>ae .ptr .eql b (.pointer none) λg=>Br g (rt f (iv 10) e) (ay 3 e (pt d) λg=>CR f a 368 #[b,g] e λe g=>lN e (iv 0) λh=>Br h (rt f e g) (CR f a 358 #[b,c] g λa e=>lN a (iv 0) λg=>Br g (rt f a e) (DR e λa=>lM 1 b a λb=>ay 3 a (pt d) λa=>au 5 b c λb=>ai 0 b λb=>St 3 e b a λa=>rt f (iv 0) a)))
theorem HD(h:L301 g a0 a1 a2 H R):sc g 301 #[a0,a1,a2] H R:=sd (hN 4 (.n (.h 0 [0,1,2,3,4,5,6,7,8] [] .e .e) .e)) Tryz.func301 h
def L302:Y3:=λa b c d e f=>cy e (.cells (Value.cells c) 226 (0,0)) λc e=>lD 0 (pt c) e λg=>CR f a 357 #[b,g] e λa e=>lN a (iv 0) λg=>Br g (rt f a e) (lM 0 b e λa=>lD 0 (pt c) e λg=>lI 1 a g e λa=>ay 3 e (pt c) λg=>jX zQ 226 (ui 0) true e a g λa=>lX a λ_ a=>Br a (rt f (iv 11) e) (DR e λa=>lM 0 b a λb=>lD 0 (pt c) a λg=>lI 1 b g a λb=>ay 3 a (pt c) λa=>iK zQ 226 e b a d λa=>rt f (iv 0) a))
theorem HC(h:L302 g a0 a1 a2 H R):sc g 302 #[a0,a1,a2] H R:=sd (hN 3 (.n (.h 0 [0,1,2,3,4,5,6,7,8,9,10] [] .e .e) .e)) Tryz.func302 h
def L304:Y1:=λa b c d=>br .u64 b λb=>CR d a 154 #[b] c λa b=>ae .num .shl (wi 1) a λa=>rt d a b
theorem HB(h:L304 g a0 H R):sc g 304 #[a0] H R:=sd .e Tryz.func304 h
def L305:Y1:=λ_ a b c=>DR b λd=>Nil a λe=>Ld d e λe=>Nil a λf=>Ld d f λd=>ae .num .shl d (wi 13) λd=>ae .num .xor e d λd=>Nil a λe=>St 1 b e d λb=>DR b λd=>Nil a λe=>Ld d e λe=>Nil a λf=>Ld d f λd=>ae .num .shr d (wi 7) λd=>ae .num .xor e d λd=>Nil a λe=>St 1 b e d λb=>DR b λd=>Nil a λe=>Ld d e λe=>Nil a λf=>Ld d f λd=>ae .num .shl d (wi 17) λd=>ae .num .xor e d λd=>Nil a λe=>St 1 b e d λb=>Nil a λa=>Ld b a λa=>rt c a b
theorem HA(h:L305 g a0 H R):sc g 305 #[a0] H R:=sd (.n .e (.n (.h 0 [0,1,2,3,4,5,6,7,8,9] [] .e .e) (.n (.h 0 [0,1,2,3,4,5,6,7,8,9] [] .e .e) (.n (.h 0 [0,1,2,3,4,5,6,7,8,9] [] .e .e) .e)))) Tryz.func305 h
def L319:Y2:=λa b c d e=>lC 0 b λf=>CR e a 287 #[f,c] d λa c=>lQ 3 c #[(iv 0),(ui 0),(ui 0)] 226 a λa c=>lD 0 (pt a) c λd=>ae .num .geq d (iv 0) λd=>Br d (lM 6 b c λd=>lD 0 (pt a) c λa=>lI 1 d a c λa=>rt e a c) (lM 4 b c λa=>rt e a c)
theorem Hz(h:L319 g a0 a1 H R):sc g 319 #[a0,a1] H R:=sd .e Tryz.func319 h
def L320:Y2:=λa b c d e=>cy d (.cells (Value.cells c) 226 (0,0)) λc d=>lD 0 (pt c) d λf=>CR e a 357 #[b,f] d λa d=>lN a (iv 0) λa=>Br a (rt e (tP (ui 0) vF) d) (lM 0 b d λa=>lD 0 (pt c) d λb=>lI 1 a b d λa=>ay 3 d (pt c) λb=>jX zQ 226 (ui 0) true d a b λa=>lX a λa b=>rt e (tP a b) d)
theorem Hy(h:L320 g a0 a1 H R):sc g 320 #[a0,a1] H R:=sd .e Tryz.func320 h
def L321:Y1:=λ_ a b c=>ae .ptr .eql a (.pointer none) λd=>Br d (rt c (iv 0) b) (lM 0 a b λa=>rt c a b)
theorem Hx(h:L321 g a0 H R):sc g 321 #[a0] H R:=sd .e Tryz.func321 h
def L322:Y2:=λa b c d e=>cy d (.cells (Value.cells c) 226 (0,0)) λc d=>ae .ptr .eql b (.pointer none) λf=>Br f (rt e (tP (ui 0) (iv 10)) d) (ay 3 d (pt c) λf=>CR e a 368 #[b,f] d λa d=>lN a (iv 0) λf=>Br f (rt e (tP (ui 0) a) d) (lM 2 b d λa=>aO a λa=>lG a (iv 0) λf=>Br f (lM 2 b d λf=>lS a (iv 1) λg=>lI 1 f g d λf=>lM 2 b d λg=>lS a (iv 1) λa=>gw 1 g none (some a) λa=>lC 2 b λg=>St 1 d g a λa=>DR a λg=>lM 1 b g λh=>ay 3 g (pt c) λg=>Build zQ 228 [(0,g),(1,vT)] λg=>au 5 h f λh=>St 5 a h g λa=>lM 3 b a λg=>lA g (iv 1) λg=>lC 3 b λh=>St 1 a h g λa=>rt e (tP f (iv 0)) a) (lM 1 b d λa=>aO a λa=>lM 0 b d λf=>ae .num .geq a f λa=>Br a (rt e (tP (ui 0) (iv 9)) d) (DR d λa=>lM 1 b a λf=>ay 3 a (pt c) λc=>Build zQ 228 [(0,c),(1,vT)] λc=>av zQ 222 1 [(0,c)] d λc d=>aM d a/\
App zQ 228 5 24 (.agg #[(iv 0),(ui 0),(ui 0),vF,(bi 0)]) d f c λc d=>aM d a/\
lC 1 b λa=>St 1 d a c λa=>lM 3 b a λc=>lA c (iv 1) λc=>lC 3 b λd=>St 1 a d c λa=>lM 1 b a λb=>aO b λb=>lS b (iv 1) λb=>br .u32 b λb=>rt e (tP b (iv 0)) a))))
theorem Hw(h:L322 g a0 a1 H R):sc g 322 #[a0,a1] H R:=sd (hN 3 (.n (.n .e (.n .e (.n (.n .e (.n .e (.n (.h 0 [0,1,2,3,4,5,6,7,8] [] .e .e) .e))) .e))) (.n .e (.n (.h 0 [0,1,2,3,4,5,6,7,8,9,10,11] [] .e .e) .e)))) Tryz.func322 h
def L323:Y4:=λa b c d e f g=>∀h:Jt,(∀i:zV,∀j:Hp,(∀_:Fr,
Br i (rt g (tP (ui 0) vF) j) (CR g a 244 #[b,c,d,e] j λk l=>lX k λk m=>rt g (tP k m) l))->h [i] j)->ae .ptr .eql b (.pointer none) λi=>Split i false (CR g a 243 #[b,c,d,e] f λa b=>lN a (iv 0) λa=>aI vF vT a λa=>JE h [a] b) (aI vT vT undef λa=>JE h [a] f)
theorem Hv(h:L323 g a0 a1 a2 a3 H R):sc g 323 #[a0,a1,a2,a3] H R:=sd (.n .e (.n (.h 1 [19] [0,1,2,3] .e .e) .e)) Tryz.func323 h
def L324:Y2:=λa b c d e=>Ld d b λb=>lM 1 b d λb=>Zy d b λb d=>∃(f:Jt) (g:Mt),JE f [] d/\∀d:Hp,f [] d->∀_:Fr,
Xu d b λh i=>Ext 0 h λh=>Br h (JN i b λb=>Ext 0 b λb=>Ld i c λc=>CR e a 142 #[c,b] i λ_ a=>aC f g [] a [] d) (rt e (.tuple #[]) i)
theorem DY(h:L324 g a0 a1 H R):kL zQ g 324 #[a0,a1] H R:=
 z5 (hn:=(.n .e (.n (.h 0 [] [1,7] .e .e) .e))) Tryz.func324 h zK
def L325(g:Gh)(a0 a1 a2 a3 a4 a5:zV)(H:Hp)(R:Rt):Prop:=
Ld H a1 λa=>
CR R g 326 #[a,a0] H λa b=>
lX a λa c=>
lQ 3 b #[(iv 0),(ui 0),(ui 0)] 226 a λa b=>
Ld b a2 λd=>
lG c d λd=>
lO d (λd=>
Ld b a1 λe=>
lM 2 e b λe=>
lN e (iv 0) λe=>
(lV b e d)) λd=>
Br (Value.bool d) (
rt R a0 b) (
Ld b a3 λd=>
cZ (.int .u32) (ui 0) true b d a0 λd=>
lX d λd e=>
Br e (
rt R d b) (
∀d:Jt,(∀e:zV,∀f:Hp,(∀_:Fr,
Ld f a3 λh=>
aW (.int .u32) f h a0 e λh=>
rt R e h)->d [e] f)->
Ld b a2 λe=>
lE c e λc=>
Br c (
Ld b a4 λc=>
ay 3 b (pt a) λe=>
aL zQ g c #[e] b (λc e=>
JE d [c] e) (dz R)) (
Ld b a5 λc=>
lD 1 (pt a) b λe=>
aL zQ g c #[e] b (λb c=>
DR c λe=>
Ld e a1 λf=>
lD 0 (pt a) e λh=>
Ld e a5 λi=>
lD 2 (pt a) e λa=>
aL zQ g i #[a] c (λa c=>
aM c e/\
CN g 327 #[f,h,b,a] c λa b=>
aM b e/\
JE d [a] b) fI) (dz R))))
theorem Hu(h:L325 g a0 a1 a2 a3 a4 a5 H R):sc g 325 #[a0,a1,a2,a3,a4,a5] H R:=sd (.n .e (.n .e (.n (.n (.h 0 [] [1] .e .e) .e) (.n .e (.n .e (.h 1 [12] [0,3] (hN 3 (.h 0 [0,1,2,3,4,5,6,7,8,9] [] .e .e)) .e)))))) Tryz.func325 h
def L326:Y2:=λa b c d e=>lW d #[(iv 0),(ui 0),(ui 0)] 226 λd f=>lM 0 b f λg=>CR e a 249 #[g,c] f λc f=>lX c λc _=>lQ 3 f #[(iv 0),(ui 0),(ui 0)] 226 c λc f=>DR f λg=>ay 3 g (pt c) λh=>ay 3 g (pt c) λc=>CN a 379 #[b,c] f λa b=>aM b g/\
St 3 b (pt d) h λb=>aM b g/\
ay 3 b (pt d) λc=>rt e (tP c a) b
theorem Ht(h:L326 g a0 a1 H R):sc g 326 #[a0,a1] H R:=sd (.n .e (.n .e (.n (.h 0 [0,1,2,3,4,5] [] .e .e) .e))) Tryz.func326 h
def L327:Y4:=λa b c d e f g=>lM 2 b f λh=>lN h (iv 0) λh=>Br h (rt g (ui 0) f) (lM 0 b f λh=>CR g a 175 #[h,c,d,e] f λf h=>lX f λf i=>∀j:Jt,(∀k:zV,∀l:Hp,(∀_:Fr,
rt g k l)->j [k] l)->lE i (iv 8) λk=>Br k (lM 0 b h λk=>CR g a 323 #[k,c,d,e] h λc d=>lX c λc _=>JE j [c] d) (lN i (iv 0) λc=>Br c (lC 2 b λc=>St 1 h c i λc=>JE j [f] c) (ae .num .leq f (ui 1) λc=>lO c (λc=>lM 1 b h λd=>cZ (.int .u32) (iv 0) false h d f λd=>lG d (iv 0) λd=>(lV h d c)) λc=>Br (Value.bool c) (lM 0 b h λc=>CR g a 142 #[c,f] h λ_ a=>JE j [f] a) (lM 1 b h λa=>aW (.int .u32) h a f (iv 1) λa=>JE j [f] a))))
theorem wS(h:L327 g a0 a1 a2 a3 H R):sc g 327 #[a0,a1,a2,a3] H R:=sd (hN 3 (.h 1 [9] [] (.n (hN 4 (.n (.h 0 [] [1] .e .e) .e)) .e) .e)) Tryz.func327 h
def L328:Y4:=λa b c d e f g=>cy f (.cells (Value.cells b) 313 (0,0)) λb f=>Ld f (pt b) λh=>Ld f c λc=>Ld f d λd=>CR g a 258 #[h,c,d,(.func (.func 329) #[] #[(pt b),e])] f λa b=>rt g a b
theorem Hs(h:L328 g a0 a1 a2 a3 H R):sc g 328 #[a0,a1,a2,a3] H R:=sd .e Tryz.func328 h
def L329:Y3:=λa b c d e f=>cy e (.cells (Value.cells b) 226 (0,0)) λb e=>Ld e c λc=>lD 1 (pt b) e λg=>lD 2 (pt b) e λb=>Ld e d λd=>CR f a 330 #[c,g,b,d] e λa b=>rt f a b
theorem Hr(h:L329 g a0 a1 a2 H R):sc g 329 #[a0,a1,a2] H R:=sd .e Tryz.func329 h
def L330:Y4:=λa b c d e f g=>cy f (.cells (Value.cells b) 313 (0,0)) λb f=>lW f #[(ui 0)] 110 λf h=>lW h #[(ui 0)] 110 λh i=>St 1 i (pt f) (ui 0) λi=>St 1 i (pt h) (ui 1) λi=>∀j:Jt,(∀k:Hp,(∀_:Fr,
gG k λl m=>lQ 1 m #[(.map none)] 444 l λl m=>lW m #[.nilFunc] 445 λm n=>St 1 n (pt m) (.func (.func 380) #[] #[(pt f),(pt h),(pt b),(pt l),(pt m)]) λb=>Ld b (pt m) λl=>aL zQ a l #[c,d] b (λa b=>rt g a b) (dz g))->j [] k)->Br e (St 1 i (pt f) (ui 1) λa=>St 1 a (pt h) (ui 0) λa=>JE j [] a) (JE j [] i)
theorem Hq(h:L330 g a0 a1 a2 a3 H R):sc g 330 #[a0,a1,a2,a3] H R:=sd (.n .e (.n .e (.h 1 [] [1,2,4,9,10] .e .e))) Tryz.func330 h
def L331:Y2:=λa b c d e=>CR e a 357 #[b,c] d λa d=>lN a (iv 0) λf=>Br f (rt e (tP (iv 0) a) d) (lM 0 b d λa=>lI 1 a c d λa=>AZ d a λa=>rt e (tP a (iv 0)) d)
theorem Ho(h:L331 g a0 a1 H R):sc g 331 #[a0,a1] H R:=sd .e Tryz.func331 h
def L332:Y2:=λa b c d e=>lM 0 b d λf=>au 2 f c λf=>ay 2 d f λf=>lQ 2 d #[(iv 0),(iv 0)] 397 f λd f=>∃(g:Jt) (h:Mt),JE g [c] f/\∀c:zV,∀f:Hp,g [c] f->∀_:Fr,
∀i:Jt,(∀j:zV,∀k:Hp,(∀_:Fr,
Br j (lM 0 b k λl=>lS c (iv 1) λm=>ae .num .quo m (iv 2) λm=>au 2 l m λl=>ay 2 k l λl=>CR e a 333 #[b,c,l] k λ_ l=>lS c (iv 1) λm=>ae .num .quo m (iv 2) λm=>aC g h [m] l [c] f) (ay 2 k (pt d) λg=>CR e a 333 #[b,c,g] k λ_ g=>rt e (.tuple #[]) g))->i [j] k)->DR f λe=>lG c (iv 0) λg=>Br g (ay 2 e (pt d) λd=>lM 0 b e λb=>lS c (iv 1) λc=>ae .num .quo c (iv 2) λc=>au 2 b c λb=>ay 2 e b λb=>∀c:Hp,
CN (a.add c) 381 #[d,b] f λa b=>aM b e/\
aI vT a vF λa=>JE i [a] b) (JE i [vF] f)
theorem Hl(h:L332 g a0 a1 H R):sc g 332 #[a0,a1] H R:=sd (.n .e (.n (.n (.h 0 [1] [0,4] (.n (.h 1 [26] [0,1,4] (.h 1 [] [] (hr 0 [] 0 2 (.h 2 [2] [] (hr 0 [] 3 12 .e) (hr 0 [] 3 11 (.h 3 [14] [] .e .e)))) .e) .e) .e) .e) .e) .e)) Tryz.func332 h
def L333:Y3:=λ_ a b c d e=>cy d (.cells (Value.cells c) 397 (0,0)) λc d=>DR d λf=>lM 0 a f λg=>ay 2 f (pt c) λf=>au 2 g b λg=>St 2 d g f λd=>DR d λf=>lM 1 a f λa=>lD 0 (pt c) f λc=>aW (.int .i64) d a c b λa=>rt e (.tuple #[]) a
theorem Hi(h:L333 g a0 a1 a2 H R):sc g 333 #[a0,a1,a2] H R:=sd (.n .e (.n (.h 0 [0,1,2,3,4,5,6,7] [] .e .e) (.h 0 [0,1,2,3,4,5,6,7] [] .e .e))) Tryz.func333 h
def L334:Y2:=λa b c d e=>lM 0 b d λf=>au 2 f c λf=>ay 2 d f λf=>lQ 2 d #[(iv 0),(iv 0)] 397 f λd f=>∃(g:Jt) (h:Mt),JE g [c] f/\∀c:zV,∀f:Hp,g [c] f->∀_:Fr,
ae .num .mul (iv 2) c λi=>lA i (iv 1) λi=>∀j:Jt,(∀k:zV,∀l:Hp,(∀_:Fr,
∀m:Jt,(∀n:zV,∀o:Hp,(∀_:Fr,
Br n (ay 2 o (pt d) λp=>CR e a 333 #[b,c,p] o λ_ p=>rt e (.tuple #[]) p) (lM 0 b o λp=>au 2 p k λp=>ay 2 o p λp=>CR e a 333 #[b,c,p] o λ_ e=>aC g h [k] e [c] f))->m [n] o)->DR l λc=>lM 0 b c λe=>aO e λe=>ae .num .geq k e λe=>Br e (JE m [vT] l) (lM 0 b c λe=>au 2 e k λe=>ay 2 c e λe=>ay 2 c (pt d) λd=>∀g:Hp,
CN (a.add g) 381 #[e,d] l λd e=>aM e c/\
Un .not d λc=>aI vF vT c λc=>JE m [c] e))->j [k] l)->∀c:Jt,(∀d:zV,∀e:Hp,(∀_:Fr,
Br d (lA i (iv 1) λg=>JE j [g] e) (JE j [i] e))->c [d] e)->DR f λd=>lA i (iv 1) λe=>lM 0 b d λg=>aO g λg=>lL e g λe=>Br e (lM 0 b d λe=>lA i (iv 1) λg=>au 2 e g λe=>ay 2 d e λe=>lM 0 b d λb=>au 2 b i λb=>ay 2 d b λb=>∀g:Hp,
CN (a.add g) 381 #[e,b] f λa b=>aM b d/\
aI vT a vF λa=>JE c [a] b) (JE c [vF] f)
theorem Hh(h:L334 g a0 a1 H R):sc g 334 #[a0,a1] H R:=sd (.n .e (.n (.n (.h 0 [1] [0,4] (.n (.n .e (.h 1 [5] [0,1,4] (.h 1 [41] [0,1,4,5] (.h 1 [] [] (hr 0 [] 0 8 (.h 2 [8] [] (hr 0 [] 9 17 .e) (hr 0 [] 9 16 (.h 3 [25] [] .e .e)))) .e) .e) (.n (.h 1 [62] [0,1,4,5] (.h 1 [] [] (hr 0 [] 0 7 (.h 2 [7] [] (hr 0 [] 8 10 (.h 3 [18] [] .e .e)) (hr 0 [] 8 11 .e))) .e) .e) .e))) .e) .e) .e) .e)) Tryz.func334 h
def L335:Y1:=λa b c d=>DR c λe=>Ld e b λf=>Ld e b λb=>lM 1 b e λb=>∀e:Hp,
CN (a.add e) 336 #[f,b,(iv 1)] c λa b=>rt d a b
theorem wR(h:L335 g a0 H R):sc g 335 #[a0] H R:=sd (.n .e (.n (.h 1 [] [] (hr 0 [1] 0 7 .e) .e) .e)) Tryz.func335 h
def L336:Y3:=λa b c d e f=>lM 0 b e λg=>CR f a 151 #[g,c] e λa c=>∀e:Jt,(∀g:Hp,(∀_:Fr,
rt f a g)->e [] g)->lE a (iv 0) λa=>Br a (lM 5 b c λa=>lA a (iv 1) λa=>lC 5 b λf=>St 1 c f a λa=>lM 1 b a λf=>lA f d λd=>lC 1 b λb=>St 1 a b d λa=>JE e [] a) (JE e [] c)
theorem wQ(h:L336 g a0 a1 a2 H R):sc g 336 #[a0,a1,a2] H R:=sd (.n .e (.n .e (.h 1 [] [7] .e .e))) Tryz.func336 h
def L337:Y1:=λa b c d=>DR c λe=>Ld e b λf=>Ld e b λb=>lM 1 b e λb=>lS b (iv 1) λb=>∀e:Hp,
CN (a.add e) 336 #[f,b,(iv (-1))] c λa b=>rt d a b
theorem wP(h:L337 g a0 H R):sc g 337 #[a0] H R:=sd (.n .e (.n (.h 1 [] [] (hr 0 [1] 0 8 .e) .e) .e)) Tryz.func337 h
def L338:Y1:=λa b c d=>ae .ptr .eql b (.pointer none) λe=>lO e (λe=>lM 7 b c λf=>aO f λf=>lE f (iv 0) λf=>(lV c f e)) λe=>Br (Value.bool e) (rt d (tP (iv 0) (iv 10)) c) (lM 7 b c λe=>aO e λe=>lS e (iv 1) λe=>lM 7 b c λf=>lI 1 f e c λf=>CR d a 211 #[b,f] c λ_ a=>lM 7 b a λc=>gw 1 c none (some e) λc=>lC 7 b λb=>St 1 a b c λa=>rt d (tP f (iv 0)) a)
theorem Hg(h:L338 g a0 H R):sc g 338 #[a0] H R:=sd (.n .e (.n (.n (.h 0 [] [1] .e .e) .e) .e)) Tryz.func338 h
def L339:Y1:=λ_ a b c=>lL a (iv 0) λd=>Br d (rt c (iv 1) b) (lG a (iv 16) λa=>Br a (rt c (iv 6) b) (rt c (iv 0) b))
theorem Hf(h:L339 g a0 H R):sc g 339 #[a0] H R:=sd .e Tryz.func339 h
def L340:Y2:=λa b c d e=>lW d #[(iv 0),(.slice none 0 0)] 116 λd f=>CR e a 382 #[b] f λf g=>cU 33 1 8 (wi 0) g f f λf g=>Build zQ 116 [(0,b),(1,f)] λf=>lQ 2 g #[(iv 0),(.slice none 0 0)] 116 f λf g=>lD 1 (pt f) g λh=>aO h λh=>∃(i:Jt) (j:Mt),JE i [(iv 0)] g/\∀g:zV,∀k:Hp,i [g] k->∀_:Fr,
lL g h λh=>Br h (DR k λh=>lD 1 (pt f) h λl=>aL zQ a c #[g] k (λc m=>aM m h/\
CN a 383 #[b] m λa b=>aM b h/\
ae .num .and c a λa=>au 1 l g λc=>St 1 b c a λa=>lA g (iv 1) λb=>aC i j [b] a [g] k) fI) (ay 2 k (pt f) λa=>St 2 k (pt d) a λa=>ay 2 a (pt d) λb=>rt e b a)
theorem He(h:L340 g a0 a1 H R):sc g 340 #[a0,a1] H R:=sd (.n .e (.n .e (.n (.n .e (.n (.h 0 [15] [0,1,4,5,14] (.n .e (.n .e (.n (.n (.n .e (.h 0 [0,1,2,3,4,6,5,7,8,9,10] [] .e .e)) .e) .e))) .e) .e)) .e))) Tryz.func340 h
def L341:Y2:=λ_ _ a b c=>Ld b a λa=>Br a (rt c (wi 18446744073709551615) b) (rt c (wi 0) b)
theorem G9(h:L341 g a0 a1 H R):sc g 341 #[a0,a1] H R:=sd .e Tryz.func341 h
def L342:Y5:=λa b c d e f g h=>lW g #[(iv 0),(.slice none 0 0)] 116 λg i=>Ld i c λj=>cZ (.int .u32) (.agg #[(iv 0),(.slice none 0 0)]) true i j b λj=>lX j λj k=>lQ 2 i #[(iv 0),(.slice none 0 0)] 116 j λi j=>Br k (ay 2 j (pt i) λi=>St 2 j (pt g) i λi=>ay 2 i (pt g) λk=>rt h k i) (Ld j d λd=>CR h a 202 #[d,b] j λd i=>lQ 3 i #[(iv 0),(ui 0),(ui 0)] 226 d λd i=>DR i λj=>Ld j e λe=>ay 3 j (pt d) λk=>Ld j f λl=>lD 1 (pt d) j λm=>Ld j f λf=>lD 2 (pt d) j λd=>∀n:Hp,
aL zQ (a.add n) l #[m] i (λi l=>aM l j/\
∀m:Hp,
aL zQ (a.add m) f #[d] l (λd f=>aM f j/\
∀l:Hp,
aL zQ (a.add l) e #[k,i,d] f (λa d=>aM d j/\
lW d #[(iv 0),(.slice none 0 0)] 116 λd e=>∀_:Hp,
St 2 e (pt d) a λa=>Ld a c λc=>ay 2 a (pt d) λe=>aW (.int .u32) a c b e λa=>ay 2 a (pt d) λb=>St 2 a (pt g) b λa=>ay 2 a (pt g) λb=>rt h b a) fI) fI) fI)
theorem wO(h:L342 g a0 a1 a2 a3 a4 H R):sc g 342 #[a0,a1,a2,a3,a4] H R:=sd (hN 3 (.n (.h 1 [] [] (hr 0 [] 0 5 (hr 0 [] 6 3 (.h 1 [11] [] (.h 0 [5] [] (hr 0 [] 9 4 .e) .e) .e))) .e) .e)) Tryz.func342 h
def L343:Y2:=λa b c d e=>Ld d c λc=>CR e a 344 #[c,b] d λa b=>rt e a b
theorem G8(h:L343 g a0 a1 H R):sc g 343 #[a0,a1] H R:=sd .e Tryz.func343 h
def L344:Y2:=λ_ a b c d=>ae .num .geq a (iv 6) λe=>Br e (br .u64 b λb=>lS a (iv 6) λe=>ae .num .shr b e λb=>ae .num .and b (wi 1) λb=>Un .neg b λb=>rt d b c) (∃(b:Jt) (e:Mt),JE b [(wi 0),(iv 0)] c/\∀c f:zV,∀g:Hp,b [c,f] g->∀_:Fr,
lL f (iv 64) λh=>Br h (ae .num .shr f a λa=>ae .num .and a (iv 1) λa=>br .u64 a λa=>ae .num .shl a f λa=>ae .num .or c a λa=>lA f (iv 1) λh=>aC b e [a,h] g [c,f] g) (rt d c g))
theorem G7(h:L344 g a0 a1 H R):sc g 344 #[a0,a1] H R:=sd (hN 3 (.n (.n .e (.n (.h 0 [5,16] [0] .e .e) .e)) .e)) Tryz.func344 h
def L345:Y1:=λa b c d=>aO b λe=>∃(f:Jt) (g:Mt),JE f [(iv 0)] c/\∀c:zV,∀h:Hp,f [c] h->∀_:Fr,
lL c e λe=>Br e (au 2 b c λe=>ay 2 h e λe=>lQ 2 h #[(iv 0),(.slice none 0 0)] 116 e λe i=>∀j:Jt,(∀k:zV,∀l:Hp,(∀_:Fr,
Br k (rt d vF l) (lA c (iv 1) λm=>aC f g [m] l [c] h))->j [k] l)->DR i λc=>ay 2 c (pt e) λf=>∀g:Hp,
CN (a.add g) 384 #[f] i λa f=>aM f c/\
Un .not a λa=>Br a (JE j [vT] f) (lD 0 (pt e) c λa=>au 2 b (iv 0) λb=>ai 0 b λb=>Ld c b λb=>lN a b λa=>aI vF vT a λa=>JE j [a] f)) (rt d vT h)
theorem G6(h:L345 g a0 H R):sc g 345 #[a0] H R:=sd (.n .e (.n (.n .e (.n (.h 0 [7] [0,5,6] (.n .e (.n .e (.n (.n (.n .e (.h 1 [22] [0,5,6,7] (.h 1 [] [] (hr 0 [] 0 3 (.h 2 [3] [] (hr 0 [] 4 7 (.h 3 [11] [] .e .e)) (hr 0 [] 4 8 .e))) .e) .e)) .e) .e))) .e) .e)) .e)) Tryz.func345 h
def L346:Y4:=λ_ a b c d e f=>ai 1 b λg=>Ld e g λg=>lI 1 g a e λg=>ai 1 c λc=>Ld e c λc=>lI 1 c a e λc=>ae .num .and g c λc=>ai 1 b λb=>Ld e b λb=>lI 1 b a e λb=>Un .xor b λb=>ai 1 d λd=>Ld e d λd=>lI 1 d a e λa=>ae .num .and b a λa=>ae .num .or c a λa=>rt f a e
theorem G5(h:L346 g a0 a1 a2 a3 H R):sc g 346 #[a0,a1,a2,a3] H R:=sd .e Tryz.func346 h
def L347:Y1:=λa b c d=>CR d a 385 #[b] c λc e=>Un .not c λc=>Br c (rt d (tP (.slice none 0 0) (iv 5)) e) (aO b λc=>lE c (iv 0) λc=>Br c (rt d (tP (.slice none 0 0) (iv 0)) e) (au 2 b (iv 0) λc=>ai 0 c λc=>Ld e c λc=>cU 33 1 8 (wi 0) e c c λc e=>aO b λf=>∃(g:Jt) (h:Mt),JE g [(iv 0)] e/\∀e:zV,∀i:Hp,g [e] i->∀_:Fr,
lL e f λf=>Br f (au 2 b e λb=>ay 2 i b λb=>lQ 2 i #[(iv 0),(.slice none 0 0)] 116 b λb f=>ay 2 f (pt b) λb=>CR d a 348 #[b] f λa b=>lX a λa _=>aO c λf=>∃(j:Jt) (k:Mt),JE j [(iv 0)] b/\∀b:zV,∀l:Hp,j [b] l->∀_:Fr,
lL b f λf=>Br f (∀f:Jt,(∀m:Hp,(∀_:Fr,
lA b (iv 1) λn=>aC j k [n] m [b] l)->f [] m)->ae .num .shr a b λj=>ae .num .and j (wi 1) λj=>lE j (wi 1) λj=>Br j (DR l λj=>lI 1 c b j λj=>ae .num .shl (wi 1) b λk=>ae .num .andNot a k λa=>ae .num .or j a λa=>au 1 c b λb=>St 1 l b a λa=>JE f [] a) (JE f [] l)) (lA e (iv 1) λa=>aC g h [a] l [e] i)) (rt d (tP c (iv 0)) i)))
theorem G4(h:L347 g a0 H R):sc g 347 #[a0] H R:=sd (hN 4 (.n (.n .e (.n (.h 0 [23] [4,21,22] (.n .e (.n .e (.n (.n (hN 3 (.n (.h 0 [34] [4,7,21,22,23,33] (.n .e (.n .e (.h 1 [] [4,7,21,22,23,33,34] (.n (.n .e (.n .e (.n (.h 0 [0,1,2,3,4,5,6,7,8,9,10] [] .e .e) .e))) .e) .e))) .e) .e)) .e) .e))) .e) .e)) .e)) Tryz.func347 h
variable {g:Gh} {a0 a1 a2 a3 a4 a5 a6 a7 a8 a9 tu tt a12 a13 a14 a15:zV} {H:Hp} {R:Rt}
def L348:Y1:=λa b c d=>cy c (.cells (Value.cells b) 116 (0,0)) λb c=>ay 2 c (pt b) λe=>av zQ 66 1 [(0,e)] c λc e=>CR d a 345 #[c] e λc e=>Un .not c λc=>Br c (rt d (tP (wi 0) (iv 5)) e) (lD 0 (pt b) e λc=>∃(f:Jt) (g:Mt),JE f [(wi 0),(iv 0)] e/\∀e h:zV,∀i:Hp,f [e,h] i->∀_:Fr,
lL h c λc=>Br c (∀c:Jt,(∀j:zV,∀k:Hp,(∀_:Fr,
lA h (iv 1) λl=>aC f g [j,l] k [e,h] i)->c [j] k)->DR i λf=>ay 2 f (pt b) λg=>ay 2 f (pt b) λb=>CN a 387 #[g,h,vF] i λg j=>aM j f/\
Bm 1 g λg=>CN a 387 #[b,h,vT] j λb j=>aM j f/\
Bm 1 b λb=>CN a 386 #[g,b] j λa b=>aM b f/\
Un .not a λa=>Br a (ae .num .shl (wi 1) h λa=>ae .num .or e a λa=>JE c [a] b) (JE c [e] b)) (rt d (tP e (iv 0)) i))
theorem G0(h:L348 g a0 H R):sc g 348 #[a0] H R:=sd (hN 3 (.n (.n .e (.n (.h 0 [4,12] [1,11] (.n .e (.n .e (.h 1 [4] [1,11,12] (.n (.n .e (.n (.h 0 [0,1,4,5,2,3,6,7,8,9] [] .e .e) .e)) .e) .e))) .e) .e)) .e)) Tryz.func348 h
def L349:Y3:=λa b c d e f=>CR f a 385 #[b] e λe g=>Un .not e λe=>Br e (rt f (tP (iv 0) (iv 5)) g) (∀e:Jt,(∀h:zV,∀i:Hp,(∀_:Fr,
lL d (iv 0) λj=>lO j (λj=>ae .num .geq d h λk=>(lV i k j)) λj=>lO (Value.bool j) (λj=>ae .num .shr c h λk=>lN k (wi 0) λk=>(lV i k j)) λj=>Br (Value.bool j) (rt f (tP (iv 0) (iv 2)) i) (ae .num .shr c d λj=>ae .num .and j (wi 1) λj=>lE j (wi 1) λj=>Br j (rt f (tP (iv 0) (iv 4)) i) (CR f a 388 #[b] i λj k=>∃(l:Jt) (m:Mt),JE l [j,(iv 0)] k/\∀j k:zV,∀n:Hp,l [j,k] n->∀_:Fr,
lL k h λo=>Br o (∀o:Jt,(∀p:zV,∀q:Hp,(∀_:Fr,
lA k (iv 1) λr=>aC l m [p,r] q [j,k] n)->o [p] q)->ae .num .shr c k λc=>ae .num .and c (wi 1) λc=>lE c (wi 1) λc=>Br c (CR f a 389 #[j,k] n λc k=>lX c λc _=>JE o [c] k) (JE o [j] n)) (CR f a 389 #[j,d] n λa c=>lX a λ_ a=>rt f (tP a (iv 0)) c))))->e [h] i)->aO b λa=>lG a (iv 0) λa=>Br a (au 2 b (iv 0) λa=>ai 0 a λa=>Ld g a λa=>JE e [a] g) (JE e [(iv 16)] g))
theorem GZ(h:L349 g a0 a1 a2 H R):sc g 349 #[a0,a1,a2] H R:=sd (hN 3 (.h 1 [8] [0,1,2] .e (.n (.n (.h 0 [] [1] .e .e) .e) (.n .e (.n .e (.n (.n .e (.n (.h 0 [9,44] [1,2,43] (.n .e (.n .e (.h 1 [9] [1,2,43,44] .e .e))) .e) .e)) .e)))))) Tryz.func349 h
def L350:Y2:=λa b c d e=>CR e a 283 #[b] d λd f=>CR e a 283 #[c] f λa f=>lE d (iv 4) λg=>lO g (λg=>lE a (iv 4) λh=>(lV f h g)) λg=>lO (Value.bool g) (λg=>aO b λb=>aO c λc=>lN b c λb=>(lV f b g)) λg=>Br (Value.bool g) (rt e (iv 4) f) (Wp d a λa=>rt e a f)
theorem GY(h:L350 g a0 a1 H R):sc g 350 #[a0,a1] H R:=sd (.n .e (.n .e (.n (.n (.h 0 [] [1] .e .e) .e) .e))) Tryz.func350 h
def L351:Y2:=λ_ a b c d=>aO a λe=>∃(f:Jt) (g:Mt),JE f [(iv 0)] c/\∀c:zV,∀h:Hp,f [c] h->∀_:Fr,
lL c e λe=>Br e (lI 1 a c h λa=>lE b a λa=>Br a (rt d c h) (lA c (iv 1) λa=>aC f g [a] h [c] h)) (d (.returned (iv (-1))) h)
theorem GX(h:L351 g a0 a1 H R):sc g 351 #[a0,a1] H R:=sd (.n .e (.n (.n .e (.n (.h 0 [8] [0,1,7] .e .e) .e)) .e)) Tryz.func351 h
def L352:Y1:=λa b c d=>CR d a 271 #[b] c λa c=>Build zQ 417 [(0,b),(1,a)] λa=>cy c (.cells (Value.cells a) 417 (0,0)) λa b=>rt d (pt a) b
theorem GW(h:L352 g a0 H R):sc g 352 #[a0] H R:=sd .e Tryz.func352 h
def L353:Y2:=λa b c d e=>Ld d b λf=>CR e a 354 #[f] d λ_ a=>Ld a b λb=>lM 2 b a λb=>St 1 a c b λa=>rt e (.tuple #[]) a
theorem tA(h:L353 g a0 a1 H R):kL zQ g 353 #[a0,a1] H R:=
 z5 (hn:=.e) Tryz.func353 h zK
def L354:Y1:=λa b c d=>lM 3 b c λe=>Un .not e λe=>Br e (CR d a 390 #[b] c λ_ a=>rt d (.tuple #[]) a) (rt d (.tuple #[]) c)
theorem wM(h:L354 g a0 H R):sc g 354 #[a0] H R:=sd .e Tryz.func354 h
def L355:Y2:=λa b c d e=>lM 0 b d λf=>CR e a 151 #[f,c] d λa c=>∀d:Jt,(∀f:Hp,(∀_:Fr,
rt e a f)->d [] f)->lE a (iv 0) λa=>Br a (lM 2 b c λa=>lA a (iv 1) λa=>lC 2 b λb=>St 1 c b a λa=>JE d [] a) (JE d [] c)
theorem wL(h:L355 g a0 a1 H R):sc g 355 #[a0,a1] H R:=sd (.n .e (.n .e (.h 1 [] [5] .e .e))) Tryz.func355 h
def L356:Y2:=λ_ a b c d=>br .i64 b λe=>lM 1 a c λf=>aO f λf=>lL e f λe=>lU e (λe=>lM 1 a c λa=>au 5 a b λa=>ai 3 a λa=>Ld c a λa=>(lV c a e)) λe=>rt d (Value.bool e) c
theorem GV(h:L356 g a0 a1 H R):sc g 356 #[a0,a1] H R:=sd (.n .e (.n (.h 0 [] [1] .e .e) .e)) Tryz.func356 h
def L357:Y2:=λ_ a b c d=>ae .ptr .eql a (.pointer none) λe=>Br e (rt d (iv 10) c) (lL b (iv 0) λe=>lO e (λe=>lM 0 a c λa=>aO a λa=>ae .num .geq b a λa=>(lV c a e)) λe=>Br (Value.bool e) (rt d (iv 2) c) (rt d (iv 0) c))
theorem GU(h:L357 g a0 a1 H R):sc g 357 #[a0,a1] H R:=sd (.n .e (.n (.n (.n .e (.n .e (.n (.h 0 [] [1] .e .e) .e))) .e) .e)) Tryz.func357 h
def L358:Y2:=λa b c d e=>∀f:Jt,(∀g:zV,∀h:Hp,(∀_:Fr,
Br g (rt e (iv 3) h) (rt e (iv 0) h))->f [g] h)->ae .num .leq c (ui 1) λg=>Split g false (CR e a 356 #[b,c] d λa b=>Un .not a λa=>aI vF vT a λa=>JE f [a] b) (aI vT vT undef λa=>JE f [a] d)
theorem GS(h:L358 g a0 a1 H R):sc g 358 #[a0,a1] H R:=sd (.n .e (.n (.h 1 [12] [] .e .e) .e)) Tryz.func358 h
def L359:Y4:=λa b c d e f g=>Ld f c λh=>lM 2 h f λh=>cZ (.int .u32) (.agg #[(iv 0),(ui 0),(ui 0)]) true f h b λh=>lX h λh i=>lQ 3 f #[(iv 0),(ui 0),(ui 0)] 226 h λ_ f=>lO i (λh=>ae .num .leq b (ui 1) λi=>(lV f i h)) λh=>Br (Value.bool h) (rt g (.tuple #[]) f) (Ld f d λd=>CR g a 249 #[d,b] f λd f=>lX d λd _=>lQ 3 f #[(iv 0),(ui 0),(ui 0)] 226 d λd f=>DR f λh=>Ld h c λc=>lM 2 c h λc=>ay 3 h (pt d) λh=>∀_:Hp,
aW (.int .u32) f c b h λb=>Ld b e λc=>lD 1 (pt d) b λf=>aL zQ a c #[f] b (λ_ b=>Ld b e λc=>lD 2 (pt d) b λd=>aL zQ a c #[d] b (λ_ a=>rt g (.tuple #[]) a) (dz g)) (dz g))
theorem wK(h:L359 g a0 a1 a2 a3 H R):sc g 359 #[a0,a1,a2,a3] H R:=sd (.n (.n .e (.n (.h 0 [] [1] .e .e) .e)) (.n .e (.n (.h 1 [] [] (hr 0 [1] 0 7 .e) .e) .e))) Tryz.func359 h
def L360:Y1:=λ_ a b c=>lM 0 a b λd=>lA d (iv 1) λd=>cU 3 1 8 (iv 0) b d d λb d=>lM 3 a d λe=>aO e λf=>∃(g:Jt) (h:Mt),JE g [(iv 0)] d/\∀d:zV,∀i:Hp,g [d] i->∀_:Fr,
lL d f λf=>Br f (∀f:Jt,(∀j:Hp,(∀_:Fr,
lA d (iv 1) λk=>aC g h [k] j [d] i)->f [] j)->lI 1 e d i λe=>lM 4 a i λg=>ae .num .shr g d λd=>ae .num .and d (wi 1) λd=>lE d (wi 0) λd=>Br d (au 1 b e λd=>St 1 i d (iv 1) λd=>JE f [] d) (JE f [] i)) (lM 0 a i λa=>lS a (iv 1) λa=>∃(d:Jt) (e:Mt),JE d [a] i/\∀a:zV,∀f:Hp,d [a] f->∀_:Fr,
ae .num .geq a (iv 0) λg=>Br g (DR f λg=>lI 1 b a g λh=>lA a (iv 1) λi=>lI 1 b i g λg=>lA h g λg=>au 1 b a λh=>∀_:Hp,
St 1 f h g λg=>lS a (iv 1) λh=>aC d e [h] g [a] f) (rt c b f))
theorem GR(h:L360 g a0 H R):sc g 360 #[a0] H R:=sd (.n .e (.n .e (.n (.n .e (.n (.h 0 [18] [0,3,16,17] (.n .e (.n .e (.h 1 [] [0,3,16,17,18] .e .e))) .e) .e)) (.n (.n .e (.n (.h 0 [6] [3] (.n .e (.n (.n (.h 1 [] [] (hr 0 [1] 0 12 .e) .e) .e) .e)) .e) .e)) .e)))) Tryz.func360 h
def L361:Y2:=λ_ a b c d=>ae .num .leq a (ui 1) λe=>Br e (Ld c b λe=>lM 0 e c λe=>rt d e c) (Ld c b λe=>lM 3 e c λe=>Ld c b λb=>lM 2 b c λb=>cZ (.int .u32) (.agg #[(iv 0),(ui 0),(ui 0)]) false c b a λa=>Bm 0 a λa=>lI 1 e a c λa=>rt d a c)
theorem GQ(h:L361 g a0 a1 H R):sc g 361 #[a0,a1] H R:=sd .e Tryz.func361 h
def L362:Y5:=λa b c d e f g h=>lW g #[(wi 0),vF] 356 λg i=>DR i λj=>Ld j d λd=>Ld j e λk=>lI 1 k c j λc=>Ld j e λe=>Ld j f λf=>∀k:Hp,
aL zQ (a.add k) d #[b] i (λd i=>aM i j/\
DR2 i j λj=>∀k:Hp,
aL zQ (a.add k) f #[b] i (λb f=>aM f j/\
DR2 f j λi=>lI 1 e b i λb=>lS c b λb=>∀c:Hp,
CN (a.add c) 363 #[d,b] f λa b=>∀_:Hp,
St 2 b (pt g) a λa=>ay 2 a (pt g) λb=>rt h b a) fI) fI
theorem GP(h:L362 g a0 a1 a2 a3 a4 H R):sc g 362 #[a0,a1,a2,a3,a4] H R:=sd (.n .e (.n (.h 1 [] [] (hr 0 [1] 0 2 (hr 0 [1] 3 7 (.h 0 [2] [1] (.h 4 [] [] (.h 0 [10] [1] (.h 4 [] [] (hr 0 [1] 11 5 .e) .e) .e) .e) .e))) .e) .e)) Tryz.func362 h
def L363:Y2:=λ_ a b c d=>cy c (.cells (Value.cells a) 356 (0,0)) λa c=>lW c #[(wi 0),vF] 356 λc e=>lE b (iv 0) λf=>lO f (λf=>lD 0 (pt a) e λg=>lE g (wi 0) λg=>(lV e g f)) λf=>Br (Value.bool f) (ay 2 e (pt a) λf=>St 2 e (pt c) f λf=>ay 2 f (pt c) λg=>rt d g f) (lD 0 (pt a) e λf=>ae .num .shl f b λf=>∀g:Jt,(∀h:Hp,(∀_:Fr,
ay 2 h (pt c) λi=>rt d i h)->g [] h)->DR e λd=>lE f (wi 0) λh=>Br h (Build zQ 356 [(0,f),(1,vT)] λh=>∀_:Hp,
St 2 e (pt c) h λh=>JE g [] h) (ae .num .shr f b λb=>lD 0 (pt a) d λa=>lN b a λa=>aI vF vT a λa=>Build zQ 356 [(0,f),(1,a)] λa=>∀_:Hp,
St 2 e (pt c) a λa=>JE g [] a))
theorem GO(h:L363 g a0 a1 H R):sc g 363 #[a0,a1] H R:=sd (.n .e (.n (.n (.h 0 [] [1] .e .e) .e) (.n .e (.h 1 [] [4] (.h 1 [] [] (hr 0 [1] 0 3 (.h 2 [3] [] (hr 0 [1] 4 6 (.h 3 [10] [1] (hr 0 [1] 11 2 .e) .e)) (hr 0 [1] 4 9 .e))) .e) .e)))) Tryz.func363 h
def L364:Y4:=λa b c d e f g=>lW f #[(wi 0),vF] 356 λf h=>Ld h c λi=>cZ (.int .u32) (.agg #[(wi 0),vF]) true h i b λi=>lX i λi j=>lQ 2 h #[(wi 0),vF] 356 i λh i=>Br j (ay 2 i (pt h) λh=>St 2 i (pt f) h λh=>ay 2 h (pt f) λj=>rt g j h) (Ld i d λh=>lM 2 h i λh=>cZ (.int .u32) (.agg #[(iv 0),(ui 0),(ui 0)]) false i h b λh=>lQ 3 i #[(iv 0),(ui 0),(ui 0)] 226 h λh i=>Ld i d λj=>lM 3 j i λj=>lD 0 (pt h) i λk=>lI 1 j k i λj=>lA j (iv 1) λj=>lW i #[(wi 0),vF] 356 λi k=>∀l:Jt,(∀m:Hp,(∀_:Fr,
∀n:Jt,(∀o:Hp,(∀_:Fr,
Ld o c λc=>ay 2 o (pt i) λp=>aW (.int .u32) o c b p λb=>ay 2 b (pt i) λc=>St 2 b (pt f) c λb=>ay 2 b (pt f) λc=>rt g c b)->n [] o)->Ld m d λb=>lM 4 b m λb=>lD 0 (pt h) m λc=>ae .num .shr b c λb=>ae .num .and b (wi 1) λb=>lE b (wi 0) λb=>lO b (λb=>Ld m d λc=>lM 5 c m λc=>lD 0 (pt h) m λf=>ae .num .shr c f λc=>ae .num .and c (wi 1) λc=>lE c (wi 1) λc=>(lV m c b)) λb=>Br (Value.bool b) (DR m λb=>ay 2 b (pt i) λc=>Ld b e λf=>lD 2 (pt h) b λg=>∀o:Hp,
aL zQ (a.add o) f #[g,j] m (λf g=>aM g b/\
∀b:Hp,
CN (a.add b) 365 #[c,f] g λb c=>∀_:Hp,
St 2 c (pt i) b λb=>JE n [] b) fI) (JE n [] m))->l [] m)->Ld k d λb=>lM 4 b k λb=>lD 0 (pt h) k λc=>ae .num .shr b c λb=>ae .num .and b (wi 1) λb=>lE b (wi 0) λb=>lO b (λb=>Ld k d λc=>lM 5 c k λc=>lD 0 (pt h) k λd=>ae .num .shr c d λc=>ae .num .and c (wi 1) λc=>lE c (wi 0) λc=>(lV k c b)) λb=>Br (Value.bool b) (DR k λb=>ay 2 b (pt i) λc=>Ld b e λd=>lD 1 (pt h) b λe=>∀f:Hp,
aL zQ (a.add f) d #[e,j] k (λd e=>aM e b/\
∀b:Hp,
CN (a.add b) 365 #[c,d] e λa b=>∀_:Hp,
St 2 b (pt i) a λa=>JE l [] a) fI) (JE l [] k))
theorem wJ(h:L364 g a0 a1 a2 a3 H R):sc g 364 #[a0,a1,a2,a3] H R:=sd (hN 5 (.h 1 [] [0,1,2,3,5,8,9,10] (.n .e (.n (.h 1 [] [] (hr 0 [1] 0 8 .e) .e) .e)) (.h 1 [] [0,1,5,10] (.n .e (.n (.h 1 [] [] (hr 0 [1] 0 8 .e) .e) .e)) .e))) Tryz.func364 h
def L365:Y2:=λ_ a b c d=>cy c (.cells (Value.cells a) 356 (0,0)) λa c=>cy c (.cells (Value.cells b) 356 (0,0)) λb c=>lW c #[(wi 0),vF] 356 λc e=>lD 0 (pt a) e λf=>lD 0 (pt b) e λg=>lA f g λf=>lD 1 (pt a) e λg=>lO g (λg=>lD 1 (pt b) e λb=>(lV e b g)) λg=>lO (Value.bool g) (λb=>lD 0 (pt a) e λa=>lL f a λa=>(lV e a b)) λb=>Build zQ 356 [(0,f),(1,(Value.bool b))] λa=>St 2 e (pt c) a λa=>ay 2 a (pt c) λb=>rt d b a
theorem GN(h:L365 g a0 a1 H R):sc g 365 #[a0,a1] H R:=sd (.n .e (.n .e (.n (.h 0 [] [1] .e .e) .e))) Tryz.func365 h
def L366:Y2:=λa b c d e=>CR e a 357 #[b,c] d λd f=>lN d (iv 0) λg=>Br g (rt e (tP (.slice none 0 0) d) f) (lM 0 b f λb=>lI 1 b c f λb=>CR e a 392 #[b] f λb c=>CR e a 391 #[b] c λa b=>rt e (tP a (iv 0)) b)
theorem GM(h:L366 g a0 a1 H R):sc g 366 #[a0,a1] H R:=sd .e Tryz.func366 h
def L367:Y3:=λa b c d e f=>lC 0 b λb=>CR f a 287 #[b,c] e λa b=>lQ 3 b #[(iv 0),(ui 0),(ui 0)] 226 a λa b=>lD 0 (pt a) b λe=>lE e d λd=>Br d (lD 1 (pt a) b λd=>lD 2 (pt a) b λa=>rt f (tP d a) b) (rt f (tP c c) b)
theorem GL(h:L367 g a0 a1 a2 H R):sc g 367 #[a0,a1,a2] H R:=sd .e Tryz.func367 h
def L368:Y2:=λa b c d e=>cy d (.cells (Value.cells c) 226 (0,0)) λc d=>lD 0 (pt c) d λf=>lL f (iv 0) λf=>lO f (λf=>lD 0 (pt c) d λg=>ae .num .geq g (iv 64) λg=>(lV d g f)) λf=>Br (Value.bool f) (rt e (iv 2) d) (∀f:Jt,(∀g:zV,∀h:Hp,(∀_:Fr,
Br g (rt e (iv 3) h) (rt e (iv 0) h))->f [g] h)->lD 1 (pt c) d λg=>CR e a 356 #[b,g] d λd g=>Un .not d λd=>Split d false (lD 2 (pt c) g λc=>CR e a 356 #[b,c] g λa b=>Un .not a λa=>aI vF vT a λa=>JE f [a] b) (aI vT vT undef λa=>JE f [a] g))
theorem GK(h:L368 g a0 a1 H R):sc g 368 #[a0,a1] H R:=sd (.n .e (.n (.n (.n (.h 0 [] [1] .e .e) (.n .e (.h 1 [14] [] .e .e))) .e) .e)) Tryz.func368 h
def L379:Y2:=λa b c d e=>cy d (.cells (Value.cells c) 226 (0,0)) λc d=>lD 0 (pt c) d λf=>lL f (iv 0) λf=>Br f (lM 0 b d λf=>CR e a 185 #[f] d λf g=>rt e f g) (DR d λf=>lM 0 b f λb=>lD 0 (pt c) f λc=>CN a 150 #[b,c] d λa b=>aM b f/\
lX a λa _=>rt e a b)
theorem GJ(h:L379 g a0 a1 H R):sc g 379 #[a0,a1] H R:=sd (.n .e (.n .e (.n (.h 0 [0,1,2,3,4,5,6,7,8,9,10,11] [] .e .e) .e))) Tryz.func379 h
def L380(g:Gh)(a0 a1 a2 a3 a4 a5 a6:zV)(H:Hp)(R:Rt):Prop:=
Ld H a2 λa=>
lE a0 a λa=>
lO a (λa=>
Ld H a2 λb=>
lE a1 b λb=>
(lV H b a)) λa=>
Br (Value.bool a) (
Ld H a2 λa=>
rt R a H) (
Ld H a3 λa=>
lE a0 a λa=>
lO a (λa=>
lE a0 a1 λb=>
(lV H b a)) λa=>
Br (Value.bool a) (
rt R a1 H) (
Ld H a3 λa=>
lE a1 a λa=>
Br a (
rt R a0 H) (
Ld H a4 λa=>
lM 2 a H λa=>
lN a (iv 0) λa=>
Br a (
rt R (ui 0) H) (
ZA a0 a1 λa=>
Wp a0 a1 λb=>
Build zQ 447 [(0,a),(1,b)] λa=>
lQ 2 H #[(ui 0),(ui 0)] 447 a λa b=>
Ld b a5 λc=>
ay 2 b (pt a) λd=>
jX zQ 447 (ui 0) true b c d λc=>
lX c λc d=>
Br d (
rt R c b) (
Ld b a4 λc=>
CR R g 326 #[c,a0] b λb c=>
lX b λb d=>
lQ 3 c #[(iv 0),(ui 0),(ui 0)] 226 b λb c=>
Ld c a4 λe=>
CR R g 326 #[e,a1] c λc e=>
lX c λc f=>
lQ 3 e #[(iv 0),(ui 0),(ui 0)] 226 c λc e=>
lD 0 (pt b) e λh=>
∀i:Jt,(∀j:zV,∀k:Hp,(∀_:Fr,
∀l:Jt,(∀m:Hp,(∀_:Fr,
∀n:Jt,(∀o:Hp,(∀_:Fr,
Ld o a6 λp=>
lD 1 (pt b) o λq=>
lD 1 (pt c) o λr=>
aL zQ g p #[q,r] o (λp q=>
DR q λr=>
Ld r a4 λs=>
Ld r a6 λt=>
lD 2 (pt b) r λu=>
lD 2 (pt c) r λv=>
aL zQ g t #[u,v] q (λq t=>
aM t r/\
CN g 327 #[s,j,p,q] t λp q=>
aM q r/\
Ld q a5 λr=>
ay 2 q (pt a) λa=>
iK zQ 447 q r a p λa=>
rt R p a) fI) (dz R))->n [] o)->
lG f d λa=>
Br a (
ai 1 (pt c) λa=>
St 1 m a a1 λa=>
ai 2 (pt c) λo=>
St 1 a o a1 λa=>
JE n [] a) (
JE n [] m))->l [] m)->
lG d f λa=>
Br a (
ai 1 (pt b) λa=>
St 1 k a a0 λa=>
ai 2 (pt b) λb=>
St 1 a b a0 λa=>
JE l [] a) (
JE l [] k))->i [j] k)->
lL f d λa=>
Br a (
lD 0 (pt c) e λa=>
JE i [a] e) (
JE i [h] e))))))
theorem GI(h:L380 g a0 a1 a2 a3 a4 a5 a6 H R):sc g 380 #[a0,a1,a2,a3,a4,a5,a6] H R:=sd (.n .e (.n (.n (.n (.h 0 [] [1] .e .e) (.n .e (.n (.h 0 [] [1] .e .e) .e))) .e) (hN 5 (.h 1 [17] [0,1,4,5,6,10,13,14,15,16] .e (.h 1 [] [1,4,5,6,10,13,14,15,16,17] .e (.h 1 [] [4,5,6,10,13,15,17] .e (.n .e (.n (.h 0 [0,1,2,3,4,5,6,7,8,9,10] [] .e .e) .e)))))))) Tryz.func380 h
def L381:Y2:=λ_ a b c d=>cy c (.cells (Value.cells a) 397 (0,0)) λa c=>cy c (.cells (Value.cells b) 397 (0,0)) λb c=>lD 1 (pt a) c λe=>lD 1 (pt b) c λf=>lL e f λe=>lO e (λe=>lD 1 (pt a) c λf=>lD 1 (pt b) c λg=>lE f g λf=>cf f true (λf=>lD 0 (pt a) c λa=>lD 0 (pt b) c λb=>lL a b λa=>(lV c a f)) (λf=>vF=Value.bool f) λf=>∀_:Fr,
(lV c (Value.bool f) e)) λe=>rt d (Value.bool e) c
theorem GH(h:L381 g a0 a1 H R):sc g 381 #[a0,a1] H R:=sd (.n .e (.n (.h 0 [] [1] .e .e) .e)) Tryz.func381 h
def L382:Y1:=λ_ a b c=>ae .num .shl (iv 1) a λa=>ae .num .shr a (wi 6) λa=>Wp (iv 1) a λa=>rt c a b
theorem GG(h:L382 g a0 H R):sc g 382 #[a0] H R:=sd .e Tryz.func382 h
def L383:Y1:=λ_ a b c=>ae .num .geq a (iv 6) λd=>Br d (rt c (wi 18446744073709551615) b) (ae .num .shl (wi 1) a λa=>ae .num .shl (wi 1) a λa=>lS a (wi 1) λa=>rt c a b)
theorem GF(h:L383 g a0 H R):sc g 383 #[a0] H R:=sd .e Tryz.func383 h
def L384:Y1:=λa b c d=>cy c (.cells (Value.cells b) 116 (0,0)) λb c=>∀e:Jt,(∀f:zV,∀g:Hp,(∀_:Fr,
Br f (rt d vF g) (DR g λh=>lD 1 (pt b) h λi=>lD 1 (pt b) h λj=>aO j λj=>lS j (iv 1) λj=>lI 1 i j h λi=>lD 0 (pt b) h λj=>CN a 383 #[j] g λj k=>aM k h/\
ae .num .andNot i j λh=>lE h (wi 0) λh=>rt d h k))->e [f] g)->DR c λd=>lD 0 (pt b) d λf=>lL f (iv 0) λf=>Br f (JE e [vT] c) (lD 0 (pt b) d λf=>lG f (iv 16) λf=>aI vF vT f λf=>Br f (JE e [vT] c) (lD 1 (pt b) d λf=>aO f λf=>lD 0 (pt b) d λb=>∀g:Hp,
CN (a.add g) 382 #[b] c λa b=>aM b d/\
lN f a λa=>aI vF vT a λa=>JE e [a] b))
theorem GD(h:L384 g a0 H R):sc g 384 #[a0] H R:=sd (.n .e (.n (.h 1 [19] [1] (.h 1 [] [] (hr 0 [] 0 3 (.h 2 [3] [] (hr 0 [] 4 3 (hr 3 [] 7 2 (hr 0 [] 9 7 (.h 3 [16] [] .e .e)))) (hr 0 [] 4 4 (.h 2 [8] [] (hr 0 [] 9 7 (.h 3 [16] [] .e .e)) (hr 0 [] 9 8 .e))))) .e) .e) (.n (.h 0 [0,1,2,3,4,5,6,7,8,9,10,11,12,13] [] .e .e) .e))) Tryz.func384 h
def L385:Y1:=λa b c d=>aO b λe=>∃(f:Jt) (g:Mt),JE f [(iv 0)] c/\∀c:zV,∀h:Hp,f [c] h->∀_:Fr,
lL c e λe=>Br e (au 2 b c λe=>ay 2 h e λe=>lQ 2 h #[(iv 0),(.slice none 0 0)] 116 e λe i=>∀j:Jt,(∀k:zV,∀l:Hp,(∀_:Fr,
Br k (rt d vF l) (lA c (iv 1) λm=>aC f g [m] l [c] h))->j [k] l)->DR i λc=>ay 2 c (pt e) λf=>∀g:Hp,
CN (a.add g) 384 #[f] i λa f=>aM f c/\
Un .not a λa=>Br a (JE j [vT] f) (lD 0 (pt e) c λa=>au 2 b (iv 0) λb=>ai 0 b λb=>Ld c b λb=>lN a b λa=>aI vF vT a λa=>JE j [a] f)) (rt d vT h)
theorem GC(h:L385 g a0 H R):sc g 385 #[a0] H R:=sd (.n .e (.n (.n .e (.n (.h 0 [7] [0,5,6] (.n .e (.n .e (.n (.n (.n .e (.h 1 [22] [0,5,6,7] (.h 1 [] [] (hr 0 [] 0 3 (.h 2 [3] [] (hr 0 [] 4 7 (.h 3 [11] [] .e .e)) (hr 0 [] 4 8 .e))) .e) .e)) .e) .e))) .e) .e)) .e)) Tryz.func385 h
def L386:Y2:=λ_ a b c d=>aO a λe=>aO b λf=>lN e f λe=>Br e (rt d vF c) (aO a λe=>∃(f:Jt) (g:Mt),JE f [(iv 0)] c/\∀c:zV,∀h:Hp,f [c] h->∀_:Fr,
lL c e λe=>Br e (lI 1 a c h λa=>lI 1 b c h λb=>lN a b λa=>Br a (rt d vF h) (lA c (iv 1) λa=>aC f g [a] h [c] h)) (rt d vT h))
theorem GB(h:L386 g a0 a1 H R):sc g 386 #[a0,a1] H R:=sd (.n .e (.n .e (.n (.n .e (.n (.h 0 [13] [0,1,12] .e .e) .e)) .e))) Tryz.func386 h
def L387:Y3:=λa b c d e f=>cy e (.cells (Value.cells b) 116 (0,0)) λb e=>cy e (.cells (Value.cells c) 3 (0,0)) λc e=>cy e (.cells (Value.cells d) 4 (0,0)) λd e=>lW e #[(iv 0),(.slice none 0 0)] 116 λe g=>lD 0 (pt b) g λh=>CR f a 340 #[h,(.func (.func 396) #[] #[(pt c),(pt d),(pt b)])] g λa b=>St 2 b (pt e) a λa=>ay 2 a (pt e) λb=>rt f b a
theorem GA(h:L387 g a0 a1 a2 H R):sc g 387 #[a0,a1,a2] H R:=sd .e Tryz.func387 h
def L388:Y1:=λa b c d=>gG c λc e=>aO b λf=>∃(g:Jt) (h:Mt),JE g [(iv 0)] e/\∀e:zV,∀i:Hp,g [e] i->∀_:Fr,
lL e f λf=>Br f (au 2 b e λb=>ay 2 i b λb=>lQ 2 i #[(iv 0),(.slice none 0 0)] 116 b λb f=>ay 2 f (pt b) λb=>CR d a 397 #[c,b] f λ_ a=>lA e (iv 1) λb=>aC g h [b] a [e] i) (rt d c i)
theorem Gz(h:L388 g a0 H R):sc g 388 #[a0] H R:=sd (.n .e (.n .e (.n (.n .e (.n (.h 0 [9] [3,7,8] .e .e) .e)) .e))) Tryz.func388 h
def L389:Y2:=λa b c d e=>gG d λd f=>Zy f b λb f=>∃(g:Jt) (h:Mt),JE g [(iv 0)] f/\∀f:zV,∀i:Hp,g [f] i->∀_:Fr,
Xu i b λj k=>Ext 0 j λj=>Br j (JN k b λb=>Ext 1 b λb=>lQ 2 k #[(iv 0),(.slice none 0 0)] 116 b λb j=>ay 2 j (pt b) λl=>CR e a 398 #[l,c,vF] j λj l=>lX j λj _=>lQ 2 l #[(iv 0),(.slice none 0 0)] 116 j λj l=>ay 2 l (pt b) λb=>CR e a 398 #[b,c,vT] l λb c=>lX b λb _=>lQ 2 c #[(iv 0),(.slice none 0 0)] 116 b λb c=>DR c λl=>ay 2 l (pt j) λm=>ay 2 l (pt b) λn=>CN a 399 #[m] c λc m=>aM m l/\
CN a 399 #[n] m λa m=>aM m l/\
∀l:Jt,(∀n:zV,∀o:Hp,(∀_:Fr,
DR o λp=>ay 2 p (pt j) λj=>ay 2 p (pt b) λb=>aW (.string) o d c j λj=>aM j p/\
aW (.string) j d a b λb=>aC g h [n] b [f] i)->l [n] o)->ae .str .neq c a λa=>Br a (lA f (iv 1) λa=>JE l [a] m) (JE l [f] m)) (rt e (tP d f) k)
theorem Gy(h:L389 g a0 a1 H R):sc g 389 #[a0,a1] H R:=sd (.n .e (.n .e (.n (.n .e (.n (.h 0 [7] [1,6,18] (.n .e (.n .e (.n (hN 3 (.n (.h 0 [0,2,1,3,4,5] [] .e .e) (.h 1 [7] [1,6,10,12,14,15,18] .e (.h 0 [0,1,2,3,4,5,6,7] [] .e .e)))) .e))) .e) .e)) .e))) Tryz.func389 h
def L390:Y1:=λa b c d=>DR c λe=>lM 0 b e λf=>lM 1 b e λg=>CN a 273 #[f,g] c λa c=>aM c e/\
lX a λa _=>lM 2 b c λe=>lA e a λa=>lC 2 b λb=>St 1 c b a λa=>rt d (.tuple #[]) a
theorem Gx(h:L390 g a0 H R):sc g 390 #[a0] H R:=sd (.n (.h 0 [0,1,2,3,4,5,6,7,8,9,10,11,12,13] [] .e .e) .e) Tryz.func390 h
def L391:Y1:=λa b c d=>CR d a 400 #[b] c λb c=>CR d a 401 #[b] c λ_ a=>rt d b a
theorem Gw(h:L391 g a0 H R):sc g 391 #[a0] H R:=sd .e Tryz.func391 h
def L392:Y1:=λ_ a b c=>cy b (.cells (Value.cells a) 167 (0,0)) λa b=>c (.returned (.func (.func 402) #[] #[(pt a)])) b
theorem Gv(h:L392 g a0 H R):sc g 392 #[a0] H R:=sd .e Tryz.func392 h
def L396:Y4:=λa b c d e f g=>Ld f c λh=>ae .num .geq h (iv 6) λh=>Br h (Ld f c λh=>lS h (iv 6) λh=>ae .num .shl (iv 1) h λh=>ae .num .andNot b h λh=>∀i:Jt,(∀j:zV,∀k:Hp,(∀_:Fr,
ai 1 e λl=>Ld k l λl=>lI 1 l j k λl=>rt g l k)->i [j] k)->Ld f d λj=>Br j (Ld f c λj=>lS j (iv 6) λj=>ae .num .shl (iv 1) j λj=>ae .num .or h j λj=>JE i [j] f) (JE i [h] f)) (DR f λh=>Ld h c λi=>Ld h c λc=>ae .num .shl (iv 1) c λc=>CN a 344 #[i,(iv 0)] f λa f=>aM f h/\
Ld f d λd=>Br d (ai 1 e λd=>Ld f d λd=>lI 1 d b f λd=>ae .num .and d a λd=>ae .num .shr d c λh=>ae .num .or d h λd=>rt g d f) (ai 1 e λd=>Ld f d λd=>lI 1 d b f λb=>ae .num .andNot b a λa=>ae .num .shl a c λb=>ae .num .or a b λa=>rt g a f))
theorem Gu(h:L396 g a0 a1 a2 a3 H R):sc g 396 #[a0,a1,a2,a3] H R:=sd (.n .e (.n (.n .e (.n (.n .e (.h 1 [6] [3] .e .e)) .e)) (.n (.h 0 [0,2,3,1,4,5] [] .e .e) .e))) Tryz.func396 h
def L397:Y2:=λa b c d e=>cy d (.cells (Value.cells c) 116 (0,0)) λc d=>DR d λf=>ay 2 f (pt c) λg=>ay 2 f (pt c) λc=>CN a 399 #[g] d λa d=>aM d f/\
aW (.string) d b a c λa=>rt e (.tuple #[]) a
theorem Gt(h:L397 g a0 a1 H R):sc g 397 #[a0,a1] H R:=sd (.n .e (.h 0 [0,1,3,2,4] [] .e .e)) Tryz.func397 h
def L398:Y3:=λa b c d e f=>cy e (.cells (Value.cells b) 116 (0,0)) λb e=>lW e #[(iv 0),(.slice none 0 0)] 116 λe g=>ay 2 g (pt b) λh=>CR f a 404 #[h,c] g λg h=>lN g (iv 0) λi=>Br i (Build zQ 116 [] λi=>St 2 h (pt e) i λi=>ay 2 i (pt e) λj=>rt f (tP j g) i) (ay 2 h (pt b) λb=>CR f a 387 #[b,c,d] h λa b=>St 2 b (pt e) a λa=>ay 2 a (pt e) λb=>rt f (tP b (iv 0)) a)
theorem Gs(h:L398 g a0 a1 a2 H R):sc g 398 #[a0,a1,a2] H R:=sd .e Tryz.func398 h
def L399:Y1:=λ_ a b c=>cy b (.cells (Value.cells a) 116 (0,0)) λa b=>lD 1 (pt a) b λa=>aO a λd=>∃(e:Jt) (f:Mt),JE e [(.slice none 0 0),(iv 0)] b/\∀b g:zV,∀h:Hp,e [b,g] h->∀_:Fr,
lL g d λd=>Br d (lI 1 a g h λa=>∃(d:Jt) (i:Mt),JE d [b,(iv 0)] h/\∀j k:zV,∀l:Hp,d [j,k] l->∀_:Fr,
lL k (iv 8) λm=>Br m (ae .num .mul (iv 8) k λm=>ae .num .shr a m λa=>br .u8 a λa=>av zQ 204 1 [(0,a)] l λa m=>App zQ 5 1 1 (bi 0) m j a λa m=>lA k (iv 1) λn=>aC d i [a,n] m [j,k] l) (lA g (iv 1) λa=>aC e f [j,a] l [b,g] h)) (kW h b λa=>rt c a h)
theorem Gr(h:L399 g a0 H R):sc g 399 #[a0] H R:=sd (.n .e (.n .e (.n (.n .e (.n (.h 0 [3,10] [8,9] (.n .e (.n .e (.n (.n (.n .e (.n .e (.n (.h 0 [3,14] [5,8,9,10] .e .e) .e))) .e) .e))) .e) .e)) .e))) Tryz.func399 h
def L400:Y1:=λa b c d=>CR d a 405 #[(.slice none 0 0),b] c λa b=>rt d a b
theorem Gq(h:L400 g a0 H R):sc g 400 #[a0] H R:=sd .e Tryz.func400 h
def L401:Y1:=λa b c d=>aO b λe=>br .u64 e λf=>CR d a 154 #[f] c λc f=>CR d a 406 #[b,(iv 0),e,c] f λ_ a=>rt d (.tuple #[]) a
theorem Gp(h:L401 g a0 H R):sc g 401 #[a0] H R:=sd .e Tryz.func401 h
def L404:Y2:=λa b c d e=>cy d (.cells (Value.cells b) 116 (0,0)) λb d=>ay 2 d (pt b) λf=>av zQ 66 1 [(0,f)] d λd f=>CR e a 345 #[d] f λa d=>Un .not a λa=>Br a (rt e (iv 5) d) (lL c (iv 0) λa=>lO a (λa=>lD 0 (pt b) d λb=>ae .num .geq c b λb=>(lV d b a)) λa=>Br (Value.bool a) (rt e (iv 2) d) (rt e (iv 0) d))
theorem Gn(h:L404 g a0 a1 H R):sc g 404 #[a0,a1] H R:=sd (.n .e (.n (.n (.n .e (.n .e (.n (.h 0 [] [1] .e .e) .e))) .e) .e)) Tryz.func404 h
end Go.Proofs
namespace Go.Sx
open Go
section
variable {P:Program} {g:Gh} {H:Hp}
theorem aF{f:FuncId}{args:Array zV}{C:Hp}{Q:zV->Hp->Prop}(h:∀g,bC P g f args C (aN Q)):Fc P f args C Q:=h
theorem Ld.q{b off:Nat}{c:Array zV}{T:TypeId}{fz:Nat×Nat}{v:zV}{k:zV->Prop}(h:k v)(hm:(b,Obj.cells c T fz)∈H:=by repeat (first|exact List.Mem.head _|apply List.Mem.tail|apply xac))(hc:c[off]? =some v:=by rfl):Ld H (.pointer (some ⟨b,off,none⟩)) k:=.mk hm hc h
theorem Ld.f{b o off:Nat}{c:Array zV}{T:TypeId}{fz:Nat×Nat}{v:zV}{k:zV->Prop}(h:k v)(hm:(b,Obj.cells c T fz)∈H:=by repeat (first|exact List.Mem.head _|apply List.Mem.tail|apply xac))(hc:c[o+off]? =some v:=by rfl):ai off (.pointer (some ⟨b,o,none⟩)) λp=>Ld H p k:=.mk (.mk hm hc h)
theorem Ld.n{b o off:Nat}{c:Array zV}{T:TypeId}{fz:Nat×Nat}{v:zV}{k:zV->Prop}(h:k v)(hm:(b,Obj.cells c T fz)∈H:=by repeat (first|exact List.Mem.head _|apply List.Mem.tail|apply xac))(hc:c[o+off]? =some v:=by rfl):Nil (.pointer (some ⟨b,o,none⟩)) λq=>ai off q λp=>Ld H p k:=.ptr (.mk (.mk hm hc h))
theorem Ld.u{b o off:Nat}{c:Array zV}{T:TypeId}{fz:Nat×Nat}{v:zV}{k:zV->Prop}(hm:(b,Obj.cells c T fz)∈H)(h:k v)(hc:c[o+off]? =some v:=by rfl):ai off (.pointer (some ⟨b,o,none⟩)) λp=>Ld H p k:=.mk (.mk hm hc h)
theorem Ld.v{b o off:Nat}{c:Array zV}{T:TypeId}{fz:Nat×Nat}{v:zV}{k:zV->Prop}(hm:(b,Obj.cells c T fz)∈H)(h:k v)(hc:c[o+off]? =some v:=by rfl):Nil (.pointer (some ⟨b,o,none⟩)) λq=>ai off q λp=>Ld H p k:=.ptr (.mk (.mk hm hc h))
theorem ay.q{b n:Nat}{r:List zV}{T:TypeId}{fz:Nat×Nat}{K:zV->Prop}(h:K (.agg r.toArray))(hm:(b,Obj.cells r.toArray T fz)∈H:=by repeat (first|exact List.Mem.head _|apply List.Mem.tail|apply xac))(hr:r.length=n:=by rfl):ay n H (.pointer (some ⟨b,0,none⟩)) K:=.whole hm hr h
theorem St.q{b n:Nat}{c:Array zV}{T:TypeId}{r:List zV}{H':Hp}{K:Hp->Prop}(h:K H')(hu:c6 b (.cells c T (0,0)) (.cells r.toArray T (0,0)) H H':=by repeat (first|exact c6.head _|apply c6.tail|apply c6.ca))(hs:c.size=n:=by rfl)(hr:r.length=n:=by rfl)(h1:∀v∈r,v.oneCell'=true:=by simp[Value.oneCell']):
  St n H (.pointer (some ⟨b,0,none⟩)) (.agg r.toArray) K:=.whole hu hs hr h1 h
theorem St.p{b n:Nat}{c:Array zV}{T:TypeId}{r:List zV}{H':Hp}{K:Hp->Prop}(h1:∀v∈r,v.oneCell'=true)(h:K H')(hu:c6 b (.cells c T (0,0)) (.cells r.toArray T (0,0)) H H':=by repeat (first|exact c6.head _|apply c6.tail|apply c6.ca))(hs:c.size=n:=by rfl)(hr:r.length=n:=by rfl):
  St n H (.pointer (some ⟨b,0,none⟩)) (.agg r.toArray) K:=.whole hu hs hr h1 h
section
variable {kd xF:IntKind} {a b:Nat} {k:zV->Prop}
theorem ae.fH(h:k (.int kd ((a+b:Nat):Int)))(hr:a+b<bF kd:=by first|(simp[bF];omega)|(simp only[bF];omega)|simp[bF]):ae .num .add (.int kd a) (.int kd b) k:=.Wi hr h
theorem ae.inc(h:k (.int kd ((a+1:Nat):Int)))(hr:a+1<bF kd:=by first|(simp[bF];omega)|(simp only[bF];omega)|simp[bF]):ae .num .add (.int kd a) (.int kd 1) k:=.Wi hr h
theorem ae.bY(h:k (.int kd ((a-b:Nat):Int)))(ha:a<bF kd:=by first|(simp[bF];omega)|(simp only[bF];omega)|simp[bF])(hb:b<=a:=by omega):ae .num .sub (.int kd a) (.int kd b) k:=.xx ha hb h
theorem ae.xD(h:k (.int kd ((a*b:Nat):Int)))(hr:a*b<bF kd:=by first|(simp[bF];omega)|(simp only[bF];omega)|simp[bF]):ae .num .mul (.int kd a) (.int kd b) k:=.aep hr h
theorem br.q(h:k (.int kd (a:Int)))(ha:a<bF kd:=by first|(simp[bF];omega)|(simp only[bF];omega)|simp[bF]):br kd (.int xF a) k:=.nat ha h
end
theorem Br.T{p:Prop}[Decidable p]{t f:Prop}(h:t)(hp:p:=by first|omega|decide|simp):Br (.bool (decide p)) t f:=.acN hp h
theorem Br.F{p:Prop}[Decidable p]{t f:Prop}(h:f)(hp:¬p:=by first|omega|decide|simp):Br (.bool (decide p)) t f:=.Sh hp h
theorem aa.fq{f:FuncId}{args:Array zV}{C H:Hp}{c:Hp->Hp}{Q:zV->Hp->Prop}{K:zV->Hp->Prop}{KP:List PanicEntry->Hp->Prop}(hc:Fc P f args C Q)
 (hk:∀v C',Q v C'->K v (c C'))(hh:bG C H c:=by repeat (first|exact bG.here|exact bG.left|apply bG.cons|apply bG.app)):aa P g f args H K KP:=.fn hh hc hk
theorem aa.rq{f:FuncId}{args:Array zV}{B H:Hp}{c:Hp->Hp}{Q:zV->Prop}{K:zV->Hp->Prop}{KP:List PanicEntry->Hp->Prop}(hc:Rd P f args B Q)
 (hk:∀v,Q v->K v H)(hh:bG B H c:=by repeat (first|exact bG.here|exact bG.left|apply bG.cons|apply bG.app)):aa P g f args H K KP:=.rd hh hc hk
theorem aa.eq{f:FuncId}{args:Array zV}{B H:Hp}{c:Hp->Hp}{v:zV}{K:zV->Hp->Prop}{KP:List PanicEntry->Hp->Prop}(hc:Rd P f args B (· =v))
 (hk:K v H)(hh:bG B H c:=by repeat (first|exact bG.here|exact bG.left|apply bG.cons|apply bG.app)):aa P g f args H K KP:=.rd hh hc λ_ h=>by subst h;exact hk
theorem aa.eh{f:FuncId}{args:Array zV}{B H:Hp}{c:Hp->Hp}{v:zV}{K:zV->Hp->Prop}{KP:List PanicEntry->Hp->Prop}(hh:bG B H c)(hc:Rd P f args B (· =v))
 (hk:K v H):aa P g f args H K KP:=.rd hh hc λ_ h=>by subst h;exact hk
theorem aa.pq{f:FuncId}{args:Array zV}{B H:Hp}{c:Hp->Hp}{Q:zV->Hp->Prop}{K:zV->Hp->Prop}{KP:List PanicEntry->Hp->Prop}(hc:Px P f args B Q)
 (hk:∀v N,Q v (N++B)->K v (c (N++B)))(hh:bG B H c:=by repeat (first|exact bG.here|exact bG.left|apply bG.cons|apply bG.app)):aa P g f args H K KP:=.px hh hc hk
theorem Ext.two{x y:zV}{k:zV->zV->Prop}(h:k x y):Ext 0 (.tuple #[x,y]) λa=>Ext 1 (.tuple #[x,y]) λb=>k a b:=.mk rfl (.mk rfl h)
end
end Go.Sx
set_option maxRecDepth 100000
namespace Go.Proofs
open Go Go.Sx
section
theorem wu{B:Hp}{s:zV}{n:Int}{K:zV->Hp->Prop}(h:∀b,K (.slice (some ⟨b,0,none⟩) 1 1) ((b,.cells #[iv n,s] 116 (0,0))::B)):
  av zQ 66 1 [(0,.agg #[iv n,s])] B K:=
 av.one (r:=[iv n,s]) (e:=116) (k:=2) (z:=.agg #[iv 0,.slice none 0 0]) zK zK zK zD rfl h
theorem EN{G:Nat->Nat}{W:Nat}:((List.range W).map λk=>if k<W then G k else 0)=(List.range W).map G:=by
 apply xbn;intro k hk;rw[xae (xaM.1 hk)]
theorem uh{n:Nat}{ws:zL}(h:an.eX n ws):ws.length<=4294967296:=by have:=h.len;have:=an.xY h.xC;omega
theorem bO{B:Hp}{s:zV}{ws:zL}(h:Words B s ws):s.oneCell'=true:=by obtain⟨a,c,rfl,_⟩:=h.1.shape;rfl
theorem Mp{G:Nat->Nat}{W i:Nat}(hi:i<W):(iw ((List.range W).map λk=>if k<i then G k else 0)).set i ((G i:Nat):Int)=iw ((List.range W).map λk=>if k<i+1 then G k else 0):=by
 apply xbd;intro j;unfold iw;by_cases e:i=j
 ·subst e;simp[hi]
 rw[xbG e];by_cases hj:j<W
 ·simp only[xat,xdA hj,xck];by_cases h2:j<i
  ·rw[xae h2,xae zO]
  rw[xab h2,xab zO]
 rw[xaD zP,xaD zP]
theorem range_zero{G:Nat->Nat}{W:Nat}:List.replicate W (0:Int)=iw ((List.range W).map λk=>if k<0 then G k else 0):=by
 apply xbd;intro j;unfold iw;by_cases hj:j<W
 ·simp[hj]
 rw[xaD zP,xaD zP]
theorem kT{n:Nat}(hn:n<=16):an.wN n<=9223372036854775807/\an.wN n*8<=281474976710656:=by have:=an.xY hn;omega
end
section
def fo(l:List Bool):Array zV:=(l.map Value.bool).toArray
theorem Ga(l:List Bool)(i:Nat)(b:Bool):(fo l).setIfInBounds i (.bool b)=fo (l.set i b):=by simp[fo,xcQ]
theorem E6(n:Nat):madeCells (Value.cells (.bool false)) (n*1)=fo (List.replicate n false):=by
 apply Array.ext
 ·simp[madeCells,fo]
 intro i h1 h2;simp[madeCells,fo,Value.cells,Nat.mod_one]
def D3(B:Hp)(v:zV)(l:List Bool):Prop:=Sl 1 B v (l.map λb=>[Value.bool b])
theorem D3.block{B:Hp}{b cap:Nat}{l:List Bool}{T:TypeId}{fz:Nat×Nat}(hm:(b,Obj.cells (fo l) T fz)∈B)(hc:l.length<=cap):D3 B (.slice (some ⟨b,0,none⟩) l.length cap) l:=by
 refine⟨λr hr=>by obtain⟨b,_,rfl⟩:=xao.1 hr;rfl,.inr ⟨b,0,cap,_,T,fz,by simp,by simpa using hc,hm,by simp[fo],λi r hi j v hj=>?_⟩⟩;rw[xat]at hi;cases hl:l[i]? with
 |none=>rw[hl]at hi;simp at hi
 |some n=>
  rw[hl]at hi;simp only[xck,xaq]at hi;subst hi;cases j with
  |zero=>
   simp only[xcL,xaq]at hj;subst hj;simp[fo,hl]
  |succ j=>simp at hj
theorem D3.ld{kd:IntKind}{B H:Hp}{v:zV}{l:List Bool}(h:D3 B v l){i:Nat}{b:Bool}(hi:l[i]? =some b)(hs:∀x∈B,x∈H){K:zV->Prop}(hk:K (.bool b)):au 1 v (.int kd (i:Int)) (λp=>Ld H p K):=
 au.sl h (by rw[xat,hi];rfl) λp hp=>Ld.at hp hs hk
theorem cU.SB{H:Hp}{T:TypeId}{kl:IntKind}{n:Nat}{K:zV->Hp->Prop}(cA:n<=281474976710656)
 (h:∀b,K (.slice (some ⟨b,0,none⟩) n n) ((b,.cells (fo (List.replicate n false)) T (0,0))::H)):cU T 1 1 (.bool false) H (.int kl n) (.int kl n) K:=
 ⟨kl,kl,n,n,rfl,rfl,xaj _,by omega,by omega,λb _=>by rw[E6];exact h b⟩
theorem St.SB{H:Hp}{b i:Nat}{l:List Bool}{x:Bool}{T:TypeId}{H':Hp}{K:Hp->Prop}(hu:c6 b (.cells (fo l) T (0,0)) (.cells (fo (l.set i x)) T (0,0)) H H')(hi:i<l.length)(h:K H'):
  St 1 H (.pointer (some ⟨b,0+i*1,none⟩)) (.bool x) K:=
 St.one (c:=fo l) (c':=fo (l.set i x)) hu rfl (by simpa[fo]using hi) (by rw[xa3,xb1];exact Ga l i x) h
def L0(n:Nat)(L:List (zL)):List Tb:=L.map λws=>⟨n,ws⟩
theorem pI(n:Nat)(L:List (zL)):(L0 n L).length=L.length:=by simp[L0]
end
end Go.Proofs
namespace aA
open an
theorem dj{x u v:Nat}{b c:Bool}(h:u≠v):aB (aB x u b) v c=aB (aB x v c) u b:=by
 apply xaX;intro k;rw[aj,aj,aj,aj];by_cases e1:k=u<;>by_cases e2:k=v
 ·exact absurd (e1.symm.trans e2) h
 ·simp[e1,h]
 ·simp[e2,xa8 h]
 simp[e1,e2]
structure Nd where
 v:Nat
 lo:Nat
 hi:Nat
deriving DecidableEq
abbrev eB:=Nat->Option Nd
abbrev Fn:=Nat->Bool
def live(N:eB)(r:Nat):Prop:=r<2\/∃d,N r=some d
def dep(n:Nat)(ah:Nat->Nat)(N:eB)(r:Nat):Nat:=match N r with|some d=>ah d.v|none=>n
structure WF(n:Nat)(ah:Nat->Nat)(N:eB):Prop where
 two:∀{r d},N r=some d->2<=r
 var:∀{r d},N r=some d->d.v<n
 ne:∀{r d},N r=some d->d.lo≠d.hi
 lo:∀{r d},N r=some d->live N d.lo/\ah d.v<dep n ah N d.lo
 hi:∀{r d},N r=some d->live N d.hi/\ah d.v<dep n ah N d.hi
 uq:∀{r r' d},N r=some d->N r'=some d->r=r'
structure jY(n:Nat)(ah:Nat->Nat):Prop where
 lt:∀v,v<n->ah v<n
 inj:∀u v,u<n->v<n->ah u=ah v->u=v
structure Interp(N:eB)(S:Nat->Fn):Prop where
 zero:∀x,S 0 x=false
 one:∀x,S 1 x=true
 node:∀{r d},N r=some d->∀x,S r x=if x.testBit d.v then S d.hi x else S d.lo x
variable {n:Nat} {ah:Nat->Nat} {N:eB} {S:Nat->Fn}
theorem aU{r:Nat}(h:N r=none):dep n ah N r=n:=by unfold dep;rw[h]
theorem aq{r:Nat}{d:Nd}(h:N r=some d):dep n ah N r=ah d.v:=by unfold dep;rw[h]
theorem WF.iD(h:WF n ah N)(hl:jY n ah)(r:Nat):dep n ah N r<=n:=by
 cases e:N r with
 |none=>rw[aU e];exact xaj _
 |some d=>rw[aq e];exact xb7 (hl.lt _ (h.var e))
theorem WF.const(h:WF n ah N){r:Nat}(hr:r<2):N r=none:=by
 cases e:N r with
 |none=>rfl
 |some d=>have:=h.two e;omega
theorem WF.indep(h:WF n ah N)(hl:jY n ah)(hi:Interp N S):∀(k r:Nat),n-dep n ah N r<=k->live N r->∀v,v<n->ah v<dep n ah N r->∀x b,S r (aB x v b)=S r x:=by
 intro k;induction k with
 |zero=>
  intro r hk hr v hv hlt x b;rcases hr with hr|⟨d,hd⟩
  ·have:r=0\/r=1:=by omega
   rcases this with rfl|rfl
   ·rw[hi.zero,hi.zero]
   rw[hi.one,hi.one]
  have h1:=hl.lt _ (h.var hd);rw[aq hd]at hk;omega
 |succ k ih=>
  intro r hk hr v hv hlt x b;rcases hr with hr|⟨d,hd⟩
  ·have:r=0\/r=1:=by omega
   rcases this with rfl|rfl
   ·rw[hi.zero,hi.zero]
   rw[hi.one,hi.one]
  rw[aq hd]at hk hlt;have h1:=hl.lt _ (h.var hd);obtain⟨l1,l2⟩:=h.lo hd;obtain⟨m1,m2⟩:=h.hi hd;have hne:d.v≠v:=λe=>by rw[e]at hlt;omega
  rw[hi.node hd,hi.node hd,aj,xab hne,ih d.lo zO l1 v hv zO,ih d.hi zO m1 v hv zO]
theorem WF.bN(h:WF n ah N)(hl:jY n ah)(hi:Interp N S){r:Nat}(hr:live N r){v:Nat}(hv:v<n)(hlt:ah v<dep n ah N r)(x:Nat)(b:Bool):S r (aB x v b)=S r x:=
 h.indep hl hi _ r (xaj _) hr v hv hlt x b
theorem WF.child(h:WF n ah N)(hl:jY n ah)(hi:Interp N S){r:Nat}{d:Nd}(hd:N r=some d)(x:Nat)(b:Bool):S r (aB x d.v b)=S (if b then d.hi else d.lo) x:=by
 obtain⟨l1,l2⟩:=h.lo hd;obtain⟨m1,m2⟩:=h.hi hd;rw[hi.node hd,aj,xae rfl];cases b
 ·simp only[xaN,xa1];exact h.bN hl hi l1 (h.var hd) l2 x false
 simp only[xa6];exact h.bN hl hi m1 (h.var hd) m2 x true
theorem WF.canon(h:WF n ah N)(hl:jY n ah)(hi:Interp N S):∀(k r r':Nat),(n-dep n ah N r)+(n-dep n ah N r')<=k->live N r->live N r'->(∀x,S r x=S r' x)->r=r':=by
 intro k;induction k with
 |zero=>
  intro r r' hk hr hr' he;have hc:∀{r},n-dep n ah N r=0->live N r->r<2:=by
   intro r hk hr;rcases hr with hr|⟨d,hd⟩
   ·exact hr
   have h1:=hl.lt _ (h.var hd);rw[aq hd]at hk;omega
  have h1:=hc zO hr;have h2:=hc zO hr';have e0:=he 0;have:r=0\/r=1:=by omega
  have h3:r'=0\/r'=1:=by omega
  rcases this with rfl|rfl<;>rcases h3 with rfl|rfl<;>simp[hi.zero,hi.one]at e0<;>rfl
 |succ k ih=>
  have SW:∀r r',(n-dep n ah N r)+(n-dep n ah N r')<=k+1->live N r'->(∀x,S r x=S r' x)->∀d,N r=some d->ah d.v<dep n ah N r'->False:=by
   intro r r' hk hr' he d hd hlt;obtain⟨l1,l2⟩:=h.lo hd;obtain⟨m1,m2⟩:=h.hi hd;have hv:=h.var hd;have h1:=hl.lt _ hv;have d1:=h.iD hl d.lo;have d2:=h.iD hl d.hi;have d3:=h.iD hl r';rw[aq hd]at hk;have a1:d.lo=r':=ih d.lo r' zO l1 hr' λx=>by
    have:=h.child hl hi hd x false;simp only[xaN,xa1]at this;rw[<-this,he,h.bN hl hi hr' hv hlt]
   have a2:d.hi=r':=ih d.hi r' zO m1 hr' λx=>by
    have:=h.child hl hi hd x true;simp only[xa6]at this;rw[<-this,he,h.bN hl hi hr' hv hlt]
   exact h.ne hd (a1.trans a2.symm)
  intro r r' hk hr hr' he;rcases hr with hr|⟨d,hd⟩
  ·rcases hr' with hr'|⟨d',dP⟩
   ·have e0:=he 0;have:r=0\/r=1:=by omega
    have h3:r'=0\/r'=1:=by omega
    rcases this with rfl|rfl<;>rcases h3 with rfl|rfl<;>simp[hi.zero,hi.one]at e0<;>rfl
   refine(SW r' r zO (.inl hr) (λx=>(he x).symm) d' dP ?_).elim;rw[aU (h.const hr)];exact hl.lt _ (h.var dP)
  rcases xcJ (ah d.v) (dep n ah N r')with hlt|heq|hgt
  ·exact(SW r r' hk hr' he d hd hlt).elim
  ·rcases hr' with hr'|⟨d',dP⟩
   ·rw[aU (h.const hr')]at heq;have:=hl.lt _ (h.var hd);omega
   rw[aq dP]at heq;have hv:=hl.inj _ _ (h.var hd) (h.var dP) heq;obtain⟨l1,l2⟩:=h.lo hd;obtain⟨m1,m2⟩:=h.hi hd;obtain⟨Ya,l2'⟩:=h.lo dP;obtain⟨m1',m2'⟩:=h.hi dP;have h1:=hl.lt _ (h.var hd);have d1:=h.iD hl d.lo;have d2:=h.iD hl d.hi;have d1':=h.iD hl d'.lo;have d2':=h.iD hl d'.hi;rw[aq hd,aq dP]at hk;have c1:=λx=>h.child hl hi hd x false;have c2:=λx=>h.child hl hi hd x true;have c1':=λx=>h.child hl hi dP x false;have c2':=λx=>h.child hl hi dP x true;simp only[xaN,xa1,xa6]at c1 c2 c1' c2';have a1:d.lo=d'.lo:=ih d.lo d'.lo zO l1 Ya λx=>by rw[<-c1,<-c1',he,hv]
   have a2:d.hi=d'.hi:=ih d.hi d'.hi zO m1 m1' λx=>by rw[<-c2,<-c2',he,hv]
   have:d=d':=by cases d;cases d';simp_all
   subst this;exact h.uq hd dP
  rcases hr' with hr'|⟨d',dP⟩
  ·rw[aU (h.const hr')]at hgt;have:=hl.lt _ (h.var hd);omega
  rw[aq dP]at hgt;refine(SW r' r zO (.inr ⟨d,hd⟩) (λx=>(he x).symm) d' dP ?_).elim;rw[aq hd];exact hgt
theorem WF.same(h:WF n ah N)(hl:jY n ah)(hi:Interp N S){r r':Nat}(hr:live N r)(hr':live N r')(he:∀x,S r x=S r' x):r=r':=h.canon hl hi _ r r' (xaj _) hr hr' he
end aA
namespace aA
open an
variable {n:Nat} {ah:Nat->Nat} {N:eB} {S:Nat->Fn} {ord:zL}
def cF(g:Fn)(v:Nat):Prop:=∃x,g (aB x v false)≠g (aB x v true)
def fs(ord:zL)(F:Fn->Prop):Nat->Fn->Prop
 |0,g=>F g
 |l+1,g=>∃f,fs ord F l f/\∃b,g=λx=>f (aB x (ord.getD l 0) b)
def aG(n:Nat)(ord:zL)(F:Fn->Prop)(g:Fn):Prop:=∃l,l<n/\fs ord F l g/\cF g (ord.getD l 0)
structure Ord(n:Nat)(ah:Nat->Nat)(ord:zL):Prop where
 len:ord.length=n
 aZ:∀l,l<n->ord.getD l 0<n/\ah (ord.getD l 0)=l
theorem Ord.of(h:Ord n ah ord)(hl:jY n ah){v:Nat}(hv:v<n):ord.getD (ah v) 0=v:=by
 obtain⟨h1,h2⟩:=h.aZ _ (hl.lt v hv);exact hl.inj _ _ h1 hv h2
def Fs(S:Nat->Fn)(R:Nat->Prop)(g:Fn):Prop:=∃r,R r/\g=S r
def A(N:eB)(ah:Nat->Nat)(n:Nat)(R:Nat->Prop):Nat->Nat->Prop
 |0,r=>R r
 |l+1,r=>(A N ah n R l r/\dep n ah N r≠l)\/∃p d,A N ah n R l p/\N p=some d/\ah d.v=l/\(r=d.lo\/r=d.hi)
variable {R:Nat->Prop}
theorem sN(h:WF n ah N)(hR:∀r,R r->live N r):∀l r,A N ah n R l r->live N r/\l<=dep n ah N r
 |0,r,ha=>⟨hR r ha,xaO _⟩
 |l+1,r,ha=>by
  rcases ha with⟨h1,h2⟩|⟨p,d,h1,h2,h3,h4⟩
  ·have:=sN h hR l r h1;exact⟨this.1,by omega⟩
  rcases h4 with rfl|rfl
  ·have:=h.lo h2;exact⟨this.1,by omega⟩
  have:=h.hi h2;exact⟨this.1,by omega⟩
theorem sM{r:Nat}:∀k l,A N ah n R l r->l+k<=dep n ah N r->A N ah n R (l+k) r
 |0,l,ha,_=>ha
 |k+1,l,ha,hk=>by
  have h1:=sM k l ha zO;have h2:dep n ah N r≠l+k:=by omega
  exact .inl ⟨h1,h2⟩
def Reach(N:eB)(R:Nat->Prop):Prop:=∀r d,N r=some d->R r\/∃p e,N p=some e/\(e.lo=r\/e.hi=r)
theorem Xz(h:WF n ah N)(hr:Reach N R):∀k r d,N r=some d->ah d.v<=k->A N ah n R (ah d.v) r:=by
 intro k;induction k with
 |zero=>
  intro r d hd hk;rcases hr r d hd with h1|⟨p,e,h1,h2⟩
  ·rw[show ah d.v=0 by omega];exact h1
  have:=h.lo h1;have h3:=h.hi h1;rcases h2 with rfl|rfl
  ·rw[aq hd]at this;omega
  rw[aq hd]at h3;omega
 |succ k ih=>
  intro r d hd hk;rcases hr r d hd with h1|⟨p,e,h1,h2⟩
  ·have:=sM (N:=N) (ah:=ah) (n:=n) (R:=R) (r:=r) (ah d.v) 0 h1 (by rw[aq hd];omega);rwa [xa3]at this
  have hlt:ah e.v<ah d.v:=by
   have:=h.lo h1;have h3:=h.hi h1;rcases h2 with rfl|rfl
   ·rw[aq hd]at this;omega
   rw[aq hd]at h3;omega
  have ha:=ih p e h1 zO;have hb:A N ah n R (ah e.v+1) r:=.inr ⟨p,e,ha,h1,rfl,by rcases h2 with rfl|rfl;exact .inl rfl;exact .inr rfl⟩;have:=sM (ah d.v-(ah e.v+1)) _ hb (by rw[aq hd];omega);rwa [show ah e.v+1+(ah d.v-(ah e.v+1))=ah d.v by omega]at this
theorem M9(h:WF n ah N)(hl:jY n ah)(ho:Ord n ah ord)(hi:Interp N S)(hR:∀r,R r->live N r):∀l,l<=n->∀g,fs ord (Fs S R) l g↔∃r,A N ah n R l r/\g=S r
 |0,_,g=>xcT
 |l+1,Bb,g=>by
  obtain⟨v1,v2⟩:=ho.aZ l Bb;have ih:=M9 h hl ho hi hR l zO;constructor
  ·rintro⟨f,hf,b,rfl⟩;obtain⟨r,ha,rfl⟩:=(ih f).1 hf;obtain⟨hlv,hle⟩:=sN h hR l r ha;by_cases e:dep n ah N r=l
   ·rcases hlv with hc|⟨d,hd⟩
    ·rw[aU (h.const hc)]at e;omega
    rw[aq hd]at e;have hv:d.v=ord.getD l 0:=hl.inj _ _ (h.var hd) v1 zO;refine⟨if b then d.hi else d.lo,.inr ⟨r,d,ha,hd,e,by cases b<;>simp⟩,?_⟩
    funext x
    rw[<-hv];exact h.child hl hi hd x b
   refine⟨r,.inl ⟨ha,e⟩,?_⟩
   funext x
   exact h.bN hl hi hlv v1 zO x b
  rintro⟨r,ha,rfl⟩;rcases ha with⟨h1,h2⟩|⟨p,d,h1,h2,h3,h4⟩
  ·obtain⟨hlv,hle⟩:=sN h hR l r h1;refine⟨S r,(ih _).2 ⟨r,h1,rfl⟩,false,?_⟩
   funext x
   exact(h.bN hl hi hlv v1 zO x false).symm
  have hv:d.v=ord.getD l 0:=hl.inj _ _ (h.var h2) v1 zO;rcases h4 with rfl|rfl
  ·refine⟨S p,(ih _).2 ⟨p,h1,rfl⟩,false,?_⟩
   funext x
   rw[<-hv];exact(h.child hl hi h2 x false).symm
  refine⟨S p,(ih _).2 ⟨p,h1,rfl⟩,true,?_⟩
  funext x
  rw[<-hv];exact(h.child hl hi h2 x true).symm
theorem nJ(h:WF n ah N)(hl:jY n ah)(ho:Ord n ah ord)(hi:Interp N S)(hR:∀r,R r->live N r)(hr:Reach N R)(g:Fn):aG n ord (Fs S R) g↔∃r d,N r=some d/\g=S r:=by
 constructor
 ·rintro⟨l,Bb,hf,x,hx⟩;obtain⟨v1,v2⟩:=ho.aZ l Bb;obtain⟨r,ha,rfl⟩:=(M9 h hl ho hi hR l zO g).1 hf;obtain⟨hlv,hle⟩:=sN h hR l r ha;by_cases e:dep n ah N r=l
  ·rcases hlv with hc|⟨d,hd⟩
   ·rw[aU (h.const hc)]at e;omega
   exact⟨r,d,hd,rfl⟩
  exact absurd (by rw[h.bN hl hi hlv v1 zO,h.bN hl hi hlv v1 zO]) hx
 rintro⟨r,d,hd,rfl⟩;have hv:=h.var hd;have hlt:=hl.lt _ hv;refine⟨ah d.v,hlt,(M9 h hl ho hi hR _ zO _).2 ⟨r,Xz h hr _ r d hd (xaj _),rfl⟩,?_⟩;rw[ho.of hl hv];refine xaK λhno=>h.ne hd (h.same hl hi (h.lo hd).1 (h.hi hd).1 λx=>?_);have c1:=h.child hl hi hd x false;have c2:=h.child hl hi hd x true;simp only[xaN,xa1,xa6]at c1 c2;rw[<-c1,<-c2];exact xaK λhne=>hno ⟨x,hne⟩
def o7(P:Fn->Prop)(k:Nat):Prop:=∃l:List Fn,l.Nodup/\l.length=k/\∀g,P g↔g∈l
theorem o7.congr{P Q:Fn->Prop}{k:Nat}(h:o7 P k)(e:∀g,P g↔Q g):o7 Q k:=let ⟨l,h1,h2,h3⟩:=h;⟨l,h1,h2,λg=>(e g).symm.trans (h3 g)⟩
theorem cv{α:Type}:∀{l l':List α},l.Nodup->(∀x∈l,x∈l')->l.length<=l'.length
 | [],l',_,_=>xaO _
 |x::l,l',hn,hs=>by
  obtain⟨h1,h2⟩:=xaV.1 hn;obtain⟨a,b,rfl⟩:=xdc (hs x zI);have:=cv (l':=a++b) h2 λy hy=>by
   have:=hs y (by simp[hy]);rcases xan.1 this with h|h
   ·exact xad _ h
   rcases xak.1 h with rfl|h
   ·exact absurd hy h1
   exact xac _ h
  simp at this⊢;omega
theorem o7.le{P Q:Fn->Prop}{k k':Nat}(h:o7 P k)(h':o7 Q k')(e:∀g,P g->Q g):k<=k':=by
 obtain⟨l,h1,h2,h3⟩:=h;obtain⟨l',sq,oM,yQ⟩:=h';rw[<-h2,<-oM];exact cv h1 λx hx=>(yQ x).1 (e x ((h3 x).2 hx))
theorem o7.uniq{P:Fn->Prop}{k k':Nat}(h:o7 P k)(h':o7 P k'):k=k':=xd1 (h.le h' λ_=>id) (h'.le h λ_=>id)
theorem o7.none:o7 (λ_=>False) 0:=⟨[],by simp,rfl,by simp⟩
theorem o7.or{P Q:Fn->Prop}{k k':Nat}(h:o7 P k)(h':o7 Q k')(e:∀g,P g->¬Q g):o7 (λg=>P g\/Q g) (k+k'):=by
 obtain⟨l,h1,h2,h3⟩:=h;obtain⟨l',sq,oM,yQ⟩:=h';refine⟨l++l',xa4.2 ⟨h1,sq,λa ha b hb e'=>?_⟩,by rw[xaf,h2,oM],λg=>by rw[xan,<-h3,<-yQ]⟩;subst e';exact e a ((h3 a).2 ha) ((yQ a).2 hb)
theorem y5(h:WF n ah N)(hl:jY n ah)(hi:Interp N S){dom:zL}(hd:dom.Nodup)(hm:∀r,r∈dom↔∃d,N r=some d):o7 (λg=>∃r d,N r=some d/\g=S r) dom.length:=by
 refine⟨dom.map S,?_,by simp,λg=>?_⟩
 ·refine xcc.2 (hd.imp_of_mem λ{a b} ha hb hne heq=>hne ?_);exact h.same hl hi (.inr ((hm a).1 ha)) (.inr ((hm b).1 hb)) λx=>by rw[heq]
 rw[xao];constructor
 ·rintro⟨r,d,h1,rfl⟩;exact⟨r,(hm r).2 ⟨d,h1⟩,rfl⟩
 rintro⟨r,h1,rfl⟩;obtain⟨d,h2⟩:=(hm r).1 h1;exact⟨r,d,h2,rfl⟩
end aA
namespace aA
open an
def up{α:Type}(N:Nat->α)(r:Nat)(o:α):Nat->α:=λs=>if s=r then o else N s
@[simp] theorem aP{α:Type}{N:Nat->α}{r:Nat}{o:α}:up N r o r=o:=xae rfl
theorem aS{α:Type}{N:Nat->α}{r s:Nat}{o:α}(h:s≠r):up N r o s=N s:=xab h
def qk(T:Nd->Option Nat)(d:Nd)(o:Option Nat):Nd->Option Nat:=λe=>if e=d then o else T e
@[simp] theorem jN{T:Nd->Option Nat}{d:Nd}{o:Option Nat}:qk T d o d=o:=xae rfl
theorem pG{T:Nd->Option Nat}{d e:Nd}{o:Option Nat}(h:e≠d):qk T d o e=T e:=xab h
def e1:Option Nd->Nat->Nat
 |none,_=>0
 |some d,r=>(if d.lo=r then 1 else 0)+(if d.hi=r then 1 else 0)
theorem ew(d:Nd)(r:Nat):e1 (some d) r=(if d.lo=r then 1 else 0)+(if d.hi=r then 1 else 0):=rfl
def dx(N:eB)(r:Nat):Nat->Nat
 |0=>0
 |k+1=>dx N r k+e1 (N k) r
def nt(N:eB):Nat->Nat
 |0=>0
 |k+1=>nt N k+(if(N k).isSome then 1 else 0)
theorem yW{N:eB}{s r:Nat}{o:Option Nd}:∀{k},(s<k->dx (up N s o) r k+e1 (N s) r=dx N r k+e1 o r)/\(k<=s->dx (up N s o) r k=dx N r k)
 |0=>⟨λh=>by omega,λ_=>rfl⟩
 |k+1=>by
  obtain⟨i1,i2⟩:=yW (N:=N) (s:=s) (r:=r) (o:=o) (k:=k);refine⟨λh=>?_,λh=>?_⟩
  ·rw[dx,dx];by_cases e:s=k
   ·subst e;rw[aP,i2 (xaj _)];omega
   have:=i1 zO;rw[aS (λh=>e h.symm)];omega
  rw[dx,dx,i2 zO,aS zO]
theorem vZ{N:eB}{s r k:Nat}{o:Option Nd}(h:s<k):dx (up N s o) r k+e1 (N s) r=dx N r k+e1 o r:=yW.1 h
theorem ru{N:eB}{s:Nat}{o:Option Nd}:∀{k},(s<k->nt (up N s o) k+(if(N s).isSome then 1 else 0)=nt N k+(if o.isSome then 1 else 0))/\(k<=s->nt (up N s o) k=nt N k)
 |0=>⟨λh=>by omega,λ_=>rfl⟩
 |k+1=>by
  obtain⟨i1,i2⟩:=ru (N:=N) (s:=s) (o:=o) (k:=k);refine⟨λh=>?_,λh=>?_⟩
  ·rw[nt,nt];by_cases e:s=k
   ·subst e;rw[aP,i2 (xaj _)];omega
   have:=i1 zO;rw[aS (λh=>e h.symm)];omega
  rw[nt,nt,i2 zO,aS zO]
theorem jV{N:eB}{r:Nat}:∀{k},dx N r k=0->∀s,s<k->∀d,N s=some d->d.lo≠r/\d.hi≠r
 |0,_,s,hs,_,_=>by omega
 |k+1,h,s,hs,d,hd=>by
  rw[dx]at h;by_cases e:s=k
  ·subst e;rw[hd,ew]at h;constructor
   ·intro h1;rw[xae h1]at h;omega
   intro h1;rw[xae h1]at h;omega
  exact jV (k:=k) zO s zO d hd
theorem sC{N:eB}{r:Nat}:∀{k},0<dx N r k->∃s d,s<k/\N s=some d/\(d.lo=r\/d.hi=r)
 |0,h=>by simp[dx]at h
 |k+1,h=>by
  rw[dx]at h;by_cases hk:0<dx N r k
  ·obtain⟨s,d,h1,h2,h3⟩:=sC hk;exact⟨s,d,by omega,h2,h3⟩
  cases hd:N k with
  |none=>rw[hd]at h;simp[e1]at h;omega
  |some d=>
   refine⟨k,d,by omega,hd,?_⟩;rw[hd,ew]at h;by_cases h1:d.lo=r
   ·exact .inl h1
   by_cases h2:d.hi=r
   ·exact .inr h2
   rw[xab h1,xab h2]at h;omega
theorem Dq{N:eB}{r:Nat}:∀k,dx N r k<=2*k
 |0=>xaj _
 |k+1=>by
  have:=Dq (N:=N) (r:=r) k;rw[dx];have:e1 (N k) r<=2:=by
   cases N k with
   |none=>simp[e1]
   |some d=>rw[ew];split<;>split<;>omega
  omega
theorem DB(N:eB):∀k,((List.range k).filter λr=>(N r).isSome).length=nt N k
 |0=>rfl
 |k+1=>by
  rw[xcl,xb4,xaf,DB N k,nt];congr 1;cases h:N k<;>simp[h]
structure Kd where
 n:Nat
 cap:Nat
 used:Nat
 N:eB
 T:Nd->Option Nat
 us:zL
 ho:zL
def Kd.hold(K:Kd)(r:Nat):Nat:=K.ho.getD r 0
def Kd.use(K:Kd)(r:Nat):Nat:=K.us.getD r 0
structure jM(K:Kd)(S:Nat->Fn)(E:Nat->Prop)(P:Nat->Nat):Prop where
 two:∀{r d},K.N r=some d->2<=r/\r<K.cap
 var:∀{r d},K.N r=some d->d.v<K.n
 ne:∀{r d},K.N r=some d->d.lo≠d.hi
 lo:∀{r d},K.N r=some d->live K.N d.lo
 hi:∀{r d},K.N r=some d->live K.N d.hi
 int:Interp K.N S
 j5:∀d r,K.T d=some r↔K.N r=some d/\¬E r
 use:∀{r d},K.N r=some d->K.use r=dx K.N r K.cap+(if K.hold r=0 then 0 else 1)+P r
 len:K.us.length=K.ho.length
 fit:∀{r d},K.N r=some d->r<K.us.length
 held:∀r,K.hold r≠0->∃d,K.N r=some d
 mx:∀r,K.hold r<=65535
 room:K.used=2+nt K.N K.cap
 cap:K.used<=K.cap/\K.cap<=1048576
variable {K:Kd} {S:Nat->Fn} {E:Nat->Prop} {P:Nat->Nat}
theorem kE{N:eB}{r s:Nat}{d:Nd}(h:live N s):live (up N r (some d)) s:=by
 rcases h with h|⟨e,h⟩
 ·exact .inl h
 by_cases e2:s=r
 ·subst e2;exact .inr ⟨d,aP⟩
 exact .inr ⟨e,by rw[aS e2];exact h⟩
theorem yz{N:eB}{r s:Nat}(h:live N s)(hne:s≠r):live (up N r none) s:=by
 rcases h with h|⟨e,h⟩
 ·exact .inl h
 exact .inr ⟨e,by rw[aS hne];exact h⟩
def Pos(K:Kd):Prop:=∀r d,K.N r=some d->0<K.use r
theorem jM.less(h:jM K S E P){r:Nat}{dB:zL}(hP:0<P r)(hl:dB.length=K.us.length)(h1:dB.getD r 0+1=K.use r)(h2:∀s,s≠r->dB.getD s 0=K.use s):
  jM {K with us:=dB} S E (up P r (P r-1)) where
 two:=h.two
 var:=h.var
 ne:=h.ne
 lo:=h.lo
 hi:=h.hi
 int:=h.int
 j5:=h.j5
 use:=λ{s d} hd=>by
  have:=h.use hd;show dB.getD s 0=dx K.N s K.cap+(if K.hold s=0 then 0 else 1)+up P r (P r-1) s;by_cases e:s=r
  ·subst e;rw[aP];omega
  rw[h2 s e,aS e];exact this
 len:=by show dB.length=_;rw[hl];exact h.len
 fit:=λ{s d} hd=>by show s<dB.length;rw[hl];exact h.fit hd
 held:=h.held
 mx:=h.mx
 room:=h.room
 cap:=h.cap
theorem jM.free(h:jM K S E P){r:Nat}{d:Nd}(hd:K.N r=some d)(hE:¬E r)(h0:K.use r=0):
  jM {K with N:=up K.N r none,T:=qk K.T d none,used:=K.used-1} S E (λs=>P s+e1 (some d) s) where
 two:=λ{s e} hs=>by
  have hs':up K.N r none s=some e:=hs;by_cases e2:s=r
  ·subst e2;rw[aP]at hs';cases hs'
  rw[aS e2]at hs';exact h.two hs'
 var:=λ{s e} hs=>by
  have hs':up K.N r none s=some e:=hs;by_cases e2:s=r
  ·subst e2;rw[aP]at hs';cases hs'
  rw[aS e2]at hs';exact h.var hs'
 ne:=λ{s e} hs=>by
  have hs':up K.N r none s=some e:=hs;by_cases e2:s=r
  ·subst e2;rw[aP]at hs';cases hs'
  rw[aS e2]at hs';exact h.ne hs'
 lo:=λ{s e} hs=>by
  have hs':up K.N r none s=some e:=hs;by_cases e2:s=r
  ·subst e2;rw[aP]at hs';cases hs'
  rw[aS e2]at hs';have hu:=h.use hd;exact yz (h.lo hs') (jV zO s (h.two hs').2 e hs').1
 hi:=λ{s e} hs=>by
  have hs':up K.N r none s=some e:=hs;by_cases e2:s=r
  ·subst e2;rw[aP]at hs';cases hs'
  rw[aS e2]at hs';have hu:=h.use hd;exact yz (h.hi hs') (jV zO s (h.two hs').2 e hs').2
 int:=⟨h.int.zero,h.int.one,λ{s e} hs x=>by
  have hs':up K.N r none s=some e:=hs;by_cases e2:s=r
  ·subst e2;rw[aP]at hs';cases hs'
  rw[aS e2]at hs';exact h.int.node hs' x⟩
 j5:=λe s=>by
  show qk K.T d none e=some s↔up K.N r none s=some e/\_;by_cases e2:e=d
  ·subst e2;rw[jN];constructor
   ·intro h;cases h
   rintro⟨h1,h2⟩;by_cases e3:s=r
   ·subst e3;rw[aP]at h1;cases h1
   rw[aS e3]at h1;have a:=(h.j5 e s).2 ⟨h1,h2⟩;have b:=(h.j5 e r).2 ⟨hd,hE⟩;rw[a]at b;cases b;exact absurd rfl e3
  rw[pG e2,h.j5];by_cases e3:s=r
  ·subst e3;rw[aP];constructor
   ·rintro⟨h1,_⟩;rw[hd]at h1;cases h1;exact absurd rfl e2
   rintro⟨h1,_⟩;cases h1
  rw[aS e3]
 use:=λ{s e} hs=>by
  have hs':up K.N r none s=some e:=hs;by_cases e2:s=r
  ·subst e2;rw[aP]at hs';cases hs'
  rw[aS e2]at hs';have hu:=h.use hs';have he:=vZ (N:=K.N) (s:=r) (r:=s) (k:=K.cap) (o:=none) (h.two hd).2;show K.use s=dx (up K.N r none) s K.cap+(if K.hold s=0 then 0 else 1)+(P s+e1 (some d) s);rw[hd]at he;have:e1 none s=0:=rfl;omega
 len:=h.len
 fit:=λ{s e} hs=>by
  have hs':up K.N r none s=some e:=hs;by_cases e2:s=r
  ·subst e2;rw[aP]at hs';cases hs'
  rw[aS e2]at hs';exact h.fit hs'
 held:=λs hs=>by
  obtain⟨e,he⟩:=h.held s hs;have hne:s≠r:=λe2=>by
   subst e2;have hu:=h.use hd;have hs':K.hold s≠0:=hs;rw[xab hs']at hu;omega
  exact⟨e,by show up K.N r none s=_;rw[aS hne];exact he⟩
 mx:=h.mx
 room:=by
  have:=(ru (N:=K.N) (s:=r) (o:=none) (k:=K.cap)).1 (h.two hd).2;have hr:=h.room;rw[hd]at this;show K.used-1=2+nt (up K.N r none) K.cap;simp at this;omega
 cap:=⟨by have:=h.cap.1;show K.used-1<=K.cap;omega,h.cap.2⟩
theorem jM.more(h:jM K S E P){r:Nat}{dB:zL}(hl:dB.length=K.us.length)(h1:dB.getD r 0=K.use r+1)(h2:∀s,s≠r->dB.getD s 0=K.use s):
  jM {K with us:=dB} S E (up P r (P r+1)) where
 two:=h.two
 var:=h.var
 ne:=h.ne
 lo:=h.lo
 hi:=h.hi
 int:=h.int
 j5:=h.j5
 use:=λ{s d} hd=>by
  have:=h.use hd;show dB.getD s 0=dx K.N s K.cap+(if K.hold s=0 then 0 else 1)+up P r (P r+1) s;by_cases e:s=r
  ·subst e;rw[aP];omega
  rw[h2 s e,aS e];exact this
 len:=by show dB.length=_;rw[hl];exact h.len
 fit:=λ{s d} hd=>by show s<dB.length;rw[hl];exact h.fit hd
 held:=h.held
 mx:=h.mx
 room:=h.room
 cap:=h.cap
end aA
namespace aA
open an
variable {K:Kd} {S:Nat->Fn} {E:Nat->Prop} {P:Nat->Nat}
def ite(S:Nat->Fn)(d:Nd):Fn:=λx=>if x.testBit d.v then S d.hi x else S d.lo x
theorem gf{N:eB}{r s:Nat}(h:live N s)(h2:2<=r)(hr:N r=none):s≠r:=λe=>by
 subst e;rcases h with h|⟨d,h⟩
 ·omega
 rw[hr]at h;cases h
theorem jM.lay(h:jM K S E P){r:Nat}{d:Nd}{dB cC:zL}(hr:K.N r=none)(h2:2<=r/\r<K.cap)(hv:d.v<K.n)(hne:d.lo≠d.hi)(hlo:live K.N d.lo)(hhi:live K.N d.hi)(hT:K.T d=none)(hE:¬E r)
 (hP:P r=0)(hro:K.used<K.cap)(hl:dB.length=cC.length)(hf:r<dB.length/\K.us.length<=dB.length)(u0:dB.getD r 0=0)(u1:∀s,2<=s->s≠r->dB.getD s 0=K.use s+e1 (some d) s)(o0:cC.getD r 0=0)(o1:∀s,s≠r->cC.getD s 0=K.hold s):
  jM {K with N:=up K.N r (some d),T:=qk K.T d (some r),used:=K.used+1,us:=dB,ho:=cC} (up S r (ite S d)) E P where
 two:=λ{s e} hs=>by
  have hs':up K.N r (some d) s=some e:=hs;by_cases e2:s=r
  ·subst e2;exact h2
  rw[aS e2]at hs';exact h.two hs'
 var:=λ{s e} hs=>by
  have hs':up K.N r (some d) s=some e:=hs;by_cases e2:s=r
  ·subst e2;rw[aP]at hs';cases hs';exact hv
  rw[aS e2]at hs';exact h.var hs'
 ne:=λ{s e} hs=>by
  have hs':up K.N r (some d) s=some e:=hs;by_cases e2:s=r
  ·subst e2;rw[aP]at hs';cases hs';exact hne
  rw[aS e2]at hs';exact h.ne hs'
 lo:=λ{s e} hs=>by
  have hs':up K.N r (some d) s=some e:=hs;by_cases e2:s=r
  ·subst e2;rw[aP]at hs';cases hs';exact kE hlo
  rw[aS e2]at hs';exact kE (h.lo hs')
 hi:=λ{s e} hs=>by
  have hs':up K.N r (some d) s=some e:=hs;by_cases e2:s=r
  ·subst e2;rw[aP]at hs';cases hs';exact kE hhi
  rw[aS e2]at hs';exact kE (h.hi hs')
 int:=⟨λx=>by rw[aS zO];exact h.int.zero x,λx=>by rw[aS zO];exact h.int.one x,λ{s e} hs x=>by
  have hs':up K.N r (some d) s=some e:=hs;by_cases e2:s=r
  ·subst e2;rw[aP]at hs';cases hs';rw[aP,aS (gf hlo h2.1 hr),aS (gf hhi h2.1 hr)];rfl
  rw[aS e2]at hs';rw[aS e2,aS (gf (h.lo hs') h2.1 hr),aS (gf (h.hi hs') h2.1 hr)];exact h.int.node hs' x⟩
 j5:=λe s=>by
  show qk K.T d (some r) e=some s↔up K.N r (some d) s=some e/\_;by_cases e2:e=d
  ·subst e2;rw[jN];constructor
   ·intro h;cases h;exact⟨aP,hE⟩
   rintro⟨h1,oM⟩;by_cases e3:s=r
   ·rw[e3]
   rw[aS e3]at h1;have a:=(h.j5 e s).2 ⟨h1,oM⟩;rw[hT]at a;cases a
  rw[pG e2,h.j5];by_cases e3:s=r
  ·subst e3;rw[aP,hr];constructor
   ·rintro⟨h1,_⟩;cases h1
   rintro⟨h1,_⟩;cases h1;exact absurd rfl e2
  rw[aS e3]
 use:=λ{s e} hs=>by
  have hs':up K.N r (some d) s=some e:=hs;have he:=vZ (N:=K.N) (s:=r) (r:=s) (k:=K.cap) (o:=some d) h2.2;rw[hr]at he;have h0:e1 none s=0:=rfl;show dB.getD s 0=dx (up K.N r (some d)) s K.cap+(if cC.getD s 0=0 then 0 else 1)+P s;by_cases e2:s=r
  ·subst e2;have hz:dx K.N s K.cap=0:=by
    refine Nat.eq_zero_of_not_pos λhp=>?_;obtain⟨t,e',_,ht,hc⟩:=sC hp;have CV:=gf (h.lo ht) h2.1 hr;have qo:=gf (h.hi ht) h2.1 hr;rcases hc with hc|hc
    ·exact CV hc
    exact qo hc
   have hd0:e1 (some d) s=0:=by
    rw[ew,xab (gf hlo h2.1 hr),xab (gf hhi h2.1 hr)]
   rw[u0,o0,xae rfl];omega
  rw[aS e2]at hs';have hu:=h.use hs';have h3:cC.getD s 0=K.hold s:=o1 s e2;rw[u1 s (h.two hs').1 e2,h3];omega
 len:=hl
 fit:=λ{s e} hs=>by
  have hs':up K.N r (some d) s=some e:=hs;show s<dB.length;by_cases e2:s=r
  ·subst e2;exact hf.1
  rw[aS e2]at hs';exact xaQ (h.fit hs') hf.2
 held:=λs hs=>by
  have hs':cC.getD s 0≠0:=hs;by_cases e2:s=r
  ·subst e2;exact⟨d,aP⟩
  rw[o1 s e2]at hs';obtain⟨e,he⟩:=h.held s hs';exact⟨e,by show up K.N r (some d) s=_;rw[aS e2];exact he⟩
 mx:=λs=>by
  show cC.getD s 0<=65535;by_cases e2:s=r
  ·subst e2;rw[o0];decide
  rw[o1 s e2];exact h.mx s
 room:=by
  have:=(ru (N:=K.N) (s:=r) (o:=some d) (k:=K.cap)).1 h2.2;have hr':=h.room;rw[hr]at this;show K.used+1=2+nt (up K.N r (some d)) K.cap;simp at this;omega
 cap:=⟨by show K.used+1<=K.cap;omega,h.cap.2⟩
theorem jM.aff(h:jM K S E P){r:Nat}{d:Nd}(hd:K.N r=some d)(hE:¬E r):jM {K with T:=qk K.T d none} S (λs=>E s\/s=r) P where
 two:=h.two
 var:=h.var
 ne:=h.ne
 lo:=h.lo
 hi:=h.hi
 int:=h.int
 j5:=λe s=>by
  show qk K.T d none e=some s↔_;by_cases e2:e=d
  ·subst e2;rw[jN];constructor
   ·intro h;cases h
   rintro⟨h1,h2⟩;have a:=(h.j5 e s).2 ⟨h1,λx=>h2 (.inl x)⟩;have b:=(h.j5 e r).2 ⟨hd,hE⟩;rw[a]at b;cases b;exact absurd (.inr rfl) h2
  rw[pG e2,h.j5];constructor
  ·rintro⟨h1,h2⟩;refine⟨h1,λx=>?_⟩;rcases x with x|rfl
   ·exact h2 x
   have sq:K.N s=some e:=h1;rw[hd]at sq;cases sq;exact e2 rfl
  rintro⟨h1,h2⟩;exact⟨h1,λx=>h2 (.inl x)⟩
 use:=h.use
 len:=h.len
 fit:=h.fit
 held:=h.held
 mx:=h.mx
 room:=h.room
 cap:=h.cap
theorem jM.zA(h:jM K S E P){r:Nat}{d d':Nd}{P':Nat->Nat}(hd:K.N r=some d)(hE:E r)(hv:d'.v<K.n)(hne:d'.lo≠d'.hi)(hlo:live K.N d'.lo)(hhi:live K.N d'.hi)(hT:K.T d'=none)(hS:∀x,S r x=ite S d' x)
 (hP:∀s,2<=s->P' s+e1 (some d') s=P s+e1 (some d) s):jM {K with N:=up K.N r (some d'),T:=qk K.T d' (some r)} S (λs=>E s/\s≠r) P' where
 two:=λ{s e} hs=>by
  have hs':up K.N r (some d') s=some e:=hs;by_cases e2:s=r
  ·subst e2;exact h.two hd
  rw[aS e2]at hs';exact h.two hs'
 var:=λ{s e} hs=>by
  have hs':up K.N r (some d') s=some e:=hs;by_cases e2:s=r
  ·subst e2;rw[aP]at hs';cases hs';exact hv
  rw[aS e2]at hs';exact h.var hs'
 ne:=λ{s e} hs=>by
  have hs':up K.N r (some d') s=some e:=hs;by_cases e2:s=r
  ·subst e2;rw[aP]at hs';cases hs';exact hne
  rw[aS e2]at hs';exact h.ne hs'
 lo:=λ{s e} hs=>by
  have hs':up K.N r (some d') s=some e:=hs;by_cases e2:s=r
  ·subst e2;rw[aP]at hs';cases hs';exact kE hlo
  rw[aS e2]at hs';exact kE (h.lo hs')
 hi:=λ{s e} hs=>by
  have hs':up K.N r (some d') s=some e:=hs;by_cases e2:s=r
  ·subst e2;rw[aP]at hs';cases hs';exact kE hhi
  rw[aS e2]at hs';exact kE (h.hi hs')
 int:=⟨h.int.zero,h.int.one,λ{s e} hs x=>by
  have hs':up K.N r (some d') s=some e:=hs;by_cases e2:s=r
  ·subst e2;rw[aP]at hs';cases hs';exact hS x
  rw[aS e2]at hs';exact h.int.node hs' x⟩
 j5:=λe s=>by
  show qk K.T d' (some r) e=some s↔up K.N r (some d') s=some e/\¬(E s/\s≠r);by_cases e2:e=d'
  ·subst e2;rw[jN];constructor
   ·intro h;cases h;exact⟨aP,λx=>x.2 rfl⟩
   rintro⟨h1,oM⟩;by_cases e3:s=r
   ·rw[e3]
   rw[aS e3]at h1;have a:=(h.j5 e s).2 ⟨h1,λx=>oM ⟨x,e3⟩⟩;rw[hT]at a;cases a
  rw[pG e2,h.j5];by_cases e3:s=r
  ·subst e3;rw[aP];constructor
   ·rintro⟨_,h1⟩;exact absurd hE h1
   rintro⟨h1,_⟩;cases h1;exact absurd rfl e2
  rw[aS e3];constructor
  ·rintro⟨h1,h2⟩;exact⟨h1,λx=>h2 x.1⟩
  rintro⟨h1,h2⟩;exact⟨h1,λx=>h2 ⟨x,e3⟩⟩
 use:=λ{s e} hs=>by
  have hs':up K.N r (some d') s=some e:=hs;have he:=vZ (N:=K.N) (s:=r) (r:=s) (k:=K.cap) (o:=some d') (h.two hd).2;rw[hd]at he;show K.use s=dx (up K.N r (some d')) s K.cap+(if K.hold s=0 then 0 else 1)+P' s;by_cases e2:s=r
  ·subst e2;have hu:=h.use hd;have:=hP s (h.two hd).1;omega
  rw[aS e2]at hs';have hu:=h.use hs';have:=hP s (h.two hs').1;omega
 len:=h.len
 fit:=λ{s e} hs=>by
  have hs':up K.N r (some d') s=some e:=hs;by_cases e2:s=r
  ·subst e2;exact h.fit hd
  rw[aS e2]at hs';exact h.fit hs'
 held:=λs hs=>by
  obtain⟨e,he⟩:=h.held s hs;by_cases e2:s=r
  ·subst e2;exact⟨d',aP⟩
  exact⟨e,by show up K.N r (some d') s=_;rw[aS e2];exact he⟩
 mx:=h.mx
 room:=by
  have:=(ru (N:=K.N) (s:=r) (o:=some d') (k:=K.cap)).1 (h.two hd).2;have hr':=h.room;rw[hd]at this;show K.used=2+nt (up K.N r (some d')) K.cap;simp at this;omega
 cap:=h.cap
theorem jM.keep(h:jM K S E P){r:Nat}{dB cC:zL}(hr:∃d,K.N r=some d)(hm:K.hold r<65535)(hl:dB.length=K.us.length/\cC.length=K.ho.length)(o0:cC.getD r 0=K.hold r+1)(o1:∀s,s≠r->cC.getD s 0=K.hold s)
 (u0:dB.getD r 0=K.use r+(if K.hold r=0 then 1 else 0))(u1:∀s,s≠r->dB.getD s 0=K.use s):jM {K with us:=dB,ho:=cC} S E P where
 two:=h.two
 var:=h.var
 ne:=h.ne
 lo:=h.lo
 hi:=h.hi
 int:=h.int
 j5:=h.j5
 use:=λ{s e} hs=>by
  have hu:=h.use hs;show dB.getD s 0=dx K.N s K.cap+(if cC.getD s 0=0 then 0 else 1)+P s;by_cases e2:s=r
  ·subst e2;rw[u0,o0,xab (by omega:¬K.hold s+1=0)];by_cases e3:K.hold s=0
   ·rw[xae e3]at hu⊢;omega
   rw[xab e3]at hu⊢;omega
  rw[u1 s e2,o1 s e2];exact hu
 len:=by show dB.length=cC.length;rw[hl.1,hl.2];exact h.len
 fit:=λ{s e} hs=>by show s<dB.length;rw[hl.1];exact h.fit hs
 held:=λs hs=>by
  have hs':cC.getD s 0≠0:=hs;by_cases e2:s=r
  ·subst e2;exact hr
  rw[o1 s e2]at hs';exact h.held s hs'
 mx:=λs=>by
  show cC.getD s 0<=65535;by_cases e2:s=r
  ·subst e2;rw[o0];omega
  rw[o1 s e2];exact h.mx s
 room:=h.room
 cap:=h.cap
theorem jM.drop(h:jM K S E P){r:Nat}{cC:zL}(hr:0<K.hold r)(hl:cC.length=K.ho.length)(o0:cC.getD r 0+1=K.hold r)(o1:∀s,s≠r->cC.getD s 0=K.hold s):
  jM {K with ho:=cC} S E (if K.hold r=1 then up P r (P r+1)else P) where
 two:=h.two
 var:=h.var
 ne:=h.ne
 lo:=h.lo
 hi:=h.hi
 int:=h.int
 j5:=h.j5
 use:=λ{s e} hs=>by
  have hu:=h.use hs;show K.use s=dx K.N s K.cap+(if cC.getD s 0=0 then 0 else 1)+(if K.hold r=1 then up P r (P r+1)else P) s;by_cases e2:s=r
  ·subst e2;rw[xab (by omega:¬K.hold s=0)]at hu;by_cases e3:K.hold s=1
   ·rw[xae e3,aP,xae zO];omega
   rw[xab e3,xab zO];omega
  rw[o1 s e2];by_cases e3:K.hold r=1
  ·rw[xae e3,aS e2];exact hu
  rw[xab e3];exact hu
 len:=by show K.us.length=cC.length;rw[hl];exact h.len
 fit:=h.fit
 held:=λs hs=>by
  have hs':cC.getD s 0≠0:=hs;by_cases e2:s=r
  ·subst e2;exact h.held s zO
  rw[o1 s e2]at hs';exact h.held s hs'
 mx:=λs=>by
  show cC.getD s 0<=65535;have:=h.mx r;by_cases e2:s=r
  ·subst e2;omega
  rw[o1 s e2];exact h.mx s
 room:=h.room
 cap:=h.cap
theorem jM.congr(h:jM K S E P){E':Nat->Prop}{P':Nat->Nat}(hE:∀s,E s↔E' s)(hP:∀s,2<=s->P s=P' s):jM K S E' P' where
 two:=h.two
 var:=h.var
 ne:=h.ne
 lo:=h.lo
 hi:=h.hi
 int:=h.int
 j5:=λd r=>by rw[h.j5,hE]
 use:=λ{s e} hs=>by rw[<-hP s (h.two hs).1];exact h.use hs
 len:=h.len
 fit:=h.fit
 held:=h.held
 mx:=h.mx
 room:=h.room
 cap:=h.cap
def iO:Nat->Prop:=λ_=>False
def zero':Nat->Nat:=λ_=>0
structure Ok(K:Kd)(S:Nat->Fn)(ah:Nat->Nat):Prop where
 mid:jM K S iO zero'
 pos:Pos K
 lv:jY K.n ah
 wf:WF K.n ah K.N
theorem jM.uq(h:jM K S iO P){r r':Nat}{d:Nd}(h1:K.N r=some d)(h2:K.N r'=some d):r=r':=by
 have a:=(h.j5 d r).2 ⟨h1,λx=>x⟩;have b:=(h.j5 d r').2 ⟨h2,λx=>x⟩;rw[a]at b;cases b;rfl
theorem jM.wf(h:jM K S iO P){ah:Nat->Nat}(hl:∀{r d},K.N r=some d->ah d.v<dep K.n ah K.N d.lo/\ah d.v<dep K.n ah K.N d.hi):WF K.n ah K.N:=
 ⟨λhd=>(h.two hd).1,h.var,h.ne,λhd=>⟨h.lo hd,(hl hd).1⟩,λhd=>⟨h.hi hd,(hl hd).2⟩,h.uq⟩
theorem Ok.reach{ah:Nat->Nat}(h:Ok K S ah):Reach K.N (λr=>K.hold r≠0):=λr d hd=>by
 have hu:=h.mid.use hd;have hp:=h.pos r d hd;by_cases e:K.hold r=0
 ·rw[xae e]at hu;have:zero' r=0:=rfl;obtain⟨s,e',_,h1,h2⟩:=sC (N:=K.N) (r:=r) (k:=K.cap) zO;exact .inr ⟨s,e',h1,h2⟩
 exact .inl e
theorem Ok.dom{ah:Nat->Nat}(h:Ok K S ah):∃dom:zL,dom.Nodup/\dom.length+2=K.used/\∀r,r∈dom↔∃d,K.N r=some d:=by
 refine⟨(List.range K.cap).filter λr=>(K.N r).isSome,xbj.filter _,by rw[DB,h.mid.room];omega,λr=>?_⟩;rw[xbS,xaM,xdG];exact⟨λh=>h.2,λ⟨d,hd⟩=>⟨(h.mid.two hd).2,d,hd⟩⟩
def Kd.held(K:Kd)(S:Nat->Fn):Fn->Prop:=Fs S λr=>K.hold r≠0
theorem Ok.size{ah:Nat->Nat}{ord:zL}(h:Ok K S ah)(ho:Ord K.n ah ord):o7 (aG K.n ord (K.held S)) (K.used-2):=by
 obtain⟨dom,h1,h2,h3⟩:=h.dom;have hc:=y5 h.wf h.lv h.mid.int h1 h3;rw[show dom.length=K.used-2 by omega]at hc;refine hc.congr λg=>?_;exact(nJ h.wf h.lv ho h.mid.int (λr hr=>.inr (h.mid.held r hr)) h.reach g).symm
end aA
namespace aA
open an
variable {n:Nat} {ah:Nat->Nat} {N:eB} {S:Nat->Fn} {ord:zL} {K:Kd}
def pl(N:eB)(y r:Nat):Nat:=match N r with|some e=>if e.v=y then e.lo else r|none=>r
def ph(N:eB)(y r:Nat):Nat:=match N r with|some e=>if e.v=y then e.hi else r|none=>r
theorem Uo{y r:Nat}{e:Nd}(h:N r=some e)(hv:e.v=y):pl N y r=e.lo/\ph N y r=e.hi:=by simp[pl,ph,h,hv]
theorem Up{y r:Nat}(h:∀e,N r=some e->e.v≠y):pl N y r=r/\ph N y r=r:=by
 unfold pl ph;cases hr:N r with
 |none=>exact⟨rfl,rfl⟩
 |some e=>simp[h e hr]
theorem WF.half(h:WF n ah N)(hl:jY n ah)(hi:Interp N S){y l r:Nat}(hy:y<n/\ah y=l+1)(hr:live N r)(hd:l<dep n ah N r):
  (live N (pl N y r)/\l+1<dep n ah N (pl N y r))/\(live N (ph N y r)/\l+1<dep n ah N (ph N y r))/\∀z,S r z=if z.testBit y then S (ph N y r) z else S (pl N y r) z:=by
 by_cases e:∃e,N r=some e/\e.v=y
 ·obtain⟨e,he,hv⟩:=e;obtain⟨p1,p2⟩:=Uo he hv;rw[p1,p2];have h1:=h.lo he;have h2:=h.hi he;rw[hv,hy.2]at h1 h2;exact⟨h1,h2,λz=>by rw[hi.node he,hv]⟩
 have ho:∀e',N r=some e'->e'.v≠y:=λe' h1 h2=>e ⟨e',h1,h2⟩;obtain⟨p1,p2⟩:=Up ho;rw[p1,p2];have xK:l+1<dep n ah N r:=by
  rcases hr with hr|⟨e',he⟩
  ·rw[aU (h.const hr)];have:=hl.lt y hy.1;omega
  rw[aq he]at hd⊢;have h1:=ho e' he;refine Nat.lt_of_le_of_ne hd λe2=>h1 (hl.inj _ _ (h.var he) hy.1 zO)
 exact⟨⟨hr,xK⟩,⟨hr,xK⟩,λz=>by split<;>rfl⟩
theorem WF.Vv(h:WF n ah N)(hl:jY n ah)(hi:Interp N S){y l a b:Nat}(hy:y<n/\ah y=l+1)(ha:live N a)(hb:live N b)(da:l<dep n ah N a)(db:l<dep n ah N b)
 (h1:pl N y a=pl N y b)(h2:ph N y a=ph N y b):a=b:=by
 refine h.same hl hi ha hb λz=>?_;rw[(h.half hl hi hy ha da).2.2 z,(h.half hl hi hy hb db).2.2 z,h1,h2]
structure Cx where
 r:Nat
 d:Nd
 xR:Nat
 xQ:Nat
 tu:Nat
 tt:Nat
def mV(N:eB)(x y r:Nat)(d:Nd):Prop:=N r=some d/\d.v=x/\((∃e,N d.lo=some e/\e.v=y)\/∃e,N d.hi=some e/\e.v=y)
def nZ(N:eB)(y r:Nat)(d:Nd):Cx:=⟨r,d,pl N y d.lo,ph N y d.lo,pl N y d.hi,ph N y d.hi⟩
structure LA(N:eB)(x y:Nat)(l:List Cx):Prop where
 nd:(l.map Cx.r).Nodup
 mem:∀c,c∈l↔mV N x y c.r c.d/\c=nZ N y c.r c.d
def keys(x:Nat)(c:Cx):List Nd:=[⟨x,c.xR,c.tu⟩,⟨x,c.xQ,c.tt⟩]
structure Made(K:Kd)(x:Nat)(l:List Cx)(made:List Nd):Prop where
 nd:made.Nodup
 mem:∀k,k∈made↔(∃c∈l,k∈keys x c)/\K.T k=none/\k.lo≠k.hi
structure Nb(n:Nat)(ah:Nat->Nat)(x y l:Nat):Prop where
 xn:x<n
 yn:y<n
 lx:ah x=l
 ly:ah y=l+1
variable {x y l:Nat}
theorem Nb.ne(h:Nb n ah x y l):x≠y:=λe=>by have h1:=h.lx;have h2:=h.ly;rw[e]at h1;omega
theorem Nb.yy(h:Nb n ah x y l):y<n/\ah y=l+1:=⟨h.yn,h.ly⟩
theorem lJ(h:WF n ah N)(hl:jY n ah)(hi:Interp N S)(hb:Nb n ah x y l){r:Nat}{d:Nd}(hd:N r=some d)(hx:d.v=x){k:Nd}(hk:k∈keys x (nZ N y r d)):
  k.v=x/\(live N k.lo/\l+1<dep n ah N k.lo)/\(live N k.hi/\l+1<dep n ah N k.hi):=by
 have h1:=h.lo hd;have h2:=h.hi hd;rw[hx,hb.lx]at h1 h2;have a:=h.half hl hi hb.yy h1.1 h1.2;have b:=h.half hl hi hb.yy h2.1 h2.2;simp only[keys,nZ,xak,xaS,xby]at hk;rcases hk with rfl|rfl
 ·exact⟨rfl,a.1,b.1⟩
 exact⟨rfl,a.2.1,b.2.1⟩
theorem wc(h:WF n ah N)(hl:jY n ah)(hi:Interp N S)(hb:Nb n ah x y l){r:Nat}{d:Nd}(hd:N r=some d)(hx:d.v=x)(z:Nat):
  S r z=if z.testBit y then ite S ⟨x,ph N y d.lo,ph N y d.hi⟩ z else ite S ⟨x,pl N y d.lo,pl N y d.hi⟩ z:=by
 have h1:=h.lo hd;have h2:=h.hi hd;rw[hx,hb.lx]at h1 h2;have a:=(h.half hl hi hb.yy h1.1 h1.2).2.2 z;have b:=(h.half hl hi hb.yy h2.1 h2.2).2.2 z;rw[hi.node hd,hx,a,b];unfold ite;simp only;cases z.testBit x<;>cases z.testBit y<;>rfl
theorem jy(h:WF n ah N)(hl:jY n ah)(hi:Interp N S)(hb:Nb n ah x y l){k:Nd}(hk:k.v=x)(h1:live N k.lo/\l+1<dep n ah N k.lo)(h2:live N k.hi/\l+1<dep n ah N k.hi)(z:Nat)(b:Bool):
  ite S k (aB z x b)=S (if b then k.hi else k.lo) z:=by
 unfold ite;rw[hk,aj,xae rfl];cases b
 ·simp only[xaN,xa1];exact h.bN hl hi h1.1 hb.xn (by rw[hb.lx];omega) z false
 simp only[xa6];exact h.bN hl hi h2.1 hb.xn (by rw[hb.lx];omega) z true
theorem jJ(h:WF n ah N)(hl:jY n ah)(hi:Interp N S)(hb:Nb n ah x y l){k:Nd}(hk:k.v=x)(h1:live N k.lo/\l+1<dep n ah N k.lo)(h2:live N k.hi/\l+1<dep n ah N k.hi){u:Nat}(hu:u<n)(MS:ah u<=l+1)(hne:u≠x)(z:Nat)(b:Bool):
  ite S k (aB z u b)=ite S k z:=by
 unfold ite;rw[hk,aj,xab (xa8 hne),h.bN hl hi h1.1 hu zO,h.bN hl hi h2.1 hu zO]
theorem gm(h:WF n ah N)(hl:jY n ah)(hi:Interp N S){r:Nat}{d:Nd}(hd:N r=some d):∃z,S r (aB z d.v false)≠S r (aB z d.v true):=by
 refine xaK λhno=>h.ne hd (h.same hl hi (h.lo hd).1 (h.hi hd).1 λz=>?_);have c1:=h.child hl hi hd z false;have c2:=h.child hl hi hd z true;simp only[xaN,xa1,xa6]at c1 c2;rw[<-c1,<-c2];exact xaK λhne=>hno ⟨z,hne⟩
theorem QI(h:WF n ah N)(hl:jY n ah)(hi:Interp N S)(hb:Nb n ah x y l){k:Nd}(hk:k.v=x)(hne:k.lo≠k.hi)(h1:live N k.lo/\l+1<dep n ah N k.lo)(h2:live N k.hi/\l+1<dep n ah N k.hi)
 {r:Nat}{d:Nd}(hd:N r=some d)(he:ite S k=S r):d=k:=by
 have hv:=h.var hd;have hvx:d.v=x:=by
  rcases xcJ (ah d.v) l with hlt|heq|hgt
  ·obtain⟨z,hz⟩:=gm h hl hi hd;have abp:d.v≠x:=λe=>by rw[e,hb.lx]at hlt;omega
   rw[<-he,jJ h hl hi hb hk h1 h2 hv zO abp,jJ h hl hi hb hk h1 h2 hv zO abp]at hz;exact absurd rfl hz
  ·exact hl.inj _ _ hv hb.xn (by rw[hb.lx];exact heq)
  refine absurd (h.same hl hi h1.1 h2.1 λz=>?_) hne;have c1:=jy h hl hi hb hk h1 h2 z false;have c2:=jy h hl hi hb hk h1 h2 z true;simp only[xaN,xa1,xa6]at c1 c2;have hdp:ah x<dep n ah N r:=by rw[aq hd,hb.lx];exact hgt
  rw[<-c1,<-c2,he,h.bN hl hi (.inr ⟨d,hd⟩) hb.xn hdp,h.bN hl hi (.inr ⟨d,hd⟩) hb.xn hdp]
 have c:∀(b:Bool) z,S (if b then k.hi else k.lo) z=S (if b then d.hi else d.lo) z:=λ(b:Bool) z=>by
  rw[<-jy h hl hi hb hk h1 h2 z b,he,<-hvx,h.child hl hi hd z b]
 have e1:=h.same hl hi h1.1 (h.lo hd).1 (λz=>by simpa using c false z);have e2:=h.same hl hi h2.1 (h.hi hd).1 (λz=>by simpa using c true z);cases d;cases k;simp_all
theorem U2(h:WF n ah N)(hl:jY n ah)(hi:Interp N S)(hb:Nb n ah x y l){k k':Nd}(hk:k.v=x)(hk':k'.v=x)(h1:live N k.lo/\l+1<dep n ah N k.lo)(h2:live N k.hi/\l+1<dep n ah N k.hi)
 (sq:live N k'.lo/\l+1<dep n ah N k'.lo)(oM:live N k'.hi/\l+1<dep n ah N k'.hi)(he:ite S k=ite S k'):k=k':=by
 have c:∀(b:Bool) z,S (if b then k.hi else k.lo) z=S (if b then k'.hi else k'.lo) z:=λ(b:Bool) z=>by
  rw[<-jy h hl hi hb hk h1 h2 z b,he,jy h hl hi hb hk' sq oM z b]
 have e1:=h.same hl hi h1.1 sq.1 (λz=>by simpa using c false z);have e2:=h.same hl hi h2.1 oM.1 (λz=>by simpa using c true z);cases k;cases k';simp_all
def fR(ord:zL)(l:Nat):zL:=(ord.set l (ord.getD (l+1) 0)).set (l+1) (ord.getD l 0)
theorem mB(ord:zL)(l:Nat):(fR ord l).length=ord.length:=by simp[fR]
theorem fx{i:Nat}(hl:l+1<ord.length):(fR ord l).getD i 0=if i=l then ord.getD (l+1) 0 else if i=l+1 then ord.getD l 0 else ord.getD i 0:=by
 unfold fR;rw[xar,xbo,xbo];by_cases e1:l+1=i
 ·subst e1;rw[xae rfl,xae zP,xab zO,xae rfl];rfl
 rw[xab e1];by_cases e2:l=i
 ·subst e2;rw[xae rfl,xae zO,xae rfl];rfl
 rw[xab e2,xab (λe=>e2 e.symm),xab (λe=>e1 e.symm),<-xar]
def tC(ah:Nat->Nat)(x y l:Nat):Nat->Nat:=λv=>if v=x then l+1 else if v=y then l else ah v
theorem TW(hl:jY n ah)(hb:Nb n ah x y l):jY n (tC ah x y l):=by
 have Yh:=hl.lt y hb.yn;rw[hb.ly]at Yh;have key:∀v,v<n->v≠x->v≠y->ah v≠l/\ah v≠l+1:=λv hv h1 h2=>⟨λe=>h1 (hl.inj _ _ hv hb.xn (by rw[hb.lx];exact e)),λe=>h2 (hl.inj _ _ hv hb.yn (by rw[hb.ly];exact e))⟩;refine⟨λv hv=>?_,λu v hu hv he=>?_⟩
 ·unfold tC;split
  ·exact Yh
  split
  ·omega
  exact hl.lt v hv
 unfold tC at he;by_cases u1:u=x
 ·by_cases v1:v=x
  ·rw[u1,v1]
  rw[xae u1,xab v1]at he;by_cases v2:v=y
  ·rw[xae v2]at he;omega
  rw[xab v2]at he;exact absurd he.symm (key v hv v1 v2).2
 rw[xab u1]at he;by_cases u2:u=y
 ·rw[xae u2]at he;by_cases v1:v=x
  ·rw[xae v1]at he;omega
  rw[xab v1]at he;by_cases v2:v=y
  ·rw[u2,v2]
  rw[xab v2]at he;exact absurd he.symm (key v hv v1 v2).1
 rw[xab u2]at he;by_cases v1:v=x
 ·rw[xae v1]at he;exact absurd he (key u hu u1 u2).2
 rw[xab v1]at he;by_cases v2:v=y
 ·rw[xae v2]at he;exact absurd he (key u hu u1 u2).1
 rw[xab v2]at he;exact hl.inj _ _ hu hv he
theorem Ord.nb(ho:Ord n ah ord)(hl:l+1<n):Nb n ah (ord.getD l 0) (ord.getD (l+1) 0) l:=
 ⟨(ho.aZ l zO).1,(ho.aZ (l+1) hl).1,(ho.aZ l zO).2,(ho.aZ (l+1) hl).2⟩
theorem TV(ho:Ord n ah ord)(hl:l+1<n):Ord n (tC ah (ord.getD l 0) (ord.getD (l+1) 0) l) (fR ord l):=by
 have hb:=ho.nb hl;refine⟨by rw[mB,ho.len],λi hi=>?_⟩;rw[fx (by rw[ho.len];exact hl)];unfold tC;by_cases e1:i=l
 ·subst e1;rw[xae rfl];refine⟨hb.yn,?_⟩;rw[xab (xa8 hb.ne),xae rfl]
 rw[xab e1];by_cases e2:i=l+1
 ·subst e2;rw[xae rfl];refine⟨hb.xn,?_⟩;rw[xae rfl]
 rw[xab e2];obtain⟨h1,h2⟩:=ho.aZ i hi;refine⟨h1,?_⟩;rw[xab,xab]
 ·exact h2
 ·intro e;rw[e,hb.ly]at h2;omega
 intro e;rw[e,hb.lx]at h2;omega
variable {F:Fn->Prop}
theorem FM(hl:l+1<ord.length)(hne:ord.getD l 0≠ord.getD (l+1) 0):∀m,m≠l+1->∀g,fs (fR ord l) F m g↔fs ord F m g
 |0,_,g=>xcT
 |m+1,hm,g=>by
  by_cases e:m=l+1
  ·subst e;have g1:(fR ord l).getD (l+1) 0=ord.getD l 0:=by rw[fx hl,xab zO,xae rfl]
   have g2:(fR ord l).getD l 0=ord.getD (l+1) 0:=by rw[fx hl,xae rfl]
   have ih:=FM hl hne l zO;constructor
   ·rintro⟨f,⟨f',h,b,rfl⟩,b',rfl⟩;refine⟨_,⟨f',(ih f').1 h,b',rfl⟩,b,?_⟩
    funext z
    rw[g1,g2];show f' _=f' _;rw[dj hne]
   rintro⟨f,⟨f',h,b,rfl⟩,b',rfl⟩;refine⟨_,⟨f',(ih f').2 h,b',rfl⟩,b,?_⟩
   funext z
   rw[g1,g2];show f' _=f' _;rw[dj (xa8 hne)]
  have ih:=FM hl hne m e;have hg:(fR ord l).getD m 0=ord.getD m 0:=by rw[fx hl,xab zO,xab e]
  constructor
  ·rintro⟨f,h,b,rfl⟩;exact⟨f,(ih f).1 h,b,by rw[hg]⟩
  rintro⟨f,h,b,rfl⟩;exact⟨f,(ih f).2 h,b,by rw[hg]⟩
theorem Ph(h:Ok K S ah)(ho:Ord K.n ah ord)(Bb:l+1<K.n){all:List Cx}(hc:LA K.N (ord.getD l 0) (ord.getD (l+1) 0) all){made:List Nd}(hm:Made K (ord.getD l 0) all made):
  o7 (λg=>aG K.n ord (K.held S) g\/aG K.n (fR ord l) (K.held S) g) (K.used-2+made.length):=by
 have hb:=ho.nb Bb;have hlen:l+1<ord.length:=by rw[ho.len];exact Bb
 have hw:=h.wf;have hlv:=h.lv;have hi:=h.mid.int;have hR:∀r,K.hold r≠0->live K.N r:=λr hr=>.inr (h.mid.held r hr);generalize hx:ord.getD l 0=x at*;generalize hy:ord.getD (l+1) 0=y at*;have mR:∀k∈made,k.v=x/\(live K.N k.lo/\l+1<dep K.n ah K.N k.lo)/\(live K.N k.hi/\l+1<dep K.n ah K.N k.hi):=λk hk=>by
  obtain⟨⟨c,FC,hkc⟩,_⟩:=(hm.mem k).1 hk;obtain⟨⟨hd,Rv,_⟩,e⟩:=(hc.mem c).1 FC;rw[e]at hkc;exact lJ hw hlv hi hb hd Rv hkc
 obtain⟨dom,d1,d2,d3⟩:=h.dom;have c1:=y5 hw hlv hi d1 d3;rw[show dom.length=K.used-2 by omega]at c1;have c2:o7 (λg=>∃k∈made,g=ite S k) made.length:=by
  refine⟨made.map (ite S),?_,by simp,λg=>?_⟩
  ·refine xcc.2 (hm.nd.imp_of_mem λ{a b} ha hb' hne heq=>hne ?_);obtain⟨a1,a2,a3⟩:=mR a ha;obtain⟨b1,b2,b3⟩:=mR b hb';exact U2 hw hlv hi hb a1 b1 a2 a3 b2 b3 heq
  rw[xao];constructor
  ·rintro⟨k,hk,rfl⟩;exact⟨k,hk,rfl⟩
  rintro⟨k,hk,rfl⟩;exact⟨k,hk,rfl⟩
 refine(c1.or c2 ?_).congr λg=>?_
 ·rintro g ⟨r,d,hd,rfl⟩ ⟨k,hk,he⟩;obtain⟨a1,a2,a3⟩:=mR k hk;obtain⟨_,hT,hne⟩:=(hm.mem k).1 hk;have:=QI hw hlv hi hb a1 hne a2 a3 hd he.symm;subst this;rw[(h.mid.j5 d r).2 ⟨hd,λx=>x⟩]at hT;cases hT
 have MV:=nJ hw hlv ho hi hR h.reach;have qp:=λm (hmn:m<=K.n) g=>M9 hw hlv ho hi hR m hmn g;have hne:ord.getD l 0≠ord.getD (l+1) 0:=by rw[hx,hy];exact hb.ne
 have A8:=FM (F:=K.held S) hlen hne;have gl:(fR ord l).getD l 0=y:=by rw[fx hlen,xae rfl,hy]
 have gl1:(fR ord l).getD (l+1) 0=x:=by rw[fx hlen,xab zO,xae rfl,hx]
 have go:∀m,m≠l->m≠l+1->(fR ord l).getD m 0=ord.getD m 0:=λm h1 h2=>by rw[fx hlen,xab h1,xab h2]
 constructor
 ·rintro(⟨r,d,hd,rfl⟩|⟨k,hk,rfl⟩)
  ·exact .inl ((MV _).2 ⟨r,d,hd,rfl⟩)
  obtain⟨a1,a2,a3⟩:=mR k hk;obtain⟨⟨c,FC,hkc⟩,hT,YC⟩:=(hm.mem k).1 hk;obtain⟨⟨hd,Rv,_⟩,e⟩:=(hc.mem c).1 FC;refine .inr ⟨l+1,Bb,?_,?_⟩
  ·have hA:=Xz hw h.reach _ c.r c.d hd (xaj _);rw[Rv,hb.lx]at hA;refine⟨S c.r,(A8 l zO _).2 ((qp l zO _).2 ⟨c.r,hA,rfl⟩),?_⟩;have Vr:=wc hw hlv hi hb hd Rv;rw[e]at hkc;simp only[keys,nZ,xak,xaS,xby]at hkc;rw[gl];rcases hkc with rfl|rfl
   ·refine⟨false,?_⟩
    funext z
    rw[Vr,aj,xae rfl,xab zI,jJ hw hlv hi hb rfl a2 a3 hb.yn (by rw[hb.ly];exact xaj _) (xa8 hb.ne)]
   refine⟨true,?_⟩
   funext z
   rw[Vr,aj,xae rfl,xae rfl,jJ hw hlv hi hb rfl a2 a3 hb.yn (by rw[hb.ly];exact xaj _) (xa8 hb.ne)]
  rw[gl1];refine xaK λhno=>YC (hw.same hlv hi a2.1 a3.1 λz=>?_);have c1:=jy hw hlv hi hb a1 a2 a3 z false;have c2:=jy hw hlv hi hb a1 a2 a3 z true;simp only[xaN,xa1,xa6]at c1 c2;rw[<-c1,<-c2];exact xaK λhne=>hno ⟨z,hne⟩
 rintro(hg|⟨m,hmn,hf,hh⟩)
 ·exact .inl ((MV g).1 hg)
 by_cases e1:m=l+1
 ·subst e1;rw[gl1]at hh;obtain⟨f,hf,b,rfl⟩:=hf;rw[gl]at hh⊢;obtain⟨r,hA,rfl⟩:=(qp l zO f).1 ((A8 l zO f).1 hf);obtain⟨hlr,hle⟩:=sN hw hR l r hA;have hgt:dep K.n ah K.N r=l:=by
   refine xd1 (xc4 λhlt=>?_) hle;obtain⟨z,hz⟩:=hh;refine hz ?_;show S r (aB (aB z x false) y b)=S r (aB (aB z x true) y b);rw[dj hb.ne,dj hb.ne,hw.bN hlv hi hlr hb.xn (by rw[hb.lx];exact hlt),hw.bN hlv hi hlr hb.xn (by rw[hb.lx];exact hlt)]
  rcases hlr with MZ|⟨d,hd⟩
  ·rw[aU (hw.const MZ)]at hgt;omega
  rw[aq hd]at hgt;have Rv:d.v=x:=hlv.inj _ _ (hw.var hd) hb.xn (by rw[hb.lx];exact hgt);have Vr:=wc hw hlv hi hb hd Rv;have hkk:∃k∈keys x (nZ K.N y r d),(λz=>S r (aB z y b))=ite S k:=by
   cases b
   ·refine⟨_,xbH,?_⟩;obtain⟨a1,a2,a3⟩:=lJ hw hlv hi hb hd Rv (k:=⟨x,pl K.N y d.lo,pl K.N y d.hi⟩) xbH
    funext z
    rw[Vr,aj,xae rfl,xab zI,jJ hw hlv hi hb rfl a2 a3 hb.yn (by rw[hb.ly];exact xaj _) (xa8 hb.ne)];rfl
   refine⟨_,xbt _ xbH,?_⟩;obtain⟨a1,a2,a3⟩:=lJ hw hlv hi hb hd Rv (k:=⟨x,ph K.N y d.lo,ph K.N y d.hi⟩) (xbt _ xbH)
   funext z
   rw[Vr,aj,xae rfl,xae rfl,jJ hw hlv hi hb rfl a2 a3 hb.yn (by rw[hb.ly];exact xaj _) (xa8 hb.ne)];rfl
  obtain⟨k,hkm,hke⟩:=hkk;obtain⟨a1,a2,a3⟩:=lJ hw hlv hi hb hd Rv hkm;rw[hke]at hh⊢;have YC:k.lo≠k.hi:=λe=>by
   obtain⟨z,hz⟩:=hh;have c1:=jy hw hlv hi hb a1 a2 a3 z false;have c2:=jy hw hlv hi hb a1 a2 a3 z true;simp only[xaN,xa1,xa6]at c1 c2;rw[c1,c2,e]at hz;exact hz rfl
  cases hT:K.T k with
  |some s=>
   have hs:=((h.mid.j5 k s).1 hT).1;refine .inl ⟨s,k,hs,?_⟩
   funext z
   exact(hi.node hs z).symm
  |none=>
   by_cases YQ:mV K.N x y r d
   ·exact .inr ⟨k,(hm.mem k).2 ⟨⟨nZ K.N y r d,(hc.mem _).2 ⟨YQ,rfl⟩,hkm⟩,hT,YC⟩,rfl⟩
   have hno:∀t,t=d.lo\/t=d.hi->pl K.N y t=t/\ph K.N y t=t:=λt ht=>Up λe he hv=>YQ ⟨hd,Rv,by
    rcases ht with rfl|rfl
    ·exact .inl ⟨e,he,hv⟩
    exact .inr ⟨e,he,hv⟩⟩
   have e1:=hno d.lo (.inl rfl);have e2:=hno d.hi (.inr rfl);have:k=d:=by
    simp only[keys,nZ,e1.1,e1.2,e2.1,e2.2,xak,xaS,xby,or_self]at hkm;rw[hkm,<-Rv]
   rw[this,(h.mid.j5 d r).2 ⟨hd,λx=>x⟩]at hT;cases hT
 by_cases e2:m=l
 ·subst e2;rw[gl]at hh;obtain⟨r,hA,rfl⟩:=(qp m zO g).1 ((A8 m e1 g).1 hf);obtain⟨hlr,hle⟩:=sN hw hR m r hA;rcases hlr with MZ|⟨d,hd⟩
  ·obtain⟨z,hz⟩:=hh;have:∀z,S r z=S r 0:=λz=>by
    have:r=0\/r=1:=by omega
    rcases this with rfl|rfl
    ·rw[hi.zero,hi.zero]
    rw[hi.one,hi.one]
   rw[this (aB z y false),this (aB z y true)]at hz;exact absurd rfl hz
  exact .inl ⟨r,d,hd,rfl⟩
 refine .inl ((MV g).1 ⟨m,hmn,(A8 m e1 g).1 hf,?_⟩);rw[go m e2 e1]at hh;exact hh
end aA
namespace aA
open an
def tx(K:Kd)(ah:Nat->Nat)(l t:Nat):Prop:=live K.N t/\l+1<dep K.n ah K.N t
def xW(K0 K:Kd)(ah:Nat->Nat)(x l t:Nat):Prop:=tx K0 ah l t\/∃e,K.N t=some e/\e.v=x/\tx K0 ah l e.lo/\tx K0 ah l e.hi
structure TI(K0:Kd)(S0:Nat->Fn)(ah:Nat->Nat)(x y l:Nat)(made:List Nd)(K:Kd)(S:Nat->Fn)(done rest:List Cx)(P:Nat->Nat):Prop where
 mid:jM K S (λs=>∃c∈rest,s=c.r) P
 n:K.n=K0.n
 cap:K.cap=K0.cap
 hold:∀r,K.hold r=K0.hold r
 ext:∀r,live K0.N r->S r=S0 r
 old:∀{r d},K0.N r=some d->r∉done.map Cx.r->K.N r=some d
 kept:∀{r d},K0.N r=some d->∃d',K.N r=some d'
 new:∀{r d},K.N r=some d->(K0.N r=some d/\r∉done.map Cx.r)\/(r∈done.map Cx.r/\d.v=y/\xW K0 K ah x l d.lo/\xW K0 K ah x l d.hi)\/(K0.N r=none/\d.v=x/\tx K0 ah l d.lo/\tx K0 ah l d.hi)
 used:K.used=K0.used+(made.filter λk=>(K.T k).isSome).length
structure TB(K0:Kd)(S0:Nat->Fn)(ah:Nat->Nat)(x y l:Nat)(all:List Cx)(made:List Nd):Prop where
 ok:Ok K0 S0 ah
 nb:Nb K0.n ah x y l
 cx:LA K0.N x y all
 mad:Made K0 x all made
 room:K0.used+made.length<=K0.cap
section
variable {K0 K:Kd} {S0 S:Nat->Fn} {ah:Nat->Nat} {x y l:Nat} {made:List Nd} {done rest all:List Cx} {P:Nat->Nat}
theorem TB.n5(b:TB K0 S0 ah x y l all made){c:Cx}(hc:c∈all):K0.N c.r=some c.d/\c.d.v=x/\c=nZ K0.N y c.r c.d:=by
 obtain⟨⟨h1,h2,_⟩,h3⟩:=(b.cx.mem c).1 hc;exact⟨h1,h2,h3⟩
theorem TB.UK(b:TB K0 S0 ah x y l all made){c:Cx}(hc:c∈all):(tx K0 ah l c.xR/\tx K0 ah l c.tu)/\(tx K0 ah l c.xQ/\tx K0 ah l c.tt):=by
 obtain⟨h1,h2,h3⟩:=b.n5 hc;have k1:=lJ b.ok.wf b.ok.lv b.ok.mid.int b.nb h1 h2 (k:=⟨x,pl K0.N y c.d.lo,pl K0.N y c.d.hi⟩) xbH;have k2:=lJ b.ok.wf b.ok.lv b.ok.mid.int b.nb h1 h2 (k:=⟨x,ph K0.N y c.d.lo,ph K0.N y c.d.hi⟩) (xbt _ xbH);rw[h3];exact⟨⟨k1.2.1,k1.2.2⟩,⟨k2.2.1,k2.2.2⟩⟩
theorem TB.level(b:TB K0 S0 ah x y l all made){c:Cx}(hc:c∈all):dep K0.n ah K0.N c.r=l:=by
 obtain⟨h1,h2,_⟩:=b.n5 hc;rw[aq h1,h2,b.nb.lx]
theorem TB.start(b:TB K0 S0 ah x y l all made){T:Nd->Option Nat}(hm:jM {K0 with T:=T} S0 (λs=>∃c∈all,s=c.r) zero')(hT:∀d,T d=none\/T d=K0.T d):
  TI K0 S0 ah x y l made {K0 with T:=T} S0 [] all zero' where
 mid:=hm
 n:=rfl
 cap:=rfl
 hold:=λ_=>rfl
 ext:=λ_ _=>rfl
 old:=λh _=>h
 kept:=λh=>⟨_,h⟩
 new:=λh=>.inl ⟨h,by simp⟩
 used:=by
  have:made.filter (λk=>(T k).isSome)=[]:=by
   rw[xdk];intro k hk;have h1:=((b.mad.mem k).1 hk).2.1;rcases hT k with h2|h2
   ·rw[h2];simp
   rw[h2,h1];simp
  show K0.used=K0.used+(made.filter (λk=>(T k).isSome)).length;rw[this];simp
theorem TI.UN(b:TB K0 S0 ah x y l all made)(h:TI K0 S0 ah x y l made K S done rest P)(hd:∀c∈done,c∈all){t:Nat}(ht:tx K0 ah l t):K.N t=K0.N t:=by
 rcases ht with⟨ht|⟨d,dP⟩,hlt⟩
 ·cases e:K.N t with
  |none=>rw[b.ok.wf.const ht]
  |some d=>have:=(h.mid.two e).1;omega
 ·rw[dP];refine h.old dP λhm=>?_;obtain⟨c,hc,e⟩:=xao.1 hm;have:=b.level (hd c hc);rw[e]at this;omega
theorem TI.qO(b:TB K0 S0 ah x y l all made)(h:TI K0 S0 ah x y l made K S done rest P)(hd:∀c∈done,c∈all){t:Nat}(ht:tx K0 ah l t):live K.N t:=by
 have e:=h.UN b hd ht;rcases ht.1 with ht|⟨d,dP⟩
 ·exact .inl ht
 exact .inr ⟨d,by rw[e];exact dP⟩
theorem TI.qS(b:TB K0 S0 ah x y l all made)(h:TI K0 S0 ah x y l made K S done rest P)(hd:∀c∈done,c∈all){t:Nat}(ht:xW K0 K ah x l t):live K.N t:=by
 rcases ht with ht|⟨e,he,_⟩
 ·exact h.qO b hd ht
 exact .inr ⟨e,he⟩
theorem TI.use(h:TI K0 S0 ah x y l made K S done rest P){r:Nat}{dB:zL}(hl:dB.length=K.us.length)(h1:dB.getD r 0=K.use r+1)(h2:∀s,s≠r->dB.getD s 0=K.use s):
  TI K0 S0 ah x y l made {K with us:=dB} S done rest (up P r (P r+1)) where
 mid:=h.mid.more hl h1 h2
 n:=h.n
 cap:=h.cap
 hold:=h.hold
 ext:=h.ext
 old:=h.old
 kept:=h.kept
 new:=h.new
 used:=h.used
theorem TI.congr(h:TI K0 S0 ah x y l made K S done rest P){P':Nat->Nat}(hP:∀s,2<=s->P s=P' s):TI K0 S0 ah x y l made K S done rest P' where
 mid:=h.mid.congr (λ_=>xcT) hP
 n:=h.n
 cap:=h.cap
 hold:=h.hold
 ext:=h.ext
 old:=h.old
 kept:=h.kept
 new:=h.new
 used:=h.used
theorem filter_lt{α:Type}{p:α->Bool}{k:α}:∀{m:List α},k∈m->p k=false->(m.filter p).length<m.length
 | [],h,_=>by simp at h
 |z::m,h,hp=>by
  rcases xak.1 h with rfl|h
  ·rw[xbk,xab (by simp[hp])];have:=xbZ p m;simp;omega
  have:=filter_lt h hp;rw[xbk];split
  ·rw[xay,xay];omega
  rw[xay];omega
theorem TI.fits(b:TB K0 S0 ah x y l all made)(h:TI K0 S0 ah x y l made K S done rest P){k:Nd}(hk:k∈made)(hT:K.T k=none):K.used<K.cap:=by
 have h1:=filter_lt (p:=λk=>(K.T k).isSome) hk (by rw[hT];rfl);have h2:=h.used;have h3:=b.room;have h4:=h.cap;omega
theorem nX{T:Nd->Option Nat}{k:Nd}{r:Nat}:∀{m:List Nd},m.Nodup->T k=none->(m.filter λd=>(qk T k (some r) d).isSome).length=(m.filter λd=>(T d).isSome).length+(if k∈m then 1 else 0)
 | [],_,_=>rfl
 |z::m,hn,hT=>by
  obtain⟨h1,h2⟩:=xaV.1 hn;have ih:=nX (r:=r) h2 hT;rw[xbk,xbk];by_cases e:z=k
  ·subst e;rw[jN,hT];simp only[Option.isSome_some,xa6,Option.isSome_none,xaN,xa1,xay,ih,xab h1,xak,true_or]
  rw[pG e];have e2:(k∈z::m)↔k∈m:=by rw[xak];exact⟨λh=>h.resolve_left (λh=>e h.symm),.inr⟩
  simp only[e2];split
  ·simp only[xay,ih];omega
  exact ih
theorem TB.Ak(b:TB K0 S0 ah x y l all made){t:Nat}(ht:tx K0 ah l t){e:Nd}(he:K0.N t=some e):l+1<ah e.v:=by
 have:=ht.2;rwa [aq he]at this
theorem TB.B7(b:TB K0 S0 ah x y l all made){c:Cx}(hc:c∈all)(h1:tx K0 ah l c.d.lo)(h2:tx K0 ah l c.d.hi):False:=by
 obtain⟨⟨_,_,h3⟩,_⟩:=(b.cx.mem c).1 hc;have hy:=b.nb.ly;rcases h3 with⟨e,he,hv⟩|⟨e,he,hv⟩
 ·have:=b.Ak h1 he;rw[hv]at this;omega
 have:=b.Ak h2 he;rw[hv]at this;omega
theorem TI.QT(b:TB K0 S0 ah x y l all made)(h:TI K0 S0 ah x y l made K S done rest P)(hd:∀c∈done,c∈all)(hr:∀c∈rest,c∈all){c:Cx}(hc:c∈all){k:Nd}(hk:k∈keys x c)(hne:k.lo≠k.hi)(h1:tx K0 ah l k.lo)(h2:tx K0 ah l k.hi)(hT:K.T k=none):k∈made:=by
 refine(b.mad.mem k).2 ⟨⟨c,hc,hk⟩,?_,hne⟩;cases e:K0.T k with
 |none=>rfl
 |some s=>
  have hs:=((b.ok.mid.j5 k s).1 e).1;have hno:∀c'∈all,s≠c'.r:=λc' oL e'=>by
   have h3:=(b.n5 oL).1;rw[<-e',hs]at h3;cases h3;exact b.B7 oL h1 h2
  have uc:K.N s=some k:=by
   refine h.old hs λhm=>?_;obtain⟨c',oL,e'⟩:=xao.1 hm;exact hno c' (hd c' oL) e'.symm
  have:=(h.mid.j5 k s).2 ⟨uc,by rintro⟨c',oL,e'⟩;exact hno c' (hr c' oL) e'⟩;rw[hT]at this;cases this
theorem TI.lay(b:TB K0 S0 ah x y l all made)(h:TI K0 S0 ah x y l made K S done rest P)(hd:∀c∈done,c∈all)(hr:∀c∈rest,c∈all){c:Cx}(hc:c∈all){k:Nd}(hk:k∈keys x c)(hne:k.lo≠k.hi)(hT:K.T k=none)
 {r:Nat}{dB cC:zL}(hN:K.N r=none)(h2:2<=r/\r<K.cap)(hl:dB.length=cC.length)(hf:r<dB.length/\K.us.length<=dB.length)(u0:dB.getD r 0=0)(u1:∀s,2<=s->s≠r->dB.getD s 0=K.use s+e1 (some k) s)(o0:cC.getD r 0=0)(o1:∀s,s≠r->cC.getD s 0=K.hold s)(hP:P r=0):
  TI K0 S0 ah x y l made {K with N:=up K.N r (some k),T:=qk K.T k (some r),used:=K.used+1,us:=dB,ho:=cC} (up S r (ite S k)) done rest P/\xW K0 {K with N:=up K.N r (some k),T:=qk K.T k (some r),used:=K.used+1,us:=dB,ho:=cC} ah x l r:=by
 have mR:=b.UK hc;have hkv:k.v=x/\tx K0 ah l k.lo/\tx K0 ah l k.hi:=by
  simp only[keys,xak,xaS,xby]at hk;rcases hk with rfl|rfl
  ·exact⟨rfl,mR.1.1,mR.1.2⟩
  exact⟨rfl,mR.2.1,mR.2.2⟩
 have hkN:K0.N r=none:=by
  cases e:K0.N r with
  |none=>rfl
  |some d=>obtain⟨d',dP⟩:=h.kept e;rw[hN]at dP;cases dP
 have hkm:=h.QT b hd hr hc hk hne hkv.2.1 hkv.2.2 hT;have hE:¬∃c∈rest,r=c.r:=by
  rintro⟨c',oL,rfl⟩;have:=(b.n5 (hr c' oL)).1;rw[hkN]at this;cases this
 have Fu:∀{t},xW K0 K ah x l t->xW K0 {K with N:=up K.N r (some k),T:=qk K.T k (some r),used:=K.used+1,us:=dB,ho:=cC} ah x l t:=λht=>by
  rcases ht with ht|⟨e,he,h3⟩
  ·exact .inl ht
  refine .inr ⟨e,?_,h3⟩;show up K.N r (some k) _=_;rw[aS (λe2=>by rw[e2,hN]at he;cases he)];exact he
 refine⟨⟨h.mid.lay hN h2 (by rw[hkv.1,h.n];exact b.nb.xn) hne (h.qO b hd hkv.2.1) (h.qO b hd hkv.2.2) hT hE hP (h.fits b hkm hT) hl hf u0 u1 o0 o1,h.n,h.cap,λs=>?_,λs hs=>?_,λ{s d} hs hm=>?_,λ{s d} hs=>?_,λ{s d} hs=>?_,?_⟩,?_⟩
 ·show cC.getD s 0=_;rw[<-h.hold];by_cases e:s=r
  ·subst e;rw[o0];refine(xaK λhno=>?_);obtain⟨d,dP⟩:=h.mid.held s (λe=>hno e.symm);rw[hN]at dP;cases dP
  exact o1 s e
 ·rw[aS (gf hs h2.1 hkN)];exact h.ext s hs
 ·show up K.N r (some k) s=_;rw[aS (λe=>by rw[e,hkN]at hs;cases hs)];exact h.old hs hm
 ·obtain⟨d',dP⟩:=h.kept hs;exact⟨d',by show up K.N r (some k) s=_;rw[aS (λe=>by rw[e,hkN]at hs;cases hs)];exact dP⟩
 ·have hs':up K.N r (some k) s=some d:=hs;by_cases e:s=r
  ·subst e;rw[aP]at hs';cases hs';exact .inr (.inr ⟨hkN,hkv⟩)
  rw[aS e]at hs';rcases h.new hs' with h1|⟨h1,oM,h3,h4⟩|h1
  ·exact .inl h1
  ·exact .inr (.inl ⟨h1,oM,Fu h3,Fu h4⟩)
  exact .inr (.inr h1)
 ·show K.used+1=K0.used+(made.filter λd=>(qk K.T k (some r) d).isSome).length;rw[nX b.mad.nd hT,xae hkm,h.used];omega
 exact .inr ⟨k,aP,hkv⟩
theorem TI.found(b:TB K0 S0 ah x y l all made)(h:TI K0 S0 ah x y l made K S done rest P){c:Cx}(hc:c∈all){k:Nd}(hk:k∈keys x c){r:Nat}(hT:K.T k=some r):K.N r=some k/\xW K0 K ah x l r:=by
 have mR:=b.UK hc;have hN:=((h.mid.j5 k r).1 hT).1;simp only[keys,xak,xaS,xby]at hk;rcases hk with rfl|rfl
 ·exact⟨hN,.inr ⟨_,hN,rfl,mR.1.1,mR.1.2⟩⟩
 exact⟨hN,.inr ⟨_,hN,rfl,mR.2.1,mR.2.2⟩⟩
theorem TI.WM(b:TB K0 S0 ah x y l all made)(h:TI K0 S0 ah x y l made K S done rest P){a a' t:Nat}(la:tx K0 ah l a)(Fb:tx K0 ah l a')(g:(a=a'/\t=a)\/K.N t=some ⟨x,a,a'⟩)(z:Nat):S t z=ite S0 ⟨x,a,a'⟩ z:=by
 rcases g with⟨rfl,rfl⟩|g
 ·rw[h.ext t la.1];unfold ite;simp
 rw[h.mid.int.node g];unfold ite;simp only;rw[h.ext a la.1,h.ext a' Fb.1]
theorem TI.UL(b:TB K0 S0 ah x y l all made)(h:TI K0 S0 ah x y l made K S done rest P)(hd:∀c∈done,c∈all){a a' t:Nat}(ht:tx K0 ah l t)(g:K.N t=some ⟨x,a,a'⟩):False:=by
 rw[h.UN b hd ht]at g;have:=b.Ak ht g;have hx:=b.nb.lx;simp only at this;omega
theorem TI.zA(b:TB K0 S0 ah x y l all made){c:Cx}(h:TI K0 S0 ah x y l made K S done (c::rest) P)(hd:∀c∈done,c∈all)(hr:∀c'∈c::rest,c'∈all)(hn:((done++c::rest).map Cx.r).Nodup){t0 t1:Nat}
 (k0:xW K0 K ah x l t0)(k1:xW K0 K ah x l t1)(g0:(c.xR=c.tu/\t0=c.xR)\/K.N t0=some ⟨x,c.xR,c.tu⟩)(g1:(c.xQ=c.tt/\t1=c.xQ)\/K.N t1=some ⟨x,c.xQ,c.tt⟩){P':Nat->Nat}(hP:∀s,2<=s->P' s+e1 (some ⟨y,t0,t1⟩) s=P s+e1 (some c.d) s):
  K.T ⟨y,t0,t1⟩=none/\TI K0 S0 ah x y l made {K with N:=up K.N c.r (some ⟨y,t0,t1⟩),T:=qk K.T ⟨y,t0,t1⟩ (some c.r)} S (done++[c]) rest P':=by
 have hc:=hr c zI;obtain⟨Az,Bd,hce⟩:=b.n5 hc;obtain⟨⟨l00,l10⟩,⟨l01,l11⟩⟩:=b.UK hc;have w:=b.ok.wf;have hi:=b.ok.mid.int;have hlo:=w.lo Az;have hhi:=w.hi Az;rw[Bd,b.nb.lx]at hlo hhi;have ep:c.xR=pl K0.N y c.d.lo/\c.xQ=ph K0.N y c.d.lo/\c.tu=pl K0.N y c.d.hi/\c.tt=ph K0.N y c.d.hi:=by rw[hce];exact⟨rfl,rfl,rfl,rfl⟩
 have both:c.xR=c.tu->c.xQ=c.tt->False:=λe1 e2=>by
  rw[ep.1,ep.2.2.1]at e1;rw[ep.2.1,ep.2.2.2]at e2;exact w.ne Az (w.Vv b.ok.lv hi b.nb.yy hlo.1 hhi.1 hlo.2 hhi.2 e1 e2)
 have ZV:c.r∉done.map Cx.r:=by
  rw[xaJ,xa4]at hn;intro hm;exact hn.2.2 _ hm _ zI rfl
 have KR:=h.old Az ZV;have fn0:=λz=>h.WM b l00 l10 g0 z;have fn1:=λz=>h.WM b l01 l11 g1 z;have hS:∀z,S c.r z=ite S ⟨y,t0,t1⟩ z:=λz=>by
  rw[h.ext c.r (.inr ⟨_,Az⟩),wc w b.ok.lv hi b.nb Az Bd z];unfold ite;simp only;have a0:=fn0 z;have a1:=fn1 z;unfold ite at a0 a1;simp only at a0 a1;rw[a0,a1,ep.1,ep.2.1,ep.2.2.1,ep.2.2.2]
 have hne:t0≠t1:=λe=>by
  subst e;rcases g0 with⟨e1,e2⟩|g0
  ·rcases g1 with⟨e3,e4⟩|g1
   ·exact both e1 e3
   rw[e2]at g1;exact h.UL b hd l00 g1
  rcases g1 with⟨e3,e4⟩|g1
  ·rw[e4]at g0;exact h.UL b hd l01 g0
  rw[g0]at g1;simp only[xaq,Nd.mk.injEq,xcs]at g1;obtain⟨q1,q2⟩:=g1;obtain⟨⟨_,_,YQ⟩,_⟩:=(b.cx.mem c).1 hc;rw[ep.1,ep.2.1]at q1;rw[ep.2.2.1,ep.2.2.2]at q2;rcases YQ with⟨e,he,hv⟩|⟨e,he,hv⟩
  ·have:=Uo he hv;rw[this.1,this.2]at q1;exact w.ne he q1
  have:=Uo he hv;rw[this.1,this.2]at q2;exact w.ne he q2
 have hT:K.T ⟨y,t0,t1⟩=none:=by
  cases e:K.T ⟨y,t0,t1⟩with
  |none=>rfl
  |some s=>
   obtain⟨hs,Q1⟩:=(h.mid.j5 _ s).1 e;rcases h.new hs with⟨h1,_⟩|⟨h1,_⟩|⟨_,h1,_⟩
   ·have q1:=w.lo h1;have q2:=w.hi h1;simp only at q1 q2;rw[b.nb.ly]at q1 q2;have p1:c.xR=c.tu:=by
     rcases g0 with⟨e1,_⟩|g0
     ·exact e1
     exact(h.UL b hd q1 g0).elim
    have p2:c.xQ=c.tt:=by
     rcases g1 with⟨e1,_⟩|g1
     ·exact e1
     exact(h.UL b hd q2 g1).elim
    exact(both p1 p2).elim
   ·obtain⟨c',oL,e'⟩:=xao.1 h1;have RC:=(b.n5 (hd c' oL)).1;have:c'.r=c.r:=w.same b.ok.lv hi (.inr ⟨_,RC⟩) (.inr ⟨_,Az⟩) λz=>by
     rw[<-h.ext c'.r (.inr ⟨_,RC⟩),<-h.ext c.r (.inr ⟨_,Az⟩),hS z,e',h.mid.int.node hs z];rfl
    exact absurd (xao.2 ⟨c',oL,this⟩) ZV
   exact absurd h1 (xa8 b.nb.ne)
 have Fu:∀{t},xW K0 K ah x l t->xW K0 {K with N:=up K.N c.r (some ⟨y,t0,t1⟩),T:=qk K.T ⟨y,t0,t1⟩ (some c.r)} ah x l t:=λht=>by
  rcases ht with ht|⟨e,he,h3⟩
  ·exact .inl ht
  refine .inr ⟨e,?_,h3⟩;show up K.N c.r (some ⟨y,t0,t1⟩) _=_;refine(aS λe2=>?_).trans he;rw[e2,KR]at he;cases he;exact b.B7 hc h3.2.1 h3.2.2
 have hml:∀s,s∈(done++[c]).map Cx.r↔s∈done.map Cx.r\/s=c.r:=λs=>by simp[xan]
 refine⟨hT,⟨(h.mid.zA KR ⟨c,by simp,rfl⟩ (by rw[h.n];exact b.nb.yn) hne (h.qS b hd k0) (h.qS b hd k1) hT hS hP).congr (λs=>?_) (λ_ _=>rfl),h.n,h.cap,h.hold,h.ext,λ{s d} hs hm=>?_,λ{s d} hs=>?_,λ{s d} hs=>?_,?_⟩⟩
 ·constructor
  ·rintro⟨⟨c',oL,rfl⟩,h2⟩;rcases xak.1 oL with rfl|oL
   ·exact absurd rfl h2
   exact⟨c',oL,rfl⟩
  rintro⟨c',oL,rfl⟩;refine⟨⟨c',xbt _ oL,rfl⟩,λe=>?_⟩;rw[xaJ,xa4]at hn;have:=hn.2.1;rw[xaB,xaV]at this;exact this.1 (xao.2 ⟨c',oL,e⟩)
 ·have hm':=λx=>hm ((hml s).2 x);show up K.N c.r _ s=_;rw[aS (λe=>hm' (.inr e))];exact h.old hs (λx=>hm' (.inl x))
 ·by_cases e:s=c.r
  ·exact⟨⟨y,t0,t1⟩,by show up K.N c.r (some _) s=_;rw[e,aP]⟩
  obtain⟨d',dP⟩:=h.kept hs;exact⟨d',by show up K.N c.r (some _) s=_;rw[aS e];exact dP⟩
 ·have hs':up K.N c.r (some ⟨y,t0,t1⟩) s=some d:=hs;by_cases e:s=c.r
  ·rw[e,aP]at hs';cases hs';exact .inr (.inl ⟨(hml s).2 (.inr e),rfl,Fu k0,Fu k1⟩)
  rw[aS e]at hs';rcases h.new hs' with⟨h1,h2⟩|⟨h1,h2,h3,h4⟩|h1
  ·exact .inl ⟨h1,λhm=>((hml s).1 hm).elim h2 e⟩
  ·exact .inr (.inl ⟨(hml s).2 (.inl h1),h2,Fu h3,Fu h4⟩)
  exact .inr (.inr h1)
 show K.used=K0.used+(made.filter λd=>(qk K.T ⟨y,t0,t1⟩ (some c.r) d).isSome).length;have hnm:(⟨y,t0,t1⟩:Nd)∉made:=λhm=>by
  obtain⟨⟨c',oL,hk⟩,_⟩:=(b.mad.mem _).1 hm;simp only[keys,xak,xaS,xby,Nd.mk.injEq]at hk;rcases hk with⟨e,_⟩|⟨e,_⟩
  ·exact b.nb.ne e.symm
  exact b.nb.ne e.symm
 rw[nX b.mad.nd hT,xab hnm,h.used];rfl
theorem TI.levels(b:TB K0 S0 ah x y l all made)(h:TI K0 S0 ah x y l made K S all [] P){s:Nat}{d:Nd}(hs:K.N s=some d):
  tC ah x y l d.v<dep K0.n (tC ah x y l) K.N d.lo/\tC ah x y l d.v<dep K0.n (tC ah x y l) K.N d.hi:=by
 have w:=b.ok.wf;have hd:∀c∈all,c∈all:=λ_ h=>h;have Yh:l+1<K0.n:=by have:=b.ok.lv.lt y b.nb.yn;rw[b.nb.ly]at this;exact this
 have sx:tC ah x y l x=l+1:=by simp[tC]
 have sy:tC ah x y l y=l:=by unfold tC;rw[xab (xa8 b.nb.ne),xae rfl]
 have so:∀v,v<K0.n->ah v≠l->ah v≠l+1->tC ah x y l v=ah v:=λv hv h1 h2=>by
  unfold tC;rw[xab (λe=>h1 (by rw[e];exact b.nb.lx)),xab (λe=>h2 (by rw[e];exact b.nb.ly))]
 have low:∀{t},tx K0 ah l t->l+1<dep K0.n (tC ah x y l) K.N t:=λ{t} ht=>by
  have e:=h.UN b hd ht;cases e2:K0.N t with
  |none=>rw[aU (by rw[e,e2])];exact Yh
  |some e'=>
   have:=b.Ak ht e2;rw[aq (by rw[e,e2]),so _ (w.var e2) zO zO];exact this
 have yF:∀{t},xW K0 K ah x l t->l<dep K0.n (tC ah x y l) K.N t:=λ{t} ht=>by
  rcases ht with ht|⟨e,he,hx,_⟩
  ·have:=low ht;omega
  rw[aq he,hx,sx];omega
 rcases h.new hs with⟨h1,h2⟩|⟨_,h2,h3,h4⟩|⟨_,h2,h3,h4⟩
 ·have hv:=w.var h1;have q1:=w.lo h1;have q2:=w.hi h1;rcases xcJ (ah d.v) l with hlt|heq|hgt
  ·rw[so _ hv zO zO];have up':∀{t},live K0.N t->ah d.v<dep K0.n ah K0.N t->ah d.v<dep K0.n (tC ah x y l) K.N t:=λ{t} ht iB=>by
    cases e:K.N t with
    |none=>rw[aU e];exact xaQ iB (w.iD b.ok.lv t)
    |some e'=>
     rw[aq e];rcases h.new e with⟨g1,_⟩|⟨_,g2,_⟩|⟨g1,_⟩
     ·rw[aq g1]at iB;have hve:=w.var g1;by_cases e1:ah e'.v=l
      ·have:e'.v=x:=b.ok.lv.inj _ _ hve b.nb.xn (by rw[b.nb.lx];exact e1);rw[this,sx];omega
      by_cases e2:ah e'.v=l+1
      ·have:e'.v=y:=b.ok.lv.inj _ _ hve b.nb.yn (by rw[b.nb.ly];exact e2);rw[this,sy];exact hlt
      rw[so _ hve e1 e2];exact iB
     ·rw[g2,sy];exact hlt
     rcases ht with ht|⟨f,hf⟩
     ·have:=(h.mid.two e).1;omega
     rw[g1]at hf;cases hf
   exact⟨up' q1.1 q1.2,up' q2.1 q2.2⟩
  ·have hx:d.v=x:=b.ok.lv.inj _ _ hv b.nb.xn (by rw[b.nb.lx];exact heq);rw[hx,sx];have nc:∀t,t=d.lo\/t=d.hi->∀e,K0.N t=some e->e.v≠y:=λt ht e he hv=>h2 (xao.2 ⟨nZ K0.N y s d,(b.cx.mem _).2 ⟨⟨h1,hx,by
    rcases ht with rfl|rfl
    ·exact .inl ⟨e,he,hv⟩
    exact .inr ⟨e,he,hv⟩⟩,rfl⟩,rfl⟩)
   have lw:∀t,t=d.lo\/t=d.hi->live K0.N t->ah d.v<dep K0.n ah K0.N t->tx K0 ah l t:=λt ht hlv hlt=>by
    refine⟨hlv,?_⟩;have:=(w.half b.ok.lv b.ok.mid.int b.nb.yy hlv (by omega:l<dep K0.n ah K0.N t)).1.2;rwa [(Up (nc t ht)).1]at this
   exact⟨low (lw _ (.inl rfl) q1.1 q1.2),low (lw _ (.inr rfl) q2.1 q2.2)⟩
  by_cases e:ah d.v=l+1
  ·have hy:d.v=y:=b.ok.lv.inj _ _ hv b.nb.yn (by rw[b.nb.ly];exact e);rw[hy,sy];have a1:=low ⟨q1.1,by omega⟩;have a2:=low ⟨q2.1,by omega⟩;exact⟨by omega,by omega⟩
  rw[so _ hv zO e];have deep:∀{t},live K0.N t->ah d.v<dep K0.n ah K0.N t->ah d.v<dep K0.n (tC ah x y l) K.N t:=λ{t} ht iB=>by
   have hl:tx K0 ah l t:=⟨ht,by omega⟩;have e':=h.UN b hd hl;cases e2:K0.N t with
   |none=>rw[aU (by rw[e',e2])];exact b.ok.lv.lt _ hv
   |some f=>
    rw[aq e2]at iB;rw[aq (by rw[e',e2]),so _ (w.var e2) zO zO];exact iB
  exact⟨deep q1.1 q1.2,deep q2.1 q2.2⟩
 ·rw[h2,sy];exact⟨yF h3,yF h4⟩
 rw[h2,sx];exact⟨low h3,low h4⟩
theorem TI.fin(b:TB K0 S0 ah x y l all made)(h:TI K0 S0 ah x y l made K S all [] P){K':Kd}(hm:jM K' S iO zero')(hp:Pos K')(hN:∀{s d},K'.N s=some d->K.N s=some d)(hn:K'.n=K.n)(hh:∀r,K'.hold r=K.hold r):
  Ok K' S (tC ah x y l)/\(∀g,K'.held S g↔K0.held S0 g)/\∀r,K0.hold r≠0->S r=S0 r:=by
 have FI:∀r,K0.hold r≠0->S r=S0 r:=λr hr=>h.ext r (.inr (b.ok.mid.held r hr));refine⟨⟨hm,hp,by rw[hn,h.n];exact TW b.ok.lv b.nb,hm.wf λ{s d} hs=>?_⟩,λg=>?_,FI⟩
 ·have hl:=h.levels b (hN hs);have same:∀{t},live K'.N t->dep K'.n (tC ah x y l) K'.N t=dep K0.n (tC ah x y l) K.N t:=λ{t} ht=>by
   cases e:K'.N t with
   |some f=>rw[aq e,aq (hN e)]
   |none=>
    have WV:t<2:=by
     rcases ht with ht|⟨f,hf⟩
     ·exact ht
     rw[e]at hf;cases hf
    have:K.N t=none:=by
     cases e2:K.N t with
     |none=>rfl
     |some f=>have:=(h.mid.two e2).1;omega
    rw[aU e,aU this,hn,h.n]
  rw[same (hm.lo hs),same (hm.hi hs)];exact hl
 constructor
 ·rintro⟨r,hr,rfl⟩;have hr':K0.hold r≠0:=by rw[<-h.hold,<-hh];exact hr
  exact⟨r,hr',FI r hr'⟩
 rintro⟨r,hr,rfl⟩;exact⟨r,by show K'.hold r≠0;rw[hh,h.hold];exact hr,(FI r hr).symm⟩
end
end aA
namespace aA
open an
variable {n cap l:Nat} {ord:zL} {F G:Fn->Prop}
open Classical in
noncomputable def sz(n:Nat)(ord:zL)(F:Fn->Prop):Nat:=if h:∃k,o7 (aG n ord F) k then Classical.choose h else 0
theorem J4{k:Nat}(h:o7 (aG n ord F) k):sz n ord F=k:=by
 unfold sz;rw[xd8 ⟨k,h⟩];exact(xcz (⟨k,h⟩:∃k,o7 (aG n ord F) k)).uniq h
def OI(n:Nat)(ord:zL)(l:Nat)(F:Fn->Prop):Fn->Prop:=λg=>aG n ord F g\/aG n (fR ord l) F g
open Classical in
noncomputable def A5(n:Nat)(ord:zL)(l:Nat)(F:Fn->Prop):Nat:=if h:∃k,o7 (OI n ord l F) k then Classical.choose h else 0
theorem XD{k:Nat}(h:o7 (OI n ord l F) k):A5 n ord l F=k:=by
 unfold A5;rw[xd8 ⟨k,h⟩];exact(xcz (⟨k,h⟩:∃k,o7 (OI n ord l F) k)).uniq h
theorem Po(e:∀g,F g↔G g):sz n ord F=sz n ord G:=by
 have:F=G:=funext λg=>propext (e g);rw[this]
theorem LU(e:∀g,F g↔G g):A5 n ord l F=A5 n ord l G:=by
 have:F=G:=funext λg=>propext (e g);rw[this]
theorem Dn{a b:zL}(hl:a.length=b.length)(h:∀i,i<a.length->a.getD i 0=b.getD i 0):a=b:=by
 refine List.ext_getElem hl λi h1 h2=>?_;have:=h i h1;simpa[List.getD,xaa h1,xaa h2]using this
theorem qx(hl:l+1<ord.length):fR (fR ord l) l=ord:=by
 refine Dn (by rw[mB,mB]) λi _=>?_;have h2:l+1<(fR ord l).length:=by rw[mB];exact hl
 rw[fx h2,fx hl,fx hl,fx hl];by_cases e:i=l
 ·subst e;simp
 by_cases e2:i=l+1
 ·subst e2;simp
 simp[e,e2]
theorem TJ(hl:l+1<ord.length):A5 n (fR ord l) l F=A5 n ord l F:=by
 have:OI n (fR ord l) l F=OI n ord l F:=by
  funext g
  unfold OI;rw[qx hl];exact propext or_comm
 unfold A5;rw[this]
def xS(n cap:Nat)(F:Fn->Prop):zL->zL->Prop
 |_,[]=>True
 |ord,l::r=>l+1<n/\A5 n ord l F+2<=cap/\xS n cap F (fR ord l) r
theorem xS.congr(e:∀g,F g↔G g):∀{tr ord:zL},xS n cap F ord tr->xS n cap G ord tr:=by
 have:F=G:=funext λg=>propext (e g);subst this;exact λ{tr ord} h=>h
theorem xS.agn(hlen:ord.length=n)(hl:l+1<n)(hfit:A5 n ord l F+2<=cap){tr:zL}(h:xS n cap F ord tr.reverse):xS n cap F (fR ord l) (tr++[l]).reverse:=by
 rw[List.reverse_append];exact⟨hl,by rw[TJ zO];exact hfit,by rw[qx zO];exact h⟩
end aA
namespace aA
open an
variable {n l:Nat} {ord:zL} {L:an.Fs} {F:Fn->Prop}
def oZ(n:Nat)(ws:zL):Fn:=λx=>bit ws (x%2^n)
theorem nF{x v n:Nat}{b:Bool}(hv:v<n):aB x v b%2^n=aB (x%2^n) v b:=by
 apply xaX;intro k;rw[xbz,aj,aj,xbz];by_cases e:k=v
 ·subst e;simp[hv]
 simp[e]
theorem KY{v:Nat}{ws:zL}(hf:eX n ws)(hv:v<n)(b:Bool):oZ n (iJ n ws v b)=λx=>oZ n ws (aB x v b):=by
 funext x
 unfold oZ;rw[eW hf hv (xbB _ (xbw n)),nF hv]
theorem R6{ws:zL}{x:Nat}(h:x<2^n):oZ n ws x=bit ws x:=by unfold oZ;rw[xbi h]
theorem VU{a b:zL}(ha:eX n a)(hb:eX n b)(h:oZ n a=oZ n b):a=b:=ha.ext hb λx hx=>by rw[<-R6 hx,<-R6 hx,h]
theorem yT{v:Nat}{ws:zL}(hf:eX n ws)(hv:v<n):cF (oZ n ws) v↔an.dep n ws v=true:=by
 rw[uk hf hv];constructor
 ·rintro⟨x,hx⟩;refine⟨x%2^n,xbB _ (xbw n),?_⟩;unfold oZ at hx;rwa [nF hv,nF hv]at hx
 rintro⟨x,hx,hne⟩;refine⟨x,?_⟩;unfold oZ;rwa [nF hv,nF hv,xbi hx]
def cur(n:Nat)(ord:zL)(L:an.Fs):Nat->an.Fs
 |0=>my L
 |k+1=>given n (cur n ord L k) (ord.getD k 0)
def FT(n:Nat)(L:an.Fs):Fn->Prop:=λg=>∃t∈L,g=oZ n t
theorem y2:∀k,(cur n ord L k).Nodup
 |0=>mw L
 |k+1=>nW _ _ _
theorem rj(hL:∀t∈L,eX n t)(hn:n<=16):∀k,∀t∈cur n ord L k,eX n t
 |0,t,h=>hL t (gp.1 h)
 |k+1,t,h=>by obtain⟨u,_,b,rfl⟩:=cg.1 h;exact eu hn
theorem FN(hL:∀t∈L,eX n t)(hn:n<=16)(ho:∀i,i<n->ord.getD i 0<n):∀k,k<=n->∀g,fs ord (FT n L) k g↔∃t∈cur n ord L k,g=oZ n t
 |0,_,g=>by
  show(∃t∈L,g=oZ n t)↔_;constructor
  ·rintro⟨t,h,e⟩;exact⟨t,gp.2 h,e⟩
  rintro⟨t,h,e⟩;exact⟨t,gp.1 h,e⟩
 |k+1,hk,g=>by
  have ih:=FN hL hn ho k zO;constructor
  ·rintro⟨f,hf,b,rfl⟩;obtain⟨t,ht,rfl⟩:=(ih f).1 hf;exact⟨iJ n t (ord.getD k 0) b,cg.2 ⟨t,ht,b,rfl⟩,(KY (rj hL hn k t ht) (ho k zO) b).symm⟩
  rintro⟨t,ht,rfl⟩;obtain⟨u,hu,b,rfl⟩:=cg.1 ht;exact⟨oZ n u,(ih _).2 ⟨u,hu,rfl⟩,b,KY (rj hL hn k u hu) (ho k zO) b⟩
theorem vS:∀k g,fs ord F k g->∀j,j<k->¬cF g (ord.getD j 0)
 |0,_,_,_,h=>absurd h (xcC _)
 |k+1,g,h,j,hj=>by
  obtain⟨f,hf,b,rfl⟩:=h;rintro⟨x,hx⟩;apply hx;by_cases e:ord.getD j 0=ord.getD k 0
  ·show f (aB (aB x _ false) _ b)=f (aB (aB x _ true) _ b);congr 1;apply xaX;intro i;simp only[aj,e];split<;>rfl
  have hlt:j<k:=by
   rcases Nat.lt_succ_iff_lt_or_eq.1 hj with h|h
   ·exact h
   subst h;exact(e rfl).elim
  have:=vS k f hf j hlt;show f (aB (aB x _ false) _ b)=f (aB (aB x _ true) _ b);rw[dj e,dj e];exact xaK λhne=>this ⟨_,hne⟩
def E8(n:Nat)(ord:zL)(L:an.Fs)(k:Nat):an.Fs:=nodes n (cur n ord L k) (ord.getD k 0)
def kz(n:Nat)(ord:zL)(L:an.Fs):Nat->Nat
 |0=>0
 |k+1=>kz n ord L k+(E8 n ord L k).length
def Gl(n:Nat)(ord:zL)(L:an.Fs):Nat->an.Fs
 |0=>[]
 |k+1=>Gl n ord L k++E8 n ord L k
theorem tp:∀k,(Gl n ord L k).length=kz n ord L k
 |0=>rfl
 |k+1=>by rw[Gl,kz,xaf,tp k]
theorem qJ{k:Nat}{t:zL}:t∈E8 n ord L k↔t∈cur n ord L k/\an.dep n t (ord.getD k 0)=true:=by
 unfold E8 nodes;rw[xbS]
theorem DS(hL:∀t∈L,eX n t)(hn:n<=16):∀k,∀t∈Gl n ord L k,eX n t
 |0,t,h=>by cases h
 |k+1,t,h=>by
  rcases xan.1 h with h|h
  ·exact DS hL hn k t h
  exact rj hL hn k t (qJ.1 h).1
theorem wB(hL:∀t∈L,eX n t)(hn:n<=16)(ho:∀i,i<n->ord.getD i 0<n):∀m,m<=n->∀g,(∃k,k<m/\fs ord (FT n L) k g/\cF g (ord.getD k 0))↔∃t∈Gl n ord L m,g=oZ n t
 |0,_,g=>by simp[Gl]
 |m+1,hm,g=>by
  have ih:=wB hL hn ho m zO g;have ah:(fs ord (FT n L) m g/\cF g (ord.getD m 0))↔∃t∈E8 n ord L m,g=oZ n t:=by
   rw[FN hL hn ho m zO];constructor
   ·rintro⟨⟨t,ht,rfl⟩,hh⟩;exact⟨t,qJ.2 ⟨ht,(yT (rj hL hn m t ht) (ho m zO)).1 hh⟩,rfl⟩
   rintro⟨t,ht,rfl⟩;obtain⟨h1,h2⟩:=qJ.1 ht;exact⟨⟨t,h1,rfl⟩,(yT (rj hL hn m t h1) (ho m zO)).2 h2⟩
  constructor
  ·rintro⟨k,hk,h1,h2⟩;by_cases e:k=m
   ·subst e;obtain⟨t,ht,rfl⟩:=ah.1 ⟨h1,h2⟩;exact⟨t,xac _ ht,rfl⟩
   obtain⟨t,ht,rfl⟩:=ih.1 ⟨k,by omega,h1,h2⟩;exact⟨t,xad _ ht,rfl⟩
  rintro⟨t,ht,rfl⟩;rcases xan.1 ht with ht|ht
  ·obtain⟨k,hk,h⟩:=ih.2 ⟨t,ht,rfl⟩;exact⟨k,by omega,h⟩
  exact⟨m,by omega,ah.2 ⟨t,ht,rfl⟩⟩
theorem wA(hL:∀t∈L,eX n t)(hn:n<=16)(ho:∀i,i<n->ord.getD i 0<n):∀m,m<=n->(Gl n ord L m).Nodup
 |0,_=>List.nodup_nil
 |m+1,hm=>by
  refine xa4.2 ⟨wA hL hn ho m zO,(y2 m).filter _,λa ha b hb e=>?_⟩;subst e;obtain⟨k,hk,h1,h2⟩:=(wB hL hn ho m zO (oZ n a)).2 ⟨a,ha,rfl⟩;have h3:=(FN hL hn ho m zO (oZ n a)).2 ⟨a,(qJ.1 hb).1,rfl⟩;exact vS m _ h3 k hk h2
theorem Ss{P:Fn->Prop}{l:an.Fs}(hf:∀t∈l,eX n t)(hn:l.Nodup)(h:∀g,P g↔∃t∈l,g=oZ n t):o7 P l.length:=by
 refine⟨l.map (oZ n),?_,by simp,λg=>?_⟩
 ·refine xcc.2 (hn.imp_of_mem λ{a b} ha hb hne heq=>hne (VU (hf a ha) (hf b hb) heq))
 rw[h,xao];constructor
 ·rintro⟨t,ht,rfl⟩;exact⟨t,ht,rfl⟩
 rintro⟨t,ht,rfl⟩;exact⟨t,ht,rfl⟩
theorem Zp(hL:∀t∈L,eX n t)(hn:n<=16)(ho:∀i,i<n->ord.getD i 0<n):o7 (aG n ord (FT n L)) (kz n ord L n):=by
 rw[<-tp];exact Ss (DS hL hn n) (wA hL hn ho n (xaj _)) (wB hL hn ho n (xaj _))
theorem Wz(hL:∀t∈L,eX n t)(hn:n<=16)(ho:∀i,i<n->ord.getD i 0<n):sz n ord (FT n L)=kz n ord L n:=J4 (Zp hL hn ho)
end aA
set_option maxRecDepth 100000
namespace Go.Proofs
open Go Go.Sx
section
open aA
def u32(r:Nat):zV:=.int .u32 (r:Int)
def bu(d:Nd):List zV:=[iv (d.v:Int),u32 d.lo,u32 d.hi]
structure o6 where
 v:Int
 lo:Nat
 hi:Nat
 tk:Bool
 c:Nat
def o6.row(p:o6):List zV:=[iv p.v,u32 p.lo,u32 p.hi,.bool p.tk,.int .u8 (p.c:Int)]
def gD(N:eB)(r:Nat):Bool:=decide (r<2)||(N r).isSome
theorem bX{N:eB}{r:Nat}:gD N r=true↔live N r:=by
 unfold gD live;rw[xa9,xaA,xdG]
def got(N:eB)(r:Nat):List zV:=
 if r<2 then [iv (-1),u32 r,u32 r]else match N r with|some d=>bu d|none=>[iv 0,u32 0,u32 0]
theorem dX{N:eB}{r:Nat}{d:Nd}(h:N r=some d)(h2:2<=r):got N r=bu d:=by unfold got;rw[xab zO,h]
theorem fG{N:eB}{r:Nat}(h2:r<2):got N r=[iv (-1),u32 r,u32 r]:=by unfold got;rw[xae h2]
theorem C9{N:eB}{r:Nat}(h:gD N r=false):got N r=[iv 0,u32 0,u32 0]:=by
 unfold gD at h;rw[xaF,xbq]at h;unfold got;rw[xab h.1];cases hN:N r with
 |none=>rfl
 |some d=>rw[hN]at h;simp at h
def MB(p:o6):Option Nd:=if p.tk then some ⟨p.v.toNat,p.lo,p.hi⟩else none
structure A3(l:List o6)(fr:zL)(cap used:Nat)(N:eB):Prop where
 cap:l.length<=cap/\cap<=1048576
 two:2<=l.length
 const:∀r,r<2->∃p,l[r]? =some p/\p.v= -1/\p.lo=r/\p.hi=r/\p.tk=true
 nd:∀r,2<=r->N r=(l[r]?).bind MB
 n0:∀r,r<2->N r=none
 nn:∀(r:Nat) p,2<=r->l[r]? =some p->p.tk=true->0<=p.v
 Tu:fr.Nodup
 Bi:∀r,r∈fr↔∃p,l[r]? =some p/\p.tk=false
 used:used+fr.length=l.length
theorem A3.Cq{l:List o6}{fr:zL}{cap used:Nat}{N:eB}(h:A3 l fr cap used N)(r:Nat):gD N r=(match l[r]? with|some p=>p.tk|none=>false):=by
 unfold gD;by_cases h2:r<2
 ·obtain⟨p,hp,_,_,_,ht⟩:=h.const r h2;simp[h2,hp,ht]
 rw[h.nd r zO];cases hl:l[r]? with
 |none=>simp[h2]
 |some p=>cases ht:p.tk<;>simp[h2,MB,ht]
theorem A3.agj{l:List o6}{fr:zL}{cap used:Nat}{N:eB}(h:A3 l fr cap used N){r:Nat}{p:o6}(hp:l[r]? =some p)(ht:p.tk=true):got N r=p.row.take 3:=by
 by_cases h2:r<2
 ·obtain⟨p',Yv,h1,oM,h3,_⟩:=h.const r h2;rw[hp]at Yv;cases Yv;rw[fG h2];simp[o6.row,h1,oM,h3]
 have hn:=h.nn r p zO hp ht;rw[dX (d:=⟨p.v.toNat,p.lo,p.hi⟩) (by rw[h.nd r zO,hp];simp[MB,ht]) zO];simp[bu,o6.row,Int.toNat_of_nonneg hn]
theorem A3.lt{l:List o6}{fr:zL}{cap used:Nat}{N:eB}(h:A3 l fr cap used N){r:Nat}(hr:live N r):r<l.length:=by
 have:=bX.2 hr;rw[h.Cq]at this;cases hl:l[r]? with
 |none=>rw[hl]at this;simp at this
 |some p=>exact(xah.1 hl).1
def iX(pa cap used:Nat)(N:eB)(C:Hp):Prop:=
 ∃vl vf l fr Cl Cf,C=(pa,.cells #[iv (cap:Int),vl,vf,iv (used:Int)] 224 (0,0))::(Cl++Cf)/\
  aV 228 5 vl (l.map o6.row) Cl/\aQ 110 .u32 vf (fr.map (Nat.cast:Nat->Int)) Cf/\A3 l fr cap used N
abbrev ptr(b:Nat):zV:=.pointer (some ⟨b,0,none⟩)
theorem row_one(p:o6):∀x∈p.row,x.oneCell'=true:=by intro x hx;simp[o6.row,u32]at hx;rcases hx with rfl|rfl|rfl|rfl|rfl<;>rfl
theorem qw{pa cap used r:Nat}{N:eB}{C:Hp}(h:iX pa cap used N C)(hr:r<4294967296):
  Rd zQ 356 #[ptr pa,u32 r] C (· =.bool (gD N r)):=by
 obtain⟨vl,vf,l,fr,Cl,Cf,rfl,hl,hf,ho⟩:=h;refine aF λg=>GV ?_;refine br.q (Nil.ptr ?_);refine ai.mk (Ld.mk zM rfl ?_);refine hl.bP ?_;refine ae.fi ?_;rw[xax];rw[ho.Cq r];refine cf.and (match l[r]? with|some p=>p.tk|none=>false) (λhlt=>?_) rfl λ_=>bc.mk (.refl _) ?_
 ·have iB:=xcd hlt;apply Nil.ptr;refine ai.mk (Ld.mk zM rfl ?_);have hg:l[r]? =some l[r]:=xaa iB;refine hl.X7 (r:=l[r].row) (x:=.bool l[r].tk) (by rw[xat,hg];rfl) rfl (λ_ h=>by exact .tail _ (xad _ h)) ?_;exact⟨rfl,by rw[hg]⟩
 congr 1;by_cases hlt:r<l.length
 ·simp[hlt]
 rw[xaD zO];simp
theorem RZ{pa cap used r:Nat}{N:eB}{C:Hp}(h:iX pa cap used N C)(hr:r<4294967296):
  Rd zQ 286 #[ptr pa,u32 r] C (· =.tuple #[.agg (got N r).toArray,iv (if gD N r then 0 else 3)]):=by
 have h0:=h;obtain⟨vl,vf,l,fr,Cl,Cf,rfl,hl,hf,ho⟩:=h;refine aF λg=>HT ?_;intro b1 _;refine ae.aD (Br.no (aa.eq (qw h0 hr) (Un.not (Br.mk (λhb=>?_) (λhb=>?_)))))
 ·have hb':gD N r=false:=by simpa using hb
  refine Build.mk (cs:=[iv 0,.int .u32 0,.int .u32 0]) zK ?_;refine St.q ?_;refine ay.q ?_;exact bc.mk .tail (by rw[C9 hb',hb'];rfl)
 have hb':gD N r=true:=by simpa using hb
 have hx:=hb';rw[ho.Cq]at hx;cases hg:l[r]? with
 |none=>rw[hg]at hx;simp at hx
 |some p=>
 rw[hg]at hx;simp only at hx;apply Nil.ptr;refine ai.mk (Ld.mk zM rfl ?_);refine hl.X6 (r:=p.row) (by rw[xat,hg];rfl) zD (λ_ h=>by exact .tail _ (.tail _ (xad _ h))) ?_;refine St.p (λx hx=>row_one p x (xcE hx)) ?_;refine ay.q ?_;exact bc.mk .tail (by rw[ho.agj hg hx,hb'];rfl)
structure NOk(N:eB)(d:Nd):Prop where
 v:d.v<64
 lo:live N d.lo
 hi:live N d.hi
theorem iX.lt{pa cap used r:Nat}{N:eB}{C:Hp}(h:iX pa cap used N C)(hr:live N r):r<cap/\cap<=1048576:=by
 obtain⟨vl,vf,l,fr,Cl,Cf,rfl,hl,hf,ho⟩:=h;exact⟨xaQ (ho.lt hr) ho.cap.1,ho.cap.2⟩
theorem zf{pa cap used:Nat}{N:eB}{C:Hp}{d:Nd}(h:iX pa cap used N C)(hd:NOk N d):
  Rd zQ 368 #[ptr pa,.agg (bu d).toArray] C (· =iv 0):=by
 have hlo:=h.lt hd.lo;have hhi:=h.lt hd.hi;refine aF λg=>GK ?_;intro b1 _;refine Ld.f ?_;refine ae.lss (cf.or (decide (64<=d.v)) (λ_=>?_) rfl λ_=>?_)
 ·refine Ld.f ?_;exact ae.rI (b:=64) ⟨rfl,rfl⟩
 have hv:=hd.v;refine Br.no' zP ?_;intro J hJ;refine Ld.f ?_;refine aa.eq (qw h zO) ?_;rw[bX.2 hd.lo];refine Un.not (Split.go rfl (Ld.f ?_));refine aa.eq (qw h zO) ?_;rw[bX.2 hd.hi];refine Un.not (aI.mk (JE.mk (hJ _ _ λgs=>Br.no (bc.mk .tail rfl))))
theorem Qj{pa cap used r:Nat}{N:eB}{C:Hp}(h:iX pa cap used N C)(hr:∃d,N r=some d)(h2:2<=r):
  Rd zQ 358 #[ptr pa,u32 r] C (· =iv 0):=by
 have hl:=h.lt (.inr hr);refine aF λg=>GS ?_;intro J hJ;refine ae.xE (b:=1) (Split.go zP ?_);refine aa.eq (qw h zO) ?_;rw[bX.2 (.inr hr)];refine Un.not (aI.mk (JE.mk (hJ _ _ λgs=>Br.no (bc.mk (.refl _) rfl))))
theorem DI{pa cap used:Nat}{N:eB}{C:Hp}(h:iX pa cap used N C):Rd zQ 196 #[ptr pa] C (· =iv (used:Int)):=by
 obtain⟨vl,vf,l,fr,Cl,Cf,rfl,hl,hf,ho⟩:=h;refine aF λg=>IX ?_;refine ae.aD (Br.no (Nil.ptr ?_));refine ai.mk (Ld.mk zM rfl ?_);exact bc.mk (.refl _) rfl
theorem Gi{pa cap used:Nat}{N:eB}{C:Hp}(h:iX pa cap used N C):Rd zQ 321 #[ptr pa] C (· =iv (cap:Int)):=by
 obtain⟨vl,vf,l,fr,Cl,Cf,rfl,hl,hf,ho⟩:=h;refine aF λg=>Hx ?_;refine ae.aD (Br.no (Nil.ptr ?_));refine ai.mk (Ld.mk zM rfl ?_);exact bc.mk (.refl _) rfl
end
section
open aA
section
variable {l:List o6} {fr:zL} {cap used:Nat} {N:eB}
theorem E0(d:Nd){c:Nat}:MB ⟨(d.v:Int),d.lo,d.hi,true,c⟩=some d:=by simp[MB]
theorem A3.reuse(h:A3 l fr cap used N){r:Nat}(hr:r∈fr){fr':zL}(hf:fr.Perm (r::fr'))(d:Nd):
  2<=r/\r<cap/\N r=none/\A3 (l.set r ⟨(d.v:Int),d.lo,d.hi,true,0⟩) fr' cap (used+1) (up N r (some d)):=by
 obtain⟨p,hp,ht⟩:=(h.Bi r).1 hr;have hlt:=(xah.1 hp).1;have h2:2<=r:=by
  apply xdD;intro hn;obtain⟨p',Yv,_,_,_,ht'⟩:=h.const r zO;rw[hp]at Yv;cases Yv;rw[ht]at ht';cases ht'
 have eY:=hf.nodup_iff.1 h.Tu;rw[xaV]at eY;refine⟨h2,xaQ hlt h.cap.1,by rw[h.nd r h2,hp];simp[MB,ht],?_⟩;have gP:∀s,s≠r->(l.set r ⟨(d.v:Int),d.lo,d.hi,true,0⟩)[s]? =l[s]? :=λs hs=>xbG (xa8 hs);have mq:(l.set r ⟨(d.v:Int),d.lo,d.hi,true,0⟩)[r]? =some ⟨(d.v:Int),d.lo,d.hi,true,0⟩:=xbI hlt;exact {
  cap:=by simpa using h.cap
  two:=by simpa using h.two
  const:=λs hs=>by rw[gP s zO];exact h.const s hs
  nd:=λs hs=>by
   by_cases e:s=r
   ·subst e;rw[aP,mq];exact(E0 d).symm
   rw[aS e,gP s e];exact h.nd s hs
  n0:=λs hs=>by rw[aS zO];exact h.n0 s hs
  nn:=λs q hs hq Q4=>by
   by_cases e:s=r
   ·subst e;rw[mq]at hq;cases hq;exact xdd _
   rw[gP s e]at hq;exact h.nn s q hs hq Q4
  Tu:=eY.2
  Bi:=λs=>by
   by_cases e:s=r
   ·subst e;rw[mq];simp[eY.1]
   rw[gP s e,<-h.Bi s,hf.mem_iff];simp[e]
  used:=by have:=h.used;have:=hf.length_eq;simp only[xay,xbN]at*;omega}
theorem A3.grow(h:A3 l [] cap used N)(hlt:l.length<cap)(d:Nd):
  2<=l.length/\N l.length=none/\A3 (l++[⟨(d.v:Int),d.lo,d.hi,true,0⟩]) [] cap (used+1) (up N l.length (some d)):=by
 have h2:=h.two;refine⟨h2,by rw[h.nd _ h2,xaD (xaj _)];rfl,?_⟩;have gP:∀s,s≠l.length->(l++[(⟨(d.v:Int),d.lo,d.hi,true,0⟩:o6)])[s]? =l[s]? :=λs hs=>by
  rw[xdW];split
  ·rfl
  rw[xaD zP,xaD zO]
 have mq:(l++[(⟨(d.v:Int),d.lo,d.hi,true,0⟩:o6)])[l.length]? =some ⟨(d.v:Int),d.lo,d.hi,true,0⟩:=by simp
 exact {
  cap:=by simp;exact⟨hlt,h.cap.2⟩
  two:=by simp;omega
  const:=λs hs=>by rw[gP s zO];exact h.const s hs
  nd:=λs hs=>by
   by_cases e:s=l.length
   ·subst e;rw[aP,mq];exact(E0 d).symm
   rw[aS e,gP s e];exact h.nd s hs
  n0:=λs hs=>by rw[aS zO];exact h.n0 s hs
  nn:=λs q hs hq Q4=>by
   by_cases e:s=l.length
   ·subst e;rw[mq]at hq;cases hq;exact xdd _
   rw[gP s e]at hq;exact h.nn s q hs hq Q4
  Tu:=h.Tu
  Bi:=λs=>by
   by_cases e:s=l.length
   ·subst e;rw[mq];simp
   rw[gP s e];exact h.Bi s
  used:=by have:=h.used;simp at*;omega}
theorem A3.zA(h:A3 l fr cap used N){r:Nat}{p:o6}(h2:2<=r)(hp:l[r]? =some p)(ht:p.tk=true)(d:Nd):
  A3 (l.set r ⟨(d.v:Int),d.lo,d.hi,true,p.c⟩) fr cap used (up N r (some d)):=by
 have hlt:=(xah.1 hp).1;have gP:∀s,s≠r->(l.set r ⟨(d.v:Int),d.lo,d.hi,true,p.c⟩)[s]? =l[s]? :=λs hs=>xbG (xa8 hs);have mq:(l.set r ⟨(d.v:Int),d.lo,d.hi,true,p.c⟩)[r]? =some ⟨(d.v:Int),d.lo,d.hi,true,p.c⟩:=xbI hlt;exact {
  cap:=by simpa using h.cap
  two:=by simpa using h.two
  const:=λs hs=>by rw[gP s zO];exact h.const s hs
  nd:=λs hs=>by
   by_cases e:s=r
   ·subst e;rw[aP,mq];exact(E0 d).symm
   rw[aS e,gP s e];exact h.nd s hs
  n0:=λs hs=>by rw[aS zO];exact h.n0 s hs
  nn:=λs q hs hq Q4=>by
   by_cases e:s=r
   ·subst e;rw[mq]at hq;cases hq;exact xdd _
   rw[gP s e]at hq;exact h.nn s q hs hq Q4
  Tu:=h.Tu
  Bi:=λs=>by
   by_cases e:s=r
   ·subst e;rw[h.Bi,mq,hp];simp[ht]
   rw[gP s e];exact h.Bi s
  used:=by simpa using h.used}
theorem A3.free(h:A3 l fr cap used N){r:Nat}{p:o6}(h2:2<=r)(hp:l[r]? =some p)(ht:p.tk=true):
  A3 (l.set r ⟨0,0,0,false,0⟩) (fr++[r]) cap (used-1) (up N r none)/\0<used:=by
 have hlt:=(xah.1 hp).1;have gP:∀s,s≠r->(l.set r ⟨0,0,0,false,0⟩)[s]? =l[s]? :=λs hs=>xbG (xa8 hs);have mq:(l.set r ⟨0,0,0,false,0⟩)[r]? =some ⟨0,0,0,false,0⟩:=xbI hlt;have hnf:r∉fr:=λhm=>by obtain⟨q,hq,Q4⟩:=(h.Bi r).1 hm;rw[hp]at hq;cases hq;rw[ht]at Q4;cases Q4
 have hu:fr.length<l.length:=by
  have hn:(r::fr).Nodup:=xaV.2 ⟨hnf,h.Tu⟩;have:=cv (l:=r::fr) (l':=List.range l.length) hn λs hs=>by
   rw[xaM];rcases xak.1 hs with rfl|hs
   ·exact hlt
   obtain⟨q,hq,_⟩:=(h.Bi s).1 hs;exact(xah.1 hq).1
  rw[xaI]at this;exact this
 have U7:=h.used;refine⟨?_,by omega⟩;exact {
  cap:=by simpa using h.cap
  two:=by simpa using h.two
  const:=λs hs=>by rw[gP s zO];exact h.const s hs
  nd:=λs hs=>by
   by_cases e:s=r
   ·subst e;rw[aP,mq];rfl
   rw[aS e,gP s e];exact h.nd s hs
  n0:=λs hs=>by rw[aS zO];exact h.n0 s hs
  nn:=λs q hs hq Q4=>by
   by_cases e:s=r
   ·subst e;rw[mq]at hq;cases hq;cases Q4
   rw[gP s e]at hq;exact h.nn s q hs hq Q4
  Tu:=by rw[xa4];exact⟨h.Tu,by simp,λa ha c hc=>by simp at hc;subst hc;intro e;subst e;exact hnf ha⟩
  Bi:=λs=>by
   rw[xan,xaE];by_cases e:s=r
   ·subst e;rw[mq];simp
   rw[gP s e,<-h.Bi];simp[e]
  used:=by simp;omega}
end
theorem nM(l:List o6)(r:Nat)(p:o6):(l.map o6.row).set r p.row=(l.set r p).map o6.row:=by rw[xcQ]
theorem SN{pa cap used:Nat}{N:eB}{C:Hp}{d:Nd}(h:iX pa cap used N C)(hd:NOk N d)(hroom:used<cap):
  Fc zQ 322 #[ptr pa,.agg (bu d).toArray] C (λv C'=>∃r,v=.tuple #[u32 r,iv 0]/\2<=r/\r<cap/\N r=none/\iX pa cap (used+1) (up N r (some d)) C'):=by
 have h0:=h;obtain⟨vl,vf,l,fr,Cl,Cf,rfl,hl,hf,ho⟩:=h;have hcap:=ho.cap;have KK:=ho.used;refine aF λg=>Hw ?_;intro b1 _;refine ae.aD (Br.no (ay.q ?_));refine aa.eq (zf h0 hd) (ae.cG (Br.F (Nil.ptr ?_)));refine ai.mk (Ld.mk zM rfl ?_);refine hf.bP ?_;rw[xax];refine ae.m9 (b:=0) (Br.dec (λhp=>?_) (λhp=>?_))
 ·obtain⟨fr',r,rfl⟩:∃fr' r,fr=fr'++[r]:=⟨fr.dropLast,fr.getLast (by intro e;simp[e]at hp),(xd9 _).symm⟩;simp only[xaf,xay,xch]at hp KK⊢;obtain⟨g1,g2,g3,hok⟩:=ho.reuse (r:=r) zI (fr':=fr') (by exact List.perm_append_singleton _ _) d;apply Nil.ptr;refine ai.mk (Ld.mk zM rfl ?_);refine ae.bY (a:=fr'.length+1) (b:=1) ?_;rw[xb5];refine hf.ld (i:=fr'.length) (x:=(r:Int)) zI (λ_ h=>by exact .tail _ (.tail _ (xac _ h))) ?_;apply Nil.ptr;refine ai.mk (Ld.mk zM rfl ?_);refine ae.bY (a:=fr'.length+1) (b:=1) ?_;rw[xb5];refine hf.cut (i:=fr'.length) zI λv' Rq=>?_;have Z5:aQ 110 .u32 v' (fr'.map (Nat.cast:Nat->Int)) Cf:=by
   rw[xaJ,xez zI]at Rq;exact Rq
  have hone:v'.oneCell'=true:=by obtain⟨a,c,e⟩:=aV.len Z5;rw[e];rfl
  refine Nil.ptr (ai.mk (St.one (by exact .tail (.head _)) hone zI rfl ?_));refine DR.self (Nil.ptr (Ld.f ?_));refine ay.q ?_;refine Build.mk (cs:=(o6.mk (d.v:Int) d.lo d.hi true 0).row) zK ?_;refine hl.P7 (A:=[_,_]) (B:=Cf) (i:=r) (by rw[xax];have:=(ho.Bi r).1 zI;obtain⟨p,hp,_⟩:=this;exact(xah.1 hp).1) rfl (row_one _) λC' hl'=>?_;rw[nM]at hl';simp only[xaR,xb2];refine Nil.ptr (Ld.f ?_);refine ae.inc (Nil.ptr (ai.mk (St.one (by exact .tail (.head _)) rfl zI rfl ?_)));exact aN.mk .tail ⟨r,rfl,g1,g2,g3,vl,v',_,fr',C',Cf,rfl,hl',Z5,hok⟩
 obtain rfl:fr=[]:=xbT zO;simp only[xch]at KK;obtain⟨g1,g3,hok⟩:=ho.grow zO d;apply Nil.ptr;refine ai.mk (Ld.mk zM rfl ?_);refine hl.bP ?_;rw[xax];apply Nil.ptr;refine ai.mk (Ld.mk zM rfl ?_);refine ae.rI (Br.F (DR.of (R:=(b1,.cells (List.toArray (bu d)) 226 (0,0))::(pa,.cells #[iv (cap:Int),vl,vf,iv (used:Int)] 224 (0,0))::[]) (.cons (.cons .nil)) (Nil.ptr ?_)));refine ai.mk (Ld.mk zM rfl ?_);refine ay.q ?_;refine Build.mk (cs:=(o6.mk (d.v:Int) d.lo d.hi true 0).row) zK ?_;refine av.one (z:=.agg #[iv 0,.int .u32 0,.int .u32 0,.bool false,.int .u8 0]) (e:=228) (k:=5) zK zK zK zD rfl λbx=>?_;refine⟨.skip (.cons (.cons .nil)),?_⟩;refine hl.Gg (A:=[_,_,_]) (B:=Cf) (r:=(o6.mk (d.v:Int) d.lo d.hi true 0).row) (by exact .head _) rfl (row_one _) (by exact⟨[iv 0,.int .u32 0,.int .u32 0,.bool false,.int .u8 0],rfl,rfl⟩) zP zP λv' C' hl'=>?_;have qo:aV 228 5 v' ((l++[(⟨(d.v:Int),d.lo,d.hi,true,0⟩:o6)]).map o6.row) C':=by rw[xaJ];exact hl'
 simp only[xaR,xb2];refine⟨.skip (.cons (.cons .nil)),?_⟩;have hone:v'.oneCell'=true:=by obtain⟨a,c,e⟩:=qo.len;rw[e];rfl
 refine Nil.ptr (ai.mk (St.one (by exact .tail (.tail (.head _))) hone zI rfl ?_));refine Nil.ptr (Ld.f ?_);refine ae.inc (Nil.ptr (ai.mk (St.one (by exact .tail (.tail (.head _))) rfl zI rfl ?_)));refine Nil.ptr (Ld.f ?_);refine qo.bP ?_;refine ae.xx (b:=1) (by simp[bF];omega) zI (br.q (aN.mk (.skip .tail) ⟨l.length,by simp[u32],g1,by omega,g3,v',vf,_,[],C',Cf,rfl,qo,hf,hok⟩))
theorem Wd{pa cap used r:Nat}{N:eB}{C:Hp}{d:Nd}(h:iX pa cap used N C)(hd:NOk N d)(hr:∃e,N r=some e)(h2:2<=r):
  Fc zQ 301 #[ptr pa,u32 r,.agg (bu d).toArray] C (λv C'=>v=iv 0/\iX pa cap used (up N r (some d)) C'):=by
 have h0:=h;obtain⟨vl,vf,l,fr,Cl,Cf,rfl,hl,hf,ho⟩:=h;have hx:=bX.2 (.inr hr:live N r);rw[ho.Cq]at hx;obtain⟨p,hg,hx⟩:∃p,l[r]? =some p/\p.tk=true:=by
  cases hg:l[r]? with
  |none=>rw[hg]at hx;simp at hx
  |some p=>rw[hg]at hx;exact⟨p,rfl,hx⟩
 refine aF λg=>HD ?_;intro b1 _;refine ae.aD (Br.no (ay.q ?_));refine aa.eq (zf h0 hd) (ae.cG (Br.F (aa.eq (Qj h0 hr h2) (ae.cG (Br.F (DR.self (Nil.ptr ?_)))))));refine ai.mk (Ld.mk zM rfl ?_);refine ay.q ?_;refine hl.Uk (A:=[_,_]) (B:=Cf) (r:=p.row) (xs:=bu d) (n:=3) (by rw[xat,hg];rfl) ⟨rfl,by omega⟩ (by intro x hx;simp[bu,u32]at hx;rcases hx with rfl|rfl|rfl<;>rfl) λC' hl'=>?_;have e:(bu d++p.row.drop 3)=(o6.mk (d.v:Int) d.lo d.hi true p.c).row:=by simp[bu,o6.row,hx]
 rw[e,nM]at hl';exact aN.mk .tail ⟨rfl,vl,vf,_,fr,C',Cf,rfl,hl',hf,ho.zA h2 hg hx d⟩
theorem SU{pa cap used r:Nat}{N:eB}{C:Hp}(h:iX pa cap used N C)(hr:∃e,N r=some e)(h2:2<=r):
  Fc zQ 289 #[ptr pa,u32 r] C (λv C'=>v=iv 0/\iX pa cap (used-1) (up N r none) C'):=by
 have h0:=h;obtain⟨vl,vf,l,fr,Cl,Cf,rfl,hl,hf,ho⟩:=h;have hx:=bX.2 (.inr hr:live N r);rw[ho.Cq]at hx;obtain⟨p,hg,hx⟩:∃p,l[r]? =some p/\p.tk=true:=by
  cases hg:l[r]? with
  |none=>rw[hg]at hx;simp at hx
  |some p=>rw[hg]at hx;exact⟨p,rfl,hx⟩
 obtain⟨hok,hu0⟩:=ho.free h2 hg hx;have hcap:=ho.cap;have KK:=ho.used;refine aF λg=>HP ?_;refine ae.aD (Br.no (aa.eq (Qj h0 hr h2) (ae.cG (Br.F (Nil.ptr ?_)))));refine ai.mk (Ld.mk zM rfl ?_);refine Build.mk (cs:=(o6.mk 0 0 0 false 0).row) zK ?_;refine hl.P7 (A:=[_]) (B:=Cf) (i:=r) (by rw[xax];exact(xah.1 hg).1) rfl (row_one _) λC' hl'=>?_;rw[nM]at hl';simp only[xaR,xb2];refine Nil.ptr (Ld.f ?_);refine av.int (e:=110) zK zK zK λbx=>?_;have e1:(bx,Obj.cells (ax .u32 [(r:Int)]) 110 (0,0))::(pa,Obj.cells #[iv (cap:Int),vl,vf,iv (used:Int)] 224 (0,0))::(C'++Cf)=(bx,Obj.cells (ax .u32 [(r:Int)]) 110 (0,0))::(pa,Obj.cells #[iv (cap:Int),vl,vf,iv (used:Int)] 224 (0,0))::C'++(Cf++[]):=by simp
 rw[e1];refine hf.app (x:=(r:Int)) (B:=[]) (by exact .head _) zP zP λv' Cf' Rq=>?_;have Z5:aQ 110 .u32 v' ((fr++[r]).map (Nat.cast:Nat->Int)) Cf':=by rw[xaJ];exact Rq
 have hone:v'.oneCell'=true:=by obtain⟨a,c,e⟩:=aV.len Z5;rw[e];rfl
 simp only[xaR,xaL];refine Nil.ptr (ai.mk (St.one (by exact .tail (.head _)) hone zI rfl ?_));refine Nil.ptr (Ld.f ?_);refine ae.bY (b:=1) (Nil.ptr (ai.mk (St.one (by exact .tail (.head _)) rfl zI rfl ?_)));exact aN.mk .tail ⟨rfl,vl,v',_,_,C',Cf',rfl,hl',Z5,hok⟩
def nK(d:Nd):zV:=.agg (bu d).toArray
abbrev OJ(v:zV)(r:Nat):Prop:=v=u32 r
theorem Kz:Tryz.prog.underlying 226=some (.struct (Tryz.prog.fieldsOf 226)):=by kernel_rfl
theorem qH(a b:Nd):A1 zQ 226 (nK a) (nK b) (decide (a=b)):=by
 refine A1.flat (fs:=#[⟨"Var",3,0,false, "", "",0⟩,⟨"Lo",110,1,false, "", "",8⟩,⟨"Hi",110,2,false, "", "",12⟩]) zK zK ?_ ?_
 ·intro f hf;simp only[xak,xaS,xby]at hf;rcases hf with rfl|rfl|rfl
  ·exact⟨by decide,_,_,rfl,rfl,.inl ⟨.i64,_,_,by kernel_rfl,rfl,rfl⟩⟩
  ·exact⟨by decide,_,_,rfl,rfl,.inl ⟨.u32,_,_,by kernel_rfl,rfl,rfl⟩⟩
  exact⟨by decide,_,_,rfl,rfl,.inl ⟨.u32,_,_,by kernel_rfl,rfl,rfl⟩⟩
 obtain⟨a1,a2,a3⟩:=a;obtain⟨b1,b2,b3⟩:=b;simp[bu,u32];omega
theorem mJ(a:Nd):mi zQ 226 (nK a):=by
 refine mi.flat (fs:=#[⟨"Var",3,0,false, "", "",0⟩,⟨"Lo",110,1,false, "", "",8⟩,⟨"Hi",110,2,false, "", "",12⟩]) zK ?_;intro f hf;simp only[xak,xaS,xby]at hf;rcases hf with rfl|rfl|rfl
 ·exact⟨by decide,_,rfl,.inl ⟨.i64,_,_,by kernel_rfl,rfl,rfl⟩⟩
 ·exact⟨by decide,_,rfl,.inl ⟨.u32,_,_,by kernel_rfl,rfl,rfl⟩⟩
 exact⟨by decide,_,rfl,.inl ⟨.u32,_,_,by kernel_rfl,rfl,rfl⟩⟩
theorem KB(a:Nd):Instr.sameBits 10000 (nK a) (nK a)=true:=kP 9998 (by intro x hx;simp[bu,u32]at hx;rcases hx with rfl|rfl|rfl<;>exact .inl ⟨_,_,rfl⟩)
structure UM where
 b:Nat
 es:Array MapEntry
 ck:Nat
 l:List (Nd×Nat)
def ME(ms:List UM):Hp:=ms.map λm=>(m.b,.map m.es m.ck)
structure Tx(ms:List UM)(n:Nat)(T:Nd->Option Nat):Prop where
 len:ms.length=n
 dG:∀(v:Nat) m,ms[v]? =some m->aE nK OJ m.es m.ck m.l
 var:∀(v:Nat) m,ms[v]? =some m->∀x∈m.l,x.1.v=v
 T:∀d,T d=(ms[d.v]?).bind λm=>aK m.l d
def ob(pt n:Nat)(T:Nd->Option Nat)(C:Hp):Prop:=
 ∃vs Cs ms,C=(pt,.cells #[vs] 166 (0,0))::(Cs++ME ms)/\aV 167 1 vs (ms.map λm=>[.map (some m.b)]) Cs/\Tx ms n T
theorem qL{ms:List UM}{v:Nat}{m:UM}(h:ms[v]? =some m):(m.b,Obj.map m.es m.ck)∈ME ms:=xao.2 ⟨m,xaw h,rfl⟩
theorem Ai{es':Array MapEntry}{bB:Nat}{l':List (Nd×Nat)}:∀{ms:List UM} {v:Nat} {m:UM},ms[v]? =some m->c6 m.b (.map m.es m.ck) (.map es' bB) (ME ms) (ME (ms.set v ⟨m.b,es',bB,l'⟩))
 | [],v,m,h=>by simp at h
 |x::ms,0,m,h=>by simp at h;subst h;exact .head _
 |x::ms,v+1,m,h=>by simp at h;exact .tail (Ai h)
theorem yo{ms:List UM}{v:Nat}{m m':UM}(h:ms[v]? =some m)(hb:m'.b=m.b):(ms.set v m').map (λm=>[Value.map (some m.b)])=ms.map λm=>[Value.map (some m.b)]:=by
 rw[xcQ];apply xbd;intro j;rw[xbo];split
 ·rename_i e;subst e;have hlt:=(xah.1 h).1;have e2:ms[v]=m:=by rw[xaa hlt]at h;exact xbm h
  simp[hb,hlt,e2]
 rfl
theorem Tx.add{ms:List UM}{n:Nat}{T:Nd->Option Nat}(h:Tx ms n T){d:Nd}{m:UM}(hm:ms[d.v]? =some m){es':Array MapEntry}{bB r:Nat}(he:aE nK OJ es' bB (dZ m.l d r)):Tx (ms.set d.v ⟨m.b,es',bB,dZ m.l d r⟩) n (qk T d (some r)) where
 len:=by rw[xbN];exact h.len
 dG:=λv m' hm'=>by
  rw[xbo]at hm';split at hm'
  ·split at hm'
   ·cases hm';exact he
   cases hm'
  exact h.dG v m' hm'
 var:=λv m' hm' x hx=>by
  rw[xbo]at hm';split at hm'
  ·rename_i e;split at hm'
   ·cases hm';subst e;simp only[dZ]at hx;split at hx
    ·obtain⟨y,hy,rfl⟩:=xao.1 hx;split
     ·rfl
     exact h.var _ m hm y hy
    rcases xan.1 hx with hx|hx
    ·exact h.var _ m hm x hx
    simp at hx;subst hx;rfl
   cases hm'
  exact h.var v m' hm' x hx
 T:=λe=>by
  have hlt:=(xah.1 hm).1;by_cases ee:e=d
  ·subst ee;rw[jN,xbI hlt];simp[bJ]
  rw[pG ee,h.T e];by_cases ev:d.v=e.v
  ·rw[<-ev,xbI hlt,hm];simp[bJ,ee]
  rw[xbG ev]
theorem Tx.del{ms:List UM}{n:Nat}{T:Nd->Option Nat}(h:Tx ms n T){d:Nd}{m:UM}(hm:ms[d.v]? =some m){es':Array MapEntry}{bB:Nat}(he:aE nK OJ es' bB (ia m.l d)):Tx (ms.set d.v ⟨m.b,es',bB,ia m.l d⟩) n (qk T d none) where
 len:=by rw[xbN];exact h.len
 dG:=λv m' hm'=>by
  rw[xbo]at hm';split at hm'
  ·split at hm'
   ·cases hm';exact he
   cases hm'
  exact h.dG v m' hm'
 var:=λv m' hm' x hx=>by
  rw[xbo]at hm';split at hm'
  ·rename_i e;split at hm'
   ·cases hm';subst e;exact h.var _ m hm x (xbS.1 hx|>.1)
   cases hm'
  exact h.var v m' hm' x hx
 T:=λe=>by
  have hlt:=(xah.1 hm).1;by_cases ee:e=d
  ·subst ee;rw[jN,xbI hlt];simp[yl]
  rw[pG ee,h.T e];by_cases ev:d.v=e.v
  ·rw[<-ev,xbI hlt,hm];simp[yl,ee]
  rw[xbG ev]
theorem k7{pt n v:Nat}{T:Nd->Option Nat}{C:Hp}(h:ob pt n T C)(hv:v<n):Rd zQ 357 #[ptr pt,iv (v:Int)] C (· =iv 0):=by
 obtain⟨vs,Cs,ms,rfl,hs,ho⟩:=h;refine aF λg=>GU ?_;refine ae.aD (Br.no (ae.lss ?_));rw[xal (by omega:¬((v:Int)<0))];refine cf.or false (λ_=>?_) rfl λ_=>Br.no (bc.mk (.refl _) rfl);apply Nil.ptr;refine ai.mk (Ld.mk zM rfl ?_);refine hs.bP ?_;rw[xax,ho.len];exact ae.rI ⟨rfl,by rw[xal zO]⟩
end
end Go.Proofs
