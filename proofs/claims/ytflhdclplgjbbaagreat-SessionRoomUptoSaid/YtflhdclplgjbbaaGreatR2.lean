import Derived.Test.YtflhdclplgjbbaaGreatR1
import Derived.Laws.StructEq
import Derived.ChangeKeysEq
import Derived.Defers
import Derived.Test.YtflhdclplgjbbaaGreatProg
set_option linter.unusedVariables false
set_option linter.unusedSimpArgs false
set_option linter.unusedSectionVars false
namespace Go.Sx
open Go
section
variable {P:Program} {g:Gh} {H:Hp}
def xu(P:Program)(t:TypeId)(x y:zV):Prop:=
 (∃q a b,P.underlying t=some (.int q)/\x=.int q a/\y=.int q b)\/(∃a b,P.underlying t=some .bool/\x=.bool a/\y=.bool b)
theorem xu.eq{t:TypeId}{x y:zV}(h:xu P t x y)(d:Nat)(w:World):∃b,(Op.equalIn (d+1) t x y).run P w=.ok b w/\(b=true↔x=y):=by
 rcases h with⟨q,a,b,hu,rfl,rfl⟩|⟨a,b,hu,rfl,rfl⟩
 ·exact⟨a==b,by simp[Op.equalIn,run_underlying hu],by simp⟩
 exact⟨a==b,by simp[Op.equalIn,run_underlying hu],by simp⟩
theorem qu{t:TypeId}{xs:Array zV}{o:Nat}{x:zV}(hu:(∃q,P.underlying t=some (.int q))\/P.underlying t=some .bool)(h:xs[o]? =some x)(w:World):(part t xs o).run P w=.ok x w:=by
 rcases hu with⟨q,hu⟩|hu<;>simp[part,isAgg,run_underlying hu,h]
theorem pV(d:Nat)(xs ys:Array zV)(w:World):∀fs:List Field,(∀f∈fs,f.name≠ "_" /\∃x y,xs[f.offset]? =some x/\ys[f.offset]? =some y/\xu P f.type x y)->
  ∃b,(Op.eqFields (d+1) xs ys fs).run P w=.ok b w/\(b=true↔∀f∈fs,xs[f.offset]? =ys[f.offset]?)
 | [],_=>⟨true,by simp[Op.eqFields],by simp⟩
 |f::fs,h=>by
  obtain⟨hn,x,y,hx,hy,hp⟩:=h f zI;obtain⟨b',ih,hb'⟩:=pV d xs ys w fs λg hg=>h g (by simp[hg]);have hu:(∃q,P.underlying f.type=some (.int q))\/P.underlying f.type=some .bool:=by
   rcases hp with⟨q,_,_,hu,_⟩|⟨_,_,hu,_⟩
   ·exact .inl ⟨q,hu⟩
   exact .inr hu
  obtain⟨b,hr,hb⟩:=hp.eq d w;have p1:=qu hu hx w;have p2:=qu hu hy w;cases b with
  |false=>
   refine⟨false,by simp[Op.eqFields,hn,p1,p2,hr],?_⟩;simp only[xaO,xak,forall_eq_or_imp,false_iff,hx,hy,xar];exact λhh=>absurd (hb.2 hh.1) zD
  |true=>
   refine⟨b',by simp[Op.eqFields,hn,p1,p2,hr,ih],?_⟩;rw[hb'];simp only[xak,forall_eq_or_imp,hx,hy,xar,hb.1 rfl,xcU]
theorem BI.flat{t:TypeId}{fs:Array Field}(ht:P.underlying t=some (.struct fs))(hp:P.stoodInHeld t=false){xs ys:Array zV}{p:Prop}[Decidable p]
 (h:∀f∈fs.toList,f.name≠ "_" /\∃x y,xs[f.offset]? =some x/\ys[f.offset]? =some y/\xu P f.type x y)(he:(∀f∈fs.toList,xs[f.offset]? =ys[f.offset]?)↔p):BI P t (.agg xs) (.agg ys) (decide p):=by
 have e:P.fieldsOf t=fs:=by simp[Program.fieldsOf,ht]
 intro w;show(Op.equalIn (9998+1+1) t _ _).run P w=_;rw[run_equalIn_struct w (9998+1) t xs ys (by rw[e];exact ht) hp,e];obtain⟨b,hr,hb⟩:=pV (P:=P) 9998 xs ys w fs.toList h;rw[hr];congr 1;rw[xbE,hb,he,xaJ]
theorem mw.flat{t:TypeId}{fs:Array Field}(ht:P.underlying t=some (.struct fs)){xs:Array zV}
 (h:∀f∈fs.toList,f.name≠ "_" /\∃x,xs[f.offset]? =some x/\xu P f.type x x):mw P t (.agg xs):=by
 intro b w;have gen:∀d,(Instr.checkKey b (d+1+1) t (.agg xs)).run P w=.ok () w:=by
  intro d;unfold Instr.checkKey;simp only[Sem.run_bind,run_underlying ht,Result.andThen_ok];rw[<-Array.forIn_toList];clear ht;generalize fs.toList=l at h;induction l with
  |nil=>simp
  |cons f l ih=>
   obtain⟨hn,x,hx,hp⟩:=h f zI;have hu:(∃q,P.underlying f.type=some (.int q))\/P.underlying f.type=some .bool:=by
    rcases hp with⟨q,_,_,hu,_⟩|⟨_,_,hu,_⟩
    ·exact .inl ⟨q,hu⟩
    exact .inr hu
   have p1:=qu hu hx w;have p2:(Instr.checkKey b (d+1) f.type x).run P w=.ok () w:=by
    rcases hp with⟨q,a,_,hu,rfl,_⟩|⟨a,_,hu,rfl,_⟩
    ·simp only[Instr.checkKey,Sem.run_bind,run_underlying hu,Result.andThen_ok,Sem.run_pure]
    simp only[Instr.checkKey,Sem.run_bind,run_underlying hu,Result.andThen_ok,Sem.run_pure]
   have:=ih λg hg=>h g (by simp[hg]);simp only[xev,Sem.run_bind];simp[hn,p1,p2];simpa using this
 exact gen 9998
theorem kS(n:Nat){xs:Array zV}(h:∀x∈xs.toList,(∃q a,x=.int q a)\/∃a,x=.bool a):Instr.sameBits (n+1+1) (.agg xs) (.agg xs)=true:=by
 simp only[Instr.sameBits,xeo,xco,xc3];intro x hx;obtain⟨a,b⟩:=x;have h1:=xd1 hx;have e:a=b:=by
  obtain⟨i,hi,he⟩:=xba.1 hx;simp at he;exact he.1.symm.trans he.2
 subst e;rcases h a h1.1 with⟨q,z,rfl⟩|⟨z,rfl⟩<;>simp[Instr.sameBits]
end
section
variable {κ:Type} [DecidableEq κ] {β:Type} {ke:κ->zV} {vr:zV->β->Prop} {es:Array MapEntry} {ck b:Nat} {m:List (κ×β)} {P:Program} {H:Hp}
def fS(m:List (κ×β))(k:κ):List (κ×β):=m.filter λy=>¬y.1=k
theorem yW{k k':κ}:aG (fS m k) k'=if k'=k then none else aG m k':=by
 unfold aG fS;rw[List.find?_filter];by_cases e:k'=k
 ·rw[xad e];rw[xcP.2]
  ·rfl
  intro x _;simp;intro h1 h2;exact h1 (h2.trans e)
 rw[xab e];congr 1;congr 1
 funext y
 by_cases e2:y.1=k'
 ·have:¬y.1=k:=λe3=>e (e2.symm.trans e3);simp[e2,this,e]
 simp[e2]
theorem bL{k k':κ}{x:β}:aG (eo m k x) k'=if k'=k then some x else aG m k':=by
 unfold aG eo;by_cases hk:k∈m.map Prod.fst
 ·rw[xad hk];by_cases e:k'=k
  ·subst e;rw[xad rfl];induction m with
   |nil=>simp at hk
   |cons y m ih=>
    rw[xay,xbv];by_cases ey:y.1=k'
    ·simp[ey]
    rw[xab ey];simp only[ey,xdn];rw[ih];rw[xay]at hk;rcases xak.1 hk with h|h
    ·exact absurd h.symm ey
    simpa using h
  rw[xab e];have:∀l:List (κ×β),(List.find? (λy=>decide (y.1=k')) (l.map λy=>if y.1=k then(k,x)else y)).map Prod.snd=(List.find? (λy=>decide (y.1=k')) l).map Prod.snd:=by
   intro l;induction l with
   |nil=>rfl
   |cons y l ih=>
    rw[xay,xbv,xbv];by_cases ey:y.1=k
    ·have h1:decide (k=k')=false:=by simpa using λh=>e h.symm
     have h2:decide (y.1=k')=false:=by rw[ey];exact h1
     simp only[xad ey,h1,h2];exact ih
    simp only[xab ey];cases decide (y.1=k')with
    |true=>rfl
    |false=>exact ih
  exact this m
 rw[xab hk];rw[List.find?_append];by_cases e:k'=k
 ·subst e;have:List.find? (λy=>decide (y.1=k')) m=none:=by
   rw[xcP];intro y hy;simp;intro h;exact hk (xan.2 ⟨y,hy,h⟩)
  simp[this]
 have:¬k=k':=λh=>e h.symm;rw[xab e];cases List.find? (λy=>decide (y.1=k')) m<;>simp[this]
theorem vV(nd:(m.map Prod.fst).Nodup){i:Nat}{k:κ}{y:β}(hi:m[i]? =some (k,y)):fS m k=m.eraseIdx i:=by
 unfold fS;induction m generalizing i with
 |nil=>simp at hi
 |cons z m ih=>
  rw[xay,xaW]at nd;cases i with
  |zero=>
   simp at hi;subst hi;rw[List.eraseIdx_cons_zero,List.filter_cons_of_neg zI];rw[xcd];intro w hw;simp only[decide_not,xbG,xbp];intro e;exact nd.1 (xan.2 ⟨w,hw,e⟩)
  |succ i=>
   simp at hi;have hz:¬z.1=k:=λe=>nd.1 (xan.2 ⟨_,xav hi,e.symm⟩);rw[List.eraseIdx_cons_succ,List.filter_cons_of_pos (by simpa using hz),ih nd.2 hi]
omit [DecidableEq κ] in
theorem aF.less(h:aF ke vr es ck m)(i:Nat):aF ke vr (es.eraseIdxIfInBounds i) ck (m.eraseIdx i):=by
 have hl:(es.eraseIdxIfInBounds i).toList=es.toList.eraseIdx i:=by
  unfold Array.eraseIdxIfInBounds;split
  ·simp
  rename_i hh;rw[List.eraseIdx_of_length_le (by simpa using hh)]
 refine⟨?_,λj e x he hx=>?_,?_,?_,λe he=>?_⟩
 ·have:=xck List.length hl;rw[xcc,List.length_eraseIdx]at this;rw[this,List.length_eraseIdx,xcc,h.len]
 ·rw[<-xbc,hl,List.getElem?_eraseIdx]at he;rw[List.getElem?_eraseIdx]at hx;split at he
  ·rename_i hh;rw[xad hh]at hx;exact h.key j e x (by simpa using he) hx
  rename_i hh;rw[xab hh]at hx;exact h.key (j+1) e x (by simpa using he) hx
 ·rw[<-gW];exact h.nd.sublist (xdU _ _)
 ·rw[hl,<-gW];exact h.born.sublist (xdU _ _)
 rw[hl]at he;exact h.lt e (List.mem_of_mem_eraseIdx he)
theorem aF.ahZ{P:Program}{kt:TypeId}{k:κ}{K:Hp->Prop}(hk:∀a b,BI P kt (ke a) (ke b) (decide (a=b)))(hc:∀a,mw P kt (ke a))(h:aF ke vr es ck m)(hm:(b,Obj.map es ck)∈H)
 (h1:∀es',aF ke vr es' ck (fS m k)->∃H',c8 b (.map es ck) (.map es' ck) H H'/\K H'):r7 P kt H (.map (some b)) (ke k) K:=by
 refine⟨hc k,.inr ?_⟩;rcases h.DU hk k with⟨i,y,e,g1,g2,g3,g4⟩|⟨g1,g2⟩
 ·refine⟨b,es,ck,_,rfl,g4,?_⟩;have:=h.less i;rw[<-vV h.nd g2]at this;exact h1 _ this
 refine⟨b,es,ck,_,rfl,g2,hm,?_⟩;have e:fS m k=m:=by
  unfold fS;rw[xcd];intro w hw;simp only[decide_not,xbG,xbp];intro e;exact g1 (xan.2 ⟨w,hw,e⟩)
 obtain⟨H',hu,hK⟩:=h1 es (by rw[e];exact h);have:∀{H H':Hp},c8 b (.map es ck) (.map es ck) H H'->H'=H:=by
  intro H H' hu;generalize ho:Obj.map es ck=o at hu;induction hu with
  |head R=>rfl
  |tail _ ih=>rw[ih]
 rw[this hu]at hK;exact hK
end
section
variable {P:Program} {H:Hp}
theorem aV.KA{T:TypeId}{k:Nat}{v:zV}{rs:List (List zV)}{C:Hp}(hs:aV T k v rs C){i:Nat}{kd:IntKind}{r:List zV}(hr:rs[i]? =some r)(hC:∀y∈C,y∈H){K:zV->Prop}(hk:K (.agg r.toArray)):
  av k v (.int kd (i:Int)) λp=>az k H p K:=by
 have hi:=(xah.1 hr).1;obtain⟨b',aK,rfl,rfl,aJ⟩:=hs.pos zO;exact av.nat hi (az.row (hC _ (List.Mem.head _)) aJ (by rw[xaY hi];exact hr) hk)
theorem aV.Zo{T:TypeId}{k:Nat}{v x:zV}{rs:List (List zV)}{C:Hp}(hs:aV T k v rs C){i j:Nat}{kd:IntKind}{r:List zV}(hr:rs[i]? =some r)(hj:r[j]? =some x)(hC:∀y∈C,y∈H){K:zV->Prop}(hk:K x):
  av k v (.int kd (i:Int)) λp=>ai j p λq=>Ld H q K:=by
 have hi:=(xah.1 hr).1;obtain⟨b',aK,rfl,rfl,aJ⟩:=hs.pos zO;exact av.nat hi (ai.mk (Ld.row (hC _ (List.Mem.head _)) aJ (by rw[xaY hi];exact hr) hj hk))
theorem aV.XR{T:TypeId}{v x:zV}{rs:List (List zV)}{C:Hp}(hs:aV T 1 v rs C){i:Nat}{kd:IntKind}(hr:rs[i]? =some [x])(hC:∀y∈C,y∈H){K:zV->Prop}(hk:K x):
  av 1 v (.int kd (i:Int)) λp=>Ld H p K:=by
 have hi:=(xah.1 hr).1;obtain⟨b',aK,rfl,rfl,aJ⟩:=hs.pos zO;exact av.nat hi (Ld.abR (l:=rs++aK) (hC _ (List.Mem.head _)) aJ (by rw[xaY hi];exact hr) hk)
theorem aV.Zn{T:TypeId}{k n:Nat}{v:zV}{rs:List (List zV)}{C:Hp}(hs:aV T k v rs C){i:Nat}{kd:IntKind}{r:List zV}(hr:rs[i]? =some r)(hn:0<n/\n<=k)(hC:∀y∈C,y∈H){K:zV->Prop}(hk:K (.agg (r.take n).toArray)):
  av k v (.int kd (i:Int)) λp=>ai 0 p λq=>az n H q K:=by
 have hi:=(xah.1 hr).1;obtain⟨b',aK,rfl,rfl,aJ⟩:=hs.pos zO;have Dv:r.length=k:=aJ r (xae _ (xav hr));refine av.nat hi (ai.mk ?_);have BS:At H (.pointer (some ⟨b',0+i*k+0,none⟩)) (r.take n):=⟨b',_,_,_,_,rfl,hC _ (List.Mem.head _),λj x hj=>by
  have Ul:j<n:=by have:=(xah.1 hj).1;simp at this;omega
  rw[List.getElem?_take,xad Ul]at hj;rw[xcu,xa5,iL aJ zO,xaY hi,hr];exact hj⟩
 exact az.at BS zP hn.1 (λ_ h=>h) hk
theorem Mr{k:Nat}{l:List (List zV)}(h:∀r∈l,r.length=k){i:Nat}{r xs:List zV}(hi:l[i]? =some r)(hx:xs.length<=k):jV (rows l) (i*k) xs=rows (l.set i (xs++r.drop xs.length)):=by
 have hlt:=(xah.1 hi).1;have hr:=h r (xav hi);have key:∀(xs:List zV) (j:Nat) (l:List (List zV)) (r:List zV),(∀r∈l,r.length=k)->l[i]? =some r->j+xs.length<=k->jV (rows l) (i*k+j) xs=rows (l.set i (r.take j++xs++r.drop (j+xs.length))):=by
  intro xs;induction xs with
  |nil=>
   intro j l r h hi _;have hlt:=(xah.1 hi).1;simp only[jV,xaL,xce,xcu,xbq];congr 1;apply xbd;intro m;rw[xbn];by_cases e:i=m
   ·subst e;rw[xad rfl,hi,xad hlt]
   rw[xab e]
  |cons x xs ih=>
   intro j l r h hi hj;have hr:=h r (xav hi);have hlt:=(xah.1 hi).1;simp only[xaz]at hj;rw[jV,pM h hi zO,xcK];rw[ih (j+1) (l.set i (r.set j x)) (r.set j x) (λy hy=>by
    rcases xcf hy with hy|rfl
    ·exact h y hy
    simpa using hr) (by simp[hlt]) zO]
   rw[List.set_set];congr 2;have e1:(r.set j x).take (j+1)=r.take j++[x]:=by
    rw[xc1,xad zO,xeq];simp[List.take_take,show min (j+1) j=j by omega,show j+1-min j r.length=1 by omega]
   have e2:(r.set j x).drop (j+1+xs.length)=r.drop (j+(x::xs).length):=by
    rw[List.drop_set,xad zO];congr 1;simp;omega
   rw[e1,e2];simp
 have:=key xs 0 l r h hi zO;simpa using this
theorem aV.Vp{T:TypeId}{k n:Nat}{v:zV}{rs:List (List zV)}{C A B:Hp}(hs:aV T k v rs C){i:Nat}{kd:IntKind}{r xs:List zV}(hr:rs[i]? =some r)(hx:xs.length=n/\n<=k)(h1:∀x∈xs,x.oneCell'=true){K:Hp->Prop}
 (hk:∀C',aV T k v (rs.set i (xs++r.drop n)) C'->K (A++(C'++B))):av k v (.int kd (i:Int)) λp=>ai 0 p λq=>St n (A++(C++B)) q (.agg xs.toArray) K:=by
 have hi:=(xah.1 hr).1;obtain⟨b',aK,rfl,rfl,aJ⟩:=hs.pos zO;refine av.nat hi (ai.mk ?_);have hg:(rs++aK)[i]? =some r:=by rw[xaY hi];exact hr
 have e:(rs++aK).set i (xs++r.drop xs.length)=rs.set i (xs++r.drop n)++aK:=by rw[xc0 _ _ hi,hx.1]
 refine St.mk (c':=rows (rs.set i (xs++r.drop n)++aK)) (H':=A++([(b',.cells (rows (rs.set i (xs++r.drop n)++aK)) T zZ)]++B)) (((c8.head _).append B).cr A) (by simpa[Value.cells]using hx.1) ?_ (by simpa[Value.cells]using h1) ?_ ?_
 ·rw[bT aJ,xa5,xcu,xaf];have:=xaX k (xcI hi);rw[xbu]at this;have h2:rs.length*k<=(rs.length+aK.length)*k:=xaX k zO;omega
 ·simp only[Value.cells,xa5,xcu];rw[Mr aJ hg zO,e]
 have Dv:r.length=k:=aJ r (xae _ (xav hr));refine hk _ (aV.mk' (aK:=aK) (λy hy=>?_) zI zI);rcases xao.1 hy with hy|hy
 ·rcases xcf hy with hy|rfl
  ·exact aJ y (xae _ hy)
  simp;omega
 exact aJ y (xac _ hy)
theorem aV.QD{T:TypeId}{k:Nat}{v:zV}{rs:List (List zV)}{C A B:Hp}(hs:aV T k v rs C){i:Nat}{kd:IntKind}{xs:List zV}(hi:i<rs.length)(hx:xs.length=k)(h1:∀x∈xs,x.oneCell'=true){K:Hp->Prop}
 (hk:∀C',aV T k v (rs.set i xs) C'->K (A++(C'++B))):av k v (.int kd (i:Int)) λp=>St k (A++(C++B)) p (.agg xs.toArray) K:=by
 obtain⟨b',aK,rfl,rfl,aJ⟩:=hs.pos zO;refine av.nat hi (St.row (l:=rs++aK) (((c8.head _).append B).cr A) aJ zP hx h1 ?_);have e:(rs++aK).set i xs=rs.set i xs++aK:=by rw[xc0 _ _ hi]
 rw[e];refine hk [(b',_)] (aV.mk' (aK:=aK) (λy hy=>?_) zI zI);rcases xao.1 hy with hy|hy
 ·rcases xcf hy with hy|rfl
  ·exact aJ y (xae _ hy)
  exact hx
 exact aJ y (xac _ hy)
theorem aS.ld{T:TypeId}{kd x8:IntKind}{v:zV}{l:List Int}{C:Hp}(hs:aS T kd v l C){i:Nat}{x:Int}(hx:l[i]? =some x)(hC:∀y∈C,y∈H){K:zV->Prop}(hk:K (.int kd x)):av 1 v (.int x8 (i:Int)) λp=>Ld H p K:=
 aV.XR hs (x:=.int kd x) (by simp[hx]) hC hk
theorem aS.put{T:TypeId}{kd x8:IntKind}{v:zV}{l:List Int}{C A B:Hp}(hs:aS T kd v l C){i:Nat}{x:Int}(hi:i<l.length){K:Hp->Prop}
 (hk:∀C',aS T kd v (l.set i x) C'->K (A++(C'++B))):av 1 v (.int x8 (i:Int)) λp=>St 1 (A++(C++B)) p (.int kd x) K:=by
 have hi':i<(l.map λn=>[Value.int kd n]).length:=by simpa using hi
 obtain⟨b',aK,rfl,rfl,aJ⟩:=aV.pos hs zO;refine av.nat hi' ?_;refine St.cell (l:=l.map (λn=>[Value.int kd n])++aK) (i:=i) (k:=1) (j:=0) (r:=[.int kd l[i]]) (((c8.head _).append B).cr A) aJ (by rw[xaY hi'];simp[hi]) zO rfl ?_;have e:(l.map (λn=>[Value.int kd n])++aK).set i ([Value.int kd l[i]].set 0 (.int kd x))=(l.set i x).map (λn=>[Value.int kd n])++aK:=by
  rw[xc0 _ _ hi',xcQ];rfl
 rw[e];refine hk [(b',_)] (aV.mk' (aK:=aK) (λr hr'=>?_) zI zI);rcases xao.1 hr' with hr'|hr'
 ·obtain⟨y,_,rfl⟩:=xan.1 hr';rfl
 exact aJ r (xac _ hr')
theorem aM.nil{H:Hp}:aM H []:=λ_ _ h=>h.bg
theorem aV.cut{T:TypeId}{k i:Nat}{v:zV}{rs:List (List zV)}{C:Hp}(hs:aV T k v rs C)(hi:i<=rs.length){kd:IntKind}{K:zV->Prop}(hk:∀v',aV T k v' (rs.take i) C->K v'):
  gx k v none (some (.int kd (i:Int))) K:=by
 by_cases hp:0<rs.length
 ·obtain⟨b',aK,rfl,rfl,aJ⟩:=hs.pos hp;refine gx.upto zO (hk _ ?_);have e:rs++aK=rs.take i++(rs.drop i++aK):=by rw[<-xai,xbq]
  rw[e]at aJ⊢;exact aV.mk' aJ zP zP
 obtain rfl:rs=[]:=xbW zO;obtain rfl:i=0:=by simpa using hi
 obtain⟨a,c,rfl⟩:=hs.len;exact gx.upto (xaN _) (hk _ (by simpa using hs))
theorem aS.cut{T:TypeId}{kd x8:IntKind}{i:Nat}{v:zV}{l:List Int}{C:Hp}(hs:aS T kd v l C)(hi:i<=l.length){K:zV->Prop}(hk:∀v',aS T kd v' (l.take i) C->K v'):
  gx 1 v none (some (.int x8 (i:Int))) K:=
 aV.cut hs (by simpa using hi) λv' h=>hk v' (by unfold aS;rw[List.map_take];exact h)
end
end Go.Sx
namespace Go.Sx
open Go
section
variable {P:Program} {H C:Hp} {c:Hp->Hp}
theorem bH.split(h:bH C H c):∃A B,∀X,c X=A++(X++B):=by
 induction h with
 |here=>exact⟨[],[],λX=>by simp⟩
 | @left A=>exact⟨[],A,λX=>rfl⟩
 | @cons x H c h ih=>
  obtain⟨A,B,e⟩:=ih;exact⟨x::A,B,λX=>by show x::c X=_;rw[e];rfl⟩
 | @app A' H c h ih=>
  obtain⟨A,B,e⟩:=ih;exact⟨A'++A,B,λX=>by show A'++c X=_;rw[e,xai]⟩
theorem bH.sub(h:bH C H c):∀x∈C,x∈H:=λx hx=>by
 obtain⟨A,B,e⟩:=h.split;rw[h.spec.1,e];exact xac _ (xae _ hx)
theorem aV.rZ{elem k bytes:Nat}{zero:zV}{v:zV}{rs:List (List zV)}(h:aV elem k v rs C)(hh:bH C H c){xb:Nat}{r:List zV}{xT:TypeId}{fz:Nat×Nat}{xc:Nat}
 (hx:(xb,Obj.cells r.toArray xT fz)∈H)(hr:r.length=k)(h1:∀u∈r,u.oneCell'=true)(hz:∃z:List zV,zero.cells=z.toArray/\z.length=k)
 (hb:(rs.length+1)*bytes<=140737488355328)(cI:rs.length+1<=9223372036854775807){K:zV->Hp->Prop}
 (hk:∀v' C',aV elem k v' (rs++[r]) C'->K v' (c C')):App P elem k bytes zero H v (.slice (some ⟨xb,0,none⟩) 1 xc) K:=by
 obtain⟨A,B,e⟩:=hh.split;have e2:=hh.spec.1;rw[e]at e2;subst e2;exact h.GH hx hr h1 hz hb cI λv' C' ho=>by have:=hk v' C' ho;rwa [e]at this
theorem aS.rZ{T:TypeId}{kd:IntKind}{v:zV}{l:List Int}{bytes:Nat}(h:aS T kd v l C)(hh:bH C H c){xb xc:Nat}{x:Int}{xT:TypeId}{fz:Nat×Nat}(hx:(xb,Obj.cells (aA kd [x]) xT fz)∈H)
 (hb:(l.length+1)*bytes<=140737488355328)(hm:l.length+1<=9223372036854775807){K:zV->Hp->Prop}(hk:∀v' C',aS T kd v' (l++[x]) C'->K v' (c C')):App P T 1 bytes (.int kd 0) H v (.slice (some ⟨xb,0,none⟩) 1 xc) K:=by
 obtain⟨A,B,e⟩:=hh.split;have e2:=hh.spec.1;rw[e]at e2;subst e2;exact h.app hx hb hm λv' C' ho=>by have:=hk v' C' ho;rwa [e]at this
theorem aS.Yy{T:TypeId}{kd:IntKind}{v x:zV}{l l2:List Int}{bytes:Nat}(h:aS T kd v l C)(hh:bH C H c)(hx:dz kd H x l2)
 (hb:(l.length+l2.length)*bytes<=140737488355328)(hm:l.length+l2.length<=9223372036854775807){K:zV->Hp->Prop}(hk:∀v' C',aS T kd v' (l++l2) C'->K v' (c C')):App P T 1 bytes (.int kd 0) H v x K:=by
 obtain⟨A,B,e⟩:=hh.split;have e2:=hh.spec.1;rw[e]at e2;subst e2;exact h.apps hx hb hm λv' C' ho=>by have:=hk v' C' ho;rwa [e]at this
theorem aS.ny{T:TypeId}{kd x8:IntKind}{v:zV}{l:List Int}(hs:aS T kd v l C)(hh:bH C H c){i:Nat}{x:Int}(hi:i<l.length){K:Hp->Prop}
 (hk:∀C',aS T kd v (l.set i x) C'->K (c C')):av 1 v (.int x8 (i:Int)) λp=>St 1 H p (.int kd x) K:=by
 obtain⟨A,B,e⟩:=hh.split;have e2:=hh.spec.1;rw[e]at e2;subst e2;exact hs.put hi λC' ho=>by have:=hk C' ho;rwa [e]at this
theorem aS.one{T:TypeId}{kd:IntKind}{v:zV}{l:List Int}(h:aS T kd v l C):v.oneCell'=true:=by obtain⟨a,c,e⟩:=aV.len h;rw[e];rfl
theorem fg(l:zL)(i x:Nat):(iw l).set i (x:Int)=iw (l.set i x):=by unfold iw;rw[xcQ]
theorem cC(a b:zL):iw (a++b)=iw a++iw b:=by unfold iw;rw[xaB]
theorem bE{l:zL}{i:Nat}(h:i<l.length):(iw l)[i]? =some ((l.getD i 0:Nat):Int):=by
 rw[dg (xaa h)];simp[List.getD,xaa h]
end
end Go.Sx
namespace Go.Sx
open Go
theorem lT{p:Nat->Prop}(h:∃k,p k):∃k,p k/\∀j,p j->k<=j:=by
 obtain⟨k,hk⟩:=h;induction k using Nat.strongRecOn with
 |_ k ih=>
  by_cases e:∃j,j<k/\p j
  ·obtain⟨j,hj,hp⟩:=e;exact ih j hj hp
  exact⟨k,hk,λj hp=>xc5 λhlt=>e ⟨j,hlt,hp⟩⟩
open Classical in
noncomputable def n5(J:Nat->List zV->Hp->Prop)(vs:List zV)(H:Hp):Nat:=if h:∃k,J k vs H then Classical.choose (lT h)else 0
theorem MS{J:Nat->List zV->Hp->Prop}{vs:List zV}{H:Hp}{k:Nat}(h:J k vs H):n5 J vs H<=k:=by
 unfold n5;rw[xdW ⟨k,h⟩];exact(xcj (lT ⟨k,h⟩)).2 k h
theorem Dj{J:Nat->List zV->Hp->Prop}{vs:List zV}{H:Hp}(h:∃k,J k vs H):J (n5 J vs H) vs H:=by
 unfold n5;rw[xdW h];exact(xcj (lT h)).1
def oE(J:Nat->List zV->Hp->Prop):List zV->Hp->Prop:=λvs H=>∃k,J k vs H
theorem oE.open{J:Nat->List zV->Hp->Prop}{vs:List zV}{H:Hp}(h:oE J vs H):∃k,J k vs H/\k=n5 J vs H:=⟨_,Dj h,rfl⟩
theorem oE.mk{J:Nat->List zV->Hp->Prop}{vs:List zV}{H:Hp}(k:Nat)(h:J k vs H):JE (oE J) vs H:=JE.mk ⟨k,h⟩
theorem oE.back{J:Nat->List zV->Hp->Prop}{vs vs':List zV}{H H' H0:Hp}{k:Nat}(e:aM H H')(hk:k=n5 J vs H0)(k':Nat)(h:J k' vs' H')(hlt:k'<k):aC (oE J) (n5 J) vs' H vs H0:=
 aC.of e ⟨k',h⟩ (xaA (MS h) zO)
theorem ab7{vs:List zV}{H:Hp}{Q:(List zV->Hp->Prop)->(List zV->Hp->Nat)->Prop}(J:Nat->List zV->Hp->Prop)(k:Nat)(h:J k vs H)(hq:Q (oE J) (n5 J)):
  ∃(I:List zV->Hp->Prop) (m:List zV->Hp->Nat),JE I vs H/\Q I m:=⟨_,_,oE.mk k h,hq⟩
section
variable {P:Program} {H:Hp}
theorem ax.Rs{t e:Nat}{kd:IntKind}{x y:Int}{K:zV->Hp->Prop}(h1:P.underlying t=some (.slice e))(h2:dH P e=some 1)(h3:fJ P e=some (.int kd 0))
 (h:∀b,K (.slice (some ⟨b,0,Option.none⟩) 2 2) ((b,.cells (aA kd [x,y]) e zZ)::H)):ax P t 2 [(0,.int kd x),(1,.int kd y)] H K:=by
 refine⟨aA kd [x,y],e,1,_,h1,h2,h3,by decide,?_,λb _=>h b⟩;have e1:Array.range (2*1)=#[0,1]:=rfl;simp[Instr.fill,Value.cells,aA,e1]
theorem Ms(kd:IntKind)(l:List Int):rows (l.map λn=>[Value.int kd n])=aA kd l:=by
 unfold rows aA;congr 1;induction l with
 |nil=>rfl
 |cons x l ih=>rw[xay,xcX,ih];rfl
theorem aS.made{T:TypeId}{kd:IntKind}{b:Nat}(l:List Int):aS T kd (.slice (some ⟨b,0,none⟩) l.length l.length) l [(b,.cells (aA kd l) T zZ)]:=by
 have:=aV.mk' (T:=T) (k:=1) (b:=b) (n:=l.length) (c:=l.length) (rs:=l.map λn=>[Value.int kd n]) (aK:=[]) (λr hr=>by
  rw[xaL]at hr;obtain⟨x,_,rfl⟩:=xan.1 hr;rfl) zI zI
 rw[xaL,Ms]at this;exact this
end
end Go.Sx
namespace Go.Sx
open Go
section
variable {P:Program} {g:Gh}
structure PD where
 f:FuncId
 l:List zV
def kQ(P:Program)(g:Gh)(f:FuncId)(args:Array zV)(H:Hp)(R:Ending->Hp->Prop):Prop:=
 ∀w,Own g H w->∀u,CallsD P f args u w λe u' w'=>u'=u/\∃H',Own g H' w'/\R e H'
def j9(P:Program)(g:Gh)(f:FuncId)(args:Array zV)(H:Hp)(K:Hp->Prop):Prop:=kQ P g f args H λe H'=>(∃v,e=.returned v)/\K H'
def PO(P:Program)(g:Gh)(K:Hp->Prop):List PD->Hp->Prop
 | [],H=>K H
 |x::r,H=>j9 P g x.f x.l.toArray H (PO P g K r)
def aaQ(P:Program)(o:Oper)(ρ:Operand->zV)(k:PD->Prop):Prop:=
 match o.op with
 | .defer c=>match c.callee with
  | .value x=>match ρ x with
   | .func (.func f) first cap=>cond (aU P f) (k ⟨f,first.toList++(c.args.toList.map ρ++cap.toList)⟩) False
   |_=>False
  |_=>False
 |_=>False
def Rr:Code->Option (Array Oper×Oper)
 | .region _ ops false=>match ops.toList.getLast? with
  |some o=>match o.op with
   | .defer _=>some (ops,o)
   |_=>none
  |none=>none
 |_=>none
def SU(P:Program)(g:Gh)(fn:Func)(R:Ending->Hp->Prop)(dl:List PD):Exit->Fr->Hp->Prop
 | .normal,fr,H=>PO P g (λH'=>vx P fr H' fn.results.toList λvs=>R (.returned (EZ vs)) H') dl H
 | .ret,fr,H=>PO P g (λH'=>vx P fr H' fn.results.toList λvs=>R (.returned (EZ vs)) H') dl H
 |_,_,_=>False
def Gp(P:Program)(g:Gh)(n:Nat)(E:List PD->Exit->Fr->Hp->Prop):Code->Hn->List PD->Fr->Hp->Prop
 | .seq x y,hn,dl,fr,H=>
  match Rr x with
  |some (ops,o)=>cond (o.dst.isNone&&o.guard.isNone)
    (eU P g n ops false (ops.toList.length+1) false none [] ops.toList.dropLast fr H (λ_ fr' H'=>aaQ P o (ev fr') λd=>Gp P g n E y hn.b (d::dl) fr' H') (λ_ _=>False)) False
  |none=>match hn.m with
   |0=>den P g n x hn.a (Ca (Gp P g n E y hn.b dl) (E dl)) fr H
   |_=>cond (VG x hn.I)
    (aeo hn.L.length (λvs H'=>∀gs,Gp P g n E y hn.b dl (mix hn.L vs hn.I fr gs) H') λJ=>den P g n x hn.a (Ca (λfr' H'=>JE J (EJ fr' hn.L) H') (E dl)) fr H) False
 |c,hn,dl,fr,H=>den P g n c hn (E dl) fr H
def S7(P:Program)(g:Gh)(fn:Func)(hn:Hn)(args:List zV)(H:Hp)(R:Ending->Hp->Prop):Prop:=
 match fn.body with
 |some c=>cond (Nat.ble args.length fn.ntmps) (Gp P g fn.ntmps (SU P g fn R) c hn [] (jY args 0) H) False
 |none=>False
def N6:List PanicEntry->Hp->Prop:=λ_ _=>∀_:Fr,False
def DOK(P:Program)(x:PD)(d:Deferred):Prop:=∃cap args,d={target:=.fn (.func x.f) cap,args:=args}/\args++cap=x.l.toArray/\aU P x.f=true
inductive JK(P:Program):List PD->List Deferred->Prop
 |nil:JK P [] []
 |cons {x d l ds} (h:DOK P x d) (hr:JK P l ds):JK P (x::l) (d::ds)
theorem uY{fn:Func}{tmps:Array zV}{K:Hp->Prop}{R:Ending->World->Prop}(hK:∀H w,Own g H w->K H->∃v,(results fn tmps).run P w=.ok v w/\R (.returned v) w):
  ∀{dl:List PD} {ds:List Deferred},JK P dl ds->∀H w,Own g H w->PO P g K dl H->Leaves P fn tmps R ds .returning w
 |_,_,.nil,H,w,hw,h=>hK H w hw h
 |_,_,.cons ⟨cap,args,hd,ha,hc⟩ hr,H,w,hw,h=>by
  subst hd;refine leaves_cons zI ?_ ((h w hw .returning).mono ?_)
  ·show(callFunc _ (args++cap)).run P w=_;rw[ha];exact fH hc _ w
  rintro e u' w' ⟨rfl,H',ho,⟨v,rfl⟩,hk⟩;exact uY hK hr H' w' ho hk
theorem qG{fn:Func}{R:Ending->Hp->Prop}{n:Nat}{dl:List PD}{ds:List Deferred}(hd:JK P dl ds){e:Exit}{fr:Fr}{H:Hp}{a:Act}{w:World}(ha:cA ds n a fr)(hw:Own g H w)(h:SU P g fn R dl e fr H):
  bodyPostD P fn (λe w'=>∃H',Own g H' w'/\R e H') e a w:=by
 have key:∀{H},Own g H w->PO P g (λH'=>vx P fr H' fn.results.toList λvs=>R (.returned (EZ vs)) H') dl H->Leaves P fn a.tmps (λe w'=>∃H',Own g H' w'/\R e H') a.defers .returning w:=λhw h=>by
  rw[ha.defers];refine uY (λH w hw h=>?_) hd _ _ hw h;obtain⟨vs,hr,hk⟩:=iM ha hw h;exact⟨_,hr,H,hw,hk⟩
 cases e with
 |normal=>exact key hw h
 |ret=>exact key hw h
 |panic ch=>exact h.elim
 |exit id=>exact h.elim
 |goto l=>exact h.elim
 |outgrown=>exact h.elim
theorem FU{c:Code}{ops:Array Oper}{o:Oper}(h:Rr c=some (ops,o)):∃id d,c=.region id ops false/\ops.toList=ops.toList.dropLast++[o]/\o.op=.defer d:=by
 unfold Rr at h;split at h
 ·rename_i id ops';split at h
  ·rename_i o' ho;split at h
   ·rename_i d hd;simp only[xar,xdv]at h;obtain⟨rfl,rfl⟩:=h;refine⟨id,d,rfl,?_,hd⟩;obtain⟨hne,e⟩:=List.getLast?_eq_some_iff.1 ho;rw[e];simp
   cases h
  cases h
 cases h
theorem T9{o:Oper}{fr:Fr}{k:PD->Prop}(h:aaQ P o (ev fr) k):∃x d,k x/\DOK P x d/\∀w,(execOp (ev fr) o).run P w=.ok (.defer d) w:=by
 unfold aaQ at h;split at h<;>try exact h.elim
 rename_i c hop;split at h<;>try exact h.elim
 rename_i x hc;split at h<;>try exact h.elim
 rename_i f first cap hx
 cases fO:aU P f<;>simp only[fO,xap,xag]at h;refine⟨_,{target:=.fn (.func f) cap,args:=first++c.args.map (ev fr)},h,⟨cap,_,rfl,?_,fO⟩,λw=>?_⟩
 ·apply xdf;simp
 simp only[execOp,hop,resolve,hc,hx,Deferred.ofValue,Sem.run_bind,Sem.run_pure,Result.andThen_ok]
theorem Gn{n:Nat}{fn:Func}{R:Ending->Hp->Prop}:∀(c:Code) (hn:Hn) (dl:List PD) (fr:Fr) (H:Hp),Gp P g n (SU P g fn R) c hn dl fr H->∀(ds:List Deferred),JK P dl ds->∀(a:Act) (w:World),cA ds n a fr->Own g H w->
  c.wp P (bodyPostD P fn λe w'=>∃H',Own g H' w'/\R e H') a w:=by
 have plain:∀(c:Code) (hn:Hn) (dl:List PD) (fr:Fr) (H:Hp),den P g n c hn (SU P g fn R dl) fr H->∀(ds:List Deferred),JK P dl ds->∀(a:Act) (w:World),cA ds n a fr->Own g H w->
   c.wp P (bodyPostD P fn λe w'=>∃H',Own g H' w'/\R e H') a w:=λc hn dl fr H h ds hd a w ha hw=>
  wp_mono (me c hn _ fr H h a w ha hw) λe a' w' ⟨fr',H',dQ,eO,_,hq⟩=>qG hd dQ eO hq
 intro c;induction c with
 |seq x y _ ih=>
  intro hn dl fr H h ds hd a w ha hw;unfold Gp at h;split at h
  ·rename_i ops o hx;obtain⟨id,d,rfl,hl,hop⟩:=FU hx;cases hc:(o.dst.isNone&&o.guard.isNone)<;>simp only[hc,xap,xag]at h;simp only[xaF,Option.isNone_iff_eq_none]at hc;refine wp_seq (wp_region_list ?_);rw[hl];refine cJ _ _ _ _ _ fr H _ _ h trivial (jg.nil fr) a w ha hw [o] _ ?_ ?_
   ·intro a' w' qN fr' H' dQ eO _ _ hk;refine wpList_plain hc.2 λK hK=>?_;obtain⟨x,dd,hx,hok,hrun⟩:=T9 hk;show o.upon P a' K _ ((execOp a'.eval o).run P w');rw[dQ.eval,hrun];refine hK _ _ ?_;refine ih _ _ fr' H' hx (dd::ds) (.cons hok hd) _ _ ?_ eO;rw[hc.1];exact⟨xck _ dQ.defers,dQ.size,dQ.get⟩
   intro ch a' w' fr' H' _ _ hk;exact hk.elim
  split at h
  ·refine wp_seq (wp_mono (me x _ _ fr H h a w ha hw) ?_);rintro e a' w' ⟨fr',H',dQ,eO,ho,hq⟩;cases e with
   |normal=>exact ih _ _ fr' H' hq ds hd a' w' dQ eO
   |ret=>exact qG (e:=.ret) hd dQ eO hq
   |exit id=>exact hq.elim
   |goto l=>exact hq.elim
   |panic ch=>exact hq.elim
   |outgrown=>exact hq.elim
  ·cases hno:VG x hn.I<;>simp only[hno,xap,xag]at h;have h':=h (λvs H'=>∀gs,Gp P g n (SU P g fn R) y hn.b dl (mix hn.L vs hn.I fr gs) H') (xP.intro (λvs H' hh=>hh) _);refine wp_seq (wp_mono (me x _ _ fr H h' a w ha hw) ?_);rintro e a' w' ⟨fr',H',dQ,eO,ho,hq⟩;cases e with
   |normal=>
    obtain⟨Hj,wv,hq⟩:=hq;have hq':=hq fr';rw[vQ λs hs=>ho rfl s (vO hno s hs)]at hq';exact ih _ _ fr' Hj hq' ds hd a' w' dQ (wv _ _ eO)
   |ret=>exact qG (e:=.ret) hd dQ eO hq
   |exit id=>exact hq.elim
   |goto l=>exact hq.elim
   |panic ch=>exact hq.elim
   |outgrown=>exact hq.elim
 |_=>intro hn dl fr H h;exact plain _ hn dl fr H h
theorem Rx{args:List zV}{m:Nat}(hle:args.length<=m):cA [] m {tmps:=args.toArray++Array.replicate (m-args.toArray.size) undef,defers:=[]} (jY args 0):=by
 refine⟨rfl,by simp;omega,λs=>?_⟩;rw[mT,xas,xdS];simp only[xcW,xcC,xa2,xc4];by_cases hs:s<args.length
 ·simp[hs,List.getD]
 rw[xab hs,xc2];have:args.getD s undef=undef:=by simp[List.getD,xaC (xc5 hs)]
 rw[this];split<;>rfl
theorem D0{f:FuncId}{fn:Func}{hn:Hn}{args:List zV}{H:Hp}{R:Ending->Hp->Prop}(hf:P.funcs[f]? =some fn)(h:S7 P g fn hn args H R):bC P g f args.toArray H R:=by
 intro w hw;unfold S7 at h;split at h<;>try exact h.elim
 rename_i c hc;cases hl:Nat.ble args.length fn.ntmps<;>simp only[hl,xap,xag]at h;exact calls_of_wp_defers hf hc (Gn c hn [] _ H h [] .nil _ w (Rx (xcS hl)) hw)
theorem DZ{f:FuncId}{fn:Func}{hn:Hn}{args:List zV}{H:Hp}{R:Ending->Hp->Prop}(hf:P.funcs[f]? =some fn)(h:Gr P g fn hn args H R):kQ P g f args.toArray H R:=by
 intro w hw u;unfold Gr at h;split at h<;>try exact h.elim
 rename_i c hc;cases hl:Nat.ble args.length fn.ntmps<;>simp only[hl,xap,xag]at h;refine callsD_of_wp hf hc (wp_mono (me c hn _ _ H h _ w (Rx (xcS hl)) hw) ?_);rintro e a' w' ⟨fr',H',dQ,eO,_,hq⟩;cases e with
 |normal=>obtain⟨vs,hr,hk⟩:=iM dQ eO hq;exact⟨dQ.defers,_,hr,H',eO,hk⟩
 |ret=>obtain⟨vs,hr,hk⟩:=iM dQ eO hq;exact⟨dQ.defers,_,hr,H',eO,hk⟩
 |panic ch=>exact⟨dQ.defers,H',eO,hq⟩
 |exit id=>exact hq.elim
 |goto l=>exact hq.elim
 |outgrown=>exact hq.elim
abbrev Jt:=List zV->Hp->Prop
abbrev Mt:=List zV->Hp->Nat
abbrev Rt:=Ending->Hp->Prop
abbrev Hn.n(a b:Hn):Hn:=.h 0 [] [] a b
theorem fN{f:FuncId}{fn:Func}{hn:Hn}{args:List zV}{H:Hp}{R:Rt}{L:Prop}(hf:P.funcs[f]? =some fn)(h:L)(e:Gr P g fn hn args H R=L):bC P g f args.toArray H R:=Gq hf (e.mpr h)
theorem AO{f:FuncId}{fn:Func}{hn:Hn}{args:List zV}{H:Hp}{R:Rt}{L:Prop}(hf:P.funcs[f]? =some fn)(h:L)(e:S7 P g fn hn args H R=L):bC P g f args.toArray H R:=D0 hf (e.mpr h)
theorem AP{f:FuncId}{fn:Func}{hn:Hn}{args:List zV}{H:Hp}{R:Rt}{L:Prop}(hf:P.funcs[f]? =some fn)(h:L)(e:Gr P g fn hn args H R=L):kQ P g f args.toArray H R:=DZ hf (e.mpr h)
end
end Go.Sx
set_option maxRecDepth 100000
namespace Go.Proofs
open Go Go.Sx Tryz
variable {g:Gh} {a0 a1 a2 a3 a4 a5 a6 a7 a8 a9 ud uc a12 a13 a14 a15:zV} {H:Hp} {R:Rt}
abbrev pt(b:Nat):zV:=.pointer (some ⟨b,0,none⟩)
noncomputable abbrev zQ:=Tryz.prog
abbrev CF:=aa Tryz.prog
abbrev iv(n:Int):zV:=.int .i64 n
abbrev ui(n:Int):zV:=.int .u32 n
abbrev wi(n:Int):zV:=.int .u64 n
abbrev bi(n:Int):zV:=.int .u8 n
abbrev vT:zV:=.bool true
abbrev vF:zV:=.bool false
abbrev lE:=ae .num .eql
abbrev lN:=ae .num .neq
abbrev lL:=ae .num .lss
abbrev lG:=ae .num .gtr
abbrev lA:=ae .num .add
abbrev lS:=ae .num .sub
abbrev lD(n:Nat)(p:zV)(H:Hp)(k:zV->Prop):Prop:=ai n p λv=>Ld H v k
abbrev lM(n:Nat)(p:zV)(H:Hp)(k:zV->Prop):Prop:=Nil p λq=>ai n q λv=>Ld H v k
abbrev lI(e:Nat)(p i:zV)(H:Hp)(k:zV->Prop):Prop:=av e p i λv=>Ld H v k
abbrev lX(v:zV)(k:zV->zV->Prop):Prop:=Ext 0 v λx=>Ext 1 v λy=>k x y
abbrev rt(R:Rt)(v:zV)(H:Hp):Prop:=R (.returned v) H
abbrev tP(a b:zV):zV:=.tuple #[a,b]
abbrev lW(H:Hp)(c:Array zV)(t:Nat)(k:Nat->Hp->Prop):Prop:=N7 H (.cells c t zZ) k
abbrev lO(a:zV)(i:Bool->Prop)(k:Bool->Prop):Prop:=cS a false i (λt=>vT=Value.bool t) λt=>∀_:Fr,k t
abbrev lU(a:zV)(i:Bool->Prop)(k:Bool->Prop):Prop:=cS a true i (λt=>vF=Value.bool t) λt=>∀_:Fr,k t
abbrev lV(H:Hp)(v:zV)(t:Bool):Prop:=H=H/\v=Value.bool t
abbrev lC(n:Nat)(p:zV)(k:zV->Prop):Prop:=Nil p λq=>ai n q k
abbrev lQ(n:Nat)(H:Hp)(c:Array zV)(t:Nat)(v:zV)(k:Nat->Hp->Prop):Prop:=N7 H (.cells c t zZ) λb H=>St n H (pt b) v λH=>k b H
abbrev sc:=bC Tryz.prog
theorem sd{g:Gh}{f:FuncId}{fn:Func}(hn:Hn){args:List zV}{H:Hp}{R:Rt}{L:Prop}(hf:Tryz.prog.funcs[f]? =some fn)(h:L)(e:Gr Tryz.prog g fn hn args H R=L:=by kernel_rfl):sc g f args.toArray H R:=fN hf h e
abbrev Y0:=Gh->Hp->Rt->Prop
abbrev Y1:=Gh->zV->Hp->Rt->Prop
abbrev Y2:=Gh->zV->zV->Hp->Rt->Prop
abbrev Y3:=Gh->zV->zV->zV->Hp->Rt->Prop
abbrev Y4:=Gh->zV->zV->zV->zV->Hp->Rt->Prop
abbrev Y5:=Gh->zV->zV->zV->zV->zV->Hp->Rt->Prop
abbrev CR(R:Rt)(g:Gh)(f:Nat)(a:Array zV)(H:Hp)(K:zV->Hp->Prop):Prop:=aa Tryz.prog g f a H K (dj R)
abbrev CN(g:Gh)(f:Nat)(a:Array zV)(H:Hp)(K:zV->Hp->Prop):Prop:=aa Tryz.prog g f a H K ej
abbrev lK(H:Hp)(v:zV)(t:Nat)(k:Nat->Hp->Prop):Prop:=N7 H (.cells (Value.cells v) t zZ) k
abbrev i0:zV:=iv 0
abbrev i1:zV:=iv 1
abbrev oG:=ae .num .geq
abbrev oA:=ae .num .and
abbrev oR:=ae .num .shr
abbrev oL:=ae .num .shl
abbrev oO:=ae .num .or
abbrev oQ:=ae .num .leq
abbrev oM:=ae .num .mul
abbrev oP(a:zV)(k:zV->Prop):Prop:=ae .ptr .eql a (.pointer none) k
abbrev jA(A:Hp->Prop)(B:Jt->Prop):Prop:=∀J:Jt,(∀H,(∀_:Fr,A H)->J [] H)->B J
abbrev jB(A:zV->Hp->Prop)(B:Jt->Prop):Prop:=∀J:Jt,(∀w H,(∀_:Fr,A w H)->J [w] H)->B J
abbrev jC(A:zV->zV->Hp->Prop)(B:Jt->Prop):Prop:=∀J:Jt,(∀w x H,(∀_:Fr,A w x H)->J [w,x] H)->B J
abbrev yA(l:List zV)(H:Hp)(K:Jt->Mt->zV->Hp->Prop):Prop:=∃(I:Jt) (m:Mt),JE I l H/\∀w H,I [w] H->∀_:Fr,K I m w H
abbrev yB(l:List zV)(H:Hp)(K:Jt->Mt->zV->zV->Hp->Prop):Prop:=∃(I:Jt) (m:Mt),JE I l H/\∀w x H,I [w,x] H->∀_:Fr,K I m w x H
abbrev nC:Array zV:=#[i0,ui 0,ui 0]
abbrev sZ:zV:=.slice none 0 0
abbrev qA(L:Y0)(f:Nat):Prop:=∀{g H R},L g H R->sc g f #[] H R
abbrev qB(L:Y1)(f:Nat):Prop:=∀{g a H R},L g a H R->sc g f #[a] H R
abbrev qC(L:Y2)(f:Nat):Prop:=∀{g a b H R},L g a b H R->sc g f #[a,b] H R
abbrev qD(L:Y3)(f:Nat):Prop:=∀{g a b c H R},L g a b c H R->sc g f #[a,b,c] H R
abbrev qE(L:Y4)(f:Nat):Prop:=∀{g a b c d H R},L g a b c d H R->sc g f #[a,b,c,d] H R
abbrev qF(L:Y5)(f:Nat):Prop:=∀{g a b c d e H R},L g a b c d e H R->sc g f #[a,b,c,d,e] H R
def hr(m:Nat)(T:zL):Nat->Nat->Hn->Hn
 |_,0,x=>x
 |i,k+1,x=>.h m [i] T (hr m T (i+1) k x) .e
def hN:Nat->Hn->Hn
 |0,x=>x
 |k+1,x=>.n .e (hN k x)
def zA(x:Hn):Hn:=.n .e x
def zB(x:Hn):Hn:=.n x .e
def zE(m:Nat)(A T:zL)(x:Hn):Hn:=.h m A T x .e
def zF(m:Nat)(A T:zL):Hn:=.h m A T .e .e
def yR:Nat->zL:=List.range
def L4:Y2:=λa b c d e=>lK d b 23 λb d=>CR e a 6 #[] d λd f=>Un .not d λd=>Br d (rt e vF f) (az 5 f (pt b) λd=>CR e a 7 #[d] f λd f=>lX d λd g=>lN g i0 λg=>Br g (oP d λg=>rt e g f) (lD 0 (pt b) f λb=>CR e a 11 #[b] f λb f=>CR e a 7 #[b] f λb f=>lX b λb g=>lN g i0 λg=>Br g (rt e vF f) (Build Tryz.prog 45 [(0,d),(1,b)] λg=>lK f g 45 λf g=>aR c λh=>yA [i0] g λg i j k=>lL j h λh=>Br h (jA (λh=>lA j i1 λl=>aC g i [l] h [j] k) λg=>av 5 c j λc=>az 5 k c λc=>lQ 5 k #[(bi 0),i0,i0,i0,(wi 0)] 35 c λc h=>lD 0 (pt c) h λi=>lE i (bi 23) λi=>lO i (λi=>lD 0 (pt c) h λj=>lE j (bi 22) λj=>(lV h j i)) λi=>Br (Value.bool i) (az 5 h (pt c) λi=>CR e a 9 #[d,i] h λi j=>lQ 4 j #[i0,i0,(wi 0),i0] 37 i λi j=>lD 1 (pt i) j λi=>lN i (iv (-1)) λi=>Br i (rt e vF j) (JE g [] j)) (DR h λi=>az 5 i (pt c) λj=>az 5 i (pt c) λl=>∀m:Hp,
CN (a.add m) 9 #[d,j] h λd h=>aM h i/\
∀i:Hp,
CN (a.add i) 12 #[(pt f),l] h λh i=>∀j:Hp,
CN (a.add j) 9 #[b,h] i λh i=>lW i #[i0,i0,(wi 0),i0] 37 λi j=>lW j #[i0,i0,(wi 0),i0] 37 λj l=>∀_:Hp,
St 4 l (pt i) d λd=>∀_:Hp,
St 4 d (pt j) h λd=>lD 0 (pt i) d λh=>lE h (iv 9) λh=>Br h (jB (λh l=>Br h (rt e vF l) (lD 0 (pt j) l λh=>lN h i0 λh=>lU h (λh=>lD 0 (pt j) l λm=>lN m (iv 9) λm=>(lV l m h)) λh=>lU (Value.bool h) (λh=>lD 0 (pt j) l λm=>lN m (iv 8) λm=>(lV l m h)) λh=>Br (Value.bool h) (rt e vF l) (JE g [] l))) λh=>lD 0 (pt j) d λl=>lE l i0 λl=>Split l true (lD 1 (pt j) d λl=>oG l i0 λl=>aH vT l vF λl=>Split l true (lD 1 (pt j) d λl=>Build Tryz.prog 35 [(0,(bi 13)),(1,l)] λl=>CR e a 9 #[b,l] d λa b=>Az 0 a λa=>lN a i0 λa=>aH vT a vF λa=>JE h [a] b) (aH vF undef vF λa=>JE h [a] d)) (aH vF undef vF λa=>aH a undef vF λa=>JE h [a] d)) (lD 0 (pt j) d λa=>lE a (iv 9) λa=>Br a (rt e vT d) (lD 0 (pt i) d λa=>lD 0 (pt j) d λb=>lN a b λa=>Br a (rt e vF d) (jA (λa=>lD 2 (pt i) a λb=>lD 2 (pt j) a λh=>lN b h λb=>lU b (λb=>lD 0 (pt c) a λh=>lN h (bi 17) λh=>(lV a h b)) λb=>lU (Value.bool b) (λb=>lD 0 (pt c) a λh=>lN h (bi 18) λh=>(lV a h b)) λb=>lU (Value.bool b) (λb=>lD 0 (pt c) a λc=>lN c (bi 21) λc=>(lV a c b)) λb=>Br (Value.bool b) (rt e vF a) (JE g [] a)) λa=>lD 1 (pt i) d λb=>oG b i0 λb=>Br b (lD 1 (pt i) d λb=>lM 2 (pt f) d λc=>aR c λc=>lN b c λb=>Br b (rt e vF d) (DR d λb=>lM 2 (pt f) b λc=>lD 1 (pt j) b λg=>∀_:Hp,
ax Tryz.prog 43 1 [(0,g)] d λg h=>aM h b/\
∀_:Hp,
App Tryz.prog 3 1 8 i0 h c g λb c=>lC 2 (pt f) λf=>∀_:Hp,
St 1 c f b λb=>JE a [] b)) (JE a [] d)))))) (rt e vT k))))
theorem T4:qC L4 4:=λh=>sd (hN 7 (zB (zA (zB (zE 0 [40] [5,7,8,38,39] (zA (zA (zE 1 [] [5,7,8,38,39,40] (zB (zA (.n (zB (zF 0 [] [1])) (.n (zE 1 [] [] (hr 0 [1] 0 2 (hr 0 [1] 3 3 (hr 1 [1] 8 2 (zE 0 [2] [1] (hr 0 [1] 6 6 .e)))))) (.n (zB (zA (zB (.n (zF 1 [86] [5,7,8,13,38,39,40]) (zB (zB (zF 0 [] [1]))))))) (.h 1 [] [5,7,8,10,12,13,38,39,40] (zA (zB (zA (zE 1 [] [] (hr 0 [1] 0 12 .e))))) (zB (zF 0 [] [1])))))))))))))))) func4 h
def L6:Y0:=λa b c=>CR c a 11 #[(iv 2)] b λb d=>Build Tryz.prog 35 [(0,(bi 1))] λe=>Build Tryz.prog 35 [(0,(bi 1)),(1,i1)] λf=>Build Tryz.prog 35 [(0,(bi 4)),(1,i0),(2,i1)] λg=>Build Tryz.prog 35 [(0,(bi 16)),(1,(iv 2))] λh=>Build Tryz.prog 35 [(0,(bi 14)),(1,(iv 2)),(4,(wi 3))] λi=>Build Tryz.prog 35 [(0,(bi 1)),(1,(iv 2))] λj=>ax Tryz.prog 24 6 [(0,e),(1,f),(2,g),(3,h),(4,i),(5,j)] d λd e=>CR c a 8 #[b,d] e λb d=>lX b λb e=>Build Tryz.prog 37 [(1,i0),(3,i1)] λf=>Build Tryz.prog 37 [(1,i1),(3,i1)] λg=>Build Tryz.prog 37 [(1,(iv 2)),(3,i1)] λh=>Build Tryz.prog 37 [(1,(iv (-1))),(2,(wi 1))] λi=>Build Tryz.prog 37 [(1,(iv (-1))),(2,(wi 1))] λj=>Build Tryz.prog 37 [(0,(iv 2)),(1,(iv (-1)))] λk=>ax Tryz.prog 30 6 [(0,f),(1,g),(2,h),(3,i),(4,j),(5,k)] d λd f=>jB (λg h=>rt c g h) λg=>lE e i0 λe=>Split e true (CR c a 10 #[b,d] f λa b=>aH vT a vF λa=>JE g [a] b) (aH vF undef vF λa=>JE g [a] f)
theorem T3:qA L6 6:=λh=>sd (hN 3 (zF 1 [0] [])) func6 h
def L7:Y1:=λa b c d=>lK c b 23 λb c=>jB (λe f=>Br e (rt d (tP (.pointer none) i1) f) (lD 0 (pt b) f λe=>lD 1 (pt b) f λg=>CR d a 19 #[e,g] f λa e=>lX a λa f=>lN f i0 λg=>Br g (rt d (tP (.pointer none) f) e) (lD 2 (pt b) e λf=>lE f (bi 6) λf=>lU f (λf=>lD 0 (pt b) e λg=>lG g (iv 12) λg=>(lV e g f)) λf=>Br (Value.bool f) (rt d (tP (.pointer none) (iv 6)) e) (az 5 e (pt b) λf=>gH e λe g=>Build Tryz.prog 58 [(0,f),(1,a),(2,e)] λa=>lK g a 58 λa e=>rt d (tP (pt a) i0) e)))) λa=>lD 2 (pt b) c λd=>lG d (bi 6) λd=>Br d (JE a [d] c) (lD 3 (pt b) c λd=>lL d (iv 100) λd=>Br d (JE a [d] c) (lD 3 (pt b) c λd=>lG d (iv 1000) λd=>Br d (JE a [d] c) (lD 4 (pt b) c λd=>lL d i0 λd=>Br d (JE a [d] c) (lD 4 (pt b) c λb=>lG b (iv 16) λb=>JE a [b] c))))
theorem T2:qB L7 7:=λh=>sd (zA (.n (zB (zF 1 [6] [1])) (zA (zA (zB (zB (zF 0 [] [1]))))))) func7 h
def L8:Y2:=λa b c d e=>lK d b 23 λb d=>az 5 d (pt b) λb=>CR e a 7 #[b] d λb d=>lX b λb f=>lN f i0 λg=>Br g (rt e (tP sZ f) d) (aR c λf=>yB [sZ,i0] d λd g h i j=>lL i f λf=>Br f (av 5 c i λc=>az 5 j c λc=>lQ 5 j #[(bi 0),i0,i0,i0,(wi 0)] 35 c λc f=>az 5 f (pt c) λc=>CR e a 9 #[b,c] f λa b=>ax Tryz.prog 30 1 [(0,a)] b λa b=>App Tryz.prog 37 4 32 (.agg #[i0,i0,(wi 0),i0]) b h a λa b=>lA i i1 λc=>aC d g [a,c] b [h,i] j) (rt e (tP h i0) j))
theorem T1:qC L8 8:=λh=>sd (hN 4 (zB (zA (zB (zF 0 [8,21] [6,19,20]))))) func8 h
def L9:Y2:=λa b c d e=>lK d c 35 λc d=>lW d #[i0,i0,(wi 0),i0] 37 λd f=>oP b λg=>Br g (CR e a 20 #[(iv 10)] f λg h=>St 4 h (pt d) g λg=>az 4 g (pt d) λh=>rt e h g) (DR f λg=>lD 0 (pt c) g λh=>∀i:Hp,
CN (a.add i) 21 #[] f λf i=>aM i g/\
DR2 i g λg=>c6 (.int .u8) (.agg #[(bi 0),.nilFunc]) true g f h λf=>lX f λf h=>lW i #[(bi 0),.nilFunc] 63 λi j=>∀_:Hp,
St 2 j (pt i) f λf=>aM f g/\
Br h (az 5 f (pt c) λg=>az 2 f (pt i) λh=>CR e a 22 #[b,g,h] f λg h=>St 4 h (pt d) g λg=>az 4 g (pt d) λh=>rt e h g) (DR f λg=>lD 0 (pt c) g λh=>∀i:Hp,
CN (a.add i) 23 #[] f λf i=>aM i g/\
DR2 i g λg=>c6 (.int .u8) .nilFunc true g f h λf=>lX f λf g=>Br g (az 5 i (pt c) λc=>aE Tryz.prog a f #[b,c] i (λb c=>St 4 c (pt d) b λb=>az 4 b (pt d) λc=>rt e c b) (dj e)) (CR e a 20 #[(iv 12)] i λa b=>St 4 b (pt d) a λa=>az 4 a (pt d) λb=>rt e b a)))
theorem T0:qC L9 9:=λh=>sd (zA (zA (.n (zB (zE 1 [] [] (hr 0 [1] 1 2 (zE 1 [7] [1] (zE 0 [0] [1] (zE 4 [] [] (hr 0 [1] 3 7 .e))))))) (zB (zB (zE 1 [] [] (hr 0 [1] 1 2 (zE 0 [0] [1] (zE 4 [] [] (hr 0 [1] 3 6 .e)))))))))) func9 h
def L10:Y2:=λa b c d e=>aR b λf=>aR c λg=>lN f g λf=>Br f (rt e vF d) (yA [i0] d λd f g h=>aR b λi=>lL g i λi=>Br i (av 4 b g λb=>az 4 h b λb=>av 4 c g λc=>az 4 h c λc=>jH Tryz.prog a (gI Tryz.f10 6 8) (ev (λa=>cond (Nat.beq a 20) b (cond (Nat.beq a 24) c (undef)))) h λa=>Br a (rt e vF h) (lA g i1 λa=>aC d f [a] h [g] h)) (rt e vT h))
theorem Pb:qC L10 10:=λh=>sd (zA (zA (zB (zA (zB (zF 0 [5] [0,1])))))) func10 h
def L11:Y1:=λ_ a b c=>lW b #[i0,i0,(bi 0),i0,i0] 23 λb d=>Build Tryz.prog 23 [(0,a),(1,(iv 1048576)),(2,(bi 0)),(3,(iv 100))] λa=>St 5 d (pt b) a λa=>az 5 a (pt b) λb=>rt c b a
theorem Pa:qB L11 11:=λh=>sd .e func11 h
def L12:Y2:=λa b c d e=>lK d b 42 λb d=>lK d c 35 λc d=>lW d #[(bi 0),i0,i0,i0,(wi 0)] 35 λd f=>jA (λg=>az 5 g (pt c) λh=>St 5 g (pt d) h λg=>az 5 g (pt d) λd=>rt e d g) λd=>lD 0 (pt c) f λg=>jB (λh i=>Br h (lD 1 (pt c) i λh=>aE Tryz.prog a (.func (.func 24) #[] #[(pt b)]) #[h] i (λh j=>ai 1 (pt c) λk=>St 1 j k h λh=>JE d [] h) (dj e)) (jB (λe h=>Br e (DR h λe=>lD 1 (pt c) e λj=>lD 2 (pt c) e λk=>∀l:Hp,
aE Tryz.prog (a.add l) (.func (.func 24) #[] #[(pt b)]) #[j] h (λj l=>aM l e/\
ai 1 (pt c) λe=>∀m:Hp,
aE Tryz.prog (a.add m) (.func (.func 24) #[] #[(pt b)]) #[k] l (λk l=>∀_:Hp,
St 1 l e j λe=>ai 2 (pt c) λj=>∀_:Hp,
St 1 e j k λe=>JE d [] e) ej) ej) (lE g (bi 7) λe=>Br e (DR h λe=>lD 1 (pt c) e λj=>lD 2 (pt c) e λk=>lD 3 (pt c) e λl=>∀m:Hp,
aE Tryz.prog (a.add m) (.func (.func 24) #[] #[(pt b)]) #[j] h (λj m=>aM m e/\
ai 1 (pt c) λn=>∀o:Hp,
aE Tryz.prog (a.add o) (.func (.func 24) #[] #[(pt b)]) #[k] m (λk m=>aM m e/\
∀e:Hp,
aE Tryz.prog (a.add e) (.func (.func 24) #[] #[(pt b)]) #[l] m (λe l=>∀_:Hp,
St 1 l n j λj=>ai 2 (pt c) λl=>∀_:Hp,
St 1 j l k λj=>ai 3 (pt c) λk=>∀_:Hp,
St 1 j k e λe=>JE d [] e) ej) ej) ej) (lE g (bi 11) λe=>Br e (DR h λe=>lD 1 (pt c) e λj=>lD 3 (pt c) e λk=>∀l:Hp,
aE Tryz.prog (a.add l) (.func (.func 24) #[] #[(pt b)]) #[j] h (λj l=>aM l e/\
ai 1 (pt c) λe=>∀m:Hp,
aE Tryz.prog (a.add m) (.func (.func 24) #[] #[(pt b)]) #[k] l (λa b=>∀_:Hp,
St 1 b e j λb=>ai 3 (pt c) λc=>∀_:Hp,
St 1 b c a λa=>JE d [] a) ej) ej) (JE d [] h)))) λa=>lE g (bi 4) λb=>Br b (JE a [b] i) (lE g (bi 5) λb=>Br b (JE a [b] i) (lE g (bi 6) λb=>Br b (JE a [b] i) (lE g (bi 15) λb=>JE a [b] i))))) λa=>lE g (bi 3) λb=>Br b (JE a [b] f) (lE g (bi 12) λb=>Br b (JE a [b] f) (lE g (bi 13) λb=>Br b (JE a [b] f) (lE g (bi 14) λb=>Br b (JE a [b] f) (lE g (bi 16) λb=>Br b (JE a [b] f) (lE g (bi 17) λb=>Br b (JE a [b] f) (lE g (bi 19) λb=>Br b (JE a [b] f) (lE g (bi 20) λb=>Br b (JE a [b] f) (lE g (bi 8) λb=>Br b (JE a [b] f) (lE g (bi 9) λb=>Br b (JE a [b] f) (lE g (bi 10) λb=>JE a [b] f))))))))))
theorem O9:qC L12 12:=λh=>sd (zA (zA (zE 1 [] [3,4] (zA (zB (.h 1 [9] [3,4,5,8] .e (zA (.h 1 [26] [3,4,5,8] .e (.n (zE 1 [] [] (hr 0 [1] 0 3 (hr 0 [1] 4 3 (zE 0 [3] [1] (zE 0 [8] [1] (zE 0 [7] [1] (hr 0 [1] 9 3 .e))))))) (zA (.n (zE 1 [] [] (hr 0 [1] 0 3 (hr 0 [1] 4 3 (hr 0 [1] 8 3 (zE 0 [3] [1] (zE 0 [12] [1] (zE 0 [7] [1] (zE 0 [11] [1] (hr 0 [1] 13 5 .e))))))))) (zA (zB (zE 1 [] [] (hr 0 [1] 0 3 (hr 0 [1] 4 3 (zE 0 [3] [1] (zE 0 [8] [1] (zE 0 [7] [1] (hr 0 [1] 9 3 .e)))))))))))))))))))) func12 h
def L19:Y2:=λa b c d e=>CR e a 28 #[b] d λd f=>lX d λd g=>lN g i0 λg=>lO g (λg=>lL b i1 λh=>(lV f h g)) λg=>lO (Value.bool g) (λg=>lL c (iv 2) λh=>(lV f h g)) λg=>lO (Value.bool g) (λg=>lG c (iv 1048576) λh=>(lV f h g)) λg=>Br (Value.bool g) (rt e (tP (.pointer none) i1) f) (CR e a 29 #[b] f λf g=>lX f λf h=>lN h i0 λi=>Br i (rt e (tP (.pointer none) h) g) (CR e a 30 #[c,f] g λc f=>lX c λc g=>lQ 4 f #[(.pointer none),(.pointer none),sZ,sZ] 87 c λc f=>lN g i0 λh=>Br h (rt e (tP (.pointer none) g) f) (DR f λg=>az 4 g (pt c) λc=>CN a 31 #[d] f λa f=>aM f g/\
Build Tryz.prog 91 [(0,c),(1,b),(2,d),(3,a)] λa=>lK f a 91 λa b=>aM b g/\
rt e (tP (pt a) i0) b)))
theorem Ax:qC L19 19:=λh=>sd (zA (zA (.n (zB (zF 0 [] [1])) (hN 4 (zB (zF 0 (yR 9) [])))))) func19 h
def L20:Y1:=λ_ a b c=>lW b #[i0,i0,(wi 0),i0] 37 λb d=>Build Tryz.prog 37 [(0,a),(1,(iv (-1)))] λa=>St 4 d (pt b) a λa=>az 4 a (pt b) λb=>rt c b a
theorem O8:qB L20 20:=λh=>sd .e func20 h
def L21:Y0:=λ_ a b=>gH a λa c=>Build Tryz.prog 63 [(0,(bi 8)),(1,(.func (.func 32) #[] #[]))] λd=>aW (.int .u8) c a (bi 1) d λc=>Build Tryz.prog 63 [(0,(bi 32)),(1,(.func (.func 33) #[] #[]))] λd=>aW (.int .u8) c a (bi 2) d λc=>Build Tryz.prog 63 [(0,(bi 1)),(1,(.func (.func 34) #[] #[]))] λd=>aW (.int .u8) c a (bi 3) d λc=>Build Tryz.prog 63 [(0,(bi 3)),(1,(.func (.func 35) #[] #[]))] λd=>aW (.int .u8) c a (bi 4) d λc=>Build Tryz.prog 63 [(0,(bi 3)),(1,(.func (.func 36) #[] #[]))] λd=>aW (.int .u8) c a (bi 5) d λc=>Build Tryz.prog 63 [(0,(bi 3)),(1,(.func (.func 37) #[] #[]))] λd=>aW (.int .u8) c a (bi 6) d λc=>Build Tryz.prog 63 [(0,(bi 7)),(1,(.func (.func 38) #[] #[]))] λd=>aW (.int .u8) c a (bi 7) d λc=>Build Tryz.prog 63 [(0,(bi 81)),(1,(.func (.func 39) #[] #[]))] λd=>aW (.int .u8) c a (bi 8) d λc=>Build Tryz.prog 63 [(0,(bi 129)),(1,(.func (.func 40) #[] #[]))] λd=>aW (.int .u8) c a (bi 9) d λc=>Build Tryz.prog 63 [(0,(bi 129)),(1,(.func (.func 41) #[] #[]))] λd=>aW (.int .u8) c a (bi 10) d λc=>Build Tryz.prog 63 [(0,(bi 21)),(1,(.func (.func 42) #[] #[]))] λd=>aW (.int .u8) c a (bi 11) d λc=>rt b a c
theorem O7:qA L21 21:=λh=>sd .e func21 h
def L22:Y3:=λa b c d e f=>lK e c 35 λc e=>lK e d 63 λd e=>lW e #[i0,i0,(wi 0),i0] 37 λe g=>az 5 g (pt c) λh=>lD 0 (pt d) g λi=>CR f a 43 #[b,h,i] g λg h=>lN g i0 λi=>Br i (CR f a 20 #[g] h λg i=>St 4 i (pt e) g λg=>az 4 g (pt e) λi=>rt f i g) (yA [i1] h λg h i j=>lD 1 (pt d) j λd=>az 5 j (pt c) λc=>aE Tryz.prog a d #[b,c] j (λc d=>lX c λc k=>lE k i0 λl=>Br l (CR f a 44 #[b,c,i] d λc l=>St 4 l (pt e) c λc=>az 4 c (pt e) λl=>rt f l c) (lN k (iv 9) λc=>lO c (λc=>lC 0 b λl=>ai 4 l λl=>Ld d l λl=>lG i l λl=>(lV d l c)) λc=>Br (Value.bool c) (CR f a 20 #[k] d λc k=>lQ 4 k #[i0,i0,(wi 0),i0] 37 c λc k=>ai 3 (pt c) λl=>St 1 k l i λk=>az 4 k (pt c) λc=>St 4 k (pt e) c λc=>az 4 c (pt e) λe=>rt f e c) (DR d λc=>lM 5 b c λe=>lC 0 b λk=>ai 2 k λk=>Ld c k λk=>lC 0 b λb=>ai 3 b λb=>Ld c b λb=>∀c:Hp,
CN (a.add c) 45 #[e,k,b] d λ_ a=>lA i i1 λb=>aC g h [b] a [i] j))) (dj f))
theorem Aw:qD L22 22:=λh=>sd (hN 3 (zB (zE 0 [8] [0,4,5,6] (zB (zB (zA (.n (zB (zA (zA (zB (zF 0 [] [1]))))) (zE 1 [] [] (hr 0 [1] 0 15 .e))))))))) func22 h
def L23:Y0:=λ_ a b=>gH a λa c=>aW (.int .u8) c a (bi 12) (.func (.func 46) #[] #[]) λc=>aW (.int .u8) c a (bi 13) (.func (.func 47) #[] #[]) λc=>aW (.int .u8) c a (bi 14) (.func (.func 48) #[] #[]) λc=>aW (.int .u8) c a (bi 15) (.func (.func 49) #[] #[]) λc=>aW (.int .u8) c a (bi 16) (.func (.func 50) #[] #[]) λc=>aW (.int .u8) c a (bi 17) (.func (.func 51) #[] #[]) λc=>aW (.int .u8) c a (bi 18) (.func (.func 52) #[] #[]) λc=>aW (.int .u8) c a (bi 19) (.func (.func 53) #[] #[]) λc=>aW (.int .u8) c a (bi 20) (.func (.func 54) #[] #[]) λc=>aW (.int .u8) c a (bi 21) (.func (.func 55) #[] #[]) λc=>aW (.int .u8) c a (bi 22) (.func (.func 56) #[] #[]) λc=>aW (.int .u8) c a (bi 23) (.func (.func 57) #[] #[]) λc=>rt b a c
theorem O6:qA L23 23:=λh=>sd .e func23 h
def L24:Y2:=λ_ a b c d=>lL a i0 λe=>lO e (λe=>Ld c b λf=>lM 2 f c λf=>aR f λf=>oG a f λf=>(lV c f e)) λe=>Br (Value.bool e) (d (.returned (iv (-1))) c) (Ld c b λb=>lM 2 b c λb=>lI 1 b a c λa=>rt d a c)
theorem O5:qC L24 24:=λh=>sd (zA (zB (zB (zF 0 [] [1])))) func24 h
def L27:Y1:=λa b c d=>oP b λe=>Br e (rt d sZ c) (lM 5 b c λb=>CR d a 31 #[b] c λa b=>rt d a b)
theorem O4:qB L27 27:=λh=>sd .e func27 h
def L28:Y1:=λa b c d=>lL b i0 λe=>lO e (λe=>lG b (iv 64) λf=>(lV c f e)) λe=>Br (Value.bool e) (rt d (tP sZ i1) c) (CR d a 61 #[b] c λa b=>rt d (tP a i0) b)
theorem Av:qB L28 28:=λh=>sd (zA (zB (zB (zF 0 [] [1])))) func28 h
def L29:Y1:=λ_ a b c=>lL a i1 λd=>lO d (λd=>lG a (iv 64) λe=>(lV b e d)) λd=>Br (Value.bool d) (rt c (tP (.pointer none) i1) b) (cU 105 1 8 (.map none) b a a λb d=>Build Tryz.prog 104 [(0,b)] λb=>lK d b 104 λb d=>yA [i0] d λd e f g=>lL f a λa=>Br a (lM 0 (pt b) g λa=>gH g λh i=>av 1 a f λa=>St 1 i a h λa=>lA f i1 λh=>aC d e [h] a [f] g) (rt c (tP (pt b) i0) g))
theorem O3:qB L29 29:=λh=>sd (zA (.n (zB (zF 0 [] [1])) (zA (zB (zA (zB (zF 0 [17] [4,16]))))))) func29 h
def L30:Y2:=λa b c d e=>lW d #[(.pointer none),(.pointer none),sZ,sZ] 87 λd f=>CR e a 62 #[b] f λa b=>lX a λa f=>Build Tryz.prog 87 [(0,a),(1,c)] λa=>St 4 b (pt d) a λa=>az 4 a (pt d) λb=>rt e (tP b f) a
theorem O2:qC L30 30:=λh=>sd .e func30 h
def L31:Y1:=λ_ a b c=>ae .slice .eql a sZ λd=>Br d (rt c sZ b) (ax Tryz.prog 43 0 [] b λb d=>App Tryz.prog 3 1 8 i0 d b a λa b=>rt c a b)
theorem O1:qB L31 31:=λh=>sd .e func31 h
def L32:Y2:=λa b c d e=>lK d c 35 λc d=>DR d λf=>lM 5 b f λb=>lD 1 (pt c) f λc=>∀g:Hp,
CN (a.add g) 63 #[b,c] d λa b=>aM b f/\
lX a λa c=>rt e (tP a c) b
theorem O0:qC L32 32:=λh=>sd (zA (zB (zE 1 [] [] (hr 0 [1] 0 11 .e)))) func32 h
def L33:Y2:=λa b c d e=>lK d c 35 λc d=>DR d λf=>lM 5 b f λb=>lD 1 (pt c) f λc=>lE c i1 λc=>∀g:Hp,
CN (a.add g) 64 #[b,c] d λa b=>aM b f/\
lX a λa c=>rt e (tP a c) b
theorem OZ:qC L33 33:=λh=>sd (zA (zB (zE 1 [] [] (hr 0 [1] 0 12 .e)))) func33 h
def L34:Y2:=λa b c d e=>lK d c 35 λc d=>DR d λf=>lM 5 b f λg=>lM 6 b f λb=>lD 1 (pt c) f λc=>c6 (.int .i64) (ui 0) false f b c λb=>∀c:Hp,
CN (a.add c) 65 #[g,b] d λa b=>aM b f/\
lX a λa c=>rt e (tP a c) b
theorem OY:qC L34 34:=λh=>sd (zA (zB (zE 1 [] [] (hr 0 [1] 0 16 .e)))) func34 h
def L35:Y2:=λa b c d e=>lK d c 35 λc d=>DR d λf=>lM 5 b f λg=>lM 6 b f λh=>lD 1 (pt c) f λi=>c6 (.int .i64) (ui 0) false f h i λh=>lM 6 b f λb=>lD 2 (pt c) f λc=>c6 (.int .i64) (ui 0) false f b c λb=>∀c:Hp,
CN (a.add c) 66 #[g,h,b] d λa b=>aM b f/\
lX a λa c=>rt e (tP a c) b
theorem OX:qC L35 35:=λh=>sd (zA (zB (zE 1 [] [] (hr 0 [1] 0 23 .e)))) func35 h
def L36:Y2:=λa b c d e=>lK d c 35 λc d=>DR d λf=>lM 5 b f λg=>lM 6 b f λh=>lD 1 (pt c) f λi=>c6 (.int .i64) (ui 0) false f h i λh=>lM 6 b f λb=>lD 2 (pt c) f λc=>c6 (.int .i64) (ui 0) false f b c λb=>∀c:Hp,
CN (a.add c) 67 #[g,h,b] d λa b=>aM b f/\
lX a λa c=>rt e (tP a c) b
theorem OW:qC L36 36:=λh=>sd (zA (zB (zE 1 [] [] (hr 0 [1] 0 23 .e)))) func36 h
def L37:Y2:=λa b c d e=>lK d c 35 λc d=>DR d λf=>lM 5 b f λg=>lM 6 b f λh=>lD 1 (pt c) f λi=>c6 (.int .i64) (ui 0) false f h i λh=>lM 6 b f λb=>lD 2 (pt c) f λc=>c6 (.int .i64) (ui 0) false f b c λb=>∀c:Hp,
CN (a.add c) 68 #[g,h,b] d λa b=>aM b f/\
lX a λa c=>rt e (tP a c) b
theorem OV:qC L37 37:=λh=>sd (zA (zB (zE 1 [] [] (hr 0 [1] 0 23 .e)))) func37 h
def L38:Y2:=λa b c d e=>lK d c 35 λc d=>DR d λf=>lM 5 b f λg=>lM 6 b f λh=>lD 1 (pt c) f λi=>c6 (.int .i64) (ui 0) false f h i λh=>lM 6 b f λi=>lD 2 (pt c) f λj=>c6 (.int .i64) (ui 0) false f i j λi=>lM 6 b f λb=>lD 3 (pt c) f λc=>c6 (.int .i64) (ui 0) false f b c λb=>∀c:Hp,
CN (a.add c) 69 #[g,h,i,b] d λa b=>aM b f/\
lX a λa c=>rt e (tP a c) b
theorem OU:qC L38 38:=λh=>sd (zA (zB (zE 1 [] [] (hr 0 [1] 0 30 .e)))) func38 h
def L39:Y2:=λa b c d e=>lK d c 35 λc d=>DR d λf=>lM 5 b f λg=>lM 6 b f λb=>lD 1 (pt c) f λh=>c6 (.int .i64) (ui 0) false f b h λb=>lD 2 (pt c) f λh=>lD 3 (pt c) f λc=>lE c i1 λc=>∀i:Hp,
CN (a.add i) 70 #[g,b,h,c] d λa b=>aM b f/\
lX a λa c=>rt e (tP a c) b
theorem OT:qC L39 39:=λh=>sd (zA (zB (zE 1 [] [] (hr 0 [1] 0 21 .e)))) func39 h
def L40:Y2:=λa b c d e=>lK d c 35 λc d=>DR d λf=>lM 5 b f λg=>lM 6 b f λb=>lD 1 (pt c) f λh=>c6 (.int .i64) (ui 0) false f b h λb=>lD 4 (pt c) f λc=>∀h:Hp,
CN (a.add h) 71 #[g,b,c] d λa b=>aM b f/\
lX a λa c=>rt e (tP a c) b
theorem OS:qC L40 40:=λh=>sd (zA (zB (zE 1 [] [] (hr 0 [1] 0 18 .e)))) func40 h
def L41:Y2:=λa b c d e=>lK d c 35 λc d=>DR d λf=>lM 5 b f λg=>lM 6 b f λb=>lD 1 (pt c) f λh=>c6 (.int .i64) (ui 0) false f b h λb=>lD 4 (pt c) f λc=>∀h:Hp,
CN (a.add h) 72 #[g,b,c] d λa b=>aM b f/\
lX a λa c=>rt e (tP a c) b
theorem OR:qC L41 41:=λh=>sd (zA (zB (zE 1 [] [] (hr 0 [1] 0 18 .e)))) func41 h
def L42:Y2:=λa b c d e=>lK d c 35 λc d=>DR d λf=>lM 5 b f λg=>lM 6 b f λh=>lD 1 (pt c) f λi=>c6 (.int .i64) (ui 0) false f h i λh=>lD 2 (pt c) f λi=>lM 6 b f λb=>lD 3 (pt c) f λc=>c6 (.int .i64) (ui 0) false f b c λb=>∀c:Hp,
CN (a.add c) 73 #[g,h,i,b] d λa b=>aM b f/\
lX a λa c=>rt e (tP a c) b
theorem OQ:qC L42 42:=λh=>sd (zA (zB (zE 1 [] [] (hr 0 [1] 0 25 .e)))) func42 h
def L43:Y3:=λa b c d e f=>lK e c 35 λc e=>jB (λg h=>Br g (rt f i1 h) (jB (λg i=>Br g (rt f (iv 2) i) (jB (λg j=>Br g (rt f (iv 3) j) (rt f i0 j)) λg=>jB (λj k=>Br j (JE g [j] k) (jB (λj l=>Br j (JE g [j] l) (oA d (bi 4) λj=>lN j (bi 0) λj=>Split j true (lD 3 (pt c) l λj=>CR f a 76 #[b,j] l λj m=>Un .not j λj=>aH vT j vF λj=>JE g [j] m) (aH vF undef vF λj=>JE g [j] l))) λg=>oA d (bi 2) λj=>lN j (bi 0) λj=>Split j true (lD 2 (pt c) k λj=>CR f a 76 #[b,j] k λj l=>Un .not j λj=>aH vT j vF λj=>JE g [j] l) (aH vF undef vF λj=>JE g [j] k))) λg=>oA d (bi 1) λj=>lN j (bi 0) λj=>Split j true (lD 1 (pt c) i λj=>CR f a 76 #[b,j] i λj k=>Un .not j λj=>aH vT j vF λj=>JE g [j] k) (aH vF undef vF λj=>JE g [j] i))) λg=>jB (λi j=>Br i (JE g [i] j) (jB (λi k=>Br i (JE g [i] k) (oA d (bi 128) λi=>lN i (bi 0) λi=>lU i (λi=>lD 4 (pt c) k λl=>lC 0 b λm=>ai 0 m λm=>Ld k m λm=>oR l m λl=>lN l (wi 0) λl=>(lV k l i)) λi=>JE g [(Value.bool i)] k)) λg=>oA d (bi 16) λi=>lN i (bi 0) λi=>Split i true (lD 2 (pt c) j λi=>CR f a 75 #[b,i] j λi k=>Un .not i λi=>aH vT i vF λi=>JE g [i] k) (aH vF undef vF λi=>JE g [i] j))) λg=>oA d (bi 8) λi=>lN i (bi 0) λi=>Split i true (lD 1 (pt c) h λi=>CR f a 75 #[b,i] h λb i=>Un .not b λb=>aH vT b vF λb=>JE g [b] i) (aH vF undef vF λb=>JE g [b] h))) λb=>jB (λg h=>Br g (JE b [g] h) (oA d (bi 64) λg=>lN g (bi 0) λg=>Split g true (lD 3 (pt c) h λg=>aE Tryz.prog a (.func (.func 74) #[] #[]) #[g] h (λg i=>Un .not g λg=>aH vT g vF λg=>JE b [g] i) (dj f)) (aH vF undef vF λg=>JE b [g] h))) λb=>oA d (bi 32) λd=>lN d (bi 0) λd=>Split d true (lD 1 (pt c) e λc=>aE Tryz.prog a (.func (.func 74) #[] #[]) #[c] e (λa c=>Un .not a λa=>aH vT a vF λa=>JE b [a] c) (dj f)) (aH vF undef vF λa=>JE b [a] e)
theorem OP:qD L43 43:=λh=>sd (zA (zA (zB (zB (.h 1 [8] [0,2,4] (zF 1 [8] [0,2,4,7]) (zA (.h 1 [29] [0,2,4] (.h 1 [29] [0,2,4] .e (zA (zF 1 [29] [0,2,4]))) (zA (zE 1 [64] [] (.h 1 [64] [0,2,4] .e (zA (zF 1 [64] [0,2,4])))))))))))) func43 h
variable {g:Gh} {a0 a1 a2 a3 a4 a5 a6 a7 a8 a9 ud uc a12 a13 a14 a15:zV} {H:Hp} {R:Rt}
def L44:Y3:=λ_ a b c d e=>lW d #[i0,i0,(wi 0),i0] 37 λd f=>lM 7 a f λg=>lM 7 a f λh=>lA h i1 λh=>lC 7 a λi=>St 1 f i h λf=>lM 6 a f λa=>aW (.int .i64) f a g b λa=>Build zQ 37 [(1,g),(3,c)] λb=>St 4 a (pt d) b λa=>az 4 a (pt d) λb=>rt e b a
theorem OO:qD L44 44:=λh=>sd .e func44 h
def L45:Y3:=λa b c d e f=>lW e #[i0,i0,i0,vF] 97 λe g=>CR f a 77 #[b,c,d] g λg h=>lN g i0 λi=>Br i (Build zQ 97 [] λi=>St 4 h (pt e) i λi=>az 4 i (pt e) λj=>rt f (tP j g) i) (lE c (bi 1) λg=>Br g (CR f a 78 #[b,d] h λg i=>lX g λg j=>St 4 i (pt e) g λg=>az 4 g (pt e) λi=>rt f (tP i j) g) (lE c (bi 2) λg=>Br g (CR f a 79 #[b,d] h λd g=>lX d λi _=>Ext 2 d λd=>lQ 4 g #[i0,i0,i0,vF] 97 i λg i=>az 4 i (pt g) λg=>St 4 i (pt e) g λg=>az 4 g (pt e) λi=>rt f (tP i d) g) (jB (λd g=>Br d (CR f a 81 #[c] g λd i=>CR f a 80 #[b,d] i λd i=>lX d λd j=>St 4 i (pt e) d λd=>az 4 d (pt e) λi=>rt f (tP i j) d) (lE c (bi 6) λd=>Br d (CR f a 82 #[b] g λd i=>lX d λd j=>St 4 i (pt e) d λd=>az 4 d (pt e) λi=>rt f (tP i j) d) (CR f a 83 #[b] g λd g=>CR f a 83 #[b] g λa b=>Build zQ 97 [(0,d),(1,a)] λa=>St 4 b (pt e) a λa=>az 4 a (pt e) λb=>rt f (tP b i0) a))) λa=>lE c (bi 3) λb=>Br b (JE a [b] h) (lE c (bi 4) λb=>Br b (JE a [b] h) (lE c (bi 5) λb=>JE a [b] h)))))
theorem iG:qD L45 45:=λh=>sd (zA (zA (zB (zA (zB (hN 4 (zF 1 [39] [0,1,6,20]))))))) func45 h
def L46:Y2:=λa b c d e=>lK d c 35 λc d=>lW d #[i0,i0,(wi 0),i0] 37 λd f=>lM 6 b f λg=>lD 1 (pt c) f λc=>c6 (.int .i64) (ui 0) true f g c λc=>lX c λc g=>Un .not g λg=>Br g (CR e a 20 #[(iv 3)] f λg h=>St 4 h (pt d) g λg=>az 4 g (pt d) λh=>rt e h g) (lM 5 b f λg=>CR e a 84 #[g,c] f λf g=>lN f i0 λh=>Br h (CR e a 20 #[f] g λf h=>St 4 h (pt d) f λf=>az 4 f (pt d) λh=>rt e h f) (CR e a 44 #[b,c,i0] g λa b=>St 4 b (pt d) a λa=>az 4 a (pt d) λb=>rt e b a))
theorem Au:qC L46 46:=λh=>sd .e func46 h
def L47:Y2:=λa b c d e=>lK d c 35 λc d=>lW d #[i0,i0,(wi 0),i0] 37 λd f=>lM 6 b f λg=>lD 1 (pt c) f λh=>c6 (.int .i64) (ui 0) true f g h λg=>lX g λg h=>Un .not h λh=>Br h (CR e a 20 #[(iv 3)] f λh i=>St 4 i (pt d) h λh=>az 4 h (pt d) λi=>rt e i h) (lM 5 b f λh=>CR e a 85 #[h,g] f λ_ f=>DR f λg=>lM 6 b g λb=>lD 1 (pt c) g λc=>∀_:Hp,
oJ (.int .i64) f b c λb=>CR e a 86 #[(wi 0),i0] b λa b=>St 4 b (pt d) a λa=>az 4 a (pt d) λb=>rt e b a)
theorem As:qC L47 47:=λh=>sd (hN 4 (zB (zE 1 [] [] (hr 0 [1] 0 7 .e)))) func47 h
def L48:Y2:=λa b c d e=>lK d c 35 λc d=>lW d #[i0,i0,(wi 0),i0] 37 λd f=>lD 1 (pt c) f λg=>CR e a 76 #[b,g] f λf g=>Un .not f λf=>Br f (CR e a 20 #[(iv 3)] g λf h=>St 4 h (pt d) f λf=>az 4 f (pt d) λh=>rt e h f) (DR g λf=>lM 5 b f λh=>lM 6 b f λb=>lD 1 (pt c) f λi=>c6 (.int .i64) (ui 0) false f b i λb=>lD 4 (pt c) f λc=>∀i:Hp,
CN (a.add i) 87 #[h,b,c] g λb c=>aM c f/\
lX b λb f=>CR e a 88 #[b] c λb c=>CR e a 86 #[b,f] c λa b=>St 4 b (pt d) a λa=>az 4 a (pt d) λb=>rt e b a)
theorem ON:qC L48 48:=λh=>sd (zA (zA (zB (zE 1 [] [] (hr 0 [1] 0 19 .e))))) func48 h
def L49:Y2:=λa b c d e=>lK d c 35 λc d=>lW d #[i0,i0,(wi 0),i0] 37 λd f=>jB (λg h=>Br g (CR e a 20 #[(iv 3)] h λg i=>St 4 i (pt d) g λg=>az 4 g (pt d) λi=>rt e i g) (DR h λg=>lM 6 b g λi=>lD 1 (pt c) g λj=>c6 (.int .i64) (ui 0) false g i j λi=>lM 6 b g λj=>lD 2 (pt c) g λk=>c6 (.int .i64) (ui 0) false g j k λg=>lE i g λg=>∀i:Hp,
CN (a.add i) 88 #[g] h λg h=>∀i:Hp,
CN (a.add i) 86 #[g,i0] h λg h=>∀_:Hp,
St 4 h (pt d) g λg=>az 4 g (pt d) λd=>rt e d g)) λd=>lD 1 (pt c) f λg=>CR e a 76 #[b,g] f λf g=>Un .not f λf=>Split f false (lD 2 (pt c) g λc=>CR e a 76 #[b,c] g λa b=>Un .not a λa=>aH vF vT a λa=>JE d [a] b) (aH vT vT undef λa=>JE d [a] g)
theorem OM:qC L49 49:=λh=>sd (zA (.n (zF 1 [16] [0,3,4]) (zB (zE 1 [] [] (hr 0 [1] 0 18 .e))))) func49 h
def L50:Y2:=λa b c d e=>lK d c 35 λc d=>lW d #[i0,i0,(wi 0),i0] 37 λd f=>lD 1 (pt c) f λg=>CR e a 76 #[b,g] f λf g=>Un .not f λf=>Br f (CR e a 20 #[(iv 3)] g λf h=>St 4 h (pt d) f λf=>az 4 f (pt d) λh=>rt e h f) (DR g λf=>lM 5 b f λh=>lM 6 b f λb=>lD 1 (pt c) f λc=>c6 (.int .i64) (ui 0) false f b c λb=>∀c:Hp,
CN (a.add c) 89 #[h,b] g λb c=>aM c f/\
lX b λb f=>∀g:Hp,
CN (a.add g) 86 #[b,f] c λa b=>∀_:Hp,
St 4 b (pt d) a λa=>az 4 a (pt d) λb=>rt e b a)
theorem OL:qC L50 50:=λh=>sd (zA (zA (zB (zE 1 [] [] (hr 0 [1] 0 16 .e))))) func50 h
def L51:Y2:=λa b c d e=>lK d c 35 λc d=>lW d #[i0,i0,(wi 0),i0] 37 λd f=>lD 1 (pt c) f λg=>CR e a 76 #[b,g] f λf g=>Un .not f λf=>Br f (CR e a 20 #[(iv 3)] g λf h=>St 4 h (pt d) f λf=>az 4 f (pt d) λh=>rt e h f) (DR g λf=>lM 5 b f λh=>lM 6 b f λb=>lD 1 (pt c) f λc=>c6 (.int .i64) (ui 0) false f b c λb=>∀_:Hp,
ax zQ 133 1 [(0,b)] g λb c=>aM c f/\
∀g:Hp,
CN (a.add g) 90 #[h,b] c λb c=>aM c f/\
lX b λb f=>br .u64 b λb=>CR e a 86 #[b,f] c λa b=>St 4 b (pt d) a λa=>az 4 a (pt d) λb=>rt e b a)
theorem OK:qC L51 51:=λh=>sd (zA (zA (zB (zE 1 [] [] (hr 0 [1] 0 18 .e))))) func51 h
def L52:Y2:=λa b c d e=>lK d c 35 λ_ c=>lW c #[i0,i0,(wi 0),i0] 37 λc d=>lM 5 b d λb=>CR e a 83 #[b] d λb d=>br .u64 b λb=>CR e a 86 #[b,i0] d λa b=>St 4 b (pt c) a λa=>az 4 a (pt c) λb=>rt e b a
theorem OJ:qC L52 52:=λh=>sd .e func52 h
def L53:Y2:=λa b c d e=>lK d c 35 λc d=>lW d #[i0,i0,(wi 0),i0] 37 λd f=>lD 1 (pt c) f λg=>CR e a 76 #[b,g] f λf g=>Un .not f λf=>Br f (CR e a 20 #[(iv 3)] g λf h=>St 4 h (pt d) f λf=>az 4 f (pt d) λh=>rt e h f) (DR g λf=>lM 5 b f λh=>lM 6 b f λb=>lD 1 (pt c) f λc=>c6 (.int .i64) (ui 0) false f b c λb=>∀c:Hp,
CN (a.add c) 91 #[h,b] g λb c=>aM c f/\
lX b λb f=>∀g:Hp,
CN (a.add g) 86 #[b,f] c λa b=>∀_:Hp,
St 4 b (pt d) a λa=>az 4 a (pt d) λb=>rt e b a)
theorem OI:qC L53 53:=λh=>sd (zA (zA (zB (zE 1 [] [] (hr 0 [1] 0 16 .e))))) func53 h
def L54:Y2:=λa b c d e=>lK d c 35 λc d=>lW d #[i0,i0,(wi 0),i0] 37 λd f=>lD 1 (pt c) f λg=>CR e a 76 #[b,g] f λf g=>Un .not f λf=>Br f (CR e a 20 #[(iv 3)] g λf h=>St 4 h (pt d) f λf=>az 4 f (pt d) λh=>rt e h f) (DR g λf=>lM 5 b f λh=>lM 6 b f λb=>lD 1 (pt c) f λc=>c6 (.int .i64) (ui 0) false f b c λb=>∀c:Hp,
CN (a.add c) 92 #[h,b] g λb c=>aM c f/\
lX b λb f=>∀g:Hp,
CN (a.add g) 86 #[b,f] c λa b=>∀_:Hp,
St 4 b (pt d) a λa=>az 4 a (pt d) λb=>rt e b a)
theorem OH:qC L54 54:=λh=>sd (zA (zA (zB (zE 1 [] [] (hr 0 [1] 0 16 .e))))) func54 h
def L55:Y2:=λa b c d e=>lK d c 35 λc d=>lW d #[i0,i0,(wi 0),i0] 37 λd f=>DR f λg=>lM 5 b g λb=>lD 1 (pt c) g λc=>∀h:Hp,
CN (a.add h) 93 #[b,c] f λb c=>aM c g/\
lX b λb f=>br .u64 b λb=>CR e a 86 #[b,f] c λa b=>St 4 b (pt d) a λa=>az 4 a (pt d) λb=>rt e b a
theorem Ar:qC L55 55:=λh=>sd (zA (zB (zE 1 [] [] (hr 0 [1] 0 12 .e)))) func55 h
def L56:Y2:=λa b c d e=>lK d c 35 λc d=>lW d #[i0,i0,(wi 0),i0] 37 λd f=>DR f λg=>lM 5 b g λb=>lD 1 (pt c) g λc=>∀g:Hp,
CN (a.add g) 94 #[b,c] f λb c=>∀f:Hp,
CN (a.add f) 86 #[(wi 0),b] c λa b=>∀_:Hp,
St 4 b (pt d) a λa=>az 4 a (pt d) λb=>rt e b a
theorem Aq:qC L56 56:=λh=>sd (zA (zB (zE 1 [] [] (hr 0 [1] 0 9 .e)))) func56 h
def L57:Y2:=λa b c d e=>lK d c 35 λc d=>lW d #[i0,i0,(wi 0),i0] 37 λd f=>lD 1 (pt c) f λg=>lL g i0 λg=>lO g (λg=>lD 1 (pt c) f λh=>lG h (iv 6) λh=>(lV f h g)) λg=>Br (Value.bool g) (CR e a 20 #[i1] f λg h=>St 4 h (pt d) g λg=>az 4 g (pt d) λh=>rt e h g) (DR f λg=>lM 5 b g λh=>lD 1 (pt c) g λi=>br .u8 i λi=>lD 2 (pt c) g λc=>∀j:Hp,
CN (a.add j) 45 #[h,i,c] f λc f=>aM f g/\
lX c λc h=>lW f #[i0,i0,i0,vF] 97 λf i=>∀_:Hp,
St 4 i (pt f) c λc=>aM c g/\
lM 5 b c λb=>CR e a 83 #[b] c λb c=>br .u64 b λb=>CR e a 86 #[b,h] c λa b=>St 4 b (pt d) a λa=>az 4 a (pt d) λb=>rt e b a)
theorem Ap:qC L57 57:=λh=>sd (zA (.n (zB (zF 0 [] [1])) (zB (zE 1 [] [] (hr 0 [1] 0 9 (zE 1 [13] [1] (hr 0 [1] 9 7 .e))))))) func57 h
def L61:Y1:=λ_ a b c=>cU 3 1 8 i0 b a a λb d=>yA [i0] d λd e f g=>lL f a λa=>Br a (av 1 b f λa=>St 1 g a f λa=>lA f i1 λh=>aC d e [h] a [f] g) (rt c b g)
theorem OG:qB L61 61:=λh=>sd (zA (zA (zB (zA (zB (zF 0 [8] [3,7])))))) func61 h
def L62:Y1:=λ_ a b c=>lL a (iv 2) λd=>lO d (λd=>lG a (iv 1048576) λe=>(lV b e d)) λd=>Br (Value.bool d) (rt c (tP (.pointer none) i1) b) (Build zQ 142 [(0,a),(3,(iv 2))] λa=>lK b a 142 λa b=>yA [(ui 0)] b λb d e f=>lL e (ui 2) λg=>Br g (lM 1 (pt a) f λg=>Build zQ 144 [(0,(iv (-1))),(1,e),(2,e)] λh=>Build zQ 146 [(0,h),(1,vT),(2,(bi 255))] λh=>ax zQ 140 1 [(0,h)] f λh i=>App zQ 146 5 24 (.agg #[i0,(ui 0),(ui 0),vF,(bi 0)]) i g h λg h=>lC 1 (pt a) λi=>St 1 h i g λg=>lA e (ui 1) λh=>aC b d [h] g [e] f) (rt c (tP (pt a) i0) f))
theorem OF:qB L62 62:=λh=>sd (zA (.n (zB (zF 0 [] [1])) (zA (zB (zA (zB (zF 0 [15] [4]))))))) func62 h
def L63:Y2:=λa b c d e=>oP b λf=>Br f (rt e (tP (ui 0) (iv 10)) d) (CR e a 98 #[b,c,(ui 0),(ui 1)] d λa b=>lX a λa c=>rt e (tP a c) b)
theorem OE:qC L63 63:=λh=>sd .e func63 h
def L64:Y2:=λa b c d e=>oP b λf=>Br f (rt e (tP (ui 0) (iv 10)) d) (jB (λf g=>CR e a 84 #[b,f] g λa b=>rt e (tP f a) b) λa=>Br c (JE a [(ui 1)] d) (JE a [(ui 0)] d))
theorem OD:qC L64 64:=λh=>sd (hN 3 (zF 1 [6] [0])) func64 h
def L65:Y2:=λa b c d e=>CR e a 99 #[b,(bi 3),c,(ui 0)] d λa b=>lX a λa c=>rt e (tP a c) b
theorem OC:qC L65 65:=λh=>sd .e func65 h
def L66:Y3:=λa b c d e f=>CR f a 99 #[b,(bi 8),c,d] e λa b=>lX a λa c=>rt f (tP a c) b
theorem OB:qD L66 66:=λh=>sd .e func66 h
def L67:Y3:=λa b c d e f=>CR f a 99 #[b,(bi 14),c,d] e λa b=>lX a λa c=>rt f (tP a c) b
theorem OA:qD L67 67:=λh=>sd .e func67 h
def L68:Y3:=λa b c d e f=>CR f a 99 #[b,(bi 6),c,d] e λa b=>lX a λa c=>rt f (tP a c) b
theorem Oz:qD L68 68:=λh=>sd .e func68 h
def L69:Y4:=λa b c d e f g=>ax zQ 133 3 [(0,c),(1,d),(2,e)] f λf h=>CR g a 100 #[b,f] h λb f=>lX b λb h=>lN h i0 λi=>Br i (rt g (tP (ui 0) h) f) (Build zQ 154 [(0,c),(1,d),(2,e)] λc=>CR g a 101 #[b,c,(.func (.func 102) #[] #[])] f λa b=>lX a λa c=>rt g (tP a c) b)
theorem Oy:qE L69 69:=λh=>sd .e func69 h
def L70:Y4:=λa b c d e f g=>CR g a 103 #[b,d] f λf h=>lX f λf i=>ae .ptr .neq b (.pointer none) λj=>lU j (λj=>Un .not i λi=>(lV h i j)) λj=>Br (Value.bool j) (rt g (tP (ui 0) (iv 2)) h) (ax zQ 133 1 [(0,c)] h λh i=>CR g a 104 #[b,f,h] i λf h=>lN f i0 λi=>Br i (rt g (tP (ui 0) f) h) (CR g a 106 #[b,c,d,e] h λb c=>lX b λd e=>Ext 2 b λb=>CR g a 105 #[d,e,b] c λa b=>lX a λa c=>rt g (tP a c) b))
theorem Ox:qE L70 70:=λh=>sd (zA (zA (zB (zB (zF 0 [] [1]))))) func70 h
def L71:Y3:=λa b c d e f=>CR f a 107 #[b,c,d,vT] e λa b=>lX a λa c=>rt f (tP a c) b
theorem Ow:qD L71 71:=λh=>sd .e func71 h
def L72:Y3:=λa b c d e f=>CR f a 107 #[b,c,d,vF] e λa b=>lX a λa c=>rt f (tP a c) b
theorem Ov:qD L72 72:=λh=>sd .e func72 h
def L73:Y4:=λa b c d e f g=>CF a 103 #[b,d] f (λf h=>lX f λf i=>ae .ptr .neq b (.pointer none) λj=>lU j (λj=>Un .not i λi=>(lV h i j)) λj=>Br (Value.bool j) (rt g (tP (ui 0) (iv 2)) h) (ax zQ 133 2 [(0,c),(1,e)] h λh i=>CF a 104 #[b,f,h] i (λf h=>lN f i0 λi=>Br i (rt g (tP (ui 0) f) h) (CF a 106 #[b,c,d,vF] h (λf h=>lX f λi j=>Ext 2 f λf=>CF a 105 #[i,j,f] h (λf h=>lX f λf i=>lN i i0 λj=>Br j (rt g (tP (ui 0) i) h) (CF a 106 #[b,c,d,vT] h (λc d=>lX c λh i=>Ext 2 c λc=>CF a 105 #[h,i,c] d (λc d=>lX c λc h=>lN h i0 λi=>Br i (j9 zQ a 85 #[b,f] d λi=>rt g (tP (ui 0) h) i) (CF a 69 #[b,e,c,f] d (λd e=>lX d λd h=>j9 zQ a 85 #[b,c] e λc=>j9 zQ a 85 #[b,f] c λa=>rt g (tP d h) a) N6)) N6) N6)) N6) N6)) N6)) N6
theorem Ou(h:L73 g a0 a1 a2 a3 H R):sc g 73 #[a0,a1,a2,a3] H R:=
 AO (hn:=(zA (zA (.n (zB (zF 0 [] [1])) (hN 7 .e))))) func73 h zK
def L74:Y1:=λ_ a b c=>lE a i0 λd=>lO d (λd=>lE a i1 λa=>(lV b a d)) λd=>rt c (Value.bool d) b
theorem Ot:qB L74 74:=λh=>sd (zA (zB (zF 0 [] [1]))) func74 h
def L75:Y2:=λ_ a b c d=>oG b i0 λe=>lU e (λe=>lC 0 a λa=>ai 0 a λa=>Ld c a λa=>lL b a λa=>(lV c a e)) λe=>rt d (Value.bool e) c
theorem Oq:qC L75 75:=λh=>sd (zA (zB (zF 0 [] [1]))) func75 h
def L76:Y2:=λ_ a b c d=>lM 6 a c λa=>c6 (.int .i64) (ui 0) true c a b λa=>lX a λ_ a=>rt d a c
theorem Oo:qC L76 76:=λh=>sd .e func76 h
def L77:Y3:=λa b c d e f=>oP b λg=>Br g (rt f (iv 10) e) (lG c (bi 6) λg=>lO g (λg=>lL d (iv 100) λh=>(lV e h g)) λg=>lO (Value.bool g) (λg=>lG d (iv 1000) λd=>(lV e d g)) λg=>Br (Value.bool g) (rt f i1 e) (jB (λd g=>Br d (rt f (iv 6) g) (rt f i0 g)) λd=>lE c (bi 6) λc=>Split c true (CR f a 108 #[b] e λa b=>lG a (iv 12) λa=>aH vT a vF λa=>JE d [a] b) (aH vF undef vF λa=>JE d [a] e)))
theorem Ao:qD L77 77:=λh=>sd (zA (zB (zB (zA (zA (.n (zF 0 [] [1]) (zA (zF 1 [21] [])))))))) func77 h
def L78:Y2:=λa b c d e=>lW d #[i0,i0,i0,vF] 97 λd f=>CR e a 109 #[b,c] f λf g=>lN f i0 λh=>Br h (Build zQ 97 [] λh=>St 4 g (pt d) h λh=>az 4 h (pt d) λi=>rt e (tP i f) h) (CR e a 83 #[b] g λf g=>Build zQ 97 [(0,f)] λf=>lQ 4 g #[i0,i0,i0,vF] 97 f λf g=>CR e a 110 #[b] g λg h=>aR g λi=>yA [i0] h λh j k l=>lL k i λi=>Br i (lI 1 g k l λg=>CR e a 111 #[b,g,c] l λc g=>lX c λc _=>lQ 4 g #[i0,i0,i0,vF] 97 c λc g=>lD 2 (pt f) g λi=>lD 2 (pt c) g λc=>lA i c λc=>ai 2 (pt f) λi=>St 1 g i c λc=>lA k i1 λg=>aC h j [g] c [k] l) (CR e a 83 #[b] l λa b=>ai 1 (pt f) λc=>St 1 b c a λa=>az 4 a (pt f) λb=>St 4 a (pt d) b λa=>az 4 a (pt d) λb=>rt e (tP b i0) a))
theorem On:qC L78 78:=λh=>sd (hN 3 (zB (zA (zB (zF 0 [25] [0,1,4,7,23,24]))))) func78 h
def L79:Y2:=λa b c d e=>lW d #[i0,i0,i0,vF] 97 λd f=>CR e a 109 #[b,c] f λf g=>lN f i0 λh=>Br h (Build zQ 97 [] λh=>St 4 g (pt d) h λh=>az 4 h (pt d) λi=>rt e (.tuple #[i,i0,f]) h) (CR e a 83 #[b] g λf g=>Build zQ 97 [(0,f)] λf=>lQ 4 g #[i0,i0,i0,vF] 97 f λf g=>yA [i1] g λg h i j=>CR e a 78 #[b,c] j λa b=>lX a λa _=>lQ 4 b #[i0,i0,i0,vF] 97 a λa b=>lD 2 (pt f) b λc=>lD 2 (pt a) b λk=>lA c k λc=>ai 2 (pt f) λk=>St 1 b k c λb=>lD 1 (pt a) b λc=>ai 1 (pt f) λk=>St 1 b k c λb=>lD 1 (pt a) b λc=>lD 0 (pt a) b λa=>oG c a λa=>Br a (az 4 b (pt f) λa=>St 4 b (pt d) a λa=>az 4 a (pt d) λc=>rt e (.tuple #[c,i,i0]) a) (lA i i1 λa=>aC g h [a] b [i] j))
theorem Om:qC L79 79:=λh=>sd (hN 4 (zB (zF 0 [9] [0,1,4,8]))) func79 h
def L80:Y2:=λa b c d e=>lW d #[i0,i0,i0,vF] 97 λd f=>CR e a 112 #[b,c] f λf g=>lN f i0 λh=>Br h (Build zQ 97 [] λh=>St 4 g (pt d) h λh=>az 4 h (pt d) λi=>rt e (tP i f) h) (CR e a 113 #[b,c] g λf g=>CR e a 114 #[f,b,c] g λ_ a=>lC 1 f λb=>az 4 a b λb=>St 4 a (pt d) b λa=>az 4 a (pt d) λb=>rt e (tP b i0) a)
theorem Ol:qC L80 80:=λh=>sd .e func80 h
def L81:Y1:=λ_ a b c=>lS a (bi 3) λa=>br .i64 a λa=>lA a (iv 2) λa=>rt c a b
theorem Oj:qB L81 81:=λh=>sd .e func81 h
def L82:Y1:=λa b c d=>lW c #[i0,i0,i0,vF] 97 λc e=>oP b λf=>Br f (Build zQ 97 [] λf=>St 4 e (pt c) f λf=>az 4 f (pt c) λg=>rt d (tP g (iv 10)) f) (CR d a 108 #[b] e λe f=>lG e (iv 12) λe=>Br e (Build zQ 97 [] λe=>St 4 f (pt c) e λe=>az 4 e (pt c) λg=>rt d (tP g (iv 6)) e) (CR d a 115 #[b] f λe f=>aR e λg=>yB [sZ,i0] f λf h i j k=>lL j g λg=>Br g (lI 1 e j k λe=>CR d a 116 #[b,e] k λe g=>lX e λe _=>lQ 2 g #[i0,sZ] 175 e λe g=>az 2 g (pt e) λe=>ax zQ 171 1 [(0,e)] g λe g=>App zQ 175 2 32 (.agg #[i0,sZ]) g i e λe g=>lA j i1 λl=>aC f h [e,l] g [i,j] k) (CR d a 83 #[b] k λe f=>CR d a 117 #[i] f λf g=>lX f λh i=>Ext 2 f λ_=>lE e h λf=>Br f (Build zQ 97 [(0,e),(1,e),(3,vT)] λf=>St 4 g (pt c) f λf=>az 4 f (pt c) λh=>rt d (tP h i0) f) (CR d a 118 #[b,i] g λf g=>lX f λf h=>CR d a 83 #[b] g λa b=>lE h i0 λg=>Build zQ 97 [(0,e),(1,a),(2,f),(3,g)] λa=>St 4 b (pt c) a λa=>az 4 a (pt c) λb=>rt d (tP b i0) a))))
theorem Oi:qB L82 82:=λh=>sd (hN 4 (zB (zA (zB (zF 0 [4,25] [0,2,23,24]))))) func82 h
def L83:Y1:=λa b c d=>oP b λe=>Br e (rt d i0 c) (lC 0 b λb=>ai 0 b λb=>Ld c b λb=>CR d a 119 #[b] c λa b=>lS a (iv 2) λa=>rt d a b)
theorem Oh:qB L83 83:=λh=>sd .e func83 h
def L84:Y2:=λa b c d e=>oP b λf=>Br f (rt e (iv 10) d) (lC 0 b λf=>CR e a 120 #[f,c] d λa d=>Un .not a λa=>Br a (rt e (iv 3) d) (jA (λa=>lC 7 b λf=>St 1 a f sZ λa=>rt e i0 a) λa=>lG c (ui 1) λf=>Br f (lC 0 b λf=>ai 3 f λf=>Ld d f λf=>lI 1 f c d λf=>lE f (Value.int .i32 65535) λf=>Br f (rt e (iv 8) d) (lC 0 b λe=>ai 3 e λe=>Ld d e λe=>lI 1 e c d λf=>lA f (Value.int .i32 1) λf=>av 1 e c λe=>St 1 d e f λe=>lC 0 b λf=>ai 3 f λf=>Ld e f λf=>lI 1 f c e λf=>lE f (Value.int .i32 1) λf=>Br f (lC 0 b λb=>ai 2 b λb=>Ld e b λb=>lI 1 b c e λf=>lA f (Value.int .i32 1) λf=>av 1 b c λb=>St 1 e b f λb=>JE a [] b) (JE a [] e))) (JE a [] d)))
theorem An:qC L84 84:=λh=>sd (zA (zA (zF 1 [] [0]))) func84 h
def L85:Y2:=λa b c d e=>oP b λf=>Br f (rt e (iv 10) d) (jA (λf=>lC 7 b λg=>St 1 f g sZ λf=>rt e i0 f) λf=>lG c (ui 1) λg=>Br g (CR e a 121 #[b,c] d λg h=>lE g i0 λg=>Br g (rt e (iv 3) h) (lC 0 b λg=>ai 3 g λg=>Ld h g λg=>lI 1 g c h λi=>lS i (Value.int .i32 1) λi=>av 1 g c λg=>St 1 h g i λg=>lC 0 b λh=>ai 3 h λh=>Ld g h λh=>lI 1 h c g λh=>lE h (Value.int .i32 0) λh=>Br h (lC 0 b λb=>CR e a 122 #[b,c] g λ_ a=>JE f [] a) (JE f [] g))) (JE f [] d))
theorem Am:qC L85 85:=λh=>sd (zA (zA (zF 1 [] [0]))) func85 h
theorem GO(h:L85 g a0 a1 H R):kQ zQ g 85 #[a0,a1] H R:=
 AP (hn:=(zA (zA (zF 1 [] [0])))) func85 h zK
def L86:Y2:=λa b c d e=>lW d #[i0,i0,(wi 0),i0] 37 λd f=>lN c i0 λg=>Br g (CR e a 20 #[c] f λa c=>St 4 c (pt d) a λa=>az 4 a (pt d) λc=>rt e c a) (Build zQ 37 [(1,(iv (-1))),(2,b)] λa=>St 4 f (pt d) a λa=>az 4 a (pt d) λb=>rt e b a)
theorem Og:qC L86 86:=λh=>sd .e func86 h
def L87:Y3:=λa b c d e f=>ax zQ 133 1 [(0,c)] e λe g=>CR f a 123 #[b,e] g λe g=>lN e i0 λh=>Br h (rt f (tP vF e) g) (yA [c] g λc e g h=>CR f a 124 #[g] h λi j=>Un .not i λi=>Br i (CR f a 125 #[b,g] j λa b=>lQ 3 b nC 144 a λa b=>lD 1 (pt a) b λi=>lD 0 (pt a) b λk=>oR d k λd=>oA d (wi 1) λd=>lE d (wi 1) λd=>Br d (lD 2 (pt a) b λa=>aC c e [a] b [g] h) (aC c e [i] b [g] h)) (lE g (ui 1) λa=>rt f (tP a i0) j))
theorem Of:qD L87 87:=λh=>sd (zA (zA (zB (zB (zF 0 [1] [0,2]))))) func87 h
def L88:Y1:=λ_ a b c=>Br a (rt c (wi 1) b) (rt c (wi 0) b)
theorem Oe:qB L88 88:=λh=>sd .e func88 h
def L89:Y2:=λa b c d e=>lK d b 53 λb d=>Ld d (pt b) λf=>ax zQ 133 1 [(0,c)] d λd g=>CR e a 123 #[f,d] g λd f=>lN d i0 λg=>Br g (rt e (tP (wi 0) d) f) (lW f #[.nilFunc] 182 λd f=>St 1 f (pt d) (.func (.func 126) #[] #[(pt b)]) λf=>Ld f (pt b) λg=>CR e a 127 #[g,c,(wi 0),(wi 1),(.func (.func 128) #[] #[(pt b),(pt d)])] f λb f=>Ld f (pt d) λd=>aE zQ a d #[c] f (λa c=>oL b a λa=>rt e (tP a i0) c) (dj e))
theorem Od:qC L89 89:=λh=>sd .e func89 h
def L90:Y2:=λa b c d e=>CR e a 123 #[b,c] d λd f=>lN d i0 λg=>Br g (rt e (tP i0 d) f) (lQ 1 f #[i0] 3 i0 λd f=>CR e a 129 #[b,c,(.func (.func 130) #[] #[(pt d)])] f λ_ a=>Ld a (pt d) λb=>rt e (tP b i0) a)
theorem Oc:qC L90 90:=λh=>sd .e func90 h
def L91:Y2:=λa b c d e=>CR e a 131 #[b,c,(wi 0)] d λa b=>lX a λa c=>rt e (tP a c) b
theorem Al:qC L91 91:=λh=>sd .e func91 h
def L92:Y2:=λa b c d e=>ax zQ 133 1 [(0,c)] d λd f=>CR e a 123 #[b,d] f λd f=>lN d i0 λg=>Br g (rt e (tP (wi 0) d) f) (lQ 1 f #[(wi 0)] 33 (wi 0) λd f=>ax zQ 133 1 [(0,c)] f λc f=>CR e a 129 #[b,c,(.func (.func 132) #[] #[(pt d)])] f λ_ a=>Ld a (pt d) λb=>rt e (tP b i0) a)
theorem Ob:qC L92 92:=λh=>sd .e func92 h
def L93:Y2:=λa b c d e=>oP b λf=>Br f (rt e (tP i0 (iv 10)) d) (CR e a 133 #[b,c] d λa d=>Un .not a λa=>Br a (rt e (tP i0 (iv 2)) d) (lM 6 b d λa=>lI 1 a c d λa=>rt e (tP a i0) d))
theorem th:qC L93 93:=λh=>sd .e func93 h
def L94:Y2:=λa b c d e=>oP b λf=>Br f (rt e (iv 10) d) (lL c i0 λf=>lO f (λf=>lM 4 b d λg=>lS g (iv 2) λg=>lG c g λg=>(lV d g f)) λf=>Br (Value.bool f) (rt e i1 d) (CR e a 134 #[b,c] d λa d=>Un .not a λa=>Br a (rt e (iv 9) d) (lM 7 b d λa=>ax zQ 43 1 [(0,c)] d λc d=>App zQ 3 1 8 i0 d a c λa c=>lC 7 b λb=>St 1 c b a λa=>rt e i0 a)))
theorem Ak:qC L94 94:=λh=>sd (zA (zB (zB (zA (zA (zB (zF 0 [] [1]))))))) func94 h
def L97:Y1:=λa b c d=>Br vF (br .u32 b λe=>CR d a 144 #[e] c λe f=>rt d e f) (CR d a 145 #[b] c λa b=>rt d a b)
theorem Oa:qB L97 97:=λh=>sd .e func97 h
def L98:Y4:=λa b c d e f g=>oP b λh=>Br h (rt g (tP (ui 0) (iv 10)) f) (CR g a 146 #[b,c,d,e] f λf h=>lN f i0 λi=>Br i (rt g (tP (ui 0) f) h) (CR g a 147 #[b,c,d,e] h λf h=>lX f λf i=>jB (λj k=>CR g a 84 #[b,j] k λk l=>lN k i0 λm=>Br m (rt g (tP (ui 0) k) l) (rt g (tP j i0) l)) λj=>Un .not i λi=>Br i (lC 0 b λi=>CR g a 148 #[i,i1] h λi k=>Un .not i λi=>Br i (rt g (tP (ui 0) (iv 9)) k) (lC 0 b λb=>Build zQ 144 [(0,c),(1,d),(2,e)] λc=>CR g a 149 #[b,c] k λa b=>JE j [a] b)) (JE j [f] h)))
theorem N9:qE L98 98:=λh=>sd (hN 4 (zF 1 [11] [0])) func98 h
def L99:Y4:=λa b c d e f g=>lK f c 5 λc f=>oP b λh=>Br h (rt g (tP (ui 0) (iv 10)) f) (Ld f (pt c) λh=>lG h (bi 15) λh=>Br h (rt g (tP (ui 0) i1) f) (ax zQ 133 2 [(0,d),(1,e)] f λf h=>CR g a 100 #[b,f] h λb f=>lX b λb h=>lN h i0 λi=>Br i (rt g (tP (ui 0) h) f) (Build zQ 154 [(0,d),(1,e)] λd=>CR g a 101 #[b,d,(.func (.func 150) #[] #[(pt c)])] f λa b=>lX a λa c=>rt g (tP a c) b)))
theorem N8:qE L99 99:=λh=>sd .e func99 h
def L100:Y2:=λa b c d e=>oP b λf=>Br f (rt e (tP (.pointer none) (iv 10)) d) (aR c λf=>yA [i0] d λd g h i=>lL h f λf=>Br f (lI 1 c h i λc=>CR e a 152 #[b,c] i λc f=>lX c λc j=>lQ 3 f nC 144 c λ_ c=>lN j i0 λf=>Br f (rt e (tP (.pointer none) j) c) (lA h i1 λf=>aC d g [f] c [h] i)) (CR e a 108 #[b] i λc d=>cU 3 1 8 i0 d c c λc d=>Build zQ 209 [(0,b),(1,c)] λc=>lK d c 209 λc d=>CR e a 27 #[b] d λa b=>aR a λd=>yA [i0] b λb f g h=>lL g d λd=>Br d (lI 1 a g h λa=>lM 1 (pt c) h λd=>av 1 d a λa=>St 1 h a g λa=>lA g i1 λd=>aC b f [d] a [g] h) (rt e (tP (pt c) i0) h)))
theorem JJ:qC L100 100:=λh=>sd (zA (zA (.n (zA (zB (zF 0 [17] [0,15,16]))) (zA (zB (zA (zB (zF 0 [40] [10,38,39])))))))) func100 h
def L101:Y3:=λa b c d e f=>lK e b 149 λb e=>lK e c 154 λc e=>lK e d 155 λd e=>lW e #[(ui 0)] 78 λe g=>lW g #[i0] 27 λg h=>gH h λh i=>lQ 1 i #[(.map none)] 211 h λh i=>lW i #[.nilFunc] 212 λi j=>St 1 j (pt i) (.func (.func 155) #[] #[(pt h),(pt b),(pt d),(pt i)]) λd=>Ld d (pt i) λh=>az 3 d (pt c) λc=>aE zQ a h #[c] d (λc d=>lX c λc h=>St 1 d (pt e) c λc=>St 1 c (pt g) h λc=>j9 zQ a 153 #[(pt b),(pt e),(pt g)] c λa=>Ld a (pt e) λb=>Ld a (pt g) λc=>rt f (tP b c) a) N6
theorem JI(h:L101 g a0 a1 a2 H R):sc g 101 #[a0,a1,a2] H R:=
 AO (hn:=(zA (zA .e))) func101 h zK
def L102:Y3:=λ_ a b c d e=>lU a (λf=>(lV d b f)) λf=>lO (Value.bool f) (λb=>Un .not a λa=>cS a true (λa=>(lV d c a)) (λa=>vF=Value.bool a) λa=>∀_:Fr,
(lV d (Value.bool a) b)) λb=>rt e (Value.bool b) d
theorem JH:qD L102 102:=λh=>sd (zA (zB (zF 0 [] [1]))) func102 h
def L103:Y2:=λa b c d e=>jB (λf g=>Br f (rt e (tP (wi 0) vF) g) (oL (wi 1) c λf=>rt e (tP f vT) g)) λf=>lL c i0 λg=>Split g false (ae .ptr .neq b (.pointer none) λg=>Split g true (CR e a 108 #[b] d λa b=>oG c a λa=>aH vT a vF λa=>aH vF vT a λa=>JE f [a] b) (aH vF undef vF λa=>aH vF vT a λa=>JE f [a] d)) (aH vT vT undef λa=>JE f [a] d)
theorem JG:qC L103 103:=λh=>sd (zA (zB (zF 1 [17] [1]))) func103 h
def L104:Y3:=λa b c d e f=>oP b λg=>Br g (rt f (iv 10) e) (CR f a 108 #[b] e λe g=>oR c e λc=>lN c (wi 0) λc=>Br c (rt f (iv 2) g) (aR d λc=>yA [i0] g λe g h i=>lL h c λc=>Br c (lI 1 d h i λc=>CR f a 152 #[b,c] i λa b=>lX a λa c=>lQ 3 b nC 144 a λ_ a=>lN c i0 λb=>Br b (rt f (iv 3) a) (lA h i1 λb=>aC e g [b] a [h] i)) (rt f i0 i)))
theorem JF:qD L104 104:=λh=>sd (hN 3 (zB (zA (zB (zF 0 [20] [0,18,19]))))) func104 h
def L105:Y3:=λ_ a b c d e=>lN c i0 λf=>Br f (rt e (tP (ui 0) c) d) (Un .not b λb=>Br b (rt e (tP (ui 0) (iv 8)) d) (rt e (tP a i0) d))
theorem qJ:qD L105 105:=λh=>sd .e func105 h
def L106:Y4:=λa b c d e f g=>lK f c 78 λc f=>lK f d 3 λd f=>lK f e 4 λe f=>CR g a 159 #[b,(.func (.func 160) #[] #[(pt c),(pt d),(pt e)])] f λa b=>lX a λc d=>Ext 2 a λa=>rt g (.tuple #[c,d,a]) b
theorem JD:qE L106 106:=λh=>sd .e func106 h
def L107:Y4:=λa b c d e f g=>ax zQ 133 1 [(0,c)] f λf h=>CR g a 104 #[b,d,f] h λf h=>lN f i0 λi=>Br i (rt g (tP (ui 0) f) h) (lE d (wi 0) λf=>Br f (CR g a 84 #[b,c] h λf i=>lN f i0 λj=>Br j (rt g (tP (ui 0) f) i) (rt g (tP c i0) i)) (CR g a 108 #[b] h λf h=>∃(i:Jt) (j:Mt),JE i [c,vF,i0] h/\∀c h k:zV,∀l:Hp,i [c,h,k] l->∀_:Fr,
lL k f λf=>Br f (jC (λf m n=>lA k i1 λo=>aC i j [f,m,o] n [c,h,k] l) λf=>oR d k λd=>oA d (wi 1) λd=>lE d (wi 0) λd=>Br d (JE f [c,h] l) (CR g a 163 #[b,c,k,e] l λd e=>lX d λi j=>Ext 2 d λd=>CR g a 105 #[i,j,d] e λd e=>lX d λd i=>jA (λj=>lN i i0 λk=>Br k (rt g (tP (ui 0) i) j) (JE f [d,vT] j)) λd=>Br h (CR g a 85 #[b,c] e λ_ a=>JE d [] a) (JE d [] e))) (rt g (tP c i0) l)))
theorem JC:qE L107 107:=λh=>sd (hN 4 (zB (zA (zB (zE 0 [12,13,37] [0,2,3,36] (zA (zA (zE 1 [12,13] [0,2,3,36,37] (zB (hN 3 (zF 1 [] [0,2,3,15,16,36,37]))))))))))) func107 h
variable {g:Gh} {a0 a1 a2 a3 a4 a5 a6 a7 a8 a9 ud uc a12 a13 a14 a15:zV} {H:Hp} {R:Rt}
def L108:Y1:=λ_ a b c=>oP a λd=>Br d (rt c i0 b) (lM 4 a b λa=>rt c a b)
theorem JB:qB L108 108:=λh=>sd .e func108 h
def L109:Y2:=λ_ a b c d=>oP a λa=>Br a (rt d (iv 10) c) (lL b (iv 100) λa=>lO a (λa=>lG b (iv 1000) λb=>(lV c b a)) λa=>Br (Value.bool a) (rt d i1 c) (rt d i0 c))
theorem JA:qC L109 109:=λh=>sd (zA (zB (zB (zA (zA (zB (zF 0 [] [1]))))))) func109 h
def L110:Y1:=λa b c d=>oP b λe=>Br e (rt d sZ c) (CR d a 164 #[] c λc e=>CR d a 108 #[b] e λe f=>yA [i0] f λf g h i=>lL h e λe=>Br e (CR d a 165 #[b,h] i λb e=>lX b λb _=>Un .neg b λb=>CR d a 166 #[c,h,b] e λ_ b=>lA h i1 λe=>aC f g [e] b [h] i) (yA [sZ] i λb e f g=>CR d a 167 #[c] g λh i=>lG h i0 λh=>Br h (CR d a 168 #[c] i λa c=>lX a λh _=>Ext 2 a λ_=>ax zQ 43 1 [(0,h)] c λa c=>App zQ 3 1 8 i0 c f a λa c=>aC b e [a] c [f] g) (rt d f i)))
theorem Jz:qB L110 110:=λh=>sd (hN 3 (.n (zA (zB (zF 0 [16] [0,3,15]))) (zA (zB (zB (zF 0 [7] [3])))))) func110 h
def L111:Y3:=λa b c d e f=>lW e #[i0,i0,i0,vF] 97 λe g=>CR f a 109 #[b,d] g λg h=>lN g i0 λi=>Br i (Build zQ 97 [] λi=>St 4 h (pt e) i λi=>az 4 i (pt e) λj=>rt f (tP j g) i) (CR f a 93 #[b,c] h λc g=>lX c λc h=>lN h i0 λi=>Br i (Build zQ 97 [] λi=>St 4 g (pt e) i λi=>az 4 i (pt e) λj=>rt f (tP j h) i) (CR f a 83 #[b] g λg h=>Build zQ 97 [(0,g)] λg=>lQ 4 h #[i0,i0,i0,vF] 97 g λg h=>lD 0 (pt g) h λi=>Build zQ 228 [(0,b),(1,c),(2,i),(3,c),(4,d)] λd=>lK h d 228 λd h=>CR f a 108 #[b] h λh i=>lS h i1 λh=>lS h c λh=>oQ h c λh=>CR f a 169 #[(pt d),h] i λ_ i=>CR f a 170 #[(pt d)] i λ_ i=>CR f a 171 #[(pt d),c] i λ_ i=>lM 3 (pt d) i λj=>Un .not h λk=>CR f a 169 #[(pt d),k] i λ_ i=>CR f a 170 #[(pt d)] i λ_ i=>jA (λk=>DR k λl=>lM 5 (pt d) l λm=>∀n:Hp,
CN (a.add n) 83 #[b] k λb k=>aM k l/\
ai 1 (pt g) λn=>∀_:Hp,
St 1 k n b λb=>aM b l/\
ai 2 (pt g) λk=>∀_:Hp,
St 1 b k m λb=>az 4 b (pt g) λg=>St 4 b (pt e) g λb=>az 4 b (pt e) λe=>rt f (tP e i0) b) λb=>lM 3 (pt d) i λe=>lN e j λe=>Br e (lM 3 (pt d) i λe=>CR f a 171 #[(pt d),e] i λ_ e=>JE b [] e) (CR f a 171 #[(pt d),c] i λ_ c=>CR f a 169 #[(pt d),h] c λ_ c=>∃(e:Jt) (f:Mt),JE e [] c/\∀c:Hp,e [] c->∀_:Fr,
jB (λg h=>Br g (aC e f [] h [] c) (JE b [] h)) λb=>DR c λe=>lM 1 (pt d) e λf=>lM 3 (pt d) e λg=>lN f g λf=>Br f (lM 7 (pt d) e λd=>∀e:Hp,
aE zQ (a.add e) d #[] c (λa d=>lE a i0 λa=>aH vT a vF λa=>JE b [a] d) ej) (JE b [vF] c))))
theorem Jy:qD L111 111:=λh=>sd (hN 13 (.h 1 [] [0,6,11,12] (hN 4 (zB (zE 0 [] [0,6,11,12] (zB (zE 1 [102] [0,6,11,12] (zE 1 [] [] (hr 0 [1] 0 9 (.h 2 [9] [] (hr 0 [1] 10 7 .e) (hr 0 [1] 10 6 (zF 3 [16] [1])))))))))) (zB (zE 1 [] [] (zE 0 [0] [1] (hr 0 [1] 2 4 (zE 0 [1] [1] (hr 0 [1] 6 4 .e)))))))) func111 h
def L112:Y2:=λ_ a b c d=>oP a λa=>Br a (rt d (iv 10) c) (lL b (iv 2) λa=>lO a (λa=>lG b (iv 4) λb=>(lV c b a)) λa=>Br (Value.bool a) (rt d i1 c) (rt d i0 c))
theorem Jx:qC L112 112:=λh=>sd (zA (zB (zB (zA (zA (zB (zF 0 [] [1]))))))) func112 h
def L113:Y2:=λa b c d e=>lK d b 53 λb d=>DR d λf=>Ld f (pt b) λg=>Ld f (pt b) λh=>CN a 83 #[g] d λd g=>aM g f/\
CN a 83 #[h] g λg h=>aM h f/\
Build zQ 97 [(0,d),(1,g)] λd=>Build zQ 170 [(1,d)] λd=>lK h d 170 λd g=>aM g f/\
CR e a 172 #[c] g λa c=>lX a λa _=>lQ 1 c #[sZ] 43 a λa c=>lC 0 (pt d) λf=>St 1 c f (.func (.func 173) #[] #[(pt b),(pt a)]) λa=>rt e (pt d) a
theorem Jw:qC L113 113:=λh=>sd (zA (zB (zF 0 [0,2,1,3,4,5,6,7] []))) func113 h
def L114:Y3:=λa b c d e f=>yA [i0] e λe g h i=>lA h d λd=>CR f a 108 #[c] i λj k=>oQ d j λd=>Br d (CR f a 177 #[b,c,h] k λ_ a=>lA h i1 λb=>aC e g [b] a [h] i) (rt f (.tuple #[]) k)
theorem Jv:qD L114 114:=λh=>sd (zA (zB (zF 0 [6] [0,1,2]))) func114 h
def L115:Y1:=λ_ a b c=>oP a λd=>Br d (rt c sZ b) (lC 0 a λa=>ai 3 a λa=>Ld b a λa=>aR a λd=>yB [sZ,i0] b λb e f g h=>lL g d λd=>Br d (jB (λd i=>lA g i1 λj=>aC b e [d,j] i [f,g] h) λb=>lI 1 a g h λa=>lG a (Value.int .i32 0) λa=>Br a (br .u32 g λa=>ax zQ 133 1 [(0,a)] h λa d=>App zQ 78 1 4 (ui 0) d f a λa d=>JE b [a] d) (JE b [f] h)) (rt c f h))
theorem Ju:qB L115 115:=λh=>sd (hN 3 (zB (zA (zB (zE 0 [3,14] [12,13] (zA (zA (zF 1 [3] [12,13,14])))))))) func115 h
def L116:Y2:=λa b c d e=>lW d #[i0,sZ] 175 λd f=>ax zQ 133 1 [(0,c)] f λf g=>CR e a 123 #[b,f] g λf g=>lN f i0 λh=>Br h (Build zQ 175 [] λh=>St 2 g (pt d) h λh=>az 2 h (pt d) λi=>rt e (tP i f) h) (CR e a 108 #[b] g λf g=>lQ 1 g #[i0] 3 f λf g=>Ld g (pt f) λh=>lG h (iv 16) λh=>Br h (Build zQ 175 [] λh=>St 2 g (pt d) h λh=>az 2 h (pt d) λi=>rt e (tP i (iv 6)) h) (Ld g (pt f) λh=>CR e a 178 #[h,vF] g λg h=>lX g λg _=>lQ 2 h #[i0,sZ] 175 g λg h=>Ld h (pt f) λi=>CR e a 178 #[i,vT] h λh i=>lX h λh _=>lQ 2 i #[i0,sZ] 175 h λh i=>az 2 i (pt g) λg=>az 2 i (pt h) λh=>CR e a 179 #[b,c,g,h,(.func (.func 180) #[] #[(pt f)])] i λa b=>St 2 b (pt d) a λa=>az 2 a (pt d) λb=>rt e (tP b i0) a))
theorem Js:qC L116 116:=λh=>sd .e func116 h
def L117:Y1:=λa b c d=>CR d a 183 #[b] c λb c=>lX b λb e=>lN e i0 λf=>Br f (rt d (.tuple #[i0,sZ,e]) c) (lM 1 b c λe=>lG e (iv 12) λe=>Br e (rt d (.tuple #[i0,sZ,(iv 6)]) c) (yB [sZ,i0] c λc e f g h=>aR f λi=>lM 1 b h λj=>lL i j λi=>Br i (lM 1 b h λi=>∃(j:Jt) (k:Mt),JE j [f,g,i0] h/\∀l m n:zV,∀o:Hp,j [l,m,n] o->∀_:Fr,
lL n i λi=>Br i (jB (λi p=>Br i (ax zQ 43 1 [(0,n)] p λi q=>App zQ 3 1 8 i0 q l i λi q=>oL i1 n λr=>oO m r λr=>aC c e [i,r] q [f,g] h) (lA n i1 λi=>aC j k [l,m,i] p [l,m,n] o)) λi=>DR o λ_=>oR m n λj=>oA j i1 λj=>lE j i0 λj=>Br j (oL i1 n λj=>oO m j λj=>∀k:Hp,
CN (a.add k) 184 #[b,m,n] o λk n=>∀p:Hp,
CN (a.add p) 185 #[b,j] n λj n=>lA k j λj=>∀k:Hp,
CN (a.add k) 185 #[b,m] n λk n=>lE j k λj=>aH vT j vF λj=>JE i [j] n) (JE i [vF] o)) (aC c e [l,m] o [f,g] h)) (CR d a 185 #[b,i0] h λa b=>rt d (.tuple #[a,f,i0]) b)))
theorem Jr:qB L117 117:=λh=>sd (hN 6 (zB (zB (zE 0 [7,8] [5] (zA (zB (zA (zB (zE 0 [7,8,34] [5,33] (zA (zA (zB (zB (zA (zE 1 [58] [5,7,8,9,33,34] (zE 1 [] [] (hr 0 [] 0 5 (.h 2 [5] [] (hr 0 [] 6 3 (hr 0 [] 10 5 (hr 0 [] 17 2 (zE 0 [9] [] (hr 0 [] 15 2 (hr 0 [] 19 3 .e)))))) (hr 0 [] 6 15 (zF 3 [21] [])))))))))))))))))))) func117 h
def L118:Y2:=λa b c d e=>oP b λf=>Br f (rt e (tP i0 (iv 10)) d) (jB (λf g=>Br f (rt e (tP i0 (iv 4)) g) (CR e a 27 #[b] g λf g=>CR e a 187 #[f,c] g λf g=>lX f λf h=>lN h i0 λi=>Br i (rt e (tP i0 h) g) (CR e a 188 #[b,f] g λf g=>lX f λf h=>rt e (tP f h) g))) λf=>CR e a 186 #[c] d λd g=>lN d i0 λd=>Split d false (aR c λc=>CR e a 108 #[b] g λa b=>lN c a λa=>aH vF vT a λa=>JE f [a] b) (aH vT vT undef λa=>JE f [a] g))
theorem Jq:qC L118 118:=λh=>sd (zA (zA (zB (zF 1 [19] [0,1])))) func118 h
def L119:Y1:=λ_ a b c=>oP a λd=>Br d (rt c i0 b) (lM 3 a b λa=>rt c a b)
theorem Jp:qB L119 119:=λh=>sd .e func119 h
def L120:Y2:=λa b c d e=>lM 0 b d λb=>CR e a 189 #[b,c] d λa b=>lX a λa c=>lQ 3 b nC 144 a λ_ a=>lE c i0 λb=>rt e b a
theorem Jo:qC L120 120:=λh=>sd .e func120 h
def L121:Y2:=λ_ a b c d=>oP a λe=>lO e (λe=>br .i64 b λf=>lC 0 a λg=>ai 3 g λg=>Ld c g λg=>aR g λg=>oG f g λf=>(lV c f e)) λe=>Br (Value.bool e) (rt d i0 c) (lC 0 a λa=>ai 3 a λa=>Ld c a λa=>lI 1 a b c λa=>br .i64 a λa=>rt d a c)
theorem Jn:qC L121 121:=λh=>sd (zA (zB (zB (zF 0 [] [1])))) func121 h
def L122:Y2:=λa b c d e=>ax zQ 133 1 [(0,c)] d λc d=>yA [c] d λc d f g=>aR f λh=>lG h i0 λh=>Br h (aR f λh=>lS h i1 λh=>lI 1 f h g λi=>gx 1 f none (some h) λh=>oQ i (ui 1) λj=>Br j (aC c d [h] g [f] g) (lM 2 b g λj=>lI 1 j i g λk=>lS k (Value.int .i32 1) λk=>av 1 j i λj=>St 1 g j k λj=>lM 2 b j λk=>lI 1 k i j λk=>lG k (Value.int .i32 0) λk=>Br k (aC c d [h] j [f] g) (CR e a 190 #[b,i] j λj k=>lQ 3 k nC 144 j λj k=>DR k λl=>lM 1 b l λm=>az 3 l (pt j) λl=>CN a 191 #[m,l] k λ_ k=>lM 0 b k λb=>CR e a 192 #[b,i] k λ_ a=>lD 1 (pt j) a λb=>lD 2 (pt j) a λi=>ax zQ 133 2 [(0,b),(1,i)] a λa b=>App zQ 78 1 4 (ui 0) b h a λa b=>aC c d [a] b [f] g))) (rt e (.tuple #[]) g)
theorem Jm:qC L122 122:=λh=>sd (zA (zB (zE 0 [4] [0] (zA (zB (hN 6 (zB (zF 0 (yR 6) [])))))))) func122 h
def L123:Y2:=λa b c d e=>oP b λf=>Br f (rt e (iv 10) d) (aR c λf=>yA [i0] d λd g h i=>lL h f λf=>Br f (lI 1 c h i λc=>CR e a 152 #[b,c] i λa b=>lX a λa c=>lQ 3 b nC 144 a λ_ a=>lN c i0 λb=>Br b (rt e c a) (lA h i1 λb=>aC d g [b] a [h] i)) (rt e i0 i))
theorem Jl:qC L123 123:=λh=>sd (zA (zA (zB (zA (zB (zF 0 [13] [0,11,12])))))) func123 h
def L124:Y1:=λ_ a b c=>lE a (ui 0) λd=>lO d (λd=>lE a (ui 1) λa=>(lV b a d)) λd=>rt c (Value.bool d) b
theorem Jk:qB L124 124:=λh=>sd (zA (zB (zF 0 [] [1]))) func124 h
def L125:Y2:=λa b c d e=>lW d nC 144 λd f=>CR e a 152 #[b,c] f λa b=>lX a λa _=>lQ 3 b nC 144 a λa b=>az 3 b (pt a) λa=>St 3 b (pt d) a λa=>az 3 a (pt d) λb=>rt e b a
theorem Jj:qC L125 125:=λh=>sd .e func125 h
def L126:Y2:=λa b c d e=>CR e a 124 #[b] d λd f=>Br d (Ld f c λd=>CR e a 108 #[d] f λd g=>rt e d g) (DR f λd=>Ld d c λg=>Ld d c λc=>∀h:Hp,
CN (a.add h) 125 #[c,b] f λb c=>aM c d/\
Az 0 b λb=>∀f:Hp,
CN (a.add f) 93 #[g,b] c λa b=>aM b d/\
lX a λa _=>rt e a b)
theorem Ji:qC L126 126:=λh=>sd (zA (zA (zB (zE 1 [] [] (hr 0 [1] 0 11 .e))))) func126 h
def L127:Y5:=λa b c d e f g h=>lK g b 53 λb g=>lK g f 187 λf g=>gH g λg i=>aW (.int .u32) i g (ui 0) d λd=>aW (.int .u32) d g (ui 1) e λd=>lQ 1 d #[(.map none)] 254 g λd e=>lW e #[.nilFunc] 255 λe g=>St 1 g (pt e) (.func (.func 193) #[] #[(pt d),(pt b),(pt f),(pt e)]) λb=>Ld b (pt e) λd=>aE zQ a d #[c] b (λa b=>rt h a b) (dj h)
theorem Jh:qF L127 127:=λh=>sd .e func127 h
def L128:Y5:=λa b c d e f g h=>lK g b 144 λb g=>Ld g e λe=>lD 0 (pt b) g λi=>CR h a 93 #[e,i] g λe g=>lX e λe _=>DR g λi=>Ld i f λj=>lD 1 (pt b) i λk=>Ld i f λf=>lD 2 (pt b) i λb=>∀l:Hp,
aE zQ (a.add l) j #[k] g (λg j=>aM j i/\
lS g e λg=>lS g i1 λg=>oL c g λc=>∀g:Hp,
aE zQ (a.add g) f #[b] j (λa b=>lS a e λa=>lS a i1 λa=>oL d a λa=>lA c a λa=>rt h a b) ej) ej
theorem Jg:qF L128 128:=λh=>sd (zA (zA (zB (zE 1 [] [] (hr 0 [1] 0 4 (zE 0 [5] [1] (hr 0 [1] 9 4 (zE 0 [14] [1] (zE 0 [4] [1] (hr 0 [1] 6 3 (zE 0 [13] [1] (hr 0 [1] 15 5 .e)))))))))))) func128 h
def L129:Y3:=λa b c d e f=>lK e b 53 λb e=>lK e d 189 λd e=>gH e λe g=>lQ 1 g #[(.map none)] 256 e λe g=>lW g #[.nilFunc] 183 λg h=>St 1 h (pt g) (.func (.func 194) #[] #[(pt e),(pt b),(pt d),(pt g)]) λb=>aR c λd=>yA [i0] b λb e h i=>lL h d λd=>Br d (lI 1 c h i λc=>Ld i (pt g) λd=>aE zQ a d #[c] i (λ_ a=>lA h i1 λc=>aC b e [c] a [h] i) (dj f)) (rt f (.tuple #[]) i)
theorem Jf:qD L129 129:=λh=>sd (hN 5 (zB (zF 0 [14] [7,12,13]))) func129 h
def L130:Y2:=λ_ a b c d=>lK c a 144 λ_ a=>Ld a b λc=>lA c i1 λc=>St 1 a b c λa=>rt d (.tuple #[]) a
theorem Je:qC L130 130:=λh=>sd .e func130 h
def L131:Y3:=λa b c d e f=>CR f a 195 #[b,c] e λe g=>lN e i0 λh=>Br h (rt f (tP (wi 0) e) g) (CR f a 196 #[b,c] g λb c=>CR f a 197 #[b] c λc e=>CR f a 198 #[c,d] e λc e=>Un .not c λc=>Br c (rt f (tP (wi 0) (iv 10)) e) (lM 0 b e λc=>lS c i1 λc=>yB [d,c] e λc d e g h=>oG g i0 λi=>Br i (jB (λi j=>lS g i1 λk=>aC c d [i,k] j [e,g] h) λc=>CR f a 199 #[b,g,(wi 0)] h λ_ d=>CR f a 197 #[b] d λd i=>lQ 2 i #[(wi 0),vF] 261 d λd i=>az 2 i (pt d) λj=>CR f a 198 #[j,e] i λi j=>Un .not i λi=>Br i (lD 0 (pt d) j λd=>lS e d λd=>CR f a 199 #[b,g,(wi 1)] j λ_ a=>JE c [d] a) (JE c [e] j)) (lM 5 b h λa=>rt f (tP a i0) h)))
theorem xN:qD L131 131:=λh=>sd (hN 4 (zB (zA (zB (zE 0 [2,10] [9] (zA (zF 1 [2] [9,10]))))))) func131 h
def L132:Y2:=λ_ a b c d=>lK c a 144 λa c=>DR c λe=>Ld e b λf=>lD 0 (pt a) e λa=>oL (wi 1) a λa=>oO f a λa=>∀_:Hp,
St 1 c b a λa=>rt d (.tuple #[]) a
theorem Jd:qC L132 132:=λh=>sd (zA (zE 1 [] [] (hr 0 [1] 0 6 .e))) func132 h
def L133:Y2:=λ_ a b c d=>oG b i0 λe=>lU e (λe=>lM 4 a c λa=>lL b a λa=>(lV c a e)) λe=>rt d (Value.bool e) c
theorem Jc:qC L133 133:=λh=>sd (zA (zB (zF 0 [] [1]))) func133 h
def L134:Y2:=λa b c d e=>lM 5 b d λf=>lI 1 f c d λf=>lM 5 b d λg=>lA c i1 λh=>lI 1 g h d λg=>CR e a 200 #[b,f,g] d λd h=>DR h λ_=>lC 0 b λi=>CN a 201 #[b,f,d] h λh j=>CN a 148 #[i,h] j λh i=>Un .not h λh=>Br h (rt e vF i) (aR d λh=>yA [i0] i λi j k l=>lL k h λh=>Br h (av 8 d k λh=>az 8 l h λh=>lQ 8 l #[(ui 0),i0,(ui 0),(ui 0),(ui 0),(ui 0),(ui 0),(ui 0)] 272 h λh m=>DR m λn=>lC 0 b λo=>ai 1 o λo=>Ld n o λo=>ai 1 (pt h) λh=>az 3 n h λh=>CN a 191 #[o,h] m λ_ h=>lA k i1 λm=>aC i j [m] h [k] l) (aR d λh=>yA [i0] l λi j k l=>lL k h λh=>Br h (av 8 d k λh=>az 8 l h λh=>lQ 8 l #[(ui 0),i0,(ui 0),(ui 0),(ui 0),(ui 0),(ui 0),(ui 0)] 272 h λh m=>DR m λn=>lC 0 b λo=>lD 4 (pt h) n λp=>lD 6 (pt h) n λn=>CN a 202 #[o,f,p,n] m λm n=>lC 0 b λo=>CR e a 203 #[o,m] n λ_ n=>DR n λo=>lC 0 b λp=>lD 5 (pt h) o λq=>lD 7 (pt h) o λo=>CN a 202 #[p,f,q,o] n λn o=>lC 0 b λp=>CR e a 203 #[p,n] o λ_ o=>Build zQ 144 [(0,g),(1,m),(2,n)] λm=>lQ 3 o nC 144 m λm n=>DR n λo=>lC 0 b λp=>ai 0 p λp=>Ld o p λp=>lD 0 (pt h) o λq=>az 3 o (pt m) λo=>CN a 204 #[p,q,o] n λ_ n=>DR n λo=>lC 0 b λp=>ai 1 p λp=>Ld o p λp=>az 3 o (pt m) λm=>lD 0 (pt h) o λh=>CN a 205 #[p,m,h] n λ_ h=>lA k i1 λm=>aC i j [m] h [k] l) (aR d λh=>yA [i0] l λi j k l=>lL k h λh=>Br h (av 8 d k λd=>az 8 l d λd=>lQ 8 l #[(ui 0),i0,(ui 0),(ui 0),(ui 0),(ui 0),(ui 0),(ui 0)] 272 d λd h=>DR h λm=>lC 0 b λn=>ai 1 (pt d) λo=>ai 1 o λo=>Ld m o λm=>CN a 122 #[n,m] h λ_ h=>DR h λm=>lC 0 b λn=>ai 1 (pt d) λd=>ai 2 d λd=>Ld m d λd=>CN a 122 #[n,d] h λ_ a=>lA k i1 λd=>aC i j [d] a [k] l) (DR l λa=>lM 5 b a λd=>lM 5 b a λa=>lA c i1 λh=>av 1 d c λd=>St 1 l d g λd=>av 1 a h λa=>St 1 d a f λa=>DR a λd=>lM 6 b d λh=>lM 6 b d λb=>lA c i1 λd=>av 1 h f λf=>St 1 a f d λa=>av 1 b g λb=>St 1 a b c λa=>rt e vT a))))
theorem Jb:qC L134 134:=λh=>sd (hN 3 (.n (zB (zF 0 (yR 9) [])) (.n (zA (zB (zE 0 [47] [0,1,5,6,7,45,46] (zA (zA (zB (zB (zA (zF 0 (yR 8) []))))))))) (.n (zA (zB (zE 0 [62] [0,1,5,6,7,60,61] (zA (zA (zB (zB (zA (.n (zF 0 (yR 10) []) (zA (.n (zF 0 (yR 10) []) (zA (zA (.n (zF 0 (yR 9) []) (zF 0 (yR 9) []))))))))))))))) (.n (zA (zB (zE 0 [119] [0,1,5,6,117,118] (zA (zA (zB (zB (zA (.n (zF 0 (yR 7) []) (zF 0 (yR 7) [])))))))))) (.n (zF 0 (yR 17) []) (zB (zF 0 (yR 17) [])))))))) func134 h
def L145:Y1:=λ_ a b c=>jC (λd e f=>jC (λg h i=>jC (λj k l=>br .u8 j λj=>Yz (.string  zX) j λj=>br .i64 j λj=>lA k j λj=>rt c j l) λc=>oG g (wi 256) λj=>Br j (oR g (wi 8) λj=>lA h (iv 8) λk=>JE c [j,k] i) (JE c [g,h] i)) λc=>oG d (wi 65536) λg=>Br g (oR d (wi 16) λg=>lA e (iv 16) λh=>JE c [g,h] f) (JE c [d,e] f)) λc=>oG a (wi 4294967296) λd=>Br d (oR a (wi 32) λd=>JE c [d,(iv 32)] b) (JE c [a,i0] b)
theorem Ja:qB L145 145:=λh=>sd (zA (.h 1 [0,2] [] .e (.h 1 [0,2] [] .e (zF 1 [0,2] [])))) func145 h
def L146:Y4:=λa b c d e f g=>CR g a 133 #[b,c] f λf h=>Un .not f λf=>Br f (rt g (iv 2) h) (jB (λf i=>Br f (rt g (iv 3) i) (jB (λf j=>Br f (rt g (iv 4) j) (rt g i0 j)) λf=>DR i λj=>lN d e λk=>Br k (lM 6 b j λk=>lI 1 k c j λc=>∀k:Hp,
CN (a.add k) 212 #[b,d] i λk l=>aM l j/\
∀m:Hp,
CN (a.add m) 212 #[b,e] l λl m=>aM m j/\
aaI k l λj=>oG c j λc=>aH vT c vF λc=>JE f [c] m) (JE f [vF] i))) λc=>lC 0 b λf=>CR g a 120 #[f,d] h λd f=>Un .not d λd=>Split d false (lC 0 b λb=>CR g a 120 #[b,e] f λa b=>Un .not a λa=>aH vF vT a λa=>JE c [a] b) (aH vT vT undef λa=>JE c [a] f))
theorem I9:qE L146 146:=λh=>sd (zA (zB (zB (zA (zA (.h 1 [14] [0,1,2,3] .e (zA (zE 1 [29] [] (zE 1 [] [] (hr 0 [] 0 3 (.h 2 [3] [] (hr 0 [] 4 9 (hr 0 [] 14 2 (zE 0 [13] [] (hr 0 [] 16 5 .e)))) (hr 0 [] 4 15 (hr 3 [] 19 2 .e))))))))))))) func146 h
def L147:Y4:=λa b c d e f g=>lE d e λh=>Br h (rt g (tP d vT) f) (lC 0 b λb=>ai 1 b λb=>Ld f b λb=>Build zQ 144 [(0,c),(1,d),(2,e)] λc=>CR g a 213 #[b,c] f λa b=>lX a λa c=>rt g (tP a c) b)
theorem I8:qE L147 147:=λh=>sd .e func147 h
def L148:Y2:=λa b c d e=>DR d λf=>lM 0 b f λg=>lM 0 b f λb=>CN a 119 #[g] d λd g=>aM g f/\
lA d c λc=>CN a 214 #[b] g λa b=>aM b f/\
oQ c a λa=>rt e a b
theorem I7:qC L148 148:=λh=>sd (zA (zB (zF 0 [0,1,2,3,5,7,8,9,10,4,6,11,12,13] []))) func148 h
variable {g:Gh} {a0 a1 a2 a3 a4 a5 a6 a7 a8 a9 ud uc a12 a13 a14 a15:zV} {H:Hp} {R:Rt}
def L149:Y2:=λa b c d e=>lK d c 144 λc d=>DR d λf=>lM 0 b f λg=>az 3 f (pt c) λh=>CN a 215 #[g,h] d λd g=>aM g f/\
lX d λd _=>∃(f:Jt) (h:Mt),JE f [] g/\∀g:Hp,f [] g->∀_:Fr,
br .i64 d λi=>lM 2 b g λj=>aR j λj=>oG i j λi=>Br i (lM 2 b g λi=>ax zQ 85 1 [(0,(Value.int .i32 0))] g λj k=>App zQ 21 1 4 (Value.int .i32 0) k i j λi j=>lC 2 b λk=>St 1 j k i λi=>lM 3 b i λj=>ax zQ 85 1 [(0,(Value.int .i32 0))] i λi k=>App zQ 21 1 4 (Value.int .i32 0) k j i λi j=>lC 3 b λk=>St 1 j k i λi=>aC f h [] i [] g) (DR g λf=>lM 2 b f λh=>lM 3 b f λf=>av 1 h d λh=>St 1 g h (Value.int .i32 0) λg=>av 1 f d λf=>St 1 g f (Value.int .i32 0) λf=>lD 1 (pt c) f λg=>CR e a 203 #[b,g] f λ_ f=>lD 2 (pt c) f λg=>CR e a 203 #[b,g] f λ_ f=>DR f λg=>lM 1 b g λb=>az 3 g (pt c) λc=>CN a 205 #[b,c,d] f λ_ a=>rt e d a)
theorem I6:qC L149 149:=λh=>sd (zA (.n (zF 0 (yR 11) []) (.n (zB (zF 0 [] [0,3,5])) (.n (zF 0 (yR 14) []) (zA (zA (zB (zF 0 (yR 7) [])))))))) func149 h
def L150:Y4:=λa b c _ d e f=>DR e λg=>Ld g d λd=>CN a 151 #[b] e λb e=>aM e g/\
oM (bi 2) b λb=>CN a 151 #[c] e λa c=>aM c g/\
lA b a λa=>oR d a λa=>oA a (bi 1) λa=>lE a (bi 1) λa=>rt f a c
theorem I5:qE L150 150:=λh=>sd (zA (zB (zF 0 [0,1,4,2,3,5,6,7,8,9,10] []))) func150 h
def L151:Y1:=λ_ a b c=>Br a (rt c (bi 1) b) (rt c (bi 0) b)
theorem I4:qB L151 151:=λh=>sd .e func151 h
def L152:Y2:=λa b c d e=>lW d nC 144 λd f=>oP b λg=>Br g (Build zQ 144 [] λg=>St 3 f (pt d) g λg=>az 3 g (pt d) λh=>rt e (tP h (iv 10)) g) (lC 0 b λg=>CR e a 120 #[g,c] f λf g=>Un .not f λf=>Br f (Build zQ 144 [] λf=>St 3 g (pt d) f λf=>az 3 f (pt d) λh=>rt e (tP h (iv 3)) f) (lC 0 b λb=>CR e a 190 #[b,c] g λa b=>St 3 b (pt d) a λa=>az 3 a (pt d) λb=>rt e (tP b i0) a))
theorem I3:qC L152 152:=λh=>sd .e func152 h
def L153:Y3:=λa b c d e f=>Ld e b λb=>Ld e c λg=>Ld e d λh=>CR f a 154 #[b,g,h] e λa b=>lX a λa e=>St 1 b c a λa=>St 1 a d e λa=>rt f (.tuple #[]) a
theorem Et(h:L153 g a0 a1 a2 H R):kQ zQ g 153 #[a0,a1,a2] H R:=
 AP (hn:=.e) func153 h zK
def L154:Y3:=λa b c d e f=>lE c (ui 0) λg=>lO g (λg=>lE c (ui 1) λh=>(lV e h g)) λg=>lM 2 b e λh=>aR h λi=>yB [(Value.bool g),i0] e λe g j k l=>lL k i λi=>Br i (jB (λi m=>lA k i1 λn=>aC e g [i,n] m [j,k] l) λe=>lI 1 h k l λg=>lE g c λh=>lU h (λh=>Un .not j λi=>(lV l i h)) λh=>lU (Value.bool h) (λh=>lE d i0 λi=>(lV l i h)) λh=>Br (Value.bool h) (JE e [vT] l) (lM 0 b l λh=>CR f a 85 #[h,g] l λ_ g=>JE e [j] g)) (lC 2 b λe=>St 1 l e sZ λe=>jA (λg=>rt f (tP c i0) g) λg=>lN d i0 λh=>Br h (rt f (tP (ui 0) d) e) (Un .not j λd=>Br d (rt f (tP (ui 0) (iv 8)) e) (lE c (ui 0) λd=>lO d (λd=>lE c (ui 1) λh=>(lV e h d)) λd=>Br (Value.bool d) (lM 0 b e λb=>CR f a 84 #[b,c] e λ_ a=>JE g [] a) (JE g [] e))))
theorem I2:qD L154 154:=λh=>sd (zA (.n (zF 0 [] [1]) (.n (zA (zB (zE 0 [8,22] [0,1,2,20,21] (zA (zA (zE 1 [8] [0,1,2,20,21,22] (zB (zA (zB (zB (zF 0 [] [1]))))))))))) (zA (zE 1 [] [1] (zB (hN 4 (zB (zF 0 [] [1]))))))))) func154 h
def L155:Y5:=λa b c d e f g h=>lK g b 154 λb g=>Ld g c λi=>az 3 g (pt b) λj=>j7 zQ 154 (ui 0) true g i j λi=>lX i λi j=>Br j (rt h (tP i i0) g) (Ld g d λi=>az 3 g (pt b) λj=>CR h a 156 #[i,j] g λg i=>Ld i d λj=>CR h a 157 #[j,g] i λi j=>lL i i0 λk=>Br k (Ld j e λe=>iX 3 1 (pt b) i0 λk=>Ld j k λk=>lE k (ui 1) λk=>iX 3 1 (pt b) i1 λl=>Ld j l λl=>lE l (ui 1) λl=>iX 3 1 (pt b) (iv 2) λm=>Ld j m λm=>lE m (ui 1) λm=>aE zQ a e #[k,l,m] j (λe k=>Br e (rt h (tP (ui 1) i0) k) (rt h (tP (ui 0) i0) k)) (dj h)) (DR j λe=>az 3 e (pt b) λk=>az 3 e (pt b) λl=>lW j #[(ui 0),(ui 0),(ui 0)] 154 λj m=>lW m #[(ui 0),(ui 0),(ui 0)] 154 λm n=>∀_:Hp,
St 3 n (pt j) k λk=>aM k e/\
∀_:Hp,
St 3 k (pt m) l λe=>aR g λk=>yA [i0] e λe l n o=>lL n k λk=>Br k (jA (λk=>lA n i1 λp=>aC e l [p] k [n] o) λe=>av 3 g n λg=>az 3 o g λg=>lQ 3 o nC 144 g λg k=>lD 0 (pt g) k λl=>lE l i λl=>Br l (DR k λl=>lD 1 (pt g) l λp=>lD 2 (pt g) l λg=>iX 3 1 (pt j) n λq=>St 1 k q p λp=>aM p l/\
iX 3 1 (pt m) n λl=>St 1 p l g λg=>JE e [] g) (JE e [] k)) (Ld o f λe=>az 3 o (pt j) λg=>aE zQ a e #[g] o (λe g=>lX e λe j=>lN j i0 λk=>Br k (rt h (tP (ui 0) j) g) (Ld g f λf=>az 3 g (pt m) λj=>aE zQ a f #[j] g (λf g=>lX f λf j=>lN j i0 λk=>Br k (rt h (tP (ui 0) j) g) (Ld g d λd=>CR h a 158 #[d,i,e,f] g λa d=>lX a λa e=>jA (λf=>rt h (tP a e) f) λf=>lE e i0 λe=>Br e (Ld d c λc=>az 3 d (pt b) λb=>iJ zQ 154 d c b a λa=>JE f [] a) (JE f [] d))) (dj h))) (dj h))))
theorem xM:qF L155 155:=λh=>sd (hN 5 (.n (zE 1 [] [] (hr 0 [] 0 2 (hr 1 [] 2 2 (hr 0 [] 2 4 .e)))) (.n (zA (zB (zE 0 [51] [1,2,4,5,11,12,13,49,50] (zA (zA (zE 1 [] [1,2,4,5,11,12,13,49,50,51] (zB (zA (zA (zB (zF 0 (yR 10) []))))))))))) (hN 5 (zF 1 [] [17,19]))))) func155 h
def L156:Y2:=λa b c d e=>lK d c 154 λc d=>az 3 d (pt c) λc=>yB [sZ,i0] d λd f g h i=>lL h (iv 3) λj=>Br j (jH zQ a (gI Tryz.f156 4 0) (ev (λj=>cond (Nat.beq j 10) c (cond (Nat.beq j 11) h (undef)))) i λc=>lM 0 b i λb=>CR e a 152 #[b,c] i λa b=>lX a λa _=>lQ 3 b nC 144 a λa b=>az 3 b (pt a) λa=>ax zQ 213 1 [(0,a)] b λa b=>App zQ 144 3 16 (.agg nC) b g a λa b=>lA h i1 λc=>aC d f [a,c] b [g,h] i) (rt e g i)
theorem I1:qC L156 156:=λh=>sd (zA (zA (zB (zA (zB (zF 0 [5,11] [0,10])))))) func156 h
def L157:Y2:=λ_ a b c d=>aR b λe=>yB [(iv (-1)),i0] c λc f g h i=>lL h e λe=>Br e (jB (λe j=>lA h i1 λk=>aC c f [e,k] j [g,h] i) λc=>av 3 b h λb=>az 3 i b λb=>lQ 3 i nC 144 b λb e=>lD 0 (pt b) e λf=>oG f i0 λf=>lU f (λf=>lL g i0 λh=>cS h false (λh=>lM 1 a e λj=>lD 0 (pt b) e λk=>lI 1 j k e λj=>lM 1 a e λa=>lI 1 a g e λa=>lL j a λa=>(lV e a h)) (λh=>vT=Value.bool h) λh=>∀_:Fr,
(lV e (Value.bool h) f)) λf=>Br (Value.bool f) (lD 0 (pt b) e λa=>JE c [a] e) (JE c [g] e)) (rt d g i)
theorem I0:qC L157 157:=λh=>sd (zA (zA (zB (zA (zB (zE 0 [5,10] [0,8,9] (zA (zA (zF 1 [5] [0,8,9,10]))))))))) func157 h
def L158:Y4:=λa b c d e f g=>lE d e λh=>Br h (rt g (tP d i0) f) (lM 0 b f λh=>CR g a 98 #[h,c,d,e] f λf h=>lX f λf i=>jA (λj=>rt g (tP (ui 0) i) j) λj=>lE i i0 λk=>Br k (lM 2 b h λk=>ax zQ 133 1 [(0,f)] h λl m=>App zQ 78 1 4 (ui 0) m k l λk l=>lC 2 b λm=>St 1 l m k λk=>rt g (tP f i0) k) (lE i (iv 8) λf=>Br f (lM 0 b h λb=>CR g a 216 #[b,c,d,e] h λa b=>lX a λa c=>Br c (rt g (tP a i0) b) (JE j [] b)) (JE j [] h)))
theorem xL:qE L158 158:=λh=>sd (hN 3 (zF 1 [] [11])) func158 h
def L159:Y2:=λa b c d e=>lK d b 53 λb d=>Ld d (pt b) λf=>gH d λd g=>Build zQ 285 [(0,f),(1,d)] λd=>lK g d 285 λd f=>lQ 1 f #[(.pointer none)] 217 (pt d) λd f=>Ld f (pt b) λg=>CF a 84 #[g,(ui 1)] f (λ_ f=>Ld f (pt d) λg=>aE zQ a c #[g] f (λc f=>Ld f (pt d) λg=>lM 2 g f λg=>lN g i0 λg=>Br g (Ld f (pt d) λg=>lM 2 g f λg=>j9 zQ a 217 #[(pt d),(pt b)] f λh=>rt e (.tuple #[(ui 0),vF,g]) h) (Ld f (pt d) λg=>lM 1 g f λg=>c6 (.int .u32) i0 false f g c λg=>lG g i0 λg=>Br g (Ld f (pt d) λg=>lM 1 g f λg=>oJ (.int .u32) f g c λg=>j9 zQ a 217 #[(pt d),(pt b)] g λg=>rt e (.tuple #[c,vT,i0]) g) (Ld f (pt b) λg=>CF a 84 #[g,c] f (λf g=>lE f i0 λf=>j9 zQ a 217 #[(pt d),(pt b)] g λa=>rt e (.tuple #[c,f,i0]) a) N6))) N6) N6
theorem IZ(h:L159 g a0 a1 H R):sc g 159 #[a0,a1] H R:=
 AO (hn:=(hN 4 .e)) func159 h zK
def L160:Y4:=λa b c d e f g=>Ld f c λc=>Ld f d λd=>CR g a 161 #[b,c,d,(.func (.func 162) #[] #[e])] f λa b=>rt g a b
theorem IY:qE L160 160:=λh=>sd .e func160 h
def L161:Y4:=λa b c d e f g=>lK f b 217 λb f=>lK f e 204 λe f=>Ld f (pt b) λh=>lM 0 h f λh=>CR g a 93 #[h,d] f λd f=>lX d λd _=>lQ 1 f #[i0] 3 d λd f=>gH f λf h=>lQ 1 h #[(.map none)] 286 f λf h=>lW h #[.nilFunc] 287 λh i=>St 1 i (pt h) (.func (.func 218) #[] #[(pt b),(pt d),(pt f),(pt e),(pt h)]) λb=>Ld b (pt h) λd=>aE zQ a d #[c] b (λa b=>rt g a b) (dj g)
theorem IX:qE L161 161:=λh=>sd .e func161 h
def L162:Y2:=λ_ a b c d=>lK c a 144 λa c=>Ld c b λb=>Br b (lD 2 (pt a) c λb=>rt d b c) (lD 1 (pt a) c λa=>rt d a c)
theorem IW:qC L162 162:=λh=>sd .e func162 h
def L163:Y4:=λa b c d e f g=>lK f c 78 λc f=>lK f d 3 λd f=>lK f e 4 λe f=>CR g a 159 #[b,(.func (.func 221) #[] #[(pt c),(pt d),(pt e)])] f λa b=>lX a λc d=>Ext 2 a λa=>rt g (.tuple #[c,d,a]) b
theorem IV:qE L163 163:=λh=>sd .e func163 h
def L164:Y0:=λ_ a b=>Build zQ 293 [] λc=>lK a c 293 λa c=>rt b (pt a) c
theorem IU:qA L164 164:=λh=>sd .e func164 h
def L165:Y2:=λa b c d e=>oP b λf=>Br f (rt e (tP i0 (iv 10)) d) (CR e a 133 #[b,c] d λd f=>Un .not d λd=>Br d (rt e (tP i0 (iv 2)) f) (lC 0 b λb=>ai 1 b λb=>Ld f b λb=>CR e a 224 #[b,c] f λa b=>lX a λa c=>rt e (tP a c) b))
theorem IT:qC L165 165:=λh=>sd .e func165 h
def L166:Y3:=λa b c d e f=>oP b λg=>Br g (rt f (iv 10) e) (lM 1 b e λg=>c6 (.int .i64) i0 true e g c λg=>lX g λ_ g=>Br g (rt f (iv 11) e) (jA (λg=>lM 0 b g λh=>Build zQ 295 [(0,c),(1,d)] λc=>ax zQ 291 1 [(0,c)] g λc d=>App zQ 295 2 16 (.agg #[i0,i0]) d h c λc d=>lC 0 b λg=>St 1 d g c λc=>lM 0 b c λd=>aR d λd=>lS d i1 λd=>CR f a 225 #[b,d] c λ_ a=>rt f i0 a) λa=>lM 1 b e λc=>ae .map .eql c (.map none) λc=>Br c (gH e λc d=>lC 1 b λb=>St 1 d b c λb=>JE a [] b) (JE a [] e)))
theorem IS:qD L166 166:=λh=>sd (hN 3 (zF 1 [] [0,1,2])) func166 h
def L167:Y1:=λ_ a b c=>oP a λd=>Br d (rt c i0 b) (lM 0 a b λa=>aR a λa=>rt c a b)
theorem IQ:qB L167 167:=λh=>sd .e func167 h
def L168:Y1:=λa b c d=>oP b λe=>lO e (λe=>lM 0 b c λf=>aR f λf=>lE f i0 λf=>(lV c f e)) λe=>Br (Value.bool e) (rt d (.tuple #[i0,i0,(iv 10)]) c) (lM 0 b c λe=>av 2 e i0 λe=>az 2 c e λe=>lQ 2 c #[i0,i0] 295 e λc e=>lM 0 b e λf=>aR f λf=>lS f i1 λf=>lM 0 b e λg=>av 2 g f λg=>az 2 e g λg=>lQ 2 e #[i0,i0] 295 g λe g=>lM 0 b g λh=>gx 2 h none (some f) λh=>lC 0 b λi=>St 1 g i h λg=>DR g λh=>lM 1 b h λi=>lD 0 (pt c) h λh=>oJ (.int .i64) g i h λg=>jA (λh=>lD 0 (pt c) h λi=>lD 1 (pt c) h λc=>rt d (.tuple #[i,c,i0]) h) λc=>lG f i0 λf=>Br f (az 2 g (pt e) λe=>CR d a 226 #[b,i0,e] g λ_ e=>CR d a 227 #[b,i0] e λ_ a=>JE c [] a) (JE c [] g))
theorem xK:qB L168 168:=λh=>sd (zA (zA (.n (zB (zF 0 [] [1])) (hN 4 (.n (zF 0 (yR 7) []) (zF 1 [] [6])))))) func168 h
def L169:Y2:=λa b c d e=>lK d b 225 λb d=>Br c (DR d λc=>Ld c (pt b) λf=>Ld c (pt b) λg=>lM 0 g c λg=>∀h:Hp,
CN (a.add h) 108 #[g] d λa g=>aM g c/\
lS a i1 λa=>lC 6 f λc=>∀_:Hp,
St 1 g c a λa=>Ld a (pt b) λc=>lC 7 c λc=>St 1 a c (.func (.func 228) #[] #[(pt b)]) λa=>rt e (.tuple #[]) a) (Ld d (pt b) λa=>lC 6 a λa=>St 1 d a i0 λa=>Ld a (pt b) λc=>lC 7 c λc=>St 1 a c (.func (.func 230) #[] #[(pt b)]) λa=>rt e (.tuple #[]) a)
theorem IP:qC L169 169:=λh=>sd (zA (zA (zB (zB (zE 1 [] [] (hr 0 [1] 0 10 .e)))))) func169 h
def L170:Y1:=λa b c d=>∃(e:Jt) (f:Mt),JE e [] c/\∀c:Hp,e [] c->∀_:Fr,
jB (λg h=>Br g (lM 0 b h λg=>CR d a 83 #[g] h λg i=>jA (λj=>oM g (iv 100) λk=>lM 2 b j λl=>lM 4 b j λm=>oM l m λl=>lG k l λk=>Br k (rt d (.tuple #[]) j) (aC e f [] j [] c)) λe=>lM 2 b i λf=>lL g f λf=>Br f (lM 1 b i λf=>lC 2 b λj=>St 1 i j g λg=>lC 3 b λj=>St 1 g j f λf=>JE e [] f) (JE e [] i)) (rt d (.tuple #[]) h)) λd=>DR c λe=>lM 1 b e λf=>lM 6 b e λg=>lN f g λf=>Br f (lM 7 b e λb=>∀e:Hp,
aE zQ (a.add e) b #[] c (λa b=>lE a i0 λa=>aH vT a vF λa=>JE d [a] b) ej) (JE d [vF] c)
theorem IN:qB L170 170:=λh=>sd (zB (zE 0 [] [0] (.n (zE 1 [19] [0] (zE 1 [] [] (hr 0 [1] 0 9 (.h 2 [9] [] (hr 0 [1] 10 7 .e) (hr 0 [1] 10 6 (zF 3 [16] [1])))))) (zB (zA (zF 1 [] [0,2])))))) func170 h
def L171:Y2:=λa b c d e=>∃(f:Jt) (g:Mt),JE f [] d/\∀d:Hp,f [] d->∀_:Fr,
lM 1 b d λh=>lN h c λc=>Br c (lM 0 b d λc=>CR e a 231 #[c] d λa c=>lX a λa _=>lM 5 b c λh=>lA h i1 λh=>lC 5 b λi=>St 1 c i h λc=>lM 1 b c λh=>lL a h λh=>Br h (lC 1 b λh=>St 1 c h a λh=>aC f g [] h [] d) (lA a i1 λa=>lC 1 b λb=>St 1 c b a λa=>aC f g [] a [] d)) (rt e (.tuple #[]) d)
theorem IM:qC L171 171:=λh=>sd (zB (zF 0 [] [0,1])) func171 h
def L172:Y1:=λ_ a b c=>lE a (iv 2) λd=>Br d (ax zQ 43 1 [(0,i0)] b λd e=>rt c (tP d i0) e) (lE a (iv 3) λd=>Br d (ax zQ 43 5 [(0,i1),(1,i0),(2,i1),(3,i0),(4,i1)] b λd e=>rt c (tP d i0) e) (lE a (iv 4) λa=>Br a (ax zQ 43 23 [(0,(iv 2)),(1,i1),(2,i0),(3,(iv 2)),(4,i0),(5,i1),(6,(iv 2)),(7,i0),(8,(iv 2)),(9,i1),(10,i0),(11,(iv 2)),(12,i0),(13,i1),(14,(iv 2)),(15,i0),(16,(iv 2)),(17,i1),(18,i0),(19,(iv 2)),(20,i0),(21,i1),(22,(iv 2))] b λa d=>rt c (tP a i0) d) (rt c (tP sZ i1) b)))
theorem IL:qB L172 172:=λh=>sd .e func172 h
def L173:Y3:=λa b c d e f=>DR e λg=>Ld g c λh=>Ld g c λi=>CN a 174 #[h] e λe h=>aM h g/\
CN a 83 #[i] h λh i=>aM i g/\
jC (λg j k=>Ld k c λl=>lA e g λe=>CR f a 176 #[l,e] k λe g=>lX e λe _=>lA j e λe=>rt f e g) λe=>Ld i d λd=>aR d λg=>∃(j:Jt) (k:Mt),JE j [h,i0,i0,i0] i/\∀h i l m:zV,∀n:Hp,j [h,i,l,m] n->∀_:Fr,
lL m g λg=>Br g (∀g:Jt,(∀o p q:zV,∀r:Hp,(∀_:Fr,
lA m i1 λs=>aC j k [o,p,q,s] r [h,i,l,m] n)->g [o,p,q] r)->lI 1 d m n λd=>Ld n c λc=>lA b d λb=>CR f a 175 #[c,b] n λa b=>lX a λa c=>lQ 3 b #[i0,i0,i0] 232 a λa b=>lN c i0 λc=>Br c (JE e [i,l] b) (lA l i1 λc=>lD 2 (pt a) b λd=>lL d h λd=>Br d (lD 2 (pt a) b λa=>JE g [a,c,c] b) (JE g [h,i,c] b))) (JE e [i,l] n)
theorem IK:qD L173 173:=λh=>sd (zA (.n (zF 0 [0,2,1,3,4,5,6,7] []) (zE 1 [7,8] [1,5] (zA (zB (zE 0 [6,7,8,21] [0,1,5,19,20] (zA (zA (zF 1 [6,7,8] [0,1,5,19,20,21]))))))))) func173 h
def L174:Y1:=λ_ a b c=>oP a λd=>Br d (rt c i0 b) (lM 7 a b λa=>aR a λa=>rt c a b)
theorem IJ:qB L174 174:=λh=>sd .e func174 h
def L175:Y2:=λa b c d e=>lW d #[i0,i0,i0] 232 λd f=>CR e a 83 #[b] f λf g=>Build zQ 232 [(0,c),(1,f)] λf=>lQ 3 g #[i0,i0,i0] 232 f λf g=>CR e a 94 #[b,c] g λc g=>lN c i0 λh=>Br h (Build zQ 232 [] λh=>St 3 g (pt d) h λh=>az 3 h (pt d) λi=>rt e (tP i c) h) (CR e a 83 #[b] g λa b=>ai 2 (pt f) λc=>St 1 b c a λa=>az 3 a (pt f) λb=>St 3 a (pt d) b λa=>az 3 a (pt d) λb=>rt e (tP b i0) a)
theorem xJ:qC L175 175:=λh=>sd .e func175 h
def L176:Y2:=λa b c d e=>oP b λf=>Br f (rt e (tP i0 (iv 10)) d) (jB (λf g=>Br f (rt e (tP i0 i1) g) (yA [i0] g λf g h i=>CR e a 174 #[b] i λj k=>lG j c λj=>Br j (CR e a 231 #[b] k λ_ j=>lA h i1 λl=>aC f g [l] j [h] i) (rt e (tP h i0) k))) λf=>lL c i0 λg=>Split g false (CR e a 174 #[b] d λa b=>lG c a λa=>aH vF vT a λa=>JE f [a] b) (aH vT vT undef λa=>JE f [a] d))
theorem II:qC L176 176:=λh=>sd (zA (zA (.n (zF 1 [16] [0,1]) (zA (zB (zB (zF 0 [6] [0,1]))))))) func176 h
def L177:Y3:=λa b c d e f=>DR e λg=>lC 1 b λh=>ai 2 h λh=>Ld g h λh=>lM 0 b g λi=>aE zQ a i #[d] e (λd e=>aM e g/\
lA h d λd=>lC 1 b λg=>ai 2 g λg=>St 1 e g d λd=>CR f a 83 #[c] d λa c=>lC 1 b λb=>ai 1 b λb=>St 1 c b a λa=>rt f (.tuple #[]) a) ej
theorem IG:qD L177 177:=λh=>sd (zB (zF 0 (yR 16) [])) func177 h
def L178:Y2:=λa b c d e=>lK d c 4 λc d=>lW d #[i0,sZ] 175 λd f=>CR e a 232 #[b] f λf g=>lN f i0 λh=>Br h (Build zQ 175 [] λh=>St 2 g (pt d) h λh=>az 2 h (pt d) λi=>rt e (tP i f) h) (CR e a 233 #[b,(.func (.func 234) #[] #[(pt c)])] g λa b=>St 2 b (pt d) a λa=>az 2 a (pt d) λb=>rt e (tP b i0) a)
theorem IF:qC L178 178:=λh=>sd .e func178 h
def L179:Y5:=λa b c d e f g h=>lK g b 53 λb g=>lK g d 175 λd g=>lK g e 175 λe g=>lK g f 240 λf g=>lW g #[i0,sZ] 175 λg i=>gH i λi j=>az 2 j (pt d) λd=>aW (.int .u32) j i (ui 0) d λd=>az 2 d (pt e) λe=>aW (.int .u32) d i (ui 1) e λd=>lQ 1 d #[(.map none)] 301 i λd e=>lW e #[.nilFunc] 302 λe i=>St 1 i (pt e) (.func (.func 235) #[] #[(pt d),(pt b),(pt f),(pt e)]) λb=>Ld b (pt e) λd=>aE zQ a d #[c] b (λa b=>St 2 b (pt g) a λa=>az 2 a (pt g) λb=>rt h b a) (dj h)
theorem IE:qF L179 179:=λh=>sd .e func179 h
def L180:Y4:=λa b c d e f g=>lK f b 144 λb f=>lK f c 175 λc f=>lK f d 175 λd f=>lW f #[i0,sZ] 175 λf h=>Ld h e λe=>lD 0 (pt b) h λb=>CR g a 181 #[e,b] h λb e=>lX b λb _=>lQ 2 e #[i0,sZ] 175 b λb e=>az 2 e (pt b) λb=>az 2 e (pt d) λd=>az 2 e (pt c) λc=>CR g a 182 #[b,d,c] e λa b=>lX a λa _=>lQ 2 b #[i0,sZ] 175 a λa b=>az 2 b (pt a) λa=>St 2 b (pt f) a λa=>az 2 a (pt f) λb=>rt g b a
theorem ID:qE L180 180:=λh=>sd .e func180 h
def L181:Y2:=λa b c d e=>lK d c 3 λc d=>lW d #[i0,sZ] 175 λd f=>CR e a 232 #[b] f λf g=>lN f i0 λh=>Br h (Build zQ 175 [] λh=>St 2 g (pt d) h λh=>az 2 h (pt d) λi=>rt e (tP i f) h) (Ld g (pt c) λf=>lL f i0 λf=>lO f (λf=>Ld g (pt c) λh=>oG h b λh=>(lV g h f)) λf=>Br (Value.bool f) (Build zQ 175 [] λf=>St 2 g (pt d) f λf=>az 2 f (pt d) λh=>rt e (tP h (iv 2)) f) (CR e a 233 #[b,(.func (.func 236) #[] #[(pt c)])] g λa b=>St 2 b (pt d) a λa=>az 2 a (pt d) λb=>rt e (tP b i0) a))
theorem IC:qC L181 181:=λh=>sd (zA (zA (zB (zB (zF 0 [] [1]))))) func181 h
def L182:Y3:=λa b c d e f=>lK e b 175 λb e=>lK e c 175 λc e=>lK e d 175 λd e=>lW e #[i0,sZ] 175 λe g=>az 2 g (pt b) λh=>az 2 g (pt c) λi=>az 2 g (pt d) λj=>ax zQ 171 3 [(0,h),(1,i),(2,j)] g λg h=>CR f a 238 #[g] h λg h=>Un .not g λg=>Br g (Build zQ 175 [] λg=>St 2 h (pt e) g λg=>az 2 g (pt e) λi=>rt f (tP i (iv 5)) g) (lD 0 (pt b) h λg=>CR f a 233 #[g,(.func (.func 239) #[] #[(pt b),(pt c),(pt d)])] h λa b=>St 2 b (pt e) a λa=>az 2 a (pt e) λb=>rt f (tP b i0) a)
theorem IB:qD L182 182:=λh=>sd .e func182 h
def L183:Y1:=λa b c d=>gH c λc e=>gH e λe f=>Build zQ 247 [(0,b),(3,c),(4,e)] λc=>lK f c 247 λc e=>aR b λf=>lE f i0 λf=>Br f (rt d (tP (pt c) i0) e) (CR d a 240 #[b] e λe f=>lX e λ_ e=>lN e i0 λg=>Br g (rt d (tP (.pointer none) e) f) (av 2 b i0 λe=>ai 0 e λe=>Ld f e λe=>lC 1 (pt c) λg=>St 1 f g e λe=>aR b λf=>yA [i0] e λe g h i=>lL h f λf=>Br f (av 2 b h λb=>az 2 i b λb=>lQ 2 i #[i0,sZ] 175 b λb f=>az 2 f (pt b) λb=>CR d a 241 #[b] f λa b=>lX a λa _=>lM 2 (pt c) b λf=>br .i64 a λa=>oO f a λa=>lC 2 (pt c) λf=>St 1 b f a λa=>lA h i1 λb=>aC e g [b] a [h] i) (rt d (tP (pt c) i0) i)))
theorem IA:qB L183 183:=λh=>sd (hN 5 (zB (zA (zB (zF 0 [37] [4,35,36]))))) func183 h
def L184:Y3:=λa b c d e f=>lM 2 b e λg=>oR g d λg=>oA g i1 λg=>lE g i0 λg=>Br g (rt f i0 e) (lM 2 b e λg=>oA c g λc=>Build zQ 309 [(0,c),(1,d)] λc=>lQ 2 e #[i0,i0] 309 c λc e=>lM 3 b e λg=>az 2 e (pt c) λh=>j7 zQ 309 i0 true e g h λg=>lX g λg h=>jB (λi j=>rt f i j) λf=>Un .not h λh=>Br h (DR e λh=>lM 0 b h λi=>iX 2 1 (pt c) i0 λj=>Ld h j λj=>br .u64 j λj=>CN a 242 #[i,j,d] e λa d=>aM d h/\
lX a λa _=>DR d λh=>lM 3 b h λb=>az 2 h (pt c) λc=>iJ zQ 309 d b c a λb=>JE f [a] b) (JE f [g] e))
theorem Iz:qD L184 184:=λh=>sd (hN 4 (zE 1 [8] [] (zA (zB (.n (zF 0 (yR 13) []) (zF 0 (yR 7) [])))))) func184 h
def L185:Y2:=λa b c d e=>lM 2 b d λf=>oA c f λc=>lM 2 b d λf=>lE c f λf=>Br f (rt e i0 d) (lM 4 b d λf=>c6 (.int .i64) i0 true d f c λf=>lX f λf g=>Br g (rt e f d) (lM 1 b d λf=>yB [(iv (-1)),i0] d λd g h i j=>lL i f λf=>Br f (jB (λf k=>lA i i1 λl=>aC d g [f,l] k [h,i] j) λd=>lM 2 b j λf=>Un .xor f λf=>oO c f λf=>oR f i λf=>oA f i1 λf=>lE f i1 λf=>Br f (JE d [h] j) (DR j λ_=>oL i1 i λf=>oO c f λf=>CN a 184 #[b,c,i] j λg i=>CN a 185 #[b,f] i λa f=>lA g a λa=>lL h i0 λg=>lO g (λg=>lL a h λi=>(lV f i g)) λg=>Br (Value.bool g) (JE d [a] f) (JE d [h] f))) (lM 4 b j λa=>aW (.int .i64) j a c h λa=>rt e h a)))
theorem xI:qC L185 185:=λh=>sd (hN 5 (zB (zA (zB (zE 0 [7,37] [0,1,36] (zA (zA (zE 1 [7] [0,1,36,37] (zB (zA (zA (.n (zF 0 [0,1,2,4,5,6,7,8,3,9,10,11] []) (zB (zF 0 [] [1])))))))))))))) func185 h
def L186:Y1:=λ_ a b c=>aR a λd=>cU 4 1 1 vF b d d λb d=>aR a λe=>yA [i0] d λd f g h=>lL g e λe=>Br e (lI 1 a g h λe=>lL e i0 λi=>lO i (λi=>aR a λj=>oG e j λj=>(lV h j i)) λi=>lO (Value.bool i) (λi=>lI 1 b e h λj=>(lV h j i)) λi=>Br (Value.bool i) (rt c (iv 4) h) (av 1 b e λb=>St 1 h b vT λb=>lA g i1 λe=>aC d f [e] b [g] h)) (aR a λa=>lG a (iv 64) λa=>Br a (rt c (iv 13) h) (rt c i0 h))
theorem Iy:qB L186 186:=λh=>sd (zA (zA (zB (zA (zB (zE 0 [11] [0,3,9,10] (zA (zA (zB (zB (zA (zB (zB (zF 0 [] [1])))))))))))))) func186 h
def L187:Y2:=λa b c d e=>CR e a 243 #[b,c] d λd f=>lN d i0 λg=>Br g (rt e (tP sZ d) f) (CR e a 31 #[b] f λb d=>aR c λf=>yB [sZ,i0] d λd g h i j=>lL i f λf=>Br f (lI 1 c i j λc=>CR e a 244 #[b,c] j λa c=>yB [h,a] c λa c f k l=>lG k i λm=>Br m (DR l λm=>lS k i1 λn=>lI 1 b k m λo=>lS k i1 λp=>lI 1 b p m λm=>av 1 b n λn=>St 1 l n o λn=>av 1 b k λb=>St 1 n b m λb=>lS k i1 λm=>ax zQ 43 1 [(0,m)] b λb m=>App zQ 3 1 8 i0 m f b λb m=>lS k i1 λn=>aC a c [b,n] m [f,k] l) (lA i i1 λa=>aC d g [f,a] l [h,i] j)) (rt e (tP h i0) j))
theorem Ix:qC L187 187:=λh=>sd (hN 4 (zB (zA (zB (zE 0 [8,22] [7,20,21] (zA (zA (zB (zB (zA (zA (zB (zE 0 [8,11] [7,9,20,21,22] (zA (zB (zB (zB (zF 0 (yR 18) [])))))))))))))))))) func187 h
def L188:Y2:=λa b c d e=>lW d #[i0] 3 λd f=>CF a 245 #[b] f (λb f=>lQ 1 f #[(.pointer none)] 314 b λb f=>aR c λg=>yA [i0] f λf h i j=>lL i g λg=>Br g (lI 1 c i j λc=>Ld j (pt b) λg=>CF a 248 #[g,c] j (λc g=>lN c i0 λk=>Br k (St 1 g (pt d) i0 λk=>j9 zQ a 246 #[(pt b),(pt d)] k λk=>Ld k (pt d) λl=>rt e (tP l c) k) (lA i i1 λc=>aC f h [c] g [i] j)) N6) (Ld j (pt b) λc=>lC 3 c λc=>St 1 j c vT λc=>St 1 c (pt d) i0 λc=>j9 zQ a 246 #[(pt b),(pt d)] c λa=>Ld a (pt d) λb=>rt e (tP b i0) a)) N6
theorem Iw(h:L188 g a0 a1 H R):sc g 188 #[a0,a1] H R:=
 AO (hn:=(hN 3 (zB (zA (zB (zF 0 [14] [4,6,12,13])))))) func188 h zK
def L189:Y2:=λa b c d e=>lW d nC 144 λd f=>oP b λg=>Br g (Build zQ 144 [] λg=>St 3 f (pt d) g λg=>az 3 g (pt d) λh=>rt e (tP h (iv 10)) g) (CR e a 249 #[b,c] f λa f=>Un .not a λa=>Br a (Build zQ 144 [] λa=>St 3 f (pt d) a λa=>az 3 a (pt d) λg=>rt e (tP g (iv 3)) a) (lM 1 b f λa=>av 5 a c λa=>ai 0 a λa=>az 3 f a λa=>St 3 f (pt d) a λa=>az 3 a (pt d) λb=>rt e (tP b i0) a))
theorem Iv:qC L189 189:=λh=>sd .e func189 h
def L190:Y2:=λa b c d e=>lW d nC 144 λd f=>lM 0 b f λb=>CR e a 189 #[b,c] f λa b=>lX a λa _=>lQ 3 b nC 144 a λa b=>az 3 b (pt a) λa=>St 3 b (pt d) a λa=>az 3 a (pt d) λb=>rt e b a
theorem Iu:qC L190 190:=λh=>sd .e func190 h
def L191:Y2:=λa b c d e=>lK d c 144 λc d=>lD 0 (pt c) d λf=>CR e a 250 #[b,f] d λa d=>lN a i0 λf=>Br f (rt e a d) (lM 0 b d λa=>lD 0 (pt c) d λf=>lI 1 a f d λa=>az 3 d (pt c) λf=>j7 zQ 144 (ui 0) true d a f λa=>lX a λ_ a=>Un .not a λa=>Br a (rt e (iv 10) d) (DR d λa=>lM 0 b a λb=>lD 0 (pt c) a λf=>lI 1 b f a λb=>az 3 a (pt c) λc=>r7 zQ 144 d b c λb=>aM b a/\
rt e i0 b))
theorem Is:qC L191 191:=λh=>sd (hN 3 (zB (zF 0 (yR 10) []))) func191 h
def L192:Y2:=λa b c d e=>oP b λf=>Br f (rt e (iv 10) d) (CR e a 251 #[b,c] d λa d=>lN a i0 λf=>Br f (rt e a d) (lM 1 b d λa=>Build zQ 146 [] λf=>av 5 a c λa=>St 5 d a f λa=>lM 2 b a λd=>ax zQ 133 1 [(0,c)] a λa c=>App zQ 78 1 4 (ui 0) c d a λa c=>lC 2 b λd=>St 1 c d a λa=>lM 3 b a λc=>lS c i1 λc=>lC 3 b λb=>St 1 a b c λa=>rt e i0 a))
theorem Ir:qC L192 192:=λh=>sd .e func192 h
def L193:Y5:=λa b c d e f g h=>Ld g c λi=>c6 (.int .u32) (wi 0) true g i b λi=>lX i λi j=>Br j (rt h i g) (Ld g d λd=>CR h a 125 #[d,b] g λd g=>lQ 3 g nC 144 d λd g=>DR g λi=>Ld i e λe=>az 3 i (pt d) λj=>Ld i f λk=>lD 1 (pt d) i λl=>Ld i f λf=>lD 2 (pt d) i λd=>∀m:Hp,
aE zQ (a.add m) k #[l] g (λg k=>aM k i/\
∀l:Hp,
aE zQ (a.add l) f #[d] k (λd f=>aM f i/\
∀i:Hp,
aE zQ (a.add i) e #[j,g,d] f (λa d=>Ld d c λc=>aW (.int .u32) d c b a λb=>rt h a b) ej) ej) ej)
theorem xH:qF L193 193:=λh=>sd (hN 3 (zB (zE 1 [] [] (hr 0 [1] 0 5 (hr 0 [1] 6 3 (zE 0 [5] [1] (hr 0 [1] 9 3 .e))))))) func193 h
def L194:Y5:=λa b c d e f g h=>CR h a 124 #[b] g λg i=>lO g (λg=>Ld i c λj=>c6 (.int .u32) i0 false i j b λj=>lG j i0 λj=>(lV i j g)) λg=>Br (Value.bool g) (rt h (.tuple #[]) i) (Ld i c λc=>aW (.int .u32) i c b i1 λc=>Ld c d λd=>CR h a 125 #[d,b] c λb c=>lQ 3 c nC 144 b λb c=>Ld c e λd=>az 3 c (pt b) λe=>aE zQ a d #[e] c (λ_ c=>Ld c f λd=>lD 1 (pt b) c λe=>aE zQ a d #[e] c (λ_ c=>Ld c f λd=>lD 2 (pt b) c λb=>aE zQ a d #[b] c (λ_ a=>rt h (.tuple #[]) a) (dj h)) (dj h)) (dj h))
theorem xG:qF L194 194:=λh=>sd (zB (zB (zF 0 [] [1]))) func194 h
def L195:Y2:=λa b c d e=>oP b λf=>Br f (rt e (iv 10) d) (CR e a 152 #[b,c] d λa b=>lX a λa d=>lQ 3 b nC 144 a λ_ a=>lN d i0 λb=>Br b (rt e d a) (lE c (ui 0) λb=>Br b (rt e (iv 10) a) (rt e i0 a)))
theorem Iq:qC L195 195:=λh=>sd .e func195 h
def L196:Y2:=λa b c d e=>lK d b 53 λb d=>Ld d (pt b) λf=>CR e a 108 #[f] d λd f=>gH f λf g=>Build zQ 266 [(0,d),(1,c),(2,f)] λd=>lK g d 266 λd f=>lQ 1 f #[(.pointer none)] 258 (pt d) λd f=>Ld f (pt d) λg=>lM 0 g f λg=>yA [i0] f λf h i j=>lL i g λg=>Br g (Ld j (pt b) λg=>CR e a 93 #[g,i] j λg k=>lX g λg _=>DR k λl=>Ld l (pt d) λm=>Ld l (pt d) λn=>lM 3 n l λn=>∀_:Hp,
ax zQ 43 1 [(0,g)] k λg k=>aM k l/\
∀_:Hp,
App zQ 3 1 8 i0 k n g λg k=>aM k l/\
lC 3 m λl=>∀_:Hp,
St 1 k l g λg=>lA i i1 λk=>aC f h [k] g [i] j) (lW j #[.nilFunc] 183 λf g=>St 1 g (pt f) (.func (.func 252) #[] #[(pt d),(pt b),(pt f)]) λb=>Ld b (pt f) λf=>aE zQ a f #[c] b (λ_ a=>Ld a (pt d) λb=>rt e b a) (dj e))
theorem Ip:qC L196 196:=λh=>sd (zA (zA (zB (zA (zB (zE 0 [20] [1,2,5,19] (zA (zA (zB (zB (zA (zA (zE 1 [] [] (hr 0 [1] 0 11 .e)))))))))))))) func196 h
def L197:Y1:=λa b c d=>lK c b 258 λb c=>lW c #[(wi 0),vF] 261 λc e=>Ld e (pt b) λf=>CR d a 253 #[f] e λe f=>lQ 1 f #[sZ] 43 e λe f=>gH f λf g=>Build zQ 261 [] λh=>aW (.int .u32) g f (ui 0) h λg=>Build zQ 261 [(0,(wi 1))] λh=>aW (.int .u32) g f (ui 1) h λg=>lQ 1 g #[(.map none)] 319 f λf g=>lW g #[.nilFunc] 182 λg h=>St 1 h (pt g) (.func (.func 254) #[] #[(pt b)]) λh=>lW h #[.nilFunc] 320 λh i=>lW i #[.nilFunc] 322 λi j=>St 1 j (pt i) (.func (.func 255) #[] #[(pt h),(pt e),(pt g)]) λe=>St 1 e (pt h) (.func (.func 257) #[] #[(pt f),(pt b),(pt i)]) λe=>DR e λf=>Ld f (pt i) λg=>Ld f (pt b) λb=>lM 1 b f λb=>∀f:Hp,
aE zQ (a.add f) g #[b,i0] e (λa b=>∀_:Hp,
St 2 b (pt c) a λa=>az 2 a (pt c) λb=>rt d b a) ej
theorem Io:qB L197 197:=λh=>sd (hN 7 (zB (zE 1 [] [] (hr 0 [1] 0 7 .e)))) func197 h
def L198:Y2:=λ_ a b c d=>lK c a 261 λa c=>lD 1 (pt a) c λe=>lO e (λe=>lD 0 (pt a) c λa=>lG a b λa=>(lV c a e)) λe=>rt d (Value.bool e) c
theorem Im:qC L198 198:=λh=>sd (zA (zB (zF 0 [] [1]))) func198 h
def L199:Y3:=λ_ a b c d e=>DR d λf=>lM 4 a f λf=>oL (wi 1) b λg=>oO f g λf=>lC 4 a λg=>∀_:Hp,
St 1 d g f λd=>DR d λf=>lM 5 a f λf=>oL (wi 1) b λg=>ae .num .andNot f g λf=>oL c b λb=>oO f b λb=>lC 5 a λa=>∀_:Hp,
St 1 d a b λa=>rt e (.tuple #[]) a
theorem Il:qD L199 199:=λh=>sd (.n (zE 1 [] [] (hr 0 [1] 0 10 .e)) (zE 1 [] [] (hr 0 [1] 0 15 .e))) func199 h
def L200:Y3:=λa b c d e f=>lC 0 b λg=>ai 1 g λg=>Ld e g λg=>CR f a 259 #[g,c] e λc e=>lX c λc _=>aR c λg=>yB [sZ,i0] e λe h i j k=>lL j g λg=>Br g (jB (λg l=>lA j i1 λm=>aC e h [g,m] l [i,j] k) λe=>lI 1 c j k λc=>lC 0 b λg=>CR f a 190 #[g,c] k λg h=>lQ 3 h nC 144 g λg h=>jB (λj l=>Br j (JE e [i] l) (az 3 l (pt g) λj=>Build zQ 272 [(0,c),(1,j)] λc=>lQ 8 l #[(ui 0),i0,(ui 0),(ui 0),(ui 0),(ui 0),(ui 0),(ui 0)] 272 c λc j=>lD 1 (pt g) j λl=>CR f a 260 #[b,l,d] j λj l=>lX j λj m=>ai 4 (pt c) λn=>St 1 l n j λj=>ai 5 (pt c) λl=>St 1 j l m λj=>lD 2 (pt g) j λl=>CR f a 260 #[b,l,d] j λj l=>lX j λj m=>ai 6 (pt c) λn=>St 1 l n j λj=>ai 7 (pt c) λl=>St 1 j l m λj=>az 8 j (pt c) λc=>ax zQ 268 1 [(0,c)] j λc j=>App zQ 272 8 40 (.agg #[(ui 0),i0,(ui 0),(ui 0),(ui 0),(ui 0),(ui 0),(ui 0)]) j i c λc j=>JE e [c] j)) λc=>DR h λe=>lC 0 b λj=>lD 1 (pt g) e λl=>∀m:Hp,
CN (a.add m) 190 #[j,l] h λh j=>aM j e/\
Az 0 h λh=>lN h d λh=>Br h (lC 0 b λb=>lD 2 (pt g) e λg=>∀h:Hp,
CN (a.add h) 190 #[b,g] j λa b=>aM b e/\
Az 0 a λa=>lN a d λa=>aH vT a vF λa=>JE c [a] b) (JE c [vF] j)) (rt f i k)
theorem Ik:qD L200 200:=λh=>sd (hN 3 (zB (zA (zB (zE 0 [7,26] [0,2,24,25] (zA (zA (zE 1 [7] [0,2,24,25,26] (zB (zA (zA (zB (zE 1 [54] [0,2,7,11,12,24,25,26] (zE 1 [] [] (hr 0 [] 0 5 (zE 0 [7] [] (hr 0 [] 5 2 (zE 0 [8] [] (.h 2 [9] [] (hr 0 [] 10 5 (zE 0 [17] [] (hr 0 [] 15 2 (hr 0 [] 18 2 .e)))) (hr 0 [] 10 9 (zF 3 [19] []))))))))))))))))))))) func200 h
variable {g:Gh} {a0 a1 a2 a3 a4 a5 a6 a7 a8 a9 ud uc a12 a13 a14 a15:zV} {H:Hp} {R:Rt}
def L201:Y3:=λa b c d e f=>gH e λe g=>aR d λh=>yA [i0] g λg i j k=>lL j h λh=>Br h (av 8 d j λd=>az 8 k d λd=>lQ 8 k #[(ui 0),i0,(ui 0),(ui 0),(ui 0),(ui 0),(ui 0),(ui 0)] 272 d λd h=>lD 4 (pt d) h λl=>lD 6 (pt d) h λm=>Build zQ 144 [(0,c),(1,l),(2,m)] λl=>lD 5 (pt d) h λm=>lD 7 (pt d) h λd=>Build zQ 144 [(0,c),(1,m),(2,d)] λc=>ax zQ 213 2 [(0,l),(1,c)] h λc d=>aR c λh=>yA [i0] d λd l m n=>lL m h λh=>Br h (jA (λh=>lA m i1 λo=>aC d l [o] h [m] n) λd=>av 3 c m λc=>az 3 n c λc=>lQ 3 n nC 144 c λc h=>DR h λl=>lC 0 b λb=>ai 1 b λb=>Ld l b λb=>az 3 l (pt c) λm=>CN a 213 #[b,m] h λb h=>aM h l/\
lX b λ_ b=>Un .not b λb=>lU b (λb=>lD 1 (pt c) h λl=>lD 2 (pt c) h λm=>lN l m λl=>(lV h l b)) λb=>Br (Value.bool b) (aaG zQ a 10 (pB Tryz.f201 10) [7,11] [e,(pt c)] h λa=>∀_:Fr,
JE d [] a) (JE d [] h)) (lA j i1 λa=>aC g i [a] n [j] k)) (BG k e λa=>rt f a k)
theorem Ij:qD L201 201:=λh=>sd (zA (zA (zB (zA (zB (zE 0 [17] [0,1,7,15,16] (zA (zA (zB (zB (zA (zA (zB (zE 0 [35] [0,1,7,15,16,17,33,34] (zA (zA (zE 1 [] [0,1,7,15,16,17,33,34,35] (zB (zA (.n (zF 0 (yR 12) []) (.n (zF 0 [] [1]) (zB (zF 9 [7,11] []))))))))))))))))))))))) func201 h
def L202:Y4:=λa b c d e f g=>lE d e λh=>Br h (rt g d f) (Build zQ 144 [(0,c),(1,d),(2,e)] λc=>lQ 3 f nC 144 c λc d=>DR d λe=>lM 1 b e λf=>az 3 e (pt c) λh=>CN a 213 #[f,h] d λd f=>aM f e/\
lX d λd e=>Br e (rt g d f) (az 3 f (pt c) λc=>CR g a 149 #[b,c] f λa b=>rt g a b))
theorem qI:qE L202 202:=λh=>sd (hN 3 (zB (zB (zF 0 (yR 11) [])))) func202 h
def L203:Y2:=λ_ a b c d=>lG b (ui 1) λe=>Br e (lM 2 a c λa=>lI 1 a b c λe=>lA e (Value.int .i32 1) λe=>av 1 a b λa=>St 1 c a e λa=>rt d (.tuple #[]) a) (rt d (.tuple #[]) c)
theorem Ii:qC L203 203:=λh=>sd .e func203 h
def L204:Y3:=λa b c d e f=>lK e d 144 λd e=>oP b λg=>Br g (rt f (iv 10) e) (az 3 e (pt d) λg=>CR f a 261 #[b,g] e λe g=>lN e i0 λh=>Br h (rt f e g) (CR f a 251 #[b,c] g λa e=>lN a i0 λg=>Br g (rt f a e) (DR e λa=>lM 1 b a λb=>az 3 a (pt d) λa=>av 5 b c λb=>ai 0 b λb=>St 3 e b a λa=>rt f i0 a)))
theorem Ih:qD L204 204:=λh=>sd (hN 4 (zB (zF 0 (yR 9) []))) func204 h
def L205:Y3:=λa b c d e f=>lK e c 144 λc e=>lD 0 (pt c) e λg=>CR f a 250 #[b,g] e λa e=>lN a i0 λg=>Br g (rt f a e) (lM 0 b e λa=>lD 0 (pt c) e λg=>lI 1 a g e λa=>az 3 e (pt c) λg=>j7 zQ 144 (ui 0) true e a g λa=>lX a λ_ a=>Br a (rt f (iv 11) e) (DR e λa=>lM 0 b a λb=>lD 0 (pt c) a λg=>lI 1 b g a λb=>az 3 a (pt c) λa=>iJ zQ 144 e b a d λa=>rt f i0 a))
theorem Ig:qD L205 205:=λh=>sd (hN 3 (zB (zF 0 (yR 11) []))) func205 h
def L207:Y1:=λa b c d=>br .u64 b λb=>CR d a 97 #[b] c λa b=>oL (wi 1) a λa=>rt d a b
theorem Ie:qB L207 207:=λh=>sd .e func207 h
def L208:Y1:=λ_ a b c=>DR b λd=>Nil a λe=>Ld d e λe=>Nil a λf=>Ld d f λd=>oL d (wi 13) λd=>ae .num .xor e d λd=>Nil a λe=>St 1 b e d λb=>DR b λd=>Nil a λe=>Ld d e λe=>Nil a λf=>Ld d f λd=>oR d (wi 7) λd=>ae .num .xor e d λd=>Nil a λe=>St 1 b e d λb=>DR b λd=>Nil a λe=>Ld d e λe=>Nil a λf=>Ld d f λd=>oL d (wi 17) λd=>ae .num .xor e d λd=>Nil a λe=>St 1 b e d λb=>Nil a λa=>Ld b a λa=>rt c a b
theorem Ic:qB L208 208:=λh=>sd (zA (.n (zF 0 (yR 10) []) (.n (zF 0 (yR 10) []) (zB (zF 0 (yR 10) []))))) func208 h
def L212:Y2:=λa b c d e=>lC 0 b λf=>CR e a 190 #[f,c] d λa c=>lQ 3 c nC 144 a λa c=>lD 0 (pt a) c λd=>oG d i0 λd=>Br d (lM 6 b c λd=>lD 0 (pt a) c λa=>lI 1 d a c λa=>rt e a c) (lM 4 b c λa=>rt e a c)
theorem Ib:qC L212 212:=λh=>sd .e func212 h
def L213:Y2:=λa b c d e=>lK d c 144 λc d=>lD 0 (pt c) d λf=>CR e a 250 #[b,f] d λa d=>lN a i0 λa=>Br a (rt e (tP (ui 0) vF) d) (lM 0 b d λa=>lD 0 (pt c) d λb=>lI 1 a b d λa=>az 3 d (pt c) λb=>j7 zQ 144 (ui 0) true d a b λa=>lX a λa b=>rt e (tP a b) d)
theorem Ia:qC L213 213:=λh=>sd .e func213 h
def L214:Y1:=λ_ a b c=>oP a λd=>Br d (rt c i0 b) (lM 0 a b λa=>rt c a b)
theorem H9:qB L214 214:=λh=>sd .e func214 h
def L215:Y2:=λa b c d e=>lK d c 144 λc d=>oP b λf=>Br f (rt e (tP (ui 0) (iv 10)) d) (az 3 d (pt c) λf=>CR e a 261 #[b,f] d λa d=>lN a i0 λf=>Br f (rt e (tP (ui 0) a) d) (lM 2 b d λa=>aR a λa=>lG a i0 λf=>Br f (lM 2 b d λf=>lS a i1 λg=>lI 1 f g d λf=>lM 2 b d λg=>lS a i1 λa=>gx 1 g none (some a) λa=>lC 2 b λg=>St 1 d g a λa=>DR a λg=>lM 1 b g λh=>az 3 g (pt c) λg=>Build zQ 146 [(0,g),(1,vT)] λg=>av 5 h f λh=>St 5 a h g λa=>lM 3 b a λg=>lA g i1 λg=>lC 3 b λh=>St 1 a h g λa=>rt e (tP f i0) a) (lM 1 b d λa=>aR a λa=>lM 0 b d λf=>oG a f λa=>Br a (rt e (tP (ui 0) (iv 9)) d) (DR d λa=>lM 1 b a λf=>az 3 a (pt c) λc=>Build zQ 146 [(0,c),(1,vT)] λc=>ax zQ 140 1 [(0,c)] d λc d=>aM d a/\
App zQ 146 5 24 (.agg #[i0,(ui 0),(ui 0),vF,(bi 0)]) d f c λc d=>aM d a/\
lC 1 b λa=>St 1 d a c λa=>lM 3 b a λc=>lA c i1 λc=>lC 3 b λd=>St 1 a d c λa=>lM 1 b a λb=>aR b λb=>lS b i1 λb=>br .u32 b λb=>rt e (tP b i0) a))))
theorem H8:qC L215 215:=λh=>sd (hN 3 (.n (zA (zA (zB (zA (zA (zB (zF 0 (yR 9) []))))))) (zA (zB (zF 0 (yR 12) []))))) func215 h
def L216:Y4:=λa b c d e f g=>jB (λh i=>Br h (rt g (tP (ui 0) vF) i) (CR g a 147 #[b,c,d,e] i λh i=>lX h λh j=>rt g (tP h j) i)) λh=>oP b λi=>Split i false (CR g a 146 #[b,c,d,e] f λa b=>lN a i0 λa=>aH vF vT a λa=>JE h [a] b) (aH vT vT undef λa=>JE h [a] f)
theorem H7:qE L216 216:=λh=>sd (zA (zB (zF 1 [19] [0,1,2,3]))) func216 h
def L217:Y2:=λa b c d e=>Ld d b λb=>lM 1 b d λb=>Rng d b λb d=>∃(f:Jt) (g:Mt),JE f [] d/\∀d:Hp,f [] d->∀_:Fr,
Nxt d b λh i=>Ext 0 h λh=>Br h (Pc i b λb=>Ext 0 b λb=>Ld i c λc=>CR e a 85 #[c,b] i λ_ a=>aC f g [] a [] d) (rt e (.tuple #[]) i)
theorem Es(h:L217 g a0 a1 H R):kQ zQ g 217 #[a0,a1] H R:=
 AP (hn:=(zA (zB (zF 0 [] [1,7])))) func217 h zK
def L218(g:Gh)(a0 a1 a2 a3 a4 a5:zV)(H:Hp)(R:Rt):Prop:=
Ld H a1 λa=>
CR R g 219 #[a,a0] H λa b=>
lX a λa c=>
lQ 3 b nC 144 a λa b=>
Ld b a2 λd=>
lG c d λd=>
lO d (λd=>
Ld b a1 λe=>
lM 2 e b λe=>
lN e i0 λe=>
(lV b e d)) λd=>
Br (Value.bool d) (
rt R a0 b) (
Ld b a3 λd=>
c6 (.int .u32) (ui 0) true b d a0 λd=>
lX d λd e=>
Br e (
rt R d b) (
jB (λd e=>
Ld e a3 λf=>
aW (.int .u32) e f a0 d λe=>
rt R d e) λd=>
Ld b a2 λe=>
lE c e λc=>
Br c (
Ld b a4 λc=>
az 3 b (pt a) λe=>
aE zQ g c #[e] b (λc e=>
JE d [c] e) (dj R)) (
Ld b a5 λc=>
lD 1 (pt a) b λe=>
aE zQ g c #[e] b (λb c=>
DR c λe=>
Ld e a1 λf=>
lD 0 (pt a) e λh=>
Ld e a5 λi=>
lD 2 (pt a) e λa=>
aE zQ g i #[a] c (λa c=>
aM c e/\
CN g 220 #[f,h,b,a] c λa b=>
aM b e/\
JE d [a] b) ej) (dj R))))
theorem H6(h:L218 g a0 a1 a2 a3 a4 a5 H R):sc g 218 #[a0,a1,a2,a3,a4,a5] H R:=sd (zA (zA (.n (zB (zF 0 [] [1])) (zA (zA (zE 1 [12] [0,3] (hN 3 (zF 0 (yR 10) [])))))))) func218 h
def L219:Y2:=λa b c d e=>lW d nC 144 λd f=>lM 0 b f λg=>CR e a 152 #[g,c] f λc f=>lX c λc _=>lQ 3 f nC 144 c λc f=>DR f λg=>az 3 g (pt c) λh=>az 3 g (pt c) λc=>CN a 263 #[b,c] f λa b=>aM b g/\
St 3 b (pt d) h λb=>aM b g/\
az 3 b (pt d) λc=>rt e (tP c a) b
theorem HZ:qC L219 219:=λh=>sd (zA (zA (zB (zF 0 (yR 6) [])))) func219 h
def L220:Y4:=λa b c d e f g=>lM 2 b f λh=>lN h i0 λh=>Br h (rt g (ui 0) f) (lM 0 b f λh=>CR g a 98 #[h,c,d,e] f λf h=>lX f λf i=>jB (λj k=>rt g j k) λj=>lE i (iv 8) λk=>Br k (lM 0 b h λk=>CR g a 216 #[k,c,d,e] h λc d=>lX c λc _=>JE j [c] d) (lN i i0 λc=>Br c (lC 2 b λc=>St 1 h c i λc=>JE j [f] c) (oQ f (ui 1) λc=>lO c (λc=>lM 1 b h λd=>c6 (.int .u32) i0 false h d f λd=>lG d i0 λd=>(lV h d c)) λc=>Br (Value.bool c) (lM 0 b h λc=>CR g a 85 #[c,f] h λ_ a=>JE j [f] a) (lM 1 b h λa=>aW (.int .u32) h a f i1 λa=>JE j [f] a))))
theorem xF:qE L220 220:=λh=>sd (hN 3 (zE 1 [9] [] (zB (hN 4 (zB (zF 0 [] [1])))))) func220 h
def L221:Y4:=λa b c d e f g=>lK f b 217 λb f=>Ld f (pt b) λh=>Ld f c λc=>Ld f d λd=>CR g a 161 #[h,c,d,(.func (.func 222) #[] #[(pt b),e])] f λa b=>rt g a b
theorem HY:qE L221 221:=λh=>sd .e func221 h
def L222:Y3:=λa b c d e f=>lK e b 144 λb e=>Ld e c λc=>lD 1 (pt b) e λg=>lD 2 (pt b) e λb=>Ld e d λd=>CR f a 223 #[c,g,b,d] e λa b=>rt f a b
theorem HX:qD L222 222:=λh=>sd .e func222 h
def L223:Y4:=λa b c d e f g=>lK f b 217 λb f=>lW f #[(ui 0)] 78 λf h=>lW h #[(ui 0)] 78 λh i=>St 1 i (pt f) (ui 0) λi=>St 1 i (pt h) (ui 1) λi=>jA (λj=>gH j λj k=>lQ 1 k #[(.map none)] 334 j λj k=>lW k #[.nilFunc] 335 λk l=>St 1 l (pt k) (.func (.func 264) #[] #[(pt f),(pt h),(pt b),(pt j),(pt k)]) λb=>Ld b (pt k) λj=>aE zQ a j #[c,d] b (λa b=>rt g a b) (dj g)) λa=>Br e (St 1 i (pt f) (ui 1) λb=>St 1 b (pt h) (ui 0) λb=>JE a [] b) (JE a [] i)
theorem HW:qE L223 223:=λh=>sd (zA (zA (zF 1 [] [1,2,4,9,10]))) func223 h
def L224:Y2:=λa b c d e=>CR e a 250 #[b,c] d λa d=>lN a i0 λf=>Br f (rt e (tP i0 a) d) (lM 0 b d λa=>lI 1 a c d λa=>BG d a λa=>rt e (tP a i0) d)
theorem HV:qC L224 224:=λh=>sd .e func224 h
def L225:Y2:=λa b c d e=>lM 0 b d λf=>av 2 f c λf=>az 2 d f λf=>lQ 2 d #[i0,i0] 295 f λd f=>yA [c] f λc f g h=>jB (λi j=>Br i (lM 0 b j λi=>lS g i1 λk=>ae .num .quo k (iv 2) λk=>av 2 i k λi=>az 2 j i λi=>CR e a 226 #[b,g,i] j λ_ i=>lS g i1 λk=>ae .num .quo k (iv 2) λk=>aC c f [k] i [g] h) (az 2 j (pt d) λc=>CR e a 226 #[b,g,c] j λ_ c=>rt e (.tuple #[]) c)) λc=>DR h λe=>lG g i0 λf=>Br f (az 2 e (pt d) λd=>lM 0 b e λb=>lS g i1 λf=>ae .num .quo f (iv 2) λf=>av 2 b f λb=>az 2 e b λb=>∀f:Hp,
CN (a.add f) 265 #[d,b] h λa b=>aM b e/\
aH vT a vF λa=>JE c [a] b) (JE c [vF] h)
theorem HU:qC L225 225:=λh=>sd (zA (zB (zB (zE 0 [1] [0,4] (zB (zE 1 [26] [0,1,4] (zE 1 [] [] (hr 0 [] 0 2 (.h 2 [2] [] (hr 0 [] 3 12 .e) (hr 0 [] 3 11 (zF 3 [14] []))))))))))) func225 h
def L226:Y3:=λ_ a b c d e=>lK d c 295 λc d=>DR d λf=>lM 0 a f λg=>az 2 f (pt c) λf=>av 2 g b λg=>St 2 d g f λd=>DR d λf=>lM 1 a f λa=>lD 0 (pt c) f λc=>aW (.int .i64) d a c b λa=>rt e (.tuple #[]) a
theorem HT:qD L226 226:=λh=>sd (zA (.n (zF 0 (yR 8) []) (zF 0 (yR 8) []))) func226 h
def L227:Y2:=λa b c d e=>lM 0 b d λf=>av 2 f c λf=>az 2 d f λf=>lQ 2 d #[i0,i0] 295 f λd f=>yA [c] f λc f g h=>oM (iv 2) g λi=>lA i i1 λi=>jB (λj k=>jB (λl m=>Br l (az 2 m (pt d) λl=>CR e a 226 #[b,g,l] m λ_ l=>rt e (.tuple #[]) l) (lM 0 b m λl=>av 2 l j λl=>az 2 m l λl=>CR e a 226 #[b,g,l] m λ_ e=>aC c f [j] e [g] h)) λc=>DR k λe=>lM 0 b e λf=>aR f λf=>oG j f λf=>Br f (JE c [vT] k) (lM 0 b e λf=>av 2 f j λf=>az 2 e f λf=>az 2 e (pt d) λd=>∀g:Hp,
CN (a.add g) 265 #[f,d] k λd f=>aM f e/\
Un .not d λd=>aH vF vT d λd=>JE c [d] f)) λc=>jB (λd e=>Br d (lA i i1 λd=>JE c [d] e) (JE c [i] e)) λc=>DR h λd=>lA i i1 λe=>lM 0 b d λf=>aR f λf=>lL e f λe=>Br e (lM 0 b d λe=>lA i i1 λf=>av 2 e f λe=>az 2 d e λe=>lM 0 b d λb=>av 2 b i λb=>az 2 d b λb=>∀f:Hp,
CN (a.add f) 265 #[e,b] h λa b=>aM b d/\
aH vT a vF λa=>JE c [a] b) (JE c [vF] h)
theorem HR:qC L227 227:=λh=>sd (zA (zB (zB (zE 0 [1] [0,4] (zB (zA (.h 1 [5] [0,1,4] (zE 1 [41] [0,1,4,5] (zE 1 [] [] (hr 0 [] 0 8 (.h 2 [8] [] (hr 0 [] 9 17 .e) (hr 0 [] 9 16 (zF 3 [25] [])))))) (zB (zE 1 [62] [0,1,4,5] (zE 1 [] [] (hr 0 [] 0 7 (.h 2 [7] [] (hr 0 [] 8 10 (zF 3 [18] [])) (hr 0 [] 8 11 .e))))))))))))) func227 h
def L228:Y1:=λa b c d=>DR c λe=>Ld e b λf=>Ld e b λb=>lM 1 b e λb=>∀e:Hp,
CN (a.add e) 229 #[f,b,i1] c λa b=>rt d a b
theorem xE:qB L228 228:=λh=>sd (zA (zB (zE 1 [] [] (hr 0 [1] 0 7 .e)))) func228 h
def L229:Y3:=λa b c d e f=>lM 0 b e λg=>CR f a 94 #[g,c] e λa c=>jA (λe=>rt f a e) λe=>lE a i0 λa=>Br a (lM 5 b c λa=>lA a i1 λa=>lC 5 b λf=>St 1 c f a λa=>lM 1 b a λf=>lA f d λd=>lC 1 b λb=>St 1 a b d λa=>JE e [] a) (JE e [] c)
theorem xD:qD L229 229:=λh=>sd (zA (zA (zF 1 [] [7]))) func229 h
def L230:Y1:=λa b c d=>DR c λe=>Ld e b λf=>Ld e b λb=>lM 1 b e λb=>lS b i1 λb=>∀e:Hp,
CN (a.add e) 229 #[f,b,(iv (-1))] c λa b=>rt d a b
theorem xC:qB L230 230:=λh=>sd (zA (zB (zE 1 [] [] (hr 0 [1] 0 8 .e)))) func230 h
def L231:Y1:=λa b c d=>oP b λe=>lO e (λe=>lM 7 b c λf=>aR f λf=>lE f i0 λf=>(lV c f e)) λe=>Br (Value.bool e) (rt d (tP i0 (iv 10)) c) (lM 7 b c λe=>aR e λe=>lS e i1 λe=>lM 7 b c λf=>lI 1 f e c λf=>CR d a 134 #[b,f] c λ_ a=>lM 7 b a λc=>gx 1 c none (some e) λc=>lC 7 b λb=>St 1 a b c λa=>rt d (tP f i0) a)
theorem HQ:qB L231 231:=λh=>sd (zA (zB (zB (zF 0 [] [1])))) func231 h
def L232:Y1:=λ_ a b c=>lL a i0 λd=>Br d (rt c i1 b) (lG a (iv 16) λa=>Br a (rt c (iv 6) b) (rt c i0 b))
theorem HP:qB L232 232:=λh=>sd .e func232 h
def L233:Y2:=λa b c d e=>lW d #[i0,sZ] 175 λd f=>CR e a 266 #[b] f λf g=>cU 33 1 8 (wi 0) g f f λf g=>Build zQ 175 [(0,b),(1,f)] λf=>lQ 2 g #[i0,sZ] 175 f λf g=>lD 1 (pt f) g λh=>aR h λh=>yA [i0] g λg i j k=>lL j h λh=>Br h (DR k λh=>lD 1 (pt f) h λl=>aE zQ a c #[j] k (λc m=>aM m h/\
CN a 267 #[b] m λa b=>aM b h/\
oA c a λa=>av 1 l j λc=>St 1 b c a λa=>lA j i1 λb=>aC g i [b] a [j] k) ej) (az 2 k (pt f) λa=>St 2 k (pt d) a λa=>az 2 a (pt d) λb=>rt e b a)
theorem HN:qC L233 233:=λh=>sd (zA (zA (zB (zA (zB (zE 0 [15] [0,1,4,5,14] (zA (zA (zB (zB (zA (zF 0 [0,1,2,3,4,6,5,7,8,9,10] [])))))))))))) func233 h
def L234:Y2:=λ_ _ a b c=>Ld b a λa=>Br a (rt c (wi 18446744073709551615) b) (rt c (wi 0) b)
theorem HM:qC L234 234:=λh=>sd .e func234 h
def L235:Y5:=λa b c d e f g h=>lW g #[i0,sZ] 175 λg i=>Ld i c λj=>c6 (.int .u32) (.agg #[i0,sZ]) true i j b λj=>lX j λj k=>lQ 2 i #[i0,sZ] 175 j λi j=>Br k (az 2 j (pt i) λi=>St 2 j (pt g) i λi=>az 2 i (pt g) λk=>rt h k i) (Ld j d λd=>CR h a 125 #[d,b] j λd i=>lQ 3 i nC 144 d λd i=>DR i λj=>Ld j e λe=>az 3 j (pt d) λk=>Ld j f λl=>lD 1 (pt d) j λm=>Ld j f λf=>lD 2 (pt d) j λd=>∀n:Hp,
aE zQ (a.add n) l #[m] i (λi l=>aM l j/\
∀m:Hp,
aE zQ (a.add m) f #[d] l (λd f=>aM f j/\
∀l:Hp,
aE zQ (a.add l) e #[k,i,d] f (λa d=>aM d j/\
lW d #[i0,sZ] 175 λd e=>∀_:Hp,
St 2 e (pt d) a λa=>Ld a c λc=>az 2 a (pt d) λe=>aW (.int .u32) a c b e λa=>az 2 a (pt d) λb=>St 2 a (pt g) b λa=>az 2 a (pt g) λb=>rt h b a) ej) ej) ej)
theorem xB:qF L235 235:=λh=>sd (hN 3 (zB (zE 1 [] [] (hr 0 [] 0 5 (hr 0 [] 6 3 (zE 1 [11] [] (zE 0 [5] [] (hr 0 [] 9 4 .e)))))))) func235 h
def L236:Y2:=λa b c d e=>Ld d c λc=>CR e a 237 #[c,b] d λa b=>rt e a b
theorem HL:qC L236 236:=λh=>sd .e func236 h
def L237:Y2:=λ_ a b c d=>oG a (iv 6) λe=>Br e (br .u64 b λb=>lS a (iv 6) λe=>oR b e λb=>oA b (wi 1) λb=>Un .neg b λb=>rt d b c) (yB [(wi 0),i0] c λb c e f g=>lL f (iv 64) λh=>Br h (oR f a λa=>oA a i1 λa=>br .u64 a λa=>oL a f λa=>oO e a λa=>lA f i1 λh=>aC b c [a,h] g [e,f] g) (rt d e g))
theorem HK:qC L237 237:=λh=>sd (hN 3 (zB (zA (zB (zF 0 [5,16] [0]))))) func237 h
def L238:Y1:=λa b c d=>aR b λe=>yA [i0] c λc f g h=>lL g e λe=>Br e (av 2 b g λe=>az 2 h e λe=>lQ 2 h #[i0,sZ] 175 e λe i=>jB (λj k=>Br j (rt d vF k) (lA g i1 λj=>aC c f [j] k [g] h)) λc=>DR i λf=>az 2 f (pt e) λg=>∀j:Hp,
CN (a.add j) 268 #[g] i λa g=>aM g f/\
Un .not a λa=>Br a (JE c [vT] g) (lD 0 (pt e) f λa=>av 2 b i0 λb=>ai 0 b λb=>Ld f b λb=>lN a b λa=>aH vF vT a λa=>JE c [a] g)) (rt d vT h)
theorem HJ:qB L238 238:=λh=>sd (zA (zB (zA (zB (zE 0 [7] [0,5,6] (zA (zA (zB (zB (zA (zE 1 [22] [0,5,6,7] (zE 1 [] [] (hr 0 [] 0 3 (.h 2 [3] [] (hr 0 [] 4 7 (zF 3 [11] [])) (hr 0 [] 4 8 .e))))))))))))))) func238 h
def L239:Y4:=λ_ a b c d e f=>ai 1 b λg=>Ld e g λg=>lI 1 g a e λg=>ai 1 c λc=>Ld e c λc=>lI 1 c a e λc=>oA g c λc=>ai 1 b λb=>Ld e b λb=>lI 1 b a e λb=>Un .xor b λb=>ai 1 d λd=>Ld e d λd=>lI 1 d a e λa=>oA b a λa=>oO c a λa=>rt f a e
theorem HH:qE L239 239:=λh=>sd .e func239 h
def L240:Y1:=λa b c d=>CR d a 269 #[b] c λc e=>Un .not c λc=>Br c (rt d (tP sZ (iv 5)) e) (aR b λc=>lE c i0 λc=>Br c (rt d (tP sZ i0) e) (av 2 b i0 λc=>ai 0 c λc=>Ld e c λc=>cU 33 1 8 (wi 0) e c c λc e=>aR b λf=>yA [i0] e λe g h i=>lL h f λf=>Br f (av 2 b h λb=>az 2 i b λb=>lQ 2 i #[i0,sZ] 175 b λb f=>az 2 f (pt b) λb=>CR d a 241 #[b] f λa b=>lX a λa _=>aR c λf=>yA [i0] b λb j k l=>lL k f λf=>Br f (jA (λf=>lA k i1 λm=>aC b j [m] f [k] l) λb=>oR a k λf=>oA f (wi 1) λf=>lE f (wi 1) λf=>Br f (DR l λf=>lI 1 c k f λf=>oL (wi 1) k λj=>ae .num .andNot a j λa=>oO f a λa=>av 1 c k λf=>St 1 l f a λa=>JE b [] a) (JE b [] l)) (lA h i1 λa=>aC e g [a] l [h] i)) (rt d (tP c i0) i)))
theorem HG:qB L240 240:=λh=>sd (hN 4 (zB (zA (zB (zE 0 [23] [4,21,22] (zA (zA (zB (zB (hN 3 (zB (zE 0 [34] [4,7,21,22,23,33] (zA (zA (zE 1 [] [4,7,21,22,23,33,34] (zB (zA (zA (zB (zF 0 (yR 11) [])))))))))))))))))))) func240 h
def L241:Y1:=λa b c d=>lK c b 175 λb c=>az 2 c (pt b) λe=>ax zQ 171 1 [(0,e)] c λc e=>CR d a 238 #[c] e λc e=>Un .not c λc=>Br c (rt d (tP (wi 0) (iv 5)) e) (lD 0 (pt b) e λc=>yB [(wi 0),i0] e λe f g h i=>lL h c λc=>Br c (jB (λc j=>lA h i1 λk=>aC e f [c,k] j [g,h] i) λc=>DR i λe=>az 2 e (pt b) λf=>az 2 e (pt b) λb=>CN a 271 #[f,h,vF] i λf j=>aM j e/\
Az 1 f λf=>CN a 271 #[b,h,vT] j λb j=>aM j e/\
Az 1 b λb=>CN a 270 #[f,b] j λa b=>aM b e/\
Un .not a λa=>Br a (oL (wi 1) h λa=>oO g a λa=>JE c [a] b) (JE c [g] b)) (rt d (tP g i0) i))
theorem HE:qB L241 241:=λh=>sd (hN 3 (zB (zA (zB (zE 0 [4,12] [1,11] (zA (zA (zE 1 [4] [1,11,12] (zB (zA (zB (zF 0 [0,1,4,5,2,3,6,7,8,9] [])))))))))))) func241 h
def L242:Y3:=λa b c d e f=>CR f a 269 #[b] e λe g=>Un .not e λe=>Br e (rt f (tP i0 (iv 5)) g) (jB (λe h=>lL d i0 λi=>lO i (λi=>oG d e λj=>(lV h j i)) λi=>lO (Value.bool i) (λi=>oR c e λj=>lN j (wi 0) λj=>(lV h j i)) λi=>Br (Value.bool i) (rt f (tP i0 (iv 2)) h) (oR c d λi=>oA i (wi 1) λi=>lE i (wi 1) λi=>Br i (rt f (tP i0 (iv 4)) h) (CR f a 272 #[b] h λh i=>yB [h,i0] i λh i j k l=>lL k e λe=>Br e (jB (λe m=>lA k i1 λn=>aC h i [e,n] m [j,k] l) λe=>oR c k λc=>oA c (wi 1) λc=>lE c (wi 1) λc=>Br c (CR f a 273 #[j,k] l λc h=>lX c λc _=>JE e [c] h) (JE e [j] l)) (CR f a 273 #[j,d] l λa c=>lX a λ_ a=>rt f (tP a i0) c)))) λa=>aR b λc=>lG c i0 λc=>Br c (av 2 b i0 λb=>ai 0 b λb=>Ld g b λb=>JE a [b] g) (JE a [(iv 16)] g))
theorem HD:qD L242 242:=λh=>sd (hN 3 (.h 1 [8] [0,1,2] .e (.n (zB (zF 0 [] [1])) (zA (zA (zB (zA (zB (zE 0 [9,44] [1,2,43] (zA (zA (zF 1 [9] [1,2,43,44])))))))))))) func242 h
def L243:Y2:=λa b c d e=>CR e a 186 #[b] d λd f=>CR e a 186 #[c] f λa f=>lE d (iv 4) λg=>lO g (λg=>lE a (iv 4) λh=>(lV f h g)) λg=>lO (Value.bool g) (λg=>aR b λb=>aR c λc=>lN b c λb=>(lV f b g)) λg=>Br (Value.bool g) (rt e (iv 4) f) (Xv d a λa=>rt e a f)
theorem HC:qC L243 243:=λh=>sd (zA (zA (zB (zB (zF 0 [] [1]))))) func243 h
def L244:Y2:=λ_ a b c d=>aR a λe=>yA [i0] c λc f g h=>lL g e λe=>Br e (lI 1 a g h λa=>lE b a λa=>Br a (rt d g h) (lA g i1 λa=>aC c f [a] h [g] h)) (d (.returned (iv (-1))) h)
theorem Hz:qC L244 244:=λh=>sd (zA (zB (zA (zB (zF 0 [8] [0,1,7]))))) func244 h
def L245:Y1:=λa b c d=>CR d a 174 #[b] c λa c=>Build zQ 317 [(0,b),(1,a)] λa=>lK c a 317 λa b=>rt d (pt a) b
theorem Hy:qB L245 245:=λh=>sd .e func245 h
def L246:Y2:=λa b c d e=>Ld d b λf=>CR e a 247 #[f] d λ_ a=>Ld a b λb=>lM 2 b a λb=>St 1 a c b λa=>rt e (.tuple #[]) a
theorem ug(h:L246 g a0 a1 H R):kQ zQ g 246 #[a0,a1] H R:=
 AP (hn:=.e) func246 h zK
def L247:Y1:=λa b c d=>lM 3 b c λe=>Un .not e λe=>Br e (CR d a 274 #[b] c λ_ a=>rt d (.tuple #[]) a) (rt d (.tuple #[]) c)
theorem xA:qB L247 247:=λh=>sd .e func247 h
def L248:Y2:=λa b c d e=>lM 0 b d λf=>CR e a 94 #[f,c] d λa c=>jA (λd=>rt e a d) λd=>lE a i0 λa=>Br a (lM 2 b c λa=>lA a i1 λa=>lC 2 b λb=>St 1 c b a λa=>JE d [] a) (JE d [] c)
theorem xz:qC L248 248:=λh=>sd (zA (zA (zF 1 [] [5]))) func248 h
def L249:Y2:=λ_ a b c d=>br .i64 b λe=>lM 1 a c λf=>aR f λf=>lL e f λe=>lU e (λe=>lM 1 a c λa=>av 5 a b λa=>ai 3 a λa=>Ld c a λa=>(lV c a e)) λe=>rt d (Value.bool e) c
theorem Hx:qC L249 249:=λh=>sd (zA (zB (zF 0 [] [1]))) func249 h
def L250:Y2:=λ_ a b c d=>oP a λe=>Br e (rt d (iv 10) c) (lL b i0 λe=>lO e (λe=>lM 0 a c λa=>aR a λa=>oG b a λa=>(lV c a e)) λe=>Br (Value.bool e) (rt d (iv 2) c) (rt d i0 c))
theorem Hw:qC L250 250:=λh=>sd (zA (zB (zB (zA (zA (zB (zF 0 [] [1]))))))) func250 h
def L251:Y2:=λa b c d e=>jB (λf g=>Br f (rt e (iv 3) g) (rt e i0 g)) λf=>oQ c (ui 1) λg=>Split g false (CR e a 249 #[b,c] d λa b=>Un .not a λa=>aH vF vT a λa=>JE f [a] b) (aH vT vT undef λa=>JE f [a] d)
theorem Hv:qC L251 251:=λh=>sd (zA (zB (zF 1 [12] []))) func251 h
def L252:Y4:=λa b c d e f g=>Ld f c λh=>lM 2 h f λh=>c6 (.int .u32) (.agg nC) true f h b λh=>lX h λh i=>lQ 3 f nC 144 h λ_ f=>lO i (λh=>oQ b (ui 1) λi=>(lV f i h)) λh=>Br (Value.bool h) (rt g (.tuple #[]) f) (Ld f d λd=>CR g a 152 #[d,b] f λd f=>lX d λd _=>lQ 3 f nC 144 d λd f=>DR f λh=>Ld h c λc=>lM 2 c h λc=>az 3 h (pt d) λh=>∀_:Hp,
aW (.int .u32) f c b h λb=>Ld b e λc=>lD 1 (pt d) b λf=>aE zQ a c #[f] b (λ_ b=>Ld b e λc=>lD 2 (pt d) b λd=>aE zQ a c #[d] b (λ_ a=>rt g (.tuple #[]) a) (dj g)) (dj g))
theorem xy:qE L252 252:=λh=>sd (.n (zA (zB (zF 0 [] [1]))) (zA (zB (zE 1 [] [] (hr 0 [1] 0 7 .e))))) func252 h
def L253:Y1:=λ_ a b c=>lM 0 a b λd=>lA d i1 λd=>cU 3 1 8 i0 b d d λb d=>lM 3 a d λe=>aR e λf=>yA [i0] d λd g h i=>lL h f λf=>Br f (jA (λf=>lA h i1 λj=>aC d g [j] f [h] i) λd=>lI 1 e h i λe=>lM 4 a i λf=>oR f h λf=>oA f (wi 1) λf=>lE f (wi 0) λf=>Br f (av 1 b e λe=>St 1 i e i1 λe=>JE d [] e) (JE d [] i)) (lM 0 a i λa=>lS a i1 λa=>yA [a] i λa d e f=>oG e i0 λg=>Br g (DR f λg=>lI 1 b e g λh=>lA e i1 λi=>lI 1 b i g λg=>lA h g λg=>av 1 b e λh=>∀_:Hp,
St 1 f h g λg=>lS e i1 λh=>aC a d [h] g [e] f) (rt c b f))
theorem Hu:qB L253 253:=λh=>sd (zA (zA (.n (zA (zB (zE 0 [18] [0,3,16,17] (zA (zA (zF 1 [] [0,3,16,17,18])))))) (zB (zA (zB (zE 0 [6] [3] (zA (zB (zB (zE 1 [] [] (hr 0 [1] 0 12 .e)))))))))))) func253 h
def L254:Y2:=λ_ a b c d=>oQ a (ui 1) λe=>Br e (Ld c b λe=>lM 0 e c λe=>rt d e c) (Ld c b λe=>lM 3 e c λe=>Ld c b λb=>lM 2 b c λb=>c6 (.int .u32) (.agg nC) false c b a λa=>Az 0 a λa=>lI 1 e a c λa=>rt d a c)
theorem Ht:qC L254 254:=λh=>sd .e func254 h
def L255:Y5:=λa b c d e f g h=>lW g #[(wi 0),vF] 261 λg i=>DR i λj=>Ld j d λd=>Ld j e λk=>lI 1 k c j λc=>Ld j e λe=>Ld j f λf=>∀k:Hp,
aE zQ (a.add k) d #[b] i (λd i=>aM i j/\
DR2 i j λj=>∀k:Hp,
aE zQ (a.add k) f #[b] i (λb f=>aM f j/\
DR2 f j λi=>lI 1 e b i λb=>lS c b λb=>∀c:Hp,
CN (a.add c) 256 #[d,b] f λa b=>∀_:Hp,
St 2 b (pt g) a λa=>az 2 a (pt g) λb=>rt h b a) ej) ej
theorem Hs:qF L255 255:=λh=>sd (zA (zB (zE 1 [] [] (hr 0 [1] 0 2 (hr 0 [1] 3 7 (zE 0 [2] [1] (zE 4 [] [] (zE 0 [10] [1] (zE 4 [] [] (hr 0 [1] 11 5 .e)))))))))) func255 h
def L256:Y2:=λ_ a b c d=>lK c a 261 λa c=>lW c #[(wi 0),vF] 261 λc e=>lE b i0 λf=>lO f (λf=>lD 0 (pt a) e λg=>lE g (wi 0) λg=>(lV e g f)) λf=>Br (Value.bool f) (az 2 e (pt a) λf=>St 2 e (pt c) f λf=>az 2 f (pt c) λg=>rt d g f) (lD 0 (pt a) e λf=>oL f b λf=>jA (λg=>az 2 g (pt c) λh=>rt d h g) λd=>DR e λg=>lE f (wi 0) λh=>Br h (Build zQ 261 [(0,f),(1,vT)] λh=>∀_:Hp,
St 2 e (pt c) h λh=>JE d [] h) (oR f b λb=>lD 0 (pt a) g λa=>lN b a λa=>aH vF vT a λa=>Build zQ 261 [(0,f),(1,a)] λa=>∀_:Hp,
St 2 e (pt c) a λa=>JE d [] a))
theorem Hr:qC L256 256:=λh=>sd (zA (.n (zB (zF 0 [] [1])) (zA (zE 1 [] [4] (zE 1 [] [] (hr 0 [1] 0 3 (.h 2 [3] [] (hr 0 [1] 4 6 (zE 3 [10] [1] (hr 0 [1] 11 2 .e))) (hr 0 [1] 4 9 .e)))))))) func256 h
def L257:Y4:=λa b c d e f g=>lW f #[(wi 0),vF] 261 λf h=>Ld h c λi=>c6 (.int .u32) (.agg #[(wi 0),vF]) true h i b λi=>lX i λi j=>lQ 2 h #[(wi 0),vF] 261 i λh i=>Br j (az 2 i (pt h) λh=>St 2 i (pt f) h λh=>az 2 h (pt f) λj=>rt g j h) (Ld i d λh=>lM 2 h i λh=>c6 (.int .u32) (.agg nC) false i h b λh=>lQ 3 i nC 144 h λh i=>Ld i d λj=>lM 3 j i λj=>lD 0 (pt h) i λk=>lI 1 j k i λj=>lA j i1 λj=>lW i #[(wi 0),vF] 261 λi k=>jA (λl=>jA (λm=>Ld m c λc=>az 2 m (pt i) λn=>aW (.int .u32) m c b n λb=>az 2 b (pt i) λc=>St 2 b (pt f) c λb=>az 2 b (pt f) λc=>rt g c b) λb=>Ld l d λc=>lM 4 c l λc=>lD 0 (pt h) l λf=>oR c f λc=>oA c (wi 1) λc=>lE c (wi 0) λc=>lO c (λc=>Ld l d λf=>lM 5 f l λf=>lD 0 (pt h) l λg=>oR f g λf=>oA f (wi 1) λf=>lE f (wi 1) λf=>(lV l f c)) λc=>Br (Value.bool c) (DR l λc=>az 2 c (pt i) λf=>Ld c e λg=>lD 2 (pt h) c λm=>∀n:Hp,
aE zQ (a.add n) g #[m,j] l (λg m=>aM m c/\
∀c:Hp,
CN (a.add c) 258 #[f,g] m λc f=>∀_:Hp,
St 2 f (pt i) c λc=>JE b [] c) ej) (JE b [] l)) λb=>Ld k d λc=>lM 4 c k λc=>lD 0 (pt h) k λf=>oR c f λc=>oA c (wi 1) λc=>lE c (wi 0) λc=>lO c (λc=>Ld k d λd=>lM 5 d k λd=>lD 0 (pt h) k λf=>oR d f λd=>oA d (wi 1) λd=>lE d (wi 0) λd=>(lV k d c)) λc=>Br (Value.bool c) (DR k λc=>az 2 c (pt i) λd=>Ld c e λe=>lD 1 (pt h) c λf=>∀g:Hp,
aE zQ (a.add g) e #[f,j] k (λe f=>aM f c/\
∀c:Hp,
CN (a.add c) 258 #[d,e] f λa c=>∀_:Hp,
St 2 c (pt i) a λa=>JE b [] a) ej) (JE b [] k))
theorem xx:qE L257 257:=λh=>sd (hN 5 (.h 1 [] [0,1,2,3,5,8,9,10] (zA (zB (zE 1 [] [] (hr 0 [1] 0 8 .e)))) (zE 1 [] [0,1,5,10] (zA (zB (zE 1 [] [] (hr 0 [1] 0 8 .e))))))) func257 h
variable {g:Gh} {a0 a1 a2 a3 a4 a5 a6 a7 a8 a9 ud uc a12 a13 a14 a15:zV} {H:Hp} {R:Rt}
def L258:Y2:=λ_ a b c d=>lK c a 261 λa c=>lK c b 261 λb c=>lW c #[(wi 0),vF] 261 λc e=>lD 0 (pt a) e λf=>lD 0 (pt b) e λg=>lA f g λf=>lD 1 (pt a) e λg=>lO g (λg=>lD 1 (pt b) e λb=>(lV e b g)) λg=>lO (Value.bool g) (λb=>lD 0 (pt a) e λa=>lL f a λa=>(lV e a b)) λb=>Build zQ 261 [(0,f),(1,(Value.bool b))] λa=>St 2 e (pt c) a λa=>az 2 a (pt c) λb=>rt d b a
theorem Hq:qC L258 258:=λh=>sd (zA (zA (zB (zF 0 [] [1])))) func258 h
def L259:Y2:=λa b c d e=>CR e a 250 #[b,c] d λd f=>lN d i0 λg=>Br g (rt e (tP sZ d) f) (lM 0 b f λb=>lI 1 b c f λb=>CR e a 276 #[b] f λb c=>CR e a 275 #[b] c λa b=>rt e (tP a i0) b)
theorem Ho:qC L259 259:=λh=>sd .e func259 h
def L260:Y3:=λa b c d e f=>lC 0 b λb=>CR f a 190 #[b,c] e λa b=>lQ 3 b nC 144 a λa b=>lD 0 (pt a) b λe=>lE e d λd=>Br d (lD 1 (pt a) b λd=>lD 2 (pt a) b λa=>rt f (tP d a) b) (rt f (tP c c) b)
theorem Hl:qD L260 260:=λh=>sd .e func260 h
def L261:Y2:=λa b c d e=>lK d c 144 λc d=>lD 0 (pt c) d λf=>lL f i0 λf=>lO f (λf=>lD 0 (pt c) d λg=>oG g (iv 64) λg=>(lV d g f)) λf=>Br (Value.bool f) (rt e (iv 2) d) (jB (λf g=>Br f (rt e (iv 3) g) (rt e i0 g)) λf=>lD 1 (pt c) d λg=>CR e a 249 #[b,g] d λd g=>Un .not d λd=>Split d false (lD 2 (pt c) g λc=>CR e a 249 #[b,c] g λa b=>Un .not a λa=>aH vF vT a λa=>JE f [a] b) (aH vT vT undef λa=>JE f [a] g))
theorem Hi:qC L261 261:=λh=>sd (zA (zB (zB (.n (zF 0 [] [1]) (zA (zF 1 [14] [])))))) func261 h
def L263:Y2:=λa b c d e=>lK d c 144 λc d=>lD 0 (pt c) d λf=>lL f i0 λf=>Br f (lM 0 b d λf=>CR e a 108 #[f] d λf g=>rt e f g) (DR d λf=>lM 0 b f λb=>lD 0 (pt c) f λc=>CN a 93 #[b,c] d λa b=>aM b f/\
lX a λa _=>rt e a b)
theorem Hh:qC L263 263:=λh=>sd (zA (zA (zB (zF 0 (yR 12) [])))) func263 h
def L264(g:Gh)(a0 a1 a2 a3 a4 a5 a6:zV)(H:Hp)(R:Rt):Prop:=
Ld H a2 λa=>
lE a0 a λa=>
lO a (λa=>
Ld H a2 λb=>
lE a1 b λb=>
(lV H b a)) λa=>
Br (Value.bool a) (
Ld H a2 λa=>
rt R a H) (
Ld H a3 λa=>
lE a0 a λa=>
lO a (λa=>
lE a0 a1 λb=>
(lV H b a)) λa=>
Br (Value.bool a) (
rt R a1 H) (
Ld H a3 λa=>
lE a1 a λa=>
Br a (
rt R a0 H) (
Ld H a4 λa=>
lM 2 a H λa=>
lN a i0 λa=>
Br a (
rt R (ui 0) H) (
aaI a0 a1 λa=>
Xv a0 a1 λb=>
Build zQ 337 [(0,a),(1,b)] λa=>
lQ 2 H #[(ui 0),(ui 0)] 337 a λa b=>
Ld b a5 λc=>
az 2 b (pt a) λd=>
j7 zQ 337 (ui 0) true b c d λc=>
lX c λc d=>
Br d (
rt R c b) (
Ld b a4 λc=>
CR R g 219 #[c,a0] b λb c=>
lX b λb d=>
lQ 3 c nC 144 b λb c=>
Ld c a4 λe=>
CR R g 219 #[e,a1] c λc e=>
lX c λc f=>
lQ 3 e nC 144 c λc e=>
lD 0 (pt b) e λh=>
jB (λi j=>
jA (λk=>
jA (λl=>
Ld l a6 λm=>
lD 1 (pt b) l λn=>
lD 1 (pt c) l λo=>
aE zQ g m #[n,o] l (λl m=>
DR m λn=>
Ld n a4 λo=>
Ld n a6 λp=>
lD 2 (pt b) n λq=>
lD 2 (pt c) n λr=>
aE zQ g p #[q,r] m (λm p=>
aM p n/\
CN g 220 #[o,i,l,m] p λi l=>
aM l n/\
Ld l a5 λm=>
az 2 l (pt a) λa=>
iJ zQ 337 l m a i λa=>
rt R i a) ej) (dj R)) λa=>
lG f d λi=>
Br i (
ai 1 (pt c) λi=>
St 1 k i a1 λi=>
ai 2 (pt c) λl=>
St 1 i l a1 λi=>
JE a [] i) (
JE a [] k)) λa=>
lG d f λi=>
Br i (
ai 1 (pt b) λi=>
St 1 j i a0 λi=>
ai 2 (pt b) λb=>
St 1 i b a0 λb=>
JE a [] b) (
JE a [] j)) λa=>
lL f d λb=>
Br b (
lD 0 (pt c) e λb=>
JE a [b] e) (
JE a [h] e))))))
theorem Hg(h:L264 g a0 a1 a2 a3 a4 a5 a6 H R):sc g 264 #[a0,a1,a2,a3,a4,a5,a6] H R:=sd (zA (.n (zB (.n (zF 0 [] [1]) (zA (zB (zF 0 [] [1]))))) (hN 5 (.h 1 [17] [0,1,4,5,6,10,13,14,15,16] .e (.h 1 [] [1,4,5,6,10,13,14,15,16,17] .e (.h 1 [] [4,5,6,10,13,15,17] .e (zA (zB (zF 0 (yR 11) []))))))))) func264 h
def L265:Y2:=λ_ a b c d=>lK c a 295 λa c=>lK c b 295 λb c=>lD 1 (pt a) c λe=>lD 1 (pt b) c λf=>lL e f λe=>lO e (λe=>lD 1 (pt a) c λf=>lD 1 (pt b) c λg=>lE f g λf=>cS f true (λf=>lD 0 (pt a) c λa=>lD 0 (pt b) c λb=>lL a b λa=>(lV c a f)) (λf=>vF=Value.bool f) λf=>∀_:Fr,
(lV c (Value.bool f) e)) λe=>rt d (Value.bool e) c
theorem Hf:qC L265 265:=λh=>sd (zA (zB (zF 0 [] [1]))) func265 h
def L266:Y1:=λ_ a b c=>oL i1 a λa=>oR a (wi 6) λa=>Xv i1 a λa=>rt c a b
theorem He:qB L266 266:=λh=>sd .e func266 h
def L267:Y1:=λ_ a b c=>oG a (iv 6) λd=>Br d (rt c (wi 18446744073709551615) b) (oL (wi 1) a λa=>oL (wi 1) a λa=>lS a (wi 1) λa=>rt c a b)
theorem G9:qB L267 267:=λh=>sd .e func267 h
def L268:Y1:=λa b c d=>lK c b 175 λb c=>jB (λe f=>Br e (rt d vF f) (DR f λe=>lD 1 (pt b) e λg=>lD 1 (pt b) e λh=>aR h λh=>lS h i1 λh=>lI 1 g h e λg=>lD 0 (pt b) e λh=>CN a 267 #[h] f λf h=>aM h e/\
ae .num .andNot g f λe=>lE e (wi 0) λe=>rt d e h)) λd=>DR c λe=>lD 0 (pt b) e λf=>lL f i0 λf=>Br f (JE d [vT] c) (lD 0 (pt b) e λf=>lG f (iv 16) λf=>aH vF vT f λf=>Br f (JE d [vT] c) (lD 1 (pt b) e λf=>aR f λf=>lD 0 (pt b) e λb=>∀g:Hp,
CN (a.add g) 266 #[b] c λa b=>aM b e/\
lN f a λa=>aH vF vT a λa=>JE d [a] b))
theorem G8:qB L268 268:=λh=>sd (zA (.n (zE 1 [19] [1] (zE 1 [] [] (hr 0 [] 0 3 (.h 2 [3] [] (hr 0 [] 4 3 (hr 3 [] 7 2 (hr 0 [] 9 7 (zF 3 [16] [])))) (hr 0 [] 4 4 (.h 2 [8] [] (hr 0 [] 9 7 (zF 3 [16] [])) (hr 0 [] 9 8 .e))))))) (zB (zF 0 (yR 14) [])))) func268 h
def L269:Y1:=λa b c d=>aR b λe=>yA [i0] c λc f g h=>lL g e λe=>Br e (av 2 b g λe=>az 2 h e λe=>lQ 2 h #[i0,sZ] 175 e λe i=>jB (λj k=>Br j (rt d vF k) (lA g i1 λj=>aC c f [j] k [g] h)) λc=>DR i λf=>az 2 f (pt e) λg=>∀j:Hp,
CN (a.add j) 268 #[g] i λa g=>aM g f/\
Un .not a λa=>Br a (JE c [vT] g) (lD 0 (pt e) f λa=>av 2 b i0 λb=>ai 0 b λb=>Ld f b λb=>lN a b λa=>aH vF vT a λa=>JE c [a] g)) (rt d vT h)
theorem G7:qB L269 269:=λh=>sd (zA (zB (zA (zB (zE 0 [7] [0,5,6] (zA (zA (zB (zB (zA (zE 1 [22] [0,5,6,7] (zE 1 [] [] (hr 0 [] 0 3 (.h 2 [3] [] (hr 0 [] 4 7 (zF 3 [11] [])) (hr 0 [] 4 8 .e))))))))))))))) func269 h
def L270:Y2:=λ_ a b c d=>aR a λe=>aR b λf=>lN e f λe=>Br e (rt d vF c) (aR a λe=>yA [i0] c λc f g h=>lL g e λe=>Br e (lI 1 a g h λa=>lI 1 b g h λb=>lN a b λa=>Br a (rt d vF h) (lA g i1 λa=>aC c f [a] h [g] h)) (rt d vT h))
theorem G6:qC L270 270:=λh=>sd (zA (zA (zB (zA (zB (zF 0 [13] [0,1,12])))))) func270 h
def L271:Y3:=λa b c d e f=>lK e b 175 λb e=>lK e c 3 λc e=>lK e d 4 λd e=>lW e #[i0,sZ] 175 λe g=>lD 0 (pt b) g λh=>CR f a 233 #[h,(.func (.func 277) #[] #[(pt c),(pt d),(pt b)])] g λa b=>St 2 b (pt e) a λa=>az 2 a (pt e) λb=>rt f b a
theorem G5:qD L271 271:=λh=>sd .e func271 h
def L272:Y1:=λa b c d=>gH c λc e=>aR b λf=>yA [i0] e λe g h i=>lL h f λf=>Br f (av 2 b h λb=>az 2 i b λb=>lQ 2 i #[i0,sZ] 175 b λb f=>az 2 f (pt b) λb=>CR d a 278 #[c,b] f λ_ a=>lA h i1 λb=>aC e g [b] a [h] i) (rt d c i)
theorem G4:qB L272 272:=λh=>sd (zA (zA (zB (zA (zB (zF 0 [9] [3,7,8])))))) func272 h
def L273:Y2:=λa b c d e=>gH d λd f=>Rng f b λb f=>yA [i0] f λf g h i=>Nxt i b λj k=>Ext 0 j λj=>Br j (Pc k b λb=>Ext 1 b λb=>lQ 2 k #[i0,sZ] 175 b λb j=>az 2 j (pt b) λl=>CR e a 279 #[l,c,vF] j λj l=>lX j λj _=>lQ 2 l #[i0,sZ] 175 j λj l=>az 2 l (pt b) λb=>CR e a 279 #[b,c,vT] l λb c=>lX b λb _=>lQ 2 c #[i0,sZ] 175 b λb c=>DR c λl=>az 2 l (pt j) λm=>az 2 l (pt b) λn=>CN a 280 #[m] c λc m=>aM m l/\
CN a 280 #[n] m λa m=>aM m l/\
jB (λl n=>DR n λo=>az 2 o (pt j) λj=>az 2 o (pt b) λb=>aW (.string) n d c j λj=>aM j o/\
aW (.string) j d a b λb=>aC f g [l] b [h] i) λb=>ae .str .neq c a λa=>Br a (lA h i1 λa=>JE b [a] m) (JE b [h] m)) (rt e (tP d h) k)
theorem G0:qC L273 273:=λh=>sd (zA (zA (zB (zA (zB (zE 0 [7] [1,6,18] (zA (zA (zB (hN 3 (.n (zF 0 [0,2,1,3,4,5] []) (.h 1 [7] [1,6,10,12,14,15,18] .e (zF 0 (yR 8) []))))))))))))) func273 h
def L274:Y1:=λa b c d=>DR c λe=>lM 0 b e λf=>lM 1 b e λg=>CN a 176 #[f,g] c λa c=>aM c e/\
lX a λa _=>lM 2 b c λe=>lA e a λa=>lC 2 b λb=>St 1 c b a λa=>rt d (.tuple #[]) a
theorem GZ:qB L274 274:=λh=>sd (zB (zF 0 (yR 14) [])) func274 h
def L275:Y1:=λa b c d=>CR d a 281 #[b] c λb c=>CR d a 282 #[b] c λ_ a=>rt d b a
theorem GY:qB L275 275:=λh=>sd .e func275 h
def L276:Y1:=λ_ a b c=>lK b a 105 λa b=>c (.returned (.func (.func 283) #[] #[(pt a)])) b
theorem GX:qB L276 276:=λh=>sd .e func276 h
def L277:Y4:=λa b c d e f g=>Ld f c λh=>oG h (iv 6) λh=>Br h (Ld f c λh=>lS h (iv 6) λh=>oL i1 h λh=>ae .num .andNot b h λh=>jB (λi j=>ai 1 e λk=>Ld j k λk=>lI 1 k i j λi=>rt g i j) λi=>Ld f d λj=>Br j (Ld f c λj=>lS j (iv 6) λj=>oL i1 j λj=>oO h j λj=>JE i [j] f) (JE i [h] f)) (DR f λh=>Ld h c λi=>Ld h c λc=>oL i1 c λc=>CN a 237 #[i,i0] f λa f=>aM f h/\
Ld f d λd=>Br d (ai 1 e λd=>Ld f d λd=>lI 1 d b f λd=>oA d a λd=>oR d c λh=>oO d h λd=>rt g d f) (ai 1 e λd=>Ld f d λd=>lI 1 d b f λb=>ae .num .andNot b a λa=>oL a c λb=>oO a b λa=>rt g a f))
theorem GW:qE L277 277:=λh=>sd (zA (.n (zA (zB (zA (zF 1 [6] [3])))) (zB (zF 0 [0,2,3,1,4,5] [])))) func277 h
def L278:Y2:=λa b c d e=>lK d c 175 λc d=>DR d λf=>az 2 f (pt c) λg=>az 2 f (pt c) λc=>CN a 280 #[g] d λa d=>aM d f/\
aW (.string) d b a c λa=>rt e (.tuple #[]) a
theorem GV:qC L278 278:=λh=>sd (zA (zF 0 [0,1,3,2,4] [])) func278 h
def L279:Y3:=λa b c d e f=>lK e b 175 λb e=>lW e #[i0,sZ] 175 λe g=>az 2 g (pt b) λh=>CR f a 284 #[h,c] g λg h=>lN g i0 λi=>Br i (Build zQ 175 [] λi=>St 2 h (pt e) i λi=>az 2 i (pt e) λj=>rt f (tP j g) i) (az 2 h (pt b) λb=>CR f a 271 #[b,c,d] h λa b=>St 2 b (pt e) a λa=>az 2 a (pt e) λb=>rt f (tP b i0) a)
theorem GU:qD L279 279:=λh=>sd .e func279 h
def L280:Y1:=λ_ a b c=>lK b a 175 λa b=>lD 1 (pt a) b λa=>aR a λd=>yB [sZ,i0] b λb e f g h=>lL g d λd=>Br d (lI 1 a g h λa=>yB [f,i0] h λd i j k l=>lL k (iv 8) λm=>Br m (oM (iv 8) k λm=>oR a m λa=>br .u8 a λa=>ax zQ 357 1 [(0,a)] l λa m=>App zQ 5 1 1 (bi 0) m j a λa m=>lA k i1 λn=>aC d i [a,n] m [j,k] l) (lA g i1 λa=>aC b e [j,a] l [f,g] h)) (k6 h f λa=>rt c a h)
theorem GS:qB L280 280:=λh=>sd (zA (zA (zB (zA (zB (zE 0 [3,10] [8,9] (zA (zA (zB (zB (zA (zA (zB (zF 0 [3,14] [5,8,9,10])))))))))))))) func280 h
def L281:Y1:=λa b c d=>CR d a 285 #[sZ,b] c λa b=>rt d a b
theorem GR:qB L281 281:=λh=>sd .e func281 h
def L282:Y1:=λa b c d=>aR b λe=>br .u64 e λf=>CR d a 97 #[f] c λc f=>CR d a 286 #[b,i0,e,c] f λ_ a=>rt d (.tuple #[]) a
theorem GQ:qB L282 282:=λh=>sd .e func282 h
def L284:Y2:=λa b c d e=>lK d b 175 λb d=>az 2 d (pt b) λf=>ax zQ 171 1 [(0,f)] d λd f=>CR e a 238 #[d] f λa d=>Un .not a λa=>Br a (rt e (iv 5) d) (lL c i0 λa=>lO a (λa=>lD 0 (pt b) d λb=>oG c b λb=>(lV d b a)) λa=>Br (Value.bool a) (rt e (iv 2) d) (rt e i0 d))
theorem GP:qC L284 284:=λh=>sd (zA (zB (zB (zA (zA (zB (zF 0 [] [1]))))))) func284 h
end Go.Proofs
namespace Go.Sx
open Go
section
variable {P:Program} {g:Gh} {H:Hp}
theorem aI{f:FuncId}{args:Array zV}{C:Hp}{Q:zV->Hp->Prop}(h:∀g,bC P g f args C (aN Q)):Fc P f args C Q:=h
theorem Ld.q{b off:Nat}{c:Array zV}{T:TypeId}{fz:Nat×Nat}{v:zV}{k:zV->Prop}(h:k v)(hm:(b,Obj.cells c T fz)∈H:=by repeat (first|exact List.Mem.head _|apply List.Mem.tail|apply xac))(hc:c[off]? =some v:=by rfl):Ld H (.pointer (some ⟨b,off,none⟩)) k:=.mk hm hc h
theorem Ld.f{b o off:Nat}{c:Array zV}{T:TypeId}{fz:Nat×Nat}{v:zV}{k:zV->Prop}(h:k v)(hm:(b,Obj.cells c T fz)∈H:=by repeat (first|exact List.Mem.head _|apply List.Mem.tail|apply xac))(hc:c[o+off]? =some v:=by rfl):ai off (.pointer (some ⟨b,o,none⟩)) λp=>Ld H p k:=.mk (.mk hm hc h)
theorem Ld.n{b o off:Nat}{c:Array zV}{T:TypeId}{fz:Nat×Nat}{v:zV}{k:zV->Prop}(h:k v)(hm:(b,Obj.cells c T fz)∈H:=by repeat (first|exact List.Mem.head _|apply List.Mem.tail|apply xac))(hc:c[o+off]? =some v:=by rfl):Nil (.pointer (some ⟨b,o,none⟩)) λq=>ai off q λp=>Ld H p k:=.ptr (.mk (.mk hm hc h))
theorem Ld.u{b o off:Nat}{c:Array zV}{T:TypeId}{fz:Nat×Nat}{v:zV}{k:zV->Prop}(hm:(b,Obj.cells c T fz)∈H)(h:k v)(hc:c[o+off]? =some v:=by rfl):ai off (.pointer (some ⟨b,o,none⟩)) λp=>Ld H p k:=.mk (.mk hm hc h)
theorem Ld.v{b o off:Nat}{c:Array zV}{T:TypeId}{fz:Nat×Nat}{v:zV}{k:zV->Prop}(hm:(b,Obj.cells c T fz)∈H)(h:k v)(hc:c[o+off]? =some v:=by rfl):Nil (.pointer (some ⟨b,o,none⟩)) λq=>ai off q λp=>Ld H p k:=.ptr (.mk (.mk hm hc h))
theorem az.q{b n:Nat}{r:List zV}{T:TypeId}{fz:Nat×Nat}{K:zV->Prop}(h:K (.agg r.toArray))(hm:(b,Obj.cells r.toArray T fz)∈H:=by repeat (first|exact List.Mem.head _|apply List.Mem.tail|apply xac))(hr:r.length=n:=by rfl):az n H (.pointer (some ⟨b,0,none⟩)) K:=.whole hm hr h
theorem St.q{b n:Nat}{c:Array zV}{T:TypeId}{r:List zV}{H':Hp}{K:Hp->Prop}(h:K H')(hu:c8 b (.cells c T zZ) (.cells r.toArray T zZ) H H':=by repeat (first|exact c8.head _|apply c8.tail|apply c8.cr))(hs:c.size=n:=by rfl)(hr:r.length=n:=by rfl)(h1:∀v∈r,v.oneCell'=true:=by simp[Value.oneCell']):
  St n H (.pointer (some ⟨b,0,none⟩)) (.agg r.toArray) K:=.whole hu hs hr h1 h
theorem St.p{b n:Nat}{c:Array zV}{T:TypeId}{r:List zV}{H':Hp}{K:Hp->Prop}(h1:∀v∈r,v.oneCell'=true)(h:K H')(hu:c8 b (.cells c T zZ) (.cells r.toArray T zZ) H H':=by repeat (first|exact c8.head _|apply c8.tail|apply c8.cr))(hs:c.size=n:=by rfl)(hr:r.length=n:=by rfl):
  St n H (.pointer (some ⟨b,0,none⟩)) (.agg r.toArray) K:=.whole hu hs hr h1 h
section
variable {kd x8:IntKind} {a b:Nat} {k:zV->Prop}
theorem ae.fI(h:k (.int kd ((a+b:Nat):Int)))(hr:a+b<bG kd:=by first|(simp[bG];omega)|(simp only[bG];omega)|simp[bG]):ae .num .add (.int kd a) (.int kd b) k:=.Xo hr h
theorem ae.inc(h:k (.int kd ((a+1:Nat):Int)))(hr:a+1<bG kd:=by first|(simp[bG];omega)|(simp only[bG];omega)|simp[bG]):ae .num .add (.int kd a) (.int kd 1) k:=.Xo hr h
theorem ae.ca(h:k (.int kd ((a-b:Nat):Int)))(ha:a<bG kd:=by first|(simp[bG];omega)|(simp only[bG];omega)|simp[bG])(hb:b<=a:=by omega):ae .num .sub (.int kd a) (.int kd b) k:=.xW ha hb h
theorem ae.x7(h:k (.int kd ((a*b:Nat):Int)))(hr:a*b<bG kd:=by first|(simp[bG];omega)|(simp only[bG];omega)|simp[bG]):ae .num .mul (.int kd a) (.int kd b) k:=.afN hr h
theorem br.q(h:k (.int kd (a:Int)))(ha:a<bG kd:=by first|(simp[bG];omega)|(simp only[bG];omega)|simp[bG]):br kd (.int x8 a) k:=.nat ha h
end
theorem Br.T{p:Prop}[Decidable p]{t f:Prop}(h:t)(hp:p:=by first|omega|decide|simp):Br (.bool (decide p)) t f:=.ad8 hp h
theorem Br.F{p:Prop}[Decidable p]{t f:Prop}(h:f)(hp:¬p:=by first|omega|decide|simp):Br (.bool (decide p)) t f:=.S8 hp h
theorem aa.fq{f:FuncId}{args:Array zV}{C H:Hp}{c:Hp->Hp}{Q:zV->Hp->Prop}{K:zV->Hp->Prop}{KP:List PanicEntry->Hp->Prop}(hc:Fc P f args C Q)
 (hk:∀v C',Q v C'->K v (c C'))(hh:bH C H c:=by repeat (first|exact bH.here|exact bH.left|apply bH.cons|apply bH.app)):aa P g f args H K KP:=.fn hh hc hk
theorem aa.rq{f:FuncId}{args:Array zV}{B H:Hp}{c:Hp->Hp}{Q:zV->Prop}{K:zV->Hp->Prop}{KP:List PanicEntry->Hp->Prop}(hc:Rd P f args B Q)
 (hk:∀v,Q v->K v H)(hh:bH B H c:=by repeat (first|exact bH.here|exact bH.left|apply bH.cons|apply bH.app)):aa P g f args H K KP:=.rd hh hc hk
theorem aa.eq{f:FuncId}{args:Array zV}{B H:Hp}{c:Hp->Hp}{v:zV}{K:zV->Hp->Prop}{KP:List PanicEntry->Hp->Prop}(hc:Rd P f args B (· =v))
 (hk:K v H)(hh:bH B H c:=by repeat (first|exact bH.here|exact bH.left|apply bH.cons|apply bH.app)):aa P g f args H K KP:=.rd hh hc λ_ h=>by subst h;exact hk
theorem aa.eh{f:FuncId}{args:Array zV}{B H:Hp}{c:Hp->Hp}{v:zV}{K:zV->Hp->Prop}{KP:List PanicEntry->Hp->Prop}(hh:bH B H c)(hc:Rd P f args B (· =v))
 (hk:K v H):aa P g f args H K KP:=.rd hh hc λ_ h=>by subst h;exact hk
theorem aa.pq{f:FuncId}{args:Array zV}{B H:Hp}{c:Hp->Hp}{Q:zV->Hp->Prop}{K:zV->Hp->Prop}{KP:List PanicEntry->Hp->Prop}(hc:Px P f args B Q)
 (hk:∀v N,Q v (N++B)->K v (c (N++B)))(hh:bH B H c:=by repeat (first|exact bH.here|exact bH.left|apply bH.cons|apply bH.app)):aa P g f args H K KP:=.px hh hc hk
theorem Ext.two{x y:zV}{k:zV->zV->Prop}(h:k x y):Ext 0 (.tuple #[x,y]) λa=>Ext 1 (.tuple #[x,y]) λb=>k a b:=.mk rfl (.mk rfl h)
end
end Go.Sx
set_option maxRecDepth 100000
namespace Go.Proofs
open Go Go.Sx Tryz
section
theorem wX{B:Hp}{s:zV}{n:Int}{K:zV->Hp->Prop}(h:∀b,K (.slice (some ⟨b,0,none⟩) 1 1) ((b,.cells #[iv n,s] 175 zZ)::B)):
  ax zQ 171 1 [(0,.agg #[iv n,s])] B K:=
 ax.one (r:=[iv n,s]) (e:=175) (k:=2) (z:=.agg #[iv 0,.slice none 0 0]) zK zK zK zD rfl h
theorem Fl{G:Nat->Nat}{W:Nat}:((List.range W).map λk=>if k<W then G k else 0)=(List.range W).map G:=by
 apply xbh;intro k hk;rw[xad (xaM.1 hk)]
theorem uM{n:Nat}{ws:zL}(h:ak.eV n ws):ws.length<=4294967296:=by have:=h.len;have:=ak.yC h.x6;omega
theorem bQ{B:Hp}{s:zV}{ws:zL}(h:Words B s ws):s.oneCell'=true:=by obtain⟨a,c,rfl,_⟩:=h.1.shape;rfl
theorem My{G:Nat->Nat}{W i:Nat}(hi:i<W):(iw ((List.range W).map λk=>if k<i then G k else 0)).set i ((G i:Nat):Int)=iw ((List.range W).map λk=>if k<i+1 then G k else 0):=by
 apply xbd;intro j;unfold iw;by_cases e:i=j
 ·subst e;simp[hi]
 rw[xbK e];by_cases hj:j<W
 ·simp only[xat,xdB hj,xch];by_cases h2:j<i
  ·rw[xad h2,xad zO]
  rw[xab h2,xab zO]
 rw[xaC zP,xaC zP]
theorem range_zero{G:Nat->Nat}{W:Nat}:List.replicate W (0:Int)=iw ((List.range W).map λk=>if k<0 then G k else 0):=by
 apply xbd;intro j;unfold iw;by_cases hj:j<W
 ·simp[hj]
 rw[xaC zP,xaC zP]
theorem kX{n:Nat}(hn:n<=16):ak.wN n<=9223372036854775807/\ak.wN n*8<=281474976710656:=by have:=ak.yC hn;omega
end
section
def fk(l:List Bool):Array zV:=(l.map Value.bool).toArray
theorem GB(l:List Bool)(i:Nat)(b:Bool):(fk l).setIfInBounds i (.bool b)=fk (l.set i b):=by simp[fk,xcQ]
theorem FE(n:Nat):madeCells (Value.cells (.bool false)) (n*1)=fk (List.replicate n false):=by
 apply Array.ext
 ·simp[madeCells,fk]
 intro i h1 h2;simp[madeCells,fk,Value.cells,Nat.mod_one]
def Eu(B:Hp)(v:zV)(l:List Bool):Prop:=Sl 1 B v (l.map λb=>[Value.bool b])
theorem Eu.block{B:Hp}{b cap:Nat}{l:List Bool}{T:TypeId}{fz:Nat×Nat}(hm:(b,Obj.cells (fk l) T fz)∈B)(hc:l.length<=cap):Eu B (.slice (some ⟨b,0,none⟩) l.length cap) l:=by
 refine⟨λr hr=>by obtain⟨b,_,rfl⟩:=xan.1 hr;rfl,.inr ⟨b,0,cap,_,T,fz,by simp,by simpa using hc,hm,by simp[fk],λi r hi j v hj=>?_⟩⟩;rw[xat]at hi;cases hl:l[i]? with
 |none=>rw[hl]at hi;simp at hi
 |some n=>
  rw[hl]at hi;simp only[xch,xar]at hi;subst hi;cases j with
  |zero=>
   simp only[xcM,xar]at hj;subst hj;simp[fk,hl]
  |succ j=>simp at hj
theorem Eu.ld{kd:IntKind}{B H:Hp}{v:zV}{l:List Bool}(h:Eu B v l){i:Nat}{b:Bool}(hi:l[i]? =some b)(hs:∀x∈B,x∈H){K:zV->Prop}(hk:K (.bool b)):av 1 v (.int kd (i:Int)) (λp=>Ld H p K):=
 av.sl h (by rw[xat,hi];rfl) λp hp=>Ld.at hp hs hk
theorem cU.Tq{H:Hp}{T:TypeId}{kl:IntKind}{n:Nat}{K:zV->Hp->Prop}(cI:n<=281474976710656)
 (h:∀b,K (.slice (some ⟨b,0,none⟩) n n) ((b,.cells (fk (List.replicate n false)) T zZ)::H)):cU T 1 1 (.bool false) H (.int kl n) (.int kl n) K:=
 ⟨kl,kl,n,n,rfl,rfl,xaj _,by omega,by omega,λb _=>by rw[FE];exact h b⟩
theorem St.Tq{H:Hp}{b i:Nat}{l:List Bool}{x:Bool}{T:TypeId}{H':Hp}{K:Hp->Prop}(hu:c8 b (.cells (fk l) T zZ) (.cells (fk (l.set i x)) T zZ) H H')(hi:i<l.length)(h:K H'):
  St 1 H (.pointer (some ⟨b,0+i*1,none⟩)) (.bool x) K:=
 St.one (c:=fk l) (c':=fk (l.set i x)) hu rfl (by simpa[fk]using hi) (by rw[xa5,xb4];exact GB l i x) h
def Ma(n:Nat)(L:List (zL)):List Tb:=L.map λws=>⟨n,ws⟩
theorem p7(n:Nat)(L:List (zL)):(Ma n L).length=L.length:=by simp[Ma]
end
end Go.Proofs
namespace au
open ak
theorem di{x u v:Nat}{b c:Bool}(h:u≠v):aB (aB x u b) v c=aB (aB x v c) u b:=by
 apply xaV;intro k;rw[aj,aj,aj,aj];by_cases e1:k=u<;>by_cases e2:k=v
 ·exact absurd (e1.symm.trans e2) h
 ·simp[e1,h]
 ·simp[e2,xa9 h]
 simp[e1,e2]
structure Nd where
 v:Nat
 lo:Nat
 hi:Nat
deriving DecidableEq
abbrev eE:=Nat->Option Nd
abbrev Fn:=Nat->Bool
def live(N:eE)(r:Nat):Prop:=r<2\/∃d,N r=some d
def dep(n:Nat)(ah:Nat->Nat)(N:eE)(r:Nat):Nat:=match N r with|some d=>ah d.v|none=>n
structure WF(n:Nat)(ah:Nat->Nat)(N:eE):Prop where
 two:∀{r d},N r=some d->2<=r
 var:∀{r d},N r=some d->d.v<n
 ne:∀{r d},N r=some d->d.lo≠d.hi
 lo:∀{r d},N r=some d->live N d.lo/\ah d.v<dep n ah N d.lo
 hi:∀{r d},N r=some d->live N d.hi/\ah d.v<dep n ah N d.hi
 uq:∀{r r' d},N r=some d->N r'=some d->r=r'
structure jI(n:Nat)(ah:Nat->Nat):Prop where
 lt:∀v,v<n->ah v<n
 inj:∀u v,u<n->v<n->ah u=ah v->u=v
structure Interp(N:eE)(S:Nat->Fn):Prop where
 zero:∀x,S 0 x=false
 one:∀x,S 1 x=true
 node:∀{r d},N r=some d->∀x,S r x=if x.testBit d.v then S d.hi x else S d.lo x
variable {n:Nat} {ah:Nat->Nat} {N:eE} {S:Nat->Fn}
theorem aT{r:Nat}(h:N r=none):dep n ah N r=n:=by unfold dep;rw[h]
theorem an{r:Nat}{d:Nd}(h:N r=some d):dep n ah N r=ah d.v:=by unfold dep;rw[h]
theorem WF.iD(h:WF n ah N)(hl:jI n ah)(r:Nat):dep n ah N r<=n:=by
 cases e:N r with
 |none=>rw[aT e];exact xaj _
 |some d=>rw[an e];exact xb7 (hl.lt _ (h.var e))
theorem WF.const(h:WF n ah N){r:Nat}(hr:r<2):N r=none:=by
 cases e:N r with
 |none=>rfl
 |some d=>have:=h.two e;omega
theorem WF.indep(h:WF n ah N)(hl:jI n ah)(hi:Interp N S):∀(k r:Nat),n-dep n ah N r<=k->live N r->∀v,v<n->ah v<dep n ah N r->∀x b,S r (aB x v b)=S r x:=by
 intro k;induction k with
 |zero=>
  intro r hk hr v hv hlt x b;rcases hr with hr|⟨d,hd⟩
  ·have:r=0\/r=1:=by omega
   rcases this with rfl|rfl
   ·rw[hi.zero,hi.zero]
   rw[hi.one,hi.one]
  have h1:=hl.lt _ (h.var hd);rw[an hd]at hk;omega
 |succ k ih=>
  intro r hk hr v hv hlt x b;rcases hr with hr|⟨d,hd⟩
  ·have:r=0\/r=1:=by omega
   rcases this with rfl|rfl
   ·rw[hi.zero,hi.zero]
   rw[hi.one,hi.one]
  rw[an hd]at hk hlt;have h1:=hl.lt _ (h.var hd);obtain⟨l1,l2⟩:=h.lo hd;obtain⟨m1,m2⟩:=h.hi hd;have hne:d.v≠v:=λe=>by rw[e]at hlt;omega
  rw[hi.node hd,hi.node hd,aj,xab hne,ih d.lo zO l1 v hv zO,ih d.hi zO m1 v hv zO]
theorem WF.bJ(h:WF n ah N)(hl:jI n ah)(hi:Interp N S){r:Nat}(hr:live N r){v:Nat}(hv:v<n)(hlt:ah v<dep n ah N r)(x:Nat)(b:Bool):S r (aB x v b)=S r x:=
 h.indep hl hi _ r (xaj _) hr v hv hlt x b
theorem WF.child(h:WF n ah N)(hl:jI n ah)(hi:Interp N S){r:Nat}{d:Nd}(hd:N r=some d)(x:Nat)(b:Bool):S r (aB x d.v b)=S (if b then d.hi else d.lo) x:=by
 obtain⟨l1,l2⟩:=h.lo hd;obtain⟨m1,m2⟩:=h.hi hd;rw[hi.node hd,aj,xad rfl];cases b
 ·simp only[xaO,xa2];exact h.bJ hl hi l1 (h.var hd) l2 x false
 simp only[xa7];exact h.bJ hl hi m1 (h.var hd) m2 x true
theorem WF.canon(h:WF n ah N)(hl:jI n ah)(hi:Interp N S):∀(k r r':Nat),(n-dep n ah N r)+(n-dep n ah N r')<=k->live N r->live N r'->(∀x,S r x=S r' x)->r=r':=by
 intro k;induction k with
 |zero=>
  intro r r' hk hr hr' he;have hc:∀{r},n-dep n ah N r=0->live N r->r<2:=by
   intro r hk hr;rcases hr with hr|⟨d,hd⟩
   ·exact hr
   have h1:=hl.lt _ (h.var hd);rw[an hd]at hk;omega
  have h1:=hc zO hr;have h2:=hc zO hr';have e0:=he 0;have:r=0\/r=1:=by omega
  have h3:r'=0\/r'=1:=by omega
  rcases this with rfl|rfl<;>rcases h3 with rfl|rfl<;>simp[hi.zero,hi.one]at e0<;>rfl
 |succ k ih=>
  have TS:∀r r',(n-dep n ah N r)+(n-dep n ah N r')<=k+1->live N r'->(∀x,S r x=S r' x)->∀d,N r=some d->ah d.v<dep n ah N r'->False:=by
   intro r r' hk hr' he d hd hlt;obtain⟨l1,l2⟩:=h.lo hd;obtain⟨m1,m2⟩:=h.hi hd;have hv:=h.var hd;have h1:=hl.lt _ hv;have d1:=h.iD hl d.lo;have d2:=h.iD hl d.hi;have d3:=h.iD hl r';rw[an hd]at hk;have a1:d.lo=r':=ih d.lo r' zO l1 hr' λx=>by
    have:=h.child hl hi hd x false;simp only[xaO,xa2]at this;rw[<-this,he,h.bJ hl hi hr' hv hlt]
   have a2:d.hi=r':=ih d.hi r' zO m1 hr' λx=>by
    have:=h.child hl hi hd x true;simp only[xa7]at this;rw[<-this,he,h.bJ hl hi hr' hv hlt]
   exact h.ne hd (a1.trans a2.symm)
  intro r r' hk hr hr' he;rcases hr with hr|⟨d,hd⟩
  ·rcases hr' with hr'|⟨d',dP⟩
   ·have e0:=he 0;have:r=0\/r=1:=by omega
    have h3:r'=0\/r'=1:=by omega
    rcases this with rfl|rfl<;>rcases h3 with rfl|rfl<;>simp[hi.zero,hi.one]at e0<;>rfl
   refine(TS r' r zO (.inl hr) (λx=>(he x).symm) d' dP ?_).elim;rw[aT (h.const hr)];exact hl.lt _ (h.var dP)
  rcases xcJ (ah d.v) (dep n ah N r')with hlt|heq|hgt
  ·exact(TS r r' hk hr' he d hd hlt).elim
  ·rcases hr' with hr'|⟨d',dP⟩
   ·rw[aT (h.const hr')]at heq;have:=hl.lt _ (h.var hd);omega
   rw[an dP]at heq;have hv:=hl.inj _ _ (h.var hd) (h.var dP) heq;obtain⟨l1,l2⟩:=h.lo hd;obtain⟨m1,m2⟩:=h.hi hd;obtain⟨Zr,l2'⟩:=h.lo dP;obtain⟨m1',m2'⟩:=h.hi dP;have h1:=hl.lt _ (h.var hd);have d1:=h.iD hl d.lo;have d2:=h.iD hl d.hi;have d1':=h.iD hl d'.lo;have d2':=h.iD hl d'.hi;rw[an hd,an dP]at hk;have c1:=λx=>h.child hl hi hd x false;have c2:=λx=>h.child hl hi hd x true;have c1':=λx=>h.child hl hi dP x false;have c2':=λx=>h.child hl hi dP x true;simp only[xaO,xa2,xa7]at c1 c2 c1' c2';have a1:d.lo=d'.lo:=ih d.lo d'.lo zO l1 Zr λx=>by rw[<-c1,<-c1',he,hv]
   have a2:d.hi=d'.hi:=ih d.hi d'.hi zO m1 m1' λx=>by rw[<-c2,<-c2',he,hv]
   have:d=d':=by cases d;cases d';simp_all
   subst this;exact h.uq hd dP
  rcases hr' with hr'|⟨d',dP⟩
  ·rw[aT (h.const hr')]at hgt;have:=hl.lt _ (h.var hd);omega
  rw[an dP]at hgt;refine(TS r' r zO (.inr ⟨d,hd⟩) (λx=>(he x).symm) d' dP ?_).elim;rw[an hd];exact hgt
theorem WF.same(h:WF n ah N)(hl:jI n ah)(hi:Interp N S){r r':Nat}(hr:live N r)(hr':live N r')(he:∀x,S r x=S r' x):r=r':=h.canon hl hi _ r r' (xaj _) hr hr' he
end au
namespace au
open ak
variable {n:Nat} {ah:Nat->Nat} {N:eE} {S:Nat->Fn} {ord:zL}
def bU(g:Fn)(v:Nat):Prop:=∃x,g (aB x v false)≠g (aB x v true)
def fs(ord:zL)(F:Fn->Prop):Nat->Fn->Prop
 |0,g=>F g
 |l+1,g=>∃f,fs ord F l f/\∃b,g=λx=>f (aB x (ord.getD l 0) b)
def aD(n:Nat)(ord:zL)(F:Fn->Prop)(g:Fn):Prop:=∃l,l<n/\fs ord F l g/\bU g (ord.getD l 0)
structure Ord(n:Nat)(ah:Nat->Nat)(ord:zL):Prop where
 len:ord.length=n
 aZ:∀l,l<n->ord.getD l 0<n/\ah (ord.getD l 0)=l
theorem Ord.of(h:Ord n ah ord)(hl:jI n ah){v:Nat}(hv:v<n):ord.getD (ah v) 0=v:=by
 obtain⟨h1,h2⟩:=h.aZ _ (hl.lt v hv);exact hl.inj _ _ h1 hv h2
def Fs(S:Nat->Fn)(R:Nat->Prop)(g:Fn):Prop:=∃r,R r/\g=S r
def A(N:eE)(ah:Nat->Nat)(n:Nat)(R:Nat->Prop):Nat->Nat->Prop
 |0,r=>R r
 |l+1,r=>(A N ah n R l r/\dep n ah N r≠l)\/∃p d,A N ah n R l p/\N p=some d/\ah d.v=l/\(r=d.lo\/r=d.hi)
variable {R:Nat->Prop}
theorem qL(h:WF n ah N)(hR:∀r,R r->live N r):∀l r,A N ah n R l r->live N r/\l<=dep n ah N r
 |0,r,ha=>⟨hR r ha,xaN _⟩
 |l+1,r,ha=>by
  rcases ha with⟨h1,h2⟩|⟨p,d,h1,h2,h3,h4⟩
  ·have:=qL h hR l r h1;exact⟨this.1,by omega⟩
  rcases h4 with rfl|rfl
  ·have:=h.lo h2;exact⟨this.1,by omega⟩
  have:=h.hi h2;exact⟨this.1,by omega⟩
theorem tj{r:Nat}:∀k l,A N ah n R l r->l+k<=dep n ah N r->A N ah n R (l+k) r
 |0,l,ha,_=>ha
 |k+1,l,ha,hk=>by
  have h1:=tj k l ha zO;have h2:dep n ah N r≠l+k:=by omega
  exact .inl ⟨h1,h2⟩
def Reach(N:eE)(R:Nat->Prop):Prop:=∀r d,N r=some d->R r\/∃p e,N p=some e/\(e.lo=r\/e.hi=r)
theorem Uc(h:WF n ah N)(hr:Reach N R):∀k r d,N r=some d->ah d.v<=k->A N ah n R (ah d.v) r:=by
 intro k;induction k with
 |zero=>
  intro r d hd hk;rcases hr r d hd with h1|⟨p,e,h1,h2⟩
  ·rw[show ah d.v=0 by omega];exact h1
  have:=h.lo h1;have h3:=h.hi h1;rcases h2 with rfl|rfl
  ·rw[an hd]at this;omega
  rw[an hd]at h3;omega
 |succ k ih=>
  intro r d hd hk;rcases hr r d hd with h1|⟨p,e,h1,h2⟩
  ·have:=tj (N:=N) (ah:=ah) (n:=n) (R:=R) (r:=r) (ah d.v) 0 h1 (by rw[an hd];omega);rwa [xa5]at this
  have hlt:ah e.v<ah d.v:=by
   have:=h.lo h1;have h3:=h.hi h1;rcases h2 with rfl|rfl
   ·rw[an hd]at this;omega
   rw[an hd]at h3;omega
  have ha:=ih p e h1 zO;have hb:A N ah n R (ah e.v+1) r:=.inr ⟨p,e,ha,h1,rfl,by rcases h2 with rfl|rfl;exact .inl rfl;exact .inr rfl⟩;have:=tj (ah d.v-(ah e.v+1)) _ hb (by rw[an hd];omega);rwa [show ah e.v+1+(ah d.v-(ah e.v+1))=ah d.v by omega]at this
theorem DN(h:WF n ah N)(hl:jI n ah)(ho:Ord n ah ord)(hi:Interp N S)(hR:∀r,R r->live N r):∀l,l<=n->∀g,fs ord (Fs S R) l g↔∃r,A N ah n R l r/\g=S r
 |0,_,g=>xcT
 |l+1,zn,g=>by
  obtain⟨v1,v2⟩:=ho.aZ l zn;have ih:=DN h hl ho hi hR l zO;constructor
  ·rintro⟨f,hf,b,rfl⟩;obtain⟨r,ha,rfl⟩:=(ih f).1 hf;obtain⟨hlv,hle⟩:=qL h hR l r ha;by_cases e:dep n ah N r=l
   ·rcases hlv with hc|⟨d,hd⟩
    ·rw[aT (h.const hc)]at e;omega
    rw[an hd]at e;have hv:d.v=ord.getD l 0:=hl.inj _ _ (h.var hd) v1 zO;refine⟨if b then d.hi else d.lo,.inr ⟨r,d,ha,hd,e,by cases b<;>simp⟩,?_⟩
    funext x
    rw[<-hv];exact h.child hl hi hd x b
   refine⟨r,.inl ⟨ha,e⟩,?_⟩
   funext x
   exact h.bJ hl hi hlv v1 zO x b
  rintro⟨r,ha,rfl⟩;rcases ha with⟨h1,h2⟩|⟨p,d,h1,h2,h3,h4⟩
  ·obtain⟨hlv,hle⟩:=qL h hR l r h1;refine⟨S r,(ih _).2 ⟨r,h1,rfl⟩,false,?_⟩
   funext x
   exact(h.bJ hl hi hlv v1 zO x false).symm
  have hv:d.v=ord.getD l 0:=hl.inj _ _ (h.var h2) v1 zO;rcases h4 with rfl|rfl
  ·refine⟨S p,(ih _).2 ⟨p,h1,rfl⟩,false,?_⟩
   funext x
   rw[<-hv];exact(h.child hl hi h2 x false).symm
  refine⟨S p,(ih _).2 ⟨p,h1,rfl⟩,true,?_⟩
  funext x
  rw[<-hv];exact(h.child hl hi h2 x true).symm
theorem nW(h:WF n ah N)(hl:jI n ah)(ho:Ord n ah ord)(hi:Interp N S)(hR:∀r,R r->live N r)(hr:Reach N R)(g:Fn):aD n ord (Fs S R) g↔∃r d,N r=some d/\g=S r:=by
 constructor
 ·rintro⟨l,zn,hf,x,hx⟩;obtain⟨v1,v2⟩:=ho.aZ l zn;obtain⟨r,ha,rfl⟩:=(DN h hl ho hi hR l zO g).1 hf;obtain⟨hlv,hle⟩:=qL h hR l r ha;by_cases e:dep n ah N r=l
  ·rcases hlv with hc|⟨d,hd⟩
   ·rw[aT (h.const hc)]at e;omega
   exact⟨r,d,hd,rfl⟩
  exact absurd (by rw[h.bJ hl hi hlv v1 zO,h.bJ hl hi hlv v1 zO]) hx
 rintro⟨r,d,hd,rfl⟩;have hv:=h.var hd;have hlt:=hl.lt _ hv;refine⟨ah d.v,hlt,(DN h hl ho hi hR _ zO _).2 ⟨r,Uc h hr _ r d hd (xaj _),rfl⟩,?_⟩;rw[ho.of hl hv];refine xaD λhno=>h.ne hd (h.same hl hi (h.lo hd).1 (h.hi hd).1 λx=>?_);have c1:=h.child hl hi hd x false;have c2:=h.child hl hi hd x true;simp only[xaO,xa2,xa7]at c1 c2;rw[<-c1,<-c2];exact xaD λhne=>hno ⟨x,hne⟩
def nw(P:Fn->Prop)(k:Nat):Prop:=∃l:List Fn,l.Nodup/\l.length=k/\∀g,P g↔g∈l
theorem nw.congr{P Q:Fn->Prop}{k:Nat}(h:nw P k)(e:∀g,P g↔Q g):nw Q k:=let ⟨l,h1,h2,h3⟩:=h;⟨l,h1,h2,λg=>(e g).symm.trans (h3 g)⟩
theorem cu{α:Type}:∀{l l':List α},l.Nodup->(∀x∈l,x∈l')->l.length<=l'.length
 | [],l',_,_=>xaN _
 |x::l,l',hn,hs=>by
  obtain⟨h1,h2⟩:=xaW.1 hn;obtain⟨a,b,rfl⟩:=xdd (hs x zI);have:=cu (l':=a++b) h2 λy hy=>by
   have:=hs y (by simp[hy]);rcases xao.1 this with h|h
   ·exact xae _ h
   rcases xak.1 h with rfl|h
   ·exact absurd hy h1
   exact xac _ h
  simp at this⊢;omega
theorem nw.le{P Q:Fn->Prop}{k k':Nat}(h:nw P k)(h':nw Q k')(e:∀g,P g->Q g):k<=k':=by
 obtain⟨l,h1,h2,h3⟩:=h;obtain⟨l',qy,nL,zx⟩:=h';rw[<-h2,<-nL];exact cu h1 λx hx=>(zx x).1 (e x ((h3 x).2 hx))
theorem nw.uniq{P:Fn->Prop}{k k':Nat}(h:nw P k)(h':nw P k'):k=k':=xey (h.le h' λ_=>id) (h'.le h λ_=>id)
theorem nw.none:nw (λ_=>False) 0:=⟨[],by simp,rfl,by simp⟩
theorem nw.or{P Q:Fn->Prop}{k k':Nat}(h:nw P k)(h':nw Q k')(e:∀g,P g->¬Q g):nw (λg=>P g\/Q g) (k+k'):=by
 obtain⟨l,h1,h2,h3⟩:=h;obtain⟨l',qy,nL,zx⟩:=h';refine⟨l++l',xa3.2 ⟨h1,qy,λa ha b hb e'=>?_⟩,by rw[xaf,h2,nL],λg=>by rw[xao,<-h3,<-zx]⟩;subst e';exact e a ((h3 a).2 ha) ((zx a).2 hb)
theorem z9(h:WF n ah N)(hl:jI n ah)(hi:Interp N S){dom:zL}(hd:dom.Nodup)(hm:∀r,r∈dom↔∃d,N r=some d):nw (λg=>∃r d,N r=some d/\g=S r) dom.length:=by
 refine⟨dom.map S,?_,by simp,λg=>?_⟩
 ·refine xbJ.2 (hd.imp_of_mem λ{a b} ha hb hne heq=>hne ?_);exact h.same hl hi (.inr ((hm a).1 ha)) (.inr ((hm b).1 hb)) λx=>by rw[heq]
 rw[xan];constructor
 ·rintro⟨r,d,h1,rfl⟩;exact⟨r,(hm r).2 ⟨d,h1⟩,rfl⟩
 rintro⟨r,h1,rfl⟩;obtain⟨d,h2⟩:=(hm r).1 h1;exact⟨r,d,h2,rfl⟩
end au
namespace au
open ak
def up{α:Type}(N:Nat->α)(r:Nat)(o:α):Nat->α:=λs=>if s=r then o else N s
@[simp] theorem aO{α:Type}{N:Nat->α}{r:Nat}{o:α}:up N r o r=o:=xad rfl
theorem aQ{α:Type}{N:Nat->α}{r s:Nat}{o:α}(h:s≠r):up N r o s=N s:=xab h
def qM(T:Nd->Option Nat)(d:Nd)(o:Option Nat):Nd->Option Nat:=λe=>if e=d then o else T e
@[simp] theorem jQ{T:Nd->Option Nat}{d:Nd}{o:Option Nat}:qM T d o d=o:=xad rfl
theorem pZ{T:Nd->Option Nat}{d e:Nd}{o:Option Nat}(h:e≠d):qM T d o e=T e:=xab h
def e1:Option Nd->Nat->Nat
 |none,_=>0
 |some d,r=>(if d.lo=r then 1 else 0)+(if d.hi=r then 1 else 0)
theorem eC(d:Nd)(r:Nat):e1 (some d) r=(if d.lo=r then 1 else 0)+(if d.hi=r then 1 else 0):=rfl
def dr(N:eE)(r:Nat):Nat->Nat
 |0=>0
 |k+1=>dr N r k+e1 (N k) r
def nF(N:eE):Nat->Nat
 |0=>0
 |k+1=>nF N k+(if(N k).isSome then 1 else 0)
theorem zW{N:eE}{s r:Nat}{o:Option Nd}:∀{k},(s<k->dr (up N s o) r k+e1 (N s) r=dr N r k+e1 o r)/\(k<=s->dr (up N s o) r k=dr N r k)
 |0=>⟨λh=>by omega,λ_=>rfl⟩
 |k+1=>by
  obtain⟨i1,i2⟩:=zW (N:=N) (s:=s) (r:=r) (o:=o) (k:=k);refine⟨λh=>?_,λh=>?_⟩
  ·rw[dr,dr];by_cases e:s=k
   ·subst e;rw[aO,i2 (xaj _)];omega
   have:=i1 zO;rw[aQ (λh=>e h.symm)];omega
  rw[dr,dr,i2 zO,aQ zO]
theorem wI{N:eE}{s r k:Nat}{o:Option Nd}(h:s<k):dr (up N s o) r k+e1 (N s) r=dr N r k+e1 o r:=zW.1 h
theorem rV{N:eE}{s:Nat}{o:Option Nd}:∀{k},(s<k->nF (up N s o) k+(if(N s).isSome then 1 else 0)=nF N k+(if o.isSome then 1 else 0))/\(k<=s->nF (up N s o) k=nF N k)
 |0=>⟨λh=>by omega,λ_=>rfl⟩
 |k+1=>by
  obtain⟨i1,i2⟩:=rV (N:=N) (s:=s) (o:=o) (k:=k);refine⟨λh=>?_,λh=>?_⟩
  ·rw[nF,nF];by_cases e:s=k
   ·subst e;rw[aO,i2 (xaj _)];omega
   have:=i1 zO;rw[aQ (λh=>e h.symm)];omega
  rw[nF,nF,i2 zO,aQ zO]
theorem j4{N:eE}{r:Nat}:∀{k},dr N r k=0->∀s,s<k->∀d,N s=some d->d.lo≠r/\d.hi≠r
 |0,_,s,hs,_,_=>by omega
 |k+1,h,s,hs,d,hd=>by
  rw[dr]at h;by_cases e:s=k
  ·subst e;rw[hd,eC]at h;constructor
   ·intro h1;rw[xad h1]at h;omega
   intro h1;rw[xad h1]at h;omega
  exact j4 (k:=k) zO s zO d hd
theorem sY{N:eE}{r:Nat}:∀{k},0<dr N r k->∃s d,s<k/\N s=some d/\(d.lo=r\/d.hi=r)
 |0,h=>by simp[dr]at h
 |k+1,h=>by
  rw[dr]at h;by_cases hk:0<dr N r k
  ·obtain⟨s,d,h1,h2,h3⟩:=sY hk;exact⟨s,d,by omega,h2,h3⟩
  cases hd:N k with
  |none=>rw[hd]at h;simp[e1]at h;omega
  |some d=>
   refine⟨k,d,by omega,hd,?_⟩;rw[hd,eC]at h;by_cases h1:d.lo=r
   ·exact .inl h1
   by_cases h2:d.hi=r
   ·exact .inr h2
   rw[xab h1,xab h2]at h;omega
theorem DX{N:eE}{r:Nat}:∀k,dr N r k<=2*k
 |0=>xaj _
 |k+1=>by
  have:=DX (N:=N) (r:=r) k;rw[dr];have:e1 (N k) r<=2:=by
   cases N k with
   |none=>simp[e1]
   |some d=>rw[eC];split<;>split<;>omega
  omega
theorem D6(N:eE):∀k,((List.range k).filter λr=>(N r).isSome).length=nF N k
 |0=>rfl
 |k+1=>by
  rw[xci,xbU,xaf,D6 N k,nF];congr 1;cases h:N k<;>simp[h]
structure Kd where
 n:Nat
 cap:Nat
 used:Nat
 N:eE
 T:Nd->Option Nat
 us:zL
 ho:zL
def Kd.hold(K:Kd)(r:Nat):Nat:=K.ho.getD r 0
def Kd.use(K:Kd)(r:Nat):Nat:=K.us.getD r 0
structure jP(K:Kd)(S:Nat->Fn)(E:Nat->Prop)(P:Nat->Nat):Prop where
 two:∀{r d},K.N r=some d->2<=r/\r<K.cap
 var:∀{r d},K.N r=some d->d.v<K.n
 ne:∀{r d},K.N r=some d->d.lo≠d.hi
 lo:∀{r d},K.N r=some d->live K.N d.lo
 hi:∀{r d},K.N r=some d->live K.N d.hi
 int:Interp K.N S
 kf:∀d r,K.T d=some r↔K.N r=some d/\¬E r
 use:∀{r d},K.N r=some d->K.use r=dr K.N r K.cap+(if K.hold r=0 then 0 else 1)+P r
 len:K.us.length=K.ho.length
 fit:∀{r d},K.N r=some d->r<K.us.length
 held:∀r,K.hold r≠0->∃d,K.N r=some d
 mx:∀r,K.hold r<=65535
 room:K.used=2+nF K.N K.cap
 cap:K.used<=K.cap/\K.cap<=1048576
variable {K:Kd} {S:Nat->Fn} {E:Nat->Prop} {P:Nat->Nat}
theorem kL{N:eE}{r s:Nat}{d:Nd}(h:live N s):live (up N r (some d)) s:=by
 rcases h with h|⟨e,h⟩
 ·exact .inl h
 by_cases e2:s=r
 ·subst e2;exact .inr ⟨d,aO⟩
 exact .inr ⟨e,by rw[aQ e2];exact h⟩
theorem y7{N:eE}{r s:Nat}(h:live N s)(hne:s≠r):live (up N r none) s:=by
 rcases h with h|⟨e,h⟩
 ·exact .inl h
 exact .inr ⟨e,by rw[aQ hne];exact h⟩
def Pos(K:Kd):Prop:=∀r d,K.N r=some d->0<K.use r
theorem jP.less(h:jP K S E P){r:Nat}{dA:zL}(hP:0<P r)(hl:dA.length=K.us.length)(h1:dA.getD r 0+1=K.use r)(h2:∀s,s≠r->dA.getD s 0=K.use s):
  jP {K with us:=dA} S E (up P r (P r-1)) where
 two:=h.two
 var:=h.var
 ne:=h.ne
 lo:=h.lo
 hi:=h.hi
 int:=h.int
 kf:=h.kf
 use:=λ{s d} hd=>by
  have:=h.use hd;show dA.getD s 0=dr K.N s K.cap+(if K.hold s=0 then 0 else 1)+up P r (P r-1) s;by_cases e:s=r
  ·subst e;rw[aO];omega
  rw[h2 s e,aQ e];exact this
 len:=by show dA.length=_;rw[hl];exact h.len
 fit:=λ{s d} hd=>by show s<dA.length;rw[hl];exact h.fit hd
 held:=h.held
 mx:=h.mx
 room:=h.room
 cap:=h.cap
theorem jP.free(h:jP K S E P){r:Nat}{d:Nd}(hd:K.N r=some d)(hE:¬E r)(h0:K.use r=0):
  jP {K with N:=up K.N r none,T:=qM K.T d none,used:=K.used-1} S E (λs=>P s+e1 (some d) s) where
 two:=λ{s e} hs=>by
  have hs':up K.N r none s=some e:=hs;by_cases e2:s=r
  ·subst e2;rw[aO]at hs';cases hs'
  rw[aQ e2]at hs';exact h.two hs'
 var:=λ{s e} hs=>by
  have hs':up K.N r none s=some e:=hs;by_cases e2:s=r
  ·subst e2;rw[aO]at hs';cases hs'
  rw[aQ e2]at hs';exact h.var hs'
 ne:=λ{s e} hs=>by
  have hs':up K.N r none s=some e:=hs;by_cases e2:s=r
  ·subst e2;rw[aO]at hs';cases hs'
  rw[aQ e2]at hs';exact h.ne hs'
 lo:=λ{s e} hs=>by
  have hs':up K.N r none s=some e:=hs;by_cases e2:s=r
  ·subst e2;rw[aO]at hs';cases hs'
  rw[aQ e2]at hs';have hu:=h.use hd;exact y7 (h.lo hs') (j4 zO s (h.two hs').2 e hs').1
 hi:=λ{s e} hs=>by
  have hs':up K.N r none s=some e:=hs;by_cases e2:s=r
  ·subst e2;rw[aO]at hs';cases hs'
  rw[aQ e2]at hs';have hu:=h.use hd;exact y7 (h.hi hs') (j4 zO s (h.two hs').2 e hs').2
 int:=⟨h.int.zero,h.int.one,λ{s e} hs x=>by
  have hs':up K.N r none s=some e:=hs;by_cases e2:s=r
  ·subst e2;rw[aO]at hs';cases hs'
  rw[aQ e2]at hs';exact h.int.node hs' x⟩
 kf:=λe s=>by
  show qM K.T d none e=some s↔up K.N r none s=some e/\_;by_cases e2:e=d
  ·subst e2;rw[jQ];constructor
   ·intro h;cases h
   rintro⟨h1,h2⟩;by_cases e3:s=r
   ·subst e3;rw[aO]at h1;cases h1
   rw[aQ e3]at h1;have a:=(h.kf e s).2 ⟨h1,h2⟩;have b:=(h.kf e r).2 ⟨hd,hE⟩;rw[a]at b;cases b;exact absurd rfl e3
  rw[pZ e2,h.kf];by_cases e3:s=r
  ·subst e3;rw[aO];constructor
   ·rintro⟨h1,_⟩;rw[hd]at h1;cases h1;exact absurd rfl e2
   rintro⟨h1,_⟩;cases h1
  rw[aQ e3]
 use:=λ{s e} hs=>by
  have hs':up K.N r none s=some e:=hs;by_cases e2:s=r
  ·subst e2;rw[aO]at hs';cases hs'
  rw[aQ e2]at hs';have hu:=h.use hs';have he:=wI (N:=K.N) (s:=r) (r:=s) (k:=K.cap) (o:=none) (h.two hd).2;show K.use s=dr (up K.N r none) s K.cap+(if K.hold s=0 then 0 else 1)+(P s+e1 (some d) s);rw[hd]at he;have:e1 none s=0:=rfl;omega
 len:=h.len
 fit:=λ{s e} hs=>by
  have hs':up K.N r none s=some e:=hs;by_cases e2:s=r
  ·subst e2;rw[aO]at hs';cases hs'
  rw[aQ e2]at hs';exact h.fit hs'
 held:=λs hs=>by
  obtain⟨e,he⟩:=h.held s hs;have hne:s≠r:=λe2=>by
   subst e2;have hu:=h.use hd;have hs':K.hold s≠0:=hs;rw[xab hs']at hu;omega
  exact⟨e,by show up K.N r none s=_;rw[aQ hne];exact he⟩
 mx:=h.mx
 room:=by
  have:=(rV (N:=K.N) (s:=r) (o:=none) (k:=K.cap)).1 (h.two hd).2;have hr:=h.room;rw[hd]at this;show K.used-1=2+nF (up K.N r none) K.cap;simp at this;omega
 cap:=⟨by have:=h.cap.1;show K.used-1<=K.cap;omega,h.cap.2⟩
theorem jP.more(h:jP K S E P){r:Nat}{dA:zL}(hl:dA.length=K.us.length)(h1:dA.getD r 0=K.use r+1)(h2:∀s,s≠r->dA.getD s 0=K.use s):
  jP {K with us:=dA} S E (up P r (P r+1)) where
 two:=h.two
 var:=h.var
 ne:=h.ne
 lo:=h.lo
 hi:=h.hi
 int:=h.int
 kf:=h.kf
 use:=λ{s d} hd=>by
  have:=h.use hd;show dA.getD s 0=dr K.N s K.cap+(if K.hold s=0 then 0 else 1)+up P r (P r+1) s;by_cases e:s=r
  ·subst e;rw[aO];omega
  rw[h2 s e,aQ e];exact this
 len:=by show dA.length=_;rw[hl];exact h.len
 fit:=λ{s d} hd=>by show s<dA.length;rw[hl];exact h.fit hd
 held:=h.held
 mx:=h.mx
 room:=h.room
 cap:=h.cap
end au
namespace au
open ak
variable {K:Kd} {S:Nat->Fn} {E:Nat->Prop} {P:Nat->Nat}
def ite(S:Nat->Fn)(d:Nd):Fn:=λx=>if x.testBit d.v then S d.hi x else S d.lo x
theorem gh{N:eE}{r s:Nat}(h:live N s)(h2:2<=r)(hr:N r=none):s≠r:=λe=>by
 subst e;rcases h with h|⟨d,h⟩
 ·omega
 rw[hr]at h;cases h
theorem jP.lay(h:jP K S E P){r:Nat}{d:Nd}{dA cz:zL}(hr:K.N r=none)(h2:2<=r/\r<K.cap)(hv:d.v<K.n)(hne:d.lo≠d.hi)(hlo:live K.N d.lo)(hhi:live K.N d.hi)(hT:K.T d=none)(hE:¬E r)
 (hP:P r=0)(hro:K.used<K.cap)(hl:dA.length=cz.length)(hf:r<dA.length/\K.us.length<=dA.length)(u0:dA.getD r 0=0)(u1:∀s,2<=s->s≠r->dA.getD s 0=K.use s+e1 (some d) s)(o0:cz.getD r 0=0)(o1:∀s,s≠r->cz.getD s 0=K.hold s):
  jP {K with N:=up K.N r (some d),T:=qM K.T d (some r),used:=K.used+1,us:=dA,ho:=cz} (up S r (ite S d)) E P where
 two:=λ{s e} hs=>by
  have hs':up K.N r (some d) s=some e:=hs;by_cases e2:s=r
  ·subst e2;exact h2
  rw[aQ e2]at hs';exact h.two hs'
 var:=λ{s e} hs=>by
  have hs':up K.N r (some d) s=some e:=hs;by_cases e2:s=r
  ·subst e2;rw[aO]at hs';cases hs';exact hv
  rw[aQ e2]at hs';exact h.var hs'
 ne:=λ{s e} hs=>by
  have hs':up K.N r (some d) s=some e:=hs;by_cases e2:s=r
  ·subst e2;rw[aO]at hs';cases hs';exact hne
  rw[aQ e2]at hs';exact h.ne hs'
 lo:=λ{s e} hs=>by
  have hs':up K.N r (some d) s=some e:=hs;by_cases e2:s=r
  ·subst e2;rw[aO]at hs';cases hs';exact kL hlo
  rw[aQ e2]at hs';exact kL (h.lo hs')
 hi:=λ{s e} hs=>by
  have hs':up K.N r (some d) s=some e:=hs;by_cases e2:s=r
  ·subst e2;rw[aO]at hs';cases hs';exact kL hhi
  rw[aQ e2]at hs';exact kL (h.hi hs')
 int:=⟨λx=>by rw[aQ zO];exact h.int.zero x,λx=>by rw[aQ zO];exact h.int.one x,λ{s e} hs x=>by
  have hs':up K.N r (some d) s=some e:=hs;by_cases e2:s=r
  ·subst e2;rw[aO]at hs';cases hs';rw[aO,aQ (gh hlo h2.1 hr),aQ (gh hhi h2.1 hr)];rfl
  rw[aQ e2]at hs';rw[aQ e2,aQ (gh (h.lo hs') h2.1 hr),aQ (gh (h.hi hs') h2.1 hr)];exact h.int.node hs' x⟩
 kf:=λe s=>by
  show qM K.T d (some r) e=some s↔up K.N r (some d) s=some e/\_;by_cases e2:e=d
  ·subst e2;rw[jQ];constructor
   ·intro h;cases h;exact⟨aO,hE⟩
   rintro⟨h1,nL⟩;by_cases e3:s=r
   ·rw[e3]
   rw[aQ e3]at h1;have a:=(h.kf e s).2 ⟨h1,nL⟩;rw[hT]at a;cases a
  rw[pZ e2,h.kf];by_cases e3:s=r
  ·subst e3;rw[aO,hr];constructor
   ·rintro⟨h1,_⟩;cases h1
   rintro⟨h1,_⟩;cases h1;exact absurd rfl e2
  rw[aQ e3]
 use:=λ{s e} hs=>by
  have hs':up K.N r (some d) s=some e:=hs;have he:=wI (N:=K.N) (s:=r) (r:=s) (k:=K.cap) (o:=some d) h2.2;rw[hr]at he;have h0:e1 none s=0:=rfl;show dA.getD s 0=dr (up K.N r (some d)) s K.cap+(if cz.getD s 0=0 then 0 else 1)+P s;by_cases e2:s=r
  ·subst e2;have hz:dr K.N s K.cap=0:=by
    refine Nat.eq_zero_of_not_pos λhp=>?_;obtain⟨t,e',_,ht,hc⟩:=sY hp;have DB:=gh (h.lo ht) h2.1 hr;have qP:=gh (h.hi ht) h2.1 hr;rcases hc with hc|hc
    ·exact DB hc
    exact qP hc
   have hd0:e1 (some d) s=0:=by
    rw[eC,xab (gh hlo h2.1 hr),xab (gh hhi h2.1 hr)]
   rw[u0,o0,xad rfl];omega
  rw[aQ e2]at hs';have hu:=h.use hs';have h3:cz.getD s 0=K.hold s:=o1 s e2;rw[u1 s (h.two hs').1 e2,h3];omega
 len:=hl
 fit:=λ{s e} hs=>by
  have hs':up K.N r (some d) s=some e:=hs;show s<dA.length;by_cases e2:s=r
  ·subst e2;exact hf.1
  rw[aQ e2]at hs';exact xaP (h.fit hs') hf.2
 held:=λs hs=>by
  have hs':cz.getD s 0≠0:=hs;by_cases e2:s=r
  ·subst e2;exact⟨d,aO⟩
  rw[o1 s e2]at hs';obtain⟨e,he⟩:=h.held s hs';exact⟨e,by show up K.N r (some d) s=_;rw[aQ e2];exact he⟩
 mx:=λs=>by
  show cz.getD s 0<=65535;by_cases e2:s=r
  ·subst e2;rw[o0];decide
  rw[o1 s e2];exact h.mx s
 room:=by
  have:=(rV (N:=K.N) (s:=r) (o:=some d) (k:=K.cap)).1 h2.2;have hr':=h.room;rw[hr]at this;show K.used+1=2+nF (up K.N r (some d)) K.cap;simp at this;omega
 cap:=⟨by show K.used+1<=K.cap;omega,h.cap.2⟩
theorem jP.agG(h:jP K S E P){r:Nat}{d:Nd}(hd:K.N r=some d)(hE:¬E r):jP {K with T:=qM K.T d none} S (λs=>E s\/s=r) P where
 two:=h.two
 var:=h.var
 ne:=h.ne
 lo:=h.lo
 hi:=h.hi
 int:=h.int
 kf:=λe s=>by
  show qM K.T d none e=some s↔_;by_cases e2:e=d
  ·subst e2;rw[jQ];constructor
   ·intro h;cases h
   rintro⟨h1,h2⟩;have a:=(h.kf e s).2 ⟨h1,λx=>h2 (.inl x)⟩;have b:=(h.kf e r).2 ⟨hd,hE⟩;rw[a]at b;cases b;exact absurd (.inr rfl) h2
  rw[pZ e2,h.kf];constructor
  ·rintro⟨h1,h2⟩;refine⟨h1,λx=>?_⟩;rcases x with x|rfl
   ·exact h2 x
   have qy:K.N s=some e:=h1;rw[hd]at qy;cases qy;exact e2 rfl
  rintro⟨h1,h2⟩;exact⟨h1,λx=>h2 (.inl x)⟩
 use:=h.use
 len:=h.len
 fit:=h.fit
 held:=h.held
 mx:=h.mx
 room:=h.room
 cap:=h.cap
theorem jP.ew(h:jP K S E P){r:Nat}{d d':Nd}{P':Nat->Nat}(hd:K.N r=some d)(hE:E r)(hv:d'.v<K.n)(hne:d'.lo≠d'.hi)(hlo:live K.N d'.lo)(hhi:live K.N d'.hi)(hT:K.T d'=none)(hS:∀x,S r x=ite S d' x)
 (hP:∀s,2<=s->P' s+e1 (some d') s=P s+e1 (some d) s):jP {K with N:=up K.N r (some d'),T:=qM K.T d' (some r)} S (λs=>E s/\s≠r) P' where
 two:=λ{s e} hs=>by
  have hs':up K.N r (some d') s=some e:=hs;by_cases e2:s=r
  ·subst e2;exact h.two hd
  rw[aQ e2]at hs';exact h.two hs'
 var:=λ{s e} hs=>by
  have hs':up K.N r (some d') s=some e:=hs;by_cases e2:s=r
  ·subst e2;rw[aO]at hs';cases hs';exact hv
  rw[aQ e2]at hs';exact h.var hs'
 ne:=λ{s e} hs=>by
  have hs':up K.N r (some d') s=some e:=hs;by_cases e2:s=r
  ·subst e2;rw[aO]at hs';cases hs';exact hne
  rw[aQ e2]at hs';exact h.ne hs'
 lo:=λ{s e} hs=>by
  have hs':up K.N r (some d') s=some e:=hs;by_cases e2:s=r
  ·subst e2;rw[aO]at hs';cases hs';exact kL hlo
  rw[aQ e2]at hs';exact kL (h.lo hs')
 hi:=λ{s e} hs=>by
  have hs':up K.N r (some d') s=some e:=hs;by_cases e2:s=r
  ·subst e2;rw[aO]at hs';cases hs';exact kL hhi
  rw[aQ e2]at hs';exact kL (h.hi hs')
 int:=⟨h.int.zero,h.int.one,λ{s e} hs x=>by
  have hs':up K.N r (some d') s=some e:=hs;by_cases e2:s=r
  ·subst e2;rw[aO]at hs';cases hs';exact hS x
  rw[aQ e2]at hs';exact h.int.node hs' x⟩
 kf:=λe s=>by
  show qM K.T d' (some r) e=some s↔up K.N r (some d') s=some e/\¬(E s/\s≠r);by_cases e2:e=d'
  ·subst e2;rw[jQ];constructor
   ·intro h;cases h;exact⟨aO,λx=>x.2 rfl⟩
   rintro⟨h1,nL⟩;by_cases e3:s=r
   ·rw[e3]
   rw[aQ e3]at h1;have a:=(h.kf e s).2 ⟨h1,λx=>nL ⟨x,e3⟩⟩;rw[hT]at a;cases a
  rw[pZ e2,h.kf];by_cases e3:s=r
  ·subst e3;rw[aO];constructor
   ·rintro⟨_,h1⟩;exact absurd hE h1
   rintro⟨h1,_⟩;cases h1;exact absurd rfl e2
  rw[aQ e3];constructor
  ·rintro⟨h1,h2⟩;exact⟨h1,λx=>h2 x.1⟩
  rintro⟨h1,h2⟩;exact⟨h1,λx=>h2 ⟨x,e3⟩⟩
 use:=λ{s e} hs=>by
  have hs':up K.N r (some d') s=some e:=hs;have he:=wI (N:=K.N) (s:=r) (r:=s) (k:=K.cap) (o:=some d') (h.two hd).2;rw[hd]at he;show K.use s=dr (up K.N r (some d')) s K.cap+(if K.hold s=0 then 0 else 1)+P' s;by_cases e2:s=r
  ·subst e2;have hu:=h.use hd;have:=hP s (h.two hd).1;omega
  rw[aQ e2]at hs';have hu:=h.use hs';have:=hP s (h.two hs').1;omega
 len:=h.len
 fit:=λ{s e} hs=>by
  have hs':up K.N r (some d') s=some e:=hs;by_cases e2:s=r
  ·subst e2;exact h.fit hd
  rw[aQ e2]at hs';exact h.fit hs'
 held:=λs hs=>by
  obtain⟨e,he⟩:=h.held s hs;by_cases e2:s=r
  ·subst e2;exact⟨d',aO⟩
  exact⟨e,by show up K.N r (some d') s=_;rw[aQ e2];exact he⟩
 mx:=h.mx
 room:=by
  have:=(rV (N:=K.N) (s:=r) (o:=some d') (k:=K.cap)).1 (h.two hd).2;have hr':=h.room;rw[hd]at this;show K.used=2+nF (up K.N r (some d')) K.cap;simp at this;omega
 cap:=h.cap
theorem jP.keep(h:jP K S E P){r:Nat}{dA cz:zL}(hr:∃d,K.N r=some d)(hm:K.hold r<65535)(hl:dA.length=K.us.length/\cz.length=K.ho.length)(o0:cz.getD r 0=K.hold r+1)(o1:∀s,s≠r->cz.getD s 0=K.hold s)
 (u0:dA.getD r 0=K.use r+(if K.hold r=0 then 1 else 0))(u1:∀s,s≠r->dA.getD s 0=K.use s):jP {K with us:=dA,ho:=cz} S E P where
 two:=h.two
 var:=h.var
 ne:=h.ne
 lo:=h.lo
 hi:=h.hi
 int:=h.int
 kf:=h.kf
 use:=λ{s e} hs=>by
  have hu:=h.use hs;show dA.getD s 0=dr K.N s K.cap+(if cz.getD s 0=0 then 0 else 1)+P s;by_cases e2:s=r
  ·subst e2;rw[u0,o0,xab (by omega:¬K.hold s+1=0)];by_cases e3:K.hold s=0
   ·rw[xad e3]at hu⊢;omega
   rw[xab e3]at hu⊢;omega
  rw[u1 s e2,o1 s e2];exact hu
 len:=by show dA.length=cz.length;rw[hl.1,hl.2];exact h.len
 fit:=λ{s e} hs=>by show s<dA.length;rw[hl.1];exact h.fit hs
 held:=λs hs=>by
  have hs':cz.getD s 0≠0:=hs;by_cases e2:s=r
  ·subst e2;exact hr
  rw[o1 s e2]at hs';exact h.held s hs'
 mx:=λs=>by
  show cz.getD s 0<=65535;by_cases e2:s=r
  ·subst e2;rw[o0];omega
  rw[o1 s e2];exact h.mx s
 room:=h.room
 cap:=h.cap
theorem jP.drop(h:jP K S E P){r:Nat}{cz:zL}(hr:0<K.hold r)(hl:cz.length=K.ho.length)(o0:cz.getD r 0+1=K.hold r)(o1:∀s,s≠r->cz.getD s 0=K.hold s):
  jP {K with ho:=cz} S E (if K.hold r=1 then up P r (P r+1)else P) where
 two:=h.two
 var:=h.var
 ne:=h.ne
 lo:=h.lo
 hi:=h.hi
 int:=h.int
 kf:=h.kf
 use:=λ{s e} hs=>by
  have hu:=h.use hs;show K.use s=dr K.N s K.cap+(if cz.getD s 0=0 then 0 else 1)+(if K.hold r=1 then up P r (P r+1)else P) s;by_cases e2:s=r
  ·subst e2;rw[xab (by omega:¬K.hold s=0)]at hu;by_cases e3:K.hold s=1
   ·rw[xad e3,aO,xad zO];omega
   rw[xab e3,xab zO];omega
  rw[o1 s e2];by_cases e3:K.hold r=1
  ·rw[xad e3,aQ e2];exact hu
  rw[xab e3];exact hu
 len:=by show K.us.length=cz.length;rw[hl];exact h.len
 fit:=h.fit
 held:=λs hs=>by
  have hs':cz.getD s 0≠0:=hs;by_cases e2:s=r
  ·subst e2;exact h.held s zO
  rw[o1 s e2]at hs';exact h.held s hs'
 mx:=λs=>by
  show cz.getD s 0<=65535;have:=h.mx r;by_cases e2:s=r
  ·subst e2;omega
  rw[o1 s e2];exact h.mx s
 room:=h.room
 cap:=h.cap
theorem jP.congr(h:jP K S E P){E':Nat->Prop}{P':Nat->Nat}(hE:∀s,E s↔E' s)(hP:∀s,2<=s->P s=P' s):jP K S E' P' where
 two:=h.two
 var:=h.var
 ne:=h.ne
 lo:=h.lo
 hi:=h.hi
 int:=h.int
 kf:=λd r=>by rw[h.kf,hE]
 use:=λ{s e} hs=>by rw[<-hP s (h.two hs).1];exact h.use hs
 len:=h.len
 fit:=h.fit
 held:=h.held
 mx:=h.mx
 room:=h.room
 cap:=h.cap
def iN:Nat->Prop:=λ_=>False
def zero':Nat->Nat:=λ_=>0
structure Ok(K:Kd)(S:Nat->Fn)(ah:Nat->Nat):Prop where
 mid:jP K S iN zero'
 pos:Pos K
 lv:jI K.n ah
 wf:WF K.n ah K.N
theorem jP.uq(h:jP K S iN P){r r':Nat}{d:Nd}(h1:K.N r=some d)(h2:K.N r'=some d):r=r':=by
 have a:=(h.kf d r).2 ⟨h1,λx=>x⟩;have b:=(h.kf d r').2 ⟨h2,λx=>x⟩;rw[a]at b;cases b;rfl
theorem jP.wf(h:jP K S iN P){ah:Nat->Nat}(hl:∀{r d},K.N r=some d->ah d.v<dep K.n ah K.N d.lo/\ah d.v<dep K.n ah K.N d.hi):WF K.n ah K.N:=
 ⟨λhd=>(h.two hd).1,h.var,h.ne,λhd=>⟨h.lo hd,(hl hd).1⟩,λhd=>⟨h.hi hd,(hl hd).2⟩,h.uq⟩
theorem Ok.reach{ah:Nat->Nat}(h:Ok K S ah):Reach K.N (λr=>K.hold r≠0):=λr d hd=>by
 have hu:=h.mid.use hd;have hp:=h.pos r d hd;by_cases e:K.hold r=0
 ·rw[xad e]at hu;have:zero' r=0:=rfl;obtain⟨s,e',_,h1,h2⟩:=sY (N:=K.N) (r:=r) (k:=K.cap) zO;exact .inr ⟨s,e',h1,h2⟩
 exact .inl e
theorem Ok.dom{ah:Nat->Nat}(h:Ok K S ah):∃dom:zL,dom.Nodup/\dom.length+2=K.used/\∀r,r∈dom↔∃d,K.N r=some d:=by
 refine⟨(List.range K.cap).filter λr=>(K.N r).isSome,xbl.filter _,by rw[D6,h.mid.room];omega,λr=>?_⟩;rw[xbV,xaM,xdF];exact⟨λh=>h.2,λ⟨d,hd⟩=>⟨(h.mid.two hd).2,d,hd⟩⟩
def Kd.held(K:Kd)(S:Nat->Fn):Fn->Prop:=Fs S λr=>K.hold r≠0
theorem Ok.size{ah:Nat->Nat}{ord:zL}(h:Ok K S ah)(ho:Ord K.n ah ord):nw (aD K.n ord (K.held S)) (K.used-2):=by
 obtain⟨dom,h1,h2,h3⟩:=h.dom;have hc:=z9 h.wf h.lv h.mid.int h1 h3;rw[show dom.length=K.used-2 by omega]at hc;refine hc.congr λg=>?_;exact(nW h.wf h.lv ho h.mid.int (λr hr=>.inr (h.mid.held r hr)) h.reach g).symm
end au
namespace au
open ak
variable {n:Nat} {ah:Nat->Nat} {N:eE} {S:Nat->Fn} {ord:zL} {K:Kd}
def pl(N:eE)(y r:Nat):Nat:=match N r with|some e=>if e.v=y then e.lo else r|none=>r
def ph(N:eE)(y r:Nat):Nat:=match N r with|some e=>if e.v=y then e.hi else r|none=>r
theorem Vs{y r:Nat}{e:Nd}(h:N r=some e)(hv:e.v=y):pl N y r=e.lo/\ph N y r=e.hi:=by simp[pl,ph,h,hv]
theorem Vt{y r:Nat}(h:∀e,N r=some e->e.v≠y):pl N y r=r/\ph N y r=r:=by
 unfold pl ph;cases hr:N r with
 |none=>exact⟨rfl,rfl⟩
 |some e=>simp[h e hr]
theorem WF.half(h:WF n ah N)(hl:jI n ah)(hi:Interp N S){y l r:Nat}(hy:y<n/\ah y=l+1)(hr:live N r)(hd:l<dep n ah N r):
  (live N (pl N y r)/\l+1<dep n ah N (pl N y r))/\(live N (ph N y r)/\l+1<dep n ah N (ph N y r))/\∀z,S r z=if z.testBit y then S (ph N y r) z else S (pl N y r) z:=by
 by_cases e:∃e,N r=some e/\e.v=y
 ·obtain⟨e,he,hv⟩:=e;obtain⟨p1,p2⟩:=Vs he hv;rw[p1,p2];have h1:=h.lo he;have h2:=h.hi he;rw[hv,hy.2]at h1 h2;exact⟨h1,h2,λz=>by rw[hi.node he,hv]⟩
 have ho:∀e',N r=some e'->e'.v≠y:=λe' h1 h2=>e ⟨e',h1,h2⟩;obtain⟨p1,p2⟩:=Vt ho;rw[p1,p2];have ye:l+1<dep n ah N r:=by
  rcases hr with hr|⟨e',he⟩
  ·rw[aT (h.const hr)];have:=hl.lt y hy.1;omega
  rw[an he]at hd⊢;have h1:=ho e' he;refine Nat.lt_of_le_of_ne hd λe2=>h1 (hl.inj _ _ (h.var he) hy.1 zO)
 exact⟨⟨hr,ye⟩,⟨hr,ye⟩,λz=>by split<;>rfl⟩
theorem WF.WA(h:WF n ah N)(hl:jI n ah)(hi:Interp N S){y l a b:Nat}(hy:y<n/\ah y=l+1)(ha:live N a)(hb:live N b)(da:l<dep n ah N a)(db:l<dep n ah N b)
 (h1:pl N y a=pl N y b)(h2:ph N y a=ph N y b):a=b:=by
 refine h.same hl hi ha hb λz=>?_;rw[(h.half hl hi hy ha da).2.2 z,(h.half hl hi hy hb db).2.2 z,h1,h2]
structure Cx where
 r:Nat
 d:Nd
 ym:Nat
 yl:Nat
 ud:Nat
 uc:Nat
def m5(N:eE)(x y r:Nat)(d:Nd):Prop:=N r=some d/\d.v=x/\((∃e,N d.lo=some e/\e.v=y)\/∃e,N d.hi=some e/\e.v=y)
def ot(N:eE)(y r:Nat)(d:Nd):Cx:=⟨r,d,pl N y d.lo,ph N y d.lo,pl N y d.hi,ph N y d.hi⟩
structure LA(N:eE)(x y:Nat)(l:List Cx):Prop where
 nd:(l.map Cx.r).Nodup
 mem:∀c,c∈l↔m5 N x y c.r c.d/\c=ot N y c.r c.d
def keys(x:Nat)(c:Cx):List Nd:=[⟨x,c.ym,c.ud⟩,⟨x,c.yl,c.uc⟩]
structure Made(K:Kd)(x:Nat)(l:List Cx)(made:List Nd):Prop where
 nd:made.Nodup
 mem:∀k,k∈made↔(∃c∈l,k∈keys x c)/\K.T k=none/\k.lo≠k.hi
structure Nb(n:Nat)(ah:Nat->Nat)(x y l:Nat):Prop where
 xn:x<n
 yn:y<n
 lx:ah x=l
 ly:ah y=l+1
variable {x y l:Nat}
theorem Nb.ne(h:Nb n ah x y l):x≠y:=λe=>by have h1:=h.lx;have h2:=h.ly;rw[e]at h1;omega
theorem Nb.yy(h:Nb n ah x y l):y<n/\ah y=l+1:=⟨h.yn,h.ly⟩
theorem l5(h:WF n ah N)(hl:jI n ah)(hi:Interp N S)(hb:Nb n ah x y l){r:Nat}{d:Nd}(hd:N r=some d)(hx:d.v=x){k:Nd}(hk:k∈keys x (ot N y r d)):
  k.v=x/\(live N k.lo/\l+1<dep n ah N k.lo)/\(live N k.hi/\l+1<dep n ah N k.hi):=by
 have h1:=h.lo hd;have h2:=h.hi hd;rw[hx,hb.lx]at h1 h2;have a:=h.half hl hi hb.yy h1.1 h1.2;have b:=h.half hl hi hb.yy h2.1 h2.2;simp only[keys,ot,xak,xaR,xbD]at hk;rcases hk with rfl|rfl
 ·exact⟨rfl,a.1,b.1⟩
 exact⟨rfl,a.2.1,b.2.1⟩
theorem wO(h:WF n ah N)(hl:jI n ah)(hi:Interp N S)(hb:Nb n ah x y l){r:Nat}{d:Nd}(hd:N r=some d)(hx:d.v=x)(z:Nat):
  S r z=if z.testBit y then ite S ⟨x,ph N y d.lo,ph N y d.hi⟩ z else ite S ⟨x,pl N y d.lo,pl N y d.hi⟩ z:=by
 have h1:=h.lo hd;have h2:=h.hi hd;rw[hx,hb.lx]at h1 h2;have a:=(h.half hl hi hb.yy h1.1 h1.2).2.2 z;have b:=(h.half hl hi hb.yy h2.1 h2.2).2.2 z;rw[hi.node hd,hx,a,b];unfold ite;simp only;cases z.testBit x<;>cases z.testBit y<;>rfl
theorem jy(h:WF n ah N)(hl:jI n ah)(hi:Interp N S)(hb:Nb n ah x y l){k:Nd}(hk:k.v=x)(h1:live N k.lo/\l+1<dep n ah N k.lo)(h2:live N k.hi/\l+1<dep n ah N k.hi)(z:Nat)(b:Bool):
  ite S k (aB z x b)=S (if b then k.hi else k.lo) z:=by
 unfold ite;rw[hk,aj,xad rfl];cases b
 ·simp only[xaO,xa2];exact h.bJ hl hi h1.1 hb.xn (by rw[hb.lx];omega) z false
 simp only[xa7];exact h.bJ hl hi h2.1 hb.xn (by rw[hb.lx];omega) z true
theorem jL(h:WF n ah N)(hl:jI n ah)(hi:Interp N S)(hb:Nb n ah x y l){k:Nd}(hk:k.v=x)(h1:live N k.lo/\l+1<dep n ah N k.lo)(h2:live N k.hi/\l+1<dep n ah N k.hi){u:Nat}(hu:u<n)(M1:ah u<=l+1)(hne:u≠x)(z:Nat)(b:Bool):
  ite S k (aB z u b)=ite S k z:=by
 unfold ite;rw[hk,aj,xab (xa9 hne),h.bJ hl hi h1.1 hu zO,h.bJ hl hi h2.1 hu zO]
theorem gn(h:WF n ah N)(hl:jI n ah)(hi:Interp N S){r:Nat}{d:Nd}(hd:N r=some d):∃z,S r (aB z d.v false)≠S r (aB z d.v true):=by
 refine xaD λhno=>h.ne hd (h.same hl hi (h.lo hd).1 (h.hi hd).1 λz=>?_);have c1:=h.child hl hi hd z false;have c2:=h.child hl hi hd z true;simp only[xaO,xa2,xa7]at c1 c2;rw[<-c1,<-c2];exact xaD λhne=>hno ⟨z,hne⟩
theorem Ro(h:WF n ah N)(hl:jI n ah)(hi:Interp N S)(hb:Nb n ah x y l){k:Nd}(hk:k.v=x)(hne:k.lo≠k.hi)(h1:live N k.lo/\l+1<dep n ah N k.lo)(h2:live N k.hi/\l+1<dep n ah N k.hi)
 {r:Nat}{d:Nd}(hd:N r=some d)(he:ite S k=S r):d=k:=by
 have hv:=h.var hd;have hvx:d.v=x:=by
  rcases xcJ (ah d.v) l with hlt|heq|hgt
  ·obtain⟨z,hz⟩:=gn h hl hi hd;have acP:d.v≠x:=λe=>by rw[e,hb.lx]at hlt;omega
   rw[<-he,jL h hl hi hb hk h1 h2 hv zO acP,jL h hl hi hb hk h1 h2 hv zO acP]at hz;exact absurd rfl hz
  ·exact hl.inj _ _ hv hb.xn (by rw[hb.lx];exact heq)
  refine absurd (h.same hl hi h1.1 h2.1 λz=>?_) hne;have c1:=jy h hl hi hb hk h1 h2 z false;have c2:=jy h hl hi hb hk h1 h2 z true;simp only[xaO,xa2,xa7]at c1 c2;have hdp:ah x<dep n ah N r:=by rw[an hd,hb.lx];exact hgt
  rw[<-c1,<-c2,he,h.bJ hl hi (.inr ⟨d,hd⟩) hb.xn hdp,h.bJ hl hi (.inr ⟨d,hd⟩) hb.xn hdp]
 have c:∀(b:Bool) z,S (if b then k.hi else k.lo) z=S (if b then d.hi else d.lo) z:=λ(b:Bool) z=>by
  rw[<-jy h hl hi hb hk h1 h2 z b,he,<-hvx,h.child hl hi hd z b]
 have e1:=h.same hl hi h1.1 (h.lo hd).1 (λz=>by simpa using c false z);have e2:=h.same hl hi h2.1 (h.hi hd).1 (λz=>by simpa using c true z);cases d;cases k;simp_all
theorem Wa(h:WF n ah N)(hl:jI n ah)(hi:Interp N S)(hb:Nb n ah x y l){k k':Nd}(hk:k.v=x)(hk':k'.v=x)(h1:live N k.lo/\l+1<dep n ah N k.lo)(h2:live N k.hi/\l+1<dep n ah N k.hi)
 (qy:live N k'.lo/\l+1<dep n ah N k'.lo)(nL:live N k'.hi/\l+1<dep n ah N k'.hi)(he:ite S k=ite S k'):k=k':=by
 have c:∀(b:Bool) z,S (if b then k.hi else k.lo) z=S (if b then k'.hi else k'.lo) z:=λ(b:Bool) z=>by
  rw[<-jy h hl hi hb hk h1 h2 z b,he,jy h hl hi hb hk' qy nL z b]
 have e1:=h.same hl hi h1.1 qy.1 (λz=>by simpa using c false z);have e2:=h.same hl hi h2.1 nL.1 (λz=>by simpa using c true z);cases k;cases k';simp_all
def fK(ord:zL)(l:Nat):zL:=(ord.set l (ord.getD (l+1) 0)).set (l+1) (ord.getD l 0)
theorem mF(ord:zL)(l:Nat):(fK ord l).length=ord.length:=by simp[fK]
theorem fp{i:Nat}(hl:l+1<ord.length):(fK ord l).getD i 0=if i=l then ord.getD (l+1) 0 else if i=l+1 then ord.getD l 0 else ord.getD i 0:=by
 unfold fK;rw[xaq,xbn,xbn];by_cases e1:l+1=i
 ·subst e1;rw[xad rfl,xad zP,xab zO,xad rfl];rfl
 rw[xab e1];by_cases e2:l=i
 ·subst e2;rw[xad rfl,xad zO,xad rfl];rfl
 rw[xab e2,xab (λe=>e2 e.symm),xab (λe=>e1 e.symm),<-xaq]
def uj(ah:Nat->Nat)(x y l:Nat):Nat->Nat:=λv=>if v=x then l+1 else if v=y then l else ah v
theorem UW(hl:jI n ah)(hb:Nb n ah x y l):jI n (uj ah x y l):=by
 have Zy:=hl.lt y hb.yn;rw[hb.ly]at Zy;have key:∀v,v<n->v≠x->v≠y->ah v≠l/\ah v≠l+1:=λv hv h1 h2=>⟨λe=>h1 (hl.inj _ _ hv hb.xn (by rw[hb.lx];exact e)),λe=>h2 (hl.inj _ _ hv hb.yn (by rw[hb.ly];exact e))⟩;refine⟨λv hv=>?_,λu v hu hv he=>?_⟩
 ·unfold uj;split
  ·exact Zy
  split
  ·omega
  exact hl.lt v hv
 unfold uj at he;by_cases u1:u=x
 ·by_cases v1:v=x
  ·rw[u1,v1]
  rw[xad u1,xab v1]at he;by_cases v2:v=y
  ·rw[xad v2]at he;omega
  rw[xab v2]at he;exact absurd he.symm (key v hv v1 v2).2
 rw[xab u1]at he;by_cases u2:u=y
 ·rw[xad u2]at he;by_cases v1:v=x
  ·rw[xad v1]at he;omega
  rw[xab v1]at he;by_cases v2:v=y
  ·rw[u2,v2]
  rw[xab v2]at he;exact absurd he.symm (key v hv v1 v2).1
 rw[xab u2]at he;by_cases v1:v=x
 ·rw[xad v1]at he;exact absurd he (key u hu u1 u2).2
 rw[xab v1]at he;by_cases v2:v=y
 ·rw[xad v2]at he;exact absurd he (key u hu u1 u2).1
 rw[xab v2]at he;exact hl.inj _ _ hu hv he
theorem Ord.nb(ho:Ord n ah ord)(hl:l+1<n):Nb n ah (ord.getD l 0) (ord.getD (l+1) 0) l:=
 ⟨(ho.aZ l zO).1,(ho.aZ (l+1) hl).1,(ho.aZ l zO).2,(ho.aZ (l+1) hl).2⟩
theorem UU(ho:Ord n ah ord)(hl:l+1<n):Ord n (uj ah (ord.getD l 0) (ord.getD (l+1) 0) l) (fK ord l):=by
 have hb:=ho.nb hl;refine⟨by rw[mF,ho.len],λi hi=>?_⟩;rw[fp (by rw[ho.len];exact hl)];unfold uj;by_cases e1:i=l
 ·subst e1;rw[xad rfl];refine⟨hb.yn,?_⟩;rw[xab (xa9 hb.ne),xad rfl]
 rw[xab e1];by_cases e2:i=l+1
 ·subst e2;rw[xad rfl];refine⟨hb.xn,?_⟩;rw[xad rfl]
 rw[xab e2];obtain⟨h1,h2⟩:=ho.aZ i hi;refine⟨h1,?_⟩;rw[xab,xab]
 ·exact h2
 ·intro e;rw[e,hb.ly]at h2;omega
 intro e;rw[e,hb.lx]at h2;omega
variable {F:Fn->Prop}
theorem Gj(hl:l+1<ord.length)(hne:ord.getD l 0≠ord.getD (l+1) 0):∀m,m≠l+1->∀g,fs (fK ord l) F m g↔fs ord F m g
 |0,_,g=>xcT
 |m+1,hm,g=>by
  by_cases e:m=l+1
  ·subst e;have g1:(fK ord l).getD (l+1) 0=ord.getD l 0:=by rw[fp hl,xab zO,xad rfl]
   have g2:(fK ord l).getD l 0=ord.getD (l+1) 0:=by rw[fp hl,xad rfl]
   have ih:=Gj hl hne l zO;constructor
   ·rintro⟨f,⟨f',h,b,rfl⟩,b',rfl⟩;refine⟨_,⟨f',(ih f').1 h,b',rfl⟩,b,?_⟩
    funext z
    rw[g1,g2];show f' _=f' _;rw[di hne]
   rintro⟨f,⟨f',h,b,rfl⟩,b',rfl⟩;refine⟨_,⟨f',(ih f').2 h,b',rfl⟩,b,?_⟩
   funext z
   rw[g1,g2];show f' _=f' _;rw[di (xa9 hne)]
  have ih:=Gj hl hne m e;have hg:(fK ord l).getD m 0=ord.getD m 0:=by rw[fp hl,xab zO,xab e]
  constructor
  ·rintro⟨f,h,b,rfl⟩;exact⟨f,(ih f).1 h,b,by rw[hg]⟩
  rintro⟨f,h,b,rfl⟩;exact⟨f,(ih f).2 h,b,by rw[hg]⟩
theorem PU(h:Ok K S ah)(ho:Ord K.n ah ord)(zn:l+1<K.n){all:List Cx}(hc:LA K.N (ord.getD l 0) (ord.getD (l+1) 0) all){made:List Nd}(hm:Made K (ord.getD l 0) all made):
  nw (λg=>aD K.n ord (K.held S) g\/aD K.n (fK ord l) (K.held S) g) (K.used-2+made.length):=by
 have hb:=ho.nb zn;have hlen:l+1<ord.length:=by rw[ho.len];exact zn
 have hw:=h.wf;have hlv:=h.lv;have hi:=h.mid.int;have hR:∀r,K.hold r≠0->live K.N r:=λr hr=>.inr (h.mid.held r hr);generalize hx:ord.getD l 0=x at*;generalize hy:ord.getD (l+1) 0=y at*;have mW:∀k∈made,k.v=x/\(live K.N k.lo/\l+1<dep K.n ah K.N k.lo)/\(live K.N k.hi/\l+1<dep K.n ah K.N k.hi):=λk hk=>by
  obtain⟨⟨c,Gd,hkc⟩,_⟩:=(hm.mem k).1 hk;obtain⟨⟨hd,R7,_⟩,e⟩:=(hc.mem c).1 Gd;rw[e]at hkc;exact l5 hw hlv hi hb hd R7 hkc
 obtain⟨dom,d1,d2,d3⟩:=h.dom;have c1:=z9 hw hlv hi d1 d3;rw[show dom.length=K.used-2 by omega]at c1;have c2:nw (λg=>∃k∈made,g=ite S k) made.length:=by
  refine⟨made.map (ite S),?_,by simp,λg=>?_⟩
  ·refine xbJ.2 (hm.nd.imp_of_mem λ{a b} ha hb' hne heq=>hne ?_);obtain⟨a1,a2,a3⟩:=mW a ha;obtain⟨b1,b2,b3⟩:=mW b hb';exact Wa hw hlv hi hb a1 b1 a2 a3 b2 b3 heq
  rw[xan];constructor
  ·rintro⟨k,hk,rfl⟩;exact⟨k,hk,rfl⟩
  rintro⟨k,hk,rfl⟩;exact⟨k,hk,rfl⟩
 refine(c1.or c2 ?_).congr λg=>?_
 ·rintro g ⟨r,d,hd,rfl⟩ ⟨k,hk,he⟩;obtain⟨a1,a2,a3⟩:=mW k hk;obtain⟨_,hT,hne⟩:=(hm.mem k).1 hk;have:=Ro hw hlv hi hb a1 hne a2 a3 hd he.symm;subst this;rw[(h.mid.kf d r).2 ⟨hd,λx=>x⟩]at hT;cases hT
 have M4:=nW hw hlv ho hi hR h.reach;have qQ:=λm (hmn:m<=K.n) g=>DN hw hlv ho hi hR m hmn g;have hne:ord.getD l 0≠ord.getD (l+1) 0:=by rw[hx,hy];exact hb.ne
 have zl:=Gj (F:=K.held S) hlen hne;have gl:(fK ord l).getD l 0=y:=by rw[fp hlen,xad rfl,hy]
 have gl1:(fK ord l).getD (l+1) 0=x:=by rw[fp hlen,xab zO,xad rfl,hx]
 have go:∀m,m≠l->m≠l+1->(fK ord l).getD m 0=ord.getD m 0:=λm h1 h2=>by rw[fp hlen,xab h1,xab h2]
 constructor
 ·rintro(⟨r,d,hd,rfl⟩|⟨k,hk,rfl⟩)
  ·exact .inl ((M4 _).2 ⟨r,d,hd,rfl⟩)
  obtain⟨a1,a2,a3⟩:=mW k hk;obtain⟨⟨c,Gd,hkc⟩,hT,ZS⟩:=(hm.mem k).1 hk;obtain⟨⟨hd,R7,_⟩,e⟩:=(hc.mem c).1 Gd;refine .inr ⟨l+1,zn,?_,?_⟩
  ·have hA:=Uc hw h.reach _ c.r c.d hd (xaj _);rw[R7,hb.lx]at hA;refine⟨S c.r,(zl l zO _).2 ((qQ l zO _).2 ⟨c.r,hA,rfl⟩),?_⟩;have Wx:=wO hw hlv hi hb hd R7;rw[e]at hkc;simp only[keys,ot,xak,xaR,xbD]at hkc;rw[gl];rcases hkc with rfl|rfl
   ·refine⟨false,?_⟩
    funext z
    rw[Wx,aj,xad rfl,xab zI,jL hw hlv hi hb rfl a2 a3 hb.yn (by rw[hb.ly];exact xaj _) (xa9 hb.ne)]
   refine⟨true,?_⟩
   funext z
   rw[Wx,aj,xad rfl,xad rfl,jL hw hlv hi hb rfl a2 a3 hb.yn (by rw[hb.ly];exact xaj _) (xa9 hb.ne)]
  rw[gl1];refine xaD λhno=>ZS (hw.same hlv hi a2.1 a3.1 λz=>?_);have c1:=jy hw hlv hi hb a1 a2 a3 z false;have c2:=jy hw hlv hi hb a1 a2 a3 z true;simp only[xaO,xa2,xa7]at c1 c2;rw[<-c1,<-c2];exact xaD λhne=>hno ⟨z,hne⟩
 rintro(hg|⟨m,hmn,hf,hh⟩)
 ·exact .inl ((M4 g).1 hg)
 by_cases e1:m=l+1
 ·subst e1;rw[gl1]at hh;obtain⟨f,hf,b,rfl⟩:=hf;rw[gl]at hh⊢;obtain⟨r,hA,rfl⟩:=(qQ l zO f).1 ((zl l zO f).1 hf);obtain⟨hlr,hle⟩:=qL hw hR l r hA;have hgt:dep K.n ah K.N r=l:=by
   refine xey (xc5 λhlt=>?_) hle;obtain⟨z,hz⟩:=hh;refine hz ?_;show S r (aB (aB z x false) y b)=S r (aB (aB z x true) y b);rw[di hb.ne,di hb.ne,hw.bJ hlv hi hlr hb.xn (by rw[hb.lx];exact hlt),hw.bJ hlv hi hlr hb.xn (by rw[hb.lx];exact hlt)]
  rcases hlr with M9|⟨d,hd⟩
  ·rw[aT (hw.const M9)]at hgt;omega
  rw[an hd]at hgt;have R7:d.v=x:=hlv.inj _ _ (hw.var hd) hb.xn (by rw[hb.lx];exact hgt);have Wx:=wO hw hlv hi hb hd R7;have hkk:∃k∈keys x (ot K.N y r d),(λz=>S r (aB z y b))=ite S k:=by
   cases b
   ·refine⟨_,xbL,?_⟩;obtain⟨a1,a2,a3⟩:=l5 hw hlv hi hb hd R7 (k:=⟨x,pl K.N y d.lo,pl K.N y d.hi⟩) xbL
    funext z
    rw[Wx,aj,xad rfl,xab zI,jL hw hlv hi hb rfl a2 a3 hb.yn (by rw[hb.ly];exact xaj _) (xa9 hb.ne)];rfl
   refine⟨_,xbt _ xbL,?_⟩;obtain⟨a1,a2,a3⟩:=l5 hw hlv hi hb hd R7 (k:=⟨x,ph K.N y d.lo,ph K.N y d.hi⟩) (xbt _ xbL)
   funext z
   rw[Wx,aj,xad rfl,xad rfl,jL hw hlv hi hb rfl a2 a3 hb.yn (by rw[hb.ly];exact xaj _) (xa9 hb.ne)];rfl
  obtain⟨k,hkm,hke⟩:=hkk;obtain⟨a1,a2,a3⟩:=l5 hw hlv hi hb hd R7 hkm;rw[hke]at hh⊢;have ZS:k.lo≠k.hi:=λe=>by
   obtain⟨z,hz⟩:=hh;have c1:=jy hw hlv hi hb a1 a2 a3 z false;have c2:=jy hw hlv hi hb a1 a2 a3 z true;simp only[xaO,xa2,xa7]at c1 c2;rw[c1,c2,e]at hz;exact hz rfl
  cases hT:K.T k with
  |some s=>
   have hs:=((h.mid.kf k s).1 hT).1;refine .inl ⟨s,k,hs,?_⟩
   funext z
   exact(hi.node hs z).symm
  |none=>
   by_cases Z7:m5 K.N x y r d
   ·exact .inr ⟨k,(hm.mem k).2 ⟨⟨ot K.N y r d,(hc.mem _).2 ⟨Z7,rfl⟩,hkm⟩,hT,ZS⟩,rfl⟩
   have hno:∀t,t=d.lo\/t=d.hi->pl K.N y t=t/\ph K.N y t=t:=λt ht=>Vt λe he hv=>Z7 ⟨hd,R7,by
    rcases ht with rfl|rfl
    ·exact .inl ⟨e,he,hv⟩
    exact .inr ⟨e,he,hv⟩⟩
   have e1:=hno d.lo (.inl rfl);have e2:=hno d.hi (.inr rfl);have:k=d:=by
    simp only[keys,ot,e1.1,e1.2,e2.1,e2.2,xak,xaR,xbD,or_self]at hkm;rw[hkm,<-R7]
   rw[this,(h.mid.kf d r).2 ⟨hd,λx=>x⟩]at hT;cases hT
 by_cases e2:m=l
 ·subst e2;rw[gl]at hh;obtain⟨r,hA,rfl⟩:=(qQ m zO g).1 ((zl m e1 g).1 hf);obtain⟨hlr,hle⟩:=qL hw hR m r hA;rcases hlr with M9|⟨d,hd⟩
  ·obtain⟨z,hz⟩:=hh;have:∀z,S r z=S r 0:=λz=>by
    have:r=0\/r=1:=by omega
    rcases this with rfl|rfl
    ·rw[hi.zero,hi.zero]
    rw[hi.one,hi.one]
   rw[this (aB z y false),this (aB z y true)]at hz;exact absurd rfl hz
  exact .inl ⟨r,d,hd,rfl⟩
 refine .inl ((M4 g).1 ⟨m,hmn,(zl m e1 g).1 hf,?_⟩);rw[go m e2 e1]at hh;exact hh
end au
namespace au
open ak
def uf(K:Kd)(ah:Nat->Nat)(l t:Nat):Prop:=live K.N t/\l+1<dep K.n ah K.N t
def yu(K0 K:Kd)(ah:Nat->Nat)(x l t:Nat):Prop:=uf K0 ah l t\/∃e,K.N t=some e/\e.v=x/\uf K0 ah l e.lo/\uf K0 ah l e.hi
structure TI(K0:Kd)(S0:Nat->Fn)(ah:Nat->Nat)(x y l:Nat)(made:List Nd)(K:Kd)(S:Nat->Fn)(done rest:List Cx)(P:Nat->Nat):Prop where
 mid:jP K S (λs=>∃c∈rest,s=c.r) P
 n:K.n=K0.n
 cap:K.cap=K0.cap
 hold:∀r,K.hold r=K0.hold r
 ext:∀r,live K0.N r->S r=S0 r
 old:∀{r d},K0.N r=some d->r∉done.map Cx.r->K.N r=some d
 kept:∀{r d},K0.N r=some d->∃d',K.N r=some d'
 new:∀{r d},K.N r=some d->(K0.N r=some d/\r∉done.map Cx.r)\/(r∈done.map Cx.r/\d.v=y/\yu K0 K ah x l d.lo/\yu K0 K ah x l d.hi)\/(K0.N r=none/\d.v=x/\uf K0 ah l d.lo/\uf K0 ah l d.hi)
 used:K.used=K0.used+(made.filter λk=>(K.T k).isSome).length
structure TB(K0:Kd)(S0:Nat->Fn)(ah:Nat->Nat)(x y l:Nat)(all:List Cx)(made:List Nd):Prop where
 ok:Ok K0 S0 ah
 nb:Nb K0.n ah x y l
 cx:LA K0.N x y all
 mad:Made K0 x all made
 room:K0.used+made.length<=K0.cap
section
variable {K0 K:Kd} {S0 S:Nat->Fn} {ah:Nat->Nat} {x y l:Nat} {made:List Nd} {done rest all:List Cx} {P:Nat->Nat}
theorem TB.ou(b:TB K0 S0 ah x y l all made){c:Cx}(hc:c∈all):K0.N c.r=some c.d/\c.d.v=x/\c=ot K0.N y c.r c.d:=by
 obtain⟨⟨h1,h2,_⟩,h3⟩:=(b.cx.mem c).1 hc;exact⟨h1,h2,h3⟩
theorem TB.VR(b:TB K0 S0 ah x y l all made){c:Cx}(hc:c∈all):(uf K0 ah l c.ym/\uf K0 ah l c.ud)/\(uf K0 ah l c.yl/\uf K0 ah l c.uc):=by
 obtain⟨h1,h2,h3⟩:=b.ou hc;have k1:=l5 b.ok.wf b.ok.lv b.ok.mid.int b.nb h1 h2 (k:=⟨x,pl K0.N y c.d.lo,pl K0.N y c.d.hi⟩) xbL;have k2:=l5 b.ok.wf b.ok.lv b.ok.mid.int b.nb h1 h2 (k:=⟨x,ph K0.N y c.d.lo,ph K0.N y c.d.hi⟩) (xbt _ xbL);rw[h3];exact⟨⟨k1.2.1,k1.2.2⟩,⟨k2.2.1,k2.2.2⟩⟩
theorem TB.level(b:TB K0 S0 ah x y l all made){c:Cx}(hc:c∈all):dep K0.n ah K0.N c.r=l:=by
 obtain⟨h1,h2,_⟩:=b.ou hc;rw[an h1,h2,b.nb.lx]
theorem TB.start(b:TB K0 S0 ah x y l all made){T:Nd->Option Nat}(hm:jP {K0 with T:=T} S0 (λs=>∃c∈all,s=c.r) zero')(hT:∀d,T d=none\/T d=K0.T d):
  TI K0 S0 ah x y l made {K0 with T:=T} S0 [] all zero' where
 mid:=hm
 n:=rfl
 cap:=rfl
 hold:=λ_=>rfl
 ext:=λ_ _=>rfl
 old:=λh _=>h
 kept:=λh=>⟨_,h⟩
 new:=λh=>.inl ⟨h,by simp⟩
 used:=by
  have:made.filter (λk=>(T k).isSome)=[]:=by
   rw[xdl];intro k hk;have h1:=((b.mad.mem k).1 hk).2.1;rcases hT k with h2|h2
   ·rw[h2];simp
   rw[h2,h1];simp
  show K0.used=K0.used+(made.filter (λk=>(T k).isSome)).length;rw[this];simp
theorem TI.VT(b:TB K0 S0 ah x y l all made)(h:TI K0 S0 ah x y l made K S done rest P)(hd:∀c∈done,c∈all){t:Nat}(ht:uf K0 ah l t):K.N t=K0.N t:=by
 rcases ht with⟨ht|⟨d,dP⟩,hlt⟩
 ·cases e:K.N t with
  |none=>rw[b.ok.wf.const ht]
  |some d=>have:=(h.mid.two e).1;omega
 ·rw[dP];refine h.old dP λhm=>?_;obtain⟨c,hc,e⟩:=xan.1 hm;have:=b.level (hd c hc);rw[e]at this;omega
theorem TI.rC(b:TB K0 S0 ah x y l all made)(h:TI K0 S0 ah x y l made K S done rest P)(hd:∀c∈done,c∈all){t:Nat}(ht:uf K0 ah l t):live K.N t:=by
 have e:=h.VT b hd ht;rcases ht.1 with ht|⟨d,dP⟩
 ·exact .inl ht
 exact .inr ⟨d,by rw[e];exact dP⟩
theorem TI.rG(b:TB K0 S0 ah x y l all made)(h:TI K0 S0 ah x y l made K S done rest P)(hd:∀c∈done,c∈all){t:Nat}(ht:yu K0 K ah x l t):live K.N t:=by
 rcases ht with ht|⟨e,he,_⟩
 ·exact h.rC b hd ht
 exact .inr ⟨e,he⟩
theorem TI.use(h:TI K0 S0 ah x y l made K S done rest P){r:Nat}{dA:zL}(hl:dA.length=K.us.length)(h1:dA.getD r 0=K.use r+1)(h2:∀s,s≠r->dA.getD s 0=K.use s):
  TI K0 S0 ah x y l made {K with us:=dA} S done rest (up P r (P r+1)) where
 mid:=h.mid.more hl h1 h2
 n:=h.n
 cap:=h.cap
 hold:=h.hold
 ext:=h.ext
 old:=h.old
 kept:=h.kept
 new:=h.new
 used:=h.used
theorem TI.congr(h:TI K0 S0 ah x y l made K S done rest P){P':Nat->Nat}(hP:∀s,2<=s->P s=P' s):TI K0 S0 ah x y l made K S done rest P' where
 mid:=h.mid.congr (λ_=>xcT) hP
 n:=h.n
 cap:=h.cap
 hold:=h.hold
 ext:=h.ext
 old:=h.old
 kept:=h.kept
 new:=h.new
 used:=h.used
theorem filter_lt{α:Type}{p:α->Bool}{k:α}:∀{m:List α},k∈m->p k=false->(m.filter p).length<m.length
 | [],h,_=>by simp at h
 |z::m,h,hp=>by
  rcases xak.1 h with rfl|h
  ·rw[xby,xab (by simp[hp])];have:=xb2 p m;simp;omega
  have:=filter_lt h hp;rw[xby];split
  ·rw[xaz,xaz];omega
  rw[xaz];omega
theorem TI.fits(b:TB K0 S0 ah x y l all made)(h:TI K0 S0 ah x y l made K S done rest P){k:Nd}(hk:k∈made)(hT:K.T k=none):K.used<K.cap:=by
 have h1:=filter_lt (p:=λk=>(K.T k).isSome) hk (by rw[hT];rfl);have h2:=h.used;have h3:=b.room;have h4:=h.cap;omega
theorem oo{T:Nd->Option Nat}{k:Nd}{r:Nat}:∀{m:List Nd},m.Nodup->T k=none->(m.filter λd=>(qM T k (some r) d).isSome).length=(m.filter λd=>(T d).isSome).length+(if k∈m then 1 else 0)
 | [],_,_=>rfl
 |z::m,hn,hT=>by
  obtain⟨h1,h2⟩:=xaW.1 hn;have ih:=oo (r:=r) h2 hT;rw[xby,xby];by_cases e:z=k
  ·subst e;rw[jQ,hT];simp only[Option.isSome_some,xa7,Option.isSome_none,xaO,xa2,xaz,ih,xab h1,xak,true_or]
  rw[pZ e];have e2:(k∈z::m)↔k∈m:=by rw[xak];exact⟨λh=>h.resolve_left (λh=>e h.symm),.inr⟩
  simp only[e2];split
  ·simp only[xaz,ih];omega
  exact ih
theorem TB.A5(b:TB K0 S0 ah x y l all made){t:Nat}(ht:uf K0 ah l t){e:Nd}(he:K0.N t=some e):l+1<ah e.v:=by
 have:=ht.2;rwa [an he]at this
theorem TB.CZ(b:TB K0 S0 ah x y l all made){c:Cx}(hc:c∈all)(h1:uf K0 ah l c.d.lo)(h2:uf K0 ah l c.d.hi):False:=by
 obtain⟨⟨_,_,h3⟩,_⟩:=(b.cx.mem c).1 hc;have hy:=b.nb.ly;rcases h3 with⟨e,he,hv⟩|⟨e,he,hv⟩
 ·have:=b.A5 h1 he;rw[hv]at this;omega
 have:=b.A5 h2 he;rw[hv]at this;omega
theorem TI.Rz(b:TB K0 S0 ah x y l all made)(h:TI K0 S0 ah x y l made K S done rest P)(hd:∀c∈done,c∈all)(hr:∀c∈rest,c∈all){c:Cx}(hc:c∈all){k:Nd}(hk:k∈keys x c)(hne:k.lo≠k.hi)(h1:uf K0 ah l k.lo)(h2:uf K0 ah l k.hi)(hT:K.T k=none):k∈made:=by
 refine(b.mad.mem k).2 ⟨⟨c,hc,hk⟩,?_,hne⟩;cases e:K0.T k with
 |none=>rfl
 |some s=>
  have hs:=((b.ok.mid.kf k s).1 e).1;have hno:∀c'∈all,s≠c'.r:=λc' pe e'=>by
   have h3:=(b.ou pe).1;rw[<-e',hs]at h3;cases h3;exact b.CZ pe h1 h2
  have uI:K.N s=some k:=by
   refine h.old hs λhm=>?_;obtain⟨c',pe,e'⟩:=xan.1 hm;exact hno c' (hd c' pe) e'.symm
  have:=(h.mid.kf k s).2 ⟨uI,by rintro⟨c',pe,e'⟩;exact hno c' (hr c' pe) e'⟩;rw[hT]at this;cases this
theorem TI.lay(b:TB K0 S0 ah x y l all made)(h:TI K0 S0 ah x y l made K S done rest P)(hd:∀c∈done,c∈all)(hr:∀c∈rest,c∈all){c:Cx}(hc:c∈all){k:Nd}(hk:k∈keys x c)(hne:k.lo≠k.hi)(hT:K.T k=none)
 {r:Nat}{dA cz:zL}(hN:K.N r=none)(h2:2<=r/\r<K.cap)(hl:dA.length=cz.length)(hf:r<dA.length/\K.us.length<=dA.length)(u0:dA.getD r 0=0)(u1:∀s,2<=s->s≠r->dA.getD s 0=K.use s+e1 (some k) s)(o0:cz.getD r 0=0)(o1:∀s,s≠r->cz.getD s 0=K.hold s)(hP:P r=0):
  TI K0 S0 ah x y l made {K with N:=up K.N r (some k),T:=qM K.T k (some r),used:=K.used+1,us:=dA,ho:=cz} (up S r (ite S k)) done rest P/\yu K0 {K with N:=up K.N r (some k),T:=qM K.T k (some r),used:=K.used+1,us:=dA,ho:=cz} ah x l r:=by
 have mW:=b.VR hc;have hkv:k.v=x/\uf K0 ah l k.lo/\uf K0 ah l k.hi:=by
  simp only[keys,xak,xaR,xbD]at hk;rcases hk with rfl|rfl
  ·exact⟨rfl,mW.1.1,mW.1.2⟩
  exact⟨rfl,mW.2.1,mW.2.2⟩
 have hkN:K0.N r=none:=by
  cases e:K0.N r with
  |none=>rfl
  |some d=>obtain⟨d',dP⟩:=h.kept e;rw[hN]at dP;cases dP
 have hkm:=h.Rz b hd hr hc hk hne hkv.2.1 hkv.2.2 hT;have hE:¬∃c∈rest,r=c.r:=by
  rintro⟨c',pe,rfl⟩;have:=(b.ou (hr c' pe)).1;rw[hkN]at this;cases this
 have F5:∀{t},yu K0 K ah x l t->yu K0 {K with N:=up K.N r (some k),T:=qM K.T k (some r),used:=K.used+1,us:=dA,ho:=cz} ah x l t:=λht=>by
  rcases ht with ht|⟨e,he,h3⟩
  ·exact .inl ht
  refine .inr ⟨e,?_,h3⟩;show up K.N r (some k) _=_;rw[aQ (λe2=>by rw[e2,hN]at he;cases he)];exact he
 refine⟨⟨h.mid.lay hN h2 (by rw[hkv.1,h.n];exact b.nb.xn) hne (h.rC b hd hkv.2.1) (h.rC b hd hkv.2.2) hT hE hP (h.fits b hkm hT) hl hf u0 u1 o0 o1,h.n,h.cap,λs=>?_,λs hs=>?_,λ{s d} hs hm=>?_,λ{s d} hs=>?_,λ{s d} hs=>?_,?_⟩,?_⟩
 ·show cz.getD s 0=_;rw[<-h.hold];by_cases e:s=r
  ·subst e;rw[o0];refine(xaD λhno=>?_);obtain⟨d,dP⟩:=h.mid.held s (λe=>hno e.symm);rw[hN]at dP;cases dP
  exact o1 s e
 ·rw[aQ (gh hs h2.1 hkN)];exact h.ext s hs
 ·show up K.N r (some k) s=_;rw[aQ (λe=>by rw[e,hkN]at hs;cases hs)];exact h.old hs hm
 ·obtain⟨d',dP⟩:=h.kept hs;exact⟨d',by show up K.N r (some k) s=_;rw[aQ (λe=>by rw[e,hkN]at hs;cases hs)];exact dP⟩
 ·have hs':up K.N r (some k) s=some d:=hs;by_cases e:s=r
  ·subst e;rw[aO]at hs';cases hs';exact .inr (.inr ⟨hkN,hkv⟩)
  rw[aQ e]at hs';rcases h.new hs' with h1|⟨h1,nL,h3,h4⟩|h1
  ·exact .inl h1
  ·exact .inr (.inl ⟨h1,nL,F5 h3,F5 h4⟩)
  exact .inr (.inr h1)
 ·show K.used+1=K0.used+(made.filter λd=>(qM K.T k (some r) d).isSome).length;rw[oo b.mad.nd hT,xad hkm,h.used];omega
 exact .inr ⟨k,aO,hkv⟩
theorem TI.found(b:TB K0 S0 ah x y l all made)(h:TI K0 S0 ah x y l made K S done rest P){c:Cx}(hc:c∈all){k:Nd}(hk:k∈keys x c){r:Nat}(hT:K.T k=some r):K.N r=some k/\yu K0 K ah x l r:=by
 have mW:=b.VR hc;have hN:=((h.mid.kf k r).1 hT).1;simp only[keys,xak,xaR,xbD]at hk;rcases hk with rfl|rfl
 ·exact⟨hN,.inr ⟨_,hN,rfl,mW.1.1,mW.1.2⟩⟩
 exact⟨hN,.inr ⟨_,hN,rfl,mW.2.1,mW.2.2⟩⟩
theorem TI.XT(b:TB K0 S0 ah x y l all made)(h:TI K0 S0 ah x y l made K S done rest P){a a' t:Nat}(la:uf K0 ah l a)(FL:uf K0 ah l a')(g:(a=a'/\t=a)\/K.N t=some ⟨x,a,a'⟩)(z:Nat):S t z=ite S0 ⟨x,a,a'⟩ z:=by
 rcases g with⟨rfl,rfl⟩|g
 ·rw[h.ext t la.1];unfold ite;simp
 rw[h.mid.int.node g];unfold ite;simp only;rw[h.ext a la.1,h.ext a' FL.1]
theorem TI.VS(b:TB K0 S0 ah x y l all made)(h:TI K0 S0 ah x y l made K S done rest P)(hd:∀c∈done,c∈all){a a' t:Nat}(ht:uf K0 ah l t)(g:K.N t=some ⟨x,a,a'⟩):False:=by
 rw[h.VT b hd ht]at g;have:=b.A5 ht g;have hx:=b.nb.lx;simp only at this;omega
theorem TI.ew(b:TB K0 S0 ah x y l all made){c:Cx}(h:TI K0 S0 ah x y l made K S done (c::rest) P)(hd:∀c∈done,c∈all)(hr:∀c'∈c::rest,c'∈all)(hn:((done++c::rest).map Cx.r).Nodup){t0 t1:Nat}
 (k0:yu K0 K ah x l t0)(k1:yu K0 K ah x l t1)(g0:(c.ym=c.ud/\t0=c.ym)\/K.N t0=some ⟨x,c.ym,c.ud⟩)(g1:(c.yl=c.uc/\t1=c.yl)\/K.N t1=some ⟨x,c.yl,c.uc⟩){P':Nat->Nat}(hP:∀s,2<=s->P' s+e1 (some ⟨y,t0,t1⟩) s=P s+e1 (some c.d) s):
  K.T ⟨y,t0,t1⟩=none/\TI K0 S0 ah x y l made {K with N:=up K.N c.r (some ⟨y,t0,t1⟩),T:=qM K.T ⟨y,t0,t1⟩ (some c.r)} S (done++[c]) rest P':=by
 have hc:=hr c zI;obtain⟨Bi,BR,hce⟩:=b.ou hc;obtain⟨⟨l00,l10⟩,⟨l01,l11⟩⟩:=b.VR hc;have w:=b.ok.wf;have hi:=b.ok.mid.int;have hlo:=w.lo Bi;have hhi:=w.hi Bi;rw[BR,b.nb.lx]at hlo hhi;have ep:c.ym=pl K0.N y c.d.lo/\c.yl=ph K0.N y c.d.lo/\c.ud=pl K0.N y c.d.hi/\c.uc=ph K0.N y c.d.hi:=by rw[hce];exact⟨rfl,rfl,rfl,rfl⟩
 have both:c.ym=c.ud->c.yl=c.uc->False:=λe1 e2=>by
  rw[ep.1,ep.2.2.1]at e1;rw[ep.2.1,ep.2.2.2]at e2;exact w.ne Bi (w.WA b.ok.lv hi b.nb.yy hlo.1 hhi.1 hlo.2 hhi.2 e1 e2)
 have hrn:c.r∉done.map Cx.r:=by
  rw[xaB,xa3]at hn;intro hm;exact hn.2.2 _ hm _ zI rfl
 have KJ:=h.old Bi hrn;have fn0:=λz=>h.XT b l00 l10 g0 z;have fn1:=λz=>h.XT b l01 l11 g1 z;have hS:∀z,S c.r z=ite S ⟨y,t0,t1⟩ z:=λz=>by
  rw[h.ext c.r (.inr ⟨_,Bi⟩),wO w b.ok.lv hi b.nb Bi BR z];unfold ite;simp only;have a0:=fn0 z;have a1:=fn1 z;unfold ite at a0 a1;simp only at a0 a1;rw[a0,a1,ep.1,ep.2.1,ep.2.2.1,ep.2.2.2]
 have hne:t0≠t1:=λe=>by
  subst e;rcases g0 with⟨e1,e2⟩|g0
  ·rcases g1 with⟨e3,e4⟩|g1
   ·exact both e1 e3
   rw[e2]at g1;exact h.VS b hd l00 g1
  rcases g1 with⟨e3,e4⟩|g1
  ·rw[e4]at g0;exact h.VS b hd l01 g0
  rw[g0]at g1;simp only[xar,Nd.mk.injEq,xcU]at g1;obtain⟨q1,q2⟩:=g1;obtain⟨⟨_,_,Z7⟩,_⟩:=(b.cx.mem c).1 hc;rw[ep.1,ep.2.1]at q1;rw[ep.2.2.1,ep.2.2.2]at q2;rcases Z7 with⟨e,he,hv⟩|⟨e,he,hv⟩
  ·have:=Vs he hv;rw[this.1,this.2]at q1;exact w.ne he q1
  have:=Vs he hv;rw[this.1,this.2]at q2;exact w.ne he q2
 have hT:K.T ⟨y,t0,t1⟩=none:=by
  cases e:K.T ⟨y,t0,t1⟩with
  |none=>rfl
  |some s=>
   obtain⟨hs,RI⟩:=(h.mid.kf _ s).1 e;rcases h.new hs with⟨h1,_⟩|⟨h1,_⟩|⟨_,h1,_⟩
   ·have q1:=w.lo h1;have q2:=w.hi h1;simp only at q1 q2;rw[b.nb.ly]at q1 q2;have p1:c.ym=c.ud:=by
     rcases g0 with⟨e1,_⟩|g0
     ·exact e1
     exact(h.VS b hd q1 g0).elim
    have p2:c.yl=c.uc:=by
     rcases g1 with⟨e1,_⟩|g1
     ·exact e1
     exact(h.VS b hd q2 g1).elim
    exact(both p1 p2).elim
   ·obtain⟨c',pe,e'⟩:=xan.1 h1;have Se:=(b.ou (hd c' pe)).1;have:c'.r=c.r:=w.same b.ok.lv hi (.inr ⟨_,Se⟩) (.inr ⟨_,Bi⟩) λz=>by
     rw[<-h.ext c'.r (.inr ⟨_,Se⟩),<-h.ext c.r (.inr ⟨_,Bi⟩),hS z,e',h.mid.int.node hs z];rfl
    exact absurd (xan.2 ⟨c',pe,this⟩) hrn
   exact absurd h1 (xa9 b.nb.ne)
 have F5:∀{t},yu K0 K ah x l t->yu K0 {K with N:=up K.N c.r (some ⟨y,t0,t1⟩),T:=qM K.T ⟨y,t0,t1⟩ (some c.r)} ah x l t:=λht=>by
  rcases ht with ht|⟨e,he,h3⟩
  ·exact .inl ht
  refine .inr ⟨e,?_,h3⟩;show up K.N c.r (some ⟨y,t0,t1⟩) _=_;refine(aQ λe2=>?_).trans he;rw[e2,KJ]at he;cases he;exact b.CZ hc h3.2.1 h3.2.2
 have hml:∀s,s∈(done++[c]).map Cx.r↔s∈done.map Cx.r\/s=c.r:=λs=>by simp[xao]
 refine⟨hT,⟨(h.mid.ew KJ ⟨c,by simp,rfl⟩ (by rw[h.n];exact b.nb.yn) hne (h.rG b hd k0) (h.rG b hd k1) hT hS hP).congr (λs=>?_) (λ_ _=>rfl),h.n,h.cap,h.hold,h.ext,λ{s d} hs hm=>?_,λ{s d} hs=>?_,λ{s d} hs=>?_,?_⟩⟩
 ·constructor
  ·rintro⟨⟨c',pe,rfl⟩,h2⟩;rcases xak.1 pe with rfl|pe
   ·exact absurd rfl h2
   exact⟨c',pe,rfl⟩
  rintro⟨c',pe,rfl⟩;refine⟨⟨c',xbt _ pe,rfl⟩,λe=>?_⟩;rw[xaB,xa3]at hn;have:=hn.2.1;rw[xay,xaW]at this;exact this.1 (xan.2 ⟨c',pe,e⟩)
 ·have hm':=λx=>hm ((hml s).2 x);show up K.N c.r _ s=_;rw[aQ (λe=>hm' (.inr e))];exact h.old hs (λx=>hm' (.inl x))
 ·by_cases e:s=c.r
  ·exact⟨⟨y,t0,t1⟩,by show up K.N c.r (some _) s=_;rw[e,aO]⟩
  obtain⟨d',dP⟩:=h.kept hs;exact⟨d',by show up K.N c.r (some _) s=_;rw[aQ e];exact dP⟩
 ·have hs':up K.N c.r (some ⟨y,t0,t1⟩) s=some d:=hs;by_cases e:s=c.r
  ·rw[e,aO]at hs';cases hs';exact .inr (.inl ⟨(hml s).2 (.inr e),rfl,F5 k0,F5 k1⟩)
  rw[aQ e]at hs';rcases h.new hs' with⟨h1,h2⟩|⟨h1,h2,h3,h4⟩|h1
  ·exact .inl ⟨h1,λhm=>((hml s).1 hm).elim h2 e⟩
  ·exact .inr (.inl ⟨(hml s).2 (.inl h1),h2,F5 h3,F5 h4⟩)
  exact .inr (.inr h1)
 show K.used=K0.used+(made.filter λd=>(qM K.T ⟨y,t0,t1⟩ (some c.r) d).isSome).length;have hnm:(⟨y,t0,t1⟩:Nd)∉made:=λhm=>by
  obtain⟨⟨c',pe,hk⟩,_⟩:=(b.mad.mem _).1 hm;simp only[keys,xak,xaR,xbD,Nd.mk.injEq]at hk;rcases hk with⟨e,_⟩|⟨e,_⟩
  ·exact b.nb.ne e.symm
  exact b.nb.ne e.symm
 rw[oo b.mad.nd hT,xab hnm,h.used];rfl
theorem TI.levels(b:TB K0 S0 ah x y l all made)(h:TI K0 S0 ah x y l made K S all [] P){s:Nat}{d:Nd}(hs:K.N s=some d):
  uj ah x y l d.v<dep K0.n (uj ah x y l) K.N d.lo/\uj ah x y l d.v<dep K0.n (uj ah x y l) K.N d.hi:=by
 have w:=b.ok.wf;have hd:∀c∈all,c∈all:=λ_ h=>h;have Zy:l+1<K0.n:=by have:=b.ok.lv.lt y b.nb.yn;rw[b.nb.ly]at this;exact this
 have sx:uj ah x y l x=l+1:=by simp[uj]
 have sy:uj ah x y l y=l:=by unfold uj;rw[xab (xa9 b.nb.ne),xad rfl]
 have so:∀v,v<K0.n->ah v≠l->ah v≠l+1->uj ah x y l v=ah v:=λv hv h1 h2=>by
  unfold uj;rw[xab (λe=>h1 (by rw[e];exact b.nb.lx)),xab (λe=>h2 (by rw[e];exact b.nb.ly))]
 have low:∀{t},uf K0 ah l t->l+1<dep K0.n (uj ah x y l) K.N t:=λ{t} ht=>by
  have e:=h.VT b hd ht;cases e2:K0.N t with
  |none=>rw[aT (by rw[e,e2])];exact Zy
  |some e'=>
   have:=b.A5 ht e2;rw[an (by rw[e,e2]),so _ (w.var e2) zO zO];exact this
 have zg:∀{t},yu K0 K ah x l t->l<dep K0.n (uj ah x y l) K.N t:=λ{t} ht=>by
  rcases ht with ht|⟨e,he,hx,_⟩
  ·have:=low ht;omega
  rw[an he,hx,sx];omega
 rcases h.new hs with⟨h1,h2⟩|⟨_,h2,h3,h4⟩|⟨_,h2,h3,h4⟩
 ·have hv:=w.var h1;have q1:=w.lo h1;have q2:=w.hi h1;rcases xcJ (ah d.v) l with hlt|heq|hgt
  ·rw[so _ hv zO zO];have up':∀{t},live K0.N t->ah d.v<dep K0.n ah K0.N t->ah d.v<dep K0.n (uj ah x y l) K.N t:=λ{t} ht iA=>by
    cases e:K.N t with
    |none=>rw[aT e];exact xaP iA (w.iD b.ok.lv t)
    |some e'=>
     rw[an e];rcases h.new e with⟨g1,_⟩|⟨_,g2,_⟩|⟨g1,_⟩
     ·rw[an g1]at iA;have hve:=w.var g1;by_cases e1:ah e'.v=l
      ·have:e'.v=x:=b.ok.lv.inj _ _ hve b.nb.xn (by rw[b.nb.lx];exact e1);rw[this,sx];omega
      by_cases e2:ah e'.v=l+1
      ·have:e'.v=y:=b.ok.lv.inj _ _ hve b.nb.yn (by rw[b.nb.ly];exact e2);rw[this,sy];exact hlt
      rw[so _ hve e1 e2];exact iA
     ·rw[g2,sy];exact hlt
     rcases ht with ht|⟨f,hf⟩
     ·have:=(h.mid.two e).1;omega
     rw[g1]at hf;cases hf
   exact⟨up' q1.1 q1.2,up' q2.1 q2.2⟩
  ·have hx:d.v=x:=b.ok.lv.inj _ _ hv b.nb.xn (by rw[b.nb.lx];exact heq);rw[hx,sx];have nc:∀t,t=d.lo\/t=d.hi->∀e,K0.N t=some e->e.v≠y:=λt ht e he hv=>h2 (xan.2 ⟨ot K0.N y s d,(b.cx.mem _).2 ⟨⟨h1,hx,by
    rcases ht with rfl|rfl
    ·exact .inl ⟨e,he,hv⟩
    exact .inr ⟨e,he,hv⟩⟩,rfl⟩,rfl⟩)
   have lw:∀t,t=d.lo\/t=d.hi->live K0.N t->ah d.v<dep K0.n ah K0.N t->uf K0 ah l t:=λt ht hlv hlt=>by
    refine⟨hlv,?_⟩;have:=(w.half b.ok.lv b.ok.mid.int b.nb.yy hlv (by omega:l<dep K0.n ah K0.N t)).1.2;rwa [(Vt (nc t ht)).1]at this
   exact⟨low (lw _ (.inl rfl) q1.1 q1.2),low (lw _ (.inr rfl) q2.1 q2.2)⟩
  by_cases e:ah d.v=l+1
  ·have hy:d.v=y:=b.ok.lv.inj _ _ hv b.nb.yn (by rw[b.nb.ly];exact e);rw[hy,sy];have a1:=low ⟨q1.1,by omega⟩;have a2:=low ⟨q2.1,by omega⟩;exact⟨by omega,by omega⟩
  rw[so _ hv zO e];have deep:∀{t},live K0.N t->ah d.v<dep K0.n ah K0.N t->ah d.v<dep K0.n (uj ah x y l) K.N t:=λ{t} ht iA=>by
   have hl:uf K0 ah l t:=⟨ht,by omega⟩;have e':=h.VT b hd hl;cases e2:K0.N t with
   |none=>rw[aT (by rw[e',e2])];exact b.ok.lv.lt _ hv
   |some f=>
    rw[an e2]at iA;rw[an (by rw[e',e2]),so _ (w.var e2) zO zO];exact iA
  exact⟨deep q1.1 q1.2,deep q2.1 q2.2⟩
 ·rw[h2,sy];exact⟨zg h3,zg h4⟩
 rw[h2,sx];exact⟨low h3,low h4⟩
theorem TI.fin(b:TB K0 S0 ah x y l all made)(h:TI K0 S0 ah x y l made K S all [] P){K':Kd}(hm:jP K' S iN zero')(hp:Pos K')(hN:∀{s d},K'.N s=some d->K.N s=some d)(hn:K'.n=K.n)(hh:∀r,K'.hold r=K.hold r):
  Ok K' S (uj ah x y l)/\(∀g,K'.held S g↔K0.held S0 g)/\∀r,K0.hold r≠0->S r=S0 r:=by
 have Gf:∀r,K0.hold r≠0->S r=S0 r:=λr hr=>h.ext r (.inr (b.ok.mid.held r hr));refine⟨⟨hm,hp,by rw[hn,h.n];exact UW b.ok.lv b.nb,hm.wf λ{s d} hs=>?_⟩,λg=>?_,Gf⟩
 ·have hl:=h.levels b (hN hs);have same:∀{t},live K'.N t->dep K'.n (uj ah x y l) K'.N t=dep K0.n (uj ah x y l) K.N t:=λ{t} ht=>by
   cases e:K'.N t with
   |some f=>rw[an e,an (hN e)]
   |none=>
    have X1:t<2:=by
     rcases ht with ht|⟨f,hf⟩
     ·exact ht
     rw[e]at hf;cases hf
    have:K.N t=none:=by
     cases e2:K.N t with
     |none=>rfl
     |some f=>have:=(h.mid.two e2).1;omega
    rw[aT e,aT this,hn,h.n]
  rw[same (hm.lo hs),same (hm.hi hs)];exact hl
 constructor
 ·rintro⟨r,hr,rfl⟩;have hr':K0.hold r≠0:=by rw[<-h.hold,<-hh];exact hr
  exact⟨r,hr',Gf r hr'⟩
 rintro⟨r,hr,rfl⟩;exact⟨r,by show K'.hold r≠0;rw[hh,h.hold];exact hr,(Gf r hr).symm⟩
end
end au
namespace au
open ak
variable {n cap l:Nat} {ord:zL} {F G:Fn->Prop}
open Classical in
noncomputable def sz(n:Nat)(ord:zL)(F:Fn->Prop):Nat:=if h:∃k,nw (aD n ord F) k then Classical.choose h else 0
theorem JX{k:Nat}(h:nw (aD n ord F) k):sz n ord F=k:=by
 unfold sz;rw[xdW ⟨k,h⟩];exact(xcj (⟨k,h⟩:∃k,nw (aD n ord F) k)).uniq h
def Pd(n:Nat)(ord:zL)(l:Nat)(F:Fn->Prop):Fn->Prop:=λg=>aD n ord F g\/aD n (fK ord l) F g
open Classical in
noncomputable def AE(n:Nat)(ord:zL)(l:Nat)(F:Fn->Prop):Nat:=if h:∃k,nw (Pd n ord l F) k then Classical.choose h else 0
theorem YL{k:Nat}(h:nw (Pd n ord l F) k):AE n ord l F=k:=by
 unfold AE;rw[xdW ⟨k,h⟩];exact(xcj (⟨k,h⟩:∃k,nw (Pd n ord l F) k)).uniq h
theorem PZ(e:∀g,F g↔G g):sz n ord F=sz n ord G:=by
 have:F=G:=funext λg=>propext (e g);rw[this]
theorem LX(e:∀g,F g↔G g):AE n ord l F=AE n ord l G:=by
 have:F=G:=funext λg=>propext (e g);rw[this]
theorem DW{a b:zL}(hl:a.length=b.length)(h:∀i,i<a.length->a.getD i 0=b.getD i 0):a=b:=by
 refine List.ext_getElem hl λi h1 h2=>?_;have:=h i h1;simpa[List.getD,xaa h1,xaa h2]using this
theorem qY(hl:l+1<ord.length):fK (fK ord l) l=ord:=by
 refine DW (by rw[mF,mF]) λi _=>?_;have h2:l+1<(fK ord l).length:=by rw[mF];exact hl
 rw[fp h2,fp hl,fp hl,fp hl];by_cases e:i=l
 ·subst e;simp
 by_cases e2:i=l+1
 ·subst e2;simp
 simp[e,e2]
theorem UJ(hl:l+1<ord.length):AE n (fK ord l) l F=AE n ord l F:=by
 have:Pd n (fK ord l) l F=Pd n ord l F:=by
  funext g
  unfold Pd;rw[qY hl];exact propext or_comm
 unfold AE;rw[this]
def yo(n cap:Nat)(F:Fn->Prop):zL->zL->Prop
 |_,[]=>True
 |ord,l::r=>l+1<n/\AE n ord l F+2<=cap/\yo n cap F (fK ord l) r
theorem yo.congr(e:∀g,F g↔G g):∀{tr ord:zL},yo n cap F ord tr->yo n cap G ord tr:=by
 have:F=G:=funext λg=>propext (e g);subst this;exact λ{tr ord} h=>h
theorem yo.ahS(hlen:ord.length=n)(hl:l+1<n)(hfit:AE n ord l F+2<=cap){tr:zL}(h:yo n cap F ord tr.reverse):yo n cap F (fK ord l) (tr++[l]).reverse:=by
 rw[List.reverse_append];exact⟨hl,by rw[UJ zO];exact hfit,by rw[qY zO];exact h⟩
end au
namespace au
open ak
variable {n l:Nat} {ord:zL} {L:ak.Fs} {F:Fn->Prop}
def pG(n:Nat)(ws:zL):Fn:=λx=>bit ws (x%2^n)
theorem nS{x v n:Nat}{b:Bool}(hv:v<n):aB x v b%2^n=aB (x%2^n) v b:=by
 apply xaV;intro k;rw[xbz,aj,aj,xbz];by_cases e:k=v
 ·subst e;simp[hv]
 simp[e]
theorem KU{v:Nat}{ws:zL}(hf:eV n ws)(hv:v<n)(b:Bool):pG n (iI n ws v b)=λx=>pG n ws (aB x v b):=by
 funext x
 unfold pG;rw[eW hf hv (xbB _ (xbw n)),nS hv]
theorem SN{ws:zL}{x:Nat}(h:x<2^n):pG n ws x=bit ws x:=by unfold pG;rw[xbk h]
theorem W0{a b:zL}(ha:eV n a)(hb:eV n b)(h:pG n a=pG n b):a=b:=ha.ext hb λx hx=>by rw[<-SN hx,<-SN hx,h]
theorem zG{v:Nat}{ws:zL}(hf:eV n ws)(hv:v<n):bU (pG n ws) v↔ak.dep n ws v=true:=by
 rw[uO hf hv];constructor
 ·rintro⟨x,hx⟩;refine⟨x%2^n,xbB _ (xbw n),?_⟩;unfold pG at hx;rwa [nS hv,nS hv]at hx
 rintro⟨x,hx,hne⟩;refine⟨x,?_⟩;unfold pG;rwa [nS hv,nS hv,xbk hx]
def cur(n:Nat)(ord:zL)(L:ak.Fs):Nat->ak.Fs
 |0=>mC L
 |k+1=>given n (cur n ord L k) (ord.getD k 0)
def FT(n:Nat)(L:ak.Fs):Fn->Prop:=λg=>∃t∈L,g=pG n t
theorem z6:∀k,(cur n ord L k).Nodup
 |0=>mB L
 |k+1=>om _ _ _
theorem rU(hL:∀t∈L,eV n t)(hn:n<=16):∀k,∀t∈cur n ord L k,eV n t
 |0,t,h=>hL t (gu.1 h)
 |k+1,t,h=>by obtain⟨u,_,b,rfl⟩:=cg.1 h;exact eB hn
theorem Gk(hL:∀t∈L,eV n t)(hn:n<=16)(ho:∀i,i<n->ord.getD i 0<n):∀k,k<=n->∀g,fs ord (FT n L) k g↔∃t∈cur n ord L k,g=pG n t
 |0,_,g=>by
  show(∃t∈L,g=pG n t)↔_;constructor
  ·rintro⟨t,h,e⟩;exact⟨t,gu.2 h,e⟩
  rintro⟨t,h,e⟩;exact⟨t,gu.1 h,e⟩
 |k+1,hk,g=>by
  have ih:=Gk hL hn ho k zO;constructor
  ·rintro⟨f,hf,b,rfl⟩;obtain⟨t,ht,rfl⟩:=(ih f).1 hf;exact⟨iI n t (ord.getD k 0) b,cg.2 ⟨t,ht,b,rfl⟩,(KU (rU hL hn k t ht) (ho k zO) b).symm⟩
  rintro⟨t,ht,rfl⟩;obtain⟨u,hu,b,rfl⟩:=cg.1 ht;exact⟨pG n u,(ih _).2 ⟨u,hu,rfl⟩,b,KU (rU hL hn k u hu) (ho k zO) b⟩
theorem wC:∀k g,fs ord F k g->∀j,j<k->¬bU g (ord.getD j 0)
 |0,_,_,_,h=>absurd h (xcC _)
 |k+1,g,h,j,hj=>by
  obtain⟨f,hf,b,rfl⟩:=h;rintro⟨x,hx⟩;apply hx;by_cases e:ord.getD j 0=ord.getD k 0
  ·show f (aB (aB x _ false) _ b)=f (aB (aB x _ true) _ b);congr 1;apply xaV;intro i;simp only[aj,e];split<;>rfl
  have hlt:j<k:=by
   rcases xdG.1 hj with h|h
   ·exact h
   subst h;exact(e rfl).elim
  have:=wC k f hf j hlt;show f (aB (aB x _ false) _ b)=f (aB (aB x _ true) _ b);rw[di e,di e];exact xaD λhne=>this ⟨_,hne⟩
def FI(n:Nat)(ord:zL)(L:ak.Fs)(k:Nat):ak.Fs:=nodes n (cur n ord L k) (ord.getD k 0)
def kE(n:Nat)(ord:zL)(L:ak.Fs):Nat->Nat
 |0=>0
 |k+1=>kE n ord L k+(FI n ord L k).length
def GL(n:Nat)(ord:zL)(L:ak.Fs):Nat->ak.Fs
 |0=>[]
 |k+1=>GL n ord L k++FI n ord L k
theorem tY:∀k,(GL n ord L k).length=kE n ord L k
 |0=>rfl
 |k+1=>by rw[GL,kE,xaf,tY k]
theorem ru{k:Nat}{t:zL}:t∈FI n ord L k↔t∈cur n ord L k/\ak.dep n t (ord.getD k 0)=true:=by
 unfold FI nodes;rw[xbV]
theorem El(hL:∀t∈L,eV n t)(hn:n<=16):∀k,∀t∈GL n ord L k,eV n t
 |0,t,h=>by cases h
 |k+1,t,h=>by
  rcases xao.1 h with h|h
  ·exact El hL hn k t h
  exact rU hL hn k t (ru.1 h).1
theorem xh(hL:∀t∈L,eV n t)(hn:n<=16)(ho:∀i,i<n->ord.getD i 0<n):∀m,m<=n->∀g,(∃k,k<m/\fs ord (FT n L) k g/\bU g (ord.getD k 0))↔∃t∈GL n ord L m,g=pG n t
 |0,_,g=>by simp[GL]
 |m+1,hm,g=>by
  have ih:=xh hL hn ho m zO g;have ah:(fs ord (FT n L) m g/\bU g (ord.getD m 0))↔∃t∈FI n ord L m,g=pG n t:=by
   rw[Gk hL hn ho m zO];constructor
   ·rintro⟨⟨t,ht,rfl⟩,hh⟩;exact⟨t,ru.2 ⟨ht,(zG (rU hL hn m t ht) (ho m zO)).1 hh⟩,rfl⟩
   rintro⟨t,ht,rfl⟩;obtain⟨h1,h2⟩:=ru.1 ht;exact⟨⟨t,h1,rfl⟩,(zG (rU hL hn m t h1) (ho m zO)).2 h2⟩
  constructor
  ·rintro⟨k,hk,h1,h2⟩;by_cases e:k=m
   ·subst e;obtain⟨t,ht,rfl⟩:=ah.1 ⟨h1,h2⟩;exact⟨t,xac _ ht,rfl⟩
   obtain⟨t,ht,rfl⟩:=ih.1 ⟨k,by omega,h1,h2⟩;exact⟨t,xae _ ht,rfl⟩
  rintro⟨t,ht,rfl⟩;rcases xao.1 ht with ht|ht
  ·obtain⟨k,hk,h⟩:=ih.2 ⟨t,ht,rfl⟩;exact⟨k,by omega,h⟩
  exact⟨m,by omega,ah.2 ⟨t,ht,rfl⟩⟩
theorem xg(hL:∀t∈L,eV n t)(hn:n<=16)(ho:∀i,i<n->ord.getD i 0<n):∀m,m<=n->(GL n ord L m).Nodup
 |0,_=>List.nodup_nil
 |m+1,hm=>by
  refine xa3.2 ⟨xg hL hn ho m zO,(z6 m).filter _,λa ha b hb e=>?_⟩;subst e;obtain⟨k,hk,h1,h2⟩:=(xh hL hn ho m zO (pG n a)).2 ⟨a,ha,rfl⟩;have h3:=(Gk hL hn ho m zO (pG n a)).2 ⟨a,(ru.1 hb).1,rfl⟩;exact wC m _ h3 k hk h2
theorem Ti{P:Fn->Prop}{l:ak.Fs}(hf:∀t∈l,eV n t)(hn:l.Nodup)(h:∀g,P g↔∃t∈l,g=pG n t):nw P l.length:=by
 refine⟨l.map (pG n),?_,by simp,λg=>?_⟩
 ·refine xbJ.2 (hn.imp_of_mem λ{a b} ha hb hne heq=>hne (W0 (hf a ha) (hf b hb) heq))
 rw[h,xan];constructor
 ·rintro⟨t,ht,rfl⟩;exact⟨t,ht,rfl⟩
 rintro⟨t,ht,rfl⟩;exact⟨t,ht,rfl⟩
theorem aay(hL:∀t∈L,eV n t)(hn:n<=16)(ho:∀i,i<n->ord.getD i 0<n):nw (aD n ord (FT n L)) (kE n ord L n):=by
 rw[<-tY];exact Ti (El hL hn n) (xg hL hn ho n (xaj _)) (xh hL hn ho n (xaj _))
theorem XG(hL:∀t∈L,eV n t)(hn:n<=16)(ho:∀i,i<n->ord.getD i 0<n):sz n ord (FT n L)=kE n ord L n:=JX (aay hL hn ho)
end au
set_option maxRecDepth 100000
namespace Go.Proofs
open Go Go.Sx Tryz
section
open au
def u32(r:Nat):zV:=.int .u32 (r:Int)
def bt(d:Nd):List zV:=[iv (d.v:Int),u32 d.lo,u32 d.hi]
structure pI where
 v:Int
 lo:Nat
 hi:Nat
 tk:Bool
 c:Nat
def pI.row(p:pI):List zV:=[iv p.v,u32 p.lo,u32 p.hi,.bool p.tk,.int .u8 (p.c:Int)]
def gE(N:eE)(r:Nat):Bool:=decide (r<2)||(N r).isSome
theorem bZ{N:eE}{r:Nat}:gE N r=true↔live N r:=by
 unfold gE live;rw[xbs,xaJ,xdF]
def got(N:eE)(r:Nat):List zV:=
 if r<2 then [iv (-1),u32 r,u32 r]else match N r with|some d=>bt d|none=>[iv 0,u32 0,u32 0]
theorem dZ{N:eE}{r:Nat}{d:Nd}(h:N r=some d)(h2:2<=r):got N r=bt d:=by unfold got;rw[xab zO,h]
theorem fG{N:eE}{r:Nat}(h2:r<2):got N r=[iv (-1),u32 r,u32 r]:=by unfold got;rw[xad h2]
theorem DG{N:eE}{r:Nat}(h:gE N r=false):got N r=[iv 0,u32 0,u32 0]:=by
 unfold gE at h;rw[xaG,xbp]at h;unfold got;rw[xab h.1];cases hN:N r with
 |none=>rfl
 |some d=>rw[hN]at h;simp at h
def MI(p:pI):Option Nd:=if p.tk then some ⟨p.v.toNat,p.lo,p.hi⟩else none
structure BL(l:List pI)(fr:zL)(cap used:Nat)(N:eE):Prop where
 cap:l.length<=cap/\cap<=1048576
 two:2<=l.length
 const:∀r,r<2->∃p,l[r]? =some p/\p.v= -1/\p.lo=r/\p.hi=r/\p.tk=true
 nd:∀r,2<=r->N r=(l[r]?).bind MI
 n0:∀r,r<2->N r=none
 nn:∀(r:Nat) p,2<=r->l[r]? =some p->p.tk=true->0<=p.v
 Ux:fr.Nodup
 BW:∀r,r∈fr↔∃p,l[r]? =some p/\p.tk=false
 used:used+fr.length=l.length
theorem BL.Di{l:List pI}{fr:zL}{cap used:Nat}{N:eE}(h:BL l fr cap used N)(r:Nat):gE N r=(match l[r]? with|some p=>p.tk|none=>false):=by
 unfold gE;by_cases h2:r<2
 ·obtain⟨p,hp,_,_,_,ht⟩:=h.const r h2;simp[h2,hp,ht]
 rw[h.nd r zO];cases hl:l[r]? with
 |none=>simp[h2]
 |some p=>cases ht:p.tk<;>simp[h2,MI,ht]
theorem BL.ahN{l:List pI}{fr:zL}{cap used:Nat}{N:eE}(h:BL l fr cap used N){r:Nat}{p:pI}(hp:l[r]? =some p)(ht:p.tk=true):got N r=p.row.take 3:=by
 by_cases h2:r<2
 ·obtain⟨p',ZL,h1,nL,h3,_⟩:=h.const r h2;rw[hp]at ZL;cases ZL;rw[fG h2];simp[pI.row,h1,nL,h3]
 have hn:=h.nn r p zO hp ht;rw[dZ (d:=⟨p.v.toNat,p.lo,p.hi⟩) (by rw[h.nd r zO,hp];simp[MI,ht]) zO];simp[bt,pI.row,Int.toNat_of_nonneg hn]
theorem BL.lt{l:List pI}{fr:zL}{cap used:Nat}{N:eE}(h:BL l fr cap used N){r:Nat}(hr:live N r):r<l.length:=by
 have:=bZ.2 hr;rw[h.Di]at this;cases hl:l[r]? with
 |none=>rw[hl]at this;simp at this
 |some p=>exact(xah.1 hl).1
def iW(pa cap used:Nat)(N:eE)(C:Hp):Prop:=
 ∃vl vf l fr Cl Cf,C=(pa,.cells #[iv (cap:Int),vl,vf,iv (used:Int)] 142 zZ)::(Cl++Cf)/\
  aV 146 5 vl (l.map pI.row) Cl/\aS 78 .u32 vf (fr.map (Nat.cast:Nat->Int)) Cf/\BL l fr cap used N
abbrev ptr(b:Nat):zV:=.pointer (some ⟨b,0,none⟩)
theorem row_one(p:pI):∀x∈p.row,x.oneCell'=true:=by intro x hx;simp[pI.row,u32]at hx;rcases hx with rfl|rfl|rfl|rfl|rfl<;>rfl
theorem qX{pa cap used r:Nat}{N:eE}{C:Hp}(h:iW pa cap used N C)(hr:r<4294967296):
  Rd zQ 249 #[ptr pa,u32 r] C (· =.bool (gE N r)):=by
 obtain⟨vl,vf,l,fr,Cl,Cf,rfl,hl,hf,ho⟩:=h;refine aI λg=>Hx (br.q (Nil.ptr ?_));refine ai.mk (Ld.mk zM rfl ?_);refine hl.bV (ae.fC ?_);rw[xaE];rw[ho.Di r];refine cS.and (match l[r]? with|some p=>p.tk|none=>false) (λhlt=>?_) rfl λ_=>bc.mk (.refl _) ?_
 ·have iA:=xcb hlt;apply Nil.ptr;refine ai.mk (Ld.mk zM rfl ?_);have hg:l[r]? =some l[r]:=xaa iA;refine hl.Zo (r:=l[r].row) (x:=.bool l[r].tk) (by rw[xat,hg];rfl) rfl (λ_ h=>by exact .tail _ (xae _ h)) ?_;exact⟨rfl,by rw[hg]⟩
 congr 1;by_cases hlt:r<l.length
 ·simp[hlt]
 rw[xaC zO];simp
theorem SF{pa cap used r:Nat}{N:eE}{C:Hp}(h:iW pa cap used N C)(hr:r<4294967296):
  Rd zQ 189 #[ptr pa,u32 r] C (· =.tuple #[.agg (got N r).toArray,iv (if gE N r then 0 else 3)]):=by
 have h0:=h;obtain⟨vl,vf,l,fr,Cl,Cf,rfl,hl,hf,ho⟩:=h;refine aI λg=>Iv λb1 _=>?_;refine ae.aL (Br.no (aa.eq (qX h0 hr) (Un.not (Br.mk (λhb=>?_) (λhb=>?_)))))
 ·have hb':gE N r=false:=by simpa using hb
  refine Build.mk (cs:=[iv 0,.int .u32 0,.int .u32 0]) zK (St.q ?_);refine az.q ?_;exact bc.mk .tail (by rw[DG hb',hb'];rfl)
 have hb':gE N r=true:=by simpa using hb
 have hx:=hb';rw[ho.Di]at hx;cases hg:l[r]? with
 |none=>rw[hg]at hx;simp at hx
 |some p=>
 rw[hg]at hx;simp only at hx;apply Nil.ptr;refine ai.mk (Ld.mk zM rfl ?_);refine hl.Zn (r:=p.row) (by rw[xat,hg];rfl) zD (λ_ h=>by exact .tail _ (.tail _ (xae _ h))) ?_;refine St.p (λx hx=>row_one p x (xcE hx)) ?_;refine az.q ?_;exact bc.mk .tail (by rw[ho.ahN hg hx,hb'];rfl)
structure NOk(N:eE)(d:Nd):Prop where
 v:d.v<64
 lo:live N d.lo
 hi:live N d.hi
theorem iW.lt{pa cap used r:Nat}{N:eE}{C:Hp}(h:iW pa cap used N C)(hr:live N r):r<cap/\cap<=1048576:=by
 obtain⟨vl,vf,l,fr,Cl,Cf,rfl,hl,hf,ho⟩:=h;exact⟨xaP (ho.lt hr) ho.cap.1,ho.cap.2⟩
theorem Ag{pa cap used:Nat}{N:eE}{C:Hp}{d:Nd}(h:iW pa cap used N C)(hd:NOk N d):
  Rd zQ 261 #[ptr pa,.agg (bt d).toArray] C (· =iv 0):=by
 have hlo:=h.lt hd.lo;have hhi:=h.lt hd.hi;refine aI λg=>Hi λb1 _=>?_;refine Ld.f ?_;refine ae.lss (cS.or (decide (64<=d.v)) (λ_=>?_) rfl λ_=>?_)
 ·refine Ld.f ?_;exact ae.tS (b:=64) ⟨rfl,rfl⟩
 have hv:=hd.v;refine Br.no' zP λJ hJ=>?_;refine Ld.f ?_;refine aa.eq (qX h zO) ?_;rw[bZ.2 hd.lo];refine Un.not (Split.go rfl (Ld.f ?_));refine aa.eq (qX h zO) ?_;rw[bZ.2 hd.hi];refine Un.not (aH.mk (JE.mk (hJ _ _ λgs=>Br.no (bc.mk .tail rfl))))
theorem QR{pa cap used r:Nat}{N:eE}{C:Hp}(h:iW pa cap used N C)(hr:∃d,N r=some d)(h2:2<=r):
  Rd zQ 251 #[ptr pa,u32 r] C (· =iv 0):=by
 have hl:=h.lt (.inr hr);refine aI λg=>Hv λJ hJ=>?_;refine ae.BP (b:=1) (Split.go zP ?_);refine aa.eq (qX h zO) ?_;rw[bZ.2 (.inr hr)];refine Un.not (aH.mk (JE.mk (hJ _ _ λgs=>Br.no (bc.mk (.refl _) rfl))))
theorem Ee{pa cap used:Nat}{N:eE}{C:Hp}(h:iW pa cap used N C):Rd zQ 119 #[ptr pa] C (· =iv (used:Int)):=by
 obtain⟨vl,vf,l,fr,Cl,Cf,rfl,hl,hf,ho⟩:=h;refine aI λg=>Jp (ae.aL (Br.no (Nil.ptr ?_)));refine ai.mk (Ld.mk zM rfl ?_);exact bc.mk (.refl _) rfl
theorem GI{pa cap used:Nat}{N:eE}{C:Hp}(h:iW pa cap used N C):Rd zQ 214 #[ptr pa] C (· =iv (cap:Int)):=by
 obtain⟨vl,vf,l,fr,Cl,Cf,rfl,hl,hf,ho⟩:=h;refine aI λg=>H9 (ae.aL (Br.no (Nil.ptr ?_)));refine ai.mk (Ld.mk zM rfl ?_);exact bc.mk (.refl _) rfl
end
section
open au
section
variable {l:List pI} {fr:zL} {cap used:Nat} {N:eE}
theorem FA(d:Nd){c:Nat}:MI ⟨(d.v:Int),d.lo,d.hi,true,c⟩=some d:=by simp[MI]
theorem BL.reuse(h:BL l fr cap used N){r:Nat}(hr:r∈fr){fr':zL}(hf:fr.Perm (r::fr'))(d:Nd):
  2<=r/\r<cap/\N r=none/\BL (l.set r ⟨(d.v:Int),d.lo,d.hi,true,0⟩) fr' cap (used+1) (up N r (some d)):=by
 obtain⟨p,hp,ht⟩:=(h.BW r).1 hr;have hlt:=(xah.1 hp).1;have h2:2<=r:=by
  apply xdD;intro hn;obtain⟨p',ZL,_,_,_,ht'⟩:=h.const r zO;rw[hp]at ZL;cases ZL;rw[ht]at ht';cases ht'
 have fD:=hf.nodup_iff.1 h.Ux;rw[xaW]at fD;refine⟨h2,xaP hlt h.cap.1,by rw[h.nd r h2,hp];simp[MI,ht],?_⟩;have iB:∀s,s≠r->(l.set r ⟨(d.v:Int),d.lo,d.hi,true,0⟩)[s]? =l[s]? :=λs hs=>xbK (xa9 hs);have mz:(l.set r ⟨(d.v:Int),d.lo,d.hi,true,0⟩)[r]? =some ⟨(d.v:Int),d.lo,d.hi,true,0⟩:=xbM hlt;exact {
  cap:=by simpa using h.cap
  two:=by simpa using h.two
  const:=λs hs=>by rw[iB s zO];exact h.const s hs
  nd:=λs hs=>by
   by_cases e:s=r
   ·subst e;rw[aO,mz];exact(FA d).symm
   rw[aQ e,iB s e];exact h.nd s hs
  n0:=λs hs=>by rw[aQ zO];exact h.n0 s hs
  nn:=λs q hs hq RK=>by
   by_cases e:s=r
   ·subst e;rw[mz]at hq;cases hq;exact xde _
   rw[iB s e]at hq;exact h.nn s q hs hq RK
  Ux:=fD.2
  BW:=λs=>by
   by_cases e:s=r
   ·subst e;rw[mz];simp[fD.1]
   rw[iB s e,<-h.BW s,hf.mem_iff];simp[e]
  used:=by have:=h.used;have:=hf.length_eq;simp only[xaz,xbR]at*;omega}
theorem BL.grow(h:BL l [] cap used N)(hlt:l.length<cap)(d:Nd):
  2<=l.length/\N l.length=none/\BL (l++[⟨(d.v:Int),d.lo,d.hi,true,0⟩]) [] cap (used+1) (up N l.length (some d)):=by
 have h2:=h.two;refine⟨h2,by rw[h.nd _ h2,xaC (xaj _)];rfl,?_⟩;have iB:∀s,s≠l.length->(l++[(⟨(d.v:Int),d.lo,d.hi,true,0⟩:pI)])[s]? =l[s]? :=λs hs=>by
  rw[xdX];split
  ·rfl
  rw[xaC zP,xaC zO]
 have mz:(l++[(⟨(d.v:Int),d.lo,d.hi,true,0⟩:pI)])[l.length]? =some ⟨(d.v:Int),d.lo,d.hi,true,0⟩:=by simp
 exact {
  cap:=by simp;exact⟨hlt,h.cap.2⟩
  two:=by simp;omega
  const:=λs hs=>by rw[iB s zO];exact h.const s hs
  nd:=λs hs=>by
   by_cases e:s=l.length
   ·subst e;rw[aO,mz];exact(FA d).symm
   rw[aQ e,iB s e];exact h.nd s hs
  n0:=λs hs=>by rw[aQ zO];exact h.n0 s hs
  nn:=λs q hs hq RK=>by
   by_cases e:s=l.length
   ·subst e;rw[mz]at hq;cases hq;exact xde _
   rw[iB s e]at hq;exact h.nn s q hs hq RK
  Ux:=h.Ux
  BW:=λs=>by
   by_cases e:s=l.length
   ·subst e;rw[mz];simp
   rw[iB s e];exact h.BW s
  used:=by have:=h.used;simp at*;omega}
theorem BL.ew(h:BL l fr cap used N){r:Nat}{p:pI}(h2:2<=r)(hp:l[r]? =some p)(ht:p.tk=true)(d:Nd):
  BL (l.set r ⟨(d.v:Int),d.lo,d.hi,true,p.c⟩) fr cap used (up N r (some d)):=by
 have hlt:=(xah.1 hp).1;have iB:∀s,s≠r->(l.set r ⟨(d.v:Int),d.lo,d.hi,true,p.c⟩)[s]? =l[s]? :=λs hs=>xbK (xa9 hs);have mz:(l.set r ⟨(d.v:Int),d.lo,d.hi,true,p.c⟩)[r]? =some ⟨(d.v:Int),d.lo,d.hi,true,p.c⟩:=xbM hlt;exact {
  cap:=by simpa using h.cap
  two:=by simpa using h.two
  const:=λs hs=>by rw[iB s zO];exact h.const s hs
  nd:=λs hs=>by
   by_cases e:s=r
   ·subst e;rw[aO,mz];exact(FA d).symm
   rw[aQ e,iB s e];exact h.nd s hs
  n0:=λs hs=>by rw[aQ zO];exact h.n0 s hs
  nn:=λs q hs hq RK=>by
   by_cases e:s=r
   ·subst e;rw[mz]at hq;cases hq;exact xde _
   rw[iB s e]at hq;exact h.nn s q hs hq RK
  Ux:=h.Ux
  BW:=λs=>by
   by_cases e:s=r
   ·subst e;rw[h.BW,mz,hp];simp[ht]
   rw[iB s e];exact h.BW s
  used:=by simpa using h.used}
theorem BL.free(h:BL l fr cap used N){r:Nat}{p:pI}(h2:2<=r)(hp:l[r]? =some p)(ht:p.tk=true):
  BL (l.set r ⟨0,0,0,false,0⟩) (fr++[r]) cap (used-1) (up N r none)/\0<used:=by
 have hlt:=(xah.1 hp).1;have iB:∀s,s≠r->(l.set r ⟨0,0,0,false,0⟩)[s]? =l[s]? :=λs hs=>xbK (xa9 hs);have mz:(l.set r ⟨0,0,0,false,0⟩)[r]? =some ⟨0,0,0,false,0⟩:=xbM hlt;have hnf:r∉fr:=λhm=>by obtain⟨q,hq,RK⟩:=(h.BW r).1 hm;rw[hp]at hq;cases hq;rw[ht]at RK;cases RK
 have hu:fr.length<l.length:=by
  have hn:(r::fr).Nodup:=xaW.2 ⟨hnf,h.Ux⟩;have:=cu (l:=r::fr) (l':=List.range l.length) hn λs hs=>by
   rw[xaM];rcases xak.1 hs with rfl|hs
   ·exact hlt
   obtain⟨q,hq,_⟩:=(h.BW s).1 hs;exact(xah.1 hq).1
  rw[xaK]at this;exact this
 have We:=h.used;refine⟨?_,by omega⟩;exact {
  cap:=by simpa using h.cap
  two:=by simpa using h.two
  const:=λs hs=>by rw[iB s zO];exact h.const s hs
  nd:=λs hs=>by
   by_cases e:s=r
   ·subst e;rw[aO,mz];rfl
   rw[aQ e,iB s e];exact h.nd s hs
  n0:=λs hs=>by rw[aQ zO];exact h.n0 s hs
  nn:=λs q hs hq RK=>by
   by_cases e:s=r
   ·subst e;rw[mz]at hq;cases hq;cases RK
   rw[iB s e]at hq;exact h.nn s q hs hq RK
  Ux:=by rw[xa3];exact⟨h.Ux,by simp,λa ha c hc=>by simp at hc;subst hc;intro e;subst e;exact hnf ha⟩
  BW:=λs=>by
   rw[xao,xaw];by_cases e:s=r
   ·subst e;rw[mz];simp
   rw[iB s e,<-h.BW];simp[e]
  used:=by simp;omega}
end
theorem nY(l:List pI)(r:Nat)(p:pI):(l.map pI.row).set r p.row=(l.set r p).map pI.row:=by rw[xcQ]
theorem TK{pa cap used:Nat}{N:eE}{C:Hp}{d:Nd}(h:iW pa cap used N C)(hd:NOk N d)(hroom:used<cap):
  Fc zQ 215 #[ptr pa,.agg (bt d).toArray] C (λv C'=>∃r,v=.tuple #[u32 r,iv 0]/\2<=r/\r<cap/\N r=none/\iW pa cap (used+1) (up N r (some d)) C'):=by
 have h0:=h;obtain⟨vl,vf,l,fr,Cl,Cf,rfl,hl,hf,ho⟩:=h;have hcap:=ho.cap;have KD:=ho.used;refine aI λg=>H8 λb1 _=>?_;refine ae.aL (Br.no (az.q ?_));refine aa.eq (Ag h0 hd) (ae.cD (Br.F (Nil.ptr ?_)));refine ai.mk (Ld.mk zM rfl ?_);refine hf.bV ?_;rw[xaE];refine ae.nE (b:=0) (Br.dec (λhp=>?_) (λhp=>?_))
 ·obtain⟨fr',r,rfl⟩:∃fr' r,fr=fr'++[r]:=⟨fr.dropLast,fr.getLast (by intro e;simp[e]at hp),(xea _).symm⟩;simp only[xaf,xaz,xce]at hp KD⊢;obtain⟨g1,g2,g3,hok⟩:=ho.reuse (r:=r) zI (fr':=fr') (by exact xdw _ _) d;apply Nil.ptr;refine ai.mk (Ld.mk zM rfl ?_);refine ae.ca (a:=fr'.length+1) (b:=1) ?_;rw[xb6];refine hf.ld (i:=fr'.length) (x:=(r:Int)) zI (λ_ h=>by exact .tail _ (.tail _ (xac _ h))) (Nil.ptr ?_);refine ai.mk (Ld.mk zM rfl ?_);refine ae.ca (a:=fr'.length+1) (b:=1) ?_;rw[xb6];refine hf.cut (i:=fr'.length) zI λv' Pp=>?_;have hf2:aS 78 .u32 v' (fr'.map (Nat.cast:Nat->Int)) Cf:=by
   rw[xaB,xez zI]at Pp;exact Pp
  have hone:v'.oneCell'=true:=by obtain⟨a,c,e⟩:=aV.len hf2;rw[e];rfl
  refine Nil.ptr (ai.mk (St.one (by exact .tail (.head _)) hone zI rfl ?_));refine DR.self (Nil.ptr (Ld.f ?_));refine az.q ?_;refine Build.mk (cs:=(pI.mk (d.v:Int) d.lo d.hi true 0).row) zK (hl.QD (A:=[_,_]) (B:=Cf) (i:=r) (by rw[xaE];have:=(ho.BW r).1 zI;obtain⟨p,hp,_⟩:=this;exact(xah.1 hp).1) rfl (row_one _) λC' hl'=>?_);rw[nY]at hl';simp only[xaQ,xbS];refine Nil.ptr (Ld.f ?_);refine ae.inc (Nil.ptr (ai.mk (St.one (by exact .tail (.head _)) rfl zI rfl ?_)));exact aN.mk .tail ⟨r,rfl,g1,g2,g3,vl,v',_,fr',C',Cf,rfl,hl',hf2,hok⟩
 obtain rfl:fr=[]:=xbW zO;simp only[xce]at KD;obtain⟨g1,g3,hok⟩:=ho.grow zO d;apply Nil.ptr;refine ai.mk (Ld.mk zM rfl ?_);refine hl.bV ?_;rw[xaE];apply Nil.ptr;refine ai.mk (Ld.mk zM rfl ?_);refine ae.tS (Br.F (DR.of (R:=(b1,.cells (List.toArray (bt d)) 144 zZ)::(pa,.cells #[iv (cap:Int),vl,vf,iv (used:Int)] 142 zZ)::[]) (.cons (.cons .nil)) (Nil.ptr ?_)));refine ai.mk (Ld.mk zM rfl ?_);refine az.q ?_;refine Build.mk (cs:=(pI.mk (d.v:Int) d.lo d.hi true 0).row) zK (ax.one (z:=.agg #[iv 0,.int .u32 0,.int .u32 0,.bool false,.int .u8 0]) (e:=146) (k:=5) zK zK zK zD rfl λbx=>?_);refine⟨.skip (.cons (.cons .nil)),?_⟩;refine hl.GH (A:=[_,_,_]) (B:=Cf) (r:=(pI.mk (d.v:Int) d.lo d.hi true 0).row) (by exact .head _) rfl (row_one _) (by exact⟨[iv 0,.int .u32 0,.int .u32 0,.bool false,.int .u8 0],rfl,rfl⟩) zP zP λv' C' hl'=>?_;have qP:aV 146 5 v' ((l++[(⟨(d.v:Int),d.lo,d.hi,true,0⟩:pI)]).map pI.row) C':=by rw[xaB];exact hl'
 simp only[xaQ,xbS];refine⟨.skip (.cons (.cons .nil)),?_⟩;have hone:v'.oneCell'=true:=by obtain⟨a,c,e⟩:=qP.len;rw[e];rfl
 refine Nil.ptr (ai.mk (St.one (by exact .tail (.tail (.head _))) hone zI rfl ?_));refine Nil.ptr (Ld.f ?_);refine ae.inc (Nil.ptr (ai.mk (St.one (by exact .tail (.tail (.head _))) rfl zI rfl ?_)));refine Nil.ptr (Ld.f ?_);refine qP.bV (ae.xW (b:=1) (by simp[bG];omega) zI (br.q (aN.mk (.skip .tail) ⟨l.length,by simp[u32],g1,by omega,g3,v',vf,_,[],C',Cf,rfl,qP,hf,hok⟩)))
theorem Xj{pa cap used r:Nat}{N:eE}{C:Hp}{d:Nd}(h:iW pa cap used N C)(hd:NOk N d)(hr:∃e,N r=some e)(h2:2<=r):
  Fc zQ 204 #[ptr pa,u32 r,.agg (bt d).toArray] C (λv C'=>v=iv 0/\iW pa cap used (up N r (some d)) C'):=by
 have h0:=h;obtain⟨vl,vf,l,fr,Cl,Cf,rfl,hl,hf,ho⟩:=h;have hx:=bZ.2 (.inr hr:live N r);rw[ho.Di]at hx;obtain⟨p,hg,hx⟩:∃p,l[r]? =some p/\p.tk=true:=by
  cases hg:l[r]? with
  |none=>rw[hg]at hx;simp at hx
  |some p=>rw[hg]at hx;exact⟨p,rfl,hx⟩
 refine aI λg=>Ih λb1 _=>?_;refine ae.aL (Br.no (az.q ?_));refine aa.eq (Ag h0 hd) (ae.cD (Br.F (aa.eq (QR h0 hr h2) (ae.cD (Br.F (DR.self (Nil.ptr ?_)))))));refine ai.mk (Ld.mk zM rfl ?_);refine az.q ?_;refine hl.Vp (A:=[_,_]) (B:=Cf) (r:=p.row) (xs:=bt d) (n:=3) (by rw[xat,hg];rfl) ⟨rfl,by omega⟩ (by intro x hx;simp[bt,u32]at hx;rcases hx with rfl|rfl|rfl<;>rfl) λC' hl'=>?_;have e:(bt d++p.row.drop 3)=(pI.mk (d.v:Int) d.lo d.hi true p.c).row:=by simp[bt,pI.row,hx]
 rw[e,nY]at hl';exact aN.mk .tail ⟨rfl,vl,vf,_,fr,C',Cf,rfl,hl',hf,ho.ew h2 hg hx d⟩
theorem TQ{pa cap used r:Nat}{N:eE}{C:Hp}(h:iW pa cap used N C)(hr:∃e,N r=some e)(h2:2<=r):
  Fc zQ 192 #[ptr pa,u32 r] C (λv C'=>v=iv 0/\iW pa cap (used-1) (up N r none) C'):=by
 have h0:=h;obtain⟨vl,vf,l,fr,Cl,Cf,rfl,hl,hf,ho⟩:=h;have hx:=bZ.2 (.inr hr:live N r);rw[ho.Di]at hx;obtain⟨p,hg,hx⟩:∃p,l[r]? =some p/\p.tk=true:=by
  cases hg:l[r]? with
  |none=>rw[hg]at hx;simp at hx
  |some p=>rw[hg]at hx;exact⟨p,rfl,hx⟩
 obtain⟨hok,hu0⟩:=ho.free h2 hg hx;have hcap:=ho.cap;have KD:=ho.used;refine aI λg=>Ir (ae.aL (Br.no (aa.eq (QR h0 hr h2) (ae.cD (Br.F (Nil.ptr ?_))))));refine ai.mk (Ld.mk zM rfl ?_);refine Build.mk (cs:=(pI.mk 0 0 0 false 0).row) zK (hl.QD (A:=[_]) (B:=Cf) (i:=r) (by rw[xaE];exact(xah.1 hg).1) rfl (row_one _) λC' hl'=>?_);rw[nY]at hl';simp only[xaQ,xbS];refine Nil.ptr (Ld.f ?_);refine ax.int (e:=78) zK zK zK λbx=>?_;have e1:(bx,Obj.cells (aA .u32 [(r:Int)]) 78 zZ)::(pa,Obj.cells #[iv (cap:Int),vl,vf,iv (used:Int)] 142 zZ)::(C'++Cf)=(bx,Obj.cells (aA .u32 [(r:Int)]) 78 zZ)::(pa,Obj.cells #[iv (cap:Int),vl,vf,iv (used:Int)] 142 zZ)::C'++(Cf++[]):=by simp
 rw[e1];refine hf.app (x:=(r:Int)) (B:=[]) (by exact .head _) zP zP λv' Cf' Pp=>?_;have hf2:aS 78 .u32 v' ((fr++[r]).map (Nat.cast:Nat->Int)) Cf':=by rw[xaB];exact Pp
 have hone:v'.oneCell'=true:=by obtain⟨a,c,e⟩:=aV.len hf2;rw[e];rfl
 simp only[xaQ,xaL];refine Nil.ptr (ai.mk (St.one (by exact .tail (.head _)) hone zI rfl ?_));refine Nil.ptr (Ld.f ?_);refine ae.ca (b:=1) (Nil.ptr (ai.mk (St.one (by exact .tail (.head _)) rfl zI rfl ?_)));exact aN.mk .tail ⟨rfl,vl,v',_,_,C',Cf',rfl,hl',hf2,hok⟩
def nK(d:Nd):zV:=.agg (bt d).toArray
abbrev Pe(v:zV)(r:Nat):Prop:=v=u32 r
theorem Kt:Tryz.prog.underlying 144=some (.struct (Tryz.prog.fieldsOf 144)):=by kernel_rfl
theorem ri(a b:Nd):BI zQ 144 (nK a) (nK b) (decide (a=b)):=by
 refine BI.flat (fs:=#[⟨"Var",3,0,false, "", "",0⟩,⟨"Lo",78,1,false, "", "",8⟩,⟨"Hi",78,2,false, "", "",12⟩]) zK zK ?_ ?_
 ·intro f hf;simp only[xak,xaR,xbD]at hf;rcases hf with rfl|rfl|rfl
  ·exact⟨by decide,_,_,rfl,rfl,.inl ⟨.i64,_,_,by kernel_rfl,rfl,rfl⟩⟩
  ·exact⟨by decide,_,_,rfl,rfl,.inl ⟨.u32,_,_,by kernel_rfl,rfl,rfl⟩⟩
  exact⟨by decide,_,_,rfl,rfl,.inl ⟨.u32,_,_,by kernel_rfl,rfl,rfl⟩⟩
 obtain⟨a1,a2,a3⟩:=a;obtain⟨b1,b2,b3⟩:=b;simp[bt,u32];omega
theorem mO(a:Nd):mw zQ 144 (nK a):=by
 refine mw.flat (fs:=#[⟨"Var",3,0,false, "", "",0⟩,⟨"Lo",78,1,false, "", "",8⟩,⟨"Hi",78,2,false, "", "",12⟩]) zK ?_;intro f hf;simp only[xak,xaR,xbD]at hf;rcases hf with rfl|rfl|rfl
 ·exact⟨by decide,_,rfl,.inl ⟨.i64,_,_,by kernel_rfl,rfl,rfl⟩⟩
 ·exact⟨by decide,_,rfl,.inl ⟨.u32,_,_,by kernel_rfl,rfl,rfl⟩⟩
 exact⟨by decide,_,rfl,.inl ⟨.u32,_,_,by kernel_rfl,rfl,rfl⟩⟩
theorem Kv(a:Nd):Instr.sameBits 10000 (nK a) (nK a)=true:=kS 9998 (by intro x hx;simp[bt,u32]at hx;rcases hx with rfl|rfl|rfl<;>exact .inl ⟨_,_,rfl⟩)
structure UM where
 b:Nat
 es:Array MapEntry
 ck:Nat
 l:List (Nd×Nat)
def ML(ms:List UM):Hp:=ms.map λm=>(m.b,.map m.es m.ck)
structure UA(ms:List UM)(n:Nat)(T:Nd->Option Nat):Prop where
 len:ms.length=n
 dN:∀(v:Nat) m,ms[v]? =some m->aF nK Pe m.es m.ck m.l
 var:∀(v:Nat) m,ms[v]? =some m->∀x∈m.l,x.1.v=v
 T:∀d,T d=(ms[d.v]?).bind λm=>aG m.l d
def oD(pt n:Nat)(T:Nd->Option Nat)(C:Hp):Prop:=
 ∃vs Cs ms,C=(pt,.cells #[vs] 104 zZ)::(Cs++ML ms)/\aV 105 1 vs (ms.map λm=>[.map (some m.b)]) Cs/\UA ms n T
theorem rz{ms:List UM}{v:Nat}{m:UM}(h:ms[v]? =some m):(m.b,Obj.map m.es m.ck)∈ML ms:=xan.2 ⟨m,xav h,rfl⟩
theorem A3{es':Array MapEntry}{bB:Nat}{l':List (Nd×Nat)}:∀{ms:List UM} {v:Nat} {m:UM},ms[v]? =some m->c8 m.b (.map m.es m.ck) (.map es' bB) (ML ms) (ML (ms.set v ⟨m.b,es',bB,l'⟩))
 | [],v,m,h=>by simp at h
 |x::ms,0,m,h=>by simp at h;subst h;exact .head _
 |x::ms,v+1,m,h=>by simp at h;exact .tail (A3 h)
theorem yZ{ms:List UM}{v:Nat}{m m':UM}(h:ms[v]? =some m)(hb:m'.b=m.b):(ms.set v m').map (λm=>[Value.map (some m.b)])=ms.map λm=>[Value.map (some m.b)]:=by
 rw[xcQ];apply xbd;intro j;rw[xbn];split
 ·rename_i e;subst e;have hlt:=(xah.1 h).1;have e2:ms[v]=m:=by rw[xaa hlt]at h;exact xbg h
  simp[hb,hlt,e2]
 rfl
theorem UA.add{ms:List UM}{n:Nat}{T:Nd->Option Nat}(h:UA ms n T){d:Nd}{m:UM}(hm:ms[d.v]? =some m){es':Array MapEntry}{bB r:Nat}(he:aF nK Pe es' bB (eo m.l d r)):UA (ms.set d.v ⟨m.b,es',bB,eo m.l d r⟩) n (qM T d (some r)) where
 len:=by rw[xbR];exact h.len
 dN:=λv m' hm'=>by
  rw[xbn]at hm';split at hm'
  ·split at hm'
   ·cases hm';exact he
   cases hm'
  exact h.dN v m' hm'
 var:=λv m' hm' x hx=>by
  rw[xbn]at hm';split at hm'
  ·rename_i e;split at hm'
   ·cases hm';subst e;simp only[eo]at hx;split at hx
    ·obtain⟨y,hy,rfl⟩:=xan.1 hx;split
     ·rfl
     exact h.var _ m hm y hy
    rcases xao.1 hx with hx|hx
    ·exact h.var _ m hm x hx
    simp at hx;subst hx;rfl
   cases hm'
  exact h.var v m' hm' x hx
 T:=λe=>by
  have hlt:=(xah.1 hm).1;by_cases ee:e=d
  ·subst ee;rw[jQ,xbM hlt];simp[bL]
  rw[pZ ee,h.T e];by_cases ev:d.v=e.v
  ·rw[<-ev,xbM hlt,hm];simp[bL,ee]
  rw[xbK ev]
theorem UA.del{ms:List UM}{n:Nat}{T:Nd->Option Nat}(h:UA ms n T){d:Nd}{m:UM}(hm:ms[d.v]? =some m){es':Array MapEntry}{bB:Nat}(he:aF nK Pe es' bB (fS m.l d)):UA (ms.set d.v ⟨m.b,es',bB,fS m.l d⟩) n (qM T d none) where
 len:=by rw[xbR];exact h.len
 dN:=λv m' hm'=>by
  rw[xbn]at hm';split at hm'
  ·split at hm'
   ·cases hm';exact he
   cases hm'
  exact h.dN v m' hm'
 var:=λv m' hm' x hx=>by
  rw[xbn]at hm';split at hm'
  ·rename_i e;split at hm'
   ·cases hm';subst e;exact h.var _ m hm x (xbV.1 hx|>.1)
   cases hm'
  exact h.var v m' hm' x hx
 T:=λe=>by
  have hlt:=(xah.1 hm).1;by_cases ee:e=d
  ·subst ee;rw[jQ,xbM hlt];simp[yW]
  rw[pZ ee,h.T e];by_cases ev:d.v=e.v
  ·rw[<-ev,xbM hlt,hm];simp[yW,ee]
  rw[xbK ev]
theorem lg{pt n v:Nat}{T:Nd->Option Nat}{C:Hp}(h:oD pt n T C)(hv:v<n):Rd zQ 250 #[ptr pt,iv (v:Int)] C (· =iv 0):=by
 obtain⟨vs,Cs,ms,rfl,hs,ho⟩:=h;refine aI λg=>Hw (ae.aL (Br.no (ae.lss ?_)));rw[xal (by omega:¬((v:Int)<0))];refine cS.or false (λ_=>?_) rfl λ_=>Br.no (bc.mk (.refl _) rfl);apply Nil.ptr;refine ai.mk (Ld.mk zM rfl ?_);refine hs.bV ?_;rw[xaE,ho.len];exact ae.tS ⟨rfl,by rw[xal zO]⟩
theorem uN{pt n:Nat}{T:Nd->Option Nat}{C:Hp}{d:Nd}(h:oD pt n T C)(hv:d.v<n):
  Rd zQ 213 #[ptr pt,nK d] C (· =.tuple #[u32 ((T d).getD 0),.bool (T d).isSome]):=by
 have h0:=h;obtain⟨vs,Cs,ms,rfl,hs,ho⟩:=h;obtain⟨m,hm⟩:∃m,ms[d.v]? =some m:=⟨_,xaa (by rw[ho.len];exact hv)⟩;refine aI λg=>Ia λb1 _=>?_;refine Ld.f ?_;refine aa.eq (lg h0 hv) (ae.cD (Br.F (Nil.ptr ?_)));refine ai.mk (Ld.mk zM rfl ?_);refine Ld.f ?_;refine hs.XR (x:=.map (some m.b)) (by rw[xat,hm];rfl) (λ_ h=>by exact .tail _ (.tail _ (xae _ h))) ?_;refine az.q ?_;have hmem:(m.b,Obj.map m.es m.ck)∈(b1,Obj.cells (Value.cells (nK d)) 144 zZ)::(pt,.cells #[vs] 104 zZ)::(Cs++ML ms):=.tail _ (.tail _ (xac _ (rz hm)));have hT:T d=aG m.l d:=by rw[ho.T,hm];rfl
 rw[hT];cases hg:aG m.l d with
 |some r=>
  refine aF.F6 (ke:=nK) (k:=d) ri mO (ho.dN _ m hm) hmem hg ?_;rintro v rfl;exact Ext.mk rfl (Ext.mk rfl (bc.mk .tail rfl))
 |none=>
  refine aF.vR (ke:=nK) (k:=d) ri mO (ho.dN _ m hm) hmem hg ?_;exact Ext.mk rfl (Ext.mk rfl (bc.mk .tail rfl))
theorem JT{pt n r:Nat}{T:Nd->Option Nat}{C:Hp}{d:Nd}(h:oD pt n T C)(hv:d.v<n)(hT:T d=none):
  Fc zQ 205 #[ptr pt,nK d,u32 r] C (λv C'=>v=iv 0/\oD pt n (qM T d (some r)) C'):=by
 have h0:=h;obtain⟨vs,Cs,ms,rfl,hs,ho⟩:=h;obtain⟨m,hm⟩:∃m,ms[d.v]? =some m:=⟨_,xaa (by rw[ho.len];exact hv)⟩;have hTm:aG m.l d=none:=by rw[ho.T,hm]at hT;exact hT
 refine aI λg=>Ig λb1 _=>?_;refine Ld.f ?_;refine aa.eq (lg h0 hv) (ae.cD (Br.F (Nil.ptr ?_)));refine ai.mk (Ld.mk zM rfl ?_);refine Ld.f ?_;refine hs.XR (x:=.map (some m.b)) (by rw[xat,hm];rfl) (λ_ h=>by exact .tail _ (.tail _ (xae _ h))) ?_;refine az.q ?_;have hmem:(m.b,Obj.map m.es m.ck)∈(b1,Obj.cells (Value.cells (nK d)) 144 zZ)::(pt,.cells #[vs] 104 zZ)::(Cs++ML ms):=.tail _ (.tail _ (xac _ (rz hm)));refine aF.vR (ke:=nK) (k:=d) ri mO (ho.dN _ m hm) hmem hTm ?_;refine Ext.mk rfl (Ext.mk rfl (Br.no (DR.self (Nil.ptr ?_))));refine ai.mk (Ld.mk zM rfl ?_);refine Ld.f ?_;refine hs.XR (x:=.map (some m.b)) (by rw[xat,hm];rfl) (λ_ h=>by exact .tail _ (.tail _ (xae _ h))) ?_;refine az.q ?_;refine aF.LY (ke:=nK) (k:=d) (vr:=Pe) (x:=r) ri mO Kv (ho.dN _ m hm) rfl λes' bB he=>⟨_,.tail (.tail ((A3 (l':=eo m.l d r) hm).cr Cs)),?_⟩;exact aN.mk .tail ⟨rfl,vs,Cs,_,rfl,by rw[yZ hm];exact hs;rfl,ho.add hm he⟩
theorem yN{pt n r:Nat}{T:Nd->Option Nat}{C:Hp}{d:Nd}(h:oD pt n T C)(hv:d.v<n)(hT:T d=some r):
  Fc zQ 191 #[ptr pt,nK d] C (λv C'=>v=iv 0/\oD pt n (qM T d none) C'):=by
 have h0:=h;obtain⟨vs,Cs,ms,rfl,hs,ho⟩:=h;obtain⟨m,hm⟩:∃m,ms[d.v]? =some m:=⟨_,xaa (by rw[ho.len];exact hv)⟩;have hTm:aG m.l d=some r:=by rw[ho.T,hm]at hT;exact hT
 refine aI λg=>Is λb1 _=>?_;refine Ld.f ?_;refine aa.eq (lg h0 hv) (ae.cD (Br.F (Nil.ptr ?_)));refine ai.mk (Ld.mk zM rfl ?_);refine Ld.f ?_;refine hs.XR (x:=.map (some m.b)) (by rw[xat,hm];rfl) (λ_ h=>by exact .tail _ (.tail _ (xae _ h))) ?_;refine az.q ?_;have hmem:(m.b,Obj.map m.es m.ck)∈(b1,Obj.cells (Value.cells (nK d)) 144 zZ)::(pt,.cells #[vs] 104 zZ)::(Cs++ML ms):=.tail _ (.tail _ (xac _ (rz hm)));refine aF.F6 (ke:=nK) (k:=d) ri mO (ho.dN _ m hm) hmem hTm ?_;rintro v rfl;refine Ext.mk rfl (Ext.mk rfl (Un.not (Br.no (DR.of (R:=(b1,Obj.cells (Value.cells (nK d)) 144 zZ)::(pt,.cells #[vs] 104 zZ)::Cs) (.cons (.cons .left)) (Nil.ptr ?_)))));refine ai.mk (Ld.mk zM rfl ?_);refine Ld.f ?_;refine hs.XR (x:=.map (some m.b)) (by rw[xat,hm];rfl) (λ_ h=>by exact .tail _ (.tail _ h)) ?_;refine az.q ?_;refine aF.ahZ (ke:=nK) (k:=d) ri mO (ho.dN _ m hm) hmem λes' he=>⟨_,.tail (.tail ((A3 (l':=fS m.l d) hm).cr Cs)),?_⟩;exact⟨.cons (.cons .left),aN.mk .tail ⟨rfl,vs,Cs,_,rfl,by rw[yZ hm];exact hs;rfl,ho.del hm he⟩⟩
theorem UA.start(n:Nat)(bs:zL)(h:bs.length=n):UA (bs.map λb=>⟨b,#[],0,[]⟩) n (λ_=>none) where
 len:=by simpa using h
 dN:=λv m hm=>by
  rw[xat]at hm;obtain⟨b,_,rfl⟩:=xdP.1 hm;exact aF.empty
 var:=λv m hm x hx=>by
  rw[xat]at hm;obtain⟨b,_,rfl⟩:=xdP.1 hm;simp at hx
 T:=λd=>by
  rw[xat];cases bs[d.v]? <;>simp[aG]
theorem DS(x:zV):∀n:Nat,(List.replicate n [x]).flatten=List.replicate n x
 |0=>rfl
 |n+1=>by rw[xc9,xcX,xc9,DS x n];rfl
theorem UN{n:Nat}(hn:1<=n/\n<=64):Fc zQ 29 #[iv (n:Int)] [] (λv H=>∃pt,v=.tuple #[ptr pt,iv 0]/\oD pt n (λ_=>none) H):=by
 refine aI λg=>O3 (ae.lss ?_);rw[xal zO];refine cS.or false (λ_=>ae.gtr ⟨rfl,by rw[xal zO]⟩) rfl λ_=>Br.no ?_;refine⟨.i64,.i64,n,n,rfl,rfl,xaj _,by omega,by omega,?_⟩;intro bs _;refine Build.mk (cs:=[.slice (some ⟨bs,0,none⟩) n n]) zK λpt _=>?_;have hz:madeCells (Value.cells (.map none)) (n*1)=rows ((List.replicate n [Value.map none])++[]):=by
  apply xdf;apply xbd;intro i;have:=DS (.map none) n;simp only[madeCells,rows,Value.cells,xdR,Array.toList_range,xat,xdC,xb4,xaL];rw[this,xdM];by_cases hi:i<n
  ·simp[hi,Nat.mod_one]
  simp[hi]
 rw[hz];have hs0:aV 105 1 (.slice (some ⟨bs,0,none⟩) n n) (List.replicate n [Value.map none]) [(bs,.cells (rows ((List.replicate n [Value.map none])++[])) 105 zZ)]:=
  aV.mk' (λr hr=>by rw[xaL]at hr;rw[xb0 hr];rfl) zI zI
 refine⟨λvs H=>∃(j:Nat) (bl:zL) (Cs:Hp),vs=[iv (j:Int)]/\bl.length=j/\j<=n/\H=(pt,.cells #[.slice (some ⟨bs,0,none⟩) n n] 104 zZ)::(Cs++ML (bl.map λb=>⟨b,#[],0,[]⟩))/\
  aV 105 1 (.slice (some ⟨bs,0,none⟩) n n) ((bl.map λb=>[Value.map (some b)])++List.replicate (n-j) [Value.map none]) Cs,λvs _=>n-bN vs 0,JE.mk ⟨0,[],_,rfl,rfl,by omega,by simp only[ML,xcl,xaL];rfl,by simpa using hs0⟩,?_⟩
 rintro w H ⟨j,bl,Cs,hw,Ur,hj,rfl,hs⟩ gs;simp only[xau,xa1]at hw;subst hw;refine ae.fC (Br.dec (λhlt=>?_) (λhlt=>?_))
 ·refine Nil.ptr (Ld.f ?_);intro b _;have hlen:((bl.map λb=>[Value.map (some b)])++List.replicate (n-j) [Value.map none]).length=n:=by simp;omega
  refine aV.afF (A:=[_,_]) (B:=ML (bl.map λb=>⟨b,#[],0,[]⟩)) hs (i:=j) (y:=.map none) zO ?_ rfl λC' hs'=>?_
  ·rw[xbQ (by simp[Ur])];simp only[xaE,Ur,xc7];rw[xdM,xad zO]
  refine ae.inc ?_;have e:((bl.map λb=>[Value.map (some b)])++List.replicate (n-j) [Value.map none]).set j [Value.map (some b)]=((bl++[b]).map λb=>[Value.map (some b)])++List.replicate (n-(j+1)) [Value.map none]:=by
   rw[xcA _ _ (by simp[Ur])];simp only[xaE,Ur,xc7];rw[show n-j=(n-(j+1))+1 by omega,xc9,xcz,xaB];simp
  rw[e]at hs';refine aC.of ?_ ⟨j+1,bl++[b],C',rfl,by simp[Ur],by omega,rfl,hs'⟩ (by show n-(((j+1:Nat):Int).toNat)<n-(((j:Nat):Int).toNat);omega);refine aM.perm ?_;simp only[xaQ,xbS,ML,xaB,xb8];refine(List.Perm.swap _ _ _).trans (.cons _ ?_);rw[<-xai];exact(xdw _ _).symm
 obtain rfl:j=n:=by omega
 refine aN.here ⟨pt,rfl,_,Cs,_,rfl,?_,UA.start _ bl Ur⟩;rw[xc7]at hs;simpa[xb8,Function.comp_def]using hs
theorem Xl{n:Nat}(hn:2<=n/\n<=1048576):Fc zQ 62 #[iv (n:Int)] [] (λv H=>∃pa,v=.tuple #[ptr pa,iv 0]/\iW pa n 2 (λ_=>none) H):=by
 refine aI λg=>OF (ae.lss ?_);rw[xal zO];refine cS.or false (λ_=>ae.gtr ⟨rfl,by rw[xal zO]⟩) rfl λ_=>Br.no ?_;refine Build.mk (cs:=[iv (n:Int),.slice none 0 0,.slice none 0 0,iv 2]) zK λpa _=>?_;refine⟨λvs H=>∃(j:Nat) (vl:zV) (Cl:Hp),vs=[u32 j]/\j<=2/\H=(pa,.cells #[iv (n:Int),vl,.slice none 0 0,iv 2] 142 zZ)::Cl/\
  aV 146 5 vl ((List.range j).map λr=>(pI.mk (-1) r r true 255).row) Cl,λvs _=>2-bN vs 0,JE.mk ⟨0,_,[],rfl,by omega,rfl,aV.nil _ _⟩,?_⟩
 rintro w H ⟨j,vl,Cl,hw,hj,rfl,hs⟩ gs;simp only[xau,xa1]at hw;subst hw;refine ae.fC (b:=2) (Br.dec (λhlt=>?_) (λhlt=>?_))
 ·refine Nil.ptr (Ld.f ?_);refine Build.mk (cs:=[iv (-1),u32 j,u32 j]) zK (Build.mk (cs:=(pI.mk (-1) j j true 255).row) zK (ax.one (z:=.agg #[iv 0,.int .u32 0,.int .u32 0,.bool false,.int .u8 0]) (e:=146) (k:=5) zK zK zK zD rfl λbx=>?_));have e1:∀x y:Nat×Obj,x::y::Cl=[x,y]++(Cl++[]):=λx y=>by simp
  rw[e1];refine hs.GH (A:=[_,_]) (B:=[]) (r:=(pI.mk (-1) j j true 255).row) (by exact .head _) rfl (row_one _) (by exact⟨[iv 0,.int .u32 0,.int .u32 0,.bool false,.int .u8 0],rfl,rfl⟩) zP zP λv' C' hs'=>?_;simp only[xaQ,xbS,xaL];have hone:v'.oneCell'=true:=by obtain⟨a,c,e⟩:=hs'.len;rw[e];rfl
  refine Nil.ptr (ai.mk (St.one (by exact .tail (.head _)) hone zI rfl ?_));refine ae.inc (aC.of .tail ⟨j+1,v',C',rfl,by omega,rfl,?_⟩ (by show 2-(((j+1:Nat):Int).toNat)<2-(((j:Nat):Int).toNat);omega));rw[xci,xaB];exact hs'
 obtain rfl:j=2:=by omega
 refine aN.here ⟨pa,rfl,vl,_,[⟨-1,0,0,true,255⟩,⟨-1,1,1,true,255⟩],[],Cl,[],by rw[xaL];rfl,hs,aS.nil,?_⟩;exact {
  cap:=by simp;omega
  two:=by simp
  const:=λr hr=>by
   have:r=0\/r=1:=by omega
   rcases this with rfl|rfl
   ·exact⟨_,rfl,rfl,rfl,rfl,rfl⟩
   exact⟨_,rfl,rfl,rfl,rfl,rfl⟩
  nd:=λr hr=>by rw[xaC zP];rfl
  n0:=λ_ _=>rfl
  nn:=λr p hr hp _=>by rw[xaC zP]at hp;cases hp
  Ux:=by simp
  BW:=λr=>by
   simp only[xaR,false_iff,not_exists,not_and];intro p hp;have hlt:=(xah.1 hp).1;simp at hlt;have:r=0\/r=1:=by omega
   rcases this with rfl|rfl<;>(simp at hp;subst hp;simp)
  used:=rfl}
structure uD where
 pa:Nat
 pt:Nat
 vu:zV
 vh:zV
 vo:zV
 vl:zV
 vt:zV
 CA:Hp
 CT:Hp
 CU:Hp
 CH:Hp
 CO:Hp
 CL:Hp
 CR:Hp
def uD.cells(b:uD)(n:Nat):Array zV:=#[ptr b.pa,ptr b.pt,b.vu,b.vh,iv (n:Int),b.vo,b.vl,b.vt]
def uD.hp(b:uD)(kp n:Nat):Hp:=(kp,.cells (b.cells n) 91 zZ)::(b.CA++(b.CT++(b.CU++(b.CH++(b.CO++(b.CL++b.CR))))))
structure aaK(b:uD)(K:Kd)(ord ah tr:zL):Prop where
 ar:iW b.pa K.cap K.used K.N b.CA
 ut:oD b.pt K.n K.T b.CT
 us:aS 21 .i32 b.vu (iw K.us) b.CU
 ho:aS 21 .i32 b.vh (iw K.ho) b.CH
 od:aS 3 .i64 b.vo (iw ord) b.CO
 lv:aS 3 .i64 b.vl (iw ah) b.CL
 tr:aS 3 .i64 b.vt (iw tr) b.CR
 ul:K.us.length=K.ho.length/\K.us.length<=1048576
 lP:K.n<=64
 ol:ord.length=K.n/\ah.length=K.n
def cR(kp:Nat)(K:Kd)(ord ah tr:zL)(C:Hp):Prop:=∃b:uD,C=b.hp kp K.n/\aaK b K ord ah tr
section
variable {kp:Nat} {K:Kd} {ord ah tr:zL} {C:Hp}
theorem cR.cap(h:cR kp K ord ah tr C):K.cap<=1048576:=by
 obtain⟨b,rfl,hb⟩:=h;exact(hb.ar.lt (r:=0) (.inl zD)).2
theorem cR.lt(h:cR kp K ord ah tr C){r:Nat}(hr:live K.N r):r<1048576:=by
 obtain⟨b,rfl,hb⟩:=h;have:=hb.ar.lt hr;omega
theorem aP(N:eE)(r:Nat):(got N r).length=3/\∀x∈got N r,x.oneCell'=true:=by
 unfold got;split
 ·exact⟨rfl,by intro x hx;simp[u32]at hx;rcases hx with rfl|rfl|rfl<;>rfl⟩
 split
 ·exact⟨rfl,by intro x hx;simp[bt,u32]at hx;rcases hx with rfl|rfl|rfl<;>rfl⟩
 exact⟨rfl,by intro x hx;simp[u32]at hx;rcases hx with rfl|rfl|rfl<;>rfl⟩
theorem n7(h:cR kp K ord ah tr C){r:Nat}(hr:r<4294967296):Rd zQ 120 #[ptr kp,u32 r] C (· =.bool (gE K.N r)):=by
 obtain⟨b,rfl,hb⟩:=h;refine aI λg=>Jo (Nil.ptr (Ld.f ?_));refine aa.eq (SF hb.ar hr) (Ext.two λb8 _=>(St.whole (r:=got K.N r) (by exact .head _) rfl (aP _ _).1 (aP _ _).2 ?_));refine ae.gJ (bc.mk .tail ?_);cases gE K.N r<;>rfl
theorem n6(h:cR kp K ord ah tr C){r:Nat}(hr:r<4294967296):Rd zQ 190 #[ptr kp,u32 r] C (· =.agg (got K.N r).toArray):=by
 obtain⟨b,rfl,hb⟩:=h;refine aI λg=>Iu λb1 _=>?_;refine Nil.ptr (Ld.f ?_);refine aa.eq (SF hb.ar hr) (Ext.two λBA _=>(St.whole (r:=got K.N r) (by exact .head _) rfl (aP _ _).1 (aP _ _).2 ?_));refine az.whole (r:=got K.N r) (by exact .head _) (aP _ _).1 ?_;refine St.whole (r:=got K.N r) (by exact .tail (.head _)) rfl (aP _ _).1 (aP _ _).2 ?_;refine az.whole (r:=got K.N r) (by exact .tail _ (.head _)) (aP _ _).1 ?_;exact bc.mk (.skip .tail) rfl
theorem Dl(h:cR kp K ord ah tr C){m:Nat}(hm:m<=1099511627776)(hu:K.used<=1048576):Rd zQ 148 #[ptr kp,iv (m:Int)] C (· =.bool (decide (K.used+m<=K.cap))):=by
 obtain⟨b,rfl,hb⟩:=h;refine aI λg=>I7 (DR.self (Nil.ptr (Ld.f ?_)));refine Nil.ptr (Ld.f ?_);refine aa.eq (Ee hb.ar) (⟨.refl _,?_⟩);refine ae.fI (aa.eq (GI hb.ar) (⟨.refl _,?_⟩));exact ae.BP (bc.mk (.refl _) rfl)
def tt(K:Kd)(r:Nat):zL:=if r<2 then K.us else K.us.set r (K.use r+1)
theorem jr(r:Nat):(tt K r).length=K.us.length:=by unfold tt;split<;>simp
theorem nM{r:Nat}(h2:2<=r)(hr:r<K.us.length):(tt K r).getD r 0=K.use r+1:=by
 unfold tt;rw[xab zO];simp[List.getD,hr]
theorem uX{r s:Nat}(h:s≠r):(tt K r).getD s 0=K.use s:=by
 unfold tt Kd.use;split
 ·rfl
 simp[List.getD,xbK (xa9 h)]
theorem EX(h:cR kp K ord ah tr C){r:Nat}(hr:r<2\/r<K.us.length)(hb:K.use r+1<2147483648):
  Fc zQ 203 #[ptr kp,u32 r] C (λv C'=>v=.tuple #[]/\cR kp {K with us:=tt K r} ord ah tr C'):=by
 obtain⟨b,rfl,hO⟩:=h;refine aI λg=>Ii (ae.nE (b:=1) (Br.dec (λh1=>?_) (λh1=>?_)))
 ·have hr':r<K.us.length:=by omega
  refine Nil.ptr (Ld.f ?_);refine hO.us.ld (x:=((K.use r:Nat):Int)) (bE hr') (bH.sub (.cons (.app (.app .left)))) (ae.inc (hO.us.ny (.cons (.app (.app .left))) (by simpa using hr') λC' ho=>?_));refine aN.here ⟨rfl,{b with CU:=C'},rfl,?_⟩;have e:tt K r=K.us.set r (K.use r+1):=by unfold tt;rw[xab zO]
  exact {hO with us:=by rw[fg]at ho;rw[e];exact ho,ul:=by simp only[e,xbR];exact hO.ul}
 refine aN.here ⟨rfl,b,rfl,?_⟩;have e:tt K r=K.us:=by unfold tt;rw[xad zO]
 rw[e];exact hO
end
section
variable {kp:Nat} {K:Kd} {ord ah tr:zL} {C:Hp}
theorem gU{l:zL}{r s x:Nat}(hr:r<l.length):(l.set r x).getD s 0=if s=r then x else l.getD s 0:=by
 simp only[List.getD,xbn];by_cases e:r=s
 ·subst e;simp[hr]
 rw[xab e,xab (xa9 e)]
theorem wA(l:zL)(s:Nat):(l++[0]).getD s 0=l.getD s 0:=by
 simp only[List.getD,xdX];split
 ·rfl
 rename_i h;rw[xaC (by omega:l.length<=s)];cases hs:s-l.length<;>simp[hs]
def PN:Hp->Nat
 |_::(_,Obj.cells c _ _)::_=>(match c[2]? with|some (Value.slice _ n _)=>n|_=>0)
 |_=>0
theorem B7{b:uD}{x:Nat×Obj}{n m:Nat}{a:Option Addr}{cp:Nat}(h:b.vu=.slice a m cp):PN (x::b.hp kp n)=m:=by simp[PN,uD.hp,uD.cells,h]
theorem JW(h:cR kp K ord ah tr C){d:Nd}(hd:NOk K.N d)(hv:d.v<K.n)(hT:K.T d=none)(hroom:K.used<K.cap)(hlo:d.lo<2\/d.lo<K.us.length)(hhi:d.hi<2\/d.hi<K.us.length)
 (hb:∀s,K.use s+2<2147483648):
  Fc zQ 149 #[ptr kp,nK d] C (λv C'=>∃r dA cz,v=u32 r/\K.N r=none/\2<=r/\r<K.cap/\dA.length=cz.length/\r<dA.length/\K.us.length<=dA.length/\dA.getD r 0=0/\
   (∀s,2<=s->s≠r->dA.getD s 0=K.use s+e1 (some d) s)/\(∀s,s<2->dA.getD s 0=K.use s)/\cz.getD r 0=0/\(∀s,s≠r->cz.getD s 0=K.hold s)/\
   cR kp {K with N:=up K.N r (some d),T:=qM K.T d (some r),used:=K.used+1,us:=dA,ho:=cz} ord ah tr C'):=by
 have hcap:=h.cap;obtain⟨b,rfl,hO⟩:=h;have M1:=hO.ul;refine aI λg=>I6 λb1 _=>?_;refine DR.of (R:=(b1,.cells (Value.cells (nK d)) 144 zZ)::(kp,.cells (b.cells K.n) 91 zZ)::[]) (.cons (.cons .nil)) (Nil.ptr (Ld.f ?_));refine az.q ?_;refine aa.fq (TK hO.ar hd hroom) ?_;rintro v CA' ⟨r,rfl,h2,hrc,hN,har⟩;refine⟨.cons (.cons .nil),Ext.mk rfl (Ext.mk rfl ?_)⟩;refine⟨λ_ H=>∃(b':uD) (dA cz:zL),H=(b1,.cells (Value.cells (nK d)) 144 zZ)::b'.hp kp K.n/\aaK b' {K with N:=up K.N r (some d),used:=K.used+1,us:=dA,ho:=cz} ord ah tr/\
   K.us.length<=dA.length/\(∀s,dA.getD s 0=K.use s)/\∀s,cz.getD s 0=K.hold s,
  λ_ H=>r+1-PN H,JE.mk ⟨{b with CA:=CA'},K.us,K.ho,rfl,{hO with ar:=har,ul:=M1},xaj _,λ_=>rfl,λ_=>rfl⟩,?_⟩
 rintro H ⟨b',dA,cz,rfl,yf,hle,hu,hh⟩ gs;have acu:=yf.ul;simp only at acu;refine br.q (Nil.ptr (Ld.f ?_));refine yf.us.bV ?_;rw[aq];refine ae.tS (Br.dec (λhge=>?_) (λhge=>?_))
 ·have hge:dA.length<=r:=hge;refine Nil.ptr (Ld.f ?_);refine ax.int (e:=21) zK zK zK λbx=>?_;refine yf.us.rZ (.cons (.cons (.cons (.app (.app .left))))) (by exact .head _) zP zP λvu' UC Bd=>?_;refine Nil.ptr (ai.mk (St.one (by exact .tail (.tail (.head _))) Bd.one (by simp[uD.cells]) rfl ?_));refine Nil.ptr (Ld.f ?_);refine ax.int (e:=21) zK zK zK λby'=>?_;refine yf.ho.rZ (.cons (.cons (.cons (.cons (.app (.app (.app .left))))))) (by exact .head _) zP zP λvh' Ua l7=>?_;refine Nil.ptr (ai.mk (St.one (by exact .tail (.tail (.tail (.head _)))) l7.one (by simp[uD.cells]) rfl ?_));have e0:∀l:zL,iw l++[0]=iw (l++[0]):=λl=>by rw[cC];rfl
  rw[e0]at Bd l7;refine aC.of (.skip (.skip (.refl _))) ⟨{b' with vu:=vu',vh:=vh',CU:=UC,CH:=Ua},dA++[0],cz++[0],rfl,{yf with us:=Bd,ho:=l7,ul:=by simp at acu⊢;omega},by simp;omega,λs=>by rw[wA,hu],λs=>by rw[wA,hh]⟩ ?_;obtain⟨a1,c1,e1⟩:=aV.len yf.us;obtain⟨a2,c2,e2⟩:=aV.len Bd;have f1:=B7 (b:=b') (x:=(b1,.cells (Value.cells (nK d)) 144 zZ)) (kp:=kp) (n:=K.n) e1;have f2:=B7 (b:={b' with vu:=vu',vh:=vh',CU:=UC,CH:=Ua}) (x:=(b1,.cells (Value.cells (nK d)) 144 zZ)) (kp:=kp) (n:=K.n) e2;rw[f1];refine xaA (Nat.le_of_eq (xck (λz=>r+1-z) f2)) ?_;simp;omega
 have hge:¬dA.length<=r:=hge;have RJ:r<dA.length:=by omega
 have qx:r<cz.length:=by omega
 refine DR.of (R:=(kp,.cells (b'.cells K.n) 91 zZ)::[]) (.skip (.cons .nil)) (Nil.ptr (Ld.f ?_));refine Nil.ptr (Ld.f ?_);refine yf.us.ny (x:=0) (.cons (.cons (.app (.app .left)))) (by simpa using RJ) λUC Bd=>?_;refine yf.ho.ny (x:=0) (.cons (.cons (.app (.app (.app .left))))) (by simpa using qx) λUa l7=>?_;have e0:∀l:zL,(iw l).set r 0=iw (l.set r 0):=λl=>fg l r 0;rw[e0]at Bd l7;have lor:d.lo≠r:=gh hd.lo h2 hN;have hir:d.hi≠r:=gh hd.hi h2 hN;refine Ld.f ?_;have u0:∀s,(dA.set r 0).getD s 0=if s=r then 0 else K.use s:=λs=>by rw[gU RJ];split;rfl;exact hu s
 have h0:∀s,(cz.set r 0).getD s 0=if s=r then 0 else K.hold s:=λs=>by rw[gU qx];split;rfl;exact hh s
 have dO:cR kp {K with N:=up K.N r (some d),used:=K.used+1,us:=dA.set r 0,ho:=cz.set r 0} ord ah tr (({b' with CU:=UC,CH:=Ua}:uD).hp kp K.n):=⟨_,rfl,{yf with us:=Bd,ho:=l7,ul:=by simp;omega}⟩;refine aa.fq (EX dO zP (by have:=hb d.lo;show(dA.set r 0).getD d.lo 0+1<_;rw[u0,xab lor];omega)) ?_;rintro v C1 ⟨rfl,cT⟩;refine Ld.f ?_;have u1:∀s,(tt {K with N:=up K.N r (some d),used:=K.used+1,us:=dA.set r 0,ho:=cz.set r 0} d.lo).getD s 0=(if s=r then 0 else K.use s)+(if 2<=s/\s=d.lo then 1 else 0):=λs=>by
  by_cases e:s=d.lo
  ·by_cases h2:2<=s
   ·rw[xad (show 2<=s/\s=d.lo from⟨h2,e⟩),e,nM zO zP];show(dA.set r 0).getD d.lo 0+1=_;rw[u0]
   rw[xab (show¬(2<=s/\s=d.lo)by omega)];unfold tt;rw[xad zO];show(dA.set r 0).getD s 0=_;rw[u0];rfl
  rw[xab (show¬(2<=s/\s=d.lo)by omega),uX e];show(dA.set r 0).getD s 0=_;rw[u0];rfl
 refine aa.fq (EX cT (by rw[jr];simp;omega) (by
  have:=hb d.hi;show(tt _ d.lo).getD d.hi 0+1<_;rw[u1,xab hir];split<;>omega)) ?_
 rintro v C2 ⟨rfl,jZ⟩;have aml:=jZ;obtain⟨b3,rfl,hO3⟩:=jZ;refine DR.self (Nil.ptr (Ld.f ?_));refine az.q ?_;refine aa.fq (JT hO3.ut hv hT) ?_;rintro v CT' ⟨rfl,ZA⟩;have u2:∀s,(tt {K with N:=up K.N r (some d),used:=K.used+1,us:=tt {K with N:=up K.N r (some d),used:=K.used+1,us:=dA.set r 0,ho:=cz.set r 0} d.lo,ho:=cz.set r 0} d.hi).getD s 0=(if s=r then 0 else K.use s)+(if 2<=s/\s=d.lo then 1 else 0)+(if 2<=s/\s=d.hi then 1 else 0):=λs=>by
  by_cases e:s=d.hi
  ·by_cases h2:2<=s
   ·rw[xad (show 2<=s/\s=d.hi from⟨h2,e⟩),e,nM zO (by rw[jr];simp;omega)];show(tt _ d.lo).getD d.hi 0+1=_;rw[u1]
   rw[xab (show¬(2<=s/\s=d.hi)by omega)];unfold tt;rw[xad zO];show(tt _ d.lo).getD s 0=_;rw[u1];rfl
  rw[xab (show¬(2<=s/\s=d.hi)by omega),uX e];show(tt _ d.lo).getD s 0=_;rw[u1];rfl
 refine aN.mk .tail ⟨r,_,_,rfl,hN,h2,hrc,?_,?_,?_,?_,?_,?_,?_,?_,{b3 with CT:=CT'},rfl,{hO3 with ut:=ZA}⟩
 ·rw[jr,jr];simp;omega
 ·rw[jr,jr];simp;omega
 ·rw[jr,jr];simp;omega
 ·rw[u2,xad rfl,xab (show¬(2<=r/\r=d.lo)by omega),xab (show¬(2<=r/\r=d.hi)by omega)]
 ·intro s h2s hne;rw[u2,xab hne,eC];have c1:(2<=s/\s=d.lo)↔d.lo=s:=⟨λh=>h.2.symm,λh=>⟨h2s,h.symm⟩⟩;have c2:(2<=s/\s=d.hi)↔d.hi=s:=⟨λh=>h.2.symm,λh=>⟨h2s,h.symm⟩⟩;simp only[c1,c2];omega
 ·intro s hs;rw[u2,xab (show¬s=r by omega),xab (show¬(2<=s/\s=d.lo)by omega),xab (show¬(2<=s/\s=d.hi)by omega)];try simp
 ·rw[h0,xad rfl]
 intro s hne;rw[h0,xab hne]
end
end
end Go.Proofs
