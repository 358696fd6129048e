import Derived.Test.YtgeffephefcdiaaGreatW1
import Derived.Laws.StructEq
import Derived.ChangeKeysEq
import Derived.Defers
import Derived.Test.YtgeffephefcdiaaGreatProg
set_option linter.unusedVariables false
set_option linter.unusedSimpArgs false
set_option linter.unusedSectionVars false
namespace Go.Sx
open Go
section
variable {P:Program} {g:Gh} {H:Hp}
def xd(P:Program)(t:TypeId)(x y:zV):Prop:=
 (∃q a b,P.underlying t=some (.int q)/\x=.int q a/\y=.int q b)\/(∃a b,P.underlying t=some .bool/\x=.bool a/\y=.bool b)
theorem xd.eq{t:TypeId}{x y:zV}(h:xd P t x y)(d:Nat)(w:World):∃b,(Op.equalIn (d+1) t x y).run P w=.ok b w/\(b=true↔x=y):=by
 rcases h with⟨q,a,b,hu,rfl,rfl⟩|⟨a,b,hu,rfl,rfl⟩
 ·exact⟨a==b,by simp[Op.equalIn,run_underlying hu],by simp⟩
 exact⟨a==b,by simp[Op.equalIn,run_underlying hu],by simp⟩
theorem qk{t:TypeId}{xs:Array zV}{o:Nat}{x:zV}(hu:(∃q,P.underlying t=some (.int q))\/P.underlying t=some .bool)(h:xs[o]? =some x)(w:World):(part t xs o).run P w=.ok x w:=by
 rcases hu with⟨q,hu⟩|hu<;>simp[part,isAgg,run_underlying hu,h]
theorem pP(d:Nat)(xs ys:Array zV)(w:World):∀fs:List Field,(∀f∈fs,f.name≠ "_" /\∃x y,xs[f.offset]? =some x/\ys[f.offset]? =some y/\xd P f.type x y)->
  ∃b,(Op.eqFields (d+1) xs ys fs).run P w=.ok b w/\(b=true↔∀f∈fs,xs[f.offset]? =ys[f.offset]?)
 | [],_=>⟨true,by simp[Op.eqFields],by simp⟩
 |f::fs,h=>by
  obtain⟨hn,x,y,hx,hy,hp⟩:=h f zI;obtain⟨b',ih,hb'⟩:=pP d xs ys w fs λg hg=>h g (by simp[hg]);have hu:(∃q,P.underlying f.type=some (.int q))\/P.underlying f.type=some .bool:=by
   rcases hp with⟨q,_,_,hu,_⟩|⟨_,_,hu,_⟩
   ·exact .inl ⟨q,hu⟩
   exact .inr hu
  obtain⟨b,hr,hb⟩:=hp.eq d w;have p1:=qk hu hx w;have p2:=qk hu hy w;cases b with
  |false=>
   refine⟨false,by simp[Op.eqFields,hn,p1,p2,hr],?_⟩;simp only[xaQ,xam,forall_eq_or_imp,false_iff,hx,hy,xas];exact λhh=>absurd (hb.2 hh.1) zD
  |true=>
   refine⟨b',by simp[Op.eqFields,hn,p1,p2,hr,ih],?_⟩;rw[hb'];simp only[xam,forall_eq_or_imp,hx,hy,xas,hb.1 rfl,xcT]
theorem BA.flat{t:TypeId}{fs:Array Field}(ht:P.underlying t=some (.struct fs))(hp:P.stoodInHeld t=false){xs ys:Array zV}{p:Prop}[Decidable p]
 (h:∀f∈fs.toList,f.name≠ "_" /\∃x y,xs[f.offset]? =some x/\ys[f.offset]? =some y/\xd P f.type x y)(he:(∀f∈fs.toList,xs[f.offset]? =ys[f.offset]?)↔p):BA P t (.agg xs) (.agg ys) (decide p):=by
 have e:P.fieldsOf t=fs:=by simp[Program.fieldsOf,ht]
 intro w;show(Op.equalIn (9998+1+1) t _ _).run P w=_;rw[run_equalIn_struct w (9998+1) t xs ys (by rw[e];exact ht) hp,e];obtain⟨b,hr,hb⟩:=pP (P:=P) 9998 xs ys w fs.toList h;rw[hr];congr 1;rw[xbN,hb,he,xar]
theorem mu.flat{t:TypeId}{fs:Array Field}(ht:P.underlying t=some (.struct fs)){xs:Array zV}
 (h:∀f∈fs.toList,f.name≠ "_" /\∃x,xs[f.offset]? =some x/\xd P f.type x x):mu P t (.agg xs):=by
 intro b w;have gen:∀d,(Instr.checkKey b (d+1+1) t (.agg xs)).run P w=.ok () w:=by
  intro d;unfold Instr.checkKey;simp only[Sem.run_bind,run_underlying ht,Result.andThen_ok];rw[<-Array.forIn_toList];clear ht;generalize fs.toList=l at h;induction l with
  |nil=>simp
  |cons f l ih=>
   obtain⟨hn,x,hx,hp⟩:=h f zI;have hu:(∃q,P.underlying f.type=some (.int q))\/P.underlying f.type=some .bool:=by
    rcases hp with⟨q,_,_,hu,_⟩|⟨_,_,hu,_⟩
    ·exact .inl ⟨q,hu⟩
    exact .inr hu
   have p1:=qk hu hx w;have p2:(Instr.checkKey b (d+1) f.type x).run P w=.ok () w:=by
    rcases hp with⟨q,a,_,hu,rfl,_⟩|⟨a,_,hu,rfl,_⟩
    ·simp only[Instr.checkKey,Sem.run_bind,run_underlying hu,Result.andThen_ok,Sem.run_pure]
    simp only[Instr.checkKey,Sem.run_bind,run_underlying hu,Result.andThen_ok,Sem.run_pure]
   have:=ih λg hg=>h g (by simp[hg]);simp only[xes,Sem.run_bind];simp[hn,p1,p2];simpa using this
 exact gen 9998
theorem kP(n:Nat){xs:Array zV}(h:∀x∈xs.toList,(∃q a,x=.int q a)\/∃a,x=.bool a):Instr.sameBits (n+1+1) (.agg xs) (.agg xs)=true:=by
 simp only[Instr.sameBits,xeo,xbR,xc1];intro x hx;obtain⟨a,b⟩:=x;have h1:=xdA hx;have e:a=b:=by
  obtain⟨i,hi,he⟩:=xbd.1 hx;simp at he;exact he.1.symm.trans he.2
 subst e;rcases h a h1.1 with⟨q,z,rfl⟩|⟨z,rfl⟩<;>simp[Instr.sameBits]
end
section
variable {κ:Type} [DecidableEq κ] {β:Type} {ke:κ->zV} {vr:zV->β->Prop} {es:Array MapEntry} {ck b:Nat} {m:List (κ×β)} {P:Program} {H:Hp}
def jb(m:List (κ×β))(k:κ):List (κ×β):=m.filter λy=>¬y.1=k
theorem yO{k k':κ}:aJ (jb m k) k'=if k'=k then none else aJ m k':=by
 unfold aJ jb;rw[List.find?_filter];by_cases e:k'=k
 ·rw[xad e];rw[xcy.2]
  ·rfl
  intro x _;simp;intro h1 h2;exact h1 (h2.trans e)
 rw[xac e];congr 1;congr 1
 funext y
 by_cases e2:y.1=k'
 ·have:¬y.1=k:=λe3=>e (e2.symm.trans e3);simp[e2,this,e]
 simp[e2]
theorem bJ{k k':κ}{x:β}:aJ (ef m k x) k'=if k'=k then some x else aJ m k':=by
 unfold aJ ef;by_cases hk:k∈m.map Prod.fst
 ·rw[xad hk];by_cases e:k'=k
  ·subst e;rw[xad rfl];induction m with
   |nil=>simp at hk
   |cons y m ih=>
    rw[xaB,xby];by_cases ey:y.1=k'
    ·simp[ey]
    rw[xac ey];simp only[ey,xdo];rw[ih];rw[xaB]at hk;rcases xam.1 hk with h|h
    ·exact absurd h.symm ey
    simpa using h
  rw[xac e];have:∀l:List (κ×β),(List.find? (λy=>decide (y.1=k')) (l.map λy=>if y.1=k then(k,x)else y)).map Prod.snd=(List.find? (λy=>decide (y.1=k')) l).map Prod.snd:=by
   intro l;induction l with
   |nil=>rfl
   |cons y l ih=>
    rw[xaB,xby,xby];by_cases ey:y.1=k
    ·have h1:decide (k=k')=false:=by simpa using λh=>e h.symm
     have h2:decide (y.1=k')=false:=by rw[ey];exact h1
     simp only[xad ey,h1,h2];exact ih
    simp only[xac ey];cases decide (y.1=k')with
    |true=>rfl
    |false=>exact ih
  exact this m
 rw[xac hk];rw[List.find?_append];by_cases e:k'=k
 ·subst e;have:List.find? (λy=>decide (y.1=k')) m=none:=by
   rw[xcy];intro y hy;simp;intro h;exact hk (xan.2 ⟨y,hy,h⟩)
  simp[this]
 have:¬k=k':=λh=>e h.symm;rw[xac e];cases List.find? (λy=>decide (y.1=k')) m<;>simp[this]
theorem vP(nd:(m.map Prod.fst).Nodup){i:Nat}{k:κ}{y:β}(hi:m[i]? =some (k,y)):jb m k=m.eraseIdx i:=by
 unfold jb;induction m generalizing i with
 |nil=>simp at hi
 |cons z m ih=>
  rw[xaB,xaX]at nd;cases i with
  |zero=>
   simp at hi;subst hi;rw[List.eraseIdx_cons_zero,List.filter_cons_of_neg zI];rw[xcs];intro w hw;simp only[decide_not,xbE,xa4];intro e;exact nd.1 (xan.2 ⟨w,hw,e⟩)
  |succ i=>
   simp at hi;have hz:¬z.1=k:=λe=>nd.1 (xan.2 ⟨_,xav hi,e.symm⟩);rw[List.eraseIdx_cons_succ,List.filter_cons_of_pos (by simpa using hz),ih nd.2 hi]
omit [DecidableEq κ] in
theorem aE.less(h:aE ke vr es ck m)(i:Nat):aE ke vr (es.eraseIdxIfInBounds i) ck (m.eraseIdx i):=by
 have hl:(es.eraseIdxIfInBounds i).toList=es.toList.eraseIdx i:=by
  unfold Array.eraseIdxIfInBounds;split
  ·simp
  rename_i hh;rw[List.eraseIdx_of_length_le (by simpa using hh)]
 refine⟨?_,λj e x he hx=>?_,?_,?_,λe he=>?_⟩
 ·have:=xcj List.length hl;rw[xce,List.length_eraseIdx]at this;rw[this,List.length_eraseIdx,xce,h.len]
 ·rw[<-xbf,hl,List.getElem?_eraseIdx]at he;rw[List.getElem?_eraseIdx]at hx;split at he
  ·rename_i hh;rw[xad hh]at hx;exact h.key j e x (by simpa using he) hx
  rename_i hh;rw[xac hh]at hx;exact h.key (j+1) e x (by simpa using he) hx
 ·rw[<-gW];exact h.nd.sublist (xdX _ _)
 ·rw[hl,<-gW];exact h.born.sublist (xdX _ _)
 rw[hl]at he;exact h.lt e (List.mem_of_mem_eraseIdx he)
theorem aE.ahm{P:Program}{kt:TypeId}{k:κ}{K:Hp->Prop}(hk:∀a b,BA P kt (ke a) (ke b) (decide (a=b)))(hc:∀a,mu P kt (ke a))(h:aE ke vr es ck m)(hm:(b,Obj.map es ck)∈H)
 (h1:∀es',aE ke vr es' ck (jb m k)->∃H',c8 b (.map es ck) (.map es' ck) H H'/\K H'):r7 P kt H (.map (some b)) (ke k) K:=by
 refine⟨hc k,.inr ?_⟩;rcases h.DQ hk k with⟨i,y,e,g1,g2,g3,g4⟩|⟨g1,g2⟩
 ·refine⟨b,es,ck,_,rfl,g4,?_⟩;have:=h.less i;rw[<-vP h.nd g2]at this;exact h1 _ this
 refine⟨b,es,ck,_,rfl,g2,hm,?_⟩;have e:jb m k=m:=by
  unfold jb;rw[xcs];intro w hw;simp only[decide_not,xbE,xa4];intro e;exact g1 (xan.2 ⟨w,hw,e⟩)
 obtain⟨H',hu,hK⟩:=h1 es (by rw[e];exact h);have:∀{H H':Hp},c8 b (.map es ck) (.map es ck) H H'->H'=H:=by
  intro H H' hu;generalize ho:Obj.map es ck=o at hu;induction hu with
  |head R=>rfl
  |tail _ ih=>rw[ih]
 rw[this hu]at hK;exact hK
end
section
variable {P:Program} {H:Hp}
theorem bg.Li{T:TypeId}{k:Nat}{v:zV}{rs:List (List zV)}{C:Hp}(hs:bg T k v rs C){i:Nat}{kd:IntKind}{r:List zV}(hr:rs[i]? =some r)(hC:∀y∈C,y∈H){K:zV->Prop}(hk:K (.agg r.toArray)):
  au k v (.int kd (i:Int)) λp=>ax k H p K:=by
 have hi:=(xak.1 hr).1;obtain⟨b',aP,rfl,rfl,aI⟩:=hs.pos zO;exact au.nat hi (ax.row (hC _ (List.Mem.head _)) aI (by rw[xaY hi];exact hr) hk)
theorem bg.YD{T:TypeId}{k:Nat}{v x:zV}{rs:List (List zV)}{C:Hp}(hs:bg T k v rs C){i j:Nat}{kd:IntKind}{r:List zV}(hr:rs[i]? =some r)(hj:r[j]? =some x)(hC:∀y∈C,y∈H){K:zV->Prop}(hk:K x):
  au k v (.int kd (i:Int)) λp=>ai j p λq=>Ld H q K:=by
 have hi:=(xak.1 hr).1;obtain⟨b',aP,rfl,rfl,aI⟩:=hs.pos zO;exact au.nat hi (ai.mk (Ld.row (hC _ (List.Mem.head _)) aI (by rw[xaY hi];exact hr) hj hk))
theorem bg.Xd{T:TypeId}{v x:zV}{rs:List (List zV)}{C:Hp}(hs:bg T 1 v rs C){i:Nat}{kd:IntKind}(hr:rs[i]? =some [x])(hC:∀y∈C,y∈H){K:zV->Prop}(hk:K x):
  au 1 v (.int kd (i:Int)) λp=>Ld H p K:=by
 have hi:=(xak.1 hr).1;obtain⟨b',aP,rfl,rfl,aI⟩:=hs.pos zO;exact au.nat hi (Ld.aba (l:=rs++aP) (hC _ (List.Mem.head _)) aI (by rw[xaY hi];exact hr) hk)
theorem bg.YC{T:TypeId}{k n:Nat}{v:zV}{rs:List (List zV)}{C:Hp}(hs:bg T k v rs C){i:Nat}{kd:IntKind}{r:List zV}(hr:rs[i]? =some r)(hn:0<n/\n<=k)(hC:∀y∈C,y∈H){K:zV->Prop}(hk:K (.agg (r.take n).toArray)):
  au k v (.int kd (i:Int)) λp=>ai 0 p λq=>ax n H q K:=by
 have hi:=(xak.1 hr).1;obtain⟨b',aP,rfl,rfl,aI⟩:=hs.pos zO;have Du:r.length=k:=aI r (xae _ (xav hr));refine au.nat hi (ai.mk ?_);have BN:At H (.pointer (some ⟨b',0+i*k+0,none⟩)) (r.take n):=⟨b',_,_,_,_,rfl,hC _ (List.Mem.head _),λj x hj=>by
  have TW:j<n:=by have:=(xak.1 hj).1;simp at this;omega
  rw[List.getElem?_take,xad TW]at hj;rw[xcv,xa3,iN aI zO,xaY hi,hr];exact hj⟩
 exact ax.at BN zP hn.1 (λ_ h=>h) hk
theorem MO{k:Nat}{l:List (List zV)}(h:∀r∈l,r.length=k){i:Nat}{r xs:List zV}(hi:l[i]? =some r)(hx:xs.length<=k):jQ (rows l) (i*k) xs=rows (l.set i (xs++r.drop xs.length)):=by
 have hlt:=(xak.1 hi).1;have hr:=h r (xav hi);have key:∀(xs:List zV) (j:Nat) (l:List (List zV)) (r:List zV),(∀r∈l,r.length=k)->l[i]? =some r->j+xs.length<=k->jQ (rows l) (i*k+j) xs=rows (l.set i (r.take j++xs++r.drop (j+xs.length))):=by
  intro xs;induction xs with
  |nil=>
   intro j l r h hi _;have hlt:=(xak.1 hi).1;simp only[jQ,xaL,xcf,xcv,xbk];congr 1;apply xbg;intro m;rw[xbr];by_cases e:i=m
   ·subst e;rw[xad rfl,hi,xad hlt]
   rw[xac e]
  |cons x xs ih=>
   intro j l r h hi hj;have hr:=h r (xav hi);have hlt:=(xak.1 hi).1;simp only[xaH]at hj;rw[jQ,pF h hi zO,xcS];rw[ih (j+1) (l.set i (r.set j x)) (r.set j x) (λy hy=>by
    rcases xcg hy with hy|rfl
    ·exact h y hy
    simpa using hr) (by simp[hlt]) zO]
   rw[List.set_set];congr 2;have e1:(r.set j x).take (j+1)=r.take j++[x]:=by
    rw[xcZ,xad zO,List.take_append];simp[List.take_take,show min (j+1) j=j by omega,show j+1-min j r.length=1 by omega]
   have e2:(r.set j x).drop (j+1+xs.length)=r.drop (j+(x::xs).length):=by
    rw[List.drop_set,xad zO];congr 1;simp;omega
   rw[e1,e2];simp
 have:=key xs 0 l r h hi zO;simpa using this
theorem bg.UR{T:TypeId}{k n:Nat}{v:zV}{rs:List (List zV)}{C A B:Hp}(hs:bg T k v rs C){i:Nat}{kd:IntKind}{r xs:List zV}(hr:rs[i]? =some r)(hx:xs.length=n/\n<=k)(h1:∀x∈xs,x.oneCell'=true){K:Hp->Prop}
 (hk:∀C',bg T k v (rs.set i (xs++r.drop n)) C'->K (A++(C'++B))):au k v (.int kd (i:Int)) λp=>ai 0 p λq=>St n (A++(C++B)) q (.agg xs.toArray) K:=by
 have hi:=(xak.1 hr).1;obtain⟨b',aP,rfl,rfl,aI⟩:=hs.pos zO;refine au.nat hi (ai.mk ?_);have hg:(rs++aP)[i]? =some r:=by rw[xaY hi];exact hr
 have e:(rs++aP).set i (xs++r.drop xs.length)=rs.set i (xs++r.drop n)++aP:=by rw[xcY _ _ hi,hx.1]
 refine St.mk (c':=rows (rs.set i (xs++r.drop n)++aP)) (H':=A++([(b',.cells (rows (rs.set i (xs++r.drop n)++aP)) T zZ)]++B)) (((c8.head _).append B).cc A) (by simpa[Value.cells]using hx.1) ?_ (by simpa[Value.cells]using h1) ?_ ?_
 ·rw[bR aI,xa3,xcv,xaf];have:=xaV k (xcH hi);rw[xbC]at this;have h2:rs.length*k<=(rs.length+aP.length)*k:=xaV k zO;omega
 ·simp only[Value.cells,xa3,xcv];rw[MO aI hg zO,e]
 have Du:r.length=k:=aI r (xae _ (xav hr));refine hk _ (bg.mk' (aP:=aP) (λy hy=>?_) zI zI);rcases xao.1 hy with hy|hy
 ·rcases xcg hy with hy|rfl
  ·exact aI y (xae _ hy)
  simp;omega
 exact aI y (xab _ hy)
theorem bg.QA{T:TypeId}{k:Nat}{v:zV}{rs:List (List zV)}{C A B:Hp}(hs:bg T k v rs C){i:Nat}{kd:IntKind}{xs:List zV}(hi:i<rs.length)(hx:xs.length=k)(h1:∀x∈xs,x.oneCell'=true){K:Hp->Prop}
 (hk:∀C',bg T k v (rs.set i xs) C'->K (A++(C'++B))):au k v (.int kd (i:Int)) λp=>St k (A++(C++B)) p (.agg xs.toArray) K:=by
 obtain⟨b',aP,rfl,rfl,aI⟩:=hs.pos zO;refine au.nat hi (St.row (l:=rs++aP) (((c8.head _).append B).cc A) aI zP hx h1 ?_);have e:(rs++aP).set i xs=rs.set i xs++aP:=by rw[xcY _ _ hi]
 rw[e];refine hk [(b',_)] (bg.mk' (aP:=aP) (λy hy=>?_) zI zI);rcases xao.1 hy with hy|hy
 ·rcases xcg hy with hy|rfl
  ·exact aI y (xae _ hy)
  exact hx
 exact aI y (xab _ hy)
theorem aN.ld{T:TypeId}{kd xY:IntKind}{v:zV}{l:List Int}{C:Hp}(hs:aN T kd v l C){i:Nat}{x:Int}(hx:l[i]? =some x)(hC:∀y∈C,y∈H){K:zV->Prop}(hk:K (.int kd x)):au 1 v (.int xY (i:Int)) λp=>Ld H p K:=
 bg.Xd hs (x:=.int kd x) (by simp[hx]) hC hk
theorem aN.put{T:TypeId}{kd xY:IntKind}{v:zV}{l:List Int}{C A B:Hp}(hs:aN T kd v l C){i:Nat}{x:Int}(hi:i<l.length){K:Hp->Prop}
 (hk:∀C',aN T kd v (l.set i x) C'->K (A++(C'++B))):au 1 v (.int xY (i:Int)) λp=>St 1 (A++(C++B)) p (.int kd x) K:=by
 have hi':i<(l.map λn=>[Value.int kd n]).length:=by simpa using hi
 obtain⟨b',aP,rfl,rfl,aI⟩:=bg.pos hs zO;refine au.nat hi' ?_;refine St.cell (l:=l.map (λn=>[Value.int kd n])++aP) (i:=i) (k:=1) (j:=0) (r:=[.int kd l[i]]) (((c8.head _).append B).cc A) aI (by rw[xaY hi'];simp[hi]) zO rfl ?_;have e:(l.map (λn=>[Value.int kd n])++aP).set i ([Value.int kd l[i]].set 0 (.int kd x))=(l.set i x).map (λn=>[Value.int kd n])++aP:=by
  rw[xcY _ _ hi',xcN];rfl
 rw[e];refine hk [(b',_)] (bg.mk' (aP:=aP) (λr hr'=>?_) zI zI);rcases xao.1 hr' with hr'|hr'
 ·obtain⟨y,_,rfl⟩:=xan.1 hr';rfl
 exact aI r (xab _ hr')
theorem aL.nil{H:Hp}:aL H []:=λ_ _ h=>h.bt
theorem bg.cut{T:TypeId}{k i:Nat}{v:zV}{rs:List (List zV)}{C:Hp}(hs:bg T k v rs C)(hi:i<=rs.length){kd:IntKind}{K:zV->Prop}(hk:∀v',bg T k v' (rs.take i) C->K v'):
  gy k v none (some (.int kd (i:Int))) K:=by
 by_cases hp:0<rs.length
 ·obtain⟨b',aP,rfl,rfl,aI⟩:=hs.pos hp;refine gy.upto zO (hk _ ?_);have e:rs++aP=rs.take i++(rs.drop i++aP):=by rw[<-xaj,xbk]
  rw[e]at aI⊢;exact bg.mk' aI zP zP
 obtain rfl:rs=[]:=xbW zO;obtain rfl:i=0:=by simpa using hi
 obtain⟨a,c,rfl⟩:=hs.len;exact gy.upto (xaN _) (hk _ (by simpa using hs))
theorem aN.cut{T:TypeId}{kd xY:IntKind}{i:Nat}{v:zV}{l:List Int}{C:Hp}(hs:aN T kd v l C)(hi:i<=l.length){K:zV->Prop}(hk:∀v',aN T kd v' (l.take i) C->K v'):
  gy 1 v none (some (.int xY (i:Int))) K:=
 bg.cut hs (by simpa using hi) λv' h=>hk v' (by unfold aN;rw[List.map_take];exact h)
end
end Go.Sx
namespace Go.Sx
open Go
section
variable {P:Program} {H C:Hp} {c:Hp->Hp}
theorem bI.split(h:bI C H c):∃A B,∀X,c X=A++(X++B):=by
 induction h with
 |here=>exact⟨[],[],λX=>by simp⟩
 | @left A=>exact⟨[],A,λX=>rfl⟩
 | @cons x H c h ih=>
  obtain⟨A,B,e⟩:=ih;exact⟨x::A,B,λX=>by show x::c X=_;rw[e];rfl⟩
 | @app A' H c h ih=>
  obtain⟨A,B,e⟩:=ih;exact⟨A'++A,B,λX=>by show A'++c X=_;rw[e,xaj]⟩
theorem bI.sub(h:bI C H c):∀x∈C,x∈H:=λx hx=>by
 obtain⟨A,B,e⟩:=h.split;rw[h.spec.1,e];exact xab _ (xae _ hx)
theorem bg.rX{elem k bytes:Nat}{zero:zV}{v:zV}{rs:List (List zV)}(h:bg elem k v rs C)(hh:bI C H c){xb:Nat}{r:List zV}{xT:TypeId}{fz:Nat×Nat}{xc:Nat}
 (hx:(xb,Obj.cells r.toArray xT fz)∈H)(hr:r.length=k)(h1:∀u∈r,u.oneCell'=true)(hz:∃z:List zV,zero.cells=z.toArray/\z.length=k)
 (hb:(rs.length+1)*bytes<=140737488355328)(cJ:rs.length+1<=9223372036854775807){K:zV->Hp->Prop}
 (hk:∀v' C',bg elem k v' (rs++[r]) C'->K v' (c C')):App P elem k bytes zero H v (.slice (some ⟨xb,0,none⟩) 1 xc) K:=by
 obtain⟨A,B,e⟩:=hh.split;have e2:=hh.spec.1;rw[e]at e2;subst e2;exact h.GL hx hr h1 hz hb cJ λv' C' ho=>by have:=hk v' C' ho;rwa [e]at this
theorem aN.rX{T:TypeId}{kd:IntKind}{v:zV}{l:List Int}{bytes:Nat}(h:aN T kd v l C)(hh:bI C H c){xb xc:Nat}{x:Int}{xT:TypeId}{fz:Nat×Nat}(hx:(xb,Obj.cells (av kd [x]) xT fz)∈H)
 (hb:(l.length+1)*bytes<=140737488355328)(hm:l.length+1<=9223372036854775807){K:zV->Hp->Prop}(hk:∀v' C',aN T kd v' (l++[x]) C'->K v' (c C')):App P T 1 bytes (.int kd 0) H v (.slice (some ⟨xb,0,none⟩) 1 xc) K:=by
 obtain⟨A,B,e⟩:=hh.split;have e2:=hh.spec.1;rw[e]at e2;subst e2;exact h.app hx hb hm λv' C' ho=>by have:=hk v' C' ho;rwa [e]at this
theorem aN.XU{T:TypeId}{kd:IntKind}{v x:zV}{l l2:List Int}{bytes:Nat}(h:aN T kd v l C)(hh:bI C H c)(hx:dz kd H x l2)
 (hb:(l.length+l2.length)*bytes<=140737488355328)(hm:l.length+l2.length<=9223372036854775807){K:zV->Hp->Prop}(hk:∀v' C',aN T kd v' (l++l2) C'->K v' (c C')):App P T 1 bytes (.int kd 0) H v x K:=by
 obtain⟨A,B,e⟩:=hh.split;have e2:=hh.spec.1;rw[e]at e2;subst e2;exact h.apps hx hb hm λv' C' ho=>by have:=hk v' C' ho;rwa [e]at this
theorem aN.nt{T:TypeId}{kd xY:IntKind}{v:zV}{l:List Int}(hs:aN T kd v l C)(hh:bI C H c){i:Nat}{x:Int}(hi:i<l.length){K:Hp->Prop}
 (hk:∀C',aN T kd v (l.set i x) C'->K (c C')):au 1 v (.int xY (i:Int)) λp=>St 1 H p (.int kd x) K:=by
 obtain⟨A,B,e⟩:=hh.split;have e2:=hh.spec.1;rw[e]at e2;subst e2;exact hs.put hi λC' ho=>by have:=hk C' ho;rwa [e]at this
theorem aN.one{T:TypeId}{kd:IntKind}{v:zV}{l:List Int}(h:aN T kd v l C):v.oneCell'=true:=by obtain⟨a,c,e⟩:=bg.len h;rw[e];rfl
theorem fm(l:zL)(i x:Nat):(iw l).set i (x:Int)=iw (l.set i x):=by unfold iw;rw[xcN]
theorem bY(a b:zL):iw (a++b)=iw a++iw b:=by unfold iw;rw[xaJ]
theorem bH{l:zL}{i:Nat}(h:i<l.length):(iw l)[i]? =some ((l.getD i 0:Nat):Int):=by
 rw[cQ (xaa h)];simp[List.getD,xaa h]
end
end Go.Sx
namespace Go.Sx
open Go
theorem lF{p:Nat->Prop}(h:∃k,p k):∃k,p k/\∀j,p j->k<=j:=by
 obtain⟨k,hk⟩:=h;induction k using Nat.strongRecOn with
 |_ k ih=>
  by_cases e:∃j,j<k/\p j
  ·obtain⟨j,hj,hp⟩:=e;exact ih j hj hp
  exact⟨k,hk,λj hp=>xc3 λhlt=>e ⟨j,hlt,hp⟩⟩
open Classical in
noncomputable def nR(J:Nat->List zV->Hp->Prop)(vs:List zV)(H:Hp):Nat:=if h:∃k,J k vs H then Classical.choose (lF h)else 0
theorem Nk{J:Nat->List zV->Hp->Prop}{vs:List zV}{H:Hp}{k:Nat}(h:J k vs H):nR J vs H<=k:=by
 unfold nR;rw[xeb ⟨k,h⟩];exact(xcz (lF ⟨k,h⟩)).2 k h
theorem Dj{J:Nat->List zV->Hp->Prop}{vs:List zV}{H:Hp}(h:∃k,J k vs H):J (nR J vs H) vs H:=by
 unfold nR;rw[xeb h];exact(xcz (lF h)).1
def oh(J:Nat->List zV->Hp->Prop):List zV->Hp->Prop:=λvs H=>∃k,J k vs H
theorem oh.open{J:Nat->List zV->Hp->Prop}{vs:List zV}{H:Hp}(h:oh J vs H):∃k,J k vs H/\k=nR J vs H:=⟨_,Dj h,rfl⟩
theorem oh.mk{J:Nat->List zV->Hp->Prop}{vs:List zV}{H:Hp}(k:Nat)(h:J k vs H):JE (oh J) vs H:=JE.mk ⟨k,h⟩
theorem oh.back{J:Nat->List zV->Hp->Prop}{vs vs':List zV}{H H' H0:Hp}{k:Nat}(e:aL H H')(hk:k=nR J vs H0)(k':Nat)(h:J k' vs' H')(hlt:k'<k):aC (oh J) (nR J) vs' H vs H0:=
 aC.of e ⟨k',h⟩ (xaA (Nk h) zO)
theorem abq{vs:List zV}{H:Hp}{Q:(List zV->Hp->Prop)->(List zV->Hp->Nat)->Prop}(J:Nat->List zV->Hp->Prop)(k:Nat)(h:J k vs H)(hq:Q (oh J) (nR J)):
  ∃(I:List zV->Hp->Prop) (m:List zV->Hp->Nat),JE I vs H/\Q I m:=⟨_,_,oh.mk k h,hq⟩
section
variable {P:Program} {H:Hp}
theorem az.Ri{t e:Nat}{kd:IntKind}{x y:Int}{K:zV->Hp->Prop}(h1:P.underlying t=some (.slice e))(h2:dO P e=some 1)(h3:fS P e=some (.int kd 0))
 (h:∀b,K (.slice (some ⟨b,0,Option.none⟩) 2 2) ((b,.cells (av kd [x,y]) e zZ)::H)):az P t 2 [(0,.int kd x),(1,.int kd y)] H K:=by
 refine⟨av kd [x,y],e,1,_,h1,h2,h3,by decide,?_,λb _=>h b⟩;have e1:Array.range (2*1)=#[0,1]:=rfl;simp[Instr.fill,Value.cells,av,e1]
theorem MP(kd:IntKind)(l:List Int):rows (l.map λn=>[Value.int kd n])=av kd l:=by
 unfold rows av;congr 1;induction l with
 |nil=>rfl
 |cons x l ih=>rw[xaB,xcW,ih];rfl
theorem aN.made{T:TypeId}{kd:IntKind}{b:Nat}(l:List Int):aN T kd (.slice (some ⟨b,0,none⟩) l.length l.length) l [(b,.cells (av kd l) T zZ)]:=by
 have:=bg.mk' (T:=T) (k:=1) (b:=b) (n:=l.length) (c:=l.length) (rs:=l.map λn=>[Value.int kd n]) (aP:=[]) (λr hr=>by
  rw[xaL]at hr;obtain⟨x,_,rfl⟩:=xan.1 hr;rfl) zI zI
 rw[xaL,MP]at this;exact this
end
end Go.Sx
namespace Go.Sx
open Go
section
variable {P:Program} {g:Gh}
structure Pz where
 f:FuncId
 l:List zV
def kL(P:Program)(g:Gh)(f:FuncId)(args:Array zV)(H:Hp)(R:Ending->Hp->Prop):Prop:=
 ∀w,Own g H w->∀u,CallsD P f args u w λe u' w'=>u'=u/\∃H',Own g H' w'/\R e H'
def jZ(P:Program)(g:Gh)(f:FuncId)(args:Array zV)(H:Hp)(K:Hp->Prop):Prop:=kL P g f args H λe H'=>(∃v,e=.returned v)/\K H'
def PJ(P:Program)(g:Gh)(K:Hp->Prop):List Pz->Hp->Prop
 | [],H=>K H
 |x::r,H=>jZ P g x.f x.l.toArray H (PJ P g K r)
def aaf(P:Program)(o:Oper)(ρ:Operand->zV)(k:Pz->Prop):Prop:=
 match o.op with
 | .defer c=>match c.callee with
  | .value x=>match ρ x with
   | .func (.func f) first cap=>cond (aU P f) (k ⟨f,first.toList++(c.args.toList.map ρ++cap.toList)⟩) False
   |_=>False
  |_=>False
 |_=>False
def Rh:Code->Option (Array Oper×Oper)
 | .region _ ops false=>match ops.toList.getLast? with
  |some o=>match o.op with
   | .defer _=>some (ops,o)
   |_=>none
  |none=>none
 |_=>none
def SG(P:Program)(g:Gh)(fn:Func)(R:Ending->Hp->Prop)(dl:List Pz):Exit->Fr->Hp->Prop
 | .normal,fr,H=>PJ P g (λH'=>vi P fr H' fn.results.toList λvs=>R (.returned (E0 vs)) H') dl H
 | .ret,fr,H=>PJ P g (λH'=>vi P fr H' fn.results.toList λvs=>R (.returned (E0 vs)) H') dl H
 |_,_,_=>False
def Gt(P:Program)(g:Gh)(n:Nat)(E:List Pz->Exit->Fr->Hp->Prop):Code->Hn->List Pz->Fr->Hp->Prop
 | .seq x y,hn,dl,fr,H=>
  match Rh x with
  |some (ops,o)=>cond (o.dst.isNone&&o.guard.isNone)
    (eY P g n ops false (ops.toList.length+1) false none [] ops.toList.dropLast fr H (λ_ fr' H'=>aaf P o (ev fr') λd=>Gt P g n E y hn.b (d::dl) fr' H') (λ_ _=>False)) False
  |none=>match hn.m with
   |0=>den P g n x hn.a (B4 (Gt P g n E y hn.b dl) (E dl)) fr H
   |_=>cond (U4 x hn.I)
    (adM hn.L.length (λvs H'=>∀gs,Gt P g n E y hn.b dl (mix hn.L vs hn.I fr gs) H') λJ=>den P g n x hn.a (B4 (λfr' H'=>JE J (EK fr' hn.L) H') (E dl)) fr H) False
 |c,hn,dl,fr,H=>den P g n c hn (E dl) fr H
def SL(P:Program)(g:Gh)(fn:Func)(hn:Hn)(args:List zV)(H:Hp)(R:Ending->Hp->Prop):Prop:=
 match fn.body with
 |some c=>cond (Nat.ble args.length fn.ntmps) (Gt P g fn.ntmps (SG P g fn R) c hn [] (gQ args 0) H) False
 |none=>False
def Ou:List PanicEntry->Hp->Prop:=λ_ _=>∀_:Fr,False
def DOK(P:Program)(x:Pz)(d:Deferred):Prop:=∃cap args,d={target:=.fn (.func x.f) cap,args:=args}/\args++cap=x.l.toArray/\aU P x.f=true
inductive Kv(P:Program):List Pz->List Deferred->Prop
 |nil:Kv P [] []
 |cons {x d l ds} (h:DOK P x d) (hr:Kv P l ds):Kv P (x::l) (d::ds)
theorem uS{fn:Func}{tmps:Array zV}{K:Hp->Prop}{R:Ending->World->Prop}(hK:∀H w,Own g H w->K H->∃v,(results fn tmps).run P w=.ok v w/\R (.returned v) w):
  ∀{dl:List Pz} {ds:List Deferred},Kv P dl ds->∀H w,Own g H w->PJ P g K dl H->Leaves P fn tmps R ds .returning w
 |_,_,.nil,H,w,hw,h=>hK H w hw h
 |_,_,.cons ⟨cap,args,hd,ha,hc⟩ hr,H,w,hw,h=>by
  subst hd;refine leaves_cons zI ?_ ((h w hw .returning).mono ?_)
  ·show(callFunc _ (args++cap)).run P w=_;rw[ha];exact eE hc _ w
  rintro e u' w' ⟨rfl,H',ho,⟨v,rfl⟩,hk⟩;exact uS hK hr H' w' ho hk
theorem qw{fn:Func}{R:Ending->Hp->Prop}{n:Nat}{dl:List Pz}{ds:List Deferred}(hd:Kv P dl ds){e:Exit}{fr:Fr}{H:Hp}{a:Act}{w:World}(ha:cB ds n a fr)(hw:Own g H w)(h:SG P g fn R dl e fr H):
  bodyPostD P fn (λe w'=>∃H',Own g H' w'/\R e H') e a w:=by
 have key:∀{H},Own g H w->PJ P g (λH'=>vi P fr H' fn.results.toList λvs=>R (.returned (E0 vs)) H') dl H->Leaves P fn a.tmps (λe w'=>∃H',Own g H' w'/\R e H') a.defers .returning w:=λhw h=>by
  rw[ha.defers];refine uS (λH w hw h=>?_) hd _ _ hw h;obtain⟨vs,hr,hk⟩:=iO ha hw h;exact⟨_,hr,H,hw,hk⟩
 cases e with
 |normal=>exact key hw h
 |ret=>exact key hw h
 |panic ch=>exact h.elim
 |exit id=>exact h.elim
 |goto l=>exact h.elim
 |outgrown=>exact h.elim
theorem FU{c:Code}{ops:Array Oper}{o:Oper}(h:Rh c=some (ops,o)):∃id d,c=.region id ops false/\ops.toList=ops.toList.dropLast++[o]/\o.op=.defer d:=by
 unfold Rh at h;split at h
 ·rename_i id ops';split at h
  ·rename_i o' ho;split at h
   ·rename_i d hd;simp only[xas,xdT]at h;obtain⟨rfl,rfl⟩:=h;refine⟨id,d,rfl,?_,hd⟩;obtain⟨hne,e⟩:=List.getLast?_eq_some_iff.1 ho;rw[e];simp
   cases h
  cases h
 cases h
theorem TM{o:Oper}{fr:Fr}{k:Pz->Prop}(h:aaf P o (ev fr) k):∃x d,k x/\DOK P x d/\∀w,(execOp (ev fr) o).run P w=.ok (.defer d) w:=by
 unfold aaf at h;split at h<;>try exact h.elim
 rename_i c hop;split at h<;>try exact h.elim
 rename_i x hc;split at h<;>try exact h.elim
 rename_i f first cap hx
 cases fP:aU P f<;>simp only[fP,xaq,xah]at h;refine⟨_,{target:=.fn (.func f) cap,args:=first++c.args.map (ev fr)},h,⟨cap,_,rfl,?_,fP⟩,λw=>?_⟩
 ·apply xde;simp
 simp only[execOp,hop,resolve,hc,hx,Deferred.ofValue,Sem.run_bind,Sem.run_pure,Result.andThen_ok]
theorem Gs{n:Nat}{fn:Func}{R:Ending->Hp->Prop}:∀(c:Code) (hn:Hn) (dl:List Pz) (fr:Fr) (H:Hp),Gt P g n (SG P g fn R) c hn dl fr H->∀(ds:List Deferred),Kv P dl ds->∀(a:Act) (w:World),cB ds n a fr->Own g H w->
  c.wp P (bodyPostD P fn λe w'=>∃H',Own g H' w'/\R e H') a w:=by
 have plain:∀(c:Code) (hn:Hn) (dl:List Pz) (fr:Fr) (H:Hp),den P g n c hn (SG P g fn R dl) fr H->∀(ds:List Deferred),Kv P dl ds->∀(a:Act) (w:World),cB ds n a fr->Own g H w->
   c.wp P (bodyPostD P fn λe w'=>∃H',Own g H' w'/\R e H') a w:=λc hn dl fr H h ds hd a w ha hw=>
  wp_mono (l9 c hn _ fr H h a w ha hw) λe a' w' ⟨fr',H',ej,eU,_,hq⟩=>qw hd ej eU hq
 intro c;induction c with
 |seq x y _ ih=>
  intro hn dl fr H h ds hd a w ha hw;unfold Gt at h;split at h
  ·rename_i ops o hx;obtain⟨id,d,rfl,hl,hop⟩:=FU hx;cases hc:(o.dst.isNone&&o.guard.isNone)<;>simp only[hc,xaq,xah]at h;simp only[xaD,Option.isNone_iff_eq_none]at hc;refine wp_seq (wp_region_list ?_);rw[hl];refine cK _ _ _ _ _ fr H _ _ h trivial (je.nil fr) a w ha hw [o] _ ?_ ?_
   ·intro a' w' qJ fr' H' ej eU _ _ hk;refine wpList_plain hc.2 λK hK=>?_;obtain⟨x,dd,hx,hok,hrun⟩:=TM hk;show o.upon P a' K _ ((execOp a'.eval o).run P w');rw[ej.eval,hrun];refine hK _ _ ?_;refine ih _ _ fr' H' hx (dd::ds) (.cons hok hd) _ _ ?_ eU;rw[hc.1];exact⟨xcj _ ej.defers,ej.size,ej.get⟩
   intro ch a' w' fr' H' _ _ hk;exact hk.elim
  split at h
  ·refine wp_seq (wp_mono (l9 x _ _ fr H h a w ha hw) ?_);rintro e a' w' ⟨fr',H',ej,eU,ho,hq⟩;cases e with
   |normal=>exact ih _ _ fr' H' hq ds hd a' w' ej eU
   |ret=>exact qw (e:=.ret) hd ej eU hq
   |exit id=>exact hq.elim
   |goto l=>exact hq.elim
   |panic ch=>exact hq.elim
   |outgrown=>exact hq.elim
  ·cases hno:U4 x hn.I<;>simp only[hno,xaq,xah]at h;have h':=h (λvs H'=>∀gs,Gt P g n (SG P g fn R) y hn.b dl (mix hn.L vs hn.I fr gs) H') (xI.intro (λvs H' hh=>hh) _);refine wp_seq (wp_mono (l9 x _ _ fr H h' a w ha hw) ?_);rintro e a' w' ⟨fr',H',ej,eU,ho,hq⟩;cases e with
   |normal=>
    obtain⟨Hj,wh,hq⟩:=hq;have hq':=hq fr';rw[vL λs hs=>ho rfl s (vJ hno s hs)]at hq';exact ih _ _ fr' Hj hq' ds hd a' w' ej (wh _ _ eU)
   |ret=>exact qw (e:=.ret) hd ej eU hq
   |exit id=>exact hq.elim
   |goto l=>exact hq.elim
   |panic ch=>exact hq.elim
   |outgrown=>exact hq.elim
 |_=>intro hn dl fr H h;exact plain _ hn dl fr H h
theorem Rn{args:List zV}{m:Nat}(hle:args.length<=m):cB [] m {tmps:=args.toArray++Array.replicate (m-args.toArray.size) undef,defers:=[]} (gQ args 0):=by
 refine⟨rfl,by simp;omega,λs=>?_⟩;rw[mQ,xat,xdV];simp only[xcV,xcQ,xa0,xc2];by_cases hs:s<args.length
 ·simp[hs,List.getD]
 rw[xac hs,xc0];have:args.getD s undef=undef:=by simp[List.getD,xaE (xc3 hs)]
 rw[this];split<;>rfl
theorem DY{f:FuncId}{fn:Func}{hn:Hn}{args:List zV}{H:Hp}{R:Ending->Hp->Prop}(hf:P.funcs[f]? =some fn)(h:SL P g fn hn args H R):bD P g f args.toArray H R:=by
 intro w hw;unfold SL at h;split at h<;>try exact h.elim
 rename_i c hc;cases hl:Nat.ble args.length fn.ntmps<;>simp only[hl,xaq,xah]at h;exact calls_of_wp_defers hf hc (Gs c hn [] _ H h [] .nil _ w (Rn (xcP hl)) hw)
theorem DX{f:FuncId}{fn:Func}{hn:Hn}{args:List zV}{H:Hp}{R:Ending->Hp->Prop}(hf:P.funcs[f]? =some fn)(h:Gv P g fn hn args H R):kL P g f args.toArray H R:=by
 intro w hw u;unfold Gv at h;split at h<;>try exact h.elim
 rename_i c hc;cases hl:Nat.ble args.length fn.ntmps<;>simp only[hl,xaq,xah]at h;refine callsD_of_wp hf hc (wp_mono (l9 c hn _ _ H h _ w (Rn (xcP hl)) hw) ?_);rintro e a' w' ⟨fr',H',ej,eU,_,hq⟩;cases e with
 |normal=>obtain⟨vs,hr,hk⟩:=iO ej eU hq;exact⟨ej.defers,_,hr,H',eU,hk⟩
 |ret=>obtain⟨vs,hr,hk⟩:=iO ej eU hq;exact⟨ej.defers,_,hr,H',eU,hk⟩
 |panic ch=>exact⟨ej.defers,H',eU,hq⟩
 |exit id=>exact hq.elim
 |goto l=>exact hq.elim
 |outgrown=>exact hq.elim
abbrev Jt:=List zV->Hp->Prop
abbrev Mt:=List zV->Hp->Nat
abbrev Rt:=Ending->Hp->Prop
abbrev Hn.n(a b:Hn):Hn:=.h 0 [] [] a b
theorem cq{f:FuncId}{fn:Func}{hn:Hn}{args:List zV}{H:Hp}{R:Rt}{L:Prop}(hf:P.funcs[f]? =some fn)(h:L)(e:Gv P g fn hn args H R=L):bD P g f args.toArray H R:=Gu hf (e.mpr h)
theorem AD{f:FuncId}{fn:Func}{hn:Hn}{args:List zV}{H:Hp}{R:Rt}{L:Prop}(hf:P.funcs[f]? =some fn)(h:L)(e:SL P g fn hn args H R=L):bD P g f args.toArray H R:=DY hf (e.mpr h)
theorem AE{f:FuncId}{fn:Func}{hn:Hn}{args:List zV}{H:Hp}{R:Rt}{L:Prop}(hf:P.funcs[f]? =some fn)(h:L)(e:Gv P g fn hn args H R=L):kL P g f args.toArray H R:=DX hf (e.mpr h)
end
end Go.Sx
set_option maxRecDepth 100000
namespace Go.Proofs
open Go Go.Sx Tryz
variable {g:Gh} {a0 a1 a2 a3 a4 a5 a6 a7 a8 a9 tR tQ a12 a13 a14 a15:zV} {H:Hp} {R:Rt}
abbrev pt(b:Nat):zV:=.pointer (some ⟨b,0,none⟩)
noncomputable abbrev zQ:=Tryz.prog
abbrev CF:=aa Tryz.prog
abbrev iv(n:Int):zV:=.int .i64 n
abbrev ui(n:Int):zV:=.int .u32 n
abbrev wi(n:Int):zV:=.int .u64 n
abbrev bi(n:Int):zV:=.int .u8 n
abbrev vT:zV:=.bool true
abbrev vF:zV:=.bool false
abbrev lE:=ae .num .eql
abbrev lN:=ae .num .neq
abbrev lL:=ae .num .lss
abbrev lG:=ae .num .gtr
abbrev lA:=ae .num .add
abbrev lS:=ae .num .sub
abbrev lD(n:Nat)(p:zV)(H:Hp)(k:zV->Prop):Prop:=ai n p λv=>Ld H v k
abbrev lM(n:Nat)(p:zV)(H:Hp)(k:zV->Prop):Prop:=Nil p λq=>ai n q λv=>Ld H v k
abbrev lI(e:Nat)(p i:zV)(H:Hp)(k:zV->Prop):Prop:=au e p i λv=>Ld H v k
abbrev lX(v:zV)(k:zV->zV->Prop):Prop:=Ext 0 v λx=>Ext 1 v λy=>k x y
abbrev rt(R:Rt)(v:zV)(H:Hp):Prop:=R (.returned v) H
abbrev tP(a b:zV):zV:=.tuple #[a,b]
abbrev lW(H:Hp)(c:Array zV)(t:Nat)(k:Nat->Hp->Prop):Prop:=Ov H (.cells c t zZ) k
abbrev lO(a:zV)(i:Bool->Prop)(k:Bool->Prop):Prop:=cm a false i (λt=>vT=Value.bool t) λt=>∀_:Fr,k t
abbrev lU(a:zV)(i:Bool->Prop)(k:Bool->Prop):Prop:=cm a true i (λt=>vF=Value.bool t) λt=>∀_:Fr,k t
abbrev lV(H:Hp)(v:zV)(t:Bool):Prop:=H=H/\v=Value.bool t
abbrev lC(n:Nat)(p:zV)(k:zV->Prop):Prop:=Nil p λq=>ai n q k
abbrev lQ(n:Nat)(H:Hp)(c:Array zV)(t:Nat)(v:zV)(k:Nat->Hp->Prop):Prop:=Ov H (.cells c t zZ) λb H=>St n H (pt b) v λH=>k b H
abbrev sc:=bD Tryz.prog
theorem sd{g:Gh}{f:FuncId}{fn:Func}(hn:Hn){args:List zV}{H:Hp}{R:Rt}{L:Prop}(hf:Tryz.prog.funcs[f]? =some fn)(h:L)(e:Gv Tryz.prog g fn hn args H R=L:=by kernel_rfl):sc g f args.toArray H R:=cq hf h e
abbrev Y0:=Gh->Hp->Rt->Prop
abbrev Y1:=Gh->zV->Hp->Rt->Prop
abbrev Y2:=Gh->zV->zV->Hp->Rt->Prop
abbrev Y3:=Gh->zV->zV->zV->Hp->Rt->Prop
abbrev Y4:=Gh->zV->zV->zV->zV->Hp->Rt->Prop
abbrev Y5:=Gh->zV->zV->zV->zV->zV->Hp->Rt->Prop
abbrev CR(R:Rt)(g:Gh)(f:Nat)(a:Array zV)(H:Hp)(K:zV->Hp->Prop):Prop:=aa Tryz.prog g f a H K (dy R)
abbrev CN(g:Gh)(f:Nat)(a:Array zV)(H:Hp)(K:zV->Hp->Prop):Prop:=aa Tryz.prog g f a H K fK
abbrev lK(H:Hp)(v:zV)(t:Nat)(k:Nat->Hp->Prop):Prop:=Ov H (.cells (Value.cells v) t zZ) k
abbrev i0:zV:=iv 0
abbrev i1:zV:=iv 1
abbrev oG:=ae .num .geq
abbrev oA:=ae .num .and
abbrev oR:=ae .num .shr
abbrev oL:=ae .num .shl
abbrev oO:=ae .num .or
abbrev oQ:=ae .num .leq
abbrev oM:=ae .num .mul
abbrev oP(a:zV)(k:zV->Prop):Prop:=ae .ptr .eql a (.pointer none) k
abbrev jA(A:Hp->Prop)(B:Jt->Prop):Prop:=∀J:Jt,(∀H,(∀_:Fr,A H)->J [] H)->B J
abbrev jB(A:zV->Hp->Prop)(B:Jt->Prop):Prop:=∀J:Jt,(∀w H,(∀_:Fr,A w H)->J [w] H)->B J
abbrev jC(A:zV->zV->Hp->Prop)(B:Jt->Prop):Prop:=∀J:Jt,(∀w x H,(∀_:Fr,A w x H)->J [w,x] H)->B J
abbrev yA(l:List zV)(H:Hp)(K:Jt->Mt->zV->Hp->Prop):Prop:=∃(I:Jt) (m:Mt),JE I l H/\∀w H,I [w] H->∀_:Fr,K I m w H
abbrev yB(l:List zV)(H:Hp)(K:Jt->Mt->zV->zV->Hp->Prop):Prop:=∃(I:Jt) (m:Mt),JE I l H/\∀w x H,I [w,x] H->∀_:Fr,K I m w x H
abbrev nC:Array zV:=#[i0,ui 0,ui 0]
abbrev sZ:zV:=.slice none 0 0
abbrev qA(L:Y0)(f:Nat):Prop:=∀{g H R},L g H R->sc g f #[] H R
abbrev qB(L:Y1)(f:Nat):Prop:=∀{g a H R},L g a H R->sc g f #[a] H R
abbrev qC(L:Y2)(f:Nat):Prop:=∀{g a b H R},L g a b H R->sc g f #[a,b] H R
abbrev qD(L:Y3)(f:Nat):Prop:=∀{g a b c H R},L g a b c H R->sc g f #[a,b,c] H R
abbrev qE(L:Y4)(f:Nat):Prop:=∀{g a b c d H R},L g a b c d H R->sc g f #[a,b,c,d] H R
abbrev qF(L:Y5)(f:Nat):Prop:=∀{g a b c d e H R},L g a b c d e H R->sc g f #[a,b,c,d,e] H R
def hr(m:Nat)(T:zL):Nat->Nat->Hn->Hn
 |_,0,x=>x
 |i,k+1,x=>.h m [i] T (hr m T (i+1) k x) .e
def hN:Nat->Hn->Hn
 |0,x=>x
 |k+1,x=>.n .e (hN k x)
def zA(x:Hn):Hn:=.n .e x
def zB(x:Hn):Hn:=.n x .e
def zE(m:Nat)(A T:zL)(x:Hn):Hn:=.h m A T x .e
def zF(m:Nat)(A T:zL):Hn:=.h m A T .e .e
def yR:Nat->zL:=List.range
def L12(g:Gh)(a0 a1 a2 a3 a4 a5:zV)(H:Hp)(R:Rt):Prop:=
aV .i64 a0 λa=>
ae .num .rem a (iv 6) λa=>
lA i1 a λa=>
aV .i64 a1 λb=>
ae .num .rem b (iv 100) λb=>
lA (iv 2) b λb=>
ae .num .rem a2 (bi 7) λc=>
aV .i64 a3 λd=>
lA (iv 100) d λd=>
aV .i64 a4 λe=>
ae .num .rem e (iv 5) λe=>
Build Tryz.prog 23 [(0,a),(1,b),(2,c),(3,d),(4,e)] λb=>
lQ 5 H #[i0,i0,(bi 0),i0,i0] 23 b λb c=>
ax 5 c (pt b) λd=>
CR R g 14 #[d] c λc d=>
lX c λc e=>
CR R g 34 #[a] d λd f=>
CR R g 14 #[d] f λd f=>
lX d λd h=>
lN e i0 λe=>
lO e (λe=>
lN h i0 λh=>
(lV f h e)) λe=>
Br (Value.bool e) (
rt R vF f) (
Build Tryz.prog 35 [(0,(bi 1))] λe=>
CR R g 16 #[d,e] f λe f=>
Build Tryz.prog 35 [(0,(bi 16))] λh=>
CR R g 16 #[d,h] f λf h=>
lW h #[i0,i0,(wi 0),i0] 37 λh i=>
lW i #[i0,i0,(wi 0),i0] 37 λi j=>
St 4 j (pt h) e λe=>
St 4 e (pt i) f λe=>
jB (λf j=>
Br f (
rt R vF j) (
CR R g 34 #[a] j λf j=>
CR R g 14 #[f] j λf j=>
lX f λf _=>
yB [sZ,i0] j λj k l m n=>
aR a5 λo=>
lL m o λo=>
lU o (λo=>
lL m (iv 40) λp=>
(lV n p o)) λo=>
Br (Value.bool o) (
jB (λo p=>
lA m i1 λq=>
aC j k [o,q] p [l,m] n) λj=>
au 5 a5 m λk=>
ax 5 n k λk=>
lQ 5 n #[(bi 0),i0,i0,i0,(wi 0)] 35 k λk m=>
ax 5 m (pt k) λo=>
CR R g 35 #[o,l] m λm o=>
lX m λm p=>
lQ 5 o #[(bi 0),i0,i0,i0,(wi 0)] 35 m λm o=>
ax 5 o (pt k) λq=>
CR R g 16 #[c,q] o λo q=>
lQ 4 q #[i0,i0,(wi 0),i0] 37 o λo q=>
ax 5 q (pt b) λb=>
lD 0 (pt k) q λr=>
ax 4 q (pt o) λs=>
CR R g 36 #[b,r,s] q λb q=>
Un .not b λb=>
lO b (λb=>
lD 1 (pt o) q λr=>
oG r i0 λr=>
cm r true (λr=>
Un .not p λs=>
(lV q s r)) (λr=>vF=Value.bool r) λr=>∀_:Fr,
(lV q (Value.bool r) b)) λb=>
Br (Value.bool b) (
rt R vF q) (
lD 0 (pt o) q λb=>
lE b (iv 9) λb=>
Br b (
jB (λb r=>
Br b (
rt R vF r) (
JE j [l] r)) λb=>
lD 1 (pt o) q λr=>
lN r (iv (-1)) λr=>
Split r false (
lD 0 (pt k) q λr=>
lN r (bi 22) λr=>
Split r true (
lD 0 (pt k) q λr=>
CR R g 37 #[r] q λr s=>
Un .not r λr=>
aD vT r vF λr=>
aD vF vT r λr=>
JE b [r] s) (
aD vF undef vF λr=>
aD vF vT r λr=>
JE b [r] q)) (
aD vT vT undef λr=>
JE b [r] q)) (
jB (λb r=>
Br b (
JE j [l] r) (
ax 5 r (pt m) λb=>
CR R g 16 #[f,b] r λb m=>
lQ 4 m #[i0,i0,(wi 0),i0] 37 b λb m=>
jB (λr s=>
Br r (
rt R vF s) (
lD 1 (pt o) s λr=>
oG r i0 λr=>
Br r (
lD 1 (pt o) s λr=>
aR l λt=>
lN r t λr=>
Br r (
rt R vF s) (
lD 1 (pt b) s λr=>
az Tryz.prog 43 1 [(0,r)] s λr t=>
App Tryz.prog 3 1 8 i0 t l r λr t=>
JE j [r] t)) (
JE j [l] s))) λj=>
lD 0 (pt b) m λr=>
lD 0 (pt o) m λs=>
lN r s λr=>
Split r false (
lD 0 (pt k) m λr=>
CR R g 38 #[r] m λr s=>
Split r true (
lD 2 (pt b) s λr=>
lD 2 (pt o) s λt=>
lN r t λr=>
aD vT r vF λr=>
aD vF vT r λr=>
Split r false (
lD 1 (pt b) s λr=>
lL r i0 λr=>
lD 1 (pt o) s λt=>
lL t i0 λt=>
ae .bool .neq r t λr=>
aD vF vT r λr=>
JE j [r] s) (
aD vT vT undef λr=>
JE j [r] s)) (
aD vF undef vF λr=>
aD vF vT r λr=>
lD 1 (pt b) s λb=>
lL b i0 λb=>
lD 1 (pt o) s λo=>
lL o i0 λo=>
ae .bool .neq b o λb=>
aD r vT b λb=>
JE j [b] s)) (
aD vT vT undef λb=>
aD b vT undef λb=>
JE j [b] m))) λb=>
Un .not p λj=>
Split j false (
lD 0 (pt k) q λj=>
CR R g 37 #[j] q λj m=>
Un .not j λj=>
Split j true (
lD 0 (pt k) m λj=>
CR R g 38 #[j] m λj o=>
Un .not j λj=>
aD vT j vF λj=>
Split j true (
lD 0 (pt k) o λj=>
lN j (bi 13) λj=>
aD vT j vF λj=>
aD vF vT j λj=>
JE b [j] o) (
aD vF undef vF λj=>
aD vF vT j λj=>
JE b [j] o)) (
aD vF undef vF λj=>
aD j undef vF λj=>
aD vF vT j λj=>
JE b [j] m)) (
aD vT vT undef λj=>
JE b [j] q)))) (
CR R g 39 #[c,f,l] n λb c=>
rt R b c))) λb=>
DR e λc=>
lD 0 (pt h) c λf=>
lN f i0 λf=>
Br f (
JE b [vT] e) (
lD 1 (pt h) c λf=>
lN f i0 λf=>
aD vF vT f λf=>
Br f (
JE b [vT] e) (
lD 3 (pt h) c λf=>
lN f i1 λf=>
aD vF vT f λf=>
Br f (
JE b [vT] e) (
lD 0 (pt i) c λf=>
lN f i0 λf=>
aD vF vT f λf=>
Br f (
JE b [vT] e) (
lD 2 (pt i) c λf=>
lS a i1 λa=>
oL (wi 1) a λa=>
lN f a λa=>
aD vF vT a λa=>
Br a (
JE b [vT] e) (
Build Tryz.prog 35 [(0,(bi 13))] λa=>
∀f:Hp,
CN (g.add f) 16 #[d,a] e λa d=>
aL d c/\
An 0 a λa=>
lN a i0 λa=>
aD vF vT a λa=>
JE b [a] d))))))
theorem Pa(h:L12 g a0 a1 a2 a3 a4 a5 H R):sc g 12 #[a0,a1,a2,a3,a4,a5] H R:=sd (hN 5 (.n (zB (zF 0 [] [1])) (zA (.n (zE 1 [101] [5,13,14,15] (zE 1 [] [] (hr 0 [1] 0 3 (.h 2 [3] [] (hr 0 [1] 4 3 (hr 3 [1] 7 2 (hr 0 [1] 9 3 (hr 3 [1] 12 2 (hr 0 [1] 14 3 (hr 3 [1] 17 2 (hr 0 [1] 19 6 (hr 3 [1] 25 2 (hr 0 [1] 27 5 (zF 3 [32] [1])))))))))) (hr 0 [1] 4 4 (.h 2 [8] [] (hr 0 [1] 9 3 (hr 3 [1] 12 2 (hr 0 [1] 14 3 (hr 3 [1] 17 2 (hr 0 [1] 19 6 (hr 3 [1] 25 2 (hr 0 [1] 27 5 (zF 3 [32] [1])))))))) (hr 0 [1] 9 4 (.h 2 [13] [] (hr 0 [1] 14 3 (hr 3 [1] 17 2 (hr 0 [1] 19 6 (hr 3 [1] 25 2 (hr 0 [1] 27 5 (zF 3 [32] [1])))))) (hr 0 [1] 14 4 (.h 2 [18] [] (hr 0 [1] 19 6 (hr 3 [1] 25 2 (hr 0 [1] 27 5 (zF 3 [32] [1])))) (hr 0 [1] 19 7 (.h 2 [26] [] (hr 0 [1] 27 5 (zF 3 [32] [1])) (hr 0 [1] 27 6 .e))))))))))))) (zA (zA (zB (zA (zB (zE 0 [21,22] [5,14,15,17] (.n (zB (zF 0 [] [1])) (zE 1 [21] [5,14,15,17,22] (zB (hN 3 (.n (zB (zF 0 [] [1])) (.n (zA (zB (zB (zF 1 [162] [5,14,15,17,21,22])))) (.n (zF 1 [181] [5,14,15,17,21,22,23,24,26]) (zA (zB (zF 1 [210] [5,14,15,17,21,22,26,27])))))))))))))))))))) func12 h
def L14:Y1:=λa b c d=>lK c b 23 λb c=>jB (λe f=>Br e (rt d (tP (.pointer none) i1) f) (lD 0 (pt b) f λe=>lD 1 (pt b) f λg=>CR d a 40 #[e,g] f λa e=>lX a λa f=>lN f i0 λg=>Br g (rt d (tP (.pointer none) f) e) (lD 2 (pt b) e λf=>lE f (bi 6) λf=>lU f (λf=>lD 0 (pt b) e λg=>lG g (iv 12) λg=>(lV e g f)) λf=>Br (Value.bool f) (rt d (tP (.pointer none) (iv 6)) e) (ax 5 e (pt b) λf=>gH e λe g=>Build Tryz.prog 90 [(0,f),(1,a),(2,e)] λa=>lK g a 90 λa e=>rt d (tP (pt a) i0) e)))) λa=>lD 2 (pt b) c λd=>lG d (bi 6) λd=>Br d (JE a [d] c) (lD 3 (pt b) c λd=>lL d (iv 100) λd=>Br d (JE a [d] c) (lD 3 (pt b) c λd=>lG d (iv 1000) λd=>Br d (JE a [d] c) (lD 4 (pt b) c λd=>lL d i0 λd=>Br d (JE a [d] c) (lD 4 (pt b) c λb=>lG b (iv 16) λb=>JE a [b] c))))
theorem O9:qB L14 14:=λh=>sd (zA (.n (zB (zF 1 [6] [1])) (zA (zA (zB (zB (zF 0 [] [1]))))))) func14 h
def L16:Y2:=λa b c d e=>lK d c 35 λc d=>lW d #[i0,i0,(wi 0),i0] 37 λd f=>oP b λg=>Br g (CR e a 41 #[(iv 10)] f λg h=>St 4 h (pt d) g λg=>ax 4 g (pt d) λh=>rt e h g) (DR f λg=>lD 0 (pt c) g λh=>∀i:Hp,
CN (a.add i) 42 #[] f λf i=>aL i g/\
DR2 i g λg=>c6 (.int .u8) (.agg #[(bi 0),.nilFunc]) true g f h λf=>lX f λf h=>lW i #[(bi 0),.nilFunc] 95 λi j=>∀_:Hp,
St 2 j (pt i) f λf=>aL f g/\
Br h (ax 5 f (pt c) λg=>ax 2 f (pt i) λh=>CR e a 43 #[b,g,h] f λg h=>St 4 h (pt d) g λg=>ax 4 g (pt d) λh=>rt e h g) (DR f λg=>lD 0 (pt c) g λh=>∀i:Hp,
CN (a.add i) 44 #[] f λf i=>aL i g/\
DR2 i g λg=>c6 (.int .u8) .nilFunc true g f h λf=>lX f λf g=>Br g (ax 5 i (pt c) λc=>aK Tryz.prog a f #[b,c] i (λb c=>St 4 c (pt d) b λb=>ax 4 b (pt d) λc=>rt e c b) (dy e)) (CR e a 41 #[(iv 12)] i λa b=>St 4 b (pt d) a λa=>ax 4 a (pt d) λb=>rt e b a)))
theorem O8:qC L16 16:=λh=>sd (zA (zA (.n (zB (zE 1 [] [] (hr 0 [1] 1 2 (zE 1 [7] [1] (zE 0 [0] [1] (zE 4 [] [] (hr 0 [1] 3 7 .e))))))) (zB (zB (zE 1 [] [] (hr 0 [1] 1 2 (zE 0 [0] [1] (zE 4 [] [] (hr 0 [1] 3 6 .e)))))))))) func16 h
def L20:Y1:=λa b c d=>oP b λe=>Br e (rt d sZ c) (lM 6 b c λb=>CR d a 47 #[b] c λb c=>CR d a 46 #[b] c λa b=>rt d a b)
theorem O7:qB L20 20:=λh=>sd .e func20 h
variable {g:Gh} {a0 a1 a2 a3 a4 a5 a6 a7 a8 a9 tR tQ a12 a13 a14 a15:zV} {H:Hp} {R:Rt}
def L34:Y1:=λ_ a b c=>lW b #[i0,i0,(bi 0),i0,i0] 23 λb d=>Build zQ 23 [(0,a),(1,(iv 100000)),(2,(bi 0)),(3,(iv 100))] λa=>St 5 d (pt b) a λa=>ax 5 a (pt b) λb=>rt c b a
theorem O6:qB L34 34:=λh=>sd .e func34 h
def L35:Y2:=λ_ a b c d=>lK c a 35 λa c=>lW c #[(bi 0),i0,i0,i0,(wi 0)] 35 λc e=>lD 0 (pt a) e λf=>oG f (bi 3) λf=>lU f (λf=>lD 0 (pt a) e λg=>oQ g (bi 20) λg=>(lV e g f)) λf=>lU (Value.bool f) (λf=>lD 0 (pt a) e λg=>lN g (bi 18) λg=>(lV e g f)) λf=>lD 0 (pt a) e λg=>oG g (bi 4) λg=>lU g (λg=>lD 0 (pt a) e λh=>oQ h (bi 7) λh=>(lV e h g)) λg=>lO (Value.bool g) (λg=>lD 0 (pt a) e λh=>lE h (bi 15) λh=>(lV e h g)) λg=>lD 0 (pt a) e λh=>lE h (bi 7) λh=>lO h (λh=>lD 0 (pt a) e λi=>lE i (bi 11) λi=>(lV e i h)) λh=>lU (Value.bool f) (λi=>lD 1 (pt a) e λj=>lL j i0 λj=>cm j false (λj=>lD 1 (pt a) e λk=>aR b λl=>oG k l λk=>(lV e k j)) (λj=>vT=Value.bool j) λj=>∀_:Fr,
(lV e (Value.bool j) i)) λi=>lO (Value.bool i) (λi=>cm (Value.bool g) true (λj=>lD 2 (pt a) e λk=>lL k i0 λk=>cm k false (λk=>lD 2 (pt a) e λl=>aR b λm=>oG l m λl=>(lV e l k)) (λk=>vT=Value.bool k) λk=>∀_:Fr,
(lV e (Value.bool k) j)) (λj=>vF=Value.bool j) λj=>∀_:Fr,
(lV e (Value.bool j) i)) λi=>lO (Value.bool i) (λi=>cm (Value.bool h) true (λj=>lD 3 (pt a) e λk=>lL k i0 λk=>cm k false (λk=>lD 3 (pt a) e λl=>aR b λm=>oG l m λl=>(lV e l k)) (λk=>vT=Value.bool k) λk=>∀_:Fr,
(lV e (Value.bool k) j)) (λj=>vF=Value.bool j) λj=>∀_:Fr,
(lV e (Value.bool j) i)) λi=>Br (Value.bool i) (ax 5 e (pt a) λi=>St 5 e (pt c) i λi=>ax 5 i (pt c) λj=>rt d (tP j vF) i) (jA (λi=>jA (λj=>jA (λk=>ax 5 k (pt a) λl=>St 5 k (pt c) l λk=>ax 5 k (pt c) λc=>rt d (tP c vT) k) λc=>Br (Value.bool h) (lD 3 (pt a) j λd=>lI 1 b d j λd=>ai 3 (pt a) λh=>St 1 j h d λd=>JE c [] d) (JE c [] j)) λc=>Br (Value.bool g) (lD 2 (pt a) i λd=>lI 1 b d i λd=>ai 2 (pt a) λg=>St 1 i g d λd=>JE c [] d) (JE c [] i)) λc=>Br (Value.bool f) (lD 1 (pt a) e λd=>lI 1 b d e λb=>ai 1 (pt a) λa=>St 1 e a b λa=>JE c [] a) (JE c [] e))
theorem O5:qC L35 35:=λh=>sd (zA (.n (zF 0 [] [1]) (.n (zF 0 [] [1]) (.n (zF 0 [] [1]) (.n (zB (zF 0 [] [1])) (.h 1 [] [1,2,4,7,8] .e (.h 1 [] [1,2,4,8] .e (zF 1 [] [2,4])))))))) func35 h
def L36:Y3:=λ_ a b c d e=>lK d a 23 λa d=>lK d c 37 λc d=>lL b (bi 1) λf=>lO f (λf=>lG b (bi 11) λb=>(lV d b f)) λf=>Br (Value.bool f) (lD 3 (pt c) d λb=>lE b i0 λb=>rt e b d) (lD 0 (pt c) d λb=>jB (λf g=>Br f (lD 3 (pt c) g λf=>oG f i1 λf=>lU f (λf=>lD 3 (pt c) g λh=>lD 4 (pt a) g λi=>lA i i1 λi=>oQ h i λh=>(lV g h f)) λf=>rt e (Value.bool f) g) (lE b (iv 9) λf=>Br f (lD 3 (pt c) g λf=>lD 4 (pt a) g λa=>lA a i1 λa=>lE f a λa=>rt e a g) (lD 3 (pt c) g λa=>lE a i0 λa=>rt e a g))) λa=>lE b i0 λc=>Br c (JE a [c] d) (lE b (iv 8) λb=>JE a [b] d))
theorem O4:qD L36 36:=λh=>sd (zA (.n (zB (zF 0 [] [1])) (zB (zA (zB (.h 1 [18] [3,5,17] .e (zB (zB (zF 0 [] [1]))))))))) func36 h
def L37:Y1:=λ_ a b c=>oG a (bi 1) λd=>lU d (λd=>oQ a (bi 12) λa=>(lV b a d)) λd=>rt c (Value.bool d) b
theorem O3:qB L37 37:=λh=>sd (zA (zB (zF 0 [] [1]))) func37 h
def L38:Y1:=λ_ a b c=>lE a (bi 14) λd=>lO d (λd=>lE a (bi 15) λe=>(lV b e d)) λd=>lO (Value.bool d) (λd=>lE a (bi 16) λe=>(lV b e d)) λd=>lO (Value.bool d) (λd=>lE a (bi 19) λe=>(lV b e d)) λd=>lO (Value.bool d) (λd=>lE a (bi 20) λa=>(lV b a d)) λd=>rt c (Value.bool d) b
theorem O2:qB L38 38:=λh=>sd (zA (zB (zF 0 [] [1]))) func38 h
def L39:Y3:=λa b c d e f=>CR f a 20 #[b] e λe g=>yA [i0] g λg h i j=>aR e λk=>lL i k λk=>Br k (lI 1 e i j λk=>lL k i0 λk=>lO k (λk=>lI 1 e i j λl=>aR d λm=>oG l m λl=>(lV j l k)) λk=>Br (Value.bool k) (rt f vF j) (yA [(wi 0)] j λk l m n=>lL m (wi 64) λo=>Br o (lI 1 e i n λo=>Build zQ 35 [(0,(bi 14)),(1,o),(4,m)] λo=>CR f a 16 #[b,o] n λb o=>lQ 4 o #[i0,i0,(wi 0),i0] 37 b λb o=>lI 1 e i o λp=>lI 1 d p o λd=>Build zQ 35 [(0,(bi 14)),(1,d),(4,m)] λd=>CR f a 16 #[c,d] o λd o=>lQ 4 o #[i0,i0,(wi 0),i0] 37 d λd o=>lD 0 (pt b) o λp=>lN p i0 λp=>lO p (λp=>lD 0 (pt d) o λq=>lN q i0 λq=>(lV o q p)) λp=>lO (Value.bool p) (λp=>lD 2 (pt b) o λb=>lD 2 (pt d) o λd=>lN b d λb=>(lV o b p)) λp=>Br (Value.bool p) (rt f vF o) (lA m (wi 1) λb=>aC k l [b] o [m] n)) (lA i i1 λb=>aC g h [b] n [i] j))) (aR e λb=>CR f a 20 #[c] j λa c=>aR a λa=>lE b a λa=>rt f a c)
theorem O1:qD L39 39:=λh=>sd (zA (zA (zB (zA (zB (zE 0 [8] [0,1,2,7] (zA (zB (zB (.n (zB (zF 0 [] [1])) (zA (zB (zE 0 [9] [0,1,2,7,8] (zA (zB (zB (zA (zA (zB (zF 0 [] [1])))))))))))))))))))) func39 h
def L40:Y2:=λa b c d e=>CR e a 68 #[b] d λd f=>lX d λd g=>lN g i0 λg=>lO g (λg=>lL b i1 λh=>(lV f h g)) λg=>lO (Value.bool g) (λg=>lL c (iv 2) λh=>(lV f h g)) λg=>lO (Value.bool g) (λg=>lG c (iv 1048576) λh=>(lV f h g)) λg=>Br (Value.bool g) (rt e (tP (.pointer none) i1) f) (CR e a 69 #[b] f λf g=>lX f λf h=>lN h i0 λi=>Br i (rt e (tP (.pointer none) h) g) (CR e a 70 #[c,f] g λc f=>lX c λc g=>lQ 4 f #[(.pointer none),(.pointer none),sZ,sZ] 137 c λc f=>lN g i0 λh=>Br h (rt e (tP (.pointer none) g) f) (DR f λg=>ax 4 g (pt c) λc=>CN a 71 #[d] f λa f=>aL f g/\
Build zQ 141 [(0,c),(1,b),(2,d),(3,a)] λa=>lK f a 141 λa b=>aL b g/\
rt e (tP (pt a) i0) b)))
theorem Al:qC L40 40:=λh=>sd (zA (zA (.n (zB (zF 0 [] [1])) (hN 4 (zB (zF 0 (yR 9) [])))))) func40 h
def L41:Y1:=λ_ a b c=>lW b #[i0,i0,(wi 0),i0] 37 λb d=>Build zQ 37 [(0,a),(1,(iv (-1)))] λa=>St 4 d (pt b) a λa=>ax 4 a (pt b) λb=>rt c b a
theorem O0:qB L41 41:=λh=>sd .e func41 h
def L42:Y0:=λ_ a b=>gH a λa c=>Build zQ 95 [(0,(bi 8)),(1,(.func (.func 72) #[] #[]))] λd=>aW (.int .u8) c a (bi 1) d λc=>Build zQ 95 [(0,(bi 32)),(1,(.func (.func 73) #[] #[]))] λd=>aW (.int .u8) c a (bi 2) d λc=>Build zQ 95 [(0,(bi 1)),(1,(.func (.func 74) #[] #[]))] λd=>aW (.int .u8) c a (bi 3) d λc=>Build zQ 95 [(0,(bi 3)),(1,(.func (.func 75) #[] #[]))] λd=>aW (.int .u8) c a (bi 4) d λc=>Build zQ 95 [(0,(bi 3)),(1,(.func (.func 76) #[] #[]))] λd=>aW (.int .u8) c a (bi 5) d λc=>Build zQ 95 [(0,(bi 3)),(1,(.func (.func 77) #[] #[]))] λd=>aW (.int .u8) c a (bi 6) d λc=>Build zQ 95 [(0,(bi 7)),(1,(.func (.func 78) #[] #[]))] λd=>aW (.int .u8) c a (bi 7) d λc=>Build zQ 95 [(0,(bi 81)),(1,(.func (.func 79) #[] #[]))] λd=>aW (.int .u8) c a (bi 8) d λc=>Build zQ 95 [(0,(bi 129)),(1,(.func (.func 80) #[] #[]))] λd=>aW (.int .u8) c a (bi 9) d λc=>Build zQ 95 [(0,(bi 129)),(1,(.func (.func 81) #[] #[]))] λd=>aW (.int .u8) c a (bi 10) d λc=>Build zQ 95 [(0,(bi 21)),(1,(.func (.func 82) #[] #[]))] λd=>aW (.int .u8) c a (bi 11) d λc=>rt b a c
theorem OZ:qA L42 42:=λh=>sd .e func42 h
def L43:Y3:=λa b c d e f=>lK e c 35 λc e=>lK e d 95 λd e=>lW e #[i0,i0,(wi 0),i0] 37 λe g=>ax 5 g (pt c) λh=>lD 0 (pt d) g λi=>CR f a 83 #[b,h,i] g λg h=>lN g i0 λi=>Br i (CR f a 41 #[g] h λg i=>St 4 i (pt e) g λg=>ax 4 g (pt e) λi=>rt f i g) (yA [i1] h λg h i j=>lD 1 (pt d) j λd=>ax 5 j (pt c) λc=>aK zQ a d #[b,c] j (λc d=>lX c λc k=>lE k i0 λl=>Br l (CR f a 84 #[b,c,i] d λc l=>St 4 l (pt e) c λc=>ax 4 c (pt e) λl=>rt f l c) (lN k (iv 9) λc=>lO c (λc=>lC 0 b λl=>ai 4 l λl=>Ld d l λl=>lG i l λl=>(lV d l c)) λc=>Br (Value.bool c) (CR f a 41 #[k] d λc k=>lQ 4 k #[i0,i0,(wi 0),i0] 37 c λc k=>ai 3 (pt c) λl=>St 1 k l i λk=>ax 4 k (pt c) λc=>St 4 k (pt e) c λc=>ax 4 c (pt e) λe=>rt f e c) (DR d λc=>lM 5 b c λe=>lC 0 b λk=>ai 2 k λk=>Ld c k λk=>lC 0 b λb=>ai 3 b λb=>Ld c b λb=>∀c:Hp,
CN (a.add c) 85 #[e,k,b] d λ_ a=>lA i i1 λb=>aC g h [b] a [i] j))) (dy f))
theorem Ak:qD L43 43:=λh=>sd (hN 3 (zB (zE 0 [8] [0,4,5,6] (zB (zB (zA (.n (zB (zA (zA (zB (zF 0 [] [1]))))) (zE 1 [] [] (hr 0 [1] 0 15 .e))))))))) func43 h
def L44:Y0:=λ_ a b=>gH a λa c=>aW (.int .u8) c a (bi 12) (.func (.func 86) #[] #[]) λc=>aW (.int .u8) c a (bi 13) (.func (.func 87) #[] #[]) λc=>aW (.int .u8) c a (bi 14) (.func (.func 88) #[] #[]) λc=>aW (.int .u8) c a (bi 15) (.func (.func 89) #[] #[]) λc=>aW (.int .u8) c a (bi 16) (.func (.func 90) #[] #[]) λc=>aW (.int .u8) c a (bi 17) (.func (.func 91) #[] #[]) λc=>aW (.int .u8) c a (bi 18) (.func (.func 92) #[] #[]) λc=>aW (.int .u8) c a (bi 19) (.func (.func 93) #[] #[]) λc=>aW (.int .u8) c a (bi 20) (.func (.func 94) #[] #[]) λc=>aW (.int .u8) c a (bi 21) (.func (.func 95) #[] #[]) λc=>aW (.int .u8) c a (bi 22) (.func (.func 96) #[] #[]) λc=>aW (.int .u8) c a (bi 23) (.func (.func 97) #[] #[]) λc=>rt b a c
theorem OY:qA L44 44:=λh=>sd .e func44 h
def L46:Y1:=λa b c d=>CR d a 98 #[b] c λb c=>CR d a 99 #[b] c λ_ a=>rt d b a
theorem OX:qB L46 46:=λh=>sd .e func46 h
def L47:Y1:=λ_ a b c=>lK b a 88 λa b=>c (.returned (.func (.func 100) #[] #[(pt a)])) b
theorem OW:qB L47 47:=λh=>sd .e func47 h
def L65:Y1:=λa b c d=>oP b λe=>Br e (rt d sZ c) (lM 5 b c λb=>CR d a 71 #[b] c λa b=>rt d a b)
theorem OV:qB L65 65:=λh=>sd .e func65 h
def L68:Y1:=λa b c d=>lL b i0 λe=>lO e (λe=>lG b (iv 64) λf=>(lV c f e)) λe=>Br (Value.bool e) (rt d (tP sZ i1) c) (CR d a 118 #[b] c λa b=>rt d (tP a i0) b)
theorem Aj:qB L68 68:=λh=>sd (zA (zB (zB (zF 0 [] [1])))) func68 h
def L69:Y1:=λ_ a b c=>lL a i1 λd=>lO d (λd=>lG a (iv 64) λe=>(lV b e d)) λd=>Br (Value.bool d) (rt c (tP (.pointer none) i1) b) (cW 167 1 8 (.map none) b a a λb d=>Build zQ 166 [(0,b)] λb=>lK d b 166 λb d=>yA [i0] d λd e f g=>lL f a λa=>Br a (lM 0 (pt b) g λa=>gH g λh i=>au 1 a f λa=>St 1 i a h λa=>lA f i1 λh=>aC d e [h] a [f] g) (rt c (tP (pt b) i0) g))
theorem OU:qB L69 69:=λh=>sd (zA (.n (zB (zF 0 [] [1])) (zA (zB (zA (zB (zF 0 [17] [4,16]))))))) func69 h
def L70:Y2:=λa b c d e=>lW d #[(.pointer none),(.pointer none),sZ,sZ] 137 λd f=>CR e a 119 #[b] f λa b=>lX a λa f=>Build zQ 137 [(0,a),(1,c)] λa=>St 4 b (pt d) a λa=>ax 4 a (pt d) λb=>rt e (tP b f) a
theorem OT:qC L70 70:=λh=>sd .e func70 h
def L71:Y1:=λ_ a b c=>ae .slice .eql a sZ λd=>Br d (rt c sZ b) (az zQ 43 0 [] b λb d=>App zQ 3 1 8 i0 d b a λa b=>rt c a b)
theorem OS:qB L71 71:=λh=>sd .e func71 h
def L72:Y2:=λa b c d e=>lK d c 35 λc d=>DR d λf=>lM 5 b f λb=>lD 1 (pt c) f λc=>∀g:Hp,
CN (a.add g) 120 #[b,c] d λa b=>aL b f/\
lX a λa c=>rt e (tP a c) b
theorem OR:qC L72 72:=λh=>sd (zA (zB (zE 1 [] [] (hr 0 [1] 0 11 .e)))) func72 h
def L73:Y2:=λa b c d e=>lK d c 35 λc d=>DR d λf=>lM 5 b f λb=>lD 1 (pt c) f λc=>lE c i1 λc=>∀g:Hp,
CN (a.add g) 121 #[b,c] d λa b=>aL b f/\
lX a λa c=>rt e (tP a c) b
theorem OQ:qC L73 73:=λh=>sd (zA (zB (zE 1 [] [] (hr 0 [1] 0 12 .e)))) func73 h
def L74:Y2:=λa b c d e=>lK d c 35 λc d=>DR d λf=>lM 5 b f λg=>lM 6 b f λb=>lD 1 (pt c) f λc=>c6 (.int .i64) (ui 0) false f b c λb=>∀c:Hp,
CN (a.add c) 122 #[g,b] d λa b=>aL b f/\
lX a λa c=>rt e (tP a c) b
theorem OP:qC L74 74:=λh=>sd (zA (zB (zE 1 [] [] (hr 0 [1] 0 16 .e)))) func74 h
def L75:Y2:=λa b c d e=>lK d c 35 λc d=>DR d λf=>lM 5 b f λg=>lM 6 b f λh=>lD 1 (pt c) f λi=>c6 (.int .i64) (ui 0) false f h i λh=>lM 6 b f λb=>lD 2 (pt c) f λc=>c6 (.int .i64) (ui 0) false f b c λb=>∀c:Hp,
CN (a.add c) 123 #[g,h,b] d λa b=>aL b f/\
lX a λa c=>rt e (tP a c) b
theorem OO:qC L75 75:=λh=>sd (zA (zB (zE 1 [] [] (hr 0 [1] 0 23 .e)))) func75 h
def L76:Y2:=λa b c d e=>lK d c 35 λc d=>DR d λf=>lM 5 b f λg=>lM 6 b f λh=>lD 1 (pt c) f λi=>c6 (.int .i64) (ui 0) false f h i λh=>lM 6 b f λb=>lD 2 (pt c) f λc=>c6 (.int .i64) (ui 0) false f b c λb=>∀c:Hp,
CN (a.add c) 124 #[g,h,b] d λa b=>aL b f/\
lX a λa c=>rt e (tP a c) b
theorem ON:qC L76 76:=λh=>sd (zA (zB (zE 1 [] [] (hr 0 [1] 0 23 .e)))) func76 h
def L77:Y2:=λa b c d e=>lK d c 35 λc d=>DR d λf=>lM 5 b f λg=>lM 6 b f λh=>lD 1 (pt c) f λi=>c6 (.int .i64) (ui 0) false f h i λh=>lM 6 b f λb=>lD 2 (pt c) f λc=>c6 (.int .i64) (ui 0) false f b c λb=>∀c:Hp,
CN (a.add c) 125 #[g,h,b] d λa b=>aL b f/\
lX a λa c=>rt e (tP a c) b
theorem OM:qC L77 77:=λh=>sd (zA (zB (zE 1 [] [] (hr 0 [1] 0 23 .e)))) func77 h
def L78:Y2:=λa b c d e=>lK d c 35 λc d=>DR d λf=>lM 5 b f λg=>lM 6 b f λh=>lD 1 (pt c) f λi=>c6 (.int .i64) (ui 0) false f h i λh=>lM 6 b f λi=>lD 2 (pt c) f λj=>c6 (.int .i64) (ui 0) false f i j λi=>lM 6 b f λb=>lD 3 (pt c) f λc=>c6 (.int .i64) (ui 0) false f b c λb=>∀c:Hp,
CN (a.add c) 126 #[g,h,i,b] d λa b=>aL b f/\
lX a λa c=>rt e (tP a c) b
theorem OL:qC L78 78:=λh=>sd (zA (zB (zE 1 [] [] (hr 0 [1] 0 30 .e)))) func78 h
def L79:Y2:=λa b c d e=>lK d c 35 λc d=>DR d λf=>lM 5 b f λg=>lM 6 b f λb=>lD 1 (pt c) f λh=>c6 (.int .i64) (ui 0) false f b h λb=>lD 2 (pt c) f λh=>lD 3 (pt c) f λc=>lE c i1 λc=>∀i:Hp,
CN (a.add i) 127 #[g,b,h,c] d λa b=>aL b f/\
lX a λa c=>rt e (tP a c) b
theorem OK:qC L79 79:=λh=>sd (zA (zB (zE 1 [] [] (hr 0 [1] 0 21 .e)))) func79 h
def L80:Y2:=λa b c d e=>lK d c 35 λc d=>DR d λf=>lM 5 b f λg=>lM 6 b f λb=>lD 1 (pt c) f λh=>c6 (.int .i64) (ui 0) false f b h λb=>lD 4 (pt c) f λc=>∀h:Hp,
CN (a.add h) 128 #[g,b,c] d λa b=>aL b f/\
lX a λa c=>rt e (tP a c) b
theorem OJ:qC L80 80:=λh=>sd (zA (zB (zE 1 [] [] (hr 0 [1] 0 18 .e)))) func80 h
def L81:Y2:=λa b c d e=>lK d c 35 λc d=>DR d λf=>lM 5 b f λg=>lM 6 b f λb=>lD 1 (pt c) f λh=>c6 (.int .i64) (ui 0) false f b h λb=>lD 4 (pt c) f λc=>∀h:Hp,
CN (a.add h) 129 #[g,b,c] d λa b=>aL b f/\
lX a λa c=>rt e (tP a c) b
theorem OI:qC L81 81:=λh=>sd (zA (zB (zE 1 [] [] (hr 0 [1] 0 18 .e)))) func81 h
def L82:Y2:=λa b c d e=>lK d c 35 λc d=>DR d λf=>lM 5 b f λg=>lM 6 b f λh=>lD 1 (pt c) f λi=>c6 (.int .i64) (ui 0) false f h i λh=>lD 2 (pt c) f λi=>lM 6 b f λb=>lD 3 (pt c) f λc=>c6 (.int .i64) (ui 0) false f b c λb=>∀c:Hp,
CN (a.add c) 130 #[g,h,i,b] d λa b=>aL b f/\
lX a λa c=>rt e (tP a c) b
theorem OH:qC L82 82:=λh=>sd (zA (zB (zE 1 [] [] (hr 0 [1] 0 25 .e)))) func82 h
def L83:Y3:=λa b c d e f=>lK e c 35 λc e=>jB (λg h=>Br g (rt f i1 h) (jB (λg i=>Br g (rt f (iv 2) i) (jB (λg j=>Br g (rt f (iv 3) j) (rt f i0 j)) λg=>jB (λj k=>Br j (JE g [j] k) (jB (λj l=>Br j (JE g [j] l) (oA d (bi 4) λj=>lN j (bi 0) λj=>Split j true (lD 3 (pt c) l λj=>CR f a 133 #[b,j] l λj m=>Un .not j λj=>aD vT j vF λj=>JE g [j] m) (aD vF undef vF λj=>JE g [j] l))) λg=>oA d (bi 2) λj=>lN j (bi 0) λj=>Split j true (lD 2 (pt c) k λj=>CR f a 133 #[b,j] k λj l=>Un .not j λj=>aD vT j vF λj=>JE g [j] l) (aD vF undef vF λj=>JE g [j] k))) λg=>oA d (bi 1) λj=>lN j (bi 0) λj=>Split j true (lD 1 (pt c) i λj=>CR f a 133 #[b,j] i λj k=>Un .not j λj=>aD vT j vF λj=>JE g [j] k) (aD vF undef vF λj=>JE g [j] i))) λg=>jB (λi j=>Br i (JE g [i] j) (jB (λi k=>Br i (JE g [i] k) (oA d (bi 128) λi=>lN i (bi 0) λi=>lU i (λi=>lD 4 (pt c) k λl=>lC 0 b λm=>ai 0 m λm=>Ld k m λm=>oR l m λl=>lN l (wi 0) λl=>(lV k l i)) λi=>JE g [(Value.bool i)] k)) λg=>oA d (bi 16) λi=>lN i (bi 0) λi=>Split i true (lD 2 (pt c) j λi=>CR f a 132 #[b,i] j λi k=>Un .not i λi=>aD vT i vF λi=>JE g [i] k) (aD vF undef vF λi=>JE g [i] j))) λg=>oA d (bi 8) λi=>lN i (bi 0) λi=>Split i true (lD 1 (pt c) h λi=>CR f a 132 #[b,i] h λb i=>Un .not b λb=>aD vT b vF λb=>JE g [b] i) (aD vF undef vF λb=>JE g [b] h))) λb=>jB (λg h=>Br g (JE b [g] h) (oA d (bi 64) λg=>lN g (bi 0) λg=>Split g true (lD 3 (pt c) h λg=>aK zQ a (.func (.func 131) #[] #[]) #[g] h (λg i=>Un .not g λg=>aD vT g vF λg=>JE b [g] i) (dy f)) (aD vF undef vF λg=>JE b [g] h))) λb=>oA d (bi 32) λd=>lN d (bi 0) λd=>Split d true (lD 1 (pt c) e λc=>aK zQ a (.func (.func 131) #[] #[]) #[c] e (λa c=>Un .not a λa=>aD vT a vF λa=>JE b [a] c) (dy f)) (aD vF undef vF λa=>JE b [a] e)
theorem OG:qD L83 83:=λh=>sd (zA (zA (zB (zB (.h 1 [8] [0,2,4] (zF 1 [8] [0,2,4,7]) (zA (.h 1 [29] [0,2,4] (.h 1 [29] [0,2,4] .e (zA (zF 1 [29] [0,2,4]))) (zA (zE 1 [64] [] (.h 1 [64] [0,2,4] .e (zA (zF 1 [64] [0,2,4])))))))))))) func83 h
def L84:Y3:=λ_ a b c d e=>lW d #[i0,i0,(wi 0),i0] 37 λd f=>lM 7 a f λg=>lM 7 a f λh=>lA h i1 λh=>lC 7 a λi=>St 1 f i h λf=>lM 6 a f λa=>aW (.int .i64) f a g b λa=>Build zQ 37 [(1,g),(3,c)] λb=>St 4 a (pt d) b λa=>ax 4 a (pt d) λb=>rt e b a
theorem OF:qD L84 84:=λh=>sd .e func84 h
def L85:Y3:=λa b c d e f=>lW e #[i0,i0,i0,vF] 147 λe g=>CR f a 134 #[b,c,d] g λg h=>lN g i0 λi=>Br i (Build zQ 147 [] λi=>St 4 h (pt e) i λi=>ax 4 i (pt e) λj=>rt f (tP j g) i) (lE c (bi 1) λg=>Br g (CR f a 135 #[b,d] h λg i=>lX g λg j=>St 4 i (pt e) g λg=>ax 4 g (pt e) λi=>rt f (tP i j) g) (lE c (bi 2) λg=>Br g (CR f a 136 #[b,d] h λd g=>lX d λi _=>Ext 2 d λd=>lQ 4 g #[i0,i0,i0,vF] 147 i λg i=>ax 4 i (pt g) λg=>St 4 i (pt e) g λg=>ax 4 g (pt e) λi=>rt f (tP i d) g) (jB (λd g=>Br d (CR f a 138 #[c] g λd i=>CR f a 137 #[b,d] i λd i=>lX d λd j=>St 4 i (pt e) d λd=>ax 4 d (pt e) λi=>rt f (tP i j) d) (lE c (bi 6) λd=>Br d (CR f a 139 #[b] g λd i=>lX d λd j=>St 4 i (pt e) d λd=>ax 4 d (pt e) λi=>rt f (tP i j) d) (CR f a 140 #[b] g λd g=>CR f a 140 #[b] g λa b=>Build zQ 147 [(0,d),(1,a)] λa=>St 4 b (pt e) a λa=>ax 4 a (pt e) λb=>rt f (tP b i0) a))) λa=>lE c (bi 3) λb=>Br b (JE a [b] h) (lE c (bi 4) λb=>Br b (JE a [b] h) (lE c (bi 5) λb=>JE a [b] h)))))
theorem iI:qD L85 85:=λh=>sd (zA (zA (zB (zA (zB (hN 4 (zF 1 [39] [0,1,6,20]))))))) func85 h
def L86:Y2:=λa b c d e=>lK d c 35 λc d=>lW d #[i0,i0,(wi 0),i0] 37 λd f=>lM 6 b f λg=>lD 1 (pt c) f λc=>c6 (.int .i64) (ui 0) true f g c λc=>lX c λc g=>Un .not g λg=>Br g (CR e a 41 #[(iv 3)] f λg h=>St 4 h (pt d) g λg=>ax 4 g (pt d) λh=>rt e h g) (lM 5 b f λg=>CR e a 141 #[g,c] f λf g=>lN f i0 λh=>Br h (CR e a 41 #[f] g λf h=>St 4 h (pt d) f λf=>ax 4 f (pt d) λh=>rt e h f) (CR e a 84 #[b,c,i0] g λa b=>St 4 b (pt d) a λa=>ax 4 a (pt d) λb=>rt e b a))
theorem Ai:qC L86 86:=λh=>sd .e func86 h
def L87:Y2:=λa b c d e=>lK d c 35 λc d=>lW d #[i0,i0,(wi 0),i0] 37 λd f=>lM 6 b f λg=>lD 1 (pt c) f λh=>c6 (.int .i64) (ui 0) true f g h λg=>lX g λg h=>Un .not h λh=>Br h (CR e a 41 #[(iv 3)] f λh i=>St 4 i (pt d) h λh=>ax 4 h (pt d) λi=>rt e i h) (lM 5 b f λh=>CR e a 142 #[h,g] f λ_ f=>DR f λg=>lM 6 b g λb=>lD 1 (pt c) g λc=>∀_:Hp,
ot (.int .i64) f b c λb=>CR e a 143 #[(wi 0),i0] b λa b=>St 4 b (pt d) a λa=>ax 4 a (pt d) λb=>rt e b a)
theorem Ah:qC L87 87:=λh=>sd (hN 4 (zB (zE 1 [] [] (hr 0 [1] 0 7 .e)))) func87 h
def L88:Y2:=λa b c d e=>lK d c 35 λc d=>lW d #[i0,i0,(wi 0),i0] 37 λd f=>lD 1 (pt c) f λg=>CR e a 133 #[b,g] f λf g=>Un .not f λf=>Br f (CR e a 41 #[(iv 3)] g λf h=>St 4 h (pt d) f λf=>ax 4 f (pt d) λh=>rt e h f) (DR g λf=>lM 5 b f λh=>lM 6 b f λb=>lD 1 (pt c) f λi=>c6 (.int .i64) (ui 0) false f b i λb=>lD 4 (pt c) f λc=>∀i:Hp,
CN (a.add i) 144 #[h,b,c] g λb c=>aL c f/\
lX b λb f=>CR e a 145 #[b] c λb c=>CR e a 143 #[b,f] c λa b=>St 4 b (pt d) a λa=>ax 4 a (pt d) λb=>rt e b a)
theorem OE:qC L88 88:=λh=>sd (zA (zA (zB (zE 1 [] [] (hr 0 [1] 0 19 .e))))) func88 h
def L89:Y2:=λa b c d e=>lK d c 35 λc d=>lW d #[i0,i0,(wi 0),i0] 37 λd f=>jB (λg h=>Br g (CR e a 41 #[(iv 3)] h λg i=>St 4 i (pt d) g λg=>ax 4 g (pt d) λi=>rt e i g) (DR h λg=>lM 6 b g λi=>lD 1 (pt c) g λj=>c6 (.int .i64) (ui 0) false g i j λi=>lM 6 b g λj=>lD 2 (pt c) g λk=>c6 (.int .i64) (ui 0) false g j k λg=>lE i g λg=>∀i:Hp,
CN (a.add i) 145 #[g] h λg h=>∀i:Hp,
CN (a.add i) 143 #[g,i0] h λg h=>∀_:Hp,
St 4 h (pt d) g λg=>ax 4 g (pt d) λd=>rt e d g)) λd=>lD 1 (pt c) f λg=>CR e a 133 #[b,g] f λf g=>Un .not f λf=>Split f false (lD 2 (pt c) g λc=>CR e a 133 #[b,c] g λa b=>Un .not a λa=>aD vF vT a λa=>JE d [a] b) (aD vT vT undef λa=>JE d [a] g)
theorem OD:qC L89 89:=λh=>sd (zA (.n (zF 1 [16] [0,3,4]) (zB (zE 1 [] [] (hr 0 [1] 0 18 .e))))) func89 h
def L90:Y2:=λa b c d e=>lK d c 35 λc d=>lW d #[i0,i0,(wi 0),i0] 37 λd f=>lD 1 (pt c) f λg=>CR e a 133 #[b,g] f λf g=>Un .not f λf=>Br f (CR e a 41 #[(iv 3)] g λf h=>St 4 h (pt d) f λf=>ax 4 f (pt d) λh=>rt e h f) (DR g λf=>lM 5 b f λh=>lM 6 b f λb=>lD 1 (pt c) f λc=>c6 (.int .i64) (ui 0) false f b c λb=>∀c:Hp,
CN (a.add c) 146 #[h,b] g λb c=>aL c f/\
lX b λb f=>∀g:Hp,
CN (a.add g) 143 #[b,f] c λa b=>∀_:Hp,
St 4 b (pt d) a λa=>ax 4 a (pt d) λb=>rt e b a)
theorem OC:qC L90 90:=λh=>sd (zA (zA (zB (zE 1 [] [] (hr 0 [1] 0 16 .e))))) func90 h
def L91:Y2:=λa b c d e=>lK d c 35 λc d=>lW d #[i0,i0,(wi 0),i0] 37 λd f=>lD 1 (pt c) f λg=>CR e a 133 #[b,g] f λf g=>Un .not f λf=>Br f (CR e a 41 #[(iv 3)] g λf h=>St 4 h (pt d) f λf=>ax 4 f (pt d) λh=>rt e h f) (DR g λf=>lM 5 b f λh=>lM 6 b f λb=>lD 1 (pt c) f λc=>c6 (.int .i64) (ui 0) false f b c λb=>∀_:Hp,
az zQ 194 1 [(0,b)] g λb c=>aL c f/\
∀g:Hp,
CN (a.add g) 147 #[h,b] c λb c=>aL c f/\
lX b λb f=>aV .u64 b λb=>CR e a 143 #[b,f] c λa b=>St 4 b (pt d) a λa=>ax 4 a (pt d) λb=>rt e b a)
theorem OB:qC L91 91:=λh=>sd (zA (zA (zB (zE 1 [] [] (hr 0 [1] 0 18 .e))))) func91 h
def L92:Y2:=λa b c d e=>lK d c 35 λ_ c=>lW c #[i0,i0,(wi 0),i0] 37 λc d=>lM 5 b d λb=>CR e a 140 #[b] d λb d=>aV .u64 b λb=>CR e a 143 #[b,i0] d λa b=>St 4 b (pt c) a λa=>ax 4 a (pt c) λb=>rt e b a
theorem OA:qC L92 92:=λh=>sd .e func92 h
def L93:Y2:=λa b c d e=>lK d c 35 λc d=>lW d #[i0,i0,(wi 0),i0] 37 λd f=>lD 1 (pt c) f λg=>CR e a 133 #[b,g] f λf g=>Un .not f λf=>Br f (CR e a 41 #[(iv 3)] g λf h=>St 4 h (pt d) f λf=>ax 4 f (pt d) λh=>rt e h f) (DR g λf=>lM 5 b f λh=>lM 6 b f λb=>lD 1 (pt c) f λc=>c6 (.int .i64) (ui 0) false f b c λb=>∀c:Hp,
CN (a.add c) 148 #[h,b] g λb c=>aL c f/\
lX b λb f=>∀g:Hp,
CN (a.add g) 143 #[b,f] c λa b=>∀_:Hp,
St 4 b (pt d) a λa=>ax 4 a (pt d) λb=>rt e b a)
theorem Oz:qC L93 93:=λh=>sd (zA (zA (zB (zE 1 [] [] (hr 0 [1] 0 16 .e))))) func93 h
def L94:Y2:=λa b c d e=>lK d c 35 λc d=>lW d #[i0,i0,(wi 0),i0] 37 λd f=>lD 1 (pt c) f λg=>CR e a 133 #[b,g] f λf g=>Un .not f λf=>Br f (CR e a 41 #[(iv 3)] g λf h=>St 4 h (pt d) f λf=>ax 4 f (pt d) λh=>rt e h f) (DR g λf=>lM 5 b f λh=>lM 6 b f λb=>lD 1 (pt c) f λc=>c6 (.int .i64) (ui 0) false f b c λb=>∀c:Hp,
CN (a.add c) 149 #[h,b] g λb c=>aL c f/\
lX b λb f=>∀g:Hp,
CN (a.add g) 143 #[b,f] c λa b=>∀_:Hp,
St 4 b (pt d) a λa=>ax 4 a (pt d) λb=>rt e b a)
theorem Oy:qC L94 94:=λh=>sd (zA (zA (zB (zE 1 [] [] (hr 0 [1] 0 16 .e))))) func94 h
def L95:Y2:=λa b c d e=>lK d c 35 λc d=>lW d #[i0,i0,(wi 0),i0] 37 λd f=>DR f λg=>lM 5 b g λb=>lD 1 (pt c) g λc=>∀h:Hp,
CN (a.add h) 150 #[b,c] f λb c=>aL c g/\
lX b λb f=>aV .u64 b λb=>CR e a 143 #[b,f] c λa b=>St 4 b (pt d) a λa=>ax 4 a (pt d) λb=>rt e b a
theorem Ag:qC L95 95:=λh=>sd (zA (zB (zE 1 [] [] (hr 0 [1] 0 12 .e)))) func95 h
def L96:Y2:=λa b c d e=>lK d c 35 λc d=>lW d #[i0,i0,(wi 0),i0] 37 λd f=>DR f λg=>lM 5 b g λb=>lD 1 (pt c) g λc=>∀g:Hp,
CN (a.add g) 151 #[b,c] f λb c=>∀f:Hp,
CN (a.add f) 143 #[(wi 0),b] c λa b=>∀_:Hp,
St 4 b (pt d) a λa=>ax 4 a (pt d) λb=>rt e b a
theorem Af:qC L96 96:=λh=>sd (zA (zB (zE 1 [] [] (hr 0 [1] 0 9 .e)))) func96 h
def L97:Y2:=λa b c d e=>lK d c 35 λc d=>lW d #[i0,i0,(wi 0),i0] 37 λd f=>lD 1 (pt c) f λg=>lL g i0 λg=>lO g (λg=>lD 1 (pt c) f λh=>lG h (iv 6) λh=>(lV f h g)) λg=>Br (Value.bool g) (CR e a 41 #[i1] f λg h=>St 4 h (pt d) g λg=>ax 4 g (pt d) λh=>rt e h g) (DR f λg=>lM 5 b g λh=>lD 1 (pt c) g λi=>aV .u8 i λi=>lD 2 (pt c) g λc=>∀j:Hp,
CN (a.add j) 85 #[h,i,c] f λc f=>aL f g/\
lX c λc h=>lW f #[i0,i0,i0,vF] 147 λf i=>∀_:Hp,
St 4 i (pt f) c λc=>aL c g/\
lM 5 b c λb=>CR e a 140 #[b] c λb c=>aV .u64 b λb=>CR e a 143 #[b,h] c λa b=>St 4 b (pt d) a λa=>ax 4 a (pt d) λb=>rt e b a)
theorem Ae:qC L97 97:=λh=>sd (zA (.n (zB (zF 0 [] [1])) (zB (zE 1 [] [] (hr 0 [1] 0 9 (zE 1 [13] [1] (hr 0 [1] 9 7 .e))))))) func97 h
def L98:Y1:=λa b c d=>CR d a 152 #[sZ,b] c λa b=>rt d a b
theorem Ox:qB L98 98:=λh=>sd .e func98 h
def L99:Y1:=λa b c d=>aR b λe=>aV .u64 e λf=>CR d a 154 #[f] c λc f=>CR d a 153 #[b,i0,e,c] f λ_ a=>rt d (.tuple #[]) a
theorem Ow:qB L99 99:=λh=>sd .e func99 h
variable {g:Gh} {a0 a1 a2 a3 a4 a5 a6 a7 a8 a9 tR tQ a12 a13 a14 a15:zV} {H:Hp} {R:Rt}
def L118:Y1:=λ_ a b c=>cW 3 1 8 i0 b a a λb d=>yA [i0] d λd e f g=>lL f a λa=>Br a (au 1 b f λa=>St 1 g a f λa=>lA f i1 λh=>aC d e [h] a [f] g) (rt c b g)
theorem Kt:qB L118 118:=λh=>sd (zA (zA (zB (zA (zB (zF 0 [8] [3,7])))))) func118 h
def L119:Y1:=λ_ a b c=>lL a (iv 2) λd=>lO d (λd=>lG a (iv 1048576) λe=>(lV b e d)) λd=>Br (Value.bool d) (rt c (tP (.pointer none) i1) b) (Build zQ 224 [(0,a),(3,(iv 2))] λa=>lK b a 224 λa b=>yA [(ui 0)] b λb d e f=>lL e (ui 2) λg=>Br g (lM 1 (pt a) f λg=>Build zQ 226 [(0,(iv (-1))),(1,e),(2,e)] λh=>Build zQ 228 [(0,h),(1,vT),(2,(bi 255))] λh=>az zQ 222 1 [(0,h)] f λh i=>App zQ 228 5 24 (.agg #[i0,(ui 0),(ui 0),vF,(bi 0)]) i g h λg h=>lC 1 (pt a) λi=>St 1 h i g λg=>lA e (ui 1) λh=>aC b d [h] g [e] f) (rt c (tP (pt a) i0) f))
theorem Ks:qB L119 119:=λh=>sd (zA (.n (zB (zF 0 [] [1])) (zA (zB (zA (zB (zF 0 [15] [4]))))))) func119 h
def L120:Y2:=λa b c d e=>oP b λf=>Br f (rt e (tP (ui 0) (iv 10)) d) (CR e a 175 #[b,c,(ui 0),(ui 1)] d λa b=>lX a λa c=>rt e (tP a c) b)
theorem Kr:qC L120 120:=λh=>sd .e func120 h
def L121:Y2:=λa b c d e=>oP b λf=>Br f (rt e (tP (ui 0) (iv 10)) d) (jB (λf g=>CR e a 141 #[b,f] g λa b=>rt e (tP f a) b) λa=>Br c (JE a [(ui 1)] d) (JE a [(ui 0)] d))
theorem Kq:qC L121 121:=λh=>sd (hN 3 (zF 1 [6] [0])) func121 h
def L122:Y2:=λa b c d e=>CR e a 176 #[b,(bi 3),c,(ui 0)] d λa b=>lX a λa c=>rt e (tP a c) b
theorem Kp:qC L122 122:=λh=>sd .e func122 h
def L123:Y3:=λa b c d e f=>CR f a 176 #[b,(bi 8),c,d] e λa b=>lX a λa c=>rt f (tP a c) b
theorem Ko:qD L123 123:=λh=>sd .e func123 h
def L124:Y3:=λa b c d e f=>CR f a 176 #[b,(bi 14),c,d] e λa b=>lX a λa c=>rt f (tP a c) b
theorem Km:qD L124 124:=λh=>sd .e func124 h
def L125:Y3:=λa b c d e f=>CR f a 176 #[b,(bi 6),c,d] e λa b=>lX a λa c=>rt f (tP a c) b
theorem Kl:qD L125 125:=λh=>sd .e func125 h
def L126:Y4:=λa b c d e f g=>az zQ 194 3 [(0,c),(1,d),(2,e)] f λf h=>CR g a 177 #[b,f] h λb f=>lX b λb h=>lN h i0 λi=>Br i (rt g (tP (ui 0) h) f) (Build zQ 236 [(0,c),(1,d),(2,e)] λc=>CR g a 178 #[b,c,(.func (.func 179) #[] #[])] f λa b=>lX a λa c=>rt g (tP a c) b)
theorem Kk:qE L126 126:=λh=>sd .e func126 h
def L127:Y4:=λa b c d e f g=>CR g a 180 #[b,d] f λf h=>lX f λf i=>ae .ptr .neq b (.pointer none) λj=>lU j (λj=>Un .not i λi=>(lV h i j)) λj=>Br (Value.bool j) (rt g (tP (ui 0) (iv 2)) h) (az zQ 194 1 [(0,c)] h λh i=>CR g a 181 #[b,f,h] i λf h=>lN f i0 λi=>Br i (rt g (tP (ui 0) f) h) (CR g a 183 #[b,c,d,e] h λb c=>lX b λd e=>Ext 2 b λb=>CR g a 182 #[d,e,b] c λa b=>lX a λa c=>rt g (tP a c) b))
theorem Kj:qE L127 127:=λh=>sd (zA (zA (zB (zB (zF 0 [] [1]))))) func127 h
def L128:Y3:=λa b c d e f=>CR f a 184 #[b,c,d,vT] e λa b=>lX a λa c=>rt f (tP a c) b
theorem Kh:qD L128 128:=λh=>sd .e func128 h
def L129:Y3:=λa b c d e f=>CR f a 184 #[b,c,d,vF] e λa b=>lX a λa c=>rt f (tP a c) b
theorem Kg:qD L129 129:=λh=>sd .e func129 h
def L130:Y4:=λa b c d e f g=>CF a 180 #[b,d] f (λf h=>lX f λf i=>ae .ptr .neq b (.pointer none) λj=>lU j (λj=>Un .not i λi=>(lV h i j)) λj=>Br (Value.bool j) (rt g (tP (ui 0) (iv 2)) h) (az zQ 194 2 [(0,c),(1,e)] h λh i=>CF a 181 #[b,f,h] i (λf h=>lN f i0 λi=>Br i (rt g (tP (ui 0) f) h) (CF a 183 #[b,c,d,vF] h (λf h=>lX f λi j=>Ext 2 f λf=>CF a 182 #[i,j,f] h (λf h=>lX f λf i=>lN i i0 λj=>Br j (rt g (tP (ui 0) i) h) (CF a 183 #[b,c,d,vT] h (λc d=>lX c λh i=>Ext 2 c λc=>CF a 182 #[h,i,c] d (λc d=>lX c λc h=>lN h i0 λi=>Br i (jZ zQ a 142 #[b,f] d λi=>rt g (tP (ui 0) h) i) (CF a 126 #[b,e,c,f] d (λd e=>lX d λd h=>jZ zQ a 142 #[b,c] e λc=>jZ zQ a 142 #[b,f] c λa=>rt g (tP d h) a) Ou)) Ou) Ou)) Ou) Ou)) Ou)) Ou
theorem Kf(h:L130 g a0 a1 a2 a3 H R):sc g 130 #[a0,a1,a2,a3] H R:=
 AD (hn:=(zA (zA (.n (zB (zF 0 [] [1])) (hN 7 .e))))) func130 h zK
def L131:Y1:=λ_ a b c=>lE a i0 λd=>lO d (λd=>lE a i1 λa=>(lV b a d)) λd=>rt c (Value.bool d) b
theorem Ke:qB L131 131:=λh=>sd (zA (zB (zF 0 [] [1]))) func131 h
def L132:Y2:=λ_ a b c d=>oG b i0 λe=>lU e (λe=>lC 0 a λa=>ai 0 a λa=>Ld c a λa=>lL b a λa=>(lV c a e)) λe=>rt d (Value.bool e) c
theorem Kb:qC L132 132:=λh=>sd (zA (zB (zF 0 [] [1]))) func132 h
def L133:Y2:=λ_ a b c d=>lM 6 a c λa=>c6 (.int .i64) (ui 0) true c a b λa=>lX a λ_ a=>rt d a c
theorem Ka:qC L133 133:=λh=>sd .e func133 h
def L134:Y3:=λa b c d e f=>oP b λg=>Br g (rt f (iv 10) e) (lG c (bi 6) λg=>lO g (λg=>lL d (iv 100) λh=>(lV e h g)) λg=>lO (Value.bool g) (λg=>lG d (iv 1000) λd=>(lV e d g)) λg=>Br (Value.bool g) (rt f i1 e) (jB (λd g=>Br d (rt f (iv 6) g) (rt f i0 g)) λd=>lE c (bi 6) λc=>Split c true (CR f a 185 #[b] e λa b=>lG a (iv 12) λa=>aD vT a vF λa=>JE d [a] b) (aD vF undef vF λa=>JE d [a] e)))
theorem xH:qD L134 134:=λh=>sd (zA (zB (zB (zA (zA (.n (zF 0 [] [1]) (zA (zF 1 [21] [])))))))) func134 h
def L135:Y2:=λa b c d e=>lW d #[i0,i0,i0,vF] 147 λd f=>CR e a 186 #[b,c] f λf g=>lN f i0 λh=>Br h (Build zQ 147 [] λh=>St 4 g (pt d) h λh=>ax 4 h (pt d) λi=>rt e (tP i f) h) (CR e a 140 #[b] g λf g=>Build zQ 147 [(0,f)] λf=>lQ 4 g #[i0,i0,i0,vF] 147 f λf g=>CR e a 187 #[b] g λg h=>aR g λi=>yA [i0] h λh j k l=>lL k i λi=>Br i (lI 1 g k l λg=>CR e a 188 #[b,g,c] l λc g=>lX c λc _=>lQ 4 g #[i0,i0,i0,vF] 147 c λc g=>lD 2 (pt f) g λi=>lD 2 (pt c) g λc=>lA i c λc=>ai 2 (pt f) λi=>St 1 g i c λc=>lA k i1 λg=>aC h j [g] c [k] l) (CR e a 140 #[b] l λa b=>ai 1 (pt f) λc=>St 1 b c a λa=>ax 4 a (pt f) λb=>St 4 a (pt d) b λa=>ax 4 a (pt d) λb=>rt e (tP b i0) a))
theorem J4:qC L135 135:=λh=>sd (hN 3 (zB (zA (zB (zF 0 [25] [0,1,4,7,23,24]))))) func135 h
def L136:Y2:=λa b c d e=>lW d #[i0,i0,i0,vF] 147 λd f=>CR e a 186 #[b,c] f λf g=>lN f i0 λh=>Br h (Build zQ 147 [] λh=>St 4 g (pt d) h λh=>ax 4 h (pt d) λi=>rt e (.tuple #[i,i0,f]) h) (CR e a 140 #[b] g λf g=>Build zQ 147 [(0,f)] λf=>lQ 4 g #[i0,i0,i0,vF] 147 f λf g=>yA [i1] g λg h i j=>CR e a 135 #[b,c] j λa b=>lX a λa _=>lQ 4 b #[i0,i0,i0,vF] 147 a λa b=>lD 2 (pt f) b λc=>lD 2 (pt a) b λk=>lA c k λc=>ai 2 (pt f) λk=>St 1 b k c λb=>lD 1 (pt a) b λc=>ai 1 (pt f) λk=>St 1 b k c λb=>lD 1 (pt a) b λc=>lD 0 (pt a) b λa=>oG c a λa=>Br a (ax 4 b (pt f) λa=>St 4 b (pt d) a λa=>ax 4 a (pt d) λc=>rt e (.tuple #[c,i,i0]) a) (lA i i1 λa=>aC g h [a] b [i] j))
theorem J0:qC L136 136:=λh=>sd (hN 4 (zB (zF 0 [9] [0,1,4,8]))) func136 h
def L137:Y2:=λa b c d e=>lW d #[i0,i0,i0,vF] 147 λd f=>CR e a 189 #[b,c] f λf g=>lN f i0 λh=>Br h (Build zQ 147 [] λh=>St 4 g (pt d) h λh=>ax 4 h (pt d) λi=>rt e (tP i f) h) (CR e a 190 #[b,c] g λf g=>CR e a 191 #[f,b,c] g λ_ a=>lC 1 f λb=>ax 4 a b λb=>St 4 a (pt d) b λa=>ax 4 a (pt d) λb=>rt e (tP b i0) a)
theorem JZ:qC L137 137:=λh=>sd .e func137 h
def L138:Y1:=λ_ a b c=>lS a (bi 3) λa=>aV .i64 a λa=>lA a (iv 2) λa=>rt c a b
theorem JY:qB L138 138:=λh=>sd .e func138 h
def L139:Y1:=λa b c d=>lW c #[i0,i0,i0,vF] 147 λc e=>oP b λf=>Br f (Build zQ 147 [] λf=>St 4 e (pt c) f λf=>ax 4 f (pt c) λg=>rt d (tP g (iv 10)) f) (CR d a 185 #[b] e λe f=>lG e (iv 12) λe=>Br e (Build zQ 147 [] λe=>St 4 f (pt c) e λe=>ax 4 e (pt c) λg=>rt d (tP g (iv 6)) e) (CR d a 192 #[b] f λe f=>aR e λg=>yB [sZ,i0] f λf h i j k=>lL j g λg=>Br g (lI 1 e j k λe=>CR d a 193 #[b,e] k λe g=>lX e λe _=>lQ 2 g #[i0,sZ] 116 e λe g=>ax 2 g (pt e) λe=>az zQ 66 1 [(0,e)] g λe g=>App zQ 116 2 32 (.agg #[i0,sZ]) g i e λe g=>lA j i1 λl=>aC f h [e,l] g [i,j] k) (CR d a 140 #[b] k λe f=>CR d a 194 #[i] f λf g=>lX f λh i=>Ext 2 f λ_=>lE e h λf=>Br f (Build zQ 147 [(0,e),(1,e),(3,vT)] λf=>St 4 g (pt c) f λf=>ax 4 f (pt c) λh=>rt d (tP h i0) f) (CR d a 195 #[b,i] g λf g=>lX f λf h=>CR d a 140 #[b] g λa b=>lE h i0 λg=>Build zQ 147 [(0,e),(1,a),(2,f),(3,g)] λa=>St 4 b (pt c) a λa=>ax 4 a (pt c) λb=>rt d (tP b i0) a))))
theorem JX:qB L139 139:=λh=>sd (hN 4 (zB (zA (zB (zF 0 [4,25] [0,2,23,24]))))) func139 h
def L140:Y1:=λa b c d=>oP b λe=>Br e (rt d i0 c) (lC 0 b λb=>ai 0 b λb=>Ld c b λb=>CR d a 196 #[b] c λa b=>lS a (iv 2) λa=>rt d a b)
theorem JW:qB L140 140:=λh=>sd .e func140 h
def L141:Y2:=λa b c d e=>oP b λf=>Br f (rt e (iv 10) d) (lC 0 b λf=>CR e a 197 #[f,c] d λa d=>Un .not a λa=>Br a (rt e (iv 3) d) (jA (λa=>lC 7 b λf=>St 1 a f sZ λa=>rt e i0 a) λa=>lG c (ui 1) λf=>Br f (lC 0 b λf=>ai 3 f λf=>Ld d f λf=>lI 1 f c d λf=>lE f (Value.int .i32 65535) λf=>Br f (rt e (iv 8) d) (lC 0 b λe=>ai 3 e λe=>Ld d e λe=>lI 1 e c d λf=>lA f (Value.int .i32 1) λf=>au 1 e c λe=>St 1 d e f λe=>lC 0 b λf=>ai 3 f λf=>Ld e f λf=>lI 1 f c e λf=>lE f (Value.int .i32 1) λf=>Br f (lC 0 b λb=>ai 2 b λb=>Ld e b λb=>lI 1 b c e λf=>lA f (Value.int .i32 1) λf=>au 1 b c λb=>St 1 e b f λb=>JE a [] b) (JE a [] e))) (JE a [] d)))
theorem xG:qC L141 141:=λh=>sd (zA (zA (zF 1 [] [0]))) func141 h
def L142:Y2:=λa b c d e=>oP b λf=>Br f (rt e (iv 10) d) (jA (λf=>lC 7 b λg=>St 1 f g sZ λf=>rt e i0 f) λf=>lG c (ui 1) λg=>Br g (CR e a 198 #[b,c] d λg h=>lE g i0 λg=>Br g (rt e (iv 3) h) (lC 0 b λg=>ai 3 g λg=>Ld h g λg=>lI 1 g c h λi=>lS i (Value.int .i32 1) λi=>au 1 g c λg=>St 1 h g i λg=>lC 0 b λh=>ai 3 h λh=>Ld g h λh=>lI 1 h c g λh=>lE h (Value.int .i32 0) λh=>Br h (lC 0 b λb=>CR e a 199 #[b,c] g λ_ a=>JE f [] a) (JE f [] g))) (JE f [] d))
theorem xF:qC L142 142:=λh=>sd (zA (zA (zF 1 [] [0]))) func142 h
theorem Eu(h:L142 g a0 a1 H R):kL zQ g 142 #[a0,a1] H R:=
 AE (hn:=(zA (zA (zF 1 [] [0])))) func142 h zK
def L143:Y2:=λa b c d e=>lW d #[i0,i0,(wi 0),i0] 37 λd f=>lN c i0 λg=>Br g (CR e a 41 #[c] f λa c=>St 4 c (pt d) a λa=>ax 4 a (pt d) λc=>rt e c a) (Build zQ 37 [(1,(iv (-1))),(2,b)] λa=>St 4 f (pt d) a λa=>ax 4 a (pt d) λb=>rt e b a)
theorem JV:qC L143 143:=λh=>sd .e func143 h
def L144:Y3:=λa b c d e f=>az zQ 194 1 [(0,c)] e λe g=>CR f a 200 #[b,e] g λe g=>lN e i0 λh=>Br h (rt f (tP vF e) g) (yA [c] g λc e g h=>CR f a 201 #[g] h λi j=>Un .not i λi=>Br i (CR f a 202 #[b,g] j λa b=>lQ 3 b nC 226 a λa b=>lD 1 (pt a) b λi=>lD 0 (pt a) b λk=>oR d k λd=>oA d (wi 1) λd=>lE d (wi 1) λd=>Br d (lD 2 (pt a) b λa=>aC c e [a] b [g] h) (aC c e [i] b [g] h)) (lE g (ui 1) λa=>rt f (tP a i0) j))
theorem JU:qD L144 144:=λh=>sd (zA (zA (zB (zB (zF 0 [1] [0,2]))))) func144 h
def L145:Y1:=λ_ a b c=>Br a (rt c (wi 1) b) (rt c (wi 0) b)
theorem JT:qB L145 145:=λh=>sd .e func145 h
def L146:Y2:=λa b c d e=>lK d b 85 λb d=>Ld d (pt b) λf=>az zQ 194 1 [(0,c)] d λd g=>CR e a 200 #[f,d] g λd f=>lN d i0 λg=>Br g (rt e (tP (wi 0) d) f) (lW f #[.nilFunc] 260 λd f=>St 1 f (pt d) (.func (.func 203) #[] #[(pt b)]) λf=>Ld f (pt b) λg=>CR e a 204 #[g,c,(wi 0),(wi 1),(.func (.func 205) #[] #[(pt b),(pt d)])] f λb f=>Ld f (pt d) λd=>aK zQ a d #[c] f (λa c=>oL b a λa=>rt e (tP a i0) c) (dy e))
theorem JS:qC L146 146:=λh=>sd .e func146 h
def L147:Y2:=λa b c d e=>CR e a 200 #[b,c] d λd f=>lN d i0 λg=>Br g (rt e (tP i0 d) f) (lQ 1 f #[i0] 3 i0 λd f=>CR e a 206 #[b,c,(.func (.func 207) #[] #[(pt d)])] f λ_ a=>Ld a (pt d) λb=>rt e (tP b i0) a)
theorem JR:qC L147 147:=λh=>sd .e func147 h
def L148:Y2:=λa b c d e=>CR e a 208 #[b,c,(wi 0)] d λa b=>lX a λa c=>rt e (tP a c) b
theorem xE:qC L148 148:=λh=>sd .e func148 h
def L149:Y2:=λa b c d e=>az zQ 194 1 [(0,c)] d λd f=>CR e a 200 #[b,d] f λd f=>lN d i0 λg=>Br g (rt e (tP (wi 0) d) f) (lQ 1 f #[(wi 0)] 33 (wi 0) λd f=>az zQ 194 1 [(0,c)] f λc f=>CR e a 206 #[b,c,(.func (.func 209) #[] #[(pt d)])] f λ_ a=>Ld a (pt d) λb=>rt e (tP b i0) a)
theorem JQ:qC L149 149:=λh=>sd .e func149 h
def L150:Y2:=λa b c d e=>oP b λf=>Br f (rt e (tP i0 (iv 10)) d) (CR e a 210 #[b,c] d λa d=>Un .not a λa=>Br a (rt e (tP i0 (iv 2)) d) (lM 6 b d λa=>lI 1 a c d λa=>rt e (tP a i0) d))
theorem qG:qC L150 150:=λh=>sd .e func150 h
def L151:Y2:=λa b c d e=>oP b λf=>Br f (rt e (iv 10) d) (lL c i0 λf=>lO f (λf=>lM 4 b d λg=>lS g (iv 2) λg=>lG c g λg=>(lV d g f)) λf=>Br (Value.bool f) (rt e i1 d) (CR e a 211 #[b,c] d λa d=>Un .not a λa=>Br a (rt e (iv 9) d) (lM 7 b d λa=>az zQ 43 1 [(0,c)] d λc d=>App zQ 3 1 8 i0 d a c λa c=>lC 7 b λb=>St 1 c b a λa=>rt e i0 a)))
theorem xD:qC L151 151:=λh=>sd (zA (zB (zB (zA (zA (zB (zF 0 [] [1]))))))) func151 h
def L154:Y1:=λa b c d=>Br vF (aV .u32 b λe=>CR d a 221 #[e] c λe f=>rt d e f) (CR d a 222 #[b] c λa b=>rt d a b)
theorem JP:qB L154 154:=λh=>sd .e func154 h
def L175:Y4:=λa b c d e f g=>oP b λh=>Br h (rt g (tP (ui 0) (iv 10)) f) (CR g a 243 #[b,c,d,e] f λf h=>lN f i0 λi=>Br i (rt g (tP (ui 0) f) h) (CR g a 244 #[b,c,d,e] h λf h=>lX f λf i=>jB (λj k=>CR g a 141 #[b,j] k λk l=>lN k i0 λm=>Br m (rt g (tP (ui 0) k) l) (rt g (tP j i0) l)) λj=>Un .not i λi=>Br i (lC 0 b λi=>CR g a 245 #[i,i1] h λi k=>Un .not i λi=>Br i (rt g (tP (ui 0) (iv 9)) k) (lC 0 b λb=>Build zQ 226 [(0,c),(1,d),(2,e)] λc=>CR g a 246 #[b,c] k λa b=>JE j [a] b)) (JE j [f] h)))
theorem JO:qE L175 175:=λh=>sd (hN 4 (zF 1 [11] [0])) func175 h
def L176:Y4:=λa b c d e f g=>lK f c 5 λc f=>oP b λh=>Br h (rt g (tP (ui 0) (iv 10)) f) (Ld f (pt c) λh=>lG h (bi 15) λh=>Br h (rt g (tP (ui 0) i1) f) (az zQ 194 2 [(0,d),(1,e)] f λf h=>CR g a 177 #[b,f] h λb f=>lX b λb h=>lN h i0 λi=>Br i (rt g (tP (ui 0) h) f) (Build zQ 236 [(0,d),(1,e)] λd=>CR g a 178 #[b,d,(.func (.func 247) #[] #[(pt c)])] f λa b=>lX a λa c=>rt g (tP a c) b)))
theorem JN:qE L176 176:=λh=>sd .e func176 h
def L177:Y2:=λa b c d e=>oP b λf=>Br f (rt e (tP (.pointer none) (iv 10)) d) (aR c λf=>yA [i0] d λd g h i=>lL h f λf=>Br f (lI 1 c h i λc=>CR e a 249 #[b,c] i λc f=>lX c λc j=>lQ 3 f nC 226 c λ_ c=>lN j i0 λf=>Br f (rt e (tP (.pointer none) j) c) (lA h i1 λf=>aC d g [f] c [h] i)) (CR e a 185 #[b] i λc d=>cW 3 1 8 i0 d c c λc d=>Build zQ 305 [(0,b),(1,c)] λc=>lK d c 305 λc d=>CR e a 65 #[b] d λa b=>aR a λd=>yA [i0] b λb f g h=>lL g d λd=>Br d (lI 1 a g h λa=>lM 1 (pt c) h λd=>au 1 d a λa=>St 1 h a g λa=>lA g i1 λd=>aC b f [d] a [g] h) (rt e (tP (pt c) i0) h)))
theorem JM:qC L177 177:=λh=>sd (zA (zA (.n (zA (zB (zF 0 [17] [0,15,16]))) (zA (zB (zA (zB (zF 0 [40] [10,38,39])))))))) func177 h
def L178:Y3:=λa b c d e f=>lK e b 231 λb e=>lK e c 236 λc e=>lK e d 237 λd e=>lW e #[(ui 0)] 110 λe g=>lW g #[i0] 27 λg h=>gH h λh i=>lQ 1 i #[(.map none)] 307 h λh i=>lW i #[.nilFunc] 308 λi j=>St 1 j (pt i) (.func (.func 252) #[] #[(pt h),(pt b),(pt d),(pt i)]) λd=>Ld d (pt i) λh=>ax 3 d (pt c) λc=>aK zQ a h #[c] d (λc d=>lX c λc h=>St 1 d (pt e) c λc=>St 1 c (pt g) h λc=>jZ zQ a 250 #[(pt b),(pt e),(pt g)] c λa=>Ld a (pt e) λb=>Ld a (pt g) λc=>rt f (tP b c) a) Ou
theorem JL(h:L178 g a0 a1 a2 H R):sc g 178 #[a0,a1,a2] H R:=
 AD (hn:=(zA (zA .e))) func178 h zK
def L179:Y3:=λ_ a b c d e=>lU a (λf=>(lV d b f)) λf=>lO (Value.bool f) (λb=>Un .not a λa=>cm a true (λa=>(lV d c a)) (λa=>vF=Value.bool a) λa=>∀_:Fr,
(lV d (Value.bool a) b)) λb=>rt e (Value.bool b) d
theorem JK:qD L179 179:=λh=>sd (zA (zB (zF 0 [] [1]))) func179 h
def L180:Y2:=λa b c d e=>jB (λf g=>Br f (rt e (tP (wi 0) vF) g) (oL (wi 1) c λf=>rt e (tP f vT) g)) λf=>lL c i0 λg=>Split g false (ae .ptr .neq b (.pointer none) λg=>Split g true (CR e a 185 #[b] d λa b=>oG c a λa=>aD vT a vF λa=>aD vF vT a λa=>JE f [a] b) (aD vF undef vF λa=>aD vF vT a λa=>JE f [a] d)) (aD vT vT undef λa=>JE f [a] d)
theorem JJ:qC L180 180:=λh=>sd (zA (zB (zF 1 [17] [1]))) func180 h
def L181:Y3:=λa b c d e f=>oP b λg=>Br g (rt f (iv 10) e) (CR f a 185 #[b] e λe g=>oR c e λc=>lN c (wi 0) λc=>Br c (rt f (iv 2) g) (aR d λc=>yA [i0] g λe g h i=>lL h c λc=>Br c (lI 1 d h i λc=>CR f a 249 #[b,c] i λa b=>lX a λa c=>lQ 3 b nC 226 a λ_ a=>lN c i0 λb=>Br b (rt f (iv 3) a) (lA h i1 λb=>aC e g [b] a [h] i)) (rt f i0 i)))
theorem JI:qD L181 181:=λh=>sd (hN 3 (zB (zA (zB (zF 0 [20] [0,18,19]))))) func181 h
def L182:Y3:=λ_ a b c d e=>lN c i0 λf=>Br f (rt e (tP (ui 0) c) d) (Un .not b λb=>Br b (rt e (tP (ui 0) (iv 8)) d) (rt e (tP a i0) d))
theorem qz:qD L182 182:=λh=>sd .e func182 h
def L183:Y4:=λa b c d e f g=>lK f c 110 λc f=>lK f d 3 λd f=>lK f e 4 λe f=>CR g a 256 #[b,(.func (.func 257) #[] #[(pt c),(pt d),(pt e)])] f λa b=>lX a λc d=>Ext 2 a λa=>rt g (.tuple #[c,d,a]) b
theorem JH:qE L183 183:=λh=>sd .e func183 h
def L184:Y4:=λa b c d e f g=>az zQ 194 1 [(0,c)] f λf h=>CR g a 181 #[b,d,f] h λf h=>lN f i0 λi=>Br i (rt g (tP (ui 0) f) h) (lE d (wi 0) λf=>Br f (CR g a 141 #[b,c] h λf i=>lN f i0 λj=>Br j (rt g (tP (ui 0) f) i) (rt g (tP c i0) i)) (CR g a 185 #[b] h λf h=>∃(i:Jt) (j:Mt),JE i [c,vF,i0] h/\∀c h k:zV,∀l:Hp,i [c,h,k] l->∀_:Fr,
lL k f λf=>Br f (jC (λf m n=>lA k i1 λo=>aC i j [f,m,o] n [c,h,k] l) λf=>oR d k λd=>oA d (wi 1) λd=>lE d (wi 0) λd=>Br d (JE f [c,h] l) (CR g a 260 #[b,c,k,e] l λd e=>lX d λi j=>Ext 2 d λd=>CR g a 182 #[i,j,d] e λd e=>lX d λd i=>jA (λj=>lN i i0 λk=>Br k (rt g (tP (ui 0) i) j) (JE f [d,vT] j)) λd=>Br h (CR g a 142 #[b,c] e λ_ a=>JE d [] a) (JE d [] e))) (rt g (tP c i0) l)))
theorem JG:qE L184 184:=λh=>sd (hN 4 (zB (zA (zB (zE 0 [12,13,37] [0,2,3,36] (zA (zA (zE 1 [12,13] [0,2,3,36,37] (zB (hN 3 (zF 1 [] [0,2,3,15,16,36,37]))))))))))) func184 h
def L185:Y1:=λ_ a b c=>oP a λd=>Br d (rt c i0 b) (lM 4 a b λa=>rt c a b)
theorem JF:qB L185 185:=λh=>sd .e func185 h
def L186:Y2:=λ_ a b c d=>oP a λa=>Br a (rt d (iv 10) c) (lL b (iv 100) λa=>lO a (λa=>lG b (iv 1000) λb=>(lV c b a)) λa=>Br (Value.bool a) (rt d i1 c) (rt d i0 c))
theorem JD:qC L186 186:=λh=>sd (zA (zB (zB (zA (zA (zB (zF 0 [] [1]))))))) func186 h
def L187:Y1:=λa b c d=>oP b λe=>Br e (rt d sZ c) (CR d a 261 #[] c λc e=>CR d a 185 #[b] e λe f=>yA [i0] f λf g h i=>lL h e λe=>Br e (CR d a 262 #[b,h] i λb e=>lX b λb _=>Un .neg b λb=>CR d a 263 #[c,h,b] e λ_ b=>lA h i1 λe=>aC f g [e] b [h] i) (yA [sZ] i λb e f g=>CR d a 264 #[c] g λh i=>lG h i0 λh=>Br h (CR d a 265 #[c] i λa c=>lX a λh _=>Ext 2 a λ_=>az zQ 43 1 [(0,h)] c λa c=>App zQ 3 1 8 i0 c f a λa c=>aC b e [a] c [f] g) (rt d f i)))
theorem JC:qB L187 187:=λh=>sd (hN 3 (.n (zA (zB (zF 0 [16] [0,3,15]))) (zA (zB (zB (zF 0 [7] [3])))))) func187 h
def L188:Y3:=λa b c d e f=>lW e #[i0,i0,i0,vF] 147 λe g=>CR f a 186 #[b,d] g λg h=>lN g i0 λi=>Br i (Build zQ 147 [] λi=>St 4 h (pt e) i λi=>ax 4 i (pt e) λj=>rt f (tP j g) i) (CR f a 150 #[b,c] h λc g=>lX c λc h=>lN h i0 λi=>Br i (Build zQ 147 [] λi=>St 4 g (pt e) i λi=>ax 4 i (pt e) λj=>rt f (tP j h) i) (CR f a 140 #[b] g λg h=>Build zQ 147 [(0,g)] λg=>lQ 4 h #[i0,i0,i0,vF] 147 g λg h=>lD 0 (pt g) h λi=>Build zQ 324 [(0,b),(1,c),(2,i),(3,c),(4,d)] λd=>lK h d 324 λd h=>CR f a 185 #[b] h λh i=>lS h i1 λh=>lS h c λh=>oQ h c λh=>CR f a 266 #[(pt d),h] i λ_ i=>CR f a 267 #[(pt d)] i λ_ i=>CR f a 268 #[(pt d),c] i λ_ i=>lM 3 (pt d) i λj=>Un .not h λk=>CR f a 266 #[(pt d),k] i λ_ i=>CR f a 267 #[(pt d)] i λ_ i=>jA (λk=>DR k λl=>lM 5 (pt d) l λm=>∀n:Hp,
CN (a.add n) 140 #[b] k λb k=>aL k l/\
ai 1 (pt g) λn=>∀_:Hp,
St 1 k n b λb=>aL b l/\
ai 2 (pt g) λk=>∀_:Hp,
St 1 b k m λb=>ax 4 b (pt g) λg=>St 4 b (pt e) g λb=>ax 4 b (pt e) λe=>rt f (tP e i0) b) λb=>lM 3 (pt d) i λe=>lN e j λe=>Br e (lM 3 (pt d) i λe=>CR f a 268 #[(pt d),e] i λ_ e=>JE b [] e) (CR f a 268 #[(pt d),c] i λ_ c=>CR f a 266 #[(pt d),h] c λ_ c=>∃(e:Jt) (f:Mt),JE e [] c/\∀c:Hp,e [] c->∀_:Fr,
jB (λg h=>Br g (aC e f [] h [] c) (JE b [] h)) λb=>DR c λe=>lM 1 (pt d) e λf=>lM 3 (pt d) e λg=>lN f g λf=>Br f (lM 7 (pt d) e λd=>∀e:Hp,
aK zQ (a.add e) d #[] c (λa d=>lE a i0 λa=>aD vT a vF λa=>JE b [a] d) fK) (JE b [vF] c))))
theorem JB:qD L188 188:=λh=>sd (hN 13 (.h 1 [] [0,6,11,12] (hN 4 (zB (zE 0 [] [0,6,11,12] (zB (zE 1 [102] [0,6,11,12] (zE 1 [] [] (hr 0 [1] 0 9 (.h 2 [9] [] (hr 0 [1] 10 7 .e) (hr 0 [1] 10 6 (zF 3 [16] [1])))))))))) (zB (zE 1 [] [] (zE 0 [0] [1] (hr 0 [1] 2 4 (zE 0 [1] [1] (hr 0 [1] 6 4 .e)))))))) func188 h
def L189:Y2:=λ_ a b c d=>oP a λa=>Br a (rt d (iv 10) c) (lL b (iv 2) λa=>lO a (λa=>lG b (iv 4) λb=>(lV c b a)) λa=>Br (Value.bool a) (rt d i1 c) (rt d i0 c))
theorem JA:qC L189 189:=λh=>sd (zA (zB (zB (zA (zA (zB (zF 0 [] [1]))))))) func189 h
def L190:Y2:=λa b c d e=>lK d b 85 λb d=>DR d λf=>Ld f (pt b) λg=>Ld f (pt b) λh=>CN a 140 #[g] d λd g=>aL g f/\
CN a 140 #[h] g λg h=>aL h f/\
Build zQ 147 [(0,d),(1,g)] λd=>Build zQ 252 [(1,d)] λd=>lK h d 252 λd g=>aL g f/\
CR e a 269 #[c] g λa c=>lX a λa _=>lQ 1 c #[sZ] 43 a λa c=>lC 0 (pt d) λf=>St 1 c f (.func (.func 270) #[] #[(pt b),(pt a)]) λa=>rt e (pt d) a
theorem Jz:qC L190 190:=λh=>sd (zA (zB (zF 0 [0,2,1,3,4,5,6,7] []))) func190 h
def L191:Y3:=λa b c d e f=>yA [i0] e λe g h i=>lA h d λd=>CR f a 185 #[c] i λj k=>oQ d j λd=>Br d (CR f a 274 #[b,c,h] k λ_ a=>lA h i1 λb=>aC e g [b] a [h] i) (rt f (.tuple #[]) k)
theorem Jy:qD L191 191:=λh=>sd (zA (zB (zF 0 [6] [0,1,2]))) func191 h
def L192:Y1:=λ_ a b c=>oP a λd=>Br d (rt c sZ b) (lC 0 a λa=>ai 3 a λa=>Ld b a λa=>aR a λd=>yB [sZ,i0] b λb e f g h=>lL g d λd=>Br d (jB (λd i=>lA g i1 λj=>aC b e [d,j] i [f,g] h) λb=>lI 1 a g h λa=>lG a (Value.int .i32 0) λa=>Br a (aV .u32 g λa=>az zQ 194 1 [(0,a)] h λa d=>App zQ 110 1 4 (ui 0) d f a λa d=>JE b [a] d) (JE b [f] h)) (rt c f h))
theorem Jx:qB L192 192:=λh=>sd (hN 3 (zB (zA (zB (zE 0 [3,14] [12,13] (zA (zA (zF 1 [3] [12,13,14])))))))) func192 h
def L193:Y2:=λa b c d e=>lW d #[i0,sZ] 116 λd f=>az zQ 194 1 [(0,c)] f λf g=>CR e a 200 #[b,f] g λf g=>lN f i0 λh=>Br h (Build zQ 116 [] λh=>St 2 g (pt d) h λh=>ax 2 h (pt d) λi=>rt e (tP i f) h) (CR e a 185 #[b] g λf g=>lQ 1 g #[i0] 3 f λf g=>Ld g (pt f) λh=>lG h (iv 16) λh=>Br h (Build zQ 116 [] λh=>St 2 g (pt d) h λh=>ax 2 h (pt d) λi=>rt e (tP i (iv 6)) h) (Ld g (pt f) λh=>CR e a 275 #[h,vF] g λg h=>lX g λg _=>lQ 2 h #[i0,sZ] 116 g λg h=>Ld h (pt f) λi=>CR e a 275 #[i,vT] h λh i=>lX h λh _=>lQ 2 i #[i0,sZ] 116 h λh i=>ax 2 i (pt g) λg=>ax 2 i (pt h) λh=>CR e a 276 #[b,c,g,h,(.func (.func 277) #[] #[(pt f)])] i λa b=>St 2 b (pt d) a λa=>ax 2 a (pt d) λb=>rt e (tP b i0) a))
theorem Jw:qC L193 193:=λh=>sd .e func193 h
def L194:Y1:=λa b c d=>CR d a 280 #[b] c λb c=>lX b λb e=>lN e i0 λf=>Br f (rt d (.tuple #[i0,sZ,e]) c) (lM 1 b c λe=>lG e (iv 12) λe=>Br e (rt d (.tuple #[i0,sZ,(iv 6)]) c) (yB [sZ,i0] c λc e f g h=>aR f λi=>lM 1 b h λj=>lL i j λi=>Br i (lM 1 b h λi=>∃(j:Jt) (k:Mt),JE j [f,g,i0] h/\∀l m n:zV,∀o:Hp,j [l,m,n] o->∀_:Fr,
lL n i λi=>Br i (jB (λi p=>Br i (az zQ 43 1 [(0,n)] p λi q=>App zQ 3 1 8 i0 q l i λi q=>oL i1 n λr=>oO m r λr=>aC c e [i,r] q [f,g] h) (lA n i1 λi=>aC j k [l,m,i] p [l,m,n] o)) λi=>DR o λ_=>oR m n λj=>oA j i1 λj=>lE j i0 λj=>Br j (oL i1 n λj=>oO m j λj=>∀k:Hp,
CN (a.add k) 281 #[b,m,n] o λk n=>∀p:Hp,
CN (a.add p) 282 #[b,j] n λj n=>lA k j λj=>∀k:Hp,
CN (a.add k) 282 #[b,m] n λk n=>lE j k λj=>aD vT j vF λj=>JE i [j] n) (JE i [vF] o)) (aC c e [l,m] o [f,g] h)) (CR d a 282 #[b,i0] h λa b=>rt d (.tuple #[a,f,i0]) b)))
theorem Jv:qB L194 194:=λh=>sd (hN 6 (zB (zB (zE 0 [7,8] [5] (zA (zB (zA (zB (zE 0 [7,8,34] [5,33] (zA (zA (zB (zB (zA (zE 1 [58] [5,7,8,9,33,34] (zE 1 [] [] (hr 0 [] 0 5 (.h 2 [5] [] (hr 0 [] 6 3 (hr 0 [] 10 5 (hr 0 [] 17 2 (zE 0 [9] [] (hr 0 [] 15 2 (hr 0 [] 19 3 .e)))))) (hr 0 [] 6 15 (zF 3 [21] [])))))))))))))))))))) func194 h
variable {g:Gh} {a0 a1 a2 a3 a4 a5 a6 a7 a8 a9 tR tQ a12 a13 a14 a15:zV} {H:Hp} {R:Rt}
def L195:Y2:=λa b c d e=>oP b λf=>Br f (rt e (tP i0 (iv 10)) d) (jB (λf g=>Br f (rt e (tP i0 (iv 4)) g) (CR e a 65 #[b] g λf g=>CR e a 284 #[f,c] g λf g=>lX f λf h=>lN h i0 λi=>Br i (rt e (tP i0 h) g) (CR e a 285 #[b,f] g λf g=>lX f λf h=>rt e (tP f h) g))) λf=>CR e a 283 #[c] d λd g=>lN d i0 λd=>Split d false (aR c λc=>CR e a 185 #[b] g λa b=>lN c a λa=>aD vF vT a λa=>JE f [a] b) (aD vT vT undef λa=>JE f [a] g))
theorem Ju:qC L195 195:=λh=>sd (zA (zA (zB (zF 1 [19] [0,1])))) func195 h
def L196:Y1:=λ_ a b c=>oP a λd=>Br d (rt c i0 b) (lM 3 a b λa=>rt c a b)
theorem Js:qB L196 196:=λh=>sd .e func196 h
def L197:Y2:=λa b c d e=>lM 0 b d λb=>CR e a 286 #[b,c] d λa b=>lX a λa c=>lQ 3 b nC 226 a λ_ a=>lE c i0 λb=>rt e b a
theorem Jr:qC L197 197:=λh=>sd .e func197 h
def L198:Y2:=λ_ a b c d=>oP a λe=>lO e (λe=>aV .i64 b λf=>lC 0 a λg=>ai 3 g λg=>Ld c g λg=>aR g λg=>oG f g λf=>(lV c f e)) λe=>Br (Value.bool e) (rt d i0 c) (lC 0 a λa=>ai 3 a λa=>Ld c a λa=>lI 1 a b c λa=>aV .i64 a λa=>rt d a c)
theorem Jq:qC L198 198:=λh=>sd (zA (zB (zB (zF 0 [] [1])))) func198 h
def L199:Y2:=λa b c d e=>az zQ 194 1 [(0,c)] d λc d=>yA [c] d λc d f g=>aR f λh=>lG h i0 λh=>Br h (aR f λh=>lS h i1 λh=>lI 1 f h g λi=>gy 1 f none (some h) λh=>oQ i (ui 1) λj=>Br j (aC c d [h] g [f] g) (lM 2 b g λj=>lI 1 j i g λk=>lS k (Value.int .i32 1) λk=>au 1 j i λj=>St 1 g j k λj=>lM 2 b j λk=>lI 1 k i j λk=>lG k (Value.int .i32 0) λk=>Br k (aC c d [h] j [f] g) (CR e a 287 #[b,i] j λj k=>lQ 3 k nC 226 j λj k=>DR k λl=>lM 1 b l λm=>ax 3 l (pt j) λl=>CN a 288 #[m,l] k λ_ k=>lM 0 b k λb=>CR e a 289 #[b,i] k λ_ a=>lD 1 (pt j) a λb=>lD 2 (pt j) a λi=>az zQ 194 2 [(0,b),(1,i)] a λa b=>App zQ 110 1 4 (ui 0) b h a λa b=>aC c d [a] b [f] g))) (rt e (.tuple #[]) g)
theorem Jp:qC L199 199:=λh=>sd (zA (zB (zE 0 [4] [0] (zA (zB (hN 6 (zB (zF 0 (yR 6) [])))))))) func199 h
def L200:Y2:=λa b c d e=>oP b λf=>Br f (rt e (iv 10) d) (aR c λf=>yA [i0] d λd g h i=>lL h f λf=>Br f (lI 1 c h i λc=>CR e a 249 #[b,c] i λa b=>lX a λa c=>lQ 3 b nC 226 a λ_ a=>lN c i0 λb=>Br b (rt e c a) (lA h i1 λb=>aC d g [b] a [h] i)) (rt e i0 i))
theorem Jo:qC L200 200:=λh=>sd (zA (zA (zB (zA (zB (zF 0 [13] [0,11,12])))))) func200 h
def L201:Y1:=λ_ a b c=>lE a (ui 0) λd=>lO d (λd=>lE a (ui 1) λa=>(lV b a d)) λd=>rt c (Value.bool d) b
theorem Jn:qB L201 201:=λh=>sd (zA (zB (zF 0 [] [1]))) func201 h
def L202:Y2:=λa b c d e=>lW d nC 226 λd f=>CR e a 249 #[b,c] f λa b=>lX a λa _=>lQ 3 b nC 226 a λa b=>ax 3 b (pt a) λa=>St 3 b (pt d) a λa=>ax 3 a (pt d) λb=>rt e b a
theorem Jm:qC L202 202:=λh=>sd .e func202 h
def L203:Y2:=λa b c d e=>CR e a 201 #[b] d λd f=>Br d (Ld f c λd=>CR e a 185 #[d] f λd g=>rt e d g) (DR f λd=>Ld d c λg=>Ld d c λc=>∀h:Hp,
CN (a.add h) 202 #[c,b] f λb c=>aL c d/\
An 0 b λb=>∀f:Hp,
CN (a.add f) 150 #[g,b] c λa b=>aL b d/\
lX a λa _=>rt e a b)
theorem Jl:qC L203 203:=λh=>sd (zA (zA (zB (zE 1 [] [] (hr 0 [1] 0 11 .e))))) func203 h
def L204:Y5:=λa b c d e f g h=>lK g b 85 λb g=>lK g f 265 λf g=>gH g λg i=>aW (.int .u32) i g (ui 0) d λd=>aW (.int .u32) d g (ui 1) e λd=>lQ 1 d #[(.map none)] 349 g λd e=>lW e #[.nilFunc] 350 λe g=>St 1 g (pt e) (.func (.func 290) #[] #[(pt d),(pt b),(pt f),(pt e)]) λb=>Ld b (pt e) λd=>aK zQ a d #[c] b (λa b=>rt h a b) (dy h)
theorem Jk:qF L204 204:=λh=>sd .e func204 h
def L205:Y5:=λa b c d e f g h=>lK g b 226 λb g=>Ld g e λe=>lD 0 (pt b) g λi=>CR h a 150 #[e,i] g λe g=>lX e λe _=>DR g λi=>Ld i f λj=>lD 1 (pt b) i λk=>Ld i f λf=>lD 2 (pt b) i λb=>∀l:Hp,
aK zQ (a.add l) j #[k] g (λg j=>aL j i/\
lS g e λg=>lS g i1 λg=>oL c g λc=>∀g:Hp,
aK zQ (a.add g) f #[b] j (λa b=>lS a e λa=>lS a i1 λa=>oL d a λa=>lA c a λa=>rt h a b) fK) fK
theorem Jj:qF L205 205:=λh=>sd (zA (zA (zB (zE 1 [] [] (hr 0 [1] 0 4 (zE 0 [5] [1] (hr 0 [1] 9 4 (zE 0 [14] [1] (zE 0 [4] [1] (hr 0 [1] 6 3 (zE 0 [13] [1] (hr 0 [1] 15 5 .e)))))))))))) func205 h
def L206:Y3:=λa b c d e f=>lK e b 85 λb e=>lK e d 267 λd e=>gH e λe g=>lQ 1 g #[(.map none)] 351 e λe g=>lW g #[.nilFunc] 261 λg h=>St 1 h (pt g) (.func (.func 291) #[] #[(pt e),(pt b),(pt d),(pt g)]) λb=>aR c λd=>yA [i0] b λb e h i=>lL h d λd=>Br d (lI 1 c h i λc=>Ld i (pt g) λd=>aK zQ a d #[c] i (λ_ a=>lA h i1 λc=>aC b e [c] a [h] i) (dy f)) (rt f (.tuple #[]) i)
theorem Ji:qD L206 206:=λh=>sd (hN 5 (zB (zF 0 [14] [7,12,13]))) func206 h
def L207:Y2:=λ_ a b c d=>lK c a 226 λ_ a=>Ld a b λc=>lA c i1 λc=>St 1 a b c λa=>rt d (.tuple #[]) a
theorem Jh:qC L207 207:=λh=>sd .e func207 h
def L208:Y3:=λa b c d e f=>CR f a 292 #[b,c] e λe g=>lN e i0 λh=>Br h (rt f (tP (wi 0) e) g) (CR f a 293 #[b,c] g λb c=>CR f a 294 #[b] c λc e=>CR f a 295 #[c,d] e λc e=>Un .not c λc=>Br c (rt f (tP (wi 0) (iv 10)) e) (lM 0 b e λc=>lS c i1 λc=>yB [d,c] e λc d e g h=>oG g i0 λi=>Br i (jB (λi j=>lS g i1 λk=>aC c d [i,k] j [e,g] h) λc=>CR f a 296 #[b,g,(wi 0)] h λ_ d=>CR f a 294 #[b] d λd i=>lQ 2 i #[(wi 0),vF] 356 d λd i=>ax 2 i (pt d) λj=>CR f a 295 #[j,e] i λi j=>Un .not i λi=>Br i (lD 0 (pt d) j λd=>lS e d λd=>CR f a 296 #[b,g,(wi 1)] j λ_ a=>JE c [d] a) (JE c [e] j)) (lM 5 b h λa=>rt f (tP a i0) h)))
theorem xC:qD L208 208:=λh=>sd (hN 4 (zB (zA (zB (zE 0 [2,10] [9] (zA (zF 1 [2] [9,10]))))))) func208 h
def L209:Y2:=λ_ a b c d=>lK c a 226 λa c=>DR c λe=>Ld e b λf=>lD 0 (pt a) e λa=>oL (wi 1) a λa=>oO f a λa=>∀_:Hp,
St 1 c b a λa=>rt d (.tuple #[]) a
theorem Jg:qC L209 209:=λh=>sd (zA (zE 1 [] [] (hr 0 [1] 0 6 .e))) func209 h
def L210:Y2:=λ_ a b c d=>oG b i0 λe=>lU e (λe=>lM 4 a c λa=>lL b a λa=>(lV c a e)) λe=>rt d (Value.bool e) c
theorem Jf:qC L210 210:=λh=>sd (zA (zB (zF 0 [] [1]))) func210 h
def L211:Y2:=λa b c d e=>lM 5 b d λf=>lI 1 f c d λf=>lM 5 b d λg=>lA c i1 λh=>lI 1 g h d λg=>CR e a 297 #[b,f,g] d λd h=>DR h λ_=>lC 0 b λi=>CN a 298 #[b,f,d] h λh j=>CN a 245 #[i,h] j λh i=>Un .not h λh=>Br h (rt e vF i) (aR d λh=>yA [i0] i λi j k l=>lL k h λh=>Br h (au 8 d k λh=>ax 8 l h λh=>lQ 8 l #[(ui 0),i0,(ui 0),(ui 0),(ui 0),(ui 0),(ui 0),(ui 0)] 367 h λh m=>DR m λn=>lC 0 b λo=>ai 1 o λo=>Ld n o λo=>ai 1 (pt h) λh=>ax 3 n h λh=>CN a 288 #[o,h] m λ_ h=>lA k i1 λm=>aC i j [m] h [k] l) (aR d λh=>yA [i0] l λi j k l=>lL k h λh=>Br h (au 8 d k λh=>ax 8 l h λh=>lQ 8 l #[(ui 0),i0,(ui 0),(ui 0),(ui 0),(ui 0),(ui 0),(ui 0)] 367 h λh m=>DR m λn=>lC 0 b λo=>lD 4 (pt h) n λp=>lD 6 (pt h) n λn=>CN a 299 #[o,f,p,n] m λm n=>lC 0 b λo=>CR e a 300 #[o,m] n λ_ n=>DR n λo=>lC 0 b λp=>lD 5 (pt h) o λq=>lD 7 (pt h) o λo=>CN a 299 #[p,f,q,o] n λn o=>lC 0 b λp=>CR e a 300 #[p,n] o λ_ o=>Build zQ 226 [(0,g),(1,m),(2,n)] λm=>lQ 3 o nC 226 m λm n=>DR n λo=>lC 0 b λp=>ai 0 p λp=>Ld o p λp=>lD 0 (pt h) o λq=>ax 3 o (pt m) λo=>CN a 301 #[p,q,o] n λ_ n=>DR n λo=>lC 0 b λp=>ai 1 p λp=>Ld o p λp=>ax 3 o (pt m) λm=>lD 0 (pt h) o λh=>CN a 302 #[p,m,h] n λ_ h=>lA k i1 λm=>aC i j [m] h [k] l) (aR d λh=>yA [i0] l λi j k l=>lL k h λh=>Br h (au 8 d k λd=>ax 8 l d λd=>lQ 8 l #[(ui 0),i0,(ui 0),(ui 0),(ui 0),(ui 0),(ui 0),(ui 0)] 367 d λd h=>DR h λm=>lC 0 b λn=>ai 1 (pt d) λo=>ai 1 o λo=>Ld m o λm=>CN a 199 #[n,m] h λ_ h=>DR h λm=>lC 0 b λn=>ai 1 (pt d) λd=>ai 2 d λd=>Ld m d λd=>CN a 199 #[n,d] h λ_ a=>lA k i1 λd=>aC i j [d] a [k] l) (DR l λa=>lM 5 b a λd=>lM 5 b a λa=>lA c i1 λh=>au 1 d c λd=>St 1 l d g λd=>au 1 a h λa=>St 1 d a f λa=>DR a λd=>lM 6 b d λh=>lM 6 b d λb=>lA c i1 λd=>au 1 h f λf=>St 1 a f d λa=>au 1 b g λb=>St 1 a b c λa=>rt e vT a))))
theorem Je:qC L211 211:=λh=>sd (hN 3 (.n (zB (zF 0 (yR 9) [])) (.n (zA (zB (zE 0 [47] [0,1,5,6,7,45,46] (zA (zA (zB (zB (zA (zF 0 (yR 8) []))))))))) (.n (zA (zB (zE 0 [62] [0,1,5,6,7,60,61] (zA (zA (zB (zB (zA (.n (zF 0 (yR 10) []) (zA (.n (zF 0 (yR 10) []) (zA (zA (.n (zF 0 (yR 9) []) (zF 0 (yR 9) []))))))))))))))) (.n (zA (zB (zE 0 [119] [0,1,5,6,117,118] (zA (zA (zB (zB (zA (.n (zF 0 (yR 7) []) (zF 0 (yR 7) [])))))))))) (.n (zF 0 (yR 17) []) (zB (zF 0 (yR 17) [])))))))) func211 h
def L222:Y1:=λ_ a b c=>jC (λd e f=>jC (λg h i=>jC (λj k l=>aV .u8 j λj=>XV (.string  zX) j λj=>aV .i64 j λj=>lA k j λj=>rt c j l) λc=>oG g (wi 256) λj=>Br j (oR g (wi 8) λj=>lA h (iv 8) λk=>JE c [j,k] i) (JE c [g,h] i)) λc=>oG d (wi 65536) λg=>Br g (oR d (wi 16) λg=>lA e (iv 16) λh=>JE c [g,h] f) (JE c [d,e] f)) λc=>oG a (wi 4294967296) λd=>Br d (oR a (wi 32) λd=>JE c [d,(iv 32)] b) (JE c [a,i0] b)
theorem Jd:qB L222 222:=λh=>sd (zA (.h 1 [0,2] [] .e (.h 1 [0,2] [] .e (zF 1 [0,2] [])))) func222 h
def L243:Y4:=λa b c d e f g=>CR g a 210 #[b,c] f λf h=>Un .not f λf=>Br f (rt g (iv 2) h) (jB (λf i=>Br f (rt g (iv 3) i) (jB (λf j=>Br f (rt g (iv 4) j) (rt g i0 j)) λf=>DR i λj=>lN d e λk=>Br k (lM 6 b j λk=>lI 1 k c j λc=>∀k:Hp,
CN (a.add k) 319 #[b,d] i λk l=>aL l j/\
∀m:Hp,
CN (a.add m) 319 #[b,e] l λl m=>aL m j/\
Z7 k l λj=>oG c j λc=>aD vT c vF λc=>JE f [c] m) (JE f [vF] i))) λc=>lC 0 b λf=>CR g a 197 #[f,d] h λd f=>Un .not d λd=>Split d false (lC 0 b λb=>CR g a 197 #[b,e] f λa b=>Un .not a λa=>aD vF vT a λa=>JE c [a] b) (aD vT vT undef λa=>JE c [a] f))
theorem Jc:qE L243 243:=λh=>sd (zA (zB (zB (zA (zA (.h 1 [14] [0,1,2,3] .e (zA (zE 1 [29] [] (zE 1 [] [] (hr 0 [] 0 3 (.h 2 [3] [] (hr 0 [] 4 9 (hr 0 [] 14 2 (zE 0 [13] [] (hr 0 [] 16 5 .e)))) (hr 0 [] 4 15 (hr 3 [] 19 2 .e))))))))))))) func243 h
def L244:Y4:=λa b c d e f g=>lE d e λh=>Br h (rt g (tP d vT) f) (lC 0 b λb=>ai 1 b λb=>Ld f b λb=>Build zQ 226 [(0,c),(1,d),(2,e)] λc=>CR g a 320 #[b,c] f λa b=>lX a λa c=>rt g (tP a c) b)
theorem Jb:qE L244 244:=λh=>sd .e func244 h
def L245:Y2:=λa b c d e=>DR d λf=>lM 0 b f λg=>lM 0 b f λb=>CN a 196 #[g] d λd g=>aL g f/\
lA d c λc=>CN a 321 #[b] g λa b=>aL b f/\
oQ c a λa=>rt e a b
theorem Ja:qC L245 245:=λh=>sd (zA (zB (zF 0 [0,1,2,3,5,7,8,9,10,4,6,11,12,13] []))) func245 h
def L246:Y2:=λa b c d e=>lK d c 226 λc d=>DR d λf=>lM 0 b f λg=>ax 3 f (pt c) λh=>CN a 322 #[g,h] d λd g=>aL g f/\
lX d λd _=>∃(f:Jt) (h:Mt),JE f [] g/\∀g:Hp,f [] g->∀_:Fr,
aV .i64 d λi=>lM 2 b g λj=>aR j λj=>oG i j λi=>Br i (lM 2 b g λi=>az zQ 135 1 [(0,(Value.int .i32 0))] g λj k=>App zQ 21 1 4 (Value.int .i32 0) k i j λi j=>lC 2 b λk=>St 1 j k i λi=>lM 3 b i λj=>az zQ 135 1 [(0,(Value.int .i32 0))] i λi k=>App zQ 21 1 4 (Value.int .i32 0) k j i λi j=>lC 3 b λk=>St 1 j k i λi=>aC f h [] i [] g) (DR g λf=>lM 2 b f λh=>lM 3 b f λf=>au 1 h d λh=>St 1 g h (Value.int .i32 0) λg=>au 1 f d λf=>St 1 g f (Value.int .i32 0) λf=>lD 1 (pt c) f λg=>CR e a 300 #[b,g] f λ_ f=>lD 2 (pt c) f λg=>CR e a 300 #[b,g] f λ_ f=>DR f λg=>lM 1 b g λb=>ax 3 g (pt c) λc=>CN a 302 #[b,c,d] f λ_ a=>rt e d a)
theorem I9:qC L246 246:=λh=>sd (zA (.n (zF 0 (yR 11) []) (.n (zB (zF 0 [] [0,3,5])) (.n (zF 0 (yR 14) []) (zA (zA (zB (zF 0 (yR 7) [])))))))) func246 h
def L247:Y4:=λa b c _ d e f=>DR e λg=>Ld g d λd=>CN a 248 #[b] e λb e=>aL e g/\
oM (bi 2) b λb=>CN a 248 #[c] e λa c=>aL c g/\
lA b a λa=>oR d a λa=>oA a (bi 1) λa=>lE a (bi 1) λa=>rt f a c
theorem I8:qE L247 247:=λh=>sd (zA (zB (zF 0 [0,1,4,2,3,5,6,7,8,9,10] []))) func247 h
def L248:Y1:=λ_ a b c=>Br a (rt c (bi 1) b) (rt c (bi 0) b)
theorem I7:qB L248 248:=λh=>sd .e func248 h
def L249:Y2:=λa b c d e=>lW d nC 226 λd f=>oP b λg=>Br g (Build zQ 226 [] λg=>St 3 f (pt d) g λg=>ax 3 g (pt d) λh=>rt e (tP h (iv 10)) g) (lC 0 b λg=>CR e a 197 #[g,c] f λf g=>Un .not f λf=>Br f (Build zQ 226 [] λf=>St 3 g (pt d) f λf=>ax 3 f (pt d) λh=>rt e (tP h (iv 3)) f) (lC 0 b λb=>CR e a 287 #[b,c] g λa b=>St 3 b (pt d) a λa=>ax 3 a (pt d) λb=>rt e (tP b i0) a))
theorem I6:qC L249 249:=λh=>sd .e func249 h
def L250:Y3:=λa b c d e f=>Ld e b λb=>Ld e c λg=>Ld e d λh=>CR f a 251 #[b,g,h] e λa b=>lX a λa e=>St 1 b c a λa=>St 1 a d e λa=>rt f (.tuple #[]) a
theorem Et(h:L250 g a0 a1 a2 H R):kL zQ g 250 #[a0,a1,a2] H R:=
 AE (hn:=.e) func250 h zK
def L251:Y3:=λa b c d e f=>lE c (ui 0) λg=>lO g (λg=>lE c (ui 1) λh=>(lV e h g)) λg=>lM 2 b e λh=>aR h λi=>yB [(Value.bool g),i0] e λe g j k l=>lL k i λi=>Br i (jB (λi m=>lA k i1 λn=>aC e g [i,n] m [j,k] l) λe=>lI 1 h k l λg=>lE g c λh=>lU h (λh=>Un .not j λi=>(lV l i h)) λh=>lU (Value.bool h) (λh=>lE d i0 λi=>(lV l i h)) λh=>Br (Value.bool h) (JE e [vT] l) (lM 0 b l λh=>CR f a 142 #[h,g] l λ_ g=>JE e [j] g)) (lC 2 b λe=>St 1 l e sZ λe=>jA (λg=>rt f (tP c i0) g) λg=>lN d i0 λh=>Br h (rt f (tP (ui 0) d) e) (Un .not j λd=>Br d (rt f (tP (ui 0) (iv 8)) e) (lE c (ui 0) λd=>lO d (λd=>lE c (ui 1) λh=>(lV e h d)) λd=>Br (Value.bool d) (lM 0 b e λb=>CR f a 141 #[b,c] e λ_ a=>JE g [] a) (JE g [] e))))
theorem I5:qD L251 251:=λh=>sd (zA (.n (zF 0 [] [1]) (.n (zA (zB (zE 0 [8,22] [0,1,2,20,21] (zA (zA (zE 1 [8] [0,1,2,20,21,22] (zB (zA (zB (zB (zF 0 [] [1]))))))))))) (zA (zE 1 [] [1] (zB (hN 4 (zB (zF 0 [] [1]))))))))) func251 h
def L252:Y5:=λa b c d e f g h=>lK g b 236 λb g=>Ld g c λi=>ax 3 g (pt b) λj=>jW zQ 236 (ui 0) true g i j λi=>lX i λi j=>Br j (rt h (tP i i0) g) (Ld g d λi=>ax 3 g (pt b) λj=>CR h a 253 #[i,j] g λg i=>Ld i d λj=>CR h a 254 #[j,g] i λi j=>lL i i0 λk=>Br k (Ld j e λe=>iY 3 1 (pt b) i0 λk=>Ld j k λk=>lE k (ui 1) λk=>iY 3 1 (pt b) i1 λl=>Ld j l λl=>lE l (ui 1) λl=>iY 3 1 (pt b) (iv 2) λm=>Ld j m λm=>lE m (ui 1) λm=>aK zQ a e #[k,l,m] j (λe k=>Br e (rt h (tP (ui 1) i0) k) (rt h (tP (ui 0) i0) k)) (dy h)) (DR j λe=>ax 3 e (pt b) λk=>ax 3 e (pt b) λl=>lW j #[(ui 0),(ui 0),(ui 0)] 236 λj m=>lW m #[(ui 0),(ui 0),(ui 0)] 236 λm n=>∀_:Hp,
St 3 n (pt j) k λk=>aL k e/\
∀_:Hp,
St 3 k (pt m) l λe=>aR g λk=>yA [i0] e λe l n o=>lL n k λk=>Br k (jA (λk=>lA n i1 λp=>aC e l [p] k [n] o) λe=>au 3 g n λg=>ax 3 o g λg=>lQ 3 o nC 226 g λg k=>lD 0 (pt g) k λl=>lE l i λl=>Br l (DR k λl=>lD 1 (pt g) l λp=>lD 2 (pt g) l λg=>iY 3 1 (pt j) n λq=>St 1 k q p λp=>aL p l/\
iY 3 1 (pt m) n λl=>St 1 p l g λg=>JE e [] g) (JE e [] k)) (Ld o f λe=>ax 3 o (pt j) λg=>aK zQ a e #[g] o (λe g=>lX e λe j=>lN j i0 λk=>Br k (rt h (tP (ui 0) j) g) (Ld g f λf=>ax 3 g (pt m) λj=>aK zQ a f #[j] g (λf g=>lX f λf j=>lN j i0 λk=>Br k (rt h (tP (ui 0) j) g) (Ld g d λd=>CR h a 255 #[d,i,e,f] g λa d=>lX a λa e=>jA (λf=>rt h (tP a e) f) λf=>lE e i0 λe=>Br e (Ld d c λc=>ax 3 d (pt b) λb=>iL zQ 236 d c b a λa=>JE f [] a) (JE f [] d))) (dy h))) (dy h))))
theorem xB:qF L252 252:=λh=>sd (hN 5 (.n (zE 1 [] [] (hr 0 [] 0 2 (hr 1 [] 2 2 (hr 0 [] 2 4 .e)))) (.n (zA (zB (zE 0 [51] [1,2,4,5,11,12,13,49,50] (zA (zA (zE 1 [] [1,2,4,5,11,12,13,49,50,51] (zB (zA (zA (zB (zF 0 (yR 10) []))))))))))) (hN 5 (zF 1 [] [17,19]))))) func252 h
def L253:Y2:=λa b c d e=>lK d c 236 λc d=>ax 3 d (pt c) λc=>yB [sZ,i0] d λd f g h i=>lL h (iv 3) λj=>Br j (m7 zQ a (fE Tryz.f253 4 0) (ev (λj=>cond (Nat.beq j 10) c (cond (Nat.beq j 11) h (undef)))) i λc=>lM 0 b i λb=>CR e a 249 #[b,c] i λa b=>lX a λa _=>lQ 3 b nC 226 a λa b=>ax 3 b (pt a) λa=>az zQ 309 1 [(0,a)] b λa b=>App zQ 226 3 16 (.agg nC) b g a λa b=>lA h i1 λc=>aC d f [a,c] b [g,h] i) (rt e g i)
theorem I4:qC L253 253:=λh=>sd (zA (zA (zB (zA (zB (zF 0 [5,11] [0,10])))))) func253 h
def L254:Y2:=λ_ a b c d=>aR b λe=>yB [(iv (-1)),i0] c λc f g h i=>lL h e λe=>Br e (jB (λe j=>lA h i1 λk=>aC c f [e,k] j [g,h] i) λc=>au 3 b h λb=>ax 3 i b λb=>lQ 3 i nC 226 b λb e=>lD 0 (pt b) e λf=>oG f i0 λf=>lU f (λf=>lL g i0 λh=>cm h false (λh=>lM 1 a e λj=>lD 0 (pt b) e λk=>lI 1 j k e λj=>lM 1 a e λa=>lI 1 a g e λa=>lL j a λa=>(lV e a h)) (λh=>vT=Value.bool h) λh=>∀_:Fr,
(lV e (Value.bool h) f)) λf=>Br (Value.bool f) (lD 0 (pt b) e λa=>JE c [a] e) (JE c [g] e)) (rt d g i)
theorem I3:qC L254 254:=λh=>sd (zA (zA (zB (zA (zB (zE 0 [5,10] [0,8,9] (zA (zA (zF 1 [5] [0,8,9,10]))))))))) func254 h
def L255:Y4:=λa b c d e f g=>lE d e λh=>Br h (rt g (tP d i0) f) (lM 0 b f λh=>CR g a 175 #[h,c,d,e] f λf h=>lX f λf i=>jA (λj=>rt g (tP (ui 0) i) j) λj=>lE i i0 λk=>Br k (lM 2 b h λk=>az zQ 194 1 [(0,f)] h λl m=>App zQ 110 1 4 (ui 0) m k l λk l=>lC 2 b λm=>St 1 l m k λk=>rt g (tP f i0) k) (lE i (iv 8) λf=>Br f (lM 0 b h λb=>CR g a 323 #[b,c,d,e] h λa b=>lX a λa c=>Br c (rt g (tP a i0) b) (JE j [] b)) (JE j [] h)))
theorem xA:qE L255 255:=λh=>sd (hN 3 (zF 1 [] [11])) func255 h
def L256:Y2:=λa b c d e=>lK d b 85 λb d=>Ld d (pt b) λf=>gH d λd g=>Build zQ 387 [(0,f),(1,d)] λd=>lK g d 387 λd f=>lQ 1 f #[(.pointer none)] 313 (pt d) λd f=>Ld f (pt b) λg=>CF a 141 #[g,(ui 1)] f (λ_ f=>Ld f (pt d) λg=>aK zQ a c #[g] f (λc f=>Ld f (pt d) λg=>lM 2 g f λg=>lN g i0 λg=>Br g (Ld f (pt d) λg=>lM 2 g f λg=>jZ zQ a 324 #[(pt d),(pt b)] f λh=>rt e (.tuple #[(ui 0),vF,g]) h) (Ld f (pt d) λg=>lM 1 g f λg=>c6 (.int .u32) i0 false f g c λg=>lG g i0 λg=>Br g (Ld f (pt d) λg=>lM 1 g f λg=>ot (.int .u32) f g c λg=>jZ zQ a 324 #[(pt d),(pt b)] g λg=>rt e (.tuple #[c,vT,i0]) g) (Ld f (pt b) λg=>CF a 141 #[g,c] f (λf g=>lE f i0 λf=>jZ zQ a 324 #[(pt d),(pt b)] g λa=>rt e (.tuple #[c,f,i0]) a) Ou))) Ou) Ou
theorem I2(h:L256 g a0 a1 H R):sc g 256 #[a0,a1] H R:=
 AD (hn:=(hN 4 .e)) func256 h zK
def L257:Y4:=λa b c d e f g=>Ld f c λc=>Ld f d λd=>CR g a 258 #[b,c,d,(.func (.func 259) #[] #[e])] f λa b=>rt g a b
theorem I1:qE L257 257:=λh=>sd .e func257 h
def L258:Y4:=λa b c d e f g=>lK f b 313 λb f=>lK f e 300 λe f=>Ld f (pt b) λh=>lM 0 h f λh=>CR g a 150 #[h,d] f λd f=>lX d λd _=>lQ 1 f #[i0] 3 d λd f=>gH f λf h=>lQ 1 h #[(.map none)] 388 f λf h=>lW h #[.nilFunc] 389 λh i=>St 1 i (pt h) (.func (.func 325) #[] #[(pt b),(pt d),(pt f),(pt e),(pt h)]) λb=>Ld b (pt h) λd=>aK zQ a d #[c] b (λa b=>rt g a b) (dy g)
theorem I0:qE L258 258:=λh=>sd .e func258 h
def L259:Y2:=λ_ a b c d=>lK c a 226 λa c=>Ld c b λb=>Br b (lD 2 (pt a) c λb=>rt d b c) (lD 1 (pt a) c λa=>rt d a c)
theorem IZ:qC L259 259:=λh=>sd .e func259 h
def L260:Y4:=λa b c d e f g=>lK f c 110 λc f=>lK f d 3 λd f=>lK f e 4 λe f=>CR g a 256 #[b,(.func (.func 328) #[] #[(pt c),(pt d),(pt e)])] f λa b=>lX a λc d=>Ext 2 a λa=>rt g (.tuple #[c,d,a]) b
theorem IY:qE L260 260:=λh=>sd .e func260 h
def L261:Y0:=λ_ a b=>Build zQ 395 [] λc=>lK a c 395 λa c=>rt b (pt a) c
theorem IX:qA L261 261:=λh=>sd .e func261 h
def L262:Y2:=λa b c d e=>oP b λf=>Br f (rt e (tP i0 (iv 10)) d) (CR e a 210 #[b,c] d λd f=>Un .not d λd=>Br d (rt e (tP i0 (iv 2)) f) (lC 0 b λb=>ai 1 b λb=>Ld f b λb=>CR e a 331 #[b,c] f λa b=>lX a λa c=>rt e (tP a c) b))
theorem IW:qC L262 262:=λh=>sd .e func262 h
def L263:Y3:=λa b c d e f=>oP b λg=>Br g (rt f (iv 10) e) (lM 1 b e λg=>c6 (.int .i64) i0 true e g c λg=>lX g λ_ g=>Br g (rt f (iv 11) e) (jA (λg=>lM 0 b g λh=>Build zQ 397 [(0,c),(1,d)] λc=>az zQ 393 1 [(0,c)] g λc d=>App zQ 397 2 16 (.agg #[i0,i0]) d h c λc d=>lC 0 b λg=>St 1 d g c λc=>lM 0 b c λd=>aR d λd=>lS d i1 λd=>CR f a 332 #[b,d] c λ_ a=>rt f i0 a) λa=>lM 1 b e λc=>ae .map .eql c (.map none) λc=>Br c (gH e λc d=>lC 1 b λb=>St 1 d b c λb=>JE a [] b) (JE a [] e)))
theorem IV:qD L263 263:=λh=>sd (hN 3 (zF 1 [] [0,1,2])) func263 h
def L264:Y1:=λ_ a b c=>oP a λd=>Br d (rt c i0 b) (lM 0 a b λa=>aR a λa=>rt c a b)
theorem IU:qB L264 264:=λh=>sd .e func264 h
def L265:Y1:=λa b c d=>oP b λe=>lO e (λe=>lM 0 b c λf=>aR f λf=>lE f i0 λf=>(lV c f e)) λe=>Br (Value.bool e) (rt d (.tuple #[i0,i0,(iv 10)]) c) (lM 0 b c λe=>au 2 e i0 λe=>ax 2 c e λe=>lQ 2 c #[i0,i0] 397 e λc e=>lM 0 b e λf=>aR f λf=>lS f i1 λf=>lM 0 b e λg=>au 2 g f λg=>ax 2 e g λg=>lQ 2 e #[i0,i0] 397 g λe g=>lM 0 b g λh=>gy 2 h none (some f) λh=>lC 0 b λi=>St 1 g i h λg=>DR g λh=>lM 1 b h λi=>lD 0 (pt c) h λh=>ot (.int .i64) g i h λg=>jA (λh=>lD 0 (pt c) h λi=>lD 1 (pt c) h λc=>rt d (.tuple #[i,c,i0]) h) λc=>lG f i0 λf=>Br f (ax 2 g (pt e) λe=>CR d a 333 #[b,i0,e] g λ_ e=>CR d a 334 #[b,i0] e λ_ a=>JE c [] a) (JE c [] g))
theorem xz:qB L265 265:=λh=>sd (zA (zA (.n (zB (zF 0 [] [1])) (hN 4 (.n (zF 0 (yR 7) []) (zF 1 [] [6])))))) func265 h
variable {g:Gh} {a0 a1 a2 a3 a4 a5 a6 a7 a8 a9 tR tQ a12 a13 a14 a15:zV} {H:Hp} {R:Rt}
def L266:Y2:=λa b c d e=>lK d b 321 λb d=>Br c (DR d λc=>Ld c (pt b) λf=>Ld c (pt b) λg=>lM 0 g c λg=>∀h:Hp,
CN (a.add h) 185 #[g] d λa g=>aL g c/\
lS a i1 λa=>lC 6 f λc=>∀_:Hp,
St 1 g c a λa=>Ld a (pt b) λc=>lC 7 c λc=>St 1 a c (.func (.func 335) #[] #[(pt b)]) λa=>rt e (.tuple #[]) a) (Ld d (pt b) λa=>lC 6 a λa=>St 1 d a i0 λa=>Ld a (pt b) λc=>lC 7 c λc=>St 1 a c (.func (.func 337) #[] #[(pt b)]) λa=>rt e (.tuple #[]) a)
theorem IT:qC L266 266:=λh=>sd (zA (zA (zB (zB (zE 1 [] [] (hr 0 [1] 0 10 .e)))))) func266 h
def L267:Y1:=λa b c d=>∃(e:Jt) (f:Mt),JE e [] c/\∀c:Hp,e [] c->∀_:Fr,
jB (λg h=>Br g (lM 0 b h λg=>CR d a 140 #[g] h λg i=>jA (λj=>oM g (iv 100) λk=>lM 2 b j λl=>lM 4 b j λm=>oM l m λl=>lG k l λk=>Br k (rt d (.tuple #[]) j) (aC e f [] j [] c)) λe=>lM 2 b i λf=>lL g f λf=>Br f (lM 1 b i λf=>lC 2 b λj=>St 1 i j g λg=>lC 3 b λj=>St 1 g j f λf=>JE e [] f) (JE e [] i)) (rt d (.tuple #[]) h)) λd=>DR c λe=>lM 1 b e λf=>lM 6 b e λg=>lN f g λf=>Br f (lM 7 b e λb=>∀e:Hp,
aK zQ (a.add e) b #[] c (λa b=>lE a i0 λa=>aD vT a vF λa=>JE d [a] b) fK) (JE d [vF] c)
theorem IS:qB L267 267:=λh=>sd (zB (zE 0 [] [0] (.n (zE 1 [19] [0] (zE 1 [] [] (hr 0 [1] 0 9 (.h 2 [9] [] (hr 0 [1] 10 7 .e) (hr 0 [1] 10 6 (zF 3 [16] [1])))))) (zB (zA (zF 1 [] [0,2])))))) func267 h
def L268:Y2:=λa b c d e=>∃(f:Jt) (g:Mt),JE f [] d/\∀d:Hp,f [] d->∀_:Fr,
lM 1 b d λh=>lN h c λc=>Br c (lM 0 b d λc=>CR e a 338 #[c] d λa c=>lX a λa _=>lM 5 b c λh=>lA h i1 λh=>lC 5 b λi=>St 1 c i h λc=>lM 1 b c λh=>lL a h λh=>Br h (lC 1 b λh=>St 1 c h a λh=>aC f g [] h [] d) (lA a i1 λa=>lC 1 b λb=>St 1 c b a λa=>aC f g [] a [] d)) (rt e (.tuple #[]) d)
theorem IQ:qC L268 268:=λh=>sd (zB (zF 0 [] [0,1])) func268 h
def L269:Y1:=λ_ a b c=>lE a (iv 2) λd=>Br d (az zQ 43 1 [(0,i0)] b λd e=>rt c (tP d i0) e) (lE a (iv 3) λd=>Br d (az zQ 43 5 [(0,i1),(1,i0),(2,i1),(3,i0),(4,i1)] b λd e=>rt c (tP d i0) e) (lE a (iv 4) λa=>Br a (az zQ 43 23 [(0,(iv 2)),(1,i1),(2,i0),(3,(iv 2)),(4,i0),(5,i1),(6,(iv 2)),(7,i0),(8,(iv 2)),(9,i1),(10,i0),(11,(iv 2)),(12,i0),(13,i1),(14,(iv 2)),(15,i0),(16,(iv 2)),(17,i1),(18,i0),(19,(iv 2)),(20,i0),(21,i1),(22,(iv 2))] b λa d=>rt c (tP a i0) d) (rt c (tP sZ i1) b)))
theorem IP:qB L269 269:=λh=>sd .e func269 h
def L270:Y3:=λa b c d e f=>DR e λg=>Ld g c λh=>Ld g c λi=>CN a 271 #[h] e λe h=>aL h g/\
CN a 140 #[i] h λh i=>aL i g/\
jC (λg j k=>Ld k c λl=>lA e g λe=>CR f a 273 #[l,e] k λe g=>lX e λe _=>lA j e λe=>rt f e g) λe=>Ld i d λd=>aR d λg=>∃(j:Jt) (k:Mt),JE j [h,i0,i0,i0] i/\∀h i l m:zV,∀n:Hp,j [h,i,l,m] n->∀_:Fr,
lL m g λg=>Br g (∀g:Jt,(∀o p q:zV,∀r:Hp,(∀_:Fr,
lA m i1 λs=>aC j k [o,p,q,s] r [h,i,l,m] n)->g [o,p,q] r)->lI 1 d m n λd=>Ld n c λc=>lA b d λb=>CR f a 272 #[c,b] n λa b=>lX a λa c=>lQ 3 b #[i0,i0,i0] 328 a λa b=>lN c i0 λc=>Br c (JE e [i,l] b) (lA l i1 λc=>lD 2 (pt a) b λd=>lL d h λd=>Br d (lD 2 (pt a) b λa=>JE g [a,c,c] b) (JE g [h,i,c] b))) (JE e [i,l] n)
theorem IN:qD L270 270:=λh=>sd (zA (.n (zF 0 [0,2,1,3,4,5,6,7] []) (zE 1 [7,8] [1,5] (zA (zB (zE 0 [6,7,8,21] [0,1,5,19,20] (zA (zA (zF 1 [6,7,8] [0,1,5,19,20,21]))))))))) func270 h
def L271:Y1:=λ_ a b c=>oP a λd=>Br d (rt c i0 b) (lM 7 a b λa=>aR a λa=>rt c a b)
theorem IM:qB L271 271:=λh=>sd .e func271 h
def L272:Y2:=λa b c d e=>lW d #[i0,i0,i0] 328 λd f=>CR e a 140 #[b] f λf g=>Build zQ 328 [(0,c),(1,f)] λf=>lQ 3 g #[i0,i0,i0] 328 f λf g=>CR e a 151 #[b,c] g λc g=>lN c i0 λh=>Br h (Build zQ 328 [] λh=>St 3 g (pt d) h λh=>ax 3 h (pt d) λi=>rt e (tP i c) h) (CR e a 140 #[b] g λa b=>ai 2 (pt f) λc=>St 1 b c a λa=>ax 3 a (pt f) λb=>St 3 a (pt d) b λa=>ax 3 a (pt d) λb=>rt e (tP b i0) a)
theorem xy:qC L272 272:=λh=>sd .e func272 h
def L273:Y2:=λa b c d e=>oP b λf=>Br f (rt e (tP i0 (iv 10)) d) (jB (λf g=>Br f (rt e (tP i0 i1) g) (yA [i0] g λf g h i=>CR e a 271 #[b] i λj k=>lG j c λj=>Br j (CR e a 338 #[b] k λ_ j=>lA h i1 λl=>aC f g [l] j [h] i) (rt e (tP h i0) k))) λf=>lL c i0 λg=>Split g false (CR e a 271 #[b] d λa b=>lG c a λa=>aD vF vT a λa=>JE f [a] b) (aD vT vT undef λa=>JE f [a] d))
theorem IL:qC L273 273:=λh=>sd (zA (zA (.n (zF 1 [16] [0,1]) (zA (zB (zB (zF 0 [6] [0,1]))))))) func273 h
def L274:Y3:=λa b c d e f=>DR e λg=>lC 1 b λh=>ai 2 h λh=>Ld g h λh=>lM 0 b g λi=>aK zQ a i #[d] e (λd e=>aL e g/\
lA h d λd=>lC 1 b λg=>ai 2 g λg=>St 1 e g d λd=>CR f a 140 #[c] d λa c=>lC 1 b λb=>ai 1 b λb=>St 1 c b a λa=>rt f (.tuple #[]) a) fK
theorem IK:qD L274 274:=λh=>sd (zB (zF 0 (yR 16) [])) func274 h
def L275:Y2:=λa b c d e=>lK d c 4 λc d=>lW d #[i0,sZ] 116 λd f=>CR e a 339 #[b] f λf g=>lN f i0 λh=>Br h (Build zQ 116 [] λh=>St 2 g (pt d) h λh=>ax 2 h (pt d) λi=>rt e (tP i f) h) (CR e a 340 #[b,(.func (.func 341) #[] #[(pt c)])] g λa b=>St 2 b (pt d) a λa=>ax 2 a (pt d) λb=>rt e (tP b i0) a)
theorem IJ:qC L275 275:=λh=>sd .e func275 h
def L276:Y5:=λa b c d e f g h=>lK g b 85 λb g=>lK g d 116 λd g=>lK g e 116 λe g=>lK g f 336 λf g=>lW g #[i0,sZ] 116 λg i=>gH i λi j=>ax 2 j (pt d) λd=>aW (.int .u32) j i (ui 0) d λd=>ax 2 d (pt e) λe=>aW (.int .u32) d i (ui 1) e λd=>lQ 1 d #[(.map none)] 403 i λd e=>lW e #[.nilFunc] 404 λe i=>St 1 i (pt e) (.func (.func 342) #[] #[(pt d),(pt b),(pt f),(pt e)]) λb=>Ld b (pt e) λd=>aK zQ a d #[c] b (λa b=>St 2 b (pt g) a λa=>ax 2 a (pt g) λb=>rt h b a) (dy h)
theorem II:qF L276 276:=λh=>sd .e func276 h
def L277:Y4:=λa b c d e f g=>lK f b 226 λb f=>lK f c 116 λc f=>lK f d 116 λd f=>lW f #[i0,sZ] 116 λf h=>Ld h e λe=>lD 0 (pt b) h λb=>CR g a 278 #[e,b] h λb e=>lX b λb _=>lQ 2 e #[i0,sZ] 116 b λb e=>ax 2 e (pt b) λb=>ax 2 e (pt d) λd=>ax 2 e (pt c) λc=>CR g a 279 #[b,d,c] e λa b=>lX a λa _=>lQ 2 b #[i0,sZ] 116 a λa b=>ax 2 b (pt a) λa=>St 2 b (pt f) a λa=>ax 2 a (pt f) λb=>rt g b a
theorem IG:qE L277 277:=λh=>sd .e func277 h
def L278:Y2:=λa b c d e=>lK d c 3 λc d=>lW d #[i0,sZ] 116 λd f=>CR e a 339 #[b] f λf g=>lN f i0 λh=>Br h (Build zQ 116 [] λh=>St 2 g (pt d) h λh=>ax 2 h (pt d) λi=>rt e (tP i f) h) (Ld g (pt c) λf=>lL f i0 λf=>lO f (λf=>Ld g (pt c) λh=>oG h b λh=>(lV g h f)) λf=>Br (Value.bool f) (Build zQ 116 [] λf=>St 2 g (pt d) f λf=>ax 2 f (pt d) λh=>rt e (tP h (iv 2)) f) (CR e a 340 #[b,(.func (.func 343) #[] #[(pt c)])] g λa b=>St 2 b (pt d) a λa=>ax 2 a (pt d) λb=>rt e (tP b i0) a))
theorem IF:qC L278 278:=λh=>sd (zA (zA (zB (zB (zF 0 [] [1]))))) func278 h
def L279:Y3:=λa b c d e f=>lK e b 116 λb e=>lK e c 116 λc e=>lK e d 116 λd e=>lW e #[i0,sZ] 116 λe g=>ax 2 g (pt b) λh=>ax 2 g (pt c) λi=>ax 2 g (pt d) λj=>az zQ 66 3 [(0,h),(1,i),(2,j)] g λg h=>CR f a 345 #[g] h λg h=>Un .not g λg=>Br g (Build zQ 116 [] λg=>St 2 h (pt e) g λg=>ax 2 g (pt e) λi=>rt f (tP i (iv 5)) g) (lD 0 (pt b) h λg=>CR f a 340 #[g,(.func (.func 346) #[] #[(pt b),(pt c),(pt d)])] h λa b=>St 2 b (pt e) a λa=>ax 2 a (pt e) λb=>rt f (tP b i0) a)
theorem IE:qD L279 279:=λh=>sd .e func279 h
def L280:Y1:=λa b c d=>gH c λc e=>gH e λe f=>Build zQ 343 [(0,b),(3,c),(4,e)] λc=>lK f c 343 λc e=>aR b λf=>lE f i0 λf=>Br f (rt d (tP (pt c) i0) e) (CR d a 347 #[b] e λe f=>lX e λ_ e=>lN e i0 λg=>Br g (rt d (tP (.pointer none) e) f) (au 2 b i0 λe=>ai 0 e λe=>Ld f e λe=>lC 1 (pt c) λg=>St 1 f g e λe=>aR b λf=>yA [i0] e λe g h i=>lL h f λf=>Br f (au 2 b h λb=>ax 2 i b λb=>lQ 2 i #[i0,sZ] 116 b λb f=>ax 2 f (pt b) λb=>CR d a 348 #[b] f λa b=>lX a λa _=>lM 2 (pt c) b λf=>aV .i64 a λa=>oO f a λa=>lC 2 (pt c) λf=>St 1 b f a λa=>lA h i1 λb=>aC e g [b] a [h] i) (rt d (tP (pt c) i0) i)))
theorem ID:qB L280 280:=λh=>sd (hN 5 (zB (zA (zB (zF 0 [37] [4,35,36]))))) func280 h
def L281:Y3:=λa b c d e f=>lM 2 b e λg=>oR g d λg=>oA g i1 λg=>lE g i0 λg=>Br g (rt f i0 e) (lM 2 b e λg=>oA c g λc=>Build zQ 411 [(0,c),(1,d)] λc=>lQ 2 e #[i0,i0] 411 c λc e=>lM 3 b e λg=>ax 2 e (pt c) λh=>jW zQ 411 i0 true e g h λg=>lX g λg h=>jB (λi j=>rt f i j) λf=>Un .not h λh=>Br h (DR e λh=>lM 0 b h λi=>iY 2 1 (pt c) i0 λj=>Ld h j λj=>aV .u64 j λj=>CN a 349 #[i,j,d] e λa d=>aL d h/\
lX a λa _=>DR d λh=>lM 3 b h λb=>ax 2 h (pt c) λc=>iL zQ 411 d b c a λb=>JE f [a] b) (JE f [g] e))
theorem IC:qD L281 281:=λh=>sd (hN 4 (zE 1 [8] [] (zA (zB (.n (zF 0 (yR 13) []) (zF 0 (yR 7) [])))))) func281 h
def L282:Y2:=λa b c d e=>lM 2 b d λf=>oA c f λc=>lM 2 b d λf=>lE c f λf=>Br f (rt e i0 d) (lM 4 b d λf=>c6 (.int .i64) i0 true d f c λf=>lX f λf g=>Br g (rt e f d) (lM 1 b d λf=>yB [(iv (-1)),i0] d λd g h i j=>lL i f λf=>Br f (jB (λf k=>lA i i1 λl=>aC d g [f,l] k [h,i] j) λd=>lM 2 b j λf=>Un .xor f λf=>oO c f λf=>oR f i λf=>oA f i1 λf=>lE f i1 λf=>Br f (JE d [h] j) (DR j λ_=>oL i1 i λf=>oO c f λf=>CN a 281 #[b,c,i] j λg i=>CN a 282 #[b,f] i λa f=>lA g a λa=>lL h i0 λg=>lO g (λg=>lL a h λi=>(lV f i g)) λg=>Br (Value.bool g) (JE d [a] f) (JE d [h] f))) (lM 4 b j λa=>aW (.int .i64) j a c h λa=>rt e h a)))
theorem xx:qC L282 282:=λh=>sd (hN 5 (zB (zA (zB (zE 0 [7,37] [0,1,36] (zA (zA (zE 1 [7] [0,1,36,37] (zB (zA (zA (.n (zF 0 [0,1,2,4,5,6,7,8,3,9,10,11] []) (zB (zF 0 [] [1])))))))))))))) func282 h
def L283:Y1:=λ_ a b c=>aR a λd=>cW 4 1 1 vF b d d λb d=>aR a λe=>yA [i0] d λd f g h=>lL g e λe=>Br e (lI 1 a g h λe=>lL e i0 λi=>lO i (λi=>aR a λj=>oG e j λj=>(lV h j i)) λi=>lO (Value.bool i) (λi=>lI 1 b e h λj=>(lV h j i)) λi=>Br (Value.bool i) (rt c (iv 4) h) (au 1 b e λb=>St 1 h b vT λb=>lA g i1 λe=>aC d f [e] b [g] h)) (aR a λa=>lG a (iv 64) λa=>Br a (rt c (iv 13) h) (rt c i0 h))
theorem IB:qB L283 283:=λh=>sd (zA (zA (zB (zA (zB (zE 0 [11] [0,3,9,10] (zA (zA (zB (zB (zA (zB (zB (zF 0 [] [1])))))))))))))) func283 h
def L284:Y2:=λa b c d e=>CR e a 350 #[b,c] d λd f=>lN d i0 λg=>Br g (rt e (tP sZ d) f) (CR e a 71 #[b] f λb d=>aR c λf=>yB [sZ,i0] d λd g h i j=>lL i f λf=>Br f (lI 1 c i j λc=>CR e a 351 #[b,c] j λa c=>yB [h,a] c λa c f k l=>lG k i λm=>Br m (DR l λm=>lS k i1 λn=>lI 1 b k m λo=>lS k i1 λp=>lI 1 b p m λm=>au 1 b n λn=>St 1 l n o λn=>au 1 b k λb=>St 1 n b m λb=>lS k i1 λm=>az zQ 43 1 [(0,m)] b λb m=>App zQ 3 1 8 i0 m f b λb m=>lS k i1 λn=>aC a c [b,n] m [f,k] l) (lA i i1 λa=>aC d g [f,a] l [h,i] j)) (rt e (tP h i0) j))
theorem IA:qC L284 284:=λh=>sd (hN 4 (zB (zA (zB (zE 0 [8,22] [7,20,21] (zA (zA (zB (zB (zA (zA (zB (zE 0 [8,11] [7,9,20,21,22] (zA (zB (zB (zB (zF 0 (yR 18) [])))))))))))))))))) func284 h
def L285:Y2:=λa b c d e=>lW d #[i0] 3 λd f=>CF a 352 #[b] f (λb f=>lQ 1 f #[(.pointer none)] 414 b λb f=>aR c λg=>yA [i0] f λf h i j=>lL i g λg=>Br g (lI 1 c i j λc=>Ld j (pt b) λg=>CF a 355 #[g,c] j (λc g=>lN c i0 λk=>Br k (St 1 g (pt d) i0 λk=>jZ zQ a 353 #[(pt b),(pt d)] k λk=>Ld k (pt d) λl=>rt e (tP l c) k) (lA i i1 λc=>aC f h [c] g [i] j)) Ou) (Ld j (pt b) λc=>lC 3 c λc=>St 1 j c vT λc=>St 1 c (pt d) i0 λc=>jZ zQ a 353 #[(pt b),(pt d)] c λa=>Ld a (pt d) λb=>rt e (tP b i0) a)) Ou
theorem Iz(h:L285 g a0 a1 H R):sc g 285 #[a0,a1] H R:=
 AD (hn:=(hN 3 (zB (zA (zB (zF 0 [14] [4,6,12,13])))))) func285 h zK
def L286:Y2:=λa b c d e=>lW d nC 226 λd f=>oP b λg=>Br g (Build zQ 226 [] λg=>St 3 f (pt d) g λg=>ax 3 g (pt d) λh=>rt e (tP h (iv 10)) g) (CR e a 356 #[b,c] f λa f=>Un .not a λa=>Br a (Build zQ 226 [] λa=>St 3 f (pt d) a λa=>ax 3 a (pt d) λg=>rt e (tP g (iv 3)) a) (lM 1 b f λa=>au 5 a c λa=>ai 0 a λa=>ax 3 f a λa=>St 3 f (pt d) a λa=>ax 3 a (pt d) λb=>rt e (tP b i0) a))
theorem Iy:qC L286 286:=λh=>sd .e func286 h
def L287:Y2:=λa b c d e=>lW d nC 226 λd f=>lM 0 b f λb=>CR e a 286 #[b,c] f λa b=>lX a λa _=>lQ 3 b nC 226 a λa b=>ax 3 b (pt a) λa=>St 3 b (pt d) a λa=>ax 3 a (pt d) λb=>rt e b a
theorem Ix:qC L287 287:=λh=>sd .e func287 h
def L288:Y2:=λa b c d e=>lK d c 226 λc d=>lD 0 (pt c) d λf=>CR e a 357 #[b,f] d λa d=>lN a i0 λf=>Br f (rt e a d) (lM 0 b d λa=>lD 0 (pt c) d λf=>lI 1 a f d λa=>ax 3 d (pt c) λf=>jW zQ 226 (ui 0) true d a f λa=>lX a λ_ a=>Un .not a λa=>Br a (rt e (iv 10) d) (DR d λa=>lM 0 b a λb=>lD 0 (pt c) a λf=>lI 1 b f a λb=>ax 3 a (pt c) λc=>r7 zQ 226 d b c λb=>aL b a/\
rt e i0 b))
theorem Iw:qC L288 288:=λh=>sd (hN 3 (zB (zF 0 (yR 10) []))) func288 h
def L289:Y2:=λa b c d e=>oP b λf=>Br f (rt e (iv 10) d) (CR e a 358 #[b,c] d λa d=>lN a i0 λf=>Br f (rt e a d) (lM 1 b d λa=>Build zQ 228 [] λf=>au 5 a c λa=>St 5 d a f λa=>lM 2 b a λd=>az zQ 194 1 [(0,c)] a λa c=>App zQ 110 1 4 (ui 0) c d a λa c=>lC 2 b λd=>St 1 c d a λa=>lM 3 b a λc=>lS c i1 λc=>lC 3 b λb=>St 1 a b c λa=>rt e i0 a))
theorem Iv:qC L289 289:=λh=>sd .e func289 h
def L290:Y5:=λa b c d e f g h=>Ld g c λi=>c6 (.int .u32) (wi 0) true g i b λi=>lX i λi j=>Br j (rt h i g) (Ld g d λd=>CR h a 202 #[d,b] g λd g=>lQ 3 g nC 226 d λd g=>DR g λi=>Ld i e λe=>ax 3 i (pt d) λj=>Ld i f λk=>lD 1 (pt d) i λl=>Ld i f λf=>lD 2 (pt d) i λd=>∀m:Hp,
aK zQ (a.add m) k #[l] g (λg k=>aL k i/\
∀l:Hp,
aK zQ (a.add l) f #[d] k (λd f=>aL f i/\
∀i:Hp,
aK zQ (a.add i) e #[j,g,d] f (λa d=>Ld d c λc=>aW (.int .u32) d c b a λb=>rt h a b) fK) fK) fK)
theorem xw:qF L290 290:=λh=>sd (hN 3 (zB (zE 1 [] [] (hr 0 [1] 0 5 (hr 0 [1] 6 3 (zE 0 [5] [1] (hr 0 [1] 9 3 .e))))))) func290 h
def L291:Y5:=λa b c d e f g h=>CR h a 201 #[b] g λg i=>lO g (λg=>Ld i c λj=>c6 (.int .u32) i0 false i j b λj=>lG j i0 λj=>(lV i j g)) λg=>Br (Value.bool g) (rt h (.tuple #[]) i) (Ld i c λc=>aW (.int .u32) i c b i1 λc=>Ld c d λd=>CR h a 202 #[d,b] c λb c=>lQ 3 c nC 226 b λb c=>Ld c e λd=>ax 3 c (pt b) λe=>aK zQ a d #[e] c (λ_ c=>Ld c f λd=>lD 1 (pt b) c λe=>aK zQ a d #[e] c (λ_ c=>Ld c f λd=>lD 2 (pt b) c λb=>aK zQ a d #[b] c (λ_ a=>rt h (.tuple #[]) a) (dy h)) (dy h)) (dy h))
theorem xu:qF L291 291:=λh=>sd (zB (zB (zF 0 [] [1]))) func291 h
def L292:Y2:=λa b c d e=>oP b λf=>Br f (rt e (iv 10) d) (CR e a 249 #[b,c] d λa b=>lX a λa d=>lQ 3 b nC 226 a λ_ a=>lN d i0 λb=>Br b (rt e d a) (lE c (ui 0) λb=>Br b (rt e (iv 10) a) (rt e i0 a)))
theorem Iu:qC L292 292:=λh=>sd .e func292 h
def L293:Y2:=λa b c d e=>lK d b 85 λb d=>Ld d (pt b) λf=>CR e a 185 #[f] d λd f=>gH f λf g=>Build zQ 361 [(0,d),(1,c),(2,f)] λd=>lK g d 361 λd f=>lQ 1 f #[(.pointer none)] 353 (pt d) λd f=>Ld f (pt d) λg=>lM 0 g f λg=>yA [i0] f λf h i j=>lL i g λg=>Br g (Ld j (pt b) λg=>CR e a 150 #[g,i] j λg k=>lX g λg _=>DR k λl=>Ld l (pt d) λm=>Ld l (pt d) λn=>lM 3 n l λn=>∀_:Hp,
az zQ 43 1 [(0,g)] k λg k=>aL k l/\
∀_:Hp,
App zQ 3 1 8 i0 k n g λg k=>aL k l/\
lC 3 m λl=>∀_:Hp,
St 1 k l g λg=>lA i i1 λk=>aC f h [k] g [i] j) (lW j #[.nilFunc] 261 λf g=>St 1 g (pt f) (.func (.func 359) #[] #[(pt d),(pt b),(pt f)]) λb=>Ld b (pt f) λf=>aK zQ a f #[c] b (λ_ a=>Ld a (pt d) λb=>rt e b a) (dy e))
theorem Is:qC L293 293:=λh=>sd (zA (zA (zB (zA (zB (zE 0 [20] [1,2,5,19] (zA (zA (zB (zB (zA (zA (zE 1 [] [] (hr 0 [1] 0 11 .e)))))))))))))) func293 h
def L294:Y1:=λa b c d=>lK c b 353 λb c=>lW c #[(wi 0),vF] 356 λc e=>Ld e (pt b) λf=>CR d a 360 #[f] e λe f=>lQ 1 f #[sZ] 43 e λe f=>gH f λf g=>Build zQ 356 [] λh=>aW (.int .u32) g f (ui 0) h λg=>Build zQ 356 [(0,(wi 1))] λh=>aW (.int .u32) g f (ui 1) h λg=>lQ 1 g #[(.map none)] 419 f λf g=>lW g #[.nilFunc] 260 λg h=>St 1 h (pt g) (.func (.func 361) #[] #[(pt b)]) λh=>lW h #[.nilFunc] 420 λh i=>lW i #[.nilFunc] 422 λi j=>St 1 j (pt i) (.func (.func 362) #[] #[(pt h),(pt e),(pt g)]) λe=>St 1 e (pt h) (.func (.func 364) #[] #[(pt f),(pt b),(pt i)]) λe=>DR e λf=>Ld f (pt i) λg=>Ld f (pt b) λb=>lM 1 b f λb=>∀f:Hp,
aK zQ (a.add f) g #[b,i0] e (λa b=>∀_:Hp,
St 2 b (pt c) a λa=>ax 2 a (pt c) λb=>rt d b a) fK
theorem Ir:qB L294 294:=λh=>sd (hN 7 (zB (zE 1 [] [] (hr 0 [1] 0 7 .e)))) func294 h
def L295:Y2:=λ_ a b c d=>lK c a 356 λa c=>lD 1 (pt a) c λe=>lO e (λe=>lD 0 (pt a) c λa=>lG a b λa=>(lV c a e)) λe=>rt d (Value.bool e) c
theorem Iq:qC L295 295:=λh=>sd (zA (zB (zF 0 [] [1]))) func295 h
def L296:Y3:=λ_ a b c d e=>DR d λf=>lM 4 a f λf=>oL (wi 1) b λg=>oO f g λf=>lC 4 a λg=>∀_:Hp,
St 1 d g f λd=>DR d λf=>lM 5 a f λf=>oL (wi 1) b λg=>ae .num .andNot f g λf=>oL c b λb=>oO f b λb=>lC 5 a λa=>∀_:Hp,
St 1 d a b λa=>rt e (.tuple #[]) a
theorem Ip:qD L296 296:=λh=>sd (.n (zE 1 [] [] (hr 0 [1] 0 10 .e)) (zE 1 [] [] (hr 0 [1] 0 15 .e))) func296 h
def L297:Y3:=λa b c d e f=>lC 0 b λg=>ai 1 g λg=>Ld e g λg=>CR f a 366 #[g,c] e λc e=>lX c λc _=>aR c λg=>yB [sZ,i0] e λe h i j k=>lL j g λg=>Br g (jB (λg l=>lA j i1 λm=>aC e h [g,m] l [i,j] k) λe=>lI 1 c j k λc=>lC 0 b λg=>CR f a 287 #[g,c] k λg h=>lQ 3 h nC 226 g λg h=>jB (λj l=>Br j (JE e [i] l) (ax 3 l (pt g) λj=>Build zQ 367 [(0,c),(1,j)] λc=>lQ 8 l #[(ui 0),i0,(ui 0),(ui 0),(ui 0),(ui 0),(ui 0),(ui 0)] 367 c λc j=>lD 1 (pt g) j λl=>CR f a 367 #[b,l,d] j λj l=>lX j λj m=>ai 4 (pt c) λn=>St 1 l n j λj=>ai 5 (pt c) λl=>St 1 j l m λj=>lD 2 (pt g) j λl=>CR f a 367 #[b,l,d] j λj l=>lX j λj m=>ai 6 (pt c) λn=>St 1 l n j λj=>ai 7 (pt c) λl=>St 1 j l m λj=>ax 8 j (pt c) λc=>az zQ 363 1 [(0,c)] j λc j=>App zQ 367 8 40 (.agg #[(ui 0),i0,(ui 0),(ui 0),(ui 0),(ui 0),(ui 0),(ui 0)]) j i c λc j=>JE e [c] j)) λc=>DR h λe=>lC 0 b λj=>lD 1 (pt g) e λl=>∀m:Hp,
CN (a.add m) 287 #[j,l] h λh j=>aL j e/\
An 0 h λh=>lN h d λh=>Br h (lC 0 b λb=>lD 2 (pt g) e λg=>∀h:Hp,
CN (a.add h) 287 #[b,g] j λa b=>aL b e/\
An 0 a λa=>lN a d λa=>aD vT a vF λa=>JE c [a] b) (JE c [vF] j)) (rt f i k)
theorem Io:qD L297 297:=λh=>sd (hN 3 (zB (zA (zB (zE 0 [7,26] [0,2,24,25] (zA (zA (zE 1 [7] [0,2,24,25,26] (zB (zA (zA (zB (zE 1 [54] [0,2,7,11,12,24,25,26] (zE 1 [] [] (hr 0 [] 0 5 (zE 0 [7] [] (hr 0 [] 5 2 (zE 0 [8] [] (.h 2 [9] [] (hr 0 [] 10 5 (zE 0 [17] [] (hr 0 [] 15 2 (hr 0 [] 18 2 .e)))) (hr 0 [] 10 9 (zF 3 [19] []))))))))))))))))))))) func297 h
def L298:Y3:=λa b c d e f=>gH e λe g=>aR d λh=>yA [i0] g λg i j k=>lL j h λh=>Br h (au 8 d j λd=>ax 8 k d λd=>lQ 8 k #[(ui 0),i0,(ui 0),(ui 0),(ui 0),(ui 0),(ui 0),(ui 0)] 367 d λd h=>lD 4 (pt d) h λl=>lD 6 (pt d) h λm=>Build zQ 226 [(0,c),(1,l),(2,m)] λl=>lD 5 (pt d) h λm=>lD 7 (pt d) h λd=>Build zQ 226 [(0,c),(1,m),(2,d)] λc=>az zQ 309 2 [(0,l),(1,c)] h λc d=>aR c λh=>yA [i0] d λd l m n=>lL m h λh=>Br h (jA (λh=>lA m i1 λo=>aC d l [o] h [m] n) λd=>au 3 c m λc=>ax 3 n c λc=>lQ 3 n nC 226 c λc h=>DR h λl=>lC 0 b λb=>ai 1 b λb=>Ld l b λb=>ax 3 l (pt c) λm=>CN a 320 #[b,m] h λb h=>aL h l/\
lX b λ_ b=>Un .not b λb=>lU b (λb=>lD 1 (pt c) h λl=>lD 2 (pt c) h λm=>lN l m λl=>(lV h l b)) λb=>Br (Value.bool b) (Z6 zQ a 10 (pc Tryz.f298 10) [7,11] [e,(pt c)] h λa=>∀_:Fr,
JE d [] a) (JE d [] h)) (lA j i1 λa=>aC g i [a] n [j] k)) (By k e λa=>rt f a k)
theorem Im:qD L298 298:=λh=>sd (zA (zA (zB (zA (zB (zE 0 [17] [0,1,7,15,16] (zA (zA (zB (zB (zA (zA (zB (zE 0 [35] [0,1,7,15,16,17,33,34] (zA (zA (zE 1 [] [0,1,7,15,16,17,33,34,35] (zB (zA (.n (zF 0 (yR 12) []) (.n (zF 0 [] [1]) (zB (zF 9 [7,11] []))))))))))))))))))))))) func298 h
def L299:Y4:=λa b c d e f g=>lE d e λh=>Br h (rt g d f) (Build zQ 226 [(0,c),(1,d),(2,e)] λc=>lQ 3 f nC 226 c λc d=>DR d λe=>lM 1 b e λf=>ax 3 e (pt c) λh=>CN a 320 #[f,h] d λd f=>aL f e/\
lX d λd e=>Br e (rt g d f) (ax 3 f (pt c) λc=>CR g a 246 #[b,c] f λa b=>rt g a b))
theorem qy:qE L299 299:=λh=>sd (hN 3 (zB (zB (zF 0 (yR 11) [])))) func299 h
def L300:Y2:=λ_ a b c d=>lG b (ui 1) λe=>Br e (lM 2 a c λa=>lI 1 a b c λe=>lA e (Value.int .i32 1) λe=>au 1 a b λa=>St 1 c a e λa=>rt d (.tuple #[]) a) (rt d (.tuple #[]) c)
theorem Il:qC L300 300:=λh=>sd .e func300 h
def L301:Y3:=λa b c d e f=>lK e d 226 λd e=>oP b λg=>Br g (rt f (iv 10) e) (ax 3 e (pt d) λg=>CR f a 368 #[b,g] e λe g=>lN e i0 λh=>Br h (rt f e g) (CR f a 358 #[b,c] g λa e=>lN a i0 λg=>Br g (rt f a e) (DR e λa=>lM 1 b a λb=>ax 3 a (pt d) λa=>au 5 b c λb=>ai 0 b λb=>St 3 e b a λa=>rt f i0 a)))
theorem Ik:qD L301 301:=λh=>sd (hN 4 (zB (zF 0 (yR 9) []))) func301 h
def L302:Y3:=λa b c d e f=>lK e c 226 λc e=>lD 0 (pt c) e λg=>CR f a 357 #[b,g] e λa e=>lN a i0 λg=>Br g (rt f a e) (lM 0 b e λa=>lD 0 (pt c) e λg=>lI 1 a g e λa=>ax 3 e (pt c) λg=>jW zQ 226 (ui 0) true e a g λa=>lX a λ_ a=>Br a (rt f (iv 11) e) (DR e λa=>lM 0 b a λb=>lD 0 (pt c) a λg=>lI 1 b g a λb=>ax 3 a (pt c) λa=>iL zQ 226 e b a d λa=>rt f i0 a))
theorem Ij:qD L302 302:=λh=>sd (hN 3 (zB (zF 0 (yR 11) []))) func302 h
def L304:Y1:=λa b c d=>aV .u64 b λb=>CR d a 154 #[b] c λa b=>oL (wi 1) a λa=>rt d a b
theorem Ii:qB L304 304:=λh=>sd .e func304 h
def L305:Y1:=λ_ a b c=>DR b λd=>Nil a λe=>Ld d e λe=>Nil a λf=>Ld d f λd=>oL d (wi 13) λd=>ae .num .xor e d λd=>Nil a λe=>St 1 b e d λb=>DR b λd=>Nil a λe=>Ld d e λe=>Nil a λf=>Ld d f λd=>oR d (wi 7) λd=>ae .num .xor e d λd=>Nil a λe=>St 1 b e d λb=>DR b λd=>Nil a λe=>Ld d e λe=>Nil a λf=>Ld d f λd=>oL d (wi 17) λd=>ae .num .xor e d λd=>Nil a λe=>St 1 b e d λb=>Nil a λa=>Ld b a λa=>rt c a b
theorem Ih:qB L305 305:=λh=>sd (zA (.n (zF 0 (yR 10) []) (.n (zF 0 (yR 10) []) (zB (zF 0 (yR 10) []))))) func305 h
def L319:Y2:=λa b c d e=>lC 0 b λf=>CR e a 287 #[f,c] d λa c=>lQ 3 c nC 226 a λa c=>lD 0 (pt a) c λd=>oG d i0 λd=>Br d (lM 6 b c λd=>lD 0 (pt a) c λa=>lI 1 d a c λa=>rt e a c) (lM 4 b c λa=>rt e a c)
theorem Ig:qC L319 319:=λh=>sd .e func319 h
def L320:Y2:=λa b c d e=>lK d c 226 λc d=>lD 0 (pt c) d λf=>CR e a 357 #[b,f] d λa d=>lN a i0 λa=>Br a (rt e (tP (ui 0) vF) d) (lM 0 b d λa=>lD 0 (pt c) d λb=>lI 1 a b d λa=>ax 3 d (pt c) λb=>jW zQ 226 (ui 0) true d a b λa=>lX a λa b=>rt e (tP a b) d)
theorem Ie:qC L320 320:=λh=>sd .e func320 h
def L321:Y1:=λ_ a b c=>oP a λd=>Br d (rt c i0 b) (lM 0 a b λa=>rt c a b)
theorem Ic:qB L321 321:=λh=>sd .e func321 h
def L322:Y2:=λa b c d e=>lK d c 226 λc d=>oP b λf=>Br f (rt e (tP (ui 0) (iv 10)) d) (ax 3 d (pt c) λf=>CR e a 368 #[b,f] d λa d=>lN a i0 λf=>Br f (rt e (tP (ui 0) a) d) (lM 2 b d λa=>aR a λa=>lG a i0 λf=>Br f (lM 2 b d λf=>lS a i1 λg=>lI 1 f g d λf=>lM 2 b d λg=>lS a i1 λa=>gy 1 g none (some a) λa=>lC 2 b λg=>St 1 d g a λa=>DR a λg=>lM 1 b g λh=>ax 3 g (pt c) λg=>Build zQ 228 [(0,g),(1,vT)] λg=>au 5 h f λh=>St 5 a h g λa=>lM 3 b a λg=>lA g i1 λg=>lC 3 b λh=>St 1 a h g λa=>rt e (tP f i0) a) (lM 1 b d λa=>aR a λa=>lM 0 b d λf=>oG a f λa=>Br a (rt e (tP (ui 0) (iv 9)) d) (DR d λa=>lM 1 b a λf=>ax 3 a (pt c) λc=>Build zQ 228 [(0,c),(1,vT)] λc=>az zQ 222 1 [(0,c)] d λc d=>aL d a/\
App zQ 228 5 24 (.agg #[i0,(ui 0),(ui 0),vF,(bi 0)]) d f c λc d=>aL d a/\
lC 1 b λa=>St 1 d a c λa=>lM 3 b a λc=>lA c i1 λc=>lC 3 b λd=>St 1 a d c λa=>lM 1 b a λb=>aR b λb=>lS b i1 λb=>aV .u32 b λb=>rt e (tP b i0) a))))
theorem Ib:qC L322 322:=λh=>sd (hN 3 (.n (zA (zA (zB (zA (zA (zB (zF 0 (yR 9) []))))))) (zA (zB (zF 0 (yR 12) []))))) func322 h
def L323:Y4:=λa b c d e f g=>jB (λh i=>Br h (rt g (tP (ui 0) vF) i) (CR g a 244 #[b,c,d,e] i λh i=>lX h λh j=>rt g (tP h j) i)) λh=>oP b λi=>Split i false (CR g a 243 #[b,c,d,e] f λa b=>lN a i0 λa=>aD vF vT a λa=>JE h [a] b) (aD vT vT undef λa=>JE h [a] f)
theorem Ia:qE L323 323:=λh=>sd (zA (zB (zF 1 [19] [0,1,2,3]))) func323 h
def L324:Y2:=λa b c d e=>Ld d b λb=>lM 1 b d λb=>Z5 d b λb d=>∃(f:Jt) (g:Mt),JE f [] d/\∀d:Hp,f [] d->∀_:Fr,
XW d b λh i=>Ext 0 h λh=>Br h (Ku i b λb=>Ext 0 b λb=>Ld i c λc=>CR e a 142 #[c,b] i λ_ a=>aC f g [] a [] d) (rt e (.tuple #[]) i)
theorem Es(h:L324 g a0 a1 H R):kL zQ g 324 #[a0,a1] H R:=
 AE (hn:=(zA (zB (zF 0 [] [1,7])))) func324 h zK
def L325(g:Gh)(a0 a1 a2 a3 a4 a5:zV)(H:Hp)(R:Rt):Prop:=
Ld H a1 λa=>
CR R g 326 #[a,a0] H λa b=>
lX a λa c=>
lQ 3 b nC 226 a λa b=>
Ld b a2 λd=>
lG c d λd=>
lO d (λd=>
Ld b a1 λe=>
lM 2 e b λe=>
lN e i0 λe=>
(lV b e d)) λd=>
Br (Value.bool d) (
rt R a0 b) (
Ld b a3 λd=>
c6 (.int .u32) (ui 0) true b d a0 λd=>
lX d λd e=>
Br e (
rt R d b) (
jB (λd e=>
Ld e a3 λf=>
aW (.int .u32) e f a0 d λe=>
rt R d e) λd=>
Ld b a2 λe=>
lE c e λc=>
Br c (
Ld b a4 λc=>
ax 3 b (pt a) λe=>
aK zQ g c #[e] b (λc e=>
JE d [c] e) (dy R)) (
Ld b a5 λc=>
lD 1 (pt a) b λe=>
aK zQ g c #[e] b (λb c=>
DR c λe=>
Ld e a1 λf=>
lD 0 (pt a) e λh=>
Ld e a5 λi=>
lD 2 (pt a) e λa=>
aK zQ g i #[a] c (λa c=>
aL c e/\
CN g 327 #[f,h,b,a] c λa b=>
aL b e/\
JE d [a] b) fK) (dy R))))
theorem H9(h:L325 g a0 a1 a2 a3 a4 a5 H R):sc g 325 #[a0,a1,a2,a3,a4,a5] H R:=sd (zA (zA (.n (zB (zF 0 [] [1])) (zA (zA (zE 1 [12] [0,3] (hN 3 (zF 0 (yR 10) [])))))))) func325 h
def L326:Y2:=λa b c d e=>lW d nC 226 λd f=>lM 0 b f λg=>CR e a 249 #[g,c] f λc f=>lX c λc _=>lQ 3 f nC 226 c λc f=>DR f λg=>ax 3 g (pt c) λh=>ax 3 g (pt c) λc=>CN a 379 #[b,c] f λa b=>aL b g/\
St 3 b (pt d) h λb=>aL b g/\
ax 3 b (pt d) λc=>rt e (tP c a) b
theorem H8:qC L326 326:=λh=>sd (zA (zA (zB (zF 0 (yR 6) [])))) func326 h
def L327:Y4:=λa b c d e f g=>lM 2 b f λh=>lN h i0 λh=>Br h (rt g (ui 0) f) (lM 0 b f λh=>CR g a 175 #[h,c,d,e] f λf h=>lX f λf i=>jB (λj k=>rt g j k) λj=>lE i (iv 8) λk=>Br k (lM 0 b h λk=>CR g a 323 #[k,c,d,e] h λc d=>lX c λc _=>JE j [c] d) (lN i i0 λc=>Br c (lC 2 b λc=>St 1 h c i λc=>JE j [f] c) (oQ f (ui 1) λc=>lO c (λc=>lM 1 b h λd=>c6 (.int .u32) i0 false h d f λd=>lG d i0 λd=>(lV h d c)) λc=>Br (Value.bool c) (lM 0 b h λc=>CR g a 142 #[c,f] h λ_ a=>JE j [f] a) (lM 1 b h λa=>aW (.int .u32) h a f i1 λa=>JE j [f] a))))
theorem xq:qE L327 327:=λh=>sd (hN 3 (zE 1 [9] [] (zB (hN 4 (zB (zF 0 [] [1])))))) func327 h
def L328:Y4:=λa b c d e f g=>lK f b 313 λb f=>Ld f (pt b) λh=>Ld f c λc=>Ld f d λd=>CR g a 258 #[h,c,d,(.func (.func 329) #[] #[(pt b),e])] f λa b=>rt g a b
theorem H7:qE L328 328:=λh=>sd .e func328 h
def L329:Y3:=λa b c d e f=>lK e b 226 λb e=>Ld e c λc=>lD 1 (pt b) e λg=>lD 2 (pt b) e λb=>Ld e d λd=>CR f a 330 #[c,g,b,d] e λa b=>rt f a b
theorem H6:qD L329 329:=λh=>sd .e func329 h
def L330:Y4:=λa b c d e f g=>lK f b 313 λb f=>lW f #[(ui 0)] 110 λf h=>lW h #[(ui 0)] 110 λh i=>St 1 i (pt f) (ui 0) λi=>St 1 i (pt h) (ui 1) λi=>jA (λj=>gH j λj k=>lQ 1 k #[(.map none)] 444 j λj k=>lW k #[.nilFunc] 445 λk l=>St 1 l (pt k) (.func (.func 380) #[] #[(pt f),(pt h),(pt b),(pt j),(pt k)]) λb=>Ld b (pt k) λj=>aK zQ a j #[c,d] b (λa b=>rt g a b) (dy g)) λa=>Br e (St 1 i (pt f) (ui 1) λb=>St 1 b (pt h) (ui 0) λb=>JE a [] b) (JE a [] i)
theorem HZ:qE L330 330:=λh=>sd (zA (zA (zF 1 [] [1,2,4,9,10]))) func330 h
def L331:Y2:=λa b c d e=>CR e a 357 #[b,c] d λa d=>lN a i0 λf=>Br f (rt e (tP i0 a) d) (lM 0 b d λa=>lI 1 a c d λa=>By d a λa=>rt e (tP a i0) d)
theorem HY:qC L331 331:=λh=>sd .e func331 h
def L332:Y2:=λa b c d e=>lM 0 b d λf=>au 2 f c λf=>ax 2 d f λf=>lQ 2 d #[i0,i0] 397 f λd f=>yA [c] f λc f g h=>jB (λi j=>Br i (lM 0 b j λi=>lS g i1 λk=>ae .num .quo k (iv 2) λk=>au 2 i k λi=>ax 2 j i λi=>CR e a 333 #[b,g,i] j λ_ i=>lS g i1 λk=>ae .num .quo k (iv 2) λk=>aC c f [k] i [g] h) (ax 2 j (pt d) λc=>CR e a 333 #[b,g,c] j λ_ c=>rt e (.tuple #[]) c)) λc=>DR h λe=>lG g i0 λf=>Br f (ax 2 e (pt d) λd=>lM 0 b e λb=>lS g i1 λf=>ae .num .quo f (iv 2) λf=>au 2 b f λb=>ax 2 e b λb=>∀f:Hp,
CN (a.add f) 381 #[d,b] h λa b=>aL b e/\
aD vT a vF λa=>JE c [a] b) (JE c [vF] h)
theorem HX:qC L332 332:=λh=>sd (zA (zB (zB (zE 0 [1] [0,4] (zB (zE 1 [26] [0,1,4] (zE 1 [] [] (hr 0 [] 0 2 (.h 2 [2] [] (hr 0 [] 3 12 .e) (hr 0 [] 3 11 (zF 3 [14] []))))))))))) func332 h
def L333:Y3:=λ_ a b c d e=>lK d c 397 λc d=>DR d λf=>lM 0 a f λg=>ax 2 f (pt c) λf=>au 2 g b λg=>St 2 d g f λd=>DR d λf=>lM 1 a f λa=>lD 0 (pt c) f λc=>aW (.int .i64) d a c b λa=>rt e (.tuple #[]) a
theorem HV:qD L333 333:=λh=>sd (zA (.n (zF 0 (yR 8) []) (zF 0 (yR 8) []))) func333 h
def L334:Y2:=λa b c d e=>lM 0 b d λf=>au 2 f c λf=>ax 2 d f λf=>lQ 2 d #[i0,i0] 397 f λd f=>yA [c] f λc f g h=>oM (iv 2) g λi=>lA i i1 λi=>jB (λj k=>jB (λl m=>Br l (ax 2 m (pt d) λl=>CR e a 333 #[b,g,l] m λ_ l=>rt e (.tuple #[]) l) (lM 0 b m λl=>au 2 l j λl=>ax 2 m l λl=>CR e a 333 #[b,g,l] m λ_ e=>aC c f [j] e [g] h)) λc=>DR k λe=>lM 0 b e λf=>aR f λf=>oG j f λf=>Br f (JE c [vT] k) (lM 0 b e λf=>au 2 f j λf=>ax 2 e f λf=>ax 2 e (pt d) λd=>∀g:Hp,
CN (a.add g) 381 #[f,d] k λd f=>aL f e/\
Un .not d λd=>aD vF vT d λd=>JE c [d] f)) λc=>jB (λd e=>Br d (lA i i1 λd=>JE c [d] e) (JE c [i] e)) λc=>DR h λd=>lA i i1 λe=>lM 0 b d λf=>aR f λf=>lL e f λe=>Br e (lM 0 b d λe=>lA i i1 λf=>au 2 e f λe=>ax 2 d e λe=>lM 0 b d λb=>au 2 b i λb=>ax 2 d b λb=>∀f:Hp,
CN (a.add f) 381 #[e,b] h λa b=>aL b d/\
aD vT a vF λa=>JE c [a] b) (JE c [vF] h)
theorem HU:qC L334 334:=λh=>sd (zA (zB (zB (zE 0 [1] [0,4] (zB (zA (.h 1 [5] [0,1,4] (zE 1 [41] [0,1,4,5] (zE 1 [] [] (hr 0 [] 0 8 (.h 2 [8] [] (hr 0 [] 9 17 .e) (hr 0 [] 9 16 (zF 3 [25] [])))))) (zB (zE 1 [62] [0,1,4,5] (zE 1 [] [] (hr 0 [] 0 7 (.h 2 [7] [] (hr 0 [] 8 10 (zF 3 [18] [])) (hr 0 [] 8 11 .e))))))))))))) func334 h
def L335:Y1:=λa b c d=>DR c λe=>Ld e b λf=>Ld e b λb=>lM 1 b e λb=>∀e:Hp,
CN (a.add e) 336 #[f,b,i1] c λa b=>rt d a b
theorem xp:qB L335 335:=λh=>sd (zA (zB (zE 1 [] [] (hr 0 [1] 0 7 .e)))) func335 h
def L336:Y3:=λa b c d e f=>lM 0 b e λg=>CR f a 151 #[g,c] e λa c=>jA (λe=>rt f a e) λe=>lE a i0 λa=>Br a (lM 5 b c λa=>lA a i1 λa=>lC 5 b λf=>St 1 c f a λa=>lM 1 b a λf=>lA f d λd=>lC 1 b λb=>St 1 a b d λa=>JE e [] a) (JE e [] c)
theorem xm:qD L336 336:=λh=>sd (zA (zA (zF 1 [] [7]))) func336 h
def L337:Y1:=λa b c d=>DR c λe=>Ld e b λf=>Ld e b λb=>lM 1 b e λb=>lS b i1 λb=>∀e:Hp,
CN (a.add e) 336 #[f,b,(iv (-1))] c λa b=>rt d a b
theorem xl:qB L337 337:=λh=>sd (zA (zB (zE 1 [] [] (hr 0 [1] 0 8 .e)))) func337 h
def L338:Y1:=λa b c d=>oP b λe=>lO e (λe=>lM 7 b c λf=>aR f λf=>lE f i0 λf=>(lV c f e)) λe=>Br (Value.bool e) (rt d (tP i0 (iv 10)) c) (lM 7 b c λe=>aR e λe=>lS e i1 λe=>lM 7 b c λf=>lI 1 f e c λf=>CR d a 211 #[b,f] c λ_ a=>lM 7 b a λc=>gy 1 c none (some e) λc=>lC 7 b λb=>St 1 a b c λa=>rt d (tP f i0) a)
theorem HT:qB L338 338:=λh=>sd (zA (zB (zB (zF 0 [] [1])))) func338 h
def L339:Y1:=λ_ a b c=>lL a i0 λd=>Br d (rt c i1 b) (lG a (iv 16) λa=>Br a (rt c (iv 6) b) (rt c i0 b))
theorem HR:qB L339 339:=λh=>sd .e func339 h
def L340:Y2:=λa b c d e=>lW d #[i0,sZ] 116 λd f=>CR e a 382 #[b] f λf g=>cW 33 1 8 (wi 0) g f f λf g=>Build zQ 116 [(0,b),(1,f)] λf=>lQ 2 g #[i0,sZ] 116 f λf g=>lD 1 (pt f) g λh=>aR h λh=>yA [i0] g λg i j k=>lL j h λh=>Br h (DR k λh=>lD 1 (pt f) h λl=>aK zQ a c #[j] k (λc m=>aL m h/\
CN a 383 #[b] m λa b=>aL b h/\
oA c a λa=>au 1 l j λc=>St 1 b c a λa=>lA j i1 λb=>aC g i [b] a [j] k) fK) (ax 2 k (pt f) λa=>St 2 k (pt d) a λa=>ax 2 a (pt d) λb=>rt e b a)
theorem HQ:qC L340 340:=λh=>sd (zA (zA (zB (zA (zB (zE 0 [15] [0,1,4,5,14] (zA (zA (zB (zB (zA (zF 0 [0,1,2,3,4,6,5,7,8,9,10] [])))))))))))) func340 h
def L341:Y2:=λ_ _ a b c=>Ld b a λa=>Br a (rt c (wi 18446744073709551615) b) (rt c (wi 0) b)
theorem HP:qC L341 341:=λh=>sd .e func341 h
def L342:Y5:=λa b c d e f g h=>lW g #[i0,sZ] 116 λg i=>Ld i c λj=>c6 (.int .u32) (.agg #[i0,sZ]) true i j b λj=>lX j λj k=>lQ 2 i #[i0,sZ] 116 j λi j=>Br k (ax 2 j (pt i) λi=>St 2 j (pt g) i λi=>ax 2 i (pt g) λk=>rt h k i) (Ld j d λd=>CR h a 202 #[d,b] j λd i=>lQ 3 i nC 226 d λd i=>DR i λj=>Ld j e λe=>ax 3 j (pt d) λk=>Ld j f λl=>lD 1 (pt d) j λm=>Ld j f λf=>lD 2 (pt d) j λd=>∀n:Hp,
aK zQ (a.add n) l #[m] i (λi l=>aL l j/\
∀m:Hp,
aK zQ (a.add m) f #[d] l (λd f=>aL f j/\
∀l:Hp,
aK zQ (a.add l) e #[k,i,d] f (λa d=>aL d j/\
lW d #[i0,sZ] 116 λd e=>∀_:Hp,
St 2 e (pt d) a λa=>Ld a c λc=>ax 2 a (pt d) λe=>aW (.int .u32) a c b e λa=>ax 2 a (pt d) λb=>St 2 a (pt g) b λa=>ax 2 a (pt g) λb=>rt h b a) fK) fK) fK)
theorem xk:qF L342 342:=λh=>sd (hN 3 (zB (zE 1 [] [] (hr 0 [] 0 5 (hr 0 [] 6 3 (zE 1 [11] [] (zE 0 [5] [] (hr 0 [] 9 4 .e)))))))) func342 h
def L343:Y2:=λa b c d e=>Ld d c λc=>CR e a 344 #[c,b] d λa b=>rt e a b
theorem HN:qC L343 343:=λh=>sd .e func343 h
def L344:Y2:=λ_ a b c d=>oG a (iv 6) λe=>Br e (aV .u64 b λb=>lS a (iv 6) λe=>oR b e λb=>oA b (wi 1) λb=>Un .neg b λb=>rt d b c) (yB [(wi 0),i0] c λb c e f g=>lL f (iv 64) λh=>Br h (oR f a λa=>oA a i1 λa=>aV .u64 a λa=>oL a f λa=>oO e a λa=>lA f i1 λh=>aC b c [a,h] g [e,f] g) (rt d e g))
theorem HM:qC L344 344:=λh=>sd (hN 3 (zB (zA (zB (zF 0 [5,16] [0]))))) func344 h
def L345:Y1:=λa b c d=>aR b λe=>yA [i0] c λc f g h=>lL g e λe=>Br e (au 2 b g λe=>ax 2 h e λe=>lQ 2 h #[i0,sZ] 116 e λe i=>jB (λj k=>Br j (rt d vF k) (lA g i1 λj=>aC c f [j] k [g] h)) λc=>DR i λf=>ax 2 f (pt e) λg=>∀j:Hp,
CN (a.add j) 384 #[g] i λa g=>aL g f/\
Un .not a λa=>Br a (JE c [vT] g) (lD 0 (pt e) f λa=>au 2 b i0 λb=>ai 0 b λb=>Ld f b λb=>lN a b λa=>aD vF vT a λa=>JE c [a] g)) (rt d vT h)
theorem HL:qB L345 345:=λh=>sd (zA (zB (zA (zB (zE 0 [7] [0,5,6] (zA (zA (zB (zB (zA (zE 1 [22] [0,5,6,7] (zE 1 [] [] (hr 0 [] 0 3 (.h 2 [3] [] (hr 0 [] 4 7 (zF 3 [11] [])) (hr 0 [] 4 8 .e))))))))))))))) func345 h
def L346:Y4:=λ_ a b c d e f=>ai 1 b λg=>Ld e g λg=>lI 1 g a e λg=>ai 1 c λc=>Ld e c λc=>lI 1 c a e λc=>oA g c λc=>ai 1 b λb=>Ld e b λb=>lI 1 b a e λb=>Un .xor b λb=>ai 1 d λd=>Ld e d λd=>lI 1 d a e λa=>oA b a λa=>oO c a λa=>rt f a e
theorem HK:qE L346 346:=λh=>sd .e func346 h
def L347:Y1:=λa b c d=>CR d a 385 #[b] c λc e=>Un .not c λc=>Br c (rt d (tP sZ (iv 5)) e) (aR b λc=>lE c i0 λc=>Br c (rt d (tP sZ i0) e) (au 2 b i0 λc=>ai 0 c λc=>Ld e c λc=>cW 33 1 8 (wi 0) e c c λc e=>aR b λf=>yA [i0] e λe g h i=>lL h f λf=>Br f (au 2 b h λb=>ax 2 i b λb=>lQ 2 i #[i0,sZ] 116 b λb f=>ax 2 f (pt b) λb=>CR d a 348 #[b] f λa b=>lX a λa _=>aR c λf=>yA [i0] b λb j k l=>lL k f λf=>Br f (jA (λf=>lA k i1 λm=>aC b j [m] f [k] l) λb=>oR a k λf=>oA f (wi 1) λf=>lE f (wi 1) λf=>Br f (DR l λf=>lI 1 c k f λf=>oL (wi 1) k λj=>ae .num .andNot a j λa=>oO f a λa=>au 1 c k λf=>St 1 l f a λa=>JE b [] a) (JE b [] l)) (lA h i1 λa=>aC e g [a] l [h] i)) (rt d (tP c i0) i)))
theorem HJ:qB L347 347:=λh=>sd (hN 4 (zB (zA (zB (zE 0 [23] [4,21,22] (zA (zA (zB (zB (hN 3 (zB (zE 0 [34] [4,7,21,22,23,33] (zA (zA (zE 1 [] [4,7,21,22,23,33,34] (zB (zA (zA (zB (zF 0 (yR 11) [])))))))))))))))))))) func347 h
variable {g:Gh} {a0 a1 a2 a3 a4 a5 a6 a7 a8 a9 tR tQ a12 a13 a14 a15:zV} {H:Hp} {R:Rt}
def L348:Y1:=λa b c d=>lK c b 116 λb c=>ax 2 c (pt b) λe=>az zQ 66 1 [(0,e)] c λc e=>CR d a 345 #[c] e λc e=>Un .not c λc=>Br c (rt d (tP (wi 0) (iv 5)) e) (lD 0 (pt b) e λc=>yB [(wi 0),i0] e λe f g h i=>lL h c λc=>Br c (jB (λc j=>lA h i1 λk=>aC e f [c,k] j [g,h] i) λc=>DR i λe=>ax 2 e (pt b) λf=>ax 2 e (pt b) λb=>CN a 387 #[f,h,vF] i λf j=>aL j e/\
An 1 f λf=>CN a 387 #[b,h,vT] j λb j=>aL j e/\
An 1 b λb=>CN a 386 #[f,b] j λa b=>aL b e/\
Un .not a λa=>Br a (oL (wi 1) h λa=>oO g a λa=>JE c [a] b) (JE c [g] b)) (rt d (tP g i0) i))
theorem HH:qB L348 348:=λh=>sd (hN 3 (zB (zA (zB (zE 0 [4,12] [1,11] (zA (zA (zE 1 [4] [1,11,12] (zB (zA (zB (zF 0 [0,1,4,5,2,3,6,7,8,9] [])))))))))))) func348 h
def L349:Y3:=λa b c d e f=>CR f a 385 #[b] e λe g=>Un .not e λe=>Br e (rt f (tP i0 (iv 5)) g) (jB (λe h=>lL d i0 λi=>lO i (λi=>oG d e λj=>(lV h j i)) λi=>lO (Value.bool i) (λi=>oR c e λj=>lN j (wi 0) λj=>(lV h j i)) λi=>Br (Value.bool i) (rt f (tP i0 (iv 2)) h) (oR c d λi=>oA i (wi 1) λi=>lE i (wi 1) λi=>Br i (rt f (tP i0 (iv 4)) h) (CR f a 388 #[b] h λh i=>yB [h,i0] i λh i j k l=>lL k e λe=>Br e (jB (λe m=>lA k i1 λn=>aC h i [e,n] m [j,k] l) λe=>oR c k λc=>oA c (wi 1) λc=>lE c (wi 1) λc=>Br c (CR f a 389 #[j,k] l λc h=>lX c λc _=>JE e [c] h) (JE e [j] l)) (CR f a 389 #[j,d] l λa c=>lX a λ_ a=>rt f (tP a i0) c)))) λa=>aR b λc=>lG c i0 λc=>Br c (au 2 b i0 λb=>ai 0 b λb=>Ld g b λb=>JE a [b] g) (JE a [(iv 16)] g))
theorem HG:qD L349 349:=λh=>sd (hN 3 (.h 1 [8] [0,1,2] .e (.n (zB (zF 0 [] [1])) (zA (zA (zB (zA (zB (zE 0 [9,44] [1,2,43] (zA (zA (zF 1 [9] [1,2,43,44])))))))))))) func349 h
def L350:Y2:=λa b c d e=>CR e a 283 #[b] d λd f=>CR e a 283 #[c] f λa f=>lE d (iv 4) λg=>lO g (λg=>lE a (iv 4) λh=>(lV f h g)) λg=>lO (Value.bool g) (λg=>aR b λb=>aR c λc=>lN b c λb=>(lV f b g)) λg=>Br (Value.bool g) (rt e (iv 4) f) (WS d a λa=>rt e a f)
theorem HE:qC L350 350:=λh=>sd (zA (zA (zB (zB (zF 0 [] [1]))))) func350 h
def L351:Y2:=λ_ a b c d=>aR a λe=>yA [i0] c λc f g h=>lL g e λe=>Br e (lI 1 a g h λa=>lE b a λa=>Br a (rt d g h) (lA g i1 λa=>aC c f [a] h [g] h)) (d (.returned (iv (-1))) h)
theorem HD:qC L351 351:=λh=>sd (zA (zB (zA (zB (zF 0 [8] [0,1,7]))))) func351 h
def L352:Y1:=λa b c d=>CR d a 271 #[b] c λa c=>Build zQ 417 [(0,b),(1,a)] λa=>lK c a 417 λa b=>rt d (pt a) b
theorem HC:qB L352 352:=λh=>sd .e func352 h
def L353:Y2:=λa b c d e=>Ld d b λf=>CR e a 354 #[f] d λ_ a=>Ld a b λb=>lM 2 b a λb=>St 1 a c b λa=>rt e (.tuple #[]) a
theorem tV(h:L353 g a0 a1 H R):kL zQ g 353 #[a0,a1] H R:=
 AE (hn:=.e) func353 h zK
def L354:Y1:=λa b c d=>lM 3 b c λe=>Un .not e λe=>Br e (CR d a 390 #[b] c λ_ a=>rt d (.tuple #[]) a) (rt d (.tuple #[]) c)
theorem xj:qB L354 354:=λh=>sd .e func354 h
def L355:Y2:=λa b c d e=>lM 0 b d λf=>CR e a 151 #[f,c] d λa c=>jA (λd=>rt e a d) λd=>lE a i0 λa=>Br a (lM 2 b c λa=>lA a i1 λa=>lC 2 b λb=>St 1 c b a λa=>JE d [] a) (JE d [] c)
theorem xh:qC L355 355:=λh=>sd (zA (zA (zF 1 [] [5]))) func355 h
def L356:Y2:=λ_ a b c d=>aV .i64 b λe=>lM 1 a c λf=>aR f λf=>lL e f λe=>lU e (λe=>lM 1 a c λa=>au 5 a b λa=>ai 3 a λa=>Ld c a λa=>(lV c a e)) λe=>rt d (Value.bool e) c
theorem HA:qC L356 356:=λh=>sd (zA (zB (zF 0 [] [1]))) func356 h
def L357:Y2:=λ_ a b c d=>oP a λe=>Br e (rt d (iv 10) c) (lL b i0 λe=>lO e (λe=>lM 0 a c λa=>aR a λa=>oG b a λa=>(lV c a e)) λe=>Br (Value.bool e) (rt d (iv 2) c) (rt d i0 c))
theorem Hz:qC L357 357:=λh=>sd (zA (zB (zB (zA (zA (zB (zF 0 [] [1]))))))) func357 h
def L358:Y2:=λa b c d e=>jB (λf g=>Br f (rt e (iv 3) g) (rt e i0 g)) λf=>oQ c (ui 1) λg=>Split g false (CR e a 356 #[b,c] d λa b=>Un .not a λa=>aD vF vT a λa=>JE f [a] b) (aD vT vT undef λa=>JE f [a] d)
theorem Hy:qC L358 358:=λh=>sd (zA (zB (zF 1 [12] []))) func358 h
def L359:Y4:=λa b c d e f g=>Ld f c λh=>lM 2 h f λh=>c6 (.int .u32) (.agg nC) true f h b λh=>lX h λh i=>lQ 3 f nC 226 h λ_ f=>lO i (λh=>oQ b (ui 1) λi=>(lV f i h)) λh=>Br (Value.bool h) (rt g (.tuple #[]) f) (Ld f d λd=>CR g a 249 #[d,b] f λd f=>lX d λd _=>lQ 3 f nC 226 d λd f=>DR f λh=>Ld h c λc=>lM 2 c h λc=>ax 3 h (pt d) λh=>∀_:Hp,
aW (.int .u32) f c b h λb=>Ld b e λc=>lD 1 (pt d) b λf=>aK zQ a c #[f] b (λ_ b=>Ld b e λc=>lD 2 (pt d) b λd=>aK zQ a c #[d] b (λ_ a=>rt g (.tuple #[]) a) (dy g)) (dy g))
theorem xg:qE L359 359:=λh=>sd (.n (zA (zB (zF 0 [] [1]))) (zA (zB (zE 1 [] [] (hr 0 [1] 0 7 .e))))) func359 h
def L360:Y1:=λ_ a b c=>lM 0 a b λd=>lA d i1 λd=>cW 3 1 8 i0 b d d λb d=>lM 3 a d λe=>aR e λf=>yA [i0] d λd g h i=>lL h f λf=>Br f (jA (λf=>lA h i1 λj=>aC d g [j] f [h] i) λd=>lI 1 e h i λe=>lM 4 a i λf=>oR f h λf=>oA f (wi 1) λf=>lE f (wi 0) λf=>Br f (au 1 b e λe=>St 1 i e i1 λe=>JE d [] e) (JE d [] i)) (lM 0 a i λa=>lS a i1 λa=>yA [a] i λa d e f=>oG e i0 λg=>Br g (DR f λg=>lI 1 b e g λh=>lA e i1 λi=>lI 1 b i g λg=>lA h g λg=>au 1 b e λh=>∀_:Hp,
St 1 f h g λg=>lS e i1 λh=>aC a d [h] g [e] f) (rt c b f))
theorem Hx:qB L360 360:=λh=>sd (zA (zA (.n (zA (zB (zE 0 [18] [0,3,16,17] (zA (zA (zF 1 [] [0,3,16,17,18])))))) (zB (zA (zB (zE 0 [6] [3] (zA (zB (zB (zE 1 [] [] (hr 0 [1] 0 12 .e)))))))))))) func360 h
def L361:Y2:=λ_ a b c d=>oQ a (ui 1) λe=>Br e (Ld c b λe=>lM 0 e c λe=>rt d e c) (Ld c b λe=>lM 3 e c λe=>Ld c b λb=>lM 2 b c λb=>c6 (.int .u32) (.agg nC) false c b a λa=>An 0 a λa=>lI 1 e a c λa=>rt d a c)
theorem Hw:qC L361 361:=λh=>sd .e func361 h
def L362:Y5:=λa b c d e f g h=>lW g #[(wi 0),vF] 356 λg i=>DR i λj=>Ld j d λd=>Ld j e λk=>lI 1 k c j λc=>Ld j e λe=>Ld j f λf=>∀k:Hp,
aK zQ (a.add k) d #[b] i (λd i=>aL i j/\
DR2 i j λj=>∀k:Hp,
aK zQ (a.add k) f #[b] i (λb f=>aL f j/\
DR2 f j λi=>lI 1 e b i λb=>lS c b λb=>∀c:Hp,
CN (a.add c) 363 #[d,b] f λa b=>∀_:Hp,
St 2 b (pt g) a λa=>ax 2 a (pt g) λb=>rt h b a) fK) fK
theorem Hv:qF L362 362:=λh=>sd (zA (zB (zE 1 [] [] (hr 0 [1] 0 2 (hr 0 [1] 3 7 (zE 0 [2] [1] (zE 4 [] [] (zE 0 [10] [1] (zE 4 [] [] (hr 0 [1] 11 5 .e)))))))))) func362 h
def L363:Y2:=λ_ a b c d=>lK c a 356 λa c=>lW c #[(wi 0),vF] 356 λc e=>lE b i0 λf=>lO f (λf=>lD 0 (pt a) e λg=>lE g (wi 0) λg=>(lV e g f)) λf=>Br (Value.bool f) (ax 2 e (pt a) λf=>St 2 e (pt c) f λf=>ax 2 f (pt c) λg=>rt d g f) (lD 0 (pt a) e λf=>oL f b λf=>jA (λg=>ax 2 g (pt c) λh=>rt d h g) λd=>DR e λg=>lE f (wi 0) λh=>Br h (Build zQ 356 [(0,f),(1,vT)] λh=>∀_:Hp,
St 2 e (pt c) h λh=>JE d [] h) (oR f b λb=>lD 0 (pt a) g λa=>lN b a λa=>aD vF vT a λa=>Build zQ 356 [(0,f),(1,a)] λa=>∀_:Hp,
St 2 e (pt c) a λa=>JE d [] a))
theorem Hu:qC L363 363:=λh=>sd (zA (.n (zB (zF 0 [] [1])) (zA (zE 1 [] [4] (zE 1 [] [] (hr 0 [1] 0 3 (.h 2 [3] [] (hr 0 [1] 4 6 (zE 3 [10] [1] (hr 0 [1] 11 2 .e))) (hr 0 [1] 4 9 .e)))))))) func363 h
def L364:Y4:=λa b c d e f g=>lW f #[(wi 0),vF] 356 λf h=>Ld h c λi=>c6 (.int .u32) (.agg #[(wi 0),vF]) true h i b λi=>lX i λi j=>lQ 2 h #[(wi 0),vF] 356 i λh i=>Br j (ax 2 i (pt h) λh=>St 2 i (pt f) h λh=>ax 2 h (pt f) λj=>rt g j h) (Ld i d λh=>lM 2 h i λh=>c6 (.int .u32) (.agg nC) false i h b λh=>lQ 3 i nC 226 h λh i=>Ld i d λj=>lM 3 j i λj=>lD 0 (pt h) i λk=>lI 1 j k i λj=>lA j i1 λj=>lW i #[(wi 0),vF] 356 λi k=>jA (λl=>jA (λm=>Ld m c λc=>ax 2 m (pt i) λn=>aW (.int .u32) m c b n λb=>ax 2 b (pt i) λc=>St 2 b (pt f) c λb=>ax 2 b (pt f) λc=>rt g c b) λb=>Ld l d λc=>lM 4 c l λc=>lD 0 (pt h) l λf=>oR c f λc=>oA c (wi 1) λc=>lE c (wi 0) λc=>lO c (λc=>Ld l d λf=>lM 5 f l λf=>lD 0 (pt h) l λg=>oR f g λf=>oA f (wi 1) λf=>lE f (wi 1) λf=>(lV l f c)) λc=>Br (Value.bool c) (DR l λc=>ax 2 c (pt i) λf=>Ld c e λg=>lD 2 (pt h) c λm=>∀n:Hp,
aK zQ (a.add n) g #[m,j] l (λg m=>aL m c/\
∀c:Hp,
CN (a.add c) 365 #[f,g] m λc f=>∀_:Hp,
St 2 f (pt i) c λc=>JE b [] c) fK) (JE b [] l)) λb=>Ld k d λc=>lM 4 c k λc=>lD 0 (pt h) k λf=>oR c f λc=>oA c (wi 1) λc=>lE c (wi 0) λc=>lO c (λc=>Ld k d λd=>lM 5 d k λd=>lD 0 (pt h) k λf=>oR d f λd=>oA d (wi 1) λd=>lE d (wi 0) λd=>(lV k d c)) λc=>Br (Value.bool c) (DR k λc=>ax 2 c (pt i) λd=>Ld c e λe=>lD 1 (pt h) c λf=>∀g:Hp,
aK zQ (a.add g) e #[f,j] k (λe f=>aL f c/\
∀c:Hp,
CN (a.add c) 365 #[d,e] f λa c=>∀_:Hp,
St 2 c (pt i) a λa=>JE b [] a) fK) (JE b [] k))
theorem xf:qE L364 364:=λh=>sd (hN 5 (.h 1 [] [0,1,2,3,5,8,9,10] (zA (zB (zE 1 [] [] (hr 0 [1] 0 8 .e)))) (zE 1 [] [0,1,5,10] (zA (zB (zE 1 [] [] (hr 0 [1] 0 8 .e))))))) func364 h
def L365:Y2:=λ_ a b c d=>lK c a 356 λa c=>lK c b 356 λb c=>lW c #[(wi 0),vF] 356 λc e=>lD 0 (pt a) e λf=>lD 0 (pt b) e λg=>lA f g λf=>lD 1 (pt a) e λg=>lO g (λg=>lD 1 (pt b) e λb=>(lV e b g)) λg=>lO (Value.bool g) (λb=>lD 0 (pt a) e λa=>lL f a λa=>(lV e a b)) λb=>Build zQ 356 [(0,f),(1,(Value.bool b))] λa=>St 2 e (pt c) a λa=>ax 2 a (pt c) λb=>rt d b a
theorem Ht:qC L365 365:=λh=>sd (zA (zA (zB (zF 0 [] [1])))) func365 h
def L366:Y2:=λa b c d e=>CR e a 357 #[b,c] d λd f=>lN d i0 λg=>Br g (rt e (tP sZ d) f) (lM 0 b f λb=>lI 1 b c f λb=>CR e a 392 #[b] f λb c=>CR e a 391 #[b] c λa b=>rt e (tP a i0) b)
theorem Hs:qC L366 366:=λh=>sd .e func366 h
def L367:Y3:=λa b c d e f=>lC 0 b λb=>CR f a 287 #[b,c] e λa b=>lQ 3 b nC 226 a λa b=>lD 0 (pt a) b λe=>lE e d λd=>Br d (lD 1 (pt a) b λd=>lD 2 (pt a) b λa=>rt f (tP d a) b) (rt f (tP c c) b)
theorem Hr:qD L367 367:=λh=>sd .e func367 h
def L368:Y2:=λa b c d e=>lK d c 226 λc d=>lD 0 (pt c) d λf=>lL f i0 λf=>lO f (λf=>lD 0 (pt c) d λg=>oG g (iv 64) λg=>(lV d g f)) λf=>Br (Value.bool f) (rt e (iv 2) d) (jB (λf g=>Br f (rt e (iv 3) g) (rt e i0 g)) λf=>lD 1 (pt c) d λg=>CR e a 356 #[b,g] d λd g=>Un .not d λd=>Split d false (lD 2 (pt c) g λc=>CR e a 356 #[b,c] g λa b=>Un .not a λa=>aD vF vT a λa=>JE f [a] b) (aD vT vT undef λa=>JE f [a] g))
theorem Hq:qC L368 368:=λh=>sd (zA (zB (zB (.n (zF 0 [] [1]) (zA (zF 1 [14] [])))))) func368 h
def L379:Y2:=λa b c d e=>lK d c 226 λc d=>lD 0 (pt c) d λf=>lL f i0 λf=>Br f (lM 0 b d λf=>CR e a 185 #[f] d λf g=>rt e f g) (DR d λf=>lM 0 b f λb=>lD 0 (pt c) f λc=>CN a 150 #[b,c] d λa b=>aL b f/\
lX a λa _=>rt e a b)
theorem Ho:qC L379 379:=λh=>sd (zA (zA (zB (zF 0 (yR 12) [])))) func379 h
def L380(g:Gh)(a0 a1 a2 a3 a4 a5 a6:zV)(H:Hp)(R:Rt):Prop:=
Ld H a2 λa=>
lE a0 a λa=>
lO a (λa=>
Ld H a2 λb=>
lE a1 b λb=>
(lV H b a)) λa=>
Br (Value.bool a) (
Ld H a2 λa=>
rt R a H) (
Ld H a3 λa=>
lE a0 a λa=>
lO a (λa=>
lE a0 a1 λb=>
(lV H b a)) λa=>
Br (Value.bool a) (
rt R a1 H) (
Ld H a3 λa=>
lE a1 a λa=>
Br a (
rt R a0 H) (
Ld H a4 λa=>
lM 2 a H λa=>
lN a i0 λa=>
Br a (
rt R (ui 0) H) (
Z7 a0 a1 λa=>
WS a0 a1 λb=>
Build zQ 447 [(0,a),(1,b)] λa=>
lQ 2 H #[(ui 0),(ui 0)] 447 a λa b=>
Ld b a5 λc=>
ax 2 b (pt a) λd=>
jW zQ 447 (ui 0) true b c d λc=>
lX c λc d=>
Br d (
rt R c b) (
Ld b a4 λc=>
CR R g 326 #[c,a0] b λb c=>
lX b λb d=>
lQ 3 c nC 226 b λb c=>
Ld c a4 λe=>
CR R g 326 #[e,a1] c λc e=>
lX c λc f=>
lQ 3 e nC 226 c λc e=>
lD 0 (pt b) e λh=>
jB (λi j=>
jA (λk=>
jA (λl=>
Ld l a6 λm=>
lD 1 (pt b) l λn=>
lD 1 (pt c) l λo=>
aK zQ g m #[n,o] l (λl m=>
DR m λn=>
Ld n a4 λo=>
Ld n a6 λp=>
lD 2 (pt b) n λq=>
lD 2 (pt c) n λr=>
aK zQ g p #[q,r] m (λm p=>
aL p n/\
CN g 327 #[o,i,l,m] p λi l=>
aL l n/\
Ld l a5 λm=>
ax 2 l (pt a) λa=>
iL zQ 447 l m a i λa=>
rt R i a) fK) (dy R)) λa=>
lG f d λi=>
Br i (
ai 1 (pt c) λi=>
St 1 k i a1 λi=>
ai 2 (pt c) λl=>
St 1 i l a1 λi=>
JE a [] i) (
JE a [] k)) λa=>
lG d f λi=>
Br i (
ai 1 (pt b) λi=>
St 1 j i a0 λi=>
ai 2 (pt b) λb=>
St 1 i b a0 λb=>
JE a [] b) (
JE a [] j)) λa=>
lL f d λb=>
Br b (
lD 0 (pt c) e λb=>
JE a [b] e) (
JE a [h] e))))))
theorem Hl(h:L380 g a0 a1 a2 a3 a4 a5 a6 H R):sc g 380 #[a0,a1,a2,a3,a4,a5,a6] H R:=sd (zA (.n (zB (.n (zF 0 [] [1]) (zA (zB (zF 0 [] [1]))))) (hN 5 (.h 1 [17] [0,1,4,5,6,10,13,14,15,16] .e (.h 1 [] [1,4,5,6,10,13,14,15,16,17] .e (.h 1 [] [4,5,6,10,13,15,17] .e (zA (zB (zF 0 (yR 11) []))))))))) func380 h
def L381:Y2:=λ_ a b c d=>lK c a 397 λa c=>lK c b 397 λb c=>lD 1 (pt a) c λe=>lD 1 (pt b) c λf=>lL e f λe=>lO e (λe=>lD 1 (pt a) c λf=>lD 1 (pt b) c λg=>lE f g λf=>cm f true (λf=>lD 0 (pt a) c λa=>lD 0 (pt b) c λb=>lL a b λa=>(lV c a f)) (λf=>vF=Value.bool f) λf=>∀_:Fr,
(lV c (Value.bool f) e)) λe=>rt d (Value.bool e) c
theorem Hi:qC L381 381:=λh=>sd (zA (zB (zF 0 [] [1]))) func381 h
def L382:Y1:=λ_ a b c=>oL i1 a λa=>oR a (wi 6) λa=>WS i1 a λa=>rt c a b
theorem Hh:qB L382 382:=λh=>sd .e func382 h
def L383:Y1:=λ_ a b c=>oG a (iv 6) λd=>Br d (rt c (wi 18446744073709551615) b) (oL (wi 1) a λa=>oL (wi 1) a λa=>lS a (wi 1) λa=>rt c a b)
theorem Hg:qB L383 383:=λh=>sd .e func383 h
def L384:Y1:=λa b c d=>lK c b 116 λb c=>jB (λe f=>Br e (rt d vF f) (DR f λe=>lD 1 (pt b) e λg=>lD 1 (pt b) e λh=>aR h λh=>lS h i1 λh=>lI 1 g h e λg=>lD 0 (pt b) e λh=>CN a 383 #[h] f λf h=>aL h e/\
ae .num .andNot g f λe=>lE e (wi 0) λe=>rt d e h)) λd=>DR c λe=>lD 0 (pt b) e λf=>lL f i0 λf=>Br f (JE d [vT] c) (lD 0 (pt b) e λf=>lG f (iv 16) λf=>aD vF vT f λf=>Br f (JE d [vT] c) (lD 1 (pt b) e λf=>aR f λf=>lD 0 (pt b) e λb=>∀g:Hp,
CN (a.add g) 382 #[b] c λa b=>aL b e/\
lN f a λa=>aD vF vT a λa=>JE d [a] b))
theorem Hf:qB L384 384:=λh=>sd (zA (.n (zE 1 [19] [1] (zE 1 [] [] (hr 0 [] 0 3 (.h 2 [3] [] (hr 0 [] 4 3 (hr 3 [] 7 2 (hr 0 [] 9 7 (zF 3 [16] [])))) (hr 0 [] 4 4 (.h 2 [8] [] (hr 0 [] 9 7 (zF 3 [16] [])) (hr 0 [] 9 8 .e))))))) (zB (zF 0 (yR 14) [])))) func384 h
def L385:Y1:=λa b c d=>aR b λe=>yA [i0] c λc f g h=>lL g e λe=>Br e (au 2 b g λe=>ax 2 h e λe=>lQ 2 h #[i0,sZ] 116 e λe i=>jB (λj k=>Br j (rt d vF k) (lA g i1 λj=>aC c f [j] k [g] h)) λc=>DR i λf=>ax 2 f (pt e) λg=>∀j:Hp,
CN (a.add j) 384 #[g] i λa g=>aL g f/\
Un .not a λa=>Br a (JE c [vT] g) (lD 0 (pt e) f λa=>au 2 b i0 λb=>ai 0 b λb=>Ld f b λb=>lN a b λa=>aD vF vT a λa=>JE c [a] g)) (rt d vT h)
theorem He:qB L385 385:=λh=>sd (zA (zB (zA (zB (zE 0 [7] [0,5,6] (zA (zA (zB (zB (zA (zE 1 [22] [0,5,6,7] (zE 1 [] [] (hr 0 [] 0 3 (.h 2 [3] [] (hr 0 [] 4 7 (zF 3 [11] [])) (hr 0 [] 4 8 .e))))))))))))))) func385 h
def L386:Y2:=λ_ a b c d=>aR a λe=>aR b λf=>lN e f λe=>Br e (rt d vF c) (aR a λe=>yA [i0] c λc f g h=>lL g e λe=>Br e (lI 1 a g h λa=>lI 1 b g h λb=>lN a b λa=>Br a (rt d vF h) (lA g i1 λa=>aC c f [a] h [g] h)) (rt d vT h))
theorem G9:qC L386 386:=λh=>sd (zA (zA (zB (zA (zB (zF 0 [13] [0,1,12])))))) func386 h
def L387:Y3:=λa b c d e f=>lK e b 116 λb e=>lK e c 3 λc e=>lK e d 4 λd e=>lW e #[i0,sZ] 116 λe g=>lD 0 (pt b) g λh=>CR f a 340 #[h,(.func (.func 396) #[] #[(pt c),(pt d),(pt b)])] g λa b=>St 2 b (pt e) a λa=>ax 2 a (pt e) λb=>rt f b a
theorem G8:qD L387 387:=λh=>sd .e func387 h
def L388:Y1:=λa b c d=>gH c λc e=>aR b λf=>yA [i0] e λe g h i=>lL h f λf=>Br f (au 2 b h λb=>ax 2 i b λb=>lQ 2 i #[i0,sZ] 116 b λb f=>ax 2 f (pt b) λb=>CR d a 397 #[c,b] f λ_ a=>lA h i1 λb=>aC e g [b] a [h] i) (rt d c i)
theorem G7:qB L388 388:=λh=>sd (zA (zA (zB (zA (zB (zF 0 [9] [3,7,8])))))) func388 h
def L389:Y2:=λa b c d e=>gH d λd f=>Z5 f b λb f=>yA [i0] f λf g h i=>XW i b λj k=>Ext 0 j λj=>Br j (Ku k b λb=>Ext 1 b λb=>lQ 2 k #[i0,sZ] 116 b λb j=>ax 2 j (pt b) λl=>CR e a 398 #[l,c,vF] j λj l=>lX j λj _=>lQ 2 l #[i0,sZ] 116 j λj l=>ax 2 l (pt b) λb=>CR e a 398 #[b,c,vT] l λb c=>lX b λb _=>lQ 2 c #[i0,sZ] 116 b λb c=>DR c λl=>ax 2 l (pt j) λm=>ax 2 l (pt b) λn=>CN a 399 #[m] c λc m=>aL m l/\
CN a 399 #[n] m λa m=>aL m l/\
jB (λl n=>DR n λo=>ax 2 o (pt j) λj=>ax 2 o (pt b) λb=>aW (.string) n d c j λj=>aL j o/\
aW (.string) j d a b λb=>aC f g [l] b [h] i) λb=>ae .str .neq c a λa=>Br a (lA h i1 λa=>JE b [a] m) (JE b [h] m)) (rt e (tP d h) k)
theorem G6:qC L389 389:=λh=>sd (zA (zA (zB (zA (zB (zE 0 [7] [1,6,18] (zA (zA (zB (hN 3 (.n (zF 0 [0,2,1,3,4,5] []) (.h 1 [7] [1,6,10,12,14,15,18] .e (zF 0 (yR 8) []))))))))))))) func389 h
def L390:Y1:=λa b c d=>DR c λe=>lM 0 b e λf=>lM 1 b e λg=>CN a 273 #[f,g] c λa c=>aL c e/\
lX a λa _=>lM 2 b c λe=>lA e a λa=>lC 2 b λb=>St 1 c b a λa=>rt d (.tuple #[]) a
theorem G5:qB L390 390:=λh=>sd (zB (zF 0 (yR 14) [])) func390 h
def L391:Y1:=λa b c d=>CR d a 400 #[b] c λb c=>CR d a 401 #[b] c λ_ a=>rt d b a
theorem G4:qB L391 391:=λh=>sd .e func391 h
def L392:Y1:=λ_ a b c=>lK b a 167 λa b=>c (.returned (.func (.func 402) #[] #[(pt a)])) b
theorem G0:qB L392 392:=λh=>sd .e func392 h
def L396:Y4:=λa b c d e f g=>Ld f c λh=>oG h (iv 6) λh=>Br h (Ld f c λh=>lS h (iv 6) λh=>oL i1 h λh=>ae .num .andNot b h λh=>jB (λi j=>ai 1 e λk=>Ld j k λk=>lI 1 k i j λi=>rt g i j) λi=>Ld f d λj=>Br j (Ld f c λj=>lS j (iv 6) λj=>oL i1 j λj=>oO h j λj=>JE i [j] f) (JE i [h] f)) (DR f λh=>Ld h c λi=>Ld h c λc=>oL i1 c λc=>CN a 344 #[i,i0] f λa f=>aL f h/\
Ld f d λd=>Br d (ai 1 e λd=>Ld f d λd=>lI 1 d b f λd=>oA d a λd=>oR d c λh=>oO d h λd=>rt g d f) (ai 1 e λd=>Ld f d λd=>lI 1 d b f λb=>ae .num .andNot b a λa=>oL a c λb=>oO a b λa=>rt g a f))
theorem GZ:qE L396 396:=λh=>sd (zA (.n (zA (zB (zA (zF 1 [6] [3])))) (zB (zF 0 [0,2,3,1,4,5] [])))) func396 h
def L397:Y2:=λa b c d e=>lK d c 116 λc d=>DR d λf=>ax 2 f (pt c) λg=>ax 2 f (pt c) λc=>CN a 399 #[g] d λa d=>aL d f/\
aW (.string) d b a c λa=>rt e (.tuple #[]) a
theorem GY:qC L397 397:=λh=>sd (zA (zF 0 [0,1,3,2,4] [])) func397 h
def L398:Y3:=λa b c d e f=>lK e b 116 λb e=>lW e #[i0,sZ] 116 λe g=>ax 2 g (pt b) λh=>CR f a 404 #[h,c] g λg h=>lN g i0 λi=>Br i (Build zQ 116 [] λi=>St 2 h (pt e) i λi=>ax 2 i (pt e) λj=>rt f (tP j g) i) (ax 2 h (pt b) λb=>CR f a 387 #[b,c,d] h λa b=>St 2 b (pt e) a λa=>ax 2 a (pt e) λb=>rt f (tP b i0) a)
theorem GX:qD L398 398:=λh=>sd .e func398 h
def L399:Y1:=λ_ a b c=>lK b a 116 λa b=>lD 1 (pt a) b λa=>aR a λd=>yB [sZ,i0] b λb e f g h=>lL g d λd=>Br d (lI 1 a g h λa=>yB [f,i0] h λd i j k l=>lL k (iv 8) λm=>Br m (oM (iv 8) k λm=>oR a m λa=>aV .u8 a λa=>az zQ 204 1 [(0,a)] l λa m=>App zQ 5 1 1 (bi 0) m j a λa m=>lA k i1 λn=>aC d i [a,n] m [j,k] l) (lA g i1 λa=>aC b e [j,a] l [f,g] h)) (kY h f λa=>rt c a h)
theorem GW:qB L399 399:=λh=>sd (zA (zA (zB (zA (zB (zE 0 [3,10] [8,9] (zA (zA (zB (zB (zA (zA (zB (zF 0 [3,14] [5,8,9,10])))))))))))))) func399 h
def L400:Y1:=λa b c d=>CR d a 405 #[sZ,b] c λa b=>rt d a b
theorem GV:qB L400 400:=λh=>sd .e func400 h
def L401:Y1:=λa b c d=>aR b λe=>aV .u64 e λf=>CR d a 154 #[f] c λc f=>CR d a 406 #[b,i0,e,c] f λ_ a=>rt d (.tuple #[]) a
theorem GU:qB L401 401:=λh=>sd .e func401 h
def L404:Y2:=λa b c d e=>lK d b 116 λb d=>ax 2 d (pt b) λf=>az zQ 66 1 [(0,f)] d λd f=>CR e a 345 #[d] f λa d=>Un .not a λa=>Br a (rt e (iv 5) d) (lL c i0 λa=>lO a (λa=>lD 0 (pt b) d λb=>oG c b λb=>(lV d b a)) λa=>Br (Value.bool a) (rt e (iv 2) d) (rt e i0 d))
theorem GS:qC L404 404:=λh=>sd (zA (zB (zB (zA (zA (zB (zF 0 [] [1]))))))) func404 h
end Go.Proofs
namespace Go.Sx
open Go
section
variable {P:Program} {g:Gh} {H:Hp}
theorem aF{f:FuncId}{args:Array zV}{C:Hp}{Q:zV->Hp->Prop}(h:∀g,bD P g f args C (aM Q)):Fc P f args C Q:=h
theorem Ld.q{b off:Nat}{c:Array zV}{T:TypeId}{fz:Nat×Nat}{v:zV}{k:zV->Prop}(h:k v)(hm:(b,Obj.cells c T fz)∈H:=by repeat (first|exact List.Mem.head _|apply List.Mem.tail|apply xab))(hc:c[off]? =some v:=by rfl):Ld H (.pointer (some ⟨b,off,none⟩)) k:=.mk hm hc h
theorem Ld.f{b o off:Nat}{c:Array zV}{T:TypeId}{fz:Nat×Nat}{v:zV}{k:zV->Prop}(h:k v)(hm:(b,Obj.cells c T fz)∈H:=by repeat (first|exact List.Mem.head _|apply List.Mem.tail|apply xab))(hc:c[o+off]? =some v:=by rfl):ai off (.pointer (some ⟨b,o,none⟩)) λp=>Ld H p k:=.mk (.mk hm hc h)
theorem Ld.n{b o off:Nat}{c:Array zV}{T:TypeId}{fz:Nat×Nat}{v:zV}{k:zV->Prop}(h:k v)(hm:(b,Obj.cells c T fz)∈H:=by repeat (first|exact List.Mem.head _|apply List.Mem.tail|apply xab))(hc:c[o+off]? =some v:=by rfl):Nil (.pointer (some ⟨b,o,none⟩)) λq=>ai off q λp=>Ld H p k:=.ptr (.mk (.mk hm hc h))
theorem Ld.u{b o off:Nat}{c:Array zV}{T:TypeId}{fz:Nat×Nat}{v:zV}{k:zV->Prop}(hm:(b,Obj.cells c T fz)∈H)(h:k v)(hc:c[o+off]? =some v:=by rfl):ai off (.pointer (some ⟨b,o,none⟩)) λp=>Ld H p k:=.mk (.mk hm hc h)
theorem Ld.v{b o off:Nat}{c:Array zV}{T:TypeId}{fz:Nat×Nat}{v:zV}{k:zV->Prop}(hm:(b,Obj.cells c T fz)∈H)(h:k v)(hc:c[o+off]? =some v:=by rfl):Nil (.pointer (some ⟨b,o,none⟩)) λq=>ai off q λp=>Ld H p k:=.ptr (.mk (.mk hm hc h))
theorem ax.q{b n:Nat}{r:List zV}{T:TypeId}{fz:Nat×Nat}{K:zV->Prop}(h:K (.agg r.toArray))(hm:(b,Obj.cells r.toArray T fz)∈H:=by repeat (first|exact List.Mem.head _|apply List.Mem.tail|apply xab))(hr:r.length=n:=by rfl):ax n H (.pointer (some ⟨b,0,none⟩)) K:=.whole hm hr h
theorem St.q{b n:Nat}{c:Array zV}{T:TypeId}{r:List zV}{H':Hp}{K:Hp->Prop}(h:K H')(hu:c8 b (.cells c T zZ) (.cells r.toArray T zZ) H H':=by repeat (first|exact c8.head _|apply c8.tail|apply c8.cc))(hs:c.size=n:=by rfl)(hr:r.length=n:=by rfl)(h1:∀v∈r,v.oneCell'=true:=by simp[Value.oneCell']):
  St n H (.pointer (some ⟨b,0,none⟩)) (.agg r.toArray) K:=.whole hu hs hr h1 h
theorem St.p{b n:Nat}{c:Array zV}{T:TypeId}{r:List zV}{H':Hp}{K:Hp->Prop}(h1:∀v∈r,v.oneCell'=true)(h:K H')(hu:c8 b (.cells c T zZ) (.cells r.toArray T zZ) H H':=by repeat (first|exact c8.head _|apply c8.tail|apply c8.cc))(hs:c.size=n:=by rfl)(hr:r.length=n:=by rfl):
  St n H (.pointer (some ⟨b,0,none⟩)) (.agg r.toArray) K:=.whole hu hs hr h1 h
section
variable {kd xY:IntKind} {a b:Nat} {k:zV->Prop}
theorem ae.eZ(h:k (.int kd ((a+b:Nat):Int)))(hr:a+b<bG kd:=by first|(simp[bG];omega)|(simp only[bG];omega)|simp[bG]):ae .num .add (.int kd a) (.int kd b) k:=.WL hr h
theorem ae.inc(h:k (.int kd ((a+1:Nat):Int)))(hr:a+1<bG kd:=by first|(simp[bG];omega)|(simp only[bG];omega)|simp[bG]):ae .num .add (.int kd a) (.int kd 1) k:=.WL hr h
theorem ae.bZ(h:k (.int kd ((a-b:Nat):Int)))(ha:a<bG kd:=by first|(simp[bG];omega)|(simp only[bG];omega)|simp[bG])(hb:b<=a:=by omega):ae .num .sub (.int kd a) (.int kd b) k:=.xO ha hb h
theorem ae.xW(h:k (.int kd ((a*b:Nat):Int)))(hr:a*b<bG kd:=by first|(simp[bG];omega)|(simp only[bG];omega)|simp[bG]):ae .num .mul (.int kd a) (.int kd b) k:=.afb hr h
theorem aV.q(h:k (.int kd (a:Int)))(ha:a<bG kd:=by first|(simp[bG];omega)|(simp only[bG];omega)|simp[bG]):aV kd (.int xY a) k:=.nat ha h
end
theorem Br.T{p:Prop}[Decidable p]{t f:Prop}(h:t)(hp:p:=by first|omega|decide|simp):Br (.bool (decide p)) t f:=.adw hp h
theorem Br.F{p:Prop}[Decidable p]{t f:Prop}(h:f)(hp:¬p:=by first|omega|decide|simp):Br (.bool (decide p)) t f:=.SM hp h
theorem aa.fq{f:FuncId}{args:Array zV}{C H:Hp}{c:Hp->Hp}{Q:zV->Hp->Prop}{K:zV->Hp->Prop}{KP:List PanicEntry->Hp->Prop}(hc:Fc P f args C Q)
 (hk:∀v C',Q v C'->K v (c C'))(hh:bI C H c:=by repeat (first|exact bI.here|exact bI.left|apply bI.cons|apply bI.app)):aa P g f args H K KP:=.fn hh hc hk
theorem aa.rq{f:FuncId}{args:Array zV}{B H:Hp}{c:Hp->Hp}{Q:zV->Prop}{K:zV->Hp->Prop}{KP:List PanicEntry->Hp->Prop}(hc:Rd P f args B Q)
 (hk:∀v,Q v->K v H)(hh:bI B H c:=by repeat (first|exact bI.here|exact bI.left|apply bI.cons|apply bI.app)):aa P g f args H K KP:=.rd hh hc hk
theorem aa.eq{f:FuncId}{args:Array zV}{B H:Hp}{c:Hp->Hp}{v:zV}{K:zV->Hp->Prop}{KP:List PanicEntry->Hp->Prop}(hc:Rd P f args B (· =v))
 (hk:K v H)(hh:bI B H c:=by repeat (first|exact bI.here|exact bI.left|apply bI.cons|apply bI.app)):aa P g f args H K KP:=.rd hh hc λ_ h=>by subst h;exact hk
theorem aa.eh{f:FuncId}{args:Array zV}{B H:Hp}{c:Hp->Hp}{v:zV}{K:zV->Hp->Prop}{KP:List PanicEntry->Hp->Prop}(hh:bI B H c)(hc:Rd P f args B (· =v))
 (hk:K v H):aa P g f args H K KP:=.rd hh hc λ_ h=>by subst h;exact hk
theorem aa.pq{f:FuncId}{args:Array zV}{B H:Hp}{c:Hp->Hp}{Q:zV->Hp->Prop}{K:zV->Hp->Prop}{KP:List PanicEntry->Hp->Prop}(hc:Px P f args B Q)
 (hk:∀v N,Q v (N++B)->K v (c (N++B)))(hh:bI B H c:=by repeat (first|exact bI.here|exact bI.left|apply bI.cons|apply bI.app)):aa P g f args H K KP:=.px hh hc hk
theorem Ext.two{x y:zV}{k:zV->zV->Prop}(h:k x y):Ext 0 (.tuple #[x,y]) λa=>Ext 1 (.tuple #[x,y]) λb=>k a b:=.mk rfl (.mk rfl h)
end
end Go.Sx
set_option maxRecDepth 100000
namespace Go.Proofs
open Go Go.Sx Tryz
section
theorem wP{B:Hp}{s:zV}{n:Int}{K:zV->Hp->Prop}(h:∀b,K (.slice (some ⟨b,0,none⟩) 1 1) ((b,.cells #[iv n,s] 116 zZ)::B)):
  az zQ 66 1 [(0,.agg #[iv n,s])] B K:=
 az.one (r:=[iv n,s]) (e:=116) (k:=2) (z:=.agg #[iv 0,.slice none 0 0]) zK zK zK zD rfl h
theorem Fm{G:Nat->Nat}{W:Nat}:((List.range W).map λk=>if k<W then G k else 0)=(List.range W).map G:=by
 apply xbq;intro k hk;rw[xad (xaM.1 hk)]
theorem uF{n:Nat}{ws:zL}(h:an.fg n ws):ws.length<=4294967296:=by have:=h.len;have:=an.yp h.xU;omega
theorem bO{B:Hp}{s:zV}{ws:zL}(h:Words B s ws):s.oneCell'=true:=by obtain⟨a,c,rfl,_⟩:=h.1.shape;rfl
theorem MT{G:Nat->Nat}{W i:Nat}(hi:i<W):(iw ((List.range W).map λk=>if k<i then G k else 0)).set i ((G i:Nat):Int)=iw ((List.range W).map λk=>if k<i+1 then G k else 0):=by
 apply xbg;intro j;unfold iw;by_cases e:i=j
 ·subst e;simp[hi]
 rw[xbI e];by_cases hj:j<W
 ·simp only[xau,xc7 hj,xci];by_cases h2:j<i
  ·rw[xad h2,xad zO]
  rw[xac h2,xac zO]
 rw[xaE zP,xaE zP]
theorem range_zero{G:Nat->Nat}{W:Nat}:List.replicate W (0:Int)=iw ((List.range W).map λk=>if k<0 then G k else 0):=by
 apply xbg;intro j;unfold iw;by_cases hj:j<W
 ·simp[hj]
 rw[xaE zP,xaE zP]
theorem kV{n:Nat}(hn:n<=16):an.wN n<=9223372036854775807/\an.wN n*8<=281474976710656:=by have:=an.yp hn;omega
end
section
def fw(l:List Bool):Array zV:=(l.map Value.bool).toArray
theorem GG(l:List Bool)(i:Nat)(b:Bool):(fw l).setIfInBounds i (.bool b)=fw (l.set i b):=by simp[fw,xcN]
theorem FG(n:Nat):madeCells (Value.cells (.bool false)) (n*1)=fw (List.replicate n false):=by
 apply Array.ext
 ·simp[madeCells,fw]
 intro i h1 h2;simp[madeCells,fw,Value.cells,Nat.mod_one]
def Ex(B:Hp)(v:zV)(l:List Bool):Prop:=Sl 1 B v (l.map λb=>[Value.bool b])
theorem Ex.block{B:Hp}{b cap:Nat}{l:List Bool}{T:TypeId}{fz:Nat×Nat}(hm:(b,Obj.cells (fw l) T fz)∈B)(hc:l.length<=cap):Ex B (.slice (some ⟨b,0,none⟩) l.length cap) l:=by
 refine⟨λr hr=>by obtain⟨b,_,rfl⟩:=xan.1 hr;rfl,.inr ⟨b,0,cap,_,T,fz,by simp,by simpa using hc,hm,by simp[fw],λi r hi j v hj=>?_⟩⟩;rw[xau]at hi;cases hl:l[i]? with
 |none=>rw[hl]at hi;simp at hi
 |some n=>
  rw[hl]at hi;simp only[xci,xas]at hi;subst hi;cases j with
  |zero=>
   simp only[xcK,xas]at hj;subst hj;simp[fw,hl]
  |succ j=>simp at hj
theorem Ex.ld{kd:IntKind}{B H:Hp}{v:zV}{l:List Bool}(h:Ex B v l){i:Nat}{b:Bool}(hi:l[i]? =some b)(hs:∀x∈B,x∈H){K:zV->Prop}(hk:K (.bool b)):au 1 v (.int kd (i:Int)) (λp=>Ld H p K):=
 au.sl h (by rw[xau,hi];rfl) λp hp=>Ld.at hp hs hk
theorem cW.Ta{H:Hp}{T:TypeId}{kl:IntKind}{n:Nat}{K:zV->Hp->Prop}(cJ:n<=281474976710656)
 (h:∀b,K (.slice (some ⟨b,0,none⟩) n n) ((b,.cells (fw (List.replicate n false)) T zZ)::H)):cW T 1 1 (.bool false) H (.int kl n) (.int kl n) K:=
 ⟨kl,kl,n,n,rfl,rfl,xag _,by omega,by omega,λb _=>by rw[FG];exact h b⟩
theorem St.Ta{H:Hp}{b i:Nat}{l:List Bool}{x:Bool}{T:TypeId}{H':Hp}{K:Hp->Prop}(hu:c8 b (.cells (fw l) T zZ) (.cells (fw (l.set i x)) T zZ) H H')(hi:i<l.length)(h:K H'):
  St 1 H (.pointer (some ⟨b,0+i*1,none⟩)) (.bool x) K:=
 St.one (c:=fw l) (c':=fw (l.set i x)) hu rfl (by simpa[fw]using hi) (by rw[xa3,xb4];exact GG l i x) h
def Mx(n:Nat)(L:List (zL)):List Tb:=L.map λws=>⟨n,ws⟩
theorem pU(n:Nat)(L:List (zL)):(Mx n L).length=L.length:=by simp[Mx]
end
end Go.Proofs
namespace aA
open an
theorem dj{x u v:Nat}{b c:Bool}(h:u≠v):aB (aB x u b) v c=aB (aB x v c) u b:=by
 apply xaW;intro k;rw[aj,aj,aj,aj];by_cases e1:k=u<;>by_cases e2:k=v
 ·exact absurd (e1.symm.trans e2) h
 ·simp[e1,h]
 ·simp[e2,xba h]
 simp[e1,e2]
structure Nd where
 v:Nat
 lo:Nat
 hi:Nat
deriving DecidableEq
abbrev eH:=Nat->Option Nd
abbrev Fn:=Nat->Bool
def live(N:eH)(r:Nat):Prop:=r<2\/∃d,N r=some d
def dep(n:Nat)(ah:Nat->Nat)(N:eH)(r:Nat):Nat:=match N r with|some d=>ah d.v|none=>n
structure WF(n:Nat)(ah:Nat->Nat)(N:eH):Prop where
 two:∀{r d},N r=some d->2<=r
 var:∀{r d},N r=some d->d.v<n
 ne:∀{r d},N r=some d->d.lo≠d.hi
 lo:∀{r d},N r=some d->live N d.lo/\ah d.v<dep n ah N d.lo
 hi:∀{r d},N r=some d->live N d.hi/\ah d.v<dep n ah N d.hi
 uq:∀{r r' d},N r=some d->N r'=some d->r=r'
structure jX(n:Nat)(ah:Nat->Nat):Prop where
 lt:∀v,v<n->ah v<n
 inj:∀u v,u<n->v<n->ah u=ah v->u=v
structure Interp(N:eH)(S:Nat->Fn):Prop where
 zero:∀x,S 0 x=false
 one:∀x,S 1 x=true
 node:∀{r d},N r=some d->∀x,S r x=if x.testBit d.v then S d.hi x else S d.lo x
variable {n:Nat} {ah:Nat->Nat} {N:eH} {S:Nat->Fn}
theorem aT{r:Nat}(h:N r=none):dep n ah N r=n:=by unfold dep;rw[h]
theorem aq{r:Nat}{d:Nd}(h:N r=some d):dep n ah N r=ah d.v:=by unfold dep;rw[h]
theorem WF.iD(h:WF n ah N)(hl:jX n ah)(r:Nat):dep n ah N r<=n:=by
 cases e:N r with
 |none=>rw[aT e];exact xag _
 |some d=>rw[aq e];exact xb9 (hl.lt _ (h.var e))
theorem WF.const(h:WF n ah N){r:Nat}(hr:r<2):N r=none:=by
 cases e:N r with
 |none=>rfl
 |some d=>have:=h.two e;omega
theorem WF.indep(h:WF n ah N)(hl:jX n ah)(hi:Interp N S):∀(k r:Nat),n-dep n ah N r<=k->live N r->∀v,v<n->ah v<dep n ah N r->∀x b,S r (aB x v b)=S r x:=by
 intro k;induction k with
 |zero=>
  intro r hk hr v hv hlt x b;rcases hr with hr|⟨d,hd⟩
  ·have:r=0\/r=1:=by omega
   rcases this with rfl|rfl
   ·rw[hi.zero,hi.zero]
   rw[hi.one,hi.one]
  have h1:=hl.lt _ (h.var hd);rw[aq hd]at hk;omega
 |succ k ih=>
  intro r hk hr v hv hlt x b;rcases hr with hr|⟨d,hd⟩
  ·have:r=0\/r=1:=by omega
   rcases this with rfl|rfl
   ·rw[hi.zero,hi.zero]
   rw[hi.one,hi.one]
  rw[aq hd]at hk hlt;have h1:=hl.lt _ (h.var hd);obtain⟨l1,l2⟩:=h.lo hd;obtain⟨m1,m2⟩:=h.hi hd;have hne:d.v≠v:=λe=>by rw[e]at hlt;omega
  rw[hi.node hd,hi.node hd,aj,xac hne,ih d.lo zO l1 v hv zO,ih d.hi zO m1 v hv zO]
theorem WF.bN(h:WF n ah N)(hl:jX n ah)(hi:Interp N S){r:Nat}(hr:live N r){v:Nat}(hv:v<n)(hlt:ah v<dep n ah N r)(x:Nat)(b:Bool):S r (aB x v b)=S r x:=
 h.indep hl hi _ r (xag _) hr v hv hlt x b
theorem WF.child(h:WF n ah N)(hl:jX n ah)(hi:Interp N S){r:Nat}{d:Nd}(hd:N r=some d)(x:Nat)(b:Bool):S r (aB x d.v b)=S (if b then d.hi else d.lo) x:=by
 obtain⟨l1,l2⟩:=h.lo hd;obtain⟨m1,m2⟩:=h.hi hd;rw[hi.node hd,aj,xad rfl];cases b
 ·simp only[xaQ,xa0];exact h.bN hl hi l1 (h.var hd) l2 x false
 simp only[xa7];exact h.bN hl hi m1 (h.var hd) m2 x true
theorem WF.canon(h:WF n ah N)(hl:jX n ah)(hi:Interp N S):∀(k r r':Nat),(n-dep n ah N r)+(n-dep n ah N r')<=k->live N r->live N r'->(∀x,S r x=S r' x)->r=r':=by
 intro k;induction k with
 |zero=>
  intro r r' hk hr hr' he;have hc:∀{r},n-dep n ah N r=0->live N r->r<2:=by
   intro r hk hr;rcases hr with hr|⟨d,hd⟩
   ·exact hr
   have h1:=hl.lt _ (h.var hd);rw[aq hd]at hk;omega
  have h1:=hc zO hr;have h2:=hc zO hr';have e0:=he 0;have:r=0\/r=1:=by omega
  have h3:r'=0\/r'=1:=by omega
  rcases this with rfl|rfl<;>rcases h3 with rfl|rfl<;>simp[hi.zero,hi.one]at e0<;>rfl
 |succ k ih=>
  have Ty:∀r r',(n-dep n ah N r)+(n-dep n ah N r')<=k+1->live N r'->(∀x,S r x=S r' x)->∀d,N r=some d->ah d.v<dep n ah N r'->False:=by
   intro r r' hk hr' he d hd hlt;obtain⟨l1,l2⟩:=h.lo hd;obtain⟨m1,m2⟩:=h.hi hd;have hv:=h.var hd;have h1:=hl.lt _ hv;have d1:=h.iD hl d.lo;have d2:=h.iD hl d.hi;have d3:=h.iD hl r';rw[aq hd]at hk;have a1:d.lo=r':=ih d.lo r' zO l1 hr' λx=>by
    have:=h.child hl hi hd x false;simp only[xaQ,xa0]at this;rw[<-this,he,h.bN hl hi hr' hv hlt]
   have a2:d.hi=r':=ih d.hi r' zO m1 hr' λx=>by
    have:=h.child hl hi hd x true;simp only[xa7]at this;rw[<-this,he,h.bN hl hi hr' hv hlt]
   exact h.ne hd (a1.trans a2.symm)
  intro r r' hk hr hr' he;rcases hr with hr|⟨d,hd⟩
  ·rcases hr' with hr'|⟨d',dP⟩
   ·have e0:=he 0;have:r=0\/r=1:=by omega
    have h3:r'=0\/r'=1:=by omega
    rcases this with rfl|rfl<;>rcases h3 with rfl|rfl<;>simp[hi.zero,hi.one]at e0<;>rfl
   refine(Ty r' r zO (.inl hr) (λx=>(he x).symm) d' dP ?_).elim;rw[aT (h.const hr)];exact hl.lt _ (h.var dP)
  rcases xcI (ah d.v) (dep n ah N r')with hlt|heq|hgt
  ·exact(Ty r r' hk hr' he d hd hlt).elim
  ·rcases hr' with hr'|⟨d',dP⟩
   ·rw[aT (h.const hr')]at heq;have:=hl.lt _ (h.var hd);omega
   rw[aq dP]at heq;have hv:=hl.inj _ _ (h.var hd) (h.var dP) heq;obtain⟨l1,l2⟩:=h.lo hd;obtain⟨m1,m2⟩:=h.hi hd;obtain⟨YG,l2'⟩:=h.lo dP;obtain⟨m1',m2'⟩:=h.hi dP;have h1:=hl.lt _ (h.var hd);have d1:=h.iD hl d.lo;have d2:=h.iD hl d.hi;have d1':=h.iD hl d'.lo;have d2':=h.iD hl d'.hi;rw[aq hd,aq dP]at hk;have c1:=λx=>h.child hl hi hd x false;have c2:=λx=>h.child hl hi hd x true;have c1':=λx=>h.child hl hi dP x false;have c2':=λx=>h.child hl hi dP x true;simp only[xaQ,xa0,xa7]at c1 c2 c1' c2';have a1:d.lo=d'.lo:=ih d.lo d'.lo zO l1 YG λx=>by rw[<-c1,<-c1',he,hv]
   have a2:d.hi=d'.hi:=ih d.hi d'.hi zO m1 m1' λx=>by rw[<-c2,<-c2',he,hv]
   have:d=d':=by cases d;cases d';simp_all
   subst this;exact h.uq hd dP
  rcases hr' with hr'|⟨d',dP⟩
  ·rw[aT (h.const hr')]at hgt;have:=hl.lt _ (h.var hd);omega
  rw[aq dP]at hgt;refine(Ty r' r zO (.inr ⟨d,hd⟩) (λx=>(he x).symm) d' dP ?_).elim;rw[aq hd];exact hgt
theorem WF.same(h:WF n ah N)(hl:jX n ah)(hi:Interp N S){r r':Nat}(hr:live N r)(hr':live N r')(he:∀x,S r x=S r' x):r=r':=h.canon hl hi _ r r' (xag _) hr hr' he
end aA
namespace aA
open an
variable {n:Nat} {ah:Nat->Nat} {N:eH} {S:Nat->Fn} {ord:zL}
def cE(g:Fn)(v:Nat):Prop:=∃x,g (aB x v false)≠g (aB x v true)
def fs(ord:zL)(F:Fn->Prop):Nat->Fn->Prop
 |0,g=>F g
 |l+1,g=>∃f,fs ord F l f/\∃b,g=λx=>f (aB x (ord.getD l 0) b)
def aG(n:Nat)(ord:zL)(F:Fn->Prop)(g:Fn):Prop:=∃l,l<n/\fs ord F l g/\cE g (ord.getD l 0)
structure Ord(n:Nat)(ah:Nat->Nat)(ord:zL):Prop where
 len:ord.length=n
 bc:∀l,l<n->ord.getD l 0<n/\ah (ord.getD l 0)=l
theorem Ord.of(h:Ord n ah ord)(hl:jX n ah){v:Nat}(hv:v<n):ord.getD (ah v) 0=v:=by
 obtain⟨h1,h2⟩:=h.bc _ (hl.lt v hv);exact hl.inj _ _ h1 hv h2
def Fs(S:Nat->Fn)(R:Nat->Prop)(g:Fn):Prop:=∃r,R r/\g=S r
def A(N:eH)(ah:Nat->Nat)(n:Nat)(R:Nat->Prop):Nat->Nat->Prop
 |0,r=>R r
 |l+1,r=>(A N ah n R l r/\dep n ah N r≠l)\/∃p d,A N ah n R l p/\N p=some d/\ah d.v=l/\(r=d.lo\/r=d.hi)
variable {R:Nat->Prop}
theorem th(h:WF n ah N)(hR:∀r,R r->live N r):∀l r,A N ah n R l r->live N r/\l<=dep n ah N r
 |0,r,ha=>⟨hR r ha,xaN _⟩
 |l+1,r,ha=>by
  rcases ha with⟨h1,h2⟩|⟨p,d,h1,h2,h3,h4⟩
  ·have:=th h hR l r h1;exact⟨this.1,by omega⟩
  rcases h4 with rfl|rfl
  ·have:=h.lo h2;exact⟨this.1,by omega⟩
  have:=h.hi h2;exact⟨this.1,by omega⟩
theorem tg{r:Nat}:∀k l,A N ah n R l r->l+k<=dep n ah N r->A N ah n R (l+k) r
 |0,l,ha,_=>ha
 |k+1,l,ha,hk=>by
  have h1:=tg k l ha zO;have h2:dep n ah N r≠l+k:=by omega
  exact .inl ⟨h1,h2⟩
def Reach(N:eH)(R:Nat->Prop):Prop:=∀r d,N r=some d->R r\/∃p e,N p=some e/\(e.lo=r\/e.hi=r)
theorem X2(h:WF n ah N)(hr:Reach N R):∀k r d,N r=some d->ah d.v<=k->A N ah n R (ah d.v) r:=by
 intro k;induction k with
 |zero=>
  intro r d hd hk;rcases hr r d hd with h1|⟨p,e,h1,h2⟩
  ·rw[show ah d.v=0 by omega];exact h1
  have:=h.lo h1;have h3:=h.hi h1;rcases h2 with rfl|rfl
  ·rw[aq hd]at this;omega
  rw[aq hd]at h3;omega
 |succ k ih=>
  intro r d hd hk;rcases hr r d hd with h1|⟨p,e,h1,h2⟩
  ·have:=tg (N:=N) (ah:=ah) (n:=n) (R:=R) (r:=r) (ah d.v) 0 h1 (by rw[aq hd];omega);rwa [xa3]at this
  have hlt:ah e.v<ah d.v:=by
   have:=h.lo h1;have h3:=h.hi h1;rcases h2 with rfl|rfl
   ·rw[aq hd]at this;omega
   rw[aq hd]at h3;omega
  have ha:=ih p e h1 zO;have hb:A N ah n R (ah e.v+1) r:=.inr ⟨p,e,ha,h1,rfl,by rcases h2 with rfl|rfl;exact .inl rfl;exact .inr rfl⟩;have:=tg (ah d.v-(ah e.v+1)) _ hb (by rw[aq hd];omega);rwa [show ah e.v+1+(ah d.v-(ah e.v+1))=ah d.v by omega]at this
theorem NM(h:WF n ah N)(hl:jX n ah)(ho:Ord n ah ord)(hi:Interp N S)(hR:∀r,R r->live N r):∀l,l<=n->∀g,fs ord (Fs S R) l g↔∃r,A N ah n R l r/\g=S r
 |0,_,g=>xcR
 |l+1,BJ,g=>by
  obtain⟨v1,v2⟩:=ho.bc l BJ;have ih:=NM h hl ho hi hR l zO;constructor
  ·rintro⟨f,hf,b,rfl⟩;obtain⟨r,ha,rfl⟩:=(ih f).1 hf;obtain⟨hlv,hle⟩:=th h hR l r ha;by_cases e:dep n ah N r=l
   ·rcases hlv with hc|⟨d,hd⟩
    ·rw[aT (h.const hc)]at e;omega
    rw[aq hd]at e;have hv:d.v=ord.getD l 0:=hl.inj _ _ (h.var hd) v1 zO;refine⟨if b then d.hi else d.lo,.inr ⟨r,d,ha,hd,e,by cases b<;>simp⟩,?_⟩
    funext x
    rw[<-hv];exact h.child hl hi hd x b
   refine⟨r,.inl ⟨ha,e⟩,?_⟩
   funext x
   exact h.bN hl hi hlv v1 zO x b
  rintro⟨r,ha,rfl⟩;rcases ha with⟨h1,h2⟩|⟨p,d,h1,h2,h3,h4⟩
  ·obtain⟨hlv,hle⟩:=th h hR l r h1;refine⟨S r,(ih _).2 ⟨r,h1,rfl⟩,false,?_⟩
   funext x
   exact(h.bN hl hi hlv v1 zO x false).symm
  have hv:d.v=ord.getD l 0:=hl.inj _ _ (h.var h2) v1 zO;rcases h4 with rfl|rfl
  ·refine⟨S p,(ih _).2 ⟨p,h1,rfl⟩,false,?_⟩
   funext x
   rw[<-hv];exact(h.child hl hi h2 x false).symm
  refine⟨S p,(ih _).2 ⟨p,h1,rfl⟩,true,?_⟩
  funext x
  rw[<-hv];exact(h.child hl hi h2 x true).symm
theorem nN(h:WF n ah N)(hl:jX n ah)(ho:Ord n ah ord)(hi:Interp N S)(hR:∀r,R r->live N r)(hr:Reach N R)(g:Fn):aG n ord (Fs S R) g↔∃r d,N r=some d/\g=S r:=by
 constructor
 ·rintro⟨l,BJ,hf,x,hx⟩;obtain⟨v1,v2⟩:=ho.bc l BJ;obtain⟨r,ha,rfl⟩:=(NM h hl ho hi hR l zO g).1 hf;obtain⟨hlv,hle⟩:=th h hR l r ha;by_cases e:dep n ah N r=l
  ·rcases hlv with hc|⟨d,hd⟩
   ·rw[aT (h.const hc)]at e;omega
   exact⟨r,d,hd,rfl⟩
  exact absurd (by rw[h.bN hl hi hlv v1 zO,h.bN hl hi hlv v1 zO]) hx
 rintro⟨r,d,hd,rfl⟩;have hv:=h.var hd;have hlt:=hl.lt _ hv;refine⟨ah d.v,hlt,(NM h hl ho hi hR _ zO _).2 ⟨r,X2 h hr _ r d hd (xag _),rfl⟩,?_⟩;rw[ho.of hl hv];refine xaK λhno=>h.ne hd (h.same hl hi (h.lo hd).1 (h.hi hd).1 λx=>?_);have c1:=h.child hl hi hd x false;have c2:=h.child hl hi hd x true;simp only[xaQ,xa0,xa7]at c1 c2;rw[<-c1,<-c2];exact xaK λhne=>hno ⟨x,hne⟩
def pC(P:Fn->Prop)(k:Nat):Prop:=∃l:List Fn,l.Nodup/\l.length=k/\∀g,P g↔g∈l
theorem pC.congr{P Q:Fn->Prop}{k:Nat}(h:pC P k)(e:∀g,P g↔Q g):pC Q k:=let ⟨l,h1,h2,h3⟩:=h;⟨l,h1,h2,λg=>(e g).symm.trans (h3 g)⟩
theorem cv{α:Type}:∀{l l':List α},l.Nodup->(∀x∈l,x∈l')->l.length<=l'.length
 | [],l',_,_=>xaN _
 |x::l,l',hn,hs=>by
  obtain⟨h1,h2⟩:=xaX.1 hn;obtain⟨a,b,rfl⟩:=xdc (hs x zI);have:=cv (l':=a++b) h2 λy hy=>by
   have:=hs y (by simp[hy]);rcases xao.1 this with h|h
   ·exact xae _ h
   rcases xam.1 h with rfl|h
   ·exact absurd hy h1
   exact xab _ h
  simp at this⊢;omega
theorem pC.le{P Q:Fn->Prop}{k k':Nat}(h:pC P k)(h':pC Q k')(e:∀g,P g->Q g):k<=k':=by
 obtain⟨l,h1,h2,h3⟩:=h;obtain⟨l',sR,oX,zj⟩:=h';rw[<-h2,<-oX];exact cv h1 λx hx=>(zj x).1 (e x ((h3 x).2 hx))
theorem pC.uniq{P:Fn->Prop}{k k':Nat}(h:pC P k)(h':pC P k'):k=k':=xd5 (h.le h' λ_=>id) (h'.le h λ_=>id)
theorem pC.none:pC (λ_=>False) 0:=⟨[],by simp,rfl,by simp⟩
theorem pC.or{P Q:Fn->Prop}{k k':Nat}(h:pC P k)(h':pC Q k')(e:∀g,P g->¬Q g):pC (λg=>P g\/Q g) (k+k'):=by
 obtain⟨l,h1,h2,h3⟩:=h;obtain⟨l',sR,oX,zj⟩:=h';refine⟨l++l',xa5.2 ⟨h1,sR,λa ha b hb e'=>?_⟩,by rw[xaf,h2,oX],λg=>by rw[xao,<-h3,<-zj]⟩;subst e';exact e a ((h3 a).2 ha) ((zj a).2 hb)
theorem zW(h:WF n ah N)(hl:jX n ah)(hi:Interp N S){dom:zL}(hd:dom.Nodup)(hm:∀r,r∈dom↔∃d,N r=some d):pC (λg=>∃r d,N r=some d/\g=S r) dom.length:=by
 refine⟨dom.map S,?_,by simp,λg=>?_⟩
 ·refine xcc.2 (hd.imp_of_mem λ{a b} ha hb hne heq=>hne ?_);exact h.same hl hi (.inr ((hm a).1 ha)) (.inr ((hm b).1 hb)) λx=>by rw[heq]
 rw[xan];constructor
 ·rintro⟨r,d,h1,rfl⟩;exact⟨r,(hm r).2 ⟨d,h1⟩,rfl⟩
 rintro⟨r,h1,rfl⟩;obtain⟨d,h2⟩:=(hm r).1 h1;exact⟨r,d,h2,rfl⟩
end aA
namespace aA
open an
def up{α:Type}(N:Nat->α)(r:Nat)(o:α):Nat->α:=λs=>if s=r then o else N s
@[simp] theorem aO{α:Type}{N:Nat->α}{r:Nat}{o:α}:up N r o r=o:=xad rfl
theorem aS{α:Type}{N:Nat->α}{r s:Nat}{o:α}(h:s≠r):up N r o s=N s:=xac h
def qI(T:Nd->Option Nat)(d:Nd)(o:Option Nat):Nd->Option Nat:=λe=>if e=d then o else T e
@[simp] theorem jL{T:Nd->Option Nat}{d:Nd}{o:Option Nat}:qI T d o d=o:=xad rfl
theorem pS{T:Nd->Option Nat}{d e:Nd}{o:Option Nat}(h:e≠d):qI T d o e=T e:=xac h
def e1:Option Nd->Nat->Nat
 |none,_=>0
 |some d,r=>(if d.lo=r then 1 else 0)+(if d.hi=r then 1 else 0)
theorem eC(d:Nd)(r:Nat):e1 (some d) r=(if d.lo=r then 1 else 0)+(if d.hi=r then 1 else 0):=rfl
def dw(N:eH)(r:Nat):Nat->Nat
 |0=>0
 |k+1=>dw N r k+e1 (N k) r
def ny(N:eH):Nat->Nat
 |0=>0
 |k+1=>ny N k+(if(N k).isSome then 1 else 0)
theorem zv{N:eH}{s r:Nat}{o:Option Nd}:∀{k},(s<k->dw (up N s o) r k+e1 (N s) r=dw N r k+e1 o r)/\(k<=s->dw (up N s o) r k=dw N r k)
 |0=>⟨λh=>by omega,λ_=>rfl⟩
 |k+1=>by
  obtain⟨i1,i2⟩:=zv (N:=N) (s:=s) (r:=r) (o:=o) (k:=k);refine⟨λh=>?_,λh=>?_⟩
  ·rw[dw,dw];by_cases e:s=k
   ·subst e;rw[aO,i2 (xag _)];omega
   have:=i1 zO;rw[aS (λh=>e h.symm)];omega
  rw[dw,dw,i2 zO,aS zO]
theorem wB{N:eH}{s r k:Nat}{o:Option Nd}(h:s<k):dw (up N s o) r k+e1 (N s) r=dw N r k+e1 o r:=zv.1 h
theorem rU{N:eH}{s:Nat}{o:Option Nd}:∀{k},(s<k->ny (up N s o) k+(if(N s).isSome then 1 else 0)=ny N k+(if o.isSome then 1 else 0))/\(k<=s->ny (up N s o) k=ny N k)
 |0=>⟨λh=>by omega,λ_=>rfl⟩
 |k+1=>by
  obtain⟨i1,i2⟩:=rU (N:=N) (s:=s) (o:=o) (k:=k);refine⟨λh=>?_,λh=>?_⟩
  ·rw[ny,ny];by_cases e:s=k
   ·subst e;rw[aO,i2 (xag _)];omega
   have:=i1 zO;rw[aS (λh=>e h.symm)];omega
  rw[ny,ny,i2 zO,aS zO]
theorem jT{N:eH}{r:Nat}:∀{k},dw N r k=0->∀s,s<k->∀d,N s=some d->d.lo≠r/\d.hi≠r
 |0,_,s,hs,_,_=>by omega
 |k+1,h,s,hs,d,hd=>by
  rw[dw]at h;by_cases e:s=k
  ·subst e;rw[hd,eC]at h;constructor
   ·intro h1;rw[xad h1]at h;omega
   intro h1;rw[xad h1]at h;omega
  exact jT (k:=k) zO s zO d hd
theorem sX{N:eH}{r:Nat}:∀{k},0<dw N r k->∃s d,s<k/\N s=some d/\(d.lo=r\/d.hi=r)
 |0,h=>by simp[dw]at h
 |k+1,h=>by
  rw[dw]at h;by_cases hk:0<dw N r k
  ·obtain⟨s,d,h1,h2,h3⟩:=sX hk;exact⟨s,d,by omega,h2,h3⟩
  cases hd:N k with
  |none=>rw[hd]at h;simp[e1]at h;omega
  |some d=>
   refine⟨k,d,by omega,hd,?_⟩;rw[hd,eC]at h;by_cases h1:d.lo=r
   ·exact .inl h1
   by_cases h2:d.hi=r
   ·exact .inr h2
   rw[xac h1,xac h2]at h;omega
theorem DV{N:eH}{r:Nat}:∀k,dw N r k<=2*k
 |0=>xag _
 |k+1=>by
  have:=DV (N:=N) (r:=r) k;rw[dw];have:e1 (N k) r<=2:=by
   cases N k with
   |none=>simp[e1]
   |some d=>rw[eC];split<;>split<;>omega
  omega
theorem D5(N:eH):∀k,((List.range k).filter λr=>(N r).isSome).length=ny N k
 |0=>rfl
 |k+1=>by
  rw[xb6,xbJ,xaf,D5 N k,ny];congr 1;cases h:N k<;>simp[h]
structure Kd where
 n:Nat
 cap:Nat
 used:Nat
 N:eH
 T:Nd->Option Nat
 us:zL
 ho:zL
def Kd.hold(K:Kd)(r:Nat):Nat:=K.ho.getD r 0
def Kd.use(K:Kd)(r:Nat):Nat:=K.us.getD r 0
structure jK(K:Kd)(S:Nat->Fn)(E:Nat->Prop)(P:Nat->Nat):Prop where
 two:∀{r d},K.N r=some d->2<=r/\r<K.cap
 var:∀{r d},K.N r=some d->d.v<K.n
 ne:∀{r d},K.N r=some d->d.lo≠d.hi
 lo:∀{r d},K.N r=some d->live K.N d.lo
 hi:∀{r d},K.N r=some d->live K.N d.hi
 int:Interp K.N S
 j5:∀d r,K.T d=some r↔K.N r=some d/\¬E r
 use:∀{r d},K.N r=some d->K.use r=dw K.N r K.cap+(if K.hold r=0 then 0 else 1)+P r
 len:K.us.length=K.ho.length
 fit:∀{r d},K.N r=some d->r<K.us.length
 held:∀r,K.hold r≠0->∃d,K.N r=some d
 mx:∀r,K.hold r<=65535
 room:K.used=2+ny K.N K.cap
 cap:K.used<=K.cap/\K.cap<=1048576
variable {K:Kd} {S:Nat->Fn} {E:Nat->Prop} {P:Nat->Nat}
theorem kF{N:eH}{r s:Nat}{d:Nd}(h:live N s):live (up N r (some d)) s:=by
 rcases h with h|⟨e,h⟩
 ·exact .inl h
 by_cases e2:s=r
 ·subst e2;exact .inr ⟨d,aO⟩
 exact .inr ⟨e,by rw[aS e2];exact h⟩
theorem yW{N:eH}{r s:Nat}(h:live N s)(hne:s≠r):live (up N r none) s:=by
 rcases h with h|⟨e,h⟩
 ·exact .inl h
 exact .inr ⟨e,by rw[aS hne];exact h⟩
def Pos(K:Kd):Prop:=∀r d,K.N r=some d->0<K.use r
theorem jK.less(h:jK K S E P){r:Nat}{dB:zL}(hP:0<P r)(hl:dB.length=K.us.length)(h1:dB.getD r 0+1=K.use r)(h2:∀s,s≠r->dB.getD s 0=K.use s):
  jK {K with us:=dB} S E (up P r (P r-1)) where
 two:=h.two
 var:=h.var
 ne:=h.ne
 lo:=h.lo
 hi:=h.hi
 int:=h.int
 j5:=h.j5
 use:=λ{s d} hd=>by
  have:=h.use hd;show dB.getD s 0=dw K.N s K.cap+(if K.hold s=0 then 0 else 1)+up P r (P r-1) s;by_cases e:s=r
  ·subst e;rw[aO];omega
  rw[h2 s e,aS e];exact this
 len:=by show dB.length=_;rw[hl];exact h.len
 fit:=λ{s d} hd=>by show s<dB.length;rw[hl];exact h.fit hd
 held:=h.held
 mx:=h.mx
 room:=h.room
 cap:=h.cap
theorem jK.free(h:jK K S E P){r:Nat}{d:Nd}(hd:K.N r=some d)(hE:¬E r)(h0:K.use r=0):
  jK {K with N:=up K.N r none,T:=qI K.T d none,used:=K.used-1} S E (λs=>P s+e1 (some d) s) where
 two:=λ{s e} hs=>by
  have hs':up K.N r none s=some e:=hs;by_cases e2:s=r
  ·subst e2;rw[aO]at hs';cases hs'
  rw[aS e2]at hs';exact h.two hs'
 var:=λ{s e} hs=>by
  have hs':up K.N r none s=some e:=hs;by_cases e2:s=r
  ·subst e2;rw[aO]at hs';cases hs'
  rw[aS e2]at hs';exact h.var hs'
 ne:=λ{s e} hs=>by
  have hs':up K.N r none s=some e:=hs;by_cases e2:s=r
  ·subst e2;rw[aO]at hs';cases hs'
  rw[aS e2]at hs';exact h.ne hs'
 lo:=λ{s e} hs=>by
  have hs':up K.N r none s=some e:=hs;by_cases e2:s=r
  ·subst e2;rw[aO]at hs';cases hs'
  rw[aS e2]at hs';have hu:=h.use hd;exact yW (h.lo hs') (jT zO s (h.two hs').2 e hs').1
 hi:=λ{s e} hs=>by
  have hs':up K.N r none s=some e:=hs;by_cases e2:s=r
  ·subst e2;rw[aO]at hs';cases hs'
  rw[aS e2]at hs';have hu:=h.use hd;exact yW (h.hi hs') (jT zO s (h.two hs').2 e hs').2
 int:=⟨h.int.zero,h.int.one,λ{s e} hs x=>by
  have hs':up K.N r none s=some e:=hs;by_cases e2:s=r
  ·subst e2;rw[aO]at hs';cases hs'
  rw[aS e2]at hs';exact h.int.node hs' x⟩
 j5:=λe s=>by
  show qI K.T d none e=some s↔up K.N r none s=some e/\_;by_cases e2:e=d
  ·subst e2;rw[jL];constructor
   ·intro h;cases h
   rintro⟨h1,h2⟩;by_cases e3:s=r
   ·subst e3;rw[aO]at h1;cases h1
   rw[aS e3]at h1;have a:=(h.j5 e s).2 ⟨h1,h2⟩;have b:=(h.j5 e r).2 ⟨hd,hE⟩;rw[a]at b;cases b;exact absurd rfl e3
  rw[pS e2,h.j5];by_cases e3:s=r
  ·subst e3;rw[aO];constructor
   ·rintro⟨h1,_⟩;rw[hd]at h1;cases h1;exact absurd rfl e2
   rintro⟨h1,_⟩;cases h1
  rw[aS e3]
 use:=λ{s e} hs=>by
  have hs':up K.N r none s=some e:=hs;by_cases e2:s=r
  ·subst e2;rw[aO]at hs';cases hs'
  rw[aS e2]at hs';have hu:=h.use hs';have he:=wB (N:=K.N) (s:=r) (r:=s) (k:=K.cap) (o:=none) (h.two hd).2;show K.use s=dw (up K.N r none) s K.cap+(if K.hold s=0 then 0 else 1)+(P s+e1 (some d) s);rw[hd]at he;have:e1 none s=0:=rfl;omega
 len:=h.len
 fit:=λ{s e} hs=>by
  have hs':up K.N r none s=some e:=hs;by_cases e2:s=r
  ·subst e2;rw[aO]at hs';cases hs'
  rw[aS e2]at hs';exact h.fit hs'
 held:=λs hs=>by
  obtain⟨e,he⟩:=h.held s hs;have hne:s≠r:=λe2=>by
   subst e2;have hu:=h.use hd;have hs':K.hold s≠0:=hs;rw[xac hs']at hu;omega
  exact⟨e,by show up K.N r none s=_;rw[aS hne];exact he⟩
 mx:=h.mx
 room:=by
  have:=(rU (N:=K.N) (s:=r) (o:=none) (k:=K.cap)).1 (h.two hd).2;have hr:=h.room;rw[hd]at this;show K.used-1=2+ny (up K.N r none) K.cap;simp at this;omega
 cap:=⟨by have:=h.cap.1;show K.used-1<=K.cap;omega,h.cap.2⟩
theorem jK.more(h:jK K S E P){r:Nat}{dB:zL}(hl:dB.length=K.us.length)(h1:dB.getD r 0=K.use r+1)(h2:∀s,s≠r->dB.getD s 0=K.use s):
  jK {K with us:=dB} S E (up P r (P r+1)) where
 two:=h.two
 var:=h.var
 ne:=h.ne
 lo:=h.lo
 hi:=h.hi
 int:=h.int
 j5:=h.j5
 use:=λ{s d} hd=>by
  have:=h.use hd;show dB.getD s 0=dw K.N s K.cap+(if K.hold s=0 then 0 else 1)+up P r (P r+1) s;by_cases e:s=r
  ·subst e;rw[aO];omega
  rw[h2 s e,aS e];exact this
 len:=by show dB.length=_;rw[hl];exact h.len
 fit:=λ{s d} hd=>by show s<dB.length;rw[hl];exact h.fit hd
 held:=h.held
 mx:=h.mx
 room:=h.room
 cap:=h.cap
end aA
namespace aA
open an
variable {K:Kd} {S:Nat->Fn} {E:Nat->Prop} {P:Nat->Nat}
def ite(S:Nat->Fn)(d:Nd):Fn:=λx=>if x.testBit d.v then S d.hi x else S d.lo x
theorem gh{N:eH}{r s:Nat}(h:live N s)(h2:2<=r)(hr:N r=none):s≠r:=λe=>by
 subst e;rcases h with h|⟨d,h⟩
 ·omega
 rw[hr]at h;cases h
theorem jK.lay(h:jK K S E P){r:Nat}{d:Nd}{dB cA:zL}(hr:K.N r=none)(h2:2<=r/\r<K.cap)(hv:d.v<K.n)(hne:d.lo≠d.hi)(hlo:live K.N d.lo)(hhi:live K.N d.hi)(hT:K.T d=none)(hE:¬E r)
 (hP:P r=0)(hro:K.used<K.cap)(hl:dB.length=cA.length)(hf:r<dB.length/\K.us.length<=dB.length)(u0:dB.getD r 0=0)(u1:∀s,2<=s->s≠r->dB.getD s 0=K.use s+e1 (some d) s)(o0:cA.getD r 0=0)(o1:∀s,s≠r->cA.getD s 0=K.hold s):
  jK {K with N:=up K.N r (some d),T:=qI K.T d (some r),used:=K.used+1,us:=dB,ho:=cA} (up S r (ite S d)) E P where
 two:=λ{s e} hs=>by
  have hs':up K.N r (some d) s=some e:=hs;by_cases e2:s=r
  ·subst e2;exact h2
  rw[aS e2]at hs';exact h.two hs'
 var:=λ{s e} hs=>by
  have hs':up K.N r (some d) s=some e:=hs;by_cases e2:s=r
  ·subst e2;rw[aO]at hs';cases hs';exact hv
  rw[aS e2]at hs';exact h.var hs'
 ne:=λ{s e} hs=>by
  have hs':up K.N r (some d) s=some e:=hs;by_cases e2:s=r
  ·subst e2;rw[aO]at hs';cases hs';exact hne
  rw[aS e2]at hs';exact h.ne hs'
 lo:=λ{s e} hs=>by
  have hs':up K.N r (some d) s=some e:=hs;by_cases e2:s=r
  ·subst e2;rw[aO]at hs';cases hs';exact kF hlo
  rw[aS e2]at hs';exact kF (h.lo hs')
 hi:=λ{s e} hs=>by
  have hs':up K.N r (some d) s=some e:=hs;by_cases e2:s=r
  ·subst e2;rw[aO]at hs';cases hs';exact kF hhi
  rw[aS e2]at hs';exact kF (h.hi hs')
 int:=⟨λx=>by rw[aS zO];exact h.int.zero x,λx=>by rw[aS zO];exact h.int.one x,λ{s e} hs x=>by
  have hs':up K.N r (some d) s=some e:=hs;by_cases e2:s=r
  ·subst e2;rw[aO]at hs';cases hs';rw[aO,aS (gh hlo h2.1 hr),aS (gh hhi h2.1 hr)];rfl
  rw[aS e2]at hs';rw[aS e2,aS (gh (h.lo hs') h2.1 hr),aS (gh (h.hi hs') h2.1 hr)];exact h.int.node hs' x⟩
 j5:=λe s=>by
  show qI K.T d (some r) e=some s↔up K.N r (some d) s=some e/\_;by_cases e2:e=d
  ·subst e2;rw[jL];constructor
   ·intro h;cases h;exact⟨aO,hE⟩
   rintro⟨h1,oX⟩;by_cases e3:s=r
   ·rw[e3]
   rw[aS e3]at h1;have a:=(h.j5 e s).2 ⟨h1,oX⟩;rw[hT]at a;cases a
  rw[pS e2,h.j5];by_cases e3:s=r
  ·subst e3;rw[aO,hr];constructor
   ·rintro⟨h1,_⟩;cases h1
   rintro⟨h1,_⟩;cases h1;exact absurd rfl e2
  rw[aS e3]
 use:=λ{s e} hs=>by
  have hs':up K.N r (some d) s=some e:=hs;have he:=wB (N:=K.N) (s:=r) (r:=s) (k:=K.cap) (o:=some d) h2.2;rw[hr]at he;have h0:e1 none s=0:=rfl;show dB.getD s 0=dw (up K.N r (some d)) s K.cap+(if cA.getD s 0=0 then 0 else 1)+P s;by_cases e2:s=r
  ·subst e2;have hz:dw K.N s K.cap=0:=by
    refine Nat.eq_zero_of_not_pos λhp=>?_;obtain⟨t,e',_,ht,hc⟩:=sX hp;have Dy:=gh (h.lo ht) h2.1 hr;have qK:=gh (h.hi ht) h2.1 hr;rcases hc with hc|hc
    ·exact Dy hc
    exact qK hc
   have hd0:e1 (some d) s=0:=by
    rw[eC,xac (gh hlo h2.1 hr),xac (gh hhi h2.1 hr)]
   rw[u0,o0,xad rfl];omega
  rw[aS e2]at hs';have hu:=h.use hs';have h3:cA.getD s 0=K.hold s:=o1 s e2;rw[u1 s (h.two hs').1 e2,h3];omega
 len:=hl
 fit:=λ{s e} hs=>by
  have hs':up K.N r (some d) s=some e:=hs;show s<dB.length;by_cases e2:s=r
  ·subst e2;exact hf.1
  rw[aS e2]at hs';exact xaO (h.fit hs') hf.2
 held:=λs hs=>by
  have hs':cA.getD s 0≠0:=hs;by_cases e2:s=r
  ·subst e2;exact⟨d,aO⟩
  rw[o1 s e2]at hs';obtain⟨e,he⟩:=h.held s hs';exact⟨e,by show up K.N r (some d) s=_;rw[aS e2];exact he⟩
 mx:=λs=>by
  show cA.getD s 0<=65535;by_cases e2:s=r
  ·subst e2;rw[o0];decide
  rw[o1 s e2];exact h.mx s
 room:=by
  have:=(rU (N:=K.N) (s:=r) (o:=some d) (k:=K.cap)).1 h2.2;have hr':=h.room;rw[hr]at this;show K.used+1=2+ny (up K.N r (some d)) K.cap;simp at this;omega
 cap:=⟨by show K.used+1<=K.cap;omega,h.cap.2⟩
theorem jK.af2(h:jK K S E P){r:Nat}{d:Nd}(hd:K.N r=some d)(hE:¬E r):jK {K with T:=qI K.T d none} S (λs=>E s\/s=r) P where
 two:=h.two
 var:=h.var
 ne:=h.ne
 lo:=h.lo
 hi:=h.hi
 int:=h.int
 j5:=λe s=>by
  show qI K.T d none e=some s↔_;by_cases e2:e=d
  ·subst e2;rw[jL];constructor
   ·intro h;cases h
   rintro⟨h1,h2⟩;have a:=(h.j5 e s).2 ⟨h1,λx=>h2 (.inl x)⟩;have b:=(h.j5 e r).2 ⟨hd,hE⟩;rw[a]at b;cases b;exact absurd (.inr rfl) h2
  rw[pS e2,h.j5];constructor
  ·rintro⟨h1,h2⟩;refine⟨h1,λx=>?_⟩;rcases x with x|rfl
   ·exact h2 x
   have sR:K.N s=some e:=h1;rw[hd]at sR;cases sR;exact e2 rfl
  rintro⟨h1,h2⟩;exact⟨h1,λx=>h2 (.inl x)⟩
 use:=h.use
 len:=h.len
 fit:=h.fit
 held:=h.held
 mx:=h.mx
 room:=h.room
 cap:=h.cap
theorem jK.Au(h:jK K S E P){r:Nat}{d d':Nd}{P':Nat->Nat}(hd:K.N r=some d)(hE:E r)(hv:d'.v<K.n)(hne:d'.lo≠d'.hi)(hlo:live K.N d'.lo)(hhi:live K.N d'.hi)(hT:K.T d'=none)(hS:∀x,S r x=ite S d' x)
 (hP:∀s,2<=s->P' s+e1 (some d') s=P s+e1 (some d) s):jK {K with N:=up K.N r (some d'),T:=qI K.T d' (some r)} S (λs=>E s/\s≠r) P' where
 two:=λ{s e} hs=>by
  have hs':up K.N r (some d') s=some e:=hs;by_cases e2:s=r
  ·subst e2;exact h.two hd
  rw[aS e2]at hs';exact h.two hs'
 var:=λ{s e} hs=>by
  have hs':up K.N r (some d') s=some e:=hs;by_cases e2:s=r
  ·subst e2;rw[aO]at hs';cases hs';exact hv
  rw[aS e2]at hs';exact h.var hs'
 ne:=λ{s e} hs=>by
  have hs':up K.N r (some d') s=some e:=hs;by_cases e2:s=r
  ·subst e2;rw[aO]at hs';cases hs';exact hne
  rw[aS e2]at hs';exact h.ne hs'
 lo:=λ{s e} hs=>by
  have hs':up K.N r (some d') s=some e:=hs;by_cases e2:s=r
  ·subst e2;rw[aO]at hs';cases hs';exact kF hlo
  rw[aS e2]at hs';exact kF (h.lo hs')
 hi:=λ{s e} hs=>by
  have hs':up K.N r (some d') s=some e:=hs;by_cases e2:s=r
  ·subst e2;rw[aO]at hs';cases hs';exact kF hhi
  rw[aS e2]at hs';exact kF (h.hi hs')
 int:=⟨h.int.zero,h.int.one,λ{s e} hs x=>by
  have hs':up K.N r (some d') s=some e:=hs;by_cases e2:s=r
  ·subst e2;rw[aO]at hs';cases hs';exact hS x
  rw[aS e2]at hs';exact h.int.node hs' x⟩
 j5:=λe s=>by
  show qI K.T d' (some r) e=some s↔up K.N r (some d') s=some e/\¬(E s/\s≠r);by_cases e2:e=d'
  ·subst e2;rw[jL];constructor
   ·intro h;cases h;exact⟨aO,λx=>x.2 rfl⟩
   rintro⟨h1,oX⟩;by_cases e3:s=r
   ·rw[e3]
   rw[aS e3]at h1;have a:=(h.j5 e s).2 ⟨h1,λx=>oX ⟨x,e3⟩⟩;rw[hT]at a;cases a
  rw[pS e2,h.j5];by_cases e3:s=r
  ·subst e3;rw[aO];constructor
   ·rintro⟨_,h1⟩;exact absurd hE h1
   rintro⟨h1,_⟩;cases h1;exact absurd rfl e2
  rw[aS e3];constructor
  ·rintro⟨h1,h2⟩;exact⟨h1,λx=>h2 x.1⟩
  rintro⟨h1,h2⟩;exact⟨h1,λx=>h2 ⟨x,e3⟩⟩
 use:=λ{s e} hs=>by
  have hs':up K.N r (some d') s=some e:=hs;have he:=wB (N:=K.N) (s:=r) (r:=s) (k:=K.cap) (o:=some d') (h.two hd).2;rw[hd]at he;show K.use s=dw (up K.N r (some d')) s K.cap+(if K.hold s=0 then 0 else 1)+P' s;by_cases e2:s=r
  ·subst e2;have hu:=h.use hd;have:=hP s (h.two hd).1;omega
  rw[aS e2]at hs';have hu:=h.use hs';have:=hP s (h.two hs').1;omega
 len:=h.len
 fit:=λ{s e} hs=>by
  have hs':up K.N r (some d') s=some e:=hs;by_cases e2:s=r
  ·subst e2;exact h.fit hd
  rw[aS e2]at hs';exact h.fit hs'
 held:=λs hs=>by
  obtain⟨e,he⟩:=h.held s hs;by_cases e2:s=r
  ·subst e2;exact⟨d',aO⟩
  exact⟨e,by show up K.N r (some d') s=_;rw[aS e2];exact he⟩
 mx:=h.mx
 room:=by
  have:=(rU (N:=K.N) (s:=r) (o:=some d') (k:=K.cap)).1 (h.two hd).2;have hr':=h.room;rw[hd]at this;show K.used=2+ny (up K.N r (some d')) K.cap;simp at this;omega
 cap:=h.cap
theorem jK.keep(h:jK K S E P){r:Nat}{dB cA:zL}(hr:∃d,K.N r=some d)(hm:K.hold r<65535)(hl:dB.length=K.us.length/\cA.length=K.ho.length)(o0:cA.getD r 0=K.hold r+1)(o1:∀s,s≠r->cA.getD s 0=K.hold s)
 (u0:dB.getD r 0=K.use r+(if K.hold r=0 then 1 else 0))(u1:∀s,s≠r->dB.getD s 0=K.use s):jK {K with us:=dB,ho:=cA} S E P where
 two:=h.two
 var:=h.var
 ne:=h.ne
 lo:=h.lo
 hi:=h.hi
 int:=h.int
 j5:=h.j5
 use:=λ{s e} hs=>by
  have hu:=h.use hs;show dB.getD s 0=dw K.N s K.cap+(if cA.getD s 0=0 then 0 else 1)+P s;by_cases e2:s=r
  ·subst e2;rw[u0,o0,xac (by omega:¬K.hold s+1=0)];by_cases e3:K.hold s=0
   ·rw[xad e3]at hu⊢;omega
   rw[xac e3]at hu⊢;omega
  rw[u1 s e2,o1 s e2];exact hu
 len:=by show dB.length=cA.length;rw[hl.1,hl.2];exact h.len
 fit:=λ{s e} hs=>by show s<dB.length;rw[hl.1];exact h.fit hs
 held:=λs hs=>by
  have hs':cA.getD s 0≠0:=hs;by_cases e2:s=r
  ·subst e2;exact hr
  rw[o1 s e2]at hs';exact h.held s hs'
 mx:=λs=>by
  show cA.getD s 0<=65535;by_cases e2:s=r
  ·subst e2;rw[o0];omega
  rw[o1 s e2];exact h.mx s
 room:=h.room
 cap:=h.cap
theorem jK.drop(h:jK K S E P){r:Nat}{cA:zL}(hr:0<K.hold r)(hl:cA.length=K.ho.length)(o0:cA.getD r 0+1=K.hold r)(o1:∀s,s≠r->cA.getD s 0=K.hold s):
  jK {K with ho:=cA} S E (if K.hold r=1 then up P r (P r+1)else P) where
 two:=h.two
 var:=h.var
 ne:=h.ne
 lo:=h.lo
 hi:=h.hi
 int:=h.int
 j5:=h.j5
 use:=λ{s e} hs=>by
  have hu:=h.use hs;show K.use s=dw K.N s K.cap+(if cA.getD s 0=0 then 0 else 1)+(if K.hold r=1 then up P r (P r+1)else P) s;by_cases e2:s=r
  ·subst e2;rw[xac (by omega:¬K.hold s=0)]at hu;by_cases e3:K.hold s=1
   ·rw[xad e3,aO,xad zO];omega
   rw[xac e3,xac zO];omega
  rw[o1 s e2];by_cases e3:K.hold r=1
  ·rw[xad e3,aS e2];exact hu
  rw[xac e3];exact hu
 len:=by show K.us.length=cA.length;rw[hl];exact h.len
 fit:=h.fit
 held:=λs hs=>by
  have hs':cA.getD s 0≠0:=hs;by_cases e2:s=r
  ·subst e2;exact h.held s zO
  rw[o1 s e2]at hs';exact h.held s hs'
 mx:=λs=>by
  show cA.getD s 0<=65535;have:=h.mx r;by_cases e2:s=r
  ·subst e2;omega
  rw[o1 s e2];exact h.mx s
 room:=h.room
 cap:=h.cap
theorem jK.congr(h:jK K S E P){E':Nat->Prop}{P':Nat->Nat}(hE:∀s,E s↔E' s)(hP:∀s,2<=s->P s=P' s):jK K S E' P' where
 two:=h.two
 var:=h.var
 ne:=h.ne
 lo:=h.lo
 hi:=h.hi
 int:=h.int
 j5:=λd r=>by rw[h.j5,hE]
 use:=λ{s e} hs=>by rw[<-hP s (h.two hs).1];exact h.use hs
 len:=h.len
 fit:=h.fit
 held:=h.held
 mx:=h.mx
 room:=h.room
 cap:=h.cap
def iP:Nat->Prop:=λ_=>False
def zero':Nat->Nat:=λ_=>0
structure Ok(K:Kd)(S:Nat->Fn)(ah:Nat->Nat):Prop where
 mid:jK K S iP zero'
 pos:Pos K
 lv:jX K.n ah
 wf:WF K.n ah K.N
theorem jK.uq(h:jK K S iP P){r r':Nat}{d:Nd}(h1:K.N r=some d)(h2:K.N r'=some d):r=r':=by
 have a:=(h.j5 d r).2 ⟨h1,λx=>x⟩;have b:=(h.j5 d r').2 ⟨h2,λx=>x⟩;rw[a]at b;cases b;rfl
theorem jK.wf(h:jK K S iP P){ah:Nat->Nat}(hl:∀{r d},K.N r=some d->ah d.v<dep K.n ah K.N d.lo/\ah d.v<dep K.n ah K.N d.hi):WF K.n ah K.N:=
 ⟨λhd=>(h.two hd).1,h.var,h.ne,λhd=>⟨h.lo hd,(hl hd).1⟩,λhd=>⟨h.hi hd,(hl hd).2⟩,h.uq⟩
theorem Ok.reach{ah:Nat->Nat}(h:Ok K S ah):Reach K.N (λr=>K.hold r≠0):=λr d hd=>by
 have hu:=h.mid.use hd;have hp:=h.pos r d hd;by_cases e:K.hold r=0
 ·rw[xad e]at hu;have:zero' r=0:=rfl;obtain⟨s,e',_,h1,h2⟩:=sX (N:=K.N) (r:=r) (k:=K.cap) zO;exact .inr ⟨s,e',h1,h2⟩
 exact .inl e
theorem Ok.dom{ah:Nat->Nat}(h:Ok K S ah):∃dom:zL,dom.Nodup/\dom.length+2=K.used/\∀r,r∈dom↔∃d,K.N r=some d:=by
 refine⟨(List.range K.cap).filter λr=>(K.N r).isSome,xbn.filter _,by rw[D5,h.mid.room];omega,λr=>?_⟩;rw[xbV,xaM,xdF];exact⟨λh=>h.2,λ⟨d,hd⟩=>⟨(h.mid.two hd).2,d,hd⟩⟩
def Kd.held(K:Kd)(S:Nat->Fn):Fn->Prop:=Fs S λr=>K.hold r≠0
theorem Ok.size{ah:Nat->Nat}{ord:zL}(h:Ok K S ah)(ho:Ord K.n ah ord):pC (aG K.n ord (K.held S)) (K.used-2):=by
 obtain⟨dom,h1,h2,h3⟩:=h.dom;have hc:=zW h.wf h.lv h.mid.int h1 h3;rw[show dom.length=K.used-2 by omega]at hc;refine hc.congr λg=>?_;exact(nN h.wf h.lv ho h.mid.int (λr hr=>.inr (h.mid.held r hr)) h.reach g).symm
end aA
namespace aA
open an
variable {n:Nat} {ah:Nat->Nat} {N:eH} {S:Nat->Fn} {ord:zL} {K:Kd}
def pl(N:eH)(y r:Nat):Nat:=match N r with|some e=>if e.v=y then e.lo else r|none=>r
def ph(N:eH)(y r:Nat):Nat:=match N r with|some e=>if e.v=y then e.hi else r|none=>r
theorem UT{y r:Nat}{e:Nd}(h:N r=some e)(hv:e.v=y):pl N y r=e.lo/\ph N y r=e.hi:=by simp[pl,ph,h,hv]
theorem UU{y r:Nat}(h:∀e,N r=some e->e.v≠y):pl N y r=r/\ph N y r=r:=by
 unfold pl ph;cases hr:N r with
 |none=>exact⟨rfl,rfl⟩
 |some e=>simp[h e hr]
theorem WF.half(h:WF n ah N)(hl:jX n ah)(hi:Interp N S){y l r:Nat}(hy:y<n/\ah y=l+1)(hr:live N r)(hd:l<dep n ah N r):
  (live N (pl N y r)/\l+1<dep n ah N (pl N y r))/\(live N (ph N y r)/\l+1<dep n ah N (ph N y r))/\∀z,S r z=if z.testBit y then S (ph N y r) z else S (pl N y r) z:=by
 by_cases e:∃e,N r=some e/\e.v=y
 ·obtain⟨e,he,hv⟩:=e;obtain⟨p1,p2⟩:=UT he hv;rw[p1,p2];have h1:=h.lo he;have h2:=h.hi he;rw[hv,hy.2]at h1 h2;exact⟨h1,h2,λz=>by rw[hi.node he,hv]⟩
 have ho:∀e',N r=some e'->e'.v≠y:=λe' h1 h2=>e ⟨e',h1,h2⟩;obtain⟨p1,p2⟩:=UU ho;rw[p1,p2];have x8:l+1<dep n ah N r:=by
  rcases hr with hr|⟨e',he⟩
  ·rw[aT (h.const hr)];have:=hl.lt y hy.1;omega
  rw[aq he]at hd⊢;have h1:=ho e' he;refine Nat.lt_of_le_of_ne hd λe2=>h1 (hl.inj _ _ (h.var he) hy.1 zO)
 exact⟨⟨hr,x8⟩,⟨hr,x8⟩,λz=>by split<;>rfl⟩
theorem WF.VZ(h:WF n ah N)(hl:jX n ah)(hi:Interp N S){y l a b:Nat}(hy:y<n/\ah y=l+1)(ha:live N a)(hb:live N b)(da:l<dep n ah N a)(db:l<dep n ah N b)
 (h1:pl N y a=pl N y b)(h2:ph N y a=ph N y b):a=b:=by
 refine h.same hl hi ha hb λz=>?_;rw[(h.half hl hi hy ha da).2.2 z,(h.half hl hi hy hb db).2.2 z,h1,h2]
structure Cx where
 r:Nat
 d:Nd
 yg:Nat
 yf:Nat
 tR:Nat
 tQ:Nat
def mW(N:eH)(x y r:Nat)(d:Nd):Prop:=N r=some d/\d.v=x/\((∃e,N d.lo=some e/\e.v=y)\/∃e,N d.hi=some e/\e.v=y)
def n7(N:eH)(y r:Nat)(d:Nd):Cx:=⟨r,d,pl N y d.lo,ph N y d.lo,pl N y d.hi,ph N y d.hi⟩
structure L8(N:eH)(x y:Nat)(l:List Cx):Prop where
 nd:(l.map Cx.r).Nodup
 mem:∀c,c∈l↔mW N x y c.r c.d/\c=n7 N y c.r c.d
def keys(x:Nat)(c:Cx):List Nd:=[⟨x,c.yg,c.tR⟩,⟨x,c.yf,c.tQ⟩]
structure Made(K:Kd)(x:Nat)(l:List Cx)(made:List Nd):Prop where
 nd:made.Nodup
 mem:∀k,k∈made↔(∃c∈l,k∈keys x c)/\K.T k=none/\k.lo≠k.hi
structure Nb(n:Nat)(ah:Nat->Nat)(x y l:Nat):Prop where
 xn:x<n
 yn:y<n
 lx:ah x=l
 ly:ah y=l+1
variable {x y l:Nat}
theorem Nb.ne(h:Nb n ah x y l):x≠y:=λe=>by have h1:=h.lx;have h2:=h.ly;rw[e]at h1;omega
theorem Nb.yy(h:Nb n ah x y l):y<n/\ah y=l+1:=⟨h.yn,h.ly⟩
theorem lP(h:WF n ah N)(hl:jX n ah)(hi:Interp N S)(hb:Nb n ah x y l){r:Nat}{d:Nd}(hd:N r=some d)(hx:d.v=x){k:Nd}(hk:k∈keys x (n7 N y r d)):
  k.v=x/\(live N k.lo/\l+1<dep n ah N k.lo)/\(live N k.hi/\l+1<dep n ah N k.hi):=by
 have h1:=h.lo hd;have h2:=h.hi hd;rw[hx,hb.lx]at h1 h2;have a:=h.half hl hi hb.yy h1.1 h1.2;have b:=h.half hl hi hb.yy h2.1 h2.2;simp only[keys,n7,xam,xaP,xbD]at hk;rcases hk with rfl|rfl
 ·exact⟨rfl,a.1,b.1⟩
 exact⟨rfl,a.2.1,b.2.1⟩
theorem wG(h:WF n ah N)(hl:jX n ah)(hi:Interp N S)(hb:Nb n ah x y l){r:Nat}{d:Nd}(hd:N r=some d)(hx:d.v=x)(z:Nat):
  S r z=if z.testBit y then ite S ⟨x,ph N y d.lo,ph N y d.hi⟩ z else ite S ⟨x,pl N y d.lo,pl N y d.hi⟩ z:=by
 have h1:=h.lo hd;have h2:=h.hi hd;rw[hx,hb.lx]at h1 h2;have a:=(h.half hl hi hb.yy h1.1 h1.2).2.2 z;have b:=(h.half hl hi hb.yy h2.1 h2.2).2.2 z;rw[hi.node hd,hx,a,b];unfold ite;simp only;cases z.testBit x<;>cases z.testBit y<;>rfl
theorem js(h:WF n ah N)(hl:jX n ah)(hi:Interp N S)(hb:Nb n ah x y l){k:Nd}(hk:k.v=x)(h1:live N k.lo/\l+1<dep n ah N k.lo)(h2:live N k.hi/\l+1<dep n ah N k.hi)(z:Nat)(b:Bool):
  ite S k (aB z x b)=S (if b then k.hi else k.lo) z:=by
 unfold ite;rw[hk,aj,xad rfl];cases b
 ·simp only[xaQ,xa0];exact h.bN hl hi h1.1 hb.xn (by rw[hb.lx];omega) z false
 simp only[xa7];exact h.bN hl hi h2.1 hb.xn (by rw[hb.lx];omega) z true
theorem jH(h:WF n ah N)(hl:jX n ah)(hi:Interp N S)(hb:Nb n ah x y l){k:Nd}(hk:k.v=x)(h1:live N k.lo/\l+1<dep n ah N k.lo)(h2:live N k.hi/\l+1<dep n ah N k.hi){u:Nat}(hu:u<n)(Nv:ah u<=l+1)(hne:u≠x)(z:Nat)(b:Bool):
  ite S k (aB z u b)=ite S k z:=by
 unfold ite;rw[hk,aj,xac (xba hne),h.bN hl hi h1.1 hu zO,h.bN hl hi h2.1 hu zO]
theorem gp(h:WF n ah N)(hl:jX n ah)(hi:Interp N S){r:Nat}{d:Nd}(hd:N r=some d):∃z,S r (aB z d.v false)≠S r (aB z d.v true):=by
 refine xaK λhno=>h.ne hd (h.same hl hi (h.lo hd).1 (h.hi hd).1 λz=>?_);have c1:=h.child hl hi hd z false;have c2:=h.child hl hi hd z true;simp only[xaQ,xa0,xa7]at c1 c2;rw[<-c1,<-c2];exact xaK λhne=>hno ⟨z,hne⟩
theorem Rf(h:WF n ah N)(hl:jX n ah)(hi:Interp N S)(hb:Nb n ah x y l){k:Nd}(hk:k.v=x)(hne:k.lo≠k.hi)(h1:live N k.lo/\l+1<dep n ah N k.lo)(h2:live N k.hi/\l+1<dep n ah N k.hi)
 {r:Nat}{d:Nd}(hd:N r=some d)(he:ite S k=S r):d=k:=by
 have hv:=h.var hd;have hvx:d.v=x:=by
  rcases xcI (ah d.v) l with hlt|heq|hgt
  ·obtain⟨z,hz⟩:=gp h hl hi hd;have ab1:d.v≠x:=λe=>by rw[e,hb.lx]at hlt;omega
   rw[<-he,jH h hl hi hb hk h1 h2 hv zO ab1,jH h hl hi hb hk h1 h2 hv zO ab1]at hz;exact absurd rfl hz
  ·exact hl.inj _ _ hv hb.xn (by rw[hb.lx];exact heq)
  refine absurd (h.same hl hi h1.1 h2.1 λz=>?_) hne;have c1:=js h hl hi hb hk h1 h2 z false;have c2:=js h hl hi hb hk h1 h2 z true;simp only[xaQ,xa0,xa7]at c1 c2;have hdp:ah x<dep n ah N r:=by rw[aq hd,hb.lx];exact hgt
  rw[<-c1,<-c2,he,h.bN hl hi (.inr ⟨d,hd⟩) hb.xn hdp,h.bN hl hi (.inr ⟨d,hd⟩) hb.xn hdp]
 have c:∀(b:Bool) z,S (if b then k.hi else k.lo) z=S (if b then d.hi else d.lo) z:=λ(b:Bool) z=>by
  rw[<-js h hl hi hb hk h1 h2 z b,he,<-hvx,h.child hl hi hd z b]
 have e1:=h.same hl hi h1.1 (h.lo hd).1 (λz=>by simpa using c false z);have e2:=h.same hl hi h2.1 (h.hi hd).1 (λz=>by simpa using c true z);cases d;cases k;simp_all
theorem Vv(h:WF n ah N)(hl:jX n ah)(hi:Interp N S)(hb:Nb n ah x y l){k k':Nd}(hk:k.v=x)(hk':k'.v=x)(h1:live N k.lo/\l+1<dep n ah N k.lo)(h2:live N k.hi/\l+1<dep n ah N k.hi)
 (sR:live N k'.lo/\l+1<dep n ah N k'.lo)(oX:live N k'.hi/\l+1<dep n ah N k'.hi)(he:ite S k=ite S k'):k=k':=by
 have c:∀(b:Bool) z,S (if b then k.hi else k.lo) z=S (if b then k'.hi else k'.lo) z:=λ(b:Bool) z=>by
  rw[<-js h hl hi hb hk h1 h2 z b,he,js h hl hi hb hk' sR oX z b]
 have e1:=h.same hl hi h1.1 sR.1 (λz=>by simpa using c false z);have e2:=h.same hl hi h2.1 oX.1 (λz=>by simpa using c true z);cases k;cases k';simp_all
def fM(ord:zL)(l:Nat):zL:=(ord.set l (ord.getD (l+1) 0)).set (l+1) (ord.getD l 0)
theorem mE(ord:zL)(l:Nat):(fM ord l).length=ord.length:=by simp[fM]
theorem eu{i:Nat}(hl:l+1<ord.length):(fM ord l).getD i 0=if i=l then ord.getD (l+1) 0 else if i=l+1 then ord.getD l 0 else ord.getD i 0:=by
 unfold fM;rw[xap,xbr,xbr];by_cases e1:l+1=i
 ·subst e1;rw[xad rfl,xad zP,xac zO,xad rfl];rfl
 rw[xac e1];by_cases e2:l=i
 ·subst e2;rw[xad rfl,xad zO,xad rfl];rfl
 rw[xac e2,xac (λe=>e2 e.symm),xac (λe=>e1 e.symm),<-xap]
def tX(ah:Nat->Nat)(x y l:Nat):Nat->Nat:=λv=>if v=x then l+1 else if v=y then l else ah v
theorem Uu(hl:jX n ah)(hb:Nb n ah x y l):jX n (tX ah x y l):=by
 have YN:=hl.lt y hb.yn;rw[hb.ly]at YN;have key:∀v,v<n->v≠x->v≠y->ah v≠l/\ah v≠l+1:=λv hv h1 h2=>⟨λe=>h1 (hl.inj _ _ hv hb.xn (by rw[hb.lx];exact e)),λe=>h2 (hl.inj _ _ hv hb.yn (by rw[hb.ly];exact e))⟩;refine⟨λv hv=>?_,λu v hu hv he=>?_⟩
 ·unfold tX;split
  ·exact YN
  split
  ·omega
  exact hl.lt v hv
 unfold tX at he;by_cases u1:u=x
 ·by_cases v1:v=x
  ·rw[u1,v1]
  rw[xad u1,xac v1]at he;by_cases v2:v=y
  ·rw[xad v2]at he;omega
  rw[xac v2]at he;exact absurd he.symm (key v hv v1 v2).2
 rw[xac u1]at he;by_cases u2:u=y
 ·rw[xad u2]at he;by_cases v1:v=x
  ·rw[xad v1]at he;omega
  rw[xac v1]at he;by_cases v2:v=y
  ·rw[u2,v2]
  rw[xac v2]at he;exact absurd he.symm (key v hv v1 v2).1
 rw[xac u2]at he;by_cases v1:v=x
 ·rw[xad v1]at he;exact absurd he (key u hu u1 u2).2
 rw[xac v1]at he;by_cases v2:v=y
 ·rw[xad v2]at he;exact absurd he (key u hu u1 u2).1
 rw[xac v2]at he;exact hl.inj _ _ hu hv he
theorem Ord.nb(ho:Ord n ah ord)(hl:l+1<n):Nb n ah (ord.getD l 0) (ord.getD (l+1) 0) l:=
 ⟨(ho.bc l zO).1,(ho.bc (l+1) hl).1,(ho.bc l zO).2,(ho.bc (l+1) hl).2⟩
theorem Ut(ho:Ord n ah ord)(hl:l+1<n):Ord n (tX ah (ord.getD l 0) (ord.getD (l+1) 0) l) (fM ord l):=by
 have hb:=ho.nb hl;refine⟨by rw[mE,ho.len],λi hi=>?_⟩;rw[eu (by rw[ho.len];exact hl)];unfold tX;by_cases e1:i=l
 ·subst e1;rw[xad rfl];refine⟨hb.yn,?_⟩;rw[xac (xba hb.ne),xad rfl]
 rw[xac e1];by_cases e2:i=l+1
 ·subst e2;rw[xad rfl];refine⟨hb.xn,?_⟩;rw[xad rfl]
 rw[xac e2];obtain⟨h1,h2⟩:=ho.bc i hi;refine⟨h1,?_⟩;rw[xac,xac]
 ·exact h2
 ·intro e;rw[e,hb.ly]at h2;omega
 intro e;rw[e,hb.lx]at h2;omega
variable {F:Fn->Prop}
theorem Gn(hl:l+1<ord.length)(hne:ord.getD l 0≠ord.getD (l+1) 0):∀m,m≠l+1->∀g,fs (fM ord l) F m g↔fs ord F m g
 |0,_,g=>xcR
 |m+1,hm,g=>by
  by_cases e:m=l+1
  ·subst e;have g1:(fM ord l).getD (l+1) 0=ord.getD l 0:=by rw[eu hl,xac zO,xad rfl]
   have g2:(fM ord l).getD l 0=ord.getD (l+1) 0:=by rw[eu hl,xad rfl]
   have ih:=Gn hl hne l zO;constructor
   ·rintro⟨f,⟨f',h,b,rfl⟩,b',rfl⟩;refine⟨_,⟨f',(ih f').1 h,b',rfl⟩,b,?_⟩
    funext z
    rw[g1,g2];show f' _=f' _;rw[dj hne]
   rintro⟨f,⟨f',h,b,rfl⟩,b',rfl⟩;refine⟨_,⟨f',(ih f').2 h,b',rfl⟩,b,?_⟩
   funext z
   rw[g1,g2];show f' _=f' _;rw[dj (xba hne)]
  have ih:=Gn hl hne m e;have hg:(fM ord l).getD m 0=ord.getD m 0:=by rw[eu hl,xac zO,xac e]
  constructor
  ·rintro⟨f,h,b,rfl⟩;exact⟨f,(ih f).1 h,b,by rw[hg]⟩
  rintro⟨f,h,b,rfl⟩;exact⟨f,(ih f).2 h,b,by rw[hg]⟩
theorem PN(h:Ok K S ah)(ho:Ord K.n ah ord)(BJ:l+1<K.n){all:List Cx}(hc:L8 K.N (ord.getD l 0) (ord.getD (l+1) 0) all){made:List Nd}(hm:Made K (ord.getD l 0) all made):
  pC (λg=>aG K.n ord (K.held S) g\/aG K.n (fM ord l) (K.held S) g) (K.used-2+made.length):=by
 have hb:=ho.nb BJ;have hlen:l+1<ord.length:=by rw[ho.len];exact BJ
 have hw:=h.wf;have hlv:=h.lv;have hi:=h.mid.int;have hR:∀r,K.hold r≠0->live K.N r:=λr hr=>.inr (h.mid.held r hr);generalize hx:ord.getD l 0=x at*;generalize hy:ord.getD (l+1) 0=y at*;have mT:∀k∈made,k.v=x/\(live K.N k.lo/\l+1<dep K.n ah K.N k.lo)/\(live K.N k.hi/\l+1<dep K.n ah K.N k.hi):=λk hk=>by
  obtain⟨⟨c,Ge,hkc⟩,_⟩:=(hm.mem k).1 hk;obtain⟨⟨hd,RX,_⟩,e⟩:=(hc.mem c).1 Ge;rw[e]at hkc;exact lP hw hlv hi hb hd RX hkc
 obtain⟨dom,d1,d2,d3⟩:=h.dom;have c1:=zW hw hlv hi d1 d3;rw[show dom.length=K.used-2 by omega]at c1;have c2:pC (λg=>∃k∈made,g=ite S k) made.length:=by
  refine⟨made.map (ite S),?_,by simp,λg=>?_⟩
  ·refine xcc.2 (hm.nd.imp_of_mem λ{a b} ha hb' hne heq=>hne ?_);obtain⟨a1,a2,a3⟩:=mT a ha;obtain⟨b1,b2,b3⟩:=mT b hb';exact Vv hw hlv hi hb a1 b1 a2 a3 b2 b3 heq
  rw[xan];constructor
  ·rintro⟨k,hk,rfl⟩;exact⟨k,hk,rfl⟩
  rintro⟨k,hk,rfl⟩;exact⟨k,hk,rfl⟩
 refine(c1.or c2 ?_).congr λg=>?_
 ·rintro g ⟨r,d,hd,rfl⟩ ⟨k,hk,he⟩;obtain⟨a1,a2,a3⟩:=mT k hk;obtain⟨_,hT,hne⟩:=(hm.mem k).1 hk;have:=Rf hw hlv hi hb a1 hne a2 a3 hd he.symm;subst this;rw[(h.mid.j5 d r).2 ⟨hd,λx=>x⟩]at hT;cases hT
 have Ny:=nN hw hlv ho hi hR h.reach;have qL:=λm (hmn:m<=K.n) g=>NM hw hlv ho hi hR m hmn g;have hne:ord.getD l 0≠ord.getD (l+1) 0:=by rw[hx,hy];exact hb.ne
 have BH:=Gn (F:=K.held S) hlen hne;have gl:(fM ord l).getD l 0=y:=by rw[eu hlen,xad rfl,hy]
 have gl1:(fM ord l).getD (l+1) 0=x:=by rw[eu hlen,xac zO,xad rfl,hx]
 have go:∀m,m≠l->m≠l+1->(fM ord l).getD m 0=ord.getD m 0:=λm h1 h2=>by rw[eu hlen,xac h1,xac h2]
 constructor
 ·rintro(⟨r,d,hd,rfl⟩|⟨k,hk,rfl⟩)
  ·exact .inl ((Ny _).2 ⟨r,d,hd,rfl⟩)
  obtain⟨a1,a2,a3⟩:=mT k hk;obtain⟨⟨c,Ge,hkc⟩,hT,Zf⟩:=(hm.mem k).1 hk;obtain⟨⟨hd,RX,_⟩,e⟩:=(hc.mem c).1 Ge;refine .inr ⟨l+1,BJ,?_,?_⟩
  ·have hA:=X2 hw h.reach _ c.r c.d hd (xag _);rw[RX,hb.lx]at hA;refine⟨S c.r,(BH l zO _).2 ((qL l zO _).2 ⟨c.r,hA,rfl⟩),?_⟩;have VV:=wG hw hlv hi hb hd RX;rw[e]at hkc;simp only[keys,n7,xam,xaP,xbD]at hkc;rw[gl];rcases hkc with rfl|rfl
   ·refine⟨false,?_⟩
    funext z
    rw[VV,aj,xad rfl,xac zI,jH hw hlv hi hb rfl a2 a3 hb.yn (by rw[hb.ly];exact xag _) (xba hb.ne)]
   refine⟨true,?_⟩
   funext z
   rw[VV,aj,xad rfl,xad rfl,jH hw hlv hi hb rfl a2 a3 hb.yn (by rw[hb.ly];exact xag _) (xba hb.ne)]
  rw[gl1];refine xaK λhno=>Zf (hw.same hlv hi a2.1 a3.1 λz=>?_);have c1:=js hw hlv hi hb a1 a2 a3 z false;have c2:=js hw hlv hi hb a1 a2 a3 z true;simp only[xaQ,xa0,xa7]at c1 c2;rw[<-c1,<-c2];exact xaK λhne=>hno ⟨z,hne⟩
 rintro(hg|⟨m,hmn,hf,hh⟩)
 ·exact .inl ((Ny g).1 hg)
 by_cases e1:m=l+1
 ·subst e1;rw[gl1]at hh;obtain⟨f,hf,b,rfl⟩:=hf;rw[gl]at hh⊢;obtain⟨r,hA,rfl⟩:=(qL l zO f).1 ((BH l zO f).1 hf);obtain⟨hlr,hle⟩:=th hw hR l r hA;have hgt:dep K.n ah K.N r=l:=by
   refine xd5 (xc3 λhlt=>?_) hle;obtain⟨z,hz⟩:=hh;refine hz ?_;show S r (aB (aB z x false) y b)=S r (aB (aB z x true) y b);rw[dj hb.ne,dj hb.ne,hw.bN hlv hi hlr hb.xn (by rw[hb.lx];exact hlt),hw.bN hlv hi hlr hb.xn (by rw[hb.lx];exact hlt)]
  rcases hlr with ND|⟨d,hd⟩
  ·rw[aT (hw.const ND)]at hgt;omega
  rw[aq hd]at hgt;have RX:d.v=x:=hlv.inj _ _ (hw.var hd) hb.xn (by rw[hb.lx];exact hgt);have VV:=wG hw hlv hi hb hd RX;have hkk:∃k∈keys x (n7 K.N y r d),(λz=>S r (aB z y b))=ite S k:=by
   cases b
   ·refine⟨_,xbS,?_⟩;obtain⟨a1,a2,a3⟩:=lP hw hlv hi hb hd RX (k:=⟨x,pl K.N y d.lo,pl K.N y d.hi⟩) xbS
    funext z
    rw[VV,aj,xad rfl,xac zI,jH hw hlv hi hb rfl a2 a3 hb.yn (by rw[hb.ly];exact xag _) (xba hb.ne)];rfl
   refine⟨_,xbA _ xbS,?_⟩;obtain⟨a1,a2,a3⟩:=lP hw hlv hi hb hd RX (k:=⟨x,ph K.N y d.lo,ph K.N y d.hi⟩) (xbA _ xbS)
   funext z
   rw[VV,aj,xad rfl,xad rfl,jH hw hlv hi hb rfl a2 a3 hb.yn (by rw[hb.ly];exact xag _) (xba hb.ne)];rfl
  obtain⟨k,hkm,hke⟩:=hkk;obtain⟨a1,a2,a3⟩:=lP hw hlv hi hb hd RX hkm;rw[hke]at hh⊢;have Zf:k.lo≠k.hi:=λe=>by
   obtain⟨z,hz⟩:=hh;have c1:=js hw hlv hi hb a1 a2 a3 z false;have c2:=js hw hlv hi hb a1 a2 a3 z true;simp only[xaQ,xa0,xa7]at c1 c2;rw[c1,c2,e]at hz;exact hz rfl
  cases hT:K.T k with
  |some s=>
   have hs:=((h.mid.j5 k s).1 hT).1;refine .inl ⟨s,k,hs,?_⟩
   funext z
   exact(hi.node hs z).symm
  |none=>
   by_cases Zt:mW K.N x y r d
   ·exact .inr ⟨k,(hm.mem k).2 ⟨⟨n7 K.N y r d,(hc.mem _).2 ⟨Zt,rfl⟩,hkm⟩,hT,Zf⟩,rfl⟩
   have hno:∀t,t=d.lo\/t=d.hi->pl K.N y t=t/\ph K.N y t=t:=λt ht=>UU λe he hv=>Zt ⟨hd,RX,by
    rcases ht with rfl|rfl
    ·exact .inl ⟨e,he,hv⟩
    exact .inr ⟨e,he,hv⟩⟩
   have e1:=hno d.lo (.inl rfl);have e2:=hno d.hi (.inr rfl);have:k=d:=by
    simp only[keys,n7,e1.1,e1.2,e2.1,e2.2,xam,xaP,xbD,or_self]at hkm;rw[hkm,<-RX]
   rw[this,(h.mid.j5 d r).2 ⟨hd,λx=>x⟩]at hT;cases hT
 by_cases e2:m=l
 ·subst e2;rw[gl]at hh;obtain⟨r,hA,rfl⟩:=(qL m zO g).1 ((BH m e1 g).1 hf);obtain⟨hlr,hle⟩:=th hw hR m r hA;rcases hlr with ND|⟨d,hd⟩
  ·obtain⟨z,hz⟩:=hh;have:∀z,S r z=S r 0:=λz=>by
    have:r=0\/r=1:=by omega
    rcases this with rfl|rfl
    ·rw[hi.zero,hi.zero]
    rw[hi.one,hi.one]
   rw[this (aB z y false),this (aB z y true)]at hz;exact absurd rfl hz
  exact .inl ⟨r,d,hd,rfl⟩
 refine .inl ((Ny g).1 ⟨m,hmn,(BH m e1 g).1 hf,?_⟩);rw[go m e2 e1]at hh;exact hh
end aA
namespace aA
open an
def tU(K:Kd)(ah:Nat->Nat)(l t:Nat):Prop:=live K.N t/\l+1<dep K.n ah K.N t
def ym(K0 K:Kd)(ah:Nat->Nat)(x l t:Nat):Prop:=tU K0 ah l t\/∃e,K.N t=some e/\e.v=x/\tU K0 ah l e.lo/\tU K0 ah l e.hi
structure TI(K0:Kd)(S0:Nat->Fn)(ah:Nat->Nat)(x y l:Nat)(made:List Nd)(K:Kd)(S:Nat->Fn)(done rest:List Cx)(P:Nat->Nat):Prop where
 mid:jK K S (λs=>∃c∈rest,s=c.r) P
 n:K.n=K0.n
 cap:K.cap=K0.cap
 hold:∀r,K.hold r=K0.hold r
 ext:∀r,live K0.N r->S r=S0 r
 old:∀{r d},K0.N r=some d->r∉done.map Cx.r->K.N r=some d
 kept:∀{r d},K0.N r=some d->∃d',K.N r=some d'
 new:∀{r d},K.N r=some d->(K0.N r=some d/\r∉done.map Cx.r)\/(r∈done.map Cx.r/\d.v=y/\ym K0 K ah x l d.lo/\ym K0 K ah x l d.hi)\/(K0.N r=none/\d.v=x/\tU K0 ah l d.lo/\tU K0 ah l d.hi)
 used:K.used=K0.used+(made.filter λk=>(K.T k).isSome).length
structure TB(K0:Kd)(S0:Nat->Fn)(ah:Nat->Nat)(x y l:Nat)(all:List Cx)(made:List Nd):Prop where
 ok:Ok K0 S0 ah
 nb:Nb K0.n ah x y l
 cx:L8 K0.N x y all
 mad:Made K0 x all made
 room:K0.used+made.length<=K0.cap
section
variable {K0 K:Kd} {S0 S:Nat->Fn} {ah:Nat->Nat} {x y l:Nat} {made:List Nd} {done rest all:List Cx} {P:Nat->Nat}
theorem TB.n8(b:TB K0 S0 ah x y l all made){c:Cx}(hc:c∈all):K0.N c.r=some c.d/\c.d.v=x/\c=n7 K0.N y c.r c.d:=by
 obtain⟨⟨h1,h2,_⟩,h3⟩:=(b.cx.mem c).1 hc;exact⟨h1,h2,h3⟩
theorem TB.Ve(b:TB K0 S0 ah x y l all made){c:Cx}(hc:c∈all):(tU K0 ah l c.yg/\tU K0 ah l c.tR)/\(tU K0 ah l c.yf/\tU K0 ah l c.tQ):=by
 obtain⟨h1,h2,h3⟩:=b.n8 hc;have k1:=lP b.ok.wf b.ok.lv b.ok.mid.int b.nb h1 h2 (k:=⟨x,pl K0.N y c.d.lo,pl K0.N y c.d.hi⟩) xbS;have k2:=lP b.ok.wf b.ok.lv b.ok.mid.int b.nb h1 h2 (k:=⟨x,ph K0.N y c.d.lo,ph K0.N y c.d.hi⟩) (xbA _ xbS);rw[h3];exact⟨⟨k1.2.1,k1.2.2⟩,⟨k2.2.1,k2.2.2⟩⟩
theorem TB.level(b:TB K0 S0 ah x y l all made){c:Cx}(hc:c∈all):dep K0.n ah K0.N c.r=l:=by
 obtain⟨h1,h2,_⟩:=b.n8 hc;rw[aq h1,h2,b.nb.lx]
theorem TB.start(b:TB K0 S0 ah x y l all made){T:Nd->Option Nat}(hm:jK {K0 with T:=T} S0 (λs=>∃c∈all,s=c.r) zero')(hT:∀d,T d=none\/T d=K0.T d):
  TI K0 S0 ah x y l made {K0 with T:=T} S0 [] all zero' where
 mid:=hm
 n:=rfl
 cap:=rfl
 hold:=λ_=>rfl
 ext:=λ_ _=>rfl
 old:=λh _=>h
 kept:=λh=>⟨_,h⟩
 new:=λh=>.inl ⟨h,by simp⟩
 used:=by
  have:made.filter (λk=>(T k).isSome)=[]:=by
   rw[xdk];intro k hk;have h1:=((b.mad.mem k).1 hk).2.1;rcases hT k with h2|h2
   ·rw[h2];simp
   rw[h2,h1];simp
  show K0.used=K0.used+(made.filter (λk=>(T k).isSome)).length;rw[this];simp
theorem TI.Vg(b:TB K0 S0 ah x y l all made)(h:TI K0 S0 ah x y l made K S done rest P)(hd:∀c∈done,c∈all){t:Nat}(ht:tU K0 ah l t):K.N t=K0.N t:=by
 rcases ht with⟨ht|⟨d,dP⟩,hlt⟩
 ·cases e:K.N t with
  |none=>rw[b.ok.wf.const ht]
  |some d=>have:=(h.mid.two e).1;omega
 ·rw[dP];refine h.old dP λhm=>?_;obtain⟨c,hc,e⟩:=xan.1 hm;have:=b.level (hd c hc);rw[e]at this;omega
theorem TI.ry(b:TB K0 S0 ah x y l all made)(h:TI K0 S0 ah x y l made K S done rest P)(hd:∀c∈done,c∈all){t:Nat}(ht:tU K0 ah l t):live K.N t:=by
 have e:=h.Vg b hd ht;rcases ht.1 with ht|⟨d,dP⟩
 ·exact .inl ht
 exact .inr ⟨d,by rw[e];exact dP⟩
theorem TI.rC(b:TB K0 S0 ah x y l all made)(h:TI K0 S0 ah x y l made K S done rest P)(hd:∀c∈done,c∈all){t:Nat}(ht:ym K0 K ah x l t):live K.N t:=by
 rcases ht with ht|⟨e,he,_⟩
 ·exact h.ry b hd ht
 exact .inr ⟨e,he⟩
theorem TI.use(h:TI K0 S0 ah x y l made K S done rest P){r:Nat}{dB:zL}(hl:dB.length=K.us.length)(h1:dB.getD r 0=K.use r+1)(h2:∀s,s≠r->dB.getD s 0=K.use s):
  TI K0 S0 ah x y l made {K with us:=dB} S done rest (up P r (P r+1)) where
 mid:=h.mid.more hl h1 h2
 n:=h.n
 cap:=h.cap
 hold:=h.hold
 ext:=h.ext
 old:=h.old
 kept:=h.kept
 new:=h.new
 used:=h.used
theorem TI.congr(h:TI K0 S0 ah x y l made K S done rest P){P':Nat->Nat}(hP:∀s,2<=s->P s=P' s):TI K0 S0 ah x y l made K S done rest P' where
 mid:=h.mid.congr (λ_=>xcR) hP
 n:=h.n
 cap:=h.cap
 hold:=h.hold
 ext:=h.ext
 old:=h.old
 kept:=h.kept
 new:=h.new
 used:=h.used
theorem filter_lt{α:Type}{p:α->Bool}{k:α}:∀{m:List α},k∈m->p k=false->(m.filter p).length<m.length
 | [],h,_=>by simp at h
 |z::m,h,hp=>by
  rcases xam.1 h with rfl|h
  ·rw[xbb,xac (by simp[hp])];have:=xbO p m;simp;omega
  have:=filter_lt h hp;rw[xbb];split
  ·rw[xaH,xaH];omega
  rw[xaH];omega
theorem TI.fits(b:TB K0 S0 ah x y l all made)(h:TI K0 S0 ah x y l made K S done rest P){k:Nd}(hk:k∈made)(hT:K.T k=none):K.used<K.cap:=by
 have h1:=filter_lt (p:=λk=>(K.T k).isSome) hk (by rw[hT];rfl);have h2:=h.used;have h3:=b.room;have h4:=h.cap;omega
theorem n5{T:Nd->Option Nat}{k:Nd}{r:Nat}:∀{m:List Nd},m.Nodup->T k=none->(m.filter λd=>(qI T k (some r) d).isSome).length=(m.filter λd=>(T d).isSome).length+(if k∈m then 1 else 0)
 | [],_,_=>rfl
 |z::m,hn,hT=>by
  obtain⟨h1,h2⟩:=xaX.1 hn;have ih:=n5 (r:=r) h2 hT;rw[xbb,xbb];by_cases e:z=k
  ·subst e;rw[jL,hT];simp only[Option.isSome_some,xa7,Option.isSome_none,xaQ,xa0,xaH,ih,xac h1,xam,true_or]
  rw[pS e];have e2:(k∈z::m)↔k∈m:=by rw[xam];exact⟨λh=>h.resolve_left (λh=>e h.symm),.inr⟩
  simp only[e2];split
  ·simp only[xaH,ih];omega
  exact ih
theorem TB.AX(b:TB K0 S0 ah x y l all made){t:Nat}(ht:tU K0 ah l t){e:Nd}(he:K0.N t=some e):l+1<ah e.v:=by
 have:=ht.2;rwa [aq he]at this
theorem TB.CV(b:TB K0 S0 ah x y l all made){c:Cx}(hc:c∈all)(h1:tU K0 ah l c.d.lo)(h2:tU K0 ah l c.d.hi):False:=by
 obtain⟨⟨_,_,h3⟩,_⟩:=(b.cx.mem c).1 hc;have hy:=b.nb.ly;rcases h3 with⟨e,he,hv⟩|⟨e,he,hv⟩
 ·have:=b.AX h1 he;rw[hv]at this;omega
 have:=b.AX h2 he;rw[hv]at this;omega
theorem TI.Rq(b:TB K0 S0 ah x y l all made)(h:TI K0 S0 ah x y l made K S done rest P)(hd:∀c∈done,c∈all)(hr:∀c∈rest,c∈all){c:Cx}(hc:c∈all){k:Nd}(hk:k∈keys x c)(hne:k.lo≠k.hi)(h1:tU K0 ah l k.lo)(h2:tU K0 ah l k.hi)(hT:K.T k=none):k∈made:=by
 refine(b.mad.mem k).2 ⟨⟨c,hc,hk⟩,?_,hne⟩;cases e:K0.T k with
 |none=>rfl
 |some s=>
  have hs:=((b.ok.mid.j5 k s).1 e).1;have hno:∀c'∈all,s≠c'.r:=λc' oW e'=>by
   have h3:=(b.n8 oW).1;rw[<-e',hs]at h3;cases h3;exact b.CV oW h1 h2
  have uA:K.N s=some k:=by
   refine h.old hs λhm=>?_;obtain⟨c',oW,e'⟩:=xan.1 hm;exact hno c' (hd c' oW) e'.symm
  have:=(h.mid.j5 k s).2 ⟨uA,by rintro⟨c',oW,e'⟩;exact hno c' (hr c' oW) e'⟩;rw[hT]at this;cases this
theorem TI.lay(b:TB K0 S0 ah x y l all made)(h:TI K0 S0 ah x y l made K S done rest P)(hd:∀c∈done,c∈all)(hr:∀c∈rest,c∈all){c:Cx}(hc:c∈all){k:Nd}(hk:k∈keys x c)(hne:k.lo≠k.hi)(hT:K.T k=none)
 {r:Nat}{dB cA:zL}(hN:K.N r=none)(h2:2<=r/\r<K.cap)(hl:dB.length=cA.length)(hf:r<dB.length/\K.us.length<=dB.length)(u0:dB.getD r 0=0)(u1:∀s,2<=s->s≠r->dB.getD s 0=K.use s+e1 (some k) s)(o0:cA.getD r 0=0)(o1:∀s,s≠r->cA.getD s 0=K.hold s)(hP:P r=0):
  TI K0 S0 ah x y l made {K with N:=up K.N r (some k),T:=qI K.T k (some r),used:=K.used+1,us:=dB,ho:=cA} (up S r (ite S k)) done rest P/\ym K0 {K with N:=up K.N r (some k),T:=qI K.T k (some r),used:=K.used+1,us:=dB,ho:=cA} ah x l r:=by
 have mT:=b.Ve hc;have hkv:k.v=x/\tU K0 ah l k.lo/\tU K0 ah l k.hi:=by
  simp only[keys,xam,xaP,xbD]at hk;rcases hk with rfl|rfl
  ·exact⟨rfl,mT.1.1,mT.1.2⟩
  exact⟨rfl,mT.2.1,mT.2.2⟩
 have hkN:K0.N r=none:=by
  cases e:K0.N r with
  |none=>rfl
  |some d=>obtain⟨d',dP⟩:=h.kept e;rw[hN]at dP;cases dP
 have hkm:=h.Rq b hd hr hc hk hne hkv.2.1 hkv.2.2 hT;have hE:¬∃c∈rest,r=c.r:=by
  rintro⟨c',oW,rfl⟩;have:=(b.n8 (hr c' oW)).1;rw[hkN]at this;cases this
 have F4:∀{t},ym K0 K ah x l t->ym K0 {K with N:=up K.N r (some k),T:=qI K.T k (some r),used:=K.used+1,us:=dB,ho:=cA} ah x l t:=λht=>by
  rcases ht with ht|⟨e,he,h3⟩
  ·exact .inl ht
  refine .inr ⟨e,?_,h3⟩;show up K.N r (some k) _=_;rw[aS (λe2=>by rw[e2,hN]at he;cases he)];exact he
 refine⟨⟨h.mid.lay hN h2 (by rw[hkv.1,h.n];exact b.nb.xn) hne (h.ry b hd hkv.2.1) (h.ry b hd hkv.2.2) hT hE hP (h.fits b hkm hT) hl hf u0 u1 o0 o1,h.n,h.cap,λs=>?_,λs hs=>?_,λ{s d} hs hm=>?_,λ{s d} hs=>?_,λ{s d} hs=>?_,?_⟩,?_⟩
 ·show cA.getD s 0=_;rw[<-h.hold];by_cases e:s=r
  ·subst e;rw[o0];refine(xaK λhno=>?_);obtain⟨d,dP⟩:=h.mid.held s (λe=>hno e.symm);rw[hN]at dP;cases dP
  exact o1 s e
 ·rw[aS (gh hs h2.1 hkN)];exact h.ext s hs
 ·show up K.N r (some k) s=_;rw[aS (λe=>by rw[e,hkN]at hs;cases hs)];exact h.old hs hm
 ·obtain⟨d',dP⟩:=h.kept hs;exact⟨d',by show up K.N r (some k) s=_;rw[aS (λe=>by rw[e,hkN]at hs;cases hs)];exact dP⟩
 ·have hs':up K.N r (some k) s=some d:=hs;by_cases e:s=r
  ·subst e;rw[aO]at hs';cases hs';exact .inr (.inr ⟨hkN,hkv⟩)
  rw[aS e]at hs';rcases h.new hs' with h1|⟨h1,oX,h3,h4⟩|h1
  ·exact .inl h1
  ·exact .inr (.inl ⟨h1,oX,F4 h3,F4 h4⟩)
  exact .inr (.inr h1)
 ·show K.used+1=K0.used+(made.filter λd=>(qI K.T k (some r) d).isSome).length;rw[n5 b.mad.nd hT,xad hkm,h.used];omega
 exact .inr ⟨k,aO,hkv⟩
theorem TI.found(b:TB K0 S0 ah x y l all made)(h:TI K0 S0 ah x y l made K S done rest P){c:Cx}(hc:c∈all){k:Nd}(hk:k∈keys x c){r:Nat}(hT:K.T k=some r):K.N r=some k/\ym K0 K ah x l r:=by
 have mT:=b.Ve hc;have hN:=((h.mid.j5 k r).1 hT).1;simp only[keys,xam,xaP,xbD]at hk;rcases hk with rfl|rfl
 ·exact⟨hN,.inr ⟨_,hN,rfl,mT.1.1,mT.1.2⟩⟩
 exact⟨hN,.inr ⟨_,hN,rfl,mT.2.1,mT.2.2⟩⟩
theorem TI.Xf(b:TB K0 S0 ah x y l all made)(h:TI K0 S0 ah x y l made K S done rest P){a a' t:Nat}(la:tU K0 ah l a)(FL:tU K0 ah l a')(g:(a=a'/\t=a)\/K.N t=some ⟨x,a,a'⟩)(z:Nat):S t z=ite S0 ⟨x,a,a'⟩ z:=by
 rcases g with⟨rfl,rfl⟩|g
 ·rw[h.ext t la.1];unfold ite;simp
 rw[h.mid.int.node g];unfold ite;simp only;rw[h.ext a la.1,h.ext a' FL.1]
theorem TI.Vf(b:TB K0 S0 ah x y l all made)(h:TI K0 S0 ah x y l made K S done rest P)(hd:∀c∈done,c∈all){a a' t:Nat}(ht:tU K0 ah l t)(g:K.N t=some ⟨x,a,a'⟩):False:=by
 rw[h.Vg b hd ht]at g;have:=b.AX ht g;have hx:=b.nb.lx;simp only at this;omega
theorem TI.Au(b:TB K0 S0 ah x y l all made){c:Cx}(h:TI K0 S0 ah x y l made K S done (c::rest) P)(hd:∀c∈done,c∈all)(hr:∀c'∈c::rest,c'∈all)(hn:((done++c::rest).map Cx.r).Nodup){t0 t1:Nat}
 (k0:ym K0 K ah x l t0)(k1:ym K0 K ah x l t1)(g0:(c.yg=c.tR/\t0=c.yg)\/K.N t0=some ⟨x,c.yg,c.tR⟩)(g1:(c.yf=c.tQ/\t1=c.yf)\/K.N t1=some ⟨x,c.yf,c.tQ⟩){P':Nat->Nat}(hP:∀s,2<=s->P' s+e1 (some ⟨y,t0,t1⟩) s=P s+e1 (some c.d) s):
  K.T ⟨y,t0,t1⟩=none/\TI K0 S0 ah x y l made {K with N:=up K.N c.r (some ⟨y,t0,t1⟩),T:=qI K.T ⟨y,t0,t1⟩ (some c.r)} S (done++[c]) rest P':=by
 have hc:=hr c zI;obtain⟨Ba,BM,hce⟩:=b.n8 hc;obtain⟨⟨l00,l10⟩,⟨l01,l11⟩⟩:=b.Ve hc;have w:=b.ok.wf;have hi:=b.ok.mid.int;have hlo:=w.lo Ba;have hhi:=w.hi Ba;rw[BM,b.nb.lx]at hlo hhi;have ep:c.yg=pl K0.N y c.d.lo/\c.yf=ph K0.N y c.d.lo/\c.tR=pl K0.N y c.d.hi/\c.tQ=ph K0.N y c.d.hi:=by rw[hce];exact⟨rfl,rfl,rfl,rfl⟩
 have both:c.yg=c.tR->c.yf=c.tQ->False:=λe1 e2=>by
  rw[ep.1,ep.2.2.1]at e1;rw[ep.2.1,ep.2.2.2]at e2;exact w.ne Ba (w.VZ b.ok.lv hi b.nb.yy hlo.1 hhi.1 hlo.2 hhi.2 e1 e2)
 have hrn:c.r∉done.map Cx.r:=by
  rw[xaJ,xa5]at hn;intro hm;exact hn.2.2 _ hm _ zI rfl
 have Lq:=h.old Ba hrn;have fn0:=λz=>h.Xf b l00 l10 g0 z;have fn1:=λz=>h.Xf b l01 l11 g1 z;have hS:∀z,S c.r z=ite S ⟨y,t0,t1⟩ z:=λz=>by
  rw[h.ext c.r (.inr ⟨_,Ba⟩),wG w b.ok.lv hi b.nb Ba BM z];unfold ite;simp only;have a0:=fn0 z;have a1:=fn1 z;unfold ite at a0 a1;simp only at a0 a1;rw[a0,a1,ep.1,ep.2.1,ep.2.2.1,ep.2.2.2]
 have hne:t0≠t1:=λe=>by
  subst e;rcases g0 with⟨e1,e2⟩|g0
  ·rcases g1 with⟨e3,e4⟩|g1
   ·exact both e1 e3
   rw[e2]at g1;exact h.Vf b hd l00 g1
  rcases g1 with⟨e3,e4⟩|g1
  ·rw[e4]at g0;exact h.Vf b hd l01 g0
  rw[g0]at g1;simp only[xas,Nd.mk.injEq,xcT]at g1;obtain⟨q1,q2⟩:=g1;obtain⟨⟨_,_,Zt⟩,_⟩:=(b.cx.mem c).1 hc;rw[ep.1,ep.2.1]at q1;rw[ep.2.2.1,ep.2.2.2]at q2;rcases Zt with⟨e,he,hv⟩|⟨e,he,hv⟩
  ·have:=UT he hv;rw[this.1,this.2]at q1;exact w.ne he q1
  have:=UT he hv;rw[this.1,this.2]at q2;exact w.ne he q2
 have hT:K.T ⟨y,t0,t1⟩=none:=by
  cases e:K.T ⟨y,t0,t1⟩with
  |none=>rfl
  |some s=>
   obtain⟨hs,Rz⟩:=(h.mid.j5 _ s).1 e;rcases h.new hs with⟨h1,_⟩|⟨h1,_⟩|⟨_,h1,_⟩
   ·have q1:=w.lo h1;have q2:=w.hi h1;simp only at q1 q2;rw[b.nb.ly]at q1 q2;have p1:c.yg=c.tR:=by
     rcases g0 with⟨e1,_⟩|g0
     ·exact e1
     exact(h.Vf b hd q1 g0).elim
    have p2:c.yf=c.tQ:=by
     rcases g1 with⟨e1,_⟩|g1
     ·exact e1
     exact(h.Vf b hd q2 g1).elim
    exact(both p1 p2).elim
   ·obtain⟨c',oW,e'⟩:=xan.1 h1;have R5:=(b.n8 (hd c' oW)).1;have:c'.r=c.r:=w.same b.ok.lv hi (.inr ⟨_,R5⟩) (.inr ⟨_,Ba⟩) λz=>by
     rw[<-h.ext c'.r (.inr ⟨_,R5⟩),<-h.ext c.r (.inr ⟨_,Ba⟩),hS z,e',h.mid.int.node hs z];rfl
    exact absurd (xan.2 ⟨c',oW,this⟩) hrn
   exact absurd h1 (xba b.nb.ne)
 have F4:∀{t},ym K0 K ah x l t->ym K0 {K with N:=up K.N c.r (some ⟨y,t0,t1⟩),T:=qI K.T ⟨y,t0,t1⟩ (some c.r)} ah x l t:=λht=>by
  rcases ht with ht|⟨e,he,h3⟩
  ·exact .inl ht
  refine .inr ⟨e,?_,h3⟩;show up K.N c.r (some ⟨y,t0,t1⟩) _=_;refine(aS λe2=>?_).trans he;rw[e2,Lq]at he;cases he;exact b.CV hc h3.2.1 h3.2.2
 have hml:∀s,s∈(done++[c]).map Cx.r↔s∈done.map Cx.r\/s=c.r:=λs=>by simp[xao]
 refine⟨hT,⟨(h.mid.Au Lq ⟨c,by simp,rfl⟩ (by rw[h.n];exact b.nb.yn) hne (h.rC b hd k0) (h.rC b hd k1) hT hS hP).congr (λs=>?_) (λ_ _=>rfl),h.n,h.cap,h.hold,h.ext,λ{s d} hs hm=>?_,λ{s d} hs=>?_,λ{s d} hs=>?_,?_⟩⟩
 ·constructor
  ·rintro⟨⟨c',oW,rfl⟩,h2⟩;rcases xam.1 oW with rfl|oW
   ·exact absurd rfl h2
   exact⟨c',oW,rfl⟩
  rintro⟨c',oW,rfl⟩;refine⟨⟨c',xbA _ oW,rfl⟩,λe=>?_⟩;rw[xaJ,xa5]at hn;have:=hn.2.1;rw[xaB,xaX]at this;exact this.1 (xan.2 ⟨c',oW,e⟩)
 ·have hm':=λx=>hm ((hml s).2 x);show up K.N c.r _ s=_;rw[aS (λe=>hm' (.inr e))];exact h.old hs (λx=>hm' (.inl x))
 ·by_cases e:s=c.r
  ·exact⟨⟨y,t0,t1⟩,by show up K.N c.r (some _) s=_;rw[e,aO]⟩
  obtain⟨d',dP⟩:=h.kept hs;exact⟨d',by show up K.N c.r (some _) s=_;rw[aS e];exact dP⟩
 ·have hs':up K.N c.r (some ⟨y,t0,t1⟩) s=some d:=hs;by_cases e:s=c.r
  ·rw[e,aO]at hs';cases hs';exact .inr (.inl ⟨(hml s).2 (.inr e),rfl,F4 k0,F4 k1⟩)
  rw[aS e]at hs';rcases h.new hs' with⟨h1,h2⟩|⟨h1,h2,h3,h4⟩|h1
  ·exact .inl ⟨h1,λhm=>((hml s).1 hm).elim h2 e⟩
  ·exact .inr (.inl ⟨(hml s).2 (.inl h1),h2,F4 h3,F4 h4⟩)
  exact .inr (.inr h1)
 show K.used=K0.used+(made.filter λd=>(qI K.T ⟨y,t0,t1⟩ (some c.r) d).isSome).length;have hnm:(⟨y,t0,t1⟩:Nd)∉made:=λhm=>by
  obtain⟨⟨c',oW,hk⟩,_⟩:=(b.mad.mem _).1 hm;simp only[keys,xam,xaP,xbD,Nd.mk.injEq]at hk;rcases hk with⟨e,_⟩|⟨e,_⟩
  ·exact b.nb.ne e.symm
  exact b.nb.ne e.symm
 rw[n5 b.mad.nd hT,xac hnm,h.used];rfl
theorem TI.levels(b:TB K0 S0 ah x y l all made)(h:TI K0 S0 ah x y l made K S all [] P){s:Nat}{d:Nd}(hs:K.N s=some d):
  tX ah x y l d.v<dep K0.n (tX ah x y l) K.N d.lo/\tX ah x y l d.v<dep K0.n (tX ah x y l) K.N d.hi:=by
 have w:=b.ok.wf;have hd:∀c∈all,c∈all:=λ_ h=>h;have YN:l+1<K0.n:=by have:=b.ok.lv.lt y b.nb.yn;rw[b.nb.ly]at this;exact this
 have sx:tX ah x y l x=l+1:=by simp[tX]
 have sy:tX ah x y l y=l:=by unfold tX;rw[xac (xba b.nb.ne),xad rfl]
 have so:∀v,v<K0.n->ah v≠l->ah v≠l+1->tX ah x y l v=ah v:=λv hv h1 h2=>by
  unfold tX;rw[xac (λe=>h1 (by rw[e];exact b.nb.lx)),xac (λe=>h2 (by rw[e];exact b.nb.ly))]
 have low:∀{t},tU K0 ah l t->l+1<dep K0.n (tX ah x y l) K.N t:=λ{t} ht=>by
  have e:=h.Vg b hd ht;cases e2:K0.N t with
  |none=>rw[aT (by rw[e,e2])];exact YN
  |some e'=>
   have:=b.AX ht e2;rw[aq (by rw[e,e2]),so _ (w.var e2) zO zO];exact this
 have y5:∀{t},ym K0 K ah x l t->l<dep K0.n (tX ah x y l) K.N t:=λ{t} ht=>by
  rcases ht with ht|⟨e,he,hx,_⟩
  ·have:=low ht;omega
  rw[aq he,hx,sx];omega
 rcases h.new hs with⟨h1,h2⟩|⟨_,h2,h3,h4⟩|⟨_,h2,h3,h4⟩
 ·have hv:=w.var h1;have q1:=w.lo h1;have q2:=w.hi h1;rcases xcI (ah d.v) l with hlt|heq|hgt
  ·rw[so _ hv zO zO];have up':∀{t},live K0.N t->ah d.v<dep K0.n ah K0.N t->ah d.v<dep K0.n (tX ah x y l) K.N t:=λ{t} ht gR=>by
    cases e:K.N t with
    |none=>rw[aT e];exact xaO gR (w.iD b.ok.lv t)
    |some e'=>
     rw[aq e];rcases h.new e with⟨g1,_⟩|⟨_,g2,_⟩|⟨g1,_⟩
     ·rw[aq g1]at gR;have hve:=w.var g1;by_cases e1:ah e'.v=l
      ·have:e'.v=x:=b.ok.lv.inj _ _ hve b.nb.xn (by rw[b.nb.lx];exact e1);rw[this,sx];omega
      by_cases e2:ah e'.v=l+1
      ·have:e'.v=y:=b.ok.lv.inj _ _ hve b.nb.yn (by rw[b.nb.ly];exact e2);rw[this,sy];exact hlt
      rw[so _ hve e1 e2];exact gR
     ·rw[g2,sy];exact hlt
     rcases ht with ht|⟨f,hf⟩
     ·have:=(h.mid.two e).1;omega
     rw[g1]at hf;cases hf
   exact⟨up' q1.1 q1.2,up' q2.1 q2.2⟩
  ·have hx:d.v=x:=b.ok.lv.inj _ _ hv b.nb.xn (by rw[b.nb.lx];exact heq);rw[hx,sx];have nc:∀t,t=d.lo\/t=d.hi->∀e,K0.N t=some e->e.v≠y:=λt ht e he hv=>h2 (xan.2 ⟨n7 K0.N y s d,(b.cx.mem _).2 ⟨⟨h1,hx,by
    rcases ht with rfl|rfl
    ·exact .inl ⟨e,he,hv⟩
    exact .inr ⟨e,he,hv⟩⟩,rfl⟩,rfl⟩)
   have lw:∀t,t=d.lo\/t=d.hi->live K0.N t->ah d.v<dep K0.n ah K0.N t->tU K0 ah l t:=λt ht hlv hlt=>by
    refine⟨hlv,?_⟩;have:=(w.half b.ok.lv b.ok.mid.int b.nb.yy hlv (by omega:l<dep K0.n ah K0.N t)).1.2;rwa [(UU (nc t ht)).1]at this
   exact⟨low (lw _ (.inl rfl) q1.1 q1.2),low (lw _ (.inr rfl) q2.1 q2.2)⟩
  by_cases e:ah d.v=l+1
  ·have hy:d.v=y:=b.ok.lv.inj _ _ hv b.nb.yn (by rw[b.nb.ly];exact e);rw[hy,sy];have a1:=low ⟨q1.1,by omega⟩;have a2:=low ⟨q2.1,by omega⟩;exact⟨by omega,by omega⟩
  rw[so _ hv zO e];have deep:∀{t},live K0.N t->ah d.v<dep K0.n ah K0.N t->ah d.v<dep K0.n (tX ah x y l) K.N t:=λ{t} ht gR=>by
   have hl:tU K0 ah l t:=⟨ht,by omega⟩;have e':=h.Vg b hd hl;cases e2:K0.N t with
   |none=>rw[aT (by rw[e',e2])];exact b.ok.lv.lt _ hv
   |some f=>
    rw[aq e2]at gR;rw[aq (by rw[e',e2]),so _ (w.var e2) zO zO];exact gR
  exact⟨deep q1.1 q1.2,deep q2.1 q2.2⟩
 ·rw[h2,sy];exact⟨y5 h3,y5 h4⟩
 rw[h2,sx];exact⟨low h3,low h4⟩
theorem TI.fin(b:TB K0 S0 ah x y l all made)(h:TI K0 S0 ah x y l made K S all [] P){K':Kd}(hm:jK K' S iP zero')(hp:Pos K')(hN:∀{s d},K'.N s=some d->K.N s=some d)(hn:K'.n=K.n)(hh:∀r,K'.hold r=K.hold r):
  Ok K' S (tX ah x y l)/\(∀g,K'.held S g↔K0.held S0 g)/\∀r,K0.hold r≠0->S r=S0 r:=by
 have Gk:∀r,K0.hold r≠0->S r=S0 r:=λr hr=>h.ext r (.inr (b.ok.mid.held r hr));refine⟨⟨hm,hp,by rw[hn,h.n];exact Uu b.ok.lv b.nb,hm.wf λ{s d} hs=>?_⟩,λg=>?_,Gk⟩
 ·have hl:=h.levels b (hN hs);have same:∀{t},live K'.N t->dep K'.n (tX ah x y l) K'.N t=dep K0.n (tX ah x y l) K.N t:=λ{t} ht=>by
   cases e:K'.N t with
   |some f=>rw[aq e,aq (hN e)]
   |none=>
    have Xo:t<2:=by
     rcases ht with ht|⟨f,hf⟩
     ·exact ht
     rw[e]at hf;cases hf
    have:K.N t=none:=by
     cases e2:K.N t with
     |none=>rfl
     |some f=>have:=(h.mid.two e2).1;omega
    rw[aT e,aT this,hn,h.n]
  rw[same (hm.lo hs),same (hm.hi hs)];exact hl
 constructor
 ·rintro⟨r,hr,rfl⟩;have hr':K0.hold r≠0:=by rw[<-h.hold,<-hh];exact hr
  exact⟨r,hr',Gk r hr'⟩
 rintro⟨r,hr,rfl⟩;exact⟨r,by show K'.hold r≠0;rw[hh,h.hold];exact hr,(Gk r hr).symm⟩
end
end aA
namespace aA
open an
variable {n cap l:Nat} {ord:zL} {F G:Fn->Prop}
open Classical in
noncomputable def sz(n:Nat)(ord:zL)(F:Fn->Prop):Nat:=if h:∃k,pC (aG n ord F) k then Classical.choose h else 0
theorem B6{k:Nat}(h:pC (aG n ord F) k):sz n ord F=k:=by
 unfold sz;rw[xeb ⟨k,h⟩];exact(xcz (⟨k,h⟩:∃k,pC (aG n ord F) k)).uniq h
def Pb(n:Nat)(ord:zL)(l:Nat)(F:Fn->Prop):Fn->Prop:=λg=>aG n ord F g\/aG n (fM ord l) F g
open Classical in
noncomputable def BE(n:Nat)(ord:zL)(l:Nat)(F:Fn->Prop):Nat:=if h:∃k,pC (Pb n ord l F) k then Classical.choose h else 0
theorem X8{k:Nat}(h:pC (Pb n ord l F) k):BE n ord l F=k:=by
 unfold BE;rw[xeb ⟨k,h⟩];exact(xcz (⟨k,h⟩:∃k,pC (Pb n ord l F) k)).uniq h
theorem PV(e:∀g,F g↔G g):sz n ord F=sz n ord G:=by
 have:F=G:=funext λg=>propext (e g);rw[this]
theorem Mq(e:∀g,F g↔G g):BE n ord l F=BE n ord l G:=by
 have:F=G:=funext λg=>propext (e g);rw[this]
theorem DT{a b:zL}(hl:a.length=b.length)(h:∀i,i<a.length->a.getD i 0=b.getD i 0):a=b:=by
 refine List.ext_getElem hl λi h1 h2=>?_;have:=h i h1;simpa[List.getD,xaa h1,xaa h2]using this
theorem qV(hl:l+1<ord.length):fM (fM ord l) l=ord:=by
 refine DT (by rw[mE,mE]) λi _=>?_;have h2:l+1<(fM ord l).length:=by rw[mE];exact hl
 rw[eu h2,eu hl,eu hl,eu hl];by_cases e:i=l
 ·subst e;simp
 by_cases e2:i=l+1
 ·subst e2;simp
 simp[e,e2]
theorem Uh(hl:l+1<ord.length):BE n (fM ord l) l F=BE n ord l F:=by
 have:Pb n (fM ord l) l F=Pb n ord l F:=by
  funext g
  unfold Pb;rw[qV hl];exact propext or_comm
 unfold BE;rw[this]
def yh(n cap:Nat)(F:Fn->Prop):zL->zL->Prop
 |_,[]=>True
 |ord,l::r=>l+1<n/\BE n ord l F+2<=cap/\yh n cap F (fM ord l) r
theorem yh.congr(e:∀g,F g↔G g):∀{tr ord:zL},yh n cap F ord tr->yh n cap G ord tr:=by
 have:F=G:=funext λg=>propext (e g);subst this;exact λ{tr ord} h=>h
theorem yh.ahf(hlen:ord.length=n)(hl:l+1<n)(hfit:BE n ord l F+2<=cap){tr:zL}(h:yh n cap F ord tr.reverse):yh n cap F (fM ord l) (tr++[l]).reverse:=by
 rw[List.reverse_append];exact⟨hl,by rw[Uh zO];exact hfit,by rw[qV zO];exact h⟩
end aA
namespace aA
open an
variable {n l:Nat} {ord:zL} {L:an.Fs} {F:Fn->Prop}
def py(n:Nat)(ws:zL):Fn:=λx=>bit ws (x%2^n)
theorem nJ{x v n:Nat}{b:Bool}(hv:v<n):aB x v b%2^n=aB (x%2^n) v b:=by
 apply xaW;intro k;rw[xbw,aj,aj,xbw];by_cases e:k=v
 ·subst e;simp[hv]
 simp[e]
theorem Ly{v:Nat}{ws:zL}(hf:fg n ws)(hv:v<n)(b:Bool):py n (iK n ws v b)=λx=>py n ws (aB x v b):=by
 funext x
 unfold py;rw[fe hf hv (xbv _ (xbs n)),nJ hv]
theorem SC{ws:zL}{x:Nat}(h:x<2^n):py n ws x=bit ws x:=by unfold py;rw[xbm h]
theorem Wp{a b:zL}(ha:fg n a)(hb:fg n b)(h:py n a=py n b):a=b:=ha.ext hb λx hx=>by rw[<-SC hx,<-SC hx,h]
theorem zm{v:Nat}{ws:zL}(hf:fg n ws)(hv:v<n):cE (py n ws) v↔an.dep n ws v=true:=by
 rw[uH hf hv];constructor
 ·rintro⟨x,hx⟩;refine⟨x%2^n,xbv _ (xbs n),?_⟩;unfold py at hx;rwa [nJ hv,nJ hv]at hx
 rintro⟨x,hx,hne⟩;refine⟨x,?_⟩;unfold py;rwa [nJ hv,nJ hv,xbm hx]
def cur(n:Nat)(ord:zL)(L:an.Fs):Nat->an.Fs
 |0=>mB L
 |k+1=>given n (cur n ord L k) (ord.getD k 0)
def FT(n:Nat)(L:an.Fs):Fn->Prop:=λg=>∃t∈L,g=py n t
theorem zz:∀k,(cur n ord L k).Nodup
 |0=>mA L
 |k+1=>nZ _ _ _
theorem rT(hL:∀t∈L,fg n t)(hn:n<=16):∀k,∀t∈cur n ord L k,fg n t
 |0,t,h=>hL t (gv.1 h)
 |k+1,t,h=>by obtain⟨u,_,b,rfl⟩:=cg.1 h;exact eB hn
theorem Gp(hL:∀t∈L,fg n t)(hn:n<=16)(ho:∀i,i<n->ord.getD i 0<n):∀k,k<=n->∀g,fs ord (FT n L) k g↔∃t∈cur n ord L k,g=py n t
 |0,_,g=>by
  show(∃t∈L,g=py n t)↔_;constructor
  ·rintro⟨t,h,e⟩;exact⟨t,gv.2 h,e⟩
  rintro⟨t,h,e⟩;exact⟨t,gv.1 h,e⟩
 |k+1,hk,g=>by
  have ih:=Gp hL hn ho k zO;constructor
  ·rintro⟨f,hf,b,rfl⟩;obtain⟨t,ht,rfl⟩:=(ih f).1 hf;exact⟨iK n t (ord.getD k 0) b,cg.2 ⟨t,ht,b,rfl⟩,(Ly (rT hL hn k t ht) (ho k zO) b).symm⟩
  rintro⟨t,ht,rfl⟩;obtain⟨u,hu,b,rfl⟩:=cg.1 ht;exact⟨py n u,(ih _).2 ⟨u,hu,rfl⟩,b,Ly (rT hL hn k u hu) (ho k zO) b⟩
theorem wv:∀k g,fs ord F k g->∀j,j<k->¬cE g (ord.getD j 0)
 |0,_,_,_,h=>absurd h (xcQ _)
 |k+1,g,h,j,hj=>by
  obtain⟨f,hf,b,rfl⟩:=h;rintro⟨x,hx⟩;apply hx;by_cases e:ord.getD j 0=ord.getD k 0
  ·show f (aB (aB x _ false) _ b)=f (aB (aB x _ true) _ b);congr 1;apply xaW;intro i;simp only[aj,e];split<;>rfl
  have hlt:j<k:=by
   rcases Nat.lt_succ_iff_lt_or_eq.1 hj with h|h
   ·exact h
   subst h;exact(e rfl).elim
  have:=wv k f hf j hlt;show f (aB (aB x _ false) _ b)=f (aB (aB x _ true) _ b);rw[dj e,dj e];exact xaK λhne=>this ⟨_,hne⟩
def FI(n:Nat)(ord:zL)(L:an.Fs)(k:Nat):an.Fs:=nodes n (cur n ord L k) (ord.getD k 0)
def kz(n:Nat)(ord:zL)(L:an.Fs):Nat->Nat
 |0=>0
 |k+1=>kz n ord L k+(FI n ord L k).length
def GP(n:Nat)(ord:zL)(L:an.Fs):Nat->an.Fs
 |0=>[]
 |k+1=>GP n ord L k++FI n ord L k
theorem tM:∀k,(GP n ord L k).length=kz n ord L k
 |0=>rfl
 |k+1=>by rw[GP,kz,xaf,tM k]
theorem rf{k:Nat}{t:zL}:t∈FI n ord L k↔t∈cur n ord L k/\an.dep n t (ord.getD k 0)=true:=by
 unfold FI nodes;rw[xbV]
theorem Ek(hL:∀t∈L,fg n t)(hn:n<=16):∀k,∀t∈GP n ord L k,fg n t
 |0,t,h=>by cases h
 |k+1,t,h=>by
  rcases xao.1 h with h|h
  ·exact Ek hL hn k t h
  exact rT hL hn k t (rf.1 h).1
theorem wV(hL:∀t∈L,fg n t)(hn:n<=16)(ho:∀i,i<n->ord.getD i 0<n):∀m,m<=n->∀g,(∃k,k<m/\fs ord (FT n L) k g/\cE g (ord.getD k 0))↔∃t∈GP n ord L m,g=py n t
 |0,_,g=>by simp[GP]
 |m+1,hm,g=>by
  have ih:=wV hL hn ho m zO g;have ah:(fs ord (FT n L) m g/\cE g (ord.getD m 0))↔∃t∈FI n ord L m,g=py n t:=by
   rw[Gp hL hn ho m zO];constructor
   ·rintro⟨⟨t,ht,rfl⟩,hh⟩;exact⟨t,rf.2 ⟨ht,(zm (rT hL hn m t ht) (ho m zO)).1 hh⟩,rfl⟩
   rintro⟨t,ht,rfl⟩;obtain⟨h1,h2⟩:=rf.1 ht;exact⟨⟨t,h1,rfl⟩,(zm (rT hL hn m t h1) (ho m zO)).2 h2⟩
  constructor
  ·rintro⟨k,hk,h1,h2⟩;by_cases e:k=m
   ·subst e;obtain⟨t,ht,rfl⟩:=ah.1 ⟨h1,h2⟩;exact⟨t,xab _ ht,rfl⟩
   obtain⟨t,ht,rfl⟩:=ih.1 ⟨k,by omega,h1,h2⟩;exact⟨t,xae _ ht,rfl⟩
  rintro⟨t,ht,rfl⟩;rcases xao.1 ht with ht|ht
  ·obtain⟨k,hk,h⟩:=ih.2 ⟨t,ht,rfl⟩;exact⟨k,by omega,h⟩
  exact⟨m,by omega,ah.2 ⟨t,ht,rfl⟩⟩
theorem wU(hL:∀t∈L,fg n t)(hn:n<=16)(ho:∀i,i<n->ord.getD i 0<n):∀m,m<=n->(GP n ord L m).Nodup
 |0,_=>List.nodup_nil
 |m+1,hm=>by
  refine xa5.2 ⟨wU hL hn ho m zO,(zz m).filter _,λa ha b hb e=>?_⟩;subst e;obtain⟨k,hk,h1,h2⟩:=(wV hL hn ho m zO (py n a)).2 ⟨a,ha,rfl⟩;have h3:=(Gp hL hn ho m zO (py n a)).2 ⟨a,(rf.1 hb).1,rfl⟩;exact wv m _ h3 k hk h2
theorem SW{P:Fn->Prop}{l:an.Fs}(hf:∀t∈l,fg n t)(hn:l.Nodup)(h:∀g,P g↔∃t∈l,g=py n t):pC P l.length:=by
 refine⟨l.map (py n),?_,by simp,λg=>?_⟩
 ·refine xcc.2 (hn.imp_of_mem λ{a b} ha hb hne heq=>hne (Wp (hf a ha) (hf b hb) heq))
 rw[h,xan];constructor
 ·rintro⟨t,ht,rfl⟩;exact⟨t,ht,rfl⟩
 rintro⟨t,ht,rfl⟩;exact⟨t,ht,rfl⟩
theorem ZV(hL:∀t∈L,fg n t)(hn:n<=16)(ho:∀i,i<n->ord.getD i 0<n):pC (aG n ord (FT n L)) (kz n ord L n):=by
 rw[<-tM];exact SW (Ek hL hn n) (wU hL hn ho n (xag _)) (wV hL hn ho n (xag _))
theorem W5(hL:∀t∈L,fg n t)(hn:n<=16)(ho:∀i,i<n->ord.getD i 0<n):sz n ord (FT n L)=kz n ord L n:=B6 (ZV hL hn ho)
end aA
set_option maxRecDepth 100000
namespace Go.Proofs
open Go Go.Sx Tryz
section
open aA
def u32(r:Nat):zV:=.int .u32 (r:Int)
def bu(d:Nd):List zV:=[iv (d.v:Int),u32 d.lo,u32 d.hi]
structure pB where
 v:Int
 lo:Nat
 hi:Nat
 tk:Bool
 c:Nat
def pB.row(p:pB):List zV:=[iv p.v,u32 p.lo,u32 p.hi,.bool p.tk,.int .u8 (p.c:Int)]
def gE(N:eH)(r:Nat):Bool:=decide (r<2)||(N r).isSome
theorem bX{N:eH}{r:Nat}:gE N r=true↔live N r:=by
 unfold gE live;rw[xa1,xar,xdF]
def got(N:eH)(r:Nat):List zV:=
 if r<2 then [iv (-1),u32 r,u32 r]else match N r with|some d=>bu d|none=>[iv 0,u32 0,u32 0]
theorem dY{N:eH}{r:Nat}{d:Nd}(h:N r=some d)(h2:2<=r):got N r=bu d:=by unfold got;rw[xac zO,h]
theorem fJ{N:eH}{r:Nat}(h2:r<2):got N r=[iv (-1),u32 r,u32 r]:=by unfold got;rw[xad h2]
theorem DF{N:eH}{r:Nat}(h:gE N r=false):got N r=[iv 0,u32 0,u32 0]:=by
 unfold gE at h;rw[xax,xa4]at h;unfold got;rw[xac h.1];cases hN:N r with
 |none=>rfl
 |some d=>rw[hN]at h;simp at h
def M5(p:pB):Option Nd:=if p.tk then some ⟨p.v.toNat,p.lo,p.hi⟩else none
structure BC(l:List pB)(fr:zL)(cap used:Nat)(N:eH):Prop where
 cap:l.length<=cap/\cap<=1048576
 two:2<=l.length
 const:∀r,r<2->∃p,l[r]? =some p/\p.v= -1/\p.lo=r/\p.hi=r/\p.tk=true
 nd:∀r,2<=r->N r=(l[r]?).bind M5
 n0:∀r,r<2->N r=none
 nn:∀(r:Nat) p,2<=r->l[r]? =some p->p.tk=true->0<=p.v
 T3:fr.Nodup
 BQ:∀r,r∈fr↔∃p,l[r]? =some p/\p.tk=false
 used:used+fr.length=l.length
theorem BC.Di{l:List pB}{fr:zL}{cap used:Nat}{N:eH}(h:BC l fr cap used N)(r:Nat):gE N r=(match l[r]? with|some p=>p.tk|none=>false):=by
 unfold gE;by_cases h2:r<2
 ·obtain⟨p,hp,_,_,_,ht⟩:=h.const r h2;simp[h2,hp,ht]
 rw[h.nd r zO];cases hl:l[r]? with
 |none=>simp[h2]
 |some p=>cases ht:p.tk<;>simp[h2,M5,ht]
theorem BC.ahb{l:List pB}{fr:zL}{cap used:Nat}{N:eH}(h:BC l fr cap used N){r:Nat}{p:pB}(hp:l[r]? =some p)(ht:p.tk=true):got N r=p.row.take 3:=by
 by_cases h2:r<2
 ·obtain⟨p',Y8,h1,oX,h3,_⟩:=h.const r h2;rw[hp]at Y8;cases Y8;rw[fJ h2];simp[pB.row,h1,oX,h3]
 have hn:=h.nn r p zO hp ht;rw[dY (d:=⟨p.v.toNat,p.lo,p.hi⟩) (by rw[h.nd r zO,hp];simp[M5,ht]) zO];simp[bu,pB.row,Int.toNat_of_nonneg hn]
theorem BC.lt{l:List pB}{fr:zL}{cap used:Nat}{N:eH}(h:BC l fr cap used N){r:Nat}(hr:live N r):r<l.length:=by
 have:=bX.2 hr;rw[h.Di]at this;cases hl:l[r]? with
 |none=>rw[hl]at this;simp at this
 |some p=>exact(xak.1 hl).1
def iX(pa cap used:Nat)(N:eH)(C:Hp):Prop:=
 ∃vl vf l fr Cl Cf,C=(pa,.cells #[iv (cap:Int),vl,vf,iv (used:Int)] 224 zZ)::(Cl++Cf)/\
  bg 228 5 vl (l.map pB.row) Cl/\aN 110 .u32 vf (fr.map (Nat.cast:Nat->Int)) Cf/\BC l fr cap used N
abbrev ptr(b:Nat):zV:=.pointer (some ⟨b,0,none⟩)
theorem row_one(p:pB):∀x∈p.row,x.oneCell'=true:=by intro x hx;simp[pB.row,u32]at hx;rcases hx with rfl|rfl|rfl|rfl|rfl<;>rfl
theorem qU{pa cap used r:Nat}{N:eH}{C:Hp}(h:iX pa cap used N C)(hr:r<4294967296):
  Rd zQ 356 #[ptr pa,u32 r] C (· =.bool (gE N r)):=by
 obtain⟨vl,vf,l,fr,Cl,Cf,rfl,hl,hf,ho⟩:=h;refine aF λg=>HA (aV.q (Nil.ptr ?_));refine ai.mk (Ld.mk zM rfl ?_);refine hl.bP (ae.fk ?_);rw[xaC];rw[ho.Di r];refine cm.and (match l[r]? with|some p=>p.tk|none=>false) (λhlt=>?_) rfl λ_=>aZ.mk (.refl _) ?_
 ·have gR:=xcd hlt;apply Nil.ptr;refine ai.mk (Ld.mk zM rfl ?_);have hg:l[r]? =some l[r]:=xaa gR;refine hl.YD (r:=l[r].row) (x:=.bool l[r].tk) (by rw[xau,hg];rfl) rfl (λ_ h=>by exact .tail _ (xae _ h)) ?_;exact⟨rfl,by rw[hg]⟩
 congr 1;by_cases hlt:r<l.length
 ·simp[hlt]
 rw[xaE zO];simp
theorem Sv{pa cap used r:Nat}{N:eH}{C:Hp}(h:iX pa cap used N C)(hr:r<4294967296):
  Rd zQ 286 #[ptr pa,u32 r] C (· =.tuple #[.agg (got N r).toArray,iv (if gE N r then 0 else 3)]):=by
 have h0:=h;obtain⟨vl,vf,l,fr,Cl,Cf,rfl,hl,hf,ho⟩:=h;refine aF λg=>Iy λb1 _=>?_;refine ae.aH (Br.no (aa.eq (qU h0 hr) (Un.not (Br.mk (λhb=>?_) (λhb=>?_)))))
 ·have hb':gE N r=false:=by simpa using hb
  refine Build.mk (cs:=[iv 0,.int .u32 0,.int .u32 0]) zK (St.q ?_);refine ax.q ?_;exact aZ.mk .tail (by rw[DF hb',hb'];rfl)
 have hb':gE N r=true:=by simpa using hb
 have hx:=hb';rw[ho.Di]at hx;cases hg:l[r]? with
 |none=>rw[hg]at hx;simp at hx
 |some p=>
 rw[hg]at hx;simp only at hx;apply Nil.ptr;refine ai.mk (Ld.mk zM rfl ?_);refine hl.YC (r:=p.row) (by rw[xau,hg];rfl) zD (λ_ h=>by exact .tail _ (.tail _ (xae _ h))) ?_;refine St.p (λx hx=>row_one p x (xcC hx)) ?_;refine ax.q ?_;exact aZ.mk .tail (by rw[ho.ahb hg hx,hb'];rfl)
structure NOk(N:eH)(d:Nd):Prop where
 v:d.v<64
 lo:live N d.lo
 hi:live N d.hi
theorem iX.lt{pa cap used r:Nat}{N:eH}{C:Hp}(h:iX pa cap used N C)(hr:live N r):r<cap/\cap<=1048576:=by
 obtain⟨vl,vf,l,fr,Cl,Cf,rfl,hl,hf,ho⟩:=h;exact⟨xaO (ho.lt hr) ho.cap.1,ho.cap.2⟩
theorem Aa{pa cap used:Nat}{N:eH}{C:Hp}{d:Nd}(h:iX pa cap used N C)(hd:NOk N d):
  Rd zQ 368 #[ptr pa,.agg (bu d).toArray] C (· =iv 0):=by
 have hlo:=h.lt hd.lo;have hhi:=h.lt hd.hi;refine aF λg=>Hq λb1 _=>?_;refine Ld.f ?_;refine ae.lss (cm.or (decide (64<=d.v)) (λ_=>?_) rfl λ_=>?_)
 ·refine Ld.f ?_;exact ae.qM (b:=64) ⟨rfl,rfl⟩
 have hv:=hd.v;refine Br.TQ zP λJ hJ=>?_;refine Ld.f ?_;refine aa.eq (qU h zO) ?_;rw[bX.2 hd.lo];refine Un.not (Split.go rfl (Ld.f ?_));refine aa.eq (qU h zO) ?_;rw[bX.2 hd.hi];refine Un.not (aD.mk (JE.mk (hJ _ _ λgs=>Br.no (aZ.mk .tail rfl))))
theorem QL{pa cap used r:Nat}{N:eH}{C:Hp}(h:iX pa cap used N C)(hr:∃d,N r=some d)(h2:2<=r):
  Rd zQ 358 #[ptr pa,u32 r] C (· =iv 0):=by
 have hl:=h.lt (.inr hr);refine aF λg=>Hy λJ hJ=>?_;refine ae.xX (b:=1) (Split.go zP ?_);refine aa.eq (qU h zO) ?_;rw[bX.2 (.inr hr)];refine Un.not (aD.mk (JE.mk (hJ _ _ λgs=>Br.no (aZ.mk (.refl _) rfl))))
theorem Ed{pa cap used:Nat}{N:eH}{C:Hp}(h:iX pa cap used N C):Rd zQ 196 #[ptr pa] C (· =iv (used:Int)):=by
 obtain⟨vl,vf,l,fr,Cl,Cf,rfl,hl,hf,ho⟩:=h;refine aF λg=>Js (ae.aH (Br.no (Nil.ptr ?_)));refine ai.mk (Ld.mk zM rfl ?_);exact aZ.mk (.refl _) rfl
theorem GM{pa cap used:Nat}{N:eH}{C:Hp}(h:iX pa cap used N C):Rd zQ 321 #[ptr pa] C (· =iv (cap:Int)):=by
 obtain⟨vl,vf,l,fr,Cl,Cf,rfl,hl,hf,ho⟩:=h;refine aF λg=>Ic (ae.aH (Br.no (Nil.ptr ?_)));refine ai.mk (Ld.mk zM rfl ?_);exact aZ.mk (.refl _) rfl
end
section
open aA
section
variable {l:List pB} {fr:zL} {cap used:Nat} {N:eH}
theorem FA(d:Nd){c:Nat}:M5 ⟨(d.v:Int),d.lo,d.hi,true,c⟩=some d:=by simp[M5]
theorem BC.reuse(h:BC l fr cap used N){r:Nat}(hr:r∈fr){fr':zL}(hf:fr.Perm (r::fr'))(d:Nd):
  2<=r/\r<cap/\N r=none/\BC (l.set r ⟨(d.v:Int),d.lo,d.hi,true,0⟩) fr' cap (used+1) (up N r (some d)):=by
 obtain⟨p,hp,ht⟩:=(h.BQ r).1 hr;have hlt:=(xak.1 hp).1;have h2:2<=r:=by
  apply xdB;intro hn;obtain⟨p',Y8,_,_,_,ht'⟩:=h.const r zO;rw[hp]at Y8;cases Y8;rw[ht]at ht';cases ht'
 have fO:=hf.nodup_iff.1 h.T3;rw[xaX]at fO;refine⟨h2,xaO hlt h.cap.1,by rw[h.nd r h2,hp];simp[M5,ht],?_⟩;have gT:∀s,s≠r->(l.set r ⟨(d.v:Int),d.lo,d.hi,true,0⟩)[s]? =l[s]? :=λs hs=>xbI (xba hs);have lZ:(l.set r ⟨(d.v:Int),d.lo,d.hi,true,0⟩)[r]? =some ⟨(d.v:Int),d.lo,d.hi,true,0⟩:=xbK hlt;exact {
  cap:=by simpa using h.cap
  two:=by simpa using h.two
  const:=λs hs=>by rw[gT s zO];exact h.const s hs
  nd:=λs hs=>by
   by_cases e:s=r
   ·subst e;rw[aO,lZ];exact(FA d).symm
   rw[aS e,gT s e];exact h.nd s hs
  n0:=λs hs=>by rw[aS zO];exact h.n0 s hs
  nn:=λs q hs hq RB=>by
   by_cases e:s=r
   ·subst e;rw[lZ]at hq;cases hq;exact xdd _
   rw[gT s e]at hq;exact h.nn s q hs hq RB
  T3:=fO.2
  BQ:=λs=>by
   by_cases e:s=r
   ·subst e;rw[lZ];simp[fO.1]
   rw[gT s e,<-h.BQ s,hf.mem_iff];simp[e]
  used:=by have:=h.used;have:=hf.length_eq;simp only[xaH,xbT]at*;omega}
theorem BC.grow(h:BC l [] cap used N)(hlt:l.length<cap)(d:Nd):
  2<=l.length/\N l.length=none/\BC (l++[⟨(d.v:Int),d.lo,d.hi,true,0⟩]) [] cap (used+1) (up N l.length (some d)):=by
 have h2:=h.two;refine⟨h2,by rw[h.nd _ h2,xaE (xag _)];rfl,?_⟩;have gT:∀s,s≠l.length->(l++[(⟨(d.v:Int),d.lo,d.hi,true,0⟩:pB)])[s]? =l[s]? :=λs hs=>by
  rw[xd0];split
  ·rfl
  rw[xaE zP,xaE zO]
 have lZ:(l++[(⟨(d.v:Int),d.lo,d.hi,true,0⟩:pB)])[l.length]? =some ⟨(d.v:Int),d.lo,d.hi,true,0⟩:=by simp
 exact {
  cap:=by simp;exact⟨hlt,h.cap.2⟩
  two:=by simp;omega
  const:=λs hs=>by rw[gT s zO];exact h.const s hs
  nd:=λs hs=>by
   by_cases e:s=l.length
   ·subst e;rw[aO,lZ];exact(FA d).symm
   rw[aS e,gT s e];exact h.nd s hs
  n0:=λs hs=>by rw[aS zO];exact h.n0 s hs
  nn:=λs q hs hq RB=>by
   by_cases e:s=l.length
   ·subst e;rw[lZ]at hq;cases hq;exact xdd _
   rw[gT s e]at hq;exact h.nn s q hs hq RB
  T3:=h.T3
  BQ:=λs=>by
   by_cases e:s=l.length
   ·subst e;rw[lZ];simp
   rw[gT s e];exact h.BQ s
  used:=by have:=h.used;simp at*;omega}
theorem BC.Au(h:BC l fr cap used N){r:Nat}{p:pB}(h2:2<=r)(hp:l[r]? =some p)(ht:p.tk=true)(d:Nd):
  BC (l.set r ⟨(d.v:Int),d.lo,d.hi,true,p.c⟩) fr cap used (up N r (some d)):=by
 have hlt:=(xak.1 hp).1;have gT:∀s,s≠r->(l.set r ⟨(d.v:Int),d.lo,d.hi,true,p.c⟩)[s]? =l[s]? :=λs hs=>xbI (xba hs);have lZ:(l.set r ⟨(d.v:Int),d.lo,d.hi,true,p.c⟩)[r]? =some ⟨(d.v:Int),d.lo,d.hi,true,p.c⟩:=xbK hlt;exact {
  cap:=by simpa using h.cap
  two:=by simpa using h.two
  const:=λs hs=>by rw[gT s zO];exact h.const s hs
  nd:=λs hs=>by
   by_cases e:s=r
   ·subst e;rw[aO,lZ];exact(FA d).symm
   rw[aS e,gT s e];exact h.nd s hs
  n0:=λs hs=>by rw[aS zO];exact h.n0 s hs
  nn:=λs q hs hq RB=>by
   by_cases e:s=r
   ·subst e;rw[lZ]at hq;cases hq;exact xdd _
   rw[gT s e]at hq;exact h.nn s q hs hq RB
  T3:=h.T3
  BQ:=λs=>by
   by_cases e:s=r
   ·subst e;rw[h.BQ,lZ,hp];simp[ht]
   rw[gT s e];exact h.BQ s
  used:=by simpa using h.used}
theorem BC.free(h:BC l fr cap used N){r:Nat}{p:pB}(h2:2<=r)(hp:l[r]? =some p)(ht:p.tk=true):
  BC (l.set r ⟨0,0,0,false,0⟩) (fr++[r]) cap (used-1) (up N r none)/\0<used:=by
 have hlt:=(xak.1 hp).1;have gT:∀s,s≠r->(l.set r ⟨0,0,0,false,0⟩)[s]? =l[s]? :=λs hs=>xbI (xba hs);have lZ:(l.set r ⟨0,0,0,false,0⟩)[r]? =some ⟨0,0,0,false,0⟩:=xbK hlt;have hnf:r∉fr:=λhm=>by obtain⟨q,hq,RB⟩:=(h.BQ r).1 hm;rw[hp]at hq;cases hq;rw[ht]at RB;cases RB
 have hu:fr.length<l.length:=by
  have hn:(r::fr).Nodup:=xaX.2 ⟨hnf,h.T3⟩;have:=cv (l:=r::fr) (l':=List.range l.length) hn λs hs=>by
   rw[xaM];rcases xam.1 hs with rfl|hs
   ·exact hlt
   obtain⟨q,hq,_⟩:=(h.BQ s).1 hs;exact(xak.1 hq).1
  rw[xaz]at this;exact this
 have VB:=h.used;refine⟨?_,by omega⟩;exact {
  cap:=by simpa using h.cap
  two:=by simpa using h.two
  const:=λs hs=>by rw[gT s zO];exact h.const s hs
  nd:=λs hs=>by
   by_cases e:s=r
   ·subst e;rw[aO,lZ];rfl
   rw[aS e,gT s e];exact h.nd s hs
  n0:=λs hs=>by rw[aS zO];exact h.n0 s hs
  nn:=λs q hs hq RB=>by
   by_cases e:s=r
   ·subst e;rw[lZ]at hq;cases hq;cases RB
   rw[gT s e]at hq;exact h.nn s q hs hq RB
  T3:=by rw[xa5];exact⟨h.T3,by simp,λa ha c hc=>by simp at hc;subst hc;intro e;subst e;exact hnf ha⟩
  BQ:=λs=>by
   rw[xao,xaI];by_cases e:s=r
   ·subst e;rw[lZ];simp
   rw[gT s e,<-h.BQ];simp[e]
  used:=by simp;omega}
end
theorem nP(l:List pB)(r:Nat)(p:pB):(l.map pB.row).set r p.row=(l.set r p).map pB.row:=by rw[xcN]
theorem Tp{pa cap used:Nat}{N:eH}{C:Hp}{d:Nd}(h:iX pa cap used N C)(hd:NOk N d)(hroom:used<cap):
  Fc zQ 322 #[ptr pa,.agg (bu d).toArray] C (λv C'=>∃r,v=.tuple #[u32 r,iv 0]/\2<=r/\r<cap/\N r=none/\iX pa cap (used+1) (up N r (some d)) C'):=by
 have h0:=h;obtain⟨vl,vf,l,fr,Cl,Cf,rfl,hl,hf,ho⟩:=h;have hcap:=ho.cap;have Ll:=ho.used;refine aF λg=>Ib λb1 _=>?_;refine ae.aH (Br.no (ax.q ?_));refine aa.eq (Aa h0 hd) (ae.cD (Br.F (Nil.ptr ?_)));refine ai.mk (Ld.mk zM rfl ?_);refine hf.bP ?_;rw[xaC];refine ae.nh (b:=0) (Br.dec (λhp=>?_) (λhp=>?_))
 ·obtain⟨fr',r,rfl⟩:∃fr' r,fr=fr'++[r]:=⟨fr.dropLast,fr.getLast (by intro e;simp[e]at hp),(xec _).symm⟩;simp only[xaf,xaH,xcf]at hp Ll⊢;obtain⟨g1,g2,g3,hok⟩:=ho.reuse (r:=r) zI (fr':=fr') (by exact List.perm_append_singleton _ _) d;apply Nil.ptr;refine ai.mk (Ld.mk zM rfl ?_);refine ae.bZ (a:=fr'.length+1) (b:=1) ?_;rw[xb8];refine hf.ld (i:=fr'.length) (x:=(r:Int)) zI (λ_ h=>by exact .tail _ (.tail _ (xab _ h))) (Nil.ptr ?_);refine ai.mk (Ld.mk zM rfl ?_);refine ae.bZ (a:=fr'.length+1) (b:=1) ?_;rw[xb8];refine hf.cut (i:=fr'.length) zI λv' TY=>?_;have Zo:aN 110 .u32 v' (fr'.map (Nat.cast:Nat->Int)) Cf:=by
   rw[xaJ,xev zI]at TY;exact TY
  have hone:v'.oneCell'=true:=by obtain⟨a,c,e⟩:=bg.len Zo;rw[e];rfl
  refine Nil.ptr (ai.mk (St.one (by exact .tail (.head _)) hone zI rfl ?_));refine DR.self (Nil.ptr (Ld.f ?_));refine ax.q ?_;refine Build.mk (cs:=(pB.mk (d.v:Int) d.lo d.hi true 0).row) zK (hl.QA (A:=[_,_]) (B:=Cf) (i:=r) (by rw[xaC];have:=(ho.BQ r).1 zI;obtain⟨p,hp,_⟩:=this;exact(xak.1 hp).1) rfl (row_one _) λC' hl'=>?_);rw[nP]at hl';simp only[xaR,xb5];refine Nil.ptr (Ld.f ?_);refine ae.inc (Nil.ptr (ai.mk (St.one (by exact .tail (.head _)) rfl zI rfl ?_)));exact aM.mk .tail ⟨r,rfl,g1,g2,g3,vl,v',_,fr',C',Cf,rfl,hl',Zo,hok⟩
 obtain rfl:fr=[]:=xbW zO;simp only[xcf]at Ll;obtain⟨g1,g3,hok⟩:=ho.grow zO d;apply Nil.ptr;refine ai.mk (Ld.mk zM rfl ?_);refine hl.bP ?_;rw[xaC];apply Nil.ptr;refine ai.mk (Ld.mk zM rfl ?_);refine ae.qM (Br.F (DR.of (R:=(b1,.cells (List.toArray (bu d)) 226 zZ)::(pa,.cells #[iv (cap:Int),vl,vf,iv (used:Int)] 224 zZ)::[]) (.cons (.cons .nil)) (Nil.ptr ?_)));refine ai.mk (Ld.mk zM rfl ?_);refine ax.q ?_;refine Build.mk (cs:=(pB.mk (d.v:Int) d.lo d.hi true 0).row) zK (az.one (z:=.agg #[iv 0,.int .u32 0,.int .u32 0,.bool false,.int .u8 0]) (e:=228) (k:=5) zK zK zK zD rfl λbx=>?_);refine⟨.skip (.cons (.cons .nil)),?_⟩;refine hl.GL (A:=[_,_,_]) (B:=Cf) (r:=(pB.mk (d.v:Int) d.lo d.hi true 0).row) (by exact .head _) rfl (row_one _) (by exact⟨[iv 0,.int .u32 0,.int .u32 0,.bool false,.int .u8 0],rfl,rfl⟩) zP zP λv' C' hl'=>?_;have qK:bg 228 5 v' ((l++[(⟨(d.v:Int),d.lo,d.hi,true,0⟩:pB)]).map pB.row) C':=by rw[xaJ];exact hl'
 simp only[xaR,xb5];refine⟨.skip (.cons (.cons .nil)),?_⟩;have hone:v'.oneCell'=true:=by obtain⟨a,c,e⟩:=qK.len;rw[e];rfl
 refine Nil.ptr (ai.mk (St.one (by exact .tail (.tail (.head _))) hone zI rfl ?_));refine Nil.ptr (Ld.f ?_);refine ae.inc (Nil.ptr (ai.mk (St.one (by exact .tail (.tail (.head _))) rfl zI rfl ?_)));refine Nil.ptr (Ld.f ?_);refine qK.bP (ae.xO (b:=1) (by simp[bG];omega) zI (aV.q (aM.mk (.skip .tail) ⟨l.length,by simp[u32],g1,by omega,g3,v',vf,_,[],C',Cf,rfl,qK,hf,hok⟩)))
theorem WG{pa cap used r:Nat}{N:eH}{C:Hp}{d:Nd}(h:iX pa cap used N C)(hd:NOk N d)(hr:∃e,N r=some e)(h2:2<=r):
  Fc zQ 301 #[ptr pa,u32 r,.agg (bu d).toArray] C (λv C'=>v=iv 0/\iX pa cap used (up N r (some d)) C'):=by
 have h0:=h;obtain⟨vl,vf,l,fr,Cl,Cf,rfl,hl,hf,ho⟩:=h;have hx:=bX.2 (.inr hr:live N r);rw[ho.Di]at hx;obtain⟨p,hg,hx⟩:∃p,l[r]? =some p/\p.tk=true:=by
  cases hg:l[r]? with
  |none=>rw[hg]at hx;simp at hx
  |some p=>rw[hg]at hx;exact⟨p,rfl,hx⟩
 refine aF λg=>Ik λb1 _=>?_;refine ae.aH (Br.no (ax.q ?_));refine aa.eq (Aa h0 hd) (ae.cD (Br.F (aa.eq (QL h0 hr h2) (ae.cD (Br.F (DR.self (Nil.ptr ?_)))))));refine ai.mk (Ld.mk zM rfl ?_);refine ax.q ?_;refine hl.UR (A:=[_,_]) (B:=Cf) (r:=p.row) (xs:=bu d) (n:=3) (by rw[xau,hg];rfl) ⟨rfl,by omega⟩ (by intro x hx;simp[bu,u32]at hx;rcases hx with rfl|rfl|rfl<;>rfl) λC' hl'=>?_;have e:(bu d++p.row.drop 3)=(pB.mk (d.v:Int) d.lo d.hi true p.c).row:=by simp[bu,pB.row,hx]
 rw[e,nP]at hl';exact aM.mk .tail ⟨rfl,vl,vf,_,fr,C',Cf,rfl,hl',hf,ho.Au h2 hg hx d⟩
theorem Tw{pa cap used r:Nat}{N:eH}{C:Hp}(h:iX pa cap used N C)(hr:∃e,N r=some e)(h2:2<=r):
  Fc zQ 289 #[ptr pa,u32 r] C (λv C'=>v=iv 0/\iX pa cap (used-1) (up N r none) C'):=by
 have h0:=h;obtain⟨vl,vf,l,fr,Cl,Cf,rfl,hl,hf,ho⟩:=h;have hx:=bX.2 (.inr hr:live N r);rw[ho.Di]at hx;obtain⟨p,hg,hx⟩:∃p,l[r]? =some p/\p.tk=true:=by
  cases hg:l[r]? with
  |none=>rw[hg]at hx;simp at hx
  |some p=>rw[hg]at hx;exact⟨p,rfl,hx⟩
 obtain⟨hok,hu0⟩:=ho.free h2 hg hx;have hcap:=ho.cap;have Ll:=ho.used;refine aF λg=>Iv (ae.aH (Br.no (aa.eq (QL h0 hr h2) (ae.cD (Br.F (Nil.ptr ?_))))));refine ai.mk (Ld.mk zM rfl ?_);refine Build.mk (cs:=(pB.mk 0 0 0 false 0).row) zK (hl.QA (A:=[_]) (B:=Cf) (i:=r) (by rw[xaC];exact(xak.1 hg).1) rfl (row_one _) λC' hl'=>?_);rw[nP]at hl';simp only[xaR,xb5];refine Nil.ptr (Ld.f ?_);refine az.int (e:=110) zK zK zK λbx=>?_;have e1:(bx,Obj.cells (av .u32 [(r:Int)]) 110 zZ)::(pa,Obj.cells #[iv (cap:Int),vl,vf,iv (used:Int)] 224 zZ)::(C'++Cf)=(bx,Obj.cells (av .u32 [(r:Int)]) 110 zZ)::(pa,Obj.cells #[iv (cap:Int),vl,vf,iv (used:Int)] 224 zZ)::C'++(Cf++[]):=by simp
 rw[e1];refine hf.app (x:=(r:Int)) (B:=[]) (by exact .head _) zP zP λv' Cf' TY=>?_;have Zo:aN 110 .u32 v' ((fr++[r]).map (Nat.cast:Nat->Int)) Cf':=by rw[xaJ];exact TY
 have hone:v'.oneCell'=true:=by obtain⟨a,c,e⟩:=bg.len Zo;rw[e];rfl
 simp only[xaR,xaL];refine Nil.ptr (ai.mk (St.one (by exact .tail (.head _)) hone zI rfl ?_));refine Nil.ptr (Ld.f ?_);refine ae.bZ (b:=1) (Nil.ptr (ai.mk (St.one (by exact .tail (.head _)) rfl zI rfl ?_)));exact aM.mk .tail ⟨rfl,vl,v',_,_,C',Cf',rfl,hl',Zo,hok⟩
def nK(d:Nd):zV:=.agg (bu d).toArray
abbrev Pc(v:zV)(r:Nat):Prop:=v=u32 r
theorem La:Tryz.prog.underlying 226=some (.struct (Tryz.prog.fieldsOf 226)):=by kernel_rfl
theorem q8(a b:Nd):BA zQ 226 (nK a) (nK b) (decide (a=b)):=by
 refine BA.flat (fs:=#[⟨"Var",3,0,false, "", "",0⟩,⟨"Lo",110,1,false, "", "",8⟩,⟨"Hi",110,2,false, "", "",12⟩]) zK zK ?_ ?_
 ·intro f hf;simp only[xam,xaP,xbD]at hf;rcases hf with rfl|rfl|rfl
  ·exact⟨by decide,_,_,rfl,rfl,.inl ⟨.i64,_,_,by kernel_rfl,rfl,rfl⟩⟩
  ·exact⟨by decide,_,_,rfl,rfl,.inl ⟨.u32,_,_,by kernel_rfl,rfl,rfl⟩⟩
  exact⟨by decide,_,_,rfl,rfl,.inl ⟨.u32,_,_,by kernel_rfl,rfl,rfl⟩⟩
 obtain⟨a1,a2,a3⟩:=a;obtain⟨b1,b2,b3⟩:=b;simp[bu,u32];omega
theorem mM(a:Nd):mu zQ 226 (nK a):=by
 refine mu.flat (fs:=#[⟨"Var",3,0,false, "", "",0⟩,⟨"Lo",110,1,false, "", "",8⟩,⟨"Hi",110,2,false, "", "",12⟩]) zK ?_;intro f hf;simp only[xam,xaP,xbD]at hf;rcases hf with rfl|rfl|rfl
 ·exact⟨by decide,_,rfl,.inl ⟨.i64,_,_,by kernel_rfl,rfl,rfl⟩⟩
 ·exact⟨by decide,_,rfl,.inl ⟨.u32,_,_,by kernel_rfl,rfl,rfl⟩⟩
 exact⟨by decide,_,rfl,.inl ⟨.u32,_,_,by kernel_rfl,rfl,rfl⟩⟩
theorem Lc(a:Nd):Instr.sameBits 10000 (nK a) (nK a)=true:=kP 9998 (by intro x hx;simp[bu,u32]at hx;rcases hx with rfl|rfl|rfl<;>exact .inl ⟨_,_,rfl⟩)
structure UM where
 b:Nat
 es:Array MapEntry
 ck:Nat
 l:List (Nd×Nat)
def M8(ms:List UM):Hp:=ms.map λm=>(m.b,.map m.es m.ck)
structure T6(ms:List UM)(n:Nat)(T:Nd->Option Nat):Prop where
 len:ms.length=n
 dL:∀(v:Nat) m,ms[v]? =some m->aE nK Pc m.es m.ck m.l
 var:∀(v:Nat) m,ms[v]? =some m->∀x∈m.l,x.1.v=v
 T:∀d,T d=(ms[d.v]?).bind λm=>aJ m.l d
def og(pt n:Nat)(T:Nd->Option Nat)(C:Hp):Prop:=
 ∃vs Cs ms,C=(pt,.cells #[vs] 166 zZ)::(Cs++M8 ms)/\bg 167 1 vs (ms.map λm=>[.map (some m.b)]) Cs/\T6 ms n T
theorem ri{ms:List UM}{v:Nat}{m:UM}(h:ms[v]? =some m):(m.b,Obj.map m.es m.ck)∈M8 ms:=xan.2 ⟨m,xav h,rfl⟩
theorem AV{es':Array MapEntry}{bB:Nat}{l':List (Nd×Nat)}:∀{ms:List UM} {v:Nat} {m:UM},ms[v]? =some m->c8 m.b (.map m.es m.ck) (.map es' bB) (M8 ms) (M8 (ms.set v ⟨m.b,es',bB,l'⟩))
 | [],v,m,h=>by simp at h
 |x::ms,0,m,h=>by simp at h;subst h;exact .head _
 |x::ms,v+1,m,h=>by simp at h;exact .tail (AV h)
theorem yQ{ms:List UM}{v:Nat}{m m':UM}(h:ms[v]? =some m)(hb:m'.b=m.b):(ms.set v m').map (λm=>[Value.map (some m.b)])=ms.map λm=>[Value.map (some m.b)]:=by
 rw[xcN];apply xbg;intro j;rw[xbr];split
 ·rename_i e;subst e;have hlt:=(xak.1 h).1;have e2:ms[v]=m:=by rw[xaa hlt]at h;exact xbp h
  simp[hb,hlt,e2]
 rfl
theorem T6.add{ms:List UM}{n:Nat}{T:Nd->Option Nat}(h:T6 ms n T){d:Nd}{m:UM}(hm:ms[d.v]? =some m){es':Array MapEntry}{bB r:Nat}(he:aE nK Pc es' bB (ef m.l d r)):T6 (ms.set d.v ⟨m.b,es',bB,ef m.l d r⟩) n (qI T d (some r)) where
 len:=by rw[xbT];exact h.len
 dL:=λv m' hm'=>by
  rw[xbr]at hm';split at hm'
  ·split at hm'
   ·cases hm';exact he
   cases hm'
  exact h.dL v m' hm'
 var:=λv m' hm' x hx=>by
  rw[xbr]at hm';split at hm'
  ·rename_i e;split at hm'
   ·cases hm';subst e;simp only[ef]at hx;split at hx
    ·obtain⟨y,hy,rfl⟩:=xan.1 hx;split
     ·rfl
     exact h.var _ m hm y hy
    rcases xao.1 hx with hx|hx
    ·exact h.var _ m hm x hx
    simp at hx;subst hx;rfl
   cases hm'
  exact h.var v m' hm' x hx
 T:=λe=>by
  have hlt:=(xak.1 hm).1;by_cases ee:e=d
  ·subst ee;rw[jL,xbK hlt];simp[bJ]
  rw[pS ee,h.T e];by_cases ev:d.v=e.v
  ·rw[<-ev,xbK hlt,hm];simp[bJ,ee]
  rw[xbI ev]
theorem T6.del{ms:List UM}{n:Nat}{T:Nd->Option Nat}(h:T6 ms n T){d:Nd}{m:UM}(hm:ms[d.v]? =some m){es':Array MapEntry}{bB:Nat}(he:aE nK Pc es' bB (jb m.l d)):T6 (ms.set d.v ⟨m.b,es',bB,jb m.l d⟩) n (qI T d none) where
 len:=by rw[xbT];exact h.len
 dL:=λv m' hm'=>by
  rw[xbr]at hm';split at hm'
  ·split at hm'
   ·cases hm';exact he
   cases hm'
  exact h.dL v m' hm'
 var:=λv m' hm' x hx=>by
  rw[xbr]at hm';split at hm'
  ·rename_i e;split at hm'
   ·cases hm';subst e;exact h.var _ m hm x (xbV.1 hx|>.1)
   cases hm'
  exact h.var v m' hm' x hx
 T:=λe=>by
  have hlt:=(xak.1 hm).1;by_cases ee:e=d
  ·subst ee;rw[jL,xbK hlt];simp[yO]
  rw[pS ee,h.T e];by_cases ev:d.v=e.v
  ·rw[<-ev,xbK hlt,hm];simp[yO,ee]
  rw[xbI ev]
theorem k8{pt n v:Nat}{T:Nd->Option Nat}{C:Hp}(h:og pt n T C)(hv:v<n):Rd zQ 357 #[ptr pt,iv (v:Int)] C (· =iv 0):=by
 obtain⟨vs,Cs,ms,rfl,hs,ho⟩:=h;refine aF λg=>Hz (ae.aH (Br.no (ae.lss ?_)));rw[xai (by omega:¬((v:Int)<0))];refine cm.or false (λ_=>?_) rfl λ_=>Br.no (aZ.mk (.refl _) rfl);apply Nil.ptr;refine ai.mk (Ld.mk zM rfl ?_);refine hs.bP ?_;rw[xaC,ho.len];exact ae.qM ⟨rfl,by rw[xai zO]⟩
theorem uG{pt n:Nat}{T:Nd->Option Nat}{C:Hp}{d:Nd}(h:og pt n T C)(hv:d.v<n):
  Rd zQ 320 #[ptr pt,nK d] C (· =.tuple #[u32 ((T d).getD 0),.bool (T d).isSome]):=by
 have h0:=h;obtain⟨vs,Cs,ms,rfl,hs,ho⟩:=h;obtain⟨m,hm⟩:∃m,ms[d.v]? =some m:=⟨_,xaa (by rw[ho.len];exact hv)⟩;refine aF λg=>Ie λb1 _=>?_;refine Ld.f ?_;refine aa.eq (k8 h0 hv) (ae.cD (Br.F (Nil.ptr ?_)));refine ai.mk (Ld.mk zM rfl ?_);refine Ld.f ?_;refine hs.Xd (x:=.map (some m.b)) (by rw[xau,hm];rfl) (λ_ h=>by exact .tail _ (.tail _ (xae _ h))) ?_;refine ax.q ?_;have hmem:(m.b,Obj.map m.es m.ck)∈(b1,Obj.cells (Value.cells (nK d)) 226 zZ)::(pt,.cells #[vs] 166 zZ)::(Cs++M8 ms):=.tail _ (.tail _ (xab _ (ri hm)));have hT:T d=aJ m.l d:=by rw[ho.T,hm];rfl
 rw[hT];cases hg:aJ m.l d with
 |some r=>
  refine aE.F5 (ke:=nK) (k:=d) q8 mM (ho.dL _ m hm) hmem hg ?_;rintro v rfl;exact Ext.mk rfl (Ext.mk rfl (aZ.mk .tail rfl))
 |none=>
  refine aE.vM (ke:=nK) (k:=d) q8 mM (ho.dL _ m hm) hmem hg ?_;exact Ext.mk rfl (Ext.mk rfl (aZ.mk .tail rfl))
theorem KF{pt n r:Nat}{T:Nd->Option Nat}{C:Hp}{d:Nd}(h:og pt n T C)(hv:d.v<n)(hT:T d=none):
  Fc zQ 302 #[ptr pt,nK d,u32 r] C (λv C'=>v=iv 0/\og pt n (qI T d (some r)) C'):=by
 have h0:=h;obtain⟨vs,Cs,ms,rfl,hs,ho⟩:=h;obtain⟨m,hm⟩:∃m,ms[d.v]? =some m:=⟨_,xaa (by rw[ho.len];exact hv)⟩;have hTm:aJ m.l d=none:=by rw[ho.T,hm]at hT;exact hT
 refine aF λg=>Ij λb1 _=>?_;refine Ld.f ?_;refine aa.eq (k8 h0 hv) (ae.cD (Br.F (Nil.ptr ?_)));refine ai.mk (Ld.mk zM rfl ?_);refine Ld.f ?_;refine hs.Xd (x:=.map (some m.b)) (by rw[xau,hm];rfl) (λ_ h=>by exact .tail _ (.tail _ (xae _ h))) ?_;refine ax.q ?_;have hmem:(m.b,Obj.map m.es m.ck)∈(b1,Obj.cells (Value.cells (nK d)) 226 zZ)::(pt,.cells #[vs] 166 zZ)::(Cs++M8 ms):=.tail _ (.tail _ (xab _ (ri hm)));refine aE.vM (ke:=nK) (k:=d) q8 mM (ho.dL _ m hm) hmem hTm ?_;refine Ext.mk rfl (Ext.mk rfl (Br.no (DR.self (Nil.ptr ?_))));refine ai.mk (Ld.mk zM rfl ?_);refine Ld.f ?_;refine hs.Xd (x:=.map (some m.b)) (by rw[xau,hm];rfl) (λ_ h=>by exact .tail _ (.tail _ (xae _ h))) ?_;refine ax.q ?_;refine aE.Mr (ke:=nK) (k:=d) (vr:=Pc) (x:=r) q8 mM Lc (ho.dL _ m hm) rfl λes' bB he=>⟨_,.tail (.tail ((AV (l':=ef m.l d r) hm).cc Cs)),?_⟩;exact aM.mk .tail ⟨rfl,vs,Cs,_,rfl,by rw[yQ hm];exact hs;rfl,ho.add hm he⟩
theorem yH{pt n r:Nat}{T:Nd->Option Nat}{C:Hp}{d:Nd}(h:og pt n T C)(hv:d.v<n)(hT:T d=some r):
  Fc zQ 288 #[ptr pt,nK d] C (λv C'=>v=iv 0/\og pt n (qI T d none) C'):=by
 have h0:=h;obtain⟨vs,Cs,ms,rfl,hs,ho⟩:=h;obtain⟨m,hm⟩:∃m,ms[d.v]? =some m:=⟨_,xaa (by rw[ho.len];exact hv)⟩;have hTm:aJ m.l d=some r:=by rw[ho.T,hm]at hT;exact hT
 refine aF λg=>Iw λb1 _=>?_;refine Ld.f ?_;refine aa.eq (k8 h0 hv) (ae.cD (Br.F (Nil.ptr ?_)));refine ai.mk (Ld.mk zM rfl ?_);refine Ld.f ?_;refine hs.Xd (x:=.map (some m.b)) (by rw[xau,hm];rfl) (λ_ h=>by exact .tail _ (.tail _ (xae _ h))) ?_;refine ax.q ?_;have hmem:(m.b,Obj.map m.es m.ck)∈(b1,Obj.cells (Value.cells (nK d)) 226 zZ)::(pt,.cells #[vs] 166 zZ)::(Cs++M8 ms):=.tail _ (.tail _ (xab _ (ri hm)));refine aE.F5 (ke:=nK) (k:=d) q8 mM (ho.dL _ m hm) hmem hTm ?_;rintro v rfl;refine Ext.mk rfl (Ext.mk rfl (Un.not (Br.no (DR.of (R:=(b1,Obj.cells (Value.cells (nK d)) 226 zZ)::(pt,.cells #[vs] 166 zZ)::Cs) (.cons (.cons .left)) (Nil.ptr ?_)))));refine ai.mk (Ld.mk zM rfl ?_);refine Ld.f ?_;refine hs.Xd (x:=.map (some m.b)) (by rw[xau,hm];rfl) (λ_ h=>by exact .tail _ (.tail _ h)) ?_;refine ax.q ?_;refine aE.ahm (ke:=nK) (k:=d) q8 mM (ho.dL _ m hm) hmem λes' he=>⟨_,.tail (.tail ((AV (l':=jb m.l d) hm).cc Cs)),?_⟩;exact⟨.cons (.cons .left),aM.mk .tail ⟨rfl,vs,Cs,_,rfl,by rw[yQ hm];exact hs;rfl,ho.del hm he⟩⟩
theorem T6.start(n:Nat)(bs:zL)(h:bs.length=n):T6 (bs.map λb=>⟨b,#[],0,[]⟩) n (λ_=>none) where
 len:=by simpa using h
 dL:=λv m hm=>by
  rw[xau]at hm;obtain⟨b,_,rfl⟩:=xdR.1 hm;exact aE.empty
 var:=λv m hm x hx=>by
  rw[xau]at hm;obtain⟨b,_,rfl⟩:=xdR.1 hm;simp at hx
 T:=λd=>by
  rw[xau];cases bs[d.v]? <;>simp[aJ]
theorem DP(x:zV):∀n:Nat,(List.replicate n [x]).flatten=List.replicate n x
 |0=>rfl
 |n+1=>by rw[xc6,xcW,xc6,DP x n];rfl
theorem Uk{n:Nat}(hn:1<=n/\n<=64):Fc zQ 69 #[iv (n:Int)] [] (λv H=>∃pt,v=.tuple #[ptr pt,iv 0]/\og pt n (λ_=>none) H):=by
 refine aF λg=>OU (ae.lss ?_);rw[xai zO];refine cm.or false (λ_=>ae.gtr ⟨rfl,by rw[xai zO]⟩) rfl λ_=>Br.no ?_;refine⟨.i64,.i64,n,n,rfl,rfl,xag _,by omega,by omega,?_⟩;intro bs _;refine Build.mk (cs:=[.slice (some ⟨bs,0,none⟩) n n]) zK λpt _=>?_;have hz:madeCells (Value.cells (.map none)) (n*1)=rows ((List.replicate n [Value.map none])++[]):=by
  apply xde;apply xbg;intro i;have:=DP (.map none) n;simp only[madeCells,rows,Value.cells,xdU,Array.toList_range,xau,xdz,xb4,xaL];rw[this,xdM];by_cases hi:i<n
  ·simp[hi,Nat.mod_one]
  simp[hi]
 rw[hz];have hs0:bg 167 1 (.slice (some ⟨bs,0,none⟩) n n) (List.replicate n [Value.map none]) [(bs,.cells (rows ((List.replicate n [Value.map none])++[])) 167 zZ)]:=
  bg.mk' (λr hr=>by rw[xaL]at hr;rw[xb0 hr];rfl) zI zI
 refine⟨λvs H=>∃(j:Nat) (bl:zL) (Cs:Hp),vs=[iv (j:Int)]/\bl.length=j/\j<=n/\H=(pt,.cells #[.slice (some ⟨bs,0,none⟩) n n] 166 zZ)::(Cs++M8 (bl.map λb=>⟨b,#[],0,[]⟩))/\
  bg 167 1 (.slice (some ⟨bs,0,none⟩) n n) ((bl.map λb=>[Value.map (some b)])++List.replicate (n-j) [Value.map none]) Cs,λvs _=>n-bL vs 0,JE.mk ⟨0,[],_,rfl,rfl,by omega,by simp only[M8,xck,xaL];rfl,by simpa using hs0⟩,?_⟩
 rintro w H ⟨j,bl,Cs,hw,Zv,hj,rfl,hs⟩ gs;simp only[xaw,xa2]at hw;subst hw;refine ae.fk (Br.dec (λhlt=>?_) (λhlt=>?_))
 ·refine Nil.ptr (Ld.f ?_);intro b _;have hlen:((bl.map λb=>[Value.map (some b)])++List.replicate (n-j) [Value.map none]).length=n:=by simp;omega
  refine bg.ae2 (A:=[_,_]) (B:=M8 (bl.map λb=>⟨b,#[],0,[]⟩)) hs (i:=j) (y:=.map none) zO ?_ rfl λC' hs'=>?_
  ·rw[xbu (by simp[Zv])];simp only[xaC,Zv,xcF];rw[xdM,xad zO]
  refine ae.inc ?_;have e:((bl.map λb=>[Value.map (some b)])++List.replicate (n-j) [Value.map none]).set j [Value.map (some b)]=((bl++[b]).map λb=>[Value.map (some b)])++List.replicate (n-(j+1)) [Value.map none]:=by
   rw[xb3 _ _ (by simp[Zv])];simp only[xaC,Zv,xcF];rw[show n-j=(n-(j+1))+1 by omega,xc6,xcl,xaJ];simp
  rw[e]at hs';refine aC.of ?_ ⟨j+1,bl++[b],C',rfl,by simp[Zv],by omega,rfl,hs'⟩ (by show n-(((j+1:Nat):Int).toNat)<n-(((j:Nat):Int).toNat);omega);refine aL.perm ?_;simp only[xaR,xb5,M8,xaJ,xb2];refine(List.Perm.swap _ _ _).trans (.cons _ ?_);rw[<-xaj];exact(List.perm_append_singleton _ _).symm
 obtain rfl:j=n:=by omega
 refine aM.here ⟨pt,rfl,_,Cs,_,rfl,?_,T6.start _ bl Zv⟩;rw[xcF]at hs;simpa[xb2,Function.comp_def]using hs
theorem WI{n:Nat}(hn:2<=n/\n<=1048576):Fc zQ 119 #[iv (n:Int)] [] (λv H=>∃pa,v=.tuple #[ptr pa,iv 0]/\iX pa n 2 (λ_=>none) H):=by
 refine aF λg=>Ks (ae.lss ?_);rw[xai zO];refine cm.or false (λ_=>ae.gtr ⟨rfl,by rw[xai zO]⟩) rfl λ_=>Br.no ?_;refine Build.mk (cs:=[iv (n:Int),.slice none 0 0,.slice none 0 0,iv 2]) zK λpa _=>?_;refine⟨λvs H=>∃(j:Nat) (vl:zV) (Cl:Hp),vs=[u32 j]/\j<=2/\H=(pa,.cells #[iv (n:Int),vl,.slice none 0 0,iv 2] 224 zZ)::Cl/\
  bg 228 5 vl ((List.range j).map λr=>(pB.mk (-1) r r true 255).row) Cl,λvs _=>2-bL vs 0,JE.mk ⟨0,_,[],rfl,by omega,rfl,bg.nil _ _⟩,?_⟩
 rintro w H ⟨j,vl,Cl,hw,hj,rfl,hs⟩ gs;simp only[xaw,xa2]at hw;subst hw;refine ae.fk (b:=2) (Br.dec (λhlt=>?_) (λhlt=>?_))
 ·refine Nil.ptr (Ld.f ?_);refine Build.mk (cs:=[iv (-1),u32 j,u32 j]) zK (Build.mk (cs:=(pB.mk (-1) j j true 255).row) zK (az.one (z:=.agg #[iv 0,.int .u32 0,.int .u32 0,.bool false,.int .u8 0]) (e:=228) (k:=5) zK zK zK zD rfl λbx=>?_));have e1:∀x y:Nat×Obj,x::y::Cl=[x,y]++(Cl++[]):=λx y=>by simp
  rw[e1];refine hs.GL (A:=[_,_]) (B:=[]) (r:=(pB.mk (-1) j j true 255).row) (by exact .head _) rfl (row_one _) (by exact⟨[iv 0,.int .u32 0,.int .u32 0,.bool false,.int .u8 0],rfl,rfl⟩) zP zP λv' C' hs'=>?_;simp only[xaR,xb5,xaL];have hone:v'.oneCell'=true:=by obtain⟨a,c,e⟩:=hs'.len;rw[e];rfl
  refine Nil.ptr (ai.mk (St.one (by exact .tail (.head _)) hone zI rfl ?_));refine ae.inc (aC.of .tail ⟨j+1,v',C',rfl,by omega,rfl,?_⟩ (by show 2-(((j+1:Nat):Int).toNat)<2-(((j:Nat):Int).toNat);omega));rw[xb6,xaJ];exact hs'
 obtain rfl:j=2:=by omega
 refine aM.here ⟨pa,rfl,vl,_,[⟨-1,0,0,true,255⟩,⟨-1,1,1,true,255⟩],[],Cl,[],by rw[xaL];rfl,hs,aN.nil,?_⟩;exact {
  cap:=by simp;omega
  two:=by simp
  const:=λr hr=>by
   have:r=0\/r=1:=by omega
   rcases this with rfl|rfl
   ·exact⟨_,rfl,rfl,rfl,rfl,rfl⟩
   exact⟨_,rfl,rfl,rfl,rfl,rfl⟩
  nd:=λr hr=>by rw[xaE zP];rfl
  n0:=λ_ _=>rfl
  nn:=λr p hr hp _=>by rw[xaE zP]at hp;cases hp
  T3:=by simp
  BQ:=λr=>by
   simp only[xaP,false_iff,not_exists,not_and];intro p hp;have hlt:=(xak.1 hp).1;simp at hlt;have:r=0\/r=1:=by omega
   rcases this with rfl|rfl<;>(simp at hp;subst hp;simp)
  used:=rfl}
structure ur where
 pa:Nat
 pt:Nat
 vu:zV
 vh:zV
 vo:zV
 vl:zV
 vt:zV
 CA:Hp
 CT:Hp
 CU:Hp
 CH:Hp
 CO:Hp
 CL:Hp
 CR:Hp
def ur.cells(b:ur)(n:Nat):Array zV:=#[ptr b.pa,ptr b.pt,b.vu,b.vh,iv (n:Int),b.vo,b.vl,b.vt]
def ur.hp(b:ur)(kp n:Nat):Hp:=(kp,.cells (b.cells n) 141 zZ)::(b.CA++(b.CT++(b.CU++(b.CH++(b.CO++(b.CL++b.CR))))))
structure Z9(b:ur)(K:Kd)(ord ah tr:zL):Prop where
 ar:iX b.pa K.cap K.used K.N b.CA
 ut:og b.pt K.n K.T b.CT
 us:aN 21 .i32 b.vu (iw K.us) b.CU
 ho:aN 21 .i32 b.vh (iw K.ho) b.CH
 od:aN 3 .i64 b.vo (iw ord) b.CO
 lv:aN 3 .i64 b.vl (iw ah) b.CL
 tr:aN 3 .i64 b.vt (iw tr) b.CR
 ul:K.us.length=K.ho.length/\K.us.length<=1048576
 lz:K.n<=64
 ol:ord.length=K.n/\ah.length=K.n
def cT(kp:Nat)(K:Kd)(ord ah tr:zL)(C:Hp):Prop:=∃b:ur,C=b.hp kp K.n/\Z9 b K ord ah tr
section
variable {kp:Nat} {K:Kd} {ord ah tr:zL} {C:Hp}
theorem cT.cap(h:cT kp K ord ah tr C):K.cap<=1048576:=by
 obtain⟨b,rfl,hb⟩:=h;exact(hb.ar.lt (r:=0) (.inl zD)).2
theorem cT.lt(h:cT kp K ord ah tr C){r:Nat}(hr:live K.N r):r<1048576:=by
 obtain⟨b,rfl,hb⟩:=h;have:=hb.ar.lt hr;omega
theorem aQ(N:eH)(r:Nat):(got N r).length=3/\∀x∈got N r,x.oneCell'=true:=by
 unfold got;split
 ·exact⟨rfl,by intro x hx;simp[u32]at hx;rcases hx with rfl|rfl|rfl<;>rfl⟩
 split
 ·exact⟨rfl,by intro x hx;simp[bu,u32]at hx;rcases hx with rfl|rfl|rfl<;>rfl⟩
 exact⟨rfl,by intro x hx;simp[u32]at hx;rcases hx with rfl|rfl|rfl<;>rfl⟩
theorem nT(h:cT kp K ord ah tr C){r:Nat}(hr:r<4294967296):Rd zQ 197 #[ptr kp,u32 r] C (· =.bool (gE K.N r)):=by
 obtain⟨b,rfl,hb⟩:=h;refine aF λg=>Jr (Nil.ptr (Ld.f ?_));refine aa.eq (Sv hb.ar hr) (Ext.two λb8 _=>(St.whole (r:=got K.N r) (by exact .head _) rfl (aQ _ _).1 (aQ _ _).2 ?_));refine ae.gI (aZ.mk .tail ?_);cases gE K.N r<;>rfl
theorem nS(h:cT kp K ord ah tr C){r:Nat}(hr:r<4294967296):Rd zQ 287 #[ptr kp,u32 r] C (· =.agg (got K.N r).toArray):=by
 obtain⟨b,rfl,hb⟩:=h;refine aF λg=>Ix λb1 _=>?_;refine Nil.ptr (Ld.f ?_);refine aa.eq (Sv hb.ar hr) (Ext.two λBt _=>(St.whole (r:=got K.N r) (by exact .head _) rfl (aQ _ _).1 (aQ _ _).2 ?_));refine ax.whole (r:=got K.N r) (by exact .head _) (aQ _ _).1 ?_;refine St.whole (r:=got K.N r) (by exact .tail (.head _)) rfl (aQ _ _).1 (aQ _ _).2 ?_;refine ax.whole (r:=got K.N r) (by exact .tail _ (.head _)) (aQ _ _).1 ?_;exact aZ.mk (.skip .tail) rfl
theorem Dl(h:cT kp K ord ah tr C){m:Nat}(hm:m<=1099511627776)(hu:K.used<=1048576):Rd zQ 245 #[ptr kp,iv (m:Int)] C (· =.bool (decide (K.used+m<=K.cap))):=by
 obtain⟨b,rfl,hb⟩:=h;refine aF λg=>Ja (DR.self (Nil.ptr (Ld.f ?_)));refine Nil.ptr (Ld.f ?_);refine aa.eq (Ed hb.ar) (⟨.refl _,?_⟩);refine ae.eZ (aa.eq (GM hb.ar) (⟨.refl _,?_⟩));exact ae.xX (aZ.mk (.refl _) rfl)
def tj(K:Kd)(r:Nat):zL:=if r<2 then K.us else K.us.set r (K.use r+1)
theorem jk(r:Nat):(tj K r).length=K.us.length:=by unfold tj;split<;>simp
theorem nD{r:Nat}(h2:2<=r)(hr:r<K.us.length):(tj K r).getD r 0=K.use r+1:=by
 unfold tj;rw[xac zO];simp[List.getD,hr]
theorem uR{r s:Nat}(h:s≠r):(tj K r).getD s 0=K.use s:=by
 unfold tj Kd.use;split
 ·rfl
 simp[List.getD,xbI (xba h)]
theorem EX(h:cT kp K ord ah tr C){r:Nat}(hr:r<2\/r<K.us.length)(hb:K.use r+1<2147483648):
  Fc zQ 300 #[ptr kp,u32 r] C (λv C'=>v=.tuple #[]/\cT kp {K with us:=tj K r} ord ah tr C'):=by
 obtain⟨b,rfl,hO⟩:=h;refine aF λg=>Il (ae.nh (b:=1) (Br.dec (λh1=>?_) (λh1=>?_)))
 ·have hr':r<K.us.length:=by omega
  refine Nil.ptr (Ld.f ?_);refine hO.us.ld (x:=((K.use r:Nat):Int)) (bH hr') (bI.sub (.cons (.app (.app .left)))) (ae.inc (hO.us.nt (.cons (.app (.app .left))) (by simpa using hr') λC' ho=>?_));refine aM.here ⟨rfl,{b with CU:=C'},rfl,?_⟩;have e:tj K r=K.us.set r (K.use r+1):=by unfold tj;rw[xac zO]
  exact {hO with us:=by rw[fm]at ho;rw[e];exact ho,ul:=by simp only[e,xbT];exact hO.ul}
 refine aM.here ⟨rfl,b,rfl,?_⟩;have e:tj K r=K.us:=by unfold tj;rw[xad zO]
 rw[e];exact hO
end
section
variable {kp:Nat} {K:Kd} {ord ah tr:zL} {C:Hp}
theorem gU{l:zL}{r s x:Nat}(hr:r<l.length):(l.set r x).getD s 0=if s=r then x else l.getD s 0:=by
 simp only[List.getD,xbr];by_cases e:r=s
 ·subst e;simp[hr]
 rw[xac e,xac (xba e)]
theorem wq(l:zL)(s:Nat):(l++[0]).getD s 0=l.getD s 0:=by
 simp only[List.getD,xd0];split
 ·rfl
 rename_i h;rw[xaE (by omega:l.length<=s)];cases hs:s-l.length<;>simp[hs]
def PI:Hp->Nat
 |_::(_,Obj.cells c _ _)::_=>(match c[2]? with|some (Value.slice _ n _)=>n|_=>0)
 |_=>0
theorem BZ{b:ur}{x:Nat×Obj}{n m:Nat}{a:Option Addr}{cp:Nat}(h:b.vu=.slice a m cp):PI (x::b.hp kp n)=m:=by simp[PI,ur.hp,ur.cells,h]
theorem KI(h:cT kp K ord ah tr C){d:Nd}(hd:NOk K.N d)(hv:d.v<K.n)(hT:K.T d=none)(hroom:K.used<K.cap)(hlo:d.lo<2\/d.lo<K.us.length)(hhi:d.hi<2\/d.hi<K.us.length)
 (hb:∀s,K.use s+2<2147483648):
  Fc zQ 246 #[ptr kp,nK d] C (λv C'=>∃r dB cA,v=u32 r/\K.N r=none/\2<=r/\r<K.cap/\dB.length=cA.length/\r<dB.length/\K.us.length<=dB.length/\dB.getD r 0=0/\
   (∀s,2<=s->s≠r->dB.getD s 0=K.use s+e1 (some d) s)/\(∀s,s<2->dB.getD s 0=K.use s)/\cA.getD r 0=0/\(∀s,s≠r->cA.getD s 0=K.hold s)/\
   cT kp {K with N:=up K.N r (some d),T:=qI K.T d (some r),used:=K.used+1,us:=dB,ho:=cA} ord ah tr C'):=by
 have hcap:=h.cap;obtain⟨b,rfl,hO⟩:=h;have Nv:=hO.ul;refine aF λg=>I9 λb1 _=>?_;refine DR.of (R:=(b1,.cells (Value.cells (nK d)) 226 zZ)::(kp,.cells (b.cells K.n) 141 zZ)::[]) (.cons (.cons .nil)) (Nil.ptr (Ld.f ?_));refine ax.q ?_;refine aa.fq (Tp hO.ar hd hroom) ?_;rintro v CA' ⟨r,rfl,h2,hrc,hN,har⟩;refine⟨.cons (.cons .nil),Ext.mk rfl (Ext.mk rfl ?_)⟩;refine⟨λ_ H=>∃(b':ur) (dB cA:zL),H=(b1,.cells (Value.cells (nK d)) 226 zZ)::b'.hp kp K.n/\Z9 b' {K with N:=up K.N r (some d),used:=K.used+1,us:=dB,ho:=cA} ord ah tr/\
   K.us.length<=dB.length/\(∀s,dB.getD s 0=K.use s)/\∀s,cA.getD s 0=K.hold s,
  λ_ H=>r+1-PI H,JE.mk ⟨{b with CA:=CA'},K.us,K.ho,rfl,{hO with ar:=har,ul:=Nv},xag _,λ_=>rfl,λ_=>rfl⟩,?_⟩
 rintro H ⟨b',dB,cA,rfl,x9,hle,hu,hh⟩ gs;have abH:=x9.ul;simp only at abH;refine aV.q (Nil.ptr (Ld.f ?_));refine x9.us.bP ?_;rw[ak];refine ae.qM (Br.dec (λhge=>?_) (λhge=>?_))
 ·have hge:dB.length<=r:=hge;refine Nil.ptr (Ld.f ?_);refine az.int (e:=21) zK zK zK λbx=>?_;refine x9.us.rX (.cons (.cons (.cons (.app (.app .left))))) (by exact .head _) zP zP λvu' T8 A3=>?_;refine Nil.ptr (ai.mk (St.one (by exact .tail (.tail (.head _))) A3.one (by simp[ur.cells]) rfl ?_));refine Nil.ptr (Ld.f ?_);refine az.int (e:=21) zK zK zK λby'=>?_;refine x9.ho.rX (.cons (.cons (.cons (.cons (.app (.app (.app .left))))))) (by exact .head _) zP zP λvh' TN pJ=>?_;refine Nil.ptr (ai.mk (St.one (by exact .tail (.tail (.tail (.head _)))) pJ.one (by simp[ur.cells]) rfl ?_));have e0:∀l:zL,iw l++[0]=iw (l++[0]):=λl=>by rw[bY];rfl
  rw[e0]at A3 pJ;refine aC.of (.skip (.skip (.refl _))) ⟨{b' with vu:=vu',vh:=vh',CU:=T8,CH:=TN},dB++[0],cA++[0],rfl,{x9 with us:=A3,ho:=pJ,ul:=by simp at abH⊢;omega},by simp;omega,λs=>by rw[wq,hu],λs=>by rw[wq,hh]⟩ ?_;obtain⟨a1,c1,e1⟩:=bg.len x9.us;obtain⟨a2,c2,e2⟩:=bg.len A3;have f1:=BZ (b:=b') (x:=(b1,.cells (Value.cells (nK d)) 226 zZ)) (kp:=kp) (n:=K.n) e1;have f2:=BZ (b:={b' with vu:=vu',vh:=vh',CU:=T8,CH:=TN}) (x:=(b1,.cells (Value.cells (nK d)) 226 zZ)) (kp:=kp) (n:=K.n) e2;rw[f1];refine xaA (Nat.le_of_eq (xcj (λz=>r+1-z) f2)) ?_;simp;omega
 have hge:¬dB.length<=r:=hge;have RA:r<dB.length:=by omega
 have qs:r<cA.length:=by omega
 refine DR.of (R:=(kp,.cells (b'.cells K.n) 141 zZ)::[]) (.skip (.cons .nil)) (Nil.ptr (Ld.f ?_));refine Nil.ptr (Ld.f ?_);refine x9.us.nt (x:=0) (.cons (.cons (.app (.app .left)))) (by simpa using RA) λT8 A3=>?_;refine x9.ho.nt (x:=0) (.cons (.cons (.app (.app (.app .left))))) (by simpa using qs) λTN pJ=>?_;have e0:∀l:zL,(iw l).set r 0=iw (l.set r 0):=λl=>fm l r 0;rw[e0]at A3 pJ;have lor:d.lo≠r:=gh hd.lo h2 hN;have hir:d.hi≠r:=gh hd.hi h2 hN;refine Ld.f ?_;have u0:∀s,(dB.set r 0).getD s 0=if s=r then 0 else K.use s:=λs=>by rw[gU RA];split;rfl;exact hu s
 have h0:∀s,(cA.set r 0).getD s 0=if s=r then 0 else K.hold s:=λs=>by rw[gU qs];split;rfl;exact hh s
 have fc:cT kp {K with N:=up K.N r (some d),used:=K.used+1,us:=dB.set r 0,ho:=cA.set r 0} ord ah tr (({b' with CU:=T8,CH:=TN}:ur).hp kp K.n):=⟨_,rfl,{x9 with us:=A3,ho:=pJ,ul:=by simp;omega}⟩;refine aa.fq (EX fc zP (by have:=hb d.lo;show(dB.set r 0).getD d.lo 0+1<_;rw[u0,xac lor];omega)) ?_;rintro v C1 ⟨rfl,dk⟩;refine Ld.f ?_;have u1:∀s,(tj {K with N:=up K.N r (some d),used:=K.used+1,us:=dB.set r 0,ho:=cA.set r 0} d.lo).getD s 0=(if s=r then 0 else K.use s)+(if 2<=s/\s=d.lo then 1 else 0):=λs=>by
  by_cases e:s=d.lo
  ·by_cases h2:2<=s
   ·rw[xad (show 2<=s/\s=d.lo from⟨h2,e⟩),e,nD zO zP];show(dB.set r 0).getD d.lo 0+1=_;rw[u0]
   rw[xac (show¬(2<=s/\s=d.lo)by omega)];unfold tj;rw[xad zO];show(dB.set r 0).getD s 0=_;rw[u0];rfl
  rw[xac (show¬(2<=s/\s=d.lo)by omega),uR e];show(dB.set r 0).getD s 0=_;rw[u0];rfl
 refine aa.fq (EX dk (by rw[jk];simp;omega) (by
  have:=hb d.hi;show(tj _ d.lo).getD d.hi 0+1<_;rw[u1,xac hir];split<;>omega)) ?_
 rintro v C2 ⟨rfl,j9⟩;have alA:=j9;obtain⟨b3,rfl,hO3⟩:=j9;refine DR.self (Nil.ptr (Ld.f ?_));refine ax.q ?_;refine aa.fq (KF hO3.ut hv hT) ?_;rintro v CT' ⟨rfl,YP⟩;have u2:∀s,(tj {K with N:=up K.N r (some d),used:=K.used+1,us:=tj {K with N:=up K.N r (some d),used:=K.used+1,us:=dB.set r 0,ho:=cA.set r 0} d.lo,ho:=cA.set r 0} d.hi).getD s 0=(if s=r then 0 else K.use s)+(if 2<=s/\s=d.lo then 1 else 0)+(if 2<=s/\s=d.hi then 1 else 0):=λs=>by
  by_cases e:s=d.hi
  ·by_cases h2:2<=s
   ·rw[xad (show 2<=s/\s=d.hi from⟨h2,e⟩),e,nD zO (by rw[jk];simp;omega)];show(tj _ d.lo).getD d.hi 0+1=_;rw[u1]
   rw[xac (show¬(2<=s/\s=d.hi)by omega)];unfold tj;rw[xad zO];show(tj _ d.lo).getD s 0=_;rw[u1];rfl
  rw[xac (show¬(2<=s/\s=d.hi)by omega),uR e];show(tj _ d.lo).getD s 0=_;rw[u1];rfl
 refine aM.mk .tail ⟨r,_,_,rfl,hN,h2,hrc,?_,?_,?_,?_,?_,?_,?_,?_,{b3 with CT:=CT'},rfl,{hO3 with ut:=YP}⟩
 ·rw[jk,jk];simp;omega
 ·rw[jk,jk];simp;omega
 ·rw[jk,jk];simp;omega
 ·rw[u2,xad rfl,xac (show¬(2<=r/\r=d.lo)by omega),xac (show¬(2<=r/\r=d.hi)by omega)]
 ·intro s h2s hne;rw[u2,xac hne,eC];have c1:(2<=s/\s=d.lo)↔d.lo=s:=⟨λh=>h.2.symm,λh=>⟨h2s,h.symm⟩⟩;have c2:(2<=s/\s=d.hi)↔d.hi=s:=⟨λh=>h.2.symm,λh=>⟨h2s,h.symm⟩⟩;simp only[c1,c2];omega
 ·intro s hs;rw[u2,xac (show¬s=r by omega),xac (show¬(2<=s/\s=d.lo)by omega),xac (show¬(2<=s/\s=d.hi)by omega)];try simp
 ·rw[h0,xad rfl]
 intro s hne;rw[h0,xac hne]
end
end
end Go.Proofs
