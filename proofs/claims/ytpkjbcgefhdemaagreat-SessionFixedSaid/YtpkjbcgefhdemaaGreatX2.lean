import Derived.Test.YtpkjbcgefhdemaaGreatX1
import Derived.Laws.StructEq
import Derived.ChangeKeysEq
import Derived.Defers
import Derived.Test.YtpkjbcgefhdemaaGreatProg
set_option linter.unusedVariables false
set_option linter.unusedSimpArgs false
set_option linter.unusedSectionVars false
namespace Go.Sx
open Go
section
variable {P:Program} {g:Gh} {H:Hp}
def oX(P:Program)(t:TypeId)(x y:Value):Prop:=
 (∃q a b,P.underlying t=some (.int q)∧x=.int q a∧y=.int q b)∨(∃a b,P.underlying t=some .bool∧x=.bool a∧y=.bool b)
theorem oX.eq{t:TypeId}{x y:Value}(h:oX P t x y)(d:Nat)(w:World):∃b,(Op.equalIn (d+1) t x y).run P w=.ok b w∧(b=true↔x=y):=by
 rcases h with⟨q,a,b,hu,rfl,rfl⟩|⟨a,b,hu,rfl,rfl⟩
 ·exact⟨a==b,by simp[Op.equalIn,run_underlying hu],by simp⟩
 ·exact⟨a==b,by simp[Op.equalIn,run_underlying hu],by simp⟩
theorem kA{t:TypeId}{xs:Array Value}{o:Nat}{x:Value}(hu:(∃q,P.underlying t=some (.int q))∨P.underlying t=some .bool)(h:xs[o]? =some x)(w:World):(part t xs o).run P w=.ok x w:=by
 rcases hu with⟨q,hu⟩|hu<;>simp[part,isAgg,run_underlying hu,h]
theorem j3(d:Nat)(xs ys:Array Value)(w:World):∀fs:List Field,(∀f∈fs,f.name≠ "_" ∧∃x y,xs[f.offset]? =some x∧ys[f.offset]? =some y∧oX P f.type x y)→
  ∃b,(Op.eqFields (d+1) xs ys fs).run P w=.ok b w∧(b=true↔∀f∈fs,xs[f.offset]? =ys[f.offset]?)
 | [],_=>⟨true,by simp[Op.eqFields],by simp⟩
 |f::fs,h=>by
  obtain⟨hn,x,y,hx,hy,hp⟩:=h f (by simp)
  obtain⟨b',ih,hb'⟩:=j3 d xs ys w fs fun g hg=>h g (by simp[hg])
  have hu:(∃q,P.underlying f.type=some (.int q))∨P.underlying f.type=some .bool:=by
   rcases hp with⟨q,_,_,hu,_⟩|⟨_,_,hu,_⟩
   ·exact .inl ⟨q,hu⟩
   ·exact .inr hu
  obtain⟨b,hr,hb⟩:=hp.eq d w
  have p1:=kA hu hx w
  have p2:=kA hu hy w
  cases b with
  |false=>
   refine⟨false,by simp[Op.eqFields,hn,p1,p2,hr],?_⟩
   simp only[Bool.false_eq_true,List.mem_cons,forall_eq_or_imp,false_iff,hx,hy,Option.some.injEq]
   exact fun hh=>absurd (hb.2 hh.1) (by decide)
  |true=>
   refine⟨b',by simp[Op.eqFields,hn,p1,p2,hr,ih],?_⟩
   rw[hb']
   simp only[List.mem_cons,forall_eq_or_imp,hx,hy,Option.some.injEq,hb.1 rfl,true_and]
theorem xQ.flat{t:TypeId}{fs:Array Field}(ht:P.underlying t=some (.struct fs))(hp:P.stoodInHeld t=false){xs ys:Array Value}{p:Prop}[Decidable p]
 (h:∀f∈fs.toList,f.name≠ "_" ∧∃x y,xs[f.offset]? =some x∧ys[f.offset]? =some y∧oX P f.type x y)(he:(∀f∈fs.toList,xs[f.offset]? =ys[f.offset]?)↔p):xQ P t (.agg xs) (.agg ys) (decide p):=by
 have e:P.fieldsOf t=fs:=by simp[Program.fieldsOf,ht]
 intro w
 show(Op.equalIn (9998+1+1) t _ _).run P w=_
 rw[run_equalIn_struct w (9998+1) t xs ys (by rw[e];exact ht) hp,e]
 obtain⟨b,hr,hb⟩:=j3 (P:=P) 9998 xs ys w fs.toList h
 rw[hr]
 congr 1
 rw[Bool.eq_iff_iff,hb,he,decide_eq_true_eq]
theorem jR.flat{t:TypeId}{fs:Array Field}(ht:P.underlying t=some (.struct fs)){xs:Array Value}
 (h:∀f∈fs.toList,f.name≠ "_" ∧∃x,xs[f.offset]? =some x∧oX P f.type x x):jR P t (.agg xs):=by
 intro b w
 have gen:∀d,(Instr.checkKey b (d+1+1) t (.agg xs)).run P w=.ok () w:=by
  intro d
  unfold Instr.checkKey
  simp only[Sem.run_bind,run_underlying ht,Result.andThen_ok]
  rw[←Array.forIn_toList]
  clear ht
  generalize fs.toList=l at h
  induction l with
  |nil=>simp
  |cons f l ih=>
   obtain⟨hn,x,hx,hp⟩:=h f (by simp)
   have hu:(∃q,P.underlying f.type=some (.int q))∨P.underlying f.type=some .bool:=by
    rcases hp with⟨q,_,_,hu,_⟩|⟨_,_,hu,_⟩
    ·exact .inl ⟨q,hu⟩
    ·exact .inr hu
   have p1:=kA hu hx w
   have p2:(Instr.checkKey b (d+1) f.type x).run P w=.ok () w:=by
    rcases hp with⟨q,a,_,hu,rfl,_⟩|⟨a,_,hu,rfl,_⟩
    ·simp only[Instr.checkKey,Sem.run_bind,run_underlying hu,Result.andThen_ok,Sem.run_pure]
    ·simp only[Instr.checkKey,Sem.run_bind,run_underlying hu,Result.andThen_ok,Sem.run_pure]
   have:=ih fun g hg=>h g (by simp[hg])
   simp only[List.forIn_cons,Sem.run_bind]
   simp[hn,p1,p2]
   simpa using this
 exact gen 9998
theorem jT(n:Nat){xs:Array Value}(h:∀x∈xs.toList,(∃q a,x=.int q a)∨∃a,x=.bool a):Instr.sameBits (n+1+1) (.agg xs) (.agg xs)=true:=by
 simp only[Instr.sameBits,beq_self_eq_true,Bool.true_and,List.all_eq_true]
 intro x hx
 obtain⟨a,b⟩:=x
 have h1:=List.of_mem_zip hx
 have e:a=b:=by
  obtain⟨i,hi,he⟩:=List.mem_iff_getElem.1 hx
  simp at he
  exact he.1.symm.trans he.2
 subst e
 rcases h a h1.1 with⟨q,z,rfl⟩|⟨z,rfl⟩<;>simp[Instr.sameBits]
end
section
variable {κ:Type} [DecidableEq κ] {β:Type} {ke:κ→Value} {vr:Value→β→Prop} {es:Array MapEntry} {ck b:Nat} {m:List (κ×β)} {P:Program} {H:Hp}
def fV(m:List (κ×β))(k:κ):List (κ×β):=m.filter fun y=>¬y.1=k
theorem qa{k k':κ}:aJ (fV m k) k'=if k'=k then none else aJ m k':=by
 unfold aJ fV
 rw[List.find?_filter]
 by_cases e:k'=k
 ·rw[if_pos e]
  rw[List.find?_eq_none.2]
  ·rfl
  ·intro x _;simp;intro h1 h2;exact h1 (h2.trans e)
 ·rw[if_neg e]
  congr 1
  congr 1
  funext y
  by_cases e2:y.1=k'
  ·have:¬y.1=k:=fun e3=>e (e2.symm.trans e3)
   simp[e2,this,e]
  ·simp[e2]
theorem cH{k k':κ}{x:β}:aJ (eR m k x) k'=if k'=k then some x else aJ m k':=by
 unfold aJ eR
 by_cases hk:k∈m.map Prod.fst
 ·rw[if_pos hk]
  by_cases e:k'=k
  ·subst e
   rw[if_pos rfl]
   induction m with
   |nil=>simp at hk
   |cons y m ih=>
    rw[List.map_cons,List.find?_cons]
    by_cases ey:y.1=k'
    ·simp[ey]
    ·rw[if_neg ey]
     simp only[ey,decide_false]
     rw[ih]
     rw[List.map_cons]at hk
     rcases List.mem_cons.1 hk with h|h
     ·exact absurd h.symm ey
     ·simpa using h
  ·rw[if_neg e]
   have:∀l:List (κ×β),(List.find? (fun y=>decide (y.1=k')) (l.map fun y=>if y.1=k then(k,x)else y)).map Prod.snd=(List.find? (fun y=>decide (y.1=k')) l).map Prod.snd:=by
    intro l
    induction l with
    |nil=>rfl
    |cons y l ih=>
     rw[List.map_cons,List.find?_cons,List.find?_cons]
     by_cases ey:y.1=k
     ·have h1:decide (k=k')=false:=by simpa using fun h=>e h.symm
      have h2:decide (y.1=k')=false:=by rw[ey];exact h1
      simp only[if_pos ey,h1,h2]
      exact ih
     ·simp only[if_neg ey]
      cases decide (y.1=k')with
      |true=>rfl
      |false=>exact ih
   exact this m
 ·rw[if_neg hk]
  rw[List.find?_append]
  by_cases e:k'=k
  ·subst e
   have:List.find? (fun y=>decide (y.1=k')) m=none:=by
    rw[List.find?_eq_none];intro y hy;simp;intro h;exact hk (List.mem_map.2 ⟨y,hy,h⟩)
   simp[this]
  ·have:¬k=k':=fun h=>e h.symm
   rw[if_neg e]
   cases List.find? (fun y=>decide (y.1=k')) m<;>simp[this]
theorem oa(nd:(m.map Prod.fst).Nodup){i:Nat}{k:κ}{y:β}(hi:m[i]? =some (k,y)):fV m k=m.eraseIdx i:=by
 unfold fV
 induction m generalizing i with
 |nil=>simp at hi
 |cons z m ih=>
  rw[List.map_cons,List.nodup_cons]at nd
  cases i with
  |zero=>
   simp at hi;subst hi
   rw[List.eraseIdx_cons_zero,List.filter_cons_of_neg (by simp)]
   rw[List.filter_eq_self]
   intro w hw
   simp only[decide_not,Bool.not_eq_true',decide_eq_false_iff_not]
   intro e
   exact nd.1 (List.mem_map.2 ⟨w,hw,e⟩)
  |succ i=>
   simp at hi
   have hz:¬z.1=k:=fun e=>nd.1 (List.mem_map.2 ⟨_,List.mem_of_getElem? hi,e.symm⟩)
   rw[List.eraseIdx_cons_succ,List.filter_cons_of_pos (by simpa using hz),ih nd.2 hi]
omit [DecidableEq κ] in
theorem aE.less(h:aE ke vr es ck m)(i:Nat):aE ke vr (es.eraseIdxIfInBounds i) ck (m.eraseIdx i):=by
 have hl:(es.eraseIdxIfInBounds i).toList=es.toList.eraseIdx i:=by
  unfold Array.eraseIdxIfInBounds
  split
  ·simp
  ·rename_i hh;rw[List.eraseIdx_of_length_le (by simpa using hh)]
 refine⟨?_,fun j e x he hx=>?_,?_,?_,fun e he=>?_⟩
 ·have:=congrArg List.length hl
  rw[Array.length_toList,List.length_eraseIdx]at this
  rw[this,List.length_eraseIdx,Array.length_toList,h.len]
 ·rw[←Array.getElem?_toList,hl,List.getElem?_eraseIdx]at he
  rw[List.getElem?_eraseIdx]at hx
  split at he
  ·rename_i hh;rw[if_pos hh]at hx;exact h.key j e x (by simpa using he) hx
  ·rename_i hh;rw[if_neg hh]at hx;exact h.key (j+1) e x (by simpa using he) hx
 ·rw[←dR];exact h.nd.sublist (List.eraseIdx_sublist _ _)
 ·rw[hl,←dR];exact h.born.sublist (List.eraseIdx_sublist _ _)
 ·rw[hl]at he;exact h.lt e (List.mem_of_mem_eraseIdx he)
theorem aE.OY{P:Program}{kt:TypeId}{k:κ}{K:Hp→Prop}(hk:∀a b,xQ P kt (ke a) (ke b) (decide (a=b)))(hc:∀a,jR P kt (ke a))(h:aE ke vr es ck m)(hm:(b,Obj.map es ck)∈H)
 (h1:∀es',aE ke vr es' ck (fV m k)→∃H',ct b (.map es ck) (.map es' ck) H H'∧K H'):l9 P kt H (.map (some b)) (ke k) K:=by
 refine⟨hc k,.inr ?_⟩
 rcases h.td hk k with⟨i,y,e,g1,g2,g3,g4⟩|⟨g1,g2⟩
 ·refine⟨b,es,ck,_,rfl,g4,?_⟩
  have:=h.less i
  rw[←oa h.nd g2]at this
  exact h1 _ this
 ·refine⟨b,es,ck,_,rfl,g2,hm,?_⟩
  have e:fV m k=m:=by
   unfold fV
   rw[List.filter_eq_self]
   intro w hw
   simp only[decide_not,Bool.not_eq_true',decide_eq_false_iff_not]
   intro e
   exact g1 (List.mem_map.2 ⟨w,hw,e⟩)
  obtain⟨H',hu,hK⟩:=h1 es (by rw[e];exact h)
  have:∀{H H':Hp},ct b (.map es ck) (.map es ck) H H'→H'=H:=by
   intro H H' hu
   generalize ho:Obj.map es ck=o at hu
   induction hu with
   |head R=>rfl
   |tail _ ih=>rw[ih]
  rw[this hu]at hK;exact hK
end
section
variable {P:Program} {H:Hp}
theorem aI.yl{T:TypeId}{k:Nat}{v:Value}{rs:List (List Value)}{C:Hp}(hs:aI T k v rs C){i:Nat}{kd:IntKind}{r:List Value}(hr:rs[i]? =some r)(hC:∀y∈C,y∈H){K:Value→Prop}(hk:K (.agg r.toArray)):
  ai k v (.int kd (i:Int)) fun p=>ay k H p K:=by
 have hi:=(List.getElem?_eq_some_iff.1 hr).1
 obtain⟨b',ax,rfl,rfl,aD⟩:=hs.pos (by omega)
 exact ai.nat hi (ay.row (hC _ (List.Mem.head _)) aD (by rw[List.getElem?_append_left hi];exact hr) hk)
theorem aI.H8{T:TypeId}{k:Nat}{v x:Value}{rs:List (List Value)}{C:Hp}(hs:aI T k v rs C){i j:Nat}{kd:IntKind}{r:List Value}(hr:rs[i]? =some r)(hj:r[j]? =some x)(hC:∀y∈C,y∈H){K:Value→Prop}(hk:K x):
  ai k v (.int kd (i:Int)) fun p=>ag j p fun q=>Ld H q K:=by
 have hi:=(List.getElem?_eq_some_iff.1 hr).1
 obtain⟨b',ax,rfl,rfl,aD⟩:=hs.pos (by omega)
 exact ai.nat hi (ag.mk (Ld.row (hC _ (List.Mem.head _)) aD (by rw[List.getElem?_append_left hi];exact hr) hj hk))
theorem aI.GK{T:TypeId}{v x:Value}{rs:List (List Value)}{C:Hp}(hs:aI T 1 v rs C){i:Nat}{kd:IntKind}(hr:rs[i]? =some [x])(hC:∀y∈C,y∈H){K:Value→Prop}(hk:K x):
  ai 1 v (.int kd (i:Int)) fun p=>Ld H p K:=by
 have hi:=(List.getElem?_eq_some_iff.1 hr).1
 obtain⟨b',ax,rfl,rfl,aD⟩:=hs.pos (by omega)
 exact ai.nat hi (Ld.JW (l:=rs++ax) (hC _ (List.Mem.head _)) aD (by rw[List.getElem?_append_left hi];exact hr) hk)
theorem aI.H7{T:TypeId}{k n:Nat}{v:Value}{rs:List (List Value)}{C:Hp}(hs:aI T k v rs C){i:Nat}{kd:IntKind}{r:List Value}(hr:rs[i]? =some r)(hn:0<n∧n≤k)(hC:∀y∈C,y∈H){K:Value→Prop}(hk:K (.agg (r.take n).toArray)):
  ai k v (.int kd (i:Int)) fun p=>ag 0 p fun q=>ay n H q K:=by
 have hi:=(List.getElem?_eq_some_iff.1 hr).1
 obtain⟨b',ax,rfl,rfl,aD⟩:=hs.pos (by omega)
 have Ij:r.length=k:=aD r (List.mem_append_left _ (List.mem_of_getElem? hr))
 refine ai.nat hi (ag.mk ?_)
 have z5:At H (.pointer (some ⟨b',0+i*k+0,none⟩)) (r.take n):=⟨b',_,_,_,_,rfl,hC _ (List.Mem.head _),fun j x hj=>by
  have FH:j<n:=by have:=(List.getElem?_eq_some_iff.1 hj).1;simp at this;omega
  rw[List.getElem?_take,if_pos FH]at hj
  rw[Nat.add_zero,Nat.zero_add,eL aD (by omega),List.getElem?_append_left hi,hr];exact hj⟩
 exact ay.at z5 (by simp;omega) hn.1 (fun _ h=>h) hk
theorem zl{k:Nat}{l:List (List Value)}(h:∀r∈l,r.length=k){i:Nat}{r xs:List Value}(hi:l[i]? =some r)(hx:xs.length≤k):fE (rows l) (i*k) xs=rows (l.set i (xs++r.drop xs.length)):=by
 have hlt:=(List.getElem?_eq_some_iff.1 hi).1
 have hr:=h r (List.mem_of_getElem? hi)
 have key:∀(xs:List Value) (j:Nat) (l:List (List Value)) (r:List Value),(∀r∈l,r.length=k)→l[i]? =some r→j+xs.length≤k→fE (rows l) (i*k+j) xs=rows (l.set i (r.take j++xs++r.drop (j+xs.length))):=by
  intro xs
  induction xs with
  |nil=>
   intro j l r h hi _
   have hlt:=(List.getElem?_eq_some_iff.1 hi).1
   simp only[fE,List.append_nil,List.length_nil,Nat.add_zero,List.take_append_drop]
   congr 1
   apply List.ext_getElem?
   intro m
   rw[List.getElem?_set]
   by_cases e:i=m
   ·subst e;rw[if_pos rfl,hi,if_pos hlt]
   ·rw[if_neg e]
  |cons x xs ih=>
   intro j l r h hi hj
   have hr:=h r (List.mem_of_getElem? hi)
   have hlt:=(List.getElem?_eq_some_iff.1 hi).1
   simp only[List.length_cons]at hj
   rw[fE,jU h hi (by omega),Nat.add_assoc]
   rw[ih (j+1) (l.set i (r.set j x)) (r.set j x) (fun y hy=>by
    rcases List.mem_or_eq_of_mem_set hy with hy|rfl
    ·exact h y hy
    ·simpa using hr) (by simp[hlt]) (by omega)]
   rw[List.set_set]
   congr 2
   have e1:(r.set j x).take (j+1)=r.take j++[x]:=by
    rw[List.set_eq_take_append_cons_drop,if_pos (by omega),List.take_append]
    simp[List.take_take,show min (j+1) j=j by omega,show j+1-min j r.length=1 by omega]
   have e2:(r.set j x).drop (j+1+xs.length)=r.drop (j+(x::xs).length):=by
    rw[List.drop_set,if_pos (by omega)]
    congr 1
    simp;omega
   rw[e1,e2]
   simp
 have:=key xs 0 l r h hi (by omega)
 simpa using this
theorem aI.ES{T:TypeId}{k n:Nat}{v:Value}{rs:List (List Value)}{C A B:Hp}(hs:aI T k v rs C){i:Nat}{kd:IntKind}{r xs:List Value}(hr:rs[i]? =some r)(hx:xs.length=n∧n≤k)(h1:∀x∈xs,x.oneCell'=true){K:Hp→Prop}
 (hk:∀C',aI T k v (rs.set i (xs++r.drop n)) C'→K (A++(C'++B))):ai k v (.int kd (i:Int)) fun p=>ag 0 p fun q=>St n (A++(C++B)) q (.agg xs.toArray) K:=by
 have hi:=(List.getElem?_eq_some_iff.1 hr).1
 obtain⟨b',ax,rfl,rfl,aD⟩:=hs.pos (by omega)
 refine ai.nat hi (ag.mk ?_)
 have hg:(rs++ax)[i]? =some r:=by rw[List.getElem?_append_left hi];exact hr
 have e:(rs++ax).set i (xs++r.drop xs.length)=rs.set i (xs++r.drop n)++ax:=by rw[List.set_append_left _ _ hi,hx.1]
 refine St.mk (c':=rows (rs.set i (xs++r.drop n)++ax)) (H':=A++([(b',.cells (rows (rs.set i (xs++r.drop n)++ax)) T (0,0))]++B)) (((ct.head _).append B).bL A) (by simpa[Value.cells]using hx.1) ?_ (by simpa[Value.cells]using h1) ?_ ?_
 ·rw[bf aD,Nat.zero_add,Nat.add_zero,List.length_append]
  have:=Nat.mul_le_mul_right k (Nat.succ_le_of_lt hi)
  rw[Nat.succ_mul]at this
  have h2:rs.length*k≤(rs.length+ax.length)*k:=Nat.mul_le_mul_right k (by omega)
  omega
 ·simp only[Value.cells,Nat.zero_add,Nat.add_zero]
  rw[zl aD hg (by omega),e]
 ·have Ij:r.length=k:=aD r (List.mem_append_left _ (List.mem_of_getElem? hr))
  refine hk _ (aI.mk' (ax:=ax) (fun y hy=>?_) (by simp) (by simp))
  rcases List.mem_append.1 hy with hy|hy
  ·rcases List.mem_or_eq_of_mem_set hy with hy|rfl
   ·exact aD y (List.mem_append_left _ hy)
   ·simp;omega
  ·exact aD y (List.mem_append_right _ hy)
theorem aI.BJ{T:TypeId}{k:Nat}{v:Value}{rs:List (List Value)}{C A B:Hp}(hs:aI T k v rs C){i:Nat}{kd:IntKind}{xs:List Value}(hi:i<rs.length)(hx:xs.length=k)(h1:∀x∈xs,x.oneCell'=true){K:Hp→Prop}
 (hk:∀C',aI T k v (rs.set i xs) C'→K (A++(C'++B))):ai k v (.int kd (i:Int)) fun p=>St k (A++(C++B)) p (.agg xs.toArray) K:=by
 obtain⟨b',ax,rfl,rfl,aD⟩:=hs.pos (by omega)
 refine ai.nat hi (St.row (l:=rs++ax) (((ct.head _).append B).bL A) aD (by simp;omega) hx h1 ?_)
 have e:(rs++ax).set i xs=rs.set i xs++ax:=by rw[List.set_append_left _ _ hi]
 rw[e]
 refine hk [(b',_)] (aI.mk' (ax:=ax) (fun y hy=>?_) (by simp) (by simp))
 rcases List.mem_append.1 hy with hy|hy
 ·rcases List.mem_or_eq_of_mem_set hy with hy|rfl
  ·exact aD y (List.mem_append_left _ hy)
  ·exact hx
 ·exact aD y (List.mem_append_right _ hy)
theorem aN.ld{T:TypeId}{kd rA:IntKind}{v:Value}{l:List Int}{C:Hp}(hs:aN T kd v l C){i:Nat}{x:Int}(hx:l[i]? =some x)(hC:∀y∈C,y∈H){K:Value→Prop}(hk:K (.int kd x)):ai 1 v (.int rA (i:Int)) fun p=>Ld H p K:=
 aI.GK hs (x:=.int kd x) (by simp[hx]) hC hk
theorem aN.put{T:TypeId}{kd rA:IntKind}{v:Value}{l:List Int}{C A B:Hp}(hs:aN T kd v l C){i:Nat}{x:Int}(hi:i<l.length){K:Hp→Prop}
 (hk:∀C',aN T kd v (l.set i x) C'→K (A++(C'++B))):ai 1 v (.int rA (i:Int)) fun p=>St 1 (A++(C++B)) p (.int kd x) K:=by
 have hi':i<(l.map fun n=>[Value.int kd n]).length:=by simpa using hi
 obtain⟨b',ax,rfl,rfl,aD⟩:=aI.pos hs (by omega)
 refine ai.nat hi' ?_
 refine St.cell (l:=l.map (fun n=>[Value.int kd n])++ax) (i:=i) (k:=1) (j:=0) (r:=[.int kd l[i]]) (((ct.head _).append B).bL A) aD (by rw[List.getElem?_append_left hi'];simp[hi]) (by omega) rfl ?_
 have e:(l.map (fun n=>[Value.int kd n])++ax).set i ([Value.int kd l[i]].set 0 (.int kd x))=(l.set i x).map (fun n=>[Value.int kd n])++ax:=by
  rw[List.set_append_left _ _ hi',List.map_set];rfl
 rw[e]
 refine hk [(b',_)] (aI.mk' (ax:=ax) (fun r hr'=>?_) (by simp) (by simp))
 rcases List.mem_append.1 hr' with hr'|hr'
 ·obtain⟨y,_,rfl⟩:=List.mem_map.1 hr';rfl
 ·exact aD r (List.mem_append_right _ hr')
theorem aR.nil{H:Hp}:aR H []:=fun _ _ h=>h.bu
theorem aI.cut{T:TypeId}{k i:Nat}{v:Value}{rs:List (List Value)}{C:Hp}(hs:aI T k v rs C)(hi:i≤rs.length){kd:IntKind}{K:Value→Prop}(hk:∀v',aI T k v' (rs.take i) C→K v'):
  dA k v none (some (.int kd (i:Int))) K:=by
 by_cases hp:0<rs.length
 ·obtain⟨b',ax,rfl,rfl,aD⟩:=hs.pos hp
  refine dA.upto (by omega) (hk _ ?_)
  have e:rs++ax=rs.take i++(rs.drop i++ax):=by rw[←List.append_assoc,List.take_append_drop]
  rw[e]at aD⊢
  exact aI.mk' aD (by simp;omega) (by simp;omega)
 ·obtain rfl:rs=[]:=List.eq_nil_of_length_eq_zero (by omega)
  obtain rfl:i=0:=by simpa using hi
  obtain⟨a,c,rfl⟩:=hs.len
  exact dA.upto (Nat.zero_le _) (hk _ (by simpa using hs))
theorem aN.cut{T:TypeId}{kd rA:IntKind}{i:Nat}{v:Value}{l:List Int}{C:Hp}(hs:aN T kd v l C)(hi:i≤l.length){K:Value→Prop}(hk:∀v',aN T kd v' (l.take i) C→K v'):
  dA 1 v none (some (.int rA (i:Int))) K:=
 aI.cut hs (by simpa using hi) fun v' h=>hk v' (by unfold aN;rw[List.map_take];exact h)
end
end Go.Sx
namespace Go.Sx
open Go
section
variable {P:Program} {H C:Hp} {c:Hp→Hp}
theorem br.split(h:br C H c):∃A B,∀X,c X=A++(X++B):=by
 induction h with
 |here=>exact⟨[],[],fun X=>by simp⟩
 | @left A=>exact⟨[],A,fun X=>rfl⟩
 | @cons x H c h ih=>
  obtain⟨A,B,e⟩:=ih
  exact⟨x::A,B,fun X=>by show x::c X=_;rw[e];rfl⟩
 | @app A' H c h ih=>
  obtain⟨A,B,e⟩:=ih
  exact⟨A'++A,B,fun X=>by show A'++c X=_;rw[e,List.append_assoc]⟩
theorem br.sub(h:br C H c):∀x∈C,x∈H:=fun x hx=>by
 obtain⟨A,B,e⟩:=h.split
 rw[h.spec.1,e]
 exact List.mem_append_right _ (List.mem_append_left _ hx)
theorem aI.pK{elem k bytes:Nat}{zero:Value}{v:Value}{rs:List (List Value)}(h:aI elem k v rs C)(hh:br C H c){xb:Nat}{r:List Value}{xT:TypeId}{fz:Nat×Nat}{xc:Nat}
 (hx:(xb,Obj.cells r.toArray xT fz)∈H)(hr:r.length=k)(h1:∀u∈r,u.oneCell'=true)(hz:∃z:List Value,zero.cells=z.toArray∧z.length=k)
 (hb:(rs.length+1)*bytes≤140737488355328)(cc:rs.length+1≤9223372036854775807){K:Value→Hp→Prop}
 (hk:∀v' C',aI elem k v' (rs++[r]) C'→K v' (c C')):App P elem k bytes zero H v (.slice (some ⟨xb,0,none⟩) 1 xc) K:=by
 obtain⟨A,B,e⟩:=hh.split
 have e2:=hh.spec.1
 rw[e]at e2
 subst e2
 exact h.DN hx hr h1 hz hb cc fun v' C' ho=>by have:=hk v' C' ho;rwa [e]at this
theorem aN.pK{T:TypeId}{kd:IntKind}{v:Value}{l:List Int}{bytes:Nat}(h:aN T kd v l C)(hh:br C H c){xb xc:Nat}{x:Int}{xT:TypeId}{fz:Nat×Nat}(hx:(xb,Obj.cells (au kd [x]) xT fz)∈H)
 (hb:(l.length+1)*bytes≤140737488355328)(hm:l.length+1≤9223372036854775807){K:Value→Hp→Prop}(hk:∀v' C',aN T kd v' (l++[x]) C'→K v' (c C')):App P T 1 bytes (.int kd 0) H v (.slice (some ⟨xb,0,none⟩) 1 xc) K:=by
 obtain⟨A,B,e⟩:=hh.split
 have e2:=hh.spec.1
 rw[e]at e2
 subst e2
 exact h.app hx hb hm fun v' C' ho=>by have:=hk v' C' ho;rwa [e]at this
theorem aN.Ht{T:TypeId}{kd:IntKind}{v x:Value}{l l2:List Int}{bytes:Nat}(h:aN T kd v l C)(hh:br C H c)(hx:fR kd H x l2)
 (hb:(l.length+l2.length)*bytes≤140737488355328)(hm:l.length+l2.length≤9223372036854775807){K:Value→Hp→Prop}(hk:∀v' C',aN T kd v' (l++l2) C'→K v' (c C')):App P T 1 bytes (.int kd 0) H v x K:=by
 obtain⟨A,B,e⟩:=hh.split
 have e2:=hh.spec.1
 rw[e]at e2
 subst e2
 exact h.apps hx hb hm fun v' C' ho=>by have:=hk v' C' ho;rwa [e]at this
theorem aN.iI{T:TypeId}{kd rA:IntKind}{v:Value}{l:List Int}(hs:aN T kd v l C)(hh:br C H c){i:Nat}{x:Int}(hi:i<l.length){K:Hp→Prop}
 (hk:∀C',aN T kd v (l.set i x) C'→K (c C')):ai 1 v (.int rA (i:Int)) fun p=>St 1 H p (.int kd x) K:=by
 obtain⟨A,B,e⟩:=hh.split
 have e2:=hh.spec.1
 rw[e]at e2
 subst e2
 exact hs.put hi fun C' ho=>by have:=hk C' ho;rwa [e]at this
theorem aN.one{T:TypeId}{kd:IntKind}{v:Value}{l:List Int}(h:aN T kd v l C):v.oneCell'=true:=by obtain⟨a,c,e⟩:=aI.len h;rw[e];rfl
theorem eV(l:List Nat)(i x:Nat):(iw l).set i (x:Int)=iw (l.set i x):=by unfold iw;rw[List.map_set]
theorem bQ(a b:List Nat):iw (a++b)=iw a++iw b:=by unfold iw;rw[List.map_append]
theorem bP{l:List Nat}{i:Nat}(h:i<l.length):(iw l)[i]? =some ((l.getD i 0:Nat):Int):=by
 rw[iS (List.getElem?_eq_getElem h)];simp[List.getD,List.getElem?_eq_getElem h]
end
end Go.Sx
namespace Go.Sx
open Go
theorem gz{p:Nat→Prop}(h:∃k,p k):∃k,p k∧∀j,p j→k≤j:=by
 obtain⟨k,hk⟩:=h
 induction k using Nat.strongRecOn with
 |_ k ih=>
  by_cases e:∃j,j<k∧p j
  ·obtain⟨j,hj,hp⟩:=e;exact ih j hj hp
  ·exact⟨k,hk,fun j hp=>Nat.le_of_not_lt fun hlt=>e ⟨j,hlt,hp⟩⟩
open Classical in
noncomputable def iN(J:Nat→List Value→Hp→Prop)(vs:List Value)(H:Hp):Nat:=if h:∃k,J k vs H then Classical.choose (gz h)else 0
theorem zE{J:Nat→List Value→Hp→Prop}{vs:List Value}{H:Hp}{k:Nat}(h:J k vs H):iN J vs H≤k:=by
 unfold iN
 rw[dif_pos ⟨k,h⟩]
 exact(Classical.choose_spec (gz ⟨k,h⟩)).2 k h
theorem sQ{J:Nat→List Value→Hp→Prop}{vs:List Value}{H:Hp}(h:∃k,J k vs H):J (iN J vs H) vs H:=by
 unfold iN
 rw[dif_pos h]
 exact(Classical.choose_spec (gz h)).1
def je(J:Nat→List Value→Hp→Prop):List Value→Hp→Prop:=fun vs H=>∃k,J k vs H
theorem je.open{J:Nat→List Value→Hp→Prop}{vs:List Value}{H:Hp}(h:je J vs H):∃k,J k vs H∧k=iN J vs H:=⟨_,sQ h,rfl⟩
theorem je.mk{J:Nat→List Value→Hp→Prop}{vs:List Value}{H:Hp}(k:Nat)(h:J k vs H):JE (je J) vs H:=JE.mk ⟨k,h⟩
theorem je.back{J:Nat→List Value→Hp→Prop}{vs vs':List Value}{H H' H0:Hp}{k:Nat}(e:aR H H')(hk:k=iN J vs H0)(k':Nat)(h:J k' vs' H')(hlt:k'<k):aB (je J) (iN J) vs' H vs H0:=
 aB.of e ⟨k',h⟩ (Nat.lt_of_le_of_lt (zE h) (by omega))
theorem J8{vs:List Value}{H:Hp}{Q:(List Value→Hp→Prop)→(List Value→Hp→Nat)→Prop}(J:Nat→List Value→Hp→Prop)(k:Nat)(h:J k vs H)(hq:Q (je J) (iN J)):
  ∃(I:List Value→Hp→Prop) (m:List Value→Hp→Nat),JE I vs H∧Q I m:=⟨_,_,je.mk k h,hq⟩
section
variable {P:Program} {H:Hp}
theorem ak.GP{t e:Nat}{kd:IntKind}{x y:Int}{K:Value→Hp→Prop}(h1:P.underlying t=some (.slice e))(h2:cC P e=some 1)(h3:ed P e=some (.int kd 0))
 (h:∀b,K (.slice (some ⟨b,0,Option.none⟩) 2 2) ((b,.cells (au kd [x,y]) e (0,0))::H)):ak P t 2 [(0,.int kd x),(1,.int kd y)] H K:=by
 refine⟨au kd [x,y],e,1,_,h1,h2,h3,by decide,?_,fun b _=>h b⟩
 have e1:Array.range (2*1)=#[0,1]:=rfl
 simp[Instr.fill,Value.cells,au,e1]
theorem zm(kd:IntKind)(l:List Int):rows (l.map fun n=>[Value.int kd n])=au kd l:=by
 unfold rows au
 congr 1
 induction l with
 |nil=>rfl
 |cons x l ih=>rw[List.map_cons,List.flatten_cons,ih];rfl
theorem aN.made{T:TypeId}{kd:IntKind}{b:Nat}(l:List Int):aN T kd (.slice (some ⟨b,0,none⟩) l.length l.length) l [(b,.cells (au kd l) T (0,0))]:=by
 have:=aI.mk' (T:=T) (k:=1) (b:=b) (n:=l.length) (c:=l.length) (rs:=l.map fun n=>[Value.int kd n]) (ax:=[]) (fun r hr=>by
  rw[List.append_nil]at hr
  obtain⟨x,_,rfl⟩:=List.mem_map.1 hr;rfl) (by simp) (by simp)
 rw[List.append_nil,zm]at this
 exact this
end
end Go.Sx
namespace Go.Sx
open Go
section
variable {P:Program} {g:Gh}
structure A8 where
 f:FuncId
 l:List Value
def nN(P:Program)(g:Gh)(f:FuncId)(args:Array Value)(H:Hp)(R:Ending→Hp→Prop):Prop:=
 ∀w,Own g H w→∀u,CallsD P f args u w fun e u' w'=>u'=u∧∃H',Own g H' w'∧R e H'
def Je(P:Program)(g:Gh)(f:FuncId)(args:Array Value)(H:Hp)(K:Hp→Prop):Prop:=nN P g f args H fun e H'=>(∃v,e=.returned v)∧K H'
def Bd(P:Program)(g:Gh)(K:Hp→Prop):List A8→Hp→Prop
 | [],H=>K H
 |x::r,H=>Je P g x.f x.l.toArray H (Bd P g K r)
def Jd(P:Program)(o:Oper)(ρ:Operand→Value)(k:A8→Prop):Prop:=
 match o.op with
 | .defer c=>match c.callee with
  | .value x=>match ρ x with
   | .func (.func f) first cap=>cond (aS P f) (k ⟨f,first.toList++(c.args.toList.map ρ++cap.toList)⟩) False
   |_=>False
  |_=>False
 |_=>False
def B6:Code→Option (Array Oper×Oper)
 | .region _ ops false=>match ops.toList.getLast? with
  |some o=>match o.op with
   | .defer _=>some (ops,o)
   |_=>none
  |none=>none
 |_=>none
def Ds(P:Program)(g:Gh)(fn:Func)(R:Ending→Hp→Prop)(dl:List A8):Exit→Fr→Hp→Prop
 | .normal,fr,H=>Bd P g (fun H'=>nU P fr H' fn.results.toList fun vs=>R (.returned (uj vs)) H') dl H
 | .ret,fr,H=>Bd P g (fun H'=>nU P fr H' fn.results.toList fun vs=>R (.returned (uj vs)) H') dl H
 |_,_,_=>False
def uW(P:Program)(g:Gh)(n:Nat)(E:List A8→Exit→Fr→Hp→Prop):Code→Hn→List A8→Fr→Hp→Prop
 | .seq x y,hn,dl,fr,H=>
  match B6 x with
  |some (ops,o)=>cond (o.dst.isNone&&o.guard.isNone)
    (cM P g n ops false (ops.toList.length+1) false none [] ops.toList.dropLast fr H (fun _ fr' H'=>Jd P o (ev fr') fun d=>uW P g n E y hn.b (d::dl) fr' H') (fun _ _=>False)) False
  |none=>match hn.m with
   |0=>den P g n x hn.a (r8 (uW P g n E y hn.b dl) (E dl)) fr H
   |_=>cond (E5 x hn.I)
    (L0 hn.L.length (fun vs H'=>∀gs,uW P g n E y hn.b dl (mix hn.L vs hn.I fr gs) H') fun J=>den P g n x hn.a (r8 (fun fr' H'=>JE J (uc fr' hn.L) H') (E dl)) fr H) False
 |c,hn,dl,fr,H=>den P g n c hn (E dl) fr H
def Dx(P:Program)(g:Gh)(fn:Func)(hn:Hn)(args:List Value)(H:Hp)(R:Ending→Hp→Prop):Prop:=
 match fn.body with
 |some c=>cond (Nat.ble args.length fn.ntmps) (uW P g fn.ntmps (Ds P g fn R) c hn [] (fH args 0) H) False
 |none=>False
def SP:List PanicEntry→Hp→Prop:=fun _ _=>∀_:Fr,False
def Qz(P:Program)(x:A8)(d:Deferred):Prop:=∃cap args,d={target:=.fn (.func x.f) cap,args:=args}∧args++cap=x.l.toArray∧aS P x.f=true
inductive xR(P:Program):List A8→List Deferred→Prop
 |nil:xR P [] []
 |cons {x d l ds} (h:Qz P x d) (hr:xR P l ds):xR P (x::l) (d::ds)
theorem nQ{fn:Func}{tmps:Array Value}{K:Hp→Prop}{R:Ending→World→Prop}(hK:∀H w,Own g H w→K H→∃v,(results fn tmps).run P w=.ok v w∧R (.returned v) w):
  ∀{dl:List A8} {ds:List Deferred},xR P dl ds→∀H w,Own g H w→Bd P g K dl H→Leaves P fn tmps R ds .returning w
 |_,_,.nil,H,w,hw,h=>hK H w hw h
 |_,_,.cons ⟨cap,args,hd,ha,hc⟩ hr,H,w,hw,h=>by
  subst hd
  refine leaves_cons (by simp) ?_ ((h w hw .returning).mono ?_)
  ·show(callFunc _ (args++cap)).run P w=_
   rw[ha]
   exact cY hc _ w
  ·rintro e u' w' ⟨rfl,H',ho,⟨v,rfl⟩,hk⟩
   exact nQ hK hr H' w' ho hk
theorem kF{fn:Func}{R:Ending→Hp→Prop}{n:Nat}{dl:List A8}{ds:List Deferred}(hd:xR P dl ds){e:Exit}{fr:Fr}{H:Hp}{a:Act}{w:World}(ha:bH ds n a fr)(hw:Own g H w)(h:Ds P g fn R dl e fr H):
  bodyPostD P fn (fun e w'=>∃H',Own g H' w'∧R e H') e a w:=by
 have key:∀{H},Own g H w→Bd P g (fun H'=>nU P fr H' fn.results.toList fun vs=>R (.returned (uj vs)) H') dl H→Leaves P fn a.tmps (fun e w'=>∃H',Own g H' w'∧R e H') a.defers .returning w:=fun hw h=>by
  rw[ha.defers]
  refine nQ (fun H w hw h=>?_) hd _ _ hw h
  obtain⟨vs,hr,hk⟩:=eM ha hw h
  exact⟨_,hr,H,hw,hk⟩
 cases e with
 |normal=>exact key hw h
 |ret=>exact key hw h
 |panic ch=>exact h.elim
 |exit id=>exact h.elim
 |goto l=>exact h.elim
 |outgrown=>exact h.elim
theorem uH{c:Code}{ops:Array Oper}{o:Oper}(h:B6 c=some (ops,o)):∃id d,c=.region id ops false∧ops.toList=ops.toList.dropLast++[o]∧o.op=.defer d:=by
 unfold B6 at h
 split at h
 ·rename_i id ops'
  split at h
  ·rename_i o' ho
   split at h
   ·rename_i d hd
    simp only[Option.some.injEq,Prod.mk.injEq]at h
    obtain⟨rfl,rfl⟩:=h
    refine⟨id,d,rfl,?_,hd⟩
    obtain⟨hne,e⟩:=List.getLast?_eq_some_iff.1 ho
    rw[e];simp
   ·cases h
  ·cases h
 ·cases h
theorem D2{o:Oper}{fr:Fr}{k:A8→Prop}(h:Jd P o (ev fr) k):∃x d,k x∧Qz P x d∧∀w,(execOp (ev fr) o).run P w=.ok (.defer d) w:=by
 unfold Jd at h
 split at h<;>try exact h.elim
 rename_i c hop
 split at h<;>try exact h.elim
 rename_i x hc
 split at h<;>try exact h.elim
 rename_i f first cap hx
 cases fo:aS P f<;>simp only[fo,cond_true,cond_false]at h
 refine⟨_,{target:=.fn (.func f) cap,args:=first++c.args.map (ev fr)},h,⟨cap,_,rfl,?_,fo⟩,fun w=>?_⟩
 ·apply Array.ext'
  simp
 ·simp only[execOp,hop,resolve,hc,hx,Deferred.ofValue,Sem.run_bind,Sem.run_pure,Result.andThen_ok]
theorem uV{n:Nat}{fn:Func}{R:Ending→Hp→Prop}:∀(c:Code) (hn:Hn) (dl:List A8) (fr:Fr) (H:Hp),uW P g n (Ds P g fn R) c hn dl fr H→∀(ds:List Deferred),xR P dl ds→∀(a:Act) (w:World),bH ds n a fr→Own g H w→
  c.wp P (bodyPostD P fn fun e w'=>∃H',Own g H' w'∧R e H') a w:=by
 have plain:∀(c:Code) (hn:Hn) (dl:List A8) (fr:Fr) (H:Hp),den P g n c hn (Ds P g fn R dl) fr H→∀(ds:List Deferred),xR P dl ds→∀(a:Act) (w:World),bH ds n a fr→Own g H w→
   c.wp P (bodyPostD P fn fun e w'=>∃H',Own g H' w'∧R e H') a w:=fun c hn dl fr H h ds hd a w ha hw=>
  wp_mono (gD c hn _ fr H h a w ha hw) fun e a' w' ⟨fr',H',cI,de,_,hq⟩=>kF hd cI de hq
 intro c
 induction c with
 |seq x y _ ih=>
  intro hn dl fr H h ds hd a w ha hw
  unfold uW at h
  split at h
  ·rename_i ops o hx
   obtain⟨id,d,rfl,hl,hop⟩:=uH hx
   cases hc:(o.dst.isNone&&o.guard.isNone)<;>simp only[hc,cond_true,cond_false]at h
   simp only[Bool.and_eq_true,Option.isNone_iff_eq_none]at hc
   refine wp_seq (wp_region_list ?_)
   rw[hl]
   refine bK _ _ _ _ _ fr H _ _ h trivial (eY.nil fr) a w ha hw [o] _ ?_ ?_
   ·intro a' w' kN fr' H' cI de _ _ hk
    refine wpList_plain hc.2 fun K hK=>?_
    obtain⟨x,dd,hx,hok,hrun⟩:=D2 hk
    show o.upon P a' K _ ((execOp a'.eval o).run P w')
    rw[cI.eval,hrun]
    refine hK _ _ ?_
    refine ih _ _ fr' H' hx (dd::ds) (.cons hok hd) _ _ ?_ de
    rw[hc.1]
    exact⟨congrArg _ cI.defers,cI.size,cI.get⟩
   ·intro ch a' w' fr' H' _ _ hk;exact hk.elim
  ·split at h
   ·refine wp_seq (wp_mono (gD x _ _ fr H h a w ha hw) ?_)
    rintro e a' w' ⟨fr',H',cI,de,ho,hq⟩
    cases e with
    |normal=>exact ih _ _ fr' H' hq ds hd a' w' cI de
    |ret=>exact kF (e:=.ret) hd cI de hq
    |exit id=>exact hq.elim
    |goto l=>exact hq.elim
    |panic ch=>exact hq.elim
    |outgrown=>exact hq.elim
   ·cases hno:E5 x hn.I<;>simp only[hno,cond_true,cond_false]at h
    have h':=h (fun vs H'=>∀gs,uW P g n (Ds P g fn R) y hn.b dl (mix hn.L vs hn.I fr gs) H') (py.intro (fun vs H' hh=>hh) _)
    refine wp_seq (wp_mono (gD x _ _ fr H h' a w ha hw) ?_)
    rintro e a' w' ⟨fr',H',cI,de,ho,hq⟩
    cases e with
    |normal=>
     obtain⟨Hj,mE,hq⟩:=hq
     have Mg:=hq fr'
     rw[n8 fun s hs=>ho rfl s (n5 hno s hs)]at Mg
     exact ih _ _ fr' Hj Mg ds hd a' w' cI (mE _ _ de)
    |ret=>exact kF (e:=.ret) hd cI de hq
    |exit id=>exact hq.elim
    |goto l=>exact hq.elim
    |panic ch=>exact hq.elim
    |outgrown=>exact hq.elim
 |_=>intro hn dl fr H h;exact plain _ hn dl fr H h
theorem B8{args:List Value}{m:Nat}(hle:args.length≤m):bH [] m {tmps:=args.toArray++Array.replicate (m-args.toArray.size) undef,defers:=[]} (fH args 0):=by
 refine⟨rfl,by simp;omega,fun s=>?_⟩
 rw[gX,Array.getD_eq_getD_getElem?,Array.getElem?_append]
 simp only[List.size_toArray,Nat.not_lt_zero,if_false,Nat.sub_zero]
 by_cases hs:s<args.length
 ·simp[hs,List.getD]
 ·rw[if_neg hs,Array.getElem?_replicate]
  have:args.getD s undef=undef:=by simp[List.getD,List.getElem?_eq_none (Nat.le_of_not_lt hs)]
  rw[this]
  split<;>rfl
theorem ti{f:FuncId}{fn:Func}{hn:Hn}{args:List Value}{H:Hp}{R:Ending→Hp→Prop}(hf:P.funcs[f]? =some fn)(h:Dx P g fn hn args H R):bG P g f args.toArray H R:=by
 intro w hw
 unfold Dx at h
 split at h<;>try exact h.elim
 rename_i c hc
 cases hl:Nat.ble args.length fn.ntmps<;>simp only[hl,cond_true,cond_false]at h
 exact calls_of_wp_defers hf hc (uV c hn [] _ H h [] .nil _ w (B8 (Nat.le_of_ble_eq_true hl)) hw)
theorem th{f:FuncId}{fn:Func}{hn:Hn}{args:List Value}{H:Hp}{R:Ending→Hp→Prop}(hf:P.funcs[f]? =some fn)(h:uY P g fn hn args H R):nN P g f args.toArray H R:=by
 intro w hw u
 unfold uY at h
 split at h<;>try exact h.elim
 rename_i c hc
 cases hl:Nat.ble args.length fn.ntmps<;>simp only[hl,cond_true,cond_false]at h
 refine callsD_of_wp hf hc (wp_mono (gD c hn _ _ H h _ w (B8 (Nat.le_of_ble_eq_true hl)) hw) ?_)
 rintro e a' w' ⟨fr',H',cI,de,_,hq⟩
 cases e with
 |normal=>obtain⟨vs,hr,hk⟩:=eM cI de hq;exact⟨cI.defers,_,hr,H',de,hk⟩
 |ret=>obtain⟨vs,hr,hk⟩:=eM cI de hq;exact⟨cI.defers,_,hr,H',de,hk⟩
 |panic ch=>exact⟨cI.defers,H',de,hq⟩
 |exit id=>exact hq.elim
 |goto l=>exact hq.elim
 |outgrown=>exact hq.elim
abbrev Jt:=List Value→Hp→Prop
abbrev Mt:=List Value→Hp→Nat
abbrev Rt:=Ending→Hp→Prop
abbrev Hn.n(a b:Hn):Hn:=.h 0 [] [] a b
theorem HK{f:FuncId}{fn:Func}{hn:Hn}{args:List Value}{H:Hp}{R:Rt}{L:Prop}(hf:P.funcs[f]? =some fn)(h:L)(e:uY P g fn hn args H R=L):bG P g f args.toArray H R:=uX hf (e.mpr h)
theorem HJ{f:FuncId}{fn:Func}{hn:Hn}{args:List Value}{H:Hp}{R:Rt}{L:Prop}(hf:P.funcs[f]? =some fn)(h:L)(e:Dx P g fn hn args H R=L):bG P g f args.toArray H R:=ti hf (e.mpr h)
theorem HL{f:FuncId}{fn:Func}{hn:Hn}{args:List Value}{H:Hp}{R:Rt}{L:Prop}(hf:P.funcs[f]? =some fn)(h:L)(e:uY P g fn hn args H R=L):nN P g f args.toArray H R:=th hf (e.mpr h)
end
end Go.Sx
set_option maxRecDepth 100000
namespace Go.Proofs
open Go Go.Sx
variable {g:Gh} {a0 a1 a2 a3 a4 a5 a6 a7 a8 a9 nC nB LO LN LM LL:Value} {H:Hp} {R:Rt}
abbrev pt(b:Nat):Value:=.pointer (some ⟨b,0,none⟩)
abbrev CF:=ae Tryz.prog
abbrev iv(n:Int):Value:=.int .i64 n
abbrev ui(n:Int):Value:=.int .u32 n
abbrev wi(n:Int):Value:=.int .u64 n
abbrev bi(n:Int):Value:=.int .u8 n
abbrev vT:Value:=.bool true
abbrev vF:Value:=.bool false
abbrev lE:=aa .num .eql
abbrev lN:=aa .num .neq
abbrev lL:=aa .num .lss
abbrev lG:=aa .num .gtr
abbrev lA:=aa .num .add
abbrev lS:=aa .num .sub
abbrev lD(n:Nat)(p:Value)(H:Hp)(k:Value→Prop):Prop:=ag n p fun v=>Ld H v k
abbrev lM(n:Nat)(p:Value)(H:Hp)(k:Value→Prop):Prop:=Nil p fun q=>ag n q fun v=>Ld H v k
abbrev lI(e:Nat)(p i:Value)(H:Hp)(k:Value→Prop):Prop:=ai e p i fun v=>Ld H v k
abbrev lX(v:Value)(k:Value→Value→Prop):Prop:=Ext 0 v fun x=>Ext 1 v fun y=>k x y
abbrev rt(R:Rt)(v:Value)(H:Hp):Prop:=R (.returned v) H
abbrev tP(a b:Value):Value:=.tuple #[a,b]
abbrev lW(H:Hp)(c:Array Value)(t:Nat)(k:Nat→Hp→Prop):Prop:=dh H (.cells c t (0,0)) k
abbrev lO(a:Value)(i:Bool→Prop)(k:Bool→Prop):Prop:=c7 a false i (fun t=>vT=Value.bool t) fun t=>∀_:Fr,k t
abbrev lU(a:Value)(i:Bool→Prop)(k:Bool→Prop):Prop:=c7 a true i (fun t=>vF=Value.bool t) fun t=>∀_:Fr,k t
abbrev lV(H:Hp)(v:Value)(t:Bool):Prop:=H=H∧v=Value.bool t
abbrev lC(n:Nat)(p:Value)(k:Value→Prop):Prop:=Nil p fun q=>ag n q k
abbrev lQ(n:Nat)(H:Hp)(c:Array Value)(t:Nat)(v:Value)(k:Nat→Hp→Prop):Prop:=dh H (.cells c t (0,0)) fun b H=>St n H (pt b) v fun H=>k b H
abbrev sc:=bG Tryz.prog
theorem sd{g:Gh}{f:FuncId}{fn:Func}(hn:Hn){args:List Value}{H:Hp}{R:Rt}{L:Prop}(hf:Tryz.prog.funcs[f]? =some fn)(h:L)(e:uY Tryz.prog g fn hn args H R=L:=by kernel_rfl):sc g f args.toArray H R:=HK hf h e
abbrev Y0:=Gh→Hp→Rt→Prop
abbrev Y1:=Gh→Value→Hp→Rt→Prop
abbrev Y2:=Gh→Value→Value→Hp→Rt→Prop
abbrev Y3:=Gh→Value→Value→Value→Hp→Rt→Prop
abbrev Y4:=Gh→Value→Value→Value→Value→Hp→Rt→Prop
abbrev Y5:=Gh→Value→Value→Value→Value→Value→Hp→Rt→Prop
abbrev CR(R:Rt)(g:Gh)(f:Nat)(a:Array Value)(H:Hp)(K:Value→Hp→Prop):Prop:=ae Tryz.prog g f a H K (kG R)
abbrev CN(g:Gh)(f:Nat)(a:Array Value)(H:Hp)(K:Value→Hp→Prop):Prop:=ae Tryz.prog g f a H K tL
def hr(m:Nat)(T:List Nat):Nat→Nat→Hn→Hn
 |_,0,x=>x
 |i,k+1,x=>.h m [i] T (hr m T (i+1) k x) .e
def hN:Nat→Hn→Hn
 |0,x=>x
 |k+1,x=>.n .e (hN k x)
def L5:Y0:=
fun a b c=>
CR c a 13 #[] b fun b d=>
Un .not b fun b=>
aq b vT vF fun b=>
Br b (
rt c vF d) (
Build Tryz.prog 23 [(0,(iv 2)),(1,(iv 100)),(2,(bi 0)),(3,(iv 100))] fun b=>
lQ 5 d #[(iv 0),(iv 0),(bi 0),(iv 0),(iv 0)] 23 b fun b d=>
ay 5 d (pt b) fun e=>
Build Tryz.prog 35 [(0,(bi 1))] fun f=>
Build Tryz.prog 35 [(0,(bi 1)),(1,(iv 1))] fun g=>
Build Tryz.prog 35 [(0,(bi 4)),(1,(iv 0)),(2,(iv 1))] fun h=>
Build Tryz.prog 35 [(0,(bi 12)),(1,(iv 2))] fun i=>
Build Tryz.prog 35 [(0,(bi 15)),(1,(iv 2)),(2,(iv 3))] fun j=>
Build Tryz.prog 35 [(0,(bi 13)),(1,(iv 2))] fun k=>
Build Tryz.prog 35 [(0,(bi 3)),(1,(iv 2))] fun l=>
Build Tryz.prog 35 [(0,(bi 13)),(1,(iv 2))] fun m=>
Build Tryz.prog 35 [(0,(bi 3)),(1,(iv 3))] fun n=>
Build Tryz.prog 35 [(0,(bi 2)),(1,(iv 2))] fun o=>
Build Tryz.prog 35 [(0,(bi 8)),(1,(iv 9)),(2,(iv 9)),(3,(iv 9))] fun p=>
Build Tryz.prog 35 [(0,(bi 9)),(1,(iv 0)),(4,(wi 4))] fun q=>
Build Tryz.prog 35 [] fun r=>
Build Tryz.prog 35 [(0,(bi 24))] fun s=>
Build Tryz.prog 35 [(0,(bi 2))] fun t=>
Build Tryz.prog 35 [(0,(bi 19)),(1,(iv 5))] fun u=>
Build Tryz.prog 35 [(0,(bi 23)),(1,(iv 256)),(2,(iv 100))] fun v=>
Build Tryz.prog 35 [(0,(bi 22))] fun w=>
Build Tryz.prog 35 [(0,(bi 22)),(1,(iv 1))] fun x=>
Build Tryz.prog 35 [(0,(bi 21)),(1,(iv 0))] fun y=>
Build Tryz.prog 35 [(0,(bi 20)),(1,(iv 3))] fun z=>
Build Tryz.prog 35 [(0,(bi 23)),(2,(iv 99))] fun A=>
Build Tryz.prog 35 [(0,(bi 23)),(1,(iv (-1))),(2,(iv 100))] fun B=>
ak Tryz.prog 24 23 [(0,f),(1,g),(2,h),(3,i),(4,j),(5,k),(6,l),(7,m),(8,n),(9,o),(10,p),(11,q),(12,r),(13,s),(14,t),(15,u),(16,v),(17,w),(18,x),(19,y),(20,z),(21,A),(22,B)] d fun d f=>
CR c a 15 #[e,d] f fun d e=>
lX d fun d f=>
Build Tryz.prog 37 [(1,(iv 0)),(3,(iv 1))] fun g=>
Build Tryz.prog 37 [(1,(iv 1)),(3,(iv 1))] fun h=>
Build Tryz.prog 37 [(1,(iv 2)),(3,(iv 1))] fun i=>
Build Tryz.prog 37 [(1,(iv 3))] fun j=>
Build Tryz.prog 37 [(1,(iv (-1))),(2,(wi 1))] fun k=>
Build Tryz.prog 37 [(1,(iv (-1)))] fun l=>
Build Tryz.prog 37 [(0,(iv 3)),(1,(iv (-1)))] fun m=>
Build Tryz.prog 37 [(0,(iv 3)),(1,(iv (-1)))] fun n=>
Build Tryz.prog 37 [(1,(iv 4)),(3,(iv 1))] fun o=>
Build Tryz.prog 37 [(0,(iv 1)),(1,(iv (-1)))] fun p=>
Build Tryz.prog 37 [(0,(iv 1)),(1,(iv (-1)))] fun q=>
Build Tryz.prog 37 [(0,(iv 2)),(1,(iv (-1)))] fun r=>
Build Tryz.prog 37 [(0,(iv 12)),(1,(iv (-1)))] fun s=>
Build Tryz.prog 37 [(0,(iv 12)),(1,(iv (-1)))] fun t=>
Build Tryz.prog 37 [(1,(iv 5)),(3,(iv 1))] fun u=>
Build Tryz.prog 37 [(0,(iv 10)),(1,(iv (-1)))] fun v=>
Build Tryz.prog 37 [(0,(iv 1)),(1,(iv (-1)))] fun w=>
Build Tryz.prog 37 [(1,(iv (-1)))] fun x=>
Build Tryz.prog 37 [(0,(iv 1)),(1,(iv (-1)))] fun y=>
Build Tryz.prog 37 [(1,(iv (-1))),(2,(wi 1))] fun z=>
Build Tryz.prog 37 [(1,(iv (-1))),(2,(wi 3))] fun A=>
Build Tryz.prog 37 [(0,(iv 1)),(1,(iv (-1)))] fun B=>
Build Tryz.prog 37 [(0,(iv 1)),(1,(iv (-1)))] fun C=>
ak Tryz.prog 30 23 [(0,g),(1,h),(2,i),(3,j),(4,k),(5,l),(6,m),(7,n),(8,o),(9,p),(10,q),(11,r),(12,s),(13,t),(14,u),(15,v),(16,w),(17,x),(18,y),(19,z),(20,A),(21,B),(22,C)] e fun e g=>
∀h:Jt,(∀i:Value,∀j:Hp,(∀_:Fr,
Br i (
rt c vF j) (
Build Tryz.prog 23 [(0,(iv 2)),(1,(iv 2)),(2,(bi 1)),(3,(iv 100)),(4,(iv 3))] fun k=>
St 5 j (pt b) k fun k=>
ay 5 k (pt b) fun b=>
Build Tryz.prog 35 [(0,(bi 1))] fun l=>
Build Tryz.prog 35 [(0,(bi 2)),(1,(iv 1))] fun m=>
Build Tryz.prog 35 [(0,(bi 18))] fun n=>
ak Tryz.prog 24 3 [(0,l),(1,m),(2,n)] k fun k l=>
CR c a 15 #[b,k] l fun b k=>
lX b fun b l=>
∀m:Jt,(∀n:Value,∀o:Hp,(∀_:Fr,
Br n (
rt c vF o) (
Build Tryz.prog 23 [(0,(iv 13)),(1,(iv 9)),(2,(bi 6)),(3,(iv 100))] fun p=>
CR c a 14 #[p] o fun p q=>
lX p fun _ p=>
Build Tryz.prog 23 [(0,(iv 13)),(1,(iv 9)),(2,(bi 6)),(3,(iv 99))] fun r=>
CR c a 14 #[r] q fun q r=>
lX q fun _ q=>
Build Tryz.prog 23 [(0,(iv 12)),(1,(iv 2)),(2,(bi 6)),(3,(iv 1000)),(4,(iv 16))] fun s=>
CR c a 14 #[s] r fun r s=>
lX r fun _ r=>
Build Tryz.prog 23 [(0,(iv 12)),(1,(iv 2)),(2,(bi 6)),(3,(iv 1000)),(4,(iv 17))] fun t=>
CR c a 14 #[t] s fun s t=>
lX s fun _ s=>
lE p (iv 6) fun p=>
lU p (fun p=>
lE q (iv 1) fun q=>
(lV t q p)) fun p=>
lU (Value.bool p) (fun p=>
lE r (iv 0) fun q=>
(lV t q p)) fun p=>
lU (Value.bool p) (fun p=>
lE s (iv 1) fun q=>
(lV t q p)) fun p=>
rt c (Value.bool p) t))→m [n] o)→
lN l (iv 0) fun l=>
Split l false (
Build Tryz.prog 37 [(0,(iv 9)),(1,(iv (-1))),(3,(iv 4))] fun l=>
Build Tryz.prog 37 [(1,(iv 0)),(3,(iv 1))] fun n=>
Build Tryz.prog 37 [(1,(iv (-1)))] fun o=>
ak Tryz.prog 30 3 [(0,l),(1,n),(2,o)] k fun l n=>
CR c a 17 #[b,l] n fun b l=>
Un .not b fun b=>
aq vF vT b fun b=>
JE m [b] l) (
aq vT vT undef fun b=>
JE m [b] k)))→h [i] j)→
lN f (iv 0) fun b=>
Split b false (
CR c a 17 #[d,e] g fun a b=>
Un .not a fun a=>
aq vF vT a fun a=>
JE h [a] b) (
aq vT vT undef fun a=>
JE h [a] g))
theorem D0(h:L5 g H R):sc g 5 #[] H R:=
  sd (hN 5 (.n (.h 1 [76] [1] .e .e) (.n .e (.n .e (.n (.h 1 [97] [] .e .e) (hN 4 (.n (.h 0 [] [1] .e .e) .e))))))) Tryz.func5 h
def L13:Y0:=
fun a b c=>
CR c a 18 #[(iv 2)] b fun b d=>
Build Tryz.prog 35 [(0,(bi 1))] fun e=>
Build Tryz.prog 35 [(0,(bi 1)),(1,(iv 1))] fun f=>
Build Tryz.prog 35 [(0,(bi 4)),(1,(iv 0)),(2,(iv 1))] fun g=>
Build Tryz.prog 35 [(0,(bi 16)),(1,(iv 2))] fun h=>
Build Tryz.prog 35 [(0,(bi 14)),(1,(iv 2)),(4,(wi 3))] fun i=>
Build Tryz.prog 35 [(0,(bi 1)),(1,(iv 2))] fun j=>
ak Tryz.prog 24 6 [(0,e),(1,f),(2,g),(3,h),(4,i),(5,j)] d fun d e=>
CR c a 15 #[b,d] e fun b d=>
lX b fun b e=>
Build Tryz.prog 37 [(1,(iv 0)),(3,(iv 1))] fun f=>
Build Tryz.prog 37 [(1,(iv 1)),(3,(iv 1))] fun g=>
Build Tryz.prog 37 [(1,(iv 2)),(3,(iv 1))] fun h=>
Build Tryz.prog 37 [(1,(iv (-1))),(2,(wi 1))] fun i=>
Build Tryz.prog 37 [(1,(iv (-1))),(2,(wi 1))] fun j=>
Build Tryz.prog 37 [(0,(iv 2)),(1,(iv (-1)))] fun k=>
ak Tryz.prog 30 6 [(0,f),(1,g),(2,h),(3,i),(4,j),(5,k)] d fun d f=>
∀g:Jt,(∀h:Value,∀i:Hp,(∀_:Fr,
rt c h i)→g [h] i)→
lE e (iv 0) fun e=>
Split e true (
CR c a 17 #[b,d] f fun a b=>
aq vT a vF fun a=>
JE g [a] b) (
aq vF undef vF fun a=>
JE g [a] f)
theorem A0(h:L13 g H R):sc g 13 #[] H R:=
  sd (hN 3 (.h 1 [0] [] .e .e)) Tryz.func13 h
def L14:Y1:=
fun a b c d=>
dh c (.cells (Value.cells b) 23 (0,0)) fun b c=>
∀e:Jt,(∀f:Value,∀g:Hp,(∀_:Fr,
Br f (
rt d (tP (.pointer none) (iv 1)) g) (
lD 0 (pt b) g fun h=>
lD 1 (pt b) g fun i=>
CR d a 40 #[h,i] g fun a h=>
lX a fun a i=>
lN i (iv 0) fun j=>
Br j (
rt d (tP (.pointer none) i) h) (
lD 2 (pt b) h fun i=>
lE i (bi 6) fun i=>
lU i (fun i=>
lD 0 (pt b) h fun j=>
lG j (iv 12) fun j=>
(lV h j i)) fun i=>
Br (Value.bool i) (
rt d (tP (.pointer none) (iv 6)) h) (
ay 5 h (pt b) fun i=>
j4 h fun h j=>
Build Tryz.prog 90 [(0,i),(1,a),(2,h)] fun a=>
dh j (.cells (Value.cells a) 90 (0,0)) fun a h=>
rt d (tP (pt a) (iv 0)) h))))→e [f] g)→
lD 2 (pt b) c fun a=>
lG a (bi 6) fun a=>
Br a (
JE e [a] c) (
lD 3 (pt b) c fun a=>
lL a (iv 100) fun a=>
Br a (
JE e [a] c) (
lD 3 (pt b) c fun a=>
lG a (iv 1000) fun a=>
Br a (
JE e [a] c) (
lD 4 (pt b) c fun a=>
lL a (iv 0) fun a=>
Br a (
JE e [a] c) (
lD 4 (pt b) c fun a=>
lG a (iv 16) fun a=>
JE e [a] c))))
theorem AZ(h:L14 g a0 H R):sc g 14 #[a0] H R:=
  sd (.n .e (.n (.n (.h 1 [6] [1] .e .e) .e) (.n .e (.n .e (.n (.n (.h 0 [] [1] .e .e) .e) .e))))) Tryz.func14 h
def L15:Y2:=
fun a b c d e=>
dh d (.cells (Value.cells b) 23 (0,0)) fun b d=>
ay 5 d (pt b) fun b=>
CR e a 14 #[b] d fun b d=>
lX b fun b f=>
lN f (iv 0) fun g=>
Br g (
rt e (tP (.slice none 0 0) f) d) (
aM c fun f=>
∃(g:Jt) (h:Mt),JE g [(.slice none 0 0),(iv 0)] d∧∀d i:Value,∀j:Hp,g [d,i] j→∀_:Fr,
lL i f fun f=>
Br f (
ai 5 c i fun c=>
ay 5 j c fun c=>
lQ 5 j #[(bi 0),(iv 0),(iv 0),(iv 0),(wi 0)] 35 c fun c f=>
ay 5 f (pt c) fun c=>
CR e a 16 #[b,c] f fun a b=>
ak Tryz.prog 30 1 [(0,a)] b fun a b=>
App Tryz.prog 37 4 32 (.agg #[(iv 0),(iv 0),(wi 0),(iv 0)]) b d a fun a b=>
lA i (iv 1) fun c=>
aB g h [a,c] b [d,i] j) (
rt e (tP d (iv 0)) j))
theorem AY(h:L15 g a0 a1 H R):sc g 15 #[a0,a1] H R:=
  sd (hN 4 (.n (.n .e (.n (.h 0 [8,21] [6,19,20] .e .e) .e)) .e)) Tryz.func15 h
def L16:Y2:=
fun a b c d e=>
dh d (.cells (Value.cells c) 35 (0,0)) fun c d=>
lW d #[(iv 0),(iv 0),(wi 0),(iv 0)] 37 fun d f=>
aa .ptr .eql b (.pointer none) fun g=>
Br g (
CR e a 41 #[(iv 10)] f fun g h=>
St 4 h (pt d) g fun g=>
ay 4 g (pt d) fun h=>
rt e h g) (
DR f fun g=>
lD 0 (pt c) g fun h=>
∀i:Hp,
CN (a.add i) 42 #[] f fun f i=>
aR i g∧
Qy i g fun g=>
dW (.int .u8) (.agg #[(bi 0),.nilFunc]) true g f h fun f=>
lX f fun f h=>
lW i #[(bi 0),.nilFunc] 95 fun i j=>
∀_:Hp,
St 2 j (pt i) f fun f=>
aR f g∧
Br h (
ay 5 f (pt c) fun g=>
ay 2 f (pt i) fun h=>
CR e a 43 #[b,g,h] f fun g h=>
St 4 h (pt d) g fun g=>
ay 4 g (pt d) fun h=>
rt e h g) (
DR f fun g=>
lD 0 (pt c) g fun h=>
∀i:Hp,
CN (a.add i) 44 #[] f fun f i=>
aR i g∧
Qy i g fun g=>
dW (.int .u8) .nilFunc true g f h fun f=>
lX f fun f g=>
Br g (
ay 5 i (pt c) fun c=>
bg Tryz.prog a f #[b,c] i (fun b c=>
St 4 c (pt d) b fun b=>
ay 4 b (pt d) fun c=>
rt e c b) (kG e)) (
CR e a 41 #[(iv 12)] i fun a b=>
St 4 b (pt d) a fun a=>
ay 4 a (pt d) fun b=>
rt e b a)))
theorem AX(h:L16 g a0 a1 H R):sc g 16 #[a0,a1] H R:=
  sd (.n .e (.n .e (.n (.n (.h 1 [] [] (hr 0 [1] 1 2 (.h 1 [7] [1] (.h 0 [0] [1] (.h 4 [] [] (hr 0 [1] 3 7 .e) .e) .e) .e)) .e) .e) (.n (.n (.h 1 [] [] (hr 0 [1] 1 2 (.h 0 [0] [1] (.h 4 [] [] (hr 0 [1] 3 6 .e) .e) .e)) .e) .e) .e)))) Tryz.func16 h
def L17:Y2:=
fun a b c d e=>
aM b fun f=>
aM c fun g=>
lN f g fun f=>
Br f (
rt e vF d) (
∃(f:Jt) (g:Mt),JE f [(iv 0)] d∧∀d:Value,∀h:Hp,f [d] h→∀_:Fr,
aM b fun i=>
lL d i fun i=>
Br i (
ai 4 b d fun b=>
ay 4 h b fun b=>
ai 4 c d fun c=>
ay 4 h c fun c=>
fx Tryz.prog a (dJ Tryz.f17 6 8) (ev (fun a=>cond (Nat.beq a 20) b (cond (Nat.beq a 24) c (undef)))) h fun a=>
Br a (
rt e vF h) (
lA d (iv 1) fun a=>
aB f g [a] h [d] h)) (
rt e vT h))
theorem AW(h:L17 g a0 a1 H R):sc g 17 #[a0,a1] H R:=
  sd (.n .e (.n .e (.n (.n .e (.n (.h 0 [5] [0,1] .e .e) .e)) .e))) Tryz.func17 h
def L18:Y1:=
fun _ a b c=>
lW b #[(iv 0),(iv 0),(bi 0),(iv 0),(iv 0)] 23 fun b d=>
Build Tryz.prog 23 [(0,a),(1,(iv 1048576)),(2,(bi 0)),(3,(iv 100))] fun a=>
St 5 d (pt b) a fun a=>
ay 5 a (pt b) fun b=>
rt c b a
theorem AV(h:L18 g a0 H R):sc g 18 #[a0] H R:=
  sd .e Tryz.func18 h
variable {g:Gh} {a0 a1 a2 a3 a4 a5 a6 a7 a8 a9 nC nB LO LN LM LL:Value} {H:Hp} {R:Rt}
def L40:Y2:=
fun a b c d e=>
CR e a 68 #[b] d fun d f=>
lX d fun d g=>
lN g (iv 0) fun g=>
lO g (fun g=>
lL b (iv 1) fun h=>
(lV f h g)) fun g=>
lO (Value.bool g) (fun g=>
lL c (iv 2) fun h=>
(lV f h g)) fun g=>
lO (Value.bool g) (fun g=>
lG c (iv 1048576) fun h=>
(lV f h g)) fun g=>
Br (Value.bool g) (
rt e (tP (.pointer none) (iv 1)) f) (
CR e a 69 #[b] f fun f g=>
lX f fun f h=>
lN h (iv 0) fun i=>
Br i (
rt e (tP (.pointer none) h) g) (
CR e a 70 #[c,f] g fun c f=>
lX c fun c g=>
lQ 4 f #[(.pointer none),(.pointer none),(.slice none 0 0),(.slice none 0 0)] 137 c fun c f=>
lN g (iv 0) fun h=>
Br h (
rt e (tP (.pointer none) g) f) (
DR f fun g=>
ay 4 g (pt c) fun c=>
CN a 71 #[d] f fun a f=>
aR f g∧
Build Tryz.prog 141 [(0,c),(1,b),(2,d),(3,a)] fun a=>
dh f (.cells (Value.cells a) 141 (0,0)) fun a b=>
aR b g∧
rt e (tP (pt a) (iv 0)) b)))
theorem qN(h:L40 g a0 a1 H R):sc g 40 #[a0,a1] H R:=
  sd (.n .e (.n .e (.n (.n (.h 0 [] [1] .e .e) .e) (hN 4 (.n (.h 0 [0,1,2,3,4,5,6,7,8] [] .e .e) .e))))) Tryz.func40 h
def L41:Y1:=
fun _ a b c=>
lW b #[(iv 0),(iv 0),(wi 0),(iv 0)] 37 fun b d=>
Build Tryz.prog 37 [(0,a),(1,(iv (-1)))] fun a=>
St 4 d (pt b) a fun a=>
ay 4 a (pt b) fun b=>
rt c b a
theorem AU(h:L41 g a0 H R):sc g 41 #[a0] H R:=
  sd .e Tryz.func41 h
def L42:Y0:=
fun _ a b=>
j4 a fun a c=>
Build Tryz.prog 95 [(0,(bi 8)),(1,(.func (.func 72) #[] #[]))] fun d=>
aY (.int .u8) c a (bi 1) d fun c=>
Build Tryz.prog 95 [(0,(bi 32)),(1,(.func (.func 73) #[] #[]))] fun d=>
aY (.int .u8) c a (bi 2) d fun c=>
Build Tryz.prog 95 [(0,(bi 1)),(1,(.func (.func 74) #[] #[]))] fun d=>
aY (.int .u8) c a (bi 3) d fun c=>
Build Tryz.prog 95 [(0,(bi 3)),(1,(.func (.func 75) #[] #[]))] fun d=>
aY (.int .u8) c a (bi 4) d fun c=>
Build Tryz.prog 95 [(0,(bi 3)),(1,(.func (.func 76) #[] #[]))] fun d=>
aY (.int .u8) c a (bi 5) d fun c=>
Build Tryz.prog 95 [(0,(bi 3)),(1,(.func (.func 77) #[] #[]))] fun d=>
aY (.int .u8) c a (bi 6) d fun c=>
Build Tryz.prog 95 [(0,(bi 7)),(1,(.func (.func 78) #[] #[]))] fun d=>
aY (.int .u8) c a (bi 7) d fun c=>
Build Tryz.prog 95 [(0,(bi 81)),(1,(.func (.func 79) #[] #[]))] fun d=>
aY (.int .u8) c a (bi 8) d fun c=>
Build Tryz.prog 95 [(0,(bi 129)),(1,(.func (.func 80) #[] #[]))] fun d=>
aY (.int .u8) c a (bi 9) d fun c=>
Build Tryz.prog 95 [(0,(bi 129)),(1,(.func (.func 81) #[] #[]))] fun d=>
aY (.int .u8) c a (bi 10) d fun c=>
Build Tryz.prog 95 [(0,(bi 21)),(1,(.func (.func 82) #[] #[]))] fun d=>
aY (.int .u8) c a (bi 11) d fun c=>
rt b a c
theorem AT(h:L42 g H R):sc g 42 #[] H R:=
  sd .e Tryz.func42 h
def L43:Y3:=
fun a b c d e f=>
dh e (.cells (Value.cells c) 35 (0,0)) fun c e=>
dh e (.cells (Value.cells d) 95 (0,0)) fun d e=>
lW e #[(iv 0),(iv 0),(wi 0),(iv 0)] 37 fun e g=>
ay 5 g (pt c) fun h=>
lD 0 (pt d) g fun i=>
CR f a 83 #[b,h,i] g fun g h=>
lN g (iv 0) fun i=>
Br i (
CR f a 41 #[g] h fun g i=>
St 4 i (pt e) g fun g=>
ay 4 g (pt e) fun i=>
rt f i g) (
∃(g:Jt) (i:Mt),JE g [(iv 1)] h∧∀h:Value,∀j:Hp,g [h] j→∀_:Fr,
lD 1 (pt d) j fun d=>
ay 5 j (pt c) fun c=>
bg Tryz.prog a d #[b,c] j (fun c d=>
lX c fun c k=>
lE k (iv 0) fun l=>
Br l (
CR f a 84 #[b,c,h] d fun c l=>
St 4 l (pt e) c fun c=>
ay 4 c (pt e) fun l=>
rt f l c) (
lN k (iv 9) fun c=>
lO c (fun c=>
lC 0 b fun l=>
ag 4 l fun l=>
Ld d l fun l=>
lG h l fun l=>
(lV d l c)) fun c=>
Br (Value.bool c) (
CR f a 41 #[k] d fun c k=>
lQ 4 k #[(iv 0),(iv 0),(wi 0),(iv 0)] 37 c fun c k=>
ag 3 (pt c) fun l=>
St 1 k l h fun k=>
ay 4 k (pt c) fun c=>
St 4 k (pt e) c fun c=>
ay 4 c (pt e) fun e=>
rt f e c) (
DR d fun c=>
lM 5 b c fun e=>
lC 0 b fun k=>
ag 2 k fun k=>
Ld c k fun k=>
lC 0 b fun b=>
ag 3 b fun b=>
Ld c b fun b=>
∀c:Hp,
CN (a.add c) 85 #[e,k,b] d fun _ a=>
lA h (iv 1) fun b=>
aB g i [b] a [h] j))) (kG f))
theorem qM(h:L43 g a0 a1 a2 H R):sc g 43 #[a0,a1,a2] H R:=
  sd (hN 3 (.n (.h 0 [8] [0,4,5,6] (.n (.n (.n .e (.n (.n (.n .e (.n .e (.n (.h 0 [] [1] .e .e) .e))) .e) (.h 1 [] [] (hr 0 [1] 0 15 .e) .e))) .e) .e) .e) .e)) Tryz.func43 h
def L44:Y0:=
fun _ a b=>
j4 a fun a c=>
aY (.int .u8) c a (bi 12) (.func (.func 86) #[] #[]) fun c=>
aY (.int .u8) c a (bi 13) (.func (.func 87) #[] #[]) fun c=>
aY (.int .u8) c a (bi 14) (.func (.func 88) #[] #[]) fun c=>
aY (.int .u8) c a (bi 15) (.func (.func 89) #[] #[]) fun c=>
aY (.int .u8) c a (bi 16) (.func (.func 90) #[] #[]) fun c=>
aY (.int .u8) c a (bi 17) (.func (.func 91) #[] #[]) fun c=>
aY (.int .u8) c a (bi 18) (.func (.func 92) #[] #[]) fun c=>
aY (.int .u8) c a (bi 19) (.func (.func 93) #[] #[]) fun c=>
aY (.int .u8) c a (bi 20) (.func (.func 94) #[] #[]) fun c=>
aY (.int .u8) c a (bi 21) (.func (.func 95) #[] #[]) fun c=>
aY (.int .u8) c a (bi 22) (.func (.func 96) #[] #[]) fun c=>
aY (.int .u8) c a (bi 23) (.func (.func 97) #[] #[]) fun c=>
rt b a c
theorem AS(h:L44 g H R):sc g 44 #[] H R:=
  sd .e Tryz.func44 h
def L65:Y1:=
fun a b c d=>
aa .ptr .eql b (.pointer none) fun e=>
Br e (
rt d (.slice none 0 0) c) (
lM 5 b c fun b=>
CR d a 71 #[b] c fun a b=>
rt d a b)
theorem AR(h:L65 g a0 H R):sc g 65 #[a0] H R:=
  sd .e Tryz.func65 h
def L68:Y1:=
fun a b c d=>
lL b (iv 0) fun e=>
lO e (fun e=>
lG b (iv 64) fun f=>
(lV c f e)) fun e=>
Br (Value.bool e) (
rt d (tP (.slice none 0 0) (iv 1)) c) (
CR d a 118 #[b] c fun a b=>
rt d (tP a (iv 0)) b)
theorem qL(h:L68 g a0 H R):sc g 68 #[a0] H R:=
  sd (.n .e (.n (.n (.h 0 [] [1] .e .e) .e) .e)) Tryz.func68 h
def L69:Y1:=
fun _ a b c=>
lL a (iv 1) fun d=>
lO d (fun d=>
lG a (iv 64) fun e=>
(lV b e d)) fun d=>
Br (Value.bool d) (
rt c (tP (.pointer none) (iv 1)) b) (
eJ 167 1 8 (.map none) b a a fun b d=>
Build Tryz.prog 166 [(0,b)] fun b=>
dh d (.cells (Value.cells b) 166 (0,0)) fun b d=>
∃(e:Jt) (f:Mt),JE e [(iv 0)] d∧∀d:Value,∀g:Hp,e [d] g→∀_:Fr,
lL d a fun a=>
Br a (
lM 0 (pt b) g fun a=>
j4 g fun h i=>
ai 1 a d fun a=>
St 1 i a h fun a=>
lA d (iv 1) fun h=>
aB e f [h] a [d] g) (
rt c (tP (pt b) (iv 0)) g))
theorem AQ(h:L69 g a0 H R):sc g 69 #[a0] H R:=
  sd (.n .e (.n (.n (.h 0 [] [1] .e .e) .e) (.n .e (.n (.n .e (.n (.h 0 [17] [4,16] .e .e) .e)) .e)))) Tryz.func69 h
def L70:Y2:=
fun a b c d e=>
lW d #[(.pointer none),(.pointer none),(.slice none 0 0),(.slice none 0 0)] 137 fun d f=>
CR e a 119 #[b] f fun a b=>
lX a fun a f=>
Build Tryz.prog 137 [(0,a),(1,c)] fun a=>
St 4 b (pt d) a fun a=>
ay 4 a (pt d) fun b=>
rt e (tP b f) a
theorem AP(h:L70 g a0 a1 H R):sc g 70 #[a0,a1] H R:=
  sd .e Tryz.func70 h
def L71:Y1:=
fun _ a b c=>
aa .slice .eql a (.slice none 0 0) fun d=>
Br d (
rt c (.slice none 0 0) b) (
ak Tryz.prog 43 0 [] b fun b d=>
App Tryz.prog 3 1 8 (iv 0) d b a fun a b=>
rt c a b)
theorem AO(h:L71 g a0 H R):sc g 71 #[a0] H R:=
  sd .e Tryz.func71 h
def L72:Y2:=
fun a b c d e=>
dh d (.cells (Value.cells c) 35 (0,0)) fun c d=>
DR d fun f=>
lM 5 b f fun b=>
lD 1 (pt c) f fun c=>
∀g:Hp,
CN (a.add g) 120 #[b,c] d fun a b=>
aR b f∧
lX a fun a c=>
rt e (tP a c) b
theorem AN(h:L72 g a0 a1 H R):sc g 72 #[a0,a1] H R:=
  sd (.n .e (.n (.h 1 [] [] (hr 0 [1] 0 11 .e) .e) .e)) Tryz.func72 h
def L73:Y2:=
fun a b c d e=>
dh d (.cells (Value.cells c) 35 (0,0)) fun c d=>
DR d fun f=>
lM 5 b f fun b=>
lD 1 (pt c) f fun c=>
lE c (iv 1) fun c=>
∀g:Hp,
CN (a.add g) 121 #[b,c] d fun a b=>
aR b f∧
lX a fun a c=>
rt e (tP a c) b
theorem AM(h:L73 g a0 a1 H R):sc g 73 #[a0,a1] H R:=
  sd (.n .e (.n (.h 1 [] [] (hr 0 [1] 0 12 .e) .e) .e)) Tryz.func73 h
def L74:Y2:=
fun a b c d e=>
dh d (.cells (Value.cells c) 35 (0,0)) fun c d=>
DR d fun f=>
lM 5 b f fun g=>
lM 6 b f fun b=>
lD 1 (pt c) f fun c=>
dW (.int .i64) (ui 0) false f b c fun b=>
∀c:Hp,
CN (a.add c) 122 #[g,b] d fun a b=>
aR b f∧
lX a fun a c=>
rt e (tP a c) b
theorem AL(h:L74 g a0 a1 H R):sc g 74 #[a0,a1] H R:=
  sd (.n .e (.n (.h 1 [] [] (hr 0 [1] 0 16 .e) .e) .e)) Tryz.func74 h
def L75:Y2:=
fun a b c d e=>
dh d (.cells (Value.cells c) 35 (0,0)) fun c d=>
DR d fun f=>
lM 5 b f fun g=>
lM 6 b f fun h=>
lD 1 (pt c) f fun i=>
dW (.int .i64) (ui 0) false f h i fun h=>
lM 6 b f fun b=>
lD 2 (pt c) f fun c=>
dW (.int .i64) (ui 0) false f b c fun b=>
∀c:Hp,
CN (a.add c) 123 #[g,h,b] d fun a b=>
aR b f∧
lX a fun a c=>
rt e (tP a c) b
theorem AK(h:L75 g a0 a1 H R):sc g 75 #[a0,a1] H R:=
  sd (.n .e (.n (.h 1 [] [] (hr 0 [1] 0 23 .e) .e) .e)) Tryz.func75 h
def L83:Y3:=
fun a b c d e f=>
dh e (.cells (Value.cells c) 35 (0,0)) fun c e=>
∀g:Jt,(∀h:Value,∀i:Hp,(∀_:Fr,
Br h (
rt f (iv 1) i) (
∀j:Jt,(∀k:Value,∀l:Hp,(∀_:Fr,
Br k (
rt f (iv 2) l) (
∀m:Jt,(∀n:Value,∀o:Hp,(∀_:Fr,
Br n (
rt f (iv 3) o) (
rt f (iv 0) o))→m [n] o)→
∀n:Jt,(∀o:Value,∀p:Hp,(∀_:Fr,
Br o (
JE m [o] p) (
∀q:Jt,(∀r:Value,∀s:Hp,(∀_:Fr,
Br r (
JE m [r] s) (
aa .num .and d (bi 4) fun t=>
lN t (bi 0) fun t=>
Split t true (
lD 3 (pt c) s fun t=>
CR f a 133 #[b,t] s fun t u=>
Un .not t fun t=>
aq vT t vF fun t=>
JE m [t] u) (
aq vF undef vF fun t=>
JE m [t] s)))→q [r] s)→
aa .num .and d (bi 2) fun m=>
lN m (bi 0) fun m=>
Split m true (
lD 2 (pt c) p fun m=>
CR f a 133 #[b,m] p fun m r=>
Un .not m fun m=>
aq vT m vF fun m=>
JE q [m] r) (
aq vF undef vF fun m=>
JE q [m] p)))→n [o] p)→
aa .num .and d (bi 1) fun m=>
lN m (bi 0) fun m=>
Split m true (
lD 1 (pt c) l fun m=>
CR f a 133 #[b,m] l fun m o=>
Un .not m fun m=>
aq vT m vF fun m=>
JE n [m] o) (
aq vF undef vF fun m=>
JE n [m] l)))→j [k] l)→
∀k:Jt,(∀l:Value,∀m:Hp,(∀_:Fr,
Br l (
JE j [l] m) (
∀n:Jt,(∀o:Value,∀p:Hp,(∀_:Fr,
Br o (
JE j [o] p) (
aa .num .and d (bi 128) fun q=>
lN q (bi 0) fun q=>
lU q (fun q=>
lD 4 (pt c) p fun r=>
lC 0 b fun s=>
ag 0 s fun s=>
Ld p s fun s=>
aa .num .shr r s fun r=>
lN r (wi 0) fun r=>
(lV p r q)) fun q=>
JE j [(Value.bool q)] p))→n [o] p)→
aa .num .and d (bi 16) fun j=>
lN j (bi 0) fun j=>
Split j true (
lD 2 (pt c) m fun j=>
CR f a 132 #[b,j] m fun j o=>
Un .not j fun j=>
aq vT j vF fun j=>
JE n [j] o) (
aq vF undef vF fun j=>
JE n [j] m)))→k [l] m)→
aa .num .and d (bi 8) fun j=>
lN j (bi 0) fun j=>
Split j true (
lD 1 (pt c) i fun j=>
CR f a 132 #[b,j] i fun b j=>
Un .not b fun b=>
aq vT b vF fun b=>
JE k [b] j) (
aq vF undef vF fun b=>
JE k [b] i)))→g [h] i)→
∀b:Jt,(∀h:Value,∀i:Hp,(∀_:Fr,
Br h (
JE g [h] i) (
aa .num .and d (bi 64) fun j=>
lN j (bi 0) fun j=>
Split j true (
lD 3 (pt c) i fun j=>
bg Tryz.prog a (.func (.func 131) #[] #[]) #[j] i (fun j k=>
Un .not j fun j=>
aq vT j vF fun j=>
JE g [j] k) (kG f)) (
aq vF undef vF fun j=>
JE g [j] i)))→b [h] i)→
aa .num .and d (bi 32) fun d=>
lN d (bi 0) fun d=>
Split d true (
lD 1 (pt c) e fun c=>
bg Tryz.prog a (.func (.func 131) #[] #[]) #[c] e (fun a c=>
Un .not a fun a=>
aq vT a vF fun a=>
JE b [a] c) (kG f)) (
aq vF undef vF fun a=>
JE b [a] e)
theorem AJ(h:L83 g a0 a1 a2 H R):sc g 83 #[a0,a1,a2] H R:=
  sd (.n .e (.n .e (.n (.n (.h 1 [8] [0,2,4] (.h 1 [8] [0,2,4,7] .e .e) (.n .e (.h 1 [29] [0,2,4] (.h 1 [29] [0,2,4] .e (.n .e (.h 1 [29] [0,2,4] .e .e))) (.n .e (.h 1 [64] [] (.h 1 [64] [0,2,4] .e (.n .e (.h 1 [64] [0,2,4] .e .e))) .e))))) .e) .e))) Tryz.func83 h
def L84:Y3:=
fun _ a b c d e=>
lW d #[(iv 0),(iv 0),(wi 0),(iv 0)] 37 fun d f=>
lM 7 a f fun g=>
lM 7 a f fun h=>
lA h (iv 1) fun h=>
lC 7 a fun i=>
St 1 f i h fun f=>
lM 6 a f fun a=>
aY (.int .i64) f a g b fun a=>
Build Tryz.prog 37 [(1,g),(3,c)] fun b=>
St 4 a (pt d) b fun a=>
ay 4 a (pt d) fun b=>
rt e b a
theorem AI(h:L84 g a0 a1 a2 H R):sc g 84 #[a0,a1,a2] H R:=
  sd .e Tryz.func84 h
def L85:Y3:=
fun a b c d e f=>
lW e #[(iv 0),(iv 0),(iv 0),vF] 147 fun e g=>
CR f a 134 #[b,c,d] g fun g h=>
lN g (iv 0) fun i=>
Br i (
Build Tryz.prog 147 [] fun i=>
St 4 h (pt e) i fun i=>
ay 4 i (pt e) fun j=>
rt f (tP j g) i) (
lE c (bi 1) fun g=>
Br g (
CR f a 135 #[b,d] h fun g i=>
lX g fun g j=>
St 4 i (pt e) g fun g=>
ay 4 g (pt e) fun i=>
rt f (tP i j) g) (
lE c (bi 2) fun g=>
Br g (
CR f a 136 #[b,d] h fun d g=>
lX d fun i _=>
Ext 2 d fun d=>
lQ 4 g #[(iv 0),(iv 0),(iv 0),vF] 147 i fun g i=>
ay 4 i (pt g) fun g=>
St 4 i (pt e) g fun g=>
ay 4 g (pt e) fun i=>
rt f (tP i d) g) (
∀d:Jt,(∀g:Value,∀i:Hp,(∀_:Fr,
Br g (
CR f a 138 #[c] i fun j k=>
CR f a 137 #[b,j] k fun j k=>
lX j fun j l=>
St 4 k (pt e) j fun j=>
ay 4 j (pt e) fun k=>
rt f (tP k l) j) (
lE c (bi 6) fun j=>
Br j (
CR f a 139 #[b] i fun j k=>
lX j fun j l=>
St 4 k (pt e) j fun j=>
ay 4 j (pt e) fun k=>
rt f (tP k l) j) (
CR f a 140 #[b] i fun j k=>
CR f a 140 #[b] k fun a b=>
Build Tryz.prog 147 [(0,j),(1,a)] fun a=>
St 4 b (pt e) a fun a=>
ay 4 a (pt e) fun b=>
rt f (tP b (iv 0)) a)))→d [g] i)→
lE c (bi 3) fun a=>
Br a (
JE d [a] h) (
lE c (bi 4) fun a=>
Br a (
JE d [a] h) (
lE c (bi 5) fun a=>
JE d [a] h)))))
theorem qK(h:L85 g a0 a1 a2 H R):sc g 85 #[a0,a1,a2] H R:=
  sd (.n .e (.n .e (.n (.n .e (.n (hN 4 (.h 1 [39] [0,1,6,20] .e .e)) .e)) .e))) Tryz.func85 h
def L86:Y2:=
fun a b c d e=>
dh d (.cells (Value.cells c) 35 (0,0)) fun c d=>
lW d #[(iv 0),(iv 0),(wi 0),(iv 0)] 37 fun d f=>
lM 6 b f fun g=>
lD 1 (pt c) f fun c=>
dW (.int .i64) (ui 0) true f g c fun c=>
lX c fun c g=>
Un .not g fun g=>
Br g (
CR e a 41 #[(iv 3)] f fun g h=>
St 4 h (pt d) g fun g=>
ay 4 g (pt d) fun h=>
rt e h g) (
lM 5 b f fun g=>
CR e a 141 #[g,c] f fun f g=>
lN f (iv 0) fun h=>
Br h (
CR e a 41 #[f] g fun f h=>
St 4 h (pt d) f fun f=>
ay 4 f (pt d) fun h=>
rt e h f) (
CR e a 84 #[b,c,(iv 0)] g fun a b=>
St 4 b (pt d) a fun a=>
ay 4 a (pt d) fun b=>
rt e b a))
theorem qJ(h:L86 g a0 a1 H R):sc g 86 #[a0,a1] H R:=
  sd .e Tryz.func86 h
def L87:Y2:=
fun a b c d e=>
dh d (.cells (Value.cells c) 35 (0,0)) fun c d=>
lW d #[(iv 0),(iv 0),(wi 0),(iv 0)] 37 fun d f=>
lM 6 b f fun g=>
lD 1 (pt c) f fun h=>
dW (.int .i64) (ui 0) true f g h fun g=>
lX g fun g h=>
Un .not h fun h=>
Br h (
CR e a 41 #[(iv 3)] f fun h i=>
St 4 i (pt d) h fun h=>
ay 4 h (pt d) fun i=>
rt e i h) (
lM 5 b f fun h=>
CR e a 142 #[h,g] f fun _ f=>
DR f fun g=>
lM 6 b g fun b=>
lD 1 (pt c) g fun c=>
∀_:Hp,
kH (.int .i64) f b c fun b=>
CR e a 143 #[(wi 0),(iv 0)] b fun a b=>
St 4 b (pt d) a fun a=>
ay 4 a (pt d) fun b=>
rt e b a)
theorem qI(h:L87 g a0 a1 H R):sc g 87 #[a0,a1] H R:=
  sd (hN 4 (.n (.h 1 [] [] (hr 0 [1] 0 7 .e) .e) .e)) Tryz.func87 h
def L88:Y2:=
fun a b c d e=>
dh d (.cells (Value.cells c) 35 (0,0)) fun c d=>
lW d #[(iv 0),(iv 0),(wi 0),(iv 0)] 37 fun d f=>
lD 1 (pt c) f fun g=>
CR e a 133 #[b,g] f fun f g=>
Un .not f fun f=>
Br f (
CR e a 41 #[(iv 3)] g fun f h=>
St 4 h (pt d) f fun f=>
ay 4 f (pt d) fun h=>
rt e h f) (
DR g fun f=>
lM 5 b f fun h=>
lM 6 b f fun b=>
lD 1 (pt c) f fun i=>
dW (.int .i64) (ui 0) false f b i fun b=>
lD 4 (pt c) f fun c=>
∀i:Hp,
CN (a.add i) 144 #[h,b,c] g fun b c=>
aR c f∧
lX b fun b f=>
CR e a 145 #[b] c fun b c=>
CR e a 143 #[b,f] c fun a b=>
St 4 b (pt d) a fun a=>
ay 4 a (pt d) fun b=>
rt e b a)
theorem AH(h:L88 g a0 a1 H R):sc g 88 #[a0,a1] H R:=
  sd (.n .e (.n .e (.n (.h 1 [] [] (hr 0 [1] 0 19 .e) .e) .e))) Tryz.func88 h
def L89:Y2:=
fun a b c d e=>
dh d (.cells (Value.cells c) 35 (0,0)) fun c d=>
lW d #[(iv 0),(iv 0),(wi 0),(iv 0)] 37 fun d f=>
∀g:Jt,(∀h:Value,∀i:Hp,(∀_:Fr,
Br h (
CR e a 41 #[(iv 3)] i fun j k=>
St 4 k (pt d) j fun j=>
ay 4 j (pt d) fun k=>
rt e k j) (
DR i fun j=>
lM 6 b j fun k=>
lD 1 (pt c) j fun l=>
dW (.int .i64) (ui 0) false j k l fun k=>
lM 6 b j fun l=>
lD 2 (pt c) j fun m=>
dW (.int .i64) (ui 0) false j l m fun j=>
lE k j fun j=>
∀k:Hp,
CN (a.add k) 145 #[j] i fun j k=>
∀l:Hp,
CN (a.add l) 143 #[j,(iv 0)] k fun j k=>
∀_:Hp,
St 4 k (pt d) j fun j=>
ay 4 j (pt d) fun d=>
rt e d j))→g [h] i)→
lD 1 (pt c) f fun d=>
CR e a 133 #[b,d] f fun d f=>
Un .not d fun d=>
Split d false (
lD 2 (pt c) f fun c=>
CR e a 133 #[b,c] f fun a b=>
Un .not a fun a=>
aq vF vT a fun a=>
JE g [a] b) (
aq vT vT undef fun a=>
JE g [a] f)
theorem AG(h:L89 g a0 a1 H R):sc g 89 #[a0,a1] H R:=
  sd (.n .e (.n (.h 1 [16] [0,3,4] .e .e) (.n (.h 1 [] [] (hr 0 [1] 0 18 .e) .e) .e))) Tryz.func89 h
def L90:Y2:=
fun a b c d e=>
dh d (.cells (Value.cells c) 35 (0,0)) fun c d=>
lW d #[(iv 0),(iv 0),(wi 0),(iv 0)] 37 fun d f=>
lD 1 (pt c) f fun g=>
CR e a 133 #[b,g] f fun f g=>
Un .not f fun f=>
Br f (
CR e a 41 #[(iv 3)] g fun f h=>
St 4 h (pt d) f fun f=>
ay 4 f (pt d) fun h=>
rt e h f) (
DR g fun f=>
lM 5 b f fun h=>
lM 6 b f fun b=>
lD 1 (pt c) f fun c=>
dW (.int .i64) (ui 0) false f b c fun b=>
∀c:Hp,
CN (a.add c) 146 #[h,b] g fun b c=>
aR c f∧
lX b fun b f=>
∀g:Hp,
CN (a.add g) 143 #[b,f] c fun a b=>
∀_:Hp,
St 4 b (pt d) a fun a=>
ay 4 a (pt d) fun b=>
rt e b a)
theorem AE(h:L90 g a0 a1 H R):sc g 90 #[a0,a1] H R:=
  sd (.n .e (.n .e (.n (.h 1 [] [] (hr 0 [1] 0 16 .e) .e) .e))) Tryz.func90 h
def L92:Y2:=
fun a b c d e=>
dh d (.cells (Value.cells c) 35 (0,0)) fun _ c=>
lW c #[(iv 0),(iv 0),(wi 0),(iv 0)] 37 fun c d=>
lM 5 b d fun b=>
CR e a 140 #[b] d fun b d=>
bB .u64 b fun b=>
CR e a 143 #[b,(iv 0)] d fun a b=>
St 4 b (pt c) a fun a=>
ay 4 a (pt c) fun b=>
rt e b a
theorem AD(h:L92 g a0 a1 H R):sc g 92 #[a0,a1] H R:=
  sd .e Tryz.func92 h
def L93:Y2:=
fun a b c d e=>
dh d (.cells (Value.cells c) 35 (0,0)) fun c d=>
lW d #[(iv 0),(iv 0),(wi 0),(iv 0)] 37 fun d f=>
lD 1 (pt c) f fun g=>
CR e a 133 #[b,g] f fun f g=>
Un .not f fun f=>
Br f (
CR e a 41 #[(iv 3)] g fun f h=>
St 4 h (pt d) f fun f=>
ay 4 f (pt d) fun h=>
rt e h f) (
DR g fun f=>
lM 5 b f fun h=>
lM 6 b f fun b=>
lD 1 (pt c) f fun c=>
dW (.int .i64) (ui 0) false f b c fun b=>
∀c:Hp,
CN (a.add c) 148 #[h,b] g fun b c=>
aR c f∧
lX b fun b f=>
∀g:Hp,
CN (a.add g) 143 #[b,f] c fun a b=>
∀_:Hp,
St 4 b (pt d) a fun a=>
ay 4 a (pt d) fun b=>
rt e b a)
theorem AB(h:L93 g a0 a1 H R):sc g 93 #[a0,a1] H R:=
  sd (.n .e (.n .e (.n (.h 1 [] [] (hr 0 [1] 0 16 .e) .e) .e))) Tryz.func93 h
def L94:Y2:=
fun a b c d e=>
dh d (.cells (Value.cells c) 35 (0,0)) fun c d=>
lW d #[(iv 0),(iv 0),(wi 0),(iv 0)] 37 fun d f=>
lD 1 (pt c) f fun g=>
CR e a 133 #[b,g] f fun f g=>
Un .not f fun f=>
Br f (
CR e a 41 #[(iv 3)] g fun f h=>
St 4 h (pt d) f fun f=>
ay 4 f (pt d) fun h=>
rt e h f) (
DR g fun f=>
lM 5 b f fun h=>
lM 6 b f fun b=>
lD 1 (pt c) f fun c=>
dW (.int .i64) (ui 0) false f b c fun b=>
∀c:Hp,
CN (a.add c) 149 #[h,b] g fun b c=>
aR c f∧
lX b fun b f=>
∀g:Hp,
CN (a.add g) 143 #[b,f] c fun a b=>
∀_:Hp,
St 4 b (pt d) a fun a=>
ay 4 a (pt d) fun b=>
rt e b a)
theorem AA(h:L94 g a0 a1 H R):sc g 94 #[a0,a1] H R:=
  sd (.n .e (.n .e (.n (.h 1 [] [] (hr 0 [1] 0 16 .e) .e) .e))) Tryz.func94 h
def L95:Y2:=
fun a b c d e=>
dh d (.cells (Value.cells c) 35 (0,0)) fun c d=>
lW d #[(iv 0),(iv 0),(wi 0),(iv 0)] 37 fun d f=>
DR f fun g=>
lM 5 b g fun b=>
lD 1 (pt c) g fun c=>
∀h:Hp,
CN (a.add h) 150 #[b,c] f fun b c=>
aR c g∧
lX b fun b f=>
bB .u64 b fun b=>
CR e a 143 #[b,f] c fun a b=>
St 4 b (pt d) a fun a=>
ay 4 a (pt d) fun b=>
rt e b a
theorem qH(h:L95 g a0 a1 H R):sc g 95 #[a0,a1] H R:=
  sd (.n .e (.n (.h 1 [] [] (hr 0 [1] 0 12 .e) .e) .e)) Tryz.func95 h
def L96:Y2:=
fun a b c d e=>
dh d (.cells (Value.cells c) 35 (0,0)) fun c d=>
lW d #[(iv 0),(iv 0),(wi 0),(iv 0)] 37 fun d f=>
DR f fun g=>
lM 5 b g fun b=>
lD 1 (pt c) g fun c=>
∀g:Hp,
CN (a.add g) 151 #[b,c] f fun b c=>
∀f:Hp,
CN (a.add f) 143 #[(wi 0),b] c fun a b=>
∀_:Hp,
St 4 b (pt d) a fun a=>
ay 4 a (pt d) fun b=>
rt e b a
theorem qG(h:L96 g a0 a1 H R):sc g 96 #[a0,a1] H R:=
  sd (.n .e (.n (.h 1 [] [] (hr 0 [1] 0 9 .e) .e) .e)) Tryz.func96 h
def L97:Y2:=
fun a b c d e=>
dh d (.cells (Value.cells c) 35 (0,0)) fun c d=>
lW d #[(iv 0),(iv 0),(wi 0),(iv 0)] 37 fun d f=>
lD 1 (pt c) f fun g=>
lL g (iv 0) fun g=>
lO g (fun g=>
lD 1 (pt c) f fun h=>
lG h (iv 6) fun h=>
(lV f h g)) fun g=>
Br (Value.bool g) (
CR e a 41 #[(iv 1)] f fun g h=>
St 4 h (pt d) g fun g=>
ay 4 g (pt d) fun h=>
rt e h g) (
DR f fun g=>
lM 5 b g fun h=>
lD 1 (pt c) g fun i=>
bB .u8 i fun i=>
lD 2 (pt c) g fun c=>
∀j:Hp,
CN (a.add j) 85 #[h,i,c] f fun c f=>
aR f g∧
lX c fun c h=>
lW f #[(iv 0),(iv 0),(iv 0),vF] 147 fun f i=>
∀_:Hp,
St 4 i (pt f) c fun c=>
aR c g∧
lM 5 b c fun b=>
CR e a 140 #[b] c fun b c=>
bB .u64 b fun b=>
CR e a 143 #[b,h] c fun a b=>
St 4 b (pt d) a fun a=>
ay 4 a (pt d) fun b=>
rt e b a)
theorem qF(h:L97 g a0 a1 H R):sc g 97 #[a0,a1] H R:=
  sd (.n .e (.n (.n (.h 0 [] [1] .e .e) .e) (.n (.h 1 [] [] (hr 0 [1] 0 9 (.h 1 [13] [1] (hr 0 [1] 9 7 .e) .e)) .e) .e))) Tryz.func97 h
variable {g:Gh} {a0 a1 a2 a3 a4 a5 a6 a7 a8 a9 nC nB LO LN LM LL:Value} {H:Hp} {R:Rt}
def L118:Y1:=
fun _ a b c=>
eJ 3 1 8 (iv 0) b a a fun b d=>
∃(e:Jt) (f:Mt),JE e [(iv 0)] d∧∀d:Value,∀g:Hp,e [d] g→∀_:Fr,
lL d a fun a=>
Br a (
ai 1 b d fun a=>
St 1 g a d fun a=>
lA d (iv 1) fun h=>
aB e f [h] a [d] g) (
rt c b g)
theorem xP(h:L118 g a0 H R):sc g 118 #[a0] H R:=
  sd (.n .e (.n .e (.n (.n .e (.n (.h 0 [8] [3,7] .e .e) .e)) .e))) Tryz.func118 h
def L119:Y1:=
fun _ a b c=>
lL a (iv 2) fun d=>
lO d (fun d=>
lG a (iv 1048576) fun e=>
(lV b e d)) fun d=>
Br (Value.bool d) (
rt c (tP (.pointer none) (iv 1)) b) (
Build Tryz.prog 224 [(0,a),(3,(iv 2))] fun a=>
dh b (.cells (Value.cells a) 224 (0,0)) fun a b=>
∃(d:Jt) (e:Mt),JE d [(ui 0)] b∧∀b:Value,∀f:Hp,d [b] f→∀_:Fr,
lL b (ui 2) fun g=>
Br g (
lM 1 (pt a) f fun g=>
Build Tryz.prog 226 [(0,(iv (-1))),(1,b),(2,b)] fun h=>
Build Tryz.prog 228 [(0,h),(1,vT),(2,(bi 255))] fun h=>
ak Tryz.prog 222 1 [(0,h)] f fun h i=>
App Tryz.prog 228 5 24 (.agg #[(iv 0),(ui 0),(ui 0),vF,(bi 0)]) i g h fun g h=>
lC 1 (pt a) fun i=>
St 1 h i g fun g=>
lA b (ui 1) fun h=>
aB d e [h] g [b] f) (
rt c (tP (pt a) (iv 0)) f))
theorem xO(h:L119 g a0 H R):sc g 119 #[a0] H R:=
  sd (.n .e (.n (.n (.h 0 [] [1] .e .e) .e) (.n .e (.n (.n .e (.n (.h 0 [15] [4] .e .e) .e)) .e)))) Tryz.func119 h
def L120:Y2:=
fun a b c d e=>
aa .ptr .eql b (.pointer none) fun f=>
Br f (
rt e (tP (ui 0) (iv 10)) d) (
CR e a 175 #[b,c,(ui 0),(ui 1)] d fun a b=>
lX a fun a c=>
rt e (tP a c) b)
theorem xN(h:L120 g a0 a1 H R):sc g 120 #[a0,a1] H R:=
  sd .e Tryz.func120 h
def L121:Y2:=
fun a b c d e=>
aa .ptr .eql b (.pointer none) fun f=>
Br f (
rt e (tP (ui 0) (iv 10)) d) (
∀f:Jt,(∀g:Value,∀h:Hp,(∀_:Fr,
CR e a 141 #[b,g] h fun a b=>
rt e (tP g a) b)→f [g] h)→
Br c (
JE f [(ui 1)] d) (
JE f [(ui 0)] d))
theorem xM(h:L121 g a0 a1 H R):sc g 121 #[a0,a1] H R:=
  sd (hN 3 (.h 1 [6] [0] .e .e)) Tryz.func121 h
def L122:Y2:=
fun a b c d e=>
CR e a 176 #[b,(bi 3),c,(ui 0)] d fun a b=>
lX a fun a c=>
rt e (tP a c) b
theorem xL(h:L122 g a0 a1 H R):sc g 122 #[a0,a1] H R:=
  sd .e Tryz.func122 h
def L123:Y3:=
fun a b c d e f=>
CR f a 176 #[b,(bi 8),c,d] e fun a b=>
lX a fun a c=>
rt f (tP a c) b
theorem xK(h:L123 g a0 a1 a2 H R):sc g 123 #[a0,a1,a2] H R:=
  sd .e Tryz.func123 h
def L131:Y1:=
fun _ a b c=>
lE a (iv 0) fun d=>
lO d (fun d=>
lE a (iv 1) fun a=>
(lV b a d)) fun d=>
rt c (Value.bool d) b
theorem xJ(h:L131 g a0 H R):sc g 131 #[a0] H R:=
  sd (.n .e (.n (.h 0 [] [1] .e .e) .e)) Tryz.func131 h
def L132:Y2:=
fun _ a b c d=>
aa .num .geq b (iv 0) fun e=>
lU e (fun e=>
lC 0 a fun a=>
ag 0 a fun a=>
Ld c a fun a=>
lL b a fun a=>
(lV c a e)) fun e=>
rt d (Value.bool e) c
theorem xI(h:L132 g a0 a1 H R):sc g 132 #[a0,a1] H R:=
  sd (.n .e (.n (.h 0 [] [1] .e .e) .e)) Tryz.func132 h
def L133:Y2:=
fun _ a b c d=>
lM 6 a c fun a=>
dW (.int .i64) (ui 0) true c a b fun a=>
lX a fun _ a=>
rt d a c
theorem xH(h:L133 g a0 a1 H R):sc g 133 #[a0,a1] H R:=
  sd .e Tryz.func133 h
def L134:Y3:=
fun a b c d e f=>
aa .ptr .eql b (.pointer none) fun g=>
Br g (
rt f (iv 10) e) (
lG c (bi 6) fun g=>
lO g (fun g=>
lL d (iv 100) fun h=>
(lV e h g)) fun g=>
lO (Value.bool g) (fun g=>
lG d (iv 1000) fun d=>
(lV e d g)) fun g=>
Br (Value.bool g) (
rt f (iv 1) e) (
∀d:Jt,(∀g:Value,∀h:Hp,(∀_:Fr,
Br g (
rt f (iv 6) h) (
rt f (iv 0) h))→d [g] h)→
lE c (bi 6) fun c=>
Split c true (
CR f a 185 #[b] e fun a b=>
lG a (iv 12) fun a=>
aq vT a vF fun a=>
JE d [a] b) (
aq vF undef vF fun a=>
JE d [a] e)))
theorem pw(h:L134 g a0 a1 a2 H R):sc g 134 #[a0,a1,a2] H R:=
  sd (.n .e (.n (.n (.n .e (.n .e (.n (.h 0 [] [1] .e .e) (.n .e (.h 1 [21] [] .e .e))))) .e) .e)) Tryz.func134 h
def L135:Y2:=
fun a b c d e=>
lW d #[(iv 0),(iv 0),(iv 0),vF] 147 fun d f=>
CR e a 186 #[b,c] f fun f g=>
lN f (iv 0) fun h=>
Br h (
Build Tryz.prog 147 [] fun h=>
St 4 g (pt d) h fun h=>
ay 4 h (pt d) fun i=>
rt e (tP i f) h) (
CR e a 140 #[b] g fun f g=>
Build Tryz.prog 147 [(0,f)] fun f=>
lQ 4 g #[(iv 0),(iv 0),(iv 0),vF] 147 f fun f g=>
CR e a 187 #[b] g fun g h=>
aM g fun i=>
∃(j:Jt) (k:Mt),JE j [(iv 0)] h∧∀h:Value,∀l:Hp,j [h] l→∀_:Fr,
lL h i fun i=>
Br i (
lI 1 g h l fun g=>
CR e a 188 #[b,g,c] l fun c g=>
lX c fun c _=>
lQ 4 g #[(iv 0),(iv 0),(iv 0),vF] 147 c fun c g=>
lD 2 (pt f) g fun i=>
lD 2 (pt c) g fun c=>
lA i c fun c=>
ag 2 (pt f) fun i=>
St 1 g i c fun c=>
lA h (iv 1) fun g=>
aB j k [g] c [h] l) (
CR e a 140 #[b] l fun a b=>
ag 1 (pt f) fun c=>
St 1 b c a fun a=>
ay 4 a (pt f) fun b=>
St 4 a (pt d) b fun a=>
ay 4 a (pt d) fun b=>
rt e (tP b (iv 0)) a))
theorem xG(h:L135 g a0 a1 H R):sc g 135 #[a0,a1] H R:=
  sd (hN 3 (.n (.n .e (.n (.h 0 [25] [0,1,4,7,23,24] .e .e) .e)) .e)) Tryz.func135 h
def L140:Y1:=
fun a b c d=>
aa .ptr .eql b (.pointer none) fun e=>
Br e (
rt d (iv 0) c) (
lC 0 b fun b=>
ag 0 b fun b=>
Ld c b fun b=>
CR d a 196 #[b] c fun a b=>
lS a (iv 2) fun a=>
rt d a b)
theorem xF(h:L140 g a0 H R):sc g 140 #[a0] H R:=
  sd .e Tryz.func140 h
def L141:Y2:=
fun a b c d e=>
aa .ptr .eql b (.pointer none) fun f=>
Br f (
rt e (iv 10) d) (
lC 0 b fun f=>
CR e a 197 #[f,c] d fun a d=>
Un .not a fun a=>
Br a (
rt e (iv 3) d) (
∀a:Jt,(∀f:Hp,(∀_:Fr,
lC 7 b fun g=>
St 1 f g (.slice none 0 0) fun g=>
rt e (iv 0) g)→a [] f)→
lG c (ui 1) fun f=>
Br f (
lC 0 b fun f=>
ag 3 f fun f=>
Ld d f fun f=>
lI 1 f c d fun f=>
lE f (Value.int .i32 65535) fun f=>
Br f (
rt e (iv 8) d) (
lC 0 b fun e=>
ag 3 e fun e=>
Ld d e fun e=>
lI 1 e c d fun f=>
lA f (Value.int .i32 1) fun f=>
ai 1 e c fun e=>
St 1 d e f fun e=>
lC 0 b fun f=>
ag 3 f fun f=>
Ld e f fun f=>
lI 1 f c e fun f=>
lE f (Value.int .i32 1) fun f=>
Br f (
lC 0 b fun b=>
ag 2 b fun b=>
Ld e b fun b=>
lI 1 b c e fun f=>
lA f (Value.int .i32 1) fun f=>
ai 1 b c fun b=>
St 1 e b f fun b=>
JE a [] b) (
JE a [] e))) (
JE a [] d)))
theorem pq(h:L141 g a0 a1 H R):sc g 141 #[a0,a1] H R:=
  sd (.n .e (.n .e (.h 1 [] [0] .e .e))) Tryz.func141 h
def L142:Y2:=
fun a b c d e=>
aa .ptr .eql b (.pointer none) fun f=>
Br f (
rt e (iv 10) d) (
∀f:Jt,(∀g:Hp,(∀_:Fr,
lC 7 b fun h=>
St 1 g h (.slice none 0 0) fun h=>
rt e (iv 0) h)→f [] g)→
lG c (ui 1) fun g=>
Br g (
CR e a 198 #[b,c] d fun g h=>
lE g (iv 0) fun g=>
Br g (
rt e (iv 3) h) (
lC 0 b fun g=>
ag 3 g fun g=>
Ld h g fun g=>
lI 1 g c h fun i=>
lS i (Value.int .i32 1) fun i=>
ai 1 g c fun g=>
St 1 h g i fun g=>
lC 0 b fun h=>
ag 3 h fun h=>
Ld g h fun h=>
lI 1 h c g fun h=>
lE h (Value.int .i32 0) fun h=>
Br h (
lC 0 b fun b=>
CR e a 199 #[b,c] g fun _ a=>
JE f [] a) (
JE f [] g))) (
JE f [] d))
theorem po(h:L142 g a0 a1 H R):sc g 142 #[a0,a1] H R:=
  sd (.n .e (.n .e (.h 1 [] [0] .e .e))) Tryz.func142 h
def L143:Y2:=
fun a b c d e=>
lW d #[(iv 0),(iv 0),(wi 0),(iv 0)] 37 fun d f=>
lN c (iv 0) fun g=>
Br g (
CR e a 41 #[c] f fun a c=>
St 4 c (pt d) a fun a=>
ay 4 a (pt d) fun c=>
rt e c a) (
Build Tryz.prog 37 [(1,(iv (-1))),(2,b)] fun a=>
St 4 f (pt d) a fun a=>
ay 4 a (pt d) fun b=>
rt e b a)
theorem xE(h:L143 g a0 a1 H R):sc g 143 #[a0,a1] H R:=
  sd .e Tryz.func143 h
def L144:Y3:=
fun a b c d e f=>
ak Tryz.prog 194 1 [(0,c)] e fun e g=>
CR f a 200 #[b,e] g fun e g=>
lN e (iv 0) fun h=>
Br h (
rt f (tP vF e) g) (
∃(e:Jt) (h:Mt),JE e [c] g∧∀c:Value,∀g:Hp,e [c] g→∀_:Fr,
CR f a 201 #[c] g fun i j=>
Un .not i fun i=>
Br i (
CR f a 202 #[b,c] j fun a b=>
lQ 3 b #[(iv 0),(ui 0),(ui 0)] 226 a fun a b=>
lD 1 (pt a) b fun i=>
lD 0 (pt a) b fun k=>
aa .num .shr d k fun d=>
aa .num .and d (wi 1) fun d=>
lE d (wi 1) fun d=>
Br d (
lD 2 (pt a) b fun a=>
aB e h [a] b [c] g) (
aB e h [i] b [c] g)) (
lE c (ui 1) fun a=>
rt f (tP a (iv 0)) j))
theorem xD(h:L144 g a0 a1 a2 H R):sc g 144 #[a0,a1,a2] H R:=
  sd (.n .e (.n .e (.n (.n (.h 0 [1] [0,2] .e .e) .e) .e))) Tryz.func144 h
def L145:Y1:=
fun _ a b c=>
Br a (
rt c (wi 1) b) (
rt c (wi 0) b)
theorem xC(h:L145 g a0 H R):sc g 145 #[a0] H R:=
  sd .e Tryz.func145 h
def L146:Y2:=
fun a b c d e=>
dh d (.cells (Value.cells b) 85 (0,0)) fun b d=>
Ld d (pt b) fun f=>
ak Tryz.prog 194 1 [(0,c)] d fun d g=>
CR e a 200 #[f,d] g fun d f=>
lN d (iv 0) fun g=>
Br g (
rt e (tP (wi 0) d) f) (
lW f #[.nilFunc] 260 fun d f=>
St 1 f (pt d) (.func (.func 203) #[] #[(pt b)]) fun f=>
Ld f (pt b) fun g=>
CR e a 204 #[g,c,(wi 0),(wi 1),(.func (.func 205) #[] #[(pt b),(pt d)])] f fun b f=>
Ld f (pt d) fun d=>
bg Tryz.prog a d #[c] f (fun a c=>
aa .num .shl b a fun a=>
rt e (tP a (iv 0)) c) (kG e))
theorem xB(h:L146 g a0 a1 H R):sc g 146 #[a0,a1] H R:=
  sd .e Tryz.func146 h
def L148:Y2:=
fun a b c d e=>
CR e a 208 #[b,c,(wi 0)] d fun a b=>
lX a fun a c=>
rt e (tP a c) b
theorem xA(h:L148 g a0 a1 H R):sc g 148 #[a0,a1] H R:=
  sd .e Tryz.func148 h
def L149:Y2:=
fun a b c d e=>
ak Tryz.prog 194 1 [(0,c)] d fun d f=>
CR e a 200 #[b,d] f fun d f=>
lN d (iv 0) fun g=>
Br g (
rt e (tP (wi 0) d) f) (
lQ 1 f #[(wi 0)] 33 (wi 0) fun d f=>
ak Tryz.prog 194 1 [(0,c)] f fun c f=>
CR e a 206 #[b,c,(.func (.func 209) #[] #[(pt d)])] f fun _ a=>
Ld a (pt d) fun b=>
rt e (tP b (iv 0)) a)
theorem xz(h:L149 g a0 a1 H R):sc g 149 #[a0,a1] H R:=
  sd .e Tryz.func149 h
def L150:Y2:=
fun a b c d e=>
aa .ptr .eql b (.pointer none) fun f=>
Br f (
rt e (tP (iv 0) (iv 10)) d) (
CR e a 210 #[b,c] d fun a d=>
Un .not a fun a=>
Br a (
rt e (tP (iv 0) (iv 2)) d) (
lM 6 b d fun a=>
lI 1 a c d fun a=>
rt e (tP a (iv 0)) d))
theorem kK(h:L150 g a0 a1 H R):sc g 150 #[a0,a1] H R:=
  sd .e Tryz.func150 h
def L151:Y2:=
fun a b c d e=>
aa .ptr .eql b (.pointer none) fun f=>
Br f (
rt e (iv 10) d) (
lL c (iv 0) fun f=>
lO f (fun f=>
lM 4 b d fun g=>
lS g (iv 2) fun g=>
lG c g fun g=>
(lV d g f)) fun f=>
Br (Value.bool f) (
rt e (iv 1) d) (
CR e a 211 #[b,c] d fun a d=>
Un .not a fun a=>
Br a (
rt e (iv 9) d) (
lM 7 b d fun a=>
ak Tryz.prog 43 1 [(0,c)] d fun c d=>
App Tryz.prog 3 1 8 (iv 0) d a c fun a c=>
lC 7 b fun b=>
St 1 c b a fun a=>
rt e (iv 0) a)))
theorem pn(h:L151 g a0 a1 H R):sc g 151 #[a0,a1] H R:=
  sd (.n .e (.n (.n (.n .e (.n .e (.n (.h 0 [] [1] .e .e) .e))) .e) .e)) Tryz.func151 h
def L154:Y1:=
fun a b c d=>
Br vF (
bB .u32 b fun e=>
CR d a 221 #[e] c fun e f=>
rt d e f) (
CR d a 222 #[b] c fun a b=>
rt d a b)
theorem xy(h:L154 g a0 H R):sc g 154 #[a0] H R:=
  sd .e Tryz.func154 h
def L175:Y4:=
fun a b c d e f g=>
aa .ptr .eql b (.pointer none) fun h=>
Br h (
rt g (tP (ui 0) (iv 10)) f) (
CR g a 243 #[b,c,d,e] f fun f h=>
lN f (iv 0) fun i=>
Br i (
rt g (tP (ui 0) f) h) (
CR g a 244 #[b,c,d,e] h fun f h=>
lX f fun f i=>
∀j:Jt,(∀k:Value,∀l:Hp,(∀_:Fr,
CR g a 141 #[b,k] l fun m n=>
lN m (iv 0) fun o=>
Br o (
rt g (tP (ui 0) m) n) (
rt g (tP k (iv 0)) n))→j [k] l)→
Un .not i fun i=>
Br i (
lC 0 b fun i=>
CR g a 245 #[i,(iv 1)] h fun i k=>
Un .not i fun i=>
Br i (
rt g (tP (ui 0) (iv 9)) k) (
lC 0 b fun b=>
Build Tryz.prog 226 [(0,c),(1,d),(2,e)] fun c=>
CR g a 246 #[b,c] k fun a b=>
JE j [a] b)) (
JE j [f] h)))
theorem xx(h:L175 g a0 a1 a2 a3 H R):sc g 175 #[a0,a1,a2,a3] H R:=
  sd (hN 4 (.h 1 [11] [0] .e .e)) Tryz.func175 h
def L176:Y4:=
fun a b c d e f g=>
dh f (.cells (Value.cells c) 5 (0,0)) fun c f=>
aa .ptr .eql b (.pointer none) fun h=>
Br h (
rt g (tP (ui 0) (iv 10)) f) (
Ld f (pt c) fun h=>
lG h (bi 15) fun h=>
Br h (
rt g (tP (ui 0) (iv 1)) f) (
ak Tryz.prog 194 2 [(0,d),(1,e)] f fun f h=>
CR g a 177 #[b,f] h fun b f=>
lX b fun b h=>
lN h (iv 0) fun i=>
Br i (
rt g (tP (ui 0) h) f) (
Build Tryz.prog 236 [(0,d),(1,e)] fun d=>
CR g a 178 #[b,d,(.func (.func 247) #[] #[(pt c)])] f fun a b=>
lX a fun a c=>
rt g (tP a c) b)))
theorem xw(h:L176 g a0 a1 a2 a3 H R):sc g 176 #[a0,a1,a2,a3] H R:=
  sd .e Tryz.func176 h
def L177:Y2:=
fun a b c d e=>
aa .ptr .eql b (.pointer none) fun f=>
Br f (
rt e (tP (.pointer none) (iv 10)) d) (
aM c fun f=>
∃(g:Jt) (h:Mt),JE g [(iv 0)] d∧∀d:Value,∀i:Hp,g [d] i→∀_:Fr,
lL d f fun f=>
Br f (
lI 1 c d i fun c=>
CR e a 249 #[b,c] i fun c f=>
lX c fun c j=>
lQ 3 f #[(iv 0),(ui 0),(ui 0)] 226 c fun _ c=>
lN j (iv 0) fun f=>
Br f (
rt e (tP (.pointer none) j) c) (
lA d (iv 1) fun f=>
aB g h [f] c [d] i)) (
CR e a 185 #[b] i fun c d=>
eJ 3 1 8 (iv 0) d c c fun c d=>
Build Tryz.prog 305 [(0,b),(1,c)] fun c=>
dh d (.cells (Value.cells c) 305 (0,0)) fun c d=>
CR e a 65 #[b] d fun a b=>
aM a fun d=>
∃(f:Jt) (g:Mt),JE f [(iv 0)] b∧∀b:Value,∀h:Hp,f [b] h→∀_:Fr,
lL b d fun d=>
Br d (
lI 1 a b h fun a=>
lM 1 (pt c) h fun d=>
ai 1 d a fun a=>
St 1 h a b fun a=>
lA b (iv 1) fun d=>
aB f g [d] a [b] h) (
rt e (tP (pt c) (iv 0)) h)))
theorem xu(h:L177 g a0 a1 H R):sc g 177 #[a0,a1] H R:=
  sd (.n .e (.n .e (.n (.n .e (.n (.h 0 [17] [0,15,16] .e .e) .e)) (.n .e (.n (.n .e (.n (.h 0 [40] [10,38,39] .e .e) .e)) .e))))) Tryz.func177 h
def L178:Y3:=
fun a b c d e f=>
dh e (.cells (Value.cells b) 231 (0,0)) fun b e=>
dh e (.cells (Value.cells c) 236 (0,0)) fun c e=>
dh e (.cells (Value.cells d) 237 (0,0)) fun d e=>
lW e #[(ui 0)] 110 fun e g=>
lW g #[(iv 0)] 27 fun g h=>
j4 h fun h i=>
lQ 1 i #[(.map none)] 307 h fun h i=>
lW i #[.nilFunc] 308 fun i j=>
St 1 j (pt i) (.func (.func 252) #[] #[(pt h),(pt b),(pt d),(pt i)]) fun d=>
Ld d (pt i) fun h=>
ay 3 d (pt c) fun c=>
bg Tryz.prog a h #[c] d (fun c d=>
lX c fun c h=>
St 1 d (pt e) c fun c=>
St 1 c (pt g) h fun c=>
Je Tryz.prog a 250 #[(pt b),(pt e),(pt g)] c fun a=>
Ld a (pt e) fun b=>
Ld a (pt g) fun c=>
rt f (tP b c) a) SP
theorem xq(h:L178 g a0 a1 a2 H R):sc g 178 #[a0,a1,a2] H R:=
 HJ (hn:=(.n .e (.n .e .e))) Tryz.func178 h (by kernel_rfl)
def L185:Y1:=
fun _ a b c=>
aa .ptr .eql a (.pointer none) fun d=>
Br d (
rt c (iv 0) b) (
lM 4 a b fun a=>
rt c a b)
theorem xp(h:L185 g a0 H R):sc g 185 #[a0] H R:=
  sd .e Tryz.func185 h
def L186:Y2:=
fun _ a b c d=>
aa .ptr .eql a (.pointer none) fun a=>
Br a (
rt d (iv 10) c) (
lL b (iv 100) fun a=>
lO a (fun a=>
lG b (iv 1000) fun b=>
(lV c b a)) fun a=>
Br (Value.bool a) (
rt d (iv 1) c) (
rt d (iv 0) c))
theorem xm(h:L186 g a0 a1 H R):sc g 186 #[a0,a1] H R:=
  sd (.n .e (.n (.n (.n .e (.n .e (.n (.h 0 [] [1] .e .e) .e))) .e) .e)) Tryz.func186 h
def L187:Y1:=
fun a b c d=>
aa .ptr .eql b (.pointer none) fun e=>
Br e (
rt d (.slice none 0 0) c) (
CR d a 261 #[] c fun c e=>
CR d a 185 #[b] e fun e f=>
∃(g:Jt) (h:Mt),JE g [(iv 0)] f∧∀f:Value,∀i:Hp,g [f] i→∀_:Fr,
lL f e fun e=>
Br e (
CR d a 262 #[b,f] i fun b e=>
lX b fun b _=>
Un .neg b fun b=>
CR d a 263 #[c,f,b] e fun _ b=>
lA f (iv 1) fun e=>
aB g h [e] b [f] i) (
∃(b:Jt) (e:Mt),JE b [(.slice none 0 0)] i∧∀f:Value,∀g:Hp,b [f] g→∀_:Fr,
CR d a 264 #[c] g fun h i=>
lG h (iv 0) fun h=>
Br h (
CR d a 265 #[c] i fun a c=>
lX a fun h _=>
Ext 2 a fun _=>
ak Tryz.prog 43 1 [(0,h)] c fun a c=>
App Tryz.prog 3 1 8 (iv 0) c f a fun a c=>
aB b e [a] c [f] g) (
rt d f i)))
theorem xl(h:L187 g a0 H R):sc g 187 #[a0] H R:=
  sd (hN 3 (.n (.n .e (.n (.h 0 [16] [0,3,15] .e .e) .e)) (.n .e (.n (.n (.h 0 [7] [3] .e .e) .e) .e)))) Tryz.func187 h
def L188:Y3:=
fun a b c d e f=>
lW e #[(iv 0),(iv 0),(iv 0),vF] 147 fun e g=>
CR f a 186 #[b,d] g fun g h=>
lN g (iv 0) fun i=>
Br i (
Build Tryz.prog 147 [] fun i=>
St 4 h (pt e) i fun i=>
ay 4 i (pt e) fun j=>
rt f (tP j g) i) (
CR f a 150 #[b,c] h fun c g=>
lX c fun c h=>
lN h (iv 0) fun i=>
Br i (
Build Tryz.prog 147 [] fun i=>
St 4 g (pt e) i fun i=>
ay 4 i (pt e) fun j=>
rt f (tP j h) i) (
CR f a 140 #[b] g fun g h=>
Build Tryz.prog 147 [(0,g)] fun g=>
lQ 4 h #[(iv 0),(iv 0),(iv 0),vF] 147 g fun g h=>
lD 0 (pt g) h fun i=>
Build Tryz.prog 324 [(0,b),(1,c),(2,i),(3,c),(4,d)] fun d=>
dh h (.cells (Value.cells d) 324 (0,0)) fun d h=>
CR f a 185 #[b] h fun h i=>
lS h (iv 1) fun h=>
lS h c fun h=>
aa .num .leq h c fun h=>
CR f a 266 #[(pt d),h] i fun _ i=>
CR f a 267 #[(pt d)] i fun _ i=>
CR f a 268 #[(pt d),c] i fun _ i=>
lM 3 (pt d) i fun j=>
Un .not h fun k=>
CR f a 266 #[(pt d),k] i fun _ i=>
CR f a 267 #[(pt d)] i fun _ i=>
∀k:Jt,(∀l:Hp,(∀_:Fr,
DR l fun m=>
lM 5 (pt d) m fun n=>
∀o:Hp,
CN (a.add o) 140 #[b] l fun b o=>
aR o m∧
ag 1 (pt g) fun p=>
∀_:Hp,
St 1 o p b fun b=>
aR b m∧
ag 2 (pt g) fun m=>
∀_:Hp,
St 1 b m n fun b=>
ay 4 b (pt g) fun g=>
St 4 b (pt e) g fun b=>
ay 4 b (pt e) fun e=>
rt f (tP e (iv 0)) b)→k [] l)→
lM 3 (pt d) i fun b=>
lN b j fun b=>
Br b (
lM 3 (pt d) i fun b=>
CR f a 268 #[(pt d),b] i fun _ b=>
JE k [] b) (
CR f a 268 #[(pt d),c] i fun _ b=>
CR f a 266 #[(pt d),h] b fun _ b=>
∃(c:Jt) (e:Mt),JE c [] b∧∀b:Hp,c [] b→∀_:Fr,
∀f:Jt,(∀g:Value,∀h:Hp,(∀_:Fr,
Br g (
aB c e [] h [] b) (
JE k [] h))→f [g] h)→
DR b fun c=>
lM 1 (pt d) c fun e=>
lM 3 (pt d) c fun g=>
lN e g fun e=>
Br e (
lM 7 (pt d) c fun c=>
∀d:Hp,
bg Tryz.prog (a.add d) c #[] b (fun a c=>
lE a (iv 0) fun a=>
aq vT a vF fun a=>
JE f [a] c) tL) (
JE f [vF] b))))
theorem xk(h:L188 g a0 a1 a2 H R):sc g 188 #[a0,a1,a2] H R:=
  sd (hN 13 (.h 1 [] [0,6,11,12] (hN 4 (.n (.h 0 [] [0,6,11,12] (.n (.h 1 [102] [0,6,11,12] (.h 1 [] [] (hr 0 [1] 0 9 (.h 2 [9] [] (hr 0 [1] 10 7 .e) (hr 0 [1] 10 6 (.h 3 [16] [1] .e .e)))) .e) .e) .e) .e) .e)) (.n (.h 1 [] [] (.h 0 [0] [1] (hr 0 [1] 2 4 (.h 0 [1] [1] (hr 0 [1] 6 4 .e) .e)) .e) .e) .e))) Tryz.func188 h
variable {g:Gh} {a0 a1 a2 a3 a4 a5 a6 a7 a8 a9 nC nB LO LN LM LL:Value} {H:Hp} {R:Rt}
def L196:Y1:=
fun _ a b c=>
aa .ptr .eql a (.pointer none) fun d=>
Br d (
rt c (iv 0) b) (
lM 3 a b fun a=>
rt c a b)
theorem xj(h:L196 g a0 H R):sc g 196 #[a0] H R:=
  sd .e Tryz.func196 h
def L197:Y2:=
fun a b c d e=>
lM 0 b d fun b=>
CR e a 286 #[b,c] d fun a b=>
lX a fun a c=>
lQ 3 b #[(iv 0),(ui 0),(ui 0)] 226 a fun _ a=>
lE c (iv 0) fun b=>
rt e b a
theorem xh(h:L197 g a0 a1 H R):sc g 197 #[a0,a1] H R:=
  sd .e Tryz.func197 h
def L198:Y2:=
fun _ a b c d=>
aa .ptr .eql a (.pointer none) fun e=>
lO e (fun e=>
bB .i64 b fun f=>
lC 0 a fun g=>
ag 3 g fun g=>
Ld c g fun g=>
aM g fun g=>
aa .num .geq f g fun f=>
(lV c f e)) fun e=>
Br (Value.bool e) (
rt d (iv 0) c) (
lC 0 a fun a=>
ag 3 a fun a=>
Ld c a fun a=>
lI 1 a b c fun a=>
bB .i64 a fun a=>
rt d a c)
theorem xg(h:L198 g a0 a1 H R):sc g 198 #[a0,a1] H R:=
  sd (.n .e (.n (.n (.h 0 [] [1] .e .e) .e) .e)) Tryz.func198 h
def L199:Y2:=
fun a b c d e=>
ak Tryz.prog 194 1 [(0,c)] d fun c d=>
∃(f:Jt) (g:Mt),JE f [c] d∧∀c:Value,∀d:Hp,f [c] d→∀_:Fr,
aM c fun h=>
lG h (iv 0) fun h=>
Br h (
aM c fun h=>
lS h (iv 1) fun h=>
lI 1 c h d fun i=>
dA 1 c none (some h) fun h=>
aa .num .leq i (ui 1) fun j=>
Br j (
aB f g [h] d [c] d) (
lM 2 b d fun j=>
lI 1 j i d fun k=>
lS k (Value.int .i32 1) fun k=>
ai 1 j i fun j=>
St 1 d j k fun j=>
lM 2 b j fun k=>
lI 1 k i j fun k=>
lG k (Value.int .i32 0) fun k=>
Br k (
aB f g [h] j [c] d) (
CR e a 287 #[b,i] j fun j k=>
lQ 3 k #[(iv 0),(ui 0),(ui 0)] 226 j fun j k=>
DR k fun l=>
lM 1 b l fun m=>
ay 3 l (pt j) fun l=>
CN a 288 #[m,l] k fun _ k=>
lM 0 b k fun b=>
CR e a 289 #[b,i] k fun _ a=>
lD 1 (pt j) a fun b=>
lD 2 (pt j) a fun i=>
ak Tryz.prog 194 2 [(0,b),(1,i)] a fun a b=>
App Tryz.prog 110 1 4 (ui 0) b h a fun a b=>
aB f g [a] b [c] d))) (
rt e (.tuple #[]) d)
theorem xf(h:L199 g a0 a1 H R):sc g 199 #[a0,a1] H R:=
  sd (.n .e (.n (.h 0 [4] [0] (.n .e (.n (hN 6 (.n (.h 0 [0,1,2,3,4,5] [] .e .e) .e)) .e)) .e) .e)) Tryz.func199 h
def L200:Y2:=
fun a b c d e=>
aa .ptr .eql b (.pointer none) fun f=>
Br f (
rt e (iv 10) d) (
aM c fun f=>
∃(g:Jt) (h:Mt),JE g [(iv 0)] d∧∀d:Value,∀i:Hp,g [d] i→∀_:Fr,
lL d f fun f=>
Br f (
lI 1 c d i fun c=>
CR e a 249 #[b,c] i fun a b=>
lX a fun a c=>
lQ 3 b #[(iv 0),(ui 0),(ui 0)] 226 a fun _ a=>
lN c (iv 0) fun b=>
Br b (
rt e c a) (
lA d (iv 1) fun b=>
aB g h [b] a [d] i)) (
rt e (iv 0) i))
theorem xe(h:L200 g a0 a1 H R):sc g 200 #[a0,a1] H R:=
  sd (.n .e (.n .e (.n (.n .e (.n (.h 0 [13] [0,11,12] .e .e) .e)) .e))) Tryz.func200 h
def L201:Y1:=
fun _ a b c=>
lE a (ui 0) fun d=>
lO d (fun d=>
lE a (ui 1) fun a=>
(lV b a d)) fun d=>
rt c (Value.bool d) b
theorem xd(h:L201 g a0 H R):sc g 201 #[a0] H R:=
  sd (.n .e (.n (.h 0 [] [1] .e .e) .e)) Tryz.func201 h
def L202:Y2:=
fun a b c d e=>
lW d #[(iv 0),(ui 0),(ui 0)] 226 fun d f=>
CR e a 249 #[b,c] f fun a b=>
lX a fun a _=>
lQ 3 b #[(iv 0),(ui 0),(ui 0)] 226 a fun a b=>
ay 3 b (pt a) fun a=>
St 3 b (pt d) a fun a=>
ay 3 a (pt d) fun b=>
rt e b a
theorem wZ(h:L202 g a0 a1 H R):sc g 202 #[a0,a1] H R:=
  sd .e Tryz.func202 h
def L203:Y2:=
fun a b c d e=>
CR e a 201 #[b] d fun d f=>
Br d (
Ld f c fun d=>
CR e a 185 #[d] f fun d g=>
rt e d g) (
DR f fun d=>
Ld d c fun g=>
Ld d c fun c=>
∀h:Hp,
CN (a.add h) 202 #[c,b] f fun b c=>
aR c d∧
A7 0 b fun b=>
∀f:Hp,
CN (a.add f) 150 #[g,b] c fun a b=>
aR b d∧
lX a fun a _=>
rt e a b)
theorem wY(h:L203 g a0 a1 H R):sc g 203 #[a0,a1] H R:=
  sd (.n .e (.n .e (.n (.h 1 [] [] (hr 0 [1] 0 11 .e) .e) .e))) Tryz.func203 h
def L204:Y5:=
fun a b c d e f g h=>
dh g (.cells (Value.cells b) 85 (0,0)) fun b g=>
dh g (.cells (Value.cells f) 265 (0,0)) fun f g=>
j4 g fun g i=>
aY (.int .u32) i g (ui 0) d fun d=>
aY (.int .u32) d g (ui 1) e fun d=>
lQ 1 d #[(.map none)] 349 g fun d e=>
lW e #[.nilFunc] 350 fun e g=>
St 1 g (pt e) (.func (.func 290) #[] #[(pt d),(pt b),(pt f),(pt e)]) fun b=>
Ld b (pt e) fun d=>
bg Tryz.prog a d #[c] b (fun a b=>
rt h a b) (kG h)
theorem wX(h:L204 g a0 a1 a2 a3 a4 H R):sc g 204 #[a0,a1,a2,a3,a4] H R:=
  sd .e Tryz.func204 h
def L205:Y5:=
fun a b c d e f g h=>
dh g (.cells (Value.cells b) 226 (0,0)) fun b g=>
Ld g e fun e=>
lD 0 (pt b) g fun i=>
CR h a 150 #[e,i] g fun e g=>
lX e fun e _=>
DR g fun i=>
Ld i f fun j=>
lD 1 (pt b) i fun k=>
Ld i f fun f=>
lD 2 (pt b) i fun b=>
∀l:Hp,
bg Tryz.prog (a.add l) j #[k] g (fun g j=>
aR j i∧
lS g e fun g=>
lS g (iv 1) fun g=>
aa .num .shl c g fun c=>
∀g:Hp,
bg Tryz.prog (a.add g) f #[b] j (fun a b=>
lS a e fun a=>
lS a (iv 1) fun a=>
aa .num .shl d a fun a=>
lA c a fun a=>
rt h a b) tL) tL
theorem wW(h:L205 g a0 a1 a2 a3 a4 H R):sc g 205 #[a0,a1,a2,a3,a4] H R:=
  sd (.n .e (.n .e (.n (.h 1 [] [] (hr 0 [1] 0 4 (.h 0 [5] [1] (hr 0 [1] 9 4 (.h 0 [14] [1] (.h 0 [4] [1] (hr 0 [1] 6 3 (.h 0 [13] [1] (hr 0 [1] 15 5 .e) .e)) .e) .e)) .e)) .e) .e))) Tryz.func205 h
def L206:Y3:=
fun a b c d e f=>
dh e (.cells (Value.cells b) 85 (0,0)) fun b e=>
dh e (.cells (Value.cells d) 267 (0,0)) fun d e=>
j4 e fun e g=>
lQ 1 g #[(.map none)] 351 e fun e g=>
lW g #[.nilFunc] 261 fun g h=>
St 1 h (pt g) (.func (.func 291) #[] #[(pt e),(pt b),(pt d),(pt g)]) fun b=>
aM c fun d=>
∃(e:Jt) (h:Mt),JE e [(iv 0)] b∧∀b:Value,∀i:Hp,e [b] i→∀_:Fr,
lL b d fun d=>
Br d (
lI 1 c b i fun c=>
Ld i (pt g) fun d=>
bg Tryz.prog a d #[c] i (fun _ a=>
lA b (iv 1) fun c=>
aB e h [c] a [b] i) (kG f)) (
rt f (.tuple #[]) i)
theorem wV(h:L206 g a0 a1 a2 H R):sc g 206 #[a0,a1,a2] H R:=
  sd (hN 5 (.n (.h 0 [14] [7,12,13] .e .e) .e)) Tryz.func206 h
def L208:Y3:=
fun a b c d e f=>
CR f a 292 #[b,c] e fun e g=>
lN e (iv 0) fun h=>
Br h (
rt f (tP (wi 0) e) g) (
CR f a 293 #[b,c] g fun b c=>
CR f a 294 #[b] c fun c e=>
CR f a 295 #[c,d] e fun c e=>
Un .not c fun c=>
Br c (
rt f (tP (wi 0) (iv 10)) e) (
lM 0 b e fun c=>
lS c (iv 1) fun c=>
∃(g:Jt) (h:Mt),JE g [d,c] e∧∀c d:Value,∀e:Hp,g [c,d] e→∀_:Fr,
aa .num .geq d (iv 0) fun i=>
Br i (
∀i:Jt,(∀j:Value,∀k:Hp,(∀_:Fr,
lS d (iv 1) fun l=>
aB g h [j,l] k [c,d] e)→i [j] k)→
CR f a 296 #[b,d,(wi 0)] e fun _ g=>
CR f a 294 #[b] g fun g h=>
lQ 2 h #[(wi 0),vF] 356 g fun g h=>
ay 2 h (pt g) fun j=>
CR f a 295 #[j,c] h fun h j=>
Un .not h fun h=>
Br h (
lD 0 (pt g) j fun g=>
lS c g fun g=>
CR f a 296 #[b,d,(wi 1)] j fun _ a=>
JE i [g] a) (
JE i [c] j)) (
lM 5 b e fun a=>
rt f (tP a (iv 0)) e)))
theorem wU(h:L208 g a0 a1 a2 H R):sc g 208 #[a0,a1,a2] H R:=
  sd (hN 4 (.n (.n .e (.n (.h 0 [2,10] [9] (.n .e (.h 1 [2] [9,10] .e .e)) .e) .e)) .e)) Tryz.func208 h
def L209:Y2:=
fun _ a b c d=>
dh c (.cells (Value.cells a) 226 (0,0)) fun a c=>
DR c fun e=>
Ld e b fun f=>
lD 0 (pt a) e fun a=>
aa .num .shl (wi 1) a fun a=>
aa .num .or f a fun a=>
∀_:Hp,
St 1 c b a fun a=>
rt d (.tuple #[]) a
theorem wT(h:L209 g a0 a1 H R):sc g 209 #[a0,a1] H R:=
  sd (.n .e (.h 1 [] [] (hr 0 [1] 0 6 .e) .e)) Tryz.func209 h
def L210:Y2:=
fun _ a b c d=>
aa .num .geq b (iv 0) fun e=>
lU e (fun e=>
lM 4 a c fun a=>
lL b a fun a=>
(lV c a e)) fun e=>
rt d (Value.bool e) c
theorem wS(h:L210 g a0 a1 H R):sc g 210 #[a0,a1] H R:=
  sd (.n .e (.n (.h 0 [] [1] .e .e) .e)) Tryz.func210 h
def L211:Y2:=
fun a b c d e=>
lM 5 b d fun f=>
lI 1 f c d fun f=>
lM 5 b d fun g=>
lA c (iv 1) fun h=>
lI 1 g h d fun g=>
CR e a 297 #[b,f,g] d fun d h=>
DR h fun _=>
lC 0 b fun i=>
CN a 298 #[b,f,d] h fun h j=>
CN a 245 #[i,h] j fun h i=>
Un .not h fun h=>
Br h (
rt e vF i) (
aM d fun h=>
∃(j:Jt) (k:Mt),JE j [(iv 0)] i∧∀i:Value,∀l:Hp,j [i] l→∀_:Fr,
lL i h fun h=>
Br h (
ai 8 d i fun h=>
ay 8 l h fun h=>
lQ 8 l #[(ui 0),(iv 0),(ui 0),(ui 0),(ui 0),(ui 0),(ui 0),(ui 0)] 367 h fun h m=>
DR m fun n=>
lC 0 b fun o=>
ag 1 o fun o=>
Ld n o fun o=>
ag 1 (pt h) fun h=>
ay 3 n h fun h=>
CN a 288 #[o,h] m fun _ h=>
lA i (iv 1) fun m=>
aB j k [m] h [i] l) (
aM d fun h=>
∃(i:Jt) (j:Mt),JE i [(iv 0)] l∧∀k:Value,∀l:Hp,i [k] l→∀_:Fr,
lL k h fun h=>
Br h (
ai 8 d k fun h=>
ay 8 l h fun h=>
lQ 8 l #[(ui 0),(iv 0),(ui 0),(ui 0),(ui 0),(ui 0),(ui 0),(ui 0)] 367 h fun h m=>
DR m fun n=>
lC 0 b fun o=>
lD 4 (pt h) n fun p=>
lD 6 (pt h) n fun n=>
CN a 299 #[o,f,p,n] m fun m n=>
lC 0 b fun o=>
CR e a 300 #[o,m] n fun _ n=>
DR n fun o=>
lC 0 b fun p=>
lD 5 (pt h) o fun q=>
lD 7 (pt h) o fun o=>
CN a 299 #[p,f,q,o] n fun n o=>
lC 0 b fun p=>
CR e a 300 #[p,n] o fun _ o=>
Build Tryz.prog 226 [(0,g),(1,m),(2,n)] fun m=>
lQ 3 o #[(iv 0),(ui 0),(ui 0)] 226 m fun m n=>
DR n fun o=>
lC 0 b fun p=>
ag 0 p fun p=>
Ld o p fun p=>
lD 0 (pt h) o fun q=>
ay 3 o (pt m) fun o=>
CN a 301 #[p,q,o] n fun _ n=>
DR n fun o=>
lC 0 b fun p=>
ag 1 p fun p=>
Ld o p fun p=>
ay 3 o (pt m) fun m=>
lD 0 (pt h) o fun h=>
CN a 302 #[p,m,h] n fun _ h=>
lA k (iv 1) fun m=>
aB i j [m] h [k] l) (
aM d fun h=>
∃(i:Jt) (j:Mt),JE i [(iv 0)] l∧∀k:Value,∀l:Hp,i [k] l→∀_:Fr,
lL k h fun h=>
Br h (
ai 8 d k fun d=>
ay 8 l d fun d=>
lQ 8 l #[(ui 0),(iv 0),(ui 0),(ui 0),(ui 0),(ui 0),(ui 0),(ui 0)] 367 d fun d h=>
DR h fun m=>
lC 0 b fun n=>
ag 1 (pt d) fun o=>
ag 1 o fun o=>
Ld m o fun m=>
CN a 199 #[n,m] h fun _ h=>
DR h fun m=>
lC 0 b fun n=>
ag 1 (pt d) fun d=>
ag 2 d fun d=>
Ld m d fun d=>
CN a 199 #[n,d] h fun _ a=>
lA k (iv 1) fun d=>
aB i j [d] a [k] l) (
DR l fun a=>
lM 5 b a fun d=>
lM 5 b a fun a=>
lA c (iv 1) fun h=>
ai 1 d c fun d=>
St 1 l d g fun d=>
ai 1 a h fun a=>
St 1 d a f fun a=>
DR a fun d=>
lM 6 b d fun h=>
lM 6 b d fun b=>
lA c (iv 1) fun d=>
ai 1 h f fun f=>
St 1 a f d fun a=>
ai 1 b g fun b=>
St 1 a b c fun a=>
rt e vT a))))
theorem wR(h:L211 g a0 a1 H R):sc g 211 #[a0,a1] H R:=
  sd (hN 3 (.n (.n (.h 0 [0,1,2,3,4,5,6,7,8] [] .e .e) .e) (.n (.n .e (.n (.h 0 [47] [0,1,5,6,7,45,46] (.n .e (.n .e (.n (.n (.n .e (.h 0 [0,1,2,3,4,5,6,7] [] .e .e)) .e) .e))) .e) .e)) (.n (.n .e (.n (.h 0 [62] [0,1,5,6,7,60,61] (.n .e (.n .e (.n (.n (.n .e (.n (.h 0 [0,1,2,3,4,5,6,7,8,9] [] .e .e) (.n .e (.n (.h 0 [0,1,2,3,4,5,6,7,8,9] [] .e .e) (.n .e (.n .e (.n (.h 0 [0,1,2,3,4,5,6,7,8] [] .e .e) (.h 0 [0,1,2,3,4,5,6,7,8] [] .e .e)))))))) .e) .e))) .e) .e)) (.n (.n .e (.n (.h 0 [119] [0,1,5,6,117,118] (.n .e (.n .e (.n (.n (.n .e (.n (.h 0 [0,1,2,3,4,5,6] [] .e .e) (.h 0 [0,1,2,3,4,5,6] [] .e .e))) .e) .e))) .e) .e)) (.n (.h 0 [0,1,2,3,4,5,6,7,8,9,10,11,12,13,14,15,16] [] .e .e) (.n (.h 0 [0,1,2,3,4,5,6,7,8,9,10,11,12,13,14,15,16] [] .e .e) .e))))))) Tryz.func211 h
def L222:Y1:=
fun _ a b c=>
∀d:Jt,(∀e f:Value,∀g:Hp,(∀_:Fr,
∀h:Jt,(∀i j:Value,∀k:Hp,(∀_:Fr,
∀l:Jt,(∀m n:Value,∀o:Hp,(∀_:Fr,
bB .u8 m fun p=>
Hu (.string (ByteArray.mk #[0,1,2,2,3,3,3,3,4,4,4,4,4,4,4,4,5,5,5,5,5,5,5,5,5,5,5,5,5,5,5,5,6,6,6,6,6,6,6,6,6,6,6,6,6,6,6,6,6,6,6,6,6,6,6,6,6,6,6,6,6,6,6,6,7,7,7,7,7,7,7,7,7,7,7,7,7,7,7,7,7,7,7,7,7,7,7,7,7,7,7,7,7,7,7,7,7,7,7,7,7,7,7,7,7,7,7,7,7,7,7,7,7,7,7,7,7,7,7,7,7,7,7,7,7,7,7,7,8,8,8,8,8,8,8,8,8,8,8,8,8,8,8,8,8,8,8,8,8,8,8,8,8,8,8,8,8,8,8,8,8,8,8,8,8,8,8,8,8,8,8,8,8,8,8,8,8,8,8,8,8,8,8,8,8,8,8,8,8,8,8,8,8,8,8,8,8,8,8,8,8,8,8,8,8,8,8,8,8,8,8,8,8,8,8,8,8,8,8,8,8,8,8,8,8,8,8,8,8,8,8,8,8,8,8,8,8,8,8,8,8,8,8,8,8,8,8,8,8,8,8,8,8,8,8,8])) p fun p=>
bB .i64 p fun p=>
lA n p fun p=>
rt c p o)→l [m,n] o)→
aa .num .geq i (wi 256) fun c=>
Br c (
aa .num .shr i (wi 8) fun c=>
lA j (iv 8) fun m=>
JE l [c,m] k) (
JE l [i,j] k))→h [i,j] k)→
aa .num .geq e (wi 65536) fun c=>
Br c (
aa .num .shr e (wi 16) fun c=>
lA f (iv 16) fun i=>
JE h [c,i] g) (
JE h [e,f] g))→d [e,f] g)→
aa .num .geq a (wi 4294967296) fun c=>
Br c (
aa .num .shr a (wi 32) fun c=>
JE d [c,(iv 32)] b) (
JE d [a,(iv 0)] b)
theorem wQ(h:L222 g a0 H R):sc g 222 #[a0] H R:=
  sd (.n .e (.h 1 [0,2] [] .e (.h 1 [0,2] [] .e (.h 1 [0,2] [] .e .e)))) Tryz.func222 h
def L243:Y4:=
fun a b c d e f g=>
CR g a 210 #[b,c] f fun f h=>
Un .not f fun f=>
Br f (
rt g (iv 2) h) (
∀f:Jt,(∀i:Value,∀j:Hp,(∀_:Fr,
Br i (
rt g (iv 3) j) (
∀k:Jt,(∀l:Value,∀m:Hp,(∀_:Fr,
Br l (
rt g (iv 4) m) (
rt g (iv 0) m))→k [l] m)→
DR j fun l=>
lN d e fun m=>
Br m (
lM 6 b l fun m=>
lI 1 m c l fun c=>
∀m:Hp,
CN (a.add m) 319 #[b,d] j fun m n=>
aR n l∧
∀o:Hp,
CN (a.add o) 319 #[b,e] n fun n o=>
aR o l∧
LV m n fun l=>
aa .num .geq c l fun c=>
aq vT c vF fun c=>
JE k [c] o) (
JE k [vF] j)))→f [i] j)→
lC 0 b fun c=>
CR g a 197 #[c,d] h fun c d=>
Un .not c fun c=>
Split c false (
lC 0 b fun b=>
CR g a 197 #[b,e] d fun a b=>
Un .not a fun a=>
aq vF vT a fun a=>
JE f [a] b) (
aq vT vT undef fun a=>
JE f [a] d))
theorem wP(h:L243 g a0 a1 a2 a3 H R):sc g 243 #[a0,a1,a2,a3] H R:=
  sd (.n .e (.n (.n (.n .e (.n .e (.h 1 [14] [0,1,2,3] .e (.n .e (.h 1 [29] [] (.h 1 [] [] (hr 0 [] 0 3 (.h 2 [3] [] (hr 0 [] 4 9 (hr 0 [] 14 2 (.h 0 [13] [] (hr 0 [] 16 5 .e) .e))) (hr 0 [] 4 15 (hr 3 [] 19 2 .e)))) .e) .e))))) .e) .e)) Tryz.func243 h
def L244:Y4:=
fun a b c d e f g=>
lE d e fun h=>
Br h (
rt g (tP d vT) f) (
lC 0 b fun b=>
ag 1 b fun b=>
Ld f b fun b=>
Build Tryz.prog 226 [(0,c),(1,d),(2,e)] fun c=>
CR g a 320 #[b,c] f fun a b=>
lX a fun a c=>
rt g (tP a c) b)
theorem wO(h:L244 g a0 a1 a2 a3 H R):sc g 244 #[a0,a1,a2,a3] H R:=
  sd .e Tryz.func244 h
def L245:Y2:=
fun a b c d e=>
DR d fun f=>
lM 0 b f fun g=>
lM 0 b f fun b=>
CN a 196 #[g] d fun d g=>
aR g f∧
lA d c fun c=>
CN a 321 #[b] g fun a b=>
aR b f∧
aa .num .leq c a fun a=>
rt e a b
theorem wM(h:L245 g a0 a1 H R):sc g 245 #[a0,a1] H R:=
  sd (.n .e (.n (.h 0 [0,1,2,3,5,7,8,9,10,4,6,11,12,13] [] .e .e) .e)) Tryz.func245 h
def L246:Y2:=
fun a b c d e=>
dh d (.cells (Value.cells c) 226 (0,0)) fun c d=>
DR d fun f=>
lM 0 b f fun g=>
ay 3 f (pt c) fun h=>
CN a 322 #[g,h] d fun d g=>
aR g f∧
lX d fun d _=>
∃(f:Jt) (h:Mt),JE f [] g∧∀g:Hp,f [] g→∀_:Fr,
bB .i64 d fun i=>
lM 2 b g fun j=>
aM j fun j=>
aa .num .geq i j fun i=>
Br i (
lM 2 b g fun i=>
ak Tryz.prog 135 1 [(0,(Value.int .i32 0))] g fun j k=>
App Tryz.prog 21 1 4 (Value.int .i32 0) k i j fun i j=>
lC 2 b fun k=>
St 1 j k i fun i=>
lM 3 b i fun j=>
ak Tryz.prog 135 1 [(0,(Value.int .i32 0))] i fun i k=>
App Tryz.prog 21 1 4 (Value.int .i32 0) k j i fun i j=>
lC 3 b fun k=>
St 1 j k i fun i=>
aB f h [] i [] g) (
DR g fun f=>
lM 2 b f fun h=>
lM 3 b f fun f=>
ai 1 h d fun h=>
St 1 g h (Value.int .i32 0) fun g=>
ai 1 f d fun f=>
St 1 g f (Value.int .i32 0) fun f=>
lD 1 (pt c) f fun g=>
CR e a 300 #[b,g] f fun _ f=>
lD 2 (pt c) f fun g=>
CR e a 300 #[b,g] f fun _ f=>
DR f fun g=>
lM 1 b g fun b=>
ay 3 g (pt c) fun c=>
CN a 302 #[b,c,d] f fun _ a=>
rt e d a)
theorem wL(h:L246 g a0 a1 H R):sc g 246 #[a0,a1] H R:=
  sd (.n .e (.n (.h 0 [0,1,2,3,4,5,6,7,8,9,10] [] .e .e) (.n (.n (.h 0 [] [0,3,5] .e .e) .e) (.n (.h 0 [0,1,2,3,4,5,6,7,8,9,10,11,12,13] [] .e .e) (.n .e (.n .e (.n (.h 0 [0,1,2,3,4,5,6] [] .e .e) .e))))))) Tryz.func246 h
def L247:Y4:=
fun a b c _ d e f=>
DR e fun g=>
Ld g d fun d=>
CN a 248 #[b] e fun b e=>
aR e g∧
aa .num .mul (bi 2) b fun b=>
CN a 248 #[c] e fun a c=>
aR c g∧
lA b a fun a=>
aa .num .shr d a fun a=>
aa .num .and a (bi 1) fun a=>
lE a (bi 1) fun a=>
rt f a c
theorem wK(h:L247 g a0 a1 a2 a3 H R):sc g 247 #[a0,a1,a2,a3] H R:=
  sd (.n .e (.n (.h 0 [0,1,4,2,3,5,6,7,8,9,10] [] .e .e) .e)) Tryz.func247 h
def L248:Y1:=
fun _ a b c=>
Br a (
rt c (bi 1) b) (
rt c (bi 0) b)
theorem wJ(h:L248 g a0 H R):sc g 248 #[a0] H R:=
  sd .e Tryz.func248 h
def L249:Y2:=
fun a b c d e=>
lW d #[(iv 0),(ui 0),(ui 0)] 226 fun d f=>
aa .ptr .eql b (.pointer none) fun g=>
Br g (
Build Tryz.prog 226 [] fun g=>
St 3 f (pt d) g fun g=>
ay 3 g (pt d) fun h=>
rt e (tP h (iv 10)) g) (
lC 0 b fun g=>
CR e a 197 #[g,c] f fun f g=>
Un .not f fun f=>
Br f (
Build Tryz.prog 226 [] fun f=>
St 3 g (pt d) f fun f=>
ay 3 f (pt d) fun h=>
rt e (tP h (iv 3)) f) (
lC 0 b fun b=>
CR e a 287 #[b,c] g fun a b=>
St 3 b (pt d) a fun a=>
ay 3 a (pt d) fun b=>
rt e (tP b (iv 0)) a))
theorem wI(h:L249 g a0 a1 H R):sc g 249 #[a0,a1] H R:=
  sd .e Tryz.func249 h
def L250:Y3:=
fun a b c d e f=>
Ld e b fun b=>
Ld e c fun g=>
Ld e d fun h=>
CR f a 251 #[b,g,h] e fun a b=>
lX a fun a e=>
St 1 b c a fun a=>
St 1 a d e fun a=>
rt f (.tuple #[]) a
theorem tM(h:L250 g a0 a1 a2 H R):nN Tryz.prog g 250 #[a0,a1,a2] H R:=
 HL (hn:=.e) Tryz.func250 h (by kernel_rfl)
def L251:Y3:=
fun a b c d e f=>
lE c (ui 0) fun g=>
lO g (fun g=>
lE c (ui 1) fun h=>
(lV e h g)) fun g=>
lM 2 b e fun h=>
aM h fun i=>
∃(j:Jt) (k:Mt),JE j [(Value.bool g),(iv 0)] e∧∀e g:Value,∀l:Hp,j [e,g] l→∀_:Fr,
lL g i fun i=>
Br i (
∀i:Jt,(∀m:Value,∀n:Hp,(∀_:Fr,
lA g (iv 1) fun o=>
aB j k [m,o] n [e,g] l)→i [m] n)→
lI 1 h g l fun g=>
lE g c fun h=>
lU h (fun h=>
Un .not e fun j=>
(lV l j h)) fun h=>
lU (Value.bool h) (fun h=>
lE d (iv 0) fun j=>
(lV l j h)) fun h=>
Br (Value.bool h) (
JE i [vT] l) (
lM 0 b l fun h=>
CR f a 142 #[h,g] l fun _ g=>
JE i [e] g)) (
lC 2 b fun g=>
St 1 l g (.slice none 0 0) fun g=>
∀h:Jt,(∀i:Hp,(∀_:Fr,
rt f (tP c (iv 0)) i)→h [] i)→
lN d (iv 0) fun i=>
Br i (
rt f (tP (ui 0) d) g) (
Un .not e fun d=>
Br d (
rt f (tP (ui 0) (iv 8)) g) (
lE c (ui 0) fun d=>
lO d (fun d=>
lE c (ui 1) fun e=>
(lV g e d)) fun d=>
Br (Value.bool d) (
lM 0 b g fun b=>
CR f a 141 #[b,c] g fun _ a=>
JE h [] a) (
JE h [] g))))
theorem wH(h:L251 g a0 a1 a2 H R):sc g 251 #[a0,a1,a2] H R:=
  sd (.n .e (.n (.h 0 [] [1] .e .e) (.n (.n .e (.n (.h 0 [8,22] [0,1,2,20,21] (.n .e (.n .e (.h 1 [8] [0,1,2,20,21,22] (.n (.n .e (.n (.n (.h 0 [] [1] .e .e) .e) .e)) .e) .e))) .e) .e)) (.n .e (.h 1 [] [1] (.n (hN 4 (.n (.h 0 [] [1] .e .e) .e)) .e) .e))))) Tryz.func251 h
def L252:Y5:=
fun a b c d e f g h=>
dh g (.cells (Value.cells b) 236 (0,0)) fun b g=>
Ld g c fun i=>
ay 3 g (pt b) fun j=>
gG Tryz.prog 236 (ui 0) true g i j fun i=>
lX i fun i j=>
Br j (
rt h (tP i (iv 0)) g) (
Ld g d fun i=>
ay 3 g (pt b) fun j=>
CR h a 253 #[i,j] g fun g i=>
Ld i d fun j=>
CR h a 254 #[j,g] i fun i j=>
lL i (iv 0) fun k=>
Br k (
Ld j e fun e=>
ff 3 1 (pt b) (iv 0) fun k=>
Ld j k fun k=>
lE k (ui 1) fun k=>
ff 3 1 (pt b) (iv 1) fun l=>
Ld j l fun l=>
lE l (ui 1) fun l=>
ff 3 1 (pt b) (iv 2) fun m=>
Ld j m fun m=>
lE m (ui 1) fun m=>
bg Tryz.prog a e #[k,l,m] j (fun e k=>
Br e (
rt h (tP (ui 1) (iv 0)) k) (
rt h (tP (ui 0) (iv 0)) k)) (kG h)) (
DR j fun e=>
ay 3 e (pt b) fun k=>
ay 3 e (pt b) fun l=>
lW j #[(ui 0),(ui 0),(ui 0)] 236 fun j m=>
lW m #[(ui 0),(ui 0),(ui 0)] 236 fun m n=>
∀_:Hp,
St 3 n (pt j) k fun k=>
aR k e∧
∀_:Hp,
St 3 k (pt m) l fun e=>
aM g fun k=>
∃(l:Jt) (n:Mt),JE l [(iv 0)] e∧∀e:Value,∀o:Hp,l [e] o→∀_:Fr,
lL e k fun k=>
Br k (
∀k:Jt,(∀p:Hp,(∀_:Fr,
lA e (iv 1) fun q=>
aB l n [q] p [e] o)→k [] p)→
ai 3 g e fun g=>
ay 3 o g fun g=>
lQ 3 o #[(iv 0),(ui 0),(ui 0)] 226 g fun g l=>
lD 0 (pt g) l fun n=>
lE n i fun n=>
Br n (
DR l fun n=>
lD 1 (pt g) n fun p=>
lD 2 (pt g) n fun g=>
ff 3 1 (pt j) e fun q=>
St 1 l q p fun p=>
aR p n∧
ff 3 1 (pt m) e fun e=>
St 1 p e g fun e=>
JE k [] e) (
JE k [] l)) (
Ld o f fun e=>
ay 3 o (pt j) fun g=>
bg Tryz.prog a e #[g] o (fun e g=>
lX e fun e j=>
lN j (iv 0) fun k=>
Br k (
rt h (tP (ui 0) j) g) (
Ld g f fun f=>
ay 3 g (pt m) fun j=>
bg Tryz.prog a f #[j] g (fun f g=>
lX f fun f j=>
lN j (iv 0) fun k=>
Br k (
rt h (tP (ui 0) j) g) (
Ld g d fun d=>
CR h a 255 #[d,i,e,f] g fun a d=>
lX a fun a e=>
∀f:Jt,(∀g:Hp,(∀_:Fr,
rt h (tP a e) g)→f [] g)→
lE e (iv 0) fun e=>
Br e (
Ld d c fun c=>
ay 3 d (pt b) fun b=>
ig Tryz.prog 236 d c b a fun a=>
JE f [] a) (
JE f [] d))) (kG h))) (kG h))))
theorem pg(h:L252 g a0 a1 a2 a3 a4 H R):sc g 252 #[a0,a1,a2,a3,a4] H R:=
  sd (hN 5 (.n (.h 1 [] [] (hr 0 [] 0 2 (hr 1 [] 2 2 (hr 0 [] 2 4 .e))) .e) (.n (.n .e (.n (.h 0 [51] [1,2,4,5,11,12,13,49,50] (.n .e (.n .e (.h 1 [] [1,2,4,5,11,12,13,49,50,51] (.n (.n .e (.n .e (.n (.h 0 [0,1,2,3,4,5,6,7,8,9] [] .e .e) .e))) .e) .e))) .e) .e)) (hN 5 (.h 1 [] [17,19] .e .e))))) Tryz.func252 h
def L253:Y2:=
fun a b c d e=>
dh d (.cells (Value.cells c) 236 (0,0)) fun c d=>
ay 3 d (pt c) fun c=>
∃(f:Jt) (g:Mt),JE f [(.slice none 0 0),(iv 0)] d∧∀d h:Value,∀i:Hp,f [d,h] i→∀_:Fr,
lL h (iv 3) fun j=>
Br j (
fx Tryz.prog a (dJ Tryz.f253 4 0) (ev (fun j=>cond (Nat.beq j 10) c (cond (Nat.beq j 11) h (undef)))) i fun c=>
lM 0 b i fun b=>
CR e a 249 #[b,c] i fun a b=>
lX a fun a _=>
lQ 3 b #[(iv 0),(ui 0),(ui 0)] 226 a fun a b=>
ay 3 b (pt a) fun a=>
ak Tryz.prog 309 1 [(0,a)] b fun a b=>
App Tryz.prog 226 3 16 (.agg #[(iv 0),(ui 0),(ui 0)]) b d a fun a b=>
lA h (iv 1) fun c=>
aB f g [a,c] b [d,h] i) (
rt e d i)
theorem wG(h:L253 g a0 a1 H R):sc g 253 #[a0,a1] H R:=
  sd (.n .e (.n .e (.n (.n .e (.n (.h 0 [5,11] [0,10] .e .e) .e)) .e))) Tryz.func253 h
def L254:Y2:=
fun _ a b c d=>
aM b fun e=>
∃(f:Jt) (g:Mt),JE f [(iv (-1)),(iv 0)] c∧∀c h:Value,∀i:Hp,f [c,h] i→∀_:Fr,
lL h e fun e=>
Br e (
∀e:Jt,(∀j:Value,∀k:Hp,(∀_:Fr,
lA h (iv 1) fun l=>
aB f g [j,l] k [c,h] i)→e [j] k)→
ai 3 b h fun b=>
ay 3 i b fun b=>
lQ 3 i #[(iv 0),(ui 0),(ui 0)] 226 b fun b f=>
lD 0 (pt b) f fun g=>
aa .num .geq g (iv 0) fun g=>
lU g (fun g=>
lL c (iv 0) fun h=>
c7 h false (fun h=>
lM 1 a f fun j=>
lD 0 (pt b) f fun k=>
lI 1 j k f fun j=>
lM 1 a f fun a=>
lI 1 a c f fun a=>
lL j a fun a=>
(lV f a h)) (fun h=>vT=Value.bool h) fun h=>∀_:Fr,
(lV f (Value.bool h) g)) fun g=>
Br (Value.bool g) (
lD 0 (pt b) f fun a=>
JE e [a] f) (
JE e [c] f)) (
rt d c i)
theorem wF(h:L254 g a0 a1 H R):sc g 254 #[a0,a1] H R:=
  sd (.n .e (.n .e (.n (.n .e (.n (.h 0 [5,10] [0,8,9] (.n .e (.n .e (.h 1 [5] [0,8,9,10] .e .e))) .e) .e)) .e))) Tryz.func254 h
def L255:Y4:=
fun a b c d e f g=>
lE d e fun h=>
Br h (
rt g (tP d (iv 0)) f) (
lM 0 b f fun h=>
CR g a 175 #[h,c,d,e] f fun f h=>
lX f fun f i=>
∀j:Jt,(∀k:Hp,(∀_:Fr,
rt g (tP (ui 0) i) k)→j [] k)→
lE i (iv 0) fun k=>
Br k (
lM 2 b h fun k=>
ak Tryz.prog 194 1 [(0,f)] h fun l m=>
App Tryz.prog 110 1 4 (ui 0) m k l fun k l=>
lC 2 b fun m=>
St 1 l m k fun k=>
rt g (tP f (iv 0)) k) (
lE i (iv 8) fun f=>
Br f (
lM 0 b h fun b=>
CR g a 323 #[b,c,d,e] h fun a b=>
lX a fun a c=>
Br c (
rt g (tP a (iv 0)) b) (
JE j [] b)) (
JE j [] h)))
theorem pe(h:L255 g a0 a1 a2 a3 H R):sc g 255 #[a0,a1,a2,a3] H R:=
  sd (hN 3 (.h 1 [] [11] .e .e)) Tryz.func255 h
def L261:Y0:=
fun _ a b=>
Build Tryz.prog 395 [] fun c=>
dh a (.cells (Value.cells c) 395 (0,0)) fun a c=>
rt b (pt a) c
theorem wE(h:L261 g H R):sc g 261 #[] H R:=
  sd .e Tryz.func261 h
def L262:Y2:=
fun a b c d e=>
aa .ptr .eql b (.pointer none) fun f=>
Br f (
rt e (tP (iv 0) (iv 10)) d) (
CR e a 210 #[b,c] d fun d f=>
Un .not d fun d=>
Br d (
rt e (tP (iv 0) (iv 2)) f) (
lC 0 b fun b=>
ag 1 b fun b=>
Ld f b fun b=>
CR e a 331 #[b,c] f fun a b=>
lX a fun a c=>
rt e (tP a c) b))
theorem wD(h:L262 g a0 a1 H R):sc g 262 #[a0,a1] H R:=
  sd .e Tryz.func262 h
def L263:Y3:=
fun a b c d e f=>
aa .ptr .eql b (.pointer none) fun g=>
Br g (
rt f (iv 10) e) (
lM 1 b e fun g=>
dW (.int .i64) (iv 0) true e g c fun g=>
lX g fun _ g=>
Br g (
rt f (iv 11) e) (
∀g:Jt,(∀h:Hp,(∀_:Fr,
lM 0 b h fun i=>
Build Tryz.prog 397 [(0,c),(1,d)] fun c=>
ak Tryz.prog 393 1 [(0,c)] h fun c d=>
App Tryz.prog 397 2 16 (.agg #[(iv 0),(iv 0)]) d i c fun c d=>
lC 0 b fun i=>
St 1 d i c fun c=>
lM 0 b c fun d=>
aM d fun d=>
lS d (iv 1) fun d=>
CR f a 332 #[b,d] c fun _ a=>
rt f (iv 0) a)→g [] h)→
lM 1 b e fun a=>
aa .map .eql a (.map none) fun a=>
Br a (
j4 e fun a c=>
lC 1 b fun b=>
St 1 c b a fun a=>
JE g [] a) (
JE g [] e)))
theorem wC(h:L263 g a0 a1 a2 H R):sc g 263 #[a0,a1,a2] H R:=
  sd (hN 3 (.h 1 [] [0,1,2] .e .e)) Tryz.func263 h
def L264:Y1:=
fun _ a b c=>
aa .ptr .eql a (.pointer none) fun d=>
Br d (
rt c (iv 0) b) (
lM 0 a b fun a=>
aM a fun a=>
rt c a b)
theorem wB(h:L264 g a0 H R):sc g 264 #[a0] H R:=
  sd .e Tryz.func264 h
def L265:Y1:=
fun a b c d=>
aa .ptr .eql b (.pointer none) fun e=>
lO e (fun e=>
lM 0 b c fun f=>
aM f fun f=>
lE f (iv 0) fun f=>
(lV c f e)) fun e=>
Br (Value.bool e) (
rt d (.tuple #[(iv 0),(iv 0),(iv 10)]) c) (
lM 0 b c fun e=>
ai 2 e (iv 0) fun e=>
ay 2 c e fun e=>
lQ 2 c #[(iv 0),(iv 0)] 397 e fun c e=>
lM 0 b e fun f=>
aM f fun f=>
lS f (iv 1) fun f=>
lM 0 b e fun g=>
ai 2 g f fun g=>
ay 2 e g fun g=>
lQ 2 e #[(iv 0),(iv 0)] 397 g fun e g=>
lM 0 b g fun h=>
dA 2 h none (some f) fun h=>
lC 0 b fun i=>
St 1 g i h fun g=>
DR g fun h=>
lM 1 b h fun i=>
lD 0 (pt c) h fun h=>
kH (.int .i64) g i h fun g=>
∀h:Jt,(∀i:Hp,(∀_:Fr,
lD 0 (pt c) i fun j=>
lD 1 (pt c) i fun c=>
rt d (.tuple #[j,c,(iv 0)]) i)→h [] i)→
lG f (iv 0) fun c=>
Br c (
ay 2 g (pt e) fun c=>
CR d a 333 #[b,(iv 0),c] g fun _ c=>
CR d a 334 #[b,(iv 0)] c fun _ a=>
JE h [] a) (
JE h [] g))
theorem pc(h:L265 g a0 H R):sc g 265 #[a0] H R:=
  sd (.n .e (.n .e (.n (.n (.h 0 [] [1] .e .e) .e) (hN 4 (.n (.h 0 [0,1,2,3,4,5,6] [] .e .e) (.h 1 [] [6] .e .e)))))) Tryz.func265 h
variable {g:Gh} {a0 a1 a2 a3 a4 a5 a6 a7 a8 a9 nC nB LO LN LM LL:Value} {H:Hp} {R:Rt}
def L266:Y2:=
fun a b c d e=>
dh d (.cells (Value.cells b) 321 (0,0)) fun b d=>
Br c (
DR d fun c=>
Ld c (pt b) fun f=>
Ld c (pt b) fun g=>
lM 0 g c fun g=>
∀h:Hp,
CN (a.add h) 185 #[g] d fun a g=>
aR g c∧
lS a (iv 1) fun a=>
lC 6 f fun c=>
∀_:Hp,
St 1 g c a fun a=>
Ld a (pt b) fun c=>
lC 7 c fun c=>
St 1 a c (.func (.func 335) #[] #[(pt b)]) fun a=>
rt e (.tuple #[]) a) (
Ld d (pt b) fun a=>
lC 6 a fun a=>
St 1 d a (iv 0) fun a=>
Ld a (pt b) fun c=>
lC 7 c fun c=>
St 1 a c (.func (.func 337) #[] #[(pt b)]) fun a=>
rt e (.tuple #[]) a)
theorem wA(h:L266 g a0 a1 H R):sc g 266 #[a0,a1] H R:=
  sd (.n .e (.n .e (.n (.n (.h 1 [] [] (hr 0 [1] 0 10 .e) .e) .e) .e))) Tryz.func266 h
def L267:Y1:=
fun a b c d=>
∃(e:Jt) (f:Mt),JE e [] c∧∀c:Hp,e [] c→∀_:Fr,
∀g:Jt,(∀h:Value,∀i:Hp,(∀_:Fr,
Br h (
lM 0 b i fun j=>
CR d a 140 #[j] i fun j k=>
∀l:Jt,(∀m:Hp,(∀_:Fr,
aa .num .mul j (iv 100) fun n=>
lM 2 b m fun o=>
lM 4 b m fun p=>
aa .num .mul o p fun o=>
lG n o fun n=>
Br n (
rt d (.tuple #[]) m) (
aB e f [] m [] c))→l [] m)→
lM 2 b k fun e=>
lL j e fun e=>
Br e (
lM 1 b k fun e=>
lC 2 b fun f=>
St 1 k f j fun f=>
lC 3 b fun j=>
St 1 f j e fun e=>
JE l [] e) (
JE l [] k)) (
rt d (.tuple #[]) i))→g [h] i)→
DR c fun d=>
lM 1 b d fun e=>
lM 6 b d fun f=>
lN e f fun e=>
Br e (
lM 7 b d fun b=>
∀d:Hp,
bg Tryz.prog (a.add d) b #[] c (fun a b=>
lE a (iv 0) fun a=>
aq vT a vF fun a=>
JE g [a] b) tL) (
JE g [vF] c)
theorem wz(h:L267 g a0 H R):sc g 267 #[a0] H R:=
  sd (.n (.h 0 [] [0] (.n (.h 1 [19] [0] (.h 1 [] [] (hr 0 [1] 0 9 (.h 2 [9] [] (hr 0 [1] 10 7 .e) (hr 0 [1] 10 6 (.h 3 [16] [1] .e .e)))) .e) .e) (.n (.n .e (.h 1 [] [0,2] .e .e)) .e)) .e) .e) Tryz.func267 h
def L268:Y2:=
fun a b c d e=>
∃(f:Jt) (g:Mt),JE f [] d∧∀d:Hp,f [] d→∀_:Fr,
lM 1 b d fun h=>
lN h c fun c=>
Br c (
lM 0 b d fun c=>
CR e a 338 #[c] d fun a c=>
lX a fun a _=>
lM 5 b c fun h=>
lA h (iv 1) fun h=>
lC 5 b fun i=>
St 1 c i h fun c=>
lM 1 b c fun h=>
lL a h fun h=>
Br h (
lC 1 b fun h=>
St 1 c h a fun h=>
aB f g [] h [] d) (
lA a (iv 1) fun a=>
lC 1 b fun b=>
St 1 c b a fun a=>
aB f g [] a [] d)) (
rt e (.tuple #[]) d)
theorem wy(h:L268 g a0 a1 H R):sc g 268 #[a0,a1] H R:=
  sd (.n (.h 0 [] [0,1] .e .e) .e) Tryz.func268 h
def L286:Y2:=
fun a b c d e=>
lW d #[(iv 0),(ui 0),(ui 0)] 226 fun d f=>
aa .ptr .eql b (.pointer none) fun g=>
Br g (
Build Tryz.prog 226 [] fun g=>
St 3 f (pt d) g fun g=>
ay 3 g (pt d) fun h=>
rt e (tP h (iv 10)) g) (
CR e a 356 #[b,c] f fun a f=>
Un .not a fun a=>
Br a (
Build Tryz.prog 226 [] fun a=>
St 3 f (pt d) a fun a=>
ay 3 a (pt d) fun g=>
rt e (tP g (iv 3)) a) (
lM 1 b f fun a=>
ai 5 a c fun a=>
ag 0 a fun a=>
ay 3 f a fun a=>
St 3 f (pt d) a fun a=>
ay 3 a (pt d) fun b=>
rt e (tP b (iv 0)) a))
theorem wx(h:L286 g a0 a1 H R):sc g 286 #[a0,a1] H R:=
  sd .e Tryz.func286 h
def L287:Y2:=
fun a b c d e=>
lW d #[(iv 0),(ui 0),(ui 0)] 226 fun d f=>
lM 0 b f fun b=>
CR e a 286 #[b,c] f fun a b=>
lX a fun a _=>
lQ 3 b #[(iv 0),(ui 0),(ui 0)] 226 a fun a b=>
ay 3 b (pt a) fun a=>
St 3 b (pt d) a fun a=>
ay 3 a (pt d) fun b=>
rt e b a
theorem wv(h:L287 g a0 a1 H R):sc g 287 #[a0,a1] H R:=
  sd .e Tryz.func287 h
def L288:Y2:=
fun a b c d e=>
dh d (.cells (Value.cells c) 226 (0,0)) fun c d=>
lD 0 (pt c) d fun f=>
CR e a 357 #[b,f] d fun a d=>
lN a (iv 0) fun f=>
Br f (
rt e a d) (
lM 0 b d fun a=>
lD 0 (pt c) d fun f=>
lI 1 a f d fun a=>
ay 3 d (pt c) fun f=>
gG Tryz.prog 226 (ui 0) true d a f fun a=>
lX a fun _ a=>
Un .not a fun a=>
Br a (
rt e (iv 10) d) (
DR d fun a=>
lM 0 b a fun b=>
lD 0 (pt c) a fun f=>
lI 1 b f a fun b=>
ay 3 a (pt c) fun c=>
l9 Tryz.prog 226 d b c fun b=>
aR b a∧
rt e (iv 0) b))
theorem wu(h:L288 g a0 a1 H R):sc g 288 #[a0,a1] H R:=
  sd (hN 3 (.n (.h 0 [0,1,2,3,4,5,6,7,8,9] [] .e .e) .e)) Tryz.func288 h
def L289:Y2:=
fun a b c d e=>
aa .ptr .eql b (.pointer none) fun f=>
Br f (
rt e (iv 10) d) (
CR e a 358 #[b,c] d fun a d=>
lN a (iv 0) fun f=>
Br f (
rt e a d) (
lM 1 b d fun a=>
Build Tryz.prog 228 [] fun f=>
ai 5 a c fun a=>
St 5 d a f fun a=>
lM 2 b a fun d=>
ak Tryz.prog 194 1 [(0,c)] a fun a c=>
App Tryz.prog 110 1 4 (ui 0) c d a fun a c=>
lC 2 b fun d=>
St 1 c d a fun a=>
lM 3 b a fun c=>
lS c (iv 1) fun c=>
lC 3 b fun b=>
St 1 a b c fun a=>
rt e (iv 0) a))
theorem wq(h:L289 g a0 a1 H R):sc g 289 #[a0,a1] H R:=
  sd .e Tryz.func289 h
def L290:Y5:=
fun a b c d e f g h=>
Ld g c fun i=>
dW (.int .u32) (wi 0) true g i b fun i=>
lX i fun i j=>
Br j (
rt h i g) (
Ld g d fun d=>
CR h a 202 #[d,b] g fun d g=>
lQ 3 g #[(iv 0),(ui 0),(ui 0)] 226 d fun d g=>
DR g fun i=>
Ld i e fun e=>
ay 3 i (pt d) fun j=>
Ld i f fun k=>
lD 1 (pt d) i fun l=>
Ld i f fun f=>
lD 2 (pt d) i fun d=>
∀m:Hp,
bg Tryz.prog (a.add m) k #[l] g (fun g k=>
aR k i∧
∀l:Hp,
bg Tryz.prog (a.add l) f #[d] k (fun d f=>
aR f i∧
∀i:Hp,
bg Tryz.prog (a.add i) e #[j,g,d] f (fun a d=>
Ld d c fun c=>
aY (.int .u32) d c b a fun b=>
rt h a b) tL) tL) tL)
theorem o9(h:L290 g a0 a1 a2 a3 a4 H R):sc g 290 #[a0,a1,a2,a3,a4] H R:=
  sd (hN 3 (.n (.h 1 [] [] (hr 0 [1] 0 5 (hr 0 [1] 6 3 (.h 0 [5] [1] (hr 0 [1] 9 3 .e) .e))) .e) .e)) Tryz.func290 h
def L291:Y5:=
fun a b c d e f g h=>
CR h a 201 #[b] g fun g i=>
lO g (fun g=>
Ld i c fun j=>
dW (.int .u32) (iv 0) false i j b fun j=>
lG j (iv 0) fun j=>
(lV i j g)) fun g=>
Br (Value.bool g) (
rt h (.tuple #[]) i) (
Ld i c fun c=>
aY (.int .u32) i c b (iv 1) fun c=>
Ld c d fun d=>
CR h a 202 #[d,b] c fun b c=>
lQ 3 c #[(iv 0),(ui 0),(ui 0)] 226 b fun b c=>
Ld c e fun d=>
ay 3 c (pt b) fun e=>
bg Tryz.prog a d #[e] c (fun _ c=>
Ld c f fun d=>
lD 1 (pt b) c fun e=>
bg Tryz.prog a d #[e] c (fun _ c=>
Ld c f fun d=>
lD 2 (pt b) c fun b=>
bg Tryz.prog a d #[b] c (fun _ a=>
rt h (.tuple #[]) a) (kG h)) (kG h)) (kG h))
theorem o8(h:L291 g a0 a1 a2 a3 a4 H R):sc g 291 #[a0,a1,a2,a3,a4] H R:=
  sd (.n (.n (.h 0 [] [1] .e .e) .e) .e) Tryz.func291 h
def L292:Y2:=
fun a b c d e=>
aa .ptr .eql b (.pointer none) fun f=>
Br f (
rt e (iv 10) d) (
CR e a 249 #[b,c] d fun a b=>
lX a fun a d=>
lQ 3 b #[(iv 0),(ui 0),(ui 0)] 226 a fun _ a=>
lN d (iv 0) fun b=>
Br b (
rt e d a) (
lE c (ui 0) fun b=>
Br b (
rt e (iv 10) a) (
rt e (iv 0) a)))
theorem wo(h:L292 g a0 a1 H R):sc g 292 #[a0,a1] H R:=
  sd .e Tryz.func292 h
def L297:Y3:=
fun a b c d e f=>
lC 0 b fun g=>
ag 1 g fun g=>
Ld e g fun g=>
CR f a 366 #[g,c] e fun c e=>
lX c fun c _=>
aM c fun g=>
∃(h:Jt) (i:Mt),JE h [(.slice none 0 0),(iv 0)] e∧∀e j:Value,∀k:Hp,h [e,j] k→∀_:Fr,
lL j g fun g=>
Br g (
∀g:Jt,(∀l:Value,∀m:Hp,(∀_:Fr,
lA j (iv 1) fun n=>
aB h i [l,n] m [e,j] k)→g [l] m)→
lI 1 c j k fun c=>
lC 0 b fun h=>
CR f a 287 #[h,c] k fun h i=>
lQ 3 i #[(iv 0),(ui 0),(ui 0)] 226 h fun h i=>
∀j:Jt,(∀l:Value,∀m:Hp,(∀_:Fr,
Br l (
JE g [e] m) (
ay 3 m (pt h) fun n=>
Build Tryz.prog 367 [(0,c),(1,n)] fun c=>
lQ 8 m #[(ui 0),(iv 0),(ui 0),(ui 0),(ui 0),(ui 0),(ui 0),(ui 0)] 367 c fun c n=>
lD 1 (pt h) n fun o=>
CR f a 367 #[b,o,d] n fun n o=>
lX n fun n p=>
ag 4 (pt c) fun q=>
St 1 o q n fun n=>
ag 5 (pt c) fun o=>
St 1 n o p fun n=>
lD 2 (pt h) n fun o=>
CR f a 367 #[b,o,d] n fun n o=>
lX n fun n p=>
ag 6 (pt c) fun q=>
St 1 o q n fun n=>
ag 7 (pt c) fun o=>
St 1 n o p fun n=>
ay 8 n (pt c) fun c=>
ak Tryz.prog 363 1 [(0,c)] n fun c n=>
App Tryz.prog 367 8 40 (.agg #[(ui 0),(iv 0),(ui 0),(ui 0),(ui 0),(ui 0),(ui 0),(ui 0)]) n e c fun c n=>
JE g [c] n))→j [l] m)→
DR i fun c=>
lC 0 b fun g=>
lD 1 (pt h) c fun l=>
∀m:Hp,
CN (a.add m) 287 #[g,l] i fun g i=>
aR i c∧
A7 0 g fun g=>
lN g d fun g=>
Br g (
lC 0 b fun b=>
lD 2 (pt h) c fun g=>
∀h:Hp,
CN (a.add h) 287 #[b,g] i fun a b=>
aR b c∧
A7 0 a fun a=>
lN a d fun a=>
aq vT a vF fun a=>
JE j [a] b) (
JE j [vF] i)) (
rt f e k)
theorem wm(h:L297 g a0 a1 a2 H R):sc g 297 #[a0,a1,a2] H R:=
  sd (hN 3 (.n (.n .e (.n (.h 0 [7,26] [0,2,24,25] (.n .e (.n .e (.h 1 [7] [0,2,24,25,26] (.n (.n .e (.n .e (.n (.h 1 [54] [0,2,7,11,12,24,25,26] (.h 1 [] [] (hr 0 [] 0 5 (.h 0 [7] [] (hr 0 [] 5 2 (.h 0 [8] [] (.h 2 [9] [] (hr 0 [] 10 5 (.h 0 [17] [] (hr 0 [] 15 2 (hr 0 [] 18 2 .e)) .e)) (hr 0 [] 10 9 (.h 3 [19] [] .e .e))) .e)) .e)) .e) .e) .e))) .e) .e))) .e) .e)) .e)) Tryz.func297 h
def L298:Y3:=
fun a b c d e f=>
j4 e fun e g=>
aM d fun h=>
∃(i:Jt) (j:Mt),JE i [(iv 0)] g∧∀g:Value,∀k:Hp,i [g] k→∀_:Fr,
lL g h fun h=>
Br h (
ai 8 d g fun d=>
ay 8 k d fun d=>
lQ 8 k #[(ui 0),(iv 0),(ui 0),(ui 0),(ui 0),(ui 0),(ui 0),(ui 0)] 367 d fun d h=>
lD 4 (pt d) h fun l=>
lD 6 (pt d) h fun m=>
Build Tryz.prog 226 [(0,c),(1,l),(2,m)] fun l=>
lD 5 (pt d) h fun m=>
lD 7 (pt d) h fun d=>
Build Tryz.prog 226 [(0,c),(1,m),(2,d)] fun c=>
ak Tryz.prog 309 2 [(0,l),(1,c)] h fun c d=>
aM c fun h=>
∃(l:Jt) (m:Mt),JE l [(iv 0)] d∧∀d:Value,∀n:Hp,l [d] n→∀_:Fr,
lL d h fun h=>
Br h (
∀h:Jt,(∀o:Hp,(∀_:Fr,
lA d (iv 1) fun p=>
aB l m [p] o [d] n)→h [] o)→
ai 3 c d fun c=>
ay 3 n c fun c=>
lQ 3 n #[(iv 0),(ui 0),(ui 0)] 226 c fun c d=>
DR d fun l=>
lC 0 b fun b=>
ag 1 b fun b=>
Ld l b fun b=>
ay 3 l (pt c) fun m=>
CN a 320 #[b,m] d fun b d=>
aR d l∧
lX b fun _ b=>
Un .not b fun b=>
lU b (fun b=>
lD 1 (pt c) d fun l=>
lD 2 (pt c) d fun m=>
lN l m fun l=>
(lV d l b)) fun b=>
Br (Value.bool b) (
I7 Tryz.prog a 10 (jL Tryz.f298 10) [7,11] [e,(pt c)] d fun a=>∀_:Fr,
JE h [] a) (
JE h [] d)) (
lA g (iv 1) fun a=>
aB i j [a] n [g] k)) (
rT k e fun a=>
rt f a k)
theorem wk(h:L298 g a0 a1 a2 H R):sc g 298 #[a0,a1,a2] H R:=
  sd (.n .e (.n .e (.n (.n .e (.n (.h 0 [17] [0,1,7,15,16] (.n .e (.n .e (.n (.n (.n .e (.n .e (.n (.h 0 [35] [0,1,7,15,16,17,33,34] (.n .e (.n .e (.h 1 [] [0,1,7,15,16,17,33,34,35] (.n (.n .e (.n (.h 0 [0,1,2,3,4,5,6,7,8,9,10,11] [] .e .e) (.n (.h 0 [] [1] .e .e) (.n (.h 9 [7,11] [] .e .e) .e)))) .e) .e))) .e) .e))) .e) .e))) .e) .e)) .e))) Tryz.func298 h
def L299:Y4:=
fun a b c d e f g=>
lE d e fun h=>
Br h (
rt g d f) (
Build Tryz.prog 226 [(0,c),(1,d),(2,e)] fun c=>
lQ 3 f #[(iv 0),(ui 0),(ui 0)] 226 c fun c d=>
DR d fun e=>
lM 1 b e fun f=>
ay 3 e (pt c) fun h=>
CN a 320 #[f,h] d fun d f=>
aR f e∧
lX d fun d e=>
Br e (
rt g d f) (
ay 3 f (pt c) fun c=>
CR g a 246 #[b,c] f fun a b=>
rt g a b))
theorem kJ(h:L299 g a0 a1 a2 a3 H R):sc g 299 #[a0,a1,a2,a3] H R:=
  sd (hN 3 (.n (.n (.h 0 [0,1,2,3,4,5,6,7,8,9,10] [] .e .e) .e) .e)) Tryz.func299 h
def L300:Y2:=
fun _ a b c d=>
lG b (ui 1) fun e=>
Br e (
lM 2 a c fun a=>
lI 1 a b c fun e=>
lA e (Value.int .i32 1) fun e=>
ai 1 a b fun a=>
St 1 c a e fun a=>
rt d (.tuple #[]) a) (
rt d (.tuple #[]) c)
theorem wj(h:L300 g a0 a1 H R):sc g 300 #[a0,a1] H R:=
  sd .e Tryz.func300 h
def L301:Y3:=
fun a b c d e f=>
dh e (.cells (Value.cells d) 226 (0,0)) fun d e=>
aa .ptr .eql b (.pointer none) fun g=>
Br g (
rt f (iv 10) e) (
ay 3 e (pt d) fun g=>
CR f a 368 #[b,g] e fun e g=>
lN e (iv 0) fun h=>
Br h (
rt f e g) (
CR f a 358 #[b,c] g fun a e=>
lN a (iv 0) fun g=>
Br g (
rt f a e) (
DR e fun a=>
lM 1 b a fun b=>
ay 3 a (pt d) fun a=>
ai 5 b c fun b=>
ag 0 b fun b=>
St 3 e b a fun a=>
rt f (iv 0) a)))
theorem wh(h:L301 g a0 a1 a2 H R):sc g 301 #[a0,a1,a2] H R:=
  sd (hN 4 (.n (.h 0 [0,1,2,3,4,5,6,7,8] [] .e .e) .e)) Tryz.func301 h
def L302:Y3:=
fun a b c d e f=>
dh e (.cells (Value.cells c) 226 (0,0)) fun c e=>
lD 0 (pt c) e fun g=>
CR f a 357 #[b,g] e fun a e=>
lN a (iv 0) fun g=>
Br g (
rt f a e) (
lM 0 b e fun a=>
lD 0 (pt c) e fun g=>
lI 1 a g e fun a=>
ay 3 e (pt c) fun g=>
gG Tryz.prog 226 (ui 0) true e a g fun a=>
lX a fun _ a=>
Br a (
rt f (iv 11) e) (
DR e fun a=>
lM 0 b a fun b=>
lD 0 (pt c) a fun g=>
lI 1 b g a fun b=>
ay 3 a (pt c) fun a=>
ig Tryz.prog 226 e b a d fun a=>
rt f (iv 0) a))
theorem wg(h:L302 g a0 a1 a2 H R):sc g 302 #[a0,a1,a2] H R:=
  sd (hN 3 (.n (.h 0 [0,1,2,3,4,5,6,7,8,9,10] [] .e .e) .e)) Tryz.func302 h
def L304:Y1:=
fun a b c d=>
bB .u64 b fun b=>
CR d a 154 #[b] c fun a b=>
aa .num .shl (wi 1) a fun a=>
rt d a b
theorem we(h:L304 g a0 H R):sc g 304 #[a0] H R:=
  sd .e Tryz.func304 h
def L305:Y1:=
fun _ a b c=>
DR b fun d=>
Nil a fun e=>
Ld d e fun e=>
Nil a fun f=>
Ld d f fun d=>
aa .num .shl d (wi 13) fun d=>
aa .num .xor e d fun d=>
Nil a fun e=>
St 1 b e d fun b=>
DR b fun d=>
Nil a fun e=>
Ld d e fun e=>
Nil a fun f=>
Ld d f fun d=>
aa .num .shr d (wi 7) fun d=>
aa .num .xor e d fun d=>
Nil a fun e=>
St 1 b e d fun b=>
DR b fun d=>
Nil a fun e=>
Ld d e fun e=>
Nil a fun f=>
Ld d f fun d=>
aa .num .shl d (wi 17) fun d=>
aa .num .xor e d fun d=>
Nil a fun e=>
St 1 b e d fun b=>
Nil a fun a=>
Ld b a fun a=>
rt c a b
theorem wc(h:L305 g a0 H R):sc g 305 #[a0] H R:=
  sd (.n .e (.n (.h 0 [0,1,2,3,4,5,6,7,8,9] [] .e .e) (.n (.h 0 [0,1,2,3,4,5,6,7,8,9] [] .e .e) (.n (.h 0 [0,1,2,3,4,5,6,7,8,9] [] .e .e) .e)))) Tryz.func305 h
def L319:Y2:=
fun a b c d e=>
lC 0 b fun f=>
CR e a 287 #[f,c] d fun a c=>
lQ 3 c #[(iv 0),(ui 0),(ui 0)] 226 a fun a c=>
lD 0 (pt a) c fun d=>
aa .num .geq d (iv 0) fun d=>
Br d (
lM 6 b c fun d=>
lD 0 (pt a) c fun a=>
lI 1 d a c fun a=>
rt e a c) (
lM 4 b c fun a=>
rt e a c)
theorem v9(h:L319 g a0 a1 H R):sc g 319 #[a0,a1] H R:=
  sd .e Tryz.func319 h
def L320:Y2:=
fun a b c d e=>
dh d (.cells (Value.cells c) 226 (0,0)) fun c d=>
lD 0 (pt c) d fun f=>
CR e a 357 #[b,f] d fun a d=>
lN a (iv 0) fun a=>
Br a (
rt e (tP (ui 0) vF) d) (
lM 0 b d fun a=>
lD 0 (pt c) d fun b=>
lI 1 a b d fun a=>
ay 3 d (pt c) fun b=>
gG Tryz.prog 226 (ui 0) true d a b fun a=>
lX a fun a b=>
rt e (tP a b) d)
theorem v8(h:L320 g a0 a1 H R):sc g 320 #[a0,a1] H R:=
  sd .e Tryz.func320 h
def L321:Y1:=
fun _ a b c=>
aa .ptr .eql a (.pointer none) fun d=>
Br d (
rt c (iv 0) b) (
lM 0 a b fun a=>
rt c a b)
theorem v7(h:L321 g a0 H R):sc g 321 #[a0] H R:=
  sd .e Tryz.func321 h
def L322:Y2:=
fun a b c d e=>
dh d (.cells (Value.cells c) 226 (0,0)) fun c d=>
aa .ptr .eql b (.pointer none) fun f=>
Br f (
rt e (tP (ui 0) (iv 10)) d) (
ay 3 d (pt c) fun f=>
CR e a 368 #[b,f] d fun a d=>
lN a (iv 0) fun f=>
Br f (
rt e (tP (ui 0) a) d) (
lM 2 b d fun a=>
aM a fun a=>
lG a (iv 0) fun f=>
Br f (
lM 2 b d fun f=>
lS a (iv 1) fun g=>
lI 1 f g d fun f=>
lM 2 b d fun g=>
lS a (iv 1) fun a=>
dA 1 g none (some a) fun a=>
lC 2 b fun g=>
St 1 d g a fun a=>
DR a fun g=>
lM 1 b g fun h=>
ay 3 g (pt c) fun g=>
Build Tryz.prog 228 [(0,g),(1,vT)] fun g=>
ai 5 h f fun h=>
St 5 a h g fun a=>
lM 3 b a fun g=>
lA g (iv 1) fun g=>
lC 3 b fun h=>
St 1 a h g fun a=>
rt e (tP f (iv 0)) a) (
lM 1 b d fun a=>
aM a fun a=>
lM 0 b d fun f=>
aa .num .geq a f fun a=>
Br a (
rt e (tP (ui 0) (iv 9)) d) (
DR d fun a=>
lM 1 b a fun f=>
ay 3 a (pt c) fun c=>
Build Tryz.prog 228 [(0,c),(1,vT)] fun c=>
ak Tryz.prog 222 1 [(0,c)] d fun c d=>
aR d a∧
App Tryz.prog 228 5 24 (.agg #[(iv 0),(ui 0),(ui 0),vF,(bi 0)]) d f c fun c d=>
aR d a∧
lC 1 b fun a=>
St 1 d a c fun a=>
lM 3 b a fun c=>
lA c (iv 1) fun c=>
lC 3 b fun d=>
St 1 a d c fun a=>
lM 1 b a fun b=>
aM b fun b=>
lS b (iv 1) fun b=>
bB .u32 b fun b=>
rt e (tP b (iv 0)) a))))
theorem v5(h:L322 g a0 a1 H R):sc g 322 #[a0,a1] H R:=
  sd (hN 3 (.n (.n .e (.n .e (.n (.n .e (.n .e (.n (.h 0 [0,1,2,3,4,5,6,7,8] [] .e .e) .e))) .e))) (.n .e (.n (.h 0 [0,1,2,3,4,5,6,7,8,9,10,11] [] .e .e) .e)))) Tryz.func322 h
def L323:Y4:=
fun a b c d e f g=>
∀h:Jt,(∀i:Value,∀j:Hp,(∀_:Fr,
Br i (
rt g (tP (ui 0) vF) j) (
CR g a 244 #[b,c,d,e] j fun k l=>
lX k fun k m=>
rt g (tP k m) l))→h [i] j)→
aa .ptr .eql b (.pointer none) fun i=>
Split i false (
CR g a 243 #[b,c,d,e] f fun a b=>
lN a (iv 0) fun a=>
aq vF vT a fun a=>
JE h [a] b) (
aq vT vT undef fun a=>
JE h [a] f)
theorem vZ(h:L323 g a0 a1 a2 a3 H R):sc g 323 #[a0,a1,a2,a3] H R:=
  sd (.n .e (.n (.h 1 [19] [0,1,2,3] .e .e) .e)) Tryz.func323 h
def L331:Y2:=
fun a b c d e=>
CR e a 357 #[b,c] d fun a d=>
lN a (iv 0) fun f=>
Br f (
rt e (tP (iv 0) a) d) (
lM 0 b d fun a=>
lI 1 a c d fun a=>
rT d a fun a=>
rt e (tP a (iv 0)) d)
theorem vY(h:L331 g a0 a1 H R):sc g 331 #[a0,a1] H R:=
  sd .e Tryz.func331 h
def L332:Y2:=
fun a b c d e=>
lM 0 b d fun f=>
ai 2 f c fun f=>
ay 2 d f fun f=>
lQ 2 d #[(iv 0),(iv 0)] 397 f fun d f=>
∃(g:Jt) (h:Mt),JE g [c] f∧∀c:Value,∀f:Hp,g [c] f→∀_:Fr,
∀i:Jt,(∀j:Value,∀k:Hp,(∀_:Fr,
Br j (
lM 0 b k fun l=>
lS c (iv 1) fun m=>
aa .num .quo m (iv 2) fun m=>
ai 2 l m fun l=>
ay 2 k l fun l=>
CR e a 333 #[b,c,l] k fun _ l=>
lS c (iv 1) fun m=>
aa .num .quo m (iv 2) fun m=>
aB g h [m] l [c] f) (
ay 2 k (pt d) fun g=>
CR e a 333 #[b,c,g] k fun _ g=>
rt e (.tuple #[]) g))→i [j] k)→
DR f fun e=>
lG c (iv 0) fun g=>
Br g (
ay 2 e (pt d) fun d=>
lM 0 b e fun b=>
lS c (iv 1) fun c=>
aa .num .quo c (iv 2) fun c=>
ai 2 b c fun b=>
ay 2 e b fun b=>
∀c:Hp,
CN (a.add c) 381 #[d,b] f fun a b=>
aR b e∧
aq vT a vF fun a=>
JE i [a] b) (
JE i [vF] f)
theorem vX(h:L332 g a0 a1 H R):sc g 332 #[a0,a1] H R:=
  sd (.n .e (.n (.n (.h 0 [1] [0,4] (.n (.h 1 [26] [0,1,4] (.h 1 [] [] (hr 0 [] 0 2 (.h 2 [2] [] (hr 0 [] 3 12 .e) (hr 0 [] 3 11 (.h 3 [14] [] .e .e)))) .e) .e) .e) .e) .e) .e)) Tryz.func332 h
def L333:Y3:=
fun _ a b c d e=>
dh d (.cells (Value.cells c) 397 (0,0)) fun c d=>
DR d fun f=>
lM 0 a f fun g=>
ay 2 f (pt c) fun f=>
ai 2 g b fun g=>
St 2 d g f fun d=>
DR d fun f=>
lM 1 a f fun a=>
lD 0 (pt c) f fun c=>
aY (.int .i64) d a c b fun a=>
rt e (.tuple #[]) a
theorem vW(h:L333 g a0 a1 a2 H R):sc g 333 #[a0,a1,a2] H R:=
  sd (.n .e (.n (.h 0 [0,1,2,3,4,5,6,7] [] .e .e) (.h 0 [0,1,2,3,4,5,6,7] [] .e .e))) Tryz.func333 h
def L334:Y2:=
fun a b c d e=>
lM 0 b d fun f=>
ai 2 f c fun f=>
ay 2 d f fun f=>
lQ 2 d #[(iv 0),(iv 0)] 397 f fun d f=>
∃(g:Jt) (h:Mt),JE g [c] f∧∀c:Value,∀f:Hp,g [c] f→∀_:Fr,
aa .num .mul (iv 2) c fun i=>
lA i (iv 1) fun i=>
∀j:Jt,(∀k:Value,∀l:Hp,(∀_:Fr,
∀m:Jt,(∀n:Value,∀o:Hp,(∀_:Fr,
Br n (
ay 2 o (pt d) fun p=>
CR e a 333 #[b,c,p] o fun _ p=>
rt e (.tuple #[]) p) (
lM 0 b o fun p=>
ai 2 p k fun p=>
ay 2 o p fun p=>
CR e a 333 #[b,c,p] o fun _ e=>
aB g h [k] e [c] f))→m [n] o)→
DR l fun c=>
lM 0 b c fun e=>
aM e fun e=>
aa .num .geq k e fun e=>
Br e (
JE m [vT] l) (
lM 0 b c fun e=>
ai 2 e k fun e=>
ay 2 c e fun e=>
ay 2 c (pt d) fun d=>
∀g:Hp,
CN (a.add g) 381 #[e,d] l fun d e=>
aR e c∧
Un .not d fun c=>
aq vF vT c fun c=>
JE m [c] e))→j [k] l)→
∀c:Jt,(∀d:Value,∀e:Hp,(∀_:Fr,
Br d (
lA i (iv 1) fun g=>
JE j [g] e) (
JE j [i] e))→c [d] e)→
DR f fun d=>
lA i (iv 1) fun e=>
lM 0 b d fun g=>
aM g fun g=>
lL e g fun e=>
Br e (
lM 0 b d fun e=>
lA i (iv 1) fun g=>
ai 2 e g fun e=>
ay 2 d e fun e=>
lM 0 b d fun b=>
ai 2 b i fun b=>
ay 2 d b fun b=>
∀g:Hp,
CN (a.add g) 381 #[e,b] f fun a b=>
aR b d∧
aq vT a vF fun a=>
JE c [a] b) (
JE c [vF] f)
theorem vV(h:L334 g a0 a1 H R):sc g 334 #[a0,a1] H R:=
  sd (.n .e (.n (.n (.h 0 [1] [0,4] (.n (.n .e (.h 1 [5] [0,1,4] (.h 1 [41] [0,1,4,5] (.h 1 [] [] (hr 0 [] 0 8 (.h 2 [8] [] (hr 0 [] 9 17 .e) (hr 0 [] 9 16 (.h 3 [25] [] .e .e)))) .e) .e) (.n (.h 1 [62] [0,1,4,5] (.h 1 [] [] (hr 0 [] 0 7 (.h 2 [7] [] (hr 0 [] 8 10 (.h 3 [18] [] .e .e)) (hr 0 [] 8 11 .e))) .e) .e) .e))) .e) .e) .e) .e)) Tryz.func334 h
def L335:Y1:=
fun a b c d=>
DR c fun e=>
Ld e b fun f=>
Ld e b fun b=>
lM 1 b e fun b=>
∀e:Hp,
CN (a.add e) 336 #[f,b,(iv 1)] c fun a b=>
rt d a b
theorem o7(h:L335 g a0 H R):sc g 335 #[a0] H R:=
  sd (.n .e (.n (.h 1 [] [] (hr 0 [1] 0 7 .e) .e) .e)) Tryz.func335 h
def L336:Y3:=
fun a b c d e f=>
lM 0 b e fun g=>
CR f a 151 #[g,c] e fun a c=>
∀e:Jt,(∀g:Hp,(∀_:Fr,
rt f a g)→e [] g)→
lE a (iv 0) fun a=>
Br a (
lM 5 b c fun a=>
lA a (iv 1) fun a=>
lC 5 b fun f=>
St 1 c f a fun a=>
lM 1 b a fun f=>
lA f d fun d=>
lC 1 b fun b=>
St 1 a b d fun a=>
JE e [] a) (
JE e [] c)
theorem o6(h:L336 g a0 a1 a2 H R):sc g 336 #[a0,a1,a2] H R:=
  sd (.n .e (.n .e (.h 1 [] [7] .e .e))) Tryz.func336 h
def L337:Y1:=
fun a b c d=>
DR c fun e=>
Ld e b fun f=>
Ld e b fun b=>
lM 1 b e fun b=>
lS b (iv 1) fun b=>
∀e:Hp,
CN (a.add e) 336 #[f,b,(iv (-1))] c fun a b=>
rt d a b
theorem o5(h:L337 g a0 H R):sc g 337 #[a0] H R:=
  sd (.n .e (.n (.h 1 [] [] (hr 0 [1] 0 8 .e) .e) .e)) Tryz.func337 h
def L338:Y1:=
fun a b c d=>
aa .ptr .eql b (.pointer none) fun e=>
lO e (fun e=>
lM 7 b c fun f=>
aM f fun f=>
lE f (iv 0) fun f=>
(lV c f e)) fun e=>
Br (Value.bool e) (
rt d (tP (iv 0) (iv 10)) c) (
lM 7 b c fun e=>
aM e fun e=>
lS e (iv 1) fun e=>
lM 7 b c fun f=>
lI 1 f e c fun f=>
CR d a 211 #[b,f] c fun _ a=>
lM 7 b a fun c=>
dA 1 c none (some e) fun c=>
lC 7 b fun b=>
St 1 a b c fun a=>
rt d (tP f (iv 0)) a)
theorem vU(h:L338 g a0 H R):sc g 338 #[a0] H R:=
  sd (.n .e (.n (.n (.h 0 [] [1] .e .e) .e) .e)) Tryz.func338 h
variable {g:Gh} {a0 a1 a2 a3 a4 a5 a6 a7 a8 a9 nC nB LO LN LM LL:Value} {H:Hp} {R:Rt}
def L356:Y2:=
fun _ a b c d=>
bB .i64 b fun e=>
lM 1 a c fun f=>
aM f fun f=>
lL e f fun e=>
lU e (fun e=>
lM 1 a c fun a=>
ai 5 a b fun a=>
ag 3 a fun a=>
Ld c a fun a=>
(lV c a e)) fun e=>
rt d (Value.bool e) c
theorem vS(h:L356 g a0 a1 H R):sc g 356 #[a0,a1] H R:=
  sd (.n .e (.n (.h 0 [] [1] .e .e) .e)) Tryz.func356 h
def L357:Y2:=
fun _ a b c d=>
aa .ptr .eql a (.pointer none) fun e=>
Br e (
rt d (iv 10) c) (
lL b (iv 0) fun e=>
lO e (fun e=>
lM 0 a c fun a=>
aM a fun a=>
aa .num .geq b a fun a=>
(lV c a e)) fun e=>
Br (Value.bool e) (
rt d (iv 2) c) (
rt d (iv 0) c))
theorem vR(h:L357 g a0 a1 H R):sc g 357 #[a0,a1] H R:=
  sd (.n .e (.n (.n (.n .e (.n .e (.n (.h 0 [] [1] .e .e) .e))) .e) .e)) Tryz.func357 h
def L358:Y2:=
fun a b c d e=>
∀f:Jt,(∀g:Value,∀h:Hp,(∀_:Fr,
Br g (
rt e (iv 3) h) (
rt e (iv 0) h))→f [g] h)→
aa .num .leq c (ui 1) fun g=>
Split g false (
CR e a 356 #[b,c] d fun a b=>
Un .not a fun a=>
aq vF vT a fun a=>
JE f [a] b) (
aq vT vT undef fun a=>
JE f [a] d)
theorem vQ(h:L358 g a0 a1 H R):sc g 358 #[a0,a1] H R:=
  sd (.n .e (.n (.h 1 [12] [] .e .e) .e)) Tryz.func358 h
def L366:Y2:=
fun a b c d e=>
CR e a 357 #[b,c] d fun d f=>
lN d (iv 0) fun g=>
Br g (
rt e (tP (.slice none 0 0) d) f) (
lM 0 b f fun b=>
lI 1 b c f fun b=>
CR e a 392 #[b] f fun b c=>
CR e a 391 #[b] c fun a b=>
rt e (tP a (iv 0)) b)
theorem vP(h:L366 g a0 a1 H R):sc g 366 #[a0,a1] H R:=
  sd .e Tryz.func366 h
def L367:Y3:=
fun a b c d e f=>
lC 0 b fun b=>
CR f a 287 #[b,c] e fun a b=>
lQ 3 b #[(iv 0),(ui 0),(ui 0)] 226 a fun a b=>
lD 0 (pt a) b fun e=>
lE e d fun d=>
Br d (
lD 1 (pt a) b fun d=>
lD 2 (pt a) b fun a=>
rt f (tP d a) b) (
rt f (tP c c) b)
theorem vO(h:L367 g a0 a1 a2 H R):sc g 367 #[a0,a1,a2] H R:=
  sd .e Tryz.func367 h
def L368:Y2:=
fun a b c d e=>
dh d (.cells (Value.cells c) 226 (0,0)) fun c d=>
lD 0 (pt c) d fun f=>
lL f (iv 0) fun f=>
lO f (fun f=>
lD 0 (pt c) d fun g=>
aa .num .geq g (iv 64) fun g=>
(lV d g f)) fun f=>
Br (Value.bool f) (
rt e (iv 2) d) (
∀f:Jt,(∀g:Value,∀h:Hp,(∀_:Fr,
Br g (
rt e (iv 3) h) (
rt e (iv 0) h))→f [g] h)→
lD 1 (pt c) d fun g=>
CR e a 356 #[b,g] d fun d g=>
Un .not d fun d=>
Split d false (
lD 2 (pt c) g fun c=>
CR e a 356 #[b,c] g fun a b=>
Un .not a fun a=>
aq vF vT a fun a=>
JE f [a] b) (
aq vT vT undef fun a=>
JE f [a] g))
theorem vN(h:L368 g a0 a1 H R):sc g 368 #[a0,a1] H R:=
  sd (.n .e (.n (.n (.n (.h 0 [] [1] .e .e) (.n .e (.h 1 [14] [] .e .e))) .e) .e)) Tryz.func368 h
def L381:Y2:=
fun _ a b c d=>
dh c (.cells (Value.cells a) 397 (0,0)) fun a c=>
dh c (.cells (Value.cells b) 397 (0,0)) fun b c=>
lD 1 (pt a) c fun e=>
lD 1 (pt b) c fun f=>
lL e f fun e=>
lO e (fun e=>
lD 1 (pt a) c fun f=>
lD 1 (pt b) c fun g=>
lE f g fun f=>
c7 f true (fun f=>
lD 0 (pt a) c fun a=>
lD 0 (pt b) c fun b=>
lL a b fun a=>
(lV c a f)) (fun f=>vF=Value.bool f) fun f=>∀_:Fr,
(lV c (Value.bool f) e)) fun e=>
rt d (Value.bool e) c
theorem vM(h:L381 g a0 a1 H R):sc g 381 #[a0,a1] H R:=
  sd (.n .e (.n (.h 0 [] [1] .e .e) .e)) Tryz.func381 h
def L391:Y1:=
fun a b c d=>
CR d a 400 #[b] c fun b c=>
CR d a 401 #[b] c fun _ a=>
rt d b a
theorem vL(h:L391 g a0 H R):sc g 391 #[a0] H R:=
  sd .e Tryz.func391 h
def L392:Y1:=
fun _ a b c=>
dh b (.cells (Value.cells a) 167 (0,0)) fun a b=>
c (.returned (.func (.func 402) #[] #[(pt a)])) b
theorem vK(h:L392 g a0 H R):sc g 392 #[a0] H R:=
  sd .e Tryz.func392 h
def L400:Y1:=
fun a b c d=>
CR d a 405 #[(.slice none 0 0),b] c fun a b=>
rt d a b
theorem vJ(h:L400 g a0 H R):sc g 400 #[a0] H R:=
  sd .e Tryz.func400 h
def L401:Y1:=
fun a b c d=>
aM b fun e=>
bB .u64 e fun f=>
CR d a 154 #[f] c fun c f=>
CR d a 406 #[b,(iv 0),e,c] f fun _ a=>
rt d (.tuple #[]) a
theorem vI(h:L401 g a0 H R):sc g 401 #[a0] H R:=
  sd .e Tryz.func401 h
def L406:Y4:=
fun a b c d e f g=>
∃(h:Jt) (i:Mt),JE h [c,d,e,vT,vT] f∧∀c d e f j:Value,∀k:Hp,h [c,d,e,f,j] k→∀_:Fr,
lS d c fun l=>
aa .num .leq l (iv 12) fun m=>
Br m (
CR g a 407 #[b,c,d] k fun _ m=>
rt g (.tuple #[]) m) (
lE e (iv 0) fun m=>
Br m (
CR g a 408 #[b,c,d] k fun _ m=>
rt g (.tuple #[]) m) (
∀m:Jt,(∀n:Value,∀o:Hp,(∀_:Fr,
CR g a 410 #[b,c,d] o fun p q=>
lX p fun p r=>
∀s:Jt,(∀t u:Value,∀v:Hp,(∀_:Fr,
∀w:Jt,(∀x:Hp,(∀_:Fr,
∀y:Jt,(∀z:Value,∀A:Hp,(∀_:Fr,
Br z (
CR g a 414 #[b,c,d,t] A fun B C=>
aB h i [B,d,n,f,j] C [c,d,e,f,j] k) (
CR g a 415 #[b,c,d,t] A fun B C=>
lX B fun B D=>
lS B c fun E=>
lS d B fun F=>
aa .num .quo l (iv 8) fun l=>
lL E F fun G=>
Br G (
aa .num .geq E l fun E=>
CR g a 406 #[b,c,B,n] C fun _ G=>
lA B (iv 1) fun H=>
aB h i [H,d,n,E,D] G [c,d,e,f,j] k) (
aa .num .geq F l fun l=>
lA B (iv 1) fun E=>
CR g a 406 #[b,E,d,n] C fun _ C=>
aB h i [c,B,n,l,D] C [c,d,e,f,j] k)))→y [z] A)→
DR x fun h=>
lG c (iv 0) fun i=>
Br i (
lS c (iv 1) fun i=>
lI 1 b i h fun i=>
lI 1 b t h fun h=>
∀l:Hp,
CN (a.add l) 413 #[i,h] x fun h i=>
Un .not h fun h=>
aq vT h vF fun h=>
JE y [h] i) (
JE y [vF] x))→w [] x)→
lU f (fun h=>
(lV v j h)) fun h=>
lU (Value.bool h) (fun h=>
lE u (iv 1) fun i=>
(lV v i h)) fun h=>
Br (Value.bool h) (
CR g a 412 #[b,c,d] v fun h i=>
Br h (
rt g (.tuple #[]) i) (
JE w [] i)) (
JE w [] v))→s [t,u] v)→
lE r (iv 2) fun h=>
Br h (
CR g a 411 #[b,c,d] q fun _ h=>
lS d (iv 1) fun i=>
lS p c fun j=>
lS i j fun i=>
JE s [i,(iv 1)] h) (
JE s [p,r] q))→m [n] o)→
Un .not f fun f=>
Br f (
CR g a 409 #[b,c,d] k fun _ a=>
lS e (iv 1) fun b=>
JE m [b] a) (
JE m [e] k)))
theorem oZ(h:L406 g a0 a1 a2 a3 H R):sc g 406 #[a0,a1,a2,a3] H R:=
  sd (.n .e (.n .e (.n (.h 0 [1,2,3,8,9] [0] (.n (hN 3 (.h 1 [3] [0,1,2,8,9,10] .e (.n .e (.h 1 [11,12] [0,1,2,3,8,9,10] .e (.h 1 [] [0,1,2,3,8,9,10,11] (.n (.h 0 [] [1] .e .e) .e) (.n (.h 1 [87] [0,1,2,3,8,9,10,11] (.h 1 [] [] (hr 0 [] 0 2 (.h 2 [2] [] (hr 0 [] 3 12 .e) (hr 0 [] 3 11 (.h 3 [14] [] .e .e)))) .e) .e) .e)))))) .e) .e) .e))) Tryz.func406 h
def L407:Y3:=
fun a b c d e f=>
lA c (iv 1) fun g=>
∃(h:Jt) (i:Mt),JE h [g] e∧∀e:Value,∀g:Hp,h [e] g→∀_:Fr,
lL e d fun d=>
Br d (
∃(d:Jt) (j:Mt),JE d [e] g∧∀k:Value,∀l:Hp,d [k] l→∀_:Fr,
∀m:Jt,(∀n:Value,∀o:Hp,(∀_:Fr,
Br n (
DR o fun p=>
lS k (iv 1) fun q=>
lS k (iv 1) fun r=>
lI 1 b r p fun r=>
lI 1 b k p fun p=>
ai 1 b k fun s=>
St 1 o s r fun r=>
ai 1 b q fun q=>
St 1 r q p fun p=>
lS k (iv 1) fun q=>
aB d j [q] p [k] l) (
lA e (iv 1) fun d=>
aB h i [d] o [e] g))→m [n] o)→
DR l fun d=>
lG k c fun c=>
Br c (
lI 1 b k d fun c=>
lS k (iv 1) fun e=>
lI 1 b e d fun b=>
∀d:Hp,
CN (a.add d) 413 #[c,b] l fun a b=>
aq vT a vF fun a=>
JE m [a] b) (
JE m [vF] l)) (
rt f (.tuple #[]) g)
theorem vH(h:L407 g a0 a1 a2 H R):sc g 407 #[a0,a1,a2] H R:=
  sd (.n .e (.n (.h 0 [6] [0,1,2] (.n .e (.n (.n (.n .e (.n (.h 0 [7] [0,1,2,6] (.n (.h 1 [30] [0,1,2,6,7] (.h 1 [] [] (hr 0 [] 0 3 (.h 2 [3] [] (hr 0 [] 4 11 .e) (hr 0 [] 4 10 (.h 3 [14] [] .e .e)))) .e) .e) (.n (.n (.h 0 [0,1,2,3,4,5,6,7,8,9,10,11,12,13,14,15,16,17] [] .e .e) .e) .e)) .e) .e)) .e) .e)) .e) .e)) Tryz.func407 h
def L408:Y3:=
fun a b c d e f=>
lS d c fun d=>
lS d (iv 1) fun g=>
aa .num .quo g (iv 2) fun g=>
∃(h:Jt) (i:Mt),JE h [g] e∧∀e:Value,∀g:Hp,h [e] g→∀_:Fr,
aa .num .geq e (iv 0) fun j=>
Br j (
CR f a 416 #[b,e,d,c] g fun _ j=>
lS e (iv 1) fun k=>
aB h i [k] j [e] g) (
lS d (iv 1) fun d=>
∃(e:Jt) (h:Mt),JE e [d] g∧∀d:Value,∀g:Hp,e [d] g→∀_:Fr,
aa .num .geq d (iv 0) fun i=>
Br i (
DR g fun i=>
lA c d fun j=>
lA c d fun k=>
lI 1 b k i fun k=>
lI 1 b c i fun i=>
ai 1 b c fun l=>
St 1 g l k fun k=>
ai 1 b j fun j=>
St 1 k j i fun i=>
CR f a 416 #[b,(iv 0),d,c] i fun _ a=>
lS d (iv 1) fun b=>
aB e h [b] a [d] g) (
rt f (.tuple #[]) g))
theorem vG(h:L408 g a0 a1 a2 H R):sc g 408 #[a0,a1,a2] H R:=
  sd (hN 3 (.n (.n .e (.n (.h 0 [9] [0,6,7,8] .e .e) .e)) (.n .e (.n (.h 0 [10] [0,6,7] (.n .e (.n (.n (.n (.h 0 [0,1,2,3,4,5,6,7,8,9,10,11,12,13,14,15,16,17,18,19] [] .e .e) .e) .e) .e)) .e) .e)))) Tryz.func408 h
def L409:Y3:=
fun a b c d e f=>
lS d c fun d=>
aa .num .geq d (iv 8) fun g=>
Br g (
bB .u64 d fun g=>
lQ 1 e #[(wi 0)] 371 g fun g h=>
CR f a 304 #[d] h fun h i=>
aa .num .quo d (iv 4) fun j=>
aa .num .mul j (iv 2) fun j=>
lA c j fun j=>
lS j (iv 1) fun j=>
∃(k:Jt) (l:Mt),JE k [j] i∧∀i:Value,∀j:Hp,k [i] j→∀_:Fr,
aa .num .quo d (iv 4) fun m=>
aa .num .mul m (iv 2) fun m=>
lA c m fun m=>
lA m (iv 1) fun m=>
aa .num .leq i m fun m=>
Br m (
CR f a 305 #[(pt g)] j fun a g=>
lS h (wi 1) fun h=>
aa .num .and a h fun a=>
bB .i64 a fun a=>
∀h:Jt,(∀m:Value,∀n:Hp,(∀_:Fr,
DR n fun o=>
lA c m fun p=>
lA c m fun c=>
lI 1 b c o fun c=>
lI 1 b i o fun o=>
ai 1 b i fun q=>
St 1 n q c fun c=>
ai 1 b p fun b=>
St 1 c b o fun b=>
lA i (iv 1) fun c=>
aB k l [c] b [i] j)→h [m] n)→
aa .num .geq a d fun b=>
Br b (
lS a d fun b=>
JE h [b] g) (
JE h [a] g)) (
rt f (.tuple #[]) j)) (
rt f (.tuple #[]) e)
theorem vE(h:L409 g a0 a1 a2 H R):sc g 409 #[a0,a1,a2] H R:=
  sd (.n .e (.n .e (.n (hN 3 (.n (.h 0 [9] [0,1,6,7,8] (.n .e (.n (.n (.n .e (.h 1 [10] [0,1,6,7,8,9] .e (.h 0 [0,1,2,3,4,5,6,7,8,9,10,11,12,13,14,15,16,17,18,19] [] .e .e))) .e) .e)) .e) .e)) .e))) Tryz.func409 h
def L410:Y3:=
fun a b c d e f=>
lS d c fun d=>
lW e #[(iv 0)] 3 fun e g=>
aa .num .quo d (iv 4) fun h=>
aa .num .mul h (iv 1) fun h=>
lA c h fun h=>
aa .num .quo d (iv 4) fun i=>
aa .num .mul i (iv 2) fun i=>
lA c i fun i=>
aa .num .quo d (iv 4) fun j=>
aa .num .mul j (iv 3) fun j=>
lA c j fun c=>
∀j:Jt,(∀k:Value,∀l:Hp,(∀_:Fr,
Ld l (pt e) fun m=>
lE m (iv 0) fun n=>
Br n (
rt f (tP k (iv 1)) l) (
lE m (iv 12) fun m=>
Br m (
rt f (tP k (iv 2)) l) (
rt f (tP k (iv 0)) l)))→j [k] l)→
aa .num .geq d (iv 8) fun k=>
Br k (
∀k:Jt,(∀l m n:Value,∀o:Hp,(∀_:Fr,
CR f a 418 #[b,l,m,n,(pt e)] o fun p q=>
JE j [p] q)→k [l,m,n] o)→
aa .num .geq d (iv 50) fun d=>
Br d (
CR f a 417 #[b,h,(pt e)] g fun d l=>
CR f a 417 #[b,i,(pt e)] l fun l m=>
CR f a 417 #[b,c,(pt e)] m fun a b=>
JE k [d,l,a] b) (
JE k [h,i,c] g)) (
JE j [i] g)
theorem vD(h:L410 g a0 a1 a2 H R):sc g 410 #[a0,a1,a2] H R:=
  sd (hN 6 (.h 1 [11] [9] (.n .e (.n (.h 1 [10,11,12] [0,9] .e .e) .e)) .e)) Tryz.func410 h
def L411:Y3:=
fun _ a b c d e=>
lS c (iv 1) fun c=>
∃(f:Jt) (g:Mt),JE f [b,c] d∧∀b c:Value,∀d:Hp,f [b,c] d→∀_:Fr,
lL b c fun h=>
Br h (
DR d fun h=>
lI 1 a c h fun i=>
lI 1 a b h fun h=>
ai 1 a b fun j=>
St 1 d j i fun i=>
ai 1 a c fun a=>
St 1 i a h fun a=>
lA b (iv 1) fun h=>
lS c (iv 1) fun i=>
aB f g [h,i] a [b,c] d) (
rt e (.tuple #[]) d)
theorem vC(h:L411 g a0 a1 a2 H R):sc g 411 #[a0,a1,a2] H R:=
  sd (.n .e (.n .e (.n (.h 0 [6,7] [0] (.n .e (.n (.n (.h 0 [0,1,2,3,4,5,6,7,8,9,10,11,12,13,14,15] [] .e .e) .e) .e)) .e) .e))) Tryz.func411 h
def L412:Y3:=
fun a b c d e f=>
lA c (iv 1) fun g=>
∃(h:Jt) (i:Mt),JE h [g,(iv 0)] e∧∀e g:Value,∀j:Hp,h [e,g] j→∀_:Fr,
lL g (iv 5) fun k=>
Br k (
∀k:Jt,(∀l:Value,∀m:Hp,(∀_:Fr,
lA g (iv 1) fun n=>
aB h i [l,n] m [e,g] j)→k [l] m)→
∃(g:Jt) (h:Mt),JE g [e] j∧∀e:Value,∀i:Hp,g [e] i→∀_:Fr,
∀l:Jt,(∀m:Value,∀n:Hp,(∀_:Fr,
Br m (
lA e (iv 1) fun o=>
aB g h [o] n [e] i) (
lE e d fun g=>
Br g (
rt f vT n) (
lS d c fun g=>
lL g (iv 50) fun g=>
Br g (
rt f vF n) (
DR n fun g=>
lS e (iv 1) fun h=>
lS e (iv 1) fun o=>
lI 1 b o g fun o=>
lI 1 b e g fun g=>
ai 1 b e fun p=>
St 1 n p o fun o=>
ai 1 b h fun h=>
St 1 o h g fun g=>
∀h:Jt,(∀o:Hp,(∀_:Fr,
lS d e fun p=>
aa .num .geq p (iv 2) fun p=>
Br p (
lA e (iv 1) fun p=>
∃(q:Jt) (r:Mt),JE q [p] o∧∀p:Value,∀s:Hp,q [p] s→∀_:Fr,
lL p d fun t=>
Br t (
DR s fun t=>
lI 1 b p t fun u=>
lS p (iv 1) fun v=>
lI 1 b v t fun t=>
CN a 413 #[u,t] s fun t u=>
Un .not t fun t=>
Br t (
JE k [e] u) (
DR u fun t=>
lS p (iv 1) fun v=>
lS p (iv 1) fun w=>
lI 1 b w t fun w=>
lI 1 b p t fun t=>
ai 1 b p fun x=>
St 1 u x w fun u=>
ai 1 b v fun v=>
St 1 u v t fun t=>
lA p (iv 1) fun u=>
aB q r [u] t [p] s)) (
JE k [e] s)) (
JE k [e] o))→h [] o)→
lS e c fun c=>
aa .num .geq c (iv 2) fun c=>
Br c (
lS e (iv 1) fun c=>
∃(k:Jt) (o:Mt),JE k [c] g∧∀c:Value,∀p:Hp,k [c] p→∀_:Fr,
aa .num .geq c (iv 1) fun q=>
Br q (
DR p fun q=>
lI 1 b c q fun r=>
lS c (iv 1) fun s=>
lI 1 b s q fun q=>
CN a 413 #[r,q] p fun q r=>
Un .not q fun q=>
Br q (
JE h [] r) (
DR r fun q=>
lS c (iv 1) fun s=>
lS c (iv 1) fun t=>
lI 1 b t q fun t=>
lI 1 b c q fun q=>
ai 1 b c fun u=>
St 1 r u t fun r=>
ai 1 b s fun s=>
St 1 r s q fun q=>
lS c (iv 1) fun r=>
aB k o [r] q [c] p)) (
JE h [] p)) (
JE h [] g)))))→l [m] n)→
DR i fun c=>
lL e d fun d=>
Br d (
lI 1 b e c fun d=>
lS e (iv 1) fun e=>
lI 1 b e c fun b=>
∀c:Hp,
CN (a.add c) 413 #[d,b] i fun a b=>
Un .not a fun a=>
aq vT a vF fun a=>
JE l [a] b) (
JE l [vF] i)) (
rt f vF j)
theorem vB(h:L412 g a0 a1 a2 H R):sc g 412 #[a0,a1,a2] H R:=
  sd (.n .e (.n .e (.n (.n .e (.n (.h 0 [7,8] [0,1,2] (.n .e (.h 1 [7] [0,1,2,8] (.n (.n (.n (.h 0 [7] [0,1,2,8] (.n (.h 1 [32] [0,1,2,7,8] (.h 1 [] [] (hr 0 [] 0 3 (.h 2 [3] [] (hr 0 [] 4 12 .e) (hr 0 [] 4 11 (.h 3 [15] [] .e .e)))) .e) .e) .e) .e) .e) (.n .e (.n .e (.n (.h 0 [0,1,2,3,4,5,6,7,8,9,10,11,12,13,14,15,16,17] [] .e .e) (.h 1 [] [0,1,2,7,8] (.n .e (.n (.n .e (.n (.h 0 [9] [0,1,2,7,8] (.n .e (.n (.n (.n (.n (.h 0 [0,1,2,3,4,5,6,7,8,9,10] [] .e .e) .e) (.h 0 [0,1,2,3,4,5,6,7,8,9,10,11,12,13,14,15,16,17] [] .e .e)) .e) .e)) .e) .e)) .e)) (.n .e (.n (.n .e (.n (.h 0 [10] [0,1,2,7,8] (.n .e (.n (.n (.n (.n (.h 0 [0,1,2,3,4,5,6,7,8,9,10] [] .e .e) .e) (.h 0 [0,1,2,3,4,5,6,7,8,9,10,11,12,13,14,15,16,17] [] .e .e)) .e) .e)) .e) .e)) .e))))))) .e) .e)) .e) .e)) .e))) Tryz.func412 h
def L413:Y2:=
fun a b c d e=>
∀f:Jt,(∀g:Value,∀h:Hp,(∀_:Fr,
rt e g h)→f [g] h)→
CR e a 419 #[b] d fun d g=>
Split d true (
CR e a 419 #[c] g fun a d=>
Un .not a fun a=>
aq vT a vF fun a=>
Split a false (
lL b c fun a=>
aq vF vT a fun a=>
JE f [a] d) (
aq vT vT undef fun a=>
JE f [a] d)) (
aq vF undef vF fun a=>
lL b c fun b=>
aq a vT b fun a=>
JE f [a] g)
theorem vA(h:L413 g a0 a1 H R):sc g 413 #[a0,a1] H R:=
  sd (.n .e (.h 1 [4] [] .e .e)) Tryz.func413 h
def L414:Y4:=
fun a b c d e f g=>
DR f fun h=>
lI 1 b e h fun i=>
lI 1 b c h fun h=>
ai 1 b c fun j=>
St 1 f j i fun f=>
ai 1 b e fun e=>
St 1 f e h fun e=>
lA c (iv 1) fun f=>
lS d (iv 1) fun d=>
∃(h:Jt) (i:Mt),JE h [f,d] e∧∀d e:Value,∀f:Hp,h [d,e] f→∀_:Fr,
∃(j:Jt) (k:Mt),JE j [d] f∧∀l:Value,∀m:Hp,j [l] m→∀_:Fr,
∀n:Jt,(∀o:Value,∀p:Hp,(∀_:Fr,
Br o (
lA l (iv 1) fun q=>
aB j k [q] p [l] m) (
∃(j:Jt) (k:Mt),JE j [e] p∧∀q:Value,∀r:Hp,j [q] r→∀_:Fr,
∀s:Jt,(∀t:Value,∀u:Hp,(∀_:Fr,
Br t (
lS q (iv 1) fun v=>
aB j k [v] u [q] r) (
lG l q fun j=>
Br j (
rt g l u) (
DR u fun g=>
lI 1 b q g fun j=>
lI 1 b l g fun g=>
ai 1 b l fun k=>
St 1 u k j fun j=>
ai 1 b q fun k=>
St 1 j k g fun g=>
lA l (iv 1) fun j=>
lS q (iv 1) fun k=>
aB h i [j,k] g [d,e] f)))→s [t] u)→
DR r fun d=>
aa .num .leq l q fun f=>
Br f (
lI 1 b c d fun f=>
lI 1 b q d fun d=>
∀g:Hp,
CN (a.add g) 413 #[f,d] r fun d f=>
aq vT d vF fun d=>
JE s [d] f) (
JE s [vF] r)))→n [o] p)→
DR m fun d=>
aa .num .leq l e fun e=>
Br e (
lI 1 b c d fun c=>
lI 1 b l d fun b=>
∀d:Hp,
CN (a.add d) 413 #[c,b] m fun a b=>
Un .not a fun a=>
aq vT a vF fun a=>
JE n [a] b) (
JE n [vF] m)
theorem vz(h:L414 g a0 a1 a2 a3 H R):sc g 414 #[a0,a1,a2,a3] H R:=
  sd (.n .e (.n (.h 0 [0,1,2,3,4,5,6,7,8,9,10,11,12,13,14,15] [] .e .e) (.n .e (.n (.n (.h 0 [9,10] [0,1] (.n (.n (.n (.h 0 [9] [0,1,10] (.n (.h 1 [43] [0,1,9,10] (.h 1 [] [] (hr 0 [] 0 3 (.h 2 [3] [] (hr 0 [] 4 11 .e) (hr 0 [] 4 10 (.h 3 [14] [] .e .e)))) .e) .e) .e) .e) .e) (.n (.n (.h 0 [10] [0,1,9] (.n (.h 1 [59] [0,1,9,10] (.h 1 [] [] (hr 0 [] 0 3 (.h 2 [3] [] (hr 0 [] 4 10 .e) (hr 0 [] 4 9 (.h 3 [13] [] .e .e)))) .e) .e) .e) .e) .e) (.n .e (.n (.h 0 [0,1,2,3,4,5,6,7,8,9,10,11,12,13,14,15] [] .e .e) .e)))) .e) .e) .e) .e)))) Tryz.func414 h
def L415:Y4:=
fun a b c d e f g=>
DR f fun h=>
lI 1 b e h fun i=>
lI 1 b c h fun h=>
ai 1 b c fun j=>
St 1 f j i fun f=>
ai 1 b e fun e=>
St 1 f e h fun e=>
lA c (iv 1) fun f=>
lS d (iv 1) fun d=>
∃(h:Jt) (i:Mt),JE h [f] e∧∀e:Value,∀f:Hp,h [e] f→∀_:Fr,
∀j:Jt,(∀k:Value,∀l:Hp,(∀_:Fr,
Br k (
lA e (iv 1) fun m=>
aB h i [m] l [e] f) (
∃(h:Jt) (i:Mt),JE h [d] l∧∀m:Value,∀n:Hp,h [m] n→∀_:Fr,
∀o:Jt,(∀p:Value,∀q:Hp,(∀_:Fr,
Br p (
lS m (iv 1) fun r=>
aB h i [r] q [m] n) (
lG e m fun h=>
Br h (
DR q fun h=>
lI 1 b c h fun i=>
lI 1 b m h fun h=>
ai 1 b m fun r=>
St 1 q r i fun i=>
ai 1 b c fun r=>
St 1 i r h fun h=>
rt g (tP m vT) h) (
DR q fun h=>
lI 1 b m h fun i=>
lI 1 b e h fun h=>
ai 1 b e fun r=>
St 1 q r i fun i=>
ai 1 b m fun r=>
St 1 i r h fun h=>
lA e (iv 1) fun i=>
lS m (iv 1) fun r=>
∃(s:Jt) (t:Mt),JE s [i,r] h∧∀h i:Value,∀r:Hp,s [h,i] r→∀_:Fr,
∃(u:Jt) (v:Mt),JE u [h] r∧∀w:Value,∀x:Hp,u [w] x→∀_:Fr,
∀y:Jt,(∀z:Value,∀A:Hp,(∀_:Fr,
Br z (
lA w (iv 1) fun B=>
aB u v [B] A [w] x) (
∃(u:Jt) (v:Mt),JE u [i] A∧∀B:Value,∀C:Hp,u [B] C→∀_:Fr,
∀D:Jt,(∀E:Value,∀F:Hp,(∀_:Fr,
Br E (
lS B (iv 1) fun G=>
aB u v [G] F [B] C) (
lG w B fun u=>
Br u (
DR F fun u=>
lI 1 b c u fun v=>
lI 1 b B u fun u=>
ai 1 b B fun G=>
St 1 F G v fun v=>
ai 1 b c fun G=>
St 1 v G u fun u=>
rt g (tP B vF) u) (
DR F fun g=>
lI 1 b B g fun u=>
lI 1 b w g fun g=>
ai 1 b w fun v=>
St 1 F v u fun u=>
ai 1 b B fun v=>
St 1 u v g fun g=>
lA w (iv 1) fun u=>
lS B (iv 1) fun v=>
aB s t [u,v] g [h,i] r)))→D [E] F)→
DR C fun g=>
aa .num .leq w B fun h=>
Br h (
lI 1 b B g fun h=>
lI 1 b c g fun g=>
∀r:Hp,
CN (a.add r) 413 #[h,g] C fun g h=>
Un .not g fun g=>
aq vT g vF fun g=>
JE D [g] h) (
JE D [vF] C)))→y [z] A)→
DR x fun g=>
aa .num .leq w i fun h=>
Br h (
lI 1 b w g fun h=>
lI 1 b c g fun g=>
∀i:Hp,
CN (a.add i) 413 #[h,g] x fun g h=>
aq vT g vF fun g=>
JE y [g] h) (
JE y [vF] x))))→o [p] q)→
DR n fun g=>
aa .num .leq e m fun h=>
Br h (
lI 1 b m g fun h=>
lI 1 b c g fun g=>
∀i:Hp,
CN (a.add i) 413 #[h,g] n fun g h=>
Un .not g fun g=>
aq vT g vF fun g=>
JE o [g] h) (
JE o [vF] n)))→j [k] l)→
DR f fun g=>
aa .num .leq e d fun d=>
Br d (
lI 1 b e g fun d=>
lI 1 b c g fun b=>
∀c:Hp,
CN (a.add c) 413 #[d,b] f fun a b=>
aq vT a vF fun a=>
JE j [a] b) (
JE j [vF] f)
theorem vy(h:L415 g a0 a1 a2 a3 H R):sc g 415 #[a0,a1,a2,a3] H R:=
  sd (.n .e (.n (.h 0 [0,1,2,3,4,5,6,7,8,9,10,11,12,13,14,15] [] .e .e) (.n .e (.n (.n (.h 0 [10] [0,1,11] (.n (.h 1 [43] [0,1,10,11] (.h 1 [] [] (hr 0 [] 0 3 (.h 2 [3] [] (hr 0 [] 4 10 .e) (hr 0 [] 4 9 (.h 3 [13] [] .e .e)))) .e) .e) .e) .e) .e) (.n (.n (.h 0 [11] [0,1,10] (.n (.h 1 [60] [0,1,10,11] (.h 1 [] [] (hr 0 [] 0 3 (.h 2 [3] [] (hr 0 [] 4 11 .e) (hr 0 [] 4 10 (.h 3 [14] [] .e .e)))) .e) .e) .e) .e) .e) (.n (.n .e (.n (.n (.h 0 [0,1,2,3,4,5,6,7,8,9,10,11,12,13,14,15] [] .e .e) .e) .e)) (.n (.h 0 [0,1,2,3,4,5,6,7,8,9,10,11,12,13,14,15] [] .e .e) (.n .e (.n .e (.n (.n (.h 0 [10,11] [0,1] (.n (.n (.n (.h 0 [10] [0,1,11] (.n (.h 1 [112] [0,1,10,11] (.h 1 [] [] (hr 0 [] 0 3 (.h 2 [3] [] (hr 0 [] 4 10 .e) (hr 0 [] 4 9 (.h 3 [13] [] .e .e)))) .e) .e) .e) .e) .e) (.n (.n (.h 0 [11] [0,1,10] (.n (.h 1 [129] [0,1,10,11] (.h 1 [] [] (hr 0 [] 0 3 (.h 2 [3] [] (hr 0 [] 4 11 .e) (hr 0 [] 4 10 (.h 3 [14] [] .e .e)))) .e) .e) .e) .e) .e) (.n .e (.n (.h 0 [0,1,2,3,4,5,6,7,8,9,10,11,12,13,14,15] [] .e .e) .e)))) .e) .e) .e) (.n (.h 0 [0,1,2,3,4,5,6,7,8,9,10,11,12,13,14,15] [] .e .e) .e))))))))))) Tryz.func415 h
def L416:Y4:=
fun a b c d e f g=>
∃(h:Jt) (i:Mt),JE h [c] f∧∀c:Value,∀f:Hp,h [c] f→∀_:Fr,
aa .num .mul (iv 2) c fun j=>
lA j (iv 1) fun j=>
aa .num .geq j d fun k=>
Br k (
rt g (.tuple #[]) f) (
∀k:Jt,(∀l:Value,∀m:Hp,(∀_:Fr,
DR m fun n=>
lA e c fun o=>
lI 1 b o n fun o=>
lA e l fun p=>
lI 1 b p n fun n=>
CN a 413 #[o,n] m fun n o=>
Un .not n fun n=>
Br n (
rt g (.tuple #[]) o) (
DR o fun g=>
lA e c fun n=>
lA e l fun p=>
lA e l fun q=>
lI 1 b q g fun q=>
lA e c fun r=>
lI 1 b r g fun g=>
ai 1 b n fun n=>
St 1 o n q fun n=>
ai 1 b p fun o=>
St 1 n o g fun g=>
aB h i [l] g [c] f))→k [l] m)→
∀c:Jt,(∀g:Value,∀h:Hp,(∀_:Fr,
Br g (
lA j (iv 1) fun i=>
JE k [i] h) (
JE k [j] h))→c [g] h)→
DR f fun g=>
lA j (iv 1) fun h=>
lL h d fun d=>
Br d (
lA e j fun d=>
lI 1 b d g fun d=>
lA e j fun e=>
lA e (iv 1) fun e=>
lI 1 b e g fun b=>
∀e:Hp,
CN (a.add e) 413 #[d,b] f fun a b=>
aq vT a vF fun a=>
JE c [a] b) (
JE c [vF] f))
theorem vx(h:L416 g a0 a1 a2 a3 H R):sc g 416 #[a0,a1,a2,a3] H R:=
  sd (.n .e (.n (.h 0 [8] [0,2,3] (.n (.n .e (.n .e (.h 1 [9] [0,2,3,8] (.h 1 [36] [0,2,3,8,9] (.h 1 [] [] (hr 0 [] 0 4 (.h 2 [4] [] (hr 0 [] 5 15 .e) (hr 0 [] 5 14 (.h 3 [19] [] .e .e)))) .e) .e) (.n (.n (.h 0 [0,1,2,3,4,5,6,7,8,9,10,11,12,13] [] .e .e) .e) (.n (.h 0 [0,1,2,3,4,5,6,7,8,9,10,11,12,13,14,15,16,17,18,19,20,21,22,23] [] .e .e) .e))))) .e) .e) .e)) Tryz.func416 h
def L417:Y3:=
fun a b c d e f=>
lS c (iv 1) fun g=>
lA c (iv 1) fun h=>
CR f a 418 #[b,g,c,h,d] e fun a b=>
rt f a b
theorem vw(h:L417 g a0 a1 a2 H R):sc g 417 #[a0,a1,a2] H R:=
  sd .e Tryz.func417 h
def L418:Y5:=
fun a b c d e f g h=>
CR h a 420 #[b,c,d,f] g fun c d=>
lX c fun c g=>
CR h a 420 #[b,g,e,f] d fun d e=>
lX d fun d _=>
CR h a 420 #[b,c,d,f] e fun a b=>
lX a fun _ a=>
rt h a b
theorem vv(h:L418 g a0 a1 a2 a3 a4 H R):sc g 418 #[a0,a1,a2,a3,a4] H R:=
  sd .e Tryz.func418 h
def L419:Y1:=
fun _ a b c=>
lN a a fun a=>
rt c a b
theorem vq(h:L419 g a0 H R):sc g 419 #[a0] H R:=
  sd .e Tryz.func419 h
def L420:Y4:=
fun a b c d e f g=>
DR f fun h=>
lI 1 b d h fun i=>
lI 1 b c h fun b=>
CN a 413 #[i,b] f fun a b=>
Br a (
Nil e fun a=>
Ld b a fun a=>
lA a (iv 1) fun a=>
Nil e fun e=>
St 1 b e a fun a=>
rt g (tP d c) a) (
rt g (tP c d) b)
theorem vp(h:L420 g a0 a1 a2 a3 H R):sc g 420 #[a0,a1,a2,a3] H R:=
  sd (.n .e (.n (.n (.h 0 [0,1,2,3,4,5,6,7,8] [] .e .e) .e) .e)) Tryz.func420 h
end Go.Proofs
namespace Go.Sx
open Go
section
variable {P:Program} {g:Gh} {H:Hp}
theorem aP{f:FuncId}{args:Array Value}{C:Hp}{Q:Value→Hp→Prop}(h:∀g,bG P g f args C (aZ Q)):Fc P f args C Q:=h
theorem Ld.q{b off:Nat}{c:Array Value}{T:TypeId}{fz:Nat×Nat}{v:Value}{k:Value→Prop}(h:k v)(hm:(b,Obj.cells c T fz)∈H:=by repeat (first|exact List.Mem.head _|apply List.Mem.tail|apply List.mem_append_right))(hc:c[off]? =some v:=by rfl):Ld H (.pointer (some ⟨b,off,none⟩)) k:=.mk hm hc h
theorem Ld.f{b o off:Nat}{c:Array Value}{T:TypeId}{fz:Nat×Nat}{v:Value}{k:Value→Prop}(h:k v)(hm:(b,Obj.cells c T fz)∈H:=by repeat (first|exact List.Mem.head _|apply List.Mem.tail|apply List.mem_append_right))(hc:c[o+off]? =some v:=by rfl):ag off (.pointer (some ⟨b,o,none⟩)) fun p=>Ld H p k:=.mk (.mk hm hc h)
theorem Ld.n{b o off:Nat}{c:Array Value}{T:TypeId}{fz:Nat×Nat}{v:Value}{k:Value→Prop}(h:k v)(hm:(b,Obj.cells c T fz)∈H:=by repeat (first|exact List.Mem.head _|apply List.Mem.tail|apply List.mem_append_right))(hc:c[o+off]? =some v:=by rfl):Nil (.pointer (some ⟨b,o,none⟩)) fun q=>ag off q fun p=>Ld H p k:=.ptr (.mk (.mk hm hc h))
theorem Ld.u{b o off:Nat}{c:Array Value}{T:TypeId}{fz:Nat×Nat}{v:Value}{k:Value→Prop}(hm:(b,Obj.cells c T fz)∈H)(h:k v)(hc:c[o+off]? =some v:=by rfl):ag off (.pointer (some ⟨b,o,none⟩)) fun p=>Ld H p k:=.mk (.mk hm hc h)
theorem Ld.v{b o off:Nat}{c:Array Value}{T:TypeId}{fz:Nat×Nat}{v:Value}{k:Value→Prop}(hm:(b,Obj.cells c T fz)∈H)(h:k v)(hc:c[o+off]? =some v:=by rfl):Nil (.pointer (some ⟨b,o,none⟩)) fun q=>ag off q fun p=>Ld H p k:=.ptr (.mk (.mk hm hc h))
theorem ay.q{b n:Nat}{r:List Value}{T:TypeId}{fz:Nat×Nat}{K:Value→Prop}(h:K (.agg r.toArray))(hm:(b,Obj.cells r.toArray T fz)∈H:=by repeat (first|exact List.Mem.head _|apply List.Mem.tail|apply List.mem_append_right))(hr:r.length=n:=by rfl):ay n H (.pointer (some ⟨b,0,none⟩)) K:=.whole hm hr h
theorem St.q{b n:Nat}{c:Array Value}{T:TypeId}{r:List Value}{H':Hp}{K:Hp→Prop}(h:K H')(hu:ct b (.cells c T (0,0)) (.cells r.toArray T (0,0)) H H':=by repeat (first|exact ct.head _|apply ct.tail|apply ct.bL))(hs:c.size=n:=by rfl)(hr:r.length=n:=by rfl)(h1:∀v∈r,v.oneCell'=true:=by simp[Value.oneCell']):
  St n H (.pointer (some ⟨b,0,none⟩)) (.agg r.toArray) K:=.whole hu hs hr h1 h
theorem St.p{b n:Nat}{c:Array Value}{T:TypeId}{r:List Value}{H':Hp}{K:Hp→Prop}(h1:∀v∈r,v.oneCell'=true)(h:K H')(hu:ct b (.cells c T (0,0)) (.cells r.toArray T (0,0)) H H':=by repeat (first|exact ct.head _|apply ct.tail|apply ct.bL))(hs:c.size=n:=by rfl)(hr:r.length=n:=by rfl):
  St n H (.pointer (some ⟨b,0,none⟩)) (.agg r.toArray) K:=.whole hu hs hr h1 h
section
variable {kd rA:IntKind} {a b:Nat} {k:Value→Prop}
theorem aa.fO(h:k (.int kd ((a+b:Nat):Int)))(hr:a+b<dc kd:=by first|(simp[dc];omega)|(simp only[dc];omega)|simp[dc]):aa .num .add (.int kd a) (.int kd b) k:=.LK hr h
theorem aa.inc(h:k (.int kd ((a+1:Nat):Int)))(hr:a+1<dc kd:=by first|(simp[dc];omega)|(simp only[dc];omega)|simp[dc]):aa .num .add (.int kd a) (.int kd 1) k:=.LK hr h
theorem aa.bF(h:k (.int kd ((a-b:Nat):Int)))(ha:a<dc kd:=by first|(simp[dc];omega)|(simp only[dc];omega)|simp[dc])(hb:b≤a:=by omega):aa .num .sub (.int kd a) (.int kd b) k:=.Bn ha hb h
theorem aa.rf(h:k (.int kd ((a*b:Nat):Int)))(hr:a*b<dc kd:=by first|(simp[dc];omega)|(simp only[dc];omega)|simp[dc]):aa .num .mul (.int kd a) (.int kd b) k:=.Nc hr h
theorem bB.q(h:k (.int kd (a:Int)))(ha:a<dc kd:=by first|(simp[dc];omega)|(simp only[dc];omega)|simp[dc]):bB kd (.int rA a) k:=.nat ha h
end
theorem Br.T{p:Prop}[Decidable p]{t f:Prop}(h:t)(hp:p:=by first|omega|decide|simp):Br (.bool (decide p)) t f:=.OZ hp h
theorem Br.F{p:Prop}[Decidable p]{t f:Prop}(h:f)(hp:¬p:=by first|omega|decide|simp):Br (.bool (decide p)) t f:=.Gf hp h
theorem ae.fq{f:FuncId}{args:Array Value}{C H:Hp}{c:Hp→Hp}{Q:Value→Hp→Prop}{K:Value→Hp→Prop}{KP:List PanicEntry→Hp→Prop}(hc:Fc P f args C Q)
 (hk:∀v C',Q v C'→K v (c C'))(hh:br C H c:=by repeat (first|exact br.here|exact br.left|apply br.cons|apply br.app)):ae P g f args H K KP:=.fn hh hc hk
theorem ae.rq{f:FuncId}{args:Array Value}{B H:Hp}{c:Hp→Hp}{Q:Value→Prop}{K:Value→Hp→Prop}{KP:List PanicEntry→Hp→Prop}(hc:Rd P f args B Q)
 (hk:∀v,Q v→K v H)(hh:br B H c:=by repeat (first|exact br.here|exact br.left|apply br.cons|apply br.app)):ae P g f args H K KP:=.rd hh hc hk
theorem ae.eq{f:FuncId}{args:Array Value}{B H:Hp}{c:Hp→Hp}{v:Value}{K:Value→Hp→Prop}{KP:List PanicEntry→Hp→Prop}(hc:Rd P f args B (· =v))
 (hk:K v H)(hh:br B H c:=by repeat (first|exact br.here|exact br.left|apply br.cons|apply br.app)):ae P g f args H K KP:=.rd hh hc fun _ h=>by subst h;exact hk
theorem ae.eh{f:FuncId}{args:Array Value}{B H:Hp}{c:Hp→Hp}{v:Value}{K:Value→Hp→Prop}{KP:List PanicEntry→Hp→Prop}(hh:br B H c)(hc:Rd P f args B (· =v))
 (hk:K v H):ae P g f args H K KP:=.rd hh hc fun _ h=>by subst h;exact hk
theorem Ext.two{x y:Value}{k:Value→Value→Prop}(h:k x y):Ext 0 (.tuple #[x,y]) fun a=>Ext 1 (.tuple #[x,y]) fun b=>k a b:=.mk rfl (.mk rfl h)
end
end Go.Sx
namespace av
open eH
theorem dF{x u v:Nat}{b c:Bool}(h:u≠v):aO (aO x u b) v c=aO (aO x v c) u b:=by
 apply Nat.eq_of_testBit_eq;intro k
 rw[ah,ah,ah,ah]
 by_cases e1:k=u<;>by_cases e2:k=v
 ·exact absurd (e1.symm.trans e2) h
 ·simp[e1,h]
 ·simp[e2,Ne.symm h]
 ·simp[e1,e2]
structure Nd where
 v:Nat
 lo:Nat
 hi:Nat
deriving DecidableEq
abbrev cN:=Nat→Option Nd
abbrev Fn:=Nat→Bool
def live(N:cN)(r:Nat):Prop:=r<2∨∃d,N r=some d
def dep(n:Nat)(af:Nat→Nat)(N:cN)(r:Nat):Nat:=match N r with|some d=>af d.v|none=>n
structure WF(n:Nat)(af:Nat→Nat)(N:cN):Prop where
 two:∀{r d},N r=some d→2≤r
 var:∀{r d},N r=some d→d.v<n
 ne:∀{r d},N r=some d→d.lo≠d.hi
 lo:∀{r d},N r=some d→live N d.lo∧af d.v<dep n af N d.lo
 hi:∀{r d},N r=some d→live N d.hi∧af d.v<dep n af N d.hi
 uq:∀{r r' d},N r=some d→N r'=some d→r=r'
structure jh(n:Nat)(af:Nat→Nat):Prop where
 lt:∀v,v<n→af v<n
 inj:∀u v,u<n→v<n→af u=af v→u=v
structure Interp(N:cN)(S:Nat→Fn):Prop where
 zero:∀x,S 0 x=false
 one:∀x,S 1 x=true
 node:∀{r d},N r=some d→∀x,S r x=if x.testBit d.v then S d.hi x else S d.lo x
variable {n:Nat} {af:Nat→Nat} {N:cN} {S:Nat→Fn}
theorem aL{r:Nat}(h:N r=none):dep n af N r=n:=by unfold dep;rw[h]
theorem aj{r:Nat}{d:Nd}(h:N r=some d):dep n af N r=af d.v:=by unfold dep;rw[h]
theorem WF.gi(h:WF n af N)(hl:jh n af)(r:Nat):dep n af N r≤n:=by
 cases e:N r with
 |none=>rw[aL e];exact Nat.le_refl _
 |some d=>rw[aj e];exact Nat.le_of_lt (hl.lt _ (h.var e))
theorem WF.const(h:WF n af N){r:Nat}(hr:r<2):N r=none:=by
 cases e:N r with
 |none=>rfl
 |some d=>have:=h.two e;omega
theorem WF.indep(h:WF n af N)(hl:jh n af)(hi:Interp N S):∀(k r:Nat),n-dep n af N r≤k→live N r→∀v,v<n→af v<dep n af N r→∀x b,S r (aO x v b)=S r x:=by
 intro k
 induction k with
 |zero=>
  intro r hk hr v hv hlt x b
  rcases hr with hr|⟨d,hd⟩
  ·have:r=0∨r=1:=by omega
   rcases this with rfl|rfl
   ·rw[hi.zero,hi.zero]
   ·rw[hi.one,hi.one]
  ·have h1:=hl.lt _ (h.var hd)
   rw[aj hd]at hk;omega
 |succ k ih=>
  intro r hk hr v hv hlt x b
  rcases hr with hr|⟨d,hd⟩
  ·have:r=0∨r=1:=by omega
   rcases this with rfl|rfl
   ·rw[hi.zero,hi.zero]
   ·rw[hi.one,hi.one]
  ·rw[aj hd]at hk hlt
   have h1:=hl.lt _ (h.var hd)
   obtain⟨l1,l2⟩:=h.lo hd
   obtain⟨m1,m2⟩:=h.hi hd
   have hne:d.v≠v:=fun e=>by rw[e]at hlt;omega
   rw[hi.node hd,hi.node hd,ah,if_neg hne,ih d.lo (by omega) l1 v hv (by omega),ih d.hi (by omega) m1 v hv (by omega)]
theorem WF.bt(h:WF n af N)(hl:jh n af)(hi:Interp N S){r:Nat}(hr:live N r){v:Nat}(hv:v<n)(hlt:af v<dep n af N r)(x:Nat)(b:Bool):S r (aO x v b)=S r x:=
 h.indep hl hi _ r (Nat.le_refl _) hr v hv hlt x b
theorem WF.child(h:WF n af N)(hl:jh n af)(hi:Interp N S){r:Nat}{d:Nd}(hd:N r=some d)(x:Nat)(b:Bool):S r (aO x d.v b)=S (if b then d.hi else d.lo) x:=by
 obtain⟨l1,l2⟩:=h.lo hd
 obtain⟨m1,m2⟩:=h.hi hd
 rw[hi.node hd,ah,if_pos rfl]
 cases b
 ·simp only[Bool.false_eq_true,if_false];exact h.bt hl hi l1 (h.var hd) l2 x false
 ·simp only[if_true];exact h.bt hl hi m1 (h.var hd) m2 x true
theorem WF.canon(h:WF n af N)(hl:jh n af)(hi:Interp N S):∀(k r r':Nat),(n-dep n af N r)+(n-dep n af N r')≤k→live N r→live N r'→(∀x,S r x=S r' x)→r=r':=by
 intro k
 induction k with
 |zero=>
  intro r r' hk hr hr' he
  have hc:∀{r},n-dep n af N r=0→live N r→r<2:=by
   intro r hk hr
   rcases hr with hr|⟨d,hd⟩
   ·exact hr
   ·have h1:=hl.lt _ (h.var hd)
    rw[aj hd]at hk;omega
  have h1:=hc (by omega) hr
  have h2:=hc (by omega) hr'
  have e0:=he 0
  have:r=0∨r=1:=by omega
  have h3:r'=0∨r'=1:=by omega
  rcases this with rfl|rfl<;>rcases h3 with rfl|rfl<;>simp[hi.zero,hi.one]at e0<;>rfl
 |succ k ih=>
  have DX:∀r r',(n-dep n af N r)+(n-dep n af N r')≤k+1→live N r'→(∀x,S r x=S r' x)→∀d,N r=some d→af d.v<dep n af N r'→False:=by
   intro r r' hk hr' he d hd hlt
   obtain⟨l1,l2⟩:=h.lo hd
   obtain⟨m1,m2⟩:=h.hi hd
   have hv:=h.var hd
   have h1:=hl.lt _ hv
   have d1:=h.gi hl d.lo
   have d2:=h.gi hl d.hi
   have d3:=h.gi hl r'
   rw[aj hd]at hk
   have a1:d.lo=r':=ih d.lo r' (by omega) l1 hr' fun x=>by
    have:=h.child hl hi hd x false
    simp only[Bool.false_eq_true,if_false]at this
    rw[←this,he,h.bt hl hi hr' hv hlt]
   have a2:d.hi=r':=ih d.hi r' (by omega) m1 hr' fun x=>by
    have:=h.child hl hi hd x true
    simp only[if_true]at this
    rw[←this,he,h.bt hl hi hr' hv hlt]
   exact h.ne hd (a1.trans a2.symm)
  intro r r' hk hr hr' he
  rcases hr with hr|⟨d,hd⟩
  ·rcases hr' with hr'|⟨d',cE⟩
   ·have e0:=he 0
    have:r=0∨r=1:=by omega
    have h3:r'=0∨r'=1:=by omega
    rcases this with rfl|rfl<;>rcases h3 with rfl|rfl<;>simp[hi.zero,hi.one]at e0<;>rfl
   ·refine(DX r' r (by omega) (.inl hr) (fun x=>(he x).symm) d' cE ?_).elim
    rw[aL (h.const hr)];exact hl.lt _ (h.var cE)
  ·rcases Nat.lt_trichotomy (af d.v) (dep n af N r')with hlt|heq|hgt
   ·exact(DX r r' hk hr' he d hd hlt).elim
   ·rcases hr' with hr'|⟨d',cE⟩
    ·rw[aL (h.const hr')]at heq
     have:=hl.lt _ (h.var hd);omega
    ·rw[aj cE]at heq
     have hv:=hl.inj _ _ (h.var hd) (h.var cE) heq
     obtain⟨l1,l2⟩:=h.lo hd
     obtain⟨m1,m2⟩:=h.hi hd
     obtain⟨QS,Tx⟩:=h.lo cE
     obtain⟨QO,Tu⟩:=h.hi cE
     have h1:=hl.lt _ (h.var hd)
     have d1:=h.gi hl d.lo
     have d2:=h.gi hl d.hi
     have TW:=h.gi hl d'.lo
     have TV:=h.gi hl d'.hi
     rw[aj hd,aj cE]at hk
     have c1:=fun x=>h.child hl hi hd x false
     have c2:=fun x=>h.child hl hi hd x true
     have Qo:=fun x=>h.child hl hi cE x false
     have Qn:=fun x=>h.child hl hi cE x true
     simp only[Bool.false_eq_true,if_false,if_true]at c1 c2 Qo Qn
     have a1:d.lo=d'.lo:=ih d.lo d'.lo (by omega) l1 QS fun x=>by rw[←c1,←Qo,he,hv]
     have a2:d.hi=d'.hi:=ih d.hi d'.hi (by omega) m1 QO fun x=>by rw[←c2,←Qn,he,hv]
     have:d=d':=by cases d;cases d';simp_all
     subst this
     exact h.uq hd cE
   ·rcases hr' with hr'|⟨d',cE⟩
    ·rw[aL (h.const hr')]at hgt
     have:=hl.lt _ (h.var hd);omega
    ·rw[aj cE]at hgt
     refine(DX r' r (by omega) (.inr ⟨d,hd⟩) (fun x=>(he x).symm) d' cE ?_).elim
     rw[aj hd];exact hgt
theorem WF.same(h:WF n af N)(hl:jh n af)(hi:Interp N S){r r':Nat}(hr:live N r)(hr':live N r')(he:∀x,S r x=S r' x):r=r':=h.canon hl hi _ r r' (Nat.le_refl _) hr hr' he
end av
namespace av
open eH
variable {n:Nat} {af:Nat→Nat} {N:cN} {S:Nat→Fn} {ord:List Nat}
def cq(g:Fn)(v:Nat):Prop:=∃x,g (aO x v false)≠g (aO x v true)
def fs(ord:List Nat)(F:Fn→Prop):Nat→Fn→Prop
 |0,g=>F g
 |l+1,g=>∃f,fs ord F l f∧∃b,g=fun x=>f (aO x (ord.getD l 0) b)
def aF(n:Nat)(ord:List Nat)(F:Fn→Prop)(g:Fn):Prop:=∃l,l<n∧fs ord F l g∧cq g (ord.getD l 0)
structure Ord(n:Nat)(af:Nat→Nat)(ord:List Nat):Prop where
 len:ord.length=n
 aH:∀l,l<n→ord.getD l 0<n∧af (ord.getD l 0)=l
theorem Ord.of(h:Ord n af ord)(hl:jh n af){v:Nat}(hv:v<n):ord.getD (af v) 0=v:=by
 obtain⟨h1,h2⟩:=h.aH _ (hl.lt v hv)
 exact hl.inj _ _ h1 hv h2
def Fs(S:Nat→Fn)(R:Nat→Prop)(g:Fn):Prop:=∃r,R r∧g=S r
def A(N:cN)(af:Nat→Nat)(n:Nat)(R:Nat→Prop):Nat→Nat→Prop
 |0,r=>R r
 |l+1,r=>(A N af n R l r∧dep n af N r≠l)∨∃p d,A N af n R l p∧N p=some d∧af d.v=l∧(r=d.lo∨r=d.hi)
variable {R:Nat→Prop}
theorem mM(h:WF n af N)(hR:∀r,R r→live N r):∀l r,A N af n R l r→live N r∧l≤dep n af N r
 |0,r,ha=>⟨hR r ha,Nat.zero_le _⟩
 |l+1,r,ha=>by
  rcases ha with⟨h1,h2⟩|⟨p,d,h1,h2,h3,h4⟩
  ·have:=mM h hR l r h1
   exact⟨this.1,by omega⟩
  ·rcases h4 with rfl|rfl
   ·have:=h.lo h2;exact⟨this.1,by omega⟩
   ·have:=h.hi h2;exact⟨this.1,by omega⟩
theorem xU{r:Nat}:∀k l,A N af n R l r→l+k≤dep n af N r→A N af n R (l+k) r
 |0,l,ha,_=>ha
 |k+1,l,ha,hk=>by
  have h1:=xU k l ha (by omega)
  have h2:dep n af N r≠l+k:=by omega
  exact .inl ⟨h1,h2⟩
def Reach(N:cN)(R:Nat→Prop):Prop:=∀r d,N r=some d→R r∨∃p e,N p=some e∧(e.lo=r∨e.hi=r)
theorem Hz(h:WF n af N)(hr:Reach N R):∀k r d,N r=some d→af d.v≤k→A N af n R (af d.v) r:=by
 intro k
 induction k with
 |zero=>
  intro r d hd hk
  rcases hr r d hd with h1|⟨p,e,h1,h2⟩
  ·rw[show af d.v=0 by omega];exact h1
  ·have:=h.lo h1
   have h3:=h.hi h1
   rcases h2 with rfl|rfl
   ·rw[aj hd]at this;omega
   ·rw[aj hd]at h3;omega
 |succ k ih=>
  intro r d hd hk
  rcases hr r d hd with h1|⟨p,e,h1,h2⟩
  ·have:=xU (N:=N) (af:=af) (n:=n) (R:=R) (r:=r) (af d.v) 0 h1 (by rw[aj hd];omega)
   rwa [Nat.zero_add]at this
  ·have hlt:af e.v<af d.v:=by
    have:=h.lo h1
    have h3:=h.hi h1
    rcases h2 with rfl|rfl
    ·rw[aj hd]at this;omega
    ·rw[aj hd]at h3;omega
   have ha:=ih p e h1 (by omega)
   have hb:A N af n R (af e.v+1) r:=.inr ⟨p,e,ha,h1,rfl,by rcases h2 with rfl|rfl;exact .inl rfl;exact .inr rfl⟩
   have:=xU (af d.v-(af e.v+1)) _ hb (by rw[aj hd];omega)
   rwa [show af e.v+1+(af d.v-(af e.v+1))=af d.v by omega]at this
theorem F6(h:WF n af N)(hl:jh n af)(ho:Ord n af ord)(hi:Interp N S)(hR:∀r,R r→live N r):∀l,l≤n→∀g,fs ord (Fs S R) l g↔∃r,A N af n R l r∧g=S r
 |0,_,g=>Iff.rfl
 |l+1,zP,g=>by
  obtain⟨v1,v2⟩:=ho.aH l zP
  have ih:=F6 h hl ho hi hR l (by omega)
  constructor
  ·rintro⟨f,hf,b,rfl⟩
   obtain⟨r,ha,rfl⟩:=(ih f).1 hf
   obtain⟨hlv,hle⟩:=mM h hR l r ha
   by_cases e:dep n af N r=l
   ·rcases hlv with hc|⟨d,hd⟩
    ·rw[aL (h.const hc)]at e;omega
    ·rw[aj hd]at e
     have hv:d.v=ord.getD l 0:=hl.inj _ _ (h.var hd) v1 (by omega)
     refine⟨if b then d.hi else d.lo,.inr ⟨r,d,ha,hd,e,by cases b<;>simp⟩,?_⟩
     funext x
     rw[←hv];exact h.child hl hi hd x b
   ·refine⟨r,.inl ⟨ha,e⟩,?_⟩
    funext x
    exact h.bt hl hi hlv v1 (by omega) x b
  ·rintro⟨r,ha,rfl⟩
   rcases ha with⟨h1,h2⟩|⟨p,d,h1,h2,h3,h4⟩
   ·obtain⟨hlv,hle⟩:=mM h hR l r h1
    refine⟨S r,(ih _).2 ⟨r,h1,rfl⟩,false,?_⟩
    funext x
    exact(h.bt hl hi hlv v1 (by omega) x false).symm
   ·have hv:d.v=ord.getD l 0:=hl.inj _ _ (h.var h2) v1 (by omega)
    rcases h4 with rfl|rfl
    ·refine⟨S p,(ih _).2 ⟨p,h1,rfl⟩,false,?_⟩
     funext x
     rw[←hv];exact(h.child hl hi h2 x false).symm
    ·refine⟨S p,(ih _).2 ⟨p,h1,rfl⟩,true,?_⟩
     funext x
     rw[←hv];exact(h.child hl hi h2 x true).symm
theorem iK(h:WF n af N)(hl:jh n af)(ho:Ord n af ord)(hi:Interp N S)(hR:∀r,R r→live N r)(hr:Reach N R)(g:Fn):aF n ord (Fs S R) g↔∃r d,N r=some d∧g=S r:=by
 constructor
 ·rintro⟨l,zP,hf,x,hx⟩
  obtain⟨v1,v2⟩:=ho.aH l zP
  obtain⟨r,ha,rfl⟩:=(F6 h hl ho hi hR l (by omega) g).1 hf
  obtain⟨hlv,hle⟩:=mM h hR l r ha
  by_cases e:dep n af N r=l
  ·rcases hlv with hc|⟨d,hd⟩
   ·rw[aL (h.const hc)]at e;omega
   ·exact⟨r,d,hd,rfl⟩
  ·exact absurd (by rw[h.bt hl hi hlv v1 (by omega),h.bt hl hi hlv v1 (by omega)]) hx
 ·rintro⟨r,d,hd,rfl⟩
  have hv:=h.var hd
  have hlt:=hl.lt _ hv
  refine⟨af d.v,hlt,(F6 h hl ho hi hR _ (by omega) _).2 ⟨r,Hz h hr _ r d hd (Nat.le_refl _),rfl⟩,?_⟩
  rw[ho.of hl hv]
  refine Classical.byContradiction fun hno=>h.ne hd (h.same hl hi (h.lo hd).1 (h.hi hd).1 fun x=>?_)
  have c1:=h.child hl hi hd x false
  have c2:=h.child hl hi hd x true
  simp only[Bool.false_eq_true,if_false,if_true]at c1 c2
  rw[←c1,←c2]
  exact Classical.byContradiction fun hne=>hno ⟨x,hne⟩
def jJ(P:Fn→Prop)(k:Nat):Prop:=∃l:List Fn,l.Nodup∧l.length=k∧∀g,P g↔g∈l
theorem jJ.congr{P Q:Fn→Prop}{k:Nat}(h:jJ P k)(e:∀g,P g↔Q g):jJ Q k:=let ⟨l,h1,h2,h3⟩:=h;⟨l,h1,h2,fun g=>(e g).symm.trans (h3 g)⟩
theorem bE{α:Type}:∀{l l':List α},l.Nodup→(∀x∈l,x∈l')→l.length≤l'.length
 | [],l',_,_=>Nat.zero_le _
 |x::l,l',hn,hs=>by
  obtain⟨h1,h2⟩:=List.nodup_cons.1 hn
  obtain⟨a,b,rfl⟩:=List.append_of_mem (hs x (by simp))
  have:=bE (l':=a++b) h2 fun y hy=>by
   have:=hs y (by simp[hy])
   rcases List.mem_append.1 this with h|h
   ·exact List.mem_append_left _ h
   ·rcases List.mem_cons.1 h with rfl|h
    ·exact absurd hy h1
    ·exact List.mem_append_right _ h
  simp at this⊢;omega
theorem jJ.le{P Q:Fn→Prop}{k k':Nat}(h:jJ P k)(h':jJ Q k')(e:∀g,P g→Q g):k≤k':=by
 obtain⟨l,h1,h2,h3⟩:=h
 obtain⟨l',oD,kE,qt⟩:=h'
 rw[←h2,←kE]
 exact bE h1 fun x hx=>(qt x).1 (e x ((h3 x).2 hx))
theorem jJ.uniq{P:Fn→Prop}{k k':Nat}(h:jJ P k)(h':jJ P k'):k=k':=Nat.le_antisymm (h.le h' fun _=>id) (h'.le h fun _=>id)
theorem jJ.none:jJ (fun _=>False) 0:=⟨[],by simp,rfl,by simp⟩
theorem jJ.or{P Q:Fn→Prop}{k k':Nat}(h:jJ P k)(h':jJ Q k')(e:∀g,P g→¬Q g):jJ (fun g=>P g∨Q g) (k+k'):=by
 obtain⟨l,h1,h2,h3⟩:=h
 obtain⟨l',oD,kE,qt⟩:=h'
 refine⟨l++l',List.nodup_append.2 ⟨h1,oD,fun a ha b hb e'=>?_⟩,by rw[List.length_append,h2,kE],fun g=>by rw[List.mem_append,←h3,←qt]⟩
 subst e'
 exact e a ((h3 a).2 ha) ((qt a).2 hb)
theorem qz(h:WF n af N)(hl:jh n af)(hi:Interp N S){dom:List Nat}(hd:dom.Nodup)(hm:∀r,r∈dom↔∃d,N r=some d):jJ (fun g=>∃r d,N r=some d∧g=S r) dom.length:=by
 refine⟨dom.map S,?_,by simp,fun g=>?_⟩
 ·refine List.pairwise_map.2 (hd.imp_of_mem fun{a b} ha hb hne heq=>hne ?_)
  exact h.same hl hi (.inr ((hm a).1 ha)) (.inr ((hm b).1 hb)) fun x=>by rw[heq]
 ·rw[List.mem_map]
  constructor
  ·rintro⟨r,d,h1,rfl⟩;exact⟨r,(hm r).2 ⟨d,h1⟩,rfl⟩
  ·rintro⟨r,h1,rfl⟩;obtain⟨d,h2⟩:=(hm r).1 h1;exact⟨r,d,h2,rfl⟩
end av
namespace av
open eH
def up{α:Type}(N:Nat→α)(r:Nat)(o:α):Nat→α:=fun s=>if s=r then o else N s
@[simp] theorem az{α:Type}{N:Nat→α}{r:Nat}{o:α}:up N r o r=o:=if_pos rfl
theorem aA{α:Type}{N:Nat→α}{r s:Nat}{o:α}(h:s≠r):up N r o s=N s:=if_neg h
def kM(T:Nd→Option Nat)(d:Nd)(o:Option Nat):Nd→Option Nat:=fun e=>if e=d then o else T e
@[simp] theorem fC{T:Nd→Option Nat}{d:Nd}{o:Option Nat}:kM T d o d=o:=if_pos rfl
theorem j6{T:Nd→Option Nat}{d e:Nd}{o:Option Nat}(h:e≠d):kM T d o e=T e:=if_neg h
def e1:Option Nd→Nat→Nat
 |none,_=>0
 |some d,r=>(if d.lo=r then 1 else 0)+(if d.hi=r then 1 else 0)
theorem cz(d:Nd)(r:Nat):e1 (some d) r=(if d.lo=r then 1 else 0)+(if d.hi=r then 1 else 0):=rfl
def bX(N:cN)(r:Nat):Nat→Nat
 |0=>0
 |k+1=>bX N r k+e1 (N k) r
def iA(N:cN):Nat→Nat
 |0=>0
 |k+1=>iA N k+(if(N k).isSome then 1 else 0)
theorem qw{N:cN}{s r:Nat}{o:Option Nd}:∀{k},(s<k→bX (up N s o) r k+e1 (N s) r=bX N r k+e1 o r)∧(k≤s→bX (up N s o) r k=bX N r k)
 |0=>⟨fun h=>by omega,fun _=>rfl⟩
 |k+1=>by
  obtain⟨i1,i2⟩:=qw (N:=N) (s:=s) (r:=r) (o:=o) (k:=k)
  refine⟨fun h=>?_,fun h=>?_⟩
  ·rw[bX,bX]
   by_cases e:s=k
   ·subst e;rw[az,i2 (Nat.le_refl _)];omega
   ·have:=i1 (by omega);rw[aA (fun h=>e h.symm)];omega
  ·rw[bX,bX,i2 (by omega),aA (by omega)]
theorem oK{N:cN}{s r k:Nat}{o:Option Nd}(h:s<k):bX (up N s o) r k+e1 (N s) r=bX N r k+e1 o r:=qw.1 h
theorem lZ{N:cN}{s:Nat}{o:Option Nd}:∀{k},(s<k→iA (up N s o) k+(if(N s).isSome then 1 else 0)=iA N k+(if o.isSome then 1 else 0))∧(k≤s→iA (up N s o) k=iA N k)
 |0=>⟨fun h=>by omega,fun _=>rfl⟩
 |k+1=>by
  obtain⟨i1,i2⟩:=lZ (N:=N) (s:=s) (o:=o) (k:=k)
  refine⟨fun h=>?_,fun h=>?_⟩
  ·rw[iA,iA]
   by_cases e:s=k
   ·subst e;rw[az,i2 (Nat.le_refl _)];omega
   ·have:=i1 (by omega);rw[aA (fun h=>e h.symm)];omega
  ·rw[iA,iA,i2 (by omega),aA (by omega)]
theorem fN{N:cN}{r:Nat}:∀{k},bX N r k=0→∀s,s<k→∀d,N s=some d→d.lo≠r∧d.hi≠r
 |0,_,s,hs,_,_=>by omega
 |k+1,h,s,hs,d,hd=>by
  rw[bX]at h
  by_cases e:s=k
  ·subst e
   rw[hd,cz]at h
   constructor
   ·intro h1;rw[if_pos h1]at h;omega
   ·intro h1;rw[if_pos h1]at h;omega
  ·exact fN (k:=k) (by omega) s (by omega) d hd
theorem mJ{N:cN}{r:Nat}:∀{k},0<bX N r k→∃s d,s<k∧N s=some d∧(d.lo=r∨d.hi=r)
 |0,h=>by simp[bX]at h
 |k+1,h=>by
  rw[bX]at h
  by_cases hk:0<bX N r k
  ·obtain⟨s,d,h1,h2,h3⟩:=mJ hk;exact⟨s,d,by omega,h2,h3⟩
  ·cases hd:N k with
   |none=>rw[hd]at h;simp[e1]at h;omega
   |some d=>
    refine⟨k,d,by omega,hd,?_⟩
    rw[hd,cz]at h
    by_cases h1:d.lo=r
    ·exact .inl h1
    ·by_cases h2:d.hi=r
     ·exact .inr h2
     ·rw[if_neg h1,if_neg h2]at h;omega
theorem tg{N:cN}{r:Nat}:∀k,bX N r k≤2*k
 |0=>Nat.le_refl _
 |k+1=>by
  have:=tg (N:=N) (r:=r) k
  rw[bX]
  have:e1 (N k) r≤2:=by
   cases N k with
   |none=>simp[e1]
   |some d=>rw[cz];split<;>split<;>omega
  omega
theorem tp(N:cN):∀k,((List.range k).filter fun r=>(N r).isSome).length=iA N k
 |0=>rfl
 |k+1=>by
  rw[List.range_succ,List.filter_append,List.length_append,tp N k,iA]
  congr 1
  cases h:N k<;>simp[h]
structure Kd where
 n:Nat
 cap:Nat
 used:Nat
 N:cN
 T:Nd→Option Nat
 us:List Nat
 ho:List Nat
def Kd.hold(K:Kd)(r:Nat):Nat:=K.ho.getD r 0
def Kd.use(K:Kd)(r:Nat):Nat:=K.us.getD r 0
structure fQ(K:Kd)(S:Nat→Fn)(E:Nat→Prop)(P:Nat→Nat):Prop where
 two:∀{r d},K.N r=some d→2≤r∧r<K.cap
 var:∀{r d},K.N r=some d→d.v<K.n
 ne:∀{r d},K.N r=some d→d.lo≠d.hi
 lo:∀{r d},K.N r=some d→live K.N d.lo
 hi:∀{r d},K.N r=some d→live K.N d.hi
 int:Interp K.N S
 gK:∀d r,K.T d=some r↔K.N r=some d∧¬E r
 use:∀{r d},K.N r=some d→K.use r=bX K.N r K.cap+(if K.hold r=0 then 0 else 1)+P r
 len:K.us.length=K.ho.length
 fit:∀{r d},K.N r=some d→r<K.us.length
 held:∀r,K.hold r≠0→∃d,K.N r=some d
 mx:∀r,K.hold r≤65535
 room:K.used=2+iA K.N K.cap
 cap:K.used≤K.cap∧K.cap≤1048576
variable {K:Kd} {S:Nat→Fn} {E:Nat→Prop} {P:Nat→Nat}
theorem ga{N:cN}{r s:Nat}{d:Nd}(h:live N s):live (up N r (some d)) s:=by
 rcases h with h|⟨e,h⟩
 ·exact .inl h
 ·by_cases e2:s=r
  ·subst e2;exact .inr ⟨d,az⟩
  ·exact .inr ⟨e,by rw[aA e2];exact h⟩
theorem qg{N:cN}{r s:Nat}(h:live N s)(hne:s≠r):live (up N r none) s:=by
 rcases h with h|⟨e,h⟩
 ·exact .inl h
 ·exact .inr ⟨e,by rw[aA hne];exact h⟩
def Pos(K:Kd):Prop:=∀r d,K.N r=some d→0<K.use r
theorem fQ.less(h:fQ K S E P){r:Nat}{cf:List Nat}(hP:0<P r)(hl:cf.length=K.us.length)(h1:cf.getD r 0+1=K.use r)(h2:∀s,s≠r→cf.getD s 0=K.use s):
  fQ {K with us:=cf} S E (up P r (P r-1)) where
 two:=h.two
 var:=h.var
 ne:=h.ne
 lo:=h.lo
 hi:=h.hi
 int:=h.int
 gK:=h.gK
 use:=fun{s d} hd=>by
  have:=h.use hd
  show cf.getD s 0=bX K.N s K.cap+(if K.hold s=0 then 0 else 1)+up P r (P r-1) s
  by_cases e:s=r
  ·subst e
   rw[az]
   omega
  ·rw[h2 s e,aA e];exact this
 len:=by show cf.length=_;rw[hl];exact h.len
 fit:=fun{s d} hd=>by show s<cf.length;rw[hl];exact h.fit hd
 held:=h.held
 mx:=h.mx
 room:=h.room
 cap:=h.cap
theorem fQ.free(h:fQ K S E P){r:Nat}{d:Nd}(hd:K.N r=some d)(hE:¬E r)(h0:K.use r=0):
  fQ {K with N:=up K.N r none,T:=kM K.T d none,used:=K.used-1} S E (fun s=>P s+e1 (some d) s) where
 two:=fun{s e} hs=>by
  have hs':up K.N r none s=some e:=hs
  by_cases e2:s=r
  ·subst e2;rw[az]at hs';cases hs'
  ·rw[aA e2]at hs';exact h.two hs'
 var:=fun{s e} hs=>by
  have hs':up K.N r none s=some e:=hs
  by_cases e2:s=r
  ·subst e2;rw[az]at hs';cases hs'
  ·rw[aA e2]at hs';exact h.var hs'
 ne:=fun{s e} hs=>by
  have hs':up K.N r none s=some e:=hs
  by_cases e2:s=r
  ·subst e2;rw[az]at hs';cases hs'
  ·rw[aA e2]at hs';exact h.ne hs'
 lo:=fun{s e} hs=>by
  have hs':up K.N r none s=some e:=hs
  by_cases e2:s=r
  ·subst e2;rw[az]at hs';cases hs'
  ·rw[aA e2]at hs'
   have hu:=h.use hd
   exact qg (h.lo hs') (fN (by omega) s (h.two hs').2 e hs').1
 hi:=fun{s e} hs=>by
  have hs':up K.N r none s=some e:=hs
  by_cases e2:s=r
  ·subst e2;rw[az]at hs';cases hs'
  ·rw[aA e2]at hs'
   have hu:=h.use hd
   exact qg (h.hi hs') (fN (by omega) s (h.two hs').2 e hs').2
 int:=⟨h.int.zero,h.int.one,fun{s e} hs x=>by
  have hs':up K.N r none s=some e:=hs
  by_cases e2:s=r
  ·subst e2;rw[az]at hs';cases hs'
  ·rw[aA e2]at hs';exact h.int.node hs' x⟩
 gK:=fun e s=>by
  show kM K.T d none e=some s↔up K.N r none s=some e∧_
  by_cases e2:e=d
  ·subst e2
   rw[fC]
   constructor
   ·intro h;cases h
   ·rintro⟨h1,h2⟩
    by_cases e3:s=r
    ·subst e3;rw[az]at h1;cases h1
    ·rw[aA e3]at h1
     have a:=(h.gK e s).2 ⟨h1,h2⟩
     have b:=(h.gK e r).2 ⟨hd,hE⟩
     rw[a]at b;cases b;exact absurd rfl e3
  ·rw[j6 e2,h.gK]
   by_cases e3:s=r
   ·subst e3
    rw[az]
    constructor
    ·rintro⟨h1,_⟩;rw[hd]at h1;cases h1;exact absurd rfl e2
    ·rintro⟨h1,_⟩;cases h1
   ·rw[aA e3]
 use:=fun{s e} hs=>by
  have hs':up K.N r none s=some e:=hs
  by_cases e2:s=r
  ·subst e2;rw[az]at hs';cases hs'
  ·rw[aA e2]at hs'
   have hu:=h.use hs'
   have he:=oK (N:=K.N) (s:=r) (r:=s) (k:=K.cap) (o:=none) (h.two hd).2
   show K.use s=bX (up K.N r none) s K.cap+(if K.hold s=0 then 0 else 1)+(P s+e1 (some d) s)
   rw[hd]at he
   have:e1 none s=0:=rfl
   omega
 len:=h.len
 fit:=fun{s e} hs=>by
  have hs':up K.N r none s=some e:=hs
  by_cases e2:s=r
  ·subst e2;rw[az]at hs';cases hs'
  ·rw[aA e2]at hs';exact h.fit hs'
 held:=fun s hs=>by
  obtain⟨e,he⟩:=h.held s hs
  have hne:s≠r:=fun e2=>by
   subst e2
   have hu:=h.use hd
   have hs':K.hold s≠0:=hs
   rw[if_neg hs']at hu;omega
  exact⟨e,by show up K.N r none s=_;rw[aA hne];exact he⟩
 mx:=h.mx
 room:=by
  have:=(lZ (N:=K.N) (s:=r) (o:=none) (k:=K.cap)).1 (h.two hd).2
  have hr:=h.room
  rw[hd]at this
  show K.used-1=2+iA (up K.N r none) K.cap
  simp at this;omega
 cap:=⟨by have:=h.cap.1;show K.used-1≤K.cap;omega,h.cap.2⟩
theorem fQ.more(h:fQ K S E P){r:Nat}{cf:List Nat}(hl:cf.length=K.us.length)(h1:cf.getD r 0=K.use r+1)(h2:∀s,s≠r→cf.getD s 0=K.use s):
  fQ {K with us:=cf} S E (up P r (P r+1)) where
 two:=h.two
 var:=h.var
 ne:=h.ne
 lo:=h.lo
 hi:=h.hi
 int:=h.int
 gK:=h.gK
 use:=fun{s d} hd=>by
  have:=h.use hd
  show cf.getD s 0=bX K.N s K.cap+(if K.hold s=0 then 0 else 1)+up P r (P r+1) s
  by_cases e:s=r
  ·subst e
   rw[az]
   omega
  ·rw[h2 s e,aA e];exact this
 len:=by show cf.length=_;rw[hl];exact h.len
 fit:=fun{s d} hd=>by show s<cf.length;rw[hl];exact h.fit hd
 held:=h.held
 mx:=h.mx
 room:=h.room
 cap:=h.cap
end av
namespace av
open eH
variable {K:Kd} {S:Nat→Fn} {E:Nat→Prop} {P:Nat→Nat}
def ite(S:Nat→Fn)(d:Nd):Fn:=fun x=>if x.testBit d.v then S d.hi x else S d.lo x
theorem dj{N:cN}{r s:Nat}(h:live N s)(h2:2≤r)(hr:N r=none):s≠r:=fun e=>by
 subst e
 rcases h with h|⟨d,h⟩
 ·omega
 ·rw[hr]at h;cases h
theorem fQ.lay(h:fQ K S E P){r:Nat}{d:Nd}{cf bO:List Nat}(hr:K.N r=none)(h2:2≤r∧r<K.cap)(hv:d.v<K.n)(hne:d.lo≠d.hi)(hlo:live K.N d.lo)(hhi:live K.N d.hi)(hT:K.T d=none)(hE:¬E r)
 (hP:P r=0)(hro:K.used<K.cap)(hl:cf.length=bO.length)(hf:r<cf.length∧K.us.length≤cf.length)(u0:cf.getD r 0=0)(u1:∀s,2≤s→s≠r→cf.getD s 0=K.use s+e1 (some d) s)(o0:bO.getD r 0=0)(o1:∀s,s≠r→bO.getD s 0=K.hold s):
  fQ {K with N:=up K.N r (some d),T:=kM K.T d (some r),used:=K.used+1,us:=cf,ho:=bO} (up S r (ite S d)) E P where
 two:=fun{s e} hs=>by
  have hs':up K.N r (some d) s=some e:=hs
  by_cases e2:s=r
  ·subst e2;exact h2
  ·rw[aA e2]at hs';exact h.two hs'
 var:=fun{s e} hs=>by
  have hs':up K.N r (some d) s=some e:=hs
  by_cases e2:s=r
  ·subst e2;rw[az]at hs';cases hs';exact hv
  ·rw[aA e2]at hs';exact h.var hs'
 ne:=fun{s e} hs=>by
  have hs':up K.N r (some d) s=some e:=hs
  by_cases e2:s=r
  ·subst e2;rw[az]at hs';cases hs';exact hne
  ·rw[aA e2]at hs';exact h.ne hs'
 lo:=fun{s e} hs=>by
  have hs':up K.N r (some d) s=some e:=hs
  by_cases e2:s=r
  ·subst e2;rw[az]at hs';cases hs';exact ga hlo
  ·rw[aA e2]at hs';exact ga (h.lo hs')
 hi:=fun{s e} hs=>by
  have hs':up K.N r (some d) s=some e:=hs
  by_cases e2:s=r
  ·subst e2;rw[az]at hs';cases hs';exact ga hhi
  ·rw[aA e2]at hs';exact ga (h.hi hs')
 int:=⟨fun x=>by rw[aA (by omega)];exact h.int.zero x,fun x=>by rw[aA (by omega)];exact h.int.one x,fun{s e} hs x=>by
  have hs':up K.N r (some d) s=some e:=hs
  by_cases e2:s=r
  ·subst e2;rw[az]at hs';cases hs'
   rw[az,aA (dj hlo h2.1 hr),aA (dj hhi h2.1 hr)];rfl
  ·rw[aA e2]at hs'
   rw[aA e2,aA (dj (h.lo hs') h2.1 hr),aA (dj (h.hi hs') h2.1 hr)]
   exact h.int.node hs' x⟩
 gK:=fun e s=>by
  show kM K.T d (some r) e=some s↔up K.N r (some d) s=some e∧_
  by_cases e2:e=d
  ·subst e2
   rw[fC]
   constructor
   ·intro h;cases h;exact⟨az,hE⟩
   ·rintro⟨h1,kE⟩
    by_cases e3:s=r
    ·rw[e3]
    ·rw[aA e3]at h1
     have a:=(h.gK e s).2 ⟨h1,kE⟩
     rw[hT]at a;cases a
  ·rw[j6 e2,h.gK]
   by_cases e3:s=r
   ·subst e3
    rw[az,hr]
    constructor
    ·rintro⟨h1,_⟩;cases h1
    ·rintro⟨h1,_⟩;cases h1;exact absurd rfl e2
   ·rw[aA e3]
 use:=fun{s e} hs=>by
  have hs':up K.N r (some d) s=some e:=hs
  have he:=oK (N:=K.N) (s:=r) (r:=s) (k:=K.cap) (o:=some d) h2.2
  rw[hr]at he
  have h0:e1 none s=0:=rfl
  show cf.getD s 0=bX (up K.N r (some d)) s K.cap+(if bO.getD s 0=0 then 0 else 1)+P s
  by_cases e2:s=r
  ·subst e2
   have hz:bX K.N s K.cap=0:=by
    refine Nat.eq_zero_of_not_pos fun hp=>?_
    obtain⟨t,e',_,ht,hc⟩:=mJ hp
    have yw:=dj (h.lo ht) h2.1 hr
    have jC:=dj (h.hi ht) h2.1 hr
    rcases hc with hc|hc
    ·exact yw hc
    ·exact jC hc
   have TS:e1 (some d) s=0:=by
    rw[cz,if_neg (dj hlo h2.1 hr),if_neg (dj hhi h2.1 hr)]
   rw[u0,o0,if_pos rfl];omega
  ·rw[aA e2]at hs'
   have hu:=h.use hs'
   have h3:bO.getD s 0=K.hold s:=o1 s e2
   rw[u1 s (h.two hs').1 e2,h3];omega
 len:=hl
 fit:=fun{s e} hs=>by
  have hs':up K.N r (some d) s=some e:=hs
  show s<cf.length
  by_cases e2:s=r
  ·subst e2;exact hf.1
  ·rw[aA e2]at hs';exact Nat.lt_of_lt_of_le (h.fit hs') hf.2
 held:=fun s hs=>by
  have hs':bO.getD s 0≠0:=hs
  by_cases e2:s=r
  ·subst e2;exact⟨d,az⟩
  ·rw[o1 s e2]at hs'
   obtain⟨e,he⟩:=h.held s hs'
   exact⟨e,by show up K.N r (some d) s=_;rw[aA e2];exact he⟩
 mx:=fun s=>by
  show bO.getD s 0≤65535
  by_cases e2:s=r
  ·subst e2;rw[o0];decide
  ·rw[o1 s e2];exact h.mx s
 room:=by
  have:=(lZ (N:=K.N) (s:=r) (o:=some d) (k:=K.cap)).1 h2.2
  have hr':=h.room
  rw[hr]at this
  show K.used+1=2+iA (up K.N r (some d)) K.cap
  simp at this;omega
 cap:=⟨by show K.used+1≤K.cap;omega,h.cap.2⟩
theorem fQ.NZ(h:fQ K S E P){r:Nat}{d:Nd}(hd:K.N r=some d)(hE:¬E r):fQ {K with T:=kM K.T d none} S (fun s=>E s∨s=r) P where
 two:=h.two
 var:=h.var
 ne:=h.ne
 lo:=h.lo
 hi:=h.hi
 int:=h.int
 gK:=fun e s=>by
  show kM K.T d none e=some s↔_
  by_cases e2:e=d
  ·subst e2
   rw[fC]
   constructor
   ·intro h;cases h
   ·rintro⟨h1,h2⟩
    have a:=(h.gK e s).2 ⟨h1,fun x=>h2 (.inl x)⟩
    have b:=(h.gK e r).2 ⟨hd,hE⟩
    rw[a]at b;cases b;exact absurd (.inr rfl) h2
  ·rw[j6 e2,h.gK]
   constructor
   ·rintro⟨h1,h2⟩
    refine⟨h1,fun x=>?_⟩
    rcases x with x|rfl
    ·exact h2 x
    ·have oD:K.N s=some e:=h1
     rw[hd]at oD;cases oD;exact e2 rfl
   ·rintro⟨h1,h2⟩;exact⟨h1,fun x=>h2 (.inl x)⟩
 use:=h.use
 len:=h.len
 fit:=h.fit
 held:=h.held
 mx:=h.mx
 room:=h.room
 cap:=h.cap
theorem fQ.qS(h:fQ K S E P){r:Nat}{d d':Nd}{P':Nat→Nat}(hd:K.N r=some d)(hE:E r)(hv:d'.v<K.n)(hne:d'.lo≠d'.hi)(hlo:live K.N d'.lo)(hhi:live K.N d'.hi)(hT:K.T d'=none)(hS:∀x,S r x=ite S d' x)
 (hP:∀s,2≤s→P' s+e1 (some d') s=P s+e1 (some d) s):fQ {K with N:=up K.N r (some d'),T:=kM K.T d' (some r)} S (fun s=>E s∧s≠r) P' where
 two:=fun{s e} hs=>by
  have hs':up K.N r (some d') s=some e:=hs
  by_cases e2:s=r
  ·subst e2;exact h.two hd
  ·rw[aA e2]at hs';exact h.two hs'
 var:=fun{s e} hs=>by
  have hs':up K.N r (some d') s=some e:=hs
  by_cases e2:s=r
  ·subst e2;rw[az]at hs';cases hs';exact hv
  ·rw[aA e2]at hs';exact h.var hs'
 ne:=fun{s e} hs=>by
  have hs':up K.N r (some d') s=some e:=hs
  by_cases e2:s=r
  ·subst e2;rw[az]at hs';cases hs';exact hne
  ·rw[aA e2]at hs';exact h.ne hs'
 lo:=fun{s e} hs=>by
  have hs':up K.N r (some d') s=some e:=hs
  by_cases e2:s=r
  ·subst e2;rw[az]at hs';cases hs';exact ga hlo
  ·rw[aA e2]at hs';exact ga (h.lo hs')
 hi:=fun{s e} hs=>by
  have hs':up K.N r (some d') s=some e:=hs
  by_cases e2:s=r
  ·subst e2;rw[az]at hs';cases hs';exact ga hhi
  ·rw[aA e2]at hs';exact ga (h.hi hs')
 int:=⟨h.int.zero,h.int.one,fun{s e} hs x=>by
  have hs':up K.N r (some d') s=some e:=hs
  by_cases e2:s=r
  ·subst e2;rw[az]at hs';cases hs';exact hS x
  ·rw[aA e2]at hs';exact h.int.node hs' x⟩
 gK:=fun e s=>by
  show kM K.T d' (some r) e=some s↔up K.N r (some d') s=some e∧¬(E s∧s≠r)
  by_cases e2:e=d'
  ·subst e2
   rw[fC]
   constructor
   ·intro h;cases h;exact⟨az,fun x=>x.2 rfl⟩
   ·rintro⟨h1,kE⟩
    by_cases e3:s=r
    ·rw[e3]
    ·rw[aA e3]at h1
     have a:=(h.gK e s).2 ⟨h1,fun x=>kE ⟨x,e3⟩⟩
     rw[hT]at a;cases a
  ·rw[j6 e2,h.gK]
   by_cases e3:s=r
   ·subst e3
    rw[az]
    constructor
    ·rintro⟨_,h1⟩;exact absurd hE h1
    ·rintro⟨h1,_⟩;cases h1;exact absurd rfl e2
   ·rw[aA e3]
    constructor
    ·rintro⟨h1,h2⟩;exact⟨h1,fun x=>h2 x.1⟩
    ·rintro⟨h1,h2⟩;exact⟨h1,fun x=>h2 ⟨x,e3⟩⟩
 use:=fun{s e} hs=>by
  have hs':up K.N r (some d') s=some e:=hs
  have he:=oK (N:=K.N) (s:=r) (r:=s) (k:=K.cap) (o:=some d') (h.two hd).2
  rw[hd]at he
  show K.use s=bX (up K.N r (some d')) s K.cap+(if K.hold s=0 then 0 else 1)+P' s
  by_cases e2:s=r
  ·subst e2
   have hu:=h.use hd
   have:=hP s (h.two hd).1
   omega
  ·rw[aA e2]at hs'
   have hu:=h.use hs'
   have:=hP s (h.two hs').1
   omega
 len:=h.len
 fit:=fun{s e} hs=>by
  have hs':up K.N r (some d') s=some e:=hs
  by_cases e2:s=r
  ·subst e2;exact h.fit hd
  ·rw[aA e2]at hs';exact h.fit hs'
 held:=fun s hs=>by
  obtain⟨e,he⟩:=h.held s hs
  by_cases e2:s=r
  ·subst e2;exact⟨d',az⟩
  ·exact⟨e,by show up K.N r (some d') s=_;rw[aA e2];exact he⟩
 mx:=h.mx
 room:=by
  have:=(lZ (N:=K.N) (s:=r) (o:=some d') (k:=K.cap)).1 (h.two hd).2
  have hr':=h.room
  rw[hd]at this
  show K.used=2+iA (up K.N r (some d')) K.cap
  simp at this;omega
 cap:=h.cap
theorem fQ.keep(h:fQ K S E P){r:Nat}{cf bO:List Nat}(hr:∃d,K.N r=some d)(hm:K.hold r<65535)(hl:cf.length=K.us.length∧bO.length=K.ho.length)(o0:bO.getD r 0=K.hold r+1)(o1:∀s,s≠r→bO.getD s 0=K.hold s)
 (u0:cf.getD r 0=K.use r+(if K.hold r=0 then 1 else 0))(u1:∀s,s≠r→cf.getD s 0=K.use s):fQ {K with us:=cf,ho:=bO} S E P where
 two:=h.two
 var:=h.var
 ne:=h.ne
 lo:=h.lo
 hi:=h.hi
 int:=h.int
 gK:=h.gK
 use:=fun{s e} hs=>by
  have hu:=h.use hs
  show cf.getD s 0=bX K.N s K.cap+(if bO.getD s 0=0 then 0 else 1)+P s
  by_cases e2:s=r
  ·subst e2
   rw[u0,o0,if_neg (by omega:¬K.hold s+1=0)]
   by_cases e3:K.hold s=0
   ·rw[if_pos e3]at hu⊢;omega
   ·rw[if_neg e3]at hu⊢;omega
  ·rw[u1 s e2,o1 s e2];exact hu
 len:=by show cf.length=bO.length;rw[hl.1,hl.2];exact h.len
 fit:=fun{s e} hs=>by show s<cf.length;rw[hl.1];exact h.fit hs
 held:=fun s hs=>by
  have hs':bO.getD s 0≠0:=hs
  by_cases e2:s=r
  ·subst e2;exact hr
  ·rw[o1 s e2]at hs';exact h.held s hs'
 mx:=fun s=>by
  show bO.getD s 0≤65535
  by_cases e2:s=r
  ·subst e2;rw[o0];omega
  ·rw[o1 s e2];exact h.mx s
 room:=h.room
 cap:=h.cap
theorem fQ.drop(h:fQ K S E P){r:Nat}{bO:List Nat}(hr:0<K.hold r)(hl:bO.length=K.ho.length)(o0:bO.getD r 0+1=K.hold r)(o1:∀s,s≠r→bO.getD s 0=K.hold s):
  fQ {K with ho:=bO} S E (if K.hold r=1 then up P r (P r+1)else P) where
 two:=h.two
 var:=h.var
 ne:=h.ne
 lo:=h.lo
 hi:=h.hi
 int:=h.int
 gK:=h.gK
 use:=fun{s e} hs=>by
  have hu:=h.use hs
  show K.use s=bX K.N s K.cap+(if bO.getD s 0=0 then 0 else 1)+(if K.hold r=1 then up P r (P r+1)else P) s
  by_cases e2:s=r
  ·subst e2
   rw[if_neg (by omega:¬K.hold s=0)]at hu
   by_cases e3:K.hold s=1
   ·rw[if_pos e3,az,if_pos (by omega)];omega
   ·rw[if_neg e3,if_neg (by omega)];omega
  ·rw[o1 s e2]
   by_cases e3:K.hold r=1
   ·rw[if_pos e3,aA e2];exact hu
   ·rw[if_neg e3];exact hu
 len:=by show K.us.length=bO.length;rw[hl];exact h.len
 fit:=h.fit
 held:=fun s hs=>by
  have hs':bO.getD s 0≠0:=hs
  by_cases e2:s=r
  ·subst e2;exact h.held s (by omega)
  ·rw[o1 s e2]at hs';exact h.held s hs'
 mx:=fun s=>by
  show bO.getD s 0≤65535
  have:=h.mx r
  by_cases e2:s=r
  ·subst e2;omega
  ·rw[o1 s e2];exact h.mx s
 room:=h.room
 cap:=h.cap
theorem fQ.congr(h:fQ K S E P){E':Nat→Prop}{P':Nat→Nat}(hE:∀s,E s↔E' s)(hP:∀s,2≤s→P s=P' s):fQ K S E' P' where
 two:=h.two
 var:=h.var
 ne:=h.ne
 lo:=h.lo
 hi:=h.hi
 int:=h.int
 gK:=fun d r=>by rw[h.gK,hE]
 use:=fun{s e} hs=>by rw[←hP s (h.two hs).1];exact h.use hs
 len:=h.len
 fit:=h.fit
 held:=h.held
 mx:=h.mx
 room:=h.room
 cap:=h.cap
def eZ:Nat→Prop:=fun _=>False
def zero':Nat→Nat:=fun _=>0
structure Ok(K:Kd)(S:Nat→Fn)(af:Nat→Nat):Prop where
 mid:fQ K S eZ zero'
 pos:Pos K
 lv:jh K.n af
 wf:WF K.n af K.N
theorem fQ.uq(h:fQ K S eZ P){r r':Nat}{d:Nd}(h1:K.N r=some d)(h2:K.N r'=some d):r=r':=by
 have a:=(h.gK d r).2 ⟨h1,fun x=>x⟩
 have b:=(h.gK d r').2 ⟨h2,fun x=>x⟩
 rw[a]at b;cases b;rfl
theorem fQ.wf(h:fQ K S eZ P){af:Nat→Nat}(hl:∀{r d},K.N r=some d→af d.v<dep K.n af K.N d.lo∧af d.v<dep K.n af K.N d.hi):WF K.n af K.N:=
 ⟨fun hd=>(h.two hd).1,h.var,h.ne,fun hd=>⟨h.lo hd,(hl hd).1⟩,fun hd=>⟨h.hi hd,(hl hd).2⟩,h.uq⟩
theorem Ok.reach{af:Nat→Nat}(h:Ok K S af):Reach K.N (fun r=>K.hold r≠0):=fun r d hd=>by
 have hu:=h.mid.use hd
 have hp:=h.pos r d hd
 by_cases e:K.hold r=0
 ·rw[if_pos e]at hu
  have:zero' r=0:=rfl
  obtain⟨s,e',_,h1,h2⟩:=mJ (N:=K.N) (r:=r) (k:=K.cap) (by omega)
  exact .inr ⟨s,e',h1,h2⟩
 ·exact .inl e
theorem Ok.dom{af:Nat→Nat}(h:Ok K S af):∃dom:List Nat,dom.Nodup∧dom.length+2=K.used∧∀r,r∈dom↔∃d,K.N r=some d:=by
 refine⟨(List.range K.cap).filter fun r=>(K.N r).isSome,List.nodup_range.filter _,by rw[tp,h.mid.room];omega,fun r=>?_⟩
 rw[List.mem_filter,List.mem_range,Option.isSome_iff_exists]
 exact⟨fun h=>h.2,fun⟨d,hd⟩=>⟨(h.mid.two hd).2,d,hd⟩⟩
def Kd.held(K:Kd)(S:Nat→Fn):Fn→Prop:=Fs S fun r=>K.hold r≠0
theorem Ok.size{af:Nat→Nat}{ord:List Nat}(h:Ok K S af)(ho:Ord K.n af ord):jJ (aF K.n ord (K.held S)) (K.used-2):=by
 obtain⟨dom,h1,h2,h3⟩:=h.dom
 have hc:=qz h.wf h.lv h.mid.int h1 h3
 rw[show dom.length=K.used-2 by omega]at hc
 refine hc.congr fun g=>?_
 exact(iK h.wf h.lv ho h.mid.int (fun r hr=>.inr (h.mid.held r hr)) h.reach g).symm
end av
namespace av
open eH
variable {n:Nat} {af:Nat→Nat} {N:cN} {S:Nat→Fn} {ord:List Nat} {K:Kd}
def pl(N:cN)(y r:Nat):Nat:=match N r with|some e=>if e.v=y then e.lo else r|none=>r
def ph(N:cN)(y r:Nat):Nat:=match N r with|some e=>if e.v=y then e.hi else r|none=>r
theorem EU{y r:Nat}{e:Nd}(h:N r=some e)(hv:e.v=y):pl N y r=e.lo∧ph N y r=e.hi:=by simp[pl,ph,h,hv]
theorem EV{y r:Nat}(h:∀e,N r=some e→e.v≠y):pl N y r=r∧ph N y r=r:=by
 unfold pl ph
 cases hr:N r with
 |none=>exact⟨rfl,rfl⟩
 |some e=>simp[h e hr]
theorem WF.half(h:WF n af N)(hl:jh n af)(hi:Interp N S){y l r:Nat}(hy:y<n∧af y=l+1)(hr:live N r)(hd:l<dep n af N r):
  (live N (pl N y r)∧l+1<dep n af N (pl N y r))∧(live N (ph N y r)∧l+1<dep n af N (ph N y r))∧∀z,S r z=if z.testBit y then S (ph N y r) z else S (pl N y r) z:=by
 by_cases e:∃e,N r=some e∧e.v=y
 ·obtain⟨e,he,hv⟩:=e
  obtain⟨p1,p2⟩:=EU he hv
  rw[p1,p2]
  have h1:=h.lo he
  have h2:=h.hi he
  rw[hv,hy.2]at h1 h2
  exact⟨h1,h2,fun z=>by rw[hi.node he,hv]⟩
 ·have ho:∀e',N r=some e'→e'.v≠y:=fun e' h1 h2=>e ⟨e',h1,h2⟩
  obtain⟨p1,p2⟩:=EV ho
  rw[p1,p2]
  have qq:l+1<dep n af N r:=by
   rcases hr with hr|⟨e',he⟩
   ·rw[aL (h.const hr)]
    have:=hl.lt y hy.1;omega
   ·rw[aj he]at hd⊢
    have h1:=ho e' he
    refine Nat.lt_of_le_of_ne hd fun e2=>h1 (hl.inj _ _ (h.var he) hy.1 (by omega))
  exact⟨⟨hr,qq⟩,⟨hr,qq⟩,fun z=>by split<;>rfl⟩
theorem WF.FO(h:WF n af N)(hl:jh n af)(hi:Interp N S){y l a b:Nat}(hy:y<n∧af y=l+1)(ha:live N a)(hb:live N b)(da:l<dep n af N a)(db:l<dep n af N b)
 (h1:pl N y a=pl N y b)(h2:ph N y a=ph N y b):a=b:=by
 refine h.same hl hi ha hb fun z=>?_
 rw[(h.half hl hi hy ha da).2.2 z,(h.half hl hi hy hb db).2.2 z,h1,h2]
structure Cx where
 r:Nat
 d:Nd
 pN:Nat
 pM:Nat
 nC:Nat
 nB:Nat
def g9(N:cN)(x y r:Nat)(d:Nd):Prop:=N r=some d∧d.v=x∧((∃e,N d.lo=some e∧e.v=y)∨∃e,N d.hi=some e∧e.v=y)
def iY(N:cN)(y r:Nat)(d:Nd):Cx:=⟨r,d,pl N y d.lo,ph N y d.lo,pl N y d.hi,ph N y d.hi⟩
structure y5(N:cN)(x y:Nat)(l:List Cx):Prop where
 nd:(l.map Cx.r).Nodup
 mem:∀c,c∈l↔g9 N x y c.r c.d∧c=iY N y c.r c.d
def keys(x:Nat)(c:Cx):List Nd:=[⟨x,c.pN,c.nC⟩,⟨x,c.pM,c.nB⟩]
structure Made(K:Kd)(x:Nat)(l:List Cx)(made:List Nd):Prop where
 nd:made.Nodup
 mem:∀k,k∈made↔(∃c∈l,k∈keys x c)∧K.T k=none∧k.lo≠k.hi
structure Nb(n:Nat)(af:Nat→Nat)(x y l:Nat):Prop where
 xn:x<n
 yn:y<n
 lx:af x=l
 ly:af y=l+1
variable {x y l:Nat}
theorem Nb.ne(h:Nb n af x y l):x≠y:=fun e=>by have h1:=h.lx;have h2:=h.ly;rw[e]at h1;omega
theorem Nb.yy(h:Nb n af x y l):y<n∧af y=l+1:=⟨h.yn,h.ly⟩
theorem gC(h:WF n af N)(hl:jh n af)(hi:Interp N S)(hb:Nb n af x y l){r:Nat}{d:Nd}(hd:N r=some d)(hx:d.v=x){k:Nd}(hk:k∈keys x (iY N y r d)):
  k.v=x∧(live N k.lo∧l+1<dep n af N k.lo)∧(live N k.hi∧l+1<dep n af N k.hi):=by
 have h1:=h.lo hd
 have h2:=h.hi hd
 rw[hx,hb.lx]at h1 h2
 have a:=h.half hl hi hb.yy h1.1 h1.2
 have b:=h.half hl hi hb.yy h2.1 h2.2
 simp only[keys,iY,List.mem_cons,List.not_mem_nil,or_false]at hk
 rcases hk with rfl|rfl
 ·exact⟨rfl,a.1,b.1⟩
 ·exact⟨rfl,a.2.1,b.2.1⟩
theorem oN(h:WF n af N)(hl:jh n af)(hi:Interp N S)(hb:Nb n af x y l){r:Nat}{d:Nd}(hd:N r=some d)(hx:d.v=x)(z:Nat):
  S r z=if z.testBit y then ite S ⟨x,ph N y d.lo,ph N y d.hi⟩ z else ite S ⟨x,pl N y d.lo,pl N y d.hi⟩ z:=by
 have h1:=h.lo hd
 have h2:=h.hi hd
 rw[hx,hb.lx]at h1 h2
 have a:=(h.half hl hi hb.yy h1.1 h1.2).2.2 z
 have b:=(h.half hl hi hb.yy h2.1 h2.2).2.2 z
 rw[hi.node hd,hx,a,b]
 unfold ite
 simp only
 cases z.testBit x<;>cases z.testBit y<;>rfl
theorem fk(h:WF n af N)(hl:jh n af)(hi:Interp N S)(hb:Nb n af x y l){k:Nd}(hk:k.v=x)(h1:live N k.lo∧l+1<dep n af N k.lo)(h2:live N k.hi∧l+1<dep n af N k.hi)(z:Nat)(b:Bool):
  ite S k (aO z x b)=S (if b then k.hi else k.lo) z:=by
 unfold ite
 rw[hk,ah,if_pos rfl]
 cases b
 ·simp only[Bool.false_eq_true,if_false];exact h.bt hl hi h1.1 hb.xn (by rw[hb.lx];omega) z false
 ·simp only[if_true];exact h.bt hl hi h2.1 hb.xn (by rw[hb.lx];omega) z true
theorem fA(h:WF n af N)(hl:jh n af)(hi:Interp N S)(hb:Nb n af x y l){k:Nd}(hk:k.v=x)(h1:live N k.lo∧l+1<dep n af N k.lo)(h2:live N k.hi∧l+1<dep n af N k.hi){u:Nat}(hu:u<n)(Ce:af u≤l+1)(hne:u≠x)(z:Nat)(b:Bool):
  ite S k (aO z u b)=ite S k z:=by
 unfold ite
 rw[hk,ah,if_neg (Ne.symm hne),h.bt hl hi h1.1 hu (by omega),h.bt hl hi h2.1 hu (by omega)]
theorem eA(h:WF n af N)(hl:jh n af)(hi:Interp N S){r:Nat}{d:Nd}(hd:N r=some d):∃z,S r (aO z d.v false)≠S r (aO z d.v true):=by
 refine Classical.byContradiction fun hno=>h.ne hd (h.same hl hi (h.lo hd).1 (h.hi hd).1 fun z=>?_)
 have c1:=h.child hl hi hd z false
 have c2:=h.child hl hi hd z true
 simp only[Bool.false_eq_true,if_false,if_true]at c1 c2
 rw[←c1,←c2]
 exact Classical.byContradiction fun hne=>hno ⟨z,hne⟩
theorem B4(h:WF n af N)(hl:jh n af)(hi:Interp N S)(hb:Nb n af x y l){k:Nd}(hk:k.v=x)(hne:k.lo≠k.hi)(h1:live N k.lo∧l+1<dep n af N k.lo)(h2:live N k.hi∧l+1<dep n af N k.hi)
 {r:Nat}{d:Nd}(hd:N r=some d)(he:ite S k=S r):d=k:=by
 have hv:=h.var hd
 have Q7:d.v=x:=by
  rcases Nat.lt_trichotomy (af d.v) l with hlt|heq|hgt
  ·obtain⟨z,hz⟩:=eA h hl hi hd
   have Ky:d.v≠x:=fun e=>by rw[e,hb.lx]at hlt;omega
   rw[←he,fA h hl hi hb hk h1 h2 hv (by omega) Ky,fA h hl hi hb hk h1 h2 hv (by omega) Ky]at hz
   exact absurd rfl hz
  ·exact hl.inj _ _ hv hb.xn (by rw[hb.lx];exact heq)
  ·refine absurd (h.same hl hi h1.1 h2.1 fun z=>?_) hne
   have c1:=fk h hl hi hb hk h1 h2 z false
   have c2:=fk h hl hi hb hk h1 h2 z true
   simp only[Bool.false_eq_true,if_false,if_true]at c1 c2
   have PW:af x<dep n af N r:=by rw[aj hd,hb.lx];exact hgt
   rw[←c1,←c2,he,h.bt hl hi (.inr ⟨d,hd⟩) hb.xn PW,h.bt hl hi (.inr ⟨d,hd⟩) hb.xn PW]
 have c:∀(b:Bool) z,S (if b then k.hi else k.lo) z=S (if b then d.hi else d.lo) z:=fun(b:Bool) z=>by
  rw[←fk h hl hi hb hk h1 h2 z b,he,←Q7,h.child hl hi hd z b]
 have e1:=h.same hl hi h1.1 (h.lo hd).1 (fun z=>by simpa using c false z)
 have e2:=h.same hl hi h2.1 (h.hi hd).1 (fun z=>by simpa using c true z)
 cases d;cases k;simp_all
theorem Fp(h:WF n af N)(hl:jh n af)(hi:Interp N S)(hb:Nb n af x y l){k k':Nd}(hk:k.v=x)(hk':k'.v=x)(h1:live N k.lo∧l+1<dep n af N k.lo)(h2:live N k.hi∧l+1<dep n af N k.hi)
 (oD:live N k'.lo∧l+1<dep n af N k'.lo)(kE:live N k'.hi∧l+1<dep n af N k'.hi)(he:ite S k=ite S k'):k=k':=by
 have c:∀(b:Bool) z,S (if b then k.hi else k.lo) z=S (if b then k'.hi else k'.lo) z:=fun(b:Bool) z=>by
  rw[←fk h hl hi hb hk h1 h2 z b,he,fk h hl hi hb hk' oD kE z b]
 have e1:=h.same hl hi h1.1 oD.1 (fun z=>by simpa using c false z)
 have e2:=h.same hl hi h2.1 kE.1 (fun z=>by simpa using c true z)
 cases k;cases k';simp_all
def gL(ord:List Nat)(l:Nat):List Nat:=(ord.set l (ord.getD (l+1) 0)).set (l+1) (ord.getD l 0)
theorem jk(ord:List Nat)(l:Nat):(gL ord l).length=ord.length:=by simp[gL]
theorem dM{i:Nat}(hl:l+1<ord.length):(gL ord l).getD i 0=if i=l then ord.getD (l+1) 0 else if i=l+1 then ord.getD l 0 else ord.getD i 0:=by
 unfold gL
 rw[List.getD_eq_getElem?_getD,List.getElem?_set,List.getElem?_set]
 by_cases e1:l+1=i
 ·subst e1
  rw[if_pos rfl,if_pos (by simp;omega),if_neg (by omega),if_pos rfl];rfl
 ·rw[if_neg e1]
  by_cases e2:l=i
  ·subst e2;rw[if_pos rfl,if_pos (by omega),if_pos rfl];rfl
  ·rw[if_neg e2,if_neg (fun e=>e2 e.symm),if_neg (fun e=>e1 e.symm),←List.getD_eq_getElem?_getD]
def nj(af:Nat→Nat)(x y l:Nat):Nat→Nat:=fun v=>if v=x then l+1 else if v=y then l else af v
theorem Ez(hl:jh n af)(hb:Nb n af x y l):jh n (nj af x y l):=by
 have Ig:=hl.lt y hb.yn
 rw[hb.ly]at Ig
 have key:∀v,v<n→v≠x→v≠y→af v≠l∧af v≠l+1:=fun v hv h1 h2=>⟨fun e=>h1 (hl.inj _ _ hv hb.xn (by rw[hb.lx];exact e)),fun e=>h2 (hl.inj _ _ hv hb.yn (by rw[hb.ly];exact e))⟩
 refine⟨fun v hv=>?_,fun u v hu hv he=>?_⟩
 ·unfold nj
  split
  ·exact Ig
  ·split
   ·omega
   ·exact hl.lt v hv
 ·unfold nj at he
  by_cases u1:u=x
  ·by_cases v1:v=x
   ·rw[u1,v1]
   ·rw[if_pos u1,if_neg v1]at he
    by_cases v2:v=y
    ·rw[if_pos v2]at he;omega
    ·rw[if_neg v2]at he;exact absurd he.symm (key v hv v1 v2).2
  ·rw[if_neg u1]at he
   by_cases u2:u=y
   ·rw[if_pos u2]at he
    by_cases v1:v=x
    ·rw[if_pos v1]at he;omega
    ·rw[if_neg v1]at he
     by_cases v2:v=y
     ·rw[u2,v2]
     ·rw[if_neg v2]at he;exact absurd he.symm (key v hv v1 v2).1
   ·rw[if_neg u2]at he
    by_cases v1:v=x
    ·rw[if_pos v1]at he;exact absurd he (key u hu u1 u2).2
    ·rw[if_neg v1]at he
     by_cases v2:v=y
     ·rw[if_pos v2]at he;exact absurd he (key u hu u1 u2).1
     ·rw[if_neg v2]at he;exact hl.inj _ _ hu hv he
theorem Ord.nb(ho:Ord n af ord)(hl:l+1<n):Nb n af (ord.getD l 0) (ord.getD (l+1) 0) l:=
 ⟨(ho.aH l (by omega)).1,(ho.aH (l+1) hl).1,(ho.aH l (by omega)).2,(ho.aH (l+1) hl).2⟩
theorem Ey(ho:Ord n af ord)(hl:l+1<n):Ord n (nj af (ord.getD l 0) (ord.getD (l+1) 0) l) (gL ord l):=by
 have hb:=ho.nb hl
 refine⟨by rw[jk,ho.len],fun i hi=>?_⟩
 rw[dM (by rw[ho.len];exact hl)]
 unfold nj
 by_cases e1:i=l
 ·subst e1;rw[if_pos rfl];refine⟨hb.yn,?_⟩;rw[if_neg (Ne.symm hb.ne),if_pos rfl]
 ·rw[if_neg e1]
  by_cases e2:i=l+1
  ·subst e2;rw[if_pos rfl];refine⟨hb.xn,?_⟩;rw[if_pos rfl]
  ·rw[if_neg e2]
   obtain⟨h1,h2⟩:=ho.aH i hi
   refine⟨h1,?_⟩
   rw[if_neg,if_neg]
   ·exact h2
   ·intro e;rw[e,hb.ly]at h2;omega
   ·intro e;rw[e,hb.lx]at h2;omega
variable {F:Fn→Prop}
theorem uS(hl:l+1<ord.length)(hne:ord.getD l 0≠ord.getD (l+1) 0):∀m,m≠l+1→∀g,fs (gL ord l) F m g↔fs ord F m g
 |0,_,g=>Iff.rfl
 |m+1,hm,g=>by
  by_cases e:m=l+1
  ·subst e
   have g1:(gL ord l).getD (l+1) 0=ord.getD l 0:=by rw[dM hl,if_neg (by omega),if_pos rfl]
   have g2:(gL ord l).getD l 0=ord.getD (l+1) 0:=by rw[dM hl,if_pos rfl]
   have ih:=uS hl hne l (by omega)
   constructor
   ·rintro⟨f,⟨f',h,b,rfl⟩,b',rfl⟩
    refine⟨_,⟨f',(ih f').1 h,b',rfl⟩,b,?_⟩
    funext z
    rw[g1,g2]
    show f' _=f' _
    rw[dF hne]
   ·rintro⟨f,⟨f',h,b,rfl⟩,b',rfl⟩
    refine⟨_,⟨f',(ih f').2 h,b',rfl⟩,b,?_⟩
    funext z
    rw[g1,g2]
    show f' _=f' _
    rw[dF (Ne.symm hne)]
  ·have ih:=uS hl hne m e
   have hg:(gL ord l).getD m 0=ord.getD m 0:=by rw[dM hl,if_neg (by omega),if_neg e]
   constructor
   ·rintro⟨f,h,b,rfl⟩;exact⟨f,(ih f).1 h,b,by rw[hg]⟩
   ·rintro⟨f,h,b,rfl⟩;exact⟨f,(ih f).2 h,b,by rw[hg]⟩
theorem Bg(h:Ok K S af)(ho:Ord K.n af ord)(zP:l+1<K.n){all:List Cx}(hc:y5 K.N (ord.getD l 0) (ord.getD (l+1) 0) all){made:List Nd}(hm:Made K (ord.getD l 0) all made):
  jJ (fun g=>aF K.n ord (K.held S) g∨aF K.n (gL ord l) (K.held S) g) (K.used-2+made.length):=by
 have hb:=ho.nb zP
 have hlen:l+1<ord.length:=by rw[ho.len];exact zP
 have hw:=h.wf
 have hlv:=h.lv
 have hi:=h.mid.int
 have hR:∀r,K.hold r≠0→live K.N r:=fun r hr=>.inr (h.mid.held r hr)
 generalize hx:ord.getD l 0=x at*
 generalize hy:ord.getD (l+1) 0=y at*
 have g6:∀k∈made,k.v=x∧(live K.N k.lo∧l+1<dep K.n af K.N k.lo)∧(live K.N k.hi∧l+1<dep K.n af K.N k.hi):=fun k hk=>by
  obtain⟨⟨c,CW,hkc⟩,_⟩:=(hm.mem k).1 hk
  obtain⟨⟨hd,CI,_⟩,e⟩:=(hc.mem c).1 CW
  rw[e]at hkc
  exact gC hw hlv hi hb hd CI hkc
 obtain⟨dom,d1,d2,d3⟩:=h.dom
 have c1:=qz hw hlv hi d1 d3
 rw[show dom.length=K.used-2 by omega]at c1
 have c2:jJ (fun g=>∃k∈made,g=ite S k) made.length:=by
  refine⟨made.map (ite S),?_,by simp,fun g=>?_⟩
  ·refine List.pairwise_map.2 (hm.nd.imp_of_mem fun{a b} ha hb' hne heq=>hne ?_)
   obtain⟨a1,a2,a3⟩:=g6 a ha
   obtain⟨b1,b2,b3⟩:=g6 b hb'
   exact Fp hw hlv hi hb a1 b1 a2 a3 b2 b3 heq
  ·rw[List.mem_map]
   constructor
   ·rintro⟨k,hk,rfl⟩;exact⟨k,hk,rfl⟩
   ·rintro⟨k,hk,rfl⟩;exact⟨k,hk,rfl⟩
 refine(c1.or c2 ?_).congr fun g=>?_
 ·rintro g ⟨r,d,hd,rfl⟩ ⟨k,hk,he⟩
  obtain⟨a1,a2,a3⟩:=g6 k hk
  obtain⟨_,hT,hne⟩:=(hm.mem k).1 hk
  have:=B4 hw hlv hi hb a1 hne a2 a3 hd he.symm
  subst this
  rw[(h.mid.gK d r).2 ⟨hd,fun x=>x⟩]at hT;cases hT
 ·have Kv:=iK hw hlv ho hi hR h.reach
  have kQ:=fun m (hmn:m≤K.n) g=>F6 hw hlv ho hi hR m hmn g
  have hne:ord.getD l 0≠ord.getD (l+1) 0:=by rw[hx,hy];exact hb.ne
  have yp:=uS (F:=K.held S) hlen hne
  have gl:(gL ord l).getD l 0=y:=by rw[dM hlen,if_pos rfl,hy]
  have Ql:(gL ord l).getD (l+1) 0=x:=by rw[dM hlen,if_neg (by omega),if_pos rfl,hx]
  have go:∀m,m≠l→m≠l+1→(gL ord l).getD m 0=ord.getD m 0:=fun m h1 h2=>by rw[dM hlen,if_neg h1,if_neg h2]
  constructor
  ·rintro(⟨r,d,hd,rfl⟩|⟨k,hk,rfl⟩)
   ·exact .inl ((Kv _).2 ⟨r,d,hd,rfl⟩)
   ·obtain⟨a1,a2,a3⟩:=g6 k hk
    obtain⟨⟨c,CW,hkc⟩,hT,Iz⟩:=(hm.mem k).1 hk
    obtain⟨⟨hd,CI,_⟩,e⟩:=(hc.mem c).1 CW
    refine .inr ⟨l+1,zP,?_,?_⟩
    ·have hA:=Hz hw h.reach _ c.r c.d hd (Nat.le_refl _)
     rw[CI,hb.lx]at hA
     refine⟨S c.r,(yp l (by omega) _).2 ((kQ l (by omega) _).2 ⟨c.r,hA,rfl⟩),?_⟩
     have KT:=oN hw hlv hi hb hd CI
     rw[e]at hkc
     simp only[keys,iY,List.mem_cons,List.not_mem_nil,or_false]at hkc
     rw[gl]
     rcases hkc with rfl|rfl
     ·refine⟨false,?_⟩
      funext z
      rw[KT,ah,if_pos rfl,if_neg (by simp),fA hw hlv hi hb rfl a2 a3 hb.yn (by rw[hb.ly];exact Nat.le_refl _) (Ne.symm hb.ne)]
     ·refine⟨true,?_⟩
      funext z
      rw[KT,ah,if_pos rfl,if_pos rfl,fA hw hlv hi hb rfl a2 a3 hb.yn (by rw[hb.ly];exact Nat.le_refl _) (Ne.symm hb.ne)]
    ·rw[Ql]
     refine Classical.byContradiction fun hno=>Iz (hw.same hlv hi a2.1 a3.1 fun z=>?_)
     have c1:=fk hw hlv hi hb a1 a2 a3 z false
     have c2:=fk hw hlv hi hb a1 a2 a3 z true
     simp only[Bool.false_eq_true,if_false,if_true]at c1 c2
     rw[←c1,←c2]
     exact Classical.byContradiction fun hne=>hno ⟨z,hne⟩
  ·rintro(hg|⟨m,hmn,hf,hh⟩)
   ·exact .inl ((Kv g).1 hg)
   ·by_cases e1:m=l+1
    ·subst e1
     rw[Ql]at hh
     obtain⟨f,hf,b,rfl⟩:=hf
     rw[gl]at hh⊢
     obtain⟨r,hA,rfl⟩:=(kQ l (by omega) f).1 ((yp l (by omega) f).1 hf)
     obtain⟨hlr,hle⟩:=mM hw hR l r hA
     have hgt:dep K.n af K.N r=l:=by
      refine Nat.le_antisymm (Nat.le_of_not_lt fun hlt=>?_) hle
      obtain⟨z,hz⟩:=hh
      refine hz ?_
      show S r (aO (aO z x false) y b)=S r (aO (aO z x true) y b)
      rw[dF hb.ne,dF hb.ne,hw.bt hlv hi hlr hb.xn (by rw[hb.lx];exact hlt),hw.bt hlv hi hlr hb.xn (by rw[hb.lx];exact hlt)]
     rcases hlr with zZ|⟨d,hd⟩
     ·rw[aL (hw.const zZ)]at hgt;omega
     ·rw[aj hd]at hgt
      have CI:d.v=x:=hlv.inj _ _ (hw.var hd) hb.xn (by rw[hb.lx];exact hgt)
      have KT:=oN hw hlv hi hb hd CI
      have hkk:∃k∈keys x (iY K.N y r d),(fun z=>S r (aO z y b))=ite S k:=by
       cases b
       ·refine⟨_,List.mem_cons_self,?_⟩
        obtain⟨a1,a2,a3⟩:=gC hw hlv hi hb hd CI (k:=⟨x,pl K.N y d.lo,pl K.N y d.hi⟩) List.mem_cons_self
        funext z
        rw[KT,ah,if_pos rfl,if_neg (by simp),fA hw hlv hi hb rfl a2 a3 hb.yn (by rw[hb.ly];exact Nat.le_refl _) (Ne.symm hb.ne)];rfl
       ·refine⟨_,List.mem_cons_of_mem _ List.mem_cons_self,?_⟩
        obtain⟨a1,a2,a3⟩:=gC hw hlv hi hb hd CI (k:=⟨x,ph K.N y d.lo,ph K.N y d.hi⟩) (List.mem_cons_of_mem _ List.mem_cons_self)
        funext z
        rw[KT,ah,if_pos rfl,if_pos rfl,fA hw hlv hi hb rfl a2 a3 hb.yn (by rw[hb.ly];exact Nat.le_refl _) (Ne.symm hb.ne)];rfl
      obtain⟨k,hkm,Rw⟩:=hkk
      obtain⟨a1,a2,a3⟩:=gC hw hlv hi hb hd CI hkm
      rw[Rw]at hh⊢
      have Iz:k.lo≠k.hi:=fun e=>by
       obtain⟨z,hz⟩:=hh
       have c1:=fk hw hlv hi hb a1 a2 a3 z false
       have c2:=fk hw hlv hi hb a1 a2 a3 z true
       simp only[Bool.false_eq_true,if_false,if_true]at c1 c2
       rw[c1,c2,e]at hz;exact hz rfl
      cases hT:K.T k with
      |some s=>
       have hs:=((h.mid.gK k s).1 hT).1
       refine .inl ⟨s,k,hs,?_⟩
       funext z
       exact(hi.node hs z).symm
      |none=>
       by_cases IL:g9 K.N x y r d
       ·exact .inr ⟨k,(hm.mem k).2 ⟨⟨iY K.N y r d,(hc.mem _).2 ⟨IL,rfl⟩,hkm⟩,hT,Iz⟩,rfl⟩
       ·have hno:∀t,t=d.lo∨t=d.hi→pl K.N y t=t∧ph K.N y t=t:=fun t ht=>EV fun e he hv=>IL ⟨hd,CI,by
         rcases ht with rfl|rfl
         ·exact .inl ⟨e,he,hv⟩
         ·exact .inr ⟨e,he,hv⟩⟩
        have e1:=hno d.lo (.inl rfl)
        have e2:=hno d.hi (.inr rfl)
        have:k=d:=by
         simp only[keys,iY,e1.1,e1.2,e2.1,e2.2,List.mem_cons,List.not_mem_nil,or_false,or_self]at hkm
         rw[hkm,←CI]
        rw[this,(h.mid.gK d r).2 ⟨hd,fun x=>x⟩]at hT;cases hT
    ·by_cases e2:m=l
     ·subst e2
      rw[gl]at hh
      obtain⟨r,hA,rfl⟩:=(kQ m (by omega) g).1 ((yp m e1 g).1 hf)
      obtain⟨hlr,hle⟩:=mM hw hR m r hA
      rcases hlr with zZ|⟨d,hd⟩
      ·obtain⟨z,hz⟩:=hh
       have:∀z,S r z=S r 0:=fun z=>by
        have:r=0∨r=1:=by omega
        rcases this with rfl|rfl
        ·rw[hi.zero,hi.zero]
        ·rw[hi.one,hi.one]
       rw[this (aO z y false),this (aO z y true)]at hz
       exact absurd rfl hz
      ·exact .inl ⟨r,d,hd,rfl⟩
     ·refine .inl ((Kv g).1 ⟨m,hmn,(yp m e1 g).1 hf,?_⟩)
      rw[go m e2 e1]at hh;exact hh
end av
namespace av
open eH
def ng(K:Kd)(af:Nat→Nat)(l t:Nat):Prop:=live K.N t∧l+1<dep K.n af K.N t
def pQ(K0 K:Kd)(af:Nat→Nat)(x l t:Nat):Prop:=ng K0 af l t∨∃e,K.N t=some e∧e.v=x∧ng K0 af l e.lo∧ng K0 af l e.hi
structure TI(K0:Kd)(S0:Nat→Fn)(af:Nat→Nat)(x y l:Nat)(made:List Nd)(K:Kd)(S:Nat→Fn)(done rest:List Cx)(P:Nat→Nat):Prop where
 mid:fQ K S (fun s=>∃c∈rest,s=c.r) P
 n:K.n=K0.n
 cap:K.cap=K0.cap
 hold:∀r,K.hold r=K0.hold r
 ext:∀r,live K0.N r→S r=S0 r
 old:∀{r d},K0.N r=some d→r∉done.map Cx.r→K.N r=some d
 kept:∀{r d},K0.N r=some d→∃d',K.N r=some d'
 new:∀{r d},K.N r=some d→(K0.N r=some d∧r∉done.map Cx.r)∨(r∈done.map Cx.r∧d.v=y∧pQ K0 K af x l d.lo∧pQ K0 K af x l d.hi)∨(K0.N r=none∧d.v=x∧ng K0 af l d.lo∧ng K0 af l d.hi)
 used:K.used=K0.used+(made.filter fun k=>(K.T k).isSome).length
structure TB(K0:Kd)(S0:Nat→Fn)(af:Nat→Nat)(x y l:Nat)(all:List Cx)(made:List Nd):Prop where
 ok:Ok K0 S0 af
 nb:Nb K0.n af x y l
 cx:y5 K0.N x y all
 J4:Made K0 x all made
 room:K0.used+made.length≤K0.cap
section
variable {K0 K:Kd} {S0 S:Nat→Fn} {af:Nat→Nat} {x y l:Nat} {made:List Nd} {done rest all:List Cx} {P:Nat→Nat}
theorem TB.iZ(b:TB K0 S0 af x y l all made){c:Cx}(hc:c∈all):K0.N c.r=some c.d∧c.d.v=x∧c=iY K0.N y c.r c.d:=by
 obtain⟨⟨h1,h2,_⟩,h3⟩:=(b.cx.mem c).1 hc
 exact⟨h1,h2,h3⟩
theorem TB.Fa(b:TB K0 S0 af x y l all made){c:Cx}(hc:c∈all):(ng K0 af l c.pN∧ng K0 af l c.nC)∧(ng K0 af l c.pM∧ng K0 af l c.nB):=by
 obtain⟨h1,h2,h3⟩:=b.iZ hc
 have k1:=gC b.ok.wf b.ok.lv b.ok.mid.int b.nb h1 h2 (k:=⟨x,pl K0.N y c.d.lo,pl K0.N y c.d.hi⟩) List.mem_cons_self
 have k2:=gC b.ok.wf b.ok.lv b.ok.mid.int b.nb h1 h2 (k:=⟨x,ph K0.N y c.d.lo,ph K0.N y c.d.hi⟩) (List.mem_cons_of_mem _ List.mem_cons_self)
 rw[h3]
 exact⟨⟨k1.2.1,k1.2.2⟩,⟨k2.2.1,k2.2.2⟩⟩
theorem TB.level(b:TB K0 S0 af x y l all made){c:Cx}(hc:c∈all):dep K0.n af K0.N c.r=l:=by
 obtain⟨h1,h2,_⟩:=b.iZ hc
 rw[aj h1,h2,b.nb.lx]
theorem TB.start(b:TB K0 S0 af x y l all made){T:Nd→Option Nat}(hm:fQ {K0 with T:=T} S0 (fun s=>∃c∈all,s=c.r) zero')(hT:∀d,T d=none∨T d=K0.T d):
  TI K0 S0 af x y l made {K0 with T:=T} S0 [] all zero' where
 mid:=hm
 n:=rfl
 cap:=rfl
 hold:=fun _=>rfl
 ext:=fun _ _=>rfl
 old:=fun h _=>h
 kept:=fun h=>⟨_,h⟩
 new:=fun h=>.inl ⟨h,by simp⟩
 used:=by
  have:made.filter (fun k=>(T k).isSome)=[]:=by
   rw[List.filter_eq_nil_iff]
   intro k hk
   have h1:=((b.J4.mem k).1 hk).2.1
   rcases hT k with h2|h2
   ·rw[h2];simp
   ·rw[h2,h1];simp
  show K0.used=K0.used+(made.filter (fun k=>(T k).isSome)).length
  rw[this];simp
theorem TI.Fe(b:TB K0 S0 af x y l all made)(h:TI K0 S0 af x y l made K S done rest P)(hd:∀c∈done,c∈all){t:Nat}(ht:ng K0 af l t):K.N t=K0.N t:=by
 rcases ht with⟨ht|⟨d,cE⟩,hlt⟩
 ·cases e:K.N t with
  |none=>rw[b.ok.wf.const ht]
  |some d=>have:=(h.mid.two e).1;omega
 ·rw[cE]
  refine h.old cE fun hm=>?_
  obtain⟨c,hc,e⟩:=List.mem_map.1 hm
  have:=b.level (hd c hc)
  rw[e]at this;omega
theorem TI.lj(b:TB K0 S0 af x y l all made)(h:TI K0 S0 af x y l made K S done rest P)(hd:∀c∈done,c∈all){t:Nat}(ht:ng K0 af l t):live K.N t:=by
 have e:=h.Fe b hd ht
 rcases ht.1 with ht|⟨d,cE⟩
 ·exact .inl ht
 ·exact .inr ⟨d,by rw[e];exact cE⟩
theorem TI.lz(b:TB K0 S0 af x y l all made)(h:TI K0 S0 af x y l made K S done rest P)(hd:∀c∈done,c∈all){t:Nat}(ht:pQ K0 K af x l t):live K.N t:=by
 rcases ht with ht|⟨e,he,_⟩
 ·exact h.lj b hd ht
 ·exact .inr ⟨e,he⟩
theorem TI.use(h:TI K0 S0 af x y l made K S done rest P){r:Nat}{cf:List Nat}(hl:cf.length=K.us.length)(h1:cf.getD r 0=K.use r+1)(h2:∀s,s≠r→cf.getD s 0=K.use s):
  TI K0 S0 af x y l made {K with us:=cf} S done rest (up P r (P r+1)) where
 mid:=h.mid.more hl h1 h2
 n:=h.n
 cap:=h.cap
 hold:=h.hold
 ext:=h.ext
 old:=h.old
 kept:=h.kept
 new:=h.new
 used:=h.used
theorem TI.congr(h:TI K0 S0 af x y l made K S done rest P){P':Nat→Nat}(hP:∀s,2≤s→P s=P' s):TI K0 S0 af x y l made K S done rest P' where
 mid:=h.mid.congr (fun _=>Iff.rfl) hP
 n:=h.n
 cap:=h.cap
 hold:=h.hold
 ext:=h.ext
 old:=h.old
 kept:=h.kept
 new:=h.new
 used:=h.used
theorem filter_lt{α:Type}{p:α→Bool}{k:α}:∀{m:List α},k∈m→p k=false→(m.filter p).length<m.length
 | [],h,_=>by simp at h
 |z::m,h,hp=>by
  rcases List.mem_cons.1 h with rfl|h
  ·rw[List.filter_cons,if_neg (by simp[hp])]
   have:=List.length_filter_le p m
   simp;omega
  ·have:=filter_lt h hp
   rw[List.filter_cons]
   split
   ·rw[List.length_cons,List.length_cons];omega
   ·rw[List.length_cons];omega
theorem TI.fits(b:TB K0 S0 af x y l all made)(h:TI K0 S0 af x y l made K S done rest P){k:Nd}(hk:k∈made)(hT:K.T k=none):K.used<K.cap:=by
 have h1:=filter_lt (p:=fun k=>(K.T k).isSome) hk (by rw[hT];rfl)
 have h2:=h.used
 have h3:=b.room
 have h4:=h.cap
 omega
theorem iW{T:Nd→Option Nat}{k:Nd}{r:Nat}:∀{m:List Nd},m.Nodup→T k=none→(m.filter fun d=>(kM T k (some r) d).isSome).length=(m.filter fun d=>(T d).isSome).length+(if k∈m then 1 else 0)
 | [],_,_=>rfl
 |z::m,hn,hT=>by
  obtain⟨h1,h2⟩:=List.nodup_cons.1 hn
  have ih:=iW (r:=r) h2 hT
  rw[List.filter_cons,List.filter_cons]
  by_cases e:z=k
  ·subst e
   rw[fC,hT]
   simp only[Option.isSome_some,if_true,Option.isSome_none,Bool.false_eq_true,if_false,List.length_cons,ih,if_neg h1,List.mem_cons,true_or]
  ·rw[j6 e]
   have e2:(k∈z::m)↔k∈m:=by rw[List.mem_cons];exact⟨fun h=>h.resolve_left (fun h=>e h.symm),.inr⟩
   simp only[e2]
   split
   ·simp only[List.length_cons,ih];omega
   ·exact ih
theorem TB.ru(b:TB K0 S0 af x y l all made){t:Nat}(ht:ng K0 af l t){e:Nd}(he:K0.N t=some e):l+1<af e.v:=by
 have:=ht.2
 rwa [aj he]at this
theorem TB.sH(b:TB K0 S0 af x y l all made){c:Cx}(hc:c∈all)(h1:ng K0 af l c.d.lo)(h2:ng K0 af l c.d.hi):False:=by
 obtain⟨⟨_,_,h3⟩,_⟩:=(b.cx.mem c).1 hc
 have hy:=b.nb.ly
 rcases h3 with⟨e,he,hv⟩|⟨e,he,hv⟩
 ·have:=b.ru h1 he;rw[hv]at this;omega
 ·have:=b.ru h2 he;rw[hv]at this;omega
theorem TI.B9(b:TB K0 S0 af x y l all made)(h:TI K0 S0 af x y l made K S done rest P)(hd:∀c∈done,c∈all)(hr:∀c∈rest,c∈all){c:Cx}(hc:c∈all){k:Nd}(hk:k∈keys x c)(hne:k.lo≠k.hi)(h1:ng K0 af l k.lo)(h2:ng K0 af l k.hi)(hT:K.T k=none):k∈made:=by
 refine(b.J4.mem k).2 ⟨⟨c,hc,hk⟩,?_,hne⟩
 cases e:K0.T k with
 |none=>rfl
 |some s=>
  have hs:=((b.ok.mid.gK k s).1 e).1
  have hno:∀c'∈all,s≠c'.r:=fun c' jD e'=>by
   have h3:=(b.iZ jD).1
   rw[←e',hs]at h3
   cases h3
   exact b.sH jD h1 h2
  have sY:K.N s=some k:=by
   refine h.old hs fun hm=>?_
   obtain⟨c',jD,e'⟩:=List.mem_map.1 hm
   exact hno c' (hd c' jD) e'.symm
  have:=(h.mid.gK k s).2 ⟨sY,by rintro⟨c',jD,e'⟩;exact hno c' (hr c' jD) e'⟩
  rw[hT]at this;cases this
theorem TI.lay(b:TB K0 S0 af x y l all made)(h:TI K0 S0 af x y l made K S done rest P)(hd:∀c∈done,c∈all)(hr:∀c∈rest,c∈all){c:Cx}(hc:c∈all){k:Nd}(hk:k∈keys x c)(hne:k.lo≠k.hi)(hT:K.T k=none)
 {r:Nat}{cf bO:List Nat}(hN:K.N r=none)(h2:2≤r∧r<K.cap)(hl:cf.length=bO.length)(hf:r<cf.length∧K.us.length≤cf.length)(u0:cf.getD r 0=0)(u1:∀s,2≤s→s≠r→cf.getD s 0=K.use s+e1 (some k) s)(o0:bO.getD r 0=0)(o1:∀s,s≠r→bO.getD s 0=K.hold s)(hP:P r=0):
  TI K0 S0 af x y l made {K with N:=up K.N r (some k),T:=kM K.T k (some r),used:=K.used+1,us:=cf,ho:=bO} (up S r (ite S k)) done rest P∧pQ K0 {K with N:=up K.N r (some k),T:=kM K.T k (some r),used:=K.used+1,us:=cf,ho:=bO} af x l r:=by
 have g6:=b.Fa hc
 have hkv:k.v=x∧ng K0 af l k.lo∧ng K0 af l k.hi:=by
  simp only[keys,List.mem_cons,List.not_mem_nil,or_false]at hk
  rcases hk with rfl|rfl
  ·exact⟨rfl,g6.1.1,g6.1.2⟩
  ·exact⟨rfl,g6.2.1,g6.2.2⟩
 have KD:K0.N r=none:=by
  cases e:K0.N r with
  |none=>rfl
  |some d=>obtain⟨d',cE⟩:=h.kept e;rw[hN]at cE;cases cE
 have hkm:=h.B9 b hd hr hc hk hne hkv.2.1 hkv.2.2 hT
 have hE:¬∃c∈rest,r=c.r:=by
  rintro⟨c',jD,rfl⟩
  have:=(b.iZ (hr c' jD)).1
  rw[KD]at this;cases this
 have uN:∀{t},pQ K0 K af x l t→pQ K0 {K with N:=up K.N r (some k),T:=kM K.T k (some r),used:=K.used+1,us:=cf,ho:=bO} af x l t:=fun ht=>by
  rcases ht with ht|⟨e,he,h3⟩
  ·exact .inl ht
  ·refine .inr ⟨e,?_,h3⟩
   show up K.N r (some k) _=_
   rw[aA (fun e2=>by rw[e2,hN]at he;cases he)];exact he
 refine⟨⟨h.mid.lay hN h2 (by rw[hkv.1,h.n];exact b.nb.xn) hne (h.lj b hd hkv.2.1) (h.lj b hd hkv.2.2) hT hE hP (h.fits b hkm hT) hl hf u0 u1 o0 o1,h.n,h.cap,fun s=>?_,fun s hs=>?_,fun{s d} hs hm=>?_,fun{s d} hs=>?_,fun{s d} hs=>?_,?_⟩,?_⟩
 ·show bO.getD s 0=_
  rw[←h.hold]
  by_cases e:s=r
  ·subst e
   rw[o0]
   refine(Classical.byContradiction fun hno=>?_)
   obtain⟨d,cE⟩:=h.mid.held s (fun e=>hno e.symm)
   rw[hN]at cE;cases cE
  ·exact o1 s e
 ·rw[aA (dj hs h2.1 KD)];exact h.ext s hs
 ·show up K.N r (some k) s=_
  rw[aA (fun e=>by rw[e,KD]at hs;cases hs)];exact h.old hs hm
 ·obtain⟨d',cE⟩:=h.kept hs
  exact⟨d',by show up K.N r (some k) s=_;rw[aA (fun e=>by rw[e,KD]at hs;cases hs)];exact cE⟩
 ·have hs':up K.N r (some k) s=some d:=hs
  by_cases e:s=r
  ·subst e
   rw[az]at hs';cases hs'
   exact .inr (.inr ⟨KD,hkv⟩)
  ·rw[aA e]at hs'
   rcases h.new hs' with h1|⟨h1,kE,h3,h4⟩|h1
   ·exact .inl h1
   ·exact .inr (.inl ⟨h1,kE,uN h3,uN h4⟩)
   ·exact .inr (.inr h1)
 ·show K.used+1=K0.used+(made.filter fun d=>(kM K.T k (some r) d).isSome).length
  rw[iW b.J4.nd hT,if_pos hkm,h.used];omega
 ·exact .inr ⟨k,az,hkv⟩
theorem TI.found(b:TB K0 S0 af x y l all made)(h:TI K0 S0 af x y l made K S done rest P){c:Cx}(hc:c∈all){k:Nd}(hk:k∈keys x c){r:Nat}(hT:K.T k=some r):K.N r=some k∧pQ K0 K af x l r:=by
 have g6:=b.Fa hc
 have hN:=((h.mid.gK k r).1 hT).1
 simp only[keys,List.mem_cons,List.not_mem_nil,or_false]at hk
 rcases hk with rfl|rfl
 ·exact⟨hN,.inr ⟨_,hN,rfl,g6.1.1,g6.1.2⟩⟩
 ·exact⟨hN,.inr ⟨_,hN,rfl,g6.2.1,g6.2.2⟩⟩
theorem TI.GM(b:TB K0 S0 af x y l all made)(h:TI K0 S0 af x y l made K S done rest P){a a' t:Nat}(la:ng K0 af l a)(uD:ng K0 af l a')(g:(a=a'∧t=a)∨K.N t=some ⟨x,a,a'⟩)(z:Nat):S t z=ite S0 ⟨x,a,a'⟩ z:=by
 rcases g with⟨rfl,rfl⟩|g
 ·rw[h.ext t la.1];unfold ite;simp
 ·rw[h.mid.int.node g]
  unfold ite
  simp only
  rw[h.ext a la.1,h.ext a' uD.1]
theorem TI.Fb(b:TB K0 S0 af x y l all made)(h:TI K0 S0 af x y l made K S done rest P)(hd:∀c∈done,c∈all){a a' t:Nat}(ht:ng K0 af l t)(g:K.N t=some ⟨x,a,a'⟩):False:=by
 rw[h.Fe b hd ht]at g
 have:=b.ru ht g
 have hx:=b.nb.lx
 simp only at this;omega
theorem TI.qS(b:TB K0 S0 af x y l all made){c:Cx}(h:TI K0 S0 af x y l made K S done (c::rest) P)(hd:∀c∈done,c∈all)(hr:∀c'∈c::rest,c'∈all)(hn:((done++c::rest).map Cx.r).Nodup){t0 t1:Nat}
 (k0:pQ K0 K af x l t0)(k1:pQ K0 K af x l t1)(g0:(c.pN=c.nC∧t0=c.pN)∨K.N t0=some ⟨x,c.pN,c.nC⟩)(g1:(c.pM=c.nB∧t1=c.pM)∨K.N t1=some ⟨x,c.pM,c.nB⟩){P':Nat→Nat}(hP:∀s,2≤s→P' s+e1 (some ⟨y,t0,t1⟩) s=P s+e1 (some c.d) s):
  K.T ⟨y,t0,t1⟩=none∧TI K0 S0 af x y l made {K with N:=up K.N c.r (some ⟨y,t0,t1⟩),T:=kM K.T ⟨y,t0,t1⟩ (some c.r)} S (done++[c]) rest P':=by
 have hc:=hr c (by simp)
 obtain⟨rG,zY,hce⟩:=b.iZ hc
 obtain⟨⟨Pq,QR⟩,⟨Pp,Ni⟩⟩:=b.Fa hc
 have w:=b.ok.wf
 have hi:=b.ok.mid.int
 have hlo:=w.lo rG
 have hhi:=w.hi rG
 rw[zY,b.nb.lx]at hlo hhi
 have ep:c.pN=pl K0.N y c.d.lo∧c.pM=ph K0.N y c.d.lo∧c.nC=pl K0.N y c.d.hi∧c.nB=ph K0.N y c.d.hi:=by rw[hce];exact⟨rfl,rfl,rfl,rfl⟩
 have both:c.pN=c.nC→c.pM=c.nB→False:=fun e1 e2=>by
  rw[ep.1,ep.2.2.1]at e1
  rw[ep.2.1,ep.2.2.2]at e2
  exact w.ne rG (w.FO b.ok.lv hi b.nb.yy hlo.1 hhi.1 hlo.2 hhi.2 e1 e2)
 have Mf:c.r∉done.map Cx.r:=by
  rw[List.map_append,List.nodup_append]at hn
  intro hm
  exact hn.2.2 _ hm _ (by simp) rfl
 have JA:=h.old rG Mf
 have fn0:=fun z=>h.GM b Pq QR g0 z
 have Sw:=fun z=>h.GM b Pp Ni g1 z
 have hS:∀z,S c.r z=ite S ⟨y,t0,t1⟩ z:=fun z=>by
  rw[h.ext c.r (.inr ⟨_,rG⟩),oN w b.ok.lv hi b.nb rG zY z]
  unfold ite
  simp only
  have a0:=fn0 z
  have a1:=Sw z
  unfold ite at a0 a1
  simp only at a0 a1
  rw[a0,a1,ep.1,ep.2.1,ep.2.2.1,ep.2.2.2]
 have hne:t0≠t1:=fun e=>by
  subst e
  rcases g0 with⟨e1,e2⟩|g0
  ·rcases g1 with⟨e3,e4⟩|g1
   ·exact both e1 e3
   ·rw[e2]at g1;exact h.Fb b hd Pq g1
  ·rcases g1 with⟨e3,e4⟩|g1
   ·rw[e4]at g0;exact h.Fb b hd Pp g0
   ·rw[g0]at g1
    simp only[Option.some.injEq,Nd.mk.injEq,true_and]at g1
    obtain⟨q1,q2⟩:=g1
    obtain⟨⟨_,_,IL⟩,_⟩:=(b.cx.mem c).1 hc
    rw[ep.1,ep.2.1]at q1
    rw[ep.2.2.1,ep.2.2.2]at q2
    rcases IL with⟨e,he,hv⟩|⟨e,he,hv⟩
    ·have:=EU he hv
     rw[this.1,this.2]at q1
     exact w.ne he q1
    ·have:=EU he hv
     rw[this.1,this.2]at q2
     exact w.ne he q2
 have hT:K.T ⟨y,t0,t1⟩=none:=by
  cases e:K.T ⟨y,t0,t1⟩with
  |none=>rfl
  |some s=>
   obtain⟨hs,Cj⟩:=(h.mid.gK _ s).1 e
   rcases h.new hs with⟨h1,_⟩|⟨h1,_⟩|⟨_,h1,_⟩
   ·have q1:=w.lo h1
    have q2:=w.hi h1
    simp only at q1 q2
    rw[b.nb.ly]at q1 q2
    have p1:c.pN=c.nC:=by
     rcases g0 with⟨e1,_⟩|g0
     ·exact e1
     ·exact(h.Fb b hd q1 g0).elim
    have p2:c.pM=c.nB:=by
     rcases g1 with⟨e1,_⟩|g1
     ·exact e1
     ·exact(h.Fb b hd q2 g1).elim
    exact(both p1 p2).elim
   ·obtain⟨c',jD,e'⟩:=List.mem_map.1 h1
    have CY:=(b.iZ (hd c' jD)).1
    have:c'.r=c.r:=w.same b.ok.lv hi (.inr ⟨_,CY⟩) (.inr ⟨_,rG⟩) fun z=>by
     rw[←h.ext c'.r (.inr ⟨_,CY⟩),←h.ext c.r (.inr ⟨_,rG⟩),hS z,e',h.mid.int.node hs z];rfl
    exact absurd (List.mem_map.2 ⟨c',jD,this⟩) Mf
   ·exact absurd h1 (Ne.symm b.nb.ne)
 have uN:∀{t},pQ K0 K af x l t→pQ K0 {K with N:=up K.N c.r (some ⟨y,t0,t1⟩),T:=kM K.T ⟨y,t0,t1⟩ (some c.r)} af x l t:=fun ht=>by
  rcases ht with ht|⟨e,he,h3⟩
  ·exact .inl ht
  ·refine .inr ⟨e,?_,h3⟩
   show up K.N c.r (some ⟨y,t0,t1⟩) _=_
   refine(aA fun e2=>?_).trans he
   rw[e2,JA]at he
   cases he
   exact b.sH hc h3.2.1 h3.2.2
 have hml:∀s,s∈(done++[c]).map Cx.r↔s∈done.map Cx.r∨s=c.r:=fun s=>by simp[List.mem_append]
 refine⟨hT,⟨(h.mid.qS JA ⟨c,by simp,rfl⟩ (by rw[h.n];exact b.nb.yn) hne (h.lz b hd k0) (h.lz b hd k1) hT hS hP).congr (fun s=>?_) (fun _ _=>rfl),h.n,h.cap,h.hold,h.ext,fun{s d} hs hm=>?_,fun{s d} hs=>?_,fun{s d} hs=>?_,?_⟩⟩
 ·constructor
  ·rintro⟨⟨c',jD,rfl⟩,h2⟩
   rcases List.mem_cons.1 jD with rfl|jD
   ·exact absurd rfl h2
   ·exact⟨c',jD,rfl⟩
  ·rintro⟨c',jD,rfl⟩
   refine⟨⟨c',List.mem_cons_of_mem _ jD,rfl⟩,fun e=>?_⟩
   rw[List.map_append,List.nodup_append]at hn
   have:=hn.2.1
   rw[List.map_cons,List.nodup_cons]at this
   exact this.1 (List.mem_map.2 ⟨c',jD,e⟩)
 ·have hm':=fun x=>hm ((hml s).2 x)
  show up K.N c.r _ s=_
  rw[aA (fun e=>hm' (.inr e))];exact h.old hs (fun x=>hm' (.inl x))
 ·by_cases e:s=c.r
  ·exact⟨⟨y,t0,t1⟩,by show up K.N c.r (some _) s=_;rw[e,az]⟩
  ·obtain⟨d',cE⟩:=h.kept hs
   exact⟨d',by show up K.N c.r (some _) s=_;rw[aA e];exact cE⟩
 ·have hs':up K.N c.r (some ⟨y,t0,t1⟩) s=some d:=hs
  by_cases e:s=c.r
  ·rw[e,az]at hs';cases hs'
   exact .inr (.inl ⟨(hml s).2 (.inr e),rfl,uN k0,uN k1⟩)
  ·rw[aA e]at hs'
   rcases h.new hs' with⟨h1,h2⟩|⟨h1,h2,h3,h4⟩|h1
   ·exact .inl ⟨h1,fun hm=>((hml s).1 hm).elim h2 e⟩
   ·exact .inr (.inl ⟨(hml s).2 (.inl h1),h2,uN h3,uN h4⟩)
   ·exact .inr (.inr h1)
 ·show K.used=K0.used+(made.filter fun d=>(kM K.T ⟨y,t0,t1⟩ (some c.r) d).isSome).length
  have hnm:(⟨y,t0,t1⟩:Nd)∉made:=fun hm=>by
   obtain⟨⟨c',jD,hk⟩,_⟩:=(b.J4.mem _).1 hm
   simp only[keys,List.mem_cons,List.not_mem_nil,or_false,Nd.mk.injEq]at hk
   rcases hk with⟨e,_⟩|⟨e,_⟩
   ·exact b.nb.ne e.symm
   ·exact b.nb.ne e.symm
  rw[iW b.J4.nd hT,if_neg hnm,h.used];rfl
theorem TI.levels(b:TB K0 S0 af x y l all made)(h:TI K0 S0 af x y l made K S all [] P){s:Nat}{d:Nd}(hs:K.N s=some d):
  nj af x y l d.v<dep K0.n (nj af x y l) K.N d.lo∧nj af x y l d.v<dep K0.n (nj af x y l) K.N d.hi:=by
 have w:=b.ok.wf
 have hd:∀c∈all,c∈all:=fun _ h=>h
 have Ig:l+1<K0.n:=by have:=b.ok.lv.lt y b.nb.yn;rw[b.nb.ly]at this;exact this
 have sx:nj af x y l x=l+1:=by simp[nj]
 have sy:nj af x y l y=l:=by unfold nj;rw[if_neg (Ne.symm b.nb.ne),if_pos rfl]
 have so:∀v,v<K0.n→af v≠l→af v≠l+1→nj af x y l v=af v:=fun v hv h1 h2=>by
  unfold nj
  rw[if_neg (fun e=>h1 (by rw[e];exact b.nb.lx)),if_neg (fun e=>h2 (by rw[e];exact b.nb.ly))]
 have low:∀{t},ng K0 af l t→l+1<dep K0.n (nj af x y l) K.N t:=fun{t} ht=>by
  have e:=h.Fe b hd ht
  cases e2:K0.N t with
  |none=>rw[aL (by rw[e,e2])];exact Ig
  |some e'=>
   have:=b.ru ht e2
   rw[aj (by rw[e,e2]),so _ (w.var e2) (by omega) (by omega)];exact this
 have qk:∀{t},pQ K0 K af x l t→l<dep K0.n (nj af x y l) K.N t:=fun{t} ht=>by
  rcases ht with ht|⟨e,he,hx,_⟩
  ·have:=low ht;omega
  ·rw[aj he,hx,sx];omega
 rcases h.new hs with⟨h1,h2⟩|⟨_,h2,h3,h4⟩|⟨_,h2,h3,h4⟩
 ·have hv:=w.var h1
  have q1:=w.lo h1
  have q2:=w.hi h1
  rcases Nat.lt_trichotomy (af d.v) l with hlt|heq|hgt
  ·rw[so _ hv (by omega) (by omega)]
   have Pj:∀{t},live K0.N t→af d.v<dep K0.n af K0.N t→af d.v<dep K0.n (nj af x y l) K.N t:=fun{t} ht gZ=>by
    cases e:K.N t with
    |none=>rw[aL e];exact Nat.lt_of_lt_of_le gZ (w.gi b.ok.lv t)
    |some e'=>
     rw[aj e]
     rcases h.new e with⟨g1,_⟩|⟨_,g2,_⟩|⟨g1,_⟩
     ·rw[aj g1]at gZ
      have Np:=w.var g1
      by_cases e1:af e'.v=l
      ·have:e'.v=x:=b.ok.lv.inj _ _ Np b.nb.xn (by rw[b.nb.lx];exact e1)
       rw[this,sx];omega
      ·by_cases e2:af e'.v=l+1
       ·have:e'.v=y:=b.ok.lv.inj _ _ Np b.nb.yn (by rw[b.nb.ly];exact e2)
        rw[this,sy];exact hlt
       ·rw[so _ Np e1 e2];exact gZ
     ·rw[g2,sy];exact hlt
     ·rcases ht with ht|⟨f,hf⟩
      ·have:=(h.mid.two e).1;omega
      ·rw[g1]at hf;cases hf
   exact⟨Pj q1.1 q1.2,Pj q2.1 q2.2⟩
  ·have hx:d.v=x:=b.ok.lv.inj _ _ hv b.nb.xn (by rw[b.nb.lx];exact heq)
   rw[hx,sx]
   have nc:∀t,t=d.lo∨t=d.hi→∀e,K0.N t=some e→e.v≠y:=fun t ht e he hv=>h2 (List.mem_map.2 ⟨iY K0.N y s d,(b.cx.mem _).2 ⟨⟨h1,hx,by
    rcases ht with rfl|rfl
    ·exact .inl ⟨e,he,hv⟩
    ·exact .inr ⟨e,he,hv⟩⟩,rfl⟩,rfl⟩)
   have lw:∀t,t=d.lo∨t=d.hi→live K0.N t→af d.v<dep K0.n af K0.N t→ng K0 af l t:=fun t ht hlv hlt=>by
    refine⟨hlv,?_⟩
    have:=(w.half b.ok.lv b.ok.mid.int b.nb.yy hlv (by omega:l<dep K0.n af K0.N t)).1.2
    rwa [(EV (nc t ht)).1]at this
   exact⟨low (lw _ (.inl rfl) q1.1 q1.2),low (lw _ (.inr rfl) q2.1 q2.2)⟩
  ·by_cases e:af d.v=l+1
   ·have hy:d.v=y:=b.ok.lv.inj _ _ hv b.nb.yn (by rw[b.nb.ly];exact e)
    rw[hy,sy]
    have a1:=low ⟨q1.1,by omega⟩
    have a2:=low ⟨q2.1,by omega⟩
    exact⟨by omega,by omega⟩
   ·rw[so _ hv (by omega) e]
    have deep:∀{t},live K0.N t→af d.v<dep K0.n af K0.N t→af d.v<dep K0.n (nj af x y l) K.N t:=fun{t} ht gZ=>by
     have hl:ng K0 af l t:=⟨ht,by omega⟩
     have e':=h.Fe b hd hl
     cases e2:K0.N t with
     |none=>rw[aL (by rw[e',e2])];exact b.ok.lv.lt _ hv
     |some f=>
      rw[aj e2]at gZ
      rw[aj (by rw[e',e2]),so _ (w.var e2) (by omega) (by omega)];exact gZ
    exact⟨deep q1.1 q1.2,deep q2.1 q2.2⟩
 ·rw[h2,sy];exact⟨qk h3,qk h4⟩
 ·rw[h2,sx];exact⟨low h3,low h4⟩
theorem TI.fin(b:TB K0 S0 af x y l all made)(h:TI K0 S0 af x y l made K S all [] P){K':Kd}(hm:fQ K' S eZ zero')(hp:Pos K')(hN:∀{s d},K'.N s=some d→K.N s=some d)(hn:K'.n=K.n)(hh:∀r,K'.hold r=K.hold r):
  Ok K' S (nj af x y l)∧(∀g,K'.held S g↔K0.held S0 g)∧∀r,K0.hold r≠0→S r=S0 r:=by
 have Ed:∀r,K0.hold r≠0→S r=S0 r:=fun r hr=>h.ext r (.inr (b.ok.mid.held r hr))
 refine⟨⟨hm,hp,by rw[hn,h.n];exact Ez b.ok.lv b.nb,hm.wf fun{s d} hs=>?_⟩,fun g=>?_,Ed⟩
 ·have hl:=h.levels b (hN hs)
  have same:∀{t},live K'.N t→dep K'.n (nj af x y l) K'.N t=dep K0.n (nj af x y l) K.N t:=fun{t} ht=>by
   cases e:K'.N t with
   |some f=>rw[aj e,aj (hN e)]
   |none=>
    have Jo:t<2:=by
     rcases ht with ht|⟨f,hf⟩
     ·exact ht
     ·rw[e]at hf;cases hf
    have:K.N t=none:=by
     cases e2:K.N t with
     |none=>rfl
     |some f=>have:=(h.mid.two e2).1;omega
    rw[aL e,aL this,hn,h.n]
  rw[same (hm.lo hs),same (hm.hi hs)];exact hl
 ·constructor
  ·rintro⟨r,hr,rfl⟩
   have hr':K0.hold r≠0:=by rw[←h.hold,←hh];exact hr
   exact⟨r,hr',Ed r hr'⟩
  ·rintro⟨r,hr,rfl⟩
   exact⟨r,by show K'.hold r≠0;rw[hh,h.hold];exact hr,(Ed r hr).symm⟩
end
end av
namespace av
open eH
variable {n cap l:Nat} {ord:List Nat} {F G:Fn→Prop}
open Classical in
noncomputable def sz(n:Nat)(ord:List Nat)(F:Fn→Prop):Nat:=if h:∃k,jJ (aF n ord F) k then Classical.choose h else 0
theorem Bi{k:Nat}(h:jJ (aF n ord F) k):sz n ord F=k:=by
 unfold sz
 rw[dif_pos ⟨k,h⟩]
 exact(Classical.choose_spec (⟨k,h⟩:∃k,jJ (aF n ord F) k)).uniq h
def A1(n:Nat)(ord:List Nat)(l:Nat)(F:Fn→Prop):Fn→Prop:=fun g=>aF n ord F g∨aF n (gL ord l) F g
open Classical in
noncomputable def pS(n:Nat)(ord:List Nat)(l:Nat)(F:Fn→Prop):Nat:=if h:∃k,jJ (A1 n ord l F) k then Classical.choose h else 0
theorem HE{k:Nat}(h:jJ (A1 n ord l F) k):pS n ord l F=k:=by
 unfold pS
 rw[dif_pos ⟨k,h⟩]
 exact(Classical.choose_spec (⟨k,h⟩:∃k,jJ (A1 n ord l F) k)).uniq h
theorem Bj(e:∀g,F g↔G g):sz n ord F=sz n ord G:=by
 have:F=G:=funext fun g=>propext (e g)
 rw[this]
theorem zc(e:∀g,F g↔G g):pS n ord l F=pS n ord l G:=by
 have:F=G:=funext fun g=>propext (e g)
 rw[this]
theorem Dp{a b:List Nat}(hl:a.length=b.length)(h:∀i,i<a.length→a.getD i 0=b.getD i 0):a=b:=by
 refine List.ext_getElem hl fun i h1 h2=>?_
 have:=h i h1
 simpa[List.getD,List.getElem?_eq_getElem h1,List.getElem?_eq_getElem h2]using this
theorem nD(hl:l+1<ord.length):gL (gL ord l) l=ord:=by
 refine Dp (by rw[jk,jk]) fun i _=>?_
 have h2:l+1<(gL ord l).length:=by rw[jk];exact hl
 rw[dM h2,dM hl,dM hl,dM hl]
 by_cases e:i=l
 ·subst e;simp
 ·by_cases e2:i=l+1
  ·subst e2;simp
  ·simp[e,e2]
theorem Er(hl:l+1<ord.length):pS n (gL ord l) l F=pS n ord l F:=by
 have:A1 n (gL ord l) l F=A1 n ord l F:=by
  funext g
  unfold A1
  rw[nD hl]
  exact propext or_comm
 unfold pS
 rw[this]
def pO(n cap:Nat)(F:Fn→Prop):List Nat→List Nat→Prop
 |_,[]=>True
 |ord,l::r=>l+1<n∧pS n ord l F+2≤cap∧pO n cap F (gL ord l) r
theorem pO.congr(e:∀g,F g↔G g):∀{tr ord:List Nat},pO n cap F ord tr→pO n cap G ord tr:=by
 have:F=G:=funext fun g=>propext (e g)
 subst this
 exact fun{tr ord} h=>h
theorem pO.OU(hlen:ord.length=n)(hl:l+1<n)(hfit:pS n ord l F+2≤cap){tr:List Nat}(h:pO n cap F ord tr.reverse):pO n cap F (gL ord l) (tr++[l]).reverse:=by
 rw[List.reverse_append]
 exact⟨hl,by rw[Er (by omega)];exact hfit,by rw[nD (by omega)];exact h⟩
end av
namespace av
open eH
variable {n l:Nat} {ord:List Nat} {L:eH.Fs} {F:Fn→Prop}
def cur(n:Nat)(ord:List Nat)(L:eH.Fs):Nat→eH.Fs
 |0=>Be L
 |k+1=>given n (cur n ord L k) (ord.getD k 0)
theorem ta:∀k g,fs ord F k g→∀j,j<k→¬cq g (ord.getD j 0)
 |0,_,_,_,h=>absurd h (Nat.not_lt_zero _)
 |k+1,g,h,j,hj=>by
  obtain⟨f,hf,b,rfl⟩:=h
  rintro⟨x,hx⟩
  apply hx
  by_cases e:ord.getD j 0=ord.getD k 0
  ·show f (aO (aO x _ false) _ b)=f (aO (aO x _ true) _ b)
   congr 1
   apply Nat.eq_of_testBit_eq;intro i
   simp only[ah,e]
   split<;>rfl
  ·have hlt:j<k:=by
    rcases Nat.lt_succ_iff_lt_or_eq.1 hj with h|h
    ·exact h
    ·subst h;exact(e rfl).elim
   have:=ta k f hf j hlt
   show f (aO (aO x _ false) _ b)=f (aO (aO x _ true) _ b)
   rw[dF e,dF e]
   exact Classical.byContradiction fun hne=>this ⟨_,hne⟩
end av
set_option maxRecDepth 100000
namespace Go.Proofs
open Go Go.Sx
open av
def u32(r:Nat):Value:=.int .u32 (r:Int)
def bp(d:Nd):List Value:=[.int .i64 (d.v:Int),u32 d.lo,u32 d.hi]
structure jP where
 v:Int
 lo:Nat
 hi:Nat
 tk:Bool
 c:Nat
def jP.row(p:jP):List Value:=[.int .i64 p.v,u32 p.lo,u32 p.hi,.bool p.tk,.int .u8 (p.c:Int)]
def dH(N:cN)(r:Nat):Bool:=decide (r<2)||(N r).isSome
theorem bD{N:cN}{r:Nat}:dH N r=true↔live N r:=by
 unfold dH live
 rw[Bool.or_eq_true,decide_eq_true_eq,Option.isSome_iff_exists]
def got(N:cN)(r:Nat):List Value:=
 if r<2 then [.int .i64 (-1),u32 r,u32 r]else match N r with|some d=>bp d|none=>[.int .i64 0,u32 0,u32 0]
theorem dQ{N:cN}{r:Nat}{d:Nd}(h:N r=some d)(h2:2≤r):got N r=bp d:=by unfold got;rw[if_neg (by omega),h]
theorem eC{N:cN}{r:Nat}(h2:r<2):got N r=[.int .i64 (-1),u32 r,u32 r]:=by unfold got;rw[if_pos h2]
theorem s8{N:cN}{r:Nat}(h:dH N r=false):got N r=[.int .i64 0,u32 0,u32 0]:=by
 unfold dH at h
 rw[Bool.or_eq_false_iff,decide_eq_false_iff_not]at h
 unfold got;rw[if_neg h.1]
 cases hN:N r with
 |none=>rfl
 |some d=>rw[hN]at h;simp at h
def zx(p:jP):Option Nd:=if p.tk then some ⟨p.v.toNat,p.lo,p.hi⟩else none
structure rU(l:List jP)(fr:List Nat)(cap used:Nat)(N:cN):Prop where
 cap:l.length≤cap∧cap≤1048576
 two:2≤l.length
 const:∀r,r<2→∃p,l[r]? =some p∧p.v= -1∧p.lo=r∧p.hi=r∧p.tk=true
 nd:∀r,2≤r→N r=(l[r]?).bind zx
 n0:∀r,r<2→N r=none
 nn:∀(r:Nat) p,2≤r→l[r]? =some p→p.tk=true→0≤p.v
 Ei:fr.Nodup
 yD:∀r,r∈fr↔∃p,l[r]? =some p∧p.tk=false
 used:used+fr.length=l.length
theorem rU.sP{l:List jP}{fr:List Nat}{cap used:Nat}{N:cN}(h:rU l fr cap used N)(r:Nat):dH N r=(match l[r]? with|some p=>p.tk|none=>false):=by
 unfold dH
 by_cases h2:r<2
 ·obtain⟨p,hp,_,_,_,ht⟩:=h.const r h2
  simp[h2,hp,ht]
 ·rw[h.nd r (by omega)]
  cases hl:l[r]? with
  |none=>simp[h2]
  |some p=>cases ht:p.tk<;>simp[h2,zx,ht]
theorem rU.OR{l:List jP}{fr:List Nat}{cap used:Nat}{N:cN}(h:rU l fr cap used N){r:Nat}{p:jP}(hp:l[r]? =some p)(ht:p.tk=true):got N r=p.row.take 3:=by
 by_cases h2:r<2
 ·obtain⟨p',Io,h1,kE,h3,_⟩:=h.const r h2
  rw[hp]at Io;cases Io
  rw[eC h2];simp[jP.row,h1,kE,h3]
 ·have hn:=h.nn r p (by omega) hp ht
  rw[dQ (d:=⟨p.v.toNat,p.lo,p.hi⟩) (by rw[h.nd r (by omega),hp];simp[zx,ht]) (by omega)]
  simp[bp,jP.row,Int.toNat_of_nonneg hn]
theorem rU.lt{l:List jP}{fr:List Nat}{cap used:Nat}{N:cN}(h:rU l fr cap used N){r:Nat}(hr:live N r):r<l.length:=by
 have:=bD.2 hr
 rw[h.sP]at this
 cases hl:l[r]? with
 |none=>rw[hl]at this;simp at this
 |some p=>exact(List.getElem?_eq_some_iff.1 hl).1
def eT(pa cap used:Nat)(N:cN)(C:Hp):Prop:=
 ∃vl vf l fr Cl Cf,C=(pa,.cells #[.int .i64 (cap:Int),vl,vf,.int .i64 (used:Int)] 224 (0,0))::(Cl++Cf)∧
  aI 228 5 vl (l.map jP.row) Cl∧aN 110 .u32 vf (fr.map (Nat.cast:Nat→Int)) Cf∧rU l fr cap used N
abbrev ptr(b:Nat):Value:=.pointer (some ⟨b,0,none⟩)
theorem row_one(p:jP):∀x∈p.row,x.oneCell'=true:=by intro x hx;simp[jP.row,u32]at hx;rcases hx with rfl|rfl|rfl|rfl|rfl<;>rfl
theorem kU{pa cap used r:Nat}{N:cN}{C:Hp}(h:eT pa cap used N C)(hr:r<4294967296):
  Rd Tryz.prog 356 #[ptr pa,u32 r] C (· =.bool (dH N r)):=by
 obtain⟨vl,vf,l,fr,Cl,Cf,rfl,hl,hf,ho⟩:=h
 refine aP fun g=>vS ?_
 refine bB.q ?_
 refine Nil.ptr ?_
 refine ag.mk (Ld.mk zM rfl ?_)
 refine hl.cP ?_
 refine aa.iC ?_
 rw[List.length_map]
 rw[ho.sP r]
 refine c7.and (match l[r]? with|some p=>p.tk|none=>false) (fun hlt=>?_) rfl fun _=>bC.mk (.refl _) ?_
 ·have gZ:=of_decide_eq_true hlt
  refine Nil.ptr ?_
  refine ag.mk (Ld.mk zM rfl ?_)
  have hg:l[r]? =some l[r]:=List.getElem?_eq_getElem gZ
  refine hl.H8 (r:=l[r].row) (x:=.bool l[r].tk) (by rw[List.getElem?_map,hg];rfl) rfl (fun _ h=>by exact .tail _ (List.mem_append_left _ h)) ?_
  exact⟨rfl,by rw[hg]⟩
 ·congr 1
  by_cases hlt:r<l.length
  ·simp[hlt]
  ·rw[List.getElem?_eq_none (by omega)];simp
theorem Dh{pa cap used r:Nat}{N:cN}{C:Hp}(h:eT pa cap used N C)(hr:r<4294967296):
  Rd Tryz.prog 286 #[ptr pa,u32 r] C (· =.tuple #[.agg (got N r).toArray,.int .i64 (if dH N r then 0 else 3)]):=by
 have h0:=h
 obtain⟨vl,vf,l,fr,Cl,Cf,rfl,hl,hf,ho⟩:=h
 refine aP fun g=>wx ?_
 intro b1 _
 refine aa.an (Br.no ?_)
 refine ae.eq (kU h0 hr) ?_
 refine Un.not ?_
 refine Br.mk (fun hb=>?_) (fun hb=>?_)
 ·have hb':dH N r=false:=by simpa using hb
  refine Build.mk (cs:=[.int .i64 0,.int .u32 0,.int .u32 0]) (by kernel_rfl) ?_
  refine St.q ?_
  refine ay.q ?_
  exact bC.mk .tail (by rw[s8 hb',hb'];rfl)
 ·have hb':dH N r=true:=by simpa using hb
  have hx:=hb'
  rw[ho.sP]at hx
  cases hg:l[r]? with
  |none=>rw[hg]at hx;simp at hx
  |some p=>
  rw[hg]at hx
  simp only at hx
  refine Nil.ptr ?_
  refine ag.mk (Ld.mk zM rfl ?_)
  refine hl.H7 (r:=p.row) (by rw[List.getElem?_map,hg];rfl) (by decide) (fun _ h=>by exact .tail _ (.tail _ (List.mem_append_left _ h))) ?_
  refine St.p (fun x hx=>row_one p x (List.mem_of_mem_take hx)) ?_
  refine ay.q ?_
  exact bC.mk .tail (by rw[ho.OR hg hx,hb'];rfl)
structure LU(N:cN)(d:Nd):Prop where
 v:d.v<64
 lo:live N d.lo
 hi:live N d.hi
theorem eT.lt{pa cap used r:Nat}{N:cN}{C:Hp}(h:eT pa cap used N C)(hr:live N r):r<cap∧cap≤1048576:=by
 obtain⟨vl,vf,l,fr,Cl,Cf,rfl,hl,hf,ho⟩:=h
 exact⟨Nat.lt_of_lt_of_le (ho.lt hr) ho.cap.1,ho.cap.2⟩
theorem qB{pa cap used:Nat}{N:cN}{C:Hp}{d:Nd}(h:eT pa cap used N C)(hd:LU N d):
  Rd Tryz.prog 368 #[ptr pa,.agg (bp d).toArray] C (· =.int .i64 0):=by
 have hlo:=h.lt hd.lo
 have hhi:=h.lt hd.hi
 refine aP fun g=>vN ?_
 intro b1 _
 refine Ld.f ?_
 refine aa.lss ?_
 refine c7.or (decide (64≤d.v)) (fun _=>?_) rfl fun _=>?_
 ·refine Ld.f ?_
  exact aa.rK (b:=64) ⟨rfl,rfl⟩
 have hv:=hd.v
 refine Br.L4 (by simp;omega) ?_
 intro J hJ
 refine Ld.f ?_
 refine ae.eq (kU h (by omega)) ?_
 rw[bD.2 hd.lo]
 refine Un.not (Split.go rfl ?_)
 refine Ld.f ?_
 refine ae.eq (kU h (by omega)) ?_
 rw[bD.2 hd.hi]
 refine Un.not (aq.mk (JE.mk (hJ _ _ fun gs=>Br.no (bC.mk .tail rfl))))
theorem BP{pa cap used r:Nat}{N:cN}{C:Hp}(h:eT pa cap used N C)(hr:∃d,N r=some d)(h2:2≤r):
  Rd Tryz.prog 358 #[ptr pa,u32 r] C (· =.int .i64 0):=by
 have hl:=h.lt (.inr hr)
 refine aP fun g=>vQ ?_
 intro J hJ
 refine aa.zF (b:=1) ?_
 refine Split.go (by simp;omega) ?_
 refine ae.eq (kU h (by omega)) ?_
 rw[bD.2 (.inr hr)]
 refine Un.not (aq.mk (JE.mk (hJ _ _ fun gs=>Br.no (bC.mk (.refl _) rfl))))
theorem tD{pa cap used:Nat}{N:cN}{C:Hp}(h:eT pa cap used N C):Rd Tryz.prog 196 #[ptr pa] C (· =.int .i64 (used:Int)):=by
 obtain⟨vl,vf,l,fr,Cl,Cf,rfl,hl,hf,ho⟩:=h
 refine aP fun g=>xj ?_
 refine aa.an (Br.no (Nil.ptr ?_))
 refine ag.mk (Ld.mk zM rfl ?_)
 exact bC.mk (.refl _) rfl
theorem vc{pa cap used:Nat}{N:cN}{C:Hp}(h:eT pa cap used N C):Rd Tryz.prog 321 #[ptr pa] C (· =.int .i64 (cap:Int)):=by
 obtain⟨vl,vf,l,fr,Cl,Cf,rfl,hl,hf,ho⟩:=h
 refine aP fun g=>v7 ?_
 refine aa.an (Br.no (Nil.ptr ?_))
 refine ag.mk (Ld.mk zM rfl ?_)
 exact bC.mk (.refl _) rfl
end Go.Proofs
set_option maxRecDepth 100000
namespace Go.Proofs
open Go Go.Sx
open av
section
variable {l:List jP} {fr:List Nat} {cap used:Nat} {N:cN}
theorem uy(d:Nd){c:Nat}:zx ⟨(d.v:Int),d.lo,d.hi,true,c⟩=some d:=by simp[zx]
theorem rU.reuse(h:rU l fr cap used N){r:Nat}(hr:r∈fr){fr':List Nat}(hf:fr.Perm (r::fr'))(d:Nd):
  2≤r∧r<cap∧N r=none∧rU (l.set r ⟨(d.v:Int),d.lo,d.hi,true,0⟩) fr' cap (used+1) (up N r (some d)):=by
 obtain⟨p,hp,ht⟩:=(h.yD r).1 hr
 have hlt:=(List.getElem?_eq_some_iff.1 hp).1
 have h2:2≤r:=by
  apply Decidable.byContradiction
  intro hn
  obtain⟨p',Io,_,_,_,ht'⟩:=h.const r (by omega)
  rw[hp]at Io;cases Io;rw[ht]at ht';cases ht'
 have fI:=hf.nodup_iff.1 h.Ei
 rw[List.nodup_cons]at fI
 refine⟨h2,Nat.lt_of_lt_of_le hlt h.cap.1,by rw[h.nd r h2,hp];simp[zx,ht],?_⟩
 have fK:∀s,s≠r→(l.set r ⟨(d.v:Int),d.lo,d.hi,true,0⟩)[s]? =l[s]? :=fun s hs=>List.getElem?_set_ne (Ne.symm hs)
 have nw:(l.set r ⟨(d.v:Int),d.lo,d.hi,true,0⟩)[r]? =some ⟨(d.v:Int),d.lo,d.hi,true,0⟩:=List.getElem?_set_self hlt
 exact {
  cap:=by simpa using h.cap
  two:=by simpa using h.two
  const:=fun s hs=>by rw[fK s (by omega)];exact h.const s hs
  nd:=fun s hs=>by
   by_cases e:s=r
   ·subst e;rw[az,nw];exact(uy d).symm
   ·rw[aA e,fK s e];exact h.nd s hs
  n0:=fun s hs=>by rw[aA (by omega)];exact h.n0 s hs
  nn:=fun s q hs hq Cn=>by
   by_cases e:s=r
   ·subst e;rw[nw]at hq;cases hq;exact Int.natCast_nonneg _
   ·rw[fK s e]at hq;exact h.nn s q hs hq Cn
  Ei:=fI.2
  yD:=fun s=>by
   by_cases e:s=r
   ·subst e
    rw[nw]
    simp[fI.1]
   ·rw[fK s e,←h.yD s,hf.mem_iff]
    simp[e]
  used:=by have:=h.used;have:=hf.length_eq;simp only[List.length_cons,List.length_set]at*;omega}
theorem rU.grow(h:rU l [] cap used N)(hlt:l.length<cap)(d:Nd):
  2≤l.length∧N l.length=none∧rU (l++[⟨(d.v:Int),d.lo,d.hi,true,0⟩]) [] cap (used+1) (up N l.length (some d)):=by
 have h2:=h.two
 refine⟨h2,by rw[h.nd _ h2,List.getElem?_eq_none (Nat.le_refl _)];rfl,?_⟩
 have fK:∀s,s≠l.length→(l++[(⟨(d.v:Int),d.lo,d.hi,true,0⟩:jP)])[s]? =l[s]? :=fun s hs=>by
  rw[List.getElem?_append]
  split
  ·rfl
  ·rw[List.getElem?_eq_none (by simp;omega),List.getElem?_eq_none (by omega)]
 have nw:(l++[(⟨(d.v:Int),d.lo,d.hi,true,0⟩:jP)])[l.length]? =some ⟨(d.v:Int),d.lo,d.hi,true,0⟩:=by simp
 exact {
  cap:=by simp;exact⟨hlt,h.cap.2⟩
  two:=by simp;omega
  const:=fun s hs=>by rw[fK s (by omega)];exact h.const s hs
  nd:=fun s hs=>by
   by_cases e:s=l.length
   ·subst e;rw[az,nw];exact(uy d).symm
   ·rw[aA e,fK s e];exact h.nd s hs
  n0:=fun s hs=>by rw[aA (by omega)];exact h.n0 s hs
  nn:=fun s q hs hq Cn=>by
   by_cases e:s=l.length
   ·subst e;rw[nw]at hq;cases hq;exact Int.natCast_nonneg _
   ·rw[fK s e]at hq;exact h.nn s q hs hq Cn
  Ei:=h.Ei
  yD:=fun s=>by
   by_cases e:s=l.length
   ·subst e
    rw[nw]
    simp
   ·rw[fK s e];exact h.yD s
  used:=by have:=h.used;simp at*;omega}
theorem rU.qS(h:rU l fr cap used N){r:Nat}{p:jP}(h2:2≤r)(hp:l[r]? =some p)(ht:p.tk=true)(d:Nd):
  rU (l.set r ⟨(d.v:Int),d.lo,d.hi,true,p.c⟩) fr cap used (up N r (some d)):=by
 have hlt:=(List.getElem?_eq_some_iff.1 hp).1
 have fK:∀s,s≠r→(l.set r ⟨(d.v:Int),d.lo,d.hi,true,p.c⟩)[s]? =l[s]? :=fun s hs=>List.getElem?_set_ne (Ne.symm hs)
 have nw:(l.set r ⟨(d.v:Int),d.lo,d.hi,true,p.c⟩)[r]? =some ⟨(d.v:Int),d.lo,d.hi,true,p.c⟩:=List.getElem?_set_self hlt
 exact {
  cap:=by simpa using h.cap
  two:=by simpa using h.two
  const:=fun s hs=>by rw[fK s (by omega)];exact h.const s hs
  nd:=fun s hs=>by
   by_cases e:s=r
   ·subst e;rw[az,nw];exact(uy d).symm
   ·rw[aA e,fK s e];exact h.nd s hs
  n0:=fun s hs=>by rw[aA (by omega)];exact h.n0 s hs
  nn:=fun s q hs hq Cn=>by
   by_cases e:s=r
   ·subst e;rw[nw]at hq;cases hq;exact Int.natCast_nonneg _
   ·rw[fK s e]at hq;exact h.nn s q hs hq Cn
  Ei:=h.Ei
  yD:=fun s=>by
   by_cases e:s=r
   ·subst e
    rw[h.yD,nw,hp]
    simp[ht]
   ·rw[fK s e];exact h.yD s
  used:=by simpa using h.used}
theorem rU.free(h:rU l fr cap used N){r:Nat}{p:jP}(h2:2≤r)(hp:l[r]? =some p)(ht:p.tk=true):
  rU (l.set r ⟨0,0,0,false,0⟩) (fr++[r]) cap (used-1) (up N r none)∧0<used:=by
 have hlt:=(List.getElem?_eq_some_iff.1 hp).1
 have fK:∀s,s≠r→(l.set r ⟨0,0,0,false,0⟩)[s]? =l[s]? :=fun s hs=>List.getElem?_set_ne (Ne.symm hs)
 have nw:(l.set r ⟨0,0,0,false,0⟩)[r]? =some ⟨0,0,0,false,0⟩:=List.getElem?_set_self hlt
 have PK:r∉fr:=fun hm=>by obtain⟨q,hq,Cn⟩:=(h.yD r).1 hm;rw[hp]at hq;cases hq;rw[ht]at Cn;cases Cn
 have hu:fr.length<l.length:=by
  have hn:(r::fr).Nodup:=List.nodup_cons.2 ⟨PK,h.Ei⟩
  have:=bE (l:=r::fr) (l':=List.range l.length) hn fun s hs=>by
   rw[List.mem_range]
   rcases List.mem_cons.1 hs with rfl|hs
   ·exact hlt
   ·obtain⟨q,hq,_⟩:=(h.yD s).1 hs;exact(List.getElem?_eq_some_iff.1 hq).1
  rw[List.length_range]at this;exact this
 have Jn:=h.used
 refine⟨?_,by omega⟩
 exact {
  cap:=by simpa using h.cap
  two:=by simpa using h.two
  const:=fun s hs=>by rw[fK s (by omega)];exact h.const s hs
  nd:=fun s hs=>by
   by_cases e:s=r
   ·subst e;rw[az,nw];rfl
   ·rw[aA e,fK s e];exact h.nd s hs
  n0:=fun s hs=>by rw[aA (by omega)];exact h.n0 s hs
  nn:=fun s q hs hq Cn=>by
   by_cases e:s=r
   ·subst e;rw[nw]at hq;cases hq;cases Cn
   ·rw[fK s e]at hq;exact h.nn s q hs hq Cn
  Ei:=by rw[List.nodup_append];exact⟨h.Ei,by simp,fun a ha c hc=>by simp at hc;subst hc;intro e;subst e;exact PK ha⟩
  yD:=fun s=>by
   rw[List.mem_append,List.mem_singleton]
   by_cases e:s=r
   ·subst e
    rw[nw]
    simp
   ·rw[fK s e,←h.yD];simp[e]
  used:=by simp;omega}
end
theorem iL(l:List jP)(r:Nat)(p:jP):(l.map jP.row).set r p.row=(l.set r p).map jP.row:=by rw[List.map_set]
theorem DQ{pa cap used:Nat}{N:cN}{C:Hp}{d:Nd}(h:eT pa cap used N C)(hd:LU N d)(hroom:used<cap):
  Fc Tryz.prog 322 #[ptr pa,.agg (bp d).toArray] C (fun v C'=>∃r,v=.tuple #[u32 r,.int .i64 0]∧2≤r∧r<cap∧N r=none∧eT pa cap (used+1) (up N r (some d)) C'):=by
 have h0:=h
 obtain⟨vl,vf,l,fr,Cl,Cf,rfl,hl,hf,ho⟩:=h
 have hcap:=ho.cap
 have yo:=ho.used
 refine aP fun g=>v5 ?_
 intro b1 _
 refine aa.an (Br.no ?_)
 refine ay.q ?_
 refine ae.eq (qB h0 hd) ?_
 refine aa.eP (Br.F ?_)
 refine Nil.ptr ?_
 refine ag.mk (Ld.mk zM rfl ?_)
 refine hf.cP ?_
 rw[List.length_map]
 refine aa.pA (b:=0) (Br.dec (fun hp=>?_) (fun hp=>?_))
 ·obtain⟨fr',r,rfl⟩:∃fr' r,fr=fr'++[r]:=⟨fr.dropLast,fr.getLast (by intro e;simp[e]at hp),(List.dropLast_concat_getLast _).symm⟩
  simp only[List.length_append,List.length_cons,List.length_nil]at hp yo⊢
  obtain⟨g1,g2,g3,hok⟩:=ho.reuse (r:=r) (by simp) (fr':=fr') (by exact List.perm_append_singleton _ _) d
  refine Nil.ptr ?_
  refine ag.mk (Ld.mk zM rfl ?_)
  refine aa.bF (a:=fr'.length+1) (b:=1) ?_
  rw[Nat.add_sub_cancel]
  refine hf.ld (i:=fr'.length) (x:=(r:Int)) (by simp) (fun _ h=>by exact .tail _ (.tail _ (List.mem_append_right _ h))) ?_
  refine Nil.ptr ?_
  refine ag.mk (Ld.mk zM rfl ?_)
  refine aa.bF (a:=fr'.length+1) (b:=1) ?_
  rw[Nat.add_sub_cancel]
  refine hf.cut (i:=fr'.length) (by simp) fun v' Ea=>?_
  have KK:aN 110 .u32 v' (fr'.map (Nat.cast:Nat→Int)) Cf:=by
   rw[List.map_append,List.take_left' (by simp)]at Ea;exact Ea
  have hone:v'.oneCell'=true:=by obtain⟨a,c,e⟩:=aI.len KK;rw[e];rfl
  refine Nil.ptr (ag.mk ?_)
  refine St.one (by exact .tail (.head _)) hone (by simp) rfl ?_
  refine DR.self ?_
  refine Nil.ptr ?_
  refine Ld.f ?_
  refine ay.q ?_
  refine Build.mk (cs:=(jP.mk (d.v:Int) d.lo d.hi true 0).row) (by kernel_rfl) ?_
  refine hl.BJ (A:=[_,_]) (B:=Cf) (i:=r) (by rw[List.length_map];have:=(ho.yD r).1 (by simp);obtain⟨p,hp,_⟩:=this;exact(List.getElem?_eq_some_iff.1 hp).1) rfl (row_one _) fun C' hl'=>?_
  rw[iL]at hl'
  simp only[List.cons_append,List.nil_append]
  refine Nil.ptr ?_
  refine Ld.f ?_
  refine aa.inc ?_
  refine Nil.ptr (ag.mk ?_)
  refine St.one (by exact .tail (.head _)) rfl (by simp) rfl ?_
  exact aZ.mk .tail ⟨r,rfl,g1,g2,g3,vl,v',_,fr',C',Cf,rfl,hl',KK,hok⟩
 ·obtain rfl:fr=[]:=List.eq_nil_of_length_eq_zero (by omega)
  simp only[List.length_nil]at yo
  obtain⟨g1,g3,hok⟩:=ho.grow (by omega) d
  refine Nil.ptr ?_
  refine ag.mk (Ld.mk zM rfl ?_)
  refine hl.cP ?_
  rw[List.length_map]
  refine Nil.ptr ?_
  refine ag.mk (Ld.mk zM rfl ?_)
  refine aa.rK (Br.F ?_)
  refine DR.of (R:=(b1,.cells (List.toArray (bp d)) 226 (0,0))::(pa,.cells #[.int .i64 (cap:Int),vl,vf,.int .i64 (used:Int)] 224 (0,0))::[]) (.cons (.cons .nil)) ?_
  refine Nil.ptr ?_
  refine ag.mk (Ld.mk zM rfl ?_)
  refine ay.q ?_
  refine Build.mk (cs:=(jP.mk (d.v:Int) d.lo d.hi true 0).row) (by kernel_rfl) ?_
  refine ak.one (z:=.agg #[.int .i64 0,.int .u32 0,.int .u32 0,.bool false,.int .u8 0]) (e:=228) (k:=5) (by kernel_rfl) (by kernel_rfl) (by kernel_rfl) (by decide) rfl fun bx=>?_
  refine⟨.skip (.cons (.cons .nil)),?_⟩
  refine hl.DN (A:=[_,_,_]) (B:=Cf) (r:=(jP.mk (d.v:Int) d.lo d.hi true 0).row) (by exact .head _) rfl (row_one _) (by exact⟨[.int .i64 0,.int .u32 0,.int .u32 0,.bool false,.int .u8 0],rfl,rfl⟩) (by simp;omega) (by simp;omega) fun v' C' hl'=>?_
  have jC:aI 228 5 v' ((l++[(⟨(d.v:Int),d.lo,d.hi,true,0⟩:jP)]).map jP.row) C':=by rw[List.map_append];exact hl'
  simp only[List.cons_append,List.nil_append]
  refine⟨.skip (.cons (.cons .nil)),?_⟩
  have hone:v'.oneCell'=true:=by obtain⟨a,c,e⟩:=jC.len;rw[e];rfl
  refine Nil.ptr (ag.mk ?_)
  refine St.one (by exact .tail (.tail (.head _))) hone (by simp) rfl ?_
  refine Nil.ptr ?_
  refine Ld.f ?_
  refine aa.inc ?_
  refine Nil.ptr (ag.mk ?_)
  refine St.one (by exact .tail (.tail (.head _))) rfl (by simp) rfl ?_
  refine Nil.ptr ?_
  refine Ld.f ?_
  refine jC.cP ?_
  refine aa.Bn (b:=1) (by simp[dc];omega) (by simp) ?_
  refine bB.q ?_
  refine aZ.mk (.skip .tail) ⟨l.length,by simp[u32],g1,by omega,g3,v',vf,_,[],C',Cf,rfl,jC,hf,hok⟩
theorem Gl{pa cap used r:Nat}{N:cN}{C:Hp}{d:Nd}(h:eT pa cap used N C)(hd:LU N d)(hr:∃e,N r=some e)(h2:2≤r):
  Fc Tryz.prog 301 #[ptr pa,u32 r,.agg (bp d).toArray] C (fun v C'=>v=.int .i64 0∧eT pa cap used (up N r (some d)) C'):=by
 have h0:=h
 obtain⟨vl,vf,l,fr,Cl,Cf,rfl,hl,hf,ho⟩:=h
 have hx:=bD.2 (.inr hr:live N r)
 rw[ho.sP]at hx
 obtain⟨p,hg,hx⟩:∃p,l[r]? =some p∧p.tk=true:=by
  cases hg:l[r]? with
  |none=>rw[hg]at hx;simp at hx
  |some p=>rw[hg]at hx;exact⟨p,rfl,hx⟩
 refine aP fun g=>wh ?_
 intro b1 _
 refine aa.an (Br.no ?_)
 refine ay.q ?_
 refine ae.eq (qB h0 hd) ?_
 refine aa.eP (Br.F ?_)
 refine ae.eq (BP h0 hr h2) ?_
 refine aa.eP (Br.F ?_)
 refine DR.self ?_
 refine Nil.ptr ?_
 refine ag.mk (Ld.mk zM rfl ?_)
 refine ay.q ?_
 refine hl.ES (A:=[_,_]) (B:=Cf) (r:=p.row) (xs:=bp d) (n:=3) (by rw[List.getElem?_map,hg];rfl) ⟨rfl,by omega⟩ (by intro x hx;simp[bp,u32]at hx;rcases hx with rfl|rfl|rfl<;>rfl) fun C' hl'=>?_
 have e:(bp d++p.row.drop 3)=(jP.mk (d.v:Int) d.lo d.hi true p.c).row:=by simp[bp,jP.row,hx]
 rw[e,iL]at hl'
 exact aZ.mk .tail ⟨rfl,vl,vf,_,fr,C',Cf,rfl,hl',hf,ho.qS h2 hg hx d⟩
theorem DV{pa cap used r:Nat}{N:cN}{C:Hp}(h:eT pa cap used N C)(hr:∃e,N r=some e)(h2:2≤r):
  Fc Tryz.prog 289 #[ptr pa,u32 r] C (fun v C'=>v=.int .i64 0∧eT pa cap (used-1) (up N r none) C'):=by
 have h0:=h
 obtain⟨vl,vf,l,fr,Cl,Cf,rfl,hl,hf,ho⟩:=h
 have hx:=bD.2 (.inr hr:live N r)
 rw[ho.sP]at hx
 obtain⟨p,hg,hx⟩:∃p,l[r]? =some p∧p.tk=true:=by
  cases hg:l[r]? with
  |none=>rw[hg]at hx;simp at hx
  |some p=>rw[hg]at hx;exact⟨p,rfl,hx⟩
 obtain⟨hok,Rb⟩:=ho.free h2 hg hx
 have hcap:=ho.cap
 have yo:=ho.used
 refine aP fun g=>wq ?_
 refine aa.an (Br.no ?_)
 refine ae.eq (BP h0 hr h2) ?_
 refine aa.eP (Br.F ?_)
 refine Nil.ptr ?_
 refine ag.mk (Ld.mk zM rfl ?_)
 refine Build.mk (cs:=(jP.mk 0 0 0 false 0).row) (by kernel_rfl) ?_
 refine hl.BJ (A:=[_]) (B:=Cf) (i:=r) (by rw[List.length_map];exact(List.getElem?_eq_some_iff.1 hg).1) rfl (row_one _) fun C' hl'=>?_
 rw[iL]at hl'
 simp only[List.cons_append,List.nil_append]
 refine Nil.ptr ?_
 refine Ld.f ?_
 refine ak.int (e:=110) (by kernel_rfl) (by kernel_rfl) (by kernel_rfl) fun bx=>?_
 have e1:(bx,Obj.cells (au .u32 [(r:Int)]) 110 (0,0))::(pa,Obj.cells #[.int .i64 (cap:Int),vl,vf,.int .i64 (used:Int)] 224 (0,0))::(C'++Cf)=(bx,Obj.cells (au .u32 [(r:Int)]) 110 (0,0))::(pa,Obj.cells #[.int .i64 (cap:Int),vl,vf,.int .i64 (used:Int)] 224 (0,0))::C'++(Cf++[]):=by simp
 rw[e1]
 refine hf.app (x:=(r:Int)) (B:=[]) (by exact .head _) (by simp;omega) (by simp;omega) fun v' QA Ea=>?_
 have KK:aN 110 .u32 v' ((fr++[r]).map (Nat.cast:Nat→Int)) QA:=by rw[List.map_append];exact Ea
 have hone:v'.oneCell'=true:=by obtain⟨a,c,e⟩:=aI.len KK;rw[e];rfl
 simp only[List.cons_append,List.append_nil]
 refine Nil.ptr (ag.mk ?_)
 refine St.one (by exact .tail (.head _)) hone (by simp) rfl ?_
 refine Nil.ptr ?_
 refine Ld.f ?_
 refine aa.bF (b:=1) ?_
 refine Nil.ptr (ag.mk ?_)
 refine St.one (by exact .tail (.head _)) rfl (by simp) rfl ?_
 exact aZ.mk .tail ⟨rfl,vl,v',_,_,C',QA,rfl,hl',KK,hok⟩
def nK(d:Nd):Value:=.agg (bp d).toArray
abbrev Ep(v:Value)(r:Nat):Prop:=v=u32 r
theorem ye:Tryz.prog.underlying 226=some (.struct (Tryz.prog.fieldsOf 226)):=by kernel_rfl
theorem k8(a b:Nd):xQ Tryz.prog 226 (nK a) (nK b) (decide (a=b)):=by
 refine xQ.flat (fs:=#[⟨"Var",3,0,false, "", "",0⟩,⟨"Lo",110,1,false, "", "",8⟩,⟨"Hi",110,2,false, "", "",12⟩]) (by kernel_rfl) (by kernel_rfl) ?_ ?_
 ·intro f hf
  simp only[List.mem_cons,List.not_mem_nil,or_false]at hf
  rcases hf with rfl|rfl|rfl
  ·exact⟨by decide,_,_,rfl,rfl,.inl ⟨.i64,_,_,by kernel_rfl,rfl,rfl⟩⟩
  ·exact⟨by decide,_,_,rfl,rfl,.inl ⟨.u32,_,_,by kernel_rfl,rfl,rfl⟩⟩
  ·exact⟨by decide,_,_,rfl,rfl,.inl ⟨.u32,_,_,by kernel_rfl,rfl,rfl⟩⟩
 ·obtain⟨a1,a2,a3⟩:=a
  obtain⟨b1,b2,b3⟩:=b
  simp[bp,u32]
  omega
theorem gR(a:Nd):jR Tryz.prog 226 (nK a):=by
 refine jR.flat (fs:=#[⟨"Var",3,0,false, "", "",0⟩,⟨"Lo",110,1,false, "", "",8⟩,⟨"Hi",110,2,false, "", "",12⟩]) (by kernel_rfl) ?_
 intro f hf
 simp only[List.mem_cons,List.not_mem_nil,or_false]at hf
 rcases hf with rfl|rfl|rfl
 ·exact⟨by decide,_,rfl,.inl ⟨.i64,_,_,by kernel_rfl,rfl,rfl⟩⟩
 ·exact⟨by decide,_,rfl,.inl ⟨.u32,_,_,by kernel_rfl,rfl,rfl⟩⟩
 ·exact⟨by decide,_,rfl,.inl ⟨.u32,_,_,by kernel_rfl,rfl,rfl⟩⟩
theorem yg(a:Nd):Instr.sameBits 10000 (nK a) (nK a)=true:=jT 9998 (by intro x hx;simp[bp,u32]at hx;rcases hx with rfl|rfl|rfl<;>exact .inl ⟨_,_,rfl⟩)
structure UM where
 b:Nat
 es:Array MapEntry
 ck:Nat
 l:List (Nd×Nat)
def zz(ms:List UM):Hp:=ms.map fun m=>(m.b,.map m.es m.ck)
structure Ek(ms:List UM)(n:Nat)(T:Nd→Option Nat):Prop where
 len:ms.length=n
 gg:∀(v:Nat) m,ms[v]? =some m→aE nK Ep m.es m.ck m.l
 var:∀(v:Nat) m,ms[v]? =some m→∀x∈m.l,x.1.v=v
 T:∀d,T d=(ms[d.v]?).bind fun m=>aJ m.l d
def jd(pt n:Nat)(T:Nd→Option Nat)(C:Hp):Prop:=
 ∃vs Cs ms,C=(pt,.cells #[vs] 166 (0,0))::(Cs++zz ms)∧aI 167 1 vs (ms.map fun m=>[.map (some m.b)]) Cs∧Ek ms n T
theorem k9{ms:List UM}{v:Nat}{m:UM}(h:ms[v]? =some m):(m.b,Obj.map m.es m.ck)∈zz ms:=List.mem_map.2 ⟨m,List.mem_of_getElem? h,rfl⟩
theorem ri{es':Array MapEntry}{cg:Nat}{l':List (Nd×Nat)}:∀{ms:List UM} {v:Nat} {m:UM},ms[v]? =some m→ct m.b (.map m.es m.ck) (.map es' cg) (zz ms) (zz (ms.set v ⟨m.b,es',cg,l'⟩))
 | [],v,m,h=>by simp at h
 |x::ms,0,m,h=>by simp at h;subst h;exact .head _
 |x::ms,v+1,m,h=>by simp at h;exact .tail (ri h)
theorem qb{ms:List UM}{v:Nat}{m m':UM}(h:ms[v]? =some m)(hb:m'.b=m.b):(ms.set v m').map (fun m=>[Value.map (some m.b)])=ms.map fun m=>[Value.map (some m.b)]:=by
 rw[List.map_set]
 apply List.ext_getElem?
 intro j
 rw[List.getElem?_set]
 split
 ·rename_i e;subst e
  have hlt:=(List.getElem?_eq_some_iff.1 h).1
  have e2:ms[v]=m:=by rw[List.getElem?_eq_getElem hlt]at h;exact Option.some.inj h
  simp[hb,hlt,e2]
 ·rfl
theorem Ek.add{ms:List UM}{n:Nat}{T:Nd→Option Nat}(h:Ek ms n T){d:Nd}{m:UM}(hm:ms[d.v]? =some m){es':Array MapEntry}{cg r:Nat}(he:aE nK Ep es' cg (eR m.l d r)):Ek (ms.set d.v ⟨m.b,es',cg,eR m.l d r⟩) n (kM T d (some r)) where
 len:=by rw[List.length_set];exact h.len
 gg:=fun v m' hm'=>by
  rw[List.getElem?_set]at hm'
  split at hm'
  ·split at hm'
   ·cases hm';exact he
   ·cases hm'
  ·exact h.gg v m' hm'
 var:=fun v m' hm' x hx=>by
  rw[List.getElem?_set]at hm'
  split at hm'
  ·rename_i e
   split at hm'
   ·cases hm'
    subst e
    simp only[eR]at hx
    split at hx
    ·obtain⟨y,hy,rfl⟩:=List.mem_map.1 hx
     split
     ·rfl
     ·exact h.var _ m hm y hy
    ·rcases List.mem_append.1 hx with hx|hx
     ·exact h.var _ m hm x hx
     ·simp at hx;subst hx;rfl
   ·cases hm'
  ·exact h.var v m' hm' x hx
 T:=fun e=>by
  have hlt:=(List.getElem?_eq_some_iff.1 hm).1
  by_cases ee:e=d
  ·subst ee;rw[fC,List.getElem?_set_self hlt];simp[cH]
  ·rw[j6 ee,h.T e]
   by_cases ev:d.v=e.v
   ·rw[←ev,List.getElem?_set_self hlt,hm];simp[cH,ee]
   ·rw[List.getElem?_set_ne ev]
theorem Ek.del{ms:List UM}{n:Nat}{T:Nd→Option Nat}(h:Ek ms n T){d:Nd}{m:UM}(hm:ms[d.v]? =some m){es':Array MapEntry}{cg:Nat}(he:aE nK Ep es' cg (fV m.l d)):Ek (ms.set d.v ⟨m.b,es',cg,fV m.l d⟩) n (kM T d none) where
 len:=by rw[List.length_set];exact h.len
 gg:=fun v m' hm'=>by
  rw[List.getElem?_set]at hm'
  split at hm'
  ·split at hm'
   ·cases hm';exact he
   ·cases hm'
  ·exact h.gg v m' hm'
 var:=fun v m' hm' x hx=>by
  rw[List.getElem?_set]at hm'
  split at hm'
  ·rename_i e
   split at hm'
   ·cases hm'
    subst e
    exact h.var _ m hm x (List.mem_filter.1 hx|>.1)
   ·cases hm'
  ·exact h.var v m' hm' x hx
 T:=fun e=>by
  have hlt:=(List.getElem?_eq_some_iff.1 hm).1
  by_cases ee:e=d
  ·subst ee;rw[fC,List.getElem?_set_self hlt];simp[qa]
  ·rw[j6 ee,h.T e]
   by_cases ev:d.v=e.v
   ·rw[←ev,List.getElem?_set_self hlt,hm];simp[qa,ee]
   ·rw[List.getElem?_set_ne ev]
theorem gn{pt n v:Nat}{T:Nd→Option Nat}{C:Hp}(h:jd pt n T C)(hv:v<n):Rd Tryz.prog 357 #[ptr pt,.int .i64 (v:Int)] C (· =.int .i64 0):=by
 obtain⟨vs,Cs,ms,rfl,hs,ho⟩:=h
 refine aP fun g=>vR ?_
 refine aa.an (Br.no ?_)
 refine aa.lss ?_
 rw[decide_eq_false (by omega:¬((v:Int)<0))]
 refine c7.or false (fun _=>?_) rfl fun _=>Br.no (bC.mk (.refl _) rfl)
 refine Nil.ptr ?_
 refine ag.mk (Ld.mk zM rfl ?_)
 refine hs.cP ?_
 rw[List.length_map,ho.len]
 exact aa.rK ⟨rfl,by rw[decide_eq_false (by omega)]⟩
theorem nJ{pt n:Nat}{T:Nd→Option Nat}{C:Hp}{d:Nd}(h:jd pt n T C)(hv:d.v<n):
  Rd Tryz.prog 320 #[ptr pt,nK d] C (· =.tuple #[u32 ((T d).getD 0),.bool (T d).isSome]):=by
 have h0:=h
 obtain⟨vs,Cs,ms,rfl,hs,ho⟩:=h
 obtain⟨m,hm⟩:∃m,ms[d.v]? =some m:=⟨_,List.getElem?_eq_getElem (by rw[ho.len];exact hv)⟩
 refine aP fun g=>v8 ?_
 intro b1 _
 refine Ld.f ?_
 refine ae.eq (gn h0 hv) ?_
 refine aa.eP (Br.F ?_)
 refine Nil.ptr ?_
 refine ag.mk (Ld.mk zM rfl ?_)
 refine Ld.f ?_
 refine hs.GK (x:=.map (some m.b)) (by rw[List.getElem?_map,hm];rfl) (fun _ h=>by exact .tail _ (.tail _ (List.mem_append_left _ h))) ?_
 refine ay.q ?_
 have hmem:(m.b,Obj.map m.es m.ck)∈(b1,Obj.cells (Value.cells (nK d)) 226 (0,0))::(pt,.cells #[vs] 166 (0,0))::(Cs++zz ms):=.tail _ (.tail _ (List.mem_append_right _ (k9 hm)))
 have hT:T d=aJ m.l d:=by rw[ho.T,hm];rfl
 rw[hT]
 cases hg:aJ m.l d with
 |some r=>
  refine aE.Cz (ke:=nK) (k:=d) k8 gR (ho.gg _ m hm) hmem hg ?_
  rintro v rfl
  exact Ext.mk rfl (Ext.mk rfl (bC.mk .tail rfl))
 |none=>
  refine aE.sM (ke:=nK) (k:=d) k8 gR (ho.gg _ m hm) hmem hg ?_
  exact Ext.mk rfl (Ext.mk rfl (bC.mk .tail rfl))
theorem xV{pt n r:Nat}{T:Nd→Option Nat}{C:Hp}{d:Nd}(h:jd pt n T C)(hv:d.v<n)(hT:T d=none):
  Fc Tryz.prog 302 #[ptr pt,nK d,u32 r] C (fun v C'=>v=.int .i64 0∧jd pt n (kM T d (some r)) C'):=by
 have h0:=h
 obtain⟨vs,Cs,ms,rfl,hs,ho⟩:=h
 obtain⟨m,hm⟩:∃m,ms[d.v]? =some m:=⟨_,List.getElem?_eq_getElem (by rw[ho.len];exact hv)⟩
 have Ou:aJ m.l d=none:=by rw[ho.T,hm]at hT;exact hT
 refine aP fun g=>wg ?_
 intro b1 _
 refine Ld.f ?_
 refine ae.eq (gn h0 hv) ?_
 refine aa.eP (Br.F ?_)
 refine Nil.ptr ?_
 refine ag.mk (Ld.mk zM rfl ?_)
 refine Ld.f ?_
 refine hs.GK (x:=.map (some m.b)) (by rw[List.getElem?_map,hm];rfl) (fun _ h=>by exact .tail _ (.tail _ (List.mem_append_left _ h))) ?_
 refine ay.q ?_
 have hmem:(m.b,Obj.map m.es m.ck)∈(b1,Obj.cells (Value.cells (nK d)) 226 (0,0))::(pt,.cells #[vs] 166 (0,0))::(Cs++zz ms):=.tail _ (.tail _ (List.mem_append_right _ (k9 hm)))
 refine aE.sM (ke:=nK) (k:=d) k8 gR (ho.gg _ m hm) hmem Ou ?_
 refine Ext.mk rfl (Ext.mk rfl (Br.no ?_))
 refine DR.self ?_
 refine Nil.ptr ?_
 refine ag.mk (Ld.mk zM rfl ?_)
 refine Ld.f ?_
 refine hs.GK (x:=.map (some m.b)) (by rw[List.getElem?_map,hm];rfl) (fun _ h=>by exact .tail _ (.tail _ (List.mem_append_left _ h))) ?_
 refine ay.q ?_
 refine aE.Es (ke:=nK) (k:=d) (vr:=Ep) (x:=r) k8 gR yg (ho.gg _ m hm) rfl fun es' cg he=>⟨_,.tail (.tail ((ri (l':=eR m.l d r) hm).bL Cs)),?_⟩
 exact aZ.mk .tail ⟨rfl,vs,Cs,_,rfl,by rw[qb hm];exact hs;rfl,ho.add hm he⟩
theorem p5{pt n r:Nat}{T:Nd→Option Nat}{C:Hp}{d:Nd}(h:jd pt n T C)(hv:d.v<n)(hT:T d=some r):
  Fc Tryz.prog 288 #[ptr pt,nK d] C (fun v C'=>v=.int .i64 0∧jd pt n (kM T d none) C'):=by
 have h0:=h
 obtain⟨vs,Cs,ms,rfl,hs,ho⟩:=h
 obtain⟨m,hm⟩:∃m,ms[d.v]? =some m:=⟨_,List.getElem?_eq_getElem (by rw[ho.len];exact hv)⟩
 have Ou:aJ m.l d=some r:=by rw[ho.T,hm]at hT;exact hT
 refine aP fun g=>wu ?_
 intro b1 _
 refine Ld.f ?_
 refine ae.eq (gn h0 hv) ?_
 refine aa.eP (Br.F ?_)
 refine Nil.ptr ?_
 refine ag.mk (Ld.mk zM rfl ?_)
 refine Ld.f ?_
 refine hs.GK (x:=.map (some m.b)) (by rw[List.getElem?_map,hm];rfl) (fun _ h=>by exact .tail _ (.tail _ (List.mem_append_left _ h))) ?_
 refine ay.q ?_
 have hmem:(m.b,Obj.map m.es m.ck)∈(b1,Obj.cells (Value.cells (nK d)) 226 (0,0))::(pt,.cells #[vs] 166 (0,0))::(Cs++zz ms):=.tail _ (.tail _ (List.mem_append_right _ (k9 hm)))
 refine aE.Cz (ke:=nK) (k:=d) k8 gR (ho.gg _ m hm) hmem Ou ?_
 rintro v rfl
 refine Ext.mk rfl (Ext.mk rfl (Un.not (Br.no ?_)))
 refine DR.of (R:=(b1,Obj.cells (Value.cells (nK d)) 226 (0,0))::(pt,.cells #[vs] 166 (0,0))::Cs) (.cons (.cons .left)) ?_
 refine Nil.ptr ?_
 refine ag.mk (Ld.mk zM rfl ?_)
 refine Ld.f ?_
 refine hs.GK (x:=.map (some m.b)) (by rw[List.getElem?_map,hm];rfl) (fun _ h=>by exact .tail _ (.tail _ h)) ?_
 refine ay.q ?_
 refine aE.OY (ke:=nK) (k:=d) k8 gR (ho.gg _ m hm) hmem fun es' he=>⟨_,.tail (.tail ((ri (l':=fV m.l d) hm).bL Cs)),?_⟩
 exact⟨.cons (.cons .left),aZ.mk .tail ⟨rfl,vs,Cs,_,rfl,by rw[qb hm];exact hs;rfl,ho.del hm he⟩⟩
theorem Ek.start(n:Nat)(bs:List Nat)(h:bs.length=n):Ek (bs.map fun b=>⟨b,#[],0,[]⟩) n (fun _=>none) where
 len:=by simpa using h
 gg:=fun v m hm=>by
  rw[List.getElem?_map]at hm
  obtain⟨b,_,rfl⟩:=Option.map_eq_some_iff.1 hm
  exact aE.empty
 var:=fun v m hm x hx=>by
  rw[List.getElem?_map]at hm
  obtain⟨b,_,rfl⟩:=Option.map_eq_some_iff.1 hm
  simp at hx
 T:=fun d=>by
  rw[List.getElem?_map]
  cases bs[d.v]? <;>simp[aJ]
theorem tc(x:Value):∀n:Nat,(List.replicate n [x]).flatten=List.replicate n x
 |0=>rfl
 |n+1=>by rw[List.replicate_succ,List.flatten_cons,List.replicate_succ,tc x n];rfl
theorem Ev{n:Nat}(hn:1≤n∧n≤64):Fc Tryz.prog 69 #[.int .i64 (n:Int)] [] (fun v H=>∃pt,v=.tuple #[ptr pt,.int .i64 0]∧jd pt n (fun _=>none) H):=by
 refine aP fun g=>AQ ?_
 refine aa.lss ?_
 rw[decide_eq_false (by omega)]
 refine c7.or false (fun _=>aa.gtr ⟨rfl,by rw[decide_eq_false (by omega)]⟩) rfl fun _=>Br.no ?_
 refine⟨.i64,.i64,n,n,rfl,rfl,Nat.le_refl _,by omega,by omega,?_⟩
 intro bs _
 refine Build.mk (cs:=[.slice (some ⟨bs,0,none⟩) n n]) (by kernel_rfl) ?_
 intro pt _
 have hz:madeCells (Value.cells (.map none)) (n*1)=rows ((List.replicate n [Value.map none])++[]):=by
  apply Array.ext'
  apply List.ext_getElem?
  intro i
  have:=tc (.map none) n
  simp only[madeCells,rows,Value.cells,Array.toList_map,Array.toList_range,List.getElem?_map,List.toList_toArray,Nat.mul_one,List.append_nil]
  rw[this,List.getElem?_replicate]
  by_cases hi:i<n
  ·simp[hi,Nat.mod_one]
  ·simp[hi]
 rw[hz]
 have hs0:aI 167 1 (.slice (some ⟨bs,0,none⟩) n n) (List.replicate n [Value.map none]) [(bs,.cells (rows ((List.replicate n [Value.map none])++[])) 167 (0,0))]:=
  aI.mk' (fun r hr=>by rw[List.append_nil]at hr;rw[List.eq_of_mem_replicate hr];rfl) (by simp) (by simp)
 refine⟨fun vs H=>∃(j:Nat) (bl:List Nat) (Cs:Hp),vs=[.int .i64 (j:Int)]∧bl.length=j∧j≤n∧H=(pt,.cells #[.slice (some ⟨bs,0,none⟩) n n] 166 (0,0))::(Cs++zz (bl.map fun b=>⟨b,#[],0,[]⟩))∧
  aI 167 1 (.slice (some ⟨bs,0,none⟩) n n) ((bl.map fun b=>[Value.map (some b)])++List.replicate (n-j) [Value.map none]) Cs,fun vs _=>n-ca vs 0,JE.mk ⟨0,[],_,rfl,rfl,by omega,by simp only[zz,List.map_nil,List.append_nil];rfl,by simpa using hs0⟩,?_⟩
 rintro w H ⟨j,bl,Cs,hw,IM,hj,rfl,hs⟩ gs
 simp only[List.cons.injEq,and_true]at hw
 subst hw
 refine aa.iC (Br.dec (fun hlt=>?_) (fun hlt=>?_))
 ·refine Nil.ptr ?_
  refine Ld.f ?_
  intro b _
  have hlen:((bl.map fun b=>[Value.map (some b)])++List.replicate (n-j) [Value.map none]).length=n:=by simp;omega
  refine aI.M5 (A:=[_,_]) (B:=zz (bl.map fun b=>⟨b,#[],0,[]⟩)) hs (i:=j) (y:=.map none) (by omega) ?_ rfl fun C' hs'=>?_
  ·rw[List.getElem?_append_right (by simp[IM])]
   simp only[List.length_map,IM,Nat.sub_self]
   rw[List.getElem?_replicate,if_pos (by omega)]
  refine aa.inc ?_
  have e:((bl.map fun b=>[Value.map (some b)])++List.replicate (n-j) [Value.map none]).set j [Value.map (some b)]=((bl++[b]).map fun b=>[Value.map (some b)])++List.replicate (n-(j+1)) [Value.map none]:=by
   rw[List.set_append_right _ _ (by simp[IM])]
   simp only[List.length_map,IM,Nat.sub_self]
   rw[show n-j=(n-(j+1))+1 by omega,List.replicate_succ,List.set_cons_zero,List.map_append]
   simp
  rw[e]at hs'
  refine aB.of ?_ ⟨j+1,bl++[b],C',rfl,by simp[IM],by omega,rfl,hs'⟩ (by show n-(((j+1:Nat):Int).toNat)<n-(((j:Nat):Int).toNat);omega)
  refine aR.perm ?_
  simp only[List.cons_append,List.nil_append,zz,List.map_append,List.map_map]
  refine(List.Perm.swap _ _ _).trans (.cons _ ?_)
  rw[←List.append_assoc]
  exact(List.perm_append_singleton _ _).symm
 ·obtain rfl:j=n:=by omega
  refine aZ.here ⟨pt,rfl,_,Cs,_,rfl,?_,Ek.start _ bl IM⟩
  rw[Nat.sub_self]at hs
  simpa[List.map_map,Function.comp_def]using hs
theorem Gp{n:Nat}(hn:2≤n∧n≤1048576):Fc Tryz.prog 119 #[.int .i64 (n:Int)] [] (fun v H=>∃pa,v=.tuple #[ptr pa,.int .i64 0]∧eT pa n 2 (fun _=>none) H):=by
 refine aP fun g=>xO ?_
 refine aa.lss ?_
 rw[decide_eq_false (by omega)]
 refine c7.or false (fun _=>aa.gtr ⟨rfl,by rw[decide_eq_false (by omega)]⟩) rfl fun _=>Br.no ?_
 refine Build.mk (cs:=[.int .i64 (n:Int),.slice none 0 0,.slice none 0 0,.int .i64 2]) (by kernel_rfl) ?_
 intro pa _
 refine⟨fun vs H=>∃(j:Nat) (vl:Value) (Cl:Hp),vs=[u32 j]∧j≤2∧H=(pa,.cells #[.int .i64 (n:Int),vl,.slice none 0 0,.int .i64 2] 224 (0,0))::Cl∧
  aI 228 5 vl ((List.range j).map fun r=>(jP.mk (-1) r r true 255).row) Cl,fun vs _=>2-ca vs 0,JE.mk ⟨0,_,[],rfl,by omega,rfl,aI.nil _ _⟩,?_⟩
 rintro w H ⟨j,vl,Cl,hw,hj,rfl,hs⟩ gs
 simp only[List.cons.injEq,and_true]at hw
 subst hw
 refine aa.iC (b:=2) (Br.dec (fun hlt=>?_) (fun hlt=>?_))
 ·refine Nil.ptr ?_
  refine Ld.f ?_
  refine Build.mk (cs:=[.int .i64 (-1),u32 j,u32 j]) (by kernel_rfl) ?_
  refine Build.mk (cs:=(jP.mk (-1) j j true 255).row) (by kernel_rfl) ?_
  refine ak.one (z:=.agg #[.int .i64 0,.int .u32 0,.int .u32 0,.bool false,.int .u8 0]) (e:=228) (k:=5) (by kernel_rfl) (by kernel_rfl) (by kernel_rfl) (by decide) rfl fun bx=>?_
  have e1:∀x y:Nat×Obj,x::y::Cl=[x,y]++(Cl++[]):=fun x y=>by simp
  rw[e1]
  refine hs.DN (A:=[_,_]) (B:=[]) (r:=(jP.mk (-1) j j true 255).row) (by exact .head _) rfl (row_one _) (by exact⟨[.int .i64 0,.int .u32 0,.int .u32 0,.bool false,.int .u8 0],rfl,rfl⟩) (by simp;omega) (by simp;omega) fun v' C' hs'=>?_
  simp only[List.cons_append,List.nil_append,List.append_nil]
  have hone:v'.oneCell'=true:=by obtain⟨a,c,e⟩:=hs'.len;rw[e];rfl
  refine Nil.ptr (ag.mk ?_)
  refine St.one (by exact .tail (.head _)) hone (by simp) rfl ?_
  refine aa.inc ?_
  refine aB.of .tail ⟨j+1,v',C',rfl,by omega,rfl,?_⟩ (by show 2-(((j+1:Nat):Int).toNat)<2-(((j:Nat):Int).toNat);omega)
  rw[List.range_succ,List.map_append];exact hs'
 ·obtain rfl:j=2:=by omega
  refine aZ.here ⟨pa,rfl,vl,_,[⟨-1,0,0,true,255⟩,⟨-1,1,1,true,255⟩],[],Cl,[],by rw[List.append_nil];rfl,hs,aN.nil,?_⟩
  exact {
   cap:=by simp;omega
   two:=by simp
   const:=fun r hr=>by
    have:r=0∨r=1:=by omega
    rcases this with rfl|rfl
    ·exact⟨_,rfl,rfl,rfl,rfl,rfl⟩
    ·exact⟨_,rfl,rfl,rfl,rfl,rfl⟩
   nd:=fun r hr=>by rw[List.getElem?_eq_none (by simp;omega)];rfl
   n0:=fun _ _=>rfl
   nn:=fun r p hr hp _=>by rw[List.getElem?_eq_none (by simp;omega)]at hp;cases hp
   Ei:=by simp
   yD:=fun r=>by
    simp only[List.not_mem_nil,false_iff,not_exists,not_and]
    intro p hp
    have hlt:=(List.getElem?_eq_some_iff.1 hp).1
    simp at hlt
    have:r=0∨r=1:=by omega
    rcases this with rfl|rfl<;>(simp at hp;subst hp;simp)
   used:=rfl}
structure pB where
 pa:Nat
 pt:Nat
 vu:Value
 vh:Value
 vo:Value
 vl:Value
 vt:Value
 CA:Hp
 CT:Hp
 CU:Hp
 CH:Hp
 CO:Hp
 CL:Hp
 CR:Hp
def pB.cells(b:pB)(n:Nat):Array Value:=#[ptr b.pa,ptr b.pt,b.vu,b.vh,.int .i64 (n:Int),b.vo,b.vl,b.vt]
def pB.hp(b:pB)(kp n:Nat):Hp:=(kp,.cells (b.cells n) 141 (0,0))::(b.CA++(b.CT++(b.CU++(b.CH++(b.CO++(b.CL++b.CR))))))
structure Ja(b:pB)(K:Kd)(ord af tr:List Nat):Prop where
 ar:eT b.pa K.cap K.used K.N b.CA
 ut:jd b.pt K.n K.T b.CT
 us:aN 21 .i32 b.vu (iw K.us) b.CU
 ho:aN 21 .i32 b.vh (iw K.ho) b.CH
 od:aN 3 .i64 b.vo (iw ord) b.CO
 lv:aN 3 .i64 b.vl (iw af) b.CL
 tr:aN 3 .i64 b.vt (iw tr) b.CR
 ul:K.us.length=K.ho.length∧K.us.length≤1048576
 mV:K.n≤64
 ol:ord.length=K.n∧af.length=K.n
def bS(kp:Nat)(K:Kd)(ord af tr:List Nat)(C:Hp):Prop:=∃b:pB,C=b.hp kp K.n∧Ja b K ord af tr
section
variable {kp:Nat} {K:Kd} {ord af tr:List Nat} {C:Hp}
theorem bS.cap(h:bS kp K ord af tr C):K.cap≤1048576:=by
 obtain⟨b,rfl,hb⟩:=h
 exact(hb.ar.lt (r:=0) (.inl (by decide))).2
theorem bS.lt(h:bS kp K ord af tr C){r:Nat}(hr:live K.N r):r<1048576:=by
 obtain⟨b,rfl,hb⟩:=h
 have:=hb.ar.lt hr
 omega
theorem aQ(N:cN)(r:Nat):(got N r).length=3∧∀x∈got N r,x.oneCell'=true:=by
 unfold got
 split
 ·exact⟨rfl,by intro x hx;simp[u32]at hx;rcases hx with rfl|rfl|rfl<;>rfl⟩
 ·split
  ·exact⟨rfl,by intro x hx;simp[bp,u32]at hx;rcases hx with rfl|rfl|rfl<;>rfl⟩
  ·exact⟨rfl,by intro x hx;simp[u32]at hx;rcases hx with rfl|rfl|rfl<;>rfl⟩
theorem iP(h:bS kp K ord af tr C){r:Nat}(hr:r<4294967296):Rd Tryz.prog 197 #[ptr kp,u32 r] C (· =.bool (dH K.N r)):=by
 obtain⟨b,rfl,hb⟩:=h
 refine aP fun g=>xh ?_
 refine Nil.ptr ?_
 refine Ld.f ?_
 refine ae.eq (Dh hb.ar hr) ?_
 refine Ext.two ?_
 intro b8 _
 refine St.whole (r:=got K.N r) (by exact .head _) rfl (aQ _ _).1 (aQ _ _).2 ?_
 refine aa.iq ?_
 refine bC.mk .tail ?_
 cases dH K.N r<;>rfl
theorem iO(h:bS kp K ord af tr C){r:Nat}(hr:r<4294967296):Rd Tryz.prog 287 #[ptr kp,u32 r] C (· =.agg (got K.N r).toArray):=by
 obtain⟨b,rfl,hb⟩:=h
 refine aP fun g=>wv ?_
 intro b1 _
 refine Nil.ptr ?_
 refine Ld.f ?_
 refine ae.eq (Dh hb.ar hr) ?_
 refine Ext.two ?_
 intro tC _
 refine St.whole (r:=got K.N r) (by exact .head _) rfl (aQ _ _).1 (aQ _ _).2 ?_
 refine ay.whole (r:=got K.N r) (by exact .head _) (aQ _ _).1 ?_
 refine St.whole (r:=got K.N r) (by exact .tail (.head _)) rfl (aQ _ _).1 (aQ _ _).2 ?_
 refine ay.whole (r:=got K.N r) (by exact .tail _ (.head _)) (aQ _ _).1 ?_
 exact bC.mk (.skip .tail) rfl
theorem sS(h:bS kp K ord af tr C){m:Nat}(hm:m≤1099511627776)(hu:K.used≤1048576):Rd Tryz.prog 245 #[ptr kp,.int .i64 (m:Int)] C (· =.bool (decide (K.used+m≤K.cap))):=by
 obtain⟨b,rfl,hb⟩:=h
 refine aP fun g=>wM ?_
 refine DR.self ?_
 refine Nil.ptr ?_
 refine Ld.f ?_
 refine Nil.ptr ?_
 refine Ld.f ?_
 refine ae.eq (tD hb.ar) ?_
 refine⟨.refl _,?_⟩
 refine aa.fO ?_
 refine ae.eq (vc hb.ar) ?_
 refine⟨.refl _,?_⟩
 refine aa.zF ?_
 exact bC.mk (.refl _) rfl
def mO(K:Kd)(r:Nat):List Nat:=if r<2 then K.us else K.us.set r (K.use r+1)
theorem fg(r:Nat):(mO K r).length=K.us.length:=by unfold mO;split<;>simp
theorem iE{r:Nat}(h2:2≤r)(hr:r<K.us.length):(mO K r).getD r 0=K.use r+1:=by
 unfold mO;rw[if_neg (by omega)];simp[List.getD,hr]
theorem nP{r s:Nat}(h:s≠r):(mO K r).getD s 0=K.use s:=by
 unfold mO Kd.use
 split
 ·rfl
 ·simp[List.getD,List.getElem?_set_ne (Ne.symm h)]
theorem ug(h:bS kp K ord af tr C){r:Nat}(hr:r<2∨r<K.us.length)(hb:K.use r+1<2147483648):
  Fc Tryz.prog 300 #[ptr kp,u32 r] C (fun v C'=>v=.tuple #[]∧bS kp {K with us:=mO K r} ord af tr C'):=by
 obtain⟨b,rfl,hO⟩:=h
 refine aP fun g=>wj ?_
 refine aa.pA (b:=1) (Br.dec (fun h1=>?_) (fun h1=>?_))
 ·have hr':r<K.us.length:=by omega
  refine Nil.ptr ?_
  refine Ld.f ?_
  refine hO.us.ld (x:=((K.use r:Nat):Int)) (bP hr') (br.sub (.cons (.app (.app .left)))) ?_
  refine aa.inc ?_
  refine hO.us.iI (.cons (.app (.app .left))) (by simpa using hr') fun C' ho=>?_
  refine aZ.here ⟨rfl,{b with CU:=C'},rfl,?_⟩
  have e:mO K r=K.us.set r (K.use r+1):=by unfold mO;rw[if_neg (by omega)]
  exact {hO with us:=by rw[eV]at ho;rw[e];exact ho,ul:=by simp only[e,List.length_set];exact hO.ul}
 ·refine aZ.here ⟨rfl,b,rfl,?_⟩
  have e:mO K r=K.us:=by unfold mO;rw[if_pos (by omega)]
  rw[e];exact hO
end
section
variable {kp:Nat} {K:Kd} {ord af tr:List Nat} {C:Hp}
theorem eS{l:List Nat}{r s x:Nat}(hr:r<l.length):(l.set r x).getD s 0=if s=r then x else l.getD s 0:=by
 simp only[List.getD,List.getElem?_set]
 by_cases e:r=s
 ·subst e;simp[hr]
 ·rw[if_neg e,if_neg (Ne.symm e)]
theorem oE(l:List Nat)(s:Nat):(l++[0]).getD s 0=l.getD s 0:=by
 simp only[List.getD,List.getElem?_append]
 split
 ·rfl
 ·rename_i h
  rw[List.getElem?_eq_none (by omega:l.length≤s)]
  cases hs:s-l.length<;>simp[hs]
def Bc:Hp→Nat
 |_::(_,Obj.cells c _ _)::_=>(match c[2]? with|some (Value.slice _ n _)=>n|_=>0)
 |_=>0
theorem r6{b:pB}{x:Nat×Obj}{n m:Nat}{a:Option Addr}{cp:Nat}(h:b.vu=.slice a m cp):Bc (x::b.hp kp n)=m:=by simp[Bc,pB.hp,pB.cells,h]
theorem xX(h:bS kp K ord af tr C){d:Nd}(hd:LU K.N d)(hv:d.v<K.n)(hT:K.T d=none)(hroom:K.used<K.cap)(hlo:d.lo<2∨d.lo<K.us.length)(hhi:d.hi<2∨d.hi<K.us.length)
 (hb:∀s,K.use s+2<2147483648):
  Fc Tryz.prog 246 #[ptr kp,nK d] C (fun v C'=>∃r cf bO,v=u32 r∧K.N r=none∧2≤r∧r<K.cap∧cf.length=bO.length∧r<cf.length∧K.us.length≤cf.length∧cf.getD r 0=0∧
   (∀s,2≤s→s≠r→cf.getD s 0=K.use s+e1 (some d) s)∧(∀s,s<2→cf.getD s 0=K.use s)∧bO.getD r 0=0∧(∀s,s≠r→bO.getD s 0=K.hold s)∧
   bS kp {K with N:=up K.N r (some d),T:=kM K.T d (some r),used:=K.used+1,us:=cf,ho:=bO} ord af tr C'):=by
 have hcap:=h.cap
 obtain⟨b,rfl,hO⟩:=h
 have Ce:=hO.ul
 refine aP fun g=>wL ?_
 intro b1 _
 refine DR.of (R:=(b1,.cells (Value.cells (nK d)) 226 (0,0))::(kp,.cells (b.cells K.n) 141 (0,0))::[]) (.cons (.cons .nil)) ?_
 refine Nil.ptr ?_
 refine Ld.f ?_
 refine ay.q ?_
 refine ae.fq (DQ hO.ar hd hroom) ?_
 rintro v L1 ⟨r,rfl,h2,hrc,hN,KW⟩
 refine⟨.cons (.cons .nil),Ext.mk rfl (Ext.mk rfl ?_)⟩
 refine⟨fun _ H=>∃(b':pB) (cf bO:List Nat),H=(b1,.cells (Value.cells (nK d)) 226 (0,0))::b'.hp kp K.n∧Ja b' {K with N:=up K.N r (some d),used:=K.used+1,us:=cf,ho:=bO} ord af tr∧
   K.us.length≤cf.length∧(∀s,cf.getD s 0=K.use s)∧∀s,bO.getD s 0=K.hold s,
  fun _ H=>r+1-Bc H,JE.mk ⟨{b with CA:=L1},K.us,K.ho,rfl,{hO with ar:=KW,ul:=Ce},Nat.le_refl _,fun _=>rfl,fun _=>rfl⟩,?_⟩
 rintro H ⟨b',cf,bO,rfl,rI,hle,hu,hh⟩ gs
 have Kk:=rI.ul
 simp only at Kk
 refine bB.q (Nil.ptr ?_)
 refine Ld.f ?_
 refine rI.us.cP ?_
 rw[aC]
 refine aa.rK (Br.dec (fun hge=>?_) (fun hge=>?_))
 ·have hge:cf.length≤r:=hge
  refine Nil.ptr ?_
  refine Ld.f ?_
  refine ak.int (e:=21) (by kernel_rfl) (by kernel_rfl) (by kernel_rfl) fun bx=>?_
  refine rI.us.pK (.cons (.cons (.cons (.app (.app .left))))) (by exact .head _) (by simp;omega) (by simp;omega) fun Pd Em tV=>?_
  refine Nil.ptr (ag.mk ?_)
  refine St.one (by exact .tail (.tail (.head _))) tV.one (by simp[pB.cells]) rfl ?_
  refine Nil.ptr ?_
  refine Ld.f ?_
  refine ak.int (e:=21) (by kernel_rfl) (by kernel_rfl) (by kernel_rfl) fun LG=>?_
  refine rI.ho.pK (.cons (.cons (.cons (.cons (.app (.app (.app .left))))))) (by exact .head _) (by simp;omega) (by simp;omega) fun Pg Gz kP=>?_
  refine Nil.ptr (ag.mk ?_)
  refine St.one (by exact .tail (.tail (.tail (.head _)))) kP.one (by simp[pB.cells]) rfl ?_
  have e0:∀l:List Nat,iw l++[0]=iw (l++[0]):=fun l=>by rw[bQ];rfl
  rw[e0]at tV kP
  refine aB.of (.skip (.skip (.refl _))) ⟨{b' with vu:=Pd,vh:=Pg,CU:=Em,CH:=Gz},cf++[0],bO++[0],rfl,{rI with us:=tV,ho:=kP,ul:=by simp at Kk⊢;omega},by simp;omega,fun s=>by rw[oE,hu],fun s=>by rw[oE,hh]⟩ ?_
  obtain⟨a1,c1,e1⟩:=aI.len rI.us
  obtain⟨a2,c2,e2⟩:=aI.len tV
  have f1:=r6 (b:=b') (x:=(b1,.cells (Value.cells (nK d)) 226 (0,0))) (kp:=kp) (n:=K.n) e1
  have f2:=r6 (b:={b' with vu:=Pd,vh:=Pg,CU:=Em,CH:=Gz}) (x:=(b1,.cells (Value.cells (nK d)) 226 (0,0))) (kp:=kp) (n:=K.n) e2
  rw[f1]
  refine Nat.lt_of_le_of_lt (Nat.le_of_eq (congrArg (fun z=>r+1-z) f2)) ?_
  simp
  omega
 ·have hge:¬cf.length≤r:=hge
  have Kn:r<cf.length:=by omega
  have rD:r<bO.length:=by omega
  refine DR.of (R:=(kp,.cells (b'.cells K.n) 141 (0,0))::[]) (.skip (.cons .nil)) ?_
  refine Nil.ptr ?_
  refine Ld.f ?_
  refine Nil.ptr ?_
  refine Ld.f ?_
  refine rI.us.iI (x:=0) (.cons (.cons (.app (.app .left)))) (by simpa using Kn) fun Em tV=>?_
  refine rI.ho.iI (x:=0) (.cons (.cons (.app (.app (.app .left))))) (by simpa using rD) fun Gz kP=>?_
  have e0:∀l:List Nat,(iw l).set r 0=iw (l.set r 0):=fun l=>eV l r 0
  rw[e0]at tV kP
  have lor:d.lo≠r:=dj hd.lo h2 hN
  have Rz:d.hi≠r:=dj hd.hi h2 hN
  refine Ld.f ?_
  have u0:∀s,(cf.set r 0).getD s 0=if s=r then 0 else K.use s:=fun s=>by rw[eS Kn];split;rfl;exact hu s
  have h0:∀s,(bO.set r 0).getD s 0=if s=r then 0 else K.hold s:=fun s=>by rw[eS rD];split;rfl;exact hh s
  have nH:bS kp {K with N:=up K.N r (some d),used:=K.used+1,us:=cf.set r 0,ho:=bO.set r 0} ord af tr (({b' with CU:=Em,CH:=Gz}:pB).hp kp K.n):=⟨_,rfl,{rI with us:=tV,ho:=kP,ul:=by simp;omega}⟩
  refine ae.fq (ug nH (by simp;omega) (by have:=hb d.lo;show(cf.set r 0).getD d.lo 0+1<_;rw[u0,if_neg lor];omega)) ?_
  rintro v C1 ⟨rfl,gh⟩
  refine Ld.f ?_
  have u1:∀s,(mO {K with N:=up K.N r (some d),used:=K.used+1,us:=cf.set r 0,ho:=bO.set r 0} d.lo).getD s 0=(if s=r then 0 else K.use s)+(if 2≤s∧s=d.lo then 1 else 0):=fun s=>by
   by_cases e:s=d.lo
   ·by_cases h2:2≤s
    ·rw[if_pos (show 2≤s∧s=d.lo from⟨h2,e⟩),e,iE (by omega) (by simp;omega)]
     show(cf.set r 0).getD d.lo 0+1=_
     rw[u0]
    ·rw[if_neg (show¬(2≤s∧s=d.lo)by omega)]
     unfold mO
     rw[if_pos (by omega)]
     show(cf.set r 0).getD s 0=_
     rw[u0];rfl
   ·rw[if_neg (show¬(2≤s∧s=d.lo)by omega),nP e]
    show(cf.set r 0).getD s 0=_
    rw[u0];rfl
  refine ae.fq (ug gh (by rw[fg];simp;omega) (by
   have:=hb d.hi
   show(mO _ d.lo).getD d.hi 0+1<_
   rw[u1,if_neg Rz];split<;>omega)) ?_
  rintro v C2 ⟨rfl,Aa⟩
  have R8:=Aa
  obtain⟨b3,rfl,P7⟩:=Aa
  refine DR.self ?_
  refine Nil.ptr ?_
  refine Ld.f ?_
  refine ay.q ?_
  refine ae.fq (xV P7.ut hv hT) ?_
  rintro v Jg ⟨rfl,Ih⟩
  have u2:∀s,(mO {K with N:=up K.N r (some d),used:=K.used+1,us:=mO {K with N:=up K.N r (some d),used:=K.used+1,us:=cf.set r 0,ho:=bO.set r 0} d.lo,ho:=bO.set r 0} d.hi).getD s 0=(if s=r then 0 else K.use s)+(if 2≤s∧s=d.lo then 1 else 0)+(if 2≤s∧s=d.hi then 1 else 0):=fun s=>by
   by_cases e:s=d.hi
   ·by_cases h2:2≤s
    ·rw[if_pos (show 2≤s∧s=d.hi from⟨h2,e⟩),e,iE (by omega) (by rw[fg];simp;omega)]
     show(mO _ d.lo).getD d.hi 0+1=_
     rw[u1]
    ·rw[if_neg (show¬(2≤s∧s=d.hi)by omega)]
     unfold mO
     rw[if_pos (by omega)]
     show(mO _ d.lo).getD s 0=_
     rw[u1];rfl
   ·rw[if_neg (show¬(2≤s∧s=d.hi)by omega),nP e]
    show(mO _ d.lo).getD s 0=_
    rw[u1];rfl
  refine aZ.mk .tail ⟨r,_,_,rfl,hN,h2,hrc,?_,?_,?_,?_,?_,?_,?_,?_,{b3 with CT:=Jg},rfl,{P7 with ut:=Ih}⟩
  ·rw[fg,fg];simp;omega
  ·rw[fg,fg];simp;omega
  ·rw[fg,fg];simp;omega
  ·rw[u2,if_pos rfl,if_neg (show¬(2≤r∧r=d.lo)by omega),if_neg (show¬(2≤r∧r=d.hi)by omega)]
  ·intro s JM hne
   rw[u2,if_neg hne,cz]
   have c1:(2≤s∧s=d.lo)↔d.lo=s:=⟨fun h=>h.2.symm,fun h=>⟨JM,h.symm⟩⟩
   have c2:(2≤s∧s=d.hi)↔d.hi=s:=⟨fun h=>h.2.symm,fun h=>⟨JM,h.symm⟩⟩
   simp only[c1,c2]
   omega
  ·intro s hs
   rw[u2,if_neg (show¬s=r by omega),if_neg (show¬(2≤s∧s=d.lo)by omega),if_neg (show¬(2≤s∧s=d.hi)by omega)]
   try simp
  ·rw[h0,if_pos rfl]
  ·intro s hne;rw[h0,if_neg hne]
end
end Go.Proofs
