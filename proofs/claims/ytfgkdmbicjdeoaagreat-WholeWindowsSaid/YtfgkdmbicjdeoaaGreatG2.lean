import Derived.Test.YtfgkdmbicjdeoaaGreatG1
import Derived.ChangeKeysEq
import Derived.Laws.StructEq
import Derived.Defers
import Derived.Test.YtfgkdmbicjdeoaaGreatProg
set_option linter.unusedVariables false
set_option linter.unusedSimpArgs false
set_option linter.unusedSectionVars false
namespace Go.Sx
open Go
section
variable {P:Program}
theorem xB{e:TypeId}{i:TypeInfo}(hi:P.info? e=some i)(hs:i.size=1):P.cellsOf e=1:=by simp[Program.cellsOf,hi,hs]
theorem ny{e:TypeId}{q:IntKind}(hu:P.underlying e=some (.int q)){l:List Int}{j:Nat}{x:Int}(h:l[j]? =some x)(w:World):(part e (ax q l) j).run P w=.ok (.int q x) w:=by
 simp[part,isAgg,run_underlying hu,ax,h]
theorem nS{e:TypeId}{q:IntKind}(hu:P.underlying e=some (.int q))(hc:P.cellsOf e=1)(d:Nat)(l l':List Int)(w:World):∀is:List Nat,(∀i∈is,i<l.length∧i<l'.length)→
  (Op.eqItems (d+1) e (P.cellsOf e) (ax q l) (ax q l') is).run P w=.ok (is.all fun i=>l[i]? ==l'[i]?) w
 | [],_=>by simp[Op.eqItems]
 |i::is,h=>by
  obtain⟨h1,h2⟩:=h i (by simp)
  have g1:l[i]? =some l[i]:=List.getElem?_eq_getElem h1
  have g2:l'[i]? =some l'[i]:=List.getElem?_eq_getElem h2
  have p1:=ny (P:=P) hu g1 w
  have p2:=ny (P:=P) hu g2 w
  have p3:(Op.equalIn (d+1) e (.int q l[i]) (.int q l'[i])).run P w=.ok (l[i]==l'[i]) w:=by
   simp only[Op.equalIn,Sem.run_bind,run_underlying hu,Result.andThen_ok,if_true,Sem.run_pure]
  have ih:=nS hu hc d l l' w is fun j hj=>h j (by simp[hj])
  simp only[Op.eqItems,hc,Nat.mul_one,Sem.run_bind,p1,p2,p3,Result.andThen_ok]at ih⊢
  rw[List.all_cons,g1,g2]
  cases hb:(l[i]==l'[i])
  ·simp[hb]
  ·simp[hb,ih]
theorem xS.array{t e:TypeId}{q:IntKind}{n:Nat}(ht:P.underlying t=some (.array n e))(hu:P.underlying e=some (.int q))(hz:cN P e=some 1)(l l':List Int)(h1:l.length=n)(h2:l'.length=n):
  xS P t (.agg (ax q l)) (.agg (ax q l')) (decide (l=l')):=by
 obtain⟨i,hi,hs⟩:=aZ hz
 have hc:=xB hi hs
 intro w
 show(Op.equalIn (9998+1+1) t _ _).run P w=_
 rw[run_equalIn_array w (9998+1) _ _ ht hi,nS hu hc 9998 l l' w _ (fun j hj=>by have:=List.mem_range.1 hj;omega)]
 congr 1
 rw[Bool.eq_iff_iff]
 simp only[List.all_eq_true,List.mem_range,decide_eq_true_eq,beq_iff_eq]
 constructor
 ·intro h
  apply List.ext_getElem?
  intro j
  by_cases hj:j<n
  ·exact h j hj
  ·rw[List.getElem?_eq_none (by omega),List.getElem?_eq_none (by omega)]
 ·rintro rfl j _;rfl
theorem j7.array{t e:TypeId}{q:IntKind}{n:Nat}(ht:P.underlying t=some (.array n e))(hu:P.underlying e=some (.int q))(hz:cN P e=some 1)(l:List Int)(h1:l.length=n):j7 P t (.agg (ax q l)):=by
 obtain⟨i,hi,hs⟩:=aZ hz
 intro b w
 have gen:∀d,(Instr.checkKey b (d+1+1) t (.agg (ax q l))).run P w=.ok () w:=by
  intro d
  have p2:∀x:Int,(Instr.checkKey b (d+1) e (.int q x)).run P w=.ok () w:=fun x=>by
   simp only[Instr.checkKey,Sem.run_bind,run_underlying hu,Result.andThen_ok,Sem.run_pure]
  unfold Instr.checkKey
  simp only[Sem.run_bind,run_underlying ht,Result.andThen_ok]
  simp only[Std.Legacy.Range.forIn_eq_forIn_range',Std.Legacy.Range.size,Nat.sub_zero,Nat.add_one_sub_one,Nat.div_one]
  have key:∀is:List Nat,(∀j∈is,j<l.length)→(forIn is PUnit.unit fun j (_:PUnit)=>(do
     Instr.checkKey b (d+1) e (←part e (ax q l) (j*(←sizeOf e)))
     pure (ForInStep.yield PUnit.unit):Sem (ForInStep PUnit))).run P w=.ok PUnit.unit w:=by
   intro is
   induction is with
   |nil=>intro _;simp
   |cons j is ih=>
    intro h
    have p1:=ny (P:=P) hu (List.getElem?_eq_getElem (h j (by simp))) w
    simp only[List.forIn_cons,Sem.run_bind,run_sizeOf hi,Result.andThen_ok,hs,Nat.mul_one,p1,p2,Sem.run_pure]
    exact ih fun k hk=>h k (by simp[hk])
  have:=key (List.range' 0 n) (fun j hj=>by have:=List.mem_range'_1.1 hj;omega)
  rw[this];rfl
 exact gen 9998
end
end Go.Sx
namespace Go.Sx
open Go
section
variable {P:Program} {g:Gh} {H:Hp}
def rF(P:Program)(t:TypeId)(x y:Value):Prop:=
 (∃q a b,P.underlying t=some (.int q)∧x=.int q a∧y=.int q b)∨(∃a b,P.underlying t=some .bool∧x=.bool a∧y=.bool b)
theorem rF.eq{t:TypeId}{x y:Value}(h:rF P t x y)(d:Nat)(w:World):∃b,(Op.equalIn (d+1) t x y).run P w=.ok b w∧(b=true↔x=y):=by
 rcases h with⟨q,a,b,hu,rfl,rfl⟩|⟨a,b,hu,rfl,rfl⟩
 ·exact⟨a==b,by simp[Op.equalIn,run_underlying hu],by simp⟩
 ·exact⟨a==b,by simp[Op.equalIn,run_underlying hu],by simp⟩
theorem mM{t:TypeId}{xs:Array Value}{o:Nat}{x:Value}(hu:(∃q,P.underlying t=some (.int q))∨P.underlying t=some .bool)(h:xs[o]? =some x)(w:World):(part t xs o).run P w=.ok x w:=by
 rcases hu with⟨q,hu⟩|hu<;>simp[part,isAgg,run_underlying hu,h]
theorem mw(d:Nat)(xs ys:Array Value)(w:World):∀fs:List Field,(∀f∈fs,f.name≠ "_" ∧∃x y,xs[f.offset]? =some x∧ys[f.offset]? =some y∧rF P f.type x y)→
  ∃b,(Op.eqFields (d+1) xs ys fs).run P w=.ok b w∧(b=true↔∀f∈fs,xs[f.offset]? =ys[f.offset]?)
 | [],_=>⟨true,by simp[Op.eqFields],by simp⟩
 |f::fs,h=>by
  obtain⟨hn,x,y,hx,hy,hp⟩:=h f (by simp)
  obtain⟨b',ih,hb'⟩:=mw d xs ys w fs fun g hg=>h g (by simp[hg])
  have hu:(∃q,P.underlying f.type=some (.int q))∨P.underlying f.type=some .bool:=by
   rcases hp with⟨q,_,_,hu,_⟩|⟨_,_,hu,_⟩
   ·exact .inl ⟨q,hu⟩
   ·exact .inr hu
  obtain⟨b,hr,hb⟩:=hp.eq d w
  have p1:=mM hu hx w
  have p2:=mM hu hy w
  cases b with
  |false=>
   refine⟨false,by simp[Op.eqFields,hn,p1,p2,hr],?_⟩
   simp only[Bool.false_eq_true,List.mem_cons,forall_eq_or_imp,false_iff,hx,hy,Option.some.injEq]
   exact fun hh=>absurd (hb.2 hh.1) (by decide)
  |true=>
   refine⟨b',by simp[Op.eqFields,hn,p1,p2,hr,ih],?_⟩
   rw[hb']
   simp only[List.mem_cons,forall_eq_or_imp,hx,hy,Option.some.injEq,hb.1 rfl,true_and]
theorem xS.flat{t:TypeId}{fs:Array Field}(ht:P.underlying t=some (.struct fs))(hp:P.stoodInHeld t=false){xs ys:Array Value}{p:Prop}[Decidable p]
 (h:∀f∈fs.toList,f.name≠ "_" ∧∃x y,xs[f.offset]? =some x∧ys[f.offset]? =some y∧rF P f.type x y)(he:(∀f∈fs.toList,xs[f.offset]? =ys[f.offset]?)↔p):xS P t (.agg xs) (.agg ys) (decide p):=by
 have e:P.fieldsOf t=fs:=by simp[Program.fieldsOf,ht]
 intro w
 show(Op.equalIn (9998+1+1) t _ _).run P w=_
 rw[run_equalIn_struct w (9998+1) t xs ys (by rw[e];exact ht) hp,e]
 obtain⟨b,hr,hb⟩:=mw (P:=P) 9998 xs ys w fs.toList h
 rw[hr]
 congr 1
 rw[Bool.eq_iff_iff,hb,he,decide_eq_true_eq]
theorem j7.flat{t:TypeId}{fs:Array Field}(ht:P.underlying t=some (.struct fs)){xs:Array Value}
 (h:∀f∈fs.toList,f.name≠ "_" ∧∃x,xs[f.offset]? =some x∧rF P f.type x x):j7 P t (.agg xs):=by
 intro b w
 have gen:∀d,(Instr.checkKey b (d+1+1) t (.agg xs)).run P w=.ok () w:=by
  intro d
  unfold Instr.checkKey
  simp only[Sem.run_bind,run_underlying ht,Result.andThen_ok]
  rw[←Array.forIn_toList]
  clear ht
  generalize fs.toList=l at h
  induction l with
  |nil=>simp
  |cons f l ih=>
   obtain⟨hn,x,hx,hp⟩:=h f (by simp)
   have hu:(∃q,P.underlying f.type=some (.int q))∨P.underlying f.type=some .bool:=by
    rcases hp with⟨q,_,_,hu,_⟩|⟨_,_,hu,_⟩
    ·exact .inl ⟨q,hu⟩
    ·exact .inr hu
   have p1:=mM hu hx w
   have p2:(Instr.checkKey b (d+1) f.type x).run P w=.ok () w:=by
    rcases hp with⟨q,a,_,hu,rfl,_⟩|⟨a,_,hu,rfl,_⟩
    ·simp only[Instr.checkKey,Sem.run_bind,run_underlying hu,Result.andThen_ok,Sem.run_pure]
    ·simp only[Instr.checkKey,Sem.run_bind,run_underlying hu,Result.andThen_ok,Sem.run_pure]
   have:=ih fun g hg=>h g (by simp[hg])
   simp only[List.forIn_cons,Sem.run_bind]
   simp[hn,p1,p2]
   simpa using this
 exact gen 9998
theorem iE(n:Nat){xs:Array Value}(h:∀x∈xs.toList,(∃q a,x=.int q a)∨∃a,x=.bool a):Instr.sameBits (n+1+1) (.agg xs) (.agg xs)=true:=by
 simp only[Instr.sameBits,beq_self_eq_true,Bool.true_and,List.all_eq_true]
 intro x hx
 obtain⟨a,b⟩:=x
 have h1:=List.of_mem_zip hx
 have e:a=b:=by
  obtain⟨i,hi,he⟩:=List.mem_iff_getElem.1 hx
  simp at he
  exact he.1.symm.trans he.2
 subst e
 rcases h a h1.1 with⟨q,z,rfl⟩|⟨z,rfl⟩<;>simp[Instr.sameBits]
end
section
variable {κ:Type} [DecidableEq κ] {β:Type} {ke:κ→Value} {vr:Value→β→Prop} {es:Array MapEntry} {ck b:Nat} {m:List (κ×β)} {P:Program} {H:Hp}
def mP(m:List (κ×β))(k:κ):List (κ×β):=m.filter fun y=>¬y.1=k
theorem th{k k':κ}:dK (mP m k) k'=if k'=k then none else dK m k':=by
 unfold dK mP
 rw[List.find?_filter]
 by_cases e:k'=k
 ·rw[if_pos e]
  rw[List.find?_eq_none.2]
  ·rfl
  ·intro x _;simp;intro h1 h2;exact h1 (h2.trans e)
 ·rw[if_neg e]
  congr 1
  congr 1
  funext y
  by_cases e2:y.1=k'
  ·have:¬y.1=k:=fun e3=>e (e2.symm.trans e3)
   simp[e2,this,e]
  ·simp[e2]
theorem tg{k k':κ}{x:β}:dK (fU m k x) k'=if k'=k then some x else dK m k':=by
 unfold dK fU
 by_cases hk:k∈m.map Prod.fst
 ·rw[if_pos hk]
  by_cases e:k'=k
  ·subst e
   rw[if_pos rfl]
   induction m with
   |nil=>simp at hk
   |cons y m ih=>
    rw[List.map_cons,List.find?_cons]
    by_cases ey:y.1=k'
    ·simp[ey]
    ·rw[if_neg ey]
     simp only[ey,decide_false]
     rw[ih]
     rw[List.map_cons]at hk
     rcases List.mem_cons.1 hk with h|h
     ·exact absurd h.symm ey
     ·simpa using h
  ·rw[if_neg e]
   have:∀l:List (κ×β),(List.find? (fun y=>decide (y.1=k')) (l.map fun y=>if y.1=k then(k,x)else y)).map Prod.snd=(List.find? (fun y=>decide (y.1=k')) l).map Prod.snd:=by
    intro l
    induction l with
    |nil=>rfl
    |cons y l ih=>
     rw[List.map_cons,List.find?_cons,List.find?_cons]
     by_cases ey:y.1=k
     ·have h1:decide (k=k')=false:=by simpa using fun h=>e h.symm
      have h2:decide (y.1=k')=false:=by rw[ey];exact h1
      simp only[if_pos ey,h1,h2]
      exact ih
     ·simp only[if_neg ey]
      cases decide (y.1=k')with
      |true=>rfl
      |false=>exact ih
   exact this m
 ·rw[if_neg hk]
  rw[List.find?_append]
  by_cases e:k'=k
  ·subst e
   have:List.find? (fun y=>decide (y.1=k')) m=none:=by
    rw[List.find?_eq_none];intro y hy;simp;intro h;exact hk (List.mem_map.2 ⟨y,hy,h⟩)
   simp[this]
  ·have:¬k=k':=fun h=>e h.symm
   rw[if_neg e]
   cases List.find? (fun y=>decide (y.1=k')) m<;>simp[this]
theorem qD(nd:(m.map Prod.fst).Nodup){i:Nat}{k:κ}{y:β}(hi:m[i]? =some (k,y)):mP m k=m.eraseIdx i:=by
 unfold mP
 induction m generalizing i with
 |nil=>simp at hi
 |cons z m ih=>
  rw[List.map_cons,List.nodup_cons]at nd
  cases i with
  |zero=>
   simp at hi;subst hi
   rw[List.eraseIdx_cons_zero,List.filter_cons_of_neg (by simp)]
   rw[List.filter_eq_self]
   intro w hw
   simp only[decide_not,Bool.not_eq_true',decide_eq_false_iff_not]
   intro e
   exact nd.1 (List.mem_map.2 ⟨w,hw,e⟩)
  |succ i=>
   simp at hi
   have hz:¬z.1=k:=fun e=>nd.1 (List.mem_map.2 ⟨_,List.mem_of_getElem? hi,e.symm⟩)
   rw[List.eraseIdx_cons_succ,List.filter_cons_of_pos (by simpa using hz),ih nd.2 hi]
omit [DecidableEq κ] in
theorem aR.less(h:aR ke vr es ck m)(i:Nat):aR ke vr (es.eraseIdxIfInBounds i) ck (m.eraseIdx i):=by
 have hl:(es.eraseIdxIfInBounds i).toList=es.toList.eraseIdx i:=by
  unfold Array.eraseIdxIfInBounds
  split
  ·simp
  ·rename_i hh;rw[List.eraseIdx_of_length_le (by simpa using hh)]
 refine⟨?_,fun j e x he hx=>?_,?_,?_,fun e he=>?_⟩
 ·have:=congrArg List.length hl
  rw[Array.length_toList,List.length_eraseIdx]at this
  rw[this,List.length_eraseIdx,Array.length_toList,h.len]
 ·rw[←Array.getElem?_toList,hl,List.getElem?_eraseIdx]at he
  rw[List.getElem?_eraseIdx]at hx
  split at he
  ·rename_i hh;rw[if_pos hh]at hx;exact h.key j e x (by simpa using he) hx
  ·rename_i hh;rw[if_neg hh]at hx;exact h.key (j+1) e x (by simpa using he) hx
 ·rw[←jL];exact h.nd.sublist (List.eraseIdx_sublist _ _)
 ·rw[hl,←jL];exact h.born.sublist (List.eraseIdx_sublist _ _)
 ·rw[hl]at he;exact h.lt e (List.mem_of_mem_eraseIdx he)
theorem aR.YU{P:Program}{kt:TypeId}{k:κ}{K:Hp→Prop}(hk:∀a b,xS P kt (ke a) (ke b) (decide (a=b)))(hc:∀a,j7 P kt (ke a))(h:aR ke vr es ck m)(hm:(b,Obj.map es ck)∈H)
 (h1:∀es',aR ke vr es' ck (mP m k)→∃H',dH b (.map es ck) (.map es' ck) H H'∧K H'):n9 P kt H (.map (some b)) (ke k) K:=by
 refine⟨hc k,.inr ?_⟩
 rcases h.xl hk k with⟨i,y,e,g1,g2,g3,g4⟩|⟨g1,g2⟩
 ·refine⟨b,es,ck,_,rfl,g4,?_⟩
  have:=h.less i
  rw[←qD h.nd g2]at this
  exact h1 _ this
 ·refine⟨b,es,ck,_,rfl,g2,hm,?_⟩
  have e:mP m k=m:=by
   unfold mP
   rw[List.filter_eq_self]
   intro w hw
   simp only[decide_not,Bool.not_eq_true',decide_eq_false_iff_not]
   intro e
   exact g1 (List.mem_map.2 ⟨w,hw,e⟩)
  obtain⟨H',hu,hK⟩:=h1 es (by rw[e];exact h)
  have:∀{H H':Hp},dH b (.map es ck) (.map es ck) H H'→H'=H:=by
   intro H H' hu
   generalize ho:Obj.map es ck=o at hu
   induction hu with
   |head R=>rfl
   |tail _ ih=>rw[ih]
  rw[this hu]at hK;exact hK
end
section
variable {P:Program} {H:Hp}
theorem aQ.Cp{T:TypeId}{k:Nat}{v:Value}{rs:List (List Value)}{C:Hp}(hs:aQ T k v rs C){i:Nat}{kd:IntKind}{r:List Value}(hr:rs[i]? =some r)(hC:∀y∈C,y∈H){K:Value→Prop}(hk:K (.agg r.toArray)):
  ai k v (.int kd (i:Int)) fun p=>aC k H p K:=by
 have hi:=(List.getElem?_eq_some_iff.1 hr).1
 obtain⟨b',bF,rfl,rfl,aP⟩:=hs.pos (by omega)
 exact ai.nat hi (aC.row (hC _ (List.Mem.head _)) aP (by rw[List.getElem?_append_left hi];exact hr) hk)
theorem aQ.Oj{T:TypeId}{k:Nat}{v x:Value}{rs:List (List Value)}{C:Hp}(hs:aQ T k v rs C){i j:Nat}{kd:IntKind}{r:List Value}(hr:rs[i]? =some r)(hj:r[j]? =some x)(hC:∀y∈C,y∈H){K:Value→Prop}(hk:K x):
  ai k v (.int kd (i:Int)) fun p=>aa j p fun q=>Ld H q K:=by
 have hi:=(List.getElem?_eq_some_iff.1 hr).1
 obtain⟨b',bF,rfl,rfl,aP⟩:=hs.pos (by omega)
 exact ai.nat hi (aa.mk (Ld.row (hC _ (List.Mem.head _)) aP (by rw[List.getElem?_append_left hi];exact hr) hj hk))
theorem aQ.On{T:TypeId}{v x:Value}{rs:List (List Value)}{C:Hp}(hs:aQ T 1 v rs C){i:Nat}{kd:IntKind}(hr:rs[i]? =some [x])(hC:∀y∈C,y∈H){K:Value→Prop}(hk:K x):
  ai 1 v (.int kd (i:Int)) fun p=>Ld H p K:=by
 have hi:=(List.getElem?_eq_some_iff.1 hr).1
 obtain⟨b',bF,rfl,rfl,aP⟩:=hs.pos (by omega)
 exact ai.nat hi (Ld.Rn (l:=rs++bF) (hC _ (List.Mem.head _)) aP (by rw[List.getElem?_append_left hi];exact hr) hk)
theorem aQ.Oi{T:TypeId}{k n:Nat}{v:Value}{rs:List (List Value)}{C:Hp}(hs:aQ T k v rs C){i:Nat}{kd:IntKind}{r:List Value}(hr:rs[i]? =some r)(hn:0<n∧n≤k)(hC:∀y∈C,y∈H){K:Value→Prop}(hk:K (.agg (r.take n).toArray)):
  ai k v (.int kd (i:Int)) fun p=>aa 0 p fun q=>aC n H q K:=by
 have hi:=(List.getElem?_eq_some_iff.1 hr).1
 obtain⟨b',bF,rfl,rfl,aP⟩:=hs.pos (by omega)
 have Hy:r.length=k:=aP r (List.mem_append_left _ (List.mem_of_getElem? hr))
 refine ai.nat hi (aa.mk ?_)
 have QC:At H (.pointer (some ⟨b',0+i*k+0,none⟩)) (r.take n):=⟨b',_,_,_,_,rfl,hC _ (List.Mem.head _),fun j x hj=>by
  have OY:j<n:=by have:=(List.getElem?_eq_some_iff.1 hj).1;simp at this;omega
  rw[List.getElem?_take,if_pos OY]at hj
  rw[Nat.add_zero,Nat.zero_add,fK aP (by omega),List.getElem?_append_left hi,hr];exact hj⟩
 exact aC.at QC (by simp;omega) hn.1 (fun _ h=>h) hk
theorem DU{k:Nat}{l:List (List Value)}(h:∀r∈l,r.length=k){i:Nat}{r xs:List Value}(hi:l[i]? =some r)(hx:xs.length≤k):gN (rows l) (i*k) xs=rows (l.set i (xs++r.drop xs.length)):=by
 have hlt:=(List.getElem?_eq_some_iff.1 hi).1
 have hr:=h r (List.mem_of_getElem? hi)
 have key:∀(xs:List Value) (j:Nat) (l:List (List Value)) (r:List Value),(∀r∈l,r.length=k)→l[i]? =some r→j+xs.length≤k→gN (rows l) (i*k+j) xs=rows (l.set i (r.take j++xs++r.drop (j+xs.length))):=by
  intro xs
  induction xs with
  |nil=>
   intro j l r h hi _
   have hlt:=(List.getElem?_eq_some_iff.1 hi).1
   simp only[gN,List.append_nil,List.length_nil,Nat.add_zero,List.take_append_drop]
   congr 1
   apply List.ext_getElem?
   intro m
   rw[List.getElem?_set]
   by_cases e:i=m
   ·subst e;rw[if_pos rfl,hi,if_pos hlt]
   ·rw[if_neg e]
  |cons x xs ih=>
   intro j l r h hi hj
   have hr:=h r (List.mem_of_getElem? hi)
   have hlt:=(List.getElem?_eq_some_iff.1 hi).1
   simp only[List.length_cons]at hj
   rw[gN,mj h hi (by omega),Nat.add_assoc]
   rw[ih (j+1) (l.set i (r.set j x)) (r.set j x) (fun y hy=>by
    rcases List.mem_or_eq_of_mem_set hy with hy|rfl
    ·exact h y hy
    ·simpa using hr) (by simp[hlt]) (by omega)]
   rw[List.set_set]
   congr 2
   have e1:(r.set j x).take (j+1)=r.take j++[x]:=by
    rw[List.set_eq_take_append_cons_drop,if_pos (by omega),List.take_append]
    simp[List.take_take,show min (j+1) j=j by omega,show j+1-min j r.length=1 by omega]
   have e2:(r.set j x).drop (j+1+xs.length)=r.drop (j+(x::xs).length):=by
    rw[List.drop_set,if_pos (by omega)]
    congr 1
    simp;omega
   rw[e1,e2]
   simp
 have:=key xs 0 l r h hi (by omega)
 simpa using this
theorem aQ.Kw{T:TypeId}{k n:Nat}{v:Value}{rs:List (List Value)}{C A B:Hp}(hs:aQ T k v rs C){i:Nat}{kd:IntKind}{r xs:List Value}(hr:rs[i]? =some r)(hx:xs.length=n∧n≤k)(h1:∀x∈xs,x.oneCell'=true){K:Hp→Prop}
 (hk:∀C',aQ T k v (rs.set i (xs++r.drop n)) C'→K (A++(C'++B))):ai k v (.int kd (i:Int)) fun p=>aa 0 p fun q=>St n (A++(C++B)) q (.agg xs.toArray) K:=by
 have hi:=(List.getElem?_eq_some_iff.1 hr).1
 obtain⟨b',bF,rfl,rfl,aP⟩:=hs.pos (by omega)
 refine ai.nat hi (aa.mk ?_)
 have hg:(rs++bF)[i]? =some r:=by rw[List.getElem?_append_left hi];exact hr
 have e:(rs++bF).set i (xs++r.drop xs.length)=rs.set i (xs++r.drop n)++bF:=by rw[List.set_append_left _ _ hi,hx.1]
 refine St.mk (c':=rows (rs.set i (xs++r.drop n)++bF)) (H':=A++([(b',.cells (rows (rs.set i (xs++r.drop n)++bF)) T (0,0))]++B)) (((dH.head _).append B).dD A) (by simpa[Value.cells]using hx.1) ?_ (by simpa[Value.cells]using h1) ?_ ?_
 ·rw[bu aP,Nat.zero_add,Nat.add_zero,List.length_append]
  have:=Nat.mul_le_mul_right k (Nat.succ_le_of_lt hi)
  rw[Nat.succ_mul]at this
  have h2:rs.length*k≤(rs.length+bF.length)*k:=Nat.mul_le_mul_right k (by omega)
  omega
 ·simp only[Value.cells,Nat.zero_add,Nat.add_zero]
  rw[DU aP hg (by omega),e]
 ·have Hy:r.length=k:=aP r (List.mem_append_left _ (List.mem_of_getElem? hr))
  refine hk _ (aQ.mk' (bF:=bF) (fun y hy=>?_) (by simp) (by simp))
  rcases List.mem_append.1 hy with hy|hy
  ·rcases List.mem_or_eq_of_mem_set hy with hy|rfl
   ·exact aP y (List.mem_append_left _ hy)
   ·simp;omega
  ·exact aP y (List.mem_append_right _ hy)
theorem aQ.GK{T:TypeId}{k:Nat}{v:Value}{rs:List (List Value)}{C A B:Hp}(hs:aQ T k v rs C){i:Nat}{kd:IntKind}{xs:List Value}(hi:i<rs.length)(hx:xs.length=k)(h1:∀x∈xs,x.oneCell'=true){K:Hp→Prop}
 (hk:∀C',aQ T k v (rs.set i xs) C'→K (A++(C'++B))):ai k v (.int kd (i:Int)) fun p=>St k (A++(C++B)) p (.agg xs.toArray) K:=by
 obtain⟨b',bF,rfl,rfl,aP⟩:=hs.pos (by omega)
 refine ai.nat hi (St.row (l:=rs++bF) (((dH.head _).append B).dD A) aP (by simp;omega) hx h1 ?_)
 have e:(rs++bF).set i xs=rs.set i xs++bF:=by rw[List.set_append_left _ _ hi]
 rw[e]
 refine hk [(b',_)] (aQ.mk' (bF:=bF) (fun y hy=>?_) (by simp) (by simp))
 rcases List.mem_append.1 hy with hy|hy
 ·rcases List.mem_or_eq_of_mem_set hy with hy|rfl
  ·exact aP y (List.mem_append_left _ hy)
  ·exact hx
 ·exact aP y (List.mem_append_right _ hy)
theorem aN.ld{T:TypeId}{kd uO:IntKind}{v:Value}{l:List Int}{C:Hp}(hs:aN T kd v l C){i:Nat}{x:Int}(hx:l[i]? =some x)(hC:∀y∈C,y∈H){K:Value→Prop}(hk:K (.int kd x)):ai 1 v (.int uO (i:Int)) fun p=>Ld H p K:=
 aQ.On hs (x:=.int kd x) (by simp[hx]) hC hk
theorem aN.put{T:TypeId}{kd uO:IntKind}{v:Value}{l:List Int}{C A B:Hp}(hs:aN T kd v l C){i:Nat}{x:Int}(hi:i<l.length){K:Hp→Prop}
 (hk:∀C',aN T kd v (l.set i x) C'→K (A++(C'++B))):ai 1 v (.int uO (i:Int)) fun p=>St 1 (A++(C++B)) p (.int kd x) K:=by
 have hi':i<(l.map fun n=>[Value.int kd n]).length:=by simpa using hi
 obtain⟨b',bF,rfl,rfl,aP⟩:=aQ.pos hs (by omega)
 refine ai.nat hi' ?_
 refine St.cell (l:=l.map (fun n=>[Value.int kd n])++bF) (i:=i) (k:=1) (j:=0) (r:=[.int kd l[i]]) (((dH.head _).append B).dD A) aP (by rw[List.getElem?_append_left hi'];simp[hi]) (by omega) rfl ?_
 have e:(l.map (fun n=>[Value.int kd n])++bF).set i ([Value.int kd l[i]].set 0 (.int kd x))=(l.set i x).map (fun n=>[Value.int kd n])++bF:=by
  rw[List.set_append_left _ _ hi',List.map_set];rfl
 rw[e]
 refine hk [(b',_)] (aQ.mk' (bF:=bF) (fun r hr'=>?_) (by simp) (by simp))
 rcases List.mem_append.1 hr' with hr'|hr'
 ·obtain⟨y,_,rfl⟩:=List.mem_map.1 hr';rfl
 ·exact aP r (List.mem_append_right _ hr')
theorem aU.nil{H:Hp}:aU H []:=fun _ _ h=>h.jB
theorem aQ.cut{T:TypeId}{k i:Nat}{v:Value}{rs:List (List Value)}{C:Hp}(hs:aQ T k v rs C)(hi:i≤rs.length){kd:IntKind}{K:Value→Prop}(hk:∀v',aQ T k v' (rs.take i) C→K v'):
  fG k v none (some (.int kd (i:Int))) K:=by
 by_cases hp:0<rs.length
 ·obtain⟨b',bF,rfl,rfl,aP⟩:=hs.pos hp
  refine fG.upto (by omega) (hk _ ?_)
  have e:rs++bF=rs.take i++(rs.drop i++bF):=by rw[←List.append_assoc,List.take_append_drop]
  rw[e]at aP⊢
  exact aQ.mk' aP (by simp;omega) (by simp;omega)
 ·obtain rfl:rs=[]:=List.eq_nil_of_length_eq_zero (by omega)
  obtain rfl:i=0:=by simpa using hi
  obtain⟨a,c,rfl⟩:=hs.len
  exact fG.upto (Nat.zero_le _) (hk _ (by simpa using hs))
theorem aN.cut{T:TypeId}{kd uO:IntKind}{i:Nat}{v:Value}{l:List Int}{C:Hp}(hs:aN T kd v l C)(hi:i≤l.length){K:Value→Prop}(hk:∀v',aN T kd v' (l.take i) C→K v'):
  fG 1 v none (some (.int uO (i:Int))) K:=
 aQ.cut hs (by simpa using hi) fun v' h=>hk v' (by unfold aN;rw[List.map_take];exact h)
end
end Go.Sx
namespace Go.Sx
open Go
section
variable {P:Program} {H C:Hp} {c:Hp→Hp}
theorem bP.split(h:bP C H c):∃A B,∀X,c X=A++(X++B):=by
 induction h with
 |here=>exact⟨[],[],fun X=>by simp⟩
 | @left A=>exact⟨[],A,fun X=>rfl⟩
 | @cons x H c h ih=>
  obtain⟨A,B,e⟩:=ih
  exact⟨x::A,B,fun X=>by show x::c X=_;rw[e];rfl⟩
 | @app A' H c h ih=>
  obtain⟨A,B,e⟩:=ih
  exact⟨A'++A,B,fun X=>by show A'++c X=_;rw[e,List.append_assoc]⟩
theorem bP.sub(h:bP C H c):∀x∈C,x∈H:=fun x hx=>by
 obtain⟨A,B,e⟩:=h.split
 rw[h.spec.1,e]
 exact List.mem_append_right _ (List.mem_append_left _ hx)
theorem aQ.pG{elem k bytes:Nat}{zero:Value}{v:Value}{rs:List (List Value)}(h:aQ elem k v rs C)(hh:bP C H c){xb:Nat}{r:List Value}{xT:TypeId}{fz:Nat×Nat}{xc:Nat}
 (hx:(xb,Obj.cells r.toArray xT fz)∈H)(hr:r.length=k)(h1:∀u∈r,u.oneCell'=true)(hz:∃z:List Value,zero.cells=z.toArray∧z.length=k)
 (hb:(rs.length+1)*bytes≤140737488355328)(bX:rs.length+1≤9223372036854775807){K:Value→Hp→Prop}
 (hk:∀v' C',aQ elem k v' (rs++[r]) C'→K v' (c C')):App P elem k bytes zero H v (.slice (some ⟨xb,0,none⟩) 1 xc) K:=by
 obtain⟨A,B,e⟩:=hh.split
 have e2:=hh.spec.1
 rw[e]at e2
 subst e2
 exact h.IT hx hr h1 hz hb bX fun v' C' ho=>by have:=hk v' C' ho;rwa [e]at this
theorem aN.pG{T:TypeId}{kd:IntKind}{v:Value}{l:List Int}{bytes:Nat}(h:aN T kd v l C)(hh:bP C H c){xb xc:Nat}{x:Int}{xT:TypeId}{fz:Nat×Nat}(hx:(xb,Obj.cells (ax kd [x]) xT fz)∈H)
 (hb:(l.length+1)*bytes≤140737488355328)(hm:l.length+1≤9223372036854775807){K:Value→Hp→Prop}(hk:∀v' C',aN T kd v' (l++[x]) C'→K v' (c C')):App P T 1 bytes (.int kd 0) H v (.slice (some ⟨xb,0,none⟩) 1 xc) K:=by
 obtain⟨A,B,e⟩:=hh.split
 have e2:=hh.spec.1
 rw[e]at e2
 subst e2
 exact h.app hx hb hm fun v' C' ho=>by have:=hk v' C' ho;rwa [e]at this
theorem aN.xI{T:TypeId}{kd:IntKind}{v x:Value}{l l2:List Int}{bytes:Nat}(h:aN T kd v l C)(hh:bP C H c)(hx:c6 kd H x l2)
 (hb:(l.length+l2.length)*bytes≤140737488355328)(hm:l.length+l2.length≤9223372036854775807){K:Value→Hp→Prop}(hk:∀v' C',aN T kd v' (l++l2) C'→K v' (c C')):App P T 1 bytes (.int kd 0) H v x K:=by
 obtain⟨A,B,e⟩:=hh.split
 have e2:=hh.spec.1
 rw[e]at e2
 subst e2
 exact h.apps hx hb hm fun v' C' ho=>by have:=hk v' C' ho;rwa [e]at this
theorem aN.iX{T:TypeId}{kd uO:IntKind}{v:Value}{l:List Int}(hs:aN T kd v l C)(hh:bP C H c){i:Nat}{x:Int}(hi:i<l.length){K:Hp→Prop}
 (hk:∀C',aN T kd v (l.set i x) C'→K (c C')):ai 1 v (.int uO (i:Int)) fun p=>St 1 H p (.int kd x) K:=by
 obtain⟨A,B,e⟩:=hh.split
 have e2:=hh.spec.1
 rw[e]at e2
 subst e2
 exact hs.put hi fun C' ho=>by have:=hk C' ho;rwa [e]at this
theorem aN.one{T:TypeId}{kd:IntKind}{v:Value}{l:List Int}(h:aN T kd v l C):v.oneCell'=true:=by obtain⟨a,c,e⟩:=aQ.len h;rw[e];rfl
theorem eM(l:List Nat)(i x:Nat):(iw l).set i (x:Int)=iw (l.set i x):=by unfold iw;rw[List.map_set]
theorem cL(a b:List Nat):iw (a++b)=iw a++iw b:=by unfold iw;rw[List.map_append]
theorem bc{l:List Nat}{i:Nat}(h:i<l.length):(iw l)[i]? =some ((l.getD i 0:Nat):Int):=by
 rw[cB (List.getElem?_eq_getElem h)];simp[List.getD,List.getElem?_eq_getElem h]
end
end Go.Sx
namespace Go.Sx
open Go
theorem ja{p:Nat→Prop}(h:∃k,p k):∃k,p k∧∀j,p j→k≤j:=by
 obtain⟨k,hk⟩:=h
 induction k using Nat.strongRecOn with
 |_ k ih=>
  by_cases e:∃j,j<k∧p j
  ·obtain⟨j,hj,hp⟩:=e;exact ih j hj hp
  ·exact⟨k,hk,fun j hp=>Nat.le_of_not_lt fun hlt=>e ⟨j,hlt,hp⟩⟩
open Classical in
noncomputable def kK(J:Nat→List Value→Hp→Prop)(vs:List Value)(H:Hp):Nat:=if h:∃k,J k vs H then Classical.choose (ja h)else 0
theorem Eb{J:Nat→List Value→Hp→Prop}{vs:List Value}{H:Hp}{k:Nat}(h:J k vs H):kK J vs H≤k:=by
 unfold kK
 rw[dif_pos ⟨k,h⟩]
 exact(Classical.choose_spec (ja ⟨k,h⟩)).2 k h
theorem wC{J:Nat→List Value→Hp→Prop}{vs:List Value}{H:Hp}(h:∃k,J k vs H):J (kK J vs H) vs H:=by
 unfold kK
 rw[dif_pos h]
 exact(Classical.choose_spec (ja h)).1
def lj(J:Nat→List Value→Hp→Prop):List Value→Hp→Prop:=fun vs H=>∃k,J k vs H
theorem lj.open{J:Nat→List Value→Hp→Prop}{vs:List Value}{H:Hp}(h:lj J vs H):∃k,J k vs H∧k=kK J vs H:=⟨_,wC h,rfl⟩
theorem lj.mk{J:Nat→List Value→Hp→Prop}{vs:List Value}{H:Hp}(k:Nat)(h:J k vs H):JE (lj J) vs H:=JE.mk ⟨k,h⟩
theorem lj.back{J:Nat→List Value→Hp→Prop}{vs vs':List Value}{H H' H0:Hp}{k:Nat}(e:aU H H')(hk:k=kK J vs H0)(k':Nat)(h:J k' vs' H')(hlt:k'<k):aF (lj J) (kK J) vs' H vs H0:=
 aF.of e ⟨k',h⟩ (Nat.lt_of_le_of_lt (Eb h) (by omega))
theorem RA{vs:List Value}{H:Hp}{Q:(List Value→Hp→Prop)→(List Value→Hp→Nat)→Prop}(J:Nat→List Value→Hp→Prop)(k:Nat)(h:J k vs H)(hq:Q (lj J) (kK J)):
  ∃(I:List Value→Hp→Prop) (m:List Value→Hp→Nat),JE I vs H∧Q I m:=⟨_,_,lj.mk k h,hq⟩
section
variable {P:Program} {H:Hp}
theorem au.Ho{t e:Nat}{kd:IntKind}{x y:Int}{K:Value→Hp→Prop}(h1:P.underlying t=some (.slice e))(h2:cN P e=some 1)(h3:dX P e=some (.int kd 0))
 (h:∀b,K (.slice (some ⟨b,0,Option.none⟩) 2 2) ((b,.cells (ax kd [x,y]) e (0,0))::H)):au P t 2 [(0,.int kd x),(1,.int kd y)] H K:=by
 refine⟨ax kd [x,y],e,1,_,h1,h2,h3,by decide,?_,fun b _=>h b⟩
 have e1:Array.range (2*1)=#[0,1]:=rfl
 simp[Instr.fill,Value.cells,ax,e1]
theorem DV(kd:IntKind)(l:List Int):rows (l.map fun n=>[Value.int kd n])=ax kd l:=by
 unfold rows ax
 congr 1
 induction l with
 |nil=>rfl
 |cons x l ih=>rw[List.map_cons,List.flatten_cons,ih];rfl
theorem aN.made{T:TypeId}{kd:IntKind}{b:Nat}(l:List Int):aN T kd (.slice (some ⟨b,0,none⟩) l.length l.length) l [(b,.cells (ax kd l) T (0,0))]:=by
 have:=aQ.mk' (T:=T) (k:=1) (b:=b) (n:=l.length) (c:=l.length) (rs:=l.map fun n=>[Value.int kd n]) (bF:=[]) (fun r hr=>by
  rw[List.append_nil]at hr
  obtain⟨x,_,rfl⟩:=List.mem_map.1 hr;rfl) (by simp) (by simp)
 rw[List.append_nil,DV]at this
 exact this
end
end Go.Sx
namespace Go.Sx
open Go
section
variable {P:Program} {g:Gh}
structure FZ where
 f:FuncId
 l:List Value
def jO(P:Program)(g:Gh)(f:FuncId)(args:Array Value)(H:Hp)(R:Ending→Hp→Prop):Prop:=
 ∀w,Own g H w→∀u,CallsD P f args u w fun e u' w'=>u'=u∧∃H',Own g H' w'∧R e H'
def j6(P:Program)(g:Gh)(f:FuncId)(args:Array Value)(H:Hp)(K:Hp→Prop):Prop:=jO P g f args H fun e H'=>(∃v,e=.returned v)∧K H'
def Gs(P:Program)(g:Gh)(K:Hp→Prop):List FZ→Hp→Prop
 | [],H=>K H
 |x::r,H=>j6 P g x.f x.l.toArray H (Gs P g K r)
def Qf(P:Program)(o:Oper)(ρ:Operand→Value)(k:FZ→Prop):Prop:=
 match o.op with
 | .defer c=>match c.callee with
  | .value x=>match ρ x with
   | .func (.func f) first cap=>cond (bh P f) (k ⟨f,first.toList++(c.args.toList.map ρ++cap.toList)⟩) False
   |_=>False
  |_=>False
 |_=>False
def Hl:Code→Option (Array Oper×Oper)
 | .region _ ops false=>match ops.toList.getLast? with
  |some o=>match o.op with
   | .defer _=>some (ops,o)
   |_=>none
  |none=>none
 |_=>none
def Iz(P:Program)(g:Gh)(fn:Func)(R:Ending→Hp→Prop)(dl:List FZ):Exit→Fr→Hp→Prop
 | .normal,fr,H=>Gs P g (fun H'=>qw P fr H' fn.results.toList fun vs=>R (.returned (yB vs)) H') dl H
 | .ret,fr,H=>Gs P g (fun H'=>qw P fr H' fn.results.toList fun vs=>R (.returned (yB vs)) H') dl H
 |_,_,_=>False
def zh(P:Program)(g:Gh)(n:Nat)(E:List FZ→Exit→Fr→Hp→Prop):Code→Hn→List FZ→Fr→Hp→Prop
 | .seq x y,hn,dl,fr,H=>
  match Hl x with
  |some (ops,o)=>cond (o.dst.isNone&&o.guard.isNone)
    (dA P g n ops false (ops.toList.length+1) false none [] ops.toList.dropLast fr H (fun _ fr' H'=>Qf P o (ev fr') fun d=>zh P g n E y hn.b (d::dl) fr' H') (fun _ _=>False)) False
  |none=>match hn.m with
   |0=>den P g n x hn.a (vW (zh P g n E y hn.b dl) (E dl)) fr H
   |_=>cond (KF x hn.I)
    (T7 hn.L.length (fun vs H'=>∀gs,zh P g n E y hn.b dl (mix hn.L vs hn.I fr gs) H') fun J=>den P g n x hn.a (vW (fun fr' H'=>JE J (x8 fr' hn.L) H') (E dl)) fr H) False
 |c,hn,dl,fr,H=>den P g n c hn (E dl) fr H
def IB(P:Program)(g:Gh)(fn:Func)(hn:Hn)(args:List Value)(H:Hp)(R:Ending→Hp→Prop):Prop:=
 match fn.body with
 |some c=>cond (Nat.ble args.length fn.ntmps) (zh P g fn.ntmps (Iz P g fn R) c hn [] (gS args 0) H) False
 |none=>False
def Je:List PanicEntry→Hp→Prop:=fun _ _=>∀_:Fr,False
def DOK(P:Program)(x:FZ)(d:Deferred):Prop:=∃cap args,d={target:=.fn (.func x.f) cap,args:=args}∧args++cap=x.l.toArray∧bh P x.f=true
inductive BQ(P:Program):List FZ→List Deferred→Prop
 |nil:BQ P [] []
 |cons {x d l ds} (h:DOK P x d) (hr:BQ P l ds):BQ P (x::l) (d::ds)
theorem qt{fn:Func}{tmps:Array Value}{K:Hp→Prop}{R:Ending→World→Prop}(hK:∀H w,Own g H w→K H→∃v,(results fn tmps).run P w=.ok v w∧R (.returned v) w):
  ∀{dl:List FZ} {ds:List Deferred},BQ P dl ds→∀H w,Own g H w→Gs P g K dl H→Leaves P fn tmps R ds .returning w
 |_,_,.nil,H,w,hw,h=>hK H w hw h
 |_,_,.cons ⟨cap,args,hd,ha,hc⟩ hr,H,w,hw,h=>by
  subst hd
  refine leaves_cons (by simp) ?_ ((h w hw .returning).mono ?_)
  ·show(callFunc _ (args++cap)).run P w=_
   rw[ha]
   exact dU hc _ w
  ·rintro e u' w' ⟨rfl,H',ho,⟨v,rfl⟩,hk⟩
   exact qt hK hr H' w' ho hk
theorem mR{fn:Func}{R:Ending→Hp→Prop}{n:Nat}{dl:List FZ}{ds:List Deferred}(hd:BQ P dl ds){e:Exit}{fr:Fr}{H:Hp}{a:Act}{w:World}(ha:bV ds n a fr)(hw:Own g H w)(h:Iz P g fn R dl e fr H):
  bodyPostD P fn (fun e w'=>∃H',Own g H' w'∧R e H') e a w:=by
 have key:∀{H},Own g H w→Gs P g (fun H'=>qw P fr H' fn.results.toList fun vs=>R (.returned (yB vs)) H') dl H→Leaves P fn a.tmps (fun e w'=>∃H',Own g H' w'∧R e H') a.defers .returning w:=fun hw h=>by
  rw[ha.defers]
  refine qt (fun H w hw h=>?_) hd _ _ hw h
  obtain⟨vs,hr,hk⟩:=fL ha hw h
  exact⟨_,hr,H,hw,hk⟩
 cases e with
 |normal=>exact key hw h
 |ret=>exact key hw h
 |panic ch=>exact h.elim
 |exit id=>exact h.elim
 |goto l=>exact h.elim
 |outgrown=>exact h.elim
theorem yX{c:Code}{ops:Array Oper}{o:Oper}(h:Hl c=some (ops,o)):∃id d,c=.region id ops false∧ops.toList=ops.toList.dropLast++[o]∧o.op=.defer d:=by
 unfold Hl at h
 split at h
 ·rename_i id ops'
  split at h
  ·rename_i o' ho
   split at h
   ·rename_i d hd
    simp only[Option.some.injEq,Prod.mk.injEq]at h
    obtain⟨rfl,rfl⟩:=h
    refine⟨id,d,rfl,?_,hd⟩
    obtain⟨hne,e⟩:=List.getLast?_eq_some_iff.1 ho
    rw[e];simp
   ·cases h
  ·cases h
 ·cases h
theorem Jl{o:Oper}{fr:Fr}{k:FZ→Prop}(h:Qf P o (ev fr) k):∃x d,k x∧DOK P x d∧∀w,(execOp (ev fr) o).run P w=.ok (.defer d) w:=by
 unfold Qf at h
 split at h<;>try exact h.elim
 rename_i c hop
 split at h<;>try exact h.elim
 rename_i x hc
 split at h<;>try exact h.elim
 rename_i f first cap hx
 cases fx:bh P f<;>simp only[fx,cond_true,cond_false]at h
 refine⟨_,{target:=.fn (.func f) cap,args:=first++c.args.map (ev fr)},h,⟨cap,_,rfl,?_,fx⟩,fun w=>?_⟩
 ·apply Array.ext'
  simp
 ·simp only[execOp,hop,resolve,hc,hx,Deferred.ofValue,Sem.run_bind,Sem.run_pure,Result.andThen_ok]
theorem zg{n:Nat}{fn:Func}{R:Ending→Hp→Prop}:∀(c:Code) (hn:Hn) (dl:List FZ) (fr:Fr) (H:Hp),zh P g n (Iz P g fn R) c hn dl fr H→∀(ds:List Deferred),BQ P dl ds→∀(a:Act) (w:World),bV ds n a fr→Own g H w→
  c.wp P (bodyPostD P fn fun e w'=>∃H',Own g H' w'∧R e H') a w:=by
 have plain:∀(c:Code) (hn:Hn) (dl:List FZ) (fr:Fr) (H:Hp),den P g n c hn (Iz P g fn R dl) fr H→∀(ds:List Deferred),BQ P dl ds→∀(a:Act) (w:World),bV ds n a fr→Own g H w→
   c.wp P (bodyPostD P fn fun e w'=>∃H',Own g H' w'∧R e H') a w:=fun c hn dl fr H h ds hd a w ha hw=>
  wp_mono (jj c hn _ fr H h a w ha hw) fun e a' w' ⟨fr',H',dL,cU,_,hq⟩=>mR hd dL cU hq
 intro c
 induction c with
 |seq x y _ ih=>
  intro hn dl fr H h ds hd a w ha hw
  unfold zh at h
  split at h
  ·rename_i ops o hx
   obtain⟨id,d,rfl,hl,hop⟩:=yX hx
   cases hc:(o.dst.isNone&&o.guard.isNone)<;>simp only[hc,cond_true,cond_false]at h
   simp only[Bool.and_eq_true,Option.isNone_iff_eq_none]at hc
   refine wp_seq (wp_region_list ?_)
   rw[hl]
   refine bZ _ _ _ _ _ fr H _ _ h trivial (fX.nil fr) a w ha hw [o] _ ?_ ?_
   ·intro a' w' ng fr' H' dL cU _ _ hk
    refine wpList_plain hc.2 fun K hK=>?_
    obtain⟨x,dd,hx,hok,hrun⟩:=Jl hk
    show o.upon P a' K _ ((execOp a'.eval o).run P w')
    rw[dL.eval,hrun]
    refine hK _ _ ?_
    refine ih _ _ fr' H' hx (dd::ds) (.cons hok hd) _ _ ?_ cU
    rw[hc.1]
    exact⟨congrArg _ dL.defers,dL.size,dL.get⟩
   ·intro ch a' w' fr' H' _ _ hk;exact hk.elim
  ·split at h
   ·refine wp_seq (wp_mono (jj x _ _ fr H h a w ha hw) ?_)
    rintro e a' w' ⟨fr',H',dL,cU,ho,hq⟩
    cases e with
    |normal=>exact ih _ _ fr' H' hq ds hd a' w' dL cU
    |ret=>exact mR (e:=.ret) hd dL cU hq
    |exit id=>exact hq.elim
    |goto l=>exact hq.elim
    |panic ch=>exact hq.elim
    |outgrown=>exact hq.elim
   ·cases hno:KF x hn.I<;>simp only[hno,cond_true,cond_false]at h
    have h':=h (fun vs H'=>∀gs,zh P g n (Iz P g fn R) y hn.b dl (mix hn.L vs hn.I fr gs) H') (rV.intro (fun vs H' hh=>hh) _)
    refine wp_seq (wp_mono (jj x _ _ fr H h' a w ha hw) ?_)
    rintro e a' w' ⟨fr',H',dL,cU,ho,hq⟩
    cases e with
    |normal=>
     obtain⟨Hj,qO,hq⟩:=hq
     have UH:=hq fr'
     rw[qC fun s hs=>ho rfl s (qA hno s hs)]at UH
     exact ih _ _ fr' Hj UH ds hd a' w' dL (qO _ _ cU)
    |ret=>exact mR (e:=.ret) hd dL cU hq
    |exit id=>exact hq.elim
    |goto l=>exact hq.elim
    |panic ch=>exact hq.elim
    |outgrown=>exact hq.elim
 |_=>intro hn dl fr H h;exact plain _ hn dl fr H h
theorem Hr{args:List Value}{m:Nat}(hle:args.length≤m):bV [] m {tmps:=args.toArray++Array.replicate (m-args.toArray.size) undef,defers:=[]} (gS args 0):=by
 refine⟨rfl,by simp;omega,fun s=>?_⟩
 rw[jI,Array.getD_eq_getD_getElem?,Array.getElem?_append]
 simp only[List.size_toArray,Nat.not_lt_zero,if_false,Nat.sub_zero]
 by_cases hs:s<args.length
 ·simp[hs,List.getD]
 ·rw[if_neg hs,Array.getElem?_replicate]
  have:args.getD s undef=undef:=by simp[List.getD,List.getElem?_eq_none (Nat.le_of_not_lt hs)]
  rw[this]
  split<;>rfl
theorem xu{f:FuncId}{fn:Func}{hn:Hn}{args:List Value}{H:Hp}{R:Ending→Hp→Prop}(hf:P.funcs[f]? =some fn)(h:IB P g fn hn args H R):aj P g f args.toArray H R:=by
 intro w hw
 unfold IB at h
 split at h<;>try exact h.elim
 rename_i c hc
 cases hl:Nat.ble args.length fn.ntmps<;>simp only[hl,cond_true,cond_false]at h
 exact calls_of_wp_defers hf hc (zg c hn [] _ H h [] .nil _ w (Hr (Nat.le_of_ble_eq_true hl)) hw)
theorem xq{f:FuncId}{fn:Func}{hn:Hn}{args:List Value}{H:Hp}{R:Ending→Hp→Prop}(hf:P.funcs[f]? =some fn)(h:EH P g fn hn args H R):jO P g f args.toArray H R:=by
 intro w hw u
 unfold EH at h
 split at h<;>try exact h.elim
 rename_i c hc
 cases hl:Nat.ble args.length fn.ntmps<;>simp only[hl,cond_true,cond_false]at h
 refine callsD_of_wp hf hc (wp_mono (jj c hn _ _ H h _ w (Hr (Nat.le_of_ble_eq_true hl)) hw) ?_)
 rintro e a' w' ⟨fr',H',dL,cU,_,hq⟩
 cases e with
 |normal=>obtain⟨vs,hr,hk⟩:=fL dL cU hq;exact⟨dL.defers,_,hr,H',cU,hk⟩
 |ret=>obtain⟨vs,hr,hk⟩:=fL dL cU hq;exact⟨dL.defers,_,hr,H',cU,hk⟩
 |panic ch=>exact⟨dL.defers,H',cU,hq⟩
 |exit id=>exact hq.elim
 |goto l=>exact hq.elim
 |outgrown=>exact hq.elim
abbrev Jt:=List Value→Hp→Prop
abbrev Mt:=List Value→Hp→Nat
abbrev Rt:=Ending→Hp→Prop
abbrev Hn.n(a b:Hn):Hn:=.h 0 [] [] a b
theorem ak{f:FuncId}{fn:Func}{hn:Hn}{args:List Value}{H:Hp}{R:Rt}{L:Prop}(hf:P.funcs[f]? =some fn)(h:L)(e:EH P g fn hn args H R=L):aj P g f args.toArray H R:=zi hf (e.mpr h)
theorem yD{f:FuncId}{fn:Func}{hn:Hn}{args:List Value}{H:Hp}{R:Rt}{L:Prop}(hf:P.funcs[f]? =some fn)(h:L)(e:IB P g fn hn args H R=L):aj P g f args.toArray H R:=xu hf (e.mpr h)
theorem yE{f:FuncId}{fn:Func}{hn:Hn}{args:List Value}{H:Hp}{R:Rt}{L:Prop}(hf:P.funcs[f]? =some fn)(h:L)(e:EH P g fn hn args H R=L):jO P g f args.toArray H R:=xq hf (e.mpr h)
end
end Go.Sx
set_option maxRecDepth 100000
namespace Go.Proofs
open Go Go.Sx
variable {g:Gh} {a0 a1 a2 a3 a4 a5 a6 a7 a8 a9 pI pH TQ TP TO TN:Value} {H:Hp} {R:Rt}
abbrev pt(b:Nat):Value:=.pointer (some ⟨b,0,none⟩)
abbrev CF:=ag Tryz.prog
def L3(g:Gh)(a0 a1 a2 a3:Value)(H:Hp)(R:Rt):Prop:=
aW .i64 a0 fun v1=>
ae .num .rem v1 (Value.int .i64 3) fun v2=>
ae .num .add (Value.int .i64 4) v2 fun v3=>
CF g 12 #[v3,a1] H (fun v4 H5=>
ae .ptr .eql v4 (.pointer none) fun v6=>
Br v6 (
R (.returned (Value.bool false)) H5) (
aW .i64 a2 fun v7=>
ae .num .rem v7 (Value.int .i64 3) fun v8=>
ae .num .add (Value.int .i64 2) v8 fun v9=>
aW .i64 a3 fun v10=>
ae .num .sub v3 v9 fun v11=>
ae .num .add v11 (Value.int .i64 1) fun bt=>
ae .num .rem v10 bt fun aY=>
Nil v4 fun br=>
aa 0 br fun bD=>
Ld H5 bD fun bB=>
CF g 13 #[bB] H5 (fun bH dW=>
CF g 14 #[v9] dW (fun bN gk=>
Ext 0 bN fun bQ=>
Ext 1 bN fun cm=>
ae .num .neq cm (Value.int .i64 0) fun ca=>
Br ca (
R (.returned (Value.bool false)) gk) (
Nil v4 fun cK=>
aa 0 cK fun cy=>
Ld gk cy fun cM=>
CF g 15 #[cM] gk (fun dh tU=>
CF g 16 #[bH] tU (fun cV p9=>
CF g 16 #[bH] p9 (fun dQ rU=>
∃(Zr:Jt) (m34:Mt),JE Zr [dh,cV,(Value.int .i64 0)] rU∧∀Qk yg DF:Value,∀BN:Hp,Zr [Qk,yg,DF] BN→∀Tp:Fr,
bA bQ fun jy=>
ae .num .lss DF jy fun gy=>
Br gy (
∀Va:Jt,(∀w45 w46:Value,∀Q2:Hp,(∀aey:Fr,
ae .num .add DF (Value.int .i64 1) fun mE=>
aF Zr m34 [w45,w46,mE] Q2 [Qk,yg,DF] BN)→Va [w45,w46] Q2)→
DR BN fun R48=>
Nil v4 fun lX=>
aa 0 lX fun lW=>
Ld R48 lW fun j9=>
ai 1 bQ DF fun ki=>
Ld R48 ki fun qm=>
ae .num .add aY qm fun uc=>
∀F55:Hp,
CF (g.add F55) 17 #[j9,uc] BN (fun qk BL=>
ae .num .neq qk (Value.int .i64 0) fun ua=>
Br ua (
R (.returned (Value.bool false)) BL) (
DR BL fun LY=>
ai 1 bQ DF fun qj=>
Ld LY qj fun qi=>
ae .num .add aY qi fun sS=>
ai 1 bQ DF fun qh=>
Ld LY qh fun vP=>
ae .num .add aY vP fun pw=>
ae .num .add pw (Value.int .i64 1) fun si=>
ai 1 bQ DF fun tZ=>
Ld LY tZ fun qg=>
ae .num .add aY qg fun qe=>
ae .num .add qe (Value.int .i64 1) fun rY=>
ai 1 dQ rY fun vO=>
Ld LY vO fun sg=>
ai 1 bQ DF fun yo=>
Ld LY yo fun DJ=>
ae .num .add aY DJ fun sb=>
ai 1 dQ sb fun xZ=>
Ld LY xZ fun ym=>
ai 1 dQ sS fun r9=>
∀F79:Hp,
St 1 BL r9 sg fun QY=>
ai 1 dQ si fun xY=>
∀F82:Hp,
St 1 QY xY ym fun yc=>
Nil v4 fun xX=>
aa 0 xX fun sR=>
Ld yc sR fun DI=>
CF g 15 #[DI] yc (fun Gc Nh=>
ae .num .lss Gc Qk fun B0=>
Br B0 (
Nil v4 fun yl=>
aa 0 yl fun sQ=>
Ld Nh sQ fun yj=>
CF g 15 #[yj] Nh (fun FE H94=>
CF g 16 #[dQ] H94 (fun Q9 H96=>
JE Va [FE,Q9] H96) (an R)) (an R)) (
JE Va [Qk,yg] Nh)) (an R))) bn) (
∃(Zi:Jt) (m98:Mt),JE Zi [(Value.int .i64 0)] BN∧∀JY:Value,∀Fz:Hp,Zi [JY] Fz→∀ael:Fr,
bA bQ fun qp=>
ae .num .lss JY qp fun qo=>
Br qo (
Nil v4 fun vR=>
aa 0 vR fun um=>
Ld Fz um fun uk=>
CF g 18 #[uk] Fz (fun pz Ma=>
Ext 0 pz fun uj=>
Ext 1 pz fun NF=>
ae .num .neq NF (Value.int .i64 0) fun yw=>
Br yw (
R (.returned (Value.bool false)) Ma) (
ae .num .add JY (Value.int .i64 1) fun uh=>
aF Zi m98 [uh] Ma [JY] Fz)) (an R)) (
Nil v4 fun yu=>
aa 0 yu fun ug=>
Ld Fz ug fun uf=>
CF g 13 #[uf] Fz (fun Gm Qe=>
CF g 19 #[Gm,bH] Qe (fun vQ BO=>
Un .not vQ fun ue=>
Br ue (
R (.returned (Value.bool false)) BO) (
Nil v4 fun yq=>
aa 0 yq fun yp=>
Ld BO yp fun ud=>
CF g 20 #[ud,v9,aY] BO (fun qn ZQ=>
Ext 0 qn fun Gl=>
Ext 1 qn fun NC=>
bg ZQ (.cells #[(Value.int .i64 0),(Value.int .i64 0),(Value.int .i64 0),(Value.bool false)] 42 (0,0)) fun LO Qd=>
St 4 Qd (pt LO) Gl fun L9=>
∀Fw:Jt,(∀Q7:Value,∀L8:Hp,(∀abf:Fr,
Br Q7 (
R (.returned (Value.bool false)) L8) (
Nil v4 fun Gg=>
aa 0 Gg fun Nz=>
Ld L8 Nz fun Gf=>
CF g 22 #[Gf,v9] L8 (fun J0 ZO=>
Ext 0 J0 fun Nx=>
Ext 1 J0 fun Ge=>
bg ZO (.cells #[(Value.int .i64 0),(Value.int .i64 0),(Value.int .i64 0),(Value.bool false)] 42 (0,0)) fun PJ ZM=>
St 4 ZM (pt PJ) Nx fun Um=>
Nil v4 fun Wp=>
aa 0 Wp fun Nw=>
Ld Um Nw fun Wo=>
CF g 23 #[Wo,v9] Um (fun Nv ZK=>
Ext 0 Nv fun Nu=>
Ext 1 Nv fun Nt=>
Ext 2 Nv fun Ns=>
bg ZK (.cells #[(Value.int .i64 0),(Value.int .i64 0),(Value.int .i64 0),(Value.bool false)] 42 (0,0)) fun TK ZJ=>
St 4 ZJ (pt TK) Nu fun sN=>
∀xQ:Jt,(∀Q6:Value,∀Uk:Hp,(∀abe:Fr,
R (.returned Q6) Uk)→xQ [Q6] Uk)→
ae .num .eql Ge (Value.int .i64 0) fun Wh=>
Split Wh true (
ae .num .eql Ns (Value.int .i64 0) fun Wg=>
aA (Value.bool true) Wg (Value.bool false) fun Wf=>
Split Wf true (
aa 1 (pt PJ) fun We=>
Ld sN We fun Wd=>
aa 1 (pt LO) fun Wc=>
Ld sN Wc fun Wb=>
ae .num .leq Wd Wb fun Wa=>
aA (Value.bool true) Wa (Value.bool false) fun V9=>
Split V9 true (
aa 1 (pt TK) fun V8=>
Ld sN V8 fun V7=>
aa 1 (pt PJ) fun V6=>
Ld sN V6 fun V5=>
ae .num .leq V7 V5 fun V4=>
aA (Value.bool true) V4 (Value.bool false) fun V3=>
Split V3 true (
ae .num .geq Nt (Value.int .i64 1) fun V2=>
aA (Value.bool true) V2 (Value.bool false) fun V1=>
Split V1 true (
CF g 21 #[v4] sN (fun V0 ZG=>
aA (Value.bool true) V0 (Value.bool false) fun VZ=>
JE xQ [VZ] ZG) (an R)) (
aA (Value.bool false) undef (Value.bool false) fun VY=>
JE xQ [VY] sN)) (
aA (Value.bool false) undef (Value.bool false) fun VX=>
aA VX undef (Value.bool false) fun VW=>
JE xQ [VW] sN)) (
aA (Value.bool false) undef (Value.bool false) fun VV=>
aA VV undef (Value.bool false) fun VU=>
aA VU undef (Value.bool false) fun VT=>
JE xQ [VT] sN)) (
aA (Value.bool false) undef (Value.bool false) fun VS=>
aA VS undef (Value.bool false) fun VR=>
aA VR undef (Value.bool false) fun VQ=>
aA VQ undef (Value.bool false) fun VP=>
JE xQ [VP] sN)) (
aA (Value.bool false) undef (Value.bool false) fun VO=>
aA VO undef (Value.bool false) fun VN=>
aA VN undef (Value.bool false) fun VM=>
aA VM undef (Value.bool false) fun VL=>
aA VL undef (Value.bool false) fun VK=>
JE xQ [VK] sN)) (an R)) (an R)))→Fw [Q7] L8)→
DR L9 fun ER=>
ae .num .neq NC (Value.int .i64 0) fun VJ=>
Br VJ (
JE Fw [(Value.bool true)] L9) (
aa 1 (pt LO) fun VI=>
Ld ER VI fun VH=>
ae .num .neq VH Qk fun VG=>
aA (Value.bool false) (Value.bool true) VG fun VE=>
Br VE (
JE Fw [(Value.bool true)] L9) (
aa 1 (pt LO) fun VD=>
Ld ER VD fun VC=>
Nil v4 fun VB=>
aa 0 VB fun VA=>
Ld ER VA fun Vz=>
∀ZZ:Hp,
CF (g.add ZZ) 15 #[Vz] L9 (fun Vy Qc=>
aU Qc ER∧
ae .num .neq VC Vy fun Vx=>
aA (Value.bool false) (Value.bool true) Vx fun Vw=>
Br Vw (
JE Fw [(Value.bool true)] Qc) (
Nil v4 fun Vv=>
aa 0 Vv fun Vu=>
Ld ER Vu fun Vt=>
∀ZY:Hp,
CF (g.add ZY) 13 #[Vt] Qc (fun Vs ZF=>
∀ZX:Hp,
CF (g.add ZX) 19 #[Vs,yg] ZF (fun Vr Uj=>
Un .not Vr fun Vq=>
aA (Value.bool false) (Value.bool true) Vq fun Vp=>
Br Vp (
JE Fw [(Value.bool true)] Uj) (
∀ZW:Hp,
CF (g.add ZW) 21 #[v4] Uj (fun Vo Ui=>
aU Ui ER∧
Un .not Vo fun Vn=>
aA (Value.bool false) (Value.bool true) Vn fun Vm=>
JE Fw [Vm] Ui) bn)) bn) bn)) bn))) (an R))) (an R)) (an R)))) (an R)) (an R)) (an R))) (an R)) (an R))) (an R)
theorem Jg(h:L3 g a0 a1 a2 a3 H R):aj Tryz.prog g 3 #[a0,a1,a2,a3] H R:=
 ak (hn:=(.n .e (.n .e (.n .e (.n .e (.n .e (.n .e (.n .e (.n .e (.n .e (.n .e (.n .e (.n .e (.n (.n .e (.n (.h 0 [16,17,19] [10,11,12,13,14,18] (.n .e (.h 1 [16,17] [10,11,12,13,14,18,19] (.n (.n (.n (.h 1 [] [] (.h 0 [0] [1] (.h 0 [1] [1] (.h 0 [2] [1] (.h 0 [3] [1] (.h 0 [4] [1] (.h 0 [5] [1] (.h 0 [6] [1] (.h 0 [7] [1] (.h 0 [8] [1] (.h 0 [9] [1] (.h 0 [10] [1] (.h 0 [11] [1] .e .e) .e) .e) .e) .e) .e) .e) .e) .e) .e) .e) .e) .e) .e) (.n (.h 1 [] [] (.h 0 [0] [1] (.h 0 [1] [1] (.h 0 [2] [1] (.h 0 [3] [1] (.h 0 [4] [1] (.h 0 [5] [1] (.h 0 [6] [1] (.h 0 [7] [1] (.h 0 [8] [1] (.h 0 [9] [1] (.h 0 [10] [1] (.h 0 [11] [1] (.h 0 [12] [1] (.h 0 [13] [1] (.h 0 [14] [1] (.h 0 [15] [1] (.h 0 [16] [1] (.h 0 [17] [1] (.h 0 [18] [1] (.h 0 [19] [1] (.h 0 [20] [1] (.h 0 [21] [1] (.h 0 [22] [1] (.h 0 [23] [1] (.h 0 [24] [1] (.h 0 [25] [1] (.h 0 [26] [1] (.h 0 [27] [1] (.h 0 [28] [1] (.h 0 [29] [1] (.h 0 [30] [1] (.h 0 [31] [1] (.h 0 [32] [1] (.h 0 [33] [1] (.h 0 [34] [1] (.h 0 [35] [1] (.h 0 [36] [1] (.h 0 [37] [1] .e .e) .e) .e) .e) .e) .e) .e) .e) .e) .e) .e) .e) .e) .e) .e) .e) .e) .e) .e) .e) .e) .e) .e) .e) .e) .e) .e) .e) .e) .e) .e) .e) .e) .e) .e) .e) .e) .e) .e) .e)) .e) .e)) .e) .e)) (.n (.n .e (.n (.h 0 [20] [10,11,12,13,14,16,17] .e .e) .e)) (.n .e (.n .e (.n (.h 1 [205] [10,11,23] (.h 1 [] [] (.h 0 [0] [1] (.h 0 [1] [1] (.h 2 [2] [] (.h 0 [3] [1] (.h 0 [4] [1] (.h 0 [5] [1] (.h 0 [6] [1] (.h 3 [7] [1] (.h 3 [8] [1] (.h 0 [9] [1] (.h 0 [10] [1] (.h 0 [11] [1] (.h 0 [12] [1] (.h 0 [13] [1] (.h 0 [14] [1] (.h 0 [15] [1] (.h 0 [16] [1] (.h 3 [17] [1] (.h 3 [18] [1] (.h 0 [19] [1] (.h 0 [20] [1] (.h 0 [21] [1] (.h 0 [22] [1] (.h 0 [23] [1] (.h 0 [24] [1] (.h 0 [25] [1] (.h 0 [26] [1] (.h 3 [27] [1] (.h 3 [28] [1] (.h 0 [29] [1] (.h 0 [30] [1] (.h 0 [31] [1] (.h 3 [32] [1] .e .e) .e) .e) .e) .e) .e) .e) .e) .e) .e) .e) .e) .e) .e) .e) .e) .e) .e) .e) .e) .e) .e) .e) .e) .e) .e) .e) .e) .e) .e) (.h 0 [3] [1] (.h 0 [4] [1] (.h 0 [5] [1] (.h 0 [6] [1] (.h 0 [7] [1] (.h 2 [8] [] (.h 0 [9] [1] (.h 0 [10] [1] (.h 0 [11] [1] (.h 0 [12] [1] (.h 0 [13] [1] (.h 0 [14] [1] (.h 0 [15] [1] (.h 0 [16] [1] (.h 3 [17] [1] (.h 3 [18] [1] (.h 0 [19] [1] (.h 0 [20] [1] (.h 0 [21] [1] (.h 0 [22] [1] (.h 0 [23] [1] (.h 0 [24] [1] (.h 0 [25] [1] (.h 0 [26] [1] (.h 3 [27] [1] (.h 3 [28] [1] (.h 0 [29] [1] (.h 0 [30] [1] (.h 0 [31] [1] (.h 3 [32] [1] .e .e) .e) .e) .e) .e) .e) .e) .e) .e) .e) .e) .e) .e) .e) .e) .e) .e) .e) .e) .e) .e) .e) .e) .e) (.h 0 [9] [1] (.h 0 [10] [1] (.h 0 [11] [1] (.h 0 [12] [1] (.h 0 [13] [1] (.h 0 [14] [1] (.h 0 [15] [1] (.h 0 [16] [1] (.h 0 [17] [1] (.h 2 [18] [] (.h 0 [19] [1] (.h 0 [20] [1] (.h 0 [21] [1] (.h 0 [22] [1] (.h 0 [23] [1] (.h 0 [24] [1] (.h 0 [25] [1] (.h 0 [26] [1] (.h 3 [27] [1] (.h 3 [28] [1] (.h 0 [29] [1] (.h 0 [30] [1] (.h 0 [31] [1] (.h 3 [32] [1] .e .e) .e) .e) .e) .e) .e) .e) .e) .e) .e) .e) .e) .e) .e) (.h 0 [19] [1] (.h 0 [20] [1] (.h 0 [21] [1] (.h 0 [22] [1] (.h 0 [24] [1] (.h 0 [23] [1] (.h 0 [25] [1] (.h 0 [26] [1] (.h 0 [27] [1] (.h 2 [28] [] (.h 0 [29] [1] (.h 0 [30] [1] (.h 0 [31] [1] (.h 3 [32] [1] .e .e) .e) .e) .e) (.h 0 [29] [1] (.h 0 [30] [1] (.h 0 [31] [1] (.h 0 [32] [1] .e .e) .e) .e) .e)) .e) .e) .e) .e) .e) .e) .e) .e) .e)) .e) .e) .e) .e) .e) .e) .e) .e) .e)) .e) .e) .e) .e) .e)) .e) .e) .e) .e) (.n .e (.n .e (.h 1 [8] [] .e .e))))))))))))))))))))) Tryz.func3 h (by kernel_rfl)
def L12(g:Gh)(a0 a1:Value)(H:Hp)(R:Rt):Prop:=
CF g 54 #[a0,(Value.int .i64 4000)] H (fun v1 H2=>
ae .ptr .eql v1 (.pointer none) fun v3=>
Br v3 (
R (.returned (.pointer none)) H2) (
∃(I4:Jt) (m5:Mt),JE I4 [(Value.int .i64 0)] H2∧∀w8:Value,∀H7:Hp,I4 [w8] H7→∀MZ:Fr,
ae .num .lss w8 a0 fun v9=>
Br v9 (
aW .u8 w8 fun v10=>
Build Tryz.prog 106 [(0,(Value.int .u8 0)),(1,v10)] fun v11=>
CF g 55 #[v1,v11] H7 (fun bt fj=>
Un .not bt fun br=>
Br br (
R (.returned (.pointer none)) fj) (
ae .num .add w8 (Value.int .i64 1) fun bD=>
aF I4 m5 [bD] fj [w8] H7)) (an R)) (
Nil v1 fun bB=>
aa 2 bB fun bH=>
Ld H7 bH fun cf=>
bA cf fun bN=>
ae .num .neq bN a0 fun v20=>
Br v20 (
R (.returned (.pointer none)) H7) (
∃(Zu:Jt) (m22:Mt),JE Zu [(Value.int .i64 0)] H7∧∀rW:Value,∀iL:Hp,Zu [rW] iL→∀YF:Fr,
bA a1 fun cM=>
ae .num .lss rW cM fun dh=>
cw dh true (fun t28=>
ae .num .lss rW (Value.int .i64 30) fun cV=>
(iL=iL∧cV=Value.bool t28)) (fun t28=>(Value.bool false)=Value.bool t28) fun t28=>∀Pr:Fr,
Br (Value.bool t28) (
ai 6 a1 rW fun dQ=>
aC 6 iL dQ fun eX=>
CF g 55 #[v1,eX] iL (fun fR vz=>
Un .not fR fun fJ=>
Br fJ (
R (.returned (.pointer none)) vz) (
ae .num .add rW (Value.int .i64 1) fun eW=>
aF Zu m22 [eW] vz [rW] iL)) (an R)) (
R (.returned v1) iL))))) (an R)
theorem Fv(h:L12 g a0 a1 H R):aj Tryz.prog g 12 #[a0,a1] H R:=
 ak (hn:=(.n .e (.n .e (.n .e (.n (.n .e (.n (.h 0 [6] [0,1,5] .e .e) .e)) (.n .e (.n (.n .e (.n (.h 0 [7] [1,5] (.n (.n (.h 0 [] [1] .e .e) .e) .e) .e) .e)) .e))))))) Tryz.func12 h (by kernel_rfl)
def L13(g:Gh)(a0:Value)(H:Hp)(R:Rt):Prop:=
ae .ptr .eql a0 (.pointer none) fun v1=>
Br v1 (
R (.returned (.slice none 0 0)) H) (
Nil a0 fun v2=>
aa 5 v2 fun v3=>
Ld H v3 fun v4=>
CF g 57 #[v4] H (fun v5 H6=>
R (.returned v5) H6) (an R))
theorem Fu(h:L13 g a0 H R):aj Tryz.prog g 13 #[a0] H R:=
 ak (hn:=.e) Tryz.func13 h (by kernel_rfl)
def L14(g:Gh)(a0:Value)(H:Hp)(R:Rt):Prop:=
ae .num .eql a0 (Value.int .i64 2) fun v1=>
Br v1 (
au Tryz.prog 25 1 [(0,(Value.int .i64 0))] H fun v2 H3=>
R (.returned (.tuple #[v2,(Value.int .i64 0)])) H3) (
ae .num .eql a0 (Value.int .i64 3) fun v4=>
Br v4 (
au Tryz.prog 25 5 [(0,(Value.int .i64 1)),(1,(Value.int .i64 0)),(2,(Value.int .i64 1)),(3,(Value.int .i64 0)),(4,(Value.int .i64 1))] H fun v5 H6=>
R (.returned (.tuple #[v5,(Value.int .i64 0)])) H6) (
ae .num .eql a0 (Value.int .i64 4) fun v7=>
Br v7 (
au Tryz.prog 25 23 [(0,(Value.int .i64 2)),(1,(Value.int .i64 1)),(2,(Value.int .i64 0)),(3,(Value.int .i64 2)),(4,(Value.int .i64 0)),(5,(Value.int .i64 1)),(6,(Value.int .i64 2)),(7,(Value.int .i64 0)),(8,(Value.int .i64 2)),(9,(Value.int .i64 1)),(10,(Value.int .i64 0)),(11,(Value.int .i64 2)),(12,(Value.int .i64 0)),(13,(Value.int .i64 1)),(14,(Value.int .i64 2)),(15,(Value.int .i64 0)),(16,(Value.int .i64 2)),(17,(Value.int .i64 1)),(18,(Value.int .i64 0)),(19,(Value.int .i64 2)),(20,(Value.int .i64 0)),(21,(Value.int .i64 1)),(22,(Value.int .i64 2))] H fun v8 H9=>
R (.returned (.tuple #[v8,(Value.int .i64 0)])) H9) (
R (.returned (.tuple #[(.slice none 0 0),(Value.int .i64 1)])) H)))
theorem Ft(h:L14 g a0 H R):aj Tryz.prog g 14 #[a0] H R:=
 ak (hn:=.e) Tryz.func14 h (by kernel_rfl)
def L15(g:Gh)(a0:Value)(H:Hp)(R:Rt):Prop:=
ae .ptr .eql a0 (.pointer none) fun v1=>
Br v1 (
R (.returned (Value.int .i64 0)) H) (
Nil a0 fun v2=>
aa 0 v2 fun v3=>
aa 0 v3 fun v4=>
Ld H v4 fun v5=>
CF g 58 #[v5] H (fun v6 H7=>
ae .num .sub v6 (Value.int .i64 2) fun v8=>
R (.returned v8) H7) (an R))
theorem Fq(h:L15 g a0 H R):aj Tryz.prog g 15 #[a0] H R:=
 ak (hn:=.e) Tryz.func15 h (by kernel_rfl)
def L16(g:Gh)(a0:Value)(H:Hp)(R:Rt):Prop:=
∃(I1:Jt) (m2:Mt),JE I1 [(.slice none 0 0),(Value.int .i64 0)] H∧∀w5 w6:Value,∀H4:Hp,I1 [w5,w6] H4→∀Tr:Fr,
bA a0 fun v7=>
ae .num .lss w6 v7 fun v8=>
Br v8 (
ai 1 a0 w6 fun v9=>
Ld H4 v9 fun v10=>
au Tryz.prog 25 1 [(0,v10)] H4 fun v11 dI=>
App Tryz.prog 3 1 8 (Value.int .i64 0) dI w5 v11 fun bD jQ=>
ae .num .add w6 (Value.int .i64 1) fun bH=>
aF I1 m2 [bD,bH] jQ [w5,w6] H4) (
R (.returned w5) H4)
theorem Fp(h:L16 g a0 H R):aj Tryz.prog g 16 #[a0] H R:=
 ak (hn:=(.n .e (.n .e (.n (.n .e (.n (.h 0 [3,4] [0] .e .e) .e)) .e)))) Tryz.func16 h (by kernel_rfl)
def L17(g:Gh)(a0 a1:Value)(H:Hp)(R:Rt):Prop:=
ae .ptr .eql a0 (.pointer none) fun v1=>
Br v1 (
R (.returned (Value.int .i64 10)) H) (
ae .num .lss a1 (Value.int .i64 0) fun v2=>
cw v2 false (fun t3=>
Nil a0 fun v4=>
aa 4 v4 fun v5=>
Ld H v5 fun v6=>
ae .num .sub v6 (Value.int .i64 2) fun v7=>
ae .num .gtr a1 v7 fun v8=>
(H=H∧v8=Value.bool t3)) (fun t3=>(Value.bool true)=Value.bool t3) fun t3=>∀QK:Fr,
Br (Value.bool t3) (
R (.returned (Value.int .i64 1)) H) (
CF g 59 #[a0,a1] H (fun v10 dB=>
Un .not v10 fun bt=>
Br bt (
R (.returned (Value.int .i64 9)) dB) (
Nil a0 fun aY=>
aa 7 aY fun br=>
Ld dB br fun bD=>
au Tryz.prog 25 1 [(0,a1)] dB fun bB ej=>
App Tryz.prog 3 1 8 (Value.int .i64 0) ej bD bB fun v20 gI=>
Nil a0 fun cm=>
aa 7 cm fun ca=>
St 1 gI ca v20 fun iL=>
R (.returned (Value.int .i64 0)) iL)) (an R)))
theorem Fo(h:L17 g a0 a1 H R):aj Tryz.prog g 17 #[a0,a1] H R:=
 ak (hn:=(.n .e (.n (.n (.n .e (.n .e (.n (.h 0 [] [1] .e .e) .e))) .e) .e))) Tryz.func17 h (by kernel_rfl)
def L18(g:Gh)(a0:Value)(H:Hp)(R:Rt):Prop:=
ae .ptr .eql a0 (.pointer none) fun v1=>
cw v1 false (fun t2=>
Nil a0 fun v3=>
aa 7 v3 fun v4=>
Ld H v4 fun v5=>
bA v5 fun v6=>
ae .num .eql v6 (Value.int .i64 0) fun v7=>
(H=H∧v7=Value.bool t2)) (fun t2=>(Value.bool true)=Value.bool t2) fun t2=>∀MY:Fr,
Br (Value.bool t2) (
R (.returned (.tuple #[(Value.int .i64 0),(Value.int .i64 10)])) H) (
Nil a0 fun v9=>
aa 7 v9 fun v10=>
Ld H v10 fun v11=>
bA v11 fun bt=>
ae .num .sub bt (Value.int .i64 1) fun aY=>
Nil a0 fun br=>
aa 7 br fun bD=>
Ld H bD fun bB=>
ai 1 bB aY fun bH=>
Ld H bH fun cf=>
CF g 59 #[a0,cf] H (fun bN gk=>
Nil a0 fun bQ=>
aa 7 bQ fun cm=>
Ld gk cm fun ca=>
fG 1 ca none (some aY) fun cK=>
Nil a0 fun cy=>
aa 7 cy fun cM=>
St 1 gk cM cK fun iR=>
R (.returned (.tuple #[cf,(Value.int .i64 0)])) iR) (an R))
theorem Fm(h:L18 g a0 H R):aj Tryz.prog g 18 #[a0] H R:=
 ak (hn:=(.n .e (.n (.n (.h 0 [] [1] .e .e) .e) .e))) Tryz.func18 h (by kernel_rfl)
def L19(g:Gh)(a0 a1:Value)(H:Hp)(R:Rt):Prop:=
bA a0 fun v1=>
bA a1 fun v2=>
ae .num .neq v1 v2 fun v3=>
Br v3 (
R (.returned (Value.bool false)) H) (
∃(I4:Jt) (m5:Mt),JE I4 [(Value.int .i64 0)] H∧∀w8:Value,∀H7:Hp,I4 [w8] H7→∀MZ:Fr,
bA a0 fun v9=>
ae .num .lss w8 v9 fun v10=>
Br v10 (
ai 1 a0 w8 fun v11=>
Ld H7 v11 fun bt=>
ai 1 a1 w8 fun aY=>
Ld H7 aY fun br=>
ae .num .neq bt br fun bD=>
Br bD (
R (.returned (Value.bool false)) H7) (
ae .num .add w8 (Value.int .i64 1) fun bB=>
aF I4 m5 [bB] H7 [w8] H7)) (
R (.returned (Value.bool true)) H7))
theorem Fl(h:L19 g a0 a1 H R):aj Tryz.prog g 19 #[a0,a1] H R:=
 ak (hn:=(.n .e (.n .e (.n (.n .e (.n (.h 0 [5] [0,1] .e .e) .e)) .e)))) Tryz.func19 h (by kernel_rfl)
def L20(g:Gh)(a0 a1 a2:Value)(H:Hp)(R:Rt):Prop:=
bg H (.cells #[(Value.int .i64 0),(Value.int .i64 0),(Value.int .i64 0),(Value.bool false)] 42 (0,0)) fun b1 H2=>
CF g 60 #[a0,a1] H2 (fun v3 H4=>
ae .num .neq v3 (Value.int .i64 0) fun v5=>
Br v5 (
Build Tryz.prog 42 [] fun v6=>
St 4 H4 (pt b1) v6 fun H7=>
aC 4 H7 (pt b1) fun v8=>
R (.returned (.tuple #[v8,v3])) H7) (
∀J9:Jt,(∀fZ:Value,∀dB:Hp,(∀qR:Fr,
Br fZ (
Build Tryz.prog 42 [] fun aY=>
St 4 dB (pt b1) aY fun iB=>
aC 4 iB (pt b1) fun bD=>
R (.returned (.tuple #[bD,(Value.int .i64 1)])) iB) (
CF g 62 #[a0,a1] dB (fun bB ej=>
CF g 63 #[bB,a0,a2] ej (fun cf jv=>
Nil bB fun v20=>
aa 1 v20 fun bQ=>
aC 4 jv bQ fun cm=>
St 4 jv (pt b1) cm fun jV=>
aC 4 jV (pt b1) fun cK=>
R (.returned (.tuple #[cK,(Value.int .i64 0)])) jV) (an R)) (an R)))→J9 [fZ] dB)→
ae .num .lss a2 (Value.int .i64 0) fun cy=>
Split cy false (
CF g 61 #[a0] H4 (fun cM iR=>
ae .num .sub cM a1 fun dg=>
ae .num .gtr a2 dg fun cV=>
aA (Value.bool false) (Value.bool true) cV fun v30=>
JE J9 [v30] iR) (an R)) (
aA (Value.bool true) (Value.bool true) undef fun dQ=>
JE J9 [dQ] H4))) (an R)
theorem Fk(h:L20 g a0 a1 a2 H R):aj Tryz.prog g 20 #[a0,a1,a2] H R:=
 ak (hn:=(.n .e (.n .e (.n (.h 1 [26] [0,1,2,6] .e .e) .e)))) Tryz.func20 h (by kernel_rfl)
end Go.Proofs
set_option maxRecDepth 100000
namespace Go.Proofs
open Go Go.Sx
variable {g:Gh} {a0 a1 a2 a3 a4 a5 a6 a7 a8 a9 pI pH TQ TP TO TN:Value} {H:Hp} {R:Rt}
def L21(g:Gh)(a0:Value)(H:Hp)(R:Rt):Prop:=
∀J1:Jt,(∀w4:Value,∀H3:Hp,(∀Tw:Fr,
Br w4 (
R (.returned (Value.bool false)) H3) (
∃(I5:Jt) (m6:Mt),JE I5 [(Value.int .i64 0)] H3∧∀w9:Value,∀H8:Hp,I5 [w9] H8→∀Tn:Fr,
Nil a0 fun v10=>
aa 2 v10 fun v11=>
Ld H8 v11 fun bt=>
bA bt fun aY=>
ae .num .lss w9 aY fun br=>
Br br (
DR H8 fun QR=>
Nil a0 fun bB=>
aa 2 bB fun bH=>
Ld QR bH fun cf=>
ai 1 cf w9 fun bN=>
Ld QR bN fun v20=>
Nil a0 fun bQ=>
aa 3 bQ fun cm=>
Ld QR cm fun ca=>
ai 2 ca w9 fun cK=>
aC 2 QR cK fun cy=>
Nil a0 fun cM=>
aa 1 cM fun dh=>
Ld QR dh fun dg=>
ae .num .mul (Value.int .i64 2) dg fun cV=>
ae .num .add cV (Value.int .i64 2) fun v30=>
CF g 66 #[a0,v20,cy,v30] H8 (fun dQ rU=>
aU rU QR∧
Un .not dQ fun fR=>
Br fR (
R (.returned (Value.bool false)) rU) (
∃(Zq:Jt) (m35:Mt),JE Zq [(Value.int .i64 0)] rU∧∀yg:Value,∀sM:Hp,Zq [yg] sM→∀aeB:Fr,
ae .num .lss yg w9 fun iC=>
Br iC (
DR sM fun LZ=>
Nil a0 fun gy=>
aa 2 gy fun jr=>
Ld LZ jr fun iN=>
ai 1 iN w9 fun jx=>
Ld LZ jx fun jR=>
Nil a0 fun kf=>
aa 2 kf fun mE=>
Ld LZ mE fun mg=>
ai 1 mg yg fun lX=>
Ld LZ lX fun lW=>
ae .num .eql jR lW fun j9=>
Nil a0 fun ki=>
aa 3 ki fun qm=>
Ld LZ qm fun uc=>
ai 2 uc w9 fun py=>
aC 2 LZ py fun qk=>
Nil a0 fun sU=>
aa 3 sU fun ua=>
Ld LZ ua fun sj=>
ai 2 sj yg fun qj=>
aC 2 LZ qj fun qi=>
CF g 67 #[qk,qi] sM (fun sS JR=>
aU JR LZ∧
ae .bool .neq j9 sS fun vP=>
Br vP (
R (.returned (Value.bool false)) JR) (
ae .num .add yg (Value.int .i64 1) fun pw=>
aF Zq m35 [pw] JR [yg] sM)) bn) (
ae .num .add w9 (Value.int .i64 1) fun si=>
aF I5 m6 [si] sM [w9] H8))) bn) (
R (.returned (Value.bool true)) H8)))→J1 [w4] H3)→
DR H fun zE=>
Nil a0 fun qg=>
aa 0 qg fun qe=>
Ld zE qe fun rY=>
∀F71:Hp,
CF (g.add F71) 15 #[rY] H (fun sg tT=>
aU tT zE∧
∀F74:Hp,
CF (g.add F74) 64 #[a0,(.slice none 0 0)] tT (fun sb rS=>
aU rS zE∧
ae .num .neq sg sb fun ym=>
Br ym (
JE J1 [(Value.bool true)] rS) (
Nil a0 fun r9=>
aa 0 r9 fun tY=>
Ld zE tY fun FG=>
Nil a0 fun xY=>
aa 0 xY fun tX=>
Ld zE tX fun Gd=>
∀F84:Hp,
CF (g.add F84) 15 #[FG] rS (fun sR Vc=>
aU Vc zE∧
ae .num .add sR (Value.int .i64 2) fun Gc=>
∀F88:Hp,
CF (g.add F88) 65 #[Gd] Vc (fun B0 Vb=>
aU Vb zE∧
ae .num .gtr Gc B0 fun sQ=>
aA (Value.bool false) (Value.bool true) sQ fun yj=>
JE J1 [yj] Vb) bn) bn)) bn) bn
theorem Fj(h:L21 g a0 H R):aj Tryz.prog g 21 #[a0] H R:=
 ak (hn:=(.n .e (.n (.h 1 [26] [0] (.h 1 [] [] (.h 0 [0] [] (.h 0 [1] [] (.h 0 [2] [] (.h 0 [3] [] (.h 0 [5] [] (.h 0 [4] [] (.h 0 [6] [] (.h 0 [7] [] (.h 2 [8] [] (.h 0 [9] [] (.h 0 [10] [] (.h 0 [11] [] (.h 0 [12] [] (.h 0 [13] [] (.h 0 [14] [] (.h 0 [15] [] (.h 0 [16] [] (.h 0 [17] [] (.h 0 [18] [] (.h 0 [19] [] (.h 0 [20] [] (.h 3 [21] [] .e .e) .e) .e) .e) .e) .e) .e) .e) .e) .e) .e) .e) .e) (.h 0 [9] [] (.h 0 [10] [] (.h 0 [11] [] (.h 0 [12] [] (.h 0 [15] [] (.h 0 [16] [] (.h 0 [17] [] (.h 0 [18] [] (.h 0 [13] [] (.h 0 [14] [] (.h 0 [19] [] (.h 0 [20] [] (.h 0 [21] [] .e .e) .e) .e) .e) .e) .e) .e) .e) .e) .e) .e) .e) .e)) .e) .e) .e) .e) .e) .e) .e) .e) .e) .e) (.n (.n .e (.n (.h 0 [3] [0] (.n .e (.n (.n (.n (.n (.h 0 (List.range 23) [] .e .e) .e) (.n .e (.n (.h 0 [4] [0,3] (.n .e (.n (.n (.n (.h 0 (List.range 31) [] .e .e) .e) .e) .e)) .e) .e))) .e) .e)) .e) .e)) .e)))) Tryz.func21 h (by kernel_rfl)
def L22(g:Gh)(a0 a1:Value)(H:Hp)(R:Rt):Prop:=
bg H (.cells #[(Value.int .i64 0),(Value.int .i64 0),(Value.int .i64 0),(Value.bool false)] 42 (0,0)) fun b1 H2=>
CF g 60 #[a0,a1] H2 (fun v3 H4=>
ae .num .neq v3 (Value.int .i64 0) fun v5=>
Br v5 (
Build Tryz.prog 42 [] fun v6=>
St 4 H4 (pt b1) v6 fun H7=>
aC 4 H7 (pt b1) fun v8=>
R (.returned (.tuple #[v8,v3])) H7) (
CF g 62 #[a0,a1] H4 (fun v9 cT=>
CF g 68 #[v9,a0,a1] cT (fun v11 dI=>
Nil v9 fun aY=>
aa 1 aY fun br=>
aC 4 dI br fun bD=>
St 4 dI (pt b1) bD fun jQ=>
aC 4 jQ (pt b1) fun bH=>
R (.returned (.tuple #[bH,(Value.int .i64 0)])) jQ) (an R)) (an R))) (an R)
theorem Fi(h:L22 g a0 a1 H R):aj Tryz.prog g 22 #[a0,a1] H R:=
 ak (hn:=.e) Tryz.func22 h (by kernel_rfl)
def L23(g:Gh)(a0 a1:Value)(H:Hp)(R:Rt):Prop:=
bg H (.cells #[(Value.int .i64 0),(Value.int .i64 0),(Value.int .i64 0),(Value.bool false)] 42 (0,0)) fun b1 H2=>
CF g 60 #[a0,a1] H2 (fun v3 H4=>
ae .num .neq v3 (Value.int .i64 0) fun v5=>
Br v5 (
Build Tryz.prog 42 [] fun v6=>
St 4 H4 (pt b1) v6 fun H7=>
aC 4 H7 (pt b1) fun v8=>
R (.returned (.tuple #[v8,(Value.int .i64 0),v3])) H7) (
CF g 62 #[a0,a1] H4 (fun v9 cT=>
∃(Zz:Jt) (m12:Mt),JE Zz [(Value.int .i64 1)] cT∧∀xW:Value,∀iB:Hp,Zz [xW] iB→∀YJ:Fr,
CF g 15 #[a0] iB (fun bB ej=>
CF g 68 #[v9,a0,a1] ej (fun cf jv=>
CF g 15 #[a0] jv (fun v20 gI=>
ae .num .geq v20 bB fun cm=>
Br cm (
Nil v9 fun ca=>
aa 1 ca fun cK=>
aC 4 gI cK fun cy=>
St 4 gI (pt b1) cy fun gH=>
aC 4 gH (pt b1) fun dh=>
R (.returned (.tuple #[dh,xW,(Value.int .i64 0)])) gH) (
ae .num .add xW (Value.int .i64 1) fun dg=>
aF Zz m12 [dg] gI [xW] iB)) (an R)) (an R)) (an R)) (an R))) (an R)
theorem Fh(h:L23 g a0 a1 H R):aj Tryz.prog g 23 #[a0,a1] H R:=
 ak (hn:=(.n .e (.n .e (.n .e (.n .e (.n (.h 0 [9] [0,1,4,8] .e .e) .e)))))) Tryz.func23 h (by kernel_rfl)
def L34(g:Gh)(a0:Value)(H:Hp)(R:Rt):Prop:=
ae .ptr .eql a0 (.pointer none) fun v1=>
Br v1 (
R (.returned (Value.int .i64 0)) H) (
Nil a0 fun v2=>
aa 7 v2 fun v3=>
Ld H v3 fun v4=>
bA v4 fun v5=>
R (.returned v5) H)
theorem Fg(h:L34 g a0 H R):aj Tryz.prog g 34 #[a0] H R:=
 ak (hn:=.e) Tryz.func34 h (by kernel_rfl)
def L38(g:Gh)(a0 a1:Value)(H:Hp)(R:Rt):Prop:=
CF g 99 #[a0,a1] H (fun v1 H2=>
Ext 0 v1 fun v3=>
Ext 1 v1 fun v4=>
bA v3 fun v5=>
∃(I6:Jt) (m7:Mt),JE I6 [(Value.int .i64 0),(Value.int .i64 0)] H2∧∀rX nk:Value,∀H9:Hp,I6 [rX,nk] H9→∀MY:Fr,
ae .num .lss nk v5 fun bt=>
Br bt (
ai 1 v3 nk fun aY=>
Ld H9 aY fun br=>
ae .num .add rX br fun bD=>
ae .num .add nk (Value.int .i64 1) fun bB=>
aF I6 m7 [bD,bB] H9 [rX,nk] H9) (
R (.returned (.tuple #[rX,v4])) H9)) (an R)
theorem Ff(h:L38 g a0 a1 H R):aj Tryz.prog g 38 #[a0,a1] H R:=
 ak (hn:=(.n .e (.n .e (.n .e (.n (.n .e (.n (.h 0 [8,19] [7,17,18] .e .e) .e)) .e))))) Tryz.func38 h (by kernel_rfl)
def L46(g:Gh)(a0 a1:Value)(H:Hp)(R:Rt):Prop:=
ae .ptr .eql a0 (.pointer none) fun v1=>
Br v1 (
R (.returned (.tuple #[(Value.int .i64 0),(Value.int .i64 10)])) H) (
CF g 113 #[a0,a1] H (fun v2 H3=>
Un .not v2 fun v4=>
Br v4 (
R (.returned (.tuple #[(Value.int .i64 0),(Value.int .i64 2)])) H3) (
Nil a0 fun v5=>
aa 6 v5 fun v6=>
Ld H3 v6 fun v7=>
ai 1 v7 a1 fun v8=>
Ld H3 v8 fun v9=>
R (.returned (.tuple #[v9,(Value.int .i64 0)])) H3)) (an R))
theorem Fe(h:L46 g a0 a1 H R):aj Tryz.prog g 46 #[a0,a1] H R:=
 ak (hn:=.e) Tryz.func46 h (by kernel_rfl)
def L51(g:Gh)(a0 a1:Value)(H:Hp)(R:Rt):Prop:=
CF g 116 #[a0] H (fun v1 H2=>
Ext 0 v1 fun v3=>
Ext 1 v1 fun v4=>
ae .num .neq v4 (Value.int .i64 0) fun v5=>
cw v5 false (fun t6=>
ae .num .lss a0 (Value.int .i64 1) fun v7=>
(H2=H2∧v7=Value.bool t6)) (fun t6=>(Value.bool true)=Value.bool t6) fun t6=>∀MY:Fr,
cw (Value.bool t6) false (fun t9=>
ae .num .lss a1 (Value.int .i64 2) fun v10=>
(H2=H2∧v10=Value.bool t9)) (fun t9=>(Value.bool true)=Value.bool t9) fun t9=>∀YK:Fr,
cw (Value.bool t9) false (fun t12=>
ae .num .gtr a1 (Value.int .i64 1048576) fun aY=>
(H2=H2∧aY=Value.bool t12)) (fun t12=>(Value.bool true)=Value.bool t12) fun t12=>∀qQ:Fr,
Br (Value.bool t12) (
R (.returned (.tuple #[(.pointer none),(Value.int .i64 1)])) H2) (
CF g 117 #[a0] H2 (fun bD jQ=>
Ext 0 bD fun bH=>
Ext 1 bD fun cf=>
ae .num .neq cf (Value.int .i64 0) fun bN=>
Br bN (
R (.returned (.tuple #[(.pointer none),cf])) jQ) (
CF g 118 #[a1,bH] jQ (fun v20 gI=>
Ext 0 v20 fun cm=>
Ext 1 v20 fun ca=>
bg gI (.cells #[(.pointer none),(.pointer none),(.slice none 0 0),(.slice none 0 0)] 115 (0,0)) fun PG gj=>
St 4 gj (pt PG) cm fun gH=>
ae .num .neq ca (Value.int .i64 0) fun dh=>
Br dh (
R (.returned (.tuple #[(.pointer none),ca])) gH) (
DR gH fun PR=>
aC 4 PR (pt PG) fun cV=>
CF g 57 #[v3] gH (fun v30 ju=>
aU ju PR∧
Build Tryz.prog 117 [(0,cV),(1,a0),(2,v3),(3,v30)] fun eX=>
bg ju (.cells (Value.cells eX) 117 (0,0)) fun oQ vz=>
aU vz PR∧
R (.returned (.tuple #[(pt oQ),(Value.int .i64 0)])) vz) bn)) (an R))) (an R))) (an R)
theorem Fb(h:L51 g a0 a1 H R):aj Tryz.prog g 51 #[a0,a1] H R:=
 ak (hn:=(.n .e (.n .e (.n (.n (.h 0 [] [1] .e .e) .e) (.n .e (.n .e (.n .e (.n .e (.n (.h 0 (List.range 9) [] .e .e) .e))))))))) Tryz.func51 h (by kernel_rfl)
def L54(g:Gh)(a0 a1:Value)(H:Hp)(R:Rt):Prop:=
CF g 51 #[a0,a1] H (fun v1 H2=>
Ext 0 v1 fun v3=>
Ext 1 v1 fun v4=>
∀J5:Jt,(∀w8:Value,∀H7:Hp,(∀MZ:Fr,
Br w8 (
R (.returned (.pointer none)) H7) (
Build Tryz.prog 30 [(0,v3),(1,a0)] fun v9=>
bg H7 (.cells (Value.cells v9) 30 (0,0)) fun vp dB=>
R (.returned (pt vp)) dB))→J5 [w8] H7)→
ae .num .neq v4 (Value.int .i64 0) fun bt=>
Split bt false (
ae .ptr .eql v3 (.pointer none) fun aY=>
aA (Value.bool false) (Value.bool true) aY fun br=>
Split br false (
CF g 61 #[v3] H2 (fun bD jQ=>
ae .num .neq bD a0 fun bH=>
aA (Value.bool false) (Value.bool true) bH fun cf=>
Split cf false (
CF g 65 #[v3] jQ (fun bN gk=>
ae .num .neq bN a1 fun bQ=>
aA (Value.bool false) (Value.bool true) bQ fun cm=>
Split cm false (
CF g 15 #[v3] gk (fun ca iL=>
ae .num .neq ca (Value.int .i64 0) fun cy=>
aA (Value.bool false) (Value.bool true) cy fun cM=>
JE J5 [cM] iL) (an R)) (
aA (Value.bool true) (Value.bool true) undef fun dh=>
JE J5 [dh] gk)) (an R)) (
aA (Value.bool true) (Value.bool true) undef fun dg=>
aA dg (Value.bool true) undef fun cV=>
JE J5 [cV] jQ)) (an R)) (
aA (Value.bool true) (Value.bool true) undef fun v30=>
aA v30 (Value.bool true) undef fun dQ=>
aA dQ (Value.bool true) undef fun eX=>
JE J5 [eX] H2)) (
aA (Value.bool true) (Value.bool true) undef fun fR=>
aA fR (Value.bool true) undef fun fS=>
aA fS (Value.bool true) undef fun fJ=>
aA fJ (Value.bool true) undef fun eW=>
JE J5 [eW] H2)) (an R)
theorem Fa(h:L54 g a0 a1 H R):aj Tryz.prog g 54 #[a0,a1] H R:=
 ak (hn:=(.n .e (.n .e (.n (.h 1 [35] [0,5] .e .e) .e)))) Tryz.func54 h (by kernel_rfl)
end Go.Proofs
set_option maxRecDepth 100000
namespace Go.Proofs
open Go Go.Sx
variable {g:Gh} {a0 a1 a2 a3 a4 a5 a6 a7 a8 a9 pI pH TQ TP TO TN:Value} {H:Hp} {R:Rt}
def L55(g:Gh)(a0 a1:Value)(H:Hp)(R:Rt):Prop:=
bg H (.cells (Value.cells a1) 106 (0,0)) fun b1 H2=>
aa 2 (pt b1) fun v3=>
Ld H2 v3 fun v4=>
CF g 126 #[a0,v4] H2 (fun v5 H6=>
Ext 0 v5 fun v7=>
Ext 1 v5 fun v8=>
bg H6 (.cells #[(Value.int .i64 0),(.slice none 0 0)] 57 (0,0)) fun b9 cT=>
St 2 cT (pt b9) v8 fun dB=>
aa 3 (pt b1) fun bt=>
Ld dB bt fun aY=>
CF g 126 #[a0,aY] dB (fun br dy=>
Ext 0 br fun bB=>
Ext 1 br fun bH=>
bg dy (.cells #[(Value.int .i64 0),(.slice none 0 0)] 57 (0,0)) fun fm jv=>
St 2 jv (pt fm) bH fun gk=>
aa 4 (pt b1) fun bQ=>
Ld gk bQ fun cm=>
CF g 126 #[a0,cm] gk (fun ca iL=>
Ext 0 ca fun cy=>
Ext 1 ca fun cM=>
bg iL (.cells #[(Value.int .i64 0),(.slice none 0 0)] 57 (0,0)) fun Nc tU=>
St 2 tU (pt Nc) cM fun me=>
aC 6 me (pt b1) fun v30=>
aC 2 me (pt b9) fun dQ=>
aC 2 me (pt fm) fun eX=>
aC 2 me (pt Nc) fun fR=>
CF g 127 #[a0,v30,dQ,eX,fR] me (fun fS rT=>
Ext 0 fS fun eW=>
Ext 1 fS fun eP=>
bg rT (.cells #[(Value.int .i64 0),(.slice none 0 0)] 57 (0,0)) fun PE FY=>
St 2 FY (pt PE) eW fun l9=>
aC 6 l9 (pt b1) fun gy=>
CF g 128 #[a0,gy,v7,bB,cy] l9 (fun jr mY=>
Ext 0 jr fun jx=>
Ext 1 jr fun jR=>
ae .num .neq eP (Value.int .i64 0) fun kf=>
Br kf (
R (.returned (Value.bool false)) mY) (
DR mY fun TT=>
aC 2 TT (pt PE) fun mg=>
Nil a0 fun lX=>
aa 0 lX fun lW=>
Ld TT lW fun j9=>
au Tryz.prog 28 1 [(0,mg)] mY fun ki Nj=>
aU Nj TT∧
CF g 64 #[a0,ki] Nj (fun uc L7=>
aU L7 TT∧
ae .num .add uc (Value.int .i64 2) fun qk=>
CF g 65 #[j9] L7 (fun sU r7=>
aU r7 TT∧
ae .num .leq qk sU fun sj=>
ae .num .eql jR (Value.int .i64 9) fun qj=>
Br qj (
ae .num .eql jx (Value.int .u32 0) fun qi=>
cw qi true (fun t62=>
Un .not sj fun qh=>
cw qh false (fun t64=>
aa 0 (pt b1) fun pw=>
Ld r7 pw fun si=>
ae .num .rem si (Value.int .u8 9) fun tZ=>
ae .num .eql tZ (Value.int .u8 8) fun qg=>
(r7=r7∧qg=Value.bool t64)) (fun t64=>(Value.bool true)=Value.bool t64) fun t64=>∀aer:Fr,
(r7=r7∧(Value.bool t64)=Value.bool t62)) (fun t62=>(Value.bool false)=Value.bool t62) fun t62=>∀aeq:Fr,
R (.returned (Value.bool t62)) r7) (
ae .num .neq jR (Value.int .i64 0) fun vO=>
cw vO false (fun t72=>
Un .not sj fun yo=>
(r7=r7∧yo=Value.bool t72)) (fun t72=>(Value.bool true)=Value.bool t72) fun t72=>∀aep:Fr,
Br (Value.bool t72) (
R (.returned (Value.bool false)) r7) (
aC 2 r7 (pt PE) fun sb=>
CF g 129 #[a0,jx,sb] r7 (fun xZ Fx=>
R (.returned (Value.bool true)) Fx) (an R)))) bn) bn)) (an R)) (an R)) (an R)) (an R)) (an R)
theorem E9(h:L55 g a0 a1 H R):aj Tryz.prog g 55 #[a0,a1] H R:=
 ak (hn:=(.n .e (.n .e (.n .e (.n .e (.n .e (.n .e (.n .e (.n (.h 0 [0,1,5,6,7,8,2,3,4,9,10,11] [] .e .e) (.n (.n .e (.n (.n (.h 0 [] [1] .e .e) .e) .e)) (.n (.n (.h 0 [] [1] .e .e) .e) .e))))))))))) Tryz.func55 h (by kernel_rfl)
def L57(g:Gh)(a0:Value)(H:Hp)(R:Rt):Prop:=
ae .slice .eql a0 (.slice none 0 0) fun v1=>
Br v1 (
R (.returned (.slice none 0 0)) H) (
au Tryz.prog 25 0 [] H fun v2 H3=>
App Tryz.prog 3 1 8 (Value.int .i64 0) H3 v2 a0 fun v6 H7=>
R (.returned v6) H7)
theorem E8(h:L57 g a0 H R):aj Tryz.prog g 57 #[a0] H R:=
 ak (hn:=.e) Tryz.func57 h (by kernel_rfl)
def L58(g:Gh)(a0:Value)(H:Hp)(R:Rt):Prop:=
ae .ptr .eql a0 (.pointer none) fun v1=>
Br v1 (
R (.returned (Value.int .i64 0)) H) (
Nil a0 fun v2=>
aa 3 v2 fun v3=>
Ld H v3 fun v4=>
R (.returned v4) H)
theorem E7(h:L58 g a0 H R):aj Tryz.prog g 58 #[a0] H R:=
 ak (hn:=.e) Tryz.func58 h (by kernel_rfl)
def L59(g:Gh)(a0 a1:Value)(H:Hp)(R:Rt):Prop:=
Nil a0 fun v1=>
aa 5 v1 fun v2=>
Ld H v2 fun v3=>
ai 1 v3 a1 fun v4=>
Ld H v4 fun v5=>
Nil a0 fun v6=>
aa 5 v6 fun v7=>
Ld H v7 fun v8=>
ae .num .add a1 (Value.int .i64 1) fun v9=>
ai 1 v8 v9 fun v10=>
Ld H v10 fun v11=>
CF g 134 #[a0,v5,v11] H (fun bt fj=>
DR fj fun R14=>
Nil a0 fun bD=>
aa 0 bD fun bB=>
CF g 136 #[a0,v5,bt] fj (fun bH dW=>
CF g 135 #[bB,bH] dW (fun bN gk=>
Un .not bN fun bQ=>
Br bQ (
R (.returned (Value.bool false)) gk) (
bA bt fun cm=>
∃(Zt:Jt) (m24:Mt),JE Zt [(Value.int .i64 0)] gk∧∀FC:Value,∀gH:Hp,Zt [FC] gH→∀aeD:Fr,
ae .num .lss FC cm fun dg=>
Br dg (
ai 8 bt FC fun cV=>
aC 8 gH cV fun v30=>
bg gH (.cells #[(Value.int .u32 0),(Value.int .i64 0),(Value.int .u32 0),(Value.int .u32 0),(Value.int .u32 0),(Value.int .u32 0),(Value.int .u32 0),(Value.int .u32 0)] 203 (0,0)) fun zu rU=>
St 8 rU (pt zu) v30 fun mc=>
DR mc fun PO=>
Nil a0 fun fJ=>
aa 0 fJ fun eW=>
aa 1 eW fun eP=>
Ld PO eP fun ia=>
aa 1 (pt zu) fun iC=>
aC 3 PO iC fun jy=>
CF g 137 #[ia,jy] mc (fun gy BM=>
ae .num .add FC (Value.int .i64 1) fun iN=>
aF Zt m24 [iN] BM [FC] gH) bn) (
bA bt fun jx=>
∃(Zn:Jt) (m46:Mt),JE Zn [(Value.int .i64 0)] gH∧∀Q5:Value,∀vy:Hp,Zn [Q5] vy→∀YA:Fr,
ae .num .lss Q5 jx fun lW=>
Br lW (
ai 8 bt Q5 fun j9=>
aC 8 vy j9 fun ki=>
bg vy (.cells #[(Value.int .u32 0),(Value.int .i64 0),(Value.int .u32 0),(Value.int .u32 0),(Value.int .u32 0),(Value.int .u32 0),(Value.int .u32 0),(Value.int .u32 0)] 203 (0,0)) fun M9 FW=>
St 8 FW (pt M9) ki fun L7=>
DR L7 fun R56=>
Nil a0 fun sU=>
aa 0 sU fun ua=>
aa 4 (pt M9) fun sj=>
Ld R56 sj fun qj=>
aa 6 (pt M9) fun qi=>
Ld R56 qi fun sS=>
CF g 138 #[ua,v5,qj,sS] L7 (fun qh FV=>
Nil a0 fun pw=>
aa 0 pw fun si=>
CF g 139 #[si,qh] FV (fun tZ Q1=>
DR Q1 fun R69=>
Nil a0 fun rY=>
aa 0 rY fun vO=>
aa 5 (pt M9) fun sg=>
Ld R69 sg fun yo=>
aa 7 (pt M9) fun DJ=>
Ld R69 DJ fun sb=>
CF g 138 #[vO,v5,yo,sb] Q1 (fun xZ Fx=>
Nil a0 fun r9=>
aa 0 r9 fun tY=>
CF g 139 #[tY,xZ] Fx (fun FG H81=>
Build Tryz.prog 161 [(0,v11),(1,qh),(2,xZ)] fun tX=>
bg H81 (.cells #[(Value.int .i64 0),(Value.int .u32 0),(Value.int .u32 0)] 161 (0,0)) fun U8 ZC=>
St 3 ZC (pt U8) tX fun H85=>
DR H85 fun Y1=>
Nil a0 fun Gc=>
aa 0 Gc fun Gb=>
aa 0 Gb fun B0=>
Ld Y1 B0 fun yl=>
aa 0 (pt M9) fun sQ=>
Ld Y1 sQ fun yj=>
aC 3 Y1 (pt U8) fun FE=>
CF g 140 #[yl,yj,FE] H85 (fun Ju P8=>
DR P8 fun Y0=>
Nil a0 fun Q8=>
aa 0 Q8 fun JZ=>
aa 1 JZ fun Np=>
Ld Y0 Np fun vS=>
aC 3 Y0 (pt U8) fun Gn=>
aa 0 (pt M9) fun qp=>
Ld Y0 qp fun qo=>
CF g 141 #[vS,Gn,qo] P8 (fun vR ZS=>
ae .num .add Q5 (Value.int .i64 1) fun uk=>
aF Zn m46 [uk] ZS [Q5] vy) bn) bn) (an R)) bn) (an R)) bn) (
bA bt fun pz=>
∃(P6:Jt) (WO:Mt),JE P6 [(Value.int .i64 0)] vy∧∀F6:Value,∀Fy:Hp,P6 [F6] Fy→∀abg:Fr,
ae .num .lss F6 pz fun yu=>
Br yu (
ai 8 bt F6 fun ug=>
aC 8 Fy ug fun uf=>
bg Fy (.cells #[(Value.int .u32 0),(Value.int .i64 0),(Value.int .u32 0),(Value.int .u32 0),(Value.int .u32 0),(Value.int .u32 0),(Value.int .u32 0),(Value.int .u32 0)] 203 (0,0)) fun LP Qe=>
St 8 Qe (pt LP) uf fun Uq=>
DR Uq fun Y8=>
Nil a0 fun ue=>
aa 0 ue fun yq=>
aa 1 (pt LP) fun yp=>
aa 1 yp fun ud=>
Ld Y8 ud fun qn=>
CF g 142 #[yq,qn] Uq (fun DK Uo=>
DR Uo fun Y7=>
Nil a0 fun Gk=>
aa 0 Gk fun NB=>
aa 1 (pt LP) fun Gj=>
aa 2 Gj fun Gi=>
Ld Y7 Gi fun NA=>
CF g 142 #[NB,NA] Uo (fun Ka ZP=>
ae .num .add F6 (Value.int .i64 1) fun Gg=>
aF P6 WO [Gg] ZP [F6] Fy) bn) bn) (
DR Fy fun TV=>
Nil a0 fun Gf=>
aa 5 Gf fun J0=>
Ld TV J0 fun Ny=>
Nil a0 fun Nx=>
aa 5 Nx fun Ge=>
Ld TV Ge fun Ws=>
ae .num .add a1 (Value.int .i64 1) fun Wr=>
ai 1 Ny a1 fun Wq=>
St 1 Fy Wq v11 fun ZL=>
ai 1 Ws Wr fun Nw=>
St 1 ZL Nw v5 fun Ul=>
DR Ul fun TU=>
Nil a0 fun Wn=>
aa 6 Wn fun Nu=>
Ld TU Nu fun Nt=>
Nil a0 fun Ns=>
aa 6 Ns fun Wm=>
Ld TU Wm fun Wl=>
ae .num .add a1 (Value.int .i64 1) fun Wk=>
ai 1 Nt v5 fun Wj=>
St 1 Ul Wj Wk fun ZI=>
ai 1 Wl v11 fun Wi=>
St 1 ZI Wi a1 fun ZH=>
R (.returned (Value.bool true)) ZH))))) bn) bn) (an R)
theorem E6(h:L59 g a0 a1 H R):aj Tryz.prog g 59 #[a0,a1] H R:=
 ak (hn:=(.n .e (.n .e (.n .e (.n (.n (.h 0 (List.range 9) [] .e .e) .e) (.n (.n .e (.n (.h 0 [47] [0,1,5,6,7,45,46] (.n .e (.n .e (.n (.n (.n .e (.h 0 (List.range 8) [] .e .e)) .e) .e))) .e) .e)) (.n (.n .e (.n (.h 0 [62] [0,1,5,6,7,60,61] (.n .e (.n .e (.n (.n (.n .e (.n (.h 0 (List.range 10) [] .e .e) (.n .e (.n (.h 0 (List.range 10) [] .e .e) (.n .e (.n .e (.n (.h 0 (List.range 9) [] .e .e) (.h 0 (List.range 9) [] .e .e)))))))) .e) .e))) .e) .e)) (.n (.n .e (.n (.h 0 [119] [0,1,5,6,117,118] (.n .e (.n .e (.n (.n (.n .e (.n (.h 0 (List.range 7) [] .e .e) (.h 0 (List.range 7) [] .e .e))) .e) .e))) .e) .e)) (.n (.h 0 (List.range 17) [] .e .e) (.n (.h 0 (List.range 17) [] .e .e) .e)))))))))) Tryz.func59 h (by kernel_rfl)
def L60(g:Gh)(a0 a1:Value)(H:Hp)(R:Rt):Prop:=
ae .ptr .eql a0 (.pointer none) fun v1=>
Br v1 (
R (.returned (Value.int .i64 10)) H) (
ae .num .lss a1 (Value.int .i64 2) fun v2=>
cw v2 false (fun t3=>
ae .num .gtr a1 (Value.int .i64 4) fun v4=>
(H=H∧v4=Value.bool t3)) (fun t3=>(Value.bool true)=Value.bool t3) fun t3=>∀To:Fr,
Br (Value.bool t3) (
R (.returned (Value.int .i64 1)) H) (
R (.returned (Value.int .i64 0)) H))
theorem E5(h:L60 g a0 a1 H R):aj Tryz.prog g 60 #[a0,a1] H R:=
 ak (hn:=(.n .e (.n (.n (.n .e (.n .e (.n (.h 0 [] [1] .e .e) .e))) .e) .e))) Tryz.func60 h (by kernel_rfl)
def L61(g:Gh)(a0:Value)(H:Hp)(R:Rt):Prop:=
ae .ptr .eql a0 (.pointer none) fun v1=>
Br v1 (
R (.returned (Value.int .i64 0)) H) (
Nil a0 fun v2=>
aa 4 v2 fun v3=>
Ld H v3 fun v4=>
R (.returned v4) H)
theorem E4(h:L61 g a0 H R):aj Tryz.prog g 61 #[a0] H R:=
 ak (hn:=.e) Tryz.func61 h (by kernel_rfl)
def L62(g:Gh)(a0 a1:Value)(H:Hp)(R:Rt):Prop:=
bg H (.cells (Value.cells a0) 26 (0,0)) fun b1 H2=>
DR H2 fun R3=>
Ld R3 (pt b1) fun v4=>
Ld R3 (pt b1) fun v5=>
CF g 15 #[v4] H2 (fun v6 H7=>
aU H7 R3∧
CF g 15 #[v5] H7 (fun v8 H9=>
aU H9 R3∧
Build Tryz.prog 42 [(0,v6),(1,v8)] fun v10=>
Build Tryz.prog 125 [(1,v10)] fun v11=>
bg H9 (.cells (Value.cells v11) 125 (0,0)) fun zv fj=>
aU fj R3∧
CF g 14 #[a1] fj (fun br dy=>
Ext 0 br fun bB=>
Ext 1 br fun bH=>
bg dy (.cells #[(.slice none 0 0)] 25 (0,0)) fun fm jv=>
St 1 jv (pt fm) bB fun gk=>
Nil (pt zv) fun bQ=>
aa 0 bQ fun cm=>
St 1 gk cm (.func (.func 143) #[] #[(pt b1),(pt fm)]) fun jV=>
R (.returned (pt zv)) jV) (an R)) bn) bn
theorem E3(h:L62 g a0 a1 H R):aj Tryz.prog g 62 #[a0,a1] H R:=
 ak (hn:=(.n .e (.n (.h 0 [0,2,1,3,4,5,6,7] [] .e .e) .e))) Tryz.func62 h (by kernel_rfl)
def L63(g:Gh)(a0 a1 a2:Value)(H:Hp)(R:Rt):Prop:=
DR H fun R1=>
Nil a0 fun v2=>
aa 1 v2 fun v3=>
aa 2 v3 fun v4=>
Ld R1 v4 fun v5=>
Nil a0 fun v6=>
aa 0 v6 fun v7=>
Ld R1 v7 fun v8=>
cg Tryz.prog g v8 #[a2] H (fun v9 cT=>
aU cT R1∧
ae .num .add v5 v9 fun v11=>
Nil a0 fun bt=>
aa 1 bt fun aY=>
aa 2 aY fun br=>
St 1 cT br v11 fun dy=>
CF g 15 #[a1] dy (fun bB ej=>
Nil a0 fun cf=>
aa 1 cf fun bN=>
aa 1 bN fun v20=>
St 1 ej v20 bB fun gI=>
R (.returned (.tuple #[])) gI) (an R)) bn
theorem E0(h:L63 g a0 a1 a2 H R):aj Tryz.prog g 63 #[a0,a1,a2] H R:=
 ak (hn:=(.n (.h 0 (List.range 16) [] .e .e) .e)) Tryz.func63 h (by kernel_rfl)
def L64(g:Gh)(a0 a1:Value)(H:Hp)(R:Rt):Prop:=
au Tryz.prog 28 0 [] H fun v1 H2=>
Nil a0 fun v3=>
aa 3 v3 fun v4=>
Ld H2 v4 fun v5=>
App Tryz.prog 57 2 32 (.agg #[(Value.int .i64 0),(.slice none 0 0)]) H2 v1 v5 fun v8 H9=>
App Tryz.prog 57 2 32 (.agg #[(Value.int .i64 0),(.slice none 0 0)]) H9 v8 a1 fun bt fj=>
Nil a0 fun br=>
aa 0 br fun bD=>
Ld fj bD fun bB=>
CF g 13 #[bB] fj (fun bH dW=>
CF g 38 #[bt,bH] dW (fun bN gk=>
Ext 0 bN fun bQ=>
Ext 1 bN fun cm=>
ae .num .neq cm (Value.int .i64 0) fun ca=>
Br ca (
R (.returned (Value.int .i64 (-1))) gk) (
R (.returned bQ) gk)) (an R)) (an R)
theorem EZ(h:L64 g a0 a1 H R):aj Tryz.prog g 64 #[a0,a1] H R:=
 ak (hn:=.e) Tryz.func64 h (by kernel_rfl)
def L65(g:Gh)(a0:Value)(H:Hp)(R:Rt):Prop:=
ae .ptr .eql a0 (.pointer none) fun v1=>
Br v1 (
R (.returned (Value.int .i64 0)) H) (
Nil a0 fun v2=>
aa 0 v2 fun v3=>
aa 0 v3 fun v4=>
Ld H v4 fun v5=>
CF g 146 #[v5] H (fun v6 H7=>
R (.returned v6) H7) (an R))
theorem EY(h:L65 g a0 H R):aj Tryz.prog g 65 #[a0] H R:=
 ak (hn:=.e) Tryz.func65 h (by kernel_rfl)
def L66(g:Gh)(a0 a1 a2 a3:Value)(H:Hp)(R:Rt):Prop:=
bg H (.cells (Value.cells a2) 57 (0,0)) fun b1 H2=>
ae .num .eql a3 (Value.int .i64 0) fun v3=>
Br v3 (
R (.returned (Value.bool false)) H2) (
Nil a0 fun v4=>
aa 0 v4 fun v5=>
Ld H2 v5 fun v6=>
CF g 97 #[v6,a1] H2 (fun v7 H8=>
Ext 0 v7 fun v9=>
Ext 1 v7 fun v10=>
bg H8 (.cells #[(Value.int .i64 0),(Value.int .u32 0),(Value.int .u32 0)] 161 (0,0)) fun zw dI=>
St 3 dI (pt zw) v9 fun fj=>
ae .num .neq v10 (Value.int .i64 0) fun br=>
Br br (
R (.returned (Value.bool false)) fj) (
ae .num .lss a1 (Value.int .u32 2) fun bD=>
Br bD (
Nil a0 fun bB=>
aa 1 bB fun bH=>
Ld fj bH fun cf=>
ae .num .eql a1 (Value.int .u32 1) fun bN=>
CF g 147 #[cf,bN] fj (fun v20 gI=>
Ext 0 v20 fun cm=>
Ext 1 v20 fun ca=>
bg gI (.cells #[(Value.int .i64 0),(.slice none 0 0)] 57 (0,0)) fun PG gj=>
St 2 gj (pt PG) cm fun gH=>
∀yb:Jt,(∀Me:Value,∀me:Hp,(∀Tt:Fr,
R (.returned Me) me)→yb [Me] me)→
ae .num .eql ca (Value.int .i64 0) fun dQ=>
Split dQ true (
aa 0 (pt zw) fun eX=>
Ld gH eX fun fR=>
ae .num .eql fR (Value.int .i64 (-1)) fun fS=>
aA (Value.bool true) fS (Value.bool false) fun fJ=>
Split fJ true (
aC 2 gH (pt PG) fun eW=>
aC 2 gH (pt b1) fun eP=>
CF g 67 #[eW,eP] gH (fun ia FY=>
aA (Value.bool true) ia (Value.bool false) fun jy=>
JE yb [jy] FY) (an R)) (
aA (Value.bool false) undef (Value.bool false) fun gy=>
JE yb [gy] gH)) (
aA (Value.bool false) undef (Value.bool false) fun jr=>
aA jr undef (Value.bool false) fun iN=>
JE yb [iN] gH)) (an R)) (
DR fj fun Y5=>
Nil a0 fun jR=>
aa 0 jR fun kf=>
Ld Y5 kf fun mE=>
aa 0 (pt zw) fun mg=>
Ld Y5 mg fun lX=>
CF g 46 #[mE,lX] fj (fun lW JS=>
aU JS Y5∧
Ext 0 lW fun ki=>
Ext 1 lW fun qm=>
aC 2 JS (pt b1) fun uc=>
aa 0 (pt zw) fun py=>
Ld JS py fun qk=>
CF g 148 #[uc,qk,(Value.bool false)] JS (fun sU r7=>
Ext 0 sU fun sj=>
Ext 1 sU fun qj=>
bg r7 (.cells #[(Value.int .i64 0),(.slice none 0 0)] 57 (0,0)) fun TG Jj=>
St 2 Jj (pt TG) sj fun JR=>
aC 2 JR (pt b1) fun vP=>
aa 0 (pt zw) fun pw=>
Ld JR pw fun si=>
CF g 148 #[vP,si,(Value.bool true)] JR (fun tZ Q1=>
Ext 0 tZ fun qe=>
Ext 1 tZ fun rY=>
bg Q1 (.cells #[(Value.int .i64 0),(.slice none 0 0)] 57 (0,0)) fun TE P9=>
St 2 P9 (pt TE) qe fun tT=>
∀Dx:Jt,(∀Q4:Value,∀rS:Hp,(∀Yw:Fr,
Br Q4 (
R (.returned (Value.bool false)) rS) (
∀Za:Jt,(∀w81:Value,∀QY:Hp,(∀aen:Fr,
R (.returned w81) QY)→Za [w81] QY)→
aa 1 (pt zw) fun tX=>
Ld rS tX fun Gd=>
aC 2 rS (pt TG) fun xX=>
ae .num .sub a3 (Value.int .i64 1) fun sR=>
CF g 66 #[a0,Gd,xX,sR] rS (fun DI JQ=>
Split DI true (
aa 2 (pt zw) fun Gb=>
Ld JQ Gb fun B0=>
aC 2 JQ (pt TE) fun yl=>
ae .num .sub a3 (Value.int .i64 1) fun sQ=>
CF g 66 #[a0,B0,yl,sQ] JQ (fun yj H93=>
aA (Value.bool true) yj (Value.bool false) fun Ju=>
JE Za [Ju] H93) (an R)) (
aA (Value.bool false) undef (Value.bool false) fun Q9=>
JE Za [Q9] JQ)) (an R)))→Dx [Q4] rS)→
ae .num .neq qm (Value.int .i64 0) fun Nq=>
Split Nq false (
ae .num .neq qj (Value.int .i64 0) fun Q8=>
aA (Value.bool false) (Value.bool true) Q8 fun JZ=>
Split JZ false (
ae .num .neq rY (Value.int .i64 0) fun Np=>
aA (Value.bool false) (Value.bool true) Np fun vS=>
Split vS false (
aa 1 (pt zw) fun Gn=>
Ld tT Gn fun qp=>
aa 2 (pt zw) fun qo=>
Ld tT qo fun vR=>
ae .num .eql qp vR fun um=>
aA (Value.bool false) (Value.bool true) um fun uk=>
Split uk false (
aa 1 (pt zw) fun pz=>
Ld tT pz fun NG=>
CF g 149 #[a0,NG,ki] tT (fun uj BP=>
Un .not uj fun yw=>
aA (Value.bool false) (Value.bool true) yw fun uh=>
Split uh false (
aa 2 (pt zw) fun yu=>
Ld BP yu fun ug=>
CF g 149 #[a0,ug,ki] BP (fun uf ZR=>
Un .not uf fun ND=>
aA (Value.bool false) (Value.bool true) ND fun vQ=>
JE Dx [vQ] ZR) (an R)) (
aA (Value.bool true) (Value.bool true) undef fun Wu=>
JE Dx [Wu] BP)) (an R)) (
aA (Value.bool true) (Value.bool true) undef fun ue=>
aA ue (Value.bool true) undef fun yq=>
JE Dx [yq] tT)) (
aA (Value.bool true) (Value.bool true) undef fun yp=>
aA yp (Value.bool true) undef fun ud=>
aA ud (Value.bool true) undef fun qn=>
JE Dx [qn] tT)) (
aA (Value.bool true) (Value.bool true) undef fun DK=>
aA DK (Value.bool true) undef fun Gl=>
aA Gl (Value.bool true) undef fun NC=>
aA NC (Value.bool true) undef fun Gk=>
JE Dx [Gk] tT)) (
aA (Value.bool true) (Value.bool true) undef fun NB=>
aA NB (Value.bool true) undef fun Gj=>
aA Gj (Value.bool true) undef fun Gi=>
aA Gi (Value.bool true) undef fun NA=>
aA NA (Value.bool true) undef fun Ka=>
JE Dx [Ka] tT)) (an R)) (an R)) bn))) (an R))
theorem tR(h:L66 g a0 a1 a2 a3 H R):aj Tryz.prog g 66 #[a0,a1,a2,a3] H R:=
 ak (hn:=(.n .e (.n .e (.n .e (.n .e (.n (.n .e (.n (.n .e (.h 1 [8] [] .e .e)) .e)) (.n (.h 0 (List.range 12) [] .e .e) (.n .e (.n .e (.n (.h 1 [112] [0,3,9,15,17] .e .e) (.h 1 [8] [] .e .e))))))))))) Tryz.func66 h (by kernel_rfl)
def L67(g:Gh)(a0 a1:Value)(H:Hp)(R:Rt):Prop:=
bg H (.cells (Value.cells a0) 57 (0,0)) fun b1 H2=>
bg H2 (.cells (Value.cells a1) 57 (0,0)) fun b3 H4=>
aa 0 (pt b1) fun v5=>
Ld H4 v5 fun v6=>
aa 0 (pt b3) fun v7=>
Ld H4 v7 fun v8=>
ae .num .neq v6 v8 fun v9=>
cw v9 false (fun t10=>
aa 1 (pt b1) fun v11=>
Ld H4 v11 fun bt=>
bA bt fun aY=>
aa 1 (pt b3) fun br=>
Ld H4 br fun bD=>
bA bD fun bB=>
ae .num .neq aY bB fun bH=>
(H4=H4∧bH=Value.bool t10)) (fun t10=>(Value.bool true)=Value.bool t10) fun t10=>∀Ps:Fr,
Br (Value.bool t10) (
R (.returned (Value.bool false)) H4) (
∃(Zw:Jt) (m20:Mt),JE Zw [(Value.int .i64 0)] H4∧∀Jr:Value,∀g7:Hp,Zw [Jr] g7→∀Tv:Fr,
aa 1 (pt b1) fun cK=>
Ld g7 cK fun cy=>
bA cy fun cM=>
ae .num .lss Jr cM fun dh=>
Br dh (
aa 1 (pt b1) fun dg=>
Ld g7 dg fun cV=>
ai 1 cV Jr fun v30=>
Ld g7 v30 fun dQ=>
aa 1 (pt b3) fun eX=>
Ld g7 eX fun fR=>
ai 1 fR Jr fun fS=>
Ld g7 fS fun fJ=>
ae .num .neq dQ fJ fun eW=>
Br eW (
R (.returned (Value.bool false)) g7) (
ae .num .add Jr (Value.int .i64 1) fun eP=>
aF Zw m20 [eP] g7 [Jr] g7)) (
R (.returned (Value.bool true)) g7))
theorem EX(h:L67 g a0 a1 H R):aj Tryz.prog g 67 #[a0,a1] H R:=
 ak (hn:=(.n .e (.n (.n (.h 0 [] [1] .e .e) .e) (.n (.n .e (.n (.h 0 [5] [2,3] .e .e) .e)) .e)))) Tryz.func67 h (by kernel_rfl)
def L68(g:Gh)(a0 a1 a2:Value)(H:Hp)(R:Rt):Prop:=
∃(I1:Jt) (m2:Mt),JE I1 [(Value.int .i64 0)] H∧∀w5:Value,∀H4:Hp,I1 [w5] H4→∀Tr:Fr,
ae .num .add w5 a2 fun v6=>
CF g 61 #[a1] H4 (fun v7 H8=>
ae .num .leq v6 v7 fun v9=>
Br v9 (
CF g 63 #[a0,a1,w5] H8 (fun v10 dB=>
ae .num .add w5 (Value.int .i64 1) fun bt=>
aF I1 m2 [bt] dB [w5] H4) (an R)) (
R (.returned (.tuple #[])) H8)) (an R)
theorem EW(h:L68 g a0 a1 a2 H R):aj Tryz.prog g 68 #[a0,a1,a2] H R:=
 ak (hn:=(.n .e (.n (.h 0 [6] [0,1,2] .e .e) .e))) Tryz.func68 h (by kernel_rfl)
def L75(g:Gh)(a0:Value)(H:Hp)(R:Rt):Prop:=
∀J1:Jt,(∀w4 w5:Value,∀H3:Hp,(∀Tw:Fr,
∀J6:Jt,(∀w9 rX:Value,∀H8:Hp,(∀Tn:Fr,
∀P2:Jt,(∀pN xW:Value,∀fj:Hp,(∀Ls:Fr,
aW .u8 pN fun bB=>
Nf (.string (ByteArray.mk #[0,1,2,2,3,3,3,3,4,4,4,4,4,4,4,4,5,5,5,5,5,5,5,5,5,5,5,5,5,5,5,5,6,6,6,6,6,6,6,6,6,6,6,6,6,6,6,6,6,6,6,6,6,6,6,6,6,6,6,6,6,6,6,6,7,7,7,7,7,7,7,7,7,7,7,7,7,7,7,7,7,7,7,7,7,7,7,7,7,7,7,7,7,7,7,7,7,7,7,7,7,7,7,7,7,7,7,7,7,7,7,7,7,7,7,7,7,7,7,7,7,7,7,7,7,7,7,7,8,8,8,8,8,8,8,8,8,8,8,8,8,8,8,8,8,8,8,8,8,8,8,8,8,8,8,8,8,8,8,8,8,8,8,8,8,8,8,8,8,8,8,8,8,8,8,8,8,8,8,8,8,8,8,8,8,8,8,8,8,8,8,8,8,8,8,8,8,8,8,8,8,8,8,8,8,8,8,8,8,8,8,8,8,8,8,8,8,8,8,8,8,8,8,8,8,8,8,8,8,8,8,8,8,8,8,8,8,8,8,8,8,8,8,8,8,8,8,8,8,8,8,8,8,8,8,8])) bB fun bH=>
aW .i64 bH fun cf=>
ae .num .add xW cf fun bN=>
R (.returned bN) fj)→P2 [pN,xW] fj)→
ae .num .geq w9 (Value.int .u64 256) fun v20=>
Br v20 (
ae .num .shr w9 (Value.int .u64 8) fun bQ=>
ae .num .add rX (Value.int .i64 8) fun cm=>
JE P2 [bQ,cm] H8) (
JE P2 [w9,rX] H8))→J6 [w9,rX] H8)→
ae .num .geq w4 (Value.int .u64 65536) fun ca=>
Br ca (
ae .num .shr w4 (Value.int .u64 16) fun cK=>
ae .num .add w5 (Value.int .i64 16) fun cy=>
JE J6 [cK,cy] H3) (
JE J6 [w4,w5] H3))→J1 [w4,w5] H3)→
ae .num .geq a0 (Value.int .u64 4294967296) fun cM=>
Br cM (
ae .num .shr a0 (Value.int .u64 32) fun dh=>
JE J1 [dh,(Value.int .i64 32)] H) (
JE J1 [a0,(Value.int .i64 0)] H)
theorem EV(h:L75 g a0 H R):aj Tryz.prog g 75 #[a0] H R:=
 ak (hn:=(.n .e (.h 1 [0,2] [] .e (.h 1 [0,2] [] .e (.h 1 [0,2] [] .e .e))))) Tryz.func75 h (by kernel_rfl)
def L95(g:Gh)(a0 a1:Value)(H:Hp)(R:Rt):Prop:=
ae .ptr .eql a0 (.pointer none) fun v1=>
cw v1 false (fun t2=>
aW .i64 a1 fun v3=>
Nil a0 fun v4=>
aa 0 v4 fun v5=>
aa 3 v5 fun v6=>
Ld H v6 fun v7=>
bA v7 fun v8=>
ae .num .geq v3 v8 fun v9=>
(H=H∧v9=Value.bool t2)) (fun t2=>(Value.bool true)=Value.bool t2) fun t2=>∀qR:Fr,
Br (Value.bool t2) (
R (.returned (Value.int .i64 0)) H) (
Nil a0 fun v11=>
aa 0 v11 fun bt=>
aa 3 bt fun aY=>
Ld H aY fun br=>
ai 1 br a1 fun bD=>
Ld H bD fun bB=>
aW .i64 bB fun bH=>
R (.returned bH) H)
theorem EU(h:L95 g a0 a1 H R):aj Tryz.prog g 95 #[a0,a1] H R:=
 ak (hn:=(.n .e (.n (.n (.h 0 [] [1] .e .e) .e) .e))) Tryz.func95 h (by kernel_rfl)
def L97(g:Gh)(a0 a1:Value)(H:Hp)(R:Rt):Prop:=
bg H (.cells #[(Value.int .i64 0),(Value.int .u32 0),(Value.int .u32 0)] 161 (0,0)) fun b1 H2=>
ae .ptr .eql a0 (.pointer none) fun v3=>
Br v3 (
Build Tryz.prog 161 [] fun v4=>
St 3 H2 (pt b1) v4 fun H5=>
aC 3 H5 (pt b1) fun v6=>
R (.returned (.tuple #[v6,(Value.int .i64 10)])) H5) (
Nil a0 fun v7=>
aa 0 v7 fun v8=>
CF g 173 #[v8,a1] H2 (fun v9 cT=>
Un .not v9 fun v11=>
Br v11 (
Build Tryz.prog 161 [] fun bt=>
St 3 cT (pt b1) bt fun fj=>
aC 3 fj (pt b1) fun br=>
R (.returned (.tuple #[br,(Value.int .i64 3)])) fj) (
Nil a0 fun bD=>
aa 0 bD fun bB=>
CF g 174 #[bB,a1] cT (fun bH dW=>
St 3 dW (pt b1) bH fun jv=>
aC 3 jv (pt b1) fun v20=>
R (.returned (.tuple #[v20,(Value.int .i64 0)])) jv) (an R))) (an R))
theorem ET(h:L97 g a0 a1 H R):aj Tryz.prog g 97 #[a0,a1] H R:=
 ak (hn:=.e) Tryz.func97 h (by kernel_rfl)
def L99(g:Gh)(a0 a1:Value)(H:Hp)(R:Rt):Prop:=
CF g 175 #[a0] H (fun v1 H2=>
Un .not v1 fun v3=>
Br v3 (
R (.returned (.tuple #[(.slice none 0 0),(Value.int .i64 5)])) H2) (
∀J4:Jt,(∀w7:Value,∀H6:Hp,(∀To:Fr,
Br w7 (
R (.returned (.tuple #[(.slice none 0 0),(Value.int .i64 4)])) H6) (
bA a1 fun v8=>
ae .num .gtr v8 (Value.int .i64 16) fun v9=>
Br v9 (
R (.returned (.tuple #[(.slice none 0 0),(Value.int .i64 6)])) H6) (
CF g 176 #[a0] H6 (fun v10 dB=>
bA a1 fun bt=>
∃(P5:Jt) (WM:Mt),JE P5 [(.slice none 0 0),v10,(Value.int .i64 0)] dB∧∀qd gZ BY:Value,∀jQ:Hp,P5 [qd,gZ,BY] jQ→∀YI:Fr,
ae .num .lss BY bt fun v20=>
Br v20 (
ai 1 a1 BY fun bQ=>
Ld jQ bQ fun cm=>
CF g 177 #[gZ,cm] jQ (fun ca iL=>
Ext 0 ca fun cy=>
Ext 1 ca fun cM=>
au Tryz.prog 25 1 [(0,cM)] iL fun dh tU=>
App Tryz.prog 3 1 8 (Value.int .i64 0) tU qd dh fun dQ rU=>
ae .num .add BY (Value.int .i64 1) fun fR=>
aF P5 WM [dQ,cy,fR] rU [qd,gZ,BY] jQ) (an R)) (
R (.returned (.tuple #[qd,(Value.int .i64 0)])) jQ)) (an R))))→J4 [w7] H6)→
bA a0 fun fS=>
ae .num .gtr fS (Value.int .i64 0) fun fJ=>
Split fJ true (
bA a1 fun eW=>
ai 2 a0 (Value.int .i64 0) fun eP=>
aa 0 eP fun ia=>
Ld H2 ia fun iC=>
ae .num .neq eW iC fun jy=>
aA (Value.bool true) jy (Value.bool false) fun gy=>
Split gy false (
CF g 101 #[a1] H2 (fun jr mY=>
ae .num .eql jr (Value.int .i64 4) fun jx=>
aA (Value.bool false) (Value.bool true) jx fun jR=>
JE J4 [jR] mY) (an R)) (
aA (Value.bool true) (Value.bool true) undef fun kf=>
JE J4 [kf] H2)) (
aA (Value.bool false) undef (Value.bool false) fun mE=>
CF g 101 #[a1] H2 (fun mg sL=>
ae .num .eql mg (Value.int .i64 4) fun lW=>
aA mE (Value.bool true) lW fun j9=>
JE J4 [j9] sL) (an R)))) (an R)
theorem ES(h:L99 g a0 a1 H R):aj Tryz.prog g 99 #[a0,a1] H R:=
 ak (hn:=(.n .e (.n .e (.n (.h 1 [31] [0,1] .e .e) (.n .e (.n .e (.n .e (.n (.n .e (.n (.h 0 [6,7,39] [37,38] .e .e) .e)) .e)))))))) Tryz.func99 h (by kernel_rfl)
def L101(g:Gh)(a0:Value)(H:Hp)(R:Rt):Prop:=
bA a0 fun v1=>
cW 4 1 1 (Value.bool false) H v1 v1 fun v2 H3=>
bA a0 fun v4=>
∃(I5:Jt) (m6:Mt),JE I5 [(Value.int .i64 0)] H3∧∀w9:Value,∀H8:Hp,I5 [w9] H8→∀Tn:Fr,
ae .num .lss w9 v4 fun v10=>
Br v10 (
ai 1 a0 w9 fun v11=>
Ld H8 v11 fun bt=>
ae .num .lss bt (Value.int .i64 0) fun aY=>
cw aY false (fun t14=>
bA a0 fun bD=>
ae .num .geq bt bD fun bB=>
(H8=H8∧bB=Value.bool t14)) (fun t14=>(Value.bool true)=Value.bool t14) fun t14=>∀Pt:Fr,
cw (Value.bool t14) false (fun t18=>
ai 1 v2 bt fun bN=>
Ld H8 bN fun v20=>
(H8=H8∧v20=Value.bool t18)) (fun t18=>(Value.bool true)=Value.bool t18) fun t18=>∀Tv:Fr,
Br (Value.bool t18) (
R (.returned (Value.int .i64 4)) H8) (
ai 1 v2 bt fun cm=>
St 1 H8 cm (Value.bool true) fun jV=>
ae .num .add w9 (Value.int .i64 1) fun cK=>
aF I5 m6 [cK] jV [w9] H8)) (
bA a0 fun cy=>
ae .num .gtr cy (Value.int .i64 64) fun cM=>
Br cM (
R (.returned (Value.int .i64 13)) H8) (
R (.returned (Value.int .i64 0)) H8))
theorem BI(h:L101 g a0 H R):aj Tryz.prog g 101 #[a0] H R:=
 ak (hn:=(.n .e (.n .e (.n (.n .e (.n (.h 0 [11] [0,3,9,10] (.n .e (.n .e (.n (.n (.n .e (.n (.n (.h 0 [] [1] .e .e) .e) .e)) .e) .e))) .e) .e)) .e)))) Tryz.func101 h (by kernel_rfl)
def L113(g:Gh)(a0 a1:Value)(H:Hp)(R:Rt):Prop:=
ae .num .geq a1 (Value.int .i64 0) fun v1=>
cw v1 true (fun t2=>
Nil a0 fun v3=>
aa 4 v3 fun v4=>
Ld H v4 fun v5=>
ae .num .lss a1 v5 fun v6=>
(H=H∧v6=Value.bool t2)) (fun t2=>(Value.bool false)=Value.bool t2) fun t2=>∀Tn:Fr,
R (.returned (Value.bool t2)) H
theorem BH(h:L113 g a0 a1 H R):aj Tryz.prog g 113 #[a0,a1] H R:=
 ak (hn:=(.n .e (.n (.h 0 [] [1] .e .e) .e))) Tryz.func113 h (by kernel_rfl)
def L116(g:Gh)(a0:Value)(H:Hp)(R:Rt):Prop:=
ae .num .lss a0 (Value.int .i64 0) fun v1=>
cw v1 false (fun t2=>
ae .num .gtr a0 (Value.int .i64 64) fun v3=>
(H=H∧v3=Value.bool t2)) (fun t2=>(Value.bool true)=Value.bool t2) fun t2=>∀JL:Fr,
Br (Value.bool t2) (
R (.returned (.tuple #[(.slice none 0 0),(Value.int .i64 1)])) H) (
CF g 185 #[a0] H (fun v5 H6=>
R (.returned (.tuple #[v5,(Value.int .i64 0)])) H6) (an R))
theorem BG(h:L116 g a0 H R):aj Tryz.prog g 116 #[a0] H R:=
 ak (hn:=(.n .e (.n (.n (.h 0 [] [1] .e .e) .e) .e))) Tryz.func116 h (by kernel_rfl)
def L117(g:Gh)(a0:Value)(H:Hp)(R:Rt):Prop:=
ae .num .lss a0 (Value.int .i64 1) fun v1=>
cw v1 false (fun t2=>
ae .num .gtr a0 (Value.int .i64 64) fun v3=>
(H=H∧v3=Value.bool t2)) (fun t2=>(Value.bool true)=Value.bool t2) fun t2=>∀JL:Fr,
Br (Value.bool t2) (
R (.returned (.tuple #[(.pointer none),(Value.int .i64 1)])) H) (
cW 266 1 8 (.map none) H a0 a0 fun v5 H6=>
Build Tryz.prog 265 [(0,v5)] fun v7=>
bg H6 (.cells (Value.cells v7) 265 (0,0)) fun b8 H9=>
∃(P7:Jt) (WN:Mt),JE P7 [(Value.int .i64 0)] H9∧∀pN:Value,∀fj:Hp,P7 [pN] fj→∀Ls:Fr,
ae .num .lss pN a0 fun bD=>
Br bD (
Nil (pt b8) fun bB=>
aa 0 bB fun bH=>
Ld fj bH fun cf=>
n8 fj fun bN gk=>
ai 1 cf pN fun bQ=>
St 1 gk bQ bN fun g7=>
ae .num .add pN (Value.int .i64 1) fun ca=>
aF P7 WN [ca] g7 [pN] fj) (
R (.returned (.tuple #[(pt b8),(Value.int .i64 0)])) fj))
theorem BF(h:L117 g a0 H R):aj Tryz.prog g 117 #[a0] H R:=
 ak (hn:=(.n .e (.n (.n (.h 0 [] [1] .e .e) .e) (.n .e (.n (.n .e (.n (.h 0 [17] [4,16] .e .e) .e)) .e))))) Tryz.func117 h (by kernel_rfl)
def L118(g:Gh)(a0 a1:Value)(H:Hp)(R:Rt):Prop:=
bg H (.cells #[(.pointer none),(.pointer none),(.slice none 0 0),(.slice none 0 0)] 115 (0,0)) fun b1 H2=>
CF g 186 #[a0] H2 (fun v3 H4=>
Ext 0 v3 fun v5=>
Ext 1 v3 fun v6=>
Build Tryz.prog 115 [(0,v5),(1,a1)] fun v7=>
St 4 H4 (pt b1) v7 fun H8=>
aC 4 H8 (pt b1) fun v9=>
R (.returned (.tuple #[v9,v6])) H8) (an R)
theorem BE(h:L118 g a0 a1 H R):aj Tryz.prog g 118 #[a0,a1] H R:=
 ak (hn:=.e) Tryz.func118 h (by kernel_rfl)
end Go.Proofs
set_option maxRecDepth 100000
namespace Go.Proofs
open Go Go.Sx
variable {g:Gh} {a0 a1 a2 a3 a4 a5 a6 a7 a8 a9 pI pH TQ TP TO TN:Value} {H:Hp} {R:Rt}
def L121(g:Gh)(a0 a1:Value)(H:Hp)(R:Rt):Prop:=
ae .ptr .eql a0 (.pointer none) fun v1=>
Br v1 (
R (.returned (Value.int .i64 10)) H) (
Nil a0 fun v2=>
aa 0 v2 fun v3=>
CF g 173 #[v3,a1] H (fun v4 H5=>
Un .not v4 fun v6=>
Br v6 (
R (.returned (Value.int .i64 3)) H5) (
∀J7:Jt,(∀H9:Hp,(∀MY:Fr,
Nil a0 fun v10=>
aa 7 v10 fun v11=>
St 1 H9 v11 (.slice none 0 0) fun dI=>
R (.returned (Value.int .i64 0)) dI)→J7 [] H9)→
ae .num .gtr a1 (Value.int .u32 1) fun aY=>
Br aY (
Nil a0 fun br=>
aa 0 br fun bD=>
aa 3 bD fun bB=>
Ld H5 bB fun bH=>
ai 1 bH a1 fun cf=>
Ld H5 cf fun bN=>
ae .num .eql bN (Value.int .i32 65535) fun v20=>
Br v20 (
R (.returned (Value.int .i64 8)) H5) (
Nil a0 fun bQ=>
aa 0 bQ fun cm=>
aa 3 cm fun ca=>
Ld H5 ca fun cK=>
ai 1 cK a1 fun cy=>
Ld H5 cy fun cM=>
ae .num .add cM (Value.int .i32 1) fun dh=>
ai 1 cK a1 fun dg=>
St 1 H5 dg dh fun me=>
Nil a0 fun v30=>
aa 0 v30 fun dQ=>
aa 3 dQ fun eX=>
Ld me eX fun fR=>
ai 1 fR a1 fun fS=>
Ld me fS fun fJ=>
ae .num .eql fJ (Value.int .i32 1) fun eW=>
Br eW (
Nil a0 fun eP=>
aa 0 eP fun ia=>
aa 2 ia fun iC=>
Ld me iC fun jy=>
ai 1 jy a1 fun gy=>
Ld me gy fun jr=>
ae .num .add jr (Value.int .i32 1) fun iN=>
ai 1 jy a1 fun jx=>
St 1 me jx iN fun Qb=>
JE J7 [] Qb) (
JE J7 [] me))) (
JE J7 [] H5))) (an R))
theorem rR(h:L121 g a0 a1 H R):aj Tryz.prog g 121 #[a0,a1] H R:=
 ak (hn:=(.n .e (.n .e (.h 1 [] [0] .e .e)))) Tryz.func121 h (by kernel_rfl)
def L126(g:Gh)(a0 a1:Value)(H:Hp)(R:Rt):Prop:=
bg H (.cells #[(Value.int .i64 0),(.slice none 0 0)] 57 (0,0)) fun b1 H2=>
aW .i64 a1 fun v3=>
Nil a0 fun v4=>
aa 2 v4 fun v5=>
Ld H2 v5 fun v6=>
bA v6 fun v7=>
ae .num .add v7 (Value.int .i64 2) fun v8=>
ae .num .rem v3 v8 fun v9=>
ae .num .lss v9 (Value.int .i64 2) fun v10=>
Br v10 (
Nil a0 fun v11=>
aa 1 v11 fun bt=>
Ld H2 bt fun aY=>
ae .num .eql v9 (Value.int .i64 1) fun br=>
CF g 147 #[aY,br] H2 (fun bD jQ=>
Ext 0 bD fun bH=>
Ext 1 bD fun cf=>
bg jQ (.cells #[(Value.int .i64 0),(.slice none 0 0)] 57 (0,0)) fun LN gk=>
St 2 gk (pt LN) bH fun gI=>
DR gI fun PS=>
aW .u32 v9 fun ca=>
aC 2 PS (pt LN) fun cK=>
St 2 gI (pt b1) cK fun gj=>
aC 2 gj (pt b1) fun cM=>
R (.returned (.tuple #[ca,cM])) gj) (an R)) (
DR H2 fun JP=>
Nil a0 fun dg=>
aa 2 dg fun cV=>
Ld JP cV fun v30=>
ae .num .sub v9 (Value.int .i64 2) fun dQ=>
ai 1 v30 dQ fun eX=>
Ld JP eX fun fR=>
Nil a0 fun fS=>
aa 3 fS fun fJ=>
Ld JP fJ fun eW=>
ae .num .sub v9 (Value.int .i64 2) fun eP=>
ai 2 eW eP fun ia=>
aC 2 JP ia fun iC=>
St 2 H2 (pt b1) iC fun l9=>
aC 2 l9 (pt b1) fun gy=>
R (.returned (.tuple #[fR,gy])) l9)
theorem BD(h:L126 g a0 a1 H R):aj Tryz.prog g 126 #[a0,a1] H R:=
 ak (hn:=(.n .e (.n .e (.n (.n .e (.n (.n .e (.n (.h 0 (List.range 5) [] .e .e) .e)) .e)) (.n (.h 0 (List.range 18) [] .e .e) .e))))) Tryz.func126 h (by kernel_rfl)
def L127(g:Gh)(a0 a1 a2 a3 a4:Value)(H:Hp)(R:Rt):Prop:=
bg H (.cells (Value.cells a1) 106 (0,0)) fun b1 H2=>
bg H2 (.cells (Value.cells a2) 57 (0,0)) fun b3 H4=>
bg H4 (.cells (Value.cells a3) 57 (0,0)) fun b5 H6=>
bg H6 (.cells (Value.cells a4) 57 (0,0)) fun b7 H8=>
bg H8 (.cells #[(Value.int .i64 0),(.slice none 0 0)] 57 (0,0)) fun b9 cT=>
aa 1 (pt b1) fun v11=>
Ld cT v11 fun bt=>
aW .i64 bt fun aY=>
Nil a0 fun br=>
aa 1 br fun bD=>
Ld cT bD fun bB=>
ae .num .rem aY bB fun bH=>
Nil a0 fun cf=>
aa 1 cf fun bN=>
Ld cT bN fun v20=>
CF g 153 #[v20,bH] cT (fun bQ g7=>
Ext 0 bQ fun ca=>
Ext 1 bQ fun cK=>
bg g7 (.cells #[(Value.int .i64 0),(.slice none 0 0)] 57 (0,0)) fun Dj gH=>
St 2 gH (pt Dj) ca fun iR=>
aC 2 iR (pt b3) fun dg=>
CF g 148 #[dg,bH,(Value.bool false)] iR (fun cV p9=>
Ext 0 cV fun dQ=>
Ext 1 cV fun eX=>
bg p9 (.cells #[(Value.int .i64 0),(.slice none 0 0)] 57 (0,0)) fun oQ vz=>
St 2 vz (pt oQ) dQ fun rT=>
aC 2 rT (pt b3) fun eW=>
CF g 148 #[eW,bH,(Value.bool true)] rT (fun eP r8=>
Ext 0 eP fun iC=>
Ext 1 eP fun jy=>
bg r8 (.cells #[(Value.int .i64 0),(.slice none 0 0)] 57 (0,0)) fun Di BM=>
St 2 BM (pt Di) iC fun mY=>
aa 0 (pt b1) fun jx=>
Ld mY jx fun jR=>
ae .num .rem jR (Value.int .u8 9) fun kf=>
ae .num .eql kf (Value.int .u8 0) fun mE=>
Br mE (
aC 2 mY (pt Dj) fun mg=>
St 2 mY (pt b9) mg fun sL=>
aC 2 sL (pt b9) fun lW=>
R (.returned (.tuple #[lW,(Value.int .i64 0)])) sL) (
ae .num .eql kf (Value.int .u8 1) fun j9=>
Br j9 (
aC 2 mY (pt b3) fun ki=>
CF g 193 #[ki] mY (fun qm FW=>
Ext 0 qm fun py=>
Ext 1 qm fun qk=>
St 2 FW (pt b9) py fun BL=>
aC 2 BL (pt b9) fun ua=>
R (.returned (.tuple #[ua,qk])) BL) (an R)) (
∀Zb:Jt,(∀w62:Value,∀pL:Hp,(∀Yz:Fr,
Br w62 (
aa 5 (pt b1) fun qh=>
Ld pL qh fun vP=>
ae .num .rem vP (Value.int .u64 16) fun pw=>
aW .u8 pw fun si=>
aC 2 pL (pt b3) fun tZ=>
aC 2 pL (pt b5) fun qg=>
CF g 194 #[si,tZ,qg] pL (fun qe Q0=>
Ext 0 qe fun vO=>
Ext 1 qe fun sg=>
St 2 Q0 (pt b9) vO fun tT=>
aC 2 tT (pt b9) fun DJ=>
R (.returned (.tuple #[DJ,sg])) tT) (an R)) (
ae .num .eql kf (Value.int .u8 4) fun sb=>
Br sb (
aC 2 pL (pt b3) fun xZ=>
aC 2 pL (pt b5) fun ym=>
aC 2 pL (pt b7) fun r9=>
CF g 154 #[xZ,ym,r9] pL (fun tY QY=>
Ext 0 tY fun xY=>
Ext 1 tY fun tX=>
St 2 QY (pt b9) xY fun yc=>
aC 2 yc (pt b9) fun xX=>
R (.returned (.tuple #[xX,tX])) yc) (an R)) (
ae .num .eql kf (Value.int .u8 5) fun sR=>
Br sR (
aC 2 pL (pt b3) fun DI=>
aa 5 (pt b1) fun Gc=>
Ld pL Gc fun Gb=>
ae .num .rem Gb (Value.int .u64 2) fun B0=>
ae .num .eql B0 (Value.int .u64 1) fun yl=>
CF g 148 #[DI,bH,yl] pL (fun sQ ZB=>
Ext 0 sQ fun FE=>
Ext 1 sQ fun Ju=>
St 2 ZB (pt b9) FE fun P8=>
aC 2 P8 (pt b9) fun Nq=>
R (.returned (.tuple #[Nq,Ju])) P8) (an R)) (
ae .num .eql kf (Value.int .u8 6) fun Q8=>
Br Q8 (
aC 2 pL (pt oQ) fun JZ=>
aC 2 pL (pt Di) fun Np=>
CF g 194 #[(Value.int .u8 14),JZ,Np] pL (fun vS ZT=>
Ext 0 vS fun qp=>
Ext 1 vS fun qo=>
St 2 ZT (pt b9) qp fun Us=>
aC 2 Us (pt b9) fun um=>
R (.returned (.tuple #[um,qo])) Us) (an R)) (
ae .num .eql kf (Value.int .u8 7) fun uk=>
Br uk (
aC 2 pL (pt oQ) fun pz=>
aC 2 pL (pt Di) fun NG=>
CF g 194 #[(Value.int .u8 8),pz,NG] pL (fun uj BP=>
Ext 0 uj fun yw=>
Ext 1 uj fun uh=>
St 2 BP (pt b9) yw fun Ur=>
aC 2 Ur (pt b9) fun ug=>
R (.returned (.tuple #[ug,uh])) Ur) (an R)) (
aC 2 pL (pt b5) fun uf=>
aC 2 pL (pt Di) fun Gm=>
aC 2 pL (pt oQ) fun ND=>
CF g 154 #[uf,Gm,ND] pL (fun vQ BO=>
Ext 0 vQ fun ue=>
Ext 1 vQ fun yq=>
St 2 BO (pt b9) ue fun Up=>
aC 2 Up (pt b9) fun ud=>
R (.returned (.tuple #[ud,yq])) Up) (an R)))))))→Zb [w62] pL)→
ae .num .eql kf (Value.int .u8 2) fun qn=>
Br qn (
JE Zb [qn] mY) (
ae .num .eql kf (Value.int .u8 3) fun DK=>
JE Zb [DK] mY)))) (an R)) (an R)) (an R)
theorem BC(h:L127 g a0 a1 a2 a3 a4 H R):aj Tryz.prog g 127 #[a0,a1,a2,a3,a4] H R:=
 ak (hn:=(.n .e (.n .e (.n .e (.n .e (.n .e (.n (.n .e (.n (.n .e (.n .e (.n .e (.n .e (.h 1 [60] [6,7,8,9,10,12,15,17,50] .e .e))))) .e)) .e))))))) Tryz.func127 h (by kernel_rfl)
def L128(g:Gh)(a0 a1 a2 a3 a4:Value)(H:Hp)(R:Rt):Prop:=
bg H (.cells (Value.cells a1) 106 (0,0)) fun b1 H2=>
aa 1 (pt b1) fun v3=>
Ld H2 v3 fun v4=>
aW .i64 v4 fun v5=>
Nil a0 fun v6=>
aa 1 v6 fun v7=>
Ld H2 v7 fun v8=>
ae .num .rem v5 v8 fun v9=>
aa 0 (pt b1) fun v10=>
Ld H2 v10 fun v11=>
ae .num .rem v11 (Value.int .u8 9) fun bt=>
ae .num .eql bt (Value.int .u8 0) fun aY=>
Br aY (
Nil a0 fun br=>
aa 0 br fun bD=>
Ld H2 bD fun bB=>
CF g 195 #[bB,v9] H2 (fun bH dW=>
Ext 0 bH fun bN=>
Ext 1 bH fun v20=>
R (.returned (.tuple #[bN,v20])) dW) (an R)) (
ae .num .eql bt (Value.int .u8 1) fun bQ=>
Br bQ (
Nil a0 fun cm=>
aa 0 cm fun ca=>
Ld H2 ca fun cK=>
CF g 196 #[cK,a2] H2 (fun cy gH=>
Ext 0 cy fun dh=>
Ext 1 cy fun dg=>
R (.returned (.tuple #[dh,dg])) gH) (an R)) (
∀Ze:Jt,(∀vC:Value,∀ju:Hp,(∀Pr:Fr,
Br vC (
DR ju fun QO=>
Nil a0 fun fS=>
aa 0 fS fun fJ=>
Ld QO fJ fun eW=>
aa 5 (pt b1) fun eP=>
Ld QO eP fun ia=>
ae .num .rem ia (Value.int .u64 16) fun iC=>
aW .u8 iC fun jy=>
CF g 197 #[eW,jy,a2,a3] ju (fun gy BM=>
aU BM QO∧
Ext 0 gy fun iN=>
Ext 1 gy fun jx=>
R (.returned (.tuple #[iN,jx])) BM) bn) (
ae .num .eql bt (Value.int .u8 4) fun jR=>
Br jR (
Nil a0 fun kf=>
aa 0 kf fun mE=>
Ld ju mE fun mg=>
CF g 198 #[mg,a2,a3,a4] ju (fun lX Jk=>
Ext 0 lX fun j9=>
Ext 1 lX fun ki=>
R (.returned (.tuple #[j9,ki])) Jk) (an R)) (
ae .num .eql bt (Value.int .u8 5) fun qm=>
Br qm (
DR ju fun Y3=>
Nil a0 fun py=>
aa 0 py fun qk=>
Ld Y3 qk fun sU=>
aa 5 (pt b1) fun ua=>
Ld Y3 ua fun sj=>
ae .num .rem sj (Value.int .u64 2) fun qj=>
ae .num .eql qj (Value.int .u64 1) fun qi=>
CF g 199 #[sU,a2,v9,qi] ju (fun sS JR=>
aU JR Y3∧
Ext 0 sS fun vP=>
Ext 1 sS fun pw=>
R (.returned (.tuple #[vP,pw])) JR) bn) (
ae .num .eql bt (Value.int .u8 6) fun si=>
Br si (
DR ju fun zE=>
Nil a0 fun qg=>
aa 0 qg fun qe=>
Ld zE qe fun rY=>
ae .num .shl (Value.int .u64 1) v9 fun vO=>
CF g 200 #[rY,a2,vO] ju (fun sg tT=>
aU tT zE∧
Ext 0 sg fun DJ=>
Ext 1 sg fun sb=>
R (.returned (.tuple #[DJ,sb])) tT) bn) (
ae .num .eql bt (Value.int .u8 7) fun xZ=>
Br xZ (
DR ju fun R77=>
Nil a0 fun r9=>
aa 0 r9 fun tY=>
Ld R77 tY fun FG=>
ae .num .shl (Value.int .u64 1) v9 fun xY=>
CF g 201 #[FG,a2,xY] ju (fun tX yc=>
aU yc R77∧
Ext 0 tX fun xX=>
Ext 1 tX fun sR=>
R (.returned (.tuple #[xX,sR])) yc) bn) (
Nil a0 fun DI=>
aa 0 DI fun Gc=>
Ld ju Gc fun Gb=>
CF g 202 #[Gb,a2,v9,a3] ju (fun B0 Vb=>
Ext 0 B0 fun sQ=>
Ext 1 B0 fun yj=>
R (.returned (.tuple #[sQ,yj])) Vb) (an R)))))))→Ze [vC] ju)→
ae .num .eql bt (Value.int .u8 2) fun FE=>
Br FE (
JE Ze [FE] H2) (
ae .num .eql bt (Value.int .u8 3) fun Ju=>
JE Ze [Ju] H2)))
theorem BB(h:L128 g a0 a1 a2 a3 a4 H R):aj Tryz.prog g 128 #[a0,a1,a2,a3,a4] H R:=
 ak (hn:=(.n .e (.n .e (.n (.n .e (.n (.n .e (.n .e (.n .e (.n .e (.h 1 [44] [0,2,3,4,6,12,23] .e (.n (.n (.h 0 (List.range 15) [] .e .e) .e) (.n .e (.n .e (.n .e (.n (.n (.h 0 (List.range 15) [] .e .e) .e) (.n .e (.n (.n (.h 0 (List.range 12) [] .e .e) .e) (.n .e (.n (.n (.h 0 (List.range 12) [] .e .e) .e) .e)))))))))))))) .e)) .e)))) Tryz.func128 h (by kernel_rfl)
def L129(g:Gh)(a0 a1 a2:Value)(H:Hp)(R:Rt):Prop:=
bg H (.cells (Value.cells a2) 57 (0,0)) fun b1 H2=>
ae .num .gtr a1 (Value.int .u32 1) fun v3=>
Br v3 (
Nil a0 fun v4=>
aa 2 v4 fun v5=>
Ld H2 v5 fun v6=>
au Tryz.prog 27 1 [(0,a1)] H2 fun v7 H8=>
App Tryz.prog 77 1 4 (Value.int .u32 0) H8 v6 v7 fun v11 dI=>
Nil a0 fun aY=>
aa 2 aY fun br=>
St 1 dI br v11 fun dy=>
DR dy fun Ng=>
Nil a0 fun bH=>
aa 3 bH fun cf=>
Ld Ng cf fun bN=>
aC 2 Ng (pt b1) fun v20=>
au Tryz.prog 28 1 [(0,v20)] dy fun bQ g7=>
aU g7 Ng∧
App Tryz.prog 57 2 32 (.agg #[(Value.int .i64 0),(.slice none 0 0)]) g7 bN bQ fun cy gH=>
aU gH Ng∧
Nil a0 fun dh=>
aa 3 dh fun dg=>
St 1 gH dg cy fun me=>
R (.returned (.tuple #[])) me) (
R (.returned (.tuple #[])) H2)
theorem rQ(h:L129 g a0 a1 a2 H R):aj Tryz.prog g 129 #[a0,a1,a2] H R:=
 ak (hn:=(.n .e (.n .e (.n (.n .e (.h 0 (List.range 11) [] .e .e)) .e)))) Tryz.func129 h (by kernel_rfl)
def L131(g:Gh)(a0 a1:Value)(H:Hp)(R:Rt):Prop:=
ae .ptr .eql a0 (.pointer none) fun v1=>
Br v1 (
R (.returned (Value.int .i64 10)) H) (
∀J2:Jt,(∀H4:Hp,(∀Tr:Fr,
Nil a0 fun v5=>
aa 7 v5 fun v6=>
St 1 H4 v6 (.slice none 0 0) fun H7=>
R (.returned (Value.int .i64 0)) H7)→J2 [] H4)→
ae .num .gtr a1 (Value.int .u32 1) fun v8=>
Br v8 (
CF g 95 #[a0,a1] H (fun v9 cT=>
ae .num .eql v9 (Value.int .i64 0) fun v11=>
Br v11 (
R (.returned (Value.int .i64 3)) cT) (
Nil a0 fun bt=>
aa 0 bt fun aY=>
aa 3 aY fun br=>
Ld cT br fun bD=>
ai 1 bD a1 fun bB=>
Ld cT bB fun bH=>
ae .num .sub bH (Value.int .i32 1) fun cf=>
ai 1 bD a1 fun bN=>
St 1 cT bN cf fun gk=>
Nil a0 fun bQ=>
aa 0 bQ fun cm=>
aa 3 cm fun ca=>
Ld gk ca fun cK=>
ai 1 cK a1 fun cy=>
Ld gk cy fun cM=>
ae .num .eql cM (Value.int .i32 0) fun dh=>
Br dh (
Nil a0 fun dg=>
aa 0 dg fun cV=>
CF g 142 #[cV,a1] gk (fun v30 ju=>
JE J2 [] ju) (an R)) (
JE J2 [] gk))) (an R)) (
JE J2 [] H))
theorem rP(h:L131 g a0 a1 H R):aj Tryz.prog g 131 #[a0,a1] H R:=
 ak (hn:=(.n .e (.n .e (.h 1 [] [0] .e .e)))) Tryz.func131 h (by kernel_rfl)
theorem xP(h:L131 g a0 a1 H R):jO Tryz.prog g 131 #[a0,a1] H R:=
 yE (hn:=(.n .e (.n .e (.h 1 [] [0] .e .e)))) Tryz.func131 h (by kernel_rfl)
def L134(g:Gh)(a0 a1 a2:Value)(H:Hp)(R:Rt):Prop:=
Nil a0 fun v1=>
aa 0 v1 fun v2=>
aa 1 v2 fun v3=>
Ld H v3 fun v4=>
CF g 203 #[v4,a1] H (fun v5 H6=>
Ext 0 v5 fun v7=>
Ext 1 v5 fun v8=>
bA v7 fun v9=>
∃(P7:Jt) (WN:Mt),JE P7 [(.slice none 0 0),(Value.int .i64 0)] H6∧∀pN xW:Value,∀fj:Hp,P7 [pN,xW] fj→∀Ls:Fr,
ae .num .lss xW v9 fun bB=>
Br bB (
∀vx:Jt,(∀vD:Value,∀jv:Hp,(∀Ps:Fr,
ae .num .add xW (Value.int .i64 1) fun bQ=>
aF P7 WN [vD,bQ] jv [pN,xW] fj)→vx [vD] jv)→
ai 1 v7 xW fun cm=>
Ld fj cm fun ca=>
Nil a0 fun cK=>
aa 0 cK fun cy=>
CF g 174 #[cy,ca] fj (fun cM iR=>
bg iR (.cells #[(Value.int .i64 0),(Value.int .u32 0),(Value.int .u32 0)] 161 (0,0)) fun IQ me=>
St 3 me (pt IQ) cM fun p9=>
∀Jh:Jt,(∀DG:Value,∀mc:Hp,(∀Tq:Fr,
Br DG (
JE vx [pN] mc) (
aC 3 mc (pt IQ) fun fJ=>
Build Tryz.prog 203 [(0,ca),(1,fJ)] fun eW=>
bg mc (.cells #[(Value.int .u32 0),(Value.int .i64 0),(Value.int .u32 0),(Value.int .u32 0),(Value.int .u32 0),(Value.int .u32 0),(Value.int .u32 0),(Value.int .u32 0)] 203 (0,0)) fun PF r8=>
St 8 r8 (pt PF) eW fun FY=>
aa 1 (pt IQ) fun jy=>
Ld FY jy fun gy=>
CF g 204 #[a0,gy,a2] FY (fun jr mY=>
Ext 0 jr fun jx=>
Ext 1 jr fun jR=>
aa 4 (pt PF) fun kf=>
St 1 mY kf jx fun Dy=>
aa 5 (pt PF) fun mg=>
St 1 Dy mg jR fun sL=>
aa 2 (pt IQ) fun lW=>
Ld sL lW fun j9=>
CF g 204 #[a0,j9,a2] sL (fun ki Nj=>
Ext 0 ki fun uc=>
Ext 1 ki fun py=>
aa 6 (pt PF) fun qk=>
St 1 Nj qk uc fun BL=>
aa 7 (pt PF) fun ua=>
St 1 BL ua py fun H59=>
aC 8 H59 (pt PF) fun qj=>
au Tryz.prog 199 1 [(0,qj)] H59 fun qi Jj=>
App Tryz.prog 203 8 40 (.agg #[(Value.int .u32 0),(Value.int .i64 0),(Value.int .u32 0),(Value.int .u32 0),(Value.int .u32 0),(Value.int .u32 0),(Value.int .u32 0),(Value.int .u32 0)]) Jj pN qi fun pw Qa=>
JE vx [pw] Qa) (an R)) (an R)))→Jh [DG] mc)→
DR p9 fun zE=>
Nil a0 fun qg=>
aa 0 qg fun qe=>
aa 1 (pt IQ) fun rY=>
Ld zE rY fun vO=>
∀F72:Hp,
CF (g.add F72) 174 #[qe,vO] p9 (fun yo QZ=>
aU QZ zE∧
JU 0 yo fun sb=>
ae .num .neq sb a2 fun xZ=>
Br xZ (
Nil a0 fun ym=>
aa 0 ym fun r9=>
aa 2 (pt IQ) fun tY=>
Ld zE tY fun FG=>
∀F81:Hp,
CF (g.add F81) 174 #[r9,FG] QZ (fun tX yc=>
aU yc zE∧
JU 0 tX fun xX=>
ae .num .neq xX a2 fun sR=>
aA (Value.bool true) sR (Value.bool false) fun DI=>
JE Jh [DI] yc) bn) (
JE Jh [(Value.bool false)] QZ)) bn) (an R)) (
R (.returned pN) fj)) (an R)
theorem BA(h:L134 g a0 a1 a2 H R):aj Tryz.prog g 134 #[a0,a1,a2] H R:=
 ak (hn:=(.n .e (.n .e (.n .e (.n (.n .e (.n (.h 0 [7,26] [0,2,24,25] (.n .e (.n .e (.h 1 [7] [0,2,24,25,26] (.n (.n .e (.n .e (.n (.h 1 [54] [0,2,7,11,12,24,25,26] (.h 1 [] [] (.h 0 [0] [] (.h 0 [1] [] (.h 0 [2] [] (.h 0 [3] [] (.h 0 [4] [] (.h 0 [7] [] (.h 0 [5] [] (.h 0 [6] [] (.h 0 [8] [] (.h 2 [9] [] (.h 0 [10] [] (.h 0 [11] [] (.h 0 [12] [] (.h 0 [13] [] (.h 0 [14] [] (.h 0 [17] [] (.h 0 [15] [] (.h 0 [16] [] (.h 0 [18] [] (.h 0 [19] [] .e .e) .e) .e) .e) .e) .e) .e) .e) .e) .e) (.h 0 [10] [] (.h 0 [11] [] (.h 0 [12] [] (.h 0 [13] [] (.h 0 [14] [] (.h 0 [15] [] (.h 0 [16] [] (.h 0 [17] [] (.h 0 [18] [] (.h 3 [19] [] .e .e) .e) .e) .e) .e) .e) .e) .e) .e) .e)) .e) .e) .e) .e) .e) .e) .e) .e) .e) .e) .e) .e))) .e) .e))) .e) .e)) .e))))) Tryz.func134 h (by kernel_rfl)
def L135(g:Gh)(a0 a1:Value)(H:Hp)(R:Rt):Prop:=
DR H fun R1=>
Nil a0 fun v2=>
aa 0 v2 fun v3=>
Ld R1 v3 fun v4=>
Nil a0 fun v5=>
aa 0 v5 fun v6=>
Ld R1 v6 fun v7=>
CF g 58 #[v4] H (fun v8 H9=>
aU H9 R1∧
ae .num .add v8 a1 fun v10=>
CF g 146 #[v7] H9 (fun v11 dI=>
aU dI R1∧
ae .num .leq v10 v11 fun aY=>
R (.returned aY) dI) bn) bn
theorem Bz(h:L135 g a0 a1 H R):aj Tryz.prog g 135 #[a0,a1] H R:=
 ak (hn:=(.n .e (.n (.h 0 [0,1,2,3,5,7,8,9,10,4,6,11,12,13] [] .e .e) .e))) Tryz.func135 h (by kernel_rfl)
def L136(g:Gh)(a0 a1 a2:Value)(H:Hp)(R:Rt):Prop:=
n8 H fun v1 H2=>
bA a2 fun v3=>
∃(I4:Jt) (m5:Mt),JE I4 [(Value.int .i64 0)] H2∧∀w8:Value,∀H7:Hp,I4 [w8] H7→∀MZ:Fr,
ae .num .lss w8 v3 fun v9=>
Br v9 (
ai 8 a2 w8 fun v10=>
aC 8 H7 v10 fun v11=>
bg H7 (.cells #[(Value.int .u32 0),(Value.int .i64 0),(Value.int .u32 0),(Value.int .u32 0),(Value.int .u32 0),(Value.int .u32 0),(Value.int .u32 0),(Value.int .u32 0)] 203 (0,0)) fun zv fj=>
St 8 fj (pt zv) v11 fun iB=>
aa 4 (pt zv) fun bD=>
Ld iB bD fun bB=>
aa 6 (pt zv) fun bH=>
Ld iB bH fun cf=>
Build Tryz.prog 161 [(0,a1),(1,bB),(2,cf)] fun bN=>
aa 5 (pt zv) fun v20=>
Ld iB v20 fun bQ=>
aa 7 (pt zv) fun cm=>
Ld iB cm fun ca=>
Build Tryz.prog 161 [(0,a1),(1,bQ),(2,ca)] fun cK=>
au Tryz.prog 286 2 [(0,bN),(1,cK)] iB fun cy gH=>
bA cy fun dh=>
∃(P3:Jt) (WK:Mt),JE P3 [(Value.int .i64 0)] gH∧∀vC:Value,∀ju:Hp,P3 [vC] ju→∀Pr:Fr,
ae .num .lss vC dh fun fR=>
Br fR (
∀Uc:Jt,(∀BN:Hp,(∀Tp:Fr,
ae .num .add vC (Value.int .i64 1) fun eP=>
aF P3 WK [eP] BN [vC] ju)→Uc [] BN)→
ai 3 cy vC fun ia=>
aC 3 ju ia fun iC=>
bg ju (.cells #[(Value.int .i64 0),(Value.int .u32 0),(Value.int .u32 0)] 161 (0,0)) fun PD FX=>
St 3 FX (pt PD) iC fun BM=>
DR BM fun Y6=>
Nil a0 fun jx=>
aa 0 jx fun jR=>
aa 1 jR fun kf=>
Ld Y6 kf fun mE=>
aC 3 Y6 (pt PD) fun mg=>
CF g 205 #[mE,mg] BM (fun lX Jk=>
aU Jk Y6∧
Ext 0 lX fun j9=>
Ext 1 lX fun ki=>
Un .not ki fun qm=>
cw qm true (fun t54=>
aa 1 (pt PD) fun py=>
Ld Jk py fun qk=>
aa 2 (pt PD) fun sU=>
Ld Jk sU fun ua=>
ae .num .neq qk ua fun sj=>
(Jk=Jk∧sj=Value.bool t54)) (fun t54=>(Value.bool false)=Value.bool t54) fun t54=>∀Yz:Fr,
Br (Value.bool t54) (
PN Tryz.prog g 10 (lY Tryz.f136 10) [7,11] [v1,(pt PD)] Jk fun Jj=>∀Yy:Fr,
JE Uc [] Jj) (
JE Uc [] Jk)) bn) (
ae .num .add w8 (Value.int .i64 1) fun qh=>
aF I4 m5 [qh] ju [w8] H7)) (
xM H7 v1 fun vP=>
R (.returned vP) H7)
theorem By(h:L136 g a0 a1 a2 H R):aj Tryz.prog g 136 #[a0,a1,a2] H R:=
 ak (hn:=(.n .e (.n .e (.n (.n .e (.n (.h 0 [17] [0,1,7,15,16] (.n .e (.n .e (.n (.n (.n .e (.n .e (.n (.h 0 [35] [0,1,7,15,16,17,33,34] (.n .e (.n .e (.h 1 [] [0,1,7,15,16,17,33,34,35] (.n (.n .e (.n (.h 0 (List.range 12) [] .e .e) (.n (.h 0 [] [1] .e .e) (.n (.h 9 [7,11] [] .e .e) .e)))) .e) .e))) .e) .e))) .e) .e))) .e) .e)) .e)))) Tryz.func136 h (by kernel_rfl)
def L137(g:Gh)(a0 a1:Value)(H:Hp)(R:Rt):Prop:=
bg H (.cells (Value.cells a1) 161 (0,0)) fun b1 H2=>
aa 0 (pt b1) fun v3=>
Ld H2 v3 fun v4=>
CF g 206 #[a0,v4] H2 (fun v5 H6=>
ae .num .neq v5 (Value.int .i64 0) fun v7=>
Br v7 (
R (.returned v5) H6) (
Nil a0 fun v8=>
aa 0 v8 fun v9=>
Ld H6 v9 fun v10=>
aa 0 (pt b1) fun v11=>
Ld H6 v11 fun bt=>
ai 1 v10 bt fun aY=>
Ld H6 aY fun br=>
aC 3 H6 (pt b1) fun bD=>
iA Tryz.prog 161 (Value.int .u32 0) true H6 br bD fun bB=>
Ext 0 bB fun bH=>
Ext 1 bB fun cf=>
Un .not cf fun bN=>
Br bN (
R (.returned (Value.int .i64 10)) H6) (
DR H6 fun ya=>
Nil a0 fun bQ=>
aa 0 bQ fun cm=>
Ld ya cm fun ca=>
aa 0 (pt b1) fun cK=>
Ld ya cK fun cy=>
ai 1 ca cy fun cM=>
Ld ya cM fun dh=>
aC 3 ya (pt b1) fun dg=>
n9 Tryz.prog 161 H6 dh dg fun ju=>
aU ju ya∧
R (.returned (Value.int .i64 0)) ju))) (an R)
theorem Bx(h:L137 g a0 a1 H R):aj Tryz.prog g 137 #[a0,a1] H R:=
 ak (hn:=(.n .e (.n .e (.n .e (.n (.h 0 (List.range 10) [] .e .e) .e))))) Tryz.func137 h (by kernel_rfl)
def L138(g:Gh)(a0 a1 a2 a3:Value)(H:Hp)(R:Rt):Prop:=
ae .num .eql a2 a3 fun v1=>
Br v1 (
R (.returned a2) H) (
Build Tryz.prog 161 [(0,a1),(1,a2),(2,a3)] fun v2=>
bg H (.cells #[(Value.int .i64 0),(Value.int .u32 0),(Value.int .u32 0)] 161 (0,0)) fun b3 H4=>
St 3 H4 (pt b3) v2 fun H5=>
DR H5 fun R6=>
Nil a0 fun v7=>
aa 1 v7 fun v8=>
Ld R6 v8 fun v9=>
aC 3 R6 (pt b3) fun v10=>
CF g 205 #[v9,v10] H5 (fun v11 dI=>
aU dI R6∧
Ext 0 v11 fun aY=>
Ext 1 v11 fun br=>
Br br (
R (.returned aY) dI) (
aC 3 dI (pt b3) fun bD=>
CF g 207 #[a0,bD] dI (fun bB ej=>
R (.returned bB) ej) (an R))) bn)
theorem mX(h:L138 g a0 a1 a2 a3 H R):aj Tryz.prog g 138 #[a0,a1,a2,a3] H R:=
 ak (hn:=(.n .e (.n .e (.n .e (.n (.n (.h 0 (List.range 11) [] .e .e) .e) .e))))) Tryz.func138 h (by kernel_rfl)
def L139(g:Gh)(a0 a1:Value)(H:Hp)(R:Rt):Prop:=
ae .num .gtr a1 (Value.int .u32 1) fun v1=>
Br v1 (
Nil a0 fun v2=>
aa 2 v2 fun v3=>
Ld H v3 fun v4=>
ai 1 v4 a1 fun v5=>
Ld H v5 fun v6=>
ae .num .add v6 (Value.int .i32 1) fun v7=>
ai 1 v4 a1 fun v8=>
St 1 H v8 v7 fun H9=>
R (.returned (.tuple #[])) H9) (
R (.returned (.tuple #[])) H)
theorem Bw(h:L139 g a0 a1 H R):aj Tryz.prog g 139 #[a0,a1] H R:=
 ak (hn:=.e) Tryz.func139 h (by kernel_rfl)
def L140(g:Gh)(a0 a1 a2:Value)(H:Hp)(R:Rt):Prop:=
bg H (.cells (Value.cells a2) 161 (0,0)) fun b1 H2=>
ae .ptr .eql a0 (.pointer none) fun v3=>
Br v3 (
R (.returned (Value.int .i64 10)) H2) (
aC 3 H2 (pt b1) fun v4=>
CF g 208 #[a0,v4] H2 (fun v5 H6=>
ae .num .neq v5 (Value.int .i64 0) fun v7=>
Br v7 (
R (.returned v5) H6) (
CF g 209 #[a0,a1] H6 (fun v8 H9=>
ae .num .neq v8 (Value.int .i64 0) fun v10=>
Br v10 (
R (.returned v8) H9) (
DR H9 fun QS=>
Nil a0 fun bt=>
aa 1 bt fun aY=>
Ld QS aY fun br=>
aC 3 QS (pt b1) fun bD=>
ai 5 br a1 fun bB=>
aa 0 bB fun bH=>
St 3 H9 bH bD fun dW=>
R (.returned (Value.int .i64 0)) dW)) (an R))) (an R))
theorem Bv(h:L140 g a0 a1 a2 H R):aj Tryz.prog g 140 #[a0,a1,a2] H R:=
 ak (hn:=(.n .e (.n .e (.n .e (.n .e (.n (.h 0 (List.range 9) [] .e .e) .e)))))) Tryz.func140 h (by kernel_rfl)
def L141(g:Gh)(a0 a1 a2:Value)(H:Hp)(R:Rt):Prop:=
bg H (.cells (Value.cells a1) 161 (0,0)) fun b1 H2=>
aa 0 (pt b1) fun v3=>
Ld H2 v3 fun v4=>
CF g 206 #[a0,v4] H2 (fun v5 H6=>
ae .num .neq v5 (Value.int .i64 0) fun v7=>
Br v7 (
R (.returned v5) H6) (
Nil a0 fun v8=>
aa 0 v8 fun v9=>
Ld H6 v9 fun v10=>
aa 0 (pt b1) fun v11=>
Ld H6 v11 fun bt=>
ai 1 v10 bt fun aY=>
Ld H6 aY fun br=>
aC 3 H6 (pt b1) fun bD=>
iA Tryz.prog 161 (Value.int .u32 0) true H6 br bD fun bB=>
Ext 0 bB fun bH=>
Ext 1 bB fun cf=>
Br cf (
R (.returned (Value.int .i64 11)) H6) (
DR H6 fun PT=>
Nil a0 fun v20=>
aa 0 v20 fun bQ=>
Ld PT bQ fun cm=>
aa 0 (pt b1) fun ca=>
Ld PT ca fun cK=>
ai 1 cm cK fun cy=>
Ld PT cy fun cM=>
aC 3 PT (pt b1) fun dh=>
iz Tryz.prog 161 H6 cM dh a2 fun tU=>
R (.returned (Value.int .i64 0)) tU))) (an R)
theorem Bu(h:L141 g a0 a1 a2 H R):aj Tryz.prog g 141 #[a0,a1,a2] H R:=
 ak (hn:=(.n .e (.n .e (.n .e (.n (.h 0 (List.range 11) [] .e .e) .e))))) Tryz.func141 h (by kernel_rfl)
def L142(g:Gh)(a0 a1:Value)(H:Hp)(R:Rt):Prop:=
au Tryz.prog 27 1 [(0,a1)] H fun v1 H2=>
∃(I3:Jt) (m4:Mt),JE I3 [v1] H2∧∀w7:Value,∀H6:Hp,I3 [w7] H6→∀To:Fr,
bA w7 fun v8=>
ae .num .gtr v8 (Value.int .i64 0) fun v9=>
Br v9 (
bA w7 fun v10=>
ae .num .sub v10 (Value.int .i64 1) fun v11=>
ai 1 w7 v11 fun bt=>
Ld H6 bt fun aY=>
fG 1 w7 none (some v11) fun br=>
ae .num .leq aY (Value.int .u32 1) fun bD=>
Br bD (
aF I3 m4 [br] H6 [w7] H6) (
Nil a0 fun bB=>
aa 2 bB fun bH=>
Ld H6 bH fun cf=>
ai 1 cf aY fun bN=>
Ld H6 bN fun v20=>
ae .num .sub v20 (Value.int .i32 1) fun bQ=>
ai 1 cf aY fun cm=>
St 1 H6 cm bQ fun jV=>
Nil a0 fun cK=>
aa 2 cK fun cy=>
Ld jV cy fun cM=>
ai 1 cM aY fun dh=>
Ld jV dh fun dg=>
ae .num .gtr dg (Value.int .i32 0) fun cV=>
Br cV (
aF I3 m4 [br] jV [w7] H6) (
CF g 174 #[a0,aY] jV (fun v30 ju=>
bg ju (.cells #[(Value.int .i64 0),(Value.int .u32 0),(Value.int .u32 0)] 161 (0,0)) fun TJ mc=>
St 3 mc (pt TJ) v30 fun vz=>
DR vz fun R35=>
Nil a0 fun eW=>
aa 1 eW fun eP=>
Ld R35 eP fun ia=>
aC 3 R35 (pt TJ) fun iC=>
CF g 137 #[ia,iC] vz (fun jy FX=>
Nil a0 fun jr=>
aa 0 jr fun iN=>
Ld FX iN fun jx=>
CF g 210 #[jx,aY] FX (fun jR JT=>
aa 1 (pt TJ) fun mE=>
Ld JT mE fun mg=>
aa 2 (pt TJ) fun lX=>
Ld JT lX fun lW=>
au Tryz.prog 27 2 [(0,mg),(1,lW)] JT fun j9 H52=>
App Tryz.prog 77 1 4 (Value.int .u32 0) H52 br j9 fun py Ni=>
aF I3 m4 [py] Ni [w7] H6) (an R)) bn) (an R)))) (
R (.returned (.tuple #[])) H6)
theorem Bt(h:L142 g a0 a1 H R):aj Tryz.prog g 142 #[a0,a1] H R:=
 ak (hn:=(.n .e (.n (.h 0 [4] [0] (.n .e (.n (.n .e (.n .e (.n .e (.n .e (.n .e (.n .e (.n (.h 0 (List.range 6) [] .e .e) .e))))))) .e)) .e) .e))) Tryz.func142 h (by kernel_rfl)
def L143(g:Gh)(a0 a1 a2:Value)(H:Hp)(R:Rt):Prop:=
DR H fun R1=>
Ld R1 a1 fun v2=>
Ld R1 a1 fun v3=>
CF g 34 #[v2] H (fun v4 H5=>
aU H5 R1∧
CF g 15 #[v3] H5 (fun v6 H7=>
aU H7 R1∧
∀J8:Jt,(∀nk fZ:Value,∀cT:Hp,(∀QK:Fr,
Ld cT a1 fun aY=>
ae .num .add v4 nk fun br=>
CF g 145 #[aY,br] cT (fun bD jQ=>
Ext 0 bD fun bH=>
Ext 1 bD fun cf=>
ae .num .add fZ bH fun bN=>
R (.returned bN) jQ) (an R))→J8 [nk,fZ] cT)→
Ld H7 a2 fun v20=>
bA v20 fun bQ=>
∃(P4:Jt) (WL:Mt),JE P4 [v6,(Value.int .i64 0),(Value.int .i64 0),(Value.int .i64 0)] H7∧∀pM FC F5 JX:Value,∀gj:Hp,P4 [pM,FC,F5,JX] gj→∀Tu:Fr,
ae .num .lss JX bQ fun v30=>
Br v30 (
∀Jh:Jt,(∀DG w35 Md:Value,∀mc:Hp,(∀Tq:Fr,
ae .num .add JX (Value.int .i64 1) fun eP=>
aF P4 WL [DG,w35,Md,eP] mc [pM,FC,F5,JX] gj)→Jh [DG,w35,Md] mc)→
ai 1 v20 JX fun ia=>
Ld gj ia fun iC=>
Ld gj a1 fun jy=>
ae .num .add a0 iC fun gy=>
CF g 144 #[jy,gy] gj (fun jr mY=>
Ext 0 jr fun jx=>
Ext 1 jr fun jR=>
bg mY (.cells #[(Value.int .i64 0),(Value.int .i64 0),(Value.int .i64 0)] 210 (0,0)) fun TH Dy=>
St 3 Dy (pt TH) jx fun vy=>
ae .num .neq jR (Value.int .i64 0) fun lX=>
Br lX (
JE J8 [FC,F5] vy) (
ae .num .add F5 (Value.int .i64 1) fun lW=>
aa 2 (pt TH) fun j9=>
Ld vy j9 fun ki=>
ae .num .lss ki pM fun qm=>
Br qm (
aa 2 (pt TH) fun uc=>
Ld vy uc fun py=>
JE Jh [py,lW,lW] vy) (
JE Jh [pM,FC,lW] vy))) (an R)) (
JE J8 [FC,F5] gj)) bn) bn
theorem Bs(h:L143 g a0 a1 a2 H R):aj Tryz.prog g 143 #[a0,a1,a2] H R:=
 ak (hn:=(.n .e (.n (.h 0 [0,2,1,3,4,5,6,7] [] .e .e) (.h 1 [7,8] [1,5] (.n .e (.n (.h 0 [6,7,8,21] [0,1,5,19,20] (.n .e (.n .e (.h 1 [6,7,8] [0,1,5,19,20,21] .e .e))) .e) .e)) .e)))) Tryz.func143 h (by kernel_rfl)
def L144(g:Gh)(a0 a1:Value)(H:Hp)(R:Rt):Prop:=
bg H (.cells #[(Value.int .i64 0),(Value.int .i64 0),(Value.int .i64 0)] 210 (0,0)) fun b1 H2=>
CF g 15 #[a0] H2 (fun v3 H4=>
Build Tryz.prog 210 [(0,a1),(1,v3)] fun v5=>
bg H4 (.cells #[(Value.int .i64 0),(Value.int .i64 0),(Value.int .i64 0)] 210 (0,0)) fun b6 H7=>
St 3 H7 (pt b6) v5 fun H8=>
CF g 17 #[a0,a1] H8 (fun v9 cT=>
ae .num .neq v9 (Value.int .i64 0) fun v11=>
Br v11 (
Build Tryz.prog 210 [] fun bt=>
St 3 cT (pt b1) bt fun fj=>
aC 3 fj (pt b1) fun br=>
R (.returned (.tuple #[br,v9])) fj) (
CF g 15 #[a0] cT (fun bD jQ=>
aa 2 (pt b6) fun bH=>
St 1 jQ bH bD fun dW=>
aC 3 dW (pt b6) fun bN=>
St 3 dW (pt b1) bN fun gk=>
aC 3 gk (pt b1) fun bQ=>
R (.returned (.tuple #[bQ,(Value.int .i64 0)])) gk) (an R))) (an R)) (an R)
theorem rO(h:L144 g a0 a1 H R):aj Tryz.prog g 144 #[a0,a1] H R:=
 ak (hn:=.e) Tryz.func144 h (by kernel_rfl)
def L145(g:Gh)(a0 a1:Value)(H:Hp)(R:Rt):Prop:=
ae .ptr .eql a0 (.pointer none) fun v1=>
Br v1 (
R (.returned (.tuple #[(Value.int .i64 0),(Value.int .i64 10)])) H) (
∀J2:Jt,(∀w5:Value,∀H4:Hp,(∀Tr:Fr,
Br w5 (
R (.returned (.tuple #[(Value.int .i64 0),(Value.int .i64 1)])) H4) (
∃(I6:Jt) (m7:Mt),JE I6 [(Value.int .i64 0)] H4∧∀rX:Value,∀H9:Hp,I6 [rX] H9→∀MY:Fr,
CF g 34 #[a0] H9 (fun v11 dI=>
ae .num .gtr v11 a1 fun aY=>
Br aY (
CF g 18 #[a0] dI (fun br dy=>
ae .num .add rX (Value.int .i64 1) fun bB=>
aF I6 m7 [bB] dy [rX] H9) (an R)) (
R (.returned (.tuple #[rX,(Value.int .i64 0)])) dI)) (an R)))→J2 [w5] H4)→
ae .num .lss a1 (Value.int .i64 0) fun bH=>
Split bH false (
CF g 34 #[a0] H (fun cf jv=>
ae .num .gtr a1 cf fun v20=>
aA (Value.bool false) (Value.bool true) v20 fun bQ=>
JE J2 [bQ] jv) (an R)) (
aA (Value.bool true) (Value.bool true) undef fun cm=>
JE J2 [cm] H))
theorem Bq(h:L145 g a0 a1 H R):aj Tryz.prog g 145 #[a0,a1] H R:=
 ak (hn:=(.n .e (.n .e (.n (.h 1 [16] [0,1] .e .e) (.n .e (.n (.n (.h 0 [6] [0,1] .e .e) .e) .e)))))) Tryz.func145 h (by kernel_rfl)
def L146(g:Gh)(a0:Value)(H:Hp)(R:Rt):Prop:=
ae .ptr .eql a0 (.pointer none) fun v1=>
Br v1 (
R (.returned (Value.int .i64 0)) H) (
Nil a0 fun v2=>
aa 0 v2 fun v3=>
Ld H v3 fun v4=>
R (.returned v4) H)
theorem Bp(h:L146 g a0 H R):aj Tryz.prog g 146 #[a0] H R:=
 ak (hn:=.e) Tryz.func146 h (by kernel_rfl)
def L147(g:Gh)(a0 a1:Value)(H:Hp)(R:Rt):Prop:=
bg H (.cells (Value.cells a1) 4 (0,0)) fun b1 H2=>
bg H2 (.cells #[(Value.int .i64 0),(.slice none 0 0)] 57 (0,0)) fun b3 H4=>
CF g 211 #[a0] H4 (fun v5 H6=>
ae .num .neq v5 (Value.int .i64 0) fun v7=>
Br v7 (
Build Tryz.prog 57 [] fun v8=>
St 2 H6 (pt b3) v8 fun H9=>
aC 2 H9 (pt b3) fun v10=>
R (.returned (.tuple #[v10,v5])) H9) (
CF g 212 #[a0,(.func (.func 213) #[] #[(pt b1)])] H6 (fun v11 dI=>
St 2 dI (pt b3) v11 fun fj=>
aC 2 fj (pt b3) fun br=>
R (.returned (.tuple #[br,(Value.int .i64 0)])) fj) (an R))) (an R)
theorem Bo(h:L147 g a0 a1 H R):aj Tryz.prog g 147 #[a0,a1] H R:=
 ak (hn:=.e) Tryz.func147 h (by kernel_rfl)
def L148(g:Gh)(a0 a1 a2:Value)(H:Hp)(R:Rt):Prop:=
bg H (.cells (Value.cells a0) 57 (0,0)) fun b1 H2=>
bg H2 (.cells #[(Value.int .i64 0),(.slice none 0 0)] 57 (0,0)) fun b3 H4=>
aC 2 H4 (pt b1) fun v5=>
CF g 214 #[v5,a1] H4 (fun v6 H7=>
ae .num .neq v6 (Value.int .i64 0) fun v8=>
Br v8 (
Build Tryz.prog 57 [] fun v9=>
St 2 H7 (pt b3) v9 fun cT=>
aC 2 cT (pt b3) fun v11=>
R (.returned (.tuple #[v11,v6])) cT) (
aC 2 H7 (pt b1) fun bt=>
CF g 215 #[bt,a1,a2] H7 (fun aY iB=>
St 2 iB (pt b3) aY fun dy=>
aC 2 dy (pt b3) fun bB=>
R (.returned (.tuple #[bB,(Value.int .i64 0)])) dy) (an R))) (an R)
theorem Bn(h:L148 g a0 a1 a2 H R):aj Tryz.prog g 148 #[a0,a1,a2] H R:=
 ak (hn:=.e) Tryz.func148 h (by kernel_rfl)
def L149(g:Gh)(a0 a1 a2:Value)(H:Hp)(R:Rt):Prop:=
Nil a0 fun v1=>
aa 0 v1 fun v2=>
Ld H v2 fun v3=>
CF g 97 #[v3,a1] H (fun v4 H5=>
Ext 0 v4 fun v6=>
Ext 1 v4 fun v7=>
bg H5 (.cells #[(Value.int .i64 0),(Value.int .u32 0),(Value.int .u32 0)] 161 (0,0)) fun b8 H9=>
St 3 H9 (pt b8) v6 fun cT=>
ae .num .neq v7 (Value.int .i64 0) fun v11=>
cw v11 false (fun t12=>
ae .num .lss a1 (Value.int .u32 2) fun aY=>
(cT=cT∧aY=Value.bool t12)) (fun t12=>(Value.bool true)=Value.bool t12) fun t12=>∀qQ:Fr,
Br (Value.bool t12) (
ae .num .eql v7 (Value.int .i64 0) fun bD=>
R (.returned bD) cT) (
DR cT fun Ng=>
Nil a0 fun bH=>
aa 0 bH fun cf=>
Ld Ng cf fun bN=>
aa 0 (pt b8) fun v20=>
Ld Ng v20 fun bQ=>
CF g 46 #[bN,bQ] cT (fun cm jV=>
aU jV Ng∧
Ext 0 cm fun cK=>
Ext 1 cm fun cy=>
ae .num .eql cy (Value.int .i64 0) fun cM=>
cw cM true (fun t27=>
ae .num .gtr cK a2 fun dg=>
(jV=jV∧dg=Value.bool t27)) (fun t27=>(Value.bool false)=Value.bool t27) fun t27=>∀Ts:Fr,
R (.returned (Value.bool t27)) jV) bn)) (an R)
theorem Bm(h:L149 g a0 a1 a2 H R):aj Tryz.prog g 149 #[a0,a1,a2] H R:=
 ak (hn:=(.n .e (.n .e (.n (.n (.h 0 [] [1] .e .e) .e) (.n (.h 0 (List.range 12) [] .e .e) (.n (.h 0 [] [1] .e .e) .e)))))) Tryz.func149 h (by kernel_rfl)
def L153(g:Gh)(a0 a1:Value)(H:Hp)(R:Rt):Prop:=
bg H (.cells (Value.cells a1) 3 (0,0)) fun b1 H2=>
bg H2 (.cells #[(Value.int .i64 0),(.slice none 0 0)] 57 (0,0)) fun b3 H4=>
CF g 211 #[a0] H4 (fun v5 H6=>
ae .num .neq v5 (Value.int .i64 0) fun v7=>
Br v7 (
Build Tryz.prog 57 [] fun v8=>
St 2 H6 (pt b3) v8 fun H9=>
aC 2 H9 (pt b3) fun v10=>
R (.returned (.tuple #[v10,v5])) H9) (
Ld H6 (pt b1) fun v11=>
ae .num .lss v11 (Value.int .i64 0) fun bt=>
cw bt false (fun t13=>
Ld H6 (pt b1) fun br=>
ae .num .geq br a0 fun bD=>
(H6=H6∧bD=Value.bool t13)) (fun t13=>(Value.bool true)=Value.bool t13) fun t13=>∀Pu:Fr,
Br (Value.bool t13) (
Build Tryz.prog 57 [] fun bH=>
St 2 H6 (pt b3) bH fun dW=>
aC 2 dW (pt b3) fun bN=>
R (.returned (.tuple #[bN,(Value.int .i64 2)])) dW) (
CF g 212 #[a0,(.func (.func 218) #[] #[(pt b1)])] H6 (fun v20 gI=>
St 2 gI (pt b3) v20 fun g7=>
aC 2 g7 (pt b3) fun ca=>
R (.returned (.tuple #[ca,(Value.int .i64 0)])) g7) (an R)))) (an R)
theorem Bl(h:L153 g a0 a1 H R):aj Tryz.prog g 153 #[a0,a1] H R:=
 ak (hn:=(.n .e (.n .e (.n (.n (.h 0 [] [1] .e .e) .e) .e)))) Tryz.func153 h (by kernel_rfl)
def L154(g:Gh)(a0 a1 a2:Value)(H:Hp)(R:Rt):Prop:=
bg H (.cells (Value.cells a0) 57 (0,0)) fun b1 H2=>
bg H2 (.cells (Value.cells a1) 57 (0,0)) fun b3 H4=>
bg H4 (.cells (Value.cells a2) 57 (0,0)) fun b5 H6=>
bg H6 (.cells #[(Value.int .i64 0),(.slice none 0 0)] 57 (0,0)) fun b7 H8=>
aC 2 H8 (pt b1) fun v9=>
aC 2 H8 (pt b3) fun v10=>
aC 2 H8 (pt b5) fun v11=>
au Tryz.prog 28 3 [(0,v9),(1,v10),(2,v11)] H8 fun bt fj=>
CF g 220 #[bt] fj (fun br dy=>
Un .not br fun bB=>
Br bB (
Build Tryz.prog 57 [] fun bH=>
St 2 dy (pt b7) bH fun dW=>
aC 2 dW (pt b7) fun bN=>
R (.returned (.tuple #[bN,(Value.int .i64 5)])) dW) (
aa 0 (pt b1) fun v20=>
Ld dy v20 fun bQ=>
CF g 212 #[bQ,(.func (.func 221) #[] #[(pt b1),(pt b3),(pt b5)])] dy (fun cm jV=>
St 2 jV (pt b7) cm fun iL=>
aC 2 iL (pt b7) fun cy=>
R (.returned (.tuple #[cy,(Value.int .i64 0)])) iL) (an R))) (an R)
theorem Bk(h:L154 g a0 a1 a2 H R):aj Tryz.prog g 154 #[a0,a1,a2] H R:=
 ak (hn:=.e) Tryz.func154 h (by kernel_rfl)
end Go.Proofs
set_option maxRecDepth 100000
namespace Go.Proofs
open Go Go.Sx
variable {g:Gh} {a0 a1 a2 a3 a4 a5 a6 a7 a8 a9 pI pH TQ TP TO TN:Value} {H:Hp} {R:Rt}
def L164(g:Gh)(a0 a1 a2 a3:Value)(H:Hp)(R:Rt):Prop:=
ae .ptr .eql a0 (.pointer none) fun v1=>
Br v1 (
R (.returned (.tuple #[(Value.int .u32 0),(Value.int .i64 10)])) H) (
CF g 225 #[a0,a1,a2,a3] H (fun v2 H3=>
ae .num .neq v2 (Value.int .i64 0) fun v4=>
Br v4 (
R (.returned (.tuple #[(Value.int .u32 0),v2])) H3) (
CF g 226 #[a0,a1,a2,a3] H3 (fun v5 H6=>
Ext 0 v5 fun v7=>
Ext 1 v5 fun v8=>
∀J9:Jt,(∀fZ:Value,∀dB:Hp,(∀qR:Fr,
CF g 121 #[a0,fZ] dB (fun aY iB=>
ae .num .neq aY (Value.int .i64 0) fun bD=>
Br bD (
R (.returned (.tuple #[(Value.int .u32 0),aY])) iB) (
R (.returned (.tuple #[fZ,(Value.int .i64 0)])) iB)) (an R))→J9 [fZ] dB)→
Un .not v8 fun bB=>
Br bB (
Nil a0 fun bH=>
aa 0 bH fun cf=>
CF g 135 #[cf,(Value.int .i64 1)] H6 (fun bN gk=>
Un .not bN fun bQ=>
Br bQ (
R (.returned (.tuple #[(Value.int .u32 0),(Value.int .i64 9)])) gk) (
Nil a0 fun cm=>
aa 0 cm fun ca=>
Build Tryz.prog 161 [(0,a1),(1,a2),(2,a3)] fun cK=>
CF g 207 #[ca,cK] gk (fun cy gH=>
JE J9 [cy] gH) (an R))) (an R)) (
JE J9 [v7] H6)) (an R))) (an R))
theorem Bj(h:L164 g a0 a1 a2 a3 H R):aj Tryz.prog g 164 #[a0,a1,a2,a3] H R:=
 ak (hn:=(.n .e (.n .e (.n .e (.n .e (.h 1 [11] [0] .e .e)))))) Tryz.func164 h (by kernel_rfl)
def L173(g:Gh)(a0 a1:Value)(H:Hp)(R:Rt):Prop:=
Nil a0 fun v1=>
aa 0 v1 fun v2=>
Ld H v2 fun v3=>
CF g 231 #[v3,a1] H (fun v4 H5=>
Ext 0 v4 fun v6=>
Ext 1 v4 fun v7=>
bg H5 (.cells #[(Value.int .i64 0),(Value.int .u32 0),(Value.int .u32 0)] 161 (0,0)) fun b8 H9=>
St 3 H9 (pt b8) v6 fun cT=>
ae .num .eql v7 (Value.int .i64 0) fun v11=>
R (.returned v11) cT) (an R)
theorem Bi(h:L173 g a0 a1 H R):aj Tryz.prog g 173 #[a0,a1] H R:=
 ak (hn:=.e) Tryz.func173 h (by kernel_rfl)
def L174(g:Gh)(a0 a1:Value)(H:Hp)(R:Rt):Prop:=
bg H (.cells #[(Value.int .i64 0),(Value.int .u32 0),(Value.int .u32 0)] 161 (0,0)) fun b1 H2=>
Nil a0 fun v3=>
aa 0 v3 fun v4=>
Ld H2 v4 fun v5=>
CF g 231 #[v5,a1] H2 (fun v6 H7=>
Ext 0 v6 fun v8=>
Ext 1 v6 fun v9=>
bg H7 (.cells #[(Value.int .i64 0),(Value.int .u32 0),(Value.int .u32 0)] 161 (0,0)) fun vp dB=>
St 3 dB (pt vp) v8 fun dI=>
aC 3 dI (pt vp) fun aY=>
St 3 dI (pt b1) aY fun iB=>
aC 3 iB (pt b1) fun bD=>
R (.returned bD) iB) (an R)
theorem Bh(h:L174 g a0 a1 H R):aj Tryz.prog g 174 #[a0,a1] H R:=
 ak (hn:=.e) Tryz.func174 h (by kernel_rfl)
def L175(g:Gh)(a0:Value)(H:Hp)(R:Rt):Prop:=
bA a0 fun v1=>
∃(I2:Jt) (m3:Mt),JE I2 [(Value.int .i64 0)] H∧∀w6:Value,∀H5:Hp,I2 [w6] H5→∀JL:Fr,
ae .num .lss w6 v1 fun v7=>
Br v7 (
ai 2 a0 w6 fun v8=>
aC 2 H5 v8 fun v9=>
bg H5 (.cells #[(Value.int .i64 0),(.slice none 0 0)] 57 (0,0)) fun vp dB=>
St 2 dB (pt vp) v9 fun dI=>
∀xR:Jt,(∀j8:Value,∀dy:Hp,(∀qQ:Fr,
Br j8 (
R (.returned (Value.bool false)) dy) (
ae .num .add w6 (Value.int .i64 1) fun bH=>
aF I2 m3 [bH] dy [w6] H5))→xR [j8] dy)→
DR dI fun L1=>
aC 2 L1 (pt vp) fun bN=>
∀Z5:Hp,
CF (g.add Z5) 232 #[bN] dI (fun bQ g7=>
aU g7 L1∧
Un .not bQ fun ca=>
Br ca (
JE xR [(Value.bool true)] g7) (
aa 0 (pt vp) fun cK=>
Ld L1 cK fun cy=>
ai 2 a0 (Value.int .i64 0) fun cM=>
aa 0 cM fun dh=>
Ld L1 dh fun dg=>
ae .num .neq cy dg fun cV=>
aA (Value.bool false) (Value.bool true) cV fun v30=>
JE xR [v30] g7)) bn) (
R (.returned (Value.bool true)) H5)
theorem Bg(h:L175 g a0 H R):aj Tryz.prog g 175 #[a0] H R:=
 ak (hn:=(.n .e (.n (.n .e (.n (.h 0 [7] [0,5,6] (.n .e (.n .e (.n (.n (.n .e (.h 1 [22] [0,5,6,7] (.h 1 [] [] (.h 0 [0] [] (.h 0 [1] [] (.h 0 [2] [] (.h 2 [3] [] (.h 0 [4] [] (.h 0 [5] [] (.h 0 [6] [] (.h 0 [7] [] (.h 0 [8] [] (.h 0 [9] [] (.h 0 [10] [] (.h 3 [11] [] .e .e) .e) .e) .e) .e) .e) .e) .e) (.h 0 [4] [] (.h 0 [5] [] (.h 0 [6] [] (.h 0 [7] [] (.h 0 [8] [] (.h 0 [9] [] (.h 0 [10] [] (.h 0 [11] [] .e .e) .e) .e) .e) .e) .e) .e) .e)) .e) .e) .e) .e) .e)) .e) .e))) .e) .e)) .e))) Tryz.func175 h (by kernel_rfl)
def L176(g:Gh)(a0:Value)(H:Hp)(R:Rt):Prop:=
n8 H fun v1 H2=>
bA a0 fun v3=>
∃(I4:Jt) (m5:Mt),JE I4 [(Value.int .i64 0)] H2∧∀w8:Value,∀H7:Hp,I4 [w8] H7→∀MZ:Fr,
ae .num .lss w8 v3 fun v9=>
Br v9 (
ai 2 a0 w8 fun v10=>
aC 2 H7 v10 fun v11=>
bg H7 (.cells #[(Value.int .i64 0),(.slice none 0 0)] 57 (0,0)) fun zv fj=>
St 2 fj (pt zv) v11 fun iB=>
aC 2 iB (pt zv) fun bD=>
CF g 233 #[v1,bD] iB (fun bB ej=>
ae .num .add w8 (Value.int .i64 1) fun cf=>
aF I4 m5 [cf] ej [w8] H7) (an R)) (
R (.returned v1) H7)
theorem Bf(h:L176 g a0 H R):aj Tryz.prog g 176 #[a0] H R:=
 ak (hn:=(.n .e (.n .e (.n (.n .e (.n (.h 0 [9] [3,7,8] .e .e) .e)) .e)))) Tryz.func176 h (by kernel_rfl)
def L177(g:Gh)(a0 a1:Value)(H:Hp)(R:Rt):Prop:=
n8 H fun v1 H2=>
QM H2 a0 fun v3 H4=>
∃(I5:Jt) (m6:Mt),JE I5 [(Value.int .i64 0)] H4∧∀w9:Value,∀H8:Hp,I5 [w9] H8→∀Tn:Fr,
PV H8 v3 fun v10 dB=>
Ext 0 v10 fun bt=>
Br bt (
FA dB v3 fun aY=>
Ext 1 aY fun br=>
bg dB (.cells #[(Value.int .i64 0),(.slice none 0 0)] 57 (0,0)) fun PI jQ=>
St 2 jQ (pt PI) br fun ej=>
aC 2 ej (pt PI) fun cf=>
CF g 148 #[cf,a1,(Value.bool false)] ej (fun bN gk=>
Ext 0 bN fun bQ=>
Ext 1 bN fun cm=>
bg gk (.cells #[(Value.int .i64 0),(.slice none 0 0)] 57 (0,0)) fun Dk iL=>
St 2 iL (pt Dk) bQ fun gj=>
aC 2 gj (pt PI) fun cM=>
CF g 148 #[cM,a1,(Value.bool true)] gj (fun dh tU=>
Ext 0 dh fun cV=>
Ext 1 dh fun v30=>
bg tU (.cells #[(Value.int .i64 0),(.slice none 0 0)] 57 (0,0)) fun zu rU=>
St 2 rU (pt zu) cV fun mc=>
DR mc fun PO=>
aC 2 PO (pt Dk) fun fJ=>
aC 2 PO (pt zu) fun eW=>
CF g 234 #[fJ] mc (fun eP r8=>
aU r8 PO∧
CF g 234 #[eW] r8 (fun iC l9=>
aU l9 PO∧
∀Zd:Jt,(∀F4:Value,∀mY:Hp,(∀YC:Fr,
DR mY fun Y4=>
aC 2 Y4 (pt Dk) fun kf=>
aC 2 Y4 (pt zu) fun mE=>
iK (.string) mY v1 eP kf fun vy=>
aU vy Y4∧
iK (.string) vy v1 iC mE fun sL=>
aF I5 m6 [F4] sL [w9] H8)→Zd [F4] mY)→
ae .str .neq eP iC fun lW=>
Br lW (
ae .num .add w9 (Value.int .i64 1) fun j9=>
JE Zd [j9] l9) (
JE Zd [w9] l9)) bn) bn) (an R)) (an R)) (
R (.returned (.tuple #[v1,w9])) dB)
theorem Be(h:L177 g a0 a1 H R):aj Tryz.prog g 177 #[a0,a1] H R:=
 ak (hn:=(.n .e (.n .e (.n (.n .e (.n (.h 0 [7] [1,6,18] (.n .e (.n .e (.n (.n .e (.n .e (.n .e (.n (.h 0 [0,2,1,3,4,5] [] .e .e) (.h 1 [7] [1,6,10,12,14,15,18] .e (.h 0 (List.range 8) [] .e .e)))))) .e))) .e) .e)) .e)))) Tryz.func177 h (by kernel_rfl)
def L185(g:Gh)(a0:Value)(H:Hp)(R:Rt):Prop:=
cW 3 1 8 (Value.int .i64 0) H a0 a0 fun v1 H2=>
∃(I3:Jt) (m4:Mt),JE I3 [(Value.int .i64 0)] H2∧∀w7:Value,∀H6:Hp,I3 [w7] H6→∀To:Fr,
ae .num .lss w7 a0 fun v8=>
Br v8 (
ai 1 v1 w7 fun v9=>
St 1 H6 v9 w7 fun cT=>
ae .num .add w7 (Value.int .i64 1) fun v11=>
aF I3 m4 [v11] cT [w7] H6) (
R (.returned v1) H6)
theorem Bd(h:L185 g a0 H R):aj Tryz.prog g 185 #[a0] H R:=
 ak (hn:=(.n .e (.n .e (.n (.n .e (.n (.h 0 [8] [3,7] .e .e) .e)) .e)))) Tryz.func185 h (by kernel_rfl)
def L186(g:Gh)(a0:Value)(H:Hp)(R:Rt):Prop:=
ae .num .lss a0 (Value.int .i64 2) fun v1=>
cw v1 false (fun t2=>
ae .num .gtr a0 (Value.int .i64 1048576) fun v3=>
(H=H∧v3=Value.bool t2)) (fun t2=>(Value.bool true)=Value.bool t2) fun t2=>∀JL:Fr,
Br (Value.bool t2) (
R (.returned (.tuple #[(.pointer none),(Value.int .i64 1)])) H) (
Build Tryz.prog 198 [(0,a0),(3,(Value.int .i64 2))] fun v5=>
bg H (.cells (Value.cells v5) 198 (0,0)) fun b6 H7=>
∃(I8:Jt) (m9:Mt),JE I8 [(Value.int .u32 0)] H7∧∀fZ:Value,∀dB:Hp,I8 [fZ] dB→∀qR:Fr,
ae .num .lss fZ (Value.int .u32 2) fun aY=>
Br aY (
Nil (pt b6) fun br=>
aa 1 br fun bD=>
Ld dB bD fun bB=>
Build Tryz.prog 161 [(0,(Value.int .i64 (-1))),(1,fZ),(2,fZ)] fun bH=>
Build Tryz.prog 291 [(0,bH),(1,(Value.bool true)),(2,(Value.int .u8 255))] fun cf=>
au Tryz.prog 196 1 [(0,cf)] dB fun bN gk=>
App Tryz.prog 291 5 24 (.agg #[(Value.int .i64 0),(Value.int .u32 0),(Value.int .u32 0),(Value.bool false),(Value.int .u8 0)]) gk bB bN fun ca iL=>
Nil (pt b6) fun cy=>
aa 1 cy fun cM=>
St 1 iL cM ca fun iR=>
ae .num .add fZ (Value.int .u32 1) fun dg=>
aF I8 m9 [dg] iR [fZ] dB) (
R (.returned (.tuple #[(pt b6),(Value.int .i64 0)])) dB))
theorem Bc(h:L186 g a0 H R):aj Tryz.prog g 186 #[a0] H R:=
 ak (hn:=(.n .e (.n (.n (.h 0 [] [1] .e .e) .e) (.n .e (.n (.n .e (.n (.h 0 [15] [4] .e .e) .e)) .e))))) Tryz.func186 h (by kernel_rfl)
def L193(g:Gh)(a0:Value)(H:Hp)(R:Rt):Prop:=
bg H (.cells (Value.cells a0) 57 (0,0)) fun b1 H2=>
bg H2 (.cells #[(Value.int .i64 0),(.slice none 0 0)] 57 (0,0)) fun b3 H4=>
aC 2 H4 (pt b1) fun v5=>
au Tryz.prog 28 1 [(0,v5)] H4 fun v6 H7=>
CF g 220 #[v6] H7 (fun v8 H9=>
Un .not v8 fun v10=>
Br v10 (
Build Tryz.prog 57 [] fun v11=>
St 2 H9 (pt b3) v11 fun dI=>
aC 2 dI (pt b3) fun aY=>
R (.returned (.tuple #[aY,(Value.int .i64 5)])) dI) (
aa 0 (pt b1) fun br=>
Ld H9 br fun bD=>
CF g 212 #[bD,(.func (.func 238) #[] #[(pt b1)])] H9 (fun bB ej=>
St 2 ej (pt b3) bB fun dW=>
aC 2 dW (pt b3) fun bN=>
R (.returned (.tuple #[bN,(Value.int .i64 0)])) dW) (an R))) (an R)
theorem Bb(h:L193 g a0 H R):aj Tryz.prog g 193 #[a0] H R:=
 ak (hn:=.e) Tryz.func193 h (by kernel_rfl)
def L194(g:Gh)(a0 a1 a2:Value)(H:Hp)(R:Rt):Prop:=
bg H (.cells (Value.cells a0) 5 (0,0)) fun b1 H2=>
bg H2 (.cells (Value.cells a1) 57 (0,0)) fun b3 H4=>
bg H4 (.cells (Value.cells a2) 57 (0,0)) fun b5 H6=>
bg H6 (.cells #[(Value.int .i64 0),(.slice none 0 0)] 57 (0,0)) fun b7 H8=>
Ld H8 (pt b1) fun v9=>
ae .num .gtr v9 (Value.int .u8 15) fun v10=>
Br v10 (
Build Tryz.prog 57 [] fun v11=>
St 2 H8 (pt b7) v11 fun dI=>
aC 2 dI (pt b7) fun aY=>
R (.returned (.tuple #[aY,(Value.int .i64 1)])) dI) (
aC 2 H8 (pt b3) fun br=>
aC 2 H8 (pt b5) fun bD=>
au Tryz.prog 28 2 [(0,br),(1,bD)] H8 fun bB ej=>
CF g 220 #[bB] ej (fun cf jv=>
Un .not cf fun v20=>
Br v20 (
Build Tryz.prog 57 [] fun bQ=>
St 2 jv (pt b7) bQ fun g7=>
aC 2 g7 (pt b7) fun ca=>
R (.returned (.tuple #[ca,(Value.int .i64 5)])) g7) (
aa 0 (pt b3) fun cK=>
Ld jv cK fun cy=>
CF g 212 #[cy,(.func (.func 239) #[] #[(pt b3),(pt b5),(pt b1)])] jv (fun cM iR=>
St 2 iR (pt b7) cM fun tU=>
aC 2 tU (pt b7) fun cV=>
R (.returned (.tuple #[cV,(Value.int .i64 0)])) tU) (an R))) (an R))
theorem Ba(h:L194 g a0 a1 a2 H R):aj Tryz.prog g 194 #[a0,a1,a2] H R:=
 ak (hn:=.e) Tryz.func194 h (by kernel_rfl)
def L195(g:Gh)(a0 a1:Value)(H:Hp)(R:Rt):Prop:=
ae .ptr .eql a0 (.pointer none) fun v1=>
Br v1 (
R (.returned (.tuple #[(Value.int .u32 0),(Value.int .i64 10)])) H) (
CF g 164 #[a0,a1,(Value.int .u32 0),(Value.int .u32 1)] H (fun v2 H3=>
Ext 0 v2 fun v4=>
Ext 1 v2 fun v5=>
R (.returned (.tuple #[v4,v5])) H3) (an R))
theorem A9(h:L195 g a0 a1 H R):aj Tryz.prog g 195 #[a0,a1] H R:=
 ak (hn:=.e) Tryz.func195 h (by kernel_rfl)
def L196(g:Gh)(a0 a1:Value)(H:Hp)(R:Rt):Prop:=
CF g 197 #[a0,(Value.int .u8 3),a1,(Value.int .u32 0)] H (fun v1 H2=>
Ext 0 v1 fun v3=>
Ext 1 v1 fun v4=>
R (.returned (.tuple #[v3,v4])) H2) (an R)
theorem A8(h:L196 g a0 a1 H R):aj Tryz.prog g 196 #[a0,a1] H R:=
 ak (hn:=.e) Tryz.func196 h (by kernel_rfl)
def L197(g:Gh)(a0 a1 a2 a3:Value)(H:Hp)(R:Rt):Prop:=
bg H (.cells (Value.cells a1) 5 (0,0)) fun b1 H2=>
ae .ptr .eql a0 (.pointer none) fun v3=>
Br v3 (
R (.returned (.tuple #[(Value.int .u32 0),(Value.int .i64 10)])) H2) (
Ld H2 (pt b1) fun v4=>
ae .num .gtr v4 (Value.int .u8 15) fun v5=>
Br v5 (
R (.returned (.tuple #[(Value.int .u32 0),(Value.int .i64 1)])) H2) (
au Tryz.prog 27 2 [(0,a2),(1,a3)] H2 fun v6 H7=>
CF g 240 #[a0,v6] H7 (fun v8 H9=>
Ext 0 v8 fun v10=>
Ext 1 v8 fun v11=>
ae .num .neq v11 (Value.int .i64 0) fun bt=>
Br bt (
R (.returned (.tuple #[(Value.int .u32 0),v11])) H9) (
Build Tryz.prog 318 [(0,a2),(1,a3)] fun aY=>
CF g 241 #[v10,aY,(.func (.func 242) #[] #[(pt b1)])] H9 (fun br dy=>
Ext 0 br fun bB=>
Ext 1 br fun bH=>
R (.returned (.tuple #[bB,bH])) dy) (an R))) (an R)))
theorem A7(h:L197 g a0 a1 a2 a3 H R):aj Tryz.prog g 197 #[a0,a1,a2,a3] H R:=
 ak (hn:=.e) Tryz.func197 h (by kernel_rfl)
def L198(g:Gh)(a0 a1 a2 a3:Value)(H:Hp)(R:Rt):Prop:=
au Tryz.prog 27 3 [(0,a1),(1,a2),(2,a3)] H fun v1 H2=>
CF g 240 #[a0,v1] H2 (fun v3 H4=>
Ext 0 v3 fun v5=>
Ext 1 v3 fun v6=>
ae .num .neq v6 (Value.int .i64 0) fun v7=>
Br v7 (
R (.returned (.tuple #[(Value.int .u32 0),v6])) H4) (
Build Tryz.prog 318 [(0,a1),(1,a2),(2,a3)] fun v8=>
CF g 241 #[v5,v8,(.func (.func 244) #[] #[])] H4 (fun v9 cT=>
Ext 0 v9 fun v11=>
Ext 1 v9 fun bt=>
R (.returned (.tuple #[v11,bt])) cT) (an R))) (an R)
theorem A6(h:L198 g a0 a1 a2 a3 H R):aj Tryz.prog g 198 #[a0,a1,a2,a3] H R:=
 ak (hn:=.e) Tryz.func198 h (by kernel_rfl)
def L199(g:Gh)(a0 a1 a2 a3:Value)(H:Hp)(R:Rt):Prop:=
CF g 245 #[a0,a2] H (fun v1 H2=>
Ext 0 v1 fun v3=>
Ext 1 v1 fun v4=>
ae .ptr .neq a0 (.pointer none) fun v5=>
cw v5 true (fun t6=>
Un .not v4 fun v7=>
(H2=H2∧v7=Value.bool t6)) (fun t6=>(Value.bool false)=Value.bool t6) fun t6=>∀MY:Fr,
Br (Value.bool t6) (
R (.returned (.tuple #[(Value.int .u32 0),(Value.int .i64 2)])) H2) (
au Tryz.prog 27 1 [(0,a1)] H2 fun v9 cT=>
CF g 246 #[a0,v3,v9] cT (fun v11 dI=>
ae .num .neq v11 (Value.int .i64 0) fun aY=>
Br aY (
R (.returned (.tuple #[(Value.int .u32 0),v11])) dI) (
CF g 248 #[a0,a1,a2,a3] dI (fun br dy=>
Ext 0 br fun bB=>
Ext 1 br fun bH=>
Ext 2 br fun cf=>
CF g 247 #[bB,bH,cf] dy (fun bN gk=>
Ext 0 bN fun bQ=>
Ext 1 bN fun cm=>
R (.returned (.tuple #[bQ,cm])) gk) (an R)) (an R))) (an R))) (an R)
theorem A5(h:L199 g a0 a1 a2 a3 H R):aj Tryz.prog g 199 #[a0,a1,a2,a3] H R:=
 ak (hn:=(.n .e (.n .e (.n (.n (.h 0 [] [1] .e .e) .e) .e)))) Tryz.func199 h (by kernel_rfl)
def L200(g:Gh)(a0 a1 a2:Value)(H:Hp)(R:Rt):Prop:=
CF g 249 #[a0,a1,a2,(Value.bool true)] H (fun v1 H2=>
Ext 0 v1 fun v3=>
Ext 1 v1 fun v4=>
R (.returned (.tuple #[v3,v4])) H2) (an R)
theorem A4(h:L200 g a0 a1 a2 H R):aj Tryz.prog g 200 #[a0,a1,a2] H R:=
 ak (hn:=.e) Tryz.func200 h (by kernel_rfl)
def L201(g:Gh)(a0 a1 a2:Value)(H:Hp)(R:Rt):Prop:=
CF g 249 #[a0,a1,a2,(Value.bool false)] H (fun v1 H2=>
Ext 0 v1 fun v3=>
Ext 1 v1 fun v4=>
R (.returned (.tuple #[v3,v4])) H2) (an R)
theorem A3(h:L201 g a0 a1 a2 H R):aj Tryz.prog g 201 #[a0,a1,a2] H R:=
 ak (hn:=.e) Tryz.func201 h (by kernel_rfl)
def L202(g:Gh)(a0 a1 a2 a3:Value)(H:Hp)(R:Rt):Prop:=
CF g 245 #[a0,a2] H (fun v1 H2=>
Ext 0 v1 fun v3=>
Ext 1 v1 fun v4=>
ae .ptr .neq a0 (.pointer none) fun v5=>
cw v5 true (fun t6=>
Un .not v4 fun v7=>
(H2=H2∧v7=Value.bool t6)) (fun t6=>(Value.bool false)=Value.bool t6) fun t6=>∀MY:Fr,
Br (Value.bool t6) (
R (.returned (.tuple #[(Value.int .u32 0),(Value.int .i64 2)])) H2) (
au Tryz.prog 27 2 [(0,a1),(1,a3)] H2 fun v9 cT=>
CF g 246 #[a0,v3,v9] cT (fun v11 dI=>
ae .num .neq v11 (Value.int .i64 0) fun aY=>
Br aY (
R (.returned (.tuple #[(Value.int .u32 0),v11])) dI) (
CF g 248 #[a0,a1,a2,(Value.bool false)] dI (fun br dy=>
Ext 0 br fun bB=>
Ext 1 br fun bH=>
Ext 2 br fun cf=>
CF g 247 #[bB,bH,cf] dy (fun bN gk=>
Ext 0 bN fun bQ=>
Ext 1 bN fun cm=>
ae .num .neq cm (Value.int .i64 0) fun ca=>
Br ca (
R (.returned (.tuple #[(Value.int .u32 0),cm])) gk) (
CF g 248 #[a0,a1,a2,(Value.bool true)] gk (fun cK gj=>
Ext 0 cK fun cM=>
Ext 1 cK fun dh=>
Ext 2 cK fun dg=>
CF g 247 #[cM,dh,dg] gj (fun cV p9=>
Ext 0 cV fun dQ=>
Ext 1 cV fun eX=>
ae .num .neq eX (Value.int .i64 0) fun fR=>
Br fR (
j6 Tryz.prog g 131 #[a0,bQ] p9 fun vz=>
R (.returned (.tuple #[(Value.int .u32 0),eX])) vz) (
CF g 198 #[a0,a3,dQ,bQ] p9 (fun fJ BN=>
Ext 0 fJ fun eP=>
Ext 1 fJ fun ia=>
j6 Tryz.prog g 131 #[a0,dQ] BN fun FY=>
j6 Tryz.prog g 131 #[a0,bQ] FY fun l9=>
R (.returned (.tuple #[eP,ia])) l9) Je)) Je) Je)) Je) Je)) Je)) Je
theorem A2(h:L202 g a0 a1 a2 a3 H R):aj Tryz.prog g 202 #[a0,a1,a2,a3] H R:=
 yD (hn:=(.n .e (.n .e (.n (.n (.h 0 [] [1] .e .e) .e) (.n .e (.n .e (.n .e (.n .e (.n .e (.n .e (.n .e .e))))))))))) Tryz.func202 h (by kernel_rfl)
def L203(g:Gh)(a0 a1:Value)(H:Hp)(R:Rt):Prop:=
CF g 206 #[a0,a1] H (fun v1 H2=>
ae .num .neq v1 (Value.int .i64 0) fun v3=>
Br v3 (
R (.returned (.tuple #[(.slice none 0 0),v1])) H2) (
Nil a0 fun v4=>
aa 0 v4 fun v5=>
Ld H2 v5 fun v6=>
ai 1 v6 a1 fun v7=>
Ld H2 v7 fun v8=>
CF g 251 #[v8] H2 (fun v9 cT=>
CF g 250 #[v9] cT (fun v11 dI=>
R (.returned (.tuple #[v11,(Value.int .i64 0)])) dI) (an R)) (an R))) (an R)
theorem A1(h:L203 g a0 a1 H R):aj Tryz.prog g 203 #[a0,a1] H R:=
 ak (hn:=.e) Tryz.func203 h (by kernel_rfl)
def L204(g:Gh)(a0 a1 a2:Value)(H:Hp)(R:Rt):Prop:=
Nil a0 fun v1=>
aa 0 v1 fun v2=>
CF g 174 #[v2,a1] H (fun v3 H4=>
bg H4 (.cells #[(Value.int .i64 0),(Value.int .u32 0),(Value.int .u32 0)] 161 (0,0)) fun b5 H6=>
St 3 H6 (pt b5) v3 fun H7=>
aa 0 (pt b5) fun v8=>
Ld H7 v8 fun v9=>
ae .num .eql v9 a2 fun v10=>
Br v10 (
aa 1 (pt b5) fun v11=>
Ld H7 v11 fun bt=>
aa 2 (pt b5) fun aY=>
Ld H7 aY fun br=>
R (.returned (.tuple #[bt,br])) H7) (
R (.returned (.tuple #[a1,a1])) H7)) (an R)
theorem A0(h:L204 g a0 a1 a2 H R):aj Tryz.prog g 204 #[a0,a1,a2] H R:=
 ak (hn:=.e) Tryz.func204 h (by kernel_rfl)
def L205(g:Gh)(a0 a1:Value)(H:Hp)(R:Rt):Prop:=
bg H (.cells (Value.cells a1) 161 (0,0)) fun b1 H2=>
aa 0 (pt b1) fun v3=>
Ld H2 v3 fun v4=>
CF g 206 #[a0,v4] H2 (fun v5 H6=>
ae .num .neq v5 (Value.int .i64 0) fun v7=>
Br v7 (
R (.returned (.tuple #[(Value.int .u32 0),(Value.bool false)])) H6) (
Nil a0 fun v8=>
aa 0 v8 fun v9=>
Ld H6 v9 fun v10=>
aa 0 (pt b1) fun v11=>
Ld H6 v11 fun bt=>
ai 1 v10 bt fun aY=>
Ld H6 aY fun br=>
aC 3 H6 (pt b1) fun bD=>
iA Tryz.prog 161 (Value.int .u32 0) true H6 br bD fun bB=>
Ext 0 bB fun bH=>
Ext 1 bB fun cf=>
R (.returned (.tuple #[bH,cf])) H6)) (an R)
theorem AZ(h:L205 g a0 a1 H R):aj Tryz.prog g 205 #[a0,a1] H R:=
 ak (hn:=.e) Tryz.func205 h (by kernel_rfl)
def L206(g:Gh)(a0 a1:Value)(H:Hp)(R:Rt):Prop:=
ae .ptr .eql a0 (.pointer none) fun v1=>
Br v1 (
R (.returned (Value.int .i64 10)) H) (
ae .num .lss a1 (Value.int .i64 0) fun v2=>
cw v2 false (fun t3=>
Nil a0 fun v4=>
aa 0 v4 fun v5=>
Ld H v5 fun v6=>
bA v6 fun v7=>
ae .num .geq a1 v7 fun v8=>
(H=H∧v8=Value.bool t3)) (fun t3=>(Value.bool true)=Value.bool t3) fun t3=>∀QK:Fr,
Br (Value.bool t3) (
R (.returned (Value.int .i64 2)) H) (
R (.returned (Value.int .i64 0)) H))
theorem AY(h:L206 g a0 a1 H R):aj Tryz.prog g 206 #[a0,a1] H R:=
 ak (hn:=(.n .e (.n (.n (.n .e (.n .e (.n (.h 0 [] [1] .e .e) .e))) .e) .e))) Tryz.func206 h (by kernel_rfl)
def L207(g:Gh)(a0 a1:Value)(H:Hp)(R:Rt):Prop:=
bg H (.cells (Value.cells a1) 161 (0,0)) fun b1 H2=>
DR H2 fun R3=>
Nil a0 fun v4=>
aa 0 v4 fun v5=>
Ld R3 v5 fun v6=>
aC 3 R3 (pt b1) fun v7=>
CF g 252 #[v6,v7] H2 (fun v8 H9=>
aU H9 R3∧
Ext 0 v8 fun v10=>
Ext 1 v8 fun v11=>
∃(BJ:Jt) (Oc:Mt),JE BJ [] H9∧∀dy:Hp,BJ [] dy→∀qQ:Fr,
aW .i64 v10 fun bB=>
Nil a0 fun bH=>
aa 2 bH fun cf=>
Ld dy cf fun bN=>
bA bN fun v20=>
ae .num .geq bB v20 fun bQ=>
Br bQ (
Nil a0 fun cm=>
aa 2 cm fun ca=>
Ld dy ca fun cK=>
au Tryz.prog 113 1 [(0,(Value.int .i32 0))] dy fun cy gH=>
App Tryz.prog 21 1 4 (Value.int .i32 0) gH cK cy fun cV p9=>
Nil a0 fun dQ=>
aa 2 dQ fun eX=>
St 1 p9 eX cV fun mc=>
Nil a0 fun fS=>
aa 3 fS fun fJ=>
Ld mc fJ fun eW=>
au Tryz.prog 113 1 [(0,(Value.int .i32 0))] mc fun eP r8=>
App Tryz.prog 21 1 4 (Value.int .i32 0) r8 eW eP fun gy BM=>
Nil a0 fun iN=>
aa 3 iN fun jx=>
St 1 BM jx gy fun Qb=>
aF BJ Oc [] Qb [] dy) (
DR dy fun R46=>
Nil a0 fun mE=>
aa 2 mE fun mg=>
Ld R46 mg fun lX=>
Nil a0 fun lW=>
aa 3 lW fun j9=>
Ld R46 j9 fun ki=>
ai 1 lX v10 fun qm=>
St 1 dy qm (Value.int .i32 0) fun FW=>
ai 1 ki v10 fun py=>
St 1 FW py (Value.int .i32 0) fun Ni=>
aa 1 (pt b1) fun sU=>
Ld Ni sU fun ua=>
CF g 139 #[a0,ua] Ni (fun sj H60=>
aa 2 (pt b1) fun qi=>
Ld H60 qi fun sS=>
CF g 139 #[a0,sS] H60 (fun qh FV=>
DR FV fun R65=>
Nil a0 fun si=>
aa 1 si fun tZ=>
Ld R65 tZ fun qg=>
aC 3 R65 (pt b1) fun qe=>
CF g 141 #[qg,qe,v10] FV (fun rY Vd=>
R (.returned v10) Vd) bn) (an R)) (an R))) bn
theorem AX(h:L207 g a0 a1 H R):aj Tryz.prog g 207 #[a0,a1] H R:=
 ak (hn:=(.n .e (.n (.h 0 (List.range 11) [] .e .e) (.n (.n (.h 0 [] [0,3,5] .e .e) .e) (.n (.h 0 (List.range 14) [] .e .e) (.n .e (.n .e (.n (.h 0 (List.range 7) [] .e .e) .e)))))))) Tryz.func207 h (by kernel_rfl)
def L208(g:Gh)(a0 a1:Value)(H:Hp)(R:Rt):Prop:=
bg H (.cells (Value.cells a1) 161 (0,0)) fun b1 H2=>
aa 0 (pt b1) fun v3=>
Ld H2 v3 fun v4=>
ae .num .lss v4 (Value.int .i64 0) fun v5=>
cw v5 false (fun t6=>
aa 0 (pt b1) fun v7=>
Ld H2 v7 fun v8=>
ae .num .geq v8 (Value.int .i64 64) fun v9=>
(H2=H2∧v9=Value.bool t6)) (fun t6=>(Value.bool true)=Value.bool t6) fun t6=>∀qR:Fr,
Br (Value.bool t6) (
R (.returned (Value.int .i64 2)) H2) (
∀P2:Jt,(∀pN:Value,∀fj:Hp,(∀Ls:Fr,
Br pN (
R (.returned (Value.int .i64 3)) fj) (
R (.returned (Value.int .i64 0)) fj))→P2 [pN] fj)→
aa 1 (pt b1) fun bD=>
Ld H2 bD fun bB=>
CF g 253 #[a0,bB] H2 (fun bH dW=>
Un .not bH fun bN=>
Split bN false (
aa 2 (pt b1) fun v20=>
Ld dW v20 fun bQ=>
CF g 253 #[a0,bQ] dW (fun cm jV=>
Un .not cm fun cK=>
aA (Value.bool false) (Value.bool true) cK fun cy=>
JE P2 [cy] jV) (an R)) (
aA (Value.bool true) (Value.bool true) undef fun cM=>
JE P2 [cM] dW)) (an R))
theorem AW(h:L208 g a0 a1 H R):aj Tryz.prog g 208 #[a0,a1] H R:=
 ak (hn:=(.n .e (.n (.n (.n (.h 0 [] [1] .e .e) (.n .e (.h 1 [14] [] .e .e))) .e) .e))) Tryz.func208 h (by kernel_rfl)
def L209(g:Gh)(a0 a1:Value)(H:Hp)(R:Rt):Prop:=
∀J1:Jt,(∀w4:Value,∀H3:Hp,(∀Tw:Fr,
Br w4 (
R (.returned (Value.int .i64 3)) H3) (
R (.returned (Value.int .i64 0)) H3))→J1 [w4] H3)→
ae .num .leq a1 (Value.int .u32 1) fun v5=>
Split v5 false (
CF g 253 #[a0,a1] H (fun v6 H7=>
Un .not v6 fun v8=>
aA (Value.bool false) (Value.bool true) v8 fun v9=>
JE J1 [v9] H7) (an R)) (
aA (Value.bool true) (Value.bool true) undef fun v10=>
JE J1 [v10] H)
theorem AV(h:L209 g a0 a1 H R):aj Tryz.prog g 209 #[a0,a1] H R:=
 ak (hn:=(.n .e (.n (.h 1 [12] [] .e .e) .e))) Tryz.func209 h (by kernel_rfl)
def L210(g:Gh)(a0 a1:Value)(H:Hp)(R:Rt):Prop:=
ae .ptr .eql a0 (.pointer none) fun v1=>
Br v1 (
R (.returned (Value.int .i64 10)) H) (
CF g 209 #[a0,a1] H (fun v2 H3=>
ae .num .neq v2 (Value.int .i64 0) fun v4=>
Br v4 (
R (.returned v2) H3) (
Nil a0 fun v5=>
aa 1 v5 fun v6=>
Ld H3 v6 fun v7=>
Build Tryz.prog 291 [] fun v8=>
ai 5 v7 a1 fun v9=>
St 5 H3 v9 v8 fun cT=>
Nil a0 fun v11=>
aa 2 v11 fun bt=>
Ld cT bt fun aY=>
au Tryz.prog 27 1 [(0,a1)] cT fun br dy=>
App Tryz.prog 77 1 4 (Value.int .u32 0) dy aY br fun cf jv=>
Nil a0 fun v20=>
aa 2 v20 fun bQ=>
St 1 jv bQ cf fun g7=>
Nil a0 fun ca=>
aa 3 ca fun cK=>
Ld g7 cK fun cy=>
ae .num .sub cy (Value.int .i64 1) fun cM=>
Nil a0 fun dh=>
aa 3 dh fun dg=>
St 1 g7 dg cM fun me=>
R (.returned (Value.int .i64 0)) me)) (an R))
theorem AU(h:L210 g a0 a1 H R):aj Tryz.prog g 210 #[a0,a1] H R:=
 ak (hn:=.e) Tryz.func210 h (by kernel_rfl)
def L211(g:Gh)(a0:Value)(H:Hp)(R:Rt):Prop:=
ae .num .lss a0 (Value.int .i64 0) fun v1=>
Br v1 (
R (.returned (Value.int .i64 1)) H) (
ae .num .gtr a0 (Value.int .i64 16) fun v2=>
Br v2 (
R (.returned (Value.int .i64 6)) H) (
R (.returned (Value.int .i64 0)) H))
theorem AT(h:L211 g a0 H R):aj Tryz.prog g 211 #[a0] H R:=
 ak (hn:=.e) Tryz.func211 h (by kernel_rfl)
def L212(g:Gh)(a0 a1:Value)(H:Hp)(R:Rt):Prop:=
bg H (.cells #[(Value.int .i64 0),(.slice none 0 0)] 57 (0,0)) fun b1 H2=>
CF g 254 #[a0] H2 (fun v3 H4=>
cW 50 1 8 (Value.int .u64 0) H4 v3 v3 fun v5 H6=>
Build Tryz.prog 57 [(0,a0),(1,v5)] fun v7=>
bg H6 (.cells #[(Value.int .i64 0),(.slice none 0 0)] 57 (0,0)) fun b8 H9=>
St 2 H9 (pt b8) v7 fun cT=>
aa 1 (pt b8) fun v11=>
Ld cT v11 fun bt=>
bA bt fun aY=>
∃(Ji:Jt) (Rz:Mt),JE Ji [(Value.int .i64 0)] cT∧∀gZ:Value,∀ej:Hp,Ji [gZ] ej→∀Pu:Fr,
ae .num .lss gZ aY fun bN=>
Br bN (
DR ej fun ya=>
aa 1 (pt b8) fun bQ=>
Ld ya bQ fun cm=>
cg Tryz.prog g a1 #[gZ] ej (fun ca iL=>
aU iL ya∧
CF g 255 #[a0] iL (fun cy gH=>
aU gH ya∧
ae .num .and ca cy fun dh=>
ai 1 cm gZ fun dg=>
St 1 gH dg dh fun me=>
ae .num .add gZ (Value.int .i64 1) fun v30=>
aF Ji Rz [v30] me [gZ] ej) bn) bn) (
aC 2 ej (pt b8) fun dQ=>
St 2 ej (pt b1) dQ fun rU=>
aC 2 rU (pt b1) fun fR=>
R (.returned fR) rU)) (an R)
theorem AS(h:L212 g a0 a1 H R):aj Tryz.prog g 212 #[a0,a1] H R:=
 ak (hn:=(.n .e (.n .e (.n (.n .e (.n (.h 0 [15] [0,1,4,5,14] (.n .e (.n .e (.n (.n (.n .e (.h 0 [0,1,2,3,4,6,5,7,8,9,10] [] .e .e)) .e) .e))) .e) .e)) .e)))) Tryz.func212 h (by kernel_rfl)
def L213(g:Gh)(a0 a1:Value)(H:Hp)(R:Rt):Prop:=
Ld H a1 fun v1=>
Br v1 (
R (.returned (Value.int .u64 18446744073709551615)) H) (
R (.returned (Value.int .u64 0)) H)
theorem AR(h:L213 g a0 a1 H R):aj Tryz.prog g 213 #[a0,a1] H R:=
 ak (hn:=.e) Tryz.func213 h (by kernel_rfl)
def L214(g:Gh)(a0 a1:Value)(H:Hp)(R:Rt):Prop:=
bg H (.cells (Value.cells a0) 57 (0,0)) fun b1 H2=>
aC 2 H2 (pt b1) fun v3=>
au Tryz.prog 28 1 [(0,v3)] H2 fun v4 H5=>
CF g 220 #[v4] H5 (fun v6 H7=>
Un .not v6 fun v8=>
Br v8 (
R (.returned (Value.int .i64 5)) H7) (
ae .num .lss a1 (Value.int .i64 0) fun v9=>
cw v9 false (fun t10=>
aa 0 (pt b1) fun v11=>
Ld H7 v11 fun bt=>
ae .num .geq a1 bt fun aY=>
(H7=H7∧aY=Value.bool t10)) (fun t10=>(Value.bool true)=Value.bool t10) fun t10=>∀qQ:Fr,
Br (Value.bool t10) (
R (.returned (Value.int .i64 2)) H7) (
R (.returned (Value.int .i64 0)) H7))) (an R)
theorem AQ(h:L214 g a0 a1 H R):aj Tryz.prog g 214 #[a0,a1] H R:=
 ak (hn:=(.n .e (.n (.n (.n .e (.n .e (.n (.h 0 [] [1] .e .e) .e))) .e) .e))) Tryz.func214 h (by kernel_rfl)
def L215(g:Gh)(a0 a1 a2:Value)(H:Hp)(R:Rt):Prop:=
bg H (.cells (Value.cells a0) 57 (0,0)) fun b1 H2=>
bg H2 (.cells (Value.cells a1) 3 (0,0)) fun b3 H4=>
bg H4 (.cells (Value.cells a2) 4 (0,0)) fun b5 H6=>
bg H6 (.cells #[(Value.int .i64 0),(.slice none 0 0)] 57 (0,0)) fun b7 H8=>
aa 0 (pt b1) fun v9=>
Ld H8 v9 fun v10=>
CF g 212 #[v10,(.func (.func 256) #[] #[(pt b3),(pt b5),(pt b1)])] H8 (fun v11 dI=>
St 2 dI (pt b7) v11 fun fj=>
aC 2 fj (pt b7) fun br=>
R (.returned br) fj) (an R)
theorem AP(h:L215 g a0 a1 a2 H R):aj Tryz.prog g 215 #[a0,a1,a2] H R:=
 ak (hn:=.e) Tryz.func215 h (by kernel_rfl)
def L218(g:Gh)(a0 a1:Value)(H:Hp)(R:Rt):Prop:=
Ld H a1 fun v1=>
CF g 219 #[v1,a0] H (fun v2 H3=>
R (.returned v2) H3) (an R)
theorem AO(h:L218 g a0 a1 H R):aj Tryz.prog g 218 #[a0,a1] H R:=
 ak (hn:=.e) Tryz.func218 h (by kernel_rfl)
def L219(g:Gh)(a0 a1:Value)(H:Hp)(R:Rt):Prop:=
ae .num .geq a0 (Value.int .i64 6) fun v1=>
Br v1 (
aW .u64 a1 fun v2=>
ae .num .sub a0 (Value.int .i64 6) fun v3=>
ae .num .shr v2 v3 fun v4=>
ae .num .and v4 (Value.int .u64 1) fun v5=>
Un .neg v5 fun v6=>
R (.returned v6) H) (
∃(I7:Jt) (m8:Mt),JE I7 [(Value.int .u64 0),(Value.int .i64 0)] H∧∀nk fZ:Value,∀cT:Hp,I7 [nk,fZ] cT→∀QK:Fr,
ae .num .lss fZ (Value.int .i64 64) fun aY=>
Br aY (
ae .num .shr fZ a0 fun br=>
ae .num .and br (Value.int .i64 1) fun bD=>
aW .u64 bD fun bB=>
ae .num .shl bB fZ fun bH=>
ae .num .or nk bH fun cf=>
ae .num .add fZ (Value.int .i64 1) fun bN=>
aF I7 m8 [cf,bN] cT [nk,fZ] cT) (
R (.returned nk) cT))
theorem AN(h:L219 g a0 a1 H R):aj Tryz.prog g 219 #[a0,a1] H R:=
 ak (hn:=(.n .e (.n .e (.n .e (.n (.n .e (.n (.h 0 [5,16] [0] .e .e) .e)) .e))))) Tryz.func219 h (by kernel_rfl)
def L220(g:Gh)(a0:Value)(H:Hp)(R:Rt):Prop:=
bA a0 fun v1=>
∃(I2:Jt) (m3:Mt),JE I2 [(Value.int .i64 0)] H∧∀w6:Value,∀H5:Hp,I2 [w6] H5→∀JL:Fr,
ae .num .lss w6 v1 fun v7=>
Br v7 (
ai 2 a0 w6 fun v8=>
aC 2 H5 v8 fun v9=>
bg H5 (.cells #[(Value.int .i64 0),(.slice none 0 0)] 57 (0,0)) fun vp dB=>
St 2 dB (pt vp) v9 fun dI=>
∀xR:Jt,(∀j8:Value,∀dy:Hp,(∀qQ:Fr,
Br j8 (
R (.returned (Value.bool false)) dy) (
ae .num .add w6 (Value.int .i64 1) fun bH=>
aF I2 m3 [bH] dy [w6] H5))→xR [j8] dy)→
DR dI fun L1=>
aC 2 L1 (pt vp) fun bN=>
∀Z5:Hp,
CF (g.add Z5) 232 #[bN] dI (fun bQ g7=>
aU g7 L1∧
Un .not bQ fun ca=>
Br ca (
JE xR [(Value.bool true)] g7) (
aa 0 (pt vp) fun cK=>
Ld L1 cK fun cy=>
ai 2 a0 (Value.int .i64 0) fun cM=>
aa 0 cM fun dh=>
Ld L1 dh fun dg=>
ae .num .neq cy dg fun cV=>
aA (Value.bool false) (Value.bool true) cV fun v30=>
JE xR [v30] g7)) bn) (
R (.returned (Value.bool true)) H5)
theorem AM(h:L220 g a0 H R):aj Tryz.prog g 220 #[a0] H R:=
 ak (hn:=(.n .e (.n (.n .e (.n (.h 0 [7] [0,5,6] (.n .e (.n .e (.n (.n (.n .e (.h 1 [22] [0,5,6,7] (.h 1 [] [] (.h 0 [0] [] (.h 0 [1] [] (.h 0 [2] [] (.h 2 [3] [] (.h 0 [4] [] (.h 0 [5] [] (.h 0 [6] [] (.h 0 [7] [] (.h 0 [8] [] (.h 0 [9] [] (.h 0 [10] [] (.h 3 [11] [] .e .e) .e) .e) .e) .e) .e) .e) .e) (.h 0 [4] [] (.h 0 [5] [] (.h 0 [6] [] (.h 0 [7] [] (.h 0 [8] [] (.h 0 [9] [] (.h 0 [10] [] (.h 0 [11] [] .e .e) .e) .e) .e) .e) .e) .e) .e)) .e) .e) .e) .e) .e)) .e) .e))) .e) .e)) .e))) Tryz.func220 h (by kernel_rfl)
def L221(g:Gh)(a0 a1 a2 a3:Value)(H:Hp)(R:Rt):Prop:=
aa 1 a1 fun v1=>
Ld H v1 fun v2=>
ai 1 v2 a0 fun v3=>
Ld H v3 fun v4=>
aa 1 a2 fun v5=>
Ld H v5 fun v6=>
ai 1 v6 a0 fun v7=>
Ld H v7 fun v8=>
ae .num .and v4 v8 fun v9=>
aa 1 a1 fun v10=>
Ld H v10 fun v11=>
ai 1 v11 a0 fun bt=>
Ld H bt fun aY=>
Un .xor aY fun br=>
aa 1 a3 fun bD=>
Ld H bD fun bB=>
ai 1 bB a0 fun bH=>
Ld H bH fun cf=>
ae .num .and br cf fun bN=>
ae .num .or v9 bN fun v20=>
R (.returned v20) H
theorem AL(h:L221 g a0 a1 a2 a3 H R):aj Tryz.prog g 221 #[a0,a1,a2,a3] H R:=
 ak (hn:=.e) Tryz.func221 h (by kernel_rfl)
def L225(g:Gh)(a0 a1 a2 a3:Value)(H:Hp)(R:Rt):Prop:=
CF g 113 #[a0,a1] H (fun v1 H2=>
Un .not v1 fun v3=>
Br v3 (
R (.returned (Value.int .i64 2)) H2) (
∀J4:Jt,(∀w7:Value,∀H6:Hp,(∀To:Fr,
Br w7 (
R (.returned (Value.int .i64 3)) H6) (
∀J8:Jt,(∀nk:Value,∀cT:Hp,(∀QK:Fr,
Br nk (
R (.returned (Value.int .i64 4)) cT) (
R (.returned (Value.int .i64 0)) cT))→J8 [nk] cT)→
DR H6 fun U9=>
ae .num .neq a2 a3 fun aY=>
Br aY (
Nil a0 fun br=>
aa 6 br fun bD=>
Ld U9 bD fun bB=>
ai 1 bB a1 fun bH=>
Ld U9 bH fun cf=>
∀F19:Hp,
CF (g.add F19) 257 #[a0,a2] H6 (fun v20 gI=>
aU gI U9∧
∀F22:Hp,
CF (g.add F22) 257 #[a0,a3] gI (fun ca iL=>
aU iL U9∧
PW v20 ca fun cy=>
ae .num .geq cf cy fun cM=>
aA (Value.bool true) cM (Value.bool false) fun dh=>
JE J8 [dh] iL) bn) bn) (
JE J8 [(Value.bool false)] H6)))→J4 [w7] H6)→
Nil a0 fun dg=>
aa 0 dg fun cV=>
CF g 173 #[cV,a2] H2 (fun v30 ju=>
Un .not v30 fun eX=>
Split eX false (
Nil a0 fun fR=>
aa 0 fR fun fS=>
CF g 173 #[fS,a3] ju (fun fJ BN=>
Un .not fJ fun eP=>
aA (Value.bool false) (Value.bool true) eP fun ia=>
JE J4 [ia] BN) (an R)) (
aA (Value.bool true) (Value.bool true) undef fun iC=>
JE J4 [iC] ju)) (an R))) (an R)
theorem AK(h:L225 g a0 a1 a2 a3 H R):aj Tryz.prog g 225 #[a0,a1,a2,a3] H R:=
 ak (hn:=(.n .e (.n (.n (.n .e (.n .e (.h 1 [14] [0,1,2,3] .e (.n .e (.h 1 [29] [] (.h 1 [] [] (.h 0 [0] [] (.h 0 [1] [] (.h 0 [2] [] (.h 2 [3] [] (.h 0 [4] [] (.h 0 [5] [] (.h 0 [6] [] (.h 0 [7] [] (.h 0 [8] [] (.h 0 [9] [] (.h 0 [10] [] (.h 0 [11] [] (.h 0 [12] [] (.h 0 [14] [] (.h 0 [15] [] (.h 0 [13] [] (.h 0 [16] [] (.h 0 [17] [] (.h 0 [18] [] (.h 0 [19] [] (.h 0 [20] [] .e .e) .e) .e) .e) .e) .e) .e) .e) .e) .e) .e) .e) .e) .e) .e) .e) .e) (.h 0 [4] [] (.h 0 [5] [] (.h 0 [6] [] (.h 0 [7] [] (.h 0 [8] [] (.h 0 [9] [] (.h 0 [10] [] (.h 0 [11] [] (.h 0 [12] [] (.h 0 [13] [] (.h 0 [14] [] (.h 0 [15] [] (.h 0 [16] [] (.h 0 [17] [] (.h 0 [18] [] (.h 3 [19] [] (.h 3 [20] [] .e .e) .e) .e) .e) .e) .e) .e) .e) .e) .e) .e) .e) .e) .e) .e) .e) .e)) .e) .e) .e) .e) .e))))) .e) .e))) Tryz.func225 h (by kernel_rfl)
def L226(g:Gh)(a0 a1 a2 a3:Value)(H:Hp)(R:Rt):Prop:=
ae .num .eql a2 a3 fun v1=>
Br v1 (
R (.returned (.tuple #[a2,(Value.bool true)])) H) (
Nil a0 fun v2=>
aa 0 v2 fun v3=>
aa 1 v3 fun v4=>
Ld H v4 fun v5=>
Build Tryz.prog 161 [(0,a1),(1,a2),(2,a3)] fun v6=>
CF g 205 #[v5,v6] H (fun v7 H8=>
Ext 0 v7 fun v9=>
Ext 1 v7 fun v10=>
R (.returned (.tuple #[v9,v10])) H8) (an R))
theorem AJ(h:L226 g a0 a1 a2 a3 H R):aj Tryz.prog g 226 #[a0,a1,a2,a3] H R:=
 ak (hn:=.e) Tryz.func226 h (by kernel_rfl)
def L231(g:Gh)(a0 a1:Value)(H:Hp)(R:Rt):Prop:=
bg H (.cells #[(Value.int .i64 0),(Value.int .u32 0),(Value.int .u32 0)] 161 (0,0)) fun b1 H2=>
ae .ptr .eql a0 (.pointer none) fun v3=>
Br v3 (
Build Tryz.prog 161 [] fun v4=>
St 3 H2 (pt b1) v4 fun H5=>
aC 3 H5 (pt b1) fun v6=>
R (.returned (.tuple #[v6,(Value.int .i64 10)])) H5) (
CF g 253 #[a0,a1] H2 (fun v7 H8=>
Un .not v7 fun v9=>
Br v9 (
Build Tryz.prog 161 [] fun v10=>
St 3 H8 (pt b1) v10 fun dB=>
aC 3 dB (pt b1) fun bt=>
R (.returned (.tuple #[bt,(Value.int .i64 3)])) dB) (
Nil a0 fun aY=>
aa 1 aY fun br=>
Ld H8 br fun bD=>
ai 5 bD a1 fun bB=>
aa 0 bB fun bH=>
aC 3 H8 bH fun cf=>
St 3 H8 (pt b1) cf fun jv=>
aC 3 jv (pt b1) fun v20=>
R (.returned (.tuple #[v20,(Value.int .i64 0)])) jv)) (an R))
theorem AI(h:L231 g a0 a1 H R):aj Tryz.prog g 231 #[a0,a1] H R:=
 ak (hn:=.e) Tryz.func231 h (by kernel_rfl)
def L232(g:Gh)(a0:Value)(H:Hp)(R:Rt):Prop:=
bg H (.cells (Value.cells a0) 57 (0,0)) fun b1 H2=>
∀J3:Jt,(∀w6:Value,∀H5:Hp,(∀JL:Fr,
Br w6 (
R (.returned (Value.bool false)) H5) (
DR H5 fun R7=>
aa 1 (pt b1) fun v8=>
Ld R7 v8 fun v9=>
aa 1 (pt b1) fun v10=>
Ld R7 v10 fun v11=>
bA v11 fun bt=>
ae .num .sub bt (Value.int .i64 1) fun aY=>
ai 1 v9 aY fun br=>
Ld R7 br fun bD=>
aa 0 (pt b1) fun bB=>
Ld R7 bB fun bH=>
CF g 255 #[bH] H5 (fun cf jv=>
aU jv R7∧
ae .num .andNot bD cf fun v20=>
ae .num .eql v20 (Value.int .u64 0) fun bQ=>
R (.returned bQ) jv) bn))→J3 [w6] H5)→
DR H2 fun PS=>
aa 0 (pt b1) fun ca=>
Ld PS ca fun cK=>
ae .num .lss cK (Value.int .i64 0) fun cy=>
Br cy (
JE J3 [(Value.bool true)] H2) (
aa 0 (pt b1) fun cM=>
Ld PS cM fun dh=>
ae .num .gtr dh (Value.int .i64 16) fun dg=>
aA (Value.bool false) (Value.bool true) dg fun cV=>
Br cV (
JE J3 [(Value.bool true)] H2) (
aa 1 (pt b1) fun v30=>
Ld PS v30 fun dQ=>
bA dQ fun eX=>
aa 0 (pt b1) fun fR=>
Ld PS fR fun fS=>
∀ZV:Hp,
CF (g.add ZV) 254 #[fS] H2 (fun eW sM=>
aU sM PS∧
ae .num .neq eX eW fun ia=>
aA (Value.bool false) (Value.bool true) ia fun iC=>
JE J3 [iC] sM) bn))
theorem AH(h:L232 g a0 H R):aj Tryz.prog g 232 #[a0] H R:=
 ak (hn:=(.n .e (.n (.h 1 [19] [1] (.h 1 [] [] (.h 0 [0] [] (.h 0 [1] [] (.h 0 [2] [] (.h 2 [3] [] (.h 0 [4] [] (.h 0 [5] [] (.h 0 [6] [] (.h 3 [7] [] (.h 3 [8] [] (.h 0 [9] [] (.h 0 [10] [] (.h 0 [11] [] (.h 0 [12] [] (.h 0 [13] [] (.h 0 [14] [] (.h 0 [15] [] (.h 3 [16] [] .e .e) .e) .e) .e) .e) .e) .e) .e) .e) .e) .e) .e) .e) (.h 0 [4] [] (.h 0 [5] [] (.h 0 [6] [] (.h 0 [7] [] (.h 2 [8] [] (.h 0 [9] [] (.h 0 [10] [] (.h 0 [11] [] (.h 0 [12] [] (.h 0 [13] [] (.h 0 [14] [] (.h 0 [15] [] (.h 3 [16] [] .e .e) .e) .e) .e) .e) .e) .e) .e) (.h 0 [9] [] (.h 0 [10] [] (.h 0 [11] [] (.h 0 [12] [] (.h 0 [13] [] (.h 0 [14] [] (.h 0 [15] [] (.h 0 [16] [] .e .e) .e) .e) .e) .e) .e) .e) .e)) .e) .e) .e) .e)) .e) .e) .e) .e) .e) (.n (.h 0 (List.range 14) [] .e .e) .e)))) Tryz.func232 h (by kernel_rfl)
def L233(g:Gh)(a0 a1:Value)(H:Hp)(R:Rt):Prop:=
bg H (.cells (Value.cells a1) 57 (0,0)) fun b1 H2=>
DR H2 fun R3=>
aC 2 R3 (pt b1) fun v4=>
aC 2 R3 (pt b1) fun v5=>
CF g 234 #[v4] H2 (fun v6 H7=>
aU H7 R3∧
iK (.string) H7 a0 v6 v5 fun H8=>
R (.returned (.tuple #[])) H8) bn
theorem AG(h:L233 g a0 a1 H R):aj Tryz.prog g 233 #[a0,a1] H R:=
 ak (hn:=(.n .e (.h 0 [0,1,3,2,4] [] .e .e))) Tryz.func233 h (by kernel_rfl)
def L234(g:Gh)(a0:Value)(H:Hp)(R:Rt):Prop:=
bg H (.cells (Value.cells a0) 57 (0,0)) fun b1 H2=>
aa 1 (pt b1) fun v3=>
Ld H2 v3 fun v4=>
bA v4 fun v5=>
∃(I6:Jt) (m7:Mt),JE I6 [(.slice none 0 0),(Value.int .i64 0)] H2∧∀rX nk:Value,∀H9:Hp,I6 [rX,nk] H9→∀MY:Fr,
ae .num .lss nk v5 fun bt=>
Br bt (
ai 1 v4 nk fun aY=>
Ld H9 aY fun br=>
∃(Zy:Jt) (m16:Mt),JE Zy [rX,(Value.int .i64 0)] H9∧∀BY vD:Value,∀dW:Hp,Zy [BY,vD] dW→∀Pt:Fr,
ae .num .lss vD (Value.int .i64 8) fun bQ=>
Br bQ (
ae .num .mul (Value.int .i64 8) vD fun cm=>
ae .num .shr br cm fun ca=>
aW .u8 ca fun cK=>
au Tryz.prog 87 1 [(0,cK)] dW fun cy gH=>
App Tryz.prog 5 1 1 (Value.int .u8 0) gH BY cy fun cV p9=>
ae .num .add vD (Value.int .i64 1) fun dQ=>
aF Zy m16 [cV,dQ] p9 [BY,vD] dW) (
ae .num .add nk (Value.int .i64 1) fun eX=>
aF I6 m7 [BY,eX] dW [rX,nk] H9)) (
iM H9 rX fun fR=>
R (.returned fR) H9)
theorem AE(h:L234 g a0 H R):aj Tryz.prog g 234 #[a0] H R:=
 ak (hn:=(.n .e (.n .e (.n (.n .e (.n (.h 0 [3,10] [8,9] (.n .e (.n .e (.n (.n (.n .e (.n .e (.n (.h 0 [3,14] [5,8,9,10] .e .e) .e))) .e) .e))) .e) .e)) .e)))) Tryz.func234 h (by kernel_rfl)
def L238(g:Gh)(a0 a1:Value)(H:Hp)(R:Rt):Prop:=
aa 1 a1 fun v1=>
Ld H v1 fun v2=>
ai 1 v2 a0 fun v3=>
Ld H v3 fun v4=>
Un .xor v4 fun v5=>
R (.returned v5) H
theorem AD(h:L238 g a0 a1 H R):aj Tryz.prog g 238 #[a0,a1] H R:=
 ak (hn:=.e) Tryz.func238 h (by kernel_rfl)
def L239(g:Gh)(a0 a1 a2 a3:Value)(H:Hp)(R:Rt):Prop:=
aa 1 a1 fun v1=>
Ld H v1 fun v2=>
ai 1 v2 a0 fun v3=>
Ld H v3 fun v4=>
aa 1 a2 fun v5=>
Ld H v5 fun v6=>
ai 1 v6 a0 fun v7=>
Ld H v7 fun v8=>
Un .xor v4 fun v9=>
Un .xor v8 fun v10=>
ae .num .and v9 v10 fun v11=>
Un .xor v4 fun bt=>
ae .num .and bt v8 fun aY=>
Un .xor v8 fun br=>
ae .num .and v4 br fun bD=>
ae .num .and v4 v8 fun bB=>
au Tryz.prog 55 4 [(0,v11),(1,aY),(2,bD),(3,bB)] H fun bH dW=>
bA bH fun bN=>
∃(Zv:Jt) (m21:Mt),JE Zv [(Value.int .u64 0),(Value.int .i64 0)] dW∧∀FD rW:Value,∀jV:Hp,Zv [FD,rW] jV→∀YG:Fr,
ae .num .lss rW bN fun cM=>
Br cM (
∀yb:Jt,(∀Me:Value,∀me:Hp,(∀Tt:Fr,
ae .num .add rW (Value.int .i64 1) fun dQ=>
aF Zv m21 [Me,dQ] me [FD,rW] jV)→yb [Me] me)→
ai 1 bH rW fun eX=>
Ld jV eX fun fR=>
Ld jV a3 fun fS=>
ae .num .shr fS rW fun fJ=>
ae .num .and fJ (Value.int .u8 1) fun eW=>
ae .num .eql eW (Value.int .u8 1) fun eP=>
Br eP (
ae .num .or FD fR fun ia=>
JE yb [ia] jV) (
JE yb [FD] jV)) (
R (.returned FD) jV)
theorem AB(h:L239 g a0 a1 a2 a3 H R):aj Tryz.prog g 239 #[a0,a1,a2,a3] H R:=
 ak (hn:=(.n .e (.n .e (.n .e (.n (.n .e (.n (.h 0 [8,39] [3,37,38] (.n .e (.n .e (.h 1 [8] [3,37,38,39] .e .e))) .e) .e)) .e))))) Tryz.func239 h (by kernel_rfl)
def L240(g:Gh)(a0 a1:Value)(H:Hp)(R:Rt):Prop:=
ae .ptr .eql a0 (.pointer none) fun v1=>
Br v1 (
R (.returned (.tuple #[(.pointer none),(Value.int .i64 10)])) H) (
bA a1 fun v2=>
∃(I3:Jt) (m4:Mt),JE I3 [(Value.int .i64 0)] H∧∀w7:Value,∀H6:Hp,I3 [w7] H6→∀To:Fr,
ae .num .lss w7 v2 fun v8=>
Br v8 (
ai 1 a1 w7 fun v9=>
Ld H6 v9 fun v10=>
CF g 97 #[a0,v10] H6 (fun v11 dI=>
Ext 0 v11 fun aY=>
Ext 1 v11 fun br=>
bg dI (.cells #[(Value.int .i64 0),(Value.int .u32 0),(Value.int .u32 0)] 161 (0,0)) fun PI jQ=>
St 3 jQ (pt PI) aY fun ej=>
ae .num .neq br (Value.int .i64 0) fun cf=>
Br cf (
R (.returned (.tuple #[(.pointer none),br])) ej) (
ae .num .add w7 (Value.int .i64 1) fun bN=>
aF I3 m4 [bN] ej [w7] H6)) (an R)) (
CF g 61 #[a0] H6 (fun v20 gI=>
cW 3 1 8 (Value.int .i64 0) gI v20 v20 fun cm jV=>
Build Tryz.prog 337 [(0,a0),(1,cm)] fun cK=>
bg jV (.cells (Value.cells cK) 337 (0,0)) fun Dj gH=>
CF g 13 #[a0] gH (fun dh tU=>
bA dh fun cV=>
∃(Zs:Jt) (m31:Mt),JE Zs [(Value.int .i64 0)] tU∧∀DG:Value,∀mc:Hp,Zs [DG] mc→∀Tq:Fr,
ae .num .lss DG cV fun fJ=>
Br fJ (
ai 1 dh DG fun eW=>
Ld mc eW fun eP=>
Nil (pt Dj) fun ia=>
aa 1 ia fun iC=>
Ld mc iC fun jy=>
ai 1 jy eP fun gy=>
St 1 mc gy DG fun BM=>
ae .num .add DG (Value.int .i64 1) fun iN=>
aF Zs m31 [iN] BM [DG] mc) (
R (.returned (.tuple #[(pt Dj),(Value.int .i64 0)])) mc)) (an R)) (an R)))
theorem AA(h:L240 g a0 a1 H R):aj Tryz.prog g 240 #[a0,a1] H R:=
 ak (hn:=(.n .e (.n .e (.n (.n .e (.n (.h 0 [17] [0,15,16] .e .e) .e)) (.n .e (.n (.n .e (.n (.h 0 [40] [10,38,39] .e .e) .e)) .e)))))) Tryz.func240 h (by kernel_rfl)
def L241(g:Gh)(a0 a1 a2:Value)(H:Hp)(R:Rt):Prop:=
bg H (.cells (Value.cells a0) 313 (0,0)) fun b1 H2=>
bg H2 (.cells (Value.cells a1) 318 (0,0)) fun b3 H4=>
bg H4 (.cells (Value.cells a2) 320 (0,0)) fun b5 H6=>
bg H6 (.cells #[(Value.int .u32 0)] 77 (0,0)) fun b7 H8=>
bg H8 (.cells #[(Value.int .i64 0)] 32 (0,0)) fun b9 cT=>
n8 cT fun v11 dI=>
bg dI (.cells #[(.map none)] 339 (0,0)) fun fi iB=>
St 1 iB (pt fi) v11 fun dy=>
bg dy (.cells #[.nilFunc] 340 (0,0)) fun jN ej=>
St 1 ej (pt jN) (.func (.func 264) #[] #[(pt fi),(pt b1),(pt b5),(pt jN)]) fun dW=>
Ld dW (pt jN) fun bN=>
aC 3 dW (pt b3) fun v20=>
cg Tryz.prog g bN #[v20] dW (fun bQ g7=>
Ext 0 bQ fun ca=>
Ext 1 bQ fun cK=>
St 1 g7 (pt b7) ca fun gj=>
St 1 gj (pt b9) cK fun gH=>
j6 Tryz.prog g 262 #[(pt b1),(pt b7),(pt b9)] gH fun iR=>
Ld iR (pt b7) fun dg=>
Ld iR (pt b9) fun cV=>
R (.returned (.tuple #[dg,cV])) iR) Je
theorem Az(h:L241 g a0 a1 a2 H R):aj Tryz.prog g 241 #[a0,a1,a2] H R:=
 yD (hn:=(.n .e (.n .e .e))) Tryz.func241 h (by kernel_rfl)
def L242(g:Gh)(a0 a1 a2 a3:Value)(H:Hp)(R:Rt):Prop:=
DR H fun R1=>
Ld R1 a3 fun v2=>
CF g 243 #[a0] H (fun v3 H4=>
aU H4 R1∧
ae .num .mul (Value.int .u8 2) v3 fun v5=>
CF g 243 #[a1] H4 (fun v6 H7=>
aU H7 R1∧
ae .num .add v5 v6 fun v8=>
ae .num .shr v2 v8 fun v9=>
ae .num .and v9 (Value.int .u8 1) fun v10=>
ae .num .eql v10 (Value.int .u8 1) fun v11=>
R (.returned v11) H7) bn) bn
theorem Ay(h:L242 g a0 a1 a2 a3 H R):aj Tryz.prog g 242 #[a0,a1,a2,a3] H R:=
 ak (hn:=(.n .e (.n (.h 0 [0,1,4,2,3,5,6,7,8,9,10] [] .e .e) .e))) Tryz.func242 h (by kernel_rfl)
def L243(g:Gh)(a0:Value)(H:Hp)(R:Rt):Prop:=
Br a0 (
R (.returned (Value.int .u8 1)) H) (
R (.returned (Value.int .u8 0)) H)
theorem Ax(h:L243 g a0 H R):aj Tryz.prog g 243 #[a0] H R:=
 ak (hn:=.e) Tryz.func243 h (by kernel_rfl)
def L244(g:Gh)(a0 a1 a2:Value)(H:Hp)(R:Rt):Prop:=
cw a0 true (fun t1=>
(H=H∧a1=Value.bool t1)) (fun t1=>(Value.bool false)=Value.bool t1) fun t1=>∀Tw:Fr,
cw (Value.bool t1) false (fun t3=>
Un .not a0 fun v4=>
cw v4 true (fun t5=>
(H=H∧a2=Value.bool t5)) (fun t5=>(Value.bool false)=Value.bool t5) fun t5=>∀MZ:Fr,
(H=H∧(Value.bool t5)=Value.bool t3)) (fun t3=>(Value.bool true)=Value.bool t3) fun t3=>∀Tn:Fr,
R (.returned (Value.bool t3)) H
theorem Aw(h:L244 g a0 a1 a2 H R):aj Tryz.prog g 244 #[a0,a1,a2] H R:=
 ak (hn:=(.n .e (.n (.h 0 [] [1] .e .e) .e))) Tryz.func244 h (by kernel_rfl)
def L245(g:Gh)(a0 a1:Value)(H:Hp)(R:Rt):Prop:=
∀J1:Jt,(∀w4:Value,∀H3:Hp,(∀Tw:Fr,
Br w4 (
R (.returned (.tuple #[(Value.int .u64 0),(Value.bool false)])) H3) (
ae .num .shl (Value.int .u64 1) a1 fun v5=>
R (.returned (.tuple #[v5,(Value.bool true)])) H3))→J1 [w4] H3)→
ae .num .lss a1 (Value.int .i64 0) fun v6=>
Split v6 false (
ae .ptr .neq a0 (.pointer none) fun v7=>
Split v7 true (
CF g 61 #[a0] H (fun v8 H9=>
ae .num .geq a1 v8 fun v10=>
aA (Value.bool true) v10 (Value.bool false) fun v11=>
aA (Value.bool false) (Value.bool true) v11 fun bt=>
JE J1 [bt] H9) (an R)) (
aA (Value.bool false) undef (Value.bool false) fun aY=>
aA (Value.bool false) (Value.bool true) aY fun br=>
JE J1 [br] H)) (
aA (Value.bool true) (Value.bool true) undef fun bD=>
JE J1 [bD] H)
theorem Av(h:L245 g a0 a1 H R):aj Tryz.prog g 245 #[a0,a1] H R:=
 ak (hn:=(.n .e (.n (.h 1 [17] [1] .e .e) .e))) Tryz.func245 h (by kernel_rfl)
def L246(g:Gh)(a0 a1 a2:Value)(H:Hp)(R:Rt):Prop:=
ae .ptr .eql a0 (.pointer none) fun v1=>
Br v1 (
R (.returned (Value.int .i64 10)) H) (
CF g 61 #[a0] H (fun v2 H3=>
ae .num .shr a1 v2 fun v4=>
ae .num .neq v4 (Value.int .u64 0) fun v5=>
Br v5 (
R (.returned (Value.int .i64 2)) H3) (
bA a2 fun v6=>
∃(I7:Jt) (m8:Mt),JE I7 [(Value.int .i64 0)] H3∧∀nk:Value,∀cT:Hp,I7 [nk] cT→∀QK:Fr,
ae .num .lss nk v6 fun bt=>
Br bt (
ai 1 a2 nk fun aY=>
Ld cT aY fun br=>
CF g 97 #[a0,br] cT (fun bD jQ=>
Ext 0 bD fun bH=>
Ext 1 bD fun cf=>
bg jQ (.cells #[(Value.int .i64 0),(Value.int .u32 0),(Value.int .u32 0)] 161 (0,0)) fun LN gk=>
St 3 gk (pt LN) bH fun gI=>
ae .num .neq cf (Value.int .i64 0) fun cm=>
Br cm (
R (.returned (Value.int .i64 3)) gI) (
ae .num .add nk (Value.int .i64 1) fun ca=>
aF I7 m8 [ca] gI [nk] cT)) (an R)) (
R (.returned (Value.int .i64 0)) cT))) (an R))
theorem Au(h:L246 g a0 a1 a2 H R):aj Tryz.prog g 246 #[a0,a1,a2] H R:=
 ak (hn:=(.n .e (.n .e (.n .e (.n (.n .e (.n (.h 0 [20] [0,18,19] .e .e) .e)) .e))))) Tryz.func246 h (by kernel_rfl)
def L247(g:Gh)(a0 a1 a2:Value)(H:Hp)(R:Rt):Prop:=
ae .num .neq a2 (Value.int .i64 0) fun v1=>
Br v1 (
R (.returned (.tuple #[(Value.int .u32 0),a2])) H) (
Un .not a1 fun v2=>
Br v2 (
R (.returned (.tuple #[(Value.int .u32 0),(Value.int .i64 8)])) H) (
R (.returned (.tuple #[a0,(Value.int .i64 0)])) H))
theorem rN(h:L247 g a0 a1 a2 H R):aj Tryz.prog g 247 #[a0,a1,a2] H R:=
 ak (hn:=.e) Tryz.func247 h (by kernel_rfl)
def L248(g:Gh)(a0 a1 a2 a3:Value)(H:Hp)(R:Rt):Prop:=
bg H (.cells (Value.cells a1) 77 (0,0)) fun b1 H2=>
bg H2 (.cells (Value.cells a2) 3 (0,0)) fun b3 H4=>
bg H4 (.cells (Value.cells a3) 4 (0,0)) fun b5 H6=>
CF g 268 #[a0,(.func (.func 269) #[] #[(pt b1),(pt b3),(pt b5)])] H6 (fun v7 H8=>
Ext 0 v7 fun v9=>
Ext 1 v7 fun v10=>
Ext 2 v7 fun v11=>
R (.returned (.tuple #[v9,v10,v11])) H8) (an R)
theorem As(h:L248 g a0 a1 a2 a3 H R):aj Tryz.prog g 248 #[a0,a1,a2,a3] H R:=
 ak (hn:=.e) Tryz.func248 h (by kernel_rfl)
def L249(g:Gh)(a0 a1 a2 a3:Value)(H:Hp)(R:Rt):Prop:=
au Tryz.prog 27 1 [(0,a1)] H fun v1 H2=>
CF g 246 #[a0,a2,v1] H2 (fun v3 H4=>
ae .num .neq v3 (Value.int .i64 0) fun v5=>
Br v5 (
R (.returned (.tuple #[(Value.int .u32 0),v3])) H4) (
ae .num .eql a2 (Value.int .u64 0) fun v6=>
Br v6 (
CF g 121 #[a0,a1] H4 (fun v7 H8=>
ae .num .neq v7 (Value.int .i64 0) fun v9=>
Br v9 (
R (.returned (.tuple #[(Value.int .u32 0),v7])) H8) (
R (.returned (.tuple #[a1,(Value.int .i64 0)])) H8)) (an R)) (
CF g 61 #[a0] H4 (fun v10 dB=>
∃(BJ:Jt) (Oc:Mt),JE BJ [a1,(Value.bool false),(Value.int .i64 0)] dB∧∀j8 qd gZ:Value,∀dy:Hp,BJ [j8,qd,gZ] dy→∀qQ:Fr,
ae .num .lss gZ v10 fun bN=>
Br bN (
∀Zg:Jt,(∀Jr FD:Value,∀g7:Hp,(∀Tv:Fr,
ae .num .add gZ (Value.int .i64 1) fun cy=>
aF BJ Oc [Jr,FD,cy] g7 [j8,qd,gZ] dy)→Zg [Jr,FD] g7)→
ae .num .shr a2 gZ fun cM=>
ae .num .and cM (Value.int .u64 1) fun dh=>
ae .num .eql dh (Value.int .u64 0) fun dg=>
Br dg (
JE Zg [j8,qd] dy) (
CF g 272 #[a0,j8,gZ,a3] dy (fun cV p9=>
Ext 0 cV fun dQ=>
Ext 1 cV fun eX=>
Ext 2 cV fun fR=>
CF g 247 #[dQ,eX,fR] p9 (fun fS rT=>
Ext 0 fS fun eW=>
Ext 1 fS fun eP=>
∀vK:Jt,(∀l9:Hp,(∀Pq:Fr,
ae .num .neq eP (Value.int .i64 0) fun gy=>
Br gy (
R (.returned (.tuple #[(Value.int .u32 0),eP])) l9) (
JE Zg [eW,(Value.bool true)] l9))→vK [] l9)→
Br qd (
CF g 131 #[a0,j8] rT (fun jr mY=>
JE vK [] mY) (an R)) (
JE vK [] rT)) (an R)) (an R))) (
R (.returned (.tuple #[j8,(Value.int .i64 0)])) dy)) (an R)))) (an R)
theorem Ar(h:L249 g a0 a1 a2 a3 H R):aj Tryz.prog g 249 #[a0,a1,a2,a3] H R:=
 ak (hn:=(.n .e (.n .e (.n .e (.n .e (.n (.n .e (.n (.h 0 [12,13,37] [0,2,3,36] (.n .e (.n .e (.h 1 [12,13] [0,2,3,36,37] (.n (.n .e (.n .e (.n .e (.h 1 [] [0,2,3,15,16,36,37] .e .e)))) .e) .e))) .e) .e)) .e)))))) Tryz.func249 h (by kernel_rfl)
end Go.Proofs
set_option maxRecDepth 100000
namespace Go.Proofs
open Go Go.Sx
variable {g:Gh} {a0 a1 a2 a3 a4 a5 a6 a7 a8 a9 pI pH TQ TP TO TN:Value} {H:Hp} {R:Rt}
def L250(g:Gh)(a0:Value)(H:Hp)(R:Rt):Prop:=
CF g 273 #[a0] H (fun v1 H2=>
CF g 274 #[v1] H2 (fun v3 H4=>
R (.returned v1) H4) (an R)) (an R)
theorem Aq(h:L250 g a0 H R):aj Tryz.prog g 250 #[a0] H R:=
 ak (hn:=.e) Tryz.func250 h (by kernel_rfl)
def L251(g:Gh)(a0:Value)(H:Hp)(R:Rt):Prop:=
bg H (.cells (Value.cells a0) 266 (0,0)) fun b1 H2=>
R (.returned (.func (.func 275) #[] #[(pt b1)])) H2
theorem Ap(h:L251 g a0 H R):aj Tryz.prog g 251 #[a0] H R:=
 ak (hn:=.e) Tryz.func251 h (by kernel_rfl)
def L252(g:Gh)(a0 a1:Value)(H:Hp)(R:Rt):Prop:=
bg H (.cells (Value.cells a1) 161 (0,0)) fun b1 H2=>
ae .ptr .eql a0 (.pointer none) fun v3=>
Br v3 (
R (.returned (.tuple #[(Value.int .u32 0),(Value.int .i64 10)])) H2) (
aC 3 H2 (pt b1) fun v4=>
CF g 208 #[a0,v4] H2 (fun v5 H6=>
ae .num .neq v5 (Value.int .i64 0) fun v7=>
Br v7 (
R (.returned (.tuple #[(Value.int .u32 0),v5])) H6) (
Nil a0 fun v8=>
aa 2 v8 fun v9=>
Ld H6 v9 fun v10=>
bA v10 fun v11=>
ae .num .gtr v11 (Value.int .i64 0) fun bt=>
Br bt (
Nil a0 fun aY=>
aa 2 aY fun br=>
Ld H6 br fun bD=>
ae .num .sub v11 (Value.int .i64 1) fun bB=>
ai 1 bD bB fun bH=>
Ld H6 bH fun cf=>
Nil a0 fun bN=>
aa 2 bN fun v20=>
Ld H6 v20 fun bQ=>
ae .num .sub v11 (Value.int .i64 1) fun cm=>
fG 1 bQ none (some cm) fun ca=>
Nil a0 fun cK=>
aa 2 cK fun cy=>
St 1 H6 cy ca fun gH=>
DR gH fun JP=>
Nil a0 fun dg=>
aa 1 dg fun cV=>
Ld JP cV fun v30=>
aC 3 JP (pt b1) fun dQ=>
Build Tryz.prog 291 [(0,dQ),(1,(Value.bool true))] fun eX=>
ai 5 v30 cf fun fR=>
St 5 gH fR eX fun vz=>
Nil a0 fun fJ=>
aa 3 fJ fun eW=>
Ld vz eW fun eP=>
ae .num .add eP (Value.int .i64 1) fun ia=>
Nil a0 fun iC=>
aa 3 iC fun jy=>
St 1 vz jy ia fun FX=>
R (.returned (.tuple #[cf,(Value.int .i64 0)])) FX) (
Nil a0 fun jr=>
aa 1 jr fun iN=>
Ld H6 iN fun jx=>
bA jx fun jR=>
Nil a0 fun kf=>
aa 0 kf fun mE=>
Ld H6 mE fun mg=>
ae .num .geq jR mg fun lX=>
Br lX (
R (.returned (.tuple #[(Value.int .u32 0),(Value.int .i64 9)])) H6) (
DR H6 fun JO=>
Nil a0 fun j9=>
aa 1 j9 fun ki=>
Ld JO ki fun qm=>
aC 3 JO (pt b1) fun uc=>
Build Tryz.prog 291 [(0,uc),(1,(Value.bool true))] fun py=>
au Tryz.prog 196 1 [(0,py)] H6 fun qk BL=>
aU BL JO∧
App Tryz.prog 291 5 24 (.agg #[(Value.int .i64 0),(Value.int .u32 0),(Value.int .u32 0),(Value.bool false),(Value.int .u8 0)]) BL qm qk fun qj pL=>
aU pL JO∧
Nil a0 fun sS=>
aa 1 sS fun qh=>
St 1 pL qh qj fun FV=>
Nil a0 fun pw=>
aa 3 pw fun si=>
Ld FV si fun tZ=>
ae .num .add tZ (Value.int .i64 1) fun qg=>
Nil a0 fun qe=>
aa 3 qe fun rY=>
St 1 FV rY qg fun Vd=>
Nil a0 fun sg=>
aa 1 sg fun yo=>
Ld Vd yo fun DJ=>
bA DJ fun sb=>
ae .num .sub sb (Value.int .i64 1) fun xZ=>
aW .u32 xZ fun ym=>
R (.returned (.tuple #[ym,(Value.int .i64 0)])) Vd)))) (an R))
theorem Ao(h:L252 g a0 a1 H R):aj Tryz.prog g 252 #[a0,a1] H R:=
 ak (hn:=(.n .e (.n .e (.n .e (.n (.n .e (.n .e (.n (.n .e (.n .e (.n (.h 0 (List.range 9) [] .e .e) .e))) .e))) (.n .e (.n (.h 0 (List.range 12) [] .e .e) .e))))))) Tryz.func252 h (by kernel_rfl)
def L253(g:Gh)(a0 a1:Value)(H:Hp)(R:Rt):Prop:=
aW .i64 a1 fun v1=>
Nil a0 fun v2=>
aa 1 v2 fun v3=>
Ld H v3 fun v4=>
bA v4 fun v5=>
ae .num .lss v1 v5 fun v6=>
cw v6 true (fun t7=>
Nil a0 fun v8=>
aa 1 v8 fun v9=>
Ld H v9 fun v10=>
ai 5 v10 a1 fun v11=>
aa 3 v11 fun bt=>
Ld H bt fun aY=>
(H=H∧aY=Value.bool t7)) (fun t7=>(Value.bool false)=Value.bool t7) fun t7=>∀qQ:Fr,
R (.returned (Value.bool t7)) H
theorem An(h:L253 g a0 a1 H R):aj Tryz.prog g 253 #[a0,a1] H R:=
 ak (hn:=(.n .e (.n (.h 0 [] [1] .e .e) .e))) Tryz.func253 h (by kernel_rfl)
def L254(g:Gh)(a0:Value)(H:Hp)(R:Rt):Prop:=
ae .num .shl (Value.int .i64 1) a0 fun v1=>
ae .num .shr v1 (Value.int .u64 6) fun v2=>
PX (Value.int .i64 1) v2 fun v3=>
R (.returned v3) H
theorem Am(h:L254 g a0 H R):aj Tryz.prog g 254 #[a0] H R:=
 ak (hn:=.e) Tryz.func254 h (by kernel_rfl)
def L255(g:Gh)(a0:Value)(H:Hp)(R:Rt):Prop:=
ae .num .geq a0 (Value.int .i64 6) fun v1=>
Br v1 (
R (.returned (Value.int .u64 18446744073709551615)) H) (
ae .num .shl (Value.int .u64 1) a0 fun v2=>
ae .num .shl (Value.int .u64 1) v2 fun v3=>
ae .num .sub v3 (Value.int .u64 1) fun v4=>
R (.returned v4) H)
theorem Al(h:L255 g a0 H R):aj Tryz.prog g 255 #[a0] H R:=
 ak (hn:=.e) Tryz.func255 h (by kernel_rfl)
def L256(g:Gh)(a0 a1 a2 a3:Value)(H:Hp)(R:Rt):Prop:=
Ld H a1 fun v1=>
ae .num .geq v1 (Value.int .i64 6) fun v2=>
Br v2 (
Ld H a1 fun v3=>
ae .num .sub v3 (Value.int .i64 6) fun v4=>
ae .num .shl (Value.int .i64 1) v4 fun v5=>
ae .num .andNot a0 v5 fun v6=>
∀J7:Jt,(∀rX:Value,∀H9:Hp,(∀MY:Fr,
aa 1 a3 fun v11=>
Ld H9 v11 fun bt=>
ai 1 bt rX fun aY=>
Ld H9 aY fun br=>
R (.returned br) H9)→J7 [rX] H9)→
Ld H a2 fun bD=>
Br bD (
Ld H a1 fun bB=>
ae .num .sub bB (Value.int .i64 6) fun bH=>
ae .num .shl (Value.int .i64 1) bH fun cf=>
ae .num .or v6 cf fun bN=>
JE J7 [bN] H) (
JE J7 [v6] H)) (
DR H fun ya=>
Ld ya a1 fun bQ=>
Ld ya a1 fun cm=>
ae .num .shl (Value.int .i64 1) cm fun ca=>
CF g 219 #[bQ,(Value.int .i64 0)] H (fun cK gj=>
aU gj ya∧
Ld gj a2 fun cM=>
Br cM (
aa 1 a3 fun dh=>
Ld gj dh fun dg=>
ai 1 dg a0 fun cV=>
Ld gj cV fun v30=>
ae .num .and v30 cK fun dQ=>
ae .num .shr dQ ca fun eX=>
ae .num .or dQ eX fun fR=>
R (.returned fR) gj) (
aa 1 a3 fun fS=>
Ld gj fS fun fJ=>
ai 1 fJ a0 fun eW=>
Ld gj eW fun eP=>
ae .num .andNot eP cK fun ia=>
ae .num .shl ia ca fun iC=>
ae .num .or ia iC fun jy=>
R (.returned jy) gj)) bn)
theorem Ak(h:L256 g a0 a1 a2 a3 H R):aj Tryz.prog g 256 #[a0,a1,a2,a3] H R:=
 ak (hn:=(.n .e (.n (.n .e (.n (.n .e (.h 1 [6] [3] .e .e)) .e)) (.n (.h 0 [0,2,3,1,4,5] [] .e .e) .e)))) Tryz.func256 h (by kernel_rfl)
def L257(g:Gh)(a0 a1:Value)(H:Hp)(R:Rt):Prop:=
Nil a0 fun v1=>
aa 0 v1 fun v2=>
CF g 174 #[v2,a1] H (fun v3 H4=>
bg H4 (.cells #[(Value.int .i64 0),(Value.int .u32 0),(Value.int .u32 0)] 161 (0,0)) fun b5 H6=>
St 3 H6 (pt b5) v3 fun H7=>
aa 0 (pt b5) fun v8=>
Ld H7 v8 fun v9=>
ae .num .geq v9 (Value.int .i64 0) fun v10=>
Br v10 (
Nil a0 fun v11=>
aa 6 v11 fun bt=>
Ld H7 bt fun aY=>
aa 0 (pt b5) fun br=>
Ld H7 br fun bD=>
ai 1 aY bD fun bB=>
Ld H7 bB fun bH=>
R (.returned bH) H7) (
Nil a0 fun cf=>
aa 4 cf fun bN=>
Ld H7 bN fun v20=>
R (.returned v20) H7)) (an R)
theorem Aj(h:L257 g a0 a1 H R):aj Tryz.prog g 257 #[a0,a1] H R:=
 ak (hn:=.e) Tryz.func257 h (by kernel_rfl)
def L262(g:Gh)(a0 a1 a2:Value)(H:Hp)(R:Rt):Prop:=
Ld H a0 fun v1=>
Ld H a1 fun v2=>
Ld H a2 fun v3=>
CF g 263 #[v1,v2,v3] H (fun v4 H5=>
Ext 0 v4 fun v6=>
Ext 1 v4 fun v7=>
St 1 H5 a1 v6 fun H8=>
St 1 H8 a2 v7 fun H9=>
R (.returned (.tuple #[])) H9) (an R)
theorem xO(h:L262 g a0 a1 a2 H R):jO Tryz.prog g 262 #[a0,a1,a2] H R:=
 yE (hn:=.e) Tryz.func262 h (by kernel_rfl)
def L263(g:Gh)(a0 a1 a2:Value)(H:Hp)(R:Rt):Prop:=
ae .num .eql a1 (Value.int .u32 0) fun v1=>
cw v1 false (fun t2=>
ae .num .eql a1 (Value.int .u32 1) fun v3=>
(H=H∧v3=Value.bool t2)) (fun t2=>(Value.bool true)=Value.bool t2) fun t2=>∀JL:Fr,
Nil a0 fun v5=>
aa 2 v5 fun v6=>
Ld H v6 fun v7=>
bA v7 fun v8=>
∃(I9:Jt) (m10:Mt),JE I9 [(Value.bool t2),(Value.int .i64 0)] H∧∀Ql pN:Value,∀dI:Hp,I9 [Ql,pN] dI→∀YK:Fr,
ae .num .lss pN v8 fun bD=>
Br bD (
∀Zh:Jt,(∀BY:Value,∀dW:Hp,(∀Pt:Fr,
ae .num .add pN (Value.int .i64 1) fun v20=>
aF I9 m10 [BY,v20] dW [Ql,pN] dI)→Zh [BY] dW)→
ai 1 v7 pN fun bQ=>
Ld dI bQ fun cm=>
ae .num .eql cm a1 fun ca=>
cw ca true (fun t24=>
Un .not Ql fun cy=>
(dI=dI∧cy=Value.bool t24)) (fun t24=>(Value.bool false)=Value.bool t24) fun t24=>∀YE:Fr,
cw (Value.bool t24) true (fun t27=>
ae .num .eql a2 (Value.int .i64 0) fun dg=>
(dI=dI∧dg=Value.bool t27)) (fun t27=>(Value.bool false)=Value.bool t27) fun t27=>∀Ts:Fr,
Br (Value.bool t27) (
JE Zh [(Value.bool true)] dI) (
Nil a0 fun v30=>
aa 0 v30 fun dQ=>
Ld dI dQ fun eX=>
CF g 131 #[eX,cm] dI (fun fR vz=>
JE Zh [Ql] vz) (an R))) (
Nil a0 fun fJ=>
aa 2 fJ fun eW=>
St 1 dI eW (.slice none 0 0) fun sM=>
∀vK:Jt,(∀l9:Hp,(∀Pq:Fr,
R (.returned (.tuple #[a1,(Value.int .i64 0)])) l9)→vK [] l9)→
ae .num .neq a2 (Value.int .i64 0) fun gy=>
Br gy (
R (.returned (.tuple #[(Value.int .u32 0),a2])) sM) (
Un .not Ql fun jr=>
Br jr (
R (.returned (.tuple #[(Value.int .u32 0),(Value.int .i64 8)])) sM) (
ae .num .eql a1 (Value.int .u32 0) fun iN=>
cw iN false (fun t44=>
ae .num .eql a1 (Value.int .u32 1) fun jR=>
(sM=sM∧jR=Value.bool t44)) (fun t44=>(Value.bool true)=Value.bool t44) fun t44=>∀YB:Fr,
Br (Value.bool t44) (
Nil a0 fun mE=>
aa 0 mE fun mg=>
Ld sM mg fun lX=>
CF g 121 #[lX,a1] sM (fun lW JS=>
JE vK [] JS) (an R)) (
JE vK [] sM))))
theorem Ai(h:L263 g a0 a1 a2 H R):aj Tryz.prog g 263 #[a0,a1,a2] H R:=
 ak (hn:=(.n .e (.n (.h 0 [] [1] .e .e) (.n (.n .e (.n (.h 0 [8,22] [0,1,2,20,21] (.n .e (.n .e (.h 1 [8] [0,1,2,20,21,22] (.n (.n .e (.n (.n (.h 0 [] [1] .e .e) .e) .e)) .e) .e))) .e) .e)) (.n .e (.h 1 [] [1] (.n (.n .e (.n .e (.n .e (.n .e (.n (.h 0 [] [1] .e .e) .e))))) .e) .e)))))) Tryz.func263 h (by kernel_rfl)
def L264(g:Gh)(a0 a1 a2 a3 a4:Value)(H:Hp)(R:Rt):Prop:=
bg H (.cells (Value.cells a0) 318 (0,0)) fun b1 H2=>
Ld H2 a1 fun v3=>
aC 3 H2 (pt b1) fun v4=>
iA Tryz.prog 318 (Value.int .u32 0) true H2 v3 v4 fun v5=>
Ext 0 v5 fun v6=>
Ext 1 v5 fun v7=>
Br v7 (
R (.returned (.tuple #[v6,(Value.int .i64 0)])) H2) (
Ld H2 a2 fun v8=>
aC 3 H2 (pt b1) fun v9=>
CF g 265 #[v8,v9] H2 (fun v10 dB=>
Ld dB a2 fun bt=>
CF g 266 #[bt,v10] dB (fun aY iB=>
ae .num .lss aY (Value.int .i64 0) fun bD=>
Br bD (
Ld iB a3 fun bB=>
gm 3 1 (pt b1) (Value.int .i64 0) fun bH=>
Ld iB bH fun cf=>
ae .num .eql cf (Value.int .u32 1) fun bN=>
gm 3 1 (pt b1) (Value.int .i64 1) fun v20=>
Ld iB v20 fun bQ=>
ae .num .eql bQ (Value.int .u32 1) fun cm=>
gm 3 1 (pt b1) (Value.int .i64 2) fun ca=>
Ld iB ca fun cK=>
ae .num .eql cK (Value.int .u32 1) fun cy=>
cg Tryz.prog g bB #[bN,cm,cy] iB (fun cM iR=>
Br cM (
R (.returned (.tuple #[(Value.int .u32 1),(Value.int .i64 0)])) iR) (
R (.returned (.tuple #[(Value.int .u32 0),(Value.int .i64 0)])) iR)) (an R)) (
DR iB fun PR=>
aC 3 PR (pt b1) fun cV=>
aC 3 PR (pt b1) fun v30=>
bg iB (.cells #[(Value.int .u32 0),(Value.int .u32 0),(Value.int .u32 0)] 318 (0,0)) fun zu rU=>
bg rU (.cells #[(Value.int .u32 0),(Value.int .u32 0),(Value.int .u32 0)] 318 (0,0)) fun oQ vz=>
∀ZV:Hp,
St 3 vz (pt zu) cV fun BN=>
aU BN PR∧
∀ZU:Hp,
St 3 BN (pt oQ) v30 fun r8=>
bA v10 fun iC=>
∃(Zp:Jt) (m41:Mt),JE Zp [(Value.int .i64 0)] r8∧∀F4:Value,∀mY:Hp,Zp [F4] mY→∀YC:Fr,
ae .num .lss F4 iC fun jR=>
Br jR (
∀Zc:Jt,(∀vy:Hp,(∀YA:Fr,
ae .num .add F4 (Value.int .i64 1) fun lX=>
aF Zp m41 [lX] vy [F4] mY)→Zc [] vy)→
ai 3 v10 F4 fun lW=>
aC 3 mY lW fun j9=>
bg mY (.cells #[(Value.int .i64 0),(Value.int .u32 0),(Value.int .u32 0)] 161 (0,0)) fun QL Nj=>
St 3 Nj (pt QL) j9 fun FW=>
aa 0 (pt QL) fun py=>
Ld FW py fun qk=>
ae .num .eql qk aY fun sU=>
Br sU (
DR FW fun Y2=>
aa 1 (pt QL) fun sj=>
Ld Y2 sj fun qj=>
aa 2 (pt QL) fun qi=>
Ld Y2 qi fun sS=>
gm 3 1 (pt zu) F4 fun qh=>
St 1 FW qh qj fun FV=>
aU FV Y2∧
gm 3 1 (pt oQ) F4 fun pw=>
St 1 FV pw sS fun Qa=>
JE Zc [] Qa) (
JE Zc [] FW)) (
Ld mY a4 fun tZ=>
aC 3 mY (pt zu) fun qg=>
cg Tryz.prog g tZ #[qg] mY (fun qe Q0=>
Ext 0 qe fun vO=>
Ext 1 qe fun sg=>
ae .num .neq sg (Value.int .i64 0) fun yo=>
Br yo (
R (.returned (.tuple #[(Value.int .u32 0),sg])) Q0) (
Ld Q0 a4 fun DJ=>
aC 3 Q0 (pt oQ) fun sb=>
cg Tryz.prog g DJ #[sb] Q0 (fun xZ Fx=>
Ext 0 xZ fun r9=>
Ext 1 xZ fun tY=>
ae .num .neq tY (Value.int .i64 0) fun FG=>
Br FG (
R (.returned (.tuple #[(Value.int .u32 0),tY])) Fx) (
Ld Fx a2 fun xY=>
CF g 267 #[xY,aY,vO,r9] Fx (fun tX yc=>
Ext 0 tX fun xX=>
Ext 1 tX fun sR=>
∀Y9:Jt,(∀Nh:Hp,(∀aem:Fr,
R (.returned (.tuple #[xX,sR])) Nh)→Y9 [] Nh)→
ae .num .eql sR (Value.int .i64 0) fun B0=>
Br B0 (
Ld yc a1 fun yl=>
aC 3 yc (pt b1) fun sQ=>
iz Tryz.prog 318 yc yl sQ xX fun ZB=>
JE Y9 [] ZB) (
JE Y9 [] yc)) (an R))) (an R))) (an R)))) (an R)) (an R))
theorem rM(h:L264 g a0 a1 a2 a3 a4 H R):aj Tryz.prog g 264 #[a0,a1,a2,a3,a4] H R:=
 ak (hn:=(.n .e (.n .e (.n .e (.n .e (.n .e (.n (.h 1 [] [] (.h 0 [0] [] (.h 0 [1] [] (.h 1 [2] [] (.h 1 [3] [] (.h 0 [2] [] (.h 0 [3] [] (.h 0 [4] [] (.h 0 [5] [] .e .e) .e) .e) .e) .e) .e) .e) .e) .e) (.n (.n .e (.n (.h 0 [51] [1,2,4,5,11,12,13,49,50] (.n .e (.n .e (.h 1 [] [1,2,4,5,11,12,13,49,50,51] (.n (.n .e (.n .e (.n (.h 0 (List.range 10) [] .e .e) .e))) .e) .e))) .e) .e)) (.n .e (.n .e (.n .e (.n .e (.n .e (.h 1 [] [17,19] .e .e)))))))))))))) Tryz.func264 h (by kernel_rfl)
def L265(g:Gh)(a0 a1:Value)(H:Hp)(R:Rt):Prop:=
bg H (.cells (Value.cells a1) 318 (0,0)) fun b1 H2=>
aC 3 H2 (pt b1) fun v3=>
∃(I4:Jt) (m5:Mt),JE I4 [(.slice none 0 0),(Value.int .i64 0)] H2∧∀w8 w9:Value,∀H7:Hp,I4 [w8,w9] H7→∀MZ:Fr,
ae .num .lss w9 (Value.int .i64 3) fun v10=>
Br v10 (
jP Tryz.prog g (e8 Tryz.f265 4 0) (ev (fun s=>cond (Nat.beq s 10) v3 (cond (Nat.beq s 11) w9 (undef)))) H7 fun v11=>
Nil a0 fun bt=>
aa 0 bt fun aY=>
Ld H7 aY fun br=>
CF g 97 #[br,v11] H7 (fun bD jQ=>
Ext 0 bD fun bH=>
Ext 1 bD fun cf=>
bg jQ (.cells #[(Value.int .i64 0),(Value.int .u32 0),(Value.int .u32 0)] 161 (0,0)) fun LN gk=>
St 3 gk (pt LN) bH fun gI=>
aC 3 gI (pt LN) fun cm=>
au Tryz.prog 286 1 [(0,cm)] gI fun ca iL=>
App Tryz.prog 161 3 16 (.agg #[(Value.int .i64 0),(Value.int .u32 0),(Value.int .u32 0)]) iL w8 ca fun dh tU=>
ae .num .add w9 (Value.int .i64 1) fun cV=>
aF I4 m5 [dh,cV] tU [w8,w9] H7) (an R)) (
R (.returned w8) H7)
theorem Ah(h:L265 g a0 a1 H R):aj Tryz.prog g 265 #[a0,a1] H R:=
 ak (hn:=(.n .e (.n .e (.n (.n .e (.n (.h 0 [5,11] [0,10] .e .e) .e)) .e)))) Tryz.func265 h (by kernel_rfl)
def L266(g:Gh)(a0 a1:Value)(H:Hp)(R:Rt):Prop:=
bA a1 fun v1=>
∃(I2:Jt) (m3:Mt),JE I2 [(Value.int .i64 (-1)),(Value.int .i64 0)] H∧∀w6 w7:Value,∀H5:Hp,I2 [w6,w7] H5→∀JL:Fr,
ae .num .lss w7 v1 fun v8=>
Br v8 (
∀J9:Jt,(∀fZ:Value,∀dB:Hp,(∀qR:Fr,
ae .num .add w7 (Value.int .i64 1) fun aY=>
aF I2 m3 [fZ,aY] dB [w6,w7] H5)→J9 [fZ] dB)→
ai 3 a1 w7 fun br=>
aC 3 H5 br fun bD=>
bg H5 (.cells #[(Value.int .i64 0),(Value.int .u32 0),(Value.int .u32 0)] 161 (0,0)) fun jN ej=>
St 3 ej (pt jN) bD fun dW=>
aa 0 (pt jN) fun bN=>
Ld dW bN fun v20=>
ae .num .geq v20 (Value.int .i64 0) fun bQ=>
cw bQ true (fun t22=>
ae .num .lss w6 (Value.int .i64 0) fun ca=>
cw ca false (fun t24=>
Nil a0 fun cy=>
aa 1 cy fun cM=>
Ld dW cM fun dh=>
aa 0 (pt jN) fun dg=>
Ld dW dg fun cV=>
ai 1 dh cV fun v30=>
Ld dW v30 fun dQ=>
Nil a0 fun eX=>
aa 1 eX fun fR=>
Ld dW fR fun fS=>
ai 1 fS w6 fun fJ=>
Ld dW fJ fun eW=>
ae .num .lss dQ eW fun eP=>
(dW=dW∧eP=Value.bool t24)) (fun t24=>(Value.bool true)=Value.bool t24) fun t24=>∀aez:Fr,
(dW=dW∧(Value.bool t24)=Value.bool t22)) (fun t22=>(Value.bool false)=Value.bool t22) fun t22=>∀Pq:Fr,
Br (Value.bool t22) (
aa 0 (pt jN) fun jy=>
Ld dW jy fun gy=>
JE J9 [gy] dW) (
JE J9 [w6] dW)) (
R (.returned w6) H5)
theorem Ag(h:L266 g a0 a1 H R):aj Tryz.prog g 266 #[a0,a1] H R:=
 ak (hn:=(.n .e (.n .e (.n (.n .e (.n (.h 0 [5,10] [0,8,9] (.n .e (.n .e (.h 1 [5] [0,8,9,10] .e .e))) .e) .e)) .e)))) Tryz.func266 h (by kernel_rfl)
def L267(g:Gh)(a0 a1 a2 a3:Value)(H:Hp)(R:Rt):Prop:=
ae .num .eql a2 a3 fun v1=>
Br v1 (
R (.returned (.tuple #[a2,(Value.int .i64 0)])) H) (
Nil a0 fun v2=>
aa 0 v2 fun v3=>
Ld H v3 fun v4=>
CF g 164 #[v4,a1,a2,a3] H (fun v5 H6=>
Ext 0 v5 fun v7=>
Ext 1 v5 fun v8=>
∀J9:Jt,(∀dB:Hp,(∀qR:Fr,
R (.returned (.tuple #[(Value.int .u32 0),v8])) dB)→J9 [] dB)→
ae .num .eql v8 (Value.int .i64 0) fun bt=>
Br bt (
Nil a0 fun aY=>
aa 2 aY fun br=>
Ld H6 br fun bD=>
au Tryz.prog 27 1 [(0,v7)] H6 fun bB ej=>
App Tryz.prog 77 1 4 (Value.int .u32 0) ej bD bB fun v20 gI=>
Nil a0 fun cm=>
aa 2 cm fun ca=>
St 1 gI ca v20 fun iL=>
R (.returned (.tuple #[v7,(Value.int .i64 0)])) iL) (
ae .num .eql v8 (Value.int .i64 8) fun cy=>
Br cy (
Nil a0 fun cM=>
aa 0 cM fun dh=>
Ld H6 dh fun dg=>
CF g 276 #[dg,a1,a2,a3] H6 (fun cV p9=>
Ext 0 cV fun dQ=>
Ext 1 cV fun eX=>
Br eX (
R (.returned (.tuple #[dQ,(Value.int .i64 0)])) p9) (
JE J9 [] p9)) (an R)) (
JE J9 [] H6))) (an R))
theorem rL(h:L267 g a0 a1 a2 a3 H R):aj Tryz.prog g 267 #[a0,a1,a2,a3] H R:=
 ak (hn:=(.n .e (.n .e (.n .e (.h 1 [] [11] .e .e))))) Tryz.func267 h (by kernel_rfl)
def L268(g:Gh)(a0 a1:Value)(H:Hp)(R:Rt):Prop:=
bg H (.cells (Value.cells a0) 26 (0,0)) fun b1 H2=>
Ld H2 (pt b1) fun v3=>
n8 H2 fun v4 H5=>
Build Tryz.prog 350 [(0,v3),(1,v4)] fun v6=>
bg H5 (.cells (Value.cells v6) 350 (0,0)) fun b7 H8=>
bg H8 (.cells #[(.pointer none)] 344 (0,0)) fun b9 cT=>
St 1 cT (pt b9) (pt b7) fun dB=>
Ld dB (pt b1) fun bt=>
CF g 121 #[bt,(Value.int .u32 1)] dB (fun aY iB=>
Ld iB (pt b9) fun bD=>
cg Tryz.prog g a1 #[bD] iB (fun bB ej=>
Ld ej (pt b9) fun cf=>
Nil cf fun bN=>
aa 2 bN fun v20=>
Ld ej v20 fun bQ=>
ae .num .neq bQ (Value.int .i64 0) fun cm=>
Br cm (
Ld ej (pt b9) fun ca=>
Nil ca fun cK=>
aa 2 cK fun cy=>
Ld ej cy fun cM=>
j6 Tryz.prog g 277 #[(pt b9),(pt b1)] ej fun iR=>
R (.returned (.tuple #[(Value.int .u32 0),(Value.bool false),cM])) iR) (
Ld ej (pt b9) fun dg=>
Nil dg fun cV=>
aa 1 cV fun v30=>
Ld ej v30 fun dQ=>
rI (.int .u32) (Value.int .i64 0) false ej dQ bB fun eX=>
ae .num .gtr eX (Value.int .i64 0) fun fR=>
Br fR (
Ld ej (pt b9) fun fS=>
Nil fS fun fJ=>
aa 1 fJ fun eW=>
Ld ej eW fun eP=>
rH (.int .u32) ej eP bB fun l9=>
j6 Tryz.prog g 277 #[(pt b9),(pt b1)] l9 fun FX=>
R (.returned (.tuple #[bB,(Value.bool true),(Value.int .i64 0)])) FX) (
Ld ej (pt b1) fun jr=>
CF g 121 #[jr,bB] ej (fun iN Q2=>
ae .num .eql iN (Value.int .i64 0) fun jR=>
j6 Tryz.prog g 277 #[(pt b9),(pt b1)] Q2 fun JT=>
R (.returned (.tuple #[bB,jR,(Value.int .i64 0)])) JT) Je))) Je) Je
theorem Af(h:L268 g a0 a1 H R):aj Tryz.prog g 268 #[a0,a1] H R:=
 yD (hn:=(.n .e (.n .e (.n .e (.n .e .e))))) Tryz.func268 h (by kernel_rfl)
def L269(g:Gh)(a0 a1 a2 a3:Value)(H:Hp)(R:Rt):Prop:=
Ld H a1 fun v1=>
Ld H a2 fun v2=>
CF g 270 #[a0,v1,v2,(.func (.func 271) #[] #[a3])] H (fun v3 H4=>
R (.returned v3) H4) (an R)
theorem Ae(h:L269 g a0 a1 a2 a3 H R):aj Tryz.prog g 269 #[a0,a1,a2,a3] H R:=
 ak (hn:=.e) Tryz.func269 h (by kernel_rfl)
def L270(g:Gh)(a0 a1 a2 a3:Value)(H:Hp)(R:Rt):Prop:=
bg H (.cells (Value.cells a0) 344 (0,0)) fun b1 H2=>
bg H2 (.cells (Value.cells a3) 289 (0,0)) fun b3 H4=>
Ld H4 (pt b1) fun v5=>
Nil v5 fun v6=>
aa 0 v6 fun v7=>
Ld H4 v7 fun v8=>
CF g 46 #[v8,a2] H4 (fun v9 cT=>
Ext 0 v9 fun v11=>
Ext 1 v9 fun bt=>
bg cT (.cells #[(Value.int .i64 0)] 3 (0,0)) fun fi iB=>
St 1 iB (pt fi) v11 fun dy=>
n8 dy fun bB ej=>
bg ej (.cells #[(.map none)] 351 (0,0)) fun fm jv=>
St 1 jv (pt fm) bB fun gk=>
bg gk (.cells #[.nilFunc] 352 (0,0)) fun oR g7=>
St 1 g7 (pt oR) (.func (.func 278) #[] #[(pt b1),(pt fi),(pt fm),(pt b3),(pt oR)]) fun jV=>
Ld jV (pt oR) fun cK=>
cg Tryz.prog g cK #[a1] jV (fun cy gH=>
R (.returned cy) gH) (an R)) (an R)
theorem Ad(h:L270 g a0 a1 a2 a3 H R):aj Tryz.prog g 270 #[a0,a1,a2,a3] H R:=
 ak (hn:=.e) Tryz.func270 h (by kernel_rfl)
def L271(g:Gh)(a0 a1:Value)(H:Hp)(R:Rt):Prop:=
bg H (.cells (Value.cells a0) 161 (0,0)) fun b1 H2=>
Ld H2 a1 fun v3=>
Br v3 (
aa 2 (pt b1) fun v4=>
Ld H2 v4 fun v5=>
R (.returned v5) H2) (
aa 1 (pt b1) fun v6=>
Ld H2 v6 fun v7=>
R (.returned v7) H2)
theorem Ac(h:L271 g a0 a1 H R):aj Tryz.prog g 271 #[a0,a1] H R:=
 ak (hn:=.e) Tryz.func271 h (by kernel_rfl)
def L272(g:Gh)(a0 a1 a2 a3:Value)(H:Hp)(R:Rt):Prop:=
bg H (.cells (Value.cells a1) 77 (0,0)) fun b1 H2=>
bg H2 (.cells (Value.cells a2) 3 (0,0)) fun b3 H4=>
bg H4 (.cells (Value.cells a3) 4 (0,0)) fun b5 H6=>
CF g 268 #[a0,(.func (.func 281) #[] #[(pt b1),(pt b3),(pt b5)])] H6 (fun v7 H8=>
Ext 0 v7 fun v9=>
Ext 1 v7 fun v10=>
Ext 2 v7 fun v11=>
R (.returned (.tuple #[v9,v10,v11])) H8) (an R)
theorem Ab(h:L272 g a0 a1 a2 a3 H R):aj Tryz.prog g 272 #[a0,a1,a2,a3] H R:=
 ak (hn:=.e) Tryz.func272 h (by kernel_rfl)
def L273(g:Gh)(a0:Value)(H:Hp)(R:Rt):Prop:=
CF g 284 #[(.slice none 0 0),a0] H (fun v1 H2=>
R (.returned v1) H2) (an R)
theorem Aa(h:L273 g a0 H R):aj Tryz.prog g 273 #[a0] H R:=
 ak (hn:=.e) Tryz.func273 h (by kernel_rfl)
def L274(g:Gh)(a0:Value)(H:Hp)(R:Rt):Prop:=
bA a0 fun v1=>
aW .u64 v1 fun v2=>
CF g 286 #[v2] H (fun v3 H4=>
CF g 285 #[a0,(Value.int .i64 0),v1,v3] H4 (fun v5 H6=>
R (.returned (.tuple #[])) H6) (an R)) (an R)
theorem z9(h:L274 g a0 H R):aj Tryz.prog g 274 #[a0] H R:=
 ak (hn:=.e) Tryz.func274 h (by kernel_rfl)
def L277(g:Gh)(a0 a1:Value)(H:Hp)(R:Rt):Prop:=
Ld H a0 fun v1=>
Nil v1 fun v2=>
aa 1 v2 fun v3=>
Ld H v3 fun v4=>
QM H v4 fun v5 H6=>
∃(I7:Jt) (m8:Mt),JE I7 [] H6∧∀cT:Hp,I7 [] cT→∀QK:Fr,
PV cT v5 fun v11 dI=>
Ext 0 v11 fun aY=>
Br aY (
FA dI v5 fun br=>
Ext 0 br fun bD=>
Ld dI a1 fun bB=>
CF g 131 #[bB,bD] dI (fun bH dW=>
aF I7 m8 [] dW [] cT) (an R)) (
R (.returned (.tuple #[])) dI)
theorem xN(h:L277 g a0 a1 H R):jO Tryz.prog g 277 #[a0,a1] H R:=
 yE (hn:=(.n .e (.n (.h 0 [] [1,7] .e .e) .e))) Tryz.func277 h (by kernel_rfl)
def L278(g:Gh)(a0 a1 a2 a3 a4 a5:Value)(H:Hp)(R:Rt):Prop:=
Ld H a1 fun v1=>
CF g 279 #[v1,a0] H (fun v2 H3=>
Ext 0 v2 fun v4=>
Ext 1 v2 fun v5=>
bg H3 (.cells #[(Value.int .i64 0),(Value.int .u32 0),(Value.int .u32 0)] 161 (0,0)) fun b6 H7=>
St 3 H7 (pt b6) v4 fun H8=>
Ld H8 a2 fun v9=>
ae .num .gtr v5 v9 fun v10=>
cw v10 false (fun t11=>
Ld H8 a1 fun bt=>
Nil bt fun aY=>
aa 2 aY fun br=>
Ld H8 br fun bD=>
ae .num .neq bD (Value.int .i64 0) fun bB=>
(H8=H8∧bB=Value.bool t11)) (fun t11=>(Value.bool true)=Value.bool t11) fun t11=>∀Pt:Fr,
Br (Value.bool t11) (
R (.returned a0) H8) (
Ld H8 a3 fun cf=>
rI (.int .u32) (Value.int .u32 0) true H8 cf a0 fun bN=>
Ext 0 bN fun v20=>
Ext 1 bN fun bQ=>
Br bQ (
R (.returned v20) H8) (
∀Zf:Jt,(∀rW:Value,∀iL:Hp,(∀YF:Fr,
Ld iL a3 fun cM=>
iK (.int .u32) iL cM a0 rW fun iR=>
R (.returned rW) iR)→Zf [rW] iL)→
Ld H8 a2 fun dg=>
ae .num .eql v5 dg fun cV=>
Br cV (
Ld H8 a4 fun v30=>
aC 3 H8 (pt b6) fun dQ=>
cg Tryz.prog g v30 #[dQ] H8 (fun eX mc=>
JE Zf [eX] mc) (an R)) (
Ld H8 a5 fun fS=>
aa 1 (pt b6) fun fJ=>
Ld H8 fJ fun eW=>
cg Tryz.prog g fS #[eW] H8 (fun eP r8=>
DR r8 fun L0=>
Ld L0 a1 fun jy=>
aa 0 (pt b6) fun gy=>
Ld L0 gy fun jr=>
Ld L0 a5 fun iN=>
aa 2 (pt b6) fun jx=>
Ld L0 jx fun jR=>
cg Tryz.prog g iN #[jR] r8 (fun kf Dy=>
aU Dy L0∧
CF g 280 #[jy,jr,eP,kf] Dy (fun mg sL=>
aU sL L0∧
JE Zf [mg] sL) bn) bn) (an R))))) (an R)
theorem z8(h:L278 g a0 a1 a2 a3 a4 a5 H R):aj Tryz.prog g 278 #[a0,a1,a2,a3,a4,a5] H R:=
 ak (hn:=(.n .e (.n .e (.n (.n (.h 0 [] [1] .e .e) .e) (.n .e (.n .e (.h 1 [12] [0,3] (.n .e (.n .e (.n .e (.h 0 (List.range 10) [] .e .e)))) .e))))))) Tryz.func278 h (by kernel_rfl)
def L279(g:Gh)(a0 a1:Value)(H:Hp)(R:Rt):Prop:=
bg H (.cells #[(Value.int .i64 0),(Value.int .u32 0),(Value.int .u32 0)] 161 (0,0)) fun b1 H2=>
Nil a0 fun v3=>
aa 0 v3 fun v4=>
Ld H2 v4 fun v5=>
CF g 97 #[v5,a1] H2 (fun v6 H7=>
Ext 0 v6 fun v8=>
Ext 1 v6 fun v9=>
bg H7 (.cells #[(Value.int .i64 0),(Value.int .u32 0),(Value.int .u32 0)] 161 (0,0)) fun vp dB=>
St 3 dB (pt vp) v8 fun dI=>
DR dI fun PU=>
aC 3 PU (pt vp) fun br=>
aC 3 PU (pt vp) fun bD=>
CF g 287 #[a0,bD] dI (fun bB ej=>
aU ej PU∧
St 3 ej (pt b1) br fun dW=>
aU dW PU∧
aC 3 dW (pt b1) fun bN=>
R (.returned (.tuple #[bN,bB])) dW) bn) (an R)
theorem z7(h:L279 g a0 a1 H R):aj Tryz.prog g 279 #[a0,a1] H R:=
 ak (hn:=(.n .e (.n .e (.n (.h 0 (List.range 6) [] .e .e) .e)))) Tryz.func279 h (by kernel_rfl)
def L280(g:Gh)(a0 a1 a2 a3:Value)(H:Hp)(R:Rt):Prop:=
Nil a0 fun v1=>
aa 2 v1 fun v2=>
Ld H v2 fun v3=>
ae .num .neq v3 (Value.int .i64 0) fun v4=>
Br v4 (
R (.returned (Value.int .u32 0)) H) (
Nil a0 fun v5=>
aa 0 v5 fun v6=>
Ld H v6 fun v7=>
CF g 164 #[v7,a1,a2,a3] H (fun v8 H9=>
Ext 0 v8 fun v10=>
Ext 1 v8 fun v11=>
∀Uh:Jt,(∀xW:Value,∀iB:Hp,(∀YJ:Fr,
R (.returned xW) iB)→Uh [xW] iB)→
ae .num .eql v11 (Value.int .i64 8) fun bB=>
Br bB (
Nil a0 fun bH=>
aa 0 bH fun cf=>
Ld H9 cf fun bN=>
CF g 276 #[bN,a1,a2,a3] H9 (fun v20 gI=>
Ext 0 v20 fun cm=>
Ext 1 v20 fun ca=>
JE Uh [cm] gI) (an R)) (
ae .num .neq v11 (Value.int .i64 0) fun cK=>
Br cK (
Nil a0 fun cy=>
aa 2 cy fun cM=>
St 1 H9 cM v11 fun iR=>
JE Uh [v10] iR) (
ae .num .leq v10 (Value.int .u32 1) fun dg=>
cw dg false (fun t29=>
Nil a0 fun v30=>
aa 1 v30 fun dQ=>
Ld H9 dQ fun eX=>
rI (.int .u32) (Value.int .i64 0) false H9 eX v10 fun fR=>
ae .num .gtr fR (Value.int .i64 0) fun fS=>
(H9=H9∧fS=Value.bool t29)) (fun t29=>(Value.bool true)=Value.bool t29) fun t29=>∀Tp:Fr,
Br (Value.bool t29) (
Nil a0 fun eW=>
aa 0 eW fun eP=>
Ld H9 eP fun ia=>
CF g 131 #[ia,v10] H9 (fun iC l9=>
JE Uh [v10] l9) (an R)) (
Nil a0 fun gy=>
aa 1 gy fun jr=>
Ld H9 jr fun iN=>
iK (.int .u32) H9 iN v10 (Value.int .i64 1) fun Q2=>
JE Uh [v10] Q2)))) (an R))
theorem rK(h:L280 g a0 a1 a2 a3 H R):aj Tryz.prog g 280 #[a0,a1,a2,a3] H R:=
 ak (hn:=(.n .e (.n .e (.n .e (.h 1 [9] [] (.n (.n .e (.n .e (.n .e (.n .e (.n (.h 0 [] [1] .e .e) .e))))) .e) .e))))) Tryz.func280 h (by kernel_rfl)
def L281(g:Gh)(a0 a1 a2 a3:Value)(H:Hp)(R:Rt):Prop:=
bg H (.cells (Value.cells a0) 344 (0,0)) fun b1 H2=>
Ld H2 (pt b1) fun v3=>
Ld H2 a1 fun v4=>
Ld H2 a2 fun v5=>
CF g 270 #[v3,v4,v5,(.func (.func 282) #[] #[(pt b1),a3])] H2 (fun v6 H7=>
R (.returned v6) H7) (an R)
theorem z6(h:L281 g a0 a1 a2 a3 H R):aj Tryz.prog g 281 #[a0,a1,a2,a3] H R:=
 ak (hn:=.e) Tryz.func281 h (by kernel_rfl)
def L282(g:Gh)(a0 a1 a2:Value)(H:Hp)(R:Rt):Prop:=
bg H (.cells (Value.cells a0) 161 (0,0)) fun b1 H2=>
Ld H2 a1 fun v3=>
aa 1 (pt b1) fun v4=>
Ld H2 v4 fun v5=>
aa 2 (pt b1) fun v6=>
Ld H2 v6 fun v7=>
Ld H2 a2 fun v8=>
CF g 283 #[v3,v5,v7,v8] H2 (fun v9 cT=>
R (.returned v9) cT) (an R)
theorem zZ(h:L282 g a0 a1 a2 H R):aj Tryz.prog g 282 #[a0,a1,a2] H R:=
 ak (hn:=.e) Tryz.func282 h (by kernel_rfl)
def L283(g:Gh)(a0 a1 a2 a3:Value)(H:Hp)(R:Rt):Prop:=
bg H (.cells (Value.cells a0) 344 (0,0)) fun b1 H2=>
bg H2 (.cells #[(Value.int .u32 0)] 77 (0,0)) fun b3 H4=>
bg H4 (.cells #[(Value.int .u32 0)] 77 (0,0)) fun b5 H6=>
St 1 H6 (pt b3) (Value.int .u32 0) fun H7=>
St 1 H7 (pt b5) (Value.int .u32 1) fun H8=>
∀J9:Jt,(∀dB:Hp,(∀qR:Fr,
n8 dB fun bt fj=>
bg fj (.cells #[(.map none)] 360 (0,0)) fun mU dy=>
St 1 dy (pt mU) bt fun jQ=>
bg jQ (.cells #[.nilFunc] 361 (0,0)) fun l7 dW=>
St 1 dW (pt l7) (.func (.func 288) #[] #[(pt b3),(pt b5),(pt b1),(pt mU),(pt l7)]) fun jv=>
Ld jv (pt l7) fun v20=>
cg Tryz.prog g v20 #[a1,a2] jv (fun bQ g7=>
R (.returned bQ) g7) (an R))→J9 [] dB)→
Br a3 (
St 1 H8 (pt b3) (Value.int .u32 1) fun jV=>
St 1 jV (pt b5) (Value.int .u32 0) fun iL=>
JE J9 [] iL) (
JE J9 [] H8)
theorem zY(h:L283 g a0 a1 a2 a3 H R):aj Tryz.prog g 283 #[a0,a1,a2,a3] H R:=
 ak (hn:=(.n .e (.n .e (.h 1 [] [1,2,4,9,10] .e .e)))) Tryz.func283 h (by kernel_rfl)
def L285(g:Gh)(a0 a1 a2 a3:Value)(H:Hp)(R:Rt):Prop:=
∃(I1:Jt) (m2:Mt),JE I1 [a1,a2,a3,(Value.bool true),(Value.bool true)] H∧∀w5 w6 w7 w8 w9:Value,∀H4:Hp,I1 [w5,w6,w7,w8,w9] H4→∀Tr:Fr,
ae .num .sub w6 w5 fun v10=>
ae .num .leq v10 (Value.int .i64 12) fun v11=>
Br v11 (
CF g 289 #[a0,w5,w6] H4 (fun bt fj=>
R (.returned (.tuple #[])) fj) (an R)) (
ae .num .eql w7 (Value.int .i64 0) fun br=>
Br br (
CF g 290 #[a0,w5,w6] H4 (fun bD jQ=>
R (.returned (.tuple #[])) jQ) (an R)) (
∀vx:Jt,(∀vD:Value,∀jv:Hp,(∀Ps:Fr,
CF g 292 #[a0,w5,w6] jv (fun bQ g7=>
Ext 0 bQ fun ca=>
Ext 1 bQ fun cK=>
∀Uf:Jt,(∀F5 JX:Value,∀iR:Hp,(∀YE:Fr,
∀Ud:Jt,(∀rU:Hp,(∀aeC:Fr,
∀FU:Jt,(∀Md:Value,∀rT:Hp,(∀YD:Fr,
Br Md (
CF g 296 #[a0,w5,w6,F5] rT (fun eP r8=>
aF I1 m2 [eP,w6,vD,w8,w9] r8 [w5,w6,w7,w8,w9] H4) (an R)) (
CF g 297 #[a0,w5,w6,F5] rT (fun iC l9=>
Ext 0 iC fun gy=>
Ext 1 iC fun jr=>
ae .num .sub gy w5 fun iN=>
ae .num .sub w6 gy fun jx=>
ae .num .quo v10 (Value.int .i64 8) fun jR=>
ae .num .lss iN jx fun kf=>
Br kf (
ae .num .geq iN jR fun mE=>
CF g 285 #[a0,w5,gy,vD] l9 (fun mg sL=>
ae .num .add gy (Value.int .i64 1) fun lW=>
aF I1 m2 [lW,w6,vD,mE,jr] sL [w5,w6,w7,w8,w9] H4) (an R)) (
ae .num .geq jx jR fun j9=>
ae .num .add gy (Value.int .i64 1) fun ki=>
CF g 285 #[a0,ki,w6,vD] l9 (fun qm FW=>
aF I1 m2 [w5,gy,vD,j9,jr] FW [w5,w6,w7,w8,w9] H4) (an R))) (an R)))→FU [Md] rT)→
DR rU fun R55=>
ae .num .gtr w5 (Value.int .i64 0) fun qk=>
Br qk (
ae .num .sub w5 (Value.int .i64 1) fun sU=>
ai 1 a0 sU fun ua=>
Ld R55 ua fun sj=>
ai 1 a0 F5 fun qj=>
Ld R55 qj fun qi=>
∀F62:Hp,
CF (g.add F62) 295 #[sj,qi] rU (fun qh FV=>
Un .not qh fun pw=>
aA (Value.bool true) pw (Value.bool false) fun si=>
JE FU [si] FV) bn) (
JE FU [(Value.bool false)] rU))→Ud [] rU)→
cw w8 true (fun t67=>
(iR=iR∧w9=Value.bool t67)) (fun t67=>(Value.bool false)=Value.bool t67) fun t67=>∀aes:Fr,
cw (Value.bool t67) true (fun t69=>
ae .num .eql JX (Value.int .i64 1) fun rY=>
(iR=iR∧rY=Value.bool t69)) (fun t69=>(Value.bool false)=Value.bool t69) fun t69=>∀Yx:Fr,
Br (Value.bool t69) (
CF g 294 #[a0,w5,w6] iR (fun sg tT=>
Br sg (
R (.returned (.tuple #[])) tT) (
JE Ud [] tT)) (an R)) (
JE Ud [] iR))→Uf [F5,JX] iR)→
ae .num .eql cK (Value.int .i64 2) fun DJ=>
Br DJ (
CF g 293 #[a0,w5,w6] g7 (fun sb rS=>
ae .num .sub w6 (Value.int .i64 1) fun ym=>
ae .num .sub ca w5 fun r9=>
ae .num .sub ym r9 fun tY=>
JE Uf [tY,(Value.int .i64 1)] rS) (an R)) (
JE Uf [ca,cK] g7)) (an R))→vx [vD] jv)→
Un .not w8 fun FG=>
Br FG (
CF g 291 #[a0,w5,w6] H4 (fun xY ZD=>
ae .num .sub w7 (Value.int .i64 1) fun Gd=>
JE vx [Gd] ZD) (an R)) (
JE vx [w7] H4)))
theorem rJ(h:L285 g a0 a1 a2 a3 H R):aj Tryz.prog g 285 #[a0,a1,a2,a3] H R:=
 ak (hn:=(.n .e (.n .e (.n (.h 0 [1,2,3,8,9] [0] (.n (.n .e (.n .e (.n .e (.h 1 [3] [0,1,2,8,9,10] .e (.n .e (.h 1 [11,12] [0,1,2,3,8,9,10] .e (.h 1 [] [0,1,2,3,8,9,10,11] (.n (.h 0 [] [1] .e .e) .e) (.n (.h 1 [87] [0,1,2,3,8,9,10,11] (.h 1 [] [] (.h 0 [0] [] (.h 0 [1] [] (.h 2 [2] [] (.h 0 [3] [] (.h 0 [4] [] (.h 0 [5] [] (.h 0 [6] [] (.h 0 [7] [] (.h 0 [8] [] (.h 0 [9] [] (.h 0 [10] [] (.h 0 [11] [] (.h 0 [12] [] (.h 0 [13] [] (.h 0 [14] [] .e .e) .e) .e) .e) .e) .e) .e) .e) .e) .e) .e) .e) (.h 0 [3] [] (.h 0 [4] [] (.h 0 [5] [] (.h 0 [6] [] (.h 0 [7] [] (.h 0 [8] [] (.h 0 [9] [] (.h 0 [10] [] (.h 0 [11] [] (.h 0 [12] [] (.h 0 [13] [] (.h 3 [14] [] .e .e) .e) .e) .e) .e) .e) .e) .e) .e) .e) .e) .e)) .e) .e) .e) .e) .e)))))))) .e) .e) .e)))) Tryz.func285 h (by kernel_rfl)
def L286(g:Gh)(a0:Value)(H:Hp)(R:Rt):Prop:=
Br (Value.bool false) (
aW .u32 a0 fun v1=>
CF g 298 #[v1] H (fun v2 H3=>
R (.returned v2) H3) (an R)) (
CF g 75 #[a0] H (fun v4 H5=>
R (.returned v4) H5) (an R))
theorem zX(h:L286 g a0 H R):aj Tryz.prog g 286 #[a0] H R:=
 ak (hn:=.e) Tryz.func286 h (by kernel_rfl)
def L287(g:Gh)(a0 a1:Value)(H:Hp)(R:Rt):Prop:=
bg H (.cells (Value.cells a1) 161 (0,0)) fun b1 H2=>
aa 0 (pt b1) fun v3=>
Ld H2 v3 fun v4=>
ae .num .lss v4 (Value.int .i64 0) fun v5=>
Br v5 (
Nil a0 fun v6=>
aa 0 v6 fun v7=>
Ld H2 v7 fun v8=>
CF g 61 #[v8] H2 (fun v9 cT=>
R (.returned v9) cT) (an R)) (
DR H2 fun QS=>
Nil a0 fun bt=>
aa 0 bt fun aY=>
Ld QS aY fun br=>
aa 0 (pt b1) fun bD=>
Ld QS bD fun bB=>
CF g 46 #[br,bB] H2 (fun bH dW=>
aU dW QS∧
Ext 0 bH fun bN=>
Ext 1 bH fun v20=>
R (.returned bN) dW) bn)
theorem zW(h:L287 g a0 a1 H R):aj Tryz.prog g 287 #[a0,a1] H R:=
 ak (hn:=(.n .e (.n .e (.n (.h 0 (List.range 12) [] .e .e) .e)))) Tryz.func287 h (by kernel_rfl)
def L288(g:Gh)(a0 a1 a2 a3 a4 a5 a6:Value)(H:Hp)(R:Rt):Prop:=
Ld H a2 fun v1=>
ae .num .eql a0 v1 fun v2=>
cw v2 false (fun t3=>
Ld H a2 fun v4=>
ae .num .eql a1 v4 fun v5=>
(H=H∧v5=Value.bool t3)) (fun t3=>(Value.bool true)=Value.bool t3) fun t3=>∀MZ:Fr,
Br (Value.bool t3) (
Ld H a2 fun v7=>
R (.returned v7) H) (
Ld H a3 fun v8=>
ae .num .eql a0 v8 fun v9=>
cw v9 false (fun t10=>
ae .num .eql a0 a1 fun v11=>
(H=H∧v11=Value.bool t10)) (fun t10=>(Value.bool true)=Value.bool t10) fun t10=>∀Ls:Fr,
Br (Value.bool t10) (
R (.returned a1) H) (
Ld H a3 fun aY=>
ae .num .eql a1 aY fun br=>
Br br (
R (.returned a0) H) (
Ld H a4 fun bD=>
Nil bD fun bB=>
aa 2 bB fun bH=>
Ld H bH fun cf=>
ae .num .neq cf (Value.int .i64 0) fun bN=>
Br bN (
R (.returned (Value.int .u32 0)) H) (
PW a0 a1 fun v20=>
PX a0 a1 fun bQ=>
Build Tryz.prog 363 [(0,v20),(1,bQ)] fun cm=>
bg H (.cells #[(Value.int .u32 0),(Value.int .u32 0)] 363 (0,0)) fun Dk iL=>
St 2 iL (pt Dk) cm fun gj=>
Ld gj a5 fun cM=>
aC 2 gj (pt Dk) fun dh=>
iA Tryz.prog 363 (Value.int .u32 0) true gj cM dh fun dg=>
Ext 0 dg fun cV=>
Ext 1 dg fun v30=>
Br v30 (
R (.returned cV) gj) (
Ld gj a4 fun dQ=>
CF g 279 #[dQ,a0] gj (fun eX mc=>
Ext 0 eX fun fS=>
Ext 1 eX fun fJ=>
bg mc (.cells #[(Value.int .i64 0),(Value.int .u32 0),(Value.int .u32 0)] 161 (0,0)) fun EN sM=>
St 3 sM (pt EN) fS fun r8=>
Ld r8 a4 fun iC=>
CF g 279 #[iC,a1] r8 (fun jy FX=>
Ext 0 jy fun jr=>
Ext 1 jy fun iN=>
bg FX (.cells #[(Value.int .i64 0),(Value.int .u32 0),(Value.int .u32 0)] 161 (0,0)) fun EM Qb=>
St 3 Qb (pt EM) jr fun JT=>
aa 0 (pt EN) fun mE=>
Ld JT mE fun mg=>
∀Ua:Jt,(∀w52:Value,∀JS:Hp,(∀aex:Fr,
∀T9:Jt,(∀L7:Hp,(∀aew:Fr,
∀T8:Jt,(∀r7:Hp,(∀aeu:Fr,
Ld r7 a6 fun sj=>
aa 1 (pt EN) fun qj=>
Ld r7 qj fun qi=>
aa 1 (pt EM) fun sS=>
Ld r7 sS fun qh=>
cg Tryz.prog g sj #[qi,qh] r7 (fun vP H65=>
DR H65 fun QN=>
Ld QN a4 fun tZ=>
Ld QN a6 fun qg=>
aa 2 (pt EN) fun qe=>
Ld QN qe fun rY=>
aa 2 (pt EM) fun vO=>
Ld QN vO fun sg=>
cg Tryz.prog g qg #[rY,sg] H65 (fun yo QZ=>
aU QZ QN∧
CF g 280 #[tZ,w52,vP,yo] QZ (fun sb rS=>
aU rS QN∧
Ld rS a5 fun ym=>
aC 2 rS (pt Dk) fun r9=>
iz Tryz.prog 363 rS ym r9 sb fun ZE=>
R (.returned sb) ZE) bn) bn) (an R))→T8 [] r7)→
ae .num .gtr iN fJ fun FG=>
Br FG (
aa 1 (pt EM) fun xY=>
St 1 L7 xY a1 fun ZD=>
aa 2 (pt EM) fun Gd=>
St 1 ZD Gd a1 fun ZC=>
JE T8 [] ZC) (
JE T8 [] L7))→T9 [] L7)→
ae .num .gtr fJ iN fun sR=>
Br sR (
aa 1 (pt EN) fun DI=>
St 1 JS DI a0 fun JQ=>
aa 2 (pt EN) fun Gb=>
St 1 JQ Gb a0 fun H89=>
JE T9 [] H89) (
JE T9 [] JS))→Ua [w52] JS)→
ae .num .lss iN fJ fun yl=>
Br yl (
aa 0 (pt EM) fun sQ=>
Ld JT sQ fun yj=>
JE Ua [yj] JT) (
JE Ua [mg] JT)) (an R)) (an R))))))
theorem zV(h:L288 g a0 a1 a2 a3 a4 a5 a6 H R):aj Tryz.prog g 288 #[a0,a1,a2,a3,a4,a5,a6] H R:=
 ak (hn:=(.n .e (.n (.n (.n (.h 0 [] [1] .e .e) (.n .e (.n (.h 0 [] [1] .e .e) .e))) .e) (.n .e (.n .e (.n .e (.n .e (.n .e (.h 1 [17] [0,1,4,5,6,10,13,14,15,16] .e (.h 1 [] [1,4,5,6,10,13,14,15,16,17] .e (.h 1 [] [4,5,6,10,13,15,17] .e (.n .e (.n (.h 0 (List.range 11) [] .e .e) .e))))))))))))) Tryz.func288 h (by kernel_rfl)
def L289(g:Gh)(a0 a1 a2:Value)(H:Hp)(R:Rt):Prop:=
ae .num .add a1 (Value.int .i64 1) fun v1=>
∃(I2:Jt) (m3:Mt),JE I2 [v1] H∧∀w6:Value,∀H5:Hp,I2 [w6] H5→∀JL:Fr,
ae .num .lss w6 a2 fun v7=>
Br v7 (
∃(I8:Jt) (m9:Mt),JE I8 [w6] H5∧∀fZ:Value,∀dB:Hp,I8 [fZ] dB→∀qR:Fr,
∀xR:Jt,(∀j8:Value,∀dy:Hp,(∀qQ:Fr,
Br j8 (
DR dy fun R17=>
ae .num .sub fZ (Value.int .i64 1) fun cf=>
ae .num .sub fZ (Value.int .i64 1) fun bN=>
ai 1 a0 bN fun v20=>
Ld R17 v20 fun bQ=>
ai 1 a0 fZ fun cm=>
Ld R17 cm fun ca=>
ai 1 a0 fZ fun cK=>
St 1 dy cK bQ fun gj=>
ai 1 a0 cf fun cM=>
St 1 gj cM ca fun iR=>
ae .num .sub fZ (Value.int .i64 1) fun dg=>
aF I8 m9 [dg] iR [fZ] dB) (
ae .num .add w6 (Value.int .i64 1) fun cV=>
aF I2 m3 [cV] dy [w6] H5))→xR [j8] dy)→
DR dB fun R30=>
ae .num .gtr fZ a1 fun dQ=>
Br dQ (
ai 1 a0 fZ fun eX=>
Ld R30 eX fun fR=>
ae .num .sub fZ (Value.int .i64 1) fun fS=>
ai 1 a0 fS fun fJ=>
Ld R30 fJ fun eW=>
∀ZU:Hp,
CF (g.add ZU) 295 #[fR,eW] dB (fun ia FY=>
aA (Value.bool true) ia (Value.bool false) fun jy=>
JE xR [jy] FY) bn) (
JE xR [(Value.bool false)] dB)) (
R (.returned (.tuple #[])) H5)
theorem zU(h:L289 g a0 a1 a2 H R):aj Tryz.prog g 289 #[a0,a1,a2] H R:=
 ak (hn:=(.n .e (.n (.h 0 [6] [0,1,2] (.n .e (.n (.n (.n .e (.n (.h 0 [7] [0,1,2,6] (.n (.h 1 [30] [0,1,2,6,7] (.h 1 [] [] (.h 0 [0] [] (.h 0 [1] [] (.h 0 [2] [] (.h 2 [3] [] (.h 0 [4] [] (.h 0 [5] [] (.h 0 [6] [] (.h 0 [7] [] (.h 0 [8] [] (.h 0 [9] [] (.h 0 [10] [] (.h 0 [11] [] (.h 0 [12] [] (.h 0 [13] [] (.h 0 [14] [] .e .e) .e) .e) .e) .e) .e) .e) .e) .e) .e) .e) (.h 0 [4] [] (.h 0 [5] [] (.h 0 [6] [] (.h 0 [7] [] (.h 0 [8] [] (.h 0 [9] [] (.h 0 [10] [] (.h 0 [11] [] (.h 0 [12] [] (.h 0 [13] [] (.h 3 [14] [] .e .e) .e) .e) .e) .e) .e) .e) .e) .e) .e) .e)) .e) .e) .e) .e) .e) (.n (.n (.h 0 (List.range 18) [] .e .e) .e) .e)) .e) .e)) .e) .e)) .e) .e))) Tryz.func289 h (by kernel_rfl)
def L290(g:Gh)(a0 a1 a2:Value)(H:Hp)(R:Rt):Prop:=
ae .num .sub a2 a1 fun v1=>
ae .num .sub v1 (Value.int .i64 1) fun v2=>
ae .num .quo v2 (Value.int .i64 2) fun v3=>
∃(I4:Jt) (m5:Mt),JE I4 [v3] H∧∀w8:Value,∀H7:Hp,I4 [w8] H7→∀MZ:Fr,
ae .num .geq w8 (Value.int .i64 0) fun v9=>
Br v9 (
CF g 299 #[a0,w8,v1,a1] H7 (fun v10 dB=>
ae .num .sub w8 (Value.int .i64 1) fun bt=>
aF I4 m5 [bt] dB [w8] H7) (an R)) (
ae .num .sub v1 (Value.int .i64 1) fun aY=>
∃(Ji:Jt) (Rz:Mt),JE Ji [aY] H7∧∀gZ:Value,∀ej:Hp,Ji [gZ] ej→∀Pu:Fr,
ae .num .geq gZ (Value.int .i64 0) fun bN=>
Br bN (
DR ej fun ya=>
ae .num .add a1 gZ fun bQ=>
ae .num .add a1 gZ fun cm=>
ai 1 a0 cm fun ca=>
Ld ya ca fun cK=>
ai 1 a0 a1 fun cy=>
Ld ya cy fun cM=>
ai 1 a0 a1 fun dh=>
St 1 ej dh cK fun tU=>
ai 1 a0 bQ fun cV=>
St 1 tU cV cM fun p9=>
CF g 299 #[a0,(Value.int .i64 0),gZ,a1] p9 (fun dQ rU=>
ae .num .sub gZ (Value.int .i64 1) fun fR=>
aF Ji Rz [fR] rU [gZ] ej) (an R)) (
R (.returned (.tuple #[])) ej))
theorem zT(h:L290 g a0 a1 a2 H R):aj Tryz.prog g 290 #[a0,a1,a2] H R:=
 ak (hn:=(.n .e (.n .e (.n .e (.n (.n .e (.n (.h 0 [9] [0,6,7,8] .e .e) .e)) (.n .e (.n (.h 0 [10] [0,6,7] (.n .e (.n (.n (.n (.h 0 (List.range 20) [] .e .e) .e) .e) .e)) .e) .e))))))) Tryz.func290 h (by kernel_rfl)
def L291(g:Gh)(a0 a1 a2:Value)(H:Hp)(R:Rt):Prop:=
ae .num .sub a2 a1 fun v1=>
ae .num .geq v1 (Value.int .i64 8) fun v2=>
Br v2 (
aW .u64 v1 fun v3=>
bg H (.cells #[(Value.int .u64 0)] 373 (0,0)) fun b4 H5=>
St 1 H5 (pt b4) v3 fun H6=>
CF g 300 #[v1] H6 (fun v7 H8=>
ae .num .quo v1 (Value.int .i64 4) fun v9=>
ae .num .mul v9 (Value.int .i64 2) fun v10=>
ae .num .add a1 v10 fun v11=>
ae .num .sub v11 (Value.int .i64 1) fun bt=>
∃(P5:Jt) (WM:Mt),JE P5 [bt] H8∧∀qd:Value,∀jQ:Hp,P5 [qd] jQ→∀YI:Fr,
ae .num .quo v1 (Value.int .i64 4) fun cf=>
ae .num .mul cf (Value.int .i64 2) fun bN=>
ae .num .add a1 bN fun v20=>
ae .num .add v20 (Value.int .i64 1) fun bQ=>
ae .num .leq qd bQ fun cm=>
Br cm (
CF g 301 #[(pt b4)] jQ (fun ca iL=>
ae .num .sub v7 (Value.int .u64 1) fun cy=>
ae .num .and ca cy fun cM=>
aW .i64 cM fun dh=>
∀Ue:Jt,(∀Vi:Value,∀p9:Hp,(∀Ts:Fr,
DR p9 fun R32=>
ae .num .add a1 Vi fun fR=>
ae .num .add a1 Vi fun fS=>
ai 1 a0 fS fun fJ=>
Ld R32 fJ fun eW=>
ai 1 a0 qd fun eP=>
Ld R32 eP fun ia=>
ai 1 a0 qd fun iC=>
St 1 p9 iC eW fun l9=>
ai 1 a0 fR fun gy=>
St 1 l9 gy ia fun BM=>
ae .num .add qd (Value.int .i64 1) fun iN=>
aF P5 WM [iN] BM [qd] jQ)→Ue [Vi] p9)→
ae .num .geq dh v1 fun jx=>
Br jx (
ae .num .sub dh v1 fun jR=>
JE Ue [jR] iL) (
JE Ue [dh] iL)) (an R)) (
R (.returned (.tuple #[])) jQ)) (an R)) (
R (.returned (.tuple #[])) H)
theorem zS(h:L291 g a0 a1 a2 H R):aj Tryz.prog g 291 #[a0,a1,a2] H R:=
 ak (hn:=(.n .e (.n .e (.n (.n .e (.n .e (.n .e (.n (.h 0 [9] [0,1,6,7,8] (.n .e (.n (.n (.n .e (.h 1 [10] [0,1,6,7,8,9] .e (.h 0 (List.range 20) [] .e .e))) .e) .e)) .e) .e)))) .e)))) Tryz.func291 h (by kernel_rfl)
def L292(g:Gh)(a0 a1 a2:Value)(H:Hp)(R:Rt):Prop:=
ae .num .sub a2 a1 fun v1=>
bg H (.cells #[(Value.int .i64 0)] 3 (0,0)) fun b2 H3=>
ae .num .quo v1 (Value.int .i64 4) fun v4=>
ae .num .mul v4 (Value.int .i64 1) fun v5=>
ae .num .add a1 v5 fun v6=>
ae .num .quo v1 (Value.int .i64 4) fun v7=>
ae .num .mul v7 (Value.int .i64 2) fun v8=>
ae .num .add a1 v8 fun v9=>
ae .num .quo v1 (Value.int .i64 4) fun v10=>
ae .num .mul v10 (Value.int .i64 3) fun v11=>
ae .num .add a1 v11 fun bt=>
∀xR:Jt,(∀j8:Value,∀dy:Hp,(∀qQ:Fr,
Ld dy (pt b2) fun bH=>
ae .num .eql bH (Value.int .i64 0) fun cf=>
Br cf (
R (.returned (.tuple #[j8,(Value.int .i64 1)])) dy) (
ae .num .eql bH (Value.int .i64 12) fun bN=>
Br bN (
R (.returned (.tuple #[j8,(Value.int .i64 2)])) dy) (
R (.returned (.tuple #[j8,(Value.int .i64 0)])) dy)))→xR [j8] dy)→
ae .num .geq v1 (Value.int .i64 8) fun v20=>
Br v20 (
∀Ug:Jt,(∀FD rW pM:Value,∀jV:Hp,(∀YG:Fr,
CF g 303 #[a0,FD,rW,pM,(pt b2)] jV (fun dh tU=>
JE xR [dh] tU) (an R))→Ug [FD,rW,pM] jV)→
ae .num .geq v1 (Value.int .i64 50) fun cV=>
Br cV (
CF g 302 #[a0,v6,(pt b2)] H3 (fun v30 ju=>
CF g 302 #[a0,v9,(pt b2)] ju (fun eX mc=>
CF g 302 #[a0,bt,(pt b2)] mc (fun fS rT=>
JE Ug [v30,eX,fS] rT) (an R)) (an R)) (an R)) (
JE Ug [v6,v9,bt] H3)) (
JE xR [v9] H3)
theorem zR(h:L292 g a0 a1 a2 H R):aj Tryz.prog g 292 #[a0,a1,a2] H R:=
 ak (hn:=(.n .e (.n .e (.n .e (.n .e (.n .e (.n .e (.h 1 [11] [9] (.n .e (.n (.h 1 [10,11,12] [0,9] .e .e) .e)) .e)))))))) Tryz.func292 h (by kernel_rfl)
def L293(g:Gh)(a0 a1 a2:Value)(H:Hp)(R:Rt):Prop:=
ae .num .sub a2 (Value.int .i64 1) fun v1=>
∃(I2:Jt) (m3:Mt),JE I2 [a1,v1] H∧∀w6 w7:Value,∀H5:Hp,I2 [w6,w7] H5→∀JL:Fr,
ae .num .lss w6 w7 fun v8=>
Br v8 (
DR H5 fun R9=>
ai 1 a0 w7 fun v10=>
Ld R9 v10 fun v11=>
ai 1 a0 w6 fun bt=>
Ld R9 bt fun aY=>
ai 1 a0 w6 fun br=>
St 1 H5 br v11 fun dy=>
ai 1 a0 w7 fun bB=>
St 1 dy bB aY fun ej=>
ae .num .add w6 (Value.int .i64 1) fun cf=>
ae .num .sub w7 (Value.int .i64 1) fun bN=>
aF I2 m3 [cf,bN] ej [w6,w7] H5) (
R (.returned (.tuple #[])) H5)
theorem zQ(h:L293 g a0 a1 a2 H R):aj Tryz.prog g 293 #[a0,a1,a2] H R:=
 ak (hn:=(.n .e (.n .e (.n (.h 0 [6,7] [0] (.n .e (.n (.n (.h 0 (List.range 16) [] .e .e) .e) .e)) .e) .e)))) Tryz.func293 h (by kernel_rfl)
def L294(g:Gh)(a0 a1 a2:Value)(H:Hp)(R:Rt):Prop:=
ae .num .add a1 (Value.int .i64 1) fun v1=>
∃(I2:Jt) (m3:Mt),JE I2 [v1,(Value.int .i64 0)] H∧∀w6 w7:Value,∀H5:Hp,I2 [w6,w7] H5→∀JL:Fr,
ae .num .lss w7 (Value.int .i64 5) fun v8=>
Br v8 (
∀J9:Jt,(∀fZ:Value,∀dB:Hp,(∀qR:Fr,
ae .num .add w7 (Value.int .i64 1) fun aY=>
aF I2 m3 [fZ,aY] dB [w6,w7] H5)→J9 [fZ] dB)→
∃(Ji:Jt) (Rz:Mt),JE Ji [w6] H5∧∀gZ:Value,∀ej:Hp,Ji [gZ] ej→∀Pu:Fr,
∀QX:Jt,(∀BX:Value,∀gI:Hp,(∀YH:Fr,
Br BX (
ae .num .add gZ (Value.int .i64 1) fun ca=>
aF Ji Rz [ca] gI [gZ] ej) (
ae .num .eql gZ a2 fun cK=>
Br cK (
R (.returned (Value.bool true)) gI) (
ae .num .sub a2 a1 fun cy=>
ae .num .lss cy (Value.int .i64 50) fun cM=>
Br cM (
R (.returned (Value.bool false)) gI) (
DR gI fun JP=>
ae .num .sub gZ (Value.int .i64 1) fun dg=>
ae .num .sub gZ (Value.int .i64 1) fun cV=>
ai 1 a0 cV fun v30=>
Ld JP v30 fun dQ=>
ai 1 a0 gZ fun eX=>
Ld JP eX fun fR=>
ai 1 a0 gZ fun fS=>
St 1 gI fS dQ fun rT=>
ai 1 a0 dg fun eW=>
St 1 rT eW fR fun sM=>
∀vK:Jt,(∀l9:Hp,(∀Pq:Fr,
ae .num .sub a2 gZ fun gy=>
ae .num .geq gy (Value.int .i64 2) fun jr=>
Br jr (
ae .num .add gZ (Value.int .i64 1) fun iN=>
∃(Zo:Jt) (m45:Mt),JE Zo [iN] l9∧∀Jq:Value,∀Dy:Hp,Zo [Jq] Dy→∀YB:Fr,
ae .num .lss Jq a2 fun lX=>
Br lX (
DR Dy fun JO=>
ai 1 a0 Jq fun j9=>
Ld JO j9 fun ki=>
ae .num .sub Jq (Value.int .i64 1) fun qm=>
ai 1 a0 qm fun uc=>
Ld JO uc fun py=>
CF g 295 #[ki,py] Dy (fun qk BL=>
Un .not qk fun ua=>
Br ua (
JE J9 [gZ] BL) (
DR BL fun LY=>
ae .num .sub Jq (Value.int .i64 1) fun qj=>
ae .num .sub Jq (Value.int .i64 1) fun qi=>
ai 1 a0 qi fun sS=>
Ld LY sS fun qh=>
ai 1 a0 Jq fun vP=>
Ld LY vP fun pw=>
ai 1 a0 Jq fun si=>
St 1 BL si qh fun H67=>
ai 1 a0 qj fun qg=>
St 1 H67 qg pw fun H69=>
ae .num .add Jq (Value.int .i64 1) fun rY=>
aF Zo m45 [rY] H69 [Jq] Dy)) bn) (
JE J9 [gZ] Dy)) (
JE J9 [gZ] l9))→vK [] l9)→
ae .num .sub gZ a1 fun vO=>
ae .num .geq vO (Value.int .i64 2) fun sg=>
Br sg (
ae .num .sub gZ (Value.int .i64 1) fun yo=>
∃(Zj:Jt) (m75:Mt),JE Zj [yo] sM∧∀Jo:Value,∀Fx:Hp,Zj [Jo] Fx→∀aeo:Fr,
ae .num .geq Jo (Value.int .i64 1) fun tY=>
Br tY (
DR Fx fun TS=>
ai 1 a0 Jo fun xY=>
Ld TS xY fun tX=>
ae .num .sub Jo (Value.int .i64 1) fun Gd=>
ai 1 a0 Gd fun xX=>
Ld TS xX fun sR=>
CF g 295 #[tX,sR] Fx (fun DI JQ=>
Un .not DI fun Gb=>
Br Gb (
JE vK [] JQ) (
DR JQ fun TR=>
ae .num .sub Jo (Value.int .i64 1) fun yl=>
ae .num .sub Jo (Value.int .i64 1) fun sQ=>
ai 1 a0 sQ fun yj=>
Ld TR yj fun FE=>
ai 1 a0 Jo fun Ju=>
Ld TR Ju fun Q9=>
ai 1 a0 Jo fun Nq=>
St 1 JQ Nq FE fun ZA=>
ai 1 a0 yl fun JZ=>
St 1 ZA JZ Q9 fun H99=>
ae .num .sub Jo (Value.int .i64 1) fun vS=>
aF Zj m75 [vS] H99 [Jo] Fx)) bn) (
JE vK [] Fx)) (
JE vK [] sM)))))→QX [BX] gI)→
DR ej fun TZ=>
ae .num .lss gZ a2 fun qp=>
Br qp (
ai 1 a0 gZ fun qo=>
Ld TZ qo fun vR=>
ae .num .sub gZ (Value.int .i64 1) fun um=>
ai 1 a0 um fun uk=>
Ld TZ uk fun pz=>
∀Z9:Hp,
CF (g.add Z9) 295 #[vR,pz] ej (fun uj BP=>
Un .not uj fun yw=>
aA (Value.bool true) yw (Value.bool false) fun uh=>
JE QX [uh] BP) bn) (
JE QX [(Value.bool false)] ej)) (
R (.returned (Value.bool false)) H5)
theorem zP(h:L294 g a0 a1 a2 H R):aj Tryz.prog g 294 #[a0,a1,a2] H R:=
 ak (hn:=(.n .e (.n .e (.n (.n .e (.n (.h 0 [7,8] [0,1,2] (.n .e (.h 1 [7] [0,1,2,8] (.n (.n (.n (.h 0 [7] [0,1,2,8] (.n (.h 1 [32] [0,1,2,7,8] (.h 1 [] [] (.h 0 [0] [] (.h 0 [1] [] (.h 0 [2] [] (.h 2 [3] [] (.h 0 [4] [] (.h 0 [5] [] (.h 0 [6] [] (.h 0 [7] [] (.h 0 [8] [] (.h 0 [9] [] (.h 0 [10] [] (.h 0 [11] [] (.h 0 [12] [] (.h 0 [13] [] (.h 0 [14] [] (.h 0 [15] [] .e .e) .e) .e) .e) .e) .e) .e) .e) .e) .e) .e) .e) (.h 0 [4] [] (.h 0 [5] [] (.h 0 [6] [] (.h 0 [7] [] (.h 0 [8] [] (.h 0 [9] [] (.h 0 [10] [] (.h 0 [11] [] (.h 0 [12] [] (.h 0 [13] [] (.h 0 [14] [] (.h 3 [15] [] .e .e) .e) .e) .e) .e) .e) .e) .e) .e) .e) .e) .e)) .e) .e) .e) .e) .e) .e) .e) .e) (.n .e (.n .e (.n (.h 0 (List.range 18) [] .e .e) (.h 1 [] [0,1,2,7,8] (.n .e (.n (.n .e (.n (.h 0 [9] [0,1,2,7,8] (.n .e (.n (.n (.n (.n (.h 0 (List.range 11) [] .e .e) .e) (.h 0 (List.range 18) [] .e .e)) .e) .e)) .e) .e)) .e)) (.n .e (.n (.n .e (.n (.h 0 [10] [0,1,2,7,8] (.n .e (.n (.n (.n (.n (.h 0 (List.range 11) [] .e .e) .e) (.h 0 (List.range 18) [] .e .e)) .e) .e)) .e) .e)) .e))))))) .e) .e)) .e) .e)) .e)))) Tryz.func294 h (by kernel_rfl)
def L295(g:Gh)(a0 a1:Value)(H:Hp)(R:Rt):Prop:=
∀J1:Jt,(∀w4:Value,∀H3:Hp,(∀Tw:Fr,
R (.returned w4) H3)→J1 [w4] H3)→
CF g 304 #[a0] H (fun v5 H6=>
Split v5 true (
CF g 304 #[a1] H6 (fun v7 H8=>
Un .not v7 fun v9=>
aA (Value.bool true) v9 (Value.bool false) fun v10=>
Split v10 false (
ae .num .lss a0 a1 fun v11=>
aA (Value.bool false) (Value.bool true) v11 fun bt=>
JE J1 [bt] H8) (
aA (Value.bool true) (Value.bool true) undef fun aY=>
JE J1 [aY] H8)) (an R)) (
aA (Value.bool false) undef (Value.bool false) fun br=>
ae .num .lss a0 a1 fun bD=>
aA br (Value.bool true) bD fun bB=>
JE J1 [bB] H6)) (an R)
theorem zO(h:L295 g a0 a1 H R):aj Tryz.prog g 295 #[a0,a1] H R:=
 ak (hn:=(.n .e (.h 1 [4] [] .e .e))) Tryz.func295 h (by kernel_rfl)
def L296(g:Gh)(a0 a1 a2 a3:Value)(H:Hp)(R:Rt):Prop:=
DR H fun R1=>
ai 1 a0 a3 fun v2=>
Ld R1 v2 fun v3=>
ai 1 a0 a1 fun v4=>
Ld R1 v4 fun v5=>
ai 1 a0 a1 fun v6=>
St 1 H v6 v3 fun H7=>
ai 1 a0 a3 fun v8=>
St 1 H7 v8 v5 fun H9=>
ae .num .add a1 (Value.int .i64 1) fun v10=>
ae .num .sub a2 (Value.int .i64 1) fun v11=>
∃(BJ:Jt) (Oc:Mt),JE BJ [v10,v11] H9∧∀j8 qd:Value,∀dy:Hp,BJ [j8,qd] dy→∀qQ:Fr,
∃(Zx:Jt) (m19:Mt),JE Zx [j8] dy∧∀BX:Value,∀gI:Hp,Zx [BX] gI→∀YH:Fr,
∀QW:Jt,(∀pM:Value,∀gj:Hp,(∀Tu:Fr,
Br pM (
ae .num .add BX (Value.int .i64 1) fun dh=>
aF Zx m19 [dh] gj [BX] gI) (
∃(P3:Jt) (WK:Mt),JE P3 [qd] gj∧∀vC:Value,∀ju:Hp,P3 [vC] ju→∀Pr:Fr,
∀FU:Jt,(∀Md:Value,∀rT:Hp,(∀YD:Fr,
Br Md (
ae .num .sub vC (Value.int .i64 1) fun eP=>
aF P3 WK [eP] rT [vC] ju) (
ae .num .gtr BX vC fun ia=>
Br ia (
R (.returned BX) rT) (
DR rT fun L0=>
ai 1 a0 vC fun jy=>
Ld L0 jy fun gy=>
ai 1 a0 BX fun jr=>
Ld L0 jr fun iN=>
ai 1 a0 BX fun jx=>
St 1 rT jx gy fun Qb=>
ai 1 a0 vC fun kf=>
St 1 Qb kf iN fun Dy=>
ae .num .add BX (Value.int .i64 1) fun mg=>
ae .num .sub vC (Value.int .i64 1) fun lX=>
aF BJ Oc [mg,lX] Dy [j8,qd] dy)))→FU [Md] rT)→
DR ju fun JO=>
ae .num .leq BX vC fun j9=>
Br j9 (
ai 1 a0 a1 fun ki=>
Ld JO ki fun qm=>
ai 1 a0 vC fun uc=>
Ld JO uc fun py=>
∀F56:Hp,
CF (g.add F56) 295 #[qm,py] ju (fun sU r7=>
aA (Value.bool true) sU (Value.bool false) fun sj=>
JE FU [sj] r7) bn) (
JE FU [(Value.bool false)] ju)))→QW [pM] gj)→
DR gI fun R60=>
ae .num .leq BX qd fun qi=>
Br qi (
ai 1 a0 a1 fun sS=>
Ld R60 sS fun qh=>
ai 1 a0 BX fun vP=>
Ld R60 vP fun pw=>
∀F66:Hp,
CF (g.add F66) 295 #[qh,pw] gI (fun tZ Q1=>
Un .not tZ fun qe=>
aA (Value.bool true) qe (Value.bool false) fun rY=>
JE QW [rY] Q1) bn) (
JE QW [(Value.bool false)] gI)
theorem zN(h:L296 g a0 a1 a2 a3 H R):aj Tryz.prog g 296 #[a0,a1,a2,a3] H R:=
 ak (hn:=(.n .e (.n (.h 0 (List.range 16) [] .e .e) (.n .e (.n (.n (.h 0 [9,10] [0,1] (.n (.n (.n (.h 0 [9] [0,1,10] (.n (.h 1 [43] [0,1,9,10] (.h 1 [] [] (.h 0 [0] [] (.h 0 [1] [] (.h 0 [2] [] (.h 2 [3] [] (.h 0 [4] [] (.h 0 [5] [] (.h 0 [6] [] (.h 0 [7] [] (.h 0 [8] [] (.h 0 [9] [] (.h 0 [10] [] (.h 0 [11] [] (.h 0 [12] [] (.h 0 [13] [] (.h 0 [14] [] .e .e) .e) .e) .e) .e) .e) .e) .e) .e) .e) .e) (.h 0 [4] [] (.h 0 [5] [] (.h 0 [6] [] (.h 0 [7] [] (.h 0 [8] [] (.h 0 [9] [] (.h 0 [10] [] (.h 0 [11] [] (.h 0 [12] [] (.h 0 [13] [] (.h 3 [14] [] .e .e) .e) .e) .e) .e) .e) .e) .e) .e) .e) .e)) .e) .e) .e) .e) .e) .e) .e) .e) (.n (.n (.h 0 [10] [0,1,9] (.n (.h 1 [59] [0,1,9,10] (.h 1 [] [] (.h 0 [0] [] (.h 0 [1] [] (.h 0 [2] [] (.h 2 [3] [] (.h 0 [4] [] (.h 0 [5] [] (.h 0 [6] [] (.h 0 [7] [] (.h 0 [8] [] (.h 0 [9] [] (.h 0 [10] [] (.h 0 [11] [] (.h 0 [12] [] (.h 0 [13] [] .e .e) .e) .e) .e) .e) .e) .e) .e) .e) .e) (.h 0 [4] [] (.h 0 [5] [] (.h 0 [6] [] (.h 0 [7] [] (.h 0 [8] [] (.h 0 [9] [] (.h 0 [10] [] (.h 0 [11] [] (.h 0 [12] [] (.h 3 [13] [] .e .e) .e) .e) .e) .e) .e) .e) .e) .e) .e)) .e) .e) .e) .e) .e) .e) .e) .e) (.n .e (.n (.h 0 (List.range 16) [] .e .e) .e)))) .e) .e) .e) .e))))) Tryz.func296 h (by kernel_rfl)
def L297(g:Gh)(a0 a1 a2 a3:Value)(H:Hp)(R:Rt):Prop:=
DR H fun R1=>
ai 1 a0 a3 fun v2=>
Ld R1 v2 fun v3=>
ai 1 a0 a1 fun v4=>
Ld R1 v4 fun v5=>
ai 1 a0 a1 fun v6=>
St 1 H v6 v3 fun H7=>
ai 1 a0 a3 fun v8=>
St 1 H7 v8 v5 fun H9=>
ae .num .add a1 (Value.int .i64 1) fun v10=>
ae .num .sub a2 (Value.int .i64 1) fun v11=>
∃(BJ:Jt) (Oc:Mt),JE BJ [v10] H9∧∀j8:Value,∀dy:Hp,BJ [j8] dy→∀qQ:Fr,
∀vx:Jt,(∀vD:Value,∀jv:Hp,(∀Ps:Fr,
Br vD (
ae .num .add j8 (Value.int .i64 1) fun bQ=>
aF BJ Oc [bQ] jv [j8] dy) (
∃(P4:Jt) (WL:Mt),JE P4 [v11] jv∧∀pM:Value,∀gj:Hp,P4 [pM] gj→∀Tu:Fr,
∀yb:Jt,(∀Me:Value,∀me:Hp,(∀Tt:Fr,
Br Me (
ae .num .sub pM (Value.int .i64 1) fun dQ=>
aF P4 WL [dQ] me [pM] gj) (
ae .num .gtr j8 pM fun eX=>
Br eX (
DR me fun QO=>
ai 1 a0 a1 fun fS=>
Ld QO fS fun fJ=>
ai 1 a0 pM fun eW=>
Ld QO eW fun eP=>
ai 1 a0 pM fun ia=>
St 1 me ia fJ fun FY=>
ai 1 a0 a1 fun jy=>
St 1 FY jy eP fun FX=>
R (.returned (.tuple #[pM,(Value.bool true)])) FX) (
DR me fun R42=>
ai 1 a0 pM fun iN=>
Ld R42 iN fun jx=>
ai 1 a0 j8 fun jR=>
Ld R42 jR fun kf=>
ai 1 a0 j8 fun mE=>
St 1 me mE jx fun vy=>
ai 1 a0 pM fun lX=>
St 1 vy lX kf fun Jk=>
ae .num .add j8 (Value.int .i64 1) fun j9=>
ae .num .sub pM (Value.int .i64 1) fun ki=>
∃(Zm:Jt) (m54:Mt),JE Zm [j9,ki] Jk∧∀Vh Uu:Value,∀Ni:Hp,Zm [Vh,Uu] Ni→∀aev:Fr,
∃(Zl:Jt) (m60:Mt),JE Zl [Vh] Ni∧∀Jp:Value,∀Jj:Hp,Zl [Jp] Jj→∀Yy:Fr,
∀QV:Jt,(∀w67:Value,∀Qa:Hp,(∀aet:Fr,
Br w67 (
ae .num .add Jp (Value.int .i64 1) fun qg=>
aF Zl m60 [qg] Qa [Jp] Jj) (
∃(Zk:Jt) (m70:Mt),JE Zk [Uu] Qa∧∀FB:Value,∀P9:Hp,Zk [FB] P9→∀Yx:Fr,
∀Dx:Jt,(∀Q4:Value,∀rS:Hp,(∀Yw:Fr,
Br Q4 (
ae .num .sub FB (Value.int .i64 1) fun r9=>
aF Zk m70 [r9] rS [FB] P9) (
ae .num .gtr Jp FB fun tY=>
Br tY (
DR rS fun TS=>
ai 1 a0 a1 fun xY=>
Ld TS xY fun tX=>
ai 1 a0 FB fun Gd=>
Ld TS Gd fun xX=>
ai 1 a0 FB fun sR=>
St 1 rS sR tX fun Vc=>
ai 1 a0 a1 fun Gc=>
St 1 Vc Gc xX fun Nh=>
R (.returned (.tuple #[FB,(Value.bool false)])) Nh) (
DR rS fun TR=>
ai 1 a0 FB fun yl=>
Ld TR yl fun sQ=>
ai 1 a0 Jp fun yj=>
Ld TR yj fun FE=>
ai 1 a0 Jp fun Ju=>
St 1 rS Ju sQ fun P8=>
ai 1 a0 FB fun Nq=>
St 1 P8 Nq FE fun ZA=>
ae .num .add Jp (Value.int .i64 1) fun JZ=>
ae .num .sub FB (Value.int .i64 1) fun Np=>
aF Zm m54 [JZ,Np] ZA [Vh,Uu] Ni)))→Dx [Q4] rS)→
DR P9 fun T0=>
ae .num .leq Jp FB fun Gn=>
Br Gn (
ai 1 a0 FB fun qp=>
Ld T0 qp fun qo=>
ai 1 a0 a1 fun vR=>
Ld T0 vR fun um=>
∀aaa:Hp,
CF (g.add aaa) 295 #[qo,um] P9 (fun pz Ma=>
Un .not pz fun uj=>
aA (Value.bool true) uj (Value.bool false) fun NF=>
JE Dx [NF] Ma) bn) (
JE Dx [(Value.bool false)] P9)))→QV [w67] Qa)→
DR Jj fun TY=>
ae .num .leq Jp Uu fun uh=>
Br uh (
ai 1 a0 Jp fun yu=>
Ld TY yu fun ug=>
ai 1 a0 a1 fun uf=>
Ld TY uf fun Gm=>
∀Z8:Hp,
CF (g.add Z8) 295 #[ug,Gm] Jj (fun vQ BO=>
aA (Value.bool true) vQ (Value.bool false) fun ue=>
JE QV [ue] BO) bn) (
JE QV [(Value.bool false)] Jj))))→yb [Me] me)→
DR gj fun TX=>
ae .num .leq j8 pM fun yp=>
Br yp (
ai 1 a0 pM fun ud=>
Ld TX ud fun qn=>
ai 1 a0 a1 fun DK=>
Ld TX DK fun Gl=>
∀Z7:Hp,
CF (g.add Z7) 295 #[qn,Gl] gj (fun Gk Qd=>
Un .not Gk fun Gj=>
aA (Value.bool true) Gj (Value.bool false) fun Gi=>
JE yb [Gi] Qd) bn) (
JE yb [(Value.bool false)] gj)))→vx [vD] jv)→
DR dy fun TW=>
ae .num .leq j8 v11 fun Ka=>
Br Ka (
ai 1 a0 j8 fun Wt=>
Ld TW Wt fun Gg=>
ai 1 a0 a1 fun Nz=>
Ld TW Nz fun Gf=>
∀Z6:Hp,
CF (g.add Z6) 295 #[Gg,Gf] dy (fun Ny ZN=>
aA (Value.bool true) Ny (Value.bool false) fun Ge=>
JE vx [Ge] ZN) bn) (
JE vx [(Value.bool false)] dy)
theorem zM(h:L297 g a0 a1 a2 a3 H R):aj Tryz.prog g 297 #[a0,a1,a2,a3] H R:=
 ak (hn:=(.n .e (.n (.h 0 (List.range 16) [] .e .e) (.n .e (.n (.n (.h 0 [10] [0,1,11] (.n (.h 1 [43] [0,1,10,11] (.h 1 [] [] (.h 0 [0] [] (.h 0 [1] [] (.h 0 [2] [] (.h 2 [3] [] (.h 0 [4] [] (.h 0 [5] [] (.h 0 [6] [] (.h 0 [7] [] (.h 0 [8] [] (.h 0 [9] [] (.h 0 [10] [] (.h 0 [11] [] (.h 0 [12] [] (.h 0 [13] [] .e .e) .e) .e) .e) .e) .e) .e) .e) .e) .e) (.h 0 [4] [] (.h 0 [5] [] (.h 0 [6] [] (.h 0 [7] [] (.h 0 [8] [] (.h 0 [9] [] (.h 0 [10] [] (.h 0 [11] [] (.h 0 [12] [] (.h 3 [13] [] .e .e) .e) .e) .e) .e) .e) .e) .e) .e) .e)) .e) .e) .e) .e) .e) .e) .e) .e) (.n (.n (.h 0 [11] [0,1,10] (.n (.h 1 [60] [0,1,10,11] (.h 1 [] [] (.h 0 [0] [] (.h 0 [1] [] (.h 0 [2] [] (.h 2 [3] [] (.h 0 [4] [] (.h 0 [5] [] (.h 0 [6] [] (.h 0 [7] [] (.h 0 [8] [] (.h 0 [9] [] (.h 0 [10] [] (.h 0 [11] [] (.h 0 [12] [] (.h 0 [13] [] (.h 0 [14] [] .e .e) .e) .e) .e) .e) .e) .e) .e) .e) .e) .e) (.h 0 [4] [] (.h 0 [5] [] (.h 0 [6] [] (.h 0 [7] [] (.h 0 [8] [] (.h 0 [9] [] (.h 0 [10] [] (.h 0 [11] [] (.h 0 [12] [] (.h 0 [13] [] (.h 3 [14] [] .e .e) .e) .e) .e) .e) .e) .e) .e) .e) .e) .e)) .e) .e) .e) .e) .e) .e) .e) .e) (.n (.n .e (.n (.n (.h 0 (List.range 16) [] .e .e) .e) .e)) (.n (.h 0 (List.range 16) [] .e .e) (.n .e (.n .e (.n (.n (.h 0 [10,11] [0,1] (.n (.n (.n (.h 0 [10] [0,1,11] (.n (.h 1 [112] [0,1,10,11] (.h 1 [] [] (.h 0 [0] [] (.h 0 [1] [] (.h 0 [2] [] (.h 2 [3] [] (.h 0 [4] [] (.h 0 [5] [] (.h 0 [6] [] (.h 0 [7] [] (.h 0 [8] [] (.h 0 [9] [] (.h 0 [10] [] (.h 0 [11] [] (.h 0 [12] [] (.h 0 [13] [] .e .e) .e) .e) .e) .e) .e) .e) .e) .e) .e) (.h 0 [4] [] (.h 0 [5] [] (.h 0 [6] [] (.h 0 [7] [] (.h 0 [8] [] (.h 0 [9] [] (.h 0 [10] [] (.h 0 [11] [] (.h 0 [12] [] (.h 3 [13] [] .e .e) .e) .e) .e) .e) .e) .e) .e) .e) .e)) .e) .e) .e) .e) .e) .e) .e) .e) (.n (.n (.h 0 [11] [0,1,10] (.n (.h 1 [129] [0,1,10,11] (.h 1 [] [] (.h 0 [0] [] (.h 0 [1] [] (.h 0 [2] [] (.h 2 [3] [] (.h 0 [4] [] (.h 0 [5] [] (.h 0 [6] [] (.h 0 [7] [] (.h 0 [8] [] (.h 0 [9] [] (.h 0 [10] [] (.h 0 [11] [] (.h 0 [12] [] (.h 0 [13] [] (.h 0 [14] [] .e .e) .e) .e) .e) .e) .e) .e) .e) .e) .e) .e) (.h 0 [4] [] (.h 0 [5] [] (.h 0 [6] [] (.h 0 [7] [] (.h 0 [8] [] (.h 0 [9] [] (.h 0 [10] [] (.h 0 [11] [] (.h 0 [12] [] (.h 0 [13] [] (.h 3 [14] [] .e .e) .e) .e) .e) .e) .e) .e) .e) .e) .e) .e)) .e) .e) .e) .e) .e) .e) .e) .e) (.n .e (.n (.h 0 (List.range 16) [] .e .e) .e)))) .e) .e) .e) (.n (.h 0 (List.range 16) [] .e .e) .e)))))))))))) Tryz.func297 h (by kernel_rfl)
def L299(g:Gh)(a0 a1 a2 a3:Value)(H:Hp)(R:Rt):Prop:=
∃(I1:Jt) (m2:Mt),JE I1 [a1] H∧∀w5:Value,∀H4:Hp,I1 [w5] H4→∀Tr:Fr,
ae .num .mul (Value.int .i64 2) w5 fun v6=>
ae .num .add v6 (Value.int .i64 1) fun v7=>
ae .num .geq v7 a2 fun v8=>
Br v8 (
R (.returned (.tuple #[])) H4) (
∀J9:Jt,(∀fZ:Value,∀dB:Hp,(∀qR:Fr,
DR dB fun PU=>
ae .num .add a3 w5 fun br=>
ai 1 a0 br fun bD=>
Ld PU bD fun bB=>
ae .num .add a3 fZ fun bH=>
ai 1 a0 bH fun cf=>
Ld PU cf fun bN=>
CF g 295 #[bB,bN] dB (fun v20 gI=>
Un .not v20 fun cm=>
Br cm (
R (.returned (.tuple #[])) gI) (
DR gI fun R23=>
ae .num .add a3 w5 fun cK=>
ae .num .add a3 fZ fun cy=>
ae .num .add a3 fZ fun cM=>
ai 1 a0 cM fun dh=>
Ld R23 dh fun dg=>
ae .num .add a3 w5 fun cV=>
ai 1 a0 cV fun v30=>
Ld R23 v30 fun dQ=>
ai 1 a0 cK fun eX=>
St 1 gI eX dg fun mc=>
ai 1 a0 cy fun fS=>
St 1 mc fS dQ fun rT=>
aF I1 m2 [fZ] rT [w5] H4)) bn)→J9 [fZ] dB)→
∀Ub:Jt,(∀DF:Value,∀r8:Hp,(∀aeA:Fr,
Br DF (
ae .num .add v7 (Value.int .i64 1) fun jy=>
JE J9 [jy] r8) (
JE J9 [v7] r8))→Ub [DF] r8)→
DR H4 fun R41=>
ae .num .add v7 (Value.int .i64 1) fun jr=>
ae .num .lss jr a2 fun iN=>
Br iN (
ae .num .add a3 v7 fun jx=>
ai 1 a0 jx fun jR=>
Ld R41 jR fun kf=>
ae .num .add a3 v7 fun mE=>
ae .num .add mE (Value.int .i64 1) fun mg=>
ai 1 a0 mg fun lX=>
Ld R41 lX fun lW=>
∀F51:Hp,
CF (g.add F51) 295 #[kf,lW] H4 (fun ki Nj=>
aA (Value.bool true) ki (Value.bool false) fun uc=>
JE Ub [uc] Nj) bn) (
JE Ub [(Value.bool false)] H4))
theorem zL(h:L299 g a0 a1 a2 a3 H R):aj Tryz.prog g 299 #[a0,a1,a2,a3] H R:=
 ak (hn:=(.n .e (.n (.h 0 [8] [0,2,3] (.n (.n .e (.n .e (.h 1 [9] [0,2,3,8] (.h 1 [36] [0,2,3,8,9] (.h 1 [] [] (.h 0 [0] [] (.h 0 [1] [] (.h 0 [2] [] (.h 0 [3] [] (.h 2 [4] [] (.h 0 [5] [] (.h 0 [6] [] (.h 0 [7] [] (.h 0 [8] [] (.h 0 [9] [] (.h 0 [10] [] (.h 0 [11] [] (.h 0 [12] [] (.h 0 [13] [] (.h 0 [14] [] (.h 0 [15] [] (.h 0 [16] [] (.h 0 [17] [] (.h 0 [18] [] (.h 0 [19] [] .e .e) .e) .e) .e) .e) .e) .e) .e) .e) .e) .e) .e) .e) .e) .e) (.h 0 [5] [] (.h 0 [6] [] (.h 0 [7] [] (.h 0 [8] [] (.h 0 [9] [] (.h 0 [10] [] (.h 0 [11] [] (.h 0 [12] [] (.h 0 [13] [] (.h 0 [14] [] (.h 0 [15] [] (.h 0 [16] [] (.h 0 [17] [] (.h 0 [18] [] (.h 3 [19] [] .e .e) .e) .e) .e) .e) .e) .e) .e) .e) .e) .e) .e) .e) .e) .e)) .e) .e) .e) .e) .e) .e) (.n (.n (.h 0 (List.range 14) [] .e .e) .e) (.n (.h 0 (List.range 24) [] .e .e) .e))))) .e) .e) .e))) Tryz.func299 h (by kernel_rfl)
def L300(g:Gh)(a0:Value)(H:Hp)(R:Rt):Prop:=
aW .u64 a0 fun v1=>
CF g 286 #[v1] H (fun v2 H3=>
ae .num .shl (Value.int .u64 1) v2 fun v4=>
R (.returned v4) H3) (an R)
theorem zK(h:L300 g a0 H R):aj Tryz.prog g 300 #[a0] H R:=
 ak (hn:=.e) Tryz.func300 h (by kernel_rfl)
def L301(g:Gh)(a0:Value)(H:Hp)(R:Rt):Prop:=
DR H fun R1=>
Nil a0 fun v2=>
Ld R1 v2 fun v3=>
Nil a0 fun v4=>
Ld R1 v4 fun v5=>
ae .num .shl v5 (Value.int .u64 13) fun v6=>
ae .num .xor v3 v6 fun v7=>
Nil a0 fun v8=>
St 1 H v8 v7 fun H9=>
DR H9 fun R10=>
Nil a0 fun v11=>
Ld R10 v11 fun bt=>
Nil a0 fun aY=>
Ld R10 aY fun br=>
ae .num .shr br (Value.int .u64 7) fun bD=>
ae .num .xor bt bD fun bB=>
Nil a0 fun bH=>
St 1 H9 bH bB fun dW=>
DR dW fun PT=>
Nil a0 fun v20=>
Ld PT v20 fun bQ=>
Nil a0 fun cm=>
Ld PT cm fun ca=>
ae .num .shl ca (Value.int .u64 17) fun cK=>
ae .num .xor bQ cK fun cy=>
Nil a0 fun cM=>
St 1 dW cM cy fun iR=>
Nil a0 fun dg=>
Ld iR dg fun cV=>
R (.returned cV) iR
theorem zJ(h:L301 g a0 H R):aj Tryz.prog g 301 #[a0] H R:=
 ak (hn:=(.n .e (.n (.h 0 (List.range 10) [] .e .e) (.n (.h 0 (List.range 10) [] .e .e) (.n (.h 0 (List.range 10) [] .e .e) .e))))) Tryz.func301 h (by kernel_rfl)
def L302(g:Gh)(a0 a1 a2:Value)(H:Hp)(R:Rt):Prop:=
ae .num .sub a1 (Value.int .i64 1) fun v1=>
ae .num .add a1 (Value.int .i64 1) fun v2=>
CF g 303 #[a0,v1,a1,v2,a2] H (fun v3 H4=>
R (.returned v3) H4) (an R)
theorem zI(h:L302 g a0 a1 a2 H R):aj Tryz.prog g 302 #[a0,a1,a2] H R:=
 ak (hn:=.e) Tryz.func302 h (by kernel_rfl)
def L303(g:Gh)(a0 a1 a2 a3 a4:Value)(H:Hp)(R:Rt):Prop:=
CF g 305 #[a0,a1,a2,a4] H (fun v1 H2=>
Ext 0 v1 fun v3=>
Ext 1 v1 fun v4=>
CF g 305 #[a0,v4,a3,a4] H2 (fun v5 H6=>
Ext 0 v5 fun v7=>
Ext 1 v5 fun v8=>
CF g 305 #[a0,v3,v7,a4] H6 (fun v9 cT=>
Ext 0 v9 fun v11=>
Ext 1 v9 fun bt=>
R (.returned bt) cT) (an R)) (an R)) (an R)
theorem zH(h:L303 g a0 a1 a2 a3 a4 H R):aj Tryz.prog g 303 #[a0,a1,a2,a3,a4] H R:=
 ak (hn:=.e) Tryz.func303 h (by kernel_rfl)
def L304(g:Gh)(a0:Value)(H:Hp)(R:Rt):Prop:=
ae .num .neq a0 a0 fun v1=>
R (.returned v1) H
theorem zG(h:L304 g a0 H R):aj Tryz.prog g 304 #[a0] H R:=
 ak (hn:=.e) Tryz.func304 h (by kernel_rfl)
def L305(g:Gh)(a0 a1 a2 a3:Value)(H:Hp)(R:Rt):Prop:=
DR H fun R1=>
ai 1 a0 a2 fun v2=>
Ld R1 v2 fun v3=>
ai 1 a0 a1 fun v4=>
Ld R1 v4 fun v5=>
CF g 295 #[v3,v5] H (fun v6 H7=>
Br v6 (
Nil a3 fun v8=>
Ld H7 v8 fun v9=>
ae .num .add v9 (Value.int .i64 1) fun v10=>
Nil a3 fun v11=>
St 1 H7 v11 v10 fun dI=>
R (.returned (.tuple #[a2,a1])) dI) (
R (.returned (.tuple #[a1,a2])) H7)) bn
theorem zF(h:L305 g a0 a1 a2 a3 H R):aj Tryz.prog g 305 #[a0,a1,a2,a3] H R:=
 ak (hn:=(.n .e (.n (.n (.h 0 (List.range 9) [] .e .e) .e) .e))) Tryz.func305 h (by kernel_rfl)
end Go.Proofs
set_option maxRecDepth 100000
namespace Go.Proofs
open Go Go.Sx
theorem nW{B:Hp}{s:Value}{n:Int}{K:Value→Hp→Prop}(h:∀b,K (.slice (some ⟨b,0,none⟩) 1 1) ((b,.cells #[.int .i64 n,s] 57 (0,0))::B)):
  au Tryz.prog 28 1 [(0,.agg #[.int .i64 n,s])] B K:=
 au.one (r:=[.int .i64 n,s]) (e:=57) (k:=2) (z:=.agg #[.int .i64 0,.slice none 0 0]) (by kernel_rfl) (by kernel_rfl) (by kernel_rfl) (by decide) rfl h
theorem yL{G:Nat→Nat}{W:Nat}:((List.range W).map fun k=>if k<W then G k else 0)=(List.range W).map G:=by
 apply List.map_congr_left
 intro k hk
 rw[if_pos (List.mem_range.1 hk)]
theorem u6{n:Nat}{ws:List Nat}(h:aD.eE n ws):ws.length≤4294967296:=by have:=h.len;have:=aD.qc h.vF;omega
theorem aO{B:Hp}{s:Value}{ws:List Nat}(h:Words B s ws):s.oneCell'=true:=by obtain⟨a,c,rfl,_⟩:=h.1.shape;rfl
theorem DY{G:Nat→Nat}{W i:Nat}(hi:i<W):(iw ((List.range W).map fun k=>if k<i then G k else 0)).set i ((G i:Nat):Int)=iw ((List.range W).map fun k=>if k<i+1 then G k else 0):=by
 apply List.ext_getElem?
 intro j
 unfold iw
 by_cases e:i=j
 ·subst e;simp[hi]
 ·rw[List.getElem?_set_ne e]
  by_cases hj:j<W
  ·simp only[List.getElem?_map,List.getElem?_range hj,Option.map_some]
   by_cases h2:j<i
   ·rw[if_pos h2,if_pos (by omega)]
   ·rw[if_neg h2,if_neg (by omega)]
  ·rw[List.getElem?_eq_none (by simp;omega),List.getElem?_eq_none (by simp;omega)]
theorem range_zero{G:Nat→Nat}{W:Nat}:List.replicate W (0:Int)=iw ((List.range W).map fun k=>if k<0 then G k else 0):=by
 apply List.ext_getElem?
 intro j
 unfold iw
 by_cases hj:j<W
 ·simp[hj]
 ·rw[List.getElem?_eq_none (by simp;omega),List.getElem?_eq_none (by simp;omega)]
theorem iJ{n:Nat}(hn:n≤16):aD.wN n≤9223372036854775807∧aD.wN n*8≤281474976710656:=by have:=aD.qc hn;omega
end Go.Proofs
set_option maxRecDepth 100000
namespace Go.Proofs
open Go Go.Sx
def dN(l:List Bool):Array Value:=(l.map Value.bool).toArray
theorem zq(l:List Bool)(i:Nat)(b:Bool):(dN l).setIfInBounds i (.bool b)=dN (l.set i b):=by simp[dN,List.map_set]
theorem yS(n:Nat):madeCells (Value.cells (.bool false)) (n*1)=dN (List.replicate n false):=by
 apply Array.ext
 ·simp[madeCells,dN]
 ·intro i h1 h2
  simp[madeCells,dN,Value.cells,Nat.mod_one]
def xU(B:Hp)(v:Value)(l:List Bool):Prop:=Sl 1 B v (l.map fun b=>[Value.bool b])
theorem xU.block{B:Hp}{b cap:Nat}{l:List Bool}{T:TypeId}{fz:Nat×Nat}(hm:(b,Obj.cells (dN l) T fz)∈B)(hc:l.length≤cap):xU B (.slice (some ⟨b,0,none⟩) l.length cap) l:=by
 refine⟨fun r hr=>by obtain⟨b,_,rfl⟩:=List.mem_map.1 hr;rfl,.inr ⟨b,0,cap,_,T,fz,by simp,by simpa using hc,hm,by simp[dN],fun i r hi j v hj=>?_⟩⟩
 rw[List.getElem?_map]at hi
 cases hl:l[i]? with
 |none=>rw[hl]at hi;simp at hi
 |some n=>
  rw[hl]at hi
  simp only[Option.map_some,Option.some.injEq]at hi
  subst hi
  cases j with
  |zero=>
   simp only[List.getElem?_cons_zero,Option.some.injEq]at hj
   subst hj
   simp[dN,hl]
  |succ j=>simp at hj
theorem xU.ld{kd:IntKind}{B H:Hp}{v:Value}{l:List Bool}(h:xU B v l){i:Nat}{b:Bool}(hi:l[i]? =some b)(hs:∀x∈B,x∈H){K:Value→Prop}(hk:K (.bool b)):ai 1 v (.int kd (i:Int)) (fun p=>Ld H p K):=
 ai.sl h (by rw[List.getElem?_map,hi];rfl) fun p hp=>Ld.at hp hs hk
theorem cW.IK{H:Hp}{T:TypeId}{kl:IntKind}{n:Nat}{K:Value→Hp→Prop}(bX:n≤281474976710656)
 (h:∀b,K (.slice (some ⟨b,0,none⟩) n n) ((b,.cells (dN (List.replicate n false)) T (0,0))::H)):cW T 1 1 (.bool false) H (.int kl n) (.int kl n) K:=
 ⟨kl,kl,n,n,rfl,rfl,Nat.le_refl _,by omega,by omega,fun b _=>by rw[yS];exact h b⟩
theorem St.IK{H:Hp}{b i:Nat}{l:List Bool}{x:Bool}{T:TypeId}{H':Hp}{K:Hp→Prop}(hu:dH b (.cells (dN l) T (0,0)) (.cells (dN (l.set i x)) T (0,0)) H H')(hi:i<l.length)(h:K H'):
  St 1 H (.pointer (some ⟨b,0+i*1,none⟩)) (.bool x) K:=
 St.one (c:=dN l) (c':=dN (l.set i x)) hu rfl (by simpa[dN]using hi) (by rw[Nat.zero_add,Nat.mul_one];exact zq l i x) h
end Go.Proofs
set_option maxRecDepth 100000
namespace Go.Proofs
open Go Go.Sx
theorem DM(L:List (List Nat)):(aD.kr L).length≤L.length:=by
 have:=aD.fD (fun a l=>aD.add l a) 1 (fun a l=>aD.mW l a) L []
 simpa[aD.kr]using this
theorem Il(n u:Nat)(L:List (List Nat)):(aD.given n L u).length≤2*L.length:=by
 have h:=aD.fD (fun t acc=>aD.add (aD.add acc (aD.jl n t u false)) (aD.jl n t u true)) 2 (fun a l=>by have h1:=aD.mW (aD.add l (aD.jl n a u false)) (aD.jl n a u true);have h2:=aD.mW l (aD.jl n a u false);omega) L []
 simpa[aD.given]using h
end Go.Proofs
namespace aE
open aD
theorem dw{x u v:Nat}{b c:Bool}(h:u≠v):aI (aI x u b) v c=aI (aI x v c) u b:=by
 apply Nat.eq_of_testBit_eq;intro k
 rw[ay,ay,ay,ay]
 by_cases e1:k=u<;>by_cases e2:k=v
 ·exact absurd (e1.symm.trans e2) h
 ·simp[e1,h]
 ·simp[e2,Ne.symm h]
 ·simp[e1,e2]
structure Nd where
 v:Nat
 lo:Nat
 hi:Nat
deriving DecidableEq
abbrev dJ:=Nat→Option Nd
abbrev Fn:=Nat→Bool
def live(N:dJ)(r:Nat):Prop:=r<2∨∃d,N r=some d
def dep(n:Nat)(ah:Nat→Nat)(N:dJ)(r:Nat):Nat:=match N r with|some d=>ah d.v|none=>n
structure WF(n:Nat)(ah:Nat→Nat)(N:dJ):Prop where
 two:∀{r d},N r=some d→2≤r
 var:∀{r d},N r=some d→d.v<n
 ne:∀{r d},N r=some d→d.lo≠d.hi
 lo:∀{r d},N r=some d→live N d.lo∧ah d.v<dep n ah N d.lo
 hi:∀{r d},N r=some d→live N d.hi∧ah d.v<dep n ah N d.hi
 uq:∀{r r' d},N r=some d→N r'=some d→r=r'
structure jn(n:Nat)(ah:Nat→Nat):Prop where
 lt:∀v,v<n→ah v<n
 inj:∀u v,u<n→v<n→ah u=ah v→u=v
structure Interp(N:dJ)(S:Nat→Fn):Prop where
 zero:∀x,S 0 x=false
 one:∀x,S 1 x=true
 node:∀{r d},N r=some d→∀x,S r x=if x.testBit d.v then S d.hi x else S d.lo x
variable {n:Nat} {ah:Nat→Nat} {N:dJ} {S:Nat→Fn}
theorem aT{r:Nat}(h:N r=none):dep n ah N r=n:=by unfold dep;rw[h]
theorem av{r:Nat}{d:Nd}(h:N r=some d):dep n ah N r=ah d.v:=by unfold dep;rw[h]
theorem WF.kV(h:WF n ah N)(hl:jn n ah)(r:Nat):dep n ah N r≤n:=by
 cases e:N r with
 |none=>rw[aT e];exact Nat.le_refl _
 |some d=>rw[av e];exact Nat.le_of_lt (hl.lt _ (h.var e))
theorem WF.const(h:WF n ah N){r:Nat}(hr:r<2):N r=none:=by
 cases e:N r with
 |none=>rfl
 |some d=>have:=h.two e;omega
theorem WF.indep(h:WF n ah N)(hl:jn n ah)(hi:Interp N S):∀(k r:Nat),n-dep n ah N r≤k→live N r→∀v,v<n→ah v<dep n ah N r→∀x b,S r (aI x v b)=S r x:=by
 intro k
 induction k with
 |zero=>
  intro r hk hr v hv hlt x b
  rcases hr with hr|⟨d,hd⟩
  ·have:r=0∨r=1:=by omega
   rcases this with rfl|rfl
   ·rw[hi.zero,hi.zero]
   ·rw[hi.one,hi.one]
  ·have h1:=hl.lt _ (h.var hd)
   rw[av hd]at hk;omega
 |succ k ih=>
  intro r hk hr v hv hlt x b
  rcases hr with hr|⟨d,hd⟩
  ·have:r=0∨r=1:=by omega
   rcases this with rfl|rfl
   ·rw[hi.zero,hi.zero]
   ·rw[hi.one,hi.one]
  ·rw[av hd]at hk hlt
   have h1:=hl.lt _ (h.var hd)
   obtain⟨l1,l2⟩:=h.lo hd
   obtain⟨m1,m2⟩:=h.hi hd
   have hne:d.v≠v:=fun e=>by rw[e]at hlt;omega
   rw[hi.node hd,hi.node hd,ay,if_neg hne,ih d.lo (by omega) l1 v hv (by omega),ih d.hi (by omega) m1 v hv (by omega)]
theorem WF.bO(h:WF n ah N)(hl:jn n ah)(hi:Interp N S){r:Nat}(hr:live N r){v:Nat}(hv:v<n)(hlt:ah v<dep n ah N r)(x:Nat)(b:Bool):S r (aI x v b)=S r x:=
 h.indep hl hi _ r (Nat.le_refl _) hr v hv hlt x b
theorem WF.child(h:WF n ah N)(hl:jn n ah)(hi:Interp N S){r:Nat}{d:Nd}(hd:N r=some d)(x:Nat)(b:Bool):S r (aI x d.v b)=S (if b then d.hi else d.lo) x:=by
 obtain⟨l1,l2⟩:=h.lo hd
 obtain⟨m1,m2⟩:=h.hi hd
 rw[hi.node hd,ay,if_pos rfl]
 cases b
 ·simp only[Bool.false_eq_true,if_false];exact h.bO hl hi l1 (h.var hd) l2 x false
 ·simp only[if_true];exact h.bO hl hi m1 (h.var hd) m2 x true
theorem WF.canon(h:WF n ah N)(hl:jn n ah)(hi:Interp N S):∀(k r r':Nat),(n-dep n ah N r)+(n-dep n ah N r')≤k→live N r→live N r'→(∀x,S r x=S r' x)→r=r':=by
 intro k
 induction k with
 |zero=>
  intro r r' hk hr hr' he
  have hc:∀{r},n-dep n ah N r=0→live N r→r<2:=by
   intro r hk hr
   rcases hr with hr|⟨d,hd⟩
   ·exact hr
   ·have h1:=hl.lt _ (h.var hd)
    rw[av hd]at hk;omega
  have h1:=hc (by omega) hr
  have h2:=hc (by omega) hr'
  have e0:=he 0
  have:r=0∨r=1:=by omega
  have h3:r'=0∨r'=1:=by omega
  rcases this with rfl|rfl<;>rcases h3 with rfl|rfl<;>simp[hi.zero,hi.one]at e0<;>rfl
 |succ k ih=>
  have Jb:∀r r',(n-dep n ah N r)+(n-dep n ah N r')≤k+1→live N r'→(∀x,S r x=S r' x)→∀d,N r=some d→ah d.v<dep n ah N r'→False:=by
   intro r r' hk hr' he d hd hlt
   obtain⟨l1,l2⟩:=h.lo hd
   obtain⟨m1,m2⟩:=h.hi hd
   have hv:=h.var hd
   have h1:=hl.lt _ hv
   have d1:=h.kV hl d.lo
   have d2:=h.kV hl d.hi
   have d3:=h.kV hl r'
   rw[av hd]at hk
   have a1:d.lo=r':=ih d.lo r' (by omega) l1 hr' fun x=>by
    have:=h.child hl hi hd x false
    simp only[Bool.false_eq_true,if_false]at this
    rw[←this,he,h.bO hl hi hr' hv hlt]
   have a2:d.hi=r':=ih d.hi r' (by omega) m1 hr' fun x=>by
    have:=h.child hl hi hd x true
    simp only[if_true]at this
    rw[←this,he,h.bO hl hi hr' hv hlt]
   exact h.ne hd (a1.trans a2.symm)
  intro r r' hk hr hr' he
  rcases hr with hr|⟨d,hd⟩
  ·rcases hr' with hr'|⟨d',cI⟩
   ·have e0:=he 0
    have:r=0∨r=1:=by omega
    have h3:r'=0∨r'=1:=by omega
    rcases this with rfl|rfl<;>rcases h3 with rfl|rfl<;>simp[hi.zero,hi.one]at e0<;>rfl
   ·refine(Jb r' r (by omega) (.inl hr) (fun x=>(he x).symm) d' cI ?_).elim
    rw[aT (h.const hr)];exact hl.lt _ (h.var cI)
  ·rcases Nat.lt_trichotomy (ah d.v) (dep n ah N r')with hlt|heq|hgt
   ·exact(Jb r r' hk hr' he d hd hlt).elim
   ·rcases hr' with hr'|⟨d',cI⟩
    ·rw[aT (h.const hr')]at heq
     have:=hl.lt _ (h.var hd);omega
    ·rw[av cI]at heq
     have hv:=hl.inj _ _ (h.var hd) (h.var cI) heq
     obtain⟨l1,l2⟩:=h.lo hd
     obtain⟨m1,m2⟩:=h.hi hd
     obtain⟨Ot,l2'⟩:=h.lo cI
     obtain⟨m1',m2'⟩:=h.hi cI
     have h1:=hl.lt _ (h.var hd)
     have d1:=h.kV hl d.lo
     have d2:=h.kV hl d.hi
     have d1':=h.kV hl d'.lo
     have d2':=h.kV hl d'.hi
     rw[av hd,av cI]at hk
     have c1:=fun x=>h.child hl hi hd x false
     have c2:=fun x=>h.child hl hi hd x true
     have c1':=fun x=>h.child hl hi cI x false
     have c2':=fun x=>h.child hl hi cI x true
     simp only[Bool.false_eq_true,if_false,if_true]at c1 c2 c1' c2'
     have a1:d.lo=d'.lo:=ih d.lo d'.lo (by omega) l1 Ot fun x=>by rw[←c1,←c1',he,hv]
     have a2:d.hi=d'.hi:=ih d.hi d'.hi (by omega) m1 m1' fun x=>by rw[←c2,←c2',he,hv]
     have:d=d':=by cases d;cases d';simp_all
     subst this
     exact h.uq hd cI
   ·rcases hr' with hr'|⟨d',cI⟩
    ·rw[aT (h.const hr')]at hgt
     have:=hl.lt _ (h.var hd);omega
    ·rw[av cI]at hgt
     refine(Jb r' r (by omega) (.inr ⟨d,hd⟩) (fun x=>(he x).symm) d' cI ?_).elim
     rw[av hd];exact hgt
theorem WF.same(h:WF n ah N)(hl:jn n ah)(hi:Interp N S){r r':Nat}(hr:live N r)(hr':live N r')(he:∀x,S r x=S r' x):r=r':=h.canon hl hi _ r r' (Nat.le_refl _) hr hr' he
end aE
namespace aE
open aD
variable {n:Nat} {ah:Nat→Nat} {N:dJ} {S:Nat→Fn} {ord:List Nat}
def cR(g:Fn)(v:Nat):Prop:=∃x,g (aI x v false)≠g (aI x v true)
def fs(ord:List Nat)(F:Fn→Prop):Nat→Fn→Prop
 |0,g=>F g
 |l+1,g=>∃f,fs ord F l f∧∃b,g=fun x=>f (aI x (ord.getD l 0) b)
def aM(n:Nat)(ord:List Nat)(F:Fn→Prop)(g:Fn):Prop:=∃l,l<n∧fs ord F l g∧cR g (ord.getD l 0)
structure Ord(n:Nat)(ah:Nat→Nat)(ord:List Nat):Prop where
 len:ord.length=n
 oS:∀l,l<n→ord.getD l 0<n∧ah (ord.getD l 0)=l
theorem Ord.of(h:Ord n ah ord)(hl:jn n ah){v:Nat}(hv:v<n):ord.getD (ah v) 0=v:=by
 obtain⟨h1,h2⟩:=h.oS _ (hl.lt v hv)
 exact hl.inj _ _ h1 hv h2
def Fs(S:Nat→Fn)(R:Nat→Prop)(g:Fn):Prop:=∃r,R r∧g=S r
def A(N:dJ)(ah:Nat→Nat)(n:Nat)(R:Nat→Prop):Nat→Nat→Prop
 |0,r=>R r
 |l+1,r=>(A N ah n R l r∧dep n ah N r≠l)∨∃p d,A N ah n R l p∧N p=some d∧ah d.v=l∧(r=d.lo∨r=d.hi)
variable {R:Nat→Prop}
theorem oW(h:WF n ah N)(hR:∀r,R r→live N r):∀l r,A N ah n R l r→live N r∧l≤dep n ah N r
 |0,r,ha=>⟨hR r ha,Nat.zero_le _⟩
 |l+1,r,ha=>by
  rcases ha with⟨h1,h2⟩|⟨p,d,h1,h2,h3,h4⟩
  ·have:=oW h hR l r h1
   exact⟨this.1,by omega⟩
  ·rcases h4 with rfl|rfl
   ·have:=h.lo h2;exact⟨this.1,by omega⟩
   ·have:=h.hi h2;exact⟨this.1,by omega⟩
theorem BT{r:Nat}:∀k l,A N ah n R l r→l+k≤dep n ah N r→A N ah n R (l+k) r
 |0,l,ha,_=>ha
 |k+1,l,ha,hk=>by
  have h1:=BT k l ha (by omega)
  have h2:dep n ah N r≠l+k:=by omega
  exact .inl ⟨h1,h2⟩
def Reach(N:dJ)(R:Nat→Prop):Prop:=∀r d,N r=some d→R r∨∃p e,N p=some e∧(e.lo=r∨e.hi=r)
theorem Nl(h:WF n ah N)(hr:Reach N R):∀k r d,N r=some d→ah d.v≤k→A N ah n R (ah d.v) r:=by
 intro k
 induction k with
 |zero=>
  intro r d hd hk
  rcases hr r d hd with h1|⟨p,e,h1,h2⟩
  ·rw[show ah d.v=0 by omega];exact h1
  ·have:=h.lo h1
   have h3:=h.hi h1
   rcases h2 with rfl|rfl
   ·rw[av hd]at this;omega
   ·rw[av hd]at h3;omega
 |succ k ih=>
  intro r d hd hk
  rcases hr r d hd with h1|⟨p,e,h1,h2⟩
  ·have:=BT (N:=N) (ah:=ah) (n:=n) (R:=R) (r:=r) (ah d.v) 0 h1 (by rw[av hd];omega)
   rwa [Nat.zero_add]at this
  ·have hlt:ah e.v<ah d.v:=by
    have:=h.lo h1
    have h3:=h.hi h1
    rcases h2 with rfl|rfl
    ·rw[av hd]at this;omega
    ·rw[av hd]at h3;omega
   have ha:=ih p e h1 (by omega)
   have hb:A N ah n R (ah e.v+1) r:=.inr ⟨p,e,ha,h1,rfl,by rcases h2 with rfl|rfl;exact .inl rfl;exact .inr rfl⟩
   have:=BT (ah d.v-(ah e.v+1)) _ hb (by rw[av hd];omega)
   rwa [show ah e.v+1+(ah d.v-(ah e.v+1))=ah d.v by omega]at this
theorem Lz(h:WF n ah N)(hl:jn n ah)(ho:Ord n ah ord)(hi:Interp N S)(hR:∀r,R r→live N r):∀l,l≤n→∀g,fs ord (Fs S R) l g↔∃r,A N ah n R l r∧g=S r
 |0,_,g=>Iff.rfl
 |l+1,HD,g=>by
  obtain⟨v1,v2⟩:=ho.oS l HD
  have ih:=Lz h hl ho hi hR l (by omega)
  constructor
  ·rintro⟨f,hf,b,rfl⟩
   obtain⟨r,ha,rfl⟩:=(ih f).1 hf
   obtain⟨hlv,hle⟩:=oW h hR l r ha
   by_cases e:dep n ah N r=l
   ·rcases hlv with hc|⟨d,hd⟩
    ·rw[aT (h.const hc)]at e;omega
    ·rw[av hd]at e
     have hv:d.v=ord.getD l 0:=hl.inj _ _ (h.var hd) v1 (by omega)
     refine⟨if b then d.hi else d.lo,.inr ⟨r,d,ha,hd,e,by cases b<;>simp⟩,?_⟩
     funext x
     rw[←hv];exact h.child hl hi hd x b
   ·refine⟨r,.inl ⟨ha,e⟩,?_⟩
    funext x
    exact h.bO hl hi hlv v1 (by omega) x b
  ·rintro⟨r,ha,rfl⟩
   rcases ha with⟨h1,h2⟩|⟨p,d,h1,h2,h3,h4⟩
   ·obtain⟨hlv,hle⟩:=oW h hR l r h1
    refine⟨S r,(ih _).2 ⟨r,h1,rfl⟩,false,?_⟩
    funext x
    exact(h.bO hl hi hlv v1 (by omega) x false).symm
   ·have hv:d.v=ord.getD l 0:=hl.inj _ _ (h.var h2) v1 (by omega)
    rcases h4 with rfl|rfl
    ·refine⟨S p,(ih _).2 ⟨p,h1,rfl⟩,false,?_⟩
     funext x
     rw[←hv];exact(h.child hl hi h2 x false).symm
    ·refine⟨S p,(ih _).2 ⟨p,h1,rfl⟩,true,?_⟩
     funext x
     rw[←hv];exact(h.child hl hi h2 x true).symm
theorem kG(h:WF n ah N)(hl:jn n ah)(ho:Ord n ah ord)(hi:Interp N S)(hR:∀r,R r→live N r)(hr:Reach N R)(g:Fn):aM n ord (Fs S R) g↔∃r d,N r=some d∧g=S r:=by
 constructor
 ·rintro⟨l,HD,hf,x,hx⟩
  obtain⟨v1,v2⟩:=ho.oS l HD
  obtain⟨r,ha,rfl⟩:=(Lz h hl ho hi hR l (by omega) g).1 hf
  obtain⟨hlv,hle⟩:=oW h hR l r ha
  by_cases e:dep n ah N r=l
  ·rcases hlv with hc|⟨d,hd⟩
   ·rw[aT (h.const hc)]at e;omega
   ·exact⟨r,d,hd,rfl⟩
  ·exact absurd (by rw[h.bO hl hi hlv v1 (by omega),h.bO hl hi hlv v1 (by omega)]) hx
 ·rintro⟨r,d,hd,rfl⟩
  have hv:=h.var hd
  have hlt:=hl.lt _ hv
  refine⟨ah d.v,hlt,(Lz h hl ho hi hR _ (by omega) _).2 ⟨r,Nl h hr _ r d hd (Nat.le_refl _),rfl⟩,?_⟩
  rw[ho.of hl hv]
  refine Classical.byContradiction fun hno=>h.ne hd (h.same hl hi (h.lo hd).1 (h.hi hd).1 fun x=>?_)
  have c1:=h.child hl hi hd x false
  have c2:=h.child hl hi hd x true
  simp only[Bool.false_eq_true,if_false,if_true]at c1 c2
  rw[←c1,←c2]
  exact Classical.byContradiction fun hne=>hno ⟨x,hne⟩
def oV(P:Fn→Prop)(k:Nat):Prop:=∃l:List Fn,l.Nodup∧l.length=k∧∀g,P g↔g∈l
theorem oV.congr{P Q:Fn→Prop}{k:Nat}(h:oV P k)(e:∀g,P g↔Q g):oV Q k:=let ⟨l,h1,h2,h3⟩:=h;⟨l,h1,h2,fun g=>(e g).symm.trans (h3 g)⟩
theorem bE{α:Type}:∀{l l':List α},l.Nodup→(∀x∈l,x∈l')→l.length≤l'.length
 | [],l',_,_=>Nat.zero_le _
 |x::l,l',hn,hs=>by
  obtain⟨h1,h2⟩:=List.nodup_cons.1 hn
  obtain⟨a,b,rfl⟩:=List.append_of_mem (hs x (by simp))
  have:=bE (l':=a++b) h2 fun y hy=>by
   have:=hs y (by simp[hy])
   rcases List.mem_append.1 this with h|h
   ·exact List.mem_append_left _ h
   ·rcases List.mem_cons.1 h with rfl|h
    ·exact absurd hy h1
    ·exact List.mem_append_right _ h
  simp at this⊢;omega
theorem oV.le{P Q:Fn→Prop}{k k':Nat}(h:oV P k)(h':oV Q k')(e:∀g,P g→Q g):k≤k':=by
 obtain⟨l,h1,h2,h3⟩:=h
 obtain⟨l',wY,kQ,vJ⟩:=h'
 rw[←h2,←kQ]
 exact bE h1 fun x hx=>(vJ x).1 (e x ((h3 x).2 hx))
theorem oV.uniq{P:Fn→Prop}{k k':Nat}(h:oV P k)(h':oV P k'):k=k':=Nat.le_antisymm (h.le h' fun _=>id) (h'.le h fun _=>id)
theorem oV.or{P Q:Fn→Prop}{k k':Nat}(h:oV P k)(h':oV Q k')(e:∀g,P g→¬Q g):oV (fun g=>P g∨Q g) (k+k'):=by
 obtain⟨l,h1,h2,h3⟩:=h
 obtain⟨l',wY,kQ,vJ⟩:=h'
 refine⟨l++l',List.nodup_append.2 ⟨h1,wY,fun a ha b hb e'=>?_⟩,by rw[List.length_append,h2,kQ],fun g=>by rw[List.mem_append,←h3,←vJ]⟩
 subst e'
 exact e a ((h3 a).2 ha) ((vJ a).2 hb)
theorem tM(h:WF n ah N)(hl:jn n ah)(hi:Interp N S){dom:List Nat}(hd:dom.Nodup)(hm:∀r,r∈dom↔∃d,N r=some d):oV (fun g=>∃r d,N r=some d∧g=S r) dom.length:=by
 refine⟨dom.map S,?_,by simp,fun g=>?_⟩
 ·refine List.pairwise_map.2 (hd.imp_of_mem fun{a b} ha hb hne heq=>hne ?_)
  exact h.same hl hi (.inr ((hm a).1 ha)) (.inr ((hm b).1 hb)) fun x=>by rw[heq]
 ·rw[List.mem_map]
  constructor
  ·rintro⟨r,d,h1,rfl⟩;exact⟨r,(hm r).2 ⟨d,h1⟩,rfl⟩
  ·rintro⟨r,h1,rfl⟩;obtain⟨d,h2⟩:=(hm r).1 h1;exact⟨r,d,h2,rfl⟩
end aE
namespace aE
open aD
def up{α:Type}(N:Nat→α)(r:Nat)(o:α):Nat→α:=fun s=>if s=r then o else N s
@[simp] theorem aH{α:Type}{N:Nat→α}{r:Nat}{o:α}:up N r o r=o:=if_pos rfl
theorem aL{α:Type}{N:Nat→α}{r s:Nat}{o:α}(h:s≠r):up N r o s=N s:=if_neg h
def nf(T:Nd→Option Nat)(d:Nd)(o:Option Nat):Nd→Option Nat:=fun e=>if e=d then o else T e
@[simp] theorem gJ{T:Nd→Option Nat}{d:Nd}{o:Option Nat}:nf T d o d=o:=if_pos rfl
theorem mF{T:Nd→Option Nat}{d e:Nd}{o:Option Nat}(h:e≠d):nf T d o e=T e:=if_neg h
def e1:Option Nd→Nat→Nat
 |none,_=>0
 |some d,r=>(if d.lo=r then 1 else 0)+(if d.hi=r then 1 else 0)
theorem df(d:Nd)(r:Nat):e1 (some d) r=(if d.lo=r then 1 else 0)+(if d.hi=r then 1 else 0):=rfl
def cD(N:dJ)(r:Nat):Nat→Nat
 |0=>0
 |k+1=>cD N r k+e1 (N k) r
def j4(N:dJ):Nat→Nat
 |0=>0
 |k+1=>j4 N k+(if(N k).isSome then 1 else 0)
theorem tJ{N:dJ}{s r:Nat}{o:Option Nd}:∀{k},(s<k→cD (up N s o) r k+e1 (N s) r=cD N r k+e1 o r)∧(k≤s→cD (up N s o) r k=cD N r k)
 |0=>⟨fun h=>by omega,fun _=>rfl⟩
 |k+1=>by
  obtain⟨i1,i2⟩:=tJ (N:=N) (s:=s) (r:=r) (o:=o) (k:=k)
  refine⟨fun h=>?_,fun h=>?_⟩
  ·rw[cD,cD]
   by_cases e:s=k
   ·subst e;rw[aH,i2 (Nat.le_refl _)];omega
   ·have:=i1 (by omega);rw[aL (fun h=>e h.symm)];omega
  ·rw[cD,cD,i2 (by omega),aL (by omega)]
theorem q7{N:dJ}{s r k:Nat}{o:Option Nd}(h:s<k):cD (up N s o) r k+e1 (N s) r=cD N r k+e1 o r:=tJ.1 h
theorem nV{N:dJ}{s:Nat}{o:Option Nd}:∀{k},(s<k→j4 (up N s o) k+(if(N s).isSome then 1 else 0)=j4 N k+(if o.isSome then 1 else 0))∧(k≤s→j4 (up N s o) k=j4 N k)
 |0=>⟨fun h=>by omega,fun _=>rfl⟩
 |k+1=>by
  obtain⟨i1,i2⟩:=nV (N:=N) (s:=s) (o:=o) (k:=k)
  refine⟨fun h=>?_,fun h=>?_⟩
  ·rw[j4,j4]
   by_cases e:s=k
   ·subst e;rw[aH,i2 (Nat.le_refl _)];omega
   ·have:=i1 (by omega);rw[aL (fun h=>e h.symm)];omega
  ·rw[j4,j4,i2 (by omega),aL (by omega)]
theorem gX{N:dJ}{r:Nat}:∀{k},cD N r k=0→∀s,s<k→∀d,N s=some d→d.lo≠r∧d.hi≠r
 |0,_,s,hs,_,_=>by omega
 |k+1,h,s,hs,d,hd=>by
  rw[cD]at h
  by_cases e:s=k
  ·subst e
   rw[hd,df]at h
   constructor
   ·intro h1;rw[if_pos h1]at h;omega
   ·intro h1;rw[if_pos h1]at h;omega
  ·exact gX (k:=k) (by omega) s (by omega) d hd
theorem oN{N:dJ}{r:Nat}:∀{k},0<cD N r k→∃s d,s<k∧N s=some d∧(d.lo=r∨d.hi=r)
 |0,h=>by simp[cD]at h
 |k+1,h=>by
  rw[cD]at h
  by_cases hk:0<cD N r k
  ·obtain⟨s,d,h1,h2,h3⟩:=oN hk;exact⟨s,d,by omega,h2,h3⟩
  ·cases hd:N k with
   |none=>rw[hd]at h;simp[e1]at h;omega
   |some d=>
    refine⟨k,d,by omega,hd,?_⟩
    rw[hd,df]at h
    by_cases h1:d.lo=r
    ·exact .inl h1
    ·by_cases h2:d.hi=r
     ·exact .inr h2
     ·rw[if_neg h1,if_neg h2]at h;omega
theorem xp{N:dJ}{r:Nat}:∀k,cD N r k≤2*k
 |0=>Nat.le_refl _
 |k+1=>by
  have:=xp (N:=N) (r:=r) k
  rw[cD]
  have:e1 (N k) r≤2:=by
   cases N k with
   |none=>simp[e1]
   |some d=>rw[df];split<;>split<;>omega
  omega
theorem xz(N:dJ):∀k,((List.range k).filter fun r=>(N r).isSome).length=j4 N k
 |0=>rfl
 |k+1=>by
  rw[List.range_succ,List.filter_append,List.length_append,xz N k,j4]
  congr 1
  cases h:N k<;>simp[h]
structure Kd where
 n:Nat
 cap:Nat
 used:Nat
 N:dJ
 T:Nd→Option Nat
 us:List Nat
 ho:List Nat
def Kd.hold(K:Kd)(r:Nat):Nat:=K.ho.getD r 0
def Kd.use(K:Kd)(r:Nat):Nat:=K.us.getD r 0
structure gF(K:Kd)(S:Nat→Fn)(E:Nat→Prop)(P:Nat→Nat):Prop where
 two:∀{r d},K.N r=some d→2≤r∧r<K.cap
 var:∀{r d},K.N r=some d→d.v<K.n
 ne:∀{r d},K.N r=some d→d.lo≠d.hi
 lo:∀{r d},K.N r=some d→live K.N d.lo
 hi:∀{r d},K.N r=some d→live K.N d.hi
 int:Interp K.N S
 iD:∀d r,K.T d=some r↔K.N r=some d∧¬E r
 use:∀{r d},K.N r=some d→K.use r=cD K.N r K.cap+(if K.hold r=0 then 0 else 1)+P r
 len:K.us.length=K.ho.length
 fit:∀{r d},K.N r=some d→r<K.us.length
 held:∀r,K.hold r≠0→∃d,K.N r=some d
 mx:∀r,K.hold r≤65535
 room:K.used=2+j4 K.N K.cap
 cap:K.used≤K.cap∧K.cap≤1048576
variable {K:Kd} {S:Nat→Fn} {E:Nat→Prop} {P:Nat→Nat}
theorem ij{N:dJ}{r s:Nat}{d:Nd}(h:live N s):live (up N r (some d)) s:=by
 rcases h with h|⟨e,h⟩
 ·exact .inl h
 ·by_cases e2:s=r
  ·subst e2;exact .inr ⟨d,aH⟩
  ·exact .inr ⟨e,by rw[aL e2];exact h⟩
theorem tt{N:dJ}{r s:Nat}(h:live N s)(hne:s≠r):live (up N r none) s:=by
 rcases h with h|⟨e,h⟩
 ·exact .inl h
 ·exact .inr ⟨e,by rw[aL hne];exact h⟩
def Pos(K:Kd):Prop:=∀r d,K.N r=some d→0<K.use r
theorem gF.less(h:gF K S E P){r:Nat}{cJ:List Nat}(hP:0<P r)(hl:cJ.length=K.us.length)(h1:cJ.getD r 0+1=K.use r)(h2:∀s,s≠r→cJ.getD s 0=K.use s):
  gF {K with us:=cJ} S E (up P r (P r-1)) where
 two:=h.two
 var:=h.var
 ne:=h.ne
 lo:=h.lo
 hi:=h.hi
 int:=h.int
 iD:=h.iD
 use:=fun{s d} hd=>by
  have:=h.use hd
  show cJ.getD s 0=cD K.N s K.cap+(if K.hold s=0 then 0 else 1)+up P r (P r-1) s
  by_cases e:s=r
  ·subst e
   rw[aH]
   omega
  ·rw[h2 s e,aL e];exact this
 len:=by show cJ.length=_;rw[hl];exact h.len
 fit:=fun{s d} hd=>by show s<cJ.length;rw[hl];exact h.fit hd
 held:=h.held
 mx:=h.mx
 room:=h.room
 cap:=h.cap
theorem gF.free(h:gF K S E P){r:Nat}{d:Nd}(hd:K.N r=some d)(hE:¬E r)(h0:K.use r=0):
  gF {K with N:=up K.N r none,T:=nf K.T d none,used:=K.used-1} S E (fun s=>P s+e1 (some d) s) where
 two:=fun{s e} hs=>by
  have hs':up K.N r none s=some e:=hs
  by_cases e2:s=r
  ·subst e2;rw[aH]at hs';cases hs'
  ·rw[aL e2]at hs';exact h.two hs'
 var:=fun{s e} hs=>by
  have hs':up K.N r none s=some e:=hs
  by_cases e2:s=r
  ·subst e2;rw[aH]at hs';cases hs'
  ·rw[aL e2]at hs';exact h.var hs'
 ne:=fun{s e} hs=>by
  have hs':up K.N r none s=some e:=hs
  by_cases e2:s=r
  ·subst e2;rw[aH]at hs';cases hs'
  ·rw[aL e2]at hs';exact h.ne hs'
 lo:=fun{s e} hs=>by
  have hs':up K.N r none s=some e:=hs
  by_cases e2:s=r
  ·subst e2;rw[aH]at hs';cases hs'
  ·rw[aL e2]at hs'
   have hu:=h.use hd
   exact tt (h.lo hs') (gX (by omega) s (h.two hs').2 e hs').1
 hi:=fun{s e} hs=>by
  have hs':up K.N r none s=some e:=hs
  by_cases e2:s=r
  ·subst e2;rw[aH]at hs';cases hs'
  ·rw[aL e2]at hs'
   have hu:=h.use hd
   exact tt (h.hi hs') (gX (by omega) s (h.two hs').2 e hs').2
 int:=⟨h.int.zero,h.int.one,fun{s e} hs x=>by
  have hs':up K.N r none s=some e:=hs
  by_cases e2:s=r
  ·subst e2;rw[aH]at hs';cases hs'
  ·rw[aL e2]at hs';exact h.int.node hs' x⟩
 iD:=fun e s=>by
  show nf K.T d none e=some s↔up K.N r none s=some e∧_
  by_cases e2:e=d
  ·subst e2
   rw[gJ]
   constructor
   ·intro h;cases h
   ·rintro⟨h1,h2⟩
    by_cases e3:s=r
    ·subst e3;rw[aH]at h1;cases h1
    ·rw[aL e3]at h1
     have a:=(h.iD e s).2 ⟨h1,h2⟩
     have b:=(h.iD e r).2 ⟨hd,hE⟩
     rw[a]at b;cases b;exact absurd rfl e3
  ·rw[mF e2,h.iD]
   by_cases e3:s=r
   ·subst e3
    rw[aH]
    constructor
    ·rintro⟨h1,_⟩;rw[hd]at h1;cases h1;exact absurd rfl e2
    ·rintro⟨h1,_⟩;cases h1
   ·rw[aL e3]
 use:=fun{s e} hs=>by
  have hs':up K.N r none s=some e:=hs
  by_cases e2:s=r
  ·subst e2;rw[aH]at hs';cases hs'
  ·rw[aL e2]at hs'
   have hu:=h.use hs'
   have he:=q7 (N:=K.N) (s:=r) (r:=s) (k:=K.cap) (o:=none) (h.two hd).2
   show K.use s=cD (up K.N r none) s K.cap+(if K.hold s=0 then 0 else 1)+(P s+e1 (some d) s)
   rw[hd]at he
   have:e1 none s=0:=rfl
   omega
 len:=h.len
 fit:=fun{s e} hs=>by
  have hs':up K.N r none s=some e:=hs
  by_cases e2:s=r
  ·subst e2;rw[aH]at hs';cases hs'
  ·rw[aL e2]at hs';exact h.fit hs'
 held:=fun s hs=>by
  obtain⟨e,he⟩:=h.held s hs
  have hne:s≠r:=fun e2=>by
   subst e2
   have hu:=h.use hd
   have hs':K.hold s≠0:=hs
   rw[if_neg hs']at hu;omega
  exact⟨e,by show up K.N r none s=_;rw[aL hne];exact he⟩
 mx:=h.mx
 room:=by
  have:=(nV (N:=K.N) (s:=r) (o:=none) (k:=K.cap)).1 (h.two hd).2
  have hr:=h.room
  rw[hd]at this
  show K.used-1=2+j4 (up K.N r none) K.cap
  simp at this;omega
 cap:=⟨by have:=h.cap.1;show K.used-1≤K.cap;omega,h.cap.2⟩
theorem gF.more(h:gF K S E P){r:Nat}{cJ:List Nat}(hl:cJ.length=K.us.length)(h1:cJ.getD r 0=K.use r+1)(h2:∀s,s≠r→cJ.getD s 0=K.use s):
  gF {K with us:=cJ} S E (up P r (P r+1)) where
 two:=h.two
 var:=h.var
 ne:=h.ne
 lo:=h.lo
 hi:=h.hi
 int:=h.int
 iD:=h.iD
 use:=fun{s d} hd=>by
  have:=h.use hd
  show cJ.getD s 0=cD K.N s K.cap+(if K.hold s=0 then 0 else 1)+up P r (P r+1) s
  by_cases e:s=r
  ·subst e
   rw[aH]
   omega
  ·rw[h2 s e,aL e];exact this
 len:=by show cJ.length=_;rw[hl];exact h.len
 fit:=fun{s d} hd=>by show s<cJ.length;rw[hl];exact h.fit hd
 held:=h.held
 mx:=h.mx
 room:=h.room
 cap:=h.cap
end aE
namespace aE
open aD
variable {K:Kd} {S:Nat→Fn} {E:Nat→Prop} {P:Nat→Nat}
def ite(S:Nat→Fn)(d:Nd):Fn:=fun x=>if x.testBit d.v then S d.hi x else S d.lo x
theorem eA{N:dJ}{r s:Nat}(h:live N s)(h2:2≤r)(hr:N r=none):s≠r:=fun e=>by
 subst e
 rcases h with h|⟨d,h⟩
 ·omega
 ·rw[hr]at h;cases h
theorem gF.lay(h:gF K S E P){r:Nat}{d:Nd}{cJ ct:List Nat}(hr:K.N r=none)(h2:2≤r∧r<K.cap)(hv:d.v<K.n)(hne:d.lo≠d.hi)(hlo:live K.N d.lo)(hhi:live K.N d.hi)(hT:K.T d=none)(hE:¬E r)
 (hP:P r=0)(hro:K.used<K.cap)(hl:cJ.length=ct.length)(hf:r<cJ.length∧K.us.length≤cJ.length)(u0:cJ.getD r 0=0)(u1:∀s,2≤s→s≠r→cJ.getD s 0=K.use s+e1 (some d) s)(o0:ct.getD r 0=0)(o1:∀s,s≠r→ct.getD s 0=K.hold s):
  gF {K with N:=up K.N r (some d),T:=nf K.T d (some r),used:=K.used+1,us:=cJ,ho:=ct} (up S r (ite S d)) E P where
 two:=fun{s e} hs=>by
  have hs':up K.N r (some d) s=some e:=hs
  by_cases e2:s=r
  ·subst e2;exact h2
  ·rw[aL e2]at hs';exact h.two hs'
 var:=fun{s e} hs=>by
  have hs':up K.N r (some d) s=some e:=hs
  by_cases e2:s=r
  ·subst e2;rw[aH]at hs';cases hs';exact hv
  ·rw[aL e2]at hs';exact h.var hs'
 ne:=fun{s e} hs=>by
  have hs':up K.N r (some d) s=some e:=hs
  by_cases e2:s=r
  ·subst e2;rw[aH]at hs';cases hs';exact hne
  ·rw[aL e2]at hs';exact h.ne hs'
 lo:=fun{s e} hs=>by
  have hs':up K.N r (some d) s=some e:=hs
  by_cases e2:s=r
  ·subst e2;rw[aH]at hs';cases hs';exact ij hlo
  ·rw[aL e2]at hs';exact ij (h.lo hs')
 hi:=fun{s e} hs=>by
  have hs':up K.N r (some d) s=some e:=hs
  by_cases e2:s=r
  ·subst e2;rw[aH]at hs';cases hs';exact ij hhi
  ·rw[aL e2]at hs';exact ij (h.hi hs')
 int:=⟨fun x=>by rw[aL (by omega)];exact h.int.zero x,fun x=>by rw[aL (by omega)];exact h.int.one x,fun{s e} hs x=>by
  have hs':up K.N r (some d) s=some e:=hs
  by_cases e2:s=r
  ·subst e2;rw[aH]at hs';cases hs'
   rw[aH,aL (eA hlo h2.1 hr),aL (eA hhi h2.1 hr)];rfl
  ·rw[aL e2]at hs'
   rw[aL e2,aL (eA (h.lo hs') h2.1 hr),aL (eA (h.hi hs') h2.1 hr)]
   exact h.int.node hs' x⟩
 iD:=fun e s=>by
  show nf K.T d (some r) e=some s↔up K.N r (some d) s=some e∧_
  by_cases e2:e=d
  ·subst e2
   rw[gJ]
   constructor
   ·intro h;cases h;exact⟨aH,hE⟩
   ·rintro⟨h1,kQ⟩
    by_cases e3:s=r
    ·rw[e3]
    ·rw[aL e3]at h1
     have a:=(h.iD e s).2 ⟨h1,kQ⟩
     rw[hT]at a;cases a
  ·rw[mF e2,h.iD]
   by_cases e3:s=r
   ·subst e3
    rw[aH,hr]
    constructor
    ·rintro⟨h1,_⟩;cases h1
    ·rintro⟨h1,_⟩;cases h1;exact absurd rfl e2
   ·rw[aL e3]
 use:=fun{s e} hs=>by
  have hs':up K.N r (some d) s=some e:=hs
  have he:=q7 (N:=K.N) (s:=r) (r:=s) (k:=K.cap) (o:=some d) h2.2
  rw[hr]at he
  have h0:e1 none s=0:=rfl
  show cJ.getD s 0=cD (up K.N r (some d)) s K.cap+(if ct.getD s 0=0 then 0 else 1)+P s
  by_cases e2:s=r
  ·subst e2
   have hz:cD K.N s K.cap=0:=by
    refine Nat.eq_zero_of_not_pos fun hp=>?_
    obtain⟨t,e',_,ht,hc⟩:=oN hp
    have JB:=eA (h.lo ht) h2.1 hr
    have vH:=eA (h.hi ht) h2.1 hr
    rcases hc with hc|hc
    ·exact JB hc
    ·exact vH hc
   have hd0:e1 (some d) s=0:=by
    rw[df,if_neg (eA hlo h2.1 hr),if_neg (eA hhi h2.1 hr)]
   rw[u0,o0,if_pos rfl];omega
  ·rw[aL e2]at hs'
   have hu:=h.use hs'
   have h3:ct.getD s 0=K.hold s:=o1 s e2
   rw[u1 s (h.two hs').1 e2,h3];omega
 len:=hl
 fit:=fun{s e} hs=>by
  have hs':up K.N r (some d) s=some e:=hs
  show s<cJ.length
  by_cases e2:s=r
  ·subst e2;exact hf.1
  ·rw[aL e2]at hs';exact Nat.lt_of_lt_of_le (h.fit hs') hf.2
 held:=fun s hs=>by
  have hs':ct.getD s 0≠0:=hs
  by_cases e2:s=r
  ·subst e2;exact⟨d,aH⟩
  ·rw[o1 s e2]at hs'
   obtain⟨e,he⟩:=h.held s hs'
   exact⟨e,by show up K.N r (some d) s=_;rw[aL e2];exact he⟩
 mx:=fun s=>by
  show ct.getD s 0≤65535
  by_cases e2:s=r
  ·subst e2;rw[o0];decide
  ·rw[o1 s e2];exact h.mx s
 room:=by
  have:=(nV (N:=K.N) (s:=r) (o:=some d) (k:=K.cap)).1 h2.2
  have hr':=h.room
  rw[hr]at this
  show K.used+1=2+j4 (up K.N r (some d)) K.cap
  simp at this;omega
 cap:=⟨by show K.used+1≤K.cap;omega,h.cap.2⟩
theorem gF.XB(h:gF K S E P){r:Nat}{d:Nd}(hd:K.N r=some d)(hE:¬E r):gF {K with T:=nf K.T d none} S (fun s=>E s∨s=r) P where
 two:=h.two
 var:=h.var
 ne:=h.ne
 lo:=h.lo
 hi:=h.hi
 int:=h.int
 iD:=fun e s=>by
  show nf K.T d none e=some s↔_
  by_cases e2:e=d
  ·subst e2
   rw[gJ]
   constructor
   ·intro h;cases h
   ·rintro⟨h1,h2⟩
    have a:=(h.iD e s).2 ⟨h1,fun x=>h2 (.inl x)⟩
    have b:=(h.iD e r).2 ⟨hd,hE⟩
    rw[a]at b;cases b;exact absurd (.inr rfl) h2
  ·rw[mF e2,h.iD]
   constructor
   ·rintro⟨h1,h2⟩
    refine⟨h1,fun x=>?_⟩
    rcases x with x|rfl
    ·exact h2 x
    ·have wY:K.N s=some e:=h1
     rw[hd]at wY;cases wY;exact e2 rfl
   ·rintro⟨h1,h2⟩;exact⟨h1,fun x=>h2 (.inl x)⟩
 use:=h.use
 len:=h.len
 fit:=h.fit
 held:=h.held
 mx:=h.mx
 room:=h.room
 cap:=h.cap
theorem gF.uu(h:gF K S E P){r:Nat}{d d':Nd}{P':Nat→Nat}(hd:K.N r=some d)(hE:E r)(hv:d'.v<K.n)(hne:d'.lo≠d'.hi)(hlo:live K.N d'.lo)(hhi:live K.N d'.hi)(hT:K.T d'=none)(hS:∀x,S r x=ite S d' x)
 (hP:∀s,2≤s→P' s+e1 (some d') s=P s+e1 (some d) s):gF {K with N:=up K.N r (some d'),T:=nf K.T d' (some r)} S (fun s=>E s∧s≠r) P' where
 two:=fun{s e} hs=>by
  have hs':up K.N r (some d') s=some e:=hs
  by_cases e2:s=r
  ·subst e2;exact h.two hd
  ·rw[aL e2]at hs';exact h.two hs'
 var:=fun{s e} hs=>by
  have hs':up K.N r (some d') s=some e:=hs
  by_cases e2:s=r
  ·subst e2;rw[aH]at hs';cases hs';exact hv
  ·rw[aL e2]at hs';exact h.var hs'
 ne:=fun{s e} hs=>by
  have hs':up K.N r (some d') s=some e:=hs
  by_cases e2:s=r
  ·subst e2;rw[aH]at hs';cases hs';exact hne
  ·rw[aL e2]at hs';exact h.ne hs'
 lo:=fun{s e} hs=>by
  have hs':up K.N r (some d') s=some e:=hs
  by_cases e2:s=r
  ·subst e2;rw[aH]at hs';cases hs';exact ij hlo
  ·rw[aL e2]at hs';exact ij (h.lo hs')
 hi:=fun{s e} hs=>by
  have hs':up K.N r (some d') s=some e:=hs
  by_cases e2:s=r
  ·subst e2;rw[aH]at hs';cases hs';exact ij hhi
  ·rw[aL e2]at hs';exact ij (h.hi hs')
 int:=⟨h.int.zero,h.int.one,fun{s e} hs x=>by
  have hs':up K.N r (some d') s=some e:=hs
  by_cases e2:s=r
  ·subst e2;rw[aH]at hs';cases hs';exact hS x
  ·rw[aL e2]at hs';exact h.int.node hs' x⟩
 iD:=fun e s=>by
  show nf K.T d' (some r) e=some s↔up K.N r (some d') s=some e∧¬(E s∧s≠r)
  by_cases e2:e=d'
  ·subst e2
   rw[gJ]
   constructor
   ·intro h;cases h;exact⟨aH,fun x=>x.2 rfl⟩
   ·rintro⟨h1,kQ⟩
    by_cases e3:s=r
    ·rw[e3]
    ·rw[aL e3]at h1
     have a:=(h.iD e s).2 ⟨h1,fun x=>kQ ⟨x,e3⟩⟩
     rw[hT]at a;cases a
  ·rw[mF e2,h.iD]
   by_cases e3:s=r
   ·subst e3
    rw[aH]
    constructor
    ·rintro⟨_,h1⟩;exact absurd hE h1
    ·rintro⟨h1,_⟩;cases h1;exact absurd rfl e2
   ·rw[aL e3]
    constructor
    ·rintro⟨h1,h2⟩;exact⟨h1,fun x=>h2 x.1⟩
    ·rintro⟨h1,h2⟩;exact⟨h1,fun x=>h2 ⟨x,e3⟩⟩
 use:=fun{s e} hs=>by
  have hs':up K.N r (some d') s=some e:=hs
  have he:=q7 (N:=K.N) (s:=r) (r:=s) (k:=K.cap) (o:=some d') (h.two hd).2
  rw[hd]at he
  show K.use s=cD (up K.N r (some d')) s K.cap+(if K.hold s=0 then 0 else 1)+P' s
  by_cases e2:s=r
  ·subst e2
   have hu:=h.use hd
   have:=hP s (h.two hd).1
   omega
  ·rw[aL e2]at hs'
   have hu:=h.use hs'
   have:=hP s (h.two hs').1
   omega
 len:=h.len
 fit:=fun{s e} hs=>by
  have hs':up K.N r (some d') s=some e:=hs
  by_cases e2:s=r
  ·subst e2;exact h.fit hd
  ·rw[aL e2]at hs';exact h.fit hs'
 held:=fun s hs=>by
  obtain⟨e,he⟩:=h.held s hs
  by_cases e2:s=r
  ·subst e2;exact⟨d',aH⟩
  ·exact⟨e,by show up K.N r (some d') s=_;rw[aL e2];exact he⟩
 mx:=h.mx
 room:=by
  have:=(nV (N:=K.N) (s:=r) (o:=some d') (k:=K.cap)).1 (h.two hd).2
  have hr':=h.room
  rw[hd]at this
  show K.used=2+j4 (up K.N r (some d')) K.cap
  simp at this;omega
 cap:=h.cap
theorem gF.keep(h:gF K S E P){r:Nat}{cJ ct:List Nat}(hr:∃d,K.N r=some d)(hm:K.hold r<65535)(hl:cJ.length=K.us.length∧ct.length=K.ho.length)(o0:ct.getD r 0=K.hold r+1)(o1:∀s,s≠r→ct.getD s 0=K.hold s)
 (u0:cJ.getD r 0=K.use r+(if K.hold r=0 then 1 else 0))(u1:∀s,s≠r→cJ.getD s 0=K.use s):gF {K with us:=cJ,ho:=ct} S E P where
 two:=h.two
 var:=h.var
 ne:=h.ne
 lo:=h.lo
 hi:=h.hi
 int:=h.int
 iD:=h.iD
 use:=fun{s e} hs=>by
  have hu:=h.use hs
  show cJ.getD s 0=cD K.N s K.cap+(if ct.getD s 0=0 then 0 else 1)+P s
  by_cases e2:s=r
  ·subst e2
   rw[u0,o0,if_neg (by omega:¬K.hold s+1=0)]
   by_cases e3:K.hold s=0
   ·rw[if_pos e3]at hu⊢;omega
   ·rw[if_neg e3]at hu⊢;omega
  ·rw[u1 s e2,o1 s e2];exact hu
 len:=by show cJ.length=ct.length;rw[hl.1,hl.2];exact h.len
 fit:=fun{s e} hs=>by show s<cJ.length;rw[hl.1];exact h.fit hs
 held:=fun s hs=>by
  have hs':ct.getD s 0≠0:=hs
  by_cases e2:s=r
  ·subst e2;exact hr
  ·rw[o1 s e2]at hs';exact h.held s hs'
 mx:=fun s=>by
  show ct.getD s 0≤65535
  by_cases e2:s=r
  ·subst e2;rw[o0];omega
  ·rw[o1 s e2];exact h.mx s
 room:=h.room
 cap:=h.cap
theorem gF.drop(h:gF K S E P){r:Nat}{ct:List Nat}(hr:0<K.hold r)(hl:ct.length=K.ho.length)(o0:ct.getD r 0+1=K.hold r)(o1:∀s,s≠r→ct.getD s 0=K.hold s):
  gF {K with ho:=ct} S E (if K.hold r=1 then up P r (P r+1)else P) where
 two:=h.two
 var:=h.var
 ne:=h.ne
 lo:=h.lo
 hi:=h.hi
 int:=h.int
 iD:=h.iD
 use:=fun{s e} hs=>by
  have hu:=h.use hs
  show K.use s=cD K.N s K.cap+(if ct.getD s 0=0 then 0 else 1)+(if K.hold r=1 then up P r (P r+1)else P) s
  by_cases e2:s=r
  ·subst e2
   rw[if_neg (by omega:¬K.hold s=0)]at hu
   by_cases e3:K.hold s=1
   ·rw[if_pos e3,aH,if_pos (by omega)];omega
   ·rw[if_neg e3,if_neg (by omega)];omega
  ·rw[o1 s e2]
   by_cases e3:K.hold r=1
   ·rw[if_pos e3,aL e2];exact hu
   ·rw[if_neg e3];exact hu
 len:=by show K.us.length=ct.length;rw[hl];exact h.len
 fit:=h.fit
 held:=fun s hs=>by
  have hs':ct.getD s 0≠0:=hs
  by_cases e2:s=r
  ·subst e2;exact h.held s (by omega)
  ·rw[o1 s e2]at hs';exact h.held s hs'
 mx:=fun s=>by
  show ct.getD s 0≤65535
  have:=h.mx r
  by_cases e2:s=r
  ·subst e2;omega
  ·rw[o1 s e2];exact h.mx s
 room:=h.room
 cap:=h.cap
theorem gF.congr(h:gF K S E P){E':Nat→Prop}{P':Nat→Nat}(hE:∀s,E s↔E' s)(hP:∀s,2≤s→P s=P' s):gF K S E' P' where
 two:=h.two
 var:=h.var
 ne:=h.ne
 lo:=h.lo
 hi:=h.hi
 int:=h.int
 iD:=fun d r=>by rw[h.iD,hE]
 use:=fun{s e} hs=>by rw[←hP s (h.two hs).1];exact h.use hs
 len:=h.len
 fit:=h.fit
 held:=h.held
 mx:=h.mx
 room:=h.room
 cap:=h.cap
def fM:Nat→Prop:=fun _=>False
def zero':Nat→Nat:=fun _=>0
structure Ok(K:Kd)(S:Nat→Fn)(ah:Nat→Nat):Prop where
 mid:gF K S fM zero'
 pos:Pos K
 lv:jn K.n ah
 wf:WF K.n ah K.N
theorem gF.uq(h:gF K S fM P){r r':Nat}{d:Nd}(h1:K.N r=some d)(h2:K.N r'=some d):r=r':=by
 have a:=(h.iD d r).2 ⟨h1,fun x=>x⟩
 have b:=(h.iD d r').2 ⟨h2,fun x=>x⟩
 rw[a]at b;cases b;rfl
theorem gF.wf(h:gF K S fM P){ah:Nat→Nat}(hl:∀{r d},K.N r=some d→ah d.v<dep K.n ah K.N d.lo∧ah d.v<dep K.n ah K.N d.hi):WF K.n ah K.N:=
 ⟨fun hd=>(h.two hd).1,h.var,h.ne,fun hd=>⟨h.lo hd,(hl hd).1⟩,fun hd=>⟨h.hi hd,(hl hd).2⟩,h.uq⟩
theorem Ok.reach{ah:Nat→Nat}(h:Ok K S ah):Reach K.N (fun r=>K.hold r≠0):=fun r d hd=>by
 have hu:=h.mid.use hd
 have hp:=h.pos r d hd
 by_cases e:K.hold r=0
 ·rw[if_pos e]at hu
  have:zero' r=0:=rfl
  obtain⟨s,e',_,h1,h2⟩:=oN (N:=K.N) (r:=r) (k:=K.cap) (by omega)
  exact .inr ⟨s,e',h1,h2⟩
 ·exact .inl e
theorem Ok.dom{ah:Nat→Nat}(h:Ok K S ah):∃dom:List Nat,dom.Nodup∧dom.length+2=K.used∧∀r,r∈dom↔∃d,K.N r=some d:=by
 refine⟨(List.range K.cap).filter fun r=>(K.N r).isSome,List.nodup_range.filter _,by rw[xz,h.mid.room];omega,fun r=>?_⟩
 rw[List.mem_filter,List.mem_range,Option.isSome_iff_exists]
 exact⟨fun h=>h.2,fun⟨d,hd⟩=>⟨(h.mid.two hd).2,d,hd⟩⟩
def Kd.held(K:Kd)(S:Nat→Fn):Fn→Prop:=Fs S fun r=>K.hold r≠0
theorem Ok.size{ah:Nat→Nat}{ord:List Nat}(h:Ok K S ah)(ho:Ord K.n ah ord):oV (aM K.n ord (K.held S)) (K.used-2):=by
 obtain⟨dom,h1,h2,h3⟩:=h.dom
 have hc:=tM h.wf h.lv h.mid.int h1 h3
 rw[show dom.length=K.used-2 by omega]at hc
 refine hc.congr fun g=>?_
 exact(kG h.wf h.lv ho h.mid.int (fun r hr=>.inr (h.mid.held r hr)) h.reach g).symm
end aE
namespace aE
open aD
variable {n:Nat} {ah:Nat→Nat} {N:dJ} {S:Nat→Fn} {ord:List Nat} {K:Kd}
def pl(N:dJ)(y r:Nat):Nat:=match N r with|some e=>if e.v=y then e.lo else r|none=>r
def ph(N:dJ)(y r:Nat):Nat:=match N r with|some e=>if e.v=y then e.hi else r|none=>r
theorem Kx{y r:Nat}{e:Nd}(h:N r=some e)(hv:e.v=y):pl N y r=e.lo∧ph N y r=e.hi:=by simp[pl,ph,h,hv]
theorem Ky{y r:Nat}(h:∀e,N r=some e→e.v≠y):pl N y r=r∧ph N y r=r:=by
 unfold pl ph
 cases hr:N r with
 |none=>exact⟨rfl,rfl⟩
 |some e=>simp[h e hr]
theorem WF.half(h:WF n ah N)(hl:jn n ah)(hi:Interp N S){y l r:Nat}(hy:y<n∧ah y=l+1)(hr:live N r)(hd:l<dep n ah N r):
  (live N (pl N y r)∧l+1<dep n ah N (pl N y r))∧(live N (ph N y r)∧l+1<dep n ah N (ph N y r))∧∀z,S r z=if z.testBit y then S (ph N y r) z else S (pl N y r) z:=by
 by_cases e:∃e,N r=some e∧e.v=y
 ·obtain⟨e,he,hv⟩:=e
  obtain⟨p1,p2⟩:=Kx he hv
  rw[p1,p2]
  have h1:=h.lo he
  have h2:=h.hi he
  rw[hv,hy.2]at h1 h2
  exact⟨h1,h2,fun z=>by rw[hi.node he,hv]⟩
 ·have ho:∀e',N r=some e'→e'.v≠y:=fun e' h1 h2=>e ⟨e',h1,h2⟩
  obtain⟨p1,p2⟩:=Ky ho
  rw[p1,p2]
  have uV:l+1<dep n ah N r:=by
   rcases hr with hr|⟨e',he⟩
   ·rw[aT (h.const hr)]
    have:=hl.lt y hy.1;omega
   ·rw[av he]at hd⊢
    have h1:=ho e' he
    refine Nat.lt_of_le_of_ne hd fun e2=>h1 (hl.inj _ _ (h.var he) hy.1 (by omega))
  exact⟨⟨hr,uV⟩,⟨hr,uV⟩,fun z=>by split<;>rfl⟩
theorem WF.Lc(h:WF n ah N)(hl:jn n ah)(hi:Interp N S){y l a b:Nat}(hy:y<n∧ah y=l+1)(ha:live N a)(hb:live N b)(da:l<dep n ah N a)(db:l<dep n ah N b)
 (h1:pl N y a=pl N y b)(h2:ph N y a=ph N y b):a=b:=by
 refine h.same hl hi ha hb fun z=>?_
 rw[(h.half hl hi hy ha da).2.2 z,(h.half hl hi hy hb db).2.2 z,h1,h2]
structure Cx where
 r:Nat
 d:Nd
 sG:Nat
 sF:Nat
 pI:Nat
 pH:Nat
def jM(N:dJ)(x y r:Nat)(d:Nd):Prop:=N r=some d∧d.v=x∧((∃e,N d.lo=some e∧e.v=y)∨∃e,N d.hi=some e∧e.v=y)
def kW(N:dJ)(y r:Nat)(d:Nd):Cx:=⟨r,d,pl N y d.lo,ph N y d.lo,pl N y d.hi,ph N y d.hi⟩
structure DB(N:dJ)(x y:Nat)(l:List Cx):Prop where
 nd:(l.map Cx.r).Nodup
 mem:∀c,c∈l↔jM N x y c.r c.d∧c=kW N y c.r c.d
def keys(x:Nat)(c:Cx):List Nd:=[⟨x,c.sG,c.pI⟩,⟨x,c.sF,c.pH⟩]
structure Made(K:Kd)(x:Nat)(l:List Cx)(made:List Nd):Prop where
 nd:made.Nodup
 mem:∀k,k∈made↔(∃c∈l,k∈keys x c)∧K.T k=none∧k.lo≠k.hi
structure Nb(n:Nat)(ah:Nat→Nat)(x y l:Nat):Prop where
 xn:x<n
 yn:y<n
 lx:ah x=l
 ly:ah y=l+1
variable {x y l:Nat}
theorem Nb.ne(h:Nb n ah x y l):x≠y:=fun e=>by have h1:=h.lx;have h2:=h.ly;rw[e]at h1;omega
theorem Nb.yy(h:Nb n ah x y l):y<n∧ah y=l+1:=⟨h.yn,h.ly⟩
theorem je(h:WF n ah N)(hl:jn n ah)(hi:Interp N S)(hb:Nb n ah x y l){r:Nat}{d:Nd}(hd:N r=some d)(hx:d.v=x){k:Nd}(hk:k∈keys x (kW N y r d)):
  k.v=x∧(live N k.lo∧l+1<dep n ah N k.lo)∧(live N k.hi∧l+1<dep n ah N k.hi):=by
 have h1:=h.lo hd
 have h2:=h.hi hd
 rw[hx,hb.lx]at h1 h2
 have a:=h.half hl hi hb.yy h1.1 h1.2
 have b:=h.half hl hi hb.yy h2.1 h2.2
 simp only[keys,kW,List.mem_cons,List.not_mem_nil,or_false]at hk
 rcases hk with rfl|rfl
 ·exact⟨rfl,a.1,b.1⟩
 ·exact⟨rfl,a.2.1,b.2.1⟩
theorem q9(h:WF n ah N)(hl:jn n ah)(hi:Interp N S)(hb:Nb n ah x y l){r:Nat}{d:Nd}(hd:N r=some d)(hx:d.v=x)(z:Nat):
  S r z=if z.testBit y then ite S ⟨x,ph N y d.lo,ph N y d.hi⟩ z else ite S ⟨x,pl N y d.lo,pl N y d.hi⟩ z:=by
 have h1:=h.lo hd
 have h2:=h.hi hd
 rw[hx,hb.lx]at h1 h2
 have a:=(h.half hl hi hb.yy h1.1 h1.2).2.2 z
 have b:=(h.half hl hi hb.yy h2.1 h2.2).2.2 z
 rw[hi.node hd,hx,a,b]
 unfold ite
 simp only
 cases z.testBit x<;>cases z.testBit y<;>rfl
theorem gv(h:WF n ah N)(hl:jn n ah)(hi:Interp N S)(hb:Nb n ah x y l){k:Nd}(hk:k.v=x)(h1:live N k.lo∧l+1<dep n ah N k.lo)(h2:live N k.hi∧l+1<dep n ah N k.hi)(z:Nat)(b:Bool):
  ite S k (aI z x b)=S (if b then k.hi else k.lo) z:=by
 unfold ite
 rw[hk,ay,if_pos rfl]
 cases b
 ·simp only[Bool.false_eq_true,if_false];exact h.bO hl hi h1.1 hb.xn (by rw[hb.lx];omega) z false
 ·simp only[if_true];exact h.bO hl hi h2.1 hb.xn (by rw[hb.lx];omega) z true
theorem gC(h:WF n ah N)(hl:jn n ah)(hi:Interp N S)(hb:Nb n ah x y l){k:Nd}(hk:k.v=x)(h1:live N k.lo∧l+1<dep n ah N k.lo)(h2:live N k.hi∧l+1<dep n ah N k.hi){u:Nat}(hu:u<n)(Ek:ah u≤l+1)(hne:u≠x)(z:Nat)(b:Bool):
  ite S k (aI z u b)=ite S k z:=by
 unfold ite
 rw[hk,ay,if_neg (Ne.symm hne),h.bO hl hi h1.1 hu (by omega),h.bO hl hi h2.1 hu (by omega)]
theorem mO(h:WF n ah N)(hl:jn n ah)(hi:Interp N S){r:Nat}{d:Nd}(hd:N r=some d):∃z,S r (aI z d.v false)≠S r (aI z d.v true):=by
 refine Classical.byContradiction fun hno=>h.ne hd (h.same hl hi (h.lo hd).1 (h.hi hd).1 fun z=>?_)
 have c1:=h.child hl hi hd z false
 have c2:=h.child hl hi hd z true
 simp only[Bool.false_eq_true,if_false,if_true]at c1 c2
 rw[←c1,←c2]
 exact Classical.byContradiction fun hne=>hno ⟨z,hne⟩
theorem Hh(h:WF n ah N)(hl:jn n ah)(hi:Interp N S)(hb:Nb n ah x y l){k:Nd}(hk:k.v=x)(hne:k.lo≠k.hi)(h1:live N k.lo∧l+1<dep n ah N k.lo)(h2:live N k.hi∧l+1<dep n ah N k.hi)
 {r:Nat}{d:Nd}(hd:N r=some d)(he:ite S k=S r):d=k:=by
 have hv:=h.var hd
 have hvx:d.v=x:=by
  rcases Nat.lt_trichotomy (ah d.v) l with hlt|heq|hgt
  ·obtain⟨z,hz⟩:=mO h hl hi hd
   have Sd:d.v≠x:=fun e=>by rw[e,hb.lx]at hlt;omega
   rw[←he,gC h hl hi hb hk h1 h2 hv (by omega) Sd,gC h hl hi hb hk h1 h2 hv (by omega) Sd]at hz
   exact absurd rfl hz
  ·exact hl.inj _ _ hv hb.xn (by rw[hb.lx];exact heq)
  ·refine absurd (h.same hl hi h1.1 h2.1 fun z=>?_) hne
   have c1:=gv h hl hi hb hk h1 h2 z false
   have c2:=gv h hl hi hb hk h1 h2 z true
   simp only[Bool.false_eq_true,if_false,if_true]at c1 c2
   have hdp:ah x<dep n ah N r:=by rw[av hd,hb.lx];exact hgt
   rw[←c1,←c2,he,h.bO hl hi (.inr ⟨d,hd⟩) hb.xn hdp,h.bO hl hi (.inr ⟨d,hd⟩) hb.xn hdp]
 have c:∀(b:Bool) z,S (if b then k.hi else k.lo) z=S (if b then d.hi else d.lo) z:=fun(b:Bool) z=>by
  rw[←gv h hl hi hb hk h1 h2 z b,he,←hvx,h.child hl hi hd z b]
 have e1:=h.same hl hi h1.1 (h.lo hd).1 (fun z=>by simpa using c false z)
 have e2:=h.same hl hi h2.1 (h.hi hd).1 (fun z=>by simpa using c true z)
 cases d;cases k;simp_all
theorem KT(h:WF n ah N)(hl:jn n ah)(hi:Interp N S)(hb:Nb n ah x y l){k k':Nd}(hk:k.v=x)(hk':k'.v=x)(h1:live N k.lo∧l+1<dep n ah N k.lo)(h2:live N k.hi∧l+1<dep n ah N k.hi)
 (wY:live N k'.lo∧l+1<dep n ah N k'.lo)(kQ:live N k'.hi∧l+1<dep n ah N k'.hi)(he:ite S k=ite S k'):k=k':=by
 have c:∀(b:Bool) z,S (if b then k.hi else k.lo) z=S (if b then k'.hi else k'.lo) z:=fun(b:Bool) z=>by
  rw[←gv h hl hi hb hk h1 h2 z b,he,gv h hl hi hb hk' wY kQ z b]
 have e1:=h.same hl hi h1.1 wY.1 (fun z=>by simpa using c false z)
 have e2:=h.same hl hi h2.1 kQ.1 (fun z=>by simpa using c true z)
 cases k;cases k';simp_all
def fy(ord:List Nat)(l:Nat):List Nat:=(ord.set l (ord.getD (l+1) 0)).set (l+1) (ord.getD l 0)
theorem lC(ord:List Nat)(l:Nat):(fy ord l).length=ord.length:=by simp[fy]
theorem ez{i:Nat}(hl:l+1<ord.length):(fy ord l).getD i 0=if i=l then ord.getD (l+1) 0 else if i=l+1 then ord.getD l 0 else ord.getD i 0:=by
 unfold fy
 rw[List.getD_eq_getElem?_getD,List.getElem?_set,List.getElem?_set]
 by_cases e1:l+1=i
 ·subst e1
  rw[if_pos rfl,if_pos (by simp;omega),if_neg (by omega),if_pos rfl];rfl
 ·rw[if_neg e1]
  by_cases e2:l=i
  ·subst e2;rw[if_pos rfl,if_pos (by omega),if_pos rfl];rfl
  ·rw[if_neg e2,if_neg (fun e=>e2 e.symm),if_neg (fun e=>e1 e.symm),←List.getD_eq_getElem?_getD]
def pA(ah:Nat→Nat)(x y l:Nat):Nat→Nat:=fun v=>if v=x then l+1 else if v=y then l else ah v
theorem Ko(hl:jn n ah)(hb:Nb n ah x y l):jn n (pA ah x y l):=by
 have Oz:=hl.lt y hb.yn
 rw[hb.ly]at Oz
 have key:∀v,v<n→v≠x→v≠y→ah v≠l∧ah v≠l+1:=fun v hv h1 h2=>⟨fun e=>h1 (hl.inj _ _ hv hb.xn (by rw[hb.lx];exact e)),fun e=>h2 (hl.inj _ _ hv hb.yn (by rw[hb.ly];exact e))⟩
 refine⟨fun v hv=>?_,fun u v hu hv he=>?_⟩
 ·unfold pA
  split
  ·exact Oz
  ·split
   ·omega
   ·exact hl.lt v hv
 ·unfold pA at he
  by_cases u1:u=x
  ·by_cases v1:v=x
   ·rw[u1,v1]
   ·rw[if_pos u1,if_neg v1]at he
    by_cases v2:v=y
    ·rw[if_pos v2]at he;omega
    ·rw[if_neg v2]at he;exact absurd he.symm (key v hv v1 v2).2
  ·rw[if_neg u1]at he
   by_cases u2:u=y
   ·rw[if_pos u2]at he
    by_cases v1:v=x
    ·rw[if_pos v1]at he;omega
    ·rw[if_neg v1]at he
     by_cases v2:v=y
     ·rw[u2,v2]
     ·rw[if_neg v2]at he;exact absurd he.symm (key v hv v1 v2).1
   ·rw[if_neg u2]at he
    by_cases v1:v=x
    ·rw[if_pos v1]at he;exact absurd he (key u hu u1 u2).2
    ·rw[if_neg v1]at he
     by_cases v2:v=y
     ·rw[if_pos v2]at he;exact absurd he (key u hu u1 u2).1
     ·rw[if_neg v2]at he;exact hl.inj _ _ hu hv he
theorem Ord.nb(ho:Ord n ah ord)(hl:l+1<n):Nb n ah (ord.getD l 0) (ord.getD (l+1) 0) l:=
 ⟨(ho.oS l (by omega)).1,(ho.oS (l+1) hl).1,(ho.oS l (by omega)).2,(ho.oS (l+1) hl).2⟩
theorem Kn(ho:Ord n ah ord)(hl:l+1<n):Ord n (pA ah (ord.getD l 0) (ord.getD (l+1) 0) l) (fy ord l):=by
 have hb:=ho.nb hl
 refine⟨by rw[lC,ho.len],fun i hi=>?_⟩
 rw[ez (by rw[ho.len];exact hl)]
 unfold pA
 by_cases e1:i=l
 ·subst e1;rw[if_pos rfl];refine⟨hb.yn,?_⟩;rw[if_neg (Ne.symm hb.ne),if_pos rfl]
 ·rw[if_neg e1]
  by_cases e2:i=l+1
  ·subst e2;rw[if_pos rfl];refine⟨hb.xn,?_⟩;rw[if_pos rfl]
  ·rw[if_neg e2]
   obtain⟨h1,h2⟩:=ho.oS i hi
   refine⟨h1,?_⟩
   rw[if_neg,if_neg]
   ·exact h2
   ·intro e;rw[e,hb.ly]at h2;omega
   ·intro e;rw[e,hb.lx]at h2;omega
variable {F:Fn→Prop}
theorem zc(hl:l+1<ord.length)(hne:ord.getD l 0≠ord.getD (l+1) 0):∀m,m≠l+1→∀g,fs (fy ord l) F m g↔fs ord F m g
 |0,_,g=>Iff.rfl
 |m+1,hm,g=>by
  by_cases e:m=l+1
  ·subst e
   have g1:(fy ord l).getD (l+1) 0=ord.getD l 0:=by rw[ez hl,if_neg (by omega),if_pos rfl]
   have g2:(fy ord l).getD l 0=ord.getD (l+1) 0:=by rw[ez hl,if_pos rfl]
   have ih:=zc hl hne l (by omega)
   constructor
   ·rintro⟨f,⟨f',h,b,rfl⟩,b',rfl⟩
    refine⟨_,⟨f',(ih f').1 h,b',rfl⟩,b,?_⟩
    funext z
    rw[g1,g2]
    show f' _=f' _
    rw[dw hne]
   ·rintro⟨f,⟨f',h,b,rfl⟩,b',rfl⟩
    refine⟨_,⟨f',(ih f').2 h,b',rfl⟩,b,?_⟩
    funext z
    rw[g1,g2]
    show f' _=f' _
    rw[dw (Ne.symm hne)]
  ·have ih:=zc hl hne m e
   have hg:(fy ord l).getD m 0=ord.getD m 0:=by rw[ez hl,if_neg (by omega),if_neg e]
   constructor
   ·rintro⟨f,h,b,rfl⟩;exact⟨f,(ih f).1 h,b,by rw[hg]⟩
   ·rintro⟨f,h,b,rfl⟩;exact⟨f,(ih f).2 h,b,by rw[hg]⟩
theorem Gv(h:Ok K S ah)(ho:Ord K.n ah ord)(HD:l+1<K.n){all:List Cx}(hc:DB K.N (ord.getD l 0) (ord.getD (l+1) 0) all){made:List Nd}(hm:Made K (ord.getD l 0) all made):
  oV (fun g=>aM K.n ord (K.held S) g∨aM K.n (fy ord l) (K.held S) g) (K.used-2+made.length):=by
 have hb:=ho.nb HD
 have hlen:l+1<ord.length:=by rw[ho.len];exact HD
 have hw:=h.wf
 have hlv:=h.lv
 have hi:=h.mid.int
 have hR:∀r,K.hold r≠0→live K.N r:=fun r hr=>.inr (h.mid.held r hr)
 generalize hx:ord.getD l 0=x at*
 generalize hy:ord.getD (l+1) 0=y at*
 have jK:∀k∈made,k.v=x∧(live K.N k.lo∧l+1<dep K.n ah K.N k.lo)∧(live K.N k.hi∧l+1<dep K.n ah K.N k.hi):=fun k hk=>by
  obtain⟨⟨c,CQ,hkc⟩,_⟩:=(hm.mem k).1 hk
  obtain⟨⟨hd,HP,_⟩,e⟩:=(hc.mem c).1 CQ
  rw[e]at hkc
  exact je hw hlv hi hb hd HP hkc
 obtain⟨dom,d1,d2,d3⟩:=h.dom
 have c1:=tM hw hlv hi d1 d3
 rw[show dom.length=K.used-2 by omega]at c1
 have c2:oV (fun g=>∃k∈made,g=ite S k) made.length:=by
  refine⟨made.map (ite S),?_,by simp,fun g=>?_⟩
  ·refine List.pairwise_map.2 (hm.nd.imp_of_mem fun{a b} ha hb' hne heq=>hne ?_)
   obtain⟨a1,a2,a3⟩:=jK a ha
   obtain⟨b1,b2,b3⟩:=jK b hb'
   exact KT hw hlv hi hb a1 b1 a2 a3 b2 b3 heq
  ·rw[List.mem_map]
   constructor
   ·rintro⟨k,hk,rfl⟩;exact⟨k,hk,rfl⟩
   ·rintro⟨k,hk,rfl⟩;exact⟨k,hk,rfl⟩
 refine(c1.or c2 ?_).congr fun g=>?_
 ·rintro g ⟨r,d,hd,rfl⟩ ⟨k,hk,he⟩
  obtain⟨a1,a2,a3⟩:=jK k hk
  obtain⟨_,hT,hne⟩:=(hm.mem k).1 hk
  have:=Hh hw hlv hi hb a1 hne a2 a3 hd he.symm
  subst this
  rw[(h.mid.iD d r).2 ⟨hd,fun x=>x⟩]at hT;cases hT
 ·have Xp:=kG hw hlv ho hi hR h.reach
  have mr:=fun m (hmn:m≤K.n) g=>Lz hw hlv ho hi hR m hmn g
  have hne:ord.getD l 0≠ord.getD (l+1) 0:=by rw[hx,hy];exact hb.ne
  have Qr:=zc (F:=K.held S) hlen hne
  have gl:(fy ord l).getD l 0=y:=by rw[ez hlen,if_pos rfl,hy]
  have gl1:(fy ord l).getD (l+1) 0=x:=by rw[ez hlen,if_neg (by omega),if_pos rfl,hx]
  have go:∀m,m≠l→m≠l+1→(fy ord l).getD m 0=ord.getD m 0:=fun m h1 h2=>by rw[ez hlen,if_neg h1,if_neg h2]
  constructor
  ·rintro(⟨r,d,hd,rfl⟩|⟨k,hk,rfl⟩)
   ·exact .inl ((Xp _).2 ⟨r,d,hd,rfl⟩)
   ·obtain⟨a1,a2,a3⟩:=jK k hk
    obtain⟨⟨c,CQ,hkc⟩,hT,OU⟩:=(hm.mem k).1 hk
    obtain⟨⟨hd,HP,_⟩,e⟩:=(hc.mem c).1 CQ
    refine .inr ⟨l+1,HD,?_,?_⟩
    ·have hA:=Nl hw h.reach _ c.r c.d hd (Nat.le_refl _)
     rw[HP,hb.lx]at hA
     refine⟨S c.r,(Qr l (by omega) _).2 ((mr l (by omega) _).2 ⟨c.r,hA,rfl⟩),?_⟩
     have K8:=q9 hw hlv hi hb hd HP
     rw[e]at hkc
     simp only[keys,kW,List.mem_cons,List.not_mem_nil,or_false]at hkc
     rw[gl]
     rcases hkc with rfl|rfl
     ·refine⟨false,?_⟩
      funext z
      rw[K8,ay,if_pos rfl,if_neg (by simp),gC hw hlv hi hb rfl a2 a3 hb.yn (by rw[hb.ly];exact Nat.le_refl _) (Ne.symm hb.ne)]
     ·refine⟨true,?_⟩
      funext z
      rw[K8,ay,if_pos rfl,if_pos rfl,gC hw hlv hi hb rfl a2 a3 hb.yn (by rw[hb.ly];exact Nat.le_refl _) (Ne.symm hb.ne)]
    ·rw[gl1]
     refine Classical.byContradiction fun hno=>OU (hw.same hlv hi a2.1 a3.1 fun z=>?_)
     have c1:=gv hw hlv hi hb a1 a2 a3 z false
     have c2:=gv hw hlv hi hb a1 a2 a3 z true
     simp only[Bool.false_eq_true,if_false,if_true]at c1 c2
     rw[←c1,←c2]
     exact Classical.byContradiction fun hne=>hno ⟨z,hne⟩
  ·rintro(hg|⟨m,hmn,hf,hh⟩)
   ·exact .inl ((Xp g).1 hg)
   ·by_cases e1:m=l+1
    ·subst e1
     rw[gl1]at hh
     obtain⟨f,hf,b,rfl⟩:=hf
     rw[gl]at hh⊢
     obtain⟨r,hA,rfl⟩:=(mr l (by omega) f).1 ((Qr l (by omega) f).1 hf)
     obtain⟨hlr,hle⟩:=oW hw hR l r hA
     have hgt:dep K.n ah K.N r=l:=by
      refine Nat.le_antisymm (Nat.le_of_not_lt fun hlt=>?_) hle
      obtain⟨z,hz⟩:=hh
      refine hz ?_
      show S r (aI (aI z x false) y b)=S r (aI (aI z x true) y b)
      rw[dw hb.ne,dw hb.ne,hw.bO hlv hi hlr hb.xn (by rw[hb.lx];exact hlt),hw.bO hlv hi hlr hb.xn (by rw[hb.lx];exact hlt)]
     rcases hlr with Eu|⟨d,hd⟩
     ·rw[aT (hw.const Eu)]at hgt;omega
     ·rw[av hd]at hgt
      have HP:d.v=x:=hlv.inj _ _ (hw.var hd) hb.xn (by rw[hb.lx];exact hgt)
      have K8:=q9 hw hlv hi hb hd HP
      have hkk:∃k∈keys x (kW K.N y r d),(fun z=>S r (aI z y b))=ite S k:=by
       cases b
       ·refine⟨_,List.mem_cons_self,?_⟩
        obtain⟨a1,a2,a3⟩:=je hw hlv hi hb hd HP (k:=⟨x,pl K.N y d.lo,pl K.N y d.hi⟩) List.mem_cons_self
        funext z
        rw[K8,ay,if_pos rfl,if_neg (by simp),gC hw hlv hi hb rfl a2 a3 hb.yn (by rw[hb.ly];exact Nat.le_refl _) (Ne.symm hb.ne)];rfl
       ·refine⟨_,List.mem_cons_of_mem _ List.mem_cons_self,?_⟩
        obtain⟨a1,a2,a3⟩:=je hw hlv hi hb hd HP (k:=⟨x,ph K.N y d.lo,ph K.N y d.hi⟩) (List.mem_cons_of_mem _ List.mem_cons_self)
        funext z
        rw[K8,ay,if_pos rfl,if_pos rfl,gC hw hlv hi hb rfl a2 a3 hb.yn (by rw[hb.ly];exact Nat.le_refl _) (Ne.symm hb.ne)];rfl
      obtain⟨k,hkm,hke⟩:=hkk
      obtain⟨a1,a2,a3⟩:=je hw hlv hi hb hd HP hkm
      rw[hke]at hh⊢
      have OU:k.lo≠k.hi:=fun e=>by
       obtain⟨z,hz⟩:=hh
       have c1:=gv hw hlv hi hb a1 a2 a3 z false
       have c2:=gv hw hlv hi hb a1 a2 a3 z true
       simp only[Bool.false_eq_true,if_false,if_true]at c1 c2
       rw[c1,c2,e]at hz;exact hz rfl
      cases hT:K.T k with
      |some s=>
       have hs:=((h.mid.iD k s).1 hT).1
       refine .inl ⟨s,k,hs,?_⟩
       funext z
       exact(hi.node hs z).symm
      |none=>
       by_cases O9:jM K.N x y r d
       ·exact .inr ⟨k,(hm.mem k).2 ⟨⟨kW K.N y r d,(hc.mem _).2 ⟨O9,rfl⟩,hkm⟩,hT,OU⟩,rfl⟩
       ·have hno:∀t,t=d.lo∨t=d.hi→pl K.N y t=t∧ph K.N y t=t:=fun t ht=>Ky fun e he hv=>O9 ⟨hd,HP,by
         rcases ht with rfl|rfl
         ·exact .inl ⟨e,he,hv⟩
         ·exact .inr ⟨e,he,hv⟩⟩
        have e1:=hno d.lo (.inl rfl)
        have e2:=hno d.hi (.inr rfl)
        have:k=d:=by
         simp only[keys,kW,e1.1,e1.2,e2.1,e2.2,List.mem_cons,List.not_mem_nil,or_false,or_self]at hkm
         rw[hkm,←HP]
        rw[this,(h.mid.iD d r).2 ⟨hd,fun x=>x⟩]at hT;cases hT
    ·by_cases e2:m=l
     ·subst e2
      rw[gl]at hh
      obtain⟨r,hA,rfl⟩:=(mr m (by omega) g).1 ((Qr m e1 g).1 hf)
      obtain⟨hlr,hle⟩:=oW hw hR m r hA
      rcases hlr with Eu|⟨d,hd⟩
      ·obtain⟨z,hz⟩:=hh
       have:∀z,S r z=S r 0:=fun z=>by
        have:r=0∨r=1:=by omega
        rcases this with rfl|rfl
        ·rw[hi.zero,hi.zero]
        ·rw[hi.one,hi.one]
       rw[this (aI z y false),this (aI z y true)]at hz
       exact absurd rfl hz
      ·exact .inl ⟨r,d,hd,rfl⟩
     ·refine .inl ((Xp g).1 ⟨m,hmn,(Qr m e1 g).1 hf,?_⟩)
      rw[go m e2 e1]at hh;exact hh
end aE
