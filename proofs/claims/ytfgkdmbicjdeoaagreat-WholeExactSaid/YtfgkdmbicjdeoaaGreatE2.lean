import Derived.Test.YtfgkdmbicjdeoaaGreatE1
import Derived.ChangeKeysEq
import Derived.Laws.StructEq
import Derived.Defers
import Derived.Test.YtfgkdmbicjdeoaaGreatProg
set_option linter.unusedVariables false
set_option linter.unusedSimpArgs false
set_option linter.unusedSectionVars false
namespace Go.Sx
open Go
section
variable {P:Program} {g:Gh} {H:Hp}
theorem aR.apps{elem k bytes:Nat}{zero:Value}{v:Value}{rs:List (List Value)}{C A B:Hp}(h:aR elem k v rs C){xa:Option Addr}{xc:Nat}{r2:List (List Value)}
 (hx:Cells (A++(C++B)) xa (r2.length*k) (rows r2))(hr:∀r∈r2,r.length=k)(h1:∀r∈r2,∀u∈r,u.oneCell'=true)(hz:∃z:List Value,zero.cells=z.toArray∧z.length=k)
 (hb:(rs.length+r2.length)*bytes≤140737488355328)(bQ:rs.length+r2.length≤9223372036854775807){K:Value→Hp→Prop}
 (hk:∀v' C',aR elem k v' (rs++r2) C'→K v' (A++(C'++B))):App P elem k bytes zero (A++(C++B)) v (.slice xa r2.length xc) K:=by
 obtain⟨z,Qq,Fx⟩:=hz
 have hnone:∀u∈(rows r2).toList,u.oneCell'=true:=by
  intro u hu
  simp only[rows,List.mem_flatten]at hu
  obtain⟨r,h2,h3⟩:=hu
  exact h1 r h2 u h3
 rcases h with⟨rfl,rfl,rfl⟩|⟨b,bO,rfl,rfl,aK⟩
 ·refine⟨none,0,0,xa,r2.length,xc,#[],rows r2,rfl,rfl,rfl,hx,bE hr,by simp,hnone,fun h=>?_,fun _=>⟨by simpa using hb,by simpa using bQ,fun fy hn b hbf=>?_⟩⟩
  ·have:r2=[]:=List.eq_nil_of_length_eq_zero (by omega)
   subst this
   exact hk _ [] (.inl ⟨rfl,rfl,rfl⟩)
  ·rw[show(#[]:Array Value)++rows r2++Builtin.zeroCells zero.cells (fy-(0+r2.length))=rows ([]++r2++List.replicate (fy-r2.length) z)by rw[Qq,oT z Fx];simp only[Nat.zero_add,Array.empty_append,List.nil_append];rw[dI]]
   refine⟨_,aQ.Qb [(b,_)] A B,hk _ [(b,_)] (.inr ⟨b,List.replicate (fy-r2.length) z,?_,rfl,?_⟩)⟩
   ·simp;omega
   ·intro x hx
    rcases List.mem_append.1 hx with hx|hx
    ·exact hr x hx
    ·rw[List.eq_of_mem_replicate hx,Fx]
 ·have hsz:=bE aK
  have nU:∀x∈rs,x.length=k:=fun x hx=>aK x (by simp[hx])
  have hold:rows rs=(rows (rs++bO)).extract 0 (0+rs.length*k):=by
   rw[←dI]
   apply Array.ext'
   have:=bE nU
   have h2:(rows rs).toList.length=rs.length*k:=by rw[Array.length_toList];exact this
   rw[Array.toList_extract,Array.toList_append,List.extract_eq_take_drop,List.drop_zero,Nat.zero_add,Nat.sub_zero,←h2,List.take_left]
  refine⟨some ⟨b,0,none⟩,rs.length,rs.length+bO.length,xa,r2.length,xc,rows rs,rows r2,rfl,rfl,.inr ⟨rfl,_,elem,(0,0),by simp,?_,hold⟩,hx,bE hr,bE nU,hnone,fun hfit=>?_,fun hgrow=>⟨hb,by omega,fun fy hn b' hbf=>?_⟩⟩
  ·rw[hsz];simp only[List.length_append,Nat.zero_add];exact Nat.mul_le_mul_right _ (by omega)
  ·obtain⟨j1,j2,rfl,hj⟩:∃j1 j2,bO=j1++j2∧j1.length=r2.length:=⟨bO.take r2.length,bO.drop r2.length,(List.take_append_drop _ _).symm,by rw[List.length_take];omega⟩
   have Wp:∀x∈j1,x.length=k:=fun x hx=>aK x (by simp[hx])
   refine⟨_,elem,_,rfl,?_,((dR.head _).append B).dK A,hk _ [(b,_)] (.inr ⟨b,j2,?_,?_,?_⟩)⟩
   ·rw[hsz,List.length_append,List.length_append,hj,Nat.add_mul,Nat.add_mul]
    show 0+rs.length*k+r2.length*k≤_
    omega
   ·simp;omega
   ·have e:(⟨b,0,none⟩:Addr).off+rs.length*k=rs.length*k:=by simp
    have l1:=cQ rs nU
    have l2:=cQ j1 Wp
    have l3:=cQ r2 hr
    have e2:iU (rows (rs++(j1++j2))) (rs.length*k) (rows r2).toList=rows (rs++r2++j2):=by
     unfold rows
     rw[List.flatten_append,List.flatten_append,List.toList_toArray,o8 _ _ _ (by rw[List.length_append,List.length_append,l1,l2,l3,hj];omega)]
     congr 1
     rw[List.flatten_append,List.flatten_append,←l1,List.take_left,l3,←hj,←l2,List.drop_append,←List.append_assoc]
     simp[List.drop_append]
    rw[e,e2]
   ·intro x hx
    simp only[List.append_assoc,List.mem_append]at hx
    rcases hx with hx|hx|hx
    ·exact nU x hx
    ·exact hr x hx
    ·exact aK x (by simp[hx])
  ·refine⟨A++([(b',_)]++B),?_,hk _ [(b',_)] (.inr ⟨b',List.replicate (fy-(rs.length+r2.length)) z,?_,rfl,?_⟩)⟩
   ·rw[Qq,oT z Fx,dI,dI]
    exact fun g w h=>(aQ.U6 [[_],A,[_],B] [[_],A,[_],B] ((List.perm_append_comm (l₁:=[_,A]) (l₂:=[_])).append_right [B]|>.trans (.cons _ (.swap _ _ _))) g w h).tail
   ·simp;omega
   ·intro x hx
    rcases List.mem_append.1 hx with hx|hx
    ·rcases List.mem_append.1 hx with hx|hx
     ·exact nU x hx
     ·exact hr x hx
    ·rw[List.eq_of_mem_replicate hx,Fx]
def aN(T:TypeId)(kd:IntKind)(v:Value)(l:List Int)(C:Hp):Prop:=aR T 1 v (l.map fun n=>[Value.int kd n]) C
theorem aN.nil{T:TypeId}{kd:IntKind}:aN T kd (.slice none 0 0) [] []:=aR.nil _ _
theorem aN.bC{T:TypeId}{kd:IntKind}{v:Value}{l:List Int}{C:Hp}(h:aN T kd v l C){K:Value→Prop}(hk:K (.int .i64 l.length)):aY v K:=aR.bC h (by simpa using hk)
theorem aN.ints{T:TypeId}{kd:IntKind}{v:Value}{l:List Int}{C:Hp}(h:aN T kd v l C):cT kd C v l:=Sl.lj h (by decide)
theorem aN.app{T:TypeId}{kd:IntKind}{v:Value}{l:List Int}{C A B:Hp}{bytes:Nat}(h:aN T kd v l C){xb xc:Nat}{x:Int}{xT:TypeId}{fz:Nat×Nat}(hx:(xb,Obj.cells (ax kd [x]) xT fz)∈A++(C++B))
 (hb:(l.length+1)*bytes≤140737488355328)(hm:l.length+1≤9223372036854775807){K:Value→Hp→Prop}(hk:∀v' C',aN T kd v' (l++[x]) C'→K v' (A++(C'++B))):App P T 1 bytes (.int kd 0) (A++(C++B)) v (.slice (some ⟨xb,0,none⟩) 1 xc) K:=
 aR.Ih (r:=[.int kd x]) h hx rfl (by simp[Value.oneCell']) ⟨[.int kd 0],rfl,rfl⟩ (by simpa using hb) (by simpa using hm) fun v' C' ho=>hk v' C' (by unfold aN;simpa using ho)
theorem aN.apps{T:TypeId}{kd:IntKind}{v x:Value}{l l2:List Int}{C A B:Hp}{bytes:Nat}(h:aN T kd v l C)(hx:cT kd (A++(C++B)) x l2)
 (hb:(l.length+l2.length)*bytes≤140737488355328)(hm:l.length+l2.length≤9223372036854775807){K:Value→Hp→Prop}(hk:∀v' C',aN T kd v' (l++l2) C'→K v' (A++(C'++B))):App P T 1 bytes (.int kd 0) (A++(C++B)) v x K:=by
 obtain⟨a,cap,rfl,hc⟩:=Sl.cells hx
 exact aR.apps h hc (by simp) (by simp[Value.oneCell']) ⟨[.int kd 0],rfl,rfl⟩ (by simpa using hb) (by simpa using hm) fun v' C' ho=>hk v' C' (by unfold aN;rw[List.map_append];exact ho)
theorem av.Vr{t e:Nat}{kd:IntKind}{x y z:Int}{K:Value→Hp→Prop}(h1:P.underlying t=some (.slice e))(h2:c6 P e=some 1)(h3:ew P e=some (.int kd 0))
 (h:∀b,K (.slice (some ⟨b,0,Option.none⟩) 3 3) ((b,.cells (ax kd [x,y,z]) e (0,0))::H)):av P t 3 [(0,.int kd x),(1,.int kd y),(2,.int kd z)] H K:=by
 refine⟨ax kd [x,y,z],e,1,_,h1,h2,h3,by decide,?_,fun b _=>h b⟩
 have e1:Array.range (3*1)=#[0,1,2]:=rfl
 simp[Instr.fill,Value.cells,ax,e1]
end
end Go.Sx
namespace Go.Sx
open Go
section
variable {P:Program}
theorem z6{e:TypeId}{i:TypeInfo}(hi:P.info? e=some i)(hs:i.size=1):P.cellsOf e=1:=by simp[Program.cellsOf,hi,hs]
theorem o7{e:TypeId}{q:IntKind}(hu:P.underlying e=some (.int q)){l:List Int}{j:Nat}{x:Int}(h:l[j]? =some x)(w:World):(part e (ax q l) j).run P w=.ok (.int q x) w:=by
 simp[part,isAgg,run_underlying hu,ax,h]
theorem pI{e:TypeId}{q:IntKind}(hu:P.underlying e=some (.int q))(hc:P.cellsOf e=1)(d:Nat)(l l':List Int)(w:World):∀is:List Nat,(∀i∈is,i<l.length∧i<l'.length)→
  (Op.eqItems (d+1) e (P.cellsOf e) (ax q l) (ax q l') is).run P w=.ok (is.all fun i=>l[i]? ==l'[i]?) w
 | [],_=>by simp[Op.eqItems]
 |i::is,h=>by
  obtain⟨h1,h2⟩:=h i (by simp)
  have g1:l[i]? =some l[i]:=List.getElem?_eq_getElem h1
  have g2:l'[i]? =some l'[i]:=List.getElem?_eq_getElem h2
  have p1:=o7 (P:=P) hu g1 w
  have p2:=o7 (P:=P) hu g2 w
  have p3:(Op.equalIn (d+1) e (.int q l[i]) (.int q l'[i])).run P w=.ok (l[i]==l'[i]) w:=by
   simp only[Op.equalIn,Sem.run_bind,run_underlying hu,Result.andThen_ok,if_true,Sem.run_pure]
  have ih:=pI hu hc d l l' w is fun j hj=>h j (by simp[hj])
  simp only[Op.eqItems,hc,Nat.mul_one,Sem.run_bind,p1,p2,p3,Result.andThen_ok]at ih⊢
  rw[List.all_cons,g1,g2]
  cases hb:(l[i]==l'[i])
  ·simp[hb]
  ·simp[hb,ih]
theorem xZ.array{t e:TypeId}{q:IntKind}{n:Nat}(ht:P.underlying t=some (.array n e))(hu:P.underlying e=some (.int q))(hz:c6 P e=some 1)(l l':List Int)(h1:l.length=n)(h2:l'.length=n):
  xZ P t (.agg (ax q l)) (.agg (ax q l')) (decide (l=l')):=by
 obtain⟨i,hi,hs⟩:=bg hz
 have hc:=z6 hi hs
 intro w
 show(Op.equalIn (9998+1+1) t _ _).run P w=_
 rw[run_equalIn_array w (9998+1) _ _ ht hi,pI hu hc 9998 l l' w _ (fun j hj=>by have:=List.mem_range.1 hj;omega)]
 congr 1
 rw[Bool.eq_iff_iff]
 simp only[List.all_eq_true,List.mem_range,decide_eq_true_eq,beq_iff_eq]
 constructor
 ·intro h
  apply List.ext_getElem?
  intro j
  by_cases hj:j<n
  ·exact h j hj
  ·rw[List.getElem?_eq_none (by omega),List.getElem?_eq_none (by omega)]
 ·rintro rfl j _;rfl
theorem kA.array{t e:TypeId}{q:IntKind}{n:Nat}(ht:P.underlying t=some (.array n e))(hu:P.underlying e=some (.int q))(hz:c6 P e=some 1)(l:List Int)(h1:l.length=n):kA P t (.agg (ax q l)):=by
 obtain⟨i,hi,hs⟩:=bg hz
 intro b w
 have gen:∀d,(Instr.checkKey b (d+1+1) t (.agg (ax q l))).run P w=.ok () w:=by
  intro d
  have p2:∀x:Int,(Instr.checkKey b (d+1) e (.int q x)).run P w=.ok () w:=fun x=>by
   simp only[Instr.checkKey,Sem.run_bind,run_underlying hu,Result.andThen_ok,Sem.run_pure]
  unfold Instr.checkKey
  simp only[Sem.run_bind,run_underlying ht,Result.andThen_ok]
  simp only[Std.Legacy.Range.forIn_eq_forIn_range',Std.Legacy.Range.size,Nat.sub_zero,Nat.add_one_sub_one,Nat.div_one]
  have key:∀is:List Nat,(∀j∈is,j<l.length)→(forIn is PUnit.unit fun j (_:PUnit)=>(do
     Instr.checkKey b (d+1) e (←part e (ax q l) (j*(←sizeOf e)))
     pure (ForInStep.yield PUnit.unit):Sem (ForInStep PUnit))).run P w=.ok PUnit.unit w:=by
   intro is
   induction is with
   |nil=>intro _;simp
   |cons j is ih=>
    intro h
    have p1:=o7 (P:=P) hu (List.getElem?_eq_getElem (h j (by simp))) w
    simp only[List.forIn_cons,Sem.run_bind,run_sizeOf hi,Result.andThen_ok,hs,Nat.mul_one,p1,p2,Sem.run_pure]
    exact ih fun k hk=>h k (by simp[hk])
  have:=key (List.range' 0 n) (fun j hj=>by have:=List.mem_range'_1.1 hj;omega)
  rw[this];rfl
 exact gen 9998
theorem Build.two{t e:TypeId}{q:IntKind}{x y:Int}{K:Value→Prop}(ht:P.underlying t=some (.array 2 e))(hz:c6 P e=some 1)(h0:ew P t=some (.agg (ax q [0,0])))(h:K (.agg (ax q [x,y]))):
  Build P t [(0,.int q x),(1,.int q y)] K:=by
 refine⟨_,fun w=>?_,h⟩
 obtain⟨i,hi,hs⟩:=bg hz
 obtain⟨i0,OS,Hv⟩:=cu h0
 simp only[Instr.build,Sem.run_bind,dB OS Hv,Result.andThen_ok,run_underlying ht,run_sizeOf hi,hs]
 simp[Instr.fill,Value.cells,ax]
end
end Go.Sx
namespace Go.Sx
open Go
section
variable {P:Program} {g:Gh} {H:Hp}
def tO(P:Program)(t:TypeId)(x y:Value):Prop:=
 (∃q a b,P.underlying t=some (.int q)∧x=.int q a∧y=.int q b)∨(∃a b,P.underlying t=some .bool∧x=.bool a∧y=.bool b)
theorem tO.eq{t:TypeId}{x y:Value}(h:tO P t x y)(d:Nat)(w:World):∃b,(Op.equalIn (d+1) t x y).run P w=.ok b w∧(b=true↔x=y):=by
 rcases h with⟨q,a,b,hu,rfl,rfl⟩|⟨a,b,hu,rfl,rfl⟩
 ·exact⟨a==b,by simp[Op.equalIn,run_underlying hu],by simp⟩
 ·exact⟨a==b,by simp[Op.equalIn,run_underlying hu],by simp⟩
theorem ou{t:TypeId}{xs:Array Value}{o:Nat}{x:Value}(hu:(∃q,P.underlying t=some (.int q))∨P.underlying t=some .bool)(h:xs[o]? =some x)(w:World):(part t xs o).run P w=.ok x w:=by
 rcases hu with⟨q,hu⟩|hu<;>simp[part,isAgg,run_underlying hu,h]
theorem nX(d:Nat)(xs ys:Array Value)(w:World):∀fs:List Field,(∀f∈fs,f.name≠ "_" ∧∃x y,xs[f.offset]? =some x∧ys[f.offset]? =some y∧tO P f.type x y)→
  ∃b,(Op.eqFields (d+1) xs ys fs).run P w=.ok b w∧(b=true↔∀f∈fs,xs[f.offset]? =ys[f.offset]?)
 | [],_=>⟨true,by simp[Op.eqFields],by simp⟩
 |f::fs,h=>by
  obtain⟨hn,x,y,hx,hy,hp⟩:=h f (by simp)
  obtain⟨b',ih,hb'⟩:=nX d xs ys w fs fun g hg=>h g (by simp[hg])
  have hu:(∃q,P.underlying f.type=some (.int q))∨P.underlying f.type=some .bool:=by
   rcases hp with⟨q,_,_,hu,_⟩|⟨_,_,hu,_⟩
   ·exact .inl ⟨q,hu⟩
   ·exact .inr hu
  obtain⟨b,hr,hb⟩:=hp.eq d w
  have p1:=ou hu hx w
  have p2:=ou hu hy w
  cases b with
  |false=>
   refine⟨false,by simp[Op.eqFields,hn,p1,p2,hr],?_⟩
   simp only[Bool.false_eq_true,List.mem_cons,forall_eq_or_imp,false_iff,hx,hy,Option.some.injEq]
   exact fun hh=>absurd (hb.2 hh.1) (by decide)
  |true=>
   refine⟨b',by simp[Op.eqFields,hn,p1,p2,hr,ih],?_⟩
   rw[hb']
   simp only[List.mem_cons,forall_eq_or_imp,hx,hy,Option.some.injEq,hb.1 rfl,true_and]
theorem xZ.flat{t:TypeId}{fs:Array Field}(ht:P.underlying t=some (.struct fs))(hp:P.stoodInHeld t=false){xs ys:Array Value}{p:Prop}[Decidable p]
 (h:∀f∈fs.toList,f.name≠ "_" ∧∃x y,xs[f.offset]? =some x∧ys[f.offset]? =some y∧tO P f.type x y)(he:(∀f∈fs.toList,xs[f.offset]? =ys[f.offset]?)↔p):xZ P t (.agg xs) (.agg ys) (decide p):=by
 have e:P.fieldsOf t=fs:=by simp[Program.fieldsOf,ht]
 intro w
 show(Op.equalIn (9998+1+1) t _ _).run P w=_
 rw[run_equalIn_struct w (9998+1) t xs ys (by rw[e];exact ht) hp,e]
 obtain⟨b,hr,hb⟩:=nX (P:=P) 9998 xs ys w fs.toList h
 rw[hr]
 congr 1
 rw[Bool.eq_iff_iff,hb,he,decide_eq_true_eq]
theorem kA.flat{t:TypeId}{fs:Array Field}(ht:P.underlying t=some (.struct fs)){xs:Array Value}
 (h:∀f∈fs.toList,f.name≠ "_" ∧∃x,xs[f.offset]? =some x∧tO P f.type x x):kA P t (.agg xs):=by
 intro b w
 have gen:∀d,(Instr.checkKey b (d+1+1) t (.agg xs)).run P w=.ok () w:=by
  intro d
  unfold Instr.checkKey
  simp only[Sem.run_bind,run_underlying ht,Result.andThen_ok]
  rw[←Array.forIn_toList]
  clear ht
  generalize fs.toList=l at h
  induction l with
  |nil=>simp
  |cons f l ih=>
   obtain⟨hn,x,hx,hp⟩:=h f (by simp)
   have hu:(∃q,P.underlying f.type=some (.int q))∨P.underlying f.type=some .bool:=by
    rcases hp with⟨q,_,_,hu,_⟩|⟨_,_,hu,_⟩
    ·exact .inl ⟨q,hu⟩
    ·exact .inr hu
   have p1:=ou hu hx w
   have p2:(Instr.checkKey b (d+1) f.type x).run P w=.ok () w:=by
    rcases hp with⟨q,a,_,hu,rfl,_⟩|⟨a,_,hu,rfl,_⟩
    ·simp only[Instr.checkKey,Sem.run_bind,run_underlying hu,Result.andThen_ok,Sem.run_pure]
    ·simp only[Instr.checkKey,Sem.run_bind,run_underlying hu,Result.andThen_ok,Sem.run_pure]
   have:=ih fun g hg=>h g (by simp[hg])
   simp only[List.forIn_cons,Sem.run_bind]
   simp[hn,p1,p2]
   simpa using this
 exact gen 9998
theorem jB(n:Nat){xs:Array Value}(h:∀x∈xs.toList,(∃q a,x=.int q a)∨∃a,x=.bool a):Instr.sameBits (n+1+1) (.agg xs) (.agg xs)=true:=by
 simp only[Instr.sameBits,beq_self_eq_true,Bool.true_and,List.all_eq_true]
 intro x hx
 obtain⟨a,b⟩:=x
 have h1:=List.of_mem_zip hx
 have e:a=b:=by
  obtain⟨i,hi,he⟩:=List.mem_iff_getElem.1 hx
  simp at he
  exact he.1.symm.trans he.2
 subst e
 rcases h a h1.1 with⟨q,z,rfl⟩|⟨z,rfl⟩<;>simp[Instr.sameBits]
end
section
variable {κ:Type} [DecidableEq κ] {β:Type} {ke:κ→Value} {vr:Value→β→Prop} {es:Array MapEntry} {ck b:Nat} {m:List (κ×β)} {P:Program} {H:Hp}
def oA(m:List (κ×β))(k:κ):List (κ×β):=m.filter fun y=>¬y.1=k
theorem vA{k k':κ}:c9 (oA m k) k'=if k'=k then none else c9 m k':=by
 unfold c9 oA
 rw[List.find?_filter]
 by_cases e:k'=k
 ·rw[if_pos e]
  rw[List.find?_eq_none.2]
  ·rfl
  ·intro x _;simp;intro h1 h2;exact h1 (h2.trans e)
 ·rw[if_neg e]
  congr 1
  congr 1
  funext y
  by_cases e2:y.1=k'
  ·have:¬y.1=k:=fun e3=>e (e2.symm.trans e3)
   simp[e2,this,e]
  ·simp[e2]
theorem fG{k k':κ}{x:β}:c9 (fA m k x) k'=if k'=k then some x else c9 m k':=by
 unfold c9 fA
 by_cases hk:k∈m.map Prod.fst
 ·rw[if_pos hk]
  by_cases e:k'=k
  ·subst e
   rw[if_pos rfl]
   induction m with
   |nil=>simp at hk
   |cons y m ih=>
    rw[List.map_cons,List.find?_cons]
    by_cases ey:y.1=k'
    ·simp[ey]
    ·rw[if_neg ey]
     simp only[ey,decide_false]
     rw[ih]
     rw[List.map_cons]at hk
     rcases List.mem_cons.1 hk with h|h
     ·exact absurd h.symm ey
     ·simpa using h
  ·rw[if_neg e]
   have:∀l:List (κ×β),(List.find? (fun y=>decide (y.1=k')) (l.map fun y=>if y.1=k then(k,x)else y)).map Prod.snd=(List.find? (fun y=>decide (y.1=k')) l).map Prod.snd:=by
    intro l
    induction l with
    |nil=>rfl
    |cons y l ih=>
     rw[List.map_cons,List.find?_cons,List.find?_cons]
     by_cases ey:y.1=k
     ·have h1:decide (k=k')=false:=by simpa using fun h=>e h.symm
      have h2:decide (y.1=k')=false:=by rw[ey];exact h1
      simp only[if_pos ey,h1,h2]
      exact ih
     ·simp only[if_neg ey]
      cases decide (y.1=k')with
      |true=>rfl
      |false=>exact ih
   exact this m
 ·rw[if_neg hk]
  rw[List.find?_append]
  by_cases e:k'=k
  ·subst e
   have:List.find? (fun y=>decide (y.1=k')) m=none:=by
    rw[List.find?_eq_none];intro y hy;simp;intro h;exact hk (List.mem_map.2 ⟨y,hy,h⟩)
   simp[this]
  ·have:¬k=k':=fun h=>e h.symm
   rw[if_neg e]
   cases List.find? (fun y=>decide (y.1=k')) m<;>simp[this]
theorem sQ(nd:(m.map Prod.fst).Nodup){i:Nat}{k:κ}{y:β}(hi:m[i]? =some (k,y)):oA m k=m.eraseIdx i:=by
 unfold oA
 induction m generalizing i with
 |nil=>simp at hi
 |cons z m ih=>
  rw[List.map_cons,List.nodup_cons]at nd
  cases i with
  |zero=>
   simp at hi;subst hi
   rw[List.eraseIdx_cons_zero,List.filter_cons_of_neg (by simp)]
   rw[List.filter_eq_self]
   intro w hw
   simp only[decide_not,Bool.not_eq_true',decide_eq_false_iff_not]
   intro e
   exact nd.1 (List.mem_map.2 ⟨w,hw,e⟩)
  |succ i=>
   simp at hi
   have hz:¬z.1=k:=fun e=>nd.1 (List.mem_map.2 ⟨_,List.mem_of_getElem? hi,e.symm⟩)
   rw[List.eraseIdx_cons_succ,List.filter_cons_of_pos (by simpa using hz),ih nd.2 hi]
omit [DecidableEq κ] in
theorem aM.less(h:aM ke vr es ck m)(i:Nat):aM ke vr (es.eraseIdxIfInBounds i) ck (m.eraseIdx i):=by
 have hl:(es.eraseIdxIfInBounds i).toList=es.toList.eraseIdx i:=by
  unfold Array.eraseIdxIfInBounds
  split
  ·simp
  ·rename_i hh;rw[List.eraseIdx_of_length_le (by simpa using hh)]
 refine⟨?_,fun j e x he hx=>?_,?_,?_,fun e he=>?_⟩
 ·have:=congrArg List.length hl
  rw[Array.length_toList,List.length_eraseIdx]at this
  rw[this,List.length_eraseIdx,Array.length_toList,h.len]
 ·rw[←Array.getElem?_toList,hl,List.getElem?_eraseIdx]at he
  rw[List.getElem?_eraseIdx]at hx
  split at he
  ·rename_i hh;rw[if_pos hh]at hx;exact h.key j e x (by simpa using he) hx
  ·rename_i hh;rw[if_neg hh]at hx;exact h.key (j+1) e x (by simpa using he) hx
 ·rw[←kV];exact h.nd.sublist (List.eraseIdx_sublist _ _)
 ·rw[hl,←kV];exact h.born.sublist (List.eraseIdx_sublist _ _)
 ·rw[hl]at he;exact h.lt e (List.mem_of_mem_eraseIdx he)
theorem aM.abJ{P:Program}{kt:TypeId}{k:κ}{K:Hp→Prop}(hk:∀a b,xZ P kt (ke a) (ke b) (decide (a=b)))(hc:∀a,kA P kt (ke a))(h:aM ke vr es ck m)(hm:(b,Obj.map es ck)∈H)
 (h1:∀es',aM ke vr es' ck (oA m k)→∃H',dR b (.map es ck) (.map es' ck) H H'∧K H'):pT P kt H (.map (some b)) (ke k) K:=by
 refine⟨hc k,.inr ?_⟩
 rcases h.zK hk k with⟨i,y,e,g1,g2,g3,g4⟩|⟨g1,g2⟩
 ·refine⟨b,es,ck,_,rfl,g4,?_⟩
  have:=h.less i
  rw[←sQ h.nd g2]at this
  exact h1 _ this
 ·refine⟨b,es,ck,_,rfl,g2,hm,?_⟩
  have e:oA m k=m:=by
   unfold oA
   rw[List.filter_eq_self]
   intro w hw
   simp only[decide_not,Bool.not_eq_true',decide_eq_false_iff_not]
   intro e
   exact g1 (List.mem_map.2 ⟨w,hw,e⟩)
  obtain⟨H',hu,hK⟩:=h1 es (by rw[e];exact h)
  have:∀{H H':Hp},dR b (.map es ck) (.map es ck) H H'→H'=H:=by
   intro H H' hu
   generalize ho:Obj.map es ck=o at hu
   induction hu with
   |head R=>rfl
   |tail _ ih=>rw[ih]
  rw[this hu]at hK;exact hK
end
section
variable {P:Program} {H:Hp}
theorem aR.Ft{T:TypeId}{k:Nat}{v:Value}{rs:List (List Value)}{C:Hp}(hs:aR T k v rs C){i:Nat}{kd:IntKind}{r:List Value}(hr:rs[i]? =some r)(hC:∀y∈C,y∈H){K:Value→Prop}(hk:K (.agg r.toArray)):
  ai k v (.int kd (i:Int)) fun p=>aC k H p K:=by
 have hi:=(List.getElem?_eq_some_iff.1 hr).1
 obtain⟨b',bO,rfl,rfl,aK⟩:=hs.pos (by omega)
 exact ai.nat hi (aC.row (hC _ (List.Mem.head _)) aK (by rw[List.getElem?_append_left hi];exact hr) hk)
theorem aR.RV{T:TypeId}{k:Nat}{v x:Value}{rs:List (List Value)}{C:Hp}(hs:aR T k v rs C){i j:Nat}{kd:IntKind}{r:List Value}(hr:rs[i]? =some r)(hj:r[j]? =some x)(hC:∀y∈C,y∈H){K:Value→Prop}(hk:K x):
  ai k v (.int kd (i:Int)) fun p=>aa j p fun q=>Ld H q K:=by
 have hi:=(List.getElem?_eq_some_iff.1 hr).1
 obtain⟨b',bO,rfl,rfl,aK⟩:=hs.pos (by omega)
 exact ai.nat hi (aa.mk (Ld.row (hC _ (List.Mem.head _)) aK (by rw[List.getElem?_append_left hi];exact hr) hj hk))
theorem aR.RY{T:TypeId}{v x:Value}{rs:List (List Value)}{C:Hp}(hs:aR T 1 v rs C){i:Nat}{kd:IntKind}(hr:rs[i]? =some [x])(hC:∀y∈C,y∈H){K:Value→Prop}(hk:K x):
  ai 1 v (.int kd (i:Int)) fun p=>Ld H p K:=by
 have hi:=(List.getElem?_eq_some_iff.1 hr).1
 obtain⟨b',bO,rfl,rfl,aK⟩:=hs.pos (by omega)
 exact ai.nat hi (Ld.U8 (l:=rs++bO) (hC _ (List.Mem.head _)) aK (by rw[List.getElem?_append_left hi];exact hr) hk)
theorem aR.RU{T:TypeId}{k n:Nat}{v:Value}{rs:List (List Value)}{C:Hp}(hs:aR T k v rs C){i:Nat}{kd:IntKind}{r:List Value}(hr:rs[i]? =some r)(hn:0<n∧n≤k)(hC:∀y∈C,y∈H){K:Value→Prop}(hk:K (.agg (r.take n).toArray)):
  ai k v (.int kd (i:Int)) fun p=>aa 0 p fun q=>aC n H q K:=by
 have hi:=(List.getElem?_eq_some_iff.1 hr).1
 obtain⟨b',bO,rfl,rfl,aK⟩:=hs.pos (by omega)
 have Hy:r.length=k:=aK r (List.mem_append_left _ (List.mem_of_getElem? hr))
 refine ai.nat hi (aa.mk ?_)
 have Ut:At H (.pointer (some ⟨b',0+i*k+0,none⟩)) (r.take n):=⟨b',_,_,_,_,rfl,hC _ (List.Mem.head _),fun j x hj=>by
  have Qz:j<n:=by have:=(List.getElem?_eq_some_iff.1 hj).1;simp at this;omega
  rw[List.getElem?_take,if_pos Qz]at hj
  rw[Nat.add_zero,Nat.zero_add,gP aK (by omega),List.getElem?_append_left hi,hr];exact hj⟩
 exact aC.at Ut (by simp;omega) hn.1 (fun _ h=>h) hk
theorem GV{k:Nat}{l:List (List Value)}(h:∀r∈l,r.length=k){i:Nat}{r xs:List Value}(hi:l[i]? =some r)(hx:xs.length≤k):iU (rows l) (i*k) xs=rows (l.set i (xs++r.drop xs.length)):=by
 have hlt:=(List.getElem?_eq_some_iff.1 hi).1
 have hr:=h r (List.mem_of_getElem? hi)
 have key:∀(xs:List Value) (j:Nat) (l:List (List Value)) (r:List Value),(∀r∈l,r.length=k)→l[i]? =some r→j+xs.length≤k→iU (rows l) (i*k+j) xs=rows (l.set i (r.take j++xs++r.drop (j+xs.length))):=by
  intro xs
  induction xs with
  |nil=>
   intro j l r h hi _
   have hlt:=(List.getElem?_eq_some_iff.1 hi).1
   simp only[iU,List.append_nil,List.length_nil,Nat.add_zero,List.take_append_drop]
   congr 1
   apply List.ext_getElem?
   intro m
   rw[List.getElem?_set]
   by_cases e:i=m
   ·subst e;rw[if_pos rfl,hi,if_pos hlt]
   ·rw[if_neg e]
  |cons x xs ih=>
   intro j l r h hi hj
   have hr:=h r (List.mem_of_getElem? hi)
   have hlt:=(List.getElem?_eq_some_iff.1 hi).1
   simp only[List.length_cons]at hj
   rw[iU,nQ h hi (by omega),Nat.add_assoc]
   rw[ih (j+1) (l.set i (r.set j x)) (r.set j x) (fun y hy=>by
    rcases List.mem_or_eq_of_mem_set hy with hy|rfl
    ·exact h y hy
    ·simpa using hr) (by simp[hlt]) (by omega)]
   rw[List.set_set]
   congr 2
   have e1:(r.set j x).take (j+1)=r.take j++[x]:=by
    rw[List.set_eq_take_append_cons_drop,if_pos (by omega),List.take_append]
    simp[List.take_take,show min (j+1) j=j by omega,show j+1-min j r.length=1 by omega]
   have e2:(r.set j x).drop (j+1+xs.length)=r.drop (j+(x::xs).length):=by
    rw[List.drop_set,if_pos (by omega)]
    congr 1
    simp;omega
   rw[e1,e2]
   simp
 have:=key xs 0 l r h hi (by omega)
 simpa using this
theorem aR.N8{T:TypeId}{k n:Nat}{v:Value}{rs:List (List Value)}{C A B:Hp}(hs:aR T k v rs C){i:Nat}{kd:IntKind}{r xs:List Value}(hr:rs[i]? =some r)(hx:xs.length=n∧n≤k)(h1:∀x∈xs,x.oneCell'=true){K:Hp→Prop}
 (hk:∀C',aR T k v (rs.set i (xs++r.drop n)) C'→K (A++(C'++B))):ai k v (.int kd (i:Int)) fun p=>aa 0 p fun q=>St n (A++(C++B)) q (.agg xs.toArray) K:=by
 have hi:=(List.getElem?_eq_some_iff.1 hr).1
 obtain⟨b',bO,rfl,rfl,aK⟩:=hs.pos (by omega)
 refine ai.nat hi (aa.mk ?_)
 have hg:(rs++bO)[i]? =some r:=by rw[List.getElem?_append_left hi];exact hr
 have e:(rs++bO).set i (xs++r.drop xs.length)=rs.set i (xs++r.drop n)++bO:=by rw[List.set_append_left _ _ hi,hx.1]
 refine St.mk (c':=rows (rs.set i (xs++r.drop n)++bO)) (H':=A++([(b',.cells (rows (rs.set i (xs++r.drop n)++bO)) T (0,0))]++B)) (((dR.head _).append B).dK A) (by simpa[Value.cells]using hx.1) ?_ (by simpa[Value.cells]using h1) ?_ ?_
 ·rw[bE aK,Nat.zero_add,Nat.add_zero,List.length_append]
  have:=Nat.mul_le_mul_right k (Nat.succ_le_of_lt hi)
  rw[Nat.succ_mul]at this
  have h2:rs.length*k≤(rs.length+bO.length)*k:=Nat.mul_le_mul_right k (by omega)
  omega
 ·simp only[Value.cells,Nat.zero_add,Nat.add_zero]
  rw[GV aK hg (by omega),e]
 ·have Hy:r.length=k:=aK r (List.mem_append_left _ (List.mem_of_getElem? hr))
  refine hk _ (aR.mk' (bO:=bO) (fun y hy=>?_) (by simp) (by simp))
  rcases List.mem_append.1 hy with hy|hy
  ·rcases List.mem_or_eq_of_mem_set hy with hy|rfl
   ·exact aK y (List.mem_append_left _ hy)
   ·simp;omega
  ·exact aK y (List.mem_append_right _ hy)
theorem aR.Ku{T:TypeId}{k:Nat}{v:Value}{rs:List (List Value)}{C A B:Hp}(hs:aR T k v rs C){i:Nat}{kd:IntKind}{xs:List Value}(hi:i<rs.length)(hx:xs.length=k)(h1:∀x∈xs,x.oneCell'=true){K:Hp→Prop}
 (hk:∀C',aR T k v (rs.set i xs) C'→K (A++(C'++B))):ai k v (.int kd (i:Int)) fun p=>St k (A++(C++B)) p (.agg xs.toArray) K:=by
 obtain⟨b',bO,rfl,rfl,aK⟩:=hs.pos (by omega)
 refine ai.nat hi (St.row (l:=rs++bO) (((dR.head _).append B).dK A) aK (by simp;omega) hx h1 ?_)
 have e:(rs++bO).set i xs=rs.set i xs++bO:=by rw[List.set_append_left _ _ hi]
 rw[e]
 refine hk [(b',_)] (aR.mk' (bO:=bO) (fun y hy=>?_) (by simp) (by simp))
 rcases List.mem_append.1 hy with hy|hy
 ·rcases List.mem_or_eq_of_mem_set hy with hy|rfl
  ·exact aK y (List.mem_append_left _ hy)
  ·exact hx
 ·exact aK y (List.mem_append_right _ hy)
theorem aN.ld{T:TypeId}{kd xl:IntKind}{v:Value}{l:List Int}{C:Hp}(hs:aN T kd v l C){i:Nat}{x:Int}(hx:l[i]? =some x)(hC:∀y∈C,y∈H){K:Value→Prop}(hk:K (.int kd x)):ai 1 v (.int xl (i:Int)) fun p=>Ld H p K:=
 aR.RY hs (x:=.int kd x) (by simp[hx]) hC hk
theorem aN.put{T:TypeId}{kd xl:IntKind}{v:Value}{l:List Int}{C A B:Hp}(hs:aN T kd v l C){i:Nat}{x:Int}(hi:i<l.length){K:Hp→Prop}
 (hk:∀C',aN T kd v (l.set i x) C'→K (A++(C'++B))):ai 1 v (.int xl (i:Int)) fun p=>St 1 (A++(C++B)) p (.int kd x) K:=by
 have hi':i<(l.map fun n=>[Value.int kd n]).length:=by simpa using hi
 obtain⟨b',bO,rfl,rfl,aK⟩:=aR.pos hs (by omega)
 refine ai.nat hi' ?_
 refine St.cell (l:=l.map (fun n=>[Value.int kd n])++bO) (i:=i) (k:=1) (j:=0) (r:=[.int kd l[i]]) (((dR.head _).append B).dK A) aK (by rw[List.getElem?_append_left hi'];simp[hi]) (by omega) rfl ?_
 have e:(l.map (fun n=>[Value.int kd n])++bO).set i ([Value.int kd l[i]].set 0 (.int kd x))=(l.set i x).map (fun n=>[Value.int kd n])++bO:=by
  rw[List.set_append_left _ _ hi',List.map_set];rfl
 rw[e]
 refine hk [(b',_)] (aR.mk' (bO:=bO) (fun r hr'=>?_) (by simp) (by simp))
 rcases List.mem_append.1 hr' with hr'|hr'
 ·obtain⟨y,_,rfl⟩:=List.mem_map.1 hr';rfl
 ·exact aK r (List.mem_append_right _ hr')
theorem aQ.nil{H:Hp}:aQ H []:=fun _ _ h=>h.kK
theorem aR.cut{T:TypeId}{k i:Nat}{v:Value}{rs:List (List Value)}{C:Hp}(hs:aR T k v rs C)(hi:i≤rs.length){kd:IntKind}{K:Value→Prop}(hk:∀v',aR T k v' (rs.take i) C→K v'):
  gf k v none (some (.int kd (i:Int))) K:=by
 by_cases hp:0<rs.length
 ·obtain⟨b',bO,rfl,rfl,aK⟩:=hs.pos hp
  refine gf.upto (by omega) (hk _ ?_)
  have e:rs++bO=rs.take i++(rs.drop i++bO):=by rw[←List.append_assoc,List.take_append_drop]
  rw[e]at aK⊢
  exact aR.mk' aK (by simp;omega) (by simp;omega)
 ·obtain rfl:rs=[]:=List.eq_nil_of_length_eq_zero (by omega)
  obtain rfl:i=0:=by simpa using hi
  obtain⟨a,c,rfl⟩:=hs.len
  exact gf.upto (Nat.zero_le _) (hk _ (by simpa using hs))
theorem aN.cut{T:TypeId}{kd xl:IntKind}{i:Nat}{v:Value}{l:List Int}{C:Hp}(hs:aN T kd v l C)(hi:i≤l.length){K:Value→Prop}(hk:∀v',aN T kd v' (l.take i) C→K v'):
  gf 1 v none (some (.int xl (i:Int))) K:=
 aR.cut hs (by simpa using hi) fun v' h=>hk v' (by unfold aN;rw[List.map_take];exact h)
end
end Go.Sx
namespace Go.Sx
open Go
section
variable {P:Program} {H C:Hp} {c:Hp→Hp}
theorem bS.split(h:bS C H c):∃A B,∀X,c X=A++(X++B):=by
 induction h with
 |here=>exact⟨[],[],fun X=>by simp⟩
 | @left A=>exact⟨[],A,fun X=>rfl⟩
 | @cons x H c h ih=>
  obtain⟨A,B,e⟩:=ih
  exact⟨x::A,B,fun X=>by show x::c X=_;rw[e];rfl⟩
 | @app A' H c h ih=>
  obtain⟨A,B,e⟩:=ih
  exact⟨A'++A,B,fun X=>by show A'++c X=_;rw[e,List.append_assoc]⟩
theorem bS.sub(h:bS C H c):∀x∈C,x∈H:=fun x hx=>by
 obtain⟨A,B,e⟩:=h.split
 rw[h.spec.1,e]
 exact List.mem_append_right _ (List.mem_append_left _ hx)
theorem aR.oK{elem k bytes:Nat}{zero:Value}{v:Value}{rs:List (List Value)}(h:aR elem k v rs C)(hh:bS C H c){xb:Nat}{r:List Value}{xT:TypeId}{fz:Nat×Nat}{xc:Nat}
 (hx:(xb,Obj.cells r.toArray xT fz)∈H)(hr:r.length=k)(h1:∀u∈r,u.oneCell'=true)(hz:∃z:List Value,zero.cells=z.toArray∧z.length=k)
 (hb:(rs.length+1)*bytes≤140737488355328)(bQ:rs.length+1≤9223372036854775807){K:Value→Hp→Prop}
 (hk:∀v' C',aR elem k v' (rs++[r]) C'→K v' (c C')):App P elem k bytes zero H v (.slice (some ⟨xb,0,none⟩) 1 xc) K:=by
 obtain⟨A,B,e⟩:=hh.split
 have e2:=hh.spec.1
 rw[e]at e2
 subst e2
 exact h.Ih hx hr h1 hz hb bQ fun v' C' ho=>by have:=hk v' C' ho;rwa [e]at this
theorem aN.oK{T:TypeId}{kd:IntKind}{v:Value}{l:List Int}{bytes:Nat}(h:aN T kd v l C)(hh:bS C H c){xb xc:Nat}{x:Int}{xT:TypeId}{fz:Nat×Nat}(hx:(xb,Obj.cells (ax kd [x]) xT fz)∈H)
 (hb:(l.length+1)*bytes≤140737488355328)(hm:l.length+1≤9223372036854775807){K:Value→Hp→Prop}(hk:∀v' C',aN T kd v' (l++[x]) C'→K v' (c C')):App P T 1 bytes (.int kd 0) H v (.slice (some ⟨xb,0,none⟩) 1 xc) K:=by
 obtain⟨A,B,e⟩:=hh.split
 have e2:=hh.spec.1
 rw[e]at e2
 subst e2
 exact h.app hx hb hm fun v' C' ho=>by have:=hk v' C' ho;rwa [e]at this
theorem aN.Af{T:TypeId}{kd:IntKind}{v x:Value}{l l2:List Int}{bytes:Nat}(h:aN T kd v l C)(hh:bS C H c)(hx:cT kd H x l2)
 (hb:(l.length+l2.length)*bytes≤140737488355328)(hm:l.length+l2.length≤9223372036854775807){K:Value→Hp→Prop}(hk:∀v' C',aN T kd v' (l++l2) C'→K v' (c C')):App P T 1 bytes (.int kd 0) H v x K:=by
 obtain⟨A,B,e⟩:=hh.split
 have e2:=hh.spec.1
 rw[e]at e2
 subst e2
 exact h.apps hx hb hm fun v' C' ho=>by have:=hk v' C' ho;rwa [e]at this
theorem aN.jC{T:TypeId}{kd xl:IntKind}{v:Value}{l:List Int}(hs:aN T kd v l C)(hh:bS C H c){i:Nat}{x:Int}(hi:i<l.length){K:Hp→Prop}
 (hk:∀C',aN T kd v (l.set i x) C'→K (c C')):ai 1 v (.int xl (i:Int)) fun p=>St 1 H p (.int kd x) K:=by
 obtain⟨A,B,e⟩:=hh.split
 have e2:=hh.spec.1
 rw[e]at e2
 subst e2
 exact hs.put hi fun C' ho=>by have:=hk C' ho;rwa [e]at this
theorem aN.one{T:TypeId}{kd:IntKind}{v:Value}{l:List Int}(h:aN T kd v l C):v.oneCell'=true:=by obtain⟨a,c,e⟩:=aR.len h;rw[e];rfl
theorem e7(l:List Nat)(i x:Nat):(iw l).set i (x:Int)=iw (l.set i x):=by unfold iw;rw[List.map_set]
theorem cm(a b:List Nat):iw (a++b)=iw a++iw b:=by unfold iw;rw[List.map_append]
theorem bc{l:List Nat}{i:Nat}(h:i<l.length):(iw l)[i]? =some ((l.getD i 0:Nat):Int):=by
 rw[cr (List.getElem?_eq_getElem h)];simp[List.getD,List.getElem?_eq_getElem h]
end
end Go.Sx
namespace Go.Sx
open Go
theorem jT{p:Nat→Prop}(h:∃k,p k):∃k,p k∧∀j,p j→k≤j:=by
 obtain⟨k,hk⟩:=h
 induction k using Nat.strongRecOn with
 |_ k ih=>
  by_cases e:∃j,j<k∧p j
  ·obtain⟨j,hj,hp⟩:=e;exact ih j hj hp
  ·exact⟨k,hk,fun j hp=>Nat.le_of_not_lt fun hlt=>e ⟨j,hlt,hp⟩⟩
open Classical in
noncomputable def mg(J:Nat→List Value→Hp→Prop)(vs:List Value)(H:Hp):Nat:=if h:∃k,J k vs H then Classical.choose (jT h)else 0
theorem Hl{J:Nat→List Value→Hp→Prop}{vs:List Value}{H:Hp}{k:Nat}(h:J k vs H):mg J vs H≤k:=by
 unfold mg
 rw[dif_pos ⟨k,h⟩]
 exact(Classical.choose_spec (jT ⟨k,h⟩)).2 k h
theorem yZ{J:Nat→List Value→Hp→Prop}{vs:List Value}{H:Hp}(h:∃k,J k vs H):J (mg J vs H) vs H:=by
 unfold mg
 rw[dif_pos h]
 exact(Classical.choose_spec (jT h)).1
def mM(J:Nat→List Value→Hp→Prop):List Value→Hp→Prop:=fun vs H=>∃k,J k vs H
theorem mM.open{J:Nat→List Value→Hp→Prop}{vs:List Value}{H:Hp}(h:mM J vs H):∃k,J k vs H∧k=mg J vs H:=⟨_,yZ h,rfl⟩
theorem mM.mk{J:Nat→List Value→Hp→Prop}{vs:List Value}{H:Hp}(k:Nat)(h:J k vs H):JE (mM J) vs H:=JE.mk ⟨k,h⟩
theorem mM.back{J:Nat→List Value→Hp→Prop}{vs vs':List Value}{H H' H0:Hp}{k:Nat}(e:aQ H H')(hk:k=mg J vs H0)(k':Nat)(h:J k' vs' H')(hlt:k'<k):aD (mM J) (mg J) vs' H vs H0:=
 aD.of e ⟨k',h⟩ (Nat.lt_of_le_of_lt (Hl h) (by omega))
theorem Vk{vs:List Value}{H:Hp}{Q:(List Value→Hp→Prop)→(List Value→Hp→Nat)→Prop}(J:Nat→List Value→Hp→Prop)(k:Nat)(h:J k vs H)(hq:Q (mM J) (mg J)):
  ∃(I:List Value→Hp→Prop) (m:List Value→Hp→Nat),JE I vs H∧Q I m:=⟨_,_,mM.mk k h,hq⟩
section
variable {P:Program} {H:Hp}
theorem av.La{t e:Nat}{kd:IntKind}{x y:Int}{K:Value→Hp→Prop}(h1:P.underlying t=some (.slice e))(h2:c6 P e=some 1)(h3:ew P e=some (.int kd 0))
 (h:∀b,K (.slice (some ⟨b,0,Option.none⟩) 2 2) ((b,.cells (ax kd [x,y]) e (0,0))::H)):av P t 2 [(0,.int kd x),(1,.int kd y)] H K:=by
 refine⟨ax kd [x,y],e,1,_,h1,h2,h3,by decide,?_,fun b _=>h b⟩
 have e1:Array.range (2*1)=#[0,1]:=rfl
 simp[Instr.fill,Value.cells,ax,e1]
theorem GW(kd:IntKind)(l:List Int):rows (l.map fun n=>[Value.int kd n])=ax kd l:=by
 unfold rows ax
 congr 1
 induction l with
 |nil=>rfl
 |cons x l ih=>rw[List.map_cons,List.flatten_cons,ih];rfl
theorem aN.made{T:TypeId}{kd:IntKind}{b:Nat}(l:List Int):aN T kd (.slice (some ⟨b,0,none⟩) l.length l.length) l [(b,.cells (ax kd l) T (0,0))]:=by
 have:=aR.mk' (T:=T) (k:=1) (b:=b) (n:=l.length) (c:=l.length) (rs:=l.map fun n=>[Value.int kd n]) (bO:=[]) (fun r hr=>by
  rw[List.append_nil]at hr
  obtain⟨x,_,rfl⟩:=List.mem_map.1 hr;rfl) (by simp) (by simp)
 rw[List.append_nil,GW]at this
 exact this
end
end Go.Sx
namespace Go.Sx
open Go
section
variable {P:Program} {g:Gh}
structure Jw where
 f:FuncId
 l:List Value
def jz(P:Program)(g:Gh)(f:FuncId)(args:Array Value)(H:Hp)(R:Ending→Hp→Prop):Prop:=
 ∀w,Own g H w→∀u,CallsD P f args u w fun e u' w'=>u'=u∧∃H',Own g H' w'∧R e H'
def kx(P:Program)(g:Gh)(f:FuncId)(args:Array Value)(H:Hp)(K:Hp→Prop):Prop:=jz P g f args H fun e H'=>(∃v,e=.returned v)∧K H'
def JV(P:Program)(g:Gh)(K:Hp→Prop):List Jw→Hp→Prop
 | [],H=>K H
 |x::r,H=>kx P g x.f x.l.toArray H (JV P g K r)
def T4(P:Program)(o:Oper)(ρ:Operand→Value)(k:Jw→Prop):Prop:=
 match o.op with
 | .defer c=>match c.callee with
  | .value x=>match ρ x with
   | .func (.func f) first cap=>cond (bB P f) (k ⟨f,first.toList++(c.args.toList.map ρ++cap.toList)⟩) False
   |_=>False
  |_=>False
 |_=>False
def K9:Code→Option (Array Oper×Oper)
 | .region _ ops false=>match ops.toList.getLast? with
  |some o=>match o.op with
   | .defer _=>some (ops,o)
   |_=>none
  |none=>none
 |_=>none
def Mh(P:Program)(g:Gh)(fn:Func)(R:Ending→Hp→Prop)(dl:List Jw):Exit→Fr→Hp→Prop
 | .normal,fr,H=>JV P g (fun H'=>sF P fr H' fn.results.toList fun vs=>R (.returned (A4 vs)) H') dl H
 | .ret,fr,H=>JV P g (fun H'=>sF P fr H' fn.results.toList fun vs=>R (.returned (A4 vs)) H') dl H
 |_,_,_=>False
def BR(P:Program)(g:Gh)(n:Nat)(E:List Jw→Exit→Fr→Hp→Prop):Code→Hn→List Jw→Fr→Hp→Prop
 | .seq x y,hn,dl,fr,H=>
  match K9 x with
  |some (ops,o)=>cond (o.dst.isNone&&o.guard.isNone)
    (ef P g n ops false (ops.toList.length+1) false none [] ops.toList.dropLast fr H (fun _ fr' H'=>T4 P o (ev fr') fun d=>BR P g n E y hn.b (d::dl) fr' H') (fun _ _=>False)) False
  |none=>match hn.m with
   |0=>den P g n x hn.a (yz (BR P g n E y hn.b dl) (E dl)) fr H
   |_=>cond (Og x hn.I)
    (XD hn.L.length (fun vs H'=>∀gs,BR P g n E y hn.b dl (mix hn.L vs hn.I fr gs) H') fun J=>den P g n x hn.a (yz (fun fr' H'=>JE J (AE fr' hn.L) H') (E dl)) fr H) False
 |c,hn,dl,fr,H=>den P g n c hn (E dl) fr H
def Mj(P:Program)(g:Gh)(fn:Func)(hn:Hn)(args:List Value)(H:Hp)(R:Ending→Hp→Prop):Prop:=
 match fn.body with
 |some c=>cond (Nat.ble args.length fn.ntmps) (BR P g fn.ntmps (Mh P g fn R) c hn [] (iX args 0) H) False
 |none=>False
def Ij:List PanicEntry→Hp→Prop:=fun _ _=>∀_:Fr,False
def DOK(P:Program)(x:Jw)(d:Deferred):Prop:=∃cap args,d={target:=.fn (.func x.f) cap,args:=args}∧args++cap=x.l.toArray∧bB P x.f=true
inductive EN(P:Program):List Jw→List Deferred→Prop
 |nil:EN P [] []
 |cons {x d l ds} (h:DOK P x d) (hr:EN P l ds):EN P (x::l) (d::ds)
theorem sr{fn:Func}{tmps:Array Value}{K:Hp→Prop}{R:Ending→World→Prop}(hK:∀H w,Own g H w→K H→∃v,(results fn tmps).run P w=.ok v w∧R (.returned v) w):
  ∀{dl:List Jw} {ds:List Deferred},EN P dl ds→∀H w,Own g H w→JV P g K dl H→Leaves P fn tmps R ds .returning w
 |_,_,.nil,H,w,hw,h=>hK H w hw h
 |_,_,.cons ⟨cap,args,hd,ha,hc⟩ hr,H,w,hw,h=>by
  subst hd
  refine leaves_cons (by simp) ?_ ((h w hw .returning).mono ?_)
  ·show(callFunc _ (args++cap)).run P w=_
   rw[ha]
   exact eV hc _ w
  ·rintro e u' w' ⟨rfl,H',ho,⟨v,rfl⟩,hk⟩
   exact sr hK hr H' w' ho hk
theorem oF{fn:Func}{R:Ending→Hp→Prop}{n:Nat}{dl:List Jw}{ds:List Deferred}(hd:EN P dl ds){e:Exit}{fr:Fr}{H:Hp}{a:Act}{w:World}(ha:cg ds n a fr)(hw:Own g H w)(h:Mh P g fn R dl e fr H):
  bodyPostD P fn (fun e w'=>∃H',Own g H' w'∧R e H') e a w:=by
 have key:∀{H},Own g H w→JV P g (fun H'=>sF P fr H' fn.results.toList fun vs=>R (.returned (A4 vs)) H') dl H→Leaves P fn a.tmps (fun e w'=>∃H',Own g H' w'∧R e H') a.defers .returning w:=fun hw h=>by
  rw[ha.defers]
  refine sr (fun H w hw h=>?_) hd _ _ hw h
  obtain⟨vs,hr,hk⟩:=gR ha hw h
  exact⟨_,hr,H,hw,hk⟩
 cases e with
 |normal=>exact key hw h
 |ret=>exact key hw h
 |panic ch=>exact h.elim
 |exit id=>exact h.elim
 |goto l=>exact h.elim
 |outgrown=>exact h.elim
theorem Bx{c:Code}{ops:Array Oper}{o:Oper}(h:K9 c=some (ops,o)):∃id d,c=.region id ops false∧ops.toList=ops.toList.dropLast++[o]∧o.op=.defer d:=by
 unfold K9 at h
 split at h
 ·rename_i id ops'
  split at h
  ·rename_i o' ho
   split at h
   ·rename_i d hd
    simp only[Option.some.injEq,Prod.mk.injEq]at h
    obtain⟨rfl,rfl⟩:=h
    refine⟨id,d,rfl,?_,hd⟩
    obtain⟨hne,e⟩:=List.getLast?_eq_some_iff.1 ho
    rw[e];simp
   ·cases h
  ·cases h
 ·cases h
theorem MZ{o:Oper}{fr:Fr}{k:Jw→Prop}(h:T4 P o (ev fr) k):∃x d,k x∧DOK P x d∧∀w,(execOp (ev fr) o).run P w=.ok (.defer d) w:=by
 unfold T4 at h
 split at h<;>try exact h.elim
 rename_i c hop
 split at h<;>try exact h.elim
 rename_i x hc
 split at h<;>try exact h.elim
 rename_i f first cap hx
 cases gK:bB P f<;>simp only[gK,cond_true,cond_false]at h
 refine⟨_,{target:=.fn (.func f) cap,args:=first++c.args.map (ev fr)},h,⟨cap,_,rfl,?_,gK⟩,fun w=>?_⟩
 ·apply Array.ext'
  simp
 ·simp only[execOp,hop,resolve,hc,hx,Deferred.ofValue,Sem.run_bind,Sem.run_pure,Result.andThen_ok]
theorem BQ{n:Nat}{fn:Func}{R:Ending→Hp→Prop}:∀(c:Code) (hn:Hn) (dl:List Jw) (fr:Fr) (H:Hp),BR P g n (Mh P g fn R) c hn dl fr H→∀(ds:List Deferred),EN P dl ds→∀(a:Act) (w:World),cg ds n a fr→Own g H w→
  c.wp P (bodyPostD P fn fun e w'=>∃H',Own g H' w'∧R e H') a w:=by
 have plain:∀(c:Code) (hn:Hn) (dl:List Jw) (fr:Fr) (H:Hp),den P g n c hn (Mh P g fn R dl) fr H→∀(ds:List Deferred),EN P dl ds→∀(a:Act) (w:World),cg ds n a fr→Own g H w→
   c.wp P (bodyPostD P fn fun e w'=>∃H',Own g H' w'∧R e H') a w:=fun c hn dl fr H h ds hd a w ha hw=>
  wp_mono (j3 c hn _ fr H h a w ha hw) fun e a' w' ⟨fr',H',dX,dw,_,hq⟩=>oF hd dX dw hq
 intro c
 induction c with
 |seq x y _ ih=>
  intro hn dl fr H h ds hd a w ha hw
  unfold BR at h
  split at h
  ·rename_i ops o hx
   obtain⟨id,d,rfl,hl,hop⟩:=Bx hx
   cases hc:(o.dst.isNone&&o.guard.isNone)<;>simp only[hc,cond_true,cond_false]at h
   simp only[Bool.and_eq_true,Option.isNone_iff_eq_none]at hc
   refine wp_seq (wp_region_list ?_)
   rw[hl]
   refine cw _ _ _ _ _ fr H _ _ h trivial (ig.nil fr) a w ha hw [o] _ ?_ ?_
   ·intro a' w' oR fr' H' dX dw _ _ hk
    refine wpList_plain hc.2 fun K hK=>?_
    obtain⟨x,dd,hx,hok,hrun⟩:=MZ hk
    show o.upon P a' K _ ((execOp a'.eval o).run P w')
    rw[dX.eval,hrun]
    refine hK _ _ ?_
    refine ih _ _ fr' H' hx (dd::ds) (.cons hok hd) _ _ ?_ dw
    rw[hc.1]
    exact⟨congrArg _ dX.defers,dX.size,dX.get⟩
   ·intro ch a' w' fr' H' _ _ hk;exact hk.elim
  ·split at h
   ·refine wp_seq (wp_mono (j3 x _ _ fr H h a w ha hw) ?_)
    rintro e a' w' ⟨fr',H',dX,dw,ho,hq⟩
    cases e with
    |normal=>exact ih _ _ fr' H' hq ds hd a' w' dX dw
    |ret=>exact oF (e:=.ret) hd dX dw hq
    |exit id=>exact hq.elim
    |goto l=>exact hq.elim
    |panic ch=>exact hq.elim
    |outgrown=>exact hq.elim
   ·cases hno:Og x hn.I<;>simp only[hno,cond_true,cond_false]at h
    have h':=h (fun vs H'=>∀gs,BR P g n (Mh P g fn R) y hn.b dl (mix hn.L vs hn.I fr gs) H') (ue.intro (fun vs H' hh=>hh) _)
    refine wp_seq (wp_mono (j3 x _ _ fr H h' a w ha hw) ?_)
    rintro e a' w' ⟨fr',H',dX,dw,ho,hq⟩
    cases e with
    |normal=>
     obtain⟨Hj,tc,hq⟩:=hq
     have Yh:=hq fr'
     rw[sO fun s hs=>ho rfl s (sM hno s hs)]at Yh
     exact ih _ _ fr' Hj Yh ds hd a' w' dX (tc _ _ dw)
    |ret=>exact oF (e:=.ret) hd dX dw hq
    |exit id=>exact hq.elim
    |goto l=>exact hq.elim
    |panic ch=>exact hq.elim
    |outgrown=>exact hq.elim
 |_=>intro hn dl fr H h;exact plain _ hn dl fr H h
theorem Lc{args:List Value}{m:Nat}(hle:args.length≤m):cg [] m {tmps:=args.toArray++Array.replicate (m-args.toArray.size) undef,defers:=[]} (iX args 0):=by
 refine⟨rfl,by simp;omega,fun s=>?_⟩
 rw[kS,Array.getD_eq_getD_getElem?,Array.getElem?_append]
 simp only[List.size_toArray,Nat.not_lt_zero,if_false,Nat.sub_zero]
 by_cases hs:s<args.length
 ·simp[hs,List.getD]
 ·rw[if_neg hs,Array.getElem?_replicate]
  have:args.getD s undef=undef:=by simp[List.getD,List.getElem?_eq_none (Nat.le_of_not_lt hs)]
  rw[this]
  split<;>rfl
theorem zQ{f:FuncId}{fn:Func}{hn:Hn}{args:List Value}{H:Hp}{R:Ending→Hp→Prop}(hf:P.funcs[f]? =some fn)(h:Mj P g fn hn args H R):ag P g f args.toArray H R:=by
 intro w hw
 unfold Mj at h
 split at h<;>try exact h.elim
 rename_i c hc
 cases hl:Nat.ble args.length fn.ntmps<;>simp only[hl,cond_true,cond_false]at h
 exact calls_of_wp_defers hf hc (BQ c hn [] _ H h [] .nil _ w (Lc (Nat.le_of_ble_eq_true hl)) hw)
theorem zP{f:FuncId}{fn:Func}{hn:Hn}{args:List Value}{H:Hp}{R:Ending→Hp→Prop}(hf:P.funcs[f]? =some fn)(h:HV P g fn hn args H R):jz P g f args.toArray H R:=by
 intro w hw u
 unfold HV at h
 split at h<;>try exact h.elim
 rename_i c hc
 cases hl:Nat.ble args.length fn.ntmps<;>simp only[hl,cond_true,cond_false]at h
 refine callsD_of_wp hf hc (wp_mono (j3 c hn _ _ H h _ w (Lc (Nat.le_of_ble_eq_true hl)) hw) ?_)
 rintro e a' w' ⟨fr',H',dX,dw,_,hq⟩
 cases e with
 |normal=>obtain⟨vs,hr,hk⟩:=gR dX dw hq;exact⟨dX.defers,_,hr,H',dw,hk⟩
 |ret=>obtain⟨vs,hr,hk⟩:=gR dX dw hq;exact⟨dX.defers,_,hr,H',dw,hk⟩
 |panic ch=>exact⟨dX.defers,H',dw,hq⟩
 |exit id=>exact hq.elim
 |goto l=>exact hq.elim
 |outgrown=>exact hq.elim
abbrev Jt:=List Value→Hp→Prop
abbrev Mt:=List Value→Hp→Nat
abbrev Rt:=Ending→Hp→Prop
abbrev Hn.n(a b:Hn):Hn:=.h 0 [] [] a b
theorem aj{f:FuncId}{fn:Func}{hn:Hn}{args:List Value}{H:Hp}{R:Rt}{L:Prop}(hf:P.funcs[f]? =some fn)(h:L)(e:HV P g fn hn args H R=L):ag P g f args.toArray H R:=BS hf (e.mpr h)
theorem wO{f:FuncId}{fn:Func}{hn:Hn}{args:List Value}{H:Hp}{R:Rt}{L:Prop}(hf:P.funcs[f]? =some fn)(h:L)(e:Mj P g fn hn args H R=L):ag P g f args.toArray H R:=zQ hf (e.mpr h)
theorem wP{f:FuncId}{fn:Func}{hn:Hn}{args:List Value}{H:Hp}{R:Rt}{L:Prop}(hf:P.funcs[f]? =some fn)(h:L)(e:HV P g fn hn args H R=L):jz P g f args.toArray H R:=zP hf (e.mpr h)
end
end Go.Sx
set_option maxRecDepth 100000
namespace Go.Proofs
open Go Go.Sx
variable {g:Gh} {a0 a1 a2 a3 a4 a5 a6 a7 a8 a9 rF rE Xl Xk Xj Xi:Value} {H:Hp} {R:Rt}
abbrev pt(b:Nat):Value:=.pointer (some ⟨b,0,none⟩)
abbrev CF:=af Tryz.prog
def hr(m:Nat)(T:List Nat):Nat→Nat→Hn→Hn
 |_,0,x=>x
 |i,k+1,x=>.h m [i] T (hr m T (i+1) k x) .e
def hN:Nat→Hn→Hn
 |0,x=>x
 |k+1,x=>.n .e (hN k x)
abbrev iv(n:Int):Value:=.int .i64 n
def L10(g:Gh)(a0 a1 a2:Value)(H:Hp)(R:Rt):Prop:=
aW .i64 a0 fun v1=>
ae .num .rem v1 (iv 6) fun v2=>
ae .num .add (iv 1) v2 fun v3=>
CF g 12 #[v3,a1] H (fun v4 H5=>
ae .ptr .eql v4 (.pointer none) fun v6=>
Br v6 (
R (.returned (Value.bool false)) H5) (
Nil v4 fun v7=>
aa 0 v7 fun v8=>
Ld H5 v8 fun v9=>
CF g 15 #[v9] H5 (fun v10 dy=>
Nil v4 fun bf=>
aa 0 bf fun aZ=>
Ld dy aZ fun bh=>
CF g 25 #[bh] dy (fun bA kg=>
Ext 0 bA fun bF=>
Ext 1 bA fun bX=>
aX kg (.cells #[(iv 0),(iv 0),(iv 0),(Value.bool false)] 42 (0,0)) fun kX iy=>
St 4 iy (pt kX) bF fun fm=>
CF g 43 #[v3,a2] fm (fun cq kD=>
Nil v4 fun cy=>
aa 3 cy fun cD=>
Ld kD cD fun cM=>
CF g 38 #[cM,cq] kD (fun cP mO=>
Ext 0 cP fun cL=>
Ext 1 cP fun v30=>
∀yf:Jt,(∀x6:Value,∀iH:Hp,(∀Ti:Fr,
Br x6 (
R (.returned (Value.bool false)) iH) (
Nil v4 fun eW=>
aa 0 eW fun dn=>
Ld iH dn fun dU=>
CF g 25 #[dU] iH (fun gk Gj=>
Ext 0 gk fun gj=>
Ext 1 gk fun fD=>
aX Gj (.cells #[(iv 0),(iv 0),(iv 0),(Value.bool false)] 42 (0,0)) fun Xc kZ=>
St 4 kZ (pt Xc) gj fun NF=>
CF g 40 #[v3,v10,(Value.int .u8 6)] NF (fun g6 qE=>
Ext 0 g6 fun jA=>
Ext 1 g6 fun iz=>
ae .num .eql fD (iv 0) fun k9=>
bT k9 true (fun t50=>
ae .num .eql iz (iv 0) fun jM=>
(qE=qE∧jM=Value.bool t50)) (fun t50=>(Value.bool false)=Value.bool t50) fun t50=>∀ag7:Fr,
bT (Value.bool t50) true (fun t53=>
aa 2 (pt Xc) fun wB=>
Ld qE wB fun oU=>
ae .num .eql oU (iv 0) fun r9=>
(qE=qE∧r9=Value.bool t53)) (fun t53=>(Value.bool false)=Value.bool t53) fun t53=>∀abp:Fr,
bT (Value.bool t53) true (fun t58=>
aa 3 (pt Xc) fun rj=>
Ld qE rj fun ri=>
(qE=qE∧ri=Value.bool t58)) (fun t58=>(Value.bool false)=Value.bool t58) fun t58=>∀WX:Fr,
bT (Value.bool t58) true (fun t62=>
aa 1 (pt Xc) fun rh=>
Ld qE rh fun yo=>
aa 1 (pt kX) fun q9=>
Ld qE q9 fun uD=>
ae .num .eql yo uD fun wz=>
(qE=qE∧wz=Value.bool t62)) (fun t62=>(Value.bool false)=Value.bool t62) fun t62=>∀abn:Fr,
bT (Value.bool t62) true (fun t69=>
aa 2 (pt kX) fun uf=>
Ld qE uf fun ym=>
ae .num .leq ym jA fun uA=>
(qE=qE∧uA=Value.bool t69)) (fun t69=>(Value.bool false)=Value.bool t69) fun t69=>∀ag1:Fr,
R (.returned (Value.bool t69)) qE) (au R)) (au R)))→yf [x6] iH)→
DR mO fun PT=>
ae .num .neq bX (iv 0) fun uz=>
Br uz (
JE yf [(Value.bool true)] mO) (
ae .num .neq v30 (iv 0) fun Au=>
aF (Value.bool false) (Value.bool true) Au fun AS=>
Br AS (
JE yf [(Value.bool true)] mO) (
aa 3 (pt kX) fun uy=>
Ld PT uy fun ux=>
Un .not ux fun E0=>
aF (Value.bool false) (Value.bool true) E0 fun As=>
Br As (
JE yf [(Value.bool true)] mO) (
aa 0 (pt kX) fun uv=>
Ld PT uv fun GC=>
ae .num .neq GC v10 fun Ar=>
aF (Value.bool false) (Value.bool true) Ar fun u7=>
Br u7 (
JE yf [(Value.bool true)] mO) (
aa 1 (pt kX) fun GB=>
Ld PT GB fun JI=>
Nil v4 fun GA=>
aa 0 GA fun EZ=>
Ld PT EZ fun AR=>
∀F91:Hp,
CF (g.add F91) 15 #[AR] mO (fun AQ TZ=>
aQ TZ PT∧
ae .num .neq JI AQ fun Jc=>
aF (Value.bool false) (Value.bool true) Jc fun UW=>
Br UW (
JE yf [(Value.bool true)] TZ) (
aa 1 (pt kX) fun NJ=>
Ld PT NJ fun Ri=>
ae .num .gtr Ri cL fun JH=>
aF (Value.bool false) (Value.bool true) JH fun NI=>
Br NI (
JE yf [(Value.bool true)] TZ) (
aa 1 (pt kX) fun uG=>
Ld PT uG fun AZ=>
aa 0 (pt kX) fun si=>
Ld PT si fun sg=>
ae .num .gtr AZ sg fun yq=>
aF (Value.bool false) (Value.bool true) yq fun wC=>
Br wC (
JE yf [(Value.bool true)] TZ) (
∀T3:Hp,
CF (g.add T3) 21 #[v4] TZ (fun sb P3=>
aQ P3 PT∧
Un .not sb fun uF=>
aF (Value.bool false) (Value.bool true) uF fun Ru=>
JE yf [Ru] P3) br)))) br))))) (au R)) (au R)) (au R)) (au R))) (au R)
theorem IV(h:L10 g a0 a1 a2 H R):ag Tryz.prog g 10 #[a0,a1,a2] H R:=
 aj (hn:=(hN 8 (.n (.h 1 [97] [7,8,9,10] (.h 1 [] [] (hr 0 [1] 0 2 (.h 2 [2] [] (hr 0 [1] 3 2 (hr 3 [1] 5 2 (hr 0 [1] 7 3 (hr 3 [1] 10 2 (hr 0 [1] 12 4 (hr 3 [1] 16 2 (hr 0 [1] 18 8 (hr 3 [1] 26 2 (hr 0 [1] 28 4 (hr 3 [1] 32 2 (hr 0 [1] 34 5 (hr 3 [1] 39 2 (hr 0 [1] 41 3 (.h 3 [44] [1] .e .e)))))))))))))) (hr 0 [1] 3 3 (.h 2 [6] [] (hr 0 [1] 7 3 (hr 3 [1] 10 2 (hr 0 [1] 12 4 (hr 3 [1] 16 2 (hr 0 [1] 18 8 (hr 3 [1] 26 2 (hr 0 [1] 28 4 (hr 3 [1] 32 2 (hr 0 [1] 34 5 (hr 3 [1] 39 2 (hr 0 [1] 41 3 (.h 3 [44] [1] .e .e)))))))))))) (hr 0 [1] 7 4 (.h 2 [11] [] (hr 0 [1] 12 4 (hr 3 [1] 16 2 (hr 0 [1] 18 8 (hr 3 [1] 26 2 (hr 0 [1] 28 4 (hr 3 [1] 32 2 (hr 0 [1] 34 5 (hr 3 [1] 39 2 (hr 0 [1] 41 3 (.h 3 [44] [1] .e .e)))))))))) (hr 0 [1] 12 5 (.h 2 [17] [] (hr 0 [1] 18 8 (hr 3 [1] 26 2 (hr 0 [1] 28 4 (hr 3 [1] 32 2 (hr 0 [1] 34 5 (hr 3 [1] 39 2 (hr 0 [1] 41 3 (.h 3 [44] [1] .e .e)))))))) (hr 0 [1] 18 9 (.h 2 [27] [] (hr 0 [1] 28 4 (hr 3 [1] 32 2 (hr 0 [1] 34 5 (hr 3 [1] 39 2 (hr 0 [1] 41 3 (.h 3 [44] [1] .e .e)))))) (hr 0 [1] 28 5 (.h 2 [33] [] (hr 0 [1] 34 5 (hr 3 [1] 39 2 (hr 0 [1] 41 3 (.h 3 [44] [1] .e .e)))) (hr 0 [1] 34 6 (.h 2 [40] [] (hr 0 [1] 41 3 (.h 3 [44] [1] .e .e)) (hr 0 [1] 41 4 .e))))))))))))))) .e) .e) (.n .e (.n .e (.n (.h 0 [] [1] .e .e) .e)))))) Tryz.func10 h (by kernel_rfl)
def L12(g:Gh)(a0 a1:Value)(H:Hp)(R:Rt):Prop:=
CF g 54 #[a0,(iv 4000)] H (fun v1 H2=>
ae .ptr .eql v1 (.pointer none) fun v3=>
Br v3 (
R (.returned (.pointer none)) H2) (
∃(I4:Jt) (m5:Mt),JE I4 [(iv 0)] H2∧∀w8:Value,∀H7:Hp,I4 [w8] H7→∀Tg:Fr,
ae .num .lss w8 a0 fun v9=>
Br v9 (
aW .u8 w8 fun v10=>
Build Tryz.prog 106 [(0,(Value.int .u8 0)),(1,v10)] fun v11=>
CF g 55 #[v1,v11] H7 (fun bf fg=>
Un .not bf fun bh=>
Br bh (
R (.returned (.pointer none)) fg) (
ae .num .add w8 (iv 1) fun bA=>
aD I4 m5 [bA] fg [w8] H7)) (au R)) (
Nil v1 fun bu=>
aa 2 bu fun bF=>
Ld H7 bF fun bX=>
aY bX fun bP=>
ae .num .neq bP a0 fun v20=>
Br v20 (
R (.returned (.pointer none)) H7) (
∃(TU:Jt) (Zz:Mt),JE TU [(iv 0)] H7∧∀lS:Value,∀gv:Hp,TU [lS] gv→∀Pa:Fr,
aY a1 fun cM=>
ae .num .lss lS cM fun cP=>
bT cP true (fun t28=>
ae .num .lss lS (iv 30) fun cL=>
(gv=gv∧cL=Value.bool t28)) (fun t28=>(Value.bool false)=Value.bool t28) fun t28=>∀Tj:Fr,
Br (Value.bool t28) (
ai 6 a1 lS fun dW=>
aC 6 gv dW fun dV=>
CF g 55 #[v1,dV] gv (fun eZ pY=>
Un .not eZ fun eW=>
Br eW (
R (.returned (.pointer none)) pY) (
ae .num .add lS (iv 1) fun dn=>
aD TU Zz [dn] pY [lS] gv)) (au R)) (
R (.returned v1) gv))))) (au R)
theorem IU(h:L12 g a0 a1 H R):ag Tryz.prog g 12 #[a0,a1] H R:=
 aj (hn:=(hN 3 (.n (.n .e (.n (.h 0 [6] [0,1,5] .e .e) .e)) (.n .e (.n (.n .e (.n (.h 0 [7] [1,5] (.n (.n (.h 0 [] [1] .e .e) .e) .e) .e) .e)) .e))))) Tryz.func12 h (by kernel_rfl)
def L13(g:Gh)(a0:Value)(H:Hp)(R:Rt):Prop:=
ae .ptr .eql a0 (.pointer none) fun v1=>
Br v1 (
R (.returned (.slice none 0 0)) H) (
Nil a0 fun v2=>
aa 5 v2 fun v3=>
Ld H v3 fun v4=>
CF g 57 #[v4] H (fun v5 H6=>
R (.returned v5) H6) (au R))
theorem IT(h:L13 g a0 H R):ag Tryz.prog g 13 #[a0] H R:=
 aj (hn:=.e) Tryz.func13 h (by kernel_rfl)
def L15(g:Gh)(a0:Value)(H:Hp)(R:Rt):Prop:=
ae .ptr .eql a0 (.pointer none) fun v1=>
Br v1 (
R (.returned (iv 0)) H) (
Nil a0 fun v2=>
aa 0 v2 fun v3=>
aa 0 v3 fun v4=>
Ld H v4 fun v5=>
CF g 58 #[v5] H (fun v6 H7=>
ae .num .sub v6 (iv 2) fun v8=>
R (.returned v8) H7) (au R))
theorem IS(h:L15 g a0 H R):ag Tryz.prog g 15 #[a0] H R:=
 aj (hn:=.e) Tryz.func15 h (by kernel_rfl)
def L17(g:Gh)(a0 a1:Value)(H:Hp)(R:Rt):Prop:=
ae .ptr .eql a0 (.pointer none) fun v1=>
Br v1 (
R (.returned (iv 10)) H) (
ae .num .lss a1 (iv 0) fun v2=>
bT v2 false (fun t3=>
Nil a0 fun v4=>
aa 4 v4 fun v5=>
Ld H v5 fun v6=>
ae .num .sub v6 (iv 2) fun v7=>
ae .num .gtr a1 v7 fun v8=>
(H=H∧v8=Value.bool t3)) (fun t3=>(Value.bool true)=Value.bool t3) fun t3=>∀Tf:Fr,
Br (Value.bool t3) (
R (.returned (iv 1)) H) (
CF g 59 #[a0,a1] H (fun v10 dy=>
Un .not v10 fun bf=>
Br bf (
R (.returned (iv 9)) dy) (
Nil a0 fun aZ=>
aa 7 aZ fun bh=>
Ld dy bh fun bA=>
av Tryz.prog 25 1 [(0,a1)] dy fun bu eO=>
App Tryz.prog 3 1 8 (iv 0) eO bA bu fun v20 fm=>
Nil a0 fun cq=>
aa 7 cq fun bV=>
St 1 fm bV v20 fun gv=>
R (.returned (iv 0)) gv)) (au R)))
theorem IQ(h:L17 g a0 a1 H R):ag Tryz.prog g 17 #[a0,a1] H R:=
 aj (hn:=(.n .e (.n (.n (.n .e (.n .e (.n (.h 0 [] [1] .e .e) .e))) .e) .e))) Tryz.func17 h (by kernel_rfl)
def L18(g:Gh)(a0:Value)(H:Hp)(R:Rt):Prop:=
ae .ptr .eql a0 (.pointer none) fun v1=>
bT v1 false (fun t2=>
Nil a0 fun v3=>
aa 7 v3 fun v4=>
Ld H v4 fun v5=>
aY v5 fun v6=>
ae .num .eql v6 (iv 0) fun v7=>
(H=H∧v7=Value.bool t2)) (fun t2=>(Value.bool true)=Value.bool t2) fun t2=>∀O9:Fr,
Br (Value.bool t2) (
R (.returned (.tuple #[(iv 0),(iv 10)])) H) (
Nil a0 fun v9=>
aa 7 v9 fun v10=>
Ld H v10 fun v11=>
aY v11 fun bf=>
ae .num .sub bf (iv 1) fun aZ=>
Nil a0 fun bh=>
aa 7 bh fun bA=>
Ld H bA fun bu=>
ai 1 bu aZ fun bF=>
Ld H bF fun bX=>
CF g 59 #[a0,bX] H (fun bP iy=>
Nil a0 fun bW=>
aa 7 bW fun cq=>
Ld iy cq fun bV=>
gf 1 bV none (some aZ) fun cy=>
Nil a0 fun cD=>
aa 7 cD fun cM=>
St 1 iy cM cy fun gr=>
R (.returned (.tuple #[bX,(iv 0)])) gr) (au R))
theorem IP(h:L18 g a0 H R):ag Tryz.prog g 18 #[a0] H R:=
 aj (hn:=(.n .e (.n (.n (.h 0 [] [1] .e .e) .e) .e))) Tryz.func18 h (by kernel_rfl)
variable {g:Gh} {a0 a1 a2 a3 a4 a5 a6 a7 a8 a9 rF rE Xl Xk Xj Xi:Value} {H:Hp} {R:Rt}
def L21(g:Gh)(a0:Value)(H:Hp)(R:Rt):Prop:=
∀J1:Jt,(∀w4:Value,∀H3:Hp,(∀W3:Fr,
Br w4 (
R (.returned (Value.bool false)) H3) (
∃(I5:Jt) (m6:Mt),JE I5 [(iv 0)] H3∧∀w9:Value,∀H8:Hp,I5 [w9] H8→∀QZ:Fr,
Nil a0 fun v10=>
aa 2 v10 fun v11=>
Ld H8 v11 fun bf=>
aY bf fun aZ=>
ae .num .lss w9 aZ fun bh=>
Br bh (
DR H8 fun UI=>
Nil a0 fun bu=>
aa 2 bu fun bF=>
Ld UI bF fun bX=>
ai 1 bX w9 fun bP=>
Ld UI bP fun v20=>
Nil a0 fun bW=>
aa 3 bW fun cq=>
Ld UI cq fun bV=>
ai 2 bV w9 fun cy=>
aC 2 UI cy fun cD=>
Nil a0 fun cM=>
aa 1 cM fun cP=>
Ld UI cP fun dc=>
ae .num .mul (iv 2) dc fun cL=>
ae .num .add cL (iv 2) fun v30=>
CF g 66 #[a0,v20,cD,v30] H8 (fun dW oM=>
aQ oM UI∧
Un .not dW fun eZ=>
Br eZ (
R (.returned (Value.bool false)) oM) (
∃(I34:Jt) (m35:Mt),JE I34 [(iv 0)] oM∧∀Rg:Value,∀pX:Hp,I34 [Rg] pX→∀abu:Fr,
ae .num .lss Rg w9 fun gi=>
Br gi (
DR pX fun PU=>
Nil a0 fun fD=>
aa 2 fD fun gx=>
Ld PU gx fun gh=>
ai 1 gh w9 fun gA=>
Ld PU gA fun g6=>
Nil a0 fun gN=>
aa 2 gN fun jA=>
Ld PU jA fun iz=>
ai 1 iz Rg fun k9=>
Ld PU k9 fun kG=>
ae .num .eql g6 kG fun jM=>
Nil a0 fun lT=>
aa 3 lT fun uE=>
Ld PU uE fun wB=>
ai 2 wB w9 fun oU=>
aC 2 PU oU fun r9=>
Nil a0 fun rK=>
aa 3 rK fun wA=>
Ld PU wA fun rj=>
ai 2 rj Rg fun ri=>
aC 2 PU ri fun r8=>
CF g 67 #[r9,r8] pX (fun vb NC=>
aQ NC PU∧
ae .bool .neq jM vb fun yo=>
Br yo (
R (.returned (Value.bool false)) NC) (
ae .num .add Rg (iv 1) fun q9=>
aD I34 m35 [q9] NC [Rg] pX)) br) (
ae .num .add w9 (iv 1) fun uD=>
aD I5 m6 [uD] pX [w9] H8))) br) (
R (.returned (Value.bool true)) H8)))→J1 [w4] H3)→
DR H fun Ca=>
Nil a0 fun uC=>
aa 0 uC fun uB=>
Ld Ca uB fun uf=>
∀F71:Hp,
CF (g.add F71) 15 #[uf] H (fun uA wu=>
aQ wu Ca∧
∀F74:Hp,
CF (g.add F74) 64 #[a0,(.slice none 0 0)] wu (fun uz ud=>
aQ ud Ca∧
ae .num .neq uA uz fun AS=>
Br AS (
JE J1 [(Value.bool true)] ud) (
Nil a0 fun uy=>
aa 0 uy fun ux=>
Ld Ca ux fun E0=>
Nil a0 fun As=>
aa 0 As fun uv=>
Ld Ca uv fun GC=>
∀F84:Hp,
CF (g.add F84) 15 #[E0] ud (fun u7 YM=>
aQ YM Ca∧
ae .num .add u7 (iv 2) fun JI=>
∀F88:Hp,
CF (g.add F88) 65 #[GC] YM (fun EZ YK=>
aQ YK Ca∧
ae .num .gtr JI EZ fun x9=>
aF (Value.bool false) (Value.bool true) x9 fun AQ=>
JE J1 [AQ] YK) br) br)) br) br
theorem IN(h:L21 g a0 H R):ag Tryz.prog g 21 #[a0] H R:=
 aj (hn:=(.n .e (.n (.h 1 [26] [0] (.h 1 [] [] (hr 0 [] 0 4 (.h 0 [5] [] (.h 0 [4] [] (hr 0 [] 6 2 (.h 2 [8] [] (hr 0 [] 9 12 (.h 3 [21] [] .e .e)) (hr 0 [] 9 4 (hr 0 [] 15 4 (hr 0 [] 13 2 (hr 0 [] 19 3 .e)))))) .e) .e)) .e) .e) (.n (.n .e (.n (.h 0 [3] [0] (.n .e (.n (.n (.n (.n (.h 0 [0,1,2,3,4,5,6,7,8,9,10,11,12,13,14,15,16,17,18,19,20,21,22] [] .e .e) .e) (.n .e (.n (.h 0 [4] [0,3] (.n .e (.n (.n (.n (.h 0 [0,1,2,3,4,5,6,7,8,9,10,11,12,13,14,15,16,17,18,19,20,21,22,23,24,25,26,27,28,29,30] [] .e .e) .e) .e) .e)) .e) .e))) .e) .e)) .e) .e)) .e)))) Tryz.func21 h (by kernel_rfl)
def L25(g:Gh)(a0:Value)(H:Hp)(R:Rt):Prop:=
aX H (.cells #[(iv 0),(iv 0),(iv 0),(Value.bool false)] 42 (0,0)) fun b1 H2=>
ae .ptr .eql a0 (.pointer none) fun v3=>
Br v3 (
Build Tryz.prog 42 [] fun v4=>
St 4 H2 (pt b1) v4 fun H5=>
aC 4 H5 (pt b1) fun v6=>
R (.returned (.tuple #[v6,(iv 10)])) H5) (
CF g 61 #[a0] H2 (fun v7 H8=>
ae .num .gtr v7 (iv 12) fun v9=>
Br v9 (
Build Tryz.prog 42 [] fun v10=>
St 4 H8 (pt b1) v10 fun dy=>
aC 4 dy (pt b1) fun bf=>
R (.returned (.tuple #[bf,(iv 6)])) dy) (
CF g 70 #[a0] H8 (fun aZ gg=>
aY aZ fun bA=>
∃(I16:Jt) (m17:Mt),JE I16 [(.slice none 0 0),(iv 0)] gg∧∀nN yl:Value,∀jh:Hp,I16 [nN,yl] jh→∀Pb:Fr,
ae .num .lss yl bA fun cq=>
Br cq (
ai 1 aZ yl fun bV=>
Ld jh bV fun cy=>
CF g 71 #[a0,cy] jh (fun cD gI=>
Ext 0 cD fun cP=>
Ext 1 cD fun dc=>
aX gI (.cells #[(iv 0),(.slice none 0 0)] 57 (0,0)) fun YF kf=>
St 2 kf (pt YF) cP fun jg=>
aC 2 jg (pt YF) fun dV=>
av Tryz.prog 28 1 [(0,dV)] jg fun eZ pY=>
App Tryz.prog 57 2 32 (.agg #[(iv 0),(.slice none 0 0)]) pY nN eZ fun dU pW=>
ae .num .add yl (iv 1) fun gi=>
aD I16 m17 [dU,gi] pW [nN,yl] jh) (au R)) (
CF g 15 #[a0] jh (fun gj u4=>
CF g 26 #[nN] u4 (fun gx kZ=>
Ext 0 gx fun gA=>
Ext 1 gx fun g6=>
Ext 2 gx fun gN=>
ae .num .eql gj gA fun jA=>
Br jA (
Build Tryz.prog 42 [(0,gj),(1,gj),(3,(Value.bool true))] fun iz=>
St 4 kZ (pt b1) iz fun q7=>
aC 4 q7 (pt b1) fun kG=>
R (.returned (.tuple #[kG,(iv 0)])) q7) (
CF g 42 #[a0,g6] kZ (fun jM H52=>
Ext 0 jM fun uE=>
Ext 1 jM fun wB=>
CF g 15 #[a0] H52 (fun oU Jq=>
ae .num .eql wB (iv 0) fun rK=>
Build Tryz.prog 42 [(0,gj),(1,oU),(2,uE),(3,rK)] fun wA=>
St 4 Jq (pt b1) wA fun XN=>
aC 4 XN (pt b1) fun ri=>
R (.returned (.tuple #[ri,(iv 0)])) XN) (au R)) (au R))) (au R)) (au R))) (au R))) (au R))
theorem IM(h:L25 g a0 H R):ag Tryz.prog g 25 #[a0] H R:=
 aj (hn:=(hN 4 (.n (.n .e (.n (.h 0 [4,25] [0,2,23,24] .e .e) .e)) .e))) Tryz.func25 h (by kernel_rfl)
def L26(g:Gh)(a0:Value)(H:Hp)(R:Rt):Prop:=
CF g 72 #[a0] H (fun v1 H2=>
Ext 0 v1 fun v3=>
Ext 1 v1 fun v4=>
ae .num .neq v4 (iv 0) fun v5=>
Br v5 (
R (.returned (.tuple #[(iv 0),(.slice none 0 0),v4])) H2) (
Nil v3 fun v6=>
aa 1 v6 fun v7=>
Ld H2 v7 fun v8=>
ae .num .gtr v8 (iv 12) fun v9=>
Br v9 (
R (.returned (.tuple #[(iv 0),(.slice none 0 0),(iv 6)])) H2) (
∃(Jp:Jt) (Ue:Mt),JE Jp [(.slice none 0 0),(iv 0)] H2∧∀nB rJ:Value,∀fg:Hp,Jp [nB,rJ] fg→∀LZ:Fr,
aY nB fun bu=>
Nil v3 fun bF=>
aa 1 bF fun bX=>
Ld fg bX fun bP=>
ae .num .lss bu bP fun v20=>
Br v20 (
Nil v3 fun bW=>
aa 1 bW fun cq=>
Ld fg cq fun bV=>
∃(I24:Jt) (m25:Mt),JE I24 [nB,rJ,(iv 0)] fg∧∀EX Gx wy:Value,∀gr:Hp,I24 [EX,Gx,wy] gr→∀Tl:Fr,
ae .num .lss wy bV fun dW=>
Br dW (
∀J32:Jt,(∀P6:Value,∀pY:Hp,(∀ahc:Fr,
Br P6 (
av Tryz.prog 25 1 [(0,wy)] pY fun dn pX=>
App Tryz.prog 3 1 8 (iv 0) pX EX dn fun gj u4=>
ae .num .shl (iv 1) wy fun gx=>
ae .num .or Gx gx fun gh=>
aD Jp Ue [gj,gh] u4 [nB,rJ] fg) (
ae .num .add wy (iv 1) fun gA=>
aD I24 m25 [EX,Gx,gA] pY [EX,Gx,wy] gr))→J32 [P6] pY)→
DR gr fun YG=>
ae .num .shr Gx wy fun gN=>
ae .num .and gN (iv 1) fun jA=>
ae .num .eql jA (iv 0) fun iz=>
Br iz (
ae .num .shl (iv 1) wy fun k9=>
ae .num .or Gx k9 fun kG=>
∀F51:Hp,
CF (g.add F51) 73 #[v3,Gx,wy] gr (fun lT Js=>
∀F54:Hp,
CF (g.add F54) 74 #[v3,kG] Js (fun oU Jq=>
ae .num .add lT oU fun rK=>
∀F58:Hp,
CF (g.add F58) 74 #[v3,Gx] Jq (fun rj YP=>
ae .num .eql rK rj fun r8=>
aF (Value.bool true) r8 (Value.bool false) fun vb=>
JE J32 [vb] YP) br) br) br) (
JE J32 [(Value.bool false)] gr)) (
aD Jp Ue [EX,Gx] gr [nB,rJ] fg)) (
CF g 74 #[v3,(iv 0)] fg (fun rh Gi=>
R (.returned (.tuple #[rh,nB,(iv 0)])) Gi) (au R))))) (au R)
theorem IL(h:L26 g a0 H R):ag Tryz.prog g 26 #[a0] H R:=
 aj (hn:=(hN 6 (.n (.n (.h 0 [7,8] [5] (.n .e (.n (.n .e (.n (.h 0 [7,8,34] [5,33] (.n .e (.n .e (.n (.n (.n .e (.h 1 [58] [5,7,8,9,33,34] (.h 1 [] [] (hr 0 [] 0 5 (.h 2 [5] [] (hr 0 [] 6 3 (hr 0 [] 10 5 (hr 0 [] 17 2 (.h 0 [9] [] (hr 0 [] 15 2 (hr 0 [] 19 3 .e)) .e)))) (hr 0 [] 6 15 (.h 3 [21] [] .e .e)))) .e) .e)) .e) .e))) .e) .e)) .e)) .e) .e) .e))) Tryz.func26 h (by kernel_rfl)
def L34(g:Gh)(a0:Value)(H:Hp)(R:Rt):Prop:=
ae .ptr .eql a0 (.pointer none) fun v1=>
Br v1 (
R (.returned (iv 0)) H) (
Nil a0 fun v2=>
aa 7 v2 fun v3=>
Ld H v3 fun v4=>
aY v4 fun v5=>
R (.returned v5) H)
theorem IK(h:L34 g a0 H R):ag Tryz.prog g 34 #[a0] H R:=
 aj (hn:=.e) Tryz.func34 h (by kernel_rfl)
def L38(g:Gh)(a0 a1:Value)(H:Hp)(R:Rt):Prop:=
CF g 99 #[a0,a1] H (fun v1 H2=>
Ext 0 v1 fun v3=>
Ext 1 v1 fun v4=>
aY v3 fun v5=>
∃(I6:Jt) (m7:Mt),JE I6 [(iv 0),(iv 0)] H2∧∀r7 kF:Value,∀H9:Hp,I6 [r7,kF] H9→∀O9:Fr,
ae .num .lss kF v5 fun bf=>
Br bf (
ai 1 v3 kF fun aZ=>
Ld H9 aZ fun bh=>
ae .num .add r7 bh fun bA=>
ae .num .add kF (iv 1) fun bu=>
aD I6 m7 [bA,bu] H9 [r7,kF] H9) (
R (.returned (.tuple #[r7,v4])) H9)) (au R)
theorem IJ(h:L38 g a0 a1 H R):ag Tryz.prog g 38 #[a0,a1] H R:=
 aj (hn:=(hN 3 (.n (.n .e (.n (.h 0 [8,19] [7,17,18] .e .e) .e)) .e))) Tryz.func38 h (by kernel_rfl)
def L40(g:Gh)(a0 a1 a2:Value)(H:Hp)(R:Rt):Prop:=
ae .num .lss a0 (iv 1) fun v1=>
bT v1 false (fun t2=>
ae .num .gtr a0 (iv 64) fun v3=>
(H=H∧v3=Value.bool t2)) (fun t2=>(Value.bool true)=Value.bool t2) fun t2=>∀Jl:Fr,
bT (Value.bool t2) false (fun t5=>
ae .num .lss a1 (iv 0) fun v6=>
(H=H∧v6=Value.bool t5)) (fun t5=>(Value.bool true)=Value.bool t5) fun t5=>∀QZ:Fr,
bT (Value.bool t5) false (fun t8=>
ae .num .gtr a1 (iv 1048576) fun v9=>
(H=H∧v9=Value.bool t8)) (fun t8=>(Value.bool true)=Value.bool t8) fun t8=>∀tf:Fr,
bT (Value.bool t8) false (fun t11=>
ae .num .gtr a2 (Value.int .u8 6) fun bf=>
(H=H∧bf=Value.bool t11)) (fun t11=>(Value.bool true)=Value.bool t11) fun t11=>∀Tq:Fr,
Br (Value.bool t11) (
R (.returned (.tuple #[(iv 0),(iv 1)])) H) (
ae .num .eql a2 (Value.int .u8 1) fun bh=>
Br bh (
ae .num .mul (iv 3) a0 fun bA=>
ae .num .sub a0 (iv 1) fun bu=>
ae .num .mul bA bu fun bF=>
R (.returned (.tuple #[bF,(iv 0)])) H) (
ae .num .eql a2 (Value.int .u8 2) fun bX=>
Br bX (
ae .num .mul (iv 3) a0 fun bP=>
ae .num .sub a0 (iv 1) fun v20=>
ae .num .mul bP v20 fun bW=>
ae .num .add a1 (iv 1) fun cq=>
ae .num .mul bW cq fun bV=>
R (.returned (.tuple #[bV,(iv 0)])) H) (
∀XK:Jt,(∀P8:Value,∀gI:Hp,(∀aby:Fr,
Br P8 (
CF g 100 #[a2] gI (fun dc lM=>
∃(TR:Jt) (Zv:Mt),JE TR [(iv 1),(iv 2)] lM∧∀x6 P6:Value,∀iH:Hp,TR [x6,P6] iH→∀Ti:Fr,
ae .num .leq P6 dc fun dn=>
Br dn (
ae .num .mul x6 P6 fun dU=>
ae .num .add P6 (iv 1) fun gk=>
aD TR Zv [dU,gk] iH [x6,P6] iH) (
ae .num .sub a0 dc fun gi=>
ae .num .add gi (iv 1) fun gj=>
MT (iv 0) gj fun fD=>
ae .num .mul fD (iv 2) fun gx=>
ae .num .sub x6 (iv 1) fun gh=>
ae .num .mul gx gh fun gA=>
R (.returned (.tuple #[gA,(iv 0)])) iH)) (au R)) (
ae .num .eql a2 (Value.int .u8 6) fun g6=>
Br g6 (
ae .num .sub a0 (iv 1) fun gN=>
ae .num .mul a0 gN fun jA=>
R (.returned (.tuple #[jA,(iv 0)])) gI) (
R (.returned (.tuple #[(iv 0),(iv 0)])) gI)))→XK [P8] gI)→
ae .num .eql a2 (Value.int .u8 3) fun iz=>
Br iz (
JE XK [iz] H) (
ae .num .eql a2 (Value.int .u8 4) fun k9=>
Br k9 (
JE XK [k9] H) (
ae .num .eql a2 (Value.int .u8 5) fun kG=>
JE XK [kG] H)))))
theorem II(h:L40 g a0 a1 a2 H R):ag Tryz.prog g 40 #[a0,a1,a2] H R:=
 aj (hn:=(.n .e (.n (.n (.h 0 [] [1] .e .e) .e) (.n .e (.n (.n .e (.n (hN 4 (.h 1 [49] [2,8,31] .e (.n (.n .e (.n .e (.n (.n .e (.n (.h 0 [10,11] [8,9] .e .e) .e)) .e))) .e))) .e)) .e))))) Tryz.func40 h (by kernel_rfl)
def L42(g:Gh)(a0 a1:Value)(H:Hp)(R:Rt):Prop:=
ae .ptr .eql a0 (.pointer none) fun v1=>
Br v1 (
R (.returned (.tuple #[(iv 0),(iv 10)])) H) (
∀J2:Jt,(∀w5:Value,∀H4:Hp,(∀WY:Fr,
Br w5 (
R (.returned (.tuple #[(iv 0),(iv 4)])) H4) (
CF g 13 #[a0] H4 (fun v6 H7=>
CF g 102 #[v6,a1] H7 (fun v8 H9=>
Ext 0 v8 fun v10=>
Ext 1 v8 fun v11=>
ae .num .neq v11 (iv 0) fun bf=>
Br bf (
R (.returned (.tuple #[(iv 0),v11])) H9) (
CF g 103 #[a0,v10] H9 (fun aZ gg=>
Ext 0 aZ fun bA=>
Ext 1 aZ fun bu=>
R (.returned (.tuple #[bA,bu])) gg) (au R))) (au R)) (au R)))→J2 [w5] H4)→
CF g 101 #[a1] H (fun bF dm=>
ae .num .neq bF (iv 0) fun bP=>
Split bP false (
aY a1 fun v20=>
CF g 61 #[a0] dm (fun bW gw=>
ae .num .neq v20 bW fun bV=>
aF (Value.bool false) (Value.bool true) bV fun cy=>
JE J2 [cy] gw) (au R)) (
aF (Value.bool true) (Value.bool true) undef fun cD=>
JE J2 [cD] dm)) (au R))
theorem IG(h:L42 g a0 a1 H R):ag Tryz.prog g 42 #[a0,a1] H R:=
 aj (hn:=(.n .e (.n .e (.n (.h 1 [19] [0,1] .e .e) .e)))) Tryz.func42 h (by kernel_rfl)
def L43(g:Gh)(a0 a1:Value)(H:Hp)(R:Rt):Prop:=
∃(I1:Jt) (m2:Mt),JE I1 [(.slice none 0 0),(iv 0)] H∧∀w5 w6:Value,∀H4:Hp,I1 [w5,w6] H4→∀WY:Fr,
ae .num .lss w6 a0 fun v7=>
Br v7 (
av Tryz.prog 25 1 [(0,w6)] H4 fun v8 H9=>
App Tryz.prog 3 1 8 (iv 0) H9 w5 v8 fun bf fg=>
ae .num .add w6 (iv 1) fun bh=>
aD I1 m2 [bf,bh] fg [w5,w6] H4) (
∃(TV:Jt) (ZA:Mt),JE TV [w5,(.slice none 0 0),(iv 0)] H4∧∀q8 nN yl:Value,∀dm:Hp,TV [q8,nN,yl] dm→∀Pc:Fr,
ae .num .lss yl a0 fun cq=>
Br cq (
∀Nz:Jt,(∀lN:Value,∀gu:Hp,(∀Tm:Fr,
ai 1 q8 lN fun cP=>
Ld gu cP fun dc=>
av Tryz.prog 25 1 [(0,dc)] gu fun cL kf=>
App Tryz.prog 3 1 8 (iv 0) kf nN cL fun eZ pY=>
aY q8 fun eW=>
ae .num .sub eW (iv 1) fun dn=>
ai 1 q8 dn fun dU=>
Ld pY dU fun gk=>
ai 1 q8 lN fun gi=>
St 1 pY gi gk fun j9=>
aY q8 fun fD=>
ae .num .sub fD (iv 1) fun gx=>
gf 1 q8 none (some gx) fun gh=>
ae .num .add yl (iv 1) fun gA=>
aD TV ZA [gh,eZ,gA] j9 [q8,nN,yl] dm)→Nz [lN] gu)→
aY a1 fun g6=>
ae .num .lss yl g6 fun gN=>
Br gN (
ai 1 a1 yl fun jA=>
Ld dm jA fun iz=>
aW .i64 iz fun k9=>
aY q8 fun kG=>
ae .num .rem k9 kG fun jM=>
JE Nz [jM] dm) (
JE Nz [(iv 0)] dm)) (
R (.returned nN) dm))
theorem IF(h:L43 g a0 a1 H R):ag Tryz.prog g 43 #[a0,a1] H R:=
 aj (hn:=(.n .e (.n .e (.n (.n .e (.n (.h 0 [5,6] [0,1] .e .e) .e)) (.n .e (.n (.n .e (.n (.h 0 [5,7,8] [0,1] (.n .e (.n (.n (.n .e (.h 1 [9] [0,1,5,7,8] .e .e)) .e) .e)) .e) .e)) .e)))))) Tryz.func43 h (by kernel_rfl)
def L46(g:Gh)(a0 a1:Value)(H:Hp)(R:Rt):Prop:=
ae .ptr .eql a0 (.pointer none) fun v1=>
Br v1 (
R (.returned (.tuple #[(iv 0),(iv 10)])) H) (
CF g 113 #[a0,a1] H (fun v2 H3=>
Un .not v2 fun v4=>
Br v4 (
R (.returned (.tuple #[(iv 0),(iv 2)])) H3) (
Nil a0 fun v5=>
aa 6 v5 fun v6=>
Ld H3 v6 fun v7=>
ai 1 v7 a1 fun v8=>
Ld H3 v8 fun v9=>
R (.returned (.tuple #[v9,(iv 0)])) H3)) (au R))
theorem IE(h:L46 g a0 a1 H R):ag Tryz.prog g 46 #[a0,a1] H R:=
 aj (hn:=.e) Tryz.func46 h (by kernel_rfl)
def L51(g:Gh)(a0 a1:Value)(H:Hp)(R:Rt):Prop:=
CF g 116 #[a0] H (fun v1 H2=>
Ext 0 v1 fun v3=>
Ext 1 v1 fun v4=>
ae .num .neq v4 (iv 0) fun v5=>
bT v5 false (fun t6=>
ae .num .lss a0 (iv 1) fun v7=>
(H2=H2∧v7=Value.bool t6)) (fun t6=>(Value.bool true)=Value.bool t6) fun t6=>∀O9:Fr,
bT (Value.bool t6) false (fun t9=>
ae .num .lss a1 (iv 2) fun v10=>
(H2=H2∧v10=Value.bool t9)) (fun t9=>(Value.bool true)=Value.bool t9) fun t9=>∀Tr:Fr,
bT (Value.bool t9) false (fun t12=>
ae .num .gtr a1 (iv 1048576) fun aZ=>
(H2=H2∧aZ=Value.bool t12)) (fun t12=>(Value.bool true)=Value.bool t12) fun t12=>∀rC:Fr,
Br (Value.bool t12) (
R (.returned (.tuple #[(.pointer none),(iv 1)])) H2) (
CF g 117 #[a0] H2 (fun bA kg=>
Ext 0 bA fun bF=>
Ext 1 bA fun bX=>
ae .num .neq bX (iv 0) fun bP=>
Br bP (
R (.returned (.tuple #[(.pointer none),bX])) kg) (
CF g 118 #[a1,bF] kg (fun v20 fm=>
Ext 0 v20 fun cq=>
Ext 1 v20 fun bV=>
aX fm (.cells #[(.pointer none),(.pointer none),(.slice none 0 0),(.slice none 0 0)] 115 (0,0)) fun TA gu=>
St 4 gu (pt TA) cq fun gI=>
ae .num .neq bV (iv 0) fun cP=>
Br cP (
R (.returned (.tuple #[(.pointer none),bV])) gI) (
DR gI fun TG=>
aC 4 TG (pt TA) fun cL=>
CF g 57 #[v3] gI (fun v30 jg=>
aQ jg TG∧
Build Tryz.prog 117 [(0,cL),(1,a0),(2,v3),(3,v30)] fun dV=>
aX jg (.cells (Value.cells dV) 117 (0,0)) fun pN pY=>
aQ pY TG∧
R (.returned (.tuple #[(pt pN),(iv 0)])) pY) br)) (au R))) (au R))) (au R)
theorem ID(h:L51 g a0 a1 H R):ag Tryz.prog g 51 #[a0,a1] H R:=
 aj (hn:=(.n .e (.n .e (.n (.n (.h 0 [] [1] .e .e) .e) (hN 4 (.n (.h 0 [0,1,2,3,4,5,6,7,8] [] .e .e) .e)))))) Tryz.func51 h (by kernel_rfl)
def L54(g:Gh)(a0 a1:Value)(H:Hp)(R:Rt):Prop:=
CF g 51 #[a0,a1] H (fun v1 H2=>
Ext 0 v1 fun v3=>
Ext 1 v1 fun v4=>
∀J5:Jt,(∀w8:Value,∀H7:Hp,(∀Tg:Fr,
Br w8 (
R (.returned (.pointer none)) H7) (
Build Tryz.prog 30 [(0,v3),(1,a0)] fun v9=>
aX H7 (.cells (Value.cells v9) 30 (0,0)) fun xQ dy=>
R (.returned (pt xQ)) dy))→J5 [w8] H7)→
ae .num .neq v4 (iv 0) fun bf=>
Split bf false (
ae .ptr .eql v3 (.pointer none) fun aZ=>
aF (Value.bool false) (Value.bool true) aZ fun bh=>
Split bh false (
CF g 61 #[v3] H2 (fun bA kg=>
ae .num .neq bA a0 fun bF=>
aF (Value.bool false) (Value.bool true) bF fun bX=>
Split bX false (
CF g 65 #[v3] kg (fun bP iy=>
ae .num .neq bP a1 fun bW=>
aF (Value.bool false) (Value.bool true) bW fun cq=>
Split cq false (
CF g 15 #[v3] iy (fun bV gv=>
ae .num .neq bV (iv 0) fun cD=>
aF (Value.bool false) (Value.bool true) cD fun cM=>
JE J5 [cM] gv) (au R)) (
aF (Value.bool true) (Value.bool true) undef fun cP=>
JE J5 [cP] iy)) (au R)) (
aF (Value.bool true) (Value.bool true) undef fun dc=>
aF dc (Value.bool true) undef fun cL=>
JE J5 [cL] kg)) (au R)) (
aF (Value.bool true) (Value.bool true) undef fun v30=>
aF v30 (Value.bool true) undef fun dW=>
aF dW (Value.bool true) undef fun dV=>
JE J5 [dV] H2)) (
aF (Value.bool true) (Value.bool true) undef fun eZ=>
aF eZ (Value.bool true) undef fun eP=>
aF eP (Value.bool true) undef fun eW=>
aF eW (Value.bool true) undef fun dn=>
JE J5 [dn] H2)) (au R)
theorem IC(h:L54 g a0 a1 H R):ag Tryz.prog g 54 #[a0,a1] H R:=
 aj (hn:=(.n .e (.n .e (.n (.h 1 [35] [0,5] .e .e) .e)))) Tryz.func54 h (by kernel_rfl)
variable {g:Gh} {a0 a1 a2 a3 a4 a5 a6 a7 a8 a9 rF rE Xl Xk Xj Xi:Value} {H:Hp} {R:Rt}
def L55(g:Gh)(a0 a1:Value)(H:Hp)(R:Rt):Prop:=
aX H (.cells (Value.cells a1) 106 (0,0)) fun b1 H2=>
aa 2 (pt b1) fun v3=>
Ld H2 v3 fun v4=>
CF g 126 #[a0,v4] H2 (fun v5 H6=>
Ext 0 v5 fun v7=>
Ext 1 v5 fun v8=>
aX H6 (.cells #[(iv 0),(.slice none 0 0)] 57 (0,0)) fun b9 di=>
St 2 di (pt b9) v8 fun dy=>
aa 3 (pt b1) fun bf=>
Ld dy bf fun aZ=>
CF g 126 #[a0,aZ] dy (fun bh dx=>
Ext 0 bh fun bu=>
Ext 1 bh fun bF=>
aX dx (.cells #[(iv 0),(.slice none 0 0)] 57 (0,0)) fun oI jh=>
St 2 jh (pt oI) bF fun iy=>
aa 4 (pt b1) fun bW=>
Ld iy bW fun cq=>
CF g 126 #[a0,cq] iy (fun bV gv=>
Ext 0 bV fun cD=>
Ext 1 bV fun cM=>
aX gv (.cells #[(iv 0),(.slice none 0 0)] 57 (0,0)) fun Q5 mO=>
St 2 mO (pt Q5) cM fun lM=>
aC 6 lM (pt b1) fun v30=>
aC 2 lM (pt b9) fun dW=>
aC 2 lM (pt oI) fun dV=>
aC 2 lM (pt Q5) fun eZ=>
CF g 127 #[a0,v30,dW,dV,eZ] lM (fun eP nA=>
Ext 0 eP fun dn=>
Ext 1 eP fun dU=>
aX nA (.cells #[(iv 0),(.slice none 0 0)] 57 (0,0)) fun Tz Gj=>
St 2 Gj (pt Tz) dn fun j9=>
aC 6 j9 (pt b1) fun fD=>
CF g 128 #[a0,fD,v7,bu,cD] j9 (fun gx kZ=>
Ext 0 gx fun gA=>
Ext 1 gx fun g6=>
ae .num .neq dU (iv 0) fun gN=>
Br gN (
R (.returned (Value.bool false)) kZ) (
DR kZ fun Xp=>
aC 2 Xp (pt Tz) fun iz=>
Nil a0 fun k9=>
aa 0 k9 fun kG=>
Ld Xp kG fun jM=>
av Tryz.prog 28 1 [(0,iz)] kZ fun lT Js=>
aQ Js Xp∧
CF g 64 #[a0,lT] Js (fun wB P2=>
aQ P2 Xp∧
ae .num .add wB (iv 2) fun r9=>
CF g 65 #[jM] P2 (fun rK uu=>
aQ uu Xp∧
ae .num .leq r9 rK fun rj=>
ae .num .eql g6 (iv 9) fun ri=>
Br ri (
ae .num .eql gA (Value.int .u32 0) fun r8=>
bT r8 true (fun t62=>
Un .not rj fun rh=>
bT rh false (fun t64=>
aa 0 (pt b1) fun q9=>
Ld uu q9 fun uD=>
ae .num .rem uD (Value.int .u8 9) fun wz=>
ae .num .eql wz (Value.int .u8 8) fun uC=>
(uu=uu∧uC=Value.bool t64)) (fun t64=>(Value.bool true)=Value.bool t64) fun t64=>∀ag3:Fr,
(uu=uu∧(Value.bool t64)=Value.bool t62)) (fun t62=>(Value.bool false)=Value.bool t62) fun t62=>∀ag2:Fr,
R (.returned (Value.bool t62)) uu) (
ae .num .neq g6 (iv 0) fun ym=>
bT ym false (fun t72=>
Un .not rj fun GD=>
(uu=uu∧GD=Value.bool t72)) (fun t72=>(Value.bool true)=Value.bool t72) fun t72=>∀ag0:Fr,
Br (Value.bool t72) (
R (.returned (Value.bool false)) uu) (
aC 2 uu (pt Tz) fun uz=>
CF g 129 #[a0,gA,uz] uu (fun Au IX=>
R (.returned (Value.bool true)) IX) (au R)))) br) br)) (au R)) (au R)) (au R)) (au R)) (au R)
theorem IB(h:L55 g a0 a1 H R):ag Tryz.prog g 55 #[a0,a1] H R:=
 aj (hn:=(hN 7 (.n (.h 0 [0,1,5,6,7,8,2,3,4,9,10,11] [] .e .e) (.n (.n .e (.n (.n (.h 0 [] [1] .e .e) .e) .e)) (.n (.n (.h 0 [] [1] .e .e) .e) .e))))) Tryz.func55 h (by kernel_rfl)
def L57(g:Gh)(a0:Value)(H:Hp)(R:Rt):Prop:=
ae .slice .eql a0 (.slice none 0 0) fun v1=>
Br v1 (
R (.returned (.slice none 0 0)) H) (
av Tryz.prog 25 0 [] H fun v2 H3=>
App Tryz.prog 3 1 8 (iv 0) H3 v2 a0 fun v6 H7=>
R (.returned v6) H7)
theorem IA(h:L57 g a0 H R):ag Tryz.prog g 57 #[a0] H R:=
 aj (hn:=.e) Tryz.func57 h (by kernel_rfl)
def L58(g:Gh)(a0:Value)(H:Hp)(R:Rt):Prop:=
ae .ptr .eql a0 (.pointer none) fun v1=>
Br v1 (
R (.returned (iv 0)) H) (
Nil a0 fun v2=>
aa 3 v2 fun v3=>
Ld H v3 fun v4=>
R (.returned v4) H)
theorem Iz(h:L58 g a0 H R):ag Tryz.prog g 58 #[a0] H R:=
 aj (hn:=.e) Tryz.func58 h (by kernel_rfl)
def L59(g:Gh)(a0 a1:Value)(H:Hp)(R:Rt):Prop:=
Nil a0 fun v1=>
aa 5 v1 fun v2=>
Ld H v2 fun v3=>
ai 1 v3 a1 fun v4=>
Ld H v4 fun v5=>
Nil a0 fun v6=>
aa 5 v6 fun v7=>
Ld H v7 fun v8=>
ae .num .add a1 (iv 1) fun v9=>
ai 1 v8 v9 fun v10=>
Ld H v10 fun v11=>
CF g 134 #[a0,v5,v11] H (fun bf fg=>
DR fg fun R14=>
Nil a0 fun bA=>
aa 0 bA fun bu=>
CF g 136 #[a0,v5,bf] fg (fun bF dm=>
CF g 135 #[bu,bF] dm (fun bP iy=>
Un .not bP fun bW=>
Br bW (
R (.returned (Value.bool false)) iy) (
aY bf fun cq=>
∃(I23:Jt) (m24:Mt),JE I23 [(iv 0)] iy∧∀P8:Value,∀gI:Hp,I23 [P8] gI→∀aby:Fr,
ae .num .lss P8 cq fun dc=>
Br dc (
ai 8 bf P8 fun cL=>
aC 8 gI cL fun v30=>
aX gI (.cells #[(Value.int .u32 0),(iv 0),(Value.int .u32 0),(Value.int .u32 0),(Value.int .u32 0),(Value.int .u32 0),(Value.int .u32 0),(Value.int .u32 0)] 203 (0,0)) fun B4 oM=>
St 8 oM (pt B4) v30 fun iH=>
DR iH fun TE=>
Nil a0 fun eW=>
aa 0 eW fun dn=>
aa 1 dn fun dU=>
Ld TE dU fun gk=>
aa 1 (pt B4) fun gi=>
aC 3 TE gi fun gj=>
CF g 137 #[gk,gj] iH (fun fD xY=>
ae .num .add P8 (iv 1) fun gh=>
aD I23 m24 [gh] xY [P8] gI) br) (
aY bf fun gA=>
∃(I45:Jt) (m46:Mt),JE I45 [(iv 0)] gI∧∀UT:Value,∀IY:Hp,I45 [UT] IY→∀abq:Fr,
ae .num .lss UT gA fun kG=>
Br kG (
ai 8 bf UT fun jM=>
aC 8 IY jM fun lT=>
aX IY (.cells #[(Value.int .u32 0),(iv 0),(Value.int .u32 0),(Value.int .u32 0),(Value.int .u32 0),(Value.int .u32 0),(Value.int .u32 0),(Value.int .u32 0)] 203 (0,0)) fun Q4 Jr=>
St 8 Jr (pt Q4) lT fun P2=>
DR P2 fun R56=>
Nil a0 fun rK=>
aa 0 rK fun wA=>
aa 4 (pt Q4) fun rj=>
Ld R56 rj fun ri=>
aa 6 (pt Q4) fun r8=>
Ld R56 r8 fun vb=>
CF g 138 #[wA,v5,ri,vb] P2 (fun rh Gi=>
Nil a0 fun q9=>
aa 0 q9 fun uD=>
CF g 139 #[uD,rh] Gi (fun wz UR=>
DR UR fun R69=>
Nil a0 fun uf=>
aa 0 uf fun ym=>
aa 5 (pt Q4) fun uA=>
Ld R69 uA fun GD=>
aa 7 (pt Q4) fun JJ=>
Ld R69 JJ fun uz=>
CF g 138 #[ym,v5,GD,uz] UR (fun Au IX=>
Nil a0 fun uy=>
aa 0 uy fun ux=>
CF g 139 #[ux,Au] IX (fun E0 H81=>
Build Tryz.prog 161 [(0,v11),(1,rh),(2,Au)] fun uv=>
aX H81 (.cells #[(iv 0),(Value.int .u32 0),(Value.int .u32 0)] 161 (0,0)) fun YE H84=>
St 3 H84 (pt YE) uv fun H85=>
DR H85 fun R86=>
Nil a0 fun JI=>
aa 0 JI fun GA=>
aa 0 GA fun EZ=>
Ld R86 EZ fun AR=>
aa 0 (pt Q4) fun x9=>
Ld R86 x9 fun AQ=>
aC 3 R86 (pt YE) fun Ng=>
CF g 140 #[AR,AQ,Ng] H85 (fun Jc TY=>
DR TY fun R96=>
Nil a0 fun Ri=>
aa 0 Ri fun JH=>
aa 1 JH fun NI=>
Ld R96 NI fun uG=>
aC 3 R96 (pt YE) fun AZ=>
aa 0 (pt Q4) fun si=>
Ld R96 si fun sg=>
CF g 141 #[uG,AZ,sg] TY (fun yq acK=>
ae .num .add UT (iv 1) fun AY=>
aD I45 m46 [AY] acK [UT] IY) br) br) (au R)) br) (au R)) br) (
aY bf fun sb=>
∃(TX:Jt) (ZC:Mt),JE TX [(iv 0)] IY∧∀JF:Value,∀IZ:Hp,TX [JF] IZ→∀adY:Fr,
ae .num .lss JF sb fun JP=>
Br JP (
ai 8 bf JF fun AW=>
aC 8 IZ AW fun AV=>
aX IZ (.cells #[(Value.int .u32 0),(iv 0),(Value.int .u32 0),(Value.int .u32 0),(Value.int .u32 0),(Value.int .u32 0),(Value.int .u32 0),(Value.int .u32 0)] 203 (0,0)) fun PG acI=>
St 8 acI (pt PG) AV fun XR=>
DR XR fun abY=>
Nil a0 fun AU=>
aa 0 AU fun JO=>
aa 1 (pt PG) fun JN=>
aa 1 JN fun AT=>
Ld abY AT fun yp=>
CF g 142 #[JO,yp] XR (fun GF XP=>
DR XP fun abX=>
Nil a0 fun JM=>
aa 0 JM fun Rp=>
aa 1 (pt PG) fun JL=>
aa 2 JL fun JK=>
Ld abX JK fun Ro=>
CF g 142 #[Rp,Ro] XP (fun NK acG=>
ae .num .add JF (iv 1) fun Rn=>
aD TX ZC [Rn] acG [JF] IZ) br) br) (
DR IZ fun Xr=>
Nil a0 fun Rl=>
aa 5 Rl fun Zb=>
Ld Xr Zb fun Rk=>
Nil a0 fun Za=>
aa 5 Za fun Rj=>
Ld Xr Rj fun Y9=>
ae .num .add a1 (iv 1) fun Y8=>
ai 1 Rk a1 fun Y7=>
St 1 IZ Y7 v11 fun acE=>
ai 1 Y9 Y8 fun Y6=>
St 1 acE Y6 v5 fun XO=>
DR XO fun Xq=>
Nil a0 fun Y5=>
aa 6 Y5 fun Y4=>
Ld Xq Y4 fun Y3=>
Nil a0 fun Y2=>
aa 6 Y2 fun Y1=>
Ld Xq Y1 fun Y0=>
ae .num .add a1 (iv 1) fun YZ=>
ai 1 Y3 v5 fun YY=>
St 1 XO YY YZ fun acD=>
ai 1 Y0 v11 fun YX=>
St 1 acD YX a1 fun acC=>
R (.returned (Value.bool true)) acC))))) br) br) (au R)
theorem Iy(h:L59 g a0 a1 H R):ag Tryz.prog g 59 #[a0,a1] H R:=
 aj (hn:=(hN 3 (.n (.n (.h 0 [0,1,2,3,4,5,6,7,8] [] .e .e) .e) (.n (.n .e (.n (.h 0 [47] [0,1,5,6,7,45,46] (.n .e (.n .e (.n (.n (.n .e (.h 0 [0,1,2,3,4,5,6,7] [] .e .e)) .e) .e))) .e) .e)) (.n (.n .e (.n (.h 0 [62] [0,1,5,6,7,60,61] (.n .e (.n .e (.n (.n (.n .e (.n (.h 0 [0,1,2,3,4,5,6,7,8,9] [] .e .e) (.n .e (.n (.h 0 [0,1,2,3,4,5,6,7,8,9] [] .e .e) (.n .e (.n .e (.n (.h 0 [0,1,2,3,4,5,6,7,8] [] .e .e) (.h 0 [0,1,2,3,4,5,6,7,8] [] .e .e)))))))) .e) .e))) .e) .e)) (.n (.n .e (.n (.h 0 [119] [0,1,5,6,117,118] (.n .e (.n .e (.n (.n (.n .e (.n (.h 0 [0,1,2,3,4,5,6] [] .e .e) (.h 0 [0,1,2,3,4,5,6] [] .e .e))) .e) .e))) .e) .e)) (.n (.h 0 [0,1,2,3,4,5,6,7,8,9,10,11,12,13,14,15,16] [] .e .e) (.n (.h 0 [0,1,2,3,4,5,6,7,8,9,10,11,12,13,14,15,16] [] .e .e) .e)))))))) Tryz.func59 h (by kernel_rfl)
def L61(g:Gh)(a0:Value)(H:Hp)(R:Rt):Prop:=
ae .ptr .eql a0 (.pointer none) fun v1=>
Br v1 (
R (.returned (iv 0)) H) (
Nil a0 fun v2=>
aa 4 v2 fun v3=>
Ld H v3 fun v4=>
R (.returned v4) H)
theorem Ix(h:L61 g a0 H R):ag Tryz.prog g 61 #[a0] H R:=
 aj (hn:=.e) Tryz.func61 h (by kernel_rfl)
def L64(g:Gh)(a0 a1:Value)(H:Hp)(R:Rt):Prop:=
av Tryz.prog 28 0 [] H fun v1 H2=>
Nil a0 fun v3=>
aa 3 v3 fun v4=>
Ld H2 v4 fun v5=>
App Tryz.prog 57 2 32 (.agg #[(iv 0),(.slice none 0 0)]) H2 v1 v5 fun v8 H9=>
App Tryz.prog 57 2 32 (.agg #[(iv 0),(.slice none 0 0)]) H9 v8 a1 fun bf fg=>
Nil a0 fun bh=>
aa 0 bh fun bA=>
Ld fg bA fun bu=>
CF g 13 #[bu] fg (fun bF dm=>
CF g 38 #[bf,bF] dm (fun bP iy=>
Ext 0 bP fun bW=>
Ext 1 bP fun cq=>
ae .num .neq cq (iv 0) fun bV=>
Br bV (
R (.returned (iv (-1))) iy) (
R (.returned bW) iy)) (au R)) (au R)
theorem Iw(h:L64 g a0 a1 H R):ag Tryz.prog g 64 #[a0,a1] H R:=
 aj (hn:=.e) Tryz.func64 h (by kernel_rfl)
def L65(g:Gh)(a0:Value)(H:Hp)(R:Rt):Prop:=
ae .ptr .eql a0 (.pointer none) fun v1=>
Br v1 (
R (.returned (iv 0)) H) (
Nil a0 fun v2=>
aa 0 v2 fun v3=>
aa 0 v3 fun v4=>
Ld H v4 fun v5=>
CF g 146 #[v5] H (fun v6 H7=>
R (.returned v6) H7) (au R))
theorem Iv(h:L65 g a0 H R):ag Tryz.prog g 65 #[a0] H R:=
 aj (hn:=.e) Tryz.func65 h (by kernel_rfl)
def L66(g:Gh)(a0 a1 a2 a3:Value)(H:Hp)(R:Rt):Prop:=
aX H (.cells (Value.cells a2) 57 (0,0)) fun b1 H2=>
ae .num .eql a3 (iv 0) fun v3=>
Br v3 (
R (.returned (Value.bool false)) H2) (
Nil a0 fun v4=>
aa 0 v4 fun v5=>
Ld H2 v5 fun v6=>
CF g 97 #[v6,a1] H2 (fun v7 H8=>
Ext 0 v7 fun v9=>
Ext 1 v7 fun v10=>
aX H8 (.cells #[(iv 0),(Value.int .u32 0),(Value.int .u32 0)] 161 (0,0)) fun B5 dz=>
St 3 dz (pt B5) v9 fun fg=>
ae .num .neq v10 (iv 0) fun bh=>
Br bh (
R (.returned (Value.bool false)) fg) (
ae .num .lss a1 (Value.int .u32 2) fun bA=>
Br bA (
Nil a0 fun bu=>
aa 1 bu fun bF=>
Ld fg bF fun bX=>
ae .num .eql a1 (Value.int .u32 1) fun bP=>
CF g 147 #[bX,bP] fg (fun v20 fm=>
Ext 0 v20 fun cq=>
Ext 1 v20 fun bV=>
aX fm (.cells #[(iv 0),(.slice none 0 0)] 57 (0,0)) fun TA gu=>
St 2 gu (pt TA) cq fun gI=>
∀AK:Jt,(∀wy:Value,∀lM:Hp,(∀WZ:Fr,
R (.returned wy) lM)→AK [wy] lM)→
ae .num .eql bV (iv 0) fun dW=>
Split dW true (
aa 0 (pt B5) fun dV=>
Ld gI dV fun eZ=>
ae .num .eql eZ (iv (-1)) fun eP=>
aF (Value.bool true) eP (Value.bool false) fun eW=>
Split eW true (
aC 2 gI (pt TA) fun dn=>
aC 2 gI (pt b1) fun dU=>
CF g 67 #[dn,dU] gI (fun gk Gj=>
aF (Value.bool true) gk (Value.bool false) fun gj=>
JE AK [gj] Gj) (au R)) (
aF (Value.bool false) undef (Value.bool false) fun fD=>
JE AK [fD] gI)) (
aF (Value.bool false) undef (Value.bool false) fun gx=>
aF gx undef (Value.bool false) fun gh=>
JE AK [gh] gI)) (au R)) (
DR fg fun R44=>
Nil a0 fun g6=>
aa 0 g6 fun gN=>
Ld R44 gN fun jA=>
aa 0 (pt B5) fun iz=>
Ld R44 iz fun k9=>
CF g 46 #[jA,k9] fg (fun kG ND=>
aQ ND R44∧
Ext 0 kG fun lT=>
Ext 1 kG fun uE=>
aC 2 ND (pt b1) fun wB=>
aa 0 (pt B5) fun oU=>
Ld ND oU fun r9=>
CF g 148 #[wB,r9,(Value.bool false)] ND (fun rK uu=>
Ext 0 rK fun rj=>
Ext 1 rK fun ri=>
aX uu (.cells #[(iv 0),(.slice none 0 0)] 57 (0,0)) fun Xb MW=>
St 2 MW (pt Xb) rj fun NC=>
aC 2 NC (pt b1) fun yo=>
aa 0 (pt B5) fun q9=>
Ld NC q9 fun uD=>
CF g 148 #[yo,uD,(Value.bool true)] NC (fun wz UR=>
Ext 0 wz fun uB=>
Ext 1 wz fun uf=>
aX UR (.cells #[(iv 0),(.slice none 0 0)] 57 (0,0)) fun Xa T0=>
St 2 T0 (pt Xa) uB fun wu=>
∀Gg:Jt,(∀US:Value,∀ud:Hp,(∀abl:Fr,
Br US (
R (.returned (Value.bool false)) ud) (
∀J78:Jt,(∀w81:Value,∀YN:Hp,(∀agY:Fr,
R (.returned w81) YN)→J78 [w81] YN)→
aa 1 (pt B5) fun uv=>
Ld ud uv fun GC=>
aC 2 ud (pt Xb) fun Ar=>
ae .num .sub a3 (iv 1) fun u7=>
CF g 66 #[a0,GC,Ar,u7] ud (fun GB NA=>
Split GB true (
aa 2 (pt B5) fun GA=>
Ld NA GA fun EZ=>
aC 2 NA (pt Xa) fun AR=>
ae .num .sub a3 (iv 1) fun x9=>
CF g 66 #[a0,EZ,AR,x9] NA (fun AQ TZ=>
aF (Value.bool true) AQ (Value.bool false) fun Jc=>
JE J78 [Jc] TZ) (au R)) (
aF (Value.bool false) undef (Value.bool false) fun UW=>
JE J78 [UW] NA)) (au R)))→Gg [US] ud)→
ae .num .neq uE (iv 0) fun NJ=>
Split NJ false (
ae .num .neq ri (iv 0) fun Ri=>
aF (Value.bool false) (Value.bool true) Ri fun JH=>
Split JH false (
ae .num .neq uf (iv 0) fun NI=>
aF (Value.bool false) (Value.bool true) NI fun uG=>
Split uG false (
aa 1 (pt B5) fun AZ=>
Ld wu AZ fun si=>
aa 2 (pt B5) fun sg=>
Ld wu sg fun yq=>
ae .num .eql si yq fun wC=>
aF (Value.bool false) (Value.bool true) wC fun AY=>
Split AY false (
aa 1 (pt B5) fun sb=>
Ld wu sb fun Rv=>
CF g 149 #[a0,Rv,lT] wu (fun uF EM=>
Un .not uF fun JQ=>
aF (Value.bool false) (Value.bool true) JQ fun AX=>
Split AX false (
aa 2 (pt B5) fun JP=>
Ld EM JP fun AW=>
CF g 149 #[a0,AW,lT] EM (fun AV acJ=>
Un .not AV fun Rr=>
aF (Value.bool false) (Value.bool true) Rr fun GG=>
JE Gg [GG] acJ) (au R)) (
aF (Value.bool true) (Value.bool true) undef fun Zf=>
JE Gg [Zf] EM)) (au R)) (
aF (Value.bool true) (Value.bool true) undef fun AU=>
aF AU (Value.bool true) undef fun JO=>
JE Gg [JO] wu)) (
aF (Value.bool true) (Value.bool true) undef fun JN=>
aF JN (Value.bool true) undef fun AT=>
aF AT (Value.bool true) undef fun yp=>
JE Gg [yp] wu)) (
aF (Value.bool true) (Value.bool true) undef fun GF=>
aF GF (Value.bool true) undef fun Rq=>
aF Rq (Value.bool true) undef fun Ze=>
aF Ze (Value.bool true) undef fun JM=>
JE Gg [JM] wu)) (
aF (Value.bool true) (Value.bool true) undef fun Rp=>
aF Rp (Value.bool true) undef fun JL=>
aF JL (Value.bool true) undef fun JK=>
aF JK (Value.bool true) undef fun Ro=>
aF Ro (Value.bool true) undef fun NK=>
JE Gg [NK] wu)) (au R)) (au R)) br))) (au R))
theorem wo(h:L66 g a0 a1 a2 a3 H R):ag Tryz.prog g 66 #[a0,a1,a2,a3] H R:=
 aj (hn:=(hN 4 (.n (.n .e (.n (.n .e (.h 1 [8] [] .e .e)) .e)) (.n (.h 0 [0,1,2,3,4,5,6,7,8,9,10,11] [] .e .e) (.n .e (.n .e (.n (.h 1 [112] [0,3,9,15,17] .e .e) (.h 1 [8] [] .e .e)))))))) Tryz.func66 h (by kernel_rfl)
def L67(g:Gh)(a0 a1:Value)(H:Hp)(R:Rt):Prop:=
aX H (.cells (Value.cells a0) 57 (0,0)) fun b1 H2=>
aX H2 (.cells (Value.cells a1) 57 (0,0)) fun b3 H4=>
aa 0 (pt b1) fun v5=>
Ld H4 v5 fun v6=>
aa 0 (pt b3) fun v7=>
Ld H4 v7 fun v8=>
ae .num .neq v6 v8 fun v9=>
bT v9 false (fun t10=>
aa 1 (pt b1) fun v11=>
Ld H4 v11 fun bf=>
aY bf fun aZ=>
aa 1 (pt b3) fun bh=>
Ld H4 bh fun bA=>
aY bA fun bu=>
ae .num .neq aZ bu fun bF=>
(H4=H4∧bF=Value.bool t10)) (fun t10=>(Value.bool true)=Value.bool t10) fun t10=>∀Pb:Fr,
Br (Value.bool t10) (
R (.returned (Value.bool false)) H4) (
∃(I19:Jt) (m20:Mt),JE I19 [(iv 0)] H4∧∀oP:Value,∀gw:Hp,I19 [oP] gw→∀W0:Fr,
aa 1 (pt b1) fun cy=>
Ld gw cy fun cD=>
aY cD fun cM=>
ae .num .lss oP cM fun cP=>
Br cP (
aa 1 (pt b1) fun dc=>
Ld gw dc fun cL=>
ai 1 cL oP fun v30=>
Ld gw v30 fun dW=>
aa 1 (pt b3) fun dV=>
Ld gw dV fun eZ=>
ai 1 eZ oP fun eP=>
Ld gw eP fun eW=>
ae .num .neq dW eW fun dn=>
Br dn (
R (.returned (Value.bool false)) gw) (
ae .num .add oP (iv 1) fun dU=>
aD I19 m20 [dU] gw [oP] gw)) (
R (.returned (Value.bool true)) gw))
theorem Iu(h:L67 g a0 a1 H R):ag Tryz.prog g 67 #[a0,a1] H R:=
 aj (hn:=(.n .e (.n (.n (.h 0 [] [1] .e .e) .e) (.n (.n .e (.n (.h 0 [5] [2,3] .e .e) .e)) .e)))) Tryz.func67 h (by kernel_rfl)
def L70(g:Gh)(a0:Value)(H:Hp)(R:Rt):Prop:=
ae .ptr .eql a0 (.pointer none) fun v1=>
Br v1 (
R (.returned (.slice none 0 0)) H) (
Nil a0 fun v2=>
aa 0 v2 fun v3=>
aa 3 v3 fun v4=>
Ld H v4 fun v5=>
aY v5 fun v6=>
∃(I7:Jt) (m8:Mt),JE I7 [(.slice none 0 0),(iv 0)] H∧∀kF fL:Value,∀di:Hp,I7 [kF,fL] di→∀Tf:Fr,
ae .num .lss fL v6 fun aZ=>
Br aZ (
∀J14:Jt,(∀qI:Value,∀kg:Hp,(∀Tp:Fr,
ae .num .add fL (iv 1) fun bX=>
aD I7 m8 [qI,bX] kg [kF,fL] di)→J14 [qI] kg)→
ai 1 v5 fL fun bP=>
Ld di bP fun v20=>
ae .num .gtr v20 (Value.int .i32 0) fun bW=>
Br bW (
aW .u32 fL fun cq=>
av Tryz.prog 27 1 [(0,cq)] di fun bV gv=>
App Tryz.prog 77 1 4 (Value.int .u32 0) gv kF bV fun cP mO=>
JE J14 [cP] mO) (
JE J14 [kF] di)) (
R (.returned kF) di))
theorem Is(h:L70 g a0 H R):ag Tryz.prog g 70 #[a0] H R:=
 aj (hn:=(hN 3 (.n (.n .e (.n (.h 0 [3,14] [12,13] (.n .e (.n .e (.h 1 [3] [12,13,14] .e .e))) .e) .e)) .e))) Tryz.func70 h (by kernel_rfl)
def L71(g:Gh)(a0 a1:Value)(H:Hp)(R:Rt):Prop:=
aX H (.cells #[(iv 0),(.slice none 0 0)] 57 (0,0)) fun b1 H2=>
av Tryz.prog 27 1 [(0,a1)] H2 fun v3 H4=>
CF g 150 #[a0,v3] H4 (fun v5 H6=>
ae .num .neq v5 (iv 0) fun v7=>
Br v7 (
Build Tryz.prog 57 [] fun v8=>
St 2 H6 (pt b1) v8 fun H9=>
aC 2 H9 (pt b1) fun v10=>
R (.returned (.tuple #[v10,v5])) H9) (
CF g 61 #[a0] H6 (fun v11 dz=>
aX dz (.cells #[(iv 0)] 3 (0,0)) fun eY gg=>
St 1 gg (pt eY) v11 fun dx=>
Ld dx (pt eY) fun bu=>
ae .num .gtr bu (iv 16) fun bF=>
Br bF (
Build Tryz.prog 57 [] fun bX=>
St 2 dx (pt b1) bX fun jh=>
aC 2 jh (pt b1) fun v20=>
R (.returned (.tuple #[v20,(iv 6)])) jh) (
Ld dx (pt eY) fun bW=>
CF g 147 #[bW,(Value.bool false)] dx (fun cq kD=>
Ext 0 cq fun cy=>
Ext 1 cq fun cD=>
aX kD (.cells #[(iv 0),(.slice none 0 0)] 57 (0,0)) fun Q6 gr=>
St 2 gr (pt Q6) cy fun mO=>
Ld mO (pt eY) fun cL=>
CF g 147 #[cL,(Value.bool true)] mO (fun v30 jg=>
Ext 0 v30 fun dV=>
Ext 1 v30 fun eZ=>
aX jg (.cells #[(iv 0),(.slice none 0 0)] 57 (0,0)) fun Xd nA=>
St 2 nA (pt Xd) dV fun AL=>
aC 2 AL (pt Q6) fun dU=>
aC 2 AL (pt Xd) fun gk=>
CF g 151 #[a0,a1,dU,gk,(.func (.func 152) #[] #[(pt eY)])] AL (fun gi j9=>
St 2 j9 (pt b1) gi fun u4=>
aC 2 u4 (pt b1) fun gx=>
R (.returned (.tuple #[gx,(iv 0)])) u4) (au R)) (au R)) (au R))) (au R))) (au R)
theorem Ir(h:L71 g a0 a1 H R):ag Tryz.prog g 71 #[a0,a1] H R:=
 aj (hn:=.e) Tryz.func71 h (by kernel_rfl)
def L72(g:Gh)(a0:Value)(H:Hp)(R:Rt):Prop:=
lD H fun v1 H2=>
lD H2 fun v3 H4=>
Build Tryz.prog 137 [(0,a0),(3,v1),(4,v3)] fun v5=>
aX H4 (.cells (Value.cells v5) 137 (0,0)) fun b6 H7=>
aY a0 fun v8=>
ae .num .eql v8 (iv 0) fun v9=>
Br v9 (
R (.returned (.tuple #[(pt b6),(iv 0)])) H7) (
CF g 155 #[a0] H7 (fun v10 dy=>
Ext 0 v10 fun bf=>
Ext 1 v10 fun aZ=>
ae .num .neq aZ (iv 0) fun bh=>
Br bh (
R (.returned (.tuple #[(.pointer none),aZ])) dy) (
ai 2 a0 (iv 0) fun bA=>
aa 0 bA fun bu=>
Ld dy bu fun bF=>
Nil (pt b6) fun bX=>
aa 1 bX fun bP=>
St 1 dy bP bF fun iy=>
aY a0 fun bW=>
∃(TT:Jt) (Zy:Mt),JE TT [(iv 0)] iy∧∀lN:Value,∀gu:Hp,TT [lN] gu→∀Tm:Fr,
ae .num .lss lN bW fun cP=>
Br cP (
ai 2 a0 lN fun dc=>
aC 2 gu dc fun cL=>
aX gu (.cells #[(iv 0),(.slice none 0 0)] 57 (0,0)) fun b30 jg=>
St 2 jg (pt b30) cL fun oM=>
aC 2 oM (pt b30) fun eZ=>
CF g 156 #[eZ] oM (fun eP nA=>
Ext 0 eP fun dn=>
Ext 1 eP fun dU=>
Nil (pt b6) fun gk=>
aa 2 gk fun gi=>
Ld nA gi fun gj=>
aW .i64 dn fun fD=>
ae .num .or gj fD fun gx=>
Nil (pt b6) fun gh=>
aa 2 gh fun gA=>
St 1 nA gA gx fun Jv=>
ae .num .add lN (iv 1) fun gN=>
aD TT Zy [gN] Jv [lN] gu) (au R)) (
R (.returned (.tuple #[(pt b6),(iv 0)])) gu))) (au R))
theorem Iq(h:L72 g a0 H R):ag Tryz.prog g 72 #[a0] H R:=
 aj (hn:=(hN 5 (.n (.n .e (.n (.h 0 [37] [4,35,36] .e .e) .e)) .e))) Tryz.func72 h (by kernel_rfl)
def L73(g:Gh)(a0 a1 a2:Value)(H:Hp)(R:Rt):Prop:=
Nil a0 fun v1=>
aa 2 v1 fun v2=>
Ld H v2 fun v3=>
ae .num .shr v3 a2 fun v4=>
ae .num .and v4 (iv 1) fun v5=>
ae .num .eql v5 (iv 0) fun v6=>
Br v6 (
R (.returned (iv 0)) H) (
Nil a0 fun v7=>
aa 2 v7 fun v8=>
Ld H v8 fun v9=>
ae .num .and a1 v9 fun v10=>
Build Tryz.prog 226 [(0,v10),(1,a2)] fun v11=>
aX H (.cells #[(iv 0),(iv 0)] 226 (0,0)) fun Ab fg=>
St 2 fg (pt Ab) v11 fun gg=>
Nil a0 fun bA=>
aa 3 bA fun bu=>
Ld gg bu fun bF=>
aC 2 gg (pt Ab) fun bX=>
je Tryz.prog 226 (iv 0) true gg bF bX fun bP=>
Ext 0 bP fun v20=>
Ext 1 bP fun bW=>
∀TP:Jt,(∀lS:Value,∀gv:Hp,(∀Pa:Fr,
R (.returned lS) gv)→TP [lS] gv)→
Un .not bW fun cM=>
Br cM (
DR gg fun Gb=>
Nil a0 fun dc=>
aa 0 dc fun cL=>
Ld Gb cL fun v30=>
gZ 2 1 (pt Ab) (iv 0) fun dW=>
Ld Gb dW fun dV=>
aW .u64 dV fun eZ=>
CF g 157 #[v30,eZ,a2] gg (fun eP nA=>
aQ nA Gb∧
Ext 0 eP fun dn=>
Ext 1 eP fun dU=>
DR nA fun R38=>
Nil a0 fun gi=>
aa 3 gi fun gj=>
Ld R38 gj fun fD=>
aC 2 R38 (pt Ab) fun gx=>
gL Tryz.prog 226 nA fD gx dn fun kZ=>
JE TP [dn] kZ) br) (
JE TP [v20] gg))
theorem Ip(h:L73 g a0 a1 a2 H R):ag Tryz.prog g 73 #[a0,a1,a2] H R:=
 aj (hn:=(hN 4 (.h 1 [8] [] (.n .e (.n (.n (.h 0 [0,1,2,3,4,5,6,7,8,9,10,11,12] [] .e .e) (.h 0 [0,1,2,3,4,5,6] [] .e .e)) .e)) .e))) Tryz.func73 h (by kernel_rfl)
def L74(g:Gh)(a0 a1:Value)(H:Hp)(R:Rt):Prop:=
Nil a0 fun v1=>
aa 2 v1 fun v2=>
Ld H v2 fun v3=>
ae .num .and a1 v3 fun v4=>
Nil a0 fun v5=>
aa 2 v5 fun v6=>
Ld H v6 fun v7=>
ae .num .eql v4 v7 fun v8=>
Br v8 (
R (.returned (iv 0)) H) (
Nil a0 fun v9=>
aa 4 v9 fun v10=>
Ld H v10 fun v11=>
qD (.int .i64) (iv 0) true H v11 v4 fun bf=>
Ext 0 bf fun aZ=>
Ext 1 bf fun bh=>
Br bh (
R (.returned aZ) H) (
Nil a0 fun bA=>
aa 1 bA fun bu=>
Ld H bu fun bF=>
∃(MU:Jt) (Vi:Mt),JE MU [(iv (-1)),(iv 0)] H∧∀n8 oP:Value,∀fm:Hp,MU [n8,oP] fm→∀Tn:Fr,
ae .num .lss oP bF fun cy=>
Br cy (
∀Ny:Jt,(∀EX:Value,∀gr:Hp,(∀Tl:Fr,
ae .num .add oP (iv 1) fun cL=>
aD MU Vi [EX,cL] gr [n8,oP] fm)→Ny [EX] gr)→
Nil a0 fun v30=>
aa 2 v30 fun dW=>
Ld fm dW fun dV=>
Un .xor dV fun eZ=>
ae .num .or v4 eZ fun eP=>
ae .num .shr eP oP fun eW=>
ae .num .and eW (iv 1) fun dn=>
ae .num .eql dn (iv 1) fun dU=>
Br dU (
JE Ny [n8] fm) (
DR fm fun R38=>
ae .num .shl (iv 1) oP fun gi=>
ae .num .or v4 gi fun gj=>
CF g 73 #[a0,v4,oP] fm (fun fD xY=>
CF g 74 #[a0,gj] xY (fun gh NF=>
ae .num .add fD gh fun g6=>
ae .num .lss n8 (iv 0) fun gN=>
bT gN false (fun t47=>
ae .num .lss g6 n8 fun iz=>
(NF=NF∧iz=Value.bool t47)) (fun t47=>(Value.bool true)=Value.bool t47) fun t47=>∀ag9:Fr,
Br (Value.bool t47) (
JE Ny [g6] NF) (
JE Ny [n8] NF)) br) br)) (
Nil a0 fun kG=>
aa 4 kG fun jM=>
Ld fm jM fun lT=>
fB (.int .i64) fm lT v4 n8 fun Js=>
R (.returned n8) Js)))
theorem wm(h:L74 g a0 a1 H R):ag Tryz.prog g 74 #[a0,a1] H R:=
 aj (hn:=(hN 5 (.n (.n .e (.n (.h 0 [7,37] [0,1,36] (.n .e (.n .e (.h 1 [7] [0,1,36,37] (.n (.n .e (.n .e (.n (.h 0 [0,1,2,4,5,6,7,8,3,9,10,11] [] .e .e) (.n (.h 0 [] [1] .e .e) .e)))) .e) .e))) .e) .e)) .e))) Tryz.func74 h (by kernel_rfl)
def L75(g:Gh)(a0:Value)(H:Hp)(R:Rt):Prop:=
∀J1:Jt,(∀w4 w5:Value,∀H3:Hp,(∀W3:Fr,
∀J6:Jt,(∀w9 r7:Value,∀H8:Hp,(∀QZ:Fr,
∀TQ:Jt,(∀nB rJ:Value,∀fg:Hp,(∀LZ:Fr,
aW .u8 nB fun bu=>
Q7 (.string (ByteArray.mk #[0,1,2,2,3,3,3,3,4,4,4,4,4,4,4,4,5,5,5,5,5,5,5,5,5,5,5,5,5,5,5,5,6,6,6,6,6,6,6,6,6,6,6,6,6,6,6,6,6,6,6,6,6,6,6,6,6,6,6,6,6,6,6,6,7,7,7,7,7,7,7,7,7,7,7,7,7,7,7,7,7,7,7,7,7,7,7,7,7,7,7,7,7,7,7,7,7,7,7,7,7,7,7,7,7,7,7,7,7,7,7,7,7,7,7,7,7,7,7,7,7,7,7,7,7,7,7,7,8,8,8,8,8,8,8,8,8,8,8,8,8,8,8,8,8,8,8,8,8,8,8,8,8,8,8,8,8,8,8,8,8,8,8,8,8,8,8,8,8,8,8,8,8,8,8,8,8,8,8,8,8,8,8,8,8,8,8,8,8,8,8,8,8,8,8,8,8,8,8,8,8,8,8,8,8,8,8,8,8,8,8,8,8,8,8,8,8,8,8,8,8,8,8,8,8,8,8,8,8,8,8,8,8,8,8,8,8,8,8,8,8,8,8,8,8,8,8,8,8,8,8,8,8,8,8,8])) bu fun bF=>
aW .i64 bF fun bX=>
ae .num .add rJ bX fun bP=>
R (.returned bP) fg)→TQ [nB,rJ] fg)→
ae .num .geq w9 (Value.int .u64 256) fun v20=>
Br v20 (
ae .num .shr w9 (Value.int .u64 8) fun bW=>
ae .num .add r7 (iv 8) fun cq=>
JE TQ [bW,cq] H8) (
JE TQ [w9,r7] H8))→J6 [w9,r7] H8)→
ae .num .geq w4 (Value.int .u64 65536) fun bV=>
Br bV (
ae .num .shr w4 (Value.int .u64 16) fun cy=>
ae .num .add w5 (iv 16) fun cD=>
JE J6 [cy,cD] H3) (
JE J6 [w4,w5] H3))→J1 [w4,w5] H3)→
ae .num .geq a0 (Value.int .u64 4294967296) fun cM=>
Br cM (
ae .num .shr a0 (Value.int .u64 32) fun cP=>
JE J1 [cP,(iv 32)] H) (
JE J1 [a0,(iv 0)] H)
theorem Io(h:L75 g a0 H R):ag Tryz.prog g 75 #[a0] H R:=
 aj (hn:=(.n .e (.h 1 [0,2] [] .e (.h 1 [0,2] [] .e (.h 1 [0,2] [] .e .e))))) Tryz.func75 h (by kernel_rfl)
def L95(g:Gh)(a0 a1:Value)(H:Hp)(R:Rt):Prop:=
ae .ptr .eql a0 (.pointer none) fun v1=>
bT v1 false (fun t2=>
aW .i64 a1 fun v3=>
Nil a0 fun v4=>
aa 0 v4 fun v5=>
aa 3 v5 fun v6=>
Ld H v6 fun v7=>
aY v7 fun v8=>
ae .num .geq v3 v8 fun v9=>
(H=H∧v9=Value.bool t2)) (fun t2=>(Value.bool true)=Value.bool t2) fun t2=>∀tf:Fr,
Br (Value.bool t2) (
R (.returned (iv 0)) H) (
Nil a0 fun v11=>
aa 0 v11 fun bf=>
aa 3 bf fun aZ=>
Ld H aZ fun bh=>
ai 1 bh a1 fun bA=>
Ld H bA fun bu=>
aW .i64 bu fun bF=>
R (.returned bF) H)
theorem Im(h:L95 g a0 a1 H R):ag Tryz.prog g 95 #[a0,a1] H R:=
 aj (hn:=(.n .e (.n (.n (.h 0 [] [1] .e .e) .e) .e))) Tryz.func95 h (by kernel_rfl)
def L97(g:Gh)(a0 a1:Value)(H:Hp)(R:Rt):Prop:=
aX H (.cells #[(iv 0),(Value.int .u32 0),(Value.int .u32 0)] 161 (0,0)) fun b1 H2=>
ae .ptr .eql a0 (.pointer none) fun v3=>
Br v3 (
Build Tryz.prog 161 [] fun v4=>
St 3 H2 (pt b1) v4 fun H5=>
aC 3 H5 (pt b1) fun v6=>
R (.returned (.tuple #[v6,(iv 10)])) H5) (
Nil a0 fun v7=>
aa 0 v7 fun v8=>
CF g 173 #[v8,a1] H2 (fun v9 di=>
Un .not v9 fun v11=>
Br v11 (
Build Tryz.prog 161 [] fun bf=>
St 3 di (pt b1) bf fun fg=>
aC 3 fg (pt b1) fun bh=>
R (.returned (.tuple #[bh,(iv 3)])) fg) (
Nil a0 fun bA=>
aa 0 bA fun bu=>
CF g 174 #[bu,a1] di (fun bF dm=>
St 3 dm (pt b1) bF fun jh=>
aC 3 jh (pt b1) fun v20=>
R (.returned (.tuple #[v20,(iv 0)])) jh) (au R))) (au R))
theorem Il(h:L97 g a0 a1 H R):ag Tryz.prog g 97 #[a0,a1] H R:=
 aj (hn:=.e) Tryz.func97 h (by kernel_rfl)
def L99(g:Gh)(a0 a1:Value)(H:Hp)(R:Rt):Prop:=
CF g 175 #[a0] H (fun v1 H2=>
Un .not v1 fun v3=>
Br v3 (
R (.returned (.tuple #[(.slice none 0 0),(iv 5)])) H2) (
∀J4:Jt,(∀w7:Value,∀H6:Hp,(∀UC:Fr,
Br w7 (
R (.returned (.tuple #[(.slice none 0 0),(iv 4)])) H6) (
aY a1 fun v8=>
ae .num .gtr v8 (iv 16) fun v9=>
Br v9 (
R (.returned (.tuple #[(.slice none 0 0),(iv 6)])) H6) (
CF g 176 #[a0] H6 (fun v10 dy=>
aY a1 fun bf=>
∃(TW:Jt) (ZB:Mt),JE TW [(.slice none 0 0),v10,(iv 0)] dy∧∀qI ji q8:Value,∀kg:Hp,TW [qI,ji,q8] kg→∀Tp:Fr,
ae .num .lss q8 bf fun v20=>
Br v20 (
ai 1 a1 q8 fun bW=>
Ld kg bW fun cq=>
CF g 177 #[ji,cq] kg (fun bV gv=>
Ext 0 bV fun cD=>
Ext 1 bV fun cM=>
av Tryz.prog 25 1 [(0,cM)] gv fun cP mO=>
App Tryz.prog 3 1 8 (iv 0) mO qI cP fun dW oM=>
ae .num .add q8 (iv 1) fun eZ=>
aD TW ZB [dW,cD,eZ] oM [qI,ji,q8] kg) (au R)) (
R (.returned (.tuple #[qI,(iv 0)])) kg)) (au R))))→J4 [w7] H6)→
aY a0 fun eP=>
ae .num .gtr eP (iv 0) fun eW=>
Split eW true (
aY a1 fun dn=>
ai 2 a0 (iv 0) fun dU=>
aa 0 dU fun gk=>
Ld H2 gk fun gi=>
ae .num .neq dn gi fun gj=>
aF (Value.bool true) gj (Value.bool false) fun fD=>
Split fD false (
CF g 101 #[a1] H2 (fun gx kZ=>
ae .num .eql gx (iv 4) fun gA=>
aF (Value.bool false) (Value.bool true) gA fun g6=>
JE J4 [g6] kZ) (au R)) (
aF (Value.bool true) (Value.bool true) undef fun gN=>
JE J4 [gN] H2)) (
aF (Value.bool false) undef (Value.bool false) fun jA=>
CF g 101 #[a1] H2 (fun iz q7=>
ae .num .eql iz (iv 4) fun kG=>
aF jA (Value.bool true) kG fun jM=>
JE J4 [jM] q7) (au R)))) (au R)
theorem Ik(h:L99 g a0 a1 H R):ag Tryz.prog g 99 #[a0,a1] H R:=
 aj (hn:=(.n .e (.n .e (.n (.h 1 [31] [0,1] .e .e) (hN 3 (.n (.n .e (.n (.h 0 [6,7,39] [37,38] .e .e) .e)) .e)))))) Tryz.func99 h (by kernel_rfl)
def L101(g:Gh)(a0:Value)(H:Hp)(R:Rt):Prop:=
aY a0 fun v1=>
cX 4 1 1 (Value.bool false) H v1 v1 fun v2 H3=>
aY a0 fun v4=>
∃(I5:Jt) (m6:Mt),JE I5 [(iv 0)] H3∧∀w9:Value,∀H8:Hp,I5 [w9] H8→∀QZ:Fr,
ae .num .lss w9 v4 fun v10=>
Br v10 (
ai 1 a0 w9 fun v11=>
Ld H8 v11 fun bf=>
ae .num .lss bf (iv 0) fun aZ=>
bT aZ false (fun t14=>
aY a0 fun bA=>
ae .num .geq bf bA fun bu=>
(H8=H8∧bu=Value.bool t14)) (fun t14=>(Value.bool true)=Value.bool t14) fun t14=>∀Pc:Fr,
bT (Value.bool t14) false (fun t18=>
ai 1 v2 bf fun bP=>
Ld H8 bP fun v20=>
(H8=H8∧v20=Value.bool t18)) (fun t18=>(Value.bool true)=Value.bool t18) fun t18=>∀W0:Fr,
Br (Value.bool t18) (
R (.returned (iv 4)) H8) (
ai 1 v2 bf fun cq=>
St 1 H8 cq (Value.bool true) fun kD=>
ae .num .add w9 (iv 1) fun cy=>
aD I5 m6 [cy] kD [w9] H8)) (
aY a0 fun cD=>
ae .num .gtr cD (iv 64) fun cM=>
Br cM (
R (.returned (iv 13)) H8) (
R (.returned (iv 0)) H8))
theorem EL(h:L101 g a0 H R):ag Tryz.prog g 101 #[a0] H R:=
 aj (hn:=(.n .e (.n .e (.n (.n .e (.n (.h 0 [11] [0,3,9,10] (.n .e (.n .e (.n (.n (.n .e (.n (.n (.h 0 [] [1] .e .e) .e) .e)) .e) .e))) .e) .e)) .e)))) Tryz.func101 h (by kernel_rfl)
def L102(g:Gh)(a0 a1:Value)(H:Hp)(R:Rt):Prop:=
CF g 178 #[a0,a1] H (fun v1 H2=>
ae .num .neq v1 (iv 0) fun v3=>
Br v3 (
R (.returned (.tuple #[(.slice none 0 0),v1])) H2) (
CF g 57 #[a0] H2 (fun v4 H5=>
aY a1 fun v6=>
∃(I7:Jt) (m8:Mt),JE I7 [(.slice none 0 0),(iv 0)] H5∧∀kF fL:Value,∀di:Hp,I7 [kF,fL] di→∀Tf:Fr,
ae .num .lss fL v6 fun aZ=>
Br aZ (
ai 1 a1 fL fun bh=>
Ld di bh fun bA=>
CF g 179 #[v4,bA] di (fun bu eO=>
∃(MU:Jt) (Vi:Mt),JE MU [kF,bu] eO∧∀n8 oP:Value,∀fm:Hp,MU [n8,oP] fm→∀Tn:Fr,
ae .num .gtr oP fL fun cy=>
Br cy (
DR fm fun R25=>
ae .num .sub oP (iv 1) fun cM=>
ai 1 v4 oP fun cP=>
Ld R25 cP fun dc=>
ae .num .sub oP (iv 1) fun cL=>
ai 1 v4 cL fun v30=>
Ld R25 v30 fun dW=>
ai 1 v4 cM fun dV=>
St 1 fm dV dc fun iH=>
ai 1 v4 oP fun eP=>
St 1 iH eP dW fun nA=>
ae .num .sub oP (iv 1) fun dn=>
av Tryz.prog 25 1 [(0,dn)] nA fun dU pW=>
App Tryz.prog 3 1 8 (iv 0) pW n8 dU fun fD xY=>
ae .num .sub oP (iv 1) fun gh=>
aD MU Vi [fD,gh] xY [n8,oP] fm) (
ae .num .add fL (iv 1) fun gA=>
aD I7 m8 [n8,gA] fm [kF,fL] di)) (au R)) (
R (.returned (.tuple #[kF,(iv 0)])) di)) (au R))) (au R)
theorem EK(h:L102 g a0 a1 H R):ag Tryz.prog g 102 #[a0,a1] H R:=
 aj (hn:=(hN 4 (.n (.n .e (.n (.h 0 [8,22] [7,20,21] (.n .e (.n .e (.n (.n (.n .e (.n .e (.n (.h 0 [8,11] [7,9,20,21,22] (.n .e (.n (.n (.n (.h 0 [0,1,2,3,4,5,6,7,8,9,10,11,12,13,14,15,16,17] [] .e .e) .e) .e) .e)) .e) .e))) .e) .e))) .e) .e)) .e))) Tryz.func102 h (by kernel_rfl)
def L103(g:Gh)(a0 a1:Value)(H:Hp)(R:Rt):Prop:=
aX H (.cells #[(iv 0)] 3 (0,0)) fun b1 H2=>
CF g 104 #[a0] H2 (fun v3 H4=>
aX H4 (.cells #[(.pointer none)] 169 (0,0)) fun b5 H6=>
St 1 H6 (pt b5) v3 fun H7=>
aY a1 fun v8=>
∃(I9:Jt) (ZD:Mt),JE I9 [(iv 0)] H7∧∀Gy:Value,∀dz:Hp,I9 [Gy] dz→∀Tr:Fr,
ae .num .lss Gy v8 fun bh=>
Br bh (
ai 1 a1 Gy fun bA=>
Ld dz bA fun bu=>
Ld dz (pt b5) fun bF=>
CF g 107 #[bF,bu] dz (fun bX jh=>
ae .num .neq bX (iv 0) fun v20=>
Br v20 (
St 1 jh (pt b1) (iv 0) fun fm=>
kx Tryz.prog g 180 #[(pt b5),(pt b1)] fm fun gw=>
Ld gw (pt b1) fun bV=>
R (.returned (.tuple #[bV,bX])) gw) (
ae .num .add Gy (iv 1) fun cy=>
aD I9 ZD [cy] jh [Gy] dz)) Ij) (
Ld dz (pt b5) fun cD=>
Nil cD fun cM=>
aa 3 cM fun cP=>
St 1 dz cP (Value.bool true) fun mO=>
St 1 mO (pt b1) (iv 0) fun lM=>
kx Tryz.prog g 180 #[(pt b5),(pt b1)] lM fun kf=>
Ld kf (pt b1) fun dW=>
R (.returned (.tuple #[dW,(iv 0)])) kf)) Ij
theorem EJ(h:L103 g a0 a1 H R):ag Tryz.prog g 103 #[a0,a1] H R:=
 wO (hn:=(hN 3 (.n (.n .e (.n (.h 0 [14] [4,6,12,13] .e .e) .e)) .e))) Tryz.func103 h (by kernel_rfl)
def L104(g:Gh)(a0:Value)(H:Hp)(R:Rt):Prop:=
CF g 34 #[a0] H (fun v1 H2=>
Build Tryz.prog 260 [(0,a0),(1,v1)] fun v3=>
aX H2 (.cells (Value.cells v3) 260 (0,0)) fun b4 H5=>
R (.returned (pt b4)) H5) (au R)
theorem EI(h:L104 g a0 H R):ag Tryz.prog g 104 #[a0] H R:=
 aj (hn:=.e) Tryz.func104 h (by kernel_rfl)
def L105(g:Gh)(a0:Value)(H:Hp)(R:Rt):Prop:=
Nil a0 fun v1=>
aa 3 v1 fun v2=>
Ld H v2 fun v3=>
Un .not v3 fun v4=>
Br v4 (
CF g 108 #[a0] H (fun v5 H6=>
R (.returned (.tuple #[])) H6) (au R)) (
R (.returned (.tuple #[])) H)
theorem uc(h:L105 g a0 H R):ag Tryz.prog g 105 #[a0] H R:=
 aj (hn:=.e) Tryz.func105 h (by kernel_rfl)
def L107(g:Gh)(a0 a1:Value)(H:Hp)(R:Rt):Prop:=
Nil a0 fun v1=>
aa 0 v1 fun v2=>
Ld H v2 fun v3=>
CF g 17 #[v3,a1] H (fun v4 H5=>
∀J6:Jt,(∀H8:Hp,(∀QZ:Fr,
R (.returned v4) H8)→J6 [] H8)→
ae .num .eql v4 (iv 0) fun v9=>
Br v9 (
Nil a0 fun v10=>
aa 2 v10 fun v11=>
Ld H5 v11 fun bf=>
ae .num .add bf (iv 1) fun aZ=>
Nil a0 fun bh=>
aa 2 bh fun bA=>
St 1 H5 bA aZ fun kg=>
JE J6 [] kg) (
JE J6 [] H5)) (au R)
theorem ua(h:L107 g a0 a1 H R):ag Tryz.prog g 107 #[a0,a1] H R:=
 aj (hn:=(.n .e (.n .e (.h 1 [] [5] .e .e)))) Tryz.func107 h (by kernel_rfl)
def L108(g:Gh)(a0:Value)(H:Hp)(R:Rt):Prop:=
DR H fun R1=>
Nil a0 fun v2=>
aa 0 v2 fun v3=>
Ld R1 v3 fun v4=>
Nil a0 fun v5=>
aa 1 v5 fun v6=>
Ld R1 v6 fun v7=>
CF g 145 #[v4,v7] H (fun v8 H9=>
aQ H9 R1∧
Ext 0 v8 fun v10=>
Ext 1 v8 fun v11=>
Nil a0 fun bf=>
aa 2 bf fun aZ=>
Ld H9 aZ fun bh=>
ae .num .add bh v10 fun bA=>
Nil a0 fun bu=>
aa 2 bu fun bF=>
St 1 H9 bF bA fun dm=>
R (.returned (.tuple #[])) dm) br
theorem EH(h:L108 g a0 H R):ag Tryz.prog g 108 #[a0] H R:=
 aj (hn:=(.n (.h 0 [0,1,2,3,4,5,6,7,8,9,10,11,12,13] [] .e .e) .e)) Tryz.func108 h (by kernel_rfl)
def L113(g:Gh)(a0 a1:Value)(H:Hp)(R:Rt):Prop:=
ae .num .geq a1 (iv 0) fun v1=>
bT v1 true (fun t2=>
Nil a0 fun v3=>
aa 4 v3 fun v4=>
Ld H v4 fun v5=>
ae .num .lss a1 v5 fun v6=>
(H=H∧v6=Value.bool t2)) (fun t2=>(Value.bool false)=Value.bool t2) fun t2=>∀QZ:Fr,
R (.returned (Value.bool t2)) H
theorem EG(h:L113 g a0 a1 H R):ag Tryz.prog g 113 #[a0,a1] H R:=
 aj (hn:=(.n .e (.n (.h 0 [] [1] .e .e) .e))) Tryz.func113 h (by kernel_rfl)
def L116(g:Gh)(a0:Value)(H:Hp)(R:Rt):Prop:=
ae .num .lss a0 (iv 0) fun v1=>
bT v1 false (fun t2=>
ae .num .gtr a0 (iv 64) fun v3=>
(H=H∧v3=Value.bool t2)) (fun t2=>(Value.bool true)=Value.bool t2) fun t2=>∀Jl:Fr,
Br (Value.bool t2) (
R (.returned (.tuple #[(.slice none 0 0),(iv 1)])) H) (
CF g 185 #[a0] H (fun v5 H6=>
R (.returned (.tuple #[v5,(iv 0)])) H6) (au R))
theorem EF(h:L116 g a0 H R):ag Tryz.prog g 116 #[a0] H R:=
 aj (hn:=(.n .e (.n (.n (.h 0 [] [1] .e .e) .e) .e))) Tryz.func116 h (by kernel_rfl)
def L117(g:Gh)(a0:Value)(H:Hp)(R:Rt):Prop:=
ae .num .lss a0 (iv 1) fun v1=>
bT v1 false (fun t2=>
ae .num .gtr a0 (iv 64) fun v3=>
(H=H∧v3=Value.bool t2)) (fun t2=>(Value.bool true)=Value.bool t2) fun t2=>∀Jl:Fr,
Br (Value.bool t2) (
R (.returned (.tuple #[(.pointer none),(iv 1)])) H) (
cX 266 1 8 (.map none) H a0 a0 fun v5 H6=>
Build Tryz.prog 265 [(0,v5)] fun v7=>
aX H6 (.cells (Value.cells v7) 265 (0,0)) fun b8 H9=>
∃(Jp:Jt) (Ue:Mt),JE Jp [(iv 0)] H9∧∀nB:Value,∀fg:Hp,Jp [nB] fg→∀LZ:Fr,
ae .num .lss nB a0 fun bA=>
Br bA (
Nil (pt b8) fun bu=>
aa 0 bu fun bF=>
Ld fg bF fun bX=>
lD fg fun bP iy=>
ai 1 bX nB fun bW=>
St 1 iy bW bP fun gw=>
ae .num .add nB (iv 1) fun bV=>
aD Jp Ue [bV] gw [nB] fg) (
R (.returned (.tuple #[(pt b8),(iv 0)])) fg))
theorem EE(h:L117 g a0 H R):ag Tryz.prog g 117 #[a0] H R:=
 aj (hn:=(.n .e (.n (.n (.h 0 [] [1] .e .e) .e) (.n .e (.n (.n .e (.n (.h 0 [17] [4,16] .e .e) .e)) .e))))) Tryz.func117 h (by kernel_rfl)
def L118(g:Gh)(a0 a1:Value)(H:Hp)(R:Rt):Prop:=
aX H (.cells #[(.pointer none),(.pointer none),(.slice none 0 0),(.slice none 0 0)] 115 (0,0)) fun b1 H2=>
CF g 186 #[a0] H2 (fun v3 H4=>
Ext 0 v3 fun v5=>
Ext 1 v3 fun v6=>
Build Tryz.prog 115 [(0,v5),(1,a1)] fun v7=>
St 4 H4 (pt b1) v7 fun H8=>
aC 4 H8 (pt b1) fun v9=>
R (.returned (.tuple #[v9,v6])) H8) (au R)
theorem ED(h:L118 g a0 a1 H R):ag Tryz.prog g 118 #[a0,a1] H R:=
 aj (hn:=.e) Tryz.func118 h (by kernel_rfl)
variable {g:Gh} {a0 a1 a2 a3 a4 a5 a6 a7 a8 a9 rF rE Xl Xk Xj Xi:Value} {H:Hp} {R:Rt}
def L121(g:Gh)(a0 a1:Value)(H:Hp)(R:Rt):Prop:=
ae .ptr .eql a0 (.pointer none) fun v1=>
Br v1 (
R (.returned (iv 10)) H) (
Nil a0 fun v2=>
aa 0 v2 fun v3=>
CF g 173 #[v3,a1] H (fun v4 H5=>
Un .not v4 fun v6=>
Br v6 (
R (.returned (iv 3)) H5) (
∀J7:Jt,(∀H9:Hp,(∀O9:Fr,
Nil a0 fun v10=>
aa 7 v10 fun v11=>
St 1 H9 v11 (.slice none 0 0) fun dz=>
R (.returned (iv 0)) dz)→J7 [] H9)→
ae .num .gtr a1 (Value.int .u32 1) fun aZ=>
Br aZ (
Nil a0 fun bh=>
aa 0 bh fun bA=>
aa 3 bA fun bu=>
Ld H5 bu fun bF=>
ai 1 bF a1 fun bX=>
Ld H5 bX fun bP=>
ae .num .eql bP (Value.int .i32 65535) fun v20=>
Br v20 (
R (.returned (iv 8)) H5) (
Nil a0 fun bW=>
aa 0 bW fun cq=>
aa 3 cq fun bV=>
Ld H5 bV fun cy=>
ai 1 cy a1 fun cD=>
Ld H5 cD fun cM=>
ae .num .add cM (Value.int .i32 1) fun cP=>
ai 1 cy a1 fun dc=>
St 1 H5 dc cP fun lM=>
Nil a0 fun v30=>
aa 0 v30 fun dW=>
aa 3 dW fun dV=>
Ld lM dV fun eZ=>
ai 1 eZ a1 fun eP=>
Ld lM eP fun eW=>
ae .num .eql eW (Value.int .i32 1) fun dn=>
Br dn (
Nil a0 fun dU=>
aa 0 dU fun gk=>
aa 2 gk fun gi=>
Ld lM gi fun gj=>
ai 1 gj a1 fun fD=>
Ld lM fD fun gx=>
ae .num .add gx (Value.int .i32 1) fun gh=>
ai 1 gj a1 fun gA=>
St 1 lM gA gh fun Jv=>
JE J7 [] Jv) (
JE J7 [] lM))) (
JE J7 [] H5))) (au R))
theorem tZ(h:L121 g a0 a1 H R):ag Tryz.prog g 121 #[a0,a1] H R:=
 aj (hn:=(.n .e (.n .e (.h 1 [] [0] .e .e)))) Tryz.func121 h (by kernel_rfl)
def L126(g:Gh)(a0 a1:Value)(H:Hp)(R:Rt):Prop:=
aX H (.cells #[(iv 0),(.slice none 0 0)] 57 (0,0)) fun b1 H2=>
aW .i64 a1 fun v3=>
Nil a0 fun v4=>
aa 2 v4 fun v5=>
Ld H2 v5 fun v6=>
aY v6 fun v7=>
ae .num .add v7 (iv 2) fun v8=>
ae .num .rem v3 v8 fun v9=>
ae .num .lss v9 (iv 2) fun v10=>
Br v10 (
Nil a0 fun v11=>
aa 1 v11 fun bf=>
Ld H2 bf fun aZ=>
ae .num .eql v9 (iv 1) fun bh=>
CF g 147 #[aZ,bh] H2 (fun bA kg=>
Ext 0 bA fun bF=>
Ext 1 bA fun bX=>
aX kg (.cells #[(iv 0),(.slice none 0 0)] 57 (0,0)) fun kX iy=>
St 2 iy (pt kX) bF fun fm=>
DR fm fun TH=>
aW .u32 v9 fun bV=>
aC 2 TH (pt kX) fun cy=>
St 2 fm (pt b1) cy fun gu=>
aC 2 gu (pt b1) fun cM=>
R (.returned (.tuple #[bV,cM])) gu) (au R)) (
DR H2 fun Gb=>
Nil a0 fun dc=>
aa 2 dc fun cL=>
Ld Gb cL fun v30=>
ae .num .sub v9 (iv 2) fun dW=>
ai 1 v30 dW fun dV=>
Ld Gb dV fun eZ=>
Nil a0 fun eP=>
aa 3 eP fun eW=>
Ld Gb eW fun dn=>
ae .num .sub v9 (iv 2) fun dU=>
ai 2 dn dU fun gk=>
aC 2 Gb gk fun gi=>
St 2 H2 (pt b1) gi fun j9=>
aC 2 j9 (pt b1) fun fD=>
R (.returned (.tuple #[eZ,fD])) j9)
theorem EC(h:L126 g a0 a1 H R):ag Tryz.prog g 126 #[a0,a1] H R:=
 aj (hn:=(.n .e (.n .e (.n (.n .e (.n (.n .e (.n (.h 0 [0,1,2,3,4] [] .e .e) .e)) .e)) (.n (.h 0 [0,1,2,3,4,5,6,7,8,9,10,11,12,13,14,15,16,17] [] .e .e) .e))))) Tryz.func126 h (by kernel_rfl)
def L127(g:Gh)(a0 a1 a2 a3 a4:Value)(H:Hp)(R:Rt):Prop:=
aX H (.cells (Value.cells a1) 106 (0,0)) fun b1 H2=>
aX H2 (.cells (Value.cells a2) 57 (0,0)) fun b3 H4=>
aX H4 (.cells (Value.cells a3) 57 (0,0)) fun b5 H6=>
aX H6 (.cells (Value.cells a4) 57 (0,0)) fun b7 H8=>
aX H8 (.cells #[(iv 0),(.slice none 0 0)] 57 (0,0)) fun b9 di=>
aa 1 (pt b1) fun v11=>
Ld di v11 fun bf=>
aW .i64 bf fun aZ=>
Nil a0 fun bh=>
aa 1 bh fun bA=>
Ld di bA fun bu=>
ae .num .rem aZ bu fun bF=>
Nil a0 fun bX=>
aa 1 bX fun bP=>
Ld di bP fun v20=>
CF g 153 #[v20,bF] di (fun bW gw=>
Ext 0 bW fun bV=>
Ext 1 bW fun cy=>
aX gw (.cells #[(iv 0),(.slice none 0 0)] 57 (0,0)) fun F1 gI=>
St 2 gI (pt F1) bV fun gr=>
aC 2 gr (pt b3) fun dc=>
CF g 148 #[dc,bF,(Value.bool false)] gr (fun cL kf=>
Ext 0 cL fun dW=>
Ext 1 cL fun dV=>
aX kf (.cells #[(iv 0),(.slice none 0 0)] 57 (0,0)) fun pN pY=>
St 2 pY (pt pN) dW fun nA=>
aC 2 nA (pt b3) fun dn=>
CF g 148 #[dn,bF,(Value.bool true)] nA (fun dU pW=>
Ext 0 dU fun gi=>
Ext 1 dU fun gj=>
aX pW (.cells #[(iv 0),(.slice none 0 0)] 57 (0,0)) fun F0 xY=>
St 2 xY (pt F0) gi fun kZ=>
aa 0 (pt b1) fun gA=>
Ld kZ gA fun g6=>
ae .num .rem g6 (Value.int .u8 9) fun gN=>
ae .num .eql gN (Value.int .u8 0) fun jA=>
Br jA (
aC 2 kZ (pt F1) fun iz=>
St 2 kZ (pt b9) iz fun q7=>
aC 2 q7 (pt b9) fun kG=>
R (.returned (.tuple #[kG,(iv 0)])) q7) (
ae .num .eql gN (Value.int .u8 1) fun jM=>
Br jM (
aC 2 kZ (pt b3) fun lT=>
CF g 193 #[lT] kZ (fun uE Jr=>
Ext 0 uE fun oU=>
Ext 1 uE fun r9=>
St 2 Jr (pt b9) oU fun MX=>
aC 2 MX (pt b9) fun wA=>
R (.returned (.tuple #[wA,r9])) MX) (au R)) (
∀J59:Jt,(∀w62:Value,∀rI:Hp,(∀abo:Fr,
Br w62 (
aa 5 (pt b1) fun rh=>
Ld rI rh fun yo=>
ae .num .rem yo (Value.int .u64 16) fun q9=>
aW .u8 q9 fun uD=>
aC 2 rI (pt b3) fun wz=>
aC 2 rI (pt b5) fun uC=>
CF g 194 #[uD,wz,uC] rI (fun uB UQ=>
Ext 0 uB fun ym=>
Ext 1 uB fun uA=>
St 2 UQ (pt b9) ym fun wu=>
aC 2 wu (pt b9) fun JJ=>
R (.returned (.tuple #[JJ,uA])) wu) (au R)) (
ae .num .eql gN (Value.int .u8 4) fun uz=>
Br uz (
aC 2 rI (pt b3) fun Au=>
aC 2 rI (pt b5) fun AS=>
aC 2 rI (pt b7) fun uy=>
CF g 154 #[Au,AS,uy] rI (fun ux YN=>
Ext 0 ux fun As=>
Ext 1 ux fun uv=>
St 2 YN (pt b9) As fun IW=>
aC 2 IW (pt b9) fun Ar=>
R (.returned (.tuple #[Ar,uv])) IW) (au R)) (
ae .num .eql gN (Value.int .u8 5) fun u7=>
Br u7 (
aC 2 rI (pt b3) fun GB=>
aa 5 (pt b1) fun JI=>
Ld rI JI fun GA=>
ae .num .rem GA (Value.int .u64 2) fun EZ=>
ae .num .eql EZ (Value.int .u64 1) fun AR=>
CF g 148 #[GB,bF,AR] rI (fun x9 H92=>
Ext 0 x9 fun Ng=>
Ext 1 x9 fun Jc=>
St 2 H92 (pt b9) Ng fun TY=>
aC 2 TY (pt b9) fun NJ=>
R (.returned (.tuple #[NJ,Jc])) TY) (au R)) (
ae .num .eql gN (Value.int .u8 6) fun Ri=>
Br Ri (
aC 2 rI (pt pN) fun JH=>
aC 2 rI (pt F0) fun NI=>
CF g 194 #[(Value.int .u8 14),JH,NI] rI (fun uG acL=>
Ext 0 uG fun si=>
Ext 1 uG fun sg=>
St 2 acL (pt b9) si fun XT=>
aC 2 XT (pt b9) fun wC=>
R (.returned (.tuple #[wC,sg])) XT) (au R)) (
ae .num .eql gN (Value.int .u8 7) fun AY=>
Br AY (
aC 2 rI (pt pN) fun sb=>
aC 2 rI (pt F0) fun Rv=>
CF g 194 #[(Value.int .u8 8),sb,Rv] rI (fun uF EM=>
Ext 0 uF fun JQ=>
Ext 1 uF fun AX=>
St 2 EM (pt b9) JQ fun XS=>
aC 2 XS (pt b9) fun AW=>
R (.returned (.tuple #[AW,AX])) XS) (au R)) (
aC 2 rI (pt b5) fun AV=>
aC 2 rI (pt F0) fun Rs=>
aC 2 rI (pt pN) fun Rr=>
CF g 154 #[AV,Rs,Rr] rI (fun GG T2=>
Ext 0 GG fun AU=>
Ext 1 GG fun JO=>
St 2 T2 (pt b9) AU fun XQ=>
aC 2 XQ (pt b9) fun AT=>
R (.returned (.tuple #[AT,JO])) XQ) (au R)))))))→J59 [w62] rI)→
ae .num .eql gN (Value.int .u8 2) fun yp=>
Br yp (
JE J59 [yp] kZ) (
ae .num .eql gN (Value.int .u8 3) fun GF=>
JE J59 [GF] kZ)))) (au R)) (au R)) (au R)
theorem EB(h:L127 g a0 a1 a2 a3 a4 H R):ag Tryz.prog g 127 #[a0,a1,a2,a3,a4] H R:=
 aj (hn:=(hN 5 (.n (.n .e (.n (hN 4 (.h 1 [60] [6,7,8,9,10,12,15,17,50] .e .e)) .e)) .e))) Tryz.func127 h (by kernel_rfl)
def L128(g:Gh)(a0 a1 a2 a3 a4:Value)(H:Hp)(R:Rt):Prop:=
aX H (.cells (Value.cells a1) 106 (0,0)) fun b1 H2=>
aa 1 (pt b1) fun v3=>
Ld H2 v3 fun v4=>
aW .i64 v4 fun v5=>
Nil a0 fun v6=>
aa 1 v6 fun v7=>
Ld H2 v7 fun v8=>
ae .num .rem v5 v8 fun v9=>
aa 0 (pt b1) fun v10=>
Ld H2 v10 fun v11=>
ae .num .rem v11 (Value.int .u8 9) fun bf=>
ae .num .eql bf (Value.int .u8 0) fun aZ=>
Br aZ (
Nil a0 fun bh=>
aa 0 bh fun bA=>
Ld H2 bA fun bu=>
CF g 195 #[bu,v9] H2 (fun bF dm=>
Ext 0 bF fun bP=>
Ext 1 bF fun v20=>
R (.returned (.tuple #[bP,v20])) dm) (au R)) (
ae .num .eql bf (Value.int .u8 1) fun bW=>
Br bW (
Nil a0 fun cq=>
aa 0 cq fun bV=>
Ld H2 bV fun cy=>
CF g 196 #[cy,a2] H2 (fun cD gI=>
Ext 0 cD fun cP=>
Ext 1 cD fun dc=>
R (.returned (.tuple #[cP,dc])) gI) (au R)) (
∀J29:Jt,(∀x7:Value,∀jg:Hp,(∀Tj:Fr,
Br x7 (
DR jg fun UH=>
Nil a0 fun eP=>
aa 0 eP fun eW=>
Ld UH eW fun dn=>
aa 5 (pt b1) fun dU=>
Ld UH dU fun gk=>
ae .num .rem gk (Value.int .u64 16) fun gi=>
aW .u8 gi fun gj=>
CF g 197 #[dn,gj,a2,a3] jg (fun fD xY=>
aQ xY UH∧
Ext 0 fD fun gh=>
Ext 1 fD fun gA=>
R (.returned (.tuple #[gh,gA])) xY) br) (
ae .num .eql bf (Value.int .u8 4) fun g6=>
Br g6 (
Nil a0 fun gN=>
aa 0 gN fun jA=>
Ld jg jA fun iz=>
CF g 198 #[iz,a2,a3,a4] jg (fun k9 MY=>
Ext 0 k9 fun jM=>
Ext 1 k9 fun lT=>
R (.returned (.tuple #[jM,lT])) MY) (au R)) (
ae .num .eql bf (Value.int .u8 5) fun uE=>
Br uE (
DR jg fun R54=>
Nil a0 fun oU=>
aa 0 oU fun r9=>
Ld R54 r9 fun rK=>
aa 5 (pt b1) fun wA=>
Ld R54 wA fun rj=>
ae .num .rem rj (Value.int .u64 2) fun ri=>
ae .num .eql ri (Value.int .u64 1) fun r8=>
CF g 199 #[rK,a2,v9,r8] jg (fun vb NC=>
aQ NC R54∧
Ext 0 vb fun yo=>
Ext 1 vb fun q9=>
R (.returned (.tuple #[yo,q9])) NC) br) (
ae .num .eql bf (Value.int .u8 6) fun uD=>
Br uD (
DR jg fun Ca=>
Nil a0 fun uC=>
aa 0 uC fun uB=>
Ld Ca uB fun uf=>
ae .num .shl (Value.int .u64 1) v9 fun ym=>
CF g 200 #[uf,a2,ym] jg (fun uA wu=>
aQ wu Ca∧
Ext 0 uA fun JJ=>
Ext 1 uA fun uz=>
R (.returned (.tuple #[JJ,uz])) wu) br) (
ae .num .eql bf (Value.int .u8 7) fun Au=>
Br Au (
DR jg fun R77=>
Nil a0 fun uy=>
aa 0 uy fun ux=>
Ld R77 ux fun E0=>
ae .num .shl (Value.int .u64 1) v9 fun As=>
CF g 201 #[E0,a2,As] jg (fun uv IW=>
aQ IW R77∧
Ext 0 uv fun Ar=>
Ext 1 uv fun u7=>
R (.returned (.tuple #[Ar,u7])) IW) br) (
Nil a0 fun GB=>
aa 0 GB fun JI=>
Ld jg JI fun GA=>
CF g 202 #[GA,a2,v9,a3] jg (fun EZ YK=>
Ext 0 EZ fun x9=>
Ext 1 EZ fun AQ=>
R (.returned (.tuple #[x9,AQ])) YK) (au R)))))))→J29 [x7] jg)→
ae .num .eql bf (Value.int .u8 2) fun Ng=>
Br Ng (
JE J29 [Ng] H2) (
ae .num .eql bf (Value.int .u8 3) fun Jc=>
JE J29 [Jc] H2)))
theorem EA(h:L128 g a0 a1 a2 a3 a4 H R):ag Tryz.prog g 128 #[a0,a1,a2,a3,a4] H R:=
 aj (hn:=(.n .e (.n .e (.n (.n .e (.n (hN 4 (.h 1 [44] [0,2,3,4,6,12,23] .e (.n (.n (.h 0 [0,1,2,3,4,5,6,7,8,9,10,11,12,13,14] [] .e .e) .e) (hN 3 (.n (.n (.h 0 [0,1,2,3,4,5,6,7,8,9,10,11,12,13,14] [] .e .e) .e) (.n .e (.n (.n (.h 0 [0,1,2,3,4,5,6,7,8,9,10,11] [] .e .e) .e) (.n .e (.n (.n (.h 0 [0,1,2,3,4,5,6,7,8,9,10,11] [] .e .e) .e) .e))))))))) .e)) .e)))) Tryz.func128 h (by kernel_rfl)
def L129(g:Gh)(a0 a1 a2:Value)(H:Hp)(R:Rt):Prop:=
aX H (.cells (Value.cells a2) 57 (0,0)) fun b1 H2=>
ae .num .gtr a1 (Value.int .u32 1) fun v3=>
Br v3 (
Nil a0 fun v4=>
aa 2 v4 fun v5=>
Ld H2 v5 fun v6=>
av Tryz.prog 27 1 [(0,a1)] H2 fun v7 H8=>
App Tryz.prog 77 1 4 (Value.int .u32 0) H8 v6 v7 fun v11 dz=>
Nil a0 fun aZ=>
aa 2 aZ fun bh=>
St 1 dz bh v11 fun dx=>
DR dx fun Q9=>
Nil a0 fun bF=>
aa 3 bF fun bX=>
Ld Q9 bX fun bP=>
aC 2 Q9 (pt b1) fun v20=>
av Tryz.prog 28 1 [(0,v20)] dx fun bW gw=>
aQ gw Q9∧
App Tryz.prog 57 2 32 (.agg #[(iv 0),(.slice none 0 0)]) gw bP bW fun cD gI=>
aQ gI Q9∧
Nil a0 fun cP=>
aa 3 cP fun dc=>
St 1 gI dc cD fun lM=>
R (.returned (.tuple #[])) lM) (
R (.returned (.tuple #[])) H2)
theorem tY(h:L129 g a0 a1 a2 H R):ag Tryz.prog g 129 #[a0,a1,a2] H R:=
 aj (hn:=(.n .e (.n .e (.n (.n .e (.h 0 [0,1,2,3,4,5,6,7,8,9,10] [] .e .e)) .e)))) Tryz.func129 h (by kernel_rfl)
def L131(g:Gh)(a0 a1:Value)(H:Hp)(R:Rt):Prop:=
ae .ptr .eql a0 (.pointer none) fun v1=>
Br v1 (
R (.returned (iv 10)) H) (
∀J2:Jt,(∀H4:Hp,(∀WY:Fr,
Nil a0 fun v5=>
aa 7 v5 fun v6=>
St 1 H4 v6 (.slice none 0 0) fun H7=>
R (.returned (iv 0)) H7)→J2 [] H4)→
ae .num .gtr a1 (Value.int .u32 1) fun v8=>
Br v8 (
CF g 95 #[a0,a1] H (fun v9 di=>
ae .num .eql v9 (iv 0) fun v11=>
Br v11 (
R (.returned (iv 3)) di) (
Nil a0 fun bf=>
aa 0 bf fun aZ=>
aa 3 aZ fun bh=>
Ld di bh fun bA=>
ai 1 bA a1 fun bu=>
Ld di bu fun bF=>
ae .num .sub bF (Value.int .i32 1) fun bX=>
ai 1 bA a1 fun bP=>
St 1 di bP bX fun iy=>
Nil a0 fun bW=>
aa 0 bW fun cq=>
aa 3 cq fun bV=>
Ld iy bV fun cy=>
ai 1 cy a1 fun cD=>
Ld iy cD fun cM=>
ae .num .eql cM (Value.int .i32 0) fun cP=>
Br cP (
Nil a0 fun dc=>
aa 0 dc fun cL=>
CF g 142 #[cL,a1] iy (fun v30 jg=>
JE J2 [] jg) (au R)) (
JE J2 [] iy))) (au R)) (
JE J2 [] H))
theorem tX(h:L131 g a0 a1 H R):ag Tryz.prog g 131 #[a0,a1] H R:=
 aj (hn:=(.n .e (.n .e (.h 1 [] [0] .e .e)))) Tryz.func131 h (by kernel_rfl)
theorem Am(h:L131 g a0 a1 H R):jz Tryz.prog g 131 #[a0,a1] H R:=
 wP (hn:=(.n .e (.n .e (.h 1 [] [0] .e .e)))) Tryz.func131 h (by kernel_rfl)
def L134(g:Gh)(a0 a1 a2:Value)(H:Hp)(R:Rt):Prop:=
Nil a0 fun v1=>
aa 0 v1 fun v2=>
aa 1 v2 fun v3=>
Ld H v3 fun v4=>
CF g 203 #[v4,a1] H (fun v5 H6=>
Ext 0 v5 fun v7=>
Ext 1 v5 fun v8=>
aY v7 fun v9=>
∃(Jp:Jt) (Ue:Mt),JE Jp [(.slice none 0 0),(iv 0)] H6∧∀nB rJ:Value,∀fg:Hp,Jp [nB,rJ] fg→∀LZ:Fr,
ae .num .lss rJ v9 fun bu=>
Br bu (
∀xW:Jt,(∀nN:Value,∀jh:Hp,(∀Pb:Fr,
ae .num .add rJ (iv 1) fun bW=>
aD Jp Ue [nN,bW] jh [nB,rJ] fg)→xW [nN] jh)→
ai 1 v7 rJ fun cq=>
Ld fg cq fun bV=>
Nil a0 fun cy=>
aa 0 cy fun cD=>
CF g 174 #[cD,bV] fg (fun cM gr=>
aX gr (.cells #[(iv 0),(Value.int .u32 0),(Value.int .u32 0)] 161 (0,0)) fun ME lM=>
St 3 lM (pt ME) cM fun kf=>
∀yf:Jt,(∀x6:Value,∀iH:Hp,(∀Ti:Fr,
Br x6 (
JE xW [nB] iH) (
aC 3 iH (pt ME) fun eW=>
Build Tryz.prog 203 [(0,bV),(1,eW)] fun dn=>
aX iH (.cells #[(Value.int .u32 0),(iv 0),(Value.int .u32 0),(Value.int .u32 0),(Value.int .u32 0),(Value.int .u32 0),(Value.int .u32 0),(Value.int .u32 0)] 203 (0,0)) fun MD pW=>
St 8 pW (pt MD) dn fun Gj=>
aa 1 (pt ME) fun gj=>
Ld Gj gj fun fD=>
CF g 204 #[a0,fD,a2] Gj (fun gx kZ=>
Ext 0 gx fun gA=>
Ext 1 gx fun g6=>
aa 4 (pt MD) fun gN=>
St 1 kZ gN gA fun Ju=>
aa 5 (pt MD) fun iz=>
St 1 Ju iz g6 fun q7=>
aa 2 (pt ME) fun kG=>
Ld q7 kG fun jM=>
CF g 204 #[a0,jM,a2] q7 (fun lT Js=>
Ext 0 lT fun wB=>
Ext 1 lT fun oU=>
aa 6 (pt MD) fun r9=>
St 1 Js r9 wB fun MX=>
aa 7 (pt MD) fun wA=>
St 1 MX wA oU fun XN=>
aC 8 XN (pt MD) fun ri=>
av Tryz.prog 199 1 [(0,ri)] XN fun r8 MW=>
App Tryz.prog 203 8 40 (.agg #[(Value.int .u32 0),(iv 0),(Value.int .u32 0),(Value.int .u32 0),(Value.int .u32 0),(Value.int .u32 0),(Value.int .u32 0),(Value.int .u32 0)]) MW nB r8 fun q9 T1=>
JE xW [q9] T1) (au R)) (au R)))→yf [x6] iH)→
DR kf fun Ca=>
Nil a0 fun uC=>
aa 0 uC fun uB=>
aa 1 (pt ME) fun uf=>
Ld Ca uf fun ym=>
∀F72:Hp,
CF (g.add F72) 174 #[uB,ym] kf (fun GD UP=>
aQ UP Ca∧
Gl 0 GD fun uz=>
ae .num .neq uz a2 fun Au=>
Br Au (
Nil a0 fun AS=>
aa 0 AS fun uy=>
aa 2 (pt ME) fun ux=>
Ld Ca ux fun E0=>
∀F81:Hp,
CF (g.add F81) 174 #[uy,E0] UP (fun uv IW=>
aQ IW Ca∧
Gl 0 uv fun Ar=>
ae .num .neq Ar a2 fun u7=>
aF (Value.bool true) u7 (Value.bool false) fun GB=>
JE yf [GB] IW) br) (
JE yf [(Value.bool false)] UP)) br) (au R)) (
R (.returned nB) fg)) (au R)
theorem Ez(h:L134 g a0 a1 a2 H R):ag Tryz.prog g 134 #[a0,a1,a2] H R:=
 aj (hn:=(hN 3 (.n (.n .e (.n (.h 0 [7,26] [0,2,24,25] (.n .e (.n .e (.h 1 [7] [0,2,24,25,26] (.n (.n .e (.n .e (.n (.h 1 [54] [0,2,7,11,12,24,25,26] (.h 1 [] [] (hr 0 [] 0 5 (.h 0 [7] [] (hr 0 [] 5 2 (.h 0 [8] [] (.h 2 [9] [] (hr 0 [] 10 5 (.h 0 [17] [] (hr 0 [] 15 2 (hr 0 [] 18 2 .e)) .e)) (hr 0 [] 10 9 (.h 3 [19] [] .e .e))) .e)) .e)) .e) .e) .e))) .e) .e))) .e) .e)) .e))) Tryz.func134 h (by kernel_rfl)
def L135(g:Gh)(a0 a1:Value)(H:Hp)(R:Rt):Prop:=
DR H fun R1=>
Nil a0 fun v2=>
aa 0 v2 fun v3=>
Ld R1 v3 fun v4=>
Nil a0 fun v5=>
aa 0 v5 fun v6=>
Ld R1 v6 fun v7=>
CF g 58 #[v4] H (fun v8 H9=>
aQ H9 R1∧
ae .num .add v8 a1 fun v10=>
CF g 146 #[v7] H9 (fun v11 dz=>
aQ dz R1∧
ae .num .leq v10 v11 fun aZ=>
R (.returned aZ) dz) br) br
theorem Ey(h:L135 g a0 a1 H R):ag Tryz.prog g 135 #[a0,a1] H R:=
 aj (hn:=(.n .e (.n (.h 0 [0,1,2,3,5,7,8,9,10,4,6,11,12,13] [] .e .e) .e))) Tryz.func135 h (by kernel_rfl)
def L136(g:Gh)(a0 a1 a2:Value)(H:Hp)(R:Rt):Prop:=
lD H fun v1 H2=>
aY a2 fun v3=>
∃(I4:Jt) (m5:Mt),JE I4 [(iv 0)] H2∧∀w8:Value,∀H7:Hp,I4 [w8] H7→∀Tg:Fr,
ae .num .lss w8 v3 fun v9=>
Br v9 (
ai 8 a2 w8 fun v10=>
aC 8 H7 v10 fun v11=>
aX H7 (.cells #[(Value.int .u32 0),(iv 0),(Value.int .u32 0),(Value.int .u32 0),(Value.int .u32 0),(Value.int .u32 0),(Value.int .u32 0),(Value.int .u32 0)] 203 (0,0)) fun Ab fg=>
St 8 fg (pt Ab) v11 fun gg=>
aa 4 (pt Ab) fun bA=>
Ld gg bA fun bu=>
aa 6 (pt Ab) fun bF=>
Ld gg bF fun bX=>
Build Tryz.prog 161 [(0,a1),(1,bu),(2,bX)] fun bP=>
aa 5 (pt Ab) fun v20=>
Ld gg v20 fun bW=>
aa 7 (pt Ab) fun cq=>
Ld gg cq fun bV=>
Build Tryz.prog 161 [(0,a1),(1,bW),(2,bV)] fun cy=>
av Tryz.prog 286 2 [(0,bP),(1,cy)] gg fun cD gI=>
aY cD fun cP=>
∃(TS:Jt) (Zw:Mt),JE TS [(iv 0)] gI∧∀x7:Value,∀jg:Hp,TS [x7] jg→∀Tj:Fr,
ae .num .lss x7 cP fun eZ=>
Br eZ (
∀XI:Jt,(∀AL:Hp,(∀abv:Fr,
ae .num .add x7 (iv 1) fun dU=>
aD TS Zw [dU] AL [x7] jg)→XI [] AL)→
ai 3 cD x7 fun gk=>
aC 3 jg gk fun gi=>
aX jg (.cells #[(iv 0),(Value.int .u32 0),(Value.int .u32 0)] 161 (0,0)) fun Ty u4=>
St 3 u4 (pt Ty) gi fun xY=>
DR xY fun R43=>
Nil a0 fun gA=>
aa 0 gA fun g6=>
aa 1 g6 fun gN=>
Ld R43 gN fun jA=>
aC 3 R43 (pt Ty) fun iz=>
CF g 205 #[jA,iz] xY (fun k9 MY=>
aQ MY R43∧
Ext 0 k9 fun jM=>
Ext 1 k9 fun lT=>
Un .not lT fun uE=>
bT uE true (fun t54=>
aa 1 (pt Ty) fun oU=>
Ld MY oU fun r9=>
aa 2 (pt Ty) fun rK=>
Ld MY rK fun wA=>
ae .num .neq r9 wA fun rj=>
(MY=MY∧rj=Value.bool t54)) (fun t54=>(Value.bool false)=Value.bool t54) fun t54=>∀abo:Fr,
Br (Value.bool t54) (
TD Tryz.prog g 10 (nC Tryz.f136 10) [7,11] [v1,(pt Ty)] MY fun MW=>∀WX:Fr,
JE XI [] MW) (
JE XI [] MY)) br) (
ae .num .add w8 (iv 1) fun rh=>
aD I4 m5 [rh] jg [w8] H7)) (
Aj H7 v1 fun yo=>
R (.returned yo) H7)
theorem Ex(h:L136 g a0 a1 a2 H R):ag Tryz.prog g 136 #[a0,a1,a2] H R:=
 aj (hn:=(.n .e (.n .e (.n (.n .e (.n (.h 0 [17] [0,1,7,15,16] (.n .e (.n .e (.n (.n (.n .e (.n .e (.n (.h 0 [35] [0,1,7,15,16,17,33,34] (.n .e (.n .e (.h 1 [] [0,1,7,15,16,17,33,34,35] (.n (.n .e (.n (.h 0 [0,1,2,3,4,5,6,7,8,9,10,11] [] .e .e) (.n (.h 0 [] [1] .e .e) (.n (.h 9 [7,11] [] .e .e) .e)))) .e) .e))) .e) .e))) .e) .e))) .e) .e)) .e)))) Tryz.func136 h (by kernel_rfl)
def L137(g:Gh)(a0 a1:Value)(H:Hp)(R:Rt):Prop:=
aX H (.cells (Value.cells a1) 161 (0,0)) fun b1 H2=>
aa 0 (pt b1) fun v3=>
Ld H2 v3 fun v4=>
CF g 206 #[a0,v4] H2 (fun v5 H6=>
ae .num .neq v5 (iv 0) fun v7=>
Br v7 (
R (.returned v5) H6) (
Nil a0 fun v8=>
aa 0 v8 fun v9=>
Ld H6 v9 fun v10=>
aa 0 (pt b1) fun v11=>
Ld H6 v11 fun bf=>
ai 1 v10 bf fun aZ=>
Ld H6 aZ fun bh=>
aC 3 H6 (pt b1) fun bA=>
je Tryz.prog 161 (Value.int .u32 0) true H6 bh bA fun bu=>
Ext 0 bu fun bF=>
Ext 1 bu fun bX=>
Un .not bX fun bP=>
Br bP (
R (.returned (iv 10)) H6) (
DR H6 fun AJ=>
Nil a0 fun bW=>
aa 0 bW fun cq=>
Ld AJ cq fun bV=>
aa 0 (pt b1) fun cy=>
Ld AJ cy fun cD=>
ai 1 bV cD fun cM=>
Ld AJ cM fun cP=>
aC 3 AJ (pt b1) fun dc=>
pT Tryz.prog 161 H6 cP dc fun jg=>
aQ jg AJ∧
R (.returned (iv 0)) jg))) (au R)
theorem Ew(h:L137 g a0 a1 H R):ag Tryz.prog g 137 #[a0,a1] H R:=
 aj (hn:=(hN 3 (.n (.h 0 [0,1,2,3,4,5,6,7,8,9] [] .e .e) .e))) Tryz.func137 h (by kernel_rfl)
def L138(g:Gh)(a0 a1 a2 a3:Value)(H:Hp)(R:Rt):Prop:=
ae .num .eql a2 a3 fun v1=>
Br v1 (
R (.returned a2) H) (
Build Tryz.prog 161 [(0,a1),(1,a2),(2,a3)] fun v2=>
aX H (.cells #[(iv 0),(Value.int .u32 0),(Value.int .u32 0)] 161 (0,0)) fun b3 H4=>
St 3 H4 (pt b3) v2 fun H5=>
DR H5 fun R6=>
Nil a0 fun v7=>
aa 1 v7 fun v8=>
Ld R6 v8 fun v9=>
aC 3 R6 (pt b3) fun v10=>
CF g 205 #[v9,v10] H5 (fun v11 dz=>
aQ dz R6∧
Ext 0 v11 fun aZ=>
Ext 1 v11 fun bh=>
Br bh (
R (.returned aZ) dz) (
aC 3 dz (pt b3) fun bA=>
CF g 207 #[a0,bA] dz (fun bu eO=>
R (.returned bu) eO) (au R))) br)
theorem oL(h:L138 g a0 a1 a2 a3 H R):ag Tryz.prog g 138 #[a0,a1,a2,a3] H R:=
 aj (hn:=(hN 3 (.n (.n (.h 0 [0,1,2,3,4,5,6,7,8,9,10] [] .e .e) .e) .e))) Tryz.func138 h (by kernel_rfl)
def L139(g:Gh)(a0 a1:Value)(H:Hp)(R:Rt):Prop:=
ae .num .gtr a1 (Value.int .u32 1) fun v1=>
Br v1 (
Nil a0 fun v2=>
aa 2 v2 fun v3=>
Ld H v3 fun v4=>
ai 1 v4 a1 fun v5=>
Ld H v5 fun v6=>
ae .num .add v6 (Value.int .i32 1) fun v7=>
ai 1 v4 a1 fun v8=>
St 1 H v8 v7 fun H9=>
R (.returned (.tuple #[])) H9) (
R (.returned (.tuple #[])) H)
theorem Ev(h:L139 g a0 a1 H R):ag Tryz.prog g 139 #[a0,a1] H R:=
 aj (hn:=.e) Tryz.func139 h (by kernel_rfl)
def L140(g:Gh)(a0 a1 a2:Value)(H:Hp)(R:Rt):Prop:=
aX H (.cells (Value.cells a2) 161 (0,0)) fun b1 H2=>
ae .ptr .eql a0 (.pointer none) fun v3=>
Br v3 (
R (.returned (iv 10)) H2) (
aC 3 H2 (pt b1) fun v4=>
CF g 208 #[a0,v4] H2 (fun v5 H6=>
ae .num .neq v5 (iv 0) fun v7=>
Br v7 (
R (.returned v5) H6) (
CF g 209 #[a0,a1] H6 (fun v8 H9=>
ae .num .neq v8 (iv 0) fun v10=>
Br v10 (
R (.returned v8) H9) (
DR H9 fun UJ=>
Nil a0 fun bf=>
aa 1 bf fun aZ=>
Ld UJ aZ fun bh=>
aC 3 UJ (pt b1) fun bA=>
ai 5 bh a1 fun bu=>
aa 0 bu fun bF=>
St 3 H9 bF bA fun dm=>
R (.returned (iv 0)) dm)) (au R))) (au R))
theorem Eu(h:L140 g a0 a1 a2 H R):ag Tryz.prog g 140 #[a0,a1,a2] H R:=
 aj (hn:=(hN 4 (.n (.h 0 [0,1,2,3,4,5,6,7,8] [] .e .e) .e))) Tryz.func140 h (by kernel_rfl)
def L141(g:Gh)(a0 a1 a2:Value)(H:Hp)(R:Rt):Prop:=
aX H (.cells (Value.cells a1) 161 (0,0)) fun b1 H2=>
aa 0 (pt b1) fun v3=>
Ld H2 v3 fun v4=>
CF g 206 #[a0,v4] H2 (fun v5 H6=>
ae .num .neq v5 (iv 0) fun v7=>
Br v7 (
R (.returned v5) H6) (
Nil a0 fun v8=>
aa 0 v8 fun v9=>
Ld H6 v9 fun v10=>
aa 0 (pt b1) fun v11=>
Ld H6 v11 fun bf=>
ai 1 v10 bf fun aZ=>
Ld H6 aZ fun bh=>
aC 3 H6 (pt b1) fun bA=>
je Tryz.prog 161 (Value.int .u32 0) true H6 bh bA fun bu=>
Ext 0 bu fun bF=>
Ext 1 bu fun bX=>
Br bX (
R (.returned (iv 11)) H6) (
DR H6 fun Ai=>
Nil a0 fun v20=>
aa 0 v20 fun bW=>
Ld Ai bW fun cq=>
aa 0 (pt b1) fun bV=>
Ld Ai bV fun cy=>
ai 1 cq cy fun cD=>
Ld Ai cD fun cM=>
aC 3 Ai (pt b1) fun cP=>
gL Tryz.prog 161 H6 cM cP a2 fun mO=>
R (.returned (iv 0)) mO))) (au R)
theorem Et(h:L141 g a0 a1 a2 H R):ag Tryz.prog g 141 #[a0,a1,a2] H R:=
 aj (hn:=(hN 3 (.n (.h 0 [0,1,2,3,4,5,6,7,8,9,10] [] .e .e) .e))) Tryz.func141 h (by kernel_rfl)
def L142(g:Gh)(a0 a1:Value)(H:Hp)(R:Rt):Prop:=
av Tryz.prog 27 1 [(0,a1)] H fun v1 H2=>
∃(I3:Jt) (m4:Mt),JE I3 [v1] H2∧∀w7:Value,∀H6:Hp,I3 [w7] H6→∀UC:Fr,
aY w7 fun v8=>
ae .num .gtr v8 (iv 0) fun v9=>
Br v9 (
aY w7 fun v10=>
ae .num .sub v10 (iv 1) fun v11=>
ai 1 w7 v11 fun bf=>
Ld H6 bf fun aZ=>
gf 1 w7 none (some v11) fun bh=>
ae .num .leq aZ (Value.int .u32 1) fun bA=>
Br bA (
aD I3 m4 [bh] H6 [w7] H6) (
Nil a0 fun bu=>
aa 2 bu fun bF=>
Ld H6 bF fun bX=>
ai 1 bX aZ fun bP=>
Ld H6 bP fun v20=>
ae .num .sub v20 (Value.int .i32 1) fun bW=>
ai 1 bX aZ fun cq=>
St 1 H6 cq bW fun kD=>
Nil a0 fun cy=>
aa 2 cy fun cD=>
Ld kD cD fun cM=>
ai 1 cM aZ fun cP=>
Ld kD cP fun dc=>
ae .num .gtr dc (Value.int .i32 0) fun cL=>
Br cL (
aD I3 m4 [bh] kD [w7] H6) (
CF g 174 #[a0,aZ] kD (fun v30 jg=>
aX jg (.cells #[(iv 0),(Value.int .u32 0),(Value.int .u32 0)] 161 (0,0)) fun Xe iH=>
St 3 iH (pt Xe) v30 fun pY=>
DR pY fun R35=>
Nil a0 fun dn=>
aa 1 dn fun dU=>
Ld R35 dU fun gk=>
aC 3 R35 (pt Xe) fun gi=>
CF g 137 #[gk,gi] pY (fun gj u4=>
Nil a0 fun gx=>
aa 0 gx fun gh=>
Ld u4 gh fun gA=>
CF g 210 #[gA,aZ] u4 (fun g6 qE=>
aa 1 (pt Xe) fun jA=>
Ld qE jA fun iz=>
aa 2 (pt Xe) fun k9=>
Ld qE k9 fun kG=>
av Tryz.prog 27 2 [(0,iz),(1,kG)] qE fun jM H52=>
App Tryz.prog 77 1 4 (Value.int .u32 0) H52 bh jM fun oU Jq=>
aD I3 m4 [oU] Jq [w7] H6) (au R)) br) (au R)))) (
R (.returned (.tuple #[])) H6)
theorem Es(h:L142 g a0 a1 H R):ag Tryz.prog g 142 #[a0,a1] H R:=
 aj (hn:=(.n .e (.n (.h 0 [4] [0] (.n .e (.n (hN 6 (.n (.h 0 [0,1,2,3,4,5] [] .e .e) .e)) .e)) .e) .e))) Tryz.func142 h (by kernel_rfl)
def L145(g:Gh)(a0 a1:Value)(H:Hp)(R:Rt):Prop:=
ae .ptr .eql a0 (.pointer none) fun v1=>
Br v1 (
R (.returned (.tuple #[(iv 0),(iv 10)])) H) (
∀J2:Jt,(∀w5:Value,∀H4:Hp,(∀WY:Fr,
Br w5 (
R (.returned (.tuple #[(iv 0),(iv 1)])) H4) (
∃(I6:Jt) (m7:Mt),JE I6 [(iv 0)] H4∧∀r7:Value,∀H9:Hp,I6 [r7] H9→∀O9:Fr,
CF g 34 #[a0] H9 (fun v11 dz=>
ae .num .gtr v11 a1 fun aZ=>
Br aZ (
CF g 18 #[a0] dz (fun bh dx=>
ae .num .add r7 (iv 1) fun bu=>
aD I6 m7 [bu] dx [r7] H9) (au R)) (
R (.returned (.tuple #[r7,(iv 0)])) dz)) (au R)))→J2 [w5] H4)→
ae .num .lss a1 (iv 0) fun bF=>
Split bF false (
CF g 34 #[a0] H (fun bX jh=>
ae .num .gtr a1 bX fun v20=>
aF (Value.bool false) (Value.bool true) v20 fun bW=>
JE J2 [bW] jh) (au R)) (
aF (Value.bool true) (Value.bool true) undef fun cq=>
JE J2 [cq] H))
theorem Er(h:L145 g a0 a1 H R):ag Tryz.prog g 145 #[a0,a1] H R:=
 aj (hn:=(.n .e (.n .e (.n (.h 1 [16] [0,1] .e .e) (.n .e (.n (.n (.h 0 [6] [0,1] .e .e) .e) .e)))))) Tryz.func145 h (by kernel_rfl)
def L146(g:Gh)(a0:Value)(H:Hp)(R:Rt):Prop:=
ae .ptr .eql a0 (.pointer none) fun v1=>
Br v1 (
R (.returned (iv 0)) H) (
Nil a0 fun v2=>
aa 0 v2 fun v3=>
Ld H v3 fun v4=>
R (.returned v4) H)
theorem Ep(h:L146 g a0 H R):ag Tryz.prog g 146 #[a0] H R:=
 aj (hn:=.e) Tryz.func146 h (by kernel_rfl)
def L147(g:Gh)(a0 a1:Value)(H:Hp)(R:Rt):Prop:=
aX H (.cells (Value.cells a1) 4 (0,0)) fun b1 H2=>
aX H2 (.cells #[(iv 0),(.slice none 0 0)] 57 (0,0)) fun b3 H4=>
CF g 211 #[a0] H4 (fun v5 H6=>
ae .num .neq v5 (iv 0) fun v7=>
Br v7 (
Build Tryz.prog 57 [] fun v8=>
St 2 H6 (pt b3) v8 fun H9=>
aC 2 H9 (pt b3) fun v10=>
R (.returned (.tuple #[v10,v5])) H9) (
CF g 212 #[a0,(.func (.func 213) #[] #[(pt b1)])] H6 (fun v11 dz=>
St 2 dz (pt b3) v11 fun fg=>
aC 2 fg (pt b3) fun bh=>
R (.returned (.tuple #[bh,(iv 0)])) fg) (au R))) (au R)
theorem Eo(h:L147 g a0 a1 H R):ag Tryz.prog g 147 #[a0,a1] H R:=
 aj (hn:=.e) Tryz.func147 h (by kernel_rfl)
def L148(g:Gh)(a0 a1 a2:Value)(H:Hp)(R:Rt):Prop:=
aX H (.cells (Value.cells a0) 57 (0,0)) fun b1 H2=>
aX H2 (.cells #[(iv 0),(.slice none 0 0)] 57 (0,0)) fun b3 H4=>
aC 2 H4 (pt b1) fun v5=>
CF g 214 #[v5,a1] H4 (fun v6 H7=>
ae .num .neq v6 (iv 0) fun v8=>
Br v8 (
Build Tryz.prog 57 [] fun v9=>
St 2 H7 (pt b3) v9 fun di=>
aC 2 di (pt b3) fun v11=>
R (.returned (.tuple #[v11,v6])) di) (
aC 2 H7 (pt b1) fun bf=>
CF g 215 #[bf,a1,a2] H7 (fun aZ gg=>
St 2 gg (pt b3) aZ fun dx=>
aC 2 dx (pt b3) fun bu=>
R (.returned (.tuple #[bu,(iv 0)])) dx) (au R))) (au R)
theorem En(h:L148 g a0 a1 a2 H R):ag Tryz.prog g 148 #[a0,a1,a2] H R:=
 aj (hn:=.e) Tryz.func148 h (by kernel_rfl)
def L149(g:Gh)(a0 a1 a2:Value)(H:Hp)(R:Rt):Prop:=
Nil a0 fun v1=>
aa 0 v1 fun v2=>
Ld H v2 fun v3=>
CF g 97 #[v3,a1] H (fun v4 H5=>
Ext 0 v4 fun v6=>
Ext 1 v4 fun v7=>
aX H5 (.cells #[(iv 0),(Value.int .u32 0),(Value.int .u32 0)] 161 (0,0)) fun b8 H9=>
St 3 H9 (pt b8) v6 fun di=>
ae .num .neq v7 (iv 0) fun v11=>
bT v11 false (fun t12=>
ae .num .lss a1 (Value.int .u32 2) fun aZ=>
(di=di∧aZ=Value.bool t12)) (fun t12=>(Value.bool true)=Value.bool t12) fun t12=>∀rC:Fr,
Br (Value.bool t12) (
ae .num .eql v7 (iv 0) fun bA=>
R (.returned bA) di) (
DR di fun Q9=>
Nil a0 fun bF=>
aa 0 bF fun bX=>
Ld Q9 bX fun bP=>
aa 0 (pt b8) fun v20=>
Ld Q9 v20 fun bW=>
CF g 46 #[bP,bW] di (fun cq kD=>
aQ kD Q9∧
Ext 0 cq fun cy=>
Ext 1 cq fun cD=>
ae .num .eql cD (iv 0) fun cM=>
bT cM true (fun t27=>
ae .num .gtr cy a2 fun dc=>
(kD=kD∧dc=Value.bool t27)) (fun t27=>(Value.bool false)=Value.bool t27) fun t27=>∀Tk:Fr,
R (.returned (Value.bool t27)) kD) br)) (au R)
theorem Em(h:L149 g a0 a1 a2 H R):ag Tryz.prog g 149 #[a0,a1,a2] H R:=
 aj (hn:=(.n .e (.n .e (.n (.n (.h 0 [] [1] .e .e) .e) (.n (.h 0 [0,1,2,3,4,5,6,7,8,9,10,11] [] .e .e) (.n (.h 0 [] [1] .e .e) .e)))))) Tryz.func149 h (by kernel_rfl)
def L150(g:Gh)(a0 a1:Value)(H:Hp)(R:Rt):Prop:=
ae .ptr .eql a0 (.pointer none) fun v1=>
Br v1 (
R (.returned (iv 10)) H) (
aY a1 fun v2=>
∃(I3:Jt) (m4:Mt),JE I3 [(iv 0)] H∧∀w7:Value,∀H6:Hp,I3 [w7] H6→∀UC:Fr,
ae .num .lss w7 v2 fun v8=>
Br v8 (
ai 1 a1 w7 fun v9=>
Ld H6 v9 fun v10=>
CF g 97 #[a0,v10] H6 (fun v11 dz=>
Ext 0 v11 fun aZ=>
Ext 1 v11 fun bh=>
aX dz (.cells #[(iv 0),(Value.int .u32 0),(Value.int .u32 0)] 161 (0,0)) fun Nv kg=>
St 3 kg (pt Nv) aZ fun eO=>
ae .num .neq bh (iv 0) fun bX=>
Br bX (
R (.returned bh) eO) (
ae .num .add w7 (iv 1) fun bP=>
aD I3 m4 [bP] eO [w7] H6)) (au R)) (
R (.returned (iv 0)) H6))
theorem El(h:L150 g a0 a1 H R):ag Tryz.prog g 150 #[a0,a1] H R:=
 aj (hn:=(.n .e (.n .e (.n (.n .e (.n (.h 0 [13] [0,11,12] .e .e) .e)) .e)))) Tryz.func150 h (by kernel_rfl)
def L151(g:Gh)(a0 a1 a2 a3 a4:Value)(H:Hp)(R:Rt):Prop:=
aX H (.cells (Value.cells a0) 26 (0,0)) fun b1 H2=>
aX H2 (.cells (Value.cells a2) 57 (0,0)) fun b3 H4=>
aX H4 (.cells (Value.cells a3) 57 (0,0)) fun b5 H6=>
aX H6 (.cells (Value.cells a4) 221 (0,0)) fun b7 H8=>
aX H8 (.cells #[(iv 0),(.slice none 0 0)] 57 (0,0)) fun b9 di=>
lD di fun v11 dz=>
aC 2 dz (pt b3) fun aZ=>
fB (.int .u32) dz v11 (Value.int .u32 0) aZ fun gg=>
aC 2 gg (pt b5) fun bA=>
fB (.int .u32) gg v11 (Value.int .u32 1) bA fun kg=>
aX kg (.cells #[(.map none)] 295 (0,0)) fun lQ dm=>
St 1 dm (pt lQ) v11 fun jh=>
aX jh (.cells #[.nilFunc] 296 (0,0)) fun UE fm=>
St 1 fm (pt UE) (.func (.func 216) #[] #[(pt lQ),(pt b1),(pt b7),(pt UE)]) fun gw=>
Ld gw (pt UE) fun bV=>
cc Tryz.prog g bV #[a1] gw (fun cy gu=>
St 2 gu (pt b9) cy fun gI=>
aC 2 gI (pt b9) fun cP=>
R (.returned cP) gI) (au R)
theorem Ek(h:L151 g a0 a1 a2 a3 a4 H R):ag Tryz.prog g 151 #[a0,a1,a2,a3,a4] H R:=
 aj (hn:=.e) Tryz.func151 h (by kernel_rfl)
def L152(g:Gh)(a0 a1 a2 a3:Value)(H:Hp)(R:Rt):Prop:=
aX H (.cells (Value.cells a0) 161 (0,0)) fun b1 H2=>
aX H2 (.cells (Value.cells a1) 57 (0,0)) fun b3 H4=>
aX H4 (.cells (Value.cells a2) 57 (0,0)) fun b5 H6=>
aX H6 (.cells #[(iv 0),(.slice none 0 0)] 57 (0,0)) fun b7 H8=>
Ld H8 a3 fun v9=>
aa 0 (pt b1) fun v10=>
Ld H8 v10 fun v11=>
CF g 153 #[v9,v11] H8 (fun bf fg=>
Ext 0 bf fun bh=>
Ext 1 bf fun bA=>
aX fg (.cells #[(iv 0),(.slice none 0 0)] 57 (0,0)) fun jd eO=>
St 2 eO (pt jd) bh fun dm=>
aC 2 dm (pt jd) fun bP=>
aC 2 dm (pt b5) fun v20=>
aC 2 dm (pt b3) fun bW=>
CF g 154 #[bP,v20,bW] dm (fun cq kD=>
Ext 0 cq fun cy=>
Ext 1 cq fun cD=>
aX kD (.cells #[(iv 0),(.slice none 0 0)] 57 (0,0)) fun Q6 gr=>
St 2 gr (pt Q6) cy fun mO=>
aC 2 mO (pt Q6) fun cL=>
St 2 mO (pt b7) cL fun kf=>
aC 2 kf (pt b7) fun dW=>
R (.returned dW) kf) (au R)) (au R)
theorem Ej(h:L152 g a0 a1 a2 a3 H R):ag Tryz.prog g 152 #[a0,a1,a2,a3] H R:=
 aj (hn:=.e) Tryz.func152 h (by kernel_rfl)
def L153(g:Gh)(a0 a1:Value)(H:Hp)(R:Rt):Prop:=
aX H (.cells (Value.cells a1) 3 (0,0)) fun b1 H2=>
aX H2 (.cells #[(iv 0),(.slice none 0 0)] 57 (0,0)) fun b3 H4=>
CF g 211 #[a0] H4 (fun v5 H6=>
ae .num .neq v5 (iv 0) fun v7=>
Br v7 (
Build Tryz.prog 57 [] fun v8=>
St 2 H6 (pt b3) v8 fun H9=>
aC 2 H9 (pt b3) fun v10=>
R (.returned (.tuple #[v10,v5])) H9) (
Ld H6 (pt b1) fun v11=>
ae .num .lss v11 (iv 0) fun bf=>
bT bf false (fun t13=>
Ld H6 (pt b1) fun bh=>
ae .num .geq bh a0 fun bA=>
(H6=H6∧bA=Value.bool t13)) (fun t13=>(Value.bool true)=Value.bool t13) fun t13=>∀To:Fr,
Br (Value.bool t13) (
Build Tryz.prog 57 [] fun bF=>
St 2 H6 (pt b3) bF fun dm=>
aC 2 dm (pt b3) fun bP=>
R (.returned (.tuple #[bP,(iv 2)])) dm) (
CF g 212 #[a0,(.func (.func 218) #[] #[(pt b1)])] H6 (fun v20 fm=>
St 2 fm (pt b3) v20 fun gw=>
aC 2 gw (pt b3) fun bV=>
R (.returned (.tuple #[bV,(iv 0)])) gw) (au R)))) (au R)
theorem Ei(h:L153 g a0 a1 H R):ag Tryz.prog g 153 #[a0,a1] H R:=
 aj (hn:=(.n .e (.n .e (.n (.n (.h 0 [] [1] .e .e) .e) .e)))) Tryz.func153 h (by kernel_rfl)
def L154(g:Gh)(a0 a1 a2:Value)(H:Hp)(R:Rt):Prop:=
aX H (.cells (Value.cells a0) 57 (0,0)) fun b1 H2=>
aX H2 (.cells (Value.cells a1) 57 (0,0)) fun b3 H4=>
aX H4 (.cells (Value.cells a2) 57 (0,0)) fun b5 H6=>
aX H6 (.cells #[(iv 0),(.slice none 0 0)] 57 (0,0)) fun b7 H8=>
aC 2 H8 (pt b1) fun v9=>
aC 2 H8 (pt b3) fun v10=>
aC 2 H8 (pt b5) fun v11=>
av Tryz.prog 28 3 [(0,v9),(1,v10),(2,v11)] H8 fun bf fg=>
CF g 220 #[bf] fg (fun bh dx=>
Un .not bh fun bu=>
Br bu (
Build Tryz.prog 57 [] fun bF=>
St 2 dx (pt b7) bF fun dm=>
aC 2 dm (pt b7) fun bP=>
R (.returned (.tuple #[bP,(iv 5)])) dm) (
aa 0 (pt b1) fun v20=>
Ld dx v20 fun bW=>
CF g 212 #[bW,(.func (.func 221) #[] #[(pt b1),(pt b3),(pt b5)])] dx (fun cq kD=>
St 2 kD (pt b7) cq fun gv=>
aC 2 gv (pt b7) fun cD=>
R (.returned (.tuple #[cD,(iv 0)])) gv) (au R))) (au R)
theorem Eh(h:L154 g a0 a1 a2 H R):ag Tryz.prog g 154 #[a0,a1,a2] H R:=
 aj (hn:=.e) Tryz.func154 h (by kernel_rfl)
def L155(g:Gh)(a0:Value)(H:Hp)(R:Rt):Prop:=
CF g 175 #[a0] H (fun v1 H2=>
Un .not v1 fun v3=>
Br v3 (
R (.returned (.tuple #[(.slice none 0 0),(iv 5)])) H2) (
aY a0 fun v4=>
ae .num .eql v4 (iv 0) fun v5=>
Br v5 (
R (.returned (.tuple #[(.slice none 0 0),(iv 0)])) H2) (
ai 2 a0 (iv 0) fun v6=>
aa 0 v6 fun v7=>
Ld H2 v7 fun v8=>
cX 50 1 8 (Value.int .u64 0) H2 v8 v8 fun v9 di=>
aY a0 fun v11=>
∃(xX:Jt) (Ol:Mt),JE xX [(iv 0)] di∧∀g8:Value,∀dx:Hp,xX [g8] dx→∀rC:Fr,
ae .num .lss g8 v11 fun bF=>
Br bF (
ai 2 a0 g8 fun bX=>
aC 2 dx bX fun bP=>
aX dx (.cells #[(iv 0),(.slice none 0 0)] 57 (0,0)) fun UE fm=>
St 2 fm (pt UE) bP fun gw=>
aC 2 gw (pt UE) fun bV=>
CF g 156 #[bV] gw (fun cy gu=>
Ext 0 cy fun cM=>
Ext 1 cy fun cP=>
aY v9 fun dc=>
∃(I29:Jt) (m30:Mt),JE I29 [(iv 0)] gu∧∀P7:Value,∀oM:Hp,I29 [P7] oM→∀abx:Fr,
ae .num .lss P7 dc fun eP=>
Br eP (
∀J35:Jt,(∀pX:Hp,(∀abu:Fr,
ae .num .add P7 (iv 1) fun gk=>
aD I29 m30 [gk] pX [P7] oM)→J35 [] pX)→
ae .num .shr cM P7 fun gi=>
ae .num .and gi (Value.int .u64 1) fun gj=>
ae .num .eql gj (Value.int .u64 1) fun fD=>
Br fD (
DR oM fun YH=>
ai 1 v9 P7 fun gh=>
Ld YH gh fun gA=>
ae .num .shl (Value.int .u64 1) P7 fun g6=>
ae .num .andNot cM g6 fun gN=>
ae .num .or gA gN fun jA=>
ai 1 v9 P7 fun iz=>
St 1 oM iz jA fun q7=>
JE J35 [] q7) (
JE J35 [] oM)) (
ae .num .add g8 (iv 1) fun kG=>
aD xX Ol [kG] oM [g8] dx)) (au R)) (
R (.returned (.tuple #[v9,(iv 0)])) dx)))) (au R)
theorem Eg(h:L155 g a0 H R):ag Tryz.prog g 155 #[a0] H R:=
 aj (hn:=(hN 4 (.n (.n .e (.n (.h 0 [23] [4,21,22] (.n .e (.n .e (.n (.n (hN 3 (.n (.h 0 [34] [4,7,21,22,23,33] (.n .e (.n .e (.h 1 [] [4,7,21,22,23,33,34] (.n (.n .e (.n .e (.n (.h 0 [0,1,2,3,4,5,6,7,8,9,10] [] .e .e) .e))) .e) .e))) .e) .e)) .e) .e))) .e) .e)) .e))) Tryz.func155 h (by kernel_rfl)
def L156(g:Gh)(a0:Value)(H:Hp)(R:Rt):Prop:=
aX H (.cells (Value.cells a0) 57 (0,0)) fun b1 H2=>
aC 2 H2 (pt b1) fun v3=>
av Tryz.prog 28 1 [(0,v3)] H2 fun v4 H5=>
CF g 220 #[v4] H5 (fun v6 H7=>
Un .not v6 fun v8=>
Br v8 (
R (.returned (.tuple #[(Value.int .u64 0),(iv 5)])) H7) (
aa 0 (pt b1) fun v9=>
Ld H7 v9 fun v10=>
∃(I11:Jt) (m12:Mt),JE I11 [(Value.int .u64 0),(iv 0)] H7∧∀rJ g8:Value,∀gg:Hp,I11 [rJ,g8] gg→∀Tq:Fr,
ae .num .lss g8 v10 fun bF=>
Br bF (
∀J18:Jt,(∀yl:Value,∀iy:Hp,(∀ahd:Fr,
ae .num .add g8 (iv 1) fun cq=>
aD I11 m12 [yl,cq] iy [rJ,g8] gg)→J18 [yl] iy)→
DR gg fun Q8=>
aC 2 Q8 (pt b1) fun cy=>
aC 2 Q8 (pt b1) fun cD=>
CF g 215 #[cy,g8,(Value.bool false)] gg (fun cM gr=>
aQ gr Q8∧
Gl 1 cM fun dc=>
CF g 215 #[cD,g8,(Value.bool true)] gr (fun cL kf=>
aQ kf Q8∧
Gl 1 cL fun dW=>
CF g 222 #[dc,dW] kf (fun dV iH=>
aQ iH Q8∧
Un .not dV fun eP=>
Br eP (
ae .num .shl (Value.int .u64 1) g8 fun eW=>
ae .num .or rJ eW fun dn=>
JE J18 [dn] iH) (
JE J18 [rJ] iH)) br) br) br) (
R (.returned (.tuple #[rJ,(iv 0)])) gg))) (au R)
theorem Ef(h:L156 g a0 H R):ag Tryz.prog g 156 #[a0] H R:=
 aj (hn:=(hN 3 (.n (.n .e (.n (.h 0 [4,12] [1,11] (.n .e (.n .e (.h 1 [4] [1,11,12] (.n (.n .e (.n (.h 0 [0,1,4,5,2,3,6,7,8,9] [] .e .e) .e)) .e) .e))) .e) .e)) .e))) Tryz.func156 h (by kernel_rfl)
def L157(g:Gh)(a0 a1 a2:Value)(H:Hp)(R:Rt):Prop:=
CF g 175 #[a0] H (fun v1 H2=>
Un .not v1 fun v3=>
Br v3 (
R (.returned (.tuple #[(iv 0),(iv 5)])) H2) (
∀J4:Jt,(∀w7:Value,∀H6:Hp,(∀UC:Fr,
ae .num .lss a2 (iv 0) fun v8=>
bT v8 false (fun t9=>
ae .num .geq a2 w7 fun v10=>
(H6=H6∧v10=Value.bool t9)) (fun t9=>(Value.bool true)=Value.bool t9) fun t9=>∀Tr:Fr,
bT (Value.bool t9) false (fun t12=>
ae .num .shr a1 w7 fun aZ=>
ae .num .neq aZ (Value.int .u64 0) fun bh=>
(H6=H6∧bh=Value.bool t12)) (fun t12=>(Value.bool true)=Value.bool t12) fun t12=>∀Tp:Fr,
Br (Value.bool t12) (
R (.returned (.tuple #[(iv 0),(iv 2)])) H6) (
ae .num .shr a1 a2 fun bu=>
ae .num .and bu (Value.int .u64 1) fun bF=>
ae .num .eql bF (Value.int .u64 1) fun bX=>
Br bX (
R (.returned (.tuple #[(iv 0),(iv 4)])) H6) (
CF g 176 #[a0] H6 (fun bP iy=>
∃(TU:Jt) (Zz:Mt),JE TU [bP,(iv 0)] iy∧∀lS lN:Value,∀gv:Hp,TU [lS,lN] gv→∀Pa:Fr,
ae .num .lss lN w7 fun cP=>
Br cP (
∀P1:Jt,(∀T9:Value,∀kf:Hp,(∀Tk:Fr,
ae .num .add lN (iv 1) fun dV=>
aD TU Zz [T9,dV] kf [lS,lN] gv)→P1 [T9] kf)→
ae .num .shr a1 lN fun eZ=>
ae .num .and eZ (Value.int .u64 1) fun eP=>
ae .num .eql eP (Value.int .u64 1) fun eW=>
Br eW (
CF g 177 #[lS,lN] gv (fun dn pX=>
Ext 0 dn fun gk=>
Ext 1 dn fun gi=>
JE P1 [gk] pX) (au R)) (
JE P1 [lS] gv)) (
CF g 177 #[lS,a2] gv (fun gj u4=>
Ext 0 gj fun gx=>
Ext 1 gj fun gh=>
R (.returned (.tuple #[gh,(iv 0)])) u4) (au R))) (au R))))→J4 [w7] H6)→
aY a0 fun gA=>
ae .num .gtr gA (iv 0) fun g6=>
Br g6 (
ai 2 a0 (iv 0) fun gN=>
aa 0 gN fun jA=>
Ld H2 jA fun iz=>
JE J4 [iz] H2) (
JE J4 [(iv 16)] H2))) (au R)
theorem Ee(h:L157 g a0 a1 a2 H R):ag Tryz.prog g 157 #[a0,a1,a2] H R:=
 aj (hn:=(hN 3 (.h 1 [8] [0,1,2] .e (.n (.n (.h 0 [] [1] .e .e) .e) (.n .e (.n .e (.n (.n .e (.n (.h 0 [9,44] [1,2,43] (.n .e (.n .e (.h 1 [9] [1,2,43,44] .e .e))) .e) .e)) .e))))))) Tryz.func157 h (by kernel_rfl)
variable {g:Gh} {a0 a1 a2 a3 a4 a5 a6 a7 a8 a9 rF rE Xl Xk Xj Xi:Value} {H:Hp} {R:Rt}
def L164(g:Gh)(a0 a1 a2 a3:Value)(H:Hp)(R:Rt):Prop:=
ae .ptr .eql a0 (.pointer none) fun v1=>
Br v1 (
R (.returned (.tuple #[(Value.int .u32 0),(iv 10)])) H) (
CF g 225 #[a0,a1,a2,a3] H (fun v2 H3=>
ae .num .neq v2 (iv 0) fun v4=>
Br v4 (
R (.returned (.tuple #[(Value.int .u32 0),v2])) H3) (
CF g 226 #[a0,a1,a2,a3] H3 (fun v5 H6=>
Ext 0 v5 fun v7=>
Ext 1 v5 fun v8=>
∀J9:Jt,(∀fL:Value,∀dy:Hp,(∀tf:Fr,
CF g 121 #[a0,fL] dy (fun aZ gg=>
ae .num .neq aZ (iv 0) fun bA=>
Br bA (
R (.returned (.tuple #[(Value.int .u32 0),aZ])) gg) (
R (.returned (.tuple #[fL,(iv 0)])) gg)) (au R))→J9 [fL] dy)→
Un .not v8 fun bu=>
Br bu (
Nil a0 fun bF=>
aa 0 bF fun bX=>
CF g 135 #[bX,(iv 1)] H6 (fun bP iy=>
Un .not bP fun bW=>
Br bW (
R (.returned (.tuple #[(Value.int .u32 0),(iv 9)])) iy) (
Nil a0 fun cq=>
aa 0 cq fun bV=>
Build Tryz.prog 161 [(0,a1),(1,a2),(2,a3)] fun cy=>
CF g 207 #[bV,cy] iy (fun cD gI=>
JE J9 [cD] gI) (au R))) (au R)) (
JE J9 [v7] H6)) (au R))) (au R))
theorem Ed(h:L164 g a0 a1 a2 a3 H R):ag Tryz.prog g 164 #[a0,a1,a2,a3] H R:=
 aj (hn:=(hN 4 (.h 1 [11] [0] .e .e))) Tryz.func164 h (by kernel_rfl)
def L173(g:Gh)(a0 a1:Value)(H:Hp)(R:Rt):Prop:=
Nil a0 fun v1=>
aa 0 v1 fun v2=>
Ld H v2 fun v3=>
CF g 231 #[v3,a1] H (fun v4 H5=>
Ext 0 v4 fun v6=>
Ext 1 v4 fun v7=>
aX H5 (.cells #[(iv 0),(Value.int .u32 0),(Value.int .u32 0)] 161 (0,0)) fun b8 H9=>
St 3 H9 (pt b8) v6 fun di=>
ae .num .eql v7 (iv 0) fun v11=>
R (.returned v11) di) (au R)
theorem Ec(h:L173 g a0 a1 H R):ag Tryz.prog g 173 #[a0,a1] H R:=
 aj (hn:=.e) Tryz.func173 h (by kernel_rfl)
def L174(g:Gh)(a0 a1:Value)(H:Hp)(R:Rt):Prop:=
aX H (.cells #[(iv 0),(Value.int .u32 0),(Value.int .u32 0)] 161 (0,0)) fun b1 H2=>
Nil a0 fun v3=>
aa 0 v3 fun v4=>
Ld H2 v4 fun v5=>
CF g 231 #[v5,a1] H2 (fun v6 H7=>
Ext 0 v6 fun v8=>
Ext 1 v6 fun v9=>
aX H7 (.cells #[(iv 0),(Value.int .u32 0),(Value.int .u32 0)] 161 (0,0)) fun xQ dy=>
St 3 dy (pt xQ) v8 fun dz=>
aC 3 dz (pt xQ) fun aZ=>
St 3 dz (pt b1) aZ fun gg=>
aC 3 gg (pt b1) fun bA=>
R (.returned bA) gg) (au R)
theorem Eb(h:L174 g a0 a1 H R):ag Tryz.prog g 174 #[a0,a1] H R:=
 aj (hn:=.e) Tryz.func174 h (by kernel_rfl)
def L175(g:Gh)(a0:Value)(H:Hp)(R:Rt):Prop:=
aY a0 fun v1=>
∃(I2:Jt) (m3:Mt),JE I2 [(iv 0)] H∧∀w6:Value,∀H5:Hp,I2 [w6] H5→∀Jl:Fr,
ae .num .lss w6 v1 fun v7=>
Br v7 (
ai 2 a0 w6 fun v8=>
aC 2 H5 v8 fun v9=>
aX H5 (.cells #[(iv 0),(.slice none 0 0)] 57 (0,0)) fun xQ dy=>
St 2 dy (pt xQ) v9 fun dz=>
∀An:Jt,(∀g8:Value,∀dx:Hp,(∀rC:Fr,
Br g8 (
R (.returned (Value.bool false)) dx) (
ae .num .add w6 (iv 1) fun bF=>
aD I2 m3 [bF] dx [w6] H5))→An [g8] dx)→
DR dz fun PW=>
aC 2 PW (pt xQ) fun bP=>
∀F20:Hp,
CF (g.add F20) 232 #[bP] dz (fun bW gw=>
aQ gw PW∧
Un .not bW fun bV=>
Br bV (
JE An [(Value.bool true)] gw) (
aa 0 (pt xQ) fun cy=>
Ld PW cy fun cD=>
ai 2 a0 (iv 0) fun cM=>
aa 0 cM fun cP=>
Ld PW cP fun dc=>
ae .num .neq cD dc fun cL=>
aF (Value.bool false) (Value.bool true) cL fun v30=>
JE An [v30] gw)) br) (
R (.returned (Value.bool true)) H5)
theorem Ea(h:L175 g a0 H R):ag Tryz.prog g 175 #[a0] H R:=
 aj (hn:=(.n .e (.n (.n .e (.n (.h 0 [7] [0,5,6] (.n .e (.n .e (.n (.n (.n .e (.h 1 [22] [0,5,6,7] (.h 1 [] [] (hr 0 [] 0 3 (.h 2 [3] [] (hr 0 [] 4 7 (.h 3 [11] [] .e .e)) (hr 0 [] 4 8 .e))) .e) .e)) .e) .e))) .e) .e)) .e))) Tryz.func175 h (by kernel_rfl)
def L176(g:Gh)(a0:Value)(H:Hp)(R:Rt):Prop:=
lD H fun v1 H2=>
aY a0 fun v3=>
∃(I4:Jt) (m5:Mt),JE I4 [(iv 0)] H2∧∀w8:Value,∀H7:Hp,I4 [w8] H7→∀Tg:Fr,
ae .num .lss w8 v3 fun v9=>
Br v9 (
ai 2 a0 w8 fun v10=>
aC 2 H7 v10 fun v11=>
aX H7 (.cells #[(iv 0),(.slice none 0 0)] 57 (0,0)) fun Ab fg=>
St 2 fg (pt Ab) v11 fun gg=>
aC 2 gg (pt Ab) fun bA=>
CF g 233 #[v1,bA] gg (fun bu eO=>
ae .num .add w8 (iv 1) fun bX=>
aD I4 m5 [bX] eO [w8] H7) (au R)) (
R (.returned v1) H7)
theorem D9(h:L176 g a0 H R):ag Tryz.prog g 176 #[a0] H R:=
 aj (hn:=(.n .e (.n .e (.n (.n .e (.n (.h 0 [9] [3,7,8] .e .e) .e)) .e)))) Tryz.func176 h (by kernel_rfl)
def L177(g:Gh)(a0 a1:Value)(H:Hp)(R:Rt):Prop:=
lD H fun v1 H2=>
UF H2 a0 fun v3 H4=>
∃(I5:Jt) (m6:Mt),JE I5 [(iv 0)] H4∧∀w9:Value,∀H8:Hp,I5 [w9] H8→∀QZ:Fr,
TK H8 v3 fun v10 dy=>
Ext 0 v10 fun bf=>
Br bf (
I0 dy v3 fun aZ=>
Ext 1 aZ fun bh=>
aX dy (.cells #[(iv 0),(.slice none 0 0)] 57 (0,0)) fun Nv kg=>
St 2 kg (pt Nv) bh fun eO=>
aC 2 eO (pt Nv) fun bX=>
CF g 148 #[bX,a1,(Value.bool false)] eO (fun bP iy=>
Ext 0 bP fun bW=>
Ext 1 bP fun cq=>
aX iy (.cells #[(iv 0),(.slice none 0 0)] 57 (0,0)) fun F3 gv=>
St 2 gv (pt F3) bW fun gu=>
aC 2 gu (pt Nv) fun cM=>
CF g 148 #[cM,a1,(Value.bool true)] gu (fun cP mO=>
Ext 0 cP fun cL=>
Ext 1 cP fun v30=>
aX mO (.cells #[(iv 0),(.slice none 0 0)] 57 (0,0)) fun B4 oM=>
St 2 oM (pt B4) cL fun iH=>
DR iH fun TE=>
aC 2 TE (pt F3) fun eW=>
aC 2 TE (pt B4) fun dn=>
CF g 234 #[eW] iH (fun dU pW=>
aQ pW TE∧
CF g 234 #[dn] pW (fun gi j9=>
aQ j9 TE∧
∀J41:Jt,(∀JD:Value,∀kZ:Hp,(∀abt:Fr,
DR kZ fun YG=>
aC 2 YG (pt F3) fun gN=>
aC 2 YG (pt B4) fun jA=>
fB (.string) kZ v1 dU gN fun IY=>
aQ IY YG∧
fB (.string) IY v1 gi jA fun q7=>
aD I5 m6 [JD] q7 [w9] H8)→J41 [JD] kZ)→
ae .str .neq dU gi fun kG=>
Br kG (
ae .num .add w9 (iv 1) fun jM=>
JE J41 [jM] j9) (
JE J41 [w9] j9)) br) br) (au R)) (au R)) (
R (.returned (.tuple #[v1,w9])) dy)
theorem D8(h:L177 g a0 a1 H R):ag Tryz.prog g 177 #[a0,a1] H R:=
 aj (hn:=(.n .e (.n .e (.n (.n .e (.n (.h 0 [7] [1,6,18] (.n .e (.n .e (.n (hN 3 (.n (.h 0 [0,2,1,3,4,5] [] .e .e) (.h 1 [7] [1,6,10,12,14,15,18] .e (.h 0 [0,1,2,3,4,5,6,7] [] .e .e)))) .e))) .e) .e)) .e)))) Tryz.func177 h (by kernel_rfl)
def L178(g:Gh)(a0 a1:Value)(H:Hp)(R:Rt):Prop:=
CF g 101 #[a0] H (fun v1 H2=>
CF g 101 #[a1] H2 (fun v3 H4=>
ae .num .eql v1 (iv 4) fun v5=>
bT v5 false (fun t6=>
ae .num .eql v3 (iv 4) fun v7=>
(H4=H4∧v7=Value.bool t6)) (fun t6=>(Value.bool true)=Value.bool t6) fun t6=>∀O9:Fr,
bT (Value.bool t6) false (fun t9=>
aY a0 fun v10=>
aY a1 fun v11=>
ae .num .neq v10 v11 fun bf=>
(H4=H4∧bf=Value.bool t9)) (fun t9=>(Value.bool true)=Value.bool t9) fun t9=>∀Tq:Fr,
Br (Value.bool t9) (
R (.returned (iv 4)) H4) (
MT v1 v3 fun bh=>
R (.returned bh) H4)) (au R)) (au R)
theorem D7(h:L178 g a0 a1 H R):ag Tryz.prog g 178 #[a0,a1] H R:=
 aj (hn:=(.n .e (.n .e (.n (.n (.h 0 [] [1] .e .e) .e) .e)))) Tryz.func178 h (by kernel_rfl)
def L179(g:Gh)(a0 a1:Value)(H:Hp)(R:Rt):Prop:=
aY a0 fun v1=>
∃(I2:Jt) (m3:Mt),JE I2 [(iv 0)] H∧∀w6:Value,∀H5:Hp,I2 [w6] H5→∀Jl:Fr,
ae .num .lss w6 v1 fun v7=>
Br v7 (
ai 1 a0 w6 fun v8=>
Ld H5 v8 fun v9=>
ae .num .eql a1 v9 fun v10=>
Br v10 (
R (.returned w6) H5) (
ae .num .add w6 (iv 1) fun v11=>
aD I2 m3 [v11] H5 [w6] H5)) (
R (.returned (iv (-1))) H5)
theorem D6(h:L179 g a0 a1 H R):ag Tryz.prog g 179 #[a0,a1] H R:=
 aj (hn:=(.n .e (.n (.n .e (.n (.h 0 [8] [0,1,7] .e .e) .e)) .e))) Tryz.func179 h (by kernel_rfl)
def L180(g:Gh)(a0 a1:Value)(H:Hp)(R:Rt):Prop:=
Ld H a0 fun v1=>
CF g 105 #[v1] H (fun v2 H3=>
Ld H3 a0 fun v4=>
Nil v4 fun v5=>
aa 2 v5 fun v6=>
Ld H3 v6 fun v7=>
St 1 H3 a1 v7 fun H8=>
R (.returned (.tuple #[])) H8) (au R)
theorem qZ(h:L180 g a0 a1 H R):jz Tryz.prog g 180 #[a0,a1] H R:=
 wP (hn:=.e) Tryz.func180 h (by kernel_rfl)
def L185(g:Gh)(a0:Value)(H:Hp)(R:Rt):Prop:=
cX 3 1 8 (iv 0) H a0 a0 fun v1 H2=>
∃(I3:Jt) (m4:Mt),JE I3 [(iv 0)] H2∧∀w7:Value,∀H6:Hp,I3 [w7] H6→∀UC:Fr,
ae .num .lss w7 a0 fun v8=>
Br v8 (
ai 1 v1 w7 fun v9=>
St 1 H6 v9 w7 fun di=>
ae .num .add w7 (iv 1) fun v11=>
aD I3 m4 [v11] di [w7] H6) (
R (.returned v1) H6)
theorem D5(h:L185 g a0 H R):ag Tryz.prog g 185 #[a0] H R:=
 aj (hn:=(.n .e (.n .e (.n (.n .e (.n (.h 0 [8] [3,7] .e .e) .e)) .e)))) Tryz.func185 h (by kernel_rfl)
def L186(g:Gh)(a0:Value)(H:Hp)(R:Rt):Prop:=
ae .num .lss a0 (iv 2) fun v1=>
bT v1 false (fun t2=>
ae .num .gtr a0 (iv 1048576) fun v3=>
(H=H∧v3=Value.bool t2)) (fun t2=>(Value.bool true)=Value.bool t2) fun t2=>∀Jl:Fr,
Br (Value.bool t2) (
R (.returned (.tuple #[(.pointer none),(iv 1)])) H) (
Build Tryz.prog 198 [(0,a0),(3,(iv 2))] fun v5=>
aX H (.cells (Value.cells v5) 198 (0,0)) fun b6 H7=>
∃(I8:Jt) (m9:Mt),JE I8 [(Value.int .u32 0)] H7∧∀fL:Value,∀dy:Hp,I8 [fL] dy→∀tf:Fr,
ae .num .lss fL (Value.int .u32 2) fun aZ=>
Br aZ (
Nil (pt b6) fun bh=>
aa 1 bh fun bA=>
Ld dy bA fun bu=>
Build Tryz.prog 161 [(0,(iv (-1))),(1,fL),(2,fL)] fun bF=>
Build Tryz.prog 291 [(0,bF),(1,(Value.bool true)),(2,(Value.int .u8 255))] fun bX=>
av Tryz.prog 196 1 [(0,bX)] dy fun bP iy=>
App Tryz.prog 291 5 24 (.agg #[(iv 0),(Value.int .u32 0),(Value.int .u32 0),(Value.bool false),(Value.int .u8 0)]) iy bu bP fun bV gv=>
Nil (pt b6) fun cD=>
aa 1 cD fun cM=>
St 1 gv cM bV fun gr=>
ae .num .add fL (Value.int .u32 1) fun dc=>
aD I8 m9 [dc] gr [fL] dy) (
R (.returned (.tuple #[(pt b6),(iv 0)])) dy))
theorem D4(h:L186 g a0 H R):ag Tryz.prog g 186 #[a0] H R:=
 aj (hn:=(.n .e (.n (.n (.h 0 [] [1] .e .e) .e) (.n .e (.n (.n .e (.n (.h 0 [15] [4] .e .e) .e)) .e))))) Tryz.func186 h (by kernel_rfl)
def L193(g:Gh)(a0:Value)(H:Hp)(R:Rt):Prop:=
aX H (.cells (Value.cells a0) 57 (0,0)) fun b1 H2=>
aX H2 (.cells #[(iv 0),(.slice none 0 0)] 57 (0,0)) fun b3 H4=>
aC 2 H4 (pt b1) fun v5=>
av Tryz.prog 28 1 [(0,v5)] H4 fun v6 H7=>
CF g 220 #[v6] H7 (fun v8 H9=>
Un .not v8 fun v10=>
Br v10 (
Build Tryz.prog 57 [] fun v11=>
St 2 H9 (pt b3) v11 fun dz=>
aC 2 dz (pt b3) fun aZ=>
R (.returned (.tuple #[aZ,(iv 5)])) dz) (
aa 0 (pt b1) fun bh=>
Ld H9 bh fun bA=>
CF g 212 #[bA,(.func (.func 238) #[] #[(pt b1)])] H9 (fun bu eO=>
St 2 eO (pt b3) bu fun dm=>
aC 2 dm (pt b3) fun bP=>
R (.returned (.tuple #[bP,(iv 0)])) dm) (au R))) (au R)
theorem D3(h:L193 g a0 H R):ag Tryz.prog g 193 #[a0] H R:=
 aj (hn:=.e) Tryz.func193 h (by kernel_rfl)
def L194(g:Gh)(a0 a1 a2:Value)(H:Hp)(R:Rt):Prop:=
aX H (.cells (Value.cells a0) 5 (0,0)) fun b1 H2=>
aX H2 (.cells (Value.cells a1) 57 (0,0)) fun b3 H4=>
aX H4 (.cells (Value.cells a2) 57 (0,0)) fun b5 H6=>
aX H6 (.cells #[(iv 0),(.slice none 0 0)] 57 (0,0)) fun b7 H8=>
Ld H8 (pt b1) fun v9=>
ae .num .gtr v9 (Value.int .u8 15) fun v10=>
Br v10 (
Build Tryz.prog 57 [] fun v11=>
St 2 H8 (pt b7) v11 fun dz=>
aC 2 dz (pt b7) fun aZ=>
R (.returned (.tuple #[aZ,(iv 1)])) dz) (
aC 2 H8 (pt b3) fun bh=>
aC 2 H8 (pt b5) fun bA=>
av Tryz.prog 28 2 [(0,bh),(1,bA)] H8 fun bu eO=>
CF g 220 #[bu] eO (fun bX jh=>
Un .not bX fun v20=>
Br v20 (
Build Tryz.prog 57 [] fun bW=>
St 2 jh (pt b7) bW fun gw=>
aC 2 gw (pt b7) fun bV=>
R (.returned (.tuple #[bV,(iv 5)])) gw) (
aa 0 (pt b3) fun cy=>
Ld jh cy fun cD=>
CF g 212 #[cD,(.func (.func 239) #[] #[(pt b3),(pt b5),(pt b1)])] jh (fun cM gr=>
St 2 gr (pt b7) cM fun mO=>
aC 2 mO (pt b7) fun cL=>
R (.returned (.tuple #[cL,(iv 0)])) mO) (au R))) (au R))
theorem D2(h:L194 g a0 a1 a2 H R):ag Tryz.prog g 194 #[a0,a1,a2] H R:=
 aj (hn:=.e) Tryz.func194 h (by kernel_rfl)
def L195(g:Gh)(a0 a1:Value)(H:Hp)(R:Rt):Prop:=
ae .ptr .eql a0 (.pointer none) fun v1=>
Br v1 (
R (.returned (.tuple #[(Value.int .u32 0),(iv 10)])) H) (
CF g 164 #[a0,a1,(Value.int .u32 0),(Value.int .u32 1)] H (fun v2 H3=>
Ext 0 v2 fun v4=>
Ext 1 v2 fun v5=>
R (.returned (.tuple #[v4,v5])) H3) (au R))
theorem D1(h:L195 g a0 a1 H R):ag Tryz.prog g 195 #[a0,a1] H R:=
 aj (hn:=.e) Tryz.func195 h (by kernel_rfl)
def L196(g:Gh)(a0 a1:Value)(H:Hp)(R:Rt):Prop:=
CF g 197 #[a0,(Value.int .u8 3),a1,(Value.int .u32 0)] H (fun v1 H2=>
Ext 0 v1 fun v3=>
Ext 1 v1 fun v4=>
R (.returned (.tuple #[v3,v4])) H2) (au R)
theorem D0(h:L196 g a0 a1 H R):ag Tryz.prog g 196 #[a0,a1] H R:=
 aj (hn:=.e) Tryz.func196 h (by kernel_rfl)
def L197(g:Gh)(a0 a1 a2 a3:Value)(H:Hp)(R:Rt):Prop:=
aX H (.cells (Value.cells a1) 5 (0,0)) fun b1 H2=>
ae .ptr .eql a0 (.pointer none) fun v3=>
Br v3 (
R (.returned (.tuple #[(Value.int .u32 0),(iv 10)])) H2) (
Ld H2 (pt b1) fun v4=>
ae .num .gtr v4 (Value.int .u8 15) fun v5=>
Br v5 (
R (.returned (.tuple #[(Value.int .u32 0),(iv 1)])) H2) (
av Tryz.prog 27 2 [(0,a2),(1,a3)] H2 fun v6 H7=>
CF g 240 #[a0,v6] H7 (fun v8 H9=>
Ext 0 v8 fun v10=>
Ext 1 v8 fun v11=>
ae .num .neq v11 (iv 0) fun bf=>
Br bf (
R (.returned (.tuple #[(Value.int .u32 0),v11])) H9) (
Build Tryz.prog 318 [(0,a2),(1,a3)] fun aZ=>
CF g 241 #[v10,aZ,(.func (.func 242) #[] #[(pt b1)])] H9 (fun bh dx=>
Ext 0 bh fun bu=>
Ext 1 bh fun bF=>
R (.returned (.tuple #[bu,bF])) dx) (au R))) (au R)))
theorem DZ(h:L197 g a0 a1 a2 a3 H R):ag Tryz.prog g 197 #[a0,a1,a2,a3] H R:=
 aj (hn:=.e) Tryz.func197 h (by kernel_rfl)
def L198(g:Gh)(a0 a1 a2 a3:Value)(H:Hp)(R:Rt):Prop:=
av Tryz.prog 27 3 [(0,a1),(1,a2),(2,a3)] H fun v1 H2=>
CF g 240 #[a0,v1] H2 (fun v3 H4=>
Ext 0 v3 fun v5=>
Ext 1 v3 fun v6=>
ae .num .neq v6 (iv 0) fun v7=>
Br v7 (
R (.returned (.tuple #[(Value.int .u32 0),v6])) H4) (
Build Tryz.prog 318 [(0,a1),(1,a2),(2,a3)] fun v8=>
CF g 241 #[v5,v8,(.func (.func 244) #[] #[])] H4 (fun v9 di=>
Ext 0 v9 fun v11=>
Ext 1 v9 fun bf=>
R (.returned (.tuple #[v11,bf])) di) (au R))) (au R)
theorem DY(h:L198 g a0 a1 a2 a3 H R):ag Tryz.prog g 198 #[a0,a1,a2,a3] H R:=
 aj (hn:=.e) Tryz.func198 h (by kernel_rfl)
def L199(g:Gh)(a0 a1 a2 a3:Value)(H:Hp)(R:Rt):Prop:=
CF g 245 #[a0,a2] H (fun v1 H2=>
Ext 0 v1 fun v3=>
Ext 1 v1 fun v4=>
ae .ptr .neq a0 (.pointer none) fun v5=>
bT v5 true (fun t6=>
Un .not v4 fun v7=>
(H2=H2∧v7=Value.bool t6)) (fun t6=>(Value.bool false)=Value.bool t6) fun t6=>∀O9:Fr,
Br (Value.bool t6) (
R (.returned (.tuple #[(Value.int .u32 0),(iv 2)])) H2) (
av Tryz.prog 27 1 [(0,a1)] H2 fun v9 di=>
CF g 246 #[a0,v3,v9] di (fun v11 dz=>
ae .num .neq v11 (iv 0) fun aZ=>
Br aZ (
R (.returned (.tuple #[(Value.int .u32 0),v11])) dz) (
CF g 248 #[a0,a1,a2,a3] dz (fun bh dx=>
Ext 0 bh fun bu=>
Ext 1 bh fun bF=>
Ext 2 bh fun bX=>
CF g 247 #[bu,bF,bX] dx (fun bP iy=>
Ext 0 bP fun bW=>
Ext 1 bP fun cq=>
R (.returned (.tuple #[bW,cq])) iy) (au R)) (au R))) (au R))) (au R)
theorem DX(h:L199 g a0 a1 a2 a3 H R):ag Tryz.prog g 199 #[a0,a1,a2,a3] H R:=
 aj (hn:=(.n .e (.n .e (.n (.n (.h 0 [] [1] .e .e) .e) .e)))) Tryz.func199 h (by kernel_rfl)
def L200(g:Gh)(a0 a1 a2:Value)(H:Hp)(R:Rt):Prop:=
CF g 249 #[a0,a1,a2,(Value.bool true)] H (fun v1 H2=>
Ext 0 v1 fun v3=>
Ext 1 v1 fun v4=>
R (.returned (.tuple #[v3,v4])) H2) (au R)
theorem DW(h:L200 g a0 a1 a2 H R):ag Tryz.prog g 200 #[a0,a1,a2] H R:=
 aj (hn:=.e) Tryz.func200 h (by kernel_rfl)
def L201(g:Gh)(a0 a1 a2:Value)(H:Hp)(R:Rt):Prop:=
CF g 249 #[a0,a1,a2,(Value.bool false)] H (fun v1 H2=>
Ext 0 v1 fun v3=>
Ext 1 v1 fun v4=>
R (.returned (.tuple #[v3,v4])) H2) (au R)
theorem DV(h:L201 g a0 a1 a2 H R):ag Tryz.prog g 201 #[a0,a1,a2] H R:=
 aj (hn:=.e) Tryz.func201 h (by kernel_rfl)
def L202(g:Gh)(a0 a1 a2 a3:Value)(H:Hp)(R:Rt):Prop:=
CF g 245 #[a0,a2] H (fun v1 H2=>
Ext 0 v1 fun v3=>
Ext 1 v1 fun v4=>
ae .ptr .neq a0 (.pointer none) fun v5=>
bT v5 true (fun t6=>
Un .not v4 fun v7=>
(H2=H2∧v7=Value.bool t6)) (fun t6=>(Value.bool false)=Value.bool t6) fun t6=>∀O9:Fr,
Br (Value.bool t6) (
R (.returned (.tuple #[(Value.int .u32 0),(iv 2)])) H2) (
av Tryz.prog 27 2 [(0,a1),(1,a3)] H2 fun v9 di=>
CF g 246 #[a0,v3,v9] di (fun v11 dz=>
ae .num .neq v11 (iv 0) fun aZ=>
Br aZ (
R (.returned (.tuple #[(Value.int .u32 0),v11])) dz) (
CF g 248 #[a0,a1,a2,(Value.bool false)] dz (fun bh dx=>
Ext 0 bh fun bu=>
Ext 1 bh fun bF=>
Ext 2 bh fun bX=>
CF g 247 #[bu,bF,bX] dx (fun bP iy=>
Ext 0 bP fun bW=>
Ext 1 bP fun cq=>
ae .num .neq cq (iv 0) fun bV=>
Br bV (
R (.returned (.tuple #[(Value.int .u32 0),cq])) iy) (
CF g 248 #[a0,a1,a2,(Value.bool true)] iy (fun cy gu=>
Ext 0 cy fun cM=>
Ext 1 cy fun cP=>
Ext 2 cy fun dc=>
CF g 247 #[cM,cP,dc] gu (fun cL kf=>
Ext 0 cL fun dW=>
Ext 1 cL fun dV=>
ae .num .neq dV (iv 0) fun eZ=>
Br eZ (
kx Tryz.prog g 131 #[a0,bW] kf fun pY=>
R (.returned (.tuple #[(Value.int .u32 0),dV])) pY) (
CF g 198 #[a0,a3,dW,bW] kf (fun eW AL=>
Ext 0 eW fun dU=>
Ext 1 eW fun gk=>
kx Tryz.prog g 131 #[a0,dW] AL fun Gj=>
kx Tryz.prog g 131 #[a0,bW] Gj fun j9=>
R (.returned (.tuple #[dU,gk])) j9) Ij)) Ij) Ij)) Ij) Ij)) Ij)) Ij
theorem DU(h:L202 g a0 a1 a2 a3 H R):ag Tryz.prog g 202 #[a0,a1,a2,a3] H R:=
 wO (hn:=(.n .e (.n .e (.n (.n (.h 0 [] [1] .e .e) .e) (hN 7 .e))))) Tryz.func202 h (by kernel_rfl)
def L203(g:Gh)(a0 a1:Value)(H:Hp)(R:Rt):Prop:=
CF g 206 #[a0,a1] H (fun v1 H2=>
ae .num .neq v1 (iv 0) fun v3=>
Br v3 (
R (.returned (.tuple #[(.slice none 0 0),v1])) H2) (
Nil a0 fun v4=>
aa 0 v4 fun v5=>
Ld H2 v5 fun v6=>
ai 1 v6 a1 fun v7=>
Ld H2 v7 fun v8=>
CF g 251 #[v8] H2 (fun v9 di=>
CF g 250 #[v9] di (fun v11 dz=>
R (.returned (.tuple #[v11,(iv 0)])) dz) (au R)) (au R))) (au R)
theorem DS(h:L203 g a0 a1 H R):ag Tryz.prog g 203 #[a0,a1] H R:=
 aj (hn:=.e) Tryz.func203 h (by kernel_rfl)
def L204(g:Gh)(a0 a1 a2:Value)(H:Hp)(R:Rt):Prop:=
Nil a0 fun v1=>
aa 0 v1 fun v2=>
CF g 174 #[v2,a1] H (fun v3 H4=>
aX H4 (.cells #[(iv 0),(Value.int .u32 0),(Value.int .u32 0)] 161 (0,0)) fun b5 H6=>
St 3 H6 (pt b5) v3 fun H7=>
aa 0 (pt b5) fun v8=>
Ld H7 v8 fun v9=>
ae .num .eql v9 a2 fun v10=>
Br v10 (
aa 1 (pt b5) fun v11=>
Ld H7 v11 fun bf=>
aa 2 (pt b5) fun aZ=>
Ld H7 aZ fun bh=>
R (.returned (.tuple #[bf,bh])) H7) (
R (.returned (.tuple #[a1,a1])) H7)) (au R)
theorem DQ(h:L204 g a0 a1 a2 H R):ag Tryz.prog g 204 #[a0,a1,a2] H R:=
 aj (hn:=.e) Tryz.func204 h (by kernel_rfl)
def L205(g:Gh)(a0 a1:Value)(H:Hp)(R:Rt):Prop:=
aX H (.cells (Value.cells a1) 161 (0,0)) fun b1 H2=>
aa 0 (pt b1) fun v3=>
Ld H2 v3 fun v4=>
CF g 206 #[a0,v4] H2 (fun v5 H6=>
ae .num .neq v5 (iv 0) fun v7=>
Br v7 (
R (.returned (.tuple #[(Value.int .u32 0),(Value.bool false)])) H6) (
Nil a0 fun v8=>
aa 0 v8 fun v9=>
Ld H6 v9 fun v10=>
aa 0 (pt b1) fun v11=>
Ld H6 v11 fun bf=>
ai 1 v10 bf fun aZ=>
Ld H6 aZ fun bh=>
aC 3 H6 (pt b1) fun bA=>
je Tryz.prog 161 (Value.int .u32 0) true H6 bh bA fun bu=>
Ext 0 bu fun bF=>
Ext 1 bu fun bX=>
R (.returned (.tuple #[bF,bX])) H6)) (au R)
theorem DP(h:L205 g a0 a1 H R):ag Tryz.prog g 205 #[a0,a1] H R:=
 aj (hn:=.e) Tryz.func205 h (by kernel_rfl)
def L206(g:Gh)(a0 a1:Value)(H:Hp)(R:Rt):Prop:=
ae .ptr .eql a0 (.pointer none) fun v1=>
Br v1 (
R (.returned (iv 10)) H) (
ae .num .lss a1 (iv 0) fun v2=>
bT v2 false (fun t3=>
Nil a0 fun v4=>
aa 0 v4 fun v5=>
Ld H v5 fun v6=>
aY v6 fun v7=>
ae .num .geq a1 v7 fun v8=>
(H=H∧v8=Value.bool t3)) (fun t3=>(Value.bool true)=Value.bool t3) fun t3=>∀Tf:Fr,
Br (Value.bool t3) (
R (.returned (iv 2)) H) (
R (.returned (iv 0)) H))
theorem DO(h:L206 g a0 a1 H R):ag Tryz.prog g 206 #[a0,a1] H R:=
 aj (hn:=(.n .e (.n (.n (.n .e (.n .e (.n (.h 0 [] [1] .e .e) .e))) .e) .e))) Tryz.func206 h (by kernel_rfl)
def L207(g:Gh)(a0 a1:Value)(H:Hp)(R:Rt):Prop:=
aX H (.cells (Value.cells a1) 161 (0,0)) fun b1 H2=>
DR H2 fun R3=>
Nil a0 fun v4=>
aa 0 v4 fun v5=>
Ld R3 v5 fun v6=>
aC 3 R3 (pt b1) fun v7=>
CF g 252 #[v6,v7] H2 (fun v8 H9=>
aQ H9 R3∧
Ext 0 v8 fun v10=>
Ext 1 v8 fun v11=>
∃(xX:Jt) (Ol:Mt),JE xX [] H9∧∀dx:Hp,xX [] dx→∀rC:Fr,
aW .i64 v10 fun bu=>
Nil a0 fun bF=>
aa 2 bF fun bX=>
Ld dx bX fun bP=>
aY bP fun v20=>
ae .num .geq bu v20 fun bW=>
Br bW (
Nil a0 fun cq=>
aa 2 cq fun bV=>
Ld dx bV fun cy=>
av Tryz.prog 113 1 [(0,(Value.int .i32 0))] dx fun cD gI=>
App Tryz.prog 21 1 4 (Value.int .i32 0) gI cy cD fun cL kf=>
Nil a0 fun dW=>
aa 2 dW fun dV=>
St 1 kf dV cL fun iH=>
Nil a0 fun eP=>
aa 3 eP fun eW=>
Ld iH eW fun dn=>
av Tryz.prog 113 1 [(0,(Value.int .i32 0))] iH fun dU pW=>
App Tryz.prog 21 1 4 (Value.int .i32 0) pW dn dU fun fD xY=>
Nil a0 fun gh=>
aa 3 gh fun gA=>
St 1 xY gA fD fun Jv=>
aD xX Ol [] Jv [] dx) (
DR dx fun R46=>
Nil a0 fun jA=>
aa 2 jA fun iz=>
Ld R46 iz fun k9=>
Nil a0 fun kG=>
aa 3 kG fun jM=>
Ld R46 jM fun lT=>
ai 1 k9 v10 fun uE=>
St 1 dx uE (Value.int .i32 0) fun Jr=>
ai 1 lT v10 fun oU=>
St 1 Jr oU (Value.int .i32 0) fun Jq=>
aa 1 (pt b1) fun rK=>
Ld Jq rK fun wA=>
CF g 139 #[a0,wA] Jq (fun rj YP=>
aa 2 (pt b1) fun r8=>
Ld YP r8 fun vb=>
CF g 139 #[a0,vb] YP (fun rh Gi=>
DR Gi fun R65=>
Nil a0 fun uD=>
aa 1 uD fun wz=>
Ld R65 wz fun uC=>
aC 3 R65 (pt b1) fun uB=>
CF g 141 #[uC,uB,v10] Gi (fun uf YO=>
R (.returned v10) YO) br) (au R)) (au R))) br
theorem DN(h:L207 g a0 a1 H R):ag Tryz.prog g 207 #[a0,a1] H R:=
 aj (hn:=(.n .e (.n (.h 0 [0,1,2,3,4,5,6,7,8,9,10] [] .e .e) (.n (.n (.h 0 [] [0,3,5] .e .e) .e) (.n (.h 0 [0,1,2,3,4,5,6,7,8,9,10,11,12,13] [] .e .e) (.n .e (.n .e (.n (.h 0 [0,1,2,3,4,5,6] [] .e .e) .e)))))))) Tryz.func207 h (by kernel_rfl)
def L208(g:Gh)(a0 a1:Value)(H:Hp)(R:Rt):Prop:=
aX H (.cells (Value.cells a1) 161 (0,0)) fun b1 H2=>
aa 0 (pt b1) fun v3=>
Ld H2 v3 fun v4=>
ae .num .lss v4 (iv 0) fun v5=>
bT v5 false (fun t6=>
aa 0 (pt b1) fun v7=>
Ld H2 v7 fun v8=>
ae .num .geq v8 (iv 64) fun v9=>
(H2=H2∧v9=Value.bool t6)) (fun t6=>(Value.bool true)=Value.bool t6) fun t6=>∀tf:Fr,
Br (Value.bool t6) (
R (.returned (iv 2)) H2) (
∀TQ:Jt,(∀nB:Value,∀fg:Hp,(∀LZ:Fr,
Br nB (
R (.returned (iv 3)) fg) (
R (.returned (iv 0)) fg))→TQ [nB] fg)→
aa 1 (pt b1) fun bA=>
Ld H2 bA fun bu=>
CF g 253 #[a0,bu] H2 (fun bF dm=>
Un .not bF fun bP=>
Split bP false (
aa 2 (pt b1) fun v20=>
Ld dm v20 fun bW=>
CF g 253 #[a0,bW] dm (fun cq kD=>
Un .not cq fun cy=>
aF (Value.bool false) (Value.bool true) cy fun cD=>
JE TQ [cD] kD) (au R)) (
aF (Value.bool true) (Value.bool true) undef fun cM=>
JE TQ [cM] dm)) (au R))
theorem DM(h:L208 g a0 a1 H R):ag Tryz.prog g 208 #[a0,a1] H R:=
 aj (hn:=(.n .e (.n (.n (.n (.h 0 [] [1] .e .e) (.n .e (.h 1 [14] [] .e .e))) .e) .e))) Tryz.func208 h (by kernel_rfl)
def L209(g:Gh)(a0 a1:Value)(H:Hp)(R:Rt):Prop:=
∀J1:Jt,(∀w4:Value,∀H3:Hp,(∀W3:Fr,
Br w4 (
R (.returned (iv 3)) H3) (
R (.returned (iv 0)) H3))→J1 [w4] H3)→
ae .num .leq a1 (Value.int .u32 1) fun v5=>
Split v5 false (
CF g 253 #[a0,a1] H (fun v6 H7=>
Un .not v6 fun v8=>
aF (Value.bool false) (Value.bool true) v8 fun v9=>
JE J1 [v9] H7) (au R)) (
aF (Value.bool true) (Value.bool true) undef fun v10=>
JE J1 [v10] H)
theorem DL(h:L209 g a0 a1 H R):ag Tryz.prog g 209 #[a0,a1] H R:=
 aj (hn:=(.n .e (.n (.h 1 [12] [] .e .e) .e))) Tryz.func209 h (by kernel_rfl)
def L210(g:Gh)(a0 a1:Value)(H:Hp)(R:Rt):Prop:=
ae .ptr .eql a0 (.pointer none) fun v1=>
Br v1 (
R (.returned (iv 10)) H) (
CF g 209 #[a0,a1] H (fun v2 H3=>
ae .num .neq v2 (iv 0) fun v4=>
Br v4 (
R (.returned v2) H3) (
Nil a0 fun v5=>
aa 1 v5 fun v6=>
Ld H3 v6 fun v7=>
Build Tryz.prog 291 [] fun v8=>
ai 5 v7 a1 fun v9=>
St 5 H3 v9 v8 fun di=>
Nil a0 fun v11=>
aa 2 v11 fun bf=>
Ld di bf fun aZ=>
av Tryz.prog 27 1 [(0,a1)] di fun bh dx=>
App Tryz.prog 77 1 4 (Value.int .u32 0) dx aZ bh fun bX jh=>
Nil a0 fun v20=>
aa 2 v20 fun bW=>
St 1 jh bW bX fun gw=>
Nil a0 fun bV=>
aa 3 bV fun cy=>
Ld gw cy fun cD=>
ae .num .sub cD (iv 1) fun cM=>
Nil a0 fun cP=>
aa 3 cP fun dc=>
St 1 gw dc cM fun lM=>
R (.returned (iv 0)) lM)) (au R))
theorem DK(h:L210 g a0 a1 H R):ag Tryz.prog g 210 #[a0,a1] H R:=
 aj (hn:=.e) Tryz.func210 h (by kernel_rfl)
def L211(g:Gh)(a0:Value)(H:Hp)(R:Rt):Prop:=
ae .num .lss a0 (iv 0) fun v1=>
Br v1 (
R (.returned (iv 1)) H) (
ae .num .gtr a0 (iv 16) fun v2=>
Br v2 (
R (.returned (iv 6)) H) (
R (.returned (iv 0)) H))
theorem DJ(h:L211 g a0 H R):ag Tryz.prog g 211 #[a0] H R:=
 aj (hn:=.e) Tryz.func211 h (by kernel_rfl)
def L212(g:Gh)(a0 a1:Value)(H:Hp)(R:Rt):Prop:=
aX H (.cells #[(iv 0),(.slice none 0 0)] 57 (0,0)) fun b1 H2=>
CF g 254 #[a0] H2 (fun v3 H4=>
cX 50 1 8 (Value.int .u64 0) H4 v3 v3 fun v5 H6=>
Build Tryz.prog 57 [(0,a0),(1,v5)] fun v7=>
aX H6 (.cells #[(iv 0),(.slice none 0 0)] 57 (0,0)) fun b8 H9=>
St 2 H9 (pt b8) v7 fun di=>
aa 1 (pt b8) fun v11=>
Ld di v11 fun bf=>
aY bf fun aZ=>
∃(MV:Jt) (Vj:Mt),JE MV [(iv 0)] di∧∀ji:Value,∀eO:Hp,MV [ji] eO→∀To:Fr,
ae .num .lss ji aZ fun bP=>
Br bP (
DR eO fun AJ=>
aa 1 (pt b8) fun bW=>
Ld AJ bW fun cq=>
cc Tryz.prog g a1 #[ji] eO (fun bV gv=>
aQ gv AJ∧
CF g 255 #[a0] gv (fun cD gI=>
aQ gI AJ∧
ae .num .and bV cD fun cP=>
ai 1 cq ji fun dc=>
St 1 gI dc cP fun lM=>
ae .num .add ji (iv 1) fun v30=>
aD MV Vj [v30] lM [ji] eO) br) br) (
aC 2 eO (pt b8) fun dW=>
St 2 eO (pt b1) dW fun oM=>
aC 2 oM (pt b1) fun eZ=>
R (.returned eZ) oM)) (au R)
theorem DI(h:L212 g a0 a1 H R):ag Tryz.prog g 212 #[a0,a1] H R:=
 aj (hn:=(.n .e (.n .e (.n (.n .e (.n (.h 0 [15] [0,1,4,5,14] (.n .e (.n .e (.n (.n (.n .e (.h 0 [0,1,2,3,4,6,5,7,8,9,10] [] .e .e)) .e) .e))) .e) .e)) .e)))) Tryz.func212 h (by kernel_rfl)
def L213(g:Gh)(a0 a1:Value)(H:Hp)(R:Rt):Prop:=
Ld H a1 fun v1=>
Br v1 (
R (.returned (Value.int .u64 18446744073709551615)) H) (
R (.returned (Value.int .u64 0)) H)
theorem DH(h:L213 g a0 a1 H R):ag Tryz.prog g 213 #[a0,a1] H R:=
 aj (hn:=.e) Tryz.func213 h (by kernel_rfl)
def L214(g:Gh)(a0 a1:Value)(H:Hp)(R:Rt):Prop:=
aX H (.cells (Value.cells a0) 57 (0,0)) fun b1 H2=>
aC 2 H2 (pt b1) fun v3=>
av Tryz.prog 28 1 [(0,v3)] H2 fun v4 H5=>
CF g 220 #[v4] H5 (fun v6 H7=>
Un .not v6 fun v8=>
Br v8 (
R (.returned (iv 5)) H7) (
ae .num .lss a1 (iv 0) fun v9=>
bT v9 false (fun t10=>
aa 0 (pt b1) fun v11=>
Ld H7 v11 fun bf=>
ae .num .geq a1 bf fun aZ=>
(H7=H7∧aZ=Value.bool t10)) (fun t10=>(Value.bool true)=Value.bool t10) fun t10=>∀rC:Fr,
Br (Value.bool t10) (
R (.returned (iv 2)) H7) (
R (.returned (iv 0)) H7))) (au R)
theorem DG(h:L214 g a0 a1 H R):ag Tryz.prog g 214 #[a0,a1] H R:=
 aj (hn:=(.n .e (.n (.n (.n .e (.n .e (.n (.h 0 [] [1] .e .e) .e))) .e) .e))) Tryz.func214 h (by kernel_rfl)
def L215(g:Gh)(a0 a1 a2:Value)(H:Hp)(R:Rt):Prop:=
aX H (.cells (Value.cells a0) 57 (0,0)) fun b1 H2=>
aX H2 (.cells (Value.cells a1) 3 (0,0)) fun b3 H4=>
aX H4 (.cells (Value.cells a2) 4 (0,0)) fun b5 H6=>
aX H6 (.cells #[(iv 0),(.slice none 0 0)] 57 (0,0)) fun b7 H8=>
aa 0 (pt b1) fun v9=>
Ld H8 v9 fun v10=>
CF g 212 #[v10,(.func (.func 256) #[] #[(pt b3),(pt b5),(pt b1)])] H8 (fun v11 dz=>
St 2 dz (pt b7) v11 fun fg=>
aC 2 fg (pt b7) fun bh=>
R (.returned bh) fg) (au R)
theorem DF(h:L215 g a0 a1 a2 H R):ag Tryz.prog g 215 #[a0,a1,a2] H R:=
 aj (hn:=.e) Tryz.func215 h (by kernel_rfl)
def L216(g:Gh)(a0 a1 a2 a3 a4:Value)(H:Hp)(R:Rt):Prop:=
aX H (.cells #[(iv 0),(.slice none 0 0)] 57 (0,0)) fun b1 H2=>
Ld H2 a1 fun v3=>
qD (.int .u32) (.agg #[(iv 0),(.slice none 0 0)]) true H2 v3 a0 fun v4=>
Ext 0 v4 fun v5=>
Ext 1 v4 fun v6=>
aX H2 (.cells #[(iv 0),(.slice none 0 0)] 57 (0,0)) fun b7 H8=>
St 2 H8 (pt b7) v5 fun H9=>
Br v6 (
aC 2 H9 (pt b7) fun v10=>
St 2 H9 (pt b1) v10 fun dy=>
aC 2 dy (pt b1) fun bf=>
R (.returned bf) dy) (
Ld H9 a2 fun aZ=>
CF g 217 #[aZ,a0] H9 (fun bh dx=>
aX dx (.cells #[(iv 0),(Value.int .u32 0),(Value.int .u32 0)] 161 (0,0)) fun jd eO=>
St 3 eO (pt jd) bh fun dm=>
DR dm fun Ai=>
Ld Ai a3 fun v20=>
aC 3 Ai (pt jd) fun bW=>
Ld Ai a4 fun cq=>
aa 1 (pt jd) fun bV=>
Ld Ai bV fun cy=>
Ld Ai a4 fun cD=>
aa 2 (pt jd) fun cM=>
Ld Ai cM fun cP=>
∀F28:Hp,
cc Tryz.prog (g.add F28) cq #[cy] dm (fun cL kf=>
aQ kf Ai∧
∀F31:Hp,
cc Tryz.prog (g.add F31) cD #[cP] kf (fun dV iH=>
aQ iH Ai∧
∀F34:Hp,
cc Tryz.prog (g.add F34) v20 #[bW,cL,dV] iH (fun eW AL=>
aQ AL Ai∧
aX AL (.cells #[(iv 0),(.slice none 0 0)] 57 (0,0)) fun MD pW=>
∀F39:Hp,
St 2 pW (pt MD) eW fun j9=>
Ld j9 a1 fun fD=>
aC 2 j9 (pt MD) fun gx=>
fB (.int .u32) j9 fD a0 gx fun kZ=>
aC 2 kZ (pt MD) fun gA=>
St 2 kZ (pt b1) gA fun Jv=>
aC 2 Jv (pt b1) fun gN=>
R (.returned gN) Jv) br) br) br) (au R))
theorem tW(h:L216 g a0 a1 a2 a3 a4 H R):ag Tryz.prog g 216 #[a0,a1,a2,a3,a4] H R:=
 aj (hn:=(hN 3 (.n (.h 1 [] [] (hr 0 [] 0 5 (hr 0 [] 6 3 (.h 1 [11] [] (.h 0 [5] [] (hr 0 [] 9 4 .e) .e) .e))) .e) .e))) Tryz.func216 h (by kernel_rfl)
def L217(g:Gh)(a0 a1:Value)(H:Hp)(R:Rt):Prop:=
aX H (.cells #[(iv 0),(Value.int .u32 0),(Value.int .u32 0)] 161 (0,0)) fun b1 H2=>
CF g 97 #[a0,a1] H2 (fun v3 H4=>
Ext 0 v3 fun v5=>
Ext 1 v3 fun v6=>
aX H4 (.cells #[(iv 0),(Value.int .u32 0),(Value.int .u32 0)] 161 (0,0)) fun b7 H8=>
St 3 H8 (pt b7) v5 fun H9=>
aC 3 H9 (pt b7) fun v10=>
St 3 H9 (pt b1) v10 fun dy=>
aC 3 dy (pt b1) fun bf=>
R (.returned bf) dy) (au R)
theorem DE(h:L217 g a0 a1 H R):ag Tryz.prog g 217 #[a0,a1] H R:=
 aj (hn:=.e) Tryz.func217 h (by kernel_rfl)
def L218(g:Gh)(a0 a1:Value)(H:Hp)(R:Rt):Prop:=
Ld H a1 fun v1=>
CF g 219 #[v1,a0] H (fun v2 H3=>
R (.returned v2) H3) (au R)
theorem DD(h:L218 g a0 a1 H R):ag Tryz.prog g 218 #[a0,a1] H R:=
 aj (hn:=.e) Tryz.func218 h (by kernel_rfl)
def L219(g:Gh)(a0 a1:Value)(H:Hp)(R:Rt):Prop:=
ae .num .geq a0 (iv 6) fun v1=>
Br v1 (
aW .u64 a1 fun v2=>
ae .num .sub a0 (iv 6) fun v3=>
ae .num .shr v2 v3 fun v4=>
ae .num .and v4 (Value.int .u64 1) fun v5=>
Un .neg v5 fun v6=>
R (.returned v6) H) (
∃(I7:Jt) (m8:Mt),JE I7 [(Value.int .u64 0),(iv 0)] H∧∀kF fL:Value,∀di:Hp,I7 [kF,fL] di→∀Tf:Fr,
ae .num .lss fL (iv 64) fun aZ=>
Br aZ (
ae .num .shr fL a0 fun bh=>
ae .num .and bh (iv 1) fun bA=>
aW .u64 bA fun bu=>
ae .num .shl bu fL fun bF=>
ae .num .or kF bF fun bX=>
ae .num .add fL (iv 1) fun bP=>
aD I7 m8 [bX,bP] di [kF,fL] di) (
R (.returned kF) di))
theorem DC(h:L219 g a0 a1 H R):ag Tryz.prog g 219 #[a0,a1] H R:=
 aj (hn:=(hN 3 (.n (.n .e (.n (.h 0 [5,16] [0] .e .e) .e)) .e))) Tryz.func219 h (by kernel_rfl)
def L220(g:Gh)(a0:Value)(H:Hp)(R:Rt):Prop:=
aY a0 fun v1=>
∃(I2:Jt) (m3:Mt),JE I2 [(iv 0)] H∧∀w6:Value,∀H5:Hp,I2 [w6] H5→∀Jl:Fr,
ae .num .lss w6 v1 fun v7=>
Br v7 (
ai 2 a0 w6 fun v8=>
aC 2 H5 v8 fun v9=>
aX H5 (.cells #[(iv 0),(.slice none 0 0)] 57 (0,0)) fun xQ dy=>
St 2 dy (pt xQ) v9 fun dz=>
∀An:Jt,(∀g8:Value,∀dx:Hp,(∀rC:Fr,
Br g8 (
R (.returned (Value.bool false)) dx) (
ae .num .add w6 (iv 1) fun bF=>
aD I2 m3 [bF] dx [w6] H5))→An [g8] dx)→
DR dz fun PW=>
aC 2 PW (pt xQ) fun bP=>
∀F20:Hp,
CF (g.add F20) 232 #[bP] dz (fun bW gw=>
aQ gw PW∧
Un .not bW fun bV=>
Br bV (
JE An [(Value.bool true)] gw) (
aa 0 (pt xQ) fun cy=>
Ld PW cy fun cD=>
ai 2 a0 (iv 0) fun cM=>
aa 0 cM fun cP=>
Ld PW cP fun dc=>
ae .num .neq cD dc fun cL=>
aF (Value.bool false) (Value.bool true) cL fun v30=>
JE An [v30] gw)) br) (
R (.returned (Value.bool true)) H5)
theorem DB(h:L220 g a0 H R):ag Tryz.prog g 220 #[a0] H R:=
 aj (hn:=(.n .e (.n (.n .e (.n (.h 0 [7] [0,5,6] (.n .e (.n .e (.n (.n (.n .e (.h 1 [22] [0,5,6,7] (.h 1 [] [] (hr 0 [] 0 3 (.h 2 [3] [] (hr 0 [] 4 7 (.h 3 [11] [] .e .e)) (hr 0 [] 4 8 .e))) .e) .e)) .e) .e))) .e) .e)) .e))) Tryz.func220 h (by kernel_rfl)
def L221(g:Gh)(a0 a1 a2 a3:Value)(H:Hp)(R:Rt):Prop:=
aa 1 a1 fun v1=>
Ld H v1 fun v2=>
ai 1 v2 a0 fun v3=>
Ld H v3 fun v4=>
aa 1 a2 fun v5=>
Ld H v5 fun v6=>
ai 1 v6 a0 fun v7=>
Ld H v7 fun v8=>
ae .num .and v4 v8 fun v9=>
aa 1 a1 fun v10=>
Ld H v10 fun v11=>
ai 1 v11 a0 fun bf=>
Ld H bf fun aZ=>
Un .xor aZ fun bh=>
aa 1 a3 fun bA=>
Ld H bA fun bu=>
ai 1 bu a0 fun bF=>
Ld H bF fun bX=>
ae .num .and bh bX fun bP=>
ae .num .or v9 bP fun v20=>
R (.returned v20) H
theorem DA(h:L221 g a0 a1 a2 a3 H R):ag Tryz.prog g 221 #[a0,a1,a2,a3] H R:=
 aj (hn:=.e) Tryz.func221 h (by kernel_rfl)
def L222(g:Gh)(a0 a1:Value)(H:Hp)(R:Rt):Prop:=
aY a0 fun v1=>
aY a1 fun v2=>
ae .num .neq v1 v2 fun v3=>
Br v3 (
R (.returned (Value.bool false)) H) (
aY a0 fun v4=>
∃(I5:Jt) (m6:Mt),JE I5 [(iv 0)] H∧∀w9:Value,∀H8:Hp,I5 [w9] H8→∀QZ:Fr,
ae .num .lss w9 v4 fun v10=>
Br v10 (
ai 1 a0 w9 fun v11=>
Ld H8 v11 fun bf=>
ai 1 a1 w9 fun aZ=>
Ld H8 aZ fun bh=>
ae .num .neq bf bh fun bA=>
Br bA (
R (.returned (Value.bool false)) H8) (
ae .num .add w9 (iv 1) fun bu=>
aD I5 m6 [bu] H8 [w9] H8)) (
R (.returned (Value.bool true)) H8))
theorem Dz(h:L222 g a0 a1 H R):ag Tryz.prog g 222 #[a0,a1] H R:=
 aj (hn:=(.n .e (.n .e (.n (.n .e (.n (.h 0 [13] [0,1,12] .e .e) .e)) .e)))) Tryz.func222 h (by kernel_rfl)
def L225(g:Gh)(a0 a1 a2 a3:Value)(H:Hp)(R:Rt):Prop:=
CF g 113 #[a0,a1] H (fun v1 H2=>
Un .not v1 fun v3=>
Br v3 (
R (.returned (iv 2)) H2) (
∀J4:Jt,(∀w7:Value,∀H6:Hp,(∀UC:Fr,
Br w7 (
R (.returned (iv 3)) H6) (
∀J8:Jt,(∀kF:Value,∀di:Hp,(∀Tf:Fr,
Br kF (
R (.returned (iv 4)) di) (
R (.returned (iv 0)) di))→J8 [kF] di)→
DR H6 fun YI=>
ae .num .neq a2 a3 fun aZ=>
Br aZ (
Nil a0 fun bh=>
aa 6 bh fun bA=>
Ld YI bA fun bu=>
ai 1 bu a1 fun bF=>
Ld YI bF fun bX=>
∀F19:Hp,
CF (g.add F19) 257 #[a0,a2] H6 (fun v20 fm=>
aQ fm YI∧
∀F22:Hp,
CF (g.add F22) 257 #[a0,a3] fm (fun bV gv=>
aQ gv YI∧
TL v20 bV fun cD=>
ae .num .geq bX cD fun cM=>
aF (Value.bool true) cM (Value.bool false) fun cP=>
JE J8 [cP] gv) br) br) (
JE J8 [(Value.bool false)] H6)))→J4 [w7] H6)→
Nil a0 fun dc=>
aa 0 dc fun cL=>
CF g 173 #[cL,a2] H2 (fun v30 jg=>
Un .not v30 fun dV=>
Split dV false (
Nil a0 fun eZ=>
aa 0 eZ fun eP=>
CF g 173 #[eP,a3] jg (fun eW AL=>
Un .not eW fun dU=>
aF (Value.bool false) (Value.bool true) dU fun gk=>
JE J4 [gk] AL) (au R)) (
aF (Value.bool true) (Value.bool true) undef fun gi=>
JE J4 [gi] jg)) (au R))) (au R)
theorem Dy(h:L225 g a0 a1 a2 a3 H R):ag Tryz.prog g 225 #[a0,a1,a2,a3] H R:=
 aj (hn:=(.n .e (.n (.n (.n .e (.n .e (.h 1 [14] [0,1,2,3] .e (.n .e (.h 1 [29] [] (.h 1 [] [] (hr 0 [] 0 3 (.h 2 [3] [] (hr 0 [] 4 9 (hr 0 [] 14 2 (.h 0 [13] [] (hr 0 [] 16 5 .e) .e))) (hr 0 [] 4 15 (hr 3 [] 19 2 .e)))) .e) .e))))) .e) .e))) Tryz.func225 h (by kernel_rfl)
def L226(g:Gh)(a0 a1 a2 a3:Value)(H:Hp)(R:Rt):Prop:=
ae .num .eql a2 a3 fun v1=>
Br v1 (
R (.returned (.tuple #[a2,(Value.bool true)])) H) (
Nil a0 fun v2=>
aa 0 v2 fun v3=>
aa 1 v3 fun v4=>
Ld H v4 fun v5=>
Build Tryz.prog 161 [(0,a1),(1,a2),(2,a3)] fun v6=>
CF g 205 #[v5,v6] H (fun v7 H8=>
Ext 0 v7 fun v9=>
Ext 1 v7 fun v10=>
R (.returned (.tuple #[v9,v10])) H8) (au R))
theorem Dx(h:L226 g a0 a1 a2 a3 H R):ag Tryz.prog g 226 #[a0,a1,a2,a3] H R:=
 aj (hn:=.e) Tryz.func226 h (by kernel_rfl)
def L231(g:Gh)(a0 a1:Value)(H:Hp)(R:Rt):Prop:=
aX H (.cells #[(iv 0),(Value.int .u32 0),(Value.int .u32 0)] 161 (0,0)) fun b1 H2=>
ae .ptr .eql a0 (.pointer none) fun v3=>
Br v3 (
Build Tryz.prog 161 [] fun v4=>
St 3 H2 (pt b1) v4 fun H5=>
aC 3 H5 (pt b1) fun v6=>
R (.returned (.tuple #[v6,(iv 10)])) H5) (
CF g 253 #[a0,a1] H2 (fun v7 H8=>
Un .not v7 fun v9=>
Br v9 (
Build Tryz.prog 161 [] fun v10=>
St 3 H8 (pt b1) v10 fun dy=>
aC 3 dy (pt b1) fun bf=>
R (.returned (.tuple #[bf,(iv 3)])) dy) (
Nil a0 fun aZ=>
aa 1 aZ fun bh=>
Ld H8 bh fun bA=>
ai 5 bA a1 fun bu=>
aa 0 bu fun bF=>
aC 3 H8 bF fun bX=>
St 3 H8 (pt b1) bX fun jh=>
aC 3 jh (pt b1) fun v20=>
R (.returned (.tuple #[v20,(iv 0)])) jh)) (au R))
theorem Dw(h:L231 g a0 a1 H R):ag Tryz.prog g 231 #[a0,a1] H R:=
 aj (hn:=.e) Tryz.func231 h (by kernel_rfl)
def L232(g:Gh)(a0:Value)(H:Hp)(R:Rt):Prop:=
aX H (.cells (Value.cells a0) 57 (0,0)) fun b1 H2=>
∀J3:Jt,(∀w6:Value,∀H5:Hp,(∀Jl:Fr,
Br w6 (
R (.returned (Value.bool false)) H5) (
DR H5 fun R7=>
aa 1 (pt b1) fun v8=>
Ld R7 v8 fun v9=>
aa 1 (pt b1) fun v10=>
Ld R7 v10 fun v11=>
aY v11 fun bf=>
ae .num .sub bf (iv 1) fun aZ=>
ai 1 v9 aZ fun bh=>
Ld R7 bh fun bA=>
aa 0 (pt b1) fun bu=>
Ld R7 bu fun bF=>
CF g 255 #[bF] H5 (fun bX jh=>
aQ jh R7∧
ae .num .andNot bA bX fun v20=>
ae .num .eql v20 (Value.int .u64 0) fun bW=>
R (.returned bW) jh) br))→J3 [w6] H5)→
DR H2 fun TH=>
aa 0 (pt b1) fun bV=>
Ld TH bV fun cy=>
ae .num .lss cy (iv 0) fun cD=>
Br cD (
JE J3 [(Value.bool true)] H2) (
aa 0 (pt b1) fun cM=>
Ld TH cM fun cP=>
ae .num .gtr cP (iv 16) fun dc=>
aF (Value.bool false) (Value.bool true) dc fun cL=>
Br cL (
JE J3 [(Value.bool true)] H2) (
aa 1 (pt b1) fun v30=>
Ld TH v30 fun dW=>
aY dW fun dV=>
aa 0 (pt b1) fun eZ=>
Ld TH eZ fun eP=>
∀F35:Hp,
CF (g.add F35) 254 #[eP] H2 (fun dn pX=>
aQ pX TH∧
ae .num .neq dV dn fun gk=>
aF (Value.bool false) (Value.bool true) gk fun gi=>
JE J3 [gi] pX) br))
theorem Dv(h:L232 g a0 H R):ag Tryz.prog g 232 #[a0] H R:=
 aj (hn:=(.n .e (.n (.h 1 [19] [1] (.h 1 [] [] (hr 0 [] 0 3 (.h 2 [3] [] (hr 0 [] 4 3 (hr 3 [] 7 2 (hr 0 [] 9 7 (.h 3 [16] [] .e .e)))) (hr 0 [] 4 4 (.h 2 [8] [] (hr 0 [] 9 7 (.h 3 [16] [] .e .e)) (hr 0 [] 9 8 .e))))) .e) .e) (.n (.h 0 [0,1,2,3,4,5,6,7,8,9,10,11,12,13] [] .e .e) .e)))) Tryz.func232 h (by kernel_rfl)
def L233(g:Gh)(a0 a1:Value)(H:Hp)(R:Rt):Prop:=
aX H (.cells (Value.cells a1) 57 (0,0)) fun b1 H2=>
DR H2 fun R3=>
aC 2 R3 (pt b1) fun v4=>
aC 2 R3 (pt b1) fun v5=>
CF g 234 #[v4] H2 (fun v6 H7=>
aQ H7 R3∧
fB (.string) H7 a0 v6 v5 fun H8=>
R (.returned (.tuple #[])) H8) br
theorem Du(h:L233 g a0 a1 H R):ag Tryz.prog g 233 #[a0,a1] H R:=
 aj (hn:=(.n .e (.h 0 [0,1,3,2,4] [] .e .e))) Tryz.func233 h (by kernel_rfl)
def L234(g:Gh)(a0:Value)(H:Hp)(R:Rt):Prop:=
aX H (.cells (Value.cells a0) 57 (0,0)) fun b1 H2=>
aa 1 (pt b1) fun v3=>
Ld H2 v3 fun v4=>
aY v4 fun v5=>
∃(I6:Jt) (m7:Mt),JE I6 [(.slice none 0 0),(iv 0)] H2∧∀r7 kF:Value,∀H9:Hp,I6 [r7,kF] H9→∀O9:Fr,
ae .num .lss kF v5 fun bf=>
Br bf (
ai 1 v4 kF fun aZ=>
Ld H9 aZ fun bh=>
∃(TV:Jt) (ZA:Mt),JE TV [r7,(iv 0)] H9∧∀q8 nN:Value,∀dm:Hp,TV [q8,nN] dm→∀Pc:Fr,
ae .num .lss nN (iv 8) fun bW=>
Br bW (
ae .num .mul (iv 8) nN fun cq=>
ae .num .shr bh cq fun bV=>
aW .u8 bV fun cy=>
av Tryz.prog 87 1 [(0,cy)] dm fun cD gI=>
App Tryz.prog 5 1 1 (Value.int .u8 0) gI q8 cD fun cL kf=>
ae .num .add nN (iv 1) fun dW=>
aD TV ZA [cL,dW] kf [q8,nN] dm) (
ae .num .add kF (iv 1) fun dV=>
aD I6 m7 [q8,dV] dm [r7,kF] H9)) (
jI H9 r7 fun eZ=>
R (.returned eZ) H9)
theorem Ds(h:L234 g a0 H R):ag Tryz.prog g 234 #[a0] H R:=
 aj (hn:=(.n .e (.n .e (.n (.n .e (.n (.h 0 [3,10] [8,9] (.n .e (.n .e (.n (.n (.n .e (.n .e (.n (.h 0 [3,14] [5,8,9,10] .e .e) .e))) .e) .e))) .e) .e)) .e)))) Tryz.func234 h (by kernel_rfl)
def L238(g:Gh)(a0 a1:Value)(H:Hp)(R:Rt):Prop:=
aa 1 a1 fun v1=>
Ld H v1 fun v2=>
ai 1 v2 a0 fun v3=>
Ld H v3 fun v4=>
Un .xor v4 fun v5=>
R (.returned v5) H
theorem Dr(h:L238 g a0 a1 H R):ag Tryz.prog g 238 #[a0,a1] H R:=
 aj (hn:=.e) Tryz.func238 h (by kernel_rfl)
def L239(g:Gh)(a0 a1 a2 a3:Value)(H:Hp)(R:Rt):Prop:=
aa 1 a1 fun v1=>
Ld H v1 fun v2=>
ai 1 v2 a0 fun v3=>
Ld H v3 fun v4=>
aa 1 a2 fun v5=>
Ld H v5 fun v6=>
ai 1 v6 a0 fun v7=>
Ld H v7 fun v8=>
Un .xor v4 fun v9=>
Un .xor v8 fun v10=>
ae .num .and v9 v10 fun v11=>
Un .xor v4 fun bf=>
ae .num .and bf v8 fun aZ=>
Un .xor v8 fun bh=>
ae .num .and v4 bh fun bA=>
ae .num .and v4 v8 fun bu=>
av Tryz.prog 55 4 [(0,v11),(1,aZ),(2,bA),(3,bu)] H fun bF dm=>
aY bF fun bP=>
∃(I20:Jt) (m21:Mt),JE I20 [(Value.int .u64 0),(iv 0)] dm∧∀Jb lS:Value,∀kD:Hp,I20 [Jb,lS] kD→∀abz:Fr,
ae .num .lss lS bP fun cM=>
Br cM (
∀AK:Jt,(∀wy:Value,∀lM:Hp,(∀WZ:Fr,
ae .num .add lS (iv 1) fun dW=>
aD I20 m21 [wy,dW] lM [Jb,lS] kD)→AK [wy] lM)→
ai 1 bF lS fun dV=>
Ld kD dV fun eZ=>
Ld kD a3 fun eP=>
ae .num .shr eP lS fun eW=>
ae .num .and eW (Value.int .u8 1) fun dn=>
ae .num .eql dn (Value.int .u8 1) fun dU=>
Br dU (
ae .num .or Jb eZ fun gk=>
JE AK [gk] kD) (
JE AK [Jb] kD)) (
R (.returned Jb) kD)
theorem Dq(h:L239 g a0 a1 a2 a3 H R):ag Tryz.prog g 239 #[a0,a1,a2,a3] H R:=
 aj (hn:=(hN 3 (.n (.n .e (.n (.h 0 [8,39] [3,37,38] (.n .e (.n .e (.h 1 [8] [3,37,38,39] .e .e))) .e) .e)) .e))) Tryz.func239 h (by kernel_rfl)
def L240(g:Gh)(a0 a1:Value)(H:Hp)(R:Rt):Prop:=
ae .ptr .eql a0 (.pointer none) fun v1=>
Br v1 (
R (.returned (.tuple #[(.pointer none),(iv 10)])) H) (
aY a1 fun v2=>
∃(I3:Jt) (m4:Mt),JE I3 [(iv 0)] H∧∀w7:Value,∀H6:Hp,I3 [w7] H6→∀UC:Fr,
ae .num .lss w7 v2 fun v8=>
Br v8 (
ai 1 a1 w7 fun v9=>
Ld H6 v9 fun v10=>
CF g 97 #[a0,v10] H6 (fun v11 dz=>
Ext 0 v11 fun aZ=>
Ext 1 v11 fun bh=>
aX dz (.cells #[(iv 0),(Value.int .u32 0),(Value.int .u32 0)] 161 (0,0)) fun Nv kg=>
St 3 kg (pt Nv) aZ fun eO=>
ae .num .neq bh (iv 0) fun bX=>
Br bX (
R (.returned (.tuple #[(.pointer none),bh])) eO) (
ae .num .add w7 (iv 1) fun bP=>
aD I3 m4 [bP] eO [w7] H6)) (au R)) (
CF g 61 #[a0] H6 (fun v20 fm=>
cX 3 1 8 (iv 0) fm v20 v20 fun cq kD=>
Build Tryz.prog 337 [(0,a0),(1,cq)] fun cy=>
aX kD (.cells (Value.cells cy) 337 (0,0)) fun F1 gI=>
CF g 13 #[a0] gI (fun cP mO=>
aY cP fun cL=>
∃(TR:Jt) (Zv:Mt),JE TR [(iv 0)] mO∧∀x6:Value,∀iH:Hp,TR [x6] iH→∀Ti:Fr,
ae .num .lss x6 cL fun eW=>
Br eW (
ai 1 cP x6 fun dn=>
Ld iH dn fun dU=>
Nil (pt F1) fun gk=>
aa 1 gk fun gi=>
Ld iH gi fun gj=>
ai 1 gj dU fun fD=>
St 1 iH fD x6 fun xY=>
ae .num .add x6 (iv 1) fun gh=>
aD TR Zv [gh] xY [x6] iH) (
R (.returned (.tuple #[(pt F1),(iv 0)])) iH)) (au R)) (au R)))
theorem Dp(h:L240 g a0 a1 H R):ag Tryz.prog g 240 #[a0,a1] H R:=
 aj (hn:=(.n .e (.n .e (.n (.n .e (.n (.h 0 [17] [0,15,16] .e .e) .e)) (.n .e (.n (.n .e (.n (.h 0 [40] [10,38,39] .e .e) .e)) .e)))))) Tryz.func240 h (by kernel_rfl)
def L241(g:Gh)(a0 a1 a2:Value)(H:Hp)(R:Rt):Prop:=
aX H (.cells (Value.cells a0) 313 (0,0)) fun b1 H2=>
aX H2 (.cells (Value.cells a1) 318 (0,0)) fun b3 H4=>
aX H4 (.cells (Value.cells a2) 320 (0,0)) fun b5 H6=>
aX H6 (.cells #[(Value.int .u32 0)] 77 (0,0)) fun b7 H8=>
aX H8 (.cells #[(iv 0)] 32 (0,0)) fun b9 di=>
lD di fun v11 dz=>
aX dz (.cells #[(.map none)] 339 (0,0)) fun eY gg=>
St 1 gg (pt eY) v11 fun dx=>
aX dx (.cells #[.nilFunc] 340 (0,0)) fun jd eO=>
St 1 eO (pt jd) (.func (.func 264) #[] #[(pt eY),(pt b1),(pt b5),(pt jd)]) fun dm=>
Ld dm (pt jd) fun bP=>
aC 3 dm (pt b3) fun v20=>
cc Tryz.prog g bP #[v20] dm (fun bW gw=>
Ext 0 bW fun bV=>
Ext 1 bW fun cy=>
St 1 gw (pt b7) bV fun gu=>
St 1 gu (pt b9) cy fun gI=>
kx Tryz.prog g 262 #[(pt b1),(pt b7),(pt b9)] gI fun gr=>
Ld gr (pt b7) fun dc=>
Ld gr (pt b9) fun cL=>
R (.returned (.tuple #[dc,cL])) gr) Ij
theorem Dn(h:L241 g a0 a1 a2 H R):ag Tryz.prog g 241 #[a0,a1,a2] H R:=
 wO (hn:=(.n .e (.n .e .e))) Tryz.func241 h (by kernel_rfl)
def L242(g:Gh)(a0 a1 a2 a3:Value)(H:Hp)(R:Rt):Prop:=
DR H fun R1=>
Ld R1 a3 fun v2=>
CF g 243 #[a0] H (fun v3 H4=>
aQ H4 R1∧
ae .num .mul (Value.int .u8 2) v3 fun v5=>
CF g 243 #[a1] H4 (fun v6 H7=>
aQ H7 R1∧
ae .num .add v5 v6 fun v8=>
ae .num .shr v2 v8 fun v9=>
ae .num .and v9 (Value.int .u8 1) fun v10=>
ae .num .eql v10 (Value.int .u8 1) fun v11=>
R (.returned v11) H7) br) br
theorem Dm(h:L242 g a0 a1 a2 a3 H R):ag Tryz.prog g 242 #[a0,a1,a2,a3] H R:=
 aj (hn:=(.n .e (.n (.h 0 [0,1,4,2,3,5,6,7,8,9,10] [] .e .e) .e))) Tryz.func242 h (by kernel_rfl)
def L243(g:Gh)(a0:Value)(H:Hp)(R:Rt):Prop:=
Br a0 (
R (.returned (Value.int .u8 1)) H) (
R (.returned (Value.int .u8 0)) H)
theorem Dl(h:L243 g a0 H R):ag Tryz.prog g 243 #[a0] H R:=
 aj (hn:=.e) Tryz.func243 h (by kernel_rfl)
def L244(g:Gh)(a0 a1 a2:Value)(H:Hp)(R:Rt):Prop:=
bT a0 true (fun t1=>
(H=H∧a1=Value.bool t1)) (fun t1=>(Value.bool false)=Value.bool t1) fun t1=>∀W3:Fr,
bT (Value.bool t1) false (fun t3=>
Un .not a0 fun v4=>
bT v4 true (fun t5=>
(H=H∧a2=Value.bool t5)) (fun t5=>(Value.bool false)=Value.bool t5) fun t5=>∀Tg:Fr,
(H=H∧(Value.bool t5)=Value.bool t3)) (fun t3=>(Value.bool true)=Value.bool t3) fun t3=>∀QZ:Fr,
R (.returned (Value.bool t3)) H
theorem Dk(h:L244 g a0 a1 a2 H R):ag Tryz.prog g 244 #[a0,a1,a2] H R:=
 aj (hn:=(.n .e (.n (.h 0 [] [1] .e .e) .e))) Tryz.func244 h (by kernel_rfl)
def L245(g:Gh)(a0 a1:Value)(H:Hp)(R:Rt):Prop:=
∀J1:Jt,(∀w4:Value,∀H3:Hp,(∀W3:Fr,
Br w4 (
R (.returned (.tuple #[(Value.int .u64 0),(Value.bool false)])) H3) (
ae .num .shl (Value.int .u64 1) a1 fun v5=>
R (.returned (.tuple #[v5,(Value.bool true)])) H3))→J1 [w4] H3)→
ae .num .lss a1 (iv 0) fun v6=>
Split v6 false (
ae .ptr .neq a0 (.pointer none) fun v7=>
Split v7 true (
CF g 61 #[a0] H (fun v8 H9=>
ae .num .geq a1 v8 fun v10=>
aF (Value.bool true) v10 (Value.bool false) fun v11=>
aF (Value.bool false) (Value.bool true) v11 fun bf=>
JE J1 [bf] H9) (au R)) (
aF (Value.bool false) undef (Value.bool false) fun aZ=>
aF (Value.bool false) (Value.bool true) aZ fun bh=>
JE J1 [bh] H)) (
aF (Value.bool true) (Value.bool true) undef fun bA=>
JE J1 [bA] H)
theorem Dj(h:L245 g a0 a1 H R):ag Tryz.prog g 245 #[a0,a1] H R:=
 aj (hn:=(.n .e (.n (.h 1 [17] [1] .e .e) .e))) Tryz.func245 h (by kernel_rfl)
def L246(g:Gh)(a0 a1 a2:Value)(H:Hp)(R:Rt):Prop:=
ae .ptr .eql a0 (.pointer none) fun v1=>
Br v1 (
R (.returned (iv 10)) H) (
CF g 61 #[a0] H (fun v2 H3=>
ae .num .shr a1 v2 fun v4=>
ae .num .neq v4 (Value.int .u64 0) fun v5=>
Br v5 (
R (.returned (iv 2)) H3) (
aY a2 fun v6=>
∃(I7:Jt) (m8:Mt),JE I7 [(iv 0)] H3∧∀kF:Value,∀di:Hp,I7 [kF] di→∀Tf:Fr,
ae .num .lss kF v6 fun bf=>
Br bf (
ai 1 a2 kF fun aZ=>
Ld di aZ fun bh=>
CF g 97 #[a0,bh] di (fun bA kg=>
Ext 0 bA fun bF=>
Ext 1 bA fun bX=>
aX kg (.cells #[(iv 0),(Value.int .u32 0),(Value.int .u32 0)] 161 (0,0)) fun kX iy=>
St 3 iy (pt kX) bF fun fm=>
ae .num .neq bX (iv 0) fun cq=>
Br cq (
R (.returned (iv 3)) fm) (
ae .num .add kF (iv 1) fun bV=>
aD I7 m8 [bV] fm [kF] di)) (au R)) (
R (.returned (iv 0)) di))) (au R))
theorem Di(h:L246 g a0 a1 a2 H R):ag Tryz.prog g 246 #[a0,a1,a2] H R:=
 aj (hn:=(hN 3 (.n (.n .e (.n (.h 0 [20] [0,18,19] .e .e) .e)) .e))) Tryz.func246 h (by kernel_rfl)
def L247(g:Gh)(a0 a1 a2:Value)(H:Hp)(R:Rt):Prop:=
ae .num .neq a2 (iv 0) fun v1=>
Br v1 (
R (.returned (.tuple #[(Value.int .u32 0),a2])) H) (
Un .not a1 fun v2=>
Br v2 (
R (.returned (.tuple #[(Value.int .u32 0),(iv 8)])) H) (
R (.returned (.tuple #[a0,(iv 0)])) H))
theorem tV(h:L247 g a0 a1 a2 H R):ag Tryz.prog g 247 #[a0,a1,a2] H R:=
 aj (hn:=.e) Tryz.func247 h (by kernel_rfl)
def L248(g:Gh)(a0 a1 a2 a3:Value)(H:Hp)(R:Rt):Prop:=
aX H (.cells (Value.cells a1) 77 (0,0)) fun b1 H2=>
aX H2 (.cells (Value.cells a2) 3 (0,0)) fun b3 H4=>
aX H4 (.cells (Value.cells a3) 4 (0,0)) fun b5 H6=>
CF g 268 #[a0,(.func (.func 269) #[] #[(pt b1),(pt b3),(pt b5)])] H6 (fun v7 H8=>
Ext 0 v7 fun v9=>
Ext 1 v7 fun v10=>
Ext 2 v7 fun v11=>
R (.returned (.tuple #[v9,v10,v11])) H8) (au R)
theorem Dh(h:L248 g a0 a1 a2 a3 H R):ag Tryz.prog g 248 #[a0,a1,a2,a3] H R:=
 aj (hn:=.e) Tryz.func248 h (by kernel_rfl)
def L249(g:Gh)(a0 a1 a2 a3:Value)(H:Hp)(R:Rt):Prop:=
av Tryz.prog 27 1 [(0,a1)] H fun v1 H2=>
CF g 246 #[a0,a2,v1] H2 (fun v3 H4=>
ae .num .neq v3 (iv 0) fun v5=>
Br v5 (
R (.returned (.tuple #[(Value.int .u32 0),v3])) H4) (
ae .num .eql a2 (Value.int .u64 0) fun v6=>
Br v6 (
CF g 121 #[a0,a1] H4 (fun v7 H8=>
ae .num .neq v7 (iv 0) fun v9=>
Br v9 (
R (.returned (.tuple #[(Value.int .u32 0),v7])) H8) (
R (.returned (.tuple #[a1,(iv 0)])) H8)) (au R)) (
CF g 61 #[a0] H4 (fun v10 dy=>
∃(xX:Jt) (Ol:Mt),JE xX [a1,(Value.bool false),(iv 0)] dy∧∀g8 qI ji:Value,∀dx:Hp,xX [g8,qI,ji] dx→∀rC:Fr,
ae .num .lss ji v10 fun bP=>
Br bP (
∀J20:Jt,(∀oP Jb:Value,∀gw:Hp,(∀W0:Fr,
ae .num .add ji (iv 1) fun cD=>
aD xX Ol [oP,Jb,cD] gw [g8,qI,ji] dx)→J20 [oP,Jb] gw)→
ae .num .shr a2 ji fun cM=>
ae .num .and cM (Value.int .u64 1) fun cP=>
ae .num .eql cP (Value.int .u64 0) fun dc=>
Br dc (
JE J20 [g8,qI] dx) (
CF g 272 #[a0,g8,ji,a3] dx (fun cL kf=>
Ext 0 cL fun dW=>
Ext 1 cL fun dV=>
Ext 2 cL fun eZ=>
CF g 247 #[dW,dV,eZ] kf (fun eP nA=>
Ext 0 eP fun dn=>
Ext 1 eP fun dU=>
∀ye:Jt,(∀j9:Hp,(∀Th:Fr,
ae .num .neq dU (iv 0) fun fD=>
Br fD (
R (.returned (.tuple #[(Value.int .u32 0),dU])) j9) (
JE J20 [dn,(Value.bool true)] j9))→ye [] j9)→
Br qI (
CF g 131 #[a0,g8] nA (fun gx kZ=>
JE ye [] kZ) (au R)) (
JE ye [] nA)) (au R)) (au R))) (
R (.returned (.tuple #[g8,(iv 0)])) dx)) (au R)))) (au R)
theorem Dg(h:L249 g a0 a1 a2 a3 H R):ag Tryz.prog g 249 #[a0,a1,a2,a3] H R:=
 aj (hn:=(hN 4 (.n (.n .e (.n (.h 0 [12,13,37] [0,2,3,36] (.n .e (.n .e (.h 1 [12,13] [0,2,3,36,37] (.n (hN 3 (.h 1 [] [0,2,3,15,16,36,37] .e .e)) .e) .e))) .e) .e)) .e))) Tryz.func249 h (by kernel_rfl)
variable {g:Gh} {a0 a1 a2 a3 a4 a5 a6 a7 a8 a9 rF rE Xl Xk Xj Xi:Value} {H:Hp} {R:Rt}
def L250(g:Gh)(a0:Value)(H:Hp)(R:Rt):Prop:=
CF g 273 #[a0] H (fun v1 H2=>
CF g 274 #[v1] H2 (fun v3 H4=>
R (.returned v1) H4) (au R)) (au R)
theorem Df(h:L250 g a0 H R):ag Tryz.prog g 250 #[a0] H R:=
 aj (hn:=.e) Tryz.func250 h (by kernel_rfl)
def L251(g:Gh)(a0:Value)(H:Hp)(R:Rt):Prop:=
aX H (.cells (Value.cells a0) 266 (0,0)) fun b1 H2=>
R (.returned (.func (.func 275) #[] #[(pt b1)])) H2
theorem De(h:L251 g a0 H R):ag Tryz.prog g 251 #[a0] H R:=
 aj (hn:=.e) Tryz.func251 h (by kernel_rfl)
def L252(g:Gh)(a0 a1:Value)(H:Hp)(R:Rt):Prop:=
aX H (.cells (Value.cells a1) 161 (0,0)) fun b1 H2=>
ae .ptr .eql a0 (.pointer none) fun v3=>
Br v3 (
R (.returned (.tuple #[(Value.int .u32 0),(iv 10)])) H2) (
aC 3 H2 (pt b1) fun v4=>
CF g 208 #[a0,v4] H2 (fun v5 H6=>
ae .num .neq v5 (iv 0) fun v7=>
Br v7 (
R (.returned (.tuple #[(Value.int .u32 0),v5])) H6) (
Nil a0 fun v8=>
aa 2 v8 fun v9=>
Ld H6 v9 fun v10=>
aY v10 fun v11=>
ae .num .gtr v11 (iv 0) fun bf=>
Br bf (
Nil a0 fun aZ=>
aa 2 aZ fun bh=>
Ld H6 bh fun bA=>
ae .num .sub v11 (iv 1) fun bu=>
ai 1 bA bu fun bF=>
Ld H6 bF fun bX=>
Nil a0 fun bP=>
aa 2 bP fun v20=>
Ld H6 v20 fun bW=>
ae .num .sub v11 (iv 1) fun cq=>
gf 1 bW none (some cq) fun bV=>
Nil a0 fun cy=>
aa 2 cy fun cD=>
St 1 H6 cD bV fun gI=>
DR gI fun Gb=>
Nil a0 fun dc=>
aa 1 dc fun cL=>
Ld Gb cL fun v30=>
aC 3 Gb (pt b1) fun dW=>
Build Tryz.prog 291 [(0,dW),(1,(Value.bool true))] fun dV=>
ai 5 v30 bX fun eZ=>
St 5 gI eZ dV fun pY=>
Nil a0 fun eW=>
aa 3 eW fun dn=>
Ld pY dn fun dU=>
ae .num .add dU (iv 1) fun gk=>
Nil a0 fun gi=>
aa 3 gi fun gj=>
St 1 pY gj gk fun u4=>
R (.returned (.tuple #[bX,(iv 0)])) u4) (
Nil a0 fun gx=>
aa 1 gx fun gh=>
Ld H6 gh fun gA=>
aY gA fun g6=>
Nil a0 fun gN=>
aa 0 gN fun jA=>
Ld H6 jA fun iz=>
ae .num .geq g6 iz fun k9=>
Br k9 (
R (.returned (.tuple #[(Value.int .u32 0),(iv 9)])) H6) (
DR H6 fun Nx=>
Nil a0 fun jM=>
aa 1 jM fun lT=>
Ld Nx lT fun uE=>
aC 3 Nx (pt b1) fun wB=>
Build Tryz.prog 291 [(0,wB),(1,(Value.bool true))] fun oU=>
av Tryz.prog 196 1 [(0,oU)] H6 fun r9 MX=>
aQ MX Nx∧
App Tryz.prog 291 5 24 (.agg #[(iv 0),(Value.int .u32 0),(Value.int .u32 0),(Value.bool false),(Value.int .u8 0)]) MX uE r9 fun ri rI=>
aQ rI Nx∧
Nil a0 fun vb=>
aa 1 vb fun rh=>
St 1 rI rh ri fun Gi=>
Nil a0 fun q9=>
aa 3 q9 fun uD=>
Ld Gi uD fun wz=>
ae .num .add wz (iv 1) fun uC=>
Nil a0 fun uB=>
aa 3 uB fun uf=>
St 1 Gi uf uC fun YO=>
Nil a0 fun uA=>
aa 1 uA fun GD=>
Ld YO GD fun JJ=>
aY JJ fun uz=>
ae .num .sub uz (iv 1) fun Au=>
aW .u32 Au fun AS=>
R (.returned (.tuple #[AS,(iv 0)])) YO)))) (au R))
theorem Dd(h:L252 g a0 a1 H R):ag Tryz.prog g 252 #[a0,a1] H R:=
 aj (hn:=(hN 3 (.n (.n .e (.n .e (.n (.n .e (.n .e (.n (.h 0 [0,1,2,3,4,5,6,7,8] [] .e .e) .e))) .e))) (.n .e (.n (.h 0 [0,1,2,3,4,5,6,7,8,9,10,11] [] .e .e) .e))))) Tryz.func252 h (by kernel_rfl)
def L253(g:Gh)(a0 a1:Value)(H:Hp)(R:Rt):Prop:=
aW .i64 a1 fun v1=>
Nil a0 fun v2=>
aa 1 v2 fun v3=>
Ld H v3 fun v4=>
aY v4 fun v5=>
ae .num .lss v1 v5 fun v6=>
bT v6 true (fun t7=>
Nil a0 fun v8=>
aa 1 v8 fun v9=>
Ld H v9 fun v10=>
ai 5 v10 a1 fun v11=>
aa 3 v11 fun bf=>
Ld H bf fun aZ=>
(H=H∧aZ=Value.bool t7)) (fun t7=>(Value.bool false)=Value.bool t7) fun t7=>∀rC:Fr,
R (.returned (Value.bool t7)) H
theorem Dc(h:L253 g a0 a1 H R):ag Tryz.prog g 253 #[a0,a1] H R:=
 aj (hn:=(.n .e (.n (.h 0 [] [1] .e .e) .e))) Tryz.func253 h (by kernel_rfl)
def L254(g:Gh)(a0:Value)(H:Hp)(R:Rt):Prop:=
ae .num .shl (iv 1) a0 fun v1=>
ae .num .shr v1 (Value.int .u64 6) fun v2=>
MT (iv 1) v2 fun v3=>
R (.returned v3) H
theorem Db(h:L254 g a0 H R):ag Tryz.prog g 254 #[a0] H R:=
 aj (hn:=.e) Tryz.func254 h (by kernel_rfl)
def L255(g:Gh)(a0:Value)(H:Hp)(R:Rt):Prop:=
ae .num .geq a0 (iv 6) fun v1=>
Br v1 (
R (.returned (Value.int .u64 18446744073709551615)) H) (
ae .num .shl (Value.int .u64 1) a0 fun v2=>
ae .num .shl (Value.int .u64 1) v2 fun v3=>
ae .num .sub v3 (Value.int .u64 1) fun v4=>
R (.returned v4) H)
theorem Da(h:L255 g a0 H R):ag Tryz.prog g 255 #[a0] H R:=
 aj (hn:=.e) Tryz.func255 h (by kernel_rfl)
def L256(g:Gh)(a0 a1 a2 a3:Value)(H:Hp)(R:Rt):Prop:=
Ld H a1 fun v1=>
ae .num .geq v1 (iv 6) fun v2=>
Br v2 (
Ld H a1 fun v3=>
ae .num .sub v3 (iv 6) fun v4=>
ae .num .shl (iv 1) v4 fun v5=>
ae .num .andNot a0 v5 fun v6=>
∀J7:Jt,(∀r7:Value,∀H9:Hp,(∀O9:Fr,
aa 1 a3 fun v11=>
Ld H9 v11 fun bf=>
ai 1 bf r7 fun aZ=>
Ld H9 aZ fun bh=>
R (.returned bh) H9)→J7 [r7] H9)→
Ld H a2 fun bA=>
Br bA (
Ld H a1 fun bu=>
ae .num .sub bu (iv 6) fun bF=>
ae .num .shl (iv 1) bF fun bX=>
ae .num .or v6 bX fun bP=>
JE J7 [bP] H) (
JE J7 [v6] H)) (
DR H fun AJ=>
Ld AJ a1 fun bW=>
Ld AJ a1 fun cq=>
ae .num .shl (iv 1) cq fun bV=>
CF g 219 #[bW,(iv 0)] H (fun cy gu=>
aQ gu AJ∧
Ld gu a2 fun cM=>
Br cM (
aa 1 a3 fun cP=>
Ld gu cP fun dc=>
ai 1 dc a0 fun cL=>
Ld gu cL fun v30=>
ae .num .and v30 cy fun dW=>
ae .num .shr dW bV fun dV=>
ae .num .or dW dV fun eZ=>
R (.returned eZ) gu) (
aa 1 a3 fun eP=>
Ld gu eP fun eW=>
ai 1 eW a0 fun dn=>
Ld gu dn fun dU=>
ae .num .andNot dU cy fun gk=>
ae .num .shl gk bV fun gi=>
ae .num .or gk gi fun gj=>
R (.returned gj) gu)) br)
theorem C9(h:L256 g a0 a1 a2 a3 H R):ag Tryz.prog g 256 #[a0,a1,a2,a3] H R:=
 aj (hn:=(.n .e (.n (.n .e (.n (.n .e (.h 1 [6] [3] .e .e)) .e)) (.n (.h 0 [0,2,3,1,4,5] [] .e .e) .e)))) Tryz.func256 h (by kernel_rfl)
def L257(g:Gh)(a0 a1:Value)(H:Hp)(R:Rt):Prop:=
Nil a0 fun v1=>
aa 0 v1 fun v2=>
CF g 174 #[v2,a1] H (fun v3 H4=>
aX H4 (.cells #[(iv 0),(Value.int .u32 0),(Value.int .u32 0)] 161 (0,0)) fun b5 H6=>
St 3 H6 (pt b5) v3 fun H7=>
aa 0 (pt b5) fun v8=>
Ld H7 v8 fun v9=>
ae .num .geq v9 (iv 0) fun v10=>
Br v10 (
Nil a0 fun v11=>
aa 6 v11 fun bf=>
Ld H7 bf fun aZ=>
aa 0 (pt b5) fun bh=>
Ld H7 bh fun bA=>
ai 1 aZ bA fun bu=>
Ld H7 bu fun bF=>
R (.returned bF) H7) (
Nil a0 fun bX=>
aa 4 bX fun bP=>
Ld H7 bP fun v20=>
R (.returned v20) H7)) (au R)
theorem C7(h:L257 g a0 a1 H R):ag Tryz.prog g 257 #[a0,a1] H R:=
 aj (hn:=.e) Tryz.func257 h (by kernel_rfl)
def L262(g:Gh)(a0 a1 a2:Value)(H:Hp)(R:Rt):Prop:=
Ld H a0 fun v1=>
Ld H a1 fun v2=>
Ld H a2 fun v3=>
CF g 263 #[v1,v2,v3] H (fun v4 H5=>
Ext 0 v4 fun v6=>
Ext 1 v4 fun v7=>
St 1 H5 a1 v6 fun H8=>
St 1 H8 a2 v7 fun H9=>
R (.returned (.tuple #[])) H9) (au R)
theorem Al(h:L262 g a0 a1 a2 H R):jz Tryz.prog g 262 #[a0,a1,a2] H R:=
 wP (hn:=.e) Tryz.func262 h (by kernel_rfl)
def L263(g:Gh)(a0 a1 a2:Value)(H:Hp)(R:Rt):Prop:=
ae .num .eql a1 (Value.int .u32 0) fun v1=>
bT v1 false (fun t2=>
ae .num .eql a1 (Value.int .u32 1) fun v3=>
(H=H∧v3=Value.bool t2)) (fun t2=>(Value.bool true)=Value.bool t2) fun t2=>∀Jl:Fr,
Nil a0 fun v5=>
aa 2 v5 fun v6=>
Ld H v6 fun v7=>
aY v7 fun v8=>
∃(I9:Jt) (ZD:Mt),JE I9 [(Value.bool t2),(iv 0)] H∧∀Gy nB:Value,∀dz:Hp,I9 [Gy,nB] dz→∀Tr:Fr,
ae .num .lss nB v8 fun bA=>
Br bA (
∀J16:Jt,(∀q8:Value,∀dm:Hp,(∀Pc:Fr,
ae .num .add nB (iv 1) fun v20=>
aD I9 ZD [q8,v20] dm [Gy,nB] dz)→J16 [q8] dm)→
ai 1 v7 nB fun bW=>
Ld dz bW fun cq=>
ae .num .eql cq a1 fun bV=>
bT bV true (fun t24=>
Un .not Gy fun cD=>
(dz=dz∧cD=Value.bool t24)) (fun t24=>(Value.bool false)=Value.bool t24) fun t24=>∀Tl:Fr,
bT (Value.bool t24) true (fun t27=>
ae .num .eql a2 (iv 0) fun dc=>
(dz=dz∧dc=Value.bool t27)) (fun t27=>(Value.bool false)=Value.bool t27) fun t27=>∀Tk:Fr,
Br (Value.bool t27) (
JE J16 [(Value.bool true)] dz) (
Nil a0 fun v30=>
aa 0 v30 fun dW=>
Ld dz dW fun dV=>
CF g 131 #[dV,cq] dz (fun eZ pY=>
JE J16 [Gy] pY) (au R))) (
Nil a0 fun eW=>
aa 2 eW fun dn=>
St 1 dz dn (.slice none 0 0) fun pX=>
∀ye:Jt,(∀j9:Hp,(∀Th:Fr,
R (.returned (.tuple #[a1,(iv 0)])) j9)→ye [] j9)→
ae .num .neq a2 (iv 0) fun fD=>
Br fD (
R (.returned (.tuple #[(Value.int .u32 0),a2])) pX) (
Un .not Gy fun gx=>
Br gx (
R (.returned (.tuple #[(Value.int .u32 0),(iv 8)])) pX) (
ae .num .eql a1 (Value.int .u32 0) fun gh=>
bT gh false (fun t44=>
ae .num .eql a1 (Value.int .u32 1) fun g6=>
(pX=pX∧g6=Value.bool t44)) (fun t44=>(Value.bool true)=Value.bool t44) fun t44=>∀abr:Fr,
Br (Value.bool t44) (
Nil a0 fun jA=>
aa 0 jA fun iz=>
Ld pX iz fun k9=>
CF g 121 #[k9,a1] pX (fun kG ND=>
JE ye [] ND) (au R)) (
JE ye [] pX))))
theorem C6(h:L263 g a0 a1 a2 H R):ag Tryz.prog g 263 #[a0,a1,a2] H R:=
 aj (hn:=(.n .e (.n (.h 0 [] [1] .e .e) (.n (.n .e (.n (.h 0 [8,22] [0,1,2,20,21] (.n .e (.n .e (.h 1 [8] [0,1,2,20,21,22] (.n (.n .e (.n (.n (.h 0 [] [1] .e .e) .e) .e)) .e) .e))) .e) .e)) (.n .e (.h 1 [] [1] (.n (hN 4 (.n (.h 0 [] [1] .e .e) .e)) .e) .e)))))) Tryz.func263 h (by kernel_rfl)
def L264(g:Gh)(a0 a1 a2 a3 a4:Value)(H:Hp)(R:Rt):Prop:=
aX H (.cells (Value.cells a0) 318 (0,0)) fun b1 H2=>
Ld H2 a1 fun v3=>
aC 3 H2 (pt b1) fun v4=>
je Tryz.prog 318 (Value.int .u32 0) true H2 v3 v4 fun v5=>
Ext 0 v5 fun v6=>
Ext 1 v5 fun v7=>
Br v7 (
R (.returned (.tuple #[v6,(iv 0)])) H2) (
Ld H2 a2 fun v8=>
aC 3 H2 (pt b1) fun v9=>
CF g 265 #[v8,v9] H2 (fun v10 dy=>
Ld dy a2 fun bf=>
CF g 266 #[bf,v10] dy (fun aZ gg=>
ae .num .lss aZ (iv 0) fun bA=>
Br bA (
Ld gg a3 fun bu=>
gZ 3 1 (pt b1) (iv 0) fun bF=>
Ld gg bF fun bX=>
ae .num .eql bX (Value.int .u32 1) fun bP=>
gZ 3 1 (pt b1) (iv 1) fun v20=>
Ld gg v20 fun bW=>
ae .num .eql bW (Value.int .u32 1) fun cq=>
gZ 3 1 (pt b1) (iv 2) fun bV=>
Ld gg bV fun cy=>
ae .num .eql cy (Value.int .u32 1) fun cD=>
cc Tryz.prog g bu #[bP,cq,cD] gg (fun cM gr=>
Br cM (
R (.returned (.tuple #[(Value.int .u32 1),(iv 0)])) gr) (
R (.returned (.tuple #[(Value.int .u32 0),(iv 0)])) gr)) (au R)) (
DR gg fun TG=>
aC 3 TG (pt b1) fun cL=>
aC 3 TG (pt b1) fun v30=>
aX gg (.cells #[(Value.int .u32 0),(Value.int .u32 0),(Value.int .u32 0)] 318 (0,0)) fun B4 oM=>
aX oM (.cells #[(Value.int .u32 0),(Value.int .u32 0),(Value.int .u32 0)] 318 (0,0)) fun pN pY=>
∀F35:Hp,
St 3 pY (pt B4) cL fun AL=>
aQ AL TG∧
∀F37:Hp,
St 3 AL (pt pN) v30 fun pW=>
aY v10 fun gi=>
∃(I40:Jt) (m41:Mt),JE I40 [(iv 0)] pW∧∀JD:Value,∀kZ:Hp,I40 [JD] kZ→∀abt:Fr,
ae .num .lss JD gi fun g6=>
Br g6 (
∀J46:Jt,(∀IY:Hp,(∀abq:Fr,
ae .num .add JD (iv 1) fun k9=>
aD I40 m41 [k9] IY [JD] kZ)→J46 [] IY)→
ai 3 v10 JD fun kG=>
aC 3 kZ kG fun jM=>
aX kZ (.cells #[(iv 0),(Value.int .u32 0),(Value.int .u32 0)] 161 (0,0)) fun UD Js=>
St 3 Js (pt UD) jM fun Jr=>
aa 0 (pt UD) fun oU=>
Ld Jr oU fun r9=>
ae .num .eql r9 aZ fun rK=>
Br rK (
DR Jr fun R58=>
aa 1 (pt UD) fun rj=>
Ld R58 rj fun ri=>
aa 2 (pt UD) fun r8=>
Ld R58 r8 fun vb=>
gZ 3 1 (pt B4) JD fun rh=>
St 1 Jr rh ri fun Gi=>
aQ Gi R58∧
gZ 3 1 (pt pN) JD fun q9=>
St 1 Gi q9 vb fun T1=>
JE J46 [] T1) (
JE J46 [] Jr)) (
Ld kZ a4 fun wz=>
aC 3 kZ (pt B4) fun uC=>
cc Tryz.prog g wz #[uC] kZ (fun uB UQ=>
Ext 0 uB fun ym=>
Ext 1 uB fun uA=>
ae .num .neq uA (iv 0) fun GD=>
Br GD (
R (.returned (.tuple #[(Value.int .u32 0),uA])) UQ) (
Ld UQ a4 fun JJ=>
aC 3 UQ (pt pN) fun uz=>
cc Tryz.prog g JJ #[uz] UQ (fun Au IX=>
Ext 0 Au fun uy=>
Ext 1 Au fun ux=>
ae .num .neq ux (iv 0) fun E0=>
Br E0 (
R (.returned (.tuple #[(Value.int .u32 0),ux])) IX) (
Ld IX a2 fun As=>
CF g 267 #[As,aZ,ym,uy] IX (fun uv IW=>
Ext 0 uv fun Ar=>
Ext 1 uv fun u7=>
∀J86:Jt,(∀YL:Hp,(∀agX:Fr,
R (.returned (.tuple #[Ar,u7])) YL)→J86 [] YL)→
ae .num .eql u7 (iv 0) fun EZ=>
Br EZ (
Ld IW a1 fun AR=>
aC 3 IW (pt b1) fun x9=>
gL Tryz.prog 318 IW AR x9 Ar fun H92=>
JE J86 [] H92) (
JE J86 [] IW)) (au R))) (au R))) (au R)))) (au R)) (au R))
theorem tU(h:L264 g a0 a1 a2 a3 a4 H R):ag Tryz.prog g 264 #[a0,a1,a2,a3,a4] H R:=
 aj (hn:=(hN 5 (.n (.h 1 [] [] (hr 0 [] 0 2 (hr 1 [] 2 2 (hr 0 [] 2 4 .e))) .e) (.n (.n .e (.n (.h 0 [51] [1,2,4,5,11,12,13,49,50] (.n .e (.n .e (.h 1 [] [1,2,4,5,11,12,13,49,50,51] (.n (.n .e (.n .e (.n (.h 0 [0,1,2,3,4,5,6,7,8,9] [] .e .e) .e))) .e) .e))) .e) .e)) (hN 5 (.h 1 [] [17,19] .e .e)))))) Tryz.func264 h (by kernel_rfl)
def L265(g:Gh)(a0 a1:Value)(H:Hp)(R:Rt):Prop:=
aX H (.cells (Value.cells a1) 318 (0,0)) fun b1 H2=>
aC 3 H2 (pt b1) fun v3=>
∃(I4:Jt) (m5:Mt),JE I4 [(.slice none 0 0),(iv 0)] H2∧∀w8 w9:Value,∀H7:Hp,I4 [w8,w9] H7→∀Tg:Fr,
ae .num .lss w9 (iv 3) fun v10=>
Br v10 (
kY Tryz.prog g (fR Tryz.f265 4 0) (ev (fun s=>cond (Nat.beq s 10) v3 (cond (Nat.beq s 11) w9 (undef)))) H7 fun v11=>
Nil a0 fun bf=>
aa 0 bf fun aZ=>
Ld H7 aZ fun bh=>
CF g 97 #[bh,v11] H7 (fun bA kg=>
Ext 0 bA fun bF=>
Ext 1 bA fun bX=>
aX kg (.cells #[(iv 0),(Value.int .u32 0),(Value.int .u32 0)] 161 (0,0)) fun kX iy=>
St 3 iy (pt kX) bF fun fm=>
aC 3 fm (pt kX) fun cq=>
av Tryz.prog 286 1 [(0,cq)] fm fun bV gv=>
App Tryz.prog 161 3 16 (.agg #[(iv 0),(Value.int .u32 0),(Value.int .u32 0)]) gv w8 bV fun cP mO=>
ae .num .add w9 (iv 1) fun cL=>
aD I4 m5 [cP,cL] mO [w8,w9] H7) (au R)) (
R (.returned w8) H7)
theorem CZ(h:L265 g a0 a1 H R):ag Tryz.prog g 265 #[a0,a1] H R:=
 aj (hn:=(.n .e (.n .e (.n (.n .e (.n (.h 0 [5,11] [0,10] .e .e) .e)) .e)))) Tryz.func265 h (by kernel_rfl)
def L266(g:Gh)(a0 a1:Value)(H:Hp)(R:Rt):Prop:=
aY a1 fun v1=>
∃(I2:Jt) (m3:Mt),JE I2 [(iv (-1)),(iv 0)] H∧∀w6 w7:Value,∀H5:Hp,I2 [w6,w7] H5→∀Jl:Fr,
ae .num .lss w7 v1 fun v8=>
Br v8 (
∀J9:Jt,(∀fL:Value,∀dy:Hp,(∀tf:Fr,
ae .num .add w7 (iv 1) fun aZ=>
aD I2 m3 [fL,aZ] dy [w6,w7] H5)→J9 [fL] dy)→
ai 3 a1 w7 fun bh=>
aC 3 H5 bh fun bA=>
aX H5 (.cells #[(iv 0),(Value.int .u32 0),(Value.int .u32 0)] 161 (0,0)) fun jd eO=>
St 3 eO (pt jd) bA fun dm=>
aa 0 (pt jd) fun bP=>
Ld dm bP fun v20=>
ae .num .geq v20 (iv 0) fun bW=>
bT bW true (fun t22=>
ae .num .lss w6 (iv 0) fun bV=>
bT bV false (fun t24=>
Nil a0 fun cD=>
aa 1 cD fun cM=>
Ld dm cM fun cP=>
aa 0 (pt jd) fun dc=>
Ld dm dc fun cL=>
ai 1 cP cL fun v30=>
Ld dm v30 fun dW=>
Nil a0 fun dV=>
aa 1 dV fun eZ=>
Ld dm eZ fun eP=>
ai 1 eP w6 fun eW=>
Ld dm eW fun dn=>
ae .num .lss dW dn fun dU=>
(dm=dm∧dU=Value.bool t24)) (fun t24=>(Value.bool true)=Value.bool t24) fun t24=>∀aha:Fr,
(dm=dm∧(Value.bool t24)=Value.bool t22)) (fun t22=>(Value.bool false)=Value.bool t22) fun t22=>∀Th:Fr,
Br (Value.bool t22) (
aa 0 (pt jd) fun gj=>
Ld dm gj fun fD=>
JE J9 [fD] dm) (
JE J9 [w6] dm)) (
R (.returned w6) H5)
theorem CY(h:L266 g a0 a1 H R):ag Tryz.prog g 266 #[a0,a1] H R:=
 aj (hn:=(.n .e (.n .e (.n (.n .e (.n (.h 0 [5,10] [0,8,9] (.n .e (.n .e (.h 1 [5] [0,8,9,10] .e .e))) .e) .e)) .e)))) Tryz.func266 h (by kernel_rfl)
def L267(g:Gh)(a0 a1 a2 a3:Value)(H:Hp)(R:Rt):Prop:=
ae .num .eql a2 a3 fun v1=>
Br v1 (
R (.returned (.tuple #[a2,(iv 0)])) H) (
Nil a0 fun v2=>
aa 0 v2 fun v3=>
Ld H v3 fun v4=>
CF g 164 #[v4,a1,a2,a3] H (fun v5 H6=>
Ext 0 v5 fun v7=>
Ext 1 v5 fun v8=>
∀J9:Jt,(∀dy:Hp,(∀tf:Fr,
R (.returned (.tuple #[(Value.int .u32 0),v8])) dy)→J9 [] dy)→
ae .num .eql v8 (iv 0) fun bf=>
Br bf (
Nil a0 fun aZ=>
aa 2 aZ fun bh=>
Ld H6 bh fun bA=>
av Tryz.prog 27 1 [(0,v7)] H6 fun bu eO=>
App Tryz.prog 77 1 4 (Value.int .u32 0) eO bA bu fun v20 fm=>
Nil a0 fun cq=>
aa 2 cq fun bV=>
St 1 fm bV v20 fun gv=>
R (.returned (.tuple #[v7,(iv 0)])) gv) (
ae .num .eql v8 (iv 8) fun cD=>
Br cD (
Nil a0 fun cM=>
aa 0 cM fun cP=>
Ld H6 cP fun dc=>
CF g 276 #[dc,a1,a2,a3] H6 (fun cL kf=>
Ext 0 cL fun dW=>
Ext 1 cL fun dV=>
Br dV (
R (.returned (.tuple #[dW,(iv 0)])) kf) (
JE J9 [] kf)) (au R)) (
JE J9 [] H6))) (au R))
theorem tT(h:L267 g a0 a1 a2 a3 H R):ag Tryz.prog g 267 #[a0,a1,a2,a3] H R:=
 aj (hn:=(hN 3 (.h 1 [] [11] .e .e))) Tryz.func267 h (by kernel_rfl)
def L268(g:Gh)(a0 a1:Value)(H:Hp)(R:Rt):Prop:=
aX H (.cells (Value.cells a0) 26 (0,0)) fun b1 H2=>
Ld H2 (pt b1) fun v3=>
lD H2 fun v4 H5=>
Build Tryz.prog 350 [(0,v3),(1,v4)] fun v6=>
aX H5 (.cells (Value.cells v6) 350 (0,0)) fun b7 H8=>
aX H8 (.cells #[(.pointer none)] 344 (0,0)) fun b9 di=>
St 1 di (pt b9) (pt b7) fun dy=>
Ld dy (pt b1) fun bf=>
CF g 121 #[bf,(Value.int .u32 1)] dy (fun aZ gg=>
Ld gg (pt b9) fun bA=>
cc Tryz.prog g a1 #[bA] gg (fun bu eO=>
Ld eO (pt b9) fun bX=>
Nil bX fun bP=>
aa 2 bP fun v20=>
Ld eO v20 fun bW=>
ae .num .neq bW (iv 0) fun cq=>
Br cq (
Ld eO (pt b9) fun bV=>
Nil bV fun cy=>
aa 2 cy fun cD=>
Ld eO cD fun cM=>
kx Tryz.prog g 277 #[(pt b9),(pt b1)] eO fun gr=>
R (.returned (.tuple #[(Value.int .u32 0),(Value.bool false),cM])) gr) (
Ld eO (pt b9) fun dc=>
Nil dc fun cL=>
aa 1 cL fun v30=>
Ld eO v30 fun dW=>
qD (.int .u32) (iv 0) false eO dW bu fun dV=>
ae .num .gtr dV (iv 0) fun eZ=>
Br eZ (
Ld eO (pt b9) fun eP=>
Nil eP fun eW=>
aa 1 eW fun dn=>
Ld eO dn fun dU=>
tQ (.int .u32) eO dU bu fun j9=>
kx Tryz.prog g 277 #[(pt b9),(pt b1)] j9 fun u4=>
R (.returned (.tuple #[bu,(Value.bool true),(iv 0)])) u4) (
Ld eO (pt b1) fun gx=>
CF g 121 #[gx,bu] eO (fun gh NF=>
ae .num .eql gh (iv 0) fun g6=>
kx Tryz.prog g 277 #[(pt b9),(pt b1)] NF fun qE=>
R (.returned (.tuple #[bu,g6,(iv 0)])) qE) Ij))) Ij) Ij
theorem CX(h:L268 g a0 a1 H R):ag Tryz.prog g 268 #[a0,a1] H R:=
 wO (hn:=(hN 4 .e)) Tryz.func268 h (by kernel_rfl)
def L269(g:Gh)(a0 a1 a2 a3:Value)(H:Hp)(R:Rt):Prop:=
Ld H a1 fun v1=>
Ld H a2 fun v2=>
CF g 270 #[a0,v1,v2,(.func (.func 271) #[] #[a3])] H (fun v3 H4=>
R (.returned v3) H4) (au R)
theorem CW(h:L269 g a0 a1 a2 a3 H R):ag Tryz.prog g 269 #[a0,a1,a2,a3] H R:=
 aj (hn:=.e) Tryz.func269 h (by kernel_rfl)
def L270(g:Gh)(a0 a1 a2 a3:Value)(H:Hp)(R:Rt):Prop:=
aX H (.cells (Value.cells a0) 344 (0,0)) fun b1 H2=>
aX H2 (.cells (Value.cells a3) 289 (0,0)) fun b3 H4=>
Ld H4 (pt b1) fun v5=>
Nil v5 fun v6=>
aa 0 v6 fun v7=>
Ld H4 v7 fun v8=>
CF g 46 #[v8,a2] H4 (fun v9 di=>
Ext 0 v9 fun v11=>
Ext 1 v9 fun bf=>
aX di (.cells #[(iv 0)] 3 (0,0)) fun eY gg=>
St 1 gg (pt eY) v11 fun dx=>
lD dx fun bu eO=>
aX eO (.cells #[(.map none)] 351 (0,0)) fun oI jh=>
St 1 jh (pt oI) bu fun iy=>
aX iy (.cells #[.nilFunc] 352 (0,0)) fun qA gw=>
St 1 gw (pt qA) (.func (.func 278) #[] #[(pt b1),(pt eY),(pt oI),(pt b3),(pt qA)]) fun kD=>
Ld kD (pt qA) fun cy=>
cc Tryz.prog g cy #[a1] kD (fun cD gI=>
R (.returned cD) gI) (au R)) (au R)
theorem CV(h:L270 g a0 a1 a2 a3 H R):ag Tryz.prog g 270 #[a0,a1,a2,a3] H R:=
 aj (hn:=.e) Tryz.func270 h (by kernel_rfl)
def L271(g:Gh)(a0 a1:Value)(H:Hp)(R:Rt):Prop:=
aX H (.cells (Value.cells a0) 161 (0,0)) fun b1 H2=>
Ld H2 a1 fun v3=>
Br v3 (
aa 2 (pt b1) fun v4=>
Ld H2 v4 fun v5=>
R (.returned v5) H2) (
aa 1 (pt b1) fun v6=>
Ld H2 v6 fun v7=>
R (.returned v7) H2)
theorem CQ(h:L271 g a0 a1 H R):ag Tryz.prog g 271 #[a0,a1] H R:=
 aj (hn:=.e) Tryz.func271 h (by kernel_rfl)
def L272(g:Gh)(a0 a1 a2 a3:Value)(H:Hp)(R:Rt):Prop:=
aX H (.cells (Value.cells a1) 77 (0,0)) fun b1 H2=>
aX H2 (.cells (Value.cells a2) 3 (0,0)) fun b3 H4=>
aX H4 (.cells (Value.cells a3) 4 (0,0)) fun b5 H6=>
CF g 268 #[a0,(.func (.func 281) #[] #[(pt b1),(pt b3),(pt b5)])] H6 (fun v7 H8=>
Ext 0 v7 fun v9=>
Ext 1 v7 fun v10=>
Ext 2 v7 fun v11=>
R (.returned (.tuple #[v9,v10,v11])) H8) (au R)
theorem CK(h:L272 g a0 a1 a2 a3 H R):ag Tryz.prog g 272 #[a0,a1,a2,a3] H R:=
 aj (hn:=.e) Tryz.func272 h (by kernel_rfl)
def L273(g:Gh)(a0:Value)(H:Hp)(R:Rt):Prop:=
CF g 284 #[(.slice none 0 0),a0] H (fun v1 H2=>
R (.returned v1) H2) (au R)
theorem CJ(h:L273 g a0 H R):ag Tryz.prog g 273 #[a0] H R:=
 aj (hn:=.e) Tryz.func273 h (by kernel_rfl)
def L274(g:Gh)(a0:Value)(H:Hp)(R:Rt):Prop:=
aY a0 fun v1=>
aW .u64 v1 fun v2=>
CF g 286 #[v2] H (fun v3 H4=>
CF g 285 #[a0,(iv 0),v1,v3] H4 (fun v5 H6=>
R (.returned (.tuple #[])) H6) (au R)) (au R)
theorem CI(h:L274 g a0 H R):ag Tryz.prog g 274 #[a0] H R:=
 aj (hn:=.e) Tryz.func274 h (by kernel_rfl)
def L277(g:Gh)(a0 a1:Value)(H:Hp)(R:Rt):Prop:=
Ld H a0 fun v1=>
Nil v1 fun v2=>
aa 1 v2 fun v3=>
Ld H v3 fun v4=>
UF H v4 fun v5 H6=>
∃(I7:Jt) (m8:Mt),JE I7 [] H6∧∀di:Hp,I7 [] di→∀Tf:Fr,
TK di v5 fun v11 dz=>
Ext 0 v11 fun aZ=>
Br aZ (
I0 dz v5 fun bh=>
Ext 0 bh fun bA=>
Ld dz a1 fun bu=>
CF g 131 #[bu,bA] dz (fun bF dm=>
aD I7 m8 [] dm [] di) (au R)) (
R (.returned (.tuple #[])) dz)
theorem Ak(h:L277 g a0 a1 H R):jz Tryz.prog g 277 #[a0,a1] H R:=
 wP (hn:=(.n .e (.n (.h 0 [] [1,7] .e .e) .e))) Tryz.func277 h (by kernel_rfl)
def L278(g:Gh)(a0 a1 a2 a3 a4 a5:Value)(H:Hp)(R:Rt):Prop:=
Ld H a1 fun v1=>
CF g 279 #[v1,a0] H (fun v2 H3=>
Ext 0 v2 fun v4=>
Ext 1 v2 fun v5=>
aX H3 (.cells #[(iv 0),(Value.int .u32 0),(Value.int .u32 0)] 161 (0,0)) fun b6 H7=>
St 3 H7 (pt b6) v4 fun H8=>
Ld H8 a2 fun v9=>
ae .num .gtr v5 v9 fun v10=>
bT v10 false (fun t11=>
Ld H8 a1 fun bf=>
Nil bf fun aZ=>
aa 2 aZ fun bh=>
Ld H8 bh fun bA=>
ae .num .neq bA (iv 0) fun bu=>
(H8=H8∧bu=Value.bool t11)) (fun t11=>(Value.bool true)=Value.bool t11) fun t11=>∀Pc:Fr,
Br (Value.bool t11) (
R (.returned a0) H8) (
Ld H8 a3 fun bX=>
qD (.int .u32) (Value.int .u32 0) true H8 bX a0 fun bP=>
Ext 0 bP fun v20=>
Ext 1 bP fun bW=>
Br bW (
R (.returned v20) H8) (
∀TP:Jt,(∀lS:Value,∀gv:Hp,(∀Pa:Fr,
Ld gv a3 fun cM=>
fB (.int .u32) gv cM a0 lS fun gr=>
R (.returned lS) gr)→TP [lS] gv)→
Ld H8 a2 fun dc=>
ae .num .eql v5 dc fun cL=>
Br cL (
Ld H8 a4 fun v30=>
aC 3 H8 (pt b6) fun dW=>
cc Tryz.prog g v30 #[dW] H8 (fun dV iH=>
JE TP [dV] iH) (au R)) (
Ld H8 a5 fun eP=>
aa 1 (pt b6) fun eW=>
Ld H8 eW fun dn=>
cc Tryz.prog g eP #[dn] H8 (fun dU pW=>
DR pW fun PV=>
Ld PV a1 fun gj=>
aa 0 (pt b6) fun fD=>
Ld PV fD fun gx=>
Ld PV a5 fun gh=>
aa 2 (pt b6) fun gA=>
Ld PV gA fun g6=>
cc Tryz.prog g gh #[g6] pW (fun gN Ju=>
aQ Ju PV∧
CF g 280 #[gj,gx,dU,gN] Ju (fun iz q7=>
aQ q7 PV∧
JE TP [iz] q7) br) br) (au R))))) (au R)
theorem CG(h:L278 g a0 a1 a2 a3 a4 a5 H R):ag Tryz.prog g 278 #[a0,a1,a2,a3,a4,a5] H R:=
 aj (hn:=(.n .e (.n .e (.n (.n (.h 0 [] [1] .e .e) .e) (.n .e (.n .e (.h 1 [12] [0,3] (hN 3 (.h 0 [0,1,2,3,4,5,6,7,8,9] [] .e .e)) .e))))))) Tryz.func278 h (by kernel_rfl)
def L279(g:Gh)(a0 a1:Value)(H:Hp)(R:Rt):Prop:=
aX H (.cells #[(iv 0),(Value.int .u32 0),(Value.int .u32 0)] 161 (0,0)) fun b1 H2=>
Nil a0 fun v3=>
aa 0 v3 fun v4=>
Ld H2 v4 fun v5=>
CF g 97 #[v5,a1] H2 (fun v6 H7=>
Ext 0 v6 fun v8=>
Ext 1 v6 fun v9=>
aX H7 (.cells #[(iv 0),(Value.int .u32 0),(Value.int .u32 0)] 161 (0,0)) fun xQ dy=>
St 3 dy (pt xQ) v8 fun dz=>
DR dz fun TJ=>
aC 3 TJ (pt xQ) fun bh=>
aC 3 TJ (pt xQ) fun bA=>
CF g 287 #[a0,bA] dz (fun bu eO=>
aQ eO TJ∧
St 3 eO (pt b1) bh fun dm=>
aQ dm TJ∧
aC 3 dm (pt b1) fun bP=>
R (.returned (.tuple #[bP,bu])) dm) br) (au R)
theorem CE(h:L279 g a0 a1 H R):ag Tryz.prog g 279 #[a0,a1] H R:=
 aj (hn:=(.n .e (.n .e (.n (.h 0 [0,1,2,3,4,5] [] .e .e) .e)))) Tryz.func279 h (by kernel_rfl)
def L280(g:Gh)(a0 a1 a2 a3:Value)(H:Hp)(R:Rt):Prop:=
Nil a0 fun v1=>
aa 2 v1 fun v2=>
Ld H v2 fun v3=>
ae .num .neq v3 (iv 0) fun v4=>
Br v4 (
R (.returned (Value.int .u32 0)) H) (
Nil a0 fun v5=>
aa 0 v5 fun v6=>
Ld H v6 fun v7=>
CF g 164 #[v7,a1,a2,a3] H (fun v8 H9=>
Ext 0 v8 fun v10=>
Ext 1 v8 fun v11=>
∀XM:Jt,(∀rJ:Value,∀gg:Hp,(∀Tq:Fr,
R (.returned rJ) gg)→XM [rJ] gg)→
ae .num .eql v11 (iv 8) fun bu=>
Br bu (
Nil a0 fun bF=>
aa 0 bF fun bX=>
Ld H9 bX fun bP=>
CF g 276 #[bP,a1,a2,a3] H9 (fun v20 fm=>
Ext 0 v20 fun cq=>
Ext 1 v20 fun bV=>
JE XM [cq] fm) (au R)) (
ae .num .neq v11 (iv 0) fun cy=>
Br cy (
Nil a0 fun cD=>
aa 2 cD fun cM=>
St 1 H9 cM v11 fun gr=>
JE XM [v10] gr) (
ae .num .leq v10 (Value.int .u32 1) fun dc=>
bT dc false (fun t29=>
Nil a0 fun v30=>
aa 1 v30 fun dW=>
Ld H9 dW fun dV=>
qD (.int .u32) (iv 0) false H9 dV v10 fun eZ=>
ae .num .gtr eZ (iv 0) fun eP=>
(H9=H9∧eP=Value.bool t29)) (fun t29=>(Value.bool true)=Value.bool t29) fun t29=>∀abv:Fr,
Br (Value.bool t29) (
Nil a0 fun dn=>
aa 0 dn fun dU=>
Ld H9 dU fun gk=>
CF g 131 #[gk,v10] H9 (fun gi j9=>
JE XM [v10] j9) (au R)) (
Nil a0 fun fD=>
aa 1 fD fun gx=>
Ld H9 gx fun gh=>
fB (.int .u32) H9 gh v10 (iv 1) fun NF=>
JE XM [v10] NF)))) (au R))
theorem tS(h:L280 g a0 a1 a2 a3 H R):ag Tryz.prog g 280 #[a0,a1,a2,a3] H R:=
 aj (hn:=(hN 3 (.h 1 [9] [] (.n (hN 4 (.n (.h 0 [] [1] .e .e) .e)) .e) .e))) Tryz.func280 h (by kernel_rfl)
def L281(g:Gh)(a0 a1 a2 a3:Value)(H:Hp)(R:Rt):Prop:=
aX H (.cells (Value.cells a0) 344 (0,0)) fun b1 H2=>
Ld H2 (pt b1) fun v3=>
Ld H2 a1 fun v4=>
Ld H2 a2 fun v5=>
CF g 270 #[v3,v4,v5,(.func (.func 282) #[] #[(pt b1),a3])] H2 (fun v6 H7=>
R (.returned v6) H7) (au R)
theorem CD(h:L281 g a0 a1 a2 a3 H R):ag Tryz.prog g 281 #[a0,a1,a2,a3] H R:=
 aj (hn:=.e) Tryz.func281 h (by kernel_rfl)
def L282(g:Gh)(a0 a1 a2:Value)(H:Hp)(R:Rt):Prop:=
aX H (.cells (Value.cells a0) 161 (0,0)) fun b1 H2=>
Ld H2 a1 fun v3=>
aa 1 (pt b1) fun v4=>
Ld H2 v4 fun v5=>
aa 2 (pt b1) fun v6=>
Ld H2 v6 fun v7=>
Ld H2 a2 fun v8=>
CF g 283 #[v3,v5,v7,v8] H2 (fun v9 di=>
R (.returned v9) di) (au R)
theorem CC(h:L282 g a0 a1 a2 H R):ag Tryz.prog g 282 #[a0,a1,a2] H R:=
 aj (hn:=.e) Tryz.func282 h (by kernel_rfl)
def L283(g:Gh)(a0 a1 a2 a3:Value)(H:Hp)(R:Rt):Prop:=
aX H (.cells (Value.cells a0) 344 (0,0)) fun b1 H2=>
aX H2 (.cells #[(Value.int .u32 0)] 77 (0,0)) fun b3 H4=>
aX H4 (.cells #[(Value.int .u32 0)] 77 (0,0)) fun b5 H6=>
St 1 H6 (pt b3) (Value.int .u32 0) fun H7=>
St 1 H7 (pt b5) (Value.int .u32 1) fun H8=>
∀J9:Jt,(∀dy:Hp,(∀tf:Fr,
lD dy fun bf fg=>
aX fg (.cells #[(.map none)] 360 (0,0)) fun oJ dx=>
St 1 dx (pt oJ) bf fun kg=>
aX kg (.cells #[.nilFunc] 361 (0,0)) fun lQ dm=>
St 1 dm (pt lQ) (.func (.func 288) #[] #[(pt b3),(pt b5),(pt b1),(pt oJ),(pt lQ)]) fun jh=>
Ld jh (pt lQ) fun v20=>
cc Tryz.prog g v20 #[a1,a2] jh (fun bW gw=>
R (.returned bW) gw) (au R))→J9 [] dy)→
Br a3 (
St 1 H8 (pt b3) (Value.int .u32 1) fun kD=>
St 1 kD (pt b5) (Value.int .u32 0) fun gv=>
JE J9 [] gv) (
JE J9 [] H8)
theorem CB(h:L283 g a0 a1 a2 a3 H R):ag Tryz.prog g 283 #[a0,a1,a2,a3] H R:=
 aj (hn:=(.n .e (.n .e (.h 1 [] [1,2,4,9,10] .e .e)))) Tryz.func283 h (by kernel_rfl)
def L285(g:Gh)(a0 a1 a2 a3:Value)(H:Hp)(R:Rt):Prop:=
∃(I1:Jt) (m2:Mt),JE I1 [a1,a2,a3,(Value.bool true),(Value.bool true)] H∧∀w5 w6 w7 w8 w9:Value,∀H4:Hp,I1 [w5,w6,w7,w8,w9] H4→∀WY:Fr,
ae .num .sub w6 w5 fun v10=>
ae .num .leq v10 (iv 12) fun v11=>
Br v11 (
CF g 289 #[a0,w5,w6] H4 (fun bf fg=>
R (.returned (.tuple #[])) fg) (au R)) (
ae .num .eql w7 (iv 0) fun bh=>
Br bh (
CF g 290 #[a0,w5,w6] H4 (fun bA kg=>
R (.returned (.tuple #[])) kg) (au R)) (
∀xW:Jt,(∀nN:Value,∀jh:Hp,(∀Pb:Fr,
CF g 292 #[a0,w5,w6] jh (fun bW gw=>
Ext 0 bW fun bV=>
Ext 1 bW fun cy=>
∀Ny:Jt,(∀EX Gx:Value,∀gr:Hp,(∀Tl:Fr,
∀XJ:Jt,(∀oM:Hp,(∀abx:Fr,
∀Jo:Jt,(∀UU:Value,∀nA:Hp,(∀abw:Fr,
Br UU (
CF g 296 #[a0,w5,w6,EX] nA (fun dU pW=>
aD I1 m2 [dU,w6,nN,w8,w9] pW [w5,w6,w7,w8,w9] H4) (au R)) (
CF g 297 #[a0,w5,w6,EX] nA (fun gi j9=>
Ext 0 gi fun fD=>
Ext 1 gi fun gx=>
ae .num .sub fD w5 fun gh=>
ae .num .sub w6 fD fun gA=>
ae .num .quo v10 (iv 8) fun g6=>
ae .num .lss gh gA fun gN=>
Br gN (
ae .num .geq gh g6 fun jA=>
CF g 285 #[a0,w5,fD,nN] j9 (fun iz q7=>
ae .num .add fD (iv 1) fun kG=>
aD I1 m2 [kG,w6,nN,jA,gx] q7 [w5,w6,w7,w8,w9] H4) (au R)) (
ae .num .geq gA g6 fun jM=>
ae .num .add fD (iv 1) fun lT=>
CF g 285 #[a0,lT,w6,nN] j9 (fun uE Jr=>
aD I1 m2 [w5,fD,nN,jM,gx] Jr [w5,w6,w7,w8,w9] H4) (au R))) (au R)))→Jo [UU] nA)→
DR oM fun R55=>
ae .num .gtr w5 (iv 0) fun r9=>
Br r9 (
ae .num .sub w5 (iv 1) fun rK=>
ai 1 a0 rK fun wA=>
Ld R55 wA fun rj=>
ai 1 a0 EX fun ri=>
Ld R55 ri fun r8=>
∀F62:Hp,
CF (g.add F62) 295 #[rj,r8] oM (fun rh Gi=>
Un .not rh fun q9=>
aF (Value.bool true) q9 (Value.bool false) fun uD=>
JE Jo [uD] Gi) br) (
JE Jo [(Value.bool false)] oM))→XJ [] oM)→
bT w8 true (fun t67=>
(gr=gr∧w9=Value.bool t67)) (fun t67=>(Value.bool false)=Value.bool t67) fun t67=>∀abn:Fr,
bT (Value.bool t67) true (fun t69=>
ae .num .eql Gx (iv 1) fun uf=>
(gr=gr∧uf=Value.bool t69)) (fun t69=>(Value.bool false)=Value.bool t69) fun t69=>∀abm:Fr,
Br (Value.bool t69) (
CF g 294 #[a0,w5,w6] gr (fun uA wu=>
Br uA (
R (.returned (.tuple #[])) wu) (
JE XJ [] wu)) (au R)) (
JE XJ [] gr))→Ny [EX,Gx] gr)→
ae .num .eql cy (iv 2) fun JJ=>
Br JJ (
CF g 293 #[a0,w5,w6] gw (fun uz ud=>
ae .num .sub w6 (iv 1) fun AS=>
ae .num .sub bV w5 fun uy=>
ae .num .sub AS uy fun ux=>
JE Ny [ux,(iv 1)] ud) (au R)) (
JE Ny [bV,cy] gw)) (au R))→xW [nN] jh)→
Un .not w8 fun E0=>
Br E0 (
CF g 291 #[a0,w5,w6] H4 (fun As H82=>
ae .num .sub w7 (iv 1) fun GC=>
JE xW [GC] H82) (au R)) (
JE xW [w7] H4)))
theorem tR(h:L285 g a0 a1 a2 a3 H R):ag Tryz.prog g 285 #[a0,a1,a2,a3] H R:=
 aj (hn:=(.n .e (.n .e (.n (.h 0 [1,2,3,8,9] [0] (.n (hN 3 (.h 1 [3] [0,1,2,8,9,10] .e (.n .e (.h 1 [11,12] [0,1,2,3,8,9,10] .e (.h 1 [] [0,1,2,3,8,9,10,11] (.n (.h 0 [] [1] .e .e) .e) (.n (.h 1 [87] [0,1,2,3,8,9,10,11] (.h 1 [] [] (hr 0 [] 0 2 (.h 2 [2] [] (hr 0 [] 3 12 .e) (hr 0 [] 3 11 (.h 3 [14] [] .e .e)))) .e) .e) .e)))))) .e) .e) .e)))) Tryz.func285 h (by kernel_rfl)
def L286(g:Gh)(a0:Value)(H:Hp)(R:Rt):Prop:=
Br (Value.bool false) (
aW .u32 a0 fun v1=>
CF g 298 #[v1] H (fun v2 H3=>
R (.returned v2) H3) (au R)) (
CF g 75 #[a0] H (fun v4 H5=>
R (.returned v4) H5) (au R))
theorem Cz(h:L286 g a0 H R):ag Tryz.prog g 286 #[a0] H R:=
 aj (hn:=.e) Tryz.func286 h (by kernel_rfl)
def L287(g:Gh)(a0 a1:Value)(H:Hp)(R:Rt):Prop:=
aX H (.cells (Value.cells a1) 161 (0,0)) fun b1 H2=>
aa 0 (pt b1) fun v3=>
Ld H2 v3 fun v4=>
ae .num .lss v4 (iv 0) fun v5=>
Br v5 (
Nil a0 fun v6=>
aa 0 v6 fun v7=>
Ld H2 v7 fun v8=>
CF g 61 #[v8] H2 (fun v9 di=>
R (.returned v9) di) (au R)) (
DR H2 fun UJ=>
Nil a0 fun bf=>
aa 0 bf fun aZ=>
Ld UJ aZ fun bh=>
aa 0 (pt b1) fun bA=>
Ld UJ bA fun bu=>
CF g 46 #[bh,bu] H2 (fun bF dm=>
aQ dm UJ∧
Ext 0 bF fun bP=>
Ext 1 bF fun v20=>
R (.returned bP) dm) br)
theorem Cy(h:L287 g a0 a1 H R):ag Tryz.prog g 287 #[a0,a1] H R:=
 aj (hn:=(.n .e (.n .e (.n (.h 0 [0,1,2,3,4,5,6,7,8,9,10,11] [] .e .e) .e)))) Tryz.func287 h (by kernel_rfl)
def L288(g:Gh)(a0 a1 a2 a3 a4 a5 a6:Value)(H:Hp)(R:Rt):Prop:=
Ld H a2 fun v1=>
ae .num .eql a0 v1 fun v2=>
bT v2 false (fun t3=>
Ld H a2 fun v4=>
ae .num .eql a1 v4 fun v5=>
(H=H∧v5=Value.bool t3)) (fun t3=>(Value.bool true)=Value.bool t3) fun t3=>∀Tg:Fr,
Br (Value.bool t3) (
Ld H a2 fun v7=>
R (.returned v7) H) (
Ld H a3 fun v8=>
ae .num .eql a0 v8 fun v9=>
bT v9 false (fun t10=>
ae .num .eql a0 a1 fun v11=>
(H=H∧v11=Value.bool t10)) (fun t10=>(Value.bool true)=Value.bool t10) fun t10=>∀LZ:Fr,
Br (Value.bool t10) (
R (.returned a1) H) (
Ld H a3 fun aZ=>
ae .num .eql a1 aZ fun bh=>
Br bh (
R (.returned a0) H) (
Ld H a4 fun bA=>
Nil bA fun bu=>
aa 2 bu fun bF=>
Ld H bF fun bX=>
ae .num .neq bX (iv 0) fun bP=>
Br bP (
R (.returned (Value.int .u32 0)) H) (
TL a0 a1 fun v20=>
MT a0 a1 fun bW=>
Build Tryz.prog 363 [(0,v20),(1,bW)] fun cq=>
aX H (.cells #[(Value.int .u32 0),(Value.int .u32 0)] 363 (0,0)) fun F3 gv=>
St 2 gv (pt F3) cq fun gu=>
Ld gu a5 fun cM=>
aC 2 gu (pt F3) fun cP=>
je Tryz.prog 363 (Value.int .u32 0) true gu cM cP fun dc=>
Ext 0 dc fun cL=>
Ext 1 dc fun v30=>
Br v30 (
R (.returned cL) gu) (
Ld gu a4 fun dW=>
CF g 279 #[dW,a0] gu (fun dV iH=>
Ext 0 dV fun eP=>
Ext 1 dV fun eW=>
aX iH (.cells #[(iv 0),(Value.int .u32 0),(Value.int .u32 0)] 161 (0,0)) fun Ie pX=>
St 3 pX (pt Ie) eP fun pW=>
Ld pW a4 fun gi=>
CF g 279 #[gi,a1] pW (fun gj u4=>
Ext 0 gj fun gx=>
Ext 1 gj fun gh=>
aX u4 (.cells #[(iv 0),(Value.int .u32 0),(Value.int .u32 0)] 161 (0,0)) fun Ic Jv=>
St 3 Jv (pt Ic) gx fun qE=>
aa 0 (pt Ie) fun jA=>
Ld qE jA fun iz=>
∀XG:Jt,(∀w52:Value,∀ND:Hp,(∀ag8:Fr,
∀XF:Jt,(∀P2:Hp,(∀ag6:Fr,
∀XE:Jt,(∀uu:Hp,(∀abp:Fr,
Ld uu a6 fun rj=>
aa 1 (pt Ie) fun ri=>
Ld uu ri fun r8=>
aa 1 (pt Ic) fun vb=>
Ld uu vb fun rh=>
cc Tryz.prog g rj #[r8,rh] uu (fun yo H65=>
DR H65 fun UG=>
Ld UG a4 fun wz=>
Ld UG a6 fun uC=>
aa 2 (pt Ie) fun uB=>
Ld UG uB fun uf=>
aa 2 (pt Ic) fun ym=>
Ld UG ym fun uA=>
cc Tryz.prog g uC #[uf,uA] H65 (fun GD UP=>
aQ UP UG∧
CF g 280 #[wz,w52,yo,GD] UP (fun uz ud=>
aQ ud UG∧
Ld ud a5 fun AS=>
aC 2 ud (pt F3) fun uy=>
gL Tryz.prog 363 ud AS uy uz fun H79=>
R (.returned uz) H79) br) br) (au R))→XE [] uu)→
ae .num .gtr gh eW fun E0=>
Br E0 (
aa 1 (pt Ic) fun As=>
St 1 P2 As a1 fun H82=>
aa 2 (pt Ic) fun GC=>
St 1 H82 GC a1 fun H84=>
JE XE [] H84) (
JE XE [] P2))→XF [] P2)→
ae .num .gtr eW gh fun u7=>
Br u7 (
aa 1 (pt Ie) fun GB=>
St 1 ND GB a0 fun NA=>
aa 2 (pt Ie) fun GA=>
St 1 NA GA a0 fun H89=>
JE XF [] H89) (
JE XF [] ND))→XG [w52] ND)→
ae .num .lss gh eW fun AR=>
Br AR (
aa 0 (pt Ic) fun x9=>
Ld qE x9 fun AQ=>
JE XG [AQ] qE) (
JE XG [iz] qE)) (au R)) (au R))))))
theorem Cw(h:L288 g a0 a1 a2 a3 a4 a5 a6 H R):ag Tryz.prog g 288 #[a0,a1,a2,a3,a4,a5,a6] H R:=
 aj (hn:=(.n .e (.n (.n (.n (.h 0 [] [1] .e .e) (.n .e (.n (.h 0 [] [1] .e .e) .e))) .e) (hN 5 (.h 1 [17] [0,1,4,5,6,10,13,14,15,16] .e (.h 1 [] [1,4,5,6,10,13,14,15,16,17] .e (.h 1 [] [4,5,6,10,13,15,17] .e (.n .e (.n (.h 0 [0,1,2,3,4,5,6,7,8,9,10] [] .e .e) .e))))))))) Tryz.func288 h (by kernel_rfl)
def L289(g:Gh)(a0 a1 a2:Value)(H:Hp)(R:Rt):Prop:=
ae .num .add a1 (iv 1) fun v1=>
∃(I2:Jt) (m3:Mt),JE I2 [v1] H∧∀w6:Value,∀H5:Hp,I2 [w6] H5→∀Jl:Fr,
ae .num .lss w6 a2 fun v7=>
Br v7 (
∃(I8:Jt) (m9:Mt),JE I8 [w6] H5∧∀fL:Value,∀dy:Hp,I8 [fL] dy→∀tf:Fr,
∀An:Jt,(∀g8:Value,∀dx:Hp,(∀rC:Fr,
Br g8 (
DR dx fun R17=>
ae .num .sub fL (iv 1) fun bX=>
ae .num .sub fL (iv 1) fun bP=>
ai 1 a0 bP fun v20=>
Ld R17 v20 fun bW=>
ai 1 a0 fL fun cq=>
Ld R17 cq fun bV=>
ai 1 a0 fL fun cy=>
St 1 dx cy bW fun gu=>
ai 1 a0 bX fun cM=>
St 1 gu cM bV fun gr=>
ae .num .sub fL (iv 1) fun dc=>
aD I8 m9 [dc] gr [fL] dy) (
ae .num .add w6 (iv 1) fun cL=>
aD I2 m3 [cL] dx [w6] H5))→An [g8] dx)→
DR dy fun R30=>
ae .num .gtr fL a1 fun dW=>
Br dW (
ai 1 a0 fL fun dV=>
Ld R30 dV fun eZ=>
ae .num .sub fL (iv 1) fun eP=>
ai 1 a0 eP fun eW=>
Ld R30 eW fun dn=>
∀F37:Hp,
CF (g.add F37) 295 #[eZ,dn] dy (fun gk Gj=>
aF (Value.bool true) gk (Value.bool false) fun gj=>
JE An [gj] Gj) br) (
JE An [(Value.bool false)] dy)) (
R (.returned (.tuple #[])) H5)
theorem Cv(h:L289 g a0 a1 a2 H R):ag Tryz.prog g 289 #[a0,a1,a2] H R:=
 aj (hn:=(.n .e (.n (.h 0 [6] [0,1,2] (.n .e (.n (.n (.n .e (.n (.h 0 [7] [0,1,2,6] (.n (.h 1 [30] [0,1,2,6,7] (.h 1 [] [] (hr 0 [] 0 3 (.h 2 [3] [] (hr 0 [] 4 11 .e) (hr 0 [] 4 10 (.h 3 [14] [] .e .e)))) .e) .e) (.n (.n (.h 0 [0,1,2,3,4,5,6,7,8,9,10,11,12,13,14,15,16,17] [] .e .e) .e) .e)) .e) .e)) .e) .e)) .e) .e))) Tryz.func289 h (by kernel_rfl)
def L290(g:Gh)(a0 a1 a2:Value)(H:Hp)(R:Rt):Prop:=
ae .num .sub a2 a1 fun v1=>
ae .num .sub v1 (iv 1) fun v2=>
ae .num .quo v2 (iv 2) fun v3=>
∃(I4:Jt) (m5:Mt),JE I4 [v3] H∧∀w8:Value,∀H7:Hp,I4 [w8] H7→∀Tg:Fr,
ae .num .geq w8 (iv 0) fun v9=>
Br v9 (
CF g 299 #[a0,w8,v1,a1] H7 (fun v10 dy=>
ae .num .sub w8 (iv 1) fun bf=>
aD I4 m5 [bf] dy [w8] H7) (au R)) (
ae .num .sub v1 (iv 1) fun aZ=>
∃(MV:Jt) (Vj:Mt),JE MV [aZ] H7∧∀ji:Value,∀eO:Hp,MV [ji] eO→∀To:Fr,
ae .num .geq ji (iv 0) fun bP=>
Br bP (
DR eO fun AJ=>
ae .num .add a1 ji fun bW=>
ae .num .add a1 ji fun cq=>
ai 1 a0 cq fun bV=>
Ld AJ bV fun cy=>
ai 1 a0 a1 fun cD=>
Ld AJ cD fun cM=>
ai 1 a0 a1 fun cP=>
St 1 eO cP cy fun mO=>
ai 1 a0 bW fun cL=>
St 1 mO cL cM fun kf=>
CF g 299 #[a0,(iv 0),ji,a1] kf (fun dW oM=>
ae .num .sub ji (iv 1) fun eZ=>
aD MV Vj [eZ] oM [ji] eO) (au R)) (
R (.returned (.tuple #[])) eO))
theorem Cu(h:L290 g a0 a1 a2 H R):ag Tryz.prog g 290 #[a0,a1,a2] H R:=
 aj (hn:=(hN 3 (.n (.n .e (.n (.h 0 [9] [0,6,7,8] .e .e) .e)) (.n .e (.n (.h 0 [10] [0,6,7] (.n .e (.n (.n (.n (.h 0 [0,1,2,3,4,5,6,7,8,9,10,11,12,13,14,15,16,17,18,19] [] .e .e) .e) .e) .e)) .e) .e))))) Tryz.func290 h (by kernel_rfl)
def L291(g:Gh)(a0 a1 a2:Value)(H:Hp)(R:Rt):Prop:=
ae .num .sub a2 a1 fun v1=>
ae .num .geq v1 (iv 8) fun v2=>
Br v2 (
aW .u64 v1 fun v3=>
aX H (.cells #[(Value.int .u64 0)] 373 (0,0)) fun b4 H5=>
St 1 H5 (pt b4) v3 fun H6=>
CF g 300 #[v1] H6 (fun v7 H8=>
ae .num .quo v1 (iv 4) fun v9=>
ae .num .mul v9 (iv 2) fun v10=>
ae .num .add a1 v10 fun v11=>
ae .num .sub v11 (iv 1) fun bf=>
∃(TW:Jt) (ZB:Mt),JE TW [bf] H8∧∀qI:Value,∀kg:Hp,TW [qI] kg→∀Tp:Fr,
ae .num .quo v1 (iv 4) fun bX=>
ae .num .mul bX (iv 2) fun bP=>
ae .num .add a1 bP fun v20=>
ae .num .add v20 (iv 1) fun bW=>
ae .num .leq qI bW fun cq=>
Br cq (
CF g 301 #[(pt b4)] kg (fun bV gv=>
ae .num .sub v7 (Value.int .u64 1) fun cD=>
ae .num .and bV cD fun cM=>
aW .i64 cM fun cP=>
∀P1:Jt,(∀T9:Value,∀kf:Hp,(∀Tk:Fr,
DR kf fun R32=>
ae .num .add a1 T9 fun eZ=>
ae .num .add a1 T9 fun eP=>
ai 1 a0 eP fun eW=>
Ld R32 eW fun dn=>
ai 1 a0 qI fun dU=>
Ld R32 dU fun gk=>
ai 1 a0 qI fun gi=>
St 1 kf gi dn fun j9=>
ai 1 a0 eZ fun fD=>
St 1 j9 fD gk fun xY=>
ae .num .add qI (iv 1) fun gh=>
aD TW ZB [gh] xY [qI] kg)→P1 [T9] kf)→
ae .num .geq cP v1 fun gA=>
Br gA (
ae .num .sub cP v1 fun g6=>
JE P1 [g6] gv) (
JE P1 [cP] gv)) (au R)) (
R (.returned (.tuple #[])) kg)) (au R)) (
R (.returned (.tuple #[])) H)
theorem Cr(h:L291 g a0 a1 a2 H R):ag Tryz.prog g 291 #[a0,a1,a2] H R:=
 aj (hn:=(.n .e (.n .e (.n (hN 3 (.n (.h 0 [9] [0,1,6,7,8] (.n .e (.n (.n (.n .e (.h 1 [10] [0,1,6,7,8,9] .e (.h 0 [0,1,2,3,4,5,6,7,8,9,10,11,12,13,14,15,16,17,18,19] [] .e .e))) .e) .e)) .e) .e)) .e)))) Tryz.func291 h (by kernel_rfl)
def L292(g:Gh)(a0 a1 a2:Value)(H:Hp)(R:Rt):Prop:=
ae .num .sub a2 a1 fun v1=>
aX H (.cells #[(iv 0)] 3 (0,0)) fun b2 H3=>
ae .num .quo v1 (iv 4) fun v4=>
ae .num .mul v4 (iv 1) fun v5=>
ae .num .add a1 v5 fun v6=>
ae .num .quo v1 (iv 4) fun v7=>
ae .num .mul v7 (iv 2) fun v8=>
ae .num .add a1 v8 fun v9=>
ae .num .quo v1 (iv 4) fun v10=>
ae .num .mul v10 (iv 3) fun v11=>
ae .num .add a1 v11 fun bf=>
∀An:Jt,(∀g8:Value,∀dx:Hp,(∀rC:Fr,
Ld dx (pt b2) fun bF=>
ae .num .eql bF (iv 0) fun bX=>
Br bX (
R (.returned (.tuple #[g8,(iv 1)])) dx) (
ae .num .eql bF (iv 12) fun bP=>
Br bP (
R (.returned (.tuple #[g8,(iv 2)])) dx) (
R (.returned (.tuple #[g8,(iv 0)])) dx)))→An [g8] dx)→
ae .num .geq v1 (iv 8) fun v20=>
Br v20 (
∀XL:Jt,(∀Jb lS lN:Value,∀kD:Hp,(∀abz:Fr,
CF g 303 #[a0,Jb,lS,lN,(pt b2)] kD (fun cP mO=>
JE An [cP] mO) (au R))→XL [Jb,lS,lN] kD)→
ae .num .geq v1 (iv 50) fun cL=>
Br cL (
CF g 302 #[a0,v6,(pt b2)] H3 (fun v30 jg=>
CF g 302 #[a0,v9,(pt b2)] jg (fun dV iH=>
CF g 302 #[a0,bf,(pt b2)] iH (fun eP nA=>
JE XL [v30,dV,eP] nA) (au R)) (au R)) (au R)) (
JE XL [v6,v9,bf] H3)) (
JE An [v9] H3)
theorem Cq(h:L292 g a0 a1 a2 H R):ag Tryz.prog g 292 #[a0,a1,a2] H R:=
 aj (hn:=(hN 6 (.h 1 [11] [9] (.n .e (.n (.h 1 [10,11,12] [0,9] .e .e) .e)) .e))) Tryz.func292 h (by kernel_rfl)
def L293(g:Gh)(a0 a1 a2:Value)(H:Hp)(R:Rt):Prop:=
ae .num .sub a2 (iv 1) fun v1=>
∃(I2:Jt) (m3:Mt),JE I2 [a1,v1] H∧∀w6 w7:Value,∀H5:Hp,I2 [w6,w7] H5→∀Jl:Fr,
ae .num .lss w6 w7 fun v8=>
Br v8 (
DR H5 fun R9=>
ai 1 a0 w7 fun v10=>
Ld R9 v10 fun v11=>
ai 1 a0 w6 fun bf=>
Ld R9 bf fun aZ=>
ai 1 a0 w6 fun bh=>
St 1 H5 bh v11 fun dx=>
ai 1 a0 w7 fun bu=>
St 1 dx bu aZ fun eO=>
ae .num .add w6 (iv 1) fun bX=>
ae .num .sub w7 (iv 1) fun bP=>
aD I2 m3 [bX,bP] eO [w6,w7] H5) (
R (.returned (.tuple #[])) H5)
theorem Cp(h:L293 g a0 a1 a2 H R):ag Tryz.prog g 293 #[a0,a1,a2] H R:=
 aj (hn:=(.n .e (.n .e (.n (.h 0 [6,7] [0] (.n .e (.n (.n (.h 0 [0,1,2,3,4,5,6,7,8,9,10,11,12,13,14,15] [] .e .e) .e) .e)) .e) .e)))) Tryz.func293 h (by kernel_rfl)
def L294(g:Gh)(a0 a1 a2:Value)(H:Hp)(R:Rt):Prop:=
ae .num .add a1 (iv 1) fun v1=>
∃(I2:Jt) (m3:Mt),JE I2 [v1,(iv 0)] H∧∀w6 w7:Value,∀H5:Hp,I2 [w6,w7] H5→∀Jl:Fr,
ae .num .lss w7 (iv 5) fun v8=>
Br v8 (
∀J9:Jt,(∀fL:Value,∀dy:Hp,(∀tf:Fr,
ae .num .add w7 (iv 1) fun aZ=>
aD I2 m3 [fL,aZ] dy [w6,w7] H5)→J9 [fL] dy)→
∃(MV:Jt) (Vj:Mt),JE MV [w6] H5∧∀ji:Value,∀eO:Hp,MV [ji] eO→∀To:Fr,
∀UO:Jt,(∀n8:Value,∀fm:Hp,(∀Tn:Fr,
Br n8 (
ae .num .add ji (iv 1) fun bV=>
aD MV Vj [bV] fm [ji] eO) (
ae .num .eql ji a2 fun cy=>
Br cy (
R (.returned (Value.bool true)) fm) (
ae .num .sub a2 a1 fun cD=>
ae .num .lss cD (iv 50) fun cM=>
Br cM (
R (.returned (Value.bool false)) fm) (
DR fm fun Gb=>
ae .num .sub ji (iv 1) fun dc=>
ae .num .sub ji (iv 1) fun cL=>
ai 1 a0 cL fun v30=>
Ld Gb v30 fun dW=>
ai 1 a0 ji fun dV=>
Ld Gb dV fun eZ=>
ai 1 a0 ji fun eP=>
St 1 fm eP dW fun nA=>
ai 1 a0 dc fun dn=>
St 1 nA dn eZ fun pX=>
∀ye:Jt,(∀j9:Hp,(∀Th:Fr,
ae .num .sub a2 ji fun fD=>
ae .num .geq fD (iv 2) fun gx=>
Br gx (
ae .num .add ji (iv 1) fun gh=>
∃(I44:Jt) (m45:Mt),JE I44 [gh] j9∧∀Nc:Value,∀Ju:Hp,I44 [Nc] Ju→∀abr:Fr,
ae .num .lss Nc a2 fun k9=>
Br k9 (
DR Ju fun Nx=>
ai 1 a0 Nc fun jM=>
Ld Nx jM fun lT=>
ae .num .sub Nc (iv 1) fun uE=>
ai 1 a0 uE fun wB=>
Ld Nx wB fun oU=>
CF g 295 #[lT,oU] Ju (fun r9 MX=>
Un .not r9 fun wA=>
Br wA (
JE J9 [ji] MX) (
DR MX fun R59=>
ae .num .sub Nc (iv 1) fun ri=>
ae .num .sub Nc (iv 1) fun r8=>
ai 1 a0 r8 fun vb=>
Ld R59 vb fun rh=>
ai 1 a0 Nc fun yo=>
Ld R59 yo fun q9=>
ai 1 a0 Nc fun uD=>
St 1 MX uD rh fun H67=>
ai 1 a0 ri fun uC=>
St 1 H67 uC q9 fun H69=>
ae .num .add Nc (iv 1) fun uf=>
aD I44 m45 [uf] H69 [Nc] Ju)) br) (
JE J9 [ji] Ju)) (
JE J9 [ji] j9))→ye [] j9)→
ae .num .sub ji a1 fun ym=>
ae .num .geq ym (iv 2) fun uA=>
Br uA (
ae .num .sub ji (iv 1) fun GD=>
∃(I74:Jt) (m75:Mt),JE I74 [GD] pX∧∀M8:Value,∀IX:Hp,I74 [M8] IX→∀agZ:Fr,
ae .num .geq M8 (iv 1) fun ux=>
Br ux (
DR IX fun Xo=>
ai 1 a0 M8 fun As=>
Ld Xo As fun uv=>
ae .num .sub M8 (iv 1) fun GC=>
ai 1 a0 GC fun Ar=>
Ld Xo Ar fun u7=>
CF g 295 #[uv,u7] IX (fun GB NA=>
Un .not GB fun GA=>
Br GA (
JE ye [] NA) (
DR NA fun Xn=>
ae .num .sub M8 (iv 1) fun AR=>
ae .num .sub M8 (iv 1) fun x9=>
ai 1 a0 x9 fun AQ=>
Ld Xn AQ fun Ng=>
ai 1 a0 M8 fun Jc=>
Ld Xn Jc fun UW=>
ai 1 a0 M8 fun NJ=>
St 1 NA NJ Ng fun H97=>
ai 1 a0 AR fun JH=>
St 1 H97 JH UW fun H99=>
ae .num .sub M8 (iv 1) fun uG=>
aD I74 m75 [uG] H99 [M8] IX)) br) (
JE ye [] IX)) (
JE ye [] pX)))))→UO [n8] fm)→
DR eO fun Xv=>
ae .num .lss ji a2 fun si=>
Br si (
ai 1 a0 ji fun sg=>
Ld Xv sg fun yq=>
ae .num .sub ji (iv 1) fun wC=>
ai 1 a0 wC fun AY=>
Ld Xv AY fun sb=>
∀acT:Hp,
CF (g.add acT) 295 #[yq,sb] eO (fun uF EM=>
Un .not uF fun JQ=>
aF (Value.bool true) JQ (Value.bool false) fun AX=>
JE UO [AX] EM) br) (
JE UO [(Value.bool false)] eO)) (
R (.returned (Value.bool false)) H5)
theorem Co(h:L294 g a0 a1 a2 H R):ag Tryz.prog g 294 #[a0,a1,a2] H R:=
 aj (hn:=(.n .e (.n .e (.n (.n .e (.n (.h 0 [7,8] [0,1,2] (.n .e (.h 1 [7] [0,1,2,8] (.n (.n (.n (.h 0 [7] [0,1,2,8] (.n (.h 1 [32] [0,1,2,7,8] (.h 1 [] [] (hr 0 [] 0 3 (.h 2 [3] [] (hr 0 [] 4 12 .e) (hr 0 [] 4 11 (.h 3 [15] [] .e .e)))) .e) .e) .e) .e) .e) (.n .e (.n .e (.n (.h 0 [0,1,2,3,4,5,6,7,8,9,10,11,12,13,14,15,16,17] [] .e .e) (.h 1 [] [0,1,2,7,8] (.n .e (.n (.n .e (.n (.h 0 [9] [0,1,2,7,8] (.n .e (.n (.n (.n (.n (.h 0 [0,1,2,3,4,5,6,7,8,9,10] [] .e .e) .e) (.h 0 [0,1,2,3,4,5,6,7,8,9,10,11,12,13,14,15,16,17] [] .e .e)) .e) .e)) .e) .e)) .e)) (.n .e (.n (.n .e (.n (.h 0 [10] [0,1,2,7,8] (.n .e (.n (.n (.n (.n (.h 0 [0,1,2,3,4,5,6,7,8,9,10] [] .e .e) .e) (.h 0 [0,1,2,3,4,5,6,7,8,9,10,11,12,13,14,15,16,17] [] .e .e)) .e) .e)) .e) .e)) .e))))))) .e) .e)) .e) .e)) .e)))) Tryz.func294 h (by kernel_rfl)
def L295(g:Gh)(a0 a1:Value)(H:Hp)(R:Rt):Prop:=
∀J1:Jt,(∀w4:Value,∀H3:Hp,(∀W3:Fr,
R (.returned w4) H3)→J1 [w4] H3)→
CF g 304 #[a0] H (fun v5 H6=>
Split v5 true (
CF g 304 #[a1] H6 (fun v7 H8=>
Un .not v7 fun v9=>
aF (Value.bool true) v9 (Value.bool false) fun v10=>
Split v10 false (
ae .num .lss a0 a1 fun v11=>
aF (Value.bool false) (Value.bool true) v11 fun bf=>
JE J1 [bf] H8) (
aF (Value.bool true) (Value.bool true) undef fun aZ=>
JE J1 [aZ] H8)) (au R)) (
aF (Value.bool false) undef (Value.bool false) fun bh=>
ae .num .lss a0 a1 fun bA=>
aF bh (Value.bool true) bA fun bu=>
JE J1 [bu] H6)) (au R)
theorem Cn(h:L295 g a0 a1 H R):ag Tryz.prog g 295 #[a0,a1] H R:=
 aj (hn:=(.n .e (.h 1 [4] [] .e .e))) Tryz.func295 h (by kernel_rfl)
def L296(g:Gh)(a0 a1 a2 a3:Value)(H:Hp)(R:Rt):Prop:=
DR H fun R1=>
ai 1 a0 a3 fun v2=>
Ld R1 v2 fun v3=>
ai 1 a0 a1 fun v4=>
Ld R1 v4 fun v5=>
ai 1 a0 a1 fun v6=>
St 1 H v6 v3 fun H7=>
ai 1 a0 a3 fun v8=>
St 1 H7 v8 v5 fun H9=>
ae .num .add a1 (iv 1) fun v10=>
ae .num .sub a2 (iv 1) fun v11=>
∃(xX:Jt) (Ol:Mt),JE xX [v10,v11] H9∧∀g8 qI:Value,∀dx:Hp,xX [g8,qI] dx→∀rC:Fr,
∃(MU:Jt) (Vi:Mt),JE MU [g8] dx∧∀n8:Value,∀fm:Hp,MU [n8] fm→∀Tn:Fr,
∀Nz:Jt,(∀lN:Value,∀gu:Hp,(∀Tm:Fr,
Br lN (
ae .num .add n8 (iv 1) fun cP=>
aD MU Vi [cP] gu [n8] fm) (
∃(TS:Jt) (Zw:Mt),JE TS [qI] gu∧∀x7:Value,∀jg:Hp,TS [x7] jg→∀Tj:Fr,
∀Jo:Jt,(∀UU:Value,∀nA:Hp,(∀abw:Fr,
Br UU (
ae .num .sub x7 (iv 1) fun dU=>
aD TS Zw [dU] nA [x7] jg) (
ae .num .gtr n8 x7 fun gk=>
Br gk (
R (.returned n8) nA) (
DR nA fun PV=>
ai 1 a0 x7 fun gj=>
Ld PV gj fun fD=>
ai 1 a0 n8 fun gx=>
Ld PV gx fun gh=>
ai 1 a0 n8 fun gA=>
St 1 nA gA fD fun Jv=>
ai 1 a0 x7 fun gN=>
St 1 Jv gN gh fun Ju=>
ae .num .add n8 (iv 1) fun iz=>
ae .num .sub x7 (iv 1) fun k9=>
aD xX Ol [iz,k9] Ju [g8,qI] dx)))→Jo [UU] nA)→
DR jg fun Nx=>
ae .num .leq n8 x7 fun jM=>
Br jM (
ai 1 a0 a1 fun lT=>
Ld Nx lT fun uE=>
ai 1 a0 x7 fun wB=>
Ld Nx wB fun oU=>
∀F56:Hp,
CF (g.add F56) 295 #[uE,oU] jg (fun rK uu=>
aF (Value.bool true) rK (Value.bool false) fun rj=>
JE Jo [rj] uu) br) (
JE Jo [(Value.bool false)] jg)))→Nz [lN] gu)→
DR fm fun R60=>
ae .num .leq n8 qI fun r8=>
Br r8 (
ai 1 a0 a1 fun vb=>
Ld R60 vb fun rh=>
ai 1 a0 n8 fun yo=>
Ld R60 yo fun q9=>
∀F66:Hp,
CF (g.add F66) 295 #[rh,q9] fm (fun wz UR=>
Un .not wz fun uB=>
aF (Value.bool true) uB (Value.bool false) fun uf=>
JE Nz [uf] UR) br) (
JE Nz [(Value.bool false)] fm)
theorem Cm(h:L296 g a0 a1 a2 a3 H R):ag Tryz.prog g 296 #[a0,a1,a2,a3] H R:=
 aj (hn:=(.n .e (.n (.h 0 [0,1,2,3,4,5,6,7,8,9,10,11,12,13,14,15] [] .e .e) (.n .e (.n (.n (.h 0 [9,10] [0,1] (.n (.n (.n (.h 0 [9] [0,1,10] (.n (.h 1 [43] [0,1,9,10] (.h 1 [] [] (hr 0 [] 0 3 (.h 2 [3] [] (hr 0 [] 4 11 .e) (hr 0 [] 4 10 (.h 3 [14] [] .e .e)))) .e) .e) .e) .e) .e) (.n (.n (.h 0 [10] [0,1,9] (.n (.h 1 [59] [0,1,9,10] (.h 1 [] [] (hr 0 [] 0 3 (.h 2 [3] [] (hr 0 [] 4 10 .e) (hr 0 [] 4 9 (.h 3 [13] [] .e .e)))) .e) .e) .e) .e) .e) (.n .e (.n (.h 0 [0,1,2,3,4,5,6,7,8,9,10,11,12,13,14,15] [] .e .e) .e)))) .e) .e) .e) .e))))) Tryz.func296 h (by kernel_rfl)
def L297(g:Gh)(a0 a1 a2 a3:Value)(H:Hp)(R:Rt):Prop:=
DR H fun R1=>
ai 1 a0 a3 fun v2=>
Ld R1 v2 fun v3=>
ai 1 a0 a1 fun v4=>
Ld R1 v4 fun v5=>
ai 1 a0 a1 fun v6=>
St 1 H v6 v3 fun H7=>
ai 1 a0 a3 fun v8=>
St 1 H7 v8 v5 fun H9=>
ae .num .add a1 (iv 1) fun v10=>
ae .num .sub a2 (iv 1) fun v11=>
∃(xX:Jt) (Ol:Mt),JE xX [v10] H9∧∀g8:Value,∀dx:Hp,xX [g8] dx→∀rC:Fr,
∀xW:Jt,(∀nN:Value,∀jh:Hp,(∀Pb:Fr,
Br nN (
ae .num .add g8 (iv 1) fun bW=>
aD xX Ol [bW] jh [g8] dx) (
∃(TT:Jt) (Zy:Mt),JE TT [v11] jh∧∀lN:Value,∀gu:Hp,TT [lN] gu→∀Tm:Fr,
∀AK:Jt,(∀wy:Value,∀lM:Hp,(∀WZ:Fr,
Br wy (
ae .num .sub lN (iv 1) fun dW=>
aD TT Zy [dW] lM [lN] gu) (
ae .num .gtr g8 lN fun dV=>
Br dV (
DR lM fun UH=>
ai 1 a0 a1 fun eP=>
Ld UH eP fun eW=>
ai 1 a0 lN fun dn=>
Ld UH dn fun dU=>
ai 1 a0 lN fun gk=>
St 1 lM gk eW fun Gj=>
ai 1 a0 a1 fun gj=>
St 1 Gj gj dU fun u4=>
R (.returned (.tuple #[lN,(Value.bool true)])) u4) (
DR lM fun YH=>
ai 1 a0 lN fun gh=>
Ld YH gh fun gA=>
ai 1 a0 g8 fun g6=>
Ld YH g6 fun gN=>
ai 1 a0 g8 fun jA=>
St 1 lM jA gA fun IY=>
ai 1 a0 lN fun k9=>
St 1 IY k9 gN fun MY=>
ae .num .add g8 (iv 1) fun jM=>
ae .num .sub lN (iv 1) fun lT=>
∃(I53:Jt) (m54:Mt),JE I53 [jM,lT] MY∧∀YT X0:Value,∀Jq:Hp,I53 [YT,X0] Jq→∀ag5:Fr,
∃(I59:Jt) (m60:Mt),JE I59 [YT] Jq∧∀M9:Value,∀MW:Hp,I59 [M9] MW→∀WX:Fr,
∀UN:Jt,(∀w67:Value,∀T1:Hp,(∀ag4:Fr,
Br w67 (
ae .num .add M9 (iv 1) fun uC=>
aD I59 m60 [uC] T1 [M9] MW) (
∃(I69:Jt) (m70:Mt),JE I69 [X0] T1∧∀Ja:Value,∀T0:Hp,I69 [Ja] T0→∀abm:Fr,
∀Gg:Jt,(∀US:Value,∀ud:Hp,(∀abl:Fr,
Br US (
ae .num .sub Ja (iv 1) fun uy=>
aD I69 m70 [uy] ud [Ja] T0) (
ae .num .gtr M9 Ja fun ux=>
Br ux (
DR ud fun Xo=>
ai 1 a0 a1 fun As=>
Ld Xo As fun uv=>
ai 1 a0 Ja fun GC=>
Ld Xo GC fun Ar=>
ai 1 a0 Ja fun u7=>
St 1 ud u7 uv fun YM=>
ai 1 a0 a1 fun JI=>
St 1 YM JI Ar fun YL=>
R (.returned (.tuple #[Ja,(Value.bool false)])) YL) (
DR ud fun Xn=>
ai 1 a0 Ja fun AR=>
Ld Xn AR fun x9=>
ai 1 a0 M9 fun AQ=>
Ld Xn AQ fun Ng=>
ai 1 a0 M9 fun Jc=>
St 1 ud Jc x9 fun TY=>
ai 1 a0 Ja fun NJ=>
St 1 TY NJ Ng fun H97=>
ae .num .add M9 (iv 1) fun JH=>
ae .num .sub Ja (iv 1) fun NI=>
aD I53 m54 [JH,NI] H97 [YT,X0] Jq)))→Gg [US] ud)→
DR T0 fun Xw=>
ae .num .leq M9 Ja fun AZ=>
Br AZ (
ai 1 a0 Ja fun si=>
Ld Xw si fun sg=>
ai 1 a0 a1 fun yq=>
Ld Xw yq fun wC=>
∀T3:Hp,
CF (g.add T3) 295 #[sg,wC] T0 (fun sb P3=>
Un .not sb fun uF=>
aF (Value.bool true) uF (Value.bool false) fun Ru=>
JE Gg [Ru] P3) br) (
JE Gg [(Value.bool false)] T0)))→UN [w67] T1)→
DR MW fun Xu=>
ae .num .leq M9 X0 fun AX=>
Br AX (
ai 1 a0 M9 fun JP=>
Ld Xu JP fun AW=>
ai 1 a0 a1 fun AV=>
Ld Xu AV fun Rs=>
∀acS:Hp,
CF (g.add acS) 295 #[AW,Rs] MW (fun GG T2=>
aF (Value.bool true) GG (Value.bool false) fun AU=>
JE UN [AU] T2) br) (
JE UN [(Value.bool false)] MW))))→AK [wy] lM)→
DR gu fun Xt=>
ae .num .leq g8 lN fun JN=>
Br JN (
ai 1 a0 lN fun AT=>
Ld Xt AT fun yp=>
ai 1 a0 a1 fun GF=>
Ld Xt GF fun Rq=>
∀acR:Hp,
CF (g.add acR) 295 #[yp,Rq] gu (fun JM acH=>
Un .not JM fun JL=>
aF (Value.bool true) JL (Value.bool false) fun JK=>
JE AK [JK] acH) br) (
JE AK [(Value.bool false)] gu)))→xW [nN] jh)→
DR dx fun Xs=>
ae .num .leq g8 v11 fun NK=>
Br NK (
ai 1 a0 g8 fun Zd=>
Ld Xs Zd fun Rn=>
ai 1 a0 a1 fun Zc=>
Ld Xs Zc fun Rl=>
∀acQ:Hp,
CF (g.add acQ) 295 #[Rn,Rl] dx (fun Rk acF=>
aF (Value.bool true) Rk (Value.bool false) fun Rj=>
JE xW [Rj] acF) br) (
JE xW [(Value.bool false)] dx)
theorem Ck(h:L297 g a0 a1 a2 a3 H R):ag Tryz.prog g 297 #[a0,a1,a2,a3] H R:=
 aj (hn:=(.n .e (.n (.h 0 [0,1,2,3,4,5,6,7,8,9,10,11,12,13,14,15] [] .e .e) (.n .e (.n (.n (.h 0 [10] [0,1,11] (.n (.h 1 [43] [0,1,10,11] (.h 1 [] [] (hr 0 [] 0 3 (.h 2 [3] [] (hr 0 [] 4 10 .e) (hr 0 [] 4 9 (.h 3 [13] [] .e .e)))) .e) .e) .e) .e) .e) (.n (.n (.h 0 [11] [0,1,10] (.n (.h 1 [60] [0,1,10,11] (.h 1 [] [] (hr 0 [] 0 3 (.h 2 [3] [] (hr 0 [] 4 11 .e) (hr 0 [] 4 10 (.h 3 [14] [] .e .e)))) .e) .e) .e) .e) .e) (.n (.n .e (.n (.n (.h 0 [0,1,2,3,4,5,6,7,8,9,10,11,12,13,14,15] [] .e .e) .e) .e)) (.n (.h 0 [0,1,2,3,4,5,6,7,8,9,10,11,12,13,14,15] [] .e .e) (.n .e (.n .e (.n (.n (.h 0 [10,11] [0,1] (.n (.n (.n (.h 0 [10] [0,1,11] (.n (.h 1 [112] [0,1,10,11] (.h 1 [] [] (hr 0 [] 0 3 (.h 2 [3] [] (hr 0 [] 4 10 .e) (hr 0 [] 4 9 (.h 3 [13] [] .e .e)))) .e) .e) .e) .e) .e) (.n (.n (.h 0 [11] [0,1,10] (.n (.h 1 [129] [0,1,10,11] (.h 1 [] [] (hr 0 [] 0 3 (.h 2 [3] [] (hr 0 [] 4 11 .e) (hr 0 [] 4 10 (.h 3 [14] [] .e .e)))) .e) .e) .e) .e) .e) (.n .e (.n (.h 0 [0,1,2,3,4,5,6,7,8,9,10,11,12,13,14,15] [] .e .e) .e)))) .e) .e) .e) (.n (.h 0 [0,1,2,3,4,5,6,7,8,9,10,11,12,13,14,15] [] .e .e) .e)))))))))))) Tryz.func297 h (by kernel_rfl)
def L299(g:Gh)(a0 a1 a2 a3:Value)(H:Hp)(R:Rt):Prop:=
∃(I1:Jt) (m2:Mt),JE I1 [a1] H∧∀w5:Value,∀H4:Hp,I1 [w5] H4→∀WY:Fr,
ae .num .mul (iv 2) w5 fun v6=>
ae .num .add v6 (iv 1) fun v7=>
ae .num .geq v7 a2 fun v8=>
Br v8 (
R (.returned (.tuple #[])) H4) (
∀J9:Jt,(∀fL:Value,∀dy:Hp,(∀tf:Fr,
DR dy fun TJ=>
ae .num .add a3 w5 fun bh=>
ai 1 a0 bh fun bA=>
Ld TJ bA fun bu=>
ae .num .add a3 fL fun bF=>
ai 1 a0 bF fun bX=>
Ld TJ bX fun bP=>
CF g 295 #[bu,bP] dy (fun v20 fm=>
Un .not v20 fun cq=>
Br cq (
R (.returned (.tuple #[])) fm) (
DR fm fun Q8=>
ae .num .add a3 w5 fun cy=>
ae .num .add a3 fL fun cD=>
ae .num .add a3 fL fun cM=>
ai 1 a0 cM fun cP=>
Ld Q8 cP fun dc=>
ae .num .add a3 w5 fun cL=>
ai 1 a0 cL fun v30=>
Ld Q8 v30 fun dW=>
ai 1 a0 cy fun dV=>
St 1 fm dV dc fun iH=>
ai 1 a0 cD fun eP=>
St 1 iH eP dW fun nA=>
aD I1 m2 [fL] nA [w5] H4)) br)→J9 [fL] dy)→
∀XH:Jt,(∀w39:Value,∀pW:Hp,(∀ahb:Fr,
Br w39 (
ae .num .add v7 (iv 1) fun gj=>
JE J9 [gj] pW) (
JE J9 [v7] pW))→XH [w39] pW)→
DR H4 fun R41=>
ae .num .add v7 (iv 1) fun gx=>
ae .num .lss gx a2 fun gh=>
Br gh (
ae .num .add a3 v7 fun gA=>
ai 1 a0 gA fun g6=>
Ld R41 g6 fun gN=>
ae .num .add a3 v7 fun jA=>
ae .num .add jA (iv 1) fun iz=>
ai 1 a0 iz fun k9=>
Ld R41 k9 fun kG=>
∀F51:Hp,
CF (g.add F51) 295 #[gN,kG] H4 (fun lT Js=>
aF (Value.bool true) lT (Value.bool false) fun wB=>
JE XH [wB] Js) br) (
JE XH [(Value.bool false)] H4))
theorem Cj(h:L299 g a0 a1 a2 a3 H R):ag Tryz.prog g 299 #[a0,a1,a2,a3] H R:=
 aj (hn:=(.n .e (.n (.h 0 [8] [0,2,3] (.n (.n .e (.n .e (.h 1 [9] [0,2,3,8] (.h 1 [36] [0,2,3,8,9] (.h 1 [] [] (hr 0 [] 0 4 (.h 2 [4] [] (hr 0 [] 5 15 .e) (hr 0 [] 5 14 (.h 3 [19] [] .e .e)))) .e) .e) (.n (.n (.h 0 [0,1,2,3,4,5,6,7,8,9,10,11,12,13] [] .e .e) .e) (.n (.h 0 [0,1,2,3,4,5,6,7,8,9,10,11,12,13,14,15,16,17,18,19,20,21,22,23] [] .e .e) .e))))) .e) .e) .e))) Tryz.func299 h (by kernel_rfl)
def L300(g:Gh)(a0:Value)(H:Hp)(R:Rt):Prop:=
aW .u64 a0 fun v1=>
CF g 286 #[v1] H (fun v2 H3=>
ae .num .shl (Value.int .u64 1) v2 fun v4=>
R (.returned v4) H3) (au R)
theorem Ch(h:L300 g a0 H R):ag Tryz.prog g 300 #[a0] H R:=
 aj (hn:=.e) Tryz.func300 h (by kernel_rfl)
def L301(g:Gh)(a0:Value)(H:Hp)(R:Rt):Prop:=
DR H fun R1=>
Nil a0 fun v2=>
Ld R1 v2 fun v3=>
Nil a0 fun v4=>
Ld R1 v4 fun v5=>
ae .num .shl v5 (Value.int .u64 13) fun v6=>
ae .num .xor v3 v6 fun v7=>
Nil a0 fun v8=>
St 1 H v8 v7 fun H9=>
DR H9 fun R10=>
Nil a0 fun v11=>
Ld R10 v11 fun bf=>
Nil a0 fun aZ=>
Ld R10 aZ fun bh=>
ae .num .shr bh (Value.int .u64 7) fun bA=>
ae .num .xor bf bA fun bu=>
Nil a0 fun bF=>
St 1 H9 bF bu fun dm=>
DR dm fun Ai=>
Nil a0 fun v20=>
Ld Ai v20 fun bW=>
Nil a0 fun cq=>
Ld Ai cq fun bV=>
ae .num .shl bV (Value.int .u64 17) fun cy=>
ae .num .xor bW cy fun cD=>
Nil a0 fun cM=>
St 1 dm cM cD fun gr=>
Nil a0 fun dc=>
Ld gr dc fun cL=>
R (.returned cL) gr
theorem Cg(h:L301 g a0 H R):ag Tryz.prog g 301 #[a0] H R:=
 aj (hn:=(.n .e (.n (.h 0 [0,1,2,3,4,5,6,7,8,9] [] .e .e) (.n (.h 0 [0,1,2,3,4,5,6,7,8,9] [] .e .e) (.n (.h 0 [0,1,2,3,4,5,6,7,8,9] [] .e .e) .e))))) Tryz.func301 h (by kernel_rfl)
def L302(g:Gh)(a0 a1 a2:Value)(H:Hp)(R:Rt):Prop:=
ae .num .sub a1 (iv 1) fun v1=>
ae .num .add a1 (iv 1) fun v2=>
CF g 303 #[a0,v1,a1,v2,a2] H (fun v3 H4=>
R (.returned v3) H4) (au R)
theorem Ce(h:L302 g a0 a1 a2 H R):ag Tryz.prog g 302 #[a0,a1,a2] H R:=
 aj (hn:=.e) Tryz.func302 h (by kernel_rfl)
def L303(g:Gh)(a0 a1 a2 a3 a4:Value)(H:Hp)(R:Rt):Prop:=
CF g 305 #[a0,a1,a2,a4] H (fun v1 H2=>
Ext 0 v1 fun v3=>
Ext 1 v1 fun v4=>
CF g 305 #[a0,v4,a3,a4] H2 (fun v5 H6=>
Ext 0 v5 fun v7=>
Ext 1 v5 fun v8=>
CF g 305 #[a0,v3,v7,a4] H6 (fun v9 di=>
Ext 0 v9 fun v11=>
Ext 1 v9 fun bf=>
R (.returned bf) di) (au R)) (au R)) (au R)
theorem Cd(h:L303 g a0 a1 a2 a3 a4 H R):ag Tryz.prog g 303 #[a0,a1,a2,a3,a4] H R:=
 aj (hn:=.e) Tryz.func303 h (by kernel_rfl)
def L304(g:Gh)(a0:Value)(H:Hp)(R:Rt):Prop:=
ae .num .neq a0 a0 fun v1=>
R (.returned v1) H
theorem Cc(h:L304 g a0 H R):ag Tryz.prog g 304 #[a0] H R:=
 aj (hn:=.e) Tryz.func304 h (by kernel_rfl)
def L305(g:Gh)(a0 a1 a2 a3:Value)(H:Hp)(R:Rt):Prop:=
DR H fun R1=>
ai 1 a0 a2 fun v2=>
Ld R1 v2 fun v3=>
ai 1 a0 a1 fun v4=>
Ld R1 v4 fun v5=>
CF g 295 #[v3,v5] H (fun v6 H7=>
Br v6 (
Nil a3 fun v8=>
Ld H7 v8 fun v9=>
ae .num .add v9 (iv 1) fun v10=>
Nil a3 fun v11=>
St 1 H7 v11 v10 fun dz=>
R (.returned (.tuple #[a2,a1])) dz) (
R (.returned (.tuple #[a1,a2])) H7)) br
theorem Cb(h:L305 g a0 a1 a2 a3 H R):ag Tryz.prog g 305 #[a0,a1,a2,a3] H R:=
 aj (hn:=(.n .e (.n (.n (.h 0 [0,1,2,3,4,5,6,7,8] [] .e .e) .e) .e))) Tryz.func305 h (by kernel_rfl)
theorem j6{B:Hp}{s:Value}{n:Int}{K:Value→Hp→Prop}(h:∀b,K (.slice (some ⟨b,0,none⟩) 1 1) ((b,.cells #[.int .i64 n,s] 57 (0,0))::B)):
  av Tryz.prog 28 1 [(0,.agg #[.int .i64 n,s])] B K:=
 av.one (r:=[.int .i64 n,s]) (e:=57) (k:=2) (z:=.agg #[.int .i64 0,.slice none 0 0]) (by kernel_rfl) (by kernel_rfl) (by kernel_rfl) (by decide) rfl h
theorem Bb{G:Nat→Nat}{W:Nat}:((List.range W).map fun k=>if k<W then G k else 0)=(List.range W).map G:=by
 apply List.map_congr_left
 intro k hk
 rw[if_pos (List.mem_range.1 hk)]
theorem rT{n:Nat}{ws:List Nat}(h:an.dj n ws):ws.length≤4294967296:=by have:=h.len;have:=an.r6 h.pc;omega
theorem aH{B:Hp}{s:Value}{ws:List Nat}(h:Words B s ws):s.oneCell'=true:=by obtain⟨a,c,rfl,_⟩:=h.1.shape;rfl
theorem G1{G:Nat→Nat}{W i:Nat}(hi:i<W):(iw ((List.range W).map fun k=>if k<i then G k else 0)).set i ((G i:Nat):Int)=iw ((List.range W).map fun k=>if k<i+1 then G k else 0):=by
 apply List.ext_getElem?
 intro j
 unfold iw
 by_cases e:i=j
 ·subst e;simp[hi]
 ·rw[List.getElem?_set_ne e]
  by_cases hj:j<W
  ·simp only[List.getElem?_map,List.getElem?_range hj,Option.map_some]
   by_cases h2:j<i
   ·rw[if_pos h2,if_pos (by omega)]
   ·rw[if_neg h2,if_neg (by omega)]
  ·rw[List.getElem?_eq_none (by simp;omega),List.getElem?_eq_none (by simp;omega)]
theorem range_zero{G:Nat→Nat}{W:Nat}:List.replicate W (0:Int)=iw ((List.range W).map fun k=>if k<0 then G k else 0):=by
 apply List.ext_getElem?
 intro j
 unfold iw
 by_cases hj:j<W
 ·simp[hj]
 ·rw[List.getElem?_eq_none (by simp;omega),List.getElem?_eq_none (by simp;omega)]
theorem jH{n:Nat}(hn:n≤16):an.wN n≤9223372036854775807∧an.wN n*8≤281474976710656:=by have:=an.r6 hn;omega
def eE(l:List Bool):Array Value:=(l.map Value.bool).toArray
theorem B3(l:List Bool)(i:Nat)(b:Bool):(eE l).setIfInBounds i (.bool b)=eE (l.set i b):=by simp[eE,List.map_set]
theorem Bm(n:Nat):madeCells (Value.cells (.bool false)) (n*1)=eE (List.replicate n false):=by
 apply Array.ext
 ·simp[madeCells,eE]
 ·intro i h1 h2
  simp[madeCells,eE,Value.cells,Nat.mod_one]
def Ao(B:Hp)(v:Value)(l:List Bool):Prop:=Sl 1 B v (l.map fun b=>[Value.bool b])
theorem Ao.block{B:Hp}{b cap:Nat}{l:List Bool}{T:TypeId}{fz:Nat×Nat}(hm:(b,Obj.cells (eE l) T fz)∈B)(hc:l.length≤cap):Ao B (.slice (some ⟨b,0,none⟩) l.length cap) l:=by
 refine⟨fun r hr=>by obtain⟨b,_,rfl⟩:=List.mem_map.1 hr;rfl,.inr ⟨b,0,cap,_,T,fz,by simp,by simpa using hc,hm,by simp[eE],fun i r hi j v hj=>?_⟩⟩
 rw[List.getElem?_map]at hi
 cases hl:l[i]? with
 |none=>rw[hl]at hi;simp at hi
 |some n=>
  rw[hl]at hi
  simp only[Option.map_some,Option.some.injEq]at hi
  subst hi
  cases j with
  |zero=>
   simp only[List.getElem?_cons_zero,Option.some.injEq]at hj
   subst hj
   simp[eE,hl]
  |succ j=>simp at hj
theorem Ao.ld{kd:IntKind}{B H:Hp}{v:Value}{l:List Bool}(h:Ao B v l){i:Nat}{b:Bool}(hi:l[i]? =some b)(hs:∀x∈B,x∈H){K:Value→Prop}(hk:K (.bool b)):ai 1 v (.int kd (i:Int)) (fun p=>Ld H p K):=
 ai.sl h (by rw[List.getElem?_map,hi];rfl) fun p hp=>Ld.at hp hs hk
theorem cX.Mw{H:Hp}{T:TypeId}{kl:IntKind}{n:Nat}{K:Value→Hp→Prop}(bQ:n≤281474976710656)
 (h:∀b,K (.slice (some ⟨b,0,none⟩) n n) ((b,.cells (eE (List.replicate n false)) T (0,0))::H)):cX T 1 1 (.bool false) H (.int kl n) (.int kl n) K:=
 ⟨kl,kl,n,n,rfl,rfl,Nat.le_refl _,by omega,by omega,fun b _=>by rw[Bm];exact h b⟩
theorem St.Mw{H:Hp}{b i:Nat}{l:List Bool}{x:Bool}{T:TypeId}{H':Hp}{K:Hp→Prop}(hu:dR b (.cells (eE l) T (0,0)) (.cells (eE (l.set i x)) T (0,0)) H H')(hi:i<l.length)(h:K H'):
  St 1 H (.pointer (some ⟨b,0+i*1,none⟩)) (.bool x) K:=
 St.one (c:=eE l) (c':=eE (l.set i x)) hu rfl (by simpa[eE]using hi) (by rw[Nat.zero_add,Nat.mul_one];exact B3 l i x) h
def GM(n:Nat)(L:List (List Nat)):List Tb:=L.map fun ws=>⟨n,ws⟩
theorem ob(n:Nat)(L:List (List Nat)):(GM n L).length=L.length:=by simp[GM]
theorem GI(L:List (List Nat)):(an.g9 L).length≤L.length:=by
 have:=an.dF (fun a l=>an.add l a) 1 (fun a l=>an.gE l a) L []
 simpa[an.g9]using this
theorem L3(n u:Nat)(L:List (List Nat)):(an.given n L u).length≤2*L.length:=by
 have h:=an.dF (fun t acc=>an.add (an.add acc (an.fu n t u false)) (an.fu n t u true)) 2 (fun a l=>by have h1:=an.gE (an.add l (an.fu n a u false)) (an.fu n a u true);have h2:=an.gE l (an.fu n a u false);omega) L []
 simpa[an.given]using h
end Go.Proofs
namespace aE
open an
theorem cF{x u v:Nat}{b c:Bool}(h:u≠v):az (az x u b) v c=az (az x v c) u b:=by
 apply Nat.eq_of_testBit_eq;intro k
 rw[aq,aq,aq,aq]
 by_cases e1:k=u<;>by_cases e2:k=v
 ·exact absurd (e1.symm.trans e2) h
 ·simp[e1,h]
 ·simp[e2,Ne.symm h]
 ·simp[e1,e2]
structure Nd where
 v:Nat
 lo:Nat
 hi:Nat
deriving DecidableEq
abbrev eu:=Nat→Option Nd
abbrev Fn:=Nat→Bool
def live(N:eu)(r:Nat):Prop:=r<2∨∃d,N r=some d
def dep(n:Nat)(ah:Nat→Nat)(N:eu)(r:Nat):Nat:=match N r with|some d=>ah d.v|none=>n
structure WF(n:Nat)(ah:Nat→Nat)(N:eu):Prop where
 two:∀{r d},N r=some d→2≤r
 var:∀{r d},N r=some d→d.v<n
 ne:∀{r d},N r=some d→d.lo≠d.hi
 lo:∀{r d},N r=some d→live N d.lo∧ah d.v<dep n ah N d.lo
 hi:∀{r d},N r=some d→live N d.hi∧ah d.v<dep n ah N d.hi
 uq:∀{r r' d},N r=some d→N r'=some d→r=r'
structure j8(n:Nat)(ah:Nat→Nat):Prop where
 lt:∀v,v<n→ah v<n
 inj:∀u v,u<n→v<n→ah u=ah v→u=v
structure Interp(N:eu)(S:Nat→Fn):Prop where
 zero:∀x,S 0 x=false
 one:∀x,S 1 x=true
 node:∀{r d},N r=some d→∀x,S r x=if x.testBit d.v then S d.hi x else S d.lo x
variable {n:Nat} {ah:Nat→Nat} {N:eu} {S:Nat→Fn}
theorem aU{r:Nat}(h:N r=none):dep n ah N r=n:=by unfold dep;rw[h]
theorem ay{r:Nat}{d:Nd}(h:N r=some d):dep n ah N r=ah d.v:=by unfold dep;rw[h]
theorem WF.jG(h:WF n ah N)(hl:j8 n ah)(r:Nat):dep n ah N r≤n:=by
 cases e:N r with
 |none=>rw[aU e];exact Nat.le_refl _
 |some d=>rw[ay e];exact Nat.le_of_lt (hl.lt _ (h.var e))
theorem WF.const(h:WF n ah N){r:Nat}(hr:r<2):N r=none:=by
 cases e:N r with
 |none=>rfl
 |some d=>have:=h.two e;omega
theorem WF.indep(h:WF n ah N)(hl:j8 n ah)(hi:Interp N S):∀(k r:Nat),n-dep n ah N r≤k→live N r→∀v,v<n→ah v<dep n ah N r→∀x b,S r (az x v b)=S r x:=by
 intro k
 induction k with
 |zero=>
  intro r hk hr v hv hlt x b
  rcases hr with hr|⟨d,hd⟩
  ·have:r=0∨r=1:=by omega
   rcases this with rfl|rfl
   ·rw[hi.zero,hi.zero]
   ·rw[hi.one,hi.one]
  ·have h1:=hl.lt _ (h.var hd)
   rw[ay hd]at hk;omega
 |succ k ih=>
  intro r hk hr v hv hlt x b
  rcases hr with hr|⟨d,hd⟩
  ·have:r=0∨r=1:=by omega
   rcases this with rfl|rfl
   ·rw[hi.zero,hi.zero]
   ·rw[hi.one,hi.one]
  ·rw[ay hd]at hk hlt
   have h1:=hl.lt _ (h.var hd)
   obtain⟨l1,l2⟩:=h.lo hd
   obtain⟨m1,m2⟩:=h.hi hd
   have hne:d.v≠v:=fun e=>by rw[e]at hlt;omega
   rw[hi.node hd,hi.node hd,aq,if_neg hne,ih d.lo (by omega) l1 v hv (by omega),ih d.hi (by omega) m1 v hv (by omega)]
theorem WF.ca(h:WF n ah N)(hl:j8 n ah)(hi:Interp N S){r:Nat}(hr:live N r){v:Nat}(hv:v<n)(hlt:ah v<dep n ah N r)(x:Nat)(b:Bool):S r (az x v b)=S r x:=
 h.indep hl hi _ r (Nat.le_refl _) hr v hv hlt x b
theorem WF.child(h:WF n ah N)(hl:j8 n ah)(hi:Interp N S){r:Nat}{d:Nd}(hd:N r=some d)(x:Nat)(b:Bool):S r (az x d.v b)=S (if b then d.hi else d.lo) x:=by
 obtain⟨l1,l2⟩:=h.lo hd
 obtain⟨m1,m2⟩:=h.hi hd
 rw[hi.node hd,aq,if_pos rfl]
 cases b
 ·simp only[Bool.false_eq_true,if_false];exact h.ca hl hi l1 (h.var hd) l2 x false
 ·simp only[if_true];exact h.ca hl hi m1 (h.var hd) m2 x true
theorem WF.canon(h:WF n ah N)(hl:j8 n ah)(hi:Interp N S):∀(k r r':Nat),(n-dep n ah N r)+(n-dep n ah N r')≤k→live N r→live N r'→(∀x,S r x=S r' x)→r=r':=by
 intro k
 induction k with
 |zero=>
  intro r r' hk hr hr' he
  have hc:∀{r},n-dep n ah N r=0→live N r→r<2:=by
   intro r hk hr
   rcases hr with hr|⟨d,hd⟩
   ·exact hr
   ·have h1:=hl.lt _ (h.var hd)
    rw[ay hd]at hk;omega
  have h1:=hc (by omega) hr
  have h2:=hc (by omega) hr'
  have e0:=he 0
  have:r=0∨r=1:=by omega
  have h3:r'=0∨r'=1:=by omega
  rcases this with rfl|rfl<;>rcases h3 with rfl|rfl<;>simp[hi.zero,hi.one]at e0<;>rfl
 |succ k ih=>
  have MO:∀r r',(n-dep n ah N r)+(n-dep n ah N r')≤k+1→live N r'→(∀x,S r x=S r' x)→∀d,N r=some d→ah d.v<dep n ah N r'→False:=by
   intro r r' hk hr' he d hd hlt
   obtain⟨l1,l2⟩:=h.lo hd
   obtain⟨m1,m2⟩:=h.hi hd
   have hv:=h.var hd
   have h1:=hl.lt _ hv
   have d1:=h.jG hl d.lo
   have d2:=h.jG hl d.hi
   have d3:=h.jG hl r'
   rw[ay hd]at hk
   have a1:d.lo=r':=ih d.lo r' (by omega) l1 hr' fun x=>by
    have:=h.child hl hi hd x false
    simp only[Bool.false_eq_true,if_false]at this
    rw[←this,he,h.ca hl hi hr' hv hlt]
   have a2:d.hi=r':=ih d.hi r' (by omega) m1 hr' fun x=>by
    have:=h.child hl hi hd x true
    simp only[if_true]at this
    rw[←this,he,h.ca hl hi hr' hv hlt]
   exact h.ne hd (a1.trans a2.symm)
  intro r r' hk hr hr' he
  rcases hr with hr|⟨d,hd⟩
  ·rcases hr' with hr'|⟨d',cV⟩
   ·have e0:=he 0
    have:r=0∨r=1:=by omega
    have h3:r'=0∨r'=1:=by omega
    rcases this with rfl|rfl<;>rcases h3 with rfl|rfl<;>simp[hi.zero,hi.one]at e0<;>rfl
   ·refine(MO r' r (by omega) (.inl hr) (fun x=>(he x).symm) d' cV ?_).elim
    rw[aU (h.const hr)];exact hl.lt _ (h.var cV)
  ·rcases Nat.lt_trichotomy (ah d.v) (dep n ah N r')with hlt|heq|hgt
   ·exact(MO r r' hk hr' he d hd hlt).elim
   ·rcases hr' with hr'|⟨d',cV⟩
    ·rw[aU (h.const hr')]at heq
     have:=hl.lt _ (h.var hd);omega
    ·rw[ay cV]at heq
     have hv:=hl.inj _ _ (h.var hd) (h.var cV) heq
     obtain⟨l1,l2⟩:=h.lo hd
     obtain⟨m1,m2⟩:=h.hi hd
     obtain⟨R4,l2'⟩:=h.lo cV
     obtain⟨m1',m2'⟩:=h.hi cV
     have h1:=hl.lt _ (h.var hd)
     have d1:=h.jG hl d.lo
     have d2:=h.jG hl d.hi
     have d1':=h.jG hl d'.lo
     have d2':=h.jG hl d'.hi
     rw[ay hd,ay cV]at hk
     have c1:=fun x=>h.child hl hi hd x false
     have c2:=fun x=>h.child hl hi hd x true
     have c1':=fun x=>h.child hl hi cV x false
     have c2':=fun x=>h.child hl hi cV x true
     simp only[Bool.false_eq_true,if_false,if_true]at c1 c2 c1' c2'
     have a1:d.lo=d'.lo:=ih d.lo d'.lo (by omega) l1 R4 fun x=>by rw[←c1,←c1',he,hv]
     have a2:d.hi=d'.hi:=ih d.hi d'.hi (by omega) m1 m1' fun x=>by rw[←c2,←c2',he,hv]
     have:d=d':=by cases d;cases d';simp_all
     subst this
     exact h.uq hd cV
   ·rcases hr' with hr'|⟨d',cV⟩
    ·rw[aU (h.const hr')]at hgt
     have:=hl.lt _ (h.var hd);omega
    ·rw[ay cV]at hgt
     refine(MO r' r (by omega) (.inr ⟨d,hd⟩) (fun x=>(he x).symm) d' cV ?_).elim
     rw[ay hd];exact hgt
theorem WF.same(h:WF n ah N)(hl:j8 n ah)(hi:Interp N S){r r':Nat}(hr:live N r)(hr':live N r')(he:∀x,S r x=S r' x):r=r':=h.canon hl hi _ r r' (Nat.le_refl _) hr hr' he
end aE
namespace aE
open an
variable {n:Nat} {ah:Nat→Nat} {N:eu} {S:Nat→Fn} {ord:List Nat}
def dk(g:Fn)(v:Nat):Prop:=∃x,g (az x v false)≠g (az x v true)
def fs(ord:List Nat)(F:Fn→Prop):Nat→Fn→Prop
 |0,g=>F g
 |l+1,g=>∃f,fs ord F l f∧∃b,g=fun x=>f (az x (ord.getD l 0) b)
def aO(n:Nat)(ord:List Nat)(F:Fn→Prop)(g:Fn):Prop:=∃l,l<n∧fs ord F l g∧dk g (ord.getD l 0)
structure Ord(n:Nat)(ah:Nat→Nat)(ord:List Nat):Prop where
 len:ord.length=n
 kC:∀l,l<n→ord.getD l 0<n∧ah (ord.getD l 0)=l
theorem Ord.of(h:Ord n ah ord)(hl:j8 n ah){v:Nat}(hv:v<n):ord.getD (ah v) 0=v:=by
 obtain⟨h1,h2⟩:=h.kC _ (hl.lt v hv)
 exact hl.inj _ _ h1 hv h2
def Fs(S:Nat→Fn)(R:Nat→Prop)(g:Fn):Prop:=∃r,R r∧g=S r
def A(N:eu)(ah:Nat→Nat)(n:Nat)(R:Nat→Prop):Nat→Nat→Prop
 |0,r=>R r
 |l+1,r=>(A N ah n R l r∧dep n ah N r≠l)∨∃p d,A N ah n R l p∧N p=some d∧ah d.v=l∧(r=d.lo∨r=d.hi)
variable {R:Nat→Prop}
theorem qG(h:WF n ah N)(hR:∀r,R r→live N r):∀l r,A N ah n R l r→live N r∧l≤dep n ah N r
 |0,r,ha=>⟨hR r ha,Nat.zero_le _⟩
 |l+1,r,ha=>by
  rcases ha with⟨h1,h2⟩|⟨p,d,h1,h2,h3,h4⟩
  ·have:=qG h hR l r h1
   exact⟨this.1,by omega⟩
  ·rcases h4 with rfl|rfl
   ·have:=h.lo h2;exact⟨this.1,by omega⟩
   ·have:=h.hi h2;exact⟨this.1,by omega⟩
theorem ET{r:Nat}:∀k l,A N ah n R l r→l+k≤dep n ah N r→A N ah n R (l+k) r
 |0,l,ha,_=>ha
 |k+1,l,ha,hk=>by
  have h1:=ET k l ha (by omega)
  have h2:dep n ah N r≠l+k:=by omega
  exact .inl ⟨h1,h2⟩
def Reach(N:eu)(R:Nat→Prop):Prop:=∀r d,N r=some d→R r∨∃p e,N p=some e∧(e.lo=r∨e.hi=r)
theorem Rc(h:WF n ah N)(hr:Reach N R):∀k r d,N r=some d→ah d.v≤k→A N ah n R (ah d.v) r:=by
 intro k
 induction k with
 |zero=>
  intro r d hd hk
  rcases hr r d hd with h1|⟨p,e,h1,h2⟩
  ·rw[show ah d.v=0 by omega];exact h1
  ·have:=h.lo h1
   have h3:=h.hi h1
   rcases h2 with rfl|rfl
   ·rw[ay hd]at this;omega
   ·rw[ay hd]at h3;omega
 |succ k ih=>
  intro r d hd hk
  rcases hr r d hd with h1|⟨p,e,h1,h2⟩
  ·have:=ET (N:=N) (ah:=ah) (n:=n) (R:=R) (r:=r) (ah d.v) 0 h1 (by rw[ay hd];omega)
   rwa [Nat.zero_add]at this
  ·have hlt:ah e.v<ah d.v:=by
    have:=h.lo h1
    have h3:=h.hi h1
    rcases h2 with rfl|rfl
    ·rw[ay hd]at this;omega
    ·rw[ay hd]at h3;omega
   have ha:=ih p e h1 (by omega)
   have hb:A N ah n R (ah e.v+1) r:=.inr ⟨p,e,ha,h1,rfl,by rcases h2 with rfl|rfl;exact .inl rfl;exact .inr rfl⟩
   have:=ET (ah d.v-(ah e.v+1)) _ hb (by rw[ay hd];omega)
   rwa [show ah e.v+1+(ah d.v-(ah e.v+1))=ah d.v by omega]at this
theorem Pk(h:WF n ah N)(hl:j8 n ah)(ho:Ord n ah ord)(hi:Interp N S)(hR:∀r,R r→live N r):∀l,l≤n→∀g,fs ord (Fs S R) l g↔∃r,A N ah n R l r∧g=S r
 |0,_,g=>Iff.rfl
 |l+1,Lo,g=>by
  obtain⟨v1,v2⟩:=ho.kC l Lo
  have ih:=Pk h hl ho hi hR l (by omega)
  constructor
  ·rintro⟨f,hf,b,rfl⟩
   obtain⟨r,ha,rfl⟩:=(ih f).1 hf
   obtain⟨hlv,hle⟩:=qG h hR l r ha
   by_cases e:dep n ah N r=l
   ·rcases hlv with hc|⟨d,hd⟩
    ·rw[aU (h.const hc)]at e;omega
    ·rw[ay hd]at e
     have hv:d.v=ord.getD l 0:=hl.inj _ _ (h.var hd) v1 (by omega)
     refine⟨if b then d.hi else d.lo,.inr ⟨r,d,ha,hd,e,by cases b<;>simp⟩,?_⟩
     funext x
     rw[←hv];exact h.child hl hi hd x b
   ·refine⟨r,.inl ⟨ha,e⟩,?_⟩
    funext x
    exact h.ca hl hi hlv v1 (by omega) x b
  ·rintro⟨r,ha,rfl⟩
   rcases ha with⟨h1,h2⟩|⟨p,d,h1,h2,h3,h4⟩
   ·obtain⟨hlv,hle⟩:=qG h hR l r h1
    refine⟨S r,(ih _).2 ⟨r,h1,rfl⟩,false,?_⟩
    funext x
    exact(h.ca hl hi hlv v1 (by omega) x false).symm
   ·have hv:d.v=ord.getD l 0:=hl.inj _ _ (h.var h2) v1 (by omega)
    rcases h4 with rfl|rfl
    ·refine⟨S p,(ih _).2 ⟨p,h1,rfl⟩,false,?_⟩
     funext x
     rw[←hv];exact(h.child hl hi h2 x false).symm
    ·refine⟨S p,(ih _).2 ⟨p,h1,rfl⟩,true,?_⟩
     funext x
     rw[←hv];exact(h.child hl hi h2 x true).symm
theorem l8(h:WF n ah N)(hl:j8 n ah)(ho:Ord n ah ord)(hi:Interp N S)(hR:∀r,R r→live N r)(hr:Reach N R)(g:Fn):aO n ord (Fs S R) g↔∃r d,N r=some d∧g=S r:=by
 constructor
 ·rintro⟨l,Lo,hf,x,hx⟩
  obtain⟨v1,v2⟩:=ho.kC l Lo
  obtain⟨r,ha,rfl⟩:=(Pk h hl ho hi hR l (by omega) g).1 hf
  obtain⟨hlv,hle⟩:=qG h hR l r ha
  by_cases e:dep n ah N r=l
  ·rcases hlv with hc|⟨d,hd⟩
   ·rw[aU (h.const hc)]at e;omega
   ·exact⟨r,d,hd,rfl⟩
  ·exact absurd (by rw[h.ca hl hi hlv v1 (by omega),h.ca hl hi hlv v1 (by omega)]) hx
 ·rintro⟨r,d,hd,rfl⟩
  have hv:=h.var hd
  have hlt:=hl.lt _ hv
  refine⟨ah d.v,hlt,(Pk h hl ho hi hR _ (by omega) _).2 ⟨r,Rc h hr _ r d hd (Nat.le_refl _),rfl⟩,?_⟩
  rw[ho.of hl hv]
  refine Classical.byContradiction fun hno=>h.ne hd (h.same hl hi (h.lo hd).1 (h.hi hd).1 fun x=>?_)
  have c1:=h.child hl hi hd x false
  have c2:=h.child hl hi hd x true
  simp only[Bool.false_eq_true,if_false,if_true]at c1 c2
  rw[←c1,←c2]
  exact Classical.byContradiction fun hne=>hno ⟨x,hne⟩
def qF(P:Fn→Prop)(k:Nat):Prop:=∃l:List Fn,l.Nodup∧l.length=k∧∀g,P g↔g∈l
theorem qF.congr{P Q:Fn→Prop}{k:Nat}(h:qF P k)(e:∀g,P g↔Q g):qF Q k:=let ⟨l,h1,h2,h3⟩:=h;⟨l,h1,h2,fun g=>(e g).symm.trans (h3 g)⟩
theorem bN{α:Type}:∀{l l':List α},l.Nodup→(∀x∈l,x∈l')→l.length≤l'.length
 | [],l',_,_=>Nat.zero_le _
 |x::l,l',hn,hs=>by
  obtain⟨h1,h2⟩:=List.nodup_cons.1 hn
  obtain⟨a,b,rfl⟩:=List.append_of_mem (hs x (by simp))
  have:=bN (l':=a++b) h2 fun y hy=>by
   have:=hs y (by simp[hy])
   rcases List.mem_append.1 this with h|h
   ·exact List.mem_append_left _ h
   ·rcases List.mem_cons.1 h with rfl|h
    ·exact absurd hy h1
    ·exact List.mem_append_right _ h
  simp at this⊢;omega
theorem qF.le{P Q:Fn→Prop}{k k':Nat}(h:qF P k)(h':qF Q k')(e:∀g,P g→Q g):k≤k':=by
 obtain⟨l,h1,h2,h3⟩:=h
 obtain⟨l',zy,mq,yd⟩:=h'
 rw[←h2,←mq]
 exact bN h1 fun x hx=>(yd x).1 (e x ((h3 x).2 hx))
theorem qF.uniq{P:Fn→Prop}{k k':Nat}(h:qF P k)(h':qF P k'):k=k':=Nat.le_antisymm (h.le h' fun _=>id) (h'.le h fun _=>id)
theorem qF.or{P Q:Fn→Prop}{k k':Nat}(h:qF P k)(h':qF Q k')(e:∀g,P g→¬Q g):qF (fun g=>P g∨Q g) (k+k'):=by
 obtain⟨l,h1,h2,h3⟩:=h
 obtain⟨l',zy,mq,yd⟩:=h'
 refine⟨l++l',List.nodup_append.2 ⟨h1,zy,fun a ha b hb e'=>?_⟩,by rw[List.length_append,h2,mq],fun g=>by rw[List.mem_append,←h3,←yd]⟩
 subst e'
 exact e a ((h3 a).2 ha) ((yd a).2 hb)
theorem vZ(h:WF n ah N)(hl:j8 n ah)(hi:Interp N S){dom:List Nat}(hd:dom.Nodup)(hm:∀r,r∈dom↔∃d,N r=some d):qF (fun g=>∃r d,N r=some d∧g=S r) dom.length:=by
 refine⟨dom.map S,?_,by simp,fun g=>?_⟩
 ·refine List.pairwise_map.2 (hd.imp_of_mem fun{a b} ha hb hne heq=>hne ?_)
  exact h.same hl hi (.inr ((hm a).1 ha)) (.inr ((hm b).1 hb)) fun x=>by rw[heq]
 ·rw[List.mem_map]
  constructor
  ·rintro⟨r,d,h1,rfl⟩;exact⟨r,(hm r).2 ⟨d,h1⟩,rfl⟩
  ·rintro⟨r,h1,rfl⟩;obtain⟨d,h2⟩:=(hm r).1 h1;exact⟨r,d,h2,rfl⟩
end aE
namespace aE
open an
def up{α:Type}(N:Nat→α)(r:Nat)(o:α):Nat→α:=fun s=>if s=r then o else N s
@[simp] theorem aI{α:Type}{N:Nat→α}{r:Nat}{o:α}:up N r o r=o:=if_pos rfl
theorem aJ{α:Type}{N:Nat→α}{r s:Nat}{o:α}(h:s≠r):up N r o s=N s:=if_neg h
def oQ(T:Nd→Option Nat)(d:Nd)(o:Option Nat):Nd→Option Nat:=fun e=>if e=d then o else T e
@[simp] theorem iQ{T:Nd→Option Nat}{d:Nd}{o:Option Nat}:oQ T d o d=o:=if_pos rfl
theorem n9{T:Nd→Option Nat}{d e:Nd}{o:Option Nat}(h:e≠d):oQ T d o e=T e:=if_neg h
def e1:Option Nd→Nat→Nat
 |none,_=>0
 |some d,r=>(if d.lo=r then 1 else 0)+(if d.hi=r then 1 else 0)
theorem dN(d:Nd)(r:Nat):e1 (some d) r=(if d.lo=r then 1 else 0)+(if d.hi=r then 1 else 0):=rfl
def cR(N:eu)(r:Nat):Nat→Nat
 |0=>0
 |k+1=>cR N r k+e1 (N k) r
def lK(N:eu):Nat→Nat
 |0=>0
 |k+1=>lK N k+(if(N k).isSome then 1 else 0)
theorem vV{N:eu}{s r:Nat}{o:Option Nd}:∀{k},(s<k→cR (up N s o) r k+e1 (N s) r=cR N r k+e1 o r)∧(k≤s→cR (up N s o) r k=cR N r k)
 |0=>⟨fun h=>by omega,fun _=>rfl⟩
 |k+1=>by
  obtain⟨i1,i2⟩:=vV (N:=N) (s:=s) (r:=r) (o:=o) (k:=k)
  refine⟨fun h=>?_,fun h=>?_⟩
  ·rw[cR,cR]
   by_cases e:s=k
   ·subst e;rw[aI,i2 (Nat.le_refl _)];omega
   ·have:=i1 (by omega);rw[aJ (fun h=>e h.symm)];omega
  ·rw[cR,cR,i2 (by omega),aJ (by omega)]
theorem tq{N:eu}{s r k:Nat}{o:Option Nd}(h:s<k):cR (up N s o) r k+e1 (N s) r=cR N r k+e1 o r:=vV.1 h
theorem pL{N:eu}{s:Nat}{o:Option Nd}:∀{k},(s<k→lK (up N s o) k+(if(N s).isSome then 1 else 0)=lK N k+(if o.isSome then 1 else 0))∧(k≤s→lK (up N s o) k=lK N k)
 |0=>⟨fun h=>by omega,fun _=>rfl⟩
 |k+1=>by
  obtain⟨i1,i2⟩:=pL (N:=N) (s:=s) (o:=o) (k:=k)
  refine⟨fun h=>?_,fun h=>?_⟩
  ·rw[lK,lK]
   by_cases e:s=k
   ·subst e;rw[aI,i2 (Nat.le_refl _)];omega
   ·have:=i1 (by omega);rw[aJ (fun h=>e h.symm)];omega
  ·rw[lK,lK,i2 (by omega),aJ (by omega)]
theorem jc{N:eu}{r:Nat}:∀{k},cR N r k=0→∀s,s<k→∀d,N s=some d→d.lo≠r∧d.hi≠r
 |0,_,s,hs,_,_=>by omega
 |k+1,h,s,hs,d,hd=>by
  rw[cR]at h
  by_cases e:s=k
  ·subst e
   rw[hd,dN]at h
   constructor
   ·intro h1;rw[if_pos h1]at h;omega
   ·intro h1;rw[if_pos h1]at h;omega
  ·exact jc (k:=k) (by omega) s (by omega) d hd
theorem qv{N:eu}{r:Nat}:∀{k},0<cR N r k→∃s d,s<k∧N s=some d∧(d.lo=r∨d.hi=r)
 |0,h=>by simp[cR]at h
 |k+1,h=>by
  rw[cR]at h
  by_cases hk:0<cR N r k
  ·obtain⟨s,d,h1,h2,h3⟩:=qv hk;exact⟨s,d,by omega,h2,h3⟩
  ·cases hd:N k with
   |none=>rw[hd]at h;simp[e1]at h;omega
   |some d=>
    refine⟨k,d,by omega,hd,?_⟩
    rw[hd,dN]at h
    by_cases h1:d.lo=r
    ·exact .inl h1
    ·by_cases h2:d.hi=r
     ·exact .inr h2
     ·rw[if_neg h1,if_neg h2]at h;omega
theorem zO{N:eu}{r:Nat}:∀k,cR N r k≤2*k
 |0=>Nat.le_refl _
 |k+1=>by
  have:=zO (N:=N) (r:=r) k
  rw[cR]
  have:e1 (N k) r≤2:=by
   cases N k with
   |none=>simp[e1]
   |some d=>rw[dN];split<;>split<;>omega
  omega
theorem zZ(N:eu):∀k,((List.range k).filter fun r=>(N r).isSome).length=lK N k
 |0=>rfl
 |k+1=>by
  rw[List.range_succ,List.filter_append,List.length_append,zZ N k,lK]
  congr 1
  cases h:N k<;>simp[h]
structure Kd where
 n:Nat
 cap:Nat
 used:Nat
 N:eu
 T:Nd→Option Nat
 us:List Nat
 ho:List Nat
def Kd.hold(K:Kd)(r:Nat):Nat:=K.ho.getD r 0
def Kd.use(K:Kd)(r:Nat):Nat:=K.us.getD r 0
structure iP(K:Kd)(S:Nat→Fn)(E:Nat→Prop)(P:Nat→Nat):Prop where
 two:∀{r d},K.N r=some d→2≤r∧r<K.cap
 var:∀{r d},K.N r=some d→d.v<K.n
 ne:∀{r d},K.N r=some d→d.lo≠d.hi
 lo:∀{r d},K.N r=some d→live K.N d.lo
 hi:∀{r d},K.N r=some d→live K.N d.hi
 int:Interp K.N S
 iJ:∀d r,K.T d=some r↔K.N r=some d∧¬E r
 use:∀{r d},K.N r=some d→K.use r=cR K.N r K.cap+(if K.hold r=0 then 0 else 1)+P r
 len:K.us.length=K.ho.length
 fit:∀{r d},K.N r=some d→r<K.us.length
 held:∀r,K.hold r≠0→∃d,K.N r=some d
 mx:∀r,K.hold r≤65535
 room:K.used=2+lK K.N K.cap
 cap:K.used≤K.cap∧K.cap≤1048576
variable {K:Kd} {S:Nat→Fn} {E:Nat→Prop} {P:Nat→Nat}
theorem js{N:eu}{r s:Nat}{d:Nd}(h:live N s):live (up N r (some d)) s:=by
 rcases h with h|⟨e,h⟩
 ·exact .inl h
 ·by_cases e2:s=r
  ·subst e2;exact .inr ⟨d,aI⟩
  ·exact .inr ⟨e,by rw[aJ e2];exact h⟩
theorem vF{N:eu}{r s:Nat}(h:live N s)(hne:s≠r):live (up N r none) s:=by
 rcases h with h|⟨e,h⟩
 ·exact .inl h
 ·exact .inr ⟨e,by rw[aJ hne];exact h⟩
def Pos(K:Kd):Prop:=∀r d,K.N r=some d→0<K.use r
theorem iP.less(h:iP K S E P){r:Nat}{cZ:List Nat}(hP:0<P r)(hl:cZ.length=K.us.length)(h1:cZ.getD r 0+1=K.use r)(h2:∀s,s≠r→cZ.getD s 0=K.use s):
  iP {K with us:=cZ} S E (up P r (P r-1)) where
 two:=h.two
 var:=h.var
 ne:=h.ne
 lo:=h.lo
 hi:=h.hi
 int:=h.int
 iJ:=h.iJ
 use:=fun{s d} hd=>by
  have:=h.use hd
  show cZ.getD s 0=cR K.N s K.cap+(if K.hold s=0 then 0 else 1)+up P r (P r-1) s
  by_cases e:s=r
  ·subst e
   rw[aI]
   omega
  ·rw[h2 s e,aJ e];exact this
 len:=by show cZ.length=_;rw[hl];exact h.len
 fit:=fun{s d} hd=>by show s<cZ.length;rw[hl];exact h.fit hd
 held:=h.held
 mx:=h.mx
 room:=h.room
 cap:=h.cap
theorem iP.free(h:iP K S E P){r:Nat}{d:Nd}(hd:K.N r=some d)(hE:¬E r)(h0:K.use r=0):
  iP {K with N:=up K.N r none,T:=oQ K.T d none,used:=K.used-1} S E (fun s=>P s+e1 (some d) s) where
 two:=fun{s e} hs=>by
  have hs':up K.N r none s=some e:=hs
  by_cases e2:s=r
  ·subst e2;rw[aI]at hs';cases hs'
  ·rw[aJ e2]at hs';exact h.two hs'
 var:=fun{s e} hs=>by
  have hs':up K.N r none s=some e:=hs
  by_cases e2:s=r
  ·subst e2;rw[aI]at hs';cases hs'
  ·rw[aJ e2]at hs';exact h.var hs'
 ne:=fun{s e} hs=>by
  have hs':up K.N r none s=some e:=hs
  by_cases e2:s=r
  ·subst e2;rw[aI]at hs';cases hs'
  ·rw[aJ e2]at hs';exact h.ne hs'
 lo:=fun{s e} hs=>by
  have hs':up K.N r none s=some e:=hs
  by_cases e2:s=r
  ·subst e2;rw[aI]at hs';cases hs'
  ·rw[aJ e2]at hs'
   have hu:=h.use hd
   exact vF (h.lo hs') (jc (by omega) s (h.two hs').2 e hs').1
 hi:=fun{s e} hs=>by
  have hs':up K.N r none s=some e:=hs
  by_cases e2:s=r
  ·subst e2;rw[aI]at hs';cases hs'
  ·rw[aJ e2]at hs'
   have hu:=h.use hd
   exact vF (h.hi hs') (jc (by omega) s (h.two hs').2 e hs').2
 int:=⟨h.int.zero,h.int.one,fun{s e} hs x=>by
  have hs':up K.N r none s=some e:=hs
  by_cases e2:s=r
  ·subst e2;rw[aI]at hs';cases hs'
  ·rw[aJ e2]at hs';exact h.int.node hs' x⟩
 iJ:=fun e s=>by
  show oQ K.T d none e=some s↔up K.N r none s=some e∧_
  by_cases e2:e=d
  ·subst e2
   rw[iQ]
   constructor
   ·intro h;cases h
   ·rintro⟨h1,h2⟩
    by_cases e3:s=r
    ·subst e3;rw[aI]at h1;cases h1
    ·rw[aJ e3]at h1
     have a:=(h.iJ e s).2 ⟨h1,h2⟩
     have b:=(h.iJ e r).2 ⟨hd,hE⟩
     rw[a]at b;cases b;exact absurd rfl e3
  ·rw[n9 e2,h.iJ]
   by_cases e3:s=r
   ·subst e3
    rw[aI]
    constructor
    ·rintro⟨h1,_⟩;rw[hd]at h1;cases h1;exact absurd rfl e2
    ·rintro⟨h1,_⟩;cases h1
   ·rw[aJ e3]
 use:=fun{s e} hs=>by
  have hs':up K.N r none s=some e:=hs
  by_cases e2:s=r
  ·subst e2;rw[aI]at hs';cases hs'
  ·rw[aJ e2]at hs'
   have hu:=h.use hs'
   have he:=tq (N:=K.N) (s:=r) (r:=s) (k:=K.cap) (o:=none) (h.two hd).2
   show K.use s=cR (up K.N r none) s K.cap+(if K.hold s=0 then 0 else 1)+(P s+e1 (some d) s)
   rw[hd]at he
   have:e1 none s=0:=rfl
   omega
 len:=h.len
 fit:=fun{s e} hs=>by
  have hs':up K.N r none s=some e:=hs
  by_cases e2:s=r
  ·subst e2;rw[aI]at hs';cases hs'
  ·rw[aJ e2]at hs';exact h.fit hs'
 held:=fun s hs=>by
  obtain⟨e,he⟩:=h.held s hs
  have hne:s≠r:=fun e2=>by
   subst e2
   have hu:=h.use hd
   have hs':K.hold s≠0:=hs
   rw[if_neg hs']at hu;omega
  exact⟨e,by show up K.N r none s=_;rw[aJ hne];exact he⟩
 mx:=h.mx
 room:=by
  have:=(pL (N:=K.N) (s:=r) (o:=none) (k:=K.cap)).1 (h.two hd).2
  have hr:=h.room
  rw[hd]at this
  show K.used-1=2+lK (up K.N r none) K.cap
  simp at this;omega
 cap:=⟨by have:=h.cap.1;show K.used-1≤K.cap;omega,h.cap.2⟩
theorem iP.more(h:iP K S E P){r:Nat}{cZ:List Nat}(hl:cZ.length=K.us.length)(h1:cZ.getD r 0=K.use r+1)(h2:∀s,s≠r→cZ.getD s 0=K.use s):
  iP {K with us:=cZ} S E (up P r (P r+1)) where
 two:=h.two
 var:=h.var
 ne:=h.ne
 lo:=h.lo
 hi:=h.hi
 int:=h.int
 iJ:=h.iJ
 use:=fun{s d} hd=>by
  have:=h.use hd
  show cZ.getD s 0=cR K.N s K.cap+(if K.hold s=0 then 0 else 1)+up P r (P r+1) s
  by_cases e:s=r
  ·subst e
   rw[aI]
   omega
  ·rw[h2 s e,aJ e];exact this
 len:=by show cZ.length=_;rw[hl];exact h.len
 fit:=fun{s d} hd=>by show s<cZ.length;rw[hl];exact h.fit hd
 held:=h.held
 mx:=h.mx
 room:=h.room
 cap:=h.cap
end aE
namespace aE
open an
variable {K:Kd} {S:Nat→Fn} {E:Nat→Prop} {P:Nat→Nat}
def ite(S:Nat→Fn)(d:Nd):Fn:=fun x=>if x.testBit d.v then S d.hi x else S d.lo x
theorem fo{N:eu}{r s:Nat}(h:live N s)(h2:2≤r)(hr:N r=none):s≠r:=fun e=>by
 subst e
 rcases h with h|⟨d,h⟩
 ·omega
 ·rw[hr]at h;cases h
theorem iP.lay(h:iP K S E P){r:Nat}{d:Nd}{cZ cI:List Nat}(hr:K.N r=none)(h2:2≤r∧r<K.cap)(hv:d.v<K.n)(hne:d.lo≠d.hi)(hlo:live K.N d.lo)(hhi:live K.N d.hi)(hT:K.T d=none)(hE:¬E r)
 (hP:P r=0)(hro:K.used<K.cap)(hl:cZ.length=cI.length)(hf:r<cZ.length∧K.us.length≤cZ.length)(u0:cZ.getD r 0=0)(u1:∀s,2≤s→s≠r→cZ.getD s 0=K.use s+e1 (some d) s)(o0:cI.getD r 0=0)(o1:∀s,s≠r→cI.getD s 0=K.hold s):
  iP {K with N:=up K.N r (some d),T:=oQ K.T d (some r),used:=K.used+1,us:=cZ,ho:=cI} (up S r (ite S d)) E P where
 two:=fun{s e} hs=>by
  have hs':up K.N r (some d) s=some e:=hs
  by_cases e2:s=r
  ·subst e2;exact h2
  ·rw[aJ e2]at hs';exact h.two hs'
 var:=fun{s e} hs=>by
  have hs':up K.N r (some d) s=some e:=hs
  by_cases e2:s=r
  ·subst e2;rw[aI]at hs';cases hs';exact hv
  ·rw[aJ e2]at hs';exact h.var hs'
 ne:=fun{s e} hs=>by
  have hs':up K.N r (some d) s=some e:=hs
  by_cases e2:s=r
  ·subst e2;rw[aI]at hs';cases hs';exact hne
  ·rw[aJ e2]at hs';exact h.ne hs'
 lo:=fun{s e} hs=>by
  have hs':up K.N r (some d) s=some e:=hs
  by_cases e2:s=r
  ·subst e2;rw[aI]at hs';cases hs';exact js hlo
  ·rw[aJ e2]at hs';exact js (h.lo hs')
 hi:=fun{s e} hs=>by
  have hs':up K.N r (some d) s=some e:=hs
  by_cases e2:s=r
  ·subst e2;rw[aI]at hs';cases hs';exact js hhi
  ·rw[aJ e2]at hs';exact js (h.hi hs')
 int:=⟨fun x=>by rw[aJ (by omega)];exact h.int.zero x,fun x=>by rw[aJ (by omega)];exact h.int.one x,fun{s e} hs x=>by
  have hs':up K.N r (some d) s=some e:=hs
  by_cases e2:s=r
  ·subst e2;rw[aI]at hs';cases hs'
   rw[aI,aJ (fo hlo h2.1 hr),aJ (fo hhi h2.1 hr)];rfl
  ·rw[aJ e2]at hs'
   rw[aJ e2,aJ (fo (h.lo hs') h2.1 hr),aJ (fo (h.hi hs') h2.1 hr)]
   exact h.int.node hs' x⟩
 iJ:=fun e s=>by
  show oQ K.T d (some r) e=some s↔up K.N r (some d) s=some e∧_
  by_cases e2:e=d
  ·subst e2
   rw[iQ]
   constructor
   ·intro h;cases h;exact⟨aI,hE⟩
   ·rintro⟨h1,mq⟩
    by_cases e3:s=r
    ·rw[e3]
    ·rw[aJ e3]at h1
     have a:=(h.iJ e s).2 ⟨h1,mq⟩
     rw[hT]at a;cases a
  ·rw[n9 e2,h.iJ]
   by_cases e3:s=r
   ·subst e3
    rw[aI,hr]
    constructor
    ·rintro⟨h1,_⟩;cases h1
    ·rintro⟨h1,_⟩;cases h1;exact absurd rfl e2
   ·rw[aJ e3]
 use:=fun{s e} hs=>by
  have hs':up K.N r (some d) s=some e:=hs
  have he:=tq (N:=K.N) (s:=r) (r:=s) (k:=K.cap) (o:=some d) h2.2
  rw[hr]at he
  have h0:e1 none s=0:=rfl
  show cZ.getD s 0=cR (up K.N r (some d)) s K.cap+(if cI.getD s 0=0 then 0 else 1)+P s
  by_cases e2:s=r
  ·subst e2
   have hz:cR K.N s K.cap=0:=by
    refine Nat.eq_zero_of_not_pos fun hp=>?_
    obtain⟨t,e',_,ht,hc⟩:=qv hp
    have HA:=fo (h.lo ht) h2.1 hr
    have xw:=fo (h.hi ht) h2.1 hr
    rcases hc with hc|hc
    ·exact HA hc
    ·exact xw hc
   have hd0:e1 (some d) s=0:=by
    rw[dN,if_neg (fo hlo h2.1 hr),if_neg (fo hhi h2.1 hr)]
   rw[u0,o0,if_pos rfl];omega
  ·rw[aJ e2]at hs'
   have hu:=h.use hs'
   have h3:cI.getD s 0=K.hold s:=o1 s e2
   rw[u1 s (h.two hs').1 e2,h3];omega
 len:=hl
 fit:=fun{s e} hs=>by
  have hs':up K.N r (some d) s=some e:=hs
  show s<cZ.length
  by_cases e2:s=r
  ·subst e2;exact hf.1
  ·rw[aJ e2]at hs';exact Nat.lt_of_lt_of_le (h.fit hs') hf.2
 held:=fun s hs=>by
  have hs':cI.getD s 0≠0:=hs
  by_cases e2:s=r
  ·subst e2;exact⟨d,aI⟩
  ·rw[o1 s e2]at hs'
   obtain⟨e,he⟩:=h.held s hs'
   exact⟨e,by show up K.N r (some d) s=_;rw[aJ e2];exact he⟩
 mx:=fun s=>by
  show cI.getD s 0≤65535
  by_cases e2:s=r
  ·subst e2;rw[o0];decide
  ·rw[o1 s e2];exact h.mx s
 room:=by
  have:=(pL (N:=K.N) (s:=r) (o:=some d) (k:=K.cap)).1 h2.2
  have hr':=h.room
  rw[hr]at this
  show K.used+1=2+lK (up K.N r (some d)) K.cap
  simp at this;omega
 cap:=⟨by show K.used+1≤K.cap;omega,h.cap.2⟩
theorem iP.aar(h:iP K S E P){r:Nat}{d:Nd}(hd:K.N r=some d)(hE:¬E r):iP {K with T:=oQ K.T d none} S (fun s=>E s∨s=r) P where
 two:=h.two
 var:=h.var
 ne:=h.ne
 lo:=h.lo
 hi:=h.hi
 int:=h.int
 iJ:=fun e s=>by
  show oQ K.T d none e=some s↔_
  by_cases e2:e=d
  ·subst e2
   rw[iQ]
   constructor
   ·intro h;cases h
   ·rintro⟨h1,h2⟩
    have a:=(h.iJ e s).2 ⟨h1,fun x=>h2 (.inl x)⟩
    have b:=(h.iJ e r).2 ⟨hd,hE⟩
    rw[a]at b;cases b;exact absurd (.inr rfl) h2
  ·rw[n9 e2,h.iJ]
   constructor
   ·rintro⟨h1,h2⟩
    refine⟨h1,fun x=>?_⟩
    rcases x with x|rfl
    ·exact h2 x
    ·have zy:K.N s=some e:=h1
     rw[hd]at zy;cases zy;exact e2 rfl
   ·rintro⟨h1,h2⟩;exact⟨h1,fun x=>h2 (.inl x)⟩
 use:=h.use
 len:=h.len
 fit:=h.fit
 held:=h.held
 mx:=h.mx
 room:=h.room
 cap:=h.cap
theorem iP.wE(h:iP K S E P){r:Nat}{d d':Nd}{P':Nat→Nat}(hd:K.N r=some d)(hE:E r)(hv:d'.v<K.n)(hne:d'.lo≠d'.hi)(hlo:live K.N d'.lo)(hhi:live K.N d'.hi)(hT:K.T d'=none)(hS:∀x,S r x=ite S d' x)
 (hP:∀s,2≤s→P' s+e1 (some d') s=P s+e1 (some d) s):iP {K with N:=up K.N r (some d'),T:=oQ K.T d' (some r)} S (fun s=>E s∧s≠r) P' where
 two:=fun{s e} hs=>by
  have hs':up K.N r (some d') s=some e:=hs
  by_cases e2:s=r
  ·subst e2;exact h.two hd
  ·rw[aJ e2]at hs';exact h.two hs'
 var:=fun{s e} hs=>by
  have hs':up K.N r (some d') s=some e:=hs
  by_cases e2:s=r
  ·subst e2;rw[aI]at hs';cases hs';exact hv
  ·rw[aJ e2]at hs';exact h.var hs'
 ne:=fun{s e} hs=>by
  have hs':up K.N r (some d') s=some e:=hs
  by_cases e2:s=r
  ·subst e2;rw[aI]at hs';cases hs';exact hne
  ·rw[aJ e2]at hs';exact h.ne hs'
 lo:=fun{s e} hs=>by
  have hs':up K.N r (some d') s=some e:=hs
  by_cases e2:s=r
  ·subst e2;rw[aI]at hs';cases hs';exact js hlo
  ·rw[aJ e2]at hs';exact js (h.lo hs')
 hi:=fun{s e} hs=>by
  have hs':up K.N r (some d') s=some e:=hs
  by_cases e2:s=r
  ·subst e2;rw[aI]at hs';cases hs';exact js hhi
  ·rw[aJ e2]at hs';exact js (h.hi hs')
 int:=⟨h.int.zero,h.int.one,fun{s e} hs x=>by
  have hs':up K.N r (some d') s=some e:=hs
  by_cases e2:s=r
  ·subst e2;rw[aI]at hs';cases hs';exact hS x
  ·rw[aJ e2]at hs';exact h.int.node hs' x⟩
 iJ:=fun e s=>by
  show oQ K.T d' (some r) e=some s↔up K.N r (some d') s=some e∧¬(E s∧s≠r)
  by_cases e2:e=d'
  ·subst e2
   rw[iQ]
   constructor
   ·intro h;cases h;exact⟨aI,fun x=>x.2 rfl⟩
   ·rintro⟨h1,mq⟩
    by_cases e3:s=r
    ·rw[e3]
    ·rw[aJ e3]at h1
     have a:=(h.iJ e s).2 ⟨h1,fun x=>mq ⟨x,e3⟩⟩
     rw[hT]at a;cases a
  ·rw[n9 e2,h.iJ]
   by_cases e3:s=r
   ·subst e3
    rw[aI]
    constructor
    ·rintro⟨_,h1⟩;exact absurd hE h1
    ·rintro⟨h1,_⟩;cases h1;exact absurd rfl e2
   ·rw[aJ e3]
    constructor
    ·rintro⟨h1,h2⟩;exact⟨h1,fun x=>h2 x.1⟩
    ·rintro⟨h1,h2⟩;exact⟨h1,fun x=>h2 ⟨x,e3⟩⟩
 use:=fun{s e} hs=>by
  have hs':up K.N r (some d') s=some e:=hs
  have he:=tq (N:=K.N) (s:=r) (r:=s) (k:=K.cap) (o:=some d') (h.two hd).2
  rw[hd]at he
  show K.use s=cR (up K.N r (some d')) s K.cap+(if K.hold s=0 then 0 else 1)+P' s
  by_cases e2:s=r
  ·subst e2
   have hu:=h.use hd
   have:=hP s (h.two hd).1
   omega
  ·rw[aJ e2]at hs'
   have hu:=h.use hs'
   have:=hP s (h.two hs').1
   omega
 len:=h.len
 fit:=fun{s e} hs=>by
  have hs':up K.N r (some d') s=some e:=hs
  by_cases e2:s=r
  ·subst e2;exact h.fit hd
  ·rw[aJ e2]at hs';exact h.fit hs'
 held:=fun s hs=>by
  obtain⟨e,he⟩:=h.held s hs
  by_cases e2:s=r
  ·subst e2;exact⟨d',aI⟩
  ·exact⟨e,by show up K.N r (some d') s=_;rw[aJ e2];exact he⟩
 mx:=h.mx
 room:=by
  have:=(pL (N:=K.N) (s:=r) (o:=some d') (k:=K.cap)).1 (h.two hd).2
  have hr':=h.room
  rw[hd]at this
  show K.used=2+lK (up K.N r (some d')) K.cap
  simp at this;omega
 cap:=h.cap
theorem iP.keep(h:iP K S E P){r:Nat}{cZ cI:List Nat}(hr:∃d,K.N r=some d)(hm:K.hold r<65535)(hl:cZ.length=K.us.length∧cI.length=K.ho.length)(o0:cI.getD r 0=K.hold r+1)(o1:∀s,s≠r→cI.getD s 0=K.hold s)
 (u0:cZ.getD r 0=K.use r+(if K.hold r=0 then 1 else 0))(u1:∀s,s≠r→cZ.getD s 0=K.use s):iP {K with us:=cZ,ho:=cI} S E P where
 two:=h.two
 var:=h.var
 ne:=h.ne
 lo:=h.lo
 hi:=h.hi
 int:=h.int
 iJ:=h.iJ
 use:=fun{s e} hs=>by
  have hu:=h.use hs
  show cZ.getD s 0=cR K.N s K.cap+(if cI.getD s 0=0 then 0 else 1)+P s
  by_cases e2:s=r
  ·subst e2
   rw[u0,o0,if_neg (by omega:¬K.hold s+1=0)]
   by_cases e3:K.hold s=0
   ·rw[if_pos e3]at hu⊢;omega
   ·rw[if_neg e3]at hu⊢;omega
  ·rw[u1 s e2,o1 s e2];exact hu
 len:=by show cZ.length=cI.length;rw[hl.1,hl.2];exact h.len
 fit:=fun{s e} hs=>by show s<cZ.length;rw[hl.1];exact h.fit hs
 held:=fun s hs=>by
  have hs':cI.getD s 0≠0:=hs
  by_cases e2:s=r
  ·subst e2;exact hr
  ·rw[o1 s e2]at hs';exact h.held s hs'
 mx:=fun s=>by
  show cI.getD s 0≤65535
  by_cases e2:s=r
  ·subst e2;rw[o0];omega
  ·rw[o1 s e2];exact h.mx s
 room:=h.room
 cap:=h.cap
theorem iP.drop(h:iP K S E P){r:Nat}{cI:List Nat}(hr:0<K.hold r)(hl:cI.length=K.ho.length)(o0:cI.getD r 0+1=K.hold r)(o1:∀s,s≠r→cI.getD s 0=K.hold s):
  iP {K with ho:=cI} S E (if K.hold r=1 then up P r (P r+1)else P) where
 two:=h.two
 var:=h.var
 ne:=h.ne
 lo:=h.lo
 hi:=h.hi
 int:=h.int
 iJ:=h.iJ
 use:=fun{s e} hs=>by
  have hu:=h.use hs
  show K.use s=cR K.N s K.cap+(if cI.getD s 0=0 then 0 else 1)+(if K.hold r=1 then up P r (P r+1)else P) s
  by_cases e2:s=r
  ·subst e2
   rw[if_neg (by omega:¬K.hold s=0)]at hu
   by_cases e3:K.hold s=1
   ·rw[if_pos e3,aI,if_pos (by omega)];omega
   ·rw[if_neg e3,if_neg (by omega)];omega
  ·rw[o1 s e2]
   by_cases e3:K.hold r=1
   ·rw[if_pos e3,aJ e2];exact hu
   ·rw[if_neg e3];exact hu
 len:=by show K.us.length=cI.length;rw[hl];exact h.len
 fit:=h.fit
 held:=fun s hs=>by
  have hs':cI.getD s 0≠0:=hs
  by_cases e2:s=r
  ·subst e2;exact h.held s (by omega)
  ·rw[o1 s e2]at hs';exact h.held s hs'
 mx:=fun s=>by
  show cI.getD s 0≤65535
  have:=h.mx r
  by_cases e2:s=r
  ·subst e2;omega
  ·rw[o1 s e2];exact h.mx s
 room:=h.room
 cap:=h.cap
theorem iP.congr(h:iP K S E P){E':Nat→Prop}{P':Nat→Nat}(hE:∀s,E s↔E' s)(hP:∀s,2≤s→P s=P' s):iP K S E' P' where
 two:=h.two
 var:=h.var
 ne:=h.ne
 lo:=h.lo
 hi:=h.hi
 int:=h.int
 iJ:=fun d r=>by rw[h.iJ,hE]
 use:=fun{s e} hs=>by rw[←hP s (h.two hs).1];exact h.use hs
 len:=h.len
 fit:=h.fit
 held:=h.held
 mx:=h.mx
 room:=h.room
 cap:=h.cap
def gS:Nat→Prop:=fun _=>False
def zero':Nat→Nat:=fun _=>0
structure Ok(K:Kd)(S:Nat→Fn)(ah:Nat→Nat):Prop where
 mid:iP K S gS zero'
 pos:Pos K
 lv:j8 K.n ah
 wf:WF K.n ah K.N
theorem iP.uq(h:iP K S gS P){r r':Nat}{d:Nd}(h1:K.N r=some d)(h2:K.N r'=some d):r=r':=by
 have a:=(h.iJ d r).2 ⟨h1,fun x=>x⟩
 have b:=(h.iJ d r').2 ⟨h2,fun x=>x⟩
 rw[a]at b;cases b;rfl
theorem iP.wf(h:iP K S gS P){ah:Nat→Nat}(hl:∀{r d},K.N r=some d→ah d.v<dep K.n ah K.N d.lo∧ah d.v<dep K.n ah K.N d.hi):WF K.n ah K.N:=
 ⟨fun hd=>(h.two hd).1,h.var,h.ne,fun hd=>⟨h.lo hd,(hl hd).1⟩,fun hd=>⟨h.hi hd,(hl hd).2⟩,h.uq⟩
theorem Ok.reach{ah:Nat→Nat}(h:Ok K S ah):Reach K.N (fun r=>K.hold r≠0):=fun r d hd=>by
 have hu:=h.mid.use hd
 have hp:=h.pos r d hd
 by_cases e:K.hold r=0
 ·rw[if_pos e]at hu
  have:zero' r=0:=rfl
  obtain⟨s,e',_,h1,h2⟩:=qv (N:=K.N) (r:=r) (k:=K.cap) (by omega)
  exact .inr ⟨s,e',h1,h2⟩
 ·exact .inl e
theorem Ok.dom{ah:Nat→Nat}(h:Ok K S ah):∃dom:List Nat,dom.Nodup∧dom.length+2=K.used∧∀r,r∈dom↔∃d,K.N r=some d:=by
 refine⟨(List.range K.cap).filter fun r=>(K.N r).isSome,List.nodup_range.filter _,by rw[zZ,h.mid.room];omega,fun r=>?_⟩
 rw[List.mem_filter,List.mem_range,Option.isSome_iff_exists]
 exact⟨fun h=>h.2,fun⟨d,hd⟩=>⟨(h.mid.two hd).2,d,hd⟩⟩
def Kd.held(K:Kd)(S:Nat→Fn):Fn→Prop:=Fs S fun r=>K.hold r≠0
theorem Ok.size{ah:Nat→Nat}{ord:List Nat}(h:Ok K S ah)(ho:Ord K.n ah ord):qF (aO K.n ord (K.held S)) (K.used-2):=by
 obtain⟨dom,h1,h2,h3⟩:=h.dom
 have hc:=vZ h.wf h.lv h.mid.int h1 h3
 rw[show dom.length=K.used-2 by omega]at hc
 refine hc.congr fun g=>?_
 exact(l8 h.wf h.lv ho h.mid.int (fun r hr=>.inr (h.mid.held r hr)) h.reach g).symm
end aE
