import Derived.Test.YtfgkdmbicjdeoaaGreatJ1
import Derived.ChangeKeysEq
import Derived.Laws.StructEq
import Derived.Defers
import Derived.Test.YtfgkdmbicjdeoaaGreatProg
set_option linter.unusedVariables false
set_option linter.unusedSimpArgs false
set_option linter.unusedSectionVars false
namespace Go.Sx
open Go
section
variable {P:Program} {H:Hp}
theorem au.int{t e:Nat}{kd:IntKind}{x:Int}{K:Value→Hp→Prop}(h1:P.underlying t=some (.slice e))(h2:dg P e=some 1)(h3:eW P e=some (.int kd 0))
 (h:∀b,K (.slice (some ⟨b,0,none⟩) 1 1) ((b,.cells (aA kd [x]) e (0,0))::H)):au P t 1 [(0,.int kd x)] H K:=by
 refine⟨aA kd [x],e,1,_,h1,h2,h3,by decide,?_,fun b _=>h b⟩
 have e1:Array.range 1=#[0]:=rfl
 simp[Instr.fill,Value.cells,aA,e1]
theorem au.none{t e k:Nat}{z:Value}{K:Value→Hp→Prop}(h1:P.underlying t=some (.slice e))(h2:dg P e=some k)(h3:eW P e=some z)
 (h:∀b,K (.slice (some ⟨b,0,none⟩) 0 0) ((b,.cells #[] e (0,0))::H)):au P t 0 [] H K:=by
 refine⟨_,e,k,z,h1,h2,h3,by simp,rfl,fun b _=>?_⟩
 have:((Array.range (0*k)).map fun i=>z.cells[i%z.cells.size]!)=#[]:=by simp
 rw[this];exact h b
def qU(l:List UInt8):List (List Value):=l.map fun b=>[Value.int .u8 b.toNat]
theorem Hl(l:List UInt8):rows (qU l)=(l.map fun b=>Value.int .u8 b.toNat).toArray:=by
 unfold rows qU
 congr 1
 induction l with
 |nil=>rfl
 |cons b r ih=>simp[ih]
theorem jO.own{T:TypeId}{v:Value}{l:List UInt8}{C:Hp}(h:aS T 1 v (qU l) C)(hs:∀x∈C,x∈H){K:Value→Prop}(hk:K (.string ⟨l.toArray⟩)):jO H v K:=by
 obtain⟨a,cap,h1,h2⟩:=((Sl.mg h (by decide)).mono hs).cells
 refine⟨a,_,cap,l,h1,?_,by simp[qU],hk⟩
 rw[Hl,Nat.mul_one]at h2;exact h2
def xy(l:List UInt8):Value:=.string ⟨l.toArray⟩
theorem sW(a b:List UInt8):((⟨a.toArray⟩:ByteArray)==⟨b.toArray⟩)=decide (a=b):=by
 rw[beq_toListBytes,ByteArray.toList_eq,ByteArray.toList_eq]
 simp only[List.toList_toArray]
 rw[Bool.eq_iff_iff];simp
theorem KN(a b:List UInt8):Instr.sameNow .string (xy a) (xy b)=some (decide (a=b)):=by
 show some _=some _
 rw[sW]
theorem G7(a:List UInt8):Instr.sameBits 10000 (xy a) (xy a)=true:=by
 show((⟨a.toArray⟩:ByteArray)==⟨a.toArray⟩)=true
 rw[sW];simp
theorem ae.VU{a b:List UInt8}{k:Value→Prop}(h:k (.bool (decide (a≠b)))):ae .str .neq (xy a) (xy b) k:=by
 refine⟨_,rfl,?_⟩
 have:(!((⟨a.toArray⟩:ByteArray).toList==(⟨b.toArray⟩:ByteArray).toList))=decide (a≠b):=by
  rw[←beq_toListBytes,sW];simp
 rw[this];exact h
def fI(n:Nat)(B:Hp)(es:Array MapEntry)(ck:Nat)(m:List (List UInt8×List Nat)):Prop:=
 aV xy (fun v ws=>Co B v ⟨n,ws⟩) es ck m∧∀x∈m,x.1=aG.gg x.2∧aG.fA n x.2
theorem fI.mono{n:Nat}{B B':Hp}{es:Array MapEntry}{ck:Nat}{m:List (List UInt8×List Nat)}(h:fI n B es ck m)(hs:∀x∈B,x∈B'):fI n B' es ck m:=⟨h.1.mono fun _ _ h=>h.mono hs,h.2⟩
theorem fI.empty(n:Nat)(B:Hp):fI n B #[] 0 []:=⟨aV.empty,by simp⟩
def xu(m:List (List UInt8×List Nat))(ws:List Nat):List (List UInt8×List Nat):=gY m (aG.gg ws) ws
theorem fI.nodup{n:Nat}{B:Hp}{es:Array MapEntry}{ck:Nat}{m:List (List UInt8×List Nat)}(h:fI n B es ck m):(m.map Prod.snd).Nodup:=by
 have h1:=h.1.nd
 have e:m.map Prod.fst=(m.map Prod.snd).map aG.gg:=by
  rw[List.map_map];apply List.map_congr_left;intro x hx;exact(h.2 x hx).1
 rw[e]at h1
 exact List.Pairwise.of_map aG.gg (fun a b hne e=>hne (by rw[e])) h1
theorem qu{n:Nat}{m:List (List UInt8×List Nat)}{ws:List Nat}(hm:∀x∈m,x.1=aG.gg x.2∧aG.fA n x.2)(hf:aG.fA n ws):∀x,x∈(xu m ws).map Prod.snd↔x∈m.map Prod.snd∨x=ws:=by
 intro x
 unfold xu gY
 split
 ·rename_i hk
  obtain⟨y,hy,hky⟩:=List.mem_map.1 hk
  have hyw:y.2=ws:=(hm y hy).2.key_inj hf (by rw[←(hm y hy).1,hky])
  have:(m.map fun y=>if y.1=aG.gg ws then(aG.gg ws,ws)else y)=m:=by
   conv=>rhs;rw[←List.map_id m]
   apply List.map_congr_left
   intro z hz
   split
   ·rename_i hzk
    have:z.2=ws:=(hm z hz).2.key_inj hf (by rw[←(hm z hz).1,hzk])
    simp only[id];rw[←hzk,←this]
   ·rfl
  rw[this]
  constructor
  ·exact .inl
  ·rintro(h|rfl)
   ·exact h
   ·exact List.mem_map.2 ⟨y,hy,hyw⟩
 ·simp
theorem Oz{n:Nat}{m:List (List UInt8×List Nat)}{ws:List Nat}(hm:∀x∈m,x.1=aG.gg x.2∧aG.fA n x.2)(hf:aG.fA n ws):∀x∈xu m ws,x.1=aG.gg x.2∧aG.fA n x.2:=by
 intro x hx
 unfold xu gY at hx
 split at hx
 ·obtain⟨y,hy,rfl⟩:=List.mem_map.1 hx
  split
  ·exact⟨rfl,hf⟩
  ·exact hm y hy
 ·rcases List.mem_append.1 hx with hx|hx
  ·exact hm x hx
  ·simp at hx;subst hx;exact⟨rfl,hf⟩
theorem fI.cg{n:Nat}{B:Hp}{es:Array MapEntry}{ck b:Nat}{m:List (List UInt8×List Nat)}{ws:List Nat}{val:Value}{K:Hp→Prop}(h:fI n B es ck m)(hv:Co B val ⟨n,ws⟩)(hf:aG.fA n ws)
 (h1:∀es' cO,fI n B es' cO (xu m ws)→∃H',cM b (.map es ck) (.map es' cO) H H'∧K H'):gF .string H (.map (some b)) (xy (aG.gg ws)) val K:=
 aV.cg KN G7 h.1 hv fun es' cO he=>h1 es' cO ⟨he,Oz h.2 hf⟩
end
end Go.Sx
namespace Go.Sx
open Go
section
variable {P:Program} {g:Gh} {H:Hp}
theorem aS.apps{elem k bytes:Nat}{zero:Value}{v:Value}{rs:List (List Value)}{C A B:Hp}(h:aS elem k v rs C){xa:Option Addr}{xc:Nat}{r2:List (List Value)}
 (hx:Cells (A++(C++B)) xa (r2.length*k) (rows r2))(hr:∀r∈r2,r.length=k)(h1:∀r∈r2,∀u∈r,u.oneCell'=true)(hz:∃z:List Value,zero.cells=z.toArray∧z.length=k)
 (hb:(rs.length+r2.length)*bytes≤140737488355328)(ca:rs.length+r2.length≤9223372036854775807){K:Value→Hp→Prop}
 (hk:∀v' C',aS elem k v' (rs++r2) C'→K v' (A++(C'++B))):App P elem k bytes zero (A++(C++B)) v (.slice xa r2.length xc) K:=by
 obtain⟨z,LN,HS⟩:=hz
 have hnone:∀u∈(rows r2).toList,u.oneCell'=true:=by
  intro u hu
  simp only[rows,List.mem_flatten]at hu
  obtain⟨r,h2,h3⟩:=hu
  exact h1 r h2 u h3
 rcases h with⟨rfl,rfl,rfl⟩|⟨b,aM,rfl,rfl,aJ⟩
 ·refine⟨none,0,0,xa,r2.length,xc,#[],rows r2,rfl,rfl,rfl,hx,bJ hr,by simp,hnone,fun h=>?_,fun _=>⟨by simpa using hb,by simpa using ca,fun fD hn b hbf=>?_⟩⟩
  ·have:r2=[]:=List.eq_nil_of_length_eq_zero (by omega)
   subst this
   exact hk _ [] (.inl ⟨rfl,rfl,rfl⟩)
  ·rw[show(#[]:Array Value)++rows r2++Builtin.zeroCells zero.cells (fD-(0+r2.length))=rows ([]++r2++List.replicate (fD-r2.length) z)by rw[LN,o9 z HS];simp only[Nat.zero_add,Array.empty_append,List.nil_append];rw[dI]]
   refine⟨_,aU.QK [(b,_)] A B,hk _ [(b,_)] (.inr ⟨b,List.replicate (fD-r2.length) z,?_,rfl,?_⟩)⟩
   ·simp;omega
   ·intro x hx
    rcases List.mem_append.1 hx with hx|hx
    ·exact hr x hx
    ·rw[List.eq_of_mem_replicate hx,HS]
 ·have hsz:=bJ aJ
  have nY:∀x∈rs,x.length=k:=fun x hx=>aJ x (by simp[hx])
  have hold:rows rs=(rows (rs++aM)).extract 0 (0+rs.length*k):=by
   rw[←dI]
   apply Array.ext'
   have:=bJ nY
   have h2:(rows rs).toList.length=rs.length*k:=by rw[Array.length_toList];exact this
   rw[Array.toList_extract,Array.toList_append,List.extract_eq_take_drop,List.drop_zero,Nat.zero_add,Nat.sub_zero,←h2,List.take_left]
  refine⟨some ⟨b,0,none⟩,rs.length,rs.length+aM.length,xa,r2.length,xc,rows rs,rows r2,rfl,rfl,.inr ⟨rfl,_,elem,(0,0),by simp,?_,hold⟩,hx,bJ hr,bJ nY,hnone,fun hfit=>?_,fun hgrow=>⟨hb,by omega,fun fD hn b' hbf=>?_⟩⟩
  ·rw[hsz];simp only[List.length_append,Nat.zero_add];exact Nat.mul_le_mul_right _ (by omega)
  ·obtain⟨j1,j2,rfl,hj⟩:∃j1 j2,aM=j1++j2∧j1.length=r2.length:=⟨aM.take r2.length,aM.drop r2.length,(List.take_append_drop _ _).symm,by rw[List.length_take];omega⟩
   have Xm:∀x∈j1,x.length=k:=fun x hx=>aJ x (by simp[hx])
   refine⟨_,elem,_,rfl,?_,((cM.head _).append B).bW A,hk _ [(b,_)] (.inr ⟨b,j2,?_,?_,?_⟩)⟩
   ·rw[hsz,List.length_append,List.length_append,hj,Nat.add_mul,Nat.add_mul]
    show 0+rs.length*k+r2.length*k≤_
    omega
   ·simp;omega
   ·have e:(⟨b,0,none⟩:Addr).off+rs.length*k=rs.length*k:=by simp
    have l1:=cT rs nY
    have l2:=cT j1 Xm
    have l3:=cT r2 hr
    have e2:iP (rows (rs++(j1++j2))) (rs.length*k) (rows r2).toList=rows (rs++r2++j2):=by
     unfold rows
     rw[List.flatten_append,List.flatten_append,List.toList_toArray,pB _ _ _ (by rw[List.length_append,List.length_append,l1,l2,l3,hj];omega)]
     congr 1
     rw[List.flatten_append,List.flatten_append,←l1,List.take_left,l3,←hj,←l2,List.drop_append,←List.append_assoc]
     simp[List.drop_append]
    rw[e,e2]
   ·intro x hx
    simp only[List.append_assoc,List.mem_append]at hx
    rcases hx with hx|hx|hx
    ·exact nY x hx
    ·exact hr x hx
    ·exact aJ x (by simp[hx])
  ·refine⟨A++([(b',_)]++B),?_,hk _ [(b',_)] (.inr ⟨b',List.replicate (fD-(rs.length+r2.length)) z,?_,rfl,?_⟩)⟩
   ·rw[LN,o9 z HS,dI,dI]
    exact fun g w h=>(aU.VX [[_],A,[_],B] [[_],A,[_],B] ((List.perm_append_comm (l₁:=[_,A]) (l₂:=[_])).append_right [B]|>.trans (.cons _ (.swap _ _ _))) g w h).tail
   ·simp;omega
   ·intro x hx
    rcases List.mem_append.1 hx with hx|hx
    ·rcases List.mem_append.1 hx with hx|hx
     ·exact nY x hx
     ·exact hr x hx
    ·rw[List.eq_of_mem_replicate hx,HS]
def aP(T:TypeId)(kd:IntKind)(v:Value)(l:List Int)(C:Hp):Prop:=aS T 1 v (l.map fun n=>[Value.int kd n]) C
theorem aP.nil{T:TypeId}{kd:IntKind}:aP T kd (.slice none 0 0) [] []:=aS.nil _ _
theorem aP.bQ{T:TypeId}{kd:IntKind}{v:Value}{l:List Int}{C:Hp}(h:aP T kd v l C){K:Value→Prop}(hk:K (.int .i64 l.length)):aO v K:=aS.bQ h (by simpa using hk)
theorem aP.ints{T:TypeId}{kd:IntKind}{v:Value}{l:List Int}{C:Hp}(h:aP T kd v l C):cX kd C v l:=Sl.mg h (by decide)
theorem aP.app{T:TypeId}{kd:IntKind}{v:Value}{l:List Int}{C A B:Hp}{bytes:Nat}(h:aP T kd v l C){xb xc:Nat}{x:Int}{xT:TypeId}{fz:Nat×Nat}(hx:(xb,Obj.cells (aA kd [x]) xT fz)∈A++(C++B))
 (hb:(l.length+1)*bytes≤140737488355328)(hm:l.length+1≤9223372036854775807){K:Value→Hp→Prop}(hk:∀v' C',aP T kd v' (l++[x]) C'→K v' (A++(C'++B))):App P T 1 bytes (.int kd 0) (A++(C++B)) v (.slice (some ⟨xb,0,none⟩) 1 xc) K:=
 aS.IJ (r:=[.int kd x]) h hx rfl (by simp[Value.oneCell']) ⟨[.int kd 0],rfl,rfl⟩ (by simpa using hb) (by simpa using hm) fun v' C' ho=>hk v' C' (by unfold aP;simpa using ho)
theorem aP.apps{T:TypeId}{kd:IntKind}{v x:Value}{l l2:List Int}{C A B:Hp}{bytes:Nat}(h:aP T kd v l C)(hx:cX kd (A++(C++B)) x l2)
 (hb:(l.length+l2.length)*bytes≤140737488355328)(hm:l.length+l2.length≤9223372036854775807){K:Value→Hp→Prop}(hk:∀v' C',aP T kd v' (l++l2) C'→K v' (A++(C'++B))):App P T 1 bytes (.int kd 0) (A++(C++B)) v x K:=by
 obtain⟨a,cap,rfl,hc⟩:=Sl.cells hx
 exact aS.apps h hc (by simp) (by simp[Value.oneCell']) ⟨[.int kd 0],rfl,rfl⟩ (by simpa using hb) (by simpa using hm) fun v' C' ho=>hk v' C' (by unfold aP;rw[List.map_append];exact ho)
theorem au.Wi{t e:Nat}{kd:IntKind}{x y z:Int}{K:Value→Hp→Prop}(h1:P.underlying t=some (.slice e))(h2:dg P e=some 1)(h3:eW P e=some (.int kd 0))
 (h:∀b,K (.slice (some ⟨b,0,Option.none⟩) 3 3) ((b,.cells (aA kd [x,y,z]) e (0,0))::H)):au P t 3 [(0,.int kd x),(1,.int kd y),(2,.int kd z)] H K:=by
 refine⟨aA kd [x,y,z],e,1,_,h1,h2,h3,by decide,?_,fun b _=>h b⟩
 have e1:Array.range (3*1)=#[0,1,2]:=rfl
 simp[Instr.fill,Value.cells,aA,e1]
end
end Go.Sx
namespace Go.Sx
open Go
section
variable {P:Program}
theorem Ar{e:TypeId}{i:TypeInfo}(hi:P.info? e=some i)(hs:i.size=1):P.cellsOf e=1:=by simp[Program.cellsOf,hi,hs]
theorem pA{e:TypeId}{q:IntKind}(hu:P.underlying e=some (.int q)){l:List Int}{j:Nat}{x:Int}(h:l[j]? =some x)(w:World):(part e (aA q l) j).run P w=.ok (.int q x) w:=by
 simp[part,isAgg,run_underlying hu,aA,h]
theorem pT{e:TypeId}{q:IntKind}(hu:P.underlying e=some (.int q))(hc:P.cellsOf e=1)(d:Nat)(l l':List Int)(w:World):∀is:List Nat,(∀i∈is,i<l.length∧i<l'.length)→
  (Op.eqItems (d+1) e (P.cellsOf e) (aA q l) (aA q l') is).run P w=.ok (is.all fun i=>l[i]? ==l'[i]?) w
 | [],_=>by simp[Op.eqItems]
 |i::is,h=>by
  obtain⟨h1,h2⟩:=h i (by simp)
  have g1:l[i]? =some l[i]:=List.getElem?_eq_getElem h1
  have g2:l'[i]? =some l'[i]:=List.getElem?_eq_getElem h2
  have p1:=pA (P:=P) hu g1 w
  have p2:=pA (P:=P) hu g2 w
  have p3:(Op.equalIn (d+1) e (.int q l[i]) (.int q l'[i])).run P w=.ok (l[i]==l'[i]) w:=by
   simp only[Op.equalIn,Sem.run_bind,run_underlying hu,Result.andThen_ok,if_true,Sem.run_pure]
  have ih:=pT hu hc d l l' w is fun j hj=>h j (by simp[hj])
  simp only[Op.eqItems,hc,Nat.mul_one,Sem.run_bind,p1,p2,p3,Result.andThen_ok]at ih⊢
  rw[List.all_cons,g1,g2]
  cases hb:(l[i]==l'[i])
  ·simp[hb]
  ·simp[hb,ih]
theorem AL.array{t e:TypeId}{q:IntKind}{n:Nat}(ht:P.underlying t=some (.array n e))(hu:P.underlying e=some (.int q))(hz:dg P e=some 1)(l l':List Int)(h1:l.length=n)(h2:l'.length=n):
  AL P t (.agg (aA q l)) (.agg (aA q l')) (decide (l=l')):=by
 obtain⟨i,hi,hs⟩:=bC hz
 have hc:=Ar hi hs
 intro w
 show(Op.equalIn (9998+1+1) t _ _).run P w=_
 rw[run_equalIn_array w (9998+1) _ _ ht hi,pT hu hc 9998 l l' w _ (fun j hj=>by have:=List.mem_range.1 hj;omega)]
 congr 1
 rw[Bool.eq_iff_iff]
 simp only[List.all_eq_true,List.mem_range,decide_eq_true_eq,beq_iff_eq]
 constructor
 ·intro h
  apply List.ext_getElem?
  intro j
  by_cases hj:j<n
  ·exact h j hj
  ·rw[List.getElem?_eq_none (by omega),List.getElem?_eq_none (by omega)]
 ·rintro rfl j _;rfl
theorem lM.array{t e:TypeId}{q:IntKind}{n:Nat}(ht:P.underlying t=some (.array n e))(hu:P.underlying e=some (.int q))(hz:dg P e=some 1)(l:List Int)(h1:l.length=n):lM P t (.agg (aA q l)):=by
 obtain⟨i,hi,hs⟩:=bC hz
 intro b w
 have gen:∀d,(Instr.checkKey b (d+1+1) t (.agg (aA q l))).run P w=.ok () w:=by
  intro d
  have p2:∀x:Int,(Instr.checkKey b (d+1) e (.int q x)).run P w=.ok () w:=fun x=>by
   simp only[Instr.checkKey,Sem.run_bind,run_underlying hu,Result.andThen_ok,Sem.run_pure]
  unfold Instr.checkKey
  simp only[Sem.run_bind,run_underlying ht,Result.andThen_ok]
  simp only[Std.Legacy.Range.forIn_eq_forIn_range',Std.Legacy.Range.size,Nat.sub_zero,Nat.add_one_sub_one,Nat.div_one]
  have key:∀is:List Nat,(∀j∈is,j<l.length)→(forIn is PUnit.unit fun j (_:PUnit)=>(do
     Instr.checkKey b (d+1) e (←part e (aA q l) (j*(←sizeOf e)))
     pure (ForInStep.yield PUnit.unit):Sem (ForInStep PUnit))).run P w=.ok PUnit.unit w:=by
   intro is
   induction is with
   |nil=>intro _;simp
   |cons j is ih=>
    intro h
    have p1:=pA (P:=P) hu (List.getElem?_eq_getElem (h j (by simp))) w
    simp only[List.forIn_cons,Sem.run_bind,run_sizeOf hi,Result.andThen_ok,hs,Nat.mul_one,p1,p2,Sem.run_pure]
    exact ih fun k hk=>h k (by simp[hk])
  have:=key (List.range' 0 n) (fun j hj=>by have:=List.mem_range'_1.1 hj;omega)
  rw[this];rfl
 exact gen 9998
end
end Go.Sx
namespace Go.Sx
open Go
section
variable {P:Program} {g:Gh} {H:Hp}
def ug(P:Program)(t:TypeId)(x y:Value):Prop:=
 (∃q a b,P.underlying t=some (.int q)∧x=.int q a∧y=.int q b)∨(∃a b,P.underlying t=some .bool∧x=.bool a∧y=.bool b)
theorem ug.eq{t:TypeId}{x y:Value}(h:ug P t x y)(d:Nat)(w:World):∃b,(Op.equalIn (d+1) t x y).run P w=.ok b w∧(b=true↔x=y):=by
 rcases h with⟨q,a,b,hu,rfl,rfl⟩|⟨a,b,hu,rfl,rfl⟩
 ·exact⟨a==b,by simp[Op.equalIn,run_underlying hu],by simp⟩
 ·exact⟨a==b,by simp[Op.equalIn,run_underlying hu],by simp⟩
theorem oC{t:TypeId}{xs:Array Value}{o:Nat}{x:Value}(hu:(∃q,P.underlying t=some (.int q))∨P.underlying t=some .bool)(h:xs[o]? =some x)(w:World):(part t xs o).run P w=.ok x w:=by
 rcases hu with⟨q,hu⟩|hu<;>simp[part,isAgg,run_underlying hu,h]
theorem n6(d:Nat)(xs ys:Array Value)(w:World):∀fs:List Field,(∀f∈fs,f.name≠ "_" ∧∃x y,xs[f.offset]? =some x∧ys[f.offset]? =some y∧ug P f.type x y)→
  ∃b,(Op.eqFields (d+1) xs ys fs).run P w=.ok b w∧(b=true↔∀f∈fs,xs[f.offset]? =ys[f.offset]?)
 | [],_=>⟨true,by simp[Op.eqFields],by simp⟩
 |f::fs,h=>by
  obtain⟨hn,x,y,hx,hy,hp⟩:=h f (by simp)
  obtain⟨b',ih,hb'⟩:=n6 d xs ys w fs fun g hg=>h g (by simp[hg])
  have hu:(∃q,P.underlying f.type=some (.int q))∨P.underlying f.type=some .bool:=by
   rcases hp with⟨q,_,_,hu,_⟩|⟨_,_,hu,_⟩
   ·exact .inl ⟨q,hu⟩
   ·exact .inr hu
  obtain⟨b,hr,hb⟩:=hp.eq d w
  have p1:=oC hu hx w
  have p2:=oC hu hy w
  cases b with
  |false=>
   refine⟨false,by simp[Op.eqFields,hn,p1,p2,hr],?_⟩
   simp only[Bool.false_eq_true,List.mem_cons,forall_eq_or_imp,false_iff,hx,hy,Option.some.injEq]
   exact fun hh=>absurd (hb.2 hh.1) (by decide)
  |true=>
   refine⟨b',by simp[Op.eqFields,hn,p1,p2,hr,ih],?_⟩
   rw[hb']
   simp only[List.mem_cons,forall_eq_or_imp,hx,hy,Option.some.injEq,hb.1 rfl,true_and]
theorem AL.flat{t:TypeId}{fs:Array Field}(ht:P.underlying t=some (.struct fs))(hp:P.stoodInHeld t=false){xs ys:Array Value}{p:Prop}[Decidable p]
 (h:∀f∈fs.toList,f.name≠ "_" ∧∃x y,xs[f.offset]? =some x∧ys[f.offset]? =some y∧ug P f.type x y)(he:(∀f∈fs.toList,xs[f.offset]? =ys[f.offset]?)↔p):AL P t (.agg xs) (.agg ys) (decide p):=by
 have e:P.fieldsOf t=fs:=by simp[Program.fieldsOf,ht]
 intro w
 show(Op.equalIn (9998+1+1) t _ _).run P w=_
 rw[run_equalIn_struct w (9998+1) t xs ys (by rw[e];exact ht) hp,e]
 obtain⟨b,hr,hb⟩:=n6 (P:=P) 9998 xs ys w fs.toList h
 rw[hr]
 congr 1
 rw[Bool.eq_iff_iff,hb,he,decide_eq_true_eq]
theorem lM.flat{t:TypeId}{fs:Array Field}(ht:P.underlying t=some (.struct fs)){xs:Array Value}
 (h:∀f∈fs.toList,f.name≠ "_" ∧∃x,xs[f.offset]? =some x∧ug P f.type x x):lM P t (.agg xs):=by
 intro b w
 have gen:∀d,(Instr.checkKey b (d+1+1) t (.agg xs)).run P w=.ok () w:=by
  intro d
  unfold Instr.checkKey
  simp only[Sem.run_bind,run_underlying ht,Result.andThen_ok]
  rw[←Array.forIn_toList]
  clear ht
  generalize fs.toList=l at h
  induction l with
  |nil=>simp
  |cons f l ih=>
   obtain⟨hn,x,hx,hp⟩:=h f (by simp)
   have hu:(∃q,P.underlying f.type=some (.int q))∨P.underlying f.type=some .bool:=by
    rcases hp with⟨q,_,_,hu,_⟩|⟨_,_,hu,_⟩
    ·exact .inl ⟨q,hu⟩
    ·exact .inr hu
   have p1:=oC hu hx w
   have p2:(Instr.checkKey b (d+1) f.type x).run P w=.ok () w:=by
    rcases hp with⟨q,a,_,hu,rfl,_⟩|⟨a,_,hu,rfl,_⟩
    ·simp only[Instr.checkKey,Sem.run_bind,run_underlying hu,Result.andThen_ok,Sem.run_pure]
    ·simp only[Instr.checkKey,Sem.run_bind,run_underlying hu,Result.andThen_ok,Sem.run_pure]
   have:=ih fun g hg=>h g (by simp[hg])
   simp only[List.forIn_cons,Sem.run_bind]
   simp[hn,p1,p2]
   simpa using this
 exact gen 9998
theorem jG(n:Nat){xs:Array Value}(h:∀x∈xs.toList,(∃q a,x=.int q a)∨∃a,x=.bool a):Instr.sameBits (n+1+1) (.agg xs) (.agg xs)=true:=by
 simp only[Instr.sameBits,beq_self_eq_true,Bool.true_and,List.all_eq_true]
 intro x hx
 obtain⟨a,b⟩:=x
 have h1:=List.of_mem_zip hx
 have e:a=b:=by
  obtain⟨i,hi,he⟩:=List.mem_iff_getElem.1 hx
  simp at he
  exact he.1.symm.trans he.2
 subst e
 rcases h a h1.1 with⟨q,z,rfl⟩|⟨z,rfl⟩<;>simp[Instr.sameBits]
end
section
variable {κ:Type} [DecidableEq κ] {β:Type} {ke:κ→Value} {vr:Value→β→Prop} {es:Array MapEntry} {ck b:Nat} {m:List (κ×β)} {P:Program} {H:Hp}
def oF(m:List (κ×β))(k:κ):List (κ×β):=m.filter fun y=>¬y.1=k
theorem vU{k k':κ}:ew (oF m k) k'=if k'=k then none else ew m k':=by
 unfold ew oF
 rw[List.find?_filter]
 by_cases e:k'=k
 ·rw[if_pos e]
  rw[List.find?_eq_none.2]
  ·rfl
  ·intro x _;simp;intro h1 h2;exact h1 (h2.trans e)
 ·rw[if_neg e]
  congr 1
  congr 1
  funext y
  by_cases e2:y.1=k'
  ·have:¬y.1=k:=fun e3=>e (e2.symm.trans e3)
   simp[e2,this,e]
  ·simp[e2]
theorem vT{k k':κ}{x:β}:ew (gY m k x) k'=if k'=k then some x else ew m k':=by
 unfold ew gY
 by_cases hk:k∈m.map Prod.fst
 ·rw[if_pos hk]
  by_cases e:k'=k
  ·subst e
   rw[if_pos rfl]
   induction m with
   |nil=>simp at hk
   |cons y m ih=>
    rw[List.map_cons,List.find?_cons]
    by_cases ey:y.1=k'
    ·simp[ey]
    ·rw[if_neg ey]
     simp only[ey,decide_false]
     rw[ih]
     rw[List.map_cons]at hk
     rcases List.mem_cons.1 hk with h|h
     ·exact absurd h.symm ey
     ·simpa using h
  ·rw[if_neg e]
   have:∀l:List (κ×β),(List.find? (fun y=>decide (y.1=k')) (l.map fun y=>if y.1=k then(k,x)else y)).map Prod.snd=(List.find? (fun y=>decide (y.1=k')) l).map Prod.snd:=by
    intro l
    induction l with
    |nil=>rfl
    |cons y l ih=>
     rw[List.map_cons,List.find?_cons,List.find?_cons]
     by_cases ey:y.1=k
     ·have h1:decide (k=k')=false:=by simpa using fun h=>e h.symm
      have h2:decide (y.1=k')=false:=by rw[ey];exact h1
      simp only[if_pos ey,h1,h2]
      exact ih
     ·simp only[if_neg ey]
      cases decide (y.1=k')with
      |true=>rfl
      |false=>exact ih
   exact this m
 ·rw[if_neg hk]
  rw[List.find?_append]
  by_cases e:k'=k
  ·subst e
   have:List.find? (fun y=>decide (y.1=k')) m=none:=by
    rw[List.find?_eq_none];intro y hy;simp;intro h;exact hk (List.mem_map.2 ⟨y,hy,h⟩)
   simp[this]
  ·have:¬k=k':=fun h=>e h.symm
   rw[if_neg e]
   cases List.find? (fun y=>decide (y.1=k')) m<;>simp[this]
theorem ti(nd:(m.map Prod.fst).Nodup){i:Nat}{k:κ}{y:β}(hi:m[i]? =some (k,y)):oF m k=m.eraseIdx i:=by
 unfold oF
 induction m generalizing i with
 |nil=>simp at hi
 |cons z m ih=>
  rw[List.map_cons,List.nodup_cons]at nd
  cases i with
  |zero=>
   simp at hi;subst hi
   rw[List.eraseIdx_cons_zero,List.filter_cons_of_neg (by simp)]
   rw[List.filter_eq_self]
   intro w hw
   simp only[decide_not,Bool.not_eq_true',decide_eq_false_iff_not]
   intro e
   exact nd.1 (List.mem_map.2 ⟨w,hw,e⟩)
  |succ i=>
   simp at hi
   have hz:¬z.1=k:=fun e=>nd.1 (List.mem_map.2 ⟨_,List.mem_of_getElem? hi,e.symm⟩)
   rw[List.eraseIdx_cons_succ,List.filter_cons_of_pos (by simpa using hz),ih nd.2 hi]
omit [DecidableEq κ] in
theorem aV.less(h:aV ke vr es ck m)(i:Nat):aV ke vr (es.eraseIdxIfInBounds i) ck (m.eraseIdx i):=by
 have hl:(es.eraseIdxIfInBounds i).toList=es.toList.eraseIdx i:=by
  unfold Array.eraseIdxIfInBounds
  split
  ·simp
  ·rename_i hh;rw[List.eraseIdx_of_length_le (by simpa using hh)]
 refine⟨?_,fun j e x he hx=>?_,?_,?_,fun e he=>?_⟩
 ·have:=congrArg List.length hl
  rw[Array.length_toList,List.length_eraseIdx]at this
  rw[this,List.length_eraseIdx,Array.length_toList,h.len]
 ·rw[←Array.getElem?_toList,hl,List.getElem?_eraseIdx]at he
  rw[List.getElem?_eraseIdx]at hx
  split at he
  ·rename_i hh;rw[if_pos hh]at hx;exact h.key j e x (by simpa using he) hx
  ·rename_i hh;rw[if_neg hh]at hx;exact h.key (j+1) e x (by simpa using he) hx
 ·rw[←fT];exact h.nd.sublist (List.eraseIdx_sublist _ _)
 ·rw[hl,←fT];exact h.born.sublist (List.eraseIdx_sublist _ _)
 ·rw[hl]at he;exact h.lt e (List.mem_of_mem_eraseIdx he)
theorem aV.adk{P:Program}{kt:TypeId}{k:κ}{K:Hp→Prop}(hk:∀a b,AL P kt (ke a) (ke b) (decide (a=b)))(hc:∀a,lM P kt (ke a))(h:aV ke vr es ck m)(hm:(b,Obj.map es ck)∈H)
 (h1:∀es',aV ke vr es' ck (oF m k)→∃H',cM b (.map es ck) (.map es' ck) H H'∧K H'):p9 P kt H (.map (some b)) (ke k) K:=by
 refine⟨hc k,.inr ?_⟩
 rcases h.Ah hk k with⟨i,y,e,g1,g2,g3,g4⟩|⟨g1,g2⟩
 ·refine⟨b,es,ck,_,rfl,g4,?_⟩
  have:=h.less i
  rw[←ti h.nd g2]at this
  exact h1 _ this
 ·refine⟨b,es,ck,_,rfl,g2,hm,?_⟩
  have e:oF m k=m:=by
   unfold oF
   rw[List.filter_eq_self]
   intro w hw
   simp only[decide_not,Bool.not_eq_true',decide_eq_false_iff_not]
   intro e
   exact g1 (List.mem_map.2 ⟨w,hw,e⟩)
  obtain⟨H',hu,hK⟩:=h1 es (by rw[e];exact h)
  have:∀{H H':Hp},cM b (.map es ck) (.map es ck) H H'→H'=H:=by
   intro H H' hu
   generalize ho:Obj.map es ck=o at hu
   induction hu with
   |head R=>rfl
   |tail _ ih=>rw[ih]
  rw[this hu]at hK;exact hK
end
section
variable {P:Program} {H:Hp}
theorem aS.FP{T:TypeId}{k:Nat}{v:Value}{rs:List (List Value)}{C:Hp}(hs:aS T k v rs C){i:Nat}{kd:IntKind}{r:List Value}(hr:rs[i]? =some r)(hC:∀y∈C,y∈H){K:Value→Prop}(hk:K (.agg r.toArray)):
  ah k v (.int kd (i:Int)) fun p=>aD k H p K:=by
 have hi:=(List.getElem?_eq_some_iff.1 hr).1
 obtain⟨b',aM,rfl,rfl,aJ⟩:=hs.pos (by omega)
 exact ah.nat hi (aD.row (hC _ (List.Mem.head _)) aJ (by rw[List.getElem?_append_left hi];exact hr) hk)
theorem aS.SG{T:TypeId}{k:Nat}{v x:Value}{rs:List (List Value)}{C:Hp}(hs:aS T k v rs C){i j:Nat}{kd:IntKind}{r:List Value}(hr:rs[i]? =some r)(hj:r[j]? =some x)(hC:∀y∈C,y∈H){K:Value→Prop}(hk:K x):
  ah k v (.int kd (i:Int)) fun p=>aa j p fun q=>Ld H q K:=by
 have hi:=(List.getElem?_eq_some_iff.1 hr).1
 obtain⟨b',aM,rfl,rfl,aJ⟩:=hs.pos (by omega)
 exact ah.nat hi (aa.mk (Ld.row (hC _ (List.Mem.head _)) aJ (by rw[List.getElem?_append_left hi];exact hr) hj hk))
theorem aS.HJ{T:TypeId}{v x:Value}{rs:List (List Value)}{C:Hp}(hs:aS T 1 v rs C){i:Nat}{kd:IntKind}(hr:rs[i]? =some [x])(hC:∀y∈C,y∈H){K:Value→Prop}(hk:K x):
  ah 1 v (.int kd (i:Int)) fun p=>Ld H p K:=by
 have hi:=(List.getElem?_eq_some_iff.1 hr).1
 obtain⟨b',aM,rfl,rfl,aJ⟩:=hs.pos (by omega)
 exact ah.nat hi (Ld.VY (l:=rs++aM) (hC _ (List.Mem.head _)) aJ (by rw[List.getElem?_append_left hi];exact hr) hk)
theorem aS.SF{T:TypeId}{k n:Nat}{v:Value}{rs:List (List Value)}{C:Hp}(hs:aS T k v rs C){i:Nat}{kd:IntKind}{r:List Value}(hr:rs[i]? =some r)(hn:0<n∧n≤k)(hC:∀y∈C,y∈H){K:Value→Prop}(hk:K (.agg (r.take n).toArray)):
  ah k v (.int kd (i:Int)) fun p=>aa 0 p fun q=>aD n H q K:=by
 have hi:=(List.getElem?_eq_some_iff.1 hr).1
 obtain⟨b',aM,rfl,rfl,aJ⟩:=hs.pos (by omega)
 have yF:r.length=k:=aJ r (List.mem_append_left _ (List.mem_of_getElem? hr))
 refine ah.nat hi (aa.mk ?_)
 have yG:At H (.pointer (some ⟨b',0+i*k+0,none⟩)) (r.take n):=⟨b',_,_,_,_,rfl,hC _ (List.Mem.head _),fun j x hj=>by
  have NX:j<n:=by have:=(List.getElem?_eq_some_iff.1 hj).1;simp at this;omega
  rw[List.getElem?_take,if_pos NX]at hj
  rw[Nat.add_zero,Nat.zero_add,gN aJ (by omega),List.getElem?_append_left hi,hr];exact hj⟩
 exact aD.at yG (by simp;omega) hn.1 (fun _ h=>h) hk
theorem Hh{k:Nat}{l:List (List Value)}(h:∀r∈l,r.length=k){i:Nat}{r xs:List Value}(hi:l[i]? =some r)(hx:xs.length≤k):iP (rows l) (i*k) xs=rows (l.set i (xs++r.drop xs.length)):=by
 have hlt:=(List.getElem?_eq_some_iff.1 hi).1
 have hr:=h r (List.mem_of_getElem? hi)
 have key:∀(xs:List Value) (j:Nat) (l:List (List Value)) (r:List Value),(∀r∈l,r.length=k)→l[i]? =some r→j+xs.length≤k→iP (rows l) (i*k+j) xs=rows (l.set i (r.take j++xs++r.drop (j+xs.length))):=by
  intro xs
  induction xs with
  |nil=>
   intro j l r h hi _
   have hlt:=(List.getElem?_eq_some_iff.1 hi).1
   simp only[iP,List.append_nil,List.length_nil,Nat.add_zero,List.take_append_drop]
   congr 1
   apply List.ext_getElem?
   intro m
   rw[List.getElem?_set]
   by_cases e:i=m
   ·subst e;rw[if_pos rfl,hi,if_pos hlt]
   ·rw[if_neg e]
  |cons x xs ih=>
   intro j l r h hi hj
   have hr:=h r (List.mem_of_getElem? hi)
   have hlt:=(List.getElem?_eq_some_iff.1 hi).1
   simp only[List.length_cons]at hj
   rw[iP,nU h hi (by omega),Nat.add_assoc]
   rw[ih (j+1) (l.set i (r.set j x)) (r.set j x) (fun y hy=>by
    rcases List.mem_or_eq_of_mem_set hy with hy|rfl
    ·exact h y hy
    ·simpa using hr) (by simp[hlt]) (by omega)]
   rw[List.set_set]
   congr 2
   have e1:(r.set j x).take (j+1)=r.take j++[x]:=by
    rw[List.set_eq_take_append_cons_drop,if_pos (by omega),List.take_append]
    simp[List.take_take,show min (j+1) j=j by omega,show j+1-min j r.length=1 by omega]
   have e2:(r.set j x).drop (j+1+xs.length)=r.drop (j+(x::xs).length):=by
    rw[List.drop_set,if_pos (by omega)]
    congr 1
    simp;omega
   rw[e1,e2]
   simp
 have:=key xs 0 l r h hi (by omega)
 simpa using this
theorem aS.OR{T:TypeId}{k n:Nat}{v:Value}{rs:List (List Value)}{C A B:Hp}(hs:aS T k v rs C){i:Nat}{kd:IntKind}{r xs:List Value}(hr:rs[i]? =some r)(hx:xs.length=n∧n≤k)(h1:∀x∈xs,x.oneCell'=true){K:Hp→Prop}
 (hk:∀C',aS T k v (rs.set i (xs++r.drop n)) C'→K (A++(C'++B))):ah k v (.int kd (i:Int)) fun p=>aa 0 p fun q=>St n (A++(C++B)) q (.agg xs.toArray) K:=by
 have hi:=(List.getElem?_eq_some_iff.1 hr).1
 obtain⟨b',aM,rfl,rfl,aJ⟩:=hs.pos (by omega)
 refine ah.nat hi (aa.mk ?_)
 have hg:(rs++aM)[i]? =some r:=by rw[List.getElem?_append_left hi];exact hr
 have e:(rs++aM).set i (xs++r.drop xs.length)=rs.set i (xs++r.drop n)++aM:=by rw[List.set_append_left _ _ hi,hx.1]
 refine St.mk (c':=rows (rs.set i (xs++r.drop n)++aM)) (H':=A++([(b',.cells (rows (rs.set i (xs++r.drop n)++aM)) T (0,0))]++B)) (((cM.head _).append B).bW A) (by simpa[Value.cells]using hx.1) ?_ (by simpa[Value.cells]using h1) ?_ ?_
 ·rw[bJ aJ,Nat.zero_add,Nat.add_zero,List.length_append]
  have:=Nat.mul_le_mul_right k (Nat.succ_le_of_lt hi)
  rw[Nat.succ_mul]at this
  have h2:rs.length*k≤(rs.length+aM.length)*k:=Nat.mul_le_mul_right k (by omega)
  omega
 ·simp only[Value.cells,Nat.zero_add,Nat.add_zero]
  rw[Hh aJ hg (by omega),e]
 ·have yF:r.length=k:=aJ r (List.mem_append_left _ (List.mem_of_getElem? hr))
  refine hk _ (aS.mk' (aM:=aM) (fun y hy=>?_) (by simp) (by simp))
  rcases List.mem_append.1 hy with hy|hy
  ·rcases List.mem_or_eq_of_mem_set hy with hy|rfl
   ·exact aJ y (List.mem_append_left _ hy)
   ·simp;omega
  ·exact aJ y (List.mem_append_right _ hy)
theorem aS.KY{T:TypeId}{k:Nat}{v:Value}{rs:List (List Value)}{C A B:Hp}(hs:aS T k v rs C){i:Nat}{kd:IntKind}{xs:List Value}(hi:i<rs.length)(hx:xs.length=k)(h1:∀x∈xs,x.oneCell'=true){K:Hp→Prop}
 (hk:∀C',aS T k v (rs.set i xs) C'→K (A++(C'++B))):ah k v (.int kd (i:Int)) fun p=>St k (A++(C++B)) p (.agg xs.toArray) K:=by
 obtain⟨b',aM,rfl,rfl,aJ⟩:=hs.pos (by omega)
 refine ah.nat hi (St.row (l:=rs++aM) (((cM.head _).append B).bW A) aJ (by simp;omega) hx h1 ?_)
 have e:(rs++aM).set i xs=rs.set i xs++aM:=by rw[List.set_append_left _ _ hi]
 rw[e]
 refine hk [(b',_)] (aS.mk' (aM:=aM) (fun y hy=>?_) (by simp) (by simp))
 rcases List.mem_append.1 hy with hy|hy
 ·rcases List.mem_or_eq_of_mem_set hy with hy|rfl
  ·exact aJ y (List.mem_append_left _ hy)
  ·exact hx
 ·exact aJ y (List.mem_append_right _ hy)
theorem aP.ld{T:TypeId}{kd xO:IntKind}{v:Value}{l:List Int}{C:Hp}(hs:aP T kd v l C){i:Nat}{x:Int}(hx:l[i]? =some x)(hC:∀y∈C,y∈H){K:Value→Prop}(hk:K (.int kd x)):ah 1 v (.int xO (i:Int)) fun p=>Ld H p K:=
 aS.HJ hs (x:=.int kd x) (by simp[hx]) hC hk
theorem aP.put{T:TypeId}{kd xO:IntKind}{v:Value}{l:List Int}{C A B:Hp}(hs:aP T kd v l C){i:Nat}{x:Int}(hi:i<l.length){K:Hp→Prop}
 (hk:∀C',aP T kd v (l.set i x) C'→K (A++(C'++B))):ah 1 v (.int xO (i:Int)) fun p=>St 1 (A++(C++B)) p (.int kd x) K:=by
 have hi':i<(l.map fun n=>[Value.int kd n]).length:=by simpa using hi
 obtain⟨b',aM,rfl,rfl,aJ⟩:=aS.pos hs (by omega)
 refine ah.nat hi' ?_
 refine St.cell (l:=l.map (fun n=>[Value.int kd n])++aM) (i:=i) (k:=1) (j:=0) (r:=[.int kd l[i]]) (((cM.head _).append B).bW A) aJ (by rw[List.getElem?_append_left hi'];simp[hi]) (by omega) rfl ?_
 have e:(l.map (fun n=>[Value.int kd n])++aM).set i ([Value.int kd l[i]].set 0 (.int kd x))=(l.set i x).map (fun n=>[Value.int kd n])++aM:=by
  rw[List.set_append_left _ _ hi',List.map_set];rfl
 rw[e]
 refine hk [(b',_)] (aS.mk' (aM:=aM) (fun r hr'=>?_) (by simp) (by simp))
 rcases List.mem_append.1 hr' with hr'|hr'
 ·obtain⟨y,_,rfl⟩:=List.mem_map.1 hr';rfl
 ·exact aJ r (List.mem_append_right _ hr')
theorem aU.nil{H:Hp}:aU H []:=fun _ _ h=>h.kP
theorem aS.cut{T:TypeId}{k i:Nat}{v:Value}{rs:List (List Value)}{C:Hp}(hs:aS T k v rs C)(hi:i≤rs.length){kd:IntKind}{K:Value→Prop}(hk:∀v',aS T k v' (rs.take i) C→K v'):
  fc k v none (some (.int kd (i:Int))) K:=by
 by_cases hp:0<rs.length
 ·obtain⟨b',aM,rfl,rfl,aJ⟩:=hs.pos hp
  refine fc.upto (by omega) (hk _ ?_)
  have e:rs++aM=rs.take i++(rs.drop i++aM):=by rw[←List.append_assoc,List.take_append_drop]
  rw[e]at aJ⊢
  exact aS.mk' aJ (by simp;omega) (by simp;omega)
 ·obtain rfl:rs=[]:=List.eq_nil_of_length_eq_zero (by omega)
  obtain rfl:i=0:=by simpa using hi
  obtain⟨a,c,rfl⟩:=hs.len
  exact fc.upto (Nat.zero_le _) (hk _ (by simpa using hs))
theorem aP.cut{T:TypeId}{kd xO:IntKind}{i:Nat}{v:Value}{l:List Int}{C:Hp}(hs:aP T kd v l C)(hi:i≤l.length){K:Value→Prop}(hk:∀v',aP T kd v' (l.take i) C→K v'):
  fc 1 v none (some (.int xO (i:Int))) K:=
 aS.cut hs (by simpa using hi) fun v' h=>hk v' (by unfold aP;rw[List.map_take];exact h)
end
end Go.Sx
namespace Go.Sx
open Go
section
variable {P:Program} {H C:Hp} {c:Hp→Hp}
theorem cc.split(h:cc C H c):∃A B,∀X,c X=A++(X++B):=by
 induction h with
 |here=>exact⟨[],[],fun X=>by simp⟩
 | @left A=>exact⟨[],A,fun X=>rfl⟩
 | @cons x H c h ih=>
  obtain⟨A,B,e⟩:=ih
  exact⟨x::A,B,fun X=>by show x::c X=_;rw[e];rfl⟩
 | @app A' H c h ih=>
  obtain⟨A,B,e⟩:=ih
  exact⟨A'++A,B,fun X=>by show A'++c X=_;rw[e,List.append_assoc]⟩
theorem cc.sub(h:cc C H c):∀x∈C,x∈H:=fun x hx=>by
 obtain⟨A,B,e⟩:=h.split
 rw[h.spec.1,e]
 exact List.mem_append_right _ (List.mem_append_left _ hx)
theorem aS.mL{elem k bytes:Nat}{zero:Value}{v:Value}{rs:List (List Value)}(h:aS elem k v rs C)(hh:cc C H c){xb:Nat}{r:List Value}{xT:TypeId}{fz:Nat×Nat}{xc:Nat}
 (hx:(xb,Obj.cells r.toArray xT fz)∈H)(hr:r.length=k)(h1:∀u∈r,u.oneCell'=true)(hz:∃z:List Value,zero.cells=z.toArray∧z.length=k)
 (hb:(rs.length+1)*bytes≤140737488355328)(ca:rs.length+1≤9223372036854775807){K:Value→Hp→Prop}
 (hk:∀v' C',aS elem k v' (rs++[r]) C'→K v' (c C')):App P elem k bytes zero H v (.slice (some ⟨xb,0,none⟩) 1 xc) K:=by
 obtain⟨A,B,e⟩:=hh.split
 have e2:=hh.spec.1
 rw[e]at e2
 subst e2
 exact h.IJ hx hr h1 hz hb ca fun v' C' ho=>by have:=hk v' C' ho;rwa [e]at this
theorem aP.mL{T:TypeId}{kd:IntKind}{v:Value}{l:List Int}{bytes:Nat}(h:aP T kd v l C)(hh:cc C H c){xb xc:Nat}{x:Int}{xT:TypeId}{fz:Nat×Nat}(hx:(xb,Obj.cells (aA kd [x]) xT fz)∈H)
 (hb:(l.length+1)*bytes≤140737488355328)(hm:l.length+1≤9223372036854775807){K:Value→Hp→Prop}(hk:∀v' C',aP T kd v' (l++[x]) C'→K v' (c C')):App P T 1 bytes (.int kd 0) H v (.slice (some ⟨xb,0,none⟩) 1 xc) K:=by
 obtain⟨A,B,e⟩:=hh.split
 have e2:=hh.spec.1
 rw[e]at e2
 subst e2
 exact h.app hx hb hm fun v' C' ho=>by have:=hk v' C' ho;rwa [e]at this
theorem aP.Az{T:TypeId}{kd:IntKind}{v x:Value}{l l2:List Int}{bytes:Nat}(h:aP T kd v l C)(hh:cc C H c)(hx:cX kd H x l2)
 (hb:(l.length+l2.length)*bytes≤140737488355328)(hm:l.length+l2.length≤9223372036854775807){K:Value→Hp→Prop}(hk:∀v' C',aP T kd v' (l++l2) C'→K v' (c C')):App P T 1 bytes (.int kd 0) H v x K:=by
 obtain⟨A,B,e⟩:=hh.split
 have e2:=hh.spec.1
 rw[e]at e2
 subst e2
 exact h.apps hx hb hm fun v' C' ho=>by have:=hk v' C' ho;rwa [e]at this
theorem aP.jh{T:TypeId}{kd xO:IntKind}{v:Value}{l:List Int}(hs:aP T kd v l C)(hh:cc C H c){i:Nat}{x:Int}(hi:i<l.length){K:Hp→Prop}
 (hk:∀C',aP T kd v (l.set i x) C'→K (c C')):ah 1 v (.int xO (i:Int)) fun p=>St 1 H p (.int kd x) K:=by
 obtain⟨A,B,e⟩:=hh.split
 have e2:=hh.spec.1
 rw[e]at e2
 subst e2
 exact hs.put hi fun C' ho=>by have:=hk C' ho;rwa [e]at this
theorem aP.one{T:TypeId}{kd:IntKind}{v:Value}{l:List Int}(h:aP T kd v l C):v.oneCell'=true:=by obtain⟨a,c,e⟩:=aS.len h;rw[e];rfl
theorem dY(l:List Nat)(i x:Nat):(iw l).set i (x:Int)=iw (l.set i x):=by unfold iw;rw[List.map_set]
theorem bG(a b:List Nat):iw (a++b)=iw a++iw b:=by unfold iw;rw[List.map_append]
theorem bg{l:List Nat}{i:Nat}(h:i<l.length):(iw l)[i]? =some ((l.getD i 0:Nat):Int):=by
 rw[cm (List.getElem?_eq_getElem h)];simp[List.getD,List.getElem?_eq_getElem h]
end
end Go.Sx
namespace Go.Sx
open Go
theorem j5{p:Nat→Prop}(h:∃k,p k):∃k,p k∧∀j,p j→k≤j:=by
 obtain⟨k,hk⟩:=h
 induction k using Nat.strongRecOn with
 |_ k ih=>
  by_cases e:∃j,j<k∧p j
  ·obtain⟨j,hj,hp⟩:=e;exact ih j hj hp
  ·exact⟨k,hk,fun j hp=>Nat.le_of_not_lt fun hlt=>e ⟨j,hlt,hp⟩⟩
open Classical in
noncomputable def mr(J:Nat→List Value→Hp→Prop)(vs:List Value)(H:Hp):Nat:=if h:∃k,J k vs H then Classical.choose (j5 h)else 0
theorem HH{J:Nat→List Value→Hp→Prop}{vs:List Value}{H:Hp}{k:Nat}(h:J k vs H):mr J vs H≤k:=by
 unfold mr
 rw[dif_pos ⟨k,h⟩]
 exact(Classical.choose_spec (j5 ⟨k,h⟩)).2 k h
theorem zw{J:Nat→List Value→Hp→Prop}{vs:List Value}{H:Hp}(h:∃k,J k vs H):J (mr J vs H) vs H:=by
 unfold mr
 rw[dif_pos h]
 exact(Classical.choose_spec (j5 h)).1
def mR(J:Nat→List Value→Hp→Prop):List Value→Hp→Prop:=fun vs H=>∃k,J k vs H
theorem mR.open{J:Nat→List Value→Hp→Prop}{vs:List Value}{H:Hp}(h:mR J vs H):∃k,J k vs H∧k=mr J vs H:=⟨_,zw h,rfl⟩
theorem mR.mk{J:Nat→List Value→Hp→Prop}{vs:List Value}{H:Hp}(k:Nat)(h:J k vs H):JE (mR J) vs H:=JE.mk ⟨k,h⟩
theorem mR.back{J:Nat→List Value→Hp→Prop}{vs vs':List Value}{H H' H0:Hp}{k:Nat}(e:aU H H')(hk:k=mr J vs H0)(k':Nat)(h:J k' vs' H')(hlt:k'<k):aC (mR J) (mr J) vs' H vs H0:=
 aC.of e ⟨k',h⟩ (Nat.lt_of_le_of_lt (HH h) (by omega))
theorem Wb{vs:List Value}{H:Hp}{Q:(List Value→Hp→Prop)→(List Value→Hp→Nat)→Prop}(J:Nat→List Value→Hp→Prop)(k:Nat)(h:J k vs H)(hq:Q (mR J) (mr J)):
  ∃(I:List Value→Hp→Prop) (m:List Value→Hp→Nat),JE I vs H∧Q I m:=⟨_,_,mR.mk k h,hq⟩
section
variable {P:Program} {H:Hp}
theorem au.FU{t e:Nat}{kd:IntKind}{x y:Int}{K:Value→Hp→Prop}(h1:P.underlying t=some (.slice e))(h2:dg P e=some 1)(h3:eW P e=some (.int kd 0))
 (h:∀b,K (.slice (some ⟨b,0,Option.none⟩) 2 2) ((b,.cells (aA kd [x,y]) e (0,0))::H)):au P t 2 [(0,.int kd x),(1,.int kd y)] H K:=by
 refine⟨aA kd [x,y],e,1,_,h1,h2,h3,by decide,?_,fun b _=>h b⟩
 have e1:Array.range (2*1)=#[0,1]:=rfl
 simp[Instr.fill,Value.cells,aA,e1]
theorem Hi(kd:IntKind)(l:List Int):rows (l.map fun n=>[Value.int kd n])=aA kd l:=by
 unfold rows aA
 congr 1
 induction l with
 |nil=>rfl
 |cons x l ih=>rw[List.map_cons,List.flatten_cons,ih];rfl
theorem aP.made{T:TypeId}{kd:IntKind}{b:Nat}(l:List Int):aP T kd (.slice (some ⟨b,0,none⟩) l.length l.length) l [(b,.cells (aA kd l) T (0,0))]:=by
 have:=aS.mk' (T:=T) (k:=1) (b:=b) (n:=l.length) (c:=l.length) (rs:=l.map fun n=>[Value.int kd n]) (aM:=[]) (fun r hr=>by
  rw[List.append_nil]at hr
  obtain⟨x,_,rfl⟩:=List.mem_map.1 hr;rfl) (by simp) (by simp)
 rw[List.append_nil,Hi]at this
 exact this
end
end Go.Sx
namespace Go.Sx
open Go
section
variable {P:Program} {g:Gh}
structure JW where
 f:FuncId
 l:List Value
def iD(P:Program)(g:Gh)(f:FuncId)(args:Array Value)(H:Hp)(R:Ending→Hp→Prop):Prop:=
 ∀w,Own g H w→∀u,CallsD P f args u w fun e u' w'=>u'=u∧∃H',Own g H' w'∧R e H'
def jj(P:Program)(g:Gh)(f:FuncId)(args:Array Value)(H:Hp)(K:Hp→Prop):Prop:=iD P g f args H fun e H'=>(∃v,e=.returned v)∧K H'
def Kz(P:Program)(g:Gh)(K:Hp→Prop):List JW→Hp→Prop
 | [],H=>K H
 |x::r,H=>jj P g x.f x.l.toArray H (Kz P g K r)
def UR(P:Program)(o:Oper)(ρ:Operand→Value)(k:JW→Prop):Prop:=
 match o.op with
 | .defer c=>match c.callee with
  | .value x=>match ρ x with
   | .func (.func f) first cap=>cond (bA P f) (k ⟨f,first.toList++(c.args.toList.map ρ++cap.toList)⟩) False
   |_=>False
  |_=>False
 |_=>False
def LF:Code→Option (Array Oper×Oper)
 | .region _ ops false=>match ops.toList.getLast? with
  |some o=>match o.op with
   | .defer _=>some (ops,o)
   |_=>none
  |none=>none
 |_=>none
def MN(P:Program)(g:Gh)(fn:Func)(R:Ending→Hp→Prop)(dl:List JW):Exit→Fr→Hp→Prop
 | .normal,fr,H=>Kz P g (fun H'=>s8 P fr H' fn.results.toList fun vs=>R (.returned (Bn vs)) H') dl H
 | .ret,fr,H=>Kz P g (fun H'=>s8 P fr H' fn.results.toList fun vs=>R (.returned (Bn vs)) H') dl H
 |_,_,_=>False
def B3(P:Program)(g:Gh)(n:Nat)(E:List JW→Exit→Fr→Hp→Prop):Code→Hn→List JW→Fr→Hp→Prop
 | .seq x y,hn,dl,fr,H=>
  match LF x with
  |some (ops,o)=>cond (o.dst.isNone&&o.guard.isNone)
    (ei P g n ops false (ops.toList.length+1) false none [] ops.toList.dropLast fr H (fun _ fr' H'=>UR P o (ev fr') fun d=>B3 P g n E y hn.b (d::dl) fr' H') (fun _ _=>False)) False
  |none=>match hn.m with
   |0=>den P g n x hn.a (yV (B3 P g n E y hn.b dl) (E dl)) fr H
   |_=>cond (O1 x hn.I)
    (Yw hn.L.length (fun vs H'=>∀gs,B3 P g n E y hn.b dl (mix hn.L vs hn.I fr gs) H') fun J=>den P g n x hn.a (yV (fun fr' H'=>JE J (A1 fr' hn.L) H') (E dl)) fr H) False
 |c,hn,dl,fr,H=>den P g n c hn (E dl) fr H
def MR(P:Program)(g:Gh)(fn:Func)(hn:Hn)(args:List Value)(H:Hp)(R:Ending→Hp→Prop):Prop:=
 match fn.body with
 |some c=>cond (Nat.ble args.length fn.ntmps) (B3 P g fn.ntmps (MN P g fn R) c hn [] (iU args 0) H) False
 |none=>False
def uL:List PanicEntry→Hp→Prop:=fun _ _=>∀_:Fr,False
def DOK(P:Program)(x:JW)(d:Deferred):Prop:=∃cap args,d={target:=.fn (.func x.f) cap,args:=args}∧args++cap=x.l.toArray∧bA P x.f=true
inductive Fe(P:Program):List JW→List Deferred→Prop
 |nil:Fe P [] []
 |cons {x d l ds} (h:DOK P x d) (hr:Fe P l ds):Fe P (x::l) (d::ds)
theorem sV{fn:Func}{tmps:Array Value}{K:Hp→Prop}{R:Ending→World→Prop}(hK:∀H w,Own g H w→K H→∃v,(results fn tmps).run P w=.ok v w∧R (.returned v) w):
  ∀{dl:List JW} {ds:List Deferred},Fe P dl ds→∀H w,Own g H w→Kz P g K dl H→Leaves P fn tmps R ds .returning w
 |_,_,.nil,H,w,hw,h=>hK H w hw h
 |_,_,.cons ⟨cap,args,hd,ha,hc⟩ hr,H,w,hw,h=>by
  subst hd
  refine leaves_cons (by simp) ?_ ((h w hw .returning).mono ?_)
  ·show(callFunc _ (args++cap)).run P w=_
   rw[ha]
   exact eV hc _ w
  ·rintro e u' w' ⟨rfl,H',ho,⟨v,rfl⟩,hk⟩
   exact sV hK hr H' w' ho hk
theorem oL{fn:Func}{R:Ending→Hp→Prop}{n:Nat}{dl:List JW}{ds:List Deferred}(hd:Fe P dl ds){e:Exit}{fr:Fr}{H:Hp}{a:Act}{w:World}(ha:cq ds n a fr)(hw:Own g H w)(h:MN P g fn R dl e fr H):
  bodyPostD P fn (fun e w'=>∃H',Own g H' w'∧R e H') e a w:=by
 have key:∀{H},Own g H w→Kz P g (fun H'=>s8 P fr H' fn.results.toList fun vs=>R (.returned (Bn vs)) H') dl H→Leaves P fn a.tmps (fun e w'=>∃H',Own g H' w'∧R e H') a.defers .returning w:=fun hw h=>by
  rw[ha.defers]
  refine sV (fun H w hw h=>?_) hd _ _ hw h
  obtain⟨vs,hr,hk⟩:=gO ha hw h
  exact⟨_,hr,H,hw,hk⟩
 cases e with
 |normal=>exact key hw h
 |ret=>exact key hw h
 |panic ch=>exact h.elim
 |exit id=>exact h.elim
 |goto l=>exact h.elim
 |outgrown=>exact h.elim
theorem BL{c:Code}{ops:Array Oper}{o:Oper}(h:LF c=some (ops,o)):∃id d,c=.region id ops false∧ops.toList=ops.toList.dropLast++[o]∧o.op=.defer d:=by
 unfold LF at h
 split at h
 ·rename_i id ops'
  split at h
  ·rename_i o' ho
   split at h
   ·rename_i d hd
    simp only[Option.some.injEq,Prod.mk.injEq]at h
    obtain⟨rfl,rfl⟩:=h
    refine⟨id,d,rfl,?_,hd⟩
    obtain⟨hne,e⟩:=List.getLast?_eq_some_iff.1 ho
    rw[e];simp
   ·cases h
  ·cases h
 ·cases h
theorem NG{o:Oper}{fr:Fr}{k:JW→Prop}(h:UR P o (ev fr) k):∃x d,k x∧DOK P x d∧∀w,(execOp (ev fr) o).run P w=.ok (.defer d) w:=by
 unfold UR at h
 split at h<;>try exact h.elim
 rename_i c hop
 split at h<;>try exact h.elim
 rename_i x hc
 split at h<;>try exact h.elim
 rename_i f first cap hx
 cases gJ:bA P f<;>simp only[gJ,cond_true,cond_false]at h
 refine⟨_,{target:=.fn (.func f) cap,args:=first++c.args.map (ev fr)},h,⟨cap,_,rfl,?_,gJ⟩,fun w=>?_⟩
 ·apply Array.ext'
  simp
 ·simp only[execOp,hop,resolve,hc,hx,Deferred.ofValue,Sem.run_bind,Sem.run_pure,Result.andThen_ok]
theorem B2{n:Nat}{fn:Func}{R:Ending→Hp→Prop}:∀(c:Code) (hn:Hn) (dl:List JW) (fr:Fr) (H:Hp),B3 P g n (MN P g fn R) c hn dl fr H→∀(ds:List Deferred),Fe P dl ds→∀(a:Act) (w:World),cq ds n a fr→Own g H w→
  c.wp P (bodyPostD P fn fun e w'=>∃H',Own g H' w'∧R e H') a w:=by
 have plain:∀(c:Code) (hn:Hn) (dl:List JW) (fr:Fr) (H:Hp),den P g n c hn (MN P g fn R dl) fr H→∀(ds:List Deferred),Fe P dl ds→∀(a:Act) (w:World),cq ds n a fr→Own g H w→
   c.wp P (bodyPostD P fn fun e w'=>∃H',Own g H' w'∧R e H') a w:=fun c hn dl fr H h ds hd a w ha hw=>
  wp_mono (kr c hn _ fr H h a w ha hw) fun e a' w' ⟨fr',H',eA,dx,_,hq⟩=>oL hd eA dx hq
 intro c
 induction c with
 |seq x y _ ih=>
  intro hn dl fr H h ds hd a w ha hw
  unfold B3 at h
  split at h
  ·rename_i ops o hx
   obtain⟨id,d,rfl,hl,hop⟩:=BL hx
   cases hc:(o.dst.isNone&&o.guard.isNone)<;>simp only[hc,cond_true,cond_false]at h
   simp only[Bool.and_eq_true,Option.isNone_iff_eq_none]at hc
   refine wp_seq (wp_region_list ?_)
   rw[hl]
   refine cA _ _ _ _ _ fr H _ _ h trivial (g7.nil fr) a w ha hw [o] _ ?_ ?_
   ·intro a' w' o6 fr' H' eA dx _ _ hk
    refine wpList_plain hc.2 fun K hK=>?_
    obtain⟨x,dd,hx,hok,hrun⟩:=NG hk
    show o.upon P a' K _ ((execOp a'.eval o).run P w')
    rw[eA.eval,hrun]
    refine hK _ _ ?_
    refine ih _ _ fr' H' hx (dd::ds) (.cons hok hd) _ _ ?_ dx
    rw[hc.1]
    exact⟨congrArg _ eA.defers,eA.size,eA.get⟩
   ·intro ch a' w' fr' H' _ _ hk;exact hk.elim
  ·split at h
   ·refine wp_seq (wp_mono (kr x _ _ fr H h a w ha hw) ?_)
    rintro e a' w' ⟨fr',H',eA,dx,ho,hq⟩
    cases e with
    |normal=>exact ih _ _ fr' H' hq ds hd a' w' eA dx
    |ret=>exact oL (e:=.ret) hd eA dx hq
    |exit id=>exact hq.elim
    |goto l=>exact hq.elim
    |panic ch=>exact hq.elim
    |outgrown=>exact hq.elim
   ·cases hno:O1 x hn.I<;>simp only[hno,cond_true,cond_false]at h
    have h':=h (fun vs H'=>∀gs,B3 P g n (MN P g fn R) y hn.b dl (mix hn.L vs hn.I fr gs) H') (uC.intro (fun vs H' hh=>hh) _)
    refine wp_seq (wp_mono (kr x _ _ fr H h' a w ha hw) ?_)
    rintro e a' w' ⟨fr',H',eA,dx,ho,hq⟩
    cases e with
    |normal=>
     obtain⟨Hj,tE,hq⟩:=hq
     have Y7:=hq fr'
     rw[th fun s hs=>ho rfl s (tf hno s hs)]at Y7
     exact ih _ _ fr' Hj Y7 ds hd a' w' eA (tE _ _ dx)
    |ret=>exact oL (e:=.ret) hd eA dx hq
    |exit id=>exact hq.elim
    |goto l=>exact hq.elim
    |panic ch=>exact hq.elim
    |outgrown=>exact hq.elim
 |_=>intro hn dl fr H h;exact plain _ hn dl fr H h
theorem LH{args:List Value}{m:Nat}(hle:args.length≤m):cq [] m {tmps:=args.toArray++Array.replicate (m-args.toArray.size) undef,defers:=[]} (iU args 0):=by
 refine⟨rfl,by simp;omega,fun s=>?_⟩
 rw[kX,Array.getD_eq_getD_getElem?,Array.getElem?_append]
 simp only[List.size_toArray,Nat.not_lt_zero,if_false,Nat.sub_zero]
 by_cases hs:s<args.length
 ·simp[hs,List.getD]
 ·rw[if_neg hs,Array.getElem?_replicate]
  have:args.getD s undef=undef:=by simp[List.getD,List.getElem?_eq_none (Nat.le_of_not_lt hs)]
  rw[this]
  split<;>rfl
theorem Am{f:FuncId}{fn:Func}{hn:Hn}{args:List Value}{H:Hp}{R:Ending→Hp→Prop}(hf:P.funcs[f]? =some fn)(h:MR P g fn hn args H R):ai P g f args.toArray H R:=by
 intro w hw
 unfold MR at h
 split at h<;>try exact h.elim
 rename_i c hc
 cases hl:Nat.ble args.length fn.ntmps<;>simp only[hl,cond_true,cond_false]at h
 exact calls_of_wp_defers hf hc (B2 c hn [] _ H h [] .nil _ w (LH (Nat.le_of_ble_eq_true hl)) hw)
theorem Al{f:FuncId}{fn:Func}{hn:Hn}{args:List Value}{H:Hp}{R:Ending→Hp→Prop}(hf:P.funcs[f]? =some fn)(h:Iy P g fn hn args H R):iD P g f args.toArray H R:=by
 intro w hw u
 unfold Iy at h
 split at h<;>try exact h.elim
 rename_i c hc
 cases hl:Nat.ble args.length fn.ntmps<;>simp only[hl,cond_true,cond_false]at h
 refine callsD_of_wp hf hc (wp_mono (kr c hn _ _ H h _ w (LH (Nat.le_of_ble_eq_true hl)) hw) ?_)
 rintro e a' w' ⟨fr',H',eA,dx,_,hq⟩
 cases e with
 |normal=>obtain⟨vs,hr,hk⟩:=gO eA dx hq;exact⟨eA.defers,_,hr,H',dx,hk⟩
 |ret=>obtain⟨vs,hr,hk⟩:=gO eA dx hq;exact⟨eA.defers,_,hr,H',dx,hk⟩
 |panic ch=>exact⟨eA.defers,H',dx,hq⟩
 |exit id=>exact hq.elim
 |goto l=>exact hq.elim
 |outgrown=>exact hq.elim
abbrev Jt:=List Value→Hp→Prop
abbrev Mt:=List Value→Hp→Nat
abbrev Rt:=Ending→Hp→Prop
abbrev Hn.n(a b:Hn):Hn:=.h 0 [] [] a b
theorem ak{f:FuncId}{fn:Func}{hn:Hn}{args:List Value}{H:Hp}{R:Rt}{L:Prop}(hf:P.funcs[f]? =some fn)(h:L)(e:Iy P g fn hn args H R=L):ai P g f args.toArray H R:=B4 hf (e.mpr h)
theorem sX{f:FuncId}{fn:Func}{hn:Hn}{args:List Value}{H:Hp}{R:Rt}{L:Prop}(hf:P.funcs[f]? =some fn)(h:L)(e:MR P g fn hn args H R=L):ai P g f args.toArray H R:=Am hf (e.mpr h)
theorem sY{f:FuncId}{fn:Func}{hn:Hn}{args:List Value}{H:Hp}{R:Rt}{L:Prop}(hf:P.funcs[f]? =some fn)(h:L)(e:Iy P g fn hn args H R=L):iD P g f args.toArray H R:=Al hf (e.mpr h)
end
end Go.Sx
set_option maxRecDepth 100000
namespace Go.Proofs
open Go Go.Sx
variable {g:Gh} {a0 a1 a2 a3 a4 a5 a6 a7 a8 a9 sb r9 Yc Yb Ya X9:Value} {H:Hp} {R:Rt}
abbrev pt(b:Nat):Value:=.pointer (some ⟨b,0,none⟩)
abbrev CF:=ag Tryz.prog
def hr(m:Nat)(T:List Nat):Nat→Nat→Hn→Hn
 |_,0,x=>x
 |i,k+1,x=>.h m [i] T (hr m T (i+1) k x) .e
def hN:Nat→Hn→Hn
 |0,x=>x
 |k+1,x=>.n .e (hN k x)
abbrev iv(n:Int):Value:=.int .i64 n
def L8(g:Gh)(a0 a1 a2 a3 a4:Value)(H:Hp)(R:Rt):Prop:=
aY .i64 a0 fun v1=>
ae .num .rem v1 (iv 6) fun v2=>
ae .num .add (iv 1) v2 fun v3=>
CF g 12 #[v3,a1] H (fun v4 H5=>
ae .ptr .eql v4 (.pointer none) fun v6=>
Br v6 (
R (.returned (Value.bool false)) H5) (
DR H5 fun R7=>
Nil v4 fun v8=>
aa 0 v8 fun v9=>
Ld R7 v9 fun v10=>
∀F11:Hp,
CF (g.add F11) 43 #[v3,a2] H5 (fun bf ej=>
aU ej R7∧
∀F14:Hp,
CF (g.add F14) 42 #[v10,bf] ej (fun bB fh=>
aU fh R7∧
Ext 0 bB fun bL=>
Ext 1 bB fun cf=>
aY .i64 a3 fun bN=>
ae .num .rem bN v3 fun v20=>
Nil v4 fun bS=>
aa 0 bS fun ct=>
Ld fh ct fun bV=>
CF g 44 #[bV,v20] fh (fun cB gf=>
Ext 0 cB fun cE=>
Ext 1 cB fun cL=>
Nil v4 fun cK=>
aa 0 cK fun cN=>
Ld gf cN fun v30=>
CF g 45 #[v30,v20,(iv 1000)] gf (fun dy q7=>
Ext 0 dy fun eO=>
Ext 1 dy fun eY=>
bn q7 (.cells #[(iv 0),(iv 0),(iv 0),(Value.bool false)] 42 (0,0)) fun Gn sM=>
St 4 sM (pt Gn) eO fun lQ=>
ae .num .neq cf (iv 0) fun fX=>
bX fX false (fun t39=>
ae .num .neq cL (iv 0) fun gL=>
(lQ=lQ∧gL=Value.bool t39)) (fun t39=>(Value.bool true)=Value.bool t39) fun t39=>∀ai2:Fr,
bX (Value.bool t39) false (fun t42=>
ae .num .neq eY (iv 0) fun fM=>
(lQ=lQ∧fM=Value.bool t42)) (fun t42=>(Value.bool true)=Value.bool t42) fun t42=>∀ai1:Fr,
Br (Value.bool t42) (
R (.returned (Value.bool false)) lQ) (
aa 0 (pt Gn) fun gW=>
Ld lQ gW fun jd=>
aa 0 (pt Gn) fun jU=>
Ld lQ jU fun kE=>
∃(I49:Jt) (m50:Mt),JE I49 [jd,kE,(iv 0)] lQ∧∀UX QE RO:Value,∀AK:Hp,I49 [UX,QE,RO] AK→∀aiY:Fr,
aO cE fun sr=>
ae .num .lss RO sr fun qq=>
Br qq (
ah 1 cE RO fun sQ=>
Ld AK sQ fun rT=>
Qw UX rT fun qp=>
ah 1 cE RO fun rS=>
Ld AK rS fun uF=>
Ny QE uF fun qo=>
ae .num .add RO (iv 1) fun xe=>
aC I49 m50 [qp,qo,xe] AK [UX,QE,RO] AK) (
ae .num .mul (iv 10) UX fun pe=>
ae .num .leq QE pe fun rR=>
bX rR true (fun t67=>
aa 1 (pt Gn) fun qn=>
Ld AK qn fun qm=>
ae .num .neq qm UX fun rj=>
(AK=AK∧rj=Value.bool t67)) (fun t67=>(Value.bool false)=Value.bool t67) fun t67=>∀XR:Fr,
Br (Value.bool t67) (
R (.returned (Value.bool false)) AK) (
Nil v4 fun rQ=>
aa 0 rQ fun yA=>
Ld AK yA fun GU=>
CF g 46 #[GU,v20] AK (fun rP nR=>
Ext 0 rP fun yz=>
Ext 1 rP fun uM=>
∀Uy:Jt,(∀w82:Value,∀VG:Hp,(∀aiM:Fr,
Br w82 (
R (.returned (Value.bool false)) VG) (
Nil v4 fun GS=>
aa 0 GS fun AQ=>
Ld VG AQ fun vD=>
aY .i64 a4 fun GR=>
ae .num .add (iv 100) GR fun Kl=>
CF g 47 #[vD,Kl] VG (fun AP H89=>
Ext 0 AP fun yP=>
Ext 1 AP fun uE=>
bn H89 (.cells #[(iv 0),(iv 0),(iv 0),(Value.bool false)] 42 (0,0)) fun Vs H93=>
St 4 H93 (pt Vs) yP fun H94=>
Nil v4 fun RR=>
aa 0 RR fun Kk=>
Ld H94 Kk fun Oo=>
aY .i64 a4 fun Kj=>
ae .num .add (iv 100) Kj fun Kh=>
CF g 48 #[Oo,Kh] H94 (fun rU UQ=>
Ext 0 rU fun qt=>
Ext 1 rU fun sR=>
Ext 2 rU fun yR=>
bn UQ (.cells #[(iv 0),(iv 0),(iv 0),(Value.bool false)] 42 (0,0)) fun IG aee=>
St 4 aee (pt IG) qt fun YO=>
Nil v4 fun Kv=>
aa 0 Kv fun uO=>
Ld YO uO fun Sb=>
aY .i64 a4 fun Bg=>
ae .num .add (iv 100) Bg fun xk=>
CF g 48 #[Sb,xk] YO (fun xj aec=>
Ext 0 xj fun xh=>
Ext 1 xj fun Ku=>
Ext 2 xj fun Kt=>
bn aec (.cells #[(iv 0),(iv 0),(iv 0),(Value.bool false)] 42 (0,0)) fun Qg ND=>
St 4 ND (pt Qg) xh fun gS=>
ae .num .neq uE (iv 0) fun Bd=>
bX Bd false (fun t122=>
ae .num .neq yR (iv 0) fun xg=>
(gS=gS∧xg=Value.bool t122)) (fun t122=>(Value.bool true)=Value.bool t122) fun t122=>∀afD:Fr,
bX (Value.bool t122) false (fun t125=>
ae .num .neq Kt (iv 0) fun Kr=>
(gS=gS∧Kr=Value.bool t125)) (fun t125=>(Value.bool true)=Value.bool t125) fun t125=>∀afC:Fr,
bX (Value.bool t125) false (fun t128=>
aa 0 (pt Vs) fun Kp=>
Ld gS Kp fun Bc=>
aa 1 (pt Gn) fun Bb=>
Ld gS Bb fun Ko=>
ae .num .neq Bc Ko fun GV=>
(gS=gS∧GV=Value.bool t128)) (fun t128=>(Value.bool true)=Value.bool t128) fun t128=>∀afB:Fr,
bX (Value.bool t128) false (fun t135=>
aa 1 (pt Vs) fun R8=>
Ld gS R8 fun Kn=>
aa 0 (pt Vs) fun R5=>
Ld gS R5 fun Km=>
ae .num .gtr Kn Km fun R4=>
(gS=gS∧R4=Value.bool t135)) (fun t135=>(Value.bool true)=Value.bool t135) fun t135=>∀afA:Fr,
bX (Value.bool t135) false (fun t142=>
aa 0 (pt IG) fun RZ=>
Ld gS RZ fun RY=>
aa 1 (pt Vs) fun aav=>
Ld gS aav fun RX=>
ae .num .neq RY RX fun aau=>
(gS=gS∧aau=Value.bool t142)) (fun t142=>(Value.bool true)=Value.bool t142) fun t142=>∀afz:Fr,
bX (Value.bool t142) false (fun t149=>
aa 1 (pt IG) fun RW=>
Ld gS RW fun RV=>
aa 0 (pt IG) fun RU=>
Ld gS RU fun RT=>
ae .num .gtr RV RT fun RS=>
(gS=gS∧RS=Value.bool t149)) (fun t149=>(Value.bool true)=Value.bool t149) fun t149=>∀afy:Fr,
Br (Value.bool t149) (
R (.returned (Value.bool false)) gS) (
∀E7:Jt,(∀VN:Value,∀YI:Hp,(∀afx:Fr,
R (.returned VN) YI)→E7 [VN] YI)→
DR gS fun Nu=>
ae .num .geq sR (iv 1) fun aap=>
Br aap (
ae .num .eql Ku (iv 1) fun aao=>
az (Value.bool true) aao (Value.bool false) fun aan=>
Br aan (
aa 1 (pt Qg) fun aam=>
Ld Nu aam fun aal=>
aa 1 (pt IG) fun aak=>
Ld Nu aak fun aaj=>
ae .num .eql aal aaj fun aai=>
az (Value.bool true) aai (Value.bool false) fun aah=>
Br aah (
aa 1 (pt Qg) fun aag=>
Ld Nu aag fun aaf=>
Nil v4 fun aae=>
aa 0 aae fun aad=>
Ld Nu aad fun aac=>
∀aen:Hp,
CF (g.add aen) 15 #[aac] gS (fun aab UP=>
aU UP Nu∧
ae .num .eql aaf aab fun aaa=>
az (Value.bool true) aaa (Value.bool false) fun Z9=>
Br Z9 (
∀aem:Hp,
CF (g.add aem) 21 #[v4] UP (fun Z8 ad3=>
az (Value.bool true) Z8 (Value.bool false) fun Z7=>
JE E7 [Z7] ad3) bu) (
JE E7 [(Value.bool false)] UP)) bu) (
JE E7 [(Value.bool false)] gS)) (
JE E7 [(Value.bool false)] gS)) (
JE E7 [(Value.bool false)] gS))) (aq R)) (aq R)) (aq R)))→Uy [w82] VG)→
DR nR fun Cq=>
ae .num .neq uM (iv 0) fun Z6=>
Br Z6 (
JE Uy [(Value.bool true)] nR) (
ah 1 cE yz fun Z5=>
Ld Cq Z5 fun Z4=>
aa 1 (pt Gn) fun Z1=>
Ld Cq Z1 fun ZZ=>
ae .num .neq Z4 ZZ fun ZY=>
az (Value.bool false) (Value.bool true) ZY fun ZX=>
Br ZX (
JE Uy [(Value.bool true)] nR) (
aa 1 (pt Gn) fun ZW=>
Ld Cq ZW fun ZV=>
Nil v4 fun ZU=>
aa 0 ZU fun ZT=>
Ld Cq ZT fun ZS=>
∀ael:Hp,
CF (g.add ael) 15 #[ZS] nR (fun ZR UO=>
aU UO Cq∧
ae .num .neq ZV ZR fun ZQ=>
az (Value.bool false) (Value.bool true) ZQ fun ZP=>
Br ZP (
JE Uy [(Value.bool true)] UO) (
aa 1 (pt Gn) fun ZO=>
Ld Cq ZO fun ZN=>
aa 0 (pt Gn) fun ZM=>
Ld Cq ZM fun ZL=>
ae .num .gtr ZN ZL fun ZK=>
az (Value.bool false) (Value.bool true) ZK fun ZJ=>
JE Uy [ZJ] UO)) bu))) (aq R))))) (aq R)) (aq R)) bu) bu)) (aq R)
theorem Nz(h:L8 g a0 a1 a2 a3 a4 H R):ai Tryz.prog g 8 #[a0,a1,a2,a3,a4] H R:=
 ak (hn:=(hN 4 (.n (.h 1 [] [] (hr 0 [1] 0 13 .e) .e) (hN 3 (.n (.n (.h 0 [] [1] .e .e) .e) (.n .e (.n .e (.n (.n .e (.n (.h 0 [20,21,22] [4,12,15,16,18] .e .e) .e)) (.n (.n (.h 0 [] [1] .e .e) .e) (.n .e (.n (.h 1 [153] [4,12,18] (.h 1 [] [] (hr 0 [1] 0 2 (.h 2 [2] [] (hr 0 [1] 3 7 (hr 3 [1] 10 2 (hr 0 [1] 12 8 (hr 3 [1] 20 2 (hr 0 [1] 22 5 (.h 3 [27] [1] .e .e)))))) (hr 0 [1] 3 8 (.h 2 [11] [] (hr 0 [1] 12 8 (hr 3 [1] 20 2 (hr 0 [1] 22 5 (.h 3 [27] [1] .e .e)))) (hr 0 [1] 12 9 (.h 2 [21] [] (hr 0 [1] 22 5 (.h 3 [27] [1] .e .e)) (hr 0 [1] 22 6 .e))))))) .e) .e) (hN 3 (.n (.n (.h 0 [] [1] .e .e) .e) (.h 1 [10] [] (.h 1 [] [] (hr 0 [1] 0 2 (.h 2 [2] [] (hr 0 [1] 3 3 (.h 2 [6] [] (hr 0 [1] 7 6 (.h 2 [13] [] (hr 0 [1] 14 9 (.h 2 [23] [] (hr 0 [1] 24 4 .e) (hr 0 [1] 24 2 (hr 3 [1] 26 2 .e)))) (hr 0 [1] 14 8 (hr 3 [1] 22 2 (hr 0 [1] 24 2 (hr 3 [1] 26 2 .e)))))) (hr 0 [1] 7 5 (hr 3 [1] 12 2 (hr 0 [1] 14 8 (hr 3 [1] 22 2 (hr 0 [1] 24 2 (hr 3 [1] 26 2 .e)))))))) (hr 0 [1] 3 2 (hr 3 [1] 5 2 (hr 0 [1] 7 5 (hr 3 [1] 12 2 (hr 0 [1] 14 8 (hr 3 [1] 22 2 (hr 0 [1] 24 2 (hr 3 [1] 26 2 .e)))))))))) .e) .e)))))))))))))) Tryz.func8 h (by kernel_rfl)
def L12(g:Gh)(a0 a1:Value)(H:Hp)(R:Rt):Prop:=
CF g 54 #[a0,(iv 4000)] H (fun v1 H2=>
ae .ptr .eql v1 (.pointer none) fun v3=>
Br v3 (
R (.returned (.pointer none)) H2) (
∃(I4:Jt) (m5:Mt),JE I4 [(iv 0)] H2∧∀w8:Value,∀H7:Hp,I4 [w8] H7→∀Rz:Fr,
ae .num .lss w8 a0 fun v9=>
Br v9 (
aY .u8 w8 fun v10=>
Build Tryz.prog 106 [(0,(Value.int .u8 0)),(1,v10)] fun v11=>
CF g 55 #[v1,v11] H7 (fun bf ej=>
Un .not bf fun bp=>
Br bp (
R (.returned (.pointer none)) ej) (
ae .num .add w8 (iv 1) fun bB=>
aC I4 m5 [bB] ej [w8] H7)) (aq R)) (
Nil v1 fun bI=>
aa 2 bI fun bL=>
Ld H7 bL fun cf=>
aO cf fun bN=>
ae .num .neq bN a0 fun v20=>
Br v20 (
R (.returned (.pointer none)) H7) (
∃(I21:Jt) (m22:Mt),JE I21 [(iv 0)] H7∧∀uD:Value,∀iL:Hp,I21 [uD] iL→∀XX:Fr,
aO a1 fun cE=>
ae .num .lss uD cE fun cL=>
bX cL true (fun t28=>
ae .num .lss uD (iv 30) fun cN=>
(iL=iL∧cN=Value.bool t28)) (fun t28=>(Value.bool false)=Value.bool t28) fun t28=>∀T1:Fr,
Br (Value.bool t28) (
ah 6 a1 uD fun dy=>
aD 6 iL dy fun dH=>
CF g 55 #[v1,dH] iL (fun eO rN=>
Un .not eO fun eM=>
Br eM (
R (.returned (.pointer none)) rN) (
ae .num .add uD (iv 1) fun dW=>
aC I21 m22 [dW] rN [uD] iL)) (aq R)) (
R (.returned v1) iL))))) (aq R)
theorem Js(h:L12 g a0 a1 H R):ai Tryz.prog g 12 #[a0,a1] H R:=
 ak (hn:=(hN 3 (.n (.n .e (.n (.h 0 [6] [0,1,5] .e .e) .e)) (.n .e (.n (.n .e (.n (.h 0 [7] [1,5] (.n (.n (.h 0 [] [1] .e .e) .e) .e) .e) .e)) .e))))) Tryz.func12 h (by kernel_rfl)
def L13(g:Gh)(a0:Value)(H:Hp)(R:Rt):Prop:=
ae .ptr .eql a0 (.pointer none) fun v1=>
Br v1 (
R (.returned (.slice none 0 0)) H) (
Nil a0 fun v2=>
aa 5 v2 fun v3=>
Ld H v3 fun v4=>
CF g 57 #[v4] H (fun v5 H6=>
R (.returned v5) H6) (aq R))
theorem Jr(h:L13 g a0 H R):ai Tryz.prog g 13 #[a0] H R:=
 ak (hn:=.e) Tryz.func13 h (by kernel_rfl)
def L15(g:Gh)(a0:Value)(H:Hp)(R:Rt):Prop:=
ae .ptr .eql a0 (.pointer none) fun v1=>
Br v1 (
R (.returned (iv 0)) H) (
Nil a0 fun v2=>
aa 0 v2 fun v3=>
aa 0 v3 fun v4=>
Ld H v4 fun v5=>
CF g 58 #[v5] H (fun v6 H7=>
ae .num .sub v6 (iv 2) fun v8=>
R (.returned v8) H7) (aq R))
theorem Jq(h:L15 g a0 H R):ai Tryz.prog g 15 #[a0] H R:=
 ak (hn:=.e) Tryz.func15 h (by kernel_rfl)
def L17(g:Gh)(a0 a1:Value)(H:Hp)(R:Rt):Prop:=
ae .ptr .eql a0 (.pointer none) fun v1=>
Br v1 (
R (.returned (iv 10)) H) (
ae .num .lss a1 (iv 0) fun v2=>
bX v2 false (fun t3=>
Nil a0 fun v4=>
aa 4 v4 fun v5=>
Ld H v5 fun v6=>
ae .num .sub v6 (iv 2) fun v7=>
ae .num .gtr a1 v7 fun v8=>
(H=H∧v8=Value.bool t3)) (fun t3=>(Value.bool true)=Value.bool t3) fun t3=>∀TY:Fr,
Br (Value.bool t3) (
R (.returned (iv 1)) H) (
CF g 59 #[a0,a1] H (fun v10 eu=>
Un .not v10 fun bf=>
Br bf (
R (.returned (iv 9)) eu) (
Nil a0 fun br=>
aa 7 br fun bp=>
Ld eu bp fun bB=>
au Tryz.prog 25 1 [(0,a1)] eu fun bI fp=>
App Tryz.prog 3 1 8 (iv 0) fp bB bI fun v20 fK=>
Nil a0 fun ct=>
aa 7 ct fun bV=>
St 1 fK bV v20 fun iL=>
R (.returned (iv 0)) iL)) (aq R)))
theorem Jp(h:L17 g a0 a1 H R):ai Tryz.prog g 17 #[a0,a1] H R:=
 ak (hn:=(.n .e (.n (.n (.n .e (.n .e (.n (.h 0 [] [1] .e .e) .e))) .e) .e))) Tryz.func17 h (by kernel_rfl)
def L18(g:Gh)(a0:Value)(H:Hp)(R:Rt):Prop:=
ae .ptr .eql a0 (.pointer none) fun v1=>
bX v1 false (fun t2=>
Nil a0 fun v3=>
aa 7 v3 fun v4=>
Ld H v4 fun v5=>
aO v5 fun v6=>
ae .num .eql v6 (iv 0) fun v7=>
(H=H∧v7=Value.bool t2)) (fun t2=>(Value.bool true)=Value.bool t2) fun t2=>∀Mx:Fr,
Br (Value.bool t2) (
R (.returned (.tuple #[(iv 0),(iv 10)])) H) (
Nil a0 fun v9=>
aa 7 v9 fun v10=>
Ld H v10 fun v11=>
aO v11 fun bf=>
ae .num .sub bf (iv 1) fun br=>
Nil a0 fun bp=>
aa 7 bp fun bB=>
Ld H bB fun bI=>
ah 1 bI br fun bL=>
Ld H bL fun cf=>
CF g 59 #[a0,cf] H (fun bN jb=>
Nil a0 fun bS=>
aa 7 bS fun ct=>
Ld jb ct fun bV=>
fc 1 bV none (some br) fun cB=>
Nil a0 fun cv=>
aa 7 cv fun cE=>
St 1 jb cE cB fun jD=>
R (.returned (.tuple #[cf,(iv 0)])) jD) (aq R))
theorem Jo(h:L18 g a0 H R):ai Tryz.prog g 18 #[a0] H R:=
 ak (hn:=(.n .e (.n (.n (.h 0 [] [1] .e .e) .e) .e))) Tryz.func18 h (by kernel_rfl)
variable {g:Gh} {a0 a1 a2 a3 a4 a5 a6 a7 a8 a9 sb r9 Yc Yb Ya X9:Value} {H:Hp} {R:Rt}
def L21(g:Gh)(a0:Value)(H:Hp)(R:Rt):Prop:=
∀J1:Jt,(∀w4:Value,∀H3:Hp,(∀Vr:Fr,
Br w4 (
R (.returned (Value.bool false)) H3) (
∃(I5:Jt) (m6:Mt),JE I5 [(iv 0)] H3∧∀w9:Value,∀H8:Hp,I5 [w9] H8→∀TZ:Fr,
Nil a0 fun v10=>
aa 2 v10 fun v11=>
Ld H8 v11 fun bf=>
aO bf fun br=>
ae .num .lss w9 br fun bp=>
Br bp (
DR H8 fun Vx=>
Nil a0 fun bI=>
aa 2 bI fun bL=>
Ld Vx bL fun cf=>
ah 1 cf w9 fun bN=>
Ld Vx bN fun v20=>
Nil a0 fun bS=>
aa 3 bS fun ct=>
Ld Vx ct fun bV=>
ah 2 bV w9 fun cB=>
aD 2 Vx cB fun cv=>
Nil a0 fun cE=>
aa 1 cE fun cL=>
Ld Vx cL fun cK=>
ae .num .mul (iv 2) cK fun cN=>
ae .num .add cN (iv 2) fun v30=>
CF g 66 #[a0,v20,cv,v30] H8 (fun dy q7=>
aU q7 Vx∧
Un .not dy fun eO=>
Br eO (
R (.returned (Value.bool false)) q7) (
∃(I34:Jt) (m35:Mt),JE I34 [(iv 0)] q7∧∀Fk:Value,∀lQ:Hp,I34 [Fk] lQ→∀ai5:Fr,
ae .num .lss Fk w9 fun gu=>
Br gu (
DR lQ fun Qq=>
Nil a0 fun fe=>
aa 2 fe fun gU=>
Ld Qq gU fun fM=>
ah 1 fM w9 fun iM=>
Ld Qq iM fun gW=>
Nil a0 fun jd=>
aa 2 jd fun jU=>
Ld Qq jU fun kE=>
ah 1 kE Fk fun kJ=>
Ld Qq kJ fun lO=>
ae .num .eql gW lO fun jP=>
Nil a0 fun lT=>
aa 3 lT fun qs=>
Ld Qq qs fun xf=>
ah 2 xf w9 fun oZ=>
aD 2 Qq oZ fun sr=>
Nil a0 fun qq=>
aa 3 qq fun sQ=>
Ld Qq sQ fun rT=>
ah 2 rT Fk fun qp=>
aD 2 Qq qp fun rS=>
CF g 67 #[sr,rS] lQ (fun uF Oi=>
aU Oi Qq∧
ae .bool .neq jP uF fun xe=>
Br xe (
R (.returned (Value.bool false)) Oi) (
ae .num .add Fk (iv 1) fun pe=>
aC I34 m35 [pe] Oi [Fk] lQ)) bu) (
ae .num .add w9 (iv 1) fun rR=>
aC I5 m6 [rR] lQ [w9] H8))) bu) (
R (.returned (Value.bool true)) H8)))→J1 [w4] H3)→
DR H fun Cp=>
Nil a0 fun qn=>
aa 0 qn fun qm=>
Ld Cp qm fun rj=>
∀F71:Hp,
CF (g.add F71) 15 #[rj] H (fun rQ wV=>
aU wV Cp∧
∀F74:Hp,
CF (g.add F74) 64 #[a0,(.slice none 0 0)] wV (fun rP nR=>
aU nR Cp∧
ae .num .neq rQ rP fun yz=>
Br yz (
JE J1 [(Value.bool true)] nR) (
Nil a0 fun uM=>
aa 0 uM fun wZ=>
Ld Cp wZ fun JF=>
Nil a0 fun Fo=>
aa 0 Fo fun wY=>
Ld Cp wY fun GS=>
∀F84:Hp,
CF (g.add F84) 15 #[JF] nR (fun vD Zz=>
aU Zz Cp∧
ae .num .add vD (iv 2) fun Kl=>
∀F88:Hp,
CF (g.add F88) 65 #[GS] Zz (fun Fm Zw=>
aU Zw Cp∧
ae .num .gtr Kl Fm fun uE=>
az (Value.bool false) (Value.bool true) uE fun Ba=>
JE J1 [Ba] Zw) bu) bu)) bu) bu
theorem Jn(h:L21 g a0 H R):ai Tryz.prog g 21 #[a0] H R:=
 ak (hn:=(.n .e (.n (.h 1 [26] [0] (.h 1 [] [] (hr 0 [] 0 4 (.h 0 [5] [] (.h 0 [4] [] (hr 0 [] 6 2 (.h 2 [8] [] (hr 0 [] 9 12 (.h 3 [21] [] .e .e)) (hr 0 [] 9 4 (hr 0 [] 15 4 (hr 0 [] 13 2 (hr 0 [] 19 3 .e)))))) .e) .e)) .e) .e) (.n (.n .e (.n (.h 0 [3] [0] (.n .e (.n (.n (.n (.n (.h 0 [0,1,2,3,4,5,6,7,8,9,10,11,12,13,14,15,16,17,18,19,20,21,22] [] .e .e) .e) (.n .e (.n (.h 0 [4] [0,3] (.n .e (.n (.n (.n (.h 0 [0,1,2,3,4,5,6,7,8,9,10,11,12,13,14,15,16,17,18,19,20,21,22,23,24,25,26,27,28,29,30] [] .e .e) .e) .e) .e)) .e) .e))) .e) .e)) .e) .e)) .e)))) Tryz.func21 h (by kernel_rfl)
def L34(g:Gh)(a0:Value)(H:Hp)(R:Rt):Prop:=
ae .ptr .eql a0 (.pointer none) fun v1=>
Br v1 (
R (.returned (iv 0)) H) (
Nil a0 fun v2=>
aa 7 v2 fun v3=>
Ld H v3 fun v4=>
aO v4 fun v5=>
R (.returned v5) H)
theorem Jm(h:L34 g a0 H R):ai Tryz.prog g 34 #[a0] H R:=
 ak (hn:=.e) Tryz.func34 h (by kernel_rfl)
def L38(g:Gh)(a0 a1:Value)(H:Hp)(R:Rt):Prop:=
CF g 99 #[a0,a1] H (fun v1 H2=>
Ext 0 v1 fun v3=>
Ext 1 v1 fun v4=>
aO v3 fun v5=>
∃(I6:Jt) (m7:Mt),JE I6 [(iv 0),(iv 0)] H2∧∀oY oc:Value,∀H9:Hp,I6 [oY,oc] H9→∀Mx:Fr,
ae .num .lss oc v5 fun bf=>
Br bf (
ah 1 v3 oc fun br=>
Ld H9 br fun bp=>
ae .num .add oY bp fun bB=>
ae .num .add oc (iv 1) fun bI=>
aC I6 m7 [bB,bI] H9 [oY,oc] H9) (
R (.returned (.tuple #[oY,v4])) H9)) (aq R)
theorem Jl(h:L38 g a0 a1 H R):ai Tryz.prog g 38 #[a0,a1] H R:=
 ak (hn:=(hN 3 (.n (.n .e (.n (.h 0 [8,19] [7,17,18] .e .e) .e)) .e))) Tryz.func38 h (by kernel_rfl)
def L42(g:Gh)(a0 a1:Value)(H:Hp)(R:Rt):Prop:=
ae .ptr .eql a0 (.pointer none) fun v1=>
Br v1 (
R (.returned (.tuple #[(iv 0),(iv 10)])) H) (
∀J2:Jt,(∀w5:Value,∀H4:Hp,(∀RA:Fr,
Br w5 (
R (.returned (.tuple #[(iv 0),(iv 4)])) H4) (
CF g 13 #[a0] H4 (fun v6 H7=>
CF g 102 #[v6,a1] H7 (fun v8 H9=>
Ext 0 v8 fun v10=>
Ext 1 v8 fun v11=>
ae .num .neq v11 (iv 0) fun bf=>
Br bf (
R (.returned (.tuple #[(iv 0),v11])) H9) (
CF g 103 #[a0,v10] H9 (fun br jN=>
Ext 0 br fun bB=>
Ext 1 br fun bI=>
R (.returned (.tuple #[bB,bI])) jN) (aq R))) (aq R)) (aq R)))→J2 [w5] H4)→
CF g 101 #[a1] H (fun bL c6=>
ae .num .neq bL (iv 0) fun bN=>
Split bN false (
aO a1 fun v20=>
CF g 61 #[a0] c6 (fun bS fo=>
ae .num .neq v20 bS fun bV=>
az (Value.bool false) (Value.bool true) bV fun cB=>
JE J2 [cB] fo) (aq R)) (
az (Value.bool true) (Value.bool true) undef fun cv=>
JE J2 [cv] c6)) (aq R))
theorem Jk(h:L42 g a0 a1 H R):ai Tryz.prog g 42 #[a0,a1] H R:=
 ak (hn:=(.n .e (.n .e (.n (.h 1 [19] [0,1] .e .e) .e)))) Tryz.func42 h (by kernel_rfl)
def L43(g:Gh)(a0 a1:Value)(H:Hp)(R:Rt):Prop:=
∃(I1:Jt) (m2:Mt),JE I1 [(.slice none 0 0),(iv 0)] H∧∀w5 w6:Value,∀H4:Hp,I1 [w5,w6] H4→∀RA:Fr,
ae .num .lss w6 a0 fun v7=>
Br v7 (
au Tryz.prog 25 1 [(0,w6)] H4 fun v8 H9=>
App Tryz.prog 3 1 8 (iv 0) H9 w5 v8 fun bf ej=>
ae .num .add w6 (iv 1) fun bp=>
aC I1 m2 [bf,bp] ej [w5,w6] H4) (
∃(E8:Jt) (Sy:Mt),JE E8 [w5,(.slice none 0 0),(iv 0)] H4∧∀jE oX RP:Value,∀c6:Hp,E8 [jE,oX,RP] c6→∀BX:Fr,
ae .num .lss RP a0 fun ct=>
Br ct (
∀Oe:Jt,(∀pc:Value,∀gf:Hp,(∀T2:Fr,
ah 1 jE pc fun cL=>
Ld gf cL fun cK=>
au Tryz.prog 25 1 [(0,cK)] gf fun cN qc=>
App Tryz.prog 3 1 8 (iv 0) qc oX cN fun eO rN=>
aO jE fun eM=>
ae .num .sub eM (iv 1) fun dW=>
ah 1 jE dW fun dO=>
Ld rN dO fun fX=>
ah 1 jE pc fun gu=>
St 1 rN gu fX fun mT=>
aO jE fun fe=>
ae .num .sub fe (iv 1) fun gU=>
fc 1 jE none (some gU) fun fM=>
ae .num .add RP (iv 1) fun iM=>
aC E8 Sy [fM,eO,iM] mT [jE,oX,RP] c6)→Oe [pc] gf)→
aO a1 fun gW=>
ae .num .lss RP gW fun jd=>
Br jd (
ah 1 a1 RP fun jU=>
Ld c6 jU fun kE=>
aY .i64 kE fun kJ=>
aO jE fun lO=>
ae .num .rem kJ lO fun jP=>
JE Oe [jP] c6) (
JE Oe [(iv 0)] c6)) (
R (.returned oX) c6))
theorem Jj(h:L43 g a0 a1 H R):ai Tryz.prog g 43 #[a0,a1] H R:=
 ak (hn:=(.n .e (.n .e (.n (.n .e (.n (.h 0 [5,6] [0,1] .e .e) .e)) (.n .e (.n (.n .e (.n (.h 0 [5,7,8] [0,1] (.n .e (.n (.n (.n .e (.h 1 [9] [0,1,5,7,8] .e .e)) .e) .e)) .e) .e)) .e)))))) Tryz.func43 h (by kernel_rfl)
def L44(g:Gh)(a0 a1:Value)(H:Hp)(R:Rt):Prop:=
CF g 46 #[a0,a1] H (fun v1 H2=>
Ext 0 v1 fun v3=>
Ext 1 v1 fun v4=>
ae .num .neq v4 (iv 0) fun v5=>
Br v5 (
R (.returned (.tuple #[(.slice none 0 0),v4])) H2) (
CF g 104 #[a0] H2 (fun v6 H7=>
CF g 61 #[a0] H7 (fun v8 H9=>
cZ 3 1 8 (iv 0) H9 v8 v8 fun v10 eu=>
CF g 15 #[a0] eu (fun bf ej=>
ah 1 v10 v3 fun bp=>
St 1 ej bp bf fun dN=>
CF g 61 #[a0] dN (fun bI fp=>
ae .num .sub bI (iv 1) fun cf=>
au Tryz.prog 25 2 [(0,cf),(1,(iv 0))] fp fun bN jb=>
aO bN fun bS=>
∃(UE:Jt) (m23:Mt),JE UE [(iv 0)] jb∧∀pc:Value,∀gf:Hp,UE [pc] gf→∀T2:Fr,
ae .num .lss pc bS fun cL=>
Br cL (
ah 1 bN pc fun cK=>
Ld gf cK fun cN=>
CF g 106 #[v3,cN] gf (fun v30 jg=>
aO v30 fun dH=>
∃(I33:Jt) (m34:Mt),JE I33 [v3,(iv 0)] jg∧∀UY Fk:Value,∀sM:Hp,I33 [UY,Fk] sM→∀XU:Fr,
ae .num .lss Fk dH fun gu=>
Br gu (
ah 1 v30 Fk fun gL=>
Ld sM gL fun fe=>
CF g 107 #[v6,fe] sM (fun gU oa=>
ae .num .neq gU (iv 0) fun iM=>
Br iM (
jj Tryz.prog g 105 #[v6] oa fun Jy=>
R (.returned (.tuple #[(.slice none 0 0),gU])) Jy) (
ae .num .add fe fe fun jd=>
ae .num .add jd (iv 1) fun jU=>
ae .num .sub jU UY fun kE=>
ae .num .sub kE UY fun kJ=>
ae .num .add UY kJ fun lO=>
CF g 15 #[a0] oa (fun jP AK=>
ah 1 v10 lO fun qs=>
St 1 AK qs jP fun GG=>
ae .num .add Fk (iv 1) fun oZ=>
aC I33 m34 [lO,oZ] GG [UY,Fk] sM) uL)) uL) (
CF g 108 #[v6] sM (fun sr Jw=>
ae .num .add pc (iv 1) fun sQ=>
aC UE m23 [sQ] Jw [pc] gf) uL)) uL) (
jj Tryz.prog g 105 #[v6] gf fun UN=>
R (.returned (.tuple #[v10,(iv 0)])) UN)) uL) uL) uL) uL)) uL
theorem Ji(h:L44 g a0 a1 H R):ai Tryz.prog g 44 #[a0,a1] H R:=
 sX (hn:=(hN 7 (.n (.n .e (.n (.h 0 [41] [0,6,8,9,39,40] (.n .e (.n .e (.n (.n (.n .e (.n .e (.n (.n .e (.n (.h 0 [12,50] [0,6,8,9,39,40,41,48,49] .e .e) .e)) .e))) .e) .e))) .e) .e)) .e))) Tryz.func44 h (by kernel_rfl)
def L45(g:Gh)(a0 a1 a2:Value)(H:Hp)(R:Rt):Prop:=
bn H (.cells #[(iv 0),(iv 0),(iv 0),(Value.bool false)] 42 (0,0)) fun b1 H2=>
CF g 109 #[a0,a2] H2 (fun v3 H4=>
ae .num .neq v3 (iv 0) fun v5=>
Br v5 (
Build Tryz.prog 42 [] fun v6=>
St 4 H4 (pt b1) v6 fun H7=>
aD 4 H7 (pt b1) fun v8=>
R (.returned (.tuple #[v8,v3])) H7) (
CF g 46 #[a0,a1] H4 (fun v9 dc=>
Ext 0 v9 fun v11=>
Ext 1 v9 fun bf=>
ae .num .neq bf (iv 0) fun br=>
Br br (
Build Tryz.prog 42 [] fun bp=>
St 4 dc (pt b1) bp fun dN=>
aD 4 dN (pt b1) fun bI=>
R (.returned (.tuple #[bI,bf])) dN) (
CF g 15 #[a0] dc (fun bL c6=>
Build Tryz.prog 42 [(0,bL)] fun bN=>
bn c6 (.cells #[(iv 0),(iv 0),(iv 0),(Value.bool false)] 42 (0,0)) fun RF fK=>
St 4 fK (pt RF) bN fun fo=>
aa 0 (pt RF) fun bV=>
Ld fo bV fun cB=>
Build Tryz.prog 175 [(0,a0),(1,v11),(2,cB),(3,v11),(4,a2)] fun cv=>
bn fo (.cells (Value.cells cv) 175 (0,0)) fun Ce jD=>
CF g 61 #[a0] jD (fun cK jC=>
ae .num .sub cK (iv 1) fun v30=>
ae .num .sub v30 v11 fun dy=>
ae .num .leq dy v11 fun dH=>
CF g 110 #[(pt Ce),dH] jC (fun eO rN=>
CF g 111 #[(pt Ce)] rN (fun eM sM=>
CF g 112 #[(pt Ce),v11] sM (fun dO oU=>
Nil (pt Ce) fun gu=>
aa 3 gu fun gL=>
Ld oU gL fun fe=>
Un .not dH fun gU=>
CF g 110 #[(pt Ce),gU] oU (fun fM GH=>
CF g 111 #[(pt Ce)] GH (fun gW yJ=>
∀YA:Jt,(∀sk:Hp,(∀ai0:Fr,
DR sk fun Gy=>
Nil (pt Ce) fun jP=>
aa 5 jP fun lT=>
Ld Gy lT fun qs=>
∀F54:Hp,
CF (g.add F54) 15 #[a0] sk (fun oZ Jx=>
aU Jx Gy∧
aa 1 (pt RF) fun qq=>
∀F58:Hp,
St 1 Jx qq oZ fun UN=>
aU UN Gy∧
aa 2 (pt RF) fun qp=>
∀F61:Hp,
St 1 UN qp qs fun GF=>
aD 4 GF (pt RF) fun qo=>
St 4 GF (pt b1) qo fun Fa=>
aD 4 Fa (pt b1) fun pe=>
R (.returned (.tuple #[pe,(iv 0)])) Fa) bu)→YA [] sk)→
Nil (pt Ce) fun rR=>
aa 3 rR fun uN=>
Ld yJ uN fun qn=>
ae .num .neq qn fe fun qm=>
Br qm (
Nil (pt Ce) fun rj=>
aa 3 rj fun xd=>
Ld yJ xd fun rQ=>
CF g 112 #[(pt Ce),rQ] yJ (fun yA RI=>
JE YA [] RI) (aq R)) (
CF g 112 #[(pt Ce),v11] yJ (fun rP nR=>
CF g 110 #[(pt Ce),dH] nR (fun yz H78=>
∃(I79:Jt) (m80:Mt),JE I79 [] H78∧∀Qz:Hp,I79 [] Qz→∀aiL:Fr,
∀Zv:Jt,(∀w86:Value,∀VE:Hp,(∀aiK:Fr,
Br w86 (
aC I79 m80 [] VE [] Qz) (
JE YA [] VE))→Zv [w86] VE)→
DR Qz fun R87=>
Nil (pt Ce) fun AP=>
aa 1 AP fun Fm=>
Ld R87 Fm fun yP=>
Nil (pt Ce) fun uE=>
aa 3 uE fun Ba=>
Ld R87 Ba fun JD=>
ae .num .neq yP JD fun JC=>
Br JC (
Nil (pt Ce) fun RR=>
aa 7 RR fun Kk=>
Ld R87 Kk fun Oo=>
∀F98:Hp,
cC Tryz.prog (g.add F98) Oo #[] Qz (fun Kh aeg=>
ae .num .eql Kh (iv 0) fun Bj=>
az (Value.bool true) Bj (Value.bool false) fun qt=>
JE Zv [qt] aeg) bu) (
JE Zv [(Value.bool false)] Qz)) (aq R)) (aq R))) (aq R)) (aq R)) (aq R)) (aq R)) (aq R)) (aq R)) (aq R))) (aq R))) (aq R)
theorem Jh(h:L45 g a0 a1 a2 H R):ai Tryz.prog g 45 #[a0,a1,a2] H R:=
 ak (hn:=(hN 13 (.h 1 [] [0,6,11,12] (hN 4 (.n (.h 0 [] [0,6,11,12] (.n (.h 1 [102] [0,6,11,12] (.h 1 [] [] (hr 0 [1] 0 9 (.h 2 [9] [] (hr 0 [1] 10 7 .e) (hr 0 [1] 10 6 (.h 3 [16] [1] .e .e)))) .e) .e) .e) .e) .e)) (.n (.h 1 [] [] (.h 0 [0] [1] (hr 0 [1] 2 4 (.h 0 [1] [1] (hr 0 [1] 6 4 .e) .e)) .e) .e) .e)))) Tryz.func45 h (by kernel_rfl)
def L46(g:Gh)(a0 a1:Value)(H:Hp)(R:Rt):Prop:=
ae .ptr .eql a0 (.pointer none) fun v1=>
Br v1 (
R (.returned (.tuple #[(iv 0),(iv 10)])) H) (
CF g 113 #[a0,a1] H (fun v2 H3=>
Un .not v2 fun v4=>
Br v4 (
R (.returned (.tuple #[(iv 0),(iv 2)])) H3) (
Nil a0 fun v5=>
aa 6 v5 fun v6=>
Ld H3 v6 fun v7=>
ah 1 v7 a1 fun v8=>
Ld H3 v8 fun v9=>
R (.returned (.tuple #[v9,(iv 0)])) H3)) (aq R))
theorem wT(h:L46 g a0 a1 H R):ai Tryz.prog g 46 #[a0,a1] H R:=
 ak (hn:=.e) Tryz.func46 h (by kernel_rfl)
def L47(g:Gh)(a0 a1:Value)(H:Hp)(R:Rt):Prop:=
bn H (.cells #[(iv 0),(iv 0),(iv 0),(Value.bool false)] 42 (0,0)) fun b1 H2=>
CF g 109 #[a0,a1] H2 (fun v3 H4=>
ae .num .neq v3 (iv 0) fun v5=>
Br v5 (
Build Tryz.prog 42 [] fun v6=>
St 4 H4 (pt b1) v6 fun H7=>
aD 4 H7 (pt b1) fun v8=>
R (.returned (.tuple #[v8,v3])) H7) (
CF g 15 #[a0] H4 (fun v9 dc=>
Build Tryz.prog 42 [(0,v9)] fun v11=>
bn dc (.cells #[(iv 0),(iv 0),(iv 0),(Value.bool false)] 42 (0,0)) fun r8 ej=>
St 4 ej (pt r8) v11 fun jN=>
CF g 114 #[a0] jN (fun bB fh=>
aO bB fun bL=>
∃(NA:Jt) (V9:Mt),JE NA [(iv 0)] fh∧∀qk:Value,∀fK:Hp,NA [qk] fK→∀T5:Fr,
ae .num .lss qk bL fun bV=>
Br bV (
ah 1 bB qk fun cB=>
Ld fK cB fun cv=>
CF g 45 #[a0,cv,a1] fK (fun cE jD=>
Ext 0 cE fun cK=>
Ext 1 cE fun cN=>
bn jD (.cells #[(iv 0),(iv 0),(iv 0),(Value.bool false)] 42 (0,0)) fun b30 jg=>
St 4 jg (pt b30) cK fun q7=>
aa 2 (pt r8) fun eO=>
Ld q7 eO fun eY=>
aa 2 (pt b30) fun eM=>
Ld q7 eM fun dW=>
ae .num .add eY dW fun dO=>
aa 2 (pt r8) fun fX=>
St 1 q7 fX dO fun A5=>
ae .num .add qk (iv 1) fun gL=>
aC NA V9 [gL] A5 [qk] fK) (aq R)) (
CF g 15 #[a0] fK (fun fe yp=>
aa 1 (pt r8) fun fM=>
St 1 yp fM fe fun GH=>
aD 4 GH (pt r8) fun gW=>
St 4 GH (pt b1) gW fun yJ=>
aD 4 yJ (pt b1) fun jU=>
R (.returned (.tuple #[jU,(iv 0)])) yJ) (aq R))) (aq R)) (aq R))) (aq R)
theorem Jg(h:L47 g a0 a1 H R):ai Tryz.prog g 47 #[a0,a1] H R:=
 ak (hn:=(hN 3 (.n (.n .e (.n (.h 0 [25] [0,1,4,7,23,24] .e .e) .e)) .e))) Tryz.func47 h (by kernel_rfl)
def L48(g:Gh)(a0 a1:Value)(H:Hp)(R:Rt):Prop:=
bn H (.cells #[(iv 0),(iv 0),(iv 0),(Value.bool false)] 42 (0,0)) fun b1 H2=>
CF g 109 #[a0,a1] H2 (fun v3 H4=>
ae .num .neq v3 (iv 0) fun v5=>
Br v5 (
Build Tryz.prog 42 [] fun v6=>
St 4 H4 (pt b1) v6 fun H7=>
aD 4 H7 (pt b1) fun v8=>
R (.returned (.tuple #[v8,(iv 0),v3])) H7) (
CF g 15 #[a0] H4 (fun v9 dc=>
Build Tryz.prog 42 [(0,v9)] fun v11=>
bn dc (.cells #[(iv 0),(iv 0),(iv 0),(Value.bool false)] 42 (0,0)) fun r8 ej=>
St 4 ej (pt r8) v11 fun jN=>
∃(E8:Jt) (Sy:Mt),JE E8 [(iv 1)] jN∧∀jE:Value,∀c6:Hp,E8 [jE] c6→∀BX:Fr,
CF g 47 #[a0,a1] c6 (fun v20 fK=>
Ext 0 v20 fun ct=>
Ext 1 v20 fun bV=>
bn fK (.cells #[(iv 0),(iv 0),(iv 0),(Value.bool false)] 42 (0,0)) fun Gq gf=>
St 4 gf (pt Gq) ct fun gp=>
aa 2 (pt r8) fun cL=>
Ld gp cL fun cK=>
aa 2 (pt Gq) fun cN=>
Ld gp cN fun v30=>
ae .num .add cK v30 fun dy=>
aa 2 (pt r8) fun dH=>
St 1 gp dH dy fun lj=>
aa 1 (pt Gq) fun eY=>
Ld lj eY fun eM=>
aa 1 (pt r8) fun dW=>
St 1 lj dW eM fun lQ=>
aa 1 (pt Gq) fun fX=>
Ld lQ fX fun gu=>
aa 0 (pt Gq) fun gL=>
Ld lQ gL fun fe=>
ae .num .geq gu fe fun gU=>
Br gU (
aD 4 lQ (pt r8) fun fM=>
St 4 lQ (pt b1) fM fun GH=>
aD 4 GH (pt b1) fun gW=>
R (.returned (.tuple #[gW,jE,(iv 0)])) GH) (
ae .num .add jE (iv 1) fun jd=>
aC E8 Sy [jd] lQ [jE] c6)) (aq R)) (aq R))) (aq R)
theorem Jf(h:L48 g a0 a1 H R):ai Tryz.prog g 48 #[a0,a1] H R:=
 ak (hn:=(hN 4 (.n (.h 0 [9] [0,1,4,8] .e .e) .e))) Tryz.func48 h (by kernel_rfl)
def L51(g:Gh)(a0 a1:Value)(H:Hp)(R:Rt):Prop:=
CF g 116 #[a0] H (fun v1 H2=>
Ext 0 v1 fun v3=>
Ext 1 v1 fun v4=>
ae .num .neq v4 (iv 0) fun v5=>
bX v5 false (fun t6=>
ae .num .lss a0 (iv 1) fun v7=>
(H2=H2∧v7=Value.bool t6)) (fun t6=>(Value.bool true)=Value.bool t6) fun t6=>∀Mx:Fr,
bX (Value.bool t6) false (fun t9=>
ae .num .lss a1 (iv 2) fun v10=>
(H2=H2∧v10=Value.bool t9)) (fun t9=>(Value.bool true)=Value.bool t9) fun t9=>∀PV:Fr,
bX (Value.bool t9) false (fun t12=>
ae .num .gtr a1 (iv 1048576) fun br=>
(H2=H2∧br=Value.bool t12)) (fun t12=>(Value.bool true)=Value.bool t12) fun t12=>∀tG:Fr,
Br (Value.bool t12) (
R (.returned (.tuple #[(.pointer none),(iv 1)])) H2) (
CF g 117 #[a0] H2 (fun bB fh=>
Ext 0 bB fun bL=>
Ext 1 bB fun cf=>
ae .num .neq cf (iv 0) fun bN=>
Br bN (
R (.returned (.tuple #[(.pointer none),cf])) fh) (
CF g 118 #[a1,bL] fh (fun v20 fK=>
Ext 0 v20 fun ct=>
Ext 1 v20 fun bV=>
bn fK (.cells #[(.pointer none),(.pointer none),(.slice none 0 0),(.slice none 0 0)] 115 (0,0)) fun Gq gf=>
St 4 gf (pt Gq) ct fun gp=>
ae .num .neq bV (iv 0) fun cL=>
Br cL (
R (.returned (.tuple #[(.pointer none),bV])) gp) (
DR gp fun Uq=>
aD 4 Uq (pt Gq) fun cN=>
CF g 57 #[v3] gp (fun v30 jg=>
aU jg Uq∧
Build Tryz.prog 117 [(0,cN),(1,a0),(2,v3),(3,v30)] fun dH=>
bn jg (.cells (Value.cells dH) 117 (0,0)) fun qV rN=>
aU rN Uq∧
R (.returned (.tuple #[(pt qV),(iv 0)])) rN) bu)) (aq R))) (aq R))) (aq R)
theorem Je(h:L51 g a0 a1 H R):ai Tryz.prog g 51 #[a0,a1] H R:=
 ak (hn:=(.n .e (.n .e (.n (.n (.h 0 [] [1] .e .e) .e) (hN 4 (.n (.h 0 [0,1,2,3,4,5,6,7,8] [] .e .e) .e)))))) Tryz.func51 h (by kernel_rfl)
def L54(g:Gh)(a0 a1:Value)(H:Hp)(R:Rt):Prop:=
CF g 51 #[a0,a1] H (fun v1 H2=>
Ext 0 v1 fun v3=>
Ext 1 v1 fun v4=>
∀J5:Jt,(∀w8:Value,∀H7:Hp,(∀Rz:Fr,
Br w8 (
R (.returned (.pointer none)) H7) (
Build Tryz.prog 30 [(0,v3),(1,a0)] fun v9=>
bn H7 (.cells (Value.cells v9) 30 (0,0)) fun yg eu=>
R (.returned (pt yg)) eu))→J5 [w8] H7)→
ae .num .neq v4 (iv 0) fun bf=>
Split bf false (
ae .ptr .eql v3 (.pointer none) fun br=>
az (Value.bool false) (Value.bool true) br fun bp=>
Split bp false (
CF g 61 #[v3] H2 (fun bB fh=>
ae .num .neq bB a0 fun bL=>
az (Value.bool false) (Value.bool true) bL fun cf=>
Split cf false (
CF g 65 #[v3] fh (fun bN jb=>
ae .num .neq bN a1 fun bS=>
az (Value.bool false) (Value.bool true) bS fun ct=>
Split ct false (
CF g 15 #[v3] jb (fun bV iL=>
ae .num .neq bV (iv 0) fun cv=>
az (Value.bool false) (Value.bool true) cv fun cE=>
JE J5 [cE] iL) (aq R)) (
az (Value.bool true) (Value.bool true) undef fun cL=>
JE J5 [cL] jb)) (aq R)) (
az (Value.bool true) (Value.bool true) undef fun cK=>
az cK (Value.bool true) undef fun cN=>
JE J5 [cN] fh)) (aq R)) (
az (Value.bool true) (Value.bool true) undef fun v30=>
az v30 (Value.bool true) undef fun dy=>
az dy (Value.bool true) undef fun dH=>
JE J5 [dH] H2)) (
az (Value.bool true) (Value.bool true) undef fun eO=>
az eO (Value.bool true) undef fun eY=>
az eY (Value.bool true) undef fun eM=>
az eM (Value.bool true) undef fun dW=>
JE J5 [dW] H2)) (aq R)
theorem Jd(h:L54 g a0 a1 H R):ai Tryz.prog g 54 #[a0,a1] H R:=
 ak (hn:=(.n .e (.n .e (.n (.h 1 [35] [0,5] .e .e) .e)))) Tryz.func54 h (by kernel_rfl)
variable {g:Gh} {a0 a1 a2 a3 a4 a5 a6 a7 a8 a9 sb r9 Yc Yb Ya X9:Value} {H:Hp} {R:Rt}
def L55(g:Gh)(a0 a1:Value)(H:Hp)(R:Rt):Prop:=
bn H (.cells (Value.cells a1) 106 (0,0)) fun b1 H2=>
aa 2 (pt b1) fun v3=>
Ld H2 v3 fun v4=>
CF g 126 #[a0,v4] H2 (fun v5 H6=>
Ext 0 v5 fun v7=>
Ext 1 v5 fun v8=>
bn H6 (.cells #[(iv 0),(.slice none 0 0)] 57 (0,0)) fun b9 dc=>
St 2 dc (pt b9) v8 fun eu=>
aa 3 (pt b1) fun bf=>
Ld eu bf fun br=>
CF g 126 #[a0,br] eu (fun bp dN=>
Ext 0 bp fun bI=>
Ext 1 bp fun bL=>
bn dN (.cells #[(iv 0),(.slice none 0 0)] 57 (0,0)) fun oO lR=>
St 2 lR (pt oO) bL fun jb=>
aa 4 (pt b1) fun bS=>
Ld jb bS fun ct=>
CF g 126 #[a0,ct] jb (fun bV iL=>
Ext 0 bV fun cv=>
Ext 1 bV fun cE=>
bn iL (.cells #[(iv 0),(.slice none 0 0)] 57 (0,0)) fun IF rO=>
St 2 rO (pt IF) cE fun jC=>
aD 6 jC (pt b1) fun v30=>
aD 2 jC (pt b9) fun dy=>
aD 2 jC (pt oO) fun dH=>
aD 2 jC (pt IF) fun eO=>
CF g 127 #[a0,v30,dy,dH,eO] jC (fun eY qZ=>
Ext 0 eY fun dW=>
Ext 1 eY fun dO=>
bn qZ (.cells #[(iv 0),(.slice none 0 0)] 57 (0,0)) fun Uh A5=>
St 2 A5 (pt Uh) dW fun mT=>
aD 6 mT (pt b1) fun fe=>
CF g 128 #[a0,fe,v7,bI,cv] mT (fun gU oa=>
Ext 0 gU fun iM=>
Ext 1 gU fun gW=>
ae .num .neq dO (iv 0) fun jd=>
Br jd (
R (.returned (Value.bool false)) oa) (
DR oa fun Yg=>
aD 2 Yg (pt Uh) fun kE=>
Nil a0 fun kJ=>
aa 0 kJ fun lO=>
Ld Yg lO fun jP=>
au Tryz.prog 28 1 [(0,kE)] oa fun lT JT=>
aU JT Yg∧
CF g 64 #[a0,lT] JT (fun xf QA=>
aU QA Yg∧
ae .num .add xf (iv 2) fun sr=>
CF g 65 #[jP] QA (fun qq sL=>
aU sL Yg∧
ae .num .leq sr qq fun rT=>
ae .num .eql gW (iv 9) fun qp=>
Br qp (
ae .num .eql iM (Value.int .u32 0) fun rS=>
bX rS true (fun t62=>
Un .not rT fun qo=>
bX qo false (fun t64=>
aa 0 (pt b1) fun pe=>
Ld sL pe fun rR=>
ae .num .rem rR (Value.int .u8 9) fun uN=>
ae .num .eql uN (Value.int .u8 8) fun qn=>
(sL=sL∧qn=Value.bool t64)) (fun t64=>(Value.bool true)=Value.bool t64) fun t64=>∀aiR:Fr,
(sL=sL∧(Value.bool t64)=Value.bool t62)) (fun t62=>(Value.bool false)=Value.bool t62) fun t62=>∀aiQ:Fr,
R (.returned (Value.bool t62)) sL) (
ae .num .neq gW (iv 0) fun xd=>
bX xd false (fun t72=>
Un .not rT fun yA=>
(sL=sL∧yA=Value.bool t72)) (fun t72=>(Value.bool true)=Value.bool t72) fun t72=>∀aiP:Fr,
Br (Value.bool t72) (
R (.returned (Value.bool false)) sL) (
aD 2 sL (pt Uh) fun rP=>
CF g 129 #[a0,iM,rP] sL (fun Fp Jv=>
R (.returned (Value.bool true)) Jv) (aq R)))) bu) bu)) (aq R)) (aq R)) (aq R)) (aq R)) (aq R)
theorem Jc(h:L55 g a0 a1 H R):ai Tryz.prog g 55 #[a0,a1] H R:=
 ak (hn:=(hN 7 (.n (.h 0 [0,1,5,6,7,8,2,3,4,9,10,11] [] .e .e) (.n (.n .e (.n (.n (.h 0 [] [1] .e .e) .e) .e)) (.n (.n (.h 0 [] [1] .e .e) .e) .e))))) Tryz.func55 h (by kernel_rfl)
def L57(g:Gh)(a0:Value)(H:Hp)(R:Rt):Prop:=
ae .slice .eql a0 (.slice none 0 0) fun v1=>
Br v1 (
R (.returned (.slice none 0 0)) H) (
au Tryz.prog 25 0 [] H fun v2 H3=>
App Tryz.prog 3 1 8 (iv 0) H3 v2 a0 fun v6 H7=>
R (.returned v6) H7)
theorem Jb(h:L57 g a0 H R):ai Tryz.prog g 57 #[a0] H R:=
 ak (hn:=.e) Tryz.func57 h (by kernel_rfl)
def L58(g:Gh)(a0:Value)(H:Hp)(R:Rt):Prop:=
ae .ptr .eql a0 (.pointer none) fun v1=>
Br v1 (
R (.returned (iv 0)) H) (
Nil a0 fun v2=>
aa 3 v2 fun v3=>
Ld H v3 fun v4=>
R (.returned v4) H)
theorem Ja(h:L58 g a0 H R):ai Tryz.prog g 58 #[a0] H R:=
 ak (hn:=.e) Tryz.func58 h (by kernel_rfl)
def L59(g:Gh)(a0 a1:Value)(H:Hp)(R:Rt):Prop:=
Nil a0 fun v1=>
aa 5 v1 fun v2=>
Ld H v2 fun v3=>
ah 1 v3 a1 fun v4=>
Ld H v4 fun v5=>
Nil a0 fun v6=>
aa 5 v6 fun v7=>
Ld H v7 fun v8=>
ae .num .add a1 (iv 1) fun v9=>
ah 1 v8 v9 fun v10=>
Ld H v10 fun v11=>
CF g 134 #[a0,v5,v11] H (fun bf ej=>
DR ej fun R14=>
Nil a0 fun bB=>
aa 0 bB fun bI=>
CF g 136 #[a0,v5,bf] ej (fun bL c6=>
CF g 135 #[bI,bL] c6 (fun bN jb=>
Un .not bN fun bS=>
Br bS (
R (.returned (Value.bool false)) jb) (
aO bf fun ct=>
∃(I23:Jt) (m24:Mt),JE I23 [(iv 0)] jb∧∀VM:Value,∀gp:Hp,I23 [VM] gp→∀ai7:Fr,
ae .num .lss VM ct fun cK=>
Br cK (
ah 8 bf VM fun cN=>
aD 8 gp cN fun v30=>
bn gp (.cells #[(Value.int .u32 0),(iv 0),(Value.int .u32 0),(Value.int .u32 0),(Value.int .u32 0),(Value.int .u32 0),(Value.int .u32 0),(Value.int .u32 0)] 203 (0,0)) fun Cd q7=>
St 8 q7 (pt Cd) v30 fun lj=>
DR lj fun IM=>
Nil a0 fun eM=>
aa 0 eM fun dW=>
aa 1 dW fun dO=>
Ld IM dO fun fX=>
aa 1 (pt Cd) fun gu=>
aD 3 IM gu fun gL=>
CF g 137 #[fX,gL] lj (fun fe yp=>
ae .num .add VM (iv 1) fun fM=>
aC I23 m24 [fM] yp [VM] gp) bu) (
aO bf fun iM=>
∃(I45:Jt) (m46:Mt),JE I45 [(iv 0)] gp∧∀VK:Value,∀vz:Hp,I45 [VK] vz→∀XT:Fr,
ae .num .lss VK iM fun lO=>
Br lO (
ah 8 bf VK fun jP=>
aD 8 vz jP fun lT=>
bn vz (.cells #[(Value.int .u32 0),(iv 0),(Value.int .u32 0),(Value.int .u32 0),(Value.int .u32 0),(Value.int .u32 0),(Value.int .u32 0),(Value.int .u32 0)] 203 (0,0)) fun RE GG=>
St 8 GG (pt RE) lT fun QA=>
DR QA fun Qp=>
Nil a0 fun qq=>
aa 0 qq fun sQ=>
aa 4 (pt RE) fun rT=>
Ld Qp rT fun qp=>
aa 6 (pt RE) fun rS=>
Ld Qp rS fun uF=>
CF g 138 #[sQ,v5,qp,uF] QA (fun qo Fa=>
Nil a0 fun pe=>
aa 0 pe fun rR=>
CF g 139 #[rR,qo] Fa (fun uN VI=>
DR VI fun R69=>
Nil a0 fun rj=>
aa 0 rj fun xd=>
aa 5 (pt RE) fun rQ=>
Ld R69 rQ fun yA=>
aa 7 (pt RE) fun GU=>
Ld R69 GU fun rP=>
CF g 138 #[xd,v5,yA,rP] VI (fun Fp Jv=>
Nil a0 fun uM=>
aa 0 uM fun wZ=>
CF g 139 #[wZ,Fp] Jv (fun JF VG=>
Build Tryz.prog 161 [(0,v11),(1,qo),(2,Fp)] fun wY=>
bn VG (.cells #[(iv 0),(Value.int .u32 0),(Value.int .u32 0)] 161 (0,0)) fun Zt H84=>
St 3 H84 (pt Zt) wY fun VE=>
DR VE fun R86=>
Nil a0 fun Kl=>
aa 0 Kl fun AP=>
aa 0 AP fun Fm=>
Ld R86 Fm fun yP=>
aa 0 (pt RE) fun uE=>
Ld R86 uE fun Ba=>
aD 3 R86 (pt Zt) fun JD=>
CF g 140 #[yP,Ba,JD] VE (fun JC UJ=>
DR UJ fun R96=>
Nil a0 fun Oo=>
aa 0 Oo fun Kj=>
aa 1 Kj fun Kh=>
Ld R96 Kh fun rU=>
aD 3 R96 (pt Zt) fun Bj=>
aa 0 (pt RE) fun qt=>
Ld R96 qt fun sR=>
CF g 141 #[rU,Bj,sR] UJ (fun yR aef=>
ae .num .add VK (iv 1) fun Bh=>
aC I45 m46 [Bh] aef [VK] vz) bu) bu) (aq R)) bu) (aq R)) bu) (
aO bf fun xl=>
∃(UH:Jt) (aaV:Mt),JE UH [(iv 0)] vz∧∀Kf:Value,∀Jz:Hp,UH [Kf] Jz→∀afE:Fr,
ae .num .lss Kf xl fun xj=>
Br xj (
ah 8 bf Kf fun Bf=>
aD 8 Jz Bf fun xh=>
bn Jz (.cells #[(Value.int .u32 0),(iv 0),(Value.int .u32 0),(Value.int .u32 0),(Value.int .u32 0),(Value.int .u32 0),(Value.int .u32 0),(Value.int .u32 0)] 203 (0,0)) fun Qh aea=>
St 8 aea (pt Qh) xh fun YM=>
DR YM fun adA=>
Nil a0 fun Be=>
aa 0 Be fun Bd=>
aa 1 (pt Qh) fun Ks=>
aa 1 Ks fun xg=>
Ld adA xg fun yQ=>
CF g 142 #[Bd,yQ] YM (fun GW YK=>
DR YK fun adz=>
Nil a0 fun Kq=>
aa 0 Kq fun Kp=>
aa 1 (pt Qh) fun Bc=>
aa 2 Bc fun Bb=>
Ld adz Bb fun Ko=>
CF g 142 #[Kp,Ko] YK (fun GV ad8=>
ae .num .add Kf (iv 1) fun Sa=>
aC UH aaV [Sa] ad8 [Kf] Jz) bu) bu) (
DR Jz fun Yi=>
Nil a0 fun Kn=>
aa 5 Kn fun R5=>
Ld Yi R5 fun Km=>
Nil a0 fun R4=>
aa 5 R4 fun R2=>
Ld Yi R2 fun aaw=>
ae .num .add a1 (iv 1) fun RZ=>
ah 1 Km a1 fun RY=>
St 1 Jz RY v11 fun ad6=>
ah 1 aaw RZ fun RX=>
St 1 ad6 RX v5 fun YJ=>
DR YJ fun Yh=>
Nil a0 fun aat=>
aa 6 aat fun RW=>
Ld Yh RW fun RV=>
Nil a0 fun RU=>
aa 6 RU fun RT=>
Ld Yh RT fun RS=>
ae .num .add a1 (iv 1) fun aas=>
ah 1 RV v5 fun aar=>
St 1 YJ aar aas fun ad5=>
ah 1 RS v11 fun aaq=>
St 1 ad5 aaq a1 fun ad4=>
R (.returned (Value.bool true)) ad4))))) bu) bu) (aq R)
theorem I0(h:L59 g a0 a1 H R):ai Tryz.prog g 59 #[a0,a1] H R:=
 ak (hn:=(hN 3 (.n (.n (.h 0 [0,1,2,3,4,5,6,7,8] [] .e .e) .e) (.n (.n .e (.n (.h 0 [47] [0,1,5,6,7,45,46] (.n .e (.n .e (.n (.n (.n .e (.h 0 [0,1,2,3,4,5,6,7] [] .e .e)) .e) .e))) .e) .e)) (.n (.n .e (.n (.h 0 [62] [0,1,5,6,7,60,61] (.n .e (.n .e (.n (.n (.n .e (.n (.h 0 [0,1,2,3,4,5,6,7,8,9] [] .e .e) (.n .e (.n (.h 0 [0,1,2,3,4,5,6,7,8,9] [] .e .e) (.n .e (.n .e (.n (.h 0 [0,1,2,3,4,5,6,7,8] [] .e .e) (.h 0 [0,1,2,3,4,5,6,7,8] [] .e .e)))))))) .e) .e))) .e) .e)) (.n (.n .e (.n (.h 0 [119] [0,1,5,6,117,118] (.n .e (.n .e (.n (.n (.n .e (.n (.h 0 [0,1,2,3,4,5,6] [] .e .e) (.h 0 [0,1,2,3,4,5,6] [] .e .e))) .e) .e))) .e) .e)) (.n (.h 0 [0,1,2,3,4,5,6,7,8,9,10,11,12,13,14,15,16] [] .e .e) (.n (.h 0 [0,1,2,3,4,5,6,7,8,9,10,11,12,13,14,15,16] [] .e .e) .e)))))))) Tryz.func59 h (by kernel_rfl)
def L61(g:Gh)(a0:Value)(H:Hp)(R:Rt):Prop:=
ae .ptr .eql a0 (.pointer none) fun v1=>
Br v1 (
R (.returned (iv 0)) H) (
Nil a0 fun v2=>
aa 4 v2 fun v3=>
Ld H v3 fun v4=>
R (.returned v4) H)
theorem IZ(h:L61 g a0 H R):ai Tryz.prog g 61 #[a0] H R:=
 ak (hn:=.e) Tryz.func61 h (by kernel_rfl)
def L64(g:Gh)(a0 a1:Value)(H:Hp)(R:Rt):Prop:=
au Tryz.prog 28 0 [] H fun v1 H2=>
Nil a0 fun v3=>
aa 3 v3 fun v4=>
Ld H2 v4 fun v5=>
App Tryz.prog 57 2 32 (.agg #[(iv 0),(.slice none 0 0)]) H2 v1 v5 fun v8 H9=>
App Tryz.prog 57 2 32 (.agg #[(iv 0),(.slice none 0 0)]) H9 v8 a1 fun bf ej=>
Nil a0 fun bp=>
aa 0 bp fun bB=>
Ld ej bB fun bI=>
CF g 13 #[bI] ej (fun bL c6=>
CF g 38 #[bf,bL] c6 (fun bN jb=>
Ext 0 bN fun bS=>
Ext 1 bN fun ct=>
ae .num .neq ct (iv 0) fun bV=>
Br bV (
R (.returned (iv (-1))) jb) (
R (.returned bS) jb)) (aq R)) (aq R)
theorem IY(h:L64 g a0 a1 H R):ai Tryz.prog g 64 #[a0,a1] H R:=
 ak (hn:=.e) Tryz.func64 h (by kernel_rfl)
def L65(g:Gh)(a0:Value)(H:Hp)(R:Rt):Prop:=
ae .ptr .eql a0 (.pointer none) fun v1=>
Br v1 (
R (.returned (iv 0)) H) (
Nil a0 fun v2=>
aa 0 v2 fun v3=>
aa 0 v3 fun v4=>
Ld H v4 fun v5=>
CF g 146 #[v5] H (fun v6 H7=>
R (.returned v6) H7) (aq R))
theorem IX(h:L65 g a0 H R):ai Tryz.prog g 65 #[a0] H R:=
 ak (hn:=.e) Tryz.func65 h (by kernel_rfl)
def L66(g:Gh)(a0 a1 a2 a3:Value)(H:Hp)(R:Rt):Prop:=
bn H (.cells (Value.cells a2) 57 (0,0)) fun b1 H2=>
ae .num .eql a3 (iv 0) fun v3=>
Br v3 (
R (.returned (Value.bool false)) H2) (
Nil a0 fun v4=>
aa 0 v4 fun v5=>
Ld H2 v5 fun v6=>
CF g 97 #[v6,a1] H2 (fun v7 H8=>
Ext 0 v7 fun v9=>
Ext 1 v7 fun v10=>
bn H8 (.cells #[(iv 0),(Value.int .u32 0),(Value.int .u32 0)] 161 (0,0)) fun Cg dk=>
St 3 dk (pt Cg) v9 fun ej=>
ae .num .neq v10 (iv 0) fun bp=>
Br bp (
R (.returned (Value.bool false)) ej) (
ae .num .lss a1 (Value.int .u32 2) fun bB=>
Br bB (
Nil a0 fun bI=>
aa 1 bI fun bL=>
Ld ej bL fun cf=>
ae .num .eql a1 (Value.int .u32 1) fun bN=>
CF g 147 #[cf,bN] ej (fun v20 fK=>
Ext 0 v20 fun ct=>
Ext 1 v20 fun bV=>
bn fK (.cells #[(iv 0),(.slice none 0 0)] 57 (0,0)) fun Gq gf=>
St 2 gf (pt Gq) ct fun gp=>
∀A4:Jt,(∀QG:Value,∀jC:Hp,(∀XW:Fr,
R (.returned QG) jC)→A4 [QG] jC)→
ae .num .eql bV (iv 0) fun dy=>
Split dy true (
aa 0 (pt Cg) fun dH=>
Ld gp dH fun eO=>
ae .num .eql eO (iv (-1)) fun eY=>
az (Value.bool true) eY (Value.bool false) fun eM=>
Split eM true (
aD 2 gp (pt Gq) fun dW=>
aD 2 gp (pt b1) fun dO=>
CF g 67 #[dW,dO] gp (fun fX A5=>
az (Value.bool true) fX (Value.bool false) fun gL=>
JE A4 [gL] A5) (aq R)) (
az (Value.bool false) undef (Value.bool false) fun fe=>
JE A4 [fe] gp)) (
az (Value.bool false) undef (Value.bool false) fun gU=>
az gU undef (Value.bool false) fun fM=>
JE A4 [fM] gp)) (aq R)) (
DR ej fun R44=>
Nil a0 fun gW=>
aa 0 gW fun jd=>
Ld R44 jd fun jU=>
aa 0 (pt Cg) fun kE=>
Ld R44 kE fun kJ=>
CF g 46 #[jU,kJ] ej (fun lO Oj=>
aU Oj R44∧
Ext 0 lO fun lT=>
Ext 1 lO fun qs=>
aD 2 Oj (pt b1) fun xf=>
aa 0 (pt Cg) fun oZ=>
Ld Oj oZ fun sr=>
CF g 148 #[xf,sr,(Value.bool false)] Oj (fun qq sL=>
Ext 0 qq fun rT=>
Ext 1 qq fun qp=>
bn sL (.cells #[(iv 0),(.slice none 0 0)] 57 (0,0)) fun X5 GF=>
St 2 GF (pt X5) rT fun Oi=>
aD 2 Oi (pt b1) fun xe=>
aa 0 (pt Cg) fun pe=>
Ld Oi pe fun rR=>
CF g 148 #[xe,rR,(Value.bool true)] Oi (fun uN VI=>
Ext 0 uN fun qm=>
Ext 1 uN fun rj=>
bn VI (.cells #[(iv 0),(.slice none 0 0)] 57 (0,0)) fun X4 UK=>
St 2 UK (pt X4) qm fun wV=>
∀GD:Jt,(∀VJ:Value,∀nR:Hp,(∀acZ:Fr,
Br VJ (
R (.returned (Value.bool false)) nR) (
∀J78:Jt,(∀w81:Value,∀ZA:Hp,(∀aiN:Fr,
R (.returned w81) ZA)→J78 [w81] ZA)→
aa 1 (pt Cg) fun wY=>
Ld nR wY fun GS=>
aD 2 nR (pt X5) fun AQ=>
ae .num .sub a3 (iv 1) fun vD=>
CF g 66 #[a0,GS,AQ,vD] nR (fun GR Oh=>
Split GR true (
aa 2 (pt Cg) fun AP=>
Ld Oh AP fun Fm=>
aD 2 Oh (pt X4) fun yP=>
ae .num .sub a3 (iv 1) fun uE=>
CF g 66 #[a0,Fm,yP,uE] Oh (fun Ba H93=>
az (Value.bool true) Ba (Value.bool false) fun JC=>
JE J78 [JC] H93) (aq R)) (
az (Value.bool false) undef (Value.bool false) fun RR=>
JE J78 [RR] Oh)) (aq R)))→GD [VJ] nR)→
ae .num .neq qs (iv 0) fun Kk=>
Split Kk false (
ae .num .neq qp (iv 0) fun Oo=>
az (Value.bool false) (Value.bool true) Oo fun Kj=>
Split Kj false (
ae .num .neq rj (iv 0) fun Kh=>
az (Value.bool false) (Value.bool true) Kh fun rU=>
Split rU false (
aa 1 (pt Cg) fun Bj=>
Ld wV Bj fun qt=>
aa 2 (pt Cg) fun sR=>
Ld wV sR fun yR=>
ae .num .eql qt yR fun Bi=>
az (Value.bool false) (Value.bool true) Bi fun Bh=>
Split Bh false (
aa 1 (pt Cg) fun xl=>
Ld wV xl fun Kv=>
CF g 149 #[a0,Kv,lT] wV (fun uO Fb=>
Un .not uO fun Bg=>
az (Value.bool false) (Value.bool true) Bg fun xk=>
Split xk false (
aa 2 (pt Cg) fun xj=>
Ld Fb xj fun Bf=>
CF g 149 #[a0,Bf,lT] Fb (fun xh aeb=>
Un .not xh fun Kt=>
az (Value.bool false) (Value.bool true) Kt fun GX=>
JE GD [GX] aeb) (aq R)) (
az (Value.bool true) (Value.bool true) undef fun aaz=>
JE GD [aaz] Fb)) (aq R)) (
az (Value.bool true) (Value.bool true) undef fun Be=>
az Be (Value.bool true) undef fun Bd=>
JE GD [Bd] wV)) (
az (Value.bool true) (Value.bool true) undef fun Ks=>
az Ks (Value.bool true) undef fun xg=>
az xg (Value.bool true) undef fun yQ=>
JE GD [yQ] wV)) (
az (Value.bool true) (Value.bool true) undef fun GW=>
az GW (Value.bool true) undef fun Kr=>
az Kr (Value.bool true) undef fun aay=>
az aay (Value.bool true) undef fun Kq=>
JE GD [Kq] wV)) (
az (Value.bool true) (Value.bool true) undef fun Kp=>
az Kp (Value.bool true) undef fun Bc=>
az Bc (Value.bool true) undef fun Bb=>
az Bb (Value.bool true) undef fun Ko=>
az Ko (Value.bool true) undef fun GV=>
JE GD [GV] wV)) (aq R)) (aq R)) bu))) (aq R))
theorem wS(h:L66 g a0 a1 a2 a3 H R):ai Tryz.prog g 66 #[a0,a1,a2,a3] H R:=
 ak (hn:=(hN 4 (.n (.n .e (.n (.n .e (.h 1 [8] [] .e .e)) .e)) (.n (.h 0 [0,1,2,3,4,5,6,7,8,9,10,11] [] .e .e) (.n .e (.n .e (.n (.h 1 [112] [0,3,9,15,17] .e .e) (.h 1 [8] [] .e .e)))))))) Tryz.func66 h (by kernel_rfl)
def L67(g:Gh)(a0 a1:Value)(H:Hp)(R:Rt):Prop:=
bn H (.cells (Value.cells a0) 57 (0,0)) fun b1 H2=>
bn H2 (.cells (Value.cells a1) 57 (0,0)) fun b3 H4=>
aa 0 (pt b1) fun v5=>
Ld H4 v5 fun v6=>
aa 0 (pt b3) fun v7=>
Ld H4 v7 fun v8=>
ae .num .neq v6 v8 fun v9=>
bX v9 false (fun t10=>
aa 1 (pt b1) fun v11=>
Ld H4 v11 fun bf=>
aO bf fun br=>
aa 1 (pt b3) fun bp=>
Ld H4 bp fun bB=>
aO bB fun bI=>
ae .num .neq br bI fun bL=>
(H4=H4∧bL=Value.bool t10)) (fun t10=>(Value.bool true)=Value.bool t10) fun t10=>∀T6:Fr,
Br (Value.bool t10) (
R (.returned (Value.bool false)) H4) (
∃(I19:Jt) (m20:Mt),JE I19 [(iv 0)] H4∧∀sn:Value,∀fo:Hp,I19 [sn] fo→∀T4:Fr,
aa 1 (pt b1) fun cB=>
Ld fo cB fun cv=>
aO cv fun cE=>
ae .num .lss sn cE fun cL=>
Br cL (
aa 1 (pt b1) fun cK=>
Ld fo cK fun cN=>
ah 1 cN sn fun v30=>
Ld fo v30 fun dy=>
aa 1 (pt b3) fun dH=>
Ld fo dH fun eO=>
ah 1 eO sn fun eY=>
Ld fo eY fun eM=>
ae .num .neq dy eM fun dW=>
Br dW (
R (.returned (Value.bool false)) fo) (
ae .num .add sn (iv 1) fun dO=>
aC I19 m20 [dO] fo [sn] fo)) (
R (.returned (Value.bool true)) fo))
theorem IW(h:L67 g a0 a1 H R):ai Tryz.prog g 67 #[a0,a1] H R:=
 ak (hn:=(.n .e (.n (.n (.h 0 [] [1] .e .e) .e) (.n (.n .e (.n (.h 0 [5] [2,3] .e .e) .e)) .e)))) Tryz.func67 h (by kernel_rfl)
def L75(g:Gh)(a0:Value)(H:Hp)(R:Rt):Prop:=
∀J1:Jt,(∀w4 w5:Value,∀H3:Hp,(∀Vr:Fr,
∀J6:Jt,(∀w9 oY:Value,∀H8:Hp,(∀TZ:Fr,
∀UC:Jt,(∀sq Ke:Value,∀ej:Hp,(∀PU:Fr,
aY .u8 sq fun bI=>
RG (.string (ByteArray.mk #[0,1,2,2,3,3,3,3,4,4,4,4,4,4,4,4,5,5,5,5,5,5,5,5,5,5,5,5,5,5,5,5,6,6,6,6,6,6,6,6,6,6,6,6,6,6,6,6,6,6,6,6,6,6,6,6,6,6,6,6,6,6,6,6,7,7,7,7,7,7,7,7,7,7,7,7,7,7,7,7,7,7,7,7,7,7,7,7,7,7,7,7,7,7,7,7,7,7,7,7,7,7,7,7,7,7,7,7,7,7,7,7,7,7,7,7,7,7,7,7,7,7,7,7,7,7,7,7,8,8,8,8,8,8,8,8,8,8,8,8,8,8,8,8,8,8,8,8,8,8,8,8,8,8,8,8,8,8,8,8,8,8,8,8,8,8,8,8,8,8,8,8,8,8,8,8,8,8,8,8,8,8,8,8,8,8,8,8,8,8,8,8,8,8,8,8,8,8,8,8,8,8,8,8,8,8,8,8,8,8,8,8,8,8,8,8,8,8,8,8,8,8,8,8,8,8,8,8,8,8,8,8,8,8,8,8,8,8,8,8,8,8,8,8,8,8,8,8,8,8,8,8,8,8,8,8])) bI fun bL=>
aY .i64 bL fun cf=>
ae .num .add Ke cf fun bN=>
R (.returned bN) ej)→UC [sq,Ke] ej)→
ae .num .geq w9 (Value.int .u64 256) fun v20=>
Br v20 (
ae .num .shr w9 (Value.int .u64 8) fun bS=>
ae .num .add oY (iv 8) fun ct=>
JE UC [bS,ct] H8) (
JE UC [w9,oY] H8))→J6 [w9,oY] H8)→
ae .num .geq w4 (Value.int .u64 65536) fun bV=>
Br bV (
ae .num .shr w4 (Value.int .u64 16) fun cB=>
ae .num .add w5 (iv 16) fun cv=>
JE J6 [cB,cv] H3) (
JE J6 [w4,w5] H3))→J1 [w4,w5] H3)→
ae .num .geq a0 (Value.int .u64 4294967296) fun cE=>
Br cE (
ae .num .shr a0 (Value.int .u64 32) fun cL=>
JE J1 [cL,(iv 32)] H) (
JE J1 [a0,(iv 0)] H)
theorem IV(h:L75 g a0 H R):ai Tryz.prog g 75 #[a0] H R:=
 ak (hn:=(.n .e (.h 1 [0,2] [] .e (.h 1 [0,2] [] .e (.h 1 [0,2] [] .e .e))))) Tryz.func75 h (by kernel_rfl)
def L76(g:Gh)(H:Hp)(R:Rt):Prop:=
Build Tryz.prog 231 [] fun v1=>
bn H (.cells (Value.cells v1) 231 (0,0)) fun b2 H3=>
R (.returned (pt b2)) H3
theorem IU(h:L76 g H R):ai Tryz.prog g 76 #[] H R:=
 ak (hn:=.e) Tryz.func76 h (by kernel_rfl)
def L77(g:Gh)(a0 a1 a2:Value)(H:Hp)(R:Rt):Prop:=
ae .ptr .eql a0 (.pointer none) fun v1=>
Br v1 (
R (.returned (iv 10)) H) (
Nil a0 fun v2=>
aa 1 v2 fun v3=>
Ld H v3 fun v4=>
oS (.int .i64) (iv 0) true H v4 a1 fun v5=>
Ext 0 v5 fun v6=>
Ext 1 v5 fun v7=>
Br v7 (
R (.returned (iv 11)) H) (
∀J8:Jt,(∀dc:Hp,(∀TY:Fr,
Nil a0 fun v11=>
aa 0 v11 fun bf=>
Ld dc bf fun br=>
Build Tryz.prog 233 [(0,a1),(1,a2)] fun bp=>
au Tryz.prog 229 1 [(0,bp)] dc fun bB fh=>
App Tryz.prog 233 2 16 (.agg #[(iv 0),(iv 0)]) fh br bB fun bN jb=>
Nil a0 fun bS=>
aa 0 bS fun ct=>
St 1 jb ct bN fun jS=>
Nil a0 fun cB=>
aa 0 cB fun cv=>
Ld jS cv fun cE=>
aO cE fun cL=>
ae .num .sub cL (iv 1) fun cK=>
CF g 158 #[a0,cK] jS (fun cN qc=>
R (.returned (iv 0)) qc) (aq R))→J8 [] dc)→
Nil a0 fun dy=>
aa 1 dy fun dH=>
Ld H dH fun eO=>
ae .map .eql eO (.map none) fun eY=>
Br eY (
n7 H fun eM sM=>
Nil a0 fun dO=>
aa 1 dO fun fX=>
St 1 sM fX eM fun A5=>
JE J8 [] A5) (
JE J8 [] H)))
theorem IT(h:L77 g a0 a1 a2 H R):ai Tryz.prog g 77 #[a0,a1,a2] H R:=
 ak (hn:=(hN 3 (.h 1 [] [0,1,2] .e .e))) Tryz.func77 h (by kernel_rfl)
def L78(g:Gh)(a0:Value)(H:Hp)(R:Rt):Prop:=
ae .ptr .eql a0 (.pointer none) fun v1=>
bX v1 false (fun t2=>
Nil a0 fun v3=>
aa 0 v3 fun v4=>
Ld H v4 fun v5=>
aO v5 fun v6=>
ae .num .eql v6 (iv 0) fun v7=>
(H=H∧v7=Value.bool t2)) (fun t2=>(Value.bool true)=Value.bool t2) fun t2=>∀Mx:Fr,
Br (Value.bool t2) (
R (.returned (.tuple #[(iv 0),(iv 0),(iv 10)])) H) (
Nil a0 fun v9=>
aa 0 v9 fun v10=>
Ld H v10 fun v11=>
ah 2 v11 (iv 0) fun bf=>
aD 2 H bf fun br=>
bn H (.cells #[(iv 0),(iv 0)] 233 (0,0)) fun lD dN=>
St 2 dN (pt lD) br fun fh=>
Nil a0 fun bL=>
aa 0 bL fun cf=>
Ld fh cf fun bN=>
aO bN fun v20=>
ae .num .sub v20 (iv 1) fun bS=>
Nil a0 fun ct=>
aa 0 ct fun bV=>
Ld fh bV fun cB=>
ah 2 cB bS fun cv=>
aD 2 fh cv fun cE=>
bn fh (.cells #[(iv 0),(iv 0)] 233 (0,0)) fun IF rO=>
St 2 rO (pt IF) cE fun jC=>
Nil a0 fun v30=>
aa 0 v30 fun dy=>
Ld jC dy fun dH=>
fc 2 dH none (some bS) fun eO=>
Nil a0 fun eY=>
aa 0 eY fun eM=>
St 1 jC eM eO fun sM=>
DR sM fun R37=>
Nil a0 fun fX=>
aa 1 fX fun gu=>
Ld R37 gu fun gL=>
aa 0 (pt lD) fun fe=>
Ld R37 fe fun gU=>
oR (.int .i64) sM gL gU fun Jy=>
∀Uz:Jt,(∀vz:Hp,(∀XT:Fr,
aa 0 (pt lD) fun kJ=>
Ld vz kJ fun lO=>
aa 1 (pt lD) fun jP=>
Ld vz jP fun lT=>
R (.returned (.tuple #[lO,lT,(iv 0)])) vz)→Uz [] vz)→
ae .num .gtr bS (iv 0) fun qs=>
Br qs (
aD 2 Jy (pt IF) fun xf=>
CF g 159 #[a0,(iv 0),xf] Jy (fun oZ Jx=>
CF g 160 #[a0,(iv 0)] Jx (fun qq sL=>
JE Uz [] sL) (aq R)) (aq R)) (
JE Uz [] Jy))
theorem wR(h:L78 g a0 H R):ai Tryz.prog g 78 #[a0] H R:=
 ak (hn:=(.n .e (.n .e (.n (.n (.h 0 [] [1] .e .e) .e) (hN 4 (.n (.h 0 [0,1,2,3,4,5,6] [] .e .e) (.h 1 [] [6] .e .e))))))) Tryz.func78 h (by kernel_rfl)
def L93(g:Gh)(a0 a1:Value)(H:Hp)(R:Rt):Prop:=
ae .ptr .eql a0 (.pointer none) fun v1=>
Br v1 (
R (.returned (.tuple #[(iv 0),(iv 10)])) H) (
CF g 113 #[a0,a1] H (fun v2 H3=>
Un .not v2 fun v4=>
Br v4 (
R (.returned (.tuple #[(iv 0),(iv 2)])) H3) (
Nil a0 fun v5=>
aa 0 v5 fun v6=>
aa 1 v6 fun v7=>
Ld H3 v7 fun v8=>
CF g 171 #[v8,a1] H3 (fun v9 dc=>
Ext 0 v9 fun v11=>
Ext 1 v9 fun bf=>
R (.returned (.tuple #[v11,bf])) dc) (aq R))) (aq R))
theorem IS(h:L93 g a0 a1 H R):ai Tryz.prog g 93 #[a0,a1] H R:=
 ak (hn:=.e) Tryz.func93 h (by kernel_rfl)
def L95(g:Gh)(a0 a1:Value)(H:Hp)(R:Rt):Prop:=
ae .ptr .eql a0 (.pointer none) fun v1=>
bX v1 false (fun t2=>
aY .i64 a1 fun v3=>
Nil a0 fun v4=>
aa 0 v4 fun v5=>
aa 3 v5 fun v6=>
Ld H v6 fun v7=>
aO v7 fun v8=>
ae .num .geq v3 v8 fun v9=>
(H=H∧v9=Value.bool t2)) (fun t2=>(Value.bool true)=Value.bool t2) fun t2=>∀vj:Fr,
Br (Value.bool t2) (
R (.returned (iv 0)) H) (
Nil a0 fun v11=>
aa 0 v11 fun bf=>
aa 3 bf fun br=>
Ld H br fun bp=>
ah 1 bp a1 fun bB=>
Ld H bB fun bI=>
aY .i64 bI fun bL=>
R (.returned bL) H)
theorem IQ(h:L95 g a0 a1 H R):ai Tryz.prog g 95 #[a0,a1] H R:=
 ak (hn:=(.n .e (.n (.n (.h 0 [] [1] .e .e) .e) .e))) Tryz.func95 h (by kernel_rfl)
def L97(g:Gh)(a0 a1:Value)(H:Hp)(R:Rt):Prop:=
bn H (.cells #[(iv 0),(Value.int .u32 0),(Value.int .u32 0)] 161 (0,0)) fun b1 H2=>
ae .ptr .eql a0 (.pointer none) fun v3=>
Br v3 (
Build Tryz.prog 161 [] fun v4=>
St 3 H2 (pt b1) v4 fun H5=>
aD 3 H5 (pt b1) fun v6=>
R (.returned (.tuple #[v6,(iv 10)])) H5) (
Nil a0 fun v7=>
aa 0 v7 fun v8=>
CF g 173 #[v8,a1] H2 (fun v9 dc=>
Un .not v9 fun v11=>
Br v11 (
Build Tryz.prog 161 [] fun bf=>
St 3 dc (pt b1) bf fun ej=>
aD 3 ej (pt b1) fun bp=>
R (.returned (.tuple #[bp,(iv 3)])) ej) (
Nil a0 fun bB=>
aa 0 bB fun bI=>
CF g 174 #[bI,a1] dc (fun bL c6=>
St 3 c6 (pt b1) bL fun lR=>
aD 3 lR (pt b1) fun v20=>
R (.returned (.tuple #[v20,(iv 0)])) lR) (aq R))) (aq R))
theorem IP(h:L97 g a0 a1 H R):ai Tryz.prog g 97 #[a0,a1] H R:=
 ak (hn:=.e) Tryz.func97 h (by kernel_rfl)
def L99(g:Gh)(a0 a1:Value)(H:Hp)(R:Rt):Prop:=
CF g 175 #[a0] H (fun v1 H2=>
Un .not v1 fun v3=>
Br v3 (
R (.returned (.tuple #[(.slice none 0 0),(iv 5)])) H2) (
∀J4:Jt,(∀w7:Value,∀H6:Hp,(∀XS:Fr,
Br w7 (
R (.returned (.tuple #[(.slice none 0 0),(iv 4)])) H6) (
aO a1 fun v8=>
ae .num .gtr v8 (iv 16) fun v9=>
Br v9 (
R (.returned (.tuple #[(.slice none 0 0),(iv 6)])) H6) (
CF g 176 #[a0] H6 (fun v10 eu=>
aO a1 fun bf=>
∃(UG:Jt) (m14:Mt),JE UG [(.slice none 0 0),v10,(iv 0)] eu∧∀ri jc jE:Value,∀fh:Hp,UG [ri,jc,jE] fh→∀T8:Fr,
ae .num .lss jE bf fun v20=>
Br v20 (
ah 1 a1 jE fun bS=>
Ld fh bS fun ct=>
CF g 177 #[jc,ct] fh (fun bV iL=>
Ext 0 bV fun cv=>
Ext 1 bV fun cE=>
au Tryz.prog 25 1 [(0,cE)] iL fun cL rO=>
App Tryz.prog 3 1 8 (iv 0) rO ri cL fun dy q7=>
ae .num .add jE (iv 1) fun eO=>
aC UG m14 [dy,cv,eO] q7 [ri,jc,jE] fh) (aq R)) (
R (.returned (.tuple #[ri,(iv 0)])) fh)) (aq R))))→J4 [w7] H6)→
aO a0 fun eY=>
ae .num .gtr eY (iv 0) fun eM=>
Split eM true (
aO a1 fun dW=>
ah 2 a0 (iv 0) fun dO=>
aa 0 dO fun fX=>
Ld H2 fX fun gu=>
ae .num .neq dW gu fun gL=>
az (Value.bool true) gL (Value.bool false) fun fe=>
Split fe false (
CF g 101 #[a1] H2 (fun gU oa=>
ae .num .eql gU (iv 4) fun iM=>
az (Value.bool false) (Value.bool true) iM fun gW=>
JE J4 [gW] oa) (aq R)) (
az (Value.bool true) (Value.bool true) undef fun jd=>
JE J4 [jd] H2)) (
az (Value.bool false) undef (Value.bool false) fun jU=>
CF g 101 #[a1] H2 (fun kE sk=>
ae .num .eql kE (iv 4) fun lO=>
az jU (Value.bool true) lO fun jP=>
JE J4 [jP] sk) (aq R)))) (aq R)
theorem IN(h:L99 g a0 a1 H R):ai Tryz.prog g 99 #[a0,a1] H R:=
 ak (hn:=(.n .e (.n .e (.n (.h 1 [31] [0,1] .e .e) (hN 3 (.n (.n .e (.n (.h 0 [6,7,39] [37,38] .e .e) .e)) .e)))))) Tryz.func99 h (by kernel_rfl)
def L101(g:Gh)(a0:Value)(H:Hp)(R:Rt):Prop:=
aO a0 fun v1=>
cZ 4 1 1 (Value.bool false) H v1 v1 fun v2 H3=>
aO a0 fun v4=>
∃(I5:Jt) (m6:Mt),JE I5 [(iv 0)] H3∧∀w9:Value,∀H8:Hp,I5 [w9] H8→∀TZ:Fr,
ae .num .lss w9 v4 fun v10=>
Br v10 (
ah 1 a0 w9 fun v11=>
Ld H8 v11 fun bf=>
ae .num .lss bf (iv 0) fun br=>
bX br false (fun t14=>
aO a0 fun bB=>
ae .num .geq bf bB fun bI=>
(H8=H8∧bI=Value.bool t14)) (fun t14=>(Value.bool true)=Value.bool t14) fun t14=>∀BX:Fr,
bX (Value.bool t14) false (fun t18=>
ah 1 v2 bf fun bN=>
Ld H8 bN fun v20=>
(H8=H8∧v20=Value.bool t18)) (fun t18=>(Value.bool true)=Value.bool t18) fun t18=>∀T4:Fr,
Br (Value.bool t18) (
R (.returned (iv 4)) H8) (
ah 1 v2 bf fun ct=>
St 1 H8 ct (Value.bool true) fun jS=>
ae .num .add w9 (iv 1) fun cB=>
aC I5 m6 [cB] jS [w9] H8)) (
aO a0 fun cv=>
ae .num .gtr cv (iv 64) fun cE=>
Br cE (
R (.returned (iv 13)) H8) (
R (.returned (iv 0)) H8))
theorem E6(h:L101 g a0 H R):ai Tryz.prog g 101 #[a0] H R:=
 ak (hn:=(.n .e (.n .e (.n (.n .e (.n (.h 0 [11] [0,3,9,10] (.n .e (.n .e (.n (.n (.n .e (.n (.n (.h 0 [] [1] .e .e) .e) .e)) .e) .e))) .e) .e)) .e)))) Tryz.func101 h (by kernel_rfl)
def L102(g:Gh)(a0 a1:Value)(H:Hp)(R:Rt):Prop:=
CF g 178 #[a0,a1] H (fun v1 H2=>
ae .num .neq v1 (iv 0) fun v3=>
Br v3 (
R (.returned (.tuple #[(.slice none 0 0),v1])) H2) (
CF g 57 #[a0] H2 (fun v4 H5=>
aO a1 fun v6=>
∃(I7:Jt) (m8:Mt),JE I7 [(.slice none 0 0),(iv 0)] H5∧∀oc gV:Value,∀dc:Hp,I7 [oc,gV] dc→∀TY:Fr,
ae .num .lss gV v6 fun br=>
Br br (
ah 1 a1 gV fun bp=>
Ld dc bp fun bB=>
CF g 179 #[v4,bB] dc (fun bI fp=>
∃(NA:Jt) (V9:Mt),JE NA [oc,bI] fp∧∀qk sn:Value,∀fK:Hp,NA [qk,sn] fK→∀T5:Fr,
ae .num .gtr sn gV fun cB=>
Br cB (
DR fK fun R25=>
ae .num .sub sn (iv 1) fun cE=>
ah 1 v4 sn fun cL=>
Ld R25 cL fun cK=>
ae .num .sub sn (iv 1) fun cN=>
ah 1 v4 cN fun v30=>
Ld R25 v30 fun dy=>
ah 1 v4 cE fun dH=>
St 1 fK dH cK fun lj=>
ah 1 v4 sn fun eY=>
St 1 lj eY dy fun qZ=>
ae .num .sub sn (iv 1) fun dW=>
au Tryz.prog 25 1 [(0,dW)] qZ fun dO oU=>
App Tryz.prog 3 1 8 (iv 0) oU qk dO fun fe yp=>
ae .num .sub sn (iv 1) fun fM=>
aC NA V9 [fe,fM] yp [qk,sn] fK) (
ae .num .add gV (iv 1) fun iM=>
aC I7 m8 [qk,iM] fK [oc,gV] dc)) (aq R)) (
R (.returned (.tuple #[oc,(iv 0)])) dc)) (aq R))) (aq R)
theorem E5(h:L102 g a0 a1 H R):ai Tryz.prog g 102 #[a0,a1] H R:=
 ak (hn:=(hN 4 (.n (.n .e (.n (.h 0 [8,22] [7,20,21] (.n .e (.n .e (.n (.n (.n .e (.n .e (.n (.h 0 [8,11] [7,9,20,21,22] (.n .e (.n (.n (.n (.h 0 [0,1,2,3,4,5,6,7,8,9,10,11,12,13,14,15,16,17] [] .e .e) .e) .e) .e)) .e) .e))) .e) .e))) .e) .e)) .e))) Tryz.func102 h (by kernel_rfl)
def L103(g:Gh)(a0 a1:Value)(H:Hp)(R:Rt):Prop:=
bn H (.cells #[(iv 0)] 3 (0,0)) fun b1 H2=>
CF g 104 #[a0] H2 (fun v3 H4=>
bn H4 (.cells #[(.pointer none)] 169 (0,0)) fun b5 H6=>
St 1 H6 (pt b5) v3 fun H7=>
aO a1 fun v8=>
∃(I9:Jt) (SA:Mt),JE I9 [(iv 0)] H7∧∀qg:Value,∀dk:Hp,I9 [qg] dk→∀PV:Fr,
ae .num .lss qg v8 fun bp=>
Br bp (
ah 1 a1 qg fun bB=>
Ld dk bB fun bI=>
Ld dk (pt b5) fun bL=>
CF g 107 #[bL,bI] dk (fun cf lR=>
ae .num .neq cf (iv 0) fun v20=>
Br v20 (
St 1 lR (pt b1) (iv 0) fun fK=>
jj Tryz.prog g 180 #[(pt b5),(pt b1)] fK fun fo=>
Ld fo (pt b1) fun bV=>
R (.returned (.tuple #[bV,cf])) fo) (
ae .num .add qg (iv 1) fun cB=>
aC I9 SA [cB] lR [qg] dk)) uL) (
Ld dk (pt b5) fun cv=>
Nil cv fun cE=>
aa 3 cE fun cL=>
St 1 dk cL (Value.bool true) fun rO=>
St 1 rO (pt b1) (iv 0) fun jC=>
jj Tryz.prog g 180 #[(pt b5),(pt b1)] jC fun qc=>
Ld qc (pt b1) fun dy=>
R (.returned (.tuple #[dy,(iv 0)])) qc)) uL
theorem E4(h:L103 g a0 a1 H R):ai Tryz.prog g 103 #[a0,a1] H R:=
 sX (hn:=(hN 3 (.n (.n .e (.n (.h 0 [14] [4,6,12,13] .e .e) .e)) .e))) Tryz.func103 h (by kernel_rfl)
def L104(g:Gh)(a0:Value)(H:Hp)(R:Rt):Prop:=
CF g 34 #[a0] H (fun v1 H2=>
Build Tryz.prog 260 [(0,a0),(1,v1)] fun v3=>
bn H2 (.cells (Value.cells v3) 260 (0,0)) fun b4 H5=>
R (.returned (pt b4)) H5) (aq R)
theorem E3(h:L104 g a0 H R):ai Tryz.prog g 104 #[a0] H R:=
 ak (hn:=.e) Tryz.func104 h (by kernel_rfl)
def L105(g:Gh)(a0:Value)(H:Hp)(R:Rt):Prop:=
Nil a0 fun v1=>
aa 3 v1 fun v2=>
Ld H v2 fun v3=>
Un .not v3 fun v4=>
Br v4 (
CF g 108 #[a0] H (fun v5 H6=>
R (.returned (.tuple #[])) H6) (aq R)) (
R (.returned (.tuple #[])) H)
theorem uB(h:L105 g a0 H R):ai Tryz.prog g 105 #[a0] H R:=
 ak (hn:=.e) Tryz.func105 h (by kernel_rfl)
theorem AI(h:L105 g a0 H R):iD Tryz.prog g 105 #[a0] H R:=
 sY (hn:=.e) Tryz.func105 h (by kernel_rfl)
def L106(g:Gh)(a0 a1:Value)(H:Hp)(R:Rt):Prop:=
∃(I1:Jt) (m2:Mt),JE I1 [a0,(.slice none 0 0)] H∧∀w5 w6:Value,∀H4:Hp,I1 [w5,w6] H4→∀RA:Fr,
ae .num .lss w5 a1 fun v7=>
Br v7 (
au Tryz.prog 25 1 [(0,w5)] H4 fun v8 H9=>
App Tryz.prog 3 1 8 (iv 0) H9 w6 v8 fun bf ej=>
ae .num .add w5 (iv 1) fun bp=>
aC I1 m2 [bp,bf] ej [w5,w6] H4) (
∃(E8:Jt) (Sy:Mt),JE E8 [w5,w6] H4∧∀jE oX:Value,∀c6:Hp,E8 [jE,oX] c6→∀BX:Fr,
ae .num .gtr jE a1 fun bS=>
Br bS (
ae .num .sub jE (iv 1) fun ct=>
au Tryz.prog 25 1 [(0,ct)] c6 fun bV iL=>
App Tryz.prog 3 1 8 (iv 0) iL oX bV fun cL rO=>
ae .num .sub jE (iv 1) fun cN=>
aC E8 Sy [cN,cL] rO [jE,oX] c6) (
R (.returned oX) c6))
theorem E0(h:L106 g a0 a1 H R):ai Tryz.prog g 106 #[a0,a1] H R:=
 ak (hn:=(.n .e (.n .e (.n (.n (.h 0 [0,5] [1] .e .e) .e) (.n (.n (.h 0 [0,5] [1] .e .e) .e) .e))))) Tryz.func106 h (by kernel_rfl)
def L107(g:Gh)(a0 a1:Value)(H:Hp)(R:Rt):Prop:=
Nil a0 fun v1=>
aa 0 v1 fun v2=>
Ld H v2 fun v3=>
CF g 17 #[v3,a1] H (fun v4 H5=>
∀J6:Jt,(∀H8:Hp,(∀TZ:Fr,
R (.returned v4) H8)→J6 [] H8)→
ae .num .eql v4 (iv 0) fun v9=>
Br v9 (
Nil a0 fun v10=>
aa 2 v10 fun v11=>
Ld H5 v11 fun bf=>
ae .num .add bf (iv 1) fun br=>
Nil a0 fun bp=>
aa 2 bp fun bB=>
St 1 H5 bB br fun fh=>
JE J6 [] fh) (
JE J6 [] H5)) (aq R)
theorem uA(h:L107 g a0 a1 H R):ai Tryz.prog g 107 #[a0,a1] H R:=
 ak (hn:=(.n .e (.n .e (.h 1 [] [5] .e .e)))) Tryz.func107 h (by kernel_rfl)
def L108(g:Gh)(a0:Value)(H:Hp)(R:Rt):Prop:=
DR H fun R1=>
Nil a0 fun v2=>
aa 0 v2 fun v3=>
Ld R1 v3 fun v4=>
Nil a0 fun v5=>
aa 1 v5 fun v6=>
Ld R1 v6 fun v7=>
CF g 145 #[v4,v7] H (fun v8 H9=>
aU H9 R1∧
Ext 0 v8 fun v10=>
Ext 1 v8 fun v11=>
Nil a0 fun bf=>
aa 2 bf fun br=>
Ld H9 br fun bp=>
ae .num .add bp v10 fun bB=>
Nil a0 fun bI=>
aa 2 bI fun bL=>
St 1 H9 bL bB fun c6=>
R (.returned (.tuple #[])) c6) bu
theorem EZ(h:L108 g a0 H R):ai Tryz.prog g 108 #[a0] H R:=
 ak (hn:=(.n (.h 0 [0,1,2,3,4,5,6,7,8,9,10,11,12,13] [] .e .e) .e)) Tryz.func108 h (by kernel_rfl)
def L109(g:Gh)(a0 a1:Value)(H:Hp)(R:Rt):Prop:=
ae .ptr .eql a0 (.pointer none) fun v1=>
Br v1 (
R (.returned (iv 10)) H) (
ae .num .lss a1 (iv 100) fun v2=>
bX v2 false (fun t3=>
ae .num .gtr a1 (iv 1000) fun v4=>
(H=H∧v4=Value.bool t3)) (fun t3=>(Value.bool true)=Value.bool t3) fun t3=>∀XS:Fr,
Br (Value.bool t3) (
R (.returned (iv 1)) H) (
R (.returned (iv 0)) H))
theorem EY(h:L109 g a0 a1 H R):ai Tryz.prog g 109 #[a0,a1] H R:=
 ak (hn:=(.n .e (.n (.n (.n .e (.n .e (.n (.h 0 [] [1] .e .e) .e))) .e) .e))) Tryz.func109 h (by kernel_rfl)
def L110(g:Gh)(a0 a1:Value)(H:Hp)(R:Rt):Prop:=
bn H (.cells (Value.cells a0) 172 (0,0)) fun b1 H2=>
Br a1 (
DR H2 fun R3=>
Ld R3 (pt b1) fun v4=>
Ld R3 (pt b1) fun v5=>
Nil v5 fun v6=>
aa 0 v6 fun v7=>
Ld R3 v7 fun v8=>
∀F9:Hp,
CF (g.add F9) 61 #[v8] H2 (fun v10 eu=>
aU eu R3∧
ae .num .sub v10 (iv 1) fun bf=>
Nil v4 fun br=>
aa 6 br fun bp=>
∀F15:Hp,
St 1 eu bp bf fun fh=>
Ld fh (pt b1) fun bL=>
Nil bL fun cf=>
aa 7 cf fun bN=>
St 1 fh bN (.func (.func 181) #[] #[(pt b1)]) fun jb=>
R (.returned (.tuple #[])) jb) bu) (
Ld H2 (pt b1) fun bS=>
Nil bS fun ct=>
aa 6 ct fun bV=>
St 1 H2 bV (iv 0) fun iL=>
Ld iL (pt b1) fun cv=>
Nil cv fun cE=>
aa 7 cE fun cL=>
St 1 iL cL (.func (.func 183) #[] #[(pt b1)]) fun rO=>
R (.returned (.tuple #[])) rO)
theorem EX(h:L110 g a0 a1 H R):ai Tryz.prog g 110 #[a0,a1] H R:=
 ak (hn:=(.n .e (.n .e (.n (.n (.h 1 [] [] (hr 0 [1] 0 10 .e) .e) .e) .e)))) Tryz.func110 h (by kernel_rfl)
def L111(g:Gh)(a0:Value)(H:Hp)(R:Rt):Prop:=
∃(I1:Jt) (m2:Mt),JE I1 [] H∧∀H4:Hp,I1 [] H4→∀RA:Fr,
∀J5:Jt,(∀w8:Value,∀H7:Hp,(∀Rz:Fr,
Br w8 (
Nil a0 fun v9=>
aa 0 v9 fun v10=>
Ld H7 v10 fun v11=>
CF g 15 #[v11] H7 (fun bf ej=>
∀Qx:Jt,(∀fh:Hp,(∀T8:Fr,
ae .num .mul bf (iv 100) fun bL=>
Nil a0 fun cf=>
aa 2 cf fun bN=>
Ld fh bN fun v20=>
Nil a0 fun bS=>
aa 4 bS fun ct=>
Ld fh ct fun bV=>
ae .num .mul v20 bV fun cB=>
ae .num .gtr bL cB fun cv=>
Br cv (
R (.returned (.tuple #[])) fh) (
aC I1 m2 [] fh [] H4))→Qx [] fh)→
Nil a0 fun cE=>
aa 2 cE fun cL=>
Ld ej cL fun cK=>
ae .num .lss bf cK fun cN=>
Br cN (
Nil a0 fun v30=>
aa 1 v30 fun dy=>
Ld ej dy fun dH=>
Nil a0 fun eO=>
aa 2 eO fun eY=>
St 1 ej eY bf fun qZ=>
Nil a0 fun dW=>
aa 3 dW fun dO=>
St 1 qZ dO dH fun oU=>
JE Qx [] oU) (
JE Qx [] ej)) (aq R)) (
R (.returned (.tuple #[])) H7))→J5 [w8] H7)→
DR H4 fun IL=>
Nil a0 fun gL=>
aa 1 gL fun fe=>
Ld IL fe fun gU=>
Nil a0 fun fM=>
aa 6 fM fun iM=>
Ld IL iM fun gW=>
ae .num .neq gU gW fun jd=>
Br jd (
Nil a0 fun jU=>
aa 7 jU fun kE=>
Ld IL kE fun kJ=>
∀F50:Hp,
cC Tryz.prog (g.add F50) kJ #[] H4 (fun jP AK=>
ae .num .eql jP (iv 0) fun qs=>
az (Value.bool true) qs (Value.bool false) fun xf=>
JE J5 [xf] AK) bu) (
JE J5 [(Value.bool false)] H4)
theorem EW(h:L111 g a0 H R):ai Tryz.prog g 111 #[a0] H R:=
 ak (hn:=(.n (.h 0 [] [0] (.n (.h 1 [19] [0] (.h 1 [] [] (hr 0 [1] 0 9 (.h 2 [9] [] (hr 0 [1] 10 7 .e) (hr 0 [1] 10 6 (.h 3 [16] [1] .e .e)))) .e) .e) (.n (.n .e (.h 1 [] [0,2] .e .e)) .e)) .e) .e)) Tryz.func111 h (by kernel_rfl)
def L112(g:Gh)(a0 a1:Value)(H:Hp)(R:Rt):Prop:=
∃(I1:Jt) (m2:Mt),JE I1 [] H∧∀H4:Hp,I1 [] H4→∀RA:Fr,
Nil a0 fun v5=>
aa 1 v5 fun v6=>
Ld H4 v6 fun v7=>
ae .num .neq v7 a1 fun v8=>
Br v8 (
Nil a0 fun v9=>
aa 0 v9 fun v10=>
Ld H4 v10 fun v11=>
CF g 18 #[v11] H4 (fun bf ej=>
Ext 0 bf fun bp=>
Ext 1 bf fun bB=>
Nil a0 fun bI=>
aa 5 bI fun bL=>
Ld ej bL fun cf=>
ae .num .add cf (iv 1) fun bN=>
Nil a0 fun v20=>
aa 5 v20 fun bS=>
St 1 ej bS bN fun fo=>
Nil a0 fun bV=>
aa 1 bV fun cB=>
Ld fo cB fun cv=>
ae .num .lss bp cv fun cE=>
Br cE (
Nil a0 fun cL=>
aa 1 cL fun cK=>
St 1 fo cK bp fun jC=>
aC I1 m2 [] jC [] H4) (
ae .num .add bp (iv 1) fun v30=>
Nil a0 fun dy=>
aa 1 dy fun dH=>
St 1 fo dH v30 fun lj=>
aC I1 m2 [] lj [] H4)) (aq R)) (
R (.returned (.tuple #[])) H4)
theorem EV(h:L112 g a0 a1 H R):ai Tryz.prog g 112 #[a0,a1] H R:=
 ak (hn:=(.n (.h 0 [] [0,1] .e .e) .e)) Tryz.func112 h (by kernel_rfl)
def L113(g:Gh)(a0 a1:Value)(H:Hp)(R:Rt):Prop:=
ae .num .geq a1 (iv 0) fun v1=>
bX v1 true (fun t2=>
Nil a0 fun v3=>
aa 4 v3 fun v4=>
Ld H v4 fun v5=>
ae .num .lss a1 v5 fun v6=>
(H=H∧v6=Value.bool t2)) (fun t2=>(Value.bool false)=Value.bool t2) fun t2=>∀TZ:Fr,
R (.returned (Value.bool t2)) H
theorem EU(h:L113 g a0 a1 H R):ai Tryz.prog g 113 #[a0,a1] H R:=
 ak (hn:=(.n .e (.n (.h 0 [] [1] .e .e) .e))) Tryz.func113 h (by kernel_rfl)
def L114(g:Gh)(a0:Value)(H:Hp)(R:Rt):Prop:=
ae .ptr .eql a0 (.pointer none) fun v1=>
Br v1 (
R (.returned (.slice none 0 0)) H) (
CF g 76 #[] H (fun v2 H3=>
CF g 61 #[a0] H3 (fun v4 H5=>
∃(I6:Jt) (m7:Mt),JE I6 [(iv 0)] H5∧∀oY:Value,∀H9:Hp,I6 [oY] H9→∀Mx:Fr,
ae .num .lss oY v4 fun v11=>
Br v11 (
CF g 93 #[a0,oY] H9 (fun bf ej=>
Ext 0 bf fun bp=>
Ext 1 bf fun bB=>
Un .neg bp fun bI=>
CF g 77 #[v2,oY,bI] ej (fun bL c6=>
ae .num .add oY (iv 1) fun bN=>
aC I6 m7 [bN] c6 [oY] H9) (aq R)) (aq R)) (
∃(UF:Jt) (m21:Mt),JE UF [(.slice none 0 0)] H9∧∀yO:Value,∀jS:Hp,UF [yO] jS→∀T3:Fr,
CF g 184 #[v2] jS (fun cv gp=>
ae .num .gtr cv (iv 0) fun cL=>
Br cL (
CF g 78 #[v2] gp (fun cK jC=>
Ext 0 cK fun v30=>
Ext 1 cK fun dy=>
Ext 2 cK fun dH=>
au Tryz.prog 25 1 [(0,v30)] jC fun eO rN=>
App Tryz.prog 3 1 8 (iv 0) rN yO eO fun dO oU=>
aC UF m21 [dO] oU [yO] jS) (aq R)) (
R (.returned yO) gp)) (aq R))) (aq R)) (aq R))
theorem ET(h:L114 g a0 H R):ai Tryz.prog g 114 #[a0] H R:=
 ak (hn:=(hN 3 (.n (.n .e (.n (.h 0 [16] [0,3,15] .e .e) .e)) (.n .e (.n (.n (.h 0 [7] [3] .e .e) .e) .e))))) Tryz.func114 h (by kernel_rfl)
def L116(g:Gh)(a0:Value)(H:Hp)(R:Rt):Prop:=
ae .num .lss a0 (iv 0) fun v1=>
bX v1 false (fun t2=>
ae .num .gtr a0 (iv 64) fun v3=>
(H=H∧v3=Value.bool t2)) (fun t2=>(Value.bool true)=Value.bool t2) fun t2=>∀My:Fr,
Br (Value.bool t2) (
R (.returned (.tuple #[(.slice none 0 0),(iv 1)])) H) (
CF g 185 #[a0] H (fun v5 H6=>
R (.returned (.tuple #[v5,(iv 0)])) H6) (aq R))
theorem ES(h:L116 g a0 H R):ai Tryz.prog g 116 #[a0] H R:=
 ak (hn:=(.n .e (.n (.n (.h 0 [] [1] .e .e) .e) .e))) Tryz.func116 h (by kernel_rfl)
def L117(g:Gh)(a0:Value)(H:Hp)(R:Rt):Prop:=
ae .num .lss a0 (iv 1) fun v1=>
bX v1 false (fun t2=>
ae .num .gtr a0 (iv 64) fun v3=>
(H=H∧v3=Value.bool t2)) (fun t2=>(Value.bool true)=Value.bool t2) fun t2=>∀My:Fr,
Br (Value.bool t2) (
R (.returned (.tuple #[(.pointer none),(iv 1)])) H) (
cZ 266 1 8 (.map none) H a0 a0 fun v5 H6=>
Build Tryz.prog 265 [(0,v5)] fun v7=>
bn H6 (.cells (Value.cells v7) 265 (0,0)) fun b8 H9=>
∃(UI:Jt) (m11:Mt),JE UI [(iv 0)] H9∧∀sq:Value,∀ej:Hp,UI [sq] ej→∀PU:Fr,
ae .num .lss sq a0 fun bB=>
Br bB (
Nil (pt b8) fun bI=>
aa 0 bI fun bL=>
Ld ej bL fun cf=>
n7 ej fun bN jb=>
ah 1 cf sq fun bS=>
St 1 jb bS bN fun fo=>
ae .num .add sq (iv 1) fun bV=>
aC UI m11 [bV] fo [sq] ej) (
R (.returned (.tuple #[(pt b8),(iv 0)])) ej))
theorem ER(h:L117 g a0 H R):ai Tryz.prog g 117 #[a0] H R:=
 ak (hn:=(.n .e (.n (.n (.h 0 [] [1] .e .e) .e) (.n .e (.n (.n .e (.n (.h 0 [17] [4,16] .e .e) .e)) .e))))) Tryz.func117 h (by kernel_rfl)
def L118(g:Gh)(a0 a1:Value)(H:Hp)(R:Rt):Prop:=
bn H (.cells #[(.pointer none),(.pointer none),(.slice none 0 0),(.slice none 0 0)] 115 (0,0)) fun b1 H2=>
CF g 186 #[a0] H2 (fun v3 H4=>
Ext 0 v3 fun v5=>
Ext 1 v3 fun v6=>
Build Tryz.prog 115 [(0,v5),(1,a1)] fun v7=>
St 4 H4 (pt b1) v7 fun H8=>
aD 4 H8 (pt b1) fun v9=>
R (.returned (.tuple #[v9,v6])) H8) (aq R)
theorem EP(h:L118 g a0 a1 H R):ai Tryz.prog g 118 #[a0,a1] H R:=
 ak (hn:=.e) Tryz.func118 h (by kernel_rfl)
variable {g:Gh} {a0 a1 a2 a3 a4 a5 a6 a7 a8 a9 sb r9 Yc Yb Ya X9:Value} {H:Hp} {R:Rt}
def L121(g:Gh)(a0 a1:Value)(H:Hp)(R:Rt):Prop:=
ae .ptr .eql a0 (.pointer none) fun v1=>
Br v1 (
R (.returned (iv 10)) H) (
Nil a0 fun v2=>
aa 0 v2 fun v3=>
CF g 173 #[v3,a1] H (fun v4 H5=>
Un .not v4 fun v6=>
Br v6 (
R (.returned (iv 3)) H5) (
∀J7:Jt,(∀H9:Hp,(∀Mx:Fr,
Nil a0 fun v10=>
aa 7 v10 fun v11=>
St 1 H9 v11 (.slice none 0 0) fun dk=>
R (.returned (iv 0)) dk)→J7 [] H9)→
ae .num .gtr a1 (Value.int .u32 1) fun br=>
Br br (
Nil a0 fun bp=>
aa 0 bp fun bB=>
aa 3 bB fun bI=>
Ld H5 bI fun bL=>
ah 1 bL a1 fun cf=>
Ld H5 cf fun bN=>
ae .num .eql bN (Value.int .i32 65535) fun v20=>
Br v20 (
R (.returned (iv 8)) H5) (
Nil a0 fun bS=>
aa 0 bS fun ct=>
aa 3 ct fun bV=>
Ld H5 bV fun cB=>
ah 1 cB a1 fun cv=>
Ld H5 cv fun cE=>
ae .num .add cE (Value.int .i32 1) fun cL=>
ah 1 cB a1 fun cK=>
St 1 H5 cK cL fun jC=>
Nil a0 fun v30=>
aa 0 v30 fun dy=>
aa 3 dy fun dH=>
Ld jC dH fun eO=>
ah 1 eO a1 fun eY=>
Ld jC eY fun eM=>
ae .num .eql eM (Value.int .i32 1) fun dW=>
Br dW (
Nil a0 fun dO=>
aa 0 dO fun fX=>
aa 2 fX fun gu=>
Ld jC gu fun gL=>
ah 1 gL a1 fun fe=>
Ld jC fe fun gU=>
ae .num .add gU (Value.int .i32 1) fun fM=>
ah 1 gL a1 fun iM=>
St 1 jC iM fM fun Jy=>
JE J7 [] Jy) (
JE J7 [] jC))) (
JE J7 [] H5))) (aq R))
theorem uz(h:L121 g a0 a1 H R):ai Tryz.prog g 121 #[a0,a1] H R:=
 ak (hn:=(.n .e (.n .e (.h 1 [] [0] .e .e)))) Tryz.func121 h (by kernel_rfl)
def L126(g:Gh)(a0 a1:Value)(H:Hp)(R:Rt):Prop:=
bn H (.cells #[(iv 0),(.slice none 0 0)] 57 (0,0)) fun b1 H2=>
aY .i64 a1 fun v3=>
Nil a0 fun v4=>
aa 2 v4 fun v5=>
Ld H2 v5 fun v6=>
aO v6 fun v7=>
ae .num .add v7 (iv 2) fun v8=>
ae .num .rem v3 v8 fun v9=>
ae .num .lss v9 (iv 2) fun v10=>
Br v10 (
Nil a0 fun v11=>
aa 1 v11 fun bf=>
Ld H2 bf fun br=>
ae .num .eql v9 (iv 1) fun bp=>
CF g 147 #[br,bp] H2 (fun bB fh=>
Ext 0 bB fun bL=>
Ext 1 bB fun cf=>
bn fh (.cells #[(iv 0),(.slice none 0 0)] 57 (0,0)) fun Gs jb=>
St 2 jb (pt Gs) bL fun fK=>
DR fK fun Ur=>
aY .u32 v9 fun bV=>
aD 2 Ur (pt Gs) fun cB=>
St 2 fK (pt b1) cB fun gf=>
aD 2 gf (pt b1) fun cE=>
R (.returned (.tuple #[bV,cE])) gf) (aq R)) (
DR H2 fun Od=>
Nil a0 fun cK=>
aa 2 cK fun cN=>
Ld Od cN fun v30=>
ae .num .sub v9 (iv 2) fun dy=>
ah 1 v30 dy fun dH=>
Ld Od dH fun eO=>
Nil a0 fun eY=>
aa 3 eY fun eM=>
Ld Od eM fun dW=>
ae .num .sub v9 (iv 2) fun dO=>
ah 2 dW dO fun fX=>
aD 2 Od fX fun gu=>
St 2 H2 (pt b1) gu fun mT=>
aD 2 mT (pt b1) fun fe=>
R (.returned (.tuple #[eO,fe])) mT)
theorem EO(h:L126 g a0 a1 H R):ai Tryz.prog g 126 #[a0,a1] H R:=
 ak (hn:=(.n .e (.n .e (.n (.n .e (.n (.n .e (.n (.h 0 [0,1,2,3,4] [] .e .e) .e)) .e)) (.n (.h 0 [0,1,2,3,4,5,6,7,8,9,10,11,12,13,14,15,16,17] [] .e .e) .e))))) Tryz.func126 h (by kernel_rfl)
def L127(g:Gh)(a0 a1 a2 a3 a4:Value)(H:Hp)(R:Rt):Prop:=
bn H (.cells (Value.cells a1) 106 (0,0)) fun b1 H2=>
bn H2 (.cells (Value.cells a2) 57 (0,0)) fun b3 H4=>
bn H4 (.cells (Value.cells a3) 57 (0,0)) fun b5 H6=>
bn H6 (.cells (Value.cells a4) 57 (0,0)) fun b7 H8=>
bn H8 (.cells #[(iv 0),(.slice none 0 0)] 57 (0,0)) fun b9 dc=>
aa 1 (pt b1) fun v11=>
Ld dc v11 fun bf=>
aY .i64 bf fun br=>
Nil a0 fun bp=>
aa 1 bp fun bB=>
Ld dc bB fun bI=>
ae .num .rem br bI fun bL=>
Nil a0 fun cf=>
aa 1 cf fun bN=>
Ld dc bN fun v20=>
CF g 153 #[v20,bL] dc (fun bS fo=>
Ext 0 bS fun bV=>
Ext 1 bS fun cB=>
bn fo (.cells #[(iv 0),(.slice none 0 0)] 57 (0,0)) fun Gp gp=>
St 2 gp (pt Gp) bV fun jD=>
aD 2 jD (pt b3) fun cK=>
CF g 148 #[cK,bL,(Value.bool false)] jD (fun cN qc=>
Ext 0 cN fun dy=>
Ext 1 cN fun dH=>
bn qc (.cells #[(iv 0),(.slice none 0 0)] 57 (0,0)) fun qV rN=>
St 2 rN (pt qV) dy fun qZ=>
aD 2 qZ (pt b3) fun dW=>
CF g 148 #[dW,bL,(Value.bool true)] qZ (fun dO oU=>
Ext 0 dO fun gu=>
Ext 1 dO fun gL=>
bn oU (.cells #[(iv 0),(.slice none 0 0)] 57 (0,0)) fun Gm yp=>
St 2 yp (pt Gm) gu fun oa=>
aa 0 (pt b1) fun iM=>
Ld oa iM fun gW=>
ae .num .rem gW (Value.int .u8 9) fun jd=>
ae .num .eql jd (Value.int .u8 0) fun jU=>
Br jU (
aD 2 oa (pt Gp) fun kE=>
St 2 oa (pt b9) kE fun sk=>
aD 2 sk (pt b9) fun lO=>
R (.returned (.tuple #[lO,(iv 0)])) sk) (
ae .num .eql jd (Value.int .u8 1) fun jP=>
Br jP (
aD 2 oa (pt b3) fun lT=>
CF g 193 #[lT] oa (fun qs GG=>
Ext 0 qs fun oZ=>
Ext 1 qs fun sr=>
St 2 GG (pt b9) oZ fun Jw=>
aD 2 Jw (pt b9) fun sQ=>
R (.returned (.tuple #[sQ,sr])) Jw) (aq R)) (
∀J59:Jt,(∀w62:Value,∀sj:Hp,(∀ac1:Fr,
Br w62 (
aa 5 (pt b1) fun qo=>
Ld sj qo fun xe=>
ae .num .rem xe (Value.int .u64 16) fun pe=>
aY .u8 pe fun rR=>
aD 2 sj (pt b3) fun uN=>
aD 2 sj (pt b5) fun qn=>
CF g 194 #[rR,uN,qn] sj (fun qm VH=>
Ext 0 qm fun xd=>
Ext 1 qm fun rQ=>
St 2 VH (pt b9) xd fun wV=>
aD 2 wV (pt b9) fun GU=>
R (.returned (.tuple #[GU,rQ])) wV) (aq R)) (
ae .num .eql jd (Value.int .u8 4) fun rP=>
Br rP (
aD 2 sj (pt b3) fun Fp=>
aD 2 sj (pt b5) fun yz=>
aD 2 sj (pt b7) fun uM=>
CF g 154 #[Fp,yz,uM] sj (fun wZ ZA=>
Ext 0 wZ fun Fo=>
Ext 1 wZ fun wY=>
St 2 ZA (pt b9) Fo fun Ju=>
aD 2 Ju (pt b9) fun AQ=>
R (.returned (.tuple #[AQ,wY])) Ju) (aq R)) (
ae .num .eql jd (Value.int .u8 5) fun vD=>
Br vD (
aD 2 sj (pt b3) fun GR=>
aa 5 (pt b1) fun Kl=>
Ld sj Kl fun AP=>
ae .num .rem AP (Value.int .u64 2) fun Fm=>
ae .num .eql Fm (Value.int .u64 1) fun yP=>
CF g 148 #[GR,bL,yP] sj (fun uE H92=>
Ext 0 uE fun JD=>
Ext 1 uE fun JC=>
St 2 H92 (pt b9) JD fun UJ=>
aD 2 UJ (pt b9) fun Kk=>
R (.returned (.tuple #[Kk,JC])) UJ) (aq R)) (
ae .num .eql jd (Value.int .u8 6) fun Oo=>
Br Oo (
aD 2 sj (pt qV) fun Kj=>
aD 2 sj (pt Gm) fun Kh=>
CF g 194 #[(Value.int .u8 14),Kj,Kh] sj (fun rU UQ=>
Ext 0 rU fun qt=>
Ext 1 rU fun sR=>
St 2 UQ (pt b9) qt fun YP=>
aD 2 YP (pt b9) fun Bi=>
R (.returned (.tuple #[Bi,sR])) YP) (aq R)) (
ae .num .eql jd (Value.int .u8 7) fun Bh=>
Br Bh (
aD 2 sj (pt qV) fun xl=>
aD 2 sj (pt Gm) fun Kv=>
CF g 194 #[(Value.int .u8 8),xl,Kv] sj (fun uO Fb=>
Ext 0 uO fun Bg=>
Ext 1 uO fun xk=>
St 2 Fb (pt b9) Bg fun YN=>
aD 2 YN (pt b9) fun Bf=>
R (.returned (.tuple #[Bf,xk])) YN) (aq R)) (
aD 2 sj (pt b5) fun xh=>
aD 2 sj (pt Gm) fun Ku=>
aD 2 sj (pt qV) fun Kt=>
CF g 154 #[xh,Ku,Kt] sj (fun GX ND=>
Ext 0 GX fun Be=>
Ext 1 GX fun Bd=>
St 2 ND (pt b9) Be fun YL=>
aD 2 YL (pt b9) fun xg=>
R (.returned (.tuple #[xg,Bd])) YL) (aq R)))))))→J59 [w62] sj)→
ae .num .eql jd (Value.int .u8 2) fun yQ=>
Br yQ (
JE J59 [yQ] oa) (
ae .num .eql jd (Value.int .u8 3) fun GW=>
JE J59 [GW] oa)))) (aq R)) (aq R)) (aq R)
theorem EN(h:L127 g a0 a1 a2 a3 a4 H R):ai Tryz.prog g 127 #[a0,a1,a2,a3,a4] H R:=
 ak (hn:=(hN 5 (.n (.n .e (.n (hN 4 (.h 1 [60] [6,7,8,9,10,12,15,17,50] .e .e)) .e)) .e))) Tryz.func127 h (by kernel_rfl)
def L128(g:Gh)(a0 a1 a2 a3 a4:Value)(H:Hp)(R:Rt):Prop:=
bn H (.cells (Value.cells a1) 106 (0,0)) fun b1 H2=>
aa 1 (pt b1) fun v3=>
Ld H2 v3 fun v4=>
aY .i64 v4 fun v5=>
Nil a0 fun v6=>
aa 1 v6 fun v7=>
Ld H2 v7 fun v8=>
ae .num .rem v5 v8 fun v9=>
aa 0 (pt b1) fun v10=>
Ld H2 v10 fun v11=>
ae .num .rem v11 (Value.int .u8 9) fun bf=>
ae .num .eql bf (Value.int .u8 0) fun br=>
Br br (
Nil a0 fun bp=>
aa 0 bp fun bB=>
Ld H2 bB fun bI=>
CF g 195 #[bI,v9] H2 (fun bL c6=>
Ext 0 bL fun bN=>
Ext 1 bL fun v20=>
R (.returned (.tuple #[bN,v20])) c6) (aq R)) (
ae .num .eql bf (Value.int .u8 1) fun bS=>
Br bS (
Nil a0 fun ct=>
aa 0 ct fun bV=>
Ld H2 bV fun cB=>
CF g 196 #[cB,a2] H2 (fun cv gp=>
Ext 0 cv fun cL=>
Ext 1 cv fun cK=>
R (.returned (.tuple #[cL,cK])) gp) (aq R)) (
∀J29:Jt,(∀yw:Value,∀jg:Hp,(∀T1:Fr,
Br yw (
DR jg fun Vw=>
Nil a0 fun eY=>
aa 0 eY fun eM=>
Ld Vw eM fun dW=>
aa 5 (pt b1) fun dO=>
Ld Vw dO fun fX=>
ae .num .rem fX (Value.int .u64 16) fun gu=>
aY .u8 gu fun gL=>
CF g 197 #[dW,gL,a2,a3] jg (fun fe yp=>
aU yp Vw∧
Ext 0 fe fun fM=>
Ext 1 fe fun iM=>
R (.returned (.tuple #[fM,iM])) yp) bu) (
ae .num .eql bf (Value.int .u8 4) fun gW=>
Br gW (
Nil a0 fun jd=>
aa 0 jd fun jU=>
Ld jg jU fun kE=>
CF g 198 #[kE,a2,a3,a4] jg (fun kJ NC=>
Ext 0 kJ fun jP=>
Ext 1 kJ fun lT=>
R (.returned (.tuple #[jP,lT])) NC) (aq R)) (
ae .num .eql bf (Value.int .u8 5) fun qs=>
Br qs (
DR jg fun R54=>
Nil a0 fun oZ=>
aa 0 oZ fun sr=>
Ld R54 sr fun qq=>
aa 5 (pt b1) fun sQ=>
Ld R54 sQ fun rT=>
ae .num .rem rT (Value.int .u64 2) fun qp=>
ae .num .eql qp (Value.int .u64 1) fun rS=>
CF g 199 #[qq,a2,v9,rS] jg (fun uF Oi=>
aU Oi R54∧
Ext 0 uF fun xe=>
Ext 1 uF fun pe=>
R (.returned (.tuple #[xe,pe])) Oi) bu) (
ae .num .eql bf (Value.int .u8 6) fun rR=>
Br rR (
DR jg fun Cp=>
Nil a0 fun qn=>
aa 0 qn fun qm=>
Ld Cp qm fun rj=>
ae .num .shl (Value.int .u64 1) v9 fun xd=>
CF g 200 #[rj,a2,xd] jg (fun rQ wV=>
aU wV Cp∧
Ext 0 rQ fun GU=>
Ext 1 rQ fun rP=>
R (.returned (.tuple #[GU,rP])) wV) bu) (
ae .num .eql bf (Value.int .u8 7) fun Fp=>
Br Fp (
DR jg fun R77=>
Nil a0 fun uM=>
aa 0 uM fun wZ=>
Ld R77 wZ fun JF=>
ae .num .shl (Value.int .u64 1) v9 fun Fo=>
CF g 201 #[JF,a2,Fo] jg (fun wY Ju=>
aU Ju R77∧
Ext 0 wY fun AQ=>
Ext 1 wY fun vD=>
R (.returned (.tuple #[AQ,vD])) Ju) bu) (
Nil a0 fun GR=>
aa 0 GR fun Kl=>
Ld jg Kl fun AP=>
CF g 202 #[AP,a2,v9,a3] jg (fun Fm Zw=>
Ext 0 Fm fun uE=>
Ext 1 Fm fun Ba=>
R (.returned (.tuple #[uE,Ba])) Zw) (aq R)))))))→J29 [yw] jg)→
ae .num .eql bf (Value.int .u8 2) fun JD=>
Br JD (
JE J29 [JD] H2) (
ae .num .eql bf (Value.int .u8 3) fun JC=>
JE J29 [JC] H2)))
theorem EM(h:L128 g a0 a1 a2 a3 a4 H R):ai Tryz.prog g 128 #[a0,a1,a2,a3,a4] H R:=
 ak (hn:=(.n .e (.n .e (.n (.n .e (.n (hN 4 (.h 1 [44] [0,2,3,4,6,12,23] .e (.n (.n (.h 0 [0,1,2,3,4,5,6,7,8,9,10,11,12,13,14] [] .e .e) .e) (hN 3 (.n (.n (.h 0 [0,1,2,3,4,5,6,7,8,9,10,11,12,13,14] [] .e .e) .e) (.n .e (.n (.n (.h 0 [0,1,2,3,4,5,6,7,8,9,10,11] [] .e .e) .e) (.n .e (.n (.n (.h 0 [0,1,2,3,4,5,6,7,8,9,10,11] [] .e .e) .e) .e))))))))) .e)) .e)))) Tryz.func128 h (by kernel_rfl)
def L129(g:Gh)(a0 a1 a2:Value)(H:Hp)(R:Rt):Prop:=
bn H (.cells (Value.cells a2) 57 (0,0)) fun b1 H2=>
ae .num .gtr a1 (Value.int .u32 1) fun v3=>
Br v3 (
Nil a0 fun v4=>
aa 2 v4 fun v5=>
Ld H2 v5 fun v6=>
au Tryz.prog 27 1 [(0,a1)] H2 fun v7 H8=>
App Tryz.prog 77 1 4 (Value.int .u32 0) H8 v6 v7 fun v11 dk=>
Nil a0 fun br=>
aa 2 br fun bp=>
St 1 dk bp v11 fun dN=>
DR dN fun RH=>
Nil a0 fun bL=>
aa 3 bL fun cf=>
Ld RH cf fun bN=>
aD 2 RH (pt b1) fun v20=>
au Tryz.prog 28 1 [(0,v20)] dN fun bS fo=>
aU fo RH∧
App Tryz.prog 57 2 32 (.agg #[(iv 0),(.slice none 0 0)]) fo bN bS fun cv gp=>
aU gp RH∧
Nil a0 fun cL=>
aa 3 cL fun cK=>
St 1 gp cK cv fun jC=>
R (.returned (.tuple #[])) jC) (
R (.returned (.tuple #[])) H2)
theorem uy(h:L129 g a0 a1 a2 H R):ai Tryz.prog g 129 #[a0,a1,a2] H R:=
 ak (hn:=(.n .e (.n .e (.n (.n .e (.h 0 [0,1,2,3,4,5,6,7,8,9,10] [] .e .e)) .e)))) Tryz.func129 h (by kernel_rfl)
def L131(g:Gh)(a0 a1:Value)(H:Hp)(R:Rt):Prop:=
ae .ptr .eql a0 (.pointer none) fun v1=>
Br v1 (
R (.returned (iv 10)) H) (
∀J2:Jt,(∀H4:Hp,(∀RA:Fr,
Nil a0 fun v5=>
aa 7 v5 fun v6=>
St 1 H4 v6 (.slice none 0 0) fun H7=>
R (.returned (iv 0)) H7)→J2 [] H4)→
ae .num .gtr a1 (Value.int .u32 1) fun v8=>
Br v8 (
CF g 95 #[a0,a1] H (fun v9 dc=>
ae .num .eql v9 (iv 0) fun v11=>
Br v11 (
R (.returned (iv 3)) dc) (
Nil a0 fun bf=>
aa 0 bf fun br=>
aa 3 br fun bp=>
Ld dc bp fun bB=>
ah 1 bB a1 fun bI=>
Ld dc bI fun bL=>
ae .num .sub bL (Value.int .i32 1) fun cf=>
ah 1 bB a1 fun bN=>
St 1 dc bN cf fun jb=>
Nil a0 fun bS=>
aa 0 bS fun ct=>
aa 3 ct fun bV=>
Ld jb bV fun cB=>
ah 1 cB a1 fun cv=>
Ld jb cv fun cE=>
ae .num .eql cE (Value.int .i32 0) fun cL=>
Br cL (
Nil a0 fun cK=>
aa 0 cK fun cN=>
CF g 142 #[cN,a1] jb (fun v30 jg=>
JE J2 [] jg) (aq R)) (
JE J2 [] jb))) (aq R)) (
JE J2 [] H))
theorem ux(h:L131 g a0 a1 H R):ai Tryz.prog g 131 #[a0,a1] H R:=
 ak (hn:=(.n .e (.n .e (.h 1 [] [0] .e .e)))) Tryz.func131 h (by kernel_rfl)
theorem AH(h:L131 g a0 a1 H R):iD Tryz.prog g 131 #[a0,a1] H R:=
 sY (hn:=(.n .e (.n .e (.h 1 [] [0] .e .e)))) Tryz.func131 h (by kernel_rfl)
def L134(g:Gh)(a0 a1 a2:Value)(H:Hp)(R:Rt):Prop:=
Nil a0 fun v1=>
aa 0 v1 fun v2=>
aa 1 v2 fun v3=>
Ld H v3 fun v4=>
CF g 203 #[v4,a1] H (fun v5 H6=>
Ext 0 v5 fun v7=>
Ext 1 v5 fun v8=>
aO v7 fun v9=>
∃(UI:Jt) (m11:Mt),JE UI [(.slice none 0 0),(iv 0)] H6∧∀sq Ke:Value,∀ej:Hp,UI [sq,Ke] ej→∀PU:Fr,
ae .num .lss Ke v9 fun bI=>
Br bI (
∀yo:Jt,(∀oX:Value,∀lR:Hp,(∀T6:Fr,
ae .num .add Ke (iv 1) fun bS=>
aC UI m11 [oX,bS] lR [sq,Ke] ej)→yo [oX] lR)→
ah 1 v7 Ke fun ct=>
Ld ej ct fun bV=>
Nil a0 fun cB=>
aa 0 cB fun cv=>
CF g 174 #[cv,bV] ej (fun cE jD=>
bn jD (.cells #[(iv 0),(Value.int .u32 0),(Value.int .u32 0)] 161 (0,0)) fun Ng jC=>
St 3 jC (pt Ng) cE fun qc=>
∀VC:Jt,(∀NM:Value,∀lj:Hp,(∀ac5:Fr,
Br NM (
JE yo [sq] lj) (
aD 3 lj (pt Ng) fun eM=>
Build Tryz.prog 203 [(0,bV),(1,eM)] fun dW=>
bn lj (.cells #[(Value.int .u32 0),(iv 0),(Value.int .u32 0),(Value.int .u32 0),(Value.int .u32 0),(Value.int .u32 0),(Value.int .u32 0),(Value.int .u32 0)] 203 (0,0)) fun Ui oU=>
St 8 oU (pt Ui) dW fun A5=>
aa 1 (pt Ng) fun gL=>
Ld A5 gL fun fe=>
CF g 204 #[a0,fe,a2] A5 (fun gU oa=>
Ext 0 gU fun iM=>
Ext 1 gU fun gW=>
aa 4 (pt Ui) fun jd=>
St 1 oa jd iM fun JU=>
aa 5 (pt Ui) fun kE=>
St 1 JU kE gW fun sk=>
aa 2 (pt Ng) fun lO=>
Ld sk lO fun jP=>
CF g 204 #[a0,jP,a2] sk (fun lT JT=>
Ext 0 lT fun xf=>
Ext 1 lT fun oZ=>
aa 6 (pt Ui) fun sr=>
St 1 JT sr xf fun Jw=>
aa 7 (pt Ui) fun sQ=>
St 1 Jw sQ oZ fun UN=>
aD 8 UN (pt Ui) fun qp=>
au Tryz.prog 199 1 [(0,qp)] UN fun rS GF=>
App Tryz.prog 203 8 40 (.agg #[(Value.int .u32 0),(iv 0),(Value.int .u32 0),(Value.int .u32 0),(Value.int .u32 0),(Value.int .u32 0),(Value.int .u32 0),(Value.int .u32 0)]) GF sq rS fun pe UL=>
JE yo [pe] UL) (aq R)) (aq R)))→VC [NM] lj)→
DR qc fun Cp=>
Nil a0 fun qn=>
aa 0 qn fun qm=>
aa 1 (pt Ng) fun rj=>
Ld Cp rj fun xd=>
∀F72:Hp,
CF (g.add F72) 174 #[qm,xd] qc (fun yA RI=>
aU RI Cp∧
Ol 0 yA fun rP=>
ae .num .neq rP a2 fun Fp=>
Br Fp (
Nil a0 fun yz=>
aa 0 yz fun uM=>
aa 2 (pt Ng) fun wZ=>
Ld Cp wZ fun JF=>
∀F81:Hp,
CF (g.add F81) 174 #[uM,JF] RI (fun wY Ju=>
aU Ju Cp∧
Ol 0 wY fun AQ=>
ae .num .neq AQ a2 fun vD=>
az (Value.bool true) vD (Value.bool false) fun GR=>
JE VC [GR] Ju) bu) (
JE VC [(Value.bool false)] RI)) bu) (aq R)) (
R (.returned sq) ej)) (aq R)
theorem EL(h:L134 g a0 a1 a2 H R):ai Tryz.prog g 134 #[a0,a1,a2] H R:=
 ak (hn:=(hN 3 (.n (.n .e (.n (.h 0 [7,26] [0,2,24,25] (.n .e (.n .e (.h 1 [7] [0,2,24,25,26] (.n (.n .e (.n .e (.n (.h 1 [54] [0,2,7,11,12,24,25,26] (.h 1 [] [] (hr 0 [] 0 5 (.h 0 [7] [] (hr 0 [] 5 2 (.h 0 [8] [] (.h 2 [9] [] (hr 0 [] 10 5 (.h 0 [17] [] (hr 0 [] 15 2 (hr 0 [] 18 2 .e)) .e)) (hr 0 [] 10 9 (.h 3 [19] [] .e .e))) .e)) .e)) .e) .e) .e))) .e) .e))) .e) .e)) .e))) Tryz.func134 h (by kernel_rfl)
def L135(g:Gh)(a0 a1:Value)(H:Hp)(R:Rt):Prop:=
DR H fun R1=>
Nil a0 fun v2=>
aa 0 v2 fun v3=>
Ld R1 v3 fun v4=>
Nil a0 fun v5=>
aa 0 v5 fun v6=>
Ld R1 v6 fun v7=>
CF g 58 #[v4] H (fun v8 H9=>
aU H9 R1∧
ae .num .add v8 a1 fun v10=>
CF g 146 #[v7] H9 (fun v11 dk=>
aU dk R1∧
ae .num .leq v10 v11 fun br=>
R (.returned br) dk) bu) bu
theorem EK(h:L135 g a0 a1 H R):ai Tryz.prog g 135 #[a0,a1] H R:=
 ak (hn:=(.n .e (.n (.h 0 [0,1,2,3,5,7,8,9,10,4,6,11,12,13] [] .e .e) .e))) Tryz.func135 h (by kernel_rfl)
def L136(g:Gh)(a0 a1 a2:Value)(H:Hp)(R:Rt):Prop:=
n7 H fun v1 H2=>
aO a2 fun v3=>
∃(I4:Jt) (m5:Mt),JE I4 [(iv 0)] H2∧∀w8:Value,∀H7:Hp,I4 [w8] H7→∀Rz:Fr,
ae .num .lss w8 v3 fun v9=>
Br v9 (
ah 8 a2 w8 fun v10=>
aD 8 H7 v10 fun v11=>
bn H7 (.cells #[(Value.int .u32 0),(iv 0),(Value.int .u32 0),(Value.int .u32 0),(Value.int .u32 0),(Value.int .u32 0),(Value.int .u32 0),(Value.int .u32 0)] 203 (0,0)) fun r8 ej=>
St 8 ej (pt r8) v11 fun jN=>
aa 4 (pt r8) fun bB=>
Ld jN bB fun bI=>
aa 6 (pt r8) fun bL=>
Ld jN bL fun cf=>
Build Tryz.prog 161 [(0,a1),(1,bI),(2,cf)] fun bN=>
aa 5 (pt r8) fun v20=>
Ld jN v20 fun bS=>
aa 7 (pt r8) fun ct=>
Ld jN ct fun bV=>
Build Tryz.prog 161 [(0,a1),(1,bS),(2,bV)] fun cB=>
au Tryz.prog 286 2 [(0,bN),(1,cB)] jN fun cv gp=>
aO cv fun cL=>
∃(UD:Jt) (m29:Mt),JE UD [(iv 0)] gp∧∀yw:Value,∀jg:Hp,UD [yw] jg→∀T1:Fr,
ae .num .lss yw cL fun eO=>
Br eO (
∀YC:Jt,(∀sM:Hp,(∀XU:Fr,
ae .num .add yw (iv 1) fun dO=>
aC UD m29 [dO] sM [yw] jg)→YC [] sM)→
ah 3 cv yw fun fX=>
aD 3 jg fX fun gu=>
bn jg (.cells #[(iv 0),(Value.int .u32 0),(Value.int .u32 0)] 161 (0,0)) fun Ug JV=>
St 3 JV (pt Ug) gu fun yp=>
DR yp fun R43=>
Nil a0 fun iM=>
aa 0 iM fun gW=>
aa 1 gW fun jd=>
Ld R43 jd fun jU=>
aD 3 R43 (pt Ug) fun kE=>
CF g 205 #[jU,kE] yp (fun kJ NC=>
aU NC R43∧
Ext 0 kJ fun jP=>
Ext 1 kJ fun lT=>
Un .not lT fun qs=>
bX qs true (fun t54=>
aa 1 (pt Ug) fun oZ=>
Ld NC oZ fun sr=>
aa 2 (pt Ug) fun qq=>
Ld NC qq fun sQ=>
ae .num .neq sr sQ fun rT=>
(NC=NC∧rT=Value.bool t54)) (fun t54=>(Value.bool false)=Value.bool t54) fun t54=>∀ac1:Fr,
Br (Value.bool t54) (
Uo Tryz.prog g 10 (nL Tryz.f136 10) [7,11] [v1,(pt Ug)] NC fun GF=>∀ac0:Fr,
JE YC [] GF) (
JE YC [] NC)) bu) (
ae .num .add w8 (iv 1) fun qo=>
aC I4 m5 [qo] jg [w8] H7)) (
yl H7 v1 fun xe=>
R (.returned xe) H7)
theorem EJ(h:L136 g a0 a1 a2 H R):ai Tryz.prog g 136 #[a0,a1,a2] H R:=
 ak (hn:=(.n .e (.n .e (.n (.n .e (.n (.h 0 [17] [0,1,7,15,16] (.n .e (.n .e (.n (.n (.n .e (.n .e (.n (.h 0 [35] [0,1,7,15,16,17,33,34] (.n .e (.n .e (.h 1 [] [0,1,7,15,16,17,33,34,35] (.n (.n .e (.n (.h 0 [0,1,2,3,4,5,6,7,8,9,10,11] [] .e .e) (.n (.h 0 [] [1] .e .e) (.n (.h 9 [7,11] [] .e .e) .e)))) .e) .e))) .e) .e))) .e) .e))) .e) .e)) .e)))) Tryz.func136 h (by kernel_rfl)
def L137(g:Gh)(a0 a1:Value)(H:Hp)(R:Rt):Prop:=
bn H (.cells (Value.cells a1) 161 (0,0)) fun b1 H2=>
aa 0 (pt b1) fun v3=>
Ld H2 v3 fun v4=>
CF g 206 #[a0,v4] H2 (fun v5 H6=>
ae .num .neq v5 (iv 0) fun v7=>
Br v7 (
R (.returned v5) H6) (
Nil a0 fun v8=>
aa 0 v8 fun v9=>
Ld H6 v9 fun v10=>
aa 0 (pt b1) fun v11=>
Ld H6 v11 fun bf=>
ah 1 v10 bf fun br=>
Ld H6 br fun bp=>
aD 3 H6 (pt b1) fun bB=>
jB Tryz.prog 161 (Value.int .u32 0) true H6 bp bB fun bI=>
Ext 0 bI fun bL=>
Ext 1 bI fun cf=>
Un .not cf fun bN=>
Br bN (
R (.returned (iv 10)) H6) (
DR H6 fun A3=>
Nil a0 fun bS=>
aa 0 bS fun ct=>
Ld A3 ct fun bV=>
aa 0 (pt b1) fun cB=>
Ld A3 cB fun cv=>
ah 1 bV cv fun cE=>
Ld A3 cE fun cL=>
aD 3 A3 (pt b1) fun cK=>
p9 Tryz.prog 161 H6 cL cK fun jg=>
aU jg A3∧
R (.returned (iv 0)) jg))) (aq R)
theorem EI(h:L137 g a0 a1 H R):ai Tryz.prog g 137 #[a0,a1] H R:=
 ak (hn:=(hN 3 (.n (.h 0 [0,1,2,3,4,5,6,7,8,9] [] .e .e) .e))) Tryz.func137 h (by kernel_rfl)
def L138(g:Gh)(a0 a1 a2 a3:Value)(H:Hp)(R:Rt):Prop:=
ae .num .eql a2 a3 fun v1=>
Br v1 (
R (.returned a2) H) (
Build Tryz.prog 161 [(0,a1),(1,a2),(2,a3)] fun v2=>
bn H (.cells #[(iv 0),(Value.int .u32 0),(Value.int .u32 0)] 161 (0,0)) fun b3 H4=>
St 3 H4 (pt b3) v2 fun H5=>
DR H5 fun R6=>
Nil a0 fun v7=>
aa 1 v7 fun v8=>
Ld R6 v8 fun v9=>
aD 3 R6 (pt b3) fun v10=>
CF g 205 #[v9,v10] H5 (fun v11 dk=>
aU dk R6∧
Ext 0 v11 fun br=>
Ext 1 v11 fun bp=>
Br bp (
R (.returned br) dk) (
aD 3 dk (pt b3) fun bB=>
CF g 207 #[a0,bB] dk (fun bI fp=>
R (.returned bI) fp) (aq R))) bu)
theorem oT(h:L138 g a0 a1 a2 a3 H R):ai Tryz.prog g 138 #[a0,a1,a2,a3] H R:=
 ak (hn:=(hN 3 (.n (.n (.h 0 [0,1,2,3,4,5,6,7,8,9,10] [] .e .e) .e) .e))) Tryz.func138 h (by kernel_rfl)
def L139(g:Gh)(a0 a1:Value)(H:Hp)(R:Rt):Prop:=
ae .num .gtr a1 (Value.int .u32 1) fun v1=>
Br v1 (
Nil a0 fun v2=>
aa 2 v2 fun v3=>
Ld H v3 fun v4=>
ah 1 v4 a1 fun v5=>
Ld H v5 fun v6=>
ae .num .add v6 (Value.int .i32 1) fun v7=>
ah 1 v4 a1 fun v8=>
St 1 H v8 v7 fun H9=>
R (.returned (.tuple #[])) H9) (
R (.returned (.tuple #[])) H)
theorem EH(h:L139 g a0 a1 H R):ai Tryz.prog g 139 #[a0,a1] H R:=
 ak (hn:=.e) Tryz.func139 h (by kernel_rfl)
def L140(g:Gh)(a0 a1 a2:Value)(H:Hp)(R:Rt):Prop:=
bn H (.cells (Value.cells a2) 161 (0,0)) fun b1 H2=>
ae .ptr .eql a0 (.pointer none) fun v3=>
Br v3 (
R (.returned (iv 10)) H2) (
aD 3 H2 (pt b1) fun v4=>
CF g 208 #[a0,v4] H2 (fun v5 H6=>
ae .num .neq v5 (iv 0) fun v7=>
Br v7 (
R (.returned v5) H6) (
CF g 209 #[a0,a1] H6 (fun v8 H9=>
ae .num .neq v8 (iv 0) fun v10=>
Br v10 (
R (.returned v8) H9) (
DR H9 fun Vy=>
Nil a0 fun bf=>
aa 1 bf fun br=>
Ld Vy br fun bp=>
aD 3 Vy (pt b1) fun bB=>
ah 5 bp a1 fun bI=>
aa 0 bI fun bL=>
St 3 H9 bL bB fun c6=>
R (.returned (iv 0)) c6)) (aq R))) (aq R))
theorem EG(h:L140 g a0 a1 a2 H R):ai Tryz.prog g 140 #[a0,a1,a2] H R:=
 ak (hn:=(hN 4 (.n (.h 0 [0,1,2,3,4,5,6,7,8] [] .e .e) .e))) Tryz.func140 h (by kernel_rfl)
def L141(g:Gh)(a0 a1 a2:Value)(H:Hp)(R:Rt):Prop:=
bn H (.cells (Value.cells a1) 161 (0,0)) fun b1 H2=>
aa 0 (pt b1) fun v3=>
Ld H2 v3 fun v4=>
CF g 206 #[a0,v4] H2 (fun v5 H6=>
ae .num .neq v5 (iv 0) fun v7=>
Br v7 (
R (.returned v5) H6) (
Nil a0 fun v8=>
aa 0 v8 fun v9=>
Ld H6 v9 fun v10=>
aa 0 (pt b1) fun v11=>
Ld H6 v11 fun bf=>
ah 1 v10 bf fun br=>
Ld H6 br fun bp=>
aD 3 H6 (pt b1) fun bB=>
jB Tryz.prog 161 (Value.int .u32 0) true H6 bp bB fun bI=>
Ext 0 bI fun bL=>
Ext 1 bI fun cf=>
Br cf (
R (.returned (iv 11)) H6) (
DR H6 fun Us=>
Nil a0 fun v20=>
aa 0 v20 fun bS=>
Ld Us bS fun ct=>
aa 0 (pt b1) fun bV=>
Ld Us bV fun cB=>
ah 1 ct cB fun cv=>
Ld Us cv fun cE=>
aD 3 Us (pt b1) fun cL=>
iE Tryz.prog 161 H6 cE cL a2 fun rO=>
R (.returned (iv 0)) rO))) (aq R)
theorem EF(h:L141 g a0 a1 a2 H R):ai Tryz.prog g 141 #[a0,a1,a2] H R:=
 ak (hn:=(hN 3 (.n (.h 0 [0,1,2,3,4,5,6,7,8,9,10] [] .e .e) .e))) Tryz.func141 h (by kernel_rfl)
def L142(g:Gh)(a0 a1:Value)(H:Hp)(R:Rt):Prop:=
au Tryz.prog 27 1 [(0,a1)] H fun v1 H2=>
∃(I3:Jt) (m4:Mt),JE I3 [v1] H2∧∀w7:Value,∀H6:Hp,I3 [w7] H6→∀XS:Fr,
aO w7 fun v8=>
ae .num .gtr v8 (iv 0) fun v9=>
Br v9 (
aO w7 fun v10=>
ae .num .sub v10 (iv 1) fun v11=>
ah 1 w7 v11 fun bf=>
Ld H6 bf fun br=>
fc 1 w7 none (some v11) fun bp=>
ae .num .leq br (Value.int .u32 1) fun bB=>
Br bB (
aC I3 m4 [bp] H6 [w7] H6) (
Nil a0 fun bI=>
aa 2 bI fun bL=>
Ld H6 bL fun cf=>
ah 1 cf br fun bN=>
Ld H6 bN fun v20=>
ae .num .sub v20 (Value.int .i32 1) fun bS=>
ah 1 cf br fun ct=>
St 1 H6 ct bS fun jS=>
Nil a0 fun cB=>
aa 2 cB fun cv=>
Ld jS cv fun cE=>
ah 1 cE br fun cL=>
Ld jS cL fun cK=>
ae .num .gtr cK (Value.int .i32 0) fun cN=>
Br cN (
aC I3 m4 [bp] jS [w7] H6) (
CF g 174 #[a0,br] jS (fun v30 jg=>
bn jg (.cells #[(iv 0),(Value.int .u32 0),(Value.int .u32 0)] 161 (0,0)) fun X6 lj=>
St 3 lj (pt X6) v30 fun rN=>
DR rN fun R35=>
Nil a0 fun dW=>
aa 1 dW fun dO=>
Ld R35 dO fun fX=>
aD 3 R35 (pt X6) fun gu=>
CF g 137 #[fX,gu] rN (fun gL JV=>
Nil a0 fun gU=>
aa 0 gU fun fM=>
Ld JV fM fun iM=>
CF g 210 #[iM,br] JV (fun gW yJ=>
aa 1 (pt X6) fun jU=>
Ld yJ jU fun kE=>
aa 2 (pt X6) fun kJ=>
Ld yJ kJ fun lO=>
au Tryz.prog 27 2 [(0,kE),(1,lO)] yJ fun jP AK=>
App Tryz.prog 77 1 4 (Value.int .u32 0) AK bp jP fun oZ Jx=>
aC I3 m4 [oZ] Jx [w7] H6) (aq R)) bu) (aq R)))) (
R (.returned (.tuple #[])) H6)
theorem EE(h:L142 g a0 a1 H R):ai Tryz.prog g 142 #[a0,a1] H R:=
 ak (hn:=(.n .e (.n (.h 0 [4] [0] (.n .e (.n (hN 6 (.n (.h 0 [0,1,2,3,4,5] [] .e .e) .e)) .e)) .e) .e))) Tryz.func142 h (by kernel_rfl)
def L145(g:Gh)(a0 a1:Value)(H:Hp)(R:Rt):Prop:=
ae .ptr .eql a0 (.pointer none) fun v1=>
Br v1 (
R (.returned (.tuple #[(iv 0),(iv 10)])) H) (
∀J2:Jt,(∀w5:Value,∀H4:Hp,(∀RA:Fr,
Br w5 (
R (.returned (.tuple #[(iv 0),(iv 1)])) H4) (
∃(I6:Jt) (m7:Mt),JE I6 [(iv 0)] H4∧∀oY:Value,∀H9:Hp,I6 [oY] H9→∀Mx:Fr,
CF g 34 #[a0] H9 (fun v11 dk=>
ae .num .gtr v11 a1 fun br=>
Br br (
CF g 18 #[a0] dk (fun bp dN=>
ae .num .add oY (iv 1) fun bI=>
aC I6 m7 [bI] dN [oY] H9) (aq R)) (
R (.returned (.tuple #[oY,(iv 0)])) dk)) (aq R)))→J2 [w5] H4)→
ae .num .lss a1 (iv 0) fun bL=>
Split bL false (
CF g 34 #[a0] H (fun cf lR=>
ae .num .gtr a1 cf fun v20=>
az (Value.bool false) (Value.bool true) v20 fun bS=>
JE J2 [bS] lR) (aq R)) (
az (Value.bool true) (Value.bool true) undef fun ct=>
JE J2 [ct] H))
theorem ED(h:L145 g a0 a1 H R):ai Tryz.prog g 145 #[a0,a1] H R:=
 ak (hn:=(.n .e (.n .e (.n (.h 1 [16] [0,1] .e .e) (.n .e (.n (.n (.h 0 [6] [0,1] .e .e) .e) .e)))))) Tryz.func145 h (by kernel_rfl)
def L146(g:Gh)(a0:Value)(H:Hp)(R:Rt):Prop:=
ae .ptr .eql a0 (.pointer none) fun v1=>
Br v1 (
R (.returned (iv 0)) H) (
Nil a0 fun v2=>
aa 0 v2 fun v3=>
Ld H v3 fun v4=>
R (.returned v4) H)
theorem EC(h:L146 g a0 H R):ai Tryz.prog g 146 #[a0] H R:=
 ak (hn:=.e) Tryz.func146 h (by kernel_rfl)
def L147(g:Gh)(a0 a1:Value)(H:Hp)(R:Rt):Prop:=
bn H (.cells (Value.cells a1) 4 (0,0)) fun b1 H2=>
bn H2 (.cells #[(iv 0),(.slice none 0 0)] 57 (0,0)) fun b3 H4=>
CF g 211 #[a0] H4 (fun v5 H6=>
ae .num .neq v5 (iv 0) fun v7=>
Br v7 (
Build Tryz.prog 57 [] fun v8=>
St 2 H6 (pt b3) v8 fun H9=>
aD 2 H9 (pt b3) fun v10=>
R (.returned (.tuple #[v10,v5])) H9) (
CF g 212 #[a0,(.func (.func 213) #[] #[(pt b1)])] H6 (fun v11 dk=>
St 2 dk (pt b3) v11 fun ej=>
aD 2 ej (pt b3) fun bp=>
R (.returned (.tuple #[bp,(iv 0)])) ej) (aq R))) (aq R)
theorem EB(h:L147 g a0 a1 H R):ai Tryz.prog g 147 #[a0,a1] H R:=
 ak (hn:=.e) Tryz.func147 h (by kernel_rfl)
def L148(g:Gh)(a0 a1 a2:Value)(H:Hp)(R:Rt):Prop:=
bn H (.cells (Value.cells a0) 57 (0,0)) fun b1 H2=>
bn H2 (.cells #[(iv 0),(.slice none 0 0)] 57 (0,0)) fun b3 H4=>
aD 2 H4 (pt b1) fun v5=>
CF g 214 #[v5,a1] H4 (fun v6 H7=>
ae .num .neq v6 (iv 0) fun v8=>
Br v8 (
Build Tryz.prog 57 [] fun v9=>
St 2 H7 (pt b3) v9 fun dc=>
aD 2 dc (pt b3) fun v11=>
R (.returned (.tuple #[v11,v6])) dc) (
aD 2 H7 (pt b1) fun bf=>
CF g 215 #[bf,a1,a2] H7 (fun br jN=>
St 2 jN (pt b3) br fun dN=>
aD 2 dN (pt b3) fun bI=>
R (.returned (.tuple #[bI,(iv 0)])) dN) (aq R))) (aq R)
theorem EA(h:L148 g a0 a1 a2 H R):ai Tryz.prog g 148 #[a0,a1,a2] H R:=
 ak (hn:=.e) Tryz.func148 h (by kernel_rfl)
def L149(g:Gh)(a0 a1 a2:Value)(H:Hp)(R:Rt):Prop:=
Nil a0 fun v1=>
aa 0 v1 fun v2=>
Ld H v2 fun v3=>
CF g 97 #[v3,a1] H (fun v4 H5=>
Ext 0 v4 fun v6=>
Ext 1 v4 fun v7=>
bn H5 (.cells #[(iv 0),(Value.int .u32 0),(Value.int .u32 0)] 161 (0,0)) fun b8 H9=>
St 3 H9 (pt b8) v6 fun dc=>
ae .num .neq v7 (iv 0) fun v11=>
bX v11 false (fun t12=>
ae .num .lss a1 (Value.int .u32 2) fun br=>
(dc=dc∧br=Value.bool t12)) (fun t12=>(Value.bool true)=Value.bool t12) fun t12=>∀tG:Fr,
Br (Value.bool t12) (
ae .num .eql v7 (iv 0) fun bB=>
R (.returned bB) dc) (
DR dc fun RH=>
Nil a0 fun bL=>
aa 0 bL fun cf=>
Ld RH cf fun bN=>
aa 0 (pt b8) fun v20=>
Ld RH v20 fun bS=>
CF g 46 #[bN,bS] dc (fun ct jS=>
aU jS RH∧
Ext 0 ct fun cB=>
Ext 1 ct fun cv=>
ae .num .eql cv (iv 0) fun cE=>
bX cE true (fun t27=>
ae .num .gtr cB a2 fun cK=>
(jS=jS∧cK=Value.bool t27)) (fun t27=>(Value.bool false)=Value.bool t27) fun t27=>∀XV:Fr,
R (.returned (Value.bool t27)) jS) bu)) (aq R)
theorem Ez(h:L149 g a0 a1 a2 H R):ai Tryz.prog g 149 #[a0,a1,a2] H R:=
 ak (hn:=(.n .e (.n .e (.n (.n (.h 0 [] [1] .e .e) .e) (.n (.h 0 [0,1,2,3,4,5,6,7,8,9,10,11] [] .e .e) (.n (.h 0 [] [1] .e .e) .e)))))) Tryz.func149 h (by kernel_rfl)
def L153(g:Gh)(a0 a1:Value)(H:Hp)(R:Rt):Prop:=
bn H (.cells (Value.cells a1) 3 (0,0)) fun b1 H2=>
bn H2 (.cells #[(iv 0),(.slice none 0 0)] 57 (0,0)) fun b3 H4=>
CF g 211 #[a0] H4 (fun v5 H6=>
ae .num .neq v5 (iv 0) fun v7=>
Br v7 (
Build Tryz.prog 57 [] fun v8=>
St 2 H6 (pt b3) v8 fun H9=>
aD 2 H9 (pt b3) fun v10=>
R (.returned (.tuple #[v10,v5])) H9) (
Ld H6 (pt b1) fun v11=>
ae .num .lss v11 (iv 0) fun bf=>
bX bf false (fun t13=>
Ld H6 (pt b1) fun bp=>
ae .num .geq bp a0 fun bB=>
(H6=H6∧bB=Value.bool t13)) (fun t13=>(Value.bool true)=Value.bool t13) fun t13=>∀T7:Fr,
Br (Value.bool t13) (
Build Tryz.prog 57 [] fun bL=>
St 2 H6 (pt b3) bL fun c6=>
aD 2 c6 (pt b3) fun bN=>
R (.returned (.tuple #[bN,(iv 2)])) c6) (
CF g 212 #[a0,(.func (.func 218) #[] #[(pt b1)])] H6 (fun v20 fK=>
St 2 fK (pt b3) v20 fun fo=>
aD 2 fo (pt b3) fun bV=>
R (.returned (.tuple #[bV,(iv 0)])) fo) (aq R)))) (aq R)
theorem Ey(h:L153 g a0 a1 H R):ai Tryz.prog g 153 #[a0,a1] H R:=
 ak (hn:=(.n .e (.n .e (.n (.n (.h 0 [] [1] .e .e) .e) .e)))) Tryz.func153 h (by kernel_rfl)
def L154(g:Gh)(a0 a1 a2:Value)(H:Hp)(R:Rt):Prop:=
bn H (.cells (Value.cells a0) 57 (0,0)) fun b1 H2=>
bn H2 (.cells (Value.cells a1) 57 (0,0)) fun b3 H4=>
bn H4 (.cells (Value.cells a2) 57 (0,0)) fun b5 H6=>
bn H6 (.cells #[(iv 0),(.slice none 0 0)] 57 (0,0)) fun b7 H8=>
aD 2 H8 (pt b1) fun v9=>
aD 2 H8 (pt b3) fun v10=>
aD 2 H8 (pt b5) fun v11=>
au Tryz.prog 28 3 [(0,v9),(1,v10),(2,v11)] H8 fun bf ej=>
CF g 220 #[bf] ej (fun bp dN=>
Un .not bp fun bI=>
Br bI (
Build Tryz.prog 57 [] fun bL=>
St 2 dN (pt b7) bL fun c6=>
aD 2 c6 (pt b7) fun bN=>
R (.returned (.tuple #[bN,(iv 5)])) c6) (
aa 0 (pt b1) fun v20=>
Ld dN v20 fun bS=>
CF g 212 #[bS,(.func (.func 221) #[] #[(pt b1),(pt b3),(pt b5)])] dN (fun ct jS=>
St 2 jS (pt b7) ct fun iL=>
aD 2 iL (pt b7) fun cv=>
R (.returned (.tuple #[cv,(iv 0)])) iL) (aq R))) (aq R)
theorem Ex(h:L154 g a0 a1 a2 H R):ai Tryz.prog g 154 #[a0,a1,a2] H R:=
 ak (hn:=.e) Tryz.func154 h (by kernel_rfl)
def L158(g:Gh)(a0 a1:Value)(H:Hp)(R:Rt):Prop:=
Nil a0 fun v1=>
aa 0 v1 fun v2=>
Ld H v2 fun v3=>
ah 2 v3 a1 fun v4=>
aD 2 H v4 fun v5=>
bn H (.cells #[(iv 0),(iv 0)] 233 (0,0)) fun b6 H7=>
St 2 H7 (pt b6) v5 fun H8=>
∃(I9:Jt) (SA:Mt),JE I9 [a1] H8∧∀qg:Value,∀dk:Hp,I9 [qg] dk→∀PV:Fr,
∀Qx:Jt,(∀ri:Value,∀fh:Hp,(∀T8:Fr,
Br ri (
Nil a0 fun cf=>
aa 0 cf fun bN=>
Ld fh bN fun v20=>
ae .num .sub qg (iv 1) fun bS=>
ae .num .quo bS (iv 2) fun ct=>
ah 2 v20 ct fun bV=>
aD 2 fh bV fun cB=>
CF g 159 #[a0,qg,cB] fh (fun cv gp=>
ae .num .sub qg (iv 1) fun cL=>
ae .num .quo cL (iv 2) fun cK=>
aC I9 SA [cK] gp [qg] dk) (aq R)) (
aD 2 fh (pt b6) fun cN=>
CF g 159 #[a0,qg,cN] fh (fun v30 jg=>
R (.returned (.tuple #[])) jg) (aq R)))→Qx [ri] fh)→
DR dk fun Up=>
ae .num .gtr qg (iv 0) fun eO=>
Br eO (
aD 2 Up (pt b6) fun eY=>
Nil a0 fun eM=>
aa 0 eM fun dW=>
Ld Up dW fun dO=>
ae .num .sub qg (iv 1) fun fX=>
ae .num .quo fX (iv 2) fun gu=>
ah 2 dO gu fun gL=>
aD 2 Up gL fun fe=>
∀F42:Hp,
CF (g.add F42) 223 #[eY,fe] dk (fun fM GH=>
aU GH Up∧
az (Value.bool true) fM (Value.bool false) fun gW=>
JE Qx [gW] GH) bu) (
JE Qx [(Value.bool false)] dk)
theorem Ew(h:L158 g a0 a1 H R):ai Tryz.prog g 158 #[a0,a1] H R:=
 ak (hn:=(.n .e (.n (.n (.h 0 [1] [0,4] (.n (.h 1 [26] [0,1,4] (.h 1 [] [] (hr 0 [] 0 2 (.h 2 [2] [] (hr 0 [] 3 12 .e) (hr 0 [] 3 11 (.h 3 [14] [] .e .e)))) .e) .e) .e) .e) .e) .e))) Tryz.func158 h (by kernel_rfl)
def L159(g:Gh)(a0 a1 a2:Value)(H:Hp)(R:Rt):Prop:=
bn H (.cells (Value.cells a2) 233 (0,0)) fun b1 H2=>
DR H2 fun R3=>
Nil a0 fun v4=>
aa 0 v4 fun v5=>
Ld R3 v5 fun v6=>
aD 2 R3 (pt b1) fun v7=>
ah 2 v6 a1 fun v8=>
St 2 H2 v8 v7 fun H9=>
DR H9 fun Yo=>
Nil a0 fun v11=>
aa 1 v11 fun bf=>
Ld Yo bf fun br=>
aa 0 (pt b1) fun bp=>
Ld Yo bp fun bB=>
gF (.int .i64) H9 br bB a1 fun fh=>
R (.returned (.tuple #[])) fh
theorem Ev(h:L159 g a0 a1 a2 H R):ai Tryz.prog g 159 #[a0,a1,a2] H R:=
 ak (hn:=(.n .e (.n (.h 0 [0,1,2,3,4,5,6,7] [] .e .e) (.h 0 [0,1,2,3,4,5,6,7] [] .e .e)))) Tryz.func159 h (by kernel_rfl)
def L160(g:Gh)(a0 a1:Value)(H:Hp)(R:Rt):Prop:=
Nil a0 fun v1=>
aa 0 v1 fun v2=>
Ld H v2 fun v3=>
ah 2 v3 a1 fun v4=>
aD 2 H v4 fun v5=>
bn H (.cells #[(iv 0),(iv 0)] 233 (0,0)) fun b6 H7=>
St 2 H7 (pt b6) v5 fun H8=>
∃(I9:Jt) (SA:Mt),JE I9 [a1] H8∧∀qg:Value,∀dk:Hp,I9 [qg] dk→∀PV:Fr,
ae .num .mul (iv 2) qg fun bp=>
ae .num .add bp (iv 1) fun bB=>
∀UB:Jt,(∀jE:Value,∀c6:Hp,(∀BX:Fr,
∀UA:Jt,(∀sn:Value,∀fo:Hp,(∀T4:Fr,
Br sn (
aD 2 fo (pt b6) fun cB=>
CF g 159 #[a0,qg,cB] fo (fun cv gp=>
R (.returned (.tuple #[])) gp) (aq R)) (
Nil a0 fun cL=>
aa 0 cL fun cK=>
Ld fo cK fun cN=>
ah 2 cN jE fun v30=>
aD 2 fo v30 fun dy=>
CF g 159 #[a0,qg,dy] fo (fun dH lj=>
aC I9 SA [jE] lj [qg] dk) (aq R)))→UA [sn] fo)→
DR c6 fun IM=>
Nil a0 fun eM=>
aa 0 eM fun dW=>
Ld IM dW fun dO=>
aO dO fun fX=>
ae .num .geq jE fX fun gu=>
Br gu (
JE UA [(Value.bool true)] c6) (
Nil a0 fun gL=>
aa 0 gL fun fe=>
Ld IM fe fun gU=>
ah 2 gU jE fun fM=>
aD 2 IM fM fun iM=>
aD 2 IM (pt b6) fun gW=>
∀F46:Hp,
CF (g.add F46) 223 #[iM,gW] c6 (fun jU vz=>
aU vz IM∧
Un .not jU fun kJ=>
az (Value.bool false) (Value.bool true) kJ fun lO=>
JE UA [lO] vz) bu))→UB [jE] c6)→
∀J51:Jt,(∀QE:Value,∀JT:Hp,(∀aiX:Fr,
Br QE (
ae .num .add bB (iv 1) fun oZ=>
JE UB [oZ] JT) (
JE UB [bB] JT))→J51 [QE] JT)→
DR dk fun Qp=>
ae .num .add bB (iv 1) fun qq=>
Nil a0 fun sQ=>
aa 0 sQ fun rT=>
Ld Qp rT fun qp=>
aO qp fun rS=>
ae .num .lss qq rS fun uF=>
Br uF (
Nil a0 fun qo=>
aa 0 qo fun xe=>
Ld Qp xe fun pe=>
ae .num .add bB (iv 1) fun rR=>
ah 2 pe rR fun uN=>
aD 2 Qp uN fun qn=>
Nil a0 fun qm=>
aa 0 qm fun rj=>
Ld Qp rj fun xd=>
ah 2 xd bB fun rQ=>
aD 2 Qp rQ fun yA=>
∀F74:Hp,
CF (g.add F74) 223 #[qn,yA] dk (fun rP nR=>
aU nR Qp∧
az (Value.bool true) rP (Value.bool false) fun yz=>
JE J51 [yz] nR) bu) (
JE J51 [(Value.bool false)] dk)
theorem Eu(h:L160 g a0 a1 H R):ai Tryz.prog g 160 #[a0,a1] H R:=
 ak (hn:=(.n .e (.n (.n (.h 0 [1] [0,4] (.n (.n .e (.h 1 [5] [0,1,4] (.h 1 [41] [0,1,4,5] (.h 1 [] [] (hr 0 [] 0 8 (.h 2 [8] [] (hr 0 [] 9 17 .e) (hr 0 [] 9 16 (.h 3 [25] [] .e .e)))) .e) .e) (.n (.h 1 [62] [0,1,4,5] (.h 1 [] [] (hr 0 [] 0 7 (.h 2 [7] [] (hr 0 [] 8 10 (.h 3 [18] [] .e .e)) (hr 0 [] 8 11 .e))) .e) .e) .e))) .e) .e) .e) .e))) Tryz.func160 h (by kernel_rfl)
variable {g:Gh} {a0 a1 a2 a3 a4 a5 a6 a7 a8 a9 sb r9 Yc Yb Ya X9:Value} {H:Hp} {R:Rt}
def L164(g:Gh)(a0 a1 a2 a3:Value)(H:Hp)(R:Rt):Prop:=
ae .ptr .eql a0 (.pointer none) fun v1=>
Br v1 (
R (.returned (.tuple #[(Value.int .u32 0),(iv 10)])) H) (
CF g 225 #[a0,a1,a2,a3] H (fun v2 H3=>
ae .num .neq v2 (iv 0) fun v4=>
Br v4 (
R (.returned (.tuple #[(Value.int .u32 0),v2])) H3) (
CF g 226 #[a0,a1,a2,a3] H3 (fun v5 H6=>
Ext 0 v5 fun v7=>
Ext 1 v5 fun v8=>
∀J9:Jt,(∀gV:Value,∀eu:Hp,(∀vj:Fr,
CF g 121 #[a0,gV] eu (fun br jN=>
ae .num .neq br (iv 0) fun bB=>
Br bB (
R (.returned (.tuple #[(Value.int .u32 0),br])) jN) (
R (.returned (.tuple #[gV,(iv 0)])) jN)) (aq R))→J9 [gV] eu)→
Un .not v8 fun bI=>
Br bI (
Nil a0 fun bL=>
aa 0 bL fun cf=>
CF g 135 #[cf,(iv 1)] H6 (fun bN jb=>
Un .not bN fun bS=>
Br bS (
R (.returned (.tuple #[(Value.int .u32 0),(iv 9)])) jb) (
Nil a0 fun ct=>
aa 0 ct fun bV=>
Build Tryz.prog 161 [(0,a1),(1,a2),(2,a3)] fun cB=>
CF g 207 #[bV,cB] jb (fun cv gp=>
JE J9 [cv] gp) (aq R))) (aq R)) (
JE J9 [v7] H6)) (aq R))) (aq R))
theorem Et(h:L164 g a0 a1 a2 a3 H R):ai Tryz.prog g 164 #[a0,a1,a2,a3] H R:=
 ak (hn:=(hN 4 (.h 1 [11] [0] .e .e))) Tryz.func164 h (by kernel_rfl)
def L171(g:Gh)(a0 a1:Value)(H:Hp)(R:Rt):Prop:=
CF g 206 #[a0,a1] H (fun v1 H2=>
ae .num .neq v1 (iv 0) fun v3=>
Br v3 (
R (.returned (.tuple #[(iv 0),v1])) H2) (
Nil a0 fun v4=>
aa 0 v4 fun v5=>
Ld H2 v5 fun v6=>
ah 1 v6 a1 fun v7=>
Ld H2 v7 fun v8=>
yl H2 v8 fun v9=>
R (.returned (.tuple #[v9,(iv 0)])) H2)) (aq R)
theorem Es(h:L171 g a0 a1 H R):ai Tryz.prog g 171 #[a0,a1] H R:=
 ak (hn:=.e) Tryz.func171 h (by kernel_rfl)
def L173(g:Gh)(a0 a1:Value)(H:Hp)(R:Rt):Prop:=
Nil a0 fun v1=>
aa 0 v1 fun v2=>
Ld H v2 fun v3=>
CF g 231 #[v3,a1] H (fun v4 H5=>
Ext 0 v4 fun v6=>
Ext 1 v4 fun v7=>
bn H5 (.cells #[(iv 0),(Value.int .u32 0),(Value.int .u32 0)] 161 (0,0)) fun b8 H9=>
St 3 H9 (pt b8) v6 fun dc=>
ae .num .eql v7 (iv 0) fun v11=>
R (.returned v11) dc) (aq R)
theorem Er(h:L173 g a0 a1 H R):ai Tryz.prog g 173 #[a0,a1] H R:=
 ak (hn:=.e) Tryz.func173 h (by kernel_rfl)
def L174(g:Gh)(a0 a1:Value)(H:Hp)(R:Rt):Prop:=
bn H (.cells #[(iv 0),(Value.int .u32 0),(Value.int .u32 0)] 161 (0,0)) fun b1 H2=>
Nil a0 fun v3=>
aa 0 v3 fun v4=>
Ld H2 v4 fun v5=>
CF g 231 #[v5,a1] H2 (fun v6 H7=>
Ext 0 v6 fun v8=>
Ext 1 v6 fun v9=>
bn H7 (.cells #[(iv 0),(Value.int .u32 0),(Value.int .u32 0)] 161 (0,0)) fun yg eu=>
St 3 eu (pt yg) v8 fun dk=>
aD 3 dk (pt yg) fun br=>
St 3 dk (pt b1) br fun jN=>
aD 3 jN (pt b1) fun bB=>
R (.returned bB) jN) (aq R)
theorem Ep(h:L174 g a0 a1 H R):ai Tryz.prog g 174 #[a0,a1] H R:=
 ak (hn:=.e) Tryz.func174 h (by kernel_rfl)
def L175(g:Gh)(a0:Value)(H:Hp)(R:Rt):Prop:=
aO a0 fun v1=>
∃(I2:Jt) (m3:Mt),JE I2 [(iv 0)] H∧∀w6:Value,∀H5:Hp,I2 [w6] H5→∀My:Fr,
ae .num .lss w6 v1 fun v7=>
Br v7 (
ah 2 a0 w6 fun v8=>
aD 2 H5 v8 fun v9=>
bn H5 (.cells #[(iv 0),(.slice none 0 0)] 57 (0,0)) fun yg eu=>
St 2 eu (pt yg) v9 fun dk=>
∀AJ:Jt,(∀lN:Value,∀dN:Hp,(∀tG:Fr,
Br lN (
R (.returned (Value.bool false)) dN) (
ae .num .add w6 (iv 1) fun bL=>
aC I2 m3 [bL] dN [w6] H5))→AJ [lN] dN)→
DR dk fun Qr=>
aD 2 Qr (pt yg) fun bN=>
∀F20:Hp,
CF (g.add F20) 232 #[bN] dk (fun bS fo=>
aU fo Qr∧
Un .not bS fun bV=>
Br bV (
JE AJ [(Value.bool true)] fo) (
aa 0 (pt yg) fun cB=>
Ld Qr cB fun cv=>
ah 2 a0 (iv 0) fun cE=>
aa 0 cE fun cL=>
Ld Qr cL fun cK=>
ae .num .neq cv cK fun cN=>
az (Value.bool false) (Value.bool true) cN fun v30=>
JE AJ [v30] fo)) bu) (
R (.returned (Value.bool true)) H5)
theorem Eo(h:L175 g a0 H R):ai Tryz.prog g 175 #[a0] H R:=
 ak (hn:=(.n .e (.n (.n .e (.n (.h 0 [7] [0,5,6] (.n .e (.n .e (.n (.n (.n .e (.h 1 [22] [0,5,6,7] (.h 1 [] [] (hr 0 [] 0 3 (.h 2 [3] [] (hr 0 [] 4 7 (.h 3 [11] [] .e .e)) (hr 0 [] 4 8 .e))) .e) .e)) .e) .e))) .e) .e)) .e))) Tryz.func175 h (by kernel_rfl)
def L176(g:Gh)(a0:Value)(H:Hp)(R:Rt):Prop:=
n7 H fun v1 H2=>
aO a0 fun v3=>
∃(I4:Jt) (m5:Mt),JE I4 [(iv 0)] H2∧∀w8:Value,∀H7:Hp,I4 [w8] H7→∀Rz:Fr,
ae .num .lss w8 v3 fun v9=>
Br v9 (
ah 2 a0 w8 fun v10=>
aD 2 H7 v10 fun v11=>
bn H7 (.cells #[(iv 0),(.slice none 0 0)] 57 (0,0)) fun r8 ej=>
St 2 ej (pt r8) v11 fun jN=>
aD 2 jN (pt r8) fun bB=>
CF g 233 #[v1,bB] jN (fun bI fp=>
ae .num .add w8 (iv 1) fun cf=>
aC I4 m5 [cf] fp [w8] H7) (aq R)) (
R (.returned v1) H7)
theorem En(h:L176 g a0 H R):ai Tryz.prog g 176 #[a0] H R:=
 ak (hn:=(.n .e (.n .e (.n (.n .e (.n (.h 0 [9] [3,7,8] .e .e) .e)) .e)))) Tryz.func176 h (by kernel_rfl)
def L177(g:Gh)(a0 a1:Value)(H:Hp)(R:Rt):Prop:=
n7 H fun v1 H2=>
Vu H2 a0 fun v3 H4=>
∃(I5:Jt) (m6:Mt),JE I5 [(iv 0)] H4∧∀w9:Value,∀H8:Hp,I5 [w9] H8→∀TZ:Fr,
Uu H8 v3 fun v10 eu=>
Ext 0 v10 fun bf=>
Br bf (
JA eu v3 fun br=>
Ext 1 br fun bp=>
bn eu (.cells #[(iv 0),(.slice none 0 0)] 57 (0,0)) fun Uj fh=>
St 2 fh (pt Uj) bp fun fp=>
aD 2 fp (pt Uj) fun cf=>
CF g 148 #[cf,a1,(Value.bool false)] fp (fun bN jb=>
Ext 0 bN fun bS=>
Ext 1 bN fun ct=>
bn jb (.cells #[(iv 0),(.slice none 0 0)] 57 (0,0)) fun Gr iL=>
St 2 iL (pt Gr) bS fun gf=>
aD 2 gf (pt Uj) fun cE=>
CF g 148 #[cE,a1,(Value.bool true)] gf (fun cL rO=>
Ext 0 cL fun cN=>
Ext 1 cL fun v30=>
bn rO (.cells #[(iv 0),(.slice none 0 0)] 57 (0,0)) fun Cd q7=>
St 2 q7 (pt Cd) cN fun lj=>
DR lj fun IM=>
aD 2 IM (pt Gr) fun eM=>
aD 2 IM (pt Cd) fun dW=>
CF g 234 #[eM] lj (fun dO oU=>
aU oU IM∧
CF g 234 #[dW] oU (fun gu mT=>
aU mT IM∧
∀J41:Jt,(∀Kb:Value,∀oa:Hp,(∀ac3:Fr,
DR oa fun R45=>
aD 2 R45 (pt Gr) fun jd=>
aD 2 R45 (pt Cd) fun jU=>
gF (.string) oa v1 dO jd fun vz=>
aU vz R45∧
gF (.string) vz v1 gu jU fun sk=>
aC I5 m6 [Kb] sk [w9] H8)→J41 [Kb] oa)→
ae .str .neq dO gu fun lO=>
Br lO (
ae .num .add w9 (iv 1) fun jP=>
JE J41 [jP] mT) (
JE J41 [w9] mT)) bu) bu) (aq R)) (aq R)) (
R (.returned (.tuple #[v1,w9])) eu)
theorem Em(h:L177 g a0 a1 H R):ai Tryz.prog g 177 #[a0,a1] H R:=
 ak (hn:=(.n .e (.n .e (.n (.n .e (.n (.h 0 [7] [1,6,18] (.n .e (.n .e (.n (hN 3 (.n (.h 0 [0,2,1,3,4,5] [] .e .e) (.h 1 [7] [1,6,10,12,14,15,18] .e (.h 0 [0,1,2,3,4,5,6,7] [] .e .e)))) .e))) .e) .e)) .e)))) Tryz.func177 h (by kernel_rfl)
def L178(g:Gh)(a0 a1:Value)(H:Hp)(R:Rt):Prop:=
CF g 101 #[a0] H (fun v1 H2=>
CF g 101 #[a1] H2 (fun v3 H4=>
ae .num .eql v1 (iv 4) fun v5=>
bX v5 false (fun t6=>
ae .num .eql v3 (iv 4) fun v7=>
(H4=H4∧v7=Value.bool t6)) (fun t6=>(Value.bool true)=Value.bool t6) fun t6=>∀Mx:Fr,
bX (Value.bool t6) false (fun t9=>
aO a0 fun v10=>
aO a1 fun v11=>
ae .num .neq v10 v11 fun bf=>
(H4=H4∧bf=Value.bool t9)) (fun t9=>(Value.bool true)=Value.bool t9) fun t9=>∀ac7:Fr,
Br (Value.bool t9) (
R (.returned (iv 4)) H4) (
Ny v1 v3 fun bp=>
R (.returned bp) H4)) (aq R)) (aq R)
theorem El(h:L178 g a0 a1 H R):ai Tryz.prog g 178 #[a0,a1] H R:=
 ak (hn:=(.n .e (.n .e (.n (.n (.h 0 [] [1] .e .e) .e) .e)))) Tryz.func178 h (by kernel_rfl)
def L179(g:Gh)(a0 a1:Value)(H:Hp)(R:Rt):Prop:=
aO a0 fun v1=>
∃(I2:Jt) (m3:Mt),JE I2 [(iv 0)] H∧∀w6:Value,∀H5:Hp,I2 [w6] H5→∀My:Fr,
ae .num .lss w6 v1 fun v7=>
Br v7 (
ah 1 a0 w6 fun v8=>
Ld H5 v8 fun v9=>
ae .num .eql a1 v9 fun v10=>
Br v10 (
R (.returned w6) H5) (
ae .num .add w6 (iv 1) fun v11=>
aC I2 m3 [v11] H5 [w6] H5)) (
R (.returned (iv (-1))) H5)
theorem Ek(h:L179 g a0 a1 H R):ai Tryz.prog g 179 #[a0,a1] H R:=
 ak (hn:=(.n .e (.n (.n .e (.n (.h 0 [8] [0,1,7] .e .e) .e)) .e))) Tryz.func179 h (by kernel_rfl)
def L180(g:Gh)(a0 a1:Value)(H:Hp)(R:Rt):Prop:=
Ld H a0 fun v1=>
CF g 105 #[v1] H (fun v2 H3=>
Ld H3 a0 fun v4=>
Nil v4 fun v5=>
aa 2 v5 fun v6=>
Ld H3 v6 fun v7=>
St 1 H3 a1 v7 fun H8=>
R (.returned (.tuple #[])) H8) (aq R)
theorem rM(h:L180 g a0 a1 H R):iD Tryz.prog g 180 #[a0,a1] H R:=
 sY (hn:=.e) Tryz.func180 h (by kernel_rfl)
def L181(g:Gh)(a0:Value)(H:Hp)(R:Rt):Prop:=
DR H fun R1=>
Ld R1 a0 fun v2=>
Ld R1 a0 fun v3=>
Nil v3 fun v4=>
aa 1 v4 fun v5=>
Ld R1 v5 fun v6=>
∀F7:Hp,
CF (g.add F7) 182 #[v2,v6,(iv 1)] H (fun v8 H9=>
R (.returned v8) H9) bu
theorem uw(h:L181 g a0 H R):ai Tryz.prog g 181 #[a0] H R:=
 ak (hn:=(.n .e (.n (.h 1 [] [] (hr 0 [1] 0 7 .e) .e) .e))) Tryz.func181 h (by kernel_rfl)
def L182(g:Gh)(a0 a1 a2:Value)(H:Hp)(R:Rt):Prop:=
Nil a0 fun v1=>
aa 0 v1 fun v2=>
Ld H v2 fun v3=>
CF g 17 #[v3,a1] H (fun v4 H5=>
∀J6:Jt,(∀H8:Hp,(∀TZ:Fr,
R (.returned v4) H8)→J6 [] H8)→
ae .num .eql v4 (iv 0) fun v9=>
Br v9 (
Nil a0 fun v10=>
aa 5 v10 fun v11=>
Ld H5 v11 fun bf=>
ae .num .add bf (iv 1) fun br=>
Nil a0 fun bp=>
aa 5 bp fun bB=>
St 1 H5 bB br fun fh=>
Nil a0 fun bL=>
aa 1 bL fun cf=>
Ld fh cf fun bN=>
ae .num .add bN a2 fun v20=>
Nil a0 fun bS=>
aa 1 bS fun ct=>
St 1 fh ct v20 fun jS=>
JE J6 [] jS) (
JE J6 [] H5)) (aq R)
theorem uv(h:L182 g a0 a1 a2 H R):ai Tryz.prog g 182 #[a0,a1,a2] H R:=
 ak (hn:=(.n .e (.n .e (.h 1 [] [7] .e .e)))) Tryz.func182 h (by kernel_rfl)
def L183(g:Gh)(a0:Value)(H:Hp)(R:Rt):Prop:=
DR H fun R1=>
Ld R1 a0 fun v2=>
Ld R1 a0 fun v3=>
Nil v3 fun v4=>
aa 1 v4 fun v5=>
Ld R1 v5 fun v6=>
ae .num .sub v6 (iv 1) fun v7=>
∀F8:Hp,
CF (g.add F8) 182 #[v2,v7,(iv (-1))] H (fun v9 dc=>
R (.returned v9) dc) bu
theorem uu(h:L183 g a0 H R):ai Tryz.prog g 183 #[a0] H R:=
 ak (hn:=(.n .e (.n (.h 1 [] [] (hr 0 [1] 0 8 .e) .e) .e))) Tryz.func183 h (by kernel_rfl)
def L184(g:Gh)(a0:Value)(H:Hp)(R:Rt):Prop:=
ae .ptr .eql a0 (.pointer none) fun v1=>
Br v1 (
R (.returned (iv 0)) H) (
Nil a0 fun v2=>
aa 0 v2 fun v3=>
Ld H v3 fun v4=>
aO v4 fun v5=>
R (.returned v5) H)
theorem Ej(h:L184 g a0 H R):ai Tryz.prog g 184 #[a0] H R:=
 ak (hn:=.e) Tryz.func184 h (by kernel_rfl)
def L185(g:Gh)(a0:Value)(H:Hp)(R:Rt):Prop:=
cZ 3 1 8 (iv 0) H a0 a0 fun v1 H2=>
∃(I3:Jt) (m4:Mt),JE I3 [(iv 0)] H2∧∀w7:Value,∀H6:Hp,I3 [w7] H6→∀XS:Fr,
ae .num .lss w7 a0 fun v8=>
Br v8 (
ah 1 v1 w7 fun v9=>
St 1 H6 v9 w7 fun dc=>
ae .num .add w7 (iv 1) fun v11=>
aC I3 m4 [v11] dc [w7] H6) (
R (.returned v1) H6)
theorem Ei(h:L185 g a0 H R):ai Tryz.prog g 185 #[a0] H R:=
 ak (hn:=(.n .e (.n .e (.n (.n .e (.n (.h 0 [8] [3,7] .e .e) .e)) .e)))) Tryz.func185 h (by kernel_rfl)
def L186(g:Gh)(a0:Value)(H:Hp)(R:Rt):Prop:=
ae .num .lss a0 (iv 2) fun v1=>
bX v1 false (fun t2=>
ae .num .gtr a0 (iv 1048576) fun v3=>
(H=H∧v3=Value.bool t2)) (fun t2=>(Value.bool true)=Value.bool t2) fun t2=>∀My:Fr,
Br (Value.bool t2) (
R (.returned (.tuple #[(.pointer none),(iv 1)])) H) (
Build Tryz.prog 198 [(0,a0),(3,(iv 2))] fun v5=>
bn H (.cells (Value.cells v5) 198 (0,0)) fun b6 H7=>
∃(I8:Jt) (m9:Mt),JE I8 [(Value.int .u32 0)] H7∧∀gV:Value,∀eu:Hp,I8 [gV] eu→∀vj:Fr,
ae .num .lss gV (Value.int .u32 2) fun br=>
Br br (
Nil (pt b6) fun bp=>
aa 1 bp fun bB=>
Ld eu bB fun bI=>
Build Tryz.prog 161 [(0,(iv (-1))),(1,gV),(2,gV)] fun bL=>
Build Tryz.prog 291 [(0,bL),(1,(Value.bool true)),(2,(Value.int .u8 255))] fun cf=>
au Tryz.prog 196 1 [(0,cf)] eu fun bN jb=>
App Tryz.prog 291 5 24 (.agg #[(iv 0),(Value.int .u32 0),(Value.int .u32 0),(Value.bool false),(Value.int .u8 0)]) jb bI bN fun bV iL=>
Nil (pt b6) fun cv=>
aa 1 cv fun cE=>
St 1 iL cE bV fun jD=>
ae .num .add gV (Value.int .u32 1) fun cK=>
aC I8 m9 [cK] jD [gV] eu) (
R (.returned (.tuple #[(pt b6),(iv 0)])) eu))
theorem Eh(h:L186 g a0 H R):ai Tryz.prog g 186 #[a0] H R:=
 ak (hn:=(.n .e (.n (.n (.h 0 [] [1] .e .e) .e) (.n .e (.n (.n .e (.n (.h 0 [15] [4] .e .e) .e)) .e))))) Tryz.func186 h (by kernel_rfl)
def L193(g:Gh)(a0:Value)(H:Hp)(R:Rt):Prop:=
bn H (.cells (Value.cells a0) 57 (0,0)) fun b1 H2=>
bn H2 (.cells #[(iv 0),(.slice none 0 0)] 57 (0,0)) fun b3 H4=>
aD 2 H4 (pt b1) fun v5=>
au Tryz.prog 28 1 [(0,v5)] H4 fun v6 H7=>
CF g 220 #[v6] H7 (fun v8 H9=>
Un .not v8 fun v10=>
Br v10 (
Build Tryz.prog 57 [] fun v11=>
St 2 H9 (pt b3) v11 fun dk=>
aD 2 dk (pt b3) fun br=>
R (.returned (.tuple #[br,(iv 5)])) dk) (
aa 0 (pt b1) fun bp=>
Ld H9 bp fun bB=>
CF g 212 #[bB,(.func (.func 238) #[] #[(pt b1)])] H9 (fun bI fp=>
St 2 fp (pt b3) bI fun c6=>
aD 2 c6 (pt b3) fun bN=>
R (.returned (.tuple #[bN,(iv 0)])) c6) (aq R))) (aq R)
theorem Eg(h:L193 g a0 H R):ai Tryz.prog g 193 #[a0] H R:=
 ak (hn:=.e) Tryz.func193 h (by kernel_rfl)
def L194(g:Gh)(a0 a1 a2:Value)(H:Hp)(R:Rt):Prop:=
bn H (.cells (Value.cells a0) 5 (0,0)) fun b1 H2=>
bn H2 (.cells (Value.cells a1) 57 (0,0)) fun b3 H4=>
bn H4 (.cells (Value.cells a2) 57 (0,0)) fun b5 H6=>
bn H6 (.cells #[(iv 0),(.slice none 0 0)] 57 (0,0)) fun b7 H8=>
Ld H8 (pt b1) fun v9=>
ae .num .gtr v9 (Value.int .u8 15) fun v10=>
Br v10 (
Build Tryz.prog 57 [] fun v11=>
St 2 H8 (pt b7) v11 fun dk=>
aD 2 dk (pt b7) fun br=>
R (.returned (.tuple #[br,(iv 1)])) dk) (
aD 2 H8 (pt b3) fun bp=>
aD 2 H8 (pt b5) fun bB=>
au Tryz.prog 28 2 [(0,bp),(1,bB)] H8 fun bI fp=>
CF g 220 #[bI] fp (fun cf lR=>
Un .not cf fun v20=>
Br v20 (
Build Tryz.prog 57 [] fun bS=>
St 2 lR (pt b7) bS fun fo=>
aD 2 fo (pt b7) fun bV=>
R (.returned (.tuple #[bV,(iv 5)])) fo) (
aa 0 (pt b3) fun cB=>
Ld lR cB fun cv=>
CF g 212 #[cv,(.func (.func 239) #[] #[(pt b3),(pt b5),(pt b1)])] lR (fun cE jD=>
St 2 jD (pt b7) cE fun rO=>
aD 2 rO (pt b7) fun cN=>
R (.returned (.tuple #[cN,(iv 0)])) rO) (aq R))) (aq R))
theorem Ef(h:L194 g a0 a1 a2 H R):ai Tryz.prog g 194 #[a0,a1,a2] H R:=
 ak (hn:=.e) Tryz.func194 h (by kernel_rfl)
def L195(g:Gh)(a0 a1:Value)(H:Hp)(R:Rt):Prop:=
ae .ptr .eql a0 (.pointer none) fun v1=>
Br v1 (
R (.returned (.tuple #[(Value.int .u32 0),(iv 10)])) H) (
CF g 164 #[a0,a1,(Value.int .u32 0),(Value.int .u32 1)] H (fun v2 H3=>
Ext 0 v2 fun v4=>
Ext 1 v2 fun v5=>
R (.returned (.tuple #[v4,v5])) H3) (aq R))
theorem Ee(h:L195 g a0 a1 H R):ai Tryz.prog g 195 #[a0,a1] H R:=
 ak (hn:=.e) Tryz.func195 h (by kernel_rfl)
def L196(g:Gh)(a0 a1:Value)(H:Hp)(R:Rt):Prop:=
CF g 197 #[a0,(Value.int .u8 3),a1,(Value.int .u32 0)] H (fun v1 H2=>
Ext 0 v1 fun v3=>
Ext 1 v1 fun v4=>
R (.returned (.tuple #[v3,v4])) H2) (aq R)
theorem Ed(h:L196 g a0 a1 H R):ai Tryz.prog g 196 #[a0,a1] H R:=
 ak (hn:=.e) Tryz.func196 h (by kernel_rfl)
def L197(g:Gh)(a0 a1 a2 a3:Value)(H:Hp)(R:Rt):Prop:=
bn H (.cells (Value.cells a1) 5 (0,0)) fun b1 H2=>
ae .ptr .eql a0 (.pointer none) fun v3=>
Br v3 (
R (.returned (.tuple #[(Value.int .u32 0),(iv 10)])) H2) (
Ld H2 (pt b1) fun v4=>
ae .num .gtr v4 (Value.int .u8 15) fun v5=>
Br v5 (
R (.returned (.tuple #[(Value.int .u32 0),(iv 1)])) H2) (
au Tryz.prog 27 2 [(0,a2),(1,a3)] H2 fun v6 H7=>
CF g 240 #[a0,v6] H7 (fun v8 H9=>
Ext 0 v8 fun v10=>
Ext 1 v8 fun v11=>
ae .num .neq v11 (iv 0) fun bf=>
Br bf (
R (.returned (.tuple #[(Value.int .u32 0),v11])) H9) (
Build Tryz.prog 318 [(0,a2),(1,a3)] fun br=>
CF g 241 #[v10,br,(.func (.func 242) #[] #[(pt b1)])] H9 (fun bp dN=>
Ext 0 bp fun bI=>
Ext 1 bp fun bL=>
R (.returned (.tuple #[bI,bL])) dN) (aq R))) (aq R)))
theorem Ec(h:L197 g a0 a1 a2 a3 H R):ai Tryz.prog g 197 #[a0,a1,a2,a3] H R:=
 ak (hn:=.e) Tryz.func197 h (by kernel_rfl)
def L198(g:Gh)(a0 a1 a2 a3:Value)(H:Hp)(R:Rt):Prop:=
au Tryz.prog 27 3 [(0,a1),(1,a2),(2,a3)] H fun v1 H2=>
CF g 240 #[a0,v1] H2 (fun v3 H4=>
Ext 0 v3 fun v5=>
Ext 1 v3 fun v6=>
ae .num .neq v6 (iv 0) fun v7=>
Br v7 (
R (.returned (.tuple #[(Value.int .u32 0),v6])) H4) (
Build Tryz.prog 318 [(0,a1),(1,a2),(2,a3)] fun v8=>
CF g 241 #[v5,v8,(.func (.func 244) #[] #[])] H4 (fun v9 dc=>
Ext 0 v9 fun v11=>
Ext 1 v9 fun bf=>
R (.returned (.tuple #[v11,bf])) dc) (aq R))) (aq R)
theorem Eb(h:L198 g a0 a1 a2 a3 H R):ai Tryz.prog g 198 #[a0,a1,a2,a3] H R:=
 ak (hn:=.e) Tryz.func198 h (by kernel_rfl)
def L199(g:Gh)(a0 a1 a2 a3:Value)(H:Hp)(R:Rt):Prop:=
CF g 245 #[a0,a2] H (fun v1 H2=>
Ext 0 v1 fun v3=>
Ext 1 v1 fun v4=>
ae .ptr .neq a0 (.pointer none) fun v5=>
bX v5 true (fun t6=>
Un .not v4 fun v7=>
(H2=H2∧v7=Value.bool t6)) (fun t6=>(Value.bool false)=Value.bool t6) fun t6=>∀Mx:Fr,
Br (Value.bool t6) (
R (.returned (.tuple #[(Value.int .u32 0),(iv 2)])) H2) (
au Tryz.prog 27 1 [(0,a1)] H2 fun v9 dc=>
CF g 246 #[a0,v3,v9] dc (fun v11 dk=>
ae .num .neq v11 (iv 0) fun br=>
Br br (
R (.returned (.tuple #[(Value.int .u32 0),v11])) dk) (
CF g 248 #[a0,a1,a2,a3] dk (fun bp dN=>
Ext 0 bp fun bI=>
Ext 1 bp fun bL=>
Ext 2 bp fun cf=>
CF g 247 #[bI,bL,cf] dN (fun bN jb=>
Ext 0 bN fun bS=>
Ext 1 bN fun ct=>
R (.returned (.tuple #[bS,ct])) jb) (aq R)) (aq R))) (aq R))) (aq R)
theorem Ea(h:L199 g a0 a1 a2 a3 H R):ai Tryz.prog g 199 #[a0,a1,a2,a3] H R:=
 ak (hn:=(.n .e (.n .e (.n (.n (.h 0 [] [1] .e .e) .e) .e)))) Tryz.func199 h (by kernel_rfl)
def L200(g:Gh)(a0 a1 a2:Value)(H:Hp)(R:Rt):Prop:=
CF g 249 #[a0,a1,a2,(Value.bool true)] H (fun v1 H2=>
Ext 0 v1 fun v3=>
Ext 1 v1 fun v4=>
R (.returned (.tuple #[v3,v4])) H2) (aq R)
theorem D9(h:L200 g a0 a1 a2 H R):ai Tryz.prog g 200 #[a0,a1,a2] H R:=
 ak (hn:=.e) Tryz.func200 h (by kernel_rfl)
def L201(g:Gh)(a0 a1 a2:Value)(H:Hp)(R:Rt):Prop:=
CF g 249 #[a0,a1,a2,(Value.bool false)] H (fun v1 H2=>
Ext 0 v1 fun v3=>
Ext 1 v1 fun v4=>
R (.returned (.tuple #[v3,v4])) H2) (aq R)
theorem D8(h:L201 g a0 a1 a2 H R):ai Tryz.prog g 201 #[a0,a1,a2] H R:=
 ak (hn:=.e) Tryz.func201 h (by kernel_rfl)
def L202(g:Gh)(a0 a1 a2 a3:Value)(H:Hp)(R:Rt):Prop:=
CF g 245 #[a0,a2] H (fun v1 H2=>
Ext 0 v1 fun v3=>
Ext 1 v1 fun v4=>
ae .ptr .neq a0 (.pointer none) fun v5=>
bX v5 true (fun t6=>
Un .not v4 fun v7=>
(H2=H2∧v7=Value.bool t6)) (fun t6=>(Value.bool false)=Value.bool t6) fun t6=>∀Mx:Fr,
Br (Value.bool t6) (
R (.returned (.tuple #[(Value.int .u32 0),(iv 2)])) H2) (
au Tryz.prog 27 2 [(0,a1),(1,a3)] H2 fun v9 dc=>
CF g 246 #[a0,v3,v9] dc (fun v11 dk=>
ae .num .neq v11 (iv 0) fun br=>
Br br (
R (.returned (.tuple #[(Value.int .u32 0),v11])) dk) (
CF g 248 #[a0,a1,a2,(Value.bool false)] dk (fun bp dN=>
Ext 0 bp fun bI=>
Ext 1 bp fun bL=>
Ext 2 bp fun cf=>
CF g 247 #[bI,bL,cf] dN (fun bN jb=>
Ext 0 bN fun bS=>
Ext 1 bN fun ct=>
ae .num .neq ct (iv 0) fun bV=>
Br bV (
R (.returned (.tuple #[(Value.int .u32 0),ct])) jb) (
CF g 248 #[a0,a1,a2,(Value.bool true)] jb (fun cB gf=>
Ext 0 cB fun cE=>
Ext 1 cB fun cL=>
Ext 2 cB fun cK=>
CF g 247 #[cE,cL,cK] gf (fun cN qc=>
Ext 0 cN fun dy=>
Ext 1 cN fun dH=>
ae .num .neq dH (iv 0) fun eO=>
Br eO (
jj Tryz.prog g 131 #[a0,bS] qc fun rN=>
R (.returned (.tuple #[(Value.int .u32 0),dH])) rN) (
CF g 198 #[a0,a3,dy,bS] qc (fun eM sM=>
Ext 0 eM fun dO=>
Ext 1 eM fun fX=>
jj Tryz.prog g 131 #[a0,dy] sM fun A5=>
jj Tryz.prog g 131 #[a0,bS] A5 fun mT=>
R (.returned (.tuple #[dO,fX])) mT) uL)) uL) uL)) uL) uL)) uL)) uL
theorem D7(h:L202 g a0 a1 a2 a3 H R):ai Tryz.prog g 202 #[a0,a1,a2,a3] H R:=
 sX (hn:=(.n .e (.n .e (.n (.n (.h 0 [] [1] .e .e) .e) (hN 7 .e))))) Tryz.func202 h (by kernel_rfl)
def L203(g:Gh)(a0 a1:Value)(H:Hp)(R:Rt):Prop:=
CF g 206 #[a0,a1] H (fun v1 H2=>
ae .num .neq v1 (iv 0) fun v3=>
Br v3 (
R (.returned (.tuple #[(.slice none 0 0),v1])) H2) (
Nil a0 fun v4=>
aa 0 v4 fun v5=>
Ld H2 v5 fun v6=>
ah 1 v6 a1 fun v7=>
Ld H2 v7 fun v8=>
CF g 251 #[v8] H2 (fun v9 dc=>
CF g 250 #[v9] dc (fun v11 dk=>
R (.returned (.tuple #[v11,(iv 0)])) dk) (aq R)) (aq R))) (aq R)
theorem D6(h:L203 g a0 a1 H R):ai Tryz.prog g 203 #[a0,a1] H R:=
 ak (hn:=.e) Tryz.func203 h (by kernel_rfl)
def L204(g:Gh)(a0 a1 a2:Value)(H:Hp)(R:Rt):Prop:=
Nil a0 fun v1=>
aa 0 v1 fun v2=>
CF g 174 #[v2,a1] H (fun v3 H4=>
bn H4 (.cells #[(iv 0),(Value.int .u32 0),(Value.int .u32 0)] 161 (0,0)) fun b5 H6=>
St 3 H6 (pt b5) v3 fun H7=>
aa 0 (pt b5) fun v8=>
Ld H7 v8 fun v9=>
ae .num .eql v9 a2 fun v10=>
Br v10 (
aa 1 (pt b5) fun v11=>
Ld H7 v11 fun bf=>
aa 2 (pt b5) fun br=>
Ld H7 br fun bp=>
R (.returned (.tuple #[bf,bp])) H7) (
R (.returned (.tuple #[a1,a1])) H7)) (aq R)
theorem D5(h:L204 g a0 a1 a2 H R):ai Tryz.prog g 204 #[a0,a1,a2] H R:=
 ak (hn:=.e) Tryz.func204 h (by kernel_rfl)
def L205(g:Gh)(a0 a1:Value)(H:Hp)(R:Rt):Prop:=
bn H (.cells (Value.cells a1) 161 (0,0)) fun b1 H2=>
aa 0 (pt b1) fun v3=>
Ld H2 v3 fun v4=>
CF g 206 #[a0,v4] H2 (fun v5 H6=>
ae .num .neq v5 (iv 0) fun v7=>
Br v7 (
R (.returned (.tuple #[(Value.int .u32 0),(Value.bool false)])) H6) (
Nil a0 fun v8=>
aa 0 v8 fun v9=>
Ld H6 v9 fun v10=>
aa 0 (pt b1) fun v11=>
Ld H6 v11 fun bf=>
ah 1 v10 bf fun br=>
Ld H6 br fun bp=>
aD 3 H6 (pt b1) fun bB=>
jB Tryz.prog 161 (Value.int .u32 0) true H6 bp bB fun bI=>
Ext 0 bI fun bL=>
Ext 1 bI fun cf=>
R (.returned (.tuple #[bL,cf])) H6)) (aq R)
theorem D4(h:L205 g a0 a1 H R):ai Tryz.prog g 205 #[a0,a1] H R:=
 ak (hn:=.e) Tryz.func205 h (by kernel_rfl)
def L206(g:Gh)(a0 a1:Value)(H:Hp)(R:Rt):Prop:=
ae .ptr .eql a0 (.pointer none) fun v1=>
Br v1 (
R (.returned (iv 10)) H) (
ae .num .lss a1 (iv 0) fun v2=>
bX v2 false (fun t3=>
Nil a0 fun v4=>
aa 0 v4 fun v5=>
Ld H v5 fun v6=>
aO v6 fun v7=>
ae .num .geq a1 v7 fun v8=>
(H=H∧v8=Value.bool t3)) (fun t3=>(Value.bool true)=Value.bool t3) fun t3=>∀TY:Fr,
Br (Value.bool t3) (
R (.returned (iv 2)) H) (
R (.returned (iv 0)) H))
theorem D3(h:L206 g a0 a1 H R):ai Tryz.prog g 206 #[a0,a1] H R:=
 ak (hn:=(.n .e (.n (.n (.n .e (.n .e (.n (.h 0 [] [1] .e .e) .e))) .e) .e))) Tryz.func206 h (by kernel_rfl)
def L207(g:Gh)(a0 a1:Value)(H:Hp)(R:Rt):Prop:=
bn H (.cells (Value.cells a1) 161 (0,0)) fun b1 H2=>
DR H2 fun R3=>
Nil a0 fun v4=>
aa 0 v4 fun v5=>
Ld R3 v5 fun v6=>
aD 3 R3 (pt b1) fun v7=>
CF g 252 #[v6,v7] H2 (fun v8 H9=>
aU H9 R3∧
Ext 0 v8 fun v10=>
Ext 1 v8 fun v11=>
∃(E9:Jt) (Sz:Mt),JE E9 [] H9∧∀dN:Hp,E9 [] dN→∀tG:Fr,
aY .i64 v10 fun bI=>
Nil a0 fun bL=>
aa 2 bL fun cf=>
Ld dN cf fun bN=>
aO bN fun v20=>
ae .num .geq bI v20 fun bS=>
Br bS (
Nil a0 fun ct=>
aa 2 ct fun bV=>
Ld dN bV fun cB=>
au Tryz.prog 113 1 [(0,(Value.int .i32 0))] dN fun cv gp=>
App Tryz.prog 21 1 4 (Value.int .i32 0) gp cB cv fun cN qc=>
Nil a0 fun dy=>
aa 2 dy fun dH=>
St 1 qc dH cN fun lj=>
Nil a0 fun eY=>
aa 3 eY fun eM=>
Ld lj eM fun dW=>
au Tryz.prog 113 1 [(0,(Value.int .i32 0))] lj fun dO oU=>
App Tryz.prog 21 1 4 (Value.int .i32 0) oU dW dO fun fe yp=>
Nil a0 fun fM=>
aa 3 fM fun iM=>
St 1 yp iM fe fun Jy=>
aC E9 Sz [] Jy [] dN) (
DR dN fun R46=>
Nil a0 fun jU=>
aa 2 jU fun kE=>
Ld R46 kE fun kJ=>
Nil a0 fun lO=>
aa 3 lO fun jP=>
Ld R46 jP fun lT=>
ah 1 kJ v10 fun qs=>
St 1 dN qs (Value.int .i32 0) fun GG=>
ah 1 lT v10 fun oZ=>
St 1 GG oZ (Value.int .i32 0) fun Jx=>
aa 1 (pt b1) fun qq=>
Ld Jx qq fun sQ=>
CF g 139 #[a0,sQ] Jx (fun rT H60=>
aa 2 (pt b1) fun rS=>
Ld H60 rS fun uF=>
CF g 139 #[a0,uF] H60 (fun qo Fa=>
DR Fa fun R65=>
Nil a0 fun rR=>
aa 1 rR fun uN=>
Ld R65 uN fun qn=>
aD 3 R65 (pt b1) fun qm=>
CF g 141 #[qn,qm,v10] Fa (fun rj ZB=>
R (.returned v10) ZB) bu) (aq R)) (aq R))) bu
theorem D2(h:L207 g a0 a1 H R):ai Tryz.prog g 207 #[a0,a1] H R:=
 ak (hn:=(.n .e (.n (.h 0 [0,1,2,3,4,5,6,7,8,9,10] [] .e .e) (.n (.n (.h 0 [] [0,3,5] .e .e) .e) (.n (.h 0 [0,1,2,3,4,5,6,7,8,9,10,11,12,13] [] .e .e) (.n .e (.n .e (.n (.h 0 [0,1,2,3,4,5,6] [] .e .e) .e)))))))) Tryz.func207 h (by kernel_rfl)
def L208(g:Gh)(a0 a1:Value)(H:Hp)(R:Rt):Prop:=
bn H (.cells (Value.cells a1) 161 (0,0)) fun b1 H2=>
aa 0 (pt b1) fun v3=>
Ld H2 v3 fun v4=>
ae .num .lss v4 (iv 0) fun v5=>
bX v5 false (fun t6=>
aa 0 (pt b1) fun v7=>
Ld H2 v7 fun v8=>
ae .num .geq v8 (iv 64) fun v9=>
(H2=H2∧v9=Value.bool t6)) (fun t6=>(Value.bool true)=Value.bool t6) fun t6=>∀vj:Fr,
Br (Value.bool t6) (
R (.returned (iv 2)) H2) (
∀UC:Jt,(∀sq:Value,∀ej:Hp,(∀PU:Fr,
Br sq (
R (.returned (iv 3)) ej) (
R (.returned (iv 0)) ej))→UC [sq] ej)→
aa 1 (pt b1) fun bB=>
Ld H2 bB fun bI=>
CF g 253 #[a0,bI] H2 (fun bL c6=>
Un .not bL fun bN=>
Split bN false (
aa 2 (pt b1) fun v20=>
Ld c6 v20 fun bS=>
CF g 253 #[a0,bS] c6 (fun ct jS=>
Un .not ct fun cB=>
az (Value.bool false) (Value.bool true) cB fun cv=>
JE UC [cv] jS) (aq R)) (
az (Value.bool true) (Value.bool true) undef fun cE=>
JE UC [cE] c6)) (aq R))
theorem D1(h:L208 g a0 a1 H R):ai Tryz.prog g 208 #[a0,a1] H R:=
 ak (hn:=(.n .e (.n (.n (.n (.h 0 [] [1] .e .e) (.n .e (.h 1 [14] [] .e .e))) .e) .e))) Tryz.func208 h (by kernel_rfl)
def L209(g:Gh)(a0 a1:Value)(H:Hp)(R:Rt):Prop:=
∀J1:Jt,(∀w4:Value,∀H3:Hp,(∀Vr:Fr,
Br w4 (
R (.returned (iv 3)) H3) (
R (.returned (iv 0)) H3))→J1 [w4] H3)→
ae .num .leq a1 (Value.int .u32 1) fun v5=>
Split v5 false (
CF g 253 #[a0,a1] H (fun v6 H7=>
Un .not v6 fun v8=>
az (Value.bool false) (Value.bool true) v8 fun v9=>
JE J1 [v9] H7) (aq R)) (
az (Value.bool true) (Value.bool true) undef fun v10=>
JE J1 [v10] H)
theorem D0(h:L209 g a0 a1 H R):ai Tryz.prog g 209 #[a0,a1] H R:=
 ak (hn:=(.n .e (.n (.h 1 [12] [] .e .e) .e))) Tryz.func209 h (by kernel_rfl)
def L210(g:Gh)(a0 a1:Value)(H:Hp)(R:Rt):Prop:=
ae .ptr .eql a0 (.pointer none) fun v1=>
Br v1 (
R (.returned (iv 10)) H) (
CF g 209 #[a0,a1] H (fun v2 H3=>
ae .num .neq v2 (iv 0) fun v4=>
Br v4 (
R (.returned v2) H3) (
Nil a0 fun v5=>
aa 1 v5 fun v6=>
Ld H3 v6 fun v7=>
Build Tryz.prog 291 [] fun v8=>
ah 5 v7 a1 fun v9=>
St 5 H3 v9 v8 fun dc=>
Nil a0 fun v11=>
aa 2 v11 fun bf=>
Ld dc bf fun br=>
au Tryz.prog 27 1 [(0,a1)] dc fun bp dN=>
App Tryz.prog 77 1 4 (Value.int .u32 0) dN br bp fun cf lR=>
Nil a0 fun v20=>
aa 2 v20 fun bS=>
St 1 lR bS cf fun fo=>
Nil a0 fun bV=>
aa 3 bV fun cB=>
Ld fo cB fun cv=>
ae .num .sub cv (iv 1) fun cE=>
Nil a0 fun cL=>
aa 3 cL fun cK=>
St 1 fo cK cE fun jC=>
R (.returned (iv 0)) jC)) (aq R))
theorem DZ(h:L210 g a0 a1 H R):ai Tryz.prog g 210 #[a0,a1] H R:=
 ak (hn:=.e) Tryz.func210 h (by kernel_rfl)
def L211(g:Gh)(a0:Value)(H:Hp)(R:Rt):Prop:=
ae .num .lss a0 (iv 0) fun v1=>
Br v1 (
R (.returned (iv 1)) H) (
ae .num .gtr a0 (iv 16) fun v2=>
Br v2 (
R (.returned (iv 6)) H) (
R (.returned (iv 0)) H))
theorem DY(h:L211 g a0 H R):ai Tryz.prog g 211 #[a0] H R:=
 ak (hn:=.e) Tryz.func211 h (by kernel_rfl)
def L212(g:Gh)(a0 a1:Value)(H:Hp)(R:Rt):Prop:=
bn H (.cells #[(iv 0),(.slice none 0 0)] 57 (0,0)) fun b1 H2=>
CF g 254 #[a0] H2 (fun v3 H4=>
cZ 50 1 8 (Value.int .u64 0) H4 v3 v3 fun v5 H6=>
Build Tryz.prog 57 [(0,a0),(1,v5)] fun v7=>
bn H6 (.cells #[(iv 0),(.slice none 0 0)] 57 (0,0)) fun b8 H9=>
St 2 H9 (pt b8) v7 fun dc=>
aa 1 (pt b8) fun v11=>
Ld dc v11 fun bf=>
aO bf fun br=>
∃(NB:Jt) (Wa:Mt),JE NB [(iv 0)] dc∧∀jc:Value,∀fp:Hp,NB [jc] fp→∀T7:Fr,
ae .num .lss jc br fun bN=>
Br bN (
DR fp fun A3=>
aa 1 (pt b8) fun bS=>
Ld A3 bS fun ct=>
cC Tryz.prog g a1 #[jc] fp (fun bV iL=>
aU iL A3∧
CF g 255 #[a0] iL (fun cv gp=>
aU gp A3∧
ae .num .and bV cv fun cL=>
ah 1 ct jc fun cK=>
St 1 gp cK cL fun jC=>
ae .num .add jc (iv 1) fun v30=>
aC NB Wa [v30] jC [jc] fp) bu) bu) (
aD 2 fp (pt b8) fun dy=>
St 2 fp (pt b1) dy fun q7=>
aD 2 q7 (pt b1) fun eO=>
R (.returned eO) q7)) (aq R)
theorem DX(h:L212 g a0 a1 H R):ai Tryz.prog g 212 #[a0,a1] H R:=
 ak (hn:=(.n .e (.n .e (.n (.n .e (.n (.h 0 [15] [0,1,4,5,14] (.n .e (.n .e (.n (.n (.n .e (.h 0 [0,1,2,3,4,6,5,7,8,9,10] [] .e .e)) .e) .e))) .e) .e)) .e)))) Tryz.func212 h (by kernel_rfl)
def L213(g:Gh)(a0 a1:Value)(H:Hp)(R:Rt):Prop:=
Ld H a1 fun v1=>
Br v1 (
R (.returned (Value.int .u64 18446744073709551615)) H) (
R (.returned (Value.int .u64 0)) H)
theorem DW(h:L213 g a0 a1 H R):ai Tryz.prog g 213 #[a0,a1] H R:=
 ak (hn:=.e) Tryz.func213 h (by kernel_rfl)
def L214(g:Gh)(a0 a1:Value)(H:Hp)(R:Rt):Prop:=
bn H (.cells (Value.cells a0) 57 (0,0)) fun b1 H2=>
aD 2 H2 (pt b1) fun v3=>
au Tryz.prog 28 1 [(0,v3)] H2 fun v4 H5=>
CF g 220 #[v4] H5 (fun v6 H7=>
Un .not v6 fun v8=>
Br v8 (
R (.returned (iv 5)) H7) (
ae .num .lss a1 (iv 0) fun v9=>
bX v9 false (fun t10=>
aa 0 (pt b1) fun v11=>
Ld H7 v11 fun bf=>
ae .num .geq a1 bf fun br=>
(H7=H7∧br=Value.bool t10)) (fun t10=>(Value.bool true)=Value.bool t10) fun t10=>∀tG:Fr,
Br (Value.bool t10) (
R (.returned (iv 2)) H7) (
R (.returned (iv 0)) H7))) (aq R)
theorem DV(h:L214 g a0 a1 H R):ai Tryz.prog g 214 #[a0,a1] H R:=
 ak (hn:=(.n .e (.n (.n (.n .e (.n .e (.n (.h 0 [] [1] .e .e) .e))) .e) .e))) Tryz.func214 h (by kernel_rfl)
def L215(g:Gh)(a0 a1 a2:Value)(H:Hp)(R:Rt):Prop:=
bn H (.cells (Value.cells a0) 57 (0,0)) fun b1 H2=>
bn H2 (.cells (Value.cells a1) 3 (0,0)) fun b3 H4=>
bn H4 (.cells (Value.cells a2) 4 (0,0)) fun b5 H6=>
bn H6 (.cells #[(iv 0),(.slice none 0 0)] 57 (0,0)) fun b7 H8=>
aa 0 (pt b1) fun v9=>
Ld H8 v9 fun v10=>
CF g 212 #[v10,(.func (.func 256) #[] #[(pt b3),(pt b5),(pt b1)])] H8 (fun v11 dk=>
St 2 dk (pt b7) v11 fun ej=>
aD 2 ej (pt b7) fun bp=>
R (.returned bp) ej) (aq R)
theorem DU(h:L215 g a0 a1 a2 H R):ai Tryz.prog g 215 #[a0,a1,a2] H R:=
 ak (hn:=.e) Tryz.func215 h (by kernel_rfl)
def L218(g:Gh)(a0 a1:Value)(H:Hp)(R:Rt):Prop:=
Ld H a1 fun v1=>
CF g 219 #[v1,a0] H (fun v2 H3=>
R (.returned v2) H3) (aq R)
theorem DS(h:L218 g a0 a1 H R):ai Tryz.prog g 218 #[a0,a1] H R:=
 ak (hn:=.e) Tryz.func218 h (by kernel_rfl)
def L219(g:Gh)(a0 a1:Value)(H:Hp)(R:Rt):Prop:=
ae .num .geq a0 (iv 6) fun v1=>
Br v1 (
aY .u64 a1 fun v2=>
ae .num .sub a0 (iv 6) fun v3=>
ae .num .shr v2 v3 fun v4=>
ae .num .and v4 (Value.int .u64 1) fun v5=>
Un .neg v5 fun v6=>
R (.returned v6) H) (
∃(I7:Jt) (m8:Mt),JE I7 [(Value.int .u64 0),(iv 0)] H∧∀oc gV:Value,∀dc:Hp,I7 [oc,gV] dc→∀TY:Fr,
ae .num .lss gV (iv 64) fun br=>
Br br (
ae .num .shr gV a0 fun bp=>
ae .num .and bp (iv 1) fun bB=>
aY .u64 bB fun bI=>
ae .num .shl bI gV fun bL=>
ae .num .or oc bL fun cf=>
ae .num .add gV (iv 1) fun bN=>
aC I7 m8 [cf,bN] dc [oc,gV] dc) (
R (.returned oc) dc))
theorem DQ(h:L219 g a0 a1 H R):ai Tryz.prog g 219 #[a0,a1] H R:=
 ak (hn:=(hN 3 (.n (.n .e (.n (.h 0 [5,16] [0] .e .e) .e)) .e))) Tryz.func219 h (by kernel_rfl)
def L220(g:Gh)(a0:Value)(H:Hp)(R:Rt):Prop:=
aO a0 fun v1=>
∃(I2:Jt) (m3:Mt),JE I2 [(iv 0)] H∧∀w6:Value,∀H5:Hp,I2 [w6] H5→∀My:Fr,
ae .num .lss w6 v1 fun v7=>
Br v7 (
ah 2 a0 w6 fun v8=>
aD 2 H5 v8 fun v9=>
bn H5 (.cells #[(iv 0),(.slice none 0 0)] 57 (0,0)) fun yg eu=>
St 2 eu (pt yg) v9 fun dk=>
∀AJ:Jt,(∀lN:Value,∀dN:Hp,(∀tG:Fr,
Br lN (
R (.returned (Value.bool false)) dN) (
ae .num .add w6 (iv 1) fun bL=>
aC I2 m3 [bL] dN [w6] H5))→AJ [lN] dN)→
DR dk fun Qr=>
aD 2 Qr (pt yg) fun bN=>
∀F20:Hp,
CF (g.add F20) 232 #[bN] dk (fun bS fo=>
aU fo Qr∧
Un .not bS fun bV=>
Br bV (
JE AJ [(Value.bool true)] fo) (
aa 0 (pt yg) fun cB=>
Ld Qr cB fun cv=>
ah 2 a0 (iv 0) fun cE=>
aa 0 cE fun cL=>
Ld Qr cL fun cK=>
ae .num .neq cv cK fun cN=>
az (Value.bool false) (Value.bool true) cN fun v30=>
JE AJ [v30] fo)) bu) (
R (.returned (Value.bool true)) H5)
theorem DP(h:L220 g a0 H R):ai Tryz.prog g 220 #[a0] H R:=
 ak (hn:=(.n .e (.n (.n .e (.n (.h 0 [7] [0,5,6] (.n .e (.n .e (.n (.n (.n .e (.h 1 [22] [0,5,6,7] (.h 1 [] [] (hr 0 [] 0 3 (.h 2 [3] [] (hr 0 [] 4 7 (.h 3 [11] [] .e .e)) (hr 0 [] 4 8 .e))) .e) .e)) .e) .e))) .e) .e)) .e))) Tryz.func220 h (by kernel_rfl)
def L221(g:Gh)(a0 a1 a2 a3:Value)(H:Hp)(R:Rt):Prop:=
aa 1 a1 fun v1=>
Ld H v1 fun v2=>
ah 1 v2 a0 fun v3=>
Ld H v3 fun v4=>
aa 1 a2 fun v5=>
Ld H v5 fun v6=>
ah 1 v6 a0 fun v7=>
Ld H v7 fun v8=>
ae .num .and v4 v8 fun v9=>
aa 1 a1 fun v10=>
Ld H v10 fun v11=>
ah 1 v11 a0 fun bf=>
Ld H bf fun br=>
Un .xor br fun bp=>
aa 1 a3 fun bB=>
Ld H bB fun bI=>
ah 1 bI a0 fun bL=>
Ld H bL fun cf=>
ae .num .and bp cf fun bN=>
ae .num .or v9 bN fun v20=>
R (.returned v20) H
theorem DO(h:L221 g a0 a1 a2 a3 H R):ai Tryz.prog g 221 #[a0,a1,a2,a3] H R:=
 ak (hn:=.e) Tryz.func221 h (by kernel_rfl)
def L223(g:Gh)(a0 a1:Value)(H:Hp)(R:Rt):Prop:=
bn H (.cells (Value.cells a0) 233 (0,0)) fun b1 H2=>
bn H2 (.cells (Value.cells a1) 233 (0,0)) fun b3 H4=>
aa 1 (pt b1) fun v5=>
Ld H4 v5 fun v6=>
aa 1 (pt b3) fun v7=>
Ld H4 v7 fun v8=>
ae .num .lss v6 v8 fun v9=>
bX v9 false (fun t10=>
aa 1 (pt b1) fun v11=>
Ld H4 v11 fun bf=>
aa 1 (pt b3) fun br=>
Ld H4 br fun bp=>
ae .num .eql bf bp fun bB=>
bX bB true (fun t16=>
aa 0 (pt b1) fun bL=>
Ld H4 bL fun cf=>
aa 0 (pt b3) fun bN=>
Ld H4 bN fun v20=>
ae .num .lss cf v20 fun bS=>
(H4=H4∧bS=Value.bool t16)) (fun t16=>(Value.bool false)=Value.bool t16) fun t16=>∀T3:Fr,
(H4=H4∧(Value.bool t16)=Value.bool t10)) (fun t10=>(Value.bool true)=Value.bool t10) fun t10=>∀XX:Fr,
R (.returned (Value.bool t10)) H4
theorem DN(h:L223 g a0 a1 H R):ai Tryz.prog g 223 #[a0,a1] H R:=
 ak (hn:=(.n .e (.n (.h 0 [] [1] .e .e) .e))) Tryz.func223 h (by kernel_rfl)
def L225(g:Gh)(a0 a1 a2 a3:Value)(H:Hp)(R:Rt):Prop:=
CF g 113 #[a0,a1] H (fun v1 H2=>
Un .not v1 fun v3=>
Br v3 (
R (.returned (iv 2)) H2) (
∀J4:Jt,(∀w7:Value,∀H6:Hp,(∀XS:Fr,
Br w7 (
R (.returned (iv 3)) H6) (
∀J8:Jt,(∀oc:Value,∀dc:Hp,(∀TY:Fr,
Br oc (
R (.returned (iv 4)) dc) (
R (.returned (iv 0)) dc))→J8 [oc] dc)→
DR H6 fun Zu=>
ae .num .neq a2 a3 fun br=>
Br br (
Nil a0 fun bp=>
aa 6 bp fun bB=>
Ld Zu bB fun bI=>
ah 1 bI a1 fun bL=>
Ld Zu bL fun cf=>
∀F19:Hp,
CF (g.add F19) 257 #[a0,a2] H6 (fun v20 fK=>
aU fK Zu∧
∀F22:Hp,
CF (g.add F22) 257 #[a0,a3] fK (fun bV iL=>
aU iL Zu∧
Qw v20 bV fun cv=>
ae .num .geq cf cv fun cE=>
az (Value.bool true) cE (Value.bool false) fun cL=>
JE J8 [cL] iL) bu) bu) (
JE J8 [(Value.bool false)] H6)))→J4 [w7] H6)→
Nil a0 fun cK=>
aa 0 cK fun cN=>
CF g 173 #[cN,a2] H2 (fun v30 jg=>
Un .not v30 fun dH=>
Split dH false (
Nil a0 fun eO=>
aa 0 eO fun eY=>
CF g 173 #[eY,a3] jg (fun eM sM=>
Un .not eM fun dO=>
az (Value.bool false) (Value.bool true) dO fun fX=>
JE J4 [fX] sM) (aq R)) (
az (Value.bool true) (Value.bool true) undef fun gu=>
JE J4 [gu] jg)) (aq R))) (aq R)
theorem DM(h:L225 g a0 a1 a2 a3 H R):ai Tryz.prog g 225 #[a0,a1,a2,a3] H R:=
 ak (hn:=(.n .e (.n (.n (.n .e (.n .e (.h 1 [14] [0,1,2,3] .e (.n .e (.h 1 [29] [] (.h 1 [] [] (hr 0 [] 0 3 (.h 2 [3] [] (hr 0 [] 4 9 (hr 0 [] 14 2 (.h 0 [13] [] (hr 0 [] 16 5 .e) .e))) (hr 0 [] 4 15 (hr 3 [] 19 2 .e)))) .e) .e))))) .e) .e))) Tryz.func225 h (by kernel_rfl)
def L226(g:Gh)(a0 a1 a2 a3:Value)(H:Hp)(R:Rt):Prop:=
ae .num .eql a2 a3 fun v1=>
Br v1 (
R (.returned (.tuple #[a2,(Value.bool true)])) H) (
Nil a0 fun v2=>
aa 0 v2 fun v3=>
aa 1 v3 fun v4=>
Ld H v4 fun v5=>
Build Tryz.prog 161 [(0,a1),(1,a2),(2,a3)] fun v6=>
CF g 205 #[v5,v6] H (fun v7 H8=>
Ext 0 v7 fun v9=>
Ext 1 v7 fun v10=>
R (.returned (.tuple #[v9,v10])) H8) (aq R))
theorem DL(h:L226 g a0 a1 a2 a3 H R):ai Tryz.prog g 226 #[a0,a1,a2,a3] H R:=
 ak (hn:=.e) Tryz.func226 h (by kernel_rfl)
def L231(g:Gh)(a0 a1:Value)(H:Hp)(R:Rt):Prop:=
bn H (.cells #[(iv 0),(Value.int .u32 0),(Value.int .u32 0)] 161 (0,0)) fun b1 H2=>
ae .ptr .eql a0 (.pointer none) fun v3=>
Br v3 (
Build Tryz.prog 161 [] fun v4=>
St 3 H2 (pt b1) v4 fun H5=>
aD 3 H5 (pt b1) fun v6=>
R (.returned (.tuple #[v6,(iv 10)])) H5) (
CF g 253 #[a0,a1] H2 (fun v7 H8=>
Un .not v7 fun v9=>
Br v9 (
Build Tryz.prog 161 [] fun v10=>
St 3 H8 (pt b1) v10 fun eu=>
aD 3 eu (pt b1) fun bf=>
R (.returned (.tuple #[bf,(iv 3)])) eu) (
Nil a0 fun br=>
aa 1 br fun bp=>
Ld H8 bp fun bB=>
ah 5 bB a1 fun bI=>
aa 0 bI fun bL=>
aD 3 H8 bL fun cf=>
St 3 H8 (pt b1) cf fun lR=>
aD 3 lR (pt b1) fun v20=>
R (.returned (.tuple #[v20,(iv 0)])) lR)) (aq R))
theorem DK(h:L231 g a0 a1 H R):ai Tryz.prog g 231 #[a0,a1] H R:=
 ak (hn:=.e) Tryz.func231 h (by kernel_rfl)
def L232(g:Gh)(a0:Value)(H:Hp)(R:Rt):Prop:=
bn H (.cells (Value.cells a0) 57 (0,0)) fun b1 H2=>
∀J3:Jt,(∀w6:Value,∀H5:Hp,(∀My:Fr,
Br w6 (
R (.returned (Value.bool false)) H5) (
DR H5 fun R7=>
aa 1 (pt b1) fun v8=>
Ld R7 v8 fun v9=>
aa 1 (pt b1) fun v10=>
Ld R7 v10 fun v11=>
aO v11 fun bf=>
ae .num .sub bf (iv 1) fun br=>
ah 1 v9 br fun bp=>
Ld R7 bp fun bB=>
aa 0 (pt b1) fun bI=>
Ld R7 bI fun bL=>
CF g 255 #[bL] H5 (fun cf lR=>
aU lR R7∧
ae .num .andNot bB cf fun v20=>
ae .num .eql v20 (Value.int .u64 0) fun bS=>
R (.returned bS) lR) bu))→J3 [w6] H5)→
DR H2 fun Ur=>
aa 0 (pt b1) fun bV=>
Ld Ur bV fun cB=>
ae .num .lss cB (iv 0) fun cv=>
Br cv (
JE J3 [(Value.bool true)] H2) (
aa 0 (pt b1) fun cE=>
Ld Ur cE fun cL=>
ae .num .gtr cL (iv 16) fun cK=>
az (Value.bool false) (Value.bool true) cK fun cN=>
Br cN (
JE J3 [(Value.bool true)] H2) (
aa 1 (pt b1) fun v30=>
Ld Ur v30 fun dy=>
aO dy fun dH=>
aa 0 (pt b1) fun eO=>
Ld Ur eO fun eY=>
∀F35:Hp,
CF (g.add F35) 254 #[eY] H2 (fun dW lQ=>
aU lQ Ur∧
ae .num .neq dH dW fun fX=>
az (Value.bool false) (Value.bool true) fX fun gu=>
JE J3 [gu] lQ) bu))
theorem DJ(h:L232 g a0 H R):ai Tryz.prog g 232 #[a0] H R:=
 ak (hn:=(.n .e (.n (.h 1 [19] [1] (.h 1 [] [] (hr 0 [] 0 3 (.h 2 [3] [] (hr 0 [] 4 3 (hr 3 [] 7 2 (hr 0 [] 9 7 (.h 3 [16] [] .e .e)))) (hr 0 [] 4 4 (.h 2 [8] [] (hr 0 [] 9 7 (.h 3 [16] [] .e .e)) (hr 0 [] 9 8 .e))))) .e) .e) (.n (.h 0 [0,1,2,3,4,5,6,7,8,9,10,11,12,13] [] .e .e) .e)))) Tryz.func232 h (by kernel_rfl)
def L233(g:Gh)(a0 a1:Value)(H:Hp)(R:Rt):Prop:=
bn H (.cells (Value.cells a1) 57 (0,0)) fun b1 H2=>
DR H2 fun R3=>
aD 2 R3 (pt b1) fun v4=>
aD 2 R3 (pt b1) fun v5=>
CF g 234 #[v4] H2 (fun v6 H7=>
aU H7 R3∧
gF (.string) H7 a0 v6 v5 fun H8=>
R (.returned (.tuple #[])) H8) bu
theorem DI(h:L233 g a0 a1 H R):ai Tryz.prog g 233 #[a0,a1] H R:=
 ak (hn:=(.n .e (.h 0 [0,1,3,2,4] [] .e .e))) Tryz.func233 h (by kernel_rfl)
def L234(g:Gh)(a0:Value)(H:Hp)(R:Rt):Prop:=
bn H (.cells (Value.cells a0) 57 (0,0)) fun b1 H2=>
aa 1 (pt b1) fun v3=>
Ld H2 v3 fun v4=>
aO v4 fun v5=>
∃(I6:Jt) (m7:Mt),JE I6 [(.slice none 0 0),(iv 0)] H2∧∀oY oc:Value,∀H9:Hp,I6 [oY,oc] H9→∀Mx:Fr,
ae .num .lss oc v5 fun bf=>
Br bf (
ah 1 v4 oc fun br=>
Ld H9 br fun bp=>
∃(E8:Jt) (Sy:Mt),JE E8 [oY,(iv 0)] H9∧∀jE oX:Value,∀c6:Hp,E8 [jE,oX] c6→∀BX:Fr,
ae .num .lss oX (iv 8) fun bS=>
Br bS (
ae .num .mul (iv 8) oX fun ct=>
ae .num .shr bp ct fun bV=>
aY .u8 bV fun cB=>
au Tryz.prog 87 1 [(0,cB)] c6 fun cv gp=>
App Tryz.prog 5 1 1 (Value.int .u8 0) gp jE cv fun cN qc=>
ae .num .add oX (iv 1) fun dy=>
aC E8 Sy [cN,dy] qc [jE,oX] c6) (
ae .num .add oc (iv 1) fun dH=>
aC I6 m7 [jE,dH] c6 [oY,oc] H9)) (
jO H9 oY fun eO=>
R (.returned eO) H9)
theorem DH(h:L234 g a0 H R):ai Tryz.prog g 234 #[a0] H R:=
 ak (hn:=(.n .e (.n .e (.n (.n .e (.n (.h 0 [3,10] [8,9] (.n .e (.n .e (.n (.n (.n .e (.n .e (.n (.h 0 [3,14] [5,8,9,10] .e .e) .e))) .e) .e))) .e) .e)) .e)))) Tryz.func234 h (by kernel_rfl)
def L238(g:Gh)(a0 a1:Value)(H:Hp)(R:Rt):Prop:=
aa 1 a1 fun v1=>
Ld H v1 fun v2=>
ah 1 v2 a0 fun v3=>
Ld H v3 fun v4=>
Un .xor v4 fun v5=>
R (.returned v5) H
theorem DG(h:L238 g a0 a1 H R):ai Tryz.prog g 238 #[a0,a1] H R:=
 ak (hn:=.e) Tryz.func238 h (by kernel_rfl)
def L239(g:Gh)(a0 a1 a2 a3:Value)(H:Hp)(R:Rt):Prop:=
aa 1 a1 fun v1=>
Ld H v1 fun v2=>
ah 1 v2 a0 fun v3=>
Ld H v3 fun v4=>
aa 1 a2 fun v5=>
Ld H v5 fun v6=>
ah 1 v6 a0 fun v7=>
Ld H v7 fun v8=>
Un .xor v4 fun v9=>
Un .xor v8 fun v10=>
ae .num .and v9 v10 fun v11=>
Un .xor v4 fun bf=>
ae .num .and bf v8 fun br=>
Un .xor v8 fun bp=>
ae .num .and v4 bp fun bB=>
ae .num .and v4 v8 fun bI=>
au Tryz.prog 55 4 [(0,v11),(1,br),(2,bB),(3,bI)] H fun bL c6=>
aO bL fun bN=>
∃(UF:Jt) (m21:Mt),JE UF [(Value.int .u64 0),(iv 0)] c6∧∀yO uD:Value,∀jS:Hp,UF [yO,uD] jS→∀T3:Fr,
ae .num .lss uD bN fun cE=>
Br cE (
∀A4:Jt,(∀QG:Value,∀jC:Hp,(∀XW:Fr,
ae .num .add uD (iv 1) fun dy=>
aC UF m21 [QG,dy] jC [yO,uD] jS)→A4 [QG] jC)→
ah 1 bL uD fun dH=>
Ld jS dH fun eO=>
Ld jS a3 fun eY=>
ae .num .shr eY uD fun eM=>
ae .num .and eM (Value.int .u8 1) fun dW=>
ae .num .eql dW (Value.int .u8 1) fun dO=>
Br dO (
ae .num .or yO eO fun fX=>
JE A4 [fX] jS) (
JE A4 [yO] jS)) (
R (.returned yO) jS)
theorem DF(h:L239 g a0 a1 a2 a3 H R):ai Tryz.prog g 239 #[a0,a1,a2,a3] H R:=
 ak (hn:=(hN 3 (.n (.n .e (.n (.h 0 [8,39] [3,37,38] (.n .e (.n .e (.h 1 [8] [3,37,38,39] .e .e))) .e) .e)) .e))) Tryz.func239 h (by kernel_rfl)
def L240(g:Gh)(a0 a1:Value)(H:Hp)(R:Rt):Prop:=
ae .ptr .eql a0 (.pointer none) fun v1=>
Br v1 (
R (.returned (.tuple #[(.pointer none),(iv 10)])) H) (
aO a1 fun v2=>
∃(I3:Jt) (m4:Mt),JE I3 [(iv 0)] H∧∀w7:Value,∀H6:Hp,I3 [w7] H6→∀XS:Fr,
ae .num .lss w7 v2 fun v8=>
Br v8 (
ah 1 a1 w7 fun v9=>
Ld H6 v9 fun v10=>
CF g 97 #[a0,v10] H6 (fun v11 dk=>
Ext 0 v11 fun br=>
Ext 1 v11 fun bp=>
bn dk (.cells #[(iv 0),(Value.int .u32 0),(Value.int .u32 0)] 161 (0,0)) fun Uj fh=>
St 3 fh (pt Uj) br fun fp=>
ae .num .neq bp (iv 0) fun cf=>
Br cf (
R (.returned (.tuple #[(.pointer none),bp])) fp) (
ae .num .add w7 (iv 1) fun bN=>
aC I3 m4 [bN] fp [w7] H6)) (aq R)) (
CF g 61 #[a0] H6 (fun v20 fK=>
cZ 3 1 8 (iv 0) fK v20 v20 fun ct jS=>
Build Tryz.prog 337 [(0,a0),(1,ct)] fun cB=>
bn jS (.cells (Value.cells cB) 337 (0,0)) fun Gp gp=>
CF g 13 #[a0] gp (fun cL rO=>
aO cL fun cN=>
∃(I30:Jt) (m31:Mt),JE I30 [(iv 0)] rO∧∀NM:Value,∀lj:Hp,I30 [NM] lj→∀ac5:Fr,
ae .num .lss NM cN fun eM=>
Br eM (
ah 1 cL NM fun dW=>
Ld lj dW fun dO=>
Nil (pt Gp) fun fX=>
aa 1 fX fun gu=>
Ld lj gu fun gL=>
ah 1 gL dO fun fe=>
St 1 lj fe NM fun yp=>
ae .num .add NM (iv 1) fun fM=>
aC I30 m31 [fM] yp [NM] lj) (
R (.returned (.tuple #[(pt Gp),(iv 0)])) lj)) (aq R)) (aq R)))
theorem DE(h:L240 g a0 a1 H R):ai Tryz.prog g 240 #[a0,a1] H R:=
 ak (hn:=(.n .e (.n .e (.n (.n .e (.n (.h 0 [17] [0,15,16] .e .e) .e)) (.n .e (.n (.n .e (.n (.h 0 [40] [10,38,39] .e .e) .e)) .e)))))) Tryz.func240 h (by kernel_rfl)
def L241(g:Gh)(a0 a1 a2:Value)(H:Hp)(R:Rt):Prop:=
bn H (.cells (Value.cells a0) 313 (0,0)) fun b1 H2=>
bn H2 (.cells (Value.cells a1) 318 (0,0)) fun b3 H4=>
bn H4 (.cells (Value.cells a2) 320 (0,0)) fun b5 H6=>
bn H6 (.cells #[(Value.int .u32 0)] 77 (0,0)) fun b7 H8=>
bn H8 (.cells #[(iv 0)] 32 (0,0)) fun b9 dc=>
n7 dc fun v11 dk=>
bn dk (.cells #[(.map none)] 339 (0,0)) fun fZ jN=>
St 1 jN (pt fZ) v11 fun dN=>
bn dN (.cells #[.nilFunc] 340 (0,0)) fun k9 fp=>
St 1 fp (pt k9) (.func (.func 264) #[] #[(pt fZ),(pt b1),(pt b5),(pt k9)]) fun c6=>
Ld c6 (pt k9) fun bN=>
aD 3 c6 (pt b3) fun v20=>
cC Tryz.prog g bN #[v20] c6 (fun bS fo=>
Ext 0 bS fun bV=>
Ext 1 bS fun cB=>
St 1 fo (pt b7) bV fun gf=>
St 1 gf (pt b9) cB fun gp=>
jj Tryz.prog g 262 #[(pt b1),(pt b7),(pt b9)] gp fun jD=>
Ld jD (pt b7) fun cK=>
Ld jD (pt b9) fun cN=>
R (.returned (.tuple #[cK,cN])) jD) uL
theorem DD(h:L241 g a0 a1 a2 H R):ai Tryz.prog g 241 #[a0,a1,a2] H R:=
 sX (hn:=(.n .e (.n .e .e))) Tryz.func241 h (by kernel_rfl)
def L242(g:Gh)(a0 a1 a2 a3:Value)(H:Hp)(R:Rt):Prop:=
DR H fun R1=>
Ld R1 a3 fun v2=>
CF g 243 #[a0] H (fun v3 H4=>
aU H4 R1∧
ae .num .mul (Value.int .u8 2) v3 fun v5=>
CF g 243 #[a1] H4 (fun v6 H7=>
aU H7 R1∧
ae .num .add v5 v6 fun v8=>
ae .num .shr v2 v8 fun v9=>
ae .num .and v9 (Value.int .u8 1) fun v10=>
ae .num .eql v10 (Value.int .u8 1) fun v11=>
R (.returned v11) H7) bu) bu
theorem DC(h:L242 g a0 a1 a2 a3 H R):ai Tryz.prog g 242 #[a0,a1,a2,a3] H R:=
 ak (hn:=(.n .e (.n (.h 0 [0,1,4,2,3,5,6,7,8,9,10] [] .e .e) .e))) Tryz.func242 h (by kernel_rfl)
def L243(g:Gh)(a0:Value)(H:Hp)(R:Rt):Prop:=
Br a0 (
R (.returned (Value.int .u8 1)) H) (
R (.returned (Value.int .u8 0)) H)
theorem DB(h:L243 g a0 H R):ai Tryz.prog g 243 #[a0] H R:=
 ak (hn:=.e) Tryz.func243 h (by kernel_rfl)
def L244(g:Gh)(a0 a1 a2:Value)(H:Hp)(R:Rt):Prop:=
bX a0 true (fun t1=>
(H=H∧a1=Value.bool t1)) (fun t1=>(Value.bool false)=Value.bool t1) fun t1=>∀Vr:Fr,
bX (Value.bool t1) false (fun t3=>
Un .not a0 fun v4=>
bX v4 true (fun t5=>
(H=H∧a2=Value.bool t5)) (fun t5=>(Value.bool false)=Value.bool t5) fun t5=>∀Rz:Fr,
(H=H∧(Value.bool t5)=Value.bool t3)) (fun t3=>(Value.bool true)=Value.bool t3) fun t3=>∀TZ:Fr,
R (.returned (Value.bool t3)) H
theorem DA(h:L244 g a0 a1 a2 H R):ai Tryz.prog g 244 #[a0,a1,a2] H R:=
 ak (hn:=(.n .e (.n (.h 0 [] [1] .e .e) .e))) Tryz.func244 h (by kernel_rfl)
def L245(g:Gh)(a0 a1:Value)(H:Hp)(R:Rt):Prop:=
∀J1:Jt,(∀w4:Value,∀H3:Hp,(∀Vr:Fr,
Br w4 (
R (.returned (.tuple #[(Value.int .u64 0),(Value.bool false)])) H3) (
ae .num .shl (Value.int .u64 1) a1 fun v5=>
R (.returned (.tuple #[v5,(Value.bool true)])) H3))→J1 [w4] H3)→
ae .num .lss a1 (iv 0) fun v6=>
Split v6 false (
ae .ptr .neq a0 (.pointer none) fun v7=>
Split v7 true (
CF g 61 #[a0] H (fun v8 H9=>
ae .num .geq a1 v8 fun v10=>
az (Value.bool true) v10 (Value.bool false) fun v11=>
az (Value.bool false) (Value.bool true) v11 fun bf=>
JE J1 [bf] H9) (aq R)) (
az (Value.bool false) undef (Value.bool false) fun br=>
az (Value.bool false) (Value.bool true) br fun bp=>
JE J1 [bp] H)) (
az (Value.bool true) (Value.bool true) undef fun bB=>
JE J1 [bB] H)
theorem Dz(h:L245 g a0 a1 H R):ai Tryz.prog g 245 #[a0,a1] H R:=
 ak (hn:=(.n .e (.n (.h 1 [17] [1] .e .e) .e))) Tryz.func245 h (by kernel_rfl)
def L246(g:Gh)(a0 a1 a2:Value)(H:Hp)(R:Rt):Prop:=
ae .ptr .eql a0 (.pointer none) fun v1=>
Br v1 (
R (.returned (iv 10)) H) (
CF g 61 #[a0] H (fun v2 H3=>
ae .num .shr a1 v2 fun v4=>
ae .num .neq v4 (Value.int .u64 0) fun v5=>
Br v5 (
R (.returned (iv 2)) H3) (
aO a2 fun v6=>
∃(I7:Jt) (m8:Mt),JE I7 [(iv 0)] H3∧∀oc:Value,∀dc:Hp,I7 [oc] dc→∀TY:Fr,
ae .num .lss oc v6 fun bf=>
Br bf (
ah 1 a2 oc fun br=>
Ld dc br fun bp=>
CF g 97 #[a0,bp] dc (fun bB fh=>
Ext 0 bB fun bL=>
Ext 1 bB fun cf=>
bn fh (.cells #[(iv 0),(Value.int .u32 0),(Value.int .u32 0)] 161 (0,0)) fun Gs jb=>
St 3 jb (pt Gs) bL fun fK=>
ae .num .neq cf (iv 0) fun ct=>
Br ct (
R (.returned (iv 3)) fK) (
ae .num .add oc (iv 1) fun bV=>
aC I7 m8 [bV] fK [oc] dc)) (aq R)) (
R (.returned (iv 0)) dc))) (aq R))
theorem Dy(h:L246 g a0 a1 a2 H R):ai Tryz.prog g 246 #[a0,a1,a2] H R:=
 ak (hn:=(hN 3 (.n (.n .e (.n (.h 0 [20] [0,18,19] .e .e) .e)) .e))) Tryz.func246 h (by kernel_rfl)
def L247(g:Gh)(a0 a1 a2:Value)(H:Hp)(R:Rt):Prop:=
ae .num .neq a2 (iv 0) fun v1=>
Br v1 (
R (.returned (.tuple #[(Value.int .u32 0),a2])) H) (
Un .not a1 fun v2=>
Br v2 (
R (.returned (.tuple #[(Value.int .u32 0),(iv 8)])) H) (
R (.returned (.tuple #[a0,(iv 0)])) H))
theorem ur(h:L247 g a0 a1 a2 H R):ai Tryz.prog g 247 #[a0,a1,a2] H R:=
 ak (hn:=.e) Tryz.func247 h (by kernel_rfl)
def L248(g:Gh)(a0 a1 a2 a3:Value)(H:Hp)(R:Rt):Prop:=
bn H (.cells (Value.cells a1) 77 (0,0)) fun b1 H2=>
bn H2 (.cells (Value.cells a2) 3 (0,0)) fun b3 H4=>
bn H4 (.cells (Value.cells a3) 4 (0,0)) fun b5 H6=>
CF g 268 #[a0,(.func (.func 269) #[] #[(pt b1),(pt b3),(pt b5)])] H6 (fun v7 H8=>
Ext 0 v7 fun v9=>
Ext 1 v7 fun v10=>
Ext 2 v7 fun v11=>
R (.returned (.tuple #[v9,v10,v11])) H8) (aq R)
theorem Dx(h:L248 g a0 a1 a2 a3 H R):ai Tryz.prog g 248 #[a0,a1,a2,a3] H R:=
 ak (hn:=.e) Tryz.func248 h (by kernel_rfl)
def L249(g:Gh)(a0 a1 a2 a3:Value)(H:Hp)(R:Rt):Prop:=
au Tryz.prog 27 1 [(0,a1)] H fun v1 H2=>
CF g 246 #[a0,a2,v1] H2 (fun v3 H4=>
ae .num .neq v3 (iv 0) fun v5=>
Br v5 (
R (.returned (.tuple #[(Value.int .u32 0),v3])) H4) (
ae .num .eql a2 (Value.int .u64 0) fun v6=>
Br v6 (
CF g 121 #[a0,a1] H4 (fun v7 H8=>
ae .num .neq v7 (iv 0) fun v9=>
Br v9 (
R (.returned (.tuple #[(Value.int .u32 0),v7])) H8) (
R (.returned (.tuple #[a1,(iv 0)])) H8)) (aq R)) (
CF g 61 #[a0] H4 (fun v10 eu=>
∃(E9:Jt) (Sz:Mt),JE E9 [a1,(Value.bool false),(iv 0)] eu∧∀lN ri jc:Value,∀dN:Hp,E9 [lN,ri,jc] dN→∀tG:Fr,
ae .num .lss jc v10 fun bN=>
Br bN (
∀UA:Jt,(∀sn yO:Value,∀fo:Hp,(∀T4:Fr,
ae .num .add jc (iv 1) fun cv=>
aC E9 Sz [sn,yO,cv] fo [lN,ri,jc] dN)→UA [sn,yO] fo)→
ae .num .shr a2 jc fun cE=>
ae .num .and cE (Value.int .u64 1) fun cL=>
ae .num .eql cL (Value.int .u64 0) fun cK=>
Br cK (
JE UA [lN,ri] dN) (
CF g 272 #[a0,lN,jc,a3] dN (fun cN qc=>
Ext 0 cN fun dy=>
Ext 1 cN fun dH=>
Ext 2 cN fun eO=>
CF g 247 #[dy,dH,eO] qc (fun eY qZ=>
Ext 0 eY fun dW=>
Ext 1 eY fun dO=>
∀yI:Jt,(∀mT:Hp,(∀T0:Fr,
ae .num .neq dO (iv 0) fun fe=>
Br fe (
R (.returned (.tuple #[(Value.int .u32 0),dO])) mT) (
JE UA [dW,(Value.bool true)] mT))→yI [] mT)→
Br ri (
CF g 131 #[a0,lN] qZ (fun gU oa=>
JE yI [] oa) (aq R)) (
JE yI [] qZ)) (aq R)) (aq R))) (
R (.returned (.tuple #[lN,(iv 0)])) dN)) (aq R)))) (aq R)
theorem Dw(h:L249 g a0 a1 a2 a3 H R):ai Tryz.prog g 249 #[a0,a1,a2,a3] H R:=
 ak (hn:=(hN 4 (.n (.n .e (.n (.h 0 [12,13,37] [0,2,3,36] (.n .e (.n .e (.h 1 [12,13] [0,2,3,36,37] (.n (hN 3 (.h 1 [] [0,2,3,15,16,36,37] .e .e)) .e) .e))) .e) .e)) .e))) Tryz.func249 h (by kernel_rfl)
variable {g:Gh} {a0 a1 a2 a3 a4 a5 a6 a7 a8 a9 sb r9 Yc Yb Ya X9:Value} {H:Hp} {R:Rt}
def L250(g:Gh)(a0:Value)(H:Hp)(R:Rt):Prop:=
CF g 273 #[a0] H (fun v1 H2=>
CF g 274 #[v1] H2 (fun v3 H4=>
R (.returned v1) H4) (aq R)) (aq R)
theorem Dv(h:L250 g a0 H R):ai Tryz.prog g 250 #[a0] H R:=
 ak (hn:=.e) Tryz.func250 h (by kernel_rfl)
def L251(g:Gh)(a0:Value)(H:Hp)(R:Rt):Prop:=
bn H (.cells (Value.cells a0) 266 (0,0)) fun b1 H2=>
R (.returned (.func (.func 275) #[] #[(pt b1)])) H2
theorem Du(h:L251 g a0 H R):ai Tryz.prog g 251 #[a0] H R:=
 ak (hn:=.e) Tryz.func251 h (by kernel_rfl)
def L252(g:Gh)(a0 a1:Value)(H:Hp)(R:Rt):Prop:=
bn H (.cells (Value.cells a1) 161 (0,0)) fun b1 H2=>
ae .ptr .eql a0 (.pointer none) fun v3=>
Br v3 (
R (.returned (.tuple #[(Value.int .u32 0),(iv 10)])) H2) (
aD 3 H2 (pt b1) fun v4=>
CF g 208 #[a0,v4] H2 (fun v5 H6=>
ae .num .neq v5 (iv 0) fun v7=>
Br v7 (
R (.returned (.tuple #[(Value.int .u32 0),v5])) H6) (
Nil a0 fun v8=>
aa 2 v8 fun v9=>
Ld H6 v9 fun v10=>
aO v10 fun v11=>
ae .num .gtr v11 (iv 0) fun bf=>
Br bf (
Nil a0 fun br=>
aa 2 br fun bp=>
Ld H6 bp fun bB=>
ae .num .sub v11 (iv 1) fun bI=>
ah 1 bB bI fun bL=>
Ld H6 bL fun cf=>
Nil a0 fun bN=>
aa 2 bN fun v20=>
Ld H6 v20 fun bS=>
ae .num .sub v11 (iv 1) fun ct=>
fc 1 bS none (some ct) fun bV=>
Nil a0 fun cB=>
aa 2 cB fun cv=>
St 1 H6 cv bV fun gp=>
DR gp fun Od=>
Nil a0 fun cK=>
aa 1 cK fun cN=>
Ld Od cN fun v30=>
aD 3 Od (pt b1) fun dy=>
Build Tryz.prog 291 [(0,dy),(1,(Value.bool true))] fun dH=>
ah 5 v30 cf fun eO=>
St 5 gp eO dH fun rN=>
Nil a0 fun eM=>
aa 3 eM fun dW=>
Ld rN dW fun dO=>
ae .num .add dO (iv 1) fun fX=>
Nil a0 fun gu=>
aa 3 gu fun gL=>
St 1 rN gL fX fun JV=>
R (.returned (.tuple #[cf,(iv 0)])) JV) (
Nil a0 fun gU=>
aa 1 gU fun fM=>
Ld H6 fM fun iM=>
aO iM fun gW=>
Nil a0 fun jd=>
aa 0 jd fun jU=>
Ld H6 jU fun kE=>
ae .num .geq gW kE fun kJ=>
Br kJ (
R (.returned (.tuple #[(Value.int .u32 0),(iv 9)])) H6) (
DR H6 fun Gy=>
Nil a0 fun jP=>
aa 1 jP fun lT=>
Ld Gy lT fun qs=>
aD 3 Gy (pt b1) fun xf=>
Build Tryz.prog 291 [(0,xf),(1,(Value.bool true))] fun oZ=>
au Tryz.prog 196 1 [(0,oZ)] H6 fun sr Jw=>
aU Jw Gy∧
App Tryz.prog 291 5 24 (.agg #[(iv 0),(Value.int .u32 0),(Value.int .u32 0),(Value.bool false),(Value.int .u8 0)]) Jw qs sr fun qp sj=>
aU sj Gy∧
Nil a0 fun uF=>
aa 1 uF fun qo=>
St 1 sj qo qp fun Fa=>
Nil a0 fun pe=>
aa 3 pe fun rR=>
Ld Fa rR fun uN=>
ae .num .add uN (iv 1) fun qn=>
Nil a0 fun qm=>
aa 3 qm fun rj=>
St 1 Fa rj qn fun ZB=>
Nil a0 fun rQ=>
aa 1 rQ fun yA=>
Ld ZB yA fun GU=>
aO GU fun rP=>
ae .num .sub rP (iv 1) fun Fp=>
aY .u32 Fp fun yz=>
R (.returned (.tuple #[yz,(iv 0)])) ZB)))) (aq R))
theorem Ds(h:L252 g a0 a1 H R):ai Tryz.prog g 252 #[a0,a1] H R:=
 ak (hn:=(hN 3 (.n (.n .e (.n .e (.n (.n .e (.n .e (.n (.h 0 [0,1,2,3,4,5,6,7,8] [] .e .e) .e))) .e))) (.n .e (.n (.h 0 [0,1,2,3,4,5,6,7,8,9,10,11] [] .e .e) .e))))) Tryz.func252 h (by kernel_rfl)
def L253(g:Gh)(a0 a1:Value)(H:Hp)(R:Rt):Prop:=
aY .i64 a1 fun v1=>
Nil a0 fun v2=>
aa 1 v2 fun v3=>
Ld H v3 fun v4=>
aO v4 fun v5=>
ae .num .lss v1 v5 fun v6=>
bX v6 true (fun t7=>
Nil a0 fun v8=>
aa 1 v8 fun v9=>
Ld H v9 fun v10=>
ah 5 v10 a1 fun v11=>
aa 3 v11 fun bf=>
Ld H bf fun br=>
(H=H∧br=Value.bool t7)) (fun t7=>(Value.bool false)=Value.bool t7) fun t7=>∀tG:Fr,
R (.returned (Value.bool t7)) H
theorem Dr(h:L253 g a0 a1 H R):ai Tryz.prog g 253 #[a0,a1] H R:=
 ak (hn:=(.n .e (.n (.h 0 [] [1] .e .e) .e))) Tryz.func253 h (by kernel_rfl)
def L254(g:Gh)(a0:Value)(H:Hp)(R:Rt):Prop:=
ae .num .shl (iv 1) a0 fun v1=>
ae .num .shr v1 (Value.int .u64 6) fun v2=>
Ny (iv 1) v2 fun v3=>
R (.returned v3) H
theorem Dq(h:L254 g a0 H R):ai Tryz.prog g 254 #[a0] H R:=
 ak (hn:=.e) Tryz.func254 h (by kernel_rfl)
def L255(g:Gh)(a0:Value)(H:Hp)(R:Rt):Prop:=
ae .num .geq a0 (iv 6) fun v1=>
Br v1 (
R (.returned (Value.int .u64 18446744073709551615)) H) (
ae .num .shl (Value.int .u64 1) a0 fun v2=>
ae .num .shl (Value.int .u64 1) v2 fun v3=>
ae .num .sub v3 (Value.int .u64 1) fun v4=>
R (.returned v4) H)
theorem Dp(h:L255 g a0 H R):ai Tryz.prog g 255 #[a0] H R:=
 ak (hn:=.e) Tryz.func255 h (by kernel_rfl)
def L256(g:Gh)(a0 a1 a2 a3:Value)(H:Hp)(R:Rt):Prop:=
Ld H a1 fun v1=>
ae .num .geq v1 (iv 6) fun v2=>
Br v2 (
Ld H a1 fun v3=>
ae .num .sub v3 (iv 6) fun v4=>
ae .num .shl (iv 1) v4 fun v5=>
ae .num .andNot a0 v5 fun v6=>
∀J7:Jt,(∀oY:Value,∀H9:Hp,(∀Mx:Fr,
aa 1 a3 fun v11=>
Ld H9 v11 fun bf=>
ah 1 bf oY fun br=>
Ld H9 br fun bp=>
R (.returned bp) H9)→J7 [oY] H9)→
Ld H a2 fun bB=>
Br bB (
Ld H a1 fun bI=>
ae .num .sub bI (iv 6) fun bL=>
ae .num .shl (iv 1) bL fun cf=>
ae .num .or v6 cf fun bN=>
JE J7 [bN] H) (
JE J7 [v6] H)) (
DR H fun A3=>
Ld A3 a1 fun bS=>
Ld A3 a1 fun ct=>
ae .num .shl (iv 1) ct fun bV=>
CF g 219 #[bS,(iv 0)] H (fun cB gf=>
aU gf A3∧
Ld gf a2 fun cE=>
Br cE (
aa 1 a3 fun cL=>
Ld gf cL fun cK=>
ah 1 cK a0 fun cN=>
Ld gf cN fun v30=>
ae .num .and v30 cB fun dy=>
ae .num .shr dy bV fun dH=>
ae .num .or dy dH fun eO=>
R (.returned eO) gf) (
aa 1 a3 fun eY=>
Ld gf eY fun eM=>
ah 1 eM a0 fun dW=>
Ld gf dW fun dO=>
ae .num .andNot dO cB fun fX=>
ae .num .shl fX bV fun gu=>
ae .num .or fX gu fun gL=>
R (.returned gL) gf)) bu)
theorem Dn(h:L256 g a0 a1 a2 a3 H R):ai Tryz.prog g 256 #[a0,a1,a2,a3] H R:=
 ak (hn:=(.n .e (.n (.n .e (.n (.n .e (.h 1 [6] [3] .e .e)) .e)) (.n (.h 0 [0,2,3,1,4,5] [] .e .e) .e)))) Tryz.func256 h (by kernel_rfl)
def L257(g:Gh)(a0 a1:Value)(H:Hp)(R:Rt):Prop:=
Nil a0 fun v1=>
aa 0 v1 fun v2=>
CF g 174 #[v2,a1] H (fun v3 H4=>
bn H4 (.cells #[(iv 0),(Value.int .u32 0),(Value.int .u32 0)] 161 (0,0)) fun b5 H6=>
St 3 H6 (pt b5) v3 fun H7=>
aa 0 (pt b5) fun v8=>
Ld H7 v8 fun v9=>
ae .num .geq v9 (iv 0) fun v10=>
Br v10 (
Nil a0 fun v11=>
aa 6 v11 fun bf=>
Ld H7 bf fun br=>
aa 0 (pt b5) fun bp=>
Ld H7 bp fun bB=>
ah 1 br bB fun bI=>
Ld H7 bI fun bL=>
R (.returned bL) H7) (
Nil a0 fun cf=>
aa 4 cf fun bN=>
Ld H7 bN fun v20=>
R (.returned v20) H7)) (aq R)
theorem Dm(h:L257 g a0 a1 H R):ai Tryz.prog g 257 #[a0,a1] H R:=
 ak (hn:=.e) Tryz.func257 h (by kernel_rfl)
def L262(g:Gh)(a0 a1 a2:Value)(H:Hp)(R:Rt):Prop:=
Ld H a0 fun v1=>
Ld H a1 fun v2=>
Ld H a2 fun v3=>
CF g 263 #[v1,v2,v3] H (fun v4 H5=>
Ext 0 v4 fun v6=>
Ext 1 v4 fun v7=>
St 1 H5 a1 v6 fun H8=>
St 1 H8 a2 v7 fun H9=>
R (.returned (.tuple #[])) H9) (aq R)
theorem AG(h:L262 g a0 a1 a2 H R):iD Tryz.prog g 262 #[a0,a1,a2] H R:=
 sY (hn:=.e) Tryz.func262 h (by kernel_rfl)
def L263(g:Gh)(a0 a1 a2:Value)(H:Hp)(R:Rt):Prop:=
ae .num .eql a1 (Value.int .u32 0) fun v1=>
bX v1 false (fun t2=>
ae .num .eql a1 (Value.int .u32 1) fun v3=>
(H=H∧v3=Value.bool t2)) (fun t2=>(Value.bool true)=Value.bool t2) fun t2=>∀My:Fr,
Nil a0 fun v5=>
aa 2 v5 fun v6=>
Ld H v6 fun v7=>
aO v7 fun v8=>
∃(I9:Jt) (SA:Mt),JE I9 [(Value.bool t2),(iv 0)] H∧∀qg sq:Value,∀dk:Hp,I9 [qg,sq] dk→∀PV:Fr,
ae .num .lss sq v8 fun bB=>
Br bB (
∀UB:Jt,(∀jE:Value,∀c6:Hp,(∀BX:Fr,
ae .num .add sq (iv 1) fun v20=>
aC I9 SA [jE,v20] c6 [qg,sq] dk)→UB [jE] c6)→
ah 1 v7 sq fun bS=>
Ld dk bS fun ct=>
ae .num .eql ct a1 fun bV=>
bX bV true (fun t24=>
Un .not qg fun cv=>
(dk=dk∧cv=Value.bool t24)) (fun t24=>(Value.bool false)=Value.bool t24) fun t24=>∀ac6:Fr,
bX (Value.bool t24) true (fun t27=>
ae .num .eql a2 (iv 0) fun cK=>
(dk=dk∧cK=Value.bool t27)) (fun t27=>(Value.bool false)=Value.bool t27) fun t27=>∀XV:Fr,
Br (Value.bool t27) (
JE UB [(Value.bool true)] dk) (
Nil a0 fun v30=>
aa 0 v30 fun dy=>
Ld dk dy fun dH=>
CF g 131 #[dH,ct] dk (fun eO rN=>
JE UB [qg] rN) (aq R))) (
Nil a0 fun eM=>
aa 2 eM fun dW=>
St 1 dk dW (.slice none 0 0) fun lQ=>
∀yI:Jt,(∀mT:Hp,(∀T0:Fr,
R (.returned (.tuple #[a1,(iv 0)])) mT)→yI [] mT)→
ae .num .neq a2 (iv 0) fun fe=>
Br fe (
R (.returned (.tuple #[(Value.int .u32 0),a2])) lQ) (
Un .not qg fun gU=>
Br gU (
R (.returned (.tuple #[(Value.int .u32 0),(iv 8)])) lQ) (
ae .num .eql a1 (Value.int .u32 0) fun fM=>
bX fM false (fun t44=>
ae .num .eql a1 (Value.int .u32 1) fun gW=>
(lQ=lQ∧gW=Value.bool t44)) (fun t44=>(Value.bool true)=Value.bool t44) fun t44=>∀ac2:Fr,
Br (Value.bool t44) (
Nil a0 fun jU=>
aa 0 jU fun kE=>
Ld lQ kE fun kJ=>
CF g 121 #[kJ,a1] lQ (fun lO Oj=>
JE yI [] Oj) (aq R)) (
JE yI [] lQ))))
theorem Dl(h:L263 g a0 a1 a2 H R):ai Tryz.prog g 263 #[a0,a1,a2] H R:=
 ak (hn:=(.n .e (.n (.h 0 [] [1] .e .e) (.n (.n .e (.n (.h 0 [8,22] [0,1,2,20,21] (.n .e (.n .e (.h 1 [8] [0,1,2,20,21,22] (.n (.n .e (.n (.n (.h 0 [] [1] .e .e) .e) .e)) .e) .e))) .e) .e)) (.n .e (.h 1 [] [1] (.n (hN 4 (.n (.h 0 [] [1] .e .e) .e)) .e) .e)))))) Tryz.func263 h (by kernel_rfl)
def L264(g:Gh)(a0 a1 a2 a3 a4:Value)(H:Hp)(R:Rt):Prop:=
bn H (.cells (Value.cells a0) 318 (0,0)) fun b1 H2=>
Ld H2 a1 fun v3=>
aD 3 H2 (pt b1) fun v4=>
jB Tryz.prog 318 (Value.int .u32 0) true H2 v3 v4 fun v5=>
Ext 0 v5 fun v6=>
Ext 1 v5 fun v7=>
Br v7 (
R (.returned (.tuple #[v6,(iv 0)])) H2) (
Ld H2 a2 fun v8=>
aD 3 H2 (pt b1) fun v9=>
CF g 265 #[v8,v9] H2 (fun v10 eu=>
Ld eu a2 fun bf=>
CF g 266 #[bf,v10] eu (fun br jN=>
ae .num .lss br (iv 0) fun bB=>
Br bB (
Ld jN a3 fun bI=>
ik 3 1 (pt b1) (iv 0) fun bL=>
Ld jN bL fun cf=>
ae .num .eql cf (Value.int .u32 1) fun bN=>
ik 3 1 (pt b1) (iv 1) fun v20=>
Ld jN v20 fun bS=>
ae .num .eql bS (Value.int .u32 1) fun ct=>
ik 3 1 (pt b1) (iv 2) fun bV=>
Ld jN bV fun cB=>
ae .num .eql cB (Value.int .u32 1) fun cv=>
cC Tryz.prog g bI #[bN,ct,cv] jN (fun cE jD=>
Br cE (
R (.returned (.tuple #[(Value.int .u32 1),(iv 0)])) jD) (
R (.returned (.tuple #[(Value.int .u32 0),(iv 0)])) jD)) (aq R)) (
DR jN fun Uq=>
aD 3 Uq (pt b1) fun cN=>
aD 3 Uq (pt b1) fun v30=>
bn jN (.cells #[(Value.int .u32 0),(Value.int .u32 0),(Value.int .u32 0)] 318 (0,0)) fun Cd q7=>
bn q7 (.cells #[(Value.int .u32 0),(Value.int .u32 0),(Value.int .u32 0)] 318 (0,0)) fun qV rN=>
∀F35:Hp,
St 3 rN (pt Cd) cN fun sM=>
aU sM Uq∧
∀F37:Hp,
St 3 sM (pt qV) v30 fun oU=>
aO v10 fun gu=>
∃(I40:Jt) (m41:Mt),JE I40 [(iv 0)] oU∧∀Kb:Value,∀oa:Hp,I40 [Kb] oa→∀ac3:Fr,
ae .num .lss Kb gu fun gW=>
Br gW (
∀Uz:Jt,(∀vz:Hp,(∀XT:Fr,
ae .num .add Kb (iv 1) fun kJ=>
aC I40 m41 [kJ] vz [Kb] oa)→Uz [] vz)→
ah 3 v10 Kb fun lO=>
aD 3 oa lO fun jP=>
bn oa (.cells #[(iv 0),(Value.int .u32 0),(Value.int .u32 0)] 161 (0,0)) fun Vt JT=>
St 3 JT (pt Vt) jP fun GG=>
aa 0 (pt Vt) fun oZ=>
Ld GG oZ fun sr=>
ae .num .eql sr br fun qq=>
Br qq (
DR GG fun R58=>
aa 1 (pt Vt) fun rT=>
Ld R58 rT fun qp=>
aa 2 (pt Vt) fun rS=>
Ld R58 rS fun uF=>
ik 3 1 (pt Cd) Kb fun qo=>
St 1 GG qo qp fun Fa=>
aU Fa R58∧
ik 3 1 (pt qV) Kb fun pe=>
St 1 Fa pe uF fun UL=>
JE Uz [] UL) (
JE Uz [] GG)) (
Ld oa a4 fun uN=>
aD 3 oa (pt Cd) fun qn=>
cC Tryz.prog g uN #[qn] oa (fun qm VH=>
Ext 0 qm fun xd=>
Ext 1 qm fun rQ=>
ae .num .neq rQ (iv 0) fun yA=>
Br yA (
R (.returned (.tuple #[(Value.int .u32 0),rQ])) VH) (
Ld VH a4 fun GU=>
aD 3 VH (pt qV) fun rP=>
cC Tryz.prog g GU #[rP] VH (fun Fp Jv=>
Ext 0 Fp fun uM=>
Ext 1 Fp fun wZ=>
ae .num .neq wZ (iv 0) fun JF=>
Br JF (
R (.returned (.tuple #[(Value.int .u32 0),wZ])) Jv) (
Ld Jv a2 fun Fo=>
CF g 267 #[Fo,br,xd,uM] Jv (fun wY Ju=>
Ext 0 wY fun AQ=>
Ext 1 wY fun vD=>
∀J86:Jt,(∀Zy:Hp,(∀aiJ:Fr,
R (.returned (.tuple #[AQ,vD])) Zy)→J86 [] Zy)→
ae .num .eql vD (iv 0) fun Fm=>
Br Fm (
Ld Ju a1 fun yP=>
aD 3 Ju (pt b1) fun uE=>
iE Tryz.prog 318 Ju yP uE AQ fun H92=>
JE J86 [] H92) (
JE J86 [] Ju)) (aq R))) (aq R))) (aq R)))) (aq R)) (aq R))
theorem uo(h:L264 g a0 a1 a2 a3 a4 H R):ai Tryz.prog g 264 #[a0,a1,a2,a3,a4] H R:=
 ak (hn:=(hN 5 (.n (.h 1 [] [] (hr 0 [] 0 2 (hr 1 [] 2 2 (hr 0 [] 2 4 .e))) .e) (.n (.n .e (.n (.h 0 [51] [1,2,4,5,11,12,13,49,50] (.n .e (.n .e (.h 1 [] [1,2,4,5,11,12,13,49,50,51] (.n (.n .e (.n .e (.n (.h 0 [0,1,2,3,4,5,6,7,8,9] [] .e .e) .e))) .e) .e))) .e) .e)) (hN 5 (.h 1 [] [17,19] .e .e)))))) Tryz.func264 h (by kernel_rfl)
def L265(g:Gh)(a0 a1:Value)(H:Hp)(R:Rt):Prop:=
bn H (.cells (Value.cells a1) 318 (0,0)) fun b1 H2=>
aD 3 H2 (pt b1) fun v3=>
∃(I4:Jt) (m5:Mt),JE I4 [(.slice none 0 0),(iv 0)] H2∧∀w8 w9:Value,∀H7:Hp,I4 [w8,w9] H7→∀Rz:Fr,
ae .num .lss w9 (iv 3) fun v10=>
Br v10 (
lg Tryz.prog g (fP Tryz.f265 4 0) (ev (fun s=>cond (Nat.beq s 10) v3 (cond (Nat.beq s 11) w9 (undef)))) H7 fun v11=>
Nil a0 fun bf=>
aa 0 bf fun br=>
Ld H7 br fun bp=>
CF g 97 #[bp,v11] H7 (fun bB fh=>
Ext 0 bB fun bL=>
Ext 1 bB fun cf=>
bn fh (.cells #[(iv 0),(Value.int .u32 0),(Value.int .u32 0)] 161 (0,0)) fun Gs jb=>
St 3 jb (pt Gs) bL fun fK=>
aD 3 fK (pt Gs) fun ct=>
au Tryz.prog 286 1 [(0,ct)] fK fun bV iL=>
App Tryz.prog 161 3 16 (.agg #[(iv 0),(Value.int .u32 0),(Value.int .u32 0)]) iL w8 bV fun cL rO=>
ae .num .add w9 (iv 1) fun cN=>
aC I4 m5 [cL,cN] rO [w8,w9] H7) (aq R)) (
R (.returned w8) H7)
theorem Dk(h:L265 g a0 a1 H R):ai Tryz.prog g 265 #[a0,a1] H R:=
 ak (hn:=(.n .e (.n .e (.n (.n .e (.n (.h 0 [5,11] [0,10] .e .e) .e)) .e)))) Tryz.func265 h (by kernel_rfl)
def L266(g:Gh)(a0 a1:Value)(H:Hp)(R:Rt):Prop:=
aO a1 fun v1=>
∃(I2:Jt) (m3:Mt),JE I2 [(iv (-1)),(iv 0)] H∧∀w6 w7:Value,∀H5:Hp,I2 [w6,w7] H5→∀My:Fr,
ae .num .lss w7 v1 fun v8=>
Br v8 (
∀J9:Jt,(∀gV:Value,∀eu:Hp,(∀vj:Fr,
ae .num .add w7 (iv 1) fun br=>
aC I2 m3 [gV,br] eu [w6,w7] H5)→J9 [gV] eu)→
ah 3 a1 w7 fun bp=>
aD 3 H5 bp fun bB=>
bn H5 (.cells #[(iv 0),(Value.int .u32 0),(Value.int .u32 0)] 161 (0,0)) fun k9 fp=>
St 3 fp (pt k9) bB fun c6=>
aa 0 (pt k9) fun bN=>
Ld c6 bN fun v20=>
ae .num .geq v20 (iv 0) fun bS=>
bX bS true (fun t22=>
ae .num .lss w6 (iv 0) fun bV=>
bX bV false (fun t24=>
Nil a0 fun cv=>
aa 1 cv fun cE=>
Ld c6 cE fun cL=>
aa 0 (pt k9) fun cK=>
Ld c6 cK fun cN=>
ah 1 cL cN fun v30=>
Ld c6 v30 fun dy=>
Nil a0 fun dH=>
aa 1 dH fun eO=>
Ld c6 eO fun eY=>
ah 1 eY w6 fun eM=>
Ld c6 eM fun dW=>
ae .num .lss dy dW fun dO=>
(c6=c6∧dO=Value.bool t24)) (fun t24=>(Value.bool true)=Value.bool t24) fun t24=>∀ai3:Fr,
(c6=c6∧(Value.bool t24)=Value.bool t22)) (fun t22=>(Value.bool false)=Value.bool t22) fun t22=>∀T0:Fr,
Br (Value.bool t22) (
aa 0 (pt k9) fun gL=>
Ld c6 gL fun fe=>
JE J9 [fe] c6) (
JE J9 [w6] c6)) (
R (.returned w6) H5)
theorem Dj(h:L266 g a0 a1 H R):ai Tryz.prog g 266 #[a0,a1] H R:=
 ak (hn:=(.n .e (.n .e (.n (.n .e (.n (.h 0 [5,10] [0,8,9] (.n .e (.n .e (.h 1 [5] [0,8,9,10] .e .e))) .e) .e)) .e)))) Tryz.func266 h (by kernel_rfl)
def L267(g:Gh)(a0 a1 a2 a3:Value)(H:Hp)(R:Rt):Prop:=
ae .num .eql a2 a3 fun v1=>
Br v1 (
R (.returned (.tuple #[a2,(iv 0)])) H) (
Nil a0 fun v2=>
aa 0 v2 fun v3=>
Ld H v3 fun v4=>
CF g 164 #[v4,a1,a2,a3] H (fun v5 H6=>
Ext 0 v5 fun v7=>
Ext 1 v5 fun v8=>
∀J9:Jt,(∀eu:Hp,(∀vj:Fr,
R (.returned (.tuple #[(Value.int .u32 0),v8])) eu)→J9 [] eu)→
ae .num .eql v8 (iv 0) fun bf=>
Br bf (
Nil a0 fun br=>
aa 2 br fun bp=>
Ld H6 bp fun bB=>
au Tryz.prog 27 1 [(0,v7)] H6 fun bI fp=>
App Tryz.prog 77 1 4 (Value.int .u32 0) fp bB bI fun v20 fK=>
Nil a0 fun ct=>
aa 2 ct fun bV=>
St 1 fK bV v20 fun iL=>
R (.returned (.tuple #[v7,(iv 0)])) iL) (
ae .num .eql v8 (iv 8) fun cv=>
Br cv (
Nil a0 fun cE=>
aa 0 cE fun cL=>
Ld H6 cL fun cK=>
CF g 276 #[cK,a1,a2,a3] H6 (fun cN qc=>
Ext 0 cN fun dy=>
Ext 1 cN fun dH=>
Br dH (
R (.returned (.tuple #[dy,(iv 0)])) qc) (
JE J9 [] qc)) (aq R)) (
JE J9 [] H6))) (aq R))
theorem um(h:L267 g a0 a1 a2 a3 H R):ai Tryz.prog g 267 #[a0,a1,a2,a3] H R:=
 ak (hn:=(hN 3 (.h 1 [] [11] .e .e))) Tryz.func267 h (by kernel_rfl)
def L268(g:Gh)(a0 a1:Value)(H:Hp)(R:Rt):Prop:=
bn H (.cells (Value.cells a0) 26 (0,0)) fun b1 H2=>
Ld H2 (pt b1) fun v3=>
n7 H2 fun v4 H5=>
Build Tryz.prog 350 [(0,v3),(1,v4)] fun v6=>
bn H5 (.cells (Value.cells v6) 350 (0,0)) fun b7 H8=>
bn H8 (.cells #[(.pointer none)] 344 (0,0)) fun b9 dc=>
St 1 dc (pt b9) (pt b7) fun eu=>
Ld eu (pt b1) fun bf=>
CF g 121 #[bf,(Value.int .u32 1)] eu (fun br jN=>
Ld jN (pt b9) fun bB=>
cC Tryz.prog g a1 #[bB] jN (fun bI fp=>
Ld fp (pt b9) fun cf=>
Nil cf fun bN=>
aa 2 bN fun v20=>
Ld fp v20 fun bS=>
ae .num .neq bS (iv 0) fun ct=>
Br ct (
Ld fp (pt b9) fun bV=>
Nil bV fun cB=>
aa 2 cB fun cv=>
Ld fp cv fun cE=>
jj Tryz.prog g 277 #[(pt b9),(pt b1)] fp fun jD=>
R (.returned (.tuple #[(Value.int .u32 0),(Value.bool false),cE])) jD) (
Ld fp (pt b9) fun cK=>
Nil cK fun cN=>
aa 1 cN fun v30=>
Ld fp v30 fun dy=>
oS (.int .u32) (iv 0) false fp dy bI fun dH=>
ae .num .gtr dH (iv 0) fun eO=>
Br eO (
Ld fp (pt b9) fun eY=>
Nil eY fun eM=>
aa 1 eM fun dW=>
Ld fp dW fun dO=>
oR (.int .u32) fp dO bI fun mT=>
jj Tryz.prog g 277 #[(pt b9),(pt b1)] mT fun JV=>
R (.returned (.tuple #[bI,(Value.bool true),(iv 0)])) JV) (
Ld fp (pt b1) fun gU=>
CF g 121 #[gU,bI] fp (fun fM GH=>
ae .num .eql fM (iv 0) fun gW=>
jj Tryz.prog g 277 #[(pt b9),(pt b1)] GH fun yJ=>
R (.returned (.tuple #[bI,gW,(iv 0)])) yJ) uL))) uL) uL
theorem Di(h:L268 g a0 a1 H R):ai Tryz.prog g 268 #[a0,a1] H R:=
 sX (hn:=(hN 4 .e)) Tryz.func268 h (by kernel_rfl)
def L269(g:Gh)(a0 a1 a2 a3:Value)(H:Hp)(R:Rt):Prop:=
Ld H a1 fun v1=>
Ld H a2 fun v2=>
CF g 270 #[a0,v1,v2,(.func (.func 271) #[] #[a3])] H (fun v3 H4=>
R (.returned v3) H4) (aq R)
theorem Dh(h:L269 g a0 a1 a2 a3 H R):ai Tryz.prog g 269 #[a0,a1,a2,a3] H R:=
 ak (hn:=.e) Tryz.func269 h (by kernel_rfl)
def L270(g:Gh)(a0 a1 a2 a3:Value)(H:Hp)(R:Rt):Prop:=
bn H (.cells (Value.cells a0) 344 (0,0)) fun b1 H2=>
bn H2 (.cells (Value.cells a3) 289 (0,0)) fun b3 H4=>
Ld H4 (pt b1) fun v5=>
Nil v5 fun v6=>
aa 0 v6 fun v7=>
Ld H4 v7 fun v8=>
CF g 46 #[v8,a2] H4 (fun v9 dc=>
Ext 0 v9 fun v11=>
Ext 1 v9 fun bf=>
bn dc (.cells #[(iv 0)] 3 (0,0)) fun fZ jN=>
St 1 jN (pt fZ) v11 fun dN=>
n7 dN fun bI fp=>
bn fp (.cells #[(.map none)] 351 (0,0)) fun oO lR=>
St 1 lR (pt oO) bI fun jb=>
bn jb (.cells #[.nilFunc] 352 (0,0)) fun qW fo=>
St 1 fo (pt qW) (.func (.func 278) #[] #[(pt b1),(pt fZ),(pt oO),(pt b3),(pt qW)]) fun jS=>
Ld jS (pt qW) fun cB=>
cC Tryz.prog g cB #[a1] jS (fun cv gp=>
R (.returned cv) gp) (aq R)) (aq R)
theorem Dg(h:L270 g a0 a1 a2 a3 H R):ai Tryz.prog g 270 #[a0,a1,a2,a3] H R:=
 ak (hn:=.e) Tryz.func270 h (by kernel_rfl)
def L271(g:Gh)(a0 a1:Value)(H:Hp)(R:Rt):Prop:=
bn H (.cells (Value.cells a0) 161 (0,0)) fun b1 H2=>
Ld H2 a1 fun v3=>
Br v3 (
aa 2 (pt b1) fun v4=>
Ld H2 v4 fun v5=>
R (.returned v5) H2) (
aa 1 (pt b1) fun v6=>
Ld H2 v6 fun v7=>
R (.returned v7) H2)
theorem Df(h:L271 g a0 a1 H R):ai Tryz.prog g 271 #[a0,a1] H R:=
 ak (hn:=.e) Tryz.func271 h (by kernel_rfl)
def L272(g:Gh)(a0 a1 a2 a3:Value)(H:Hp)(R:Rt):Prop:=
bn H (.cells (Value.cells a1) 77 (0,0)) fun b1 H2=>
bn H2 (.cells (Value.cells a2) 3 (0,0)) fun b3 H4=>
bn H4 (.cells (Value.cells a3) 4 (0,0)) fun b5 H6=>
CF g 268 #[a0,(.func (.func 281) #[] #[(pt b1),(pt b3),(pt b5)])] H6 (fun v7 H8=>
Ext 0 v7 fun v9=>
Ext 1 v7 fun v10=>
Ext 2 v7 fun v11=>
R (.returned (.tuple #[v9,v10,v11])) H8) (aq R)
theorem De(h:L272 g a0 a1 a2 a3 H R):ai Tryz.prog g 272 #[a0,a1,a2,a3] H R:=
 ak (hn:=.e) Tryz.func272 h (by kernel_rfl)
def L273(g:Gh)(a0:Value)(H:Hp)(R:Rt):Prop:=
CF g 284 #[(.slice none 0 0),a0] H (fun v1 H2=>
R (.returned v1) H2) (aq R)
theorem Dd(h:L273 g a0 H R):ai Tryz.prog g 273 #[a0] H R:=
 ak (hn:=.e) Tryz.func273 h (by kernel_rfl)
def L274(g:Gh)(a0:Value)(H:Hp)(R:Rt):Prop:=
aO a0 fun v1=>
aY .u64 v1 fun v2=>
CF g 286 #[v2] H (fun v3 H4=>
CF g 285 #[a0,(iv 0),v1,v3] H4 (fun v5 H6=>
R (.returned (.tuple #[])) H6) (aq R)) (aq R)
theorem Dc(h:L274 g a0 H R):ai Tryz.prog g 274 #[a0] H R:=
 ak (hn:=.e) Tryz.func274 h (by kernel_rfl)
def L277(g:Gh)(a0 a1:Value)(H:Hp)(R:Rt):Prop:=
Ld H a0 fun v1=>
Nil v1 fun v2=>
aa 1 v2 fun v3=>
Ld H v3 fun v4=>
Vu H v4 fun v5 H6=>
∃(I7:Jt) (m8:Mt),JE I7 [] H6∧∀dc:Hp,I7 [] dc→∀TY:Fr,
Uu dc v5 fun v11 dk=>
Ext 0 v11 fun br=>
Br br (
JA dk v5 fun bp=>
Ext 0 bp fun bB=>
Ld dk a1 fun bI=>
CF g 131 #[bI,bB] dk (fun bL c6=>
aC I7 m8 [] c6 [] dc) (aq R)) (
R (.returned (.tuple #[])) dk)
theorem AE(h:L277 g a0 a1 H R):iD Tryz.prog g 277 #[a0,a1] H R:=
 sY (hn:=(.n .e (.n (.h 0 [] [1,7] .e .e) .e))) Tryz.func277 h (by kernel_rfl)
def L278(g:Gh)(a0 a1 a2 a3 a4 a5:Value)(H:Hp)(R:Rt):Prop:=
Ld H a1 fun v1=>
CF g 279 #[v1,a0] H (fun v2 H3=>
Ext 0 v2 fun v4=>
Ext 1 v2 fun v5=>
bn H3 (.cells #[(iv 0),(Value.int .u32 0),(Value.int .u32 0)] 161 (0,0)) fun b6 H7=>
St 3 H7 (pt b6) v4 fun H8=>
Ld H8 a2 fun v9=>
ae .num .gtr v5 v9 fun v10=>
bX v10 false (fun t11=>
Ld H8 a1 fun bf=>
Nil bf fun br=>
aa 2 br fun bp=>
Ld H8 bp fun bB=>
ae .num .neq bB (iv 0) fun bI=>
(H8=H8∧bI=Value.bool t11)) (fun t11=>(Value.bool true)=Value.bool t11) fun t11=>∀BX:Fr,
Br (Value.bool t11) (
R (.returned a0) H8) (
Ld H8 a3 fun cf=>
oS (.int .u32) (Value.int .u32 0) true H8 cf a0 fun bN=>
Ext 0 bN fun v20=>
Ext 1 bN fun bS=>
Br bS (
R (.returned v20) H8) (
∀J22:Jt,(∀uD:Value,∀iL:Hp,(∀XX:Fr,
Ld iL a3 fun cE=>
gF (.int .u32) iL cE a0 uD fun jD=>
R (.returned uD) jD)→J22 [uD] iL)→
Ld H8 a2 fun cK=>
ae .num .eql v5 cK fun cN=>
Br cN (
Ld H8 a4 fun v30=>
aD 3 H8 (pt b6) fun dy=>
cC Tryz.prog g v30 #[dy] H8 (fun dH lj=>
JE J22 [dH] lj) (aq R)) (
Ld H8 a5 fun eY=>
aa 1 (pt b6) fun eM=>
Ld H8 eM fun dW=>
cC Tryz.prog g eY #[dW] H8 (fun dO oU=>
DR oU fun IL=>
Ld IL a1 fun gL=>
aa 0 (pt b6) fun fe=>
Ld IL fe fun gU=>
Ld IL a5 fun fM=>
aa 2 (pt b6) fun iM=>
Ld IL iM fun gW=>
cC Tryz.prog g fM #[gW] oU (fun jd JU=>
aU JU IL∧
CF g 280 #[gL,gU,dO,jd] JU (fun kE sk=>
aU sk IL∧
JE J22 [kE] sk) bu) bu) (aq R))))) (aq R)
theorem Db(h:L278 g a0 a1 a2 a3 a4 a5 H R):ai Tryz.prog g 278 #[a0,a1,a2,a3,a4,a5] H R:=
 ak (hn:=(.n .e (.n .e (.n (.n (.h 0 [] [1] .e .e) .e) (.n .e (.n .e (.h 1 [12] [0,3] (hN 3 (.h 0 [0,1,2,3,4,5,6,7,8,9] [] .e .e)) .e))))))) Tryz.func278 h (by kernel_rfl)
def L279(g:Gh)(a0 a1:Value)(H:Hp)(R:Rt):Prop:=
bn H (.cells #[(iv 0),(Value.int .u32 0),(Value.int .u32 0)] 161 (0,0)) fun b1 H2=>
Nil a0 fun v3=>
aa 0 v3 fun v4=>
Ld H2 v4 fun v5=>
CF g 97 #[v5,a1] H2 (fun v6 H7=>
Ext 0 v6 fun v8=>
Ext 1 v6 fun v9=>
bn H7 (.cells #[(iv 0),(Value.int .u32 0),(Value.int .u32 0)] 161 (0,0)) fun yg eu=>
St 3 eu (pt yg) v8 fun dk=>
DR dk fun Ut=>
aD 3 Ut (pt yg) fun bp=>
aD 3 Ut (pt yg) fun bB=>
CF g 287 #[a0,bB] dk (fun bI fp=>
aU fp Ut∧
St 3 fp (pt b1) bp fun c6=>
aU c6 Ut∧
aD 3 c6 (pt b1) fun bN=>
R (.returned (.tuple #[bN,bI])) c6) bu) (aq R)
theorem Da(h:L279 g a0 a1 H R):ai Tryz.prog g 279 #[a0,a1] H R:=
 ak (hn:=(.n .e (.n .e (.n (.h 0 [0,1,2,3,4,5] [] .e .e) .e)))) Tryz.func279 h (by kernel_rfl)
def L280(g:Gh)(a0 a1 a2 a3:Value)(H:Hp)(R:Rt):Prop:=
Nil a0 fun v1=>
aa 2 v1 fun v2=>
Ld H v2 fun v3=>
ae .num .neq v3 (iv 0) fun v4=>
Br v4 (
R (.returned (Value.int .u32 0)) H) (
Nil a0 fun v5=>
aa 0 v5 fun v6=>
Ld H v6 fun v7=>
CF g 164 #[v7,a1,a2,a3] H (fun v8 H9=>
Ext 0 v8 fun v10=>
Ext 1 v8 fun v11=>
∀YH:Jt,(∀Ke:Value,∀jN:Hp,(∀ac7:Fr,
R (.returned Ke) jN)→YH [Ke] jN)→
ae .num .eql v11 (iv 8) fun bI=>
Br bI (
Nil a0 fun bL=>
aa 0 bL fun cf=>
Ld H9 cf fun bN=>
CF g 276 #[bN,a1,a2,a3] H9 (fun v20 fK=>
Ext 0 v20 fun ct=>
Ext 1 v20 fun bV=>
JE YH [ct] fK) (aq R)) (
ae .num .neq v11 (iv 0) fun cB=>
Br cB (
Nil a0 fun cv=>
aa 2 cv fun cE=>
St 1 H9 cE v11 fun jD=>
JE YH [v10] jD) (
ae .num .leq v10 (Value.int .u32 1) fun cK=>
bX cK false (fun t29=>
Nil a0 fun v30=>
aa 1 v30 fun dy=>
Ld H9 dy fun dH=>
oS (.int .u32) (iv 0) false H9 dH v10 fun eO=>
ae .num .gtr eO (iv 0) fun eY=>
(H9=H9∧eY=Value.bool t29)) (fun t29=>(Value.bool true)=Value.bool t29) fun t29=>∀XU:Fr,
Br (Value.bool t29) (
Nil a0 fun dW=>
aa 0 dW fun dO=>
Ld H9 dO fun fX=>
CF g 131 #[fX,v10] H9 (fun gu mT=>
JE YH [v10] mT) (aq R)) (
Nil a0 fun fe=>
aa 1 fe fun gU=>
Ld H9 gU fun fM=>
gF (.int .u32) H9 fM v10 (iv 1) fun GH=>
JE YH [v10] GH)))) (aq R))
theorem uk(h:L280 g a0 a1 a2 a3 H R):ai Tryz.prog g 280 #[a0,a1,a2,a3] H R:=
 ak (hn:=(hN 3 (.h 1 [9] [] (.n (hN 4 (.n (.h 0 [] [1] .e .e) .e)) .e) .e))) Tryz.func280 h (by kernel_rfl)
def L281(g:Gh)(a0 a1 a2 a3:Value)(H:Hp)(R:Rt):Prop:=
bn H (.cells (Value.cells a0) 344 (0,0)) fun b1 H2=>
Ld H2 (pt b1) fun v3=>
Ld H2 a1 fun v4=>
Ld H2 a2 fun v5=>
CF g 270 #[v3,v4,v5,(.func (.func 282) #[] #[(pt b1),a3])] H2 (fun v6 H7=>
R (.returned v6) H7) (aq R)
theorem C9(h:L281 g a0 a1 a2 a3 H R):ai Tryz.prog g 281 #[a0,a1,a2,a3] H R:=
 ak (hn:=.e) Tryz.func281 h (by kernel_rfl)
def L282(g:Gh)(a0 a1 a2:Value)(H:Hp)(R:Rt):Prop:=
bn H (.cells (Value.cells a0) 161 (0,0)) fun b1 H2=>
Ld H2 a1 fun v3=>
aa 1 (pt b1) fun v4=>
Ld H2 v4 fun v5=>
aa 2 (pt b1) fun v6=>
Ld H2 v6 fun v7=>
Ld H2 a2 fun v8=>
CF g 283 #[v3,v5,v7,v8] H2 (fun v9 dc=>
R (.returned v9) dc) (aq R)
theorem C7(h:L282 g a0 a1 a2 H R):ai Tryz.prog g 282 #[a0,a1,a2] H R:=
 ak (hn:=.e) Tryz.func282 h (by kernel_rfl)
def L283(g:Gh)(a0 a1 a2 a3:Value)(H:Hp)(R:Rt):Prop:=
bn H (.cells (Value.cells a0) 344 (0,0)) fun b1 H2=>
bn H2 (.cells #[(Value.int .u32 0)] 77 (0,0)) fun b3 H4=>
bn H4 (.cells #[(Value.int .u32 0)] 77 (0,0)) fun b5 H6=>
St 1 H6 (pt b3) (Value.int .u32 0) fun H7=>
St 1 H7 (pt b5) (Value.int .u32 1) fun H8=>
∀J9:Jt,(∀eu:Hp,(∀vj:Fr,
n7 eu fun bf ej=>
bn ej (.cells #[(.map none)] 360 (0,0)) fun lD dN=>
St 1 dN (pt lD) bf fun fh=>
bn fh (.cells #[.nilFunc] 361 (0,0)) fun nP c6=>
St 1 c6 (pt nP) (.func (.func 288) #[] #[(pt b3),(pt b5),(pt b1),(pt lD),(pt nP)]) fun lR=>
Ld lR (pt nP) fun v20=>
cC Tryz.prog g v20 #[a1,a2] lR (fun bS fo=>
R (.returned bS) fo) (aq R))→J9 [] eu)→
Br a3 (
St 1 H8 (pt b3) (Value.int .u32 1) fun jS=>
St 1 jS (pt b5) (Value.int .u32 0) fun iL=>
JE J9 [] iL) (
JE J9 [] H8)
theorem CZ(h:L283 g a0 a1 a2 a3 H R):ai Tryz.prog g 283 #[a0,a1,a2,a3] H R:=
 ak (hn:=(.n .e (.n .e (.h 1 [] [1,2,4,9,10] .e .e)))) Tryz.func283 h (by kernel_rfl)
def L285(g:Gh)(a0 a1 a2 a3:Value)(H:Hp)(R:Rt):Prop:=
∃(I1:Jt) (m2:Mt),JE I1 [a1,a2,a3,(Value.bool true),(Value.bool true)] H∧∀w5 w6 w7 w8 w9:Value,∀H4:Hp,I1 [w5,w6,w7,w8,w9] H4→∀RA:Fr,
ae .num .sub w6 w5 fun v10=>
ae .num .leq v10 (iv 12) fun v11=>
Br v11 (
CF g 289 #[a0,w5,w6] H4 (fun bf ej=>
R (.returned (.tuple #[])) ej) (aq R)) (
ae .num .eql w7 (iv 0) fun bp=>
Br bp (
CF g 290 #[a0,w5,w6] H4 (fun bB fh=>
R (.returned (.tuple #[])) fh) (aq R)) (
∀yo:Jt,(∀oX:Value,∀lR:Hp,(∀T6:Fr,
CF g 292 #[a0,w5,w6] lR (fun bS fo=>
Ext 0 bS fun bV=>
Ext 1 bS fun cB=>
∀YF:Jt,(∀YT w29:Value,∀jD:Hp,(∀ac6:Fr,
∀YD:Jt,(∀q7:Hp,(∀ai6:Fr,
∀JS:Jt,(∀VL:Value,∀qZ:Hp,(∀ac4:Fr,
Br VL (
CF g 296 #[a0,w5,w6,YT] qZ (fun dO oU=>
aC I1 m2 [dO,w6,oX,w8,w9] oU [w5,w6,w7,w8,w9] H4) (aq R)) (
CF g 297 #[a0,w5,w6,YT] qZ (fun gu mT=>
Ext 0 gu fun fe=>
Ext 1 gu fun gU=>
ae .num .sub fe w5 fun fM=>
ae .num .sub w6 fe fun iM=>
ae .num .quo v10 (iv 8) fun gW=>
ae .num .lss fM iM fun jd=>
Br jd (
ae .num .geq fM gW fun jU=>
CF g 285 #[a0,w5,fe,oX] mT (fun kE sk=>
ae .num .add fe (iv 1) fun lO=>
aC I1 m2 [lO,w6,oX,jU,gU] sk [w5,w6,w7,w8,w9] H4) (aq R)) (
ae .num .geq iM gW fun jP=>
ae .num .add fe (iv 1) fun lT=>
CF g 285 #[a0,lT,w6,oX] mT (fun qs GG=>
aC I1 m2 [w5,fe,oX,jP,gU] GG [w5,w6,w7,w8,w9] H4) (aq R))) (aq R)))→JS [VL] qZ)→
DR q7 fun R55=>
ae .num .gtr w5 (iv 0) fun sr=>
Br sr (
ae .num .sub w5 (iv 1) fun qq=>
ah 1 a0 qq fun sQ=>
Ld R55 sQ fun rT=>
ah 1 a0 YT fun qp=>
Ld R55 qp fun rS=>
∀F62:Hp,
CF (g.add F62) 295 #[rT,rS] q7 (fun qo Fa=>
Un .not qo fun pe=>
az (Value.bool true) pe (Value.bool false) fun rR=>
JE JS [rR] Fa) bu) (
JE JS [(Value.bool false)] q7))→YD [] q7)→
bX w8 true (fun t67=>
(jD=jD∧w9=Value.bool t67)) (fun t67=>(Value.bool false)=Value.bool t67) fun t67=>∀aiS:Fr,
bX (Value.bool t67) true (fun t69=>
ae .num .eql w29 (iv 1) fun rj=>
(jD=jD∧rj=Value.bool t69)) (fun t69=>(Value.bool false)=Value.bool t69) fun t69=>∀XR:Fr,
Br (Value.bool t69) (
CF g 294 #[a0,w5,w6] jD (fun rQ wV=>
Br rQ (
R (.returned (.tuple #[])) wV) (
JE YD [] wV)) (aq R)) (
JE YD [] jD))→YF [YT,w29] jD)→
ae .num .eql cB (iv 2) fun GU=>
Br GU (
CF g 293 #[a0,w5,w6] fo (fun rP nR=>
ae .num .sub w6 (iv 1) fun yz=>
ae .num .sub bV w5 fun uM=>
ae .num .sub yz uM fun wZ=>
JE YF [wZ,(iv 1)] nR) (aq R)) (
JE YF [bV,cB] fo)) (aq R))→yo [oX] lR)→
Un .not w8 fun JF=>
Br JF (
CF g 291 #[a0,w5,w6] H4 (fun Fo Qz=>
ae .num .sub w7 (iv 1) fun GS=>
JE yo [GS] Qz) (aq R)) (
JE yo [w7] H4)))
theorem uj(h:L285 g a0 a1 a2 a3 H R):ai Tryz.prog g 285 #[a0,a1,a2,a3] H R:=
 ak (hn:=(.n .e (.n .e (.n (.h 0 [1,2,3,8,9] [0] (.n (hN 3 (.h 1 [3] [0,1,2,8,9,10] .e (.n .e (.h 1 [11,12] [0,1,2,3,8,9,10] .e (.h 1 [] [0,1,2,3,8,9,10,11] (.n (.h 0 [] [1] .e .e) .e) (.n (.h 1 [87] [0,1,2,3,8,9,10,11] (.h 1 [] [] (hr 0 [] 0 2 (.h 2 [2] [] (hr 0 [] 3 12 .e) (hr 0 [] 3 11 (.h 3 [14] [] .e .e)))) .e) .e) .e)))))) .e) .e) .e)))) Tryz.func285 h (by kernel_rfl)
def L286(g:Gh)(a0:Value)(H:Hp)(R:Rt):Prop:=
Br (Value.bool false) (
aY .u32 a0 fun v1=>
CF g 298 #[v1] H (fun v2 H3=>
R (.returned v2) H3) (aq R)) (
CF g 75 #[a0] H (fun v4 H5=>
R (.returned v4) H5) (aq R))
theorem CY(h:L286 g a0 H R):ai Tryz.prog g 286 #[a0] H R:=
 ak (hn:=.e) Tryz.func286 h (by kernel_rfl)
def L287(g:Gh)(a0 a1:Value)(H:Hp)(R:Rt):Prop:=
bn H (.cells (Value.cells a1) 161 (0,0)) fun b1 H2=>
aa 0 (pt b1) fun v3=>
Ld H2 v3 fun v4=>
ae .num .lss v4 (iv 0) fun v5=>
Br v5 (
Nil a0 fun v6=>
aa 0 v6 fun v7=>
Ld H2 v7 fun v8=>
CF g 61 #[v8] H2 (fun v9 dc=>
R (.returned v9) dc) (aq R)) (
DR H2 fun Vy=>
Nil a0 fun bf=>
aa 0 bf fun br=>
Ld Vy br fun bp=>
aa 0 (pt b1) fun bB=>
Ld Vy bB fun bI=>
CF g 46 #[bp,bI] H2 (fun bL c6=>
aU c6 Vy∧
Ext 0 bL fun bN=>
Ext 1 bL fun v20=>
R (.returned bN) c6) bu)
theorem CX(h:L287 g a0 a1 H R):ai Tryz.prog g 287 #[a0,a1] H R:=
 ak (hn:=(.n .e (.n .e (.n (.h 0 [0,1,2,3,4,5,6,7,8,9,10,11] [] .e .e) .e)))) Tryz.func287 h (by kernel_rfl)
def L288(g:Gh)(a0 a1 a2 a3 a4 a5 a6:Value)(H:Hp)(R:Rt):Prop:=
Ld H a2 fun v1=>
ae .num .eql a0 v1 fun v2=>
bX v2 false (fun t3=>
Ld H a2 fun v4=>
ae .num .eql a1 v4 fun v5=>
(H=H∧v5=Value.bool t3)) (fun t3=>(Value.bool true)=Value.bool t3) fun t3=>∀Rz:Fr,
Br (Value.bool t3) (
Ld H a2 fun v7=>
R (.returned v7) H) (
Ld H a3 fun v8=>
ae .num .eql a0 v8 fun v9=>
bX v9 false (fun t10=>
ae .num .eql a0 a1 fun v11=>
(H=H∧v11=Value.bool t10)) (fun t10=>(Value.bool true)=Value.bool t10) fun t10=>∀PU:Fr,
Br (Value.bool t10) (
R (.returned a1) H) (
Ld H a3 fun br=>
ae .num .eql a1 br fun bp=>
Br bp (
R (.returned a0) H) (
Ld H a4 fun bB=>
Nil bB fun bI=>
aa 2 bI fun bL=>
Ld H bL fun cf=>
ae .num .neq cf (iv 0) fun bN=>
Br bN (
R (.returned (Value.int .u32 0)) H) (
Qw a0 a1 fun v20=>
Ny a0 a1 fun bS=>
Build Tryz.prog 363 [(0,v20),(1,bS)] fun ct=>
bn H (.cells #[(Value.int .u32 0),(Value.int .u32 0)] 363 (0,0)) fun Gr iL=>
St 2 iL (pt Gr) ct fun gf=>
Ld gf a5 fun cE=>
aD 2 gf (pt Gr) fun cL=>
jB Tryz.prog 363 (Value.int .u32 0) true gf cE cL fun cK=>
Ext 0 cK fun cN=>
Ext 1 cK fun v30=>
Br v30 (
R (.returned cN) gf) (
Ld gf a4 fun dy=>
CF g 279 #[dy,a0] gf (fun dH lj=>
Ext 0 dH fun eY=>
Ext 1 dH fun eM=>
bn lj (.cells #[(iv 0),(Value.int .u32 0),(Value.int .u32 0)] 161 (0,0)) fun IE lQ=>
St 3 lQ (pt IE) eY fun oU=>
Ld oU a4 fun gu=>
CF g 279 #[gu,a1] oU (fun gL JV=>
Ext 0 gL fun gU=>
Ext 1 gL fun fM=>
bn JV (.cells #[(iv 0),(Value.int .u32 0),(Value.int .u32 0)] 161 (0,0)) fun ID Jy=>
St 3 Jy (pt ID) gU fun yJ=>
aa 0 (pt IE) fun jU=>
Ld yJ jU fun kE=>
∀Yz:Jt,(∀w52:Value,∀Oj:Hp,(∀aiZ:Fr,
∀Yy:Jt,(∀QA:Hp,(∀aiW:Fr,
∀Yx:Jt,(∀sL:Hp,(∀aiU:Fr,
Ld sL a6 fun rT=>
aa 1 (pt IE) fun qp=>
Ld sL qp fun rS=>
aa 1 (pt ID) fun uF=>
Ld sL uF fun qo=>
cC Tryz.prog g rT #[rS,qo] sL (fun xe H65=>
DR H65 fun Vv=>
Ld Vv a4 fun uN=>
Ld Vv a6 fun qn=>
aa 2 (pt IE) fun qm=>
Ld Vv qm fun rj=>
aa 2 (pt ID) fun xd=>
Ld Vv xd fun rQ=>
cC Tryz.prog g qn #[rj,rQ] H65 (fun yA RI=>
aU RI Vv∧
CF g 280 #[uN,w52,xe,yA] RI (fun rP nR=>
aU nR Vv∧
Ld nR a5 fun yz=>
aD 2 nR (pt Gr) fun uM=>
iE Tryz.prog 363 nR yz uM rP fun H79=>
R (.returned rP) H79) bu) bu) (aq R))→Yx [] sL)→
ae .num .gtr fM eM fun JF=>
Br JF (
aa 1 (pt ID) fun Fo=>
St 1 QA Fo a1 fun Qz=>
aa 2 (pt ID) fun GS=>
St 1 Qz GS a1 fun H84=>
JE Yx [] H84) (
JE Yx [] QA))→Yy [] QA)→
ae .num .gtr eM fM fun vD=>
Br vD (
aa 1 (pt IE) fun GR=>
St 1 Oj GR a0 fun Oh=>
aa 2 (pt IE) fun AP=>
St 1 Oh AP a0 fun H89=>
JE Yy [] H89) (
JE Yy [] Oj))→Yz [w52] Oj)→
ae .num .lss fM eM fun yP=>
Br yP (
aa 0 (pt ID) fun uE=>
Ld yJ uE fun Ba=>
JE Yz [Ba] yJ) (
JE Yz [kE] yJ)) (aq R)) (aq R))))))
theorem CW(h:L288 g a0 a1 a2 a3 a4 a5 a6 H R):ai Tryz.prog g 288 #[a0,a1,a2,a3,a4,a5,a6] H R:=
 ak (hn:=(.n .e (.n (.n (.n (.h 0 [] [1] .e .e) (.n .e (.n (.h 0 [] [1] .e .e) .e))) .e) (hN 5 (.h 1 [17] [0,1,4,5,6,10,13,14,15,16] .e (.h 1 [] [1,4,5,6,10,13,14,15,16,17] .e (.h 1 [] [4,5,6,10,13,15,17] .e (.n .e (.n (.h 0 [0,1,2,3,4,5,6,7,8,9,10] [] .e .e) .e))))))))) Tryz.func288 h (by kernel_rfl)
def L289(g:Gh)(a0 a1 a2:Value)(H:Hp)(R:Rt):Prop:=
ae .num .add a1 (iv 1) fun v1=>
∃(I2:Jt) (m3:Mt),JE I2 [v1] H∧∀w6:Value,∀H5:Hp,I2 [w6] H5→∀My:Fr,
ae .num .lss w6 a2 fun v7=>
Br v7 (
∃(I8:Jt) (m9:Mt),JE I8 [w6] H5∧∀gV:Value,∀eu:Hp,I8 [gV] eu→∀vj:Fr,
∀AJ:Jt,(∀lN:Value,∀dN:Hp,(∀tG:Fr,
Br lN (
DR dN fun R17=>
ae .num .sub gV (iv 1) fun cf=>
ae .num .sub gV (iv 1) fun bN=>
ah 1 a0 bN fun v20=>
Ld R17 v20 fun bS=>
ah 1 a0 gV fun ct=>
Ld R17 ct fun bV=>
ah 1 a0 gV fun cB=>
St 1 dN cB bS fun gf=>
ah 1 a0 cf fun cE=>
St 1 gf cE bV fun jD=>
ae .num .sub gV (iv 1) fun cK=>
aC I8 m9 [cK] jD [gV] eu) (
ae .num .add w6 (iv 1) fun cN=>
aC I2 m3 [cN] dN [w6] H5))→AJ [lN] dN)→
DR eu fun R30=>
ae .num .gtr gV a1 fun dy=>
Br dy (
ah 1 a0 gV fun dH=>
Ld R30 dH fun eO=>
ae .num .sub gV (iv 1) fun eY=>
ah 1 a0 eY fun eM=>
Ld R30 eM fun dW=>
∀F37:Hp,
CF (g.add F37) 295 #[eO,dW] eu (fun fX A5=>
az (Value.bool true) fX (Value.bool false) fun gL=>
JE AJ [gL] A5) bu) (
JE AJ [(Value.bool false)] eu)) (
R (.returned (.tuple #[])) H5)
theorem CV(h:L289 g a0 a1 a2 H R):ai Tryz.prog g 289 #[a0,a1,a2] H R:=
 ak (hn:=(.n .e (.n (.h 0 [6] [0,1,2] (.n .e (.n (.n (.n .e (.n (.h 0 [7] [0,1,2,6] (.n (.h 1 [30] [0,1,2,6,7] (.h 1 [] [] (hr 0 [] 0 3 (.h 2 [3] [] (hr 0 [] 4 11 .e) (hr 0 [] 4 10 (.h 3 [14] [] .e .e)))) .e) .e) (.n (.n (.h 0 [0,1,2,3,4,5,6,7,8,9,10,11,12,13,14,15,16,17] [] .e .e) .e) .e)) .e) .e)) .e) .e)) .e) .e))) Tryz.func289 h (by kernel_rfl)
def L290(g:Gh)(a0 a1 a2:Value)(H:Hp)(R:Rt):Prop:=
ae .num .sub a2 a1 fun v1=>
ae .num .sub v1 (iv 1) fun v2=>
ae .num .quo v2 (iv 2) fun v3=>
∃(I4:Jt) (m5:Mt),JE I4 [v3] H∧∀w8:Value,∀H7:Hp,I4 [w8] H7→∀Rz:Fr,
ae .num .geq w8 (iv 0) fun v9=>
Br v9 (
CF g 299 #[a0,w8,v1,a1] H7 (fun v10 eu=>
ae .num .sub w8 (iv 1) fun bf=>
aC I4 m5 [bf] eu [w8] H7) (aq R)) (
ae .num .sub v1 (iv 1) fun br=>
∃(NB:Jt) (Wa:Mt),JE NB [br] H7∧∀jc:Value,∀fp:Hp,NB [jc] fp→∀T7:Fr,
ae .num .geq jc (iv 0) fun bN=>
Br bN (
DR fp fun A3=>
ae .num .add a1 jc fun bS=>
ae .num .add a1 jc fun ct=>
ah 1 a0 ct fun bV=>
Ld A3 bV fun cB=>
ah 1 a0 a1 fun cv=>
Ld A3 cv fun cE=>
ah 1 a0 a1 fun cL=>
St 1 fp cL cB fun rO=>
ah 1 a0 bS fun cN=>
St 1 rO cN cE fun qc=>
CF g 299 #[a0,(iv 0),jc,a1] qc (fun dy q7=>
ae .num .sub jc (iv 1) fun eO=>
aC NB Wa [eO] q7 [jc] fp) (aq R)) (
R (.returned (.tuple #[])) fp))
theorem CQ(h:L290 g a0 a1 a2 H R):ai Tryz.prog g 290 #[a0,a1,a2] H R:=
 ak (hn:=(hN 3 (.n (.n .e (.n (.h 0 [9] [0,6,7,8] .e .e) .e)) (.n .e (.n (.h 0 [10] [0,6,7] (.n .e (.n (.n (.n (.h 0 [0,1,2,3,4,5,6,7,8,9,10,11,12,13,14,15,16,17,18,19] [] .e .e) .e) .e) .e)) .e) .e))))) Tryz.func290 h (by kernel_rfl)
def L291(g:Gh)(a0 a1 a2:Value)(H:Hp)(R:Rt):Prop:=
ae .num .sub a2 a1 fun v1=>
ae .num .geq v1 (iv 8) fun v2=>
Br v2 (
aY .u64 v1 fun v3=>
bn H (.cells #[(Value.int .u64 0)] 373 (0,0)) fun b4 H5=>
St 1 H5 (pt b4) v3 fun H6=>
CF g 300 #[v1] H6 (fun v7 H8=>
ae .num .quo v1 (iv 4) fun v9=>
ae .num .mul v9 (iv 2) fun v10=>
ae .num .add a1 v10 fun v11=>
ae .num .sub v11 (iv 1) fun bf=>
∃(UG:Jt) (m14:Mt),JE UG [bf] H8∧∀ri:Value,∀fh:Hp,UG [ri] fh→∀T8:Fr,
ae .num .quo v1 (iv 4) fun cf=>
ae .num .mul cf (iv 2) fun bN=>
ae .num .add a1 bN fun v20=>
ae .num .add v20 (iv 1) fun bS=>
ae .num .leq ri bS fun ct=>
Br ct (
CF g 301 #[(pt b4)] fh (fun bV iL=>
ae .num .sub v7 (Value.int .u64 1) fun cv=>
ae .num .and bV cv fun cE=>
aY .i64 cE fun cL=>
∀YE:Jt,(∀ZF:Value,∀qc:Hp,(∀XV:Fr,
DR qc fun Up=>
ae .num .add a1 ZF fun eO=>
ae .num .add a1 ZF fun eY=>
ah 1 a0 eY fun eM=>
Ld Up eM fun dW=>
ah 1 a0 ri fun dO=>
Ld Up dO fun fX=>
ah 1 a0 ri fun gu=>
St 1 qc gu dW fun mT=>
ah 1 a0 eO fun fe=>
St 1 mT fe fX fun yp=>
ae .num .add ri (iv 1) fun fM=>
aC UG m14 [fM] yp [ri] fh)→YE [ZF] qc)→
ae .num .geq cL v1 fun iM=>
Br iM (
ae .num .sub cL v1 fun gW=>
JE YE [gW] iL) (
JE YE [cL] iL)) (aq R)) (
R (.returned (.tuple #[])) fh)) (aq R)) (
R (.returned (.tuple #[])) H)
theorem CK(h:L291 g a0 a1 a2 H R):ai Tryz.prog g 291 #[a0,a1,a2] H R:=
 ak (hn:=(.n .e (.n .e (.n (hN 3 (.n (.h 0 [9] [0,1,6,7,8] (.n .e (.n (.n (.n .e (.h 1 [10] [0,1,6,7,8,9] .e (.h 0 [0,1,2,3,4,5,6,7,8,9,10,11,12,13,14,15,16,17,18,19] [] .e .e))) .e) .e)) .e) .e)) .e)))) Tryz.func291 h (by kernel_rfl)
def L292(g:Gh)(a0 a1 a2:Value)(H:Hp)(R:Rt):Prop:=
ae .num .sub a2 a1 fun v1=>
bn H (.cells #[(iv 0)] 3 (0,0)) fun b2 H3=>
ae .num .quo v1 (iv 4) fun v4=>
ae .num .mul v4 (iv 1) fun v5=>
ae .num .add a1 v5 fun v6=>
ae .num .quo v1 (iv 4) fun v7=>
ae .num .mul v7 (iv 2) fun v8=>
ae .num .add a1 v8 fun v9=>
ae .num .quo v1 (iv 4) fun v10=>
ae .num .mul v10 (iv 3) fun v11=>
ae .num .add a1 v11 fun bf=>
∀AJ:Jt,(∀lN:Value,∀dN:Hp,(∀tG:Fr,
Ld dN (pt b2) fun bL=>
ae .num .eql bL (iv 0) fun cf=>
Br cf (
R (.returned (.tuple #[lN,(iv 1)])) dN) (
ae .num .eql bL (iv 12) fun bN=>
Br bN (
R (.returned (.tuple #[lN,(iv 2)])) dN) (
R (.returned (.tuple #[lN,(iv 0)])) dN)))→AJ [lN] dN)→
ae .num .geq v1 (iv 8) fun v20=>
Br v20 (
∀YG:Jt,(∀yO uD pc:Value,∀jS:Hp,(∀T3:Fr,
CF g 303 #[a0,yO,uD,pc,(pt b2)] jS (fun cL rO=>
JE AJ [cL] rO) (aq R))→YG [yO,uD,pc] jS)→
ae .num .geq v1 (iv 50) fun cN=>
Br cN (
CF g 302 #[a0,v6,(pt b2)] H3 (fun v30 jg=>
CF g 302 #[a0,v9,(pt b2)] jg (fun dH lj=>
CF g 302 #[a0,bf,(pt b2)] lj (fun eY qZ=>
JE YG [v30,dH,eY] qZ) (aq R)) (aq R)) (aq R)) (
JE YG [v6,v9,bf] H3)) (
JE AJ [v9] H3)
theorem CJ(h:L292 g a0 a1 a2 H R):ai Tryz.prog g 292 #[a0,a1,a2] H R:=
 ak (hn:=(hN 6 (.h 1 [11] [9] (.n .e (.n (.h 1 [10,11,12] [0,9] .e .e) .e)) .e))) Tryz.func292 h (by kernel_rfl)
def L293(g:Gh)(a0 a1 a2:Value)(H:Hp)(R:Rt):Prop:=
ae .num .sub a2 (iv 1) fun v1=>
∃(I2:Jt) (m3:Mt),JE I2 [a1,v1] H∧∀w6 w7:Value,∀H5:Hp,I2 [w6,w7] H5→∀My:Fr,
ae .num .lss w6 w7 fun v8=>
Br v8 (
DR H5 fun R9=>
ah 1 a0 w7 fun v10=>
Ld R9 v10 fun v11=>
ah 1 a0 w6 fun bf=>
Ld R9 bf fun br=>
ah 1 a0 w6 fun bp=>
St 1 H5 bp v11 fun dN=>
ah 1 a0 w7 fun bI=>
St 1 dN bI br fun fp=>
ae .num .add w6 (iv 1) fun cf=>
ae .num .sub w7 (iv 1) fun bN=>
aC I2 m3 [cf,bN] fp [w6,w7] H5) (
R (.returned (.tuple #[])) H5)
theorem CI(h:L293 g a0 a1 a2 H R):ai Tryz.prog g 293 #[a0,a1,a2] H R:=
 ak (hn:=(.n .e (.n .e (.n (.h 0 [6,7] [0] (.n .e (.n (.n (.h 0 [0,1,2,3,4,5,6,7,8,9,10,11,12,13,14,15] [] .e .e) .e) .e)) .e) .e)))) Tryz.func293 h (by kernel_rfl)
def L294(g:Gh)(a0 a1 a2:Value)(H:Hp)(R:Rt):Prop:=
ae .num .add a1 (iv 1) fun v1=>
∃(I2:Jt) (m3:Mt),JE I2 [v1,(iv 0)] H∧∀w6 w7:Value,∀H5:Hp,I2 [w6,w7] H5→∀My:Fr,
ae .num .lss w7 (iv 5) fun v8=>
Br v8 (
∀J9:Jt,(∀gV:Value,∀eu:Hp,(∀vj:Fr,
ae .num .add w7 (iv 1) fun br=>
aC I2 m3 [gV,br] eu [w6,w7] H5)→J9 [gV] eu)→
∃(NB:Jt) (Wa:Mt),JE NB [w6] H5∧∀jc:Value,∀fp:Hp,NB [jc] fp→∀T7:Fr,
∀VD:Jt,(∀qk:Value,∀fK:Hp,(∀T5:Fr,
Br qk (
ae .num .add jc (iv 1) fun bV=>
aC NB Wa [bV] fK [jc] fp) (
ae .num .eql jc a2 fun cB=>
Br cB (
R (.returned (Value.bool true)) fK) (
ae .num .sub a2 a1 fun cv=>
ae .num .lss cv (iv 50) fun cE=>
Br cE (
R (.returned (Value.bool false)) fK) (
DR fK fun Od=>
ae .num .sub jc (iv 1) fun cK=>
ae .num .sub jc (iv 1) fun cN=>
ah 1 a0 cN fun v30=>
Ld Od v30 fun dy=>
ah 1 a0 jc fun dH=>
Ld Od dH fun eO=>
ah 1 a0 jc fun eY=>
St 1 fK eY dy fun qZ=>
ah 1 a0 cK fun dW=>
St 1 qZ dW eO fun lQ=>
∀yI:Jt,(∀mT:Hp,(∀T0:Fr,
ae .num .sub a2 jc fun fe=>
ae .num .geq fe (iv 2) fun gU=>
Br gU (
ae .num .add jc (iv 1) fun fM=>
∃(I44:Jt) (m45:Mt),JE I44 [fM] mT∧∀NL:Value,∀JU:Hp,I44 [NL] JU→∀ac2:Fr,
ae .num .lss NL a2 fun kJ=>
Br kJ (
DR JU fun Gy=>
ah 1 a0 NL fun jP=>
Ld Gy jP fun lT=>
ae .num .sub NL (iv 1) fun qs=>
ah 1 a0 qs fun xf=>
Ld Gy xf fun oZ=>
CF g 295 #[lT,oZ] JU (fun sr Jw=>
Un .not sr fun sQ=>
Br sQ (
JE J9 [jc] Jw) (
DR Jw fun R59=>
ae .num .sub NL (iv 1) fun qp=>
ae .num .sub NL (iv 1) fun rS=>
ah 1 a0 rS fun uF=>
Ld R59 uF fun qo=>
ah 1 a0 NL fun xe=>
Ld R59 xe fun pe=>
ah 1 a0 NL fun rR=>
St 1 Jw rR qo fun H67=>
ah 1 a0 qp fun qn=>
St 1 H67 qn pe fun H69=>
ae .num .add NL (iv 1) fun rj=>
aC I44 m45 [rj] H69 [NL] JU)) bu) (
JE J9 [jc] JU)) (
JE J9 [jc] mT))→yI [] mT)→
ae .num .sub jc a1 fun xd=>
ae .num .geq xd (iv 2) fun rQ=>
Br rQ (
ae .num .sub jc (iv 1) fun yA=>
∃(I74:Jt) (m75:Mt),JE I74 [yA] lQ∧∀NJ:Value,∀Jv:Hp,I74 [NJ] Jv→∀aiO:Fr,
ae .num .geq NJ (iv 1) fun wZ=>
Br wZ (
DR Jv fun Yf=>
ah 1 a0 NJ fun Fo=>
Ld Yf Fo fun wY=>
ae .num .sub NJ (iv 1) fun GS=>
ah 1 a0 GS fun AQ=>
Ld Yf AQ fun vD=>
CF g 295 #[wY,vD] Jv (fun GR Oh=>
Un .not GR fun AP=>
Br AP (
JE yI [] Oh) (
DR Oh fun Ye=>
ae .num .sub NJ (iv 1) fun yP=>
ae .num .sub NJ (iv 1) fun uE=>
ah 1 a0 uE fun Ba=>
Ld Ye Ba fun JD=>
ah 1 a0 NJ fun JC=>
Ld Ye JC fun RR=>
ah 1 a0 NJ fun Kk=>
St 1 Oh Kk JD fun H97=>
ah 1 a0 yP fun Kj=>
St 1 H97 Kj RR fun H99=>
ae .num .sub NJ (iv 1) fun rU=>
aC I74 m75 [rU] H99 [NJ] Jv)) bu) (
JE yI [] Jv)) (
JE yI [] lQ)))))→VD [qk] fK)→
DR fp fun Ym=>
ae .num .lss jc a2 fun qt=>
Br qt (
ah 1 a0 jc fun sR=>
Ld Ym sR fun yR=>
ae .num .sub jc (iv 1) fun Bi=>
ah 1 a0 Bi fun Bh=>
Ld Ym Bh fun xl=>
∀aer:Hp,
CF (g.add aer) 295 #[yR,xl] fp (fun uO Fb=>
Un .not uO fun Bg=>
az (Value.bool true) Bg (Value.bool false) fun xk=>
JE VD [xk] Fb) bu) (
JE VD [(Value.bool false)] fp)) (
R (.returned (Value.bool false)) H5)
theorem CG(h:L294 g a0 a1 a2 H R):ai Tryz.prog g 294 #[a0,a1,a2] H R:=
 ak (hn:=(.n .e (.n .e (.n (.n .e (.n (.h 0 [7,8] [0,1,2] (.n .e (.h 1 [7] [0,1,2,8] (.n (.n (.n (.h 0 [7] [0,1,2,8] (.n (.h 1 [32] [0,1,2,7,8] (.h 1 [] [] (hr 0 [] 0 3 (.h 2 [3] [] (hr 0 [] 4 12 .e) (hr 0 [] 4 11 (.h 3 [15] [] .e .e)))) .e) .e) .e) .e) .e) (.n .e (.n .e (.n (.h 0 [0,1,2,3,4,5,6,7,8,9,10,11,12,13,14,15,16,17] [] .e .e) (.h 1 [] [0,1,2,7,8] (.n .e (.n (.n .e (.n (.h 0 [9] [0,1,2,7,8] (.n .e (.n (.n (.n (.n (.h 0 [0,1,2,3,4,5,6,7,8,9,10] [] .e .e) .e) (.h 0 [0,1,2,3,4,5,6,7,8,9,10,11,12,13,14,15,16,17] [] .e .e)) .e) .e)) .e) .e)) .e)) (.n .e (.n (.n .e (.n (.h 0 [10] [0,1,2,7,8] (.n .e (.n (.n (.n (.n (.h 0 [0,1,2,3,4,5,6,7,8,9,10] [] .e .e) .e) (.h 0 [0,1,2,3,4,5,6,7,8,9,10,11,12,13,14,15,16,17] [] .e .e)) .e) .e)) .e) .e)) .e))))))) .e) .e)) .e) .e)) .e)))) Tryz.func294 h (by kernel_rfl)
def L295(g:Gh)(a0 a1:Value)(H:Hp)(R:Rt):Prop:=
∀J1:Jt,(∀w4:Value,∀H3:Hp,(∀Vr:Fr,
R (.returned w4) H3)→J1 [w4] H3)→
CF g 304 #[a0] H (fun v5 H6=>
Split v5 true (
CF g 304 #[a1] H6 (fun v7 H8=>
Un .not v7 fun v9=>
az (Value.bool true) v9 (Value.bool false) fun v10=>
Split v10 false (
ae .num .lss a0 a1 fun v11=>
az (Value.bool false) (Value.bool true) v11 fun bf=>
JE J1 [bf] H8) (
az (Value.bool true) (Value.bool true) undef fun br=>
JE J1 [br] H8)) (aq R)) (
az (Value.bool false) undef (Value.bool false) fun bp=>
ae .num .lss a0 a1 fun bB=>
az bp (Value.bool true) bB fun bI=>
JE J1 [bI] H6)) (aq R)
theorem CE(h:L295 g a0 a1 H R):ai Tryz.prog g 295 #[a0,a1] H R:=
 ak (hn:=(.n .e (.h 1 [4] [] .e .e))) Tryz.func295 h (by kernel_rfl)
def L296(g:Gh)(a0 a1 a2 a3:Value)(H:Hp)(R:Rt):Prop:=
DR H fun R1=>
ah 1 a0 a3 fun v2=>
Ld R1 v2 fun v3=>
ah 1 a0 a1 fun v4=>
Ld R1 v4 fun v5=>
ah 1 a0 a1 fun v6=>
St 1 H v6 v3 fun H7=>
ah 1 a0 a3 fun v8=>
St 1 H7 v8 v5 fun H9=>
ae .num .add a1 (iv 1) fun v10=>
ae .num .sub a2 (iv 1) fun v11=>
∃(E9:Jt) (Sz:Mt),JE E9 [v10,v11] H9∧∀lN ri:Value,∀dN:Hp,E9 [lN,ri] dN→∀tG:Fr,
∃(NA:Jt) (V9:Mt),JE NA [lN] dN∧∀qk:Value,∀fK:Hp,NA [qk] fK→∀T5:Fr,
∀Oe:Jt,(∀pc:Value,∀gf:Hp,(∀T2:Fr,
Br pc (
ae .num .add qk (iv 1) fun cL=>
aC NA V9 [cL] gf [qk] fK) (
∃(UD:Jt) (m29:Mt),JE UD [ri] gf∧∀yw:Value,∀jg:Hp,UD [yw] jg→∀T1:Fr,
∀JS:Jt,(∀VL:Value,∀qZ:Hp,(∀ac4:Fr,
Br VL (
ae .num .sub yw (iv 1) fun dO=>
aC UD m29 [dO] qZ [yw] jg) (
ae .num .gtr qk yw fun fX=>
Br fX (
R (.returned qk) qZ) (
DR qZ fun IL=>
ah 1 a0 yw fun gL=>
Ld IL gL fun fe=>
ah 1 a0 qk fun gU=>
Ld IL gU fun fM=>
ah 1 a0 qk fun iM=>
St 1 qZ iM fe fun Jy=>
ah 1 a0 yw fun jd=>
St 1 Jy jd fM fun JU=>
ae .num .add qk (iv 1) fun kE=>
ae .num .sub yw (iv 1) fun kJ=>
aC E9 Sz [kE,kJ] JU [lN,ri] dN)))→JS [VL] qZ)→
DR jg fun Gy=>
ae .num .leq qk yw fun jP=>
Br jP (
ah 1 a0 a1 fun lT=>
Ld Gy lT fun qs=>
ah 1 a0 yw fun xf=>
Ld Gy xf fun oZ=>
∀F56:Hp,
CF (g.add F56) 295 #[qs,oZ] jg (fun qq sL=>
az (Value.bool true) qq (Value.bool false) fun rT=>
JE JS [rT] sL) bu) (
JE JS [(Value.bool false)] jg)))→Oe [pc] gf)→
DR fK fun R60=>
ae .num .leq qk ri fun rS=>
Br rS (
ah 1 a0 a1 fun uF=>
Ld R60 uF fun qo=>
ah 1 a0 qk fun xe=>
Ld R60 xe fun pe=>
∀F66:Hp,
CF (g.add F66) 295 #[qo,pe] fK (fun uN VI=>
Un .not uN fun qm=>
az (Value.bool true) qm (Value.bool false) fun rj=>
JE Oe [rj] VI) bu) (
JE Oe [(Value.bool false)] fK)
theorem CD(h:L296 g a0 a1 a2 a3 H R):ai Tryz.prog g 296 #[a0,a1,a2,a3] H R:=
 ak (hn:=(.n .e (.n (.h 0 [0,1,2,3,4,5,6,7,8,9,10,11,12,13,14,15] [] .e .e) (.n .e (.n (.n (.h 0 [9,10] [0,1] (.n (.n (.n (.h 0 [9] [0,1,10] (.n (.h 1 [43] [0,1,9,10] (.h 1 [] [] (hr 0 [] 0 3 (.h 2 [3] [] (hr 0 [] 4 11 .e) (hr 0 [] 4 10 (.h 3 [14] [] .e .e)))) .e) .e) .e) .e) .e) (.n (.n (.h 0 [10] [0,1,9] (.n (.h 1 [59] [0,1,9,10] (.h 1 [] [] (hr 0 [] 0 3 (.h 2 [3] [] (hr 0 [] 4 10 .e) (hr 0 [] 4 9 (.h 3 [13] [] .e .e)))) .e) .e) .e) .e) .e) (.n .e (.n (.h 0 [0,1,2,3,4,5,6,7,8,9,10,11,12,13,14,15] [] .e .e) .e)))) .e) .e) .e) .e))))) Tryz.func296 h (by kernel_rfl)
def L297(g:Gh)(a0 a1 a2 a3:Value)(H:Hp)(R:Rt):Prop:=
DR H fun R1=>
ah 1 a0 a3 fun v2=>
Ld R1 v2 fun v3=>
ah 1 a0 a1 fun v4=>
Ld R1 v4 fun v5=>
ah 1 a0 a1 fun v6=>
St 1 H v6 v3 fun H7=>
ah 1 a0 a3 fun v8=>
St 1 H7 v8 v5 fun H9=>
ae .num .add a1 (iv 1) fun v10=>
ae .num .sub a2 (iv 1) fun v11=>
∃(E9:Jt) (Sz:Mt),JE E9 [v10] H9∧∀lN:Value,∀dN:Hp,E9 [lN] dN→∀tG:Fr,
∀yo:Jt,(∀oX:Value,∀lR:Hp,(∀T6:Fr,
Br oX (
ae .num .add lN (iv 1) fun bS=>
aC E9 Sz [bS] lR [lN] dN) (
∃(UE:Jt) (m23:Mt),JE UE [v11] lR∧∀pc:Value,∀gf:Hp,UE [pc] gf→∀T2:Fr,
∀A4:Jt,(∀QG:Value,∀jC:Hp,(∀XW:Fr,
Br QG (
ae .num .sub pc (iv 1) fun dy=>
aC UE m23 [dy] jC [pc] gf) (
ae .num .gtr lN pc fun dH=>
Br dH (
DR jC fun Vw=>
ah 1 a0 a1 fun eY=>
Ld Vw eY fun eM=>
ah 1 a0 pc fun dW=>
Ld Vw dW fun dO=>
ah 1 a0 pc fun fX=>
St 1 jC fX eM fun A5=>
ah 1 a0 a1 fun gL=>
St 1 A5 gL dO fun JV=>
R (.returned (.tuple #[pc,(Value.bool true)])) JV) (
DR jC fun R42=>
ah 1 a0 pc fun fM=>
Ld R42 fM fun iM=>
ah 1 a0 lN fun gW=>
Ld R42 gW fun jd=>
ah 1 a0 lN fun jU=>
St 1 jC jU iM fun vz=>
ah 1 a0 pc fun kJ=>
St 1 vz kJ jd fun NC=>
ae .num .add lN (iv 1) fun jP=>
ae .num .sub pc (iv 1) fun lT=>
∃(I53:Jt) (m54:Mt),JE I53 [jP,lT] NC∧∀ZE YS:Value,∀Jx:Hp,I53 [ZE,YS] Jx→∀aiV:Fr,
∃(I59:Jt) (m60:Mt),JE I59 [ZE] Jx∧∀NK:Value,∀GF:Hp,I59 [NK] GF→∀ac0:Fr,
∀VB:Jt,(∀w67:Value,∀UL:Hp,(∀aiT:Fr,
Br w67 (
ae .num .add NK (iv 1) fun qn=>
aC I59 m60 [qn] UL [NK] GF) (
∃(I69:Jt) (m70:Mt),JE I69 [YS] UL∧∀JB:Value,∀UK:Hp,I69 [JB] UK→∀XR:Fr,
∀GD:Jt,(∀VJ:Value,∀nR:Hp,(∀acZ:Fr,
Br VJ (
ae .num .sub JB (iv 1) fun uM=>
aC I69 m70 [uM] nR [JB] UK) (
ae .num .gtr NK JB fun wZ=>
Br wZ (
DR nR fun Yf=>
ah 1 a0 a1 fun Fo=>
Ld Yf Fo fun wY=>
ah 1 a0 JB fun GS=>
Ld Yf GS fun AQ=>
ah 1 a0 JB fun vD=>
St 1 nR vD wY fun Zz=>
ah 1 a0 a1 fun Kl=>
St 1 Zz Kl AQ fun Zy=>
R (.returned (.tuple #[JB,(Value.bool false)])) Zy) (
DR nR fun Ye=>
ah 1 a0 JB fun yP=>
Ld Ye yP fun uE=>
ah 1 a0 NK fun Ba=>
Ld Ye Ba fun JD=>
ah 1 a0 NK fun JC=>
St 1 nR JC uE fun UJ=>
ah 1 a0 JB fun Kk=>
St 1 UJ Kk JD fun H97=>
ae .num .add NK (iv 1) fun Kj=>
ae .num .sub JB (iv 1) fun Kh=>
aC I53 m54 [Kj,Kh] H97 [ZE,YS] Jx)))→GD [VJ] nR)→
DR UK fun Yn=>
ae .num .leq NK JB fun Bj=>
Br Bj (
ah 1 a0 JB fun qt=>
Ld Yn qt fun sR=>
ah 1 a0 a1 fun yR=>
Ld Yn yR fun Bi=>
∀aes:Hp,
CF (g.add aes) 295 #[sR,Bi] UK (fun xl aed=>
Un .not xl fun uO=>
az (Value.bool true) uO (Value.bool false) fun Sb=>
JE GD [Sb] aed) bu) (
JE GD [(Value.bool false)] UK)))→VB [w67] UL)→
DR GF fun Yl=>
ae .num .leq NK YS fun xk=>
Br xk (
ah 1 a0 NK fun xj=>
Ld Yl xj fun Bf=>
ah 1 a0 a1 fun xh=>
Ld Yl xh fun Ku=>
∀aeq:Hp,
CF (g.add aeq) 295 #[Bf,Ku] GF (fun GX ND=>
az (Value.bool true) GX (Value.bool false) fun Be=>
JE VB [Be] ND) bu) (
JE VB [(Value.bool false)] GF))))→A4 [QG] jC)→
DR gf fun Yk=>
ae .num .leq lN pc fun Ks=>
Br Ks (
ah 1 a0 pc fun xg=>
Ld Yk xg fun yQ=>
ah 1 a0 a1 fun GW=>
Ld Yk GW fun Kr=>
∀aep:Hp,
CF (g.add aep) 295 #[yQ,Kr] gf (fun Kq ad9=>
Un .not Kq fun Bc=>
az (Value.bool true) Bc (Value.bool false) fun Bb=>
JE A4 [Bb] ad9) bu) (
JE A4 [(Value.bool false)] gf)))→yo [oX] lR)→
DR dN fun Yj=>
ae .num .leq lN v11 fun GV=>
Br GV (
ah 1 a0 lN fun aax=>
Ld Yj aax fun Sa=>
ah 1 a0 a1 fun R8=>
Ld Yj R8 fun Kn=>
∀aeo:Hp,
CF (g.add aeo) 295 #[Sa,Kn] dN (fun Km ad7=>
az (Value.bool true) Km (Value.bool false) fun R2=>
JE yo [R2] ad7) bu) (
JE yo [(Value.bool false)] dN)
theorem CC(h:L297 g a0 a1 a2 a3 H R):ai Tryz.prog g 297 #[a0,a1,a2,a3] H R:=
 ak (hn:=(.n .e (.n (.h 0 [0,1,2,3,4,5,6,7,8,9,10,11,12,13,14,15] [] .e .e) (.n .e (.n (.n (.h 0 [10] [0,1,11] (.n (.h 1 [43] [0,1,10,11] (.h 1 [] [] (hr 0 [] 0 3 (.h 2 [3] [] (hr 0 [] 4 10 .e) (hr 0 [] 4 9 (.h 3 [13] [] .e .e)))) .e) .e) .e) .e) .e) (.n (.n (.h 0 [11] [0,1,10] (.n (.h 1 [60] [0,1,10,11] (.h 1 [] [] (hr 0 [] 0 3 (.h 2 [3] [] (hr 0 [] 4 11 .e) (hr 0 [] 4 10 (.h 3 [14] [] .e .e)))) .e) .e) .e) .e) .e) (.n (.n .e (.n (.n (.h 0 [0,1,2,3,4,5,6,7,8,9,10,11,12,13,14,15] [] .e .e) .e) .e)) (.n (.h 0 [0,1,2,3,4,5,6,7,8,9,10,11,12,13,14,15] [] .e .e) (.n .e (.n .e (.n (.n (.h 0 [10,11] [0,1] (.n (.n (.n (.h 0 [10] [0,1,11] (.n (.h 1 [112] [0,1,10,11] (.h 1 [] [] (hr 0 [] 0 3 (.h 2 [3] [] (hr 0 [] 4 10 .e) (hr 0 [] 4 9 (.h 3 [13] [] .e .e)))) .e) .e) .e) .e) .e) (.n (.n (.h 0 [11] [0,1,10] (.n (.h 1 [129] [0,1,10,11] (.h 1 [] [] (hr 0 [] 0 3 (.h 2 [3] [] (hr 0 [] 4 11 .e) (hr 0 [] 4 10 (.h 3 [14] [] .e .e)))) .e) .e) .e) .e) .e) (.n .e (.n (.h 0 [0,1,2,3,4,5,6,7,8,9,10,11,12,13,14,15] [] .e .e) .e)))) .e) .e) .e) (.n (.h 0 [0,1,2,3,4,5,6,7,8,9,10,11,12,13,14,15] [] .e .e) .e)))))))))))) Tryz.func297 h (by kernel_rfl)
def L299(g:Gh)(a0 a1 a2 a3:Value)(H:Hp)(R:Rt):Prop:=
∃(I1:Jt) (m2:Mt),JE I1 [a1] H∧∀w5:Value,∀H4:Hp,I1 [w5] H4→∀RA:Fr,
ae .num .mul (iv 2) w5 fun v6=>
ae .num .add v6 (iv 1) fun v7=>
ae .num .geq v7 a2 fun v8=>
Br v8 (
R (.returned (.tuple #[])) H4) (
∀J9:Jt,(∀gV:Value,∀eu:Hp,(∀vj:Fr,
DR eu fun Ut=>
ae .num .add a3 w5 fun bp=>
ah 1 a0 bp fun bB=>
Ld Ut bB fun bI=>
ae .num .add a3 gV fun bL=>
ah 1 a0 bL fun cf=>
Ld Ut cf fun bN=>
CF g 295 #[bI,bN] eu (fun v20 fK=>
Un .not v20 fun ct=>
Br ct (
R (.returned (.tuple #[])) fK) (
DR fK fun R23=>
ae .num .add a3 w5 fun cB=>
ae .num .add a3 gV fun cv=>
ae .num .add a3 gV fun cE=>
ah 1 a0 cE fun cL=>
Ld R23 cL fun cK=>
ae .num .add a3 w5 fun cN=>
ah 1 a0 cN fun v30=>
Ld R23 v30 fun dy=>
ah 1 a0 cB fun dH=>
St 1 fK dH cK fun lj=>
ah 1 a0 cv fun eY=>
St 1 lj eY dy fun qZ=>
aC I1 m2 [gV] qZ [w5] H4)) bu)→J9 [gV] eu)→
∀YB:Jt,(∀w39:Value,∀oU:Hp,(∀ai4:Fr,
Br w39 (
ae .num .add v7 (iv 1) fun gL=>
JE J9 [gL] oU) (
JE J9 [v7] oU))→YB [w39] oU)→
DR H4 fun R41=>
ae .num .add v7 (iv 1) fun gU=>
ae .num .lss gU a2 fun fM=>
Br fM (
ae .num .add a3 v7 fun iM=>
ah 1 a0 iM fun gW=>
Ld R41 gW fun jd=>
ae .num .add a3 v7 fun jU=>
ae .num .add jU (iv 1) fun kE=>
ah 1 a0 kE fun kJ=>
Ld R41 kJ fun lO=>
∀F51:Hp,
CF (g.add F51) 295 #[jd,lO] H4 (fun lT JT=>
az (Value.bool true) lT (Value.bool false) fun xf=>
JE YB [xf] JT) bu) (
JE YB [(Value.bool false)] H4))
theorem CB(h:L299 g a0 a1 a2 a3 H R):ai Tryz.prog g 299 #[a0,a1,a2,a3] H R:=
 ak (hn:=(.n .e (.n (.h 0 [8] [0,2,3] (.n (.n .e (.n .e (.h 1 [9] [0,2,3,8] (.h 1 [36] [0,2,3,8,9] (.h 1 [] [] (hr 0 [] 0 4 (.h 2 [4] [] (hr 0 [] 5 15 .e) (hr 0 [] 5 14 (.h 3 [19] [] .e .e)))) .e) .e) (.n (.n (.h 0 [0,1,2,3,4,5,6,7,8,9,10,11,12,13] [] .e .e) .e) (.n (.h 0 [0,1,2,3,4,5,6,7,8,9,10,11,12,13,14,15,16,17,18,19,20,21,22,23] [] .e .e) .e))))) .e) .e) .e))) Tryz.func299 h (by kernel_rfl)
def L300(g:Gh)(a0:Value)(H:Hp)(R:Rt):Prop:=
aY .u64 a0 fun v1=>
CF g 286 #[v1] H (fun v2 H3=>
ae .num .shl (Value.int .u64 1) v2 fun v4=>
R (.returned v4) H3) (aq R)
theorem Cz(h:L300 g a0 H R):ai Tryz.prog g 300 #[a0] H R:=
 ak (hn:=.e) Tryz.func300 h (by kernel_rfl)
def L301(g:Gh)(a0:Value)(H:Hp)(R:Rt):Prop:=
DR H fun R1=>
Nil a0 fun v2=>
Ld R1 v2 fun v3=>
Nil a0 fun v4=>
Ld R1 v4 fun v5=>
ae .num .shl v5 (Value.int .u64 13) fun v6=>
ae .num .xor v3 v6 fun v7=>
Nil a0 fun v8=>
St 1 H v8 v7 fun H9=>
DR H9 fun Yo=>
Nil a0 fun v11=>
Ld Yo v11 fun bf=>
Nil a0 fun br=>
Ld Yo br fun bp=>
ae .num .shr bp (Value.int .u64 7) fun bB=>
ae .num .xor bf bB fun bI=>
Nil a0 fun bL=>
St 1 H9 bL bI fun c6=>
DR c6 fun Us=>
Nil a0 fun v20=>
Ld Us v20 fun bS=>
Nil a0 fun ct=>
Ld Us ct fun bV=>
ae .num .shl bV (Value.int .u64 17) fun cB=>
ae .num .xor bS cB fun cv=>
Nil a0 fun cE=>
St 1 c6 cE cv fun jD=>
Nil a0 fun cK=>
Ld jD cK fun cN=>
R (.returned cN) jD
theorem Cy(h:L301 g a0 H R):ai Tryz.prog g 301 #[a0] H R:=
 ak (hn:=(.n .e (.n (.h 0 [0,1,2,3,4,5,6,7,8,9] [] .e .e) (.n (.h 0 [0,1,2,3,4,5,6,7,8,9] [] .e .e) (.n (.h 0 [0,1,2,3,4,5,6,7,8,9] [] .e .e) .e))))) Tryz.func301 h (by kernel_rfl)
def L302(g:Gh)(a0 a1 a2:Value)(H:Hp)(R:Rt):Prop:=
ae .num .sub a1 (iv 1) fun v1=>
ae .num .add a1 (iv 1) fun v2=>
CF g 303 #[a0,v1,a1,v2,a2] H (fun v3 H4=>
R (.returned v3) H4) (aq R)
theorem Cw(h:L302 g a0 a1 a2 H R):ai Tryz.prog g 302 #[a0,a1,a2] H R:=
 ak (hn:=.e) Tryz.func302 h (by kernel_rfl)
def L303(g:Gh)(a0 a1 a2 a3 a4:Value)(H:Hp)(R:Rt):Prop:=
CF g 305 #[a0,a1,a2,a4] H (fun v1 H2=>
Ext 0 v1 fun v3=>
Ext 1 v1 fun v4=>
CF g 305 #[a0,v4,a3,a4] H2 (fun v5 H6=>
Ext 0 v5 fun v7=>
Ext 1 v5 fun v8=>
CF g 305 #[a0,v3,v7,a4] H6 (fun v9 dc=>
Ext 0 v9 fun v11=>
Ext 1 v9 fun bf=>
R (.returned bf) dc) (aq R)) (aq R)) (aq R)
theorem Cv(h:L303 g a0 a1 a2 a3 a4 H R):ai Tryz.prog g 303 #[a0,a1,a2,a3,a4] H R:=
 ak (hn:=.e) Tryz.func303 h (by kernel_rfl)
def L304(g:Gh)(a0:Value)(H:Hp)(R:Rt):Prop:=
ae .num .neq a0 a0 fun v1=>
R (.returned v1) H
theorem Cu(h:L304 g a0 H R):ai Tryz.prog g 304 #[a0] H R:=
 ak (hn:=.e) Tryz.func304 h (by kernel_rfl)
def L305(g:Gh)(a0 a1 a2 a3:Value)(H:Hp)(R:Rt):Prop:=
DR H fun R1=>
ah 1 a0 a2 fun v2=>
Ld R1 v2 fun v3=>
ah 1 a0 a1 fun v4=>
Ld R1 v4 fun v5=>
CF g 295 #[v3,v5] H (fun v6 H7=>
Br v6 (
Nil a3 fun v8=>
Ld H7 v8 fun v9=>
ae .num .add v9 (iv 1) fun v10=>
Nil a3 fun v11=>
St 1 H7 v11 v10 fun dk=>
R (.returned (.tuple #[a2,a1])) dk) (
R (.returned (.tuple #[a1,a2])) H7)) bu
theorem Cr(h:L305 g a0 a1 a2 a3 H R):ai Tryz.prog g 305 #[a0,a1,a2,a3] H R:=
 ak (hn:=(.n .e (.n (.n (.h 0 [0,1,2,3,4,5,6,7,8] [] .e .e) .e) .e))) Tryz.func305 h (by kernel_rfl)
theorem pX{B:Hp}{s:Value}{n:Int}{K:Value→Hp→Prop}(h:∀b,K (.slice (some ⟨b,0,none⟩) 1 1) ((b,.cells #[.int .i64 n,s] 57 (0,0))::B)):
  au Tryz.prog 28 1 [(0,.agg #[.int .i64 n,s])] B K:=
 au.one (r:=[.int .i64 n,s]) (e:=57) (k:=2) (z:=.agg #[.int .i64 0,.slice none 0 0]) (by kernel_rfl) (by kernel_rfl) (by kernel_rfl) (by decide) rfl h
theorem Bu{G:Nat→Nat}{W:Nat}:((List.range W).map fun k=>if k<W then G k else 0)=(List.range W).map G:=by
 apply List.map_congr_left
 intro k hk
 rw[if_pos (List.mem_range.1 hk)]
theorem x7{n:Nat}{ws:List Nat}(h:aG.fA n ws):ws.length≤4294967296:=by have:=h.len;have:=aG.sP h.yC;omega
theorem aT{B:Hp}{s:Value}{ws:List Nat}(h:Words B s ws):s.oneCell'=true:=by obtain⟨a,c,rfl,_⟩:=h.1.shape;rfl
theorem Hq{G:Nat→Nat}{W i:Nat}(hi:i<W):(iw ((List.range W).map fun k=>if k<i then G k else 0)).set i ((G i:Nat):Int)=iw ((List.range W).map fun k=>if k<i+1 then G k else 0):=by
 apply List.ext_getElem?
 intro j
 unfold iw
 by_cases e:i=j
 ·subst e;simp[hi]
 ·rw[List.getElem?_set_ne e]
  by_cases hj:j<W
  ·simp only[List.getElem?_map,List.getElem?_range hj,Option.map_some]
   by_cases h2:j<i
   ·rw[if_pos h2,if_pos (by omega)]
   ·rw[if_neg h2,if_neg (by omega)]
  ·rw[List.getElem?_eq_none (by simp;omega),List.getElem?_eq_none (by simp;omega)]
theorem range_zero{G:Nat→Nat}{W:Nat}:List.replicate W (0:Int)=iw ((List.range W).map fun k=>if k<0 then G k else 0):=by
 apply List.ext_getElem?
 intro j
 unfold iw
 by_cases hj:j<W
 ·simp[hj]
 ·rw[List.getElem?_eq_none (by simp;omega),List.getElem?_eq_none (by simp;omega)]
theorem jL{n:Nat}(hn:n≤16):aG.wN n≤9223372036854775807∧aG.wN n*8≤281474976710656:=by have:=aG.sP hn;omega
def eG(l:List Bool):Array Value:=(l.map Value.bool).toArray
theorem Cc(l:List Bool)(i:Nat)(b:Bool):(eG l).setIfInBounds i (.bool b)=eG (l.set i b):=by simp[eG,List.map_set]
theorem BD(n:Nat):madeCells (Value.cells (.bool false)) (n*1)=eG (List.replicate n false):=by
 apply Array.ext
 ·simp[madeCells,eG]
 ·intro i h1 h2
  simp[madeCells,eG,Value.cells,Nat.mod_one]
def AM(B:Hp)(v:Value)(l:List Bool):Prop:=Sl 1 B v (l.map fun b=>[Value.bool b])
theorem AM.block{B:Hp}{b cap:Nat}{l:List Bool}{T:TypeId}{fz:Nat×Nat}(hm:(b,Obj.cells (eG l) T fz)∈B)(hc:l.length≤cap):AM B (.slice (some ⟨b,0,none⟩) l.length cap) l:=by
 refine⟨fun r hr=>by obtain⟨b,_,rfl⟩:=List.mem_map.1 hr;rfl,.inr ⟨b,0,cap,_,T,fz,by simp,by simpa using hc,hm,by simp[eG],fun i r hi j v hj=>?_⟩⟩
 rw[List.getElem?_map]at hi
 cases hl:l[i]? with
 |none=>rw[hl]at hi;simp at hi
 |some n=>
  rw[hl]at hi
  simp only[Option.map_some,Option.some.injEq]at hi
  subst hi
  cases j with
  |zero=>
   simp only[List.getElem?_cons_zero,Option.some.injEq]at hj
   subst hj
   simp[eG,hl]
  |succ j=>simp at hj
theorem AM.ld{kd:IntKind}{B H:Hp}{v:Value}{l:List Bool}(h:AM B v l){i:Nat}{b:Bool}(hi:l[i]? =some b)(hs:∀x∈B,x∈H){K:Value→Prop}(hk:K (.bool b)):ah 1 v (.int kd (i:Int)) (fun p=>Ld H p K):=
 ah.sl h (by rw[List.getElem?_map,hi];rfl) fun p hp=>Ld.at hp hs hk
theorem cZ.M7{H:Hp}{T:TypeId}{kl:IntKind}{n:Nat}{K:Value→Hp→Prop}(ca:n≤281474976710656)
 (h:∀b,K (.slice (some ⟨b,0,none⟩) n n) ((b,.cells (eG (List.replicate n false)) T (0,0))::H)):cZ T 1 1 (.bool false) H (.int kl n) (.int kl n) K:=
 ⟨kl,kl,n,n,rfl,rfl,Nat.le_refl _,by omega,by omega,fun b _=>by rw[BD];exact h b⟩
theorem St.M7{H:Hp}{b i:Nat}{l:List Bool}{x:Bool}{T:TypeId}{H':Hp}{K:Hp→Prop}(hu:cM b (.cells (eG l) T (0,0)) (.cells (eG (l.set i x)) T (0,0)) H H')(hi:i<l.length)(h:K H'):
  St 1 H (.pointer (some ⟨b,0+i*1,none⟩)) (.bool x) K:=
 St.one (c:=eG l) (c':=eG (l.set i x)) hu rfl (by simpa[eG]using hi) (by rw[Nat.zero_add,Nat.mul_one];exact Cc l i x) h
theorem G0(L:List (List Nat)):(aG.lV L).length≤L.length:=by
 have:=aG.gC (fun a l=>aG.add l a) 1 (fun a l=>aG.oQ l a) L []
 simpa[aG.lV]using this
theorem MB(n u:Nat)(L:List (List Nat)):(aG.given n L u).length≤2*L.length:=by
 have h:=aG.gC (fun t acc=>aG.add (aG.add acc (aG.kz n t u false)) (aG.kz n t u true)) 2 (fun a l=>by have h1:=aG.oQ (aG.add l (aG.kz n a u false)) (aG.kz n a u true);have h2:=aG.oQ l (aG.kz n a u false);omega) L []
 simpa[aG.given]using h
end Go.Proofs
namespace aF
open aG
theorem dA{x u v:Nat}{b c:Bool}(h:u≠v):aI (aI x u b) v c=aI (aI x v c) u b:=by
 apply Nat.eq_of_testBit_eq;intro k
 rw[ay,ay,ay,ay]
 by_cases e1:k=u<;>by_cases e2:k=v
 ·exact absurd (e1.symm.trans e2) h
 ·simp[e1,h]
 ·simp[e2,Ne.symm h]
 ·simp[e1,e2]
structure Nd where
 v:Nat
 lo:Nat
 hi:Nat
deriving DecidableEq
abbrev eB:=Nat→Option Nd
abbrev Fn:=Nat→Bool
def live(N:eB)(r:Nat):Prop:=r<2∨∃d,N r=some d
def dep(n:Nat)(aj:Nat→Nat)(N:eB)(r:Nat):Nat:=match N r with|some d=>aj d.v|none=>n
structure WF(n:Nat)(aj:Nat→Nat)(N:eB):Prop where
 two:∀{r d},N r=some d→2≤r
 var:∀{r d},N r=some d→d.v<n
 ne:∀{r d},N r=some d→d.lo≠d.hi
 lo:∀{r d},N r=some d→live N d.lo∧aj d.v<dep n aj N d.lo
 hi:∀{r d},N r=some d→live N d.hi∧aj d.v<dep n aj N d.hi
 uq:∀{r r' d},N r=some d→N r'=some d→r=r'
structure kB(n:Nat)(aj:Nat→Nat):Prop where
 lt:∀v,v<n→aj v<n
 inj:∀u v,u<n→v<n→aj u=aj v→u=v
structure Interp(N:eB)(S:Nat→Fn):Prop where
 zero:∀x,S 0 x=false
 one:∀x,S 1 x=true
 node:∀{r d},N r=some d→∀x,S r x=if x.testBit d.v then S d.hi x else S d.lo x
variable {n:Nat} {aj:Nat→Nat} {N:eB} {S:Nat→Fn}
theorem aX{r:Nat}(h:N r=none):dep n aj N r=n:=by unfold dep;rw[h]
theorem ax{r:Nat}{d:Nd}(h:N r=some d):dep n aj N r=aj d.v:=by unfold dep;rw[h]
theorem WF.mG(h:WF n aj N)(hl:kB n aj)(r:Nat):dep n aj N r≤n:=by
 cases e:N r with
 |none=>rw[aX e];exact Nat.le_refl _
 |some d=>rw[ax e];exact Nat.le_of_lt (hl.lt _ (h.var e))
theorem WF.const(h:WF n aj N){r:Nat}(hr:r<2):N r=none:=by
 cases e:N r with
 |none=>rfl
 |some d=>have:=h.two e;omega
theorem WF.indep(h:WF n aj N)(hl:kB n aj)(hi:Interp N S):∀(k r:Nat),n-dep n aj N r≤k→live N r→∀v,v<n→aj v<dep n aj N r→∀x b,S r (aI x v b)=S r x:=by
 intro k
 induction k with
 |zero=>
  intro r hk hr v hv hlt x b
  rcases hr with hr|⟨d,hd⟩
  ·have:r=0∨r=1:=by omega
   rcases this with rfl|rfl
   ·rw[hi.zero,hi.zero]
   ·rw[hi.one,hi.one]
  ·have h1:=hl.lt _ (h.var hd)
   rw[ax hd]at hk;omega
 |succ k ih=>
  intro r hk hr v hv hlt x b
  rcases hr with hr|⟨d,hd⟩
  ·have:r=0∨r=1:=by omega
   rcases this with rfl|rfl
   ·rw[hi.zero,hi.zero]
   ·rw[hi.one,hi.one]
  ·rw[ax hd]at hk hlt
   have h1:=hl.lt _ (h.var hd)
   obtain⟨l1,l2⟩:=h.lo hd
   obtain⟨m1,m2⟩:=h.hi hd
   have hne:d.v≠v:=fun e=>by rw[e]at hlt;omega
   rw[hi.node hd,hi.node hd,ay,if_neg hne,ih d.lo (by omega) l1 v hv (by omega),ih d.hi (by omega) m1 v hv (by omega)]
theorem WF.bZ(h:WF n aj N)(hl:kB n aj)(hi:Interp N S){r:Nat}(hr:live N r){v:Nat}(hv:v<n)(hlt:aj v<dep n aj N r)(x:Nat)(b:Bool):S r (aI x v b)=S r x:=
 h.indep hl hi _ r (Nat.le_refl _) hr v hv hlt x b
theorem WF.child(h:WF n aj N)(hl:kB n aj)(hi:Interp N S){r:Nat}{d:Nd}(hd:N r=some d)(x:Nat)(b:Bool):S r (aI x d.v b)=S (if b then d.hi else d.lo) x:=by
 obtain⟨l1,l2⟩:=h.lo hd
 obtain⟨m1,m2⟩:=h.hi hd
 rw[hi.node hd,ay,if_pos rfl]
 cases b
 ·simp only[Bool.false_eq_true,if_false];exact h.bZ hl hi l1 (h.var hd) l2 x false
 ·simp only[if_true];exact h.bZ hl hi m1 (h.var hd) m2 x true
theorem WF.canon(h:WF n aj N)(hl:kB n aj)(hi:Interp N S):∀(k r r':Nat),(n-dep n aj N r)+(n-dep n aj N r')≤k→live N r→live N r'→(∀x,S r x=S r' x)→r=r':=by
 intro k
 induction k with
 |zero=>
  intro r r' hk hr hr' he
  have hc:∀{r},n-dep n aj N r=0→live N r→r<2:=by
   intro r hk hr
   rcases hr with hr|⟨d,hd⟩
   ·exact hr
   ·have h1:=hl.lt _ (h.var hd)
    rw[ax hd]at hk;omega
  have h1:=hc (by omega) hr
  have h2:=hc (by omega) hr'
  have e0:=he 0
  have:r=0∨r=1:=by omega
  have h3:r'=0∨r'=1:=by omega
  rcases this with rfl|rfl<;>rcases h3 with rfl|rfl<;>simp[hi.zero,hi.one]at e0<;>rfl
 |succ k ih=>
  have Nt:∀r r',(n-dep n aj N r)+(n-dep n aj N r')≤k+1→live N r'→(∀x,S r x=S r' x)→∀d,N r=some d→aj d.v<dep n aj N r'→False:=by
   intro r r' hk hr' he d hd hlt
   obtain⟨l1,l2⟩:=h.lo hd
   obtain⟨m1,m2⟩:=h.hi hd
   have hv:=h.var hd
   have h1:=hl.lt _ hv
   have d1:=h.mG hl d.lo
   have d2:=h.mG hl d.hi
   have d3:=h.mG hl r'
   rw[ax hd]at hk
   have a1:d.lo=r':=ih d.lo r' (by omega) l1 hr' fun x=>by
    have:=h.child hl hi hd x false
    simp only[Bool.false_eq_true,if_false]at this
    rw[←this,he,h.bZ hl hi hr' hv hlt]
   have a2:d.hi=r':=ih d.hi r' (by omega) m1 hr' fun x=>by
    have:=h.child hl hi hd x true
    simp only[if_true]at this
    rw[←this,he,h.bZ hl hi hr' hv hlt]
   exact h.ne hd (a1.trans a2.symm)
  intro r r' hk hr hr' he
  rcases hr with hr|⟨d,hd⟩
  ·rcases hr' with hr'|⟨d',c9⟩
   ·have e0:=he 0
    have:r=0∨r=1:=by omega
    have h3:r'=0∨r'=1:=by omega
    rcases this with rfl|rfl<;>rcases h3 with rfl|rfl<;>simp[hi.zero,hi.one]at e0<;>rfl
   ·refine(Nt r' r (by omega) (.inl hr) (fun x=>(he x).symm) d' c9 ?_).elim
    rw[aX (h.const hr)];exact hl.lt _ (h.var c9)
  ·rcases Nat.lt_trichotomy (aj d.v) (dep n aj N r')with hlt|heq|hgt
   ·exact(Nt r r' hk hr' he d hd hlt).elim
   ·rcases hr' with hr'|⟨d',c9⟩
    ·rw[aX (h.const hr')]at heq
     have:=hl.lt _ (h.var hd);omega
    ·rw[ax c9]at heq
     have hv:=hl.inj _ _ (h.var hd) (h.var c9) heq
     obtain⟨l1,l2⟩:=h.lo hd
     obtain⟨m1,m2⟩:=h.hi hd
     obtain⟨SL,l2'⟩:=h.lo c9
     obtain⟨m1',m2'⟩:=h.hi c9
     have h1:=hl.lt _ (h.var hd)
     have d1:=h.mG hl d.lo
     have d2:=h.mG hl d.hi
     have d1':=h.mG hl d'.lo
     have d2':=h.mG hl d'.hi
     rw[ax hd,ax c9]at hk
     have c1:=fun x=>h.child hl hi hd x false
     have c2:=fun x=>h.child hl hi hd x true
     have c1':=fun x=>h.child hl hi c9 x false
     have c2':=fun x=>h.child hl hi c9 x true
     simp only[Bool.false_eq_true,if_false,if_true]at c1 c2 c1' c2'
     have a1:d.lo=d'.lo:=ih d.lo d'.lo (by omega) l1 SL fun x=>by rw[←c1,←c1',he,hv]
     have a2:d.hi=d'.hi:=ih d.hi d'.hi (by omega) m1 m1' fun x=>by rw[←c2,←c2',he,hv]
     have:d=d':=by cases d;cases d';simp_all
     subst this
     exact h.uq hd c9
   ·rcases hr' with hr'|⟨d',c9⟩
    ·rw[aX (h.const hr')]at hgt
     have:=hl.lt _ (h.var hd);omega
    ·rw[ax c9]at hgt
     refine(Nt r' r (by omega) (.inr ⟨d,hd⟩) (fun x=>(he x).symm) d' c9 ?_).elim
     rw[ax hd];exact hgt
theorem WF.same(h:WF n aj N)(hl:kB n aj)(hi:Interp N S){r r':Nat}(hr:live N r)(hr':live N r')(he:∀x,S r x=S r' x):r=r':=h.canon hl hi _ r r' (Nat.le_refl _) hr hr' he
end aF
namespace aF
open aG
variable {n:Nat} {aj:Nat→Nat} {N:eB} {S:Nat→Fn} {ord:List Nat}
def dr(g:Fn)(v:Nat):Prop:=∃x,g (aI x v false)≠g (aI x v true)
def fs(ord:List Nat)(F:Fn→Prop):Nat→Fn→Prop
 |0,g=>F g
 |l+1,g=>∃f,fs ord F l f∧∃b,g=fun x=>f (aI x (ord.getD l 0) b)
def aR(n:Nat)(ord:List Nat)(F:Fn→Prop)(g:Fn):Prop:=∃l,l<n∧fs ord F l g∧dr g (ord.getD l 0)
structure Ord(n:Nat)(aj:Nat→Nat)(ord:List Nat):Prop where
 len:ord.length=n
 bc:∀l,l<n→ord.getD l 0<n∧aj (ord.getD l 0)=l
theorem Ord.of(h:Ord n aj ord)(hl:kB n aj){v:Nat}(hv:v<n):ord.getD (aj v) 0=v:=by
 obtain⟨h1,h2⟩:=h.bc _ (hl.lt v hv)
 exact hl.inj _ _ h1 hv h2
def Fs(S:Nat→Fn)(R:Nat→Prop)(g:Fn):Prop:=∃r,R r∧g=S r
def A(N:eB)(aj:Nat→Nat)(n:Nat)(R:Nat→Prop):Nat→Nat→Prop
 |0,r=>R r
 |l+1,r=>(A N aj n R l r∧dep n aj N r≠l)∨∃p d,A N aj n R l p∧N p=some d∧aj d.v=l∧(r=d.lo∨r=d.hi)
variable {R:Nat→Prop}
theorem q9(h:WF n aj N)(hR:∀r,R r→live N r):∀l r,A N aj n R l r→live N r∧l≤dep n aj N r
 |0,r,ha=>⟨hR r ha,Nat.zero_le _⟩
 |l+1,r,ha=>by
  rcases ha with⟨h1,h2⟩|⟨p,d,h1,h2,h3,h4⟩
  ·have:=q9 h hR l r h1
   exact⟨this.1,by omega⟩
  ·rcases h4 with rfl|rfl
   ·have:=h.lo h2;exact⟨this.1,by omega⟩
   ·have:=h.hi h2;exact⟨this.1,by omega⟩
theorem Fh{r:Nat}:∀k l,A N aj n R l r→l+k≤dep n aj N r→A N aj n R (l+k) r
 |0,l,ha,_=>ha
 |k+1,l,ha,hk=>by
  have h1:=Fh k l ha (by omega)
  have h2:dep n aj N r≠l+k:=by omega
  exact .inl ⟨h1,h2⟩
def Reach(N:eB)(R:Nat→Prop):Prop:=∀r d,N r=some d→R r∨∃p e,N p=some e∧(e.lo=r∨e.hi=r)
theorem RL(h:WF n aj N)(hr:Reach N R):∀k r d,N r=some d→aj d.v≤k→A N aj n R (aj d.v) r:=by
 intro k
 induction k with
 |zero=>
  intro r d hd hk
  rcases hr r d hd with h1|⟨p,e,h1,h2⟩
  ·rw[show aj d.v=0 by omega];exact h1
  ·have:=h.lo h1
   have h3:=h.hi h1
   rcases h2 with rfl|rfl
   ·rw[ax hd]at this;omega
   ·rw[ax hd]at h3;omega
 |succ k ih=>
  intro r d hd hk
  rcases hr r d hd with h1|⟨p,e,h1,h2⟩
  ·have:=Fh (N:=N) (aj:=aj) (n:=n) (R:=R) (r:=r) (aj d.v) 0 h1 (by rw[ax hd];omega)
   rwa [Nat.zero_add]at this
  ·have hlt:aj e.v<aj d.v:=by
    have:=h.lo h1
    have h3:=h.hi h1
    rcases h2 with rfl|rfl
    ·rw[ax hd]at this;omega
    ·rw[ax hd]at h3;omega
   have ha:=ih p e h1 (by omega)
   have hb:A N aj n R (aj e.v+1) r:=.inr ⟨p,e,ha,h1,rfl,by rcases h2 with rfl|rfl;exact .inl rfl;exact .inr rfl⟩
   have:=Fh (aj d.v-(aj e.v+1)) _ hb (by rw[ax hd];omega)
   rwa [show aj e.v+1+(aj d.v-(aj e.v+1))=aj d.v by omega]at this
theorem P3(h:WF n aj N)(hl:kB n aj)(ho:Ord n aj ord)(hi:Interp N S)(hR:∀r,R r→live N r):∀l,l≤n→∀g,fs ord (Fs S R) l g↔∃r,A N aj n R l r∧g=S r
 |0,_,g=>Iff.rfl
 |l+1,L0,g=>by
  obtain⟨v1,v2⟩:=ho.bc l L0
  have ih:=P3 h hl ho hi hR l (by omega)
  constructor
  ·rintro⟨f,hf,b,rfl⟩
   obtain⟨r,ha,rfl⟩:=(ih f).1 hf
   obtain⟨hlv,hle⟩:=q9 h hR l r ha
   by_cases e:dep n aj N r=l
   ·rcases hlv with hc|⟨d,hd⟩
    ·rw[aX (h.const hc)]at e;omega
    ·rw[ax hd]at e
     have hv:d.v=ord.getD l 0:=hl.inj _ _ (h.var hd) v1 (by omega)
     refine⟨if b then d.hi else d.lo,.inr ⟨r,d,ha,hd,e,by cases b<;>simp⟩,?_⟩
     funext x
     rw[←hv];exact h.child hl hi hd x b
   ·refine⟨r,.inl ⟨ha,e⟩,?_⟩
    funext x
    exact h.bZ hl hi hlv v1 (by omega) x b
  ·rintro⟨r,ha,rfl⟩
   rcases ha with⟨h1,h2⟩|⟨p,d,h1,h2,h3,h4⟩
   ·obtain⟨hlv,hle⟩:=q9 h hR l r h1
    refine⟨S r,(ih _).2 ⟨r,h1,rfl⟩,false,?_⟩
    funext x
    exact(h.bZ hl hi hlv v1 (by omega) x false).symm
   ·have hv:d.v=ord.getD l 0:=hl.inj _ _ (h.var h2) v1 (by omega)
    rcases h4 with rfl|rfl
    ·refine⟨S p,(ih _).2 ⟨p,h1,rfl⟩,false,?_⟩
     funext x
     rw[←hv];exact(h.child hl hi h2 x false).symm
    ·refine⟨S p,(ih _).2 ⟨p,h1,rfl⟩,true,?_⟩
     funext x
     rw[←hv];exact(h.child hl hi h2 x true).symm
theorem mh(h:WF n aj N)(hl:kB n aj)(ho:Ord n aj ord)(hi:Interp N S)(hR:∀r,R r→live N r)(hr:Reach N R)(g:Fn):aR n ord (Fs S R) g↔∃r d,N r=some d∧g=S r:=by
 constructor
 ·rintro⟨l,L0,hf,x,hx⟩
  obtain⟨v1,v2⟩:=ho.bc l L0
  obtain⟨r,ha,rfl⟩:=(P3 h hl ho hi hR l (by omega) g).1 hf
  obtain⟨hlv,hle⟩:=q9 h hR l r ha
  by_cases e:dep n aj N r=l
  ·rcases hlv with hc|⟨d,hd⟩
   ·rw[aX (h.const hc)]at e;omega
   ·exact⟨r,d,hd,rfl⟩
  ·exact absurd (by rw[h.bZ hl hi hlv v1 (by omega),h.bZ hl hi hlv v1 (by omega)]) hx
 ·rintro⟨r,d,hd,rfl⟩
  have hv:=h.var hd
  have hlt:=hl.lt _ hv
  refine⟨aj d.v,hlt,(P3 h hl ho hi hR _ (by omega) _).2 ⟨r,RL h hr _ r d hd (Nat.le_refl _),rfl⟩,?_⟩
  rw[ho.of hl hv]
  refine Classical.byContradiction fun hno=>h.ne hd (h.same hl hi (h.lo hd).1 (h.hi hd).1 fun x=>?_)
  have c1:=h.child hl hi hd x false
  have c2:=h.child hl hi hd x true
  simp only[Bool.false_eq_true,if_false,if_true]at c1 c2
  rw[←c1,←c2]
  exact Classical.byContradiction fun hne=>hno ⟨x,hne⟩
def q8(P:Fn→Prop)(k:Nat):Prop:=∃l:List Fn,l.Nodup∧l.length=k∧∀g,P g↔g∈l
theorem q8.congr{P Q:Fn→Prop}{k:Nat}(h:q8 P k)(e:∀g,P g↔Q g):q8 Q k:=let ⟨l,h1,h2,h3⟩:=h;⟨l,h1,h2,fun g=>(e g).symm.trans (h3 g)⟩
theorem bP{α:Type}:∀{l l':List α},l.Nodup→(∀x∈l,x∈l')→l.length≤l'.length
 | [],l',_,_=>Nat.zero_le _
 |x::l,l',hn,hs=>by
  obtain⟨h1,h2⟩:=List.nodup_cons.1 hn
  obtain⟨a,b,rfl⟩:=List.append_of_mem (hs x (by simp))
  have:=bP (l':=a++b) h2 fun y hy=>by
   have:=hs y (by simp[hy])
   rcases List.mem_append.1 this with h|h
   ·exact List.mem_append_left _ h
   ·rcases List.mem_cons.1 h with rfl|h
    ·exact absurd hy h1
    ·exact List.mem_append_right _ h
  simp at this⊢;omega
theorem q8.le{P Q:Fn→Prop}{k k':Nat}(h:q8 P k)(h':q8 Q k')(e:∀g,P g→Q g):k≤k':=by
 obtain⟨l,h1,h2,h3⟩:=h
 obtain⟨l',zX,mB,yH⟩:=h'
 rw[←h2,←mB]
 exact bP h1 fun x hx=>(yH x).1 (e x ((h3 x).2 hx))
theorem q8.uniq{P:Fn→Prop}{k k':Nat}(h:q8 P k)(h':q8 P k'):k=k':=Nat.le_antisymm (h.le h' fun _=>id) (h'.le h fun _=>id)
theorem q8.or{P Q:Fn→Prop}{k k':Nat}(h:q8 P k)(h':q8 Q k')(e:∀g,P g→¬Q g):q8 (fun g=>P g∨Q g) (k+k'):=by
 obtain⟨l,h1,h2,h3⟩:=h
 obtain⟨l',zX,mB,yH⟩:=h'
 refine⟨l++l',List.nodup_append.2 ⟨h1,zX,fun a ha b hb e'=>?_⟩,by rw[List.length_append,h2,mB],fun g=>by rw[List.mem_append,←h3,←yH]⟩
 subst e'
 exact e a ((h3 a).2 ha) ((yH a).2 hb)
theorem wJ(h:WF n aj N)(hl:kB n aj)(hi:Interp N S){dom:List Nat}(hd:dom.Nodup)(hm:∀r,r∈dom↔∃d,N r=some d):q8 (fun g=>∃r d,N r=some d∧g=S r) dom.length:=by
 refine⟨dom.map S,?_,by simp,fun g=>?_⟩
 ·refine List.pairwise_map.2 (hd.imp_of_mem fun{a b} ha hb hne heq=>hne ?_)
  exact h.same hl hi (.inr ((hm a).1 ha)) (.inr ((hm b).1 hb)) fun x=>by rw[heq]
 ·rw[List.mem_map]
  constructor
  ·rintro⟨r,d,h1,rfl⟩;exact⟨r,(hm r).2 ⟨d,h1⟩,rfl⟩
  ·rintro⟨r,h1,rfl⟩;obtain⟨d,h2⟩:=(hm r).1 h1;exact⟨r,d,h2,rfl⟩
end aF
namespace aF
open aG
def up{α:Type}(N:Nat→α)(r:Nat)(o:α):Nat→α:=fun s=>if s=r then o else N s
@[simp] theorem aK{α:Type}{N:Nat→α}{r:Nat}{o:α}:up N r o r=o:=if_pos rfl
theorem aQ{α:Type}{N:Nat→α}{r s:Nat}{o:α}(h:s≠r):up N r o s=N s:=if_neg h
def o5(T:Nd→Option Nat)(d:Nd)(o:Option Nat):Nd→Option Nat:=fun e=>if e=d then o else T e
@[simp] theorem iN{T:Nd→Option Nat}{d:Nd}{o:Option Nat}:o5 T d o d=o:=if_pos rfl
theorem oe{T:Nd→Option Nat}{d e:Nd}{o:Option Nat}(h:e≠d):o5 T d o e=T e:=if_neg h
def e1:Option Nd→Nat→Nat
 |none,_=>0
 |some d,r=>(if d.lo=r then 1 else 0)+(if d.hi=r then 1 else 0)
theorem dM(d:Nd)(r:Nat):e1 (some d) r=(if d.lo=r then 1 else 0)+(if d.hi=r then 1 else 0):=rfl
def cU(N:eB)(r:Nat):Nat→Nat
 |0=>0
 |k+1=>cU N r k+e1 (N k) r
def lK(N:eB):Nat→Nat
 |0=>0
 |k+1=>lK N k+(if(N k).isSome then 1 else 0)
theorem wG{N:eB}{s r:Nat}{o:Option Nd}:∀{k},(s<k→cU (up N s o) r k+e1 (N s) r=cU N r k+e1 o r)∧(k≤s→cU (up N s o) r k=cU N r k)
 |0=>⟨fun h=>by omega,fun _=>rfl⟩
 |k+1=>by
  obtain⟨i1,i2⟩:=wG (N:=N) (s:=s) (r:=r) (o:=o) (k:=k)
  refine⟨fun h=>?_,fun h=>?_⟩
  ·rw[cU,cU]
   by_cases e:s=k
   ·subst e;rw[aK,i2 (Nat.le_refl _)];omega
   ·have:=i1 (by omega);rw[aQ (fun h=>e h.symm)];omega
  ·rw[cU,cU,i2 (by omega),aQ (by omega)]
theorem tN{N:eB}{s r k:Nat}{o:Option Nd}(h:s<k):cU (up N s o) r k+e1 (N s) r=cU N r k+e1 o r:=wG.1 h
theorem pW{N:eB}{s:Nat}{o:Option Nd}:∀{k},(s<k→lK (up N s o) k+(if(N s).isSome then 1 else 0)=lK N k+(if o.isSome then 1 else 0))∧(k≤s→lK (up N s o) k=lK N k)
 |0=>⟨fun h=>by omega,fun _=>rfl⟩
 |k+1=>by
  obtain⟨i1,i2⟩:=pW (N:=N) (s:=s) (o:=o) (k:=k)
  refine⟨fun h=>?_,fun h=>?_⟩
  ·rw[lK,lK]
   by_cases e:s=k
   ·subst e;rw[aK,i2 (Nat.le_refl _)];omega
   ·have:=i1 (by omega);rw[aQ (fun h=>e h.symm)];omega
  ·rw[lK,lK,i2 (by omega),aQ (by omega)]
theorem iY{N:eB}{r:Nat}:∀{k},cU N r k=0→∀s,s<k→∀d,N s=some d→d.lo≠r∧d.hi≠r
 |0,_,s,hs,_,_=>by omega
 |k+1,h,s,hs,d,hd=>by
  rw[cU]at h
  by_cases e:s=k
  ·subst e
   rw[hd,dM]at h
   constructor
   ·intro h1;rw[if_pos h1]at h;omega
   ·intro h1;rw[if_pos h1]at h;omega
  ·exact iY (k:=k) (by omega) s (by omega) d hd
theorem qS{N:eB}{r:Nat}:∀{k},0<cU N r k→∃s d,s<k∧N s=some d∧(d.lo=r∨d.hi=r)
 |0,h=>by simp[cU]at h
 |k+1,h=>by
  rw[cU]at h
  by_cases hk:0<cU N r k
  ·obtain⟨s,d,h1,h2,h3⟩:=qS hk;exact⟨s,d,by omega,h2,h3⟩
  ·cases hd:N k with
   |none=>rw[hd]at h;simp[e1]at h;omega
   |some d=>
    refine⟨k,d,by omega,hd,?_⟩
    rw[hd,dM]at h
    by_cases h1:d.lo=r
    ·exact .inl h1
    ·by_cases h2:d.hi=r
     ·exact .inr h2
     ·rw[if_neg h1,if_neg h2]at h;omega
theorem Ak{N:eB}{r:Nat}:∀k,cU N r k≤2*k
 |0=>Nat.le_refl _
 |k+1=>by
  have:=Ak (N:=N) (r:=r) k
  rw[cU]
  have:e1 (N k) r≤2:=by
   cases N k with
   |none=>simp[e1]
   |some d=>rw[dM];split<;>split<;>omega
  omega
theorem Aq(N:eB):∀k,((List.range k).filter fun r=>(N r).isSome).length=lK N k
 |0=>rfl
 |k+1=>by
  rw[List.range_succ,List.filter_append,List.length_append,Aq N k,lK]
  congr 1
  cases h:N k<;>simp[h]
structure Kd where
 n:Nat
 cap:Nat
 used:Nat
 N:eB
 T:Nd→Option Nat
 us:List Nat
 ho:List Nat
def Kd.hold(K:Kd)(r:Nat):Nat:=K.ho.getD r 0
def Kd.use(K:Kd)(r:Nat):Nat:=K.us.getD r 0
structure iK(K:Kd)(S:Nat→Fn)(E:Nat→Prop)(P:Nat→Nat):Prop where
 two:∀{r d},K.N r=some d→2≤r∧r<K.cap
 var:∀{r d},K.N r=some d→d.v<K.n
 ne:∀{r d},K.N r=some d→d.lo≠d.hi
 lo:∀{r d},K.N r=some d→live K.N d.lo
 hi:∀{r d},K.N r=some d→live K.N d.hi
 int:Interp K.N S
 jF:∀d r,K.T d=some r↔K.N r=some d∧¬E r
 use:∀{r d},K.N r=some d→K.use r=cU K.N r K.cap+(if K.hold r=0 then 0 else 1)+P r
 len:K.us.length=K.ho.length
 fit:∀{r d},K.N r=some d→r<K.us.length
 held:∀r,K.hold r≠0→∃d,K.N r=some d
 mx:∀r,K.hold r≤65535
 room:K.used=2+lK K.N K.cap
 cap:K.used≤K.cap∧K.cap≤1048576
variable {K:Kd} {S:Nat→Fn} {E:Nat→Prop} {P:Nat→Nat}
theorem jt{N:eB}{r s:Nat}{d:Nd}(h:live N s):live (up N r (some d)) s:=by
 rcases h with h|⟨e,h⟩
 ·exact .inl h
 ·by_cases e2:s=r
  ·subst e2;exact .inr ⟨d,aK⟩
  ·exact .inr ⟨e,by rw[aQ e2];exact h⟩
theorem wc{N:eB}{r s:Nat}(h:live N s)(hne:s≠r):live (up N r none) s:=by
 rcases h with h|⟨e,h⟩
 ·exact .inl h
 ·exact .inr ⟨e,by rw[aQ hne];exact h⟩
def Pos(K:Kd):Prop:=∀r d,K.N r=some d→0<K.use r
theorem iK.less(h:iK K S E P){r:Nat}{de:List Nat}(hP:0<P r)(hl:de.length=K.us.length)(h1:de.getD r 0+1=K.use r)(h2:∀s,s≠r→de.getD s 0=K.use s):
  iK {K with us:=de} S E (up P r (P r-1)) where
 two:=h.two
 var:=h.var
 ne:=h.ne
 lo:=h.lo
 hi:=h.hi
 int:=h.int
 jF:=h.jF
 use:=fun{s d} hd=>by
  have:=h.use hd
  show de.getD s 0=cU K.N s K.cap+(if K.hold s=0 then 0 else 1)+up P r (P r-1) s
  by_cases e:s=r
  ·subst e
   rw[aK]
   omega
  ·rw[h2 s e,aQ e];exact this
 len:=by show de.length=_;rw[hl];exact h.len
 fit:=fun{s d} hd=>by show s<de.length;rw[hl];exact h.fit hd
 held:=h.held
 mx:=h.mx
 room:=h.room
 cap:=h.cap
theorem iK.free(h:iK K S E P){r:Nat}{d:Nd}(hd:K.N r=some d)(hE:¬E r)(h0:K.use r=0):
  iK {K with N:=up K.N r none,T:=o5 K.T d none,used:=K.used-1} S E (fun s=>P s+e1 (some d) s) where
 two:=fun{s e} hs=>by
  have hs':up K.N r none s=some e:=hs
  by_cases e2:s=r
  ·subst e2;rw[aK]at hs';cases hs'
  ·rw[aQ e2]at hs';exact h.two hs'
 var:=fun{s e} hs=>by
  have hs':up K.N r none s=some e:=hs
  by_cases e2:s=r
  ·subst e2;rw[aK]at hs';cases hs'
  ·rw[aQ e2]at hs';exact h.var hs'
 ne:=fun{s e} hs=>by
  have hs':up K.N r none s=some e:=hs
  by_cases e2:s=r
  ·subst e2;rw[aK]at hs';cases hs'
  ·rw[aQ e2]at hs';exact h.ne hs'
 lo:=fun{s e} hs=>by
  have hs':up K.N r none s=some e:=hs
  by_cases e2:s=r
  ·subst e2;rw[aK]at hs';cases hs'
  ·rw[aQ e2]at hs'
   have hu:=h.use hd
   exact wc (h.lo hs') (iY (by omega) s (h.two hs').2 e hs').1
 hi:=fun{s e} hs=>by
  have hs':up K.N r none s=some e:=hs
  by_cases e2:s=r
  ·subst e2;rw[aK]at hs';cases hs'
  ·rw[aQ e2]at hs'
   have hu:=h.use hd
   exact wc (h.hi hs') (iY (by omega) s (h.two hs').2 e hs').2
 int:=⟨h.int.zero,h.int.one,fun{s e} hs x=>by
  have hs':up K.N r none s=some e:=hs
  by_cases e2:s=r
  ·subst e2;rw[aK]at hs';cases hs'
  ·rw[aQ e2]at hs';exact h.int.node hs' x⟩
 jF:=fun e s=>by
  show o5 K.T d none e=some s↔up K.N r none s=some e∧_
  by_cases e2:e=d
  ·subst e2
   rw[iN]
   constructor
   ·intro h;cases h
   ·rintro⟨h1,h2⟩
    by_cases e3:s=r
    ·subst e3;rw[aK]at h1;cases h1
    ·rw[aQ e3]at h1
     have a:=(h.jF e s).2 ⟨h1,h2⟩
     have b:=(h.jF e r).2 ⟨hd,hE⟩
     rw[a]at b;cases b;exact absurd rfl e3
  ·rw[oe e2,h.jF]
   by_cases e3:s=r
   ·subst e3
    rw[aK]
    constructor
    ·rintro⟨h1,_⟩;rw[hd]at h1;cases h1;exact absurd rfl e2
    ·rintro⟨h1,_⟩;cases h1
   ·rw[aQ e3]
 use:=fun{s e} hs=>by
  have hs':up K.N r none s=some e:=hs
  by_cases e2:s=r
  ·subst e2;rw[aK]at hs';cases hs'
  ·rw[aQ e2]at hs'
   have hu:=h.use hs'
   have he:=tN (N:=K.N) (s:=r) (r:=s) (k:=K.cap) (o:=none) (h.two hd).2
   show K.use s=cU (up K.N r none) s K.cap+(if K.hold s=0 then 0 else 1)+(P s+e1 (some d) s)
   rw[hd]at he
   have:e1 none s=0:=rfl
   omega
 len:=h.len
 fit:=fun{s e} hs=>by
  have hs':up K.N r none s=some e:=hs
  by_cases e2:s=r
  ·subst e2;rw[aK]at hs';cases hs'
  ·rw[aQ e2]at hs';exact h.fit hs'
 held:=fun s hs=>by
  obtain⟨e,he⟩:=h.held s hs
  have hne:s≠r:=fun e2=>by
   subst e2
   have hu:=h.use hd
   have hs':K.hold s≠0:=hs
   rw[if_neg hs']at hu;omega
  exact⟨e,by show up K.N r none s=_;rw[aQ hne];exact he⟩
 mx:=h.mx
 room:=by
  have:=(pW (N:=K.N) (s:=r) (o:=none) (k:=K.cap)).1 (h.two hd).2
  have hr:=h.room
  rw[hd]at this
  show K.used-1=2+lK (up K.N r none) K.cap
  simp at this;omega
 cap:=⟨by have:=h.cap.1;show K.used-1≤K.cap;omega,h.cap.2⟩
theorem iK.more(h:iK K S E P){r:Nat}{de:List Nat}(hl:de.length=K.us.length)(h1:de.getD r 0=K.use r+1)(h2:∀s,s≠r→de.getD s 0=K.use s):
  iK {K with us:=de} S E (up P r (P r+1)) where
 two:=h.two
 var:=h.var
 ne:=h.ne
 lo:=h.lo
 hi:=h.hi
 int:=h.int
 jF:=h.jF
 use:=fun{s d} hd=>by
  have:=h.use hd
  show de.getD s 0=cU K.N s K.cap+(if K.hold s=0 then 0 else 1)+up P r (P r+1) s
  by_cases e:s=r
  ·subst e
   rw[aK]
   omega
  ·rw[h2 s e,aQ e];exact this
 len:=by show de.length=_;rw[hl];exact h.len
 fit:=fun{s d} hd=>by show s<de.length;rw[hl];exact h.fit hd
 held:=h.held
 mx:=h.mx
 room:=h.room
 cap:=h.cap
end aF
namespace aF
open aG
variable {K:Kd} {S:Nat→Fn} {E:Nat→Prop} {P:Nat→Nat}
def ite(S:Nat→Fn)(d:Nd):Fn:=fun x=>if x.testBit d.v then S d.hi x else S d.lo x
theorem fw{N:eB}{r s:Nat}(h:live N s)(h2:2≤r)(hr:N r=none):s≠r:=fun e=>by
 subst e
 rcases h with h|⟨d,h⟩
 ·omega
 ·rw[hr]at h;cases h
theorem iK.lay(h:iK K S E P){r:Nat}{d:Nd}{de cz:List Nat}(hr:K.N r=none)(h2:2≤r∧r<K.cap)(hv:d.v<K.n)(hne:d.lo≠d.hi)(hlo:live K.N d.lo)(hhi:live K.N d.hi)(hT:K.T d=none)(hE:¬E r)
 (hP:P r=0)(hro:K.used<K.cap)(hl:de.length=cz.length)(hf:r<de.length∧K.us.length≤de.length)(u0:de.getD r 0=0)(u1:∀s,2≤s→s≠r→de.getD s 0=K.use s+e1 (some d) s)(o0:cz.getD r 0=0)(o1:∀s,s≠r→cz.getD s 0=K.hold s):
  iK {K with N:=up K.N r (some d),T:=o5 K.T d (some r),used:=K.used+1,us:=de,ho:=cz} (up S r (ite S d)) E P where
 two:=fun{s e} hs=>by
  have hs':up K.N r (some d) s=some e:=hs
  by_cases e2:s=r
  ·subst e2;exact h2
  ·rw[aQ e2]at hs';exact h.two hs'
 var:=fun{s e} hs=>by
  have hs':up K.N r (some d) s=some e:=hs
  by_cases e2:s=r
  ·subst e2;rw[aK]at hs';cases hs';exact hv
  ·rw[aQ e2]at hs';exact h.var hs'
 ne:=fun{s e} hs=>by
  have hs':up K.N r (some d) s=some e:=hs
  by_cases e2:s=r
  ·subst e2;rw[aK]at hs';cases hs';exact hne
  ·rw[aQ e2]at hs';exact h.ne hs'
 lo:=fun{s e} hs=>by
  have hs':up K.N r (some d) s=some e:=hs
  by_cases e2:s=r
  ·subst e2;rw[aK]at hs';cases hs';exact jt hlo
  ·rw[aQ e2]at hs';exact jt (h.lo hs')
 hi:=fun{s e} hs=>by
  have hs':up K.N r (some d) s=some e:=hs
  by_cases e2:s=r
  ·subst e2;rw[aK]at hs';cases hs';exact jt hhi
  ·rw[aQ e2]at hs';exact jt (h.hi hs')
 int:=⟨fun x=>by rw[aQ (by omega)];exact h.int.zero x,fun x=>by rw[aQ (by omega)];exact h.int.one x,fun{s e} hs x=>by
  have hs':up K.N r (some d) s=some e:=hs
  by_cases e2:s=r
  ·subst e2;rw[aK]at hs';cases hs'
   rw[aK,aQ (fw hlo h2.1 hr),aQ (fw hhi h2.1 hr)];rfl
  ·rw[aQ e2]at hs'
   rw[aQ e2,aQ (fw (h.lo hs') h2.1 hr),aQ (fw (h.hi hs') h2.1 hr)]
   exact h.int.node hs' x⟩
 jF:=fun e s=>by
  show o5 K.T d (some r) e=some s↔up K.N r (some d) s=some e∧_
  by_cases e2:e=d
  ·subst e2
   rw[iN]
   constructor
   ·intro h;cases h;exact⟨aK,hE⟩
   ·rintro⟨h1,mB⟩
    by_cases e3:s=r
    ·rw[e3]
    ·rw[aQ e3]at h1
     have a:=(h.jF e s).2 ⟨h1,mB⟩
     rw[hT]at a;cases a
  ·rw[oe e2,h.jF]
   by_cases e3:s=r
   ·subst e3
    rw[aK,hr]
    constructor
    ·rintro⟨h1,_⟩;cases h1
    ·rintro⟨h1,_⟩;cases h1;exact absurd rfl e2
   ·rw[aQ e3]
 use:=fun{s e} hs=>by
  have hs':up K.N r (some d) s=some e:=hs
  have he:=tN (N:=K.N) (s:=r) (r:=s) (k:=K.cap) (o:=some d) h2.2
  rw[hr]at he
  have h0:e1 none s=0:=rfl
  show de.getD s 0=cU (up K.N r (some d)) s K.cap+(if cz.getD s 0=0 then 0 else 1)+P s
  by_cases e2:s=r
  ·subst e2
   have hz:cU K.N s K.cap=0:=by
    refine Nat.eq_zero_of_not_pos fun hp=>?_
    obtain⟨t,e',_,ht,hc⟩:=qS hp
    have vb:=fw (h.lo ht) h2.1 hr
    have qh:=fw (h.hi ht) h2.1 hr
    rcases hc with hc|hc
    ·exact vb hc
    ·exact qh hc
   have hd0:e1 (some d) s=0:=by
    rw[dM,if_neg (fw hlo h2.1 hr),if_neg (fw hhi h2.1 hr)]
   rw[u0,o0,if_pos rfl];omega
  ·rw[aQ e2]at hs'
   have hu:=h.use hs'
   have h3:cz.getD s 0=K.hold s:=o1 s e2
   rw[u1 s (h.two hs').1 e2,h3];omega
 len:=hl
 fit:=fun{s e} hs=>by
  have hs':up K.N r (some d) s=some e:=hs
  show s<de.length
  by_cases e2:s=r
  ·subst e2;exact hf.1
  ·rw[aQ e2]at hs';exact Nat.lt_of_lt_of_le (h.fit hs') hf.2
 held:=fun s hs=>by
  have hs':cz.getD s 0≠0:=hs
  by_cases e2:s=r
  ·subst e2;exact⟨d,aK⟩
  ·rw[o1 s e2]at hs'
   obtain⟨e,he⟩:=h.held s hs'
   exact⟨e,by show up K.N r (some d) s=_;rw[aQ e2];exact he⟩
 mx:=fun s=>by
  show cz.getD s 0≤65535
  by_cases e2:s=r
  ·subst e2;rw[o0];decide
  ·rw[o1 s e2];exact h.mx s
 room:=by
  have:=(pW (N:=K.N) (s:=r) (o:=some d) (k:=K.cap)).1 h2.2
  have hr':=h.room
  rw[hr]at this
  show K.used+1=2+lK (up K.N r (some d)) K.cap
  simp at this;omega
 cap:=⟨by show K.used+1≤K.cap;omega,h.cap.2⟩
theorem iK.abT(h:iK K S E P){r:Nat}{d:Nd}(hd:K.N r=some d)(hE:¬E r):iK {K with T:=o5 K.T d none} S (fun s=>E s∨s=r) P where
 two:=h.two
 var:=h.var
 ne:=h.ne
 lo:=h.lo
 hi:=h.hi
 int:=h.int
 jF:=fun e s=>by
  show o5 K.T d none e=some s↔_
  by_cases e2:e=d
  ·subst e2
   rw[iN]
   constructor
   ·intro h;cases h
   ·rintro⟨h1,h2⟩
    have a:=(h.jF e s).2 ⟨h1,fun x=>h2 (.inl x)⟩
    have b:=(h.jF e r).2 ⟨hd,hE⟩
    rw[a]at b;cases b;exact absurd (.inr rfl) h2
  ·rw[oe e2,h.jF]
   constructor
   ·rintro⟨h1,h2⟩
    refine⟨h1,fun x=>?_⟩
    rcases x with x|rfl
    ·exact h2 x
    ·have zX:K.N s=some e:=h1
     rw[hd]at zX;cases zX;exact e2 rfl
   ·rintro⟨h1,h2⟩;exact⟨h1,fun x=>h2 (.inl x)⟩
 use:=h.use
 len:=h.len
 fit:=h.fit
 held:=h.held
 mx:=h.mx
 room:=h.room
 cap:=h.cap
theorem iK.xq(h:iK K S E P){r:Nat}{d d':Nd}{P':Nat→Nat}(hd:K.N r=some d)(hE:E r)(hv:d'.v<K.n)(hne:d'.lo≠d'.hi)(hlo:live K.N d'.lo)(hhi:live K.N d'.hi)(hT:K.T d'=none)(hS:∀x,S r x=ite S d' x)
 (hP:∀s,2≤s→P' s+e1 (some d') s=P s+e1 (some d) s):iK {K with N:=up K.N r (some d'),T:=o5 K.T d' (some r)} S (fun s=>E s∧s≠r) P' where
 two:=fun{s e} hs=>by
  have hs':up K.N r (some d') s=some e:=hs
  by_cases e2:s=r
  ·subst e2;exact h.two hd
  ·rw[aQ e2]at hs';exact h.two hs'
 var:=fun{s e} hs=>by
  have hs':up K.N r (some d') s=some e:=hs
  by_cases e2:s=r
  ·subst e2;rw[aK]at hs';cases hs';exact hv
  ·rw[aQ e2]at hs';exact h.var hs'
 ne:=fun{s e} hs=>by
  have hs':up K.N r (some d') s=some e:=hs
  by_cases e2:s=r
  ·subst e2;rw[aK]at hs';cases hs';exact hne
  ·rw[aQ e2]at hs';exact h.ne hs'
 lo:=fun{s e} hs=>by
  have hs':up K.N r (some d') s=some e:=hs
  by_cases e2:s=r
  ·subst e2;rw[aK]at hs';cases hs';exact jt hlo
  ·rw[aQ e2]at hs';exact jt (h.lo hs')
 hi:=fun{s e} hs=>by
  have hs':up K.N r (some d') s=some e:=hs
  by_cases e2:s=r
  ·subst e2;rw[aK]at hs';cases hs';exact jt hhi
  ·rw[aQ e2]at hs';exact jt (h.hi hs')
 int:=⟨h.int.zero,h.int.one,fun{s e} hs x=>by
  have hs':up K.N r (some d') s=some e:=hs
  by_cases e2:s=r
  ·subst e2;rw[aK]at hs';cases hs';exact hS x
  ·rw[aQ e2]at hs';exact h.int.node hs' x⟩
 jF:=fun e s=>by
  show o5 K.T d' (some r) e=some s↔up K.N r (some d') s=some e∧¬(E s∧s≠r)
  by_cases e2:e=d'
  ·subst e2
   rw[iN]
   constructor
   ·intro h;cases h;exact⟨aK,fun x=>x.2 rfl⟩
   ·rintro⟨h1,mB⟩
    by_cases e3:s=r
    ·rw[e3]
    ·rw[aQ e3]at h1
     have a:=(h.jF e s).2 ⟨h1,fun x=>mB ⟨x,e3⟩⟩
     rw[hT]at a;cases a
  ·rw[oe e2,h.jF]
   by_cases e3:s=r
   ·subst e3
    rw[aK]
    constructor
    ·rintro⟨_,h1⟩;exact absurd hE h1
    ·rintro⟨h1,_⟩;cases h1;exact absurd rfl e2
   ·rw[aQ e3]
    constructor
    ·rintro⟨h1,h2⟩;exact⟨h1,fun x=>h2 x.1⟩
    ·rintro⟨h1,h2⟩;exact⟨h1,fun x=>h2 ⟨x,e3⟩⟩
 use:=fun{s e} hs=>by
  have hs':up K.N r (some d') s=some e:=hs
  have he:=tN (N:=K.N) (s:=r) (r:=s) (k:=K.cap) (o:=some d') (h.two hd).2
  rw[hd]at he
  show K.use s=cU (up K.N r (some d')) s K.cap+(if K.hold s=0 then 0 else 1)+P' s
  by_cases e2:s=r
  ·subst e2
   have hu:=h.use hd
   have:=hP s (h.two hd).1
   omega
  ·rw[aQ e2]at hs'
   have hu:=h.use hs'
   have:=hP s (h.two hs').1
   omega
 len:=h.len
 fit:=fun{s e} hs=>by
  have hs':up K.N r (some d') s=some e:=hs
  by_cases e2:s=r
  ·subst e2;exact h.fit hd
  ·rw[aQ e2]at hs';exact h.fit hs'
 held:=fun s hs=>by
  obtain⟨e,he⟩:=h.held s hs
  by_cases e2:s=r
  ·subst e2;exact⟨d',aK⟩
  ·exact⟨e,by show up K.N r (some d') s=_;rw[aQ e2];exact he⟩
 mx:=h.mx
 room:=by
  have:=(pW (N:=K.N) (s:=r) (o:=some d') (k:=K.cap)).1 (h.two hd).2
  have hr':=h.room
  rw[hd]at this
  show K.used=2+lK (up K.N r (some d')) K.cap
  simp at this;omega
 cap:=h.cap
theorem iK.keep(h:iK K S E P){r:Nat}{de cz:List Nat}(hr:∃d,K.N r=some d)(hm:K.hold r<65535)(hl:de.length=K.us.length∧cz.length=K.ho.length)(o0:cz.getD r 0=K.hold r+1)(o1:∀s,s≠r→cz.getD s 0=K.hold s)
 (u0:de.getD r 0=K.use r+(if K.hold r=0 then 1 else 0))(u1:∀s,s≠r→de.getD s 0=K.use s):iK {K with us:=de,ho:=cz} S E P where
 two:=h.two
 var:=h.var
 ne:=h.ne
 lo:=h.lo
 hi:=h.hi
 int:=h.int
 jF:=h.jF
 use:=fun{s e} hs=>by
  have hu:=h.use hs
  show de.getD s 0=cU K.N s K.cap+(if cz.getD s 0=0 then 0 else 1)+P s
  by_cases e2:s=r
  ·subst e2
   rw[u0,o0,if_neg (by omega:¬K.hold s+1=0)]
   by_cases e3:K.hold s=0
   ·rw[if_pos e3]at hu⊢;omega
   ·rw[if_neg e3]at hu⊢;omega
  ·rw[u1 s e2,o1 s e2];exact hu
 len:=by show de.length=cz.length;rw[hl.1,hl.2];exact h.len
 fit:=fun{s e} hs=>by show s<de.length;rw[hl.1];exact h.fit hs
 held:=fun s hs=>by
  have hs':cz.getD s 0≠0:=hs
  by_cases e2:s=r
  ·subst e2;exact hr
  ·rw[o1 s e2]at hs';exact h.held s hs'
 mx:=fun s=>by
  show cz.getD s 0≤65535
  by_cases e2:s=r
  ·subst e2;rw[o0];omega
  ·rw[o1 s e2];exact h.mx s
 room:=h.room
 cap:=h.cap
theorem iK.drop(h:iK K S E P){r:Nat}{cz:List Nat}(hr:0<K.hold r)(hl:cz.length=K.ho.length)(o0:cz.getD r 0+1=K.hold r)(o1:∀s,s≠r→cz.getD s 0=K.hold s):
  iK {K with ho:=cz} S E (if K.hold r=1 then up P r (P r+1)else P) where
 two:=h.two
 var:=h.var
 ne:=h.ne
 lo:=h.lo
 hi:=h.hi
 int:=h.int
 jF:=h.jF
 use:=fun{s e} hs=>by
  have hu:=h.use hs
  show K.use s=cU K.N s K.cap+(if cz.getD s 0=0 then 0 else 1)+(if K.hold r=1 then up P r (P r+1)else P) s
  by_cases e2:s=r
  ·subst e2
   rw[if_neg (by omega:¬K.hold s=0)]at hu
   by_cases e3:K.hold s=1
   ·rw[if_pos e3,aK,if_pos (by omega)];omega
   ·rw[if_neg e3,if_neg (by omega)];omega
  ·rw[o1 s e2]
   by_cases e3:K.hold r=1
   ·rw[if_pos e3,aQ e2];exact hu
   ·rw[if_neg e3];exact hu
 len:=by show K.us.length=cz.length;rw[hl];exact h.len
 fit:=h.fit
 held:=fun s hs=>by
  have hs':cz.getD s 0≠0:=hs
  by_cases e2:s=r
  ·subst e2;exact h.held s (by omega)
  ·rw[o1 s e2]at hs';exact h.held s hs'
 mx:=fun s=>by
  show cz.getD s 0≤65535
  have:=h.mx r
  by_cases e2:s=r
  ·subst e2;omega
  ·rw[o1 s e2];exact h.mx s
 room:=h.room
 cap:=h.cap
theorem iK.congr(h:iK K S E P){E':Nat→Prop}{P':Nat→Nat}(hE:∀s,E s↔E' s)(hP:∀s,2≤s→P s=P' s):iK K S E' P' where
 two:=h.two
 var:=h.var
 ne:=h.ne
 lo:=h.lo
 hi:=h.hi
 int:=h.int
 jF:=fun d r=>by rw[h.jF,hE]
 use:=fun{s e} hs=>by rw[←hP s (h.two hs).1];exact h.use hs
 len:=h.len
 fit:=h.fit
 held:=h.held
 mx:=h.mx
 room:=h.room
 cap:=h.cap
def gP:Nat→Prop:=fun _=>False
def zero':Nat→Nat:=fun _=>0
structure Ok(K:Kd)(S:Nat→Fn)(aj:Nat→Nat):Prop where
 mid:iK K S gP zero'
 pos:Pos K
 lv:kB K.n aj
 wf:WF K.n aj K.N
theorem iK.uq(h:iK K S gP P){r r':Nat}{d:Nd}(h1:K.N r=some d)(h2:K.N r'=some d):r=r':=by
 have a:=(h.jF d r).2 ⟨h1,fun x=>x⟩
 have b:=(h.jF d r').2 ⟨h2,fun x=>x⟩
 rw[a]at b;cases b;rfl
theorem iK.wf(h:iK K S gP P){aj:Nat→Nat}(hl:∀{r d},K.N r=some d→aj d.v<dep K.n aj K.N d.lo∧aj d.v<dep K.n aj K.N d.hi):WF K.n aj K.N:=
 ⟨fun hd=>(h.two hd).1,h.var,h.ne,fun hd=>⟨h.lo hd,(hl hd).1⟩,fun hd=>⟨h.hi hd,(hl hd).2⟩,h.uq⟩
theorem Ok.reach{aj:Nat→Nat}(h:Ok K S aj):Reach K.N (fun r=>K.hold r≠0):=fun r d hd=>by
 have hu:=h.mid.use hd
 have hp:=h.pos r d hd
 by_cases e:K.hold r=0
 ·rw[if_pos e]at hu
  have:zero' r=0:=rfl
  obtain⟨s,e',_,h1,h2⟩:=qS (N:=K.N) (r:=r) (k:=K.cap) (by omega)
  exact .inr ⟨s,e',h1,h2⟩
 ·exact .inl e
theorem Ok.dom{aj:Nat→Nat}(h:Ok K S aj):∃dom:List Nat,dom.Nodup∧dom.length+2=K.used∧∀r,r∈dom↔∃d,K.N r=some d:=by
 refine⟨(List.range K.cap).filter fun r=>(K.N r).isSome,List.nodup_range.filter _,by rw[Aq,h.mid.room];omega,fun r=>?_⟩
 rw[List.mem_filter,List.mem_range,Option.isSome_iff_exists]
 exact⟨fun h=>h.2,fun⟨d,hd⟩=>⟨(h.mid.two hd).2,d,hd⟩⟩
def Kd.held(K:Kd)(S:Nat→Fn):Fn→Prop:=Fs S fun r=>K.hold r≠0
theorem Ok.size{aj:Nat→Nat}{ord:List Nat}(h:Ok K S aj)(ho:Ord K.n aj ord):q8 (aR K.n ord (K.held S)) (K.used-2):=by
 obtain⟨dom,h1,h2,h3⟩:=h.dom
 have hc:=wJ h.wf h.lv h.mid.int h1 h3
 rw[show dom.length=K.used-2 by omega]at hc
 refine hc.congr fun g=>?_
 exact(mh h.wf h.lv ho h.mid.int (fun r hr=>.inr (h.mid.held r hr)) h.reach g).symm
end aF
