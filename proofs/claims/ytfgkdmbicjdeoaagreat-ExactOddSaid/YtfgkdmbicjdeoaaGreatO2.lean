import Derived.Test.YtfgkdmbicjdeoaaGreatO1
import Derived.ChangeKeysEq
import Derived.Defers
import Derived.Laws.StructEq
import Derived.Test.YtfgkdmbicjdeoaaGreatProg
import Derived.RangeFuncIn
import Derived.RangeFuncLeaves
import Derived.RangeFuncRecord
import Derived.RangeFuncSeq
import Derived.Deep.Slices
import Derived.SizedLaws
set_option linter.unusedVariables false
set_option linter.unusedSimpArgs false
set_option linter.unusedSectionVars false
namespace Go.Sx
open Go
section
variable {P:Program} {H:Hp}
theorem aG.int{t e:Nat}{kd:IntKind}{x:Int}{K:Value→Hp→Prop}(h1:P.underlying t=some (.slice e))(h2:bG P e=some 1)(h3:cV P e=some (.int kd 0))
 (h:∀b,K (.slice (some ⟨b,0,none⟩) 1 1) ((b,.cells (aC kd [x]) e (0,0))::H)):aG P t 1 [(0,.int kd x)] H K:=by
 refine⟨aC kd [x],e,1,_,h1,h2,h3,by decide,?_,fun b _=>h b⟩
 have e1:Array.range 1=#[0]:=rfl
 simp[Instr.fill,Value.cells,aC,e1]
theorem aG.none{t e k:Nat}{z:Value}{K:Value→Hp→Prop}(h1:P.underlying t=some (.slice e))(h2:bG P e=some k)(h3:cV P e=some z)
 (h:∀b,K (.slice (some ⟨b,0,none⟩) 0 0) ((b,.cells #[] e (0,0))::H)):aG P t 0 [] H K:=by
 refine⟨_,e,k,z,h1,h2,h3,by simp,rfl,fun b _=>?_⟩
 have:((Array.range (0*k)).map fun i=>z.cells[i%z.cells.size]!)=#[]:=by simp
 rw[this];exact h b
def iu(T:TypeId)(v:Value)(ts:List Tb)(C B:Hp):Prop:=∃rs,bC T 2 v rs C∧gR (nS B) rs ts
theorem iu.nil{T:TypeId}{B:Hp}:iu T (.slice none 0 0) [] [] B:=⟨[],bC.nil _ _,gR.nil⟩
theorem iu.mono{T:TypeId}{v:Value}{ts:List Tb}{C B B':Hp}(h:iu T v ts C B)(hs:∀x∈B,x∈B'):iu T v ts C B':=let ⟨rs,h1,h2⟩:=h;⟨rs,h1,h2.mono fun _ _ h=>h.mono hs⟩
theorem iu.Aa{T:TypeId}{v:Value}{ts:List Tb}{C B B':Hp}(h:iu T v ts C B)(hc:∀x∈C,x∈B')(hb:∀x∈B,x∈B'):bN B' v ts:=by
 obtain⟨rs,h1,h2⟩:=h;exact⟨rs,(Sl.qU h1 (by decide)).mono hc,h2.mono fun _ _ h=>h.mono hb⟩
theorem iu.app{T:TypeId}{v:Value}{ts:List Tb}{C B0 A B:Hp}(h:iu T v ts C B0){xb xc:Nat}{t:Tb}{s:Value}{xT:TypeId}{fz:Nat×Nat}(hx:(xb,Obj.cells #[.int .i64 t.n,s] xT fz)∈A++(C++B))(hw:Words B0 s t.ws)
 (hl:ts.length<4398046511103){K:Value→Hp→Prop}(hk:∀v' C',iu T v' (ts++[t]) C' B0→K v' (A++(C'++B))):App P T 2 32 (.agg #[.int .i64 0,.slice none 0 0]) (A++(C++B)) v (.slice (some ⟨xb,0,none⟩) 1 xc) K:=by
 obtain⟨rs,h1,h2⟩:=h
 have hs:s.oneCell'=true:=by obtain⟨a,c,rfl,_⟩:=hw.1.shape;rfl
 have xg:=h2.1
 refine h1.tA (r:=[.int .i64 t.n,s]) hx rfl (fun u hu=>by simp only[List.mem_cons,List.not_mem_nil,or_false]at hu;rcases hu with rfl|rfl;rfl;exact hs) ⟨[.int .i64 0,.slice none 0 0],rfl,rfl⟩ (by omega) (by omega) fun v' C' ho=>hk v' C' ⟨_,ho,h2.snoc ⟨s,rfl,hw⟩⟩
def ik(l:List UInt8):List (List Value):=l.map fun b=>[Value.int .u8 b.toNat]
theorem po(l:List UInt8):rows (ik l)=(l.map fun b=>Value.int .u8 b.toNat).toArray:=by
 unfold rows ik
 congr 1
 induction l with
 |nil=>rfl
 |cons b r ih=>simp[ih]
theorem dO.own{T:TypeId}{v:Value}{l:List UInt8}{C:Hp}(h:bC T 1 v (ik l) C)(hs:∀x∈C,x∈H){K:Value→Prop}(hk:K (.string ⟨l.toArray⟩)):dO H v K:=by
 obtain⟨a,cap,h1,h2⟩:=((Sl.qU h (by decide)).mono hs).cells
 refine⟨a,_,cap,l,h1,?_,by simp[ik],hk⟩
 rw[po,Nat.mul_one]at h2;exact h2
def k8(l:List UInt8):Value:=.string ⟨l.toArray⟩
theorem ji(a b:List UInt8):((⟨a.toArray⟩:ByteArray)==⟨b.toArray⟩)=decide (a=b):=by
 rw[beq_toListBytes,ByteArray.toList_eq,ByteArray.toList_eq]
 simp only[List.toList_toArray]
 rw[Bool.eq_iff_iff];simp
theorem qJ(a b:List UInt8):Instr.sameNow .string (k8 a) (k8 b)=some (decide (a=b)):=by
 show some _=some _
 rw[ji]
theorem pe(a:List UInt8):Instr.sameBits 10000 (k8 a) (k8 a)=true:=by
 show((⟨a.toArray⟩:ByteArray)==⟨a.toArray⟩)=true
 rw[ji];simp
theorem aa.wC{a b:List UInt8}{k:Value→Prop}(h:k (.bool (decide (a≠b)))):aa .str .neq (k8 a) (k8 b) k:=by
 refine⟨_,rfl,?_⟩
 have:(!((⟨a.toArray⟩:ByteArray).toList==(⟨b.toArray⟩:ByteArray).toList))=decide (a≠b):=by
  rw[←beq_toListBytes,ji];simp
 rw[this];exact h
def cv(n:Nat)(B:Hp)(es:Array MapEntry)(ck:Nat)(m:List (List UInt8×List Nat)):Prop:=
 aU k8 (fun v ws=>mX B v ⟨n,ws⟩) es ck m∧∀x∈m,x.1=af.cF x.2∧af.dI n x.2
theorem cv.mono{n:Nat}{B B':Hp}{es:Array MapEntry}{ck:Nat}{m:List (List UInt8×List Nat)}(h:cv n B es ck m)(hs:∀x∈B,x∈B'):cv n B' es ck m:=⟨h.1.mono fun _ _ h=>h.mono hs,h.2⟩
theorem cv.empty(n:Nat)(B:Hp):cv n B #[] 0 []:=⟨aU.empty,by simp⟩
def kZ(m:List (List UInt8×List Nat))(ws:List Nat):List (List UInt8×List Nat):=dV m (af.cF ws) ws
theorem cv.nodup{n:Nat}{B:Hp}{es:Array MapEntry}{ck:Nat}{m:List (List UInt8×List Nat)}(h:cv n B es ck m):(m.map Prod.snd).Nodup:=by
 have h1:=h.1.nd
 have e:m.map Prod.fst=(m.map Prod.snd).map af.cF:=by
  rw[List.map_map];apply List.map_congr_left;intro x hx;exact(h.2 x hx).1
 rw[e]at h1
 exact List.Pairwise.of_map af.cF (fun a b hne e=>hne (by rw[e])) h1
theorem gZ{n:Nat}{m:List (List UInt8×List Nat)}{ws:List Nat}(hm:∀x∈m,x.1=af.cF x.2∧af.dI n x.2)(hf:af.dI n ws):∀x,x∈(kZ m ws).map Prod.snd↔x∈m.map Prod.snd∨x=ws:=by
 intro x
 unfold kZ dV
 split
 ·rename_i hk
  obtain⟨y,hy,EB⟩:=List.mem_map.1 hk
  have Eb:y.2=ws:=(hm y hy).2.key_inj hf (by rw[←(hm y hy).1,EB])
  have:(m.map fun y=>if y.1=af.cF ws then(af.cF ws,ws)else y)=m:=by
   conv=>rhs;rw[←List.map_id m]
   apply List.map_congr_left
   intro z hz
   split
   ·rename_i Cv
    have:z.2=ws:=(hm z hz).2.key_inj hf (by rw[←(hm z hz).1,Cv])
    simp only[id];rw[←Cv,←this]
   ·rfl
  rw[this]
  constructor
  ·exact .inl
  ·rintro(h|rfl)
   ·exact h
   ·exact List.mem_map.2 ⟨y,hy,Eb⟩
 ·simp
theorem sK{n:Nat}{m:List (List UInt8×List Nat)}{ws:List Nat}(hm:∀x∈m,x.1=af.cF x.2∧af.dI n x.2)(hf:af.dI n ws):∀x∈kZ m ws,x.1=af.cF x.2∧af.dI n x.2:=by
 intro x hx
 unfold kZ dV at hx
 split at hx
 ·obtain⟨y,hy,rfl⟩:=List.mem_map.1 hx
  split
  ·exact⟨rfl,hf⟩
  ·exact hm y hy
 ·rcases List.mem_append.1 hx with hx|hx
  ·exact hm x hx
  ·simp at hx;subst hx;exact⟨rfl,hf⟩
theorem cv.bF{n:Nat}{B:Hp}{es:Array MapEntry}{ck b:Nat}{m:List (List UInt8×List Nat)}{ws:List Nat}{val:Value}{K:Hp→Prop}(h:cv n B es ck m)(hv:mX B val ⟨n,ws⟩)(hf:af.dI n ws)
 (h1:∀es' ea,cv n B es' ea (kZ m ws)→∃H',br b (.map es ck) (.map es' ea) H H'∧K H'):cM .string H (.map (some b)) (k8 (af.cF ws)) val K:=
 aU.bF qJ pe h.1 hv fun es' ea he=>h1 es' ea ⟨he,sK h.2 hf⟩
end
end Go.Sx
namespace Go.Sx
open Go
section
variable {P:Program} {g:Gh} {H:Hp}
theorem bC.apps{elem k bytes:Nat}{zero:Value}{v:Value}{rs:List (List Value)}{C A B:Hp}(h:bC elem k v rs C){xa:Option Addr}{xc:Nat}{r2:List (List Value)}
 (hx:Cells (A++(C++B)) xa (r2.length*k) (rows r2))(hr:∀r∈r2,r.length=k)(h1:∀r∈r2,∀u∈r,u.oneCell'=true)(hz:∃z:List Value,zero.cells=z.toArray∧z.length=k)
 (hb:(rs.length+r2.length)*bytes≤140737488355328)(bR:rs.length+r2.length≤9223372036854775807){K:Value→Hp→Prop}
 (hk:∀v' C',bC elem k v' (rs++r2) C'→K v' (A++(C'++B))):App P elem k bytes zero (A++(C++B)) v (.slice xa r2.length xc) K:=by
 obtain⟨z,wU,s4⟩:=hz
 have hnone:∀u∈(rows r2).toList,u.oneCell'=true:=by
  intro u hu
  simp only[rows,List.mem_flatten]at hu
  obtain⟨r,h2,h3⟩:=hu
  exact h1 r h2 u h3
 rcases h with⟨rfl,rfl,rfl⟩|⟨b,az,rfl,rfl,an⟩
 ·refine⟨none,0,0,xa,r2.length,xc,#[],rows r2,rfl,rfl,rfl,hx,aI hr,by simp,hnone,fun h=>?_,fun _=>⟨by simpa using hb,by simpa using bR,fun cj hn b AZ=>?_⟩⟩
  ·have:r2=[]:=List.eq_nil_of_length_eq_zero (by omega)
   subst this
   exact hk _ [] (.inl ⟨rfl,rfl,rfl⟩)
  ·rw[show(#[]:Array Value)++rows r2++Builtin.zeroCells zero.cells (cj-(0+r2.length))=rows ([]++r2++List.replicate (cj-r2.length) z)by rw[wU,gv z s4];simp only[Nat.zero_add,Array.empty_append,List.nil_append];rw[bz]]
   refine⟨_,aM.tP [(b,_)] A B,hk _ [(b,_)] (.inr ⟨b,List.replicate (cj-r2.length) z,?_,rfl,?_⟩)⟩
   ·simp;omega
   ·intro x hx
    rcases List.mem_append.1 hx with hx|hx
    ·exact hr x hx
    ·rw[List.eq_of_mem_replicate hx,s4]
 ·have hsz:=aI an
  have fG:∀x∈rs,x.length=k:=fun x hx=>an x (by simp[hx])
  have hold:rows rs=(rows (rs++az)).extract 0 (0+rs.length*k):=by
   rw[←bz]
   apply Array.ext'
   have:=aI fG
   have h2:(rows rs).toList.length=rs.length*k:=by rw[Array.length_toList];exact this
   rw[Array.toList_extract,Array.toList_append,List.extract_eq_take_drop,List.drop_zero,Nat.zero_add,Nat.sub_zero,←h2,List.take_left]
  refine⟨some ⟨b,0,none⟩,rs.length,rs.length+az.length,xa,r2.length,xc,rows rs,rows r2,rfl,rfl,.inr ⟨rfl,_,elem,(0,0),by simp,?_,hold⟩,hx,aI hr,aI fG,hnone,fun hfit=>?_,fun hgrow=>⟨hb,by omega,fun cj hn b' AZ=>?_⟩⟩
  ·rw[hsz];simp only[List.length_append,Nat.zero_add];exact Nat.mul_le_mul_right _ (by omega)
  ·obtain⟨j1,j2,rfl,hj⟩:∃j1 j2,az=j1++j2∧j1.length=r2.length:=⟨az.take r2.length,az.drop r2.length,(List.take_append_drop _ _).symm,by rw[List.length_take];omega⟩
   have xW:∀x∈j1,x.length=k:=fun x hx=>an x (by simp[hx])
   refine⟨_,elem,_,rfl,?_,((br.head _).append B).bx A,hk _ [(b,_)] (.inr ⟨b,j2,?_,?_,?_⟩)⟩
   ·rw[hsz,List.length_append,List.length_append,hj,Nat.add_mul,Nat.add_mul]
    show 0+rs.length*k+r2.length*k≤_
    omega
   ·simp;omega
   ·have e:(⟨b,0,none⟩:Addr).off+rs.length*k=rs.length*k:=by simp
    have l1:=aZ rs fG
    have l2:=aZ j1 xW
    have l3:=aZ r2 hr
    have e2:ep (rows (rs++(j1++j2))) (rs.length*k) (rows r2).toList=rows (rs++r2++j2):=by
     unfold rows
     rw[List.flatten_append,List.flatten_append,List.toList_toArray,gD _ _ _ (by rw[List.length_append,List.length_append,l1,l2,l3,hj];omega)]
     congr 1
     rw[List.flatten_append,List.flatten_append,←l1,List.take_left,l3,←hj,←l2,List.drop_append,←List.append_assoc]
     simp[List.drop_append]
    rw[e,e2]
   ·intro x hx
    simp only[List.append_assoc,List.mem_append]at hx
    rcases hx with hx|hx|hx
    ·exact fG x hx
    ·exact hr x hx
    ·exact an x (by simp[hx])
  ·refine⟨A++([(b',_)]++B),?_,hk _ [(b',_)] (.inr ⟨b',List.replicate (cj-(rs.length+r2.length)) z,?_,rfl,?_⟩)⟩
   ·rw[wU,gv z s4,bz,bz]
    exact fun g w h=>(aM.wD [[_],A,[_],B] [[_],A,[_],B] ((List.perm_append_comm (l₁:=[_,A]) (l₂:=[_])).append_right [B]|>.trans (.cons _ (.swap _ _ _))) g w h).tail
   ·simp;omega
   ·intro x hx
    rcases List.mem_append.1 hx with hx|hx
    ·rcases List.mem_append.1 hx with hx|hx
     ·exact fG x hx
     ·exact hr x hx
    ·rw[List.eq_of_mem_replicate hx,s4]
def cQ(T:TypeId)(kd:IntKind)(v:Value)(l:List Int)(C:Hp):Prop:=bC T 1 v (l.map fun n=>[Value.int kd n]) C
theorem cQ.nil{T:TypeId}{kd:IntKind}:cQ T kd (.slice none 0 0) [] []:=bC.nil _ _
theorem cQ.bQ{T:TypeId}{kd:IntKind}{v:Value}{l:List Int}{C:Hp}(h:cQ T kd v l C){K:Value→Prop}(hk:K (.int .i64 l.length)):aB v K:=bC.bQ h (by simpa using hk)
theorem cQ.ints{T:TypeId}{kd:IntKind}{v:Value}{l:List Int}{C:Hp}(h:cQ T kd v l C):da kd C v l:=Sl.qU h (by decide)
theorem cQ.app{T:TypeId}{kd:IntKind}{v:Value}{l:List Int}{C A B:Hp}{bytes:Nat}(h:cQ T kd v l C){xb xc:Nat}{x:Int}{xT:TypeId}{fz:Nat×Nat}(hx:(xb,Obj.cells (aC kd [x]) xT fz)∈A++(C++B))
 (hb:(l.length+1)*bytes≤140737488355328)(hm:l.length+1≤9223372036854775807){K:Value→Hp→Prop}(hk:∀v' C',cQ T kd v' (l++[x]) C'→K v' (A++(C'++B))):App P T 1 bytes (.int kd 0) (A++(C++B)) v (.slice (some ⟨xb,0,none⟩) 1 xc) K:=
 bC.tA (r:=[.int kd x]) h hx rfl (by simp[Value.oneCell']) ⟨[.int kd 0],rfl,rfl⟩ (by simpa using hb) (by simpa using hm) fun v' C' ho=>hk v' C' (by unfold cQ;simpa using ho)
theorem cQ.apps{T:TypeId}{kd:IntKind}{v x:Value}{l l2:List Int}{C A B:Hp}{bytes:Nat}(h:cQ T kd v l C)(hx:da kd (A++(C++B)) x l2)
 (hb:(l.length+l2.length)*bytes≤140737488355328)(hm:l.length+l2.length≤9223372036854775807){K:Value→Hp→Prop}(hk:∀v' C',cQ T kd v' (l++l2) C'→K v' (A++(C'++B))):App P T 1 bytes (.int kd 0) (A++(C++B)) v x K:=by
 obtain⟨a,cap,rfl,hc⟩:=Sl.cells hx
 exact bC.apps h hc (by simp) (by simp[Value.oneCell']) ⟨[.int kd 0],rfl,rfl⟩ (by simpa using hb) (by simpa using hm) fun v' C' ho=>hk v' C' (by unfold cQ;rw[List.map_append];exact ho)
theorem aG.wS{t e:Nat}{kd:IntKind}{x y z:Int}{K:Value→Hp→Prop}(h1:P.underlying t=some (.slice e))(h2:bG P e=some 1)(h3:cV P e=some (.int kd 0))
 (h:∀b,K (.slice (some ⟨b,0,Option.none⟩) 3 3) ((b,.cells (aC kd [x,y,z]) e (0,0))::H)):aG P t 3 [(0,.int kd x),(1,.int kd y),(2,.int kd z)] H K:=by
 refine⟨aC kd [x,y,z],e,1,_,h1,h2,h3,by decide,?_,fun b _=>h b⟩
 have e1:Array.range (3*1)=#[0,1,2]:=rfl
 simp[Instr.fill,Value.cells,aC,e1]
end
end Go.Sx
namespace Go.Sx
open Go
section
variable {P:Program}
theorem mS{e:TypeId}{i:TypeInfo}(hi:P.info? e=some i)(hs:i.size=1):P.cellsOf e=1:=by simp[Program.cellsOf,hi,hs]
theorem jr{e:TypeId}{q:IntKind}(hu:P.underlying e=some (.int q)){l:List Int}{j:Nat}{x:Int}(h:l[j]? =some x)(w:World):(part e (aC q l) j).run P w=.ok (.int q x) w:=by
 simp[part,isAgg,run_underlying hu,aC,h]
theorem gM{e:TypeId}{q:IntKind}(hu:P.underlying e=some (.int q))(hc:P.cellsOf e=1)(d:Nat)(l l':List Int)(w:World):∀is:List Nat,(∀i∈is,i<l.length∧i<l'.length)→
  (Op.eqItems (d+1) e (P.cellsOf e) (aC q l) (aC q l') is).run P w=.ok (is.all fun i=>l[i]? ==l'[i]?) w
 | [],_=>by simp[Op.eqItems]
 |i::is,h=>by
  obtain⟨h1,h2⟩:=h i (by simp)
  have g1:l[i]? =some l[i]:=List.getElem?_eq_getElem h1
  have g2:l'[i]? =some l'[i]:=List.getElem?_eq_getElem h2
  have p1:=jr (P:=P) hu g1 w
  have p2:=jr (P:=P) hu g2 w
  have p3:(Op.equalIn (d+1) e (.int q l[i]) (.int q l'[i])).run P w=.ok (l[i]==l'[i]) w:=by
   simp only[Op.equalIn,Sem.run_bind,run_underlying hu,Result.andThen_ok,if_true,Sem.run_pure]
  have ih:=gM hu hc d l l' w is fun j hj=>h j (by simp[hj])
  simp only[Op.eqItems,hc,Nat.mul_one,Sem.run_bind,p1,p2,p3,Result.andThen_ok]at ih⊢
  rw[List.all_cons,g1,g2]
  cases hb:(l[i]==l'[i])
  ·simp[hb]
  ·simp[hb,ih]
theorem tI.array{t e:TypeId}{q:IntKind}{n:Nat}(ht:P.underlying t=some (.array n e))(hu:P.underlying e=some (.int q))(hz:bG P e=some 1)(l l':List Int)(h1:l.length=n)(h2:l'.length=n):
  tI P t (.agg (aC q l)) (.agg (aC q l')) (decide (l=l')):=by
 obtain⟨i,hi,hs⟩:=aH hz
 have hc:=mS hi hs
 intro w
 show(Op.equalIn (9998+1+1) t _ _).run P w=_
 rw[run_equalIn_array w (9998+1) _ _ ht hi,gM hu hc 9998 l l' w _ (fun j hj=>by have:=List.mem_range.1 hj;omega)]
 congr 1
 rw[Bool.eq_iff_iff]
 simp only[List.all_eq_true,List.mem_range,decide_eq_true_eq,beq_iff_eq]
 constructor
 ·intro h
  apply List.ext_getElem?
  intro j
  by_cases hj:j<n
  ·exact h j hj
  ·rw[List.getElem?_eq_none (by omega),List.getElem?_eq_none (by omega)]
 ·rintro rfl j _;rfl
theorem kx.array{t e:TypeId}{q:IntKind}{n:Nat}(ht:P.underlying t=some (.array n e))(hu:P.underlying e=some (.int q))(hz:bG P e=some 1)(l:List Int)(h1:l.length=n):kx P t (.agg (aC q l)):=by
 obtain⟨i,hi,hs⟩:=aH hz
 intro b w
 have gen:∀d,(Instr.checkKey b (d+1+1) t (.agg (aC q l))).run P w=.ok () w:=by
  intro d
  have p2:∀x:Int,(Instr.checkKey b (d+1) e (.int q x)).run P w=.ok () w:=fun x=>by
   simp only[Instr.checkKey,Sem.run_bind,run_underlying hu,Result.andThen_ok,Sem.run_pure]
  unfold Instr.checkKey
  simp only[Sem.run_bind,run_underlying ht,Result.andThen_ok]
  simp only[Std.Legacy.Range.forIn_eq_forIn_range',Std.Legacy.Range.size,Nat.sub_zero,Nat.add_one_sub_one,Nat.div_one]
  have key:∀is:List Nat,(∀j∈is,j<l.length)→(forIn is PUnit.unit fun j (_:PUnit)=>(do
     Instr.checkKey b (d+1) e (←part e (aC q l) (j*(←sizeOf e)))
     pure (ForInStep.yield PUnit.unit):Sem (ForInStep PUnit))).run P w=.ok PUnit.unit w:=by
   intro is
   induction is with
   |nil=>intro _;simp
   |cons j is ih=>
    intro h
    have p1:=jr (P:=P) hu (List.getElem?_eq_getElem (h j (by simp))) w
    simp only[List.forIn_cons,Sem.run_bind,run_sizeOf hi,Result.andThen_ok,hs,Nat.mul_one,p1,p2,Sem.run_pure]
    exact ih fun k hk=>h k (by simp[hk])
  have:=key (List.range' 0 n) (fun j hj=>by have:=List.mem_range'_1.1 hj;omega)
  rw[this];rfl
 exact gen 9998
theorem Build.two{t e:TypeId}{q:IntKind}{x y:Int}{K:Value→Prop}(ht:P.underlying t=some (.array 2 e))(hz:bG P e=some 1)(h0:cV P t=some (.agg (aC q [0,0])))(h:K (.agg (aC q [x,y]))):
  Build P t [(0,.int q x),(1,.int q y)] K:=by
 refine⟨_,fun w=>?_,h⟩
 obtain⟨i,hi,hs⟩:=aH hz
 obtain⟨i0,tf,Ea⟩:=bt h0
 simp only[Instr.build,Sem.run_bind,bV tf Ea,Result.andThen_ok,run_underlying ht,run_sizeOf hi,hs]
 simp[Instr.fill,Value.cells,aC]
end
end Go.Sx
namespace Go.Sx
open Go
section
variable {P:Program} {g:Gh}
abbrev Jt:=List Value→Hp→Prop
abbrev Mt:=List Value→Hp→Nat
abbrev Rt:=Ending→Hp→Prop
abbrev Hn.n(a b:Hn):Hn:=.h 0 [] [] a b
theorem aE{f:FuncId}{fn:Func}{hn:Hn}{args:List Value}{H:Hp}{R:Rt}{L:Prop}(hf:P.funcs[f]? =some fn)(h:L)(e:vi P g fn hn args H R=L):aj P g f args.toArray H R:=nL hf (e.mpr h)
end
end Go.Sx
set_option maxRecDepth 100000
namespace Go.Proofs
open Go Go.Sx
variable {g:Gh} {a0 a1 a2 a3 a4 a5 a6 a7 a8 a9 vq vp yl yj yh yg:Value} {H:Hp} {R:Rt}
abbrev pt(b:Nat):Value:=.pointer (some ⟨b,0,none⟩)
abbrev CF:=ai Tryz.prog
def hr(m:Nat)(T:List Nat):Nat→Nat→Hn→Hn
 |_,0,x=>x
 |i,k+1,x=>.h m [i] T (hr m T (i+1) k x) .e
def hN:Nat→Hn→Hn
 |0,x=>x
 |k+1,x=>.n .e (hN k x)
abbrev iv(n:Int):Value:=.int .i64 n
def L4(g:Gh)(a0 a1:Value)(H:Hp)(R:Rt):Prop:=
CF g 24 #[] H (fun v1 H2=>
Un .not v1 fun v3=>
Br v3 (
R (.returned (Value.bool false)) H2) (
CF g 25 #[(.pointer none)] H2 (fun v4 H5=>
Ext 0 v4 fun v6=>
Ext 1 v4 fun v7=>
dx H5 (.cells #[(iv 0),(iv 0),(iv 0),(Value.bool false)] 42 (0,0)) fun b8 H9=>
St 4 H9 (pt b8) v6 fun lT=>
CF g 26 #[(.slice none 0 0)] lT (fun v11 jZ=>
Ext 0 v11 fun dh=>
Ext 1 v11 fun ef=>
Ext 2 v11 fun ee=>
CF g 27 #[(.slice none 0 0),(Value.int .u64 0)] jZ (fun eH qo=>
Ext 0 eH fun eD=>
Ext 1 eH fun dK=>
CF g 27 #[(.slice none 0 0),(Value.int .u64 1)] qo (fun v20 iX=>
Ext 0 v20 fun fP=>
Ext 1 v20 fun fB=>
aa .num .neq v7 (iv 10) fun fe=>
cw fe false (fun t25=>
aa .num .neq dh (iv 0) fun fO=>
(iX=iX∧fO=Value.bool t25)) (fun t25=>(Value.bool true)=Value.bool t25) fun t25=>∀Fq:Fr,
cw (Value.bool t25) false (fun t28=>
aB ef fun gr=>
aa .num .neq gr (iv 0) fun v30=>
(iX=iX∧v30=Value.bool t28)) (fun t28=>(Value.bool true)=Value.bool t28) fun t28=>∀Bf:Fr,
cw (Value.bool t28) false (fun t32=>
aa .num .neq ee (iv 0) fun fM=>
(iX=iX∧fM=Value.bool t32)) (fun t32=>(Value.bool true)=Value.bool t32) fun t32=>∀Fl:Fr,
cw (Value.bool t32) false (fun t35=>
aa .num .neq eD (iv 0) fun gn=>
(iX=iX∧gn=Value.bool t35)) (fun t35=>(Value.bool true)=Value.bool t35) fun t35=>∀Fj:Fr,
cw (Value.bool t35) false (fun t38=>
aa .num .neq dK (iv 0) fun gw=>
(iX=iX∧gw=Value.bool t38)) (fun t38=>(Value.bool true)=Value.bool t38) fun t38=>∀Fi:Fr,
cw (Value.bool t38) false (fun t41=>
aa .num .neq fB (iv 2) fun lR=>
(iX=iX∧lR=Value.bool t41)) (fun t41=>(Value.bool true)=Value.bool t41) fun t41=>∀Fg:Fr,
Br (Value.bool t41) (
R (.returned (Value.bool false)) iX) (
aB a0 fun nk=>
∃(BP:Jt) (DV:Mt),JE BP [(iv 0),(iv 0)] iX∧∀si oA:Value,∀mZ:Hp,BP [si,oA] mZ→∀Be:Fr,
aa .num .lss oA nk fun qq=>
Br qq (
∀qz:Jt,(∀Cb:Value,∀yE:Hp,(∀Bd:Fr,
aa .num .add oA (iv 1) fun zN=>
aS BP DV [Cb,zN] yE [si,oA] mZ)→qz [Cb] yE)→
ak 2 a0 oA fun oC=>
aO 2 mZ oC fun uC=>
dx mZ (.cells #[(iv 0),(.slice none 0 0)] 57 (0,0)) fun vk B3=>
St 2 B3 (pt vk) uC fun Dy=>
∀yC:Jt,(∀Ca:Value,∀tD:Hp,(∀Bc:Fr,
Br Ca (
JE qz [(iv 5)] tD) (
ae 0 (pt vk) fun wu=>
Ld tD wu fun zI=>
aa .num .gtr zI (iv 12) fun wq=>
cw wq true (fun t69=>
aa .num .eql si (iv 0) fun uB=>
(tD=tD∧uB=Value.bool t69)) (fun t69=>(Value.bool false)=Value.bool t69) fun t69=>∀E9:Fr,
Br (Value.bool t69) (
JE qz [(iv 6)] tD) (
JE qz [si] tD)))→yC [Ca] tD)→
DR Dy fun zu=>
aO 2 zu (pt vk) fun wo=>
∀B5:Hp,
CF (g.add B5) 28 #[wo] Dy (fun wm wi=>
aM wi zu∧
Un .not wm fun zG=>
Br zG (
JE yC [(Value.bool true)] wi) (
ae 0 (pt vk) fun zF=>
Ld zu zF fun Co=>
ak 2 a0 (iv 0) fun DL=>
ae 0 DL fun DK=>
Ld zu DK fun DJ=>
aa .num .neq Co DJ fun DI=>
aA (Value.bool false) (Value.bool true) DI fun DH=>
JE yC [DH] wi)) cU) (
aa .num .eql si (iv 0) fun DG=>
Br DG (
R (.returned (Value.bool true)) mZ) (
CF g 29 #[a0] mZ (fun DF FN=>
CF g 26 #[DF] FN (fun zE FM=>
Ext 0 zE fun F7=>
Ext 1 zE fun DE=>
Ext 2 zE fun Cn=>
CF g 29 #[a0] FM (fun DD FL=>
CF g 27 #[DD,a1] FL (fun Ck qm=>
Ext 0 Ck fun DC=>
Ext 1 Ck fun Cj=>
aa .num .eql si (iv 6) fun DB=>
cw DB true (fun t100=>
ak 2 a0 (iv 0) fun z6=>
ae 0 z6 fun z5=>
Ld qm z5 fun z4=>
aa .num .shr a1 z4 fun z3=>
aa .num .gtr z3 (Value.int .u64 0) fun z2=>
(qm=qm∧z2=Value.bool t100)) (fun t100=>(Value.bool false)=Value.bool t100) fun t100=>∀Dl:Fr,
Br (Value.bool t100) (
aa .num .eql Cn si fun zZ=>
cw zZ true (fun t108=>
aa .num .eql Cj (iv 2) fun zY=>
(qm=qm∧zY=Value.bool t108)) (fun t108=>(Value.bool false)=Value.bool t108) fun t108=>∀Dk:Fr,
R (.returned (Value.bool t108)) qm) (
aa .num .eql Cn si fun zX=>
cw zX true (fun t112=>
aa .num .eql Cj si fun zW=>
(qm=qm∧zW=Value.bool t112)) (fun t112=>(Value.bool false)=Value.bool t112) fun t112=>∀Dj:Fr,
cw (Value.bool t112) true (fun t115=>
aB DE fun zV=>
aa .num .eql zV (iv 0) fun zR=>
(qm=qm∧zR=Value.bool t115)) (fun t115=>(Value.bool false)=Value.bool t115) fun t115=>∀Di:Fr,
cw (Value.bool t115) true (fun t119=>
aa .num .eql DC (iv 0) fun zQ=>
(qm=qm∧zQ=Value.bool t119)) (fun t119=>(Value.bool false)=Value.bool t119) fun t119=>∀Dh:Fr,
R (.returned (Value.bool t119)) qm)) (aQ R)) (aQ R)) (aQ R)) (aQ R))))) (aQ R)) (aQ R)) (aQ R)) (aQ R))) (aQ R)
theorem r7(h:L4 g a0 a1 H R):aj Tryz.prog g 4 #[a0,a1] H R:=
 aE (hn:=(hN 6 (.n (.n (.h 0 [] [1] .e .e) .e) (.n .e (.n (.n .e (.n (.h 0 [14,65] [0,1,63,64] (.n .e (.n .e (.h 1 [14] [0,1,63,64,65] (.n (.n .e (.n (.h 1 [69] [0,1,14,16,63,64,65] (.h 1 [] [] (hr 0 [1] 0 3 (.h 2 [3] [] (hr 0 [1] 4 7 (hr 3 [1] 11 2 .e)) (hr 0 [1] 4 9 .e))) .e) (.n .e (.n (.h 0 [] [1] .e .e) .e))) .e)) .e) .e))) .e) .e)) (hN 3 (.n (.n (.h 0 [] [1] .e .e) (.n (.n (.h 0 [] [1] .e .e) .e) .e)) (.n (.h 0 [] [1] .e .e) .e)))))))) Tryz.func4 h (by kernel_rfl)
variable {g:Gh} {a0 a1 a2 a3 a4 a5 a6 a7 a8 a9 vq vp yl yj yh yg:Value} {H:Hp} {R:Rt}
def L24(g:Gh)(H:Hp)(R:Rt):Prop:=
CF g 69 #[] H (fun v1 H2=>
aG Tryz.prog 28 1 [(0,v1)] H2 fun v3 H4=>
CF g 26 #[v3] H4 (fun v5 H6=>
Ext 0 v5 fun v7=>
Ext 1 v5 fun v8=>
Ext 2 v5 fun v9=>
CF g 69 #[] H6 (fun v10 j3=>
aG Tryz.prog 28 1 [(0,v10)] j3 fun dQ j5=>
CF g 27 #[dQ,(Value.int .u64 4)] j5 (fun ef ku=>
Ext 0 ef fun eH=>
Ext 1 ef fun ei=>
∀sC:Jt,(∀qD:Value,∀nh:Hp,(∀Bi:Fr,
R (.returned qD) nh)→sC [qD] nh)→
aa .num .eql v7 (iv 3) fun fP=>
Split fP true (
aG Tryz.prog 25 3 [(0,(iv 0)),(1,(iv 1)),(2,(iv 2))] ku fun fB kq=>
CF g 37 #[v8,fB] kq (fun gT ou=>
aA (Value.bool true) gT (Value.bool false) fun fN=>
Split fN true (
aa .num .eql v9 (iv 0) fun gS=>
aA (Value.bool true) gS (Value.bool false) fun gr=>
Split gr true (
aa .num .eql eH (iv 4) fun v30=>
aA (Value.bool true) v30 (Value.bool false) fun iB=>
Split iB true (
aa .num .eql ei (iv 0) fun gp=>
aA (Value.bool true) gp (Value.bool false) fun fM=>
JE sC [fM] ou) (
aA (Value.bool false) undef (Value.bool false) fun fc=>
JE sC [fc] ou)) (
aA (Value.bool false) undef (Value.bool false) fun iA=>
aA iA undef (Value.bool false) fun gn=>
JE sC [gn] ou)) (
aA (Value.bool false) undef (Value.bool false) fun j4=>
aA j4 undef (Value.bool false) fun iY=>
aA iY undef (Value.bool false) fun gw=>
JE sC [gw] ou)) (aQ R)) (
aA (Value.bool false) undef (Value.bool false) fun gX=>
aA gX undef (Value.bool false) fun lZ=>
aA lZ undef (Value.bool false) fun lR=>
aA lR undef (Value.bool false) fun lY=>
JE sC [lY] ku)) (aQ R)) (aQ R)) (aQ R)) (aQ R)
theorem ql(h:L24 g H R):aj Tryz.prog g 24 #[] H R:=
 aE (hn:=(hN 3 (.h 1 [0] [] .e .e))) Tryz.func24 h (by kernel_rfl)
def L25(g:Gh)(a0:Value)(H:Hp)(R:Rt):Prop:=
dx H (.cells #[(iv 0),(iv 0),(iv 0),(Value.bool false)] 42 (0,0)) fun b1 H2=>
aa .ptr .eql a0 (.pointer none) fun v3=>
Br v3 (
Build Tryz.prog 42 [] fun v4=>
St 4 H2 (pt b1) v4 fun H5=>
aO 4 H5 (pt b1) fun v6=>
R (.returned (.tuple #[v6,(iv 10)])) H5) (
CF g 61 #[a0] H2 (fun v7 H8=>
aa .num .gtr v7 (iv 12) fun v9=>
Br v9 (
Build Tryz.prog 42 [] fun v10=>
St 4 H8 (pt b1) v10 fun j3=>
aO 4 j3 (pt b1) fun dQ=>
R (.returned (.tuple #[dQ,(iv 6)])) j3) (
CF g 70 #[a0] H8 (fun dh kv=>
aB dh fun ee=>
∃(BW:Jt) (D2:Mt),JE BW [(.slice none 0 0),(iv 0)] kv∧∀sn qD:Value,∀uy:Hp,BW [sn,qD] uy→∀Fx:Fr,
aa .num .lss qD ee fun fP=>
Br fP (
ak 1 dh qD fun fB=>
Ld uy fB fun fe=>
CF g 71 #[a0,fe] uy (fun gT ou=>
Ext 0 gT fun fN=>
Ext 1 gT fun gS=>
dx ou (.cells #[(iv 0),(.slice none 0 0)] 57 (0,0)) fun Ds sb=>
St 2 sb (pt Ds) fN fun qn=>
aO 2 qn (pt Ds) fun gp=>
aG Tryz.prog 28 1 [(0,gp)] qn fun fM yI=>
App Tryz.prog 57 2 32 (.agg #[(iv 0),(.slice none 0 0)]) yI sn fM fun j4 zA=>
aa .num .add qD (iv 1) fun gw=>
aS BW D2 [j4,gw] zA [sn,qD] uy) (aQ R)) (
CF g 15 #[a0] uy (fun gX yG=>
CF g 26 #[sn] yG (fun lR ux=>
Ext 0 lR fun nk=>
Ext 1 lR fun oD=>
Ext 2 lR fun qs=>
aa .num .eql gX nk fun qG=>
Br qG (
Build Tryz.prog 42 [(0,gX),(1,gX),(3,(Value.bool true))] fun sG=>
St 4 ux (pt b1) sG fun mY=>
aO 4 mY (pt b1) fun o8=>
R (.returned (.tuple #[o8,(iv 0)])) mY) (
CF g 42 #[a0,oD] ux (fun qq FT=>
Ext 0 qq fun zP=>
Ext 1 qq fun zO=>
CF g 15 #[a0] FT (fun tN yD=>
aa .num .eql zO (iv 0) fun oC=>
Build Tryz.prog 42 [(0,gX),(1,tN),(2,zP),(3,oC)] fun uC=>
St 4 yD (pt b1) uC fun Dz=>
aO 4 Dz (pt b1) fun wy=>
R (.returned (.tuple #[wy,(iv 0)])) Dz) (aQ R)) (aQ R))) (aQ R)) (aQ R))) (aQ R))) (aQ R))
theorem qk(h:L25 g a0 H R):aj Tryz.prog g 25 #[a0] H R:=
 aE (hn:=(hN 4 (.n (.n .e (.n (.h 0 [4,25] [0,2,23,24] .e .e) .e)) .e))) Tryz.func25 h (by kernel_rfl)
def L26(g:Gh)(a0:Value)(H:Hp)(R:Rt):Prop:=
CF g 72 #[a0] H (fun v1 H2=>
Ext 0 v1 fun v3=>
Ext 1 v1 fun v4=>
aa .num .neq v4 (iv 0) fun v5=>
Br v5 (
R (.returned (.tuple #[(iv 0),(.slice none 0 0),v4])) H2) (
Nil v3 fun v6=>
ae 1 v6 fun v7=>
Ld H2 v7 fun v8=>
aa .num .gtr v8 (iv 12) fun v9=>
Br v9 (
R (.returned (.tuple #[(iv 0),(.slice none 0 0),(iv 6)])) H2) (
∃(zy:Jt) (Cu:Mt),JE zy [(.slice none 0 0),(iv 0)] H2∧∀qE nj:Value,∀j5:Hp,zy [qE,nj] j5→∀Bl:Fr,
aB qE fun eH=>
Nil v3 fun ei=>
ae 1 ei fun eD=>
Ld j5 eD fun dK=>
aa .num .lss eH dK fun v20=>
Br v20 (
Nil v3 fun eG=>
ae 1 eG fun fP=>
Ld j5 fP fun fB=>
∃(BS:Jt) (DY:Mt),JE BS [qE,nj,(iv 0)] j5∧∀sE sk sj:Value,∀m0:Hp,BS [sE,sk,sj] m0→∀Bg:Fr,
aa .num .lss sj fB fun iB=>
Br iB (
∀BG:Jt,(∀Ce:Value,∀yI:Hp,(∀Fm:Fr,
Br Ce (
aG Tryz.prog 25 1 [(0,sj)] yI fun gn tE=>
App Tryz.prog 3 1 8 (iv 0) tE sE gn fun gX yG=>
aa .num .shl (iv 1) sj fun lR=>
aa .num .or sk lR fun lY=>
aS zy Cu [gX,lY] yG [qE,nj] j5) (
aa .num .add sj (iv 1) fun nk=>
aS BS DY [sE,sk,nk] yI [sE,sk,sj] m0))→BG [Ce] yI)→
DR m0 fun zv=>
aa .num .shr sk sj fun qs=>
aa .num .and qs (iv 1) fun qG=>
aa .num .eql qG (iv 0) fun sG=>
Br sG (
aa .num .shl (iv 1) sj fun wA=>
aa .num .or sk wA fun o8=>
∀FX:Hp,
CF (g.add FX) 73 #[v3,sk,sj] m0 (fun wz vC=>
∀FW:Hp,
CF (g.add FW) 74 #[v3,o8] vC (fun tN yD=>
aa .num .add wz tN fun oC=>
∀FV:Hp,
CF (g.add FV) 74 #[v3,sk] yD (fun zL B3=>
aa .num .eql oC zL fun wx=>
aA (Value.bool true) wx (Value.bool false) fun wv=>
JE BG [wv] B3) cU) cU) cU) (
JE BG [(Value.bool false)] m0)) (
aS zy Cu [sE,sk] m0 [qE,nj] j5)) (
CF g 74 #[v3,(iv 0)] j5 (fun zK tD=>
R (.returned (.tuple #[zK,qE,(iv 0)])) tD) (aQ R))))) (aQ R)
theorem kV(h:L26 g a0 H R):aj Tryz.prog g 26 #[a0] H R:=
 aE (hn:=(hN 6 (.n (.n (.h 0 [7,8] [5] (.n .e (.n (.n .e (.n (.h 0 [7,8,34] [5,33] (.n .e (.n .e (.n (.n (.n .e (.h 1 [58] [5,7,8,9,33,34] (.h 1 [] [] (hr 0 [] 0 5 (.h 2 [5] [] (hr 0 [] 6 3 (hr 0 [] 10 5 (hr 0 [] 17 2 (.h 0 [9] [] (hr 0 [] 15 2 (hr 0 [] 19 3 .e)) .e)))) (hr 0 [] 6 15 (.h 3 [21] [] .e .e)))) .e) .e)) .e) .e))) .e) .e)) .e)) .e) .e) .e))) Tryz.func26 h (by kernel_rfl)
def L27(g:Gh)(a0 a1:Value)(H:Hp)(R:Rt):Prop:=
CF g 72 #[a0] H (fun v1 H2=>
Ext 0 v1 fun v3=>
Ext 1 v1 fun v4=>
aa .num .neq v4 (iv 0) fun v5=>
Br v5 (
R (.returned (.tuple #[(iv 0),v4])) H2) (
DR H2 fun R6=>
Nil v3 fun v7=>
ae 1 v7 fun v8=>
Ld R6 v8 fun v9=>
CF g 75 #[a1] H2 (fun v10 j3=>
aM j3 R6∧
aa .num .gtr v10 v9 fun dQ=>
Br dQ (
R (.returned (.tuple #[(iv 0),(iv 2)])) j3) (
Nil v3 fun dh=>
ae 1 dh fun ef=>
Ld j3 ef fun ee=>
aa .num .gtr ee (iv 12) fun eH=>
Br eH (
R (.returned (.tuple #[(iv 0),(iv 6)])) j3) (
Nil v3 fun ei=>
ae 2 ei fun eD=>
Ld j3 eD fun dK=>
bg .u64 dK fun v20=>
aa .num .and a1 v20 fun eG=>
CF g 76 #[] j3 (fun fP zC=>
CF g 77 #[fP,(iv 0),(iv 0)] zC (fun fe ko=>
jW ko fun fO m0=>
∃(BR:Jt) (DX:Mt),JE BR [] m0∧∀qn:Hp,BR [] qn→∀Fo:Fr,
CF g 78 #[fP] qn (fun gp sa=>
Ext 0 gp fun fc=>
Ext 1 gp fun iA=>
Ext 2 gp fun gn=>
bg .i64 eG fun j4=>
aa .num .eql fc j4 fun iY=>
Br iY (
CF g 74 #[v3,fc] sa (fun gw yH=>
aa .num .add iA gw fun lZ=>
R (.returned (.tuple #[lZ,(iv 0)])) yH) (aQ R)) (
cM (.int .i64) sa fO fc (iv 1) fun zz=>
Nil v3 fun lY=>
ae 1 lY fun nk=>
Ld zz nk fun oD=>
∃(BO:Jt) (DU:Mt),JE BO [(iv 0)] zz∧∀oA:Value,∀mY:Hp,BO [oA] mY→∀Ff:Fr,
aa .num .lss oA oD fun qq=>
Br qq (
∀qz:Jt,(∀yE:Hp,(∀Bd:Fr,
aa .num .add oA (iv 1) fun tN=>
aS BO DU [tN] yE [oA] mY)→qz [] yE)→
aa .num .shl (iv 1) oA fun zN=>
aa .num .or fc zN fun oC=>
aa .num .eql oC fc fun uC=>
cw uC false (fun t59=>
aa .num .shr eG oA fun wy=>
aa .num .and wy (Value.int .u64 1) fun wx=>
aa .num .eql wx (Value.int .u64 0) fun wv=>
(mY=mY∧wv=Value.bool t59)) (fun t59=>(Value.bool true)=Value.bool t59) fun t59=>∀Bc:Fr,
cw (Value.bool t59) false (fun t64=>
e9 (.int .i64) (iv 0) false mY fO oC fun zJ=>
aa .num .gtr zJ (iv 0) fun wu=>
(mY=mY∧wu=Value.bool t64)) (fun t64=>(Value.bool true)=Value.bool t64) fun t64=>∀Fa:Fr,
Br (Value.bool t64) (
JE qz [] mY) (
CF g 73 #[v3,fc,oA] mY (fun wq FQ=>
aa .num .add iA wq fun uB=>
CF g 79 #[fP,oC] FQ (fun yN B2=>
Ext 0 yN fun wo=>
Ext 1 yN fun DM=>
aa .num .neq DM (iv 0) fun wm=>
Br wm (
CF g 77 #[fP,oC,uB] B2 (fun F8 FP=>
JE qz [] FP) (aQ R)) (
aa .num .lss uB wo fun zF=>
Br zF (
CF g 80 #[fP,oC,uB] B2 (fun Co FO=>
JE qz [] FO) (aQ R)) (
JE qz [] B2))) (aQ R)) (aQ R))) (
aS BR DX [] mY [] qn))) (aQ R)) (aQ R)) (aQ R)))) cU)) (aQ R)
theorem kU(h:L27 g a0 a1 H R):aj Tryz.prog g 27 #[a0,a1] H R:=
 aE (hn:=(.n .e (.n .e (.n (.n (.n .e (.n .e (.n (.h 0 [0,2,3,4,5,1,6,7] [] .e .e) .e))) .e) (hN 4 (.n (.h 0 [] [1,6,8,9] (.n (hN 4 (.n (.h 0 [73] [1,6,8,9,10,11,72] (.n .e (.n .e (.h 1 [] [1,6,8,9,10,11,72,73] (.n (.n .e (.n .e (.n (.n (.h 0 [] [1] .e .e) .e) .e))) .e) .e))) .e) .e)) .e) .e) .e)))))) Tryz.func27 h (by kernel_rfl)
def L28(g:Gh)(a0:Value)(H:Hp)(R:Rt):Prop:=
dx H (.cells (Value.cells a0) 57 (0,0)) fun b1 H2=>
∀J3:Jt,(∀w6:Value,∀H5:Hp,(∀zl:Fr,
Br w6 (
R (.returned (Value.bool false)) H5) (
ae 0 (pt b1) fun v7=>
Ld H5 v7 fun v8=>
aa .num .geq v8 (iv 6) fun v9=>
cw v9 false (fun t10=>
ae 1 (pt b1) fun v11=>
Ld H5 v11 fun dQ=>
ak 1 dQ (iv 0) fun dh=>
Ld H5 dh fun ef=>
ae 0 (pt b1) fun ee=>
Ld H5 ee fun eH=>
aa .num .shl (Value.int .u64 1) eH fun ei=>
aa .num .shr ef ei fun eD=>
aa .num .eql eD (Value.int .u64 0) fun dK=>
(H5=H5∧dK=Value.bool t10)) (fun t10=>(Value.bool true)=Value.bool t10) fun t10=>∀Bh:Fr,
R (.returned (Value.bool t10)) H5))→J3 [w6] H5)→
DR H2 fun yu=>
ae 0 (pt b1) fun fP=>
Ld yu fP fun fB=>
aa .num .lss fB (iv 0) fun fe=>
Br fe (
JE J3 [(Value.bool true)] H2) (
ae 0 (pt b1) fun gT=>
Ld yu gT fun fO=>
aa .num .gtr fO (iv 16) fun fN=>
aA (Value.bool false) (Value.bool true) fN fun gS=>
Br gS (
JE J3 [(Value.bool true)] H2) (
ae 1 (pt b1) fun gr=>
Ld yu gr fun v30=>
aB v30 fun iB=>
ae 0 (pt b1) fun gp=>
Ld yu gp fun fM=>
∀F1:Hp,
CF (g.add F1) 81 #[fM] H2 (fun iA vE=>
aM vE yu∧
aa .num .neq iB iA fun j4=>
aA (Value.bool false) (Value.bool true) j4 fun iY=>
JE J3 [iY] vE) cU))
theorem qj(h:L28 g a0 H R):aj Tryz.prog g 28 #[a0] H R:=
 aE (hn:=(.n .e (.n (.h 1 [19] [1] (.h 1 [] [] (hr 0 [] 0 3 (.h 2 [3] [] (hr 0 [] 4 3 (hr 3 [] 7 2 (hr 0 [] 9 7 (.h 3 [16] [] .e .e)))) (hr 0 [] 4 4 (.h 2 [8] [] (hr 0 [] 9 7 (.h 3 [16] [] .e .e)) (hr 0 [] 9 8 .e))))) .e) .e) .e))) Tryz.func28 h (by kernel_rfl)
def L29(g:Gh)(a0:Value)(H:Hp)(R:Rt):Prop:=
aB a0 fun v1=>
∃(I2:Jt) (m3:Mt),JE I2 [(.slice none 0 0),(iv 0)] H∧∀w6 w7:Value,∀H5:Hp,I2 [w6,w7] H5→∀zl:Fr,
aa .num .lss w7 v1 fun v8=>
Br v8 (
ak 2 a0 w7 fun v9=>
aO 2 H5 v9 fun v10=>
dx H5 (.cells #[(iv 0),(.slice none 0 0)] 57 (0,0)) fun Bu jZ=>
St 2 jZ (pt Bu) v10 fun j5=>
DR j5 fun wg=>
ae 0 (pt Bu) fun ee=>
Ld wg ee fun eH=>
ae 1 (pt Bu) fun ei=>
Ld wg ei fun eD=>
aG Tryz.prog 55 0 [] j5 fun dK nh=>
aM nh wg∧
App Tryz.prog 50 1 8 (Value.int .u64 0) nh dK eD fun fB kq=>
aM kq wg∧
Build Tryz.prog 57 [(0,eH),(1,fB)] fun gT=>
aG Tryz.prog 28 1 [(0,gT)] kq fun fO m0=>
aM m0 wg∧
App Tryz.prog 57 2 32 (.agg #[(iv 0),(.slice none 0 0)]) m0 w6 fO fun v30 qn=>
aM qn wg∧
aa .num .add w7 (iv 1) fun gp=>
aS I2 m3 [v30,gp] qn [w6,w7] H5) (
R (.returned w6) H5)
theorem qi(h:L29 g a0 H R):aj Tryz.prog g 29 #[a0] H R:=
 aE (hn:=(.n .e (.n .e (.n (.n .e (.n (.h 0 [3,8] [6,7] (.n .e (.n .e (.n (.n (.n .e (.h 0 [0,1,2,4,5,3,6,7,8,9,10] [] .e .e)) .e) .e))) .e) .e)) .e)))) Tryz.func29 h (by kernel_rfl)
def L37(g:Gh)(a0 a1:Value)(H:Hp)(R:Rt):Prop:=
aB a0 fun v1=>
aB a1 fun v2=>
aa .num .neq v1 v2 fun v3=>
Br v3 (
R (.returned (Value.bool false)) H) (
aB a0 fun v4=>
∃(I5:Jt) (m6:Mt),JE I5 [(iv 0)] H∧∀w9:Value,∀H8:Hp,I5 [w9] H8→∀Bb:Fr,
aa .num .lss w9 v4 fun v10=>
Br v10 (
ak 1 a0 w9 fun v11=>
Ld H8 v11 fun dQ=>
ak 1 a1 w9 fun dh=>
Ld H8 dh fun ef=>
aa .num .neq dQ ef fun ee=>
Br ee (
R (.returned (Value.bool false)) H8) (
aa .num .add w9 (iv 1) fun eH=>
aS I5 m6 [eH] H8 [w9] H8)) (
R (.returned (Value.bool true)) H8))
theorem qh(h:L37 g a0 a1 H R):aj Tryz.prog g 37 #[a0,a1] H R:=
 aE (hn:=(.n .e (.n .e (.n (.n .e (.n (.h 0 [13] [0,1,12] .e .e) .e)) .e)))) Tryz.func37 h (by kernel_rfl)
variable {g:Gh} {a0 a1 a2 a3 a4 a5 a6 a7 a8 a9 vq vp yl yj yh yg:Value} {H:Hp} {R:Rt}
def L69(g:Gh)(H:Hp)(R:Rt):Prop:=
dx H (.cells #[(iv 0),(.slice none 0 0)] 57 (0,0)) fun b1 H2=>
aG Tryz.prog 55 1 [(0,(Value.int .u64 216))] H2 fun v3 H4=>
Build Tryz.prog 57 [(0,(iv 3)),(1,v3)] fun v5=>
St 2 H4 (pt b1) v5 fun H6=>
aO 2 H6 (pt b1) fun v7=>
R (.returned v7) H6
theorem qg(h:L69 g H R):aj Tryz.prog g 69 #[] H R:=
 aE (hn:=.e) Tryz.func69 h (by kernel_rfl)
def L72(g:Gh)(a0:Value)(H:Hp)(R:Rt):Prop:=
jW H fun v1 H2=>
jW H2 fun v3 H4=>
Build Tryz.prog 137 [(0,a0),(3,v1),(4,v3)] fun v5=>
dx H4 (.cells (Value.cells v5) 137 (0,0)) fun b6 H7=>
aB a0 fun v8=>
aa .num .eql v8 (iv 0) fun v9=>
Br v9 (
R (.returned (.tuple #[(pt b6),(iv 0)])) H7) (
CF g 155 #[a0] H7 (fun v10 j3=>
Ext 0 v10 fun dQ=>
Ext 1 v10 fun dh=>
aa .num .neq dh (iv 0) fun ef=>
Br ef (
R (.returned (.tuple #[(.pointer none),dh])) j3) (
ak 2 a0 (iv 0) fun ee=>
ae 0 ee fun eH=>
Ld j3 eH fun ei=>
Nil (pt b6) fun eD=>
ae 1 eD fun dK=>
St 1 j3 dK ei fun nh=>
aB a0 fun eG=>
∃(BT:Jt) (DZ:Mt),JE BT [(iv 0)] nh∧∀o7:Value,∀ko:Hp,BT [o7] ko→∀Ft:Fr,
aa .num .lss o7 eG fun fN=>
Br fN (
ak 2 a0 o7 fun gS=>
aO 2 ko gS fun gr=>
dx ko (.cells #[(iv 0),(.slice none 0 0)] 57 (0,0)) fun Dr qn=>
St 2 qn (pt Dr) gr fun o4=>
aO 2 o4 (pt Dr) fun fM=>
CF g 156 #[fM] o4 (fun fc wj=>
Ext 0 fc fun gn=>
Ext 1 fc fun j4=>
Nil (pt b6) fun iY=>
ae 2 iY fun gw=>
Ld wj gw fun gX=>
bg .i64 gn fun lZ=>
aa .num .or gX lZ fun lR=>
Nil (pt b6) fun lY=>
ae 2 lY fun nk=>
St 1 wj nk lR fun yF=>
aa .num .add o7 (iv 1) fun qs=>
aS BT DZ [qs] yF [o7] ko) (aQ R)) (
R (.returned (.tuple #[(pt b6),(iv 0)])) ko))) (aQ R))
theorem qf(h:L72 g a0 H R):aj Tryz.prog g 72 #[a0] H R:=
 aE (hn:=(hN 5 (.n (.n .e (.n (.h 0 [37] [4,35,36] .e .e) .e)) .e))) Tryz.func72 h (by kernel_rfl)
def L73(g:Gh)(a0 a1 a2:Value)(H:Hp)(R:Rt):Prop:=
Nil a0 fun v1=>
ae 2 v1 fun v2=>
Ld H v2 fun v3=>
aa .num .shr v3 a2 fun v4=>
aa .num .and v4 (iv 1) fun v5=>
aa .num .eql v5 (iv 0) fun v6=>
Br v6 (
R (.returned (iv 0)) H) (
Nil a0 fun v7=>
ae 2 v7 fun v8=>
Ld H v8 fun v9=>
aa .num .and a1 v9 fun v10=>
Build Tryz.prog 226 [(0,v10),(1,a2)] fun v11=>
dx H (.cells #[(iv 0),(iv 0)] 226 (0,0)) fun sA j5=>
St 2 j5 (pt sA) v11 fun kv=>
Nil a0 fun ee=>
ae 3 ee fun eH=>
Ld kv eH fun ei=>
aO 2 kv (pt sA) fun eD=>
gQ Tryz.prog 226 (iv 0) true kv ei eD fun dK=>
Ext 0 dK fun v20=>
Ext 1 dK fun eG=>
∀BI:Jt,(∀qp:Value,∀kq:Hp,(∀ve:Fr,
R (.returned qp) kq)→BI [qp] kq)→
Un .not eG fun fO=>
Br fO (
DR kv fun Bx=>
Nil a0 fun gS=>
ae 0 gS fun gr=>
Ld Bx gr fun v30=>
m9 2 1 (pt sA) (iv 0) fun iB=>
Ld Bx iB fun gp=>
bg .u64 gp fun fM=>
CF g 157 #[v30,fM,a2] kv (fun fc wj=>
aM wj Bx∧
Ext 0 fc fun gn=>
Ext 1 fc fun j4=>
DR wj fun Bw=>
Nil a0 fun gw=>
ae 3 gw fun gX=>
Ld Bw gX fun lZ=>
aO 2 Bw (pt sA) fun lR=>
fo Tryz.prog 226 wj lZ lR gn fun ux=>
JE BI [gn] ux) cU) (
JE BI [v20] kv))
theorem qe(h:L73 g a0 a1 a2 H R):aj Tryz.prog g 73 #[a0,a1,a2] H R:=
 aE (hn:=(hN 4 (.h 1 [8] [] (.n .e (.n (.n (.h 0 [0,1,2,3,4,5,6,7,8,9,10,11,12] [] .e .e) (.h 0 [0,1,2,3,4,5,6] [] .e .e)) .e)) .e))) Tryz.func73 h (by kernel_rfl)
def L74(g:Gh)(a0 a1:Value)(H:Hp)(R:Rt):Prop:=
Nil a0 fun v1=>
ae 2 v1 fun v2=>
Ld H v2 fun v3=>
aa .num .and a1 v3 fun v4=>
Nil a0 fun v5=>
ae 2 v5 fun v6=>
Ld H v6 fun v7=>
aa .num .eql v4 v7 fun v8=>
Br v8 (
R (.returned (iv 0)) H) (
Nil a0 fun v9=>
ae 4 v9 fun v10=>
Ld H v10 fun v11=>
e9 (.int .i64) (iv 0) true H v11 v4 fun dQ=>
Ext 0 dQ fun dh=>
Ext 1 dQ fun ef=>
Br ef (
R (.returned dh) H) (
Nil a0 fun ee=>
ae 1 ee fun eH=>
Ld H eH fun ei=>
∃(BV:Jt) (D1:Mt),JE BV [(iv (-1)),(iv 0)] H∧∀sF qC:Value,∀iX:Hp,BV [sF,qC] iX→∀Bh:Fr,
aa .num .lss qC ei fun fe=>
Br fe (
∀zx:Jt,(∀sE:Value,∀m0:Hp,(∀Bg:Fr,
aa .num .add qC (iv 1) fun gr=>
aS BV D1 [sE,gr] m0 [sF,qC] iX)→zx [sE] m0)→
Nil a0 fun v30=>
ae 2 v30 fun iB=>
Ld iX iB fun gp=>
Un .xor gp fun fM=>
aa .num .or v4 fM fun fc=>
aa .num .shr fc qC fun iA=>
aa .num .and iA (iv 1) fun gn=>
aa .num .eql gn (iv 1) fun j4=>
Br j4 (
JE zx [sF] iX) (
DR iX fun Bw=>
aa .num .shl (iv 1) qC fun gw=>
aa .num .or v4 gw fun gX=>
CF g 73 #[a0,v4,qC] iX (fun lZ zz=>
CF g 74 #[a0,gX] zz (fun lY vD=>
aa .num .add lZ lY fun oD=>
aa .num .lss sF (iv 0) fun qs=>
cw qs false (fun t47=>
aa .num .lss oD sF fun sG=>
(vD=vD∧sG=Value.bool t47)) (fun t47=>(Value.bool true)=Value.bool t47) fun t47=>∀Fe:Fr,
Br (Value.bool t47) (
JE zx [oD] vD) (
JE zx [sF] vD)) cU) cU)) (
Nil a0 fun o8=>
ae 4 o8 fun qq=>
Ld iX qq fun wz=>
cM (.int .i64) iX wz v4 sF fun vC=>
R (.returned sF) vC)))
theorem kT(h:L74 g a0 a1 H R):aj Tryz.prog g 74 #[a0,a1] H R:=
 aE (hn:=(hN 5 (.n (.n .e (.n (.h 0 [7,37] [0,1,36] (.n .e (.n .e (.h 1 [7] [0,1,36,37] (.n (.n .e (.n .e (.n (.h 0 [0,1,2,4,5,6,7,8,3,9,10,11] [] .e .e) (.n (.h 0 [] [1] .e .e) .e)))) .e) .e))) .e) .e)) .e))) Tryz.func74 h (by kernel_rfl)
def L75(g:Gh)(a0:Value)(H:Hp)(R:Rt):Prop:=
∀J1:Jt,(∀w4 w5:Value,∀H3:Hp,(∀Fw:Fr,
∀J6:Jt,(∀w9 qF:Value,∀H8:Hp,(∀Bb:Fr,
∀BN:Jt,(∀qE nj:Value,∀j5:Hp,(∀Bl:Fr,
bg .u8 qE fun eH=>
uv (.string (ByteArray.mk #[0,1,2,2,3,3,3,3,4,4,4,4,4,4,4,4,5,5,5,5,5,5,5,5,5,5,5,5,5,5,5,5,6,6,6,6,6,6,6,6,6,6,6,6,6,6,6,6,6,6,6,6,6,6,6,6,6,6,6,6,6,6,6,6,7,7,7,7,7,7,7,7,7,7,7,7,7,7,7,7,7,7,7,7,7,7,7,7,7,7,7,7,7,7,7,7,7,7,7,7,7,7,7,7,7,7,7,7,7,7,7,7,7,7,7,7,7,7,7,7,7,7,7,7,7,7,7,7,8,8,8,8,8,8,8,8,8,8,8,8,8,8,8,8,8,8,8,8,8,8,8,8,8,8,8,8,8,8,8,8,8,8,8,8,8,8,8,8,8,8,8,8,8,8,8,8,8,8,8,8,8,8,8,8,8,8,8,8,8,8,8,8,8,8,8,8,8,8,8,8,8,8,8,8,8,8,8,8,8,8,8,8,8,8,8,8,8,8,8,8,8,8,8,8,8,8,8,8,8,8,8,8,8,8,8,8,8,8,8,8,8,8,8,8,8,8,8,8,8,8,8,8,8,8,8,8])) eH fun ei=>
bg .i64 ei fun eD=>
aa .num .add nj eD fun dK=>
R (.returned dK) j5)→BN [qE,nj] j5)→
aa .num .geq w9 (Value.int .u64 256) fun v20=>
Br v20 (
aa .num .shr w9 (Value.int .u64 8) fun eG=>
aa .num .add qF (iv 8) fun fP=>
JE BN [eG,fP] H8) (
JE BN [w9,qF] H8))→J6 [w9,qF] H8)→
aa .num .geq w4 (Value.int .u64 65536) fun fB=>
Br fB (
aa .num .shr w4 (Value.int .u64 16) fun fe=>
aa .num .add w5 (iv 16) fun gT=>
JE J6 [fe,gT] H3) (
JE J6 [w4,w5] H3))→J1 [w4,w5] H3)→
aa .num .geq a0 (Value.int .u64 4294967296) fun fO=>
Br fO (
aa .num .shr a0 (Value.int .u64 32) fun fN=>
JE J1 [fN,(iv 32)] H) (
JE J1 [a0,(iv 0)] H)
theorem qd(h:L75 g a0 H R):aj Tryz.prog g 75 #[a0] H R:=
 aE (hn:=(.n .e (.h 1 [0,2] [] .e (.h 1 [0,2] [] .e (.h 1 [0,2] [] .e .e))))) Tryz.func75 h (by kernel_rfl)
def L76(g:Gh)(H:Hp)(R:Rt):Prop:=
Build Tryz.prog 231 [] fun v1=>
dx H (.cells (Value.cells v1) 231 (0,0)) fun b2 H3=>
R (.returned (pt b2)) H3
theorem qc(h:L76 g H R):aj Tryz.prog g 76 #[] H R:=
 aE (hn:=.e) Tryz.func76 h (by kernel_rfl)
def L77(g:Gh)(a0 a1 a2:Value)(H:Hp)(R:Rt):Prop:=
aa .ptr .eql a0 (.pointer none) fun v1=>
Br v1 (
R (.returned (iv 10)) H) (
Nil a0 fun v2=>
ae 1 v2 fun v3=>
Ld H v3 fun v4=>
e9 (.int .i64) (iv 0) true H v4 a1 fun v5=>
Ext 0 v5 fun v6=>
Ext 1 v5 fun v7=>
Br v7 (
R (.returned (iv 11)) H) (
∀J8:Jt,(∀lT:Hp,(∀E8:Fr,
Nil a0 fun v11=>
ae 0 v11 fun dQ=>
Ld lT dQ fun dh=>
Build Tryz.prog 233 [(0,a1),(1,a2)] fun ef=>
aG Tryz.prog 229 1 [(0,ef)] lT fun ee kr=>
App Tryz.prog 233 2 16 (.agg #[(iv 0),(iv 0)]) kr dh ee fun dK nh=>
Nil a0 fun eG=>
ae 0 eG fun fP=>
St 1 nh fP dK fun zC=>
Nil a0 fun fe=>
ae 0 fe fun gT=>
Ld zC gT fun fO=>
aB fO fun fN=>
aa .num .sub fN (iv 1) fun gS=>
CF g 158 #[a0,gS] zC (fun gr sb=>
R (.returned (iv 0)) sb) (aQ R))→J8 [] lT)→
Nil a0 fun iB=>
ae 1 iB fun gp=>
Ld H gp fun fM=>
aa .map .eql fM (.map none) fun fc=>
Br fc (
jW H fun iA vE=>
Nil a0 fun j4=>
ae 1 j4 fun iY=>
St 1 vE iY iA fun FU=>
JE J8 [] FU) (
JE J8 [] H)))
theorem qb(h:L77 g a0 a1 a2 H R):aj Tryz.prog g 77 #[a0,a1,a2] H R:=
 aE (hn:=(hN 3 (.h 1 [] [0,1,2] .e .e))) Tryz.func77 h (by kernel_rfl)
def L78(g:Gh)(a0:Value)(H:Hp)(R:Rt):Prop:=
aa .ptr .eql a0 (.pointer none) fun v1=>
cw v1 false (fun t2=>
Nil a0 fun v3=>
ae 0 v3 fun v4=>
Ld H v4 fun v5=>
aB v5 fun v6=>
aa .num .eql v6 (iv 0) fun v7=>
(H=H∧v7=Value.bool t2)) (fun t2=>(Value.bool true)=Value.bool t2) fun t2=>∀Dg:Fr,
Br (Value.bool t2) (
R (.returned (.tuple #[(iv 0),(iv 0),(iv 10)])) H) (
Nil a0 fun v9=>
ae 0 v9 fun v10=>
Ld H v10 fun v11=>
ak 2 v11 (iv 0) fun dQ=>
aO 2 H dQ fun dh=>
dx H (.cells #[(iv 0),(iv 0)] 233 (0,0)) fun wc ku=>
St 2 ku (pt wc) dh fun kr=>
Nil a0 fun ei=>
ae 0 ei fun eD=>
Ld kr eD fun dK=>
aB dK fun v20=>
aa .num .sub v20 (iv 1) fun eG=>
Nil a0 fun fP=>
ae 0 fP fun fB=>
Ld kr fB fun fe=>
ak 2 fe eG fun gT=>
aO 2 kr gT fun fO=>
dx kr (.cells #[(iv 0),(iv 0)] 233 (0,0)) fun zo B4=>
St 2 B4 (pt zo) fO fun zB=>
Nil a0 fun v30=>
ae 0 v30 fun iB=>
Ld zB iB fun gp=>
e5 2 gp none (some eG) fun fM=>
Nil a0 fun fc=>
ae 0 fc fun iA=>
St 1 zB iA fM fun vE=>
DR vE fun Du=>
Nil a0 fun iY=>
ae 1 iY fun gw=>
Ld Du gw fun gX=>
ae 0 (pt wc) fun lZ=>
Ld Du lZ fun lR=>
jX (.int .i64) vE gX lR fun yF=>
∀BD:Jt,(∀mZ:Hp,(∀Be:Fr,
ae 0 (pt wc) fun wA=>
Ld mZ wA fun o8=>
ae 1 (pt wc) fun qq=>
Ld mZ qq fun wz=>
R (.returned (.tuple #[o8,wz,(iv 0)])) mZ)→BD [] mZ)→
aa .num .gtr eG (iv 0) fun zP=>
Br zP (
aO 2 yF (pt zo) fun zO=>
CF g 159 #[a0,(iv 0),zO] yF (fun tN yD=>
CF g 160 #[a0,(iv 0)] yD (fun oC FR=>
JE BD [] FR) (aQ R)) (aQ R)) (
JE BD [] yF))
theorem kS(h:L78 g a0 H R):aj Tryz.prog g 78 #[a0] H R:=
 aE (hn:=(.n .e (.n .e (.n (.n (.h 0 [] [1] .e .e) .e) (hN 4 (.n (.h 0 [0,1,2,3,4,5,6] [] .e .e) (.h 1 [] [6] .e .e))))))) Tryz.func78 h (by kernel_rfl)
def L79(g:Gh)(a0 a1:Value)(H:Hp)(R:Rt):Prop:=
aa .ptr .eql a0 (.pointer none) fun v1=>
Br v1 (
R (.returned (.tuple #[(iv 0),(iv 10)])) H) (
Nil a0 fun v2=>
ae 1 v2 fun v3=>
Ld H v3 fun v4=>
e9 (.int .i64) (iv 0) true H v4 a1 fun v5=>
Ext 0 v5 fun v6=>
Ext 1 v5 fun v7=>
Un .not v7 fun v8=>
Br v8 (
R (.returned (.tuple #[(iv 0),(iv 10)])) H) (
Nil a0 fun v9=>
ae 0 v9 fun v10=>
Ld H v10 fun v11=>
ak 2 v11 v6 fun dQ=>
ae 1 dQ fun dh=>
Ld H dh fun ef=>
R (.returned (.tuple #[ef,(iv 0)])) H))
theorem qa(h:L79 g a0 a1 H R):aj Tryz.prog g 79 #[a0,a1] H R:=
 aE (hn:=.e) Tryz.func79 h (by kernel_rfl)
def L80(g:Gh)(a0 a1 a2:Value)(H:Hp)(R:Rt):Prop:=
aa .ptr .eql a0 (.pointer none) fun v1=>
Br v1 (
R (.returned (iv 10)) H) (
Nil a0 fun v2=>
ae 1 v2 fun v3=>
Ld H v3 fun v4=>
e9 (.int .i64) (iv 0) true H v4 a1 fun v5=>
Ext 0 v5 fun v6=>
Ext 1 v5 fun v7=>
Un .not v7 fun v8=>
Br v8 (
R (.returned (iv 10)) H) (
Nil a0 fun v9=>
ae 0 v9 fun v10=>
Ld H v10 fun v11=>
ak 2 v11 v6 fun dQ=>
ae 1 dQ fun dh=>
St 1 H dh a2 fun kv=>
CF g 158 #[a0,v6] kv (fun ee kr=>
Nil a0 fun ei=>
ae 1 ei fun eD=>
Ld kr eD fun dK=>
e9 (.int .i64) (iv 0) false kr dK a1 fun v20=>
CF g 160 #[a0,v20] kr (fun eG lP=>
R (.returned (iv 0)) lP) (aQ R)) (aQ R)))
theorem p9(h:L80 g a0 a1 a2 H R):aj Tryz.prog g 80 #[a0,a1,a2] H R:=
 aE (hn:=.e) Tryz.func80 h (by kernel_rfl)
def L81(g:Gh)(a0:Value)(H:Hp)(R:Rt):Prop:=
aa .num .leq a0 (iv 6) fun v1=>
Br v1 (
R (.returned (iv 1)) H) (
aa .num .sub a0 (iv 6) fun v2=>
aa .num .shl (iv 1) v2 fun v3=>
R (.returned v3) H)
theorem p8(h:L81 g a0 H R):aj Tryz.prog g 81 #[a0] H R:=
 aE (hn:=.e) Tryz.func81 h (by kernel_rfl)
variable {g:Gh} {a0 a1 a2 a3 a4 a5 a6 a7 a8 a9 vq vp yl yj yh yg:Value} {H:Hp} {R:Rt}
def L148(g:Gh)(a0 a1 a2:Value)(H:Hp)(R:Rt):Prop:=
dx H (.cells (Value.cells a0) 57 (0,0)) fun b1 H2=>
dx H2 (.cells #[(iv 0),(.slice none 0 0)] 57 (0,0)) fun b3 H4=>
aO 2 H4 (pt b1) fun v5=>
CF g 214 #[v5,a1] H4 (fun v6 H7=>
aa .num .neq v6 (iv 0) fun v8=>
Br v8 (
Build Tryz.prog 57 [] fun v9=>
St 2 H7 (pt b3) v9 fun lT=>
aO 2 lT (pt b3) fun v11=>
R (.returned (.tuple #[v11,v6])) lT) (
aO 2 H7 (pt b1) fun dQ=>
CF g 215 #[dQ,a1,a2] H7 (fun dh kv=>
St 2 kv (pt b3) dh fun ku=>
aO 2 ku (pt b3) fun eH=>
R (.returned (.tuple #[eH,(iv 0)])) ku) (aQ R))) (aQ R)
theorem ot(h:L148 g a0 a1 a2 H R):aj Tryz.prog g 148 #[a0,a1,a2] H R:=
 aE (hn:=.e) Tryz.func148 h (by kernel_rfl)
def L155(g:Gh)(a0:Value)(H:Hp)(R:Rt):Prop:=
CF g 175 #[a0] H (fun v1 H2=>
Un .not v1 fun v3=>
Br v3 (
R (.returned (.tuple #[(.slice none 0 0),(iv 5)])) H2) (
aB a0 fun v4=>
aa .num .eql v4 (iv 0) fun v5=>
Br v5 (
R (.returned (.tuple #[(.slice none 0 0),(iv 0)])) H2) (
ak 2 a0 (iv 0) fun v6=>
ae 0 v6 fun v7=>
Ld H2 v7 fun v8=>
c8 50 1 8 (Value.int .u64 0) H2 v8 v8 fun v9 lT=>
aB a0 fun v11=>
∃(BZ:Jt) (D5:Mt),JE BZ [(iv 0)] lT∧∀kB:Value,∀ku:Hp,BZ [kB] ku→∀vg:Fr,
aa .num .lss kB v11 fun ei=>
Br ei (
ak 2 a0 kB fun eD=>
aO 2 ku eD fun dK=>
dx ku (.cells #[(iv 0),(.slice none 0 0)] 57 (0,0)) fun Dt iX=>
St 2 iX (pt Dt) dK fun lP=>
aO 2 lP (pt Dt) fun fB=>
CF g 156 #[fB] lP (fun fe ko=>
Ext 0 fe fun fO=>
Ext 1 fe fun fN=>
aB v9 fun gS=>
∃(BQ:Jt) (DW:Mt),JE BQ [(iv 0)] ko∧∀tL:Value,∀o4:Hp,BQ [tL] o4→∀Bf:Fr,
aa .num .lss tL gS fun fc=>
Br fc (
∀BF:Jt,(∀tE:Hp,(∀Fk:Fr,
aa .num .add tL (iv 1) fun iY=>
aS BQ DW [iY] tE [tL] o4)→BF [] tE)→
aa .num .shr fO tL fun gw=>
aa .num .and gw (Value.int .u64 1) fun gX=>
aa .num .eql gX (Value.int .u64 1) fun lZ=>
Br lZ (
DR o4 fun FH=>
ak 1 v9 tL fun lY=>
Ld FH lY fun nk=>
aa .num .shl (Value.int .u64 1) tL fun oD=>
aa .num .andNot fO oD fun qs=>
aa .num .or nk qs fun qG=>
ak 1 v9 tL fun sG=>
St 1 o4 sG qG fun mY=>
JE BF [] mY) (
JE BF [] o4)) (
aa .num .add kB (iv 1) fun o8=>
aS BZ D5 [o8] o4 [kB] ku)) (aQ R)) (
R (.returned (.tuple #[v9,(iv 0)])) ku)))) (aQ R)
theorem oq(h:L155 g a0 H R):aj Tryz.prog g 155 #[a0] H R:=
 aE (hn:=(hN 4 (.n (.n .e (.n (.h 0 [23] [4,21,22] (.n .e (.n .e (.n (.n (hN 3 (.n (.h 0 [34] [4,7,21,22,23,33] (.n .e (.n .e (.h 1 [] [4,7,21,22,23,33,34] (.n (.n .e (.n .e (.n (.h 0 [0,1,2,3,4,5,6,7,8,9,10] [] .e .e) .e))) .e) .e))) .e) .e)) .e) .e))) .e) .e)) .e))) Tryz.func155 h (by kernel_rfl)
def L156(g:Gh)(a0:Value)(H:Hp)(R:Rt):Prop:=
dx H (.cells (Value.cells a0) 57 (0,0)) fun b1 H2=>
aO 2 H2 (pt b1) fun v3=>
aG Tryz.prog 28 1 [(0,v3)] H2 fun v4 H5=>
CF g 220 #[v4] H5 (fun v6 H7=>
Un .not v6 fun v8=>
Br v8 (
R (.returned (.tuple #[(Value.int .u64 0),(iv 5)])) H7) (
ae 0 (pt b1) fun v9=>
Ld H7 v9 fun v10=>
∃(B1:Jt) (D6:Mt),JE B1 [(Value.int .u64 0),(iv 0)] H7∧∀nj kB:Value,∀kv:Hp,B1 [nj,kB] kv→∀Fz:Fr,
aa .num .lss kB v10 fun ei=>
Br ei (
∀sC:Jt,(∀qD:Value,∀nh:Hp,(∀Bi:Fr,
aa .num .add kB (iv 1) fun fP=>
aS B1 D6 [qD,fP] nh [nj,kB] kv)→sC [qD] nh)→
DR kv fun yp=>
aO 2 yp (pt b1) fun fe=>
aO 2 yp (pt b1) fun gT=>
CF g 215 #[fe,kB,(Value.bool false)] kv (fun fO m0=>
aM m0 yp∧
sD 1 fO fun gS=>
CF g 215 #[gT,kB,(Value.bool true)] m0 (fun gr sb=>
aM sb yp∧
sD 1 gr fun iB=>
CF g 222 #[gS,iB] sb (fun gp sa=>
aM sa yp∧
Un .not gp fun fc=>
Br fc (
aa .num .shl (Value.int .u64 1) kB fun iA=>
aa .num .or nj iA fun gn=>
JE sC [gn] sa) (
JE sC [nj] sa)) cU) cU) cU) (
R (.returned (.tuple #[nj,(iv 0)])) kv))) (aQ R)
theorem oo(h:L156 g a0 H R):aj Tryz.prog g 156 #[a0] H R:=
 aE (hn:=(hN 3 (.n (.n .e (.n (.h 0 [4,12] [1,11] (.n .e (.n .e (.h 1 [4] [1,11,12] (.n (.n .e (.n (.h 0 [0,1,4,5,2,3,6,7,8,9] [] .e .e) .e)) .e) .e))) .e) .e)) .e))) Tryz.func156 h (by kernel_rfl)
def L157(g:Gh)(a0 a1 a2:Value)(H:Hp)(R:Rt):Prop:=
CF g 175 #[a0] H (fun v1 H2=>
Un .not v1 fun v3=>
Br v3 (
R (.returned (.tuple #[(iv 0),(iv 5)])) H2) (
∀J4:Jt,(∀w7:Value,∀H6:Hp,(∀Gu:Fr,
aa .num .lss a2 (iv 0) fun v8=>
cw v8 false (fun t9=>
aa .num .geq a2 w7 fun v10=>
(H6=H6∧v10=Value.bool t9)) (fun t9=>(Value.bool true)=Value.bool t9) fun t9=>∀x9:Fr,
cw (Value.bool t9) false (fun t12=>
aa .num .shr a1 w7 fun dh=>
aa .num .neq dh (Value.int .u64 0) fun ef=>
(H6=H6∧ef=Value.bool t12)) (fun t12=>(Value.bool true)=Value.bool t12) fun t12=>∀Bk:Fr,
Br (Value.bool t12) (
R (.returned (.tuple #[(iv 0),(iv 2)])) H6) (
aa .num .shr a1 a2 fun eH=>
aa .num .and eH (Value.int .u64 1) fun ei=>
aa .num .eql ei (Value.int .u64 1) fun eD=>
Br eD (
R (.returned (.tuple #[(iv 0),(iv 4)])) H6) (
CF g 176 #[a0] H6 (fun dK nh=>
∃(BU:Jt) (D0:Mt),JE BU [dK,(iv 0)] nh∧∀qp o7:Value,∀kq:Hp,BU [qp,o7] kq→∀ve:Fr,
aa .num .lss o7 w7 fun fN=>
Br fN (
∀BH:Jt,(∀Cg:Value,∀sb:Hp,(∀Fp:Fr,
aa .num .add o7 (iv 1) fun gp=>
aS BU D0 [Cg,gp] sb [qp,o7] kq)→BH [Cg] sb)→
aa .num .shr a1 o7 fun fM=>
aa .num .and fM (Value.int .u64 1) fun fc=>
aa .num .eql fc (Value.int .u64 1) fun iA=>
Br iA (
CF g 177 #[qp,o7] kq (fun gn tE=>
Ext 0 gn fun iY=>
Ext 1 gn fun gw=>
JE BH [iY] tE) (aQ R)) (
JE BH [qp] kq)) (
CF g 177 #[qp,a2] kq (fun gX yG=>
Ext 0 gX fun lR=>
Ext 1 gX fun lY=>
R (.returned (.tuple #[lY,(iv 0)])) yG) (aQ R))) (aQ R))))→J4 [w7] H6)→
aB a0 fun nk=>
aa .num .gtr nk (iv 0) fun oD=>
Br oD (
ak 2 a0 (iv 0) fun qs=>
ae 0 qs fun qG=>
Ld H2 qG fun sG=>
JE J4 [sG] H2) (
JE J4 [(iv 16)] H2))) (aQ R)
theorem om(h:L157 g a0 a1 a2 H R):aj Tryz.prog g 157 #[a0,a1,a2] H R:=
 aE (hn:=(hN 3 (.h 1 [8] [0,1,2] .e (.n (.n (.h 0 [] [1] .e .e) .e) (.n .e (.n .e (.n (.n .e (.n (.h 0 [9,44] [1,2,43] (.n .e (.n .e (.h 1 [9] [1,2,43,44] .e .e))) .e) .e)) .e))))))) Tryz.func157 h (by kernel_rfl)
def L158(g:Gh)(a0 a1:Value)(H:Hp)(R:Rt):Prop:=
Nil a0 fun v1=>
ae 0 v1 fun v2=>
Ld H v2 fun v3=>
ak 2 v3 a1 fun v4=>
aO 2 H v4 fun v5=>
dx H (.cells #[(iv 0),(iv 0)] 233 (0,0)) fun b6 H7=>
St 2 H7 (pt b6) v5 fun H8=>
∃(I9:Jt) (Ai:Mt),JE I9 [a1] H8∧∀oB:Value,∀jZ:Hp,I9 [oB] jZ→∀x9:Fr,
∀BM:Jt,(∀Ch:Value,∀kr:Hp,(∀Bk:Fr,
Br Ch (
Nil a0 fun eD=>
ae 0 eD fun dK=>
Ld kr dK fun v20=>
aa .num .sub oB (iv 1) fun eG=>
aa .num .quo eG (iv 2) fun fP=>
ak 2 v20 fP fun fB=>
aO 2 kr fB fun fe=>
CF g 159 #[a0,oB,fe] kr (fun gT ou=>
aa .num .sub oB (iv 1) fun fN=>
aa .num .quo fN (iv 2) fun gS=>
aS I9 Ai [gS] ou [oB] jZ) (aQ R)) (
aO 2 kr (pt b6) fun gr=>
CF g 159 #[a0,oB,gr] kr (fun v30 qn=>
R (.returned (.tuple #[])) qn) (aQ R)))→BM [Ch] kr)→
DR jZ fun zw=>
aa .num .gtr oB (iv 0) fun fM=>
Br fM (
aO 2 zw (pt b6) fun fc=>
Nil a0 fun iA=>
ae 0 iA fun gn=>
Ld zw gn fun j4=>
aa .num .sub oB (iv 1) fun iY=>
aa .num .quo iY (iv 2) fun gw=>
ak 2 j4 gw fun gX=>
aO 2 zw gX fun lZ=>
∀FZ:Hp,
CF (g.add FZ) 223 #[fc,lZ] jZ (fun lY vD=>
aM vD zw∧
aA (Value.bool true) lY (Value.bool false) fun oD=>
JE BM [oD] vD) cU) (
JE BM [(Value.bool false)] jZ)
theorem oh(h:L158 g a0 a1 H R):aj Tryz.prog g 158 #[a0,a1] H R:=
 aE (hn:=(.n .e (.n (.n (.h 0 [1] [0,4] (.n (.h 1 [26] [0,1,4] (.h 1 [] [] (hr 0 [] 0 2 (.h 2 [2] [] (hr 0 [] 3 12 .e) (hr 0 [] 3 11 (.h 3 [14] [] .e .e)))) .e) .e) .e) .e) .e) .e))) Tryz.func158 h (by kernel_rfl)
def L159(g:Gh)(a0 a1 a2:Value)(H:Hp)(R:Rt):Prop:=
dx H (.cells (Value.cells a2) 233 (0,0)) fun b1 H2=>
DR H2 fun R3=>
Nil a0 fun v4=>
ae 0 v4 fun v5=>
Ld R3 v5 fun v6=>
aO 2 R3 (pt b1) fun v7=>
ak 2 v6 a1 fun v8=>
St 2 H2 v8 v7 fun H9=>
DR H9 fun Dv=>
Nil a0 fun v11=>
ae 1 v11 fun dQ=>
Ld Dv dQ fun dh=>
ae 0 (pt b1) fun ef=>
Ld Dv ef fun ee=>
cM (.int .i64) H9 dh ee a1 fun kr=>
R (.returned (.tuple #[])) kr
theorem og(h:L159 g a0 a1 a2 H R):aj Tryz.prog g 159 #[a0,a1,a2] H R:=
 aE (hn:=(.n .e (.n (.h 0 [0,1,2,3,4,5,6,7] [] .e .e) (.h 0 [0,1,2,3,4,5,6,7] [] .e .e)))) Tryz.func159 h (by kernel_rfl)
def L160(g:Gh)(a0 a1:Value)(H:Hp)(R:Rt):Prop:=
Nil a0 fun v1=>
ae 0 v1 fun v2=>
Ld H v2 fun v3=>
ak 2 v3 a1 fun v4=>
aO 2 H v4 fun v5=>
dx H (.cells #[(iv 0),(iv 0)] 233 (0,0)) fun b6 H7=>
St 2 H7 (pt b6) v5 fun H8=>
∃(I9:Jt) (Ai:Mt),JE I9 [a1] H8∧∀oB:Value,∀jZ:Hp,I9 [oB] jZ→∀x9:Fr,
aa .num .mul (iv 2) oB fun ef=>
aa .num .add ef (iv 1) fun ee=>
∀BL:Jt,(∀sq:Value,∀tF:Hp,(∀Bj:Fr,
∀BJ:Jt,(∀qC:Value,∀lP:Hp,(∀Fv:Fr,
Br qC (
aO 2 lP (pt b6) fun fe=>
CF g 159 #[a0,oB,fe] lP (fun gT ou=>
R (.returned (.tuple #[])) ou) (aQ R)) (
Nil a0 fun fN=>
ae 0 fN fun gS=>
Ld lP gS fun gr=>
ak 2 gr sq fun v30=>
aO 2 lP v30 fun iB=>
CF g 159 #[a0,oB,iB] lP (fun gp sa=>
aS I9 Ai [sq] sa [oB] jZ) (aQ R)))→BJ [qC] lP)→
DR tF fun sB=>
Nil a0 fun iA=>
ae 0 iA fun gn=>
Ld sB gn fun j4=>
aB j4 fun iY=>
aa .num .geq sq iY fun gw=>
Br gw (
JE BJ [(Value.bool true)] tF) (
Nil a0 fun gX=>
ae 0 gX fun lZ=>
Ld sB lZ fun lR=>
ak 2 lR sq fun lY=>
aO 2 sB lY fun nk=>
aO 2 sB (pt b6) fun oD=>
∀FY:Hp,
CF (g.add FY) 223 #[nk,oD] tF (fun qG mZ=>
aM mZ sB∧
Un .not qG fun wA=>
aA (Value.bool false) (Value.bool true) wA fun o8=>
JE BJ [o8] mZ) cU))→BL [sq] tF)→
∀BC:Jt,(∀Cc:Value,∀vC:Hp,(∀Fb:Fr,
Br Cc (
aa .num .add ee (iv 1) fun tN=>
JE BL [tN] vC) (
JE BL [ee] vC))→BC [Cc] vC)→
DR jZ fun we=>
aa .num .add ee (iv 1) fun oC=>
Nil a0 fun uC=>
ae 0 uC fun zL=>
Ld we zL fun wy=>
aB wy fun wx=>
aa .num .lss oC wx fun wv=>
Br wv (
Nil a0 fun zK=>
ae 0 zK fun DP=>
Ld we DP fun zJ=>
aa .num .add ee (iv 1) fun wu=>
ak 2 zJ wu fun zI=>
aO 2 we zI fun wq=>
Nil a0 fun DO=>
ae 0 DO fun uB=>
Ld we uB fun yN=>
ak 2 yN ee fun DN=>
aO 2 we DN fun wo=>
∀B5:Hp,
CF (g.add B5) 223 #[wq,wo] jZ (fun wm wi=>
aM wi we∧
aA (Value.bool true) wm (Value.bool false) fun zG=>
JE BC [zG] wi) cU) (
JE BC [(Value.bool false)] jZ)
theorem oe(h:L160 g a0 a1 H R):aj Tryz.prog g 160 #[a0,a1] H R:=
 aE (hn:=(.n .e (.n (.n (.h 0 [1] [0,4] (.n (.n .e (.h 1 [5] [0,1,4] (.h 1 [41] [0,1,4,5] (.h 1 [] [] (hr 0 [] 0 8 (.h 2 [8] [] (hr 0 [] 9 17 .e) (hr 0 [] 9 16 (.h 3 [25] [] .e .e)))) .e) .e) (.n (.h 1 [62] [0,1,4,5] (.h 1 [] [] (hr 0 [] 0 7 (.h 2 [7] [] (hr 0 [] 8 10 (.h 3 [18] [] .e .e)) (hr 0 [] 8 11 .e))) .e) .e) .e))) .e) .e) .e) .e))) Tryz.func160 h (by kernel_rfl)
variable {g:Gh} {a0 a1 a2 a3 a4 a5 a6 a7 a8 a9 vq vp yl yj yh yg:Value} {H:Hp} {R:Rt}
def L175(g:Gh)(a0:Value)(H:Hp)(R:Rt):Prop:=
aB a0 fun v1=>
∃(I2:Jt) (m3:Mt),JE I2 [(iv 0)] H∧∀w6:Value,∀H5:Hp,I2 [w6] H5→∀zl:Fr,
aa .num .lss w6 v1 fun v7=>
Br v7 (
ak 2 a0 w6 fun v8=>
aO 2 H5 v8 fun v9=>
dx H5 (.cells #[(iv 0),(.slice none 0 0)] 57 (0,0)) fun vm j3=>
St 2 j3 (pt vm) v9 fun jZ=>
∀vB:Jt,(∀kB:Value,∀ku:Hp,(∀vg:Fr,
Br kB (
R (.returned (Value.bool false)) ku) (
aa .num .add w6 (iv 1) fun ei=>
aS I2 m3 [ei] ku [w6] H5))→vB [kB] ku)→
DR jZ fun tC=>
aO 2 tC (pt vm) fun dK=>
∀B6:Hp,
CF (g.add B6) 232 #[dK] jZ (fun eG lP=>
aM lP tC∧
Un .not eG fun fB=>
Br fB (
JE vB [(Value.bool true)] lP) (
ae 0 (pt vm) fun fe=>
Ld tC fe fun gT=>
ak 2 a0 (iv 0) fun fO=>
ae 0 fO fun fN=>
Ld tC fN fun gS=>
aa .num .neq gT gS fun gr=>
aA (Value.bool false) (Value.bool true) gr fun v30=>
JE vB [v30] lP)) cU) (
R (.returned (Value.bool true)) H5)
theorem oc(h:L175 g a0 H R):aj Tryz.prog g 175 #[a0] H R:=
 aE (hn:=(.n .e (.n (.n .e (.n (.h 0 [7] [0,5,6] (.n .e (.n .e (.n (.n (.n .e (.h 1 [22] [0,5,6,7] (.h 1 [] [] (hr 0 [] 0 3 (.h 2 [3] [] (hr 0 [] 4 7 (.h 3 [11] [] .e .e)) (hr 0 [] 4 8 .e))) .e) .e)) .e) .e))) .e) .e)) .e))) Tryz.func175 h (by kernel_rfl)
def L176(g:Gh)(a0:Value)(H:Hp)(R:Rt):Prop:=
jW H fun v1 H2=>
aB a0 fun v3=>
∃(I4:Jt) (m5:Mt),JE I4 [(iv 0)] H2∧∀w8:Value,∀H7:Hp,I4 [w8] H7→∀Gt:Fr,
aa .num .lss w8 v3 fun v9=>
Br v9 (
ak 2 a0 w8 fun v10=>
aO 2 H7 v10 fun v11=>
dx H7 (.cells #[(iv 0),(.slice none 0 0)] 57 (0,0)) fun sA j5=>
St 2 j5 (pt sA) v11 fun kv=>
aO 2 kv (pt sA) fun ee=>
CF g 233 #[v1,ee] kv (fun eH qo=>
aa .num .add w8 (iv 1) fun eD=>
aS I4 m5 [eD] qo [w8] H7) (aQ R)) (
R (.returned v1) H7)
theorem ob(h:L176 g a0 H R):aj Tryz.prog g 176 #[a0] H R:=
 aE (hn:=(.n .e (.n .e (.n (.n .e (.n (.h 0 [9] [3,7,8] .e .e) .e)) .e)))) Tryz.func176 h (by kernel_rfl)
def L177(g:Gh)(a0 a1:Value)(H:Hp)(R:Rt):Prop:=
jW H fun v1 H2=>
zq H2 a0 fun v3 H4=>
∃(I5:Jt) (m6:Mt),JE I5 [(iv 0)] H4∧∀w9:Value,∀H8:Hp,I5 [w9] H8→∀Bb:Fr,
yx H8 v3 fun v10 j3=>
Ext 0 v10 fun dQ=>
Br dQ (
tJ j3 v3 fun dh=>
Ext 1 dh fun ef=>
dx j3 (.cells #[(iv 0),(.slice none 0 0)] 57 (0,0)) fun Bt kr=>
St 2 kr (pt Bt) ef fun qo=>
aO 2 qo (pt Bt) fun eD=>
CF g 148 #[eD,a1,(Value.bool false)] qo (fun dK nh=>
Ext 0 dK fun eG=>
Ext 1 dK fun fP=>
dx nh (.cells #[(iv 0),(.slice none 0 0)] 57 (0,0)) fun Bs kq=>
St 2 kq (pt Bs) eG fun ko=>
aO 2 ko (pt Bt) fun fO=>
CF g 148 #[fO,a1,(Value.bool true)] ko (fun fN B4=>
Ext 0 fN fun gr=>
Ext 1 fN fun v30=>
dx B4 (.cells #[(iv 0),(.slice none 0 0)] 57 (0,0)) fun Bq o4=>
St 2 o4 (pt Bq) gr fun sa=>
DR sa fun sB=>
aO 2 sB (pt Bs) fun iA=>
aO 2 sB (pt Bq) fun gn=>
CF g 234 #[iA] sa (fun j4 zA=>
aM zA sB∧
CF g 234 #[gn] zA (fun gw yH=>
aM yH sB∧
∀BE:Jt,(∀Cd:Value,∀ux:Hp,(∀Fh:Fr,
DR ux fun zv=>
aO 2 zv (pt Bs) fun qs=>
aO 2 zv (pt Bq) fun qG=>
cM (.string) ux v1 j4 qs fun mZ=>
aM mZ zv∧
cM (.string) mZ v1 gw qG fun mY=>
aS I5 m6 [Cd] mY [w9] H8)→BE [Cd] ux)→
aa .str .neq j4 gw fun o8=>
Br o8 (
aa .num .add w9 (iv 1) fun qq=>
JE BE [qq] yH) (
JE BE [w9] yH)) cU) cU) (aQ R)) (aQ R)) (
R (.returned (.tuple #[v1,w9])) j3)
theorem oa(h:L177 g a0 a1 H R):aj Tryz.prog g 177 #[a0,a1] H R:=
 aE (hn:=(.n .e (.n .e (.n (.n .e (.n (.h 0 [7] [1,6,18] (.n .e (.n .e (.n (hN 3 (.n (.h 0 [0,2,1,3,4,5] [] .e .e) (.h 1 [7] [1,6,10,12,14,15,18] .e (.h 0 [0,1,2,3,4,5,6,7] [] .e .e)))) .e))) .e) .e)) .e)))) Tryz.func177 h (by kernel_rfl)
def L212(g:Gh)(a0 a1:Value)(H:Hp)(R:Rt):Prop:=
dx H (.cells #[(iv 0),(.slice none 0 0)] 57 (0,0)) fun b1 H2=>
CF g 254 #[a0] H2 (fun v3 H4=>
c8 50 1 8 (Value.int .u64 0) H4 v3 v3 fun v5 H6=>
Build Tryz.prog 57 [(0,a0),(1,v5)] fun v7=>
dx H6 (.cells #[(iv 0),(.slice none 0 0)] 57 (0,0)) fun b8 H9=>
St 2 H9 (pt b8) v7 fun lT=>
ae 1 (pt b8) fun v11=>
Ld lT v11 fun dQ=>
aB dQ fun dh=>
∃(BY:Jt) (D4:Mt),JE BY [(iv 0)] lT∧∀vG:Value,∀qo:Hp,BY [vG] qo→∀Fy:Fr,
aa .num .lss vG dh fun dK=>
Br dK (
DR qo fun vz=>
ae 1 (pt b8) fun eG=>
Ld vz eG fun fP=>
iR Tryz.prog g a1 #[vG] qo (fun fB kq=>
aM kq vz∧
CF g 255 #[a0] kq (fun gT ou=>
aM ou vz∧
aa .num .and fB gT fun fN=>
ak 1 fP vG fun gS=>
St 1 ou gS fN fun zB=>
aa .num .add vG (iv 1) fun v30=>
aS BY D4 [v30] zB [vG] qo) cU) cU) (
aO 2 qo (pt b8) fun iB=>
St 2 qo (pt b1) iB fun o4=>
aO 2 o4 (pt b1) fun fM=>
R (.returned fM) o4)) (aQ R)
theorem n9(h:L212 g a0 a1 H R):aj Tryz.prog g 212 #[a0,a1] H R:=
 aE (hn:=(.n .e (.n .e (.n (.n .e (.n (.h 0 [15] [0,1,4,5,14] (.n .e (.n .e (.n (.n (.n .e (.h 0 [0,1,2,3,4,6,5,7,8,9,10] [] .e .e)) .e) .e))) .e) .e)) .e)))) Tryz.func212 h (by kernel_rfl)
def L214(g:Gh)(a0 a1:Value)(H:Hp)(R:Rt):Prop:=
dx H (.cells (Value.cells a0) 57 (0,0)) fun b1 H2=>
aO 2 H2 (pt b1) fun v3=>
aG Tryz.prog 28 1 [(0,v3)] H2 fun v4 H5=>
CF g 220 #[v4] H5 (fun v6 H7=>
Un .not v6 fun v8=>
Br v8 (
R (.returned (iv 5)) H7) (
aa .num .lss a1 (iv 0) fun v9=>
cw v9 false (fun t10=>
ae 0 (pt b1) fun v11=>
Ld H7 v11 fun dQ=>
aa .num .geq a1 dQ fun dh=>
(H7=H7∧dh=Value.bool t10)) (fun t10=>(Value.bool true)=Value.bool t10) fun t10=>∀vg:Fr,
Br (Value.bool t10) (
R (.returned (iv 2)) H7) (
R (.returned (iv 0)) H7))) (aQ R)
theorem n8(h:L214 g a0 a1 H R):aj Tryz.prog g 214 #[a0,a1] H R:=
 aE (hn:=(.n .e (.n (.n (.n .e (.n .e (.n (.h 0 [] [1] .e .e) .e))) .e) .e))) Tryz.func214 h (by kernel_rfl)
def L215(g:Gh)(a0 a1 a2:Value)(H:Hp)(R:Rt):Prop:=
dx H (.cells (Value.cells a0) 57 (0,0)) fun b1 H2=>
dx H2 (.cells (Value.cells a1) 3 (0,0)) fun b3 H4=>
dx H4 (.cells (Value.cells a2) 4 (0,0)) fun b5 H6=>
dx H6 (.cells #[(iv 0),(.slice none 0 0)] 57 (0,0)) fun b7 H8=>
ae 0 (pt b1) fun v9=>
Ld H8 v9 fun v10=>
CF g 212 #[v10,(.func (.func 256) #[] #[(pt b3),(pt b5),(pt b1)])] H8 (fun v11 jZ=>
St 2 jZ (pt b7) v11 fun j5=>
aO 2 j5 (pt b7) fun ef=>
R (.returned ef) j5) (aQ R)
theorem n7(h:L215 g a0 a1 a2 H R):aj Tryz.prog g 215 #[a0,a1,a2] H R:=
 aE (hn:=.e) Tryz.func215 h (by kernel_rfl)
def L219(g:Gh)(a0 a1:Value)(H:Hp)(R:Rt):Prop:=
aa .num .geq a0 (iv 6) fun v1=>
Br v1 (
bg .u64 a1 fun v2=>
aa .num .sub a0 (iv 6) fun v3=>
aa .num .shr v2 v3 fun v4=>
aa .num .and v4 (Value.int .u64 1) fun v5=>
Un .neg v5 fun v6=>
R (.returned v6) H) (
∃(I7:Jt) (m8:Mt),JE I7 [(Value.int .u64 0),(iv 0)] H∧∀sr vH:Value,∀lT:Hp,I7 [sr,vH] lT→∀E8:Fr,
aa .num .lss vH (iv 64) fun dh=>
Br dh (
aa .num .shr vH a0 fun ef=>
aa .num .and ef (iv 1) fun ee=>
bg .u64 ee fun eH=>
aa .num .shl eH vH fun ei=>
aa .num .or sr ei fun eD=>
aa .num .add vH (iv 1) fun dK=>
aS I7 m8 [eD,dK] lT [sr,vH] lT) (
R (.returned sr) lT))
theorem n6(h:L219 g a0 a1 H R):aj Tryz.prog g 219 #[a0,a1] H R:=
 aE (hn:=(hN 3 (.n (.n .e (.n (.h 0 [5,16] [0] .e .e) .e)) .e))) Tryz.func219 h (by kernel_rfl)
def L220(g:Gh)(a0:Value)(H:Hp)(R:Rt):Prop:=
aB a0 fun v1=>
∃(I2:Jt) (m3:Mt),JE I2 [(iv 0)] H∧∀w6:Value,∀H5:Hp,I2 [w6] H5→∀zl:Fr,
aa .num .lss w6 v1 fun v7=>
Br v7 (
ak 2 a0 w6 fun v8=>
aO 2 H5 v8 fun v9=>
dx H5 (.cells #[(iv 0),(.slice none 0 0)] 57 (0,0)) fun vm j3=>
St 2 j3 (pt vm) v9 fun jZ=>
∀vB:Jt,(∀kB:Value,∀ku:Hp,(∀vg:Fr,
Br kB (
R (.returned (Value.bool false)) ku) (
aa .num .add w6 (iv 1) fun ei=>
aS I2 m3 [ei] ku [w6] H5))→vB [kB] ku)→
DR jZ fun tC=>
aO 2 tC (pt vm) fun dK=>
∀B6:Hp,
CF (g.add B6) 232 #[dK] jZ (fun eG lP=>
aM lP tC∧
Un .not eG fun fB=>
Br fB (
JE vB [(Value.bool true)] lP) (
ae 0 (pt vm) fun fe=>
Ld tC fe fun gT=>
ak 2 a0 (iv 0) fun fO=>
ae 0 fO fun fN=>
Ld tC fN fun gS=>
aa .num .neq gT gS fun gr=>
aA (Value.bool false) (Value.bool true) gr fun v30=>
JE vB [v30] lP)) cU) (
R (.returned (Value.bool true)) H5)
theorem n5(h:L220 g a0 H R):aj Tryz.prog g 220 #[a0] H R:=
 aE (hn:=(.n .e (.n (.n .e (.n (.h 0 [7] [0,5,6] (.n .e (.n .e (.n (.n (.n .e (.h 1 [22] [0,5,6,7] (.h 1 [] [] (hr 0 [] 0 3 (.h 2 [3] [] (hr 0 [] 4 7 (.h 3 [11] [] .e .e)) (hr 0 [] 4 8 .e))) .e) .e)) .e) .e))) .e) .e)) .e))) Tryz.func220 h (by kernel_rfl)
def L222(g:Gh)(a0 a1:Value)(H:Hp)(R:Rt):Prop:=
aB a0 fun v1=>
aB a1 fun v2=>
aa .num .neq v1 v2 fun v3=>
Br v3 (
R (.returned (Value.bool false)) H) (
aB a0 fun v4=>
∃(I5:Jt) (m6:Mt),JE I5 [(iv 0)] H∧∀w9:Value,∀H8:Hp,I5 [w9] H8→∀Bb:Fr,
aa .num .lss w9 v4 fun v10=>
Br v10 (
ak 1 a0 w9 fun v11=>
Ld H8 v11 fun dQ=>
ak 1 a1 w9 fun dh=>
Ld H8 dh fun ef=>
aa .num .neq dQ ef fun ee=>
Br ee (
R (.returned (Value.bool false)) H8) (
aa .num .add w9 (iv 1) fun eH=>
aS I5 m6 [eH] H8 [w9] H8)) (
R (.returned (Value.bool true)) H8))
theorem n4(h:L222 g a0 a1 H R):aj Tryz.prog g 222 #[a0,a1] H R:=
 aE (hn:=(.n .e (.n .e (.n (.n .e (.n (.h 0 [13] [0,1,12] .e .e) .e)) .e)))) Tryz.func222 h (by kernel_rfl)
def L223(g:Gh)(a0 a1:Value)(H:Hp)(R:Rt):Prop:=
dx H (.cells (Value.cells a0) 233 (0,0)) fun b1 H2=>
dx H2 (.cells (Value.cells a1) 233 (0,0)) fun b3 H4=>
ae 1 (pt b1) fun v5=>
Ld H4 v5 fun v6=>
ae 1 (pt b3) fun v7=>
Ld H4 v7 fun v8=>
aa .num .lss v6 v8 fun v9=>
cw v9 false (fun t10=>
ae 1 (pt b1) fun v11=>
Ld H4 v11 fun dQ=>
ae 1 (pt b3) fun dh=>
Ld H4 dh fun ef=>
aa .num .eql dQ ef fun ee=>
cw ee true (fun t16=>
ae 0 (pt b1) fun ei=>
Ld H4 ei fun eD=>
ae 0 (pt b3) fun dK=>
Ld H4 dK fun v20=>
aa .num .lss eD v20 fun eG=>
(H4=H4∧eG=Value.bool t16)) (fun t16=>(Value.bool false)=Value.bool t16) fun t16=>∀Fu:Fr,
(H4=H4∧(Value.bool t16)=Value.bool t10)) (fun t10=>(Value.bool true)=Value.bool t10) fun t10=>∀ve:Fr,
R (.returned (Value.bool t10)) H4
theorem n3(h:L223 g a0 a1 H R):aj Tryz.prog g 223 #[a0,a1] H R:=
 aE (hn:=(.n .e (.n (.h 0 [] [1] .e .e) .e))) Tryz.func223 h (by kernel_rfl)
def L232(g:Gh)(a0:Value)(H:Hp)(R:Rt):Prop:=
dx H (.cells (Value.cells a0) 57 (0,0)) fun b1 H2=>
∀J3:Jt,(∀w6:Value,∀H5:Hp,(∀zl:Fr,
Br w6 (
R (.returned (Value.bool false)) H5) (
DR H5 fun R7=>
ae 1 (pt b1) fun v8=>
Ld R7 v8 fun v9=>
ae 1 (pt b1) fun v10=>
Ld R7 v10 fun v11=>
aB v11 fun dQ=>
aa .num .sub dQ (iv 1) fun dh=>
ak 1 v9 dh fun ef=>
Ld R7 ef fun ee=>
ae 0 (pt b1) fun eH=>
Ld R7 eH fun ei=>
CF g 255 #[ei] H5 (fun eD uy=>
aM uy R7∧
aa .num .andNot ee eD fun v20=>
aa .num .eql v20 (Value.int .u64 0) fun eG=>
R (.returned eG) uy) cU))→J3 [w6] H5)→
DR H2 fun yq=>
ae 0 (pt b1) fun fB=>
Ld yq fB fun fe=>
aa .num .lss fe (iv 0) fun gT=>
Br gT (
JE J3 [(Value.bool true)] H2) (
ae 0 (pt b1) fun fO=>
Ld yq fO fun fN=>
aa .num .gtr fN (iv 16) fun gS=>
aA (Value.bool false) (Value.bool true) gS fun gr=>
Br gr (
JE J3 [(Value.bool true)] H2) (
ae 1 (pt b1) fun v30=>
Ld yq v30 fun iB=>
aB iB fun gp=>
ae 0 (pt b1) fun fM=>
Ld yq fM fun fc=>
∀F0:Hp,
CF (g.add F0) 254 #[fc] H2 (fun gn tE=>
aM tE yq∧
aa .num .neq gp gn fun iY=>
aA (Value.bool false) (Value.bool true) iY fun gw=>
JE J3 [gw] tE) cU))
theorem nZ(h:L232 g a0 H R):aj Tryz.prog g 232 #[a0] H R:=
 aE (hn:=(.n .e (.n (.h 1 [19] [1] (.h 1 [] [] (hr 0 [] 0 3 (.h 2 [3] [] (hr 0 [] 4 3 (hr 3 [] 7 2 (hr 0 [] 9 7 (.h 3 [16] [] .e .e)))) (hr 0 [] 4 4 (.h 2 [8] [] (hr 0 [] 9 7 (.h 3 [16] [] .e .e)) (hr 0 [] 9 8 .e))))) .e) .e) (.n (.h 0 [0,1,2,3,4,5,6,7,8,9,10,11,12,13] [] .e .e) .e)))) Tryz.func232 h (by kernel_rfl)
def L233(g:Gh)(a0 a1:Value)(H:Hp)(R:Rt):Prop:=
dx H (.cells (Value.cells a1) 57 (0,0)) fun b1 H2=>
DR H2 fun R3=>
aO 2 R3 (pt b1) fun v4=>
aO 2 R3 (pt b1) fun v5=>
CF g 234 #[v4] H2 (fun v6 H7=>
aM H7 R3∧
cM (.string) H7 a0 v6 v5 fun H8=>
R (.returned (.tuple #[])) H8) cU
theorem nY(h:L233 g a0 a1 H R):aj Tryz.prog g 233 #[a0,a1] H R:=
 aE (hn:=(.n .e (.h 0 [0,1,3,2,4] [] .e .e))) Tryz.func233 h (by kernel_rfl)
def L234(g:Gh)(a0:Value)(H:Hp)(R:Rt):Prop:=
dx H (.cells (Value.cells a0) 57 (0,0)) fun b1 H2=>
ae 1 (pt b1) fun v3=>
Ld H2 v3 fun v4=>
aB v4 fun v5=>
∃(I6:Jt) (m7:Mt),JE I6 [(.slice none 0 0),(iv 0)] H2∧∀qF sr:Value,∀H9:Hp,I6 [qF,sr] H9→∀Dg:Fr,
aa .num .lss sr v5 fun dQ=>
Br dQ (
ak 1 v4 sr fun dh=>
Ld H9 dh fun ef=>
∃(BX:Jt) (D3:Mt),JE BX [qF,(iv 0)] H9∧∀sq sn:Value,∀tF:Hp,BX [sq,sn] tF→∀Bj:Fr,
aa .num .lss sn (iv 8) fun eG=>
Br eG (
aa .num .mul (iv 8) sn fun fP=>
aa .num .shr ef fP fun fB=>
bg .u8 fB fun fe=>
aG Tryz.prog 87 1 [(0,fe)] tF fun gT ou=>
App Tryz.prog 5 1 1 (Value.int .u8 0) ou sq gT fun gr sb=>
aa .num .add sn (iv 1) fun iB=>
aS BX D3 [gr,iB] sb [sq,sn] tF) (
aa .num .add sr (iv 1) fun gp=>
aS I6 m7 [sq,gp] tF [qF,sr] H9)) (
dO H9 qF fun fM=>
R (.returned fM) H9)
theorem nX(h:L234 g a0 H R):aj Tryz.prog g 234 #[a0] H R:=
 aE (hn:=(.n .e (.n .e (.n (.n .e (.n (.h 0 [3,10] [8,9] (.n .e (.n .e (.n (.n (.n .e (.n .e (.n (.h 0 [3,14] [5,8,9,10] .e .e) .e))) .e) .e))) .e) .e)) .e)))) Tryz.func234 h (by kernel_rfl)
variable {g:Gh} {a0 a1 a2 a3 a4 a5 a6 a7 a8 a9 vq vp yl yj yh yg:Value} {H:Hp} {R:Rt}
def L254(g:Gh)(a0:Value)(H:Hp)(R:Rt):Prop:=
aa .num .shl (iv 1) a0 fun v1=>
aa .num .shr v1 (Value.int .u64 6) fun v2=>
yz (iv 1) v2 fun v3=>
R (.returned v3) H
theorem nW(h:L254 g a0 H R):aj Tryz.prog g 254 #[a0] H R:=
 aE (hn:=.e) Tryz.func254 h (by kernel_rfl)
def L255(g:Gh)(a0:Value)(H:Hp)(R:Rt):Prop:=
aa .num .geq a0 (iv 6) fun v1=>
Br v1 (
R (.returned (Value.int .u64 18446744073709551615)) H) (
aa .num .shl (Value.int .u64 1) a0 fun v2=>
aa .num .shl (Value.int .u64 1) v2 fun v3=>
aa .num .sub v3 (Value.int .u64 1) fun v4=>
R (.returned v4) H)
theorem nV(h:L255 g a0 H R):aj Tryz.prog g 255 #[a0] H R:=
 aE (hn:=.e) Tryz.func255 h (by kernel_rfl)
def L256(g:Gh)(a0 a1 a2 a3:Value)(H:Hp)(R:Rt):Prop:=
Ld H a1 fun v1=>
aa .num .geq v1 (iv 6) fun v2=>
Br v2 (
Ld H a1 fun v3=>
aa .num .sub v3 (iv 6) fun v4=>
aa .num .shl (iv 1) v4 fun v5=>
aa .num .andNot a0 v5 fun v6=>
∀J7:Jt,(∀qF:Value,∀H9:Hp,(∀Dg:Fr,
ae 1 a3 fun v11=>
Ld H9 v11 fun dQ=>
ak 1 dQ qF fun dh=>
Ld H9 dh fun ef=>
R (.returned ef) H9)→J7 [qF] H9)→
Ld H a2 fun ee=>
Br ee (
Ld H a1 fun eH=>
aa .num .sub eH (iv 6) fun ei=>
aa .num .shl (iv 1) ei fun eD=>
aa .num .or v6 eD fun dK=>
JE J7 [dK] H) (
JE J7 [v6] H)) (
DR H fun vz=>
Ld vz a1 fun eG=>
Ld vz a1 fun fP=>
aa .num .shl (iv 1) fP fun fB=>
CF g 219 #[eG,(iv 0)] H (fun fe ko=>
aM ko vz∧
Ld ko a2 fun fO=>
Br fO (
ae 1 a3 fun fN=>
Ld ko fN fun gS=>
ak 1 gS a0 fun gr=>
Ld ko gr fun v30=>
aa .num .and v30 fe fun iB=>
aa .num .shr iB fB fun gp=>
aa .num .or iB gp fun fM=>
R (.returned fM) ko) (
ae 1 a3 fun fc=>
Ld ko fc fun iA=>
ak 1 iA a0 fun gn=>
Ld ko gn fun j4=>
aa .num .andNot j4 fe fun iY=>
aa .num .shl iY fB fun gw=>
aa .num .or iY gw fun gX=>
R (.returned gX) ko)) cU)
theorem nU(h:L256 g a0 a1 a2 a3 H R):aj Tryz.prog g 256 #[a0,a1,a2,a3] H R:=
 aE (hn:=(.n .e (.n (.n .e (.n (.n .e (.h 1 [6] [3] .e .e)) .e)) (.n (.h 0 [0,2,3,1,4,5] [] .e .e) .e)))) Tryz.func256 h (by kernel_rfl)
theorem eY{B:Hp}{s:Value}{n:Int}{K:Value→Hp→Prop}(h:∀b,K (.slice (some ⟨b,0,none⟩) 1 1) ((b,.cells #[.int .i64 n,s] 57 (0,0))::B)):
  aG Tryz.prog 28 1 [(0,.agg #[.int .i64 n,s])] B K:=
 aG.one (r:=[.int .i64 n,s]) (e:=57) (k:=2) (z:=.agg #[.int .i64 0,.slice none 0 0]) (by kernel_rfl) (by kernel_rfl) (by kernel_rfl) (by decide) rfl h
theorem nu{G:Nat→Nat}{W:Nat}:((List.range W).map fun k=>if k<W then G k else 0)=(List.range W).map G:=by
 apply List.map_congr_left
 intro k hk
 rw[if_pos (List.mem_range.1 hk)]
theorem jb{n:Nat}{ws:List Nat}(h:af.dI n ws):ws.length≤4294967296:=by have:=h.len;have:=af.lW h.nf;omega
theorem aN{B:Hp}{s:Value}{ws:List Nat}(h:Words B s ws):s.oneCell'=true:=by obtain⟨a,c,rfl,_⟩:=h.1.shape;rfl
theorem pw{G:Nat→Nat}{W i:Nat}(hi:i<W):(iw ((List.range W).map fun k=>if k<i then G k else 0)).set i ((G i:Nat):Int)=iw ((List.range W).map fun k=>if k<i+1 then G k else 0):=by
 apply List.ext_getElem?
 intro j
 unfold iw
 by_cases e:i=j
 ·subst e;simp[hi]
 ·rw[List.getElem?_set_ne e]
  by_cases hj:j<W
  ·simp only[List.getElem?_map,List.getElem?_range hj,Option.map_some]
   by_cases h2:j<i
   ·rw[if_pos h2,if_pos (by omega)]
   ·rw[if_neg h2,if_neg (by omega)]
  ·rw[List.getElem?_eq_none (by simp;omega),List.getElem?_eq_none (by simp;omega)]
theorem range_zero{G:Nat→Nat}{W:Nat}:List.replicate W (0:Int)=iw ((List.range W).map fun k=>if k<0 then G k else 0):=by
 apply List.ext_getElem?
 intro j
 unfold iw
 by_cases hj:j<W
 ·simp[hj]
 ·rw[List.getElem?_eq_none (by simp;omega),List.getElem?_eq_none (by simp;omega)]
theorem dM{n:Nat}(hn:n≤16):af.wN n≤9223372036854775807∧af.wN n*8≤281474976710656:=by have:=af.lW hn;omega
theorem pn{n:Nat}(hn:n≤16)(B:Hp):Rd Tryz.prog 81 #[.int .i64 (n:Int)] B (· =.int .i64 ((af.wN n:Nat):Int)):=by
 intro g
 refine p8 (R:=cx _) ?_
 unfold L81
 refine aa.D7 (b:=6) (Br.dec (fun h=>?_) (fun h=>?_))
 ·exact e7.mk (.refl _) (by rw[af.kA (by omega)];rfl)
 ·refine aa.pc (b:=6) (by simp[aK];omega) (by omega) ?_
  have hp:2^(n-6)≤1024:=Nat.pow_le_pow_right (n:=2) (by decide) (by omega:n-6≤10)
  refine aa.lf (a:=1) (by simp[IntKind.bits];omega) (by rw[Nat.one_shiftLeft];simp[aK];omega) ?_
  exact e7.mk (.refl _) (by rw[Nat.one_shiftLeft,af.lX (by omega)])
theorem qM{B:Hp}{v:Value}{t:Tb}(ht:mX B v t):Rd Tryz.prog 28 #[v] B (· =.bool (decide (TF t))):=by
 obtain⟨tn,ws⟩:=t
 obtain⟨s,rfl,hs,hw⟩:=ht
 simp only at hs hw⊢
 intro g
 refine qj (R:=cx _) ?_
 unfold L28
 intro b1 _ J hJ
 have hno:¬TF ⟨tn,ws⟩→JE J [.bool true] ((b1,.cells (Value.cells (.agg #[.int .i64 tn,s])) 57 (0,0))::B):=fun h=>
  JE.mk (hJ _ _ fun gs=>Br.yes (e7.mk .tail (by rw[decide_eq_false h])))
 refine DR.self ?_
 refine ae.mk (Ld.mk zM rfl ?_)
 refine aa.lss (Br.dec (fun h0=>hno fun h=>by have:=h.1;simp only at this;omega) (fun h0=>?_))
 obtain⟨n,rfl⟩:∃n:Nat,tn=n:=⟨tn.toNat,by omega⟩
 have qw:TF ⟨(n:Int),ws⟩↔af.dI n ws:=by unfold TF;simp
 refine ae.mk (Ld.mk zM rfl ?_)
 refine aa.qy (b:=16) (aA.mk (Br.dec (fun h1=>hno fun h=>by have:=(qw.1 h).nf;omega) (fun h1=>?_)))
 refine ae.mk (Ld.mk zM rfl ?_)
 refine hs.bQ ?_
 refine ae.mk (Ld.mk zM rfl ?_)
 intro F
 refine ai.rd (.cons .here) (pn (by omega) B) ?_
 rintro v rfl
 refine⟨(by repeat (first|exact aM.refl _|apply aM.cons|apply aM.skip|apply aM.mh|apply aM.fE)),?_⟩
 rw[bP]
 refine aa.lS (aA.mk ?_)
 simp only[cond_false]
 by_cases hl:ws.length=af.wN n
 case neg=>rw[show decide (ws.length≠af.wN n)=true by simp[hl]];exact hno fun h=>hl (qw.1 h).len
 rw[show decide (ws.length≠af.wN n)=false by simp[hl]]
 refine JE.mk (hJ _ _ fun gs=>Br.no ?_)
 refine ae.mk (Ld.mk zM rfl ?_)
 refine aa.um (b:=6) ?_
 have hpos:=af.qB n
 obtain⟨w,hg⟩:∃w,ws[0]? =some w:=⟨_,List.getElem?_eq_getElem (by omega)⟩
 have yQ:=hw w (List.mem_of_getElem? hg)
 refine cw.or (decide (w>>>(2^n)=0)) (fun h6=>?_) rfl fun gs=>?_
 ·have Gs:¬6≤n:=by simpa using h6
  have h1:2^n≤32:=Nat.pow_le_pow_right (n:=2) (by decide) (by omega:n≤5)
  refine ae.mk (Ld.mk zM rfl ?_)
  refine hs.ld (eP hg) zS ?_
  refine ae.mk (Ld.mk zM rfl ?_)
  refine aa.nt (a:=1) ?_
  rw[Nat.one_shiftLeft,Nat.mod_eq_of_lt (by omega)]
  refine aa.eL (by simpa[aK]using yQ) ?_
  exact aa.fy (b:=0) ⟨rfl,rfl⟩
 ·refine e7.mk .tail ?_
  congr 1
  rw[←Bool.decide_or]
  refine decide_eq_decide.2 (qw.trans ?_).symm
  constructor
  ·intro h
   by_cases h6:6≤n
   ·exact .inl h6
   ·refine .inr ?_
    have:=h.full w (List.mem_of_getElem? hg)
    unfold af.bn at this
    rw[if_neg h6]at this
    have hp:=Nat.two_pow_pos (2^n)
    rw[Nat.shiftRight_eq_div_pow];exact Nat.div_eq_of_lt (by omega)
  ·intro h
   refine⟨by omega,hl,fun u hu=>?_⟩
   by_cases h6:6≤n
   ·unfold af.bn;rw[if_pos h6];have:=hw u hu;omega
   ·have h1:ws.length=1:=by rw[hl,af.kA (by omega)]
    obtain⟨x,rfl⟩:=List.length_eq_one_iff.1 h1
    simp at hg hu
    subst hg;subst hu
    rcases h with h|h
    ·exact absurd h h6
    ·rw[Nat.shiftRight_eq_div_pow]at h
     unfold af.bn;rw[if_neg h6]
     have hp:=Nat.two_pow_pos (2^n)
     have:=(Nat.div_eq_zero_iff_lt hp).1 h
     omega
def gU(n:Nat)(L:List (List Nat)):List Tb:=L.map fun ws=>⟨n,ws⟩
theorem jg(n:Nat)(L:List (List Nat)):(gU n L).length=L.length:=by simp[gU]
end Go.Proofs
namespace dz
open af
theorem g7{x u v:Nat}{b c:Bool}(h:u≠v):ah (ah x u b) v c=ah (ah x v c) u b:=by
 apply Nat.eq_of_testBit_eq;intro k
 rw[ag,ag,ag,ag]
 by_cases e1:k=u<;>by_cases e2:k=v
 ·exact absurd (e1.symm.trans e2) h
 ·simp[e1,h]
 ·simp[e2,Ne.symm h]
 ·simp[e1,e2]
structure Nd where
 v:Nat
 lo:Nat
 hi:Nat
deriving DecidableEq
abbrev nT:=Nat→Option Nd
abbrev Fn:=Nat→Bool
def live(N:nT)(r:Nat):Prop:=r<2∨∃d,N r=some d
def dep(n:Nat)(df:Nat→Nat)(N:nT)(r:Nat):Nat:=match N r with|some d=>df d.v|none=>n
structure WF(n:Nat)(df:Nat→Nat)(N:nT):Prop where
 two:∀{r d},N r=some d→2≤r
 var:∀{r d},N r=some d→d.v<n
 ne:∀{r d},N r=some d→d.lo≠d.hi
 lo:∀{r d},N r=some d→live N d.lo∧df d.v<dep n df N d.lo
 hi:∀{r d},N r=some d→live N d.hi∧df d.v<dep n df N d.hi
 uq:∀{r r' d},N r=some d→N r'=some d→r=r'
structure FJ(n:Nat)(df:Nat→Nat):Prop where
 lt:∀v,v<n→df v<n
 inj:∀u v,u<n→v<n→df u=df v→u=v
structure Interp(N:nT)(S:Nat→Fn):Prop where
 zero:∀x,S 0 x=false
 one:∀x,S 1 x=true
 node:∀{r d},N r=some d→∀x,S r x=if x.testBit d.v then S d.hi x else S d.lo x
variable {n:Nat} {df:Nat→Nat} {N:nT} {S:Nat→Fn}
end dz
namespace dz
open af
variable {n:Nat} {df:Nat→Nat} {N:nT} {S:Nat→Fn} {ord:List Nat}
def xV(g:Fn)(v:Nat):Prop:=∃x,g (ah x v false)≠g (ah x v true)
def fs(ord:List Nat)(F:Fn→Prop):Nat→Fn→Prop
 |0,g=>F g
 |l+1,g=>∃f,fs ord F l f∧∃b,g=fun x=>f (ah x (ord.getD l 0) b)
def oZ(n:Nat)(ord:List Nat)(F:Fn→Prop)(g:Fn):Prop:=∃l,l<n∧fs ord F l g∧xV g (ord.getD l 0)
structure Ord(n:Nat)(df:Nat→Nat)(ord:List Nat):Prop where
 len:ord.length=n
 aD:∀l,l<n→ord.getD l 0<n∧df (ord.getD l 0)=l
def Fs(S:Nat→Fn)(R:Nat→Prop)(g:Fn):Prop:=∃r,R r∧g=S r
def A(N:nT)(df:Nat→Nat)(n:Nat)(R:Nat→Prop):Nat→Nat→Prop
 |0,r=>R r
 |l+1,r=>(A N df n R l r∧dep n df N r≠l)∨∃p d,A N df n R l p∧N p=some d∧df d.v=l∧(r=d.lo∨r=d.hi)
variable {R:Nat→Prop}
def Reach(N:nT)(R:Nat→Prop):Prop:=∀r d,N r=some d→R r∨∃p e,N p=some e∧(e.lo=r∨e.hi=r)
def F2(P:Fn→Prop)(k:Nat):Prop:=∃l:List Fn,l.Nodup∧l.length=k∧∀g,P g↔g∈l
end dz
namespace dz
open af
def up{α:Type}(N:Nat→α)(r:Nat)(o:α):Nat→α:=fun s=>if s=r then o else N s
def e1:Option Nd→Nat→Nat
 |none,_=>0
 |some d,r=>(if d.lo=r then 1 else 0)+(if d.hi=r then 1 else 0)
def uu(N:nT)(r:Nat):Nat→Nat
 |0=>0
 |k+1=>uu N r k+e1 (N k) r
def yc(N:nT):Nat→Nat
 |0=>0
 |k+1=>yc N k+(if(N k).isSome then 1 else 0)
structure Kd where
 n:Nat
 cap:Nat
 used:Nat
 N:nT
 T:Nd→Option Nat
 us:List Nat
 ho:List Nat
def Kd.hold(K:Kd)(r:Nat):Nat:=K.ho.getD r 0
def Kd.use(K:Kd)(r:Nat):Nat:=K.us.getD r 0
structure Dw(K:Kd)(S:Nat→Fn)(E:Nat→Prop)(P:Nat→Nat):Prop where
 two:∀{r d},K.N r=some d→2≤r∧r<K.cap
 var:∀{r d},K.N r=some d→d.v<K.n
 ne:∀{r d},K.N r=some d→d.lo≠d.hi
 lo:∀{r d},K.N r=some d→live K.N d.lo
 hi:∀{r d},K.N r=some d→live K.N d.hi
 int:Interp K.N S
 Ga:∀d r,K.T d=some r↔K.N r=some d∧¬E r
 use:∀{r d},K.N r=some d→K.use r=uu K.N r K.cap+(if K.hold r=0 then 0 else 1)+P r
 len:K.us.length=K.ho.length
 fit:∀{r d},K.N r=some d→r<K.us.length
 held:∀r,K.hold r≠0→∃d,K.N r=some d
 mx:∀r,K.hold r≤65535
 room:K.used=2+yc K.N K.cap
 cap:K.used≤K.cap∧K.cap≤1048576
variable {K:Kd} {S:Nat→Fn} {E:Nat→Prop} {P:Nat→Nat}
def Pos(K:Kd):Prop:=∀r d,K.N r=some d→0<K.use r
end dz
namespace dz
open af
variable {K:Kd} {S:Nat→Fn} {E:Nat→Prop} {P:Nat→Nat}
def wI:Nat→Prop:=fun _=>False
def zero':Nat→Nat:=fun _=>0
structure Ok(K:Kd)(S:Nat→Fn)(df:Nat→Nat):Prop where
 mid:Dw K S wI zero'
 pos:Pos K
 lv:FJ K.n df
 wf:WF K.n df K.N
def Kd.held(K:Kd)(S:Nat→Fn):Fn→Prop:=Fs S fun r=>K.hold r≠0
end dz
namespace dz
open af
variable {n:Nat} {df:Nat→Nat} {N:nT} {S:Nat→Fn} {ord:List Nat} {K:Kd}
def pl(N:nT)(y r:Nat):Nat:=match N r with|some e=>if e.v=y then e.lo else r|none=>r
structure Cx where
 r:Nat
 d:Nd
 FF:Nat
 FE:Nat
 vq:Nat
 vp:Nat
def keys(x:Nat)(c:Cx):List Nd:=[⟨x,c.FF,c.vq⟩,⟨x,c.FE,c.vp⟩]
variable {x y l:Nat}
def Cq(ord:List Nat)(l:Nat):List Nat:=(ord.set l (ord.getD (l+1) 0)).set (l+1) (ord.getD l 0)
variable {F:Fn→Prop}
end dz
namespace dz
open af
def yA(K:Kd)(df:Nat→Nat)(l t:Nat):Prop:=live K.N t∧l+1<dep K.n df K.N t
def Dx(K0 K:Kd)(df:Nat→Nat)(x l t:Nat):Prop:=yA K0 df l t∨∃e,K.N t=some e∧e.v=x∧yA K0 df l e.lo∧yA K0 df l e.hi
structure TI(K0:Kd)(S0:Nat→Fn)(df:Nat→Nat)(x y l:Nat)(made:List Nd)(K:Kd)(S:Nat→Fn)(done rest:List Cx)(P:Nat→Nat):Prop where
 mid:Dw K S (fun s=>∃c∈rest,s=c.r) P
 n:K.n=K0.n
 cap:K.cap=K0.cap
 hold:∀r,K.hold r=K0.hold r
 ext:∀r,live K0.N r→S r=S0 r
 old:∀{r d},K0.N r=some d→r∉done.map Cx.r→K.N r=some d
 kept:∀{r d},K0.N r=some d→∃d',K.N r=some d'
 new:∀{r d},K.N r=some d→(K0.N r=some d∧r∉done.map Cx.r)∨(r∈done.map Cx.r∧d.v=y∧Dx K0 K df x l d.lo∧Dx K0 K df x l d.hi)∨(K0.N r=none∧d.v=x∧yA K0 df l d.lo∧yA K0 df l d.hi)
 used:K.used=K0.used+(made.filter fun k=>(K.T k).isSome).length
end dz
namespace dz
open af
variable {n cap l:Nat} {ord:List Nat} {F G:Fn→Prop}
def B8(n:Nat)(ord:List Nat)(l:Nat)(F:Fn→Prop):Fn→Prop:=fun g=>oZ n ord F g∨oZ n (Cq ord l) F g
open Classical in
noncomputable def Cp(n:Nat)(ord:List Nat)(l:Nat)(F:Fn→Prop):Nat:=if h:∃k,F2 (B8 n ord l F) k then Classical.choose h else 0
def yo(n cap:Nat)(F:Fn→Prop):List Nat→List Nat→Prop
 |_,[]=>True
 |ord,l::r=>l+1<n∧Cp n ord l F+2≤cap∧yo n cap F (Cq ord l) r
end dz
namespace dz
open af
variable {n l:Nat} {ord:List Nat} {L:af.Fs} {F:Fn→Prop}
def cur(n:Nat)(ord:List Nat)(L:af.Fs):Nat→af.Fs
 |0=>gY L
 |k+1=>given n (cur n ord L k) (ord.getD k 0)
end dz
set_option maxRecDepth 100000
namespace Go.Proofs
open Go Go.Sx
open dz
def u32(r:Nat):Value:=.int .u32 (r:Int)
def Ad(d:Nd):List Value:=[.int .i64 (d.v:Int),u32 d.lo,u32 d.hi]
structure yw where
 v:Int
 lo:Nat
 hi:Nat
 tk:Bool
 c:Nat
def yw.row(p:yw):List Value:=[.int .i64 p.v,u32 p.lo,u32 p.hi,.bool p.tk,.int .u8 (p.c:Int)]
def Af(p:yw):Option Nd:=if p.tk then some ⟨p.v.toNat,p.lo,p.hi⟩else none
structure F4(l:List yw)(fr:List Nat)(cap used:Nat)(N:nT):Prop where
 cap:l.length≤cap∧cap≤1048576
 two:2≤l.length
 const:∀r,r<2→∃p,l[r]? =some p∧p.v= -1∧p.lo=r∧p.hi=r∧p.tk=true
 nd:∀r,2≤r→N r=(l[r]?).bind Af
 n0:∀r,r<2→N r=none
 nn:∀(r:Nat) p,2≤r→l[r]? =some p→p.tk=true→0≤p.v
 Gw:fr.Nodup
 zm:∀r,r∈fr↔∃p,l[r]? =some p∧p.tk=false
 used:used+fr.length=l.length
def yM(pa cap used:Nat)(N:nT)(C:Hp):Prop:=
 ∃vl vf l fr Cl Cf,C=(pa,.cells #[.int .i64 (cap:Int),vl,vf,.int .i64 (used:Int)] 198 (0,0))::(Cl++Cf)∧
  bC 291 5 vl (l.map yw.row) Cl∧cQ 77 .u32 vf (fr.map (Nat.cast:Nat→Int)) Cf∧F4 l fr cap used N
abbrev ptr(b:Nat):Value:=.pointer (some ⟨b,0,none⟩)
end Go.Proofs
set_option maxRecDepth 100000
namespace Go.Proofs
open Go Go.Sx
open dz
def nK(d:Nd):Value:=.agg (Ad d).toArray
abbrev DA(v:Value)(r:Nat):Prop:=v=u32 r
structure UM where
 b:Nat
 es:Array MapEntry
 ck:Nat
 l:List (Nd×Nat)
def DT(ms:List UM):Hp:=ms.map fun m=>(m.b,.map m.es m.ck)
structure FG(ms:List UM)(n:Nat)(T:Nd→Option Nat):Prop where
 len:ms.length=n
 ur:∀(v:Nat) m,ms[v]? =some m→aU nK DA m.es m.ck m.l
 var:∀(v:Nat) m,ms[v]? =some m→∀x∈m.l,x.1.v=v
 T:∀d,T d=(ms[d.v]?).bind fun m=>fq m.l d
def yn(pt n:Nat)(T:Nd→Option Nat)(C:Hp):Prop:=
 ∃vs Cs ms,C=(pt,.cells #[vs] 265 (0,0))::(Cs++DT ms)∧bC 266 1 vs (ms.map fun m=>[.map (some m.b)]) Cs∧FG ms n T
structure wh where
 pa:Nat
 pt:Nat
 vu:Value
 vh:Value
 vo:Value
 vl:Value
 vt:Value
 CA:Hp
 CT:Hp
 CU:Hp
 CH:Hp
 CO:Hp
 CL:Hp
 CR:Hp
def wh.cells(b:wh)(n:Nat):Array Value:=#[ptr b.pa,ptr b.pt,b.vu,b.vh,.int .i64 (n:Int),b.vo,b.vl,b.vt]
def wh.hp(b:wh)(kp n:Nat):Hp:=(kp,.cells (b.cells n) 117 (0,0))::(b.CA++(b.CT++(b.CU++(b.CH++(b.CO++(b.CL++b.CR))))))
structure BA(b:wh)(K:Kd)(ord df tr:List Nat):Prop where
 ar:yM b.pa K.cap K.used K.N b.CA
 ut:yn b.pt K.n K.T b.CT
 us:cQ 21 .i32 b.vu (iw K.us) b.CU
 ho:cQ 21 .i32 b.vh (iw K.ho) b.CH
 od:cQ 3 .i64 b.vo (iw ord) b.CO
 lv:cQ 3 .i64 b.vl (iw df) b.CL
 tr:cQ 3 .i64 b.vt (iw tr) b.CR
 ul:K.us.length=K.ho.length∧K.us.length≤1048576
 Gb:K.n≤64
 ol:ord.length=K.n∧df.length=K.n
def Bz(kp:Nat)(K:Kd)(ord df tr:List Nat)(C:Hp):Prop:=∃b:wh,C=b.hp kp K.n∧BA b K ord df tr
abbrev lv(df:List Nat):Nat→Nat:=fun v=>df.getD v 0
end Go.Proofs
set_option maxRecDepth 100000
namespace Go.Proofs
open Go Go.Sx
def jY(x r:Nat):Prop:=x<2^r∧(r=0∨2^(r-1)≤x)
theorem jY.gt{x r n:Nat}(h:jY x r):n<r↔2^n≤x:=by
 constructor
 ·intro hn
  rcases h.2 with h2|h2
  ·omega
  ·exact Nat.le_trans (Nat.pow_le_pow_right (by decide) (by omega)) h2
 ·intro hn
  have:=Nat.lt_of_le_of_lt hn h.1
  exact(Nat.pow_lt_pow_iff_right (by decide)).1 this
theorem jY.up{x s t:Nat}(h:jY (x>>>s) t)(h0:s=0∨x>>>s≠0):jY x (s+t):=by
 rw[Nat.shiftRight_eq_div_pow]at h h0
 have hp:=Nat.two_pow_pos s
 refine⟨?_,?_⟩
 ·have:=h.1
  rw[Nat.div_lt_iff_lt_mul hp]at this
  rw[Nat.pow_add,Nat.mul_comm];exact this
 ·rcases h.2 with h2|h2
  ·subst h2
   have:=h.1
   rcases h0 with h0|h0
   ·exact .inl (by omega)
   ·rw[Nat.pow_zero]at this;exact absurd (Nat.lt_one_iff.1 this) h0
  ·by_cases ht:t=0
   ·subst ht
    rcases h0 with h0|h0
    ·exact .inl (by omega)
    ·have:=h.1;rw[Nat.pow_zero]at this;exact absurd (Nat.lt_one_iff.1 this) h0
   ·right
    have:=(Nat.le_div_iff_mul_le hp).1 h2
    rw[show s+t-1=(t-1)+s by omega,Nat.pow_add];exact this
theorem sW:∀y:Fin 256,∃b:UInt8,(ByteArray.mk #[0,1,2,2,3,3,3,3,4,4,4,4,4,4,4,4,5,5,5,5,5,5,5,5,5,5,5,5,5,5,5,5,6,6,6,6,6,6,6,6,6,6,6,6,6,6,6,6,6,6,6,6,6,6,6,6,6,6,6,6,6,6,6,6,7,7,7,7,7,7,7,7,7,7,7,7,7,7,7,7,7,7,7,7,7,7,7,7,7,7,7,7,7,7,7,7,7,7,7,7,7,7,7,7,7,7,7,7,7,7,7,7,7,7,7,7,7,7,7,7,7,7,7,7,7,7,7,7,8,8,8,8,8,8,8,8,8,8,8,8,8,8,8,8,8,8,8,8,8,8,8,8,8,8,8,8,8,8,8,8,8,8,8,8,8,8,8,8,8,8,8,8,8,8,8,8,8,8,8,8,8,8,8,8,8,8,8,8,8,8,8,8,8,8,8,8,8,8,8,8,8,8,8,8,8,8,8,8,8,8,8,8,8,8,8,8,8,8,8,8,8,8,8,8,8,8,8,8,8,8,8,8,8,8,8,8,8,8,8,8,8,8,8,8,8,8,8,8,8,8,8,8,8,8,8,8])[y.1]? =some b∧(y.1<2^b.toNat∧(b.toNat=0∨2^(b.toNat-1)≤y.1)):=by
 have h:∀y:Fin 256,(match(ByteArray.mk #[0,1,2,2,3,3,3,3,4,4,4,4,4,4,4,4,5,5,5,5,5,5,5,5,5,5,5,5,5,5,5,5,6,6,6,6,6,6,6,6,6,6,6,6,6,6,6,6,6,6,6,6,6,6,6,6,6,6,6,6,6,6,6,6,7,7,7,7,7,7,7,7,7,7,7,7,7,7,7,7,7,7,7,7,7,7,7,7,7,7,7,7,7,7,7,7,7,7,7,7,7,7,7,7,7,7,7,7,7,7,7,7,7,7,7,7,7,7,7,7,7,7,7,7,7,7,7,7,8,8,8,8,8,8,8,8,8,8,8,8,8,8,8,8,8,8,8,8,8,8,8,8,8,8,8,8,8,8,8,8,8,8,8,8,8,8,8,8,8,8,8,8,8,8,8,8,8,8,8,8,8,8,8,8,8,8,8,8,8,8,8,8,8,8,8,8,8,8,8,8,8,8,8,8,8,8,8,8,8,8,8,8,8,8,8,8,8,8,8,8,8,8,8,8,8,8,8,8,8,8,8,8,8,8,8,8,8,8,8,8,8,8,8,8,8,8,8,8,8,8,8,8,8,8,8,8])[y.1]? with|some b=>decide (y.1<2^b.toNat∧(b.toNat=0∨2^(b.toNat-1)≤y.1))|none=>false)=true:=by decide+kernel
 intro y
 have:=h y
 split at this
 ·rename_i b hb
  exact⟨b,hb,by simpa using this⟩
 ·cases this
theorem mC{x:Nat}(hx:x<18446744073709551616)(B:Hp):Rd Tryz.prog 75 #[.int .u64 (x:Int)] B (fun v=>∃r:Nat,jY x r∧v=.int .i64 (r:Int)):=by
 intro g
 refine qd (R:=cx _) ?_
 unfold L75
 intro J1 EX
 have h1:∀s,s≤32→x>>>s<4294967296→(s=0∨x>>>s≠0)→J1 [.int .u64 ((x>>>s:Nat):Int),.int .i64 (s:Int)] B:=by
  intro s hs hlt h0
  refine EX _ _ _ fun gs=>?_
  intro J2 zi
  have h2:∀s,s≤48→x>>>s<65536→(s=0∨x>>>s≠0)→J2 [.int .u64 ((x>>>s:Nat):Int),.int .i64 (s:Int)] B:=by
   intro s hs hlt h0
   refine zi _ _ _ fun gs=>?_
   intro J3 zh
   have h3:∀s,s≤56→x>>>s<256→(s=0∨x>>>s≠0)→J3 [.int .u64 ((x>>>s:Nat):Int),.int .i64 (s:Int)] B:=by
    intro s hs hlt h0
    refine zh _ _ _ fun gs=>?_
    refine bg.nat (show x>>>s<256 from hlt) ?_
    obtain⟨b,hb,hl⟩:=sW ⟨x>>>s,hlt⟩
    refine⟨_,_,_,b,rfl,rfl,Int.natCast_nonneg _,by rw[Int.toNat_natCast];exact hb,?_⟩
    have Gp:b.toNat<256:=b.toNat_lt
    refine bg.nat (by simp[aK];omega) ?_
    refine aa.cE (by simp[aK];omega) ?_
    exact e7.mk (.refl _) ⟨s+b.toNat,jY.up (t:=b.toNat) hl h0,rfl⟩
   refine aa.um (b:=256) (Br.dec (fun hge=>?_) (fun hge=>JE.mk (h3 s (by omega) (by omega) h0)))
   refine aa.eL (b:=8) (by simp only[aK];omega) ?_
   refine aa.cE (b:=8) (by simp[aK];omega) ?_
   rw[←Nat.shiftRight_add]
   have e:x>>>(s+8)=x>>>s/256:=by rw[Nat.shiftRight_add,Nat.shiftRight_eq_div_pow (x>>>s) 8]
   exact JE.mk (h3 (s+8) (by omega) (by omega) (.inr (by omega)))
  refine aa.um (b:=65536) (Br.dec (fun hge=>?_) (fun hge=>JE.mk (h2 s (by omega) (by omega) h0)))
  refine aa.eL (b:=16) (by simp only[aK];omega) ?_
  refine aa.cE (b:=16) (by simp[aK];omega) ?_
  rw[←Nat.shiftRight_add]
  have e:x>>>(s+16)=x>>>s/65536:=by rw[Nat.shiftRight_add,Nat.shiftRight_eq_div_pow (x>>>s) 16]
  exact JE.mk (h2 (s+16) (by omega) (by omega) (.inr (by omega)))
 refine aa.um (b:=4294967296) (Br.dec (fun hge=>?_) (fun hge=>JE.mk (h1 0 (by omega) (by simp;omega) (.inl rfl))))
 refine aa.eL (b:=32) (by simp only[aK];exact hx) ?_
 have e:x>>>32=x/4294967296:=by rw[Nat.shiftRight_eq_div_pow]
 exact JE.mk (h1 32 (by omega) (by omega) (.inr (by omega)))
end Go.Proofs
namespace Go.Sx
open Go
section
variable {P:Program} {H C:Hp} {c:Hp→Hp}
theorem swap_perm{l:List Int}{i j:Nat}{x y:Int}(hi:l[i]? =some x)(hj:l[j]? =some y):((l.set i y).set j x).Perm l:=by
 have h1:=(List.getElem?_eq_some_iff.1 hi).1
 have h2:=(List.getElem?_eq_some_iff.1 hj).1
 rw[List.perm_iff_count]
 intro a
 by_cases e:i=j
 ·subst e
  rw[hi]at hj;cases hj
  rw[List.set_set]
  have:l.set i x=l:=by
   have hx:l[i]=x:=by rw[List.getElem?_eq_getElem h1]at hi;exact Option.some.inj hi
   rw[←hx];exact List.set_getElem_self h1
  rw[this]
 ·have hx:l[i]=x:=by rw[List.getElem?_eq_getElem h1]at hi;exact Option.some.inj hi
  have hy:l[j]=y:=by rw[List.getElem?_eq_getElem h2]at hj;exact Option.some.inj hj
  rw[List.count_set (by simpa using h2),List.count_set h1]
  have:(l.set i y)[j]'(by simpa using h2)=y:=by rw[List.getElem_set_ne e];exact hy
  rw[this,hx]
  have c1:l.count x≥1:=List.one_le_count_iff.2 (hx▸List.getElem_mem h1)
  have c2:l.count y≥1:=List.one_le_count_iff.2 (hy▸List.getElem_mem h2)
  by_cases e1:x=a
  ·subst e1
   by_cases e2:y=x
   ·subst e2;simp<;>omega
   ·simp[e2,Ne.symm e2]<;>omega
  ·by_cases e2:y=a
   ·subst e2;simp[e1]<;>omega
   ·simp[e1,e2]<;>omega
end
end Go.Sx
set_option maxRecDepth 100000
namespace Go.Proofs
open Go Go.Sx
open dz
def Idle(K:Kd):Prop:=∀s,K.N s=none→K.use s=0
end Go.Proofs
set_option maxRecDepth 100000
namespace Go.Proofs
open Go Go.Sx
open dz
section
variable {kp:Nat} {K:Kd} {ord df tr:List Nat} {C:Hp} {S:Nat→dz.Fn}
structure Kept(K:Kd)(S:Nat→dz.Fn)(K':Kd)(S':Nat→dz.Fn):Prop where
 n:K'.n=K.n
 cap:K'.cap=K.cap
 hold:∀r,K'.hold r=K.hold r
 held:∀g,K'.held S' g↔K.held S g
 fn:∀r,K.hold r≠0→S' r=S r
end
structure FK(kp:Nat)(K:Kd)(S:Nat→dz.Fn)(ord df tr:List Nat)(C:Hp):Prop where
 rep:Bz kp K ord df tr C
 ok:Ok K S (lv df)
 od:Ord K.n (lv df) ord
 idle:Idle K
 tr:yo K.n K.cap (K.held S) ord tr.reverse
theorem hnew{H:Hp}:fA [] H (fun X=>X++H):=fA.left
def K0(n cap:Nat):Kd:=⟨n,cap,2,fun _=>none,fun _=>none,[],[]⟩
def S0:Nat→dz.Fn:=fun r _=>decide (r=1)
end Go.Proofs
namespace dz
structure Rm where
 n:Nat
 size:List Nat→Nat
 fit:List Nat→Nat→Bool
end dz
set_option maxRecDepth 100000
namespace Go.Proofs
open Go Go.Sx
open dz
def At(kp:Nat)(K:Kd)(S:Nat→dz.Fn)(ord tr:List Nat)(C:Hp):Prop:=∃K' S' Ak,FK kp K' S' ord Ak tr C∧Kept K S K' S'
def Al(K:Kd)(S:Nat→dz.Fn)(ord:List Nat)(l:Nat):Prop:=Cp K.n ord l (K.held S)+2≤K.cap
end Go.Proofs
namespace dz
open af
def FA(m v:Nat):Nat:=if m.testBit v then m^^^2^v else m
def rest(m:Nat)(ord:List Nat):Nat→Nat
 |0=>m
 |k+1=>FA (rest m ord k) (ord.getD k 0)
def flat(n s:Nat):Rm:=⟨n,fun _=>s,fun _ _=>true⟩
end dz
set_option maxRecDepth 100000
namespace Go.Proofs
open Go Go.Sx
open dz
noncomputable instance {K:Kd}{S:Nat→dz.Fn}{ord:List Nat}{l:Nat}:Decidable (Al K S ord l):=Nat.decLe _ _
end Go.Proofs
set_option maxRecDepth 100000
namespace Go.Proofs
open Go Go.Sx
open dz
def rep(b a s:Nat):Value:=.agg #[.int .i64 (b:Int),.int .i64 (a:Int),.int .i64 (s:Int),.bool false]
def wQ(n:Nat)(p:List Int):Prop:=p.length=n∧∀v:Nat,v<n→p.count (v:Int)=1
instance (n:Nat)(p:List Int):Decidable (wQ n p):=by unfold wQ;infer_instance
abbrev Q3:=Nat×Nat×Nat
def l3(q:Q3):List Nat:=[q.1,q.2.1,q.2.2]
section
variable {kp:Nat} {K:Kd} {S:Nat→dz.Fn} {ord df tr:List Nat} {C:Hp}
theorem oM{n v:Nat}(hv:v<n):2^v<2^n:=Nat.pow_lt_pow_right (by decide) hv
end
end Go.Proofs
set_option maxRecDepth 100000
namespace Go.Proofs
open Go Go.Sx
theorem lV{n:Nat}(hn:n≤16)(B:Hp):Rd Tryz.prog 254 #[.int .i64 (n:Int)] B (· =.int .i64 ((af.wN n:Nat):Int)):=by
 intro g
 refine nW (R:=cx _) ?_
 unfold L254
 have h1:1<<<n≤65536:=by rw[Nat.one_shiftLeft];exact Nat.pow_le_pow_right (n:=2) (by decide) hn
 refine aa.lf (a:=1) (b:=n) (by simp[IntKind.bits];omega) (by simp[aK];omega) ?_
 refine aa.eL (b:=6) (by simp[aK];omega) ?_
 refine⟨_,_,_,rfl,rfl,?_⟩
 refine e7.mk (.refl _) ?_
 have:1<<<n>>>6=2^n/64:=by rw[Nat.one_shiftLeft,Nat.shiftRight_eq_div_pow]
 rw[this]
 congr 1
 unfold af.wN
 rw[Nat.max_def]
 split<;>split<;>omega
theorem oR{n:Nat}(hn:n≤16)(B:Hp):Rd Tryz.prog 255 #[.int .i64 (n:Int)] B (· =.int .u64 ((af.bn n:Nat):Int)):=by
 intro g
 refine nV (R:=cx _) ?_
 unfold L255
 refine aa.um (a:=n) (b:=6) (Br.dec (fun h=>?_) (fun h=>?_))
 ·exact e7.mk (.refl _) (by unfold af.bn;rw[if_pos h];rfl)
 ·have h1:2^n≤32:=Nat.pow_le_pow_right (n:=2) (by decide) (by omega:n≤5)
  have h2:2^2^n≤2^32:=Nat.pow_le_pow_right (by decide) h1
  have h3:=Nat.two_pow_pos (2^n)
  refine aa.nt (a:=1) (b:=n) ?_
  rw[Nat.one_shiftLeft,Nat.mod_eq_of_lt (by omega)]
  refine aa.nt (a:=1) ?_
  rw[Nat.one_shiftLeft,Nat.mod_eq_of_lt (by omega)]
  refine aa.pc (b:=1) (by simp[aK];omega) (by omega) ?_
  exact e7.mk (.refl _) (by unfold af.bn;rw[if_neg h])
theorem pG{n:Nat}{ws:List Nat}(hn:n≤16)(hl:ws.length=af.wN n)(hw:∀w∈ws,w<18446744073709551616){w:Nat}(hg:ws[ws.length-1]? =some w):
  (eZ w (af.bn n)=0)↔af.dI n ws:=by
 have key:∀w,w<18446744073709551616→(eZ w (af.bn n)=0↔w≤af.bn n):=by
  intro w hw
  constructor
  ·intro h
   have:w&&&af.bn n=w:=by
    apply Nat.eq_of_testBit_eq;intro j
    have:=congrArg (fun x=>x.testBit j) h
    simp only[bA,Nat.zero_testBit]at this
    rw[Nat.testBit_and]
    cases h1:w.testBit j<;>cases h2:(af.bn n).testBit j<;>simp_all
   rw[←this];exact Nat.and_le_right
  ·intro h
   have:=af.jT h
   unfold eZ;rw[this,Nat.xor_self]
 constructor
 ·intro h
  refine⟨hn,hl,fun u hu=>?_⟩
  by_cases h6:6≤n
  ·unfold af.bn;rw[if_pos h6];have:=hw u hu;omega
  ·have h1:ws.length=1:=by rw[hl,af.kA (by omega)]
   obtain⟨x,rfl⟩:=List.length_eq_one_iff.1 h1
   simp at hg hu
   subst hg;subst hu
   exact(key _ (hw _ (by simp))).1 h
 ·intro h
  exact(key w (hw w (List.mem_of_getElem? hg))).2 (h.full w (List.mem_of_getElem? hg))
theorem mN{B:Hp}{v:Value}{t:Tb}(ht:mX B v t):Rd Tryz.prog 232 #[v] B (· =.bool (decide (TF t))):=by
 obtain⟨tn,ws⟩:=t
 obtain⟨s,rfl,hs,hw⟩:=ht
 simp only at hs hw⊢
 intro g
 refine nZ (R:=cx _) ?_
 unfold L232
 intro b1 _ J hJ
 have hno:¬TF ⟨tn,ws⟩→JE J [.bool true] ((b1,.cells (Value.cells (.agg #[.int .i64 tn,s])) 57 (0,0))::B):=fun h=>
  JE.mk (hJ _ _ fun gs=>Br.yes (e7.mk .tail (by rw[decide_eq_false h])))
 refine DR.self ?_
 refine ae.mk (Ld.mk zM rfl ?_)
 refine aa.lss (Br.dec (fun h0=>hno fun h=>by have:=h.1;simp only at this;omega) (fun h0=>?_))
 obtain⟨n,rfl⟩:∃n:Nat,tn=n:=⟨tn.toNat,by omega⟩
 have qw:TF ⟨(n:Int),ws⟩↔af.dI n ws:=by unfold TF;simp
 refine ae.mk (Ld.mk zM rfl ?_)
 refine aa.qy (b:=16) (aA.mk (Br.dec (fun h1=>hno fun h=>by have:=(qw.1 h).nf;omega) (fun h1=>?_)))
 refine ae.mk (Ld.mk zM rfl ?_)
 refine hs.bQ ?_
 refine ae.mk (Ld.mk zM rfl ?_)
 intro F
 refine ai.rd (.cons .here) (lV (by omega) B) ?_
 rintro v rfl
 refine⟨(by repeat (first|exact aM.refl _|apply aM.cons|apply aM.skip|apply aM.mh|apply aM.fE)),?_⟩
 rw[bP]
 refine aa.lS (aA.mk ?_)
 simp only[cond_false]
 by_cases hl:ws.length=af.wN n
 case neg=>rw[show decide (ws.length≠af.wN n)=true by simp[hl]];exact hno fun h=>hl (qw.1 h).len
 rw[show decide (ws.length≠af.wN n)=false by simp[hl]]
 refine JE.mk (hJ _ _ fun gs=>Br.no ?_)
 have hpos:=af.qB n
 obtain⟨w,hg⟩:∃w,ws[ws.length-1]? =some w:=⟨_,List.getElem?_eq_getElem (by omega)⟩
 refine DR.self ?_
 refine ae.mk (Ld.mk zM rfl ?_)
 refine ae.mk (Ld.mk zM rfl ?_)
 refine hs.bQ ?_
 rw[bP]
 refine aa.pc (b:=1) (by have:=af.lW (n:=n) (by omega);simp[aK];omega) (by omega) ?_
 refine hs.ld (eP hg) zS ?_
 refine ae.mk (Ld.mk zM rfl ?_)
 refine ai.rd (.cons .here) (oR (by omega) B) ?_
 rintro v rfl
 refine⟨(by repeat (first|exact aM.refl _|apply aM.cons|apply aM.skip|apply aM.mh|apply aM.fE)),?_⟩
 refine aa.oV (by have:=hw w (List.mem_of_getElem? hg);simpa[aK]using this) (by have:=af.gK n;simpa[aK]using this) ?_
 refine aa.fy (b:=0) ?_
 refine e7.mk .tail ?_
 congr 1
 exact decide_eq_decide.2 ((pG (by omega) hl hw hg).trans qw.symm)
theorem rN{B:Hp}{v:Value}{ts:List Tb}(ht:bN B v ts)(bR:ts.length<2^62):Rd Tryz.prog 220 #[v] B (· =.bool (decide (∀t∈ts,TF t∧some t.n=ts.head?.map Tb.n))):=by
 intro g
 refine n5 (R:=cx _) ?_
 unfold L220
 refine ht.bQ ?_
 refine⟨fun vs H=>ay B H∧∃k:Nat,vs=[.int .i64 (k:Int)]∧k≤ts.length∧∀i t,i<k→ts[i]? =some t→TF t∧some t.n=ts.head?.map Tb.n,fun vs _=>ts.length-dD vs 0,JE.mk ⟨.refl _,0,rfl,by omega,by omega⟩,?_⟩
 rintro w H ⟨hg,k,hv,hk,an⟩ gs
 simp only[List.cons.injEq,and_true]at hv
 subst hv
 refine aa.jA (Br.dec (fun hlt=>?_) (fun hlt=>?_))
 ·obtain⟨t,uN⟩:∃t,ts[k]? =some t:=⟨_,List.getElem?_eq_getElem hlt⟩
  obtain⟨t0,uO⟩:∃t,ts[0]? =some t:=⟨_,List.getElem?_eq_getElem (by omega)⟩
  have hh:ts.head?.map Tb.n=some t0.n:=by rw[List.head?_eq_getElem?,uO];rfl
  have wX:=ht.mono hg.sub
  refine wX.ld uN (fun _ h=>h) fun s hs=>?_
  intro b1 _
  refine St.whole (r:=[.int .i64 t.n,s]) (by exact br.head _) rfl rfl ?_ ?_
  ·obtain⟨a,c,rfl,_⟩:=hs.1.shape;simp[Value.oneCell']
  intro J hJ
  have hno:∀H',ay B H'→¬(TF t∧some t.n=ts.head?.map Tb.n)→JE J [.bool true] H':=fun H' AQ h=>
   JE.mk (hJ _ _ fun gs=>Br.yes (e7.mk AQ.ur (by rw[decide_eq_false];exact fun hh=>h (hh t (List.mem_of_getElem? uN)))))
  have uZ:ay B ((b1,Obj.cells (List.toArray [.int .i64 t.n,s]) 57 (0,0))::H):=.cons hg
  refine DR.self ?_
  refine aO.whole (r:=[.int .i64 t.n,s]) (by exact List.Mem.head _) rfl ?_
  intro F
  refine ai.rd (B:=H) (.cons .here) (mN ⟨s,rfl,hs⟩) ?_
  rintro v rfl
  refine⟨.refl _,Un.not ?_⟩
  by_cases hT:TF t
  case neg=>rw[decide_eq_false hT];exact Br.yes (hno _ uZ fun h=>hT h.1)
  rw[decide_eq_true hT]
  refine Br.no ?_
  refine ae.mk (Ld.mk zM rfl ?_)
  refine wX.uH uO zS ?_
  refine aa.qu (aA.mk ?_)
  simp only[cond_false]
  by_cases hn:t.n=t0.n
  case neg=>rw[decide_eq_true hn];exact hno _ uZ fun h=>hn (by have:=h.2;rw[hh]at this;simpa using this)
  rw[decide_eq_false (by simpa using hn)]
  refine JE.mk (hJ _ _ fun gs=>Br.no ?_)
  refine aa.cE (b:=1) (by simp[aK];omega) ?_
  refine aS.mk ⟨uZ,k+1,rfl,by omega,fun i u hi hu=>?_⟩ (by simp[dD];omega)
  by_cases e:i=k
  ·subst e;rw[uN]at hu;cases hu;exact⟨hT,by rw[hh,hn]⟩
  ·exact an i u (by omega) hu
 ·refine e7.mk hg.ur ?_
  rw[decide_eq_true]
  intro t Ap
  obtain⟨i,hi,rfl⟩:=List.mem_iff_getElem.1 Ap
  exact an i _ (by omega) (List.getElem?_eq_getElem hi)
theorem jL{B:Hp}{b:Nat}{t:Tb}{s:Value}{T:TypeId}{fz:Nat×Nat}(hm:(b,Obj.cells #[.int .i64 t.n,s] T fz)∈B)(hw:Words B s t.ws):
  Rd Tryz.prog 220 #[.slice (some ⟨b,0,none⟩) 1 1] B (· =.bool (decide (TF t))):=
 (rN (bN.one (cap:=0) hm hw) (by simp)).mono fun v H ⟨h1,h2⟩=>⟨h1,by rw[h2];congr 1;simp⟩
theorem wH{B:Hp}{v:Value}{t:Tb}(ht:mX B v t)(u:Int):Rd Tryz.prog 214 #[v,.int .i64 u] B (· =.int .i64 (if TF t then(if 0≤u∧u<t.n then 0 else 2)else 5)):=by
 obtain⟨s,rfl,hw⟩:=ht
 intro g
 refine n8 (R:=cx _) ?_
 unfold L214
 intro b1 _
 refine aO.whole (r:=[.int .i64 t.n,s]) (by exact List.Mem.head _) rfl ?_
 refine eY fun b2=>?_
 refine ai.rd .here (jL (by exact List.Mem.head _) (hw.mono zS)) ?_
 rintro v rfl
 refine Un.not ?_
 by_cases hT:TF t
 ·rw[decide_eq_true hT,if_pos hT]
  refine Br.no (aa.lss ?_)
  refine cw.or (decide (t.n≤u)) (fun h=>?_) rfl ?_
  ·refine ae.mk (Ld.mk zM rfl ?_)
   exact aa.geq ⟨rfl,rfl⟩
  ·intro gs
   have Ev:(decide (u<0)||decide (t.n≤u))=decide (¬(0≤u∧u<t.n)):=by
    by_cases h1:u<0<;>by_cases h2:t.n≤u<;>simp[h1,h2]<;>omega
   rw[Ev]
   refine Br.dec (fun h=>?_) (fun h=>?_)
   ·exact e7.mk (by repeat (first|exact aM.refl _|apply aM.cons|apply aM.skip|apply aM.mh|apply aM.fE)) (by rw[if_neg h])
   ·exact e7.mk (by repeat (first|exact aM.refl _|apply aM.cons|apply aM.skip|apply aM.mh|apply aM.fE)) (by rw[if_pos (Classical.not_not.1 h)])
 ·rw[decide_eq_false hT,if_neg hT]
  exact Br.yes (e7.mk (by repeat (first|exact aM.refl _|apply aM.cons|apply aM.skip|apply aM.mh|apply aM.fE)) rfl)
theorem p4{u i:Nat}(hu:u<64)(hi:i<18446744073709551616)(rF:i<9223372036854775808)(B:Hp):Rd Tryz.prog 219 #[.int .i64 (u:Int),.int .i64 (i:Int)] B
  (· =.int .u64 ((if 6≤u then(if(i>>>(u-6)).testBit 0 then 18446744073709551615 else 0)else af.mask u:Nat):Int)):=by
 intro g
 refine n6 (R:=cx _) ?_
 unfold L219
 refine aa.um (a:=u) (b:=6) (Br.dec (fun h=>?_) (fun h=>?_))
 ·refine bg.nat (by simpa[aK]using hi) ?_
  refine aa.pc (b:=6) (by simp[aK];omega) h ?_
  refine aa.eL (by simpa[aK]using hi) ?_
  have hs:i>>>(u-6)<18446744073709551616:=Nat.lt_of_le_of_lt (Nat.shiftRight_le _ _) hi
  refine aa.gO (b:=1) (by simpa[aK]using hs) (by decide) ?_
  refine Un.Ae (by rw[af.cq];split<;>decide) ?_
  refine e7.mk (.refl _) ?_
  rw[if_pos h,af.cq]
  split<;>rfl
 ·refine⟨fun vs H=>H=B∧∃j:Nat,vs=[.int .u64 ((af.lI u j:Nat):Int),.int .i64 (j:Int)]∧j≤64,fun vs _=>64-dD vs 1,JE.mk ⟨rfl,0,rfl,by omega⟩,?_⟩
  rintro w1 w2 H ⟨rfl,j,hv,hj⟩ gs
  simp only[List.cons.injEq,and_true]at hv
  obtain⟨rfl,rfl⟩:=hv
  refine aa.jA (b:=64) (Br.dec (fun hlt=>?_) (fun hlt=>?_))
  ·refine aa.eL (by simp[aK];omega) ?_
   have hs:j>>>u<64:=Nat.lt_of_le_of_lt (Nat.shiftRight_le _ _) hlt
   refine aa.gO (b:=1) (by simp[aK];omega) (by decide) ?_
   have h1:j>>>u&&&1≤1:=by rw[af.cq];split<;>decide
   refine bg.nat (by simp[aK];omega) ?_
   refine aa.nt ?_
   have h2:((j>>>u&&&1)<<<j)<18446744073709551616:=by
    rw[Nat.shiftLeft_eq]
    calc _≤1*2^j:=Nat.mul_le_mul_right _ h1
     _<2^64:=by rw[Nat.one_mul];exact Nat.pow_lt_pow_right (by decide) hlt
   rw[Nat.mod_eq_of_lt h2]
   have h3:af.lI u j<18446744073709551616:=Nat.lt_of_lt_of_le (af.lH u j) (Nat.pow_le_pow_right (n:=2) (by decide) hj)
   refine aa.qS (by simpa[aK]using h3) (by simpa[aK]using h2) ?_
   refine aa.cE (b:=1) (by simp[aK];omega) ?_
   exact aS.mk ⟨rfl,j+1,rfl,by omega⟩ (by simp[dD];omega)
  ·have:j=64:=by omega
   subst this
   exact e7.mk (.refl _) (by rw[if_neg h];rfl)
theorem sX{n:Nat}(hn:n≤16){fv:Value}{f:FuncId}{first cap:Array Value}(EJ:fv=.func (.func f) first cap)(fw:bX Tryz.prog f=true){F:Nat→Nat}(hF:∀i,i<af.wN n→F i<18446744073709551616){B:Hp}
 (hc:∀i:Nat,i<af.wN n→Rd Tryz.prog f (first++ #[.int .i64 (i:Int)]++cap) B (· =.int .u64 ((F i:Nat):Int))):
  Px Tryz.prog 212 #[.int .i64 (n:Int),fv] B (fun v H=>mX H v ⟨n,(List.range (af.wN n)).map fun i=>F i&&&af.bn n⟩):=by
 intro g
 have yQ:=af.lW hn
 refine n9 (R:=cx _) ?_
 unfold L212
 intro b1 _
 refine ai.rd (.cons .here) (lV hn B) ?_
 rintro v rfl
 refine c8.ints (dM hn).1 (dM hn).2 fun bw=>?_
 refine Build.mk (cs:=[.int .i64 (n:Int),.slice (some ⟨bw,0,none⟩) (af.wN n) (af.wN n)]) (by kernel_rfl) ?_
 intro b8 _
 refine St.whole (r:=[.int .i64 (n:Int),.slice (some ⟨bw,0,none⟩) (af.wN n) (af.wN n)]) (by exact br.head _) rfl rfl (by simp[Value.oneCell']) ?_
 refine ae.mk (Ld.mk zM rfl ?_)
 refine aB.mk ?_
 rw[range_zero (G:=fun i=>F i&&&af.bn n)]
 refine⟨fun vs H=>∃i:Nat,vs=[.int .i64 (i:Int)]∧i≤af.wN n∧H=(b8,.cells (List.toArray [.int .i64 (n:Int),.slice (some ⟨bw,0,none⟩) (af.wN n) (af.wN n)]) 57 (0,0))::
   (bw,.cells (aC .u64 (iw ((List.range (af.wN n)).map fun k=>if k<i then F k&&&af.bn n else 0))) 50 (0,0))::(b1,.cells #[.int .i64 0,.slice none 0 0] 57 (0,0))::B,
  fun vs _=>af.wN n-dD vs 0,JE.mk ⟨0,rfl,by omega,rfl⟩,?_⟩
 rintro w H ⟨i,hv,hi,rfl⟩ gs
 simp only[List.cons.injEq,and_true]at hv
 subst hv
 refine aa.jA (Br.dec (fun hlt=>?_) (fun hlt=>?_))
 ·refine DR.self ?_
  refine ae.mk (Ld.mk zM rfl ?_)
  refine iR.of EJ fw ?_
  refine ai.rd (.cons (.cons (.cons .here))) (hc i hlt) ?_
  rintro v rfl
  refine⟨.refl _,?_⟩
  refine ai.rd (.cons (.cons (.cons .here))) (oR hn B) ?_
  rintro v rfl
  refine⟨.refl _,?_⟩
  refine aa.gO (by simpa[aK]using hF i hlt) (by simpa[aK]using af.gK n) ?_
  refine ak.nat hlt ?_
  refine St.ints (l:=iw _) (by exact .tail (.head _)) (by simpa using hlt) ?_
  refine aa.cE (b:=1) (by simp[aK];omega) ?_
  rw[pw hlt]
  exact aS.mk ⟨i+1,rfl,by omega,rfl⟩ (by simp[dD];omega)
 ·have:i=af.wN n:=by omega
  subst this
  rw[nu]
  refine aO.whole (r:=[.int .i64 (n:Int),.slice (some ⟨bw,0,none⟩) (af.wN n) (af.wN n)]) (by exact List.Mem.head _) rfl ?_
  refine St.whole (r:=[.int .i64 (n:Int),.slice (some ⟨bw,0,none⟩) (af.wN n) (af.wN n)]) (by exact .tail (.tail (.head _))) rfl rfl (by simp[Value.oneCell']) ?_
  refine aO.whole (r:=[.int .i64 (n:Int),.slice (some ⟨bw,0,none⟩) (af.wN n) (af.wN n)]) (by exact .tail _ (.tail _ (.head _))) rfl ?_
  refine iy.mk (by repeat (first|exact ay.refl _|apply ay.cons|apply ay.app)) ⟨_,rfl,?_⟩
  have:=Words.block (b:=bw) (cap:=af.wN n) (ws:=(List.range (af.wN n)).map fun i=>F i&&&af.bn n) (T:=50) (fz:=(0,0)) (B:=(b8,.cells (List.toArray [.int .i64 (n:Int),.slice (some ⟨bw,0,none⟩) (af.wN n) (af.wN n)]) 57 (0,0))::
   (bw,.cells (aC .u64 (iw ((List.range (af.wN n)).map fun i=>F i&&&af.bn n))) 50 (0,0))::(b1,.cells (List.toArray [.int .i64 (n:Int),.slice (some ⟨bw,0,none⟩) (af.wN n) (af.wN n)]) 57 (0,0))::B) (by exact .tail _ (.head _)) (by simp) (fun w hw=>by
    obtain⟨k,_,rfl⟩:=List.mem_map.1 hw
    exact Nat.lt_of_le_of_lt Nat.and_le_right (af.gK n))
  simpa using this
theorem rL{B:Hp}{pv pb pa s:Value}{u n i:Nat}{c:Bool}{ws:List Nat}(hv:Go.Sx.At B pv [.int .i64 (u:Int)])(hb:Go.Sx.At B pb [.bool c])(ha:Go.Sx.At B pa [.int .i64 (n:Int),s])(hw:Words B s ws)(hf:af.dI n ws)(hu:u<n)(hi:i<af.wN n):
  Rd Tryz.prog 256 #[.int .i64 (i:Int),pv,pb,pa] B (· =.int .u64 ((af.gJ ws u c i:Nat):Int)):=by
 intro g
 have hn:=hf.nf
 have yQ:=af.lW hn
 refine nU (R:=cx _) ?_
 unfold L256
 refine Ld.at hv (fun _ h=>h) ?_
 refine aa.um (a:=u) (b:=6) (Br.dec (fun h6=>?_) (fun h6=>?_))
 ·have hp:2^(u-6)≤1024:=Nat.pow_le_pow_right (n:=2) (by decide) (by omega:u-6≤10)
  refine Ld.at hv (fun _ h=>h) ?_
  refine aa.pc (b:=6) (by simp[aK];omega) h6 ?_
  refine aa.lf (a:=1) (by simp[IntKind.bits];omega) (by rw[Nat.one_shiftLeft];simp[aK];omega) ?_
  rw[Nat.one_shiftLeft]
  refine aa.oV (by simp[aK];omega) (by simp[aK];omega) ?_
  have hand:=fm i (2^(u-6))
  intro J hJ
  have s6:af.ah i (u-6) c<af.wN n:=by
   rw[af.lX (by omega)]at hi⊢
   exact af.cO hi (by omega)
  have cJ:JE J [.int .i64 ((af.ah i (u-6) c:Nat):Int)] B:=by
   refine JE.mk (hJ _ _ fun gs=>?_)
   refine ae.at ha fun q hq=>Ld.at hq (fun _ h=>h) ?_
   have hg:ws[af.ah i (u-6) c]? =some (ws.getD (af.ah i (u-6) c) 0):=by rw[List.getElem?_eq_getElem (by rw[hf.len];exact s6),List.getD_eq_getElem?_getD,List.getElem?_eq_getElem (by rw[hf.len];exact s6)];rfl
   refine hw.1.ld (eP hg) (fun _ h=>h) ?_
   exact e7.mk (.refl _) (by unfold af.gJ;rw[if_pos h6])
  refine Ld.at hb (fun _ h=>h) ?_
  cases c
  ·exact Br.no cJ
  ·refine Br.yes ?_
   refine Ld.at hv (fun _ h=>h) ?_
   refine aa.pc (b:=6) (by simp[aK];omega) h6 ?_
   refine aa.lf (a:=1) (by simp[IntKind.bits];omega) (by rw[Nat.one_shiftLeft];simp[aK];omega) ?_
   rw[Nat.one_shiftLeft]
   refine aa.qS (by simp[aK];omega) (by simp[aK];omega) ?_
   have e:eZ i (2^(u-6))|||2^(u-6)=af.ah i (u-6) true:=by
    apply Nat.eq_of_testBit_eq;intro k
    rw[Nat.testBit_or,bA,af.ag,Nat.testBit_two_pow]
    by_cases e:k=u-6
    ·simp[e]
    ·simp[e,Ne.symm e]
   rw[e];exact cJ
 ·have hp:2^u≤32:=Nat.pow_le_pow_right (n:=2) (by decide) (by omega:u≤5)
  have hg:ws[i]? =some (ws.getD i 0):=by rw[List.getElem?_eq_getElem (by rw[hf.len];exact hi),List.getD_eq_getElem?_getD,List.getElem?_eq_getElem (by rw[hf.len];exact hi)];rfl
  have Cy:=hw.2 _ (List.mem_of_getElem? hg)
  have hm:=af.oM u
  refine DR.self ?_
  refine Ld.at hv (fun _ h=>h) (Ld.at hv (fun _ h=>h) ?_)
  refine aa.lf (a:=1) (b:=u) (by simp[IntKind.bits];omega) (by rw[Nat.one_shiftLeft];simp[aK];omega) ?_
  rw[Nat.one_shiftLeft]
  refine ai.rd .here (p4 (u:=u) (i:=0) (by omega) (by omega) (by omega) B) ?_
  rintro v rfl
  rw[if_neg h6]
  refine⟨.refl _,?_⟩
  refine Ld.at hb (fun _ h=>h) ?_
  cases c
  ·refine Br.no ?_
   refine ae.at ha fun q hq=>Ld.at hq (fun _ h=>h) ?_
   refine hw.1.ld (eP hg) (fun _ h=>h) ?_
   refine aa.oV (by simpa[aK]using Cy) (by simpa[aK]using hm) ?_
   refine aa.nt ?_
   have:=fm (ws.getD i 0) (af.mask u)
   refine aa.qS (by simp only[aK];omega) (by simp only[aK];omega) ?_
   exact e7.mk (.refl _) (by unfold af.gJ;rw[if_neg h6];rfl)
  ·refine Br.yes ?_
   refine ae.at ha fun q hq=>Ld.at hq (fun _ h=>h) ?_
   refine hw.1.ld (eP hg) (fun _ h=>h) ?_
   refine aa.gO (by simpa[aK]using Cy) (by simpa[aK]using hm) ?_
   have h1:ws.getD i 0&&&af.mask u≤ws.getD i 0:=Nat.and_le_left
   refine aa.eL (by simp only[aK];omega) ?_
   have h2:=Nat.shiftRight_le (ws.getD i 0&&&af.mask u) (2^u)
   refine aa.qS (by simp only[aK];omega) (by simp only[aK];omega) ?_
   exact e7.mk (.refl _) (by unfold af.gJ;rw[if_neg h6];rfl)
theorem lD{B:Hp}{v:Value}{n u:Nat}{ws:List Nat}{c:Bool}(ht:mX B v ⟨n,ws⟩)(hf:af.dI n ws)(hu:u<n):
  Px Tryz.prog 215 #[v,.int .i64 (u:Int),.bool c] B (fun v H=>mX H v ⟨n,af.dy n ws u c⟩):=by
 obtain⟨s,rfl,hw⟩:=ht
 intro g
 refine n7 (R:=cx _) ?_
 unfold L215
 intro b1 _ b3 _ b5 _ b7 _
 refine ae.mk (Ld.mk zM rfl ?_)
 refine ai.px (.cons .here) (sX hf.nf rfl (by kernel_rfl) (F:=fun i=>af.gJ ws u c i) (fun i hi=>?_) (fun i hi=>?_)) ?_
 ·unfold af.gJ
  split
  ·by_cases h:af.ah i (u-6) c<ws.length
   ·rw[List.getD_eq_getElem?_getD,List.getElem?_eq_getElem h];exact hf.lt (List.getElem_mem h)
   ·rw[List.getD_eq_getElem?_getD,List.getElem?_eq_none (by omega)];decide
  ·have hg:ws.getD i 0<2^64:=by rw[List.getD_eq_getElem?_getD,List.getElem?_eq_getElem (by rw[hf.len];exact hi)];exact hf.lt (List.getElem_mem _)
   split
   ·refine Nat.or_lt_two_pow (n:=64) (Nat.lt_of_le_of_lt Nat.and_le_left hg) (Nat.lt_of_le_of_lt (Nat.shiftRight_le _ _) (Nat.lt_of_le_of_lt Nat.and_le_left hg))
   ·exact Nat.or_lt_two_pow (n:=64) (Nat.lt_of_le_of_lt (fm _ _) hg) (Nat.mod_lt _ (by decide))
 ·exact rL (Go.Sx.At.block (l:=[.int .i64 (u:Int)]) zM) (Go.Sx.At.block (l:=[.bool c]) zM) (Go.Sx.At.block (l:=[.int .i64 (n:Int),s]) zM) (hw.mono zS) hf hu hi
 ·rintro v N ⟨s',rfl,cG⟩
  refine St.whole (r:=[.int .i64 (n:Int),s']) (by exact .head _) rfl rfl ?_ ?_
  ·have:=aN cG;simpa[Value.oneCell']using this
  refine aO.whole (r:=[.int .i64 (n:Int),s']) (by exact .head _) rfl ?_
  exact iy.mk (by repeat (first|exact ay.refl _|apply ay.cons|apply ay.app)) ⟨s',rfl,cG.mono zS⟩
theorem oE{B:Hp}{v:Value}{n u:Nat}{ws:List Nat}{c:Bool}(ht:mX B v ⟨n,ws⟩)(hf:af.dI n ws)(hu:u<n):
  Px Tryz.prog 148 #[v,.int .i64 (u:Int),.bool c] B (fun r H=>∃v',r=.tuple #[v',.int .i64 0]∧mX H v' ⟨n,af.dy n ws u c⟩):=by
 obtain⟨s,rfl,hw⟩:=ht
 intro g
 refine ot (R:=cx _) ?_
 unfold L148
 intro b1 _ b3 _
 refine aO.whole (r:=[.int .i64 (n:Int),s]) (by exact .tail _ (.head _)) rfl ?_
 refine ai.rd .here (wH (t:=⟨n,ws⟩) ⟨s,rfl,hw.mono zS⟩ (u:Int)) ?_
 rintro v rfl
 rw[if_pos (show TF ⟨(n:Int),ws⟩from⟨by simp,by simpa using hf⟩),if_pos ⟨by omega,by simp only;omega⟩]
 refine aa.qu (Br.vj (by simp) ?_)
 refine aO.whole (r:=[.int .i64 (n:Int),s]) (by exact .tail _ (.head _)) rfl ?_
 refine ai.px (.cons .here) (lD (v:=.agg (List.toArray [.int .i64 (n:Int),s])) ⟨s,rfl,hw.mono zS⟩ hf hu) ?_
 rintro v N ⟨s',rfl,cG⟩
 refine St.whole (r:=[.int .i64 (n:Int),s']) (by exact .head _) rfl rfl ?_ ?_
 ·have:=aN cG;simpa[Value.oneCell']using this
 refine aO.whole (r:=[.int .i64 (n:Int),s']) (by exact .head _) rfl ?_
 exact iy.mk (by repeat (first|exact ay.refl _|apply ay.cons|apply ay.app)) ⟨_,rfl,s',rfl,cG.mono zS⟩
theorem mT{w j:Nat}(hj:j<8):((List.range (j+1)).map fun i=>UInt8.ofNat (w>>>(8*i)))=((List.range j).map fun i=>UInt8.ofNat (w>>>(8*i)))++[UInt8.ofNat (w>>>(8*j))]:=by
 rw[List.range_succ,List.map_append];rfl
theorem p5(l:List UInt8)(n:Nat):ik (l++[UInt8.ofNat n])=ik l++[[Value.int .u8 ((n%256:Nat):Int)]]:=by
 simp[ik]
theorem nC{B:Hp}{v:Value}{t:Tb}(ht:mX B v t)(hl:t.ws.length≤4294967296):Rd Tryz.prog 234 #[v] B (· =k8 (af.cF t.ws)):=by
 obtain⟨s,rfl,hw⟩:=ht
 intro g
 refine nX (R:=cx _) ?_
 unfold L234
 intro b1 _
 refine ae.mk (Ld.mk zM rfl ?_)
 refine hw.1.bQ ?_
 rw[bP]
 refine⟨fun vs H=>∃(k:Nat) (v:Value) (C:Hp),vs=[v,.int .i64 (k:Int)]∧k≤t.ws.length∧H=C++B∧bC 5 1 v (ik (af.cF (t.ws.take k))) C,fun vs _=>t.ws.length-dD vs 1,
  JE.of (.tail) ⟨0,_,[],rfl,by omega,rfl,bC.nil _ _⟩,?_⟩
 rintro w6 w7 H ⟨k,v,C,hv,hk,rfl,ho⟩ gs
 simp only[List.cons.injEq,and_true]at hv
 obtain⟨rfl,rfl⟩:=hv
 refine aa.jA (Br.dec (fun hlt=>?_) (fun hlt=>?_))
 ·have hg:t.ws[k]? =some t.ws[k]:=List.getElem?_eq_getElem hlt
  have hwk:=hw.2 _ (List.getElem_mem hlt)
  refine hw.1.ld (eP hg) zS ?_
  have hlen:(ik (af.cF (t.ws.take k))).length=8*k:=by simp only[ik,List.length_map,af.iK,List.length_take];omega
  refine⟨fun vs H=>∃(j:Nat) (v:Value) (C:Hp),vs=[v,.int .i64 (j:Int)]∧j≤8∧H=C++B∧bC 5 1 v (ik (af.cF (t.ws.take k)++(List.range j).map fun i=>UInt8.ofNat (t.ws[k]>>>(8*i)))) C,fun vs _=>8-dD vs 1,
   JE.mk ⟨0,_,C,rfl,by omega,rfl,by simpa using ho⟩,?_⟩
  rintro w8 w9 H ⟨j,v,C,hv,hj,rfl,ho⟩ gs
  simp only[List.cons.injEq,and_true]at hv
  obtain⟨rfl,rfl⟩:=hv
  refine aa.jA (b:=8) (Br.dec (fun h8=>?_) (fun h8=>?_))
  ·refine aa.Ag (a:=8) (by simp[aK];omega) ?_
   refine aa.eL (by simpa[aK]using hwk) ?_
   refine bg.Bo ?_
   refine aG.int (e:=5) (by kernel_rfl) (by kernel_rfl) (by kernel_rfl) fun xb=>?_
   refine ho.tA (A:=[_]) (r:=[Value.int .u8 (((t.ws[k]>>>(8*j))%256:Nat):Int)]) (by exact .head _) rfl (by simp[Value.oneCell']) ⟨[.int .u8 0],rfl,rfl⟩ (by simp only[ik,List.length_map,List.length_append,List.length_range]at hlen⊢;omega) (by simp only[ik,List.length_map,List.length_append,List.length_range]at hlen⊢;omega) fun v' C' dP=>?_
   refine aa.cE (b:=1) (by simp[aK];omega) ?_
   refine aS.of .tail ⟨j+1,_,C',rfl,by omega,rfl,?_⟩ (by simp[dD];omega)
   rw[mT h8,←List.append_assoc,p5];exact dP
  ·have:j=8:=by omega
   subst this
   refine aa.cE (b:=1) (by simp[aK];omega) ?_
   refine aS.mk ⟨k+1,_,C,rfl,by omega,rfl,?_⟩ (by simp[dD];omega)
   rw[List.take_succ_eq_append_getElem hlt,af.cF,List.flatMap_append]
   simpa[af.cF,af.dM]using ho
 ·have:k=t.ws.length:=by omega
  subst this
  rw[List.take_length]at ho
  refine dO.own ho (fun _ h=>List.mem_append_left _ h) ?_
  exact e7.mk .right rfl
theorem vn{B:Hp}{b n:Nat}{es:Array MapEntry}{ck:Nat}{m:List (List UInt8×List Nat)}{v:Value}{ws:List Nat}(hE:cv n B es ck m)(ht:mX B v ⟨n,ws⟩)(hf:af.dI n ws):
  Fc Tryz.prog 233 #[.map (some b),v] ((b,.map es ck)::B) (fun _ H=>∃es' ea N,H=(b,.map es' ea)::(N++B)∧cv n (N++B) es' ea (kZ m ws)):=by
 obtain⟨s,rfl,hw⟩:=ht
 intro g
 refine nY (R:=cx _) ?_
 unfold L233
 intro b1 _
 refine DR.self ?_
 refine aO.whole (r:=[.int .i64 (n:Int),s]) (by exact .head _) rfl ?_
 refine aO.whole (r:=[.int .i64 (n:Int),s]) (by exact .head _) rfl ?_
 refine ai.rd (.cons (.cons .here)) (nC (t:=⟨n,ws⟩) ⟨s,rfl,hw⟩ (jb hf)) ?_
 rintro v rfl
 refine⟨.refl _,?_⟩
 refine hE.bF (b:=b) ⟨s,rfl,hw⟩ hf fun es' ea jK=>⟨_,.tail (.head _),?_⟩
 exact cx.mk (gu:=(b,.map es' ea)::([]++B)) .tail ⟨es',ea,[],rfl,jK⟩
theorem pA{B:Hp}{v:Value}{n:Nat}{ts:List Tb}{L:List (List Nat)}(ht:bN B v ts)(hL:ts=L.map fun ws=>⟨n,ws⟩)(hf:∀ws∈L,af.dI n ws)(bR:L.length<4611686018427387904):
  Fc Tryz.prog 176 #[v] B (fun r H=>∃b es ck m N,r=.map (some b)∧H=(b,.map es ck)::(N++B)∧cv n (N++B) es ck m∧∀x,x∈m.map Prod.snd↔x∈L):=by
 have hlen:ts.length=L.length:=by rw[hL];simp
 intro g
 refine ob (R:=cx _) ?_
 unfold L176
 intro b _
 refine ht.bQ ?_
 rw[hlen]
 refine⟨fun vs H=>∃(k:Nat) (es:Array MapEntry) (ck:Nat) (m:List (List UInt8×List Nat)) (N:Hp),vs=[.int .i64 (k:Int)]∧k≤L.length∧H=(b,.map es ck)::(N++B)∧cv n (N++B) es ck m∧∀x,x∈m.map Prod.snd↔x∈L.take k,
  fun vs _=>L.length-dD vs 0,JE.mk ⟨0,_,_,[],[],rfl,by omega,rfl,cv.empty _ _,by simp⟩,?_⟩
 rintro w H ⟨k,es,ck,m,N,hv,hk,rfl,hE,hm⟩ gs
 simp only[List.cons.injEq,and_true]at hv
 subst hv
 refine aa.jA (Br.dec (fun hlt=>?_) (fun hlt=>?_))
 ·have hg:ts[k]? =some ⟨n,L[k]⟩:=by rw[hL,List.getElem?_map,List.getElem?_eq_getElem hlt];rfl
  have gI:=hf L[k] (List.getElem_mem hlt)
  refine ht.ld hg zS fun s hw=>?_
  intro b2 _
  refine St.whole (r:=[.int .i64 (n:Int),s]) (by exact .head _) rfl rfl ?_ ?_
  ·have:=aN hw;simpa[Value.oneCell']using this
  refine aO.whole (r:=[.int .i64 (n:Int),s]) (by exact .head _) rfl ?_
  refine ai.fn (.cons .here) (vn hE ⟨s,rfl,hw.mono zS⟩ gI) ?_
  rintro r C' ⟨es',ea,N',rfl,jK⟩
  refine aa.cE (b:=1) (by simp[aK];omega) ?_
  refine aS.of .tail ⟨k+1,es',ea,kZ m L[k],N'++N,rfl,by omega,by rw[List.append_assoc],by rw[List.append_assoc];exact jK,fun x=>?_⟩ (by simp[dD];omega)
  rw[gZ hE.2 gI,hm,List.take_succ_eq_append_getElem hlt,List.mem_append,List.mem_singleton]
 ·have:k=L.length:=by omega
  subst this
  rw[List.take_length]at hm
  exact cx.here ⟨b,es,ck,m,N,rfl,rfl,hE,hm⟩
theorem mL{B:Hp}{bm n u:Nat}{es:Array MapEntry}{ck:Nat}{m:List (List UInt8×List Nat)}(hm:(bm,Obj.map es ck)∈B)(hE:cv n B es ck m)(hu:u<n)(bR:m.length<4611686018427387904):
  Fc Tryz.prog 177 #[.map (some bm),.int .i64 (u:Int)] B (fun r H=>∃b' es' ea m' N,r=.tuple #[.map (some b'),.int .i64 ((af.nodes n (m.map Prod.snd) u).length:Int)]∧H=(b',.map es' ea)::(N++B)∧cv n (N++B) es' ea m'∧
   ∀x,x∈m'.map Prod.snd↔∃t∈m.map Prod.snd,∃c,x=af.dy n t u c):=by
 intro g
 refine oa (R:=cx _) ?_
 unfold L177
 intro b' _
 refine .inr ⟨bm,es,ck,rfl,.tail _ hm,fun bi _=>?_⟩
 refine⟨fun vs H=>∃(es':Array MapEntry) (ea:Nat) (m':List (List UInt8×List Nat)) (seen:Array Nat) (N:Hp) (D:List (List Nat)),vs=[.int .i64 ((af.nodes n D u).length:Int)]∧
   H=(bi,.mapIter (some bm) ck seen ck)::(b',.map es' ea)::(N++B)∧cv n (N++B) es' ea m'∧(m.map Prod.snd).Perm (D++(cR es m seen).map Prod.snd)∧∀x,x∈m'.map Prod.snd↔∃t∈D,∃c,x=af.dy n t u c,
  fun vs H=>match H with|(_,.mapIter _ _ seen _)::_=>(cR es m seen).length|_=>0,JE.mk ⟨_,_,[],_,[],[],rfl,rfl,cv.empty _ _,?_,by simp⟩,?_⟩
 ·rw[nq hE.1];simp
 rintro w H ⟨es',ea,m',seen,N,D,hv,rfl,jK,bJ,hmem⟩ gs
 simp only[List.cons.injEq,and_true]at hv
 subst hv
 have zc:∀{X:Hp},(bm,Obj.map es ck)∈X++B:=List.mem_append_right _ hm
 refine hE.1.next (.tail _ (.tail _ zc)) (.head _) (fun e x seen' he hkey hval hstep rK hfind=>⟨_,.head _,?_⟩) (fun jG=>?_)
 ·obtain⟨bs,ws⟩:=x
  simp only at hval hkey
  refine Ext.mk rfl (Br.yes ?_)
  refine⟨bi,bm,ck,seen',e.born,ck,es,e,rfl,.head _,rK,.tail _ (.tail _ zc),hfind,?_⟩
  refine Ext.mk rfl ?_
  have hx:(bs,ws)∈m:=by
   have h:=hstep.mem_iff.2 (List.mem_cons_self (a:=(bs,ws)))
   unfold cR at h
   obtain⟨p,hp,gV⟩:=List.mem_map.1 h
   rw[←gV]
   exact(List.of_mem_zip (List.mem_filter.1 hp).1).2
  obtain⟨ER,hf⟩:=hE.2 _ hx
  simp only at ER hf
  obtain⟨s,xI,hw⟩:=hval
  rw[xI]
  have hone:=aN hw
  intro b1 _
  refine St.whole (r:=[.int .i64 (n:Int),s]) (by exact .head _) rfl rfl (by simpa[Value.oneCell']using hone) ?_
  refine aO.whole (r:=[.int .i64 (n:Int),s]) (by exact .head _) rfl ?_
  refine ai.px (B:=N++B) (.cons (.cons (.cons .here))) (oE (n:=n) (ws:=ws) ⟨s,rfl,hw.mono zS⟩ hf hu) ?_
  rintro r N1 ⟨v1,rfl,s1,rfl,lp⟩
  have xu:=aN lp
  refine Ext.mk rfl (Ext.mk rfl ?_)
  intro b2 _
  refine St.whole (r:=[.int .i64 (n:Int),s1]) (by exact .head _) rfl rfl (by simpa[Value.oneCell']using xu) ?_
  refine aO.whole (r:=[.int .i64 (n:Int),s]) (by exact .tail _ (.head _)) rfl ?_
  refine ai.px (B:=N1++(N++B)) (.cons (.cons (.cons (.cons .here)))) (oE (n:=n) (ws:=ws) ⟨s,rfl,hw.mono zS⟩ hf hu) ?_
  rintro r N2 ⟨v2,rfl,s2,rfl,uM⟩
  have xq:=aN uM
  refine Ext.mk rfl (Ext.mk rfl ?_)
  intro b3 _
  refine St.whole (r:=[.int .i64 (n:Int),s2]) (by exact .head _) rfl rfl (by simpa[Value.oneCell']using xq) ?_
  refine DR.self ?_
  refine aO.whole (r:=[.int .i64 (n:Int),s1]) (by exact .tail _ (.head _)) rfl ?_
  refine aO.whole (r:=[.int .i64 (n:Int),s2]) (by exact .head _) rfl ?_
  have f1:=af.c4 (v:=u) (ws:=ws) (b:=false) hf.nf
  have f2:=af.c4 (v:=u) (ws:=ws) (b:=true) hf.nf
  refine ai.rd (B:=N2++(N1++(N++B))) (.cons (.cons (.cons (.cons (.cons .here))))) (nC (t:=⟨n,af.dy n ws u false⟩) ⟨s1,rfl,lp.mono zS⟩ (jb f1)) ?_
  rintro v rfl
  refine⟨.refl _,?_⟩
  refine ai.rd (B:=N2++(N1++(N++B))) (.cons (.cons (.cons (.cons (.cons .here))))) (nC (t:=⟨n,af.dy n ws u true⟩) ⟨s2,rfl,uM⟩ (jb f2)) ?_
  rintro v rfl
  refine⟨.refl _,?_⟩
  intro J hJ
  have xM:(af.cF (af.dy n ws u false)≠af.cF (af.dy n ws u true))↔af.dep n ws u=true:=by
   simp only[af.dep,ne_eq,decide_eq_true_eq]
   exact not_congr ⟨fun h=>f1.key_inj f2 h,fun h=>by rw[h]⟩
  have cJ:JE J [.int .i64 ((af.nodes n (D++[ws]) u).length:Int)] ((b3,.cells (List.toArray [.int .i64 (n:Int),s2]) 57 (0,0))::(b2,.cells (List.toArray [.int .i64 (n:Int),s1]) 57 (0,0))::
    (b1,.cells (List.toArray [.int .i64 (n:Int),s]) 57 (0,0))::(bi,.mapIter (some bm) ck seen' ck)::(b',.map es' ea)::(N2++(N1++(N++B)))):=by
   refine JE.mk (hJ _ _ fun gs=>?_)
   refine DR.of (R:=(b3,.cells (List.toArray [.int .i64 (n:Int),s2]) 57 (0,0))::(b2,.cells (List.toArray [.int .i64 (n:Int),s1]) 57 (0,0))::[]) ?_ ?_
   ·exact .cons (.cons (fun g w h=>(Own.left (B:=_) (A:=[]) h)))
   refine aO.whole (r:=[.int .i64 (n:Int),s1]) (by exact .tail _ (.head _)) rfl ?_
   refine aO.whole (r:=[.int .i64 (n:Int),s2]) (by exact .head _) rfl ?_
   have pP:=jK.mono (B':=N2++(N1++(N++B))) zS
   refine pP.bF (b:=b') (ws:=af.dy n ws u false) ⟨s1,rfl,lp.mono zS⟩ f1 fun ig ij Db=>⟨_,.tail (.tail (.tail (.tail (.head _)))),?_⟩
   refine⟨.cons (.cons (fun g w h=>(Own.left (B:=_) (A:=[]) h))),?_⟩
   refine Db.bF (b:=b') (ws:=af.dy n ws u true) ⟨s2,rfl,uM⟩ f2 fun ya ye EY=>⟨_,.tail (.tail (.tail (.tail (.head _)))),?_⟩
   refine aS.of (H':=(bi,.mapIter (some bm) ck seen' ck)::(b',.map ya ye)::((N2++(N1++N))++B)) ?_ ⟨ya,ye,kZ (kZ m' (af.dy n ws u false)) (af.dy n ws u true),seen',N2++(N1++N),D++[ws],rfl,rfl,?_,?_,fun x=>?_⟩ ?_
   ·refine .skip (.skip (.skip (.cons (.cons ?_))))
    intro g w h;rw[List.append_assoc,List.append_assoc];exact h
   ·rw[List.append_assoc,List.append_assoc];exact EY
   ·refine bJ.trans ?_
    refine(List.Perm.append_left D (hstep.map Prod.snd)).trans ?_
    simp only[List.map_cons,List.append_assoc,List.cons_append,List.nil_append]
    exact .refl _
   ·rw[gZ Db.2 f2,gZ pP.2 f1,hmem]
    constructor
    ·rintro((⟨t,ht,c,rfl⟩|rfl)|rfl)
     ·exact⟨t,by simp[ht],c,rfl⟩
     ·exact⟨ws,by simp,_,rfl⟩
     ·exact⟨ws,by simp,_,rfl⟩
    ·rintro⟨t,ht,c,rfl⟩
     rcases List.mem_append.1 ht with ht|ht
     ·exact .inl (.inl ⟨t,ht,c,rfl⟩)
     ·simp at ht;subst ht
      cases c
      ·exact .inl (.inr rfl)
      ·exact .inr rfl
   ·have:=hstep.length_eq
    simp only[List.length_cons]at this⊢
    omega
  refine aa.wC (Br.dec (fun h=>?_) (fun h=>?_))
  ·refine aa.cE (b:=1) ?_ ?_
   ·have h1:=bJ.length_eq
    simp only[List.length_map,List.length_append]at h1
    have h2:(af.nodes n D u).length≤D.length:=List.length_filter_le _ _
    simp[aK];omega
   ·have:(af.nodes n (D++[ws]) u).length=(af.nodes n D u).length+1:=by
     simp[af.nodes,List.filter_append,xM.1 h]
    rw[this]at cJ;exact cJ
  ·have:(af.nodes n (D++[ws]) u).length=(af.nodes n D u).length:=by
    have hd:af.dep n ws u=false:=by cases hh:af.dep n ws u;rfl;exact absurd (xM.2 hh) h
    simp[af.nodes,List.filter_append,hd]
   rw[this]at cJ;exact cJ
 ·refine Ext.mk rfl (Br.no ?_)
  rw[jG]at bJ
  simp only[List.map_nil,List.append_nil]at bJ
  refine cx.mk (gu:=(b',.map es' ea)::(N++B)) .tail ⟨b',es',ea,m',N,?_,rfl,jK,fun x=>?_⟩
  ·rw[af.gf bJ]
  ·rw[hmem]
   constructor
   ·rintro⟨t,ht,h⟩;exact⟨t,bJ.mem_iff.2 ht,h⟩
   ·rintro⟨t,ht,h⟩;exact⟨t,bJ.mem_iff.1 ht,h⟩
theorem ph{B:Hp}{v:Value}{ts:List Tb}(ht:bN B v ts)(bR:ts.length<2^62):Rd Tryz.prog 175 #[v] B (· =.bool (decide (∀t∈ts,TF t∧some t.n=ts.head?.map Tb.n))):=by
 intro g
 refine oc (R:=cx _) ?_
 unfold L175
 refine ht.bQ ?_
 refine⟨fun vs H=>ay B H∧∃k:Nat,vs=[.int .i64 (k:Int)]∧k≤ts.length∧∀i t,i<k→ts[i]? =some t→TF t∧some t.n=ts.head?.map Tb.n,fun vs _=>ts.length-dD vs 0,JE.mk ⟨.refl _,0,rfl,by omega,by omega⟩,?_⟩
 rintro w H ⟨hg,k,hv,hk,an⟩ gs
 simp only[List.cons.injEq,and_true]at hv
 subst hv
 refine aa.jA (Br.dec (fun hlt=>?_) (fun hlt=>?_))
 ·obtain⟨t,uN⟩:∃t,ts[k]? =some t:=⟨_,List.getElem?_eq_getElem hlt⟩
  obtain⟨t0,uO⟩:∃t,ts[0]? =some t:=⟨_,List.getElem?_eq_getElem (by omega)⟩
  have hh:ts.head?.map Tb.n=some t0.n:=by rw[List.head?_eq_getElem?,uO];rfl
  have wX:=ht.mono hg.sub
  refine wX.ld uN (fun _ h=>h) fun s hs=>?_
  intro b1 _
  refine St.whole (r:=[.int .i64 t.n,s]) (by exact br.head _) rfl rfl ?_ ?_
  ·obtain⟨a,c,rfl,_⟩:=hs.1.shape;simp[Value.oneCell']
  intro J hJ
  have hno:∀H',ay B H'→¬(TF t∧some t.n=ts.head?.map Tb.n)→JE J [.bool true] H':=fun H' AQ h=>
   JE.mk (hJ _ _ fun gs=>Br.yes (e7.mk AQ.ur (by rw[decide_eq_false];exact fun hh=>h (hh t (List.mem_of_getElem? uN)))))
  have uZ:ay B ((b1,Obj.cells (List.toArray [.int .i64 t.n,s]) 57 (0,0))::H):=.cons hg
  refine DR.self ?_
  refine aO.whole (r:=[.int .i64 t.n,s]) (by exact List.Mem.head _) rfl ?_
  intro F
  refine ai.rd (B:=H) (.cons .here) (mN ⟨s,rfl,hs⟩) ?_
  rintro v rfl
  refine⟨.refl _,Un.not ?_⟩
  by_cases hT:TF t
  case neg=>rw[decide_eq_false hT];exact Br.yes (hno _ uZ fun h=>hT h.1)
  rw[decide_eq_true hT]
  refine Br.no ?_
  refine ae.mk (Ld.mk zM rfl ?_)
  refine wX.uH uO zS ?_
  refine aa.qu (aA.mk ?_)
  simp only[cond_false]
  by_cases hn:t.n=t0.n
  case neg=>rw[decide_eq_true hn];exact hno _ uZ fun h=>hn (by have:=h.2;rw[hh]at this;simpa using this)
  rw[decide_eq_false (by simpa using hn)]
  refine JE.mk (hJ _ _ fun gs=>Br.no ?_)
  refine aa.cE (b:=1) (by simp[aK];omega) ?_
  refine aS.mk ⟨uZ,k+1,rfl,by omega,fun i u hi hu=>?_⟩ (by simp[dD];omega)
  by_cases e:i=k
  ·subst e;rw[uN]at hu;cases hu;exact⟨hT,by rw[hh,hn]⟩
  ·exact an i u (by omega) hu
 ·refine e7.mk hg.ur ?_
  rw[decide_eq_true]
  intro t Ap
  obtain⟨i,hi,rfl⟩:=List.mem_iff_getElem.1 Ap
  exact an i _ (by omega) (List.getElem?_eq_getElem hi)
def cL(ts:List Tb):Prop:=∀t∈ts,TF t∧some t.n=ts.head?.map Tb.n
instance (ts:List Tb):Decidable (cL ts):=by unfold cL;infer_instance
theorem jl{B:Hp}{v:Value}{ts:List Tb}(ht:bN B v ts)(bR:ts.length<2^62):Rd Tryz.prog 175 #[v] B (· =.bool (decide (cL ts))):=ph ht bR
theorem qT{n:Nat}{L:List (List Nat)}(hf:∀ws∈L,af.dI n ws):cL (L.map fun ws=>⟨n,ws⟩):=by
 intro t ht
 obtain⟨ws,vK,rfl⟩:=List.mem_map.1 ht
 refine⟨⟨by simp,by simpa using hf ws vK⟩,?_⟩
 cases L with
 |nil=>simp at vK
 |cons a b=>rfl
theorem oK{ts:List Tb}(h:cL ts)(hne:ts≠[]):∃(n:Nat) (L:List (List Nat)),n≤16∧ts=L.map (fun ws=>⟨n,ws⟩)∧L≠[]∧∀ws∈L,af.dI n ws:=by
 cases ts with
 |nil=>exact absurd rfl hne
 |cons t r=>
  have ht:=(h t (by simp)).1
  have hn:∀u∈t::r,u.n=t.n:=fun u hu=>by have:=(h u hu).2;simpa using this
  refine⟨t.n.toNat,(t::r).map Tb.ws,ht.2.nf,?_,by simp,fun ws vK=>?_⟩
  ·rw[List.map_map]
   conv=>lhs;rw[←List.map_id (t::r)]
   apply List.map_congr_left
   intro u hu
   have h1:=hn u hu
   have h2:=ht.1
   obtain⟨un,uw⟩:=u
   simp only[Function.comp,id]at h1⊢
   congr 1;omega
  ·obtain⟨u,hu,rfl⟩:=List.mem_map.1 vK
   have:=(h u hu).1.2
   rwa [hn u hu]at this
open dz
section
variable {kp b f d:Nat} {K:Kd} {S:Nat→dz.Fn} {ord tr:List Nat} {C:Hp}
def sV(p:Nat):Nat→Nat→Nat
 |0,_=>p
 |_,k=>p-k
def pM(n p:Nat):Nat→Nat→Nat
 |0,k=>p+k
 |_,_=>n-1
end
end Go.Proofs
namespace Go.Sx
open Go Go.ChangeShapes Go.WideShapes Go.Deep
section
variable {H:Type} {enc:TypeId×Value→H} {P:Program} {W:World} {base:Nat} {spare:Nat→Bool} {held:Bool}
theorem ir(a:Addr)(n:Nat):(a.add n).block=a.block:=by unfold Addr.add;split<;>rfl
theorem lN(a:Addr)(n:Nat):(a.add n).off=a.off+n:=by unfold Addr.add;split<;>simp_all
theorem dH{b:Nat}{a:Addr}{k:Nat}{cs:List Value}(hk:0<k)(h:W.cells? b a k=some cs):
  a.spot=none∧∃c T fz,W.heap[a.block]? =some (.cells c T fz)∧a.off+k≤c.size∧c.extract a.off (a.off+k)=cs.toArray:=by
 obtain⟨_,hl,hg⟩:=World.cells?_some h
 have h0:=hg 0 hk
 have hc0:W.cell? a=some (cs[0]'(by omega)):=by
  have:a.add 0=a:=by simp[Addr.add]
  rw[this]at h0;rw[h0];exact List.getElem?_eq_getElem (by omega)
 unfold World.cell? at hc0
 split at hc0
 ·rename_i c T fz hb
  cases hs:a.spot with
  |some s=>rw[hs]at hc0;simp at hc0
  |none=>
   have hcell:∀i,i<k→c[a.off+i]? =cs[i]? :=fun i hi=>by
    have:=hg i hi
    unfold World.cell? at this
    rw[ir,hb]at this
    simp only[lN]at this
    have hsp:(a.add i).spot.isSome=false:=by unfold Addr.add;split<;>simp[hs]
    rw[hsp]at this
    simpa using this
   have hsz:a.off+k≤c.size:=by
    have:=hcell (k-1) (by omega)
    rw[List.getElem?_eq_getElem (by omega)]at this
    have:=(Array.getElem?_eq_some_iff.1 this).1
    omega
   refine⟨rfl,c,T,fz,hb,hsz,?_⟩
   apply Array.ext_getElem?
   intro i
   rw[Array.getElem?_extract]
   by_cases hi:i<k
   ·rw[if_pos (by omega),hcell i hi];simp
   ·rw[if_neg (by omega)];simp;omega
 ·simp at hc0
theorem vJ{t e:TypeId}{v:Value}{d:DataW H}{ps:List MemPlace}{r:Reach}{b0 k:Nat}(ht:P.underlying t=some (.slice e))(hk:P.cellsOf e=k)(uX:0<k)(hv:Value.okWide P W r b0 t v)(h:DataW.Trod enc P W base spare held t v d ps):
  (v=.slice none 0 0∧d=.nil)∨∃(a:Addr) (n cap:Nat) (es sp:List (DataW H)),v=.slice (some a) n cap∧d=.slice es sp∧es.length=n∧n≤cap∧
   ∀i,i<n→∃c T fz cs,a.spot=none∧(a.block,Obj.cells c T fz)∈whole W∧a.off+i*k+k≤c.size∧c.extract (a.off+i*k) (a.off+i*k+k)=cs.toArray∧∃fuel y,DataW.trod enc P W base spare held fuel e cs=some y∧cs.length=k:=by
 obtain⟨a0,n0,c0,rfl⟩:=okWide_slice ht hv
 obtain⟨fuel,hf⟩:=h
 rcases open_slice ht hf with⟨h1,h2⟩|⟨a,len,cap,m,n,D,Pl,hcs,hb,hl,hm,yX,hx,hi⟩
 ·left
  simp only[Value.cells,List.cons.injEq,and_true]at h1
  simp only[Prod.mk.injEq]at h2
  exact⟨by simpa using h1,h2.1⟩
 ·right
  simp only[Prod.mk.injEq]at hx
  have Eh:Value.slice a0 n0 c0=.slice (some a) len cap:=by simpa[Value.cells]using hcs
  have EA:len≤m:=by rw[yX];split<;>omega
  refine⟨a,len,cap,_,_,Eh,hx.1,by simp,hl,fun i hin=>?_⟩
  have hkk:=hk
  have mF:a.spot=none:=by
   obtain⟨GA,hc0,_⟩:=hi 0 (by omega)
   rw[hk]at hc0
   rw[show a.add (0*k)=a by simp[Addr.add]]at hc0
   exact(dH uX hc0).1
  obtain⟨cs,hc,hd⟩:=hi i (by omega)
  rw[hk]at hc
  obtain⟨_,hlen,_⟩:=World.cells?_some hc
  obtain⟨_,c,T,fz,h1,h2,h3⟩:=dH uX hc
  rw[ir]at h1
  rw[lN]at h2 h3
  exact⟨c,T,fz,cs,mF,kE h1,h2,h3,n,_,hd,hlen⟩
theorem kC{t e:TypeId}{cs:List Value}{x:DataW H×List MemPlace}{fuel k:Nat}(ht:P.underlying t=some (.slice e))(hk:P.cellsOf e=k)(uX:0<k)(h:DataW.trod enc P W base spare held fuel t cs=some x):
  ∃(v:Value) (rs:List (List Value)),cs=[v]∧Sl k (whole W) v rs∧((rs=[]∧x.1=.nil)∨∃es sp,x.1=.slice es sp∧es.length=rs.length)∧
   ∀(i:Nat) (r:List Value),rs[i]? =some r→∃(fuel:Nat) (y:DataW H×List MemPlace) (es sp:List (DataW H)),DataW.trod enc P W base spare held fuel e r=some y∧x.1=.slice es sp∧es[i]? =some y.1:=by
 rcases open_slice ht h with⟨h1,h2⟩|⟨a,len,cap,m,n,D,Pl,hcs,hb,hl,hm,yX,hx,hi⟩
 ·exact⟨_,[],h1,Sl.nil _ _,.inl ⟨rfl,by rw[h2]⟩,fun i r hr=>by simp at hr⟩
 ·have EA:len≤m:=by rw[yX];split<;>omega
  have hex:∃rs:List (List Value),rs.length=len∧∀i r,rs[i]? =some r→W.cells? base (a.add (i*k)) k=some r∧DataW.trod enc P W base spare held n e r=some (D i,Pl i):=by
   clear hcs hx hl yX
   induction len with
   |zero=>exact⟨[],rfl,fun i r hr=>by simp at hr⟩
   |succ len ih=>
    obtain⟨rs,h1,h2⟩:=ih (by omega)
    obtain⟨r,h3,h4⟩:=hi len (by omega)
    rw[hk]at h3
    refine⟨rs++[r],by simp[h1],fun i r' hr=>?_⟩
    by_cases hlt:i<rs.length
    ·rw[List.getElem?_append_left hlt]at hr;exact h2 i r' hr
    ·rw[List.getElem?_append_right (by omega)]at hr
     have tf:i-rs.length=0:=by
      by_cases e:i-rs.length=0
      ·exact e
      ·rw[List.getElem?_eq_none (by simp;omega)]at hr;cases hr
     rw[tf]at hr
     simp only[List.getElem?_cons_zero,Option.some.injEq]at hr
     subst hr
     obtain rfl:i=len:=by omega
     exact⟨h3,h4⟩
  obtain⟨rs,xg,yT⟩:=hex
  have an:∀r∈rs,r.length=k:=fun r hr=>by
   obtain⟨i,hi,e⟩:=List.mem_iff_getElem.1 hr
   obtain⟨hc,_⟩:=yT i r (by rw[List.getElem?_eq_getElem hi,e])
   exact(World.cells?_some hc).2.1
  refine⟨.slice (some a) len cap,rs,hcs,⟨an,?_⟩,.inr ⟨_,_,by rw[hx],by simp[xg]⟩,fun i r hr=>?_⟩
  ·cases rs with
   |nil=>exact .inl ⟨some a,cap,by rw[←xg];rfl,rfl⟩
   |cons r0 rest=>
    right
    obtain⟨hc0,_⟩:=yT 0 r0 rfl
    obtain⟨mF,c,T,fz,hb0,_,_⟩:=dH uX hc0
    rw[show a.add (0*k)=a by simp[Addr.add]]at mF hb0
    obtain⟨ab,ao,GB⟩:=a
    simp only at mF hb0
    subst mF
    have xR:∀i r,(r0::rest)[i]? =some r→ao+i*k+k≤c.size∧c.extract (ao+i*k) (ao+i*k+k)=r.toArray:=fun i r hr=>by
     obtain⟨hc,_⟩:=yT i r hr
     obtain⟨_,c',T',Gv,h1,h2,h3⟩:=dH uX hc
     rw[ir]at h1
     rw[lN]at h2 h3
     simp only at h1 h2 h3
     rw[hb0]at h1
     simp only[Option.some.injEq,Obj.cells.injEq]at h1
     obtain⟨rfl,_,_⟩:=h1
     exact⟨h2,h3⟩
    refine⟨ab,ao,cap,c,T,fz,by rw[xg],by omega,kE hb0,?_,fun i r hr j v hj=>?_⟩
    ·have xB:=xR (rest.length) ((r0::rest)[rest.length]'(by simp)) (List.getElem?_eq_getElem (by simp))
     have:=xB.1
     simp only[List.length_cons,Nat.succ_mul];omega
    ·obtain⟨h1,h2⟩:=xR i r hr
     have tX:j<k:=by
      have:=(List.getElem?_eq_some_iff.1 hj).1
      rw[an r (List.mem_of_getElem? hr)]at this;exact this
     have h3:=congrArg (fun z:Array Value=>z[j]?) h2
     simp only[Array.getElem?_extract,List.getElem?_toArray]at h3
     rw[hj]at h3
     rw[←h3,if_pos (by omega)]
  ·obtain⟨_,hd⟩:=yT i r hr
   have EG:i<len:=by rw[←xg];exact(List.getElem?_eq_some_iff.1 hr).1
   exact⟨n,_,_,_,hd,by rw[hx],by simp[EG]⟩
theorem o9{t e:TypeId}{q:IntKind}{cs:List Value}{x:DataW H×List MemPlace}{fuel:Nat}(ht:P.underlying t=some (.slice e))(he:P.underlying e=some (.int q))(hk:P.cellsOf e=1)(h:DataW.trod enc P W base spare held fuel t cs=some x):
  ∃(v:Value) (l:List Int),cs=[v]∧da q (whole W) v l∧(∀n∈l,(Lit.int q n).wf=true)∧((l=[]∧x.1=.nil)∨∃es sp,x.1=.slice es sp∧es.length=l.length):=by
 obtain⟨v,rs,hcs,uP,hx,hr⟩:=kC ht hk (by decide) h
 have hone:∀r∈rs,∃n,r=[.int q n]∧(Lit.int q n).wf=true:=fun r hm=>by
  obtain⟨i,hi,e⟩:=List.mem_iff_getElem.1 hm
  obtain⟨f,y,_,_,hy,_⟩:=hr i r (by rw[List.getElem?_eq_getElem hi,e])
  obtain⟨n,h1,_,h2⟩:=DataW.trod_int he hy
  exact⟨n,h1,h2⟩
 have hex:∃l:List Int,rs=l.map (fun n=>[Value.int q n])∧∀n∈l,(Lit.int q n).wf=true:=by
  clear uP hx hr hcs
  induction rs with
  |nil=>exact⟨[],rfl,by simp⟩
  |cons r rest ih=>
   obtain⟨l,h1,h2⟩:=ih fun r hm=>hone r (by simp[hm])
   obtain⟨n,h3,h4⟩:=hone r (by simp)
   exact⟨n::l,by simp[h1,h3],fun m hm=>by rcases List.mem_cons.1 hm with rfl|hm;exact h4;exact h2 m hm⟩
 obtain⟨l,rfl,hwf⟩:=hex
 refine⟨v,l,hcs,uP,hwf,?_⟩
 rcases hx with⟨h1,h2⟩|⟨es,sp,h1,h2⟩
 ·exact .inl ⟨by simpa using h1,h2⟩
 ·exact .inr ⟨es,sp,h1,by simpa using h2⟩
end
end Go.Sx
namespace dz
def dst(x y:Nat):Nat:=(x-y)+(y-x)
end dz
set_option maxRecDepth 100000
namespace Go.Proofs
open Go Go.Sx
theorem qK{n A:Nat}{L:List (List Nat)}(hn:n≤16)(hl:L.length<33554432){k:Nat}(hk:k≤n):(af.st n L A k).length<2199023255551:=by
 have h2:=af.g6 n L A k
 have h3:2^k≤2^16:=Nat.pow_le_pow_right (by decide) (by omega)
 have h4:2^k*L.length≤2^16*L.length:=Nat.mul_le_mul_right _ h3
 omega
end Go.Proofs
set_option maxRecDepth 100000
namespace Go.Proofs
open Go Go.Sx
theorem rQ{B:Hp}{v1 v2:Value}{a b:List Nat}(h1:Words B v1 a)(h2:Words B v2 b)(bR:a.length<2^62):Rd Tryz.prog 222 #[v1,v2] B (· =.bool (decide (a=b))):=by
 intro g
 refine n4 (R:=cx _) ?_
 unfold L222
 refine h1.1.bQ (h2.1.bQ ?_)
 simp only[bP]
 refine aa.lS (Br.dec (fun h=>?_) (fun h=>?_))
 ·exact e7.mk (.refl _) (by rw[decide_eq_false (fun e=>h (by rw[e]))])
 ·refine h1.1.bQ ?_
  simp only[bP]
  have hlen:a.length=b.length:=by omega
  refine⟨fun vs H=>H=B∧∃j:Nat,vs=[.int .i64 (j:Int)]∧j≤a.length∧∀i,i<j→a[i]? =b[i]?,fun vs _=>a.length-dD vs 0,JE.mk ⟨rfl,0,rfl,by omega,by omega⟩,?_⟩
  rintro w H ⟨rfl,j,hv,hj,an⟩ gs
  simp only[List.cons.injEq,and_true]at hv
  subst hv
  refine aa.jA (Br.dec (fun hlt=>?_) (fun hlt=>?_))
  ·have ga:a[j]? =some a[j]:=List.getElem?_eq_getElem hlt
   have gb:b[j]? =some b[j]:=List.getElem?_eq_getElem (by omega)
   refine h1.1.ld (eP ga) (fun _ h=>h) ?_
   refine h2.1.ld (eP gb) (fun _ h=>h) ?_
   refine aa.lS (Br.dec (fun hne=>?_) (fun hne=>?_))
   ·exact e7.mk (.refl _) (by rw[decide_eq_false];rintro rfl;exact hne rfl)
   ·refine aa.cE (b:=1) (by simp[aK];omega) ?_
    refine aS.mk ⟨rfl,j+1,rfl,by omega,fun i hi=>?_⟩ (by simp[dD];omega)
    by_cases e:i=j
    ·subst e;rw[ga,gb];simp;omega
    ·exact an i (by omega)
  ·refine e7.mk (.refl _) ?_
   rw[decide_eq_true]
   apply List.ext_getElem? 
   intro i
   by_cases hi:i<a.length
   ·exact an i (by omega)
   ·rw[List.getElem?_eq_none (by omega),List.getElem?_eq_none (by omega)]
theorem q7{B:Hp}{v:Value}{n u A:Nat}{L:List (List Nat)}(ht:bN B v (L.map fun ws=>⟨n,ws⟩))(hf:∀ws∈L,af.dI n ws)(hne:L≠[])(bR:L.length<4398046511104)(hA:A<2^n)(hu:u<n)(E3:A.testBit u=false):
  Rd Tryz.prog 157 #[v,.int .u64 (A:Int),.int .i64 (u:Int)] B (· =.tuple #[.int .i64 ((af.lvl n L A u:Nat):Int),.int .i64 0]):=by
 obtain⟨w0,vL⟩:∃w0,L[0]? =some w0:=⟨_,List.getElem?_eq_getElem (List.length_pos_iff.2 hne)⟩
 have eT:n≤16:=(hf w0 (List.mem_of_getElem? vL)).nf
 have E4:A<65536:=Nat.lt_of_lt_of_le hA (Nat.pow_le_pow_right (n:=2) (by decide) eT)
 intro g
 refine om (R:=cx _) ?_
 unfold L157
 refine ai.rd .here (jl ht (by simp;omega)) ?_
 rintro v rfl
 rw[decide_eq_true (qT hf)]
 refine Un.not (Br.no ?_)
 intro J hJ
 refine ht.bQ ?_
 rw[List.length_map]
 have hpos:0<L.length:=List.length_pos_iff.2 hne
 refine aa.qy (b:=0) (Br.rR hpos ?_)
 refine ht.uH (i:=0) (t:=⟨n,w0⟩) (by rw[List.getElem?_map,vL];rfl) (fun _ h=>h) ?_
 refine JE.mk (hJ _ _ fun gs=>?_)
 simp only
 refine aa.lss (cw.or (decide (n≤u)) (fun _=>?_) rfl fun gs=>?_)
 ·exact aa.um ⟨trivial,rfl⟩
 rw[show(decide ((u:Int)<0)||decide (n≤u))=false by simp;omega]
 refine cw.or (decide (A>>>n≠0)) (fun _=>?_) rfl fun gs=>?_
 ·refine aa.eL (by simp[aK];omega) ?_
  exact aa.lS (b:=0) ⟨trivial,rfl⟩
 rw[show(false||decide (A>>>n≠0))=false by rw[Nat.shiftRight_eq_div_pow,Nat.div_eq_of_lt hA];rfl]
 refine Br.no ?_
 have xd:∀k,A>>>k<18446744073709551616:=fun k=>Nat.lt_of_le_of_lt (Nat.shiftRight_le _ _) (by omega)
 refine aa.eL (by simp[aK];omega) (aa.gO (b:=1) (by simpa[aK]using xd u) (by decide) (aa.fy (b:=1) ?_))
 refine Br.vj (by rw[af.lK,E3];simp) ?_
 refine ai.fn .here (pA ht rfl hf (by omega)) ?_
 rintro r H ⟨b,es,ck,m,N,rfl,rfl,hE,hm⟩
 have hbound:∀k,k≤n→∀m:List (List UInt8×List Nat),(m.map Prod.snd).Nodup→(∀x,x∈m.map Prod.snd↔x∈af.st n L A k)→m.length<4611686018427387904:=by
  intro k hk m pJ hmem
  have h1:=(af.eo pJ (af.eJ n L A k) hmem).length_eq
  have h2:=af.g6 n L A k
  have h3:2^k≤2^16:=Nat.pow_le_pow_right (by decide) (by omega)
  have h4:2^k*L.length≤2^16*L.length:=Nat.mul_le_mul_right _ h3
  rw[List.length_map]at h1
  omega
 refine⟨fun vs H=>∃(k:Nat) (b:Nat) (es:Array MapEntry) (ck:Nat) (m:List (List UInt8×List Nat)) (N:Hp),vs=[.map (some b),.int .i64 (k:Int)]∧k≤n∧H=(b,.map es ck)::(N++B)∧cv n (N++B) es ck m∧∀x,x∈m.map Prod.snd↔x∈af.st n L A k,
  fun vs _=>n-dD vs 1,JE.mk ⟨0,b,es,ck,m,N,rfl,by omega,rfl,hE,fun x=>by rw[hm];exact af.gg.symm⟩,?_⟩
 clear hm hE
 rintro qp o7 H ⟨k,b,es,ck,m,N,hv,hk,rfl,hE,hm⟩ gs
 simp only[List.cons.injEq,and_true]at hv
 obtain⟨rfl,rfl⟩:=hv
 have pP:=hE.mono (B':=(b,Obj.map es ck)::(N++B)) zS
 refine aa.jA (Br.dec (fun hlt=>?_) (fun hlt=>?_))
 ·intro J hJ
  refine aa.eL (by simp[aK];omega) (aa.gO (b:=1) (by simpa[aK]using xd k) (by decide) (aa.fy (b:=1) ?_))
  refine Br.dec (fun h=>?_) (fun h=>?_)
  ·have hb:=(af.lK A k).1 h
   refine ai.fn .here (mL (.head _) pP hlt (hbound k hk m hE.nodup hm)) ?_
   rintro r H ⟨b',es',ea,m',N',rfl,rfl,jK,hm'⟩
   refine Ext.mk rfl (Ext.mk rfl (JE.mk (hJ _ _ fun gs=>?_)))
   refine aa.cE (b:=1) (by simp[aK];omega) ?_
   refine aS.mk ⟨k+1,b',es',ea,m',N'++(b,.map es ck)::N,rfl,by omega,by rw[List.append_assoc];rfl,by rw[List.append_assoc];exact jK,fun x=>?_⟩ (by simp[dD];omega)
   rw[hm',af.st,if_pos hb,af.de]
   constructor
   ·rintro⟨t,h1,h2⟩;exact⟨t,(hm t).1 h1,h2⟩
   ·rintro⟨t,h1,h2⟩;exact⟨t,(hm t).2 h1,h2⟩
  ·have hb:A.testBit k=false:=by cases hh:A.testBit k;rfl;exact absurd ((af.lK A k).2 hh) h
   refine JE.mk (hJ _ _ fun gs=>?_)
   refine aa.cE (b:=1) (by simp[aK];omega) ?_
   refine aS.mk ⟨k+1,b,es,ck,m,N,rfl,by omega,rfl,hE,fun x=>?_⟩ (by simp[dD];omega)
   rw[hm,af.st,hb];simp
 ·have:k=n:=by omega
  subst this
  refine ai.fn .here (mL (.head _) pP hu (hbound k hk m hE.nodup hm)) ?_
  rintro r H ⟨b',es',ea,m',N',rfl,rfl,jK,hm'⟩
  refine Ext.mk rfl (Ext.mk rfl ?_)
  refine e7.mk ?_ ?_
  ·exact .skip (.fE (.skip .right))
  ·have:=af.gf (n:=k) (v:=u) (af.eo hE.nodup (af.eJ k L A k) hm)
   unfold af.lvl;rw[←this];rfl
theorem jh{B:Hp}{v:Value}{t:Tb}(ht:mX B v t):Rd Tryz.prog 156 #[v] B (· =.tuple (if TF t then#[.int .u64 ((af.fQ t.n.toNat t.ws:Nat):Int),.int .i64 0]else#[.int .u64 0,.int .i64 5])):=by
 obtain⟨tn,ws⟩:=t
 obtain⟨s,rfl,hw⟩:=ht
 simp only at hw⊢
 intro g
 refine oo (R:=cx _) ?_
 unfold L156
 intro b1 _
 refine aO.whole (r:=[.int .i64 tn,s]) (by exact .head _) rfl ?_
 refine eY fun b2=>?_
 refine ai.rd .here (jL (t:=⟨tn,ws⟩) (by exact .head _) (hw.mono zS)) ?_
 rintro v rfl
 refine Un.not ?_
 by_cases hT:TF ⟨tn,ws⟩
 case neg=>
  rw[decide_eq_false hT,if_neg hT]
  exact Br.yes (e7.mk (by repeat (first|exact aM.refl _|apply aM.cons|apply aM.skip|apply aM.mh|apply aM.fE)) rfl)
 rw[decide_eq_true hT,if_pos hT]
 refine Br.no ?_
 obtain⟨n,rfl⟩:∃n:Nat,tn=n:=⟨tn.toNat,by have:=hT.1;simp only at this;omega⟩
 have hf:af.dI n ws:=by have:=hT.2;simpa using this
 refine ae.mk (Ld.mk zM rfl ?_)
 refine⟨fun vs H=>∃(k:Nat) (N:Hp),vs=[.int .u64 ((af.dS n ws k:Nat):Int),.int .i64 (k:Int)]∧k≤n∧H=(b1,.cells (Value.cells (.agg #[.int .i64 (n:Int),s])) 57 (0,0))::(N++B),
  fun vs _=>n-dD vs 1,JE.of .tail ⟨0,[],rfl,by omega,rfl⟩,?_⟩
 rintro nj kB H ⟨k,N,hv,hk,rfl⟩ gs
 simp only[List.cons.injEq,and_true]at hv
 obtain⟨rfl,rfl⟩:=hv
 have eT:=hf.nf
 have uP:=af.eI n ws k
 have El:af.dS n ws k<65536:=Nat.lt_of_lt_of_le uP (Nat.pow_le_pow_right (n:=2) (by decide) (by omega:k≤16))
 refine aa.jA (Br.dec (fun hlt=>?_) (fun hlt=>?_))
 ·intro J hJ
  refine DR.self ?_
  refine aO.whole (r:=[.int .i64 (n:Int),s]) (by exact .head _) rfl (aO.whole (r:=[.int .i64 (n:Int),s]) (by exact .head _) rfl ?_)
  refine ai.px (B:=N++B) (.cons .here) (lD (v:=.agg (List.toArray [.int .i64 (n:Int),s])) ⟨s,rfl,hw.mono zS⟩ hf hlt) ?_
  rintro v N1 ⟨s1,rfl,lp⟩
  refine⟨.cons .right,sD.mk rfl ?_⟩
  refine ai.px (B:=N1++(N++B)) (.cons .here) (lD (v:=.agg (List.toArray [.int .i64 (n:Int),s])) ⟨s,rfl,hw.mono zS⟩ hf hlt) ?_
  rintro v N2 ⟨s2,rfl,uM⟩
  refine⟨.cons (.fE .right),sD.mk rfl ?_⟩
  refine ai.rd (B:=N2++(N1++(N++B))) (.cons .here) (rQ (lp.mono zS) uM (by have:=jb (af.c4 (v:=k) (ws:=ws) (b:=false) hf.nf);simp only;omega)) ?_
  rintro v rfl
  refine⟨.cons (.fE .right),Un.not ?_⟩
  have cJ:JE J [.int .u64 ((af.dS n ws (k+1):Nat):Int)] ((b1,.cells (Value.cells (.agg #[.int .i64 (n:Int),s])) 57 (0,0))::(N2++(N1++(N++B)))):=by
   refine JE.mk (hJ _ _ fun gs=>?_)
   refine aa.cE (b:=1) (by simp[aK];omega) ?_
   exact aS.mk ⟨k+1,N2++(N1++N),rfl,by omega,by rw[List.append_assoc,List.append_assoc]⟩ (by simp[dD];omega)
  rw[af.dS]at cJ
  by_cases hd:af.dep n ws k=true
  ·rw[if_pos hd]at cJ
   have:af.dy n ws k false≠af.dy n ws k true:=by simpa[af.dep]using hd
   rw[decide_eq_false this]
   refine Br.yes ?_
   refine aa.nt (a:=1) ?_
   have h2:2^k<65536:=Nat.lt_of_lt_of_le (Nat.pow_lt_pow_right (n:=16) (by decide) (by omega)) (by decide)
   rw[Nat.one_shiftLeft,Nat.mod_eq_of_lt (by omega)]
   exact aa.qS (by simp[aK];omega) (by simp[aK];omega) cJ
  ·rw[if_neg hd]at cJ
   have:af.dy n ws k false=af.dy n ws k true:=by simpa[af.dep]using hd
   rw[decide_eq_true this]
   exact Br.no cJ
 ·have:k=n:=by omega
  subst this
  refine e7.mk (.skip .right) ?_
  simp[af.fQ]
theorem qQ{B:Hp}{v:Value}{ts:List Tb}(ht:bN B v ts)(bR:ts.length<4398046511104):Px Tryz.prog 155 #[v] B (fun r _=>∃s,r=.tuple #[s,.int .i64 (if cL ts then 0 else 5)]):=by
 intro g
 refine oq (R:=cx _) ?_
 unfold L155
 refine ai.rd .here (jl ht (by omega)) ?_
 rintro v rfl
 refine Un.not ?_
 by_cases hO:cL ts
 case neg=>rw[decide_eq_false hO,if_neg hO];exact Br.yes (iy.mk (.refl _) ⟨_,rfl⟩)
 rw[decide_eq_true hO,if_pos hO]
 refine Br.no (ht.bQ (aa.fy (b:=0) (Br.dec (fun h0=>iy.mk (.refl _) ⟨_,rfl⟩) (fun h0=>?_))))
 obtain⟨n,L,eT,rfl,hne,hf⟩:=oK hO (by intro e;rw[e]at h0;exact h0 rfl)
 rw[List.length_map]at bR
 obtain⟨w0,vL⟩:∃w0,L[0]? =some w0:=⟨_,List.getElem?_eq_getElem (List.length_pos_iff.2 hne)⟩
 refine ht.uH (i:=0) (t:=⟨n,w0⟩) (by rw[List.getElem?_map,vL];rfl) (fun _ h=>h) ?_
 simp only
 refine c8.ints (by omega) (by omega) fun bw=>?_
 refine ht.bQ ?_
 refine⟨fun vs H=>∃(k:Nat) (l:List Nat),vs=[.int .i64 (k:Int)]∧k≤L.length∧H=(bw,.cells (aC .u64 (iw l)) 50 (0,0))::B∧l.length=n∧∀w∈l,w<18446744073709551616,
  fun vs _=>L.length-dD vs 0,JE.mk ⟨0,List.replicate n 0,rfl,by omega,by simp[iw],by simp,fun w hw=>by rw[List.eq_of_mem_replicate hw];decide⟩,?_⟩
 rintro w H ⟨k,l,hv,hk,rfl,hl,tW⟩ gs
 simp only[List.cons.injEq,and_true]at hv
 subst hv
 rw[List.length_map]
 refine aa.jA (Br.dec (fun hlt=>?_) (fun hlt=>?_))
 ·have hg:(L.map fun ws=>(⟨n,ws⟩:Tb))[k]? =some ⟨n,L[k]⟩:=by rw[List.getElem?_map,List.getElem?_eq_getElem hlt];rfl
  have gI:=hf L[k] (List.getElem_mem hlt)
  refine ht.ld hg zS fun s hw=>?_
  intro b2 _
  refine St.whole (r:=[.int .i64 (n:Int),s]) (by exact .head _) rfl rfl ?_ ?_
  ·have:=aN hw;simpa[Value.oneCell']using this
  refine aO.whole (r:=[.int .i64 (n:Int),s]) (by exact .head _) rfl ?_
  refine ai.rd (B:=B) (.cons (.cons .here)) (jh (v:=.agg (List.toArray [.int .i64 (n:Int),s])) (t:=⟨n,L[k]⟩) ⟨s,rfl,hw⟩) ?_
  rintro v rfl
  rw[if_pos (show TF ⟨(n:Int),L[k]⟩from⟨by simp,by simpa using gI⟩)]
  refine Ext.mk rfl (Ext.mk rfl (aB.mk ?_))
  simp only[Int.toNat_natCast]
  have wZ:af.fQ n L[k]<65536:=Nat.lt_of_lt_of_le (af.eI n L[k] n) (Nat.pow_le_pow_right (n:=2) (by decide) eT)
  refine⟨fun vs H=>∃(j:Nat) (l:List Nat),vs=[.int .i64 (j:Int)]∧j≤n∧H=(bw,.cells (aC .u64 (iw l)) 50 (0,0))::B∧l.length=n∧∀w∈l,w<18446744073709551616,
   fun vs _=>n-dD vs 0,JE.of .tail ⟨0,l,rfl,by omega,rfl,hl,tW⟩,?_⟩
  rintro w H ⟨j,l,hv,hj,rfl,hl,tW⟩ gs
  simp only[List.cons.injEq,and_true]at hv
  subst hv
  refine aa.jA (Br.dec (fun tY=>?_) (fun tY=>?_))
  ·intro J hJ
   have cJ:∀l:List Nat,l.length=n→(∀w∈l,w<18446744073709551616)→JE J [] ((bw,.cells (aC .u64 (iw l)) 50 (0,0))::B):=fun l hl tW=>by
    refine JE.mk (hJ _ fun gs=>?_)
    refine aa.cE (b:=1) (by simp[aK];omega) ?_
    exact aS.mk ⟨j+1,l,rfl,by omega,rfl,hl,tW⟩ (by simp[dD];omega)
   have hsh:af.fQ n L[k]>>>j<65536:=Nat.lt_of_le_of_lt (Nat.shiftRight_le _ _) wZ
   refine aa.eL (by simp[aK];omega) (aa.gO (b:=1) (by simp[aK];omega) (by decide) (aa.fy (b:=1) ?_))
   refine Br.dec (fun h=>?_) (fun h=>cJ l hl tW)
   refine DR.self ?_
   have AP:l[j]? =some l[j]:=List.getElem?_eq_getElem (by omega)
   have CK:=tW _ (List.getElem_mem (show j<l.length by omega))
   refine ak.nat tY ?_
   refine Ld.mk (v:=.int .u64 (l[j]:Int)) (by exact .head _) (by simp[aC,iw,AP]) ?_
   refine aa.nt (a:=1) ?_
   have h2:2^j<65536:=Nat.lt_of_lt_of_le (Nat.pow_lt_pow_right (n:=16) (by decide) (by omega)) (by decide)
   rw[Nat.one_shiftLeft,Nat.mod_eq_of_lt (by omega)]
   refine aa.oV (by simp[aK];omega) (by simp[aK];omega) ?_
   have h3:=fm (af.fQ n L[k]) (2^j)
   refine aa.qS (by simp only[aK];exact CK) (by simp only[aK];omega) ?_
   refine ak.nat tY ?_
   refine St.ints (l:=iw l) (by exact .head _) (by simp;omega) ?_
   have e:(iw l).set j ((l[j]|||eZ (af.fQ n L[k]) (2^j):Nat):Int)=iw (l.set j (l[j]|||eZ (af.fQ n L[k]) (2^j))):=by simp[iw,List.map_set]
   rw[e]
   refine cJ _ (by simp[hl]) fun w hw=>?_
   rcases List.mem_or_eq_of_mem_set hw with hw|rfl
   ·exact tW w hw
   ·exact Nat.or_lt_two_pow (n:=64) CK (by omega)
  ·refine aa.cE (b:=1) (by simp[aK];omega) ?_
   exact aS.mk ⟨k+1,l,rfl,by omega,rfl,hl,tW⟩ (by simp[dD];omega)
 ·exact iy.mk (by repeat (first|exact ay.refl _|apply ay.cons|apply ay.app)) ⟨_,rfl⟩
end Go.Proofs
namespace af
open Go.Sx
def bH:List Nat→Nat
 | []=>0
 |x::r=>r.foldl min x
theorem gL:∀(r:List Nat) (x:Nat),r.foldl min x≤x∧∀y∈r,r.foldl min x≤y
 | [],x=>⟨Nat.le_refl _,by simp⟩
 |z::r,x=>by
  obtain⟨h1,h2⟩:=gL r (min x z)
  refine⟨by rw[List.foldl_cons];omega,fun y hy=>?_⟩
  rw[List.foldl_cons]
  rcases List.mem_cons.1 hy with rfl|hy
  ·omega
  ·exact h2 y hy
theorem fH:∀(r:List Nat) (x:Nat),r.foldl min x=x∨r.foldl min x∈r
 | [],x=>.inl rfl
 |z::r,x=>by
  rw[List.foldl_cons]
  rcases fH r (min x z)with h|h
  ·rw[h]
   rcases Nat.le_total x z with h'|h'
   ·left;omega
   ·right;rw[Nat.min_eq_right h'];simp
  ·right;exact List.mem_cons_of_mem _ h
theorem jx{l:List Nat}{y:Nat}(h:y∈l):bH l≤y:=by
 cases l with
 |nil=>simp at h
 |cons x r=>
  obtain⟨h1,h2⟩:=gL r x
  rcases List.mem_cons.1 h with rfl|h
  ·exact h1
  ·exact h2 y h
theorem dc{l:List Nat}(h:l≠[]):bH l∈l:=by
 cases l with
 |nil=>exact absurd rfl h
 |cons x r=>
  rcases fH r x with h|h
  ·show r.foldl min x∈_;rw[h];simp
  ·exact List.mem_cons_of_mem _ h
theorem mA{l:List Nat}{m:Nat}(h1:m∈l)(h2:∀y∈l,m≤y):bH l=m:=
 Nat.le_antisymm (jx h1) (h2 _ (dc (by intro e;rw[e]at h1;simp at h1)))
theorem nw(l:List Nat)(x:Nat):bH (l++[x])=if l=[]then x else min (bH l) x:=by
 cases l with
 |nil=>rfl
 |cons y r=>simp[bH,List.foldl_append]
def aR(n a:Nat):List Nat:=(List.range n).filter fun v=> !a.testBit v
def has(n a:Nat):List Nat:=(List.range n).filter fun v=>a.testBit v
theorem bI{n a v:Nat}:v∈aR n a↔v<n∧a.testBit v=false:=by simp[aR]
theorem cA{n a v:Nat}:v∈has n a↔v<n∧a.testBit v=true:=by simp[has]
theorem dG{α:Type}(p q:α→Bool)(x:α):∀(l:List α),l.Nodup→x∈l→p x=true→q x=false→(∀y∈l,y≠x→q y=p y)→(l.filter q).length+1=(l.filter p).length
 | [],_,h,_,_,_=>by simp at h
 |y::l,nd,h,hp,hq,an=>by
  rw[List.nodup_cons]at nd
  by_cases e:y=x
  ·subst e
   have hsame:l.filter q=l.filter p:=by
    apply List.filter_congr
    intro z hz
    exact an z (by simp[hz]) (fun e=>nd.1 (e▸hz))
   rw[List.filter_cons,List.filter_cons,hp,hq,hsame];simp
  ·have Ec:x∈l:=by rcases List.mem_cons.1 h with h|h;exact absurd h.symm e;exact h
   have ih:=dG p q x l nd.2 Ec hp hq fun z hz hne=>an z (by simp[hz]) hne
   have hy:=an y (by simp) e
   rw[List.filter_cons,List.filter_cons,hy]
   cases p y
   ·simpa using ih
   ·simp only[if_true,List.length_cons];omega
theorem gA{a u v:Nat}(h:v≠u):(ah a u true).testBit v=a.testBit v:=by rw[ag,if_neg h]
theorem cP{n a v:Nat}(h:v∈aR n a):(aR n (ah a v true)).length+1=(aR n a).length:=by
 obtain⟨h1,h2⟩:=bI.1 h
 refine dG _ _ v (List.range n) List.nodup_range (List.mem_range.2 h1) (by simp[h2]) (by simp[ag]) fun y hy hne=>?_
 rw[gA hne]
theorem lB{n a v:Nat}(h:v∈has n a):(has n (ah a v false)).length+1=(has n a).length:=by
 obtain⟨h1,h2⟩:=cA.1 h
 refine dG _ _ v (List.range n) List.nodup_range (List.mem_range.2 h1) (by simp[h2]) (by simp[ag]) fun y hy hne=>?_
 rw[ag,if_neg hne]
def rY(n:Nat)(c:Nat→Nat→Nat):Nat→Nat→Nat
 |0,_=>0
 |f+1,a=>bH ((aR n a).map fun v=>c a v+rY n c f (ah a v true))
def par(n:Nat)(c:Nat→Nat→Nat):Nat→Nat→Nat
 |0,_=>0
 |f+1,s=>bH ((has n s).map fun v=>c (ah s v false) v+par n c f (ah s v false))
theorem mU{n:Nat}{c:Nat→Nat→Nat}:∀(f:Nat) (a:Nat),(aR n a).length≤f→rY n c (f+1) a=rY n c f a
 |0,a,h=>by
  have:aR n a=[]:=List.length_eq_zero_iff.1 (by omega)
  simp[rY,this,bH]
 |f+1,a,h=>by
  rw[rY,rY]
  congr 1
  apply List.map_congr_left
  intro v hv
  rw[mU f _ (by have:=cP hv;omega)]
theorem mi{n:Nat}{c:Nat→Nat→Nat}:∀(f:Nat) (a:Nat),(has n a).length≤f→par n c (f+1) a=par n c f a
 |0,a,h=>by
  have:has n a=[]:=List.length_eq_zero_iff.1 (by omega)
  simp[par,this,bH]
 |f+1,a,h=>by
  rw[par,par]
  congr 1
  apply List.map_congr_left
  intro v hv
  rw[mi f _ (by have:=lB hv;omega)]
theorem sU(n a:Nat):(aR n a).length≤n:=by have:=List.length_filter_le (fun v=> !a.testBit v) (List.range n);simpa[aR]using this
theorem u4(n a:Nat):(has n a).length≤n:=by have:=List.length_filter_le (fun v=>a.testBit v) (List.range n);simpa[has]using this
def B(n:Nat)(c:Nat→Nat→Nat)(a:Nat):Nat:=rY n c n a
def W(n:Nat)(c:Nat→Nat→Nat)(s:Nat):Nat:=par n c n s
theorem oz(n:Nat)(c:Nat→Nat→Nat)(a:Nat):B n c a=bH ((aR n a).map fun v=>c a v+B n c (ah a v true)):=by
 unfold B
 rw[←mU n a (sU n a)]
 rfl
theorem nR(n:Nat)(c:Nat→Nat→Nat)(s:Nat):W n c s=bH ((has n s).map fun v=>c (ah s v false) v+W n c (ah s v false)):=by
 unfold W
 rw[←mi n s (u4 n s)]
 rfl
theorem B9{n:Nat}{c:Nat→Nat→Nat}{a v:Nat}(hv:v∈aR n a):B n c a≤c a v+B n c (ah a v true):=by
 rw[oz n c a];exact jx (List.mem_map.2 ⟨v,hv,rfl⟩)
theorem yL{n:Nat}{c:Nat→Nat→Nat}{a:Nat}(h:aR n a≠[]):∃v∈aR n a,B n c a=c a v+B n c (ah a v true):=by
 have:=dc (l:=(aR n a).map fun v=>c a v+B n c (ah a v true)) (by simpa using h)
 rw[←oz]at this
 obtain⟨v,hv,e⟩:=List.mem_map.1 this
 exact⟨v,hv,e.symm⟩
theorem yK{n:Nat}{c:Nat→Nat→Nat}{a:Nat}(h:aR n a=[]):B n c a=0:=by rw[oz,h];rfl
theorem tB{n:Nat}{c:Nat→Nat→Nat}{s v:Nat}(hv:v∈has n s):W n c s≤c (ah s v false) v+W n c (ah s v false):=by
 rw[nR n c s];exact jx (List.mem_map.2 ⟨v,hv,rfl⟩)
theorem vx{n:Nat}{c:Nat→Nat→Nat}{s:Nat}(h:has n s≠[]):∃v∈has n s,W n c s=c (ah s v false) v+W n c (ah s v false):=by
 have:=dc (l:=(has n s).map fun v=>c (ah s v false) v+W n c (ah s v false)) (by simpa using h)
 rw[←nR]at this
 obtain⟨v,hv,e⟩:=List.mem_map.1 this
 exact⟨v,hv,e.symm⟩
theorem mW{n:Nat}{c:Nat→Nat→Nat}{s:Nat}(h:has n s=[]):W n c s=0:=by rw[nR,h];rfl
structure Used(n:Nat)(c:Nat→Nat→Nat)(U:Nat):Prop where
 zero:∀a v,v<n→a.testBit v=false→U.testBit v=false→c a v=0
 mask:∀a v,v<n→a.testBit v=false→c a v=c (a&&&U) v
theorem eb{a U v:Nat}{b:Bool}:(ah a v b) &&&U=if U.testBit v then ah (a&&&U) v b else a&&&U:=by
 apply Nat.eq_of_testBit_eq;intro k
 by_cases hU:U.testBit v=true
 ·rw[if_pos hU,Nat.testBit_and,ag,ag,Nat.testBit_and]
  by_cases e:k=v
  ·subst e;simp[hU]
  ·simp[e]
 ·rw[if_neg hU,Nat.testBit_and,ag,Nat.testBit_and]
  by_cases e:k=v
  ·subst e;simp[hU]
  ·simp[e]
def bf(n U a:Nat):List Nat:=(aR n a).filter fun v=>U.testBit v
theorem bO{n U a v:Nat}:v∈bf n U a↔v<n∧a.testBit v=false∧U.testBit v=true:=by simp[bf,bI,and_assoc]
theorem dW(n U a:Nat):bf n U (a&&&U)=bf n U a:=by
 unfold bf aR
 rw[List.filter_filter,List.filter_filter]
 apply List.filter_congr
 intro v _
 rw[Nat.testBit_and]
 cases a.testBit v<;>cases U.testBit v<;>rfl
theorem ow{n U:Nat}{c:Nat→Nat→Nat}(hU:Used n c U):∀(d a:Nat),(aR n a).length=d→B n c a=bH ((bf n U a).map fun v=>c (a&&&U) v+B n c (ah a v true))∧∀a',(aR n a').length≤d→a'&&&U=a&&&U→B n c a'=B n c a:=by
 intro d
 induction d using Nat.strongRecOn with
 |_ d ih=>
  have key:∀a,(aR n a).length=d→B n c a=bH ((bf n U a).map fun v=>c (a&&&U) v+B n c (ah a v true)):=by
   intro a hd
   by_cases hm:aR n a=[]
   ·have h1:bf n U a=[]:=by unfold bf;rw[hm];rfl
    rw[h1,yK hm];rfl
   ·have hle:∀v∈bf n U a,B n c a≤c (a&&&U) v+B n c (ah a v true):=fun v hv=>by
     obtain⟨h1,h2,h3⟩:=bO.1 hv
     rw[←hU.mask a v h1 h2];exact B9 (bI.2 ⟨h1,h2⟩)
    obtain⟨v,hv,he⟩:=yL (c:=c) hm
    obtain⟨h1,h2⟩:=bI.1 hv
    by_cases hu:U.testBit v=true
    ·symm
     refine mA (List.mem_map.2 ⟨v,bO.2 ⟨h1,h2,hu⟩,by rw[←hU.mask a v h1 h2];exact he.symm⟩) fun y hy=>?_
     obtain⟨w,hw,rfl⟩:=List.mem_map.1 hy
     exact hle w hw
    ·have CC:U.testBit v=false:=by simpa using hu
     rw[hU.zero a v h1 h2 CC,Nat.zero_add]at he
     have hlt:(aR n (ah a v true)).length<d:=by have:=cP hv;omega
     have hand:ah a v true&&&U=a&&&U:=by rw[eb,if_neg hu]
     obtain⟨k1,k2⟩:=ih _ hlt (ah a v true) rfl
     have pK:bf n U (ah a v true)=bf n U a:=by rw[←dW,hand,dW]
     by_cases jG:bf n U a=[]
     ·rw[pK,jG]at k1
      rw[he,k1,jG];rfl
     ·symm
      rw[pK,hand]at k1
      have hmem:=dc (l:=(bf n U a).map fun w=>c (a&&&U) w+B n c (ah (ah a v true) w true)) (by simpa using jG)
      rw[←k1]at hmem
      obtain⟨w,hw,Ef⟩:=List.mem_map.1 hmem
      obtain⟨w1,w2,w3⟩:=bO.1 hw
      have Ee:w≠v:=fun e=>by rw[e]at w3;rw[CC]at w3;cases w3
      have uc:ah (ah a v true) w true=ah (ah a w true) v true:=by
       apply Nat.eq_of_testBit_eq;intro k
       rw[ag,ag,ag,ag]
       by_cases e1:k=w<;>by_cases e2:k=v<;>simp[e1,e2]
      have Ez:w∈aR n a:=bI.2 ⟨w1,w2⟩
      have hsub:B n c (ah (ah a v true) w true)=B n c (ah a w true):=by
       have uU:(aR n (ah a w true)).length<d:=by have:=cP Ez;omega
       refine(ih _ uU (ah a w true) rfl).2 _ ?_ ?_
       ·have Eg:v∈aR n (ah a w true):=bI.2 ⟨h1,by rw[ag,if_neg (Ne.symm Ee)];exact h2⟩
        have:=cP Eg
        rw[uc];omega
       ·rw[uc,eb,if_neg hu]
      have hval:c (a&&&U) w+B n c (ah a w true)=B n c a:=by rw[he,←Ef,hsub]
      refine mA (List.mem_map.2 ⟨w,hw,hval⟩) fun y hy=>?_
      obtain⟨z,hz,rfl⟩:=List.mem_map.1 hy
      exact hle z hz
  intro a hd
  refine⟨key a hd,fun a' CW hand=>?_⟩
  have pK:bf n U a'=bf n U a:=by rw[←dW,hand,dW]
  have h':B n c a'=bH ((bf n U a').map fun v=>c (a'&&&U) v+B n c (ah a' v true)):=by
   rcases Nat.lt_or_ge (aR n a').length d with h|h
   ·exact(ih _ h a' rfl).1
   ·exact key a' (by omega)
  rw[h',key a hd,pK,hand]
  congr 1
  apply List.map_congr_left
  intro v hv
  congr 1
  obtain⟨v1,v2,v3⟩:=bO.1 hv
  have hma:v∈aR n a:=bI.2 ⟨v1,v2⟩
  have AH:v∈aR n a':=by
   rw[←pK]at hv
   exact bI.2 ⟨v1,(bO.1 hv).2.1⟩
  have hlt:(aR n (ah a v true)).length<d:=by have:=cP hma;omega
  refine(ih _ hlt (ah a v true) rfl).2 _ ?_ ?_
  ·have:=cP AH;have:=cP hma;omega
  ·rw[eb,eb,hand]
theorem sg{n U:Nat}{c:Nat→Nat→Nat}(hU:Used n c U)(a:Nat):B n c (a&&&U)=B n c a:=by
 have e:(a&&&U) &&&U=a&&&U:=by rw[Nat.and_assoc,Nat.and_self]
 rcases Nat.le_total (aR n (a&&&U)).length (aR n a).length with h|h
 ·exact(ow hU _ a rfl).2 _ h e
 ·exact((ow hU _ (a&&&U) rfl).2 a h e.symm).symm
theorem yJ{n U:Nat}{c:Nat→Nat→Nat}(hU:Used n c U)(a:Nat):B n c a=bH ((bf n U a).map fun v=>c (a&&&U) v+B n c (ah (a&&&U) v true)):=by
 rw[(ow hU _ a rfl).1]
 congr 1
 apply List.map_congr_left
 intro v hv
 obtain⟨v1,v2,v3⟩:=bO.1 hv
 congr 1
 rw[←sg hU (ah a v true),eb,if_pos v3]
theorem vw{n U:Nat}{c:Nat→Nat→Nat}(hU:Used n c U):∀(d s:Nat),(has n s).length=d→W n c s=W n c (s&&&U):=by
 intro d
 induction d using Nat.strongRecOn with
 |_ d ih=>
  intro s hd
  by_cases hm:has n s=[]
  ·have h1:has n (s&&&U)=[]:=by
    unfold has at hm⊢
    rw[List.filter_eq_nil_iff]at hm⊢
    intro v hv
    have:=hm v hv
    rw[Nat.testBit_and];simp only[Bool.not_eq_true]at this;simp[this]
   rw[mW hm,mW h1]
  ·have xK:∀v,v∈has n s→(has n (ah s v false)).length<d:=fun v hv=>by have:=lB hv;omega
   have hfree:∀v,v∈has n s→c (ah s v false) v+W n c (ah s v false)=if U.testBit v then c (ah (s&&&U) v false) v+W n c (ah (s&&&U) v false)else W n c (s&&&U):=fun v hv=>by
    obtain⟨h1,h2⟩:=cA.1 hv
    have hb:(ah s v false).testBit v=false:=by rw[ag,if_pos rfl]
    rw[ih _ (xK v hv) _ rfl]
    have:=eb (a:=s) (U:=U) (v:=v) (b:=false)
    split
    ·rename_i hu
     rw[if_pos hu]at this
     rw[hU.mask _ v h1 hb,this]
    ·rename_i hu
     rw[if_neg hu]at this
     rw[hU.zero _ v h1 hb (by simpa using hu),this,Nat.zero_add]
   apply Nat.le_antisymm
   ·by_cases pK:has n (s&&&U)=[]
    ·rw[mW pK]
     obtain⟨v,hv⟩:=List.exists_mem_of_ne_nil _ hm
     obtain⟨h1,h2⟩:=cA.1 hv
     have hu:¬U.testBit v=true:=fun hu=>by
      have:v∈has n (s&&&U):=cA.2 ⟨h1,by rw[Nat.testBit_and,h2,hu];rfl⟩
      rw[pK]at this;simp at this
     have h3:=hfree v hv
     rw[if_neg hu,mW pK]at h3
     rw[←h3];exact tB hv
    ·obtain⟨v,hv,he⟩:=vx (c:=c) pK
     obtain⟨h1,h2⟩:=cA.1 hv
     rw[Nat.testBit_and,Bool.and_eq_true]at h2
     have hvs:v∈has n s:=cA.2 ⟨h1,h2.1⟩
     have h3:=hfree v hvs
     rw[if_pos h2.2]at h3
     rw[he,←h3];exact tB hvs
   ·obtain⟨v,hv,he⟩:=vx (c:=c) hm
    rw[he,hfree v hv]
    obtain⟨h1,h2⟩:=cA.1 hv
    split
    ·rename_i hu
     exact tB (cA.2 ⟨h1,by rw[Nat.testBit_and,h2,hu];rfl⟩)
    ·exact Nat.le_refl _
theorem ym{n U:Nat}{c:Nat→Nat→Nat}(hU:Used n c U)(s:Nat):W n c (s&&&U)=W n c s:=(vw hU _ s rfl).symm
def ord(n:Nat)(c:Nat→Nat→Nat):Nat→Nat→List Nat
 |0,_=>[]
 |f+1,a=>match(aR n a).find? fun v=>c a v+B n c (ah a v true)==B n c a with
  |some v=>v::ord n c f (ah a v true)
  |none=>[]
theorem mm{n:Nat}{c:Nat→Nat→Nat}{f a:Nat}(h:aR n a≠[]):∃v,v∈aR n a∧c a v+B n c (ah a v true)=B n c a∧(∀u∈aR n a,u<v→c a u+B n c (ah a u true)≠B n c a)∧ord n c (f+1) a=v::ord n c f (ah a v true):=by
 obtain⟨w,hw,he⟩:=yL (c:=c) h
 cases hf:(aR n a).find? fun v=>c a v+B n c (ah a v true)==B n c a with
 |none=>
  rw[List.find?_eq_none]at hf
  exact absurd (by simpa using he.symm) (hf w hw)
 |some v=>
  have h1:=List.find?_some hf
  refine⟨v,List.mem_of_find?_eq_some hf,by simpa using h1,fun u hu Gd=>?_,by rw[ord,hf]⟩
  rw[List.find?_eq_some_iff_append]at hf
  obtain⟨_,GC,bs,hab,hno⟩:=hf
  have hs:(aR n a).Pairwise (· < ·):=List.Pairwise.filter _ List.pairwise_lt_range
  rw[hab]at hs hu
  rcases List.mem_append.1 hu with hu|hu
  ·have:=hno u hu;simpa using this
  ·rw[List.pairwise_append]at hs
   have h2:=hs.2.1
   rw[List.pairwise_cons]at h2
   rcases List.mem_cons.1 hu with rfl|hu
   ·omega
   ·have:=h2.1 u hu;omega
end af
namespace af
open Go.Sx
theorem g7{x u v:Nat}{b c:Bool}(h:u≠v):ah (ah x u b) v c=ah (ah x v c) u b:=by
 apply Nat.eq_of_testBit_eq;intro k
 rw[ag,ag,ag,ag]
 by_cases e1:k=u<;>by_cases e2:k=v
 ·exact absurd (e1.symm.trans e2) h
 ·simp[e1,h]
 ·simp[e2,Ne.symm h]
 ·simp[e1,e2]
theorem tv{n u v:Nat}{ws:List Nat}{b:Bool}(hf:dI n ws)(hu:u<n)(hv:v<n)(h:dep n ws v=false):dep n (dy n ws u b) v=false:=by
 by_cases e:u=v
 ·subst e
  cases hd:dep n (dy n ws u b) u
  ·rfl
  ·obtain⟨x,hx,hne⟩:=(lG (c4 hf.nf) hu).1 hd
   rw[c7 hf hu (cO hx hu),c7 hf hu (cO hx hu)]at hne
   refine absurd ?_ hne
   congr 1
   apply Nat.eq_of_testBit_eq;intro k
   rw[ag,ag,ag,ag]
   by_cases e:k=u<;>simp[e]
 ·cases hd:dep n (dy n ws u b) v
  ·rfl
  ·obtain⟨x,hx,hne⟩:=(lG (c4 hf.nf) hv).1 hd
   rw[c7 hf hu (cO hx hv),c7 hf hu (cO hx hv),g7 (Ne.symm e),g7 (Ne.symm e)]at hne
   have:=(lG hf hv).2 ⟨ah x u b,cO hx hu,hne⟩
   rw[h]at this;cases this
theorem k9{n:Nat}{L:Fs}{A:Nat}(hL:∀t∈L,dI n t)(hn:n≤16){v:Nat}(hv:v<n)(h:∀t∈L,dep n t v=false):∀k,k≤n→∀t∈st n L A k,dep n t v=false
 |0,_,t,ht=>h t (gg.1 ht)
 |k+1,hk,t,ht=>by
  rw[st]at ht
  split at ht
  ·obtain⟨u,hu,b,rfl⟩:=de.1 ht
   exact tv (nr hL hn k u hu) (by omega) hv (k9 hL hn hv h k (by omega) u hu)
  ·exact k9 hL hn hv h k (by omega) t ht
def aq(n:Nat)(L:Fs):Nat:=L.foldl (fun u t=>u|||fQ n t) 0
theorem fD(n v:Nat):∀(L:Fs) (u:Nat),(L.foldl (fun u t=>u|||fQ n t) u).testBit v=(u.testBit v||L.any fun t=>(fQ n t).testBit v)
 | [],u=>by simp
 |t::L,u=>by rw[List.foldl_cons,fD n v L,Nat.testBit_or,List.any_cons,Bool.or_assoc]
theorem k6{n v:Nat}{L:Fs}:(aq n L).testBit v=L.any fun t=>(fQ n t).testBit v:=by
 unfold aq;rw[fD];simp
theorem jf{n v:Nat}{L:Fs}(hv:v<n)(h:(aq n L).testBit v=false):∀t∈L,dep n t v=false:=by
 rw[k6,List.any_eq_false]at h
 intro t ht
 have:=h t ht
 rw[fQ,cN]at this
 simpa[hv]using this
theorem mO(n:Nat):∀(L:Fs) (u:Nat),u<2^n→L.foldl (fun u t=>u|||fQ n t) u<2^n
 | [],u,h=>h
 |t::L,u,h=>mO n L _ (Nat.or_lt_two_pow h (eI n t n))
theorem gx(n:Nat)(L:Fs):aq n L<2^n:=mO n L 0 (Nat.two_pow_pos n)
theorem oH{n:Nat}{L:Fs}{A:Nat}(hL:∀t∈L,dI n t)(hn:n≤16):∀k,k≤n→∀x,x∈st n L A k↔x∈st n L (A&&&aq n L) k
 |0,_,x=>Iff.rfl
 |k+1,hk,x=>by
  have ih:=oH (A:=A) hL hn k (by omega)
  rw[st,st,Nat.testBit_and]
  cases hA:A.testBit k
  ·simpa using ih x
  ·cases hU:(aq n L).testBit k
   ·simp only[if_true,Bool.and_false,Bool.false_eq_true,if_false]
    rw[de,←ih x]
    have hd:=k9 (A:=A) hL hn (v:=k) (by omega) (jf (by omega) hU) k (by omega)
    have hf:=nr (A:=A) hL hn k
    constructor
    ·rintro⟨t,ht,b,rfl⟩
     rw[eV (hf t ht) (by omega) (hd t ht)];exact ht
    ·intro hx
     exact⟨x,hx,false,(eV (hf x hx) (by omega) (hd x hx)).symm⟩
   ·simp only[Bool.and_true,if_true]
    rw[de,de]
    constructor
    ·rintro⟨t,ht,h⟩;exact⟨t,(ih t).1 ht,h⟩
    ·rintro⟨t,ht,h⟩;exact⟨t,(ih t).2 ht,h⟩
theorem kX{n:Nat}{L:Fs}(hL:∀t∈L,dI n t)(hn:n≤16):Used n (lvl n L) (aq n L):=by
 refine⟨fun a v hv _ hU=>?_,fun a v hv _=>?_⟩
 ·unfold lvl nodes
  rw[List.length_eq_zero_iff,List.filter_eq_nil_iff]
  intro t ht
  rw[k9 hL hn hv (jf hv hU) n (Nat.le_refl _) t ht];simp
 ·exact gf (eo (eJ n L a n) (eJ n L _ n) (oH hL hn n (Nat.le_refl _)))
end af
set_option maxRecDepth 100000
namespace Go.Proofs
open Go Go.Sx
def kp(x:Nat×Nat):Value:=.agg (aC .i64 [(x.1:Int),(x.2:Int)])
def ki(x:Nat):Value:=.int .i64 (x:Int)
theorem hY(a b:Nat):Instr.sameNow (.int .i64) (ki a) (ki b)=some (decide (a=b)):=by
 simp only[Instr.sameNow,ki,if_true,Option.some.injEq]
 rw[Bool.eq_iff_iff];simp;omega
theorem oN(a:Nat):Instr.sameBits 10000 (ki a) (ki a)=true:=by simp[Instr.sameBits,ki]
theorem q9(a b:Nat×Nat):tI Tryz.prog 226 (kp a) (kp b) (decide (a=b)):=by
 have:=tI.array (P:=Tryz.prog) (t:=226) (e:=3) (q:=.i64) (n:=2) (by kernel_rfl) (by kernel_rfl) (by kernel_rfl) [(a.1:Int),(a.2:Int)] [(b.1:Int),(b.2:Int)] rfl rfl
 have e:decide ([(a.1:Int),(a.2:Int)]=[(b.1:Int),(b.2:Int)])=decide (a=b):=by
  rw[decide_eq_decide]
  obtain⟨a1,a2⟩:=a;obtain⟨b1,b2⟩:=b
  simp;omega
 rw[e]at this;exact this
theorem nA(a:Nat×Nat):kx Tryz.prog 226 (kp a):=kx.array (P:=Tryz.prog) (t:=226) (e:=3) (q:=.i64) (n:=2) (by kernel_rfl) (by kernel_rfl) (by kernel_rfl) _ rfl
theorem j6(n:Nat)(q:IntKind)(l:List Int):Instr.sameBits (n+1+1) (.agg (aC q l)) (.agg (aC q l))=true:=by
 simp only[Instr.sameBits,aC,beq_self_eq_true,Bool.true_and,List.all_eq_true]
 intro x hx
 obtain⟨a,b⟩:=x
 have h:=List.of_mem_zip hx
 have e:a=b:=by
  rw[List.zip_eq_zip_take_min]at hx
  obtain⟨i,hi,he⟩:=List.mem_iff_getElem.1 hx
  simp at he
  exact he.1.symm.trans he.2
 subst e
 have:=h.1
 simp only[List.toList_toArray,List.mem_map]at this
 obtain⟨y,_,rfl⟩:=this
 simp[Instr.sameBits]
theorem sY(a:Nat×Nat):Instr.sameBits 10000 (kp a) (kp a)=true:=j6 9998 _ _
abbrev tM(v:Value)(x:Nat):Prop:=v=.int .i64 (x:Int)
structure oY(n:Nat)(L:List (List Nat))(jN:Array MapEntry)(jQ:Nat)(ig:Array MapEntry)(ij:Nat):Prop where
 df:∃m,aU kp tM jN jQ m∧∀x∈m,x.2=af.lvl n L x.1.1 x.1.2
 Gz:∃m,aU ki tM ig ij m∧∀x∈m,x.2=af.B n (af.lvl n L) x.1
def dw(bp bl bd:Nat)(iZ:Value)(n:Nat)(L:List (List Nat))(U:Nat)(B H:Hp):Prop:=
 ∃jN jQ ig ij,H=(bp,.cells #[iZ,.int .i64 (n:Int),.int .i64 (U:Int),.map (some bl),.map (some bd)] 137 (0,0))::(bl,.map jN jQ)::(bd,.map ig ij)::B∧oY n L jN jQ ig ij
theorem my{κ:Type}[DecidableEq κ]{f:κ→Nat}{m:List (κ×Nat)}{k:κ}(h:∀x∈m,x.2=f x.1):∀x∈dV m k (f k),x.2=f x.1:=by
 intro x hx
 unfold dV at hx
 split at hx
 ·obtain⟨y,hy,rfl⟩:=List.mem_map.1 hx
  split
  ·rfl
  ·exact h y hy
 ·rcases List.mem_append.1 hx with hx|hx
  ·exact h x hx
  ·simp at hx;subst hx;rfl
theorem mB{κ:Type}[DecidableEq κ]{f:κ→Nat}{m:List (κ×Nat)}{k:κ}{x:Nat}(h:∀x∈m,x.2=f x.1)(hk:fq m k=some x):x=f k:=by
 unfold fq at hk
 obtain⟨y,hy,rfl⟩:=Option.map_eq_some_iff.1 hk
 have h1:=List.find?_some hy
 have h2:=h y (List.mem_of_find?_eq_some hy)
 simp only[decide_eq_true_eq]at h1
 rw[h2,h1]
structure gl(iZ:Value)(n:Nat)(L:List (List Nat))(B:Hp):Prop where
 tb:bN B iZ (gU n L)
 zm:∀ws∈L,af.dI n ws
 ne:L≠[]
 small:L.length<33554432
 wJ:n≤12
theorem jz{iZ:Value}{n:Nat}{L:List (List Nat)}{B:Hp}(h:gl iZ n L B)(a v:Nat):af.lvl n L a v<2199023255551:=by
 have h1:af.lvl n L a v≤(af.st n L a n).length:=List.length_filter_le _ _
 have h2:=qK (n:=n) (A:=a) (L:=L) (by have:=h.wJ;omega) h.small (Nat.le_refl n)
 omega
theorem ju{iZ:Value}{n:Nat}{L:List (List Nat)}{B:Hp}(h:gl iZ n L B){bp bl bd a v:Nat}{H:Hp}(hp:dw bp bl bd iZ n L (af.aq n L) B H)(ha:a<2^n)(hv:v<n)(A1:a.testBit v=false):
  Fc Tryz.prog 73 #[.pointer (some ⟨bp,0,none⟩),.int .i64 (a:Int),.int .i64 (v:Int)] H (fun r H'=>r=.int .i64 ((af.lvl n L a v:Nat):Int)∧dw bp bl bd iZ n L (af.aq n L) B H'):=by
 obtain⟨jN,jQ,ig,ij,rfl,hM⟩:=hp
 have hU:=af.gx n L
 have gH:=h.wJ
 have gV:2^n≤2^12:=Nat.pow_le_pow_right (by decide) gH
 have iN:=af.kX h.zm (by omega)
 have Gi:af.aq n L>>>v≤af.aq n L:=Nat.shiftRight_le _ _
 intro g
 refine qe (R:=cx _) ?_
 unfold L73
 refine Nil.ptr ?_
 refine ae.mk (Ld.mk zM rfl ?_)
 refine aa.eL (by simp[aK];omega) (aa.gO (b:=1) (by simp[aK];omega) (by decide) (aa.fy (b:=0) ?_))
 have th:af.aq n L>>>v&&&1=0↔(af.aq n L).testBit v=false:=by
  rw[af.cq,Nat.testBit_shiftRight,Nat.add_zero];cases (af.aq n L).testBit v<;>simp
 refine Br.dec (fun h0=>?_) (fun h0=>?_)
 ·refine cx.here ⟨?_,jN,jQ,ig,ij,rfl,hM⟩
  rw[iN.zero a v hv A1 (th.1 h0)];rfl
 have Gr:(af.aq n L).testBit v=true:=by cases hh:(af.aq n L).testBit v;exact absurd (th.2 hh) h0;rfl
 refine Nil.ptr ?_
 refine ae.mk (Ld.mk zM rfl ?_)
 refine aa.gO (by simp[aK];omega) (by simp[aK];omega) ?_
 have hlv:af.lvl n L a v=af.lvl n L (a&&&af.aq n L) v:=iN.mask a v hv A1
 have ug:(a&&&af.aq n L).testBit v=false:=by rw[Nat.testBit_and,A1];rfl
 have vY:a&&&af.aq n L<2^n:=Nat.lt_of_le_of_lt Nat.and_le_left ha
 rw[hlv]
 obtain⟨a',cC⟩:∃a',a'=a&&&af.aq n L:=⟨_,rfl⟩
 rw[←cC]at ug vY⊢
 refine Build.two (q:=.i64) (e:=3) (by kernel_rfl) (by kernel_rfl) (by kernel_rfl) ?_
 rw[show aC .i64 [(a':Int),(v:Int)]=List.toArray [.int .i64 (a':Int),.int .i64 (v:Int)]from rfl]
 intro sA _
 refine St.whole (r:=[.int .i64 (a':Int),.int .i64 (v:Int)]) (by exact .head _) rfl rfl (by simp[Value.oneCell']) ?_
 refine Nil.ptr ?_
 refine ae.mk (Ld.mk zM rfl ?_)
 refine aO.whole (r:=[.int .i64 (a':Int),.int .i64 (v:Int)]) (by exact .head _) rfl ?_
 obtain⟨⟨m1,zj,vR⟩,xL⟩:=hM
 have xh:∀J:List Value→Hp→Prop,(∀qp:Value,∀kq:Hp,(∀ve:Fr,cx (fun r H'=>r=.int .i64 ((af.lvl n L a' v:Nat):Int)∧dw bp bl bd iZ n L (af.aq n L) B H') (.returned qp) kq)→J [qp] kq)→
   ∀tu tw,oY n L tu tw ig ij→J [.int .i64 ((af.lvl n L a' v:Nat):Int)] ((bp,.cells #[iZ,.int .i64 (n:Int),.int .i64 ((af.aq n L:Nat):Int),.map (some bl),.map (some bd)] 137 (0,0))::(bl,.map tu tw)::(bd,.map ig ij)::B):=
  fun J hJ tu tw hM=>hJ _ _ fun gs=>cx.here ⟨rfl,tu,tw,ig,ij,rfl,hM⟩
 cases hg:fq m1 (a',v)with
 |some x=>
  have hx:=mB (f:=fun k=>af.lvl n L k.1 k.2) vR hg
  simp only at hx
  refine aU.AN (ke:=kp) (k:=(a',v)) q9 nA zj (by exact .tail _ (.tail _ (.head _))) hg fun y hy=>?_
  subst hy
  refine Ext.mk rfl (Ext.mk rfl ?_)
  intro J hJ
  refine Un.not (Br.no (JE.of .tail ?_))
  rw[hx]
  exact xh J hJ _ _ ⟨⟨m1,zj,vR⟩,xL⟩
 |none=>
  refine aU.wL (ke:=kp) (k:=(a',v)) q9 nA zj (by exact .tail _ (.tail _ (.head _))) hg ?_
  refine Ext.mk rfl (Ext.mk rfl ?_)
  intro J hJ
  refine Un.not (Br.yes ?_)
  refine DR.self ?_
  refine Nil.ptr ?_
  refine ae.mk (Ld.mk zM rfl ?_)
  refine⟨sA,0,.i64,0,rfl,rfl,by decide,by decide,?_⟩
  refine Ld.mk (v:=.int .i64 (a':Int)) (by exact .head _) rfl ?_
  refine bg.nat (by simp[aK];omega) ?_
  refine ai.rd (B:=B) (.cons (.cons (.cons (.cons .here)))) (q7 (n:=n) (L:=L) h.tb h.zm h.ne (by have:=h.small;omega) vY hv ug) ?_
  rintro r rfl
  refine⟨.refl _,Ext.mk rfl (Ext.mk rfl ?_)⟩
  refine DR.of (R:=(sA,.cells (List.toArray [.int .i64 (a':Int),.int .i64 (v:Int)]) 226 (0,0))::(bp,.cells #[iZ,.int .i64 (n:Int),.int .i64 ((af.aq n L:Nat):Int),.map (some bl),.map (some bd)] 137 (0,0))::[]) (.cons (.cons (fun g w h=>(Own.left (B:=_) (A:=[]) h)))) ?_
  refine Nil.ptr ?_
  refine ae.mk (Ld.mk zM rfl ?_)
  refine aO.whole (r:=[.int .i64 (a':Int),.int .i64 (v:Int)]) (by exact .head _) rfl ?_
  refine aU.z7 (ke:=kp) (vr:=tM) (b:=bl) (val:=.int .i64 ((af.lvl n L a' v:Nat):Int)) (k:=(a',v)) (x:=af.lvl n L a' v) q9 nA sY zj rfl fun es' ea jK=>⟨_,.tail (.tail (.head _)),?_⟩
  have rB:∀x∈dV m1 (a',v) (af.lvl n L a' v),x.2=af.lvl n L x.1.1 x.1.2:=my (f:=fun k:Nat×Nat=>af.lvl n L k.1 k.2) (k:=(a',v)) vR
  have C9:oY n L es' ea ig ij:=⟨⟨dV m1 (a',v) (af.lvl n L a' v),jK,rB⟩,xL⟩
  exact JE.of .tail (xh J hJ es' ea C9)
end Go.Proofs
namespace Go.Sx
open Go
theorem jt(n:Int):BitVec.ofInt 64 (IntKind.i64.wrap n)=BitVec.ofInt 64 n:=by
 apply BitVec.eq_of_toNat_eq
 simp only[BitVec.toNat_ofInt,IntKind.wrap,IntKind.bits,IntKind.signed,Bool.true_and,decide_eq_true_eq]
 congr 1
 split<;>omega
theorem wrap_toInt(x:BitVec 64):IntKind.i64.wrap (x.toNat:Int)=x.toInt:=by
 rw[BitVec.toInt_eq_toNat_cond]
 have:=x.isLt
 have e:(2:Int)^(64-1)=9223372036854775808:=rfl
 simp only[IntKind.wrap,IntKind.bits,IntKind.signed,Bool.true_and,decide_eq_true_eq,e]
 split<;>split<;>omega
theorem fZ(op:BinOp)(x y:Int):BitVec.ofInt 64 (bits op .i64 x y)=(match op with
  | .and=>BitVec.ofInt 64 x&&&BitVec.ofInt 64 y
  | .or=>BitVec.ofInt 64 x|||BitVec.ofInt 64 y
  | .xor=>BitVec.ofInt 64 x^^^BitVec.ofInt 64 y
  |_=>BitVec.ofInt 64 x&&& ~~~BitVec.ofInt 64 y):=by
 unfold bits
 simp only[jt]
 rw[BitVec.ofInt_natCast]
 simp only[IntKind.bits]
 rw[BitVec.ofNat_toNat,BitVec.setWidth_eq]
 cases op<;>rfl
theorem jS(op:BinOp)(x y:Int):bits op .i64 x y=(BitVec.ofInt 64 (bits op .i64 x y)).toInt:=by
 unfold bits
 simp only[jt]
 rw[BitVec.ofInt_natCast]
 simp only[IntKind.bits]
 rw[BitVec.ofNat_toNat,BitVec.setWidth_eq]
 exact wrap_toInt _
theorem pz{a U v:Nat}(ha:a<4611686018427387904)(hU:U<4611686018427387904)(hv:v<62):
  bits .and .i64 ((bits .or .i64 a (bits .xor .i64 (-1) U)).fdiv (2^(min (v:Int).toNat IntKind.i64.bits))) 1=if a.testBit v=true∨U.testBit v=false then 1 else 0:=by
 have hX:=fZ .or (a:Int) (bits .xor .i64 (-1) U)
 simp only at hX
 have hN:=fZ .xor (-1) (U:Int)
 simp only at hN
 rw[hN]at hX
 generalize hx:bits .or .i64 a (bits .xor .i64 (-1) U)=x at hX
 have Ed:x=(BitVec.ofInt 64 x).toInt:=by rw[←hx];exact jS _ _ _
 have hm:min (v:Int).toNat IntKind.i64.bits=v:=by simp[IntKind.bits];omega
 rw[hm]
 have hs:x.fdiv (2^v)=((BitVec.ofInt 64 x).sshiftRight v).toInt:=by
  rw[BitVec.toInt_sshiftRight,←Ed,Int.shiftRight_eq_div_pow,Int.fdiv_eq_ediv_of_nonneg _ (Int.le_of_lt (Int.pow_pos (by decide)))]
  push_cast;rfl
 rw[hs,jS,fZ]
 simp only[BitVec.ofInt_toInt]
 rw[hX]
 have h1:BitVec.ofInt 64 (1:Int)=1#64:=rfl
 have h2:BitVec.ofInt 64 (-1:Int)=BitVec.allOnes 64:=by decide
 rw[h1,h2]
 have th:((BitVec.ofInt 64 (a:Int)|||BitVec.allOnes 64^^^BitVec.ofInt 64 (U:Int)).sshiftRight v).getLsbD 0=(a.testBit v|| !U.testBit v):=by
  rw[BitVec.getLsbD_sshiftRight]
  have e1:v+0<64:=by omega
  simp only[Nat.add_zero,show¬(64≤0)from by decide,decide_false,Bool.not_false,Bool.true_and,show v<64 by omega,if_true]
  rw[BitVec.getLsbD_or,BitVec.getLsbD_xor,BitVec.getLsbD_allOnes,BitVec.ofInt_natCast,BitVec.ofInt_natCast,BitVec.getLsbD_ofNat,BitVec.getLsbD_ofNat]
  simp[show v<64 by omega]
 have cJ:∀y:BitVec 64,(y&&&1#64).toInt=if y.getLsbD 0 then 1 else 0:=by
  intro y
  have:y&&&1#64=if y.getLsbD 0 then 1#64 else 0#64:=by
   apply BitVec.eq_of_getLsbD_eq
   intro i hi
   rw[BitVec.getLsbD_and]
   by_cases h0:i=0
   ·subst h0;cases hb:y.getLsbD 0<;>simp[hb]
   ·have:(1#64).getLsbD i=false:=by simp[BitVec.getLsbD_one,h0]
    rw[this]
    cases y.getLsbD 0<;>simp[this]
  rw[this]
  cases y.getLsbD 0<;>decide
 rw[cJ,th]
 cases a.testBit v<;>cases U.testBit v<;>simp
theorem wF{a U v:Nat}(ha:a<4611686018427387904)(hU:U<4611686018427387904)(hv:v<62){k:Value→Prop}(h:k (.bool (decide (a.testBit v=true∨U.testBit v=false)))):
  Un .xor (.int .i64 (U:Int)) fun fM=>aa .num .or (.int .i64 (a:Int)) fM fun fc=>aa .num .shr fc (.int .i64 (v:Int)) fun iA=>aa .num .and iA (.int .i64 1) fun gn=>aa .num .eql gn (.int .i64 1) k:=by
 refine⟨_,rfl,_,rfl,?_⟩
 have h0:¬((v:Int)<0):=by omega
 refine⟨_,by simp only[cT,h0,if_false];rfl,_,rfl,?_⟩
 refine aa.Dn ?_
 have hs:(if IntKind.i64.signed=true then(-1:Int)else IntKind.i64.max)= -1:=rfl
 rw[hs,pz ha hU hv]
 by_cases hc:a.testBit v=true∨U.testBit v=false
 ·rw[if_pos hc];rw[decide_eq_true hc]at h;exact h
 ·rw[if_neg hc];rw[decide_eq_false hc]at h;exact h
end Go.Sx
set_option maxRecDepth 100000
namespace Go.Proofs
open Go Go.Sx
theorem bW(x:Value)(r:List Value)(i:Nat):dD (x::r) (i+1)=dD r i:=by cases x<;>rfl
def di(n:Nat)(L:List (List Nat))(U a k:Nat):List Nat:=((List.range k).filter fun v=> !a.testBit v&&U.testBit v).map fun v=>af.lvl n L a v+af.B n (af.lvl n L) (af.ah a v true)
theorem pg{n:Nat}{L:List (List Nat)}{U a:Nat}:di n L U a n=(af.bf n U a).map fun v=>af.lvl n L a v+af.B n (af.lvl n L) (af.ah a v true):=by
 unfold di af.bf af.aR
 rw[List.filter_filter]
 congr 1
 apply List.filter_congr
 intro v _
 cases a.testBit v<;>cases U.testBit v<;>rfl
theorem jk{n:Nat}{L:List (List Nat)}{U a k:Nat}:di n L U a (k+1)=if a.testBit k=true∨U.testBit k=false then di n L U a k else di n L U a k++[af.lvl n L a k+af.B n (af.lvl n L) (af.ah a k true)]:=by
 unfold di
 rw[List.range_succ,List.filter_append,List.map_append]
 cases h1:a.testBit k<;>cases h2:U.testBit k<;>simp[h1,h2]
def kP(l:List Nat):Value:=if l=[]then .int .i64 (-1)else .int .i64 ((af.bH l:Nat):Int)
theorem rX(n:Nat)(c:Nat→Nat→Nat)(M:Nat)(hc:∀a v,c a v≤M):∀f a,af.rY n c f a≤f*M
 |0,a=>by simp[af.rY]
 |f+1,a=>by
  rw[af.rY,Nat.succ_mul]
  by_cases h:af.aR n a=[]
  ·rw[h];simp[af.bH]
  ·have:=af.dc (l:=(af.aR n a).map fun v=>c a v+af.rY n c f (af.ah a v true)) (by simpa using h)
   obtain⟨v,_,e⟩:=List.mem_map.1 this
   rw[←e]
   have h1:=hc a v
   have h2:=rX n c M hc f (af.ah a v true)
   omega
theorem lQ{iZ:Value}{n:Nat}{L:List (List Nat)}{B:Hp}(h:gl iZ n L B)(a:Nat):af.B n (af.lvl n L) a<35184372088832:=by
 have h1:=rX n (af.lvl n L) 2199023255551 (fun a v=>Nat.le_of_lt (jz h a v)) n a
 have h2:n*2199023255551≤12*2199023255551:=Nat.mul_le_mul_right _ h.wJ
 unfold af.B;omega
theorem lM{a U n:Nat}(hU:U<2^n)(h:∀v,v<n→¬(a.testBit v=false∧U.testBit v=true)):a&&&U=U:=by
 apply Nat.eq_of_testBit_eq;intro k
 rw[Nat.testBit_and]
 by_cases hk:k<n
 ·have:=h k hk
  cases h1:a.testBit k<;>cases h2:U.testBit k<;>simp_all
 ·have:U.testBit k=false:=Nat.testBit_lt_two_pow (Nat.lt_of_lt_of_le hU (Nat.pow_le_pow_right (by decide) (by omega)))
  rw[this];simp
theorem fb{iZ:Value}{n:Nat}{L:List (List Nat)}{B:Hp}(h:gl iZ n L B){bp bl bd:Nat}:∀(d a:Nat),(af.bf n (af.aq n L) a).length≤d→a<2^n→∀H,dw bp bl bd iZ n L (af.aq n L) B H→
  Fc Tryz.prog 74 #[.pointer (some ⟨bp,0,none⟩),.int .i64 (a:Int)] H (fun r H'=>r=.int .i64 ((af.B n (af.lvl n L) a:Nat):Int)∧dw bp bl bd iZ n L (af.aq n L) B H'):=by
 have hU:=af.gx n L
 have gH:=h.wJ
 have gV:2^n≤2^12:=Nat.pow_le_pow_right (by decide) gH
 have iN:=af.kX h.zm (by omega)
 intro d
 induction d using Nat.strongRecOn with
 |_ d ih=>
  intro a hd ha H hp
  obtain⟨jN,jQ,ig,ij,rfl,hM⟩:=hp
  intro g
  refine kT (R:=cx _) ?_
  unfold L74
  refine Nil.ptr ?_
  refine ae.mk (Ld.mk zM rfl ?_)
  refine aa.gO (by simp[aK];omega) (by simp[aK];omega) ?_
  refine Nil.ptr ?_
  refine ae.mk (Ld.mk zM rfl ?_)
  have Dd:af.B n (af.lvl n L) a=af.B n (af.lvl n L) (a&&&af.aq n L):=(af.sg iN a).symm
  have pK:af.bf n (af.aq n L) (a&&&af.aq n L)=af.bf n (af.aq n L) a:=af.dW _ _ _
  have vY:a&&&af.aq n L<2^n:=Nat.lt_of_le_of_lt Nat.and_le_left ha
  have eS:(a&&&af.aq n L) &&&af.aq n L=a&&&af.aq n L:=by rw[Nat.and_assoc,Nat.and_self]
  rw[Dd]
  rw[←pK]at hd
  obtain⟨a',cC⟩:∃a',a'=a&&&af.aq n L:=⟨_,rfl⟩
  rw[←cC]at vY hd eS⊢
  clear Dd pK ha cC
  have an:=pg (n:=n) (L:=L) (U:=af.aq n L) (a:=a')
  have xj:af.B n (af.lvl n L) a'=af.bH (di n L (af.aq n L) a' n):=by
   rw[an]
   have:=af.yJ iN a'
   rw[eS]at this
   exact this
  refine aa.fy (Br.dec (fun h0=>?_) (fun h0=>?_))
  ·refine cx.here ⟨?_,jN,jQ,ig,ij,rfl,hM⟩
   have:af.bf n (af.aq n L) a'=[]:=by
    rw[List.eq_nil_iff_forall_not_mem]
    intro v hv
    obtain⟨_,h2,h3⟩:=af.bO.1 hv
    rw[h0,h3]at h2;cases h2
   rw[xj,an,this];rfl
  have hne:di n L (af.aq n L) a' n≠[]:=by
   rw[an]
   intro e
   apply h0
   rw[←eS]
   refine lM hU fun v hv hh=>?_
   have:v∈af.bf n (af.aq n L) a':=af.bO.2 ⟨hv,hh.1,hh.2⟩
   rw[List.map_eq_nil_iff.1 e]at this;simp at this
  refine Nil.ptr ?_
  refine ae.mk (Ld.mk zM rfl ?_)
  obtain⟨rC,m2,pP,vQ⟩:=hM
  cases hg:fq m2 a' with
  |some x=>
   have hx:=mB (f:=af.B n (af.lvl n L)) vQ hg
   refine aU.hit (ke:=ki) (k:=a') hY pP (by exact .tail _ (.tail _ (.head _))) hg fun y hy=>?_
   subst hy
   refine Ext.mk rfl (Ext.mk rfl (Br.yes (cx.here ⟨?_,jN,jQ,ig,ij,rfl,rC,m2,pP,vQ⟩)))
   rw[hx];rfl
  |none=>
   refine aU.aR (ke:=ki) (k:=a') hY pP (by exact .tail _ (.tail _ (.head _))) hg ?_
   refine Ext.mk rfl (Ext.mk rfl (Br.no (Nil.ptr ?_)))
   refine ae.mk (Ld.mk zM rfl ?_)
   refine⟨fun vs H=>∃k:Nat,vs=[kP (di n L (af.aq n L) a' k),.int .i64 (k:Int)]∧k≤n∧dw bp bl bd iZ n L (af.aq n L) B H,fun vs _=>n-dD vs 1,
    JE.mk ⟨0,rfl,Nat.zero_le _,jN,jQ,ig,ij,rfl,rC,m2,pP,vQ⟩,?_⟩
   clear pP vQ hg rC jN jQ ig ij m2
   rintro sF qC H ⟨k,hv,hk,hp⟩ gs
   simp only[List.cons.injEq,and_true]at hv
   obtain⟨rfl,rfl⟩:=hv
   refine aa.jA (Br.dec (fun hlt=>?_) (fun hlt=>?_))
   ·intro J hJ
    have kJ:=hp
    obtain⟨jN,jQ,ig,ij,rfl,hM⟩:=hp
    refine Nil.ptr ?_
    refine ae.mk (Ld.mk zM rfl ?_)
    refine wF (by omega) (by omega) (by omega) ?_
    have iL:∀l H,l=di n L (af.aq n L) a' (k+1)→dw bp bl bd iZ n L (af.aq n L) B H→J [kP l] H:=fun l H hl hp=>hJ _ _ fun gs=>by
     refine aa.cE (b:=1) (by simp[aK];omega) ?_
     exact aS.mk ⟨k+1,by rw[hl],by omega,hp⟩ (by rw[bW,bW];show n-(((k:Int)+1).toNat)<n-((k:Int).toNat);omega)
    by_cases hc:a'.testBit k=true∨(af.aq n L).testBit k=false
    ·rw[decide_eq_true hc]
     refine Br.yes (JE.mk (iL _ _ ?_ kJ))
     rw[jk,if_pos hc]
    ·rw[decide_eq_false hc]
     have za:a'.testBit k=false∧(af.aq n L).testBit k=true:=by
      cases h1:a'.testBit k<;>cases h2:(af.aq n L).testBit k<;>simp_all
     have hmem:k∈af.bf n (af.aq n L) a':=af.bO.2 ⟨hlt,za.1,za.2⟩
     refine Br.no (DR.self ?_)
     have hpk:2^k≤2^12:=Nat.pow_le_pow_right (by decide) (by omega)
     refine aa.lf (a:=1) (by simp[IntKind.bits];omega) (by rw[Nat.one_shiftLeft];simp[aK];omega) ?_
     rw[Nat.one_shiftLeft]
     refine aa.qS (by simp[aK];omega) (by simp[aK];omega) ?_
     have pT:a'|||2^k=af.ah a' k true:=rfl
     rw[pT]
     refine ai.fn .here (ju h kJ vY hlt za.1) ?_
     rintro r H1 ⟨rfl,AD⟩
     have hlen:(af.bf n (af.aq n L) (af.ah a' k true)).length<d:=by
      have h1:(af.bf n (af.aq n L) (af.ah a' k true)).length+1=(af.bf n (af.aq n L) a').length:=by
       unfold af.bf af.aR
       rw[List.filter_filter,List.filter_filter]
       refine af.dG _ _ k (List.range n) List.nodup_range (List.mem_range.2 hlt) (by simp[za]) (by simp[af.ag]) fun y hy hne=>?_
       rw[af.gA hne]
      omega
     refine ai.fn .here (ih _ hlen (af.ah a' k true) (Nat.le_refl _) (af.cO vY hlt) H1 AD) ?_
     rintro r H2 ⟨rfl,gV⟩
     have xU:=jz h a' k
     have xS:=lQ h (af.ah a' k true)
     refine aa.cE (by simp[aK];omega) ?_
     have hstep:=jk (n:=n) (L:=L) (U:=af.aq n L) (a:=a') (k:=k)
     rw[if_neg hc]at hstep
     generalize af.lvl n L a' k+af.B n (af.lvl n L) (af.ah a' k true)=x at hstep
     unfold kP
     by_cases hl:di n L (af.aq n L) a' k=[]
     ·rw[if_pos hl]
      refine aa.lss (cw.mk true (fun e=>by simp at e) (fun _=>rfl) fun gs=>Br.yes (JE.mk ?_))
      have:=iL [x] _ (by rw[hstep,hl];rfl) gV
      simpa[kP,af.bH]using this
     ·rw[if_neg hl]
      have xy:=af.nw (di n L (af.aq n L) a' k) x
      rw[if_neg hl,←hstep]at xy
      have uT:di n L (af.aq n L) a' (k+1)≠[]:=by rw[hstep];simp
      have vP:=iL _ H2 rfl gV
      unfold kP at vP
      rw[if_neg uT,xy]at vP
      have hneg:decide (((af.bH (di n L (af.aq n L) a' k):Nat):Int)<0)=false:=decide_eq_false (by omega)
      by_cases hx:x<af.bH (di n L (af.aq n L) a' k)
      ·rw[Nat.min_eq_right (by omega)]at vP
       refine aa.lss ?_
       rw[hneg]
       exact cw.mk true (fun _=>aa.jA ⟨rfl,by rw[decide_eq_true hx]⟩) (fun e=>by simp at e) fun gs=>Br.yes (JE.mk vP)
      ·rw[Nat.min_eq_left (by omega)]at vP
       refine aa.lss ?_
       rw[hneg]
       exact cw.mk false (fun _=>aa.jA ⟨rfl,by rw[decide_eq_false hx]⟩) (fun e=>by simp at e) fun gs=>Br.no (JE.mk vP)
   ·have:k=n:=by omega
    subst this
    obtain⟨jN,jQ,ig,ij,rfl,rC,m2,pP,vQ⟩:=hp
    refine Nil.ptr ?_
    refine ae.mk (Ld.mk zM rfl ?_)
    unfold kP
    rw[if_neg hne,←xj]
    refine aU.bF (ke:=ki) (vr:=tM) (b:=bd) (val:=.int .i64 ((af.B k (af.lvl k L) a':Nat):Int)) (k:=a') (x:=af.B k (af.lvl k L) a') hY oN pP rfl fun es' ea jK=>⟨_,.tail (.tail (.head _)),?_⟩
    have AI:∀x∈dV m2 a' (af.B k (af.lvl k L) a'),x.2=af.B k (af.lvl k L) x.1:=my (f:=af.B k (af.lvl k L)) vQ
    exact cx.here ⟨rfl,jN,jQ,es',ea,rfl,rC,_,jK,AI⟩
end Go.Proofs
set_option maxRecDepth 100000
namespace Go.Proofs
open Go Go.Sx
def B7(v:Value)(ts:List Tb)(B:Hp)(r:Value)(H:Hp):Prop:=
 (cL ts∧∃(bp bl bd n:Nat) (L:List (List Nat)) (N:Hp),ts=gU n L∧(L=[]→n=0)∧n≤16∧(∀ws∈L,af.dI n ws)∧r=.tuple #[.pointer (some ⟨bp,0,none⟩),.int .i64 0]∧dw bp bl bd v n L (af.aq n L) (N++B) H)
 ∨(¬cL ts∧r=.tuple #[.pointer none,.int .i64 5])
theorem iF(n:Nat)(L:List (List Nat)):oY n L #[] 0 #[] 0:=⟨⟨[],aU.empty,by simp⟩,⟨[],aU.empty,by simp⟩⟩
theorem nm{n:Nat}{L:List (List Nat)}{k:Nat}(h:k<L.length):af.aq n (L.take (k+1))=af.aq n (L.take k)|||af.fQ n L[k]:=by
 unfold af.aq
 rw[List.take_add_one,List.getElem?_eq_getElem h,Option.toList_some,List.foldl_append];rfl
theorem fk{B:Hp}{v:Value}{ts:List Tb}(ht:bN B v ts)(bR:ts.length<4398046511104):Px Tryz.prog 72 #[v] B (B7 v ts B):=by
 obtain⟨va,vc,vl,rfl⟩:∃a c l,v=.slice a l c:=by
  obtain⟨rs,h1,_⟩:=ht
  obtain⟨a,c,e,_⟩:=h1.shape
  exact⟨a,c,_,e⟩
 intro g
 refine qf (R:=cx _) ?_
 unfold L72
 intro b1 _ b2 _
 refine Build.mk (cs:=[.slice va vl vc,.int .i64 0,.int .i64 0,.map (some b1),.map (some b2)]) (by kernel_rfl) ?_
 intro bp _
 generalize hvs:Value.slice va vl vc=vv at ht⊢
 refine ht.bQ (aa.fy (b:=0) (Br.dec (fun h0=>?_) (fun h0=>?_)))
 ·have jG:ts=[]:=List.eq_nil_of_length_eq_zero h0
  subst jG
  refine⟨_,_,rfl,aM.cons aM.swap,(by repeat (first|exact ay.refl _|apply ay.cons|apply ay.app)),Or.inl ⟨by simp[cL],bp,b1,b2,0,[],[],rfl,fun _=>rfl,by omega,by simp,rfl,_,_,_,_,?_,iF _ _⟩⟩
  subst hvs;rfl
 refine ai.px (B:=B) (.cons (.cons (.cons .here))) (qQ ht bR) ?_
 rintro r N ⟨s,rfl⟩
 refine Ext.mk rfl (Ext.mk rfl ?_)
 by_cases hO:cL ts
 case neg=>
  rw[if_neg hO]
  exact aa.lS (a:=5) (b:=0) (Br.dec (fun _=>iy.mk (by repeat (first|exact ay.refl _|apply ay.cons|apply ay.app)) (.inr ⟨hO,rfl⟩)) (fun h=>absurd (by decide) h))
 rw[if_pos hO]
 refine aa.lS (a:=0) (b:=0) (Br.dec (fun h=>absurd rfl h) (fun _=>?_))
 obtain⟨n,L,eT,rfl,hne,hf⟩:=oK hO (by intro e;rw[e]at h0;exact h0 rfl)
 rw[List.length_map]at bR h0
 obtain⟨w0,vL⟩:∃w0,L[0]? =some w0:=⟨_,List.getElem?_eq_getElem (List.length_pos_iff.2 hne)⟩
 refine ht.uH (i:=0) (t:=⟨n,w0⟩) (by rw[List.getElem?_map,vL];rfl) zS ?_
 simp only
 refine Nil.ptr (ae.mk ?_)
 refine St.one (c:=#[vv,.int .i64 0,.int .i64 0,.map (some b1),.map (some b2)]) (c':=#[vv,.int .i64 (n:Int),.int .i64 0,.map (some b1),.map (some b2)]) (H':=(bp,.cells #[vv,.int .i64 (n:Int),.int .i64 0,.map (some b1),.map (some b2)] 137 (0,0))::(b2,.map #[] 0)::(b1,.map #[] 0)::(N++B)) (by subst hvs;exact .head _) rfl (by simp) rfl ?_
 refine ht.bQ ?_
 rw[List.length_map]
 refine⟨fun vs H=>∃(k:Nat) (N:Hp),vs=[.int .i64 (k:Int)]∧k≤L.length∧H=(bp,.cells #[vv,.int .i64 (n:Int),.int .i64 ((af.aq n (L.take k):Nat):Int),.map (some b1),.map (some b2)] 137 (0,0))::(b2,.map #[] 0)::(b1,.map #[] 0)::(N++B),
  fun vs _=>L.length-dD vs 0,JE.mk ⟨0,N,rfl,by omega,rfl⟩,?_⟩
 clear N
 rintro w H ⟨k,N,hv,hk,rfl⟩ gs
 simp only[List.cons.injEq,and_true]at hv
 subst hv
 refine aa.jA (Br.dec (fun hlt=>?_) (fun hlt=>?_))
 ·have hg:(L.map fun ws=>(⟨n,ws⟩:Tb))[k]? =some ⟨n,L[k]⟩:=by rw[List.getElem?_map,List.getElem?_eq_getElem hlt];rfl
  have gI:=hf L[k] (List.getElem_mem hlt)
  refine ht.ld hg zS fun s hw=>?_
  intro b3 _
  refine St.whole (r:=[.int .i64 (n:Int),s]) (by exact .head _) rfl rfl ?_ ?_
  ·have:=aN hw;simpa[Value.oneCell']using this
  refine aO.whole (r:=[.int .i64 (n:Int),s]) (by exact .head _) rfl ?_
  refine ai.rd (B:=B) (.cons (.cons (.cons (.cons (.app .here))))) (jh (v:=.agg (List.toArray [.int .i64 (n:Int),s])) (t:=⟨n,L[k]⟩) ⟨s,rfl,hw⟩) ?_
  rintro v rfl
  rw[if_pos (show TF ⟨(n:Int),L[k]⟩from⟨by simp,by simpa using gI⟩)]
  refine Ext.mk rfl (Ext.mk rfl ?_)
  simp only[Int.toNat_natCast]
  have Et:2^n≤2^16:=Nat.pow_le_pow_right (n:=2) (by decide) eT
  have wZ:af.fQ n L[k]<2^n:=af.eI n L[k] n
  have Ge:=af.gx n (L.take k)
  refine Nil.ptr ?_
  refine ae.mk (Ld.mk zM rfl ?_)
  refine bg.nat (by simp[aK];omega) ?_
  refine aa.qS (by simp[aK];omega) (by simp[aK];omega) ?_
  rw[←nm hlt]
  refine Nil.ptr (ae.mk ?_)
  refine St.one (c:=#[vv,.int .i64 (n:Int),.int .i64 ((af.aq n (L.take k):Nat):Int),.map (some b1),.map (some b2)]) (c':=#[vv,.int .i64 (n:Int),.int .i64 ((af.aq n (L.take (k+1)):Nat):Int),.map (some b1),.map (some b2)]) (by repeat (first|exact br.head _|apply br.tail|apply br.bx)) rfl (by simp) rfl ?_
  refine aa.cE (b:=1) (by simp[aK];omega) ?_
  exact aS.of .tail ⟨k+1,N,rfl,by omega,rfl⟩ (by simp[dD];omega)
 ·have:k=L.length:=by omega
  subst this
  rw[List.take_length]
  refine⟨_,_,rfl,aM.cons aM.swap,(by repeat (first|exact ay.refl _|apply ay.cons|apply ay.app)),Or.inl ⟨hO,bp,b1,b2,n,L,N,rfl,fun e=>absurd e hne,eT,hf,rfl,_,_,_,_,rfl,iF _ _⟩⟩
theorem qR{n:Nat}{c:Nat→Nat→Nat}{f a v:Nat}(hv:v∈af.aR n a)(he:c a v+af.B n c (af.ah a v true)=af.B n c a)(hm:∀u∈af.aR n a,u<v→c a u+af.B n c (af.ah a u true)≠af.B n c a):
    af.ord n c (f+1) a=v::af.ord n c f (af.ah a v true):=by
  obtain⟨u,h1,h2,h3,h4⟩:=af.mm (c:=c) (f:=f) (List.ne_nil_of_mem hv)
  rcases Nat.lt_trichotomy u v with h|h|h
  · exact absurd h2 (hm u h1 h)
  · rw[h4,h]
  · exact absurd he (h3 v hv h)
theorem kQ{iZ:Value}{n:Nat}{L:List (List Nat)}{B:Hp}{bp bl bd a:Nat}(ha:a<4611686018427387904){H:Hp}(hp:dw bp bl bd iZ n L 0 B H):
    Fc Tryz.prog 74 #[.pointer (some ⟨bp,0,none⟩),.int .i64 (a:Int)] H (fun r H'=>r=.int .i64 0∧H'=H):=by
  obtain⟨jN,jQ,ig,ij,rfl,hM⟩:=hp
  intro g
  refine kT (R:=cx _) ?_
  unfold L74
  refine Nil.ptr ?_
  refine ae.mk (Ld.mk zM rfl ?_)
  refine aa.gO (b:=0) (by simp[aK];omega) (by simp[aK]) ?_
  refine Nil.ptr ?_
  refine ae.mk (Ld.mk zM rfl ?_)
  exact aa.fy (b:=0) (Br.rR (by simp) (cx.here ⟨rfl,rfl⟩))
def uA(ts:List Tb)(B:Hp)(r:Value)(H:Hp):Prop:=
  (¬cL ts∧r=.tuple #[.int .i64 0,.slice none 0 0,.int .i64 5])∨
  (cL ts∧∃(n:Nat) (L:List (List Nat)),ts=gU n L∧(L=[]→n=0)∧n≤16∧(∀ws∈L,af.dI n ws)∧
    ((12<n∧r=.tuple #[.int .i64 0,.slice none 0 0,.int .i64 6])∨
     (n≤12∧∃(s:Value) (C N:Hp),r=.tuple #[.int .i64 ((af.B n (af.lvl n L) 0:Nat):Int),s,.int .i64 0]∧cQ 3 .i64 s (iw (af.ord n (af.lvl n L) n 0)) C∧H=C++(N++B))))
structure F3(n:Nat)(c:Nat→Nat→Nat)(s:Value)(a:Nat)(l:List Nat)(C:Hp):Prop where
  own:cQ 3 .i64 s (iw l) C
  lt:a<2^n
  len:(af.aR n a).length+l.length=n
  pre:l++af.ord n c (n-l.length) a=af.ord n c n 0
theorem jd{a v:Nat}:(a>>>v&&&1=0)↔a.testBit v=false:=by
  have:=Nat.testBit_eq_decide_div_mod_eq (x:=a) (i:=v)
  rw[this,Nat.and_one_is_mod,Nat.shiftRight_eq_div_pow]
  simp
theorem oT{B:Hp}{v:Value}{ts:List Tb}(ht:bN B v ts)(bR:ts.length<33554432):Px Tryz.prog 26 #[v] B (uA ts B):=by
  intro g
  refine kV (R:=cx _) ?_
  unfold L26
  refine ai.px .here (fk ht (by omega)) ?_
  rintro r N0 (⟨hO,bp,bl,bd,n,L,N,rfl,iV,eT,hf,rfl,hp⟩|⟨hO,rfl⟩)
  case inr=>exact Ext.mk rfl (Ext.mk rfl (aa.lS (a:=5) (b:=0) (Br.dec (fun _=>iy.mk (by repeat (first|exact ay.refl _|apply ay.cons|apply ay.app)) (.inl ⟨hO,rfl⟩)) (fun h=>absurd (by decide) h))))
  generalize N0++B=H2 at hp⊢
  clear N0
  rw[jg]at bR
  have kJ:=hp
  obtain⟨jN,jQ,ig,ij,rfl,hM⟩:=hp
  refine Ext.mk rfl (Ext.mk rfl (aa.lS (a:=0) (b:=0) (Br.dec (fun h=>absurd rfl h) (fun _=>?_))))
  refine Nil.ptr ?_
  refine ae.mk (Ld.mk zM rfl ?_)
  refine aa.qy (b:=12) (Br.dec (fun qx=>iy.mk (by repeat (first|exact ay.refl _|apply ay.cons|apply ay.app)) (.inr ⟨hO,n,L,rfl,iV,eT,hf,.inl ⟨qx,rfl⟩⟩)) (fun qx=>?_))
  clear hM
  have gH:n≤12:=by omega
  have vb:L≠[]→gl v n L (N++B):=fun hne=>⟨ht.mono zS,hf,hne,bR,gH⟩
  have gV:2^n≤2^12:=Nat.pow_le_pow_right (by decide) gH
  have hm0:(af.aR n 0).length=n:=by
    have:af.aR n 0=List.range n:=by unfold af.aR;rw[List.filter_eq_self];simp
    rw[this,List.length_range]
  refine⟨fun vs H=>∃(s:Value) (a:Nat) (l:List Nat) (C H1:Hp),vs=[s,.int .i64 (a:Int)]∧F3 n (af.lvl n L) s a l C∧dw bp bl bd v n L (af.aq n L) (N++B) H1∧H=C++H1,
    fun vs _=>(af.aR n (dD vs 1)).length,JE.mk ⟨_,0,[],[],_,rfl,⟨cQ.nil,Nat.two_pow_pos n,by rw[hm0];rfl,by simp⟩,kJ,rfl⟩,?_⟩
  clear kJ jN jQ ig ij
  rintro qE nj H ⟨s,a,l,C,H1,hv,hb,hp,rfl⟩ gs
  simp only[List.cons.injEq,and_true]at hv
  obtain⟨rfl,rfl⟩:=hv
  have kJ:=hp
  obtain⟨jN,jQ,ig,ij,rfl,hM⟩:=hp
  refine hb.own.bQ ?_
  rw[bP]
  refine Nil.ptr ?_
  refine ae.mk (Ld.mk zM rfl ?_)
  have ue:=hb.len
  refine aa.jA (Br.dec (fun hlt=>?_) (fun hlt=>?_))
  · have AG:af.aR n a≠[]:=by intro e;rw[e]at ue;simp at ue;omega
    have hne:L≠[]:=fun e=>by have:=iV e;omega
    have nE:=vb hne
    have Ey:n-l.length=n-l.length-1+1:=by omega
    refine Nil.ptr ?_
    refine ae.mk (Ld.mk zM rfl ?_)
    refine⟨fun vs H=>∃(k:Nat) (H1:Hp),vs=[qE,.int .i64 (a:Int),.int .i64 (k:Int)]∧k≤n∧(∀u∈af.aR n a,u<k→af.lvl n L a u+af.B n (af.lvl n L) (af.ah a u true)≠af.B n (af.lvl n L) a)∧dw bp bl bd v n L (af.aq n L) (N++B) H1∧H=C++H1,
      fun vs _=>n-dD vs 2,JE.mk ⟨0,_,rfl,by omega,fun u _ h=>by omega,kJ,rfl⟩,?_⟩
    clear hM kJ
    rintro sE sk sj H ⟨k,H1,hv,hk,hmin,hp,rfl⟩ gs
    simp only[List.cons.injEq,and_true]at hv
    obtain⟨rfl,rfl,rfl⟩:=hv
    refine aa.jA (Br.dec (fun hlk=>?_) (fun hlk=>?_))
    · intro J hJ
      have hpk:2^k≤2^12:=Nat.pow_le_pow_right (by decide) (by omega)
      have hno:∀H1,¬(a.testBit k=false∧af.lvl n L a k+af.B n (af.lvl n L) (af.ah a k true)=af.B n (af.lvl n L) a)→dw bp bl bd v n L (af.aq n L) (N++B) H1→J [.bool false] (C++H1):=fun H1 hx hp=>hJ _ _ fun gs=>by
        refine Br.no (aa.cE (b:=1) (by simp[aK];omega) ?_)
        refine aS.mk ⟨k+1,H1,rfl,by omega,fun u hu Gl=>?_,hp,rfl⟩ (by rw[bW,bW,bW,bW];show n-(((k:Int)+1).toNat)<n-((k:Int).toNat);omega)
        by_cases e:u=k
        · subst e;exact fun h=>hx ⟨(af.bI.1 hu).2,h⟩
        · exact hmin u hu (by omega)
      refine DR.self ?_
      have ES:a<4611686018427387904:=by have:=hb.lt;omega
      refine aa.eL (by simp[aK];omega) (aa.gO (b:=1) (by simp[aK];exact Nat.lt_of_le_of_lt (Nat.shiftRight_le _ _) (by omega)) (by decide) (aa.fy (b:=0) ?_))
      refine Br.dec (fun h0=>?_) (fun h0=>JE.mk (hno H1 (fun h=>h0 (jd.2 h.1)) hp))
      have CZ:=jd.1 h0
      refine aa.lf (a:=1) (by simp[IntKind.bits];omega) (by rw[Nat.one_shiftLeft];simp[aK];omega) ?_
      rw[Nat.one_shiftLeft]
      refine aa.qS (by simp[aK];omega) (by simp[aK];omega) ?_
      have pT:a|||2^k=af.ah a k true:=rfl
      rw[pT]
      intro F
      refine ai.fn (.app .here) (ju nE hp hb.lt hlk CZ) ?_
      rintro r H2 ⟨rfl,gV⟩
      intro F
      refine ai.fn (.app .here) (fb nE _ (af.ah a k true) (Nat.le_refl _) (af.cO hb.lt hlk) H2 gV) ?_
      rintro r H3 ⟨rfl,yW⟩
      have xU:=jz nE a k
      have xS:=lQ nE (af.ah a k true)
      refine aa.cE (by simp[aK];omega) ?_
      intro F
      refine ai.fn (.app .here) (fb nE _ a (Nat.le_refl _) hb.lt H3 yW) ?_
      rintro r H4 ⟨rfl,yV⟩
      refine aa.fy ?_
      by_cases he:af.lvl n L a k+af.B n (af.lvl n L) (af.ah a k true)=af.B n (af.lvl n L) a
      · rw[decide_eq_true he]
        have hmem:k∈af.aR n a:=af.bI.2 ⟨hlk,CZ⟩
        have ta:=qR (f:=n-l.length-1) hmem he hmin
        have hml:=af.cP hmem
        refine aA.mk (JE.mk (hJ _ _ fun gs=>Br.yes ?_))
        refine aG.int (e:=3) (by kernel_rfl) (by kernel_rfl) (by kernel_rfl) fun xb=>?_
        refine cQ.app (A:=[_]) hb.own (by exact .head _) (by simp;omega) (by simp;omega) fun v' C' ho=>?_
        refine aa.lf (a:=1) (by simp[IntKind.bits];omega) (by rw[Nat.one_shiftLeft];simp[aK];omega) ?_
        rw[Nat.one_shiftLeft]
        refine aa.qS (by simp[aK];omega) (by simp[aK];omega) ?_
        rw[pT]
        refine aS.of .right ⟨v',af.ah a k true,l++[k],C',H4,rfl,⟨by simpa[iw]using ho,af.cO hb.lt hlk,by simp;omega,?_⟩,yV,rfl⟩ (by rw[bW,bW];show(af.aR n (af.ah a k true)).length<(af.aR n a).length;omega)
        have:=hb.pre
        rw[Ey,ta]at this
        rw[List.length_append,List.length_singleton,Nat.sub_add_eq,List.append_assoc]
        exact this
      · rw[decide_eq_false he]
        exact aA.mk (JE.mk (hno H4 (fun h=>he h.2) yV))
    · obtain⟨u,h1,h2,_⟩:=af.mm (c:=af.lvl n L) (f:=0) AG
      exact absurd h2 (hmin u h1 (by have:=(af.bI.1 h1).1;omega))
  · have yY:l.length=n:=by omega
    have hl:l=af.ord n (af.lvl n L) n 0:=by
      have:=hb.pre
      rw[yY,Nat.sub_self]at this
      simpa[af.ord]using this
    have hown:=hb.own
    rw[hl]at hown
    by_cases hne:L=[]
    · have hn:=iV hne
      subst hne
      subst hn
      refine ai.fn (.app .here) (kQ (a:=0) (by omega) kJ) ?_
      rintro r H3 ⟨rfl,rfl⟩
      exact⟨_,_,rfl,.refl _,(by repeat (first|exact ay.refl _|apply ay.cons|apply ay.app)),.inr ⟨hO,0,[],rfl,iV,eT,hf,.inr ⟨gH,_,C,(_::_::_::N),rfl,hown,rfl⟩⟩⟩
    · refine ai.fn (.app .here) (fb (vb hne) _ 0 (Nat.le_refl _) (Nat.two_pow_pos n) _ kJ) ?_
      rintro r H3 ⟨rfl,ya,ye,Dm,Dp,rfl,C9⟩
      exact⟨_,_,rfl,.refl _,(by repeat (first|exact ay.refl _|apply ay.cons|apply ay.app)),.inr ⟨hO,n,L,rfl,iV,eT,hf,.inr ⟨gH,_,C,(_::_::_::N),rfl,hown,rfl⟩⟩⟩
end Go.Proofs
namespace r8
abbrev It:=Int×Int
def prec(a b:It):Bool:=decide (a.2<b.2)||(a.2==b.2&&decide (a.1<b.1))
theorem jm{a b:It}:prec a b=true↔a.2<b.2∨a.2=b.2∧a.1<b.1:=by simp[prec]
theorem dk{a b:It}:prec a b=false↔¬(a.2<b.2∨a.2=b.2∧a.1<b.1):=by rw[←jm];simp
theorem eO(a:It):prec a a=false:=by rw[dk];omega
theorem fV{a b:It}(h:prec a b=true):prec b a=false:=by rw[jm]at h;rw[dk];omega
theorem le_trans{a b c:It}(h1:prec b a=false)(h2:prec c b=false):prec c a=false:=by rw[dk]at*;omega
theorem ny{a b c:It}(h1:prec a b=true)(h2:prec c b=false):prec c a=false:=by rw[jm]at h1;rw[dk]at*;omega
def cy(V:Nat→It)(i:Nat)(b:It):Nat→It:=fun j=>if j=i then b else V j
def E(V:Nat→It)(j:Nat):Prop:=prec (V j) (V ((j-1) /2))=false
def jV(n:Nat)(V:Nat→It)(i:Nat):Prop:=
 (∀j,0<j→j<n→j≠i→(j-1) /2≠i→E V j)∧(∀j,0<j→j<n→(j-1) /2=i→0<i→prec (V j) (V ((i-1) /2))=false)
def fp(n:Nat)(V:Nat→It)(i:Nat):Prop:=∀j,0<j→j<n→(j-1) /2=i→E V j
def tH(n:Nat)(V:Nat→It)(i:Nat):Prop:=
 (∀j,0<j→j<n→(j-1) /2≠i→E V j)∧(∀j,0<j→j<n→(j-1) /2=i→0<i→prec (V j) (V ((i-1) /2))=false)
def Ord(n:Nat)(V:Nat→It):Prop:=∀j,0<j→j<n→E V j
theorem sH{n i:Nat}{V:Nat→It}(hi:0<i)(hn:i<n)(h:jV n V i)(ha:prec (V i) (V ((i-1) /2))=true):
  jV n (cy (cy V i (V ((i-1) /2))) ((i-1) /2) (V i)) ((i-1) /2)∧fp n (cy (cy V i (V ((i-1) /2))) ((i-1) /2) (V i)) ((i-1) /2):=by
 obtain⟨h1,h2⟩:=h
 have hq:(i-1) /2≠i:=by omega
 generalize Eo:(i-1) /2=q at*
 have Gj:q<i:=by omega
 refine⟨⟨?_,?_⟩,?_⟩
 ·intro j j0 jn jq jp
  unfold E cy
  rw[if_neg jq,if_neg jp]
  by_cases e1:j=i
  ·exact absurd (by rw[e1,Eo]) jp
  ·rw[if_neg e1]
   by_cases e2:(j-1) /2=i
   ·rw[if_pos e2];exact h2 j j0 jn e2 hi
   ·rw[if_neg e2];exact h1 j j0 jn e1 e2
 ·intro j j0 jn jp q0
  unfold cy
  have Ax:(q-1) /2≠q:=by omega
  have Aw:(q-1) /2≠i:=by omega
  rw[if_neg Ax,if_neg Aw]
  have vU:j≠q:=by omega
  rw[if_neg vU]
  have s8:E V q:=h1 q q0 (by omega) hq (by omega)
  by_cases e1:j=i
  ·rw[if_pos e1];exact s8
  ·rw[if_neg e1]
   have:=h1 j j0 jn e1 (by omega)
   unfold E at this s8
   rw[jp]at this
   exact le_trans s8 this
 ·intro j j0 jn jp
  unfold E cy
  rw[jp,if_pos rfl]
  have vU:j≠q:=by omega
  rw[if_neg vU]
  by_cases e1:j=i
  ·rw[if_pos e1];exact fV ha
  ·rw[if_neg e1]
   have:=h1 j j0 jn e1 (by omega)
   unfold E at this
   rw[jp]at this
   exact ny ha this
theorem sI{n i:Nat}{V:Nat→It}(h:jV n V i)(ha:i=0∨prec (V i) (V ((i-1) /2))=false):tH n V i:=by
 refine⟨fun j j0 jn jp=>?_,h.2⟩
 by_cases e:j=i
 ·subst e;rcases ha with ha|ha
  ·omega
  ·exact ha
 ·exact h.1 j j0 jn e jp
theorem kN{n i:Nat}{V:Nat→It}(h:tH n V i)(hc:fp n V i):Ord n V:=fun j j0 jn=>by
 by_cases e:(j-1) /2=i
 ·exact hc j j0 jn e
 ·exact h.1 j j0 jn e
def mD(n:Nat)(V:Nat→It)(i:Nat):Nat:=if(decide (2*i+1+1<n) &&prec (V (2*i+1+1)) (V (2*i+1)))=true then 2*i+1+1 else 2*i+1
theorem g9(n:Nat)(V:Nat→It)(i:Nat):mD n V i=2*i+1∨mD n V i=2*i+2∧2*i+2<n:=by
 unfold mD;split
 ·rename_i h;simp only[Bool.and_eq_true,decide_eq_true_eq]at h;right;omega
 ·left;rfl
theorem kI{n i j:Nat}{V:Nat→It}(j0:0<j)(jn:j<n)(jp:(j-1) /2=i):prec (V j) (V (mD n V i))=false:=by
 unfold mD
 split
 ·rename_i h
  simp only[Bool.and_eq_true,decide_eq_true_eq]at h
  rcases(show j=2*i+1∨j=2*i+1+1 by omega)with rfl|rfl
  ·exact fV h.2
  ·exact eO _
 ·rename_i h
  rcases(show j=2*i+1∨j=2*i+1+1 by omega)with rfl|rfl
  ·exact eO _
  ·cases hh:prec (V (2*i+1+1)) (V (2*i+1))
   ·rfl
   ·exact absurd (by simp[hh,jn]) h
theorem pW{n i:Nat}{V:Nat→It}(h:tH n V i)(hk:mD n V i<n)(ha:prec (V (mD n V i)) (V i)=true):
  tH n (cy (cy V i (V (mD n V i))) (mD n V i) (V i)) (mD n V i):=by
 have hl:∀j,0<j→j<n→(j-1) /2=i→prec (V j) (V (mD n V i))=false:=fun j=>kI
 have hkc:=g9 n V i
 generalize mD n V i=c at*
 obtain⟨h1,h2⟩:=h
 have AX:(c-1) /2=i:=by omega
 have hc0:0<c:=by omega
 have EP:c≠i:=by omega
 refine⟨?_,?_⟩
 ·intro j j0 jn jp
  unfold E cy
  rw[if_neg jp]
  by_cases e1:j=c
  ·rw[if_pos e1,if_pos (by rw[e1];exact AX)];exact fV ha
  ·rw[if_neg e1]
   by_cases e2:j=i
   ·rw[if_pos e2]
    have:(j-1) /2≠i:=by omega
    rw[if_neg this,e2];exact h2 c hc0 hk AX (by omega)
   ·rw[if_neg e2]
    by_cases e3:(j-1) /2=i
    ·rw[if_pos e3];exact hl j j0 jn e3
    ·rw[if_neg e3];exact h1 j j0 jn e3
 ·intro j j0 jn jp _
  unfold cy
  rw[AX]
  have:j≠c:=by omega
  have e2:j≠i:=by omega
  rw[if_neg this,if_neg e2,if_neg (fun e=>EP e.symm),if_pos rfl]
  have:=h1 j j0 jn (by omega)
  unfold E at this
  rwa [jp]at this
theorem pX{n i:Nat}{V:Nat→It}(h:tH n V i)(ha:n≤mD n V i∨prec (V (mD n V i)) (V i)=false):Ord n V:=by
 refine kN h fun j j0 jn jp=>?_
 have hl:=kI (V:=V) j0 jn jp
 rcases ha with ha|ha
 ·rcases g9 n V i with h|h<;>omega
 ·unfold E;rw[jp];exact le_trans ha hl
theorem sQ{n:Nat}{V:Nat→It}(h:Ord n V):∀j,j<n→prec (V j) (V 0)=false:=by
 intro j
 induction j using Nat.strongRecOn with
 |_ j ih=>
  intro jn
  by_cases j0:j=0
  ·subst j0;exact eO _
  ·exact le_trans (ih ((j-1) /2) (by omega) (by omega)) (h j (by omega) jn)
def aD(l:List It)(j:Nat):It:=l.getD j (0,0)
theorem oU{l:List It}{j:Nat}(h:j<l.length):l[j]? =some (aD l j):=by simp[aD,List.getD,h]
theorem bT{l:List It}{i:Nat}(b:It)(h:i<l.length):aD (l.set i b)=cy (aD l) i b:=by
 funext j
 unfold aD cy
 simp only[List.getD,List.getElem?_set]
 by_cases e:i=j
 ·subst e;simp[h]
 ·rw[if_neg e,if_neg (fun x=>e x.symm)]
theorem fT{l:List It}{i:Nat}(h:i<l.length):l.set i (aD l i)=l:=by
 apply List.ext_getElem?;intro j;rw[List.getElem?_set];by_cases e:i=j
 ·subst e;simp[h,aD,List.getD]
 ·simp[e]
theorem swap_perm{l:List It}{i q:Nat}(hi:i<l.length)(hq:q<l.length)(hne:q≠i):((l.set i (aD l q)).set q (aD l i)).Perm l:=by
 rw[List.perm_iff_count]
 intro x
 have g1:l[i]=aD l i:=by simp[aD,List.getD,hi]
 have g2:l[q]=aD l q:=by simp[aD,List.getD,hq]
 have g3:(l.set i (aD l q))[q]'(by simp[hq])=aD l q:=by rw[List.getElem_set_ne (fun e=>hne e.symm)];exact g2
 rw[List.count_set (by simp[hq]),List.count_set hi,g1,g3]
 have hc:aD l i=x→0<l.count x:=fun e=>by rw[List.count_pos_iff,←e,←g1];exact List.getElem_mem hi
 by_cases e1:aD l i=x
 ·have:=hc e1
  by_cases e2:aD l q=x<;>simp[e1,e2]<;>omega
 ·by_cases e2:aD l q=x<;>simp[e1,e2]
def b9(l:List It):Prop:=(l.map Prod.fst).Nodup
theorem b9.perm{l l':List It}(h:b9 l)(p:l'.Perm l):b9 l':=(p.map _).nodup_iff.2 h
theorem b9.inj{l:List It}(h:b9 l){i j:Nat}(hi:i<l.length)(hj:j<l.length)(e:(aD l i).1=(aD l j).1):i=j:=by
 unfold b9 at h
 have hp:=List.pairwise_iff_getElem.1 h
 have g:∀k (hk:k<l.length),(l.map Prod.fst)[k]'(by simpa using hk)=(aD l k).1:=fun k hk=>by simp[aD,List.getD,hk]
 rcases Nat.lt_trichotomy i j with hlt|rfl|hlt
 ·have:=hp i j (by simpa using hi) (by simpa using hj) hlt
  rw[g i hi,g j hj]at this;exact absurd e this
 ·rfl
 ·have:=hp j i (by simpa using hj) (by simpa using hi) hlt
  rw[g i hi,g j hj]at this;exact absurd e.symm this
theorem cI{l:List It}{x:Int}:x∈l.map Prod.fst↔∃j,j<l.length∧(aD l j).1=x:=by
 rw[List.mem_iff_getElem]
 constructor
 ·rintro⟨j,hj,e⟩
  have hj':j<l.length:=by simpa using hj
  exact⟨j,hj',by simpa[aD,List.getD,hj']using e⟩
 ·rintro⟨j,hj,e⟩
  exact⟨j,by simpa using hj,by simpa[aD,List.getD,hj]using e⟩
def nc(f:Int→Option Nat)(x:Int)(p:Option Nat):Int→Option Nat:=fun y=>if y=x then p else f y
def dJ(l:List It)(f:Int→Option Nat)(i:Nat):Prop:=(∀j,j<l.length→j≠i→f (aD l j).1=some j)∧∀x,x∉l.map Prod.fst→f x=none
def Cons(l:List It)(f:Int→Option Nat):Prop:=(∀j,j<l.length→f (aD l j).1=some j)∧∀x,x∉l.map Prod.fst→f x=none
theorem Cons.x{l:List It}{f:Int→Option Nat}(h:Cons l f)(i:Nat):dJ l f i:=⟨fun j hj _=>h.1 j hj,h.2⟩
theorem dJ.done{l:List It}{f:Int→Option Nat}{i:Nat}(h:dJ l f i)(ho:b9 l)(hi:i<l.length):Cons l (nc f (aD l i).1 (some i)):=by
 refine⟨fun j hj=>?_,fun x hx=>?_⟩
 ·unfold nc
  by_cases e:(aD l j).1=(aD l i).1
  ·rw[if_pos e,ho.inj hj hi e]
  ·rw[if_neg e];exact h.1 j hj (fun e2=>e (by rw[e2]))
 ·unfold nc
  rw[if_neg (fun e=>hx (cI.2 ⟨i,hi,e.symm⟩))]
  exact h.2 x hx
theorem dJ.step{l:List It}{f:Int→Option Nat}{i q:Nat}(h:dJ l f i)(ho:b9 l)(hi:i<l.length)(hq:q<l.length)(hne:q≠i):
  dJ ((l.set i (aD l q)).set q (aD l i)) (nc f (aD l q).1 (some i)) q:=by
 have lA:∀j,aD ((l.set i (aD l q)).set q (aD l i)) j=cy (cy (aD l) i (aD l q)) q (aD l i) j:=fun j=>by rw[bT _ (by simpa using hq),bT _ hi]
 refine⟨fun j hj vU=>?_,fun x hx=>?_⟩
 ·rw[lA]
  simp only[List.length_set]at hj
  unfold cy nc
  rw[if_neg vU]
  by_cases e:j=i
  ·rw[if_pos e,if_pos rfl,e]
  ·rw[if_neg e]
   rw[if_neg (fun e2=>vU (ho.inj hj hq e2))]
   exact h.1 j hj e
 ·have hx':x∉l.map Prod.fst:=fun hm=>hx (by
   have:=(swap_perm hi hq hne).map Prod.fst
   exact this.mem_iff.2 hm)
  unfold nc
  rw[if_neg (fun e=>hx' (cI.2 ⟨q,hq,e.symm⟩))]
  exact h.2 x hx'
end r8
namespace r8
open Go Go.Sx
def enc(kd:IntKind)(a:It):List Value:=[.int kd a.1,.int .i64 a.2]
def bu(kd:IntKind)(l:List It):List (List Value):=l.map (enc kd)
theorem aX(kd:IntKind)(l:List It):(bu kd l).length=l.length:=by simp[bu]
theorem pV(kd:IntKind)(l:List It):∀r∈bu kd l,r.length=2:=fun r hr=>by
 obtain⟨a,_,rfl⟩:=List.mem_map.1 hr;rfl
theorem bB{kd:IntKind}{l:List It}{i:Nat}(h:i<l.length)(az:List (List Value)):(bu kd l++az)[i]? =some (enc kd (aD l i)):=by
 rw[List.getElem?_append_left (by rw[aX];exact h),bu,List.getElem?_map,oU h];rfl
theorem mQ{kd:IntKind}{l:List It}{i:Nat}(h:i<l.length)(a:It)(az:List (List Value)):(bu kd l++az).set i (enc kd a)=bu kd (l.set i a)++az:=by
 rw[List.set_append_left _ _ (by rw[aX];exact h),bu,bu,List.map_set]
def idx(i:Nat):Value:=.int .i64 (i:Int)
def HO(kd:IntKind)(TI TH:TypeId)(h:Value)(l:List It)(f:Int→Option Nat)(C:Hp):Prop:=
 ∃bh sv mv Cs Cm,h=.pointer (some ⟨bh,0,none⟩)∧C=(bh,Obj.cells #[sv,mv] TH (0,0))::(Cs++Cm)∧bC TI 2 sv (bu kd l) Cs∧dN kd idx mv f Cm∧(mv=.map none→l=[])
theorem HO.open{kd:IntKind}{TI TH:TypeId}{h:Value}{l:List It}{f:Int→Option Nat}{C:Hp}(H:HO kd TI TH h l f C)(hp:0<l.length):
  ∃bh la mb az Cm,h=.pointer (some ⟨bh,0,none⟩)∧
   C=(bh,Obj.cells #[.slice (some ⟨la,0,none⟩) l.length (l.length+az.length),.map (some mb)] TH (0,0))::(la,.cells (rows (bu kd l++az)) TI (0,0))::Cm∧
   (∀r∈bu kd l++az,r.length=2)∧dN kd idx (.map (some mb)) f Cm:=by
 obtain⟨bh,sv,mv,Cs,Cm,rfl,rfl,hs,hm,hne⟩:=H
 obtain⟨la,az,rfl,rfl,an⟩:=hs.pos (by rw[aX];exact hp)
 rw[aX]
 rcases hm with⟨rfl,_⟩|⟨mb,m,ck,rfl,h2⟩
 ·rw[hne rfl]at hp;simp at hp
 ·exact⟨bh,la,mb,az,Cm,rfl,rfl,an,.inr ⟨mb,m,ck,rfl,h2⟩⟩
theorem HO.shut{kd:IntKind}{TI TH:TypeId}{bh la mb n c:Nat}{az:List (List Value)}{Cm:Hp}{l:List It}{f:Int→Option Nat}(an:∀r∈bu kd l++az,r.length=2)(hn:n=l.length)(hc:c=l.length+az.length)
 (hm:dN kd idx (.map (some mb)) f Cm):
  HO kd TI TH (.pointer (some ⟨bh,0,none⟩)) l f ((bh,Obj.cells #[.slice (some ⟨la,0,none⟩) n c,.map (some mb)] TH (0,0))::(la,.cells (rows (bu kd l++az)) TI (0,0))::Cm):=
 ⟨bh,_,_,[_],Cm,rfl,rfl,bC.mk' an (by rw[aX];exact hn) (by rw[aX];exact hc),hm,fun h=>by simp at h⟩
theorem mc{l az:List (List Value)}(h:∀r∈l++az,r.length=2)(kd:IntKind)(l':List It):∀r∈bu kd l'++az,r.length=2:=fun r hr=>by
 rcases List.mem_append.1 hr with hr|hr
 ·exact pV kd l' r hr
 ·exact h r (by simp[hr])
theorem fj(kd:IntKind)(a:It):∀v∈enc kd a,v.oneCell'=true:=by simp[enc,Value.oneCell']
end r8
namespace r8
open Go Go.Sx
theorem uF(j:Nat)(h:0<j):((j-1:Nat):Int).tdiv 2=(((j-1) /2:Nat):Int):=by
 rw[Int.tdiv_eq_ediv_of_nonneg (by omega)];omega
theorem jj{l:List It}{i q:Nat}(a:It)(hi:i<l.length)(hq:q<l.length)(hne:q≠i):((l.set i a).set i (aD (l.set i a) q)).set q (aD (l.set i a) i)=(l.set i (aD l q)).set q a:=by
 rw[bT a hi,List.set_set]
 simp[cy,hne]
def HI(kd:IntKind)(TI TH:TypeId)(h:Value)(l:List It)(C:Hp):Prop:=∃f,HO kd TI TH h l f C∧Cons l f∧Ord l.length (aD l)∧b9 l
theorem nP{l:List It}{a:It}{j:Nat}(h:j<l.length):aD (l++[a]) j=aD l j:=by simp[aD,List.getD,List.getElem?_append_left h]
theorem qO{l:List It}{f:Int→Option Nat}{a:It}(hc:Cons l f)(ho:Ord l.length (aD l))(h1:b9 l)(hx:a.1∉l.map Prod.fst):
  jV (l++[a]).length (aD (l++[a])) l.length∧dJ (l++[a]) f l.length∧b9 (l++[a])∧fp (l++[a]).length (aD (l++[a])) l.length:=by
 simp only[List.length_append,List.length_cons,List.length_nil,Nat.zero_add]
 refine⟨⟨fun j j0 jn wO jp=>?_,fun j j0 jn jp=>by omega⟩,⟨fun j jn wO=>?_,fun x hx'=>?_⟩,?_,fun j j0 jn jp=>by omega⟩
 ·unfold E;rw[nP (by omega),nP (by omega)];exact ho j j0 (by omega)
 ·simp only[List.length_append,List.length_cons,List.length_nil]at jn
  rw[nP (by omega)];exact hc.1 j (by omega)
 ·exact hc.2 x (fun h=>hx' (by rw[List.map_append,List.mem_append];exact .inl h))
 ·unfold b9 at*;rw[List.map_append,List.nodup_append];exact⟨h1,by simp,fun a' cC b hb=>by simp at hb;subst hb;intro e;subst e;exact hx cC⟩
theorem jP{l:List It}{f:Int→Option Nat}(hc:Cons l f){x:Int}:(x∉l.map Prod.fst∧f x=none)∨∃i,i<l.length∧(aD l i).1=x∧f x=some i:=by
 by_cases h:x∈l.map Prod.fst
 ·obtain⟨j,hj,e⟩:=cI.1 h
  exact .inr ⟨j,hj,e,by rw[←e];exact hc.1 j hj⟩
 ·exact .inl ⟨h,hc.2 x h⟩
theorem sO{l:List It}{f:Int→Option Nat}(hc:Cons l f)(ho:Ord l.length (aD l))(h1:b9 l){n:Nat}(hn:l.length=n+1):
  let l':=l.take n
  ((0<n→(aD l n)::(l'.set 0 (aD l n)).tail=l'.set 0 (aD l n)∧(aD l 0::l'.set 0 (aD l n)).Perm l∧tH n (aD (l'.set 0 (aD l n))) 0∧b9 (l'.set 0 (aD l n))∧
   dJ (l'.set 0 (aD l n)) (nc f (aD l 0).1 none) 0)):=by
 intro l' iV
 have hl':l'.length=n:=by simp[l',hn]
 have bJ:(aD l 0::l'.set 0 (aD l n)).Perm l:=by
  rw[List.perm_iff_count]
  intro x
  have e:l=l'++[aD l n]:=by
   have:l=l.take n++l.drop n:=(List.take_append_drop n l).symm
   have h2:l.drop n=[aD l n]:=by
    rw[List.drop_eq_getElem_cons (by omega),List.drop_eq_nil_of_le (by omega)]
    simp[hn,aD,List.getD]
   rw[h2]at this;exact this
  have g0:l'[0]'(by omega)=aD l 0:=by simp[l',aD,List.getD,hn]
  conv=>rhs;rw[e]
  rw[List.count_cons,List.count_set (by omega),g0,List.count_append]
  have hc0:aD l 0=x→0<l'.count x:=fun e=>by rw[List.count_pos_iff,←e,←g0];exact List.getElem_mem _
  by_cases e1:aD l 0=x
  ·have:=hc0 e1
   by_cases e2:aD l n=x<;>simp[e1,e2]<;>omega
  ·by_cases e2:aD l n=x<;>simp[e1,e2]
 have lA:∀j,j<n→j≠0→aD (l'.set 0 (aD l n)) j=aD l j:=fun j hj h0=>by
  rw[bT _ (by omega)];simp[cy,h0,l',aD,List.getD,hj]
 have hO:b9 (l'.set 0 (aD l n)):=by
  have:=(h1.perm bJ:b9 _)
  unfold b9 at this⊢
  simp only[List.map_cons,List.nodup_cons]at this
  exact this.2
 refine⟨?_,bJ,⟨fun j j0 jn jp=>?_,fun j j0 jn jp h=>by omega⟩,hO,fun j hj xE=>?_,fun x hx=>?_⟩
 ·cases hh:l' with
  |nil=>rw[hh]at hl';simp at hl';omega
  |cons a r=>simp
 ·unfold E;rw[lA j jn (by omega),lA _ (by omega) jp];exact ho j j0 (by omega)
 ·simp only[List.length_set,hl']at hj
  rw[lA j hj xE]
  unfold nc
  rw[if_neg (fun e=>xE (h1.inj (by omega) (by omega) e))]
  exact hc.1 j (by omega)
 ·unfold nc
  by_cases e:x=(aD l 0).1
  ·rw[if_pos e]
  ·rw[if_neg e]
   refine hc.2 x fun hm=>hx ?_
   have:=(bJ.map Prod.fst).mem_iff.2 hm
   simp only[List.map_cons,List.mem_cons]at this
   rcases this with h|h
   ·exact absurd h e
   ·exact h
theorem qZ{l:List It}{f:Int→Option Nat}(hc:Cons l f)(ho:Ord l.length (aD l))(h1:b9 l){i:Nat}(hi:i<l.length)(key:Int):
  jV (l.set i ((aD l i).1,key)).length (aD (l.set i ((aD l i).1,key))) i∧dJ (l.set i ((aD l i).1,key)) f i∧b9 (l.set i ((aD l i).1,key)):=by
 have CE:(l.set i ((aD l i).1,key)).map Prod.fst=l.map Prod.fst:=by
  rw[List.map_set]
  apply List.ext_getElem?
  intro j
  rw[List.getElem?_set]
  by_cases e:i=j
  ·subst e;simp[hi,aD,List.getD]
  ·simp[e]
 have lA:∀j,j≠i→aD (l.set i ((aD l i).1,key)) j=aD l j:=fun j h=>by rw[bT _ hi];simp[cy,h]
 refine⟨⟨fun j j0 jn wO jp=>?_,fun j j0 jn jp i0=>?_⟩,⟨fun j jn wO=>?_,fun x hx=>hc.2 x (by rwa [CE]at hx)⟩,by unfold b9;rw[CE];exact h1⟩
 ·simp only[List.length_set]at jn
  unfold E;rw[lA j wO,lA _ jp];exact ho j j0 jn
 ·simp only[List.length_set]at jn
  rw[lA j (by omega),lA _ (by omega)]
  have a1:=ho j j0 jn
  have a2:=ho i i0 hi
  unfold E at a1 a2
  rw[jp]at a1
  exact le_trans a2 a1
 ·simp only[List.length_set]at jn
  rw[lA j wO];exact hc.1 j jn
theorem sP{l:List It}{i:Nat}(hi:i<l.length)(a:It):∃r,l.Perm (aD l i::r)∧(l.set i a).Perm (a::r):=by
 refine⟨l.take i++l.drop (i+1),?_,?_⟩
 ·have:l=l.take i++aD l i::l.drop (i+1):=by
   have h2:aD l i=l[i]:=by simp[aD,List.getD,hi]
   rw[h2,←List.drop_eq_getElem_cons hi,List.take_append_drop]
  conv=>lhs;rw[this]
  exact List.perm_middle
 ·rw[List.set_eq_take_append_cons_drop,if_pos hi]
  exact List.perm_middle
end r8
set_option maxRecDepth 100000
namespace Go.Proofs
open Go Go.Sx
open r8
abbrev r9:=HO .i64 233 231
abbrev qA:=HI .i64 233 231
theorem jU(a b:It)(B:Hp):Rd Tryz.prog 223 #[.agg #[.int .i64 a.1,.int .i64 a.2],.agg #[.int .i64 b.1,.int .i64 b.2]] B (· =.bool (prec a b)):=by
 intro g
 refine n3 (R:=cx _) ?_
 unfold L223
 intro b1 _ b2 _
 (repeat (first|refine Nil.ptr ?_|refine ae.mk ?_|refine Ld.mk zM rfl ?_|refine aB.mk ?_|refine aa.eql ?_|refine aa.neq ?_|refine aa.lss ?_|refine aa.leq ?_|refine aa.gtr ?_|refine aa.geq ?_|refine Un.not ?_|refine Ext.mk rfl ?_|refine aA.mk ?_|refine aa.av ?_|refine aa.ax ?_|refine aa.au ?_|refine Br.yes ?_|refine Br.no ?_))
 refine cw.or (a.2==b.2&&decide (a.1<b.1)) (fun _=>?_) rfl fun _=>e7.mk (.skip .tail) rfl
 (repeat (first|refine Nil.ptr ?_|refine ae.mk ?_|refine Ld.mk zM rfl ?_|refine aB.mk ?_|refine aa.eql ?_|refine aa.neq ?_|refine aa.lss ?_|refine aa.leq ?_|refine aa.gtr ?_|refine aa.geq ?_|refine Un.not ?_|refine Ext.mk rfl ?_|refine aA.mk ?_|refine aa.av ?_|refine aa.ax ?_|refine aa.au ?_|refine Br.yes ?_|refine Br.no ?_))
 refine cw.and (decide (a.1<b.1)) (fun _=>?_) rfl fun _=>⟨rfl,rfl⟩
 (repeat (first|refine Nil.ptr ?_|refine ae.mk ?_|refine Ld.mk zM rfl ?_|refine aB.mk ?_|refine aa.eql ?_|refine aa.neq ?_|refine aa.lss ?_|refine aa.leq ?_|refine aa.gtr ?_|refine aa.geq ?_|refine Un.not ?_|refine Ext.mk rfl ?_|refine aA.mk ?_|refine aa.av ?_|refine aa.ax ?_|refine aa.au ?_|refine Br.yes ?_|refine Br.no ?_))
 exact⟨rfl,rfl⟩
theorem gG{h:Value}{l:List It}{f:Int→Option Nat}{C:Hp}(ho:r9 h l f C){i:Nat}(hi:i<l.length)(a:It):
  Fc Tryz.prog 159 #[h,.int .i64 (i:Int),.agg #[.int .i64 a.1,.int .i64 a.2]] C (fun v C'=>v=.tuple #[]∧r9 h (l.set i a) (nc f a.1 (some i)) C'):=by
 obtain⟨bh,la,mb,az,Cm,rfl,rfl,an,hm⟩:=ho.open (by omega)
 intro g
 refine og (R:=cx _) ?_
 unfold L159
 intro b1 _
 refine DR.self ?_
 (repeat (first|refine Nil.ptr ?_|refine ae.mk ?_|refine Ld.mk zM rfl ?_|refine aB.mk ?_|refine aa.eql ?_|refine aa.neq ?_|refine aa.lss ?_|refine aa.leq ?_|refine aa.gtr ?_|refine aa.geq ?_|refine Un.not ?_|refine Ext.mk rfl ?_|refine aA.mk ?_|refine aa.av ?_|refine aa.ax ?_|refine aa.au ?_|refine Br.yes ?_|refine Br.no ?_))
 refine aO.whole (r:=enc .i64 a) zM rfl ?_
 refine ak.nat hi ?_
 refine St.row (l:=bu .i64 l++az) (by repeat (first|exact br.head _|apply br.tail|apply br.bx)) an (by rw[List.length_append,aX];omega) rfl (fj _ _) ?_
 refine DR.self ?_
 (repeat (first|refine Nil.ptr ?_|refine ae.mk ?_|refine Ld.mk zM rfl ?_|refine aB.mk ?_|refine aa.eql ?_|refine aa.neq ?_|refine aa.lss ?_|refine aa.leq ?_|refine aa.gtr ?_|refine aa.geq ?_|refine Un.not ?_|refine Ext.mk rfl ?_|refine aA.mk ?_|refine aa.av ?_|refine aa.ax ?_|refine aa.au ?_|refine Br.yes ?_|refine Br.no ?_))
 rw[←List.append_nil Cm]
 refine dN.bF (p:=i) (A:=[_,_,_]) (B:=[]) hm fun C' hm'=>?_
 refine⟨_,_,rfl,.tail,rfl,?_⟩
 rw[mQ hi,List.append_nil]
 exact .shut (mc an _ _) (by simp) (by simp) hm'
theorem rj{h:Value}{l:List It}{f:Int→Option Nat}{C:Hp}(ho:r9 h l f C){i:Nat}(hi:i<l.length)(bR:l.length<4611686018427387904)(hu:jV l.length (aD l) i)(hc:dJ l f i)(hO:b9 l):
  Fc Tryz.prog 158 #[h,.int .i64 (i:Int)] C (fun v C'=>v=.tuple #[]∧∃l' f' p,r9 h l' f' C'∧l'.Perm l∧Cons l' f'∧tH l'.length (aD l') p∧p<l'.length∧aD l' p=aD l i∧
   (fp l.length (aD l) i→Ord l'.length (aD l'))):=by
 obtain⟨bh,la,mb,az,Cm,rfl,rfl,an,hm⟩:=ho.open (by omega)
 obtain⟨n,hn⟩:∃n,n=l.length:=⟨_,rfl⟩
 obtain⟨a,ha⟩:∃a,a=aD l i:=⟨_,rfl⟩
 intro g
 refine oh (R:=cx _) ?_
 unfold L158
 (repeat (first|refine Nil.ptr ?_|refine ae.mk ?_|refine Ld.mk zM rfl ?_|refine aB.mk ?_|refine aa.eql ?_|refine aa.neq ?_|refine aa.lss ?_|refine aa.leq ?_|refine aa.gtr ?_|refine aa.geq ?_|refine Un.not ?_|refine Ext.mk rfl ?_|refine aA.mk ?_|refine aa.av ?_|refine aa.ax ?_|refine aa.au ?_|refine Br.yes ?_|refine Br.no ?_))
 refine ak.nat hi ?_
 refine aO.row (l:=bu .i64 l++az) zM an (bB hi az) ?_
 intro b6 _
 refine St.whole (r:=enc .i64 (aD l i)) (by repeat (first|exact br.head _|apply br.tail|apply br.bx)) rfl rfl (fj _ _) ?_
 rw[←ha]
 refine⟨fun vs H=>∃(j:Nat) (L:List It) (f:Int→Option Nat) (C:Hp),vs=[.int .i64 (j:Int)]∧H=(b6,Obj.cells (enc .i64 a).toArray 233 (0,0))::C∧r9 (.pointer (some ⟨bh,0,none⟩)) L f C∧L.length=n∧j<n∧
   (L.set j a).Perm l∧jV n (aD (L.set j a)) j∧dJ (L.set j a) f j∧(fp n (aD l) i→fp n (aD (L.set j a)) j),
  fun vs _=>dD vs 0,.mk ⟨i,l,f,_,rfl,rfl,ho,hn.symm,by omega,?_,?_,?_,?_⟩,?_⟩
 ·exact(by rw[ha,fT hi])
 ·rw[ha,fT hi,hn];exact hu
 ·rw[ha,fT hi];exact hc
 ·rw[ha,fT hi];exact id
 rintro w H ⟨j,L,f,C,hw,rfl,ho,x4,hj,hp,hu,hc,fi⟩ gs
 simp only[List.cons.injEq,and_true]at hw
 subst hw
 have vO:=ho
 obtain⟨Dq,la,mb,az,Cm,uf,rfl,an,hm⟩:=ho.open (by omega)
 simp only[Value.pointer.injEq,Option.some.injEq,Addr.mk.injEq,and_true]at uf
 subst uf
 have x3:b9 (L.set j a):=hO.perm hp
 have vS:(L.set j a).length=n:=by simp[x4]
 have uh:aD (L.set j a) j=a:=by rw[bT a (by omega)];simp[cy]
 have A4:0<j→aD (L.set j a) ((j-1) /2)=aD L ((j-1) /2):=fun h0=>by rw[bT a (by omega)];simp[cy,show¬((j-1) /2=j)from by omega]
 intro J hJ
 have hend:¬(0<j∧prec a (aD L ((j-1) /2))=true)→J [.bool false] ((b6,Obj.cells (enc .i64 a).toArray 233 (0,0))::(bh,Obj.cells #[.slice (some ⟨la,0,none⟩) L.length (L.length+az.length),.map (some mb)] 231 (0,0))::(la,.cells (rows (bu .i64 L++az)) 233 (0,0))::Cm):=fun hno=>hJ _ _ fun gs=>by
  refine Br.no ?_
  refine aO.whole (r:=enc .i64 a) zM rfl ?_
  refine ai.fn (.cons .here) (gG vO (i:=j) (by omega) a) ?_
  rintro v C' ⟨rfl,dP⟩
  have hd:=hc.done x3 (by omega)
  rw[uh]at hd
  have hex:=sI hu (by
   by_cases h0:j=0
   ·exact .inl h0
   ·right
    rw[uh,A4 (by omega)]
    cases h:prec a (aD L ((j-1) /2))
    ·rfl
    ·exact absurd ⟨by omega,h⟩ hno)
  rw[←vS]at hex
  exact⟨_,_,rfl,.tail,rfl,_,_,j,dP,hp,hd,hex,by omega,by rw[uh,ha],fun hk=>kN hex (by rw[vS];exact fi (by rw[hn];exact hk))⟩
 refine DR.self ?_
 refine aa.gtr (Br.dec (fun h0=>?_) (fun h0=>JE.mk (hend (fun h=>h0 (by omega)))))
 have h0:0<j:=by omega
 refine aO.whole (r:=enc .i64 a) zM rfl ?_
 (repeat (first|refine Nil.ptr ?_|refine ae.mk ?_|refine Ld.mk zM rfl ?_|refine aB.mk ?_|refine aa.eql ?_|refine aa.neq ?_|refine aa.lss ?_|refine aa.leq ?_|refine aa.gtr ?_|refine aa.geq ?_|refine Un.not ?_|refine Ext.mk rfl ?_|refine aA.mk ?_|refine aa.av ?_|refine aa.ax ?_|refine aa.au ?_|refine Br.yes ?_|refine Br.no ?_))
 refine aa.l7 (c:=((j-1:Nat):Int)) (by omega) (by omega) ?_
 refine aa.qN (by decide) (uF j h0) (by omega) ?_
 refine ak.nat (by omega) ?_
 refine aO.row (l:=bu .i64 L++az) zM an (bB (by omega) az) ?_
 intro F
 refine ai.rd .here (jU a _ _) ?_
 rintro v rfl
 refine⟨.refl _,?_⟩
 cases tV:prec a (aD L ((j-1) /2))with
 |false=>exact aA.mk (JE.mk (hend (fun h=>by rw[tV]at h;exact absurd h.2 (by decide))))
 |true=>
 refine aA.mk (JE.mk (hJ _ _ fun gs=>Br.yes ?_))
 (repeat (first|refine Nil.ptr ?_|refine ae.mk ?_|refine Ld.mk zM rfl ?_|refine aB.mk ?_|refine aa.eql ?_|refine aa.neq ?_|refine aa.lss ?_|refine aa.leq ?_|refine aa.gtr ?_|refine aa.geq ?_|refine Un.not ?_|refine Ext.mk rfl ?_|refine aA.mk ?_|refine aa.av ?_|refine aa.ax ?_|refine aa.au ?_|refine Br.yes ?_|refine Br.no ?_))
 refine aa.l7 (c:=((j-1:Nat):Int)) (by omega) (by omega) ?_
 refine aa.qN (by decide) (uF j h0) (by omega) ?_
 refine ak.nat (by omega) ?_
 refine aO.row (l:=bu .i64 L++az) zM an (bB (by omega) az) ?_
 refine ai.fn (.cons .here) (gG vO (i:=j) (by omega) (aD L ((j-1) /2))) ?_
 rintro v C' ⟨rfl,dP⟩
 refine aa.l7 (c:=((j-1:Nat):Int)) (by omega) (by omega) ?_
 refine aa.qN (by decide) (uF j h0) (by omega) ?_
 have hst:=sH h0 (by rw[←vS]at hj;rw[vS]at hj;exact hj) hu (by rw[uh,A4 h0];exact tV)
 have hcs:=hc.step x3 (i:=j) (q:=(j-1) /2) (by omega) (by omega) (by omega)
 have Az:=(swap_perm (l:=L.set j a) (i:=j) (q:=(j-1) /2) (by omega) (by omega) (by omega)).trans hp
 have u7:(L.set j (aD L ((j-1) /2))).set ((j-1) /2) a=((L.set j a).set j (aD (L.set j a) ((j-1) /2))).set ((j-1) /2) (aD (L.set j a) j):=(jj a (by omega) (by omega) (by omega)).symm
 have lA:aD ((L.set j (aD L ((j-1) /2))).set ((j-1) /2) a)=cy (cy (aD (L.set j a)) j (aD (L.set j a) ((j-1) /2))) ((j-1) /2) (aD (L.set j a) j):=by
  rw[u7,bT _ (by simp;omega),bT _ (by omega)]
 refine aS.mk ⟨(j-1) /2,_,_,C',rfl,rfl,dP,by simp[x4],by omega,?_,?_,?_,fun _=>?_⟩ ?_
 ·rw[u7];exact Az
 ·rw[lA];exact hst.1
 ·rw[u7];rw[A4 h0]at hcs⊢;exact hcs
 ·rw[lA];exact hst.2
 ·simp only[dD,Int.toNat_natCast];omega
end Go.Proofs
set_option maxRecDepth 100000
namespace Go.Proofs
open Go Go.Sx
open r8
theorem mI{h:Value}{l:List It}{f:Int→Option Nat}{C:Hp}(ho:r9 h l f C){i:Nat}(hi:i<l.length)(bR:l.length<4611686018427387904)(hu:tH l.length (aD l) i)(hc:dJ l f i)(hO:b9 l):
  Fc Tryz.prog 160 #[h,.int .i64 (i:Int)] C (fun v C'=>v=.tuple #[]∧∃l' f',r9 h l' f' C'∧l'.Perm l∧Cons l' f'∧Ord l'.length (aD l')):=by
 obtain⟨bh,la,mb,az,Cm,rfl,rfl,an,hm⟩:=ho.open (by omega)
 obtain⟨n,hn⟩:∃n,n=l.length:=⟨_,rfl⟩
 obtain⟨a,ha⟩:∃a,a=aD l i:=⟨_,rfl⟩
 intro g
 refine oe (R:=cx _) ?_
 unfold L160
 (repeat (first|refine Nil.ptr ?_|refine ae.mk ?_|refine Ld.mk zM rfl ?_|refine aB.mk ?_|refine aa.eql ?_|refine aa.neq ?_|refine aa.lss ?_|refine aa.leq ?_|refine aa.gtr ?_|refine aa.geq ?_|refine Un.not ?_|refine Ext.mk rfl ?_|refine aA.mk ?_|refine aa.av ?_|refine aa.ax ?_|refine aa.au ?_|refine Br.yes ?_|refine Br.no ?_))
 refine ak.nat hi ?_
 refine aO.row (l:=bu .i64 l++az) zM an (bB hi az) ?_
 intro b6 _
 refine St.whole (r:=enc .i64 (aD l i)) (by repeat (first|exact br.head _|apply br.tail|apply br.bx)) rfl rfl (fj _ _) ?_
 rw[←ha]
 refine⟨fun vs H=>∃(j:Nat) (L:List It) (f:Int→Option Nat) (C:Hp),vs=[.int .i64 (j:Int)]∧H=(b6,Obj.cells (enc .i64 a).toArray 233 (0,0))::C∧r9 (.pointer (some ⟨bh,0,none⟩)) L f C∧L.length=n∧j<n∧
   (L.set j a).Perm l∧tH n (aD (L.set j a)) j∧dJ (L.set j a) f j,
  fun vs _=>n-dD vs 0,.mk ⟨i,l,f,_,rfl,rfl,ho,hn.symm,by omega,?_,?_,?_⟩,?_⟩
 ·exact(by rw[ha,fT hi])
 ·rw[ha,fT hi,hn];exact hu
 ·rw[ha,fT hi];exact hc
 rintro w H ⟨j,L,f,C,hw,rfl,ho,x4,hj,hp,hu,hc⟩ gs
 simp only[List.cons.injEq,and_true]at hw
 subst hw
 have vO:=ho
 obtain⟨Dq,la,mb,az,Cm,uf,rfl,an,hm⟩:=ho.open (by omega)
 simp only[Value.pointer.injEq,Option.some.injEq,Addr.mk.injEq,and_true]at uf
 subst uf
 have x3:b9 (L.set j a):=hO.perm hp
 have vS:(L.set j a).length=n:=by simp[x4]
 have uh:aD (L.set j a) j=a:=by rw[bT a (by omega)];simp[cy]
 have xX:∀c,c≠j→aD (L.set j a) c=aD L c:=fun c h0=>by rw[bT a (by omega)];simp[cy,h0]
 refine aa.wK (c:=((2*j:Nat):Int)) (by omega) (by omega) ?_
 refine aa.oW (c:=((2*j+1:Nat):Int)) (by omega) (by omega) ?_
 intro J hJ
 obtain⟨c,hcd⟩:∃c,c=mD n (aD (L.set j a)) j:=⟨_,rfl⟩
 have hkc:=g9 n (aD (L.set j a)) j
 rw[←hcd]at hkc
 have eB:J [.int .i64 (c:Int)] ((b6,Obj.cells (enc .i64 a).toArray 233 (0,0))::(bh,Obj.cells #[.slice (some ⟨la,0,none⟩) L.length (L.length+az.length),.map (some mb)] 231 (0,0))::(la,.cells (rows (bu .i64 L++az)) 233 (0,0))::Cm):=by
  refine hJ _ _ fun Fw=>?_
  intro J2 zi
  have hstop:n≤c∨prec (aD L c) a=false→J2 [.bool true] ((b6,Obj.cells (enc .i64 a).toArray 233 (0,0))::(bh,Obj.cells #[.slice (some ⟨la,0,none⟩) L.length (L.length+az.length),.map (some mb)] 231 (0,0))::(la,.cells (rows (bu .i64 L++az)) 233 (0,0))::Cm):=fun hst=>zi _ _ fun gs=>by
   refine Br.yes ?_
   refine aO.whole (r:=enc .i64 a) zM rfl ?_
   refine ai.fn (.cons .here) (gG vO (i:=j) (by omega) a) ?_
   rintro v C' ⟨rfl,dP⟩
   have hd:=hc.done x3 (by omega)
   rw[uh]at hd
   have hex:=pX hu (by
    rw[←hcd]
    by_cases h0:n≤c
    ·exact .inl h0
    ·right
     rw[uh,xX c (by omega)]
     rcases hst with h|h
     ·omega
     ·exact h)
   rw[←vS]at hex
   exact⟨_,_,rfl,.tail,rfl,_,_,dP,hp,hd,hex⟩
  refine DR.self ?_
  (repeat (first|refine Nil.ptr ?_|refine ae.mk ?_|refine Ld.mk zM rfl ?_|refine aB.mk ?_|refine aa.eql ?_|refine aa.neq ?_|refine aa.lss ?_|refine aa.leq ?_|refine aa.gtr ?_|refine aa.geq ?_|refine Un.not ?_|refine Ext.mk rfl ?_|refine aA.mk ?_|refine aa.av ?_|refine aa.ax ?_|refine aa.au ?_|refine Br.yes ?_|refine Br.no ?_))
  refine Br.dec (fun h0=>JE.mk (hstop (.inl (by omega)))) (fun h0=>?_)
  have h0:c<n:=by omega
  (repeat (first|refine Nil.ptr ?_|refine ae.mk ?_|refine Ld.mk zM rfl ?_|refine aB.mk ?_|refine aa.eql ?_|refine aa.neq ?_|refine aa.lss ?_|refine aa.leq ?_|refine aa.gtr ?_|refine aa.geq ?_|refine Un.not ?_|refine Ext.mk rfl ?_|refine aA.mk ?_|refine aa.av ?_|refine aa.ax ?_|refine aa.au ?_|refine Br.yes ?_|refine Br.no ?_))
  refine ak.nat (by omega) ?_
  refine aO.row (l:=bu .i64 L++az) zM an (bB (by omega) az) ?_
  refine aO.whole (r:=enc .i64 a) zM rfl ?_
  intro F
  refine ai.rd .here (jU _ a _) ?_
  rintro v rfl
  refine⟨.refl _,Un.not ?_⟩
  cases tV:prec (aD L c) a with
  |false=>exact aA.mk (JE.mk (hstop (.inr tV)))
  |true=>
  refine aA.mk (JE.mk (zi _ _ fun gs=>Br.no ?_))
  (repeat (first|refine Nil.ptr ?_|refine ae.mk ?_|refine Ld.mk zM rfl ?_|refine aB.mk ?_|refine aa.eql ?_|refine aa.neq ?_|refine aa.lss ?_|refine aa.leq ?_|refine aa.gtr ?_|refine aa.geq ?_|refine Un.not ?_|refine Ext.mk rfl ?_|refine aA.mk ?_|refine aa.av ?_|refine aa.ax ?_|refine aa.au ?_|refine Br.yes ?_|refine Br.no ?_))
  refine ak.nat (by omega) ?_
  refine aO.row (l:=bu .i64 L++az) zM an (bB (by omega) az) ?_
  refine ai.fn (.cons .here) (gG vO (i:=j) (by omega) (aD L c)) ?_
  rintro v C' ⟨rfl,dP⟩
  have xP:c≠j:=by omega
  have hst:=pW hu (by rw[←hcd];exact h0) (by rw[←hcd,uh,xX c xP];exact tV)
  rw[←hcd]at hst
  have hcs:=hc.step x3 (i:=j) (q:=c) (by omega) (by omega) xP
  have Az:=(swap_perm (l:=L.set j a) (i:=j) (q:=c) (by omega) (by omega) xP).trans hp
  have u7:(L.set j (aD L c)).set c a=((L.set j a).set j (aD (L.set j a) c)).set c (aD (L.set j a) j):=(jj a (by omega) (by omega) xP).symm
  have lA:aD ((L.set j (aD L c)).set c a)=cy (cy (aD (L.set j a)) j (aD (L.set j a) c)) c (aD (L.set j a) j):=by
   rw[u7,bT _ (by simp;omega),bT _ (by omega)]
  refine aS.mk ⟨c,_,_,C',rfl,rfl,dP,by simp[x4],by omega,?_,?_,?_⟩ ?_
  ·rw[u7];exact Az
  ·rw[lA];exact hst
  ·rw[u7];rw[xX c xP]at hcs⊢;exact hcs
  ·simp only[dD,Int.toNat_natCast];omega
 intro J3 zh
 have EC:mD n (aD (L.set j a)) j=if(decide (2*j+1+1<n) &&prec (aD L (2*j+1+1)) (aD L (2*j+1)))=true then 2*j+1+1 else 2*j+1:=by
  unfold mD;rw[xX _ (by omega),xX _ (by omega)]
 rw[EC]at hcd
 have hno:¬(2*j+1+1<n∧prec (aD L (2*j+1+1)) (aD L (2*j+1))=true)→J3 [.bool false] ((b6,Obj.cells (enc .i64 a).toArray 233 (0,0))::(bh,Obj.cells #[.slice (some ⟨la,0,none⟩) L.length (L.length+az.length),.map (some mb)] 231 (0,0))::(la,.cells (rows (bu .i64 L++az)) 233 (0,0))::Cm):=fun hx=>zh _ _ fun gs=>by
  rw[if_neg (by simpa using hx)]at hcd
  rw[hcd]at eB
  exact Br.no (.mk eB)
 refine DR.self ?_
 refine aa.oW (c:=((2*j+1+1:Nat):Int)) (by omega) (by omega) ?_
 (repeat (first|refine Nil.ptr ?_|refine ae.mk ?_|refine Ld.mk zM rfl ?_|refine aB.mk ?_|refine aa.eql ?_|refine aa.neq ?_|refine aa.lss ?_|refine aa.leq ?_|refine aa.gtr ?_|refine aa.geq ?_|refine Un.not ?_|refine Ext.mk rfl ?_|refine aA.mk ?_|refine aa.av ?_|refine aa.ax ?_|refine aa.au ?_|refine Br.yes ?_|refine Br.no ?_))
 refine Br.dec (fun h0=>?_) (fun h0=>JE.mk (hno (fun h=>h0 (by omega))))
 have h0:2*j+1+1<n:=by omega
 (repeat (first|refine Nil.ptr ?_|refine ae.mk ?_|refine Ld.mk zM rfl ?_|refine aB.mk ?_|refine aa.eql ?_|refine aa.neq ?_|refine aa.lss ?_|refine aa.leq ?_|refine aa.gtr ?_|refine aa.geq ?_|refine Un.not ?_|refine Ext.mk rfl ?_|refine aA.mk ?_|refine aa.av ?_|refine aa.ax ?_|refine aa.au ?_|refine Br.yes ?_|refine Br.no ?_))
 refine aa.oW (c:=((2*j+1+1:Nat):Int)) (by omega) (by omega) ?_
 refine ak.nat (by omega) ?_
 refine aO.row (l:=bu .i64 L++az) zM an (bB (by omega) az) ?_
 (repeat (first|refine Nil.ptr ?_|refine ae.mk ?_|refine Ld.mk zM rfl ?_|refine aB.mk ?_|refine aa.eql ?_|refine aa.neq ?_|refine aa.lss ?_|refine aa.leq ?_|refine aa.gtr ?_|refine aa.geq ?_|refine Un.not ?_|refine Ext.mk rfl ?_|refine aA.mk ?_|refine aa.av ?_|refine aa.ax ?_|refine aa.au ?_|refine Br.yes ?_|refine Br.no ?_))
 refine ak.nat (by omega) ?_
 refine aO.row (l:=bu .i64 L++az) zM an (bB (by omega) az) ?_
 intro F
 refine ai.rd .here (jU _ _ _) ?_
 rintro v rfl
 refine⟨.refl _,?_⟩
 cases tV:prec (aD L (2*j+1+1)) (aD L (2*j+1))with
 |false=>exact aA.mk (JE.mk (hno (fun h=>by rw[tV]at h;exact absurd h.2 (by decide))))
 |true=>
 refine aA.mk (JE.mk (zh _ _ fun gs=>Br.yes ?_))
 refine aa.oW (c:=((2*j+1+1:Nat):Int)) (by omega) (by omega) ?_
 rw[if_pos (by simp[h0,tV])]at hcd
 rw[hcd]at eB
 exact .mk eB
theorem tc(B:Hp):Fc Tryz.prog 76 #[] B (fun v H=>∃b C,v=.pointer (some ⟨b,0,none⟩)∧H=C++B∧qA (.pointer (some ⟨b,0,none⟩)) [] C):=by
 intro g
 refine qc (R:=cx _) ?_
 unfold L76
 refine Build.mk (cs:=[.slice none 0 0,.map none]) (by kernel_rfl) ?_
 intro b _
 exact⟨_,_,rfl,.refl _,b,[_],rfl,rfl,fun _=>none,⟨b,_,_,[],[],rfl,rfl,bC.nil _ _,.inl ⟨rfl,rfl,rfl⟩,fun _=>rfl⟩,⟨fun j hj=>by simp at hj,fun _ _=>rfl⟩,fun j _ hj=>by simp at hj,by simp[b9]⟩
theorem td{h:Value}{l:List It}{C:Hp}(hi:qA h l C)(x:Int):
  Rd Tryz.prog 79 #[h,.int .i64 x] C (fun v=>(x∉l.map Prod.fst∧v=.tuple #[.int .i64 0,.int .i64 10])∨∃k,(x,k)∈l∧v=.tuple #[.int .i64 k,.int .i64 0]):=by
 obtain⟨f,ho,hc,_,_⟩:=hi
 intro g
 refine qa (R:=cx _) ?_
 unfold L79
 rcases jP hc (x:=x)with⟨h1,h2⟩|⟨i,hi,h1,h2⟩
 ·obtain⟨bh,sv,mv,Cs,Cm,rfl,rfl,hs,hm,hne⟩:=ho
  (repeat (first|refine Nil.ptr ?_|refine ae.mk ?_|refine Ld.mk zM rfl ?_|refine aB.mk ?_|refine aa.eql ?_|refine aa.neq ?_|refine aa.lss ?_|refine aa.leq ?_|refine aa.gtr ?_|refine aa.geq ?_|refine Un.not ?_|refine Ext.mk rfl ?_|refine aA.mk ?_|refine aa.av ?_|refine aa.ax ?_|refine aa.au ?_|refine Br.yes ?_|refine Br.no ?_))
  refine hm.g8 zS h2 ?_
  (repeat (first|refine Nil.ptr ?_|refine ae.mk ?_|refine Ld.mk zM rfl ?_|refine aB.mk ?_|refine aa.eql ?_|refine aa.neq ?_|refine aa.lss ?_|refine aa.leq ?_|refine aa.gtr ?_|refine aa.geq ?_|refine Un.not ?_|refine Ext.mk rfl ?_|refine aA.mk ?_|refine aa.av ?_|refine aa.ax ?_|refine aa.au ?_|refine Br.yes ?_|refine Br.no ?_))
  exact e7.mk (.refl _) (.inl ⟨h1,rfl⟩)
 ·obtain⟨bh,la,mb,az,Cm,rfl,rfl,an,hm⟩:=ho.open (by omega)
  (repeat (first|refine Nil.ptr ?_|refine ae.mk ?_|refine Ld.mk zM rfl ?_|refine aB.mk ?_|refine aa.eql ?_|refine aa.neq ?_|refine aa.lss ?_|refine aa.leq ?_|refine aa.gtr ?_|refine aa.geq ?_|refine Un.not ?_|refine Ext.mk rfl ?_|refine aA.mk ?_|refine aa.av ?_|refine aa.ax ?_|refine aa.au ?_|refine Br.yes ?_|refine Br.no ?_))
  refine hm.fh zS h2 ?_
  (repeat (first|refine Nil.ptr ?_|refine ae.mk ?_|refine Ld.mk zM rfl ?_|refine aB.mk ?_|refine aa.eql ?_|refine aa.neq ?_|refine aa.lss ?_|refine aa.leq ?_|refine aa.gtr ?_|refine aa.geq ?_|refine Un.not ?_|refine Ext.mk rfl ?_|refine aA.mk ?_|refine aa.av ?_|refine aa.ax ?_|refine aa.au ?_|refine Br.yes ?_|refine Br.no ?_))
  refine ak.nat hi ?_
  (repeat (first|refine Nil.ptr ?_|refine ae.mk ?_|refine Ld.mk zM rfl ?_|refine aB.mk ?_|refine aa.eql ?_|refine aa.neq ?_|refine aa.lss ?_|refine aa.leq ?_|refine aa.gtr ?_|refine aa.geq ?_|refine Un.not ?_|refine Ext.mk rfl ?_|refine aA.mk ?_|refine aa.av ?_|refine aa.ax ?_|refine aa.au ?_|refine Br.yes ?_|refine Br.no ?_))
  refine Ld.row (l:=bu .i64 l++az) (j:=1) zM an (bB hi az) rfl ?_
  refine e7.mk (.refl _) (.inr ⟨_,?_,rfl⟩)
  have:=oU hi
  rw[←h1];exact List.mem_of_getElem? this
theorem mG{h:Value}{l:List It}{C:Hp}(hi:qA h l C)(bR:l.length<4398046511104)(x k:Int):
  Fc Tryz.prog 77 #[h,.int .i64 x,.int .i64 k] C (fun v C'=>∃l',qA h l' C'∧
   ((x∈l.map Prod.fst∧v=.int .i64 11∧l'=l)∨(x∉l.map Prod.fst∧v=.int .i64 0∧l'.Perm ((x,k)::l)))):=by
 have tf:=hi
 obtain⟨f,ho,hc,hO,h1⟩:=hi
 have vO:=ho
 obtain⟨bh,sv,mv,Cs,Cm,rfl,rfl,hs,hm,hne⟩:=ho
 intro g
 refine qb (R:=cx _) ?_
 unfold L77
 (repeat (first|refine Nil.ptr ?_|refine ae.mk ?_|refine Ld.mk zM rfl ?_|refine aB.mk ?_|refine aa.eql ?_|refine aa.neq ?_|refine aa.lss ?_|refine aa.leq ?_|refine aa.gtr ?_|refine aa.geq ?_|refine Un.not ?_|refine Ext.mk rfl ?_|refine aA.mk ?_|refine aa.av ?_|refine aa.ax ?_|refine aa.au ?_|refine Br.yes ?_|refine Br.no ?_))
 rcases jP hc (x:=x)with⟨hx,hf⟩|⟨i,hi,hx,hf⟩
 ·refine hm.g8 zS hf ?_
  (repeat (first|refine Nil.ptr ?_|refine ae.mk ?_|refine Ld.mk zM rfl ?_|refine aB.mk ?_|refine aa.eql ?_|refine aa.neq ?_|refine aa.lss ?_|refine aa.leq ?_|refine aa.gtr ?_|refine aa.geq ?_|refine Un.not ?_|refine Ext.mk rfl ?_|refine aA.mk ?_|refine aa.av ?_|refine aa.ax ?_|refine aa.au ?_|refine Br.yes ?_|refine Br.no ?_))
  intro J hJ
  obtain⟨AD,gV,yW,yV⟩:=qO (a:=(x,k)) hc hO h1 hx
  have eB:∀mb tK,dN .i64 idx (.map (some mb)) f tK→J [] ((bh,Obj.cells #[sv,.map (some mb)] 231 (0,0))::(Cs++tK)):=by
   intro mb tK hm'
   refine hJ _ fun gs=>?_
   (repeat (first|refine Nil.ptr ?_|refine ae.mk ?_|refine Ld.mk zM rfl ?_|refine aB.mk ?_|refine aa.eql ?_|refine aa.neq ?_|refine aa.lss ?_|refine aa.leq ?_|refine aa.gtr ?_|refine aa.geq ?_|refine Un.not ?_|refine Ext.mk rfl ?_|refine aA.mk ?_|refine aa.av ?_|refine aa.ax ?_|refine aa.au ?_|refine Br.yes ?_|refine Br.no ?_))
   refine Build.mk (cs:=enc .i64 (x,k)) (by kernel_rfl) ?_
   refine aG.one (k:=2) (e:=233) (z:=.agg #[.int .i64 0,.int .i64 0]) (by kernel_rfl) (by kernel_rfl) (by kernel_rfl) (by decide) rfl fun xb=>?_
   refine hs.tA (A:=[_,_]) (B:=tK) (r:=enc .i64 (x,k)) zM rfl (fj _ _) ⟨[.int .i64 0,.int .i64 0],rfl,rfl⟩ (by rw[aX];omega) (by rw[aX];omega) fun v' C' hs'=>?_
   (repeat (first|refine Nil.ptr ?_|refine ae.mk ?_|refine Ld.mk zM rfl ?_|refine aB.mk ?_|refine aa.eql ?_|refine aa.neq ?_|refine aa.lss ?_|refine aa.leq ?_|refine aa.gtr ?_|refine aa.geq ?_|refine Un.not ?_|refine Ext.mk rfl ?_|refine aA.mk ?_|refine aa.av ?_|refine aa.ax ?_|refine aa.au ?_|refine Br.yes ?_|refine Br.no ?_))
   refine St.one (by repeat (first|exact br.head _|apply br.tail|apply br.bx)) (by obtain⟨a,c,rfl⟩:=hs'.len;rfl) (by simp) rfl ?_
   (repeat (first|refine Nil.ptr ?_|refine ae.mk ?_|refine Ld.mk zM rfl ?_|refine aB.mk ?_|refine aa.eql ?_|refine aa.neq ?_|refine aa.lss ?_|refine aa.leq ?_|refine aa.gtr ?_|refine aa.geq ?_|refine Un.not ?_|refine Ext.mk rfl ?_|refine aA.mk ?_|refine aa.av ?_|refine aa.ax ?_|refine aa.au ?_|refine Br.yes ?_|refine Br.no ?_))
   refine hs'.bQ ?_
   refine aa.l7 (c:=((l.length:Nat):Int)) (by rw[List.length_append,aX];simp) (by omega) ?_
   have xf:bC 233 2 v' (bu .i64 (l++[(x,k)])) C':=by simpa[bu]using hs'
   have dP:r9 (.pointer (some ⟨bh,0,none⟩)) (l++[(x,k)]) f ((bh,Obj.cells #[v',.map (some mb)] 231 (0,0))::(C'++tK)):=
    ⟨bh,_,_,C',tK,rfl,rfl,xf,hm',fun h=>by simp at h⟩
   refine ai.pre (.tail) ?_
   refine ai.fn .here (rj dP (i:=l.length) (by simp) (by simp;omega) AD gV yW) ?_
   rintro v wk ⟨rfl,l',f',p,ry,bJ,zb,hex,hp,lA,uQ⟩
   refine⟨_,_,rfl,.refl _,l',⟨f',ry,zb,uQ yV,yW.perm bJ⟩,.inr ⟨hx,rfl,bJ.trans ?_⟩⟩
   exact List.perm_append_comm (l₁:=l) (l₂:=[(x,k)])
  (repeat (first|refine Nil.ptr ?_|refine ae.mk ?_|refine Ld.mk zM rfl ?_|refine aB.mk ?_|refine aa.eql ?_|refine aa.neq ?_|refine aa.lss ?_|refine aa.leq ?_|refine aa.gtr ?_|refine aa.geq ?_|refine Un.not ?_|refine Ext.mk rfl ?_|refine aA.mk ?_|refine aa.av ?_|refine aa.ax ?_|refine aa.au ?_|refine Br.yes ?_|refine Br.no ?_))
  rcases hm with⟨rfl,rfl,hfn⟩|⟨mb,m,ck,rfl,h2⟩
  ·(repeat (first|refine Nil.ptr ?_|refine ae.mk ?_|refine Ld.mk zM rfl ?_|refine aB.mk ?_|refine aa.eql ?_|refine aa.neq ?_|refine aa.lss ?_|refine aa.leq ?_|refine aa.gtr ?_|refine aa.geq ?_|refine Un.not ?_|refine Ext.mk rfl ?_|refine aA.mk ?_|refine aa.av ?_|refine aa.ax ?_|refine aa.au ?_|refine Br.yes ?_|refine Br.no ?_))
   intro mb _
   (repeat (first|refine Nil.ptr ?_|refine ae.mk ?_|refine Ld.mk zM rfl ?_|refine aB.mk ?_|refine aa.eql ?_|refine aa.neq ?_|refine aa.lss ?_|refine aa.leq ?_|refine aa.gtr ?_|refine aa.geq ?_|refine Un.not ?_|refine Ext.mk rfl ?_|refine aA.mk ?_|refine aa.av ?_|refine aa.ax ?_|refine aa.au ?_|refine Br.yes ?_|refine Br.no ?_))
   refine St.one (by repeat (first|exact br.head _|apply br.tail|apply br.bx)) rfl (by simp) rfl ?_
   refine JE.of ?_ (eB mb _ (by rw[hfn];exact dN.made mb))
   simp only[List.append_nil]
   refine .perm ?_
   refine(List.Perm.swap _ _ _).trans (.cons _ ?_)
   exact List.perm_append_comm (l₁:=[_])
  ·(repeat (first|refine Nil.ptr ?_|refine ae.mk ?_|refine Ld.mk zM rfl ?_|refine aB.mk ?_|refine aa.eql ?_|refine aa.neq ?_|refine aa.lss ?_|refine aa.leq ?_|refine aa.gtr ?_|refine aa.geq ?_|refine Un.not ?_|refine Ext.mk rfl ?_|refine aA.mk ?_|refine aa.av ?_|refine aa.ax ?_|refine aa.au ?_|refine Br.yes ?_|refine Br.no ?_))
   refine JE.mk ?_
   exact eB mb Cm (.inr ⟨mb,m,ck,rfl,h2⟩)
 ·refine hm.fh zS hf ?_
  (repeat (first|refine Nil.ptr ?_|refine ae.mk ?_|refine Ld.mk zM rfl ?_|refine aB.mk ?_|refine aa.eql ?_|refine aa.neq ?_|refine aa.lss ?_|refine aa.leq ?_|refine aa.gtr ?_|refine aa.geq ?_|refine Un.not ?_|refine Ext.mk rfl ?_|refine aA.mk ?_|refine aa.av ?_|refine aa.ax ?_|refine aa.au ?_|refine Br.yes ?_|refine Br.no ?_))
  refine⟨_,_,rfl,.refl _,l,tf,.inl ⟨?_,rfl,rfl⟩⟩
  rw[cI];exact⟨i,hi,hx⟩
theorem rA{h:Value}{l:List It}{C:Hp}(hi:qA h l C)(bR:l.length<4398046511104)(x k:Int):
  Fc Tryz.prog 80 #[h,.int .i64 x,.int .i64 k] C (fun v C'=>∃l',qA h l' C'∧
   ((x∉l.map Prod.fst∧v=.int .i64 10∧l'=l)∨(∃k0 r,l.Perm ((x,k0)::r)∧l'.Perm ((x,k)::r)∧v=.int .i64 0))):=by
 have tf:=hi
 obtain⟨f,ho,hc,hO,h1⟩:=hi
 intro g
 refine p9 (R:=cx _) ?_
 unfold L80
 rcases jP hc (x:=x)with⟨hx,hf⟩|⟨i,hi,hx,hf⟩
 ·obtain⟨bh,sv,mv,Cs,Cm,rfl,rfl,hs,hm,hne⟩:=ho
  (repeat (first|refine Nil.ptr ?_|refine ae.mk ?_|refine Ld.mk zM rfl ?_|refine aB.mk ?_|refine aa.eql ?_|refine aa.neq ?_|refine aa.lss ?_|refine aa.leq ?_|refine aa.gtr ?_|refine aa.geq ?_|refine Un.not ?_|refine Ext.mk rfl ?_|refine aA.mk ?_|refine aa.av ?_|refine aa.ax ?_|refine aa.au ?_|refine Br.yes ?_|refine Br.no ?_))
  refine hm.g8 zS hf ?_
  (repeat (first|refine Nil.ptr ?_|refine ae.mk ?_|refine Ld.mk zM rfl ?_|refine aB.mk ?_|refine aa.eql ?_|refine aa.neq ?_|refine aa.lss ?_|refine aa.leq ?_|refine aa.gtr ?_|refine aa.geq ?_|refine Un.not ?_|refine Ext.mk rfl ?_|refine aA.mk ?_|refine aa.av ?_|refine aa.ax ?_|refine aa.au ?_|refine Br.yes ?_|refine Br.no ?_))
  exact⟨_,_,rfl,.refl _,l,tf,.inl ⟨hx,rfl,rfl⟩⟩
 ·obtain⟨bh,la,mb,az,Cm,rfl,rfl,an,hm⟩:=ho.open (by omega)
  (repeat (first|refine Nil.ptr ?_|refine ae.mk ?_|refine Ld.mk zM rfl ?_|refine aB.mk ?_|refine aa.eql ?_|refine aa.neq ?_|refine aa.lss ?_|refine aa.leq ?_|refine aa.gtr ?_|refine aa.geq ?_|refine Un.not ?_|refine Ext.mk rfl ?_|refine aA.mk ?_|refine aa.av ?_|refine aa.ax ?_|refine aa.au ?_|refine Br.yes ?_|refine Br.no ?_))
  refine hm.fh zS hf ?_
  (repeat (first|refine Nil.ptr ?_|refine ae.mk ?_|refine Ld.mk zM rfl ?_|refine aB.mk ?_|refine aa.eql ?_|refine aa.neq ?_|refine aa.lss ?_|refine aa.leq ?_|refine aa.gtr ?_|refine aa.geq ?_|refine Un.not ?_|refine Ext.mk rfl ?_|refine aA.mk ?_|refine aa.av ?_|refine aa.ax ?_|refine aa.au ?_|refine Br.yes ?_|refine Br.no ?_))
  refine ak.nat hi ?_
  (repeat (first|refine Nil.ptr ?_|refine ae.mk ?_|refine Ld.mk zM rfl ?_|refine aB.mk ?_|refine aa.eql ?_|refine aa.neq ?_|refine aa.lss ?_|refine aa.leq ?_|refine aa.gtr ?_|refine aa.geq ?_|refine Un.not ?_|refine Ext.mk rfl ?_|refine aA.mk ?_|refine aa.av ?_|refine aa.ax ?_|refine aa.au ?_|refine Br.yes ?_|refine Br.no ?_))
  refine St.cell (l:=bu .i64 l++az) (j:=1) (by repeat (first|exact br.head _|apply br.tail|apply br.bx)) an (bB hi az) (by decide) rfl ?_
  obtain⟨p1,p2,p3⟩:=qZ hc hO h1 hi k
  have s6:(bu .i64 l++az).set i ((enc .i64 (aD l i)).set 1 (.int .i64 k))=bu .i64 (l.set i ((aD l i).1,k))++az:=by
   rw[←mQ hi];rfl
  rw[s6]
  obtain⟨r,En,xk⟩:=sP hi ((aD l i).1,k)
  have dP:r9 (.pointer (some ⟨bh,0,none⟩)) (l.set i ((aD l i).1,k)) f ((bh,Obj.cells #[.slice (some ⟨la,0,none⟩) l.length (l.length+az.length),.map (some mb)] 231 (0,0))::(la,.cells (rows (bu .i64 (l.set i ((aD l i).1,k))++az)) 233 (0,0))::Cm):=
   .shut (mc an _ _) (by simp) (by simp) hm
  refine ai.fn .here (rj dP (i:=i) (by simpa using hi) (by simp;omega) p1 p2 p3) ?_
  rintro v C' ⟨rfl,l',f',p,ry,bJ,zb,hex,hp,lA,_⟩
  have C7:=p3.perm bJ
  have hlen:=bJ.length_eq
  simp only[List.length_set]at hlen
  obtain⟨Dq,sx,Gc,oO,tK,uf,rfl,mK,hm'⟩:=ry.open (by omega)
  simp only[Value.pointer.injEq,Option.some.injEq,Addr.mk.injEq,and_true]at uf
  subst uf
  have EI:f' x=some p:=by
   have:=zb.1 p hp
   rw[lA,bT _ hi]at this
   simp only[cy,if_true]at this
   rw[←hx];exact this
  (repeat (first|refine Nil.ptr ?_|refine ae.mk ?_|refine Ld.mk zM rfl ?_|refine aB.mk ?_|refine aa.eql ?_|refine aa.neq ?_|refine aa.lss ?_|refine aa.leq ?_|refine aa.gtr ?_|refine aa.geq ?_|refine Un.not ?_|refine Ext.mk rfl ?_|refine aA.mk ?_|refine aa.av ?_|refine aa.ax ?_|refine aa.au ?_|refine Br.yes ?_|refine Br.no ?_))
  refine hm'.fh zS EI ?_
  refine ai.fn .here (mI (.shut mK rfl rfl hm') (i:=p) hp (by omega) hex (zb.x p) C7) ?_
  rintro v C2 ⟨rfl,l2,f2,AE,ru,AY,uQ⟩
  refine⟨_,_,rfl,.refl _,l2,⟨f2,AE,AY,uQ,C7.perm ru⟩,.inr ⟨(aD l i).2,r,?_,?_,rfl⟩⟩
  ·rw[←hx];exact En
  ·rw[←hx];exact ru.trans (bJ.trans xk)
theorem s9{h:Value}{l:List It}{C:Hp}(hi:qA h l C)(bR:l.length<4398046511104):
  Fc Tryz.prog 78 #[h] C (fun v C'=>∃l',qA h l' C'∧
   ((l=[]∧v=.tuple #[.int .i64 0,.int .i64 0,.int .i64 10]∧l'=l)∨(∃a,l.Perm (a::l')∧(∀b∈l,prec b a=false)∧v=.tuple #[.int .i64 a.1,.int .i64 a.2,.int .i64 0]))):=by
 have tf:=hi
 obtain⟨f,ho,hc,hO,h1⟩:=hi
 by_cases hl:l=[]
 ·subst hl
  intro g
  refine kS (R:=cx _) ?_
  unfold L78
  obtain⟨bh,sv,mv,Cs,Cm,rfl,rfl,hs,hm,hne⟩:=ho
  (repeat (first|refine Nil.ptr ?_|refine ae.mk ?_|refine Ld.mk zM rfl ?_|refine aB.mk ?_|refine aa.eql ?_|refine aa.neq ?_|refine aa.lss ?_|refine aa.leq ?_|refine aa.gtr ?_|refine aa.geq ?_|refine Un.not ?_|refine Ext.mk rfl ?_|refine aA.mk ?_|refine aa.av ?_|refine aa.ax ?_|refine aa.au ?_|refine Br.yes ?_|refine Br.no ?_))
  refine cw.or true (fun _=>?_) rfl fun _=>?_
  ·(repeat (first|refine Nil.ptr ?_|refine ae.mk ?_|refine Ld.mk zM rfl ?_|refine aB.mk ?_|refine aa.eql ?_|refine aa.neq ?_|refine aa.lss ?_|refine aa.leq ?_|refine aa.gtr ?_|refine aa.geq ?_|refine Un.not ?_|refine Ext.mk rfl ?_|refine aA.mk ?_|refine aa.av ?_|refine aa.ax ?_|refine aa.au ?_|refine Br.yes ?_|refine Br.no ?_))
   refine hs.bQ ?_
   (repeat (first|refine Nil.ptr ?_|refine ae.mk ?_|refine Ld.mk zM rfl ?_|refine aB.mk ?_|refine aa.eql ?_|refine aa.neq ?_|refine aa.lss ?_|refine aa.leq ?_|refine aa.gtr ?_|refine aa.geq ?_|refine Un.not ?_|refine Ext.mk rfl ?_|refine aA.mk ?_|refine aa.av ?_|refine aa.ax ?_|refine aa.au ?_|refine Br.yes ?_|refine Br.no ?_))
   exact⟨rfl,rfl⟩
  ·(repeat (first|refine Nil.ptr ?_|refine ae.mk ?_|refine Ld.mk zM rfl ?_|refine aB.mk ?_|refine aa.eql ?_|refine aa.neq ?_|refine aa.lss ?_|refine aa.leq ?_|refine aa.gtr ?_|refine aa.geq ?_|refine Un.not ?_|refine Ext.mk rfl ?_|refine aA.mk ?_|refine aa.av ?_|refine aa.ax ?_|refine aa.au ?_|refine Br.yes ?_|refine Br.no ?_))
   exact⟨_,_,rfl,.refl _,[],tf,.inl ⟨rfl,rfl,rfl⟩⟩
 ·obtain⟨n,hn⟩:∃n,l.length=n+1:=⟨l.length-1,by have:=List.length_pos_iff.2 hl;omega⟩
  have hmin:∀b∈l,prec b (aD l 0)=false:=fun b hb=>by
   obtain⟨j,hj,e⟩:=List.mem_iff_getElem.1 hb
   have:=sQ hO j hj
   rwa [show aD l j=b by simp[aD,List.getD,hj,e]]at this
  intro g
  refine kS (R:=cx _) ?_
  obtain⟨bh,la,mb,az,Cm,rfl,rfl,an,hm⟩:=ho.open (by omega)
  unfold L78
  (repeat (first|refine Nil.ptr ?_|refine ae.mk ?_|refine Ld.mk zM rfl ?_|refine aB.mk ?_|refine aa.eql ?_|refine aa.neq ?_|refine aa.lss ?_|refine aa.leq ?_|refine aa.gtr ?_|refine aa.geq ?_|refine Un.not ?_|refine Ext.mk rfl ?_|refine aA.mk ?_|refine aa.av ?_|refine aa.ax ?_|refine aa.au ?_|refine Br.yes ?_|refine Br.no ?_))
  refine cw.or false (fun _=>?_) rfl fun _=>?_
  ·(repeat (first|refine Nil.ptr ?_|refine ae.mk ?_|refine Ld.mk zM rfl ?_|refine aB.mk ?_|refine aa.eql ?_|refine aa.neq ?_|refine aa.lss ?_|refine aa.leq ?_|refine aa.gtr ?_|refine aa.geq ?_|refine Un.not ?_|refine Ext.mk rfl ?_|refine aA.mk ?_|refine aa.av ?_|refine aa.ax ?_|refine aa.au ?_|refine Br.yes ?_|refine Br.no ?_))
   exact⟨rfl,by rw[hn];simp;omega⟩
  (repeat (first|refine Nil.ptr ?_|refine ae.mk ?_|refine Ld.mk zM rfl ?_|refine aB.mk ?_|refine aa.eql ?_|refine aa.neq ?_|refine aa.lss ?_|refine aa.leq ?_|refine aa.gtr ?_|refine aa.geq ?_|refine Un.not ?_|refine Ext.mk rfl ?_|refine aA.mk ?_|refine aa.av ?_|refine aa.ax ?_|refine aa.au ?_|refine Br.yes ?_|refine Br.no ?_))
  refine ak.of 0 rfl (by omega) ?_
  refine aO.row (l:=bu .i64 l++az) zM an (bB (by omega) az) ?_
  intro wc _
  refine St.whole (r:=enc .i64 (aD l 0)) (by repeat (first|exact br.head _|apply br.tail|apply br.bx)) rfl rfl (fj _ _) ?_
  (repeat (first|refine Nil.ptr ?_|refine ae.mk ?_|refine Ld.mk zM rfl ?_|refine aB.mk ?_|refine aa.eql ?_|refine aa.neq ?_|refine aa.lss ?_|refine aa.leq ?_|refine aa.gtr ?_|refine aa.geq ?_|refine Un.not ?_|refine Ext.mk rfl ?_|refine aA.mk ?_|refine aa.av ?_|refine aa.ax ?_|refine aa.au ?_|refine Br.yes ?_|refine Br.no ?_))
  refine aa.l7 (c:=(n:Int)) (by rw[hn];simp) (by omega) ?_
  (repeat (first|refine Nil.ptr ?_|refine ae.mk ?_|refine Ld.mk zM rfl ?_|refine aB.mk ?_|refine aa.eql ?_|refine aa.neq ?_|refine aa.lss ?_|refine aa.leq ?_|refine aa.gtr ?_|refine aa.geq ?_|refine Un.not ?_|refine Ext.mk rfl ?_|refine aA.mk ?_|refine aa.av ?_|refine aa.ax ?_|refine aa.au ?_|refine Br.yes ?_|refine Br.no ?_))
  refine ak.nat (by omega) ?_
  refine aO.row (l:=bu .i64 l++az) zM an (bB (by omega) az) ?_
  intro zo _
  refine St.whole (r:=enc .i64 (aD l n)) (by repeat (first|exact br.head _|apply br.tail|apply br.bx)) rfl rfl (fj _ _) ?_
  (repeat (first|refine Nil.ptr ?_|refine ae.mk ?_|refine Ld.mk zM rfl ?_|refine aB.mk ?_|refine aa.eql ?_|refine aa.neq ?_|refine aa.lss ?_|refine aa.leq ?_|refine aa.gtr ?_|refine aa.geq ?_|refine Un.not ?_|refine Ext.mk rfl ?_|refine aA.mk ?_|refine aa.av ?_|refine aa.ax ?_|refine aa.au ?_|refine Br.yes ?_|refine Br.no ?_))
  refine e5.upto (h:=n) (by omega) ?_
  (repeat (first|refine Nil.ptr ?_|refine ae.mk ?_|refine Ld.mk zM rfl ?_|refine aB.mk ?_|refine aa.eql ?_|refine aa.neq ?_|refine aa.lss ?_|refine aa.leq ?_|refine aa.gtr ?_|refine aa.geq ?_|refine Un.not ?_|refine Ext.mk rfl ?_|refine aA.mk ?_|refine aa.av ?_|refine aa.ax ?_|refine aa.au ?_|refine Br.yes ?_|refine Br.no ?_))
  refine St.one (by repeat (first|exact br.head _|apply br.tail|apply br.bx)) rfl (by simp) rfl ?_
  refine DR.self ?_
  (repeat (first|refine Nil.ptr ?_|refine ae.mk ?_|refine Ld.mk zM rfl ?_|refine aB.mk ?_|refine aa.eql ?_|refine aa.neq ?_|refine aa.lss ?_|refine aa.leq ?_|refine aa.gtr ?_|refine aa.geq ?_|refine Un.not ?_|refine Ext.mk rfl ?_|refine aA.mk ?_|refine aa.av ?_|refine aa.ax ?_|refine aa.au ?_|refine Br.yes ?_|refine Br.no ?_))
  rw[←List.append_nil Cm]
  refine dN.del (A:=[_,_,_,_]) (B:=[]) hm fun tK hm'=>?_
  rw[List.append_nil]
  have tU:bu .i64 l++az=bu .i64 (l.take n)++(enc .i64 (aD l n)::az):=by
   have e:l=l.take n++[aD l n]:=by
    have h2:l.drop n=[aD l n]:=by
     rw[List.drop_eq_getElem_cons (by omega),List.drop_eq_nil_of_le (by omega)]
     simp[hn,aD,List.getD]
    have:=(List.take_append_drop n l).symm
    rw[h2]at this;exact this
   conv=>lhs;rw[e]
   simp[bu]
  have mK:∀r∈bu .i64 (l.take n)++(enc .i64 (aD l n)::az),r.length=2:=by rw[←tU];exact an
  intro J hJ
  have hlt:(l.take n).length=n:=by simp[hn]
  have eB:∀l' C',qA (.pointer (some ⟨bh,0,none⟩)) l' C'→l.Perm (aD l 0::l')→J [] ((zo,Obj.cells (enc .i64 (aD l n)).toArray 233 (0,0))::(wc,Obj.cells (enc .i64 (aD l 0)).toArray 233 (0,0))::C'):=by
   intro l' C' hi' Eu
   refine hJ _ fun gs=>?_
   (repeat (first|refine Nil.ptr ?_|refine ae.mk ?_|refine Ld.mk zM rfl ?_|refine aB.mk ?_|refine aa.eql ?_|refine aa.neq ?_|refine aa.lss ?_|refine aa.leq ?_|refine aa.gtr ?_|refine aa.geq ?_|refine Un.not ?_|refine Ext.mk rfl ?_|refine aA.mk ?_|refine aa.av ?_|refine aa.ax ?_|refine aa.au ?_|refine Br.yes ?_|refine Br.no ?_))
   exact⟨_,_,rfl,.skip .tail,l',hi',.inr ⟨_,Eu,hmin,rfl⟩⟩
  (repeat (first|refine Nil.ptr ?_|refine ae.mk ?_|refine Ld.mk zM rfl ?_|refine aB.mk ?_|refine aa.eql ?_|refine aa.neq ?_|refine aa.lss ?_|refine aa.leq ?_|refine aa.gtr ?_|refine aa.geq ?_|refine Un.not ?_|refine Ext.mk rfl ?_|refine aA.mk ?_|refine aa.av ?_|refine aa.ax ?_|refine aa.au ?_|refine Br.yes ?_|refine Br.no ?_))
  have uS:r9 (.pointer (some ⟨bh,0,none⟩)) (l.take n) (nc f (aD l 0).1 none) ((bh,Obj.cells #[.slice (some ⟨la,0,none⟩) n (l.length+az.length),.map (some mb)] 231 (0,0))::(la,.cells (rows (bu .i64 l++az)) 233 (0,0))::tK):=by
   rw[tU]
   exact .shut mK hlt.symm (by simp[hn];omega) hm'
  refine Br.mk (fun h0=>?_) (fun h0=>?_)
  ·have h0:0<n:=by simpa using h0
   obtain⟨_,q1,q2,q3,q4⟩:=sO hc hO h1 hn h0
   refine aO.whole (r:=enc .i64 (aD l n)) zM rfl ?_
   refine ai.fn (.cons (.cons .here)) (gG uS (i:=0) (by omega) (aD l n)) ?_
   rintro v C2 ⟨rfl,ry⟩
   have EM:dJ ((l.take n).set 0 (aD l n)) (nc (nc f (aD l 0).1 none) (aD l n).1 (some 0)) 0:=by
    refine⟨fun j hj xE=>?_,fun x hx=>?_⟩
    ·unfold nc
     rw[if_neg]
     ·exact q4.1 j hj xE
     ·intro e
      have E7:aD ((l.take n).set 0 (aD l n)) 0=aD l n:=by rw[bT _ (by omega)];simp[cy]
      exact xE (q3.inj hj (by simp;omega) (by rw[e,E7]))
    ·unfold nc
     rw[if_neg]
     ·exact q4.2 x hx
     ·intro e
      refine hx (cI.2 ⟨0,by simp;omega,?_⟩)
      rw[bT _ (by omega)];simp[cy,e]
   refine ai.fn (.cons (.cons .here)) (mI ry (i:=0) (by simp;omega) (by simp;omega) (by simpa[hn]using q2) EM q3) ?_
   rintro v C3 ⟨rfl,l3,f3,AE,rq,AY,xp⟩
   exact JE.mk (eB l3 C3 ⟨f3,AE,AY,xp,q3.perm rq⟩ ((rq.cons (aD l 0)).trans q1).symm)
  ·have h0:n=0:=by simp at h0;omega
   subst h0
   refine JE.mk (eB (l.take 0) _ ⟨_,uS,⟨fun j hj=>by simp at hj,fun x _=>?_⟩,fun j _ hj=>by simp at hj,by simp[b9]⟩ ?_)
   ·unfold nc
    split
    ·rfl
    ·rename_i hne
     refine hc.2 x fun hm=>hne ?_
     obtain⟨j,hj,e⟩:=cI.1 hm
     rw[show j=0 by omega]at e;exact e.symm
   ·match l,hn with
    | [a],_=>exact .refl _
end Go.Proofs
namespace af
open Go.Sx r8
theorem qP(n:Nat)(c:Nat→Nat→Nat)(M:Nat)(hc:∀a v,c a v≤M):∀f a,par n c f a≤f*M
  |0,a=>by simp[par]
  |f+1,a=>by
    rw[par,Nat.succ_mul]
    by_cases h:has n a=[]
    · rw[h];simp[bH]
    · have:=dc (l:=(has n a).map fun v=>c (ah a v false) v+par n c f (ah a v false)) (by simpa using h)
      obtain⟨v,_,e⟩:=List.mem_map.1 this
      rw[←e]
      have h1:=hc (ah a v false) v
      have h2:=qP n c M hc f (ah a v false)
      omega
theorem sM{s v:Nat}(h:s.testBit v=false):ah (ah s v true) v false=s:=by
  apply Nat.eq_of_testBit_eq;intro k
  rw[ag,ag]
  split
  · rename_i e;rw[e,h]
  · rfl
theorem k7{S T:Nat}(h:S&&&T=S){v:Nat}(hv:S.testBit v=true):T.testBit v=true:=by
  have:=congrArg (fun x=>x.testBit v) h
  simp only[Nat.testBit_and,hv,Bool.true_and]at this
  exact this
theorem qI{S T:Nat}(h:∀v,S.testBit v=true→T.testBit v=true):S&&&T=S:=by
  apply Nat.eq_of_testBit_eq;intro k
  rw[Nat.testBit_and]
  cases hs:S.testBit k with
  |false=>rfl
  |true=>rw[h k hs];rfl
theorem sub_le{S T:Nat}(h:S&&&T=S):S≤T:=by rw[←h];exact Nat.and_le_right
theorem oG{S T v:Nat}(h:S&&&T=S)(hv:T.testBit v=true):ah S v true&&&T=ah S v true:=qI fun k hk=>by
  rw[ag]at hk
  split at hk
  · rename_i e;rw[e];exact hv
  · exact k7 h hk
theorem qL{s v:Nat}:ah s v true≠0:=fun e=>by
  have:=congrArg (fun x=>x.testBit v) e
  simp[ag]at this
def nn(s k:Nat):It:=((s:Int),(k:Int))
theorem qW{s k s' k':Nat}(h:nn s k=nn s' k'):s=s'∧k=k':=by
  simp only[nn,Prod.mk.injEq]at h;omega
structure fK(n:Nat)(c:Nat→Nat→Nat)(T:Nat)(D:List Nat)(l:List It)(s i:Nat):Prop where
  items:∀x∈l,∃S k:Nat,x=nn S k∧S&&&T=S∧S∉D∧W n c S≤k
  zero:0∈D∨nn 0 0∈l
  step:∀S∈D,∀v,v<n→T.testBit v=true→S.testBit v=false→(S=s→v<i)→ah S v true∈D∨∃k,nn (ah S v true) k∈l∧k≤W n c S+c S v
  sub:∀S∈D,S&&&T=S
  nd:D.Nodup
  top:T∉D
variable {n:Nat} {c:Nat→Nat→Nat} {T:Nat} {D:List Nat} {l l':List It} {s i:Nat}
theorem r4:W n c 0=0:=mW (by simp[has])
theorem fK.start(hT:T<2^n)(h:l.Perm [nn 0 0])(s:Nat):fK n c T [] l s n:=
  ⟨fun x hx=>by have:=h.mem_iff.1 hx;simp at this;exact⟨0,0,this,by simp,by simp,by rw[r4];exact Nat.le_refl _⟩,.inr (h.mem_iff.2 (by simp)),by simp,by simp,by simp,by simp⟩
theorem fK.low(h:fK n c T D l s n)(hT:T<2^n):∀(d S:Nat),(has n S).length=d→S&&&T=S→S∉D→∃S' k,nn S' k∈l∧k≤W n c S∧(S'=S→k=k)
  |d,S,hd,hS,hD=>by
    have zf:S<2^n:=Nat.lt_of_le_of_lt (sub_le hS) hT
    by_cases he:has n S=[]
    · have h0:S=0:=by
        apply Nat.eq_of_testBit_eq;intro v
        rw[Nat.zero_testBit]
        by_cases hv:v<n
        · cases hb:S.testBit v with
          |false=>rfl
          |true=>have:v∈has n S:=cA.2 ⟨hv,hb⟩;rw[he]at this;simp at this
        · exact Nat.testBit_lt_two_pow (Nat.lt_of_lt_of_le zf (Nat.pow_le_pow_right (by decide) (by omega)))
      subst h0
      rcases h.zero with h0|h0
      · exact absurd h0 hD
      · exact⟨0,0,h0,Nat.zero_le _,fun _=>rfl⟩
    · obtain⟨v,hv,hw⟩:=vx (c:=c) he
      obtain⟨Cz,CB⟩:=cA.1 hv
      have rK:ah (ah S v false) v true=S:=by
        apply Nat.eq_of_testBit_eq;intro k
        rw[ag,ag]
        split
        · rename_i e;rw[e,CB]
        · rfl
      have xY:ah S v false&&&T=ah S v false:=qI fun k hk=>by
        rw[ag]at hk
        split at hk
        · cases hk
        · exact k7 hS hk
      by_cases Dc:ah S v false∈D
      · have:=h.step _ Dc v Cz (k7 hS CB) (by rw[ag];simp) (fun _=>Cz)
        rw[rK]at this
        rcases this with h1|⟨k,h1,h2⟩
        · exact absurd h1 hD
        · exact⟨S,k,h1,by omega,fun _=>rfl⟩
      · have hlt:=lB hv
        obtain⟨S',k,h1,h2,_⟩:=h.low hT (has n (ah S v false)).length (ah S v false) rfl xY Dc
        exact⟨S',k,h1,by omega,fun _=>rfl⟩
  termination_by d=>d
  decreasing_by omega
theorem fK.pop(h:fK n c T D l s n)(hT:T<2^n){a:It}(hp:l.Perm (a::l'))(hm:∀b∈l,prec b a=false)(ho:b9 l):
    ∃S,a=nn S (W n c S)∧S&&&T=S∧S∉D∧(S≠T→fK n c T (S::D) l' S 0):=by
  obtain⟨S,k,rfl,h1,h2,h3⟩:=h.items a (hp.mem_iff.2 (by simp))
  have hk:k≤W n c S:=by
    obtain⟨S',k',h4,h5,_⟩:=h.low hT _ S rfl h1 h2
    have:=hm _ h4
    rw[dk]at this
    simp only[nn]at this
    omega
  have hkk:k=W n c S:=by omega
  subst hkk
  refine⟨S,rfl,h1,h2,fun hne=>?_⟩
  have dP:=ho.perm hp.symm
  have hno:∀k,nn S k∉l':=fun k hk=>by
    unfold b9 at dP
    rw[List.map_cons,List.nodup_cons]at dP
    exact dP.1 (List.mem_map.2 ⟨_,hk,rfl⟩)
  refine⟨fun x hx=>?_,?_,fun S' xY v hv ht hb hlt=>?_,fun S' xY=>?_,?_,?_⟩
  · obtain⟨S',k',rfl,q1,q2,q3⟩:=h.items x (hp.mem_iff.2 (.tail _ hx))
    refine⟨S',k',rfl,q1,fun hc=>?_,q3⟩
    rcases List.mem_cons.1 hc with e|e
    · subst e;exact hno _ hx
    · exact q2 e
  · rcases h.zero with h0|h0
    · exact .inl (.tail _ h0)
    · rcases List.mem_cons.1 (hp.mem_iff.1 h0)with e|e
      · left;rw[(qW e).1];exact .head _
      · exact .inr e
  · rcases List.mem_cons.1 xY with e|e
    · have:=hlt e;omega
    · rcases h.step S' e v hv ht hb (fun _=>hv)with q|⟨k',q1,q2⟩
      · exact .inl (.tail _ q)
      · rcases List.mem_cons.1 (hp.mem_iff.1 q1)with e|e
        · left;rw[(qW e).1];exact .head _
        · exact .inr ⟨k',e,q2⟩
  · rcases List.mem_cons.1 xY with e|e
    · rw[e];exact h1
    · exact h.sub S' e
  · exact List.nodup_cons.2 ⟨h2,h.nd⟩
  · intro hc
    rcases List.mem_cons.1 hc with e|e
    · exact hne e.symm
    · exact h.top e
theorem fK.skip(h:fK n c T D l s i)(hx:T.testBit i=false∨s.testBit i=true∨ah s i true∈D):fK n c T D l s (i+1):=
  ⟨h.items,h.zero,fun S hS v hv ht hb hlt=>by
    by_cases e:S=s∧v=i
    · obtain⟨rfl,rfl⟩:=e
      rcases hx with q|q|q
      · rw[ht]at q;cases q
      · rw[hb]at q;cases q
      · exact .inl q
    · exact h.step S hS v hv ht hb (fun q=>by have:=hlt q;by_cases e2:v=i;exact absurd ⟨q,e2⟩ e;omega),h.sub,h.nd,h.top⟩
theorem fK.keep(h:fK n c T D l s i){k:Nat}(hk:nn (ah s i true) k∈l)(hle:k≤W n c s+c s i):fK n c T D l s (i+1):=
  ⟨h.items,h.zero,fun S hS v hv ht hb hlt=>by
    by_cases e:S=s∧v=i
    · obtain⟨rfl,rfl⟩:=e
      exact .inr ⟨k,hk,hle⟩
    · exact h.step S hS v hv ht hb (fun q=>by have:=hlt q;by_cases e2:v=i;exact absurd ⟨q,e2⟩ e;omega),h.sub,h.nd,h.top⟩
theorem r5(hi:i<n)(hs:s.testBit i=false):W n c (ah s i true)≤W n c s+c s i:=by
  have:=tB (c:=c) (n:=n) (s:=ah s i true) (v:=i) (cA.2 ⟨hi,by rw[ag];simp⟩)
  rw[sM hs]at this
  omega
theorem fK.push(h:fK n c T D l s i)(hi:i<n)(hs:s.testBit i=false)(ht:T.testBit i=true)(As:s&&&T=s)(hD:ah s i true∉D)(hp:l'.Perm (nn (ah s i true) (W n c s+c s i)::l)):fK n c T D l' s (i+1):=by
  have h':fK n c T D l' s i:=⟨fun x hx=>by
      rcases List.mem_cons.1 (hp.mem_iff.1 hx)with e|e
      · exact⟨_,_,e,oG As ht,hD,r5 hi hs⟩
      · exact h.items x e,by
      rcases h.zero with q|q
      · exact .inl q
      · exact .inr (hp.mem_iff.2 (.tail _ q)),fun S hS v hv ht hb hlt=>by
      rcases h.step S hS v hv ht hb hlt with q|⟨k,q1,q2⟩
      · exact .inl q
      · exact .inr ⟨k,hp.mem_iff.2 (.tail _ q1),q2⟩,h.sub,h.nd,h.top⟩
  exact h'.keep (hp.mem_iff.2 (.head _)) (Nat.le_refl _)
theorem fK.move(h:fK n c T D l s i)(hi:i<n)(hs:s.testBit i=false)(ht:T.testBit i=true)(As:s&&&T=s)(hD:ah s i true∉D){k0:Int}{r:List It}(kJ:l.Perm ((((ah s i true:Nat):Int),k0)::r))(hlt:((W n c s+c s i:Nat):Int)≤k0)
   (hp:l'.Perm (nn (ah s i true) (W n c s+c s i)::r)):fK n c T D l' s (i+1):=by
  have hin:∀x∈r,x∈l:=fun x hx=>kJ.mem_iff.2 (.tail _ hx)
  have h':fK n c T D l' s i:=⟨fun x hx=>by
      rcases List.mem_cons.1 (hp.mem_iff.1 hx)with e|e
      · exact⟨_,_,e,oG As ht,hD,r5 hi hs⟩
      · exact h.items x (hin x e),by
      rcases h.zero with q|q
      · exact .inl q
      · rcases List.mem_cons.1 (kJ.mem_iff.1 q)with e|e
        · simp only[nn,Prod.mk.injEq]at e
          exact absurd (by omega) (qL (s:=s) (v:=i))
        · exact .inr (hp.mem_iff.2 (.tail _ e)),fun S hS v hv ht hb AK=>by
      rcases h.step S hS v hv ht hb AK with q|⟨k,q1,q2⟩
      · exact .inl q
      · rcases List.mem_cons.1 (kJ.mem_iff.1 q1)with e|e
        · simp only[nn,Prod.mk.injEq]at e
          refine .inr ⟨W n c s+c s i,?_,by omega⟩
          rw[show ah S v true=ah s i true by omega]
          exact hp.mem_iff.2 (.head _)
        · exact .inr ⟨k,hp.mem_iff.2 (.tail _ e),q2⟩,h.sub,h.nd,h.top⟩
  exact h'.keep (hp.mem_iff.2 (.head _)) (Nat.le_refl _)
theorem fK.perm{D':List Nat}(hp:D.Perm D')(h:fK n c T D l s i):fK n c T D' l s i:=
  ⟨fun x hx=>by obtain⟨S,k,h1,h2,h3,h4⟩:=h.items x hx;exact⟨S,k,h1,h2,fun q=>h3 (hp.mem_iff.2 q),h4⟩,
   h.zero.imp hp.mem_iff.1 id,fun S hS v hv ht hb hlt=>(h.step S (hp.mem_iff.2 hS) v hv ht hb hlt).imp hp.mem_iff.1 id,
   fun S hS=>h.sub S (hp.mem_iff.2 hS),hp.nodup_iff.1 h.nd,fun q=>h.top (hp.mem_iff.2 q)⟩
theorem mu{N:Nat}{l:List Nat}(h:l.Nodup)(hl:∀x∈l,x<N):l.length≤N:=by
  have:=List.Nodup.length_le_of_subset (l₂:=List.range N) h (fun x hx=>List.mem_range.2 (hl x hx))
  rwa [List.length_range]at this
theorem fK.Bn(h:fK n c T D l s i)(hT:T<2^n):D.length<2^n:=by
  have:=mu (N:=2^n) (l:=T::D) (List.nodup_cons.2 ⟨h.top,h.nd⟩) (fun x hx=>by
    rcases List.mem_cons.1 hx with e|e
    · rw[e];exact hT
    · exact Nat.lt_of_le_of_lt (sub_le (h.sub x e)) hT)
  rw[List.length_cons]at this;omega
theorem fK.wM(h:fK n c T D l s i)(hT:T<2^n)(ho:b9 l):l.length≤2^n:=by
  have e:∀x∈l,((x.1.toNat:Nat):Int)=x.1:=fun x hx=>by obtain⟨S,k,rfl,_⟩:=h.items x hx;simp[nn]
  have pJ:(l.map fun x=>x.1.toNat).Nodup:=by
    have h2:((l.map fun x=>x.1.toNat).map (Nat.cast:Nat→Int)).Nodup:=by
      rw[List.map_map]
      have:l.map (Nat.cast∘fun x:It=>x.1.toNat)=l.map Prod.fst:=List.map_congr_left fun x hx=>e x hx
      rw[this];exact ho
    exact(List.pairwise_map.1 h2).imp fun hne heq=>hne (by rw[heq])
  have:=mu (N:=2^n) pJ (fun y hy=>by
    obtain⟨x,hx,rfl⟩:=List.mem_map.1 hy
    obtain⟨S,k,rfl,h1,_⟩:=h.items x hx
    simp only[nn,Int.toNat_natCast]
    exact Nat.lt_of_le_of_lt (sub_le h1) hT)
  rwa [List.length_map]at this
end af
set_option maxRecDepth 100000
namespace Go.Proofs
open Go Go.Sx
open r8
theorem oX{iZ:Value}{n:Nat}{L:List (List Nat)}{B:Hp}(h:gl iZ n L B)(a:Nat):af.W n (af.lvl n L) a<35184372088832:=by
  have h1:=af.qP n (af.lvl n L) 2199023255551 (fun a v=>Nat.le_of_lt (jz h a v)) n a
  have h2:n*2199023255551≤12*2199023255551:=Nat.mul_le_mul_right _ h.wJ
  unfold af.W;omega
def je(ts:List Tb)(A:Nat)(r:Value):Prop:=
  (¬cL ts∧r=.tuple #[.int .i64 0,.int .i64 5])∨
  (cL ts∧∃(n:Nat) (L:List (List Nat)),ts=gU n L∧(L=[]→n=0)∧n≤16∧(∀ws∈L,af.dI n ws)∧
    ((2^n≤A∧r=.tuple #[.int .i64 0,.int .i64 2])∨(A<2^n∧12<n∧r=.tuple #[.int .i64 0,.int .i64 6])∨
     (A<2^n∧n≤12∧r=.tuple #[.int .i64 ((af.W n (af.lvl n L) A+af.B n (af.lvl n L) A:Nat):Int),.int .i64 0])))
def DQ(N:Nat):Hp→Nat
  |(_,.map es _)::_=>N-es.size
  |_=>0
theorem gW{B:Hp}{v:Value}{ts:List Tb}(ht:bN B v ts)(bR:ts.length<33554432){A:Nat}(hA:A<18446744073709551616):Px Tryz.prog 27 #[v,.int .u64 (A:Int)] B (fun r _=>je ts A r):=by
  intro g
  refine kU (R:=cx _) ?_
  unfold L27
  refine ai.px .here (fk ht (by omega)) ?_
  rintro r N0 (⟨hO,bp,bl,bd,n,L,N,rfl,iV,eT,hf,rfl,hp⟩|⟨hO,rfl⟩)
  case inr=>exact Ext.mk rfl (Ext.mk rfl (aa.lS (a:=5) (b:=0) (Br.dec (fun _=>iy.mk (by repeat (first|exact ay.refl _|apply ay.cons|apply ay.app)) (.inl ⟨hO,rfl⟩)) (fun h=>absurd (by decide) h))))
  generalize N0++B=H2 at hp⊢
  clear N0
  rw[jg]at bR
  have kJ:=hp
  obtain⟨jN,jQ,ig,ij,rfl,hM⟩:=hp
  refine Ext.mk rfl (Ext.mk rfl (aa.lS (a:=0) (b:=0) (Br.dec (fun h=>absurd rfl h) (fun _=>?_))))
  refine DR.self (Nil.ptr ?_)
  refine ae.mk (Ld.mk zM rfl ?_)
  refine ai.rd .here (mC hA _) ?_
  rintro v ⟨r,hr,rfl⟩
  refine⟨.refl _,?_⟩
  refine aa.qy (Br.dec (fun hgt=>iy.mk (by repeat (first|exact ay.refl _|apply ay.cons|apply ay.app)) (.inr ⟨hO,n,L,rfl,iV,eT,hf,.inl ⟨hr.gt.1 hgt,rfl⟩⟩)) (fun hgt=>?_))
  have x7:A<2^n:=by
    have:¬(2^n≤A):=fun h=>hgt (hr.gt.2 h)
    omega
  refine Nil.ptr ?_
  refine ae.mk (Ld.mk zM rfl ?_)
  refine aa.qy (b:=12) (Br.dec (fun qx=>iy.mk (by repeat (first|exact ay.refl _|apply ay.cons|apply ay.app)) (.inr ⟨hO,n,L,rfl,iV,eT,hf,.inr (.inl ⟨x7,qx,rfl⟩)⟩)) (fun qx=>?_))
  clear hM
  have gH:n≤12:=by omega
  have vb:L≠[]→gl v n L (N++B):=fun hne=>⟨ht.mono zS,hf,hne,bR,gH⟩
  have gV:2^n≤2^12:=Nat.pow_le_pow_right (by decide) gH
  have EU:=af.gx n L
  refine Nil.ptr ?_
  refine ae.mk (Ld.mk zM rfl ?_)
  refine bg.nat (by simp only[aK];omega) ?_
  refine aa.gO (by simp only[aK];omega) (by simp only[aK];omega) ?_
  obtain⟨T,A6⟩:∃T,T=A&&&af.aq n L:=⟨_,rfl⟩
  rw[←A6]
  have hT:T<2^n:=by rw[A6];exact Nat.lt_of_le_of_lt Nat.and_le_left x7
  refine ai.fn .here (tc _) ?_
  rintro v2 H ⟨bh,C0,rfl,rfl,CP⟩
  refine ai.fn .left (mG CP (by simp) 0 0) ?_
  rintro v2 C1 ⟨l1,xH,CG⟩
  have CM:l1.Perm [af.nn 0 0]:=by
    rcases CG with⟨h,_⟩|⟨_,_,h⟩
    · simp at h
    · exact h
  clear CG CP
  intro bm zc;clear zc
  refine⟨fun vs H=>∃(m:List (Nat×Nat)) (es:Array MapEntry) (ck:Nat) (l:List It) (C H1:Hp),vs=[]∧H=(bm,.map es ck)::(C++H1)∧aU ki tM es ck m∧(∀x∈m,x.2=1)∧qA (.pointer (some ⟨bh,0,none⟩)) l C∧
      dw bp bl bd v n L (af.aq n L) (N++B) H1∧∃s,af.fK n (af.lvl n L) T (m.map Prod.fst) l s n,
    fun _ H=>DQ (2^n) H,JE.mk ⟨[],#[],0,l1,C1,_,rfl,rfl,aU.empty,by simp,xH,kJ,0,af.fK.start hT CM 0⟩,?_⟩
  clear kJ xH CM jN jQ ig ij C1 l1
  rintro H ⟨m,es,ck,l,C,H1,_,rfl,hE,vR,hh,hp,s0,hd⟩ gs
  have kK:b9 l:=by obtain⟨_,_,_,_,h⟩:=hh;exact h
  have yY:=hd.wM hT kK
  refine ai.fn (.cons .left) (s9 hh (by omega)) ?_
  rintro r C1 ⟨l1,xH,AA⟩
  rcases AA with⟨rfl,_⟩|⟨a,bJ,hmin,rfl⟩
  · obtain⟨_,_,h,_⟩:=hd.low hT _ T rfl (by rw[Nat.and_self]) hd.top
    simp at h
  obtain⟨S,rfl,A7,C5,iL⟩:=hd.pop hT bJ hmin kK
  have zf:S<2^n:=Nat.lt_of_le_of_lt (af.sub_le A7) hT
  refine Ext.mk rfl (Ext.mk rfl (Ext.mk rfl ?_))
  refine bg.nat (by simp[aK];omega) ?_
  simp only[af.nn]
  refine aa.fy (Br.dec (fun zg=>?_) (fun zg=>?_))
  · have cJ:∀k H',H'=((bm,Obj.map es ck)::(C1++H1):Hp)∨True→k=af.B n (af.lvl n L) T→je (gU n L) A (.tuple #[.int .i64 ((af.W n (af.lvl n L) T+k:Nat):Int),.int .i64 0]):=fun k H' _ hk=>by
      refine .inr ⟨hO,n,L,rfl,iV,eT,hf,.inr (.inr ⟨x7,gH,?_⟩)⟩
      have iN:=af.kX hf (by omega)
      rw[hk,A6,af.ym iN,af.sg iN]
    by_cases hne:L=[]
    · have hn:=iV hne
      subst hne
      subst hn
      have EV:T=0:=by omega
      subst EV
      obtain rfl:S=0:=zg
      refine ai.fn (.cons (.app .here)) (kQ (a:=0) (by omega) hp) ?_
      rintro r H3 ⟨rfl,rfl⟩
      have C4:af.W 0 (af.lvl 0 []) 0=0:=af.r4
      have E0:af.B 0 (af.lvl 0 []) 0=0:=rfl
      rw[C4]
      refine aa.cE (a:=0) (b:=0) (by simp[aK]) ?_
      have hq:=cJ 0 [] (.inr trivial) E0.symm
      rw[C4]at hq
      obtain⟨ya,ye,Dm,Dp,rfl,_⟩:=hp
      exact iy.mk (by repeat (first|exact ay.refl _|apply ay.cons|apply ay.app)) hq
    · obtain rfl:S=T:=zg
      refine ai.fn (.cons (.app .here)) (fb (vb hne) _ S (Nat.le_refl _) hT _ hp) ?_
      rintro r H3 ⟨rfl,ya,ye,Dm,Dp,rfl,_⟩
      have xU:=oX (vb hne) S
      have xS:=lQ (vb hne) S
      refine aa.cE (by simp[aK];omega) ?_
      exact iy.mk (by repeat (first|exact ay.refl _|apply ay.cons|apply ay.app)) (cJ _ [] (.inr trivial) rfl)
  have CV:=iL zg
  clear iL hd hh hmin bJ
  refine aU.bF (ke:=ki) (vr:=tM) (b:=bm) (k:=S) (x:=1) hY oN hE rfl fun es' ea jK=>⟨_,.head _,?_⟩
  have xy:dV m S 1=m++[(S,1)]:=by unfold dV;rw[if_neg C5]
  rw[xy]at jK
  have yU:(S::m.map Prod.fst).Perm ((m++[(S,1)]).map Prod.fst):=by rw[List.map_append];exact List.perm_append_comm (l₁:=[S])
  have y9:=CV.perm yU
  have rB:∀x∈m++[(S,1)],x.2=1:=fun x hx=>by
    rcases List.mem_append.1 hx with h|h
    · exact vR x h
    · simp at h;rw[h]
  have xz:2^n-es'.size<2^n-es.size:=by
    have h1:=jK.len
    have h2:=hE.len
    have h3:=y9.Bn hT
    simp only[List.length_append,List.length_singleton,List.length_map]at h1 h3
    omega
  generalize m++[(S,1)]=m' at jK yU y9 rB
  have EW:S∈m'.map Prod.fst:=yU.mem_iff.1 (.head _)
  clear xy CV vR C5 yU hE
  have kJ:=hp
  obtain⟨jN,jQ,ig,ij,rfl,hM⟩:=hp
  refine Nil.ptr ?_
  refine ae.mk (Ld.mk zM rfl ?_)
  refine⟨fun vs H=>∃(i:Nat) (l:List It) (C H1:Hp),vs=[.int .i64 (i:Int)]∧i≤n∧H=(bm,.map es' ea)::(C++H1)∧qA (.pointer (some ⟨bh,0,none⟩)) l C∧
      dw bp bl bd v n L (af.aq n L) (N++B) H1∧af.fK n (af.lvl n L) T (m'.map Prod.fst) l S i,
    fun vs _=>n-dD vs 0,JE.mk ⟨0,l1,C1,_,rfl,Nat.zero_le _,rfl,xH,kJ,y9⟩,?_⟩
  clear kJ hM y9 xH kK yY l1 C1
  rintro w H ⟨i,l,C,H1,hv,hin,rfl,hh,hp,hd⟩ gs
  simp only[List.cons.injEq,and_true]at hv
  subst hv
  refine aa.jA (Br.dec (fun hlt=>?_) (fun hlt=>?_))
  · intro J hJ
    have hne:L≠[]:=fun e=>by have:=iV e;omega
    have nE:=vb hne
    have hpk:2^i≤2^12:=Nat.pow_le_pow_right (by decide) (by omega)
    have y5:∀l C H1,qA (.pointer (some ⟨bh,0,none⟩)) l C→dw bp bl bd v n L (af.aq n L) (N++B) H1→af.fK n (af.lvl n L) T (m'.map Prod.fst) l S (i+1)→J [] ((bm,.map es' ea)::(C++H1)):=fun l C H1 q1 q2 q3=>hJ _ fun gs=>by
      refine aa.cE (b:=1) (by simp[aK];omega) ?_
      exact aS.mk ⟨i+1,l,C,H1,rfl,by omega,rfl,q1,q2,q3⟩ (by simp only[dD];omega)
    refine aa.lf (a:=1) (by simp[IntKind.bits];omega) (by rw[Nat.one_shiftLeft];simp[aK];omega) ?_
    rw[Nat.one_shiftLeft]
    refine aa.qS (by simp[aK];omega) (by simp[aK];omega) ?_
    have pT:S|||2^i=af.ah S i true:=rfl
    rw[pT]
    refine aa.fy ?_
    have rp:(T.testBit i=false∨S.testBit i=true∨af.ah S i true∈m'.map Prod.fst)→JE J [] ((bm,.map es' ea)::(C++H1)):=fun hx=>JE.mk (y5 l C H1 hh hp (hd.skip hx))
    by_cases tj:S.testBit i=true
    · have e1:af.ah S i true=S:=by have:=af.kD S i;rwa [tj]at this
      rw[e1,decide_eq_true rfl]
      refine cw.mk true (fun e=>by simp at e) (fun _=>rfl) fun gs=>cw.mk true (fun e=>by simp at e) (fun _=>rfl) fun gs=>Br.yes (rp (.inr (.inl tj)))
    have u9:S.testBit i=false:=by simpa using tj
    have uT:¬(af.ah S i true=S):=fun e=>tj (by rw[←e,af.ag];simp)
    rw[decide_eq_false uT]
    refine cw.mk (!T.testBit i) (fun _=>?_) (fun e=>by simp at e) fun gs=>?_
    · refine aa.eL (by simp only[aK];omega) (aa.gO (b:=1) (by simp only[aK];exact Nat.lt_of_le_of_lt (Nat.shiftRight_le _ _) (by omega)) (by simp[aK]) (aa.fy (b:=0) ?_))
      refine⟨by trivial,?_⟩
      cases hb:T.testBit i with
      |false=>rw[decide_eq_true (jd.2 hb)];rfl
      |true=>rw[decide_eq_false (fun h=>by rw[jd.1 h]at hb;cases hb)];rfl
    cases A5:T.testBit i with
    |false=>exact cw.mk true (fun e=>by simp at e) (fun _=>rfl) fun gs=>Br.yes (rp (.inl A5))
    |true=>
    by_cases x6:af.ah S i true∈m'.map Prod.fst
    · refine cw.mk true (fun _=>?_) (fun e=>by simp at e) fun gs=>Br.yes (rp (.inr (.inr x6)))
      obtain⟨x,Cw,Am⟩:=List.mem_map.1 x6
      refine aU.hit (ke:=ki) (vr:=tM) (k:=af.ah S i true) (x:=1) hY jK (.head _) ((jy jK.nd).2 (by have:=rB x Cw;rw[←Am,←this];exact Cw)) fun y hy=>?_
      subst hy
      refine aa.qy (b:=0) ?_
      exact⟨by trivial,rfl⟩
    refine cw.mk false (fun _=>?_) (fun e=>by simp at e) fun gs=>Br.no ?_
    · refine aU.aR (ke:=ki) (vr:=tM) (k:=af.ah S i true) hY jK (.head _) (dX.2 x6) ?_
      refine aa.qy (a:=0) (b:=0) ?_
      exact⟨by trivial,rfl⟩
    have xU:=jz nE S i
    have xS:=oX nE S
    have Ex:af.ah S i true<2^n:=af.cO zf hlt
    refine ai.fn (.cons (.app .here)) (ju nE hp zf hlt u9) ?_
    rintro r H2 ⟨rfl,gV⟩
    refine aa.cE (by simp[aK];omega) ?_
    refine ai.rd (.cons .left) (td hh _) ?_
    have kK:b9 l:=by obtain⟨_,_,_,_,h⟩:=hh;exact h
    have yY:=hd.wM hT kK
    rintro r (⟨hno,rfl⟩|⟨k,hk,rfl⟩)
    · refine Ext.mk rfl (Ext.mk rfl (aa.lS (a:=10) (b:=0) (Br.rR (by decide) ?_)))
      refine ai.fn (.cons .left) (mG hh (by omega) _ _) ?_
      rintro r C2 ⟨l2,AO,⟨h,_⟩|⟨_,rfl,bJ⟩⟩
      · exact absurd h hno
      · exact JE.mk (y5 l2 C2 H2 AO gV (hd.push hlt u9 A5 A7 x6 bJ))
    · obtain⟨S',k',hkk,_,_,_⟩:=hd.items _ hk
      simp only[af.nn,Prod.mk.injEq]at hkk
      obtain⟨ng,rfl⟩:=hkk
      refine Ext.mk rfl (Ext.mk rfl (aa.lS (a:=0) (b:=0) (Br.vj (by simp) ?_)))
      refine aa.jA (Br.dec (fun uU=>?_) (fun uU=>?_))
      · refine ai.fn (.cons .left) (rA hh (by omega) _ _) ?_
        rintro r C2 ⟨l2,AO,⟨h,_⟩|⟨k0,r0,s8,Ay,rfl⟩⟩
        · exact absurd (List.mem_map.2 ⟨_,hk,rfl⟩) h
        · have uX:k0=(k':Int):=by
            have ry:=kK.perm s8.symm
            unfold b9 at ry
            rw[List.map_cons,List.nodup_cons]at ry
            rcases List.mem_cons.1 (s8.mem_iff.1 hk)with e|e
            · simp only[Prod.mk.injEq,true_and]at e;exact e.symm
            · exact absurd (List.mem_map.2 ⟨_,e,rfl⟩) ry.1
          exact JE.mk (y5 l2 C2 H2 AO gV (hd.move hlt u9 A5 A7 x6 s8 (by rw[uX];omega) Ay))
      · exact JE.mk (y5 l C H2 hh gV (hd.keep (k:=k') hk (by omega)))
  · obtain rfl:i=n:=by omega
    exact aS.mk ⟨m',es',ea,l,C,H1,rfl,rfl,jK,rB,hh,hp,S,hd⟩ xz
end Go.Proofs
set_option maxRecDepth 100000
namespace Go.Proofs
open Go Go.Sx
def vy(ts:List Tb):Prop:=ts.length<4398046511104∧∀t∈ts,t.ws.length*8≤140737488351232
theorem kO(B:Hp):Px Tryz.prog 69 #[] B (fun r H=>mX H r ⟨3,[216]⟩):=by
 intro g
 refine qg (R:=cx _) ?_
 unfold L69
 intro b1 _
 refine aG.int (e:=50) (by kernel_rfl) (by kernel_rfl) (by kernel_rfl) fun b2=>?_
 refine Build.mk (cs:=[.int .i64 3,.slice (some ⟨b2,0,none⟩) 1 1]) (by kernel_rfl) ?_
 refine St.whole (r:=[.int .i64 3,.slice (some ⟨b2,0,none⟩) 1 1]) (by repeat (first|exact br.head _|apply br.tail|apply br.bx)) rfl rfl (by simp[Value.oneCell']) ?_
 refine aO.whole (r:=[.int .i64 3,.slice (some ⟨b2,0,none⟩) 1 1]) zM rfl ?_
 refine iy.mk (by repeat (first|exact ay.refl _|apply ay.cons|apply ay.app)) ⟨_,rfl,Words.block (ws:=[216]) (.head _) (by simp) (by simp)⟩
theorem pE{B:Hp}{v1 v2:Value}{a b:List Int}(h1:da .i64 B v1 a)(h2:da .i64 B v2 b)(bR:a.length<2^62):Rd Tryz.prog 37 #[v1,v2] B (· =.bool (decide (a=b))):=by
 intro g
 refine qh (R:=cx _) ?_
 unfold L37
 refine h1.bQ (h2.bQ ?_)
 refine aa.lS (Br.dec (fun h=>?_) (fun h=>?_))
 ·exact e7.mk (.refl _) (by rw[decide_eq_false (fun e=>h (by rw[e]))])
 ·refine h1.bQ ?_
  have hlen:a.length=b.length:=by omega
  refine⟨fun vs H=>H=B∧∃j:Nat,vs=[.int .i64 (j:Int)]∧j≤a.length∧∀i,i<j→a[i]? =b[i]?,fun vs _=>a.length-dD vs 0,JE.mk ⟨rfl,0,rfl,by omega,by omega⟩,?_⟩
  rintro w H ⟨rfl,j,hv,hj,an⟩ gs
  simp only[List.cons.injEq,and_true]at hv
  subst hv
  refine aa.jA (Br.dec (fun hlt=>?_) (fun hlt=>?_))
  ·have ga:a[j]? =some a[j]:=List.getElem?_eq_getElem hlt
   have gb:b[j]? =some b[j]:=List.getElem?_eq_getElem (by omega)
   refine h1.ld ga (fun _ h=>h) (h2.ld gb (fun _ h=>h) ?_)
   refine aa.neq (Br.mk (fun hne=>?_) (fun heq=>?_))
   ·refine e7.mk (.refl _) ?_
    rw[decide_eq_false]
    intro e
    have h3:=congrArg (fun l:List Int=>l[j]?) e
    simp only[ga,gb,Option.some.injEq]at h3
    simp[h3]at hne
   ·refine aa.cE (b:=1) (by simp[aK];omega) ?_
    refine aS.mk ⟨rfl,j+1,rfl,by omega,fun i hi=>?_⟩ (by simp[dD];omega)
    by_cases e:i=j
    ·subst e;rw[ga,gb];exact congrArg some (by simpa using heq)
    ·exact an i (by omega)
  ·have:j=a.length:=by omega
   subst this
   refine e7.mk (.refl _) ?_
   rw[decide_eq_true]
   apply List.ext_getElem?
   intro i
   by_cases hi:i<a.length
   ·exact an i hi
   ·rw[List.getElem?_eq_none (by omega),List.getElem?_eq_none (by omega)]
theorem jo{α:Type}(A:List α)(x:α)(C N B:List α):((A++[x])++(C++(N++B))).Perm (x::(C++((A++N)++B))):=by
 have h1:((A++[x])++(C++(N++B))).Perm ((x::A)++(C++(N++B))):=List.Perm.append_right _ (List.perm_append_singleton x A)
 refine h1.trans (.cons _ ?_)
 have h2:=List.perm_append_comm_assoc A C (N++B)
 refine h2.trans ?_
 rw[List.append_assoc A N B]
theorem l6{B:Hp}{v:Value}{ts:List Tb}(ht:bN B v ts)(hfit:vy ts):Px Tryz.prog 29 #[v] B (fun r H=>bN H r ts):=by
 intro g
 refine qi (R:=cx _) ?_
 unfold L29
 have bR:=hfit.1
 refine ht.bQ ?_
 refine⟨fun vs H=>∃(j:Nat) (s:Value) (C N:Hp),vs=[s,.int .i64 (j:Int)]∧j≤ts.length∧iu 57 s (ts.take j) C (N++B)∧H=C++(N++B),fun vs _=>ts.length-dD vs 1,JE.mk ⟨0,_,[],[],rfl,by omega,iu.nil,rfl⟩,?_⟩
 rintro w6 w7 H ⟨j,s,C,N,hv,hj,hown,rfl⟩ gs
 simp only[List.cons.injEq,and_true]at hv
 obtain⟨rfl,rfl⟩:=hv
 have CI:∀x∈B,x∈C++(N++B):=fun _ h=>List.mem_append_right _ (List.mem_append_right _ h)
 refine aa.jA (Br.dec (fun hlt=>?_) (fun hlt=>?_))
 ·have hg:ts[j]? =some ts[j]:=List.getElem?_eq_getElem hlt
  have Gm:=hfit.2 ts[j] (List.getElem_mem hlt)
  refine ht.ld hg CI fun sw hw=>?_
  have vK:da .u64 B sw (iw ts[j].ws):=hw.1
  intro b2 _
  refine St.whole (r:=[.int .i64 ts[j].n,sw]) (by exact .head _) rfl rfl (by have:=aN hw;simpa[Value.oneCell']using this) ?_
  refine DR.of (R:=(b2,.cells (List.toArray [.int .i64 ts[j].n,sw]) 57 (0,0))::(N++B)) (.cons .right) ?_
  refine ae.mk (Ld.mk zM rfl ?_)
  refine ae.mk (Ld.mk zM rfl ?_)
  refine aG.none (e:=50) (k:=1) (z:=.int .u64 0) (by kernel_rfl) (by kernel_rfl) (by kernel_rfl) fun b3=>?_
  refine⟨.skip (.cons .right),?_⟩
  refine cQ.apps (A:=[]) (C:=[_]) (l:=[]) (.inr ⟨b3,[],rfl,rfl,by simp⟩) (vK.mono fun _ h=>.tail _ (.tail _ (CI _ h))) (by simp;omega) (by simp;omega) fun s' C' ho=>?_
  refine⟨by rw[List.nil_append];exact .trans .right (.cons .right),?_⟩
  have Ew:∃a c,s'=.slice a ts[j].ws.length c:=by obtain⟨a,c,e⟩:=bC.len ho;exact⟨a,c,by simpa using e⟩
  obtain⟨a',c',rfl⟩:=Ew
  refine Build.mk (cs:=[.int .i64 ts[j].n,.slice a' ts[j].ws.length c']) (by kernel_rfl) ?_
  refine eY fun b4=>?_
  refine⟨.skip (by rw[List.nil_append];exact .trans .right (.cons .right)),?_⟩
  have cG:Words (C'++(N++B)) (.slice a' ts[j].ws.length c') ts[j].ws:=⟨(by have:=ho.ints;rw[List.nil_append]at this;exact this.mono fun _ h=>List.mem_append_left _ h),hw.2⟩
  have xn:iu 57 w6 (ts.take j) C (C'++(N++B)):=hown.mono fun _ h=>List.mem_append_right _ h
  have e:∀x y:Nat×Obj,x::([]++(C'++(y::(C++(N++B)))))=(x::(C'++[y]))++(C++(N++B)):=fun x y=>by simp
  rw[e]
  refine xn.app (t:=ts[j]) (by exact .head _) cG (by rw[List.length_take];omega) fun v' wk dP=>?_
  refine⟨.skip (.trans (.perm (jo C' _ wk N B)) ?_),?_⟩
  ·exact .cons (.trans .right (by rw[List.append_assoc];exact .right))
  ·refine aa.cE (b:=1) (by simp[aK];omega) ?_
   have et:ts.take j++[ts[j]]=ts.take (j+1):=by rw[List.take_succ_eq_append_getElem hlt]
   rw[et]at dP
   exact aS.of (.skip (.trans (.perm (jo C' _ wk N B)) .tail)) ⟨j+1,v',wk,C'++N,rfl,by omega,by rw[List.append_assoc];exact dP,rfl⟩ (by rw[bW,bW];show ts.length-(((j:Int)+1).toNat)<ts.length-((j:Int).toNat);omega)
 ·obtain rfl:j=ts.length:=by omega
  rw[List.take_length]at hown
  exact iy.mk (by repeat (first|exact ay.refl _|apply ay.cons|apply ay.app)) (hown.Aa (fun _ h=>List.mem_append_left _ h) (fun _ h=>List.mem_append_right _ h))
theorem FD:af.B 3 (af.lvl 3 [[216]]) 0=3:=by decide+kernel
theorem FC:af.ord 3 (af.lvl 3 [[216]]) 3 0=[0,1,2]:=by decide+kernel
theorem FB:af.W 3 (af.lvl 3 [[216]]) 4+af.B 3 (af.lvl 3 [[216]]) 4=4:=by decide+kernel
theorem oF{n m:Nat}{L M:List (List Nat)}(h:gU n L=gU m M)(hn:L=[]→n=0)(hm:M=[]→m=0):n=m∧L=M:=by
 have e:∀k (X:List (List Nat)),(gU k X).map Tb.ws=X:=fun k X=>by
  unfold gU;rw[List.map_map]
  have:(Tb.ws∘fun ws=>(⟨k,ws⟩:Tb))=id:=rfl
  rw[this,List.map_id]
 have hL:L=M:=by rw[←e n L,h,e]
 subst hL
 refine⟨?_,rfl⟩
 cases L with
 |nil=>rw[hn rfl,hm rfl]
 |cons x r=>
  simp only[gU,List.map_cons,List.cons.injEq,Tb.mk.injEq,and_true]at h
  omega
theorem tx{n:Nat}{L:List (List Nat)}{B H:Hp}{r:Value}(hn:L=[]→n=0)(hO:cL (gU n L))(gH:n≤12)(h:uA (gU n L) B r H):
  ∃(s:Value) (C N:Hp),r=.tuple #[.int .i64 ((af.B n (af.lvl n L) 0:Nat):Int),s,.int .i64 0]∧cQ 3 .i64 s (iw (af.ord n (af.lvl n L) n 0)) C∧H=C++(N++B):=by
 rcases h with⟨h,_⟩|⟨_,m,M,e,hm,_,_,h⟩
 ·exact absurd hO h
 ·obtain⟨rfl,rfl⟩:=oF e hn hm
  rcases h with⟨h,_⟩|⟨_,h⟩
  ·omega
  ·exact h
theorem o6{n A:Nat}{L:List (List Nat)}{r:Value}(hn:L=[]→n=0)(hO:cL (gU n L))(gH:n≤12)(hA:A<2^n)(h:je (gU n L) A r):
  r=.tuple #[.int .i64 ((af.W n (af.lvl n L) A+af.B n (af.lvl n L) A:Nat):Int),.int .i64 0]:=by
 rcases h with⟨h,_⟩|⟨_,m,M,e,hm,_,_,h⟩
 ·exact absurd hO h
 ·obtain⟨rfl,rfl⟩:=oF e hn hm
  rcases h with⟨h,_⟩|⟨_,h,_⟩|⟨_,_,h⟩
  ·omega
  ·omega
  ·exact h
theorem rZ(B:Hp):Px Tryz.prog 24 #[] B (fun r _=>r=.bool true):=by
 intro g
 refine ql (R:=cx _) ?_
 unfold L24
 have fi:cL (gU 3 [[216]]):=by decide+kernel
 refine ai.px .here (kO B) ?_
 rintro v N ⟨s,rfl,hw⟩
 refine eY fun b2=>?_
 have ht:bN ((b2,.cells #[.int .i64 3,s] 57 (0,0))::(N++B)) (.slice (some ⟨b2,0,none⟩) 1 1) (gU 3 [[216]]):=bN.one (cap:=0) (t:=⟨3,[216]⟩) (.head _) (hw.mono zS)
 refine ai.px .here (oT ht (by simp[gU])) ?_
 rintro r N2 hb
 obtain⟨so,C,N3,rfl,ho,hH⟩:=tx (by simp) fi (by omega) hb
 rw[FC]at ho
 rw[FD]
 refine Ext.mk rfl (Ext.mk rfl (Ext.mk rfl ?_))
 rw[hH]
 clear hb hH N2
 refine ai.px .here (kO _) ?_
 rintro v N4 ⟨s2,rfl,uM⟩
 refine eY fun b5=>?_
 refine ai.px .here (gW (A:=4) (ts:=gU 3 [[216]]) (bN.one (cap:=0) (t:=⟨3,[216]⟩) (.head _) (uM.mono zS)) (by simp[gU]) (by omega)) ?_
 rintro r N5 hq
 rw[o6 (by simp) fi (by omega) (by omega) hq,FB]
 refine Ext.mk rfl (Ext.mk rfl ?_)
 intro J hJ
 refine aa.fy (a:=3) (b:=3) (Split.go (by decide) ?_)
 refine aG.wS (e:=3) (by kernel_rfl) (by kernel_rfl) (by kernel_rfl) fun b6=>?_
 refine ai.rd .here (pE (a:=iw [0,1,2]) (b:=[0,1,2]) (ho.ints.mono fun _ h=>.tail _ (List.mem_append_right _ (.tail _ (List.mem_append_right _ (List.mem_append_left _ h))))) (da.block (l:=[0,1,2]) (.head _) (by simp)) (by simp)) ?_
 rintro v rfl
 refine aA.mk (Split.go rfl ?_)
 refine aa.fy (a:=0) (b:=0) (aA.mk (Split.go rfl ?_))
 refine aa.fy (a:=4) (b:=4) (aA.mk (Split.go rfl ?_))
 refine aa.fy (a:=0) (b:=0) (aA.mk (JE.mk (hJ _ _ fun gs=>?_)))
 exact iy.mk (by repeat (first|exact ay.refl _|apply ay.cons|apply ay.app)) rfl
end Go.Proofs
